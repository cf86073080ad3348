/- Printed by wip/tools/gen.py: the condition of each function, and that a call meets it. -/
import Derived.Test.YtoonjlhfgjnnmaaGreatVcFun
import Derived.Test.YtoonjlhfgjnnmaaGreatProg
import Derived.Test.YtoonjlhfgjnnmaaGreatNiceA
set_option maxRecDepth 100000
set_option linter.unusedVariables false
namespace Go.Proofs.YtoonjlhfgjnnmaaGreat
open Go.Vc

/-- (*palimpsest/model.World).Create -/
def n27 (w0 name1 size2 bits3 backing4 : Value) (R : Value → Heap → Prop) (h : Heap) : Prop :=
 CallsH Tryz.prog 45 #[w0] h (fun t13 h_1 => 
 CondP t13 (
 R (.int .i64 1) h_1) (
 Hp Tryz.prog false (Instr.buildSlice 105 1 #[(0, name1)]) (fun t16 h_2 => 
 CallsH Tryz.prog 30 #[t16] h_2 (fun t17 h_3 => 
 Hp Tryz.prog false (Op.unary .not t17) (fun t18 h_4 => 
 Join1 (fun k h_5 => guardP t18 false (k size2 h_5) (k undef h_5) ⟨⟩ ⟨⟩) (fun t20 h_6 => 
 Join1 (fun k_1 h_7 => guardP t18 false (CallsH Tryz.prog 53 #[t20] h_7 k_1 ⟨⟩) (k_1 undef h_7) ⟨⟩ ⟨⟩) (fun t21 h_8 => 
 Join1 (fun k_2 h_9 => guardP t18 false (Hp Tryz.prog false (Op.unary .not t21) k_2 h_9 ⟨⟩) (k_2 undef h_9) ⟨⟩ ⟨⟩) (fun t22 h_10 => 
 Hp Tryz.prog false (pickS t18 (.bool true) t22) (fun t23 h_11 => 
 Join1 (fun k_3 h_12 => guardP t23 false (k_3 bits3 h_12) (k_3 undef h_12) ⟨⟩ ⟨⟩) (fun t25 h_13 => 
 Join1 (fun k_4 h_14 => guardP t23 false (CallsH Tryz.prog 40 #[t25] h_14 k_4 ⟨⟩) (k_4 undef h_14) ⟨⟩ ⟨⟩) (fun t26 h_15 => 
 Join1 (fun k_5 h_16 => guardP t23 false (Hp Tryz.prog false (Op.unary .not t26) k_5 h_16 ⟨⟩) (k_5 undef h_16) ⟨⟩ ⟨⟩) (fun t27 h_17 => 
 Hp Tryz.prog false (pickS t23 (.bool true) t27) (fun t28 h_18 => 
 Join1 (fun k_6 h_19 => guardP t28 false (k_6 backing4 h_19) (k_6 undef h_19) ⟨⟩ ⟨⟩) (fun t30 h_20 => 
 Join1 (fun k_7 h_21 => guardP t28 false (Hp Tryz.prog false (binS .neq 9 (.tmp 30) (.const (str [])) t30 (str [])) k_7 h_21 ⟨⟩) (k_7 undef h_21) ⟨⟩ ⟨⟩) (fun t31 h_22 => 
 Join1 (fun k_8 h_23 => guardP t28 false (k_8 t31 h_23) (k_8 undef h_23) ⟨⟩ ⟨⟩) (fun t32 h_24 => 
 Join1 (fun k_9 h_25 => guardP t32 true (k_9 backing4 h_25) (k_9 undef h_25) ⟨⟩ ⟨⟩) (fun t33 h_26 => 
 Join1 (fun k_10 h_27 => guardP t32 true (Hp Tryz.prog false (Instr.buildSlice 105 1 #[(0, t33)]) k_10 h_27 ⟨⟩) (k_10 undef h_27) ⟨⟩ ⟨⟩) (fun t34 h_28 => 
 Join1 (fun k_11 h_29 => guardP t32 true (CallsH Tryz.prog 30 #[t34] h_29 k_11 ⟨⟩) (k_11 undef h_29) ⟨⟩ ⟨⟩) (fun t35 h_30 => 
 Join1 (fun k_12 h_31 => guardP t32 true (Hp Tryz.prog false (Op.unary .not t35) k_12 h_31 ⟨⟩) (k_12 undef h_31) ⟨⟩ ⟨⟩) (fun t36 h_32 => 
 Join1 (fun k_13 h_33 => guardP t28 false (Hp Tryz.prog false (pickS t32 t36 (.bool false)) k_13 h_33 ⟨⟩) (k_13 undef h_33) ⟨⟩ ⟨⟩) (fun t37 h_34 => 
 Hp Tryz.prog false (pickS t28 (.bool true) t37) (fun t38 h_35 => 
 CondP t38 (
 R (.int .i64 2) h_35) (
 Hp Tryz.prog false (binS .neq 9 (.tmp 40) (.const (str [])) backing4 (str [])) (fun t41 h_36 => 
 Join1 (fun k_14 h_37 => guardP t41 true (k_14 w0 h_37) (k_14 undef h_37) ⟨⟩ ⟨⟩) (fun t43 h_38 => 
 Join1 (fun k_15 h_39 => guardP t41 true (Hp Tryz.prog false (nilS t43) k_15 h_39 ⟨⟩) (k_15 undef h_39) ⟨⟩ ⟨⟩) (fun t44 h_40 => 
 Join1 (fun k_16 h_41 => guardP t41 true (Hp Tryz.prog false (Instr.fieldAt 87 t44 0) k_16 h_41 ⟨⟩) (k_16 undef h_41) ⟨⟩ ⟨⟩) (fun t45 h_42 => 
 Join1 (fun k_17 h_43 => guardP t41 true (Hp Tryz.prog false (Instr.loadAt 85 t45) k_17 h_43 ⟨⟩) (k_17 undef h_43) ⟨⟩ ⟨⟩) (fun t46 h_44 => 
 Join1 (fun k_18 h_45 => guardP t41 true (k_18 backing4 h_45) (k_18 undef h_45) ⟨⟩ ⟨⟩) (fun t47 h_46 => 
 Join1 (fun k_19 h_47 => guardP t41 true (Hp Tryz.prog false (Instr.lookup 85 t46 t47 false) k_19 h_47 ⟨⟩) (k_19 undef h_47) ⟨⟩ ⟨⟩) (fun t48 h_48 => 
 Join1 (fun k_20 h_49 => guardP t41 true (Hp Tryz.prog false (binS .eql 62 (.tmp 48) (.const (.pointer none)) t48 (.pointer none)) k_20 h_49 ⟨⟩) (k_20 undef h_49) ⟨⟩ ⟨⟩) (fun t49 h_50 => 
 Hp Tryz.prog false (pickS t41 t49 (.bool false)) (fun t50 h_51 => 
 CondP t50 (
 R (.int .i64 7) h_51) (
 Hp Tryz.prog false (nilS w0) (fun t53 h_52 => 
 Hp Tryz.prog false (Instr.fieldAt 87 t53 0) (fun t54 h_53 => 
 Hp Tryz.prog false (Instr.loadAt 85 t54) (fun t55 h_54 => 
 Hp Tryz.prog false (Instr.lookup 85 t55 name1 false) (fun t57 h_55 => 
 Hp Tryz.prog false (binS .neq 62 (.tmp 57) (.const (.pointer none)) t57 (.pointer none)) (fun t58 h_56 => 
 CondP t58 (
 R (.int .i64 8) h_56) (
 CallsH Tryz.prog 52 #[w0, backing4, (.int .i64 1)] h_56 (fun t62 h_57 => 
 CondP t62 (
 R (.int .i64 350) h_57) (
 Hp Tryz.prog false (nilS w0) (fun t64 h_58 => 
 Hp Tryz.prog false (Instr.fieldAt 87 t64 0) (fun t65 h_59 => 
 Hp Tryz.prog false (Instr.loadAt 85 t65) (fun t66 h_60 => 
 Hp Tryz.prog false (Instr.makeMap 68 none) (fun t72 h_61 => 
 Hp Tryz.prog false (Instr.build 72 #[(0, name1), (1, backing4), (2, size2), (3, bits3), (4, t72)]) (fun t73 h_62 => 
 Hp Tryz.prog false (Instr.box 72 t73) (fun t74 h_63 => 
 Hp Tryz.prog false (unitS (Instr.mapUpdate 85 t66 name1 t74)) (fun _ h_64 => 
 R (.int .i64 0) h_64) h_63 ⟨⟩) h_62 ⟨⟩) h_61 ⟨⟩) h_60 ⟨⟩) h_59 ⟨⟩) h_58 ⟨⟩) h_57 ⟨⟩) ⟨⟩ ⟨⟩) ⟨⟩) ⟨⟩ ⟨⟩) h_55 ⟨⟩) h_54 ⟨⟩) h_53 ⟨⟩) h_52 ⟨⟩) h_51 ⟨⟩) ⟨⟩ ⟨⟩) h_50 ⟨⟩) h_48 ⟨⟩ ⟨⟩) h_46 ⟨⟩ ⟨⟩) h_44 ⟨⟩ ⟨⟩) h_42 ⟨⟩ ⟨⟩) h_40 ⟨⟩ ⟨⟩) h_38 ⟨⟩ ⟨⟩) h_36 ⟨⟩ ⟨⟩) h_35 ⟨⟩) ⟨⟩ ⟨⟩) h_34 ⟨⟩) h_32 ⟨⟩ ⟨⟩) h_30 ⟨⟩ ⟨⟩) h_28 ⟨⟩ ⟨⟩) h_26 ⟨⟩ ⟨⟩) h_24 ⟨⟩ ⟨⟩) h_22 ⟨⟩ ⟨⟩) h_20 ⟨⟩ ⟨⟩) h_18 ⟨⟩ ⟨⟩) h_17 ⟨⟩) h_15 ⟨⟩ ⟨⟩) h_13 ⟨⟩ ⟨⟩) h_11 ⟨⟩ ⟨⟩) h_10 ⟨⟩) h_8 ⟨⟩ ⟨⟩) h_6 ⟨⟩ ⟨⟩) h_4 ⟨⟩ ⟨⟩) h_3 ⟨⟩) ⟨⟩) h_1 ⟨⟩) ⟨⟩ ⟨⟩) ⟨⟩

theorem n27_calls {w0 name1 size2 bits3 backing4 : Value} {R : Value → Heap → Prop} {h : Heap} (H : n27 w0 name1 size2 bits3 backing4 R h) : CallsH Tryz.prog 27 #[w0, name1, size2, bits3, backing4] h R ⟨⟩ :=
 callsH_of_eq Tryz.follow .l Tryz.func27 (by kernel_rfl) (by kernel_rfl) (by kernel_rfl) H

/-- (*palimpsest/model.World).Read -/
def n28 (w0 name1 at2 n3 : Value) (R : Value → Heap → Prop) (h : Heap) : Prop :=
 Hp Tryz.prog false (binS .geq 3 (.tmp 14) (.const (.int .i64 0)) n3 (.int .i64 0)) (fun t15 h_1 => 
 CallsH Tryz.prog 29 #[w0, t15, name1] h_1 (fun t17 h_2 => 
 Hp Tryz.prog false (Instr.extract t17 0) (fun t18 h_3 => 
 Hp Tryz.prog false (Instr.extract t17 1) (fun t19 h_4 => 
 Hp Tryz.prog false (binS .neq 27 (.tmp 21) (.const (.int .i64 0)) t19 (.int .i64 0)) (fun t22 h_5 => 
 CondP t22 (
 R (.tuple #[(.slice none 0 0), t19]) h_5) (
 CallsH Tryz.prog 59 #[t18, at2, n3] h_5 (fun t28 h_6 => 
 Hp Tryz.prog false (Op.unary .not t28) (fun t29 h_7 => 
 CondP t29 (
 R (.tuple #[(.slice none 0 0), (.int .i64 4)]) h_7) (
 CallsH Tryz.prog 42 #[w0, t18, at2, n3] h_7 (fun t34 h_8 => 
 R (.tuple #[t34, (.int .i64 0)]) h_8) ⟨⟩) ⟨⟩ ⟨⟩) h_6 ⟨⟩) ⟨⟩) ⟨⟩ ⟨⟩) h_4 ⟨⟩) h_3 ⟨⟩) h_2 ⟨⟩) ⟨⟩) h ⟨⟩

theorem n28_calls {w0 name1 at2 n3 : Value} {R : Value → Heap → Prop} {h : Heap} (H : n28 w0 name1 at2 n3 R h) : CallsH Tryz.prog 28 #[w0, name1, at2, n3] h R ⟨⟩ :=
 callsH_of_eq Tryz.follow .l Tryz.func28 (by kernel_rfl) (by kernel_rfl) (by kernel_rfl) H

/-- (*palimpsest/model.World).which -/
def n29 (w0 ok1 name2 : Value) (R : Value → Heap → Prop) (h : Heap) : Prop :=
 CallsH Tryz.prog 45 #[w0] h (fun t11 h_1 => 
 CondP t11 (
 R (.tuple #[(.pointer none), (.int .i64 1)]) h_1) (
 Hp Tryz.prog false (Op.unary .not ok1) (fun t14 h_2 => 
 Join1 (fun k h_3 => guardP t14 false (k name2 h_3) (k undef h_3) ⟨⟩ ⟨⟩) (fun t16 h_4 => 
 Join1 (fun k_1 h_5 => guardP t14 false (Hp Tryz.prog false (Instr.buildSlice 105 1 #[(0, t16)]) k_1 h_5 ⟨⟩) (k_1 undef h_5) ⟨⟩ ⟨⟩) (fun t17 h_6 => 
 Join1 (fun k_2 h_7 => guardP t14 false (CallsH Tryz.prog 30 #[t17] h_7 k_2 ⟨⟩) (k_2 undef h_7) ⟨⟩ ⟨⟩) (fun t18 h_8 => 
 Join1 (fun k_3 h_9 => guardP t14 false (Hp Tryz.prog false (Op.unary .not t18) k_3 h_9 ⟨⟩) (k_3 undef h_9) ⟨⟩ ⟨⟩) (fun t19 h_10 => 
 Hp Tryz.prog false (pickS t14 (.bool true) t19) (fun t20 h_11 => 
 CondP t20 (
 R (.tuple #[(.pointer none), (.int .i64 2)]) h_11) (
 Hp Tryz.prog false (nilS w0) (fun t22 h_12 => 
 Hp Tryz.prog false (Instr.fieldAt 87 t22 0) (fun t23 h_13 => 
 Hp Tryz.prog false (Instr.loadAt 85 t23) (fun t24 h_14 => 
 Hp Tryz.prog false (Instr.lookup 85 t24 name2 false) (fun t26 h_15 => 
 Hp Tryz.prog false (binS .eql 62 (.tmp 27) (.const (.pointer none)) t26 (.pointer none)) (fun t28 h_16 => 
 CondP t28 (
 R (.tuple #[(.pointer none), (.int .i64 7)]) h_16) (
 R (.tuple #[t26, (.int .i64 0)]) h_16) ⟨⟩ ⟨⟩) h_15 ⟨⟩) h_14 ⟨⟩) h_13 ⟨⟩) h_12 ⟨⟩) h_11 ⟨⟩) ⟨⟩ ⟨⟩) h_10 ⟨⟩) h_8 ⟨⟩ ⟨⟩) h_6 ⟨⟩ ⟨⟩) h_4 ⟨⟩ ⟨⟩) h_2 ⟨⟩ ⟨⟩) h_1 ⟨⟩) ⟨⟩ ⟨⟩) ⟨⟩

theorem n29_calls {w0 ok1 name2 : Value} {R : Value → Heap → Prop} {h : Heap} (H : n29 w0 ok1 name2 R h) : CallsH Tryz.prog 29 #[w0, ok1, name2] h R ⟨⟩ :=
 callsH_of_eq Tryz.follow .l Tryz.func29 (by kernel_rfl) (by kernel_rfl) (by kernel_rfl) H

/-- palimpsest/model.named -/
def n30 (l0 : Value) (R : Value → Heap → Prop) (h : Heap) : Prop :=
 Hp Tryz.prog false (Builtin.len_ #[105] 3 #[l0]) (fun t7 h_1 => 
 LoopC 1 (fun (X : Value → Heap → Prop) => fun t8 h_2 =>
 Hp Tryz.prog false (binS .lss 3 (.tmp 8) (.tmp 7) t8 t7) (fun t9 h_3 => 
 CondP t9 (
 Hp Tryz.prog false (Instr.indexAt 105 l0 t8) (fun t10 h_4 => 
 Hp Tryz.prog false (Instr.loadAt 9 t10) (fun t11 h_5 => 
 CallsH Tryz.prog 60 #[t11, (.func (.func 61) #[] #[])] h_5 (fun t13 h_6 => 
 Hp Tryz.prog false (binS .neq 9 (.tmp 14) (.const (str [])) t11 (str [])) (fun t15 h_7 => 
 Join1 (fun k h_8 => guardP t15 true (k t11 h_8) (k undef h_8) ⟨⟩ ⟨⟩) (fun t17 h_9 => 
 Join1 (fun k_1 h_10 => guardP t15 true (Hp Tryz.prog false (Builtin.len_ #[9] 3 #[t17]) k_1 h_10 ⟨⟩) (k_1 undef h_10) ⟨⟩ ⟨⟩) (fun t18 h_11 => 
 Join1 (fun k_2 h_12 => guardP t15 true (Hp Tryz.prog false (binS .leq 3 (.tmp 18) (.const (.int .i64 64)) t18 (.int .i64 64)) k_2 h_12 ⟨⟩) (k_2 undef h_12) ⟨⟩ ⟨⟩) (fun t19 h_13 => 
 Hp Tryz.prog false (pickS t15 t19 (.bool false)) (fun t20 h_14 => 
 Join1 (fun k_3 h_15 => guardP t20 true (k_3 t13 h_15) (k_3 undef h_15) ⟨⟩ ⟨⟩) (fun t22 h_16 => 
 Join1 (fun k_4 h_17 => guardP t20 true (Hp Tryz.prog false (Op.unary .not t22) k_4 h_17 ⟨⟩) (k_4 undef h_17) ⟨⟩ ⟨⟩) (fun t23 h_18 => 
 Hp Tryz.prog false (pickS t20 t23 (.bool false)) (fun t24 h_19 => 
 CondP t24 (
 Hp Tryz.prog false (binS .add 3 (.tmp 8) (.const (.int .i64 1)) t8 (.int .i64 1)) (fun t25 h_20 => 
 X t25 h_20) h_19 ⟨⟩) (
 R (.bool false) h_19) ⟨⟩ ⟨⟩) h_18 ⟨⟩) h_16 ⟨⟩ ⟨⟩) h_14 ⟨⟩ ⟨⟩) h_13 ⟨⟩) h_11 ⟨⟩ ⟨⟩) h_9 ⟨⟩ ⟨⟩) h_7 ⟨⟩ ⟨⟩) h_6 ⟨⟩) ⟨⟩) h_4 ⟨⟩) h_3 ⟨⟩) (
 R (.bool true) h_3) ⟨⟩ ⟨⟩) h_2 ⟨⟩) [(.int .i64 0)] h_1 ⟨⟩) h ⟨⟩

theorem n30_calls {l0 : Value} {R : Value → Heap → Prop} {h : Heap} (H : n30 l0 R h) : CallsH Tryz.prog 30 #[l0] h R ⟨⟩ :=
 callsH_of_eq Tryz.follow (.n none .l (.n none (.n none .l (.n none (.n none .l (.n none (.n (some [9]) .l .l) .l)) .l)) .l)) Tryz.func30 (by kernel_rfl) (by kernel_rfl) (by kernel_rfl) H

/-- (*palimpsest/model.image).bitmap -/
def n31 (x0 name1 : Value) (R : Value → Heap → Prop) (h : Heap) : Prop :=
 Hp Tryz.prog false (Instr.box 9 name1) (fun name3 h_1 => 
 Hp Tryz.prog false (nilS x0) (fun t6 h_2 => 
 Hp Tryz.prog false (Instr.fieldAt 72 t6 6) (fun t7 h_3 => 
 Hp Tryz.prog false (Instr.loadAt 70 t7) (fun t8 h_4 => 
 Hp Tryz.prog false (pure (.func (.func 63) #[] #[name3])) (fun t9 h_5 => 
 CallsH Tryz.prog 62 #[t8, t9] h_5 (fun t10 h_6 => 
 R t10 h_6) ⟨⟩) h_4 ⟨⟩) h_3 ⟨⟩) h_2 ⟨⟩) h_1 ⟨⟩) h ⟨⟩

theorem n31_calls {x0 name1 : Value} {R : Value → Heap → Prop} {h : Heap} (H : n31 x0 name1 R h) : CallsH Tryz.prog 31 #[x0, name1] h R ⟨⟩ :=
 callsH_of_eq Tryz.follow .l Tryz.func31 (by kernel_rfl) (by kernel_rfl) (by kernel_rfl) H

/-- (*palimpsest/model.image).snap -/
def n32 (x0 name1 : Value) (R : Value → Heap → Prop) (h : Heap) : Prop :=
 Hp Tryz.prog false (Instr.box 9 name1) (fun name3 h_1 => 
 Hp Tryz.prog false (nilS x0) (fun t6 h_2 => 
 Hp Tryz.prog false (Instr.fieldAt 72 t6 5) (fun t7 h_3 => 
 Hp Tryz.prog false (Instr.loadAt 69 t7) (fun t8 h_4 => 
 Hp Tryz.prog false (pure (.func (.func 65) #[] #[name3])) (fun t9 h_5 => 
 CallsH Tryz.prog 64 #[t8, t9] h_5 (fun t10 h_6 => 
 R t10 h_6) ⟨⟩) h_4 ⟨⟩) h_3 ⟨⟩) h_2 ⟨⟩) h_1 ⟨⟩) h ⟨⟩

theorem n32_calls {x0 name1 : Value} {R : Value → Heap → Prop} {h : Heap} (H : n32 x0 name1 R h) : CallsH Tryz.prog 32 #[x0, name1] h R ⟨⟩ :=
 callsH_of_eq Tryz.follow .l Tryz.func32 (by kernel_rfl) (by kernel_rfl) (by kernel_rfl) H

/-- maps.Clone[palimpsest/model.clusters,int64,[]byte] -/
def n33 (m0 : Value) (R : Value → Heap → Prop) (h : Heap) : Prop :=
 Hp Tryz.prog false (binS .eql 68 (.tmp 3) (.const (.map none)) m0 (.map none)) (fun t4 h_1 => 
 CondP t4 (
 R (.map none) h_1) (
 Hp Tryz.prog false (Instr.makeInterface 68 m0) (fun t6 h_2 => 
 ExtH Tryz.prog 66 #[t6] h_2 (fun t7 h_3 => 
 Hp Tryz.prog false (Instr.typeAssert t7 20 68 false) (fun t8 h_4 => 
 R t8 h_4) h_3 ⟨⟩) ⟨⟩) h_1 ⟨⟩) ⟨⟩ ⟨⟩) h ⟨⟩

theorem n33_calls {m0 : Value} {R : Value → Heap → Prop} {h : Heap} (H : n33 m0 R h) : CallsH Tryz.prog 33 #[m0] h R ⟨⟩ :=
 callsH_of_eq Tryz.follow .l Tryz.func33 (by kernel_rfl) (by kernel_rfl) (by kernel_rfl) H

/-- (*palimpsest/model.World).free -/
def n34 (w0 ok1 name2 at3 n4 : Value) (R : Value → Heap → Prop) (h : Heap) : Prop :=
 CallsH Tryz.prog 29 #[w0, ok1, name2] h (fun t18 h_1 => 
 Hp Tryz.prog false (Instr.extract t18 0) (fun t19 h_2 => 
 Hp Tryz.prog false (Instr.extract t18 1) (fun t20 h_3 => 
 Hp Tryz.prog false (binS .neq 27 (.tmp 22) (.const (.int .i64 0)) t20 (.int .i64 0)) (fun t23 h_4 => 
 CondP t23 (
 R (.tuple #[(.pointer none), t20]) h_4) (
 CallsH Tryz.prog 59 #[t19, at3, n4] h_4 (fun t29 h_5 => 
 Hp Tryz.prog false (Op.unary .not t29) (fun t30 h_6 => 
 CondP t30 (
 R (.tuple #[(.pointer none), (.int .i64 4)]) h_6) (
 CallsH Tryz.prog 37 #[w0, t19] h_6 (fun t34 h_7 => 
 Hp Tryz.prog false (binS .gtr 3 (.tmp 34) (.const (.int .i64 0)) t34 (.int .i64 0)) (fun t35 h_8 => 
 CondP t35 (
 R (.tuple #[(.pointer none), (.int .i64 10)]) h_8) (
 R (.tuple #[t19, (.int .i64 0)]) h_8) ⟨⟩ ⟨⟩) h_7 ⟨⟩) ⟨⟩) ⟨⟩ ⟨⟩) h_5 ⟨⟩) ⟨⟩) ⟨⟩ ⟨⟩) h_3 ⟨⟩) h_2 ⟨⟩) h_1 ⟨⟩) ⟨⟩

theorem n34_calls {w0 ok1 name2 at3 n4 : Value} {R : Value → Heap → Prop} {h : Heap} (H : n34 w0 ok1 name2 at3 n4 R h) : CallsH Tryz.prog 34 #[w0, ok1, name2, at3, n4] h R ⟨⟩ :=
 callsH_of_eq Tryz.follow .l Tryz.func34 (by kernel_rfl) (by kernel_rfl) (by kernel_rfl) H

/-- (*palimpsest/model.World).lay -/
def n35 (w0 x1 at2 b3 : Value) (R : Value → Heap → Prop) (h : Heap) : Prop :=
 Hp Tryz.prog false (binS .mul 2 (.tmp 12) (.const (.int .i64 512)) at2 (.int .i64 512)) (fun t13 h_1 => 
 LoopC 2 (fun (X : Value → Value → Heap → Prop) => fun b3_1 place8 h_2 =>
 Hp Tryz.prog false (Builtin.len_ #[32] 3 #[b3_1]) (fun t15 h_3 => 
 Hp Tryz.prog false (binS .gtr 3 (.tmp 15) (.const (.int .i64 0)) t15 (.int .i64 0)) (fun t16 h_4 => 
 CondP t16 (
 Hp Tryz.prog false (nilS x1) (fun t19 h_5 => 
 Hp Tryz.prog false (Instr.fieldAt 72 t19 3) (fun t20 h_6 => 
 Hp Tryz.prog false (Instr.loadAt 3 t20) (fun t21 h_7 => 
 Hp Tryz.prog false (binS .shr 2 (.tmp 17) (.tmp 21) place8 t21) (fun t22 h_8 => 
 CallsH Tryz.prog 68 #[w0, x1, t22] h_8 (fun t26 h_9 => 
 CallsH Tryz.prog 67 #[t26] h_9 (fun t27 h_10 => 
 Hp Tryz.prog false (nilS x1) (fun t32 h_11 => 
 Hp Tryz.prog false (Instr.fieldAt 72 t32 3) (fun t33 h_12 => 
 Hp Tryz.prog false (Instr.loadAt 3 t33) (fun t34 h_13 => 
 Hp Tryz.prog false (binS .shl 2 (.tmp 30) (.tmp 34) t22 t34) (fun t35 h_14 => 
 Hp Tryz.prog false (binS .sub 2 (.tmp 29) (.tmp 35) place8 t35) (fun t36 h_15 => 
 Hp Tryz.prog false (Instr.sliceAt 32 t27 (some t36) none none) (fun t37 h_16 => 
 Hp Tryz.prog false (Builtin.copy_ #[32, 32] 3 #[t37, b3_1]) (fun t39 h_17 => 
 Hp Tryz.prog false (nilS x1) (fun t41 h_18 => 
 Hp Tryz.prog false (Instr.fieldAt 72 t41 4) (fun t42 h_19 => 
 Hp Tryz.prog false (Instr.loadAt 68 t42) (fun t43 h_20 => 
 Hp Tryz.prog false (unitS (Instr.mapUpdate 68 t43 t22 t27)) (fun _ h_21 => 
 Hp Tryz.prog false (Instr.sliceAt 32 b3_1 (some t39) none none) (fun t48 h_22 => 
 Hp Tryz.prog false (binS .add 2 (.tmp 49) (.tmp 50) place8 t39) (fun t51 h_23 => 
 X t48 t51 h_23) h_22 ⟨⟩) h_21 ⟨⟩) h_20 ⟨⟩) h_19 ⟨⟩) h_18 ⟨⟩) h_17 ⟨⟩) h_16 ⟨⟩) h_15 ⟨⟩) h_14 ⟨⟩) h_13 ⟨⟩) h_12 ⟨⟩) h_11 ⟨⟩) h_10 ⟨⟩) ⟨⟩) ⟨⟩) h_7 ⟨⟩) h_6 ⟨⟩) h_5 ⟨⟩) h_4 ⟨⟩) (
 R (.tuple #[]) h_4) ⟨⟩ ⟨⟩) h_3 ⟨⟩) h_2 ⟨⟩) [b3, t13] h_1 ⟨⟩) h ⟨⟩

theorem n35_calls {w0 x1 at2 b3 : Value} {R : Value → Heap → Prop} {h : Heap} (H : n35 w0 x1 at2 b3 R h) : CallsH Tryz.prog 35 #[w0, x1, at2, b3] h R ⟨⟩ :=
 callsH_of_eq Tryz.follow (.n none .l (.n none (.n (some [4, 9]) .l .l) .l)) Tryz.func35 (by kernel_rfl) (by kernel_rfl) (by kernel_rfl) H

/-- (*palimpsest/model.image).touch -/
def n36 (x0 at1 n2 : Value) (R : Value → Heap → Prop) (h : Heap) : Prop :=
 Hp Tryz.prog false (nilS x0) (fun t10 h_1 => 
 Hp Tryz.prog false (Instr.fieldAt 72 t10 6) (fun t11 h_2 => 
 Hp Tryz.prog false (Instr.loadAt 70 t11) (fun t12 h_3 => 
 Hp Tryz.prog false (Builtin.len_ #[70] 3 #[t12]) (fun t13 h_4 => 
 LoopC 1 (fun (X : Value → Heap → Prop) => fun t14 h_5 =>
 Hp Tryz.prog false (binS .lss 3 (.tmp 14) (.tmp 13) t14 t13) (fun t15 h_6 => 
 CondP t15 (
 JoinN 0 (fun (k : Heap → Prop) h_7 =>
 JoinN 0 (fun (k_1 : Heap → Prop) h_8 =>
 Hp Tryz.prog false (Instr.indexAt 70 t12 t14) (fun t16 h_9 => 
 Hp Tryz.prog false (Instr.loadAt 75 t16) (fun t17 h_10 => 
 Hp Tryz.prog false (Instr.alloc 75 true undef) (fun m7 h_11 => 
 Hp Tryz.prog false (storeS 75 m7 t17) (fun _ h_12 => 
 Hp Tryz.prog false (Instr.fieldAt 75 m7 2) (fun t18 h_13 => 
 Hp Tryz.prog false (Instr.loadAt 4 t18) (fun t19 h_14 => 
 Hp Tryz.prog false (Op.unary .not t19) (fun t20 h_15 => 
 Join1 (fun k_2 h_16 => guardP t20 false (k_2 n2 h_16) (k_2 undef h_16) ⟨⟩ ⟨⟩) (fun t22 h_17 => 
 Join1 (fun k_3 h_18 => guardP t20 false (Hp Tryz.prog false (binS .eql 2 (.tmp 22) (.const (.int .i64 0)) t22 (.int .i64 0)) k_3 h_18 ⟨⟩) (k_3 undef h_18) ⟨⟩ ⟨⟩) (fun t23 h_19 => 
 Hp Tryz.prog false (pickS t20 (.bool true) t23) (fun t24 h_20 => 
 CondP t24 (
 k_1 h_20) (
 Hp Tryz.prog false (binS .mul 2 (.tmp 25) (.const (.int .i64 512)) at1 (.int .i64 512)) (fun t26 h_21 => 
 Hp Tryz.prog false (Instr.fieldAt 75 m7 1) (fun t27 h_22 => 
 Hp Tryz.prog false (Instr.loadAt 3 t27) (fun t28 h_23 => 
 Hp Tryz.prog false (binS .shr 2 (.tmp 26) (.tmp 28) t26 t28) (fun t29 h_24 => 
 LoopC 1 (fun (X_1 : Value → Heap → Prop) => fun g8 h_25 =>
 Hp Tryz.prog false (binS .add 2 (.tmp 31) (.tmp 32) at1 n2) (fun t33 h_26 => 
 Hp Tryz.prog false (binS .mul 2 (.tmp 33) (.const (.int .i64 512)) t33 (.int .i64 512)) (fun t34 h_27 => 
 Hp Tryz.prog false (binS .sub 2 (.tmp 34) (.const (.int .i64 1)) t34 (.int .i64 1)) (fun t35 h_28 => 
 Hp Tryz.prog false (Instr.fieldAt 75 m7 1) (fun t36 h_29 => 
 Hp Tryz.prog false (Instr.loadAt 3 t36) (fun t37 h_30 => 
 Hp Tryz.prog false (binS .shr 2 (.tmp 35) (.tmp 37) t35 t37) (fun t38 h_31 => 
 Hp Tryz.prog false (binS .leq 2 (.tmp 30) (.tmp 38) g8 t38) (fun t39 h_32 => 
 CondP t39 (
 Hp Tryz.prog false (Instr.fieldAt 75 m7 3) (fun t42 h_33 => 
 Hp Tryz.prog false (Instr.loadAt 73 t42) (fun t43 h_34 => 
 Hp Tryz.prog false (unitS (Instr.mapUpdate 73 t43 g8 (.bool true))) (fun _ h_35 => 
 Hp Tryz.prog false (binS .add 2 (.tmp 40) (.const (.int .i64 1)) g8 (.int .i64 1)) (fun t41 h_36 => 
 X_1 t41 h_36) h_35 ⟨⟩) h_34 ⟨⟩) h_33 ⟨⟩) h_32 ⟨⟩) (
 k_1 h_32) ⟨⟩ ⟨⟩) h_31 ⟨⟩) h_30 ⟨⟩) h_29 ⟨⟩) h_28 ⟨⟩) h_27 ⟨⟩) h_26 ⟨⟩) h_25 ⟨⟩) [t29] h_24 ⟨⟩) h_23 ⟨⟩) h_22 ⟨⟩) h_21 ⟨⟩) h_20 ⟨⟩) ⟨⟩ ⟨⟩) h_19 ⟨⟩) h_17 ⟨⟩ ⟨⟩) h_15 ⟨⟩ ⟨⟩) h_14 ⟨⟩) h_13 ⟨⟩) h_12 ⟨⟩) h_11 ⟨⟩) h_10 ⟨⟩) h_9 ⟨⟩) h_8 ⟨⟩)
 (fun h_37 =>
 k h_37) h_7 ⟨⟩ ⟨⟩)
 (fun h_38 =>
 Hp Tryz.prog false (binS .add 3 (.tmp 14) (.const (.int .i64 1)) t14 (.int .i64 1)) (fun t45 h_39 => 
 X t45 h_39) h_38 ⟨⟩) h_6 ⟨⟩ ⟨⟩) (
 R (.tuple #[]) h_6) ⟨⟩ ⟨⟩) h_5 ⟨⟩) [(.int .i64 0)] h_4 ⟨⟩) h_3 ⟨⟩) h_2 ⟨⟩) h_1 ⟨⟩) h ⟨⟩

theorem n36_calls {x0 at1 n2 : Value} {R : Value → Heap → Prop} {h : Heap} (H : n36 x0 at1 n2 R h) : CallsH Tryz.prog 36 #[x0, at1, n2] h R ⟨⟩ :=
 callsH_of_eq Tryz.follow (.n none .l (.n none (.n (some [15]) (.n none .l (.n none .l (.n (some []) (.n (some []) (.n none .l (.n none .l (.n none .l (.n none (.n (some [9]) .l .l) .l)))) .l) .l))) .l) .l)) Tryz.func36 (by kernel_rfl) (by kernel_rfl) (by kernel_rfl) H

/-- (*palimpsest/model.World).above -/
def n37 (w0 x1 : Value) (R : Value → Heap → Prop) (h : Heap) : Prop :=
 Hp Tryz.prog false (nilS w0) (fun t9 h_1 => 
 Hp Tryz.prog false (Instr.fieldAt 87 t9 0) (fun t10 h_2 => 
 Hp Tryz.prog false (Instr.loadAt 85 t10) (fun t11 h_3 => 
 Hp Tryz.prog false (Instr.range 85 t11) (fun t12 h_4 => 
 LoopC 1 (fun (X : Value → Heap → Prop) => fun n5 h_5 =>
 Hp Tryz.prog false (Instr.next t12 false 0) (fun t13 h_6 => 
 Hp Tryz.prog false (Instr.extract t13 0) (fun t14 h_7 => 
 CondP t14 (
 JoinN 1 (fun (k : Value → Heap → Prop) h_8 =>
 Hp Tryz.prog false (Instr.entry t12) (fun t15 h_9 => 
 Hp Tryz.prog false (Instr.extract t15 1) (fun t16 h_10 => 
 Hp Tryz.prog true (nilS t16) (fun t18 _ => 
 Hp Tryz.prog true (Instr.fieldAt 72 t18 1) (fun t19 _ => 
 Hp Tryz.prog true (Instr.loadAt 9 t19) (fun t20 _ => 
 Hp Tryz.prog true (nilS x1) (fun t22 _ => 
 Hp Tryz.prog true (Instr.fieldAt 72 t22 0) (fun t23 _ => 
 Hp Tryz.prog true (Instr.loadAt 9 t23) (fun t24 _ => 
 Hp Tryz.prog true (binS .eql 9 (.tmp 20) (.tmp 24) t20 t24) (fun t25 _ => 
 CondP t25 (
 Hp Tryz.prog false (binS .add 3 (.tmp 26) (.const (.int .i64 1)) n5 (.int .i64 1)) (fun t27 h_11 => 
 k t27 h_11) h_10 ⟨⟩) (
 k n5 h_10) ⟨⟩ ⟨⟩) #[] ⟨⟩) h_10 ⟨⟩) #[] ⟨⟩) #[] ⟨⟩) h_10 ⟨⟩) #[] ⟨⟩) #[] ⟨⟩) h_9 ⟨⟩) h_8 ⟨⟩)
 (fun n5_1 h_12 =>
 X n5_1 h_12) h_7 ⟨⟩ ⟨⟩) (
 R n5 h_7) ⟨⟩ ⟨⟩) h_6 ⟨⟩) h_5 ⟨⟩) [(.int .i64 0)] h_4 ⟨⟩) h_3 ⟨⟩) h_2 ⟨⟩) h_1 ⟨⟩) h ⟨⟩

theorem n37_calls {w0 x1 : Value} {R : Value → Heap → Prop} {h : Heap} (H : n37 w0 x1 R h) : CallsH Tryz.prog 37 #[w0, x1] h R ⟨⟩ :=
 callsH_of_eq Tryz.follow (.n none .l (.n none .l (.n none (.n none .l (.n none (.n (some [6]) (.n none .l (.n none .l (.n (some [6]) .l .l))) .l) .l)) .l))) Tryz.func37 (by kernel_rfl) (by kernel_rfl) (by kernel_rfl) H

/-- (*palimpsest/model.image).trim -/
def n38 (x0 : Value) (R : Value → Heap → Prop) (h : Heap) : Prop :=
 Hp Tryz.prog false (Instr.box 62 x0) (fun x1 h_1 => 
 Hp Tryz.prog false (Instr.loadAt 62 x1) (fun t4 h_2 => 
 Hp Tryz.prog false (nilS t4) (fun t5 h_3 => 
 Hp Tryz.prog false (Instr.fieldAt 72 t5 6) (fun t6 h_4 => 
 Hp Tryz.prog false (Instr.loadAt 70 t6) (fun t7 h_5 => 
 Hp Tryz.prog false (Builtin.len_ #[70] 3 #[t7]) (fun t8 h_6 => 
 LoopC 1 (fun (X : Value → Heap → Prop) => fun t9 h_7 =>
 Hp Tryz.prog false (binS .lss 3 (.tmp 9) (.tmp 8) t9 t8) (fun t10 h_8 => 
 CondP t10 (
 Hp Tryz.prog false (Instr.indexAt 70 t7 t9) (fun t11 h_9 => 
 Hp Tryz.prog false (Instr.loadAt 75 t11) (fun t12 h_10 => 
 Hp Tryz.prog false (Instr.alloc 75 true undef) (fun m3 h_11 => 
 Hp Tryz.prog false (storeS 75 m3 t12) (fun _ h_12 => 
 Hp Tryz.prog false (Instr.fieldAt 75 m3 3) (fun t13 h_13 => 
 Hp Tryz.prog false (Instr.loadAt 73 t13) (fun t14 h_14 => 
 Hp Tryz.prog false (pure (.func (.func 70) #[] #[m3, x1])) (fun t15 h_15 => 
 CallsH Tryz.prog 69 #[t14, t15] h_15 (fun t16 h_16 => 
 Hp Tryz.prog false (binS .add 3 (.tmp 9) (.const (.int .i64 1)) t9 (.int .i64 1)) (fun t17 h_17 => 
 X t17 h_17) h_16 ⟨⟩) ⟨⟩) h_14 ⟨⟩) h_13 ⟨⟩) h_12 ⟨⟩) h_11 ⟨⟩) h_10 ⟨⟩) h_9 ⟨⟩) h_8 ⟨⟩) (
 R (.tuple #[]) h_8) ⟨⟩ ⟨⟩) h_7 ⟨⟩) [(.int .i64 0)] h_6 ⟨⟩) h_5 ⟨⟩) h_4 ⟨⟩) h_3 ⟨⟩) h_2 ⟨⟩) h_1 ⟨⟩) h ⟨⟩

theorem n38_calls {x0 : Value} {R : Value → Heap → Prop} {h : Heap} (H : n38 x0 R h) : CallsH Tryz.prog 38 #[x0] h R ⟨⟩ :=
 callsH_of_eq Tryz.follow (.n none .l (.n none .l (.n none (.n (some [10]) .l .l) .l))) Tryz.func38 (by kernel_rfl) (by kernel_rfl) (by kernel_rfl) H

/-- (*palimpsest/model.image).info -/
def n39 (x0 : Value) (R : Value → Heap → Prop) (h : Heap) : Prop :=
 Hp Tryz.prog false (Instr.alloc 40 true undef) (fun t2 h_1 => 
 Hp Tryz.prog true (nilS x0) (fun t9 _ => 
 Hp Tryz.prog true (Instr.fieldAt 72 t9 0) (fun t10 _ => 
 Hp Tryz.prog true (Instr.loadAt 9 t10) (fun t11 _ => 
 Hp Tryz.prog true (nilS x0) (fun t13 _ => 
 Hp Tryz.prog true (Instr.fieldAt 72 t13 1) (fun t14 _ => 
 Hp Tryz.prog true (Instr.loadAt 9 t14) (fun t15 _ => 
 Hp Tryz.prog true (nilS x0) (fun t17 _ => 
 Hp Tryz.prog true (Instr.fieldAt 72 t17 2) (fun t18 _ => 
 Hp Tryz.prog true (Instr.loadAt 2 t18) (fun t19 _ => 
 Hp Tryz.prog true (nilS x0) (fun t21 _ => 
 Hp Tryz.prog true (Instr.fieldAt 72 t21 3) (fun t22 _ => 
 Hp Tryz.prog true (Instr.loadAt 3 t22) (fun t23 _ => 
 Hp Tryz.prog true (Instr.build 40 #[(0, t11), (1, t15), (2, t19), (3, t23)]) (fun t24 _ => 
 Hp Tryz.prog false (Instr.alloc 40 true undef) (fun y3 h_2 => Hp Tryz.prog true (Instr.loadAt 3 t22) (fun u _ => u = t23) h_2 ⟨⟩ ∧ Hp Tryz.prog true (Instr.loadAt 2 t18) (fun u _ => u = t19) h_2 ⟨⟩ ∧ Hp Tryz.prog true (Instr.loadAt 9 t14) (fun u _ => u = t15) h_2 ⟨⟩ ∧ Hp Tryz.prog true (Instr.loadAt 9 t10) (fun u _ => u = t11) h_2 ⟨⟩ ∧ 
 Hp Tryz.prog false (storeS 40 y3 t24) (fun _ h_3 => 
 Hp Tryz.prog false (nilS x0) (fun t26 h_4 => 
 Hp Tryz.prog false (Instr.fieldAt 72 t26 5) (fun t27 h_5 => 
 Hp Tryz.prog false (Instr.loadAt 69 t27) (fun t28 h_6 => 
 Hp Tryz.prog false (Builtin.len_ #[69] 3 #[t28]) (fun t29 h_7 => 
 LoopC 1 (fun (X : Value → Heap → Prop) => fun t30 h_8 =>
 Hp Tryz.prog false (binS .lss 3 (.tmp 30) (.tmp 29) t30 t29) (fun t31 h_9 => 
 CondP t31 (
 Hp Tryz.prog false (Instr.indexAt 69 t28 t30) (fun t32 h_10 => 
 Hp Tryz.prog false (Instr.loadAt 78 t32) (fun t33 h_11 => 
 Hp Tryz.prog false (Instr.alloc 78 true undef) (fun s5 h_12 => 
 Hp Tryz.prog false (storeS 78 s5 t33) (fun _ h_13 => 
 Hp Tryz.prog false (Instr.fieldAt 40 y3 4) (fun t34 h_14 => 
 Hp Tryz.prog false (Instr.loadAt 37 t34) (fun t35 h_15 => 
 Hp Tryz.prog false (Instr.fieldAt 78 s5 0) (fun t36 h_16 => 
 Hp Tryz.prog false (Instr.loadAt 9 t36) (fun t37 h_17 => 
 Hp Tryz.prog false (Instr.fieldAt 78 s5 1) (fun t38 h_18 => 
 Hp Tryz.prog false (Instr.loadAt 2 t38) (fun t39 h_19 => 
 Hp Tryz.prog false (Instr.build 110 #[(0, t37), (1, t39)]) (fun t40 h_20 => 
 Hp Tryz.prog false (Instr.buildSlice 37 1 #[(0, t40)]) (fun t41 h_21 => 
 Hp Tryz.prog false (Builtin.append_ #[37, 37] 37 #[t35, t41]) (fun t42 h_22 => 
 Hp Tryz.prog false (Instr.fieldAt 40 y3 4) (fun t43 h_23 => 
 Hp Tryz.prog false (storeS 37 t43 t42) (fun _ h_24 => 
 Hp Tryz.prog false (binS .add 3 (.tmp 30) (.const (.int .i64 1)) t30 (.int .i64 1)) (fun t44 h_25 => 
 X t44 h_25) h_24 ⟨⟩) h_23 ⟨⟩) h_22 ⟨⟩) h_21 ⟨⟩) h_20 ⟨⟩) h_19 ⟨⟩) h_18 ⟨⟩) h_17 ⟨⟩) h_16 ⟨⟩) h_15 ⟨⟩) h_14 ⟨⟩) h_13 ⟨⟩) h_12 ⟨⟩) h_11 ⟨⟩) h_10 ⟨⟩) h_9 ⟨⟩) (
 Hp Tryz.prog false (nilS x0) (fun t46 h_26 => 
 Hp Tryz.prog false (Instr.fieldAt 72 t46 6) (fun t47 h_27 => 
 Hp Tryz.prog false (Instr.loadAt 70 t47) (fun t48 h_28 => 
 Hp Tryz.prog false (Builtin.len_ #[70] 3 #[t48]) (fun t49 h_29 => 
 LoopC 1 (fun (X_1 : Value → Heap → Prop) => fun t50 h_30 =>
 Hp Tryz.prog false (binS .lss 3 (.tmp 50) (.tmp 49) t50 t49) (fun t51 h_31 => 
 CondP t51 (
 Hp Tryz.prog false (Instr.indexAt 70 t48 t50) (fun t52 h_32 => 
 Hp Tryz.prog false (Instr.loadAt 75 t52) (fun t53 h_33 => 
 Hp Tryz.prog false (Instr.alloc 75 true undef) (fun m7 h_34 => 
 Hp Tryz.prog false (storeS 75 m7 t53) (fun _ h_35 => 
 Hp Tryz.prog true (Instr.fieldAt 40 y3 5) (fun t54 _ => 
 Hp Tryz.prog true (Instr.loadAt 38 t54) (fun t55 _ => 
 Hp Tryz.prog true (Instr.fieldAt 75 m7 0) (fun t56 _ => 
 Hp Tryz.prog true (Instr.loadAt 9 t56) (fun t57 _ => 
 Hp Tryz.prog true (Instr.fieldAt 75 m7 1) (fun t58 _ => 
 Hp Tryz.prog true (Instr.loadAt 3 t58) (fun t59 _ => 
 Hp Tryz.prog true (Instr.fieldAt 75 m7 2) (fun t60 _ => 
 Hp Tryz.prog true (Instr.loadAt 4 t60) (fun t61 _ => 
 Hp Tryz.prog true (Instr.fieldAt 75 m7 3) (fun t62 _ => 
 Hp Tryz.prog true (Instr.loadAt 73 t62) (fun t63 _ => 
 CallsH Tryz.prog 71 #[t63] h_35 (fun t64 h_36 => Hp Tryz.prog true (Instr.loadAt 4 t60) (fun u _ => u = t61) h_36 ⟨⟩ ∧ Hp Tryz.prog true (Instr.loadAt 3 t58) (fun u _ => u = t59) h_36 ⟨⟩ ∧ Hp Tryz.prog true (Instr.loadAt 9 t56) (fun u _ => u = t57) h_36 ⟨⟩ ∧ Hp Tryz.prog true (Instr.loadAt 38 t54) (fun u _ => u = t55) h_36 ⟨⟩ ∧ 
 CallsH Tryz.prog 50 #[t64] h_36 (fun t65 h_37 => Hp Tryz.prog true (Instr.loadAt 4 t60) (fun u _ => u = t61) h_37 ⟨⟩ ∧ Hp Tryz.prog true (Instr.loadAt 3 t58) (fun u _ => u = t59) h_37 ⟨⟩ ∧ Hp Tryz.prog true (Instr.loadAt 9 t56) (fun u _ => u = t57) h_37 ⟨⟩ ∧ Hp Tryz.prog true (Instr.loadAt 38 t54) (fun u _ => u = t55) h_37 ⟨⟩ ∧ 
 Hp Tryz.prog true (Instr.build 46 #[(0, t57), (1, t59), (2, t61), (3, t65)]) (fun t66 _ => 
 Hp Tryz.prog false (Instr.buildSlice 38 1 #[(0, t66)]) (fun t67 h_38 => Hp Tryz.prog true (Instr.loadAt 38 t54) (fun u _ => u = t55) h_38 ⟨⟩ ∧ 
 Hp Tryz.prog false (Builtin.append_ #[38, 38] 38 #[t55, t67]) (fun t68 h_39 => 
 Hp Tryz.prog true (Instr.fieldAt 40 y3 5) (fun t69 _ => 
 Hp Tryz.prog false (storeS 38 t69 t68) (fun _ h_40 => 
 Hp Tryz.prog false (binS .add 3 (.tmp 50) (.const (.int .i64 1)) t50 (.int .i64 1)) (fun t70 h_41 => 
 X_1 t70 h_41) h_40 ⟨⟩) h_39 ⟨⟩) #[] ⟨⟩) h_38 ⟨⟩) h_37 ⟨⟩) #[] ⟨⟩) ⟨⟩) ⟨⟩) h_35 ⟨⟩) #[] ⟨⟩) h_35 ⟨⟩) #[] ⟨⟩) h_35 ⟨⟩) #[] ⟨⟩) h_35 ⟨⟩) #[] ⟨⟩) h_35 ⟨⟩) #[] ⟨⟩) h_34 ⟨⟩) h_33 ⟨⟩) h_32 ⟨⟩) h_31 ⟨⟩) (
 Hp Tryz.prog false (Instr.loadAt 40 y3) (fun t71 h_42 => 
 Hp Tryz.prog false (storeS 40 t2 t71) (fun _ h_43 => 
 Hp Tryz.prog true (loadCell 40 t2) (fun r _ =>
 R r h_43) h_43 ⟨⟩) h_42 ⟨⟩) h_31 ⟨⟩) ⟨⟩ ⟨⟩) h_30 ⟨⟩) [(.int .i64 0)] h_29 ⟨⟩) h_28 ⟨⟩) h_27 ⟨⟩) h_26 ⟨⟩) h_9 ⟨⟩) ⟨⟩ ⟨⟩) h_8 ⟨⟩) [(.int .i64 0)] h_7 ⟨⟩) h_6 ⟨⟩) h_5 ⟨⟩) h_4 ⟨⟩) h_3 ⟨⟩) h_2 ⟨⟩) h_1 ⟨⟩) #[] ⟨⟩) h_1 ⟨⟩) #[] ⟨⟩) #[] ⟨⟩) h_1 ⟨⟩) #[] ⟨⟩) #[] ⟨⟩) h_1 ⟨⟩) #[] ⟨⟩) #[] ⟨⟩) h_1 ⟨⟩) #[] ⟨⟩) #[] ⟨⟩) h ⟨⟩

theorem n39_calls {x0 : Value} {R : Value → Heap → Prop} {h : Heap} (H : n39 x0 R h) : CallsH Tryz.prog 39 #[x0] h R ⟨⟩ :=
 callsH_of_eq Tryz.follow (.n none .l (.n none .l (.n none (.n none .l (.n none (.n (some [31]) .l .l) .l)) (.n none (.n none .l (.n none (.n (some [51]) .l .l) .l)) .l)))) Tryz.func39 (by kernel_rfl) (by kernel_rfl) (by kernel_rfl) H

/-- palimpsest/model.wide -/
def n40 (bits0 : Value) (R : Value → Heap → Prop) (h : Heap) : Prop :=
 Hp Tryz.prog false (binS .geq 3 (.tmp 3) (.const (.int .i64 9)) bits0 (.int .i64 9)) (fun t4 h_1 => 
 Join1 (fun k h_2 => guardP t4 true (k bits0 h_2) (k undef h_2) ⟨⟩ ⟨⟩) (fun t6 h_3 => 
 Join1 (fun k_1 h_4 => guardP t4 true (Hp Tryz.prog false (binS .leq 3 (.tmp 6) (.const (.int .i64 16)) t6 (.int .i64 16)) k_1 h_4 ⟨⟩) (k_1 undef h_4) ⟨⟩ ⟨⟩) (fun t7 h_5 => 
 Hp Tryz.prog false (pickS t4 t7 (.bool false)) (fun t8 h_6 => 
 R t8 h_6) h_5 ⟨⟩) h_3 ⟨⟩ ⟨⟩) h_1 ⟨⟩ ⟨⟩) h ⟨⟩

theorem n40_calls {bits0 : Value} {R : Value → Heap → Prop} {h : Heap} (H : n40 bits0 R h) : CallsH Tryz.prog 40 #[bits0] h R ⟨⟩ :=
 callsH_of_eq Tryz.follow .l Tryz.func40 (by kernel_rfl) (by kernel_rfl) (by kernel_rfl) H

/-- (*palimpsest/model.image).clusters -/
def n41 (x0 : Value) (R : Value → Heap → Prop) (h : Heap) : Prop :=
 Hp Tryz.prog true (nilS x0) (fun t4 _ => 
 Hp Tryz.prog true (Instr.fieldAt 72 t4 2) (fun t5 _ => 
 Hp Tryz.prog true (Instr.loadAt 2 t5) (fun t6 _ => 
 Hp Tryz.prog true (nilS x0) (fun t8 _ => 
 Hp Tryz.prog true (Instr.fieldAt 72 t8 3) (fun t9 _ => 
 Hp Tryz.prog true (Instr.loadAt 3 t9) (fun t10 _ => 
 Hp Tryz.prog true (binS .shl 2 (.const (.int .i64 1)) (.tmp 10) (.int .i64 1) t10) (fun t11 _ => 
 Hp Tryz.prog true (binS .add 2 (.tmp 6) (.tmp 11) t6 t11) (fun t12 _ => 
 Hp Tryz.prog true (binS .sub 2 (.tmp 12) (.const (.int .i64 1)) t12 (.int .i64 1)) (fun t13 _ => 
 Hp Tryz.prog true (nilS x0) (fun t15 _ => 
 Hp Tryz.prog true (Instr.fieldAt 72 t15 3) (fun t16 _ => 
 Hp Tryz.prog true (Instr.loadAt 3 t16) (fun t17 _ => 
 Hp Tryz.prog true (binS .shr 2 (.tmp 13) (.tmp 17) t13 t17) (fun t18 _ => 
 R t18 h) #[] ⟨⟩) h ⟨⟩) #[] ⟨⟩) #[] ⟨⟩) #[] ⟨⟩) #[] ⟨⟩) #[] ⟨⟩) h ⟨⟩) #[] ⟨⟩) #[] ⟨⟩) h ⟨⟩) #[] ⟨⟩) #[] ⟨⟩

theorem n41_calls {x0 : Value} {R : Value → Heap → Prop} {h : Heap} (H : n41 x0 R h) : CallsH Tryz.prog 41 #[x0] h R ⟨⟩ :=
 callsH_of_eq Tryz.follow .l Tryz.func41 (by kernel_rfl) (by kernel_rfl) (by kernel_rfl) H

/-- (*palimpsest/model.World).content -/
def n42 (w0 x1 at2 n3 : Value) (R : Value → Heap → Prop) (h : Heap) : Prop :=
 Hp Tryz.prog false (binS .mul 2 (.tmp 11) (.const (.int .i64 512)) n3 (.int .i64 512)) (fun t12 h_1 => 
 Hp Tryz.prog false (Instr.makeSlice 32 t12 t12) (fun t13 h_2 => 
 LoopC 1 (fun (X : Value → Heap → Prop) => fun t15 h_3 =>
 Hp Tryz.prog false (binS .lss 2 (.tmp 15) (.tmp 14) t15 n3) (fun t16 h_4 => 
 CondP t16 (
 Hp Tryz.prog false (binS .mul 2 (.tmp 20) (.const (.int .i64 512)) t15 (.int .i64 512)) (fun t21 h_5 => 
 Hp Tryz.prog false (Instr.sliceAt 32 t13 (some t21) none none) (fun t22 h_6 => 
 Hp Tryz.prog false (binS .add 2 (.tmp 24) (.tmp 25) at2 t15) (fun t26 h_7 => 
 CallsH Tryz.prog 44 #[w0, t22, x1, t26] h_7 (fun t27 h_8 => 
 Hp Tryz.prog false (binS .add 2 (.tmp 15) (.const (.int .i64 1)) t15 (.int .i64 1)) (fun t28 h_9 => 
 X t28 h_9) h_8 ⟨⟩) ⟨⟩) h_6 ⟨⟩) h_5 ⟨⟩) h_4 ⟨⟩) (
 R t13 h_4) ⟨⟩ ⟨⟩) h_3 ⟨⟩) [(.int .i64 0)] h_2 ⟨⟩) h_1 ⟨⟩) h ⟨⟩

theorem n42_calls {w0 x1 at2 n3 : Value} {R : Value → Heap → Prop} {h : Heap} (H : n42 w0 x1 at2 n3 R h) : CallsH Tryz.prog 42 #[w0, x1, at2, n3] h R ⟨⟩ :=
 callsH_of_eq Tryz.follow (.n none .l (.n none .l (.n none (.n none .l (.n none (.n (some [16]) .l .l) .l)) .l))) Tryz.func42 (by kernel_rfl) (by kernel_rfl) (by kernel_rfl) H

/-- bytes.Equal -/
def n43 (a0 b1 : Value) (R : Value → Heap → Prop) (h : Heap) : Prop :=
 Hp Tryz.prog false (convert 32 9 a0) (fun t6 h_1 => 
 Hp Tryz.prog false (convert 32 9 b1) (fun t8 h_2 => 
 Hp Tryz.prog false (binS .eql 9 (.tmp 6) (.tmp 8) t6 t8) (fun t9 h_3 => 
 R t9 h_3) h_2 ⟨⟩) h_1 ⟨⟩) h ⟨⟩

theorem n43_calls {a0 b1 : Value} {R : Value → Heap → Prop} {h : Heap} (H : n43 a0 b1 R h) : CallsH Tryz.prog 43 #[a0, b1] h R ⟨⟩ :=
 callsH_of_eq Tryz.follow .l Tryz.func43 (by kernel_rfl) (by kernel_rfl) (by kernel_rfl) H

/-- (*palimpsest/model.World).sector -/
def n44 (w0 to1 x2 k3 : Value) (R : Value → Heap → Prop) (h : Heap) : Prop :=
 LoopC 1 (fun (X : Value → Heap → Prop) => fun x2_1 h_1 =>
 Hp Tryz.prog false (binS .neq 62 (.tmp 11) (.const (.pointer none)) x2_1 (.pointer none)) (fun t12 h_2 => 
 Join1 (fun k h_3 => guardP t12 true (k k3 h_3) (k undef h_3) ⟨⟩ ⟨⟩) (fun t14 h_4 => 
 Join1 (fun k_1 h_5 => guardP t12 true (k_1 x2_1 h_5) (k_1 undef h_5) ⟨⟩ ⟨⟩) (fun t15 h_6 => 
 Join1 (fun k_2 h_7 => guardP t12 true (Hp Tryz.prog false (nilS t15) k_2 h_7 ⟨⟩) (k_2 undef h_7) ⟨⟩ ⟨⟩) (fun t16 h_8 => 
 Join1 (fun k_3 h_9 => guardP t12 true (Hp Tryz.prog false (Instr.fieldAt 72 t16 2) k_3 h_9 ⟨⟩) (k_3 undef h_9) ⟨⟩ ⟨⟩) (fun t17 h_10 => 
 Join1 (fun k_4 h_11 => guardP t12 true (Hp Tryz.prog false (Instr.loadAt 2 t17) k_4 h_11 ⟨⟩) (k_4 undef h_11) ⟨⟩ ⟨⟩) (fun t18 h_12 => 
 Join1 (fun k_5 h_13 => guardP t12 true (Hp Tryz.prog false (binS .quo 2 (.tmp 18) (.const (.int .i64 512)) t18 (.int .i64 512)) k_5 h_13 ⟨⟩) (k_5 undef h_13) ⟨⟩ ⟨⟩) (fun t19 h_14 => 
 Join1 (fun k_6 h_15 => guardP t12 true (Hp Tryz.prog false (binS .lss 2 (.tmp 14) (.tmp 19) t14 t19) k_6 h_15 ⟨⟩) (k_6 undef h_15) ⟨⟩ ⟨⟩) (fun t20 h_16 => 
 Hp Tryz.prog false (pickS t12 t20 (.bool false)) (fun t21 h_17 => 
 CondP t21 (
 Hp Tryz.prog false (binS .mul 2 (.tmp 31) (.const (.int .i64 512)) k3 (.int .i64 512)) (fun t32 h_18 => 
 Hp Tryz.prog true (nilS x2_1) (fun t35 _ => 
 Hp Tryz.prog true (Instr.fieldAt 72 t35 4) (fun t36 _ => 
 Hp Tryz.prog true (Instr.loadAt 68 t36) (fun t37 _ => 
 Hp Tryz.prog true (nilS x2_1) (fun t40 _ => 
 Hp Tryz.prog true (Instr.fieldAt 72 t40 3) (fun t41 _ => 
 Hp Tryz.prog true (Instr.loadAt 3 t41) (fun t42 _ => 
 Hp Tryz.prog true (binS .shr 2 (.tmp 38) (.tmp 42) t32 t42) (fun t43 _ => 
 Hp Tryz.prog true (Instr.lookup 68 t37 t43 true) (fun t44 _ => 
 Hp Tryz.prog true (Instr.extract t44 0) (fun t45 _ => 
 Hp Tryz.prog true (Instr.extract t44 1) (fun t46 _ => 
 CondP t46 (
 Hp Tryz.prog true (Instr.sliceAt 32 to1 none (some (.int .i64 512)) none) (fun t49 _ => 
 Hp Tryz.prog true (nilS x2_1) (fun t53 _ => 
 Hp Tryz.prog true (Instr.fieldAt 72 t53 3) (fun t54 _ => 
 Hp Tryz.prog true (Instr.loadAt 3 t54) (fun t55 _ => 
 Hp Tryz.prog true (binS .shl 2 (.const (.int .i64 1)) (.tmp 55) (.int .i64 1) t55) (fun t56 _ => 
 Hp Tryz.prog true (binS .sub 2 (.tmp 56) (.const (.int .i64 1)) t56 (.int .i64 1)) (fun t57 _ => 
 Hp Tryz.prog true (binS .and 2 (.tmp 51) (.tmp 57) t32 t57) (fun t58 _ => 
 Hp Tryz.prog true (Instr.sliceAt 32 t45 (some t58) none none) (fun t59 _ => 
 Hp Tryz.prog false (Builtin.copy_ #[32, 32] 3 #[t49, t59]) (fun t60 h_19 => 
 R (.tuple #[]) h_19) h_18 ⟨⟩) #[] ⟨⟩) #[] ⟨⟩) #[] ⟨⟩) #[] ⟨⟩) h_18 ⟨⟩) #[] ⟨⟩) #[] ⟨⟩) #[] ⟨⟩) (
 Hp Tryz.prog true (nilS w0) (fun t23 _ => 
 Hp Tryz.prog true (Instr.fieldAt 87 t23 0) (fun t24 _ => 
 Hp Tryz.prog true (Instr.loadAt 85 t24) (fun t25 _ => 
 Hp Tryz.prog true (nilS x2_1) (fun t27 _ => 
 Hp Tryz.prog true (Instr.fieldAt 72 t27 1) (fun t28 _ => 
 Hp Tryz.prog true (Instr.loadAt 9 t28) (fun t29 _ => 
 Hp Tryz.prog true (Instr.lookup 85 t25 t29 false) (fun t30 _ => 
 X t30 h_18) h_18 ⟨⟩) h_18 ⟨⟩) #[] ⟨⟩) #[] ⟨⟩) h_18 ⟨⟩) #[] ⟨⟩) #[] ⟨⟩) ⟨⟩ ⟨⟩) #[] ⟨⟩) #[] ⟨⟩) h_18 ⟨⟩) #[] ⟨⟩) h_18 ⟨⟩) #[] ⟨⟩) #[] ⟨⟩) h_18 ⟨⟩) #[] ⟨⟩) #[] ⟨⟩) h_17 ⟨⟩) (
 Hp Tryz.prog false (Instr.sliceAt 32 to1 none (some (.int .i64 512)) none) (fun t62 h_20 => 
 Hp Tryz.prog false (Builtin.clear_ #[32] 0 #[t62]) (fun _ h_21 => 
 R (.tuple #[]) h_21) h_20 ⟨⟩) h_17 ⟨⟩) ⟨⟩ ⟨⟩) h_16 ⟨⟩) h_14 ⟨⟩ ⟨⟩) h_12 ⟨⟩ ⟨⟩) h_10 ⟨⟩ ⟨⟩) h_8 ⟨⟩ ⟨⟩) h_6 ⟨⟩ ⟨⟩) h_4 ⟨⟩ ⟨⟩) h_2 ⟨⟩ ⟨⟩) h_1 ⟨⟩) [x2] h ⟨⟩

theorem n44_calls {w0 to1 x2 k3 : Value} {R : Value → Heap → Prop} {h : Heap} (H : n44 w0 to1 x2 k3 R h) : CallsH Tryz.prog 44 #[w0, to1, x2, k3] h R ⟨⟩ :=
 callsH_of_eq Tryz.follow (.n none (.n none (.n (some [3]) .l .l) .l) .l) Tryz.func44 (by kernel_rfl) (by kernel_rfl) (by kernel_rfl) H

/-- (*palimpsest/model.World).none -/
def n45 (w0 : Value) (R : Value → Heap → Prop) (h : Heap) : Prop :=
 Hp Tryz.prog false (binS .eql 24 (.tmp 3) (.const (.pointer none)) w0 (.pointer none)) (fun t4 h_1 => 
 Join1 (fun k h_2 => guardP t4 false (k w0 h_2) (k undef h_2) ⟨⟩ ⟨⟩) (fun t6 h_3 => 
 Join1 (fun k_1 h_4 => guardP t4 false (Hp Tryz.prog false (nilS t6) k_1 h_4 ⟨⟩) (k_1 undef h_4) ⟨⟩ ⟨⟩) (fun t7 h_5 => 
 Join1 (fun k_2 h_6 => guardP t4 false (Hp Tryz.prog false (Instr.fieldAt 87 t7 0) k_2 h_6 ⟨⟩) (k_2 undef h_6) ⟨⟩ ⟨⟩) (fun t8 h_7 => 
 Join1 (fun k_3 h_8 => guardP t4 false (Hp Tryz.prog false (Instr.loadAt 85 t8) k_3 h_8 ⟨⟩) (k_3 undef h_8) ⟨⟩ ⟨⟩) (fun t9 h_9 => 
 Join1 (fun k_4 h_10 => guardP t4 false (Hp Tryz.prog false (binS .eql 85 (.tmp 9) (.const (.map none)) t9 (.map none)) k_4 h_10 ⟨⟩) (k_4 undef h_10) ⟨⟩ ⟨⟩) (fun t10 h_11 => 
 Hp Tryz.prog false (pickS t4 (.bool true) t10) (fun t11 h_12 => 
 R t11 h_12) h_11 ⟨⟩) h_9 ⟨⟩ ⟨⟩) h_7 ⟨⟩ ⟨⟩) h_5 ⟨⟩ ⟨⟩) h_3 ⟨⟩ ⟨⟩) h_1 ⟨⟩ ⟨⟩) h ⟨⟩

theorem n45_calls {w0 : Value} {R : Value → Heap → Prop} {h : Heap} (H : n45 w0 R h) : CallsH Tryz.prog 45 #[w0] h R ⟨⟩ :=
 callsH_of_eq Tryz.follow .l Tryz.func45 (by kernel_rfl) (by kernel_rfl) (by kernel_rfl) H

/-- slices.Clone[[]palimpsest/model.snapshot,palimpsest/model.snapshot] -/
def n46 (s0 : Value) (R : Value → Heap → Prop) (h : Heap) : Prop :=
 Hp Tryz.prog false (binS .eql 69 (.tmp 3) (.const (.slice none 0 0)) s0 (.slice none 0 0)) (fun t4 h_1 => 
 CondP t4 (
 R (.slice none 0 0) h_1) (
 Hp Tryz.prog false (Instr.buildSlice 69 0 #[]) (fun t5 h_2 => 
 Hp Tryz.prog false (Builtin.append_ #[69, 69] 69 #[t5, s0]) (fun t7 h_3 => 
 R t7 h_3) h_2 ⟨⟩) h_1 ⟨⟩) ⟨⟩ ⟨⟩) h ⟨⟩

theorem n46_calls {s0 : Value} {R : Value → Heap → Prop} {h : Heap} (H : n46 s0 R h) : CallsH Tryz.prog 46 #[s0] h R ⟨⟩ :=
 callsH_of_eq Tryz.follow .l Tryz.func46 (by kernel_rfl) (by kernel_rfl) (by kernel_rfl) H

/-- slices.Clone[[]palimpsest/model.bitmap,palimpsest/model.bitmap] -/
def n47 (s0 : Value) (R : Value → Heap → Prop) (h : Heap) : Prop :=
 Hp Tryz.prog false (binS .eql 70 (.tmp 3) (.const (.slice none 0 0)) s0 (.slice none 0 0)) (fun t4 h_1 => 
 CondP t4 (
 R (.slice none 0 0) h_1) (
 Hp Tryz.prog false (Instr.buildSlice 70 0 #[]) (fun t5 h_2 => 
 Hp Tryz.prog false (Builtin.append_ #[70, 70] 70 #[t5, s0]) (fun t7 h_3 => 
 R t7 h_3) h_2 ⟨⟩) h_1 ⟨⟩) ⟨⟩ ⟨⟩) h ⟨⟩

theorem n47_calls {s0 : Value} {R : Value → Heap → Prop} {h : Heap} (H : n47 s0 R h) : CallsH Tryz.prog 47 #[s0] h R ⟨⟩ :=
 callsH_of_eq Tryz.follow .l Tryz.func47 (by kernel_rfl) (by kernel_rfl) (by kernel_rfl) H

/-- maps.Clone[map[int64]bool,int64,bool] -/
def n48 (m0 : Value) (R : Value → Heap → Prop) (h : Heap) : Prop :=
 Hp Tryz.prog false (binS .eql 73 (.tmp 3) (.const (.map none)) m0 (.map none)) (fun t4 h_1 => 
 CondP t4 (
 R (.map none) h_1) (
 Hp Tryz.prog false (Instr.makeInterface 73 m0) (fun t6 h_2 => 
 ExtH Tryz.prog 66 #[t6] h_2 (fun t7 h_3 => 
 Hp Tryz.prog false (Instr.typeAssert t7 20 73 false) (fun t8 h_4 => 
 R t8 h_4) h_3 ⟨⟩) ⟨⟩) h_1 ⟨⟩) ⟨⟩ ⟨⟩) h ⟨⟩

theorem n48_calls {m0 : Value} {R : Value → Heap → Prop} {h : Heap} (H : n48 m0 R h) : CallsH Tryz.prog 48 #[m0] h R ⟨⟩ :=
 callsH_of_eq Tryz.follow .l Tryz.func48 (by kernel_rfl) (by kernel_rfl) (by kernel_rfl) H

/-- (*palimpsest/model.World).resize -/
def n49 (w0 x1 size2 : Value) (R : Value → Heap → Prop) (h : Heap) : Prop :=
 Hp Tryz.prog false (nilS x1) (fun t10 h_1 => 
 Hp Tryz.prog false (Instr.fieldAt 72 t10 2) (fun t11 h_2 => 
 Hp Tryz.prog false (Instr.loadAt 2 t11) (fun t12 h_3 => 
 Hp Tryz.prog false (binS .lss 2 (.tmp 13) (.tmp 14) size2 t12) (fun t15 h_4 => 
 CondP t15 (
 Hp Tryz.prog false (nilS x1) (fun t18 h_5 => 
 Hp Tryz.prog false (Instr.fieldAt 72 t18 2) (fun t19 h_6 => 
 Hp Tryz.prog false (storeS 2 t19 size2) (fun _ h_7 => 
 CallsH Tryz.prog 72 #[x1] h_7 (fun t21 h_8 => 
 R (.tuple #[]) h_8) ⟨⟩) h_6 ⟨⟩) h_5 ⟨⟩) h_4 ⟨⟩) (
 JoinN 0 (fun (k : Heap → Prop) h_9 =>
 Hp Tryz.prog false (nilS x1) (fun t24 h_10 => 
 Hp Tryz.prog false (Instr.fieldAt 72 t24 3) (fun t25 h_11 => 
 Hp Tryz.prog false (Instr.loadAt 3 t25) (fun t26 h_12 => 
 Hp Tryz.prog false (binS .shr 2 (.tmp 22) (.tmp 26) t12 t26) (fun t27 h_13 => 
 Hp Tryz.prog false (binS .gtr 2 (.tmp 28) (.tmp 29) size2 t12) (fun t30 h_14 => 
 Join1 (fun k_1 h_15 => guardP t30 true (k_1 t12 h_15) (k_1 undef h_15) ⟨⟩ ⟨⟩) (fun t32 h_16 => 
 Join1 (fun k_2 h_17 => guardP t30 true (k_2 t27 h_17) (k_2 undef h_17) ⟨⟩ ⟨⟩) (fun t33 h_18 => 
 Join1 (fun k_3 h_19 => guardP t30 true (k_3 x1 h_19) (k_3 undef h_19) ⟨⟩ ⟨⟩) (fun t34 h_20 => 
 Join1 (fun k_4 h_21 => guardP t30 true (Hp Tryz.prog false (nilS t34) k_4 h_21 ⟨⟩) (k_4 undef h_21) ⟨⟩ ⟨⟩) (fun t35 h_22 => 
 Join1 (fun k_5 h_23 => guardP t30 true (Hp Tryz.prog false (Instr.fieldAt 72 t35 3) k_5 h_23 ⟨⟩) (k_5 undef h_23) ⟨⟩ ⟨⟩) (fun t36 h_24 => 
 Join1 (fun k_6 h_25 => guardP t30 true (Hp Tryz.prog false (Instr.loadAt 3 t36) k_6 h_25 ⟨⟩) (k_6 undef h_25) ⟨⟩ ⟨⟩) (fun t37 h_26 => 
 Join1 (fun k_7 h_27 => guardP t30 true (Hp Tryz.prog false (binS .shl 2 (.tmp 33) (.tmp 37) t33 t37) k_7 h_27 ⟨⟩) (k_7 undef h_27) ⟨⟩ ⟨⟩) (fun t38 h_28 => 
 Join1 (fun k_8 h_29 => guardP t30 true (Hp Tryz.prog false (binS .gtr 2 (.tmp 32) (.tmp 38) t32 t38) k_8 h_29 ⟨⟩) (k_8 undef h_29) ⟨⟩ ⟨⟩) (fun t39 h_30 => 
 Hp Tryz.prog false (pickS t30 t39 (.bool false)) (fun t40 h_31 => 
 CondP t40 (
 CallsH Tryz.prog 68 #[w0, x1, t27] h_31 (fun t44 h_32 => 
 k h_32) ⟨⟩) (
 k h_31) ⟨⟩ ⟨⟩) h_30 ⟨⟩) h_28 ⟨⟩ ⟨⟩) h_26 ⟨⟩ ⟨⟩) h_24 ⟨⟩ ⟨⟩) h_22 ⟨⟩ ⟨⟩) h_20 ⟨⟩ ⟨⟩) h_18 ⟨⟩ ⟨⟩) h_16 ⟨⟩ ⟨⟩) h_14 ⟨⟩ ⟨⟩) h_13 ⟨⟩) h_12 ⟨⟩) h_11 ⟨⟩) h_10 ⟨⟩) h_9 ⟨⟩)
 (fun h_33 =>
 Hp Tryz.prog false (nilS x1) (fun t47 h_34 => 
 Hp Tryz.prog false (Instr.fieldAt 72 t47 2) (fun t48 h_35 => 
 Hp Tryz.prog false (storeS 2 t48 size2) (fun _ h_36 => 
 Hp Tryz.prog true (nilS x1) (fun t51 _ => 
 Hp Tryz.prog true (Instr.fieldAt 72 t51 3) (fun t52 _ => 
 Hp Tryz.prog true (Instr.loadAt 3 t52) (fun t53 _ => 
 Hp Tryz.prog true (binS .shl 2 (.const (.int .i64 1)) (.tmp 53) (.int .i64 1) t53) (fun t54 _ => 
 Hp Tryz.prog true (binS .add 2 (.tmp 49) (.tmp 54) t12 t54) (fun t55 _ => 
 Hp Tryz.prog true (binS .sub 2 (.tmp 55) (.const (.int .i64 1)) t55 (.int .i64 1)) (fun t56 _ => 
 Hp Tryz.prog true (nilS x1) (fun t58 _ => 
 Hp Tryz.prog true (Instr.fieldAt 72 t58 3) (fun t59 _ => 
 Hp Tryz.prog true (Instr.loadAt 3 t59) (fun t60 _ => 
 Hp Tryz.prog true (binS .shr 2 (.tmp 56) (.tmp 60) t56 t60) (fun t61 _ => 
 LoopC 1 (fun (X : Value → Heap → Prop) => fun c8 h_37 =>
 CallsH Tryz.prog 41 #[x1] h_37 (fun t64 h_38 => 
 Hp Tryz.prog false (binS .lss 2 (.tmp 62) (.tmp 64) c8 t64) (fun t65 h_39 => 
 CondP t65 (
 Hp Tryz.prog true (nilS x1) (fun t69 _ => 
 Hp Tryz.prog true (Instr.fieldAt 72 t69 4) (fun t70 _ => 
 Hp Tryz.prog true (Instr.loadAt 68 t70) (fun t71 _ => 
 Hp Tryz.prog true (nilS x1) (fun t74 _ => 
 Hp Tryz.prog true (Instr.fieldAt 72 t74 3) (fun t75 _ => 
 Hp Tryz.prog true (Instr.loadAt 3 t75) (fun t76 _ => 
 Hp Tryz.prog true (binS .shl 3 (.const (.int .i64 1)) (.tmp 76) (.int .i64 1) t76) (fun t77 _ => 
 Hp Tryz.prog false (Instr.makeSlice 32 t77 t77) (fun t78 h_40 => Hp Tryz.prog true (Instr.loadAt 68 t70) (fun u _ => u = t71) h_40 ⟨⟩ ∧ 
 Hp Tryz.prog false (unitS (Instr.mapUpdate 68 t71 c8 t78)) (fun _ h_41 => 
 Hp Tryz.prog false (binS .add 2 (.tmp 66) (.const (.int .i64 1)) c8 (.int .i64 1)) (fun t67 h_42 => 
 X t67 h_42) h_41 ⟨⟩) h_40 ⟨⟩) h_39 ⟨⟩) #[] ⟨⟩) h_39 ⟨⟩) #[] ⟨⟩) #[] ⟨⟩) h_39 ⟨⟩) #[] ⟨⟩) #[] ⟨⟩) (
 Hp Tryz.prog false (binS .quo 2 (.tmp 80) (.const (.int .i64 512)) t12 (.int .i64 512)) (fun t81 h_43 => 
 Hp Tryz.prog false (binS .sub 2 (.tmp 82) (.tmp 83) size2 t12) (fun t84 h_44 => 
 Hp Tryz.prog false (binS .quo 2 (.tmp 84) (.const (.int .i64 512)) t84 (.int .i64 512)) (fun t85 h_45 => 
 CallsH Tryz.prog 36 #[x1, t81, t85] h_45 (fun t86 h_46 => 
 R (.tuple #[]) h_46) ⟨⟩) h_44 ⟨⟩) h_43 ⟨⟩) h_39 ⟨⟩) ⟨⟩ ⟨⟩) h_38 ⟨⟩) ⟨⟩) [t61] h_36 ⟨⟩) #[] ⟨⟩) h_36 ⟨⟩) #[] ⟨⟩) #[] ⟨⟩) #[] ⟨⟩) #[] ⟨⟩) #[] ⟨⟩) h_36 ⟨⟩) #[] ⟨⟩) #[] ⟨⟩) h_35 ⟨⟩) h_34 ⟨⟩) h_33 ⟨⟩) h_4 ⟨⟩ ⟨⟩) ⟨⟩ ⟨⟩) h_3 ⟨⟩) h_2 ⟨⟩) h_1 ⟨⟩) h ⟨⟩

theorem n49_calls {w0 x1 size2 : Value} {R : Value → Heap → Prop} {h : Heap} (H : n49 w0 x1 size2 R h) : CallsH Tryz.prog 49 #[w0, x1, size2] h R ⟨⟩ :=
 callsH_of_eq Tryz.follow (.n none .l (.n none .l (.n (some []) .l (.n none .l (.n none (.n none .l (.n none (.n (some [9]) .l .l) .l)) .l))))) Tryz.func49 (by kernel_rfl) (by kernel_rfl) (by kernel_rfl) H

/-- slices.Sorted[int64] -/
def n50 (seq0 : Value) (R : Value → Heap → Prop) (h : Heap) : Prop :=
 CallsH Tryz.prog 73 #[seq0] h (fun t5 h_1 => 
 CallsH Tryz.prog 74 #[t5] h_1 (fun t7 h_2 => 
 R t5 h_2) ⟨⟩) ⟨⟩

theorem n50_calls {seq0 : Value} {R : Value → Heap → Prop} {h : Heap} (H : n50 seq0 R h) : CallsH Tryz.prog 50 #[seq0] h R ⟨⟩ :=
 callsH_of_eq Tryz.follow .l Tryz.func50 (by kernel_rfl) (by kernel_rfl) (by kernel_rfl) H

/-- maps.Keys[palimpsest/model.clusters,int64,[]byte] -/
def n51 (m0 : Value) (R : Value → Heap → Prop) (h : Heap) : Prop :=
 Hp Tryz.prog false (Instr.box 68 m0) (fun m1 h_1 => 
 Hp Tryz.prog false (pure (.func (.func 75) #[] #[m1])) (fun t3 h_2 => 
 R t3 h_2) h_1 ⟨⟩) h ⟨⟩

theorem n51_calls {m0 : Value} {R : Value → Heap → Prop} {h : Heap} (H : n51 m0 R h) : CallsH Tryz.prog 51 #[m0] h R ⟨⟩ :=
 callsH_of_eq Tryz.follow .l Tryz.func51 (by kernel_rfl) (by kernel_rfl) (by kernel_rfl) H

/-- (*palimpsest/model.World).deep -/
def n52 (w0 name1 n2 : Value) (R : Value → Heap → Prop) (h : Heap) : Prop :=
 LoopC 2 (fun (X : Value → Value → Heap → Prop) => fun name1_1 n2_1 h_1 =>
 Hp Tryz.prog false (binS .neq 9 (.tmp 7) (.const (str [])) name1_1 (str [])) (fun t8 h_2 => 
 Join1 (fun k h_3 => guardP t8 true (k n2_1 h_3) (k undef h_3) ⟨⟩ ⟨⟩) (fun t10 h_4 => 
 Join1 (fun k_1 h_5 => guardP t8 true (Hp Tryz.prog false (binS .leq 3 (.tmp 10) (.const (.int .i64 8)) t10 (.int .i64 8)) k_1 h_5 ⟨⟩) (k_1 undef h_5) ⟨⟩ ⟨⟩) (fun t11 h_6 => 
 Hp Tryz.prog false (pickS t8 t11 (.bool false)) (fun t12 h_7 => 
 CondP t12 (
 Hp Tryz.prog false (nilS w0) (fun t16 h_8 => 
 Hp Tryz.prog false (Instr.fieldAt 87 t16 0) (fun t17 h_9 => 
 Hp Tryz.prog false (Instr.loadAt 85 t17) (fun t18 h_10 => 
 Hp Tryz.prog false (Instr.lookup 85 t18 name1_1 false) (fun t20 h_11 => 
 Hp Tryz.prog false (nilS t20) (fun t21 h_12 => 
 Hp Tryz.prog false (Instr.fieldAt 72 t21 1) (fun t22 h_13 => 
 Hp Tryz.prog false (Instr.loadAt 9 t22) (fun t23 h_14 => 
 Hp Tryz.prog false (binS .add 3 (.tmp 13) (.const (.int .i64 1)) n2_1 (.int .i64 1)) (fun t14 h_15 => 
 X t23 t14 h_15) h_14 ⟨⟩) h_13 ⟨⟩) h_12 ⟨⟩) h_11 ⟨⟩) h_10 ⟨⟩) h_9 ⟨⟩) h_8 ⟨⟩) h_7 ⟨⟩) (
 Hp Tryz.prog false (binS .gtr 3 (.tmp 24) (.const (.int .i64 8)) n2_1 (.int .i64 8)) (fun t25 h_16 => 
 R t25 h_16) h_7 ⟨⟩) ⟨⟩ ⟨⟩) h_6 ⟨⟩) h_4 ⟨⟩ ⟨⟩) h_2 ⟨⟩ ⟨⟩) h_1 ⟨⟩) [name1, n2] h ⟨⟩

theorem n52_calls {w0 name1 n2 : Value} {R : Value → Heap → Prop} {h : Heap} (H : n52 w0 name1 n2 R h) : CallsH Tryz.prog 52 #[w0, name1, n2] h R ⟨⟩ :=
 callsH_of_eq Tryz.follow (.n none .l (.n none (.n none (.n (some [2, 3]) .l .l) .l) .l)) Tryz.func52 (by kernel_rfl) (by kernel_rfl) (by kernel_rfl) H

/-- palimpsest/model.sized -/
def n53 (n0 : Value) (R : Value → Heap → Prop) (h : Heap) : Prop :=
 Hp Tryz.prog false (binS .geq 2 (.tmp 3) (.const (.int .i64 0)) n0 (.int .i64 0)) (fun t4 h_1 => 
 Join1 (fun k h_2 => guardP t4 true (k n0 h_2) (k undef h_2) ⟨⟩ ⟨⟩) (fun t6 h_3 => 
 Join1 (fun k_1 h_4 => guardP t4 true (Hp Tryz.prog false (binS .leq 2 (.tmp 6) (.const (.int .i64 67108864)) t6 (.int .i64 67108864)) k_1 h_4 ⟨⟩) (k_1 undef h_4) ⟨⟩ ⟨⟩) (fun t7 h_5 => 
 Hp Tryz.prog false (pickS t4 t7 (.bool false)) (fun t8 h_6 => 
 Join1 (fun k_2 h_7 => guardP t8 true (k_2 n0 h_7) (k_2 undef h_7) ⟨⟩ ⟨⟩) (fun t10 h_8 => 
 Join1 (fun k_3 h_9 => guardP t8 true (Hp Tryz.prog false (binS .rem 2 (.tmp 10) (.const (.int .i64 512)) t10 (.int .i64 512)) k_3 h_9 ⟨⟩) (k_3 undef h_9) ⟨⟩ ⟨⟩) (fun t11 h_10 => 
 Join1 (fun k_4 h_11 => guardP t8 true (Hp Tryz.prog false (binS .eql 2 (.tmp 11) (.const (.int .i64 0)) t11 (.int .i64 0)) k_4 h_11 ⟨⟩) (k_4 undef h_11) ⟨⟩ ⟨⟩) (fun t12 h_12 => 
 Hp Tryz.prog false (pickS t8 t12 (.bool false)) (fun t13 h_13 => 
 R t13 h_13) h_12 ⟨⟩) h_10 ⟨⟩ ⟨⟩) h_8 ⟨⟩ ⟨⟩) h_6 ⟨⟩ ⟨⟩) h_5 ⟨⟩) h_3 ⟨⟩ ⟨⟩) h_1 ⟨⟩ ⟨⟩) h ⟨⟩

theorem n53_calls {n0 : Value} {R : Value → Heap → Prop} {h : Heap} (H : n53 n0 R h) : CallsH Tryz.prog 53 #[n0] h R ⟨⟩ :=
 callsH_of_eq Tryz.follow .l Tryz.func53 (by kernel_rfl) (by kernel_rfl) (by kernel_rfl) H

/-- (*palimpsest/model.World).Names -/
def n54 (w0 : Value) (R : Value → Heap → Prop) (h : Heap) : Prop :=
 CallsH Tryz.prog 45 #[w0] h (fun t4 h_1 => 
 CondP t4 (
 R (.slice none 0 0) h_1) (
 Hp Tryz.prog false (nilS w0) (fun t6 h_2 => 
 Hp Tryz.prog false (Instr.fieldAt 87 t6 0) (fun t7 h_3 => 
 Hp Tryz.prog false (Instr.loadAt 85 t7) (fun t8 h_4 => 
 CallsH Tryz.prog 77 #[t8] h_4 (fun t9 h_5 => 
 CallsH Tryz.prog 76 #[t9] h_5 (fun t10 h_6 => 
 R t10 h_6) ⟨⟩) ⟨⟩) h_3 ⟨⟩) h_2 ⟨⟩) h_1 ⟨⟩) ⟨⟩ ⟨⟩) ⟨⟩

theorem n54_calls {w0 : Value} {R : Value → Heap → Prop} {h : Heap} (H : n54 w0 R h) : CallsH Tryz.prog 54 #[w0] h R ⟨⟩ :=
 callsH_of_eq Tryz.follow .l Tryz.func54 (by kernel_rfl) (by kernel_rfl) (by kernel_rfl) H

/-- (*palimpsest/model.World).All$1 -/
def n55 (yield0 t1 : Value) (R : Value → Heap → Prop) (h : Heap) : Prop :=
 Hp Tryz.prog false (Instr.loadAt 104 t1) (fun t7 h_1 => 
 Hp Tryz.prog false (Builtin.len_ #[104] 3 #[t7]) (fun t8 h_2 => 
 LoopC 1 (fun (X : Value → Heap → Prop) => fun t9 h_3 =>
 Hp Tryz.prog false (binS .lss 3 (.tmp 9) (.tmp 8) t9 t8) (fun t10 h_4 => 
 CondP t10 (
 Hp Tryz.prog false (Instr.indexAt 104 t7 t9) (fun t11 h_5 => 
 Hp Tryz.prog false (Instr.loadAt 40 t11) (fun t12 h_6 => 
 Hp Tryz.prog false (Instr.alloc 40 true undef) (fun x4 h_7 => 
 Hp Tryz.prog false (storeS 40 x4 t12) (fun _ h_8 => 
 Hp Tryz.prog false (Instr.loadAt 40 x4) (fun t13 h_9 => 
 Hp Tryz.prog false (Instr.alloc 40 true undef) (fun y5 h_10 => 
 Hp Tryz.prog false (storeS 40 y5 t13) (fun _ h_11 => 
 Hp Tryz.prog false (Instr.fieldAt 40 x4 4) (fun t14 h_12 => 
 Hp Tryz.prog false (Instr.loadAt 37 t14) (fun t15 h_13 => 
 CallsH Tryz.prog 56 #[t15] h_13 (fun t16 h_14 => 
 Hp Tryz.prog false (Instr.fieldAt 40 y5 4) (fun t17 h_15 => 
 Hp Tryz.prog false (storeS 37 t17 t16) (fun _ h_16 => 
 Hp Tryz.prog false (Instr.fieldAt 40 x4 5) (fun t18 h_17 => 
 Hp Tryz.prog false (Instr.loadAt 38 t18) (fun t19 h_18 => 
 CallsH Tryz.prog 57 #[t19] h_18 (fun t20 h_19 => 
 Hp Tryz.prog false (Instr.fieldAt 40 y5 5) (fun t21 h_20 => 
 Hp Tryz.prog false (storeS 38 t21 t20) (fun _ h_21 => 
 Hp Tryz.prog false (Instr.fieldAt 40 y5 5) (fun t22 h_22 => 
 Hp Tryz.prog false (Instr.loadAt 38 t22) (fun t23 h_23 => 
 Hp Tryz.prog false (Builtin.len_ #[38] 3 #[t23]) (fun t24 h_24 => 
 LoopC 1 (fun (X_1 : Value → Heap → Prop) => fun t25 h_25 =>
 Hp Tryz.prog false (binS .lss 3 (.tmp 25) (.tmp 24) t25 t24) (fun t26 h_26 => 
 CondP t26 (
 Hp Tryz.prog true (Instr.fieldAt 40 y5 5) (fun t28 _ => 
 Hp Tryz.prog true (Instr.loadAt 38 t28) (fun t29 _ => 
 Hp Tryz.prog true (Instr.fieldAt 40 x4 5) (fun t31 _ => 
 Hp Tryz.prog true (Instr.loadAt 38 t31) (fun t32 _ => 
 Hp Tryz.prog true (Instr.indexAt 38 t32 t25) (fun t34 _ => 
 Hp Tryz.prog true (Instr.fieldAt 46 t34 3) (fun t35 _ => 
 Hp Tryz.prog true (Instr.loadAt 44 t35) (fun t36 _ => 
 CallsH Tryz.prog 58 #[t36] h_26 (fun t37 h_27 => Hp Tryz.prog true (Instr.loadAt 38 t28) (fun u _ => u = t29) h_27 ⟨⟩ ∧ 
 Hp Tryz.prog true (Instr.indexAt 38 t29 t25) (fun t38 _ => 
 Hp Tryz.prog true (Instr.fieldAt 46 t38 3) (fun t39 _ => 
 Hp Tryz.prog false (storeS 44 t39 t37) (fun _ h_28 => 
 Hp Tryz.prog false (binS .add 3 (.tmp 25) (.const (.int .i64 1)) t25 (.int .i64 1)) (fun t40 h_29 => 
 X_1 t40 h_29) h_28 ⟨⟩) h_27 ⟨⟩) #[] ⟨⟩) #[] ⟨⟩) ⟨⟩) h_26 ⟨⟩) #[] ⟨⟩) #[] ⟨⟩) h_26 ⟨⟩) #[] ⟨⟩) h_26 ⟨⟩) #[] ⟨⟩) (
 Hp Tryz.prog false (Instr.fieldAt 40 x4 0) (fun t42 h_30 => 
 Hp Tryz.prog false (Instr.loadAt 9 t42) (fun t43 h_31 => 
 Hp Tryz.prog false (Instr.loadAt 40 y5) (fun t44 h_32 => 
 InvokeH Tryz.prog yield0 #[t43, t44] h_32 (fun t45 h_33 => 
 Hp Tryz.prog false (Op.unary .not t45) (fun t46 h_34 => 
 CondP t46 (
 R (.tuple #[]) h_34) (
 Hp Tryz.prog false (binS .add 3 (.tmp 9) (.const (.int .i64 1)) t9 (.int .i64 1)) (fun t47 h_35 => 
 X t47 h_35) h_34 ⟨⟩) ⟨⟩ ⟨⟩) h_33 ⟨⟩) ⟨⟩) h_31 ⟨⟩) h_30 ⟨⟩) h_26 ⟨⟩) ⟨⟩ ⟨⟩) h_25 ⟨⟩) [(.int .i64 0)] h_24 ⟨⟩) h_23 ⟨⟩) h_22 ⟨⟩) h_21 ⟨⟩) h_20 ⟨⟩) h_19 ⟨⟩) ⟨⟩) h_17 ⟨⟩) h_16 ⟨⟩) h_15 ⟨⟩) h_14 ⟨⟩) ⟨⟩) h_12 ⟨⟩) h_11 ⟨⟩) h_10 ⟨⟩) h_9 ⟨⟩) h_8 ⟨⟩) h_7 ⟨⟩) h_6 ⟨⟩) h_5 ⟨⟩) h_4 ⟨⟩) (
 R (.tuple #[]) h_4) ⟨⟩ ⟨⟩) h_3 ⟨⟩) [(.int .i64 0)] h_2 ⟨⟩) h_1 ⟨⟩) h ⟨⟩

theorem n55_calls {yield0 t1 : Value} {R : Value → Heap → Prop} {h : Heap} (H : n55 yield0 t1 R h) : CallsH Tryz.prog 55 #[yield0, t1] h R ⟨⟩ :=
 callsH_of_eq Tryz.follow (.n none .l (.n none (.n (some [10]) (.n none .l (.n none .l (.n none (.n none (.n none .l (.n none .l (.n none .l (.n none .l (.n none (.n none .l (.n none (.n (some [26]) .l .l) .l)) .l))))) .l) .l))) .l) .l)) Tryz.func55 (by kernel_rfl) (by kernel_rfl) (by kernel_rfl) H

/-- slices.Clone[[]palimpsest/api.PlainSnap,palimpsest/api.PlainSnap] -/
def n56 (s0 : Value) (R : Value → Heap → Prop) (h : Heap) : Prop :=
 Hp Tryz.prog false (binS .eql 37 (.tmp 3) (.const (.slice none 0 0)) s0 (.slice none 0 0)) (fun t4 h_1 => 
 CondP t4 (
 R (.slice none 0 0) h_1) (
 Hp Tryz.prog false (Instr.buildSlice 37 0 #[]) (fun t5 h_2 => 
 Hp Tryz.prog false (Builtin.append_ #[37, 37] 37 #[t5, s0]) (fun t7 h_3 => 
 R t7 h_3) h_2 ⟨⟩) h_1 ⟨⟩) ⟨⟩ ⟨⟩) h ⟨⟩

theorem n56_calls {s0 : Value} {R : Value → Heap → Prop} {h : Heap} (H : n56 s0 R h) : CallsH Tryz.prog 56 #[s0] h R ⟨⟩ :=
 callsH_of_eq Tryz.follow .l Tryz.func56 (by kernel_rfl) (by kernel_rfl) (by kernel_rfl) H

/-- slices.Clone[[]palimpsest/api.PlainBitmap,palimpsest/api.PlainBitmap] -/
def n57 (s0 : Value) (R : Value → Heap → Prop) (h : Heap) : Prop :=
 Hp Tryz.prog false (binS .eql 38 (.tmp 3) (.const (.slice none 0 0)) s0 (.slice none 0 0)) (fun t4 h_1 => 
 CondP t4 (
 R (.slice none 0 0) h_1) (
 Hp Tryz.prog false (Instr.buildSlice 38 0 #[]) (fun t5 h_2 => 
 Hp Tryz.prog false (Builtin.append_ #[38, 38] 38 #[t5, s0]) (fun t7 h_3 => 
 R t7 h_3) h_2 ⟨⟩) h_1 ⟨⟩) ⟨⟩ ⟨⟩) h ⟨⟩

theorem n57_calls {s0 : Value} {R : Value → Heap → Prop} {h : Heap} (H : n57 s0 R h) : CallsH Tryz.prog 57 #[s0] h R ⟨⟩ :=
 callsH_of_eq Tryz.follow .l Tryz.func57 (by kernel_rfl) (by kernel_rfl) (by kernel_rfl) H

/-- slices.Clone[[]int64,int64] -/
def n58 (s0 : Value) (R : Value → Heap → Prop) (h : Heap) : Prop :=
 Hp Tryz.prog false (binS .eql 44 (.tmp 3) (.const (.slice none 0 0)) s0 (.slice none 0 0)) (fun t4 h_1 => 
 CondP t4 (
 R (.slice none 0 0) h_1) (
 Hp Tryz.prog false (Instr.buildSlice 44 0 #[]) (fun t5 h_2 => 
 Hp Tryz.prog false (Builtin.append_ #[44, 44] 44 #[t5, s0]) (fun t7 h_3 => 
 R t7 h_3) h_2 ⟨⟩) h_1 ⟨⟩) ⟨⟩ ⟨⟩) h ⟨⟩

theorem n58_calls {s0 : Value} {R : Value → Heap → Prop} {h : Heap} (H : n58 s0 R h) : CallsH Tryz.prog 58 #[s0] h R ⟨⟩ :=
 callsH_of_eq Tryz.follow .l Tryz.func58 (by kernel_rfl) (by kernel_rfl) (by kernel_rfl) H

/-- (*palimpsest/model.image).there -/
def n59 (x0 at1 n2 : Value) (R : Value → Heap → Prop) (h : Heap) : Prop :=
 Hp Tryz.prog false (nilS x0) (fun t9 h_1 => 
 Hp Tryz.prog false (Instr.fieldAt 72 t9 2) (fun t10 h_2 => 
 Hp Tryz.prog false (Instr.loadAt 2 t10) (fun t11 h_3 => 
 Hp Tryz.prog false (binS .quo 2 (.tmp 11) (.const (.int .i64 512)) t11 (.int .i64 512)) (fun t12 h_4 => 
 Hp Tryz.prog false (binS .geq 2 (.tmp 13) (.const (.int .i64 0)) at1 (.int .i64 0)) (fun t14 h_5 => 
 Join1 (fun k h_6 => guardP t14 true (k at1 h_6) (k undef h_6) ⟨⟩ ⟨⟩) (fun t16 h_7 => 
 Join1 (fun k_1 h_8 => guardP t14 true (k_1 t12 h_8) (k_1 undef h_8) ⟨⟩ ⟨⟩) (fun t17 h_9 => 
 Join1 (fun k_2 h_10 => guardP t14 true (Hp Tryz.prog false (binS .leq 2 (.tmp 16) (.tmp 17) t16 t17) k_2 h_10 ⟨⟩) (k_2 undef h_10) ⟨⟩ ⟨⟩) (fun t18 h_11 => 
 Hp Tryz.prog false (pickS t14 t18 (.bool false)) (fun t19 h_12 => 
 Join1 (fun k_3 h_13 => guardP t19 true (k_3 n2 h_13) (k_3 undef h_13) ⟨⟩ ⟨⟩) (fun t21 h_14 => 
 Join1 (fun k_4 h_15 => guardP t19 true (k_4 t12 h_15) (k_4 undef h_15) ⟨⟩ ⟨⟩) (fun t22 h_16 => 
 Join1 (fun k_5 h_17 => guardP t19 true (k_5 at1 h_17) (k_5 undef h_17) ⟨⟩ ⟨⟩) (fun t23 h_18 => 
 Join1 (fun k_6 h_19 => guardP t19 true (Hp Tryz.prog false (binS .sub 2 (.tmp 22) (.tmp 23) t22 t23) k_6 h_19 ⟨⟩) (k_6 undef h_19) ⟨⟩ ⟨⟩) (fun t24 h_20 => 
 Join1 (fun k_7 h_21 => guardP t19 true (Hp Tryz.prog false (binS .leq 2 (.tmp 21) (.tmp 24) t21 t24) k_7 h_21 ⟨⟩) (k_7 undef h_21) ⟨⟩ ⟨⟩) (fun t25 h_22 => 
 Hp Tryz.prog false (pickS t19 t25 (.bool false)) (fun t26 h_23 => 
 R t26 h_23) h_22 ⟨⟩) h_20 ⟨⟩ ⟨⟩) h_18 ⟨⟩ ⟨⟩) h_16 ⟨⟩ ⟨⟩) h_14 ⟨⟩ ⟨⟩) h_12 ⟨⟩ ⟨⟩) h_11 ⟨⟩) h_9 ⟨⟩ ⟨⟩) h_7 ⟨⟩ ⟨⟩) h_5 ⟨⟩ ⟨⟩) h_4 ⟨⟩) h_3 ⟨⟩) h_2 ⟨⟩) h_1 ⟨⟩) h ⟨⟩

theorem n59_calls {x0 at1 n2 : Value} {R : Value → Heap → Prop} {h : Heap} (H : n59 x0 at1 n2 R h) : CallsH Tryz.prog 59 #[x0, at1, n2] h R ⟨⟩ :=
 callsH_of_eq Tryz.follow .l Tryz.func59 (by kernel_rfl) (by kernel_rfl) (by kernel_rfl) H

/-- strings.ContainsFunc -/
def n60 (s0 f1 : Value) (R : Value → Heap → Prop) (h : Heap) : Prop :=
 CallsH Tryz.prog 78 #[s0, f1] h (fun t7 h_1 => 
 Hp Tryz.prog false (binS .geq 3 (.tmp 7) (.const (.int .i64 0)) t7 (.int .i64 0)) (fun t8 h_2 => 
 R t8 h_2) h_1 ⟨⟩) ⟨⟩

theorem n60_calls {s0 f1 : Value} {R : Value → Heap → Prop} {h : Heap} (H : n60 s0 f1 R h) : CallsH Tryz.prog 60 #[s0, f1] h R ⟨⟩ :=
 callsH_of_eq Tryz.follow .l Tryz.func60 (by kernel_rfl) (by kernel_rfl) (by kernel_rfl) H

/-- palimpsest/model.named$1 -/
def n61 (c0 : Value) (R : Value → Heap → Prop) (h : Heap) : Prop :=
 Hp Tryz.prog false (binS .lss 21 (.tmp 3) (.const (.int .i32 33)) c0 (.int .i32 33)) (fun t4 h_1 => 
 Join1 (fun k h_2 => guardP t4 false (k c0 h_2) (k undef h_2) ⟨⟩ ⟨⟩) (fun t6 h_3 => 
 Join1 (fun k_1 h_4 => guardP t4 false (Hp Tryz.prog false (binS .gtr 21 (.tmp 6) (.const (.int .i32 126)) t6 (.int .i32 126)) k_1 h_4 ⟨⟩) (k_1 undef h_4) ⟨⟩ ⟨⟩) (fun t7 h_5 => 
 Hp Tryz.prog false (pickS t4 (.bool true) t7) (fun t8 h_6 => 
 R t8 h_6) h_5 ⟨⟩) h_3 ⟨⟩ ⟨⟩) h_1 ⟨⟩ ⟨⟩) h ⟨⟩

theorem n61_calls {c0 : Value} {R : Value → Heap → Prop} {h : Heap} (H : n61 c0 R h) : CallsH Tryz.prog 61 #[c0] h R ⟨⟩ :=
 callsH_of_eq Tryz.follow .l Tryz.func61 (by kernel_rfl) (by kernel_rfl) (by kernel_rfl) H

/-- slices.IndexFunc[[]palimpsest/model.bitmap,palimpsest/model.bitmap] -/
def n62 (s0 f1 : Value) (R : Value → Heap → Prop) (h : Heap) : Prop :=
 Hp Tryz.prog false (Builtin.len_ #[70] 3 #[s0]) (fun t7 h_1 => 
 LoopC 1 (fun (X : Value → Heap → Prop) => fun t8 h_2 =>
 Hp Tryz.prog false (binS .lss 3 (.tmp 8) (.tmp 7) t8 t7) (fun t9 h_3 => 
 CondP t9 (
 Hp Tryz.prog false (Instr.indexAt 70 s0 t8) (fun t14 h_4 => 
 Hp Tryz.prog false (Instr.loadAt 75 t14) (fun t15 h_5 => 
 InvokeH Tryz.prog f1 #[t15] h_5 (fun t16 h_6 => 
 CondP t16 (
 R t8 h_6) (
 Hp Tryz.prog false (binS .add 3 (.tmp 8) (.const (.int .i64 1)) t8 (.int .i64 1)) (fun t18 h_7 => 
 X t18 h_7) h_6 ⟨⟩) ⟨⟩ ⟨⟩) ⟨⟩) h_4 ⟨⟩) h_3 ⟨⟩) (
 R (.int .i64 (-1)) h_3) ⟨⟩ ⟨⟩) h_2 ⟨⟩) [(.int .i64 0)] h_1 ⟨⟩) h ⟨⟩

theorem n62_calls {s0 f1 : Value} {R : Value → Heap → Prop} {h : Heap} (H : n62 s0 f1 R h) : CallsH Tryz.prog 62 #[s0, f1] h R ⟨⟩ :=
 callsH_of_eq Tryz.follow (.n none .l (.n none (.n none .l (.n none (.n (some [9]) .l .l) .l)) .l)) Tryz.func62 (by kernel_rfl) (by kernel_rfl) (by kernel_rfl) H

/-- (*palimpsest/model.image).bitmap$1 -/
def n63 (m0 t1 : Value) (R : Value → Heap → Prop) (h : Heap) : Prop :=
 Hp Tryz.prog false (Instr.box 75 m0) (fun m2 h_1 => 
 Hp Tryz.prog false (Instr.fieldAt 75 m2 0) (fun t4 h_2 => 
 Hp Tryz.prog false (Instr.loadAt 9 t4) (fun t5 h_3 => 
 Hp Tryz.prog false (Instr.loadAt 9 t1) (fun t6 h_4 => 
 Hp Tryz.prog false (binS .eql 9 (.tmp 5) (.tmp 6) t5 t6) (fun t7 h_5 => 
 R t7 h_5) h_4 ⟨⟩) h_3 ⟨⟩) h_2 ⟨⟩) h_1 ⟨⟩) h ⟨⟩

theorem n63_calls {m0 t1 : Value} {R : Value → Heap → Prop} {h : Heap} (H : n63 m0 t1 R h) : CallsH Tryz.prog 63 #[m0, t1] h R ⟨⟩ :=
 callsH_of_eq Tryz.follow .l Tryz.func63 (by kernel_rfl) (by kernel_rfl) (by kernel_rfl) H

/-- slices.IndexFunc[[]palimpsest/model.snapshot,palimpsest/model.snapshot] -/
def n64 (s0 f1 : Value) (R : Value → Heap → Prop) (h : Heap) : Prop :=
 Hp Tryz.prog false (Builtin.len_ #[69] 3 #[s0]) (fun t7 h_1 => 
 LoopC 1 (fun (X : Value → Heap → Prop) => fun t8 h_2 =>
 Hp Tryz.prog false (binS .lss 3 (.tmp 8) (.tmp 7) t8 t7) (fun t9 h_3 => 
 CondP t9 (
 Hp Tryz.prog false (Instr.indexAt 69 s0 t8) (fun t14 h_4 => 
 Hp Tryz.prog false (Instr.loadAt 78 t14) (fun t15 h_5 => 
 InvokeH Tryz.prog f1 #[t15] h_5 (fun t16 h_6 => 
 CondP t16 (
 R t8 h_6) (
 Hp Tryz.prog false (binS .add 3 (.tmp 8) (.const (.int .i64 1)) t8 (.int .i64 1)) (fun t18 h_7 => 
 X t18 h_7) h_6 ⟨⟩) ⟨⟩ ⟨⟩) ⟨⟩) h_4 ⟨⟩) h_3 ⟨⟩) (
 R (.int .i64 (-1)) h_3) ⟨⟩ ⟨⟩) h_2 ⟨⟩) [(.int .i64 0)] h_1 ⟨⟩) h ⟨⟩

theorem n64_calls {s0 f1 : Value} {R : Value → Heap → Prop} {h : Heap} (H : n64 s0 f1 R h) : CallsH Tryz.prog 64 #[s0, f1] h R ⟨⟩ :=
 callsH_of_eq Tryz.follow (.n none .l (.n none (.n none .l (.n none (.n (some [9]) .l .l) .l)) .l)) Tryz.func64 (by kernel_rfl) (by kernel_rfl) (by kernel_rfl) H

/-- (*palimpsest/model.image).snap$1 -/
def n65 (s0 t1 : Value) (R : Value → Heap → Prop) (h : Heap) : Prop :=
 Hp Tryz.prog false (Instr.box 78 s0) (fun s2 h_1 => 
 Hp Tryz.prog false (Instr.fieldAt 78 s2 0) (fun t4 h_2 => 
 Hp Tryz.prog false (Instr.loadAt 9 t4) (fun t5 h_3 => 
 Hp Tryz.prog false (Instr.loadAt 9 t1) (fun t6 h_4 => 
 Hp Tryz.prog false (binS .eql 9 (.tmp 5) (.tmp 6) t5 t6) (fun t7 h_5 => 
 R t7 h_5) h_4 ⟨⟩) h_3 ⟨⟩) h_2 ⟨⟩) h_1 ⟨⟩) h ⟨⟩

theorem n65_calls {s0 t1 : Value} {R : Value → Heap → Prop} {h : Heap} (H : n65 s0 t1 R h) : CallsH Tryz.prog 65 #[s0, t1] h R ⟨⟩ :=
 callsH_of_eq Tryz.follow .l Tryz.func65 (by kernel_rfl) (by kernel_rfl) (by kernel_rfl) H

/-- bytes.Clone -/
def n67 (b0 : Value) (R : Value → Heap → Prop) (h : Heap) : Prop :=
 Hp Tryz.prog false (binS .eql 32 (.tmp 3) (.const (.slice none 0 0)) b0 (.slice none 0 0)) (fun t4 h_1 => 
 CondP t4 (
 R (.slice none 0 0) h_1) (
 Hp Tryz.prog false (Instr.buildSlice 32 0 #[]) (fun t5 h_2 => 
 Hp Tryz.prog false (Builtin.append_ #[32, 32] 32 #[t5, b0]) (fun t7 h_3 => 
 R t7 h_3) h_2 ⟨⟩) h_1 ⟨⟩) ⟨⟩ ⟨⟩) h ⟨⟩

theorem n67_calls {b0 : Value} {R : Value → Heap → Prop} {h : Heap} (H : n67 b0 R h) : CallsH Tryz.prog 67 #[b0] h R ⟨⟩ :=
 callsH_of_eq Tryz.follow .l Tryz.func67 (by kernel_rfl) (by kernel_rfl) (by kernel_rfl) H

/-- (*palimpsest/model.World).hold -/
def n68 (w0 x1 c2 : Value) (R : Value → Heap → Prop) (h : Heap) : Prop :=
 Hp Tryz.prog false (nilS x1) (fun t14 h_1 => 
 Hp Tryz.prog false (Instr.fieldAt 72 t14 4) (fun t15 h_2 => 
 Hp Tryz.prog false (Instr.loadAt 68 t15) (fun t16 h_3 => 
 Hp Tryz.prog false (Instr.lookup 68 t16 c2 true) (fun t18 h_4 => 
 Hp Tryz.prog false (Instr.extract t18 0) (fun t19 h_5 => 
 Hp Tryz.prog false (Instr.extract t18 1) (fun t20 h_6 => 
 CondP t20 (
 R t19 h_6) (
 Hp Tryz.prog false (nilS x1) (fun t24 h_7 => 
 Hp Tryz.prog false (Instr.fieldAt 72 t24 3) (fun t25 h_8 => 
 Hp Tryz.prog false (Instr.loadAt 3 t25) (fun t26 h_9 => 
 Hp Tryz.prog false (binS .shl 3 (.const (.int .i64 1)) (.tmp 26) (.int .i64 1) t26) (fun t27 h_10 => 
 Hp Tryz.prog false (Instr.makeSlice 32 t27 t27) (fun t28 h_11 => 
 Hp Tryz.prog false (nilS x1) (fun t31 h_12 => 
 Hp Tryz.prog false (Instr.fieldAt 72 t31 3) (fun t32 h_13 => 
 Hp Tryz.prog false (Instr.loadAt 3 t32) (fun t33 h_14 => 
 Hp Tryz.prog false (binS .shl 2 (.tmp 29) (.tmp 33) c2 t33) (fun t34 h_15 => 
 Hp Tryz.prog true (nilS x1) (fun t37 _ => 
 Hp Tryz.prog true (Instr.fieldAt 72 t37 3) (fun t38 _ => 
 Hp Tryz.prog true (Instr.loadAt 3 t38) (fun t39 _ => 
 Hp Tryz.prog true (binS .shl 2 (.const (.int .i64 1)) (.tmp 39) (.int .i64 1) t39) (fun t40 _ => 
 Hp Tryz.prog true (binS .add 2 (.tmp 35) (.tmp 40) t34 t40) (fun t41 _ => 
 Hp Tryz.prog true (nilS x1) (fun t43 _ => 
 Hp Tryz.prog true (Instr.fieldAt 72 t43 2) (fun t44 _ => 
 Hp Tryz.prog true (Instr.loadAt 2 t44) (fun t45 _ => 
 Hp Tryz.prog true (Builtin.min_ #[2, 2] 2 #[t41, t45]) (fun t46 _ => 
 Hp Tryz.prog false (binS .quo 2 (.tmp 50) (.const (.int .i64 512)) t34 (.int .i64 512)) (fun t51 h_16 => 
 Hp Tryz.prog false (binS .sub 2 (.tmp 52) (.tmp 53) t46 t34) (fun t54 h_17 => 
 Hp Tryz.prog false (binS .quo 2 (.tmp 54) (.const (.int .i64 512)) t54 (.int .i64 512)) (fun t55 h_18 => 
 CallsH Tryz.prog 42 #[w0, x1, t51, t55] h_18 (fun t56 h_19 => 
 Hp Tryz.prog false (Builtin.copy_ #[32, 32] 3 #[t28, t56]) (fun t57 h_20 => 
 Hp Tryz.prog false (nilS x1) (fun t59 h_21 => 
 Hp Tryz.prog false (Instr.fieldAt 72 t59 4) (fun t60 h_22 => 
 Hp Tryz.prog false (Instr.loadAt 68 t60) (fun t61 h_23 => 
 Hp Tryz.prog false (unitS (Instr.mapUpdate 68 t61 c2 t28)) (fun _ h_24 => 
 R t28 h_24) h_23 ⟨⟩) h_22 ⟨⟩) h_21 ⟨⟩) h_20 ⟨⟩) h_19 ⟨⟩) ⟨⟩) h_17 ⟨⟩) h_16 ⟨⟩) h_15 ⟨⟩) #[] ⟨⟩) h_15 ⟨⟩) #[] ⟨⟩) #[] ⟨⟩) #[] ⟨⟩) #[] ⟨⟩) h_15 ⟨⟩) #[] ⟨⟩) #[] ⟨⟩) h_14 ⟨⟩) h_13 ⟨⟩) h_12 ⟨⟩) h_11 ⟨⟩) h_10 ⟨⟩) h_9 ⟨⟩) h_8 ⟨⟩) h_7 ⟨⟩) h_6 ⟨⟩) ⟨⟩ ⟨⟩) h_5 ⟨⟩) h_4 ⟨⟩) h_3 ⟨⟩) h_2 ⟨⟩) h_1 ⟨⟩) h ⟨⟩

theorem n68_calls {w0 x1 c2 : Value} {R : Value → Heap → Prop} {h : Heap} (H : n68 w0 x1 c2 R h) : CallsH Tryz.prog 68 #[w0, x1, c2] h R ⟨⟩ :=
 callsH_of_eq Tryz.follow .l Tryz.func68 (by kernel_rfl) (by kernel_rfl) (by kernel_rfl) H

/-- maps.DeleteFunc[map[int64]bool,int64,bool] -/
def n69 (m0 del1 : Value) (R : Value → Heap → Prop) (h : Heap) : Prop :=
 Hp Tryz.prog false (Instr.range 73 m0) (fun t7 h_1 => 
 LoopC 0 (fun (X : Heap → Prop) => fun h_2 =>
 Hp Tryz.prog false (Instr.next t7 false 0) (fun t8 h_3 => 
 Hp Tryz.prog false (Instr.extract t8 0) (fun t9 h_4 => 
 CondP t9 (
 JoinN 0 (fun (k : Heap → Prop) h_5 =>
 Hp Tryz.prog false (Instr.entry t7) (fun t10 h_6 => 
 Hp Tryz.prog false (Instr.extract t10 0) (fun t11 h_7 => 
 Hp Tryz.prog false (Instr.extract t10 1) (fun t12 h_8 => 
 InvokeH Tryz.prog del1 #[t11, t12] h_8 (fun t16 h_9 => 
 CondP t16 (
 Hp Tryz.prog false (Builtin.delete_ #[73, 2] 0 #[m0, t11]) (fun _ h_10 => 
 k h_10) h_9 ⟨⟩) (
 k h_9) ⟨⟩ ⟨⟩) ⟨⟩) h_7 ⟨⟩) h_6 ⟨⟩) h_5 ⟨⟩)
 (fun h_11 =>
 X h_11) h_4 ⟨⟩ ⟨⟩) (
 R (.tuple #[]) h_4) ⟨⟩ ⟨⟩) h_3 ⟨⟩) h_2 ⟨⟩) [] h_1 ⟨⟩) h ⟨⟩

theorem n69_calls {m0 del1 : Value} {R : Value → Heap → Prop} {h : Heap} (H : n69 m0 del1 R h) : CallsH Tryz.prog 69 #[m0, del1] h R ⟨⟩ :=
 callsH_of_eq Tryz.follow (.n none .l (.n none (.n (some []) (.n none .l (.n none .l (.n (some []) .l .l))) .l) .l)) Tryz.func69 (by kernel_rfl) (by kernel_rfl) (by kernel_rfl) H

/-- (*palimpsest/model.image).trim$1 -/
def n70 (g0 t1 t2 t3 : Value) (R : Value → Heap → Prop) (h : Heap) : Prop :=
 Hp Tryz.prog true (Instr.fieldAt 75 t2 1) (fun t8 _ => 
 Hp Tryz.prog true (Instr.loadAt 3 t8) (fun t9 _ => 
 Hp Tryz.prog true (binS .shl 2 (.tmp 7) (.tmp 9) g0 t9) (fun t10 _ => 
 Hp Tryz.prog true (Instr.loadAt 62 t3) (fun t11 _ => 
 Hp Tryz.prog true (nilS t11) (fun t12 _ => 
 Hp Tryz.prog true (Instr.fieldAt 72 t12 2) (fun t13 _ => 
 Hp Tryz.prog true (Instr.loadAt 2 t13) (fun t14 _ => 
 Hp Tryz.prog true (binS .geq 2 (.tmp 10) (.tmp 14) t10 t14) (fun t15 _ => 
 R t15 h) #[] ⟨⟩) h ⟨⟩) #[] ⟨⟩) #[] ⟨⟩) h ⟨⟩) #[] ⟨⟩) h ⟨⟩) #[] ⟨⟩

theorem n70_calls {g0 t1 t2 t3 : Value} {R : Value → Heap → Prop} {h : Heap} (H : n70 g0 t1 t2 t3 R h) : CallsH Tryz.prog 70 #[g0, t1, t2, t3] h R ⟨⟩ :=
 callsH_of_eq Tryz.follow .l Tryz.func70 (by kernel_rfl) (by kernel_rfl) (by kernel_rfl) H

/-- maps.Keys[map[int64]bool,int64,bool] -/
def n71 (m0 : Value) (R : Value → Heap → Prop) (h : Heap) : Prop :=
 Hp Tryz.prog false (Instr.box 73 m0) (fun m1 h_1 => 
 Hp Tryz.prog false (pure (.func (.func 79) #[] #[m1])) (fun t3 h_2 => 
 R t3 h_2) h_1 ⟨⟩) h ⟨⟩

theorem n71_calls {m0 : Value} {R : Value → Heap → Prop} {h : Heap} (H : n71 m0 R h) : CallsH Tryz.prog 71 #[m0] h R ⟨⟩ :=
 callsH_of_eq Tryz.follow .l Tryz.func71 (by kernel_rfl) (by kernel_rfl) (by kernel_rfl) H

/-- (*palimpsest/model.image).shorten -/
def n72 (x0 : Value) (R : Value → Heap → Prop) (h : Heap) : Prop :=
 CallsH Tryz.prog 41 #[x0] h (fun t6 h_1 => 
 Hp Tryz.prog false (Instr.alloc 2 true undef) (fun n2 h_2 => 
 Hp Tryz.prog false (storeS 2 n2 t6) (fun _ h_3 => 
 Hp Tryz.prog false (nilS x0) (fun t8 h_4 => 
 Hp Tryz.prog false (Instr.fieldAt 72 t8 4) (fun t9 h_5 => 
 Hp Tryz.prog false (Instr.loadAt 68 t9) (fun t10 h_6 => 
 Hp Tryz.prog false (pure (.func (.func 81) #[] #[n2])) (fun t11 h_7 => 
 CallsH Tryz.prog 80 #[t10, t11] h_7 (fun t12 h_8 => 
 JoinN 0 (fun (k : Heap → Prop) h_9 =>
 Hp Tryz.prog true (nilS x0) (fun t15 _ => 
 Hp Tryz.prog true (Instr.fieldAt 72 t15 4) (fun t16 _ => 
 Hp Tryz.prog true (Instr.loadAt 68 t16) (fun t17 _ => 
 Hp Tryz.prog true (Instr.loadAt 2 n2) (fun t18 _ => 
 Hp Tryz.prog true (binS .sub 2 (.tmp 18) (.const (.int .i64 1)) t18 (.int .i64 1)) (fun t19 _ => 
 Hp Tryz.prog true (Instr.lookup 68 t17 t19 true) (fun t20 _ => 
 Hp Tryz.prog true (Instr.extract t20 0) (fun t21 _ => 
 Hp Tryz.prog true (Instr.extract t20 1) (fun t22 _ => 
 CondP t22 (
 CallsH Tryz.prog 67 #[t21] h_9 (fun t25 h_10 => 
 Hp Tryz.prog true (nilS x0) (fun t28 _ => 
 Hp Tryz.prog true (Instr.fieldAt 72 t28 2) (fun t29 _ => 
 Hp Tryz.prog true (Instr.loadAt 2 t29) (fun t30 _ => 
 Hp Tryz.prog true (Instr.loadAt 2 n2) (fun t31 _ => 
 Hp Tryz.prog true (binS .sub 2 (.tmp 31) (.const (.int .i64 1)) t31 (.int .i64 1)) (fun t32 _ => 
 Hp Tryz.prog true (nilS x0) (fun t34 _ => 
 Hp Tryz.prog true (Instr.fieldAt 72 t34 3) (fun t35 _ => 
 Hp Tryz.prog true (Instr.loadAt 3 t35) (fun t36 _ => 
 Hp Tryz.prog true (binS .shl 2 (.tmp 32) (.tmp 36) t32 t36) (fun t37 _ => 
 Hp Tryz.prog true (binS .sub 2 (.tmp 30) (.tmp 37) t30 t37) (fun t38 _ => 
 Hp Tryz.prog true (Instr.sliceAt 32 t25 (some t38) none none) (fun t39 _ => 
 Hp Tryz.prog false (Builtin.clear_ #[32] 0 #[t39]) (fun _ h_11 => 
 Hp Tryz.prog true (nilS x0) (fun t41 _ => 
 Hp Tryz.prog true (Instr.fieldAt 72 t41 4) (fun t42 _ => 
 Hp Tryz.prog true (Instr.loadAt 68 t42) (fun t43 _ => 
 Hp Tryz.prog true (Instr.loadAt 2 n2) (fun t44 _ => 
 Hp Tryz.prog true (binS .sub 2 (.tmp 44) (.const (.int .i64 1)) t44 (.int .i64 1)) (fun t45 _ => 
 Hp Tryz.prog false (unitS (Instr.mapUpdate 68 t43 t45 t25)) (fun _ h_12 => 
 k h_12) h_11 ⟨⟩) #[] ⟨⟩) h_11 ⟨⟩) h_11 ⟨⟩) #[] ⟨⟩) #[] ⟨⟩) h_10 ⟨⟩) #[] ⟨⟩) #[] ⟨⟩) #[] ⟨⟩) h_10 ⟨⟩) #[] ⟨⟩) #[] ⟨⟩) #[] ⟨⟩) h_10 ⟨⟩) h_10 ⟨⟩) #[] ⟨⟩) #[] ⟨⟩) ⟨⟩) (
 k h_9) ⟨⟩ ⟨⟩) #[] ⟨⟩) #[] ⟨⟩) h_9 ⟨⟩) #[] ⟨⟩) h_9 ⟨⟩) h_9 ⟨⟩) #[] ⟨⟩) #[] ⟨⟩)
 (fun h_13 =>
 CallsH Tryz.prog 38 #[x0] h_13 (fun t48 h_14 => 
 R (.tuple #[]) h_14) ⟨⟩) h_8 ⟨⟩ ⟨⟩) ⟨⟩) h_6 ⟨⟩) h_5 ⟨⟩) h_4 ⟨⟩) h_3 ⟨⟩) h_2 ⟨⟩) h_1 ⟨⟩) ⟨⟩

theorem n72_calls {x0 : Value} {R : Value → Heap → Prop} {h : Heap} (H : n72 x0 R h) : CallsH Tryz.prog 72 #[x0] h R ⟨⟩ :=
 callsH_of_eq Tryz.follow (.n none .l (.n none .l (.n (some []) .l .l))) Tryz.func72 (by kernel_rfl) (by kernel_rfl) (by kernel_rfl) H

/-- slices.Collect[int64] -/
def n73 (seq0 : Value) (R : Value → Heap → Prop) (h : Heap) : Prop :=
 CallsH Tryz.prog 82 #[(.slice none 0 0), seq0] h (fun t4 h_1 => 
 R t4 h_1) ⟨⟩

theorem n73_calls {seq0 : Value} {R : Value → Heap → Prop} {h : Heap} (H : n73 seq0 R h) : CallsH Tryz.prog 73 #[seq0] h R ⟨⟩ :=
 callsH_of_eq Tryz.follow .l Tryz.func73 (by kernel_rfl) (by kernel_rfl) (by kernel_rfl) H

/-- slices.Sort[[]int64,int64] -/
def n74 (x0 : Value) (R : Value → Heap → Prop) (h : Heap) : Prop :=
 Hp Tryz.prog false (Builtin.len_ #[44] 3 #[x0]) (fun t4 h_1 => 
 Hp Tryz.prog false (convert 3 137 t4) (fun t8 h_2 => 
 CallsH Tryz.prog 84 #[t8] h_2 (fun t9 h_3 => 
 CallsH Tryz.prog 83 #[x0, (.int .i64 0), t4, t9] h_3 (fun t10 h_4 => 
 R (.tuple #[]) h_4) ⟨⟩) ⟨⟩) h_1 ⟨⟩) h ⟨⟩

theorem n74_calls {x0 : Value} {R : Value → Heap → Prop} {h : Heap} (H : n74 x0 R h) : CallsH Tryz.prog 74 #[x0] h R ⟨⟩ :=
 callsH_of_eq Tryz.follow .l Tryz.func74 (by kernel_rfl) (by kernel_rfl) (by kernel_rfl) H

/-- maps.Keys[palimpsest/model.clusters,int64,[]byte]$1 -/
def n75 (yield0 t1 : Value) (R : Value → Heap → Prop) (h : Heap) : Prop :=
 Hp Tryz.prog false (Instr.loadAt 68 t1) (fun t4 h_1 => 
 Hp Tryz.prog false (Instr.range 68 t4) (fun t5 h_2 => 
 LoopC 0 (fun (X : Heap → Prop) => fun h_3 =>
 Hp Tryz.prog false (Instr.next t5 false 0) (fun t6 h_4 => 
 Hp Tryz.prog false (Instr.extract t6 0) (fun t7 h_5 => 
 CondP t7 (
 Hp Tryz.prog false (Instr.entry t5) (fun t8 h_6 => 
 Hp Tryz.prog false (Instr.extract t8 0) (fun t9 h_7 => 
 InvokeH Tryz.prog yield0 #[t9] h_7 (fun t12 h_8 => 
 Hp Tryz.prog false (Op.unary .not t12) (fun t13 h_9 => 
 CondP t13 (
 R (.tuple #[]) h_9) (
 X h_9) ⟨⟩ ⟨⟩) h_8 ⟨⟩) ⟨⟩) h_6 ⟨⟩) h_5 ⟨⟩) (
 R (.tuple #[]) h_5) ⟨⟩ ⟨⟩) h_4 ⟨⟩) h_3 ⟨⟩) [] h_2 ⟨⟩) h_1 ⟨⟩) h ⟨⟩

theorem n75_calls {yield0 t1 : Value} {R : Value → Heap → Prop} {h : Heap} (H : n75 yield0 t1 R h) : CallsH Tryz.prog 75 #[yield0, t1] h R ⟨⟩ :=
 callsH_of_eq Tryz.follow (.n none .l (.n none (.n (some []) .l .l) .l)) Tryz.func75 (by kernel_rfl) (by kernel_rfl) (by kernel_rfl) H

/-- slices.Sorted[string] -/
def n76 (seq0 : Value) (R : Value → Heap → Prop) (h : Heap) : Prop :=
 CallsH Tryz.prog 85 #[seq0] h (fun t5 h_1 => 
 CallsH Tryz.prog 86 #[t5] h_1 (fun t7 h_2 => 
 R t5 h_2) ⟨⟩) ⟨⟩

theorem n76_calls {seq0 : Value} {R : Value → Heap → Prop} {h : Heap} (H : n76 seq0 R h) : CallsH Tryz.prog 76 #[seq0] h R ⟨⟩ :=
 callsH_of_eq Tryz.follow .l Tryz.func76 (by kernel_rfl) (by kernel_rfl) (by kernel_rfl) H

/-- maps.Keys[map[string]*palimpsest/model.image,string,*palimpsest/model.image] -/
def n77 (m0 : Value) (R : Value → Heap → Prop) (h : Heap) : Prop :=
 Hp Tryz.prog false (Instr.box 85 m0) (fun m1 h_1 => 
 Hp Tryz.prog false (pure (.func (.func 87) #[] #[m1])) (fun t3 h_2 => 
 R t3 h_2) h_1 ⟨⟩) h ⟨⟩

theorem n77_calls {m0 : Value} {R : Value → Heap → Prop} {h : Heap} (H : n77 m0 R h) : CallsH Tryz.prog 77 #[m0] h R ⟨⟩ :=
 callsH_of_eq Tryz.follow .l Tryz.func77 (by kernel_rfl) (by kernel_rfl) (by kernel_rfl) H

/-- strings.IndexFunc -/
def n78 (s0 f1 : Value) (R : Value → Heap → Prop) (h : Heap) : Prop :=
 CallsH Tryz.prog 88 #[s0, f1, (.bool true)] h (fun t7 h_1 => 
 R t7 h_1) ⟨⟩

theorem n78_calls {s0 f1 : Value} {R : Value → Heap → Prop} {h : Heap} (H : n78 s0 f1 R h) : CallsH Tryz.prog 78 #[s0, f1] h R ⟨⟩ :=
 callsH_of_eq Tryz.follow .l Tryz.func78 (by kernel_rfl) (by kernel_rfl) (by kernel_rfl) H

/-- maps.Keys[map[int64]bool,int64,bool]$1 -/
def n79 (yield0 t1 : Value) (R : Value → Heap → Prop) (h : Heap) : Prop :=
 Hp Tryz.prog false (Instr.loadAt 73 t1) (fun t4 h_1 => 
 Hp Tryz.prog false (Instr.range 73 t4) (fun t5 h_2 => 
 LoopC 0 (fun (X : Heap → Prop) => fun h_3 =>
 Hp Tryz.prog false (Instr.next t5 false 0) (fun t6 h_4 => 
 Hp Tryz.prog false (Instr.extract t6 0) (fun t7 h_5 => 
 CondP t7 (
 Hp Tryz.prog false (Instr.entry t5) (fun t8 h_6 => 
 Hp Tryz.prog false (Instr.extract t8 0) (fun t9 h_7 => 
 InvokeH Tryz.prog yield0 #[t9] h_7 (fun t12 h_8 => 
 Hp Tryz.prog false (Op.unary .not t12) (fun t13 h_9 => 
 CondP t13 (
 R (.tuple #[]) h_9) (
 X h_9) ⟨⟩ ⟨⟩) h_8 ⟨⟩) ⟨⟩) h_6 ⟨⟩) h_5 ⟨⟩) (
 R (.tuple #[]) h_5) ⟨⟩ ⟨⟩) h_4 ⟨⟩) h_3 ⟨⟩) [] h_2 ⟨⟩) h_1 ⟨⟩) h ⟨⟩

theorem n79_calls {yield0 t1 : Value} {R : Value → Heap → Prop} {h : Heap} (H : n79 yield0 t1 R h) : CallsH Tryz.prog 79 #[yield0, t1] h R ⟨⟩ :=
 callsH_of_eq Tryz.follow (.n none .l (.n none (.n (some []) .l .l) .l)) Tryz.func79 (by kernel_rfl) (by kernel_rfl) (by kernel_rfl) H

/-- maps.DeleteFunc[palimpsest/model.clusters,int64,[]byte] -/
def n80 (m0 del1 : Value) (R : Value → Heap → Prop) (h : Heap) : Prop :=
 Hp Tryz.prog false (Instr.range 68 m0) (fun t7 h_1 => 
 LoopC 0 (fun (X : Heap → Prop) => fun h_2 =>
 Hp Tryz.prog false (Instr.next t7 false 0) (fun t8 h_3 => 
 Hp Tryz.prog false (Instr.extract t8 0) (fun t9 h_4 => 
 CondP t9 (
 JoinN 0 (fun (k : Heap → Prop) h_5 =>
 Hp Tryz.prog false (Instr.entry t7) (fun t10 h_6 => 
 Hp Tryz.prog false (Instr.extract t10 0) (fun t11 h_7 => 
 Hp Tryz.prog false (Instr.extract t10 1) (fun t12 h_8 => 
 InvokeH Tryz.prog del1 #[t11, t12] h_8 (fun t16 h_9 => 
 CondP t16 (
 Hp Tryz.prog false (Builtin.delete_ #[68, 2] 0 #[m0, t11]) (fun _ h_10 => 
 k h_10) h_9 ⟨⟩) (
 k h_9) ⟨⟩ ⟨⟩) ⟨⟩) h_7 ⟨⟩) h_6 ⟨⟩) h_5 ⟨⟩)
 (fun h_11 =>
 X h_11) h_4 ⟨⟩ ⟨⟩) (
 R (.tuple #[]) h_4) ⟨⟩ ⟨⟩) h_3 ⟨⟩) h_2 ⟨⟩) [] h_1 ⟨⟩) h ⟨⟩

theorem n80_calls {m0 del1 : Value} {R : Value → Heap → Prop} {h : Heap} (H : n80 m0 del1 R h) : CallsH Tryz.prog 80 #[m0, del1] h R ⟨⟩ :=
 callsH_of_eq Tryz.follow (.n none .l (.n none (.n (some []) (.n none .l (.n none .l (.n (some []) .l .l))) .l) .l)) Tryz.func80 (by kernel_rfl) (by kernel_rfl) (by kernel_rfl) H

/-- (*palimpsest/model.image).shorten$1 -/
def n81 (c0 t1 t2 : Value) (R : Value → Heap → Prop) (h : Heap) : Prop :=
 Hp Tryz.prog false (Instr.loadAt 2 t2) (fun t7 h_1 => 
 Hp Tryz.prog false (binS .geq 2 (.tmp 6) (.tmp 7) c0 t7) (fun t8 h_2 => 
 R t8 h_2) h_1 ⟨⟩) h ⟨⟩

theorem n81_calls {c0 t1 t2 : Value} {R : Value → Heap → Prop} {h : Heap} (H : n81 c0 t1 t2 R h) : CallsH Tryz.prog 81 #[c0, t1, t2] h R ⟨⟩ :=
 callsH_of_eq Tryz.follow .l Tryz.func81 (by kernel_rfl) (by kernel_rfl) (by kernel_rfl) H

/-- slices.AppendSeq[[]int64,int64] -/
def n82 (s0 seq1 : Value) (R : Value → Heap → Prop) (h : Heap) : Prop :=
 Hp Tryz.prog false (Instr.box 44 s0) (fun s2 h_1 => 
 JoinN 1 (fun (k : Value → Heap → Prop) h_2 =>
 JoinN 1 (fun (k_1 : Value → Heap → Prop) h_3 =>
 RangeC Tryz.prog none seq1 1 (.tuple #[]) (fun l args bg Nb Jb h_4 =>
 bg (fun h_5 =>
 Hp Tryz.prog false (Instr.loadAt 44 s2) (fun t8 h_6 => 
 Hp Tryz.prog false (Instr.buildSlice 44 1 #[(0, (getV args 0))]) (fun t10 h_7 => 
 Hp Tryz.prog false (Builtin.append_ #[44, 44] 44 #[t8, t10]) (fun t11 h_8 => 
 Hp Tryz.prog false (storeS 44 s2 t11) (fun _ h_9 => 
 Nb h_9) h_8 ⟨⟩) h_7 ⟨⟩) h_6 ⟨⟩) h_5 ⟨⟩) h_4)
 (fun D h_10 =>
 k_1 D h_10)
 (fun D_1 h_11 =>
 RetD D_1 h_11 (fun h_12 =>
 R (.slice none 0 0) h_12) ⟨⟩)
 (fun id D_2 h_13 => bif Nat.beq id 0 then (k_1 D_2 h_13) else False) h_3 ⟨⟩ ⟨⟩ ⟨⟩ ⟨⟩)
 (fun D_3 h_14 =>
 k D_3 h_14) h_2 ⟨⟩ ⟨⟩)
 (fun D_4 h_15 =>
 Hp Tryz.prog false (Instr.loadAt 44 s2) (fun t12 h_16 => 
 RetD D_4 h_16 (fun h_17 =>
 R t12 h_17) ⟨⟩) h_15 ⟨⟩) h_1 ⟨⟩ ⟨⟩) h ⟨⟩

theorem n82_calls {s0 seq1 : Value} {R : Value → Heap → Prop} {h : Heap} (H : n82 s0 seq1 R h) : CallsH Tryz.prog 82 #[s0, seq1] h R ⟨⟩ :=
 callsH_of_eq Tryz.follow (.n none .l (.n (some [0]) (.n none .l (.n (some [0]) .l .l)) .l)) Tryz.func82 (by kernel_rfl) (by kernel_rfl) (by kernel_rfl) H

/-- slices.pdqsortOrdered[int64] -/
def n83 (data0 a1 b2 limit3 : Value) (R : Value → Heap → Prop) (h : Heap) : Prop :=
 LoopC 5 (fun (X : Value → Value → Value → Value → Value → Heap → Prop) => fun a1_1 b2_1 limit3_1 wasBalanced8 wasPartitioned9 h_1 =>
 JoinN 5 (fun (k : Value → Value → Value → Value → Value → Heap → Prop) h_2 =>
 Hp Tryz.prog false (binS .sub 3 (.tmp 19) (.tmp 20) b2_1 a1_1) (fun t21 h_3 => 
 Hp Tryz.prog false (binS .leq 3 (.tmp 22) (.const (.int .i64 12)) t21 (.int .i64 12)) (fun t23 h_4 => 
 CondP t23 (
 CallsH Tryz.prog 89 #[data0, a1_1, b2_1] h_4 (fun t27 h_5 => 
 R (.tuple #[]) h_5) ⟨⟩) (
 Hp Tryz.prog false (binS .eql 3 (.tmp 28) (.const (.int .i64 0)) limit3_1 (.int .i64 0)) (fun t29 h_6 => 
 CondP t29 (
 CallsH Tryz.prog 90 #[data0, a1_1, b2_1] h_6 (fun t33 h_7 => 
 R (.tuple #[]) h_7) ⟨⟩) (
 JoinN 1 (fun (k_1 : Value → Heap → Prop) h_8 =>
 Hp Tryz.prog false (Op.unary .not wasBalanced8) (fun t35 h_9 => 
 CondP t35 (
 CallsH Tryz.prog 91 #[data0, a1_1, b2_1] h_9 (fun t39 h_10 => 
 Hp Tryz.prog false (binS .sub 3 (.tmp 40) (.const (.int .i64 1)) limit3_1 (.int .i64 1)) (fun t41 h_11 => 
 k_1 t41 h_11) h_10 ⟨⟩) ⟨⟩) (
 k_1 limit3_1 h_9) ⟨⟩ ⟨⟩) h_8 ⟨⟩)
 (fun limit3_2 h_12 =>
 CallsH Tryz.prog 92 #[data0, a1_1, b2_1] h_12 (fun t46 h_13 => 
 Hp Tryz.prog false (Instr.extract t46 0) (fun t47 h_14 => 
 Hp Tryz.prog false (Instr.extract t46 1) (fun t48 h_15 => 
 JoinN 2 (fun (k_2 : Value → Value → Heap → Prop) h_16 =>
 Hp Tryz.prog false (binS .eql 142 (.tmp 49) (.const (.int .i64 2)) t48 (.int .i64 2)) (fun t50 h_17 => 
 CondP t50 (
 CallsH Tryz.prog 93 #[data0, a1_1, b2_1] h_17 (fun t54 h_18 => 
 Hp Tryz.prog false (binS .sub 3 (.tmp 55) (.const (.int .i64 1)) b2_1 (.int .i64 1)) (fun t56 h_19 => 
 Hp Tryz.prog false (binS .sub 3 (.tmp 57) (.tmp 58) t47 a1_1) (fun t59 h_20 => 
 Hp Tryz.prog false (binS .sub 3 (.tmp 56) (.tmp 59) t56 t59) (fun t60 h_21 => 
 k_2 t60 (.int .i64 1) h_21) h_20 ⟨⟩) h_19 ⟨⟩) h_18 ⟨⟩) ⟨⟩) (
 k_2 t47 t48 h_17) ⟨⟩ ⟨⟩) h_16 ⟨⟩)
 (fun pivot11 hint12 h_22 =>
 JoinN 0 (fun (k_3 : Heap → Prop) h_23 =>
 Join1 (fun k_4 h_24 => guardP wasBalanced8 true (k_4 wasPartitioned9 h_24) (k_4 undef h_24) ⟨⟩ ⟨⟩) (fun t63 h_25 => 
 Hp Tryz.prog false (pickS wasBalanced8 t63 (.bool false)) (fun t64 h_26 => 
 Join1 (fun k_5 h_27 => guardP t64 true (k_5 hint12 h_27) (k_5 undef h_27) ⟨⟩ ⟨⟩) (fun t66 h_28 => 
 Join1 (fun k_6 h_29 => guardP t64 true (Hp Tryz.prog false (binS .eql 142 (.tmp 66) (.const (.int .i64 1)) t66 (.int .i64 1)) k_6 h_29 ⟨⟩) (k_6 undef h_29) ⟨⟩ ⟨⟩) (fun t67 h_30 => 
 Hp Tryz.prog false (pickS t64 t67 (.bool false)) (fun t68 h_31 => 
 CondP t68 (
 CallsH Tryz.prog 94 #[data0, a1_1, b2_1] h_31 (fun t72 h_32 => 
 CondP t72 (
 R (.tuple #[]) h_32) (
 k_3 h_32) ⟨⟩ ⟨⟩) ⟨⟩) (
 k_3 h_31) ⟨⟩ ⟨⟩) h_30 ⟨⟩) h_28 ⟨⟩ ⟨⟩) h_26 ⟨⟩ ⟨⟩) h_25 ⟨⟩) h_23 ⟨⟩ ⟨⟩)
 (fun h_33 =>
 Hp Tryz.prog true (binS .gtr 3 (.tmp 73) (.const (.int .i64 0)) a1_1 (.int .i64 0)) (fun t74 _ => 
 Join1 (fun k_7 h_34 => guardP t74 true (k_7 data0 h_34) (k_7 undef h_34) ⟨⟩ ⟨⟩) (fun t76 _ => 
 Join1 (fun k_8 h_35 => guardP t74 true (k_8 a1_1 h_35) (k_8 undef h_35) ⟨⟩ ⟨⟩) (fun t77 _ => 
 Join1 (fun k_9 h_36 => guardP t74 true (Hp Tryz.prog true (binS .sub 3 (.tmp 77) (.const (.int .i64 1)) t77 (.int .i64 1)) k_9 h_36 ⟨⟩) (k_9 undef h_36) ⟨⟩ ⟨⟩) (fun t78 _ => 
 Join1 (fun k_10 h_37 => guardP t74 true (Hp Tryz.prog true (Instr.indexAt 44 t76 t78) k_10 h_37 ⟨⟩) (k_10 undef h_37) ⟨⟩ ⟨⟩) (fun t79 _ => 
 Join1 (fun k_11 h_38 => guardP t74 true (Hp Tryz.prog true (Instr.loadAt 2 t79) k_11 h_38 ⟨⟩) (k_11 undef h_38) ⟨⟩ ⟨⟩) (fun t80 _ => 
 Join1 (fun k_12 h_39 => guardP t74 true (k_12 data0 h_39) (k_12 undef h_39) ⟨⟩ ⟨⟩) (fun t81 _ => 
 Join1 (fun k_13 h_40 => guardP t74 true (k_13 pivot11 h_40) (k_13 undef h_40) ⟨⟩ ⟨⟩) (fun t82 _ => 
 Join1 (fun k_14 h_41 => guardP t74 true (Hp Tryz.prog true (Instr.indexAt 44 t81 t82) k_14 h_41 ⟨⟩) (k_14 undef h_41) ⟨⟩ ⟨⟩) (fun t83 _ => 
 Join1 (fun k_15 h_42 => guardP t74 true (Hp Tryz.prog true (Instr.loadAt 2 t83) k_15 h_42 ⟨⟩) (k_15 undef h_42) ⟨⟩ ⟨⟩) (fun t84 _ => 
 Join1 (fun k_16 h_43 => guardP t74 true (CallsH Tryz.prog 95 #[t80, t84] h_43 k_16 ⟨⟩) (k_16 undef h_43) ⟨⟩ ⟨⟩) (fun t85 h_44 => 
 Join1 (fun k_17 h_45 => guardP t74 true (Hp Tryz.prog true (Op.unary .not t85) k_17 h_45 ⟨⟩) (k_17 undef h_45) ⟨⟩ ⟨⟩) (fun t86 _ => 
 Hp Tryz.prog true (pickS t74 t86 (.bool false)) (fun t87 _ => 
 CondP t87 (
 CallsH Tryz.prog 96 #[data0, a1_1, b2_1, pivot11] h_44 (fun t92 h_46 => 
 k t92 b2_1 limit3_2 wasBalanced8 wasPartitioned9 h_46) ⟨⟩) (
 CallsH Tryz.prog 97 #[data0, a1_1, b2_1, pivot11] h_44 (fun t99 h_47 => 
 Hp Tryz.prog false (Instr.extract t99 0) (fun t100 h_48 => 
 Hp Tryz.prog false (Instr.extract t99 1) (fun t101 h_49 => 
 Hp Tryz.prog false (binS .sub 3 (.tmp 103) (.tmp 104) t100 a1_1) (fun t105 h_50 => 
 Hp Tryz.prog false (binS .sub 3 (.tmp 106) (.tmp 107) b2_1 t100) (fun t108 h_51 => 
 Hp Tryz.prog false (binS .quo 3 (.tmp 109) (.const (.int .i64 8)) t21 (.int .i64 8)) (fun t110 h_52 => 
 Hp Tryz.prog false (binS .lss 3 (.tmp 111) (.tmp 112) t105 t108) (fun t113 h_53 => 
 CondP t113 (
 Hp Tryz.prog false (binS .geq 3 (.tmp 114) (.tmp 115) t105 t110) (fun t116 h_54 => 
 CallsH Tryz.prog 83 #[data0, a1_1, t100, limit3_2] h_54 (fun t121 h_55 => 
 Hp Tryz.prog false (binS .add 3 (.tmp 122) (.const (.int .i64 1)) t100 (.int .i64 1)) (fun t123 h_56 => 
 k t123 b2_1 limit3_2 t116 t101 h_56) h_55 ⟨⟩) ⟨⟩) h_53 ⟨⟩) (
 Hp Tryz.prog false (binS .geq 3 (.tmp 124) (.tmp 125) t108 t110) (fun t126 h_57 => 
 Hp Tryz.prog false (binS .add 3 (.tmp 128) (.const (.int .i64 1)) t100 (.int .i64 1)) (fun t129 h_58 => 
 CallsH Tryz.prog 83 #[data0, t129, b2_1, limit3_2] h_58 (fun t132 h_59 => 
 k a1_1 t100 limit3_2 t126 t101 h_59) ⟨⟩) h_57 ⟨⟩) h_53 ⟨⟩) ⟨⟩ ⟨⟩) h_52 ⟨⟩) h_51 ⟨⟩) h_50 ⟨⟩) h_49 ⟨⟩) h_48 ⟨⟩) h_47 ⟨⟩) ⟨⟩) ⟨⟩ ⟨⟩) #[] ⟨⟩) #[] ⟨⟩ ⟨⟩) h_33 ⟨⟩ ⟨⟩) h_33 ⟨⟩ ⟨⟩) #[] ⟨⟩ ⟨⟩) #[] ⟨⟩ ⟨⟩) #[] ⟨⟩ ⟨⟩) h_33 ⟨⟩ ⟨⟩) #[] ⟨⟩ ⟨⟩) #[] ⟨⟩ ⟨⟩) #[] ⟨⟩ ⟨⟩) #[] ⟨⟩ ⟨⟩) #[] ⟨⟩) h_22 ⟨⟩ ⟨⟩) h_15 ⟨⟩ ⟨⟩) h_14 ⟨⟩) h_13 ⟨⟩) ⟨⟩) h_6 ⟨⟩ ⟨⟩) ⟨⟩ ⟨⟩) h_4 ⟨⟩) ⟨⟩ ⟨⟩) h_3 ⟨⟩) h_2 ⟨⟩)
 (fun a1_2 b2_2 limit3_3 wasBalanced8_1 wasPartitioned9_1 h_60 =>
 X a1_2 b2_2 limit3_3 wasBalanced8_1 wasPartitioned9_1 h_60) h_1 ⟨⟩ ⟨⟩) [a1, b2, limit3, (.bool true), (.bool true)] h ⟨⟩

theorem n83_calls {data0 a1 b2 limit3 : Value} {R : Value → Heap → Prop} {h : Heap} (H : n83 data0 a1 b2 limit3 R h) : CallsH Tryz.prog 83 #[data0, a1, b2, limit3] h R ⟨⟩ :=
 callsH_of_eq Tryz.follow (.n none .l (.n none .l (.n none (.n (some [2, 3, 4, 9, 10]) (.n (some [2, 3, 4, 9, 10]) (.n none .l (.n none .l (.n none .l (.n (some [4]) .l (.n none .l (.n (some [12, 13]) .l (.n (some []) .l .l))))))) .l) .l) .l))) Tryz.func83 (by kernel_rfl) (by kernel_rfl) (by kernel_rfl) H

/-- math/bits.Len -/
def n84 (x0 : Value) (R : Value → Heap → Prop) (h : Heap) : Prop :=
 CondP (.bool false) (
 Hp Tryz.prog false (convert 137 150 x0) (fun t4 h_1 => 
 CallsH Tryz.prog 98 #[t4] h_1 (fun t5 h_2 => 
 R t5 h_2) ⟨⟩) h ⟨⟩) (
 CallsH Tryz.prog 99 #[x0] h (fun t7 h_3 => 
 R t7 h_3) ⟨⟩) ⟨⟩ ⟨⟩

theorem n84_calls {x0 : Value} {R : Value → Heap → Prop} {h : Heap} (H : n84 x0 R h) : CallsH Tryz.prog 84 #[x0] h R ⟨⟩ :=
 callsH_of_eq Tryz.follow .l Tryz.func84 (by kernel_rfl) (by kernel_rfl) (by kernel_rfl) H

/-- slices.Collect[string] -/
def n85 (seq0 : Value) (R : Value → Heap → Prop) (h : Heap) : Prop :=
 CallsH Tryz.prog 100 #[(.slice none 0 0), seq0] h (fun t4 h_1 => 
 R t4 h_1) ⟨⟩

theorem n85_calls {seq0 : Value} {R : Value → Heap → Prop} {h : Heap} (H : n85 seq0 R h) : CallsH Tryz.prog 85 #[seq0] h R ⟨⟩ :=
 callsH_of_eq Tryz.follow .l Tryz.func85 (by kernel_rfl) (by kernel_rfl) (by kernel_rfl) H

/-- slices.Sort[[]string,string] -/
def n86 (x0 : Value) (R : Value → Heap → Prop) (h : Heap) : Prop :=
 Hp Tryz.prog false (Builtin.len_ #[105] 3 #[x0]) (fun t4 h_1 => 
 Hp Tryz.prog false (convert 3 137 t4) (fun t8 h_2 => 
 CallsH Tryz.prog 84 #[t8] h_2 (fun t9 h_3 => 
 CallsH Tryz.prog 101 #[x0, (.int .i64 0), t4, t9] h_3 (fun t10 h_4 => 
 R (.tuple #[]) h_4) ⟨⟩) ⟨⟩) h_1 ⟨⟩) h ⟨⟩

theorem n86_calls {x0 : Value} {R : Value → Heap → Prop} {h : Heap} (H : n86 x0 R h) : CallsH Tryz.prog 86 #[x0] h R ⟨⟩ :=
 callsH_of_eq Tryz.follow .l Tryz.func86 (by kernel_rfl) (by kernel_rfl) (by kernel_rfl) H

/-- maps.Keys[map[string]*palimpsest/model.image,string,*palimpsest/model.image]$1 -/
def n87 (yield0 t1 : Value) (R : Value → Heap → Prop) (h : Heap) : Prop :=
 Hp Tryz.prog false (Instr.loadAt 85 t1) (fun t4 h_1 => 
 Hp Tryz.prog false (Instr.range 85 t4) (fun t5 h_2 => 
 LoopC 0 (fun (X : Heap → Prop) => fun h_3 =>
 Hp Tryz.prog false (Instr.next t5 false 0) (fun t6 h_4 => 
 Hp Tryz.prog false (Instr.extract t6 0) (fun t7 h_5 => 
 CondP t7 (
 Hp Tryz.prog false (Instr.entry t5) (fun t8 h_6 => 
 Hp Tryz.prog false (Instr.extract t8 0) (fun t9 h_7 => 
 InvokeH Tryz.prog yield0 #[t9] h_7 (fun t12 h_8 => 
 Hp Tryz.prog false (Op.unary .not t12) (fun t13 h_9 => 
 CondP t13 (
 R (.tuple #[]) h_9) (
 X h_9) ⟨⟩ ⟨⟩) h_8 ⟨⟩) ⟨⟩) h_6 ⟨⟩) h_5 ⟨⟩) (
 R (.tuple #[]) h_5) ⟨⟩ ⟨⟩) h_4 ⟨⟩) h_3 ⟨⟩) [] h_2 ⟨⟩) h_1 ⟨⟩) h ⟨⟩

theorem n87_calls {yield0 t1 : Value} {R : Value → Heap → Prop} {h : Heap} (H : n87 yield0 t1 R h) : CallsH Tryz.prog 87 #[yield0, t1] h R ⟨⟩ :=
 callsH_of_eq Tryz.follow (.n none .l (.n none (.n (some []) .l .l) .l)) Tryz.func87 (by kernel_rfl) (by kernel_rfl) (by kernel_rfl) H

/-- strings.indexFunc -/
def n88 (s0 f1 truth2 : Value) (R : Value → Heap → Prop) (h : Heap) : Prop :=
 Hp Tryz.prog false (Instr.range 9 s0) (fun t10 h_1 => 
 LoopC 0 (fun (X : Heap → Prop) => fun h_2 =>
 Hp Tryz.prog false (Instr.next t10 true 0) (fun t11 h_3 => 
 Hp Tryz.prog false (Instr.extract t11 0) (fun t12 h_4 => 
 CondP t12 (
 Hp Tryz.prog false (Instr.extract t11 1) (fun t13 h_5 => 
 Hp Tryz.prog false (Instr.extract t11 2) (fun t14 h_6 => 
 InvokeH Tryz.prog f1 #[t14] h_6 (fun t17 h_7 => 
 Hp Tryz.prog false (binS .eql 4 (.tmp 17) (.tmp 18) t17 truth2) (fun t19 h_8 => 
 CondP t19 (
 R t13 h_8) (
 X h_8) ⟨⟩ ⟨⟩) h_7 ⟨⟩) ⟨⟩) h_5 ⟨⟩) h_4 ⟨⟩) (
 R (.int .i64 (-1)) h_4) ⟨⟩ ⟨⟩) h_3 ⟨⟩) h_2 ⟨⟩) [] h_1 ⟨⟩) h ⟨⟩

theorem n88_calls {s0 f1 truth2 : Value} {R : Value → Heap → Prop} {h : Heap} (H : n88 s0 f1 truth2 R h) : CallsH Tryz.prog 88 #[s0, f1, truth2] h R ⟨⟩ :=
 callsH_of_eq Tryz.follow (.n none .l (.n none (.n none .l (.n none (.n (some []) .l .l) .l)) .l)) Tryz.func88 (by kernel_rfl) (by kernel_rfl) (by kernel_rfl) H

/-- slices.insertionSortOrdered[int64] -/
def n89 (data0 a1 b2 : Value) (R : Value → Heap → Prop) (h : Heap) : Prop :=
 Hp Tryz.prog false (binS .add 3 (.tmp 8) (.const (.int .i64 1)) a1 (.int .i64 1)) (fun t9 h_1 => 
 LoopC 1 (fun (X : Value → Heap → Prop) => fun i6 h_2 =>
 Hp Tryz.prog false (binS .lss 3 (.tmp 10) (.tmp 11) i6 b2) (fun t12 h_3 => 
 CondP t12 (
 LoopC 1 (fun (X_1 : Value → Heap → Prop) => fun j7 h_4 =>
 Hp Tryz.prog true (binS .gtr 3 (.tmp 16) (.tmp 17) j7 a1) (fun t18 _ => 
 Join1 (fun k h_5 => guardP t18 true (k data0 h_5) (k undef h_5) ⟨⟩ ⟨⟩) (fun t20 _ => 
 Join1 (fun k_1 h_6 => guardP t18 true (k_1 j7 h_6) (k_1 undef h_6) ⟨⟩ ⟨⟩) (fun t21 _ => 
 Join1 (fun k_2 h_7 => guardP t18 true (Hp Tryz.prog true (Instr.indexAt 44 t20 t21) k_2 h_7 ⟨⟩) (k_2 undef h_7) ⟨⟩ ⟨⟩) (fun t22 _ => 
 Join1 (fun k_3 h_8 => guardP t18 true (Hp Tryz.prog true (Instr.loadAt 2 t22) k_3 h_8 ⟨⟩) (k_3 undef h_8) ⟨⟩ ⟨⟩) (fun t23 _ => 
 Join1 (fun k_4 h_9 => guardP t18 true (k_4 data0 h_9) (k_4 undef h_9) ⟨⟩ ⟨⟩) (fun t24 _ => 
 Join1 (fun k_5 h_10 => guardP t18 true (k_5 j7 h_10) (k_5 undef h_10) ⟨⟩ ⟨⟩) (fun t25 _ => 
 Join1 (fun k_6 h_11 => guardP t18 true (Hp Tryz.prog true (binS .sub 3 (.tmp 25) (.const (.int .i64 1)) t25 (.int .i64 1)) k_6 h_11 ⟨⟩) (k_6 undef h_11) ⟨⟩ ⟨⟩) (fun t26 _ => 
 Join1 (fun k_7 h_12 => guardP t18 true (Hp Tryz.prog true (Instr.indexAt 44 t24 t26) k_7 h_12 ⟨⟩) (k_7 undef h_12) ⟨⟩ ⟨⟩) (fun t27 _ => 
 Join1 (fun k_8 h_13 => guardP t18 true (Hp Tryz.prog true (Instr.loadAt 2 t27) k_8 h_13 ⟨⟩) (k_8 undef h_13) ⟨⟩ ⟨⟩) (fun t28 _ => 
 Join1 (fun k_9 h_14 => guardP t18 true (CallsH Tryz.prog 95 #[t23, t28] h_14 k_9 ⟨⟩) (k_9 undef h_14) ⟨⟩ ⟨⟩) (fun t29 h_15 => 
 Hp Tryz.prog true (pickS t18 t29 (.bool false)) (fun t30 _ => 
 CondP t30 (
 Hp Tryz.prog true (binS .sub 3 (.tmp 36) (.const (.int .i64 1)) j7 (.int .i64 1)) (fun t37 _ => 
 Hp Tryz.prog true (binS .sub 3 (.tmp 39) (.const (.int .i64 1)) j7 (.int .i64 1)) (fun t40 _ => 
 Hp Tryz.prog true (Instr.indexAt 44 data0 t40) (fun t41 _ => 
 Hp Tryz.prog true (Instr.loadAt 2 t41) (fun t42 _ => 
 Hp Tryz.prog true (Instr.indexAt 44 data0 j7) (fun t45 _ => 
 Hp Tryz.prog true (Instr.loadAt 2 t45) (fun t46 _ => 
 Hp Tryz.prog true (Instr.indexAt 44 data0 j7) (fun t47 _ => 
 Hp Tryz.prog false (storeS 2 t47 t42) (fun _ h_16 => 
 Hp Tryz.prog true (Instr.indexAt 44 data0 t37) (fun t48 _ => 
 Hp Tryz.prog false (storeS 2 t48 t46) (fun _ h_17 => 
 Hp Tryz.prog false (binS .sub 3 (.tmp 31) (.const (.int .i64 1)) j7 (.int .i64 1)) (fun t32 h_18 => 
 X_1 t32 h_18) h_17 ⟨⟩) h_16 ⟨⟩) #[] ⟨⟩) h_15 ⟨⟩) #[] ⟨⟩) h_15 ⟨⟩) #[] ⟨⟩) h_15 ⟨⟩) #[] ⟨⟩) #[] ⟨⟩) #[] ⟨⟩) (
 Hp Tryz.prog false (binS .add 3 (.tmp 13) (.const (.int .i64 1)) i6 (.int .i64 1)) (fun t14 h_19 => 
 X t14 h_19) h_15 ⟨⟩) ⟨⟩ ⟨⟩) #[] ⟨⟩) h_4 ⟨⟩ ⟨⟩) h_4 ⟨⟩ ⟨⟩) #[] ⟨⟩ ⟨⟩) #[] ⟨⟩ ⟨⟩) #[] ⟨⟩ ⟨⟩) #[] ⟨⟩ ⟨⟩) h_4 ⟨⟩ ⟨⟩) #[] ⟨⟩ ⟨⟩) #[] ⟨⟩ ⟨⟩) #[] ⟨⟩ ⟨⟩) #[] ⟨⟩) [i6] h_3 ⟨⟩) (
 R (.tuple #[]) h_3) ⟨⟩ ⟨⟩) h_2 ⟨⟩) [t9] h_1 ⟨⟩) h ⟨⟩

theorem n89_calls {data0 a1 b2 : Value} {R : Value → Heap → Prop} {h : Heap} (H : n89 data0 a1 b2 R h) : CallsH Tryz.prog 89 #[data0, a1, b2] h R ⟨⟩ :=
 callsH_of_eq Tryz.follow (.n none .l (.n none (.n (some [7]) (.n none .l (.n none (.n none (.n none .l (.n none (.n (some [8]) .l .l) .l)) .l) .l)) .l) .l)) Tryz.func89 (by kernel_rfl) (by kernel_rfl) (by kernel_rfl) H

/-- slices.heapSortOrdered[int64] -/
def n90 (data0 a1 b2 : Value) (R : Value → Heap → Prop) (h : Heap) : Prop :=
 Hp Tryz.prog false (binS .sub 3 (.tmp 12) (.tmp 13) b2 a1) (fun t14 h_1 => 
 Hp Tryz.prog false (binS .sub 3 (.tmp 15) (.const (.int .i64 1)) t14 (.int .i64 1)) (fun t16 h_2 => 
 Hp Tryz.prog false (binS .quo 3 (.tmp 16) (.const (.int .i64 2)) t16 (.int .i64 2)) (fun t17 h_3 => 
 LoopC 1 (fun (X : Value → Heap → Prop) => fun i9 h_4 =>
 Hp Tryz.prog false (binS .geq 3 (.tmp 18) (.const (.int .i64 0)) i9 (.int .i64 0)) (fun t19 h_5 => 
 CondP t19 (
 CallsH Tryz.prog 102 #[data0, i9, t14, a1] h_5 (fun t26 h_6 => 
 Hp Tryz.prog false (binS .sub 3 (.tmp 20) (.const (.int .i64 1)) i9 (.int .i64 1)) (fun t21 h_7 => 
 X t21 h_7) h_6 ⟨⟩) ⟨⟩) (
 Hp Tryz.prog false (binS .sub 3 (.tmp 27) (.const (.int .i64 1)) t14 (.int .i64 1)) (fun t28 h_8 => 
 LoopC 1 (fun (X_1 : Value → Heap → Prop) => fun i10 h_9 =>
 Hp Tryz.prog false (binS .geq 3 (.tmp 29) (.const (.int .i64 0)) i10 (.int .i64 0)) (fun t30 h_10 => 
 CondP t30 (
 Hp Tryz.prog true (binS .add 3 (.tmp 36) (.tmp 37) a1 i10) (fun t38 _ => 
 Hp Tryz.prog true (binS .add 3 (.tmp 40) (.tmp 41) a1 i10) (fun t42 _ => 
 Hp Tryz.prog true (Instr.indexAt 44 data0 t42) (fun t43 _ => 
 Hp Tryz.prog true (Instr.loadAt 2 t43) (fun t44 _ => 
 Hp Tryz.prog true (Instr.indexAt 44 data0 a1) (fun t47 _ => 
 Hp Tryz.prog true (Instr.loadAt 2 t47) (fun t48 _ => 
 Hp Tryz.prog true (Instr.indexAt 44 data0 a1) (fun t49 _ => 
 Hp Tryz.prog false (storeS 2 t49 t44) (fun _ h_11 => 
 Hp Tryz.prog true (Instr.indexAt 44 data0 t38) (fun t50 _ => 
 Hp Tryz.prog false (storeS 2 t50 t48) (fun _ h_12 => 
 CallsH Tryz.prog 102 #[data0, (.int .i64 0), i10, a1] h_12 (fun t55 h_13 => 
 Hp Tryz.prog false (binS .sub 3 (.tmp 31) (.const (.int .i64 1)) i10 (.int .i64 1)) (fun t32 h_14 => 
 X_1 t32 h_14) h_13 ⟨⟩) ⟨⟩) h_11 ⟨⟩) #[] ⟨⟩) h_10 ⟨⟩) #[] ⟨⟩) h_10 ⟨⟩) #[] ⟨⟩) h_10 ⟨⟩) #[] ⟨⟩) #[] ⟨⟩) #[] ⟨⟩) (
 R (.tuple #[]) h_10) ⟨⟩ ⟨⟩) h_9 ⟨⟩) [t28] h_8 ⟨⟩) h_5 ⟨⟩) ⟨⟩ ⟨⟩) h_4 ⟨⟩) [t17] h_3 ⟨⟩) h_2 ⟨⟩) h_1 ⟨⟩) h ⟨⟩

theorem n90_calls {data0 a1 b2 : Value} {R : Value → Heap → Prop} {h : Heap} (H : n90 data0 a1 b2 R h) : CallsH Tryz.prog 90 #[data0, a1, b2] h R ⟨⟩ :=
 callsH_of_eq Tryz.follow (.n none .l (.n none .l (.n none .l (.n none (.n none .l (.n none (.n (some [10]) .l .l) .l)) (.n none .l (.n none (.n (some [11]) .l .l) .l)))))) Tryz.func90 (by kernel_rfl) (by kernel_rfl) (by kernel_rfl) H

end Go.Proofs.YtoonjlhfgjnnmaaGreat

/- Printed by wip/tools/gen.py: the condition of each function, and that a call meets it. -/
import Derived.Test.YtcgboagadgehjaaVcFun
import Derived.Test.YtcgboagadgehjaaProg
import Derived.Test.YtcgboagadgehjaaNiceK
set_option maxRecDepth 100000
set_option linter.unusedVariables false
namespace Go.Proofs.Ytcgboagadgehjaa
open Go.Vc

/-- palimpsest/model.New -/
def n7 (R : Value → Heap → Prop) (h : Heap) : Prop :=
 Hp Try.prog false (Instr.makeMap 53 none) (fun t1 h_1 => 
 Hp Try.prog false (Instr.build 55 #[(0, t1)]) (fun t2 h_2 => 
 Hp Try.prog false (Instr.box 55 t2) (fun t3 h_3 => 
 R t3 h_3) h_2 ⟨⟩) h_1 ⟨⟩) h ⟨⟩

theorem n7_calls {R : Value → Heap → Prop} {h : Heap} (H : n7  R h) : CallsH Try.prog 7 #[] h R ⟨⟩ :=
 callsH_of_eq Try.follow .l Try.func7 (by kernel_rfl) (by kernel_rfl) (by kernel_rfl) H

/-- (*palimpsest/model.World).Create -/
def n9 (w0 name1 size2 bits3 backing4 : Value) (R : Value → Heap → Prop) (h : Heap) : Prop :=
 CallsH Try.prog 18 #[w0] h (fun t13 h_1 => 
 CondP t13 (
 R (.int .i64 1) h_1) (
 Hp Try.prog false (Instr.buildSlice 82 1 #[(0, name1)]) (fun t16 h_2 => 
 CallsH Try.prog 19 #[t16] h_2 (fun t17 h_3 => 
 Hp Try.prog false (Op.unary .not t17) (fun t18 h_4 => 
 Join1 (fun k h_5 => guardP t18 false (k size2 h_5) (k undef h_5) ⟨⟩ ⟨⟩) (fun t20 h_6 => 
 Join1 (fun k_1 h_7 => guardP t18 false (CallsH Try.prog 20 #[t20] h_7 k_1 ⟨⟩) (k_1 undef h_7) ⟨⟩ ⟨⟩) (fun t21 h_8 => 
 Join1 (fun k_2 h_9 => guardP t18 false (Hp Try.prog false (Op.unary .not t21) k_2 h_9 ⟨⟩) (k_2 undef h_9) ⟨⟩ ⟨⟩) (fun t22 h_10 => 
 Hp Try.prog false (pickS t18 (.bool true) t22) (fun t23 h_11 => 
 Join1 (fun k_3 h_12 => guardP t23 false (k_3 bits3 h_12) (k_3 undef h_12) ⟨⟩ ⟨⟩) (fun t25 h_13 => 
 Join1 (fun k_4 h_14 => guardP t23 false (CallsH Try.prog 21 #[t25] h_14 k_4 ⟨⟩) (k_4 undef h_14) ⟨⟩ ⟨⟩) (fun t26 h_15 => 
 Join1 (fun k_5 h_16 => guardP t23 false (Hp Try.prog false (Op.unary .not t26) k_5 h_16 ⟨⟩) (k_5 undef h_16) ⟨⟩ ⟨⟩) (fun t27 h_17 => 
 Hp Try.prog false (pickS t23 (.bool true) t27) (fun t28 h_18 => 
 Join1 (fun k_6 h_19 => guardP t28 false (k_6 backing4 h_19) (k_6 undef h_19) ⟨⟩ ⟨⟩) (fun t30 h_20 => 
 Join1 (fun k_7 h_21 => guardP t28 false (Hp Try.prog false (binS .neq 9 (.tmp 30) (.const (str [])) t30 (str [])) k_7 h_21 ⟨⟩) (k_7 undef h_21) ⟨⟩ ⟨⟩) (fun t31 h_22 => 
 Join1 (fun k_8 h_23 => guardP t28 false (k_8 t31 h_23) (k_8 undef h_23) ⟨⟩ ⟨⟩) (fun t32 h_24 => 
 Join1 (fun k_9 h_25 => guardP t32 true (k_9 backing4 h_25) (k_9 undef h_25) ⟨⟩ ⟨⟩) (fun t33 h_26 => 
 Join1 (fun k_10 h_27 => guardP t32 true (Hp Try.prog false (Instr.buildSlice 82 1 #[(0, t33)]) k_10 h_27 ⟨⟩) (k_10 undef h_27) ⟨⟩ ⟨⟩) (fun t34 h_28 => 
 Join1 (fun k_11 h_29 => guardP t32 true (CallsH Try.prog 19 #[t34] h_29 k_11 ⟨⟩) (k_11 undef h_29) ⟨⟩ ⟨⟩) (fun t35 h_30 => 
 Join1 (fun k_12 h_31 => guardP t32 true (Hp Try.prog false (Op.unary .not t35) k_12 h_31 ⟨⟩) (k_12 undef h_31) ⟨⟩ ⟨⟩) (fun t36 h_32 => 
 Join1 (fun k_13 h_33 => guardP t28 false (Hp Try.prog false (pickS t32 t36 (.bool false)) k_13 h_33 ⟨⟩) (k_13 undef h_33) ⟨⟩ ⟨⟩) (fun t37 h_34 => 
 Hp Try.prog false (pickS t28 (.bool true) t37) (fun t38 h_35 => 
 CondP t38 (
 R (.int .i64 2) h_35) (
 Hp Try.prog false (binS .neq 9 (.tmp 40) (.const (str [])) backing4 (str [])) (fun t41 h_36 => 
 Join1 (fun k_14 h_37 => guardP t41 true (k_14 w0 h_37) (k_14 undef h_37) ⟨⟩ ⟨⟩) (fun t43 h_38 => 
 Join1 (fun k_15 h_39 => guardP t41 true (Hp Try.prog false (nilS t43) k_15 h_39 ⟨⟩) (k_15 undef h_39) ⟨⟩ ⟨⟩) (fun t44 h_40 => 
 Join1 (fun k_16 h_41 => guardP t41 true (Hp Try.prog false (Instr.fieldAt 55 t44 0) k_16 h_41 ⟨⟩) (k_16 undef h_41) ⟨⟩ ⟨⟩) (fun t45 h_42 => 
 Join1 (fun k_17 h_43 => guardP t41 true (Hp Try.prog false (Instr.loadAt 53 t45) k_17 h_43 ⟨⟩) (k_17 undef h_43) ⟨⟩ ⟨⟩) (fun t46 h_44 => 
 Join1 (fun k_18 h_45 => guardP t41 true (k_18 backing4 h_45) (k_18 undef h_45) ⟨⟩ ⟨⟩) (fun t47 h_46 => 
 Join1 (fun k_19 h_47 => guardP t41 true (Hp Try.prog false (Instr.lookup 53 t46 t47 false) k_19 h_47 ⟨⟩) (k_19 undef h_47) ⟨⟩ ⟨⟩) (fun t48 h_48 => 
 Join1 (fun k_20 h_49 => guardP t41 true (Hp Try.prog false (binS .eql 59 (.tmp 48) (.const (.pointer none)) t48 (.pointer none)) k_20 h_49 ⟨⟩) (k_20 undef h_49) ⟨⟩ ⟨⟩) (fun t49 h_50 => 
 Hp Try.prog false (pickS t41 t49 (.bool false)) (fun t50 h_51 => 
 CondP t50 (
 R (.int .i64 7) h_51) (
 Hp Try.prog false (nilS w0) (fun t53 h_52 => 
 Hp Try.prog false (Instr.fieldAt 55 t53 0) (fun t54 h_53 => 
 Hp Try.prog false (Instr.loadAt 53 t54) (fun t55 h_54 => 
 Hp Try.prog false (Instr.lookup 53 t55 name1 false) (fun t57 h_55 => 
 Hp Try.prog false (binS .neq 59 (.tmp 57) (.const (.pointer none)) t57 (.pointer none)) (fun t58 h_56 => 
 CondP t58 (
 R (.int .i64 8) h_56) (
 CallsH Try.prog 22 #[w0, backing4, (.int .i64 1)] h_56 (fun t62 h_57 => 
 CondP t62 (
 R (.int .i64 350) h_57) (
 Hp Try.prog false (nilS w0) (fun t64 h_58 => 
 Hp Try.prog false (Instr.fieldAt 55 t64 0) (fun t65 h_59 => 
 Hp Try.prog false (Instr.loadAt 53 t65) (fun t66 h_60 => 
 Hp Try.prog false (Instr.makeMap 62 none) (fun t72 h_61 => 
 Hp Try.prog false (Instr.build 66 #[(0, name1), (1, backing4), (2, size2), (3, bits3), (4, t72)]) (fun t73 h_62 => 
 Hp Try.prog false (Instr.box 66 t73) (fun t74 h_63 => 
 Hp Try.prog false (unitS (Instr.mapUpdate 53 t66 name1 t74)) (fun _ h_64 => 
 R (.int .i64 0) h_64) h_63 ⟨⟩) h_62 ⟨⟩) h_61 ⟨⟩) h_60 ⟨⟩) h_59 ⟨⟩) h_58 ⟨⟩) h_57 ⟨⟩) ⟨⟩ ⟨⟩) ⟨⟩) ⟨⟩ ⟨⟩) h_55 ⟨⟩) h_54 ⟨⟩) h_53 ⟨⟩) h_52 ⟨⟩) h_51 ⟨⟩) ⟨⟩ ⟨⟩) h_50 ⟨⟩) h_48 ⟨⟩ ⟨⟩) h_46 ⟨⟩ ⟨⟩) h_44 ⟨⟩ ⟨⟩) h_42 ⟨⟩ ⟨⟩) h_40 ⟨⟩ ⟨⟩) h_38 ⟨⟩ ⟨⟩) h_36 ⟨⟩ ⟨⟩) h_35 ⟨⟩) ⟨⟩ ⟨⟩) h_34 ⟨⟩) h_32 ⟨⟩ ⟨⟩) h_30 ⟨⟩ ⟨⟩) h_28 ⟨⟩ ⟨⟩) h_26 ⟨⟩ ⟨⟩) h_24 ⟨⟩ ⟨⟩) h_22 ⟨⟩ ⟨⟩) h_20 ⟨⟩ ⟨⟩) h_18 ⟨⟩ ⟨⟩) h_17 ⟨⟩) h_15 ⟨⟩ ⟨⟩) h_13 ⟨⟩ ⟨⟩) h_11 ⟨⟩ ⟨⟩) h_10 ⟨⟩) h_8 ⟨⟩ ⟨⟩) h_6 ⟨⟩ ⟨⟩) h_4 ⟨⟩ ⟨⟩) h_3 ⟨⟩) ⟨⟩) h_1 ⟨⟩) ⟨⟩ ⟨⟩) ⟨⟩

theorem n9_calls {w0 name1 size2 bits3 backing4 : Value} {R : Value → Heap → Prop} {h : Heap} (H : n9 w0 name1 size2 bits3 backing4 R h) : CallsH Try.prog 9 #[w0, name1, size2, bits3, backing4] h R ⟨⟩ :=
 callsH_of_eq Try.follow .l Try.func9 (by kernel_rfl) (by kernel_rfl) (by kernel_rfl) H

/-- (*palimpsest/model.World).Write -/
def n10 (w0 name1 at2 b3 : Value) (R : Value → Heap → Prop) (h : Heap) : Prop :=
 Hp Try.prog false (Builtin.len_ #[29] 3 #[b3]) (fun t13 h_1 => 
 Hp Try.prog false (binS .quo 3 (.tmp 13) (.const (.int .i64 512)) t13 (.int .i64 512)) (fun t14 h_2 => 
 Hp Try.prog false (Builtin.len_ #[29] 3 #[b3]) (fun t18 h_3 => 
 Hp Try.prog false (binS .rem 3 (.tmp 18) (.const (.int .i64 512)) t18 (.int .i64 512)) (fun t19 h_4 => 
 Hp Try.prog false (binS .eql 3 (.tmp 19) (.const (.int .i64 0)) t19 (.int .i64 0)) (fun t20 h_5 => 
 CallsH Try.prog 23 #[w0, t20, name1, at2, t14] h_5 (fun t24 h_6 => 
 Hp Try.prog false (Instr.extract t24 0) (fun t25 h_7 => 
 Hp Try.prog false (Instr.extract t24 1) (fun t26 h_8 => 
 Hp Try.prog false (binS .neq 27 (.tmp 27) (.const (.int .i64 0)) t26 (.int .i64 0)) (fun t28 h_9 => 
 CondP t28 (
 R t26 h_9) (
 CallsH Try.prog 24 #[w0, t25, at2, b3] h_9 (fun t34 h_10 => 
 CallsH Try.prog 25 #[t25, at2, t14] h_10 (fun t38 h_11 => 
 R (.int .i64 0) h_11) ⟨⟩) ⟨⟩) ⟨⟩ ⟨⟩) h_8 ⟨⟩) h_7 ⟨⟩) h_6 ⟨⟩) ⟨⟩) h_4 ⟨⟩) h_3 ⟨⟩) h_2 ⟨⟩) h_1 ⟨⟩) h ⟨⟩

theorem n10_calls {w0 name1 at2 b3 : Value} {R : Value → Heap → Prop} {h : Heap} (H : n10 w0 name1 at2 b3 R h) : CallsH Try.prog 10 #[w0, name1, at2, b3] h R ⟨⟩ :=
 callsH_of_eq Try.follow .l Try.func10 (by kernel_rfl) (by kernel_rfl) (by kernel_rfl) H

/-- (*palimpsest/model.World).Compare -/
def n11 (w0 a1 b2 : Value) (R : Value → Heap → Prop) (h : Heap) : Prop :=
 Hp Try.prog false (Instr.buildSlice 82 1 #[(0, b2)]) (fun t18 h_1 => 
 CallsH Try.prog 19 #[t18] h_1 (fun t19 h_2 => 
 CallsH Try.prog 26 #[w0, t19, a1] h_2 (fun t21 h_3 => 
 Hp Try.prog false (Instr.extract t21 0) (fun t22 h_4 => 
 Hp Try.prog false (Instr.extract t21 1) (fun t23 h_5 => 
 Hp Try.prog false (binS .neq 27 (.tmp 24) (.const (.int .i64 0)) t23 (.int .i64 0)) (fun t25 h_6 => 
 CondP t25 (
 R (.tuple #[(.int .i64 0), (.bool false), t23]) h_6) (
 CallsH Try.prog 26 #[w0, (.bool true), b2] h_6 (fun t30 h_7 => 
 Hp Try.prog false (Instr.extract t30 0) (fun t31 h_8 => 
 Hp Try.prog false (Instr.extract t30 1) (fun t32 h_9 => 
 Hp Try.prog false (binS .neq 27 (.tmp 33) (.const (.int .i64 0)) t32 (.int .i64 0)) (fun t34 h_10 => 
 CondP t34 (
 R (.tuple #[(.int .i64 0), (.bool false), t32]) h_10) (
 Hp Try.prog false (Instr.alloc 72 true undef) (fun p12 h_11 => 
 Hp Try.prog false (Instr.alloc 72 true undef) (fun q13 h_12 => 
 Hp Try.prog true (nilS t22) (fun t37 _ => 
 Hp Try.prog true (Instr.fieldAt 66 t37 2) (fun t38 _ => 
 Hp Try.prog true (Instr.loadAt 2 t38) (fun t39 _ => 
 Hp Try.prog true (nilS t31) (fun t41 _ => 
 Hp Try.prog true (Instr.fieldAt 66 t41 2) (fun t42 _ => 
 Hp Try.prog true (Instr.loadAt 2 t42) (fun t43 _ => 
 Hp Try.prog true (Builtin.max_ #[2, 2] 2 #[t39, t43]) (fun t44 _ => 
 Hp Try.prog true (binS .quo 2 (.tmp 44) (.const (.int .i64 512)) t44 (.int .i64 512)) (fun t45 _ => 
 LoopC 1 (fun (X : Value → Heap → Prop) => fun t46 h_13 =>
 Hp Try.prog false (binS .lss 2 (.tmp 46) (.tmp 45) t46 t45) (fun t47 h_14 => 
 CondP t47 (
 Hp Try.prog false (Instr.sliceAt 72 p12 none none none) (fun t50 h_15 => 
 CallsH Try.prog 27 #[w0, t50, t22, t46] h_15 (fun t53 h_16 => 
 Hp Try.prog false (Instr.sliceAt 72 q13 none none none) (fun t55 h_17 => 
 CallsH Try.prog 27 #[w0, t55, t31, t46] h_17 (fun t58 h_18 => 
 Hp Try.prog false (Instr.loadAt 72 p12) (fun t59 h_19 => 
 Hp Try.prog false (Instr.loadAt 72 q13) (fun t60 h_20 => 
 Hp Try.prog false (binS .neq 72 (.tmp 59) (.tmp 60) t59 t60) (fun t61 h_21 => 
 CondP t61 (
 R (.tuple #[t46, (.bool false), (.int .i64 0)]) h_21) (
 Hp Try.prog false (binS .add 2 (.tmp 46) (.const (.int .i64 1)) t46 (.int .i64 1)) (fun t63 h_22 => 
 X t63 h_22) h_21 ⟨⟩) ⟨⟩ ⟨⟩) h_20 ⟨⟩) h_19 ⟨⟩) h_18 ⟨⟩) ⟨⟩) h_16 ⟨⟩) ⟨⟩) h_14 ⟨⟩) (
 R (.tuple #[(.int .i64 0), (.bool true), (.int .i64 0)]) h_14) ⟨⟩ ⟨⟩) h_13 ⟨⟩) [(.int .i64 0)] h_12 ⟨⟩) #[] ⟨⟩) #[] ⟨⟩) h_12 ⟨⟩) #[] ⟨⟩) #[] ⟨⟩) h_12 ⟨⟩) #[] ⟨⟩) #[] ⟨⟩) h_11 ⟨⟩) h_10 ⟨⟩) ⟨⟩ ⟨⟩) h_9 ⟨⟩) h_8 ⟨⟩) h_7 ⟨⟩) ⟨⟩) ⟨⟩ ⟨⟩) h_5 ⟨⟩) h_4 ⟨⟩) h_3 ⟨⟩) ⟨⟩) ⟨⟩) h ⟨⟩

theorem n11_calls {w0 a1 b2 : Value} {R : Value → Heap → Prop} {h : Heap} (H : n11 w0 a1 b2 R h) : CallsH Try.prog 11 #[w0, a1, b2] h R ⟨⟩ :=
 callsH_of_eq Try.follow (.n none .l (.n none .l (.n none .l (.n none .l (.n none .l (.n none .l (.n none (.n none .l (.n none (.n (some [47]) .l .l) .l)) .l))))))) Try.func11 (by kernel_rfl) (by kernel_rfl) (by kernel_rfl) H

/-- (*palimpsest/model.World).Info -/
def n13 (w0 name1 : Value) (R : Value → Heap → Prop) (h : Heap) : Prop :=
 Hp Try.prog false (Instr.alloc 41 true undef) (fun t4 h_1 => 
 CallsH Try.prog 26 #[w0, (.bool true), name1] h_1 (fun t11 h_2 => 
 Hp Try.prog false (Instr.extract t11 0) (fun t12 h_3 => 
 Hp Try.prog false (Instr.extract t11 1) (fun t13 h_4 => 
 Hp Try.prog false (binS .neq 27 (.tmp 14) (.const (.int .i64 0)) t13 (.int .i64 0)) (fun t15 h_5 => 
 CondP t15 (
 Hp Try.prog false (Instr.build 41 #[]) (fun t16 h_6 => 
 Hp Try.prog false (storeS 41 t4 t16) (fun _ h_7 => 
 Hp Try.prog true (loadCell 41 t4) (fun r _ =>
 R (.tuple #[r, t13]) h_7) h_7 ⟨⟩) h_6 ⟨⟩) h_5 ⟨⟩) (
 CallsH Try.prog 28 #[t12] h_5 (fun t19 h_8 => 
 Hp Try.prog false (storeS 41 t4 t19) (fun _ h_9 => 
 Hp Try.prog true (loadCell 41 t4) (fun r_1 _ =>
 R (.tuple #[r_1, (.int .i64 0)]) h_9) h_9 ⟨⟩) h_8 ⟨⟩) ⟨⟩) ⟨⟩ ⟨⟩) h_4 ⟨⟩) h_3 ⟨⟩) h_2 ⟨⟩) ⟨⟩) h ⟨⟩

theorem n13_calls {w0 name1 : Value} {R : Value → Heap → Prop} {h : Heap} (H : n13 w0 name1 R h) : CallsH Try.prog 13 #[w0, name1] h R ⟨⟩ :=
 callsH_of_eq Try.follow .l Try.func13 (by kernel_rfl) (by kernel_rfl) (by kernel_rfl) H

/-- (*palimpsest/model.World).Own -/
def n14 (w0 name1 c2 : Value) (R : Value → Heap → Prop) (h : Heap) : Prop :=
 CallsH Try.prog 26 #[w0, (.bool true), name1] h (fun t15 h_1 => 
 Hp Try.prog false (Instr.extract t15 0) (fun t16 h_2 => 
 Hp Try.prog false (Instr.extract t15 1) (fun t17 h_3 => 
 Hp Try.prog false (binS .neq 27 (.tmp 19) (.const (.int .i64 0)) t17 (.int .i64 0)) (fun t20 h_4 => 
 CondP t20 (
 R (.tuple #[(.bool false), t17]) h_4) (
 Hp Try.prog false (binS .lss 2 (.tmp 23) (.const (.int .i64 0)) c2 (.int .i64 0)) (fun t24 h_5 => 
 Join1 (fun k h_6 => guardP t24 false (k c2 h_6) (k undef h_6) ⟨⟩ ⟨⟩) (fun t26 h_7 => 
 Join1 (fun k_1 h_8 => guardP t24 false (k_1 t16 h_8) (k_1 undef h_8) ⟨⟩ ⟨⟩) (fun t27 h_9 => 
 Join1 (fun k_2 h_10 => guardP t24 false (CallsH Try.prog 29 #[t27] h_10 k_2 ⟨⟩) (k_2 undef h_10) ⟨⟩ ⟨⟩) (fun t28 h_11 => 
 Join1 (fun k_3 h_12 => guardP t24 false (Hp Try.prog false (binS .geq 2 (.tmp 26) (.tmp 28) t26 t28) k_3 h_12 ⟨⟩) (k_3 undef h_12) ⟨⟩ ⟨⟩) (fun t29 h_13 => 
 Hp Try.prog false (pickS t24 (.bool true) t29) (fun t30 h_14 => 
 CondP t30 (
 R (.tuple #[(.bool false), (.int .i64 4)]) h_14) (
 Hp Try.prog false (nilS t16) (fun t33 h_15 => 
 Hp Try.prog false (Instr.fieldAt 66 t33 4) (fun t34 h_16 => 
 Hp Try.prog false (Instr.loadAt 62 t34) (fun t35 h_17 => 
 Hp Try.prog false (Instr.lookup 62 t35 c2 true) (fun t37 h_18 => 
 Hp Try.prog false (Instr.extract t37 0) (fun t38 h_19 => 
 Hp Try.prog false (Instr.extract t37 1) (fun t39 h_20 => 
 R (.tuple #[t39, (.int .i64 0)]) h_20) h_19 ⟨⟩) h_18 ⟨⟩) h_17 ⟨⟩) h_16 ⟨⟩) h_15 ⟨⟩) h_14 ⟨⟩) ⟨⟩ ⟨⟩) h_13 ⟨⟩) h_11 ⟨⟩ ⟨⟩) h_9 ⟨⟩ ⟨⟩) h_7 ⟨⟩ ⟨⟩) h_5 ⟨⟩ ⟨⟩) h_4 ⟨⟩) ⟨⟩ ⟨⟩) h_3 ⟨⟩) h_2 ⟨⟩) h_1 ⟨⟩) ⟨⟩

theorem n14_calls {w0 name1 c2 : Value} {R : Value → Heap → Prop} {h : Heap} (H : n14 w0 name1 c2 R h) : CallsH Try.prog 14 #[w0, name1, c2] h R ⟨⟩ :=
 callsH_of_eq Try.follow .l Try.func14 (by kernel_rfl) (by kernel_rfl) (by kernel_rfl) H

/-- (*palimpsest/model.World).Read -/
def n15 (w0 name1 at2 n3 : Value) (R : Value → Heap → Prop) (h : Heap) : Prop :=
 Hp Try.prog false (binS .geq 3 (.tmp 14) (.const (.int .i64 0)) n3 (.int .i64 0)) (fun t15 h_1 => 
 CallsH Try.prog 26 #[w0, t15, name1] h_1 (fun t17 h_2 => 
 Hp Try.prog false (Instr.extract t17 0) (fun t18 h_3 => 
 Hp Try.prog false (Instr.extract t17 1) (fun t19 h_4 => 
 Hp Try.prog false (binS .neq 27 (.tmp 21) (.const (.int .i64 0)) t19 (.int .i64 0)) (fun t22 h_5 => 
 CondP t22 (
 R (.tuple #[(.slice none 0 0), t19]) h_5) (
 CallsH Try.prog 30 #[t18, at2, n3] h_5 (fun t28 h_6 => 
 Hp Try.prog false (Op.unary .not t28) (fun t29 h_7 => 
 CondP t29 (
 R (.tuple #[(.slice none 0 0), (.int .i64 4)]) h_7) (
 CallsH Try.prog 31 #[w0, t18, at2, n3] h_7 (fun t34 h_8 => 
 R (.tuple #[t34, (.int .i64 0)]) h_8) ⟨⟩) ⟨⟩ ⟨⟩) h_6 ⟨⟩) ⟨⟩) ⟨⟩ ⟨⟩) h_4 ⟨⟩) h_3 ⟨⟩) h_2 ⟨⟩) ⟨⟩) h ⟨⟩

theorem n15_calls {w0 name1 at2 n3 : Value} {R : Value → Heap → Prop} {h : Heap} (H : n15 w0 name1 at2 n3 R h) : CallsH Try.prog 15 #[w0, name1, at2, n3] h R ⟨⟩ :=
 callsH_of_eq Try.follow .l Try.func15 (by kernel_rfl) (by kernel_rfl) (by kernel_rfl) H

/-- (*palimpsest/model.World).Rebase -/
def n16 (w0 name1 backing2 safe3 : Value) (R : Value → Heap → Prop) (h : Heap) : Prop :=
 Hp Try.prog false (binS .eql 9 (.tmp 21) (.const (str [])) backing2 (str [])) (fun t22 h_1 => 
 Join1 (fun k h_2 => guardP t22 false (k backing2 h_2) (k undef h_2) ⟨⟩ ⟨⟩) (fun t24 h_3 => 
 Join1 (fun k_1 h_4 => guardP t22 false (Hp Try.prog false (Instr.buildSlice 82 1 #[(0, t24)]) k_1 h_4 ⟨⟩) (k_1 undef h_4) ⟨⟩ ⟨⟩) (fun t25 h_5 => 
 Join1 (fun k_2 h_6 => guardP t22 false (CallsH Try.prog 19 #[t25] h_6 k_2 ⟨⟩) (k_2 undef h_6) ⟨⟩ ⟨⟩) (fun t26 h_7 => 
 Hp Try.prog false (pickS t22 (.bool true) t26) (fun t27 h_8 => 
 CallsH Try.prog 26 #[w0, t27, name1] h_8 (fun t29 h_9 => 
 Hp Try.prog false (Instr.extract t29 0) (fun t30 h_10 => 
 Hp Try.prog false (Instr.extract t29 1) (fun t31 h_11 => 
 Hp Try.prog false (binS .neq 27 (.tmp 33) (.const (.int .i64 0)) t31 (.int .i64 0)) (fun t34 h_12 => 
 CondP t34 (
 R t31 h_12) (
 Hp Try.prog false (binS .neq 9 (.tmp 37) (.const (str [])) backing2 (str [])) (fun t38 h_13 => 
 Join1 (fun k_3 h_14 => guardP t38 true (k_3 w0 h_14) (k_3 undef h_14) ⟨⟩ ⟨⟩) (fun t40 h_15 => 
 Join1 (fun k_4 h_16 => guardP t38 true (Hp Try.prog false (nilS t40) k_4 h_16 ⟨⟩) (k_4 undef h_16) ⟨⟩ ⟨⟩) (fun t41 h_17 => 
 Join1 (fun k_5 h_18 => guardP t38 true (Hp Try.prog false (Instr.fieldAt 55 t41 0) k_5 h_18 ⟨⟩) (k_5 undef h_18) ⟨⟩ ⟨⟩) (fun t42 h_19 => 
 Join1 (fun k_6 h_20 => guardP t38 true (Hp Try.prog false (Instr.loadAt 53 t42) k_6 h_20 ⟨⟩) (k_6 undef h_20) ⟨⟩ ⟨⟩) (fun t43 h_21 => 
 Join1 (fun k_7 h_22 => guardP t38 true (k_7 backing2 h_22) (k_7 undef h_22) ⟨⟩ ⟨⟩) (fun t44 h_23 => 
 Join1 (fun k_8 h_24 => guardP t38 true (Hp Try.prog false (Instr.lookup 53 t43 t44 false) k_8 h_24 ⟨⟩) (k_8 undef h_24) ⟨⟩ ⟨⟩) (fun t45 h_25 => 
 Join1 (fun k_9 h_26 => guardP t38 true (Hp Try.prog false (binS .eql 59 (.tmp 45) (.const (.pointer none)) t45 (.pointer none)) k_9 h_26 ⟨⟩) (k_9 undef h_26) ⟨⟩ ⟨⟩) (fun t46 h_27 => 
 Hp Try.prog false (pickS t38 t46 (.bool false)) (fun t47 h_28 => 
 CondP t47 (
 R (.int .i64 7) h_28) (
 CallsH Try.prog 32 #[w0, t30] h_28 (fun t51 h_29 => 
 Hp Try.prog false (binS .gtr 3 (.tmp 51) (.const (.int .i64 0)) t51 (.int .i64 0)) (fun t52 h_30 => 
 CondP t52 (
 R (.int .i64 10) h_30) (
 Hp Try.prog false (nilS t30) (fun t54 h_31 => 
 Hp Try.prog false (Instr.fieldAt 66 t54 1) (fun t55 h_32 => 
 Hp Try.prog false (Instr.loadAt 9 t55) (fun t56 h_33 => 
 Hp Try.prog false (nilS t30) (fun t59 h_34 => 
 Hp Try.prog false (Instr.fieldAt 66 t59 1) (fun t60 h_35 => 
 Hp Try.prog false (storeS 9 t60 backing2) (fun _ h_36 => 
 CallsH Try.prog 22 #[w0, name1, (.int .i64 0)] h_36 (fun t63 h_37 => 
 CondP t63 (
 Hp Try.prog false (nilS t30) (fun t66 h_38 => 
 Hp Try.prog false (Instr.fieldAt 66 t66 1) (fun t67 h_39 => 
 Hp Try.prog false (storeS 9 t67 t56) (fun _ h_40 => 
 R (.int .i64 350) h_40) h_39 ⟨⟩) h_38 ⟨⟩) h_37 ⟨⟩) (
 LoopC 1 (fun (X : Value → Heap → Prop) => fun c12 h_41 =>
 Join1 (fun k_10 h_42 => guardP safe3 true (k_10 c12 h_42) (k_10 undef h_42) ⟨⟩ ⟨⟩) (fun t70 h_43 => 
 Join1 (fun k_11 h_44 => guardP safe3 true (k_11 t30 h_44) (k_11 undef h_44) ⟨⟩ ⟨⟩) (fun t71 h_45 => 
 Join1 (fun k_12 h_46 => guardP safe3 true (CallsH Try.prog 29 #[t71] h_46 k_12 ⟨⟩) (k_12 undef h_46) ⟨⟩ ⟨⟩) (fun t72 h_47 => 
 Join1 (fun k_13 h_48 => guardP safe3 true (Hp Try.prog false (binS .lss 2 (.tmp 70) (.tmp 72) t70 t72) k_13 h_48 ⟨⟩) (k_13 undef h_48) ⟨⟩ ⟨⟩) (fun t73 h_49 => 
 Hp Try.prog false (pickS safe3 t73 (.bool false)) (fun t74 h_50 => 
 CondP t74 (
 JoinN 0 (fun (k_14 : Heap → Prop) h_51 =>
 JoinN 0 (fun (k_15 : Heap → Prop) h_52 =>
 Hp Try.prog false (nilS t30) (fun t79 h_53 => 
 Hp Try.prog false (Instr.fieldAt 66 t79 4) (fun t80 h_54 => 
 Hp Try.prog false (Instr.loadAt 62 t80) (fun t81 h_55 => 
 Hp Try.prog false (Instr.lookup 62 t81 c12 true) (fun t83 h_56 => 
 Hp Try.prog false (Instr.extract t83 0) (fun t84 h_57 => 
 Hp Try.prog false (Instr.extract t83 1) (fun t85 h_58 => 
 CondP t85 (
 k_15 h_58) (
 Hp Try.prog false (nilS t30) (fun t89 h_59 => 
 Hp Try.prog false (Instr.fieldAt 66 t89 3) (fun t90 h_60 => 
 Hp Try.prog false (Instr.loadAt 3 t90) (fun t91 h_61 => 
 Hp Try.prog false (binS .shl 2 (.tmp 87) (.tmp 91) c12 t91) (fun t92 h_62 => 
 Hp Try.prog false (binS .quo 2 (.tmp 92) (.const (.int .i64 512)) t92 (.int .i64 512)) (fun t93 h_63 => 
 Hp Try.prog true (nilS t30) (fun t95 _ => 
 Hp Try.prog true (Instr.fieldAt 66 t95 3) (fun t96 _ => 
 Hp Try.prog true (Instr.loadAt 3 t96) (fun t97 _ => 
 Hp Try.prog true (binS .shl 2 (.const (.int .i64 1)) (.tmp 97) (.int .i64 1) t97) (fun t98 _ => 
 Hp Try.prog true (nilS t30) (fun t100 _ => 
 Hp Try.prog true (Instr.fieldAt 66 t100 2) (fun t101 _ => 
 Hp Try.prog true (Instr.loadAt 2 t101) (fun t102 _ => 
 Hp Try.prog true (nilS t30) (fun t105 _ => 
 Hp Try.prog true (Instr.fieldAt 66 t105 3) (fun t106 _ => 
 Hp Try.prog true (Instr.loadAt 3 t106) (fun t107 _ => 
 Hp Try.prog true (binS .shl 2 (.tmp 103) (.tmp 107) c12 t107) (fun t108 _ => 
 Hp Try.prog true (binS .sub 2 (.tmp 102) (.tmp 108) t102 t108) (fun t109 _ => 
 Hp Try.prog true (Builtin.min_ #[2, 2] 2 #[t98, t109]) (fun t110 _ => 
 Hp Try.prog true (binS .quo 2 (.tmp 110) (.const (.int .i64 512)) t110 (.int .i64 512)) (fun t111 _ => 
 CallsH Try.prog 31 #[w0, t30, t93, t111] h_63 (fun t116 h_64 => 
 Hp Try.prog false (nilS t30) (fun t119 h_65 => 
 Hp Try.prog false (Instr.fieldAt 66 t119 1) (fun t120 h_66 => 
 Hp Try.prog false (storeS 9 t120 t56) (fun _ h_67 => 
 JoinN 0 (fun (k_16 : Heap → Prop) h_68 =>
 CallsH Try.prog 31 #[w0, t30, t93, t111] h_68 (fun t125 h_69 => 
 CallsH Try.prog 33 #[t116, t125] h_69 (fun t128 h_70 => 
 Hp Try.prog false (Op.unary .not t128) (fun t129 h_71 => 
 CondP t129 (
 Hp Try.prog true (nilS t30) (fun t131 _ => 
 Hp Try.prog true (Instr.fieldAt 66 t131 4) (fun t132 _ => 
 Hp Try.prog true (Instr.loadAt 62 t132) (fun t133 _ => 
 Hp Try.prog true (nilS t30) (fun t137 _ => 
 Hp Try.prog true (Instr.fieldAt 66 t137 3) (fun t138 _ => 
 Hp Try.prog true (Instr.loadAt 3 t138) (fun t139 _ => 
 Hp Try.prog true (binS .shl 3 (.const (.int .i64 1)) (.tmp 139) (.int .i64 1) t139) (fun t140 _ => 
 Hp Try.prog true (Builtin.len_ #[29] 3 #[t125]) (fun t142 _ => 
 Hp Try.prog true (binS .sub 3 (.tmp 140) (.tmp 142) t140 t142) (fun t143 _ => 
 Hp Try.prog false (Builtin.append_ #[29, 3] 29 #[t125, t143]) (fun t144 h_72 => Hp Try.prog true (Instr.loadAt 62 t132) (fun u _ => u = t133) h_72 ⟨⟩ ∧ 
 Hp Try.prog false (unitS (Instr.mapUpdate 62 t133 c12 t144)) (fun _ h_73 => 
 k_16 h_73) h_72 ⟨⟩) h_71 ⟨⟩) #[] ⟨⟩) #[] ⟨⟩) #[] ⟨⟩) h_71 ⟨⟩) #[] ⟨⟩) #[] ⟨⟩) h_71 ⟨⟩) #[] ⟨⟩) #[] ⟨⟩) (
 k_16 h_71) ⟨⟩ ⟨⟩) h_70 ⟨⟩) ⟨⟩) ⟨⟩)
 (fun h_74 =>
 Hp Try.prog false (nilS t30) (fun t147 h_75 => 
 Hp Try.prog false (Instr.fieldAt 66 t147 1) (fun t148 h_76 => 
 Hp Try.prog false (storeS 9 t148 backing2) (fun _ h_77 => 
 k_15 h_77) h_76 ⟨⟩) h_75 ⟨⟩) h_74 ⟨⟩) h_67 ⟨⟩ ⟨⟩) h_66 ⟨⟩) h_65 ⟨⟩) h_64 ⟨⟩) ⟨⟩) #[] ⟨⟩) #[] ⟨⟩) #[] ⟨⟩) #[] ⟨⟩) h_63 ⟨⟩) #[] ⟨⟩) #[] ⟨⟩) h_63 ⟨⟩) #[] ⟨⟩) #[] ⟨⟩) #[] ⟨⟩) h_63 ⟨⟩) #[] ⟨⟩) #[] ⟨⟩) h_62 ⟨⟩) h_61 ⟨⟩) h_60 ⟨⟩) h_59 ⟨⟩) h_58 ⟨⟩) ⟨⟩ ⟨⟩) h_57 ⟨⟩) h_56 ⟨⟩) h_55 ⟨⟩) h_54 ⟨⟩) h_53 ⟨⟩) h_52 ⟨⟩)
 (fun h_78 =>
 k_14 h_78) h_51 ⟨⟩ ⟨⟩)
 (fun h_79 =>
 Hp Try.prog false (binS .add 2 (.tmp 75) (.const (.int .i64 1)) c12 (.int .i64 1)) (fun t76 h_80 => 
 X t76 h_80) h_79 ⟨⟩) h_50 ⟨⟩ ⟨⟩) (
 R (.int .i64 0) h_50) ⟨⟩ ⟨⟩) h_49 ⟨⟩) h_47 ⟨⟩ ⟨⟩) h_45 ⟨⟩ ⟨⟩) h_43 ⟨⟩ ⟨⟩) h_41 ⟨⟩ ⟨⟩) [(.int .i64 0)] h_37 ⟨⟩) ⟨⟩ ⟨⟩) ⟨⟩) h_35 ⟨⟩) h_34 ⟨⟩) h_33 ⟨⟩) h_32 ⟨⟩) h_31 ⟨⟩) h_30 ⟨⟩) ⟨⟩ ⟨⟩) h_29 ⟨⟩) ⟨⟩) ⟨⟩ ⟨⟩) h_27 ⟨⟩) h_25 ⟨⟩ ⟨⟩) h_23 ⟨⟩ ⟨⟩) h_21 ⟨⟩ ⟨⟩) h_19 ⟨⟩ ⟨⟩) h_17 ⟨⟩ ⟨⟩) h_15 ⟨⟩ ⟨⟩) h_13 ⟨⟩ ⟨⟩) h_12 ⟨⟩) ⟨⟩ ⟨⟩) h_11 ⟨⟩) h_10 ⟨⟩) h_9 ⟨⟩) ⟨⟩) h_7 ⟨⟩) h_5 ⟨⟩ ⟨⟩) h_3 ⟨⟩ ⟨⟩) h_1 ⟨⟩ ⟨⟩) h ⟨⟩

theorem n16_calls {w0 name1 backing2 safe3 : Value} {R : Value → Heap → Prop} {h : Heap} (H : n16 w0 name1 backing2 safe3 R h) : CallsH Try.prog 16 #[w0, name1, backing2, safe3] h R ⟨⟩ :=
 callsH_of_eq Try.follow (.n none .l (.n none .l (.n none .l (.n none .l (.n none .l (.n none .l (.n none (.n none .l (.n none (.n (some [13]) (.n none .l (.n (some []) (.n (some []) (.n none .l (.n none .l (.n none .l (.n none .l (.n none .l (.n (some []) .l .l)))))) .l) .l)) .l) .l)) .l))))))) Try.func16 (by kernel_rfl) (by kernel_rfl) (by kernel_rfl) H

/-- (*palimpsest/model.World).All -/
def n17 (w0 : Value) (R : Value → Heap → Prop) (h : Heap) : Prop :=
 Hp Try.prog false (Instr.alloc 81 true undef) (fun l3 h_1 => 
 CallsH Try.prog 34 #[w0] h_1 (fun t7 h_2 => 
 Hp Try.prog false (Builtin.len_ #[82] 3 #[t7]) (fun t8 h_3 => 
 LoopC 1 (fun (X : Value → Heap → Prop) => fun t9 h_4 =>
 Hp Try.prog false (binS .lss 3 (.tmp 9) (.tmp 8) t9 t8) (fun t10 h_5 => 
 CondP t10 (
 Hp Try.prog false (Instr.indexAt 82 t7 t9) (fun t11 h_6 => 
 Hp Try.prog false (Instr.loadAt 9 t11) (fun t12 h_7 => 
 Hp Try.prog true (Instr.loadAt 81 l3) (fun t13 _ => 
 Hp Try.prog true (nilS w0) (fun t15 _ => 
 Hp Try.prog true (Instr.fieldAt 55 t15 0) (fun t16 _ => 
 Hp Try.prog true (Instr.loadAt 53 t16) (fun t17 _ => 
 Hp Try.prog true (Instr.lookup 53 t17 t12 false) (fun t19 _ => 
 CallsH Try.prog 28 #[t19] h_7 (fun t20 h_8 => Hp Try.prog true (Instr.loadAt 81 l3) (fun u _ => u = t13) h_8 ⟨⟩ ∧ 
 Hp Try.prog false (Instr.buildSlice 81 1 #[(0, t20)]) (fun t21 h_9 => Hp Try.prog true (Instr.loadAt 81 l3) (fun u _ => u = t13) h_9 ⟨⟩ ∧ 
 Hp Try.prog false (Builtin.append_ #[81, 81] 81 #[t13, t21]) (fun t22 h_10 => 
 Hp Try.prog false (storeS 81 l3 t22) (fun _ h_11 => 
 Hp Try.prog false (binS .add 3 (.tmp 9) (.const (.int .i64 1)) t9 (.int .i64 1)) (fun t23 h_12 => 
 X t23 h_12) h_11 ⟨⟩) h_10 ⟨⟩) h_9 ⟨⟩) h_8 ⟨⟩) ⟨⟩) h_7 ⟨⟩) h_7 ⟨⟩) #[] ⟨⟩) #[] ⟨⟩) h_7 ⟨⟩) h_6 ⟨⟩) h_5 ⟨⟩) (
 Hp Try.prog false (pure (.func (.func 35) #[] #[l3])) (fun t24 h_13 => 
 R t24 h_13) h_5 ⟨⟩) ⟨⟩ ⟨⟩) h_4 ⟨⟩) [(.int .i64 0)] h_3 ⟨⟩) h_2 ⟨⟩) ⟨⟩) h ⟨⟩

theorem n17_calls {w0 : Value} {R : Value → Heap → Prop} {h : Heap} (H : n17 w0 R h) : CallsH Try.prog 17 #[w0] h R ⟨⟩ :=
 callsH_of_eq Try.follow (.n none .l (.n none .l (.n none (.n none .l (.n none (.n (some [10]) .l .l) .l)) .l))) Try.func17 (by kernel_rfl) (by kernel_rfl) (by kernel_rfl) H

/-- (*palimpsest/model.World).none -/
def n18 (w0 : Value) (R : Value → Heap → Prop) (h : Heap) : Prop :=
 Hp Try.prog false (binS .eql 24 (.tmp 3) (.const (.pointer none)) w0 (.pointer none)) (fun t4 h_1 => 
 Join1 (fun k h_2 => guardP t4 false (k w0 h_2) (k undef h_2) ⟨⟩ ⟨⟩) (fun t6 h_3 => 
 Join1 (fun k_1 h_4 => guardP t4 false (Hp Try.prog false (nilS t6) k_1 h_4 ⟨⟩) (k_1 undef h_4) ⟨⟩ ⟨⟩) (fun t7 h_5 => 
 Join1 (fun k_2 h_6 => guardP t4 false (Hp Try.prog false (Instr.fieldAt 55 t7 0) k_2 h_6 ⟨⟩) (k_2 undef h_6) ⟨⟩ ⟨⟩) (fun t8 h_7 => 
 Join1 (fun k_3 h_8 => guardP t4 false (Hp Try.prog false (Instr.loadAt 53 t8) k_3 h_8 ⟨⟩) (k_3 undef h_8) ⟨⟩ ⟨⟩) (fun t9 h_9 => 
 Join1 (fun k_4 h_10 => guardP t4 false (Hp Try.prog false (binS .eql 53 (.tmp 9) (.const (.map none)) t9 (.map none)) k_4 h_10 ⟨⟩) (k_4 undef h_10) ⟨⟩ ⟨⟩) (fun t10 h_11 => 
 Hp Try.prog false (pickS t4 (.bool true) t10) (fun t11 h_12 => 
 R t11 h_12) h_11 ⟨⟩) h_9 ⟨⟩ ⟨⟩) h_7 ⟨⟩ ⟨⟩) h_5 ⟨⟩ ⟨⟩) h_3 ⟨⟩ ⟨⟩) h_1 ⟨⟩ ⟨⟩) h ⟨⟩

theorem n18_calls {w0 : Value} {R : Value → Heap → Prop} {h : Heap} (H : n18 w0 R h) : CallsH Try.prog 18 #[w0] h R ⟨⟩ :=
 callsH_of_eq Try.follow .l Try.func18 (by kernel_rfl) (by kernel_rfl) (by kernel_rfl) H

/-- palimpsest/model.named -/
def n19 (l0 : Value) (R : Value → Heap → Prop) (h : Heap) : Prop :=
 Hp Try.prog false (Builtin.len_ #[82] 3 #[l0]) (fun t7 h_1 => 
 LoopC 1 (fun (X : Value → Heap → Prop) => fun t8 h_2 =>
 Hp Try.prog false (binS .lss 3 (.tmp 8) (.tmp 7) t8 t7) (fun t9 h_3 => 
 CondP t9 (
 Hp Try.prog false (Instr.indexAt 82 l0 t8) (fun t10 h_4 => 
 Hp Try.prog false (Instr.loadAt 9 t10) (fun t11 h_5 => 
 CallsH Try.prog 39 #[t11, (.func (.func 40) #[] #[])] h_5 (fun t13 h_6 => 
 Hp Try.prog false (binS .neq 9 (.tmp 14) (.const (str [])) t11 (str [])) (fun t15 h_7 => 
 Join1 (fun k h_8 => guardP t15 true (k t11 h_8) (k undef h_8) ⟨⟩ ⟨⟩) (fun t17 h_9 => 
 Join1 (fun k_1 h_10 => guardP t15 true (Hp Try.prog false (Builtin.len_ #[9] 3 #[t17]) k_1 h_10 ⟨⟩) (k_1 undef h_10) ⟨⟩ ⟨⟩) (fun t18 h_11 => 
 Join1 (fun k_2 h_12 => guardP t15 true (Hp Try.prog false (binS .leq 3 (.tmp 18) (.const (.int .i64 64)) t18 (.int .i64 64)) k_2 h_12 ⟨⟩) (k_2 undef h_12) ⟨⟩ ⟨⟩) (fun t19 h_13 => 
 Hp Try.prog false (pickS t15 t19 (.bool false)) (fun t20 h_14 => 
 Join1 (fun k_3 h_15 => guardP t20 true (k_3 t13 h_15) (k_3 undef h_15) ⟨⟩ ⟨⟩) (fun t22 h_16 => 
 Join1 (fun k_4 h_17 => guardP t20 true (Hp Try.prog false (Op.unary .not t22) k_4 h_17 ⟨⟩) (k_4 undef h_17) ⟨⟩ ⟨⟩) (fun t23 h_18 => 
 Hp Try.prog false (pickS t20 t23 (.bool false)) (fun t24 h_19 => 
 CondP t24 (
 Hp Try.prog false (binS .add 3 (.tmp 8) (.const (.int .i64 1)) t8 (.int .i64 1)) (fun t25 h_20 => 
 X t25 h_20) h_19 ⟨⟩) (
 R (.bool false) h_19) ⟨⟩ ⟨⟩) h_18 ⟨⟩) h_16 ⟨⟩ ⟨⟩) h_14 ⟨⟩ ⟨⟩) h_13 ⟨⟩) h_11 ⟨⟩ ⟨⟩) h_9 ⟨⟩ ⟨⟩) h_7 ⟨⟩ ⟨⟩) h_6 ⟨⟩) ⟨⟩) h_4 ⟨⟩) h_3 ⟨⟩) (
 R (.bool true) h_3) ⟨⟩ ⟨⟩) h_2 ⟨⟩) [(.int .i64 0)] h_1 ⟨⟩) h ⟨⟩

theorem n19_calls {l0 : Value} {R : Value → Heap → Prop} {h : Heap} (H : n19 l0 R h) : CallsH Try.prog 19 #[l0] h R ⟨⟩ :=
 callsH_of_eq Try.follow (.n none .l (.n none (.n none .l (.n none (.n none .l (.n none (.n (some [9]) .l .l) .l)) .l)) .l)) Try.func19 (by kernel_rfl) (by kernel_rfl) (by kernel_rfl) H

/-- palimpsest/model.sized -/
def n20 (n0 : Value) (R : Value → Heap → Prop) (h : Heap) : Prop :=
 Hp Try.prog false (binS .geq 2 (.tmp 3) (.const (.int .i64 0)) n0 (.int .i64 0)) (fun t4 h_1 => 
 Join1 (fun k h_2 => guardP t4 true (k n0 h_2) (k undef h_2) ⟨⟩ ⟨⟩) (fun t6 h_3 => 
 Join1 (fun k_1 h_4 => guardP t4 true (Hp Try.prog false (binS .leq 2 (.tmp 6) (.const (.int .i64 67108864)) t6 (.int .i64 67108864)) k_1 h_4 ⟨⟩) (k_1 undef h_4) ⟨⟩ ⟨⟩) (fun t7 h_5 => 
 Hp Try.prog false (pickS t4 t7 (.bool false)) (fun t8 h_6 => 
 Join1 (fun k_2 h_7 => guardP t8 true (k_2 n0 h_7) (k_2 undef h_7) ⟨⟩ ⟨⟩) (fun t10 h_8 => 
 Join1 (fun k_3 h_9 => guardP t8 true (Hp Try.prog false (binS .rem 2 (.tmp 10) (.const (.int .i64 512)) t10 (.int .i64 512)) k_3 h_9 ⟨⟩) (k_3 undef h_9) ⟨⟩ ⟨⟩) (fun t11 h_10 => 
 Join1 (fun k_4 h_11 => guardP t8 true (Hp Try.prog false (binS .eql 2 (.tmp 11) (.const (.int .i64 0)) t11 (.int .i64 0)) k_4 h_11 ⟨⟩) (k_4 undef h_11) ⟨⟩ ⟨⟩) (fun t12 h_12 => 
 Hp Try.prog false (pickS t8 t12 (.bool false)) (fun t13 h_13 => 
 R t13 h_13) h_12 ⟨⟩) h_10 ⟨⟩ ⟨⟩) h_8 ⟨⟩ ⟨⟩) h_6 ⟨⟩ ⟨⟩) h_5 ⟨⟩) h_3 ⟨⟩ ⟨⟩) h_1 ⟨⟩ ⟨⟩) h ⟨⟩

theorem n20_calls {n0 : Value} {R : Value → Heap → Prop} {h : Heap} (H : n20 n0 R h) : CallsH Try.prog 20 #[n0] h R ⟨⟩ :=
 callsH_of_eq Try.follow .l Try.func20 (by kernel_rfl) (by kernel_rfl) (by kernel_rfl) H

/-- palimpsest/model.wide -/
def n21 (bits0 : Value) (R : Value → Heap → Prop) (h : Heap) : Prop :=
 Hp Try.prog false (binS .geq 3 (.tmp 3) (.const (.int .i64 9)) bits0 (.int .i64 9)) (fun t4 h_1 => 
 Join1 (fun k h_2 => guardP t4 true (k bits0 h_2) (k undef h_2) ⟨⟩ ⟨⟩) (fun t6 h_3 => 
 Join1 (fun k_1 h_4 => guardP t4 true (Hp Try.prog false (binS .leq 3 (.tmp 6) (.const (.int .i64 16)) t6 (.int .i64 16)) k_1 h_4 ⟨⟩) (k_1 undef h_4) ⟨⟩ ⟨⟩) (fun t7 h_5 => 
 Hp Try.prog false (pickS t4 t7 (.bool false)) (fun t8 h_6 => 
 R t8 h_6) h_5 ⟨⟩) h_3 ⟨⟩ ⟨⟩) h_1 ⟨⟩ ⟨⟩) h ⟨⟩

theorem n21_calls {bits0 : Value} {R : Value → Heap → Prop} {h : Heap} (H : n21 bits0 R h) : CallsH Try.prog 21 #[bits0] h R ⟨⟩ :=
 callsH_of_eq Try.follow .l Try.func21 (by kernel_rfl) (by kernel_rfl) (by kernel_rfl) H

/-- (*palimpsest/model.World).deep -/
def n22 (w0 name1 n2 : Value) (R : Value → Heap → Prop) (h : Heap) : Prop :=
 LoopC 2 (fun (X : Value → Value → Heap → Prop) => fun name1_1 n2_1 h_1 =>
 Hp Try.prog false (binS .neq 9 (.tmp 7) (.const (str [])) name1_1 (str [])) (fun t8 h_2 => 
 Join1 (fun k h_3 => guardP t8 true (k n2_1 h_3) (k undef h_3) ⟨⟩ ⟨⟩) (fun t10 h_4 => 
 Join1 (fun k_1 h_5 => guardP t8 true (Hp Try.prog false (binS .leq 3 (.tmp 10) (.const (.int .i64 8)) t10 (.int .i64 8)) k_1 h_5 ⟨⟩) (k_1 undef h_5) ⟨⟩ ⟨⟩) (fun t11 h_6 => 
 Hp Try.prog false (pickS t8 t11 (.bool false)) (fun t12 h_7 => 
 CondP t12 (
 Hp Try.prog false (nilS w0) (fun t16 h_8 => 
 Hp Try.prog false (Instr.fieldAt 55 t16 0) (fun t17 h_9 => 
 Hp Try.prog false (Instr.loadAt 53 t17) (fun t18 h_10 => 
 Hp Try.prog false (Instr.lookup 53 t18 name1_1 false) (fun t20 h_11 => 
 Hp Try.prog false (nilS t20) (fun t21 h_12 => 
 Hp Try.prog false (Instr.fieldAt 66 t21 1) (fun t22 h_13 => 
 Hp Try.prog false (Instr.loadAt 9 t22) (fun t23 h_14 => 
 Hp Try.prog false (binS .add 3 (.tmp 13) (.const (.int .i64 1)) n2_1 (.int .i64 1)) (fun t14 h_15 => 
 X t23 t14 h_15) h_14 ⟨⟩) h_13 ⟨⟩) h_12 ⟨⟩) h_11 ⟨⟩) h_10 ⟨⟩) h_9 ⟨⟩) h_8 ⟨⟩) h_7 ⟨⟩) (
 Hp Try.prog false (binS .gtr 3 (.tmp 24) (.const (.int .i64 8)) n2_1 (.int .i64 8)) (fun t25 h_16 => 
 R t25 h_16) h_7 ⟨⟩) ⟨⟩ ⟨⟩) h_6 ⟨⟩) h_4 ⟨⟩ ⟨⟩) h_2 ⟨⟩ ⟨⟩) h_1 ⟨⟩) [name1, n2] h ⟨⟩

theorem n22_calls {w0 name1 n2 : Value} {R : Value → Heap → Prop} {h : Heap} (H : n22 w0 name1 n2 R h) : CallsH Try.prog 22 #[w0, name1, n2] h R ⟨⟩ :=
 callsH_of_eq Try.follow (.n none .l (.n none (.n none (.n (some [2, 3]) .l .l) .l) .l)) Try.func22 (by kernel_rfl) (by kernel_rfl) (by kernel_rfl) H

/-- (*palimpsest/model.World).free -/
def n23 (w0 ok1 name2 at3 n4 : Value) (R : Value → Heap → Prop) (h : Heap) : Prop :=
 CallsH Try.prog 26 #[w0, ok1, name2] h (fun t18 h_1 => 
 Hp Try.prog false (Instr.extract t18 0) (fun t19 h_2 => 
 Hp Try.prog false (Instr.extract t18 1) (fun t20 h_3 => 
 Hp Try.prog false (binS .neq 27 (.tmp 22) (.const (.int .i64 0)) t20 (.int .i64 0)) (fun t23 h_4 => 
 CondP t23 (
 R (.tuple #[(.pointer none), t20]) h_4) (
 CallsH Try.prog 30 #[t19, at3, n4] h_4 (fun t29 h_5 => 
 Hp Try.prog false (Op.unary .not t29) (fun t30 h_6 => 
 CondP t30 (
 R (.tuple #[(.pointer none), (.int .i64 4)]) h_6) (
 CallsH Try.prog 32 #[w0, t19] h_6 (fun t34 h_7 => 
 Hp Try.prog false (binS .gtr 3 (.tmp 34) (.const (.int .i64 0)) t34 (.int .i64 0)) (fun t35 h_8 => 
 CondP t35 (
 R (.tuple #[(.pointer none), (.int .i64 10)]) h_8) (
 R (.tuple #[t19, (.int .i64 0)]) h_8) ⟨⟩ ⟨⟩) h_7 ⟨⟩) ⟨⟩) ⟨⟩ ⟨⟩) h_5 ⟨⟩) ⟨⟩) ⟨⟩ ⟨⟩) h_3 ⟨⟩) h_2 ⟨⟩) h_1 ⟨⟩) ⟨⟩

theorem n23_calls {w0 ok1 name2 at3 n4 : Value} {R : Value → Heap → Prop} {h : Heap} (H : n23 w0 ok1 name2 at3 n4 R h) : CallsH Try.prog 23 #[w0, ok1, name2, at3, n4] h R ⟨⟩ :=
 callsH_of_eq Try.follow .l Try.func23 (by kernel_rfl) (by kernel_rfl) (by kernel_rfl) H

/-- (*palimpsest/model.World).lay -/
def n24 (w0 x1 at2 b3 : Value) (R : Value → Heap → Prop) (h : Heap) : Prop :=
 Hp Try.prog false (binS .mul 2 (.tmp 12) (.const (.int .i64 512)) at2 (.int .i64 512)) (fun t13 h_1 => 
 LoopC 2 (fun (X : Value → Value → Heap → Prop) => fun b3_1 place8 h_2 =>
 Hp Try.prog false (Builtin.len_ #[29] 3 #[b3_1]) (fun t15 h_3 => 
 Hp Try.prog false (binS .gtr 3 (.tmp 15) (.const (.int .i64 0)) t15 (.int .i64 0)) (fun t16 h_4 => 
 CondP t16 (
 Hp Try.prog false (nilS x1) (fun t19 h_5 => 
 Hp Try.prog false (Instr.fieldAt 66 t19 3) (fun t20 h_6 => 
 Hp Try.prog false (Instr.loadAt 3 t20) (fun t21 h_7 => 
 Hp Try.prog false (binS .shr 2 (.tmp 17) (.tmp 21) place8 t21) (fun t22 h_8 => 
 CallsH Try.prog 42 #[w0, x1, t22] h_8 (fun t26 h_9 => 
 CallsH Try.prog 41 #[t26] h_9 (fun t27 h_10 => 
 Hp Try.prog false (nilS x1) (fun t32 h_11 => 
 Hp Try.prog false (Instr.fieldAt 66 t32 3) (fun t33 h_12 => 
 Hp Try.prog false (Instr.loadAt 3 t33) (fun t34 h_13 => 
 Hp Try.prog false (binS .shl 2 (.tmp 30) (.tmp 34) t22 t34) (fun t35 h_14 => 
 Hp Try.prog false (binS .sub 2 (.tmp 29) (.tmp 35) place8 t35) (fun t36 h_15 => 
 Hp Try.prog false (Instr.sliceAt 29 t27 (some t36) none none) (fun t37 h_16 => 
 Hp Try.prog false (Builtin.copy_ #[29, 29] 3 #[t37, b3_1]) (fun t39 h_17 => 
 Hp Try.prog false (nilS x1) (fun t41 h_18 => 
 Hp Try.prog false (Instr.fieldAt 66 t41 4) (fun t42 h_19 => 
 Hp Try.prog false (Instr.loadAt 62 t42) (fun t43 h_20 => 
 Hp Try.prog false (unitS (Instr.mapUpdate 62 t43 t22 t27)) (fun _ h_21 => 
 Hp Try.prog false (Instr.sliceAt 29 b3_1 (some t39) none none) (fun t48 h_22 => 
 Hp Try.prog false (binS .add 2 (.tmp 49) (.tmp 50) place8 t39) (fun t51 h_23 => 
 X t48 t51 h_23) h_22 ⟨⟩) h_21 ⟨⟩) h_20 ⟨⟩) h_19 ⟨⟩) h_18 ⟨⟩) h_17 ⟨⟩) h_16 ⟨⟩) h_15 ⟨⟩) h_14 ⟨⟩) h_13 ⟨⟩) h_12 ⟨⟩) h_11 ⟨⟩) h_10 ⟨⟩) ⟨⟩) ⟨⟩) h_7 ⟨⟩) h_6 ⟨⟩) h_5 ⟨⟩) h_4 ⟨⟩) (
 R (.tuple #[]) h_4) ⟨⟩ ⟨⟩) h_3 ⟨⟩) h_2 ⟨⟩) [b3, t13] h_1 ⟨⟩) h ⟨⟩

theorem n24_calls {w0 x1 at2 b3 : Value} {R : Value → Heap → Prop} {h : Heap} (H : n24 w0 x1 at2 b3 R h) : CallsH Try.prog 24 #[w0, x1, at2, b3] h R ⟨⟩ :=
 callsH_of_eq Try.follow (.n none .l (.n none (.n (some [4, 9]) .l .l) .l)) Try.func24 (by kernel_rfl) (by kernel_rfl) (by kernel_rfl) H

/-- (*palimpsest/model.image).touch -/
def n25 (x0 at1 n2 : Value) (R : Value → Heap → Prop) (h : Heap) : Prop :=
 Hp Try.prog false (nilS x0) (fun t10 h_1 => 
 Hp Try.prog false (Instr.fieldAt 66 t10 6) (fun t11 h_2 => 
 Hp Try.prog false (Instr.loadAt 64 t11) (fun t12 h_3 => 
 Hp Try.prog false (Builtin.len_ #[64] 3 #[t12]) (fun t13 h_4 => 
 LoopC 1 (fun (X : Value → Heap → Prop) => fun t14 h_5 =>
 Hp Try.prog false (binS .lss 3 (.tmp 14) (.tmp 13) t14 t13) (fun t15 h_6 => 
 CondP t15 (
 JoinN 0 (fun (k : Heap → Prop) h_7 =>
 JoinN 0 (fun (k_1 : Heap → Prop) h_8 =>
 Hp Try.prog false (Instr.indexAt 64 t12 t14) (fun t16 h_9 => 
 Hp Try.prog false (Instr.loadAt 99 t16) (fun t17 h_10 => 
 Hp Try.prog false (Instr.alloc 99 true undef) (fun m7 h_11 => 
 Hp Try.prog false (storeS 99 m7 t17) (fun _ h_12 => 
 Hp Try.prog false (Instr.fieldAt 99 m7 2) (fun t18 h_13 => 
 Hp Try.prog false (Instr.loadAt 4 t18) (fun t19 h_14 => 
 Hp Try.prog false (Op.unary .not t19) (fun t20 h_15 => 
 Join1 (fun k_2 h_16 => guardP t20 false (k_2 n2 h_16) (k_2 undef h_16) ⟨⟩ ⟨⟩) (fun t22 h_17 => 
 Join1 (fun k_3 h_18 => guardP t20 false (Hp Try.prog false (binS .eql 2 (.tmp 22) (.const (.int .i64 0)) t22 (.int .i64 0)) k_3 h_18 ⟨⟩) (k_3 undef h_18) ⟨⟩ ⟨⟩) (fun t23 h_19 => 
 Hp Try.prog false (pickS t20 (.bool true) t23) (fun t24 h_20 => 
 CondP t24 (
 k_1 h_20) (
 Hp Try.prog false (binS .mul 2 (.tmp 25) (.const (.int .i64 512)) at1 (.int .i64 512)) (fun t26 h_21 => 
 Hp Try.prog false (Instr.fieldAt 99 m7 1) (fun t27 h_22 => 
 Hp Try.prog false (Instr.loadAt 3 t27) (fun t28 h_23 => 
 Hp Try.prog false (binS .shr 2 (.tmp 26) (.tmp 28) t26 t28) (fun t29 h_24 => 
 LoopC 1 (fun (X_1 : Value → Heap → Prop) => fun g8 h_25 =>
 Hp Try.prog false (binS .add 2 (.tmp 31) (.tmp 32) at1 n2) (fun t33 h_26 => 
 Hp Try.prog false (binS .mul 2 (.tmp 33) (.const (.int .i64 512)) t33 (.int .i64 512)) (fun t34 h_27 => 
 Hp Try.prog false (binS .sub 2 (.tmp 34) (.const (.int .i64 1)) t34 (.int .i64 1)) (fun t35 h_28 => 
 Hp Try.prog false (Instr.fieldAt 99 m7 1) (fun t36 h_29 => 
 Hp Try.prog false (Instr.loadAt 3 t36) (fun t37 h_30 => 
 Hp Try.prog false (binS .shr 2 (.tmp 35) (.tmp 37) t35 t37) (fun t38 h_31 => 
 Hp Try.prog false (binS .leq 2 (.tmp 30) (.tmp 38) g8 t38) (fun t39 h_32 => 
 CondP t39 (
 Hp Try.prog false (Instr.fieldAt 99 m7 3) (fun t42 h_33 => 
 Hp Try.prog false (Instr.loadAt 97 t42) (fun t43 h_34 => 
 Hp Try.prog false (unitS (Instr.mapUpdate 97 t43 g8 (.bool true))) (fun _ h_35 => 
 Hp Try.prog false (binS .add 2 (.tmp 40) (.const (.int .i64 1)) g8 (.int .i64 1)) (fun t41 h_36 => 
 X_1 t41 h_36) h_35 ⟨⟩) h_34 ⟨⟩) h_33 ⟨⟩) h_32 ⟨⟩) (
 k_1 h_32) ⟨⟩ ⟨⟩) h_31 ⟨⟩) h_30 ⟨⟩) h_29 ⟨⟩) h_28 ⟨⟩) h_27 ⟨⟩) h_26 ⟨⟩) h_25 ⟨⟩) [t29] h_24 ⟨⟩) h_23 ⟨⟩) h_22 ⟨⟩) h_21 ⟨⟩) h_20 ⟨⟩) ⟨⟩ ⟨⟩) h_19 ⟨⟩) h_17 ⟨⟩ ⟨⟩) h_15 ⟨⟩ ⟨⟩) h_14 ⟨⟩) h_13 ⟨⟩) h_12 ⟨⟩) h_11 ⟨⟩) h_10 ⟨⟩) h_9 ⟨⟩) h_8 ⟨⟩)
 (fun h_37 =>
 k h_37) h_7 ⟨⟩ ⟨⟩)
 (fun h_38 =>
 Hp Try.prog false (binS .add 3 (.tmp 14) (.const (.int .i64 1)) t14 (.int .i64 1)) (fun t45 h_39 => 
 X t45 h_39) h_38 ⟨⟩) h_6 ⟨⟩ ⟨⟩) (
 R (.tuple #[]) h_6) ⟨⟩ ⟨⟩) h_5 ⟨⟩) [(.int .i64 0)] h_4 ⟨⟩) h_3 ⟨⟩) h_2 ⟨⟩) h_1 ⟨⟩) h ⟨⟩

theorem n25_calls {x0 at1 n2 : Value} {R : Value → Heap → Prop} {h : Heap} (H : n25 x0 at1 n2 R h) : CallsH Try.prog 25 #[x0, at1, n2] h R ⟨⟩ :=
 callsH_of_eq Try.follow (.n none .l (.n none (.n (some [15]) (.n none .l (.n none .l (.n (some []) (.n (some []) (.n none .l (.n none .l (.n none .l (.n none (.n (some [9]) .l .l) .l)))) .l) .l))) .l) .l)) Try.func25 (by kernel_rfl) (by kernel_rfl) (by kernel_rfl) H

/-- (*palimpsest/model.World).which -/
def n26 (w0 ok1 name2 : Value) (R : Value → Heap → Prop) (h : Heap) : Prop :=
 CallsH Try.prog 18 #[w0] h (fun t11 h_1 => 
 CondP t11 (
 R (.tuple #[(.pointer none), (.int .i64 1)]) h_1) (
 Hp Try.prog false (Op.unary .not ok1) (fun t14 h_2 => 
 Join1 (fun k h_3 => guardP t14 false (k name2 h_3) (k undef h_3) ⟨⟩ ⟨⟩) (fun t16 h_4 => 
 Join1 (fun k_1 h_5 => guardP t14 false (Hp Try.prog false (Instr.buildSlice 82 1 #[(0, t16)]) k_1 h_5 ⟨⟩) (k_1 undef h_5) ⟨⟩ ⟨⟩) (fun t17 h_6 => 
 Join1 (fun k_2 h_7 => guardP t14 false (CallsH Try.prog 19 #[t17] h_7 k_2 ⟨⟩) (k_2 undef h_7) ⟨⟩ ⟨⟩) (fun t18 h_8 => 
 Join1 (fun k_3 h_9 => guardP t14 false (Hp Try.prog false (Op.unary .not t18) k_3 h_9 ⟨⟩) (k_3 undef h_9) ⟨⟩ ⟨⟩) (fun t19 h_10 => 
 Hp Try.prog false (pickS t14 (.bool true) t19) (fun t20 h_11 => 
 CondP t20 (
 R (.tuple #[(.pointer none), (.int .i64 2)]) h_11) (
 Hp Try.prog false (nilS w0) (fun t22 h_12 => 
 Hp Try.prog false (Instr.fieldAt 55 t22 0) (fun t23 h_13 => 
 Hp Try.prog false (Instr.loadAt 53 t23) (fun t24 h_14 => 
 Hp Try.prog false (Instr.lookup 53 t24 name2 false) (fun t26 h_15 => 
 Hp Try.prog false (binS .eql 59 (.tmp 27) (.const (.pointer none)) t26 (.pointer none)) (fun t28 h_16 => 
 CondP t28 (
 R (.tuple #[(.pointer none), (.int .i64 7)]) h_16) (
 R (.tuple #[t26, (.int .i64 0)]) h_16) ⟨⟩ ⟨⟩) h_15 ⟨⟩) h_14 ⟨⟩) h_13 ⟨⟩) h_12 ⟨⟩) h_11 ⟨⟩) ⟨⟩ ⟨⟩) h_10 ⟨⟩) h_8 ⟨⟩ ⟨⟩) h_6 ⟨⟩ ⟨⟩) h_4 ⟨⟩ ⟨⟩) h_2 ⟨⟩ ⟨⟩) h_1 ⟨⟩) ⟨⟩ ⟨⟩) ⟨⟩

theorem n26_calls {w0 ok1 name2 : Value} {R : Value → Heap → Prop} {h : Heap} (H : n26 w0 ok1 name2 R h) : CallsH Try.prog 26 #[w0, ok1, name2] h R ⟨⟩ :=
 callsH_of_eq Try.follow .l Try.func26 (by kernel_rfl) (by kernel_rfl) (by kernel_rfl) H

/-- (*palimpsest/model.World).sector -/
def n27 (w0 to1 x2 k3 : Value) (R : Value → Heap → Prop) (h : Heap) : Prop :=
 LoopC 1 (fun (X : Value → Heap → Prop) => fun x2_1 h_1 =>
 Hp Try.prog false (binS .neq 59 (.tmp 11) (.const (.pointer none)) x2_1 (.pointer none)) (fun t12 h_2 => 
 Join1 (fun k h_3 => guardP t12 true (k k3 h_3) (k undef h_3) ⟨⟩ ⟨⟩) (fun t14 h_4 => 
 Join1 (fun k_1 h_5 => guardP t12 true (k_1 x2_1 h_5) (k_1 undef h_5) ⟨⟩ ⟨⟩) (fun t15 h_6 => 
 Join1 (fun k_2 h_7 => guardP t12 true (Hp Try.prog false (nilS t15) k_2 h_7 ⟨⟩) (k_2 undef h_7) ⟨⟩ ⟨⟩) (fun t16 h_8 => 
 Join1 (fun k_3 h_9 => guardP t12 true (Hp Try.prog false (Instr.fieldAt 66 t16 2) k_3 h_9 ⟨⟩) (k_3 undef h_9) ⟨⟩ ⟨⟩) (fun t17 h_10 => 
 Join1 (fun k_4 h_11 => guardP t12 true (Hp Try.prog false (Instr.loadAt 2 t17) k_4 h_11 ⟨⟩) (k_4 undef h_11) ⟨⟩ ⟨⟩) (fun t18 h_12 => 
 Join1 (fun k_5 h_13 => guardP t12 true (Hp Try.prog false (binS .quo 2 (.tmp 18) (.const (.int .i64 512)) t18 (.int .i64 512)) k_5 h_13 ⟨⟩) (k_5 undef h_13) ⟨⟩ ⟨⟩) (fun t19 h_14 => 
 Join1 (fun k_6 h_15 => guardP t12 true (Hp Try.prog false (binS .lss 2 (.tmp 14) (.tmp 19) t14 t19) k_6 h_15 ⟨⟩) (k_6 undef h_15) ⟨⟩ ⟨⟩) (fun t20 h_16 => 
 Hp Try.prog false (pickS t12 t20 (.bool false)) (fun t21 h_17 => 
 CondP t21 (
 Hp Try.prog false (binS .mul 2 (.tmp 31) (.const (.int .i64 512)) k3 (.int .i64 512)) (fun t32 h_18 => 
 Hp Try.prog true (nilS x2_1) (fun t35 _ => 
 Hp Try.prog true (Instr.fieldAt 66 t35 4) (fun t36 _ => 
 Hp Try.prog true (Instr.loadAt 62 t36) (fun t37 _ => 
 Hp Try.prog true (nilS x2_1) (fun t40 _ => 
 Hp Try.prog true (Instr.fieldAt 66 t40 3) (fun t41 _ => 
 Hp Try.prog true (Instr.loadAt 3 t41) (fun t42 _ => 
 Hp Try.prog true (binS .shr 2 (.tmp 38) (.tmp 42) t32 t42) (fun t43 _ => 
 Hp Try.prog true (Instr.lookup 62 t37 t43 true) (fun t44 _ => 
 Hp Try.prog true (Instr.extract t44 0) (fun t45 _ => 
 Hp Try.prog true (Instr.extract t44 1) (fun t46 _ => 
 CondP t46 (
 Hp Try.prog true (Instr.sliceAt 29 to1 none (some (.int .i64 512)) none) (fun t49 _ => 
 Hp Try.prog true (nilS x2_1) (fun t53 _ => 
 Hp Try.prog true (Instr.fieldAt 66 t53 3) (fun t54 _ => 
 Hp Try.prog true (Instr.loadAt 3 t54) (fun t55 _ => 
 Hp Try.prog true (binS .shl 2 (.const (.int .i64 1)) (.tmp 55) (.int .i64 1) t55) (fun t56 _ => 
 Hp Try.prog true (binS .sub 2 (.tmp 56) (.const (.int .i64 1)) t56 (.int .i64 1)) (fun t57 _ => 
 Hp Try.prog true (binS .and 2 (.tmp 51) (.tmp 57) t32 t57) (fun t58 _ => 
 Hp Try.prog true (Instr.sliceAt 29 t45 (some t58) none none) (fun t59 _ => 
 Hp Try.prog false (Builtin.copy_ #[29, 29] 3 #[t49, t59]) (fun t60 h_19 => 
 R (.tuple #[]) h_19) h_18 ⟨⟩) #[] ⟨⟩) #[] ⟨⟩) #[] ⟨⟩) #[] ⟨⟩) h_18 ⟨⟩) #[] ⟨⟩) #[] ⟨⟩) #[] ⟨⟩) (
 Hp Try.prog true (nilS w0) (fun t23 _ => 
 Hp Try.prog true (Instr.fieldAt 55 t23 0) (fun t24 _ => 
 Hp Try.prog true (Instr.loadAt 53 t24) (fun t25 _ => 
 Hp Try.prog true (nilS x2_1) (fun t27 _ => 
 Hp Try.prog true (Instr.fieldAt 66 t27 1) (fun t28 _ => 
 Hp Try.prog true (Instr.loadAt 9 t28) (fun t29 _ => 
 Hp Try.prog true (Instr.lookup 53 t25 t29 false) (fun t30 _ => 
 X t30 h_18) h_18 ⟨⟩) h_18 ⟨⟩) #[] ⟨⟩) #[] ⟨⟩) h_18 ⟨⟩) #[] ⟨⟩) #[] ⟨⟩) ⟨⟩ ⟨⟩) #[] ⟨⟩) #[] ⟨⟩) h_18 ⟨⟩) #[] ⟨⟩) h_18 ⟨⟩) #[] ⟨⟩) #[] ⟨⟩) h_18 ⟨⟩) #[] ⟨⟩) #[] ⟨⟩) h_17 ⟨⟩) (
 Hp Try.prog false (Instr.sliceAt 29 to1 none (some (.int .i64 512)) none) (fun t62 h_20 => 
 Hp Try.prog false (Builtin.clear_ #[29] 0 #[t62]) (fun _ h_21 => 
 R (.tuple #[]) h_21) h_20 ⟨⟩) h_17 ⟨⟩) ⟨⟩ ⟨⟩) h_16 ⟨⟩) h_14 ⟨⟩ ⟨⟩) h_12 ⟨⟩ ⟨⟩) h_10 ⟨⟩ ⟨⟩) h_8 ⟨⟩ ⟨⟩) h_6 ⟨⟩ ⟨⟩) h_4 ⟨⟩ ⟨⟩) h_2 ⟨⟩ ⟨⟩) h_1 ⟨⟩) [x2] h ⟨⟩

theorem n27_calls {w0 to1 x2 k3 : Value} {R : Value → Heap → Prop} {h : Heap} (H : n27 w0 to1 x2 k3 R h) : CallsH Try.prog 27 #[w0, to1, x2, k3] h R ⟨⟩ :=
 callsH_of_eq Try.follow (.n none (.n none (.n (some [3]) .l .l) .l) .l) Try.func27 (by kernel_rfl) (by kernel_rfl) (by kernel_rfl) H

/-- (*palimpsest/model.image).info -/
def n28 (x0 : Value) (R : Value → Heap → Prop) (h : Heap) : Prop :=
 Hp Try.prog false (Instr.alloc 41 true undef) (fun t2 h_1 => 
 Hp Try.prog true (nilS x0) (fun t9 _ => 
 Hp Try.prog true (Instr.fieldAt 66 t9 0) (fun t10 _ => 
 Hp Try.prog true (Instr.loadAt 9 t10) (fun t11 _ => 
 Hp Try.prog true (nilS x0) (fun t13 _ => 
 Hp Try.prog true (Instr.fieldAt 66 t13 1) (fun t14 _ => 
 Hp Try.prog true (Instr.loadAt 9 t14) (fun t15 _ => 
 Hp Try.prog true (nilS x0) (fun t17 _ => 
 Hp Try.prog true (Instr.fieldAt 66 t17 2) (fun t18 _ => 
 Hp Try.prog true (Instr.loadAt 2 t18) (fun t19 _ => 
 Hp Try.prog true (nilS x0) (fun t21 _ => 
 Hp Try.prog true (Instr.fieldAt 66 t21 3) (fun t22 _ => 
 Hp Try.prog true (Instr.loadAt 3 t22) (fun t23 _ => 
 Hp Try.prog true (Instr.build 41 #[(0, t11), (1, t15), (2, t19), (3, t23)]) (fun t24 _ => 
 Hp Try.prog false (Instr.alloc 41 true undef) (fun y3 h_2 => Hp Try.prog true (Instr.loadAt 3 t22) (fun u _ => u = t23) h_2 ⟨⟩ ∧ Hp Try.prog true (Instr.loadAt 2 t18) (fun u _ => u = t19) h_2 ⟨⟩ ∧ Hp Try.prog true (Instr.loadAt 9 t14) (fun u _ => u = t15) h_2 ⟨⟩ ∧ Hp Try.prog true (Instr.loadAt 9 t10) (fun u _ => u = t11) h_2 ⟨⟩ ∧ 
 Hp Try.prog false (storeS 41 y3 t24) (fun _ h_3 => 
 Hp Try.prog false (nilS x0) (fun t26 h_4 => 
 Hp Try.prog false (Instr.fieldAt 66 t26 5) (fun t27 h_5 => 
 Hp Try.prog false (Instr.loadAt 63 t27) (fun t28 h_6 => 
 Hp Try.prog false (Builtin.len_ #[63] 3 #[t28]) (fun t29 h_7 => 
 LoopC 1 (fun (X : Value → Heap → Prop) => fun t30 h_8 =>
 Hp Try.prog false (binS .lss 3 (.tmp 30) (.tmp 29) t30 t29) (fun t31 h_9 => 
 CondP t31 (
 Hp Try.prog false (Instr.indexAt 63 t28 t30) (fun t32 h_10 => 
 Hp Try.prog false (Instr.loadAt 101 t32) (fun t33 h_11 => 
 Hp Try.prog false (Instr.alloc 101 true undef) (fun s5 h_12 => 
 Hp Try.prog false (storeS 101 s5 t33) (fun _ h_13 => 
 Hp Try.prog false (Instr.fieldAt 41 y3 4) (fun t34 h_14 => 
 Hp Try.prog false (Instr.loadAt 38 t34) (fun t35 h_15 => 
 Hp Try.prog false (Instr.fieldAt 101 s5 0) (fun t36 h_16 => 
 Hp Try.prog false (Instr.loadAt 9 t36) (fun t37 h_17 => 
 Hp Try.prog false (Instr.fieldAt 101 s5 1) (fun t38 h_18 => 
 Hp Try.prog false (Instr.loadAt 2 t38) (fun t39 h_19 => 
 Hp Try.prog false (Instr.build 87 #[(0, t37), (1, t39)]) (fun t40 h_20 => 
 Hp Try.prog false (Instr.buildSlice 38 1 #[(0, t40)]) (fun t41 h_21 => 
 Hp Try.prog false (Builtin.append_ #[38, 38] 38 #[t35, t41]) (fun t42 h_22 => 
 Hp Try.prog false (Instr.fieldAt 41 y3 4) (fun t43 h_23 => 
 Hp Try.prog false (storeS 38 t43 t42) (fun _ h_24 => 
 Hp Try.prog false (binS .add 3 (.tmp 30) (.const (.int .i64 1)) t30 (.int .i64 1)) (fun t44 h_25 => 
 X t44 h_25) h_24 ⟨⟩) h_23 ⟨⟩) h_22 ⟨⟩) h_21 ⟨⟩) h_20 ⟨⟩) h_19 ⟨⟩) h_18 ⟨⟩) h_17 ⟨⟩) h_16 ⟨⟩) h_15 ⟨⟩) h_14 ⟨⟩) h_13 ⟨⟩) h_12 ⟨⟩) h_11 ⟨⟩) h_10 ⟨⟩) h_9 ⟨⟩) (
 Hp Try.prog false (nilS x0) (fun t46 h_26 => 
 Hp Try.prog false (Instr.fieldAt 66 t46 6) (fun t47 h_27 => 
 Hp Try.prog false (Instr.loadAt 64 t47) (fun t48 h_28 => 
 Hp Try.prog false (Builtin.len_ #[64] 3 #[t48]) (fun t49 h_29 => 
 LoopC 1 (fun (X_1 : Value → Heap → Prop) => fun t50 h_30 =>
 Hp Try.prog false (binS .lss 3 (.tmp 50) (.tmp 49) t50 t49) (fun t51 h_31 => 
 CondP t51 (
 Hp Try.prog false (Instr.indexAt 64 t48 t50) (fun t52 h_32 => 
 Hp Try.prog false (Instr.loadAt 99 t52) (fun t53 h_33 => 
 Hp Try.prog false (Instr.alloc 99 true undef) (fun m7 h_34 => 
 Hp Try.prog false (storeS 99 m7 t53) (fun _ h_35 => 
 Hp Try.prog true (Instr.fieldAt 41 y3 5) (fun t54 _ => 
 Hp Try.prog true (Instr.loadAt 39 t54) (fun t55 _ => 
 Hp Try.prog true (Instr.fieldAt 99 m7 0) (fun t56 _ => 
 Hp Try.prog true (Instr.loadAt 9 t56) (fun t57 _ => 
 Hp Try.prog true (Instr.fieldAt 99 m7 1) (fun t58 _ => 
 Hp Try.prog true (Instr.loadAt 3 t58) (fun t59 _ => 
 Hp Try.prog true (Instr.fieldAt 99 m7 2) (fun t60 _ => 
 Hp Try.prog true (Instr.loadAt 4 t60) (fun t61 _ => 
 Hp Try.prog true (Instr.fieldAt 99 m7 3) (fun t62 _ => 
 Hp Try.prog true (Instr.loadAt 97 t62) (fun t63 _ => 
 CallsH Try.prog 44 #[t63] h_35 (fun t64 h_36 => Hp Try.prog true (Instr.loadAt 4 t60) (fun u _ => u = t61) h_36 ⟨⟩ ∧ Hp Try.prog true (Instr.loadAt 3 t58) (fun u _ => u = t59) h_36 ⟨⟩ ∧ Hp Try.prog true (Instr.loadAt 9 t56) (fun u _ => u = t57) h_36 ⟨⟩ ∧ Hp Try.prog true (Instr.loadAt 39 t54) (fun u _ => u = t55) h_36 ⟨⟩ ∧ 
 CallsH Try.prog 43 #[t64] h_36 (fun t65 h_37 => Hp Try.prog true (Instr.loadAt 4 t60) (fun u _ => u = t61) h_37 ⟨⟩ ∧ Hp Try.prog true (Instr.loadAt 3 t58) (fun u _ => u = t59) h_37 ⟨⟩ ∧ Hp Try.prog true (Instr.loadAt 9 t56) (fun u _ => u = t57) h_37 ⟨⟩ ∧ Hp Try.prog true (Instr.loadAt 39 t54) (fun u _ => u = t55) h_37 ⟨⟩ ∧ 
 Hp Try.prog true (Instr.build 91 #[(0, t57), (1, t59), (2, t61), (3, t65)]) (fun t66 _ => 
 Hp Try.prog false (Instr.buildSlice 39 1 #[(0, t66)]) (fun t67 h_38 => Hp Try.prog true (Instr.loadAt 39 t54) (fun u _ => u = t55) h_38 ⟨⟩ ∧ 
 Hp Try.prog false (Builtin.append_ #[39, 39] 39 #[t55, t67]) (fun t68 h_39 => 
 Hp Try.prog true (Instr.fieldAt 41 y3 5) (fun t69 _ => 
 Hp Try.prog false (storeS 39 t69 t68) (fun _ h_40 => 
 Hp Try.prog false (binS .add 3 (.tmp 50) (.const (.int .i64 1)) t50 (.int .i64 1)) (fun t70 h_41 => 
 X_1 t70 h_41) h_40 ⟨⟩) h_39 ⟨⟩) #[] ⟨⟩) h_38 ⟨⟩) h_37 ⟨⟩) #[] ⟨⟩) ⟨⟩) ⟨⟩) h_35 ⟨⟩) #[] ⟨⟩) h_35 ⟨⟩) #[] ⟨⟩) h_35 ⟨⟩) #[] ⟨⟩) h_35 ⟨⟩) #[] ⟨⟩) h_35 ⟨⟩) #[] ⟨⟩) h_34 ⟨⟩) h_33 ⟨⟩) h_32 ⟨⟩) h_31 ⟨⟩) (
 Hp Try.prog false (Instr.loadAt 41 y3) (fun t71 h_42 => 
 Hp Try.prog false (storeS 41 t2 t71) (fun _ h_43 => 
 Hp Try.prog true (loadCell 41 t2) (fun r _ =>
 R r h_43) h_43 ⟨⟩) h_42 ⟨⟩) h_31 ⟨⟩) ⟨⟩ ⟨⟩) h_30 ⟨⟩) [(.int .i64 0)] h_29 ⟨⟩) h_28 ⟨⟩) h_27 ⟨⟩) h_26 ⟨⟩) h_9 ⟨⟩) ⟨⟩ ⟨⟩) h_8 ⟨⟩) [(.int .i64 0)] h_7 ⟨⟩) h_6 ⟨⟩) h_5 ⟨⟩) h_4 ⟨⟩) h_3 ⟨⟩) h_2 ⟨⟩) h_1 ⟨⟩) #[] ⟨⟩) h_1 ⟨⟩) #[] ⟨⟩) #[] ⟨⟩) h_1 ⟨⟩) #[] ⟨⟩) #[] ⟨⟩) h_1 ⟨⟩) #[] ⟨⟩) #[] ⟨⟩) h_1 ⟨⟩) #[] ⟨⟩) #[] ⟨⟩) h ⟨⟩

theorem n28_calls {x0 : Value} {R : Value → Heap → Prop} {h : Heap} (H : n28 x0 R h) : CallsH Try.prog 28 #[x0] h R ⟨⟩ :=
 callsH_of_eq Try.follow (.n none .l (.n none .l (.n none (.n none .l (.n none (.n (some [31]) .l .l) .l)) (.n none (.n none .l (.n none (.n (some [51]) .l .l) .l)) .l)))) Try.func28 (by kernel_rfl) (by kernel_rfl) (by kernel_rfl) H

/-- (*palimpsest/model.image).clusters -/
def n29 (x0 : Value) (R : Value → Heap → Prop) (h : Heap) : Prop :=
 Hp Try.prog true (nilS x0) (fun t4 _ => 
 Hp Try.prog true (Instr.fieldAt 66 t4 2) (fun t5 _ => 
 Hp Try.prog true (Instr.loadAt 2 t5) (fun t6 _ => 
 Hp Try.prog true (nilS x0) (fun t8 _ => 
 Hp Try.prog true (Instr.fieldAt 66 t8 3) (fun t9 _ => 
 Hp Try.prog true (Instr.loadAt 3 t9) (fun t10 _ => 
 Hp Try.prog true (binS .shl 2 (.const (.int .i64 1)) (.tmp 10) (.int .i64 1) t10) (fun t11 _ => 
 Hp Try.prog true (binS .add 2 (.tmp 6) (.tmp 11) t6 t11) (fun t12 _ => 
 Hp Try.prog true (binS .sub 2 (.tmp 12) (.const (.int .i64 1)) t12 (.int .i64 1)) (fun t13 _ => 
 Hp Try.prog true (nilS x0) (fun t15 _ => 
 Hp Try.prog true (Instr.fieldAt 66 t15 3) (fun t16 _ => 
 Hp Try.prog true (Instr.loadAt 3 t16) (fun t17 _ => 
 Hp Try.prog true (binS .shr 2 (.tmp 13) (.tmp 17) t13 t17) (fun t18 _ => 
 R t18 h) #[] ⟨⟩) h ⟨⟩) #[] ⟨⟩) #[] ⟨⟩) #[] ⟨⟩) #[] ⟨⟩) #[] ⟨⟩) h ⟨⟩) #[] ⟨⟩) #[] ⟨⟩) h ⟨⟩) #[] ⟨⟩) #[] ⟨⟩

theorem n29_calls {x0 : Value} {R : Value → Heap → Prop} {h : Heap} (H : n29 x0 R h) : CallsH Try.prog 29 #[x0] h R ⟨⟩ :=
 callsH_of_eq Try.follow .l Try.func29 (by kernel_rfl) (by kernel_rfl) (by kernel_rfl) H

/-- (*palimpsest/model.image).there -/
def n30 (x0 at1 n2 : Value) (R : Value → Heap → Prop) (h : Heap) : Prop :=
 Hp Try.prog false (nilS x0) (fun t9 h_1 => 
 Hp Try.prog false (Instr.fieldAt 66 t9 2) (fun t10 h_2 => 
 Hp Try.prog false (Instr.loadAt 2 t10) (fun t11 h_3 => 
 Hp Try.prog false (binS .quo 2 (.tmp 11) (.const (.int .i64 512)) t11 (.int .i64 512)) (fun t12 h_4 => 
 Hp Try.prog false (binS .geq 2 (.tmp 13) (.const (.int .i64 0)) at1 (.int .i64 0)) (fun t14 h_5 => 
 Join1 (fun k h_6 => guardP t14 true (k at1 h_6) (k undef h_6) ⟨⟩ ⟨⟩) (fun t16 h_7 => 
 Join1 (fun k_1 h_8 => guardP t14 true (k_1 t12 h_8) (k_1 undef h_8) ⟨⟩ ⟨⟩) (fun t17 h_9 => 
 Join1 (fun k_2 h_10 => guardP t14 true (Hp Try.prog false (binS .leq 2 (.tmp 16) (.tmp 17) t16 t17) k_2 h_10 ⟨⟩) (k_2 undef h_10) ⟨⟩ ⟨⟩) (fun t18 h_11 => 
 Hp Try.prog false (pickS t14 t18 (.bool false)) (fun t19 h_12 => 
 Join1 (fun k_3 h_13 => guardP t19 true (k_3 n2 h_13) (k_3 undef h_13) ⟨⟩ ⟨⟩) (fun t21 h_14 => 
 Join1 (fun k_4 h_15 => guardP t19 true (k_4 t12 h_15) (k_4 undef h_15) ⟨⟩ ⟨⟩) (fun t22 h_16 => 
 Join1 (fun k_5 h_17 => guardP t19 true (k_5 at1 h_17) (k_5 undef h_17) ⟨⟩ ⟨⟩) (fun t23 h_18 => 
 Join1 (fun k_6 h_19 => guardP t19 true (Hp Try.prog false (binS .sub 2 (.tmp 22) (.tmp 23) t22 t23) k_6 h_19 ⟨⟩) (k_6 undef h_19) ⟨⟩ ⟨⟩) (fun t24 h_20 => 
 Join1 (fun k_7 h_21 => guardP t19 true (Hp Try.prog false (binS .leq 2 (.tmp 21) (.tmp 24) t21 t24) k_7 h_21 ⟨⟩) (k_7 undef h_21) ⟨⟩ ⟨⟩) (fun t25 h_22 => 
 Hp Try.prog false (pickS t19 t25 (.bool false)) (fun t26 h_23 => 
 R t26 h_23) h_22 ⟨⟩) h_20 ⟨⟩ ⟨⟩) h_18 ⟨⟩ ⟨⟩) h_16 ⟨⟩ ⟨⟩) h_14 ⟨⟩ ⟨⟩) h_12 ⟨⟩ ⟨⟩) h_11 ⟨⟩) h_9 ⟨⟩ ⟨⟩) h_7 ⟨⟩ ⟨⟩) h_5 ⟨⟩ ⟨⟩) h_4 ⟨⟩) h_3 ⟨⟩) h_2 ⟨⟩) h_1 ⟨⟩) h ⟨⟩

theorem n30_calls {x0 at1 n2 : Value} {R : Value → Heap → Prop} {h : Heap} (H : n30 x0 at1 n2 R h) : CallsH Try.prog 30 #[x0, at1, n2] h R ⟨⟩ :=
 callsH_of_eq Try.follow .l Try.func30 (by kernel_rfl) (by kernel_rfl) (by kernel_rfl) H

/-- (*palimpsest/model.World).content -/
def n31 (w0 x1 at2 n3 : Value) (R : Value → Heap → Prop) (h : Heap) : Prop :=
 Hp Try.prog false (binS .mul 2 (.tmp 11) (.const (.int .i64 512)) n3 (.int .i64 512)) (fun t12 h_1 => 
 Hp Try.prog false (Instr.makeSlice 29 t12 t12) (fun t13 h_2 => 
 LoopC 1 (fun (X : Value → Heap → Prop) => fun t15 h_3 =>
 Hp Try.prog false (binS .lss 2 (.tmp 15) (.tmp 14) t15 n3) (fun t16 h_4 => 
 CondP t16 (
 Hp Try.prog false (binS .mul 2 (.tmp 20) (.const (.int .i64 512)) t15 (.int .i64 512)) (fun t21 h_5 => 
 Hp Try.prog false (Instr.sliceAt 29 t13 (some t21) none none) (fun t22 h_6 => 
 Hp Try.prog false (binS .add 2 (.tmp 24) (.tmp 25) at2 t15) (fun t26 h_7 => 
 CallsH Try.prog 27 #[w0, t22, x1, t26] h_7 (fun t27 h_8 => 
 Hp Try.prog false (binS .add 2 (.tmp 15) (.const (.int .i64 1)) t15 (.int .i64 1)) (fun t28 h_9 => 
 X t28 h_9) h_8 ⟨⟩) ⟨⟩) h_6 ⟨⟩) h_5 ⟨⟩) h_4 ⟨⟩) (
 R t13 h_4) ⟨⟩ ⟨⟩) h_3 ⟨⟩) [(.int .i64 0)] h_2 ⟨⟩) h_1 ⟨⟩) h ⟨⟩

theorem n31_calls {w0 x1 at2 n3 : Value} {R : Value → Heap → Prop} {h : Heap} (H : n31 w0 x1 at2 n3 R h) : CallsH Try.prog 31 #[w0, x1, at2, n3] h R ⟨⟩ :=
 callsH_of_eq Try.follow (.n none .l (.n none .l (.n none (.n none .l (.n none (.n (some [16]) .l .l) .l)) .l))) Try.func31 (by kernel_rfl) (by kernel_rfl) (by kernel_rfl) H

/-- (*palimpsest/model.World).above -/
def n32 (w0 x1 : Value) (R : Value → Heap → Prop) (h : Heap) : Prop :=
 Hp Try.prog false (nilS w0) (fun t9 h_1 => 
 Hp Try.prog false (Instr.fieldAt 55 t9 0) (fun t10 h_2 => 
 Hp Try.prog false (Instr.loadAt 53 t10) (fun t11 h_3 => 
 Hp Try.prog false (Instr.range 53 t11) (fun t12 h_4 => 
 LoopC 1 (fun (X : Value → Heap → Prop) => fun n5 h_5 =>
 Hp Try.prog false (Instr.next t12 false 0) (fun t13 h_6 => 
 Hp Try.prog false (Instr.extract t13 0) (fun t14 h_7 => 
 CondP t14 (
 JoinN 1 (fun (k : Value → Heap → Prop) h_8 =>
 Hp Try.prog false (Instr.entry t12) (fun t15 h_9 => 
 Hp Try.prog false (Instr.extract t15 1) (fun t16 h_10 => 
 Hp Try.prog true (nilS t16) (fun t18 _ => 
 Hp Try.prog true (Instr.fieldAt 66 t18 1) (fun t19 _ => 
 Hp Try.prog true (Instr.loadAt 9 t19) (fun t20 _ => 
 Hp Try.prog true (nilS x1) (fun t22 _ => 
 Hp Try.prog true (Instr.fieldAt 66 t22 0) (fun t23 _ => 
 Hp Try.prog true (Instr.loadAt 9 t23) (fun t24 _ => 
 Hp Try.prog true (binS .eql 9 (.tmp 20) (.tmp 24) t20 t24) (fun t25 _ => 
 CondP t25 (
 Hp Try.prog false (binS .add 3 (.tmp 26) (.const (.int .i64 1)) n5 (.int .i64 1)) (fun t27 h_11 => 
 k t27 h_11) h_10 ⟨⟩) (
 k n5 h_10) ⟨⟩ ⟨⟩) #[] ⟨⟩) h_10 ⟨⟩) #[] ⟨⟩) #[] ⟨⟩) h_10 ⟨⟩) #[] ⟨⟩) #[] ⟨⟩) h_9 ⟨⟩) h_8 ⟨⟩)
 (fun n5_1 h_12 =>
 X n5_1 h_12) h_7 ⟨⟩ ⟨⟩) (
 R n5 h_7) ⟨⟩ ⟨⟩) h_6 ⟨⟩) h_5 ⟨⟩) [(.int .i64 0)] h_4 ⟨⟩) h_3 ⟨⟩) h_2 ⟨⟩) h_1 ⟨⟩) h ⟨⟩

theorem n32_calls {w0 x1 : Value} {R : Value → Heap → Prop} {h : Heap} (H : n32 w0 x1 R h) : CallsH Try.prog 32 #[w0, x1] h R ⟨⟩ :=
 callsH_of_eq Try.follow (.n none .l (.n none .l (.n none (.n none .l (.n none (.n (some [6]) (.n none .l (.n none .l (.n (some [6]) .l .l))) .l) .l)) .l))) Try.func32 (by kernel_rfl) (by kernel_rfl) (by kernel_rfl) H

/-- (*palimpsest/model.World).Names -/
def n34 (w0 : Value) (R : Value → Heap → Prop) (h : Heap) : Prop :=
 CallsH Try.prog 18 #[w0] h (fun t4 h_1 => 
 CondP t4 (
 R (.slice none 0 0) h_1) (
 Hp Try.prog false (nilS w0) (fun t6 h_2 => 
 Hp Try.prog false (Instr.fieldAt 55 t6 0) (fun t7 h_3 => 
 Hp Try.prog false (Instr.loadAt 53 t7) (fun t8 h_4 => 
 CallsH Try.prog 46 #[t8] h_4 (fun t9 h_5 => 
 CallsH Try.prog 45 #[t9] h_5 (fun t10 h_6 => 
 R t10 h_6) ⟨⟩) ⟨⟩) h_3 ⟨⟩) h_2 ⟨⟩) h_1 ⟨⟩) ⟨⟩ ⟨⟩) ⟨⟩

theorem n34_calls {w0 : Value} {R : Value → Heap → Prop} {h : Heap} (H : n34 w0 R h) : CallsH Try.prog 34 #[w0] h R ⟨⟩ :=
 callsH_of_eq Try.follow .l Try.func34 (by kernel_rfl) (by kernel_rfl) (by kernel_rfl) H

/-- (*palimpsest/model.World).All$1 -/
def n35 (yield0 t1 : Value) (R : Value → Heap → Prop) (h : Heap) : Prop :=
 Hp Try.prog false (Instr.loadAt 81 t1) (fun t7 h_1 => 
 Hp Try.prog false (Builtin.len_ #[81] 3 #[t7]) (fun t8 h_2 => 
 LoopC 1 (fun (X : Value → Heap → Prop) => fun t9 h_3 =>
 Hp Try.prog false (binS .lss 3 (.tmp 9) (.tmp 8) t9 t8) (fun t10 h_4 => 
 CondP t10 (
 Hp Try.prog false (Instr.indexAt 81 t7 t9) (fun t11 h_5 => 
 Hp Try.prog false (Instr.loadAt 41 t11) (fun t12 h_6 => 
 Hp Try.prog false (Instr.alloc 41 true undef) (fun x4 h_7 => 
 Hp Try.prog false (storeS 41 x4 t12) (fun _ h_8 => 
 Hp Try.prog false (Instr.loadAt 41 x4) (fun t13 h_9 => 
 Hp Try.prog false (Instr.alloc 41 true undef) (fun y5 h_10 => 
 Hp Try.prog false (storeS 41 y5 t13) (fun _ h_11 => 
 Hp Try.prog false (Instr.fieldAt 41 x4 4) (fun t14 h_12 => 
 Hp Try.prog false (Instr.loadAt 38 t14) (fun t15 h_13 => 
 CallsH Try.prog 36 #[t15] h_13 (fun t16 h_14 => 
 Hp Try.prog false (Instr.fieldAt 41 y5 4) (fun t17 h_15 => 
 Hp Try.prog false (storeS 38 t17 t16) (fun _ h_16 => 
 Hp Try.prog false (Instr.fieldAt 41 x4 5) (fun t18 h_17 => 
 Hp Try.prog false (Instr.loadAt 39 t18) (fun t19 h_18 => 
 CallsH Try.prog 37 #[t19] h_18 (fun t20 h_19 => 
 Hp Try.prog false (Instr.fieldAt 41 y5 5) (fun t21 h_20 => 
 Hp Try.prog false (storeS 39 t21 t20) (fun _ h_21 => 
 Hp Try.prog false (Instr.fieldAt 41 y5 5) (fun t22 h_22 => 
 Hp Try.prog false (Instr.loadAt 39 t22) (fun t23 h_23 => 
 Hp Try.prog false (Builtin.len_ #[39] 3 #[t23]) (fun t24 h_24 => 
 LoopC 1 (fun (X_1 : Value → Heap → Prop) => fun t25 h_25 =>
 Hp Try.prog false (binS .lss 3 (.tmp 25) (.tmp 24) t25 t24) (fun t26 h_26 => 
 CondP t26 (
 Hp Try.prog true (Instr.fieldAt 41 y5 5) (fun t28 _ => 
 Hp Try.prog true (Instr.loadAt 39 t28) (fun t29 _ => 
 Hp Try.prog true (Instr.fieldAt 41 x4 5) (fun t31 _ => 
 Hp Try.prog true (Instr.loadAt 39 t31) (fun t32 _ => 
 Hp Try.prog true (Instr.indexAt 39 t32 t25) (fun t34 _ => 
 Hp Try.prog true (Instr.fieldAt 91 t34 3) (fun t35 _ => 
 Hp Try.prog true (Instr.loadAt 89 t35) (fun t36 _ => 
 CallsH Try.prog 38 #[t36] h_26 (fun t37 h_27 => Hp Try.prog true (Instr.loadAt 39 t28) (fun u _ => u = t29) h_27 ⟨⟩ ∧ 
 Hp Try.prog true (Instr.indexAt 39 t29 t25) (fun t38 _ => 
 Hp Try.prog true (Instr.fieldAt 91 t38 3) (fun t39 _ => 
 Hp Try.prog false (storeS 89 t39 t37) (fun _ h_28 => 
 Hp Try.prog false (binS .add 3 (.tmp 25) (.const (.int .i64 1)) t25 (.int .i64 1)) (fun t40 h_29 => 
 X_1 t40 h_29) h_28 ⟨⟩) h_27 ⟨⟩) #[] ⟨⟩) #[] ⟨⟩) ⟨⟩) h_26 ⟨⟩) #[] ⟨⟩) #[] ⟨⟩) h_26 ⟨⟩) #[] ⟨⟩) h_26 ⟨⟩) #[] ⟨⟩) (
 Hp Try.prog false (Instr.fieldAt 41 x4 0) (fun t42 h_30 => 
 Hp Try.prog false (Instr.loadAt 9 t42) (fun t43 h_31 => 
 Hp Try.prog false (Instr.loadAt 41 y5) (fun t44 h_32 => 
 InvokeH Try.prog yield0 #[t43, t44] h_32 (fun t45 h_33 => 
 Hp Try.prog false (Op.unary .not t45) (fun t46 h_34 => 
 CondP t46 (
 R (.tuple #[]) h_34) (
 Hp Try.prog false (binS .add 3 (.tmp 9) (.const (.int .i64 1)) t9 (.int .i64 1)) (fun t47 h_35 => 
 X t47 h_35) h_34 ⟨⟩) ⟨⟩ ⟨⟩) h_33 ⟨⟩) ⟨⟩) h_31 ⟨⟩) h_30 ⟨⟩) h_26 ⟨⟩) ⟨⟩ ⟨⟩) h_25 ⟨⟩) [(.int .i64 0)] h_24 ⟨⟩) h_23 ⟨⟩) h_22 ⟨⟩) h_21 ⟨⟩) h_20 ⟨⟩) h_19 ⟨⟩) ⟨⟩) h_17 ⟨⟩) h_16 ⟨⟩) h_15 ⟨⟩) h_14 ⟨⟩) ⟨⟩) h_12 ⟨⟩) h_11 ⟨⟩) h_10 ⟨⟩) h_9 ⟨⟩) h_8 ⟨⟩) h_7 ⟨⟩) h_6 ⟨⟩) h_5 ⟨⟩) h_4 ⟨⟩) (
 R (.tuple #[]) h_4) ⟨⟩ ⟨⟩) h_3 ⟨⟩) [(.int .i64 0)] h_2 ⟨⟩) h_1 ⟨⟩) h ⟨⟩

theorem n35_calls {yield0 t1 : Value} {R : Value → Heap → Prop} {h : Heap} (H : n35 yield0 t1 R h) : CallsH Try.prog 35 #[yield0, t1] h R ⟨⟩ :=
 callsH_of_eq Try.follow (.n none .l (.n none (.n (some [10]) (.n none .l (.n none .l (.n none (.n none (.n none .l (.n none .l (.n none .l (.n none .l (.n none (.n none .l (.n none (.n (some [26]) .l .l) .l)) .l))))) .l) .l))) .l) .l)) Try.func35 (by kernel_rfl) (by kernel_rfl) (by kernel_rfl) H

/-- (*palimpsest/model.World).hold -/
def n42 (w0 x1 c2 : Value) (R : Value → Heap → Prop) (h : Heap) : Prop :=
 Hp Try.prog false (nilS x1) (fun t14 h_1 => 
 Hp Try.prog false (Instr.fieldAt 66 t14 4) (fun t15 h_2 => 
 Hp Try.prog false (Instr.loadAt 62 t15) (fun t16 h_3 => 
 Hp Try.prog false (Instr.lookup 62 t16 c2 true) (fun t18 h_4 => 
 Hp Try.prog false (Instr.extract t18 0) (fun t19 h_5 => 
 Hp Try.prog false (Instr.extract t18 1) (fun t20 h_6 => 
 CondP t20 (
 R t19 h_6) (
 Hp Try.prog false (nilS x1) (fun t24 h_7 => 
 Hp Try.prog false (Instr.fieldAt 66 t24 3) (fun t25 h_8 => 
 Hp Try.prog false (Instr.loadAt 3 t25) (fun t26 h_9 => 
 Hp Try.prog false (binS .shl 3 (.const (.int .i64 1)) (.tmp 26) (.int .i64 1) t26) (fun t27 h_10 => 
 Hp Try.prog false (Instr.makeSlice 29 t27 t27) (fun t28 h_11 => 
 Hp Try.prog false (nilS x1) (fun t31 h_12 => 
 Hp Try.prog false (Instr.fieldAt 66 t31 3) (fun t32 h_13 => 
 Hp Try.prog false (Instr.loadAt 3 t32) (fun t33 h_14 => 
 Hp Try.prog false (binS .shl 2 (.tmp 29) (.tmp 33) c2 t33) (fun t34 h_15 => 
 Hp Try.prog true (nilS x1) (fun t37 _ => 
 Hp Try.prog true (Instr.fieldAt 66 t37 3) (fun t38 _ => 
 Hp Try.prog true (Instr.loadAt 3 t38) (fun t39 _ => 
 Hp Try.prog true (binS .shl 2 (.const (.int .i64 1)) (.tmp 39) (.int .i64 1) t39) (fun t40 _ => 
 Hp Try.prog true (binS .add 2 (.tmp 35) (.tmp 40) t34 t40) (fun t41 _ => 
 Hp Try.prog true (nilS x1) (fun t43 _ => 
 Hp Try.prog true (Instr.fieldAt 66 t43 2) (fun t44 _ => 
 Hp Try.prog true (Instr.loadAt 2 t44) (fun t45 _ => 
 Hp Try.prog true (Builtin.min_ #[2, 2] 2 #[t41, t45]) (fun t46 _ => 
 Hp Try.prog false (binS .quo 2 (.tmp 50) (.const (.int .i64 512)) t34 (.int .i64 512)) (fun t51 h_16 => 
 Hp Try.prog false (binS .sub 2 (.tmp 52) (.tmp 53) t46 t34) (fun t54 h_17 => 
 Hp Try.prog false (binS .quo 2 (.tmp 54) (.const (.int .i64 512)) t54 (.int .i64 512)) (fun t55 h_18 => 
 CallsH Try.prog 31 #[w0, x1, t51, t55] h_18 (fun t56 h_19 => 
 Hp Try.prog false (Builtin.copy_ #[29, 29] 3 #[t28, t56]) (fun t57 h_20 => 
 Hp Try.prog false (nilS x1) (fun t59 h_21 => 
 Hp Try.prog false (Instr.fieldAt 66 t59 4) (fun t60 h_22 => 
 Hp Try.prog false (Instr.loadAt 62 t60) (fun t61 h_23 => 
 Hp Try.prog false (unitS (Instr.mapUpdate 62 t61 c2 t28)) (fun _ h_24 => 
 R t28 h_24) h_23 ⟨⟩) h_22 ⟨⟩) h_21 ⟨⟩) h_20 ⟨⟩) h_19 ⟨⟩) ⟨⟩) h_17 ⟨⟩) h_16 ⟨⟩) h_15 ⟨⟩) #[] ⟨⟩) h_15 ⟨⟩) #[] ⟨⟩) #[] ⟨⟩) #[] ⟨⟩) #[] ⟨⟩) h_15 ⟨⟩) #[] ⟨⟩) #[] ⟨⟩) h_14 ⟨⟩) h_13 ⟨⟩) h_12 ⟨⟩) h_11 ⟨⟩) h_10 ⟨⟩) h_9 ⟨⟩) h_8 ⟨⟩) h_7 ⟨⟩) h_6 ⟨⟩) ⟨⟩ ⟨⟩) h_5 ⟨⟩) h_4 ⟨⟩) h_3 ⟨⟩) h_2 ⟨⟩) h_1 ⟨⟩) h ⟨⟩

theorem n42_calls {w0 x1 c2 : Value} {R : Value → Heap → Prop} {h : Heap} (H : n42 w0 x1 c2 R h) : CallsH Try.prog 42 #[w0, x1, c2] h R ⟨⟩ :=
 callsH_of_eq Try.follow .l Try.func42 (by kernel_rfl) (by kernel_rfl) (by kernel_rfl) H

end Go.Proofs.Ytcgboagadgehjaa

/- Printed by wip/tools/gen.py: the condition of each function, and that a call meets it. -/
import Derived.Test.YtgcllbelgakjgaaVcFun
import Derived.Test.YtgcllbelgakjgaaProg
import Derived.Test.YtgcllbelgakjgaaNiceK
set_option maxRecDepth 100000
set_option linter.unusedVariables false
namespace Go.Proofs.Ytgcllbelgakjgaa
open Go.Vc

/-- palimpsest/later.New -/
def n8 (l0 : Value) (R : Value → Heap → Prop) (h : Heap) : Prop :=
 CallsH Try.prog 29 #[] h (fun t7 h_1 => 
 CallsH Try.prog 10 #[t7, l0] h_1 (fun t11 h_2 => 
 Hp Try.prog false (Instr.extract t11 0) (fun t12 h_3 => 
 Hp Try.prog false (Instr.extract t11 1) (fun t13 h_4 => 
 Hp Try.prog false (binS .neq 26 (.tmp 14) (.const (.int .i64 0)) t13 (.int .i64 0)) (fun t15 h_5 => 
 CondP t15 (
 R (.tuple #[(.pointer none), t13]) h_5) (
 R (.tuple #[t7, (.int .i64 0)]) h_5) ⟨⟩ ⟨⟩) h_4 ⟨⟩) h_3 ⟨⟩) h_2 ⟨⟩) ⟨⟩) ⟨⟩

theorem n8_calls {l0 : Value} {R : Value → Heap → Prop} {h : Heap} (H : n8 l0 R h) : CallsH Try.prog 8 #[l0] h R ⟨⟩ :=
 callsH_of_eq Try.follow .l Try.func8 (by kernel_rfl) (by kernel_rfl) (by kernel_rfl) H

/-- (*palimpsest/later.Later).Put -/
def n10 (q0 l1 : Value) (R : Value → Heap → Prop) (h : Heap) : Prop :=
 CallsH Try.prog 30 #[q0] h (fun t10 h_1 => 
 CondP t10 (
 R (.tuple #[(.int .i64 0), (.int .i64 1)]) h_1) (
 CallsH Try.prog 31 #[l1, (.func (.func 32) #[] #[])] h_1 (fun t13 h_2 => 
 CondP t13 (
 R (.tuple #[(.int .i64 0), (.int .i64 2)]) h_2) (
 Hp Try.prog false (Builtin.len_ #[22] 3 #[l1]) (fun t16 h_3 => 
 Hp Try.prog false (binS .eql 3 (.tmp 16) (.const (.int .i64 1)) t16 (.int .i64 1)) (fun t17 h_4 => 
 Join1 (fun k h_5 => guardP t17 true (k q0 h_5) (k undef h_5) ⟨⟩ ⟨⟩) (fun t19 h_6 => 
 Join1 (fun k_1 h_7 => guardP t17 true (k_1 l1 h_7) (k_1 undef h_7) ⟨⟩ ⟨⟩) (fun t20 h_8 => 
 Join1 (fun k_2 h_9 => guardP t17 true (Hp Try.prog false (Instr.indexAt 22 t20 (.int .i64 0)) k_2 h_9 ⟨⟩) (k_2 undef h_9) ⟨⟩ ⟨⟩) (fun t21 h_10 => 
 Join1 (fun k_3 h_11 => guardP t17 true (Hp Try.prog false (Instr.loadAt 24 t21) k_3 h_11 ⟨⟩) (k_3 undef h_11) ⟨⟩ ⟨⟩) (fun t22 h_12 => 
 Join1 (fun k_4 h_13 => guardP t17 true (CallsH Try.prog 34 #[t19, t22] h_13 k_4 ⟨⟩) (k_4 undef h_13) ⟨⟩ ⟨⟩) (fun t23 h_14 => 
 Hp Try.prog false (pickS t17 t23 (.bool false)) (fun t24 h_15 => 
 CondP t24 (
 Hp Try.prog false (Instr.indexAt 22 l1 (.int .i64 0)) (fun t26 h_16 => 
 Hp Try.prog false (Instr.fieldAt 24 t26 1) (fun t27 h_17 => 
 Hp Try.prog false (Instr.loadAt 2 t27) (fun t28 h_18 => 
 R (.tuple #[t28, (.int .i64 0)]) h_18) h_17 ⟨⟩) h_16 ⟨⟩) h_15 ⟨⟩) (
 CallsH Try.prog 35 #[q0] h_15 (fun t30 h_19 => 
 Hp Try.prog false (Instr.buildSlice 90 2 #[(0, t30), (1, l1)]) (fun t33 h_20 => 
 CallsH Try.prog 37 #[t33] h_20 (fun t34 h_21 => 
 CallsH Try.prog 36 #[t34] h_21 (fun t35 h_22 => 
 Hp Try.prog false (Builtin.len_ #[22] 3 #[t35]) (fun t37 h_23 => 
 Hp Try.prog false (binS .gtr 3 (.tmp 37) (.const (.int .i64 4096)) t37 (.int .i64 4096)) (fun t38 h_24 => 
 CondP t38 (
 R (.tuple #[(.int .i64 0), (.int .i64 6)]) h_24) (
 CallsH Try.prog 38 #[q0, t35] h_24 (fun t41 h_25 => 
 CallsH Try.prog 39 #[t35] h_25 (fun t43 h_26 => 
 CallsH Try.prog 39 #[t30] h_26 (fun t45 h_27 => 
 Hp Try.prog false (binS .sub 2 (.tmp 43) (.tmp 45) t43 t45) (fun t46 h_28 => 
 R (.tuple #[t46, (.int .i64 0)]) h_28) h_27 ⟨⟩) ⟨⟩) ⟨⟩) ⟨⟩) ⟨⟩ ⟨⟩) h_23 ⟨⟩) h_22 ⟨⟩) ⟨⟩) ⟨⟩) h_19 ⟨⟩) ⟨⟩) ⟨⟩ ⟨⟩) h_14 ⟨⟩) h_12 ⟨⟩ ⟨⟩) h_10 ⟨⟩ ⟨⟩) h_8 ⟨⟩ ⟨⟩) h_6 ⟨⟩ ⟨⟩) h_4 ⟨⟩ ⟨⟩) h_3 ⟨⟩) h_2 ⟨⟩) ⟨⟩ ⟨⟩) ⟨⟩) ⟨⟩ ⟨⟩) ⟨⟩

theorem n10_calls {q0 l1 : Value} {R : Value → Heap → Prop} {h : Heap} (H : n10 q0 l1 R h) : CallsH Try.prog 10 #[q0, l1] h R ⟨⟩ :=
 callsH_of_eq Try.follow .l Try.func10 (by kernel_rfl) (by kernel_rfl) (by kernel_rfl) H

/-- (*palimpsest/later.Later).Cut -/
def n11 (q0 x1 : Value) (R : Value → Heap → Prop) (h : Heap) : Prop :=
 Hp Try.prog false (Instr.box 24 x1) (fun x3 h_1 => 
 CallsH Try.prog 30 #[q0] h_1 (fun t14 h_2 => 
 CondP t14 (
 R (.tuple #[(.int .i64 0), (.int .i64 1)]) h_2) (
 Hp Try.prog false (Instr.loadAt 24 x3) (fun t16 h_3 => 
 CallsH Try.prog 33 #[t16] h_3 (fun t17 h_4 => 
 Hp Try.prog false (Op.unary .not t17) (fun t18 h_5 => 
 CondP t18 (
 R (.tuple #[(.int .i64 0), (.int .i64 2)]) h_5) (
 CallsH Try.prog 35 #[q0] h_5 (fun t20 h_6 => 
 Hp Try.prog false (Builtin.len_ #[22] 3 #[t20]) (fun t22 h_7 => 
 LoopC 2 (fun (X : Value → Value → Heap → Prop) => fun out7 t23 h_8 =>
 Hp Try.prog false (binS .lss 3 (.tmp 23) (.tmp 22) t23 t22) (fun t24 h_9 => 
 CondP t24 (
 JoinN 1 (fun (k : Value → Heap → Prop) h_10 =>
 JoinN 1 (fun (k_1 : Value → Heap → Prop) h_11 =>
 Hp Try.prog false (Instr.indexAt 22 t20 t23) (fun t25 h_12 => 
 Hp Try.prog false (Instr.loadAt 24 t25) (fun t26 h_13 => 
 Hp Try.prog false (Instr.alloc 24 true undef) (fun y9 h_14 => 
 Hp Try.prog false (storeS 24 y9 t26) (fun _ h_15 => 
 JoinN 1 (fun (k_2 : Value → Heap → Prop) h_16 =>
 Hp Try.prog false (Instr.fieldAt 24 y9 1) (fun t27 h_17 => 
 Hp Try.prog false (Instr.loadAt 2 t27) (fun t28 h_18 => 
 Hp Try.prog false (Instr.fieldAt 24 x3 0) (fun t29 h_19 => 
 Hp Try.prog false (Instr.loadAt 2 t29) (fun t30 h_20 => 
 Hp Try.prog false (Instr.fieldAt 24 y9 0) (fun t31 h_21 => 
 Hp Try.prog false (Instr.loadAt 2 t31) (fun t32 h_22 => 
 Hp Try.prog false (binS .sub 2 (.tmp 30) (.tmp 32) t30 t32) (fun t33 h_23 => 
 Hp Try.prog false (Builtin.min_ #[2, 2] 2 #[t28, t33]) (fun t34 h_24 => 
 Hp Try.prog false (binS .gtr 2 (.tmp 35) (.const (.int .i64 0)) t34 (.int .i64 0)) (fun t36 h_25 => 
 CondP t36 (
 Hp Try.prog false (Instr.fieldAt 24 y9 0) (fun t38 h_26 => 
 Hp Try.prog false (Instr.loadAt 2 t38) (fun t39 h_27 => 
 Hp Try.prog false (Instr.build 24 #[(0, t39), (1, t34)]) (fun t41 h_28 => 
 Hp Try.prog false (Instr.buildSlice 22 1 #[(0, t41)]) (fun t42 h_29 => 
 Hp Try.prog false (Builtin.append_ #[22, 22] 22 #[out7, t42]) (fun t43 h_30 => 
 k_2 t43 h_30) h_29 ⟨⟩) h_28 ⟨⟩) h_27 ⟨⟩) h_26 ⟨⟩) h_25 ⟨⟩) (
 k_2 out7 h_25) ⟨⟩ ⟨⟩) h_24 ⟨⟩) h_23 ⟨⟩) h_22 ⟨⟩) h_21 ⟨⟩) h_20 ⟨⟩) h_19 ⟨⟩) h_18 ⟨⟩) h_17 ⟨⟩) h_16 ⟨⟩)
 (fun out7_1 h_31 =>
 Hp Try.prog false (Instr.fieldAt 24 y9 0) (fun t44 h_32 => 
 Hp Try.prog false (Instr.loadAt 2 t44) (fun t45 h_33 => 
 Hp Try.prog false (Instr.fieldAt 24 x3 0) (fun t46 h_34 => 
 Hp Try.prog false (Instr.loadAt 2 t46) (fun t47 h_35 => 
 Hp Try.prog false (Instr.fieldAt 24 x3 1) (fun t48 h_36 => 
 Hp Try.prog false (Instr.loadAt 2 t48) (fun t49 h_37 => 
 Hp Try.prog false (binS .add 2 (.tmp 47) (.tmp 49) t47 t49) (fun t50 h_38 => 
 Hp Try.prog false (Builtin.max_ #[2, 2] 2 #[t45, t50]) (fun t51 h_39 => 
 Hp Try.prog false (Instr.fieldAt 24 y9 0) (fun t53 h_40 => 
 Hp Try.prog false (Instr.loadAt 2 t53) (fun t54 h_41 => 
 Hp Try.prog false (Instr.fieldAt 24 y9 1) (fun t55 h_42 => 
 Hp Try.prog false (Instr.loadAt 2 t55) (fun t56 h_43 => 
 Hp Try.prog false (binS .add 2 (.tmp 54) (.tmp 56) t54 t56) (fun t57 h_44 => 
 Hp Try.prog false (binS .lss 2 (.tmp 52) (.tmp 57) t51 t57) (fun t58 h_45 => 
 CondP t58 (
 Hp Try.prog false (Instr.fieldAt 24 y9 0) (fun t61 h_46 => 
 Hp Try.prog false (Instr.loadAt 2 t61) (fun t62 h_47 => 
 Hp Try.prog false (Instr.fieldAt 24 y9 1) (fun t63 h_48 => 
 Hp Try.prog false (Instr.loadAt 2 t63) (fun t64 h_49 => 
 Hp Try.prog false (binS .add 2 (.tmp 62) (.tmp 64) t62 t64) (fun t65 h_50 => 
 Hp Try.prog false (binS .sub 2 (.tmp 65) (.tmp 66) t65 t51) (fun t67 h_51 => 
 Hp Try.prog false (Instr.build 24 #[(0, t51), (1, t67)]) (fun t68 h_52 => 
 Hp Try.prog false (Instr.buildSlice 22 1 #[(0, t68)]) (fun t69 h_53 => 
 Hp Try.prog false (Builtin.append_ #[22, 22] 22 #[out7_1, t69]) (fun t70 h_54 => 
 k_1 t70 h_54) h_53 ⟨⟩) h_52 ⟨⟩) h_51 ⟨⟩) h_50 ⟨⟩) h_49 ⟨⟩) h_48 ⟨⟩) h_47 ⟨⟩) h_46 ⟨⟩) h_45 ⟨⟩) (
 k_1 out7_1 h_45) ⟨⟩ ⟨⟩) h_44 ⟨⟩) h_43 ⟨⟩) h_42 ⟨⟩) h_41 ⟨⟩) h_40 ⟨⟩) h_39 ⟨⟩) h_38 ⟨⟩) h_37 ⟨⟩) h_36 ⟨⟩) h_35 ⟨⟩) h_34 ⟨⟩) h_33 ⟨⟩) h_32 ⟨⟩) h_31 ⟨⟩) h_15 ⟨⟩ ⟨⟩) h_14 ⟨⟩) h_13 ⟨⟩) h_12 ⟨⟩) h_11 ⟨⟩)
 (fun out7_2 h_55 =>
 k out7_2 h_55) h_10 ⟨⟩ ⟨⟩)
 (fun out7_3 h_56 =>
 Hp Try.prog false (binS .add 3 (.tmp 23) (.const (.int .i64 1)) t23 (.int .i64 1)) (fun t71 h_57 => 
 X out7_3 t71 h_57) h_56 ⟨⟩) h_9 ⟨⟩ ⟨⟩) (
 Hp Try.prog false (Builtin.len_ #[22] 3 #[out7]) (fun t73 h_58 => 
 Hp Try.prog false (binS .gtr 3 (.tmp 73) (.const (.int .i64 4096)) t73 (.int .i64 4096)) (fun t74 h_59 => 
 CondP t74 (
 R (.tuple #[(.int .i64 0), (.int .i64 6)]) h_59) (
 CallsH Try.prog 38 #[q0, out7] h_59 (fun t77 h_60 => 
 CallsH Try.prog 39 #[t20] h_60 (fun t79 h_61 => 
 CallsH Try.prog 39 #[out7] h_61 (fun t81 h_62 => 
 Hp Try.prog false (binS .sub 2 (.tmp 79) (.tmp 81) t79 t81) (fun t82 h_63 => 
 R (.tuple #[t82, (.int .i64 0)]) h_63) h_62 ⟨⟩) ⟨⟩) ⟨⟩) ⟨⟩) ⟨⟩ ⟨⟩) h_58 ⟨⟩) h_9 ⟨⟩) ⟨⟩ ⟨⟩) h_8 ⟨⟩) [(.slice none 0 0), (.int .i64 0)] h_7 ⟨⟩) h_6 ⟨⟩) ⟨⟩) ⟨⟩ ⟨⟩) h_4 ⟨⟩) ⟨⟩) h_2 ⟨⟩) ⟨⟩ ⟨⟩) ⟨⟩) h ⟨⟩

theorem n11_calls {q0 x1 : Value} {R : Value → Heap → Prop} {h : Heap} (H : n11 q0 x1 R h) : CallsH Try.prog 11 #[q0, x1] h R ⟨⟩ :=
 callsH_of_eq Try.follow (.n none .l (.n none .l (.n none .l (.n none .l (.n none (.n none .l (.n none (.n (some [8, 24]) (.n none .l (.n none .l (.n (some [8]) (.n (some [8]) (.n none .l (.n (some [8]) .l .l)) .l) .l))) .l) .l)) .l))))) Try.func11 (by kernel_rfl) (by kernel_rfl) (by kernel_rfl) H

/-- (*palimpsest/later.Later).Size -/
def n12 (q0 : Value) (R : Value → Heap → Prop) (h : Heap) : Prop :=
 CallsH Try.prog 35 #[q0] h (fun t6 h_1 => 
 Hp Try.prog false (Builtin.len_ #[22] 3 #[t6]) (fun t8 h_2 => 
 CallsH Try.prog 39 #[t6] h_2 (fun t10 h_3 => 
 R (.tuple #[t8, t10]) h_3) ⟨⟩) h_1 ⟨⟩) ⟨⟩

theorem n12_calls {q0 : Value} {R : Value → Heap → Prop} {h : Heap} (H : n12 q0 R h) : CallsH Try.prog 12 #[q0] h R ⟨⟩ :=
 callsH_of_eq Try.follow .l Try.func12 (by kernel_rfl) (by kernel_rfl) (by kernel_rfl) H

/-- (*palimpsest/later.Later).Copy -/
def n15 (q0 : Value) (R : Value → Heap → Prop) (h : Heap) : Prop :=
 CallsH Try.prog 30 #[q0] h (fun t5 h_1 => 
 CondP t5 (
 R (.pointer none) h_1) (
 CallsH Try.prog 29 #[] h_1 (fun t6 h_2 => 
 CallsH Try.prog 35 #[q0] h_2 (fun t9 h_3 => 
 CallsH Try.prog 38 #[t6, t9] h_3 (fun t10 h_4 => 
 R t6 h_4) ⟨⟩) ⟨⟩) ⟨⟩) ⟨⟩ ⟨⟩) ⟨⟩

theorem n15_calls {q0 : Value} {R : Value → Heap → Prop} {h : Heap} (H : n15 q0 R h) : CallsH Try.prog 15 #[q0] h R ⟨⟩ :=
 callsH_of_eq Try.follow .l Try.func15 (by kernel_rfl) (by kernel_rfl) (by kernel_rfl) H

/-- (*palimpsest/later.Later).Greatest -/
def n16 (q0 : Value) (R : Value → Heap → Prop) (h : Heap) : Prop :=
 Hp Try.prog false (Instr.alloc 24 true undef) (fun t2 h_1 => 
 CallsH Try.prog 30 #[q0] h_1 (fun t9 h_2 => 
 CondP t9 (
 Hp Try.prog false (Instr.build 24 #[]) (fun t10 h_3 => 
 Hp Try.prog false (storeS 24 t2 t10) (fun _ h_4 => 
 Hp Try.prog true (loadCell 24 t2) (fun r _ =>
 R (.tuple #[r, (.int .i64 1)]) h_4) h_4 ⟨⟩) h_3 ⟨⟩) h_2 ⟨⟩) (
 Hp Try.prog false (nilS q0) (fun t12 h_5 => 
 Hp Try.prog false (Instr.fieldAt 76 t12 0) (fun t13 h_6 => 
 Hp Try.prog false (Instr.fieldAt 73 t13 0) (fun t14 h_7 => 
 Hp Try.prog false (Instr.loadAt 70 t14) (fun t15 h_8 => 
 Hp Try.prog false (Builtin.len_ #[70] 3 #[t15]) (fun t16 h_9 => 
 LoopC 2 (fun (X : Value → Value → Heap → Prop) => fun best4 t17 h_10 =>
 Hp Try.prog false (binS .lss 3 (.tmp 17) (.tmp 16) t17 t16) (fun t18 h_11 => 
 CondP t18 (
 JoinN 1 (fun (k : Value → Heap → Prop) h_12 =>
 JoinN 1 (fun (k_1 : Value → Heap → Prop) h_13 =>
 Hp Try.prog false (Instr.indexAt 70 t15 t17) (fun t19 h_14 => 
 Hp Try.prog false (Instr.loadAt 69 t19) (fun t20 h_15 => 
 Hp Try.prog true (nilS t20) (fun t22 _ => 
 Hp Try.prog true (Instr.fieldAt 24 t22 1) (fun t23 _ => 
 Hp Try.prog true (Instr.loadAt 2 t23) (fun t24 _ => 
 Hp Try.prog true (binS .gtr 2 (.tmp 24) (.const (.int .i64 0)) t24 (.int .i64 0)) (fun t25 _ => 
 Join1 (fun k_2 h_16 => guardP t25 true (k_2 best4 h_16) (k_2 undef h_16) ⟨⟩ ⟨⟩) (fun t27 _ => 
 Join1 (fun k_3 h_17 => guardP t25 true (Hp Try.prog false (binS .eql 69 (.tmp 27) (.const (.pointer none)) t27 (.pointer none)) k_3 h_17 ⟨⟩) (k_3 undef h_17) ⟨⟩ ⟨⟩) (fun t28 h_18 => 
 Join1 (fun k_4 h_19 => guardP t25 true (k_4 t28 h_19) (k_4 undef h_19) ⟨⟩ ⟨⟩) (fun t29 _ => 
 Join1 (fun k_5 h_20 => guardP t29 false (k_5 t20 h_20) (k_5 undef h_20) ⟨⟩ ⟨⟩) (fun t30 _ => 
 Join1 (fun k_6 h_21 => guardP t29 false (Hp Try.prog true (nilS t30) k_6 h_21 ⟨⟩) (k_6 undef h_21) ⟨⟩ ⟨⟩) (fun t31 _ => 
 Join1 (fun k_7 h_22 => guardP t29 false (Hp Try.prog true (Instr.fieldAt 24 t31 1) k_7 h_22 ⟨⟩) (k_7 undef h_22) ⟨⟩ ⟨⟩) (fun t32 _ => 
 Join1 (fun k_8 h_23 => guardP t29 false (Hp Try.prog true (Instr.loadAt 2 t32) k_8 h_23 ⟨⟩) (k_8 undef h_23) ⟨⟩ ⟨⟩) (fun t33 _ => 
 Join1 (fun k_9 h_24 => guardP t29 false (k_9 best4 h_24) (k_9 undef h_24) ⟨⟩ ⟨⟩) (fun t34 _ => 
 Join1 (fun k_10 h_25 => guardP t29 false (Hp Try.prog true (nilS t34) k_10 h_25 ⟨⟩) (k_10 undef h_25) ⟨⟩ ⟨⟩) (fun t35 _ => 
 Join1 (fun k_11 h_26 => guardP t29 false (Hp Try.prog true (Instr.fieldAt 24 t35 1) k_11 h_26 ⟨⟩) (k_11 undef h_26) ⟨⟩ ⟨⟩) (fun t36 _ => 
 Join1 (fun k_12 h_27 => guardP t29 false (Hp Try.prog true (Instr.loadAt 2 t36) k_12 h_27 ⟨⟩) (k_12 undef h_27) ⟨⟩ ⟨⟩) (fun t37 _ => 
 Join1 (fun k_13 h_28 => guardP t29 false (Hp Try.prog true (binS .gtr 2 (.tmp 33) (.tmp 37) t33 t37) k_13 h_28 ⟨⟩) (k_13 undef h_28) ⟨⟩ ⟨⟩) (fun t38 _ => 
 Join1 (fun k_14 h_29 => guardP t25 true (Hp Try.prog true (pickS t29 (.bool true) t38) k_14 h_29 ⟨⟩) (k_14 undef h_29) ⟨⟩ ⟨⟩) (fun t39 _ => 
 Join1 (fun k_15 h_30 => guardP t25 true (k_15 t39 h_30) (k_15 undef h_30) ⟨⟩ ⟨⟩) (fun t40 _ => 
 Join1 (fun k_16 h_31 => guardP t40 false (k_16 t20 h_31) (k_16 undef h_31) ⟨⟩ ⟨⟩) (fun t41 _ => 
 Join1 (fun k_17 h_32 => guardP t40 false (Hp Try.prog true (nilS t41) k_17 h_32 ⟨⟩) (k_17 undef h_32) ⟨⟩ ⟨⟩) (fun t42 _ => 
 Join1 (fun k_18 h_33 => guardP t40 false (Hp Try.prog true (Instr.fieldAt 24 t42 1) k_18 h_33 ⟨⟩) (k_18 undef h_33) ⟨⟩ ⟨⟩) (fun t43 _ => 
 Join1 (fun k_19 h_34 => guardP t40 false (Hp Try.prog true (Instr.loadAt 2 t43) k_19 h_34 ⟨⟩) (k_19 undef h_34) ⟨⟩ ⟨⟩) (fun t44 _ => 
 Join1 (fun k_20 h_35 => guardP t40 false (k_20 best4 h_35) (k_20 undef h_35) ⟨⟩ ⟨⟩) (fun t45 _ => 
 Join1 (fun k_21 h_36 => guardP t40 false (Hp Try.prog true (nilS t45) k_21 h_36 ⟨⟩) (k_21 undef h_36) ⟨⟩ ⟨⟩) (fun t46 _ => 
 Join1 (fun k_22 h_37 => guardP t40 false (Hp Try.prog true (Instr.fieldAt 24 t46 1) k_22 h_37 ⟨⟩) (k_22 undef h_37) ⟨⟩ ⟨⟩) (fun t47 _ => 
 Join1 (fun k_23 h_38 => guardP t40 false (Hp Try.prog true (Instr.loadAt 2 t47) k_23 h_38 ⟨⟩) (k_23 undef h_38) ⟨⟩ ⟨⟩) (fun t48 _ => 
 Join1 (fun k_24 h_39 => guardP t40 false (Hp Try.prog true (binS .eql 2 (.tmp 44) (.tmp 48) t44 t48) k_24 h_39 ⟨⟩) (k_24 undef h_39) ⟨⟩ ⟨⟩) (fun t49 _ => 
 Join1 (fun k_25 h_40 => guardP t40 false (k_25 t49 h_40) (k_25 undef h_40) ⟨⟩ ⟨⟩) (fun t50 _ => 
 Join1 (fun k_26 h_41 => guardP t50 true (k_26 t20 h_41) (k_26 undef h_41) ⟨⟩ ⟨⟩) (fun t51 _ => 
 Join1 (fun k_27 h_42 => guardP t50 true (Hp Try.prog true (nilS t51) k_27 h_42 ⟨⟩) (k_27 undef h_42) ⟨⟩ ⟨⟩) (fun t52 _ => 
 Join1 (fun k_28 h_43 => guardP t50 true (Hp Try.prog true (Instr.fieldAt 24 t52 0) k_28 h_43 ⟨⟩) (k_28 undef h_43) ⟨⟩ ⟨⟩) (fun t53 _ => 
 Join1 (fun k_29 h_44 => guardP t50 true (Hp Try.prog true (Instr.loadAt 2 t53) k_29 h_44 ⟨⟩) (k_29 undef h_44) ⟨⟩ ⟨⟩) (fun t54 _ => 
 Join1 (fun k_30 h_45 => guardP t50 true (k_30 best4 h_45) (k_30 undef h_45) ⟨⟩ ⟨⟩) (fun t55 _ => 
 Join1 (fun k_31 h_46 => guardP t50 true (Hp Try.prog true (nilS t55) k_31 h_46 ⟨⟩) (k_31 undef h_46) ⟨⟩ ⟨⟩) (fun t56 _ => 
 Join1 (fun k_32 h_47 => guardP t50 true (Hp Try.prog true (Instr.fieldAt 24 t56 0) k_32 h_47 ⟨⟩) (k_32 undef h_47) ⟨⟩ ⟨⟩) (fun t57 _ => 
 Join1 (fun k_33 h_48 => guardP t50 true (Hp Try.prog true (Instr.loadAt 2 t57) k_33 h_48 ⟨⟩) (k_33 undef h_48) ⟨⟩ ⟨⟩) (fun t58 _ => 
 Join1 (fun k_34 h_49 => guardP t50 true (Hp Try.prog true (binS .lss 2 (.tmp 54) (.tmp 58) t54 t58) k_34 h_49 ⟨⟩) (k_34 undef h_49) ⟨⟩ ⟨⟩) (fun t59 _ => 
 Join1 (fun k_35 h_50 => guardP t40 false (Hp Try.prog true (pickS t50 t59 (.bool false)) k_35 h_50 ⟨⟩) (k_35 undef h_50) ⟨⟩ ⟨⟩) (fun t60 _ => 
 Join1 (fun k_36 h_51 => guardP t25 true (Hp Try.prog true (pickS t40 (.bool true) t60) k_36 h_51 ⟨⟩) (k_36 undef h_51) ⟨⟩ ⟨⟩) (fun t61 _ => 
 Hp Try.prog true (pickS t25 t61 (.bool false)) (fun t62 _ => 
 CondP t62 (
 k_1 t20 h_18) (
 k_1 best4 h_18) ⟨⟩ ⟨⟩) #[] ⟨⟩) #[] ⟨⟩ ⟨⟩) #[] ⟨⟩ ⟨⟩) #[] ⟨⟩ ⟨⟩) h_18 ⟨⟩ ⟨⟩) #[] ⟨⟩ ⟨⟩) #[] ⟨⟩ ⟨⟩) #[] ⟨⟩ ⟨⟩) h_18 ⟨⟩ ⟨⟩) #[] ⟨⟩ ⟨⟩) #[] ⟨⟩ ⟨⟩) #[] ⟨⟩ ⟨⟩) #[] ⟨⟩ ⟨⟩) #[] ⟨⟩ ⟨⟩) h_18 ⟨⟩ ⟨⟩) #[] ⟨⟩ ⟨⟩) #[] ⟨⟩ ⟨⟩) #[] ⟨⟩ ⟨⟩) h_18 ⟨⟩ ⟨⟩) #[] ⟨⟩ ⟨⟩) #[] ⟨⟩ ⟨⟩) #[] ⟨⟩ ⟨⟩) #[] ⟨⟩ ⟨⟩) #[] ⟨⟩ ⟨⟩) #[] ⟨⟩ ⟨⟩) h_18 ⟨⟩ ⟨⟩) #[] ⟨⟩ ⟨⟩) #[] ⟨⟩ ⟨⟩) #[] ⟨⟩ ⟨⟩) h_18 ⟨⟩ ⟨⟩) #[] ⟨⟩ ⟨⟩) #[] ⟨⟩ ⟨⟩) #[] ⟨⟩ ⟨⟩) #[] ⟨⟩ ⟨⟩) h_15 ⟨⟩ ⟨⟩) #[] ⟨⟩ ⟨⟩) #[] ⟨⟩) h_15 ⟨⟩) #[] ⟨⟩) #[] ⟨⟩) h_14 ⟨⟩) h_13 ⟨⟩)
 (fun best4_1 h_52 =>
 k best4_1 h_52) h_12 ⟨⟩ ⟨⟩)
 (fun best4_2 h_53 =>
 Hp Try.prog false (binS .add 3 (.tmp 17) (.const (.int .i64 1)) t17 (.int .i64 1)) (fun t64 h_54 => 
 X best4_2 t64 h_54) h_53 ⟨⟩) h_11 ⟨⟩ ⟨⟩) (
 Hp Try.prog false (binS .eql 69 (.tmp 65) (.const (.pointer none)) best4 (.pointer none)) (fun t66 h_55 => 
 CondP t66 (
 Hp Try.prog false (Instr.build 24 #[]) (fun t67 h_56 => 
 Hp Try.prog false (storeS 24 t2 t67) (fun _ h_57 => 
 Hp Try.prog true (loadCell 24 t2) (fun r_1 _ =>
 R (.tuple #[r_1, (.int .i64 7)]) h_57) h_57 ⟨⟩) h_56 ⟨⟩) h_55 ⟨⟩) (
 Hp Try.prog false (nilS best4) (fun t69 h_58 => 
 Hp Try.prog false (Instr.loadAt 24 t69) (fun t70 h_59 => 
 Hp Try.prog false (Instr.alloc 24 true undef) (fun out7 h_60 => 
 Hp Try.prog false (storeS 24 out7 t70) (fun _ h_61 => 
 CallsH Try.prog 41 #[q0, best4] h_61 (fun t73 h_62 => 
 Hp Try.prog false (Instr.loadAt 24 out7) (fun t74 h_63 => 
 Hp Try.prog false (storeS 24 t2 t74) (fun _ h_64 => 
 Hp Try.prog true (loadCell 24 t2) (fun r_2 _ =>
 R (.tuple #[r_2, (.int .i64 0)]) h_64) h_64 ⟨⟩) h_63 ⟨⟩) h_62 ⟨⟩) ⟨⟩) h_60 ⟨⟩) h_59 ⟨⟩) h_58 ⟨⟩) h_55 ⟨⟩) ⟨⟩ ⟨⟩) h_11 ⟨⟩) ⟨⟩ ⟨⟩) h_10 ⟨⟩) [(.pointer none), (.int .i64 0)] h_9 ⟨⟩) h_8 ⟨⟩) h_7 ⟨⟩) h_6 ⟨⟩) h_5 ⟨⟩) h_2 ⟨⟩) ⟨⟩ ⟨⟩) ⟨⟩) h ⟨⟩

theorem n16_calls {q0 : Value} {R : Value → Heap → Prop} {h : Heap} (H : n16 q0 R h) : CallsH Try.prog 16 #[q0] h R ⟨⟩ :=
 callsH_of_eq Try.follow (.n none .l (.n none .l (.n none .l (.n none (.n none .l (.n none (.n (some [5, 18]) (.n none .l (.n none .l (.n (some [5]) (.n (some [5]) .l .l) .l))) .l) .l)) .l)))) Try.func16 (by kernel_rfl) (by kernel_rfl) (by kernel_rfl) H

/-- (*palimpsest/later.Later).Over -/
def n17 (q0 x1 : Value) (R : Value → Heap → Prop) (h : Heap) : Prop :=
 Hp Try.prog false (Instr.box 24 x1) (fun x3 h_1 => 
 CallsH Try.prog 30 #[q0] h_1 (fun t8 h_2 => 
 CondP t8 (
 R (.tuple #[(.int .i64 0), (.int .i64 1)]) h_2) (
 Hp Try.prog false (Instr.loadAt 24 x3) (fun t10 h_3 => 
 CallsH Try.prog 33 #[t10] h_3 (fun t11 h_4 => 
 Hp Try.prog false (Op.unary .not t11) (fun t12 h_5 => 
 CondP t12 (
 R (.tuple #[(.int .i64 0), (.int .i64 2)]) h_5) (
 Hp Try.prog true (Instr.loadAt 24 x3) (fun t15 _ => 
 CallsH Try.prog 35 #[q0] h_5 (fun t14 h_6 => Hp Try.prog true (Instr.loadAt 24 x3) (fun u _ => u = t15) h_6 ⟨⟩ ∧ 
 CallsH Try.prog 42 #[t14, t15] h_6 (fun t16 h_7 => 
 R (.tuple #[t16, (.int .i64 0)]) h_7) ⟨⟩) ⟨⟩) h_5 ⟨⟩) ⟨⟩ ⟨⟩) h_4 ⟨⟩) ⟨⟩) h_2 ⟨⟩) ⟨⟩ ⟨⟩) ⟨⟩) h ⟨⟩

theorem n17_calls {q0 x1 : Value} {R : Value → Heap → Prop} {h : Heap} (H : n17 q0 x1 R h) : CallsH Try.prog 17 #[q0, x1] h R ⟨⟩ :=
 callsH_of_eq Try.follow .l Try.func17 (by kernel_rfl) (by kernel_rfl) (by kernel_rfl) H

/-- (*palimpsest/later.Later).Same -/
def n19 (q0 o1 : Value) (R : Value → Heap → Prop) (h : Heap) : Prop :=
 CallsH Try.prog 30 #[q0] h (fun t6 h_1 => 
 Join1 (fun k h_2 => guardP t6 false (k o1 h_2) (k undef h_2) ⟨⟩ ⟨⟩) (fun t8 h_3 => 
 Join1 (fun k_1 h_4 => guardP t6 false (CallsH Try.prog 30 #[t8] h_4 k_1 ⟨⟩) (k_1 undef h_4) ⟨⟩ ⟨⟩) (fun t9 h_5 => 
 Hp Try.prog false (pickS t6 (.bool true) t9) (fun t10 h_6 => 
 CondP t10 (
 CallsH Try.prog 30 #[q0] h_6 (fun t12 h_7 => 
 Join1 (fun k_2 h_8 => guardP t12 true (k_2 o1 h_8) (k_2 undef h_8) ⟨⟩ ⟨⟩) (fun t14 h_9 => 
 Join1 (fun k_3 h_10 => guardP t12 true (CallsH Try.prog 30 #[t14] h_10 k_3 ⟨⟩) (k_3 undef h_10) ⟨⟩ ⟨⟩) (fun t15 h_11 => 
 Hp Try.prog false (pickS t12 t15 (.bool false)) (fun t16 h_12 => 
 R t16 h_12) h_11 ⟨⟩) h_9 ⟨⟩ ⟨⟩) h_7 ⟨⟩ ⟨⟩) ⟨⟩) (
 CallsH Try.prog 35 #[q0] h_6 (fun t18 h_13 => 
 CallsH Try.prog 35 #[o1] h_13 (fun t20 h_14 => 
 CallsH Try.prog 43 #[t18, t20] h_14 (fun t21 h_15 => 
 R t21 h_15) ⟨⟩) ⟨⟩) ⟨⟩) ⟨⟩ ⟨⟩) h_5 ⟨⟩) h_3 ⟨⟩ ⟨⟩) h_1 ⟨⟩ ⟨⟩) ⟨⟩

theorem n19_calls {q0 o1 : Value} {R : Value → Heap → Prop} {h : Heap} (H : n19 q0 o1 R h) : CallsH Try.prog 19 #[q0, o1] h R ⟨⟩ :=
 callsH_of_eq Try.follow .l Try.func19 (by kernel_rfl) (by kernel_rfl) (by kernel_rfl) H

/-- (*palimpsest/later.Later).Drain -/
def n20 (q0 most1 : Value) (R : Value → Heap → Prop) (h : Heap) : Prop :=
 Hp Try.prog false (Instr.box 25 q0) (fun q2 h_1 => 
 Hp Try.prog false (Instr.box 2 most1) (fun most3 h_2 => 
 Hp Try.prog false (pure (.func (.func 44) #[] #[q2, most3])) (fun t5 h_3 => 
 R t5 h_3) h_2 ⟨⟩) h_1 ⟨⟩) h ⟨⟩

theorem n20_calls {q0 most1 : Value} {R : Value → Heap → Prop} {h : Heap} (H : n20 q0 most1 R h) : CallsH Try.prog 20 #[q0, most1] h R ⟨⟩ :=
 callsH_of_eq Try.follow .l Try.func20 (by kernel_rfl) (by kernel_rfl) (by kernel_rfl) H

/-- (*palimpsest/later.Later).All -/
def n22 (q0 : Value) (R : Value → Heap → Prop) (h : Heap) : Prop :=
 CallsH Try.prog 35 #[q0] h (fun t4 h_1 => 
 CallsH Try.prog 45 #[t4] h_1 (fun t5 h_2 => 
 R t5 h_2) ⟨⟩) ⟨⟩

theorem n22_calls {q0 : Value} {R : Value → Heap → Prop} {h : Heap} (H : n22 q0 R h) : CallsH Try.prog 22 #[q0] h R ⟨⟩ :=
 callsH_of_eq Try.follow .l Try.func22 (by kernel_rfl) (by kernel_rfl) (by kernel_rfl) H

/-- palimpsest/later.empty -/
def n29 (R : Value → Heap → Prop) (h : Heap) : Prop :=
 Hp Try.prog false (Instr.makeMap 74 none) (fun t2 h_1 => 
 Hp Try.prog false (Instr.makeMap 74 none) (fun t3 h_2 => 
 Hp Try.prog false (Instr.build 76 #[(1, t2), (2, t3)]) (fun t4 h_3 => 
 Hp Try.prog false (Instr.box 76 t4) (fun t5 h_4 => 
 Hp Try.prog false (nilS t5) (fun t7 h_5 => 
 Hp Try.prog false (Instr.fieldAt 76 t7 0) (fun t8 h_6 => 
 Hp Try.prog false (Instr.fieldAt 73 t8 1) (fun t9 h_7 => 
 Hp Try.prog false (storeS 71 t9 (.func (.func 52) #[] #[])) (fun _ h_8 => 
 R t5 h_8) h_7 ⟨⟩) h_6 ⟨⟩) h_5 ⟨⟩) h_4 ⟨⟩) h_3 ⟨⟩) h_2 ⟨⟩) h_1 ⟨⟩) h ⟨⟩

theorem n29_calls {R : Value → Heap → Prop} {h : Heap} (H : n29  R h) : CallsH Try.prog 29 #[] h R ⟨⟩ :=
 callsH_of_eq Try.follow .l Try.func29 (by kernel_rfl) (by kernel_rfl) (by kernel_rfl) H

/-- (*palimpsest/later.Later).none -/
def n30 (q0 : Value) (R : Value → Heap → Prop) (h : Heap) : Prop :=
 Hp Try.prog false (binS .eql 25 (.tmp 3) (.const (.pointer none)) q0 (.pointer none)) (fun t4 h_1 => 
 Join1 (fun k h_2 => guardP t4 false (k q0 h_2) (k undef h_2) ⟨⟩ ⟨⟩) (fun t6 h_3 => 
 Join1 (fun k_1 h_4 => guardP t4 false (Hp Try.prog false (nilS t6) k_1 h_4 ⟨⟩) (k_1 undef h_4) ⟨⟩ ⟨⟩) (fun t7 h_5 => 
 Join1 (fun k_2 h_6 => guardP t4 false (Hp Try.prog false (Instr.fieldAt 76 t7 1) k_2 h_6 ⟨⟩) (k_2 undef h_6) ⟨⟩ ⟨⟩) (fun t8 h_7 => 
 Join1 (fun k_3 h_8 => guardP t4 false (Hp Try.prog false (Instr.loadAt 74 t8) k_3 h_8 ⟨⟩) (k_3 undef h_8) ⟨⟩ ⟨⟩) (fun t9 h_9 => 
 Join1 (fun k_4 h_10 => guardP t4 false (Hp Try.prog false (binS .eql 74 (.tmp 9) (.const (.map none)) t9 (.map none)) k_4 h_10 ⟨⟩) (k_4 undef h_10) ⟨⟩ ⟨⟩) (fun t10 h_11 => 
 Hp Try.prog false (pickS t4 (.bool true) t10) (fun t11 h_12 => 
 R t11 h_12) h_11 ⟨⟩) h_9 ⟨⟩ ⟨⟩) h_7 ⟨⟩ ⟨⟩) h_5 ⟨⟩ ⟨⟩) h_3 ⟨⟩ ⟨⟩) h_1 ⟨⟩ ⟨⟩) h ⟨⟩

theorem n30_calls {q0 : Value} {R : Value → Heap → Prop} {h : Heap} (H : n30 q0 R h) : CallsH Try.prog 30 #[q0] h R ⟨⟩ :=
 callsH_of_eq Try.follow .l Try.func30 (by kernel_rfl) (by kernel_rfl) (by kernel_rfl) H

/-- (*palimpsest/later.Later).beside -/
def n34 (q0 x1 : Value) (R : Value → Heap → Prop) (h : Heap) : Prop :=
 Hp Try.prog false (Instr.box 24 x1) (fun x3 h_1 => 
 Hp Try.prog true (nilS q0) (fun t11 _ => 
 Hp Try.prog true (Instr.fieldAt 76 t11 2) (fun t12 _ => 
 Hp Try.prog true (Instr.loadAt 74 t12) (fun t13 _ => 
 Hp Try.prog true (Instr.fieldAt 24 x3 0) (fun t14 _ => 
 Hp Try.prog true (Instr.loadAt 2 t14) (fun t15 _ => 
 Hp Try.prog true (Instr.lookup 74 t13 t15 true) (fun t16 _ => 
 Hp Try.prog true (Instr.extract t16 0) (fun t17 _ => 
 Hp Try.prog true (Instr.extract t16 1) (fun t18 _ => 
 Hp Try.prog true (Op.unary .not t18) (fun t20 _ => 
 Join1 (fun k h_2 => guardP t20 false (k q0 h_2) (k undef h_2) ⟨⟩ ⟨⟩) (fun t22 _ => 
 Join1 (fun k_1 h_3 => guardP t20 false (Hp Try.prog true (nilS t22) k_1 h_3 ⟨⟩) (k_1 undef h_3) ⟨⟩ ⟨⟩) (fun t23 _ => 
 Join1 (fun k_2 h_4 => guardP t20 false (Hp Try.prog true (Instr.fieldAt 76 t23 1) k_2 h_4 ⟨⟩) (k_2 undef h_4) ⟨⟩ ⟨⟩) (fun t24 _ => 
 Join1 (fun k_3 h_5 => guardP t20 false (Hp Try.prog true (Instr.loadAt 74 t24) k_3 h_5 ⟨⟩) (k_3 undef h_5) ⟨⟩ ⟨⟩) (fun t25 _ => 
 Join1 (fun k_4 h_6 => guardP t20 false (Hp Try.prog true (Instr.fieldAt 24 x3 0) k_4 h_6 ⟨⟩) (k_4 undef h_6) ⟨⟩ ⟨⟩) (fun t26 _ => 
 Join1 (fun k_5 h_7 => guardP t20 false (Hp Try.prog true (Instr.loadAt 2 t26) k_5 h_7 ⟨⟩) (k_5 undef h_7) ⟨⟩ ⟨⟩) (fun t27 _ => 
 Join1 (fun k_6 h_8 => guardP t20 false (Hp Try.prog true (Instr.fieldAt 24 x3 1) k_6 h_8 ⟨⟩) (k_6 undef h_8) ⟨⟩ ⟨⟩) (fun t28 _ => 
 Join1 (fun k_7 h_9 => guardP t20 false (Hp Try.prog true (Instr.loadAt 2 t28) k_7 h_9 ⟨⟩) (k_7 undef h_9) ⟨⟩ ⟨⟩) (fun t29 _ => 
 Join1 (fun k_8 h_10 => guardP t20 false (Hp Try.prog true (binS .add 2 (.tmp 27) (.tmp 29) t27 t29) k_8 h_10 ⟨⟩) (k_8 undef h_10) ⟨⟩ ⟨⟩) (fun t30 _ => 
 Join1 (fun k_9 h_11 => guardP t20 false (Hp Try.prog true (Instr.lookup 74 t25 t30 false) k_9 h_11 ⟨⟩) (k_9 undef h_11) ⟨⟩ ⟨⟩) (fun t31 _ => 
 Join1 (fun k_10 h_12 => guardP t20 false (Hp Try.prog false (binS .neq 69 (.tmp 31) (.const (.pointer none)) t31 (.pointer none)) k_10 h_12 ⟨⟩) (k_10 undef h_12) ⟨⟩ ⟨⟩) (fun t32 h_13 => 
 Hp Try.prog true (pickS t20 (.bool true) t32) (fun t33 _ => 
 CondP t33 (
 R (.bool false) h_13) (
 Hp Try.prog false (nilS q0) (fun t35 h_14 => 
 Hp Try.prog false (Instr.fieldAt 76 t35 0) (fun t36 h_15 => 
 Hp Try.prog false (Instr.fieldAt 73 t36 0) (fun t37 h_16 => 
 Hp Try.prog false (Instr.loadAt 70 t37) (fun t38 h_17 => 
 Hp Try.prog false (Builtin.len_ #[70] 3 #[t38]) (fun t39 h_18 => 
 LoopC 1 (fun (X : Value → Heap → Prop) => fun t40 h_19 =>
 Hp Try.prog false (binS .lss 3 (.tmp 40) (.tmp 39) t40 t39) (fun t41 h_20 => 
 CondP t41 (
 Hp Try.prog false (Instr.indexAt 70 t38 t40) (fun t42 h_21 => 
 Hp Try.prog false (Instr.loadAt 69 t42) (fun t43 h_22 => 
 Hp Try.prog true (nilS t43) (fun t45 _ => 
 Hp Try.prog true (Instr.fieldAt 24 t45 1) (fun t46 _ => 
 Hp Try.prog true (Instr.loadAt 2 t46) (fun t47 _ => 
 Hp Try.prog true (binS .gtr 2 (.tmp 47) (.const (.int .i64 0)) t47 (.int .i64 0)) (fun t48 _ => 
 Join1 (fun k_11 h_23 => guardP t48 true (k_11 t43 h_23) (k_11 undef h_23) ⟨⟩ ⟨⟩) (fun t50 _ => 
 Join1 (fun k_12 h_24 => guardP t48 true (Hp Try.prog true (nilS t50) k_12 h_24 ⟨⟩) (k_12 undef h_24) ⟨⟩ ⟨⟩) (fun t51 _ => 
 Join1 (fun k_13 h_25 => guardP t48 true (Hp Try.prog true (Instr.fieldAt 24 t51 0) k_13 h_25 ⟨⟩) (k_13 undef h_25) ⟨⟩ ⟨⟩) (fun t52 _ => 
 Join1 (fun k_14 h_26 => guardP t48 true (Hp Try.prog true (Instr.loadAt 2 t52) k_14 h_26 ⟨⟩) (k_14 undef h_26) ⟨⟩ ⟨⟩) (fun t53 _ => 
 Join1 (fun k_15 h_27 => guardP t48 true (Hp Try.prog true (Instr.fieldAt 24 x3 0) k_15 h_27 ⟨⟩) (k_15 undef h_27) ⟨⟩ ⟨⟩) (fun t54 _ => 
 Join1 (fun k_16 h_28 => guardP t48 true (Hp Try.prog true (Instr.loadAt 2 t54) k_16 h_28 ⟨⟩) (k_16 undef h_28) ⟨⟩ ⟨⟩) (fun t55 _ => 
 Join1 (fun k_17 h_29 => guardP t48 true (Hp Try.prog true (Instr.fieldAt 24 x3 1) k_17 h_29 ⟨⟩) (k_17 undef h_29) ⟨⟩ ⟨⟩) (fun t56 _ => 
 Join1 (fun k_18 h_30 => guardP t48 true (Hp Try.prog true (Instr.loadAt 2 t56) k_18 h_30 ⟨⟩) (k_18 undef h_30) ⟨⟩ ⟨⟩) (fun t57 _ => 
 Join1 (fun k_19 h_31 => guardP t48 true (Hp Try.prog true (binS .add 2 (.tmp 55) (.tmp 57) t55 t57) k_19 h_31 ⟨⟩) (k_19 undef h_31) ⟨⟩ ⟨⟩) (fun t58 _ => 
 Join1 (fun k_20 h_32 => guardP t48 true (Hp Try.prog true (binS .lss 2 (.tmp 53) (.tmp 58) t53 t58) k_20 h_32 ⟨⟩) (k_20 undef h_32) ⟨⟩ ⟨⟩) (fun t59 _ => 
 Hp Try.prog true (pickS t48 t59 (.bool false)) (fun t60 _ => 
 Join1 (fun k_21 h_33 => guardP t60 true (Hp Try.prog true (Instr.fieldAt 24 x3 0) k_21 h_33 ⟨⟩) (k_21 undef h_33) ⟨⟩ ⟨⟩) (fun t62 _ => 
 Join1 (fun k_22 h_34 => guardP t60 true (Hp Try.prog true (Instr.loadAt 2 t62) k_22 h_34 ⟨⟩) (k_22 undef h_34) ⟨⟩ ⟨⟩) (fun t63 _ => 
 Join1 (fun k_23 h_35 => guardP t60 true (k_23 t43 h_35) (k_23 undef h_35) ⟨⟩ ⟨⟩) (fun t64 _ => 
 Join1 (fun k_24 h_36 => guardP t60 true (Hp Try.prog true (nilS t64) k_24 h_36 ⟨⟩) (k_24 undef h_36) ⟨⟩ ⟨⟩) (fun t65 _ => 
 Join1 (fun k_25 h_37 => guardP t60 true (Hp Try.prog true (Instr.fieldAt 24 t65 0) k_25 h_37 ⟨⟩) (k_25 undef h_37) ⟨⟩ ⟨⟩) (fun t66 _ => 
 Join1 (fun k_26 h_38 => guardP t60 true (Hp Try.prog true (Instr.loadAt 2 t66) k_26 h_38 ⟨⟩) (k_26 undef h_38) ⟨⟩ ⟨⟩) (fun t67 _ => 
 Join1 (fun k_27 h_39 => guardP t60 true (k_27 t43 h_39) (k_27 undef h_39) ⟨⟩ ⟨⟩) (fun t68 _ => 
 Join1 (fun k_28 h_40 => guardP t60 true (Hp Try.prog true (nilS t68) k_28 h_40 ⟨⟩) (k_28 undef h_40) ⟨⟩ ⟨⟩) (fun t69 _ => 
 Join1 (fun k_29 h_41 => guardP t60 true (Hp Try.prog true (Instr.fieldAt 24 t69 1) k_29 h_41 ⟨⟩) (k_29 undef h_41) ⟨⟩ ⟨⟩) (fun t70 _ => 
 Join1 (fun k_30 h_42 => guardP t60 true (Hp Try.prog true (Instr.loadAt 2 t70) k_30 h_42 ⟨⟩) (k_30 undef h_42) ⟨⟩ ⟨⟩) (fun t71 _ => 
 Join1 (fun k_31 h_43 => guardP t60 true (Hp Try.prog true (binS .add 2 (.tmp 67) (.tmp 71) t67 t71) k_31 h_43 ⟨⟩) (k_31 undef h_43) ⟨⟩ ⟨⟩) (fun t72 _ => 
 Join1 (fun k_32 h_44 => guardP t60 true (Hp Try.prog true (binS .lss 2 (.tmp 63) (.tmp 72) t63 t72) k_32 h_44 ⟨⟩) (k_32 undef h_44) ⟨⟩ ⟨⟩) (fun t73 _ => 
 Hp Try.prog true (pickS t60 t73 (.bool false)) (fun t74 _ => 
 CondP t74 (
 R (.bool false) h_22) (
 Hp Try.prog false (binS .add 3 (.tmp 40) (.const (.int .i64 1)) t40 (.int .i64 1)) (fun t75 h_45 => 
 X t75 h_45) h_22 ⟨⟩) ⟨⟩ ⟨⟩) #[] ⟨⟩) #[] ⟨⟩ ⟨⟩) #[] ⟨⟩ ⟨⟩) h_22 ⟨⟩ ⟨⟩) #[] ⟨⟩ ⟨⟩) #[] ⟨⟩ ⟨⟩) #[] ⟨⟩ ⟨⟩) h_22 ⟨⟩ ⟨⟩) #[] ⟨⟩ ⟨⟩) #[] ⟨⟩ ⟨⟩) #[] ⟨⟩ ⟨⟩) h_22 ⟨⟩ ⟨⟩) #[] ⟨⟩ ⟨⟩) #[] ⟨⟩) #[] ⟨⟩ ⟨⟩) #[] ⟨⟩ ⟨⟩) h_22 ⟨⟩ ⟨⟩) #[] ⟨⟩ ⟨⟩) h_22 ⟨⟩ ⟨⟩) #[] ⟨⟩ ⟨⟩) h_22 ⟨⟩ ⟨⟩) #[] ⟨⟩ ⟨⟩) #[] ⟨⟩ ⟨⟩) #[] ⟨⟩ ⟨⟩) #[] ⟨⟩) h_22 ⟨⟩) #[] ⟨⟩) #[] ⟨⟩) h_21 ⟨⟩) h_20 ⟨⟩) (
 Hp Try.prog true (nilS q0) (fun t77 _ => 
 Hp Try.prog true (Instr.fieldAt 76 t77 2) (fun t78 _ => 
 Hp Try.prog true (Instr.loadAt 74 t78) (fun t79 _ => 
 Hp Try.prog true (Instr.fieldAt 24 x3 0) (fun t80 _ => 
 Hp Try.prog true (Instr.loadAt 2 t80) (fun t81 _ => 
 Hp Try.prog false (Builtin.delete_ #[74, 2] 0 #[t79, t81]) (fun _ h_46 => 
 Hp Try.prog true (nilS t17) (fun t83 _ => 
 Hp Try.prog true (Instr.fieldAt 24 t83 1) (fun t84 _ => 
 Hp Try.prog true (Instr.loadAt 2 t84) (fun t85 _ => 
 Hp Try.prog true (Instr.fieldAt 24 x3 1) (fun t86 _ => 
 Hp Try.prog true (Instr.loadAt 2 t86) (fun t87 _ => 
 Hp Try.prog true (binS .add 2 (.tmp 85) (.tmp 87) t85 t87) (fun t88 _ => 
 Hp Try.prog true (nilS t17) (fun t89 _ => 
 Hp Try.prog true (Instr.fieldAt 24 t89 1) (fun t90 _ => 
 Hp Try.prog false (storeS 2 t90 t88) (fun _ h_47 => 
 Hp Try.prog true (nilS q0) (fun t92 _ => 
 Hp Try.prog true (Instr.fieldAt 76 t92 2) (fun t93 _ => 
 Hp Try.prog true (Instr.loadAt 74 t93) (fun t94 _ => 
 Hp Try.prog true (nilS t17) (fun t96 _ => 
 Hp Try.prog true (Instr.fieldAt 24 t96 0) (fun t97 _ => 
 Hp Try.prog true (Instr.loadAt 2 t97) (fun t98 _ => 
 Hp Try.prog true (nilS t17) (fun t100 _ => 
 Hp Try.prog true (Instr.fieldAt 24 t100 1) (fun t101 _ => 
 Hp Try.prog true (Instr.loadAt 2 t101) (fun t102 _ => 
 Hp Try.prog true (binS .add 2 (.tmp 98) (.tmp 102) t98 t102) (fun t103 _ => 
 Hp Try.prog false (unitS (Instr.mapUpdate 74 t94 t103 t17)) (fun _ h_48 => 
 R (.bool true) h_48) h_47 ⟨⟩) #[] ⟨⟩) h_47 ⟨⟩) #[] ⟨⟩) #[] ⟨⟩) h_47 ⟨⟩) #[] ⟨⟩) #[] ⟨⟩) h_47 ⟨⟩) #[] ⟨⟩) #[] ⟨⟩) h_46 ⟨⟩) #[] ⟨⟩) #[] ⟨⟩) #[] ⟨⟩) h_46 ⟨⟩) #[] ⟨⟩) h_46 ⟨⟩) #[] ⟨⟩) #[] ⟨⟩) h_20 ⟨⟩) h_20 ⟨⟩) #[] ⟨⟩) h_20 ⟨⟩) #[] ⟨⟩) #[] ⟨⟩) ⟨⟩ ⟨⟩) h_19 ⟨⟩) [(.int .i64 0)] h_18 ⟨⟩) h_17 ⟨⟩) h_16 ⟨⟩) h_15 ⟨⟩) h_14 ⟨⟩) h_13 ⟨⟩) ⟨⟩ ⟨⟩) #[] ⟨⟩) h_1 ⟨⟩ ⟨⟩) h_1 ⟨⟩ ⟨⟩) #[] ⟨⟩ ⟨⟩) h_1 ⟨⟩ ⟨⟩) #[] ⟨⟩ ⟨⟩) h_1 ⟨⟩ ⟨⟩) #[] ⟨⟩ ⟨⟩) h_1 ⟨⟩ ⟨⟩) #[] ⟨⟩ ⟨⟩) #[] ⟨⟩ ⟨⟩) #[] ⟨⟩ ⟨⟩) #[] ⟨⟩) #[] ⟨⟩) #[] ⟨⟩) h_1 ⟨⟩) h_1 ⟨⟩) #[] ⟨⟩) h_1 ⟨⟩) #[] ⟨⟩) #[] ⟨⟩) h ⟨⟩

theorem n34_calls {q0 x1 : Value} {R : Value → Heap → Prop} {h : Heap} (H : n34 q0 x1 R h) : CallsH Try.prog 34 #[q0, x1] h R ⟨⟩ :=
 callsH_of_eq Try.follow (.n none .l (.n none .l (.n none .l (.n none (.n none .l (.n none (.n (some [41]) .l .l) .l)) .l)))) Try.func34 (by kernel_rfl) (by kernel_rfl) (by kernel_rfl) H

/-- (*palimpsest/later.Later).list -/
def n35 (q0 : Value) (R : Value → Heap → Prop) (h : Heap) : Prop :=
 CallsH Try.prog 30 #[q0] h (fun t7 h_1 => 
 CondP t7 (
 R (.slice none 0 0) h_1) (
 Hp Try.prog false (nilS q0) (fun t9 h_2 => 
 Hp Try.prog false (Instr.fieldAt 76 t9 0) (fun t10 h_3 => 
 Hp Try.prog false (Instr.fieldAt 73 t10 0) (fun t11 h_4 => 
 Hp Try.prog false (Instr.loadAt 70 t11) (fun t12 h_5 => 
 Hp Try.prog false (Builtin.len_ #[70] 3 #[t12]) (fun t13 h_6 => 
 LoopC 2 (fun (X : Value → Value → Heap → Prop) => fun l3 t14 h_7 =>
 Hp Try.prog false (binS .lss 3 (.tmp 14) (.tmp 13) t14 t13) (fun t15 h_8 => 
 CondP t15 (
 JoinN 1 (fun (k : Value → Heap → Prop) h_9 =>
 JoinN 1 (fun (k_1 : Value → Heap → Prop) h_10 =>
 Hp Try.prog false (Instr.indexAt 70 t12 t14) (fun t16 h_11 => 
 Hp Try.prog false (Instr.loadAt 69 t16) (fun t17 h_12 => 
 Hp Try.prog false (nilS t17) (fun t19 h_13 => 
 Hp Try.prog false (Instr.fieldAt 24 t19 1) (fun t20 h_14 => 
 Hp Try.prog false (Instr.loadAt 2 t20) (fun t21 h_15 => 
 Hp Try.prog false (binS .gtr 2 (.tmp 21) (.const (.int .i64 0)) t21 (.int .i64 0)) (fun t22 h_16 => 
 CondP t22 (
 Hp Try.prog false (nilS t17) (fun t25 h_17 => 
 Hp Try.prog false (Instr.loadAt 24 t25) (fun t26 h_18 => 
 Hp Try.prog false (Instr.buildSlice 22 1 #[(0, t26)]) (fun t27 h_19 => 
 Hp Try.prog false (Builtin.append_ #[22, 22] 22 #[l3, t27]) (fun t28 h_20 => 
 k_1 t28 h_20) h_19 ⟨⟩) h_18 ⟨⟩) h_17 ⟨⟩) h_16 ⟨⟩) (
 k_1 l3 h_16) ⟨⟩ ⟨⟩) h_15 ⟨⟩) h_14 ⟨⟩) h_13 ⟨⟩) h_12 ⟨⟩) h_11 ⟨⟩) h_10 ⟨⟩)
 (fun l3_1 h_21 =>
 k l3_1 h_21) h_9 ⟨⟩ ⟨⟩)
 (fun l3_2 h_22 =>
 Hp Try.prog false (binS .add 3 (.tmp 14) (.const (.int .i64 1)) t14 (.int .i64 1)) (fun t29 h_23 => 
 X l3_2 t29 h_23) h_22 ⟨⟩) h_8 ⟨⟩ ⟨⟩) (
 CallsH Try.prog 54 #[l3, (.func (.func 55) #[] #[])] h_8 (fun t31 h_24 => 
 R l3 h_24) ⟨⟩) ⟨⟩ ⟨⟩) h_7 ⟨⟩) [(.slice none 0 0), (.int .i64 0)] h_6 ⟨⟩) h_5 ⟨⟩) h_4 ⟨⟩) h_3 ⟨⟩) h_2 ⟨⟩) h_1 ⟨⟩) ⟨⟩ ⟨⟩) ⟨⟩

theorem n35_calls {q0 : Value} {R : Value → Heap → Prop} {h : Heap} (H : n35 q0 R h) : CallsH Try.prog 35 #[q0] h R ⟨⟩ :=
 callsH_of_eq Try.follow (.n none .l (.n none .l (.n none .l (.n none (.n none .l (.n none (.n (some [4, 15]) (.n none .l (.n none .l (.n (some [4]) (.n (some [4]) .l .l) .l))) .l) .l)) .l)))) Try.func35 (by kernel_rfl) (by kernel_rfl) (by kernel_rfl) H

/-- palimpsest/later.together -/
def n36 (l0 : Value) (R : Value → Heap → Prop) (h : Heap) : Prop :=
 CallsH Try.prog 54 #[l0, (.func (.func 56) #[] #[])] h (fun t8 h_1 => 
 Hp Try.prog false (Builtin.len_ #[22] 3 #[l0]) (fun t10 h_2 => 
 LoopC 2 (fun (X : Value → Value → Heap → Prop) => fun out3 t11 h_3 =>
 Hp Try.prog false (binS .lss 3 (.tmp 11) (.tmp 10) t11 t10) (fun t12 h_4 => 
 CondP t12 (
 JoinN 1 (fun (k : Value → Heap → Prop) h_5 =>
 JoinN 1 (fun (k_1 : Value → Heap → Prop) h_6 =>
 Hp Try.prog false (Instr.indexAt 22 l0 t11) (fun t13 h_7 => 
 Hp Try.prog false (Instr.loadAt 24 t13) (fun t14 h_8 => 
 Hp Try.prog false (Instr.alloc 24 true undef) (fun x5 h_9 => 
 Hp Try.prog false (storeS 24 x5 t14) (fun _ h_10 => 
 Hp Try.prog false (Builtin.len_ #[22] 3 #[out3]) (fun t16 h_11 => 
 Hp Try.prog false (binS .sub 3 (.tmp 16) (.const (.int .i64 1)) t16 (.int .i64 1)) (fun t17 h_12 => 
 Hp Try.prog true (binS .geq 3 (.tmp 18) (.const (.int .i64 0)) t17 (.int .i64 0)) (fun t19 _ => 
 Join1 (fun k_2 h_13 => guardP t19 true (Hp Try.prog true (Instr.fieldAt 24 x5 0) k_2 h_13 ⟨⟩) (k_2 undef h_13) ⟨⟩ ⟨⟩) (fun t21 _ => 
 Join1 (fun k_3 h_14 => guardP t19 true (Hp Try.prog true (Instr.loadAt 2 t21) k_3 h_14 ⟨⟩) (k_3 undef h_14) ⟨⟩ ⟨⟩) (fun t22 _ => 
 Join1 (fun k_4 h_15 => guardP t19 true (k_4 out3 h_15) (k_4 undef h_15) ⟨⟩ ⟨⟩) (fun t23 _ => 
 Join1 (fun k_5 h_16 => guardP t19 true (k_5 t17 h_16) (k_5 undef h_16) ⟨⟩ ⟨⟩) (fun t24 _ => 
 Join1 (fun k_6 h_17 => guardP t19 true (Hp Try.prog true (Instr.indexAt 22 t23 t24) k_6 h_17 ⟨⟩) (k_6 undef h_17) ⟨⟩ ⟨⟩) (fun t25 _ => 
 Join1 (fun k_7 h_18 => guardP t19 true (Hp Try.prog true (Instr.fieldAt 24 t25 0) k_7 h_18 ⟨⟩) (k_7 undef h_18) ⟨⟩ ⟨⟩) (fun t26 _ => 
 Join1 (fun k_8 h_19 => guardP t19 true (Hp Try.prog true (Instr.loadAt 2 t26) k_8 h_19 ⟨⟩) (k_8 undef h_19) ⟨⟩ ⟨⟩) (fun t27 _ => 
 Join1 (fun k_9 h_20 => guardP t19 true (k_9 out3 h_20) (k_9 undef h_20) ⟨⟩ ⟨⟩) (fun t28 _ => 
 Join1 (fun k_10 h_21 => guardP t19 true (k_10 t17 h_21) (k_10 undef h_21) ⟨⟩ ⟨⟩) (fun t29 _ => 
 Join1 (fun k_11 h_22 => guardP t19 true (Hp Try.prog true (Instr.indexAt 22 t28 t29) k_11 h_22 ⟨⟩) (k_11 undef h_22) ⟨⟩ ⟨⟩) (fun t30 _ => 
 Join1 (fun k_12 h_23 => guardP t19 true (Hp Try.prog true (Instr.fieldAt 24 t30 1) k_12 h_23 ⟨⟩) (k_12 undef h_23) ⟨⟩ ⟨⟩) (fun t31 _ => 
 Join1 (fun k_13 h_24 => guardP t19 true (Hp Try.prog true (Instr.loadAt 2 t31) k_13 h_24 ⟨⟩) (k_13 undef h_24) ⟨⟩ ⟨⟩) (fun t32 _ => 
 Join1 (fun k_14 h_25 => guardP t19 true (Hp Try.prog true (binS .add 2 (.tmp 27) (.tmp 32) t27 t32) k_14 h_25 ⟨⟩) (k_14 undef h_25) ⟨⟩ ⟨⟩) (fun t33 _ => 
 Join1 (fun k_15 h_26 => guardP t19 true (Hp Try.prog true (binS .leq 2 (.tmp 22) (.tmp 33) t22 t33) k_15 h_26 ⟨⟩) (k_15 undef h_26) ⟨⟩ ⟨⟩) (fun t34 _ => 
 Hp Try.prog true (pickS t19 t34 (.bool false)) (fun t35 _ => 
 CondP t35 (
 Hp Try.prog true (Instr.indexAt 22 out3 t17) (fun t40 _ => 
 Hp Try.prog true (Instr.fieldAt 24 t40 1) (fun t41 _ => 
 Hp Try.prog true (Instr.loadAt 2 t41) (fun t42 _ => 
 Hp Try.prog true (Instr.fieldAt 24 x5 0) (fun t43 _ => 
 Hp Try.prog true (Instr.loadAt 2 t43) (fun t44 _ => 
 Hp Try.prog true (Instr.fieldAt 24 x5 1) (fun t45 _ => 
 Hp Try.prog true (Instr.loadAt 2 t45) (fun t46 _ => 
 Hp Try.prog true (binS .add 2 (.tmp 44) (.tmp 46) t44 t46) (fun t47 _ => 
 Hp Try.prog true (Instr.indexAt 22 out3 t17) (fun t50 _ => 
 Hp Try.prog true (Instr.fieldAt 24 t50 0) (fun t51 _ => 
 Hp Try.prog true (Instr.loadAt 2 t51) (fun t52 _ => 
 Hp Try.prog true (binS .sub 2 (.tmp 47) (.tmp 52) t47 t52) (fun t53 _ => 
 Hp Try.prog true (Builtin.max_ #[2, 2] 2 #[t42, t53]) (fun t54 _ => 
 Hp Try.prog true (Instr.indexAt 22 out3 t17) (fun t55 _ => 
 Hp Try.prog true (Instr.fieldAt 24 t55 1) (fun t56 _ => 
 Hp Try.prog false (storeS 2 t56 t54) (fun _ h_27 => 
 k_1 out3 h_27) h_12 ⟨⟩) #[] ⟨⟩) #[] ⟨⟩) #[] ⟨⟩) #[] ⟨⟩) h_12 ⟨⟩) #[] ⟨⟩) #[] ⟨⟩) #[] ⟨⟩) h_12 ⟨⟩) #[] ⟨⟩) h_12 ⟨⟩) #[] ⟨⟩) h_12 ⟨⟩) #[] ⟨⟩) #[] ⟨⟩) (
 Hp Try.prog false (Instr.loadAt 24 x5) (fun t58 h_28 => 
 Hp Try.prog false (Instr.buildSlice 22 1 #[(0, t58)]) (fun t59 h_29 => 
 Hp Try.prog false (Builtin.append_ #[22, 22] 22 #[out3, t59]) (fun t60 h_30 => 
 k_1 t60 h_30) h_29 ⟨⟩) h_28 ⟨⟩) h_12 ⟨⟩) ⟨⟩ ⟨⟩) #[] ⟨⟩) #[] ⟨⟩ ⟨⟩) #[] ⟨⟩ ⟨⟩) h_12 ⟨⟩ ⟨⟩) #[] ⟨⟩ ⟨⟩) #[] ⟨⟩ ⟨⟩) #[] ⟨⟩ ⟨⟩) #[] ⟨⟩ ⟨⟩) h_12 ⟨⟩ ⟨⟩) #[] ⟨⟩ ⟨⟩) #[] ⟨⟩ ⟨⟩) #[] ⟨⟩ ⟨⟩) #[] ⟨⟩ ⟨⟩) h_12 ⟨⟩ ⟨⟩) #[] ⟨⟩ ⟨⟩) #[] ⟨⟩) h_11 ⟨⟩) h_10 ⟨⟩) h_9 ⟨⟩) h_8 ⟨⟩) h_7 ⟨⟩) h_6 ⟨⟩)
 (fun out3_1 h_31 =>
 k out3_1 h_31) h_5 ⟨⟩ ⟨⟩)
 (fun out3_2 h_32 =>
 Hp Try.prog false (binS .add 3 (.tmp 11) (.const (.int .i64 1)) t11 (.int .i64 1)) (fun t61 h_33 => 
 X out3_2 t61 h_33) h_32 ⟨⟩) h_4 ⟨⟩ ⟨⟩) (
 R out3 h_4) ⟨⟩ ⟨⟩) h_3 ⟨⟩) [(.slice none 0 0), (.int .i64 0)] h_2 ⟨⟩) h_1 ⟨⟩) ⟨⟩

theorem n36_calls {l0 : Value} {R : Value → Heap → Prop} {h : Heap} (H : n36 l0 R h) : CallsH Try.prog 36 #[l0] h R ⟨⟩ :=
 callsH_of_eq Try.follow (.n none .l (.n none .l (.n none .l (.n none (.n none .l (.n none (.n (some [4, 12]) (.n none .l (.n none .l (.n (some [4]) (.n (some [4]) .l .l) .l))) .l) .l)) .l)))) Try.func36 (by kernel_rfl) (by kernel_rfl) (by kernel_rfl) H

/-- (*palimpsest/later.Later).set -/
def n38 (q0 l1 : Value) (R : Value → Heap → Prop) (h : Heap) : Prop :=
 CallsH Try.prog 29 #[] h (fun t7 h_1 => 
 Hp Try.prog false (nilS t7) (fun t8 h_2 => 
 Hp Try.prog false (Instr.loadAt 76 t8) (fun t9 h_3 => 
 Hp Try.prog false (nilS q0) (fun t10 h_4 => 
 Hp Try.prog false (storeS 76 t10 t9) (fun _ h_5 => 
 Hp Try.prog false (Builtin.len_ #[22] 3 #[l1]) (fun t12 h_6 => 
 LoopC 1 (fun (X : Value → Heap → Prop) => fun t13 h_7 =>
 Hp Try.prog false (binS .lss 3 (.tmp 13) (.tmp 12) t13 t12) (fun t14 h_8 => 
 CondP t14 (
 Hp Try.prog false (Instr.indexAt 22 l1 t13) (fun t15 h_9 => 
 Hp Try.prog false (Instr.loadAt 24 t15) (fun t16 h_10 => 
 Hp Try.prog false (Instr.alloc 24 true undef) (fun x5 h_11 => 
 Hp Try.prog false (storeS 24 x5 t16) (fun _ h_12 => 
 Hp Try.prog false (Instr.loadAt 24 x5) (fun t18 h_13 => 
 CallsH Try.prog 58 #[q0, t18] h_13 (fun t19 h_14 => 
 Hp Try.prog false (binS .add 3 (.tmp 13) (.const (.int .i64 1)) t13 (.int .i64 1)) (fun t20 h_15 => 
 X t20 h_15) h_14 ⟨⟩) ⟨⟩) h_12 ⟨⟩) h_11 ⟨⟩) h_10 ⟨⟩) h_9 ⟨⟩) h_8 ⟨⟩) (
 R (.tuple #[]) h_8) ⟨⟩ ⟨⟩) h_7 ⟨⟩) [(.int .i64 0)] h_6 ⟨⟩) h_5 ⟨⟩) h_4 ⟨⟩) h_3 ⟨⟩) h_2 ⟨⟩) h_1 ⟨⟩) ⟨⟩

theorem n38_calls {q0 l1 : Value} {R : Value → Heap → Prop} {h : Heap} (H : n38 q0 l1 R h) : CallsH Try.prog 38 #[q0, l1] h R ⟨⟩ :=
 callsH_of_eq Try.follow (.n none .l (.n none .l (.n none (.n (some [14]) .l .l) .l))) Try.func38 (by kernel_rfl) (by kernel_rfl) (by kernel_rfl) H

/-- palimpsest/later.bytes -/
def n39 (l0 : Value) (R : Value → Heap → Prop) (h : Heap) : Prop :=
 Hp Try.prog false (Builtin.len_ #[22] 3 #[l0]) (fun t7 h_1 => 
 LoopC 2 (fun (X : Value → Value → Heap → Prop) => fun n3 t8 h_2 =>
 Hp Try.prog false (binS .lss 3 (.tmp 8) (.tmp 7) t8 t7) (fun t9 h_3 => 
 CondP t9 (
 Hp Try.prog false (Instr.indexAt 22 l0 t8) (fun t10 h_4 => 
 Hp Try.prog false (Instr.loadAt 24 t10) (fun t11 h_5 => 
 Hp Try.prog false (Instr.alloc 24 true undef) (fun x5 h_6 => 
 Hp Try.prog false (storeS 24 x5 t11) (fun _ h_7 => 
 Hp Try.prog false (Instr.fieldAt 24 x5 1) (fun t13 h_8 => 
 Hp Try.prog false (Instr.loadAt 2 t13) (fun t14 h_9 => 
 Hp Try.prog false (binS .add 2 (.tmp 12) (.tmp 14) n3 t14) (fun t15 h_10 => 
 Hp Try.prog false (binS .add 3 (.tmp 8) (.const (.int .i64 1)) t8 (.int .i64 1)) (fun t16 h_11 => 
 X t15 t16 h_11) h_10 ⟨⟩) h_9 ⟨⟩) h_8 ⟨⟩) h_7 ⟨⟩) h_6 ⟨⟩) h_5 ⟨⟩) h_4 ⟨⟩) h_3 ⟨⟩) (
 R n3 h_3) ⟨⟩ ⟨⟩) h_2 ⟨⟩) [(.int .i64 0), (.int .i64 0)] h_1 ⟨⟩) h ⟨⟩

theorem n39_calls {l0 : Value} {R : Value → Heap → Prop} {h : Heap} (H : n39 l0 R h) : CallsH Try.prog 39 #[l0] h R ⟨⟩ :=
 callsH_of_eq Try.follow (.n none .l (.n none .l (.n none (.n none .l (.n none (.n (some [4, 9]) .l .l) .l)) .l))) Try.func39 (by kernel_rfl) (by kernel_rfl) (by kernel_rfl) H

/-- (*palimpsest/later.Later).Next -/
def n40 (q0 most1 : Value) (R : Value → Heap → Prop) (h : Heap) : Prop :=
 Hp Try.prog false (Instr.alloc 24 true undef) (fun t4 h_1 => 
 CallsH Try.prog 30 #[q0] h_1 (fun t10 h_2 => 
 CondP t10 (
 Hp Try.prog false (Instr.build 24 #[]) (fun t11 h_3 => 
 Hp Try.prog false (storeS 24 t4 t11) (fun _ h_4 => 
 Hp Try.prog true (loadCell 24 t4) (fun r _ =>
 R (.tuple #[r, (.int .i64 1)]) h_4) h_4 ⟨⟩) h_3 ⟨⟩) h_2 ⟨⟩) (
 Hp Try.prog false (binS .lss 2 (.tmp 13) (.const (.int .i64 1)) most1 (.int .i64 1)) (fun t14 h_5 => 
 CondP t14 (
 Hp Try.prog false (Instr.build 24 #[]) (fun t15 h_6 => 
 Hp Try.prog false (storeS 24 t4 t15) (fun _ h_7 => 
 Hp Try.prog true (loadCell 24 t4) (fun r_1 _ =>
 R (.tuple #[r_1, (.int .i64 2)]) h_7) h_7 ⟨⟩) h_6 ⟨⟩) h_5 ⟨⟩) (
 LoopC 0 (fun (X : Heap → Prop) => fun h_8 =>
 Hp Try.prog false (nilS q0) (fun t17 h_9 => 
 Hp Try.prog false (Instr.fieldAt 76 t17 0) (fun t18 h_10 => 
 CallsH Try.prog 59 #[t18] h_10 (fun t19 h_11 => 
 Hp Try.prog false (binS .gtr 3 (.tmp 19) (.const (.int .i64 0)) t19 (.int .i64 0)) (fun t20 h_12 => 
 CondP t20 (
 Hp Try.prog false (nilS q0) (fun t22 h_13 => 
 Hp Try.prog false (Instr.fieldAt 76 t22 0) (fun t23 h_14 => 
 Hp Try.prog false (Instr.fieldAt 73 t23 0) (fun t24 h_15 => 
 Hp Try.prog false (Instr.loadAt 70 t24) (fun t25 h_16 => 
 Hp Try.prog false (Instr.indexAt 70 t25 (.int .i64 0)) (fun t26 h_17 => 
 Hp Try.prog false (Instr.loadAt 69 t26) (fun t27 h_18 => 
 Hp Try.prog false (nilS t27) (fun t29 h_19 => 
 Hp Try.prog false (Instr.fieldAt 24 t29 1) (fun t30 h_20 => 
 Hp Try.prog false (Instr.loadAt 2 t30) (fun t31 h_21 => 
 Hp Try.prog false (binS .eql 2 (.tmp 31) (.const (.int .i64 0)) t31 (.int .i64 0)) (fun t32 h_22 => 
 CondP t32 (
 Hp Try.prog false (nilS q0) (fun t34 h_23 => 
 Hp Try.prog false (Instr.fieldAt 76 t34 0) (fun t35 h_24 => 
 Hp Try.prog false (Instr.makeInterface 95 t35) (fun t36 h_25 => 
 CallsH Try.prog 60 #[t36] h_25 (fun t37 h_26 => 
 X h_26) ⟨⟩) h_24 ⟨⟩) h_23 ⟨⟩) h_22 ⟨⟩) (
 Hp Try.prog true (nilS t27) (fun t39 _ => 
 Hp Try.prog true (Instr.fieldAt 24 t39 0) (fun t40 _ => 
 Hp Try.prog true (Instr.loadAt 2 t40) (fun t41 _ => 
 Hp Try.prog true (nilS t27) (fun t43 _ => 
 Hp Try.prog true (Instr.fieldAt 24 t43 1) (fun t44 _ => 
 Hp Try.prog true (Instr.loadAt 2 t44) (fun t45 _ => 
 Hp Try.prog true (Builtin.min_ #[2, 2] 2 #[t45, most1]) (fun t47 _ => 
 Hp Try.prog true (Instr.build 24 #[(0, t41), (1, t47)]) (fun t48 _ => 
 Hp Try.prog false (Instr.alloc 24 true undef) (fun out7 h_27 => Hp Try.prog true (Instr.loadAt 2 t44) (fun u _ => u = t45) h_27 ⟨⟩ ∧ Hp Try.prog true (Instr.loadAt 2 t40) (fun u _ => u = t41) h_27 ⟨⟩ ∧ 
 Hp Try.prog false (storeS 24 out7 t48) (fun _ h_28 => 
 Hp Try.prog true (nilS q0) (fun t50 _ => 
 Hp Try.prog true (Instr.fieldAt 76 t50 1) (fun t51 _ => 
 Hp Try.prog true (Instr.loadAt 74 t51) (fun t52 _ => 
 Hp Try.prog true (nilS t27) (fun t54 _ => 
 Hp Try.prog true (Instr.fieldAt 24 t54 0) (fun t55 _ => 
 Hp Try.prog true (Instr.loadAt 2 t55) (fun t56 _ => 
 Hp Try.prog false (Builtin.delete_ #[74, 2] 0 #[t52, t56]) (fun _ h_29 => 
 Hp Try.prog true (Instr.fieldAt 24 out7 1) (fun t57 _ => 
 Hp Try.prog true (Instr.loadAt 2 t57) (fun t58 _ => 
 Hp Try.prog true (nilS t27) (fun t60 _ => 
 Hp Try.prog true (Instr.fieldAt 24 t60 1) (fun t61 _ => 
 Hp Try.prog true (Instr.loadAt 2 t61) (fun t62 _ => 
 Hp Try.prog true (binS .eql 2 (.tmp 58) (.tmp 62) t58 t62) (fun t63 _ => 
 CondP t63 (
 Hp Try.prog true (nilS q0) (fun t65 _ => 
 Hp Try.prog true (Instr.fieldAt 76 t65 2) (fun t66 _ => 
 Hp Try.prog true (Instr.loadAt 74 t66) (fun t67 _ => 
 Hp Try.prog true (nilS t27) (fun t69 _ => 
 Hp Try.prog true (Instr.fieldAt 24 t69 0) (fun t70 _ => 
 Hp Try.prog true (Instr.loadAt 2 t70) (fun t71 _ => 
 Hp Try.prog true (nilS t27) (fun t73 _ => 
 Hp Try.prog true (Instr.fieldAt 24 t73 1) (fun t74 _ => 
 Hp Try.prog true (Instr.loadAt 2 t74) (fun t75 _ => 
 Hp Try.prog true (binS .add 2 (.tmp 71) (.tmp 75) t71 t75) (fun t76 _ => 
 Hp Try.prog false (Builtin.delete_ #[74, 2] 0 #[t67, t76]) (fun _ h_30 => 
 Hp Try.prog false (nilS q0) (fun t78 h_31 => 
 Hp Try.prog false (Instr.fieldAt 76 t78 0) (fun t79 h_32 => 
 Hp Try.prog false (Instr.makeInterface 95 t79) (fun t80 h_33 => 
 CallsH Try.prog 60 #[t80] h_33 (fun t81 h_34 => 
 Hp Try.prog false (Instr.loadAt 24 out7) (fun t82 h_35 => 
 Hp Try.prog false (storeS 24 t4 t82) (fun _ h_36 => 
 Hp Try.prog true (loadCell 24 t4) (fun r_2 _ =>
 R (.tuple #[r_2, (.int .i64 0)]) h_36) h_36 ⟨⟩) h_35 ⟨⟩) h_34 ⟨⟩) ⟨⟩) h_32 ⟨⟩) h_31 ⟨⟩) h_30 ⟨⟩) h_29 ⟨⟩) #[] ⟨⟩) h_29 ⟨⟩) #[] ⟨⟩) #[] ⟨⟩) h_29 ⟨⟩) #[] ⟨⟩) #[] ⟨⟩) h_29 ⟨⟩) #[] ⟨⟩) #[] ⟨⟩) (
 Hp Try.prog true (nilS t27) (fun t84 _ => 
 Hp Try.prog true (Instr.fieldAt 24 t84 0) (fun t85 _ => 
 Hp Try.prog true (Instr.loadAt 2 t85) (fun t86 _ => 
 Hp Try.prog true (Instr.fieldAt 24 out7 1) (fun t87 _ => 
 Hp Try.prog true (Instr.loadAt 2 t87) (fun t88 _ => 
 Hp Try.prog true (binS .add 2 (.tmp 86) (.tmp 88) t86 t88) (fun t89 _ => 
 Hp Try.prog true (nilS t27) (fun t90 _ => 
 Hp Try.prog true (Instr.fieldAt 24 t90 0) (fun t91 _ => 
 Hp Try.prog false (storeS 2 t91 t89) (fun _ h_37 => 
 Hp Try.prog true (nilS t27) (fun t93 _ => 
 Hp Try.prog true (Instr.fieldAt 24 t93 1) (fun t94 _ => 
 Hp Try.prog true (Instr.loadAt 2 t94) (fun t95 _ => 
 Hp Try.prog true (Instr.fieldAt 24 out7 1) (fun t96 _ => 
 Hp Try.prog true (Instr.loadAt 2 t96) (fun t97 _ => 
 Hp Try.prog true (binS .sub 2 (.tmp 95) (.tmp 97) t95 t97) (fun t98 _ => 
 Hp Try.prog true (nilS t27) (fun t99 _ => 
 Hp Try.prog true (Instr.fieldAt 24 t99 1) (fun t100 _ => 
 Hp Try.prog false (storeS 2 t100 t98) (fun _ h_38 => 
 Hp Try.prog true (nilS q0) (fun t102 _ => 
 Hp Try.prog true (Instr.fieldAt 76 t102 1) (fun t103 _ => 
 Hp Try.prog true (Instr.loadAt 74 t103) (fun t104 _ => 
 Hp Try.prog true (nilS t27) (fun t106 _ => 
 Hp Try.prog true (Instr.fieldAt 24 t106 0) (fun t107 _ => 
 Hp Try.prog true (Instr.loadAt 2 t107) (fun t108 _ => 
 Hp Try.prog false (unitS (Instr.mapUpdate 74 t104 t108 t27)) (fun _ h_39 => 
 Hp Try.prog false (nilS q0) (fun t111 h_40 => 
 Hp Try.prog false (Instr.fieldAt 76 t111 0) (fun t112 h_41 => 
 Hp Try.prog false (Instr.makeInterface 95 t112) (fun t113 h_42 => 
 CallsH Try.prog 61 #[t113, (.int .i64 0)] h_42 (fun t114 h_43 => 
 Hp Try.prog false (Instr.loadAt 24 out7) (fun t115 h_44 => 
 Hp Try.prog false (storeS 24 t4 t115) (fun _ h_45 => 
 Hp Try.prog true (loadCell 24 t4) (fun r_3 _ =>
 R (.tuple #[r_3, (.int .i64 0)]) h_45) h_45 ⟨⟩) h_44 ⟨⟩) h_43 ⟨⟩) ⟨⟩) h_41 ⟨⟩) h_40 ⟨⟩) h_39 ⟨⟩) h_38 ⟨⟩) h_38 ⟨⟩) #[] ⟨⟩) #[] ⟨⟩) h_38 ⟨⟩) #[] ⟨⟩) #[] ⟨⟩) h_37 ⟨⟩) #[] ⟨⟩) #[] ⟨⟩) #[] ⟨⟩) h_37 ⟨⟩) #[] ⟨⟩) h_37 ⟨⟩) #[] ⟨⟩) #[] ⟨⟩) h_29 ⟨⟩) #[] ⟨⟩) #[] ⟨⟩) #[] ⟨⟩) h_29 ⟨⟩) #[] ⟨⟩) h_29 ⟨⟩) #[] ⟨⟩) #[] ⟨⟩) ⟨⟩ ⟨⟩) #[] ⟨⟩) h_29 ⟨⟩) #[] ⟨⟩) #[] ⟨⟩) h_29 ⟨⟩) #[] ⟨⟩) h_28 ⟨⟩) h_28 ⟨⟩) #[] ⟨⟩) #[] ⟨⟩) h_28 ⟨⟩) #[] ⟨⟩) #[] ⟨⟩) h_27 ⟨⟩) h_22 ⟨⟩) #[] ⟨⟩) #[] ⟨⟩) h_22 ⟨⟩) #[] ⟨⟩) #[] ⟨⟩) h_22 ⟨⟩) #[] ⟨⟩) #[] ⟨⟩) ⟨⟩ ⟨⟩) h_21 ⟨⟩) h_20 ⟨⟩) h_19 ⟨⟩) h_18 ⟨⟩) h_17 ⟨⟩) h_16 ⟨⟩) h_15 ⟨⟩) h_14 ⟨⟩) h_13 ⟨⟩) h_12 ⟨⟩) (
 Hp Try.prog false (Instr.build 24 #[]) (fun t116 h_46 => 
 Hp Try.prog false (storeS 24 t4 t116) (fun _ h_47 => 
 Hp Try.prog true (loadCell 24 t4) (fun r_4 _ =>
 R (.tuple #[r_4, (.int .i64 7)]) h_47) h_47 ⟨⟩) h_46 ⟨⟩) h_12 ⟨⟩) ⟨⟩ ⟨⟩) h_11 ⟨⟩) ⟨⟩) h_9 ⟨⟩) h_8 ⟨⟩) [] h_5 ⟨⟩) ⟨⟩ ⟨⟩) h_2 ⟨⟩) ⟨⟩ ⟨⟩) ⟨⟩) h ⟨⟩

theorem n40_calls {q0 most1 : Value} {R : Value → Heap → Prop} {h : Heap} (H : n40 q0 most1 R h) : CallsH Try.prog 40 #[q0, most1] h R ⟨⟩ :=
 callsH_of_eq Try.follow (.n none .l (.n none .l (.n none (.n none (.n (some []) .l .l) .l) .l))) Try.func40 (by kernel_rfl) (by kernel_rfl) (by kernel_rfl) H

/-- (*palimpsest/later.Later).drop -/
def n41 (q0 x1 : Value) (R : Value → Heap → Prop) (h : Heap) : Prop :=
 Hp Try.prog true (nilS q0) (fun t5 _ => 
 Hp Try.prog true (Instr.fieldAt 76 t5 1) (fun t6 _ => 
 Hp Try.prog true (Instr.loadAt 74 t6) (fun t7 _ => 
 Hp Try.prog true (nilS x1) (fun t9 _ => 
 Hp Try.prog true (Instr.fieldAt 24 t9 0) (fun t10 _ => 
 Hp Try.prog true (Instr.loadAt 2 t10) (fun t11 _ => 
 Hp Try.prog false (Builtin.delete_ #[74, 2] 0 #[t7, t11]) (fun _ h_1 => 
 Hp Try.prog true (nilS q0) (fun t13 _ => 
 Hp Try.prog true (Instr.fieldAt 76 t13 2) (fun t14 _ => 
 Hp Try.prog true (Instr.loadAt 74 t14) (fun t15 _ => 
 Hp Try.prog true (nilS x1) (fun t17 _ => 
 Hp Try.prog true (Instr.fieldAt 24 t17 0) (fun t18 _ => 
 Hp Try.prog true (Instr.loadAt 2 t18) (fun t19 _ => 
 Hp Try.prog true (nilS x1) (fun t21 _ => 
 Hp Try.prog true (Instr.fieldAt 24 t21 1) (fun t22 _ => 
 Hp Try.prog true (Instr.loadAt 2 t22) (fun t23 _ => 
 Hp Try.prog true (binS .add 2 (.tmp 19) (.tmp 23) t19 t23) (fun t24 _ => 
 Hp Try.prog false (Builtin.delete_ #[74, 2] 0 #[t15, t24]) (fun _ h_2 => 
 Hp Try.prog false (nilS x1) (fun t26 h_3 => 
 Hp Try.prog false (Instr.fieldAt 24 t26 1) (fun t27 h_4 => 
 Hp Try.prog false (storeS 2 t27 (.int .i64 0)) (fun _ h_5 => 
 R (.tuple #[]) h_5) h_4 ⟨⟩) h_3 ⟨⟩) h_2 ⟨⟩) h_1 ⟨⟩) #[] ⟨⟩) h_1 ⟨⟩) #[] ⟨⟩) #[] ⟨⟩) h_1 ⟨⟩) #[] ⟨⟩) #[] ⟨⟩) h_1 ⟨⟩) #[] ⟨⟩) #[] ⟨⟩) h ⟨⟩) h ⟨⟩) #[] ⟨⟩) #[] ⟨⟩) h ⟨⟩) #[] ⟨⟩) #[] ⟨⟩

theorem n41_calls {q0 x1 : Value} {R : Value → Heap → Prop} {h : Heap} (H : n41 q0 x1 R h) : CallsH Try.prog 41 #[q0, x1] h R ⟨⟩ :=
 callsH_of_eq Try.follow .l Try.func41 (by kernel_rfl) (by kernel_rfl) (by kernel_rfl) H

/-- palimpsest/later.over -/
def n42 (l0 x1 : Value) (R : Value → Heap → Prop) (h : Heap) : Prop :=
 Hp Try.prog false (Instr.box 24 x1) (fun x3 h_1 => 
 Hp Try.prog false (Builtin.len_ #[22] 3 #[l0]) (fun t9 h_2 => 
 LoopC 2 (fun (X : Value → Value → Heap → Prop) => fun n5 t10 h_3 =>
 Hp Try.prog false (binS .lss 3 (.tmp 10) (.tmp 9) t10 t9) (fun t11 h_4 => 
 CondP t11 (
 Hp Try.prog false (Instr.indexAt 22 l0 t10) (fun t12 h_5 => 
 Hp Try.prog false (Instr.loadAt 24 t12) (fun t13 h_6 => 
 Hp Try.prog false (Instr.alloc 24 true undef) (fun y7 h_7 => 
 Hp Try.prog false (storeS 24 y7 t13) (fun _ h_8 => 
 Hp Try.prog false (Instr.fieldAt 24 x3 0) (fun t15 h_9 => 
 Hp Try.prog false (Instr.loadAt 2 t15) (fun t16 h_10 => 
 Hp Try.prog false (Instr.fieldAt 24 x3 1) (fun t17 h_11 => 
 Hp Try.prog false (Instr.loadAt 2 t17) (fun t18 h_12 => 
 Hp Try.prog false (binS .add 2 (.tmp 16) (.tmp 18) t16 t18) (fun t19 h_13 => 
 Hp Try.prog false (Instr.fieldAt 24 y7 0) (fun t20 h_14 => 
 Hp Try.prog false (Instr.loadAt 2 t20) (fun t21 h_15 => 
 Hp Try.prog false (Instr.fieldAt 24 y7 1) (fun t22 h_16 => 
 Hp Try.prog false (Instr.loadAt 2 t22) (fun t23 h_17 => 
 Hp Try.prog false (binS .add 2 (.tmp 21) (.tmp 23) t21 t23) (fun t24 h_18 => 
 Hp Try.prog false (Builtin.min_ #[2, 2] 2 #[t19, t24]) (fun t25 h_19 => 
 Hp Try.prog false (Instr.fieldAt 24 x3 0) (fun t26 h_20 => 
 Hp Try.prog false (Instr.loadAt 2 t26) (fun t27 h_21 => 
 Hp Try.prog false (Instr.fieldAt 24 y7 0) (fun t28 h_22 => 
 Hp Try.prog false (Instr.loadAt 2 t28) (fun t29 h_23 => 
 Hp Try.prog false (Builtin.max_ #[2, 2] 2 #[t27, t29]) (fun t30 h_24 => 
 Hp Try.prog false (binS .sub 2 (.tmp 25) (.tmp 30) t25 t30) (fun t31 h_25 => 
 Hp Try.prog false (Builtin.max_ #[2, 2] 2 #[(.int .i64 0), t31]) (fun t32 h_26 => 
 Hp Try.prog false (binS .add 2 (.tmp 14) (.tmp 32) n5 t32) (fun t33 h_27 => 
 Hp Try.prog false (binS .add 3 (.tmp 10) (.const (.int .i64 1)) t10 (.int .i64 1)) (fun t34 h_28 => 
 X t33 t34 h_28) h_27 ⟨⟩) h_26 ⟨⟩) h_25 ⟨⟩) h_24 ⟨⟩) h_23 ⟨⟩) h_22 ⟨⟩) h_21 ⟨⟩) h_20 ⟨⟩) h_19 ⟨⟩) h_18 ⟨⟩) h_17 ⟨⟩) h_16 ⟨⟩) h_15 ⟨⟩) h_14 ⟨⟩) h_13 ⟨⟩) h_12 ⟨⟩) h_11 ⟨⟩) h_10 ⟨⟩) h_9 ⟨⟩) h_8 ⟨⟩) h_7 ⟨⟩) h_6 ⟨⟩) h_5 ⟨⟩) h_4 ⟨⟩) (
 R n5 h_4) ⟨⟩ ⟨⟩) h_3 ⟨⟩) [(.int .i64 0), (.int .i64 0)] h_2 ⟨⟩) h_1 ⟨⟩) h ⟨⟩

theorem n42_calls {l0 x1 : Value} {R : Value → Heap → Prop} {h : Heap} (H : n42 l0 x1 R h) : CallsH Try.prog 42 #[l0, x1] h R ⟨⟩ :=
 callsH_of_eq Try.follow (.n none .l (.n none .l (.n none (.n none .l (.n none (.n (some [6, 11]) .l .l) .l)) .l))) Try.func42 (by kernel_rfl) (by kernel_rfl) (by kernel_rfl) H

/-- (*palimpsest/later.Later).Drain$1 -/
def n44 (yield0 t1 t2 : Value) (R : Value → Heap → Prop) (h : Heap) : Prop :=
 LoopC 0 (fun (X : Heap → Prop) => fun h_1 =>
 Hp Try.prog false (Instr.loadAt 25 t1) (fun t7 h_2 => 
 Hp Try.prog false (Instr.loadAt 2 t2) (fun t8 h_3 => 
 CallsH Try.prog 40 #[t7, t8] h_3 (fun t9 h_4 => 
 Hp Try.prog false (Instr.extract t9 0) (fun t10 h_5 => 
 Hp Try.prog false (Instr.extract t9 1) (fun t11 h_6 => 
 Hp Try.prog false (Instr.alloc 24 true undef) (fun x4 h_7 => 
 Hp Try.prog false (storeS 24 x4 t10) (fun _ h_8 => 
 Hp Try.prog false (binS .neq 26 (.tmp 12) (.const (.int .i64 0)) t11 (.int .i64 0)) (fun t13 h_9 => 
 Join1 (fun k h_10 => guardP t13 false (k yield0 h_10) (k undef h_10) ⟨⟩ ⟨⟩) (fun t15 h_11 => 
 Join1 (fun k_1 h_12 => guardP t13 false (Hp Try.prog false (Instr.loadAt 24 x4) k_1 h_12 ⟨⟩) (k_1 undef h_12) ⟨⟩ ⟨⟩) (fun t16 h_13 => 
 Join1 (fun k_2 h_14 => guardP t13 false (InvokeH Try.prog t15 #[t16] h_14 k_2 ⟨⟩) (k_2 undef h_14) ⟨⟩ ⟨⟩) (fun t17 h_15 => 
 Join1 (fun k_3 h_16 => guardP t13 false (Hp Try.prog false (Op.unary .not t17) k_3 h_16 ⟨⟩) (k_3 undef h_16) ⟨⟩ ⟨⟩) (fun t18 h_17 => 
 Hp Try.prog false (pickS t13 (.bool true) t18) (fun t19 h_18 => 
 CondP t19 (
 R (.tuple #[]) h_18) (
 X h_18) ⟨⟩ ⟨⟩) h_17 ⟨⟩) h_15 ⟨⟩ ⟨⟩) h_13 ⟨⟩ ⟨⟩) h_11 ⟨⟩ ⟨⟩) h_9 ⟨⟩ ⟨⟩) h_8 ⟨⟩) h_7 ⟨⟩) h_6 ⟨⟩) h_5 ⟨⟩) h_4 ⟨⟩) ⟨⟩) h_2 ⟨⟩) h_1 ⟨⟩) [] h ⟨⟩

theorem n44_calls {yield0 t1 t2 : Value} {R : Value → Heap → Prop} {h : Heap} (H : n44 yield0 t1 t2 R h) : CallsH Try.prog 44 #[yield0, t1, t2] h R ⟨⟩ :=
 callsH_of_eq Try.follow (.n none (.n (some []) .l .l) .l) Try.func44 (by kernel_rfl) (by kernel_rfl) (by kernel_rfl) H

/-- (*palimpsest/later.Later).add -/
def n58 (q0 x1 : Value) (R : Value → Heap → Prop) (h : Heap) : Prop :=
 Hp Try.prog false (Instr.box 24 x1) (fun x3 h_1 => 
 Hp Try.prog false (Instr.fieldAt 24 x3 0) (fun t5 h_2 => 
 Hp Try.prog false (Instr.loadAt 2 t5) (fun t6 h_3 => 
 Hp Try.prog false (Instr.fieldAt 24 x3 1) (fun t7 h_4 => 
 Hp Try.prog false (Instr.loadAt 2 t7) (fun t8 h_5 => 
 Hp Try.prog false (Instr.build 24 #[(0, t6), (1, t8)]) (fun t9 h_6 => 
 Hp Try.prog false (Instr.box 24 t9) (fun t10 h_7 => 
 Hp Try.prog false (nilS q0) (fun t12 h_8 => 
 Hp Try.prog false (Instr.fieldAt 76 t12 0) (fun t13 h_9 => 
 Hp Try.prog false (Instr.makeInterface 95 t13) (fun t14 h_10 => 
 Hp Try.prog false (Instr.makeInterface 69 t10) (fun t16 h_11 => 
 CallsH Try.prog 66 #[t14, t16] h_11 (fun t17 h_12 => 
 Hp Try.prog true (nilS q0) (fun t19 _ => 
 Hp Try.prog true (Instr.fieldAt 76 t19 1) (fun t20 _ => 
 Hp Try.prog true (Instr.loadAt 74 t20) (fun t21 _ => 
 Hp Try.prog true (nilS t10) (fun t23 _ => 
 Hp Try.prog true (Instr.fieldAt 24 t23 0) (fun t24 _ => 
 Hp Try.prog true (Instr.loadAt 2 t24) (fun t25 _ => 
 Hp Try.prog false (unitS (Instr.mapUpdate 74 t21 t25 t10)) (fun _ h_13 => 
 Hp Try.prog true (nilS q0) (fun t28 _ => 
 Hp Try.prog true (Instr.fieldAt 76 t28 2) (fun t29 _ => 
 Hp Try.prog true (Instr.loadAt 74 t29) (fun t30 _ => 
 Hp Try.prog true (nilS t10) (fun t32 _ => 
 Hp Try.prog true (Instr.fieldAt 24 t32 0) (fun t33 _ => 
 Hp Try.prog true (Instr.loadAt 2 t33) (fun t34 _ => 
 Hp Try.prog true (nilS t10) (fun t36 _ => 
 Hp Try.prog true (Instr.fieldAt 24 t36 1) (fun t37 _ => 
 Hp Try.prog true (Instr.loadAt 2 t37) (fun t38 _ => 
 Hp Try.prog true (binS .add 2 (.tmp 34) (.tmp 38) t34 t38) (fun t39 _ => 
 Hp Try.prog false (unitS (Instr.mapUpdate 74 t30 t39 t10)) (fun _ h_14 => 
 R (.tuple #[]) h_14) h_13 ⟨⟩) #[] ⟨⟩) h_13 ⟨⟩) #[] ⟨⟩) #[] ⟨⟩) h_13 ⟨⟩) #[] ⟨⟩) #[] ⟨⟩) h_13 ⟨⟩) #[] ⟨⟩) #[] ⟨⟩) h_12 ⟨⟩) h_12 ⟨⟩) #[] ⟨⟩) #[] ⟨⟩) h_12 ⟨⟩) #[] ⟨⟩) #[] ⟨⟩) ⟨⟩) h_10 ⟨⟩) h_9 ⟨⟩) h_8 ⟨⟩) h_7 ⟨⟩) h_6 ⟨⟩) h_5 ⟨⟩) h_4 ⟨⟩) h_3 ⟨⟩) h_2 ⟨⟩) h_1 ⟨⟩) h ⟨⟩

theorem n58_calls {q0 x1 : Value} {R : Value → Heap → Prop} {h : Heap} (H : n58 q0 x1 R h) : CallsH Try.prog 58 #[q0, x1] h R ⟨⟩ :=
 callsH_of_eq Try.follow .l Try.func58 (by kernel_rfl) (by kernel_rfl) (by kernel_rfl) H

end Go.Proofs.Ytgcllbelgakjgaa

/- Printed by wip/tools/gen.py: the condition of each function, and that a call meets it. -/
import Derived.Test.YtdmcaaojapcbcaaVcFun
import Derived.Test.YtdmcaaojapcbcaaProg
import Derived.Test.YtdmcaaojapcbcaaNiceK
import Derived.Test.YtdmcaaojapcbcaaNiceO
set_option maxRecDepth 100000
set_option linter.unusedVariables false
namespace Go.Proofs.Ytdmcaaojapcbcaa
open Go.Vc

/-- (*palimpsest/palimpsestref06.Store).Pending -/
def n12 (s0 : Value) (R : Value → Heap → Prop) (h : Heap) : Prop :=
 LoopC 2 (fun (X : Value → Value → Heap → Prop) => fun n3 i4 h_1 =>
 Hp Try.prog false (nilS s0) (fun t7 h_2 => 
 Hp Try.prog false (Instr.fieldAt 92 t7 0) (fun t8 h_3 => 
 Hp Try.prog false (Instr.loadAt 90 t8) (fun t9 h_4 => 
 Hp Try.prog false (Builtin.len_ #[90] 3 #[t9]) (fun t10 h_5 => 
 Hp Try.prog false (binS .lss 3 (.tmp 5) (.tmp 10) i4 t10) (fun t11 h_6 => 
 CondP t11 (
 Hp Try.prog false (nilS s0) (fun t16 h_7 => 
 Hp Try.prog false (Instr.fieldAt 92 t16 0) (fun t17 h_8 => 
 Hp Try.prog false (Instr.loadAt 90 t17) (fun t18 h_9 => 
 Hp Try.prog false (Instr.indexAt 90 t18 i4) (fun t20 h_10 => 
 Hp Try.prog false (Instr.fieldAt 99 t20 2) (fun t21 h_11 => 
 Hp Try.prog false (Instr.loadAt 97 t21) (fun t22 h_12 => 
 Hp Try.prog false (Builtin.len_ #[97] 3 #[t22]) (fun t23 h_13 => 
 Hp Try.prog false (binS .add 3 (.tmp 14) (.tmp 23) n3 t23) (fun t24 h_14 => 
 Hp Try.prog false (binS .add 3 (.tmp 12) (.const (.int .i64 1)) i4 (.int .i64 1)) (fun t13 h_15 => 
 X t24 t13 h_15) h_14 ⟨⟩) h_13 ⟨⟩) h_12 ⟨⟩) h_11 ⟨⟩) h_10 ⟨⟩) h_9 ⟨⟩) h_8 ⟨⟩) h_7 ⟨⟩) h_6 ⟨⟩) (
 R n3 h_6) ⟨⟩ ⟨⟩) h_5 ⟨⟩) h_4 ⟨⟩) h_3 ⟨⟩) h_2 ⟨⟩) h_1 ⟨⟩) [(.int .i64 0), (.int .i64 0)] h ⟨⟩

theorem n12_calls {s0 : Value} {R : Value → Heap → Prop} {h : Heap} (H : n12 s0 R h) : CallsH Try.prog 12 #[s0] h R ⟨⟩ :=
 callsH_of_eq Try.follow (.n none .l (.n none .l (.n none (.n none .l (.n none (.n (some [4, 5]) .l .l) .l)) .l))) Try.func12 (by kernel_rfl) (by kernel_rfl) (by kernel_rfl) H

/-- palimpsest/palimpsestref06.Right -/
def n20 (l0 : Value) (R : Value → Heap → Prop) (h : Heap) : Prop :=
 LoopC 1 (fun (X : Value → Heap → Prop) => fun i3 h_1 =>
 Hp Try.prog false (Builtin.len_ #[41] 3 #[l0]) (fun t6 h_2 => 
 Hp Try.prog false (binS .lss 3 (.tmp 4) (.tmp 6) i3 t6) (fun t7 h_3 => 
 CondP t7 (
 Hp Try.prog false (Instr.indexAt 41 l0 i3) (fun t12 h_4 => 
 Hp Try.prog false (Instr.fieldAt 107 t12 0) (fun t13 h_5 => 
 Hp Try.prog false (Instr.loadAt 105 t13) (fun t14 h_6 => 
 Hp Try.prog false (binS .lss 105 (.tmp 14) (.const (.int .i64 0)) t14 (.int .i64 0)) (fun t15 h_7 => 
 Join1 (fun k h_8 => guardP t15 false (k l0 h_8) (k undef h_8) ⟨⟩ ⟨⟩) (fun t17 h_9 => 
 Join1 (fun k_1 h_10 => guardP t15 false (k_1 i3 h_10) (k_1 undef h_10) ⟨⟩ ⟨⟩) (fun t18 h_11 => 
 Join1 (fun k_2 h_12 => guardP t15 false (Hp Try.prog false (Instr.indexAt 41 t17 t18) k_2 h_12 ⟨⟩) (k_2 undef h_12) ⟨⟩ ⟨⟩) (fun t19 h_13 => 
 Join1 (fun k_3 h_14 => guardP t15 false (Hp Try.prog false (Instr.fieldAt 107 t19 0) k_3 h_14 ⟨⟩) (k_3 undef h_14) ⟨⟩ ⟨⟩) (fun t20 h_15 => 
 Join1 (fun k_4 h_16 => guardP t15 false (Hp Try.prog false (Instr.loadAt 105 t20) k_4 h_16 ⟨⟩) (k_4 undef h_16) ⟨⟩ ⟨⟩) (fun t21 h_17 => 
 Join1 (fun k_5 h_18 => guardP t15 false (Hp Try.prog false (binS .gtr 105 (.tmp 21) (.const (.int .i64 2)) t21 (.int .i64 2)) k_5 h_18 ⟨⟩) (k_5 undef h_18) ⟨⟩ ⟨⟩) (fun t22 h_19 => 
 Hp Try.prog false (pickS t15 (.bool true) t22) (fun t23 h_20 => 
 CondP t23 (
 R (.bool false) h_20) (
 Hp Try.prog false (binS .add 3 (.tmp 8) (.const (.int .i64 1)) i3 (.int .i64 1)) (fun t9 h_21 => 
 X t9 h_21) h_20 ⟨⟩) ⟨⟩ ⟨⟩) h_19 ⟨⟩) h_17 ⟨⟩ ⟨⟩) h_15 ⟨⟩ ⟨⟩) h_13 ⟨⟩ ⟨⟩) h_11 ⟨⟩ ⟨⟩) h_9 ⟨⟩ ⟨⟩) h_7 ⟨⟩ ⟨⟩) h_6 ⟨⟩) h_5 ⟨⟩) h_4 ⟨⟩) h_3 ⟨⟩) (
 R (.bool true) h_3) ⟨⟩ ⟨⟩) h_2 ⟨⟩) h_1 ⟨⟩) [(.int .i64 0)] h ⟨⟩

theorem n20_calls {l0 : Value} {R : Value → Heap → Prop} {h : Heap} (H : n20 l0 R h) : CallsH Try.prog 20 #[l0] h R ⟨⟩ :=
 callsH_of_eq Try.follow (.n none .l (.n none (.n none .l (.n none (.n (some [4]) .l .l) .l)) .l)) Try.func20 (by kernel_rfl) (by kernel_rfl) (by kernel_rfl) H

/-- (*palimpsest/palimpsestref06.Store).Crash -/
def n36 (s0 picks1 : Value) (R : Value → Heap → Prop) (h : Heap) : Prop :=
 LoopC 1 (fun (X : Value → Heap → Prop) => fun i6 h_1 =>
 Hp Try.prog false (Builtin.len_ #[23] 3 #[picks1]) (fun t15 h_2 => 
 Hp Try.prog false (binS .lss 3 (.tmp 13) (.tmp 15) i6 t15) (fun t16 h_3 => 
 CondP t16 (
 Hp Try.prog false (Instr.indexAt 23 picks1 i6) (fun t21 h_4 => 
 Hp Try.prog false (Instr.loadAt 3 t21) (fun t22 h_5 => 
 Hp Try.prog false (binS .lss 3 (.tmp 22) (.const (.int .i64 0)) t22 (.int .i64 0)) (fun t23 h_6 => 
 CondP t23 (
 R (.tuple #[(.pointer none), (.int .i64 2)]) h_6) (
 Hp Try.prog false (binS .add 3 (.tmp 17) (.const (.int .i64 1)) i6 (.int .i64 1)) (fun t18 h_7 => 
 X t18 h_7) h_6 ⟨⟩) ⟨⟩ ⟨⟩) h_5 ⟨⟩) h_4 ⟨⟩) h_3 ⟨⟩) (
 Hp Try.prog false (Instr.build 92 #[]) (fun t24 h_8 => 
 Hp Try.prog false (Instr.box 92 t24) (fun t25 h_9 => 
 LoopC 2 (fun (X_1 : Value → Value → Heap → Prop) => fun k8 i9 h_10 =>
 Hp Try.prog false (nilS s0) (fun t28 h_11 => 
 Hp Try.prog false (Instr.fieldAt 92 t28 0) (fun t29 h_12 => 
 Hp Try.prog false (Instr.loadAt 90 t29) (fun t30 h_13 => 
 Hp Try.prog false (Builtin.len_ #[90] 3 #[t30]) (fun t31 h_14 => 
 Hp Try.prog false (binS .lss 3 (.tmp 26) (.tmp 31) i9 t31) (fun t32 h_15 => 
 CondP t32 (
 Hp Try.prog false (nilS s0) (fun t36 h_16 => 
 Hp Try.prog false (Instr.fieldAt 92 t36 0) (fun t37 h_17 => 
 Hp Try.prog false (Instr.loadAt 90 t37) (fun t38 h_18 => 
 Hp Try.prog false (Instr.indexAt 90 t38 i9) (fun t40 h_19 => 
 Hp Try.prog false (Instr.loadAt 99 t40) (fun t41 h_20 => 
 Hp Try.prog false (Instr.alloc 99 true undef) (fun f10 h_21 => 
 Hp Try.prog false (storeS 99 f10 t41) (fun _ h_22 => 
 Hp Try.prog false (Instr.fieldAt 99 f10 1) (fun t42 h_23 => 
 Hp Try.prog false (Instr.loadAt 9 t42) (fun t43 h_24 => 
 LoopC 3 (fun (X_2 : Value → Value → Value → Heap → Prop) => fun k8_1 b11 j12 h_25 =>
 Hp Try.prog false (Instr.fieldAt 99 f10 2) (fun t45 h_26 => 
 Hp Try.prog false (Instr.loadAt 97 t45) (fun t46 h_27 => 
 Hp Try.prog false (Builtin.len_ #[97] 3 #[t46]) (fun t47 h_28 => 
 Hp Try.prog false (binS .lss 3 (.tmp 44) (.tmp 47) j12 t47) (fun t48 h_29 => 
 CondP t48 (
 JoinN 1 (fun (k : Value → Heap → Prop) h_30 =>
 Hp Try.prog false (Builtin.len_ #[23] 3 #[picks1]) (fun t53 h_31 => 
 Hp Try.prog false (binS .lss 3 (.tmp 51) (.tmp 53) k8_1 t53) (fun t54 h_32 => 
 Join1 (fun k_1 h_33 => guardP t54 true (k_1 picks1 h_33) (k_1 undef h_33) ⟨⟩ ⟨⟩) (fun t56 h_34 => 
 Join1 (fun k_2 h_35 => guardP t54 true (k_2 k8_1 h_35) (k_2 undef h_35) ⟨⟩ ⟨⟩) (fun t57 h_36 => 
 Join1 (fun k_3 h_37 => guardP t54 true (Hp Try.prog false (Instr.indexAt 23 t56 t57) k_3 h_37 ⟨⟩) (k_3 undef h_37) ⟨⟩ ⟨⟩) (fun t58 h_38 => 
 Join1 (fun k_4 h_39 => guardP t54 true (Hp Try.prog false (Instr.loadAt 3 t58) k_4 h_39 ⟨⟩) (k_4 undef h_39) ⟨⟩ ⟨⟩) (fun t59 h_40 => 
 Join1 (fun k_5 h_41 => guardP t54 true (Hp Try.prog false (binS .rem 3 (.tmp 59) (.const (.int .i64 2)) t59 (.int .i64 2)) k_5 h_41 ⟨⟩) (k_5 undef h_41) ⟨⟩ ⟨⟩) (fun t60 h_42 => 
 Join1 (fun k_6 h_43 => guardP t54 true (Hp Try.prog false (binS .eql 3 (.tmp 60) (.const (.int .i64 1)) t60 (.int .i64 1)) k_6 h_43 ⟨⟩) (k_6 undef h_43) ⟨⟩ ⟨⟩) (fun t61 h_44 => 
 Hp Try.prog false (pickS t54 t61 (.bool false)) (fun t62 h_45 => 
 CondP t62 (
 Hp Try.prog true (Instr.fieldAt 99 f10 2) (fun t64 _ => 
 Hp Try.prog true (Instr.loadAt 97 t64) (fun t65 _ => 
 Hp Try.prog true (Instr.indexAt 97 t65 j12) (fun t67 _ => 
 Hp Try.prog true (Instr.fieldAt 145 t67 0) (fun t68 _ => 
 Hp Try.prog true (Instr.loadAt 2 t68) (fun t69 _ => 
 Hp Try.prog true (Instr.fieldAt 99 f10 2) (fun t70 _ => 
 Hp Try.prog true (Instr.loadAt 97 t70) (fun t71 _ => 
 Hp Try.prog true (Instr.indexAt 97 t71 j12) (fun t73 _ => 
 Hp Try.prog true (Instr.fieldAt 145 t73 1) (fun t74 _ => 
 Hp Try.prog true (Instr.loadAt 9 t74) (fun t75 _ => 
 CallsH Try.prog 79 #[b11, t69, t75] h_45 (fun t76 h_46 => 
 k t76 h_46) ⟨⟩) h_45 ⟨⟩) #[] ⟨⟩) #[] ⟨⟩) h_45 ⟨⟩) #[] ⟨⟩) h_45 ⟨⟩) #[] ⟨⟩) #[] ⟨⟩) h_45 ⟨⟩) #[] ⟨⟩) (
 k b11 h_45) ⟨⟩ ⟨⟩) h_44 ⟨⟩) h_42 ⟨⟩ ⟨⟩) h_40 ⟨⟩ ⟨⟩) h_38 ⟨⟩ ⟨⟩) h_36 ⟨⟩ ⟨⟩) h_34 ⟨⟩ ⟨⟩) h_32 ⟨⟩ ⟨⟩) h_31 ⟨⟩) h_30 ⟨⟩)
 (fun b11_1 h_47 =>
 Hp Try.prog false (binS .add 3 (.tmp 77) (.const (.int .i64 1)) k8_1 (.int .i64 1)) (fun t78 h_48 => 
 Hp Try.prog false (binS .add 3 (.tmp 49) (.const (.int .i64 1)) j12 (.int .i64 1)) (fun t50 h_49 => 
 X_2 t78 b11_1 t50 h_49) h_48 ⟨⟩) h_47 ⟨⟩) h_29 ⟨⟩ ⟨⟩) (
 Hp Try.prog true (nilS t25) (fun t81 _ => 
 Hp Try.prog true (Instr.fieldAt 92 t81 0) (fun t82 _ => 
 Hp Try.prog true (Instr.loadAt 90 t82) (fun t83 _ => 
 Hp Try.prog true (Instr.fieldAt 99 f10 0) (fun t84 _ => 
 Hp Try.prog true (Instr.loadAt 9 t84) (fun t85 _ => 
 Hp Try.prog true (Instr.build 99 #[(0, t85), (1, b11)]) (fun t87 _ => 
 Hp Try.prog false (Instr.buildSlice 90 1 #[(0, t87)]) (fun t88 h_50 => Hp Try.prog true (Instr.loadAt 90 t82) (fun u _ => u = t83) h_50 ⟨⟩ ∧ 
 Hp Try.prog false (Builtin.append_ #[90, 90] 90 #[t83, t88]) (fun t89 h_51 => 
 Hp Try.prog true (nilS t25) (fun t90 _ => 
 Hp Try.prog true (Instr.fieldAt 92 t90 0) (fun t91 _ => 
 Hp Try.prog false (storeS 90 t91 t89) (fun _ h_52 => 
 Hp Try.prog false (binS .add 3 (.tmp 33) (.const (.int .i64 1)) i9 (.int .i64 1)) (fun t34 h_53 => 
 X_1 k8_1 t34 h_53) h_52 ⟨⟩) h_51 ⟨⟩) #[] ⟨⟩) #[] ⟨⟩) h_50 ⟨⟩) h_29 ⟨⟩) #[] ⟨⟩) h_29 ⟨⟩) #[] ⟨⟩) h_29 ⟨⟩) #[] ⟨⟩) #[] ⟨⟩) ⟨⟩ ⟨⟩) h_28 ⟨⟩) h_27 ⟨⟩) h_26 ⟨⟩) h_25 ⟨⟩) [k8, t43, (.int .i64 0)] h_24 ⟨⟩) h_23 ⟨⟩) h_22 ⟨⟩) h_21 ⟨⟩) h_20 ⟨⟩) h_19 ⟨⟩) h_18 ⟨⟩) h_17 ⟨⟩) h_16 ⟨⟩) h_15 ⟨⟩) (
 R (.tuple #[t25, (.int .i64 0)]) h_15) ⟨⟩ ⟨⟩) h_14 ⟨⟩) h_13 ⟨⟩) h_12 ⟨⟩) h_11 ⟨⟩) h_10 ⟨⟩) [(.int .i64 0), (.int .i64 0)] h_9 ⟨⟩) h_8 ⟨⟩) h_3 ⟨⟩) ⟨⟩ ⟨⟩) h_2 ⟨⟩) h_1 ⟨⟩) [(.int .i64 0)] h ⟨⟩

theorem n36_calls {s0 picks1 : Value} {R : Value → Heap → Prop} {h : Heap} (H : n36 s0 picks1 R h) : CallsH Try.prog 36 #[s0, picks1] h R ⟨⟩ :=
 callsH_of_eq Try.follow (.n none .l (.n none (.n none .l (.n none (.n (some [7]) .l .l) .l)) (.n none .l (.n none .l (.n none (.n none .l (.n none (.n (some [9, 10]) (.n none .l (.n none (.n none (.n none .l (.n none .l (.n none (.n none .l (.n none (.n (some [9, 12, 13]) (.n none .l (.n none (.n none (.n (some [12]) .l .l) .l) .l)) .l) .l)) .l))) .l) .l)) .l) .l)) .l))))) Try.func36 (by kernel_rfl) (by kernel_rfl) (by kernel_rfl) H

/-- palimpsest/palimpsestref06.New -/
def n40 (fates0 : Value) (R : Value → Heap → Prop) (h : Heap) : Prop :=
 Hp Try.prog false (Builtin.append_ #[41, 41] 41 #[(.slice none 0 0), fates0]) (fun t4 h_1 => 
 Hp Try.prog false (Instr.build 92 #[(1, t4)]) (fun t5 h_2 => 
 Hp Try.prog false (Instr.box 92 t5) (fun t6 h_3 => 
 R t6 h_3) h_2 ⟨⟩) h_1 ⟨⟩) h ⟨⟩

theorem n40_calls {fates0 : Value} {R : Value → Heap → Prop} {h : Heap} (H : n40 fates0 R h) : CallsH Try.prog 40 #[fates0] h R ⟨⟩ :=
 callsH_of_eq Try.follow .l Try.func40 (by kernel_rfl) (by kernel_rfl) (by kernel_rfl) H

/-- (*palimpsest/palimpsestref06.Store).Create -/
def n41 (s0 name1 : Value) (R : Value → Heap → Prop) (h : Heap) : Prop :=
 CallsH Try.prog 82 #[s0, name1] h (fun t14 h_1 => 
 Hp Try.prog false (Instr.extract t14 0) (fun t15 h_2 => 
 Hp Try.prog false (Instr.extract t14 1) (fun t16 h_3 => 
 Hp Try.prog false (binS .eql 3 (.tmp 17) (.const (.int .i64 2)) t16 (.int .i64 2)) (fun t18 h_4 => 
 CondP t18 (
 R t16 h_4) (
 Hp Try.prog false (binS .eql 3 (.tmp 20) (.const (.int .i64 0)) t16 (.int .i64 0)) (fun t21 h_5 => 
 CondP t21 (
 R (.int .i64 8) h_5) (
 Hp Try.prog false (nilS s0) (fun t23 h_6 => 
 Hp Try.prog false (Instr.fieldAt 92 t23 0) (fun t24 h_7 => 
 Hp Try.prog false (Instr.loadAt 90 t24) (fun t25 h_8 => 
 Hp Try.prog false (Builtin.len_ #[90] 3 #[t25]) (fun t26 h_9 => 
 Hp Try.prog false (binS .geq 3 (.tmp 26) (.const (.int .i64 256)) t26 (.int .i64 256)) (fun t27 h_10 => 
 CondP t27 (
 R (.int .i64 6) h_10) (
 CallsH Try.prog 83 #[s0] h_10 (fun t30 h_11 => 
 Hp Try.prog false (Instr.extract t30 0) (fun t31 h_12 => 
 Hp Try.prog false (Instr.extract t30 1) (fun t32 h_13 => 
 Hp Try.prog false (binS .neq 3 (.tmp 33) (.const (.int .i64 0)) t31 (.int .i64 0)) (fun t34 h_14 => 
 CondP t34 (
 R t31 h_14) (
 LoopC 1 (fun (X : Value → Heap → Prop) => fun at9 h_15 =>
 Hp Try.prog false (nilS s0) (fun t38 h_16 => 
 Hp Try.prog false (Instr.fieldAt 92 t38 0) (fun t39 h_17 => 
 Hp Try.prog false (Instr.loadAt 90 t39) (fun t40 h_18 => 
 Hp Try.prog false (Builtin.len_ #[90] 3 #[t40]) (fun t41 h_19 => 
 Hp Try.prog false (binS .lss 3 (.tmp 36) (.tmp 41) at9 t41) (fun t42 h_20 => 
 Join1 (fun k h_21 => guardP t42 true (k s0 h_21) (k undef h_21) ⟨⟩ ⟨⟩) (fun t44 h_22 => 
 Join1 (fun k_1 h_23 => guardP t42 true (Hp Try.prog false (nilS t44) k_1 h_23 ⟨⟩) (k_1 undef h_23) ⟨⟩ ⟨⟩) (fun t45 h_24 => 
 Join1 (fun k_2 h_25 => guardP t42 true (Hp Try.prog false (Instr.fieldAt 92 t45 0) k_2 h_25 ⟨⟩) (k_2 undef h_25) ⟨⟩ ⟨⟩) (fun t46 h_26 => 
 Join1 (fun k_3 h_27 => guardP t42 true (Hp Try.prog false (Instr.loadAt 90 t46) k_3 h_27 ⟨⟩) (k_3 undef h_27) ⟨⟩ ⟨⟩) (fun t47 h_28 => 
 Join1 (fun k_4 h_29 => guardP t42 true (k_4 at9 h_29) (k_4 undef h_29) ⟨⟩ ⟨⟩) (fun t48 h_30 => 
 Join1 (fun k_5 h_31 => guardP t42 true (Hp Try.prog false (Instr.indexAt 90 t47 t48) k_5 h_31 ⟨⟩) (k_5 undef h_31) ⟨⟩ ⟨⟩) (fun t49 h_32 => 
 Join1 (fun k_6 h_33 => guardP t42 true (Hp Try.prog false (Instr.fieldAt 99 t49 0) k_6 h_33 ⟨⟩) (k_6 undef h_33) ⟨⟩ ⟨⟩) (fun t50 h_34 => 
 Join1 (fun k_7 h_35 => guardP t42 true (Hp Try.prog false (Instr.loadAt 9 t50) k_7 h_35 ⟨⟩) (k_7 undef h_35) ⟨⟩ ⟨⟩) (fun t51 h_36 => 
 Join1 (fun k_8 h_37 => guardP t42 true (k_8 name1 h_37) (k_8 undef h_37) ⟨⟩ ⟨⟩) (fun t52 h_38 => 
 Join1 (fun k_9 h_39 => guardP t42 true (Hp Try.prog false (binS .lss 9 (.tmp 51) (.tmp 52) t51 t52) k_9 h_39 ⟨⟩) (k_9 undef h_39) ⟨⟩ ⟨⟩) (fun t53 h_40 => 
 Hp Try.prog false (pickS t42 t53 (.bool false)) (fun t54 h_41 => 
 CondP t54 (
 Hp Try.prog false (binS .add 3 (.tmp 55) (.const (.int .i64 1)) at9 (.int .i64 1)) (fun t56 h_42 => 
 X t56 h_42) h_41 ⟨⟩) (
 Hp Try.prog false (nilS s0) (fun t58 h_43 => 
 Hp Try.prog false (Instr.fieldAt 92 t58 0) (fun t59 h_44 => 
 Hp Try.prog false (Instr.loadAt 90 t59) (fun t60 h_45 => 
 Hp Try.prog false (Instr.sliceAt 90 t60 none (some at9) none) (fun t62 h_46 => 
 Hp Try.prog false (Builtin.append_ #[90, 90] 90 #[(.slice none 0 0), t62]) (fun t63 h_47 => 
 Hp Try.prog false (Instr.build 99 #[(0, name1)]) (fun t66 h_48 => 
 Hp Try.prog false (Instr.buildSlice 90 1 #[(0, t66)]) (fun t67 h_49 => 
 Hp Try.prog false (Builtin.append_ #[90, 90] 90 #[t63, t67]) (fun t68 h_50 => 
 Hp Try.prog false (nilS s0) (fun t72 h_51 => 
 Hp Try.prog false (Instr.fieldAt 92 t72 0) (fun t73 h_52 => 
 Hp Try.prog false (Instr.loadAt 90 t73) (fun t74 h_53 => 
 Hp Try.prog false (Instr.sliceAt 90 t74 (some at9) none none) (fun t76 h_54 => 
 Hp Try.prog false (Builtin.append_ #[90, 90] 90 #[t68, t76]) (fun t77 h_55 => 
 Hp Try.prog false (nilS s0) (fun t78 h_56 => 
 Hp Try.prog false (Instr.fieldAt 92 t78 0) (fun t79 h_57 => 
 Hp Try.prog false (storeS 90 t79 t77) (fun _ h_58 => 
 R (.int .i64 0) h_58) h_57 ⟨⟩) h_56 ⟨⟩) h_55 ⟨⟩) h_54 ⟨⟩) h_53 ⟨⟩) h_52 ⟨⟩) h_51 ⟨⟩) h_50 ⟨⟩) h_49 ⟨⟩) h_48 ⟨⟩) h_47 ⟨⟩) h_46 ⟨⟩) h_45 ⟨⟩) h_44 ⟨⟩) h_43 ⟨⟩) h_41 ⟨⟩) ⟨⟩ ⟨⟩) h_40 ⟨⟩) h_38 ⟨⟩ ⟨⟩) h_36 ⟨⟩ ⟨⟩) h_34 ⟨⟩ ⟨⟩) h_32 ⟨⟩ ⟨⟩) h_30 ⟨⟩ ⟨⟩) h_28 ⟨⟩ ⟨⟩) h_26 ⟨⟩ ⟨⟩) h_24 ⟨⟩ ⟨⟩) h_22 ⟨⟩ ⟨⟩) h_20 ⟨⟩ ⟨⟩) h_19 ⟨⟩) h_18 ⟨⟩) h_17 ⟨⟩) h_16 ⟨⟩) h_15 ⟨⟩) [(.int .i64 0)] h_14 ⟨⟩) ⟨⟩ ⟨⟩) h_13 ⟨⟩) h_12 ⟨⟩) h_11 ⟨⟩) ⟨⟩) ⟨⟩ ⟨⟩) h_9 ⟨⟩) h_8 ⟨⟩) h_7 ⟨⟩) h_6 ⟨⟩) h_5 ⟨⟩) ⟨⟩ ⟨⟩) h_4 ⟨⟩) ⟨⟩ ⟨⟩) h_3 ⟨⟩) h_2 ⟨⟩) h_1 ⟨⟩) ⟨⟩

theorem n41_calls {s0 name1 : Value} {R : Value → Heap → Prop} {h : Heap} (H : n41 s0 name1 R h) : CallsH Try.prog 41 #[s0, name1] h R ⟨⟩ :=
 callsH_of_eq Try.follow (.n none .l (.n none .l (.n none .l (.n none .l (.n none .l (.n none .l (.n none .l (.n none .l (.n none (.n none (.n (some [10]) .l .l) .l) .l))))))))) Try.func41 (by kernel_rfl) (by kernel_rfl) (by kernel_rfl) H

/-- (*palimpsest/palimpsestref06.Store).Write -/
def n42 (s0 name1 at2 b3 : Value) (R : Value → Heap → Prop) (h : Heap) : Prop :=
 CallsH Try.prog 82 #[s0, name1] h (fun t21 h_1 => 
 Hp Try.prog false (Instr.extract t21 0) (fun t22 h_2 => 
 Hp Try.prog false (Instr.extract t21 1) (fun t23 h_3 => 
 Hp Try.prog false (binS .neq 3 (.tmp 24) (.const (.int .i64 0)) t23 (.int .i64 0)) (fun t25 h_4 => 
 CondP t25 (
 R t23 h_4) (
 Hp Try.prog false (binS .lss 2 (.tmp 27) (.const (.int .i64 0)) at2 (.int .i64 0)) (fun t28 h_5 => 
 CondP t28 (
 R (.int .i64 4) h_5) (
 Hp Try.prog false (Builtin.len_ #[50] 3 #[b3]) (fun t30 h_6 => 
 Hp Try.prog false (binS .gtr 3 (.tmp 30) (.const (.int .i64 0)) t30 (.int .i64 0)) (fun t31 h_7 => 
 Join1 (fun k h_8 => guardP t31 true (k at2 h_8) (k undef h_8) ⟨⟩ ⟨⟩) (fun t33 h_9 => 
 Join1 (fun k_1 h_10 => guardP t31 true (Hp Try.prog false (binS .gtr 2 (.tmp 33) (.const (.int .i64 268435456)) t33 (.int .i64 268435456)) k_1 h_10 ⟨⟩) (k_1 undef h_10) ⟨⟩ ⟨⟩) (fun t34 h_11 => 
 Join1 (fun k_2 h_12 => guardP t31 true (k_2 t34 h_12) (k_2 undef h_12) ⟨⟩ ⟨⟩) (fun t35 h_13 => 
 Join1 (fun k_3 h_14 => guardP t35 false (k_3 b3 h_14) (k_3 undef h_14) ⟨⟩ ⟨⟩) (fun t36 h_15 => 
 Join1 (fun k_4 h_16 => guardP t35 false (Hp Try.prog false (Builtin.len_ #[50] 3 #[t36]) k_4 h_16 ⟨⟩) (k_4 undef h_16) ⟨⟩ ⟨⟩) (fun t37 h_17 => 
 Join1 (fun k_5 h_18 => guardP t35 false (k_5 at2 h_18) (k_5 undef h_18) ⟨⟩ ⟨⟩) (fun t38 h_19 => 
 Join1 (fun k_6 h_20 => guardP t35 false (Hp Try.prog false (binS .sub 2 (.const (.int .i64 268435456)) (.tmp 38) (.int .i64 268435456) t38) k_6 h_20 ⟨⟩) (k_6 undef h_20) ⟨⟩ ⟨⟩) (fun t39 h_21 => 
 Join1 (fun k_7 h_22 => guardP t35 false (Hp Try.prog false (binS .gtr 2 (.tmp 37) (.tmp 39) t37 t39) k_7 h_22 ⟨⟩) (k_7 undef h_22) ⟨⟩ ⟨⟩) (fun t40 h_23 => 
 Join1 (fun k_8 h_24 => guardP t31 true (Hp Try.prog false (pickS t35 (.bool true) t40) k_8 h_24 ⟨⟩) (k_8 undef h_24) ⟨⟩ ⟨⟩) (fun t41 h_25 => 
 Hp Try.prog false (pickS t31 t41 (.bool false)) (fun t42 h_26 => 
 CondP t42 (
 R (.int .i64 6) h_26) (
 CallsH Try.prog 83 #[s0] h_26 (fun t45 h_27 => 
 Hp Try.prog false (Instr.extract t45 0) (fun t46 h_28 => 
 Hp Try.prog false (Instr.extract t45 1) (fun t47 h_29 => 
 Hp Try.prog false (nilS s0) (fun t49 h_30 => 
 Hp Try.prog false (Instr.fieldAt 92 t49 0) (fun t50 h_31 => 
 Hp Try.prog false (Instr.loadAt 90 t50) (fun t51 h_32 => 
 Hp Try.prog false (Instr.indexAt 90 t51 t22) (fun t53 h_33 => 
 Hp Try.prog false (Instr.loadAt 99 t53) (fun t54 h_34 => 
 Hp Try.prog false (Instr.alloc 99 true undef) (fun x13 h_35 => 
 Hp Try.prog false (storeS 99 x13 t54) (fun _ h_36 => 
 Hp Try.prog false (Instr.fieldAt 99 x13 2) (fun t55 h_37 => 
 Hp Try.prog false (Instr.loadAt 97 t55) (fun t56 h_38 => 
 Hp Try.prog false (Builtin.append_ #[97, 97] 97 #[(.slice none 0 0), t56]) (fun t57 h_39 => 
 LoopC 3 (fun (X : Value → Value → Value → Heap → Prop) => fun pieces14 done15 from16 h_40 =>
 Hp Try.prog false (Builtin.len_ #[50] 3 #[b3]) (fun t60 h_41 => 
 Hp Try.prog false (binS .lss 3 (.tmp 58) (.tmp 60) from16 t60) (fun t61 h_42 => 
 Join1 (fun k_9 h_43 => guardP t61 true (k_9 t46 h_43) (k_9 undef h_43) ⟨⟩ ⟨⟩) (fun t63 h_44 => 
 Join1 (fun k_10 h_45 => guardP t61 true (Hp Try.prog false (binS .eql 3 (.tmp 63) (.const (.int .i64 0)) t63 (.int .i64 0)) k_10 h_45 ⟨⟩) (k_10 undef h_45) ⟨⟩ ⟨⟩) (fun t64 h_46 => 
 Join1 (fun k_11 h_47 => guardP t61 true (k_11 t64 h_47) (k_11 undef h_47) ⟨⟩ ⟨⟩) (fun t65 h_48 => 
 Join1 (fun k_12 h_49 => guardP t65 false (k_12 done15 h_49) (k_12 undef h_49) ⟨⟩ ⟨⟩) (fun t66 h_50 => 
 Join1 (fun k_13 h_51 => guardP t65 false (k_13 t47 h_51) (k_13 undef h_51) ⟨⟩ ⟨⟩) (fun t67 h_52 => 
 Join1 (fun k_14 h_53 => guardP t65 false (Hp Try.prog false (binS .lss 3 (.tmp 66) (.tmp 67) t66 t67) k_14 h_53 ⟨⟩) (k_14 undef h_53) ⟨⟩ ⟨⟩) (fun t68 h_54 => 
 Join1 (fun k_15 h_55 => guardP t61 true (Hp Try.prog false (pickS t65 (.bool true) t68) k_15 h_55 ⟨⟩) (k_15 undef h_55) ⟨⟩ ⟨⟩) (fun t69 h_56 => 
 Hp Try.prog false (pickS t61 t69 (.bool false)) (fun t70 h_57 => 
 CondP t70 (
 Hp Try.prog false (Builtin.len_ #[50] 3 #[b3]) (fun t72 h_58 => 
 Hp Try.prog false (binS .sub 3 (.tmp 72) (.tmp 73) t72 from16) (fun t74 h_59 => 
 Hp Try.prog false (binS .add 2 (.tmp 75) (.tmp 76) at2 from16) (fun t77 h_60 => 
 Hp Try.prog false (binS .rem 2 (.tmp 77) (.const (.int .i64 512)) t77 (.int .i64 512)) (fun t78 h_61 => 
 Hp Try.prog false (binS .sub 3 (.const (.int .i64 512)) (.tmp 78) (.int .i64 512) t78) (fun t79 h_62 => 
 Hp Try.prog false (Builtin.min_ #[3, 3] 3 #[t74, t79]) (fun t80 h_63 => 
 Hp Try.prog false (binS .add 2 (.tmp 82) (.tmp 83) at2 from16) (fun t84 h_64 => 
 Hp Try.prog false (binS .add 3 (.tmp 87) (.tmp 88) from16 t80) (fun t89 h_65 => 
 Hp Try.prog false (Instr.sliceAt 50 b3 (some from16) (some t89) none) (fun t90 h_66 => 
 Hp Try.prog false (convert 50 9 t90) (fun t91 h_67 => 
 Hp Try.prog false (Instr.build 145 #[(0, t84), (1, t91)]) (fun t92 h_68 => 
 Hp Try.prog false (Instr.buildSlice 97 1 #[(0, t92)]) (fun t93 h_69 => 
 Hp Try.prog false (Builtin.append_ #[97, 97] 97 #[pieces14, t93]) (fun t94 h_70 => 
 Hp Try.prog false (binS .add 3 (.tmp 95) (.tmp 96) from16 t80) (fun t97 h_71 => 
 Hp Try.prog false (binS .add 3 (.tmp 98) (.const (.int .i64 1)) done15 (.int .i64 1)) (fun t99 h_72 => 
 X t94 t99 t97 h_72) h_71 ⟨⟩) h_70 ⟨⟩) h_69 ⟨⟩) h_68 ⟨⟩) h_67 ⟨⟩) h_66 ⟨⟩) h_65 ⟨⟩) h_64 ⟨⟩) h_63 ⟨⟩) h_62 ⟨⟩) h_61 ⟨⟩) h_60 ⟨⟩) h_59 ⟨⟩) h_58 ⟨⟩) h_57 ⟨⟩) (
 Hp Try.prog false (Instr.fieldAt 99 x13 2) (fun t101 h_73 => 
 Hp Try.prog false (storeS 97 t101 pieces14) (fun _ h_74 => 
 JoinN 0 (fun (k_16 : Heap → Prop) h_75 =>
 Hp Try.prog false (binS .gtr 3 (.tmp 102) (.const (.int .i64 0)) from16 (.int .i64 0)) (fun t103 h_76 => 
 CondP t103 (
 Hp Try.prog true (Instr.fieldAt 99 x13 1) (fun t104 _ => 
 Hp Try.prog true (Instr.loadAt 9 t104) (fun t105 _ => 
 Hp Try.prog true (binS .add 2 (.tmp 106) (.tmp 107) at2 from16) (fun t108 _ => 
 Hp Try.prog true (Instr.fieldAt 99 x13 1) (fun t109 _ => 
 Hp Try.prog true (Instr.loadAt 9 t109) (fun t110 _ => 
 Hp Try.prog true (Builtin.len_ #[9] 3 #[t110]) (fun t111 _ => 
 Hp Try.prog true (binS .sub 2 (.tmp 108) (.tmp 111) t108 t111) (fun t112 _ => 
 CallsH Try.prog 84 #[t112] h_76 (fun t113 h_77 => Hp Try.prog true (Instr.loadAt 9 t104) (fun u _ => u = t105) h_77 ⟨⟩ ∧ 
 Hp Try.prog true (binS .add 9 (.tmp 105) (.tmp 113) t105 t113) (fun t114 _ => 
 Hp Try.prog true (Instr.fieldAt 99 x13 1) (fun t115 _ => 
 Hp Try.prog false (storeS 9 t115 t114) (fun _ h_78 => 
 k_16 h_78) h_77 ⟨⟩) #[] ⟨⟩) #[] ⟨⟩) ⟨⟩) #[] ⟨⟩) #[] ⟨⟩) h_76 ⟨⟩) #[] ⟨⟩) #[] ⟨⟩) h_76 ⟨⟩) #[] ⟨⟩) (
 k_16 h_76) ⟨⟩ ⟨⟩) h_75 ⟨⟩)
 (fun h_79 =>
 Hp Try.prog true (nilS s0) (fun t117 _ => 
 Hp Try.prog true (Instr.fieldAt 92 t117 0) (fun t118 _ => 
 Hp Try.prog true (Instr.loadAt 90 t118) (fun t119 _ => 
 Hp Try.prog true (Instr.loadAt 99 x13) (fun t121 _ => 
 Hp Try.prog true (Instr.indexAt 90 t119 t22) (fun t122 _ => 
 Hp Try.prog false (storeS 99 t122 t121) (fun _ h_80 => 
 R t46 h_80) h_79 ⟨⟩) #[] ⟨⟩) h_79 ⟨⟩) h_79 ⟨⟩) #[] ⟨⟩) #[] ⟨⟩) h_74 ⟨⟩ ⟨⟩) h_73 ⟨⟩) h_57 ⟨⟩) ⟨⟩ ⟨⟩) h_56 ⟨⟩) h_54 ⟨⟩ ⟨⟩) h_52 ⟨⟩ ⟨⟩) h_50 ⟨⟩ ⟨⟩) h_48 ⟨⟩ ⟨⟩) h_46 ⟨⟩ ⟨⟩) h_44 ⟨⟩ ⟨⟩) h_42 ⟨⟩ ⟨⟩) h_41 ⟨⟩) h_40 ⟨⟩) [t57, (.int .i64 0), (.int .i64 0)] h_39 ⟨⟩) h_38 ⟨⟩) h_37 ⟨⟩) h_36 ⟨⟩) h_35 ⟨⟩) h_34 ⟨⟩) h_33 ⟨⟩) h_32 ⟨⟩) h_31 ⟨⟩) h_30 ⟨⟩) h_29 ⟨⟩) h_28 ⟨⟩) h_27 ⟨⟩) ⟨⟩) ⟨⟩ ⟨⟩) h_25 ⟨⟩) h_23 ⟨⟩ ⟨⟩) h_21 ⟨⟩ ⟨⟩) h_19 ⟨⟩ ⟨⟩) h_17 ⟨⟩ ⟨⟩) h_15 ⟨⟩ ⟨⟩) h_13 ⟨⟩ ⟨⟩) h_11 ⟨⟩ ⟨⟩) h_9 ⟨⟩ ⟨⟩) h_7 ⟨⟩ ⟨⟩) h_6 ⟨⟩) h_5 ⟨⟩) ⟨⟩ ⟨⟩) h_4 ⟨⟩) ⟨⟩ ⟨⟩) h_3 ⟨⟩) h_2 ⟨⟩) h_1 ⟨⟩) ⟨⟩

theorem n42_calls {s0 name1 at2 b3 : Value} {R : Value → Heap → Prop} {h : Heap} (H : n42 s0 name1 at2 b3 R h) : CallsH Try.prog 42 #[s0, name1, at2, b3] h R ⟨⟩ :=
 callsH_of_eq Try.follow (.n none .l (.n none .l (.n none .l (.n none .l (.n none .l (.n none .l (.n none .l (.n none .l (.n none .l (.n none .l (.n none (.n none (.n (some [15, 16, 17]) .l .l) .l) (.n none .l (.n (some []) .l .l))))))))))))) Try.func42 (by kernel_rfl) (by kernel_rfl) (by kernel_rfl) H

/-- (*palimpsest/palimpsestref06.Store).Flush -/
def n43 (s0 name1 : Value) (R : Value → Heap → Prop) (h : Heap) : Prop :=
 CallsH Try.prog 82 #[s0, name1] h (fun t15 h_1 => 
 Hp Try.prog false (Instr.extract t15 0) (fun t16 h_2 => 
 Hp Try.prog false (Instr.extract t15 1) (fun t17 h_3 => 
 Hp Try.prog false (binS .neq 3 (.tmp 18) (.const (.int .i64 0)) t17 (.int .i64 0)) (fun t19 h_4 => 
 CondP t19 (
 R t17 h_4) (
 CallsH Try.prog 83 #[s0] h_4 (fun t23 h_5 => 
 Hp Try.prog false (Instr.extract t23 0) (fun t24 h_6 => 
 Hp Try.prog false (Instr.extract t23 1) (fun t25 h_7 => 
 Hp Try.prog false (nilS s0) (fun t27 h_8 => 
 Hp Try.prog false (Instr.fieldAt 92 t27 0) (fun t28 h_9 => 
 Hp Try.prog false (Instr.loadAt 90 t28) (fun t29 h_10 => 
 Hp Try.prog false (Instr.indexAt 90 t29 t16) (fun t31 h_11 => 
 Hp Try.prog false (Instr.loadAt 99 t31) (fun t32 h_12 => 
 Hp Try.prog false (Instr.alloc 99 true undef) (fun x9 h_13 => 
 Hp Try.prog false (storeS 99 x9 t32) (fun _ h_14 => 
 Hp Try.prog false (Instr.fieldAt 99 x9 2) (fun t33 h_15 => 
 Hp Try.prog false (Instr.loadAt 97 t33) (fun t34 h_16 => 
 Hp Try.prog false (Builtin.len_ #[97] 3 #[t34]) (fun t35 h_17 => 
 JoinN 1 (fun (k : Value → Heap → Prop) h_18 =>
 Hp Try.prog false (binS .neq 3 (.tmp 36) (.const (.int .i64 0)) t24 (.int .i64 0)) (fun t37 h_19 => 
 CondP t37 (
 Hp Try.prog false (Builtin.min_ #[3, 3] 3 #[t35, t25]) (fun t40 h_20 => 
 k t40 h_20) h_19 ⟨⟩) (
 k t35 h_19) ⟨⟩ ⟨⟩) h_18 ⟨⟩)
 (fun n10 h_21 =>
 LoopC 1 (fun (X : Value → Heap → Prop) => fun k11 h_22 =>
 Hp Try.prog false (binS .lss 3 (.tmp 41) (.tmp 42) k11 n10) (fun t43 h_23 => 
 CondP t43 (
 Hp Try.prog true (Instr.fieldAt 99 x9 1) (fun t46 _ => 
 Hp Try.prog true (Instr.loadAt 9 t46) (fun t47 _ => 
 Hp Try.prog true (Instr.fieldAt 99 x9 2) (fun t48 _ => 
 Hp Try.prog true (Instr.loadAt 97 t48) (fun t49 _ => 
 Hp Try.prog true (Instr.indexAt 97 t49 k11) (fun t51 _ => 
 Hp Try.prog true (Instr.fieldAt 145 t51 0) (fun t52 _ => 
 Hp Try.prog true (Instr.loadAt 2 t52) (fun t53 _ => 
 Hp Try.prog true (Instr.fieldAt 99 x9 2) (fun t54 _ => 
 Hp Try.prog true (Instr.loadAt 97 t54) (fun t55 _ => 
 Hp Try.prog true (Instr.indexAt 97 t55 k11) (fun t57 _ => 
 Hp Try.prog true (Instr.fieldAt 145 t57 1) (fun t58 _ => 
 Hp Try.prog true (Instr.loadAt 9 t58) (fun t59 _ => 
 CallsH Try.prog 79 #[t47, t53, t59] h_23 (fun t60 h_24 => 
 Hp Try.prog true (Instr.fieldAt 99 x9 1) (fun t61 _ => 
 Hp Try.prog false (storeS 9 t61 t60) (fun _ h_25 => 
 Hp Try.prog false (binS .add 3 (.tmp 44) (.const (.int .i64 1)) k11 (.int .i64 1)) (fun t45 h_26 => 
 X t45 h_26) h_25 ⟨⟩) h_24 ⟨⟩) #[] ⟨⟩) ⟨⟩) h_23 ⟨⟩) #[] ⟨⟩) #[] ⟨⟩) h_23 ⟨⟩) #[] ⟨⟩) h_23 ⟨⟩) #[] ⟨⟩) #[] ⟨⟩) h_23 ⟨⟩) #[] ⟨⟩) h_23 ⟨⟩) #[] ⟨⟩) (
 Hp Try.prog false (Instr.fieldAt 99 x9 2) (fun t62 h_27 => 
 Hp Try.prog false (Instr.loadAt 97 t62) (fun t63 h_28 => 
 Hp Try.prog false (Instr.sliceAt 97 t63 (some n10) none none) (fun t65 h_29 => 
 Hp Try.prog false (Builtin.append_ #[97, 97] 97 #[(.slice none 0 0), t65]) (fun t66 h_30 => 
 Hp Try.prog false (Instr.fieldAt 99 x9 2) (fun t67 h_31 => 
 Hp Try.prog false (storeS 97 t67 t66) (fun _ h_32 => 
 Hp Try.prog true (nilS s0) (fun t69 _ => 
 Hp Try.prog true (Instr.fieldAt 92 t69 0) (fun t70 _ => 
 Hp Try.prog true (Instr.loadAt 90 t70) (fun t71 _ => 
 Hp Try.prog true (Instr.loadAt 99 x9) (fun t73 _ => 
 Hp Try.prog true (Instr.indexAt 90 t71 t16) (fun t74 _ => 
 Hp Try.prog false (storeS 99 t74 t73) (fun _ h_33 => 
 R t24 h_33) h_32 ⟨⟩) #[] ⟨⟩) h_32 ⟨⟩) h_32 ⟨⟩) #[] ⟨⟩) #[] ⟨⟩) h_31 ⟨⟩) h_30 ⟨⟩) h_29 ⟨⟩) h_28 ⟨⟩) h_27 ⟨⟩) h_23 ⟨⟩) ⟨⟩ ⟨⟩) h_22 ⟨⟩) [(.int .i64 0)] h_21 ⟨⟩) h_17 ⟨⟩ ⟨⟩) h_16 ⟨⟩) h_15 ⟨⟩) h_14 ⟨⟩) h_13 ⟨⟩) h_12 ⟨⟩) h_11 ⟨⟩) h_10 ⟨⟩) h_9 ⟨⟩) h_8 ⟨⟩) h_7 ⟨⟩) h_6 ⟨⟩) h_5 ⟨⟩) ⟨⟩) ⟨⟩ ⟨⟩) h_3 ⟨⟩) h_2 ⟨⟩) h_1 ⟨⟩) ⟨⟩

theorem n43_calls {s0 name1 : Value} {R : Value → Heap → Prop} {h : Heap} (H : n43 s0 name1 R h) : CallsH Try.prog 43 #[s0, name1] h R ⟨⟩ :=
 callsH_of_eq Try.follow (.n none .l (.n none .l (.n none .l (.n none .l (.n none .l (.n none .l (.n (some [11]) .l (.n none (.n none .l (.n none (.n (some [12]) .l .l) .l)) .l)))))))) Try.func43 (by kernel_rfl) (by kernel_rfl) (by kernel_rfl) H

/-- palimpsest/palimpsestref06.over -/
def n79 (b0 at1 x2 : Value) (R : Value → Heap → Prop) (h : Heap) : Prop :=
 Hp Try.prog true (Instr.sliceAt 9 b0 none (some at1) none) (fun t9 _ => 
 Hp Try.prog true (binS .add 9 (.tmp 9) (.tmp 10) t9 x2) (fun t11 _ => 
 Hp Try.prog true (Builtin.len_ #[9] 3 #[x2]) (fun t15 _ => 
 Hp Try.prog true (binS .add 2 (.tmp 13) (.tmp 15) at1 t15) (fun t16 _ => 
 Hp Try.prog true (Instr.sliceAt 9 b0 (some t16) none none) (fun t17 _ => 
 Hp Try.prog true (binS .add 9 (.tmp 11) (.tmp 17) t11 t17) (fun t18 _ => 
 R t18 h) #[] ⟨⟩) #[] ⟨⟩) #[] ⟨⟩) #[] ⟨⟩) #[] ⟨⟩) #[] ⟨⟩

theorem n79_calls {b0 at1 x2 : Value} {R : Value → Heap → Prop} {h : Heap} (H : n79 b0 at1 x2 R h) : CallsH Try.prog 79 #[b0, at1, x2] h R ⟨⟩ :=
 callsH_of_eq Try.follow .l Try.func79 (by kernel_rfl) (by kernel_rfl) (by kernel_rfl) H

/-- (*palimpsest/palimpsestref06.Store).find -/
def n82 (s0 name1 : Value) (R : Value → Heap → Prop) (h : Heap) : Prop :=
 CallsH Try.prog 95 #[name1] h (fun t9 h_1 => 
 Hp Try.prog false (Op.unary .not t9) (fun t11 h_2 => 
 CondP t11 (
 R (.tuple #[(.int .i64 0), (.int .i64 2)]) h_2) (
 LoopC 1 (fun (X : Value → Heap → Prop) => fun i7 h_3 =>
 Hp Try.prog false (nilS s0) (fun t14 h_4 => 
 Hp Try.prog false (Instr.fieldAt 92 t14 0) (fun t15 h_5 => 
 Hp Try.prog false (Instr.loadAt 90 t15) (fun t16 h_6 => 
 Hp Try.prog false (Builtin.len_ #[90] 3 #[t16]) (fun t17 h_7 => 
 Hp Try.prog false (binS .lss 3 (.tmp 12) (.tmp 17) i7 t17) (fun t18 h_8 => 
 CondP t18 (
 Hp Try.prog false (nilS s0) (fun t22 h_9 => 
 Hp Try.prog false (Instr.fieldAt 92 t22 0) (fun t23 h_10 => 
 Hp Try.prog false (Instr.loadAt 90 t23) (fun t24 h_11 => 
 Hp Try.prog false (Instr.indexAt 90 t24 i7) (fun t26 h_12 => 
 Hp Try.prog false (Instr.fieldAt 99 t26 0) (fun t27 h_13 => 
 Hp Try.prog false (Instr.loadAt 9 t27) (fun t28 h_14 => 
 Hp Try.prog false (binS .eql 9 (.tmp 28) (.tmp 29) t28 name1) (fun t30 h_15 => 
 CondP t30 (
 R (.tuple #[i7, (.int .i64 0)]) h_15) (
 Hp Try.prog false (binS .add 3 (.tmp 19) (.const (.int .i64 1)) i7 (.int .i64 1)) (fun t20 h_16 => 
 X t20 h_16) h_15 ⟨⟩) ⟨⟩ ⟨⟩) h_14 ⟨⟩) h_13 ⟨⟩) h_12 ⟨⟩) h_11 ⟨⟩) h_10 ⟨⟩) h_9 ⟨⟩) h_8 ⟨⟩) (
 R (.tuple #[(.int .i64 0), (.int .i64 7)]) h_8) ⟨⟩ ⟨⟩) h_7 ⟨⟩) h_6 ⟨⟩) h_5 ⟨⟩) h_4 ⟨⟩) h_3 ⟨⟩) [(.int .i64 0)] h_2 ⟨⟩) ⟨⟩ ⟨⟩) h_1 ⟨⟩) ⟨⟩

theorem n82_calls {s0 name1 : Value} {R : Value → Heap → Prop} {h : Heap} (H : n82 s0 name1 R h) : CallsH Try.prog 82 #[s0, name1] h R ⟨⟩ :=
 callsH_of_eq Try.follow (.n none .l (.n none .l (.n none .l (.n none (.n none .l (.n none (.n (some [8]) .l .l) .l)) .l)))) Try.func82 (by kernel_rfl) (by kernel_rfl) (by kernel_rfl) H

/-- (*palimpsest/palimpsestref06.Store).step -/
def n83 (s0 : Value) (R : Value → Heap → Prop) (h : Heap) : Prop :=
 Hp Try.prog false (nilS s0) (fun t6 h_1 => 
 Hp Try.prog false (Instr.fieldAt 92 t6 2) (fun t7 h_2 => 
 Hp Try.prog false (Instr.loadAt 3 t7) (fun t8 h_3 => 
 Hp Try.prog false (binS .add 3 (.tmp 8) (.const (.int .i64 1)) t8 (.int .i64 1)) (fun t9 h_4 => 
 Hp Try.prog false (nilS s0) (fun t10 h_5 => 
 Hp Try.prog false (Instr.fieldAt 92 t10 2) (fun t11 h_6 => 
 Hp Try.prog false (storeS 3 t11 t9) (fun _ h_7 => 
 Hp Try.prog false (nilS s0) (fun t13 h_8 => 
 Hp Try.prog false (Instr.fieldAt 92 t13 1) (fun t14 h_9 => 
 Hp Try.prog false (Instr.loadAt 41 t14) (fun t15 h_10 => 
 Hp Try.prog false (Builtin.len_ #[41] 3 #[t15]) (fun t16 h_11 => 
 Hp Try.prog false (binS .eql 3 (.tmp 16) (.const (.int .i64 0)) t16 (.int .i64 0)) (fun t17 h_12 => 
 CondP t17 (
 R (.tuple #[(.int .i64 0), (.int .i64 0)]) h_12) (
 Hp Try.prog false (nilS s0) (fun t19 h_13 => 
 Hp Try.prog false (Instr.fieldAt 92 t19 1) (fun t20 h_14 => 
 Hp Try.prog false (Instr.loadAt 41 t20) (fun t21 h_15 => 
 Hp Try.prog false (Instr.indexAt 41 t21 (.int .i64 0)) (fun t22 h_16 => 
 Hp Try.prog false (Instr.loadAt 107 t22) (fun t23 h_17 => 
 Hp Try.prog false (Instr.alloc 107 true undef) (fun f4 h_18 => 
 Hp Try.prog false (storeS 107 f4 t23) (fun _ h_19 => 
 Hp Try.prog false (nilS s0) (fun t26 h_20 => 
 Hp Try.prog false (Instr.fieldAt 92 t26 1) (fun t27 h_21 => 
 Hp Try.prog false (Instr.loadAt 41 t27) (fun t28 h_22 => 
 Hp Try.prog false (Instr.sliceAt 41 t28 (some (.int .i64 1)) none none) (fun t29 h_23 => 
 Hp Try.prog false (nilS s0) (fun t30 h_24 => 
 Hp Try.prog false (Instr.fieldAt 92 t30 1) (fun t31 h_25 => 
 Hp Try.prog false (storeS 41 t31 t29) (fun _ h_26 => 
 Hp Try.prog false (Instr.fieldAt 107 f4 0) (fun t32 h_27 => 
 Hp Try.prog false (Instr.loadAt 105 t32) (fun t33 h_28 => 
 Hp Try.prog false (binS .eql 3 (.tmp 33) (.const (.int .i64 1)) t33 (.int .i64 1)) (fun t35 h_29 => 
 CondP t35 (
 Hp Try.prog true (Instr.fieldAt 107 f4 1) (fun t36 _ => 
 Hp Try.prog true (Instr.loadAt 3 t36) (fun t37 _ => 
 Hp Try.prog true (Builtin.max_ #[3, 3] 3 #[(.int .i64 0), t37]) (fun t38 _ => 
 R (.tuple #[(.int .i64 5), t38]) h_29) #[] ⟨⟩) h_29 ⟨⟩) #[] ⟨⟩) (
 Hp Try.prog false (binS .eql 3 (.tmp 33) (.const (.int .i64 2)) t33 (.int .i64 2)) (fun t40 h_30 => 
 CondP t40 (
 Hp Try.prog true (Instr.fieldAt 107 f4 1) (fun t41 _ => 
 Hp Try.prog true (Instr.loadAt 3 t41) (fun t42 _ => 
 Hp Try.prog true (Builtin.max_ #[3, 3] 3 #[(.int .i64 0), t42]) (fun t43 _ => 
 R (.tuple #[(.int .i64 6), t43]) h_30) #[] ⟨⟩) h_30 ⟨⟩) #[] ⟨⟩) (
 R (.tuple #[(.int .i64 0), (.int .i64 0)]) h_30) ⟨⟩ ⟨⟩) h_29 ⟨⟩) ⟨⟩ ⟨⟩) h_28 ⟨⟩) h_27 ⟨⟩) h_26 ⟨⟩) h_25 ⟨⟩) h_24 ⟨⟩) h_23 ⟨⟩) h_22 ⟨⟩) h_21 ⟨⟩) h_20 ⟨⟩) h_19 ⟨⟩) h_18 ⟨⟩) h_17 ⟨⟩) h_16 ⟨⟩) h_15 ⟨⟩) h_14 ⟨⟩) h_13 ⟨⟩) h_12 ⟨⟩) ⟨⟩ ⟨⟩) h_11 ⟨⟩) h_10 ⟨⟩) h_9 ⟨⟩) h_8 ⟨⟩) h_7 ⟨⟩) h_6 ⟨⟩) h_5 ⟨⟩) h_4 ⟨⟩) h_3 ⟨⟩) h_2 ⟨⟩) h_1 ⟨⟩) h ⟨⟩

theorem n83_calls {s0 : Value} {R : Value → Heap → Prop} {h : Heap} (H : n83 s0 R h) : CallsH Try.prog 83 #[s0] h R ⟨⟩ :=
 callsH_of_eq Try.follow .l Try.func83 (by kernel_rfl) (by kernel_rfl) (by kernel_rfl) H

/-- palimpsest/palimpsestref06.noughts -/
def n84 (n0 : Value) (R : Value → Heap → Prop) (h : Heap) : Prop :=
 Hp Try.prog false (Builtin.max_ #[2, 2] 2 #[(.int .i64 0), n0]) (fun t4 h_1 => 
 Hp Try.prog false (Instr.makeSlice 50 t4 t4) (fun t5 h_2 => 
 Hp Try.prog false (convert 50 9 t5) (fun t6 h_3 => 
 R t6 h_3) h_2 ⟨⟩) h_1 ⟨⟩) h ⟨⟩

theorem n84_calls {n0 : Value} {R : Value → Heap → Prop} {h : Heap} (H : n84 n0 R h) : CallsH Try.prog 84 #[n0] h R ⟨⟩ :=
 callsH_of_eq Try.follow .l Try.func84 (by kernel_rfl) (by kernel_rfl) (by kernel_rfl) H

/-- palimpsest/palimpsestref06.Named -/
def n95 (s0 : Value) (R : Value → Heap → Prop) (h : Heap) : Prop :=
 Hp Try.prog false (Builtin.len_ #[9] 3 #[s0]) (fun t5 h_1 => 
 Hp Try.prog false (binS .lss 3 (.tmp 5) (.const (.int .i64 1)) t5 (.int .i64 1)) (fun t6 h_2 => 
 Join1 (fun k h_3 => guardP t6 false (k s0 h_3) (k undef h_3) ⟨⟩ ⟨⟩) (fun t8 h_4 => 
 Join1 (fun k_1 h_5 => guardP t6 false (Hp Try.prog false (Builtin.len_ #[9] 3 #[t8]) k_1 h_5 ⟨⟩) (k_1 undef h_5) ⟨⟩ ⟨⟩) (fun t9 h_6 => 
 Join1 (fun k_2 h_7 => guardP t6 false (Hp Try.prog false (binS .gtr 3 (.tmp 9) (.const (.int .i64 64)) t9 (.int .i64 64)) k_2 h_7 ⟨⟩) (k_2 undef h_7) ⟨⟩ ⟨⟩) (fun t10 h_8 => 
 Hp Try.prog false (pickS t6 (.bool true) t10) (fun t11 h_9 => 
 CondP t11 (
 R (.bool false) h_9) (
 LoopC 1 (fun (X : Value → Heap → Prop) => fun i3 h_10 =>
 Hp Try.prog false (Builtin.len_ #[9] 3 #[s0]) (fun t14 h_11 => 
 Hp Try.prog false (binS .lss 3 (.tmp 12) (.tmp 14) i3 t14) (fun t15 h_12 => 
 CondP t15 (
 Hp Try.prog false (Instr.index 9 s0 i3) (fun t20 h_13 => 
 Hp Try.prog false (binS .eql 5 (.tmp 20) (.const (.int .u8 0)) t20 (.int .u8 0)) (fun t21 h_14 => 
 CondP t21 (
 R (.bool false) h_14) (
 Hp Try.prog false (binS .add 3 (.tmp 16) (.const (.int .i64 1)) i3 (.int .i64 1)) (fun t17 h_15 => 
 X t17 h_15) h_14 ⟨⟩) ⟨⟩ ⟨⟩) h_13 ⟨⟩) h_12 ⟨⟩) (
 R (.bool true) h_12) ⟨⟩ ⟨⟩) h_11 ⟨⟩) h_10 ⟨⟩) [(.int .i64 0)] h_9 ⟨⟩) ⟨⟩ ⟨⟩) h_8 ⟨⟩) h_6 ⟨⟩ ⟨⟩) h_4 ⟨⟩ ⟨⟩) h_2 ⟨⟩ ⟨⟩) h_1 ⟨⟩) h ⟨⟩

theorem n95_calls {s0 : Value} {R : Value → Heap → Prop} {h : Heap} (H : n95 s0 R h) : CallsH Try.prog 95 #[s0] h R ⟨⟩ :=
 callsH_of_eq Try.follow (.n none .l (.n none .l (.n none (.n none .l (.n none (.n (some [4]) .l .l) .l)) .l))) Try.func95 (by kernel_rfl) (by kernel_rfl) (by kernel_rfl) H

end Go.Proofs.Ytdmcaaojapcbcaa

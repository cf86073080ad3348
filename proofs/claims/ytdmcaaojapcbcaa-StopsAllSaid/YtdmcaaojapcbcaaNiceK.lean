/- Printed by wip/tools/gen.py: the condition of each function, and that a call meets it. -/
import Derived.Test.YtdmcaaojapcbcaaVcFun
import Derived.Test.YtdmcaaojapcbcaaProg
set_option maxRecDepth 100000
set_option linter.unusedVariables false
namespace Go.Proofs.Ytdmcaaojapcbcaa
open Go.Vc

theorem Try.follow : Try.prog.follows .mixedOrders = true := by kernel_rfl

/-- (*palimpsest/store.Store).Pending -/
def n23 (s0 : Value) (R : Value → Heap → Prop) (h : Heap) : Prop :=
 Hp Try.prog false (Instr.alloc 3 true undef) (fun n3 h_1 => 
 Hp Try.prog false (storeS 3 n3 (.int .i64 0)) (fun _ h_2 => 
 JoinN 1 (fun (k : Value → Heap → Prop) h_3 =>
 CallsH Try.prog 25 #[s0] h_3 (fun t7 h_4 => 
 Hp Try.prog false (Builtin.len_ #[48] 3 #[t7]) (fun t8 h_5 => 
 JoinN 1 (fun (k_1 : Value → Heap → Prop) h_6 =>
 LoopC 2 (fun (X : Value → Value → Heap → Prop) => fun D t9 h_7 =>
 Hp Try.prog false (binS .lss 3 (.tmp 9) (.tmp 8) t9 t8) (fun t10 h_8 => 
 CondP t10 (
 JoinN 1 (fun (k_2 : Value → Heap → Prop) h_9 =>
 JoinN 1 (fun (k_3 : Value → Heap → Prop) h_10 =>
 Hp Try.prog false (Instr.indexAt 48 t7 t9) (fun t11 h_11 => 
 Hp Try.prog false (Instr.loadAt 9 t11) (fun t12 h_12 => 
 CallsH Try.prog 27 #[s0, t12] h_12 (fun t15 h_13 => 
 JoinN 1 (fun (k_4 : Value → Heap → Prop) h_14 =>
 RangeC Try.prog none t15 1 D (fun l args bg Nb Jb h_15 =>
 bg (fun h_16 =>
 Hp Try.prog false (Instr.loadAt 3 n3) (fun t17 h_17 => 
 Hp Try.prog false (binS .add 3 (.tmp 17) (.const (.int .i64 1)) t17 (.int .i64 1)) (fun t18 h_18 => 
 Hp Try.prog false (storeS 3 n3 t18) (fun _ h_19 => 
 Nb h_19) h_18 ⟨⟩) h_17 ⟨⟩) h_16 ⟨⟩) h_15)
 (fun D_1 h_20 =>
 k_4 D_1 h_20)
 (fun D_2 h_21 =>
 RetD D_2 h_21 (fun h_22 =>
 R (.int .i64 0) h_22) ⟨⟩)
 (fun id D_3 h_23 => bif Nat.beq id 2 then (k_4 D_3 h_23) else bif Nat.beq id 1 then (k_3 D_3 h_23) else bif Nat.beq id 0 then (k_1 D_3 h_23) else False) h_14 ⟨⟩ ⟨⟩ ⟨⟩ ⟨⟩)
 (fun D_4 h_24 =>
 k_3 D_4 h_24) h_13 ⟨⟩ ⟨⟩) ⟨⟩) h_11 ⟨⟩) h_10 ⟨⟩)
 (fun D_5 h_25 =>
 k_2 D_5 h_25) h_9 ⟨⟩ ⟨⟩)
 (fun D_6 h_26 =>
 Hp Try.prog false (binS .add 3 (.tmp 9) (.const (.int .i64 1)) t9 (.int .i64 1)) (fun t19 h_27 => 
 X D_6 t19 h_27) h_26 ⟨⟩) h_8 ⟨⟩ ⟨⟩) (
 k_1 D h_8) ⟨⟩ ⟨⟩) h_7 ⟨⟩) [(.tuple #[]), (.int .i64 0)] h_6 ⟨⟩)
 (fun D_7 h_28 =>
 k D_7 h_28) h_5 ⟨⟩ ⟨⟩) h_4 ⟨⟩) ⟨⟩)
 (fun D_8 h_29 =>
 Hp Try.prog false (Instr.loadAt 3 n3) (fun t20 h_30 => 
 RetD D_8 h_30 (fun h_31 =>
 R t20 h_31) ⟨⟩) h_29 ⟨⟩) h_2 ⟨⟩ ⟨⟩) h_1 ⟨⟩) h ⟨⟩

theorem n23_calls {s0 : Value} {R : Value → Heap → Prop} {h : Heap} (H : n23 s0 R h) : CallsH Try.prog 23 #[s0] h R ⟨⟩ :=
 callsH_of_eq Try.follow (.n none .l (.n none .l (.n (some [0]) (.n none .l (.n (some [0]) (.n (some [0, 10]) (.n none .l (.n none .l (.n (some [0]) (.n (some [0]) (.n none .l (.n none .l (.n (some [0]) .l .l))) .l) .l))) .l) .l)) .l))) Try.func23 (by kernel_rfl) (by kernel_rfl) (by kernel_rfl) H

/-- (*palimpsest/store.Store).Crash -/
def n24 (s0 picks1 : Value) (R : Value → Heap → Prop) (h : Heap) : Prop :=
 Hp Try.prog false (Instr.box 23 picks1) (fun picks3 h_1 => 
 CallsH Try.prog 53 #[s0] h_1 (fun t16 h_2 => 
 CondP t16 (
 R (.tuple #[(.pointer none), (.int .i64 1)]) h_2) (
 Hp Try.prog false (Instr.loadAt 23 picks3) (fun t18 h_3 => 
 CallsH Try.prog 45 #[t18, (.func (.func 54) #[] #[])] h_3 (fun t19 h_4 => 
 CondP t19 (
 R (.tuple #[(.pointer none), (.int .i64 2)]) h_4) (
 Hp Try.prog false (pure (.func (.func 55) #[] #[picks3])) (fun t20 h_5 => 
 Hp Try.prog false (Instr.makeMap 66 none) (fun t21 h_6 => 
 Hp Try.prog false (Instr.build 68 #[(0, t21)]) (fun t22 h_7 => 
 Hp Try.prog false (Instr.box 68 t22) (fun t23 h_8 => 
 CallsH Try.prog 25 #[s0] h_8 (fun t25 h_9 => 
 Hp Try.prog false (Builtin.len_ #[48] 3 #[t25]) (fun t26 h_10 => 
 LoopC 1 (fun (X : Value → Heap → Prop) => fun t27 h_11 =>
 Hp Try.prog false (binS .lss 3 (.tmp 27) (.tmp 26) t27 t26) (fun t28 h_12 => 
 CondP t28 (
 Hp Try.prog false (Instr.indexAt 48 t25 t27) (fun t29 h_13 => 
 Hp Try.prog false (Instr.loadAt 9 t29) (fun t30 h_14 => 
 Hp Try.prog false (nilS s0) (fun t32 h_15 => 
 Hp Try.prog false (Instr.fieldAt 68 t32 0) (fun t33 h_16 => 
 Hp Try.prog false (Instr.loadAt 66 t33) (fun t34 h_17 => 
 Hp Try.prog false (Instr.lookup 66 t34 t30 false) (fun t36 h_18 => 
 Hp Try.prog false (nilS t36) (fun t38 h_19 => 
 Hp Try.prog false (Instr.fieldAt 115 t38 0) (fun t39 h_20 => 
 Hp Try.prog false (Instr.loadAt 50 t39) (fun t40 h_21 => 
 CallsH Try.prog 56 #[t40] h_21 (fun t41 h_22 => 
 Hp Try.prog false (nilS t36) (fun t43 h_23 => 
 Hp Try.prog false (Instr.fieldAt 115 t43 1) (fun t44 h_24 => 
 Hp Try.prog false (Instr.loadAt 113 t44) (fun t45 h_25 => 
 Hp Try.prog false (Builtin.len_ #[113] 3 #[t45]) (fun t46 h_26 => 
 LoopC 1 (fun (X_1 : Value → Heap → Prop) => fun t47 h_27 =>
 Hp Try.prog false (binS .lss 3 (.tmp 47) (.tmp 46) t47 t46) (fun t48 h_28 => 
 CondP t48 (
 JoinN 0 (fun (k : Heap → Prop) h_29 =>
 JoinN 0 (fun (k_1 : Heap → Prop) h_30 =>
 Hp Try.prog false (Instr.indexAt 113 t45 t47) (fun t49 h_31 => 
 Hp Try.prog false (Instr.loadAt 117 t49) (fun t50 h_32 => 
 Hp Try.prog false (Instr.alloc 117 true undef) (fun p13 h_33 => 
 Hp Try.prog false (storeS 117 p13 t50) (fun _ h_34 => 
 InvokeH Try.prog t20 #[] h_34 (fun t52 h_35 => 
 CondP t52 (
 Hp Try.prog true (Instr.fieldAt 117 p13 0) (fun t54 _ => 
 Hp Try.prog true (Instr.loadAt 2 t54) (fun t55 _ => 
 Hp Try.prog true (Instr.sliceAt 50 t41 (some t55) none none) (fun t56 _ => 
 Hp Try.prog true (Instr.fieldAt 117 p13 1) (fun t57 _ => 
 Hp Try.prog true (Instr.loadAt 50 t57) (fun t58 _ => 
 Hp Try.prog false (Builtin.copy_ #[50, 50] 3 #[t56, t58]) (fun t59 h_36 => 
 k_1 h_36) h_35 ⟨⟩) h_35 ⟨⟩) #[] ⟨⟩) #[] ⟨⟩) h_35 ⟨⟩) #[] ⟨⟩) (
 k_1 h_35) ⟨⟩ ⟨⟩) ⟨⟩) h_33 ⟨⟩) h_32 ⟨⟩) h_31 ⟨⟩) h_30 ⟨⟩)
 (fun h_37 =>
 k h_37) h_29 ⟨⟩ ⟨⟩)
 (fun h_38 =>
 Hp Try.prog false (binS .add 3 (.tmp 47) (.const (.int .i64 1)) t47 (.int .i64 1)) (fun t60 h_39 => 
 X_1 t60 h_39) h_38 ⟨⟩) h_28 ⟨⟩ ⟨⟩) (
 Hp Try.prog true (nilS t23) (fun t62 _ => 
 Hp Try.prog true (Instr.fieldAt 68 t62 0) (fun t63 _ => 
 Hp Try.prog true (Instr.loadAt 66 t63) (fun t64 _ => 
 CallsH Try.prog 56 #[t41] h_28 (fun t68 h_40 => Hp Try.prog true (Instr.loadAt 66 t63) (fun u _ => u = t64) h_40 ⟨⟩ ∧ 
 Hp Try.prog true (Instr.build 115 #[(0, t41), (2, t68)]) (fun t69 _ => 
 Hp Try.prog false (Instr.box 115 t69) (fun t70 h_41 => Hp Try.prog true (Instr.loadAt 66 t63) (fun u _ => u = t64) h_41 ⟨⟩ ∧ 
 Hp Try.prog false (unitS (Instr.mapUpdate 66 t64 t30 t70)) (fun _ h_42 => 
 Hp Try.prog false (binS .add 3 (.tmp 27) (.const (.int .i64 1)) t27 (.int .i64 1)) (fun t71 h_43 => 
 X t71 h_43) h_42 ⟨⟩) h_41 ⟨⟩) h_40 ⟨⟩) #[] ⟨⟩) ⟨⟩) h_28 ⟨⟩) #[] ⟨⟩) #[] ⟨⟩) ⟨⟩ ⟨⟩) h_27 ⟨⟩) [(.int .i64 0)] h_26 ⟨⟩) h_25 ⟨⟩) h_24 ⟨⟩) h_23 ⟨⟩) h_22 ⟨⟩) ⟨⟩) h_20 ⟨⟩) h_19 ⟨⟩) h_18 ⟨⟩) h_17 ⟨⟩) h_16 ⟨⟩) h_15 ⟨⟩) h_14 ⟨⟩) h_13 ⟨⟩) h_12 ⟨⟩) (
 R (.tuple #[t23, (.int .i64 0)]) h_12) ⟨⟩ ⟨⟩) h_11 ⟨⟩) [(.int .i64 0)] h_10 ⟨⟩) h_9 ⟨⟩) ⟨⟩) h_7 ⟨⟩) h_6 ⟨⟩) h_5 ⟨⟩) h_4 ⟨⟩) ⟨⟩ ⟨⟩) ⟨⟩) h_2 ⟨⟩) ⟨⟩ ⟨⟩) ⟨⟩) h ⟨⟩

theorem n24_calls {s0 picks1 : Value} {R : Value → Heap → Prop} {h : Heap} (H : n24 s0 picks1 R h) : CallsH Try.prog 24 #[s0, picks1] h R ⟨⟩ :=
 callsH_of_eq Try.follow (.n none .l (.n none .l (.n none .l (.n none .l (.n none (.n none .l (.n none (.n (some [28]) (.n none .l (.n none .l (.n none (.n none (.n none .l (.n none .l (.n none .l (.n none (.n none .l (.n none (.n (some [48]) (.n none .l (.n none .l (.n (some []) (.n (some []) .l .l) .l))) .l) .l)) .l)))) .l) .l))) .l) .l)) .l))))) Try.func24 (by kernel_rfl) (by kernel_rfl) (by kernel_rfl) H

/-- (*palimpsest/store.Store).Names -/
def n25 (s0 : Value) (R : Value → Heap → Prop) (h : Heap) : Prop :=
 CallsH Try.prog 53 #[s0] h (fun t4 h_1 => 
 CondP t4 (
 R (.slice none 0 0) h_1) (
 Hp Try.prog false (nilS s0) (fun t6 h_2 => 
 Hp Try.prog false (Instr.fieldAt 68 t6 0) (fun t7 h_3 => 
 Hp Try.prog false (Instr.loadAt 66 t7) (fun t8 h_4 => 
 CallsH Try.prog 58 #[t8] h_4 (fun t9 h_5 => 
 CallsH Try.prog 57 #[t9] h_5 (fun t10 h_6 => 
 R t10 h_6) ⟨⟩) ⟨⟩) h_3 ⟨⟩) h_2 ⟨⟩) h_1 ⟨⟩) ⟨⟩ ⟨⟩) ⟨⟩

theorem n25_calls {s0 : Value} {R : Value → Heap → Prop} {h : Heap} (H : n25 s0 R h) : CallsH Try.prog 25 #[s0] h R ⟨⟩ :=
 callsH_of_eq Try.follow .l Try.func25 (by kernel_rfl) (by kernel_rfl) (by kernel_rfl) H

/-- (*palimpsest/store.Store).Read -/
def n26 (s0 name1 at2 n3 : Value) (R : Value → Heap → Prop) (h : Heap) : Prop :=
 CallsH Try.prog 59 #[s0, name1] h (fun t16 h_1 => 
 Hp Try.prog false (Instr.extract t16 0) (fun t17 h_2 => 
 Hp Try.prog false (Instr.extract t16 1) (fun t18 h_3 => 
 Hp Try.prog false (binS .neq 31 (.tmp 20) (.const (.int .i64 0)) t18 (.int .i64 0)) (fun t21 h_4 => 
 CondP t21 (
 R (.tuple #[(.slice none 0 0), t18]) h_4) (
 Hp Try.prog false (binS .lss 2 (.tmp 24) (.const (.int .i64 0)) at2 (.int .i64 0)) (fun t25 h_5 => 
 Join1 (fun k h_6 => guardP t25 false (k at2 h_6) (k undef h_6) ⟨⟩ ⟨⟩) (fun t27 h_7 => 
 Join1 (fun k_1 h_8 => guardP t25 false (k_1 t17 h_8) (k_1 undef h_8) ⟨⟩ ⟨⟩) (fun t28 h_9 => 
 Join1 (fun k_2 h_10 => guardP t25 false (Hp Try.prog false (nilS t28) k_2 h_10 ⟨⟩) (k_2 undef h_10) ⟨⟩ ⟨⟩) (fun t29 h_11 => 
 Join1 (fun k_3 h_12 => guardP t25 false (Hp Try.prog false (Instr.fieldAt 115 t29 2) k_3 h_12 ⟨⟩) (k_3 undef h_12) ⟨⟩ ⟨⟩) (fun t30 h_13 => 
 Join1 (fun k_4 h_14 => guardP t25 false (Hp Try.prog false (Instr.loadAt 50 t30) k_4 h_14 ⟨⟩) (k_4 undef h_14) ⟨⟩ ⟨⟩) (fun t31 h_15 => 
 Join1 (fun k_5 h_16 => guardP t25 false (Hp Try.prog false (Builtin.len_ #[50] 3 #[t31]) k_5 h_16 ⟨⟩) (k_5 undef h_16) ⟨⟩ ⟨⟩) (fun t32 h_17 => 
 Join1 (fun k_6 h_18 => guardP t25 false (Hp Try.prog false (binS .gtr 2 (.tmp 27) (.tmp 32) t27 t32) k_6 h_18 ⟨⟩) (k_6 undef h_18) ⟨⟩ ⟨⟩) (fun t33 h_19 => 
 Hp Try.prog false (pickS t25 (.bool true) t33) (fun t34 h_20 => 
 Join1 (fun k_7 h_21 => guardP t34 false (k_7 n3 h_21) (k_7 undef h_21) ⟨⟩ ⟨⟩) (fun t36 h_22 => 
 Join1 (fun k_8 h_23 => guardP t34 false (Hp Try.prog false (binS .lss 3 (.tmp 36) (.const (.int .i64 0)) t36 (.int .i64 0)) k_8 h_23 ⟨⟩) (k_8 undef h_23) ⟨⟩ ⟨⟩) (fun t37 h_24 => 
 Hp Try.prog false (pickS t34 (.bool true) t37) (fun t38 h_25 => 
 CondP t38 (
 R (.tuple #[(.slice none 0 0), (.int .i64 4)]) h_25) (
 Hp Try.prog false (nilS t17) (fun t40 h_26 => 
 Hp Try.prog false (Instr.fieldAt 115 t40 2) (fun t41 h_27 => 
 Hp Try.prog false (Instr.loadAt 50 t41) (fun t42 h_28 => 
 Hp Try.prog false (Instr.sliceAt 50 t42 (some at2) none none) (fun t44 h_29 => 
 Hp Try.prog false (Builtin.len_ #[50] 3 #[t44]) (fun t48 h_30 => 
 Hp Try.prog false (Builtin.min_ #[3, 3] 3 #[n3, t48]) (fun t49 h_31 => 
 Hp Try.prog false (Instr.sliceAt 50 t44 none (some t49) none) (fun t50 h_32 => 
 CallsH Try.prog 56 #[t50] h_32 (fun t51 h_33 => 
 R (.tuple #[t51, (.int .i64 0)]) h_33) ⟨⟩) h_31 ⟨⟩) h_30 ⟨⟩) h_29 ⟨⟩) h_28 ⟨⟩) h_27 ⟨⟩) h_26 ⟨⟩) h_25 ⟨⟩) ⟨⟩ ⟨⟩) h_24 ⟨⟩) h_22 ⟨⟩ ⟨⟩) h_20 ⟨⟩ ⟨⟩) h_19 ⟨⟩) h_17 ⟨⟩ ⟨⟩) h_15 ⟨⟩ ⟨⟩) h_13 ⟨⟩ ⟨⟩) h_11 ⟨⟩ ⟨⟩) h_9 ⟨⟩ ⟨⟩) h_7 ⟨⟩ ⟨⟩) h_5 ⟨⟩ ⟨⟩) h_4 ⟨⟩) ⟨⟩ ⟨⟩) h_3 ⟨⟩) h_2 ⟨⟩) h_1 ⟨⟩) ⟨⟩

theorem n26_calls {s0 name1 at2 n3 : Value} {R : Value → Heap → Prop} {h : Heap} (H : n26 s0 name1 at2 n3 R h) : CallsH Try.prog 26 #[s0, name1, at2, n3] h R ⟨⟩ :=
 callsH_of_eq Try.follow .l Try.func26 (by kernel_rfl) (by kernel_rfl) (by kernel_rfl) H

/-- (*palimpsest/store.Store).Pieces -/
def n27 (s0 name1 : Value) (R : Value → Heap → Prop) (h : Heap) : Prop :=
 JoinN 1 (fun (k : Value → Heap → Prop) h_1 =>
 CallsH Try.prog 59 #[s0, name1] h_1 (fun t13 h_2 => 
 Hp Try.prog false (Instr.extract t13 0) (fun t14 h_3 => 
 Hp Try.prog false (Instr.extract t13 1) (fun t15 h_4 => 
 Hp Try.prog false (binS .eql 31 (.tmp 16) (.const (.int .i64 0)) t15 (.int .i64 0)) (fun t17 h_5 => 
 CondP t17 (
 Hp Try.prog false (nilS t14) (fun t19 h_6 => 
 Hp Try.prog false (Instr.fieldAt 115 t19 1) (fun t20 h_7 => 
 Hp Try.prog false (Instr.loadAt 113 t20) (fun t21 h_8 => 
 Hp Try.prog false (Builtin.len_ #[113] 3 #[t21]) (fun t22 h_9 => 
 LoopC 2 (fun (X : Value → Value → Heap → Prop) => fun l5 t23 h_10 =>
 Hp Try.prog false (binS .lss 3 (.tmp 23) (.tmp 22) t23 t22) (fun t24 h_11 => 
 CondP t24 (
 Hp Try.prog false (Instr.indexAt 113 t21 t23) (fun t25 h_12 => 
 Hp Try.prog false (Instr.loadAt 117 t25) (fun t26 h_13 => 
 Hp Try.prog false (Instr.alloc 117 true undef) (fun p9 h_14 => 
 Hp Try.prog false (storeS 117 p9 t26) (fun _ h_15 => 
 Hp Try.prog false (Instr.fieldAt 117 p9 0) (fun t28 h_16 => 
 Hp Try.prog false (Instr.loadAt 2 t28) (fun t29 h_17 => 
 Hp Try.prog false (Instr.fieldAt 117 p9 1) (fun t30 h_18 => 
 Hp Try.prog false (Instr.loadAt 50 t30) (fun t31 h_19 => 
 Hp Try.prog false (Builtin.len_ #[50] 3 #[t31]) (fun t32 h_20 => 
 Hp Try.prog false (Instr.build 58 #[(0, t29), (1, t32)]) (fun t33 h_21 => 
 Hp Try.prog false (Instr.buildSlice 124 1 #[(0, t33)]) (fun t34 h_22 => 
 Hp Try.prog false (Builtin.append_ #[124, 124] 124 #[l5, t34]) (fun t35 h_23 => 
 Hp Try.prog false (binS .add 3 (.tmp 23) (.const (.int .i64 1)) t23 (.int .i64 1)) (fun t36 h_24 => 
 X t35 t36 h_24) h_23 ⟨⟩) h_22 ⟨⟩) h_21 ⟨⟩) h_20 ⟨⟩) h_19 ⟨⟩) h_18 ⟨⟩) h_17 ⟨⟩) h_16 ⟨⟩) h_15 ⟨⟩) h_14 ⟨⟩) h_13 ⟨⟩) h_12 ⟨⟩) h_11 ⟨⟩) (
 k l5 h_11) ⟨⟩ ⟨⟩) h_10 ⟨⟩) [(.slice none 0 0), (.int .i64 0)] h_9 ⟨⟩) h_8 ⟨⟩) h_7 ⟨⟩) h_6 ⟨⟩) h_5 ⟨⟩) (
 k (.slice none 0 0) h_5) ⟨⟩ ⟨⟩) h_4 ⟨⟩) h_3 ⟨⟩) h_2 ⟨⟩) ⟨⟩)
 (fun l5_1 h_25 =>
 CallsH Try.prog 60 #[l5_1] h_25 (fun t38 h_26 => 
 R t38 h_26) ⟨⟩) h ⟨⟩ ⟨⟩

theorem n27_calls {s0 name1 : Value} {R : Value → Heap → Prop} {h : Heap} (H : n27 s0 name1 R h) : CallsH Try.prog 27 #[s0, name1] h R ⟨⟩ :=
 callsH_of_eq Try.follow (.n none .l (.n none .l (.n (some [6]) (.n none .l (.n none .l (.n none (.n none .l (.n none (.n (some [6, 24]) .l .l) .l)) .l))) .l))) Try.func27 (by kernel_rfl) (by kernel_rfl) (by kernel_rfl) H

/-- (*palimpsest/store.Store).Flush -/
def n28 (s0 name1 : Value) (R : Value → Heap → Prop) (h : Heap) : Prop :=
 CallsH Try.prog 59 #[s0, name1] h (fun t14 h_1 => 
 Hp Try.prog false (Instr.extract t14 0) (fun t15 h_2 => 
 Hp Try.prog false (Instr.extract t14 1) (fun t16 h_3 => 
 Hp Try.prog false (binS .neq 31 (.tmp 17) (.const (.int .i64 0)) t16 (.int .i64 0)) (fun t18 h_4 => 
 CondP t18 (
 R t16 h_4) (
 CallsH Try.prog 61 #[s0] h_4 (fun t22 h_5 => 
 Hp Try.prog false (Instr.extract t22 0) (fun t23 h_6 => 
 Hp Try.prog false (Instr.extract t22 1) (fun t24 h_7 => 
 Hp Try.prog false (nilS t15) (fun t26 h_8 => 
 Hp Try.prog false (Instr.fieldAt 115 t26 1) (fun t27 h_9 => 
 Hp Try.prog false (Instr.loadAt 113 t27) (fun t28 h_10 => 
 Hp Try.prog false (Builtin.len_ #[113] 3 #[t28]) (fun t29 h_11 => 
 JoinN 1 (fun (k : Value → Heap → Prop) h_12 =>
 Hp Try.prog false (binS .neq 31 (.tmp 30) (.const (.int .i64 0)) t23 (.int .i64 0)) (fun t31 h_13 => 
 CondP t31 (
 Hp Try.prog false (Builtin.min_ #[3, 3] 3 #[t29, t24]) (fun t34 h_14 => 
 k t34 h_14) h_13 ⟨⟩) (
 k t29 h_13) ⟨⟩ ⟨⟩) h_12 ⟨⟩)
 (fun n8 h_15 =>
 Hp Try.prog false (nilS t15) (fun t36 h_16 => 
 Hp Try.prog false (Instr.fieldAt 115 t36 1) (fun t37 h_17 => 
 Hp Try.prog false (Instr.loadAt 113 t37) (fun t38 h_18 => 
 Hp Try.prog false (Instr.sliceAt 113 t38 none (some n8) none) (fun t40 h_19 => 
 Hp Try.prog false (Builtin.len_ #[113] 3 #[t40]) (fun t41 h_20 => 
 LoopC 1 (fun (X : Value → Heap → Prop) => fun t42 h_21 =>
 Hp Try.prog false (binS .lss 3 (.tmp 42) (.tmp 41) t42 t41) (fun t43 h_22 => 
 CondP t43 (
 Hp Try.prog false (Instr.indexAt 113 t40 t42) (fun t44 h_23 => 
 Hp Try.prog false (Instr.loadAt 117 t44) (fun t45 h_24 => 
 Hp Try.prog false (Instr.alloc 117 true undef) (fun p10 h_25 => 
 Hp Try.prog false (storeS 117 p10 t45) (fun _ h_26 => 
 Hp Try.prog true (nilS t15) (fun t47 _ => 
 Hp Try.prog true (Instr.fieldAt 115 t47 0) (fun t48 _ => 
 Hp Try.prog true (Instr.loadAt 50 t48) (fun t49 _ => 
 Hp Try.prog true (Instr.fieldAt 117 p10 0) (fun t50 _ => 
 Hp Try.prog true (Instr.loadAt 2 t50) (fun t51 _ => 
 Hp Try.prog true (Instr.sliceAt 50 t49 (some t51) none none) (fun t52 _ => 
 Hp Try.prog true (Instr.fieldAt 117 p10 1) (fun t53 _ => 
 Hp Try.prog true (Instr.loadAt 50 t53) (fun t54 _ => 
 Hp Try.prog false (Builtin.copy_ #[50, 50] 3 #[t52, t54]) (fun t55 h_27 => 
 Hp Try.prog false (binS .add 3 (.tmp 42) (.const (.int .i64 1)) t42 (.int .i64 1)) (fun t56 h_28 => 
 X t56 h_28) h_27 ⟨⟩) h_26 ⟨⟩) h_26 ⟨⟩) #[] ⟨⟩) #[] ⟨⟩) h_26 ⟨⟩) #[] ⟨⟩) h_26 ⟨⟩) #[] ⟨⟩) #[] ⟨⟩) h_25 ⟨⟩) h_24 ⟨⟩) h_23 ⟨⟩) h_22 ⟨⟩) (
 Hp Try.prog false (nilS t15) (fun t59 h_29 => 
 Hp Try.prog false (Instr.fieldAt 115 t59 1) (fun t60 h_30 => 
 Hp Try.prog false (Instr.loadAt 113 t60) (fun t61 h_31 => 
 Hp Try.prog false (Instr.sliceAt 113 t61 (some n8) none none) (fun t63 h_32 => 
 CallsH Try.prog 62 #[t63] h_32 (fun t64 h_33 => 
 Hp Try.prog false (nilS t15) (fun t65 h_34 => 
 Hp Try.prog false (Instr.fieldAt 115 t65 1) (fun t66 h_35 => 
 Hp Try.prog false (storeS 113 t66 t64) (fun _ h_36 => 
 R t23 h_36) h_35 ⟨⟩) h_34 ⟨⟩) h_33 ⟨⟩) ⟨⟩) h_31 ⟨⟩) h_30 ⟨⟩) h_29 ⟨⟩) h_22 ⟨⟩) ⟨⟩ ⟨⟩) h_21 ⟨⟩) [(.int .i64 0)] h_20 ⟨⟩) h_19 ⟨⟩) h_18 ⟨⟩) h_17 ⟨⟩) h_16 ⟨⟩) h_15 ⟨⟩) h_11 ⟨⟩ ⟨⟩) h_10 ⟨⟩) h_9 ⟨⟩) h_8 ⟨⟩) h_7 ⟨⟩) h_6 ⟨⟩) h_5 ⟨⟩) ⟨⟩) ⟨⟩ ⟨⟩) h_3 ⟨⟩) h_2 ⟨⟩) h_1 ⟨⟩) ⟨⟩

theorem n28_calls {s0 name1 : Value} {R : Value → Heap → Prop} {h : Heap} (H : n28 s0 name1 R h) : CallsH Try.prog 28 #[s0, name1] h R ⟨⟩ :=
 callsH_of_eq Try.follow (.n none .l (.n none .l (.n none .l (.n none .l (.n none .l (.n (some [9]) .l (.n none (.n none .l (.n none (.n (some [43]) .l .l) .l)) .l))))))) Try.func28 (by kernel_rfl) (by kernel_rfl) (by kernel_rfl) H

/-- (*palimpsest/store.Store).Same -/
def n29 (s0 o1 : Value) (R : Value → Heap → Prop) (h : Heap) : Prop :=
 CallsH Try.prog 53 #[s0] h (fun t6 h_1 => 
 Join1 (fun k h_2 => guardP t6 false (k o1 h_2) (k undef h_2) ⟨⟩ ⟨⟩) (fun t8 h_3 => 
 Join1 (fun k_1 h_4 => guardP t6 false (CallsH Try.prog 53 #[t8] h_4 k_1 ⟨⟩) (k_1 undef h_4) ⟨⟩ ⟨⟩) (fun t9 h_5 => 
 Hp Try.prog false (pickS t6 (.bool true) t9) (fun t10 h_6 => 
 CondP t10 (
 CallsH Try.prog 53 #[s0] h_6 (fun t12 h_7 => 
 Join1 (fun k_2 h_8 => guardP t12 true (k_2 o1 h_8) (k_2 undef h_8) ⟨⟩ ⟨⟩) (fun t14 h_9 => 
 Join1 (fun k_3 h_10 => guardP t12 true (CallsH Try.prog 53 #[t14] h_10 k_3 ⟨⟩) (k_3 undef h_10) ⟨⟩ ⟨⟩) (fun t15 h_11 => 
 Hp Try.prog false (pickS t12 t15 (.bool false)) (fun t16 h_12 => 
 R t16 h_12) h_11 ⟨⟩) h_9 ⟨⟩ ⟨⟩) h_7 ⟨⟩ ⟨⟩) ⟨⟩) (
 Hp Try.prog true (nilS s0) (fun t18 _ => 
 Hp Try.prog true (Instr.fieldAt 68 t18 0) (fun t19 _ => 
 Hp Try.prog true (Instr.loadAt 66 t19) (fun t20 _ => 
 Hp Try.prog true (nilS o1) (fun t22 _ => 
 Hp Try.prog true (Instr.fieldAt 68 t22 0) (fun t23 _ => 
 Hp Try.prog true (Instr.loadAt 66 t23) (fun t24 _ => 
 CallsH Try.prog 63 #[t20, t24, (.func (.func 64) #[] #[])] h_6 (fun t25 h_13 => 
 R t25 h_13) ⟨⟩) h_6 ⟨⟩) #[] ⟨⟩) #[] ⟨⟩) h_6 ⟨⟩) #[] ⟨⟩) #[] ⟨⟩) ⟨⟩ ⟨⟩) h_5 ⟨⟩) h_3 ⟨⟩ ⟨⟩) h_1 ⟨⟩ ⟨⟩) ⟨⟩

theorem n29_calls {s0 o1 : Value} {R : Value → Heap → Prop} {h : Heap} (H : n29 s0 o1 R h) : CallsH Try.prog 29 #[s0, o1] h R ⟨⟩ :=
 callsH_of_eq Try.follow .l Try.func29 (by kernel_rfl) (by kernel_rfl) (by kernel_rfl) H

/-- (*palimpsest/store.Store).Create -/
def n33 (s0 name1 : Value) (R : Value → Heap → Prop) (h : Heap) : Prop :=
 CallsH Try.prog 77 #[s0, name1] h (fun t12 h_1 => 
 Hp Try.prog false (binS .neq 31 (.tmp 13) (.const (.int .i64 0)) t12 (.int .i64 0)) (fun t14 h_2 => 
 CondP t14 (
 R t12 h_2) (
 Hp Try.prog false (nilS s0) (fun t18 h_3 => 
 Hp Try.prog false (Instr.fieldAt 68 t18 0) (fun t19 h_4 => 
 Hp Try.prog false (Instr.loadAt 66 t19) (fun t20 h_5 => 
 Hp Try.prog false (Instr.lookup 66 t20 name1 true) (fun t22 h_6 => 
 Hp Try.prog false (Instr.extract t22 0) (fun t23 h_7 => 
 Hp Try.prog false (Instr.extract t22 1) (fun t24 h_8 => 
 CondP t24 (
 R (.int .i64 8) h_8) (
 Hp Try.prog false (nilS s0) (fun t27 h_9 => 
 Hp Try.prog false (Instr.fieldAt 68 t27 0) (fun t28 h_10 => 
 Hp Try.prog false (Instr.loadAt 66 t28) (fun t29 h_11 => 
 Hp Try.prog false (Builtin.len_ #[66] 3 #[t29]) (fun t30 h_12 => 
 Hp Try.prog false (binS .geq 3 (.tmp 30) (.const (.int .i64 256)) t30 (.int .i64 256)) (fun t31 h_13 => 
 CondP t31 (
 R (.int .i64 6) h_13) (
 CallsH Try.prog 61 #[s0] h_13 (fun t34 h_14 => 
 Hp Try.prog false (Instr.extract t34 0) (fun t35 h_15 => 
 Hp Try.prog false (Instr.extract t34 1) (fun t36 h_16 => 
 Hp Try.prog false (binS .neq 31 (.tmp 37) (.const (.int .i64 0)) t35 (.int .i64 0)) (fun t38 h_17 => 
 CondP t38 (
 R t35 h_17) (
 Hp Try.prog false (nilS s0) (fun t41 h_18 => 
 Hp Try.prog false (Instr.fieldAt 68 t41 0) (fun t42 h_19 => 
 Hp Try.prog false (Instr.loadAt 66 t42) (fun t43 h_20 => 
 Hp Try.prog false (Instr.build 115 #[]) (fun t45 h_21 => 
 Hp Try.prog false (Instr.box 115 t45) (fun t46 h_22 => 
 Hp Try.prog false (unitS (Instr.mapUpdate 66 t43 name1 t46)) (fun _ h_23 => 
 R (.int .i64 0) h_23) h_22 ⟨⟩) h_21 ⟨⟩) h_20 ⟨⟩) h_19 ⟨⟩) h_18 ⟨⟩) h_17 ⟨⟩) ⟨⟩ ⟨⟩) h_16 ⟨⟩) h_15 ⟨⟩) h_14 ⟨⟩) ⟨⟩) ⟨⟩ ⟨⟩) h_12 ⟨⟩) h_11 ⟨⟩) h_10 ⟨⟩) h_9 ⟨⟩) h_8 ⟨⟩) ⟨⟩ ⟨⟩) h_7 ⟨⟩) h_6 ⟨⟩) h_5 ⟨⟩) h_4 ⟨⟩) h_3 ⟨⟩) h_2 ⟨⟩) ⟨⟩ ⟨⟩) h_1 ⟨⟩) ⟨⟩

theorem n33_calls {s0 name1 : Value} {R : Value → Heap → Prop} {h : Heap} (H : n33 s0 name1 R h) : CallsH Try.prog 33 #[s0, name1] h R ⟨⟩ :=
 callsH_of_eq Try.follow .l Try.func33 (by kernel_rfl) (by kernel_rfl) (by kernel_rfl) H

/-- (*palimpsest/store.Store).Write -/
def n34 (s0 name1 at2 b3 : Value) (R : Value → Heap → Prop) (h : Heap) : Prop :=
 CallsH Try.prog 59 #[s0, name1] h (fun t16 h_1 => 
 Hp Try.prog false (Instr.extract t16 0) (fun t17 h_2 => 
 Hp Try.prog false (Instr.extract t16 1) (fun t18 h_3 => 
 Hp Try.prog false (binS .neq 31 (.tmp 20) (.const (.int .i64 0)) t18 (.int .i64 0)) (fun t21 h_4 => 
 CondP t21 (
 R t18 h_4) (
 Hp Try.prog false (binS .lss 2 (.tmp 24) (.const (.int .i64 0)) at2 (.int .i64 0)) (fun t25 h_5 => 
 CondP t25 (
 R (.int .i64 4) h_5) (
 Hp Try.prog false (Builtin.len_ #[50] 3 #[b3]) (fun t28 h_6 => 
 Hp Try.prog false (binS .gtr 3 (.tmp 28) (.const (.int .i64 0)) t28 (.int .i64 0)) (fun t29 h_7 => 
 Join1 (fun k h_8 => guardP t29 true (k at2 h_8) (k undef h_8) ⟨⟩ ⟨⟩) (fun t31 h_9 => 
 Join1 (fun k_1 h_10 => guardP t29 true (Hp Try.prog false (binS .gtr 2 (.tmp 31) (.const (.int .i64 268435456)) t31 (.int .i64 268435456)) k_1 h_10 ⟨⟩) (k_1 undef h_10) ⟨⟩ ⟨⟩) (fun t32 h_11 => 
 Join1 (fun k_2 h_12 => guardP t29 true (k_2 t32 h_12) (k_2 undef h_12) ⟨⟩ ⟨⟩) (fun t33 h_13 => 
 Join1 (fun k_3 h_14 => guardP t33 false (k_3 b3 h_14) (k_3 undef h_14) ⟨⟩ ⟨⟩) (fun t34 h_15 => 
 Join1 (fun k_4 h_16 => guardP t33 false (Hp Try.prog false (Builtin.len_ #[50] 3 #[t34]) k_4 h_16 ⟨⟩) (k_4 undef h_16) ⟨⟩ ⟨⟩) (fun t35 h_17 => 
 Join1 (fun k_5 h_18 => guardP t33 false (k_5 at2 h_18) (k_5 undef h_18) ⟨⟩ ⟨⟩) (fun t36 h_19 => 
 Join1 (fun k_6 h_20 => guardP t33 false (Hp Try.prog false (binS .sub 2 (.const (.int .i64 268435456)) (.tmp 36) (.int .i64 268435456) t36) k_6 h_20 ⟨⟩) (k_6 undef h_20) ⟨⟩ ⟨⟩) (fun t37 h_21 => 
 Join1 (fun k_7 h_22 => guardP t33 false (Hp Try.prog false (binS .gtr 2 (.tmp 35) (.tmp 37) t35 t37) k_7 h_22 ⟨⟩) (k_7 undef h_22) ⟨⟩ ⟨⟩) (fun t38 h_23 => 
 Join1 (fun k_8 h_24 => guardP t29 true (Hp Try.prog false (pickS t33 (.bool true) t38) k_8 h_24 ⟨⟩) (k_8 undef h_24) ⟨⟩ ⟨⟩) (fun t39 h_25 => 
 Hp Try.prog false (pickS t29 t39 (.bool false)) (fun t40 h_26 => 
 CondP t40 (
 R (.int .i64 6) h_26) (
 CallsH Try.prog 61 #[s0] h_26 (fun t43 h_27 => 
 Hp Try.prog false (Instr.extract t43 0) (fun t44 h_28 => 
 Hp Try.prog false (Instr.extract t43 1) (fun t45 h_29 => 
 LoopC 3 (fun (X : Value → Value → Value → Heap → Prop) => fun at2_1 b3_1 keep11 h_30 =>
 Hp Try.prog false (Builtin.len_ #[50] 3 #[b3_1]) (fun t47 h_31 => 
 Hp Try.prog false (binS .gtr 3 (.tmp 47) (.const (.int .i64 0)) t47 (.int .i64 0)) (fun t48 h_32 => 
 Join1 (fun k_9 h_33 => guardP t48 true (k_9 t44 h_33) (k_9 undef h_33) ⟨⟩ ⟨⟩) (fun t50 h_34 => 
 Join1 (fun k_10 h_35 => guardP t48 true (Hp Try.prog false (binS .eql 31 (.tmp 50) (.const (.int .i64 0)) t50 (.int .i64 0)) k_10 h_35 ⟨⟩) (k_10 undef h_35) ⟨⟩ ⟨⟩) (fun t51 h_36 => 
 Join1 (fun k_11 h_37 => guardP t48 true (k_11 t51 h_37) (k_11 undef h_37) ⟨⟩ ⟨⟩) (fun t52 h_38 => 
 Join1 (fun k_12 h_39 => guardP t52 false (k_12 keep11 h_39) (k_12 undef h_39) ⟨⟩ ⟨⟩) (fun t53 h_40 => 
 Join1 (fun k_13 h_41 => guardP t52 false (Hp Try.prog false (binS .gtr 3 (.tmp 53) (.const (.int .i64 0)) t53 (.int .i64 0)) k_13 h_41 ⟨⟩) (k_13 undef h_41) ⟨⟩ ⟨⟩) (fun t54 h_42 => 
 Join1 (fun k_14 h_43 => guardP t48 true (Hp Try.prog false (pickS t52 (.bool true) t54) k_14 h_43 ⟨⟩) (k_14 undef h_43) ⟨⟩ ⟨⟩) (fun t55 h_44 => 
 Hp Try.prog false (pickS t48 t55 (.bool false)) (fun t56 h_45 => 
 CondP t56 (
 Hp Try.prog false (Builtin.len_ #[50] 3 #[b3_1]) (fun t58 h_46 => 
 Hp Try.prog false (binS .rem 2 (.tmp 59) (.const (.int .i64 512)) at2_1 (.int .i64 512)) (fun t60 h_47 => 
 Hp Try.prog false (binS .sub 2 (.const (.int .i64 512)) (.tmp 60) (.int .i64 512) t60) (fun t61 h_48 => 
 Hp Try.prog false (Builtin.min_ #[3, 3] 3 #[t58, t61]) (fun t62 h_49 => 
 Hp Try.prog false (binS .add 2 (.tmp 64) (.tmp 65) at2_1 t62) (fun t66 h_50 => 
 CallsH Try.prog 78 #[t17, t66] h_50 (fun t67 h_51 => 
 Hp Try.prog true (nilS t17) (fun t70 _ => 
 Hp Try.prog true (Instr.fieldAt 115 t70 1) (fun t71 _ => 
 Hp Try.prog true (Instr.loadAt 113 t71) (fun t72 _ => 
 Hp Try.prog true (Instr.sliceAt 50 b3_1 none (some t62) none) (fun t76 _ => 
 CallsH Try.prog 56 #[t76] h_51 (fun t77 h_52 => Hp Try.prog true (Instr.loadAt 113 t71) (fun u _ => u = t72) h_52 ⟨⟩ ∧ 
 Hp Try.prog true (Instr.build 117 #[(0, at2_1), (1, t77)]) (fun t78 _ => 
 Hp Try.prog false (Instr.buildSlice 113 1 #[(0, t78)]) (fun t79 h_53 => Hp Try.prog true (Instr.loadAt 113 t71) (fun u _ => u = t72) h_53 ⟨⟩ ∧ 
 Hp Try.prog false (Builtin.append_ #[113, 113] 113 #[t72, t79]) (fun t80 h_54 => 
 Hp Try.prog true (nilS t17) (fun t81 _ => 
 Hp Try.prog true (Instr.fieldAt 115 t81 1) (fun t82 _ => 
 Hp Try.prog false (storeS 113 t82 t80) (fun _ h_55 => 
 Hp Try.prog true (nilS t17) (fun t84 _ => 
 Hp Try.prog true (Instr.fieldAt 115 t84 2) (fun t85 _ => 
 Hp Try.prog true (Instr.loadAt 50 t85) (fun t86 _ => 
 Hp Try.prog true (Instr.sliceAt 50 t86 (some at2_1) none none) (fun t88 _ => 
 Hp Try.prog true (Instr.sliceAt 50 b3_1 none (some t62) none) (fun t91 _ => 
 Hp Try.prog false (Builtin.copy_ #[50, 50] 3 #[t88, t91]) (fun t92 h_56 => 
 Hp Try.prog false (Instr.sliceAt 50 b3_1 (some t62) none none) (fun t95 h_57 => 
 Hp Try.prog false (binS .add 2 (.tmp 96) (.tmp 97) at2_1 t62) (fun t98 h_58 => 
 Hp Try.prog false (binS .sub 3 (.tmp 99) (.const (.int .i64 1)) keep11 (.int .i64 1)) (fun t100 h_59 => 
 X t98 t95 t100 h_59) h_58 ⟨⟩) h_57 ⟨⟩) h_56 ⟨⟩) h_55 ⟨⟩) #[] ⟨⟩) #[] ⟨⟩) h_55 ⟨⟩) #[] ⟨⟩) #[] ⟨⟩) h_54 ⟨⟩) #[] ⟨⟩) #[] ⟨⟩) h_53 ⟨⟩) h_52 ⟨⟩) #[] ⟨⟩) ⟨⟩) #[] ⟨⟩) h_51 ⟨⟩) #[] ⟨⟩) #[] ⟨⟩) ⟨⟩) h_49 ⟨⟩) h_48 ⟨⟩) h_47 ⟨⟩) h_46 ⟨⟩) h_45 ⟨⟩) (
 R t44 h_45) ⟨⟩ ⟨⟩) h_44 ⟨⟩) h_42 ⟨⟩ ⟨⟩) h_40 ⟨⟩ ⟨⟩) h_38 ⟨⟩ ⟨⟩) h_36 ⟨⟩ ⟨⟩) h_34 ⟨⟩ ⟨⟩) h_32 ⟨⟩ ⟨⟩) h_31 ⟨⟩) h_30 ⟨⟩) [at2, b3, t45] h_29 ⟨⟩) h_28 ⟨⟩) h_27 ⟨⟩) ⟨⟩) ⟨⟩ ⟨⟩) h_25 ⟨⟩) h_23 ⟨⟩ ⟨⟩) h_21 ⟨⟩ ⟨⟩) h_19 ⟨⟩ ⟨⟩) h_17 ⟨⟩ ⟨⟩) h_15 ⟨⟩ ⟨⟩) h_13 ⟨⟩ ⟨⟩) h_11 ⟨⟩ ⟨⟩) h_9 ⟨⟩ ⟨⟩) h_7 ⟨⟩ ⟨⟩) h_6 ⟨⟩) h_5 ⟨⟩) ⟨⟩ ⟨⟩) h_4 ⟨⟩) ⟨⟩ ⟨⟩) h_3 ⟨⟩) h_2 ⟨⟩) h_1 ⟨⟩) ⟨⟩

theorem n34_calls {s0 name1 at2 b3 : Value} {R : Value → Heap → Prop} {h : Heap} (H : n34 s0 name1 at2 b3 R h) : CallsH Try.prog 34 #[s0, name1, at2, b3] h R ⟨⟩ :=
 callsH_of_eq Try.follow (.n none .l (.n none .l (.n none .l (.n none .l (.n none (.n none (.n (some [3, 4, 12]) .l .l) .l) .l))))) Try.func34 (by kernel_rfl) (by kernel_rfl) (by kernel_rfl) H

/-- palimpsest/store.New -/
def n39 (fates0 : Value) (R : Value → Heap → Prop) (h : Heap) : Prop :=
 CallsH Try.prog 80 #[fates0] h (fun t5 h_1 => 
 Hp Try.prog false (Op.unary .not t5) (fun t6 h_2 => 
 CondP t6 (
 R (.tuple #[(.pointer none), (.int .i64 2)]) h_2) (
 Hp Try.prog false (Instr.makeMap 66 none) (fun t7 h_3 => 
 CallsH Try.prog 81 #[fates0] h_3 (fun t9 h_4 => 
 Hp Try.prog false (Instr.build 68 #[(0, t7), (1, t9)]) (fun t10 h_5 => 
 Hp Try.prog false (Instr.box 68 t10) (fun t11 h_6 => 
 R (.tuple #[t11, (.int .i64 0)]) h_6) h_5 ⟨⟩) h_4 ⟨⟩) ⟨⟩) h_2 ⟨⟩) ⟨⟩ ⟨⟩) h_1 ⟨⟩) ⟨⟩

theorem n39_calls {fates0 : Value} {R : Value → Heap → Prop} {h : Heap} (H : n39 fates0 R h) : CallsH Try.prog 39 #[fates0] h R ⟨⟩ :=
 callsH_of_eq Try.follow .l Try.func39 (by kernel_rfl) (by kernel_rfl) (by kernel_rfl) H

/-- (*palimpsest/store.Store).Size -/
def n49 (s0 name1 : Value) (R : Value → Heap → Prop) (h : Heap) : Prop :=
 CallsH Try.prog 59 #[s0, name1] h (fun t11 h_1 => 
 Hp Try.prog false (Instr.extract t11 0) (fun t12 h_2 => 
 Hp Try.prog false (Instr.extract t11 1) (fun t13 h_3 => 
 Hp Try.prog false (binS .neq 31 (.tmp 14) (.const (.int .i64 0)) t13 (.int .i64 0)) (fun t15 h_4 => 
 CondP t15 (
 R (.tuple #[(.int .i64 0), t13]) h_4) (
 Hp Try.prog false (nilS t12) (fun t18 h_5 => 
 Hp Try.prog false (Instr.fieldAt 115 t18 2) (fun t19 h_6 => 
 Hp Try.prog false (Instr.loadAt 50 t19) (fun t20 h_7 => 
 Hp Try.prog false (Builtin.len_ #[50] 3 #[t20]) (fun t21 h_8 => 
 R (.tuple #[t21, (.int .i64 0)]) h_8) h_7 ⟨⟩) h_6 ⟨⟩) h_5 ⟨⟩) h_4 ⟨⟩) ⟨⟩ ⟨⟩) h_3 ⟨⟩) h_2 ⟨⟩) h_1 ⟨⟩) ⟨⟩

theorem n49_calls {s0 name1 : Value} {R : Value → Heap → Prop} {h : Heap} (H : n49 s0 name1 R h) : CallsH Try.prog 49 #[s0, name1] h R ⟨⟩ :=
 callsH_of_eq Try.follow .l Try.func49 (by kernel_rfl) (by kernel_rfl) (by kernel_rfl) H

/-- (*palimpsest/store.Store).Remove -/
def n50 (s0 name1 : Value) (R : Value → Heap → Prop) (h : Heap) : Prop :=
 CallsH Try.prog 59 #[s0, name1] h (fun t12 h_1 => 
 Hp Try.prog false (Instr.extract t12 0) (fun t13 h_2 => 
 Hp Try.prog false (Instr.extract t12 1) (fun t14 h_3 => 
 Hp Try.prog false (binS .neq 31 (.tmp 15) (.const (.int .i64 0)) t14 (.int .i64 0)) (fun t16 h_4 => 
 CondP t16 (
 R t14 h_4) (
 CallsH Try.prog 61 #[s0] h_4 (fun t20 h_5 => 
 Hp Try.prog false (Instr.extract t20 0) (fun t21 h_6 => 
 Hp Try.prog false (Instr.extract t20 1) (fun t22 h_7 => 
 Hp Try.prog false (binS .neq 31 (.tmp 23) (.const (.int .i64 0)) t21 (.int .i64 0)) (fun t24 h_8 => 
 CondP t24 (
 R t21 h_8) (
 Hp Try.prog false (nilS s0) (fun t27 h_9 => 
 Hp Try.prog false (Instr.fieldAt 68 t27 0) (fun t28 h_10 => 
 Hp Try.prog false (Instr.loadAt 66 t28) (fun t29 h_11 => 
 Hp Try.prog false (Builtin.delete_ #[66, 9] 0 #[t29, name1]) (fun _ h_12 => 
 R (.int .i64 0) h_12) h_11 ⟨⟩) h_10 ⟨⟩) h_9 ⟨⟩) h_8 ⟨⟩) ⟨⟩ ⟨⟩) h_7 ⟨⟩) h_6 ⟨⟩) h_5 ⟨⟩) ⟨⟩) ⟨⟩ ⟨⟩) h_3 ⟨⟩) h_2 ⟨⟩) h_1 ⟨⟩) ⟨⟩

theorem n50_calls {s0 name1 : Value} {R : Value → Heap → Prop} {h : Heap} (H : n50 s0 name1 R h) : CallsH Try.prog 50 #[s0, name1] h R ⟨⟩ :=
 callsH_of_eq Try.follow .l Try.func50 (by kernel_rfl) (by kernel_rfl) (by kernel_rfl) H

/-- (*palimpsest/store.Store).Resize -/
def n51 (s0 name1 size2 : Value) (R : Value → Heap → Prop) (h : Heap) : Prop :=
 CallsH Try.prog 59 #[s0, name1] h (fun t17 h_1 => 
 Hp Try.prog false (Instr.extract t17 0) (fun t18 h_2 => 
 Hp Try.prog false (Instr.extract t17 1) (fun t19 h_3 => 
 Hp Try.prog false (binS .neq 31 (.tmp 21) (.const (.int .i64 0)) t19 (.int .i64 0)) (fun t22 h_4 => 
 CondP t22 (
 R t19 h_4) (
 Hp Try.prog false (binS .lss 2 (.tmp 25) (.const (.int .i64 0)) size2 (.int .i64 0)) (fun t26 h_5 => 
 CondP t26 (
 R (.int .i64 4) h_5) (
 Hp Try.prog false (binS .gtr 2 (.tmp 28) (.const (.int .i64 268435456)) size2 (.int .i64 268435456)) (fun t29 h_6 => 
 CondP t29 (
 R (.int .i64 6) h_6) (
 CallsH Try.prog 61 #[s0] h_6 (fun t32 h_7 => 
 Hp Try.prog false (Instr.extract t32 0) (fun t33 h_8 => 
 Hp Try.prog false (Instr.extract t32 1) (fun t34 h_9 => 
 Hp Try.prog false (binS .neq 31 (.tmp 35) (.const (.int .i64 0)) t33 (.int .i64 0)) (fun t36 h_10 => 
 CondP t36 (
 R t33 h_10) (
 CallsH Try.prog 78 #[t18, size2] h_10 (fun t40 h_11 => 
 Hp Try.prog true (nilS t18) (fun t44 _ => 
 Hp Try.prog true (Instr.fieldAt 115 t44 2) (fun t45 _ => 
 Hp Try.prog true (Instr.loadAt 50 t45) (fun t46 _ => 
 Hp Try.prog true (Instr.sliceAt 50 t46 none (some size2) (some size2)) (fun t49 _ => 
 Hp Try.prog true (nilS t18) (fun t51 _ => 
 Hp Try.prog true (Instr.fieldAt 115 t51 0) (fun t52 _ => 
 Hp Try.prog true (Instr.loadAt 50 t52) (fun t53 _ => 
 Hp Try.prog true (Instr.sliceAt 50 t53 none (some size2) (some size2)) (fun t56 _ => 
 Hp Try.prog true (nilS t18) (fun t57 _ => 
 Hp Try.prog true (Instr.fieldAt 115 t57 2) (fun t58 _ => 
 Hp Try.prog false (storeS 50 t58 t49) (fun _ h_12 => 
 Hp Try.prog true (nilS t18) (fun t59 _ => 
 Hp Try.prog true (Instr.fieldAt 115 t59 0) (fun t60 _ => 
 Hp Try.prog false (storeS 50 t60 t56) (fun _ h_13 => 
 Hp Try.prog false (nilS t18) (fun t62 h_14 => 
 Hp Try.prog false (Instr.fieldAt 115 t62 1) (fun t63 h_15 => 
 Hp Try.prog false (Instr.loadAt 113 t63) (fun t64 h_16 => 
 Hp Try.prog false (Builtin.len_ #[113] 3 #[t64]) (fun t65 h_17 => 
 LoopC 2 (fun (X : Value → Value → Heap → Prop) => fun stay11 t66 h_18 =>
 Hp Try.prog false (binS .lss 3 (.tmp 66) (.tmp 65) t66 t65) (fun t67 h_19 => 
 CondP t67 (
 JoinN 1 (fun (k : Value → Heap → Prop) h_20 =>
 JoinN 1 (fun (k_1 : Value → Heap → Prop) h_21 =>
 Hp Try.prog false (Instr.indexAt 113 t64 t66) (fun t68 h_22 => 
 Hp Try.prog false (Instr.loadAt 117 t68) (fun t69 h_23 => 
 Hp Try.prog false (Instr.alloc 117 true undef) (fun p13 h_24 => 
 Hp Try.prog false (storeS 117 p13 t69) (fun _ h_25 => 
 Hp Try.prog false (Instr.fieldAt 117 p13 0) (fun t70 h_26 => 
 Hp Try.prog false (Instr.loadAt 2 t70) (fun t71 h_27 => 
 Hp Try.prog false (binS .lss 2 (.tmp 71) (.tmp 72) t71 size2) (fun t73 h_28 => 
 CondP t73 (
 Hp Try.prog false (Instr.fieldAt 117 p13 1) (fun t74 h_29 => 
 Hp Try.prog false (Instr.loadAt 50 t74) (fun t75 h_30 => 
 Hp Try.prog false (Instr.fieldAt 117 p13 1) (fun t76 h_31 => 
 Hp Try.prog false (Instr.loadAt 50 t76) (fun t77 h_32 => 
 Hp Try.prog false (Builtin.len_ #[50] 3 #[t77]) (fun t78 h_33 => 
 Hp Try.prog false (Instr.fieldAt 117 p13 0) (fun t80 h_34 => 
 Hp Try.prog false (Instr.loadAt 2 t80) (fun t81 h_35 => 
 Hp Try.prog false (binS .sub 2 (.tmp 79) (.tmp 81) size2 t81) (fun t82 h_36 => 
 Hp Try.prog false (Builtin.min_ #[2, 2] 2 #[t78, t82]) (fun t83 h_37 => 
 Hp Try.prog false (Instr.sliceAt 50 t75 none (some t83) none) (fun t84 h_38 => 
 Hp Try.prog false (Instr.fieldAt 117 p13 1) (fun t85 h_39 => 
 Hp Try.prog false (storeS 50 t85 t84) (fun _ h_40 => 
 Hp Try.prog false (Instr.loadAt 117 p13) (fun t87 h_41 => 
 Hp Try.prog false (Instr.buildSlice 113 1 #[(0, t87)]) (fun t88 h_42 => 
 Hp Try.prog false (Builtin.append_ #[113, 113] 113 #[stay11, t88]) (fun t89 h_43 => 
 k_1 t89 h_43) h_42 ⟨⟩) h_41 ⟨⟩) h_40 ⟨⟩) h_39 ⟨⟩) h_38 ⟨⟩) h_37 ⟨⟩) h_36 ⟨⟩) h_35 ⟨⟩) h_34 ⟨⟩) h_33 ⟨⟩) h_32 ⟨⟩) h_31 ⟨⟩) h_30 ⟨⟩) h_29 ⟨⟩) h_28 ⟨⟩) (
 k_1 stay11 h_28) ⟨⟩ ⟨⟩) h_27 ⟨⟩) h_26 ⟨⟩) h_25 ⟨⟩) h_24 ⟨⟩) h_23 ⟨⟩) h_22 ⟨⟩) h_21 ⟨⟩)
 (fun stay11_1 h_44 =>
 k stay11_1 h_44) h_20 ⟨⟩ ⟨⟩)
 (fun stay11_2 h_45 =>
 Hp Try.prog false (binS .add 3 (.tmp 66) (.const (.int .i64 1)) t66 (.int .i64 1)) (fun t90 h_46 => 
 X stay11_2 t90 h_46) h_45 ⟨⟩) h_19 ⟨⟩ ⟨⟩) (
 Hp Try.prog false (nilS t18) (fun t93 h_47 => 
 Hp Try.prog false (Instr.fieldAt 115 t93 1) (fun t94 h_48 => 
 Hp Try.prog false (storeS 113 t94 stay11) (fun _ h_49 => 
 R (.int .i64 0) h_49) h_48 ⟨⟩) h_47 ⟨⟩) h_19 ⟨⟩) ⟨⟩ ⟨⟩) h_18 ⟨⟩) [(.slice none 0 0), (.int .i64 0)] h_17 ⟨⟩) h_16 ⟨⟩) h_15 ⟨⟩) h_14 ⟨⟩) h_13 ⟨⟩) h_12 ⟨⟩) #[] ⟨⟩) #[] ⟨⟩) h_11 ⟨⟩) #[] ⟨⟩) #[] ⟨⟩) #[] ⟨⟩) h_11 ⟨⟩) #[] ⟨⟩) #[] ⟨⟩) #[] ⟨⟩) h_11 ⟨⟩) #[] ⟨⟩) #[] ⟨⟩) ⟨⟩) ⟨⟩ ⟨⟩) h_9 ⟨⟩) h_8 ⟨⟩) h_7 ⟨⟩) ⟨⟩) ⟨⟩ ⟨⟩) h_5 ⟨⟩) ⟨⟩ ⟨⟩) h_4 ⟨⟩) ⟨⟩ ⟨⟩) h_3 ⟨⟩) h_2 ⟨⟩) h_1 ⟨⟩) ⟨⟩

theorem n51_calls {s0 name1 size2 : Value} {R : Value → Heap → Prop} {h : Heap} (H : n51 s0 name1 size2 R h) : CallsH Try.prog 51 #[s0, name1, size2] h R ⟨⟩ :=
 callsH_of_eq Try.follow (.n none .l (.n none .l (.n none .l (.n none .l (.n none .l (.n none .l (.n none .l (.n none (.n none .l (.n none (.n (some [12, 67]) (.n none .l (.n none .l (.n (some [12]) (.n (some [12]) .l .l) .l))) .l) .l)) .l)))))))) Try.func51 (by kernel_rfl) (by kernel_rfl) (by kernel_rfl) H

/-- (*palimpsest/store.Store).Feed -/
def n52 (s0 fates1 : Value) (R : Value → Heap → Prop) (h : Heap) : Prop :=
 CallsH Try.prog 53 #[s0] h (fun t7 h_1 => 
 CondP t7 (
 R (.int .i64 1) h_1) (
 CallsH Try.prog 80 #[fates1] h_1 (fun t10 h_2 => 
 Hp Try.prog false (Op.unary .not t10) (fun t11 h_3 => 
 CondP t11 (
 R (.int .i64 2) h_3) (
 Hp Try.prog false (nilS s0) (fun t14 h_4 => 
 Hp Try.prog false (Instr.fieldAt 68 t14 1) (fun t15 h_5 => 
 Hp Try.prog false (Instr.loadAt 41 t15) (fun t16 h_6 => 
 Hp Try.prog false (Builtin.append_ #[41, 41] 41 #[t16, fates1]) (fun t18 h_7 => 
 Hp Try.prog false (nilS s0) (fun t19 h_8 => 
 Hp Try.prog false (Instr.fieldAt 68 t19 1) (fun t20 h_9 => 
 Hp Try.prog false (storeS 41 t20 t18) (fun _ h_10 => 
 R (.int .i64 0) h_10) h_9 ⟨⟩) h_8 ⟨⟩) h_7 ⟨⟩) h_6 ⟨⟩) h_5 ⟨⟩) h_4 ⟨⟩) h_3 ⟨⟩) ⟨⟩ ⟨⟩) h_2 ⟨⟩) ⟨⟩) ⟨⟩ ⟨⟩) ⟨⟩

theorem n52_calls {s0 fates1 : Value} {R : Value → Heap → Prop} {h : Heap} (H : n52 s0 fates1 R h) : CallsH Try.prog 52 #[s0, fates1] h R ⟨⟩ :=
 callsH_of_eq Try.follow .l Try.func52 (by kernel_rfl) (by kernel_rfl) (by kernel_rfl) H

/-- (*palimpsest/store.Store).none -/
def n53 (s0 : Value) (R : Value → Heap → Prop) (h : Heap) : Prop :=
 Hp Try.prog false (binS .eql 26 (.tmp 3) (.const (.pointer none)) s0 (.pointer none)) (fun t4 h_1 => 
 Join1 (fun k h_2 => guardP t4 false (k s0 h_2) (k undef h_2) ⟨⟩ ⟨⟩) (fun t6 h_3 => 
 Join1 (fun k_1 h_4 => guardP t4 false (Hp Try.prog false (nilS t6) k_1 h_4 ⟨⟩) (k_1 undef h_4) ⟨⟩ ⟨⟩) (fun t7 h_5 => 
 Join1 (fun k_2 h_6 => guardP t4 false (Hp Try.prog false (Instr.fieldAt 68 t7 0) k_2 h_6 ⟨⟩) (k_2 undef h_6) ⟨⟩ ⟨⟩) (fun t8 h_7 => 
 Join1 (fun k_3 h_8 => guardP t4 false (Hp Try.prog false (Instr.loadAt 66 t8) k_3 h_8 ⟨⟩) (k_3 undef h_8) ⟨⟩ ⟨⟩) (fun t9 h_9 => 
 Join1 (fun k_4 h_10 => guardP t4 false (Hp Try.prog false (binS .eql 66 (.tmp 9) (.const (.map none)) t9 (.map none)) k_4 h_10 ⟨⟩) (k_4 undef h_10) ⟨⟩ ⟨⟩) (fun t10 h_11 => 
 Hp Try.prog false (pickS t4 (.bool true) t10) (fun t11 h_12 => 
 R t11 h_12) h_11 ⟨⟩) h_9 ⟨⟩ ⟨⟩) h_7 ⟨⟩ ⟨⟩) h_5 ⟨⟩ ⟨⟩) h_3 ⟨⟩ ⟨⟩) h_1 ⟨⟩ ⟨⟩) h ⟨⟩

theorem n53_calls {s0 : Value} {R : Value → Heap → Prop} {h : Heap} (H : n53 s0 R h) : CallsH Try.prog 53 #[s0] h R ⟨⟩ :=
 callsH_of_eq Try.follow .l Try.func53 (by kernel_rfl) (by kernel_rfl) (by kernel_rfl) H

/-- (*palimpsest/store.Store).Crash$1 -/
def n54 (p0 : Value) (R : Value → Heap → Prop) (h : Heap) : Prop :=
 Hp Try.prog false (binS .lss 3 (.tmp 3) (.const (.int .i64 0)) p0 (.int .i64 0)) (fun t4 h_1 => 
 R t4 h_1) h ⟨⟩

theorem n54_calls {p0 : Value} {R : Value → Heap → Prop} {h : Heap} (H : n54 p0 R h) : CallsH Try.prog 54 #[p0] h R ⟨⟩ :=
 callsH_of_eq Try.follow .l Try.func54 (by kernel_rfl) (by kernel_rfl) (by kernel_rfl) H

/-- (*palimpsest/store.Store).Crash$2 -/
def n55 (t0 : Value) (R : Value → Heap → Prop) (h : Heap) : Prop :=
 Hp Try.prog false (Instr.loadAt 23 t0) (fun t3 h_1 => 
 Hp Try.prog false (Builtin.len_ #[23] 3 #[t3]) (fun t4 h_2 => 
 Hp Try.prog false (binS .eql 3 (.tmp 4) (.const (.int .i64 0)) t4 (.int .i64 0)) (fun t5 h_3 => 
 CondP t5 (
 R (.bool false) h_3) (
 Hp Try.prog false (Instr.loadAt 23 t0) (fun t6 h_4 => 
 Hp Try.prog false (Instr.indexAt 23 t6 (.int .i64 0)) (fun t7 h_5 => 
 Hp Try.prog false (Instr.loadAt 3 t7) (fun t8 h_6 => 
 Hp Try.prog false (Instr.loadAt 23 t0) (fun t9 h_7 => 
 Hp Try.prog false (Instr.sliceAt 23 t9 (some (.int .i64 1)) none none) (fun t10 h_8 => 
 Hp Try.prog false (storeS 23 t0 t10) (fun _ h_9 => 
 Hp Try.prog false (binS .rem 3 (.tmp 11) (.const (.int .i64 2)) t8 (.int .i64 2)) (fun t12 h_10 => 
 Hp Try.prog false (binS .eql 3 (.tmp 12) (.const (.int .i64 1)) t12 (.int .i64 1)) (fun t13 h_11 => 
 R t13 h_11) h_10 ⟨⟩) h_9 ⟨⟩) h_8 ⟨⟩) h_7 ⟨⟩) h_6 ⟨⟩) h_5 ⟨⟩) h_4 ⟨⟩) h_3 ⟨⟩) ⟨⟩ ⟨⟩) h_2 ⟨⟩) h_1 ⟨⟩) h ⟨⟩

theorem n55_calls {t0 : Value} {R : Value → Heap → Prop} {h : Heap} (H : n55 t0 R h) : CallsH Try.prog 55 #[t0] h R ⟨⟩ :=
 callsH_of_eq Try.follow .l Try.func55 (by kernel_rfl) (by kernel_rfl) (by kernel_rfl) H

/-- bytes.Clone -/
def n56 (b0 : Value) (R : Value → Heap → Prop) (h : Heap) : Prop :=
 Hp Try.prog false (binS .eql 50 (.tmp 3) (.const (.slice none 0 0)) b0 (.slice none 0 0)) (fun t4 h_1 => 
 CondP t4 (
 R (.slice none 0 0) h_1) (
 Hp Try.prog false (Instr.buildSlice 50 0 #[]) (fun t5 h_2 => 
 Hp Try.prog false (Builtin.append_ #[50, 50] 50 #[t5, b0]) (fun t7 h_3 => 
 R t7 h_3) h_2 ⟨⟩) h_1 ⟨⟩) ⟨⟩ ⟨⟩) h ⟨⟩

theorem n56_calls {b0 : Value} {R : Value → Heap → Prop} {h : Heap} (H : n56 b0 R h) : CallsH Try.prog 56 #[b0] h R ⟨⟩ :=
 callsH_of_eq Try.follow .l Try.func56 (by kernel_rfl) (by kernel_rfl) (by kernel_rfl) H

/-- slices.Sorted[string] -/
def n57 (seq0 : Value) (R : Value → Heap → Prop) (h : Heap) : Prop :=
 CallsH Try.prog 87 #[seq0] h (fun t5 h_1 => 
 CallsH Try.prog 88 #[t5] h_1 (fun t7 h_2 => 
 R t5 h_2) ⟨⟩) ⟨⟩

theorem n57_calls {seq0 : Value} {R : Value → Heap → Prop} {h : Heap} (H : n57 seq0 R h) : CallsH Try.prog 57 #[seq0] h R ⟨⟩ :=
 callsH_of_eq Try.follow .l Try.func57 (by kernel_rfl) (by kernel_rfl) (by kernel_rfl) H

/-- maps.Keys[map[string]*palimpsest/store.file,string,*palimpsest/store.file] -/
def n58 (m0 : Value) (R : Value → Heap → Prop) (h : Heap) : Prop :=
 Hp Try.prog false (Instr.box 66 m0) (fun m1 h_1 => 
 Hp Try.prog false (pure (.func (.func 89) #[] #[m1])) (fun t3 h_2 => 
 R t3 h_2) h_1 ⟨⟩) h ⟨⟩

theorem n58_calls {m0 : Value} {R : Value → Heap → Prop} {h : Heap} (H : n58 m0 R h) : CallsH Try.prog 58 #[m0] h R ⟨⟩ :=
 callsH_of_eq Try.follow .l Try.func58 (by kernel_rfl) (by kernel_rfl) (by kernel_rfl) H

/-- (*palimpsest/store.Store).find -/
def n59 (s0 name1 : Value) (R : Value → Heap → Prop) (h : Heap) : Prop :=
 CallsH Try.prog 77 #[s0, name1] h (fun t11 h_1 => 
 Hp Try.prog false (binS .neq 31 (.tmp 12) (.const (.int .i64 0)) t11 (.int .i64 0)) (fun t13 h_2 => 
 CondP t13 (
 R (.tuple #[(.pointer none), t11]) h_2) (
 Hp Try.prog false (nilS s0) (fun t17 h_3 => 
 Hp Try.prog false (Instr.fieldAt 68 t17 0) (fun t18 h_4 => 
 Hp Try.prog false (Instr.loadAt 66 t18) (fun t19 h_5 => 
 Hp Try.prog false (Instr.lookup 66 t19 name1 true) (fun t21 h_6 => 
 Hp Try.prog false (Instr.extract t21 0) (fun t22 h_7 => 
 Hp Try.prog false (Instr.extract t21 1) (fun t23 h_8 => 
 Hp Try.prog false (Op.unary .not t23) (fun t25 h_9 => 
 CondP t25 (
 R (.tuple #[(.pointer none), (.int .i64 7)]) h_9) (
 R (.tuple #[t22, (.int .i64 0)]) h_9) ⟨⟩ ⟨⟩) h_8 ⟨⟩) h_7 ⟨⟩) h_6 ⟨⟩) h_5 ⟨⟩) h_4 ⟨⟩) h_3 ⟨⟩) h_2 ⟨⟩) ⟨⟩ ⟨⟩) h_1 ⟨⟩) ⟨⟩

theorem n59_calls {s0 name1 : Value} {R : Value → Heap → Prop} {h : Heap} (H : n59 s0 name1 R h) : CallsH Try.prog 59 #[s0, name1] h R ⟨⟩ :=
 callsH_of_eq Try.follow .l Try.func59 (by kernel_rfl) (by kernel_rfl) (by kernel_rfl) H

/-- slices.Values[[]palimpsest/api.Piece,palimpsest/api.Piece] -/
def n60 (s0 : Value) (R : Value → Heap → Prop) (h : Heap) : Prop :=
 Hp Try.prog false (Instr.box 124 s0) (fun s1 h_1 => 
 Hp Try.prog false (pure (.func (.func 90) #[] #[s1])) (fun t3 h_2 => 
 R t3 h_2) h_1 ⟨⟩) h ⟨⟩

theorem n60_calls {s0 : Value} {R : Value → Heap → Prop} {h : Heap} (H : n60 s0 R h) : CallsH Try.prog 60 #[s0] h R ⟨⟩ :=
 callsH_of_eq Try.follow .l Try.func60 (by kernel_rfl) (by kernel_rfl) (by kernel_rfl) H

/-- (*palimpsest/store.Store).step -/
def n61 (s0 : Value) (R : Value → Heap → Prop) (h : Heap) : Prop :=
 Hp Try.prog false (nilS s0) (fun t7 h_1 => 
 Hp Try.prog false (Instr.fieldAt 68 t7 2) (fun t8 h_2 => 
 Hp Try.prog false (Instr.loadAt 3 t8) (fun t9 h_3 => 
 Hp Try.prog false (binS .add 3 (.tmp 9) (.const (.int .i64 1)) t9 (.int .i64 1)) (fun t10 h_4 => 
 Hp Try.prog false (nilS s0) (fun t11 h_5 => 
 Hp Try.prog false (Instr.fieldAt 68 t11 2) (fun t12 h_6 => 
 Hp Try.prog false (storeS 3 t12 t10) (fun _ h_7 => 
 Hp Try.prog false (nilS s0) (fun t14 h_8 => 
 Hp Try.prog false (Instr.fieldAt 68 t14 1) (fun t15 h_9 => 
 Hp Try.prog false (Instr.loadAt 41 t15) (fun t16 h_10 => 
 Hp Try.prog false (Builtin.len_ #[41] 3 #[t16]) (fun t17 h_11 => 
 Hp Try.prog false (binS .eql 3 (.tmp 17) (.const (.int .i64 0)) t17 (.int .i64 0)) (fun t18 h_12 => 
 CondP t18 (
 R (.tuple #[(.int .i64 0), (.int .i64 0)]) h_12) (
 Hp Try.prog false (nilS s0) (fun t20 h_13 => 
 Hp Try.prog false (Instr.fieldAt 68 t20 1) (fun t21 h_14 => 
 Hp Try.prog false (Instr.loadAt 41 t21) (fun t22 h_15 => 
 Hp Try.prog false (Instr.indexAt 41 t22 (.int .i64 0)) (fun t23 h_16 => 
 Hp Try.prog false (Instr.loadAt 107 t23) (fun t24 h_17 => 
 Hp Try.prog false (Instr.alloc 107 true undef) (fun f4 h_18 => 
 Hp Try.prog false (storeS 107 f4 t24) (fun _ h_19 => 
 Hp Try.prog false (nilS s0) (fun t27 h_20 => 
 Hp Try.prog false (Instr.fieldAt 68 t27 1) (fun t28 h_21 => 
 Hp Try.prog false (Instr.loadAt 41 t28) (fun t29 h_22 => 
 Hp Try.prog false (Instr.sliceAt 41 t29 (some (.int .i64 1)) none none) (fun t30 h_23 => 
 Hp Try.prog false (nilS s0) (fun t31 h_24 => 
 Hp Try.prog false (Instr.fieldAt 68 t31 1) (fun t32 h_25 => 
 Hp Try.prog false (storeS 41 t32 t30) (fun _ h_26 => 
 JoinN 1 (fun (k : Value → Heap → Prop) h_27 =>
 Hp Try.prog false (Instr.fieldAt 107 f4 0) (fun t33 h_28 => 
 Hp Try.prog false (Instr.loadAt 105 t33) (fun t34 h_29 => 
 JoinN 1 (fun (k_1 : Value → Heap → Prop) h_30 =>
 Hp Try.prog false (binS .eql 105 (.tmp 34) (.const (.int .i64 1)) t34 (.int .i64 1)) (fun t36 h_31 => 
 CondP t36 (
 k_1 (.int .i64 5) h_31) (
 Hp Try.prog false (binS .eql 105 (.tmp 34) (.const (.int .i64 2)) t34 (.int .i64 2)) (fun t38 h_32 => 
 CondP t38 (
 k_1 (.int .i64 6) h_32) (
 k_1 (.int .i64 0) h_32) ⟨⟩ ⟨⟩) h_31 ⟨⟩) ⟨⟩ ⟨⟩) h_30 ⟨⟩)
 (fun e5 h_33 =>
 k e5 h_33) h_29 ⟨⟩ ⟨⟩) h_28 ⟨⟩) h_27 ⟨⟩)
 (fun e5_1 h_34 =>
 Hp Try.prog true (Instr.fieldAt 107 f4 1) (fun t40 _ => 
 Hp Try.prog true (Instr.loadAt 3 t40) (fun t41 _ => 
 Hp Try.prog true (Builtin.max_ #[3, 3] 3 #[(.int .i64 0), t41]) (fun t42 _ => 
 R (.tuple #[e5_1, t42]) h_34) #[] ⟨⟩) h_34 ⟨⟩) #[] ⟨⟩) h_26 ⟨⟩ ⟨⟩) h_25 ⟨⟩) h_24 ⟨⟩) h_23 ⟨⟩) h_22 ⟨⟩) h_21 ⟨⟩) h_20 ⟨⟩) h_19 ⟨⟩) h_18 ⟨⟩) h_17 ⟨⟩) h_16 ⟨⟩) h_15 ⟨⟩) h_14 ⟨⟩) h_13 ⟨⟩) h_12 ⟨⟩) ⟨⟩ ⟨⟩) h_11 ⟨⟩) h_10 ⟨⟩) h_9 ⟨⟩) h_8 ⟨⟩) h_7 ⟨⟩) h_6 ⟨⟩) h_5 ⟨⟩) h_4 ⟨⟩) h_3 ⟨⟩) h_2 ⟨⟩) h_1 ⟨⟩) h ⟨⟩

theorem n61_calls {s0 : Value} {R : Value → Heap → Prop} {h : Heap} (H : n61 s0 R h) : CallsH Try.prog 61 #[s0] h R ⟨⟩ :=
 callsH_of_eq Try.follow (.n none .l (.n none .l (.n none .l (.n none .l (.n none .l (.n none .l (.n (some [6]) (.n none .l (.n (some [6]) .l .l)) .l))))))) Try.func61 (by kernel_rfl) (by kernel_rfl) (by kernel_rfl) H

/-- slices.Clone[[]palimpsest/store.piece,palimpsest/store.piece] -/
def n62 (s0 : Value) (R : Value → Heap → Prop) (h : Heap) : Prop :=
 Hp Try.prog false (binS .eql 113 (.tmp 3) (.const (.slice none 0 0)) s0 (.slice none 0 0)) (fun t4 h_1 => 
 CondP t4 (
 R (.slice none 0 0) h_1) (
 Hp Try.prog false (Instr.buildSlice 113 0 #[]) (fun t5 h_2 => 
 Hp Try.prog false (Builtin.append_ #[113, 113] 113 #[t5, s0]) (fun t7 h_3 => 
 R t7 h_3) h_2 ⟨⟩) h_1 ⟨⟩) ⟨⟩ ⟨⟩) h ⟨⟩

theorem n62_calls {s0 : Value} {R : Value → Heap → Prop} {h : Heap} (H : n62 s0 R h) : CallsH Try.prog 62 #[s0] h R ⟨⟩ :=
 callsH_of_eq Try.follow .l Try.func62 (by kernel_rfl) (by kernel_rfl) (by kernel_rfl) H

/-- maps.EqualFunc[map[string]*palimpsest/store.file,map[string]*palimpsest/store.file,string,*palimpsest/store.file,*palimpsest/store.file] -/
def n63 (m10 m21 eq2 : Value) (R : Value → Heap → Prop) (h : Heap) : Prop :=
 Hp Try.prog false (Builtin.len_ #[66] 3 #[m10]) (fun t12 h_1 => 
 Hp Try.prog false (Builtin.len_ #[66] 3 #[m21]) (fun t14 h_2 => 
 Hp Try.prog false (binS .neq 3 (.tmp 12) (.tmp 14) t12 t14) (fun t15 h_3 => 
 CondP t15 (
 R (.bool false) h_3) (
 Hp Try.prog false (Instr.range 66 m10) (fun t17 h_4 => 
 LoopC 0 (fun (X : Heap → Prop) => fun h_5 =>
 Hp Try.prog false (Instr.next t17 false 0) (fun t18 h_6 => 
 Hp Try.prog false (Instr.extract t18 0) (fun t19 h_7 => 
 CondP t19 (
 Hp Try.prog false (Instr.entry t17) (fun t20 h_8 => 
 Hp Try.prog false (Instr.extract t20 0) (fun t21 h_9 => 
 Hp Try.prog false (Instr.extract t20 1) (fun t22 h_10 => 
 Hp Try.prog false (Instr.lookup 66 m21 t21 true) (fun t26 h_11 => 
 Hp Try.prog false (Instr.extract t26 0) (fun t27 h_12 => 
 Hp Try.prog false (Instr.extract t26 1) (fun t28 h_13 => 
 Hp Try.prog false (Op.unary .not t28) (fun t30 h_14 => 
 Join1 (fun k h_15 => guardP t30 false (k eq2 h_15) (k undef h_15) ⟨⟩ ⟨⟩) (fun t32 h_16 => 
 Join1 (fun k_1 h_17 => guardP t30 false (k_1 t22 h_17) (k_1 undef h_17) ⟨⟩ ⟨⟩) (fun t33 h_18 => 
 Join1 (fun k_2 h_19 => guardP t30 false (k_2 t27 h_19) (k_2 undef h_19) ⟨⟩ ⟨⟩) (fun t34 h_20 => 
 Join1 (fun k_3 h_21 => guardP t30 false (InvokeH Try.prog t32 #[t33, t34] h_21 k_3 ⟨⟩) (k_3 undef h_21) ⟨⟩ ⟨⟩) (fun t35 h_22 => 
 Join1 (fun k_4 h_23 => guardP t30 false (Hp Try.prog false (Op.unary .not t35) k_4 h_23 ⟨⟩) (k_4 undef h_23) ⟨⟩ ⟨⟩) (fun t36 h_24 => 
 Hp Try.prog false (pickS t30 (.bool true) t36) (fun t37 h_25 => 
 CondP t37 (
 R (.bool false) h_25) (
 X h_25) ⟨⟩ ⟨⟩) h_24 ⟨⟩) h_22 ⟨⟩ ⟨⟩) h_20 ⟨⟩ ⟨⟩) h_18 ⟨⟩ ⟨⟩) h_16 ⟨⟩ ⟨⟩) h_14 ⟨⟩ ⟨⟩) h_13 ⟨⟩) h_12 ⟨⟩) h_11 ⟨⟩) h_10 ⟨⟩) h_9 ⟨⟩) h_8 ⟨⟩) h_7 ⟨⟩) (
 R (.bool true) h_7) ⟨⟩ ⟨⟩) h_6 ⟨⟩) h_5 ⟨⟩) [] h_4 ⟨⟩) h_3 ⟨⟩) ⟨⟩ ⟨⟩) h_2 ⟨⟩) h_1 ⟨⟩) h ⟨⟩

theorem n63_calls {m10 m21 eq2 : Value} {R : Value → Heap → Prop} {h : Heap} (H : n63 m10 m21 eq2 R h) : CallsH Try.prog 63 #[m10, m21, eq2] h R ⟨⟩ :=
 callsH_of_eq Try.follow (.n none .l (.n none .l (.n none (.n none .l (.n none (.n (some []) .l .l) .l)) .l))) Try.func63 (by kernel_rfl) (by kernel_rfl) (by kernel_rfl) H

/-- (*palimpsest/store.Store).Same$1 -/
def n64 (f0 g1 : Value) (R : Value → Heap → Prop) (h : Heap) : Prop :=
 Hp Try.prog true (nilS f0) (fun t6 _ => 
 Hp Try.prog true (Instr.fieldAt 115 t6 0) (fun t7 _ => 
 Hp Try.prog true (Instr.loadAt 50 t7) (fun t8 _ => 
 Hp Try.prog true (nilS g1) (fun t10 _ => 
 Hp Try.prog true (Instr.fieldAt 115 t10 0) (fun t11 _ => 
 Hp Try.prog true (Instr.loadAt 50 t11) (fun t12 _ => 
 CallsH Try.prog 65 #[t8, t12] h (fun t13 h_1 => 
 Join1 (fun k h_2 => guardP t13 true (k f0 h_2) (k undef h_2) ⟨⟩ ⟨⟩) (fun t15 _ => 
 Join1 (fun k_1 h_3 => guardP t13 true (Hp Try.prog true (nilS t15) k_1 h_3 ⟨⟩) (k_1 undef h_3) ⟨⟩ ⟨⟩) (fun t16 _ => 
 Join1 (fun k_2 h_4 => guardP t13 true (Hp Try.prog true (Instr.fieldAt 115 t16 1) k_2 h_4 ⟨⟩) (k_2 undef h_4) ⟨⟩ ⟨⟩) (fun t17 _ => 
 Join1 (fun k_3 h_5 => guardP t13 true (Hp Try.prog true (Instr.loadAt 113 t17) k_3 h_5 ⟨⟩) (k_3 undef h_5) ⟨⟩ ⟨⟩) (fun t18 _ => 
 Join1 (fun k_4 h_6 => guardP t13 true (k_4 g1 h_6) (k_4 undef h_6) ⟨⟩ ⟨⟩) (fun t19 _ => 
 Join1 (fun k_5 h_7 => guardP t13 true (Hp Try.prog true (nilS t19) k_5 h_7 ⟨⟩) (k_5 undef h_7) ⟨⟩ ⟨⟩) (fun t20 _ => 
 Join1 (fun k_6 h_8 => guardP t13 true (Hp Try.prog true (Instr.fieldAt 115 t20 1) k_6 h_8 ⟨⟩) (k_6 undef h_8) ⟨⟩ ⟨⟩) (fun t21 _ => 
 Join1 (fun k_7 h_9 => guardP t13 true (Hp Try.prog true (Instr.loadAt 113 t21) k_7 h_9 ⟨⟩) (k_7 undef h_9) ⟨⟩ ⟨⟩) (fun t22 _ => 
 Join1 (fun k_8 h_10 => guardP t13 true (CallsH Try.prog 66 #[t18, t22, (.func (.func 67) #[] #[])] h_10 k_8 ⟨⟩) (k_8 undef h_10) ⟨⟩ ⟨⟩) (fun t23 h_11 => 
 Hp Try.prog true (pickS t13 t23 (.bool false)) (fun t24 _ => 
 R t24 h_11) #[] ⟨⟩) h_1 ⟨⟩ ⟨⟩) h_1 ⟨⟩ ⟨⟩) #[] ⟨⟩ ⟨⟩) #[] ⟨⟩ ⟨⟩) #[] ⟨⟩ ⟨⟩) h_1 ⟨⟩ ⟨⟩) #[] ⟨⟩ ⟨⟩) #[] ⟨⟩ ⟨⟩) #[] ⟨⟩ ⟨⟩) ⟨⟩) h ⟨⟩) #[] ⟨⟩) #[] ⟨⟩) h ⟨⟩) #[] ⟨⟩) #[] ⟨⟩

theorem n64_calls {f0 g1 : Value} {R : Value → Heap → Prop} {h : Heap} (H : n64 f0 g1 R h) : CallsH Try.prog 64 #[f0, g1] h R ⟨⟩ :=
 callsH_of_eq Try.follow .l Try.func64 (by kernel_rfl) (by kernel_rfl) (by kernel_rfl) H

/-- bytes.Equal -/
def n65 (a0 b1 : Value) (R : Value → Heap → Prop) (h : Heap) : Prop :=
 Hp Try.prog false (convert 50 9 a0) (fun t6 h_1 => 
 Hp Try.prog false (convert 50 9 b1) (fun t8 h_2 => 
 Hp Try.prog false (binS .eql 9 (.tmp 6) (.tmp 8) t6 t8) (fun t9 h_3 => 
 R t9 h_3) h_2 ⟨⟩) h_1 ⟨⟩) h ⟨⟩

theorem n65_calls {a0 b1 : Value} {R : Value → Heap → Prop} {h : Heap} (H : n65 a0 b1 R h) : CallsH Try.prog 65 #[a0, b1] h R ⟨⟩ :=
 callsH_of_eq Try.follow .l Try.func65 (by kernel_rfl) (by kernel_rfl) (by kernel_rfl) H

/-- slices.EqualFunc[[]palimpsest/store.piece,[]palimpsest/store.piece,palimpsest/store.piece,palimpsest/store.piece] -/
def n66 (s10 s21 eq2 : Value) (R : Value → Heap → Prop) (h : Heap) : Prop :=
 Hp Try.prog false (Builtin.len_ #[113] 3 #[s10]) (fun t11 h_1 => 
 Hp Try.prog false (Builtin.len_ #[113] 3 #[s21]) (fun t13 h_2 => 
 Hp Try.prog false (binS .neq 3 (.tmp 11) (.tmp 13) t11 t13) (fun t14 h_3 => 
 CondP t14 (
 R (.bool false) h_3) (
 Hp Try.prog false (Builtin.len_ #[113] 3 #[s10]) (fun t16 h_4 => 
 LoopC 1 (fun (X : Value → Heap → Prop) => fun t17 h_5 =>
 Hp Try.prog false (binS .lss 3 (.tmp 17) (.tmp 16) t17 t16) (fun t18 h_6 => 
 CondP t18 (
 Hp Try.prog false (Instr.indexAt 113 s10 t17) (fun t20 h_7 => 
 Hp Try.prog false (Instr.loadAt 117 t20) (fun t21 h_8 => 
 Hp Try.prog false (Instr.alloc 117 true undef) (fun v18 h_9 => 
 Hp Try.prog false (storeS 117 v18 t21) (fun _ h_10 => 
 Hp Try.prog false (Instr.indexAt 113 s21 t17) (fun t24 h_11 => 
 Hp Try.prog false (Instr.loadAt 117 t24) (fun t25 h_12 => 
 Hp Try.prog false (Instr.alloc 117 true undef) (fun v29 h_13 => 
 Hp Try.prog false (storeS 117 v29 t25) (fun _ h_14 => 
 Hp Try.prog false (Instr.loadAt 117 v18) (fun t27 h_15 => 
 Hp Try.prog false (Instr.loadAt 117 v29) (fun t28 h_16 => 
 InvokeH Try.prog eq2 #[t27, t28] h_16 (fun t29 h_17 => 
 Hp Try.prog false (Op.unary .not t29) (fun t30 h_18 => 
 CondP t30 (
 R (.bool false) h_18) (
 Hp Try.prog false (binS .add 3 (.tmp 17) (.const (.int .i64 1)) t17 (.int .i64 1)) (fun t31 h_19 => 
 X t31 h_19) h_18 ⟨⟩) ⟨⟩ ⟨⟩) h_17 ⟨⟩) ⟨⟩) h_15 ⟨⟩) h_14 ⟨⟩) h_13 ⟨⟩) h_12 ⟨⟩) h_11 ⟨⟩) h_10 ⟨⟩) h_9 ⟨⟩) h_8 ⟨⟩) h_7 ⟨⟩) h_6 ⟨⟩) (
 R (.bool true) h_6) ⟨⟩ ⟨⟩) h_5 ⟨⟩) [(.int .i64 0)] h_4 ⟨⟩) h_3 ⟨⟩) ⟨⟩ ⟨⟩) h_2 ⟨⟩) h_1 ⟨⟩) h ⟨⟩

theorem n66_calls {s10 s21 eq2 : Value} {R : Value → Heap → Prop} {h : Heap} (H : n66 s10 s21 eq2 R h) : CallsH Try.prog 66 #[s10, s21, eq2] h R ⟨⟩ :=
 callsH_of_eq Try.follow (.n none .l (.n none .l (.n none (.n none .l (.n none (.n (some [18]) .l .l) .l)) .l))) Try.func66 (by kernel_rfl) (by kernel_rfl) (by kernel_rfl) H

/-- (*palimpsest/store.Store).Same$1$1 -/
def n67 (a0 b1 : Value) (R : Value → Heap → Prop) (h : Heap) : Prop :=
 Hp Try.prog false (Instr.box 117 a0) (fun a2 h_1 => 
 Hp Try.prog false (Instr.box 117 b1) (fun b3 h_2 => 
 Hp Try.prog false (Instr.fieldAt 117 a2 0) (fun t5 h_3 => 
 Hp Try.prog false (Instr.loadAt 2 t5) (fun t6 h_4 => 
 Hp Try.prog false (Instr.fieldAt 117 b3 0) (fun t7 h_5 => 
 Hp Try.prog false (Instr.loadAt 2 t7) (fun t8 h_6 => 
 Hp Try.prog false (binS .eql 2 (.tmp 6) (.tmp 8) t6 t8) (fun t9 h_7 => 
 Join1 (fun k h_8 => guardP t9 true (Hp Try.prog false (Instr.fieldAt 117 a2 1) k h_8 ⟨⟩) (k undef h_8) ⟨⟩ ⟨⟩) (fun t11 h_9 => 
 Join1 (fun k_1 h_10 => guardP t9 true (Hp Try.prog false (Instr.loadAt 50 t11) k_1 h_10 ⟨⟩) (k_1 undef h_10) ⟨⟩ ⟨⟩) (fun t12 h_11 => 
 Join1 (fun k_2 h_12 => guardP t9 true (Hp Try.prog false (Instr.fieldAt 117 b3 1) k_2 h_12 ⟨⟩) (k_2 undef h_12) ⟨⟩ ⟨⟩) (fun t13 h_13 => 
 Join1 (fun k_3 h_14 => guardP t9 true (Hp Try.prog false (Instr.loadAt 50 t13) k_3 h_14 ⟨⟩) (k_3 undef h_14) ⟨⟩ ⟨⟩) (fun t14 h_15 => 
 Join1 (fun k_4 h_16 => guardP t9 true (CallsH Try.prog 65 #[t12, t14] h_16 k_4 ⟨⟩) (k_4 undef h_16) ⟨⟩ ⟨⟩) (fun t15 h_17 => 
 Hp Try.prog false (pickS t9 t15 (.bool false)) (fun t16 h_18 => 
 R t16 h_18) h_17 ⟨⟩) h_15 ⟨⟩ ⟨⟩) h_13 ⟨⟩ ⟨⟩) h_11 ⟨⟩ ⟨⟩) h_9 ⟨⟩ ⟨⟩) h_7 ⟨⟩ ⟨⟩) h_6 ⟨⟩) h_5 ⟨⟩) h_4 ⟨⟩) h_3 ⟨⟩) h_2 ⟨⟩) h_1 ⟨⟩) h ⟨⟩

theorem n67_calls {a0 b1 : Value} {R : Value → Heap → Prop} {h : Heap} (H : n67 a0 b1 R h) : CallsH Try.prog 67 #[a0, b1] h R ⟨⟩ :=
 callsH_of_eq Try.follow .l Try.func67 (by kernel_rfl) (by kernel_rfl) (by kernel_rfl) H

/-- (*palimpsest/store.Store).Steps -/
def n68 (s0 : Value) (R : Value → Heap → Prop) (h : Heap) : Prop :=
 CallsH Try.prog 53 #[s0] h (fun t5 h_1 => 
 CondP t5 (
 R (.tuple #[(.int .i64 0), (.int .i64 0)]) h_1) (
 Hp Try.prog true (nilS s0) (fun t7 _ => 
 Hp Try.prog true (Instr.fieldAt 68 t7 2) (fun t8 _ => 
 Hp Try.prog true (Instr.loadAt 3 t8) (fun t9 _ => 
 Hp Try.prog true (nilS s0) (fun t11 _ => 
 Hp Try.prog true (Instr.fieldAt 68 t11 1) (fun t12 _ => 
 Hp Try.prog true (Instr.loadAt 41 t12) (fun t13 _ => 
 Hp Try.prog true (Builtin.len_ #[41] 3 #[t13]) (fun t14 _ => 
 R (.tuple #[t9, t14]) h_1) #[] ⟨⟩) h_1 ⟨⟩) #[] ⟨⟩) #[] ⟨⟩) h_1 ⟨⟩) #[] ⟨⟩) #[] ⟨⟩) ⟨⟩ ⟨⟩) ⟨⟩

theorem n68_calls {s0 : Value} {R : Value → Heap → Prop} {h : Heap} (H : n68 s0 R h) : CallsH Try.prog 68 #[s0] h R ⟨⟩ :=
 callsH_of_eq Try.follow .l Try.func68 (by kernel_rfl) (by kernel_rfl) (by kernel_rfl) H

/-- (*palimpsest/store.Store).Copy -/
def n69 (s0 : Value) (R : Value → Heap → Prop) (h : Heap) : Prop :=
 CallsH Try.prog 53 #[s0] h (fun t8 h_1 => 
 CondP t8 (
 RetD (.tuple #[]) h_1 (fun h_2 =>
 R (.pointer none) h_2) ⟨⟩) (
 JoinN 1 (fun (k : Value → Heap → Prop) h_3 =>
 Hp Try.prog true (nilS s0) (fun t11 _ => 
 Hp Try.prog true (Instr.fieldAt 68 t11 1) (fun t12 _ => 
 Hp Try.prog true (Instr.loadAt 41 t12) (fun t13 _ => 
 Hp Try.prog true (nilS s0) (fun t16 _ => 
 Hp Try.prog true (Instr.fieldAt 68 t16 2) (fun t17 _ => 
 Hp Try.prog true (Instr.loadAt 3 t17) (fun t18 _ => 
 ((
 Hp Try.prog false (Instr.makeMap 66 none) (fun t9 h_4 => Hp Try.prog true (Instr.loadAt 3 t17) (fun u _ => u = t18) h_4 ⟨⟩ ∧ Hp Try.prog true (Instr.loadAt 41 t12) (fun u _ => u = t13) h_4 ⟨⟩ ∧ 
 ((
 CallsH Try.prog 81 #[t13] h_4 (fun t14 h_5 => Hp Try.prog true (Instr.loadAt 3 t17) (fun u _ => u = t18) h_5 ⟨⟩ ∧ 
 Hp Try.prog true (Instr.build 68 #[(0, t9), (1, t14), (2, t18)]) (fun t19 _ => 
 ((
 Hp Try.prog false (Instr.box 68 t19) (fun t20 h_6 => 
 Hp Try.prog false (Instr.alloc 26 true undef) (fun o3 h_7 => Hp Try.prog true (Instr.loadAt 3 t17) (fun u _ => u = t18) h_7 ⟨⟩ ∧ Hp Try.prog true (Instr.loadAt 41 t12) (fun u _ => u = t13) h_7 ⟨⟩ ∧ 
 Hp Try.prog false (storeS 26 o3 t20) (fun _ h_8 => 
 k o3 h_8) h_7 ⟨⟩) h_6 ⟨⟩) h_5 ⟨⟩) ∧ (
 Hp Try.prog false (Instr.alloc 26 true undef) (fun o3_1 h_9 => Hp Try.prog true (Instr.loadAt 3 t17) (fun u _ => u = t18) h_9 ⟨⟩ ∧ Hp Try.prog true (Instr.loadAt 41 t12) (fun u _ => u = t13) h_9 ⟨⟩ ∧ 
 Hp Try.prog false (Instr.box 68 t19) (fun t20_1 h_10 => 
 Hp Try.prog false (storeS 26 o3_1 t20_1) (fun _ h_11 => 
 k o3_1 h_11) h_10 ⟨⟩) h_9 ⟨⟩) h_5 ⟨⟩))) #[] ⟨⟩) ⟨⟩) ∧ (
 Hp Try.prog false (Instr.alloc 26 true undef) (fun o3_2 h_12 => Hp Try.prog true (Instr.loadAt 3 t17) (fun u _ => u = t18) h_12 ⟨⟩ ∧ Hp Try.prog true (Instr.loadAt 41 t12) (fun u _ => u = t13) h_12 ⟨⟩ ∧ 
 CallsH Try.prog 81 #[t13] h_12 (fun t14_1 h_13 => Hp Try.prog true (Instr.loadAt 3 t17) (fun u _ => u = t18) h_13 ⟨⟩ ∧ 
 Hp Try.prog true (Instr.build 68 #[(0, t9), (1, t14_1), (2, t18)]) (fun t19_1 _ => 
 Hp Try.prog false (Instr.box 68 t19_1) (fun t20_2 h_14 => 
 Hp Try.prog false (storeS 26 o3_2 t20_2) (fun _ h_15 => 
 k o3_2 h_15) h_14 ⟨⟩) h_13 ⟨⟩) #[] ⟨⟩) ⟨⟩) h_4 ⟨⟩))) h_3 ⟨⟩) ∧ ((
 CallsH Try.prog 81 #[t13] h_3 (fun t14_2 h_16 => Hp Try.prog true (Instr.loadAt 3 t17) (fun u _ => u = t18) h_16 ⟨⟩ ∧ 
 ((
 Hp Try.prog false (Instr.makeMap 66 none) (fun t9_1 h_17 => Hp Try.prog true (Instr.loadAt 3 t17) (fun u _ => u = t18) h_17 ⟨⟩ ∧ Hp Try.prog true (Instr.loadAt 41 t12) (fun u _ => u = t13) h_17 ⟨⟩ ∧ 
 Hp Try.prog true (Instr.build 68 #[(0, t9_1), (1, t14_2), (2, t18)]) (fun t19_2 _ => 
 ((
 Hp Try.prog false (Instr.box 68 t19_2) (fun t20_3 h_18 => 
 Hp Try.prog false (Instr.alloc 26 true undef) (fun o3_3 h_19 => Hp Try.prog true (Instr.loadAt 3 t17) (fun u _ => u = t18) h_19 ⟨⟩ ∧ Hp Try.prog true (Instr.loadAt 41 t12) (fun u _ => u = t13) h_19 ⟨⟩ ∧ 
 Hp Try.prog false (storeS 26 o3_3 t20_3) (fun _ h_20 => 
 k o3_3 h_20) h_19 ⟨⟩) h_18 ⟨⟩) h_17 ⟨⟩) ∧ (
 Hp Try.prog false (Instr.alloc 26 true undef) (fun o3_4 h_21 => Hp Try.prog true (Instr.loadAt 3 t17) (fun u _ => u = t18) h_21 ⟨⟩ ∧ Hp Try.prog true (Instr.loadAt 41 t12) (fun u _ => u = t13) h_21 ⟨⟩ ∧ 
 Hp Try.prog false (Instr.box 68 t19_2) (fun t20_4 h_22 => 
 Hp Try.prog false (storeS 26 o3_4 t20_4) (fun _ h_23 => 
 k o3_4 h_23) h_22 ⟨⟩) h_21 ⟨⟩) h_17 ⟨⟩))) #[] ⟨⟩) h_16 ⟨⟩) ∧ (
 Hp Try.prog false (Instr.alloc 26 true undef) (fun o3_5 h_24 => Hp Try.prog true (Instr.loadAt 3 t17) (fun u _ => u = t18) h_24 ⟨⟩ ∧ Hp Try.prog true (Instr.loadAt 41 t12) (fun u _ => u = t13) h_24 ⟨⟩ ∧ 
 Hp Try.prog false (Instr.makeMap 66 none) (fun t9_2 h_25 => Hp Try.prog true (Instr.loadAt 3 t17) (fun u _ => u = t18) h_25 ⟨⟩ ∧ Hp Try.prog true (Instr.loadAt 41 t12) (fun u _ => u = t13) h_25 ⟨⟩ ∧ 
 Hp Try.prog true (Instr.build 68 #[(0, t9_2), (1, t14_2), (2, t18)]) (fun t19_3 _ => 
 Hp Try.prog false (Instr.box 68 t19_3) (fun t20_5 h_26 => 
 Hp Try.prog false (storeS 26 o3_5 t20_5) (fun _ h_27 => 
 k o3_5 h_27) h_26 ⟨⟩) h_25 ⟨⟩) #[] ⟨⟩) h_24 ⟨⟩) h_16 ⟨⟩))) ⟨⟩) ∧ (
 Hp Try.prog false (Instr.alloc 26 true undef) (fun o3_6 h_28 => Hp Try.prog true (Instr.loadAt 3 t17) (fun u _ => u = t18) h_28 ⟨⟩ ∧ Hp Try.prog true (Instr.loadAt 41 t12) (fun u _ => u = t13) h_28 ⟨⟩ ∧ 
 ((
 Hp Try.prog false (Instr.makeMap 66 none) (fun t9_3 h_29 => Hp Try.prog true (Instr.loadAt 3 t17) (fun u _ => u = t18) h_29 ⟨⟩ ∧ Hp Try.prog true (Instr.loadAt 41 t12) (fun u _ => u = t13) h_29 ⟨⟩ ∧ 
 CallsH Try.prog 81 #[t13] h_29 (fun t14_3 h_30 => Hp Try.prog true (Instr.loadAt 3 t17) (fun u _ => u = t18) h_30 ⟨⟩ ∧ 
 Hp Try.prog true (Instr.build 68 #[(0, t9_3), (1, t14_3), (2, t18)]) (fun t19_4 _ => 
 Hp Try.prog false (Instr.box 68 t19_4) (fun t20_6 h_31 => 
 Hp Try.prog false (storeS 26 o3_6 t20_6) (fun _ h_32 => 
 k o3_6 h_32) h_31 ⟨⟩) h_30 ⟨⟩) #[] ⟨⟩) ⟨⟩) h_28 ⟨⟩) ∧ (
 CallsH Try.prog 81 #[t13] h_28 (fun t14_4 h_33 => Hp Try.prog true (Instr.loadAt 3 t17) (fun u _ => u = t18) h_33 ⟨⟩ ∧ 
 Hp Try.prog false (Instr.makeMap 66 none) (fun t9_4 h_34 => Hp Try.prog true (Instr.loadAt 3 t17) (fun u _ => u = t18) h_34 ⟨⟩ ∧ Hp Try.prog true (Instr.loadAt 41 t12) (fun u _ => u = t13) h_34 ⟨⟩ ∧ 
 Hp Try.prog true (Instr.build 68 #[(0, t9_4), (1, t14_4), (2, t18)]) (fun t19_5 _ => 
 Hp Try.prog false (Instr.box 68 t19_5) (fun t20_7 h_35 => 
 Hp Try.prog false (storeS 26 o3_6 t20_7) (fun _ h_36 => 
 k o3_6 h_36) h_35 ⟨⟩) h_34 ⟨⟩) #[] ⟨⟩) h_33 ⟨⟩) ⟨⟩))) h_3 ⟨⟩)))) h_3 ⟨⟩) #[] ⟨⟩) #[] ⟨⟩) h_3 ⟨⟩) #[] ⟨⟩) #[] ⟨⟩)
 (fun o3_7 h_37 =>
 JoinN 1 (fun (k_1 : Value → Heap → Prop) h_38 =>
 Hp Try.prog false (nilS s0) (fun t22 h_39 => 
 Hp Try.prog false (Instr.fieldAt 68 t22 0) (fun t23 h_40 => 
 Hp Try.prog false (Instr.loadAt 66 t23) (fun t24 h_41 => 
 CallsH Try.prog 91 #[t24] h_41 (fun t25 h_42 => 
 JoinN 1 (fun (k_2 : Value → Heap → Prop) h_43 =>
 RangeC Try.prog none t25 2 (.tuple #[]) (fun l args bg Nb Jb h_44 =>
 bg (fun h_45 =>
 Hp Try.prog true (nilS (getV args 1)) (fun t29 _ => 
 Hp Try.prog true (Instr.fieldAt 115 t29 0) (fun t30 _ => 
 Hp Try.prog true (Instr.loadAt 50 t30) (fun t31 _ => 
 Hp Try.prog true (nilS (getV args 1)) (fun t34 _ => 
 Hp Try.prog true (Instr.fieldAt 115 t34 2) (fun t35 _ => 
 Hp Try.prog true (Instr.loadAt 50 t35) (fun t36 _ => 
 CallsH Try.prog 56 #[t31] h_45 (fun t32 h_46 => Hp Try.prog true (Instr.loadAt 50 t35) (fun u _ => u = t36) h_46 ⟨⟩ ∧ 
 CallsH Try.prog 56 #[t36] h_46 (fun t37 h_47 => 
 Hp Try.prog true (Instr.build 115 #[(0, t32), (2, t37)]) (fun t38 _ => 
 Hp Try.prog false (Instr.box 115 t38) (fun t39 h_48 => 
 Hp Try.prog false (nilS (getV args 1)) (fun t42 h_49 => 
 Hp Try.prog false (Instr.fieldAt 115 t42 1) (fun t43 h_50 => 
 Hp Try.prog false (Instr.loadAt 113 t43) (fun t44 h_51 => 
 CallsH Try.prog 62 #[t44] h_51 (fun t45 h_52 => 
 Hp Try.prog false (nilS t39) (fun t46 h_53 => 
 Hp Try.prog false (Instr.fieldAt 115 t46 1) (fun t47 h_54 => 
 Hp Try.prog false (storeS 113 t47 t45) (fun _ h_55 => 
 Hp Try.prog false (Instr.loadAt 26 o3_7) (fun t48 h_56 => 
 Hp Try.prog false (nilS t48) (fun t49 h_57 => 
 Hp Try.prog false (Instr.fieldAt 68 t49 0) (fun t50 h_58 => 
 Hp Try.prog false (Instr.loadAt 66 t50) (fun t51 h_59 => 
 Hp Try.prog false (unitS (Instr.mapUpdate 66 t51 (getV args 0) t39)) (fun _ h_60 => 
 Nb h_60) h_59 ⟨⟩) h_58 ⟨⟩) h_57 ⟨⟩) h_56 ⟨⟩) h_55 ⟨⟩) h_54 ⟨⟩) h_53 ⟨⟩) h_52 ⟨⟩) ⟨⟩) h_50 ⟨⟩) h_49 ⟨⟩) h_48 ⟨⟩) h_47 ⟨⟩) #[] ⟨⟩) ⟨⟩) ⟨⟩) h_45 ⟨⟩) #[] ⟨⟩) #[] ⟨⟩) h_45 ⟨⟩) #[] ⟨⟩) #[] ⟨⟩) h_44)
 (fun D h_61 =>
 k_2 D h_61)
 (fun D_1 h_62 =>
 RetD D_1 h_62 (fun h_63 =>
 R (.pointer none) h_63) ⟨⟩)
 (fun id D_2 h_64 => bif Nat.beq id 0 then (k_2 D_2 h_64) else False) h_43 ⟨⟩ ⟨⟩ ⟨⟩ ⟨⟩)
 (fun D_3 h_65 =>
 k_1 D_3 h_65) h_42 ⟨⟩ ⟨⟩) ⟨⟩) h_40 ⟨⟩) h_39 ⟨⟩) h_38 ⟨⟩)
 (fun D_4 h_66 =>
 Hp Try.prog false (Instr.loadAt 26 o3_7) (fun t54 h_67 => 
 RetD D_4 h_67 (fun h_68 =>
 R t54 h_68) ⟨⟩) h_66 ⟨⟩) h_37 ⟨⟩ ⟨⟩) h_1 ⟨⟩ ⟨⟩) ⟨⟩ ⟨⟩) ⟨⟩

theorem n69_calls {s0 : Value} {R : Value → Heap → Prop} {h : Heap} (H : n69 s0 R h) : CallsH Try.prog 69 #[s0] h R ⟨⟩ :=
 callsH_of_eq Try.follow (.n none .l (.n none .l (.n (some [4]) .l (.n (some [0]) (.n none .l (.n (some [0]) .l .l)) .l)))) Try.func69 (by kernel_rfl) (by kernel_rfl) (by kernel_rfl) H

/-- (*palimpsest/store.Store).asked -/
def n77 (s0 name1 : Value) (R : Value → Heap → Prop) (h : Heap) : Prop :=
 CallsH Try.prog 53 #[s0] h (fun t7 h_1 => 
 CondP t7 (
 R (.int .i64 1) h_1) (
 Hp Try.prog false (Builtin.len_ #[9] 3 #[name1]) (fun t10 h_2 => 
 Hp Try.prog false (binS .lss 3 (.tmp 10) (.const (.int .i64 1)) t10 (.int .i64 1)) (fun t11 h_3 => 
 Join1 (fun k h_4 => guardP t11 false (k name1 h_4) (k undef h_4) ⟨⟩ ⟨⟩) (fun t13 h_5 => 
 Join1 (fun k_1 h_6 => guardP t11 false (Hp Try.prog false (Builtin.len_ #[9] 3 #[t13]) k_1 h_6 ⟨⟩) (k_1 undef h_6) ⟨⟩ ⟨⟩) (fun t14 h_7 => 
 Join1 (fun k_2 h_8 => guardP t11 false (Hp Try.prog false (binS .gtr 3 (.tmp 14) (.const (.int .i64 64)) t14 (.int .i64 64)) k_2 h_8 ⟨⟩) (k_2 undef h_8) ⟨⟩ ⟨⟩) (fun t15 h_9 => 
 Hp Try.prog false (pickS t11 (.bool true) t15) (fun t16 h_10 => 
 Join1 (fun k_3 h_11 => guardP t16 false (k_3 name1 h_11) (k_3 undef h_11) ⟨⟩ ⟨⟩) (fun t18 h_12 => 
 Join1 (fun k_4 h_13 => guardP t16 false (Hp Try.prog false (convert 9 50 t18) k_4 h_13 ⟨⟩) (k_4 undef h_13) ⟨⟩ ⟨⟩) (fun t19 h_14 => 
 Join1 (fun k_5 h_15 => guardP t16 false (CallsH Try.prog 92 #[t19, (.int .u8 0)] h_15 k_5 ⟨⟩) (k_5 undef h_15) ⟨⟩ ⟨⟩) (fun t20 h_16 => 
 Join1 (fun k_6 h_17 => guardP t16 false (Hp Try.prog false (binS .geq 3 (.tmp 20) (.const (.int .i64 0)) t20 (.int .i64 0)) k_6 h_17 ⟨⟩) (k_6 undef h_17) ⟨⟩ ⟨⟩) (fun t21 h_18 => 
 Hp Try.prog false (pickS t16 (.bool true) t21) (fun t22 h_19 => 
 CondP t22 (
 R (.int .i64 2) h_19) (
 R (.int .i64 0) h_19) ⟨⟩ ⟨⟩) h_18 ⟨⟩) h_16 ⟨⟩ ⟨⟩) h_14 ⟨⟩ ⟨⟩) h_12 ⟨⟩ ⟨⟩) h_10 ⟨⟩ ⟨⟩) h_9 ⟨⟩) h_7 ⟨⟩ ⟨⟩) h_5 ⟨⟩ ⟨⟩) h_3 ⟨⟩ ⟨⟩) h_2 ⟨⟩) h_1 ⟨⟩) ⟨⟩ ⟨⟩) ⟨⟩

theorem n77_calls {s0 name1 : Value} {R : Value → Heap → Prop} {h : Heap} (H : n77 s0 name1 R h) : CallsH Try.prog 77 #[s0, name1] h R ⟨⟩ :=
 callsH_of_eq Try.follow .l Try.func77 (by kernel_rfl) (by kernel_rfl) (by kernel_rfl) H

/-- (*palimpsest/store.file).grow -/
def n78 (f0 size1 : Value) (R : Value → Heap → Prop) (h : Heap) : Prop :=
 Hp Try.prog false (nilS f0) (fun t7 h_1 => 
 Hp Try.prog false (Instr.fieldAt 115 t7 2) (fun t8 h_2 => 
 Hp Try.prog false (Instr.loadAt 50 t8) (fun t9 h_3 => 
 Hp Try.prog false (Builtin.len_ #[50] 3 #[t9]) (fun t10 h_4 => 
 Hp Try.prog false (binS .sub 2 (.tmp 5) (.tmp 10) size1 t10) (fun t11 h_5 => 
 Hp Try.prog false (binS .gtr 2 (.tmp 12) (.const (.int .i64 0)) t11 (.int .i64 0)) (fun t13 h_6 => 
 CondP t13 (
 Hp Try.prog false (nilS f0) (fun t16 h_7 => 
 Hp Try.prog false (Instr.fieldAt 115 t16 2) (fun t17 h_8 => 
 Hp Try.prog false (Instr.loadAt 50 t17) (fun t18 h_9 => 
 Hp Try.prog false (Builtin.append_ #[50, 2] 50 #[t18, t11]) (fun t20 h_10 => 
 Hp Try.prog false (nilS f0) (fun t21 h_11 => 
 Hp Try.prog false (Instr.fieldAt 115 t21 2) (fun t22 h_12 => 
 Hp Try.prog false (storeS 50 t22 t20) (fun _ h_13 => 
 Hp Try.prog false (nilS f0) (fun t25 h_14 => 
 Hp Try.prog false (Instr.fieldAt 115 t25 0) (fun t26 h_15 => 
 Hp Try.prog false (Instr.loadAt 50 t26) (fun t27 h_16 => 
 Hp Try.prog false (Builtin.append_ #[50, 2] 50 #[t27, t11]) (fun t29 h_17 => 
 Hp Try.prog false (nilS f0) (fun t30 h_18 => 
 Hp Try.prog false (Instr.fieldAt 115 t30 0) (fun t31 h_19 => 
 Hp Try.prog false (storeS 50 t31 t29) (fun _ h_20 => 
 R (.tuple #[]) h_20) h_19 ⟨⟩) h_18 ⟨⟩) h_17 ⟨⟩) h_16 ⟨⟩) h_15 ⟨⟩) h_14 ⟨⟩) h_13 ⟨⟩) h_12 ⟨⟩) h_11 ⟨⟩) h_10 ⟨⟩) h_9 ⟨⟩) h_8 ⟨⟩) h_7 ⟨⟩) h_6 ⟨⟩) (
 R (.tuple #[]) h_6) ⟨⟩ ⟨⟩) h_5 ⟨⟩) h_4 ⟨⟩) h_3 ⟨⟩) h_2 ⟨⟩) h_1 ⟨⟩) h ⟨⟩

theorem n78_calls {f0 size1 : Value} {R : Value → Heap → Prop} {h : Heap} (H : n78 f0 size1 R h) : CallsH Try.prog 78 #[f0, size1] h R ⟨⟩ :=
 callsH_of_eq Try.follow .l Try.func78 (by kernel_rfl) (by kernel_rfl) (by kernel_rfl) H

/-- palimpsest/store.right -/
def n80 (fates0 : Value) (R : Value → Heap → Prop) (h : Heap) : Prop :=
 CallsH Try.prog 93 #[fates0, (.func (.func 94) #[] #[])] h (fun t4 h_1 => 
 Hp Try.prog false (Op.unary .not t4) (fun t5 h_2 => 
 R t5 h_2) h_1 ⟨⟩) ⟨⟩

theorem n80_calls {fates0 : Value} {R : Value → Heap → Prop} {h : Heap} (H : n80 fates0 R h) : CallsH Try.prog 80 #[fates0] h R ⟨⟩ :=
 callsH_of_eq Try.follow .l Try.func80 (by kernel_rfl) (by kernel_rfl) (by kernel_rfl) H

/-- slices.Clone[[]palimpsest/api.Fate,palimpsest/api.Fate] -/
def n81 (s0 : Value) (R : Value → Heap → Prop) (h : Heap) : Prop :=
 Hp Try.prog false (binS .eql 41 (.tmp 3) (.const (.slice none 0 0)) s0 (.slice none 0 0)) (fun t4 h_1 => 
 CondP t4 (
 R (.slice none 0 0) h_1) (
 Hp Try.prog false (Instr.buildSlice 41 0 #[]) (fun t5 h_2 => 
 Hp Try.prog false (Builtin.append_ #[41, 41] 41 #[t5, s0]) (fun t7 h_3 => 
 R t7 h_3) h_2 ⟨⟩) h_1 ⟨⟩) ⟨⟩ ⟨⟩) h ⟨⟩

theorem n81_calls {s0 : Value} {R : Value → Heap → Prop} {h : Heap} (H : n81 s0 R h) : CallsH Try.prog 81 #[s0] h R ⟨⟩ :=
 callsH_of_eq Try.follow .l Try.func81 (by kernel_rfl) (by kernel_rfl) (by kernel_rfl) H

/-- slices.Collect[string] -/
def n87 (seq0 : Value) (R : Value → Heap → Prop) (h : Heap) : Prop :=
 CallsH Try.prog 96 #[(.slice none 0 0), seq0] h (fun t4 h_1 => 
 R t4 h_1) ⟨⟩

theorem n87_calls {seq0 : Value} {R : Value → Heap → Prop} {h : Heap} (H : n87 seq0 R h) : CallsH Try.prog 87 #[seq0] h R ⟨⟩ :=
 callsH_of_eq Try.follow .l Try.func87 (by kernel_rfl) (by kernel_rfl) (by kernel_rfl) H

/-- maps.Keys[map[string]*palimpsest/store.file,string,*palimpsest/store.file]$1 -/
def n89 (yield0 t1 : Value) (R : Value → Heap → Prop) (h : Heap) : Prop :=
 Hp Try.prog false (Instr.loadAt 66 t1) (fun t4 h_1 => 
 Hp Try.prog false (Instr.range 66 t4) (fun t5 h_2 => 
 LoopC 0 (fun (X : Heap → Prop) => fun h_3 =>
 Hp Try.prog false (Instr.next t5 false 0) (fun t6 h_4 => 
 Hp Try.prog false (Instr.extract t6 0) (fun t7 h_5 => 
 CondP t7 (
 Hp Try.prog false (Instr.entry t5) (fun t8 h_6 => 
 Hp Try.prog false (Instr.extract t8 0) (fun t9 h_7 => 
 InvokeH Try.prog yield0 #[t9] h_7 (fun t12 h_8 => 
 Hp Try.prog false (Op.unary .not t12) (fun t13 h_9 => 
 CondP t13 (
 R (.tuple #[]) h_9) (
 X h_9) ⟨⟩ ⟨⟩) h_8 ⟨⟩) ⟨⟩) h_6 ⟨⟩) h_5 ⟨⟩) (
 R (.tuple #[]) h_5) ⟨⟩ ⟨⟩) h_4 ⟨⟩) h_3 ⟨⟩) [] h_2 ⟨⟩) h_1 ⟨⟩) h ⟨⟩

theorem n89_calls {yield0 t1 : Value} {R : Value → Heap → Prop} {h : Heap} (H : n89 yield0 t1 R h) : CallsH Try.prog 89 #[yield0, t1] h R ⟨⟩ :=
 callsH_of_eq Try.follow (.n none .l (.n none (.n (some []) .l .l) .l)) Try.func89 (by kernel_rfl) (by kernel_rfl) (by kernel_rfl) H

/-- slices.Values[[]palimpsest/api.Piece,palimpsest/api.Piece]$1 -/
def n90 (yield0 t1 : Value) (R : Value → Heap → Prop) (h : Heap) : Prop :=
 Hp Try.prog false (Instr.loadAt 124 t1) (fun t5 h_1 => 
 Hp Try.prog false (Builtin.len_ #[124] 3 #[t5]) (fun t6 h_2 => 
 LoopC 1 (fun (X : Value → Heap → Prop) => fun t7 h_3 =>
 Hp Try.prog false (binS .lss 3 (.tmp 7) (.tmp 6) t7 t6) (fun t8 h_4 => 
 CondP t8 (
 Hp Try.prog false (Instr.indexAt 124 t5 t7) (fun t9 h_5 => 
 Hp Try.prog false (Instr.loadAt 58 t9) (fun t10 h_6 => 
 Hp Try.prog false (Instr.alloc 58 true undef) (fun v4 h_7 => 
 Hp Try.prog false (storeS 58 v4 t10) (fun _ h_8 => 
 Hp Try.prog false (Instr.loadAt 58 v4) (fun t12 h_9 => 
 InvokeH Try.prog yield0 #[t12] h_9 (fun t13 h_10 => 
 Hp Try.prog false (Op.unary .not t13) (fun t14 h_11 => 
 CondP t14 (
 R (.tuple #[]) h_11) (
 Hp Try.prog false (binS .add 3 (.tmp 7) (.const (.int .i64 1)) t7 (.int .i64 1)) (fun t15 h_12 => 
 X t15 h_12) h_11 ⟨⟩) ⟨⟩ ⟨⟩) h_10 ⟨⟩) ⟨⟩) h_8 ⟨⟩) h_7 ⟨⟩) h_6 ⟨⟩) h_5 ⟨⟩) h_4 ⟨⟩) (
 R (.tuple #[]) h_4) ⟨⟩ ⟨⟩) h_3 ⟨⟩) [(.int .i64 0)] h_2 ⟨⟩) h_1 ⟨⟩) h ⟨⟩

theorem n90_calls {yield0 t1 : Value} {R : Value → Heap → Prop} {h : Heap} (H : n90 yield0 t1 R h) : CallsH Try.prog 90 #[yield0, t1] h R ⟨⟩ :=
 callsH_of_eq Try.follow (.n none .l (.n none (.n (some [8]) .l .l) .l)) Try.func90 (by kernel_rfl) (by kernel_rfl) (by kernel_rfl) H

/-- maps.All[map[string]*palimpsest/store.file,string,*palimpsest/store.file] -/
def n91 (m0 : Value) (R : Value → Heap → Prop) (h : Heap) : Prop :=
 Hp Try.prog false (Instr.box 66 m0) (fun m1 h_1 => 
 Hp Try.prog false (pure (.func (.func 99) #[] #[m1])) (fun t3 h_2 => 
 R t3 h_2) h_1 ⟨⟩) h ⟨⟩

theorem n91_calls {m0 : Value} {R : Value → Heap → Prop} {h : Heap} (H : n91 m0 R h) : CallsH Try.prog 91 #[m0] h R ⟨⟩ :=
 callsH_of_eq Try.follow .l Try.func91 (by kernel_rfl) (by kernel_rfl) (by kernel_rfl) H

/-- bytes.IndexByte -/
def n92 (b0 c1 : Value) (R : Value → Heap → Prop) (h : Heap) : Prop :=
 ExtH Try.prog 100 #[b0, c1] h (fun t7 h_1 => 
 R t7 h_1) ⟨⟩

theorem n92_calls {b0 c1 : Value} {R : Value → Heap → Prop} {h : Heap} (H : n92 b0 c1 R h) : CallsH Try.prog 92 #[b0, c1] h R ⟨⟩ :=
 callsH_of_eq Try.follow .l Try.func92 (by kernel_rfl) (by kernel_rfl) (by kernel_rfl) H

/-- slices.ContainsFunc[[]palimpsest/api.Fate,palimpsest/api.Fate] -/
def n93 (s0 f1 : Value) (R : Value → Heap → Prop) (h : Heap) : Prop :=
 CallsH Try.prog 101 #[s0, f1] h (fun t7 h_1 => 
 Hp Try.prog false (binS .geq 3 (.tmp 7) (.const (.int .i64 0)) t7 (.int .i64 0)) (fun t8 h_2 => 
 R t8 h_2) h_1 ⟨⟩) ⟨⟩

theorem n93_calls {s0 f1 : Value} {R : Value → Heap → Prop} {h : Heap} (H : n93 s0 f1 R h) : CallsH Try.prog 93 #[s0, f1] h R ⟨⟩ :=
 callsH_of_eq Try.follow .l Try.func93 (by kernel_rfl) (by kernel_rfl) (by kernel_rfl) H

/-- palimpsest/store.right$1 -/
def n94 (f0 : Value) (R : Value → Heap → Prop) (h : Heap) : Prop :=
 Hp Try.prog false (Instr.box 107 f0) (fun f1 h_1 => 
 Hp Try.prog false (Instr.fieldAt 107 f1 0) (fun t3 h_2 => 
 Hp Try.prog false (Instr.loadAt 105 t3) (fun t4 h_3 => 
 Hp Try.prog false (binS .lss 105 (.tmp 4) (.const (.int .i64 0)) t4 (.int .i64 0)) (fun t5 h_4 => 
 Join1 (fun k h_5 => guardP t5 false (Hp Try.prog false (Instr.fieldAt 107 f1 0) k h_5 ⟨⟩) (k undef h_5) ⟨⟩ ⟨⟩) (fun t7 h_6 => 
 Join1 (fun k_1 h_7 => guardP t5 false (Hp Try.prog false (Instr.loadAt 105 t7) k_1 h_7 ⟨⟩) (k_1 undef h_7) ⟨⟩ ⟨⟩) (fun t8 h_8 => 
 Join1 (fun k_2 h_9 => guardP t5 false (Hp Try.prog false (binS .gtr 105 (.tmp 8) (.const (.int .i64 2)) t8 (.int .i64 2)) k_2 h_9 ⟨⟩) (k_2 undef h_9) ⟨⟩ ⟨⟩) (fun t9 h_10 => 
 Hp Try.prog false (pickS t5 (.bool true) t9) (fun t10 h_11 => 
 R t10 h_11) h_10 ⟨⟩) h_8 ⟨⟩ ⟨⟩) h_6 ⟨⟩ ⟨⟩) h_4 ⟨⟩ ⟨⟩) h_3 ⟨⟩) h_2 ⟨⟩) h_1 ⟨⟩) h ⟨⟩

theorem n94_calls {f0 : Value} {R : Value → Heap → Prop} {h : Heap} (H : n94 f0 R h) : CallsH Try.prog 94 #[f0] h R ⟨⟩ :=
 callsH_of_eq Try.follow .l Try.func94 (by kernel_rfl) (by kernel_rfl) (by kernel_rfl) H

/-- slices.AppendSeq[[]string,string] -/
def n96 (s0 seq1 : Value) (R : Value → Heap → Prop) (h : Heap) : Prop :=
 Hp Try.prog false (Instr.box 48 s0) (fun s2 h_1 => 
 JoinN 1 (fun (k : Value → Heap → Prop) h_2 =>
 JoinN 1 (fun (k_1 : Value → Heap → Prop) h_3 =>
 RangeC Try.prog none seq1 1 (.tuple #[]) (fun l args bg Nb Jb h_4 =>
 bg (fun h_5 =>
 Hp Try.prog false (Instr.loadAt 48 s2) (fun t8 h_6 => 
 Hp Try.prog false (Instr.buildSlice 48 1 #[(0, (getV args 0))]) (fun t10 h_7 => 
 Hp Try.prog false (Builtin.append_ #[48, 48] 48 #[t8, t10]) (fun t11 h_8 => 
 Hp Try.prog false (storeS 48 s2 t11) (fun _ h_9 => 
 Nb h_9) h_8 ⟨⟩) h_7 ⟨⟩) h_6 ⟨⟩) h_5 ⟨⟩) h_4)
 (fun D h_10 =>
 k_1 D h_10)
 (fun D_1 h_11 =>
 RetD D_1 h_11 (fun h_12 =>
 R (.slice none 0 0) h_12) ⟨⟩)
 (fun id D_2 h_13 => bif Nat.beq id 0 then (k_1 D_2 h_13) else False) h_3 ⟨⟩ ⟨⟩ ⟨⟩ ⟨⟩)
 (fun D_3 h_14 =>
 k D_3 h_14) h_2 ⟨⟩ ⟨⟩)
 (fun D_4 h_15 =>
 Hp Try.prog false (Instr.loadAt 48 s2) (fun t12 h_16 => 
 RetD D_4 h_16 (fun h_17 =>
 R t12 h_17) ⟨⟩) h_15 ⟨⟩) h_1 ⟨⟩ ⟨⟩) h ⟨⟩

theorem n96_calls {s0 seq1 : Value} {R : Value → Heap → Prop} {h : Heap} (H : n96 s0 seq1 R h) : CallsH Try.prog 96 #[s0, seq1] h R ⟨⟩ :=
 callsH_of_eq Try.follow (.n none .l (.n (some [0]) (.n none .l (.n (some [0]) .l .l)) .l)) Try.func96 (by kernel_rfl) (by kernel_rfl) (by kernel_rfl) H

/-- maps.All[map[string]*palimpsest/store.file,string,*palimpsest/store.file]$1 -/
def n99 (yield0 t1 : Value) (R : Value → Heap → Prop) (h : Heap) : Prop :=
 Hp Try.prog false (Instr.loadAt 66 t1) (fun t5 h_1 => 
 Hp Try.prog false (Instr.range 66 t5) (fun t6 h_2 => 
 LoopC 0 (fun (X : Heap → Prop) => fun h_3 =>
 Hp Try.prog false (Instr.next t6 false 0) (fun t7 h_4 => 
 Hp Try.prog false (Instr.extract t7 0) (fun t8 h_5 => 
 CondP t8 (
 Hp Try.prog false (Instr.entry t6) (fun t9 h_6 => 
 Hp Try.prog false (Instr.extract t9 0) (fun t10 h_7 => 
 Hp Try.prog false (Instr.extract t9 1) (fun t11 h_8 => 
 InvokeH Try.prog yield0 #[t10, t11] h_8 (fun t15 h_9 => 
 Hp Try.prog false (Op.unary .not t15) (fun t16 h_10 => 
 CondP t16 (
 R (.tuple #[]) h_10) (
 X h_10) ⟨⟩ ⟨⟩) h_9 ⟨⟩) ⟨⟩) h_7 ⟨⟩) h_6 ⟨⟩) h_5 ⟨⟩) (
 R (.tuple #[]) h_5) ⟨⟩ ⟨⟩) h_4 ⟨⟩) h_3 ⟨⟩) [] h_2 ⟨⟩) h_1 ⟨⟩) h ⟨⟩

theorem n99_calls {yield0 t1 : Value} {R : Value → Heap → Prop} {h : Heap} (H : n99 yield0 t1 R h) : CallsH Try.prog 99 #[yield0, t1] h R ⟨⟩ :=
 callsH_of_eq Try.follow (.n none .l (.n none (.n (some []) .l .l) .l)) Try.func99 (by kernel_rfl) (by kernel_rfl) (by kernel_rfl) H

/-- slices.IndexFunc[[]palimpsest/api.Fate,palimpsest/api.Fate] -/
def n101 (s0 f1 : Value) (R : Value → Heap → Prop) (h : Heap) : Prop :=
 Hp Try.prog false (Builtin.len_ #[41] 3 #[s0]) (fun t7 h_1 => 
 LoopC 1 (fun (X : Value → Heap → Prop) => fun t8 h_2 =>
 Hp Try.prog false (binS .lss 3 (.tmp 8) (.tmp 7) t8 t7) (fun t9 h_3 => 
 CondP t9 (
 Hp Try.prog false (Instr.indexAt 41 s0 t8) (fun t14 h_4 => 
 Hp Try.prog false (Instr.loadAt 107 t14) (fun t15 h_5 => 
 InvokeH Try.prog f1 #[t15] h_5 (fun t16 h_6 => 
 CondP t16 (
 R t8 h_6) (
 Hp Try.prog false (binS .add 3 (.tmp 8) (.const (.int .i64 1)) t8 (.int .i64 1)) (fun t18 h_7 => 
 X t18 h_7) h_6 ⟨⟩) ⟨⟩ ⟨⟩) ⟨⟩) h_4 ⟨⟩) h_3 ⟨⟩) (
 R (.int .i64 (-1)) h_3) ⟨⟩ ⟨⟩) h_2 ⟨⟩) [(.int .i64 0)] h_1 ⟨⟩) h ⟨⟩

theorem n101_calls {s0 f1 : Value} {R : Value → Heap → Prop} {h : Heap} (H : n101 s0 f1 R h) : CallsH Try.prog 101 #[s0, f1] h R ⟨⟩ :=
 callsH_of_eq Try.follow (.n none .l (.n none (.n none .l (.n none (.n (some [9]) .l .l) .l)) .l)) Try.func101 (by kernel_rfl) (by kernel_rfl) (by kernel_rfl) H

end Go.Proofs.Ytdmcaaojapcbcaa

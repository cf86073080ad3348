/- Printed by wip/tools/gen.py: the condition of each function, and that a call meets it. -/
import Derived.Test.YtdmcaaojapcbcaaVcFun
import Derived.Test.YtdmcaaojapcbcaaProg
import Derived.Test.YtdmcaaojapcbcaaNiceK
import Derived.Test.YtdmcaaojapcbcaaNiceO
import Derived.Test.YtdmcaaojapcbcaaNiceR
set_option maxRecDepth 100000
set_option linter.unusedVariables false
namespace Go.Proofs.Ytdmcaaojapcbcaa
open Go.Vc

/-- palimpsest/stops.Count -/
def n13 (s0 : Value) (R : Value → Heap → Prop) (h : Heap) : Prop :=
 CallsH Try.prog 44 #[s0] h (fun t6 h_1 => 
 CondP t6 (
 R (.tuple #[(.int .i64 0), (.int .i64 1)]) h_1) (
 CallsH Try.prog 23 #[s0] h_1 (fun t9 h_2 => 
 Hp Try.prog false (binS .gtr 3 (.tmp 9) (.const (.int .i64 62)) t9 (.int .i64 62)) (fun t10 h_3 => 
 CondP t10 (
 R (.tuple #[(.int .i64 0), (.int .i64 3)]) h_3) (
 CallsH Try.prog 23 #[s0] h_3 (fun t12 h_4 => 
 Hp Try.prog false (binS .shl 2 (.const (.int .i64 1)) (.tmp 12) (.int .i64 1) t12) (fun t13 h_5 => 
 R (.tuple #[t13, (.int .i64 0)]) h_5) h_4 ⟨⟩) ⟨⟩) ⟨⟩ ⟨⟩) h_2 ⟨⟩) ⟨⟩) ⟨⟩ ⟨⟩) ⟨⟩

theorem n13_calls {s0 : Value} {R : Value → Heap → Prop} {h : Heap} (H : n13 s0 R h) : CallsH Try.prog 13 #[s0] h R ⟨⟩ :=
 callsH_of_eq Try.follow .l Try.func13 (by kernel_rfl) (by kernel_rfl) (by kernel_rfl) H

/-- palimpsest/stops.Plain -/
def n14 (s0 picks1 : Value) (R : Value → Heap → Prop) (h : Heap) : Prop :=
 CallsH Try.prog 44 #[s0] h (fun t11 h_1 => 
 CondP t11 (
 R (.tuple #[(.slice none 0 0), (.int .i64 1)]) h_1) (
 CallsH Try.prog 45 #[picks1, (.func (.func 46) #[] #[])] h_1 (fun t14 h_2 => 
 CondP t14 (
 R (.tuple #[(.slice none 0 0), (.int .i64 2)]) h_2) (
 CallsH Try.prog 23 #[s0] h_2 (fun t16 h_3 => 
 Hp Try.prog false (Instr.makeSlice 23 t16 t16) (fun t17 h_4 => 
 Hp Try.prog false (Builtin.len_ #[23] 3 #[picks1]) (fun t20 h_5 => 
 Hp Try.prog false (Builtin.len_ #[23] 3 #[t17]) (fun t22 h_6 => 
 Hp Try.prog false (Builtin.min_ #[3, 3] 3 #[t20, t22]) (fun t23 h_7 => 
 Hp Try.prog false (Instr.sliceAt 23 picks1 none (some t23) none) (fun t24 h_8 => 
 Hp Try.prog false (Builtin.len_ #[23] 3 #[t24]) (fun t25 h_9 => 
 LoopC 1 (fun (X : Value → Heap → Prop) => fun t26 h_10 =>
 Hp Try.prog false (binS .lss 3 (.tmp 26) (.tmp 25) t26 t25) (fun t27 h_11 => 
 CondP t27 (
 Hp Try.prog false (Instr.indexAt 23 t24 t26) (fun t29 h_12 => 
 Hp Try.prog false (Instr.loadAt 3 t29) (fun t30 h_13 => 
 Hp Try.prog false (binS .rem 3 (.tmp 33) (.const (.int .i64 2)) t30 (.int .i64 2)) (fun t34 h_14 => 
 Hp Try.prog false (Instr.indexAt 23 t17 t26) (fun t35 h_15 => 
 Hp Try.prog false (storeS 3 t35 t34) (fun _ h_16 => 
 Hp Try.prog false (binS .add 3 (.tmp 26) (.const (.int .i64 1)) t26 (.int .i64 1)) (fun t36 h_17 => 
 X t36 h_17) h_16 ⟨⟩) h_15 ⟨⟩) h_14 ⟨⟩) h_13 ⟨⟩) h_12 ⟨⟩) h_11 ⟨⟩) (
 R (.tuple #[t17, (.int .i64 0)]) h_11) ⟨⟩ ⟨⟩) h_10 ⟨⟩) [(.int .i64 0)] h_9 ⟨⟩) h_8 ⟨⟩) h_7 ⟨⟩) h_6 ⟨⟩) h_5 ⟨⟩) h_4 ⟨⟩) h_3 ⟨⟩) ⟨⟩) ⟨⟩ ⟨⟩) ⟨⟩) ⟨⟩ ⟨⟩) ⟨⟩

theorem n14_calls {s0 picks1 : Value} {R : Value → Heap → Prop} {h : Heap} (H : n14 s0 picks1 R h) : CallsH Try.prog 14 #[s0, picks1] h R ⟨⟩ :=
 callsH_of_eq Try.follow (.n none .l (.n none .l (.n none .l (.n none (.n none .l (.n none (.n (some [27]) .l .l) .l)) .l)))) Try.func14 (by kernel_rfl) (by kernel_rfl) (by kernel_rfl) H

/-- palimpsest/stops.Number -/
def n15 (s0 picks1 : Value) (R : Value → Heap → Prop) (h : Heap) : Prop :=
 CallsH Try.prog 14 #[s0, picks1] h (fun t13 h_1 => 
 Hp Try.prog false (Instr.extract t13 0) (fun t14 h_2 => 
 Hp Try.prog false (Instr.extract t13 1) (fun t15 h_3 => 
 Hp Try.prog false (binS .neq 31 (.tmp 16) (.const (.int .i64 0)) t15 (.int .i64 0)) (fun t17 h_4 => 
 CondP t17 (
 RetD (.tuple #[]) h_4 (fun h_5 =>
 R (.tuple #[(.int .i64 0), t15]) h_5) ⟨⟩) (
 Hp Try.prog false (Builtin.len_ #[23] 3 #[t14]) (fun t20 h_6 => 
 Hp Try.prog false (binS .gtr 3 (.tmp 20) (.const (.int .i64 62)) t20 (.int .i64 62)) (fun t21 h_7 => 
 CondP t21 (
 RetD (.tuple #[]) h_7 (fun h_8 =>
 R (.tuple #[(.int .i64 0), (.int .i64 3)]) h_8) ⟨⟩) (
 Hp Try.prog false (Instr.alloc 2 true undef) (fun n8 h_9 => 
 Hp Try.prog false (storeS 2 n8 (.int .i64 0)) (fun _ h_10 => 
 JoinN 1 (fun (k : Value → Heap → Prop) h_11 =>
 CallsH Try.prog 47 #[t14] h_11 (fun t23 h_12 => 
 JoinN 1 (fun (k_1 : Value → Heap → Prop) h_13 =>
 RangeC Try.prog none t23 1 (.tuple #[]) (fun l args bg Nb Jb h_14 =>
 bg (fun h_15 =>
 Hp Try.prog false (Instr.loadAt 2 n8) (fun t25 h_16 => 
 Hp Try.prog false (binS .shl 2 (.tmp 25) (.const (.int .u64 1)) t25 (.int .u64 1)) (fun t26 h_17 => 
 Hp Try.prog false (storeS 2 n8 t26) (fun _ h_18 => 
 Hp Try.prog false (Instr.loadAt 2 n8) (fun t27 h_19 => 
 Hp Try.prog false (binS .or 2 (.tmp 27) (.tmp 28) t27 (getV args 0)) (fun t29 h_20 => 
 Hp Try.prog false (storeS 2 n8 t29) (fun _ h_21 => 
 Nb h_21) h_20 ⟨⟩) h_19 ⟨⟩) h_18 ⟨⟩) h_17 ⟨⟩) h_16 ⟨⟩) h_15 ⟨⟩) h_14)
 (fun D h_22 =>
 k_1 D h_22)
 (fun D_1 h_23 =>
 RetD D_1 h_23 (fun h_24 =>
 R (.tuple #[(.int .i64 0), (.int .i64 0)]) h_24) ⟨⟩)
 (fun id D_2 h_25 => bif Nat.beq id 0 then (k_1 D_2 h_25) else False) h_13 ⟨⟩ ⟨⟩ ⟨⟩ ⟨⟩)
 (fun D_3 h_26 =>
 k D_3 h_26) h_12 ⟨⟩ ⟨⟩) ⟨⟩)
 (fun D_4 h_27 =>
 Hp Try.prog false (Instr.loadAt 2 n8) (fun t30 h_28 => 
 RetD D_4 h_28 (fun h_29 =>
 R (.tuple #[t30, (.int .i64 0)]) h_29) ⟨⟩) h_27 ⟨⟩) h_10 ⟨⟩ ⟨⟩) h_9 ⟨⟩) h_7 ⟨⟩) ⟨⟩ ⟨⟩) h_6 ⟨⟩) h_4 ⟨⟩) ⟨⟩ ⟨⟩) h_3 ⟨⟩) h_2 ⟨⟩) h_1 ⟨⟩) ⟨⟩

theorem n15_calls {s0 picks1 : Value} {R : Value → Heap → Prop} {h : Heap} (H : n15 s0 picks1 R h) : CallsH Try.prog 15 #[s0, picks1] h R ⟨⟩ :=
 callsH_of_eq Try.follow (.n none .l (.n none .l (.n none .l (.n none .l (.n none .l (.n (some [0]) (.n none .l (.n (some [0]) .l .l)) .l)))))) Try.func15 (by kernel_rfl) (by kernel_rfl) (by kernel_rfl) H

/-- palimpsest/stops.At -/
def n16 (s0 n1 : Value) (R : Value → Heap → Prop) (h : Heap) : Prop :=
 CallsH Try.prog 44 #[s0] h (fun t10 h_1 => 
 CondP t10 (
 R (.tuple #[(.slice none 0 0), (.int .i64 1)]) h_1) (
 Hp Try.prog false (binS .lss 2 (.tmp 12) (.const (.int .i64 0)) n1 (.int .i64 0)) (fun t13 h_2 => 
 CondP t13 (
 R (.tuple #[(.slice none 0 0), (.int .i64 2)]) h_2) (
 CallsH Try.prog 13 #[s0] h_2 (fun t16 h_3 => 
 Hp Try.prog false (Instr.extract t16 0) (fun t17 h_4 => 
 Hp Try.prog false (Instr.extract t16 1) (fun t18 h_5 => 
 Hp Try.prog false (binS .neq 31 (.tmp 20) (.const (.int .i64 0)) t18 (.int .i64 0)) (fun t21 h_6 => 
 CondP t21 (
 R (.tuple #[(.slice none 0 0), t18]) h_6) (
 Hp Try.prog false (binS .geq 2 (.tmp 24) (.tmp 25) n1 t17) (fun t26 h_7 => 
 CondP t26 (
 R (.tuple #[(.slice none 0 0), (.int .i64 4)]) h_7) (
 CallsH Try.prog 23 #[s0] h_7 (fun t28 h_8 => 
 CallsH Try.prog 48 #[t28, n1] h_8 (fun t30 h_9 => 
 R (.tuple #[t30, (.int .i64 0)]) h_9) ⟨⟩) ⟨⟩) ⟨⟩ ⟨⟩) h_6 ⟨⟩) ⟨⟩ ⟨⟩) h_5 ⟨⟩) h_4 ⟨⟩) h_3 ⟨⟩) ⟨⟩) ⟨⟩ ⟨⟩) h_1 ⟨⟩) ⟨⟩ ⟨⟩) ⟨⟩

theorem n16_calls {s0 n1 : Value} {R : Value → Heap → Prop} {h : Heap} (H : n16 s0 n1 R h) : CallsH Try.prog 16 #[s0, n1] h R ⟨⟩ :=
 callsH_of_eq Try.follow .l Try.func16 (by kernel_rfl) (by kernel_rfl) (by kernel_rfl) H

/-- palimpsest/stops.All -/
def n31 (s0 : Value) (R : Value → Heap → Prop) (h : Heap) : Prop :=
 CallsH Try.prog 44 #[s0] h (fun t5 h_1 => 
 CondP t5 (
 R (.func (.func 70) #[] #[]) h_1) (
 CallsH Try.prog 23 #[s0] h_1 (fun t7 h_2 => 
 Hp Try.prog false (Instr.alloc 3 true undef) (fun pieces3 h_3 => 
 Hp Try.prog false (storeS 3 pieces3 t7) (fun _ h_4 => 
 Hp Try.prog false (pure (.func (.func 71) #[] #[pieces3])) (fun t8 h_5 => 
 R t8 h_5) h_4 ⟨⟩) h_3 ⟨⟩) h_2 ⟨⟩) ⟨⟩) ⟨⟩ ⟨⟩) ⟨⟩

theorem n31_calls {s0 : Value} {R : Value → Heap → Prop} {h : Heap} (H : n31 s0 R h) : CallsH Try.prog 31 #[s0] h R ⟨⟩ :=
 callsH_of_eq Try.follow .l Try.func31 (by kernel_rfl) (by kernel_rfl) (by kernel_rfl) H

/-- palimpsest/stops.Images -/
def n32 (s0 : Value) (R : Value → Heap → Prop) (h : Heap) : Prop :=
 CallsH Try.prog 44 #[s0] h (fun t5 h_1 => 
 CondP t5 (
 R (.func (.func 74) #[] #[]) h_1) (
 CallsH Try.prog 69 #[s0] h_1 (fun t7 h_2 => 
 Hp Try.prog false (Instr.alloc 26 true undef) (fun mine3 h_3 => 
 Hp Try.prog false (storeS 26 mine3 t7) (fun _ h_4 => 
 Hp Try.prog false (pure (.func (.func 75) #[] #[mine3])) (fun t8 h_5 => 
 R t8 h_5) h_4 ⟨⟩) h_3 ⟨⟩) h_2 ⟨⟩) ⟨⟩) ⟨⟩ ⟨⟩) ⟨⟩

theorem n32_calls {s0 : Value} {R : Value → Heap → Prop} {h : Heap} (H : n32 s0 R h) : CallsH Try.prog 32 #[s0] h R ⟨⟩ :=
 callsH_of_eq Try.follow .l Try.func32 (by kernel_rfl) (by kernel_rfl) (by kernel_rfl) H

/-- palimpsest/stops.Some -/
def n38 (s0 seed1 n2 : Value) (R : Value → Heap → Prop) (h : Heap) : Prop :=
 CallsH Try.prog 44 #[s0] h (fun t15 h_1 => 
 CondP t15 (
 R (.tuple #[(.slice none 0 0), (.int .i64 1)]) h_1) (
 Hp Try.prog false (binS .lss 3 (.tmp 17) (.const (.int .i64 0)) n2 (.int .i64 0)) (fun t18 h_2 => 
 CondP t18 (
 R (.tuple #[(.slice none 0 0), (.int .i64 2)]) h_2) (
 Hp Try.prog false (binS .gtr 3 (.tmp 20) (.const (.int .i64 1000)) n2 (.int .i64 1000)) (fun t21 h_3 => 
 CondP t21 (
 R (.tuple #[(.slice none 0 0), (.int .i64 3)]) h_3) (
 LoopC 3 (fun (X : Value → Value → Value → Heap → Prop) => fun out8 x9 t24 h_4 =>
 Hp Try.prog false (binS .lss 3 (.tmp 24) (.tmp 23) t24 n2) (fun t25 h_5 => 
 CondP t25 (
 CallsH Try.prog 23 #[s0] h_5 (fun t28 h_6 => 
 Hp Try.prog false (Instr.makeSlice 23 t28 t28) (fun t29 h_7 => 
 Hp Try.prog false (Builtin.len_ #[23] 3 #[t29]) (fun t31 h_8 => 
 LoopC 2 (fun (X_1 : Value → Value → Heap → Prop) => fun x9_1 t32 h_9 =>
 Hp Try.prog false (binS .lss 3 (.tmp 32) (.tmp 31) t32 t31) (fun t33 h_10 => 
 CondP t33 (
 JoinN 1 (fun (k : Value → Heap → Prop) h_11 =>
 JoinN 1 (fun (k_1 : Value → Heap → Prop) h_12 =>
 JoinN 1 (fun (k_2 : Value → Heap → Prop) h_13 =>
 Hp Try.prog false (binS .eql 3 (.tmp 35) (.const (.int .i64 0)) t24 (.int .i64 0)) (fun t47 h_14 => 
 CondP t47 (
 k_2 x9_1 h_14) (
 Hp Try.prog false (binS .eql 3 (.tmp 35) (.const (.int .i64 1)) t24 (.int .i64 1)) (fun t49 h_15 => 
 CondP t49 (
 Hp Try.prog false (Instr.indexAt 23 t29 t32) (fun t52 h_16 => 
 Hp Try.prog false (storeS 3 t52 (.int .i64 1)) (fun _ h_17 => 
 k_2 x9_1 h_17) h_16 ⟨⟩) h_15 ⟨⟩) (
 Hp Try.prog false (binS .mul 82 (.tmp 36) (.const (.int .u64 6364136223846793005)) x9_1 (.int .u64 6364136223846793005)) (fun t37 h_18 => 
 Hp Try.prog false (binS .add 82 (.tmp 38) (.const (.int .u64 1442695040888963407)) t37 (.int .u64 1442695040888963407)) (fun t39 h_19 => 
 Hp Try.prog false (binS .shr 82 (.tmp 42) (.const (.int .u64 63)) t39 (.int .u64 63)) (fun t43 h_20 => 
 Hp Try.prog false (convert 82 3 t43) (fun t44 h_21 => 
 Hp Try.prog false (Instr.indexAt 23 t29 t32) (fun t45 h_22 => 
 Hp Try.prog false (storeS 3 t45 t44) (fun _ h_23 => 
 k_2 t39 h_23) h_22 ⟨⟩) h_21 ⟨⟩) h_20 ⟨⟩) h_19 ⟨⟩) h_18 ⟨⟩) h_15 ⟨⟩) ⟨⟩ ⟨⟩) h_14 ⟨⟩) ⟨⟩ ⟨⟩) h_13 ⟨⟩)
 (fun x9_2 h_24 =>
 k_1 x9_2 h_24) h_12 ⟨⟩ ⟨⟩)
 (fun x9_3 h_25 =>
 k x9_3 h_25) h_11 ⟨⟩ ⟨⟩)
 (fun x9_4 h_26 =>
 Hp Try.prog false (binS .add 3 (.tmp 32) (.const (.int .i64 1)) t32 (.int .i64 1)) (fun t53 h_27 => 
 X_1 x9_4 t53 h_27) h_26 ⟨⟩) h_10 ⟨⟩ ⟨⟩) (
 Hp Try.prog false (Instr.buildSlice 83 1 #[(0, t29)]) (fun t56 h_28 => 
 Hp Try.prog false (Builtin.append_ #[83, 83] 83 #[out8, t56]) (fun t57 h_29 => 
 Hp Try.prog false (binS .add 3 (.tmp 24) (.const (.int .i64 1)) t24 (.int .i64 1)) (fun t58 h_30 => 
 X t57 x9_1 t58 h_30) h_29 ⟨⟩) h_28 ⟨⟩) h_10 ⟨⟩) ⟨⟩ ⟨⟩) h_9 ⟨⟩) [x9, (.int .i64 0)] h_8 ⟨⟩) h_7 ⟨⟩) h_6 ⟨⟩) ⟨⟩) (
 R (.tuple #[out8, (.int .i64 0)]) h_5) ⟨⟩ ⟨⟩) h_4 ⟨⟩) [(.slice none 0 0), seed1, (.int .i64 0)] h_3 ⟨⟩) ⟨⟩ ⟨⟩) h_2 ⟨⟩) ⟨⟩ ⟨⟩) h_1 ⟨⟩) ⟨⟩ ⟨⟩) ⟨⟩

theorem n38_calls {s0 seed1 n2 : Value} {R : Value → Heap → Prop} {h : Heap} (H : n38 s0 seed1 n2 R h) : CallsH Try.prog 38 #[s0, seed1, n2] h R ⟨⟩ :=
 callsH_of_eq Try.follow (.n none .l (.n none .l (.n none .l (.n none .l (.n none (.n none .l (.n none (.n (some [9, 10, 25]) (.n none .l (.n none .l (.n none (.n none (.n none .l (.n none .l (.n none (.n none .l (.n none (.n (some [10, 33]) (.n none .l (.n none .l (.n (some [10]) (.n (some [10]) (.n none .l (.n none .l (.n (some [10]) .l .l))) .l) .l))) .l) .l)) .l))) .l) .l))) .l) .l)) .l))))) Try.func38 (by kernel_rfl) (by kernel_rfl) (by kernel_rfl) H

/-- palimpsest/stops.none -/
def n44 (s0 : Value) (R : Value → Heap → Prop) (h : Heap) : Prop :=
 Hp Try.prog false (binS .eql 26 (.tmp 3) (.const (.pointer none)) s0 (.pointer none)) (fun t4 h_1 => 
 Join1 (fun k h_2 => guardP t4 false (k s0 h_2) (k undef h_2) ⟨⟩ ⟨⟩) (fun t6 h_3 => 
 Join1 (fun k_1 h_4 => guardP t4 false (CallsH Try.prog 69 #[t6] h_4 k_1 ⟨⟩) (k_1 undef h_4) ⟨⟩ ⟨⟩) (fun t7 h_5 => 
 Join1 (fun k_2 h_6 => guardP t4 false (Hp Try.prog false (binS .eql 26 (.tmp 7) (.const (.pointer none)) t7 (.pointer none)) k_2 h_6 ⟨⟩) (k_2 undef h_6) ⟨⟩ ⟨⟩) (fun t8 h_7 => 
 Hp Try.prog false (pickS t4 (.bool true) t8) (fun t9 h_8 => 
 R t9 h_8) h_7 ⟨⟩) h_5 ⟨⟩ ⟨⟩) h_3 ⟨⟩ ⟨⟩) h_1 ⟨⟩ ⟨⟩) h ⟨⟩

theorem n44_calls {s0 : Value} {R : Value → Heap → Prop} {h : Heap} (H : n44 s0 R h) : CallsH Try.prog 44 #[s0] h R ⟨⟩ :=
 callsH_of_eq Try.follow .l Try.func44 (by kernel_rfl) (by kernel_rfl) (by kernel_rfl) H

/-- slices.ContainsFunc[[]int,int] -/
def n45 (s0 f1 : Value) (R : Value → Heap → Prop) (h : Heap) : Prop :=
 CallsH Try.prog 85 #[s0, f1] h (fun t7 h_1 => 
 Hp Try.prog false (binS .geq 3 (.tmp 7) (.const (.int .i64 0)) t7 (.int .i64 0)) (fun t8 h_2 => 
 R t8 h_2) h_1 ⟨⟩) ⟨⟩

theorem n45_calls {s0 f1 : Value} {R : Value → Heap → Prop} {h : Heap} (H : n45 s0 f1 R h) : CallsH Try.prog 45 #[s0, f1] h R ⟨⟩ :=
 callsH_of_eq Try.follow .l Try.func45 (by kernel_rfl) (by kernel_rfl) (by kernel_rfl) H

/-- palimpsest/stops.Plain$1 -/
def n46 (p0 : Value) (R : Value → Heap → Prop) (h : Heap) : Prop :=
 Hp Try.prog false (binS .lss 3 (.tmp 3) (.const (.int .i64 0)) p0 (.int .i64 0)) (fun t4 h_1 => 
 R t4 h_1) h ⟨⟩

theorem n46_calls {p0 : Value} {R : Value → Heap → Prop} {h : Heap} (H : n46 p0 R h) : CallsH Try.prog 46 #[p0] h R ⟨⟩ :=
 callsH_of_eq Try.follow .l Try.func46 (by kernel_rfl) (by kernel_rfl) (by kernel_rfl) H

/-- slices.Values[[]int,int] -/
def n47 (s0 : Value) (R : Value → Heap → Prop) (h : Heap) : Prop :=
 Hp Try.prog false (Instr.box 23 s0) (fun s1 h_1 => 
 Hp Try.prog false (pure (.func (.func 86) #[] #[s1])) (fun t3 h_2 => 
 R t3 h_2) h_1 ⟨⟩) h ⟨⟩

theorem n47_calls {s0 : Value} {R : Value → Heap → Prop} {h : Heap} (H : n47 s0 R h) : CallsH Try.prog 47 #[s0] h R ⟨⟩ :=
 callsH_of_eq Try.follow .l Try.func47 (by kernel_rfl) (by kernel_rfl) (by kernel_rfl) H

/-- palimpsest/stops.way -/
def n48 (pieces0 n1 : Value) (R : Value → Heap → Prop) (h : Heap) : Prop :=
 Hp Try.prog false (Instr.makeSlice 23 pieces0 pieces0) (fun t8 h_1 => 
 JoinN 0 (fun (k : Heap → Prop) h_2 =>
 Hp Try.prog false (binS .sub 3 (.tmp 9) (.const (.int .i64 1)) pieces0 (.int .i64 1)) (fun t10 h_3 => 
 JoinN 0 (fun (k_1 : Heap → Prop) h_4 =>
 LoopC 2 (fun (X : Value → Value → Heap → Prop) => fun n1_1 i6 h_5 =>
 Hp Try.prog false (binS .geq 3 (.tmp 11) (.const (.int .i64 0)) i6 (.int .i64 0)) (fun t12 h_6 => 
 CondP t12 (
 Hp Try.prog false (binS .eql 2 (.tmp 15) (.const (.int .i64 0)) n1_1 (.int .i64 0)) (fun t16 h_7 => 
 CondP t16 (
 k_1 h_7) (
 Hp Try.prog false (binS .and 2 (.tmp 19) (.const (.int .i64 1)) n1_1 (.int .i64 1)) (fun t20 h_8 => 
 Hp Try.prog false (Instr.indexAt 23 t8 i6) (fun t21 h_9 => 
 Hp Try.prog false (storeS 3 t21 t20) (fun _ h_10 => 
 Hp Try.prog false (binS .shr 2 (.tmp 22) (.const (.int .u64 1)) n1_1 (.int .u64 1)) (fun t23 h_11 => 
 Hp Try.prog false (binS .sub 3 (.tmp 13) (.const (.int .i64 1)) i6 (.int .i64 1)) (fun t14 h_12 => 
 X t23 t14 h_12) h_11 ⟨⟩) h_10 ⟨⟩) h_9 ⟨⟩) h_8 ⟨⟩) h_7 ⟨⟩) ⟨⟩ ⟨⟩) h_6 ⟨⟩) (
 k_1 h_6) ⟨⟩ ⟨⟩) h_5 ⟨⟩) [n1, t10] h_4 ⟨⟩)
 (fun h_13 =>
 k h_13) h_3 ⟨⟩ ⟨⟩) h_2 ⟨⟩)
 (fun h_14 =>
 R t8 h_14) h_1 ⟨⟩ ⟨⟩) h ⟨⟩

theorem n48_calls {pieces0 n1 : Value} {R : Value → Heap → Prop} {h : Heap} (H : n48 pieces0 n1 R h) : CallsH Try.prog 48 #[pieces0, n1] h R ⟨⟩ :=
 callsH_of_eq Try.follow (.n none .l (.n none (.n none .l (.n none .l (.n (some []) (.n none .l (.n (some []) (.n (some [2, 7]) .l .l) .l)) .l))) .l)) Try.func48 (by kernel_rfl) (by kernel_rfl) (by kernel_rfl) H

/-- palimpsest/stops.All$1 -/
def n70 (t0 : Value) (R : Value → Heap → Prop) (h : Heap) : Prop :=
 R (.tuple #[]) h

theorem n70_calls {t0 : Value} {R : Value → Heap → Prop} {h : Heap} (H : n70 t0 R h) : CallsH Try.prog 70 #[t0] h R ⟨⟩ :=
 callsH_of_eq Try.follow .l Try.func70 (by kernel_rfl) (by kernel_rfl) (by kernel_rfl) H

/-- palimpsest/stops.All$2 -/
def n71 (yield0 t1 : Value) (R : Value → Heap → Prop) (h : Heap) : Prop :=
 Hp Try.prog false (Instr.box 137 yield0) (fun yield2 h_1 => 
 Hp Try.prog false (Instr.loadAt 3 t1) (fun t3 h_2 => 
 Hp Try.prog false (pure (.func (.func 73) #[] #[yield2, t1])) (fun t4 h_3 => 
 CallsH Try.prog 72 #[t3, t4] h_3 (fun t5 h_4 => 
 R (.tuple #[]) h_4) ⟨⟩) h_2 ⟨⟩) h_1 ⟨⟩) h ⟨⟩

theorem n71_calls {yield0 t1 : Value} {R : Value → Heap → Prop} {h : Heap} (H : n71 yield0 t1 R h) : CallsH Try.prog 71 #[yield0, t1] h R ⟨⟩ :=
 callsH_of_eq Try.follow .l Try.func71 (by kernel_rfl) (by kernel_rfl) (by kernel_rfl) H

/-- palimpsest/stops.numbers -/
def n72 (pieces0 yield1 : Value) (R : Value → Heap → Prop) (h : Heap) : Prop :=
 LoopC 1 (fun (X : Value → Heap → Prop) => fun n4 h_1 =>
 InvokeH Try.prog yield1 #[n4] h_1 (fun t7 h_2 => 
 CondP t7 (
 Hp Try.prog false (binS .add 2 (.tmp 8) (.const (.int .i64 1)) n4 (.int .i64 1)) (fun t9 h_3 => 
 Hp Try.prog false (binS .leq 3 (.tmp 10) (.const (.int .i64 62)) pieces0 (.int .i64 62)) (fun t11 h_4 => 
 Join1 (fun k h_5 => guardP t11 true (k t9 h_5) (k undef h_5) ⟨⟩ ⟨⟩) (fun t13 h_6 => 
 Join1 (fun k_1 h_7 => guardP t11 true (k_1 pieces0 h_7) (k_1 undef h_7) ⟨⟩ ⟨⟩) (fun t14 h_8 => 
 Join1 (fun k_2 h_9 => guardP t11 true (Hp Try.prog false (binS .shl 2 (.const (.int .i64 1)) (.tmp 14) (.int .i64 1) t14) k_2 h_9 ⟨⟩) (k_2 undef h_9) ⟨⟩ ⟨⟩) (fun t15 h_10 => 
 Join1 (fun k_3 h_11 => guardP t11 true (Hp Try.prog false (binS .eql 2 (.tmp 13) (.tmp 15) t13 t15) k_3 h_11 ⟨⟩) (k_3 undef h_11) ⟨⟩ ⟨⟩) (fun t16 h_12 => 
 Hp Try.prog false (pickS t11 t16 (.bool false)) (fun t17 h_13 => 
 CondP t17 (
 R (.tuple #[]) h_13) (
 Hp Try.prog false (binS .rem 2 (.tmp 18) (.const (.int .i64 4611686018427387904)) t9 (.int .i64 4611686018427387904)) (fun t19 h_14 => 
 X t19 h_14) h_13 ⟨⟩) ⟨⟩ ⟨⟩) h_12 ⟨⟩) h_10 ⟨⟩ ⟨⟩) h_8 ⟨⟩ ⟨⟩) h_6 ⟨⟩ ⟨⟩) h_4 ⟨⟩ ⟨⟩) h_3 ⟨⟩) h_2 ⟨⟩) (
 R (.tuple #[]) h_2) ⟨⟩ ⟨⟩) ⟨⟩) [(.int .i64 0)] h ⟨⟩

theorem n72_calls {pieces0 yield1 : Value} {R : Value → Heap → Prop} {h : Heap} (H : n72 pieces0 yield1 R h) : CallsH Try.prog 72 #[pieces0, yield1] h R ⟨⟩ :=
 callsH_of_eq Try.follow (.n none .l (.n none (.n (some [5]) .l .l) .l)) Try.func72 (by kernel_rfl) (by kernel_rfl) (by kernel_rfl) H

/-- palimpsest/stops.All$2$1 -/
def n73 (n0 t1 t2 : Value) (R : Value → Heap → Prop) (h : Heap) : Prop :=
 Hp Try.prog true (Instr.loadAt 137 t1) (fun t5 _ => 
 Hp Try.prog true (Instr.loadAt 3 t2) (fun t6 _ => 
 CallsH Try.prog 48 #[t6, n0] h (fun t8 h_1 => Hp Try.prog true (Instr.loadAt 137 t1) (fun u _ => u = t5) h_1 ⟨⟩ ∧ 
 InvokeH Try.prog t5 #[t8] h_1 (fun t9 h_2 => 
 R t9 h_2) ⟨⟩) ⟨⟩) h ⟨⟩) h ⟨⟩

theorem n73_calls {n0 t1 t2 : Value} {R : Value → Heap → Prop} {h : Heap} (H : n73 n0 t1 t2 R h) : CallsH Try.prog 73 #[n0, t1, t2] h R ⟨⟩ :=
 callsH_of_eq Try.follow .l Try.func73 (by kernel_rfl) (by kernel_rfl) (by kernel_rfl) H

/-- palimpsest/stops.Images$1 -/
def n74 (t0 : Value) (R : Value → Heap → Prop) (h : Heap) : Prop :=
 R (.tuple #[]) h

theorem n74_calls {t0 : Value} {R : Value → Heap → Prop} {h : Heap} (H : n74 t0 R h) : CallsH Try.prog 74 #[t0] h R ⟨⟩ :=
 callsH_of_eq Try.follow .l Try.func74 (by kernel_rfl) (by kernel_rfl) (by kernel_rfl) H

/-- palimpsest/stops.Images$2 -/
def n75 (yield0 t1 : Value) (R : Value → Heap → Prop) (h : Heap) : Prop :=
 Hp Try.prog false (Instr.box 140 yield0) (fun yield2 h_1 => 
 Hp Try.prog false (Instr.loadAt 26 t1) (fun t3 h_2 => 
 CallsH Try.prog 23 #[t3] h_2 (fun t4 h_3 => 
 Hp Try.prog false (pure (.func (.func 76) #[] #[t1, yield2])) (fun t5 h_4 => 
 CallsH Try.prog 72 #[t4, t5] h_4 (fun t6 h_5 => 
 R (.tuple #[]) h_5) ⟨⟩) h_3 ⟨⟩) ⟨⟩) h_1 ⟨⟩) h ⟨⟩

theorem n75_calls {yield0 t1 : Value} {R : Value → Heap → Prop} {h : Heap} (H : n75 yield0 t1 R h) : CallsH Try.prog 75 #[yield0, t1] h R ⟨⟩ :=
 callsH_of_eq Try.follow .l Try.func75 (by kernel_rfl) (by kernel_rfl) (by kernel_rfl) H

/-- palimpsest/stops.Images$2$1 -/
def n76 (n0 t1 t2 : Value) (R : Value → Heap → Prop) (h : Heap) : Prop :=
 Hp Try.prog true (Instr.loadAt 26 t1) (fun t8 _ => 
 Hp Try.prog true (Instr.loadAt 26 t1) (fun t9 _ => 
 CallsH Try.prog 23 #[t9] h (fun t10 h_1 => Hp Try.prog true (Instr.loadAt 26 t1) (fun u _ => u = t8) h_1 ⟨⟩ ∧ 
 CallsH Try.prog 48 #[t10, n0] h_1 (fun t12 h_2 => Hp Try.prog true (Instr.loadAt 26 t1) (fun u _ => u = t8) h_2 ⟨⟩ ∧ 
 CallsH Try.prog 24 #[t8, t12] h_2 (fun t13 h_3 => 
 Hp Try.prog true (Instr.extract t13 0) (fun t14 _ => 
 Hp Try.prog true (Instr.extract t13 1) (fun t15 _ => 
 Hp Try.prog false (Instr.loadAt 140 t2) (fun t16 h_4 => 
 InvokeH Try.prog t16 #[n0, t14] h_4 (fun t19 h_5 => 
 R t19 h_5) ⟨⟩) h_3 ⟨⟩) #[] ⟨⟩) #[] ⟨⟩) ⟨⟩) ⟨⟩) ⟨⟩) h ⟨⟩) h ⟨⟩

theorem n76_calls {n0 t1 t2 : Value} {R : Value → Heap → Prop} {h : Heap} (H : n76 n0 t1 t2 R h) : CallsH Try.prog 76 #[n0, t1, t2] h R ⟨⟩ :=
 callsH_of_eq Try.follow .l Try.func76 (by kernel_rfl) (by kernel_rfl) (by kernel_rfl) H

/-- slices.IndexFunc[[]int,int] -/
def n85 (s0 f1 : Value) (R : Value → Heap → Prop) (h : Heap) : Prop :=
 Hp Try.prog false (Builtin.len_ #[23] 3 #[s0]) (fun t7 h_1 => 
 LoopC 1 (fun (X : Value → Heap → Prop) => fun t8 h_2 =>
 Hp Try.prog false (binS .lss 3 (.tmp 8) (.tmp 7) t8 t7) (fun t9 h_3 => 
 CondP t9 (
 Hp Try.prog false (Instr.indexAt 23 s0 t8) (fun t14 h_4 => 
 Hp Try.prog false (Instr.loadAt 3 t14) (fun t15 h_5 => 
 InvokeH Try.prog f1 #[t15] h_5 (fun t16 h_6 => 
 CondP t16 (
 R t8 h_6) (
 Hp Try.prog false (binS .add 3 (.tmp 8) (.const (.int .i64 1)) t8 (.int .i64 1)) (fun t18 h_7 => 
 X t18 h_7) h_6 ⟨⟩) ⟨⟩ ⟨⟩) ⟨⟩) h_4 ⟨⟩) h_3 ⟨⟩) (
 R (.int .i64 (-1)) h_3) ⟨⟩ ⟨⟩) h_2 ⟨⟩) [(.int .i64 0)] h_1 ⟨⟩) h ⟨⟩

theorem n85_calls {s0 f1 : Value} {R : Value → Heap → Prop} {h : Heap} (H : n85 s0 f1 R h) : CallsH Try.prog 85 #[s0, f1] h R ⟨⟩ :=
 callsH_of_eq Try.follow (.n none .l (.n none (.n none .l (.n none (.n (some [9]) .l .l) .l)) .l)) Try.func85 (by kernel_rfl) (by kernel_rfl) (by kernel_rfl) H

/-- slices.Values[[]int,int]$1 -/
def n86 (yield0 t1 : Value) (R : Value → Heap → Prop) (h : Heap) : Prop :=
 Hp Try.prog false (Instr.loadAt 23 t1) (fun t5 h_1 => 
 Hp Try.prog false (Builtin.len_ #[23] 3 #[t5]) (fun t6 h_2 => 
 LoopC 1 (fun (X : Value → Heap → Prop) => fun t7 h_3 =>
 Hp Try.prog false (binS .lss 3 (.tmp 7) (.tmp 6) t7 t6) (fun t8 h_4 => 
 CondP t8 (
 Hp Try.prog false (Instr.indexAt 23 t5 t7) (fun t9 h_5 => 
 Hp Try.prog false (Instr.loadAt 3 t9) (fun t10 h_6 => 
 InvokeH Try.prog yield0 #[t10] h_6 (fun t13 h_7 => 
 Hp Try.prog false (Op.unary .not t13) (fun t14 h_8 => 
 CondP t14 (
 R (.tuple #[]) h_8) (
 Hp Try.prog false (binS .add 3 (.tmp 7) (.const (.int .i64 1)) t7 (.int .i64 1)) (fun t15 h_9 => 
 X t15 h_9) h_8 ⟨⟩) ⟨⟩ ⟨⟩) h_7 ⟨⟩) ⟨⟩) h_5 ⟨⟩) h_4 ⟨⟩) (
 R (.tuple #[]) h_4) ⟨⟩ ⟨⟩) h_3 ⟨⟩) [(.int .i64 0)] h_2 ⟨⟩) h_1 ⟨⟩) h ⟨⟩

theorem n86_calls {yield0 t1 : Value} {R : Value → Heap → Prop} {h : Heap} (H : n86 yield0 t1 R h) : CallsH Try.prog 86 #[yield0, t1] h R ⟨⟩ :=
 callsH_of_eq Try.follow (.n none .l (.n none (.n (some [8]) .l .l) .l)) Try.func86 (by kernel_rfl) (by kernel_rfl) (by kernel_rfl) H

end Go.Proofs.Ytdmcaaojapcbcaa

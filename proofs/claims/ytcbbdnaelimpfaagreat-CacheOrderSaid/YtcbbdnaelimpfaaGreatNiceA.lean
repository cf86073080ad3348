/- Printed by /tmp/tools2/gen.py: the condition of each function, and that a call meets it. -/
import Derived.Test.YtcbbdnaelimpfaaGreatVcFun
import Derived.Test.YtcbbdnaelimpfaaGreatProg
set_option maxRecDepth 100000
set_option linter.unusedVariables false
namespace Go.Proofs.YtcbbdnaelimpfaaGreat
open Go.Vc

theorem Tryz.follow : Tryz.prog.follows .mixedOrders = true := by kernel_rfl

/-- slices.reverseRangeOrdered[int64] -/
def n134 (data0 a1 b2 : Value) (R : Value → Heap → Prop) (h : Heap) : Prop :=
 Hp Tryz.prog false (binS .sub 3 (.tmp 9) (.const (.int .i64 1)) b2 (.int .i64 1)) (fun t10 h_1 => 
 LoopC 2 (fun (X : Value → Value → Heap → Prop) => fun i6 j7 h_2 =>
 Hp Tryz.prog false (binS .lss 3 (.tmp 11) (.tmp 12) i6 j7) (fun t13 h_3 => 
 CondP t13 (
 Hp Tryz.prog true (Instr.indexAt 102 data0 j7) (fun t20 _ => 
 Hp Tryz.prog true (Instr.loadAt 2 t20) (fun t21 _ => 
 Hp Tryz.prog true (Instr.indexAt 102 data0 i6) (fun t24 _ => 
 Hp Tryz.prog true (Instr.loadAt 2 t24) (fun t25 _ => 
 Hp Tryz.prog true (Instr.indexAt 102 data0 i6) (fun t26 _ => 
 Hp Tryz.prog false (storeS 2 t26 t21) (fun _ h_4 => 
 Hp Tryz.prog true (Instr.indexAt 102 data0 j7) (fun t27 _ => 
 Hp Tryz.prog false (storeS 2 t27 t25) (fun _ h_5 => 
 Hp Tryz.prog false (binS .add 3 (.tmp 28) (.const (.int .i64 1)) i6 (.int .i64 1)) (fun t29 h_6 => 
 Hp Tryz.prog false (binS .sub 3 (.tmp 30) (.const (.int .i64 1)) j7 (.int .i64 1)) (fun t31 h_7 => 
 X t29 t31 h_7) h_6 ⟨⟩) h_5 ⟨⟩) h_4 ⟨⟩) #[] ⟨⟩) h_3 ⟨⟩) #[] ⟨⟩) h_3 ⟨⟩) #[] ⟨⟩) h_3 ⟨⟩) #[] ⟨⟩) (
 R (.tuple #[]) h_3) ⟨⟩ ⟨⟩) h_2 ⟨⟩) [a1, t10] h_1 ⟨⟩) h ⟨⟩

theorem n134_calls {data0 a1 b2 : Value} {R : Value → Heap → Prop} {h : Heap} (H : n134 data0 a1 b2 R h) : CallsH Tryz.prog 134 #[data0, a1, b2] h R ⟨⟩ :=
 callsH_of_eq Tryz.follow (.n none .l (.n none .l (.n none (.n (some [7, 8]) .l .l) .l))) Tryz.func134 (by kernel_rfl) (by kernel_rfl) (by kernel_rfl) H

/-- slices.partialInsertionSortOrdered[int64] -/
def n135 (data0 a1 b2 : Value) (R : Value → Heap → Prop) (h : Heap) : Prop :=
 Hp Tryz.prog false (binS .add 3 (.tmp 11) (.const (.int .i64 1)) a1 (.int .i64 1)) (fun t12 h_1 => 
 LoopC 2 (fun (X : Value → Value → Heap → Prop) => fun i7 j8 h_2 =>
 Hp Tryz.prog false (binS .lss 3 (.tmp 13) (.const (.int .i64 5)) j8 (.int .i64 5)) (fun t14 h_3 => 
 CondP t14 (
 JoinN 1 (fun (k : Value → Heap → Prop) h_4 =>
 JoinN 1 (fun (k_1 : Value → Heap → Prop) h_5 =>
 LoopC 1 (fun (X_1 : Value → Heap → Prop) => fun i7_1 h_6 =>
 Hp Tryz.prog true (binS .lss 3 (.tmp 17) (.tmp 18) i7_1 b2) (fun t19 _ => 
 Join1 (fun k_2 h_7 => guardP t19 true (k_2 data0 h_7) (k_2 undef h_7) ⟨⟩ ⟨⟩) (fun t21 _ => 
 Join1 (fun k_3 h_8 => guardP t19 true (k_3 i7_1 h_8) (k_3 undef h_8) ⟨⟩ ⟨⟩) (fun t22 _ => 
 Join1 (fun k_4 h_9 => guardP t19 true (Hp Tryz.prog true (Instr.indexAt 102 t21 t22) k_4 h_9 ⟨⟩) (k_4 undef h_9) ⟨⟩ ⟨⟩) (fun t23 _ => 
 Join1 (fun k_5 h_10 => guardP t19 true (Hp Tryz.prog true (Instr.loadAt 2 t23) k_5 h_10 ⟨⟩) (k_5 undef h_10) ⟨⟩ ⟨⟩) (fun t24 _ => 
 Join1 (fun k_6 h_11 => guardP t19 true (k_6 data0 h_11) (k_6 undef h_11) ⟨⟩ ⟨⟩) (fun t25 _ => 
 Join1 (fun k_7 h_12 => guardP t19 true (k_7 i7_1 h_12) (k_7 undef h_12) ⟨⟩ ⟨⟩) (fun t26 _ => 
 Join1 (fun k_8 h_13 => guardP t19 true (Hp Tryz.prog true (binS .sub 3 (.tmp 26) (.const (.int .i64 1)) t26 (.int .i64 1)) k_8 h_13 ⟨⟩) (k_8 undef h_13) ⟨⟩ ⟨⟩) (fun t27 _ => 
 Join1 (fun k_9 h_14 => guardP t19 true (Hp Tryz.prog true (Instr.indexAt 102 t25 t27) k_9 h_14 ⟨⟩) (k_9 undef h_14) ⟨⟩ ⟨⟩) (fun t28 _ => 
 Join1 (fun k_10 h_15 => guardP t19 true (Hp Tryz.prog true (Instr.loadAt 2 t28) k_10 h_15 ⟨⟩) (k_10 undef h_15) ⟨⟩ ⟨⟩) (fun t29 _ => 
 Join1 (fun k_11 h_16 => guardP t19 true (CallsH Tryz.prog 136 #[t24, t29] h_16 k_11 ⟨⟩) (k_11 undef h_16) ⟨⟩ ⟨⟩) (fun t30 h_17 => 
 Join1 (fun k_12 h_18 => guardP t19 true (Hp Tryz.prog true (Op.unary .not t30) k_12 h_18 ⟨⟩) (k_12 undef h_18) ⟨⟩ ⟨⟩) (fun t31 _ => 
 Hp Tryz.prog true (pickS t19 t31 (.bool false)) (fun t32 _ => 
 CondP t32 (
 Hp Tryz.prog false (binS .add 3 (.tmp 33) (.const (.int .i64 1)) i7_1 (.int .i64 1)) (fun t34 h_19 => 
 X_1 t34 h_19) h_17 ⟨⟩) (
 Hp Tryz.prog false (binS .eql 3 (.tmp 35) (.tmp 36) i7_1 b2) (fun t37 h_20 => 
 CondP t37 (
 R (.bool true) h_20) (
 Hp Tryz.prog false (binS .sub 3 (.tmp 38) (.tmp 39) b2 a1) (fun t40 h_21 => 
 Hp Tryz.prog false (binS .lss 3 (.tmp 40) (.const (.int .i64 50)) t40 (.int .i64 50)) (fun t41 h_22 => 
 CondP t41 (
 R (.bool false) h_22) (
 Hp Tryz.prog true (binS .sub 3 (.tmp 45) (.const (.int .i64 1)) i7_1 (.int .i64 1)) (fun t46 _ => 
 Hp Tryz.prog true (binS .sub 3 (.tmp 48) (.const (.int .i64 1)) i7_1 (.int .i64 1)) (fun t49 _ => 
 Hp Tryz.prog true (Instr.indexAt 102 data0 t49) (fun t50 _ => 
 Hp Tryz.prog true (Instr.loadAt 2 t50) (fun t51 _ => 
 Hp Tryz.prog true (Instr.indexAt 102 data0 i7_1) (fun t54 _ => 
 Hp Tryz.prog true (Instr.loadAt 2 t54) (fun t55 _ => 
 Hp Tryz.prog true (Instr.indexAt 102 data0 i7_1) (fun t56 _ => 
 Hp Tryz.prog false (storeS 2 t56 t51) (fun _ h_23 => 
 Hp Tryz.prog true (Instr.indexAt 102 data0 t46) (fun t57 _ => 
 Hp Tryz.prog false (storeS 2 t57 t55) (fun _ h_24 => 
 JoinN 0 (fun (k_13 : Heap → Prop) h_25 =>
 Hp Tryz.prog false (binS .sub 3 (.tmp 58) (.tmp 59) i7_1 a1) (fun t60 h_26 => 
 Hp Tryz.prog false (binS .geq 3 (.tmp 60) (.const (.int .i64 2)) t60 (.int .i64 2)) (fun t61 h_27 => 
 CondP t61 (
 Hp Tryz.prog false (binS .sub 3 (.tmp 62) (.const (.int .i64 1)) i7_1 (.int .i64 1)) (fun t63 h_28 => 
 JoinN 0 (fun (k_14 : Heap → Prop) h_29 =>
 LoopC 1 (fun (X_2 : Value → Heap → Prop) => fun j9 h_30 =>
 Hp Tryz.prog false (binS .geq 3 (.tmp 64) (.const (.int .i64 1)) j9 (.int .i64 1)) (fun t65 h_31 => 
 CondP t65 (
 Hp Tryz.prog true (Instr.indexAt 102 data0 j9) (fun t70 _ => 
 Hp Tryz.prog true (Instr.loadAt 2 t70) (fun t71 _ => 
 Hp Tryz.prog true (binS .sub 3 (.tmp 73) (.const (.int .i64 1)) j9 (.int .i64 1)) (fun t74 _ => 
 Hp Tryz.prog true (Instr.indexAt 102 data0 t74) (fun t75 _ => 
 Hp Tryz.prog true (Instr.loadAt 2 t75) (fun t76 _ => 
 CallsH Tryz.prog 136 #[t71, t76] h_31 (fun t77 h_32 => 
 Hp Tryz.prog true (Op.unary .not t77) (fun t78 _ => 
 CondP t78 (
 k_14 h_32) (
 Hp Tryz.prog true (binS .sub 3 (.tmp 82) (.const (.int .i64 1)) j9 (.int .i64 1)) (fun t83 _ => 
 Hp Tryz.prog true (binS .sub 3 (.tmp 85) (.const (.int .i64 1)) j9 (.int .i64 1)) (fun t86 _ => 
 Hp Tryz.prog true (Instr.indexAt 102 data0 t86) (fun t87 _ => 
 Hp Tryz.prog true (Instr.loadAt 2 t87) (fun t88 _ => 
 Hp Tryz.prog true (Instr.indexAt 102 data0 j9) (fun t91 _ => 
 Hp Tryz.prog true (Instr.loadAt 2 t91) (fun t92 _ => 
 Hp Tryz.prog true (Instr.indexAt 102 data0 j9) (fun t93 _ => 
 Hp Tryz.prog false (storeS 2 t93 t88) (fun _ h_33 => 
 Hp Tryz.prog true (Instr.indexAt 102 data0 t83) (fun t94 _ => 
 Hp Tryz.prog false (storeS 2 t94 t92) (fun _ h_34 => 
 Hp Tryz.prog false (binS .sub 3 (.tmp 66) (.const (.int .i64 1)) j9 (.int .i64 1)) (fun t67 h_35 => 
 X_2 t67 h_35) h_34 ⟨⟩) h_33 ⟨⟩) #[] ⟨⟩) h_32 ⟨⟩) #[] ⟨⟩) h_32 ⟨⟩) #[] ⟨⟩) h_32 ⟨⟩) #[] ⟨⟩) #[] ⟨⟩) #[] ⟨⟩) ⟨⟩ ⟨⟩) #[] ⟨⟩) ⟨⟩) h_31 ⟨⟩) #[] ⟨⟩) #[] ⟨⟩) h_31 ⟨⟩) #[] ⟨⟩) (
 k_14 h_31) ⟨⟩ ⟨⟩) h_30 ⟨⟩) [t63] h_29 ⟨⟩)
 (fun h_36 =>
 k_13 h_36) h_28 ⟨⟩ ⟨⟩) h_27 ⟨⟩) (
 k_13 h_27) ⟨⟩ ⟨⟩) h_26 ⟨⟩) h_25 ⟨⟩)
 (fun h_37 =>
 Hp Tryz.prog false (binS .sub 3 (.tmp 95) (.tmp 96) b2 i7_1) (fun t97 h_38 => 
 Hp Tryz.prog false (binS .geq 3 (.tmp 97) (.const (.int .i64 2)) t97 (.int .i64 2)) (fun t98 h_39 => 
 CondP t98 (
 Hp Tryz.prog false (binS .add 3 (.tmp 99) (.const (.int .i64 1)) i7_1 (.int .i64 1)) (fun t100 h_40 => 
 JoinN 0 (fun (k_15 : Heap → Prop) h_41 =>
 LoopC 1 (fun (X_3 : Value → Heap → Prop) => fun j10 h_42 =>
 Hp Tryz.prog false (binS .lss 3 (.tmp 101) (.tmp 102) j10 b2) (fun t103 h_43 => 
 CondP t103 (
 Hp Tryz.prog true (Instr.indexAt 102 data0 j10) (fun t108 _ => 
 Hp Tryz.prog true (Instr.loadAt 2 t108) (fun t109 _ => 
 Hp Tryz.prog true (binS .sub 3 (.tmp 111) (.const (.int .i64 1)) j10 (.int .i64 1)) (fun t112 _ => 
 Hp Tryz.prog true (Instr.indexAt 102 data0 t112) (fun t113 _ => 
 Hp Tryz.prog true (Instr.loadAt 2 t113) (fun t114 _ => 
 CallsH Tryz.prog 136 #[t109, t114] h_43 (fun t115 h_44 => 
 Hp Tryz.prog true (Op.unary .not t115) (fun t116 _ => 
 CondP t116 (
 k_15 h_44) (
 Hp Tryz.prog true (binS .sub 3 (.tmp 120) (.const (.int .i64 1)) j10 (.int .i64 1)) (fun t121 _ => 
 Hp Tryz.prog true (binS .sub 3 (.tmp 123) (.const (.int .i64 1)) j10 (.int .i64 1)) (fun t124 _ => 
 Hp Tryz.prog true (Instr.indexAt 102 data0 t124) (fun t125 _ => 
 Hp Tryz.prog true (Instr.loadAt 2 t125) (fun t126 _ => 
 Hp Tryz.prog true (Instr.indexAt 102 data0 j10) (fun t129 _ => 
 Hp Tryz.prog true (Instr.loadAt 2 t129) (fun t130 _ => 
 Hp Tryz.prog true (Instr.indexAt 102 data0 j10) (fun t131 _ => 
 Hp Tryz.prog false (storeS 2 t131 t126) (fun _ h_45 => 
 Hp Tryz.prog true (Instr.indexAt 102 data0 t121) (fun t132 _ => 
 Hp Tryz.prog false (storeS 2 t132 t130) (fun _ h_46 => 
 Hp Tryz.prog false (binS .add 3 (.tmp 104) (.const (.int .i64 1)) j10 (.int .i64 1)) (fun t105 h_47 => 
 X_3 t105 h_47) h_46 ⟨⟩) h_45 ⟨⟩) #[] ⟨⟩) h_44 ⟨⟩) #[] ⟨⟩) h_44 ⟨⟩) #[] ⟨⟩) h_44 ⟨⟩) #[] ⟨⟩) #[] ⟨⟩) #[] ⟨⟩) ⟨⟩ ⟨⟩) #[] ⟨⟩) ⟨⟩) h_43 ⟨⟩) #[] ⟨⟩) #[] ⟨⟩) h_43 ⟨⟩) #[] ⟨⟩) (
 k_15 h_43) ⟨⟩ ⟨⟩) h_42 ⟨⟩) [t100] h_41 ⟨⟩)
 (fun h_48 =>
 k_1 i7_1 h_48) h_40 ⟨⟩ ⟨⟩) h_39 ⟨⟩) (
 k_1 i7_1 h_39) ⟨⟩ ⟨⟩) h_38 ⟨⟩) h_37 ⟨⟩) h_24 ⟨⟩ ⟨⟩) h_23 ⟨⟩) #[] ⟨⟩) h_22 ⟨⟩) #[] ⟨⟩) h_22 ⟨⟩) #[] ⟨⟩) h_22 ⟨⟩) #[] ⟨⟩) #[] ⟨⟩) #[] ⟨⟩) ⟨⟩ ⟨⟩) h_21 ⟨⟩) h_20 ⟨⟩) ⟨⟩ ⟨⟩) h_17 ⟨⟩) ⟨⟩ ⟨⟩) #[] ⟨⟩) #[] ⟨⟩ ⟨⟩) h_6 ⟨⟩ ⟨⟩) h_6 ⟨⟩ ⟨⟩) #[] ⟨⟩ ⟨⟩) #[] ⟨⟩ ⟨⟩) #[] ⟨⟩ ⟨⟩) #[] ⟨⟩ ⟨⟩) h_6 ⟨⟩ ⟨⟩) #[] ⟨⟩ ⟨⟩) #[] ⟨⟩ ⟨⟩) #[] ⟨⟩ ⟨⟩) #[] ⟨⟩) [i7] h_5 ⟨⟩)
 (fun i7_2 h_49 =>
 k i7_2 h_49) h_4 ⟨⟩ ⟨⟩)
 (fun i7_3 h_50 =>
 Hp Tryz.prog false (binS .add 3 (.tmp 15) (.const (.int .i64 1)) j8 (.int .i64 1)) (fun t16 h_51 => 
 X i7_3 t16 h_51) h_50 ⟨⟩) h_3 ⟨⟩ ⟨⟩) (
 R (.bool false) h_3) ⟨⟩ ⟨⟩) h_2 ⟨⟩) [t12, (.int .i64 0)] h_1 ⟨⟩) h ⟨⟩

theorem n135_calls {data0 a1 b2 : Value} {R : Value → Heap → Prop} {h : Heap} (H : n135 data0 a1 b2 R h) : CallsH Tryz.prog 135 #[data0, a1, b2] h R ⟨⟩ :=
 callsH_of_eq Tryz.follow (.n none .l (.n none .l (.n none (.n none .l (.n none (.n (some [8, 9]) (.n none .l (.n (some [8]) (.n (some [8]) (.n none (.n none (.n (some [8]) .l .l) .l) (.n none .l (.n none .l (.n none .l (.n (some []) (.n none .l (.n none (.n none .l (.n (some []) (.n (some [10]) .l .l) .l)) .l)) (.n none .l (.n none (.n none .l (.n (some []) (.n (some [11]) .l .l) .l)) .l))))))) .l) .l)) .l) .l)) .l))) Tryz.func135 (by kernel_rfl) (by kernel_rfl) (by kernel_rfl) H

/-- cmp.Less[int64] -/
def n136 (x0 y1 : Value) (R : Value → Heap → Prop) (h : Heap) : Prop :=
 CallsH Tryz.prog 148 #[x0] h (fun t6 h_1 => 
 Join1 (fun k h_2 => guardP t6 true (k y1 h_2) (k undef h_2) ⟨⟩ ⟨⟩) (fun t8 h_3 => 
 Join1 (fun k_1 h_4 => guardP t6 true (CallsH Tryz.prog 148 #[t8] h_4 k_1 ⟨⟩) (k_1 undef h_4) ⟨⟩ ⟨⟩) (fun t9 h_5 => 
 Join1 (fun k_2 h_6 => guardP t6 true (Hp Tryz.prog false (Op.unary .not t9) k_2 h_6 ⟨⟩) (k_2 undef h_6) ⟨⟩ ⟨⟩) (fun t10 h_7 => 
 Hp Tryz.prog false (pickS t6 t10 (.bool false)) (fun t11 h_8 => 
 Join1 (fun k_3 h_9 => guardP t11 false (k_3 x0 h_9) (k_3 undef h_9) ⟨⟩ ⟨⟩) (fun t13 h_10 => 
 Join1 (fun k_4 h_11 => guardP t11 false (k_4 y1 h_11) (k_4 undef h_11) ⟨⟩ ⟨⟩) (fun t14 h_12 => 
 Join1 (fun k_5 h_13 => guardP t11 false (Hp Tryz.prog false (binS .lss 2 (.tmp 13) (.tmp 14) t13 t14) k_5 h_13 ⟨⟩) (k_5 undef h_13) ⟨⟩ ⟨⟩) (fun t15 h_14 => 
 Hp Tryz.prog false (pickS t11 (.bool true) t15) (fun t16 h_15 => 
 R t16 h_15) h_14 ⟨⟩) h_12 ⟨⟩ ⟨⟩) h_10 ⟨⟩ ⟨⟩) h_8 ⟨⟩ ⟨⟩) h_7 ⟨⟩) h_5 ⟨⟩ ⟨⟩) h_3 ⟨⟩ ⟨⟩) h_1 ⟨⟩ ⟨⟩) ⟨⟩

theorem n136_calls {x0 y1 : Value} {R : Value → Heap → Prop} {h : Heap} (H : n136 x0 y1 R h) : CallsH Tryz.prog 136 #[x0, y1] h R ⟨⟩ :=
 callsH_of_eq Tryz.follow .l Tryz.func136 (by kernel_rfl) (by kernel_rfl) (by kernel_rfl) H

/-- slices.partitionEqualOrdered[int64] -/
def n137 (data0 a1 b2 pivot3 : Value) (R : Value → Heap → Prop) (h : Heap) : Prop :=
 Hp Tryz.prog true (Instr.indexAt 102 data0 pivot3) (fun t17 _ => 
 Hp Tryz.prog true (Instr.loadAt 2 t17) (fun t18 _ => 
 Hp Tryz.prog true (Instr.indexAt 102 data0 a1) (fun t21 _ => 
 Hp Tryz.prog true (Instr.loadAt 2 t21) (fun t22 _ => 
 Hp Tryz.prog true (Instr.indexAt 102 data0 a1) (fun t23 _ => 
 Hp Tryz.prog false (storeS 2 t23 t18) (fun _ h_1 => 
 Hp Tryz.prog true (Instr.indexAt 102 data0 pivot3) (fun t24 _ => 
 Hp Tryz.prog false (storeS 2 t24 t22) (fun _ h_2 => 
 Hp Tryz.prog false (binS .add 3 (.tmp 25) (.const (.int .i64 1)) a1 (.int .i64 1)) (fun t26 h_3 => 
 Hp Tryz.prog false (binS .sub 3 (.tmp 27) (.const (.int .i64 1)) b2 (.int .i64 1)) (fun t28 h_4 => 
 LoopC 2 (fun (X : Value → Value → Heap → Prop) => fun i9 j10 h_5 =>
 LoopC 1 (fun (X_1 : Value → Heap → Prop) => fun i9_1 h_6 =>
 Hp Tryz.prog true (binS .leq 3 (.tmp 29) (.tmp 30) i9_1 j10) (fun t31 _ => 
 Join1 (fun k h_7 => guardP t31 true (k data0 h_7) (k undef h_7) ⟨⟩ ⟨⟩) (fun t33 _ => 
 Join1 (fun k_1 h_8 => guardP t31 true (k_1 a1 h_8) (k_1 undef h_8) ⟨⟩ ⟨⟩) (fun t34 _ => 
 Join1 (fun k_2 h_9 => guardP t31 true (Hp Tryz.prog true (Instr.indexAt 102 t33 t34) k_2 h_9 ⟨⟩) (k_2 undef h_9) ⟨⟩ ⟨⟩) (fun t35 _ => 
 Join1 (fun k_3 h_10 => guardP t31 true (Hp Tryz.prog true (Instr.loadAt 2 t35) k_3 h_10 ⟨⟩) (k_3 undef h_10) ⟨⟩ ⟨⟩) (fun t36 _ => 
 Join1 (fun k_4 h_11 => guardP t31 true (k_4 data0 h_11) (k_4 undef h_11) ⟨⟩ ⟨⟩) (fun t37 _ => 
 Join1 (fun k_5 h_12 => guardP t31 true (k_5 i9_1 h_12) (k_5 undef h_12) ⟨⟩ ⟨⟩) (fun t38 _ => 
 Join1 (fun k_6 h_13 => guardP t31 true (Hp Tryz.prog true (Instr.indexAt 102 t37 t38) k_6 h_13 ⟨⟩) (k_6 undef h_13) ⟨⟩ ⟨⟩) (fun t39 _ => 
 Join1 (fun k_7 h_14 => guardP t31 true (Hp Tryz.prog true (Instr.loadAt 2 t39) k_7 h_14 ⟨⟩) (k_7 undef h_14) ⟨⟩ ⟨⟩) (fun t40 _ => 
 Join1 (fun k_8 h_15 => guardP t31 true (CallsH Tryz.prog 136 #[t36, t40] h_15 k_8 ⟨⟩) (k_8 undef h_15) ⟨⟩ ⟨⟩) (fun t41 h_16 => 
 Join1 (fun k_9 h_17 => guardP t31 true (Hp Tryz.prog true (Op.unary .not t41) k_9 h_17 ⟨⟩) (k_9 undef h_17) ⟨⟩ ⟨⟩) (fun t42 _ => 
 Hp Tryz.prog true (pickS t31 t42 (.bool false)) (fun t43 _ => 
 CondP t43 (
 Hp Tryz.prog false (binS .add 3 (.tmp 44) (.const (.int .i64 1)) i9_1 (.int .i64 1)) (fun t45 h_18 => 
 X_1 t45 h_18) h_16 ⟨⟩) (
 LoopC 1 (fun (X_2 : Value → Heap → Prop) => fun j10_1 h_19 =>
 Hp Tryz.prog true (binS .leq 3 (.tmp 46) (.tmp 47) i9_1 j10_1) (fun t48 _ => 
 Join1 (fun k_10 h_20 => guardP t48 true (k_10 data0 h_20) (k_10 undef h_20) ⟨⟩ ⟨⟩) (fun t50 _ => 
 Join1 (fun k_11 h_21 => guardP t48 true (k_11 a1 h_21) (k_11 undef h_21) ⟨⟩ ⟨⟩) (fun t51 _ => 
 Join1 (fun k_12 h_22 => guardP t48 true (Hp Tryz.prog true (Instr.indexAt 102 t50 t51) k_12 h_22 ⟨⟩) (k_12 undef h_22) ⟨⟩ ⟨⟩) (fun t52 _ => 
 Join1 (fun k_13 h_23 => guardP t48 true (Hp Tryz.prog true (Instr.loadAt 2 t52) k_13 h_23 ⟨⟩) (k_13 undef h_23) ⟨⟩ ⟨⟩) (fun t53 _ => 
 Join1 (fun k_14 h_24 => guardP t48 true (k_14 data0 h_24) (k_14 undef h_24) ⟨⟩ ⟨⟩) (fun t54 _ => 
 Join1 (fun k_15 h_25 => guardP t48 true (k_15 j10_1 h_25) (k_15 undef h_25) ⟨⟩ ⟨⟩) (fun t55 _ => 
 Join1 (fun k_16 h_26 => guardP t48 true (Hp Tryz.prog true (Instr.indexAt 102 t54 t55) k_16 h_26 ⟨⟩) (k_16 undef h_26) ⟨⟩ ⟨⟩) (fun t56 _ => 
 Join1 (fun k_17 h_27 => guardP t48 true (Hp Tryz.prog true (Instr.loadAt 2 t56) k_17 h_27 ⟨⟩) (k_17 undef h_27) ⟨⟩ ⟨⟩) (fun t57 _ => 
 Join1 (fun k_18 h_28 => guardP t48 true (CallsH Tryz.prog 136 #[t53, t57] h_28 k_18 ⟨⟩) (k_18 undef h_28) ⟨⟩ ⟨⟩) (fun t58 h_29 => 
 Hp Tryz.prog true (pickS t48 t58 (.bool false)) (fun t59 _ => 
 CondP t59 (
 Hp Tryz.prog false (binS .sub 3 (.tmp 60) (.const (.int .i64 1)) j10_1 (.int .i64 1)) (fun t61 h_30 => 
 X_2 t61 h_30) h_29 ⟨⟩) (
 Hp Tryz.prog false (binS .gtr 3 (.tmp 62) (.tmp 63) i9_1 j10_1) (fun t64 h_31 => 
 CondP t64 (
 R i9_1 h_31) (
 Hp Tryz.prog true (Instr.indexAt 102 data0 j10_1) (fun t71 _ => 
 Hp Tryz.prog true (Instr.loadAt 2 t71) (fun t72 _ => 
 Hp Tryz.prog true (Instr.indexAt 102 data0 i9_1) (fun t75 _ => 
 Hp Tryz.prog true (Instr.loadAt 2 t75) (fun t76 _ => 
 Hp Tryz.prog true (Instr.indexAt 102 data0 i9_1) (fun t77 _ => 
 Hp Tryz.prog false (storeS 2 t77 t72) (fun _ h_32 => 
 Hp Tryz.prog true (Instr.indexAt 102 data0 j10_1) (fun t78 _ => 
 Hp Tryz.prog false (storeS 2 t78 t76) (fun _ h_33 => 
 Hp Tryz.prog false (binS .add 3 (.tmp 79) (.const (.int .i64 1)) i9_1 (.int .i64 1)) (fun t80 h_34 => 
 Hp Tryz.prog false (binS .sub 3 (.tmp 81) (.const (.int .i64 1)) j10_1 (.int .i64 1)) (fun t82 h_35 => 
 X t80 t82 h_35) h_34 ⟨⟩) h_33 ⟨⟩) h_32 ⟨⟩) #[] ⟨⟩) h_31 ⟨⟩) #[] ⟨⟩) h_31 ⟨⟩) #[] ⟨⟩) h_31 ⟨⟩) #[] ⟨⟩) ⟨⟩ ⟨⟩) h_29 ⟨⟩) ⟨⟩ ⟨⟩) #[] ⟨⟩) h_19 ⟨⟩ ⟨⟩) h_19 ⟨⟩ ⟨⟩) #[] ⟨⟩ ⟨⟩) #[] ⟨⟩ ⟨⟩) #[] ⟨⟩ ⟨⟩) h_19 ⟨⟩ ⟨⟩) #[] ⟨⟩ ⟨⟩) #[] ⟨⟩ ⟨⟩) #[] ⟨⟩ ⟨⟩) #[] ⟨⟩) [j10] h_16 ⟨⟩) ⟨⟩ ⟨⟩) #[] ⟨⟩) #[] ⟨⟩ ⟨⟩) h_6 ⟨⟩ ⟨⟩) h_6 ⟨⟩ ⟨⟩) #[] ⟨⟩ ⟨⟩) #[] ⟨⟩ ⟨⟩) #[] ⟨⟩ ⟨⟩) h_6 ⟨⟩ ⟨⟩) #[] ⟨⟩ ⟨⟩) #[] ⟨⟩ ⟨⟩) #[] ⟨⟩ ⟨⟩) #[] ⟨⟩) [i9] h_5 ⟨⟩) [t26, t28] h_4 ⟨⟩) h_3 ⟨⟩) h_2 ⟨⟩) h_1 ⟨⟩) #[] ⟨⟩) h ⟨⟩) #[] ⟨⟩) h ⟨⟩) #[] ⟨⟩) h ⟨⟩) #[] ⟨⟩

theorem n137_calls {data0 a1 b2 pivot3 : Value} {R : Value → Heap → Prop} {h : Heap} (H : n137 data0 a1 b2 pivot3 R h) : CallsH Tryz.prog 137 #[data0, a1, b2, pivot3] h R ⟨⟩ :=
 callsH_of_eq Tryz.follow (.n none .l (.n none .l (.n none .l (.n none (.n none (.n (some [10, 11]) (.n none (.n none (.n none (.n (some [10]) .l .l) .l) (.n none (.n none (.n (some [11]) .l .l) .l) .l)) .l) .l) .l) .l)))) Tryz.func137 (by kernel_rfl) (by kernel_rfl) (by kernel_rfl) H

/-- slices.partitionOrdered[int64] -/
def n138 (data0 a1 b2 pivot3 : Value) (R : Value → Heap → Prop) (h : Heap) : Prop :=
 Hp Tryz.prog true (Instr.indexAt 102 data0 pivot3) (fun t18 _ => 
 Hp Tryz.prog true (Instr.loadAt 2 t18) (fun t19 _ => 
 Hp Tryz.prog true (Instr.indexAt 102 data0 a1) (fun t22 _ => 
 Hp Tryz.prog true (Instr.loadAt 2 t22) (fun t23 _ => 
 Hp Tryz.prog true (Instr.indexAt 102 data0 a1) (fun t24 _ => 
 Hp Tryz.prog false (storeS 2 t24 t19) (fun _ h_1 => 
 Hp Tryz.prog true (Instr.indexAt 102 data0 pivot3) (fun t25 _ => 
 Hp Tryz.prog false (storeS 2 t25 t23) (fun _ h_2 => 
 Hp Tryz.prog false (binS .add 3 (.tmp 26) (.const (.int .i64 1)) a1 (.int .i64 1)) (fun t27 h_3 => 
 Hp Tryz.prog false (binS .sub 3 (.tmp 28) (.const (.int .i64 1)) b2 (.int .i64 1)) (fun t29 h_4 => 
 LoopC 1 (fun (X : Value → Heap → Prop) => fun i10 h_5 =>
 Hp Tryz.prog true (binS .leq 3 (.tmp 30) (.tmp 31) i10 t29) (fun t32 _ => 
 Join1 (fun k h_6 => guardP t32 true (k data0 h_6) (k undef h_6) ⟨⟩ ⟨⟩) (fun t34 _ => 
 Join1 (fun k_1 h_7 => guardP t32 true (k_1 i10 h_7) (k_1 undef h_7) ⟨⟩ ⟨⟩) (fun t35 _ => 
 Join1 (fun k_2 h_8 => guardP t32 true (Hp Tryz.prog true (Instr.indexAt 102 t34 t35) k_2 h_8 ⟨⟩) (k_2 undef h_8) ⟨⟩ ⟨⟩) (fun t36 _ => 
 Join1 (fun k_3 h_9 => guardP t32 true (Hp Tryz.prog true (Instr.loadAt 2 t36) k_3 h_9 ⟨⟩) (k_3 undef h_9) ⟨⟩ ⟨⟩) (fun t37 _ => 
 Join1 (fun k_4 h_10 => guardP t32 true (k_4 data0 h_10) (k_4 undef h_10) ⟨⟩ ⟨⟩) (fun t38 _ => 
 Join1 (fun k_5 h_11 => guardP t32 true (k_5 a1 h_11) (k_5 undef h_11) ⟨⟩ ⟨⟩) (fun t39 _ => 
 Join1 (fun k_6 h_12 => guardP t32 true (Hp Tryz.prog true (Instr.indexAt 102 t38 t39) k_6 h_12 ⟨⟩) (k_6 undef h_12) ⟨⟩ ⟨⟩) (fun t40 _ => 
 Join1 (fun k_7 h_13 => guardP t32 true (Hp Tryz.prog true (Instr.loadAt 2 t40) k_7 h_13 ⟨⟩) (k_7 undef h_13) ⟨⟩ ⟨⟩) (fun t41 _ => 
 Join1 (fun k_8 h_14 => guardP t32 true (CallsH Tryz.prog 136 #[t37, t41] h_14 k_8 ⟨⟩) (k_8 undef h_14) ⟨⟩ ⟨⟩) (fun t42 h_15 => 
 Hp Tryz.prog true (pickS t32 t42 (.bool false)) (fun t43 _ => 
 CondP t43 (
 Hp Tryz.prog false (binS .add 3 (.tmp 44) (.const (.int .i64 1)) i10 (.int .i64 1)) (fun t45 h_16 => 
 X t45 h_16) h_15 ⟨⟩) (
 LoopC 1 (fun (X_1 : Value → Heap → Prop) => fun j11 h_17 =>
 Hp Tryz.prog true (binS .leq 3 (.tmp 46) (.tmp 47) i10 j11) (fun t48 _ => 
 Join1 (fun k_9 h_18 => guardP t48 true (k_9 data0 h_18) (k_9 undef h_18) ⟨⟩ ⟨⟩) (fun t50 _ => 
 Join1 (fun k_10 h_19 => guardP t48 true (k_10 j11 h_19) (k_10 undef h_19) ⟨⟩ ⟨⟩) (fun t51 _ => 
 Join1 (fun k_11 h_20 => guardP t48 true (Hp Tryz.prog true (Instr.indexAt 102 t50 t51) k_11 h_20 ⟨⟩) (k_11 undef h_20) ⟨⟩ ⟨⟩) (fun t52 _ => 
 Join1 (fun k_12 h_21 => guardP t48 true (Hp Tryz.prog true (Instr.loadAt 2 t52) k_12 h_21 ⟨⟩) (k_12 undef h_21) ⟨⟩ ⟨⟩) (fun t53 _ => 
 Join1 (fun k_13 h_22 => guardP t48 true (k_13 data0 h_22) (k_13 undef h_22) ⟨⟩ ⟨⟩) (fun t54 _ => 
 Join1 (fun k_14 h_23 => guardP t48 true (k_14 a1 h_23) (k_14 undef h_23) ⟨⟩ ⟨⟩) (fun t55 _ => 
 Join1 (fun k_15 h_24 => guardP t48 true (Hp Tryz.prog true (Instr.indexAt 102 t54 t55) k_15 h_24 ⟨⟩) (k_15 undef h_24) ⟨⟩ ⟨⟩) (fun t56 _ => 
 Join1 (fun k_16 h_25 => guardP t48 true (Hp Tryz.prog true (Instr.loadAt 2 t56) k_16 h_25 ⟨⟩) (k_16 undef h_25) ⟨⟩ ⟨⟩) (fun t57 _ => 
 Join1 (fun k_17 h_26 => guardP t48 true (CallsH Tryz.prog 136 #[t53, t57] h_26 k_17 ⟨⟩) (k_17 undef h_26) ⟨⟩ ⟨⟩) (fun t58 h_27 => 
 Join1 (fun k_18 h_28 => guardP t48 true (Hp Tryz.prog true (Op.unary .not t58) k_18 h_28 ⟨⟩) (k_18 undef h_28) ⟨⟩ ⟨⟩) (fun t59 _ => 
 Hp Tryz.prog true (pickS t48 t59 (.bool false)) (fun t60 _ => 
 CondP t60 (
 Hp Tryz.prog false (binS .sub 3 (.tmp 61) (.const (.int .i64 1)) j11 (.int .i64 1)) (fun t62 h_29 => 
 X_1 t62 h_29) h_27 ⟨⟩) (
 Hp Tryz.prog false (binS .gtr 3 (.tmp 63) (.tmp 64) i10 j11) (fun t65 h_30 => 
 CondP t65 (
 Hp Tryz.prog true (Instr.indexAt 102 data0 a1) (fun t72 _ => 
 Hp Tryz.prog true (Instr.loadAt 2 t72) (fun t73 _ => 
 Hp Tryz.prog true (Instr.indexAt 102 data0 j11) (fun t76 _ => 
 Hp Tryz.prog true (Instr.loadAt 2 t76) (fun t77 _ => 
 Hp Tryz.prog true (Instr.indexAt 102 data0 j11) (fun t78 _ => 
 Hp Tryz.prog false (storeS 2 t78 t73) (fun _ h_31 => 
 Hp Tryz.prog true (Instr.indexAt 102 data0 a1) (fun t79 _ => 
 Hp Tryz.prog false (storeS 2 t79 t77) (fun _ h_32 => 
 R (.tuple #[j11, (.bool true)]) h_32) h_31 ⟨⟩) #[] ⟨⟩) h_30 ⟨⟩) #[] ⟨⟩) h_30 ⟨⟩) #[] ⟨⟩) h_30 ⟨⟩) #[] ⟨⟩) (
 Hp Tryz.prog true (Instr.indexAt 102 data0 j11) (fun t87 _ => 
 Hp Tryz.prog true (Instr.loadAt 2 t87) (fun t88 _ => 
 Hp Tryz.prog true (Instr.indexAt 102 data0 i10) (fun t91 _ => 
 Hp Tryz.prog true (Instr.loadAt 2 t91) (fun t92 _ => 
 Hp Tryz.prog true (Instr.indexAt 102 data0 i10) (fun t93 _ => 
 Hp Tryz.prog false (storeS 2 t93 t88) (fun _ h_33 => 
 Hp Tryz.prog true (Instr.indexAt 102 data0 j11) (fun t94 _ => 
 Hp Tryz.prog false (storeS 2 t94 t92) (fun _ h_34 => 
 Hp Tryz.prog false (binS .add 3 (.tmp 95) (.const (.int .i64 1)) i10 (.int .i64 1)) (fun t96 h_35 => 
 Hp Tryz.prog false (binS .sub 3 (.tmp 97) (.const (.int .i64 1)) j11 (.int .i64 1)) (fun t98 h_36 => 
 LoopC 2 (fun (X_2 : Value → Value → Heap → Prop) => fun i10_1 j11_1 h_37 =>
 LoopC 1 (fun (X_3 : Value → Heap → Prop) => fun i10_2 h_38 =>
 Hp Tryz.prog true (binS .leq 3 (.tmp 99) (.tmp 100) i10_2 j11_1) (fun t101 _ => 
 Join1 (fun k_19 h_39 => guardP t101 true (k_19 data0 h_39) (k_19 undef h_39) ⟨⟩ ⟨⟩) (fun t103 _ => 
 Join1 (fun k_20 h_40 => guardP t101 true (k_20 i10_2 h_40) (k_20 undef h_40) ⟨⟩ ⟨⟩) (fun t104 _ => 
 Join1 (fun k_21 h_41 => guardP t101 true (Hp Tryz.prog true (Instr.indexAt 102 t103 t104) k_21 h_41 ⟨⟩) (k_21 undef h_41) ⟨⟩ ⟨⟩) (fun t105 _ => 
 Join1 (fun k_22 h_42 => guardP t101 true (Hp Tryz.prog true (Instr.loadAt 2 t105) k_22 h_42 ⟨⟩) (k_22 undef h_42) ⟨⟩ ⟨⟩) (fun t106 _ => 
 Join1 (fun k_23 h_43 => guardP t101 true (k_23 data0 h_43) (k_23 undef h_43) ⟨⟩ ⟨⟩) (fun t107 _ => 
 Join1 (fun k_24 h_44 => guardP t101 true (k_24 a1 h_44) (k_24 undef h_44) ⟨⟩ ⟨⟩) (fun t108 _ => 
 Join1 (fun k_25 h_45 => guardP t101 true (Hp Tryz.prog true (Instr.indexAt 102 t107 t108) k_25 h_45 ⟨⟩) (k_25 undef h_45) ⟨⟩ ⟨⟩) (fun t109 _ => 
 Join1 (fun k_26 h_46 => guardP t101 true (Hp Tryz.prog true (Instr.loadAt 2 t109) k_26 h_46 ⟨⟩) (k_26 undef h_46) ⟨⟩ ⟨⟩) (fun t110 _ => 
 Join1 (fun k_27 h_47 => guardP t101 true (CallsH Tryz.prog 136 #[t106, t110] h_47 k_27 ⟨⟩) (k_27 undef h_47) ⟨⟩ ⟨⟩) (fun t111 h_48 => 
 Hp Tryz.prog true (pickS t101 t111 (.bool false)) (fun t112 _ => 
 CondP t112 (
 Hp Tryz.prog false (binS .add 3 (.tmp 113) (.const (.int .i64 1)) i10_2 (.int .i64 1)) (fun t114 h_49 => 
 X_3 t114 h_49) h_48 ⟨⟩) (
 LoopC 1 (fun (X_4 : Value → Heap → Prop) => fun j11_2 h_50 =>
 Hp Tryz.prog true (binS .leq 3 (.tmp 115) (.tmp 116) i10_2 j11_2) (fun t117 _ => 
 Join1 (fun k_28 h_51 => guardP t117 true (k_28 data0 h_51) (k_28 undef h_51) ⟨⟩ ⟨⟩) (fun t119 _ => 
 Join1 (fun k_29 h_52 => guardP t117 true (k_29 j11_2 h_52) (k_29 undef h_52) ⟨⟩ ⟨⟩) (fun t120 _ => 
 Join1 (fun k_30 h_53 => guardP t117 true (Hp Tryz.prog true (Instr.indexAt 102 t119 t120) k_30 h_53 ⟨⟩) (k_30 undef h_53) ⟨⟩ ⟨⟩) (fun t121 _ => 
 Join1 (fun k_31 h_54 => guardP t117 true (Hp Tryz.prog true (Instr.loadAt 2 t121) k_31 h_54 ⟨⟩) (k_31 undef h_54) ⟨⟩ ⟨⟩) (fun t122 _ => 
 Join1 (fun k_32 h_55 => guardP t117 true (k_32 data0 h_55) (k_32 undef h_55) ⟨⟩ ⟨⟩) (fun t123 _ => 
 Join1 (fun k_33 h_56 => guardP t117 true (k_33 a1 h_56) (k_33 undef h_56) ⟨⟩ ⟨⟩) (fun t124 _ => 
 Join1 (fun k_34 h_57 => guardP t117 true (Hp Tryz.prog true (Instr.indexAt 102 t123 t124) k_34 h_57 ⟨⟩) (k_34 undef h_57) ⟨⟩ ⟨⟩) (fun t125 _ => 
 Join1 (fun k_35 h_58 => guardP t117 true (Hp Tryz.prog true (Instr.loadAt 2 t125) k_35 h_58 ⟨⟩) (k_35 undef h_58) ⟨⟩ ⟨⟩) (fun t126 _ => 
 Join1 (fun k_36 h_59 => guardP t117 true (CallsH Tryz.prog 136 #[t122, t126] h_59 k_36 ⟨⟩) (k_36 undef h_59) ⟨⟩ ⟨⟩) (fun t127 h_60 => 
 Join1 (fun k_37 h_61 => guardP t117 true (Hp Tryz.prog true (Op.unary .not t127) k_37 h_61 ⟨⟩) (k_37 undef h_61) ⟨⟩ ⟨⟩) (fun t128 _ => 
 Hp Tryz.prog true (pickS t117 t128 (.bool false)) (fun t129 _ => 
 CondP t129 (
 Hp Tryz.prog false (binS .sub 3 (.tmp 130) (.const (.int .i64 1)) j11_2 (.int .i64 1)) (fun t131 h_62 => 
 X_4 t131 h_62) h_60 ⟨⟩) (
 Hp Tryz.prog false (binS .gtr 3 (.tmp 132) (.tmp 133) i10_2 j11_2) (fun t134 h_63 => 
 CondP t134 (
 Hp Tryz.prog true (Instr.indexAt 102 data0 a1) (fun t159 _ => 
 Hp Tryz.prog true (Instr.loadAt 2 t159) (fun t160 _ => 
 Hp Tryz.prog true (Instr.indexAt 102 data0 j11_2) (fun t163 _ => 
 Hp Tryz.prog true (Instr.loadAt 2 t163) (fun t164 _ => 
 Hp Tryz.prog true (Instr.indexAt 102 data0 j11_2) (fun t165 _ => 
 Hp Tryz.prog false (storeS 2 t165 t160) (fun _ h_64 => 
 Hp Tryz.prog true (Instr.indexAt 102 data0 a1) (fun t166 _ => 
 Hp Tryz.prog false (storeS 2 t166 t164) (fun _ h_65 => 
 R (.tuple #[j11_2, (.bool false)]) h_65) h_64 ⟨⟩) #[] ⟨⟩) h_63 ⟨⟩) #[] ⟨⟩) h_63 ⟨⟩) #[] ⟨⟩) h_63 ⟨⟩) #[] ⟨⟩) (
 Hp Tryz.prog true (Instr.indexAt 102 data0 j11_2) (fun t141 _ => 
 Hp Tryz.prog true (Instr.loadAt 2 t141) (fun t142 _ => 
 Hp Tryz.prog true (Instr.indexAt 102 data0 i10_2) (fun t145 _ => 
 Hp Tryz.prog true (Instr.loadAt 2 t145) (fun t146 _ => 
 Hp Tryz.prog true (Instr.indexAt 102 data0 i10_2) (fun t147 _ => 
 Hp Tryz.prog false (storeS 2 t147 t142) (fun _ h_66 => 
 Hp Tryz.prog true (Instr.indexAt 102 data0 j11_2) (fun t148 _ => 
 Hp Tryz.prog false (storeS 2 t148 t146) (fun _ h_67 => 
 Hp Tryz.prog false (binS .add 3 (.tmp 149) (.const (.int .i64 1)) i10_2 (.int .i64 1)) (fun t150 h_68 => 
 Hp Tryz.prog false (binS .sub 3 (.tmp 151) (.const (.int .i64 1)) j11_2 (.int .i64 1)) (fun t152 h_69 => 
 X_2 t150 t152 h_69) h_68 ⟨⟩) h_67 ⟨⟩) h_66 ⟨⟩) #[] ⟨⟩) h_63 ⟨⟩) #[] ⟨⟩) h_63 ⟨⟩) #[] ⟨⟩) h_63 ⟨⟩) #[] ⟨⟩) ⟨⟩ ⟨⟩) h_60 ⟨⟩) ⟨⟩ ⟨⟩) #[] ⟨⟩) #[] ⟨⟩ ⟨⟩) h_50 ⟨⟩ ⟨⟩) h_50 ⟨⟩ ⟨⟩) #[] ⟨⟩ ⟨⟩) #[] ⟨⟩ ⟨⟩) #[] ⟨⟩ ⟨⟩) h_50 ⟨⟩ ⟨⟩) #[] ⟨⟩ ⟨⟩) #[] ⟨⟩ ⟨⟩) #[] ⟨⟩ ⟨⟩) #[] ⟨⟩) [j11_1] h_48 ⟨⟩) ⟨⟩ ⟨⟩) #[] ⟨⟩) h_38 ⟨⟩ ⟨⟩) h_38 ⟨⟩ ⟨⟩) #[] ⟨⟩ ⟨⟩) #[] ⟨⟩ ⟨⟩) #[] ⟨⟩ ⟨⟩) h_38 ⟨⟩ ⟨⟩) #[] ⟨⟩ ⟨⟩) #[] ⟨⟩ ⟨⟩) #[] ⟨⟩ ⟨⟩) #[] ⟨⟩) [i10_1] h_37 ⟨⟩) [t96, t98] h_36 ⟨⟩) h_35 ⟨⟩) h_34 ⟨⟩) h_33 ⟨⟩) #[] ⟨⟩) h_30 ⟨⟩) #[] ⟨⟩) h_30 ⟨⟩) #[] ⟨⟩) h_30 ⟨⟩) #[] ⟨⟩) ⟨⟩ ⟨⟩) h_27 ⟨⟩) ⟨⟩ ⟨⟩) #[] ⟨⟩) #[] ⟨⟩ ⟨⟩) h_17 ⟨⟩ ⟨⟩) h_17 ⟨⟩ ⟨⟩) #[] ⟨⟩ ⟨⟩) #[] ⟨⟩ ⟨⟩) #[] ⟨⟩ ⟨⟩) h_17 ⟨⟩ ⟨⟩) #[] ⟨⟩ ⟨⟩) #[] ⟨⟩ ⟨⟩) #[] ⟨⟩ ⟨⟩) #[] ⟨⟩) [t29] h_15 ⟨⟩) ⟨⟩ ⟨⟩) #[] ⟨⟩) h_5 ⟨⟩ ⟨⟩) h_5 ⟨⟩ ⟨⟩) #[] ⟨⟩ ⟨⟩) #[] ⟨⟩ ⟨⟩) #[] ⟨⟩ ⟨⟩) h_5 ⟨⟩ ⟨⟩) #[] ⟨⟩ ⟨⟩) #[] ⟨⟩ ⟨⟩) #[] ⟨⟩ ⟨⟩) #[] ⟨⟩) [t27] h_4 ⟨⟩) h_3 ⟨⟩) h_2 ⟨⟩) h_1 ⟨⟩) #[] ⟨⟩) h ⟨⟩) #[] ⟨⟩) h ⟨⟩) #[] ⟨⟩) h ⟨⟩) #[] ⟨⟩

theorem n138_calls {data0 a1 b2 pivot3 : Value} {R : Value → Heap → Prop} {h : Heap} (H : n138 data0 a1 b2 pivot3 R h) : CallsH Tryz.prog 138 #[data0, a1, b2, pivot3] h R ⟨⟩ :=
 callsH_of_eq Tryz.follow (.n none .l (.n none .l (.n none .l (.n none (.n none (.n (some [11]) .l .l) .l) (.n none (.n none (.n (some [12]) .l .l) .l) (.n none .l (.n none .l (.n none .l (.n none .l (.n none (.n none (.n (some [11, 12]) (.n none (.n none (.n none (.n (some [11]) .l .l) .l) (.n none (.n none (.n (some [12]) .l .l) .l) .l)) .l) .l) .l) .l)))))))))) Tryz.func138 (by kernel_rfl) (by kernel_rfl) (by kernel_rfl) H

/-- math/bits.Len32 -/
def n139 (x0 : Value) (R : Value → Heap → Prop) (h : Heap) : Prop :=
 JoinN 2 (fun (k : Value → Value → Heap → Prop) h_1 =>
 Hp Tryz.prog false (binS .geq 217 (.tmp 3) (.const (.int .u32 65536)) x0 (.int .u32 65536)) (fun t4 h_2 => 
 CondP t4 (
 Hp Tryz.prog false (binS .shr 217 (.tmp 5) (.const (.int .u64 16)) x0 (.int .u64 16)) (fun t6 h_3 => 
 k t6 (.int .i64 16) h_3) h_2 ⟨⟩) (
 k x0 (.int .i64 0) h_2) ⟨⟩ ⟨⟩) h_1 ⟨⟩)
 (fun x0_1 n2 h_4 =>
 JoinN 2 (fun (k_1 : Value → Value → Heap → Prop) h_5 =>
 Hp Tryz.prog false (binS .geq 217 (.tmp 7) (.const (.int .u32 256)) x0_1 (.int .u32 256)) (fun t8 h_6 => 
 CondP t8 (
 Hp Tryz.prog false (binS .shr 217 (.tmp 9) (.const (.int .u64 8)) x0_1 (.int .u64 8)) (fun t10 h_7 => 
 Hp Tryz.prog false (binS .add 3 (.tmp 11) (.const (.int .i64 8)) n2 (.int .i64 8)) (fun t12 h_8 => 
 k_1 t10 t12 h_8) h_7 ⟨⟩) h_6 ⟨⟩) (
 k_1 x0_1 n2 h_6) ⟨⟩ ⟨⟩) h_5 ⟨⟩)
 (fun x0_2 n2_1 h_9 =>
 Hp Tryz.prog false (convert 217 5 x0_2) (fun t15 h_10 => 
 Hp Tryz.prog false (Instr.index 9 (str [0, 1, 2, 2, 3, 3, 3, 3, 4, 4, 4, 4, 4, 4, 4, 4, 5, 5, 5, 5, 5, 5, 5, 5, 5, 5, 5, 5, 5, 5, 5, 5, 6, 6, 6, 6, 6, 6, 6, 6, 6, 6, 6, 6, 6, 6, 6, 6, 6, 6, 6, 6, 6, 6, 6, 6, 6, 6, 6, 6, 6, 6, 6, 6, 7, 7, 7, 7, 7, 7, 7, 7, 7, 7, 7, 7, 7, 7, 7, 7, 7, 7, 7, 7, 7, 7, 7, 7, 7, 7, 7, 7, 7, 7, 7, 7, 7, 7, 7, 7, 7, 7, 7, 7, 7, 7, 7, 7, 7, 7, 7, 7, 7, 7, 7, 7, 7, 7, 7, 7, 7, 7, 7, 7, 7, 7, 7, 7, 8, 8, 8, 8, 8, 8, 8, 8, 8, 8, 8, 8, 8, 8, 8, 8, 8, 8, 8, 8, 8, 8, 8, 8, 8, 8, 8, 8, 8, 8, 8, 8, 8, 8, 8, 8, 8, 8, 8, 8, 8, 8, 8, 8, 8, 8, 8, 8, 8, 8, 8, 8, 8, 8, 8, 8, 8, 8, 8, 8, 8, 8, 8, 8, 8, 8, 8, 8, 8, 8, 8, 8, 8, 8, 8, 8, 8, 8, 8, 8, 8, 8, 8, 8, 8, 8, 8, 8, 8, 8, 8, 8, 8, 8, 8, 8, 8, 8, 8, 8, 8, 8, 8, 8, 8, 8, 8, 8, 8, 8, 8, 8, 8, 8, 8, 8, 8, 8, 8, 8, 8, 8, 8, 8, 8, 8, 8, 8]) t15) (fun t16 h_11 => 
 Hp Tryz.prog false (convert 5 3 t16) (fun t17 h_12 => 
 Hp Tryz.prog false (binS .add 3 (.tmp 13) (.tmp 17) n2_1 t17) (fun t18 h_13 => 
 R t18 h_13) h_12 ⟨⟩) h_11 ⟨⟩) h_10 ⟨⟩) h_9 ⟨⟩) h_4 ⟨⟩ ⟨⟩) h ⟨⟩ ⟨⟩

theorem n139_calls {x0 : Value} {R : Value → Heap → Prop} {h : Heap} (H : n139 x0 R h) : CallsH Tryz.prog 139 #[x0] h R ⟨⟩ :=
 callsH_of_eq Tryz.follow (.n none .l (.n (some [1, 3]) .l (.n (some [1, 3]) .l .l))) Tryz.func139 (by kernel_rfl) (by kernel_rfl) (by kernel_rfl) H

/-- math/bits.Len64 -/
def n140 (x0 : Value) (R : Value → Heap → Prop) (h : Heap) : Prop :=
 JoinN 2 (fun (k : Value → Value → Heap → Prop) h_1 =>
 Hp Tryz.prog false (binS .geq 219 (.tmp 3) (.const (.int .u64 4294967296)) x0 (.int .u64 4294967296)) (fun t4 h_2 => 
 CondP t4 (
 Hp Tryz.prog false (binS .shr 219 (.tmp 5) (.const (.int .u64 32)) x0 (.int .u64 32)) (fun t6 h_3 => 
 k t6 (.int .i64 32) h_3) h_2 ⟨⟩) (
 k x0 (.int .i64 0) h_2) ⟨⟩ ⟨⟩) h_1 ⟨⟩)
 (fun x0_1 n2 h_4 =>
 JoinN 2 (fun (k_1 : Value → Value → Heap → Prop) h_5 =>
 Hp Tryz.prog false (binS .geq 219 (.tmp 7) (.const (.int .u64 65536)) x0_1 (.int .u64 65536)) (fun t8 h_6 => 
 CondP t8 (
 Hp Tryz.prog false (binS .shr 219 (.tmp 9) (.const (.int .u64 16)) x0_1 (.int .u64 16)) (fun t10 h_7 => 
 Hp Tryz.prog false (binS .add 3 (.tmp 11) (.const (.int .i64 16)) n2 (.int .i64 16)) (fun t12 h_8 => 
 k_1 t10 t12 h_8) h_7 ⟨⟩) h_6 ⟨⟩) (
 k_1 x0_1 n2 h_6) ⟨⟩ ⟨⟩) h_5 ⟨⟩)
 (fun x0_2 n2_1 h_9 =>
 JoinN 2 (fun (k_2 : Value → Value → Heap → Prop) h_10 =>
 Hp Tryz.prog false (binS .geq 219 (.tmp 13) (.const (.int .u64 256)) x0_2 (.int .u64 256)) (fun t14 h_11 => 
 CondP t14 (
 Hp Tryz.prog false (binS .shr 219 (.tmp 15) (.const (.int .u64 8)) x0_2 (.int .u64 8)) (fun t16 h_12 => 
 Hp Tryz.prog false (binS .add 3 (.tmp 17) (.const (.int .i64 8)) n2_1 (.int .i64 8)) (fun t18 h_13 => 
 k_2 t16 t18 h_13) h_12 ⟨⟩) h_11 ⟨⟩) (
 k_2 x0_2 n2_1 h_11) ⟨⟩ ⟨⟩) h_10 ⟨⟩)
 (fun x0_3 n2_2 h_14 =>
 Hp Tryz.prog false (convert 219 5 x0_3) (fun t21 h_15 => 
 Hp Tryz.prog false (Instr.index 9 (str [0, 1, 2, 2, 3, 3, 3, 3, 4, 4, 4, 4, 4, 4, 4, 4, 5, 5, 5, 5, 5, 5, 5, 5, 5, 5, 5, 5, 5, 5, 5, 5, 6, 6, 6, 6, 6, 6, 6, 6, 6, 6, 6, 6, 6, 6, 6, 6, 6, 6, 6, 6, 6, 6, 6, 6, 6, 6, 6, 6, 6, 6, 6, 6, 7, 7, 7, 7, 7, 7, 7, 7, 7, 7, 7, 7, 7, 7, 7, 7, 7, 7, 7, 7, 7, 7, 7, 7, 7, 7, 7, 7, 7, 7, 7, 7, 7, 7, 7, 7, 7, 7, 7, 7, 7, 7, 7, 7, 7, 7, 7, 7, 7, 7, 7, 7, 7, 7, 7, 7, 7, 7, 7, 7, 7, 7, 7, 7, 8, 8, 8, 8, 8, 8, 8, 8, 8, 8, 8, 8, 8, 8, 8, 8, 8, 8, 8, 8, 8, 8, 8, 8, 8, 8, 8, 8, 8, 8, 8, 8, 8, 8, 8, 8, 8, 8, 8, 8, 8, 8, 8, 8, 8, 8, 8, 8, 8, 8, 8, 8, 8, 8, 8, 8, 8, 8, 8, 8, 8, 8, 8, 8, 8, 8, 8, 8, 8, 8, 8, 8, 8, 8, 8, 8, 8, 8, 8, 8, 8, 8, 8, 8, 8, 8, 8, 8, 8, 8, 8, 8, 8, 8, 8, 8, 8, 8, 8, 8, 8, 8, 8, 8, 8, 8, 8, 8, 8, 8, 8, 8, 8, 8, 8, 8, 8, 8, 8, 8, 8, 8, 8, 8, 8, 8, 8, 8]) t21) (fun t22 h_16 => 
 Hp Tryz.prog false (convert 5 3 t22) (fun t23 h_17 => 
 Hp Tryz.prog false (binS .add 3 (.tmp 19) (.tmp 23) n2_2 t23) (fun t24 h_18 => 
 R t24 h_18) h_17 ⟨⟩) h_16 ⟨⟩) h_15 ⟨⟩) h_14 ⟨⟩) h_9 ⟨⟩ ⟨⟩) h_4 ⟨⟩ ⟨⟩) h ⟨⟩ ⟨⟩

theorem n140_calls {x0 : Value} {R : Value → Heap → Prop} {h : Heap} (H : n140 x0 R h) : CallsH Tryz.prog 140 #[x0] h R ⟨⟩ :=
 callsH_of_eq Tryz.follow (.n none .l (.n (some [1, 3]) .l (.n (some [1, 3]) .l (.n (some [1, 3]) .l .l)))) Tryz.func140 (by kernel_rfl) (by kernel_rfl) (by kernel_rfl) H

/-- slices.AppendSeq[[]string,string] -/
def n141 (s0 seq1 : Value) (R : Value → Heap → Prop) (h : Heap) : Prop :=
 Hp Tryz.prog false (Instr.box 105 s0) (fun s2 h_1 => 
 JoinN 1 (fun (k : Value → Heap → Prop) h_2 =>
 JoinN 1 (fun (k_1 : Value → Heap → Prop) h_3 =>
 RangeC Tryz.prog none seq1 1 (.tuple #[]) (fun l args bg Nb Jb h_4 =>
 bg (fun h_5 =>
 Hp Tryz.prog false (Instr.loadAt 105 s2) (fun t8 h_6 => 
 Hp Tryz.prog false (Instr.buildSlice 105 1 #[(0, (getV args 0))]) (fun t10 h_7 => 
 Hp Tryz.prog false (Builtin.append_ #[105, 105] 105 #[t8, t10]) (fun t11 h_8 => 
 Hp Tryz.prog false (storeS 105 s2 t11) (fun _ h_9 => 
 Nb h_9) h_8 ⟨⟩) h_7 ⟨⟩) h_6 ⟨⟩) h_5 ⟨⟩) h_4)
 (fun D h_10 =>
 k_1 D h_10)
 (fun D_1 h_11 =>
 RetD D_1 h_11 (fun h_12 =>
 R (.slice none 0 0) h_12) ⟨⟩)
 (fun id D_2 h_13 => bif Nat.beq id 0 then (k_1 D_2 h_13) else False) h_3 ⟨⟩ ⟨⟩ ⟨⟩ ⟨⟩)
 (fun D_3 h_14 =>
 k D_3 h_14) h_2 ⟨⟩ ⟨⟩)
 (fun D_4 h_15 =>
 Hp Tryz.prog false (Instr.loadAt 105 s2) (fun t12 h_16 => 
 RetD D_4 h_16 (fun h_17 =>
 R t12 h_17) ⟨⟩) h_15 ⟨⟩) h_1 ⟨⟩ ⟨⟩) h ⟨⟩

theorem n141_calls {s0 seq1 : Value} {R : Value → Heap → Prop} {h : Heap} (H : n141 s0 seq1 R h) : CallsH Tryz.prog 141 #[s0, seq1] h R ⟨⟩ :=
 callsH_of_eq Tryz.follow (.n none .l (.n (some [0]) (.n none .l (.n (some [0]) .l .l)) .l)) Tryz.func141 (by kernel_rfl) (by kernel_rfl) (by kernel_rfl) H

/-- slices.pdqsortOrdered[string] -/
def n142 (data0 a1 b2 limit3 : Value) (R : Value → Heap → Prop) (h : Heap) : Prop :=
 LoopC 5 (fun (X : Value → Value → Value → Value → Value → Heap → Prop) => fun a1_1 b2_1 limit3_1 wasBalanced8 wasPartitioned9 h_1 =>
 JoinN 5 (fun (k : Value → Value → Value → Value → Value → Heap → Prop) h_2 =>
 Hp Tryz.prog false (binS .sub 3 (.tmp 19) (.tmp 20) b2_1 a1_1) (fun t21 h_3 => 
 Hp Tryz.prog false (binS .leq 3 (.tmp 22) (.const (.int .i64 12)) t21 (.int .i64 12)) (fun t23 h_4 => 
 CondP t23 (
 CallsH Tryz.prog 149 #[data0, a1_1, b2_1] h_4 (fun t27 h_5 => 
 R (.tuple #[]) h_5) ⟨⟩) (
 Hp Tryz.prog false (binS .eql 3 (.tmp 28) (.const (.int .i64 0)) limit3_1 (.int .i64 0)) (fun t29 h_6 => 
 CondP t29 (
 CallsH Tryz.prog 150 #[data0, a1_1, b2_1] h_6 (fun t33 h_7 => 
 R (.tuple #[]) h_7) ⟨⟩) (
 JoinN 1 (fun (k_1 : Value → Heap → Prop) h_8 =>
 Hp Tryz.prog false (Op.unary .not wasBalanced8) (fun t35 h_9 => 
 CondP t35 (
 CallsH Tryz.prog 151 #[data0, a1_1, b2_1] h_9 (fun t39 h_10 => 
 Hp Tryz.prog false (binS .sub 3 (.tmp 40) (.const (.int .i64 1)) limit3_1 (.int .i64 1)) (fun t41 h_11 => 
 k_1 t41 h_11) h_10 ⟨⟩) ⟨⟩) (
 k_1 limit3_1 h_9) ⟨⟩ ⟨⟩) h_8 ⟨⟩)
 (fun limit3_2 h_12 =>
 CallsH Tryz.prog 152 #[data0, a1_1, b2_1] h_12 (fun t46 h_13 => 
 Hp Tryz.prog false (Instr.extract t46 0) (fun t47 h_14 => 
 Hp Tryz.prog false (Instr.extract t46 1) (fun t48 h_15 => 
 JoinN 2 (fun (k_2 : Value → Value → Heap → Prop) h_16 =>
 Hp Tryz.prog false (binS .eql 209 (.tmp 49) (.const (.int .i64 2)) t48 (.int .i64 2)) (fun t50 h_17 => 
 CondP t50 (
 CallsH Tryz.prog 153 #[data0, a1_1, b2_1] h_17 (fun t54 h_18 => 
 Hp Tryz.prog false (binS .sub 3 (.tmp 55) (.const (.int .i64 1)) b2_1 (.int .i64 1)) (fun t56 h_19 => 
 Hp Tryz.prog false (binS .sub 3 (.tmp 57) (.tmp 58) t47 a1_1) (fun t59 h_20 => 
 Hp Tryz.prog false (binS .sub 3 (.tmp 56) (.tmp 59) t56 t59) (fun t60 h_21 => 
 k_2 t60 (.int .i64 1) h_21) h_20 ⟨⟩) h_19 ⟨⟩) h_18 ⟨⟩) ⟨⟩) (
 k_2 t47 t48 h_17) ⟨⟩ ⟨⟩) h_16 ⟨⟩)
 (fun pivot11 hint12 h_22 =>
 JoinN 0 (fun (k_3 : Heap → Prop) h_23 =>
 Join1 (fun k_4 h_24 => guardP wasBalanced8 true (k_4 wasPartitioned9 h_24) (k_4 undef h_24) ⟨⟩ ⟨⟩) (fun t63 h_25 => 
 Hp Tryz.prog false (pickS wasBalanced8 t63 (.bool false)) (fun t64 h_26 => 
 Join1 (fun k_5 h_27 => guardP t64 true (k_5 hint12 h_27) (k_5 undef h_27) ⟨⟩ ⟨⟩) (fun t66 h_28 => 
 Join1 (fun k_6 h_29 => guardP t64 true (Hp Tryz.prog false (binS .eql 209 (.tmp 66) (.const (.int .i64 1)) t66 (.int .i64 1)) k_6 h_29 ⟨⟩) (k_6 undef h_29) ⟨⟩ ⟨⟩) (fun t67 h_30 => 
 Hp Tryz.prog false (pickS t64 t67 (.bool false)) (fun t68 h_31 => 
 CondP t68 (
 CallsH Tryz.prog 154 #[data0, a1_1, b2_1] h_31 (fun t72 h_32 => 
 CondP t72 (
 R (.tuple #[]) h_32) (
 k_3 h_32) ⟨⟩ ⟨⟩) ⟨⟩) (
 k_3 h_31) ⟨⟩ ⟨⟩) h_30 ⟨⟩) h_28 ⟨⟩ ⟨⟩) h_26 ⟨⟩ ⟨⟩) h_25 ⟨⟩) h_23 ⟨⟩ ⟨⟩)
 (fun h_33 =>
 Hp Tryz.prog true (binS .gtr 3 (.tmp 73) (.const (.int .i64 0)) a1_1 (.int .i64 0)) (fun t74 _ => 
 Join1 (fun k_7 h_34 => guardP t74 true (k_7 data0 h_34) (k_7 undef h_34) ⟨⟩ ⟨⟩) (fun t76 _ => 
 Join1 (fun k_8 h_35 => guardP t74 true (k_8 a1_1 h_35) (k_8 undef h_35) ⟨⟩ ⟨⟩) (fun t77 _ => 
 Join1 (fun k_9 h_36 => guardP t74 true (Hp Tryz.prog true (binS .sub 3 (.tmp 77) (.const (.int .i64 1)) t77 (.int .i64 1)) k_9 h_36 ⟨⟩) (k_9 undef h_36) ⟨⟩ ⟨⟩) (fun t78 _ => 
 Join1 (fun k_10 h_37 => guardP t74 true (Hp Tryz.prog true (Instr.indexAt 105 t76 t78) k_10 h_37 ⟨⟩) (k_10 undef h_37) ⟨⟩ ⟨⟩) (fun t79 _ => 
 Join1 (fun k_11 h_38 => guardP t74 true (Hp Tryz.prog true (Instr.loadAt 9 t79) k_11 h_38 ⟨⟩) (k_11 undef h_38) ⟨⟩ ⟨⟩) (fun t80 _ => 
 Join1 (fun k_12 h_39 => guardP t74 true (k_12 data0 h_39) (k_12 undef h_39) ⟨⟩ ⟨⟩) (fun t81 _ => 
 Join1 (fun k_13 h_40 => guardP t74 true (k_13 pivot11 h_40) (k_13 undef h_40) ⟨⟩ ⟨⟩) (fun t82 _ => 
 Join1 (fun k_14 h_41 => guardP t74 true (Hp Tryz.prog true (Instr.indexAt 105 t81 t82) k_14 h_41 ⟨⟩) (k_14 undef h_41) ⟨⟩ ⟨⟩) (fun t83 _ => 
 Join1 (fun k_15 h_42 => guardP t74 true (Hp Tryz.prog true (Instr.loadAt 9 t83) k_15 h_42 ⟨⟩) (k_15 undef h_42) ⟨⟩ ⟨⟩) (fun t84 _ => 
 Join1 (fun k_16 h_43 => guardP t74 true (CallsH Tryz.prog 155 #[t80, t84] h_43 k_16 ⟨⟩) (k_16 undef h_43) ⟨⟩ ⟨⟩) (fun t85 h_44 => 
 Join1 (fun k_17 h_45 => guardP t74 true (Hp Tryz.prog true (Op.unary .not t85) k_17 h_45 ⟨⟩) (k_17 undef h_45) ⟨⟩ ⟨⟩) (fun t86 _ => 
 Hp Tryz.prog true (pickS t74 t86 (.bool false)) (fun t87 _ => 
 CondP t87 (
 CallsH Tryz.prog 156 #[data0, a1_1, b2_1, pivot11] h_44 (fun t92 h_46 => 
 k t92 b2_1 limit3_2 wasBalanced8 wasPartitioned9 h_46) ⟨⟩) (
 CallsH Tryz.prog 157 #[data0, a1_1, b2_1, pivot11] h_44 (fun t99 h_47 => 
 Hp Tryz.prog false (Instr.extract t99 0) (fun t100 h_48 => 
 Hp Tryz.prog false (Instr.extract t99 1) (fun t101 h_49 => 
 Hp Tryz.prog false (binS .sub 3 (.tmp 103) (.tmp 104) t100 a1_1) (fun t105 h_50 => 
 Hp Tryz.prog false (binS .sub 3 (.tmp 106) (.tmp 107) b2_1 t100) (fun t108 h_51 => 
 Hp Tryz.prog false (binS .quo 3 (.tmp 109) (.const (.int .i64 8)) t21 (.int .i64 8)) (fun t110 h_52 => 
 Hp Tryz.prog false (binS .lss 3 (.tmp 111) (.tmp 112) t105 t108) (fun t113 h_53 => 
 CondP t113 (
 Hp Tryz.prog false (binS .geq 3 (.tmp 114) (.tmp 115) t105 t110) (fun t116 h_54 => 
 CallsH Tryz.prog 142 #[data0, a1_1, t100, limit3_2] h_54 (fun t121 h_55 => 
 Hp Tryz.prog false (binS .add 3 (.tmp 122) (.const (.int .i64 1)) t100 (.int .i64 1)) (fun t123 h_56 => 
 k t123 b2_1 limit3_2 t116 t101 h_56) h_55 ⟨⟩) ⟨⟩) h_53 ⟨⟩) (
 Hp Tryz.prog false (binS .geq 3 (.tmp 124) (.tmp 125) t108 t110) (fun t126 h_57 => 
 Hp Tryz.prog false (binS .add 3 (.tmp 128) (.const (.int .i64 1)) t100 (.int .i64 1)) (fun t129 h_58 => 
 CallsH Tryz.prog 142 #[data0, t129, b2_1, limit3_2] h_58 (fun t132 h_59 => 
 k a1_1 t100 limit3_2 t126 t101 h_59) ⟨⟩) h_57 ⟨⟩) h_53 ⟨⟩) ⟨⟩ ⟨⟩) h_52 ⟨⟩) h_51 ⟨⟩) h_50 ⟨⟩) h_49 ⟨⟩) h_48 ⟨⟩) h_47 ⟨⟩) ⟨⟩) ⟨⟩ ⟨⟩) #[] ⟨⟩) #[] ⟨⟩ ⟨⟩) h_33 ⟨⟩ ⟨⟩) h_33 ⟨⟩ ⟨⟩) #[] ⟨⟩ ⟨⟩) #[] ⟨⟩ ⟨⟩) #[] ⟨⟩ ⟨⟩) h_33 ⟨⟩ ⟨⟩) #[] ⟨⟩ ⟨⟩) #[] ⟨⟩ ⟨⟩) #[] ⟨⟩ ⟨⟩) #[] ⟨⟩ ⟨⟩) #[] ⟨⟩) h_22 ⟨⟩ ⟨⟩) h_15 ⟨⟩ ⟨⟩) h_14 ⟨⟩) h_13 ⟨⟩) ⟨⟩) h_6 ⟨⟩ ⟨⟩) ⟨⟩ ⟨⟩) h_4 ⟨⟩) ⟨⟩ ⟨⟩) h_3 ⟨⟩) h_2 ⟨⟩)
 (fun a1_2 b2_2 limit3_3 wasBalanced8_1 wasPartitioned9_1 h_60 =>
 X a1_2 b2_2 limit3_3 wasBalanced8_1 wasPartitioned9_1 h_60) h_1 ⟨⟩ ⟨⟩) [a1, b2, limit3, (.bool true), (.bool true)] h ⟨⟩

theorem n142_calls {data0 a1 b2 limit3 : Value} {R : Value → Heap → Prop} {h : Heap} (H : n142 data0 a1 b2 limit3 R h) : CallsH Tryz.prog 142 #[data0, a1, b2, limit3] h R ⟨⟩ :=
 callsH_of_eq Tryz.follow (.n none .l (.n none .l (.n none (.n (some [2, 3, 4, 9, 10]) (.n (some [2, 3, 4, 9, 10]) (.n none .l (.n none .l (.n none .l (.n (some [4]) .l (.n none .l (.n (some [12, 13]) .l (.n (some []) .l .l))))))) .l) .l) .l))) Tryz.func142 (by kernel_rfl) (by kernel_rfl) (by kernel_rfl) H

/-- slices.siftDownOrdered[int64] -/
def n143 (data0 lo1 hi2 first3 : Value) (R : Value → Heap → Prop) (h : Heap) : Prop :=
 LoopC 1 (fun (X : Value → Heap → Prop) => fun root8 h_1 =>
 Hp Tryz.prog false (binS .mul 3 (.const (.int .i64 2)) (.tmp 11) (.int .i64 2) root8) (fun t12 h_2 => 
 Hp Tryz.prog false (binS .add 3 (.tmp 12) (.const (.int .i64 1)) t12 (.int .i64 1)) (fun t13 h_3 => 
 Hp Tryz.prog false (binS .geq 3 (.tmp 14) (.tmp 15) t13 hi2) (fun t16 h_4 => 
 CondP t16 (
 R (.tuple #[]) h_4) (
 JoinN 1 (fun (k : Value → Heap → Prop) h_5 =>
 Hp Tryz.prog true (binS .add 3 (.tmp 17) (.const (.int .i64 1)) t13 (.int .i64 1)) (fun t18 _ => 
 Hp Tryz.prog true (binS .lss 3 (.tmp 18) (.tmp 19) t18 hi2) (fun t20 _ => 
 Join1 (fun k_1 h_6 => guardP t20 true (k_1 data0 h_6) (k_1 undef h_6) ⟨⟩ ⟨⟩) (fun t22 _ => 
 Join1 (fun k_2 h_7 => guardP t20 true (k_2 first3 h_7) (k_2 undef h_7) ⟨⟩ ⟨⟩) (fun t23 _ => 
 Join1 (fun k_3 h_8 => guardP t20 true (k_3 t13 h_8) (k_3 undef h_8) ⟨⟩ ⟨⟩) (fun t24 _ => 
 Join1 (fun k_4 h_9 => guardP t20 true (Hp Tryz.prog true (binS .add 3 (.tmp 23) (.tmp 24) t23 t24) k_4 h_9 ⟨⟩) (k_4 undef h_9) ⟨⟩ ⟨⟩) (fun t25 _ => 
 Join1 (fun k_5 h_10 => guardP t20 true (Hp Tryz.prog true (Instr.indexAt 102 t22 t25) k_5 h_10 ⟨⟩) (k_5 undef h_10) ⟨⟩ ⟨⟩) (fun t26 _ => 
 Join1 (fun k_6 h_11 => guardP t20 true (Hp Tryz.prog true (Instr.loadAt 2 t26) k_6 h_11 ⟨⟩) (k_6 undef h_11) ⟨⟩ ⟨⟩) (fun t27 _ => 
 Join1 (fun k_7 h_12 => guardP t20 true (k_7 data0 h_12) (k_7 undef h_12) ⟨⟩ ⟨⟩) (fun t28 _ => 
 Join1 (fun k_8 h_13 => guardP t20 true (k_8 first3 h_13) (k_8 undef h_13) ⟨⟩ ⟨⟩) (fun t29 _ => 
 Join1 (fun k_9 h_14 => guardP t20 true (k_9 t13 h_14) (k_9 undef h_14) ⟨⟩ ⟨⟩) (fun t30 _ => 
 Join1 (fun k_10 h_15 => guardP t20 true (Hp Tryz.prog true (binS .add 3 (.tmp 29) (.tmp 30) t29 t30) k_10 h_15 ⟨⟩) (k_10 undef h_15) ⟨⟩ ⟨⟩) (fun t31 _ => 
 Join1 (fun k_11 h_16 => guardP t20 true (Hp Tryz.prog true (binS .add 3 (.tmp 31) (.const (.int .i64 1)) t31 (.int .i64 1)) k_11 h_16 ⟨⟩) (k_11 undef h_16) ⟨⟩ ⟨⟩) (fun t32 _ => 
 Join1 (fun k_12 h_17 => guardP t20 true (Hp Tryz.prog true (Instr.indexAt 102 t28 t32) k_12 h_17 ⟨⟩) (k_12 undef h_17) ⟨⟩ ⟨⟩) (fun t33 _ => 
 Join1 (fun k_13 h_18 => guardP t20 true (Hp Tryz.prog true (Instr.loadAt 2 t33) k_13 h_18 ⟨⟩) (k_13 undef h_18) ⟨⟩ ⟨⟩) (fun t34 _ => 
 Join1 (fun k_14 h_19 => guardP t20 true (CallsH Tryz.prog 136 #[t27, t34] h_19 k_14 ⟨⟩) (k_14 undef h_19) ⟨⟩ ⟨⟩) (fun t35 h_20 => 
 Hp Tryz.prog true (pickS t20 t35 (.bool false)) (fun t36 _ => 
 CondP t36 (
 Hp Tryz.prog false (binS .add 3 (.tmp 37) (.const (.int .i64 1)) t13 (.int .i64 1)) (fun t38 h_21 => 
 k t38 h_21) h_20 ⟨⟩) (
 k t13 h_20) ⟨⟩ ⟨⟩) #[] ⟨⟩) h_5 ⟨⟩ ⟨⟩) h_5 ⟨⟩ ⟨⟩) #[] ⟨⟩ ⟨⟩) #[] ⟨⟩ ⟨⟩) #[] ⟨⟩ ⟨⟩) #[] ⟨⟩ ⟨⟩) #[] ⟨⟩ ⟨⟩) #[] ⟨⟩ ⟨⟩) h_5 ⟨⟩ ⟨⟩) #[] ⟨⟩ ⟨⟩) #[] ⟨⟩ ⟨⟩) #[] ⟨⟩ ⟨⟩) #[] ⟨⟩ ⟨⟩) #[] ⟨⟩ ⟨⟩) #[] ⟨⟩) #[] ⟨⟩)
 (fun child9 h_22 =>
 Hp Tryz.prog true (binS .add 3 (.tmp 40) (.tmp 41) first3 root8) (fun t42 _ => 
 Hp Tryz.prog true (Instr.indexAt 102 data0 t42) (fun t43 _ => 
 Hp Tryz.prog true (Instr.loadAt 2 t43) (fun t44 _ => 
 Hp Tryz.prog true (binS .add 3 (.tmp 46) (.tmp 47) first3 child9) (fun t48 _ => 
 Hp Tryz.prog true (Instr.indexAt 102 data0 t48) (fun t49 _ => 
 Hp Tryz.prog true (Instr.loadAt 2 t49) (fun t50 _ => 
 CallsH Tryz.prog 136 #[t44, t50] h_22 (fun t51 h_23 => 
 Hp Tryz.prog true (Op.unary .not t51) (fun t52 _ => 
 CondP t52 (
 R (.tuple #[]) h_23) (
 Hp Tryz.prog true (binS .add 3 (.tmp 54) (.tmp 55) first3 root8) (fun t56 _ => 
 Hp Tryz.prog true (binS .add 3 (.tmp 58) (.tmp 59) first3 child9) (fun t60 _ => 
 Hp Tryz.prog true (binS .add 3 (.tmp 62) (.tmp 63) first3 child9) (fun t64 _ => 
 Hp Tryz.prog true (Instr.indexAt 102 data0 t64) (fun t65 _ => 
 Hp Tryz.prog true (Instr.loadAt 2 t65) (fun t66 _ => 
 Hp Tryz.prog true (binS .add 3 (.tmp 68) (.tmp 69) first3 root8) (fun t70 _ => 
 Hp Tryz.prog true (Instr.indexAt 102 data0 t70) (fun t71 _ => 
 Hp Tryz.prog true (Instr.loadAt 2 t71) (fun t72 _ => 
 Hp Tryz.prog true (Instr.indexAt 102 data0 t56) (fun t73 _ => 
 Hp Tryz.prog false (storeS 2 t73 t66) (fun _ h_24 => 
 Hp Tryz.prog true (Instr.indexAt 102 data0 t60) (fun t74 _ => 
 Hp Tryz.prog false (storeS 2 t74 t72) (fun _ h_25 => 
 X child9 h_25) h_24 ⟨⟩) #[] ⟨⟩) h_23 ⟨⟩) #[] ⟨⟩) h_23 ⟨⟩) #[] ⟨⟩) #[] ⟨⟩) h_23 ⟨⟩) #[] ⟨⟩) #[] ⟨⟩) #[] ⟨⟩) #[] ⟨⟩) ⟨⟩ ⟨⟩) #[] ⟨⟩) ⟨⟩) h_22 ⟨⟩) #[] ⟨⟩) #[] ⟨⟩) h_22 ⟨⟩) #[] ⟨⟩) #[] ⟨⟩) h_4 ⟨⟩ ⟨⟩) ⟨⟩ ⟨⟩) h_3 ⟨⟩) h_2 ⟨⟩) h_1 ⟨⟩) [lo1] h ⟨⟩

theorem n143_calls {data0 lo1 hi2 first3 : Value} {R : Value → Heap → Prop} {h : Heap} (H : n143 data0 lo1 hi2 first3 R h) : CallsH Tryz.prog 143 #[data0, lo1, hi2, first3] h R ⟨⟩ :=
 callsH_of_eq Tryz.follow (.n none .l (.n none (.n (some [9]) (.n none (.n none .l (.n none .l (.n (some [10]) .l .l))) .l) .l) .l)) Tryz.func143 (by kernel_rfl) (by kernel_rfl) (by kernel_rfl) H

/-- slices.nextPowerOfTwo -/
def n144 (length0 : Value) (R : Value → Heap → Prop) (h : Heap) : Prop :=
 Hp Tryz.prog false (convert 3 195 length0) (fun t4 h_1 => 
 CallsH Tryz.prog 116 #[t4] h_1 (fun t5 h_2 => 
 Hp Tryz.prog false (binS .shl 195 (.const (.int .u64 1)) (.tmp 5) (.int .u64 1) t5) (fun t6 h_3 => 
 R t6 h_3) h_2 ⟨⟩) ⟨⟩) h ⟨⟩

theorem n144_calls {length0 : Value} {R : Value → Heap → Prop} {h : Heap} (H : n144 length0 R h) : CallsH Tryz.prog 144 #[length0] h R ⟨⟩ :=
 callsH_of_eq Tryz.follow .l Tryz.func144 (by kernel_rfl) (by kernel_rfl) (by kernel_rfl) H

/-- (*slices.xorshift).Next -/
def n145 (r0 : Value) (R : Value → Heap → Prop) (h : Heap) : Prop :=
 Hp Tryz.prog true (nilS r0) (fun t4 _ => 
 Hp Tryz.prog true (Instr.loadAt 223 t4) (fun t5 _ => 
 Hp Tryz.prog true (nilS r0) (fun t7 _ => 
 Hp Tryz.prog true (Instr.loadAt 223 t7) (fun t8 _ => 
 Hp Tryz.prog true (binS .shl 223 (.tmp 8) (.const (.int .u64 13)) t8 (.int .u64 13)) (fun t9 _ => 
 Hp Tryz.prog true (binS .xor 223 (.tmp 5) (.tmp 9) t5 t9) (fun t10 _ => 
 Hp Tryz.prog true (nilS r0) (fun t11 _ => 
 Hp Tryz.prog false (storeS 223 t11 t10) (fun _ h_1 => 
 Hp Tryz.prog true (nilS r0) (fun t13 _ => 
 Hp Tryz.prog true (Instr.loadAt 223 t13) (fun t14 _ => 
 Hp Tryz.prog true (nilS r0) (fun t16 _ => 
 Hp Tryz.prog true (Instr.loadAt 223 t16) (fun t17 _ => 
 Hp Tryz.prog true (binS .shr 223 (.tmp 17) (.const (.int .u64 7)) t17 (.int .u64 7)) (fun t18 _ => 
 Hp Tryz.prog true (binS .xor 223 (.tmp 14) (.tmp 18) t14 t18) (fun t19 _ => 
 Hp Tryz.prog true (nilS r0) (fun t20 _ => 
 Hp Tryz.prog false (storeS 223 t20 t19) (fun _ h_2 => 
 Hp Tryz.prog true (nilS r0) (fun t22 _ => 
 Hp Tryz.prog true (Instr.loadAt 223 t22) (fun t23 _ => 
 Hp Tryz.prog true (nilS r0) (fun t25 _ => 
 Hp Tryz.prog true (Instr.loadAt 223 t25) (fun t26 _ => 
 Hp Tryz.prog true (binS .shl 223 (.tmp 26) (.const (.int .u64 17)) t26 (.int .u64 17)) (fun t27 _ => 
 Hp Tryz.prog true (binS .xor 223 (.tmp 23) (.tmp 27) t23 t27) (fun t28 _ => 
 Hp Tryz.prog true (nilS r0) (fun t29 _ => 
 Hp Tryz.prog false (storeS 223 t29 t28) (fun _ h_3 => 
 Hp Tryz.prog false (nilS r0) (fun t31 h_4 => 
 Hp Tryz.prog false (Instr.loadAt 223 t31) (fun t32 h_5 => 
 R t32 h_5) h_4 ⟨⟩) h_3 ⟨⟩) h_2 ⟨⟩) #[] ⟨⟩) #[] ⟨⟩) #[] ⟨⟩) h_2 ⟨⟩) #[] ⟨⟩) h_2 ⟨⟩) #[] ⟨⟩) h_1 ⟨⟩) #[] ⟨⟩) #[] ⟨⟩) #[] ⟨⟩) h_1 ⟨⟩) #[] ⟨⟩) h_1 ⟨⟩) #[] ⟨⟩) h ⟨⟩) #[] ⟨⟩) #[] ⟨⟩) #[] ⟨⟩) h ⟨⟩) #[] ⟨⟩) h ⟨⟩) #[] ⟨⟩

theorem n145_calls {r0 : Value} {R : Value → Heap → Prop} {h : Heap} (H : n145 r0 R h) : CallsH Tryz.prog 145 #[r0] h R ⟨⟩ :=
 callsH_of_eq Tryz.follow .l Tryz.func145 (by kernel_rfl) (by kernel_rfl) (by kernel_rfl) H

/-- slices.medianAdjacentOrdered[int64] -/
def n146 (data0 a1 swaps2 : Value) (R : Value → Heap → Prop) (h : Heap) : Prop :=
 Hp Tryz.prog false (binS .sub 3 (.tmp 8) (.const (.int .i64 1)) a1 (.int .i64 1)) (fun t9 h_1 => 
 Hp Tryz.prog false (binS .add 3 (.tmp 11) (.const (.int .i64 1)) a1 (.int .i64 1)) (fun t12 h_2 => 
 CallsH Tryz.prog 147 #[data0, t9, a1, t12, swaps2] h_2 (fun t14 h_3 => 
 R t14 h_3) ⟨⟩) h_1 ⟨⟩) h ⟨⟩

theorem n146_calls {data0 a1 swaps2 : Value} {R : Value → Heap → Prop} {h : Heap} (H : n146 data0 a1 swaps2 R h) : CallsH Tryz.prog 146 #[data0, a1, swaps2] h R ⟨⟩ :=
 callsH_of_eq Tryz.follow .l Tryz.func146 (by kernel_rfl) (by kernel_rfl) (by kernel_rfl) H

/-- slices.medianOrdered[int64] -/
def n147 (data0 a1 b2 c3 swaps4 : Value) (R : Value → Heap → Prop) (h : Heap) : Prop :=
 CallsH Tryz.prog 158 #[data0, a1, b2, swaps4] h (fun t16 h_1 => 
 Hp Tryz.prog false (Instr.extract t16 0) (fun t17 h_2 => 
 Hp Tryz.prog false (Instr.extract t16 1) (fun t18 h_3 => 
 CallsH Tryz.prog 158 #[data0, t18, c3, swaps4] h_3 (fun t24 h_4 => 
 Hp Tryz.prog false (Instr.extract t24 0) (fun t25 h_5 => 
 Hp Tryz.prog false (Instr.extract t24 1) (fun t26 h_6 => 
 CallsH Tryz.prog 158 #[data0, t17, t25, swaps4] h_6 (fun t32 h_7 => 
 Hp Tryz.prog false (Instr.extract t32 0) (fun t33 h_8 => 
 Hp Tryz.prog false (Instr.extract t32 1) (fun t34 h_9 => 
 R t34 h_9) h_8 ⟨⟩) h_7 ⟨⟩) ⟨⟩) h_5 ⟨⟩) h_4 ⟨⟩) ⟨⟩) h_2 ⟨⟩) h_1 ⟨⟩) ⟨⟩

theorem n147_calls {data0 a1 b2 c3 swaps4 : Value} {R : Value → Heap → Prop} {h : Heap} (H : n147 data0 a1 b2 c3 swaps4 R h) : CallsH Tryz.prog 147 #[data0, a1, b2, c3, swaps4] h R ⟨⟩ :=
 callsH_of_eq Tryz.follow .l Tryz.func147 (by kernel_rfl) (by kernel_rfl) (by kernel_rfl) H

/-- cmp.isNaN[int64] -/
def n148 (x0 : Value) (R : Value → Heap → Prop) (h : Heap) : Prop :=
 Hp Tryz.prog false (binS .neq 2 (.tmp 3) (.tmp 4) x0 x0) (fun t5 h_1 => 
 R t5 h_1) h ⟨⟩

theorem n148_calls {x0 : Value} {R : Value → Heap → Prop} {h : Heap} (H : n148 x0 R h) : CallsH Tryz.prog 148 #[x0] h R ⟨⟩ :=
 callsH_of_eq Tryz.follow .l Tryz.func148 (by kernel_rfl) (by kernel_rfl) (by kernel_rfl) H

/-- slices.insertionSortOrdered[string] -/
def n149 (data0 a1 b2 : Value) (R : Value → Heap → Prop) (h : Heap) : Prop :=
 Hp Tryz.prog false (binS .add 3 (.tmp 8) (.const (.int .i64 1)) a1 (.int .i64 1)) (fun t9 h_1 => 
 LoopC 1 (fun (X : Value → Heap → Prop) => fun i6 h_2 =>
 Hp Tryz.prog false (binS .lss 3 (.tmp 10) (.tmp 11) i6 b2) (fun t12 h_3 => 
 CondP t12 (
 LoopC 1 (fun (X_1 : Value → Heap → Prop) => fun j7 h_4 =>
 Hp Tryz.prog true (binS .gtr 3 (.tmp 16) (.tmp 17) j7 a1) (fun t18 _ => 
 Join1 (fun k h_5 => guardP t18 true (k data0 h_5) (k undef h_5) ⟨⟩ ⟨⟩) (fun t20 _ => 
 Join1 (fun k_1 h_6 => guardP t18 true (k_1 j7 h_6) (k_1 undef h_6) ⟨⟩ ⟨⟩) (fun t21 _ => 
 Join1 (fun k_2 h_7 => guardP t18 true (Hp Tryz.prog true (Instr.indexAt 105 t20 t21) k_2 h_7 ⟨⟩) (k_2 undef h_7) ⟨⟩ ⟨⟩) (fun t22 _ => 
 Join1 (fun k_3 h_8 => guardP t18 true (Hp Tryz.prog true (Instr.loadAt 9 t22) k_3 h_8 ⟨⟩) (k_3 undef h_8) ⟨⟩ ⟨⟩) (fun t23 _ => 
 Join1 (fun k_4 h_9 => guardP t18 true (k_4 data0 h_9) (k_4 undef h_9) ⟨⟩ ⟨⟩) (fun t24 _ => 
 Join1 (fun k_5 h_10 => guardP t18 true (k_5 j7 h_10) (k_5 undef h_10) ⟨⟩ ⟨⟩) (fun t25 _ => 
 Join1 (fun k_6 h_11 => guardP t18 true (Hp Tryz.prog true (binS .sub 3 (.tmp 25) (.const (.int .i64 1)) t25 (.int .i64 1)) k_6 h_11 ⟨⟩) (k_6 undef h_11) ⟨⟩ ⟨⟩) (fun t26 _ => 
 Join1 (fun k_7 h_12 => guardP t18 true (Hp Tryz.prog true (Instr.indexAt 105 t24 t26) k_7 h_12 ⟨⟩) (k_7 undef h_12) ⟨⟩ ⟨⟩) (fun t27 _ => 
 Join1 (fun k_8 h_13 => guardP t18 true (Hp Tryz.prog true (Instr.loadAt 9 t27) k_8 h_13 ⟨⟩) (k_8 undef h_13) ⟨⟩ ⟨⟩) (fun t28 _ => 
 Join1 (fun k_9 h_14 => guardP t18 true (CallsH Tryz.prog 155 #[t23, t28] h_14 k_9 ⟨⟩) (k_9 undef h_14) ⟨⟩ ⟨⟩) (fun t29 h_15 => 
 Hp Tryz.prog true (pickS t18 t29 (.bool false)) (fun t30 _ => 
 CondP t30 (
 Hp Tryz.prog true (binS .sub 3 (.tmp 36) (.const (.int .i64 1)) j7 (.int .i64 1)) (fun t37 _ => 
 Hp Tryz.prog true (binS .sub 3 (.tmp 39) (.const (.int .i64 1)) j7 (.int .i64 1)) (fun t40 _ => 
 Hp Tryz.prog true (Instr.indexAt 105 data0 t40) (fun t41 _ => 
 Hp Tryz.prog true (Instr.loadAt 9 t41) (fun t42 _ => 
 Hp Tryz.prog true (Instr.indexAt 105 data0 j7) (fun t45 _ => 
 Hp Tryz.prog true (Instr.loadAt 9 t45) (fun t46 _ => 
 Hp Tryz.prog true (Instr.indexAt 105 data0 j7) (fun t47 _ => 
 Hp Tryz.prog false (storeS 9 t47 t42) (fun _ h_16 => 
 Hp Tryz.prog true (Instr.indexAt 105 data0 t37) (fun t48 _ => 
 Hp Tryz.prog false (storeS 9 t48 t46) (fun _ h_17 => 
 Hp Tryz.prog false (binS .sub 3 (.tmp 31) (.const (.int .i64 1)) j7 (.int .i64 1)) (fun t32 h_18 => 
 X_1 t32 h_18) h_17 ⟨⟩) h_16 ⟨⟩) #[] ⟨⟩) h_15 ⟨⟩) #[] ⟨⟩) h_15 ⟨⟩) #[] ⟨⟩) h_15 ⟨⟩) #[] ⟨⟩) #[] ⟨⟩) #[] ⟨⟩) (
 Hp Tryz.prog false (binS .add 3 (.tmp 13) (.const (.int .i64 1)) i6 (.int .i64 1)) (fun t14 h_19 => 
 X t14 h_19) h_15 ⟨⟩) ⟨⟩ ⟨⟩) #[] ⟨⟩) h_4 ⟨⟩ ⟨⟩) h_4 ⟨⟩ ⟨⟩) #[] ⟨⟩ ⟨⟩) #[] ⟨⟩ ⟨⟩) #[] ⟨⟩ ⟨⟩) #[] ⟨⟩ ⟨⟩) h_4 ⟨⟩ ⟨⟩) #[] ⟨⟩ ⟨⟩) #[] ⟨⟩ ⟨⟩) #[] ⟨⟩ ⟨⟩) #[] ⟨⟩) [i6] h_3 ⟨⟩) (
 R (.tuple #[]) h_3) ⟨⟩ ⟨⟩) h_2 ⟨⟩) [t9] h_1 ⟨⟩) h ⟨⟩

theorem n149_calls {data0 a1 b2 : Value} {R : Value → Heap → Prop} {h : Heap} (H : n149 data0 a1 b2 R h) : CallsH Tryz.prog 149 #[data0, a1, b2] h R ⟨⟩ :=
 callsH_of_eq Tryz.follow (.n none .l (.n none (.n (some [7]) (.n none .l (.n none (.n none (.n none .l (.n none (.n (some [8]) .l .l) .l)) .l) .l)) .l) .l)) Tryz.func149 (by kernel_rfl) (by kernel_rfl) (by kernel_rfl) H

/-- slices.heapSortOrdered[string] -/
def n150 (data0 a1 b2 : Value) (R : Value → Heap → Prop) (h : Heap) : Prop :=
 Hp Tryz.prog false (binS .sub 3 (.tmp 12) (.tmp 13) b2 a1) (fun t14 h_1 => 
 Hp Tryz.prog false (binS .sub 3 (.tmp 15) (.const (.int .i64 1)) t14 (.int .i64 1)) (fun t16 h_2 => 
 Hp Tryz.prog false (binS .quo 3 (.tmp 16) (.const (.int .i64 2)) t16 (.int .i64 2)) (fun t17 h_3 => 
 LoopC 1 (fun (X : Value → Heap → Prop) => fun i9 h_4 =>
 Hp Tryz.prog false (binS .geq 3 (.tmp 18) (.const (.int .i64 0)) i9 (.int .i64 0)) (fun t19 h_5 => 
 CondP t19 (
 CallsH Tryz.prog 159 #[data0, i9, t14, a1] h_5 (fun t26 h_6 => 
 Hp Tryz.prog false (binS .sub 3 (.tmp 20) (.const (.int .i64 1)) i9 (.int .i64 1)) (fun t21 h_7 => 
 X t21 h_7) h_6 ⟨⟩) ⟨⟩) (
 Hp Tryz.prog false (binS .sub 3 (.tmp 27) (.const (.int .i64 1)) t14 (.int .i64 1)) (fun t28 h_8 => 
 LoopC 1 (fun (X_1 : Value → Heap → Prop) => fun i10 h_9 =>
 Hp Tryz.prog false (binS .geq 3 (.tmp 29) (.const (.int .i64 0)) i10 (.int .i64 0)) (fun t30 h_10 => 
 CondP t30 (
 Hp Tryz.prog true (binS .add 3 (.tmp 36) (.tmp 37) a1 i10) (fun t38 _ => 
 Hp Tryz.prog true (binS .add 3 (.tmp 40) (.tmp 41) a1 i10) (fun t42 _ => 
 Hp Tryz.prog true (Instr.indexAt 105 data0 t42) (fun t43 _ => 
 Hp Tryz.prog true (Instr.loadAt 9 t43) (fun t44 _ => 
 Hp Tryz.prog true (Instr.indexAt 105 data0 a1) (fun t47 _ => 
 Hp Tryz.prog true (Instr.loadAt 9 t47) (fun t48 _ => 
 Hp Tryz.prog true (Instr.indexAt 105 data0 a1) (fun t49 _ => 
 Hp Tryz.prog false (storeS 9 t49 t44) (fun _ h_11 => 
 Hp Tryz.prog true (Instr.indexAt 105 data0 t38) (fun t50 _ => 
 Hp Tryz.prog false (storeS 9 t50 t48) (fun _ h_12 => 
 CallsH Tryz.prog 159 #[data0, (.int .i64 0), i10, a1] h_12 (fun t55 h_13 => 
 Hp Tryz.prog false (binS .sub 3 (.tmp 31) (.const (.int .i64 1)) i10 (.int .i64 1)) (fun t32 h_14 => 
 X_1 t32 h_14) h_13 ⟨⟩) ⟨⟩) h_11 ⟨⟩) #[] ⟨⟩) h_10 ⟨⟩) #[] ⟨⟩) h_10 ⟨⟩) #[] ⟨⟩) h_10 ⟨⟩) #[] ⟨⟩) #[] ⟨⟩) #[] ⟨⟩) (
 R (.tuple #[]) h_10) ⟨⟩ ⟨⟩) h_9 ⟨⟩) [t28] h_8 ⟨⟩) h_5 ⟨⟩) ⟨⟩ ⟨⟩) h_4 ⟨⟩) [t17] h_3 ⟨⟩) h_2 ⟨⟩) h_1 ⟨⟩) h ⟨⟩

theorem n150_calls {data0 a1 b2 : Value} {R : Value → Heap → Prop} {h : Heap} (H : n150 data0 a1 b2 R h) : CallsH Tryz.prog 150 #[data0, a1, b2] h R ⟨⟩ :=
 callsH_of_eq Tryz.follow (.n none .l (.n none .l (.n none .l (.n none (.n none .l (.n none (.n (some [10]) .l .l) .l)) (.n none .l (.n none (.n (some [11]) .l .l) .l)))))) Tryz.func150 (by kernel_rfl) (by kernel_rfl) (by kernel_rfl) H

/-- slices.breakPatternsOrdered[string] -/
def n151 (data0 a1 b2 : Value) (R : Value → Heap → Prop) (h : Heap) : Prop :=
 Hp Tryz.prog false (binS .sub 3 (.tmp 11) (.tmp 12) b2 a1) (fun t13 h_1 => 
 Hp Tryz.prog false (binS .geq 3 (.tmp 14) (.const (.int .i64 8)) t13 (.int .i64 8)) (fun t15 h_2 => 
 CondP t15 (
 Hp Tryz.prog false (convert 3 223 t13) (fun t17 h_3 => 
 Hp Tryz.prog false (Instr.alloc 223 true undef) (fun random7 h_4 => 
 Hp Tryz.prog false (storeS 223 random7 t17) (fun _ h_5 => 
 CallsH Tryz.prog 144 #[t13] h_5 (fun t19 h_6 => 
 Hp Tryz.prog false (binS .quo 3 (.tmp 21) (.const (.int .i64 4)) t13 (.int .i64 4)) (fun t22 h_7 => 
 Hp Tryz.prog false (binS .mul 3 (.tmp 22) (.const (.int .i64 2)) t22 (.int .i64 2)) (fun t23 h_8 => 
 Hp Tryz.prog false (binS .add 3 (.tmp 20) (.tmp 23) a1 t23) (fun t24 h_9 => 
 Hp Tryz.prog false (binS .sub 3 (.tmp 24) (.const (.int .i64 1)) t24 (.int .i64 1)) (fun t25 h_10 => 
 LoopC 1 (fun (X : Value → Heap → Prop) => fun idx9 h_11 =>
 Hp Tryz.prog false (binS .quo 3 (.tmp 28) (.const (.int .i64 4)) t13 (.int .i64 4)) (fun t29 h_12 => 
 Hp Tryz.prog false (binS .mul 3 (.tmp 29) (.const (.int .i64 2)) t29 (.int .i64 2)) (fun t30 h_13 => 
 Hp Tryz.prog false (binS .add 3 (.tmp 27) (.tmp 30) a1 t30) (fun t31 h_14 => 
 Hp Tryz.prog false (binS .add 3 (.tmp 31) (.const (.int .i64 1)) t31 (.int .i64 1)) (fun t32 h_15 => 
 Hp Tryz.prog false (binS .leq 3 (.tmp 26) (.tmp 32) idx9 t32) (fun t33 h_16 => 
 CondP t33 (
 CallsH Tryz.prog 145 #[random7] h_16 (fun t36 h_17 => 
 Hp Tryz.prog false (binS .sub 195 (.tmp 37) (.const (.int .u64 1)) t19 (.int .u64 1)) (fun t38 h_18 => 
 Hp Tryz.prog false (binS .and 195 (.tmp 36) (.tmp 38) t36 t38) (fun t39 h_19 => 
 Hp Tryz.prog false (convert 195 3 t39) (fun t40 h_20 => 
 JoinN 1 (fun (k : Value → Heap → Prop) h_21 =>
 Hp Tryz.prog false (binS .geq 3 (.tmp 41) (.tmp 42) t40 t13) (fun t43 h_22 => 
 CondP t43 (
 Hp Tryz.prog false (binS .sub 3 (.tmp 44) (.tmp 45) t40 t13) (fun t46 h_23 => 
 k t46 h_23) h_22 ⟨⟩) (
 k t40 h_22) ⟨⟩ ⟨⟩) h_21 ⟨⟩)
 (fun other10 h_24 =>
 Hp Tryz.prog true (binS .add 3 (.tmp 50) (.tmp 51) a1 other10) (fun t52 _ => 
 Hp Tryz.prog true (binS .add 3 (.tmp 54) (.tmp 55) a1 other10) (fun t56 _ => 
 Hp Tryz.prog true (Instr.indexAt 105 data0 t56) (fun t57 _ => 
 Hp Tryz.prog true (Instr.loadAt 9 t57) (fun t58 _ => 
 Hp Tryz.prog true (Instr.indexAt 105 data0 idx9) (fun t61 _ => 
 Hp Tryz.prog true (Instr.loadAt 9 t61) (fun t62 _ => 
 Hp Tryz.prog true (Instr.indexAt 105 data0 idx9) (fun t63 _ => 
 Hp Tryz.prog false (storeS 9 t63 t58) (fun _ h_25 => 
 Hp Tryz.prog true (Instr.indexAt 105 data0 t52) (fun t64 _ => 
 Hp Tryz.prog false (storeS 9 t64 t62) (fun _ h_26 => 
 Hp Tryz.prog false (binS .add 3 (.tmp 34) (.const (.int .i64 1)) idx9 (.int .i64 1)) (fun t35 h_27 => 
 X t35 h_27) h_26 ⟨⟩) h_25 ⟨⟩) #[] ⟨⟩) h_24 ⟨⟩) #[] ⟨⟩) h_24 ⟨⟩) #[] ⟨⟩) h_24 ⟨⟩) #[] ⟨⟩) #[] ⟨⟩) #[] ⟨⟩) h_20 ⟨⟩ ⟨⟩) h_19 ⟨⟩) h_18 ⟨⟩) h_17 ⟨⟩) ⟨⟩) (
 R (.tuple #[]) h_16) ⟨⟩ ⟨⟩) h_15 ⟨⟩) h_14 ⟨⟩) h_13 ⟨⟩) h_12 ⟨⟩) h_11 ⟨⟩) [t25] h_10 ⟨⟩) h_9 ⟨⟩) h_8 ⟨⟩) h_7 ⟨⟩) h_6 ⟨⟩) ⟨⟩) h_4 ⟨⟩) h_3 ⟨⟩) h_2 ⟨⟩) (
 R (.tuple #[]) h_2) ⟨⟩ ⟨⟩) h_1 ⟨⟩) h ⟨⟩

theorem n151_calls {data0 a1 b2 : Value} {R : Value → Heap → Prop} {h : Heap} (H : n151 data0 a1 b2 R h) : CallsH Tryz.prog 151 #[data0, a1, b2] h R ⟨⟩ :=
 callsH_of_eq Tryz.follow (.n none .l (.n none .l (.n none (.n none .l (.n none .l (.n none .l (.n none (.n (some [10]) (.n none .l (.n none (.n none (.n none .l (.n (some [11]) .l .l)) .l) .l)) .l) .l)))) .l))) Tryz.func151 (by kernel_rfl) (by kernel_rfl) (by kernel_rfl) H

/-- slices.choosePivotOrdered[string] -/
def n152 (data0 a1 b2 : Value) (R : Value → Heap → Prop) (h : Heap) : Prop :=
 Hp Tryz.prog false (binS .sub 3 (.tmp 13) (.tmp 14) b2 a1) (fun t15 h_1 => 
 Hp Tryz.prog false (Instr.alloc 3 true undef) (fun swaps9 h_2 => 
 Hp Tryz.prog false (binS .quo 3 (.tmp 17) (.const (.int .i64 4)) t15 (.int .i64 4)) (fun t18 h_3 => 
 Hp Tryz.prog false (binS .mul 3 (.tmp 18) (.const (.int .i64 1)) t18 (.int .i64 1)) (fun t19 h_4 => 
 Hp Tryz.prog false (binS .add 3 (.tmp 16) (.tmp 19) a1 t19) (fun t20 h_5 => 
 Hp Tryz.prog false (binS .quo 3 (.tmp 22) (.const (.int .i64 4)) t15 (.int .i64 4)) (fun t23 h_6 => 
 Hp Tryz.prog false (binS .mul 3 (.tmp 23) (.const (.int .i64 2)) t23 (.int .i64 2)) (fun t24 h_7 => 
 Hp Tryz.prog false (binS .add 3 (.tmp 21) (.tmp 24) a1 t24) (fun t25 h_8 => 
 Hp Tryz.prog false (binS .quo 3 (.tmp 27) (.const (.int .i64 4)) t15 (.int .i64 4)) (fun t28 h_9 => 
 Hp Tryz.prog false (binS .mul 3 (.tmp 28) (.const (.int .i64 3)) t28 (.int .i64 3)) (fun t29 h_10 => 
 Hp Tryz.prog false (binS .add 3 (.tmp 26) (.tmp 29) a1 t29) (fun t30 h_11 => 
 JoinN 1 (fun (k : Value → Heap → Prop) h_12 =>
 Hp Tryz.prog false (binS .geq 3 (.tmp 31) (.const (.int .i64 8)) t15 (.int .i64 8)) (fun t32 h_13 => 
 CondP t32 (
 JoinN 3 (fun (k_1 : Value → Value → Value → Heap → Prop) h_14 =>
 Hp Tryz.prog false (binS .geq 3 (.tmp 33) (.const (.int .i64 50)) t15 (.int .i64 50)) (fun t34 h_15 => 
 CondP t34 (
 CallsH Tryz.prog 160 #[data0, t20, swaps9] h_15 (fun t37 h_16 => 
 CallsH Tryz.prog 160 #[data0, t25, swaps9] h_16 (fun t40 h_17 => 
 CallsH Tryz.prog 160 #[data0, t30, swaps9] h_17 (fun t43 h_18 => 
 k_1 t37 t40 t43 h_18) ⟨⟩) ⟨⟩) ⟨⟩) (
 k_1 t20 t25 t30 h_15) ⟨⟩ ⟨⟩) h_14 ⟨⟩)
 (fun i10 j11 k12 h_19 =>
 CallsH Tryz.prog 161 #[data0, i10, j11, k12, swaps9] h_19 (fun t48 h_20 => 
 k t48 h_20) ⟨⟩) h_13 ⟨⟩ ⟨⟩) (
 k t25 h_13) ⟨⟩ ⟨⟩) h_12 ⟨⟩)
 (fun j11_1 h_21 =>
 Hp Tryz.prog false (Instr.loadAt 3 swaps9) (fun t49 h_22 => 
 Hp Tryz.prog false (binS .eql 3 (.tmp 49) (.const (.int .i64 0)) t49 (.int .i64 0)) (fun t52 h_23 => 
 CondP t52 (
 R (.tuple #[j11_1, (.int .i64 1)]) h_23) (
 Hp Tryz.prog false (binS .eql 3 (.tmp 49) (.const (.int .i64 12)) t49 (.int .i64 12)) (fun t55 h_24 => 
 CondP t55 (
 R (.tuple #[j11_1, (.int .i64 2)]) h_24) (
 R (.tuple #[j11_1, (.int .i64 0)]) h_24) ⟨⟩ ⟨⟩) h_23 ⟨⟩) ⟨⟩ ⟨⟩) h_22 ⟨⟩) h_21 ⟨⟩) h_11 ⟨⟩ ⟨⟩) h_10 ⟨⟩) h_9 ⟨⟩) h_8 ⟨⟩) h_7 ⟨⟩) h_6 ⟨⟩) h_5 ⟨⟩) h_4 ⟨⟩) h_3 ⟨⟩) h_2 ⟨⟩) h_1 ⟨⟩) h ⟨⟩

theorem n152_calls {data0 a1 b2 : Value} {R : Value → Heap → Prop} {h : Heap} (H : n152 data0 a1 b2 R h) : CallsH Tryz.prog 152 #[data0, a1, b2] h R ⟨⟩ :=
 callsH_of_eq Tryz.follow (.n none .l (.n none .l (.n none .l (.n none .l (.n none .l (.n none .l (.n (some [12]) (.n none .l (.n none (.n (some [11, 12, 13]) .l .l) .l)) .l))))))) Tryz.func152 (by kernel_rfl) (by kernel_rfl) (by kernel_rfl) H

/-- slices.reverseRangeOrdered[string] -/
def n153 (data0 a1 b2 : Value) (R : Value → Heap → Prop) (h : Heap) : Prop :=
 Hp Tryz.prog false (binS .sub 3 (.tmp 9) (.const (.int .i64 1)) b2 (.int .i64 1)) (fun t10 h_1 => 
 LoopC 2 (fun (X : Value → Value → Heap → Prop) => fun i6 j7 h_2 =>
 Hp Tryz.prog false (binS .lss 3 (.tmp 11) (.tmp 12) i6 j7) (fun t13 h_3 => 
 CondP t13 (
 Hp Tryz.prog true (Instr.indexAt 105 data0 j7) (fun t20 _ => 
 Hp Tryz.prog true (Instr.loadAt 9 t20) (fun t21 _ => 
 Hp Tryz.prog true (Instr.indexAt 105 data0 i6) (fun t24 _ => 
 Hp Tryz.prog true (Instr.loadAt 9 t24) (fun t25 _ => 
 Hp Tryz.prog true (Instr.indexAt 105 data0 i6) (fun t26 _ => 
 Hp Tryz.prog false (storeS 9 t26 t21) (fun _ h_4 => 
 Hp Tryz.prog true (Instr.indexAt 105 data0 j7) (fun t27 _ => 
 Hp Tryz.prog false (storeS 9 t27 t25) (fun _ h_5 => 
 Hp Tryz.prog false (binS .add 3 (.tmp 28) (.const (.int .i64 1)) i6 (.int .i64 1)) (fun t29 h_6 => 
 Hp Tryz.prog false (binS .sub 3 (.tmp 30) (.const (.int .i64 1)) j7 (.int .i64 1)) (fun t31 h_7 => 
 X t29 t31 h_7) h_6 ⟨⟩) h_5 ⟨⟩) h_4 ⟨⟩) #[] ⟨⟩) h_3 ⟨⟩) #[] ⟨⟩) h_3 ⟨⟩) #[] ⟨⟩) h_3 ⟨⟩) #[] ⟨⟩) (
 R (.tuple #[]) h_3) ⟨⟩ ⟨⟩) h_2 ⟨⟩) [a1, t10] h_1 ⟨⟩) h ⟨⟩

theorem n153_calls {data0 a1 b2 : Value} {R : Value → Heap → Prop} {h : Heap} (H : n153 data0 a1 b2 R h) : CallsH Tryz.prog 153 #[data0, a1, b2] h R ⟨⟩ :=
 callsH_of_eq Tryz.follow (.n none .l (.n none .l (.n none (.n (some [7, 8]) .l .l) .l))) Tryz.func153 (by kernel_rfl) (by kernel_rfl) (by kernel_rfl) H

/-- slices.partialInsertionSortOrdered[string] -/
def n154 (data0 a1 b2 : Value) (R : Value → Heap → Prop) (h : Heap) : Prop :=
 Hp Tryz.prog false (binS .add 3 (.tmp 11) (.const (.int .i64 1)) a1 (.int .i64 1)) (fun t12 h_1 => 
 LoopC 2 (fun (X : Value → Value → Heap → Prop) => fun i7 j8 h_2 =>
 Hp Tryz.prog false (binS .lss 3 (.tmp 13) (.const (.int .i64 5)) j8 (.int .i64 5)) (fun t14 h_3 => 
 CondP t14 (
 JoinN 1 (fun (k : Value → Heap → Prop) h_4 =>
 JoinN 1 (fun (k_1 : Value → Heap → Prop) h_5 =>
 LoopC 1 (fun (X_1 : Value → Heap → Prop) => fun i7_1 h_6 =>
 Hp Tryz.prog true (binS .lss 3 (.tmp 17) (.tmp 18) i7_1 b2) (fun t19 _ => 
 Join1 (fun k_2 h_7 => guardP t19 true (k_2 data0 h_7) (k_2 undef h_7) ⟨⟩ ⟨⟩) (fun t21 _ => 
 Join1 (fun k_3 h_8 => guardP t19 true (k_3 i7_1 h_8) (k_3 undef h_8) ⟨⟩ ⟨⟩) (fun t22 _ => 
 Join1 (fun k_4 h_9 => guardP t19 true (Hp Tryz.prog true (Instr.indexAt 105 t21 t22) k_4 h_9 ⟨⟩) (k_4 undef h_9) ⟨⟩ ⟨⟩) (fun t23 _ => 
 Join1 (fun k_5 h_10 => guardP t19 true (Hp Tryz.prog true (Instr.loadAt 9 t23) k_5 h_10 ⟨⟩) (k_5 undef h_10) ⟨⟩ ⟨⟩) (fun t24 _ => 
 Join1 (fun k_6 h_11 => guardP t19 true (k_6 data0 h_11) (k_6 undef h_11) ⟨⟩ ⟨⟩) (fun t25 _ => 
 Join1 (fun k_7 h_12 => guardP t19 true (k_7 i7_1 h_12) (k_7 undef h_12) ⟨⟩ ⟨⟩) (fun t26 _ => 
 Join1 (fun k_8 h_13 => guardP t19 true (Hp Tryz.prog true (binS .sub 3 (.tmp 26) (.const (.int .i64 1)) t26 (.int .i64 1)) k_8 h_13 ⟨⟩) (k_8 undef h_13) ⟨⟩ ⟨⟩) (fun t27 _ => 
 Join1 (fun k_9 h_14 => guardP t19 true (Hp Tryz.prog true (Instr.indexAt 105 t25 t27) k_9 h_14 ⟨⟩) (k_9 undef h_14) ⟨⟩ ⟨⟩) (fun t28 _ => 
 Join1 (fun k_10 h_15 => guardP t19 true (Hp Tryz.prog true (Instr.loadAt 9 t28) k_10 h_15 ⟨⟩) (k_10 undef h_15) ⟨⟩ ⟨⟩) (fun t29 _ => 
 Join1 (fun k_11 h_16 => guardP t19 true (CallsH Tryz.prog 155 #[t24, t29] h_16 k_11 ⟨⟩) (k_11 undef h_16) ⟨⟩ ⟨⟩) (fun t30 h_17 => 
 Join1 (fun k_12 h_18 => guardP t19 true (Hp Tryz.prog true (Op.unary .not t30) k_12 h_18 ⟨⟩) (k_12 undef h_18) ⟨⟩ ⟨⟩) (fun t31 _ => 
 Hp Tryz.prog true (pickS t19 t31 (.bool false)) (fun t32 _ => 
 CondP t32 (
 Hp Tryz.prog false (binS .add 3 (.tmp 33) (.const (.int .i64 1)) i7_1 (.int .i64 1)) (fun t34 h_19 => 
 X_1 t34 h_19) h_17 ⟨⟩) (
 Hp Tryz.prog false (binS .eql 3 (.tmp 35) (.tmp 36) i7_1 b2) (fun t37 h_20 => 
 CondP t37 (
 R (.bool true) h_20) (
 Hp Tryz.prog false (binS .sub 3 (.tmp 38) (.tmp 39) b2 a1) (fun t40 h_21 => 
 Hp Tryz.prog false (binS .lss 3 (.tmp 40) (.const (.int .i64 50)) t40 (.int .i64 50)) (fun t41 h_22 => 
 CondP t41 (
 R (.bool false) h_22) (
 Hp Tryz.prog true (binS .sub 3 (.tmp 45) (.const (.int .i64 1)) i7_1 (.int .i64 1)) (fun t46 _ => 
 Hp Tryz.prog true (binS .sub 3 (.tmp 48) (.const (.int .i64 1)) i7_1 (.int .i64 1)) (fun t49 _ => 
 Hp Tryz.prog true (Instr.indexAt 105 data0 t49) (fun t50 _ => 
 Hp Tryz.prog true (Instr.loadAt 9 t50) (fun t51 _ => 
 Hp Tryz.prog true (Instr.indexAt 105 data0 i7_1) (fun t54 _ => 
 Hp Tryz.prog true (Instr.loadAt 9 t54) (fun t55 _ => 
 Hp Tryz.prog true (Instr.indexAt 105 data0 i7_1) (fun t56 _ => 
 Hp Tryz.prog false (storeS 9 t56 t51) (fun _ h_23 => 
 Hp Tryz.prog true (Instr.indexAt 105 data0 t46) (fun t57 _ => 
 Hp Tryz.prog false (storeS 9 t57 t55) (fun _ h_24 => 
 JoinN 0 (fun (k_13 : Heap → Prop) h_25 =>
 Hp Tryz.prog false (binS .sub 3 (.tmp 58) (.tmp 59) i7_1 a1) (fun t60 h_26 => 
 Hp Tryz.prog false (binS .geq 3 (.tmp 60) (.const (.int .i64 2)) t60 (.int .i64 2)) (fun t61 h_27 => 
 CondP t61 (
 Hp Tryz.prog false (binS .sub 3 (.tmp 62) (.const (.int .i64 1)) i7_1 (.int .i64 1)) (fun t63 h_28 => 
 JoinN 0 (fun (k_14 : Heap → Prop) h_29 =>
 LoopC 1 (fun (X_2 : Value → Heap → Prop) => fun j9 h_30 =>
 Hp Tryz.prog false (binS .geq 3 (.tmp 64) (.const (.int .i64 1)) j9 (.int .i64 1)) (fun t65 h_31 => 
 CondP t65 (
 Hp Tryz.prog true (Instr.indexAt 105 data0 j9) (fun t70 _ => 
 Hp Tryz.prog true (Instr.loadAt 9 t70) (fun t71 _ => 
 Hp Tryz.prog true (binS .sub 3 (.tmp 73) (.const (.int .i64 1)) j9 (.int .i64 1)) (fun t74 _ => 
 Hp Tryz.prog true (Instr.indexAt 105 data0 t74) (fun t75 _ => 
 Hp Tryz.prog true (Instr.loadAt 9 t75) (fun t76 _ => 
 CallsH Tryz.prog 155 #[t71, t76] h_31 (fun t77 h_32 => 
 Hp Tryz.prog true (Op.unary .not t77) (fun t78 _ => 
 CondP t78 (
 k_14 h_32) (
 Hp Tryz.prog true (binS .sub 3 (.tmp 82) (.const (.int .i64 1)) j9 (.int .i64 1)) (fun t83 _ => 
 Hp Tryz.prog true (binS .sub 3 (.tmp 85) (.const (.int .i64 1)) j9 (.int .i64 1)) (fun t86 _ => 
 Hp Tryz.prog true (Instr.indexAt 105 data0 t86) (fun t87 _ => 
 Hp Tryz.prog true (Instr.loadAt 9 t87) (fun t88 _ => 
 Hp Tryz.prog true (Instr.indexAt 105 data0 j9) (fun t91 _ => 
 Hp Tryz.prog true (Instr.loadAt 9 t91) (fun t92 _ => 
 Hp Tryz.prog true (Instr.indexAt 105 data0 j9) (fun t93 _ => 
 Hp Tryz.prog false (storeS 9 t93 t88) (fun _ h_33 => 
 Hp Tryz.prog true (Instr.indexAt 105 data0 t83) (fun t94 _ => 
 Hp Tryz.prog false (storeS 9 t94 t92) (fun _ h_34 => 
 Hp Tryz.prog false (binS .sub 3 (.tmp 66) (.const (.int .i64 1)) j9 (.int .i64 1)) (fun t67 h_35 => 
 X_2 t67 h_35) h_34 ⟨⟩) h_33 ⟨⟩) #[] ⟨⟩) h_32 ⟨⟩) #[] ⟨⟩) h_32 ⟨⟩) #[] ⟨⟩) h_32 ⟨⟩) #[] ⟨⟩) #[] ⟨⟩) #[] ⟨⟩) ⟨⟩ ⟨⟩) #[] ⟨⟩) ⟨⟩) h_31 ⟨⟩) #[] ⟨⟩) #[] ⟨⟩) h_31 ⟨⟩) #[] ⟨⟩) (
 k_14 h_31) ⟨⟩ ⟨⟩) h_30 ⟨⟩) [t63] h_29 ⟨⟩)
 (fun h_36 =>
 k_13 h_36) h_28 ⟨⟩ ⟨⟩) h_27 ⟨⟩) (
 k_13 h_27) ⟨⟩ ⟨⟩) h_26 ⟨⟩) h_25 ⟨⟩)
 (fun h_37 =>
 Hp Tryz.prog false (binS .sub 3 (.tmp 95) (.tmp 96) b2 i7_1) (fun t97 h_38 => 
 Hp Tryz.prog false (binS .geq 3 (.tmp 97) (.const (.int .i64 2)) t97 (.int .i64 2)) (fun t98 h_39 => 
 CondP t98 (
 Hp Tryz.prog false (binS .add 3 (.tmp 99) (.const (.int .i64 1)) i7_1 (.int .i64 1)) (fun t100 h_40 => 
 JoinN 0 (fun (k_15 : Heap → Prop) h_41 =>
 LoopC 1 (fun (X_3 : Value → Heap → Prop) => fun j10 h_42 =>
 Hp Tryz.prog false (binS .lss 3 (.tmp 101) (.tmp 102) j10 b2) (fun t103 h_43 => 
 CondP t103 (
 Hp Tryz.prog true (Instr.indexAt 105 data0 j10) (fun t108 _ => 
 Hp Tryz.prog true (Instr.loadAt 9 t108) (fun t109 _ => 
 Hp Tryz.prog true (binS .sub 3 (.tmp 111) (.const (.int .i64 1)) j10 (.int .i64 1)) (fun t112 _ => 
 Hp Tryz.prog true (Instr.indexAt 105 data0 t112) (fun t113 _ => 
 Hp Tryz.prog true (Instr.loadAt 9 t113) (fun t114 _ => 
 CallsH Tryz.prog 155 #[t109, t114] h_43 (fun t115 h_44 => 
 Hp Tryz.prog true (Op.unary .not t115) (fun t116 _ => 
 CondP t116 (
 k_15 h_44) (
 Hp Tryz.prog true (binS .sub 3 (.tmp 120) (.const (.int .i64 1)) j10 (.int .i64 1)) (fun t121 _ => 
 Hp Tryz.prog true (binS .sub 3 (.tmp 123) (.const (.int .i64 1)) j10 (.int .i64 1)) (fun t124 _ => 
 Hp Tryz.prog true (Instr.indexAt 105 data0 t124) (fun t125 _ => 
 Hp Tryz.prog true (Instr.loadAt 9 t125) (fun t126 _ => 
 Hp Tryz.prog true (Instr.indexAt 105 data0 j10) (fun t129 _ => 
 Hp Tryz.prog true (Instr.loadAt 9 t129) (fun t130 _ => 
 Hp Tryz.prog true (Instr.indexAt 105 data0 j10) (fun t131 _ => 
 Hp Tryz.prog false (storeS 9 t131 t126) (fun _ h_45 => 
 Hp Tryz.prog true (Instr.indexAt 105 data0 t121) (fun t132 _ => 
 Hp Tryz.prog false (storeS 9 t132 t130) (fun _ h_46 => 
 Hp Tryz.prog false (binS .add 3 (.tmp 104) (.const (.int .i64 1)) j10 (.int .i64 1)) (fun t105 h_47 => 
 X_3 t105 h_47) h_46 ⟨⟩) h_45 ⟨⟩) #[] ⟨⟩) h_44 ⟨⟩) #[] ⟨⟩) h_44 ⟨⟩) #[] ⟨⟩) h_44 ⟨⟩) #[] ⟨⟩) #[] ⟨⟩) #[] ⟨⟩) ⟨⟩ ⟨⟩) #[] ⟨⟩) ⟨⟩) h_43 ⟨⟩) #[] ⟨⟩) #[] ⟨⟩) h_43 ⟨⟩) #[] ⟨⟩) (
 k_15 h_43) ⟨⟩ ⟨⟩) h_42 ⟨⟩) [t100] h_41 ⟨⟩)
 (fun h_48 =>
 k_1 i7_1 h_48) h_40 ⟨⟩ ⟨⟩) h_39 ⟨⟩) (
 k_1 i7_1 h_39) ⟨⟩ ⟨⟩) h_38 ⟨⟩) h_37 ⟨⟩) h_24 ⟨⟩ ⟨⟩) h_23 ⟨⟩) #[] ⟨⟩) h_22 ⟨⟩) #[] ⟨⟩) h_22 ⟨⟩) #[] ⟨⟩) h_22 ⟨⟩) #[] ⟨⟩) #[] ⟨⟩) #[] ⟨⟩) ⟨⟩ ⟨⟩) h_21 ⟨⟩) h_20 ⟨⟩) ⟨⟩ ⟨⟩) h_17 ⟨⟩) ⟨⟩ ⟨⟩) #[] ⟨⟩) #[] ⟨⟩ ⟨⟩) h_6 ⟨⟩ ⟨⟩) h_6 ⟨⟩ ⟨⟩) #[] ⟨⟩ ⟨⟩) #[] ⟨⟩ ⟨⟩) #[] ⟨⟩ ⟨⟩) #[] ⟨⟩ ⟨⟩) h_6 ⟨⟩ ⟨⟩) #[] ⟨⟩ ⟨⟩) #[] ⟨⟩ ⟨⟩) #[] ⟨⟩ ⟨⟩) #[] ⟨⟩) [i7] h_5 ⟨⟩)
 (fun i7_2 h_49 =>
 k i7_2 h_49) h_4 ⟨⟩ ⟨⟩)
 (fun i7_3 h_50 =>
 Hp Tryz.prog false (binS .add 3 (.tmp 15) (.const (.int .i64 1)) j8 (.int .i64 1)) (fun t16 h_51 => 
 X i7_3 t16 h_51) h_50 ⟨⟩) h_3 ⟨⟩ ⟨⟩) (
 R (.bool false) h_3) ⟨⟩ ⟨⟩) h_2 ⟨⟩) [t12, (.int .i64 0)] h_1 ⟨⟩) h ⟨⟩

theorem n154_calls {data0 a1 b2 : Value} {R : Value → Heap → Prop} {h : Heap} (H : n154 data0 a1 b2 R h) : CallsH Tryz.prog 154 #[data0, a1, b2] h R ⟨⟩ :=
 callsH_of_eq Tryz.follow (.n none .l (.n none .l (.n none (.n none .l (.n none (.n (some [8, 9]) (.n none .l (.n (some [8]) (.n (some [8]) (.n none (.n none (.n (some [8]) .l .l) .l) (.n none .l (.n none .l (.n none .l (.n (some []) (.n none .l (.n none (.n none .l (.n (some []) (.n (some [10]) .l .l) .l)) .l)) (.n none .l (.n none (.n none .l (.n (some []) (.n (some [11]) .l .l) .l)) .l))))))) .l) .l)) .l) .l)) .l))) Tryz.func154 (by kernel_rfl) (by kernel_rfl) (by kernel_rfl) H

/-- cmp.Less[string] -/
def n155 (x0 y1 : Value) (R : Value → Heap → Prop) (h : Heap) : Prop :=
 CallsH Tryz.prog 162 #[x0] h (fun t6 h_1 => 
 Join1 (fun k h_2 => guardP t6 true (k y1 h_2) (k undef h_2) ⟨⟩ ⟨⟩) (fun t8 h_3 => 
 Join1 (fun k_1 h_4 => guardP t6 true (CallsH Tryz.prog 162 #[t8] h_4 k_1 ⟨⟩) (k_1 undef h_4) ⟨⟩ ⟨⟩) (fun t9 h_5 => 
 Join1 (fun k_2 h_6 => guardP t6 true (Hp Tryz.prog false (Op.unary .not t9) k_2 h_6 ⟨⟩) (k_2 undef h_6) ⟨⟩ ⟨⟩) (fun t10 h_7 => 
 Hp Tryz.prog false (pickS t6 t10 (.bool false)) (fun t11 h_8 => 
 Join1 (fun k_3 h_9 => guardP t11 false (k_3 x0 h_9) (k_3 undef h_9) ⟨⟩ ⟨⟩) (fun t13 h_10 => 
 Join1 (fun k_4 h_11 => guardP t11 false (k_4 y1 h_11) (k_4 undef h_11) ⟨⟩ ⟨⟩) (fun t14 h_12 => 
 Join1 (fun k_5 h_13 => guardP t11 false (Hp Tryz.prog false (binS .lss 9 (.tmp 13) (.tmp 14) t13 t14) k_5 h_13 ⟨⟩) (k_5 undef h_13) ⟨⟩ ⟨⟩) (fun t15 h_14 => 
 Hp Tryz.prog false (pickS t11 (.bool true) t15) (fun t16 h_15 => 
 R t16 h_15) h_14 ⟨⟩) h_12 ⟨⟩ ⟨⟩) h_10 ⟨⟩ ⟨⟩) h_8 ⟨⟩ ⟨⟩) h_7 ⟨⟩) h_5 ⟨⟩ ⟨⟩) h_3 ⟨⟩ ⟨⟩) h_1 ⟨⟩ ⟨⟩) ⟨⟩

theorem n155_calls {x0 y1 : Value} {R : Value → Heap → Prop} {h : Heap} (H : n155 x0 y1 R h) : CallsH Tryz.prog 155 #[x0, y1] h R ⟨⟩ :=
 callsH_of_eq Tryz.follow .l Tryz.func155 (by kernel_rfl) (by kernel_rfl) (by kernel_rfl) H

/-- slices.partitionEqualOrdered[string] -/
def n156 (data0 a1 b2 pivot3 : Value) (R : Value → Heap → Prop) (h : Heap) : Prop :=
 Hp Tryz.prog true (Instr.indexAt 105 data0 pivot3) (fun t17 _ => 
 Hp Tryz.prog true (Instr.loadAt 9 t17) (fun t18 _ => 
 Hp Tryz.prog true (Instr.indexAt 105 data0 a1) (fun t21 _ => 
 Hp Tryz.prog true (Instr.loadAt 9 t21) (fun t22 _ => 
 Hp Tryz.prog true (Instr.indexAt 105 data0 a1) (fun t23 _ => 
 Hp Tryz.prog false (storeS 9 t23 t18) (fun _ h_1 => 
 Hp Tryz.prog true (Instr.indexAt 105 data0 pivot3) (fun t24 _ => 
 Hp Tryz.prog false (storeS 9 t24 t22) (fun _ h_2 => 
 Hp Tryz.prog false (binS .add 3 (.tmp 25) (.const (.int .i64 1)) a1 (.int .i64 1)) (fun t26 h_3 => 
 Hp Tryz.prog false (binS .sub 3 (.tmp 27) (.const (.int .i64 1)) b2 (.int .i64 1)) (fun t28 h_4 => 
 LoopC 2 (fun (X : Value → Value → Heap → Prop) => fun i9 j10 h_5 =>
 LoopC 1 (fun (X_1 : Value → Heap → Prop) => fun i9_1 h_6 =>
 Hp Tryz.prog true (binS .leq 3 (.tmp 29) (.tmp 30) i9_1 j10) (fun t31 _ => 
 Join1 (fun k h_7 => guardP t31 true (k data0 h_7) (k undef h_7) ⟨⟩ ⟨⟩) (fun t33 _ => 
 Join1 (fun k_1 h_8 => guardP t31 true (k_1 a1 h_8) (k_1 undef h_8) ⟨⟩ ⟨⟩) (fun t34 _ => 
 Join1 (fun k_2 h_9 => guardP t31 true (Hp Tryz.prog true (Instr.indexAt 105 t33 t34) k_2 h_9 ⟨⟩) (k_2 undef h_9) ⟨⟩ ⟨⟩) (fun t35 _ => 
 Join1 (fun k_3 h_10 => guardP t31 true (Hp Tryz.prog true (Instr.loadAt 9 t35) k_3 h_10 ⟨⟩) (k_3 undef h_10) ⟨⟩ ⟨⟩) (fun t36 _ => 
 Join1 (fun k_4 h_11 => guardP t31 true (k_4 data0 h_11) (k_4 undef h_11) ⟨⟩ ⟨⟩) (fun t37 _ => 
 Join1 (fun k_5 h_12 => guardP t31 true (k_5 i9_1 h_12) (k_5 undef h_12) ⟨⟩ ⟨⟩) (fun t38 _ => 
 Join1 (fun k_6 h_13 => guardP t31 true (Hp Tryz.prog true (Instr.indexAt 105 t37 t38) k_6 h_13 ⟨⟩) (k_6 undef h_13) ⟨⟩ ⟨⟩) (fun t39 _ => 
 Join1 (fun k_7 h_14 => guardP t31 true (Hp Tryz.prog true (Instr.loadAt 9 t39) k_7 h_14 ⟨⟩) (k_7 undef h_14) ⟨⟩ ⟨⟩) (fun t40 _ => 
 Join1 (fun k_8 h_15 => guardP t31 true (CallsH Tryz.prog 155 #[t36, t40] h_15 k_8 ⟨⟩) (k_8 undef h_15) ⟨⟩ ⟨⟩) (fun t41 h_16 => 
 Join1 (fun k_9 h_17 => guardP t31 true (Hp Tryz.prog true (Op.unary .not t41) k_9 h_17 ⟨⟩) (k_9 undef h_17) ⟨⟩ ⟨⟩) (fun t42 _ => 
 Hp Tryz.prog true (pickS t31 t42 (.bool false)) (fun t43 _ => 
 CondP t43 (
 Hp Tryz.prog false (binS .add 3 (.tmp 44) (.const (.int .i64 1)) i9_1 (.int .i64 1)) (fun t45 h_18 => 
 X_1 t45 h_18) h_16 ⟨⟩) (
 LoopC 1 (fun (X_2 : Value → Heap → Prop) => fun j10_1 h_19 =>
 Hp Tryz.prog true (binS .leq 3 (.tmp 46) (.tmp 47) i9_1 j10_1) (fun t48 _ => 
 Join1 (fun k_10 h_20 => guardP t48 true (k_10 data0 h_20) (k_10 undef h_20) ⟨⟩ ⟨⟩) (fun t50 _ => 
 Join1 (fun k_11 h_21 => guardP t48 true (k_11 a1 h_21) (k_11 undef h_21) ⟨⟩ ⟨⟩) (fun t51 _ => 
 Join1 (fun k_12 h_22 => guardP t48 true (Hp Tryz.prog true (Instr.indexAt 105 t50 t51) k_12 h_22 ⟨⟩) (k_12 undef h_22) ⟨⟩ ⟨⟩) (fun t52 _ => 
 Join1 (fun k_13 h_23 => guardP t48 true (Hp Tryz.prog true (Instr.loadAt 9 t52) k_13 h_23 ⟨⟩) (k_13 undef h_23) ⟨⟩ ⟨⟩) (fun t53 _ => 
 Join1 (fun k_14 h_24 => guardP t48 true (k_14 data0 h_24) (k_14 undef h_24) ⟨⟩ ⟨⟩) (fun t54 _ => 
 Join1 (fun k_15 h_25 => guardP t48 true (k_15 j10_1 h_25) (k_15 undef h_25) ⟨⟩ ⟨⟩) (fun t55 _ => 
 Join1 (fun k_16 h_26 => guardP t48 true (Hp Tryz.prog true (Instr.indexAt 105 t54 t55) k_16 h_26 ⟨⟩) (k_16 undef h_26) ⟨⟩ ⟨⟩) (fun t56 _ => 
 Join1 (fun k_17 h_27 => guardP t48 true (Hp Tryz.prog true (Instr.loadAt 9 t56) k_17 h_27 ⟨⟩) (k_17 undef h_27) ⟨⟩ ⟨⟩) (fun t57 _ => 
 Join1 (fun k_18 h_28 => guardP t48 true (CallsH Tryz.prog 155 #[t53, t57] h_28 k_18 ⟨⟩) (k_18 undef h_28) ⟨⟩ ⟨⟩) (fun t58 h_29 => 
 Hp Tryz.prog true (pickS t48 t58 (.bool false)) (fun t59 _ => 
 CondP t59 (
 Hp Tryz.prog false (binS .sub 3 (.tmp 60) (.const (.int .i64 1)) j10_1 (.int .i64 1)) (fun t61 h_30 => 
 X_2 t61 h_30) h_29 ⟨⟩) (
 Hp Tryz.prog false (binS .gtr 3 (.tmp 62) (.tmp 63) i9_1 j10_1) (fun t64 h_31 => 
 CondP t64 (
 R i9_1 h_31) (
 Hp Tryz.prog true (Instr.indexAt 105 data0 j10_1) (fun t71 _ => 
 Hp Tryz.prog true (Instr.loadAt 9 t71) (fun t72 _ => 
 Hp Tryz.prog true (Instr.indexAt 105 data0 i9_1) (fun t75 _ => 
 Hp Tryz.prog true (Instr.loadAt 9 t75) (fun t76 _ => 
 Hp Tryz.prog true (Instr.indexAt 105 data0 i9_1) (fun t77 _ => 
 Hp Tryz.prog false (storeS 9 t77 t72) (fun _ h_32 => 
 Hp Tryz.prog true (Instr.indexAt 105 data0 j10_1) (fun t78 _ => 
 Hp Tryz.prog false (storeS 9 t78 t76) (fun _ h_33 => 
 Hp Tryz.prog false (binS .add 3 (.tmp 79) (.const (.int .i64 1)) i9_1 (.int .i64 1)) (fun t80 h_34 => 
 Hp Tryz.prog false (binS .sub 3 (.tmp 81) (.const (.int .i64 1)) j10_1 (.int .i64 1)) (fun t82 h_35 => 
 X t80 t82 h_35) h_34 ⟨⟩) h_33 ⟨⟩) h_32 ⟨⟩) #[] ⟨⟩) h_31 ⟨⟩) #[] ⟨⟩) h_31 ⟨⟩) #[] ⟨⟩) h_31 ⟨⟩) #[] ⟨⟩) ⟨⟩ ⟨⟩) h_29 ⟨⟩) ⟨⟩ ⟨⟩) #[] ⟨⟩) h_19 ⟨⟩ ⟨⟩) h_19 ⟨⟩ ⟨⟩) #[] ⟨⟩ ⟨⟩) #[] ⟨⟩ ⟨⟩) #[] ⟨⟩ ⟨⟩) h_19 ⟨⟩ ⟨⟩) #[] ⟨⟩ ⟨⟩) #[] ⟨⟩ ⟨⟩) #[] ⟨⟩ ⟨⟩) #[] ⟨⟩) [j10] h_16 ⟨⟩) ⟨⟩ ⟨⟩) #[] ⟨⟩) #[] ⟨⟩ ⟨⟩) h_6 ⟨⟩ ⟨⟩) h_6 ⟨⟩ ⟨⟩) #[] ⟨⟩ ⟨⟩) #[] ⟨⟩ ⟨⟩) #[] ⟨⟩ ⟨⟩) h_6 ⟨⟩ ⟨⟩) #[] ⟨⟩ ⟨⟩) #[] ⟨⟩ ⟨⟩) #[] ⟨⟩ ⟨⟩) #[] ⟨⟩) [i9] h_5 ⟨⟩) [t26, t28] h_4 ⟨⟩) h_3 ⟨⟩) h_2 ⟨⟩) h_1 ⟨⟩) #[] ⟨⟩) h ⟨⟩) #[] ⟨⟩) h ⟨⟩) #[] ⟨⟩) h ⟨⟩) #[] ⟨⟩

theorem n156_calls {data0 a1 b2 pivot3 : Value} {R : Value → Heap → Prop} {h : Heap} (H : n156 data0 a1 b2 pivot3 R h) : CallsH Tryz.prog 156 #[data0, a1, b2, pivot3] h R ⟨⟩ :=
 callsH_of_eq Tryz.follow (.n none .l (.n none .l (.n none .l (.n none (.n none (.n (some [10, 11]) (.n none (.n none (.n none (.n (some [10]) .l .l) .l) (.n none (.n none (.n (some [11]) .l .l) .l) .l)) .l) .l) .l) .l)))) Tryz.func156 (by kernel_rfl) (by kernel_rfl) (by kernel_rfl) H

/-- slices.partitionOrdered[string] -/
def n157 (data0 a1 b2 pivot3 : Value) (R : Value → Heap → Prop) (h : Heap) : Prop :=
 Hp Tryz.prog true (Instr.indexAt 105 data0 pivot3) (fun t18 _ => 
 Hp Tryz.prog true (Instr.loadAt 9 t18) (fun t19 _ => 
 Hp Tryz.prog true (Instr.indexAt 105 data0 a1) (fun t22 _ => 
 Hp Tryz.prog true (Instr.loadAt 9 t22) (fun t23 _ => 
 Hp Tryz.prog true (Instr.indexAt 105 data0 a1) (fun t24 _ => 
 Hp Tryz.prog false (storeS 9 t24 t19) (fun _ h_1 => 
 Hp Tryz.prog true (Instr.indexAt 105 data0 pivot3) (fun t25 _ => 
 Hp Tryz.prog false (storeS 9 t25 t23) (fun _ h_2 => 
 Hp Tryz.prog false (binS .add 3 (.tmp 26) (.const (.int .i64 1)) a1 (.int .i64 1)) (fun t27 h_3 => 
 Hp Tryz.prog false (binS .sub 3 (.tmp 28) (.const (.int .i64 1)) b2 (.int .i64 1)) (fun t29 h_4 => 
 LoopC 1 (fun (X : Value → Heap → Prop) => fun i10 h_5 =>
 Hp Tryz.prog true (binS .leq 3 (.tmp 30) (.tmp 31) i10 t29) (fun t32 _ => 
 Join1 (fun k h_6 => guardP t32 true (k data0 h_6) (k undef h_6) ⟨⟩ ⟨⟩) (fun t34 _ => 
 Join1 (fun k_1 h_7 => guardP t32 true (k_1 i10 h_7) (k_1 undef h_7) ⟨⟩ ⟨⟩) (fun t35 _ => 
 Join1 (fun k_2 h_8 => guardP t32 true (Hp Tryz.prog true (Instr.indexAt 105 t34 t35) k_2 h_8 ⟨⟩) (k_2 undef h_8) ⟨⟩ ⟨⟩) (fun t36 _ => 
 Join1 (fun k_3 h_9 => guardP t32 true (Hp Tryz.prog true (Instr.loadAt 9 t36) k_3 h_9 ⟨⟩) (k_3 undef h_9) ⟨⟩ ⟨⟩) (fun t37 _ => 
 Join1 (fun k_4 h_10 => guardP t32 true (k_4 data0 h_10) (k_4 undef h_10) ⟨⟩ ⟨⟩) (fun t38 _ => 
 Join1 (fun k_5 h_11 => guardP t32 true (k_5 a1 h_11) (k_5 undef h_11) ⟨⟩ ⟨⟩) (fun t39 _ => 
 Join1 (fun k_6 h_12 => guardP t32 true (Hp Tryz.prog true (Instr.indexAt 105 t38 t39) k_6 h_12 ⟨⟩) (k_6 undef h_12) ⟨⟩ ⟨⟩) (fun t40 _ => 
 Join1 (fun k_7 h_13 => guardP t32 true (Hp Tryz.prog true (Instr.loadAt 9 t40) k_7 h_13 ⟨⟩) (k_7 undef h_13) ⟨⟩ ⟨⟩) (fun t41 _ => 
 Join1 (fun k_8 h_14 => guardP t32 true (CallsH Tryz.prog 155 #[t37, t41] h_14 k_8 ⟨⟩) (k_8 undef h_14) ⟨⟩ ⟨⟩) (fun t42 h_15 => 
 Hp Tryz.prog true (pickS t32 t42 (.bool false)) (fun t43 _ => 
 CondP t43 (
 Hp Tryz.prog false (binS .add 3 (.tmp 44) (.const (.int .i64 1)) i10 (.int .i64 1)) (fun t45 h_16 => 
 X t45 h_16) h_15 ⟨⟩) (
 LoopC 1 (fun (X_1 : Value → Heap → Prop) => fun j11 h_17 =>
 Hp Tryz.prog true (binS .leq 3 (.tmp 46) (.tmp 47) i10 j11) (fun t48 _ => 
 Join1 (fun k_9 h_18 => guardP t48 true (k_9 data0 h_18) (k_9 undef h_18) ⟨⟩ ⟨⟩) (fun t50 _ => 
 Join1 (fun k_10 h_19 => guardP t48 true (k_10 j11 h_19) (k_10 undef h_19) ⟨⟩ ⟨⟩) (fun t51 _ => 
 Join1 (fun k_11 h_20 => guardP t48 true (Hp Tryz.prog true (Instr.indexAt 105 t50 t51) k_11 h_20 ⟨⟩) (k_11 undef h_20) ⟨⟩ ⟨⟩) (fun t52 _ => 
 Join1 (fun k_12 h_21 => guardP t48 true (Hp Tryz.prog true (Instr.loadAt 9 t52) k_12 h_21 ⟨⟩) (k_12 undef h_21) ⟨⟩ ⟨⟩) (fun t53 _ => 
 Join1 (fun k_13 h_22 => guardP t48 true (k_13 data0 h_22) (k_13 undef h_22) ⟨⟩ ⟨⟩) (fun t54 _ => 
 Join1 (fun k_14 h_23 => guardP t48 true (k_14 a1 h_23) (k_14 undef h_23) ⟨⟩ ⟨⟩) (fun t55 _ => 
 Join1 (fun k_15 h_24 => guardP t48 true (Hp Tryz.prog true (Instr.indexAt 105 t54 t55) k_15 h_24 ⟨⟩) (k_15 undef h_24) ⟨⟩ ⟨⟩) (fun t56 _ => 
 Join1 (fun k_16 h_25 => guardP t48 true (Hp Tryz.prog true (Instr.loadAt 9 t56) k_16 h_25 ⟨⟩) (k_16 undef h_25) ⟨⟩ ⟨⟩) (fun t57 _ => 
 Join1 (fun k_17 h_26 => guardP t48 true (CallsH Tryz.prog 155 #[t53, t57] h_26 k_17 ⟨⟩) (k_17 undef h_26) ⟨⟩ ⟨⟩) (fun t58 h_27 => 
 Join1 (fun k_18 h_28 => guardP t48 true (Hp Tryz.prog true (Op.unary .not t58) k_18 h_28 ⟨⟩) (k_18 undef h_28) ⟨⟩ ⟨⟩) (fun t59 _ => 
 Hp Tryz.prog true (pickS t48 t59 (.bool false)) (fun t60 _ => 
 CondP t60 (
 Hp Tryz.prog false (binS .sub 3 (.tmp 61) (.const (.int .i64 1)) j11 (.int .i64 1)) (fun t62 h_29 => 
 X_1 t62 h_29) h_27 ⟨⟩) (
 Hp Tryz.prog false (binS .gtr 3 (.tmp 63) (.tmp 64) i10 j11) (fun t65 h_30 => 
 CondP t65 (
 Hp Tryz.prog true (Instr.indexAt 105 data0 a1) (fun t72 _ => 
 Hp Tryz.prog true (Instr.loadAt 9 t72) (fun t73 _ => 
 Hp Tryz.prog true (Instr.indexAt 105 data0 j11) (fun t76 _ => 
 Hp Tryz.prog true (Instr.loadAt 9 t76) (fun t77 _ => 
 Hp Tryz.prog true (Instr.indexAt 105 data0 j11) (fun t78 _ => 
 Hp Tryz.prog false (storeS 9 t78 t73) (fun _ h_31 => 
 Hp Tryz.prog true (Instr.indexAt 105 data0 a1) (fun t79 _ => 
 Hp Tryz.prog false (storeS 9 t79 t77) (fun _ h_32 => 
 R (.tuple #[j11, (.bool true)]) h_32) h_31 ⟨⟩) #[] ⟨⟩) h_30 ⟨⟩) #[] ⟨⟩) h_30 ⟨⟩) #[] ⟨⟩) h_30 ⟨⟩) #[] ⟨⟩) (
 Hp Tryz.prog true (Instr.indexAt 105 data0 j11) (fun t87 _ => 
 Hp Tryz.prog true (Instr.loadAt 9 t87) (fun t88 _ => 
 Hp Tryz.prog true (Instr.indexAt 105 data0 i10) (fun t91 _ => 
 Hp Tryz.prog true (Instr.loadAt 9 t91) (fun t92 _ => 
 Hp Tryz.prog true (Instr.indexAt 105 data0 i10) (fun t93 _ => 
 Hp Tryz.prog false (storeS 9 t93 t88) (fun _ h_33 => 
 Hp Tryz.prog true (Instr.indexAt 105 data0 j11) (fun t94 _ => 
 Hp Tryz.prog false (storeS 9 t94 t92) (fun _ h_34 => 
 Hp Tryz.prog false (binS .add 3 (.tmp 95) (.const (.int .i64 1)) i10 (.int .i64 1)) (fun t96 h_35 => 
 Hp Tryz.prog false (binS .sub 3 (.tmp 97) (.const (.int .i64 1)) j11 (.int .i64 1)) (fun t98 h_36 => 
 LoopC 2 (fun (X_2 : Value → Value → Heap → Prop) => fun i10_1 j11_1 h_37 =>
 LoopC 1 (fun (X_3 : Value → Heap → Prop) => fun i10_2 h_38 =>
 Hp Tryz.prog true (binS .leq 3 (.tmp 99) (.tmp 100) i10_2 j11_1) (fun t101 _ => 
 Join1 (fun k_19 h_39 => guardP t101 true (k_19 data0 h_39) (k_19 undef h_39) ⟨⟩ ⟨⟩) (fun t103 _ => 
 Join1 (fun k_20 h_40 => guardP t101 true (k_20 i10_2 h_40) (k_20 undef h_40) ⟨⟩ ⟨⟩) (fun t104 _ => 
 Join1 (fun k_21 h_41 => guardP t101 true (Hp Tryz.prog true (Instr.indexAt 105 t103 t104) k_21 h_41 ⟨⟩) (k_21 undef h_41) ⟨⟩ ⟨⟩) (fun t105 _ => 
 Join1 (fun k_22 h_42 => guardP t101 true (Hp Tryz.prog true (Instr.loadAt 9 t105) k_22 h_42 ⟨⟩) (k_22 undef h_42) ⟨⟩ ⟨⟩) (fun t106 _ => 
 Join1 (fun k_23 h_43 => guardP t101 true (k_23 data0 h_43) (k_23 undef h_43) ⟨⟩ ⟨⟩) (fun t107 _ => 
 Join1 (fun k_24 h_44 => guardP t101 true (k_24 a1 h_44) (k_24 undef h_44) ⟨⟩ ⟨⟩) (fun t108 _ => 
 Join1 (fun k_25 h_45 => guardP t101 true (Hp Tryz.prog true (Instr.indexAt 105 t107 t108) k_25 h_45 ⟨⟩) (k_25 undef h_45) ⟨⟩ ⟨⟩) (fun t109 _ => 
 Join1 (fun k_26 h_46 => guardP t101 true (Hp Tryz.prog true (Instr.loadAt 9 t109) k_26 h_46 ⟨⟩) (k_26 undef h_46) ⟨⟩ ⟨⟩) (fun t110 _ => 
 Join1 (fun k_27 h_47 => guardP t101 true (CallsH Tryz.prog 155 #[t106, t110] h_47 k_27 ⟨⟩) (k_27 undef h_47) ⟨⟩ ⟨⟩) (fun t111 h_48 => 
 Hp Tryz.prog true (pickS t101 t111 (.bool false)) (fun t112 _ => 
 CondP t112 (
 Hp Tryz.prog false (binS .add 3 (.tmp 113) (.const (.int .i64 1)) i10_2 (.int .i64 1)) (fun t114 h_49 => 
 X_3 t114 h_49) h_48 ⟨⟩) (
 LoopC 1 (fun (X_4 : Value → Heap → Prop) => fun j11_2 h_50 =>
 Hp Tryz.prog true (binS .leq 3 (.tmp 115) (.tmp 116) i10_2 j11_2) (fun t117 _ => 
 Join1 (fun k_28 h_51 => guardP t117 true (k_28 data0 h_51) (k_28 undef h_51) ⟨⟩ ⟨⟩) (fun t119 _ => 
 Join1 (fun k_29 h_52 => guardP t117 true (k_29 j11_2 h_52) (k_29 undef h_52) ⟨⟩ ⟨⟩) (fun t120 _ => 
 Join1 (fun k_30 h_53 => guardP t117 true (Hp Tryz.prog true (Instr.indexAt 105 t119 t120) k_30 h_53 ⟨⟩) (k_30 undef h_53) ⟨⟩ ⟨⟩) (fun t121 _ => 
 Join1 (fun k_31 h_54 => guardP t117 true (Hp Tryz.prog true (Instr.loadAt 9 t121) k_31 h_54 ⟨⟩) (k_31 undef h_54) ⟨⟩ ⟨⟩) (fun t122 _ => 
 Join1 (fun k_32 h_55 => guardP t117 true (k_32 data0 h_55) (k_32 undef h_55) ⟨⟩ ⟨⟩) (fun t123 _ => 
 Join1 (fun k_33 h_56 => guardP t117 true (k_33 a1 h_56) (k_33 undef h_56) ⟨⟩ ⟨⟩) (fun t124 _ => 
 Join1 (fun k_34 h_57 => guardP t117 true (Hp Tryz.prog true (Instr.indexAt 105 t123 t124) k_34 h_57 ⟨⟩) (k_34 undef h_57) ⟨⟩ ⟨⟩) (fun t125 _ => 
 Join1 (fun k_35 h_58 => guardP t117 true (Hp Tryz.prog true (Instr.loadAt 9 t125) k_35 h_58 ⟨⟩) (k_35 undef h_58) ⟨⟩ ⟨⟩) (fun t126 _ => 
 Join1 (fun k_36 h_59 => guardP t117 true (CallsH Tryz.prog 155 #[t122, t126] h_59 k_36 ⟨⟩) (k_36 undef h_59) ⟨⟩ ⟨⟩) (fun t127 h_60 => 
 Join1 (fun k_37 h_61 => guardP t117 true (Hp Tryz.prog true (Op.unary .not t127) k_37 h_61 ⟨⟩) (k_37 undef h_61) ⟨⟩ ⟨⟩) (fun t128 _ => 
 Hp Tryz.prog true (pickS t117 t128 (.bool false)) (fun t129 _ => 
 CondP t129 (
 Hp Tryz.prog false (binS .sub 3 (.tmp 130) (.const (.int .i64 1)) j11_2 (.int .i64 1)) (fun t131 h_62 => 
 X_4 t131 h_62) h_60 ⟨⟩) (
 Hp Tryz.prog false (binS .gtr 3 (.tmp 132) (.tmp 133) i10_2 j11_2) (fun t134 h_63 => 
 CondP t134 (
 Hp Tryz.prog true (Instr.indexAt 105 data0 a1) (fun t159 _ => 
 Hp Tryz.prog true (Instr.loadAt 9 t159) (fun t160 _ => 
 Hp Tryz.prog true (Instr.indexAt 105 data0 j11_2) (fun t163 _ => 
 Hp Tryz.prog true (Instr.loadAt 9 t163) (fun t164 _ => 
 Hp Tryz.prog true (Instr.indexAt 105 data0 j11_2) (fun t165 _ => 
 Hp Tryz.prog false (storeS 9 t165 t160) (fun _ h_64 => 
 Hp Tryz.prog true (Instr.indexAt 105 data0 a1) (fun t166 _ => 
 Hp Tryz.prog false (storeS 9 t166 t164) (fun _ h_65 => 
 R (.tuple #[j11_2, (.bool false)]) h_65) h_64 ⟨⟩) #[] ⟨⟩) h_63 ⟨⟩) #[] ⟨⟩) h_63 ⟨⟩) #[] ⟨⟩) h_63 ⟨⟩) #[] ⟨⟩) (
 Hp Tryz.prog true (Instr.indexAt 105 data0 j11_2) (fun t141 _ => 
 Hp Tryz.prog true (Instr.loadAt 9 t141) (fun t142 _ => 
 Hp Tryz.prog true (Instr.indexAt 105 data0 i10_2) (fun t145 _ => 
 Hp Tryz.prog true (Instr.loadAt 9 t145) (fun t146 _ => 
 Hp Tryz.prog true (Instr.indexAt 105 data0 i10_2) (fun t147 _ => 
 Hp Tryz.prog false (storeS 9 t147 t142) (fun _ h_66 => 
 Hp Tryz.prog true (Instr.indexAt 105 data0 j11_2) (fun t148 _ => 
 Hp Tryz.prog false (storeS 9 t148 t146) (fun _ h_67 => 
 Hp Tryz.prog false (binS .add 3 (.tmp 149) (.const (.int .i64 1)) i10_2 (.int .i64 1)) (fun t150 h_68 => 
 Hp Tryz.prog false (binS .sub 3 (.tmp 151) (.const (.int .i64 1)) j11_2 (.int .i64 1)) (fun t152 h_69 => 
 X_2 t150 t152 h_69) h_68 ⟨⟩) h_67 ⟨⟩) h_66 ⟨⟩) #[] ⟨⟩) h_63 ⟨⟩) #[] ⟨⟩) h_63 ⟨⟩) #[] ⟨⟩) h_63 ⟨⟩) #[] ⟨⟩) ⟨⟩ ⟨⟩) h_60 ⟨⟩) ⟨⟩ ⟨⟩) #[] ⟨⟩) #[] ⟨⟩ ⟨⟩) h_50 ⟨⟩ ⟨⟩) h_50 ⟨⟩ ⟨⟩) #[] ⟨⟩ ⟨⟩) #[] ⟨⟩ ⟨⟩) #[] ⟨⟩ ⟨⟩) h_50 ⟨⟩ ⟨⟩) #[] ⟨⟩ ⟨⟩) #[] ⟨⟩ ⟨⟩) #[] ⟨⟩ ⟨⟩) #[] ⟨⟩) [j11_1] h_48 ⟨⟩) ⟨⟩ ⟨⟩) #[] ⟨⟩) h_38 ⟨⟩ ⟨⟩) h_38 ⟨⟩ ⟨⟩) #[] ⟨⟩ ⟨⟩) #[] ⟨⟩ ⟨⟩) #[] ⟨⟩ ⟨⟩) h_38 ⟨⟩ ⟨⟩) #[] ⟨⟩ ⟨⟩) #[] ⟨⟩ ⟨⟩) #[] ⟨⟩ ⟨⟩) #[] ⟨⟩) [i10_1] h_37 ⟨⟩) [t96, t98] h_36 ⟨⟩) h_35 ⟨⟩) h_34 ⟨⟩) h_33 ⟨⟩) #[] ⟨⟩) h_30 ⟨⟩) #[] ⟨⟩) h_30 ⟨⟩) #[] ⟨⟩) h_30 ⟨⟩) #[] ⟨⟩) ⟨⟩ ⟨⟩) h_27 ⟨⟩) ⟨⟩ ⟨⟩) #[] ⟨⟩) #[] ⟨⟩ ⟨⟩) h_17 ⟨⟩ ⟨⟩) h_17 ⟨⟩ ⟨⟩) #[] ⟨⟩ ⟨⟩) #[] ⟨⟩ ⟨⟩) #[] ⟨⟩ ⟨⟩) h_17 ⟨⟩ ⟨⟩) #[] ⟨⟩ ⟨⟩) #[] ⟨⟩ ⟨⟩) #[] ⟨⟩ ⟨⟩) #[] ⟨⟩) [t29] h_15 ⟨⟩) ⟨⟩ ⟨⟩) #[] ⟨⟩) h_5 ⟨⟩ ⟨⟩) h_5 ⟨⟩ ⟨⟩) #[] ⟨⟩ ⟨⟩) #[] ⟨⟩ ⟨⟩) #[] ⟨⟩ ⟨⟩) h_5 ⟨⟩ ⟨⟩) #[] ⟨⟩ ⟨⟩) #[] ⟨⟩ ⟨⟩) #[] ⟨⟩ ⟨⟩) #[] ⟨⟩) [t27] h_4 ⟨⟩) h_3 ⟨⟩) h_2 ⟨⟩) h_1 ⟨⟩) #[] ⟨⟩) h ⟨⟩) #[] ⟨⟩) h ⟨⟩) #[] ⟨⟩) h ⟨⟩) #[] ⟨⟩

theorem n157_calls {data0 a1 b2 pivot3 : Value} {R : Value → Heap → Prop} {h : Heap} (H : n157 data0 a1 b2 pivot3 R h) : CallsH Tryz.prog 157 #[data0, a1, b2, pivot3] h R ⟨⟩ :=
 callsH_of_eq Tryz.follow (.n none .l (.n none .l (.n none .l (.n none (.n none (.n (some [11]) .l .l) .l) (.n none (.n none (.n (some [12]) .l .l) .l) (.n none .l (.n none .l (.n none .l (.n none .l (.n none (.n none (.n (some [11, 12]) (.n none (.n none (.n none (.n (some [11]) .l .l) .l) (.n none (.n none (.n (some [12]) .l .l) .l) .l)) .l) .l) .l) .l)))))))))) Tryz.func157 (by kernel_rfl) (by kernel_rfl) (by kernel_rfl) H

/-- slices.order2Ordered[int64] -/
def n158 (data0 a1 b2 swaps3 : Value) (R : Value → Heap → Prop) (h : Heap) : Prop :=
 Hp Tryz.prog true (Instr.indexAt 102 data0 b2) (fun t12 _ => 
 Hp Tryz.prog true (Instr.loadAt 2 t12) (fun t13 _ => 
 Hp Tryz.prog true (Instr.indexAt 102 data0 a1) (fun t16 _ => 
 Hp Tryz.prog true (Instr.loadAt 2 t16) (fun t17 _ => 
 CallsH Tryz.prog 136 #[t13, t17] h (fun t18 h_1 => 
 CondP t18 (
 Hp Tryz.prog false (nilS swaps3) (fun t20 h_2 => 
 Hp Tryz.prog false (Instr.loadAt 3 t20) (fun t21 h_3 => 
 Hp Tryz.prog false (binS .add 3 (.tmp 21) (.const (.int .i64 1)) t21 (.int .i64 1)) (fun t22 h_4 => 
 Hp Tryz.prog false (nilS swaps3) (fun t23 h_5 => 
 Hp Tryz.prog false (storeS 3 t23 t22) (fun _ h_6 => 
 R (.tuple #[b2, a1]) h_6) h_5 ⟨⟩) h_4 ⟨⟩) h_3 ⟨⟩) h_2 ⟨⟩) h_1 ⟨⟩) (
 R (.tuple #[a1, b2]) h_1) ⟨⟩ ⟨⟩) ⟨⟩) h ⟨⟩) #[] ⟨⟩) h ⟨⟩) #[] ⟨⟩

theorem n158_calls {data0 a1 b2 swaps3 : Value} {R : Value → Heap → Prop} {h : Heap} (H : n158 data0 a1 b2 swaps3 R h) : CallsH Tryz.prog 158 #[data0, a1, b2, swaps3] h R ⟨⟩ :=
 callsH_of_eq Tryz.follow .l Tryz.func158 (by kernel_rfl) (by kernel_rfl) (by kernel_rfl) H

/-- slices.siftDownOrdered[string] -/
def n159 (data0 lo1 hi2 first3 : Value) (R : Value → Heap → Prop) (h : Heap) : Prop :=
 LoopC 1 (fun (X : Value → Heap → Prop) => fun root8 h_1 =>
 Hp Tryz.prog false (binS .mul 3 (.const (.int .i64 2)) (.tmp 11) (.int .i64 2) root8) (fun t12 h_2 => 
 Hp Tryz.prog false (binS .add 3 (.tmp 12) (.const (.int .i64 1)) t12 (.int .i64 1)) (fun t13 h_3 => 
 Hp Tryz.prog false (binS .geq 3 (.tmp 14) (.tmp 15) t13 hi2) (fun t16 h_4 => 
 CondP t16 (
 R (.tuple #[]) h_4) (
 JoinN 1 (fun (k : Value → Heap → Prop) h_5 =>
 Hp Tryz.prog true (binS .add 3 (.tmp 17) (.const (.int .i64 1)) t13 (.int .i64 1)) (fun t18 _ => 
 Hp Tryz.prog true (binS .lss 3 (.tmp 18) (.tmp 19) t18 hi2) (fun t20 _ => 
 Join1 (fun k_1 h_6 => guardP t20 true (k_1 data0 h_6) (k_1 undef h_6) ⟨⟩ ⟨⟩) (fun t22 _ => 
 Join1 (fun k_2 h_7 => guardP t20 true (k_2 first3 h_7) (k_2 undef h_7) ⟨⟩ ⟨⟩) (fun t23 _ => 
 Join1 (fun k_3 h_8 => guardP t20 true (k_3 t13 h_8) (k_3 undef h_8) ⟨⟩ ⟨⟩) (fun t24 _ => 
 Join1 (fun k_4 h_9 => guardP t20 true (Hp Tryz.prog true (binS .add 3 (.tmp 23) (.tmp 24) t23 t24) k_4 h_9 ⟨⟩) (k_4 undef h_9) ⟨⟩ ⟨⟩) (fun t25 _ => 
 Join1 (fun k_5 h_10 => guardP t20 true (Hp Tryz.prog true (Instr.indexAt 105 t22 t25) k_5 h_10 ⟨⟩) (k_5 undef h_10) ⟨⟩ ⟨⟩) (fun t26 _ => 
 Join1 (fun k_6 h_11 => guardP t20 true (Hp Tryz.prog true (Instr.loadAt 9 t26) k_6 h_11 ⟨⟩) (k_6 undef h_11) ⟨⟩ ⟨⟩) (fun t27 _ => 
 Join1 (fun k_7 h_12 => guardP t20 true (k_7 data0 h_12) (k_7 undef h_12) ⟨⟩ ⟨⟩) (fun t28 _ => 
 Join1 (fun k_8 h_13 => guardP t20 true (k_8 first3 h_13) (k_8 undef h_13) ⟨⟩ ⟨⟩) (fun t29 _ => 
 Join1 (fun k_9 h_14 => guardP t20 true (k_9 t13 h_14) (k_9 undef h_14) ⟨⟩ ⟨⟩) (fun t30 _ => 
 Join1 (fun k_10 h_15 => guardP t20 true (Hp Tryz.prog true (binS .add 3 (.tmp 29) (.tmp 30) t29 t30) k_10 h_15 ⟨⟩) (k_10 undef h_15) ⟨⟩ ⟨⟩) (fun t31 _ => 
 Join1 (fun k_11 h_16 => guardP t20 true (Hp Tryz.prog true (binS .add 3 (.tmp 31) (.const (.int .i64 1)) t31 (.int .i64 1)) k_11 h_16 ⟨⟩) (k_11 undef h_16) ⟨⟩ ⟨⟩) (fun t32 _ => 
 Join1 (fun k_12 h_17 => guardP t20 true (Hp Tryz.prog true (Instr.indexAt 105 t28 t32) k_12 h_17 ⟨⟩) (k_12 undef h_17) ⟨⟩ ⟨⟩) (fun t33 _ => 
 Join1 (fun k_13 h_18 => guardP t20 true (Hp Tryz.prog true (Instr.loadAt 9 t33) k_13 h_18 ⟨⟩) (k_13 undef h_18) ⟨⟩ ⟨⟩) (fun t34 _ => 
 Join1 (fun k_14 h_19 => guardP t20 true (CallsH Tryz.prog 155 #[t27, t34] h_19 k_14 ⟨⟩) (k_14 undef h_19) ⟨⟩ ⟨⟩) (fun t35 h_20 => 
 Hp Tryz.prog true (pickS t20 t35 (.bool false)) (fun t36 _ => 
 CondP t36 (
 Hp Tryz.prog false (binS .add 3 (.tmp 37) (.const (.int .i64 1)) t13 (.int .i64 1)) (fun t38 h_21 => 
 k t38 h_21) h_20 ⟨⟩) (
 k t13 h_20) ⟨⟩ ⟨⟩) #[] ⟨⟩) h_5 ⟨⟩ ⟨⟩) h_5 ⟨⟩ ⟨⟩) #[] ⟨⟩ ⟨⟩) #[] ⟨⟩ ⟨⟩) #[] ⟨⟩ ⟨⟩) #[] ⟨⟩ ⟨⟩) #[] ⟨⟩ ⟨⟩) #[] ⟨⟩ ⟨⟩) h_5 ⟨⟩ ⟨⟩) #[] ⟨⟩ ⟨⟩) #[] ⟨⟩ ⟨⟩) #[] ⟨⟩ ⟨⟩) #[] ⟨⟩ ⟨⟩) #[] ⟨⟩ ⟨⟩) #[] ⟨⟩) #[] ⟨⟩)
 (fun child9 h_22 =>
 Hp Tryz.prog true (binS .add 3 (.tmp 40) (.tmp 41) first3 root8) (fun t42 _ => 
 Hp Tryz.prog true (Instr.indexAt 105 data0 t42) (fun t43 _ => 
 Hp Tryz.prog true (Instr.loadAt 9 t43) (fun t44 _ => 
 Hp Tryz.prog true (binS .add 3 (.tmp 46) (.tmp 47) first3 child9) (fun t48 _ => 
 Hp Tryz.prog true (Instr.indexAt 105 data0 t48) (fun t49 _ => 
 Hp Tryz.prog true (Instr.loadAt 9 t49) (fun t50 _ => 
 CallsH Tryz.prog 155 #[t44, t50] h_22 (fun t51 h_23 => 
 Hp Tryz.prog true (Op.unary .not t51) (fun t52 _ => 
 CondP t52 (
 R (.tuple #[]) h_23) (
 Hp Tryz.prog true (binS .add 3 (.tmp 54) (.tmp 55) first3 root8) (fun t56 _ => 
 Hp Tryz.prog true (binS .add 3 (.tmp 58) (.tmp 59) first3 child9) (fun t60 _ => 
 Hp Tryz.prog true (binS .add 3 (.tmp 62) (.tmp 63) first3 child9) (fun t64 _ => 
 Hp Tryz.prog true (Instr.indexAt 105 data0 t64) (fun t65 _ => 
 Hp Tryz.prog true (Instr.loadAt 9 t65) (fun t66 _ => 
 Hp Tryz.prog true (binS .add 3 (.tmp 68) (.tmp 69) first3 root8) (fun t70 _ => 
 Hp Tryz.prog true (Instr.indexAt 105 data0 t70) (fun t71 _ => 
 Hp Tryz.prog true (Instr.loadAt 9 t71) (fun t72 _ => 
 Hp Tryz.prog true (Instr.indexAt 105 data0 t56) (fun t73 _ => 
 Hp Tryz.prog false (storeS 9 t73 t66) (fun _ h_24 => 
 Hp Tryz.prog true (Instr.indexAt 105 data0 t60) (fun t74 _ => 
 Hp Tryz.prog false (storeS 9 t74 t72) (fun _ h_25 => 
 X child9 h_25) h_24 ⟨⟩) #[] ⟨⟩) h_23 ⟨⟩) #[] ⟨⟩) h_23 ⟨⟩) #[] ⟨⟩) #[] ⟨⟩) h_23 ⟨⟩) #[] ⟨⟩) #[] ⟨⟩) #[] ⟨⟩) #[] ⟨⟩) ⟨⟩ ⟨⟩) #[] ⟨⟩) ⟨⟩) h_22 ⟨⟩) #[] ⟨⟩) #[] ⟨⟩) h_22 ⟨⟩) #[] ⟨⟩) #[] ⟨⟩) h_4 ⟨⟩ ⟨⟩) ⟨⟩ ⟨⟩) h_3 ⟨⟩) h_2 ⟨⟩) h_1 ⟨⟩) [lo1] h ⟨⟩

theorem n159_calls {data0 lo1 hi2 first3 : Value} {R : Value → Heap → Prop} {h : Heap} (H : n159 data0 lo1 hi2 first3 R h) : CallsH Tryz.prog 159 #[data0, lo1, hi2, first3] h R ⟨⟩ :=
 callsH_of_eq Tryz.follow (.n none .l (.n none (.n (some [9]) (.n none (.n none .l (.n none .l (.n (some [10]) .l .l))) .l) .l) .l)) Tryz.func159 (by kernel_rfl) (by kernel_rfl) (by kernel_rfl) H

/-- slices.medianAdjacentOrdered[string] -/
def n160 (data0 a1 swaps2 : Value) (R : Value → Heap → Prop) (h : Heap) : Prop :=
 Hp Tryz.prog false (binS .sub 3 (.tmp 8) (.const (.int .i64 1)) a1 (.int .i64 1)) (fun t9 h_1 => 
 Hp Tryz.prog false (binS .add 3 (.tmp 11) (.const (.int .i64 1)) a1 (.int .i64 1)) (fun t12 h_2 => 
 CallsH Tryz.prog 161 #[data0, t9, a1, t12, swaps2] h_2 (fun t14 h_3 => 
 R t14 h_3) ⟨⟩) h_1 ⟨⟩) h ⟨⟩

theorem n160_calls {data0 a1 swaps2 : Value} {R : Value → Heap → Prop} {h : Heap} (H : n160 data0 a1 swaps2 R h) : CallsH Tryz.prog 160 #[data0, a1, swaps2] h R ⟨⟩ :=
 callsH_of_eq Tryz.follow .l Tryz.func160 (by kernel_rfl) (by kernel_rfl) (by kernel_rfl) H

/-- slices.medianOrdered[string] -/
def n161 (data0 a1 b2 c3 swaps4 : Value) (R : Value → Heap → Prop) (h : Heap) : Prop :=
 CallsH Tryz.prog 163 #[data0, a1, b2, swaps4] h (fun t16 h_1 => 
 Hp Tryz.prog false (Instr.extract t16 0) (fun t17 h_2 => 
 Hp Tryz.prog false (Instr.extract t16 1) (fun t18 h_3 => 
 CallsH Tryz.prog 163 #[data0, t18, c3, swaps4] h_3 (fun t24 h_4 => 
 Hp Tryz.prog false (Instr.extract t24 0) (fun t25 h_5 => 
 Hp Tryz.prog false (Instr.extract t24 1) (fun t26 h_6 => 
 CallsH Tryz.prog 163 #[data0, t17, t25, swaps4] h_6 (fun t32 h_7 => 
 Hp Tryz.prog false (Instr.extract t32 0) (fun t33 h_8 => 
 Hp Tryz.prog false (Instr.extract t32 1) (fun t34 h_9 => 
 R t34 h_9) h_8 ⟨⟩) h_7 ⟨⟩) ⟨⟩) h_5 ⟨⟩) h_4 ⟨⟩) ⟨⟩) h_2 ⟨⟩) h_1 ⟨⟩) ⟨⟩

theorem n161_calls {data0 a1 b2 c3 swaps4 : Value} {R : Value → Heap → Prop} {h : Heap} (H : n161 data0 a1 b2 c3 swaps4 R h) : CallsH Tryz.prog 161 #[data0, a1, b2, c3, swaps4] h R ⟨⟩ :=
 callsH_of_eq Tryz.follow .l Tryz.func161 (by kernel_rfl) (by kernel_rfl) (by kernel_rfl) H

/-- cmp.isNaN[string] -/
def n162 (x0 : Value) (R : Value → Heap → Prop) (h : Heap) : Prop :=
 Hp Tryz.prog false (binS .neq 9 (.tmp 3) (.tmp 4) x0 x0) (fun t5 h_1 => 
 R t5 h_1) h ⟨⟩

theorem n162_calls {x0 : Value} {R : Value → Heap → Prop} {h : Heap} (H : n162 x0 R h) : CallsH Tryz.prog 162 #[x0] h R ⟨⟩ :=
 callsH_of_eq Tryz.follow .l Tryz.func162 (by kernel_rfl) (by kernel_rfl) (by kernel_rfl) H

/-- slices.order2Ordered[string] -/
def n163 (data0 a1 b2 swaps3 : Value) (R : Value → Heap → Prop) (h : Heap) : Prop :=
 Hp Tryz.prog true (Instr.indexAt 105 data0 b2) (fun t12 _ => 
 Hp Tryz.prog true (Instr.loadAt 9 t12) (fun t13 _ => 
 Hp Tryz.prog true (Instr.indexAt 105 data0 a1) (fun t16 _ => 
 Hp Tryz.prog true (Instr.loadAt 9 t16) (fun t17 _ => 
 CallsH Tryz.prog 155 #[t13, t17] h (fun t18 h_1 => 
 CondP t18 (
 Hp Tryz.prog false (nilS swaps3) (fun t20 h_2 => 
 Hp Tryz.prog false (Instr.loadAt 3 t20) (fun t21 h_3 => 
 Hp Tryz.prog false (binS .add 3 (.tmp 21) (.const (.int .i64 1)) t21 (.int .i64 1)) (fun t22 h_4 => 
 Hp Tryz.prog false (nilS swaps3) (fun t23 h_5 => 
 Hp Tryz.prog false (storeS 3 t23 t22) (fun _ h_6 => 
 R (.tuple #[b2, a1]) h_6) h_5 ⟨⟩) h_4 ⟨⟩) h_3 ⟨⟩) h_2 ⟨⟩) h_1 ⟨⟩) (
 R (.tuple #[a1, b2]) h_1) ⟨⟩ ⟨⟩) ⟨⟩) h ⟨⟩) #[] ⟨⟩) h ⟨⟩) #[] ⟨⟩

theorem n163_calls {data0 a1 b2 swaps3 : Value} {R : Value → Heap → Prop} {h : Heap} (H : n163 data0 a1 b2 swaps3 R h) : CallsH Tryz.prog 163 #[data0, a1, b2, swaps3] h R ⟨⟩ :=
 callsH_of_eq Tryz.follow .l Tryz.func163 (by kernel_rfl) (by kernel_rfl) (by kernel_rfl) H

/-- (palimpsest/cache.order).Len -/
def n182 (o0 : Value) (R : Value → Heap → Prop) (h : Heap) : Prop :=
 Hp Tryz.prog false (Builtin.len_ #[188] 3 #[o0]) (fun t4 h_1 => 
 R t4 h_1) h ⟨⟩

theorem n182_calls {o0 : Value} {R : Value → Heap → Prop} {h : Heap} (H : n182 o0 R h) : CallsH Tryz.prog 182 #[o0] h R ⟨⟩ :=
 callsH_of_eq Tryz.follow .l Tryz.func182 (by kernel_rfl) (by kernel_rfl) (by kernel_rfl) H

/-- (palimpsest/cache.order).Less -/
def n183 (o0 i1 k2 : Value) (R : Value → Heap → Prop) (h : Heap) : Prop :=
 Hp Tryz.prog true (Instr.indexAt 188 o0 i1) (fun t9 _ => 
 Hp Tryz.prog true (Instr.loadAt 94 t9) (fun t10 _ => 
 Hp Tryz.prog true (nilS t10) (fun t11 _ => 
 Hp Tryz.prog true (Instr.fieldAt 99 t11 2) (fun t12 _ => 
 Hp Tryz.prog true (Instr.loadAt 4 t12) (fun t13 _ => 
 Hp Tryz.prog true (Instr.indexAt 188 o0 k2) (fun t16 _ => 
 Hp Tryz.prog true (Instr.loadAt 94 t16) (fun t17 _ => 
 Hp Tryz.prog true (nilS t17) (fun t18 _ => 
 Hp Tryz.prog true (Instr.fieldAt 99 t18 2) (fun t19 _ => 
 Hp Tryz.prog true (Instr.loadAt 4 t19) (fun t20 _ => 
 Hp Tryz.prog true (binS .neq 4 (.tmp 13) (.tmp 20) t13 t20) (fun t21 _ => 
 CondP t21 (
 Hp Tryz.prog false (Instr.indexAt 188 o0 i1) (fun t24 h_1 => 
 Hp Tryz.prog false (Instr.loadAt 94 t24) (fun t25 h_2 => 
 Hp Tryz.prog false (nilS t25) (fun t26 h_3 => 
 Hp Tryz.prog false (Instr.fieldAt 99 t26 2) (fun t27 h_4 => 
 Hp Tryz.prog false (Instr.loadAt 4 t27) (fun t28 h_5 => 
 Hp Tryz.prog false (Op.unary .not t28) (fun t29 h_6 => 
 R t29 h_6) h_5 ⟨⟩) h_4 ⟨⟩) h_3 ⟨⟩) h_2 ⟨⟩) h_1 ⟨⟩) h ⟨⟩) (
 Hp Tryz.prog true (Instr.indexAt 188 o0 i1) (fun t32 _ => 
 Hp Tryz.prog true (Instr.loadAt 94 t32) (fun t33 _ => 
 Hp Tryz.prog true (nilS t33) (fun t34 _ => 
 Hp Tryz.prog true (Instr.fieldAt 99 t34 3) (fun t35 _ => 
 Hp Tryz.prog true (Instr.loadAt 3 t35) (fun t36 _ => 
 Hp Tryz.prog true (Instr.indexAt 188 o0 k2) (fun t39 _ => 
 Hp Tryz.prog true (Instr.loadAt 94 t39) (fun t40 _ => 
 Hp Tryz.prog true (nilS t40) (fun t41 _ => 
 Hp Tryz.prog true (Instr.fieldAt 99 t41 3) (fun t42 _ => 
 Hp Tryz.prog true (Instr.loadAt 3 t42) (fun t43 _ => 
 Hp Tryz.prog true (binS .lss 3 (.tmp 36) (.tmp 43) t36 t43) (fun t44 _ => 
 R t44 h) #[] ⟨⟩) h ⟨⟩) #[] ⟨⟩) #[] ⟨⟩) h ⟨⟩) #[] ⟨⟩) h ⟨⟩) #[] ⟨⟩) #[] ⟨⟩) h ⟨⟩) #[] ⟨⟩) ⟨⟩ ⟨⟩) #[] ⟨⟩) h ⟨⟩) #[] ⟨⟩) #[] ⟨⟩) h ⟨⟩) #[] ⟨⟩) h ⟨⟩) #[] ⟨⟩) #[] ⟨⟩) h ⟨⟩) #[] ⟨⟩

theorem n183_calls {o0 i1 k2 : Value} {R : Value → Heap → Prop} {h : Heap} (H : n183 o0 i1 k2 R h) : CallsH Tryz.prog 183 #[o0, i1, k2] h R ⟨⟩ :=
 callsH_of_eq Tryz.follow .l Tryz.func183 (by kernel_rfl) (by kernel_rfl) (by kernel_rfl) H

/-- (palimpsest/cache.order).Swap -/
def n184 (o0 i1 k2 : Value) (R : Value → Heap → Prop) (h : Heap) : Prop :=
 Hp Tryz.prog true (Instr.indexAt 188 o0 k2) (fun t12 _ => 
 Hp Tryz.prog true (Instr.loadAt 94 t12) (fun t13 _ => 
 Hp Tryz.prog true (Instr.indexAt 188 o0 i1) (fun t16 _ => 
 Hp Tryz.prog true (Instr.loadAt 94 t16) (fun t17 _ => 
 Hp Tryz.prog true (Instr.indexAt 188 o0 i1) (fun t18 _ => 
 Hp Tryz.prog false (storeS 94 t18 t13) (fun _ h_1 => 
 Hp Tryz.prog true (Instr.indexAt 188 o0 k2) (fun t19 _ => 
 Hp Tryz.prog false (storeS 94 t19 t17) (fun _ h_2 => 
 R (.tuple #[]) h_2) h_1 ⟨⟩) #[] ⟨⟩) h ⟨⟩) #[] ⟨⟩) h ⟨⟩) #[] ⟨⟩) h ⟨⟩) #[] ⟨⟩

theorem n184_calls {o0 i1 k2 : Value} {R : Value → Heap → Prop} {h : Heap} (H : n184 o0 i1 k2 R h) : CallsH Tryz.prog 184 #[o0, i1, k2] h R ⟨⟩ :=
 callsH_of_eq Tryz.follow .l Tryz.func184 (by kernel_rfl) (by kernel_rfl) (by kernel_rfl) H

/-- (*palimpsest/cache.order).Pop -/
def n185 (o0 : Value) (R : Value → Heap → Prop) (h : Heap) : Prop :=
 Hp Tryz.prog false (nilS o0) (fun t6 h_1 => 
 Hp Tryz.prog false (Instr.loadAt 188 t6) (fun t7 h_2 => 
 Hp Tryz.prog false (Builtin.len_ #[188] 3 #[t7]) (fun t8 h_3 => 
 Hp Tryz.prog false (binS .sub 3 (.tmp 8) (.const (.int .i64 1)) t8 (.int .i64 1)) (fun t9 h_4 => 
 Hp Tryz.prog false (nilS o0) (fun t11 h_5 => 
 Hp Tryz.prog false (Instr.loadAt 188 t11) (fun t12 h_6 => 
 Hp Tryz.prog false (Instr.indexAt 188 t12 t9) (fun t14 h_7 => 
 Hp Tryz.prog false (Instr.loadAt 94 t14) (fun t15 h_8 => 
 Hp Tryz.prog false (nilS o0) (fun t18 h_9 => 
 Hp Tryz.prog false (Instr.loadAt 188 t18) (fun t19 h_10 => 
 Hp Tryz.prog false (Instr.sliceAt 188 t19 none (some t9) none) (fun t21 h_11 => 
 Hp Tryz.prog false (nilS o0) (fun t22 h_12 => 
 Hp Tryz.prog false (storeS 188 t22 t21) (fun _ h_13 => 
 Hp Tryz.prog false (Instr.makeInterface 94 t15) (fun t24 h_14 => 
 R t24 h_14) h_13 ⟨⟩) h_12 ⟨⟩) h_11 ⟨⟩) h_10 ⟨⟩) h_9 ⟨⟩) h_8 ⟨⟩) h_7 ⟨⟩) h_6 ⟨⟩) h_5 ⟨⟩) h_4 ⟨⟩) h_3 ⟨⟩) h_2 ⟨⟩) h_1 ⟨⟩) h ⟨⟩

theorem n185_calls {o0 : Value} {R : Value → Heap → Prop} {h : Heap} (H : n185 o0 R h) : CallsH Tryz.prog 185 #[o0] h R ⟨⟩ :=
 callsH_of_eq Tryz.follow .l Tryz.func185 (by kernel_rfl) (by kernel_rfl) (by kernel_rfl) H

end Go.Proofs.YtcbbdnaelimpfaaGreat

/- Printed by /tmp/tools2/gen.py: the condition of each function, and that a call meets it. -/
import Derived.Test.YtcbbdnaelimpfaaGreatVcFun
import Derived.Test.YtcbbdnaelimpfaaGreatProg
import Derived.Test.YtcbbdnaelimpfaaGreatNiceA
set_option maxRecDepth 100000
set_option linter.unusedVariables false
namespace Go.Proofs.YtcbbdnaelimpfaaGreat
open Go.Vc

/-- (*palimpsest/cache.Cache).ask -/
def n41 (c0 n1 : Value) (R : Value → Heap → Prop) (h : Heap) : Prop :=
 Hp Tryz.prog false (binS .eql 28 (.tmp 6) (.const (.pointer none)) c0 (.pointer none)) (fun t7 h_1 => 
 Join1 (fun k h_2 => guardP t7 false (k c0 h_2) (k undef h_2) ⟨⟩ ⟨⟩) (fun t9 h_3 => 
 Join1 (fun k_1 h_4 => guardP t7 false (Hp Tryz.prog false (nilS t9) k_1 h_4 ⟨⟩) (k_1 undef h_4) ⟨⟩ ⟨⟩) (fun t10 h_5 => 
 Join1 (fun k_2 h_6 => guardP t7 false (Hp Tryz.prog false (Instr.fieldAt 93 t10 0) k_2 h_6 ⟨⟩) (k_2 undef h_6) ⟨⟩ ⟨⟩) (fun t11 h_7 => 
 Join1 (fun k_3 h_8 => guardP t7 false (Hp Tryz.prog false (Instr.loadAt 26 t11) k_3 h_8 ⟨⟩) (k_3 undef h_8) ⟨⟩ ⟨⟩) (fun t12 h_9 => 
 Join1 (fun k_4 h_10 => guardP t7 false (Hp Tryz.prog false (binS .eql 26 (.tmp 12) (.const (.pointer none)) t12 (.pointer none)) k_4 h_10 ⟨⟩) (k_4 undef h_10) ⟨⟩ ⟨⟩) (fun t13 h_11 => 
 Hp Tryz.prog false (pickS t7 (.bool true) t13) (fun t14 h_12 => 
 CondP t14 (
 R (.int .i64 1) h_12) (
 Hp Tryz.prog false (binS .lss 2 (.tmp 16) (.const (.int .i64 0)) n1 (.int .i64 0)) (fun t17 h_13 => 
 Join1 (fun k_5 h_14 => guardP t17 false (k_5 n1 h_14) (k_5 undef h_14) ⟨⟩ ⟨⟩) (fun t19 h_15 => 
 Join1 (fun k_6 h_16 => guardP t17 false (k_6 c0 h_16) (k_6 undef h_16) ⟨⟩ ⟨⟩) (fun t20 h_17 => 
 Join1 (fun k_7 h_18 => guardP t17 false (Hp Tryz.prog false (nilS t20) k_7 h_18 ⟨⟩) (k_7 undef h_18) ⟨⟩ ⟨⟩) (fun t21 h_19 => 
 Join1 (fun k_8 h_20 => guardP t17 false (Hp Tryz.prog false (Instr.fieldAt 93 t21 2) k_8 h_20 ⟨⟩) (k_8 undef h_20) ⟨⟩ ⟨⟩) (fun t22 h_21 => 
 Join1 (fun k_9 h_22 => guardP t17 false (Hp Tryz.prog false (Instr.loadAt 3 t22) k_9 h_22 ⟨⟩) (k_9 undef h_22) ⟨⟩ ⟨⟩) (fun t23 h_23 => 
 Join1 (fun k_10 h_24 => guardP t17 false (Hp Tryz.prog false (binS .shr 2 (.const (.int .i64 268435456)) (.tmp 23) (.int .i64 268435456) t23) k_10 h_24 ⟨⟩) (k_10 undef h_24) ⟨⟩ ⟨⟩) (fun t24 h_25 => 
 Join1 (fun k_11 h_26 => guardP t17 false (Hp Tryz.prog false (binS .geq 2 (.tmp 19) (.tmp 24) t19 t24) k_11 h_26 ⟨⟩) (k_11 undef h_26) ⟨⟩ ⟨⟩) (fun t25 h_27 => 
 Hp Tryz.prog false (pickS t17 (.bool true) t25) (fun t26 h_28 => 
 CondP t26 (
 R (.int .i64 2) h_28) (
 R (.int .i64 0) h_28) ⟨⟩ ⟨⟩) h_27 ⟨⟩) h_25 ⟨⟩ ⟨⟩) h_23 ⟨⟩ ⟨⟩) h_21 ⟨⟩ ⟨⟩) h_19 ⟨⟩ ⟨⟩) h_17 ⟨⟩ ⟨⟩) h_15 ⟨⟩ ⟨⟩) h_13 ⟨⟩ ⟨⟩) h_12 ⟨⟩) ⟨⟩ ⟨⟩) h_11 ⟨⟩) h_9 ⟨⟩ ⟨⟩) h_7 ⟨⟩ ⟨⟩) h_5 ⟨⟩ ⟨⟩) h_3 ⟨⟩ ⟨⟩) h_1 ⟨⟩ ⟨⟩) h ⟨⟩

theorem n41_calls {c0 n1 : Value} {R : Value → Heap → Prop} {h : Heap} (H : n41 c0 n1 R h) : CallsH Tryz.prog 41 #[c0, n1] h R ⟨⟩ :=
 callsH_of_eq Tryz.follow .l Tryz.func41 (by kernel_rfl) (by kernel_rfl) (by kernel_rfl) H

/-- (*palimpsest/cache.Cache).reaches -/
def n42 (c0 n1 other2 : Value) (R : Value → Heap → Prop) (h : Heap) : Prop :=
 Hp Tryz.prog false (Instr.box 28 c0) (fun c3 h_1 => 
 Hp Tryz.prog false (Instr.box 2 other2) (fun other5 h_2 => 
 Hp Tryz.prog false (Instr.makeMap 90 none) (fun t9 h_3 => 
 Hp Tryz.prog false (Instr.alloc 90 true undef) (fun seen7 h_4 => 
 Hp Tryz.prog false (storeS 90 seen7 t9) (fun _ h_5 => 
 Hp Tryz.prog false (Instr.alloc 101 true undef) (fun down8 h_6 => 
 Hp Tryz.prog false (pure (.func (.func 81) #[] #[c3, other5, seen7, down8])) (fun t10 h_7 => 
 Hp Tryz.prog false (storeS 101 down8 t10) (fun _ h_8 => 
 Hp Tryz.prog false (Instr.loadAt 101 down8) (fun t11 h_9 => 
 InvokeH Tryz.prog t11 #[n1] h_9 (fun t13 h_10 => 
 R t13 h_10) ⟨⟩) h_8 ⟨⟩) h_7 ⟨⟩) h_6 ⟨⟩) h_5 ⟨⟩) h_4 ⟨⟩) h_3 ⟨⟩) h_2 ⟨⟩) h_1 ⟨⟩) h ⟨⟩

theorem n42_calls {c0 n1 other2 : Value} {R : Value → Heap → Prop} {h : Heap} (H : n42 c0 n1 other2 R h) : CallsH Tryz.prog 42 #[c0, n1, other2] h R ⟨⟩ :=
 callsH_of_eq Tryz.follow .l Tryz.func42 (by kernel_rfl) (by kernel_rfl) (by kernel_rfl) H

/-- (*palimpsest/cache.Cache).open -/
def n43 (c0 n1 : Value) (R : Value → Heap → Prop) (h : Heap) : Prop :=
 Hp Tryz.prog false (nilS c0) (fun t7 h_1 => 
 Hp Tryz.prog false (Instr.fieldAt 93 t7 4) (fun t8 h_2 => 
 Hp Tryz.prog false (Instr.loadAt 88 t8) (fun t9 h_3 => 
 Hp Tryz.prog false (Instr.lookup 88 t9 n1 false) (fun t11 h_4 => 
 Hp Tryz.prog false (binS .neq 94 (.tmp 12) (.const (.pointer none)) t11 (.pointer none)) (fun t13 h_5 => 
 Join1 (fun k h_6 => guardP t13 true (k t11 h_6) (k undef h_6) ⟨⟩ ⟨⟩) (fun t15 h_7 => 
 Join1 (fun k_1 h_8 => guardP t13 true (Hp Tryz.prog false (nilS t15) k_1 h_8 ⟨⟩) (k_1 undef h_8) ⟨⟩ ⟨⟩) (fun t16 h_9 => 
 Join1 (fun k_2 h_10 => guardP t13 true (Hp Tryz.prog false (Instr.fieldAt 99 t16 2) k_2 h_10 ⟨⟩) (k_2 undef h_10) ⟨⟩ ⟨⟩) (fun t17 h_11 => 
 Join1 (fun k_3 h_12 => guardP t13 true (Hp Tryz.prog false (Instr.loadAt 4 t17) k_3 h_12 ⟨⟩) (k_3 undef h_12) ⟨⟩ ⟨⟩) (fun t18 h_13 => 
 Hp Tryz.prog false (pickS t13 t18 (.bool false)) (fun t19 h_14 => 
 Join1 (fun k_4 h_15 => guardP t19 false (k_4 c0 h_15) (k_4 undef h_15) ⟨⟩ ⟨⟩) (fun t21 h_16 => 
 Join1 (fun k_5 h_17 => guardP t19 false (Hp Tryz.prog false (nilS t21) k_5 h_17 ⟨⟩) (k_5 undef h_17) ⟨⟩ ⟨⟩) (fun t22 h_18 => 
 Join1 (fun k_6 h_19 => guardP t19 false (Hp Tryz.prog false (Instr.fieldAt 93 t22 5) k_6 h_19 ⟨⟩) (k_6 undef h_19) ⟨⟩ ⟨⟩) (fun t23 h_20 => 
 Join1 (fun k_7 h_21 => guardP t19 false (Hp Tryz.prog false (Instr.loadAt 90 t23) k_7 h_21 ⟨⟩) (k_7 undef h_21) ⟨⟩ ⟨⟩) (fun t24 h_22 => 
 Join1 (fun k_8 h_23 => guardP t19 false (k_8 n1 h_23) (k_8 undef h_23) ⟨⟩ ⟨⟩) (fun t25 h_24 => 
 Join1 (fun k_9 h_25 => guardP t19 false (Hp Tryz.prog false (Instr.lookup 90 t24 t25 false) k_9 h_25 ⟨⟩) (k_9 undef h_25) ⟨⟩ ⟨⟩) (fun t26 h_26 => 
 Hp Tryz.prog false (pickS t19 (.bool true) t26) (fun t27 h_27 => 
 R t27 h_27) h_26 ⟨⟩) h_24 ⟨⟩ ⟨⟩) h_22 ⟨⟩ ⟨⟩) h_20 ⟨⟩ ⟨⟩) h_18 ⟨⟩ ⟨⟩) h_16 ⟨⟩ ⟨⟩) h_14 ⟨⟩ ⟨⟩) h_13 ⟨⟩) h_11 ⟨⟩ ⟨⟩) h_9 ⟨⟩ ⟨⟩) h_7 ⟨⟩ ⟨⟩) h_5 ⟨⟩ ⟨⟩) h_4 ⟨⟩) h_3 ⟨⟩) h_2 ⟨⟩) h_1 ⟨⟩) h ⟨⟩

theorem n43_calls {c0 n1 : Value} {R : Value → Heap → Prop} {h : Heap} (H : n43 c0 n1 R h) : CallsH Tryz.prog 43 #[c0, n1] h R ⟨⟩ :=
 callsH_of_eq Tryz.follow .l Tryz.func43 (by kernel_rfl) (by kernel_rfl) (by kernel_rfl) H

/-- (*palimpsest/cache.Cache).back -/
def n44 (c0 n1 : Value) (R : Value → Heap → Prop) (h : Heap) : Prop :=
 Hp Tryz.prog false (nilS c0) (fun t13 h_1 => 
 Hp Tryz.prog false (Instr.fieldAt 93 t13 4) (fun t14 h_2 => 
 Hp Tryz.prog false (Instr.loadAt 88 t14) (fun t15 h_3 => 
 Hp Tryz.prog false (Instr.lookup 88 t15 n1 false) (fun t17 h_4 => 
 Hp Tryz.prog false (binS .eql 94 (.tmp 18) (.const (.pointer none)) t17 (.pointer none)) (fun t19 h_5 => 
 Join1 (fun k h_6 => guardP t19 false (k t17 h_6) (k undef h_6) ⟨⟩ ⟨⟩) (fun t21 h_7 => 
 Join1 (fun k_1 h_8 => guardP t19 false (Hp Tryz.prog false (nilS t21) k_1 h_8 ⟨⟩) (k_1 undef h_8) ⟨⟩ ⟨⟩) (fun t22 h_9 => 
 Join1 (fun k_2 h_10 => guardP t19 false (Hp Tryz.prog false (Instr.fieldAt 99 t22 2) k_2 h_10 ⟨⟩) (k_2 undef h_10) ⟨⟩ ⟨⟩) (fun t23 h_11 => 
 Join1 (fun k_3 h_12 => guardP t19 false (Hp Tryz.prog false (Instr.loadAt 4 t23) k_3 h_12 ⟨⟩) (k_3 undef h_12) ⟨⟩ ⟨⟩) (fun t24 h_13 => 
 Join1 (fun k_4 h_14 => guardP t19 false (Hp Tryz.prog false (Op.unary .not t24) k_4 h_14 ⟨⟩) (k_4 undef h_14) ⟨⟩ ⟨⟩) (fun t25 h_15 => 
 Hp Tryz.prog false (pickS t19 (.bool true) t25) (fun t26 h_16 => 
 CondP t26 (
 R (.int .i64 0) h_16) (
 Hp Tryz.prog false (pure (.func (.func 44) #[c0] #[])) (fun t28 h_17 => 
 CallsH Tryz.prog 82 #[c0, n1] h_17 (fun t31 h_18 => 
 Hp Tryz.prog false (Builtin.len_ #[102] 3 #[t31]) (fun t32 h_19 => 
 LoopC 1 (fun (X : Value → Heap → Prop) => fun t33 h_20 =>
 Hp Tryz.prog false (binS .lss 3 (.tmp 33) (.tmp 32) t33 t32) (fun t34 h_21 => 
 CondP t34 (
 Hp Tryz.prog false (Instr.indexAt 102 t31 t33) (fun t35 h_22 => 
 Hp Tryz.prog false (Instr.loadAt 2 t35) (fun t36 h_23 => 
 InvokeH Tryz.prog t28 #[t36] h_23 (fun t39 h_24 => 
 Hp Tryz.prog false (binS .neq 29 (.tmp 40) (.const (.int .i64 0)) t39 (.int .i64 0)) (fun t41 h_25 => 
 CondP t41 (
 R t39 h_25) (
 Hp Tryz.prog false (binS .add 3 (.tmp 33) (.const (.int .i64 1)) t33 (.int .i64 1)) (fun t43 h_26 => 
 X t43 h_26) h_25 ⟨⟩) ⟨⟩ ⟨⟩) h_24 ⟨⟩) ⟨⟩) h_22 ⟨⟩) h_21 ⟨⟩) (
 JoinN 0 (fun (k_5 : Heap → Prop) h_27 =>
 CallsH Tryz.prog 82 #[c0, n1] h_27 (fun t46 h_28 => 
 Hp Tryz.prog false (Builtin.len_ #[102] 3 #[t46]) (fun t47 h_29 => 
 Hp Tryz.prog false (binS .gtr 3 (.tmp 47) (.const (.int .i64 0)) t47 (.int .i64 0)) (fun t48 h_30 => 
 CondP t48 (
 CallsH Tryz.prog 47 #[c0] h_30 (fun t50 h_31 => 
 Hp Tryz.prog false (binS .neq 29 (.tmp 51) (.const (.int .i64 0)) t50 (.int .i64 0)) (fun t52 h_32 => 
 CondP t52 (
 R t50 h_32) (
 k_5 h_32) ⟨⟩ ⟨⟩) h_31 ⟨⟩) ⟨⟩) (
 k_5 h_30) ⟨⟩ ⟨⟩) h_29 ⟨⟩) h_28 ⟨⟩) ⟨⟩)
 (fun h_33 =>
 Hp Tryz.prog true (nilS c0) (fun t55 _ => 
 Hp Tryz.prog true (Instr.fieldAt 93 t55 0) (fun t56 _ => 
 Hp Tryz.prog true (Instr.loadAt 26 t56) (fun t57 _ => 
 Hp Tryz.prog true (nilS c0) (fun t59 _ => 
 Hp Tryz.prog true (Instr.fieldAt 93 t59 1) (fun t60 _ => 
 Hp Tryz.prog true (Instr.loadAt 9 t60) (fun t61 _ => 
 Hp Tryz.prog true (nilS c0) (fun t64 _ => 
 Hp Tryz.prog true (Instr.fieldAt 93 t64 2) (fun t65 _ => 
 Hp Tryz.prog true (Instr.loadAt 3 t65) (fun t66 _ => 
 Hp Tryz.prog true (binS .shl 2 (.tmp 62) (.tmp 66) n1 t66) (fun t67 _ => 
 Hp Tryz.prog true (nilS t17) (fun t69 _ => 
 Hp Tryz.prog true (Instr.fieldAt 99 t69 1) (fun t70 _ => 
 Hp Tryz.prog true (Instr.loadAt 33 t70) (fun t71 _ => 
 CallsH Tryz.prog 83 #[t57, t61, t67, t71] h_33 (fun t72 h_34 => 
 Hp Tryz.prog false (binS .neq 29 (.tmp 73) (.const (.int .i64 0)) t72 (.int .i64 0)) (fun t74 h_35 => 
 CondP t74 (
 R t72 h_35) (
 Hp Tryz.prog false (nilS t17) (fun t77 h_36 => 
 Hp Tryz.prog false (Instr.fieldAt 99 t77 2) (fun t78 h_37 => 
 Hp Tryz.prog false (storeS 4 t78 (.bool false)) (fun _ h_38 => 
 Hp Tryz.prog false (nilS c0) (fun t80 h_39 => 
 Hp Tryz.prog false (Instr.fieldAt 93 t80 5) (fun t81 h_40 => 
 Hp Tryz.prog false (Instr.loadAt 90 t81) (fun t82 h_41 => 
 Hp Tryz.prog false (unitS (Instr.mapUpdate 90 t82 n1 (.bool true))) (fun _ h_42 => 
 Hp Tryz.prog false (nilS c0) (fun t85 h_43 => 
 Hp Tryz.prog false (Instr.fieldAt 93 t85 6) (fun t86 h_44 => 
 Hp Tryz.prog false (Instr.loadAt 91 t86) (fun t87 h_45 => 
 Hp Tryz.prog false (Builtin.delete_ #[91, 2] 0 #[t87, n1]) (fun _ h_46 => 
 Hp Tryz.prog false (nilS c0) (fun t90 h_47 => 
 Hp Tryz.prog false (Instr.fieldAt 93 t90 8) (fun t91 h_48 => 
 Hp Tryz.prog false (Instr.fieldAt 81 t91 2) (fun t92 h_49 => 
 Hp Tryz.prog false (Instr.loadAt 3 t92) (fun t93 h_50 => 
 Hp Tryz.prog false (binS .add 3 (.tmp 93) (.const (.int .i64 1)) t93 (.int .i64 1)) (fun t94 h_51 => 
 Hp Tryz.prog false (nilS c0) (fun t95 h_52 => 
 Hp Tryz.prog false (Instr.fieldAt 93 t95 8) (fun t96 h_53 => 
 Hp Tryz.prog false (Instr.fieldAt 81 t96 2) (fun t97 h_54 => 
 Hp Tryz.prog false (storeS 3 t97 t94) (fun _ h_55 => 
 R (.int .i64 0) h_55) h_54 ⟨⟩) h_53 ⟨⟩) h_52 ⟨⟩) h_51 ⟨⟩) h_50 ⟨⟩) h_49 ⟨⟩) h_48 ⟨⟩) h_47 ⟨⟩) h_46 ⟨⟩) h_45 ⟨⟩) h_44 ⟨⟩) h_43 ⟨⟩) h_42 ⟨⟩) h_41 ⟨⟩) h_40 ⟨⟩) h_39 ⟨⟩) h_38 ⟨⟩) h_37 ⟨⟩) h_36 ⟨⟩) h_35 ⟨⟩) ⟨⟩ ⟨⟩) h_34 ⟨⟩) ⟨⟩) h_33 ⟨⟩) #[] ⟨⟩) #[] ⟨⟩) #[] ⟨⟩) h_33 ⟨⟩) #[] ⟨⟩) #[] ⟨⟩) h_33 ⟨⟩) #[] ⟨⟩) #[] ⟨⟩) h_33 ⟨⟩) #[] ⟨⟩) #[] ⟨⟩) h_21 ⟨⟩ ⟨⟩) ⟨⟩ ⟨⟩) h_20 ⟨⟩) [(.int .i64 0)] h_19 ⟨⟩) h_18 ⟨⟩) ⟨⟩) h_16 ⟨⟩) ⟨⟩ ⟨⟩) h_15 ⟨⟩) h_13 ⟨⟩ ⟨⟩) h_11 ⟨⟩ ⟨⟩) h_9 ⟨⟩ ⟨⟩) h_7 ⟨⟩ ⟨⟩) h_5 ⟨⟩ ⟨⟩) h_4 ⟨⟩) h_3 ⟨⟩) h_2 ⟨⟩) h_1 ⟨⟩) h ⟨⟩

theorem n44_calls {c0 n1 : Value} {R : Value → Heap → Prop} {h : Heap} (H : n44 c0 n1 R h) : CallsH Tryz.prog 44 #[c0, n1] h R ⟨⟩ :=
 callsH_of_eq Tryz.follow (.n none .l (.n none .l (.n none .l (.n none .l (.n none (.n none .l (.n none (.n (some [34]) .l .l) .l)) (.n (some []) .l .l)))))) Tryz.func44 (by kernel_rfl) (by kernel_rfl) (by kernel_rfl) H

/-- slices.Sorted[int64] -/
def n45 (seq0 : Value) (R : Value → Heap → Prop) (h : Heap) : Prop :=
 CallsH Tryz.prog 84 #[seq0] h (fun t5 h_1 => 
 CallsH Tryz.prog 85 #[t5] h_1 (fun t7 h_2 => 
 R t5 h_2) ⟨⟩) ⟨⟩

theorem n45_calls {seq0 : Value} {R : Value → Heap → Prop} {h : Heap} (H : n45 seq0 R h) : CallsH Tryz.prog 45 #[seq0] h R ⟨⟩ :=
 callsH_of_eq Tryz.follow .l Tryz.func45 (by kernel_rfl) (by kernel_rfl) (by kernel_rfl) H

/-- maps.Keys[map[int64]*palimpsest/cache.page,int64,*palimpsest/cache.page] -/
def n46 (m0 : Value) (R : Value → Heap → Prop) (h : Heap) : Prop :=
 Hp Tryz.prog false (Instr.box 88 m0) (fun m1 h_1 => 
 Hp Tryz.prog false (pure (.func (.func 86) #[] #[m1])) (fun t3 h_2 => 
 R t3 h_2) h_1 ⟨⟩) h ⟨⟩

theorem n46_calls {m0 : Value} {R : Value → Heap → Prop} {h : Heap} (H : n46 m0 R h) : CallsH Tryz.prog 46 #[m0] h R ⟨⟩ :=
 callsH_of_eq Tryz.follow .l Tryz.func46 (by kernel_rfl) (by kernel_rfl) (by kernel_rfl) H

/-- (*palimpsest/cache.Cache).flush -/
def n47 (c0 : Value) (R : Value → Heap → Prop) (h : Heap) : Prop :=
 Hp Tryz.prog true (nilS c0) (fun t5 _ => 
 Hp Tryz.prog true (Instr.fieldAt 93 t5 0) (fun t6 _ => 
 Hp Tryz.prog true (Instr.loadAt 26 t6) (fun t7 _ => 
 Hp Tryz.prog true (nilS c0) (fun t9 _ => 
 Hp Tryz.prog true (Instr.fieldAt 93 t9 1) (fun t10 _ => 
 Hp Tryz.prog true (Instr.loadAt 9 t10) (fun t11 _ => 
 CallsH Tryz.prog 87 #[t7, t11] h (fun t12 h_1 => 
 JoinN 0 (fun (k : Heap → Prop) h_2 =>
 Hp Tryz.prog false (binS .eql 29 (.tmp 13) (.const (.int .i64 0)) t12 (.int .i64 0)) (fun t14 h_3 => 
 CondP t14 (
 Hp Tryz.prog false (nilS c0) (fun t16 h_4 => 
 Hp Tryz.prog false (Instr.fieldAt 93 t16 8) (fun t17 h_5 => 
 Hp Tryz.prog false (Instr.fieldAt 81 t17 3) (fun t18 h_6 => 
 Hp Tryz.prog false (Instr.loadAt 3 t18) (fun t19 h_7 => 
 Hp Tryz.prog false (binS .add 3 (.tmp 19) (.const (.int .i64 1)) t19 (.int .i64 1)) (fun t20 h_8 => 
 Hp Tryz.prog false (nilS c0) (fun t21 h_9 => 
 Hp Tryz.prog false (Instr.fieldAt 93 t21 8) (fun t22 h_10 => 
 Hp Tryz.prog false (Instr.fieldAt 81 t22 3) (fun t23 h_11 => 
 Hp Tryz.prog false (storeS 3 t23 t20) (fun _ h_12 => 
 Hp Tryz.prog false (nilS c0) (fun t25 h_13 => 
 Hp Tryz.prog false (Instr.fieldAt 93 t25 5) (fun t26 h_14 => 
 Hp Tryz.prog false (Instr.loadAt 90 t26) (fun t27 h_15 => 
 Hp Tryz.prog false (Builtin.clear_ #[90] 0 #[t27]) (fun _ h_16 => 
 CallsH Tryz.prog 54 #[c0] h_16 (fun t29 h_17 => 
 k h_17) ⟨⟩) h_15 ⟨⟩) h_14 ⟨⟩) h_13 ⟨⟩) h_12 ⟨⟩) h_11 ⟨⟩) h_10 ⟨⟩) h_9 ⟨⟩) h_8 ⟨⟩) h_7 ⟨⟩) h_6 ⟨⟩) h_5 ⟨⟩) h_4 ⟨⟩) h_3 ⟨⟩) (
 k h_3) ⟨⟩ ⟨⟩) h_2 ⟨⟩)
 (fun h_18 =>
 R t12 h_18) h_1 ⟨⟩ ⟨⟩) ⟨⟩) h ⟨⟩) #[] ⟨⟩) #[] ⟨⟩) h ⟨⟩) #[] ⟨⟩) #[] ⟨⟩

theorem n47_calls {c0 : Value} {R : Value → Heap → Prop} {h : Heap} (H : n47 c0 R h) : CallsH Tryz.prog 47 #[c0] h R ⟨⟩ :=
 callsH_of_eq Tryz.follow (.n none .l (.n none .l (.n (some []) .l .l))) Tryz.func47 (by kernel_rfl) (by kernel_rfl) (by kernel_rfl) H

/-- (*palimpsest/store.Store).Names -/
def n48 (s0 : Value) (R : Value → Heap → Prop) (h : Heap) : Prop :=
 CallsH Tryz.prog 79 #[s0] h (fun t4 h_1 => 
 CondP t4 (
 R (.slice none 0 0) h_1) (
 Hp Tryz.prog false (nilS s0) (fun t6 h_2 => 
 Hp Tryz.prog false (Instr.fieldAt 156 t6 0) (fun t7 h_3 => 
 Hp Tryz.prog false (Instr.loadAt 153 t7) (fun t8 h_4 => 
 CallsH Tryz.prog 89 #[t8] h_4 (fun t9 h_5 => 
 CallsH Tryz.prog 88 #[t9] h_5 (fun t10 h_6 => 
 R t10 h_6) ⟨⟩) ⟨⟩) h_3 ⟨⟩) h_2 ⟨⟩) h_1 ⟨⟩) ⟨⟩ ⟨⟩) ⟨⟩

theorem n48_calls {s0 : Value} {R : Value → Heap → Prop} {h : Heap} (H : n48 s0 R h) : CallsH Tryz.prog 48 #[s0] h R ⟨⟩ :=
 callsH_of_eq Tryz.follow .l Tryz.func48 (by kernel_rfl) (by kernel_rfl) (by kernel_rfl) H

/-- (*palimpsest/store.Store).find -/
def n50 (s0 name1 : Value) (R : Value → Heap → Prop) (h : Heap) : Prop :=
 CallsH Tryz.prog 76 #[s0, name1] h (fun t11 h_1 => 
 Hp Tryz.prog false (binS .neq 29 (.tmp 12) (.const (.int .i64 0)) t11 (.int .i64 0)) (fun t13 h_2 => 
 CondP t13 (
 R (.tuple #[(.pointer none), t11]) h_2) (
 Hp Tryz.prog false (nilS s0) (fun t17 h_3 => 
 Hp Tryz.prog false (Instr.fieldAt 156 t17 0) (fun t18 h_4 => 
 Hp Tryz.prog false (Instr.loadAt 153 t18) (fun t19 h_5 => 
 Hp Tryz.prog false (Instr.lookup 153 t19 name1 true) (fun t21 h_6 => 
 Hp Tryz.prog false (Instr.extract t21 0) (fun t22 h_7 => 
 Hp Tryz.prog false (Instr.extract t21 1) (fun t23 h_8 => 
 Hp Tryz.prog false (Op.unary .not t23) (fun t25 h_9 => 
 CondP t25 (
 R (.tuple #[(.pointer none), (.int .i64 7)]) h_9) (
 R (.tuple #[t22, (.int .i64 0)]) h_9) ⟨⟩ ⟨⟩) h_8 ⟨⟩) h_7 ⟨⟩) h_6 ⟨⟩) h_5 ⟨⟩) h_4 ⟨⟩) h_3 ⟨⟩) h_2 ⟨⟩) ⟨⟩ ⟨⟩) h_1 ⟨⟩) ⟨⟩

theorem n50_calls {s0 name1 : Value} {R : Value → Heap → Prop} {h : Heap} (H : n50 s0 name1 R h) : CallsH Tryz.prog 50 #[s0, name1] h R ⟨⟩ :=
 callsH_of_eq Tryz.follow .l Tryz.func50 (by kernel_rfl) (by kernel_rfl) (by kernel_rfl) H

/-- bytes.Clone -/
def n51 (b0 : Value) (R : Value → Heap → Prop) (h : Heap) : Prop :=
 Hp Tryz.prog false (binS .eql 33 (.tmp 3) (.const (.slice none 0 0)) b0 (.slice none 0 0)) (fun t4 h_1 => 
 CondP t4 (
 R (.slice none 0 0) h_1) (
 Hp Tryz.prog false (Instr.buildSlice 33 0 #[]) (fun t5 h_2 => 
 Hp Tryz.prog false (Builtin.append_ #[33, 33] 33 #[t5, b0]) (fun t7 h_3 => 
 R t7 h_3) h_2 ⟨⟩) h_1 ⟨⟩) ⟨⟩ ⟨⟩) h ⟨⟩

theorem n51_calls {b0 : Value} {R : Value → Heap → Prop} {h : Heap} (H : n51 b0 R h) : CallsH Tryz.prog 51 #[b0] h R ⟨⟩ :=
 callsH_of_eq Tryz.follow .l Tryz.func51 (by kernel_rfl) (by kernel_rfl) (by kernel_rfl) H

/-- (*palimpsest/store.Store).Crash -/
def n52 (s0 picks1 : Value) (R : Value → Heap → Prop) (h : Heap) : Prop :=
 Hp Tryz.prog false (Instr.box 49 picks1) (fun picks3 h_1 => 
 CallsH Tryz.prog 79 #[s0] h_1 (fun t16 h_2 => 
 CondP t16 (
 R (.tuple #[(.pointer none), (.int .i64 1)]) h_2) (
 Hp Tryz.prog false (Instr.loadAt 49 picks3) (fun t18 h_3 => 
 CallsH Tryz.prog 91 #[t18, (.func (.func 92) #[] #[])] h_3 (fun t19 h_4 => 
 CondP t19 (
 R (.tuple #[(.pointer none), (.int .i64 2)]) h_4) (
 Hp Tryz.prog false (pure (.func (.func 93) #[] #[picks3])) (fun t20 h_5 => 
 Hp Tryz.prog false (Instr.makeMap 153 none) (fun t21 h_6 => 
 Hp Tryz.prog false (Instr.build 156 #[(0, t21)]) (fun t22 h_7 => 
 Hp Tryz.prog false (Instr.box 156 t22) (fun t23 h_8 => 
 CallsH Tryz.prog 48 #[s0] h_8 (fun t25 h_9 => 
 Hp Tryz.prog false (Builtin.len_ #[105] 3 #[t25]) (fun t26 h_10 => 
 LoopC 1 (fun (X : Value → Heap → Prop) => fun t27 h_11 =>
 Hp Tryz.prog false (binS .lss 3 (.tmp 27) (.tmp 26) t27 t26) (fun t28 h_12 => 
 CondP t28 (
 Hp Tryz.prog false (Instr.indexAt 105 t25 t27) (fun t29 h_13 => 
 Hp Tryz.prog false (Instr.loadAt 9 t29) (fun t30 h_14 => 
 Hp Tryz.prog false (nilS s0) (fun t32 h_15 => 
 Hp Tryz.prog false (Instr.fieldAt 156 t32 0) (fun t33 h_16 => 
 Hp Tryz.prog false (Instr.loadAt 153 t33) (fun t34 h_17 => 
 Hp Tryz.prog false (Instr.lookup 153 t34 t30 false) (fun t36 h_18 => 
 Hp Tryz.prog false (nilS t36) (fun t38 h_19 => 
 Hp Tryz.prog false (Instr.fieldAt 115 t38 0) (fun t39 h_20 => 
 Hp Tryz.prog false (Instr.loadAt 33 t39) (fun t40 h_21 => 
 CallsH Tryz.prog 51 #[t40] h_21 (fun t41 h_22 => 
 Hp Tryz.prog false (nilS t36) (fun t43 h_23 => 
 Hp Tryz.prog false (Instr.fieldAt 115 t43 1) (fun t44 h_24 => 
 Hp Tryz.prog false (Instr.loadAt 113 t44) (fun t45 h_25 => 
 Hp Tryz.prog false (Builtin.len_ #[113] 3 #[t45]) (fun t46 h_26 => 
 LoopC 1 (fun (X_1 : Value → Heap → Prop) => fun t47 h_27 =>
 Hp Tryz.prog false (binS .lss 3 (.tmp 47) (.tmp 46) t47 t46) (fun t48 h_28 => 
 CondP t48 (
 JoinN 0 (fun (k : Heap → Prop) h_29 =>
 JoinN 0 (fun (k_1 : Heap → Prop) h_30 =>
 Hp Tryz.prog false (Instr.indexAt 113 t45 t47) (fun t49 h_31 => 
 Hp Tryz.prog false (Instr.loadAt 162 t49) (fun t50 h_32 => 
 Hp Tryz.prog false (Instr.alloc 162 true undef) (fun p13 h_33 => 
 Hp Tryz.prog false (storeS 162 p13 t50) (fun _ h_34 => 
 InvokeH Tryz.prog t20 #[] h_34 (fun t52 h_35 => 
 CondP t52 (
 Hp Tryz.prog true (Instr.fieldAt 162 p13 0) (fun t54 _ => 
 Hp Tryz.prog true (Instr.loadAt 2 t54) (fun t55 _ => 
 Hp Tryz.prog true (Instr.sliceAt 33 t41 (some t55) none none) (fun t56 _ => 
 Hp Tryz.prog true (Instr.fieldAt 162 p13 1) (fun t57 _ => 
 Hp Tryz.prog true (Instr.loadAt 33 t57) (fun t58 _ => 
 Hp Tryz.prog false (Builtin.copy_ #[33, 33] 3 #[t56, t58]) (fun t59 h_36 => 
 k_1 h_36) h_35 ⟨⟩) h_35 ⟨⟩) #[] ⟨⟩) #[] ⟨⟩) h_35 ⟨⟩) #[] ⟨⟩) (
 k_1 h_35) ⟨⟩ ⟨⟩) ⟨⟩) h_33 ⟨⟩) h_32 ⟨⟩) h_31 ⟨⟩) h_30 ⟨⟩)
 (fun h_37 =>
 k h_37) h_29 ⟨⟩ ⟨⟩)
 (fun h_38 =>
 Hp Tryz.prog false (binS .add 3 (.tmp 47) (.const (.int .i64 1)) t47 (.int .i64 1)) (fun t60 h_39 => 
 X_1 t60 h_39) h_38 ⟨⟩) h_28 ⟨⟩ ⟨⟩) (
 Hp Tryz.prog true (nilS t23) (fun t62 _ => 
 Hp Tryz.prog true (Instr.fieldAt 156 t62 0) (fun t63 _ => 
 Hp Tryz.prog true (Instr.loadAt 153 t63) (fun t64 _ => 
 CallsH Tryz.prog 51 #[t41] h_28 (fun t68 h_40 => Hp Tryz.prog true (Instr.loadAt 153 t63) (fun u _ => u = t64) h_40 ⟨⟩ ∧ 
 Hp Tryz.prog true (Instr.build 115 #[(0, t41), (2, t68)]) (fun t69 _ => 
 Hp Tryz.prog false (Instr.box 115 t69) (fun t70 h_41 => Hp Tryz.prog true (Instr.loadAt 153 t63) (fun u _ => u = t64) h_41 ⟨⟩ ∧ 
 Hp Tryz.prog false (unitS (Instr.mapUpdate 153 t64 t30 t70)) (fun _ h_42 => 
 Hp Tryz.prog false (binS .add 3 (.tmp 27) (.const (.int .i64 1)) t27 (.int .i64 1)) (fun t71 h_43 => 
 X t71 h_43) h_42 ⟨⟩) h_41 ⟨⟩) h_40 ⟨⟩) #[] ⟨⟩) ⟨⟩) h_28 ⟨⟩) #[] ⟨⟩) #[] ⟨⟩) ⟨⟩ ⟨⟩) h_27 ⟨⟩) [(.int .i64 0)] h_26 ⟨⟩) h_25 ⟨⟩) h_24 ⟨⟩) h_23 ⟨⟩) h_22 ⟨⟩) ⟨⟩) h_20 ⟨⟩) h_19 ⟨⟩) h_18 ⟨⟩) h_17 ⟨⟩) h_16 ⟨⟩) h_15 ⟨⟩) h_14 ⟨⟩) h_13 ⟨⟩) h_12 ⟨⟩) (
 R (.tuple #[t23, (.int .i64 0)]) h_12) ⟨⟩ ⟨⟩) h_11 ⟨⟩) [(.int .i64 0)] h_10 ⟨⟩) h_9 ⟨⟩) ⟨⟩) h_7 ⟨⟩) h_6 ⟨⟩) h_5 ⟨⟩) h_4 ⟨⟩) ⟨⟩ ⟨⟩) ⟨⟩) h_2 ⟨⟩) ⟨⟩ ⟨⟩) ⟨⟩) h ⟨⟩

theorem n52_calls {s0 picks1 : Value} {R : Value → Heap → Prop} {h : Heap} (H : n52 s0 picks1 R h) : CallsH Tryz.prog 52 #[s0, picks1] h R ⟨⟩ :=
 callsH_of_eq Tryz.follow (.n none .l (.n none .l (.n none .l (.n none .l (.n none (.n none .l (.n none (.n (some [28]) (.n none .l (.n none .l (.n none (.n none (.n none .l (.n none .l (.n none .l (.n none (.n none .l (.n none (.n (some [48]) (.n none .l (.n none .l (.n (some []) (.n (some []) .l .l) .l))) .l) .l)) .l)))) .l) .l))) .l) .l)) .l))))) Tryz.func52 (by kernel_rfl) (by kernel_rfl) (by kernel_rfl) H

/-- (*palimpsest/cache.Cache).State -/
def n53 (c0 n1 : Value) (R : Value → Heap → Prop) (h : Heap) : Prop :=
 Hp Tryz.prog false (Instr.alloc 121 true undef) (fun t4 h_1 => 
 CallsH Tryz.prog 41 #[c0, n1] h_1 (fun t10 h_2 => 
 Hp Tryz.prog false (binS .neq 29 (.tmp 11) (.const (.int .i64 0)) t10 (.int .i64 0)) (fun t12 h_3 => 
 CondP t12 (
 Hp Tryz.prog false (Instr.build 121 #[]) (fun t13 h_4 => 
 Hp Tryz.prog false (storeS 121 t4 t13) (fun _ h_5 => 
 Hp Tryz.prog true (loadCell 121 t4) (fun r _ =>
 R (.tuple #[r, t10]) h_5) h_5 ⟨⟩) h_4 ⟨⟩) h_3 ⟨⟩) (
 Hp Tryz.prog false (nilS c0) (fun t16 h_6 => 
 Hp Tryz.prog false (Instr.fieldAt 93 t16 4) (fun t17 h_7 => 
 Hp Tryz.prog false (Instr.loadAt 88 t17) (fun t18 h_8 => 
 Hp Tryz.prog false (Instr.lookup 88 t18 n1 false) (fun t20 h_9 => 
 Hp Tryz.prog true (nilS c0) (fun t30 _ => 
 Hp Tryz.prog true (Instr.fieldAt 93 t30 5) (fun t31 _ => 
 Hp Tryz.prog true (Instr.loadAt 90 t31) (fun t32 _ => 
 Hp Tryz.prog true (Instr.lookup 90 t32 n1 false) (fun t34 _ => 
 Hp Tryz.prog false (binS .neq 94 (.tmp 21) (.const (.pointer none)) t20 (.pointer none)) (fun t22 h_10 => Hp Tryz.prog true (Instr.lookup 90 t32 n1 false) (fun u _ => u = t34) h_10 ⟨⟩ ∧ Hp Tryz.prog true (Instr.loadAt 90 t31) (fun u _ => u = t32) h_10 ⟨⟩ ∧ 
 Join1 (fun k h_11 => guardP t22 true (k t20 h_11) (k undef h_11) ⟨⟩ ⟨⟩) (fun t24 _ => 
 Join1 (fun k_1 h_12 => guardP t22 true (Hp Tryz.prog true (nilS t24) k_1 h_12 ⟨⟩) (k_1 undef h_12) ⟨⟩ ⟨⟩) (fun t25 _ => 
 Join1 (fun k_2 h_13 => guardP t22 true (Hp Tryz.prog true (Instr.fieldAt 99 t25 2) k_2 h_13 ⟨⟩) (k_2 undef h_13) ⟨⟩ ⟨⟩) (fun t26 _ => 
 Join1 (fun k_3 h_14 => guardP t22 true (Hp Tryz.prog true (Instr.loadAt 4 t26) k_3 h_14 ⟨⟩) (k_3 undef h_14) ⟨⟩ ⟨⟩) (fun t27 _ => 
 Hp Tryz.prog true (pickS t22 t27 (.bool false)) (fun t28 _ => 
 CallsH Tryz.prog 82 #[c0, n1] h_10 (fun t37 h_15 => Join1 (fun k h => guardP t22 true (Hp Tryz.prog true (Instr.loadAt 4 t26) k h ⟨⟩) (k undef h) ⟨⟩ ⟨⟩) (fun u _ => u = t27) h_15 ⟨⟩ ⟨⟩ ∧ Hp Tryz.prog true (Instr.lookup 90 t32 n1 false) (fun u _ => u = t34) h_15 ⟨⟩ ∧ Hp Tryz.prog true (Instr.loadAt 90 t31) (fun u _ => u = t32) h_15 ⟨⟩ ∧ 
 Hp Tryz.prog true (Instr.build 121 #[(0, t28), (1, t34), (2, t37)]) (fun t38 _ => 
 Hp Tryz.prog false (storeS 121 t4 t38) (fun _ h_16 => 
 Hp Tryz.prog true (loadCell 121 t4) (fun r_1 _ =>
 R (.tuple #[r_1, (.int .i64 0)]) h_16) h_16 ⟨⟩) h_15 ⟨⟩) #[] ⟨⟩) ⟨⟩) #[] ⟨⟩) h_10 ⟨⟩ ⟨⟩) #[] ⟨⟩ ⟨⟩) #[] ⟨⟩ ⟨⟩) #[] ⟨⟩ ⟨⟩) h_9 ⟨⟩) h_9 ⟨⟩) h_9 ⟨⟩) #[] ⟨⟩) #[] ⟨⟩) h_8 ⟨⟩) h_7 ⟨⟩) h_6 ⟨⟩) h_3 ⟨⟩) ⟨⟩ ⟨⟩) h_2 ⟨⟩) ⟨⟩) h ⟨⟩

theorem n53_calls {c0 n1 : Value} {R : Value → Heap → Prop} {h : Heap} (H : n53 c0 n1 R h) : CallsH Tryz.prog 53 #[c0, n1] h R ⟨⟩ :=
 callsH_of_eq Tryz.follow .l Tryz.func53 (by kernel_rfl) (by kernel_rfl) (by kernel_rfl) H

/-- (*palimpsest/cache.Cache).settle -/
def n54 (c0 : Value) (R : Value → Heap → Prop) (h : Heap) : Prop :=
 Hp Tryz.prog false (Instr.box 28 c0) (fun c1 h_1 => 
 Hp Tryz.prog false (Instr.loadAt 28 c1) (fun t4 h_2 => 
 Hp Tryz.prog false (nilS t4) (fun t5 h_3 => 
 Hp Tryz.prog false (Instr.fieldAt 93 t5 6) (fun t6 h_4 => 
 Hp Tryz.prog false (Instr.loadAt 91 t6) (fun t7 h_5 => 
 Hp Tryz.prog false (Instr.range 91 t7) (fun t8 h_6 => 
 LoopC 0 (fun (X : Heap → Prop) => fun h_7 =>
 Hp Tryz.prog false (Instr.next t8 false 0) (fun t9 h_8 => 
 Hp Tryz.prog false (Instr.extract t9 0) (fun t10 h_9 => 
 CondP t10 (
 Hp Tryz.prog false (Instr.entry t8) (fun t11 h_10 => 
 Hp Tryz.prog false (Instr.extract t11 1) (fun t12 h_11 => 
 Hp Tryz.prog false (pure (.func (.func 95) #[] #[c1])) (fun t14 h_12 => 
 CallsH Tryz.prog 94 #[t12, t14] h_12 (fun t15 h_13 => 
 X h_13) ⟨⟩) h_11 ⟨⟩) h_10 ⟨⟩) h_9 ⟨⟩) (
 R (.tuple #[]) h_9) ⟨⟩ ⟨⟩) h_8 ⟨⟩) h_7 ⟨⟩) [] h_6 ⟨⟩) h_5 ⟨⟩) h_4 ⟨⟩) h_3 ⟨⟩) h_2 ⟨⟩) h_1 ⟨⟩) h ⟨⟩

theorem n54_calls {c0 : Value} {R : Value → Heap → Prop} {h : Heap} (H : n54 c0 R h) : CallsH Tryz.prog 54 #[c0] h R ⟨⟩ :=
 callsH_of_eq Tryz.follow (.n none .l (.n none .l (.n none (.n (some []) .l .l) .l))) Tryz.func54 (by kernel_rfl) (by kernel_rfl) (by kernel_rfl) H

/-- slices.Values[[]int64,int64] -/
def n73 (s0 : Value) (R : Value → Heap → Prop) (h : Heap) : Prop :=
 Hp Tryz.prog false (Instr.box 102 s0) (fun s1 h_1 => 
 Hp Tryz.prog false (pure (.func (.func 108) #[] #[s1])) (fun t3 h_2 => 
 R t3 h_2) h_1 ⟨⟩) h ⟨⟩

theorem n73_calls {s0 : Value} {R : Value → Heap → Prop} {h : Heap} (H : n73 s0 R h) : CallsH Tryz.prog 73 #[s0] h R ⟨⟩ :=
 callsH_of_eq Tryz.follow .l Tryz.func73 (by kernel_rfl) (by kernel_rfl) (by kernel_rfl) H

/-- palimpsest/store.right -/
def n74 (fates0 : Value) (R : Value → Heap → Prop) (h : Heap) : Prop :=
 CallsH Tryz.prog 109 #[fates0, (.func (.func 110) #[] #[])] h (fun t4 h_1 => 
 Hp Tryz.prog false (Op.unary .not t4) (fun t5 h_2 => 
 R t5 h_2) h_1 ⟨⟩) ⟨⟩

theorem n74_calls {fates0 : Value} {R : Value → Heap → Prop} {h : Heap} (H : n74 fates0 R h) : CallsH Tryz.prog 74 #[fates0] h R ⟨⟩ :=
 callsH_of_eq Tryz.follow .l Tryz.func74 (by kernel_rfl) (by kernel_rfl) (by kernel_rfl) H

/-- slices.Clone[[]palimpsest/api.Fate,palimpsest/api.Fate] -/
def n75 (s0 : Value) (R : Value → Heap → Prop) (h : Heap) : Prop :=
 Hp Tryz.prog false (binS .eql 48 (.tmp 3) (.const (.slice none 0 0)) s0 (.slice none 0 0)) (fun t4 h_1 => 
 CondP t4 (
 R (.slice none 0 0) h_1) (
 Hp Tryz.prog false (Instr.buildSlice 48 0 #[]) (fun t5 h_2 => 
 Hp Tryz.prog false (Builtin.append_ #[48, 48] 48 #[t5, s0]) (fun t7 h_3 => 
 R t7 h_3) h_2 ⟨⟩) h_1 ⟨⟩) ⟨⟩ ⟨⟩) h ⟨⟩

theorem n75_calls {s0 : Value} {R : Value → Heap → Prop} {h : Heap} (H : n75 s0 R h) : CallsH Tryz.prog 75 #[s0] h R ⟨⟩ :=
 callsH_of_eq Tryz.follow .l Tryz.func75 (by kernel_rfl) (by kernel_rfl) (by kernel_rfl) H

/-- (*palimpsest/store.Store).asked -/
def n76 (s0 name1 : Value) (R : Value → Heap → Prop) (h : Heap) : Prop :=
 CallsH Tryz.prog 79 #[s0] h (fun t7 h_1 => 
 CondP t7 (
 R (.int .i64 1) h_1) (
 Hp Tryz.prog false (Builtin.len_ #[9] 3 #[name1]) (fun t10 h_2 => 
 Hp Tryz.prog false (binS .lss 3 (.tmp 10) (.const (.int .i64 1)) t10 (.int .i64 1)) (fun t11 h_3 => 
 Join1 (fun k h_4 => guardP t11 false (k name1 h_4) (k undef h_4) ⟨⟩ ⟨⟩) (fun t13 h_5 => 
 Join1 (fun k_1 h_6 => guardP t11 false (Hp Tryz.prog false (Builtin.len_ #[9] 3 #[t13]) k_1 h_6 ⟨⟩) (k_1 undef h_6) ⟨⟩ ⟨⟩) (fun t14 h_7 => 
 Join1 (fun k_2 h_8 => guardP t11 false (Hp Tryz.prog false (binS .gtr 3 (.tmp 14) (.const (.int .i64 64)) t14 (.int .i64 64)) k_2 h_8 ⟨⟩) (k_2 undef h_8) ⟨⟩ ⟨⟩) (fun t15 h_9 => 
 Hp Tryz.prog false (pickS t11 (.bool true) t15) (fun t16 h_10 => 
 Join1 (fun k_3 h_11 => guardP t16 false (k_3 name1 h_11) (k_3 undef h_11) ⟨⟩ ⟨⟩) (fun t18 h_12 => 
 Join1 (fun k_4 h_13 => guardP t16 false (Hp Tryz.prog false (convert 9 33 t18) k_4 h_13 ⟨⟩) (k_4 undef h_13) ⟨⟩ ⟨⟩) (fun t19 h_14 => 
 Join1 (fun k_5 h_15 => guardP t16 false (CallsH Tryz.prog 111 #[t19, (.int .u8 0)] h_15 k_5 ⟨⟩) (k_5 undef h_15) ⟨⟩ ⟨⟩) (fun t20 h_16 => 
 Join1 (fun k_6 h_17 => guardP t16 false (Hp Tryz.prog false (binS .geq 3 (.tmp 20) (.const (.int .i64 0)) t20 (.int .i64 0)) k_6 h_17 ⟨⟩) (k_6 undef h_17) ⟨⟩ ⟨⟩) (fun t21 h_18 => 
 Hp Tryz.prog false (pickS t16 (.bool true) t21) (fun t22 h_19 => 
 CondP t22 (
 R (.int .i64 2) h_19) (
 R (.int .i64 0) h_19) ⟨⟩ ⟨⟩) h_18 ⟨⟩) h_16 ⟨⟩ ⟨⟩) h_14 ⟨⟩ ⟨⟩) h_12 ⟨⟩ ⟨⟩) h_10 ⟨⟩ ⟨⟩) h_9 ⟨⟩) h_7 ⟨⟩ ⟨⟩) h_5 ⟨⟩ ⟨⟩) h_3 ⟨⟩ ⟨⟩) h_2 ⟨⟩) h_1 ⟨⟩) ⟨⟩ ⟨⟩) ⟨⟩

theorem n76_calls {s0 name1 : Value} {R : Value → Heap → Prop} {h : Heap} (H : n76 s0 name1 R h) : CallsH Tryz.prog 76 #[s0, name1] h R ⟨⟩ :=
 callsH_of_eq Tryz.follow .l Tryz.func76 (by kernel_rfl) (by kernel_rfl) (by kernel_rfl) H

/-- (*palimpsest/store.Store).step -/
def n77 (s0 : Value) (R : Value → Heap → Prop) (h : Heap) : Prop :=
 Hp Tryz.prog false (nilS s0) (fun t7 h_1 => 
 Hp Tryz.prog false (Instr.fieldAt 156 t7 2) (fun t8 h_2 => 
 Hp Tryz.prog false (Instr.loadAt 3 t8) (fun t9 h_3 => 
 Hp Tryz.prog false (binS .add 3 (.tmp 9) (.const (.int .i64 1)) t9 (.int .i64 1)) (fun t10 h_4 => 
 Hp Tryz.prog false (nilS s0) (fun t11 h_5 => 
 Hp Tryz.prog false (Instr.fieldAt 156 t11 2) (fun t12 h_6 => 
 Hp Tryz.prog false (storeS 3 t12 t10) (fun _ h_7 => 
 Hp Tryz.prog false (nilS s0) (fun t14 h_8 => 
 Hp Tryz.prog false (Instr.fieldAt 156 t14 1) (fun t15 h_9 => 
 Hp Tryz.prog false (Instr.loadAt 48 t15) (fun t16 h_10 => 
 Hp Tryz.prog false (Builtin.len_ #[48] 3 #[t16]) (fun t17 h_11 => 
 Hp Tryz.prog false (binS .eql 3 (.tmp 17) (.const (.int .i64 0)) t17 (.int .i64 0)) (fun t18 h_12 => 
 CondP t18 (
 R (.tuple #[(.int .i64 0), (.int .i64 0)]) h_12) (
 Hp Tryz.prog false (nilS s0) (fun t20 h_13 => 
 Hp Tryz.prog false (Instr.fieldAt 156 t20 1) (fun t21 h_14 => 
 Hp Tryz.prog false (Instr.loadAt 48 t21) (fun t22 h_15 => 
 Hp Tryz.prog false (Instr.indexAt 48 t22 (.int .i64 0)) (fun t23 h_16 => 
 Hp Tryz.prog false (Instr.loadAt 118 t23) (fun t24 h_17 => 
 Hp Tryz.prog false (Instr.alloc 118 true undef) (fun f4 h_18 => 
 Hp Tryz.prog false (storeS 118 f4 t24) (fun _ h_19 => 
 Hp Tryz.prog false (nilS s0) (fun t27 h_20 => 
 Hp Tryz.prog false (Instr.fieldAt 156 t27 1) (fun t28 h_21 => 
 Hp Tryz.prog false (Instr.loadAt 48 t28) (fun t29 h_22 => 
 Hp Tryz.prog false (Instr.sliceAt 48 t29 (some (.int .i64 1)) none none) (fun t30 h_23 => 
 Hp Tryz.prog false (nilS s0) (fun t31 h_24 => 
 Hp Tryz.prog false (Instr.fieldAt 156 t31 1) (fun t32 h_25 => 
 Hp Tryz.prog false (storeS 48 t32 t30) (fun _ h_26 => 
 JoinN 1 (fun (k : Value → Heap → Prop) h_27 =>
 Hp Tryz.prog false (Instr.fieldAt 118 f4 0) (fun t33 h_28 => 
 Hp Tryz.prog false (Instr.loadAt 116 t33) (fun t34 h_29 => 
 JoinN 1 (fun (k_1 : Value → Heap → Prop) h_30 =>
 Hp Tryz.prog false (binS .eql 116 (.tmp 34) (.const (.int .i64 1)) t34 (.int .i64 1)) (fun t36 h_31 => 
 CondP t36 (
 k_1 (.int .i64 5) h_31) (
 Hp Tryz.prog false (binS .eql 116 (.tmp 34) (.const (.int .i64 2)) t34 (.int .i64 2)) (fun t38 h_32 => 
 CondP t38 (
 k_1 (.int .i64 6) h_32) (
 k_1 (.int .i64 0) h_32) ⟨⟩ ⟨⟩) h_31 ⟨⟩) ⟨⟩ ⟨⟩) h_30 ⟨⟩)
 (fun e5 h_33 =>
 k e5 h_33) h_29 ⟨⟩ ⟨⟩) h_28 ⟨⟩) h_27 ⟨⟩)
 (fun e5_1 h_34 =>
 Hp Tryz.prog true (Instr.fieldAt 118 f4 1) (fun t40 _ => 
 Hp Tryz.prog true (Instr.loadAt 3 t40) (fun t41 _ => 
 Hp Tryz.prog true (Builtin.max_ #[3, 3] 3 #[(.int .i64 0), t41]) (fun t42 _ => 
 R (.tuple #[e5_1, t42]) h_34) #[] ⟨⟩) h_34 ⟨⟩) #[] ⟨⟩) h_26 ⟨⟩ ⟨⟩) h_25 ⟨⟩) h_24 ⟨⟩) h_23 ⟨⟩) h_22 ⟨⟩) h_21 ⟨⟩) h_20 ⟨⟩) h_19 ⟨⟩) h_18 ⟨⟩) h_17 ⟨⟩) h_16 ⟨⟩) h_15 ⟨⟩) h_14 ⟨⟩) h_13 ⟨⟩) h_12 ⟨⟩) ⟨⟩ ⟨⟩) h_11 ⟨⟩) h_10 ⟨⟩) h_9 ⟨⟩) h_8 ⟨⟩) h_7 ⟨⟩) h_6 ⟨⟩) h_5 ⟨⟩) h_4 ⟨⟩) h_3 ⟨⟩) h_2 ⟨⟩) h_1 ⟨⟩) h ⟨⟩

theorem n77_calls {s0 : Value} {R : Value → Heap → Prop} {h : Heap} (H : n77 s0 R h) : CallsH Tryz.prog 77 #[s0] h R ⟨⟩ :=
 callsH_of_eq Tryz.follow (.n none .l (.n none .l (.n none .l (.n none .l (.n none .l (.n none .l (.n (some [6]) (.n none .l (.n (some [6]) .l .l)) .l))))))) Tryz.func77 (by kernel_rfl) (by kernel_rfl) (by kernel_rfl) H

/-- (*palimpsest/store.file).grow -/
def n78 (f0 size1 : Value) (R : Value → Heap → Prop) (h : Heap) : Prop :=
 Hp Tryz.prog false (nilS f0) (fun t7 h_1 => 
 Hp Tryz.prog false (Instr.fieldAt 115 t7 2) (fun t8 h_2 => 
 Hp Tryz.prog false (Instr.loadAt 33 t8) (fun t9 h_3 => 
 Hp Tryz.prog false (Builtin.len_ #[33] 3 #[t9]) (fun t10 h_4 => 
 Hp Tryz.prog false (binS .sub 2 (.tmp 5) (.tmp 10) size1 t10) (fun t11 h_5 => 
 Hp Tryz.prog false (binS .gtr 2 (.tmp 12) (.const (.int .i64 0)) t11 (.int .i64 0)) (fun t13 h_6 => 
 CondP t13 (
 Hp Tryz.prog false (nilS f0) (fun t16 h_7 => 
 Hp Tryz.prog false (Instr.fieldAt 115 t16 2) (fun t17 h_8 => 
 Hp Tryz.prog false (Instr.loadAt 33 t17) (fun t18 h_9 => 
 Hp Tryz.prog false (Builtin.append_ #[33, 2] 33 #[t18, t11]) (fun t20 h_10 => 
 Hp Tryz.prog false (nilS f0) (fun t21 h_11 => 
 Hp Tryz.prog false (Instr.fieldAt 115 t21 2) (fun t22 h_12 => 
 Hp Tryz.prog false (storeS 33 t22 t20) (fun _ h_13 => 
 Hp Tryz.prog false (nilS f0) (fun t25 h_14 => 
 Hp Tryz.prog false (Instr.fieldAt 115 t25 0) (fun t26 h_15 => 
 Hp Tryz.prog false (Instr.loadAt 33 t26) (fun t27 h_16 => 
 Hp Tryz.prog false (Builtin.append_ #[33, 2] 33 #[t27, t11]) (fun t29 h_17 => 
 Hp Tryz.prog false (nilS f0) (fun t30 h_18 => 
 Hp Tryz.prog false (Instr.fieldAt 115 t30 0) (fun t31 h_19 => 
 Hp Tryz.prog false (storeS 33 t31 t29) (fun _ h_20 => 
 R (.tuple #[]) h_20) h_19 ⟨⟩) h_18 ⟨⟩) h_17 ⟨⟩) h_16 ⟨⟩) h_15 ⟨⟩) h_14 ⟨⟩) h_13 ⟨⟩) h_12 ⟨⟩) h_11 ⟨⟩) h_10 ⟨⟩) h_9 ⟨⟩) h_8 ⟨⟩) h_7 ⟨⟩) h_6 ⟨⟩) (
 R (.tuple #[]) h_6) ⟨⟩ ⟨⟩) h_5 ⟨⟩) h_4 ⟨⟩) h_3 ⟨⟩) h_2 ⟨⟩) h_1 ⟨⟩) h ⟨⟩

theorem n78_calls {f0 size1 : Value} {R : Value → Heap → Prop} {h : Heap} (H : n78 f0 size1 R h) : CallsH Tryz.prog 78 #[f0, size1] h R ⟨⟩ :=
 callsH_of_eq Tryz.follow .l Tryz.func78 (by kernel_rfl) (by kernel_rfl) (by kernel_rfl) H

/-- (*palimpsest/store.Store).none -/
def n79 (s0 : Value) (R : Value → Heap → Prop) (h : Heap) : Prop :=
 Hp Tryz.prog false (binS .eql 26 (.tmp 3) (.const (.pointer none)) s0 (.pointer none)) (fun t4 h_1 => 
 Join1 (fun k h_2 => guardP t4 false (k s0 h_2) (k undef h_2) ⟨⟩ ⟨⟩) (fun t6 h_3 => 
 Join1 (fun k_1 h_4 => guardP t4 false (Hp Tryz.prog false (nilS t6) k_1 h_4 ⟨⟩) (k_1 undef h_4) ⟨⟩ ⟨⟩) (fun t7 h_5 => 
 Join1 (fun k_2 h_6 => guardP t4 false (Hp Tryz.prog false (Instr.fieldAt 156 t7 0) k_2 h_6 ⟨⟩) (k_2 undef h_6) ⟨⟩ ⟨⟩) (fun t8 h_7 => 
 Join1 (fun k_3 h_8 => guardP t4 false (Hp Tryz.prog false (Instr.loadAt 153 t8) k_3 h_8 ⟨⟩) (k_3 undef h_8) ⟨⟩ ⟨⟩) (fun t9 h_9 => 
 Join1 (fun k_4 h_10 => guardP t4 false (Hp Tryz.prog false (binS .eql 153 (.tmp 9) (.const (.map none)) t9 (.map none)) k_4 h_10 ⟨⟩) (k_4 undef h_10) ⟨⟩ ⟨⟩) (fun t10 h_11 => 
 Hp Tryz.prog false (pickS t4 (.bool true) t10) (fun t11 h_12 => 
 R t11 h_12) h_11 ⟨⟩) h_9 ⟨⟩ ⟨⟩) h_7 ⟨⟩ ⟨⟩) h_5 ⟨⟩ ⟨⟩) h_3 ⟨⟩ ⟨⟩) h_1 ⟨⟩ ⟨⟩) h ⟨⟩

theorem n79_calls {s0 : Value} {R : Value → Heap → Prop} {h : Heap} (H : n79 s0 R h) : CallsH Tryz.prog 79 #[s0] h R ⟨⟩ :=
 callsH_of_eq Tryz.follow .l Tryz.func79 (by kernel_rfl) (by kernel_rfl) (by kernel_rfl) H

/-- (*palimpsest/cache.Cache).free -/
def n80 (c0 : Value) (R : Value → Heap → Prop) (h : Heap) : Prop :=
 Hp Tryz.prog true (nilS c0) (fun t9 _ => 
 Hp Tryz.prog true (Instr.fieldAt 93 t9 4) (fun t10 _ => 
 Hp Tryz.prog true (Instr.loadAt 88 t10) (fun t11 _ => 
 Hp Tryz.prog true (Builtin.len_ #[88] 3 #[t11]) (fun t12 _ => 
 Hp Tryz.prog true (nilS c0) (fun t14 _ => 
 Hp Tryz.prog true (Instr.fieldAt 93 t14 3) (fun t15 _ => 
 Hp Tryz.prog true (Instr.loadAt 3 t15) (fun t16 _ => 
 Hp Tryz.prog true (binS .lss 3 (.tmp 12) (.tmp 16) t12 t16) (fun t17 _ => 
 CondP t17 (
 R (.int .i64 0) h) (
 Hp Tryz.prog false (Instr.alloc 188 true undef) (fun o3 h_1 => 
 Hp Tryz.prog false (nilS c0) (fun t19 h_2 => 
 Hp Tryz.prog false (Instr.fieldAt 93 t19 4) (fun t20 h_3 => 
 Hp Tryz.prog false (Instr.loadAt 88 t20) (fun t21 h_4 => 
 Hp Tryz.prog false (Instr.range 88 t21) (fun t22 h_5 => 
 LoopC 0 (fun (X : Heap → Prop) => fun h_6 =>
 Hp Tryz.prog false (Instr.next t22 false 0) (fun t23 h_7 => 
 Hp Tryz.prog false (Instr.extract t23 0) (fun t24 h_8 => 
 CondP t24 (
 Hp Tryz.prog false (Instr.entry t22) (fun t25 h_9 => 
 Hp Tryz.prog false (Instr.extract t25 1) (fun t26 h_10 => 
 Hp Tryz.prog false (Instr.loadAt 188 o3) (fun t27 h_11 => 
 Hp Tryz.prog false (Instr.buildSlice 188 1 #[(0, t26)]) (fun t29 h_12 => 
 Hp Tryz.prog false (Builtin.append_ #[188, 188] 188 #[t27, t29]) (fun t30 h_13 => 
 Hp Tryz.prog false (storeS 188 o3 t30) (fun _ h_14 => 
 X h_14) h_13 ⟨⟩) h_12 ⟨⟩) h_11 ⟨⟩) h_10 ⟨⟩) h_9 ⟨⟩) h_8 ⟨⟩) (
 Hp Tryz.prog false (Instr.makeInterface 190 o3) (fun t31 h_15 => 
 CallsH Tryz.prog 112 #[t31] h_15 (fun t32 h_16 => 
 Hp Tryz.prog false (Instr.makeInterface 190 o3) (fun t33 h_17 => 
 CallsH Tryz.prog 113 #[t33] h_17 (fun t34 h_18 => 
 Hp Tryz.prog false (Instr.typeAssert t34 20 94 false) (fun t35 h_19 => 
 Hp Tryz.prog false (nilS t35) (fun t38 h_20 => 
 Hp Tryz.prog false (Instr.fieldAt 99 t38 0) (fun t39 h_21 => 
 Hp Tryz.prog false (Instr.loadAt 2 t39) (fun t40 h_22 => 
 CallsH Tryz.prog 44 #[c0, t40] h_22 (fun t41 h_23 => 
 Hp Tryz.prog false (binS .neq 29 (.tmp 42) (.const (.int .i64 0)) t41 (.int .i64 0)) (fun t43 h_24 => 
 CondP t43 (
 R t41 h_24) (
 Hp Tryz.prog true (nilS c0) (fun t46 _ => 
 Hp Tryz.prog true (Instr.fieldAt 93 t46 4) (fun t47 _ => 
 Hp Tryz.prog true (Instr.loadAt 88 t47) (fun t48 _ => 
 Hp Tryz.prog true (nilS t35) (fun t50 _ => 
 Hp Tryz.prog true (Instr.fieldAt 99 t50 0) (fun t51 _ => 
 Hp Tryz.prog true (Instr.loadAt 2 t51) (fun t52 _ => 
 Hp Tryz.prog false (Builtin.delete_ #[88, 2] 0 #[t48, t52]) (fun _ h_25 => 
 R (.int .i64 0) h_25) h_24 ⟨⟩) h_24 ⟨⟩) #[] ⟨⟩) #[] ⟨⟩) h_24 ⟨⟩) #[] ⟨⟩) #[] ⟨⟩) ⟨⟩ ⟨⟩) h_23 ⟨⟩) ⟨⟩) h_21 ⟨⟩) h_20 ⟨⟩) h_19 ⟨⟩) h_18 ⟨⟩) ⟨⟩) h_16 ⟨⟩) ⟨⟩) h_8 ⟨⟩) ⟨⟩ ⟨⟩) h_7 ⟨⟩) h_6 ⟨⟩) [] h_5 ⟨⟩) h_4 ⟨⟩) h_3 ⟨⟩) h_2 ⟨⟩) h_1 ⟨⟩) h ⟨⟩) ⟨⟩ ⟨⟩) #[] ⟨⟩) h ⟨⟩) #[] ⟨⟩) #[] ⟨⟩) h ⟨⟩) h ⟨⟩) #[] ⟨⟩) #[] ⟨⟩

theorem n80_calls {c0 : Value} {R : Value → Heap → Prop} {h : Heap} (H : n80 c0 R h) : CallsH Tryz.prog 80 #[c0] h R ⟨⟩ :=
 callsH_of_eq Tryz.follow (.n none .l (.n none .l (.n none .l (.n none (.n none .l (.n none (.n (some []) .l .l) .l)) .l)))) Tryz.func80 (by kernel_rfl) (by kernel_rfl) (by kernel_rfl) H

/-- (*palimpsest/cache.Cache).reaches$1 -/
def n81 (n0 t1 t2 t3 t4 : Value) (R : Value → Heap → Prop) (h : Heap) : Prop :=
 Hp Tryz.prog false (Instr.loadAt 28 t1) (fun t9 h_1 => 
 CallsH Tryz.prog 82 #[t9, n0] h_1 (fun t11 h_2 => 
 Hp Tryz.prog false (Builtin.len_ #[102] 3 #[t11]) (fun t12 h_3 => 
 LoopC 1 (fun (X : Value → Heap → Prop) => fun t13 h_4 =>
 Hp Tryz.prog false (binS .lss 3 (.tmp 13) (.tmp 12) t13 t12) (fun t14 h_5 => 
 CondP t14 (
 JoinN 0 (fun (k : Heap → Prop) h_6 =>
 JoinN 0 (fun (k_1 : Heap → Prop) h_7 =>
 Hp Tryz.prog false (Instr.indexAt 102 t11 t13) (fun t15 h_8 => 
 Hp Tryz.prog false (Instr.loadAt 2 t15) (fun t16 h_9 => 
 Hp Tryz.prog false (Instr.loadAt 2 t2) (fun t19 h_10 => 
 Hp Tryz.prog false (binS .eql 2 (.tmp 18) (.tmp 19) t16 t19) (fun t20 h_11 => 
 CondP t20 (
 R (.bool true) h_11) (
 Hp Tryz.prog false (Instr.loadAt 90 t3) (fun t22 h_12 => 
 Hp Tryz.prog false (Instr.lookup 90 t22 t16 false) (fun t24 h_13 => 
 CondP t24 (
 k_1 h_13) (
 Hp Tryz.prog false (Instr.loadAt 90 t3) (fun t25 h_14 => 
 Hp Tryz.prog false (unitS (Instr.mapUpdate 90 t25 t16 (.bool true))) (fun _ h_15 => 
 Hp Tryz.prog false (Instr.loadAt 101 t4) (fun t27 h_16 => 
 InvokeH Tryz.prog t27 #[t16] h_16 (fun t29 h_17 => 
 CondP t29 (
 R (.bool true) h_17) (
 k_1 h_17) ⟨⟩ ⟨⟩) ⟨⟩) h_15 ⟨⟩) h_14 ⟨⟩) h_13 ⟨⟩) ⟨⟩ ⟨⟩) h_12 ⟨⟩) h_11 ⟨⟩) ⟨⟩ ⟨⟩) h_10 ⟨⟩) h_9 ⟨⟩) h_8 ⟨⟩) h_7 ⟨⟩)
 (fun h_18 =>
 k h_18) h_6 ⟨⟩ ⟨⟩)
 (fun h_19 =>
 Hp Tryz.prog false (binS .add 3 (.tmp 13) (.const (.int .i64 1)) t13 (.int .i64 1)) (fun t30 h_20 => 
 X t30 h_20) h_19 ⟨⟩) h_5 ⟨⟩ ⟨⟩) (
 R (.bool false) h_5) ⟨⟩ ⟨⟩) h_4 ⟨⟩) [(.int .i64 0)] h_3 ⟨⟩) h_2 ⟨⟩) ⟨⟩) h ⟨⟩

theorem n81_calls {n0 t1 t2 t3 t4 : Value} {R : Value → Heap → Prop} {h : Heap} (H : n81 n0 t1 t2 t3 t4 R h) : CallsH Tryz.prog 81 #[n0, t1, t2, t3, t4] h R ⟨⟩ :=
 callsH_of_eq Tryz.follow (.n none .l (.n none (.n none .l (.n none (.n none .l (.n none (.n (some [14]) (.n none .l (.n none .l (.n (some []) (.n (some []) .l .l) .l))) .l) .l)) .l)) .l)) Tryz.func81 (by kernel_rfl) (by kernel_rfl) (by kernel_rfl) H

/-- (*palimpsest/cache.Cache).behind -/
def n82 (c0 n1 : Value) (R : Value → Heap → Prop) (h : Heap) : Prop :=
 Hp Tryz.prog false (nilS c0) (fun t8 h_1 => 
 Hp Tryz.prog false (Instr.fieldAt 93 t8 6) (fun t9 h_2 => 
 Hp Tryz.prog false (Instr.loadAt 91 t9) (fun t10 h_3 => 
 Hp Tryz.prog false (Instr.lookup 91 t10 n1 false) (fun t12 h_4 => 
 Hp Tryz.prog false (Instr.range 90 t12) (fun t13 h_5 => 
 LoopC 1 (fun (X : Value → Heap → Prop) => fun l5 h_6 =>
 Hp Tryz.prog false (Instr.next t13 false 0) (fun t14 h_7 => 
 Hp Tryz.prog false (Instr.extract t14 0) (fun t15 h_8 => 
 CondP t15 (
 JoinN 1 (fun (k : Value → Heap → Prop) h_9 =>
 Hp Tryz.prog false (Instr.entry t13) (fun t16 h_10 => 
 Hp Tryz.prog false (Instr.extract t16 0) (fun t17 h_11 => 
 CallsH Tryz.prog 43 #[c0, t17] h_11 (fun t20 h_12 => 
 CondP t20 (
 Hp Tryz.prog false (Instr.buildSlice 102 1 #[(0, t17)]) (fun t23 h_13 => 
 Hp Tryz.prog false (Builtin.append_ #[102, 102] 102 #[l5, t23]) (fun t24 h_14 => 
 k t24 h_14) h_13 ⟨⟩) h_12 ⟨⟩) (
 k l5 h_12) ⟨⟩ ⟨⟩) ⟨⟩) h_10 ⟨⟩) h_9 ⟨⟩)
 (fun l5_1 h_15 =>
 X l5_1 h_15) h_8 ⟨⟩ ⟨⟩) (
 CallsH Tryz.prog 85 #[l5] h_8 (fun t26 h_16 => 
 R l5 h_16) ⟨⟩) ⟨⟩ ⟨⟩) h_7 ⟨⟩) h_6 ⟨⟩) [(.slice none 0 0)] h_5 ⟨⟩) h_4 ⟨⟩) h_3 ⟨⟩) h_2 ⟨⟩) h_1 ⟨⟩) h ⟨⟩

theorem n82_calls {c0 n1 : Value} {R : Value → Heap → Prop} {h : Heap} (H : n82 c0 n1 R h) : CallsH Tryz.prog 82 #[c0, n1] h R ⟨⟩ :=
 callsH_of_eq Tryz.follow (.n none .l (.n none .l (.n none (.n none .l (.n none (.n (some [6]) (.n none .l (.n none .l (.n (some [6]) .l .l))) .l) .l)) .l))) Tryz.func82 (by kernel_rfl) (by kernel_rfl) (by kernel_rfl) H

/-- (*palimpsest/store.Store).Write -/
def n83 (s0 name1 at2 b3 : Value) (R : Value → Heap → Prop) (h : Heap) : Prop :=
 CallsH Tryz.prog 50 #[s0, name1] h (fun t16 h_1 => 
 Hp Tryz.prog false (Instr.extract t16 0) (fun t17 h_2 => 
 Hp Tryz.prog false (Instr.extract t16 1) (fun t18 h_3 => 
 Hp Tryz.prog false (binS .neq 29 (.tmp 20) (.const (.int .i64 0)) t18 (.int .i64 0)) (fun t21 h_4 => 
 CondP t21 (
 R t18 h_4) (
 Hp Tryz.prog false (binS .lss 2 (.tmp 24) (.const (.int .i64 0)) at2 (.int .i64 0)) (fun t25 h_5 => 
 CondP t25 (
 R (.int .i64 4) h_5) (
 Hp Tryz.prog false (Builtin.len_ #[33] 3 #[b3]) (fun t28 h_6 => 
 Hp Tryz.prog false (binS .gtr 3 (.tmp 28) (.const (.int .i64 0)) t28 (.int .i64 0)) (fun t29 h_7 => 
 Join1 (fun k h_8 => guardP t29 true (k at2 h_8) (k undef h_8) ⟨⟩ ⟨⟩) (fun t31 h_9 => 
 Join1 (fun k_1 h_10 => guardP t29 true (Hp Tryz.prog false (binS .gtr 2 (.tmp 31) (.const (.int .i64 268435456)) t31 (.int .i64 268435456)) k_1 h_10 ⟨⟩) (k_1 undef h_10) ⟨⟩ ⟨⟩) (fun t32 h_11 => 
 Join1 (fun k_2 h_12 => guardP t29 true (k_2 t32 h_12) (k_2 undef h_12) ⟨⟩ ⟨⟩) (fun t33 h_13 => 
 Join1 (fun k_3 h_14 => guardP t33 false (k_3 b3 h_14) (k_3 undef h_14) ⟨⟩ ⟨⟩) (fun t34 h_15 => 
 Join1 (fun k_4 h_16 => guardP t33 false (Hp Tryz.prog false (Builtin.len_ #[33] 3 #[t34]) k_4 h_16 ⟨⟩) (k_4 undef h_16) ⟨⟩ ⟨⟩) (fun t35 h_17 => 
 Join1 (fun k_5 h_18 => guardP t33 false (k_5 at2 h_18) (k_5 undef h_18) ⟨⟩ ⟨⟩) (fun t36 h_19 => 
 Join1 (fun k_6 h_20 => guardP t33 false (Hp Tryz.prog false (binS .sub 2 (.const (.int .i64 268435456)) (.tmp 36) (.int .i64 268435456) t36) k_6 h_20 ⟨⟩) (k_6 undef h_20) ⟨⟩ ⟨⟩) (fun t37 h_21 => 
 Join1 (fun k_7 h_22 => guardP t33 false (Hp Tryz.prog false (binS .gtr 2 (.tmp 35) (.tmp 37) t35 t37) k_7 h_22 ⟨⟩) (k_7 undef h_22) ⟨⟩ ⟨⟩) (fun t38 h_23 => 
 Join1 (fun k_8 h_24 => guardP t29 true (Hp Tryz.prog false (pickS t33 (.bool true) t38) k_8 h_24 ⟨⟩) (k_8 undef h_24) ⟨⟩ ⟨⟩) (fun t39 h_25 => 
 Hp Tryz.prog false (pickS t29 t39 (.bool false)) (fun t40 h_26 => 
 CondP t40 (
 R (.int .i64 6) h_26) (
 CallsH Tryz.prog 77 #[s0] h_26 (fun t43 h_27 => 
 Hp Tryz.prog false (Instr.extract t43 0) (fun t44 h_28 => 
 Hp Tryz.prog false (Instr.extract t43 1) (fun t45 h_29 => 
 LoopC 3 (fun (X : Value → Value → Value → Heap → Prop) => fun at2_1 b3_1 keep11 h_30 =>
 Hp Tryz.prog false (Builtin.len_ #[33] 3 #[b3_1]) (fun t47 h_31 => 
 Hp Tryz.prog false (binS .gtr 3 (.tmp 47) (.const (.int .i64 0)) t47 (.int .i64 0)) (fun t48 h_32 => 
 Join1 (fun k_9 h_33 => guardP t48 true (k_9 t44 h_33) (k_9 undef h_33) ⟨⟩ ⟨⟩) (fun t50 h_34 => 
 Join1 (fun k_10 h_35 => guardP t48 true (Hp Tryz.prog false (binS .eql 29 (.tmp 50) (.const (.int .i64 0)) t50 (.int .i64 0)) k_10 h_35 ⟨⟩) (k_10 undef h_35) ⟨⟩ ⟨⟩) (fun t51 h_36 => 
 Join1 (fun k_11 h_37 => guardP t48 true (k_11 t51 h_37) (k_11 undef h_37) ⟨⟩ ⟨⟩) (fun t52 h_38 => 
 Join1 (fun k_12 h_39 => guardP t52 false (k_12 keep11 h_39) (k_12 undef h_39) ⟨⟩ ⟨⟩) (fun t53 h_40 => 
 Join1 (fun k_13 h_41 => guardP t52 false (Hp Tryz.prog false (binS .gtr 3 (.tmp 53) (.const (.int .i64 0)) t53 (.int .i64 0)) k_13 h_41 ⟨⟩) (k_13 undef h_41) ⟨⟩ ⟨⟩) (fun t54 h_42 => 
 Join1 (fun k_14 h_43 => guardP t48 true (Hp Tryz.prog false (pickS t52 (.bool true) t54) k_14 h_43 ⟨⟩) (k_14 undef h_43) ⟨⟩ ⟨⟩) (fun t55 h_44 => 
 Hp Tryz.prog false (pickS t48 t55 (.bool false)) (fun t56 h_45 => 
 CondP t56 (
 Hp Tryz.prog false (Builtin.len_ #[33] 3 #[b3_1]) (fun t58 h_46 => 
 Hp Tryz.prog false (binS .rem 2 (.tmp 59) (.const (.int .i64 512)) at2_1 (.int .i64 512)) (fun t60 h_47 => 
 Hp Tryz.prog false (binS .sub 2 (.const (.int .i64 512)) (.tmp 60) (.int .i64 512) t60) (fun t61 h_48 => 
 Hp Tryz.prog false (Builtin.min_ #[3, 3] 3 #[t58, t61]) (fun t62 h_49 => 
 Hp Tryz.prog false (binS .add 2 (.tmp 64) (.tmp 65) at2_1 t62) (fun t66 h_50 => 
 CallsH Tryz.prog 78 #[t17, t66] h_50 (fun t67 h_51 => 
 Hp Tryz.prog true (nilS t17) (fun t70 _ => 
 Hp Tryz.prog true (Instr.fieldAt 115 t70 1) (fun t71 _ => 
 Hp Tryz.prog true (Instr.loadAt 113 t71) (fun t72 _ => 
 Hp Tryz.prog true (Instr.sliceAt 33 b3_1 none (some t62) none) (fun t76 _ => 
 CallsH Tryz.prog 51 #[t76] h_51 (fun t77 h_52 => Hp Tryz.prog true (Instr.loadAt 113 t71) (fun u _ => u = t72) h_52 ⟨⟩ ∧ 
 Hp Tryz.prog true (Instr.build 162 #[(0, at2_1), (1, t77)]) (fun t78 _ => 
 Hp Tryz.prog false (Instr.buildSlice 113 1 #[(0, t78)]) (fun t79 h_53 => Hp Tryz.prog true (Instr.loadAt 113 t71) (fun u _ => u = t72) h_53 ⟨⟩ ∧ 
 Hp Tryz.prog false (Builtin.append_ #[113, 113] 113 #[t72, t79]) (fun t80 h_54 => 
 Hp Tryz.prog true (nilS t17) (fun t81 _ => 
 Hp Tryz.prog true (Instr.fieldAt 115 t81 1) (fun t82 _ => 
 Hp Tryz.prog false (storeS 113 t82 t80) (fun _ h_55 => 
 Hp Tryz.prog true (nilS t17) (fun t84 _ => 
 Hp Tryz.prog true (Instr.fieldAt 115 t84 2) (fun t85 _ => 
 Hp Tryz.prog true (Instr.loadAt 33 t85) (fun t86 _ => 
 Hp Tryz.prog true (Instr.sliceAt 33 t86 (some at2_1) none none) (fun t88 _ => 
 Hp Tryz.prog true (Instr.sliceAt 33 b3_1 none (some t62) none) (fun t91 _ => 
 Hp Tryz.prog false (Builtin.copy_ #[33, 33] 3 #[t88, t91]) (fun t92 h_56 => 
 Hp Tryz.prog false (Instr.sliceAt 33 b3_1 (some t62) none none) (fun t95 h_57 => 
 Hp Tryz.prog false (binS .add 2 (.tmp 96) (.tmp 97) at2_1 t62) (fun t98 h_58 => 
 Hp Tryz.prog false (binS .sub 3 (.tmp 99) (.const (.int .i64 1)) keep11 (.int .i64 1)) (fun t100 h_59 => 
 X t98 t95 t100 h_59) h_58 ⟨⟩) h_57 ⟨⟩) h_56 ⟨⟩) h_55 ⟨⟩) #[] ⟨⟩) #[] ⟨⟩) h_55 ⟨⟩) #[] ⟨⟩) #[] ⟨⟩) h_54 ⟨⟩) #[] ⟨⟩) #[] ⟨⟩) h_53 ⟨⟩) h_52 ⟨⟩) #[] ⟨⟩) ⟨⟩) #[] ⟨⟩) h_51 ⟨⟩) #[] ⟨⟩) #[] ⟨⟩) ⟨⟩) h_49 ⟨⟩) h_48 ⟨⟩) h_47 ⟨⟩) h_46 ⟨⟩) h_45 ⟨⟩) (
 R t44 h_45) ⟨⟩ ⟨⟩) h_44 ⟨⟩) h_42 ⟨⟩ ⟨⟩) h_40 ⟨⟩ ⟨⟩) h_38 ⟨⟩ ⟨⟩) h_36 ⟨⟩ ⟨⟩) h_34 ⟨⟩ ⟨⟩) h_32 ⟨⟩ ⟨⟩) h_31 ⟨⟩) h_30 ⟨⟩) [at2, b3, t45] h_29 ⟨⟩) h_28 ⟨⟩) h_27 ⟨⟩) ⟨⟩) ⟨⟩ ⟨⟩) h_25 ⟨⟩) h_23 ⟨⟩ ⟨⟩) h_21 ⟨⟩ ⟨⟩) h_19 ⟨⟩ ⟨⟩) h_17 ⟨⟩ ⟨⟩) h_15 ⟨⟩ ⟨⟩) h_13 ⟨⟩ ⟨⟩) h_11 ⟨⟩ ⟨⟩) h_9 ⟨⟩ ⟨⟩) h_7 ⟨⟩ ⟨⟩) h_6 ⟨⟩) h_5 ⟨⟩) ⟨⟩ ⟨⟩) h_4 ⟨⟩) ⟨⟩ ⟨⟩) h_3 ⟨⟩) h_2 ⟨⟩) h_1 ⟨⟩) ⟨⟩

theorem n83_calls {s0 name1 at2 b3 : Value} {R : Value → Heap → Prop} {h : Heap} (H : n83 s0 name1 at2 b3 R h) : CallsH Tryz.prog 83 #[s0, name1, at2, b3] h R ⟨⟩ :=
 callsH_of_eq Tryz.follow (.n none .l (.n none .l (.n none .l (.n none .l (.n none (.n none (.n (some [3, 4, 12]) .l .l) .l) .l))))) Tryz.func83 (by kernel_rfl) (by kernel_rfl) (by kernel_rfl) H

/-- slices.Collect[int64] -/
def n84 (seq0 : Value) (R : Value → Heap → Prop) (h : Heap) : Prop :=
 CallsH Tryz.prog 114 #[(.slice none 0 0), seq0] h (fun t4 h_1 => 
 R t4 h_1) ⟨⟩

theorem n84_calls {seq0 : Value} {R : Value → Heap → Prop} {h : Heap} (H : n84 seq0 R h) : CallsH Tryz.prog 84 #[seq0] h R ⟨⟩ :=
 callsH_of_eq Tryz.follow .l Tryz.func84 (by kernel_rfl) (by kernel_rfl) (by kernel_rfl) H

/-- slices.Sort[[]int64,int64] -/
def n85 (x0 : Value) (R : Value → Heap → Prop) (h : Heap) : Prop :=
 Hp Tryz.prog false (Builtin.len_ #[102] 3 #[x0]) (fun t4 h_1 => 
 Hp Tryz.prog false (convert 3 195 t4) (fun t8 h_2 => 
 CallsH Tryz.prog 116 #[t8] h_2 (fun t9 h_3 => 
 CallsH Tryz.prog 115 #[x0, (.int .i64 0), t4, t9] h_3 (fun t10 h_4 => 
 R (.tuple #[]) h_4) ⟨⟩) ⟨⟩) h_1 ⟨⟩) h ⟨⟩

theorem n85_calls {x0 : Value} {R : Value → Heap → Prop} {h : Heap} (H : n85 x0 R h) : CallsH Tryz.prog 85 #[x0] h R ⟨⟩ :=
 callsH_of_eq Tryz.follow .l Tryz.func85 (by kernel_rfl) (by kernel_rfl) (by kernel_rfl) H

/-- maps.Keys[map[int64]*palimpsest/cache.page,int64,*palimpsest/cache.page]$1 -/
def n86 (yield0 t1 : Value) (R : Value → Heap → Prop) (h : Heap) : Prop :=
 Hp Tryz.prog false (Instr.loadAt 88 t1) (fun t4 h_1 => 
 Hp Tryz.prog false (Instr.range 88 t4) (fun t5 h_2 => 
 LoopC 0 (fun (X : Heap → Prop) => fun h_3 =>
 Hp Tryz.prog false (Instr.next t5 false 0) (fun t6 h_4 => 
 Hp Tryz.prog false (Instr.extract t6 0) (fun t7 h_5 => 
 CondP t7 (
 Hp Tryz.prog false (Instr.entry t5) (fun t8 h_6 => 
 Hp Tryz.prog false (Instr.extract t8 0) (fun t9 h_7 => 
 InvokeH Tryz.prog yield0 #[t9] h_7 (fun t12 h_8 => 
 Hp Tryz.prog false (Op.unary .not t12) (fun t13 h_9 => 
 CondP t13 (
 R (.tuple #[]) h_9) (
 X h_9) ⟨⟩ ⟨⟩) h_8 ⟨⟩) ⟨⟩) h_6 ⟨⟩) h_5 ⟨⟩) (
 R (.tuple #[]) h_5) ⟨⟩ ⟨⟩) h_4 ⟨⟩) h_3 ⟨⟩) [] h_2 ⟨⟩) h_1 ⟨⟩) h ⟨⟩

theorem n86_calls {yield0 t1 : Value} {R : Value → Heap → Prop} {h : Heap} (H : n86 yield0 t1 R h) : CallsH Tryz.prog 86 #[yield0, t1] h R ⟨⟩ :=
 callsH_of_eq Tryz.follow (.n none .l (.n none (.n (some []) .l .l) .l)) Tryz.func86 (by kernel_rfl) (by kernel_rfl) (by kernel_rfl) H

/-- (*palimpsest/store.Store).Flush -/
def n87 (s0 name1 : Value) (R : Value → Heap → Prop) (h : Heap) : Prop :=
 CallsH Tryz.prog 50 #[s0, name1] h (fun t14 h_1 => 
 Hp Tryz.prog false (Instr.extract t14 0) (fun t15 h_2 => 
 Hp Tryz.prog false (Instr.extract t14 1) (fun t16 h_3 => 
 Hp Tryz.prog false (binS .neq 29 (.tmp 17) (.const (.int .i64 0)) t16 (.int .i64 0)) (fun t18 h_4 => 
 CondP t18 (
 R t16 h_4) (
 CallsH Tryz.prog 77 #[s0] h_4 (fun t22 h_5 => 
 Hp Tryz.prog false (Instr.extract t22 0) (fun t23 h_6 => 
 Hp Tryz.prog false (Instr.extract t22 1) (fun t24 h_7 => 
 Hp Tryz.prog false (nilS t15) (fun t26 h_8 => 
 Hp Tryz.prog false (Instr.fieldAt 115 t26 1) (fun t27 h_9 => 
 Hp Tryz.prog false (Instr.loadAt 113 t27) (fun t28 h_10 => 
 Hp Tryz.prog false (Builtin.len_ #[113] 3 #[t28]) (fun t29 h_11 => 
 JoinN 1 (fun (k : Value → Heap → Prop) h_12 =>
 Hp Tryz.prog false (binS .neq 29 (.tmp 30) (.const (.int .i64 0)) t23 (.int .i64 0)) (fun t31 h_13 => 
 CondP t31 (
 Hp Tryz.prog false (Builtin.min_ #[3, 3] 3 #[t29, t24]) (fun t34 h_14 => 
 k t34 h_14) h_13 ⟨⟩) (
 k t29 h_13) ⟨⟩ ⟨⟩) h_12 ⟨⟩)
 (fun n8 h_15 =>
 Hp Tryz.prog false (nilS t15) (fun t36 h_16 => 
 Hp Tryz.prog false (Instr.fieldAt 115 t36 1) (fun t37 h_17 => 
 Hp Tryz.prog false (Instr.loadAt 113 t37) (fun t38 h_18 => 
 Hp Tryz.prog false (Instr.sliceAt 113 t38 none (some n8) none) (fun t40 h_19 => 
 Hp Tryz.prog false (Builtin.len_ #[113] 3 #[t40]) (fun t41 h_20 => 
 LoopC 1 (fun (X : Value → Heap → Prop) => fun t42 h_21 =>
 Hp Tryz.prog false (binS .lss 3 (.tmp 42) (.tmp 41) t42 t41) (fun t43 h_22 => 
 CondP t43 (
 Hp Tryz.prog false (Instr.indexAt 113 t40 t42) (fun t44 h_23 => 
 Hp Tryz.prog false (Instr.loadAt 162 t44) (fun t45 h_24 => 
 Hp Tryz.prog false (Instr.alloc 162 true undef) (fun p10 h_25 => 
 Hp Tryz.prog false (storeS 162 p10 t45) (fun _ h_26 => 
 Hp Tryz.prog true (nilS t15) (fun t47 _ => 
 Hp Tryz.prog true (Instr.fieldAt 115 t47 0) (fun t48 _ => 
 Hp Tryz.prog true (Instr.loadAt 33 t48) (fun t49 _ => 
 Hp Tryz.prog true (Instr.fieldAt 162 p10 0) (fun t50 _ => 
 Hp Tryz.prog true (Instr.loadAt 2 t50) (fun t51 _ => 
 Hp Tryz.prog true (Instr.sliceAt 33 t49 (some t51) none none) (fun t52 _ => 
 Hp Tryz.prog true (Instr.fieldAt 162 p10 1) (fun t53 _ => 
 Hp Tryz.prog true (Instr.loadAt 33 t53) (fun t54 _ => 
 Hp Tryz.prog false (Builtin.copy_ #[33, 33] 3 #[t52, t54]) (fun t55 h_27 => 
 Hp Tryz.prog false (binS .add 3 (.tmp 42) (.const (.int .i64 1)) t42 (.int .i64 1)) (fun t56 h_28 => 
 X t56 h_28) h_27 ⟨⟩) h_26 ⟨⟩) h_26 ⟨⟩) #[] ⟨⟩) #[] ⟨⟩) h_26 ⟨⟩) #[] ⟨⟩) h_26 ⟨⟩) #[] ⟨⟩) #[] ⟨⟩) h_25 ⟨⟩) h_24 ⟨⟩) h_23 ⟨⟩) h_22 ⟨⟩) (
 Hp Tryz.prog false (nilS t15) (fun t59 h_29 => 
 Hp Tryz.prog false (Instr.fieldAt 115 t59 1) (fun t60 h_30 => 
 Hp Tryz.prog false (Instr.loadAt 113 t60) (fun t61 h_31 => 
 Hp Tryz.prog false (Instr.sliceAt 113 t61 (some n8) none none) (fun t63 h_32 => 
 CallsH Tryz.prog 117 #[t63] h_32 (fun t64 h_33 => 
 Hp Tryz.prog false (nilS t15) (fun t65 h_34 => 
 Hp Tryz.prog false (Instr.fieldAt 115 t65 1) (fun t66 h_35 => 
 Hp Tryz.prog false (storeS 113 t66 t64) (fun _ h_36 => 
 R t23 h_36) h_35 ⟨⟩) h_34 ⟨⟩) h_33 ⟨⟩) ⟨⟩) h_31 ⟨⟩) h_30 ⟨⟩) h_29 ⟨⟩) h_22 ⟨⟩) ⟨⟩ ⟨⟩) h_21 ⟨⟩) [(.int .i64 0)] h_20 ⟨⟩) h_19 ⟨⟩) h_18 ⟨⟩) h_17 ⟨⟩) h_16 ⟨⟩) h_15 ⟨⟩) h_11 ⟨⟩ ⟨⟩) h_10 ⟨⟩) h_9 ⟨⟩) h_8 ⟨⟩) h_7 ⟨⟩) h_6 ⟨⟩) h_5 ⟨⟩) ⟨⟩) ⟨⟩ ⟨⟩) h_3 ⟨⟩) h_2 ⟨⟩) h_1 ⟨⟩) ⟨⟩

theorem n87_calls {s0 name1 : Value} {R : Value → Heap → Prop} {h : Heap} (H : n87 s0 name1 R h) : CallsH Tryz.prog 87 #[s0, name1] h R ⟨⟩ :=
 callsH_of_eq Tryz.follow (.n none .l (.n none .l (.n none .l (.n none .l (.n none .l (.n (some [9]) .l (.n none (.n none .l (.n none (.n (some [43]) .l .l) .l)) .l))))))) Tryz.func87 (by kernel_rfl) (by kernel_rfl) (by kernel_rfl) H

/-- slices.Sorted[string] -/
def n88 (seq0 : Value) (R : Value → Heap → Prop) (h : Heap) : Prop :=
 CallsH Tryz.prog 118 #[seq0] h (fun t5 h_1 => 
 CallsH Tryz.prog 119 #[t5] h_1 (fun t7 h_2 => 
 R t5 h_2) ⟨⟩) ⟨⟩

theorem n88_calls {seq0 : Value} {R : Value → Heap → Prop} {h : Heap} (H : n88 seq0 R h) : CallsH Tryz.prog 88 #[seq0] h R ⟨⟩ :=
 callsH_of_eq Tryz.follow .l Tryz.func88 (by kernel_rfl) (by kernel_rfl) (by kernel_rfl) H

/-- maps.Keys[map[string]*palimpsest/store.file,string,*palimpsest/store.file] -/
def n89 (m0 : Value) (R : Value → Heap → Prop) (h : Heap) : Prop :=
 Hp Tryz.prog false (Instr.box 153 m0) (fun m1 h_1 => 
 Hp Tryz.prog false (pure (.func (.func 120) #[] #[m1])) (fun t3 h_2 => 
 R t3 h_2) h_1 ⟨⟩) h ⟨⟩

theorem n89_calls {m0 : Value} {R : Value → Heap → Prop} {h : Heap} (H : n89 m0 R h) : CallsH Tryz.prog 89 #[m0] h R ⟨⟩ :=
 callsH_of_eq Tryz.follow .l Tryz.func89 (by kernel_rfl) (by kernel_rfl) (by kernel_rfl) H

/-- slices.ContainsFunc[[]int,int] -/
def n91 (s0 f1 : Value) (R : Value → Heap → Prop) (h : Heap) : Prop :=
 CallsH Tryz.prog 122 #[s0, f1] h (fun t7 h_1 => 
 Hp Tryz.prog false (binS .geq 3 (.tmp 7) (.const (.int .i64 0)) t7 (.int .i64 0)) (fun t8 h_2 => 
 R t8 h_2) h_1 ⟨⟩) ⟨⟩

theorem n91_calls {s0 f1 : Value} {R : Value → Heap → Prop} {h : Heap} (H : n91 s0 f1 R h) : CallsH Tryz.prog 91 #[s0, f1] h R ⟨⟩ :=
 callsH_of_eq Tryz.follow .l Tryz.func91 (by kernel_rfl) (by kernel_rfl) (by kernel_rfl) H

/-- (*palimpsest/store.Store).Crash$1 -/
def n92 (p0 : Value) (R : Value → Heap → Prop) (h : Heap) : Prop :=
 Hp Tryz.prog false (binS .lss 3 (.tmp 3) (.const (.int .i64 0)) p0 (.int .i64 0)) (fun t4 h_1 => 
 R t4 h_1) h ⟨⟩

theorem n92_calls {p0 : Value} {R : Value → Heap → Prop} {h : Heap} (H : n92 p0 R h) : CallsH Tryz.prog 92 #[p0] h R ⟨⟩ :=
 callsH_of_eq Tryz.follow .l Tryz.func92 (by kernel_rfl) (by kernel_rfl) (by kernel_rfl) H

/-- (*palimpsest/store.Store).Crash$2 -/
def n93 (t0 : Value) (R : Value → Heap → Prop) (h : Heap) : Prop :=
 Hp Tryz.prog false (Instr.loadAt 49 t0) (fun t3 h_1 => 
 Hp Tryz.prog false (Builtin.len_ #[49] 3 #[t3]) (fun t4 h_2 => 
 Hp Tryz.prog false (binS .eql 3 (.tmp 4) (.const (.int .i64 0)) t4 (.int .i64 0)) (fun t5 h_3 => 
 CondP t5 (
 R (.bool false) h_3) (
 Hp Tryz.prog false (Instr.loadAt 49 t0) (fun t6 h_4 => 
 Hp Tryz.prog false (Instr.indexAt 49 t6 (.int .i64 0)) (fun t7 h_5 => 
 Hp Tryz.prog false (Instr.loadAt 3 t7) (fun t8 h_6 => 
 Hp Tryz.prog false (Instr.loadAt 49 t0) (fun t9 h_7 => 
 Hp Tryz.prog false (Instr.sliceAt 49 t9 (some (.int .i64 1)) none none) (fun t10 h_8 => 
 Hp Tryz.prog false (storeS 49 t0 t10) (fun _ h_9 => 
 Hp Tryz.prog false (binS .rem 3 (.tmp 11) (.const (.int .i64 2)) t8 (.int .i64 2)) (fun t12 h_10 => 
 Hp Tryz.prog false (binS .eql 3 (.tmp 12) (.const (.int .i64 1)) t12 (.int .i64 1)) (fun t13 h_11 => 
 R t13 h_11) h_10 ⟨⟩) h_9 ⟨⟩) h_8 ⟨⟩) h_7 ⟨⟩) h_6 ⟨⟩) h_5 ⟨⟩) h_4 ⟨⟩) h_3 ⟨⟩) ⟨⟩ ⟨⟩) h_2 ⟨⟩) h_1 ⟨⟩) h ⟨⟩

theorem n93_calls {t0 : Value} {R : Value → Heap → Prop} {h : Heap} (H : n93 t0 R h) : CallsH Tryz.prog 93 #[t0] h R ⟨⟩ :=
 callsH_of_eq Tryz.follow .l Tryz.func93 (by kernel_rfl) (by kernel_rfl) (by kernel_rfl) H

/-- maps.DeleteFunc[palimpsest/cache.set,int64,bool] -/
def n94 (m0 del1 : Value) (R : Value → Heap → Prop) (h : Heap) : Prop :=
 Hp Tryz.prog false (Instr.range 90 m0) (fun t7 h_1 => 
 LoopC 0 (fun (X : Heap → Prop) => fun h_2 =>
 Hp Tryz.prog false (Instr.next t7 false 0) (fun t8 h_3 => 
 Hp Tryz.prog false (Instr.extract t8 0) (fun t9 h_4 => 
 CondP t9 (
 JoinN 0 (fun (k : Heap → Prop) h_5 =>
 Hp Tryz.prog false (Instr.entry t7) (fun t10 h_6 => 
 Hp Tryz.prog false (Instr.extract t10 0) (fun t11 h_7 => 
 Hp Tryz.prog false (Instr.extract t10 1) (fun t12 h_8 => 
 InvokeH Tryz.prog del1 #[t11, t12] h_8 (fun t16 h_9 => 
 CondP t16 (
 Hp Tryz.prog false (Builtin.delete_ #[90, 2] 0 #[m0, t11]) (fun _ h_10 => 
 k h_10) h_9 ⟨⟩) (
 k h_9) ⟨⟩ ⟨⟩) ⟨⟩) h_7 ⟨⟩) h_6 ⟨⟩) h_5 ⟨⟩)
 (fun h_11 =>
 X h_11) h_4 ⟨⟩ ⟨⟩) (
 R (.tuple #[]) h_4) ⟨⟩ ⟨⟩) h_3 ⟨⟩) h_2 ⟨⟩) [] h_1 ⟨⟩) h ⟨⟩

theorem n94_calls {m0 del1 : Value} {R : Value → Heap → Prop} {h : Heap} (H : n94 m0 del1 R h) : CallsH Tryz.prog 94 #[m0, del1] h R ⟨⟩ :=
 callsH_of_eq Tryz.follow (.n none .l (.n none (.n (some []) (.n none .l (.n none .l (.n (some []) .l .l))) .l) .l)) Tryz.func94 (by kernel_rfl) (by kernel_rfl) (by kernel_rfl) H

/-- (*palimpsest/cache.Cache).settle$1 -/
def n95 (q0 t1 t2 : Value) (R : Value → Heap → Prop) (h : Heap) : Prop :=
 Hp Tryz.prog false (Instr.loadAt 28 t2) (fun t6 h_1 => 
 CallsH Tryz.prog 43 #[t6, q0] h_1 (fun t8 h_2 => 
 Hp Tryz.prog false (Op.unary .not t8) (fun t9 h_3 => 
 R t9 h_3) h_2 ⟨⟩) ⟨⟩) h ⟨⟩

theorem n95_calls {q0 t1 t2 : Value} {R : Value → Heap → Prop} {h : Heap} (H : n95 q0 t1 t2 R h) : CallsH Tryz.prog 95 #[q0, t1, t2] h R ⟨⟩ :=
 callsH_of_eq Tryz.follow .l Tryz.func95 (by kernel_rfl) (by kernel_rfl) (by kernel_rfl) H

/-- slices.Values[[]int64,int64]$1 -/
def n108 (yield0 t1 : Value) (R : Value → Heap → Prop) (h : Heap) : Prop :=
 Hp Tryz.prog false (Instr.loadAt 102 t1) (fun t5 h_1 => 
 Hp Tryz.prog false (Builtin.len_ #[102] 3 #[t5]) (fun t6 h_2 => 
 LoopC 1 (fun (X : Value → Heap → Prop) => fun t7 h_3 =>
 Hp Tryz.prog false (binS .lss 3 (.tmp 7) (.tmp 6) t7 t6) (fun t8 h_4 => 
 CondP t8 (
 Hp Tryz.prog false (Instr.indexAt 102 t5 t7) (fun t9 h_5 => 
 Hp Tryz.prog false (Instr.loadAt 2 t9) (fun t10 h_6 => 
 InvokeH Tryz.prog yield0 #[t10] h_6 (fun t13 h_7 => 
 Hp Tryz.prog false (Op.unary .not t13) (fun t14 h_8 => 
 CondP t14 (
 R (.tuple #[]) h_8) (
 Hp Tryz.prog false (binS .add 3 (.tmp 7) (.const (.int .i64 1)) t7 (.int .i64 1)) (fun t15 h_9 => 
 X t15 h_9) h_8 ⟨⟩) ⟨⟩ ⟨⟩) h_7 ⟨⟩) ⟨⟩) h_5 ⟨⟩) h_4 ⟨⟩) (
 R (.tuple #[]) h_4) ⟨⟩ ⟨⟩) h_3 ⟨⟩) [(.int .i64 0)] h_2 ⟨⟩) h_1 ⟨⟩) h ⟨⟩

theorem n108_calls {yield0 t1 : Value} {R : Value → Heap → Prop} {h : Heap} (H : n108 yield0 t1 R h) : CallsH Tryz.prog 108 #[yield0, t1] h R ⟨⟩ :=
 callsH_of_eq Tryz.follow (.n none .l (.n none (.n (some [8]) .l .l) .l)) Tryz.func108 (by kernel_rfl) (by kernel_rfl) (by kernel_rfl) H

/-- slices.ContainsFunc[[]palimpsest/api.Fate,palimpsest/api.Fate] -/
def n109 (s0 f1 : Value) (R : Value → Heap → Prop) (h : Heap) : Prop :=
 CallsH Tryz.prog 127 #[s0, f1] h (fun t7 h_1 => 
 Hp Tryz.prog false (binS .geq 3 (.tmp 7) (.const (.int .i64 0)) t7 (.int .i64 0)) (fun t8 h_2 => 
 R t8 h_2) h_1 ⟨⟩) ⟨⟩

theorem n109_calls {s0 f1 : Value} {R : Value → Heap → Prop} {h : Heap} (H : n109 s0 f1 R h) : CallsH Tryz.prog 109 #[s0, f1] h R ⟨⟩ :=
 callsH_of_eq Tryz.follow .l Tryz.func109 (by kernel_rfl) (by kernel_rfl) (by kernel_rfl) H

/-- palimpsest/store.right$1 -/
def n110 (f0 : Value) (R : Value → Heap → Prop) (h : Heap) : Prop :=
 Hp Tryz.prog false (Instr.box 118 f0) (fun f1 h_1 => 
 Hp Tryz.prog false (Instr.fieldAt 118 f1 0) (fun t3 h_2 => 
 Hp Tryz.prog false (Instr.loadAt 116 t3) (fun t4 h_3 => 
 Hp Tryz.prog false (binS .lss 116 (.tmp 4) (.const (.int .i64 0)) t4 (.int .i64 0)) (fun t5 h_4 => 
 Join1 (fun k h_5 => guardP t5 false (Hp Tryz.prog false (Instr.fieldAt 118 f1 0) k h_5 ⟨⟩) (k undef h_5) ⟨⟩ ⟨⟩) (fun t7 h_6 => 
 Join1 (fun k_1 h_7 => guardP t5 false (Hp Tryz.prog false (Instr.loadAt 116 t7) k_1 h_7 ⟨⟩) (k_1 undef h_7) ⟨⟩ ⟨⟩) (fun t8 h_8 => 
 Join1 (fun k_2 h_9 => guardP t5 false (Hp Tryz.prog false (binS .gtr 116 (.tmp 8) (.const (.int .i64 2)) t8 (.int .i64 2)) k_2 h_9 ⟨⟩) (k_2 undef h_9) ⟨⟩ ⟨⟩) (fun t9 h_10 => 
 Hp Tryz.prog false (pickS t5 (.bool true) t9) (fun t10 h_11 => 
 R t10 h_11) h_10 ⟨⟩) h_8 ⟨⟩ ⟨⟩) h_6 ⟨⟩ ⟨⟩) h_4 ⟨⟩ ⟨⟩) h_3 ⟨⟩) h_2 ⟨⟩) h_1 ⟨⟩) h ⟨⟩

theorem n110_calls {f0 : Value} {R : Value → Heap → Prop} {h : Heap} (H : n110 f0 R h) : CallsH Tryz.prog 110 #[f0] h R ⟨⟩ :=
 callsH_of_eq Tryz.follow .l Tryz.func110 (by kernel_rfl) (by kernel_rfl) (by kernel_rfl) H

/-- bytes.IndexByte -/
def n111 (b0 c1 : Value) (R : Value → Heap → Prop) (h : Heap) : Prop :=
 ExtH Tryz.prog 128 #[b0, c1] h (fun t7 h_1 => 
 R t7 h_1) ⟨⟩

theorem n111_calls {b0 c1 : Value} {R : Value → Heap → Prop} {h : Heap} (H : n111 b0 c1 R h) : CallsH Tryz.prog 111 #[b0, c1] h R ⟨⟩ :=
 callsH_of_eq Tryz.follow .l Tryz.func111 (by kernel_rfl) (by kernel_rfl) (by kernel_rfl) H

/-- container/heap.Init -/
def n112 (h0 : Value) (R : Value → Heap → Prop) (h : Heap) : Prop :=
 MethodH Tryz.prog h0 "Len" #[] h (fun t5 h_1 => 
 Hp Tryz.prog false (binS .quo 3 (.tmp 6) (.const (.int .i64 2)) t5 (.int .i64 2)) (fun t7 h_2 => 
 Hp Tryz.prog false (binS .sub 3 (.tmp 7) (.const (.int .i64 1)) t7 (.int .i64 1)) (fun t8 h_3 => 
 LoopC 1 (fun (X : Value → Heap → Prop) => fun i3 h_4 =>
 Hp Tryz.prog false (binS .geq 3 (.tmp 9) (.const (.int .i64 0)) i3 (.int .i64 0)) (fun t10 h_5 => 
 CondP t10 (
 CallsH Tryz.prog 129 #[h0, i3, t5] h_5 (fun t16 h_6 => 
 Hp Tryz.prog false (binS .sub 3 (.tmp 11) (.const (.int .i64 1)) i3 (.int .i64 1)) (fun t12 h_7 => 
 X t12 h_7) h_6 ⟨⟩) ⟨⟩) (
 R (.tuple #[]) h_5) ⟨⟩ ⟨⟩) h_4 ⟨⟩) [t8] h_3 ⟨⟩) h_2 ⟨⟩) h_1 ⟨⟩) ⟨⟩

theorem n112_calls {h0 : Value} {R : Value → Heap → Prop} {h : Heap} (H : n112 h0 R h) : CallsH Tryz.prog 112 #[h0] h R ⟨⟩ :=
 callsH_of_eq Tryz.follow (.n none .l (.n none .l (.n none (.n (some [4]) .l .l) .l))) Tryz.func112 (by kernel_rfl) (by kernel_rfl) (by kernel_rfl) H

/-- container/heap.Pop -/
def n113 (h0 : Value) (R : Value → Heap → Prop) (h : Heap) : Prop :=
 MethodH Tryz.prog h0 "Len" #[] h (fun t5 h_1 => 
 Hp Tryz.prog false (binS .sub 3 (.tmp 5) (.const (.int .i64 1)) t5 (.int .i64 1)) (fun t6 h_2 => 
 MethodH Tryz.prog h0 "Swap" #[(.int .i64 0), t6] h_2 (fun t9 h_3 => 
 CallsH Tryz.prog 129 #[h0, (.int .i64 0), t6] h_3 (fun t12 h_4 => 
 MethodH Tryz.prog h0 "Pop" #[] h_4 (fun t14 h_5 => 
 R t14 h_5) ⟨⟩) ⟨⟩) ⟨⟩) h_1 ⟨⟩) ⟨⟩

theorem n113_calls {h0 : Value} {R : Value → Heap → Prop} {h : Heap} (H : n113 h0 R h) : CallsH Tryz.prog 113 #[h0] h R ⟨⟩ :=
 callsH_of_eq Tryz.follow .l Tryz.func113 (by kernel_rfl) (by kernel_rfl) (by kernel_rfl) H

/-- slices.AppendSeq[[]int64,int64] -/
def n114 (s0 seq1 : Value) (R : Value → Heap → Prop) (h : Heap) : Prop :=
 Hp Tryz.prog false (Instr.box 102 s0) (fun s2 h_1 => 
 JoinN 1 (fun (k : Value → Heap → Prop) h_2 =>
 JoinN 1 (fun (k_1 : Value → Heap → Prop) h_3 =>
 RangeC Tryz.prog none seq1 1 (.tuple #[]) (fun l args bg Nb Jb h_4 =>
 bg (fun h_5 =>
 Hp Tryz.prog false (Instr.loadAt 102 s2) (fun t8 h_6 => 
 Hp Tryz.prog false (Instr.buildSlice 102 1 #[(0, (getV args 0))]) (fun t10 h_7 => 
 Hp Tryz.prog false (Builtin.append_ #[102, 102] 102 #[t8, t10]) (fun t11 h_8 => 
 Hp Tryz.prog false (storeS 102 s2 t11) (fun _ h_9 => 
 Nb h_9) h_8 ⟨⟩) h_7 ⟨⟩) h_6 ⟨⟩) h_5 ⟨⟩) h_4)
 (fun D h_10 =>
 k_1 D h_10)
 (fun D_1 h_11 =>
 RetD D_1 h_11 (fun h_12 =>
 R (.slice none 0 0) h_12) ⟨⟩)
 (fun id D_2 h_13 => bif Nat.beq id 0 then (k_1 D_2 h_13) else False) h_3 ⟨⟩ ⟨⟩ ⟨⟩ ⟨⟩)
 (fun D_3 h_14 =>
 k D_3 h_14) h_2 ⟨⟩ ⟨⟩)
 (fun D_4 h_15 =>
 Hp Tryz.prog false (Instr.loadAt 102 s2) (fun t12 h_16 => 
 RetD D_4 h_16 (fun h_17 =>
 R t12 h_17) ⟨⟩) h_15 ⟨⟩) h_1 ⟨⟩ ⟨⟩) h ⟨⟩

theorem n114_calls {s0 seq1 : Value} {R : Value → Heap → Prop} {h : Heap} (H : n114 s0 seq1 R h) : CallsH Tryz.prog 114 #[s0, seq1] h R ⟨⟩ :=
 callsH_of_eq Tryz.follow (.n none .l (.n (some [0]) (.n none .l (.n (some [0]) .l .l)) .l)) Tryz.func114 (by kernel_rfl) (by kernel_rfl) (by kernel_rfl) H

/-- slices.pdqsortOrdered[int64] -/
def n115 (data0 a1 b2 limit3 : Value) (R : Value → Heap → Prop) (h : Heap) : Prop :=
 LoopC 5 (fun (X : Value → Value → Value → Value → Value → Heap → Prop) => fun a1_1 b2_1 limit3_1 wasBalanced8 wasPartitioned9 h_1 =>
 JoinN 5 (fun (k : Value → Value → Value → Value → Value → Heap → Prop) h_2 =>
 Hp Tryz.prog false (binS .sub 3 (.tmp 19) (.tmp 20) b2_1 a1_1) (fun t21 h_3 => 
 Hp Tryz.prog false (binS .leq 3 (.tmp 22) (.const (.int .i64 12)) t21 (.int .i64 12)) (fun t23 h_4 => 
 CondP t23 (
 CallsH Tryz.prog 130 #[data0, a1_1, b2_1] h_4 (fun t27 h_5 => 
 R (.tuple #[]) h_5) ⟨⟩) (
 Hp Tryz.prog false (binS .eql 3 (.tmp 28) (.const (.int .i64 0)) limit3_1 (.int .i64 0)) (fun t29 h_6 => 
 CondP t29 (
 CallsH Tryz.prog 131 #[data0, a1_1, b2_1] h_6 (fun t33 h_7 => 
 R (.tuple #[]) h_7) ⟨⟩) (
 JoinN 1 (fun (k_1 : Value → Heap → Prop) h_8 =>
 Hp Tryz.prog false (Op.unary .not wasBalanced8) (fun t35 h_9 => 
 CondP t35 (
 CallsH Tryz.prog 132 #[data0, a1_1, b2_1] h_9 (fun t39 h_10 => 
 Hp Tryz.prog false (binS .sub 3 (.tmp 40) (.const (.int .i64 1)) limit3_1 (.int .i64 1)) (fun t41 h_11 => 
 k_1 t41 h_11) h_10 ⟨⟩) ⟨⟩) (
 k_1 limit3_1 h_9) ⟨⟩ ⟨⟩) h_8 ⟨⟩)
 (fun limit3_2 h_12 =>
 CallsH Tryz.prog 133 #[data0, a1_1, b2_1] h_12 (fun t46 h_13 => 
 Hp Tryz.prog false (Instr.extract t46 0) (fun t47 h_14 => 
 Hp Tryz.prog false (Instr.extract t46 1) (fun t48 h_15 => 
 JoinN 2 (fun (k_2 : Value → Value → Heap → Prop) h_16 =>
 Hp Tryz.prog false (binS .eql 209 (.tmp 49) (.const (.int .i64 2)) t48 (.int .i64 2)) (fun t50 h_17 => 
 CondP t50 (
 CallsH Tryz.prog 134 #[data0, a1_1, b2_1] h_17 (fun t54 h_18 => 
 Hp Tryz.prog false (binS .sub 3 (.tmp 55) (.const (.int .i64 1)) b2_1 (.int .i64 1)) (fun t56 h_19 => 
 Hp Tryz.prog false (binS .sub 3 (.tmp 57) (.tmp 58) t47 a1_1) (fun t59 h_20 => 
 Hp Tryz.prog false (binS .sub 3 (.tmp 56) (.tmp 59) t56 t59) (fun t60 h_21 => 
 k_2 t60 (.int .i64 1) h_21) h_20 ⟨⟩) h_19 ⟨⟩) h_18 ⟨⟩) ⟨⟩) (
 k_2 t47 t48 h_17) ⟨⟩ ⟨⟩) h_16 ⟨⟩)
 (fun pivot11 hint12 h_22 =>
 JoinN 0 (fun (k_3 : Heap → Prop) h_23 =>
 Join1 (fun k_4 h_24 => guardP wasBalanced8 true (k_4 wasPartitioned9 h_24) (k_4 undef h_24) ⟨⟩ ⟨⟩) (fun t63 h_25 => 
 Hp Tryz.prog false (pickS wasBalanced8 t63 (.bool false)) (fun t64 h_26 => 
 Join1 (fun k_5 h_27 => guardP t64 true (k_5 hint12 h_27) (k_5 undef h_27) ⟨⟩ ⟨⟩) (fun t66 h_28 => 
 Join1 (fun k_6 h_29 => guardP t64 true (Hp Tryz.prog false (binS .eql 209 (.tmp 66) (.const (.int .i64 1)) t66 (.int .i64 1)) k_6 h_29 ⟨⟩) (k_6 undef h_29) ⟨⟩ ⟨⟩) (fun t67 h_30 => 
 Hp Tryz.prog false (pickS t64 t67 (.bool false)) (fun t68 h_31 => 
 CondP t68 (
 CallsH Tryz.prog 135 #[data0, a1_1, b2_1] h_31 (fun t72 h_32 => 
 CondP t72 (
 R (.tuple #[]) h_32) (
 k_3 h_32) ⟨⟩ ⟨⟩) ⟨⟩) (
 k_3 h_31) ⟨⟩ ⟨⟩) h_30 ⟨⟩) h_28 ⟨⟩ ⟨⟩) h_26 ⟨⟩ ⟨⟩) h_25 ⟨⟩) h_23 ⟨⟩ ⟨⟩)
 (fun h_33 =>
 Hp Tryz.prog true (binS .gtr 3 (.tmp 73) (.const (.int .i64 0)) a1_1 (.int .i64 0)) (fun t74 _ => 
 Join1 (fun k_7 h_34 => guardP t74 true (k_7 data0 h_34) (k_7 undef h_34) ⟨⟩ ⟨⟩) (fun t76 _ => 
 Join1 (fun k_8 h_35 => guardP t74 true (k_8 a1_1 h_35) (k_8 undef h_35) ⟨⟩ ⟨⟩) (fun t77 _ => 
 Join1 (fun k_9 h_36 => guardP t74 true (Hp Tryz.prog true (binS .sub 3 (.tmp 77) (.const (.int .i64 1)) t77 (.int .i64 1)) k_9 h_36 ⟨⟩) (k_9 undef h_36) ⟨⟩ ⟨⟩) (fun t78 _ => 
 Join1 (fun k_10 h_37 => guardP t74 true (Hp Tryz.prog true (Instr.indexAt 102 t76 t78) k_10 h_37 ⟨⟩) (k_10 undef h_37) ⟨⟩ ⟨⟩) (fun t79 _ => 
 Join1 (fun k_11 h_38 => guardP t74 true (Hp Tryz.prog true (Instr.loadAt 2 t79) k_11 h_38 ⟨⟩) (k_11 undef h_38) ⟨⟩ ⟨⟩) (fun t80 _ => 
 Join1 (fun k_12 h_39 => guardP t74 true (k_12 data0 h_39) (k_12 undef h_39) ⟨⟩ ⟨⟩) (fun t81 _ => 
 Join1 (fun k_13 h_40 => guardP t74 true (k_13 pivot11 h_40) (k_13 undef h_40) ⟨⟩ ⟨⟩) (fun t82 _ => 
 Join1 (fun k_14 h_41 => guardP t74 true (Hp Tryz.prog true (Instr.indexAt 102 t81 t82) k_14 h_41 ⟨⟩) (k_14 undef h_41) ⟨⟩ ⟨⟩) (fun t83 _ => 
 Join1 (fun k_15 h_42 => guardP t74 true (Hp Tryz.prog true (Instr.loadAt 2 t83) k_15 h_42 ⟨⟩) (k_15 undef h_42) ⟨⟩ ⟨⟩) (fun t84 _ => 
 Join1 (fun k_16 h_43 => guardP t74 true (CallsH Tryz.prog 136 #[t80, t84] h_43 k_16 ⟨⟩) (k_16 undef h_43) ⟨⟩ ⟨⟩) (fun t85 h_44 => 
 Join1 (fun k_17 h_45 => guardP t74 true (Hp Tryz.prog true (Op.unary .not t85) k_17 h_45 ⟨⟩) (k_17 undef h_45) ⟨⟩ ⟨⟩) (fun t86 _ => 
 Hp Tryz.prog true (pickS t74 t86 (.bool false)) (fun t87 _ => 
 CondP t87 (
 CallsH Tryz.prog 137 #[data0, a1_1, b2_1, pivot11] h_44 (fun t92 h_46 => 
 k t92 b2_1 limit3_2 wasBalanced8 wasPartitioned9 h_46) ⟨⟩) (
 CallsH Tryz.prog 138 #[data0, a1_1, b2_1, pivot11] h_44 (fun t99 h_47 => 
 Hp Tryz.prog false (Instr.extract t99 0) (fun t100 h_48 => 
 Hp Tryz.prog false (Instr.extract t99 1) (fun t101 h_49 => 
 Hp Tryz.prog false (binS .sub 3 (.tmp 103) (.tmp 104) t100 a1_1) (fun t105 h_50 => 
 Hp Tryz.prog false (binS .sub 3 (.tmp 106) (.tmp 107) b2_1 t100) (fun t108 h_51 => 
 Hp Tryz.prog false (binS .quo 3 (.tmp 109) (.const (.int .i64 8)) t21 (.int .i64 8)) (fun t110 h_52 => 
 Hp Tryz.prog false (binS .lss 3 (.tmp 111) (.tmp 112) t105 t108) (fun t113 h_53 => 
 CondP t113 (
 Hp Tryz.prog false (binS .geq 3 (.tmp 114) (.tmp 115) t105 t110) (fun t116 h_54 => 
 CallsH Tryz.prog 115 #[data0, a1_1, t100, limit3_2] h_54 (fun t121 h_55 => 
 Hp Tryz.prog false (binS .add 3 (.tmp 122) (.const (.int .i64 1)) t100 (.int .i64 1)) (fun t123 h_56 => 
 k t123 b2_1 limit3_2 t116 t101 h_56) h_55 ⟨⟩) ⟨⟩) h_53 ⟨⟩) (
 Hp Tryz.prog false (binS .geq 3 (.tmp 124) (.tmp 125) t108 t110) (fun t126 h_57 => 
 Hp Tryz.prog false (binS .add 3 (.tmp 128) (.const (.int .i64 1)) t100 (.int .i64 1)) (fun t129 h_58 => 
 CallsH Tryz.prog 115 #[data0, t129, b2_1, limit3_2] h_58 (fun t132 h_59 => 
 k a1_1 t100 limit3_2 t126 t101 h_59) ⟨⟩) h_57 ⟨⟩) h_53 ⟨⟩) ⟨⟩ ⟨⟩) h_52 ⟨⟩) h_51 ⟨⟩) h_50 ⟨⟩) h_49 ⟨⟩) h_48 ⟨⟩) h_47 ⟨⟩) ⟨⟩) ⟨⟩ ⟨⟩) #[] ⟨⟩) #[] ⟨⟩ ⟨⟩) h_33 ⟨⟩ ⟨⟩) h_33 ⟨⟩ ⟨⟩) #[] ⟨⟩ ⟨⟩) #[] ⟨⟩ ⟨⟩) #[] ⟨⟩ ⟨⟩) h_33 ⟨⟩ ⟨⟩) #[] ⟨⟩ ⟨⟩) #[] ⟨⟩ ⟨⟩) #[] ⟨⟩ ⟨⟩) #[] ⟨⟩ ⟨⟩) #[] ⟨⟩) h_22 ⟨⟩ ⟨⟩) h_15 ⟨⟩ ⟨⟩) h_14 ⟨⟩) h_13 ⟨⟩) ⟨⟩) h_6 ⟨⟩ ⟨⟩) ⟨⟩ ⟨⟩) h_4 ⟨⟩) ⟨⟩ ⟨⟩) h_3 ⟨⟩) h_2 ⟨⟩)
 (fun a1_2 b2_2 limit3_3 wasBalanced8_1 wasPartitioned9_1 h_60 =>
 X a1_2 b2_2 limit3_3 wasBalanced8_1 wasPartitioned9_1 h_60) h_1 ⟨⟩ ⟨⟩) [a1, b2, limit3, (.bool true), (.bool true)] h ⟨⟩

theorem n115_calls {data0 a1 b2 limit3 : Value} {R : Value → Heap → Prop} {h : Heap} (H : n115 data0 a1 b2 limit3 R h) : CallsH Tryz.prog 115 #[data0, a1, b2, limit3] h R ⟨⟩ :=
 callsH_of_eq Tryz.follow (.n none .l (.n none .l (.n none (.n (some [2, 3, 4, 9, 10]) (.n (some [2, 3, 4, 9, 10]) (.n none .l (.n none .l (.n none .l (.n (some [4]) .l (.n none .l (.n (some [12, 13]) .l (.n (some []) .l .l))))))) .l) .l) .l))) Tryz.func115 (by kernel_rfl) (by kernel_rfl) (by kernel_rfl) H

/-- math/bits.Len -/
def n116 (x0 : Value) (R : Value → Heap → Prop) (h : Heap) : Prop :=
 CondP (.bool false) (
 Hp Tryz.prog false (convert 195 217 x0) (fun t4 h_1 => 
 CallsH Tryz.prog 139 #[t4] h_1 (fun t5 h_2 => 
 R t5 h_2) ⟨⟩) h ⟨⟩) (
 CallsH Tryz.prog 140 #[x0] h (fun t7 h_3 => 
 R t7 h_3) ⟨⟩) ⟨⟩ ⟨⟩

theorem n116_calls {x0 : Value} {R : Value → Heap → Prop} {h : Heap} (H : n116 x0 R h) : CallsH Tryz.prog 116 #[x0] h R ⟨⟩ :=
 callsH_of_eq Tryz.follow .l Tryz.func116 (by kernel_rfl) (by kernel_rfl) (by kernel_rfl) H

/-- slices.Clone[[]palimpsest/store.piece,palimpsest/store.piece] -/
def n117 (s0 : Value) (R : Value → Heap → Prop) (h : Heap) : Prop :=
 Hp Tryz.prog false (binS .eql 113 (.tmp 3) (.const (.slice none 0 0)) s0 (.slice none 0 0)) (fun t4 h_1 => 
 CondP t4 (
 R (.slice none 0 0) h_1) (
 Hp Tryz.prog false (Instr.buildSlice 113 0 #[]) (fun t5 h_2 => 
 Hp Tryz.prog false (Builtin.append_ #[113, 113] 113 #[t5, s0]) (fun t7 h_3 => 
 R t7 h_3) h_2 ⟨⟩) h_1 ⟨⟩) ⟨⟩ ⟨⟩) h ⟨⟩

theorem n117_calls {s0 : Value} {R : Value → Heap → Prop} {h : Heap} (H : n117 s0 R h) : CallsH Tryz.prog 117 #[s0] h R ⟨⟩ :=
 callsH_of_eq Tryz.follow .l Tryz.func117 (by kernel_rfl) (by kernel_rfl) (by kernel_rfl) H

/-- slices.Collect[string] -/
def n118 (seq0 : Value) (R : Value → Heap → Prop) (h : Heap) : Prop :=
 CallsH Tryz.prog 141 #[(.slice none 0 0), seq0] h (fun t4 h_1 => 
 R t4 h_1) ⟨⟩

theorem n118_calls {seq0 : Value} {R : Value → Heap → Prop} {h : Heap} (H : n118 seq0 R h) : CallsH Tryz.prog 118 #[seq0] h R ⟨⟩ :=
 callsH_of_eq Tryz.follow .l Tryz.func118 (by kernel_rfl) (by kernel_rfl) (by kernel_rfl) H

/-- slices.Sort[[]string,string] -/
def n119 (x0 : Value) (R : Value → Heap → Prop) (h : Heap) : Prop :=
 Hp Tryz.prog false (Builtin.len_ #[105] 3 #[x0]) (fun t4 h_1 => 
 Hp Tryz.prog false (convert 3 195 t4) (fun t8 h_2 => 
 CallsH Tryz.prog 116 #[t8] h_2 (fun t9 h_3 => 
 CallsH Tryz.prog 142 #[x0, (.int .i64 0), t4, t9] h_3 (fun t10 h_4 => 
 R (.tuple #[]) h_4) ⟨⟩) ⟨⟩) h_1 ⟨⟩) h ⟨⟩

theorem n119_calls {x0 : Value} {R : Value → Heap → Prop} {h : Heap} (H : n119 x0 R h) : CallsH Tryz.prog 119 #[x0] h R ⟨⟩ :=
 callsH_of_eq Tryz.follow .l Tryz.func119 (by kernel_rfl) (by kernel_rfl) (by kernel_rfl) H

/-- maps.Keys[map[string]*palimpsest/store.file,string,*palimpsest/store.file]$1 -/
def n120 (yield0 t1 : Value) (R : Value → Heap → Prop) (h : Heap) : Prop :=
 Hp Tryz.prog false (Instr.loadAt 153 t1) (fun t4 h_1 => 
 Hp Tryz.prog false (Instr.range 153 t4) (fun t5 h_2 => 
 LoopC 0 (fun (X : Heap → Prop) => fun h_3 =>
 Hp Tryz.prog false (Instr.next t5 false 0) (fun t6 h_4 => 
 Hp Tryz.prog false (Instr.extract t6 0) (fun t7 h_5 => 
 CondP t7 (
 Hp Tryz.prog false (Instr.entry t5) (fun t8 h_6 => 
 Hp Tryz.prog false (Instr.extract t8 0) (fun t9 h_7 => 
 InvokeH Tryz.prog yield0 #[t9] h_7 (fun t12 h_8 => 
 Hp Tryz.prog false (Op.unary .not t12) (fun t13 h_9 => 
 CondP t13 (
 R (.tuple #[]) h_9) (
 X h_9) ⟨⟩ ⟨⟩) h_8 ⟨⟩) ⟨⟩) h_6 ⟨⟩) h_5 ⟨⟩) (
 R (.tuple #[]) h_5) ⟨⟩ ⟨⟩) h_4 ⟨⟩) h_3 ⟨⟩) [] h_2 ⟨⟩) h_1 ⟨⟩) h ⟨⟩

theorem n120_calls {yield0 t1 : Value} {R : Value → Heap → Prop} {h : Heap} (H : n120 yield0 t1 R h) : CallsH Tryz.prog 120 #[yield0, t1] h R ⟨⟩ :=
 callsH_of_eq Tryz.follow (.n none .l (.n none (.n (some []) .l .l) .l)) Tryz.func120 (by kernel_rfl) (by kernel_rfl) (by kernel_rfl) H

/-- slices.IndexFunc[[]int,int] -/
def n122 (s0 f1 : Value) (R : Value → Heap → Prop) (h : Heap) : Prop :=
 Hp Tryz.prog false (Builtin.len_ #[49] 3 #[s0]) (fun t7 h_1 => 
 LoopC 1 (fun (X : Value → Heap → Prop) => fun t8 h_2 =>
 Hp Tryz.prog false (binS .lss 3 (.tmp 8) (.tmp 7) t8 t7) (fun t9 h_3 => 
 CondP t9 (
 Hp Tryz.prog false (Instr.indexAt 49 s0 t8) (fun t14 h_4 => 
 Hp Tryz.prog false (Instr.loadAt 3 t14) (fun t15 h_5 => 
 InvokeH Tryz.prog f1 #[t15] h_5 (fun t16 h_6 => 
 CondP t16 (
 R t8 h_6) (
 Hp Tryz.prog false (binS .add 3 (.tmp 8) (.const (.int .i64 1)) t8 (.int .i64 1)) (fun t18 h_7 => 
 X t18 h_7) h_6 ⟨⟩) ⟨⟩ ⟨⟩) ⟨⟩) h_4 ⟨⟩) h_3 ⟨⟩) (
 R (.int .i64 (-1)) h_3) ⟨⟩ ⟨⟩) h_2 ⟨⟩) [(.int .i64 0)] h_1 ⟨⟩) h ⟨⟩

theorem n122_calls {s0 f1 : Value} {R : Value → Heap → Prop} {h : Heap} (H : n122 s0 f1 R h) : CallsH Tryz.prog 122 #[s0, f1] h R ⟨⟩ :=
 callsH_of_eq Tryz.follow (.n none .l (.n none (.n none .l (.n none (.n (some [9]) .l .l) .l)) .l)) Tryz.func122 (by kernel_rfl) (by kernel_rfl) (by kernel_rfl) H

/-- slices.IndexFunc[[]palimpsest/api.Fate,palimpsest/api.Fate] -/
def n127 (s0 f1 : Value) (R : Value → Heap → Prop) (h : Heap) : Prop :=
 Hp Tryz.prog false (Builtin.len_ #[48] 3 #[s0]) (fun t7 h_1 => 
 LoopC 1 (fun (X : Value → Heap → Prop) => fun t8 h_2 =>
 Hp Tryz.prog false (binS .lss 3 (.tmp 8) (.tmp 7) t8 t7) (fun t9 h_3 => 
 CondP t9 (
 Hp Tryz.prog false (Instr.indexAt 48 s0 t8) (fun t14 h_4 => 
 Hp Tryz.prog false (Instr.loadAt 118 t14) (fun t15 h_5 => 
 InvokeH Tryz.prog f1 #[t15] h_5 (fun t16 h_6 => 
 CondP t16 (
 R t8 h_6) (
 Hp Tryz.prog false (binS .add 3 (.tmp 8) (.const (.int .i64 1)) t8 (.int .i64 1)) (fun t18 h_7 => 
 X t18 h_7) h_6 ⟨⟩) ⟨⟩ ⟨⟩) ⟨⟩) h_4 ⟨⟩) h_3 ⟨⟩) (
 R (.int .i64 (-1)) h_3) ⟨⟩ ⟨⟩) h_2 ⟨⟩) [(.int .i64 0)] h_1 ⟨⟩) h ⟨⟩

theorem n127_calls {s0 f1 : Value} {R : Value → Heap → Prop} {h : Heap} (H : n127 s0 f1 R h) : CallsH Tryz.prog 127 #[s0, f1] h R ⟨⟩ :=
 callsH_of_eq Tryz.follow (.n none .l (.n none (.n none .l (.n none (.n (some [9]) .l .l) .l)) .l)) Tryz.func127 (by kernel_rfl) (by kernel_rfl) (by kernel_rfl) H

/-- container/heap.down -/
def n129 (h0 i01 n2 : Value) (R : Value → Heap → Prop) (h : Heap) : Prop :=
 JoinN 1 (fun (k : Value → Heap → Prop) h_1 =>
 JoinN 1 (fun (k_1 : Value → Heap → Prop) h_2 =>
 LoopC 1 (fun (X : Value → Heap → Prop) => fun i7 h_3 =>
 Hp Tryz.prog false (binS .mul 3 (.const (.int .i64 2)) (.tmp 12) (.int .i64 2) i7) (fun t13 h_4 => 
 Hp Tryz.prog false (binS .add 3 (.tmp 13) (.const (.int .i64 1)) t13 (.int .i64 1)) (fun t14 h_5 => 
 Hp Tryz.prog false (binS .geq 3 (.tmp 15) (.tmp 16) t14 n2) (fun t17 h_6 => 
 Join1 (fun k_2 h_7 => guardP t17 false (k_2 t14 h_7) (k_2 undef h_7) ⟨⟩ ⟨⟩) (fun t19 h_8 => 
 Join1 (fun k_3 h_9 => guardP t17 false (Hp Tryz.prog false (binS .lss 3 (.tmp 19) (.const (.int .i64 0)) t19 (.int .i64 0)) k_3 h_9 ⟨⟩) (k_3 undef h_9) ⟨⟩ ⟨⟩) (fun t20 h_10 => 
 Hp Tryz.prog false (pickS t17 (.bool true) t20) (fun t21 h_11 => 
 CondP t21 (
 k_1 i7 h_11) (
 JoinN 1 (fun (k_4 : Value → Heap → Prop) h_12 =>
 Hp Tryz.prog false (binS .add 3 (.tmp 23) (.const (.int .i64 1)) t14 (.int .i64 1)) (fun t24 h_13 => 
 Hp Tryz.prog false (binS .lss 3 (.tmp 25) (.tmp 26) t24 n2) (fun t27 h_14 => 
 Join1 (fun k_5 h_15 => guardP t27 true (k_5 h0 h_15) (k_5 undef h_15) ⟨⟩ ⟨⟩) (fun t29 h_16 => 
 Join1 (fun k_6 h_17 => guardP t27 true (k_6 t24 h_17) (k_6 undef h_17) ⟨⟩ ⟨⟩) (fun t30 h_18 => 
 Join1 (fun k_7 h_19 => guardP t27 true (k_7 t14 h_19) (k_7 undef h_19) ⟨⟩ ⟨⟩) (fun t31 h_20 => 
 Join1 (fun k_8 h_21 => guardP t27 true (MethodH Tryz.prog t29 "Less" #[t30, t31] h_21 k_8 ⟨⟩) (k_8 undef h_21) ⟨⟩ ⟨⟩) (fun t32 h_22 => 
 Hp Tryz.prog false (pickS t27 t32 (.bool false)) (fun t33 h_23 => 
 CondP t33 (
 k_4 t24 h_23) (
 k_4 t14 h_23) ⟨⟩ ⟨⟩) h_22 ⟨⟩) h_20 ⟨⟩ ⟨⟩) h_18 ⟨⟩ ⟨⟩) h_16 ⟨⟩ ⟨⟩) h_14 ⟨⟩ ⟨⟩) h_13 ⟨⟩) h_12 ⟨⟩)
 (fun j9 h_24 =>
 MethodH Tryz.prog h0 "Less" #[j9, i7] h_24 (fun t38 h_25 => 
 Hp Tryz.prog false (Op.unary .not t38) (fun t39 h_26 => 
 CondP t39 (
 k_1 i7 h_26) (
 MethodH Tryz.prog h0 "Swap" #[i7, j9] h_26 (fun t43 h_27 => 
 X j9 h_27) ⟨⟩) ⟨⟩ ⟨⟩) h_25 ⟨⟩) ⟨⟩) h_11 ⟨⟩ ⟨⟩) ⟨⟩ ⟨⟩) h_10 ⟨⟩) h_8 ⟨⟩ ⟨⟩) h_6 ⟨⟩ ⟨⟩) h_5 ⟨⟩) h_4 ⟨⟩) h_3 ⟨⟩) [i01] h_2 ⟨⟩)
 (fun i7_1 h_28 =>
 k i7_1 h_28) h_1 ⟨⟩ ⟨⟩)
 (fun i7_2 h_29 =>
 Hp Tryz.prog false (binS .gtr 3 (.tmp 45) (.tmp 46) i7_2 i01) (fun t47 h_30 => 
 R t47 h_30) h_29 ⟨⟩) h ⟨⟩ ⟨⟩

theorem n129_calls {h0 i01 n2 : Value} {R : Value → Heap → Prop} {h : Heap} (H : n129 h0 i01 n2 R h) : CallsH Tryz.prog 129 #[h0, i01, n2] h R ⟨⟩ :=
 callsH_of_eq Tryz.follow (.n none .l (.n none .l (.n (some [8]) (.n (some [8]) (.n (some [8]) (.n none (.n none .l (.n none .l (.n none .l (.n (some [10]) .l .l)))) .l) .l) .l) .l))) Tryz.func129 (by kernel_rfl) (by kernel_rfl) (by kernel_rfl) H

/-- slices.insertionSortOrdered[int64] -/
def n130 (data0 a1 b2 : Value) (R : Value → Heap → Prop) (h : Heap) : Prop :=
 Hp Tryz.prog false (binS .add 3 (.tmp 8) (.const (.int .i64 1)) a1 (.int .i64 1)) (fun t9 h_1 => 
 LoopC 1 (fun (X : Value → Heap → Prop) => fun i6 h_2 =>
 Hp Tryz.prog false (binS .lss 3 (.tmp 10) (.tmp 11) i6 b2) (fun t12 h_3 => 
 CondP t12 (
 LoopC 1 (fun (X_1 : Value → Heap → Prop) => fun j7 h_4 =>
 Hp Tryz.prog true (binS .gtr 3 (.tmp 16) (.tmp 17) j7 a1) (fun t18 _ => 
 Join1 (fun k h_5 => guardP t18 true (k data0 h_5) (k undef h_5) ⟨⟩ ⟨⟩) (fun t20 _ => 
 Join1 (fun k_1 h_6 => guardP t18 true (k_1 j7 h_6) (k_1 undef h_6) ⟨⟩ ⟨⟩) (fun t21 _ => 
 Join1 (fun k_2 h_7 => guardP t18 true (Hp Tryz.prog true (Instr.indexAt 102 t20 t21) k_2 h_7 ⟨⟩) (k_2 undef h_7) ⟨⟩ ⟨⟩) (fun t22 _ => 
 Join1 (fun k_3 h_8 => guardP t18 true (Hp Tryz.prog true (Instr.loadAt 2 t22) k_3 h_8 ⟨⟩) (k_3 undef h_8) ⟨⟩ ⟨⟩) (fun t23 _ => 
 Join1 (fun k_4 h_9 => guardP t18 true (k_4 data0 h_9) (k_4 undef h_9) ⟨⟩ ⟨⟩) (fun t24 _ => 
 Join1 (fun k_5 h_10 => guardP t18 true (k_5 j7 h_10) (k_5 undef h_10) ⟨⟩ ⟨⟩) (fun t25 _ => 
 Join1 (fun k_6 h_11 => guardP t18 true (Hp Tryz.prog true (binS .sub 3 (.tmp 25) (.const (.int .i64 1)) t25 (.int .i64 1)) k_6 h_11 ⟨⟩) (k_6 undef h_11) ⟨⟩ ⟨⟩) (fun t26 _ => 
 Join1 (fun k_7 h_12 => guardP t18 true (Hp Tryz.prog true (Instr.indexAt 102 t24 t26) k_7 h_12 ⟨⟩) (k_7 undef h_12) ⟨⟩ ⟨⟩) (fun t27 _ => 
 Join1 (fun k_8 h_13 => guardP t18 true (Hp Tryz.prog true (Instr.loadAt 2 t27) k_8 h_13 ⟨⟩) (k_8 undef h_13) ⟨⟩ ⟨⟩) (fun t28 _ => 
 Join1 (fun k_9 h_14 => guardP t18 true (CallsH Tryz.prog 136 #[t23, t28] h_14 k_9 ⟨⟩) (k_9 undef h_14) ⟨⟩ ⟨⟩) (fun t29 h_15 => 
 Hp Tryz.prog true (pickS t18 t29 (.bool false)) (fun t30 _ => 
 CondP t30 (
 Hp Tryz.prog true (binS .sub 3 (.tmp 36) (.const (.int .i64 1)) j7 (.int .i64 1)) (fun t37 _ => 
 Hp Tryz.prog true (binS .sub 3 (.tmp 39) (.const (.int .i64 1)) j7 (.int .i64 1)) (fun t40 _ => 
 Hp Tryz.prog true (Instr.indexAt 102 data0 t40) (fun t41 _ => 
 Hp Tryz.prog true (Instr.loadAt 2 t41) (fun t42 _ => 
 Hp Tryz.prog true (Instr.indexAt 102 data0 j7) (fun t45 _ => 
 Hp Tryz.prog true (Instr.loadAt 2 t45) (fun t46 _ => 
 Hp Tryz.prog true (Instr.indexAt 102 data0 j7) (fun t47 _ => 
 Hp Tryz.prog false (storeS 2 t47 t42) (fun _ h_16 => 
 Hp Tryz.prog true (Instr.indexAt 102 data0 t37) (fun t48 _ => 
 Hp Tryz.prog false (storeS 2 t48 t46) (fun _ h_17 => 
 Hp Tryz.prog false (binS .sub 3 (.tmp 31) (.const (.int .i64 1)) j7 (.int .i64 1)) (fun t32 h_18 => 
 X_1 t32 h_18) h_17 ⟨⟩) h_16 ⟨⟩) #[] ⟨⟩) h_15 ⟨⟩) #[] ⟨⟩) h_15 ⟨⟩) #[] ⟨⟩) h_15 ⟨⟩) #[] ⟨⟩) #[] ⟨⟩) #[] ⟨⟩) (
 Hp Tryz.prog false (binS .add 3 (.tmp 13) (.const (.int .i64 1)) i6 (.int .i64 1)) (fun t14 h_19 => 
 X t14 h_19) h_15 ⟨⟩) ⟨⟩ ⟨⟩) #[] ⟨⟩) h_4 ⟨⟩ ⟨⟩) h_4 ⟨⟩ ⟨⟩) #[] ⟨⟩ ⟨⟩) #[] ⟨⟩ ⟨⟩) #[] ⟨⟩ ⟨⟩) #[] ⟨⟩ ⟨⟩) h_4 ⟨⟩ ⟨⟩) #[] ⟨⟩ ⟨⟩) #[] ⟨⟩ ⟨⟩) #[] ⟨⟩ ⟨⟩) #[] ⟨⟩) [i6] h_3 ⟨⟩) (
 R (.tuple #[]) h_3) ⟨⟩ ⟨⟩) h_2 ⟨⟩) [t9] h_1 ⟨⟩) h ⟨⟩

theorem n130_calls {data0 a1 b2 : Value} {R : Value → Heap → Prop} {h : Heap} (H : n130 data0 a1 b2 R h) : CallsH Tryz.prog 130 #[data0, a1, b2] h R ⟨⟩ :=
 callsH_of_eq Tryz.follow (.n none .l (.n none (.n (some [7]) (.n none .l (.n none (.n none (.n none .l (.n none (.n (some [8]) .l .l) .l)) .l) .l)) .l) .l)) Tryz.func130 (by kernel_rfl) (by kernel_rfl) (by kernel_rfl) H

/-- slices.heapSortOrdered[int64] -/
def n131 (data0 a1 b2 : Value) (R : Value → Heap → Prop) (h : Heap) : Prop :=
 Hp Tryz.prog false (binS .sub 3 (.tmp 12) (.tmp 13) b2 a1) (fun t14 h_1 => 
 Hp Tryz.prog false (binS .sub 3 (.tmp 15) (.const (.int .i64 1)) t14 (.int .i64 1)) (fun t16 h_2 => 
 Hp Tryz.prog false (binS .quo 3 (.tmp 16) (.const (.int .i64 2)) t16 (.int .i64 2)) (fun t17 h_3 => 
 LoopC 1 (fun (X : Value → Heap → Prop) => fun i9 h_4 =>
 Hp Tryz.prog false (binS .geq 3 (.tmp 18) (.const (.int .i64 0)) i9 (.int .i64 0)) (fun t19 h_5 => 
 CondP t19 (
 CallsH Tryz.prog 143 #[data0, i9, t14, a1] h_5 (fun t26 h_6 => 
 Hp Tryz.prog false (binS .sub 3 (.tmp 20) (.const (.int .i64 1)) i9 (.int .i64 1)) (fun t21 h_7 => 
 X t21 h_7) h_6 ⟨⟩) ⟨⟩) (
 Hp Tryz.prog false (binS .sub 3 (.tmp 27) (.const (.int .i64 1)) t14 (.int .i64 1)) (fun t28 h_8 => 
 LoopC 1 (fun (X_1 : Value → Heap → Prop) => fun i10 h_9 =>
 Hp Tryz.prog false (binS .geq 3 (.tmp 29) (.const (.int .i64 0)) i10 (.int .i64 0)) (fun t30 h_10 => 
 CondP t30 (
 Hp Tryz.prog true (binS .add 3 (.tmp 36) (.tmp 37) a1 i10) (fun t38 _ => 
 Hp Tryz.prog true (binS .add 3 (.tmp 40) (.tmp 41) a1 i10) (fun t42 _ => 
 Hp Tryz.prog true (Instr.indexAt 102 data0 t42) (fun t43 _ => 
 Hp Tryz.prog true (Instr.loadAt 2 t43) (fun t44 _ => 
 Hp Tryz.prog true (Instr.indexAt 102 data0 a1) (fun t47 _ => 
 Hp Tryz.prog true (Instr.loadAt 2 t47) (fun t48 _ => 
 Hp Tryz.prog true (Instr.indexAt 102 data0 a1) (fun t49 _ => 
 Hp Tryz.prog false (storeS 2 t49 t44) (fun _ h_11 => 
 Hp Tryz.prog true (Instr.indexAt 102 data0 t38) (fun t50 _ => 
 Hp Tryz.prog false (storeS 2 t50 t48) (fun _ h_12 => 
 CallsH Tryz.prog 143 #[data0, (.int .i64 0), i10, a1] h_12 (fun t55 h_13 => 
 Hp Tryz.prog false (binS .sub 3 (.tmp 31) (.const (.int .i64 1)) i10 (.int .i64 1)) (fun t32 h_14 => 
 X_1 t32 h_14) h_13 ⟨⟩) ⟨⟩) h_11 ⟨⟩) #[] ⟨⟩) h_10 ⟨⟩) #[] ⟨⟩) h_10 ⟨⟩) #[] ⟨⟩) h_10 ⟨⟩) #[] ⟨⟩) #[] ⟨⟩) #[] ⟨⟩) (
 R (.tuple #[]) h_10) ⟨⟩ ⟨⟩) h_9 ⟨⟩) [t28] h_8 ⟨⟩) h_5 ⟨⟩) ⟨⟩ ⟨⟩) h_4 ⟨⟩) [t17] h_3 ⟨⟩) h_2 ⟨⟩) h_1 ⟨⟩) h ⟨⟩

theorem n131_calls {data0 a1 b2 : Value} {R : Value → Heap → Prop} {h : Heap} (H : n131 data0 a1 b2 R h) : CallsH Tryz.prog 131 #[data0, a1, b2] h R ⟨⟩ :=
 callsH_of_eq Tryz.follow (.n none .l (.n none .l (.n none .l (.n none (.n none .l (.n none (.n (some [10]) .l .l) .l)) (.n none .l (.n none (.n (some [11]) .l .l) .l)))))) Tryz.func131 (by kernel_rfl) (by kernel_rfl) (by kernel_rfl) H

/-- slices.breakPatternsOrdered[int64] -/
def n132 (data0 a1 b2 : Value) (R : Value → Heap → Prop) (h : Heap) : Prop :=
 Hp Tryz.prog false (binS .sub 3 (.tmp 11) (.tmp 12) b2 a1) (fun t13 h_1 => 
 Hp Tryz.prog false (binS .geq 3 (.tmp 14) (.const (.int .i64 8)) t13 (.int .i64 8)) (fun t15 h_2 => 
 CondP t15 (
 Hp Tryz.prog false (convert 3 223 t13) (fun t17 h_3 => 
 Hp Tryz.prog false (Instr.alloc 223 true undef) (fun random7 h_4 => 
 Hp Tryz.prog false (storeS 223 random7 t17) (fun _ h_5 => 
 CallsH Tryz.prog 144 #[t13] h_5 (fun t19 h_6 => 
 Hp Tryz.prog false (binS .quo 3 (.tmp 21) (.const (.int .i64 4)) t13 (.int .i64 4)) (fun t22 h_7 => 
 Hp Tryz.prog false (binS .mul 3 (.tmp 22) (.const (.int .i64 2)) t22 (.int .i64 2)) (fun t23 h_8 => 
 Hp Tryz.prog false (binS .add 3 (.tmp 20) (.tmp 23) a1 t23) (fun t24 h_9 => 
 Hp Tryz.prog false (binS .sub 3 (.tmp 24) (.const (.int .i64 1)) t24 (.int .i64 1)) (fun t25 h_10 => 
 LoopC 1 (fun (X : Value → Heap → Prop) => fun idx9 h_11 =>
 Hp Tryz.prog false (binS .quo 3 (.tmp 28) (.const (.int .i64 4)) t13 (.int .i64 4)) (fun t29 h_12 => 
 Hp Tryz.prog false (binS .mul 3 (.tmp 29) (.const (.int .i64 2)) t29 (.int .i64 2)) (fun t30 h_13 => 
 Hp Tryz.prog false (binS .add 3 (.tmp 27) (.tmp 30) a1 t30) (fun t31 h_14 => 
 Hp Tryz.prog false (binS .add 3 (.tmp 31) (.const (.int .i64 1)) t31 (.int .i64 1)) (fun t32 h_15 => 
 Hp Tryz.prog false (binS .leq 3 (.tmp 26) (.tmp 32) idx9 t32) (fun t33 h_16 => 
 CondP t33 (
 CallsH Tryz.prog 145 #[random7] h_16 (fun t36 h_17 => 
 Hp Tryz.prog false (binS .sub 195 (.tmp 37) (.const (.int .u64 1)) t19 (.int .u64 1)) (fun t38 h_18 => 
 Hp Tryz.prog false (binS .and 195 (.tmp 36) (.tmp 38) t36 t38) (fun t39 h_19 => 
 Hp Tryz.prog false (convert 195 3 t39) (fun t40 h_20 => 
 JoinN 1 (fun (k : Value → Heap → Prop) h_21 =>
 Hp Tryz.prog false (binS .geq 3 (.tmp 41) (.tmp 42) t40 t13) (fun t43 h_22 => 
 CondP t43 (
 Hp Tryz.prog false (binS .sub 3 (.tmp 44) (.tmp 45) t40 t13) (fun t46 h_23 => 
 k t46 h_23) h_22 ⟨⟩) (
 k t40 h_22) ⟨⟩ ⟨⟩) h_21 ⟨⟩)
 (fun other10 h_24 =>
 Hp Tryz.prog true (binS .add 3 (.tmp 50) (.tmp 51) a1 other10) (fun t52 _ => 
 Hp Tryz.prog true (binS .add 3 (.tmp 54) (.tmp 55) a1 other10) (fun t56 _ => 
 Hp Tryz.prog true (Instr.indexAt 102 data0 t56) (fun t57 _ => 
 Hp Tryz.prog true (Instr.loadAt 2 t57) (fun t58 _ => 
 Hp Tryz.prog true (Instr.indexAt 102 data0 idx9) (fun t61 _ => 
 Hp Tryz.prog true (Instr.loadAt 2 t61) (fun t62 _ => 
 Hp Tryz.prog true (Instr.indexAt 102 data0 idx9) (fun t63 _ => 
 Hp Tryz.prog false (storeS 2 t63 t58) (fun _ h_25 => 
 Hp Tryz.prog true (Instr.indexAt 102 data0 t52) (fun t64 _ => 
 Hp Tryz.prog false (storeS 2 t64 t62) (fun _ h_26 => 
 Hp Tryz.prog false (binS .add 3 (.tmp 34) (.const (.int .i64 1)) idx9 (.int .i64 1)) (fun t35 h_27 => 
 X t35 h_27) h_26 ⟨⟩) h_25 ⟨⟩) #[] ⟨⟩) h_24 ⟨⟩) #[] ⟨⟩) h_24 ⟨⟩) #[] ⟨⟩) h_24 ⟨⟩) #[] ⟨⟩) #[] ⟨⟩) #[] ⟨⟩) h_20 ⟨⟩ ⟨⟩) h_19 ⟨⟩) h_18 ⟨⟩) h_17 ⟨⟩) ⟨⟩) (
 R (.tuple #[]) h_16) ⟨⟩ ⟨⟩) h_15 ⟨⟩) h_14 ⟨⟩) h_13 ⟨⟩) h_12 ⟨⟩) h_11 ⟨⟩) [t25] h_10 ⟨⟩) h_9 ⟨⟩) h_8 ⟨⟩) h_7 ⟨⟩) h_6 ⟨⟩) ⟨⟩) h_4 ⟨⟩) h_3 ⟨⟩) h_2 ⟨⟩) (
 R (.tuple #[]) h_2) ⟨⟩ ⟨⟩) h_1 ⟨⟩) h ⟨⟩

theorem n132_calls {data0 a1 b2 : Value} {R : Value → Heap → Prop} {h : Heap} (H : n132 data0 a1 b2 R h) : CallsH Tryz.prog 132 #[data0, a1, b2] h R ⟨⟩ :=
 callsH_of_eq Tryz.follow (.n none .l (.n none .l (.n none (.n none .l (.n none .l (.n none .l (.n none (.n (some [10]) (.n none .l (.n none (.n none (.n none .l (.n (some [11]) .l .l)) .l) .l)) .l) .l)))) .l))) Tryz.func132 (by kernel_rfl) (by kernel_rfl) (by kernel_rfl) H

/-- slices.choosePivotOrdered[int64] -/
def n133 (data0 a1 b2 : Value) (R : Value → Heap → Prop) (h : Heap) : Prop :=
 Hp Tryz.prog false (binS .sub 3 (.tmp 13) (.tmp 14) b2 a1) (fun t15 h_1 => 
 Hp Tryz.prog false (Instr.alloc 3 true undef) (fun swaps9 h_2 => 
 Hp Tryz.prog false (binS .quo 3 (.tmp 17) (.const (.int .i64 4)) t15 (.int .i64 4)) (fun t18 h_3 => 
 Hp Tryz.prog false (binS .mul 3 (.tmp 18) (.const (.int .i64 1)) t18 (.int .i64 1)) (fun t19 h_4 => 
 Hp Tryz.prog false (binS .add 3 (.tmp 16) (.tmp 19) a1 t19) (fun t20 h_5 => 
 Hp Tryz.prog false (binS .quo 3 (.tmp 22) (.const (.int .i64 4)) t15 (.int .i64 4)) (fun t23 h_6 => 
 Hp Tryz.prog false (binS .mul 3 (.tmp 23) (.const (.int .i64 2)) t23 (.int .i64 2)) (fun t24 h_7 => 
 Hp Tryz.prog false (binS .add 3 (.tmp 21) (.tmp 24) a1 t24) (fun t25 h_8 => 
 Hp Tryz.prog false (binS .quo 3 (.tmp 27) (.const (.int .i64 4)) t15 (.int .i64 4)) (fun t28 h_9 => 
 Hp Tryz.prog false (binS .mul 3 (.tmp 28) (.const (.int .i64 3)) t28 (.int .i64 3)) (fun t29 h_10 => 
 Hp Tryz.prog false (binS .add 3 (.tmp 26) (.tmp 29) a1 t29) (fun t30 h_11 => 
 JoinN 1 (fun (k : Value → Heap → Prop) h_12 =>
 Hp Tryz.prog false (binS .geq 3 (.tmp 31) (.const (.int .i64 8)) t15 (.int .i64 8)) (fun t32 h_13 => 
 CondP t32 (
 JoinN 3 (fun (k_1 : Value → Value → Value → Heap → Prop) h_14 =>
 Hp Tryz.prog false (binS .geq 3 (.tmp 33) (.const (.int .i64 50)) t15 (.int .i64 50)) (fun t34 h_15 => 
 CondP t34 (
 CallsH Tryz.prog 146 #[data0, t20, swaps9] h_15 (fun t37 h_16 => 
 CallsH Tryz.prog 146 #[data0, t25, swaps9] h_16 (fun t40 h_17 => 
 CallsH Tryz.prog 146 #[data0, t30, swaps9] h_17 (fun t43 h_18 => 
 k_1 t37 t40 t43 h_18) ⟨⟩) ⟨⟩) ⟨⟩) (
 k_1 t20 t25 t30 h_15) ⟨⟩ ⟨⟩) h_14 ⟨⟩)
 (fun i10 j11 k12 h_19 =>
 CallsH Tryz.prog 147 #[data0, i10, j11, k12, swaps9] h_19 (fun t48 h_20 => 
 k t48 h_20) ⟨⟩) h_13 ⟨⟩ ⟨⟩) (
 k t25 h_13) ⟨⟩ ⟨⟩) h_12 ⟨⟩)
 (fun j11_1 h_21 =>
 Hp Tryz.prog false (Instr.loadAt 3 swaps9) (fun t49 h_22 => 
 Hp Tryz.prog false (binS .eql 3 (.tmp 49) (.const (.int .i64 0)) t49 (.int .i64 0)) (fun t52 h_23 => 
 CondP t52 (
 R (.tuple #[j11_1, (.int .i64 1)]) h_23) (
 Hp Tryz.prog false (binS .eql 3 (.tmp 49) (.const (.int .i64 12)) t49 (.int .i64 12)) (fun t55 h_24 => 
 CondP t55 (
 R (.tuple #[j11_1, (.int .i64 2)]) h_24) (
 R (.tuple #[j11_1, (.int .i64 0)]) h_24) ⟨⟩ ⟨⟩) h_23 ⟨⟩) ⟨⟩ ⟨⟩) h_22 ⟨⟩) h_21 ⟨⟩) h_11 ⟨⟩ ⟨⟩) h_10 ⟨⟩) h_9 ⟨⟩) h_8 ⟨⟩) h_7 ⟨⟩) h_6 ⟨⟩) h_5 ⟨⟩) h_4 ⟨⟩) h_3 ⟨⟩) h_2 ⟨⟩) h_1 ⟨⟩) h ⟨⟩

theorem n133_calls {data0 a1 b2 : Value} {R : Value → Heap → Prop} {h : Heap} (H : n133 data0 a1 b2 R h) : CallsH Tryz.prog 133 #[data0, a1, b2] h R ⟨⟩ :=
 callsH_of_eq Tryz.follow (.n none .l (.n none .l (.n none .l (.n none .l (.n none .l (.n none .l (.n (some [12]) (.n none .l (.n none (.n (some [11, 12, 13]) .l .l) .l)) .l))))))) Tryz.func133 (by kernel_rfl) (by kernel_rfl) (by kernel_rfl) H

end Go.Proofs.YtcbbdnaelimpfaaGreat

/- Printed by wip/tools/gen.py: the condition of each function, and that a call meets it. -/
import Derived.Test.YtgcllbelgakjgaaVcFun
import Derived.Test.YtgcllbelgakjgaaProg
import Derived.Test.YtgcllbelgakjgaaNiceK
import Derived.Test.YtgcllbelgakjgaaNiceL
set_option maxRecDepth 100000
set_option linter.unusedVariables false
namespace Go.Proofs.Ytgcllbelgakjgaa
open Go.Vc

/-- palimpsest/palimpsestref13.May -/
def n18 (x0 : Value) (R : Value → Heap → Prop) (h : Heap) : Prop :=
 Hp Try.prog false (Instr.box 24 x0) (fun x1 h_1 => 
 Hp Try.prog false (Instr.fieldAt 24 x1 0) (fun t3 h_2 => 
 Hp Try.prog false (Instr.loadAt 2 t3) (fun t4 h_3 => 
 Hp Try.prog false (binS .geq 2 (.tmp 4) (.const (.int .i64 0)) t4 (.int .i64 0)) (fun t5 h_4 => 
 Join1 (fun k h_5 => guardP t5 true (Hp Try.prog false (Instr.fieldAt 24 x1 1) k h_5 ⟨⟩) (k undef h_5) ⟨⟩ ⟨⟩) (fun t7 h_6 => 
 Join1 (fun k_1 h_7 => guardP t5 true (Hp Try.prog false (Instr.loadAt 2 t7) k_1 h_7 ⟨⟩) (k_1 undef h_7) ⟨⟩ ⟨⟩) (fun t8 h_8 => 
 Join1 (fun k_2 h_9 => guardP t5 true (Hp Try.prog false (binS .geq 2 (.tmp 8) (.const (.int .i64 1)) t8 (.int .i64 1)) k_2 h_9 ⟨⟩) (k_2 undef h_9) ⟨⟩ ⟨⟩) (fun t9 h_10 => 
 Hp Try.prog false (pickS t5 t9 (.bool false)) (fun t10 h_11 => 
 Join1 (fun k_3 h_12 => guardP t10 true (Hp Try.prog false (Instr.fieldAt 24 x1 0) k_3 h_12 ⟨⟩) (k_3 undef h_12) ⟨⟩ ⟨⟩) (fun t12 h_13 => 
 Join1 (fun k_4 h_14 => guardP t10 true (Hp Try.prog false (Instr.loadAt 2 t12) k_4 h_14 ⟨⟩) (k_4 undef h_14) ⟨⟩ ⟨⟩) (fun t13 h_15 => 
 Join1 (fun k_5 h_16 => guardP t10 true (Hp Try.prog false (binS .leq 2 (.tmp 13) (.const (.int .i64 72057594037927936)) t13 (.int .i64 72057594037927936)) k_5 h_16 ⟨⟩) (k_5 undef h_16) ⟨⟩ ⟨⟩) (fun t14 h_17 => 
 Hp Try.prog false (pickS t10 t14 (.bool false)) (fun t15 h_18 => 
 Join1 (fun k_6 h_19 => guardP t15 true (Hp Try.prog false (Instr.fieldAt 24 x1 1) k_6 h_19 ⟨⟩) (k_6 undef h_19) ⟨⟩ ⟨⟩) (fun t17 h_20 => 
 Join1 (fun k_7 h_21 => guardP t15 true (Hp Try.prog false (Instr.loadAt 2 t17) k_7 h_21 ⟨⟩) (k_7 undef h_21) ⟨⟩ ⟨⟩) (fun t18 h_22 => 
 Join1 (fun k_8 h_23 => guardP t15 true (Hp Try.prog false (Instr.fieldAt 24 x1 0) k_8 h_23 ⟨⟩) (k_8 undef h_23) ⟨⟩ ⟨⟩) (fun t19 h_24 => 
 Join1 (fun k_9 h_25 => guardP t15 true (Hp Try.prog false (Instr.loadAt 2 t19) k_9 h_25 ⟨⟩) (k_9 undef h_25) ⟨⟩ ⟨⟩) (fun t20 h_26 => 
 Join1 (fun k_10 h_27 => guardP t15 true (Hp Try.prog false (binS .sub 2 (.const (.int .i64 72057594037927936)) (.tmp 20) (.int .i64 72057594037927936) t20) k_10 h_27 ⟨⟩) (k_10 undef h_27) ⟨⟩ ⟨⟩) (fun t21 h_28 => 
 Join1 (fun k_11 h_29 => guardP t15 true (Hp Try.prog false (binS .leq 2 (.tmp 18) (.tmp 21) t18 t21) k_11 h_29 ⟨⟩) (k_11 undef h_29) ⟨⟩ ⟨⟩) (fun t22 h_30 => 
 Hp Try.prog false (pickS t15 t22 (.bool false)) (fun t23 h_31 => 
 R t23 h_31) h_30 ⟨⟩) h_28 ⟨⟩ ⟨⟩) h_26 ⟨⟩ ⟨⟩) h_24 ⟨⟩ ⟨⟩) h_22 ⟨⟩ ⟨⟩) h_20 ⟨⟩ ⟨⟩) h_18 ⟨⟩ ⟨⟩) h_17 ⟨⟩) h_15 ⟨⟩ ⟨⟩) h_13 ⟨⟩ ⟨⟩) h_11 ⟨⟩ ⟨⟩) h_10 ⟨⟩) h_8 ⟨⟩ ⟨⟩) h_6 ⟨⟩ ⟨⟩) h_4 ⟨⟩ ⟨⟩) h_3 ⟨⟩) h_2 ⟨⟩) h_1 ⟨⟩) h ⟨⟩

theorem n18_calls {x0 : Value} {R : Value → Heap → Prop} {h : Heap} (H : n18 x0 R h) : CallsH Try.prog 18 #[x0] h R ⟨⟩ :=
 callsH_of_eq Try.follow .l Try.func18 (by kernel_rfl) (by kernel_rfl) (by kernel_rfl) H

/-- (*palimpsest/palimpsestref13.Later).Put -/
def n23 (q0 l1 : Value) (R : Value → Heap → Prop) (h : Heap) : Prop :=
 LoopC 1 (fun (X : Value → Heap → Prop) => fun i6 h_1 =>
 Hp Try.prog false (Builtin.len_ #[22] 3 #[l1]) (fun t12 h_2 => 
 Hp Try.prog false (binS .lss 3 (.tmp 10) (.tmp 12) i6 t12) (fun t13 h_3 => 
 CondP t13 (
 Hp Try.prog false (Instr.indexAt 22 l1 i6) (fun t18 h_4 => 
 Hp Try.prog false (Instr.loadAt 24 t18) (fun t19 h_5 => 
 CallsH Try.prog 18 #[t19] h_5 (fun t20 h_6 => 
 Hp Try.prog false (Op.unary .not t20) (fun t21 h_7 => 
 CondP t21 (
 R (.tuple #[(.int .i64 0), (.int .i64 2)]) h_7) (
 Hp Try.prog false (binS .add 3 (.tmp 14) (.const (.int .i64 1)) i6 (.int .i64 1)) (fun t15 h_8 => 
 X t15 h_8) h_7 ⟨⟩) ⟨⟩ ⟨⟩) h_6 ⟨⟩) ⟨⟩) h_4 ⟨⟩) h_3 ⟨⟩) (
 Hp Try.prog false (nilS q0) (fun t23 h_9 => 
 Hp Try.prog false (Instr.fieldAt 53 t23 0) (fun t24 h_10 => 
 Hp Try.prog false (Instr.loadAt 22 t24) (fun t25 h_11 => 
 LoopC 2 (fun (X_1 : Value → Value → Heap → Prop) => fun out7 i8 h_12 =>
 Hp Try.prog false (Builtin.len_ #[22] 3 #[l1]) (fun t28 h_13 => 
 Hp Try.prog false (binS .lss 3 (.tmp 26) (.tmp 28) i8 t28) (fun t29 h_14 => 
 CondP t29 (
 Hp Try.prog false (Instr.indexAt 22 l1 i8) (fun t35 h_15 => 
 Hp Try.prog false (Instr.loadAt 24 t35) (fun t36 h_16 => 
 CallsH Try.prog 46 #[out7, t36] h_16 (fun t37 h_17 => 
 Hp Try.prog false (binS .add 3 (.tmp 30) (.const (.int .i64 1)) i8 (.int .i64 1)) (fun t31 h_18 => 
 X_1 t37 t31 h_18) h_17 ⟨⟩) ⟨⟩) h_15 ⟨⟩) h_14 ⟨⟩) (
 Hp Try.prog false (Builtin.len_ #[22] 3 #[out7]) (fun t39 h_19 => 
 Hp Try.prog false (binS .gtr 3 (.tmp 39) (.const (.int .i64 4096)) t39 (.int .i64 4096)) (fun t40 h_20 => 
 CondP t40 (
 R (.tuple #[(.int .i64 0), (.int .i64 6)]) h_20) (
 Hp Try.prog true (nilS q0) (fun t44 _ => 
 Hp Try.prog true (Instr.fieldAt 53 t44 0) (fun t45 _ => 
 Hp Try.prog true (Instr.loadAt 22 t45) (fun t46 _ => 
 CallsH Try.prog 25 #[out7] h_20 (fun t42 h_21 => Hp Try.prog true (Instr.loadAt 22 t45) (fun u _ => u = t46) h_21 ⟨⟩ ∧ 
 CallsH Try.prog 25 #[t46] h_21 (fun t47 h_22 => 
 Hp Try.prog true (binS .sub 2 (.tmp 42) (.tmp 47) t42 t47) (fun t48 _ => 
 Hp Try.prog false (nilS q0) (fun t51 h_23 => 
 Hp Try.prog false (Instr.fieldAt 53 t51 0) (fun t52 h_24 => 
 Hp Try.prog false (storeS 22 t52 out7) (fun _ h_25 => 
 R (.tuple #[t48, (.int .i64 0)]) h_25) h_24 ⟨⟩) h_23 ⟨⟩) h_22 ⟨⟩) #[] ⟨⟩) ⟨⟩) ⟨⟩) h_20 ⟨⟩) #[] ⟨⟩) #[] ⟨⟩) ⟨⟩ ⟨⟩) h_19 ⟨⟩) h_14 ⟨⟩) ⟨⟩ ⟨⟩) h_13 ⟨⟩) h_12 ⟨⟩) [t25, (.int .i64 0)] h_11 ⟨⟩) h_10 ⟨⟩) h_9 ⟨⟩) h_3 ⟨⟩) ⟨⟩ ⟨⟩) h_2 ⟨⟩) h_1 ⟨⟩) [(.int .i64 0)] h ⟨⟩

theorem n23_calls {q0 l1 : Value} {R : Value → Heap → Prop} {h : Heap} (H : n23 q0 l1 R h) : CallsH Try.prog 23 #[q0, l1] h R ⟨⟩ :=
 callsH_of_eq Try.follow (.n none .l (.n none (.n none .l (.n none (.n (some [7]) .l .l) .l)) (.n none .l (.n none (.n none .l (.n none (.n (some [8, 9]) .l .l) .l)) .l)))) Try.func23 (by kernel_rfl) (by kernel_rfl) (by kernel_rfl) H

/-- palimpsest/palimpsestref13.Bytes -/
def n25 (l0 : Value) (R : Value → Heap → Prop) (h : Heap) : Prop :=
 LoopC 2 (fun (X : Value → Value → Heap → Prop) => fun n3 i4 h_1 =>
 Hp Try.prog false (Builtin.len_ #[22] 3 #[l0]) (fun t7 h_2 => 
 Hp Try.prog false (binS .lss 3 (.tmp 5) (.tmp 7) i4 t7) (fun t8 h_3 => 
 CondP t8 (
 Hp Try.prog false (Instr.indexAt 22 l0 i4) (fun t14 h_4 => 
 Hp Try.prog false (Instr.fieldAt 24 t14 1) (fun t15 h_5 => 
 Hp Try.prog false (Instr.loadAt 2 t15) (fun t16 h_6 => 
 Hp Try.prog false (binS .add 2 (.tmp 11) (.tmp 16) n3 t16) (fun t17 h_7 => 
 Hp Try.prog false (binS .add 3 (.tmp 9) (.const (.int .i64 1)) i4 (.int .i64 1)) (fun t10 h_8 => 
 X t17 t10 h_8) h_7 ⟨⟩) h_6 ⟨⟩) h_5 ⟨⟩) h_4 ⟨⟩) h_3 ⟨⟩) (
 R n3 h_3) ⟨⟩ ⟨⟩) h_2 ⟨⟩) h_1 ⟨⟩) [(.int .i64 0), (.int .i64 0)] h ⟨⟩

theorem n25_calls {l0 : Value} {R : Value → Heap → Prop} {h : Heap} (H : n25 l0 R h) : CallsH Try.prog 25 #[l0] h R ⟨⟩ :=
 callsH_of_eq Try.follow (.n none .l (.n none .l (.n none (.n none .l (.n none (.n (some [4, 5]) .l .l) .l)) .l))) Try.func25 (by kernel_rfl) (by kernel_rfl) (by kernel_rfl) H

/-- palimpsest/palimpsestref13.Same -/
def n27 (a0 b1 : Value) (R : Value → Heap → Prop) (h : Heap) : Prop :=
 Hp Try.prog false (Builtin.len_ #[22] 3 #[a0]) (fun t7 h_1 => 
 Hp Try.prog false (Builtin.len_ #[22] 3 #[b1]) (fun t9 h_2 => 
 Hp Try.prog false (binS .neq 3 (.tmp 7) (.tmp 9) t7 t9) (fun t10 h_3 => 
 CondP t10 (
 R (.bool false) h_3) (
 LoopC 1 (fun (X : Value → Heap → Prop) => fun i5 h_4 =>
 Hp Try.prog false (Builtin.len_ #[22] 3 #[a0]) (fun t13 h_5 => 
 Hp Try.prog false (binS .lss 3 (.tmp 11) (.tmp 13) i5 t13) (fun t14 h_6 => 
 CondP t14 (
 Hp Try.prog true (Instr.indexAt 22 a0 i5) (fun t19 _ => 
 Hp Try.prog true (Instr.loadAt 24 t19) (fun t20 _ => 
 Hp Try.prog true (Instr.indexAt 22 b1 i5) (fun t23 _ => 
 Hp Try.prog true (Instr.loadAt 24 t23) (fun t24 _ => 
 Hp Try.prog true (binS .neq 24 (.tmp 20) (.tmp 24) t20 t24) (fun t25 _ => 
 CondP t25 (
 R (.bool false) h_6) (
 Hp Try.prog false (binS .add 3 (.tmp 15) (.const (.int .i64 1)) i5 (.int .i64 1)) (fun t16 h_7 => 
 X t16 h_7) h_6 ⟨⟩) ⟨⟩ ⟨⟩) #[] ⟨⟩) h_6 ⟨⟩) #[] ⟨⟩) h_6 ⟨⟩) #[] ⟨⟩) (
 R (.bool true) h_6) ⟨⟩ ⟨⟩) h_5 ⟨⟩) h_4 ⟨⟩) [(.int .i64 0)] h_3 ⟨⟩) ⟨⟩ ⟨⟩) h_2 ⟨⟩) h_1 ⟨⟩) h ⟨⟩

theorem n27_calls {a0 b1 : Value} {R : Value → Heap → Prop} {h : Heap} (H : n27 a0 b1 R h) : CallsH Try.prog 27 #[a0, b1] h R ⟨⟩ :=
 callsH_of_eq Try.follow (.n none .l (.n none .l (.n none (.n none .l (.n none (.n (some [6]) .l .l) .l)) .l))) Try.func27 (by kernel_rfl) (by kernel_rfl) (by kernel_rfl) H

/-- palimpsest/palimpsestref13.With -/
def n46 (l0 x1 : Value) (R : Value → Heap → Prop) (h : Heap) : Prop :=
 Hp Try.prog false (Instr.box 24 x1) (fun x3 h_1 => 
 LoopC 2 (fun (X : Value → Value → Heap → Prop) => fun out5 i6 h_2 =>
 Hp Try.prog false (Builtin.len_ #[22] 3 #[l0]) (fun t12 h_3 => 
 Hp Try.prog false (binS .lss 3 (.tmp 10) (.tmp 12) i6 t12) (fun t13 h_4 => 
 CondP t13 (
 JoinN 1 (fun (k : Value → Heap → Prop) h_5 =>
 JoinN 1 (fun (k_1 : Value → Heap → Prop) h_6 =>
 Hp Try.prog false (Instr.indexAt 22 l0 i6) (fun t18 h_7 => 
 Hp Try.prog false (Instr.loadAt 24 t18) (fun t19 h_8 => 
 Hp Try.prog false (Instr.alloc 24 true undef) (fun y7 h_9 => 
 Hp Try.prog false (storeS 24 y7 t19) (fun _ h_10 => 
 Hp Try.prog false (Instr.fieldAt 24 y7 0) (fun t20 h_11 => 
 Hp Try.prog false (Instr.loadAt 2 t20) (fun t21 h_12 => 
 Hp Try.prog false (Instr.fieldAt 24 y7 1) (fun t22 h_13 => 
 Hp Try.prog false (Instr.loadAt 2 t22) (fun t23 h_14 => 
 Hp Try.prog false (binS .add 2 (.tmp 21) (.tmp 23) t21 t23) (fun t24 h_15 => 
 Hp Try.prog false (Instr.fieldAt 24 x3 0) (fun t25 h_16 => 
 Hp Try.prog false (Instr.loadAt 2 t25) (fun t26 h_17 => 
 Hp Try.prog false (binS .lss 2 (.tmp 24) (.tmp 26) t24 t26) (fun t27 h_18 => 
 Join1 (fun k_2 h_19 => guardP t27 false (Hp Try.prog false (Instr.fieldAt 24 x3 0) k_2 h_19 ⟨⟩) (k_2 undef h_19) ⟨⟩ ⟨⟩) (fun t29 h_20 => 
 Join1 (fun k_3 h_21 => guardP t27 false (Hp Try.prog false (Instr.loadAt 2 t29) k_3 h_21 ⟨⟩) (k_3 undef h_21) ⟨⟩ ⟨⟩) (fun t30 h_22 => 
 Join1 (fun k_4 h_23 => guardP t27 false (Hp Try.prog false (Instr.fieldAt 24 x3 1) k_4 h_23 ⟨⟩) (k_4 undef h_23) ⟨⟩ ⟨⟩) (fun t31 h_24 => 
 Join1 (fun k_5 h_25 => guardP t27 false (Hp Try.prog false (Instr.loadAt 2 t31) k_5 h_25 ⟨⟩) (k_5 undef h_25) ⟨⟩ ⟨⟩) (fun t32 h_26 => 
 Join1 (fun k_6 h_27 => guardP t27 false (Hp Try.prog false (binS .add 2 (.tmp 30) (.tmp 32) t30 t32) k_6 h_27 ⟨⟩) (k_6 undef h_27) ⟨⟩ ⟨⟩) (fun t33 h_28 => 
 Join1 (fun k_7 h_29 => guardP t27 false (Hp Try.prog false (Instr.fieldAt 24 y7 0) k_7 h_29 ⟨⟩) (k_7 undef h_29) ⟨⟩ ⟨⟩) (fun t34 h_30 => 
 Join1 (fun k_8 h_31 => guardP t27 false (Hp Try.prog false (Instr.loadAt 2 t34) k_8 h_31 ⟨⟩) (k_8 undef h_31) ⟨⟩ ⟨⟩) (fun t35 h_32 => 
 Join1 (fun k_9 h_33 => guardP t27 false (Hp Try.prog false (binS .lss 2 (.tmp 33) (.tmp 35) t33 t35) k_9 h_33 ⟨⟩) (k_9 undef h_33) ⟨⟩ ⟨⟩) (fun t36 h_34 => 
 Hp Try.prog false (pickS t27 (.bool true) t36) (fun t37 h_35 => 
 CondP t37 (
 JoinN 1 (fun (k_10 : Value → Heap → Prop) h_36 =>
 Hp Try.prog true (Instr.fieldAt 24 y7 0) (fun t38 _ => 
 Hp Try.prog true (Instr.loadAt 2 t38) (fun t39 _ => 
 Hp Try.prog true (Instr.fieldAt 24 x3 0) (fun t40 _ => 
 Hp Try.prog true (Instr.loadAt 2 t40) (fun t41 _ => 
 Hp Try.prog true (binS .gtr 2 (.tmp 39) (.tmp 41) t39 t41) (fun t42 _ => 
 Join1 (fun k_11 h_37 => guardP t42 true (k_11 out5 h_37) (k_11 undef h_37) ⟨⟩ ⟨⟩) (fun t44 _ => 
 Join1 (fun k_12 h_38 => guardP t42 true (Hp Try.prog true (Builtin.len_ #[22] 3 #[t44]) k_12 h_38 ⟨⟩) (k_12 undef h_38) ⟨⟩ ⟨⟩) (fun t45 _ => 
 Join1 (fun k_13 h_39 => guardP t42 true (Hp Try.prog true (binS .eql 3 (.tmp 45) (.const (.int .i64 0)) t45 (.int .i64 0)) k_13 h_39 ⟨⟩) (k_13 undef h_39) ⟨⟩ ⟨⟩) (fun t46 _ => 
 Join1 (fun k_14 h_40 => guardP t42 true (k_14 t46 h_40) (k_14 undef h_40) ⟨⟩ ⟨⟩) (fun t47 _ => 
 Join1 (fun k_15 h_41 => guardP t47 false (k_15 out5 h_41) (k_15 undef h_41) ⟨⟩ ⟨⟩) (fun t48 _ => 
 Join1 (fun k_16 h_42 => guardP t47 false (k_16 out5 h_42) (k_16 undef h_42) ⟨⟩ ⟨⟩) (fun t49 _ => 
 Join1 (fun k_17 h_43 => guardP t47 false (Hp Try.prog true (Builtin.len_ #[22] 3 #[t49]) k_17 h_43 ⟨⟩) (k_17 undef h_43) ⟨⟩ ⟨⟩) (fun t50 _ => 
 Join1 (fun k_18 h_44 => guardP t47 false (Hp Try.prog true (binS .sub 3 (.tmp 50) (.const (.int .i64 1)) t50 (.int .i64 1)) k_18 h_44 ⟨⟩) (k_18 undef h_44) ⟨⟩ ⟨⟩) (fun t51 _ => 
 Join1 (fun k_19 h_45 => guardP t47 false (Hp Try.prog true (Instr.indexAt 22 t48 t51) k_19 h_45 ⟨⟩) (k_19 undef h_45) ⟨⟩ ⟨⟩) (fun t52 _ => 
 Join1 (fun k_20 h_46 => guardP t47 false (Hp Try.prog true (Instr.fieldAt 24 t52 0) k_20 h_46 ⟨⟩) (k_20 undef h_46) ⟨⟩ ⟨⟩) (fun t53 _ => 
 Join1 (fun k_21 h_47 => guardP t47 false (Hp Try.prog true (Instr.loadAt 2 t53) k_21 h_47 ⟨⟩) (k_21 undef h_47) ⟨⟩ ⟨⟩) (fun t54 _ => 
 Join1 (fun k_22 h_48 => guardP t47 false (Hp Try.prog true (Instr.fieldAt 24 x3 0) k_22 h_48 ⟨⟩) (k_22 undef h_48) ⟨⟩ ⟨⟩) (fun t55 _ => 
 Join1 (fun k_23 h_49 => guardP t47 false (Hp Try.prog true (Instr.loadAt 2 t55) k_23 h_49 ⟨⟩) (k_23 undef h_49) ⟨⟩ ⟨⟩) (fun t56 _ => 
 Join1 (fun k_24 h_50 => guardP t47 false (Hp Try.prog true (binS .lss 2 (.tmp 54) (.tmp 56) t54 t56) k_24 h_50 ⟨⟩) (k_24 undef h_50) ⟨⟩ ⟨⟩) (fun t57 _ => 
 Join1 (fun k_25 h_51 => guardP t42 true (Hp Try.prog true (pickS t47 (.bool true) t57) k_25 h_51 ⟨⟩) (k_25 undef h_51) ⟨⟩ ⟨⟩) (fun t58 _ => 
 Hp Try.prog true (pickS t42 t58 (.bool false)) (fun t59 _ => 
 CondP t59 (
 Hp Try.prog false (Instr.loadAt 24 x3) (fun t61 h_52 => 
 Hp Try.prog false (Instr.buildSlice 22 1 #[(0, t61)]) (fun t62 h_53 => 
 Hp Try.prog false (Builtin.append_ #[22, 22] 22 #[out5, t62]) (fun t63 h_54 => 
 k_10 t63 h_54) h_53 ⟨⟩) h_52 ⟨⟩) h_36 ⟨⟩) (
 k_10 out5 h_36) ⟨⟩ ⟨⟩) #[] ⟨⟩) #[] ⟨⟩ ⟨⟩) #[] ⟨⟩ ⟨⟩) h_36 ⟨⟩ ⟨⟩) #[] ⟨⟩ ⟨⟩) h_36 ⟨⟩ ⟨⟩) #[] ⟨⟩ ⟨⟩) #[] ⟨⟩ ⟨⟩) #[] ⟨⟩ ⟨⟩) #[] ⟨⟩ ⟨⟩) #[] ⟨⟩ ⟨⟩) #[] ⟨⟩ ⟨⟩) #[] ⟨⟩ ⟨⟩) #[] ⟨⟩ ⟨⟩) #[] ⟨⟩ ⟨⟩) #[] ⟨⟩ ⟨⟩) #[] ⟨⟩) h_36 ⟨⟩) #[] ⟨⟩) h_36 ⟨⟩) #[] ⟨⟩)
 (fun out5_1 h_55 =>
 Hp Try.prog false (Instr.loadAt 24 y7) (fun t65 h_56 => 
 Hp Try.prog false (Instr.buildSlice 22 1 #[(0, t65)]) (fun t66 h_57 => 
 Hp Try.prog false (Builtin.append_ #[22, 22] 22 #[out5_1, t66]) (fun t67 h_58 => 
 k_1 t67 h_58) h_57 ⟨⟩) h_56 ⟨⟩) h_55 ⟨⟩) h_35 ⟨⟩ ⟨⟩) (
 Hp Try.prog true (Instr.fieldAt 24 x3 0) (fun t68 _ => 
 Hp Try.prog true (Instr.loadAt 2 t68) (fun t69 _ => 
 Hp Try.prog true (Instr.fieldAt 24 y7 0) (fun t70 _ => 
 Hp Try.prog true (Instr.loadAt 2 t70) (fun t71 _ => 
 Hp Try.prog true (Builtin.min_ #[2, 2] 2 #[t69, t71]) (fun t72 _ => 
 Hp Try.prog true (Instr.fieldAt 24 x3 0) (fun t73 _ => 
 Hp Try.prog true (Instr.loadAt 2 t73) (fun t74 _ => 
 Hp Try.prog true (Instr.fieldAt 24 x3 1) (fun t75 _ => 
 Hp Try.prog true (Instr.loadAt 2 t75) (fun t76 _ => 
 Hp Try.prog true (binS .add 2 (.tmp 74) (.tmp 76) t74 t76) (fun t77 _ => 
 Hp Try.prog true (Instr.fieldAt 24 y7 0) (fun t78 _ => 
 Hp Try.prog true (Instr.loadAt 2 t78) (fun t79 _ => 
 Hp Try.prog true (Instr.fieldAt 24 y7 1) (fun t80 _ => 
 Hp Try.prog true (Instr.loadAt 2 t80) (fun t81 _ => 
 Hp Try.prog true (binS .add 2 (.tmp 79) (.tmp 81) t79 t81) (fun t82 _ => 
 Hp Try.prog true (Builtin.max_ #[2, 2] 2 #[t77, t82]) (fun t83 _ => 
 Hp Try.prog false (binS .sub 2 (.tmp 85) (.tmp 86) t83 t72) (fun t87 h_59 => 
 Hp Try.prog false (Instr.build 24 #[(0, t72), (1, t87)]) (fun t88 h_60 => 
 Hp Try.prog false (storeS 24 x3 t88) (fun _ h_61 => 
 k_1 out5 h_61) h_60 ⟨⟩) h_59 ⟨⟩) h_35 ⟨⟩) #[] ⟨⟩) #[] ⟨⟩) h_35 ⟨⟩) #[] ⟨⟩) h_35 ⟨⟩) #[] ⟨⟩) #[] ⟨⟩) h_35 ⟨⟩) #[] ⟨⟩) h_35 ⟨⟩) #[] ⟨⟩) #[] ⟨⟩) h_35 ⟨⟩) #[] ⟨⟩) h_35 ⟨⟩) #[] ⟨⟩) ⟨⟩ ⟨⟩) h_34 ⟨⟩) h_32 ⟨⟩ ⟨⟩) h_30 ⟨⟩ ⟨⟩) h_28 ⟨⟩ ⟨⟩) h_26 ⟨⟩ ⟨⟩) h_24 ⟨⟩ ⟨⟩) h_22 ⟨⟩ ⟨⟩) h_20 ⟨⟩ ⟨⟩) h_18 ⟨⟩ ⟨⟩) h_17 ⟨⟩) h_16 ⟨⟩) h_15 ⟨⟩) h_14 ⟨⟩) h_13 ⟨⟩) h_12 ⟨⟩) h_11 ⟨⟩) h_10 ⟨⟩) h_9 ⟨⟩) h_8 ⟨⟩) h_7 ⟨⟩) h_6 ⟨⟩)
 (fun out5_2 h_62 =>
 k out5_2 h_62) h_5 ⟨⟩ ⟨⟩)
 (fun out5_3 h_63 =>
 Hp Try.prog false (binS .add 3 (.tmp 14) (.const (.int .i64 1)) i6 (.int .i64 1)) (fun t15 h_64 => 
 X out5_3 t15 h_64) h_63 ⟨⟩) h_4 ⟨⟩ ⟨⟩) (
 JoinN 1 (fun (k_26 : Value → Heap → Prop) h_65 =>
 Hp Try.prog true (Builtin.len_ #[22] 3 #[out5]) (fun t90 _ => 
 Hp Try.prog true (binS .eql 3 (.tmp 90) (.const (.int .i64 0)) t90 (.int .i64 0)) (fun t91 _ => 
 Join1 (fun k_27 h_66 => guardP t91 false (k_27 out5 h_66) (k_27 undef h_66) ⟨⟩ ⟨⟩) (fun t93 _ => 
 Join1 (fun k_28 h_67 => guardP t91 false (k_28 out5 h_67) (k_28 undef h_67) ⟨⟩ ⟨⟩) (fun t94 _ => 
 Join1 (fun k_29 h_68 => guardP t91 false (Hp Try.prog true (Builtin.len_ #[22] 3 #[t94]) k_29 h_68 ⟨⟩) (k_29 undef h_68) ⟨⟩ ⟨⟩) (fun t95 _ => 
 Join1 (fun k_30 h_69 => guardP t91 false (Hp Try.prog true (binS .sub 3 (.tmp 95) (.const (.int .i64 1)) t95 (.int .i64 1)) k_30 h_69 ⟨⟩) (k_30 undef h_69) ⟨⟩ ⟨⟩) (fun t96 _ => 
 Join1 (fun k_31 h_70 => guardP t91 false (Hp Try.prog true (Instr.indexAt 22 t93 t96) k_31 h_70 ⟨⟩) (k_31 undef h_70) ⟨⟩ ⟨⟩) (fun t97 _ => 
 Join1 (fun k_32 h_71 => guardP t91 false (Hp Try.prog true (Instr.fieldAt 24 t97 0) k_32 h_71 ⟨⟩) (k_32 undef h_71) ⟨⟩ ⟨⟩) (fun t98 _ => 
 Join1 (fun k_33 h_72 => guardP t91 false (Hp Try.prog true (Instr.loadAt 2 t98) k_33 h_72 ⟨⟩) (k_33 undef h_72) ⟨⟩ ⟨⟩) (fun t99 _ => 
 Join1 (fun k_34 h_73 => guardP t91 false (Hp Try.prog true (Instr.fieldAt 24 x3 0) k_34 h_73 ⟨⟩) (k_34 undef h_73) ⟨⟩ ⟨⟩) (fun t100 _ => 
 Join1 (fun k_35 h_74 => guardP t91 false (Hp Try.prog true (Instr.loadAt 2 t100) k_35 h_74 ⟨⟩) (k_35 undef h_74) ⟨⟩ ⟨⟩) (fun t101 _ => 
 Join1 (fun k_36 h_75 => guardP t91 false (Hp Try.prog true (binS .lss 2 (.tmp 99) (.tmp 101) t99 t101) k_36 h_75 ⟨⟩) (k_36 undef h_75) ⟨⟩ ⟨⟩) (fun t102 _ => 
 Hp Try.prog true (pickS t91 (.bool true) t102) (fun t103 _ => 
 CondP t103 (
 Hp Try.prog false (Instr.loadAt 24 x3) (fun t105 h_76 => 
 Hp Try.prog false (Instr.buildSlice 22 1 #[(0, t105)]) (fun t106 h_77 => 
 Hp Try.prog false (Builtin.append_ #[22, 22] 22 #[out5, t106]) (fun t107 h_78 => 
 k_26 t107 h_78) h_77 ⟨⟩) h_76 ⟨⟩) h_65 ⟨⟩) (
 k_26 out5 h_65) ⟨⟩ ⟨⟩) #[] ⟨⟩) #[] ⟨⟩ ⟨⟩) h_65 ⟨⟩ ⟨⟩) #[] ⟨⟩ ⟨⟩) h_65 ⟨⟩ ⟨⟩) #[] ⟨⟩ ⟨⟩) #[] ⟨⟩ ⟨⟩) #[] ⟨⟩ ⟨⟩) #[] ⟨⟩ ⟨⟩) #[] ⟨⟩ ⟨⟩) #[] ⟨⟩ ⟨⟩) #[] ⟨⟩) #[] ⟨⟩)
 (fun out5_4 h_79 =>
 R out5_4 h_79) h_4 ⟨⟩ ⟨⟩) ⟨⟩ ⟨⟩) h_3 ⟨⟩) h_2 ⟨⟩) [(.slice none 0 0), (.int .i64 0)] h_1 ⟨⟩) h ⟨⟩

theorem n46_calls {l0 x1 : Value} {R : Value → Heap → Prop} {h : Heap} (H : n46 l0 x1 R h) : CallsH Try.prog 46 #[l0, x1] h R ⟨⟩ :=
 callsH_of_eq Try.follow (.n none .l (.n none .l (.n none (.n none .l (.n none (.n (some [6, 7]) (.n none .l (.n (some [6]) (.n (some [6]) (.n none .l (.n none (.n none .l (.n none (.n (some [6]) .l .l) .l)) .l)) .l) .l)) .l) .l)) (.n (some [6]) .l .l)))) Try.func46 (by kernel_rfl) (by kernel_rfl) (by kernel_rfl) H

/-- (*palimpsest/palimpsestref13.Later).Cut -/
def n47 (q0 x1 : Value) (R : Value → Heap → Prop) (h : Heap) : Prop :=
 Hp Try.prog false (Instr.box 24 x1) (fun x3 h_1 => 
 Hp Try.prog false (Instr.loadAt 24 x3) (fun t8 h_2 => 
 CallsH Try.prog 18 #[t8] h_2 (fun t9 h_3 => 
 Hp Try.prog false (Op.unary .not t9) (fun t10 h_4 => 
 CondP t10 (
 R (.tuple #[(.int .i64 0), (.int .i64 2)]) h_4) (
 Hp Try.prog true (nilS q0) (fun t12 _ => 
 Hp Try.prog true (Instr.fieldAt 53 t12 0) (fun t13 _ => 
 Hp Try.prog true (Instr.loadAt 22 t13) (fun t14 _ => 
 Hp Try.prog true (Instr.loadAt 24 x3) (fun t15 _ => 
 CallsH Try.prog 63 #[t14, t15] h_4 (fun t16 h_5 => 
 Hp Try.prog false (Builtin.len_ #[22] 3 #[t16]) (fun t18 h_6 => 
 Hp Try.prog false (binS .gtr 3 (.tmp 18) (.const (.int .i64 4096)) t18 (.int .i64 4096)) (fun t19 h_7 => 
 CondP t19 (
 R (.tuple #[(.int .i64 0), (.int .i64 6)]) h_7) (
 Hp Try.prog false (nilS q0) (fun t21 h_8 => 
 Hp Try.prog false (Instr.fieldAt 53 t21 0) (fun t22 h_9 => 
 Hp Try.prog false (Instr.loadAt 22 t22) (fun t23 h_10 => 
 CallsH Try.prog 25 #[t23] h_10 (fun t24 h_11 => 
 CallsH Try.prog 25 #[t16] h_11 (fun t26 h_12 => 
 Hp Try.prog false (binS .sub 2 (.tmp 24) (.tmp 26) t24 t26) (fun t27 h_13 => 
 Hp Try.prog false (nilS q0) (fun t30 h_14 => 
 Hp Try.prog false (Instr.fieldAt 53 t30 0) (fun t31 h_15 => 
 Hp Try.prog false (storeS 22 t31 t16) (fun _ h_16 => 
 R (.tuple #[t27, (.int .i64 0)]) h_16) h_15 ⟨⟩) h_14 ⟨⟩) h_13 ⟨⟩) h_12 ⟨⟩) ⟨⟩) ⟨⟩) h_9 ⟨⟩) h_8 ⟨⟩) h_7 ⟨⟩) ⟨⟩ ⟨⟩) h_6 ⟨⟩) h_5 ⟨⟩) ⟨⟩) h_4 ⟨⟩) h_4 ⟨⟩) #[] ⟨⟩) #[] ⟨⟩) ⟨⟩ ⟨⟩) h_3 ⟨⟩) ⟨⟩) h_1 ⟨⟩) h ⟨⟩

theorem n47_calls {q0 x1 : Value} {R : Value → Heap → Prop} {h : Heap} (H : n47 q0 x1 R h) : CallsH Try.prog 47 #[q0, x1] h R ⟨⟩ :=
 callsH_of_eq Try.follow .l Try.func47 (by kernel_rfl) (by kernel_rfl) (by kernel_rfl) H

/-- (*palimpsest/palimpsestref13.Later).Next -/
def n48 (q0 most1 : Value) (R : Value → Heap → Prop) (h : Heap) : Prop :=
 Hp Try.prog false (Instr.alloc 24 true undef) (fun t4 h_1 => 
 Hp Try.prog false (binS .lss 2 (.tmp 7) (.const (.int .i64 1)) most1 (.int .i64 1)) (fun t8 h_2 => 
 CondP t8 (
 Hp Try.prog false (Instr.build 24 #[]) (fun t9 h_3 => 
 Hp Try.prog false (storeS 24 t4 t9) (fun _ h_4 => 
 Hp Try.prog true (loadCell 24 t4) (fun r _ =>
 R (.tuple #[r, (.int .i64 2)]) h_4) h_4 ⟨⟩) h_3 ⟨⟩) h_2 ⟨⟩) (
 Hp Try.prog false (nilS q0) (fun t11 h_5 => 
 Hp Try.prog false (Instr.fieldAt 53 t11 0) (fun t12 h_6 => 
 Hp Try.prog false (Instr.loadAt 22 t12) (fun t13 h_7 => 
 Hp Try.prog false (Builtin.len_ #[22] 3 #[t13]) (fun t14 h_8 => 
 Hp Try.prog false (binS .eql 3 (.tmp 14) (.const (.int .i64 0)) t14 (.int .i64 0)) (fun t15 h_9 => 
 CondP t15 (
 Hp Try.prog false (Instr.build 24 #[]) (fun t16 h_10 => 
 Hp Try.prog false (storeS 24 t4 t16) (fun _ h_11 => 
 Hp Try.prog true (loadCell 24 t4) (fun r_1 _ =>
 R (.tuple #[r_1, (.int .i64 7)]) h_11) h_11 ⟨⟩) h_10 ⟨⟩) h_9 ⟨⟩) (
 Hp Try.prog false (nilS q0) (fun t18 h_12 => 
 Hp Try.prog false (Instr.fieldAt 53 t18 0) (fun t19 h_13 => 
 Hp Try.prog false (Instr.loadAt 22 t19) (fun t20 h_14 => 
 Hp Try.prog false (Instr.indexAt 22 t20 (.int .i64 0)) (fun t21 h_15 => 
 Hp Try.prog false (Instr.loadAt 24 t21) (fun t22 h_16 => 
 Hp Try.prog false (Instr.alloc 24 true undef) (fun x6 h_17 => 
 Hp Try.prog false (storeS 24 x6 t22) (fun _ h_18 => 
 Hp Try.prog false (Instr.fieldAt 24 x6 1) (fun t23 h_19 => 
 Hp Try.prog false (Instr.loadAt 2 t23) (fun t24 h_20 => 
 Hp Try.prog false (Builtin.min_ #[2, 2] 2 #[t24, most1]) (fun t26 h_21 => 
 Hp Try.prog false (Instr.fieldAt 24 x6 1) (fun t27 h_22 => 
 Hp Try.prog false (storeS 2 t27 t26) (fun _ h_23 => 
 Hp Try.prog true (nilS q0) (fun t30 _ => 
 Hp Try.prog true (Instr.fieldAt 53 t30 0) (fun t31 _ => 
 Hp Try.prog true (Instr.loadAt 22 t31) (fun t32 _ => 
 Hp Try.prog true (Instr.loadAt 24 x6) (fun t33 _ => 
 CallsH Try.prog 63 #[t32, t33] h_23 (fun t34 h_24 => 
 Hp Try.prog true (nilS q0) (fun t35 _ => 
 Hp Try.prog true (Instr.fieldAt 53 t35 0) (fun t36 _ => 
 Hp Try.prog false (storeS 22 t36 t34) (fun _ h_25 => 
 Hp Try.prog false (Instr.loadAt 24 x6) (fun t37 h_26 => 
 Hp Try.prog false (storeS 24 t4 t37) (fun _ h_27 => 
 Hp Try.prog true (loadCell 24 t4) (fun r_2 _ =>
 R (.tuple #[r_2, (.int .i64 0)]) h_27) h_27 ⟨⟩) h_26 ⟨⟩) h_25 ⟨⟩) h_24 ⟨⟩) #[] ⟨⟩) #[] ⟨⟩) ⟨⟩) h_23 ⟨⟩) h_23 ⟨⟩) #[] ⟨⟩) #[] ⟨⟩) h_22 ⟨⟩) h_21 ⟨⟩) h_20 ⟨⟩) h_19 ⟨⟩) h_18 ⟨⟩) h_17 ⟨⟩) h_16 ⟨⟩) h_15 ⟨⟩) h_14 ⟨⟩) h_13 ⟨⟩) h_12 ⟨⟩) h_9 ⟨⟩) ⟨⟩ ⟨⟩) h_8 ⟨⟩) h_7 ⟨⟩) h_6 ⟨⟩) h_5 ⟨⟩) h_2 ⟨⟩) ⟨⟩ ⟨⟩) h_1 ⟨⟩) h ⟨⟩

theorem n48_calls {q0 most1 : Value} {R : Value → Heap → Prop} {h : Heap} (H : n48 q0 most1 R h) : CallsH Try.prog 48 #[q0, most1] h R ⟨⟩ :=
 callsH_of_eq Try.follow .l Try.func48 (by kernel_rfl) (by kernel_rfl) (by kernel_rfl) H

/-- (*palimpsest/palimpsestref13.Later).Greatest -/
def n49 (q0 : Value) (R : Value → Heap → Prop) (h : Heap) : Prop :=
 Hp Try.prog false (Instr.alloc 24 true undef) (fun t2 h_1 => 
 Hp Try.prog false (nilS q0) (fun t7 h_2 => 
 Hp Try.prog false (Instr.fieldAt 53 t7 0) (fun t8 h_3 => 
 Hp Try.prog false (Instr.loadAt 22 t8) (fun t9 h_4 => 
 Hp Try.prog false (Builtin.len_ #[22] 3 #[t9]) (fun t10 h_5 => 
 Hp Try.prog false (binS .eql 3 (.tmp 10) (.const (.int .i64 0)) t10 (.int .i64 0)) (fun t11 h_6 => 
 CondP t11 (
 Hp Try.prog false (Instr.build 24 #[]) (fun t12 h_7 => 
 Hp Try.prog false (storeS 24 t2 t12) (fun _ h_8 => 
 Hp Try.prog true (loadCell 24 t2) (fun r _ =>
 R (.tuple #[r, (.int .i64 7)]) h_8) h_8 ⟨⟩) h_7 ⟨⟩) h_6 ⟨⟩) (
 Hp Try.prog false (nilS q0) (fun t14 h_9 => 
 Hp Try.prog false (Instr.fieldAt 53 t14 0) (fun t15 h_10 => 
 Hp Try.prog false (Instr.loadAt 22 t15) (fun t16 h_11 => 
 Hp Try.prog false (Instr.indexAt 22 t16 (.int .i64 0)) (fun t17 h_12 => 
 Hp Try.prog false (Instr.loadAt 24 t17) (fun t18 h_13 => 
 Hp Try.prog false (Instr.alloc 24 true undef) (fun x4 h_14 => 
 Hp Try.prog false (storeS 24 x4 t18) (fun _ h_15 => 
 LoopC 1 (fun (X : Value → Heap → Prop) => fun i5 h_16 =>
 Hp Try.prog false (nilS q0) (fun t21 h_17 => 
 Hp Try.prog false (Instr.fieldAt 53 t21 0) (fun t22 h_18 => 
 Hp Try.prog false (Instr.loadAt 22 t22) (fun t23 h_19 => 
 Hp Try.prog false (Builtin.len_ #[22] 3 #[t23]) (fun t24 h_20 => 
 Hp Try.prog false (binS .lss 3 (.tmp 19) (.tmp 24) i5 t24) (fun t25 h_21 => 
 CondP t25 (
 JoinN 0 (fun (k : Heap → Prop) h_22 =>
 JoinN 0 (fun (k_1 : Heap → Prop) h_23 =>
 Hp Try.prog true (nilS q0) (fun t29 _ => 
 Hp Try.prog true (Instr.fieldAt 53 t29 0) (fun t30 _ => 
 Hp Try.prog true (Instr.loadAt 22 t30) (fun t31 _ => 
 Hp Try.prog true (Instr.indexAt 22 t31 i5) (fun t33 _ => 
 Hp Try.prog true (Instr.fieldAt 24 t33 1) (fun t34 _ => 
 Hp Try.prog true (Instr.loadAt 2 t34) (fun t35 _ => 
 Hp Try.prog true (Instr.fieldAt 24 x4 1) (fun t36 _ => 
 Hp Try.prog true (Instr.loadAt 2 t36) (fun t37 _ => 
 Hp Try.prog true (binS .gtr 2 (.tmp 35) (.tmp 37) t35 t37) (fun t38 _ => 
 CondP t38 (
 Hp Try.prog false (nilS q0) (fun t40 h_24 => 
 Hp Try.prog false (Instr.fieldAt 53 t40 0) (fun t41 h_25 => 
 Hp Try.prog false (Instr.loadAt 22 t41) (fun t42 h_26 => 
 Hp Try.prog false (Instr.indexAt 22 t42 i5) (fun t44 h_27 => 
 Hp Try.prog false (Instr.loadAt 24 t44) (fun t45 h_28 => 
 Hp Try.prog false (storeS 24 x4 t45) (fun _ h_29 => 
 k_1 h_29) h_28 ⟨⟩) h_27 ⟨⟩) h_26 ⟨⟩) h_25 ⟨⟩) h_24 ⟨⟩) h_23 ⟨⟩) (
 k_1 h_23) ⟨⟩ ⟨⟩) #[] ⟨⟩) h_23 ⟨⟩) #[] ⟨⟩) h_23 ⟨⟩) #[] ⟨⟩) #[] ⟨⟩) h_23 ⟨⟩) #[] ⟨⟩) #[] ⟨⟩)
 (fun h_30 =>
 k h_30) h_22 ⟨⟩ ⟨⟩)
 (fun h_31 =>
 Hp Try.prog false (binS .add 3 (.tmp 26) (.const (.int .i64 1)) i5 (.int .i64 1)) (fun t27 h_32 => 
 X t27 h_32) h_31 ⟨⟩) h_21 ⟨⟩ ⟨⟩) (
 Hp Try.prog true (nilS q0) (fun t48 _ => 
 Hp Try.prog true (Instr.fieldAt 53 t48 0) (fun t49 _ => 
 Hp Try.prog true (Instr.loadAt 22 t49) (fun t50 _ => 
 Hp Try.prog true (Instr.loadAt 24 x4) (fun t51 _ => 
 CallsH Try.prog 63 #[t50, t51] h_21 (fun t52 h_33 => 
 Hp Try.prog true (nilS q0) (fun t53 _ => 
 Hp Try.prog true (Instr.fieldAt 53 t53 0) (fun t54 _ => 
 Hp Try.prog false (storeS 22 t54 t52) (fun _ h_34 => 
 Hp Try.prog false (Instr.loadAt 24 x4) (fun t55 h_35 => 
 Hp Try.prog false (storeS 24 t2 t55) (fun _ h_36 => 
 Hp Try.prog true (loadCell 24 t2) (fun r_1 _ =>
 R (.tuple #[r_1, (.int .i64 0)]) h_36) h_36 ⟨⟩) h_35 ⟨⟩) h_34 ⟨⟩) h_33 ⟨⟩) #[] ⟨⟩) #[] ⟨⟩) ⟨⟩) h_21 ⟨⟩) h_21 ⟨⟩) #[] ⟨⟩) #[] ⟨⟩) ⟨⟩ ⟨⟩) h_20 ⟨⟩) h_19 ⟨⟩) h_18 ⟨⟩) h_17 ⟨⟩) h_16 ⟨⟩) [(.int .i64 1)] h_15 ⟨⟩) h_14 ⟨⟩) h_13 ⟨⟩) h_12 ⟨⟩) h_11 ⟨⟩) h_10 ⟨⟩) h_9 ⟨⟩) h_6 ⟨⟩) ⟨⟩ ⟨⟩) h_5 ⟨⟩) h_4 ⟨⟩) h_3 ⟨⟩) h_2 ⟨⟩) h_1 ⟨⟩) h ⟨⟩

theorem n49_calls {q0 : Value} {R : Value → Heap → Prop} {h : Heap} (H : n49 q0 R h) : CallsH Try.prog 49 #[q0] h R ⟨⟩ :=
 callsH_of_eq Try.follow (.n none .l (.n none .l (.n none .l (.n none (.n none .l (.n none (.n (some [6]) (.n none .l (.n (some []) (.n (some []) .l .l) .l)) .l) .l)) .l)))) Try.func49 (by kernel_rfl) (by kernel_rfl) (by kernel_rfl) H

/-- (*palimpsest/palimpsestref13.Later).Over -/
def n51 (q0 x1 : Value) (R : Value → Heap → Prop) (h : Heap) : Prop :=
 Hp Try.prog false (Instr.box 24 x1) (fun x3 h_1 => 
 LoopC 2 (fun (X : Value → Value → Heap → Prop) => fun n5 i6 h_2 =>
 Hp Try.prog false (nilS q0) (fun t11 h_3 => 
 Hp Try.prog false (Instr.fieldAt 53 t11 0) (fun t12 h_4 => 
 Hp Try.prog false (Instr.loadAt 22 t12) (fun t13 h_5 => 
 Hp Try.prog false (Builtin.len_ #[22] 3 #[t13]) (fun t14 h_6 => 
 Hp Try.prog false (binS .lss 3 (.tmp 9) (.tmp 14) i6 t14) (fun t15 h_7 => 
 CondP t15 (
 Hp Try.prog true (Instr.fieldAt 24 x3 0) (fun t18 _ => 
 Hp Try.prog true (Instr.loadAt 2 t18) (fun t19 _ => 
 Hp Try.prog true (nilS q0) (fun t21 _ => 
 Hp Try.prog true (Instr.fieldAt 53 t21 0) (fun t22 _ => 
 Hp Try.prog true (Instr.loadAt 22 t22) (fun t23 _ => 
 Hp Try.prog true (Instr.indexAt 22 t23 i6) (fun t25 _ => 
 Hp Try.prog true (Instr.fieldAt 24 t25 0) (fun t26 _ => 
 Hp Try.prog true (Instr.loadAt 2 t26) (fun t27 _ => 
 Hp Try.prog true (Builtin.max_ #[2, 2] 2 #[t19, t27]) (fun t28 _ => 
 Hp Try.prog true (Instr.fieldAt 24 x3 0) (fun t29 _ => 
 Hp Try.prog true (Instr.loadAt 2 t29) (fun t30 _ => 
 Hp Try.prog true (Instr.fieldAt 24 x3 1) (fun t31 _ => 
 Hp Try.prog true (Instr.loadAt 2 t31) (fun t32 _ => 
 Hp Try.prog true (binS .add 2 (.tmp 30) (.tmp 32) t30 t32) (fun t33 _ => 
 Hp Try.prog true (nilS q0) (fun t35 _ => 
 Hp Try.prog true (Instr.fieldAt 53 t35 0) (fun t36 _ => 
 Hp Try.prog true (Instr.loadAt 22 t36) (fun t37 _ => 
 Hp Try.prog true (Instr.indexAt 22 t37 i6) (fun t39 _ => 
 Hp Try.prog true (Instr.fieldAt 24 t39 0) (fun t40 _ => 
 Hp Try.prog true (Instr.loadAt 2 t40) (fun t41 _ => 
 Hp Try.prog true (nilS q0) (fun t43 _ => 
 Hp Try.prog true (Instr.fieldAt 53 t43 0) (fun t44 _ => 
 Hp Try.prog true (Instr.loadAt 22 t44) (fun t45 _ => 
 Hp Try.prog true (Instr.indexAt 22 t45 i6) (fun t47 _ => 
 Hp Try.prog true (Instr.fieldAt 24 t47 1) (fun t48 _ => 
 Hp Try.prog true (Instr.loadAt 2 t48) (fun t49 _ => 
 Hp Try.prog true (binS .add 2 (.tmp 41) (.tmp 49) t41 t49) (fun t50 _ => 
 Hp Try.prog true (Builtin.min_ #[2, 2] 2 #[t33, t50]) (fun t51 _ => 
 Hp Try.prog false (binS .sub 2 (.tmp 53) (.tmp 54) t51 t28) (fun t55 h_8 => 
 Hp Try.prog false (Builtin.max_ #[2, 2] 2 #[(.int .i64 0), t55]) (fun t56 h_9 => 
 Hp Try.prog false (binS .add 2 (.tmp 52) (.tmp 56) n5 t56) (fun t57 h_10 => 
 Hp Try.prog false (binS .add 3 (.tmp 16) (.const (.int .i64 1)) i6 (.int .i64 1)) (fun t17 h_11 => 
 X t57 t17 h_11) h_10 ⟨⟩) h_9 ⟨⟩) h_8 ⟨⟩) h_7 ⟨⟩) #[] ⟨⟩) #[] ⟨⟩) h_7 ⟨⟩) #[] ⟨⟩) #[] ⟨⟩) h_7 ⟨⟩) #[] ⟨⟩) #[] ⟨⟩) h_7 ⟨⟩) #[] ⟨⟩) #[] ⟨⟩) h_7 ⟨⟩) #[] ⟨⟩) #[] ⟨⟩) #[] ⟨⟩) h_7 ⟨⟩) #[] ⟨⟩) h_7 ⟨⟩) #[] ⟨⟩) #[] ⟨⟩) h_7 ⟨⟩) #[] ⟨⟩) #[] ⟨⟩) h_7 ⟨⟩) #[] ⟨⟩) #[] ⟨⟩) h_7 ⟨⟩) #[] ⟨⟩) (
 R n5 h_7) ⟨⟩ ⟨⟩) h_6 ⟨⟩) h_5 ⟨⟩) h_4 ⟨⟩) h_3 ⟨⟩) h_2 ⟨⟩) [(.int .i64 0), (.int .i64 0)] h_1 ⟨⟩) h ⟨⟩

theorem n51_calls {q0 x1 : Value} {R : Value → Heap → Prop} {h : Heap} (H : n51 q0 x1 R h) : CallsH Try.prog 51 #[q0, x1] h R ⟨⟩ :=
 callsH_of_eq Try.follow (.n none .l (.n none .l (.n none (.n none .l (.n none (.n (some [6, 7]) .l .l) .l)) .l))) Try.func51 (by kernel_rfl) (by kernel_rfl) (by kernel_rfl) H

/-- palimpsest/palimpsestref13.Less -/
def n63 (l0 x1 : Value) (R : Value → Heap → Prop) (h : Heap) : Prop :=
 Hp Try.prog false (Instr.box 24 x1) (fun x3 h_1 => 
 LoopC 2 (fun (X : Value → Value → Heap → Prop) => fun out5 i6 h_2 =>
 Hp Try.prog false (Builtin.len_ #[22] 3 #[l0]) (fun t12 h_3 => 
 Hp Try.prog false (binS .lss 3 (.tmp 10) (.tmp 12) i6 t12) (fun t13 h_4 => 
 CondP t13 (
 JoinN 1 (fun (k : Value → Heap → Prop) h_5 =>
 JoinN 1 (fun (k_1 : Value → Heap → Prop) h_6 =>
 Hp Try.prog false (Instr.indexAt 22 l0 i6) (fun t18 h_7 => 
 Hp Try.prog false (Instr.loadAt 24 t18) (fun t19 h_8 => 
 Hp Try.prog false (Instr.alloc 24 true undef) (fun y7 h_9 => 
 Hp Try.prog false (storeS 24 y7 t19) (fun _ h_10 => 
 JoinN 1 (fun (k_2 : Value → Heap → Prop) h_11 =>
 Hp Try.prog false (Instr.fieldAt 24 y7 0) (fun t20 h_12 => 
 Hp Try.prog false (Instr.loadAt 2 t20) (fun t21 h_13 => 
 Hp Try.prog false (Instr.fieldAt 24 y7 1) (fun t22 h_14 => 
 Hp Try.prog false (Instr.loadAt 2 t22) (fun t23 h_15 => 
 Hp Try.prog false (binS .add 2 (.tmp 21) (.tmp 23) t21 t23) (fun t24 h_16 => 
 Hp Try.prog false (Instr.fieldAt 24 x3 0) (fun t25 h_17 => 
 Hp Try.prog false (Instr.loadAt 2 t25) (fun t26 h_18 => 
 Hp Try.prog false (Builtin.min_ #[2, 2] 2 #[t24, t26]) (fun t27 h_19 => 
 Hp Try.prog false (Instr.fieldAt 24 y7 0) (fun t28 h_20 => 
 Hp Try.prog false (Instr.loadAt 2 t28) (fun t29 h_21 => 
 Hp Try.prog false (binS .lss 2 (.tmp 29) (.tmp 30) t29 t27) (fun t31 h_22 => 
 CondP t31 (
 Hp Try.prog false (Instr.fieldAt 24 y7 0) (fun t33 h_23 => 
 Hp Try.prog false (Instr.loadAt 2 t33) (fun t34 h_24 => 
 Hp Try.prog false (Instr.fieldAt 24 y7 0) (fun t36 h_25 => 
 Hp Try.prog false (Instr.loadAt 2 t36) (fun t37 h_26 => 
 Hp Try.prog false (binS .sub 2 (.tmp 35) (.tmp 37) t27 t37) (fun t38 h_27 => 
 Hp Try.prog false (Instr.build 24 #[(0, t34), (1, t38)]) (fun t39 h_28 => 
 Hp Try.prog false (Instr.buildSlice 22 1 #[(0, t39)]) (fun t40 h_29 => 
 Hp Try.prog false (Builtin.append_ #[22, 22] 22 #[out5, t40]) (fun t41 h_30 => 
 k_2 t41 h_30) h_29 ⟨⟩) h_28 ⟨⟩) h_27 ⟨⟩) h_26 ⟨⟩) h_25 ⟨⟩) h_24 ⟨⟩) h_23 ⟨⟩) h_22 ⟨⟩) (
 k_2 out5 h_22) ⟨⟩ ⟨⟩) h_21 ⟨⟩) h_20 ⟨⟩) h_19 ⟨⟩) h_18 ⟨⟩) h_17 ⟨⟩) h_16 ⟨⟩) h_15 ⟨⟩) h_14 ⟨⟩) h_13 ⟨⟩) h_12 ⟨⟩) h_11 ⟨⟩)
 (fun out5_1 h_31 =>
 Hp Try.prog false (Instr.fieldAt 24 y7 0) (fun t42 h_32 => 
 Hp Try.prog false (Instr.loadAt 2 t42) (fun t43 h_33 => 
 Hp Try.prog false (Instr.fieldAt 24 x3 0) (fun t44 h_34 => 
 Hp Try.prog false (Instr.loadAt 2 t44) (fun t45 h_35 => 
 Hp Try.prog false (Instr.fieldAt 24 x3 1) (fun t46 h_36 => 
 Hp Try.prog false (Instr.loadAt 2 t46) (fun t47 h_37 => 
 Hp Try.prog false (binS .add 2 (.tmp 45) (.tmp 47) t45 t47) (fun t48 h_38 => 
 Hp Try.prog false (Builtin.max_ #[2, 2] 2 #[t43, t48]) (fun t49 h_39 => 
 Hp Try.prog false (Instr.fieldAt 24 y7 0) (fun t51 h_40 => 
 Hp Try.prog false (Instr.loadAt 2 t51) (fun t52 h_41 => 
 Hp Try.prog false (Instr.fieldAt 24 y7 1) (fun t53 h_42 => 
 Hp Try.prog false (Instr.loadAt 2 t53) (fun t54 h_43 => 
 Hp Try.prog false (binS .add 2 (.tmp 52) (.tmp 54) t52 t54) (fun t55 h_44 => 
 Hp Try.prog false (binS .lss 2 (.tmp 50) (.tmp 55) t49 t55) (fun t56 h_45 => 
 CondP t56 (
 Hp Try.prog false (Instr.fieldAt 24 y7 0) (fun t59 h_46 => 
 Hp Try.prog false (Instr.loadAt 2 t59) (fun t60 h_47 => 
 Hp Try.prog false (Instr.fieldAt 24 y7 1) (fun t61 h_48 => 
 Hp Try.prog false (Instr.loadAt 2 t61) (fun t62 h_49 => 
 Hp Try.prog false (binS .add 2 (.tmp 60) (.tmp 62) t60 t62) (fun t63 h_50 => 
 Hp Try.prog false (binS .sub 2 (.tmp 63) (.tmp 64) t63 t49) (fun t65 h_51 => 
 Hp Try.prog false (Instr.build 24 #[(0, t49), (1, t65)]) (fun t66 h_52 => 
 Hp Try.prog false (Instr.buildSlice 22 1 #[(0, t66)]) (fun t67 h_53 => 
 Hp Try.prog false (Builtin.append_ #[22, 22] 22 #[out5_1, t67]) (fun t68 h_54 => 
 k_1 t68 h_54) h_53 ⟨⟩) h_52 ⟨⟩) h_51 ⟨⟩) h_50 ⟨⟩) h_49 ⟨⟩) h_48 ⟨⟩) h_47 ⟨⟩) h_46 ⟨⟩) h_45 ⟨⟩) (
 k_1 out5_1 h_45) ⟨⟩ ⟨⟩) h_44 ⟨⟩) h_43 ⟨⟩) h_42 ⟨⟩) h_41 ⟨⟩) h_40 ⟨⟩) h_39 ⟨⟩) h_38 ⟨⟩) h_37 ⟨⟩) h_36 ⟨⟩) h_35 ⟨⟩) h_34 ⟨⟩) h_33 ⟨⟩) h_32 ⟨⟩) h_31 ⟨⟩) h_10 ⟨⟩ ⟨⟩) h_9 ⟨⟩) h_8 ⟨⟩) h_7 ⟨⟩) h_6 ⟨⟩)
 (fun out5_2 h_55 =>
 k out5_2 h_55) h_5 ⟨⟩ ⟨⟩)
 (fun out5_3 h_56 =>
 Hp Try.prog false (binS .add 3 (.tmp 14) (.const (.int .i64 1)) i6 (.int .i64 1)) (fun t15 h_57 => 
 X out5_3 t15 h_57) h_56 ⟨⟩) h_4 ⟨⟩ ⟨⟩) (
 R out5 h_4) ⟨⟩ ⟨⟩) h_3 ⟨⟩) h_2 ⟨⟩) [(.slice none 0 0), (.int .i64 0)] h_1 ⟨⟩) h ⟨⟩

theorem n63_calls {l0 x1 : Value} {R : Value → Heap → Prop} {h : Heap} (H : n63 l0 x1 R h) : CallsH Try.prog 63 #[l0, x1] h R ⟨⟩ :=
 callsH_of_eq Try.follow (.n none .l (.n none .l (.n none (.n none .l (.n none (.n (some [6, 7]) (.n none .l (.n (some [6]) (.n (some [6]) (.n none .l (.n (some [6]) .l .l)) .l) .l)) .l) .l)) .l))) Try.func63 (by kernel_rfl) (by kernel_rfl) (by kernel_rfl) H

end Go.Proofs.Ytgcllbelgakjgaa

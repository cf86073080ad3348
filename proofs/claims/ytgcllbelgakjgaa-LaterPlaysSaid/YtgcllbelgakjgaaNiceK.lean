/- Printed by wip/tools/gen.py: the condition of each function, and that a call meets it. -/
import Derived.Test.YtgcllbelgakjgaaVcFun
import Derived.Test.YtgcllbelgakjgaaProg
set_option maxRecDepth 100000
set_option linter.unusedVariables false
namespace Go.Proofs.Ytgcllbelgakjgaa
open Go.Vc

theorem Try.follow : Try.prog.follows .mixedOrders = true := by kernel_rfl

/-- slices.ContainsFunc[[]palimpsest/api.Run,palimpsest/api.Run] -/
def n31 (s0 f1 : Value) (R : Value → Heap → Prop) (h : Heap) : Prop :=
 CallsH Try.prog 53 #[s0, f1] h (fun t7 h_1 => 
 Hp Try.prog false (binS .geq 3 (.tmp 7) (.const (.int .i64 0)) t7 (.int .i64 0)) (fun t8 h_2 => 
 R t8 h_2) h_1 ⟨⟩) ⟨⟩

theorem n31_calls {s0 f1 : Value} {R : Value → Heap → Prop} {h : Heap} (H : n31 s0 f1 R h) : CallsH Try.prog 31 #[s0, f1] h R ⟨⟩ :=
 callsH_of_eq Try.follow .l Try.func31 (by kernel_rfl) (by kernel_rfl) (by kernel_rfl) H

/-- (*palimpsest/later.Later).Put$1 -/
def n32 (x0 : Value) (R : Value → Heap → Prop) (h : Heap) : Prop :=
 Hp Try.prog false (Instr.box 24 x0) (fun x1 h_1 => 
 Hp Try.prog false (Instr.loadAt 24 x1) (fun t3 h_2 => 
 CallsH Try.prog 33 #[t3] h_2 (fun t4 h_3 => 
 Hp Try.prog false (Op.unary .not t4) (fun t5 h_4 => 
 R t5 h_4) h_3 ⟨⟩) ⟨⟩) h_1 ⟨⟩) h ⟨⟩

theorem n32_calls {x0 : Value} {R : Value → Heap → Prop} {h : Heap} (H : n32 x0 R h) : CallsH Try.prog 32 #[x0] h R ⟨⟩ :=
 callsH_of_eq Try.follow .l Try.func32 (by kernel_rfl) (by kernel_rfl) (by kernel_rfl) H

/-- palimpsest/later.may -/
def n33 (x0 : Value) (R : Value → Heap → Prop) (h : Heap) : Prop :=
 Hp Try.prog false (Instr.box 24 x0) (fun x1 h_1 => 
 Hp Try.prog false (Instr.fieldAt 24 x1 0) (fun t3 h_2 => 
 Hp Try.prog false (Instr.loadAt 2 t3) (fun t4 h_3 => 
 Hp Try.prog false (binS .geq 2 (.tmp 4) (.const (.int .i64 0)) t4 (.int .i64 0)) (fun t5 h_4 => 
 Join1 (fun k h_5 => guardP t5 true (Hp Try.prog false (Instr.fieldAt 24 x1 1) k h_5 ⟨⟩) (k undef h_5) ⟨⟩ ⟨⟩) (fun t7 h_6 => 
 Join1 (fun k_1 h_7 => guardP t5 true (Hp Try.prog false (Instr.loadAt 2 t7) k_1 h_7 ⟨⟩) (k_1 undef h_7) ⟨⟩ ⟨⟩) (fun t8 h_8 => 
 Join1 (fun k_2 h_9 => guardP t5 true (Hp Try.prog false (binS .geq 2 (.tmp 8) (.const (.int .i64 1)) t8 (.int .i64 1)) k_2 h_9 ⟨⟩) (k_2 undef h_9) ⟨⟩ ⟨⟩) (fun t9 h_10 => 
 Hp Try.prog false (pickS t5 t9 (.bool false)) (fun t10 h_11 => 
 Join1 (fun k_3 h_12 => guardP t10 true (Hp Try.prog false (Instr.fieldAt 24 x1 0) k_3 h_12 ⟨⟩) (k_3 undef h_12) ⟨⟩ ⟨⟩) (fun t12 h_13 => 
 Join1 (fun k_4 h_14 => guardP t10 true (Hp Try.prog false (Instr.loadAt 2 t12) k_4 h_14 ⟨⟩) (k_4 undef h_14) ⟨⟩ ⟨⟩) (fun t13 h_15 => 
 Join1 (fun k_5 h_16 => guardP t10 true (Hp Try.prog false (binS .leq 2 (.tmp 13) (.const (.int .i64 72057594037927936)) t13 (.int .i64 72057594037927936)) k_5 h_16 ⟨⟩) (k_5 undef h_16) ⟨⟩ ⟨⟩) (fun t14 h_17 => 
 Hp Try.prog false (pickS t10 t14 (.bool false)) (fun t15 h_18 => 
 Join1 (fun k_6 h_19 => guardP t15 true (Hp Try.prog false (Instr.fieldAt 24 x1 1) k_6 h_19 ⟨⟩) (k_6 undef h_19) ⟨⟩ ⟨⟩) (fun t17 h_20 => 
 Join1 (fun k_7 h_21 => guardP t15 true (Hp Try.prog false (Instr.loadAt 2 t17) k_7 h_21 ⟨⟩) (k_7 undef h_21) ⟨⟩ ⟨⟩) (fun t18 h_22 => 
 Join1 (fun k_8 h_23 => guardP t15 true (Hp Try.prog false (Instr.fieldAt 24 x1 0) k_8 h_23 ⟨⟩) (k_8 undef h_23) ⟨⟩ ⟨⟩) (fun t19 h_24 => 
 Join1 (fun k_9 h_25 => guardP t15 true (Hp Try.prog false (Instr.loadAt 2 t19) k_9 h_25 ⟨⟩) (k_9 undef h_25) ⟨⟩ ⟨⟩) (fun t20 h_26 => 
 Join1 (fun k_10 h_27 => guardP t15 true (Hp Try.prog false (binS .sub 2 (.const (.int .i64 72057594037927936)) (.tmp 20) (.int .i64 72057594037927936) t20) k_10 h_27 ⟨⟩) (k_10 undef h_27) ⟨⟩ ⟨⟩) (fun t21 h_28 => 
 Join1 (fun k_11 h_29 => guardP t15 true (Hp Try.prog false (binS .leq 2 (.tmp 18) (.tmp 21) t18 t21) k_11 h_29 ⟨⟩) (k_11 undef h_29) ⟨⟩ ⟨⟩) (fun t22 h_30 => 
 Hp Try.prog false (pickS t15 t22 (.bool false)) (fun t23 h_31 => 
 R t23 h_31) h_30 ⟨⟩) h_28 ⟨⟩ ⟨⟩) h_26 ⟨⟩ ⟨⟩) h_24 ⟨⟩ ⟨⟩) h_22 ⟨⟩ ⟨⟩) h_20 ⟨⟩ ⟨⟩) h_18 ⟨⟩ ⟨⟩) h_17 ⟨⟩) h_15 ⟨⟩ ⟨⟩) h_13 ⟨⟩ ⟨⟩) h_11 ⟨⟩ ⟨⟩) h_10 ⟨⟩) h_8 ⟨⟩ ⟨⟩) h_6 ⟨⟩ ⟨⟩) h_4 ⟨⟩ ⟨⟩) h_3 ⟨⟩) h_2 ⟨⟩) h_1 ⟨⟩) h ⟨⟩

theorem n33_calls {x0 : Value} {R : Value → Heap → Prop} {h : Heap} (H : n33 x0 R h) : CallsH Try.prog 33 #[x0] h R ⟨⟩ :=
 callsH_of_eq Try.follow .l Try.func33 (by kernel_rfl) (by kernel_rfl) (by kernel_rfl) H

/-- slices.Concat[[]palimpsest/api.Run,palimpsest/api.Run] -/
def n37 (slices0 : Value) (R : Value → Heap → Prop) (h : Heap) : Prop :=
 Hp Try.prog false (Builtin.len_ #[90] 3 #[slices0]) (fun t10 h_1 => 
 LoopC 2 (fun (X : Value → Value → Heap → Prop) => fun size3 t11 h_2 =>
 Hp Try.prog false (binS .lss 3 (.tmp 11) (.tmp 10) t11 t10) (fun t12 h_3 => 
 CondP t12 (
 JoinN 1 (fun (k : Value → Heap → Prop) h_4 =>
 JoinN 1 (fun (k_1 : Value → Heap → Prop) h_5 =>
 Hp Try.prog false (Instr.indexAt 90 slices0 t11) (fun t13 h_6 => 
 Hp Try.prog false (Instr.loadAt 22 t13) (fun t14 h_7 => 
 Hp Try.prog false (Builtin.len_ #[22] 3 #[t14]) (fun t17 h_8 => 
 Hp Try.prog false (binS .add 3 (.tmp 15) (.tmp 17) size3 t17) (fun t18 h_9 => 
 Hp Try.prog false (binS .lss 3 (.tmp 19) (.const (.int .i64 0)) t18 (.int .i64 0)) (fun t20 h_10 => 
 CondP t20 (
 Hp Try.prog false (Instr.makeInterface 9 (str [108, 101, 110, 32, 111, 117, 116, 32, 111, 102, 32, 114, 97, 110, 103, 101])) (fun t21 h_11 => 
 False) h_10 ⟨⟩) (
 k_1 t18 h_10) ⟨⟩ ⟨⟩) h_9 ⟨⟩) h_8 ⟨⟩) h_7 ⟨⟩) h_6 ⟨⟩) h_5 ⟨⟩)
 (fun size3_1 h_12 =>
 k size3_1 h_12) h_4 ⟨⟩ ⟨⟩)
 (fun size3_2 h_13 =>
 Hp Try.prog false (binS .add 3 (.tmp 11) (.const (.int .i64 1)) t11 (.int .i64 1)) (fun t22 h_14 => 
 X size3_2 t22 h_14) h_13 ⟨⟩) h_3 ⟨⟩ ⟨⟩) (
 CallsH Try.prog 57 #[(.slice none 0 0), size3] h_3 (fun t24 h_15 => 
 Hp Try.prog false (Builtin.len_ #[90] 3 #[slices0]) (fun t26 h_16 => 
 LoopC 2 (fun (X_1 : Value → Value → Heap → Prop) => fun newslice6 t27 h_17 =>
 Hp Try.prog false (binS .lss 3 (.tmp 27) (.tmp 26) t27 t26) (fun t28 h_18 => 
 CondP t28 (
 Hp Try.prog false (Instr.indexAt 90 slices0 t27) (fun t29 h_19 => 
 Hp Try.prog false (Instr.loadAt 22 t29) (fun t30 h_20 => 
 Hp Try.prog false (Builtin.append_ #[22, 22] 22 #[newslice6, t30]) (fun t33 h_21 => 
 Hp Try.prog false (binS .add 3 (.tmp 27) (.const (.int .i64 1)) t27 (.int .i64 1)) (fun t34 h_22 => 
 X_1 t33 t34 h_22) h_21 ⟨⟩) h_20 ⟨⟩) h_19 ⟨⟩) h_18 ⟨⟩) (
 R newslice6 h_18) ⟨⟩ ⟨⟩) h_17 ⟨⟩) [t24, (.int .i64 0)] h_16 ⟨⟩) h_15 ⟨⟩) ⟨⟩) ⟨⟩ ⟨⟩) h_2 ⟨⟩) [(.int .i64 0), (.int .i64 0)] h_1 ⟨⟩) h ⟨⟩

theorem n37_calls {slices0 : Value} {R : Value → Heap → Prop} {h : Heap} (H : n37 slices0 R h) : CallsH Try.prog 37 #[slices0] h R ⟨⟩ :=
 callsH_of_eq Try.follow (.n none .l (.n none .l (.n none (.n none .l (.n none (.n (some [4, 12]) (.n none .l (.n none .l (.n (some [4]) (.n (some [4]) .l .l) .l))) .l) .l)) (.n none .l (.n none (.n none .l (.n none (.n (some [7, 28]) .l .l) .l)) .l))))) Try.func37 (by kernel_rfl) (by kernel_rfl) (by kernel_rfl) H

/-- slices.Equal[[]palimpsest/api.Run,palimpsest/api.Run] -/
def n43 (s10 s21 : Value) (R : Value → Heap → Prop) (h : Heap) : Prop :=
 Hp Try.prog false (Builtin.len_ #[22] 3 #[s10]) (fun t7 h_1 => 
 Hp Try.prog false (Builtin.len_ #[22] 3 #[s21]) (fun t9 h_2 => 
 Hp Try.prog false (binS .neq 3 (.tmp 7) (.tmp 9) t7 t9) (fun t10 h_3 => 
 CondP t10 (
 R (.bool false) h_3) (
 Hp Try.prog false (Builtin.len_ #[22] 3 #[s10]) (fun t12 h_4 => 
 LoopC 1 (fun (X : Value → Heap → Prop) => fun t13 h_5 =>
 Hp Try.prog false (binS .lss 3 (.tmp 13) (.tmp 12) t13 t12) (fun t14 h_6 => 
 CondP t14 (
 Hp Try.prog true (Instr.indexAt 22 s10 t13) (fun t18 _ => 
 Hp Try.prog true (Instr.loadAt 24 t18) (fun t19 _ => 
 Hp Try.prog true (Instr.indexAt 22 s21 t13) (fun t22 _ => 
 Hp Try.prog true (Instr.loadAt 24 t22) (fun t23 _ => 
 Hp Try.prog true (binS .neq 24 (.tmp 19) (.tmp 23) t19 t23) (fun t24 _ => 
 CondP t24 (
 R (.bool false) h_6) (
 Hp Try.prog false (binS .add 3 (.tmp 13) (.const (.int .i64 1)) t13 (.int .i64 1)) (fun t25 h_7 => 
 X t25 h_7) h_6 ⟨⟩) ⟨⟩ ⟨⟩) #[] ⟨⟩) h_6 ⟨⟩) #[] ⟨⟩) h_6 ⟨⟩) #[] ⟨⟩) (
 R (.bool true) h_6) ⟨⟩ ⟨⟩) h_5 ⟨⟩) [(.int .i64 0)] h_4 ⟨⟩) h_3 ⟨⟩) ⟨⟩ ⟨⟩) h_2 ⟨⟩) h_1 ⟨⟩) h ⟨⟩

theorem n43_calls {s10 s21 : Value} {R : Value → Heap → Prop} {h : Heap} (H : n43 s10 s21 R h) : CallsH Try.prog 43 #[s10, s21] h R ⟨⟩ :=
 callsH_of_eq Try.follow (.n none .l (.n none .l (.n none (.n none .l (.n none (.n (some [14]) .l .l) .l)) .l))) Try.func43 (by kernel_rfl) (by kernel_rfl) (by kernel_rfl) H

/-- slices.Values[[]palimpsest/api.Run,palimpsest/api.Run] -/
def n45 (s0 : Value) (R : Value → Heap → Prop) (h : Heap) : Prop :=
 Hp Try.prog false (Instr.box 22 s0) (fun s1 h_1 => 
 Hp Try.prog false (pure (.func (.func 62) #[] #[s1])) (fun t3 h_2 => 
 R t3 h_2) h_1 ⟨⟩) h ⟨⟩

theorem n45_calls {s0 : Value} {R : Value → Heap → Prop} {h : Heap} (H : n45 s0 R h) : CallsH Try.prog 45 #[s0] h R ⟨⟩ :=
 callsH_of_eq Try.follow .l Try.func45 (by kernel_rfl) (by kernel_rfl) (by kernel_rfl) H

/-- palimpsest/later.first -/
def n52 (a0 b1 : Value) (R : Value → Heap → Prop) (h : Heap) : Prop :=
 Hp Try.prog true (nilS a0) (fun t6 _ => 
 Hp Try.prog true (Instr.fieldAt 24 t6 0) (fun t7 _ => 
 Hp Try.prog true (Instr.loadAt 2 t7) (fun t8 _ => 
 Hp Try.prog true (nilS b1) (fun t10 _ => 
 Hp Try.prog true (Instr.fieldAt 24 t10 0) (fun t11 _ => 
 Hp Try.prog true (Instr.loadAt 2 t11) (fun t12 _ => 
 Hp Try.prog true (binS .lss 2 (.tmp 8) (.tmp 12) t8 t12) (fun t13 _ => 
 R t13 h) #[] ⟨⟩) h ⟨⟩) #[] ⟨⟩) #[] ⟨⟩) h ⟨⟩) #[] ⟨⟩) #[] ⟨⟩

theorem n52_calls {a0 b1 : Value} {R : Value → Heap → Prop} {h : Heap} (H : n52 a0 b1 R h) : CallsH Try.prog 52 #[a0, b1] h R ⟨⟩ :=
 callsH_of_eq Try.follow .l Try.func52 (by kernel_rfl) (by kernel_rfl) (by kernel_rfl) H

/-- slices.IndexFunc[[]palimpsest/api.Run,palimpsest/api.Run] -/
def n53 (s0 f1 : Value) (R : Value → Heap → Prop) (h : Heap) : Prop :=
 Hp Try.prog false (Builtin.len_ #[22] 3 #[s0]) (fun t7 h_1 => 
 LoopC 1 (fun (X : Value → Heap → Prop) => fun t8 h_2 =>
 Hp Try.prog false (binS .lss 3 (.tmp 8) (.tmp 7) t8 t7) (fun t9 h_3 => 
 CondP t9 (
 Hp Try.prog false (Instr.indexAt 22 s0 t8) (fun t14 h_4 => 
 Hp Try.prog false (Instr.loadAt 24 t14) (fun t15 h_5 => 
 InvokeH Try.prog f1 #[t15] h_5 (fun t16 h_6 => 
 CondP t16 (
 R t8 h_6) (
 Hp Try.prog false (binS .add 3 (.tmp 8) (.const (.int .i64 1)) t8 (.int .i64 1)) (fun t18 h_7 => 
 X t18 h_7) h_6 ⟨⟩) ⟨⟩ ⟨⟩) ⟨⟩) h_4 ⟨⟩) h_3 ⟨⟩) (
 R (.int .i64 (-1)) h_3) ⟨⟩ ⟨⟩) h_2 ⟨⟩) [(.int .i64 0)] h_1 ⟨⟩) h ⟨⟩

theorem n53_calls {s0 f1 : Value} {R : Value → Heap → Prop} {h : Heap} (H : n53 s0 f1 R h) : CallsH Try.prog 53 #[s0, f1] h R ⟨⟩ :=
 callsH_of_eq Try.follow (.n none .l (.n none (.n none .l (.n none (.n (some [9]) .l .l) .l)) .l)) Try.func53 (by kernel_rfl) (by kernel_rfl) (by kernel_rfl) H

/-- slices.SortFunc[[]palimpsest/api.Run,palimpsest/api.Run] -/
def n54 (x0 cmp1 : Value) (R : Value → Heap → Prop) (h : Heap) : Prop :=
 Hp Try.prog false (Builtin.len_ #[22] 3 #[x0]) (fun t6 h_1 => 
 Hp Try.prog false (convert 3 99 t6) (fun t10 h_2 => 
 CallsH Try.prog 65 #[t10] h_2 (fun t11 h_3 => 
 CallsH Try.prog 64 #[x0, (.int .i64 0), t6, t11, cmp1] h_3 (fun t13 h_4 => 
 R (.tuple #[]) h_4) ⟨⟩) ⟨⟩) h_1 ⟨⟩) h ⟨⟩

theorem n54_calls {x0 cmp1 : Value} {R : Value → Heap → Prop} {h : Heap} (H : n54 x0 cmp1 R h) : CallsH Try.prog 54 #[x0, cmp1] h R ⟨⟩ :=
 callsH_of_eq Try.follow .l Try.func54 (by kernel_rfl) (by kernel_rfl) (by kernel_rfl) H

/-- (*palimpsest/later.Later).list$1 -/
def n55 (a0 b1 : Value) (R : Value → Heap → Prop) (h : Heap) : Prop :=
 Hp Try.prog false (Instr.box 24 a0) (fun a2 h_1 => 
 Hp Try.prog false (Instr.box 24 b1) (fun b3 h_2 => 
 Hp Try.prog false (Instr.fieldAt 24 a2 0) (fun t5 h_3 => 
 Hp Try.prog false (Instr.loadAt 2 t5) (fun t6 h_4 => 
 Hp Try.prog false (Instr.fieldAt 24 b3 0) (fun t7 h_5 => 
 Hp Try.prog false (Instr.loadAt 2 t7) (fun t8 h_6 => 
 Hp Try.prog false (binS .sub 2 (.tmp 6) (.tmp 8) t6 t8) (fun t9 h_7 => 
 Hp Try.prog false (Builtin.max_ #[2, 2] 2 #[(.int .i64 (-1)), t9]) (fun t10 h_8 => 
 Hp Try.prog false (Builtin.min_ #[2, 2] 2 #[(.int .i64 1), t10]) (fun t11 h_9 => 
 R t11 h_9) h_8 ⟨⟩) h_7 ⟨⟩) h_6 ⟨⟩) h_5 ⟨⟩) h_4 ⟨⟩) h_3 ⟨⟩) h_2 ⟨⟩) h_1 ⟨⟩) h ⟨⟩

theorem n55_calls {a0 b1 : Value} {R : Value → Heap → Prop} {h : Heap} (H : n55 a0 b1 R h) : CallsH Try.prog 55 #[a0, b1] h R ⟨⟩ :=
 callsH_of_eq Try.follow .l Try.func55 (by kernel_rfl) (by kernel_rfl) (by kernel_rfl) H

/-- palimpsest/later.together$1 -/
def n56 (a0 b1 : Value) (R : Value → Heap → Prop) (h : Heap) : Prop :=
 Hp Try.prog false (Instr.box 24 a0) (fun a2 h_1 => 
 Hp Try.prog false (Instr.box 24 b1) (fun b3 h_2 => 
 Hp Try.prog false (Instr.fieldAt 24 a2 0) (fun t5 h_3 => 
 Hp Try.prog false (Instr.loadAt 2 t5) (fun t6 h_4 => 
 Hp Try.prog false (Instr.fieldAt 24 b3 0) (fun t7 h_5 => 
 Hp Try.prog false (Instr.loadAt 2 t7) (fun t8 h_6 => 
 Hp Try.prog false (binS .sub 2 (.tmp 6) (.tmp 8) t6 t8) (fun t9 h_7 => 
 Hp Try.prog false (Builtin.max_ #[2, 2] 2 #[(.int .i64 (-1)), t9]) (fun t10 h_8 => 
 Hp Try.prog false (Builtin.min_ #[2, 2] 2 #[(.int .i64 1), t10]) (fun t11 h_9 => 
 R t11 h_9) h_8 ⟨⟩) h_7 ⟨⟩) h_6 ⟨⟩) h_5 ⟨⟩) h_4 ⟨⟩) h_3 ⟨⟩) h_2 ⟨⟩) h_1 ⟨⟩) h ⟨⟩

theorem n56_calls {a0 b1 : Value} {R : Value → Heap → Prop} {h : Heap} (H : n56 a0 b1 R h) : CallsH Try.prog 56 #[a0, b1] h R ⟨⟩ :=
 callsH_of_eq Try.follow .l Try.func56 (by kernel_rfl) (by kernel_rfl) (by kernel_rfl) H

/-- slices.Grow[[]palimpsest/api.Run,palimpsest/api.Run] -/
def n57 (s0 n1 : Value) (R : Value → Heap → Prop) (h : Heap) : Prop :=
 JoinN 0 (fun (k : Heap → Prop) h_1 =>
 Hp Try.prog false (binS .lss 3 (.tmp 5) (.const (.int .i64 0)) n1 (.int .i64 0)) (fun t6 h_2 => 
 CondP t6 (
 Hp Try.prog false (Instr.makeInterface 9 (str [99, 97, 110, 110, 111, 116, 32, 98, 101, 32, 110, 101, 103, 97, 116, 105, 118, 101])) (fun t7 h_3 => 
 False) h_2 ⟨⟩) (
 k h_2) ⟨⟩ ⟨⟩) h_1 ⟨⟩)
 (fun h_4 =>
 JoinN 1 (fun (k_1 : Value → Heap → Prop) h_5 =>
 Hp Try.prog false (Builtin.cap_ #[22] 3 #[s0]) (fun t10 h_6 => 
 Hp Try.prog false (Builtin.len_ #[22] 3 #[s0]) (fun t12 h_7 => 
 Hp Try.prog false (binS .sub 3 (.tmp 10) (.tmp 12) t10 t12) (fun t13 h_8 => 
 Hp Try.prog false (binS .sub 3 (.tmp 8) (.tmp 13) n1 t13) (fun t14 h_9 => 
 Hp Try.prog false (binS .gtr 3 (.tmp 15) (.const (.int .i64 0)) t14 (.int .i64 0)) (fun t16 h_10 => 
 CondP t16 (
 Hp Try.prog false (Builtin.cap_ #[22] 3 #[s0]) (fun t19 h_11 => 
 Hp Try.prog false (Instr.sliceAt 22 s0 none (some t19) none) (fun t20 h_12 => 
 Hp Try.prog false (Builtin.append_ #[22, 3] 22 #[t20, t14]) (fun t22 h_13 => 
 Hp Try.prog false (Builtin.len_ #[22] 3 #[s0]) (fun t24 h_14 => 
 Hp Try.prog false (Instr.sliceAt 22 t22 none (some t24) none) (fun t25 h_15 => 
 k_1 t25 h_15) h_14 ⟨⟩) h_13 ⟨⟩) h_12 ⟨⟩) h_11 ⟨⟩) h_10 ⟨⟩) (
 k_1 s0 h_10) ⟨⟩ ⟨⟩) h_9 ⟨⟩) h_8 ⟨⟩) h_7 ⟨⟩) h_6 ⟨⟩) h_5 ⟨⟩)
 (fun s0_1 h_16 =>
 R s0_1 h_16) h_4 ⟨⟩ ⟨⟩) h ⟨⟩ ⟨⟩

theorem n57_calls {s0 n1 : Value} {R : Value → Heap → Prop} {h : Heap} (H : n57 s0 n1 R h) : CallsH Try.prog 57 #[s0, n1] h R ⟨⟩ :=
 callsH_of_eq Try.follow (.n none .l (.n (some []) .l (.n (some [1]) .l .l))) Try.func57 (by kernel_rfl) (by kernel_rfl) (by kernel_rfl) H

/-- (*palimpsest/later.runs).Len -/
def n59 (r0 : Value) (R : Value → Heap → Prop) (h : Heap) : Prop :=
 Hp Try.prog false (nilS r0) (fun t4 h_1 => 
 Hp Try.prog false (Instr.fieldAt 73 t4 0) (fun t5 h_2 => 
 Hp Try.prog false (Instr.loadAt 70 t5) (fun t6 h_3 => 
 Hp Try.prog false (Builtin.len_ #[70] 3 #[t6]) (fun t7 h_4 => 
 R t7 h_4) h_3 ⟨⟩) h_2 ⟨⟩) h_1 ⟨⟩) h ⟨⟩

theorem n59_calls {r0 : Value} {R : Value → Heap → Prop} {h : Heap} (H : n59 r0 R h) : CallsH Try.prog 59 #[r0] h R ⟨⟩ :=
 callsH_of_eq Try.follow .l Try.func59 (by kernel_rfl) (by kernel_rfl) (by kernel_rfl) H

/-- container/heap.Pop -/
def n60 (h0 : Value) (R : Value → Heap → Prop) (h : Heap) : Prop :=
 MethodH Try.prog h0 "Len" #[] h (fun t5 h_1 => 
 Hp Try.prog false (binS .sub 3 (.tmp 5) (.const (.int .i64 1)) t5 (.int .i64 1)) (fun t6 h_2 => 
 MethodH Try.prog h0 "Swap" #[(.int .i64 0), t6] h_2 (fun t9 h_3 => 
 CallsH Try.prog 67 #[h0, (.int .i64 0), t6] h_3 (fun t12 h_4 => 
 MethodH Try.prog h0 "Pop" #[] h_4 (fun t14 h_5 => 
 R t14 h_5) ⟨⟩) ⟨⟩) ⟨⟩) h_1 ⟨⟩) ⟨⟩

theorem n60_calls {h0 : Value} {R : Value → Heap → Prop} {h : Heap} (H : n60 h0 R h) : CallsH Try.prog 60 #[h0] h R ⟨⟩ :=
 callsH_of_eq Try.follow .l Try.func60 (by kernel_rfl) (by kernel_rfl) (by kernel_rfl) H

/-- container/heap.Fix -/
def n61 (h0 i1 : Value) (R : Value → Heap → Prop) (h : Heap) : Prop :=
 MethodH Try.prog h0 "Len" #[] h (fun t7 h_1 => 
 CallsH Try.prog 67 #[h0, i1, t7] h_1 (fun t8 h_2 => 
 Hp Try.prog false (Op.unary .not t8) (fun t9 h_3 => 
 CondP t9 (
 CallsH Try.prog 68 #[h0, i1] h_3 (fun t12 h_4 => 
 R (.tuple #[]) h_4) ⟨⟩) (
 R (.tuple #[]) h_3) ⟨⟩ ⟨⟩) h_2 ⟨⟩) ⟨⟩) ⟨⟩

theorem n61_calls {h0 i1 : Value} {R : Value → Heap → Prop} {h : Heap} (H : n61 h0 i1 R h) : CallsH Try.prog 61 #[h0, i1] h R ⟨⟩ :=
 callsH_of_eq Try.follow .l Try.func61 (by kernel_rfl) (by kernel_rfl) (by kernel_rfl) H

/-- slices.Values[[]palimpsest/api.Run,palimpsest/api.Run]$1 -/
def n62 (yield0 t1 : Value) (R : Value → Heap → Prop) (h : Heap) : Prop :=
 Hp Try.prog false (Instr.loadAt 22 t1) (fun t5 h_1 => 
 Hp Try.prog false (Builtin.len_ #[22] 3 #[t5]) (fun t6 h_2 => 
 LoopC 1 (fun (X : Value → Heap → Prop) => fun t7 h_3 =>
 Hp Try.prog false (binS .lss 3 (.tmp 7) (.tmp 6) t7 t6) (fun t8 h_4 => 
 CondP t8 (
 Hp Try.prog false (Instr.indexAt 22 t5 t7) (fun t9 h_5 => 
 Hp Try.prog false (Instr.loadAt 24 t9) (fun t10 h_6 => 
 Hp Try.prog false (Instr.alloc 24 true undef) (fun v4 h_7 => 
 Hp Try.prog false (storeS 24 v4 t10) (fun _ h_8 => 
 Hp Try.prog false (Instr.loadAt 24 v4) (fun t12 h_9 => 
 InvokeH Try.prog yield0 #[t12] h_9 (fun t13 h_10 => 
 Hp Try.prog false (Op.unary .not t13) (fun t14 h_11 => 
 CondP t14 (
 R (.tuple #[]) h_11) (
 Hp Try.prog false (binS .add 3 (.tmp 7) (.const (.int .i64 1)) t7 (.int .i64 1)) (fun t15 h_12 => 
 X t15 h_12) h_11 ⟨⟩) ⟨⟩ ⟨⟩) h_10 ⟨⟩) ⟨⟩) h_8 ⟨⟩) h_7 ⟨⟩) h_6 ⟨⟩) h_5 ⟨⟩) h_4 ⟨⟩) (
 R (.tuple #[]) h_4) ⟨⟩ ⟨⟩) h_3 ⟨⟩) [(.int .i64 0)] h_2 ⟨⟩) h_1 ⟨⟩) h ⟨⟩

theorem n62_calls {yield0 t1 : Value} {R : Value → Heap → Prop} {h : Heap} (H : n62 yield0 t1 R h) : CallsH Try.prog 62 #[yield0, t1] h R ⟨⟩ :=
 callsH_of_eq Try.follow (.n none .l (.n none (.n (some [8]) .l .l) .l)) Try.func62 (by kernel_rfl) (by kernel_rfl) (by kernel_rfl) H

/-- slices.pdqsortCmpFunc[palimpsest/api.Run] -/
def n64 (data0 a1 b2 limit3 cmp4 : Value) (R : Value → Heap → Prop) (h : Heap) : Prop :=
 LoopC 5 (fun (X : Value → Value → Value → Value → Value → Heap → Prop) => fun a1_1 b2_1 limit3_1 wasBalanced10 wasPartitioned11 h_1 =>
 JoinN 5 (fun (k : Value → Value → Value → Value → Value → Heap → Prop) h_2 =>
 Hp Try.prog false (binS .sub 3 (.tmp 21) (.tmp 22) b2_1 a1_1) (fun t23 h_3 => 
 Hp Try.prog false (binS .leq 3 (.tmp 24) (.const (.int .i64 12)) t23 (.int .i64 12)) (fun t25 h_4 => 
 CondP t25 (
 CallsH Try.prog 69 #[data0, a1_1, b2_1, cmp4] h_4 (fun t30 h_5 => 
 R (.tuple #[]) h_5) ⟨⟩) (
 Hp Try.prog false (binS .eql 3 (.tmp 31) (.const (.int .i64 0)) limit3_1 (.int .i64 0)) (fun t32 h_6 => 
 CondP t32 (
 CallsH Try.prog 70 #[data0, a1_1, b2_1, cmp4] h_6 (fun t37 h_7 => 
 R (.tuple #[]) h_7) ⟨⟩) (
 JoinN 1 (fun (k_1 : Value → Heap → Prop) h_8 =>
 Hp Try.prog false (Op.unary .not wasBalanced10) (fun t39 h_9 => 
 CondP t39 (
 CallsH Try.prog 71 #[data0, a1_1, b2_1, cmp4] h_9 (fun t44 h_10 => 
 Hp Try.prog false (binS .sub 3 (.tmp 45) (.const (.int .i64 1)) limit3_1 (.int .i64 1)) (fun t46 h_11 => 
 k_1 t46 h_11) h_10 ⟨⟩) ⟨⟩) (
 k_1 limit3_1 h_9) ⟨⟩ ⟨⟩) h_8 ⟨⟩)
 (fun limit3_2 h_12 =>
 CallsH Try.prog 72 #[data0, a1_1, b2_1, cmp4] h_12 (fun t52 h_13 => 
 Hp Try.prog false (Instr.extract t52 0) (fun t53 h_14 => 
 Hp Try.prog false (Instr.extract t52 1) (fun t54 h_15 => 
 JoinN 2 (fun (k_2 : Value → Value → Heap → Prop) h_16 =>
 Hp Try.prog false (binS .eql 107 (.tmp 55) (.const (.int .i64 2)) t54 (.int .i64 2)) (fun t56 h_17 => 
 CondP t56 (
 CallsH Try.prog 73 #[data0, a1_1, b2_1, cmp4] h_17 (fun t61 h_18 => 
 Hp Try.prog false (binS .sub 3 (.tmp 62) (.const (.int .i64 1)) b2_1 (.int .i64 1)) (fun t63 h_19 => 
 Hp Try.prog false (binS .sub 3 (.tmp 64) (.tmp 65) t53 a1_1) (fun t66 h_20 => 
 Hp Try.prog false (binS .sub 3 (.tmp 63) (.tmp 66) t63 t66) (fun t67 h_21 => 
 k_2 t67 (.int .i64 1) h_21) h_20 ⟨⟩) h_19 ⟨⟩) h_18 ⟨⟩) ⟨⟩) (
 k_2 t53 t54 h_17) ⟨⟩ ⟨⟩) h_16 ⟨⟩)
 (fun pivot13 hint14 h_22 =>
 JoinN 0 (fun (k_3 : Heap → Prop) h_23 =>
 Join1 (fun k_4 h_24 => guardP wasBalanced10 true (k_4 wasPartitioned11 h_24) (k_4 undef h_24) ⟨⟩ ⟨⟩) (fun t70 h_25 => 
 Hp Try.prog false (pickS wasBalanced10 t70 (.bool false)) (fun t71 h_26 => 
 Join1 (fun k_5 h_27 => guardP t71 true (k_5 hint14 h_27) (k_5 undef h_27) ⟨⟩ ⟨⟩) (fun t73 h_28 => 
 Join1 (fun k_6 h_29 => guardP t71 true (Hp Try.prog false (binS .eql 107 (.tmp 73) (.const (.int .i64 1)) t73 (.int .i64 1)) k_6 h_29 ⟨⟩) (k_6 undef h_29) ⟨⟩ ⟨⟩) (fun t74 h_30 => 
 Hp Try.prog false (pickS t71 t74 (.bool false)) (fun t75 h_31 => 
 CondP t75 (
 CallsH Try.prog 74 #[data0, a1_1, b2_1, cmp4] h_31 (fun t80 h_32 => 
 CondP t80 (
 R (.tuple #[]) h_32) (
 k_3 h_32) ⟨⟩ ⟨⟩) ⟨⟩) (
 k_3 h_31) ⟨⟩ ⟨⟩) h_30 ⟨⟩) h_28 ⟨⟩ ⟨⟩) h_26 ⟨⟩ ⟨⟩) h_25 ⟨⟩) h_23 ⟨⟩ ⟨⟩)
 (fun h_33 =>
 Hp Try.prog true (binS .gtr 3 (.tmp 81) (.const (.int .i64 0)) a1_1 (.int .i64 0)) (fun t82 _ => 
 Join1 (fun k_7 h_34 => guardP t82 true (k_7 cmp4 h_34) (k_7 undef h_34) ⟨⟩ ⟨⟩) (fun t84 _ => 
 Join1 (fun k_8 h_35 => guardP t82 true (k_8 data0 h_35) (k_8 undef h_35) ⟨⟩ ⟨⟩) (fun t85 _ => 
 Join1 (fun k_9 h_36 => guardP t82 true (k_9 a1_1 h_36) (k_9 undef h_36) ⟨⟩ ⟨⟩) (fun t86 _ => 
 Join1 (fun k_10 h_37 => guardP t82 true (Hp Try.prog true (binS .sub 3 (.tmp 86) (.const (.int .i64 1)) t86 (.int .i64 1)) k_10 h_37 ⟨⟩) (k_10 undef h_37) ⟨⟩ ⟨⟩) (fun t87 _ => 
 Join1 (fun k_11 h_38 => guardP t82 true (Hp Try.prog true (Instr.indexAt 22 t85 t87) k_11 h_38 ⟨⟩) (k_11 undef h_38) ⟨⟩ ⟨⟩) (fun t88 _ => 
 Join1 (fun k_12 h_39 => guardP t82 true (Hp Try.prog true (Instr.loadAt 24 t88) k_12 h_39 ⟨⟩) (k_12 undef h_39) ⟨⟩ ⟨⟩) (fun t89 _ => 
 Join1 (fun k_13 h_40 => guardP t82 true (k_13 data0 h_40) (k_13 undef h_40) ⟨⟩ ⟨⟩) (fun t90 _ => 
 Join1 (fun k_14 h_41 => guardP t82 true (k_14 pivot13 h_41) (k_14 undef h_41) ⟨⟩ ⟨⟩) (fun t91 _ => 
 Join1 (fun k_15 h_42 => guardP t82 true (Hp Try.prog true (Instr.indexAt 22 t90 t91) k_15 h_42 ⟨⟩) (k_15 undef h_42) ⟨⟩ ⟨⟩) (fun t92 _ => 
 Join1 (fun k_16 h_43 => guardP t82 true (Hp Try.prog true (Instr.loadAt 24 t92) k_16 h_43 ⟨⟩) (k_16 undef h_43) ⟨⟩ ⟨⟩) (fun t93 _ => 
 Join1 (fun k_17 h_44 => guardP t82 true (InvokeH Try.prog t84 #[t89, t93] h_44 k_17 ⟨⟩) (k_17 undef h_44) ⟨⟩ ⟨⟩) (fun t94 h_45 => 
 Join1 (fun k_18 h_46 => guardP t82 true (Hp Try.prog true (binS .lss 3 (.tmp 94) (.const (.int .i64 0)) t94 (.int .i64 0)) k_18 h_46 ⟨⟩) (k_18 undef h_46) ⟨⟩ ⟨⟩) (fun t95 _ => 
 Join1 (fun k_19 h_47 => guardP t82 true (Hp Try.prog true (Op.unary .not t95) k_19 h_47 ⟨⟩) (k_19 undef h_47) ⟨⟩ ⟨⟩) (fun t96 _ => 
 Hp Try.prog true (pickS t82 t96 (.bool false)) (fun t97 _ => 
 CondP t97 (
 CallsH Try.prog 75 #[data0, a1_1, b2_1, pivot13, cmp4] h_45 (fun t103 h_48 => 
 k t103 b2_1 limit3_2 wasBalanced10 wasPartitioned11 h_48) ⟨⟩) (
 CallsH Try.prog 76 #[data0, a1_1, b2_1, pivot13, cmp4] h_45 (fun t111 h_49 => 
 Hp Try.prog false (Instr.extract t111 0) (fun t112 h_50 => 
 Hp Try.prog false (Instr.extract t111 1) (fun t113 h_51 => 
 Hp Try.prog false (binS .sub 3 (.tmp 115) (.tmp 116) t112 a1_1) (fun t117 h_52 => 
 Hp Try.prog false (binS .sub 3 (.tmp 118) (.tmp 119) b2_1 t112) (fun t120 h_53 => 
 Hp Try.prog false (binS .quo 3 (.tmp 121) (.const (.int .i64 8)) t23 (.int .i64 8)) (fun t122 h_54 => 
 Hp Try.prog false (binS .lss 3 (.tmp 123) (.tmp 124) t117 t120) (fun t125 h_55 => 
 CondP t125 (
 Hp Try.prog false (binS .geq 3 (.tmp 126) (.tmp 127) t117 t122) (fun t128 h_56 => 
 CallsH Try.prog 64 #[data0, a1_1, t112, limit3_2, cmp4] h_56 (fun t134 h_57 => 
 Hp Try.prog false (binS .add 3 (.tmp 135) (.const (.int .i64 1)) t112 (.int .i64 1)) (fun t136 h_58 => 
 k t136 b2_1 limit3_2 t128 t113 h_58) h_57 ⟨⟩) ⟨⟩) h_55 ⟨⟩) (
 Hp Try.prog false (binS .geq 3 (.tmp 137) (.tmp 138) t120 t122) (fun t139 h_59 => 
 Hp Try.prog false (binS .add 3 (.tmp 141) (.const (.int .i64 1)) t112 (.int .i64 1)) (fun t142 h_60 => 
 CallsH Try.prog 64 #[data0, t142, b2_1, limit3_2, cmp4] h_60 (fun t146 h_61 => 
 k a1_1 t112 limit3_2 t139 t113 h_61) ⟨⟩) h_59 ⟨⟩) h_55 ⟨⟩) ⟨⟩ ⟨⟩) h_54 ⟨⟩) h_53 ⟨⟩) h_52 ⟨⟩) h_51 ⟨⟩) h_50 ⟨⟩) h_49 ⟨⟩) ⟨⟩) ⟨⟩ ⟨⟩) #[] ⟨⟩) #[] ⟨⟩ ⟨⟩) #[] ⟨⟩ ⟨⟩) h_33 ⟨⟩ ⟨⟩) h_33 ⟨⟩ ⟨⟩) #[] ⟨⟩ ⟨⟩) #[] ⟨⟩ ⟨⟩) #[] ⟨⟩ ⟨⟩) h_33 ⟨⟩ ⟨⟩) #[] ⟨⟩ ⟨⟩) #[] ⟨⟩ ⟨⟩) #[] ⟨⟩ ⟨⟩) #[] ⟨⟩ ⟨⟩) #[] ⟨⟩ ⟨⟩) #[] ⟨⟩) h_22 ⟨⟩ ⟨⟩) h_15 ⟨⟩ ⟨⟩) h_14 ⟨⟩) h_13 ⟨⟩) ⟨⟩) h_6 ⟨⟩ ⟨⟩) ⟨⟩ ⟨⟩) h_4 ⟨⟩) ⟨⟩ ⟨⟩) h_3 ⟨⟩) h_2 ⟨⟩)
 (fun a1_2 b2_2 limit3_3 wasBalanced10_1 wasPartitioned11_1 h_62 =>
 X a1_2 b2_2 limit3_3 wasBalanced10_1 wasPartitioned11_1 h_62) h_1 ⟨⟩ ⟨⟩) [a1, b2, limit3, (.bool true), (.bool true)] h ⟨⟩

theorem n64_calls {data0 a1 b2 limit3 cmp4 : Value} {R : Value → Heap → Prop} {h : Heap} (H : n64 data0 a1 b2 limit3 cmp4 R h) : CallsH Try.prog 64 #[data0, a1, b2, limit3, cmp4] h R ⟨⟩ :=
 callsH_of_eq Try.follow (.n none .l (.n none .l (.n none (.n (some [2, 3, 4, 11, 12]) (.n (some [2, 3, 4, 11, 12]) (.n none .l (.n none .l (.n none .l (.n (some [4]) .l (.n none .l (.n (some [14, 15]) .l (.n (some []) .l .l))))))) .l) .l) .l))) Try.func64 (by kernel_rfl) (by kernel_rfl) (by kernel_rfl) H

/-- math/bits.Len -/
def n65 (x0 : Value) (R : Value → Heap → Prop) (h : Heap) : Prop :=
 CondP (.bool false) (
 Hp Try.prog false (convert 99 115 x0) (fun t4 h_1 => 
 CallsH Try.prog 77 #[t4] h_1 (fun t5 h_2 => 
 R t5 h_2) ⟨⟩) h ⟨⟩) (
 CallsH Try.prog 78 #[x0] h (fun t7 h_3 => 
 R t7 h_3) ⟨⟩) ⟨⟩ ⟨⟩

theorem n65_calls {x0 : Value} {R : Value → Heap → Prop} {h : Heap} (H : n65 x0 R h) : CallsH Try.prog 65 #[x0] h R ⟨⟩ :=
 callsH_of_eq Try.follow .l Try.func65 (by kernel_rfl) (by kernel_rfl) (by kernel_rfl) H

/-- container/heap.Push -/
def n66 (h0 x1 : Value) (R : Value → Heap → Prop) (h : Heap) : Prop :=
 MethodH Try.prog h0 "Push" #[x1] h (fun t6 h_1 => 
 MethodH Try.prog h0 "Len" #[] h_1 (fun t9 h_2 => 
 Hp Try.prog false (binS .sub 3 (.tmp 9) (.const (.int .i64 1)) t9 (.int .i64 1)) (fun t10 h_3 => 
 CallsH Try.prog 68 #[h0, t10] h_3 (fun t11 h_4 => 
 R (.tuple #[]) h_4) ⟨⟩) h_2 ⟨⟩) ⟨⟩) ⟨⟩

theorem n66_calls {h0 x1 : Value} {R : Value → Heap → Prop} {h : Heap} (H : n66 h0 x1 R h) : CallsH Try.prog 66 #[h0, x1] h R ⟨⟩ :=
 callsH_of_eq Try.follow .l Try.func66 (by kernel_rfl) (by kernel_rfl) (by kernel_rfl) H

/-- container/heap.down -/
def n67 (h0 i01 n2 : Value) (R : Value → Heap → Prop) (h : Heap) : Prop :=
 JoinN 1 (fun (k : Value → Heap → Prop) h_1 =>
 JoinN 1 (fun (k_1 : Value → Heap → Prop) h_2 =>
 LoopC 1 (fun (X : Value → Heap → Prop) => fun i7 h_3 =>
 Hp Try.prog false (binS .mul 3 (.const (.int .i64 2)) (.tmp 12) (.int .i64 2) i7) (fun t13 h_4 => 
 Hp Try.prog false (binS .add 3 (.tmp 13) (.const (.int .i64 1)) t13 (.int .i64 1)) (fun t14 h_5 => 
 Hp Try.prog false (binS .geq 3 (.tmp 15) (.tmp 16) t14 n2) (fun t17 h_6 => 
 Join1 (fun k_2 h_7 => guardP t17 false (k_2 t14 h_7) (k_2 undef h_7) ⟨⟩ ⟨⟩) (fun t19 h_8 => 
 Join1 (fun k_3 h_9 => guardP t17 false (Hp Try.prog false (binS .lss 3 (.tmp 19) (.const (.int .i64 0)) t19 (.int .i64 0)) k_3 h_9 ⟨⟩) (k_3 undef h_9) ⟨⟩ ⟨⟩) (fun t20 h_10 => 
 Hp Try.prog false (pickS t17 (.bool true) t20) (fun t21 h_11 => 
 CondP t21 (
 k_1 i7 h_11) (
 JoinN 1 (fun (k_4 : Value → Heap → Prop) h_12 =>
 Hp Try.prog false (binS .add 3 (.tmp 23) (.const (.int .i64 1)) t14 (.int .i64 1)) (fun t24 h_13 => 
 Hp Try.prog false (binS .lss 3 (.tmp 25) (.tmp 26) t24 n2) (fun t27 h_14 => 
 Join1 (fun k_5 h_15 => guardP t27 true (k_5 h0 h_15) (k_5 undef h_15) ⟨⟩ ⟨⟩) (fun t29 h_16 => 
 Join1 (fun k_6 h_17 => guardP t27 true (k_6 t24 h_17) (k_6 undef h_17) ⟨⟩ ⟨⟩) (fun t30 h_18 => 
 Join1 (fun k_7 h_19 => guardP t27 true (k_7 t14 h_19) (k_7 undef h_19) ⟨⟩ ⟨⟩) (fun t31 h_20 => 
 Join1 (fun k_8 h_21 => guardP t27 true (MethodH Try.prog t29 "Less" #[t30, t31] h_21 k_8 ⟨⟩) (k_8 undef h_21) ⟨⟩ ⟨⟩) (fun t32 h_22 => 
 Hp Try.prog false (pickS t27 t32 (.bool false)) (fun t33 h_23 => 
 CondP t33 (
 k_4 t24 h_23) (
 k_4 t14 h_23) ⟨⟩ ⟨⟩) h_22 ⟨⟩) h_20 ⟨⟩ ⟨⟩) h_18 ⟨⟩ ⟨⟩) h_16 ⟨⟩ ⟨⟩) h_14 ⟨⟩ ⟨⟩) h_13 ⟨⟩) h_12 ⟨⟩)
 (fun j9 h_24 =>
 MethodH Try.prog h0 "Less" #[j9, i7] h_24 (fun t38 h_25 => 
 Hp Try.prog false (Op.unary .not t38) (fun t39 h_26 => 
 CondP t39 (
 k_1 i7 h_26) (
 MethodH Try.prog h0 "Swap" #[i7, j9] h_26 (fun t43 h_27 => 
 X j9 h_27) ⟨⟩) ⟨⟩ ⟨⟩) h_25 ⟨⟩) ⟨⟩) h_11 ⟨⟩ ⟨⟩) ⟨⟩ ⟨⟩) h_10 ⟨⟩) h_8 ⟨⟩ ⟨⟩) h_6 ⟨⟩ ⟨⟩) h_5 ⟨⟩) h_4 ⟨⟩) h_3 ⟨⟩) [i01] h_2 ⟨⟩)
 (fun i7_1 h_28 =>
 k i7_1 h_28) h_1 ⟨⟩ ⟨⟩)
 (fun i7_2 h_29 =>
 Hp Try.prog false (binS .gtr 3 (.tmp 45) (.tmp 46) i7_2 i01) (fun t47 h_30 => 
 R t47 h_30) h_29 ⟨⟩) h ⟨⟩ ⟨⟩

theorem n67_calls {h0 i01 n2 : Value} {R : Value → Heap → Prop} {h : Heap} (H : n67 h0 i01 n2 R h) : CallsH Try.prog 67 #[h0, i01, n2] h R ⟨⟩ :=
 callsH_of_eq Try.follow (.n none .l (.n none .l (.n (some [8]) (.n (some [8]) (.n (some [8]) (.n none (.n none .l (.n none .l (.n none .l (.n (some [10]) .l .l)))) .l) .l) .l) .l))) Try.func67 (by kernel_rfl) (by kernel_rfl) (by kernel_rfl) H

/-- container/heap.up -/
def n68 (h0 j1 : Value) (R : Value → Heap → Prop) (h : Heap) : Prop :=
 LoopC 1 (fun (X : Value → Heap → Prop) => fun j1_1 h_1 =>
 Hp Try.prog false (binS .sub 3 (.tmp 5) (.const (.int .i64 1)) j1_1 (.int .i64 1)) (fun t6 h_2 => 
 Hp Try.prog false (binS .quo 3 (.tmp 6) (.const (.int .i64 2)) t6 (.int .i64 2)) (fun t7 h_3 => 
 Hp Try.prog false (binS .eql 3 (.tmp 8) (.tmp 9) t7 j1_1) (fun t10 h_4 => 
 Join1 (fun k h_5 => guardP t10 false (k h0 h_5) (k undef h_5) ⟨⟩ ⟨⟩) (fun t12 h_6 => 
 Join1 (fun k_1 h_7 => guardP t10 false (k_1 j1_1 h_7) (k_1 undef h_7) ⟨⟩ ⟨⟩) (fun t13 h_8 => 
 Join1 (fun k_2 h_9 => guardP t10 false (k_2 t7 h_9) (k_2 undef h_9) ⟨⟩ ⟨⟩) (fun t14 h_10 => 
 Join1 (fun k_3 h_11 => guardP t10 false (MethodH Try.prog t12 "Less" #[t13, t14] h_11 k_3 ⟨⟩) (k_3 undef h_11) ⟨⟩ ⟨⟩) (fun t15 h_12 => 
 Join1 (fun k_4 h_13 => guardP t10 false (Hp Try.prog false (Op.unary .not t15) k_4 h_13 ⟨⟩) (k_4 undef h_13) ⟨⟩ ⟨⟩) (fun t16 h_14 => 
 Hp Try.prog false (pickS t10 (.bool true) t16) (fun t17 h_15 => 
 CondP t17 (
 R (.tuple #[]) h_15) (
 MethodH Try.prog h0 "Swap" #[t7, j1_1] h_15 (fun t21 h_16 => 
 X t7 h_16) ⟨⟩) ⟨⟩ ⟨⟩) h_14 ⟨⟩) h_12 ⟨⟩ ⟨⟩) h_10 ⟨⟩ ⟨⟩) h_8 ⟨⟩ ⟨⟩) h_6 ⟨⟩ ⟨⟩) h_4 ⟨⟩ ⟨⟩) h_3 ⟨⟩) h_2 ⟨⟩) h_1 ⟨⟩) [j1] h ⟨⟩

theorem n68_calls {h0 j1 : Value} {R : Value → Heap → Prop} {h : Heap} (H : n68 h0 j1 R h) : CallsH Try.prog 68 #[h0, j1] h R ⟨⟩ :=
 callsH_of_eq Try.follow (.n none (.n (some [2]) .l .l) .l) Try.func68 (by kernel_rfl) (by kernel_rfl) (by kernel_rfl) H

/-- slices.insertionSortCmpFunc[palimpsest/api.Run] -/
def n69 (data0 a1 b2 cmp3 : Value) (R : Value → Heap → Prop) (h : Heap) : Prop :=
 Hp Try.prog false (binS .add 3 (.tmp 10) (.const (.int .i64 1)) a1 (.int .i64 1)) (fun t11 h_1 => 
 LoopC 1 (fun (X : Value → Heap → Prop) => fun i8 h_2 =>
 Hp Try.prog false (binS .lss 3 (.tmp 12) (.tmp 13) i8 b2) (fun t14 h_3 => 
 CondP t14 (
 LoopC 1 (fun (X_1 : Value → Heap → Prop) => fun j9 h_4 =>
 Hp Try.prog true (binS .gtr 3 (.tmp 18) (.tmp 19) j9 a1) (fun t20 _ => 
 Join1 (fun k h_5 => guardP t20 true (k cmp3 h_5) (k undef h_5) ⟨⟩ ⟨⟩) (fun t22 _ => 
 Join1 (fun k_1 h_6 => guardP t20 true (k_1 data0 h_6) (k_1 undef h_6) ⟨⟩ ⟨⟩) (fun t23 _ => 
 Join1 (fun k_2 h_7 => guardP t20 true (k_2 j9 h_7) (k_2 undef h_7) ⟨⟩ ⟨⟩) (fun t24 _ => 
 Join1 (fun k_3 h_8 => guardP t20 true (Hp Try.prog true (Instr.indexAt 22 t23 t24) k_3 h_8 ⟨⟩) (k_3 undef h_8) ⟨⟩ ⟨⟩) (fun t25 _ => 
 Join1 (fun k_4 h_9 => guardP t20 true (Hp Try.prog true (Instr.loadAt 24 t25) k_4 h_9 ⟨⟩) (k_4 undef h_9) ⟨⟩ ⟨⟩) (fun t26 _ => 
 Join1 (fun k_5 h_10 => guardP t20 true (k_5 data0 h_10) (k_5 undef h_10) ⟨⟩ ⟨⟩) (fun t27 _ => 
 Join1 (fun k_6 h_11 => guardP t20 true (k_6 j9 h_11) (k_6 undef h_11) ⟨⟩ ⟨⟩) (fun t28 _ => 
 Join1 (fun k_7 h_12 => guardP t20 true (Hp Try.prog true (binS .sub 3 (.tmp 28) (.const (.int .i64 1)) t28 (.int .i64 1)) k_7 h_12 ⟨⟩) (k_7 undef h_12) ⟨⟩ ⟨⟩) (fun t29 _ => 
 Join1 (fun k_8 h_13 => guardP t20 true (Hp Try.prog true (Instr.indexAt 22 t27 t29) k_8 h_13 ⟨⟩) (k_8 undef h_13) ⟨⟩ ⟨⟩) (fun t30 _ => 
 Join1 (fun k_9 h_14 => guardP t20 true (Hp Try.prog true (Instr.loadAt 24 t30) k_9 h_14 ⟨⟩) (k_9 undef h_14) ⟨⟩ ⟨⟩) (fun t31 _ => 
 Join1 (fun k_10 h_15 => guardP t20 true (InvokeH Try.prog t22 #[t26, t31] h_15 k_10 ⟨⟩) (k_10 undef h_15) ⟨⟩ ⟨⟩) (fun t32 h_16 => 
 Join1 (fun k_11 h_17 => guardP t20 true (Hp Try.prog true (binS .lss 3 (.tmp 32) (.const (.int .i64 0)) t32 (.int .i64 0)) k_11 h_17 ⟨⟩) (k_11 undef h_17) ⟨⟩ ⟨⟩) (fun t33 _ => 
 Hp Try.prog true (pickS t20 t33 (.bool false)) (fun t34 _ => 
 CondP t34 (
 Hp Try.prog true (binS .sub 3 (.tmp 40) (.const (.int .i64 1)) j9 (.int .i64 1)) (fun t41 _ => 
 Hp Try.prog true (binS .sub 3 (.tmp 43) (.const (.int .i64 1)) j9 (.int .i64 1)) (fun t44 _ => 
 Hp Try.prog true (Instr.indexAt 22 data0 t44) (fun t45 _ => 
 Hp Try.prog true (Instr.loadAt 24 t45) (fun t46 _ => 
 Hp Try.prog true (Instr.indexAt 22 data0 j9) (fun t49 _ => 
 Hp Try.prog true (Instr.loadAt 24 t49) (fun t50 _ => 
 Hp Try.prog true (Instr.indexAt 22 data0 j9) (fun t51 _ => 
 Hp Try.prog false (storeS 24 t51 t46) (fun _ h_18 => 
 Hp Try.prog true (Instr.indexAt 22 data0 t41) (fun t52 _ => 
 Hp Try.prog false (storeS 24 t52 t50) (fun _ h_19 => 
 Hp Try.prog false (binS .sub 3 (.tmp 35) (.const (.int .i64 1)) j9 (.int .i64 1)) (fun t36 h_20 => 
 X_1 t36 h_20) h_19 ⟨⟩) h_18 ⟨⟩) #[] ⟨⟩) h_16 ⟨⟩) #[] ⟨⟩) h_16 ⟨⟩) #[] ⟨⟩) h_16 ⟨⟩) #[] ⟨⟩) #[] ⟨⟩) #[] ⟨⟩) (
 Hp Try.prog false (binS .add 3 (.tmp 15) (.const (.int .i64 1)) i8 (.int .i64 1)) (fun t16 h_21 => 
 X t16 h_21) h_16 ⟨⟩) ⟨⟩ ⟨⟩) #[] ⟨⟩) #[] ⟨⟩ ⟨⟩) h_4 ⟨⟩ ⟨⟩) h_4 ⟨⟩ ⟨⟩) #[] ⟨⟩ ⟨⟩) #[] ⟨⟩ ⟨⟩) #[] ⟨⟩ ⟨⟩) #[] ⟨⟩ ⟨⟩) h_4 ⟨⟩ ⟨⟩) #[] ⟨⟩ ⟨⟩) #[] ⟨⟩ ⟨⟩) #[] ⟨⟩ ⟨⟩) #[] ⟨⟩ ⟨⟩) #[] ⟨⟩) [i8] h_3 ⟨⟩) (
 R (.tuple #[]) h_3) ⟨⟩ ⟨⟩) h_2 ⟨⟩) [t11] h_1 ⟨⟩) h ⟨⟩

theorem n69_calls {data0 a1 b2 cmp3 : Value} {R : Value → Heap → Prop} {h : Heap} (H : n69 data0 a1 b2 cmp3 R h) : CallsH Try.prog 69 #[data0, a1, b2, cmp3] h R ⟨⟩ :=
 callsH_of_eq Try.follow (.n none .l (.n none (.n (some [9]) (.n none .l (.n none (.n none (.n none .l (.n none (.n (some [10]) .l .l) .l)) .l) .l)) .l) .l)) Try.func69 (by kernel_rfl) (by kernel_rfl) (by kernel_rfl) H

/-- slices.heapSortCmpFunc[palimpsest/api.Run] -/
def n70 (data0 a1 b2 cmp3 : Value) (R : Value → Heap → Prop) (h : Heap) : Prop :=
 Hp Try.prog false (binS .sub 3 (.tmp 14) (.tmp 15) b2 a1) (fun t16 h_1 => 
 Hp Try.prog false (binS .sub 3 (.tmp 17) (.const (.int .i64 1)) t16 (.int .i64 1)) (fun t18 h_2 => 
 Hp Try.prog false (binS .quo 3 (.tmp 18) (.const (.int .i64 2)) t18 (.int .i64 2)) (fun t19 h_3 => 
 LoopC 1 (fun (X : Value → Heap → Prop) => fun i11 h_4 =>
 Hp Try.prog false (binS .geq 3 (.tmp 20) (.const (.int .i64 0)) i11 (.int .i64 0)) (fun t21 h_5 => 
 CondP t21 (
 CallsH Try.prog 79 #[data0, i11, t16, a1, cmp3] h_5 (fun t29 h_6 => 
 Hp Try.prog false (binS .sub 3 (.tmp 22) (.const (.int .i64 1)) i11 (.int .i64 1)) (fun t23 h_7 => 
 X t23 h_7) h_6 ⟨⟩) ⟨⟩) (
 Hp Try.prog false (binS .sub 3 (.tmp 30) (.const (.int .i64 1)) t16 (.int .i64 1)) (fun t31 h_8 => 
 LoopC 1 (fun (X_1 : Value → Heap → Prop) => fun i12 h_9 =>
 Hp Try.prog false (binS .geq 3 (.tmp 32) (.const (.int .i64 0)) i12 (.int .i64 0)) (fun t33 h_10 => 
 CondP t33 (
 Hp Try.prog true (binS .add 3 (.tmp 39) (.tmp 40) a1 i12) (fun t41 _ => 
 Hp Try.prog true (binS .add 3 (.tmp 43) (.tmp 44) a1 i12) (fun t45 _ => 
 Hp Try.prog true (Instr.indexAt 22 data0 t45) (fun t46 _ => 
 Hp Try.prog true (Instr.loadAt 24 t46) (fun t47 _ => 
 Hp Try.prog true (Instr.indexAt 22 data0 a1) (fun t50 _ => 
 Hp Try.prog true (Instr.loadAt 24 t50) (fun t51 _ => 
 Hp Try.prog true (Instr.indexAt 22 data0 a1) (fun t52 _ => 
 Hp Try.prog false (storeS 24 t52 t47) (fun _ h_11 => 
 Hp Try.prog true (Instr.indexAt 22 data0 t41) (fun t53 _ => 
 Hp Try.prog false (storeS 24 t53 t51) (fun _ h_12 => 
 CallsH Try.prog 79 #[data0, (.int .i64 0), i12, a1, cmp3] h_12 (fun t59 h_13 => 
 Hp Try.prog false (binS .sub 3 (.tmp 34) (.const (.int .i64 1)) i12 (.int .i64 1)) (fun t35 h_14 => 
 X_1 t35 h_14) h_13 ⟨⟩) ⟨⟩) h_11 ⟨⟩) #[] ⟨⟩) h_10 ⟨⟩) #[] ⟨⟩) h_10 ⟨⟩) #[] ⟨⟩) h_10 ⟨⟩) #[] ⟨⟩) #[] ⟨⟩) #[] ⟨⟩) (
 R (.tuple #[]) h_10) ⟨⟩ ⟨⟩) h_9 ⟨⟩) [t31] h_8 ⟨⟩) h_5 ⟨⟩) ⟨⟩ ⟨⟩) h_4 ⟨⟩) [t19] h_3 ⟨⟩) h_2 ⟨⟩) h_1 ⟨⟩) h ⟨⟩

theorem n70_calls {data0 a1 b2 cmp3 : Value} {R : Value → Heap → Prop} {h : Heap} (H : n70 data0 a1 b2 cmp3 R h) : CallsH Try.prog 70 #[data0, a1, b2, cmp3] h R ⟨⟩ :=
 callsH_of_eq Try.follow (.n none .l (.n none .l (.n none .l (.n none (.n none .l (.n none (.n (some [12]) .l .l) .l)) (.n none .l (.n none (.n (some [13]) .l .l) .l)))))) Try.func70 (by kernel_rfl) (by kernel_rfl) (by kernel_rfl) H

/-- slices.breakPatternsCmpFunc[palimpsest/api.Run] -/
def n71 (data0 a1 b2 cmp3 : Value) (R : Value → Heap → Prop) (h : Heap) : Prop :=
 Hp Try.prog false (binS .sub 3 (.tmp 13) (.tmp 14) b2 a1) (fun t15 h_1 => 
 Hp Try.prog false (binS .geq 3 (.tmp 16) (.const (.int .i64 8)) t15 (.int .i64 8)) (fun t17 h_2 => 
 CondP t17 (
 Hp Try.prog false (convert 3 120 t15) (fun t19 h_3 => 
 Hp Try.prog false (Instr.alloc 120 true undef) (fun random9 h_4 => 
 Hp Try.prog false (storeS 120 random9 t19) (fun _ h_5 => 
 CallsH Try.prog 80 #[t15] h_5 (fun t21 h_6 => 
 Hp Try.prog false (binS .quo 3 (.tmp 23) (.const (.int .i64 4)) t15 (.int .i64 4)) (fun t24 h_7 => 
 Hp Try.prog false (binS .mul 3 (.tmp 24) (.const (.int .i64 2)) t24 (.int .i64 2)) (fun t25 h_8 => 
 Hp Try.prog false (binS .add 3 (.tmp 22) (.tmp 25) a1 t25) (fun t26 h_9 => 
 Hp Try.prog false (binS .sub 3 (.tmp 26) (.const (.int .i64 1)) t26 (.int .i64 1)) (fun t27 h_10 => 
 LoopC 1 (fun (X : Value → Heap → Prop) => fun idx11 h_11 =>
 Hp Try.prog false (binS .quo 3 (.tmp 30) (.const (.int .i64 4)) t15 (.int .i64 4)) (fun t31 h_12 => 
 Hp Try.prog false (binS .mul 3 (.tmp 31) (.const (.int .i64 2)) t31 (.int .i64 2)) (fun t32 h_13 => 
 Hp Try.prog false (binS .add 3 (.tmp 29) (.tmp 32) a1 t32) (fun t33 h_14 => 
 Hp Try.prog false (binS .add 3 (.tmp 33) (.const (.int .i64 1)) t33 (.int .i64 1)) (fun t34 h_15 => 
 Hp Try.prog false (binS .leq 3 (.tmp 28) (.tmp 34) idx11 t34) (fun t35 h_16 => 
 CondP t35 (
 CallsH Try.prog 81 #[random9] h_16 (fun t38 h_17 => 
 Hp Try.prog false (binS .sub 99 (.tmp 39) (.const (.int .u64 1)) t21 (.int .u64 1)) (fun t40 h_18 => 
 Hp Try.prog false (binS .and 99 (.tmp 38) (.tmp 40) t38 t40) (fun t41 h_19 => 
 Hp Try.prog false (convert 99 3 t41) (fun t42 h_20 => 
 JoinN 1 (fun (k : Value → Heap → Prop) h_21 =>
 Hp Try.prog false (binS .geq 3 (.tmp 43) (.tmp 44) t42 t15) (fun t45 h_22 => 
 CondP t45 (
 Hp Try.prog false (binS .sub 3 (.tmp 46) (.tmp 47) t42 t15) (fun t48 h_23 => 
 k t48 h_23) h_22 ⟨⟩) (
 k t42 h_22) ⟨⟩ ⟨⟩) h_21 ⟨⟩)
 (fun other12 h_24 =>
 Hp Try.prog true (binS .add 3 (.tmp 52) (.tmp 53) a1 other12) (fun t54 _ => 
 Hp Try.prog true (binS .add 3 (.tmp 56) (.tmp 57) a1 other12) (fun t58 _ => 
 Hp Try.prog true (Instr.indexAt 22 data0 t58) (fun t59 _ => 
 Hp Try.prog true (Instr.loadAt 24 t59) (fun t60 _ => 
 Hp Try.prog true (Instr.indexAt 22 data0 idx11) (fun t63 _ => 
 Hp Try.prog true (Instr.loadAt 24 t63) (fun t64 _ => 
 Hp Try.prog true (Instr.indexAt 22 data0 idx11) (fun t65 _ => 
 Hp Try.prog false (storeS 24 t65 t60) (fun _ h_25 => 
 Hp Try.prog true (Instr.indexAt 22 data0 t54) (fun t66 _ => 
 Hp Try.prog false (storeS 24 t66 t64) (fun _ h_26 => 
 Hp Try.prog false (binS .add 3 (.tmp 36) (.const (.int .i64 1)) idx11 (.int .i64 1)) (fun t37 h_27 => 
 X t37 h_27) h_26 ⟨⟩) h_25 ⟨⟩) #[] ⟨⟩) h_24 ⟨⟩) #[] ⟨⟩) h_24 ⟨⟩) #[] ⟨⟩) h_24 ⟨⟩) #[] ⟨⟩) #[] ⟨⟩) #[] ⟨⟩) h_20 ⟨⟩ ⟨⟩) h_19 ⟨⟩) h_18 ⟨⟩) h_17 ⟨⟩) ⟨⟩) (
 R (.tuple #[]) h_16) ⟨⟩ ⟨⟩) h_15 ⟨⟩) h_14 ⟨⟩) h_13 ⟨⟩) h_12 ⟨⟩) h_11 ⟨⟩) [t27] h_10 ⟨⟩) h_9 ⟨⟩) h_8 ⟨⟩) h_7 ⟨⟩) h_6 ⟨⟩) ⟨⟩) h_4 ⟨⟩) h_3 ⟨⟩) h_2 ⟨⟩) (
 R (.tuple #[]) h_2) ⟨⟩ ⟨⟩) h_1 ⟨⟩) h ⟨⟩

theorem n71_calls {data0 a1 b2 cmp3 : Value} {R : Value → Heap → Prop} {h : Heap} (H : n71 data0 a1 b2 cmp3 R h) : CallsH Try.prog 71 #[data0, a1, b2, cmp3] h R ⟨⟩ :=
 callsH_of_eq Try.follow (.n none .l (.n none .l (.n none (.n none .l (.n none .l (.n none .l (.n none (.n (some [12]) (.n none .l (.n none (.n none (.n none .l (.n (some [13]) .l .l)) .l) .l)) .l) .l)))) .l))) Try.func71 (by kernel_rfl) (by kernel_rfl) (by kernel_rfl) H

/-- slices.choosePivotCmpFunc[palimpsest/api.Run] -/
def n72 (data0 a1 b2 cmp3 : Value) (R : Value → Heap → Prop) (h : Heap) : Prop :=
 Hp Try.prog false (binS .sub 3 (.tmp 15) (.tmp 16) b2 a1) (fun t17 h_1 => 
 Hp Try.prog false (Instr.alloc 3 true undef) (fun swaps11 h_2 => 
 Hp Try.prog false (binS .quo 3 (.tmp 19) (.const (.int .i64 4)) t17 (.int .i64 4)) (fun t20 h_3 => 
 Hp Try.prog false (binS .mul 3 (.tmp 20) (.const (.int .i64 1)) t20 (.int .i64 1)) (fun t21 h_4 => 
 Hp Try.prog false (binS .add 3 (.tmp 18) (.tmp 21) a1 t21) (fun t22 h_5 => 
 Hp Try.prog false (binS .quo 3 (.tmp 24) (.const (.int .i64 4)) t17 (.int .i64 4)) (fun t25 h_6 => 
 Hp Try.prog false (binS .mul 3 (.tmp 25) (.const (.int .i64 2)) t25 (.int .i64 2)) (fun t26 h_7 => 
 Hp Try.prog false (binS .add 3 (.tmp 23) (.tmp 26) a1 t26) (fun t27 h_8 => 
 Hp Try.prog false (binS .quo 3 (.tmp 29) (.const (.int .i64 4)) t17 (.int .i64 4)) (fun t30 h_9 => 
 Hp Try.prog false (binS .mul 3 (.tmp 30) (.const (.int .i64 3)) t30 (.int .i64 3)) (fun t31 h_10 => 
 Hp Try.prog false (binS .add 3 (.tmp 28) (.tmp 31) a1 t31) (fun t32 h_11 => 
 JoinN 1 (fun (k : Value → Heap → Prop) h_12 =>
 Hp Try.prog false (binS .geq 3 (.tmp 33) (.const (.int .i64 8)) t17 (.int .i64 8)) (fun t34 h_13 => 
 CondP t34 (
 JoinN 3 (fun (k_1 : Value → Value → Value → Heap → Prop) h_14 =>
 Hp Try.prog false (binS .geq 3 (.tmp 35) (.const (.int .i64 50)) t17 (.int .i64 50)) (fun t36 h_15 => 
 CondP t36 (
 CallsH Try.prog 82 #[data0, t22, swaps11, cmp3] h_15 (fun t40 h_16 => 
 CallsH Try.prog 82 #[data0, t27, swaps11, cmp3] h_16 (fun t44 h_17 => 
 CallsH Try.prog 82 #[data0, t32, swaps11, cmp3] h_17 (fun t48 h_18 => 
 k_1 t40 t44 t48 h_18) ⟨⟩) ⟨⟩) ⟨⟩) (
 k_1 t22 t27 t32 h_15) ⟨⟩ ⟨⟩) h_14 ⟨⟩)
 (fun i12 j13 k14 h_19 =>
 CallsH Try.prog 83 #[data0, i12, j13, k14, swaps11, cmp3] h_19 (fun t54 h_20 => 
 k t54 h_20) ⟨⟩) h_13 ⟨⟩ ⟨⟩) (
 k t27 h_13) ⟨⟩ ⟨⟩) h_12 ⟨⟩)
 (fun j13_1 h_21 =>
 Hp Try.prog false (Instr.loadAt 3 swaps11) (fun t55 h_22 => 
 Hp Try.prog false (binS .eql 3 (.tmp 55) (.const (.int .i64 0)) t55 (.int .i64 0)) (fun t58 h_23 => 
 CondP t58 (
 R (.tuple #[j13_1, (.int .i64 1)]) h_23) (
 Hp Try.prog false (binS .eql 3 (.tmp 55) (.const (.int .i64 12)) t55 (.int .i64 12)) (fun t61 h_24 => 
 CondP t61 (
 R (.tuple #[j13_1, (.int .i64 2)]) h_24) (
 R (.tuple #[j13_1, (.int .i64 0)]) h_24) ⟨⟩ ⟨⟩) h_23 ⟨⟩) ⟨⟩ ⟨⟩) h_22 ⟨⟩) h_21 ⟨⟩) h_11 ⟨⟩ ⟨⟩) h_10 ⟨⟩) h_9 ⟨⟩) h_8 ⟨⟩) h_7 ⟨⟩) h_6 ⟨⟩) h_5 ⟨⟩) h_4 ⟨⟩) h_3 ⟨⟩) h_2 ⟨⟩) h_1 ⟨⟩) h ⟨⟩

theorem n72_calls {data0 a1 b2 cmp3 : Value} {R : Value → Heap → Prop} {h : Heap} (H : n72 data0 a1 b2 cmp3 R h) : CallsH Try.prog 72 #[data0, a1, b2, cmp3] h R ⟨⟩ :=
 callsH_of_eq Try.follow (.n none .l (.n none .l (.n none .l (.n none .l (.n none .l (.n none .l (.n (some [14]) (.n none .l (.n none (.n (some [13, 14, 15]) .l .l) .l)) .l))))))) Try.func72 (by kernel_rfl) (by kernel_rfl) (by kernel_rfl) H

/-- slices.reverseRangeCmpFunc[palimpsest/api.Run] -/
def n73 (data0 a1 b2 cmp3 : Value) (R : Value → Heap → Prop) (h : Heap) : Prop :=
 Hp Try.prog false (binS .sub 3 (.tmp 11) (.const (.int .i64 1)) b2 (.int .i64 1)) (fun t12 h_1 => 
 LoopC 2 (fun (X : Value → Value → Heap → Prop) => fun i8 j9 h_2 =>
 Hp Try.prog false (binS .lss 3 (.tmp 13) (.tmp 14) i8 j9) (fun t15 h_3 => 
 CondP t15 (
 Hp Try.prog true (Instr.indexAt 22 data0 j9) (fun t22 _ => 
 Hp Try.prog true (Instr.loadAt 24 t22) (fun t23 _ => 
 Hp Try.prog true (Instr.indexAt 22 data0 i8) (fun t26 _ => 
 Hp Try.prog true (Instr.loadAt 24 t26) (fun t27 _ => 
 Hp Try.prog true (Instr.indexAt 22 data0 i8) (fun t28 _ => 
 Hp Try.prog false (storeS 24 t28 t23) (fun _ h_4 => 
 Hp Try.prog true (Instr.indexAt 22 data0 j9) (fun t29 _ => 
 Hp Try.prog false (storeS 24 t29 t27) (fun _ h_5 => 
 Hp Try.prog false (binS .add 3 (.tmp 30) (.const (.int .i64 1)) i8 (.int .i64 1)) (fun t31 h_6 => 
 Hp Try.prog false (binS .sub 3 (.tmp 32) (.const (.int .i64 1)) j9 (.int .i64 1)) (fun t33 h_7 => 
 X t31 t33 h_7) h_6 ⟨⟩) h_5 ⟨⟩) h_4 ⟨⟩) #[] ⟨⟩) h_3 ⟨⟩) #[] ⟨⟩) h_3 ⟨⟩) #[] ⟨⟩) h_3 ⟨⟩) #[] ⟨⟩) (
 R (.tuple #[]) h_3) ⟨⟩ ⟨⟩) h_2 ⟨⟩) [a1, t12] h_1 ⟨⟩) h ⟨⟩

theorem n73_calls {data0 a1 b2 cmp3 : Value} {R : Value → Heap → Prop} {h : Heap} (H : n73 data0 a1 b2 cmp3 R h) : CallsH Try.prog 73 #[data0, a1, b2, cmp3] h R ⟨⟩ :=
 callsH_of_eq Try.follow (.n none .l (.n none .l (.n none (.n (some [9, 10]) .l .l) .l))) Try.func73 (by kernel_rfl) (by kernel_rfl) (by kernel_rfl) H

/-- slices.partialInsertionSortCmpFunc[palimpsest/api.Run] -/
def n74 (data0 a1 b2 cmp3 : Value) (R : Value → Heap → Prop) (h : Heap) : Prop :=
 Hp Try.prog false (binS .add 3 (.tmp 13) (.const (.int .i64 1)) a1 (.int .i64 1)) (fun t14 h_1 => 
 LoopC 2 (fun (X : Value → Value → Heap → Prop) => fun i9 j10 h_2 =>
 Hp Try.prog false (binS .lss 3 (.tmp 15) (.const (.int .i64 5)) j10 (.int .i64 5)) (fun t16 h_3 => 
 CondP t16 (
 JoinN 1 (fun (k : Value → Heap → Prop) h_4 =>
 JoinN 1 (fun (k_1 : Value → Heap → Prop) h_5 =>
 LoopC 1 (fun (X_1 : Value → Heap → Prop) => fun i9_1 h_6 =>
 Hp Try.prog true (binS .lss 3 (.tmp 19) (.tmp 20) i9_1 b2) (fun t21 _ => 
 Join1 (fun k_2 h_7 => guardP t21 true (k_2 cmp3 h_7) (k_2 undef h_7) ⟨⟩ ⟨⟩) (fun t23 _ => 
 Join1 (fun k_3 h_8 => guardP t21 true (k_3 data0 h_8) (k_3 undef h_8) ⟨⟩ ⟨⟩) (fun t24 _ => 
 Join1 (fun k_4 h_9 => guardP t21 true (k_4 i9_1 h_9) (k_4 undef h_9) ⟨⟩ ⟨⟩) (fun t25 _ => 
 Join1 (fun k_5 h_10 => guardP t21 true (Hp Try.prog true (Instr.indexAt 22 t24 t25) k_5 h_10 ⟨⟩) (k_5 undef h_10) ⟨⟩ ⟨⟩) (fun t26 _ => 
 Join1 (fun k_6 h_11 => guardP t21 true (Hp Try.prog true (Instr.loadAt 24 t26) k_6 h_11 ⟨⟩) (k_6 undef h_11) ⟨⟩ ⟨⟩) (fun t27 _ => 
 Join1 (fun k_7 h_12 => guardP t21 true (k_7 data0 h_12) (k_7 undef h_12) ⟨⟩ ⟨⟩) (fun t28 _ => 
 Join1 (fun k_8 h_13 => guardP t21 true (k_8 i9_1 h_13) (k_8 undef h_13) ⟨⟩ ⟨⟩) (fun t29 _ => 
 Join1 (fun k_9 h_14 => guardP t21 true (Hp Try.prog true (binS .sub 3 (.tmp 29) (.const (.int .i64 1)) t29 (.int .i64 1)) k_9 h_14 ⟨⟩) (k_9 undef h_14) ⟨⟩ ⟨⟩) (fun t30 _ => 
 Join1 (fun k_10 h_15 => guardP t21 true (Hp Try.prog true (Instr.indexAt 22 t28 t30) k_10 h_15 ⟨⟩) (k_10 undef h_15) ⟨⟩ ⟨⟩) (fun t31 _ => 
 Join1 (fun k_11 h_16 => guardP t21 true (Hp Try.prog true (Instr.loadAt 24 t31) k_11 h_16 ⟨⟩) (k_11 undef h_16) ⟨⟩ ⟨⟩) (fun t32 _ => 
 Join1 (fun k_12 h_17 => guardP t21 true (InvokeH Try.prog t23 #[t27, t32] h_17 k_12 ⟨⟩) (k_12 undef h_17) ⟨⟩ ⟨⟩) (fun t33 h_18 => 
 Join1 (fun k_13 h_19 => guardP t21 true (Hp Try.prog true (binS .lss 3 (.tmp 33) (.const (.int .i64 0)) t33 (.int .i64 0)) k_13 h_19 ⟨⟩) (k_13 undef h_19) ⟨⟩ ⟨⟩) (fun t34 _ => 
 Join1 (fun k_14 h_20 => guardP t21 true (Hp Try.prog true (Op.unary .not t34) k_14 h_20 ⟨⟩) (k_14 undef h_20) ⟨⟩ ⟨⟩) (fun t35 _ => 
 Hp Try.prog true (pickS t21 t35 (.bool false)) (fun t36 _ => 
 CondP t36 (
 Hp Try.prog false (binS .add 3 (.tmp 37) (.const (.int .i64 1)) i9_1 (.int .i64 1)) (fun t38 h_21 => 
 X_1 t38 h_21) h_18 ⟨⟩) (
 Hp Try.prog false (binS .eql 3 (.tmp 39) (.tmp 40) i9_1 b2) (fun t41 h_22 => 
 CondP t41 (
 R (.bool true) h_22) (
 Hp Try.prog false (binS .sub 3 (.tmp 42) (.tmp 43) b2 a1) (fun t44 h_23 => 
 Hp Try.prog false (binS .lss 3 (.tmp 44) (.const (.int .i64 50)) t44 (.int .i64 50)) (fun t45 h_24 => 
 CondP t45 (
 R (.bool false) h_24) (
 Hp Try.prog true (binS .sub 3 (.tmp 49) (.const (.int .i64 1)) i9_1 (.int .i64 1)) (fun t50 _ => 
 Hp Try.prog true (binS .sub 3 (.tmp 52) (.const (.int .i64 1)) i9_1 (.int .i64 1)) (fun t53 _ => 
 Hp Try.prog true (Instr.indexAt 22 data0 t53) (fun t54 _ => 
 Hp Try.prog true (Instr.loadAt 24 t54) (fun t55 _ => 
 Hp Try.prog true (Instr.indexAt 22 data0 i9_1) (fun t58 _ => 
 Hp Try.prog true (Instr.loadAt 24 t58) (fun t59 _ => 
 Hp Try.prog true (Instr.indexAt 22 data0 i9_1) (fun t60 _ => 
 Hp Try.prog false (storeS 24 t60 t55) (fun _ h_25 => 
 Hp Try.prog true (Instr.indexAt 22 data0 t50) (fun t61 _ => 
 Hp Try.prog false (storeS 24 t61 t59) (fun _ h_26 => 
 JoinN 0 (fun (k_15 : Heap → Prop) h_27 =>
 Hp Try.prog false (binS .sub 3 (.tmp 62) (.tmp 63) i9_1 a1) (fun t64 h_28 => 
 Hp Try.prog false (binS .geq 3 (.tmp 64) (.const (.int .i64 2)) t64 (.int .i64 2)) (fun t65 h_29 => 
 CondP t65 (
 Hp Try.prog false (binS .sub 3 (.tmp 66) (.const (.int .i64 1)) i9_1 (.int .i64 1)) (fun t67 h_30 => 
 JoinN 0 (fun (k_16 : Heap → Prop) h_31 =>
 LoopC 1 (fun (X_2 : Value → Heap → Prop) => fun j11 h_32 =>
 Hp Try.prog false (binS .geq 3 (.tmp 68) (.const (.int .i64 1)) j11 (.int .i64 1)) (fun t69 h_33 => 
 CondP t69 (
 Hp Try.prog true (Instr.indexAt 22 data0 j11) (fun t75 _ => 
 Hp Try.prog true (Instr.loadAt 24 t75) (fun t76 _ => 
 Hp Try.prog true (binS .sub 3 (.tmp 78) (.const (.int .i64 1)) j11 (.int .i64 1)) (fun t79 _ => 
 Hp Try.prog true (Instr.indexAt 22 data0 t79) (fun t80 _ => 
 Hp Try.prog true (Instr.loadAt 24 t80) (fun t81 _ => 
 InvokeH Try.prog cmp3 #[t76, t81] h_33 (fun t82 h_34 => 
 Hp Try.prog true (binS .lss 3 (.tmp 82) (.const (.int .i64 0)) t82 (.int .i64 0)) (fun t83 _ => 
 Hp Try.prog true (Op.unary .not t83) (fun t84 _ => 
 CondP t84 (
 k_16 h_34) (
 Hp Try.prog true (binS .sub 3 (.tmp 88) (.const (.int .i64 1)) j11 (.int .i64 1)) (fun t89 _ => 
 Hp Try.prog true (binS .sub 3 (.tmp 91) (.const (.int .i64 1)) j11 (.int .i64 1)) (fun t92 _ => 
 Hp Try.prog true (Instr.indexAt 22 data0 t92) (fun t93 _ => 
 Hp Try.prog true (Instr.loadAt 24 t93) (fun t94 _ => 
 Hp Try.prog true (Instr.indexAt 22 data0 j11) (fun t97 _ => 
 Hp Try.prog true (Instr.loadAt 24 t97) (fun t98 _ => 
 Hp Try.prog true (Instr.indexAt 22 data0 j11) (fun t99 _ => 
 Hp Try.prog false (storeS 24 t99 t94) (fun _ h_35 => 
 Hp Try.prog true (Instr.indexAt 22 data0 t89) (fun t100 _ => 
 Hp Try.prog false (storeS 24 t100 t98) (fun _ h_36 => 
 Hp Try.prog false (binS .sub 3 (.tmp 70) (.const (.int .i64 1)) j11 (.int .i64 1)) (fun t71 h_37 => 
 X_2 t71 h_37) h_36 ⟨⟩) h_35 ⟨⟩) #[] ⟨⟩) h_34 ⟨⟩) #[] ⟨⟩) h_34 ⟨⟩) #[] ⟨⟩) h_34 ⟨⟩) #[] ⟨⟩) #[] ⟨⟩) #[] ⟨⟩) ⟨⟩ ⟨⟩) #[] ⟨⟩) #[] ⟨⟩) ⟨⟩) h_33 ⟨⟩) #[] ⟨⟩) #[] ⟨⟩) h_33 ⟨⟩) #[] ⟨⟩) (
 k_16 h_33) ⟨⟩ ⟨⟩) h_32 ⟨⟩) [t67] h_31 ⟨⟩)
 (fun h_38 =>
 k_15 h_38) h_30 ⟨⟩ ⟨⟩) h_29 ⟨⟩) (
 k_15 h_29) ⟨⟩ ⟨⟩) h_28 ⟨⟩) h_27 ⟨⟩)
 (fun h_39 =>
 Hp Try.prog false (binS .sub 3 (.tmp 101) (.tmp 102) b2 i9_1) (fun t103 h_40 => 
 Hp Try.prog false (binS .geq 3 (.tmp 103) (.const (.int .i64 2)) t103 (.int .i64 2)) (fun t104 h_41 => 
 CondP t104 (
 Hp Try.prog false (binS .add 3 (.tmp 105) (.const (.int .i64 1)) i9_1 (.int .i64 1)) (fun t106 h_42 => 
 JoinN 0 (fun (k_17 : Heap → Prop) h_43 =>
 LoopC 1 (fun (X_3 : Value → Heap → Prop) => fun j12 h_44 =>
 Hp Try.prog false (binS .lss 3 (.tmp 107) (.tmp 108) j12 b2) (fun t109 h_45 => 
 CondP t109 (
 Hp Try.prog true (Instr.indexAt 22 data0 j12) (fun t115 _ => 
 Hp Try.prog true (Instr.loadAt 24 t115) (fun t116 _ => 
 Hp Try.prog true (binS .sub 3 (.tmp 118) (.const (.int .i64 1)) j12 (.int .i64 1)) (fun t119 _ => 
 Hp Try.prog true (Instr.indexAt 22 data0 t119) (fun t120 _ => 
 Hp Try.prog true (Instr.loadAt 24 t120) (fun t121 _ => 
 InvokeH Try.prog cmp3 #[t116, t121] h_45 (fun t122 h_46 => 
 Hp Try.prog true (binS .lss 3 (.tmp 122) (.const (.int .i64 0)) t122 (.int .i64 0)) (fun t123 _ => 
 Hp Try.prog true (Op.unary .not t123) (fun t124 _ => 
 CondP t124 (
 k_17 h_46) (
 Hp Try.prog true (binS .sub 3 (.tmp 128) (.const (.int .i64 1)) j12 (.int .i64 1)) (fun t129 _ => 
 Hp Try.prog true (binS .sub 3 (.tmp 131) (.const (.int .i64 1)) j12 (.int .i64 1)) (fun t132 _ => 
 Hp Try.prog true (Instr.indexAt 22 data0 t132) (fun t133 _ => 
 Hp Try.prog true (Instr.loadAt 24 t133) (fun t134 _ => 
 Hp Try.prog true (Instr.indexAt 22 data0 j12) (fun t137 _ => 
 Hp Try.prog true (Instr.loadAt 24 t137) (fun t138 _ => 
 Hp Try.prog true (Instr.indexAt 22 data0 j12) (fun t139 _ => 
 Hp Try.prog false (storeS 24 t139 t134) (fun _ h_47 => 
 Hp Try.prog true (Instr.indexAt 22 data0 t129) (fun t140 _ => 
 Hp Try.prog false (storeS 24 t140 t138) (fun _ h_48 => 
 Hp Try.prog false (binS .add 3 (.tmp 110) (.const (.int .i64 1)) j12 (.int .i64 1)) (fun t111 h_49 => 
 X_3 t111 h_49) h_48 ⟨⟩) h_47 ⟨⟩) #[] ⟨⟩) h_46 ⟨⟩) #[] ⟨⟩) h_46 ⟨⟩) #[] ⟨⟩) h_46 ⟨⟩) #[] ⟨⟩) #[] ⟨⟩) #[] ⟨⟩) ⟨⟩ ⟨⟩) #[] ⟨⟩) #[] ⟨⟩) ⟨⟩) h_45 ⟨⟩) #[] ⟨⟩) #[] ⟨⟩) h_45 ⟨⟩) #[] ⟨⟩) (
 k_17 h_45) ⟨⟩ ⟨⟩) h_44 ⟨⟩) [t106] h_43 ⟨⟩)
 (fun h_50 =>
 k_1 i9_1 h_50) h_42 ⟨⟩ ⟨⟩) h_41 ⟨⟩) (
 k_1 i9_1 h_41) ⟨⟩ ⟨⟩) h_40 ⟨⟩) h_39 ⟨⟩) h_26 ⟨⟩ ⟨⟩) h_25 ⟨⟩) #[] ⟨⟩) h_24 ⟨⟩) #[] ⟨⟩) h_24 ⟨⟩) #[] ⟨⟩) h_24 ⟨⟩) #[] ⟨⟩) #[] ⟨⟩) #[] ⟨⟩) ⟨⟩ ⟨⟩) h_23 ⟨⟩) h_22 ⟨⟩) ⟨⟩ ⟨⟩) h_18 ⟨⟩) ⟨⟩ ⟨⟩) #[] ⟨⟩) #[] ⟨⟩ ⟨⟩) #[] ⟨⟩ ⟨⟩) h_6 ⟨⟩ ⟨⟩) h_6 ⟨⟩ ⟨⟩) #[] ⟨⟩ ⟨⟩) #[] ⟨⟩ ⟨⟩) #[] ⟨⟩ ⟨⟩) #[] ⟨⟩ ⟨⟩) h_6 ⟨⟩ ⟨⟩) #[] ⟨⟩ ⟨⟩) #[] ⟨⟩ ⟨⟩) #[] ⟨⟩ ⟨⟩) #[] ⟨⟩ ⟨⟩) #[] ⟨⟩) [i9] h_5 ⟨⟩)
 (fun i9_2 h_51 =>
 k i9_2 h_51) h_4 ⟨⟩ ⟨⟩)
 (fun i9_3 h_52 =>
 Hp Try.prog false (binS .add 3 (.tmp 17) (.const (.int .i64 1)) j10 (.int .i64 1)) (fun t18 h_53 => 
 X i9_3 t18 h_53) h_52 ⟨⟩) h_3 ⟨⟩ ⟨⟩) (
 R (.bool false) h_3) ⟨⟩ ⟨⟩) h_2 ⟨⟩) [t14, (.int .i64 0)] h_1 ⟨⟩) h ⟨⟩

theorem n74_calls {data0 a1 b2 cmp3 : Value} {R : Value → Heap → Prop} {h : Heap} (H : n74 data0 a1 b2 cmp3 R h) : CallsH Try.prog 74 #[data0, a1, b2, cmp3] h R ⟨⟩ :=
 callsH_of_eq Try.follow (.n none .l (.n none .l (.n none (.n none .l (.n none (.n (some [10, 11]) (.n none .l (.n (some [10]) (.n (some [10]) (.n none (.n none (.n (some [10]) .l .l) .l) (.n none .l (.n none .l (.n none .l (.n (some []) (.n none .l (.n none (.n none .l (.n (some []) (.n (some [12]) .l .l) .l)) .l)) (.n none .l (.n none (.n none .l (.n (some []) (.n (some [13]) .l .l) .l)) .l))))))) .l) .l)) .l) .l)) .l))) Try.func74 (by kernel_rfl) (by kernel_rfl) (by kernel_rfl) H

/-- slices.partitionEqualCmpFunc[palimpsest/api.Run] -/
def n75 (data0 a1 b2 pivot3 cmp4 : Value) (R : Value → Heap → Prop) (h : Heap) : Prop :=
 Hp Try.prog true (Instr.indexAt 22 data0 pivot3) (fun t19 _ => 
 Hp Try.prog true (Instr.loadAt 24 t19) (fun t20 _ => 
 Hp Try.prog true (Instr.indexAt 22 data0 a1) (fun t23 _ => 
 Hp Try.prog true (Instr.loadAt 24 t23) (fun t24 _ => 
 Hp Try.prog true (Instr.indexAt 22 data0 a1) (fun t25 _ => 
 Hp Try.prog false (storeS 24 t25 t20) (fun _ h_1 => 
 Hp Try.prog true (Instr.indexAt 22 data0 pivot3) (fun t26 _ => 
 Hp Try.prog false (storeS 24 t26 t24) (fun _ h_2 => 
 Hp Try.prog false (binS .add 3 (.tmp 27) (.const (.int .i64 1)) a1 (.int .i64 1)) (fun t28 h_3 => 
 Hp Try.prog false (binS .sub 3 (.tmp 29) (.const (.int .i64 1)) b2 (.int .i64 1)) (fun t30 h_4 => 
 LoopC 2 (fun (X : Value → Value → Heap → Prop) => fun i11 j12 h_5 =>
 LoopC 1 (fun (X_1 : Value → Heap → Prop) => fun i11_1 h_6 =>
 Hp Try.prog true (binS .leq 3 (.tmp 31) (.tmp 32) i11_1 j12) (fun t33 _ => 
 Join1 (fun k h_7 => guardP t33 true (k cmp4 h_7) (k undef h_7) ⟨⟩ ⟨⟩) (fun t35 _ => 
 Join1 (fun k_1 h_8 => guardP t33 true (k_1 data0 h_8) (k_1 undef h_8) ⟨⟩ ⟨⟩) (fun t36 _ => 
 Join1 (fun k_2 h_9 => guardP t33 true (k_2 a1 h_9) (k_2 undef h_9) ⟨⟩ ⟨⟩) (fun t37 _ => 
 Join1 (fun k_3 h_10 => guardP t33 true (Hp Try.prog true (Instr.indexAt 22 t36 t37) k_3 h_10 ⟨⟩) (k_3 undef h_10) ⟨⟩ ⟨⟩) (fun t38 _ => 
 Join1 (fun k_4 h_11 => guardP t33 true (Hp Try.prog true (Instr.loadAt 24 t38) k_4 h_11 ⟨⟩) (k_4 undef h_11) ⟨⟩ ⟨⟩) (fun t39 _ => 
 Join1 (fun k_5 h_12 => guardP t33 true (k_5 data0 h_12) (k_5 undef h_12) ⟨⟩ ⟨⟩) (fun t40 _ => 
 Join1 (fun k_6 h_13 => guardP t33 true (k_6 i11_1 h_13) (k_6 undef h_13) ⟨⟩ ⟨⟩) (fun t41 _ => 
 Join1 (fun k_7 h_14 => guardP t33 true (Hp Try.prog true (Instr.indexAt 22 t40 t41) k_7 h_14 ⟨⟩) (k_7 undef h_14) ⟨⟩ ⟨⟩) (fun t42 _ => 
 Join1 (fun k_8 h_15 => guardP t33 true (Hp Try.prog true (Instr.loadAt 24 t42) k_8 h_15 ⟨⟩) (k_8 undef h_15) ⟨⟩ ⟨⟩) (fun t43 _ => 
 Join1 (fun k_9 h_16 => guardP t33 true (InvokeH Try.prog t35 #[t39, t43] h_16 k_9 ⟨⟩) (k_9 undef h_16) ⟨⟩ ⟨⟩) (fun t44 h_17 => 
 Join1 (fun k_10 h_18 => guardP t33 true (Hp Try.prog true (binS .lss 3 (.tmp 44) (.const (.int .i64 0)) t44 (.int .i64 0)) k_10 h_18 ⟨⟩) (k_10 undef h_18) ⟨⟩ ⟨⟩) (fun t45 _ => 
 Join1 (fun k_11 h_19 => guardP t33 true (Hp Try.prog true (Op.unary .not t45) k_11 h_19 ⟨⟩) (k_11 undef h_19) ⟨⟩ ⟨⟩) (fun t46 _ => 
 Hp Try.prog true (pickS t33 t46 (.bool false)) (fun t47 _ => 
 CondP t47 (
 Hp Try.prog false (binS .add 3 (.tmp 48) (.const (.int .i64 1)) i11_1 (.int .i64 1)) (fun t49 h_20 => 
 X_1 t49 h_20) h_17 ⟨⟩) (
 LoopC 1 (fun (X_2 : Value → Heap → Prop) => fun j12_1 h_21 =>
 Hp Try.prog true (binS .leq 3 (.tmp 50) (.tmp 51) i11_1 j12_1) (fun t52 _ => 
 Join1 (fun k_12 h_22 => guardP t52 true (k_12 cmp4 h_22) (k_12 undef h_22) ⟨⟩ ⟨⟩) (fun t54 _ => 
 Join1 (fun k_13 h_23 => guardP t52 true (k_13 data0 h_23) (k_13 undef h_23) ⟨⟩ ⟨⟩) (fun t55 _ => 
 Join1 (fun k_14 h_24 => guardP t52 true (k_14 a1 h_24) (k_14 undef h_24) ⟨⟩ ⟨⟩) (fun t56 _ => 
 Join1 (fun k_15 h_25 => guardP t52 true (Hp Try.prog true (Instr.indexAt 22 t55 t56) k_15 h_25 ⟨⟩) (k_15 undef h_25) ⟨⟩ ⟨⟩) (fun t57 _ => 
 Join1 (fun k_16 h_26 => guardP t52 true (Hp Try.prog true (Instr.loadAt 24 t57) k_16 h_26 ⟨⟩) (k_16 undef h_26) ⟨⟩ ⟨⟩) (fun t58 _ => 
 Join1 (fun k_17 h_27 => guardP t52 true (k_17 data0 h_27) (k_17 undef h_27) ⟨⟩ ⟨⟩) (fun t59 _ => 
 Join1 (fun k_18 h_28 => guardP t52 true (k_18 j12_1 h_28) (k_18 undef h_28) ⟨⟩ ⟨⟩) (fun t60 _ => 
 Join1 (fun k_19 h_29 => guardP t52 true (Hp Try.prog true (Instr.indexAt 22 t59 t60) k_19 h_29 ⟨⟩) (k_19 undef h_29) ⟨⟩ ⟨⟩) (fun t61 _ => 
 Join1 (fun k_20 h_30 => guardP t52 true (Hp Try.prog true (Instr.loadAt 24 t61) k_20 h_30 ⟨⟩) (k_20 undef h_30) ⟨⟩ ⟨⟩) (fun t62 _ => 
 Join1 (fun k_21 h_31 => guardP t52 true (InvokeH Try.prog t54 #[t58, t62] h_31 k_21 ⟨⟩) (k_21 undef h_31) ⟨⟩ ⟨⟩) (fun t63 h_32 => 
 Join1 (fun k_22 h_33 => guardP t52 true (Hp Try.prog true (binS .lss 3 (.tmp 63) (.const (.int .i64 0)) t63 (.int .i64 0)) k_22 h_33 ⟨⟩) (k_22 undef h_33) ⟨⟩ ⟨⟩) (fun t64 _ => 
 Hp Try.prog true (pickS t52 t64 (.bool false)) (fun t65 _ => 
 CondP t65 (
 Hp Try.prog false (binS .sub 3 (.tmp 66) (.const (.int .i64 1)) j12_1 (.int .i64 1)) (fun t67 h_34 => 
 X_2 t67 h_34) h_32 ⟨⟩) (
 Hp Try.prog false (binS .gtr 3 (.tmp 68) (.tmp 69) i11_1 j12_1) (fun t70 h_35 => 
 CondP t70 (
 R i11_1 h_35) (
 Hp Try.prog true (Instr.indexAt 22 data0 j12_1) (fun t77 _ => 
 Hp Try.prog true (Instr.loadAt 24 t77) (fun t78 _ => 
 Hp Try.prog true (Instr.indexAt 22 data0 i11_1) (fun t81 _ => 
 Hp Try.prog true (Instr.loadAt 24 t81) (fun t82 _ => 
 Hp Try.prog true (Instr.indexAt 22 data0 i11_1) (fun t83 _ => 
 Hp Try.prog false (storeS 24 t83 t78) (fun _ h_36 => 
 Hp Try.prog true (Instr.indexAt 22 data0 j12_1) (fun t84 _ => 
 Hp Try.prog false (storeS 24 t84 t82) (fun _ h_37 => 
 Hp Try.prog false (binS .add 3 (.tmp 85) (.const (.int .i64 1)) i11_1 (.int .i64 1)) (fun t86 h_38 => 
 Hp Try.prog false (binS .sub 3 (.tmp 87) (.const (.int .i64 1)) j12_1 (.int .i64 1)) (fun t88 h_39 => 
 X t86 t88 h_39) h_38 ⟨⟩) h_37 ⟨⟩) h_36 ⟨⟩) #[] ⟨⟩) h_35 ⟨⟩) #[] ⟨⟩) h_35 ⟨⟩) #[] ⟨⟩) h_35 ⟨⟩) #[] ⟨⟩) ⟨⟩ ⟨⟩) h_32 ⟨⟩) ⟨⟩ ⟨⟩) #[] ⟨⟩) #[] ⟨⟩ ⟨⟩) h_21 ⟨⟩ ⟨⟩) h_21 ⟨⟩ ⟨⟩) #[] ⟨⟩ ⟨⟩) #[] ⟨⟩ ⟨⟩) #[] ⟨⟩ ⟨⟩) h_21 ⟨⟩ ⟨⟩) #[] ⟨⟩ ⟨⟩) #[] ⟨⟩ ⟨⟩) #[] ⟨⟩ ⟨⟩) #[] ⟨⟩ ⟨⟩) #[] ⟨⟩) [j12] h_17 ⟨⟩) ⟨⟩ ⟨⟩) #[] ⟨⟩) #[] ⟨⟩ ⟨⟩) #[] ⟨⟩ ⟨⟩) h_6 ⟨⟩ ⟨⟩) h_6 ⟨⟩ ⟨⟩) #[] ⟨⟩ ⟨⟩) #[] ⟨⟩ ⟨⟩) #[] ⟨⟩ ⟨⟩) h_6 ⟨⟩ ⟨⟩) #[] ⟨⟩ ⟨⟩) #[] ⟨⟩ ⟨⟩) #[] ⟨⟩ ⟨⟩) #[] ⟨⟩ ⟨⟩) #[] ⟨⟩) [i11] h_5 ⟨⟩) [t28, t30] h_4 ⟨⟩) h_3 ⟨⟩) h_2 ⟨⟩) h_1 ⟨⟩) #[] ⟨⟩) h ⟨⟩) #[] ⟨⟩) h ⟨⟩) #[] ⟨⟩) h ⟨⟩) #[] ⟨⟩

theorem n75_calls {data0 a1 b2 pivot3 cmp4 : Value} {R : Value → Heap → Prop} {h : Heap} (H : n75 data0 a1 b2 pivot3 cmp4 R h) : CallsH Try.prog 75 #[data0, a1, b2, pivot3, cmp4] h R ⟨⟩ :=
 callsH_of_eq Try.follow (.n none .l (.n none .l (.n none .l (.n none (.n none (.n (some [12, 13]) (.n none (.n none (.n none (.n (some [12]) .l .l) .l) (.n none (.n none (.n (some [13]) .l .l) .l) .l)) .l) .l) .l) .l)))) Try.func75 (by kernel_rfl) (by kernel_rfl) (by kernel_rfl) H

/-- slices.partitionCmpFunc[palimpsest/api.Run] -/
def n76 (data0 a1 b2 pivot3 cmp4 : Value) (R : Value → Heap → Prop) (h : Heap) : Prop :=
 Hp Try.prog true (Instr.indexAt 22 data0 pivot3) (fun t20 _ => 
 Hp Try.prog true (Instr.loadAt 24 t20) (fun t21 _ => 
 Hp Try.prog true (Instr.indexAt 22 data0 a1) (fun t24 _ => 
 Hp Try.prog true (Instr.loadAt 24 t24) (fun t25 _ => 
 Hp Try.prog true (Instr.indexAt 22 data0 a1) (fun t26 _ => 
 Hp Try.prog false (storeS 24 t26 t21) (fun _ h_1 => 
 Hp Try.prog true (Instr.indexAt 22 data0 pivot3) (fun t27 _ => 
 Hp Try.prog false (storeS 24 t27 t25) (fun _ h_2 => 
 Hp Try.prog false (binS .add 3 (.tmp 28) (.const (.int .i64 1)) a1 (.int .i64 1)) (fun t29 h_3 => 
 Hp Try.prog false (binS .sub 3 (.tmp 30) (.const (.int .i64 1)) b2 (.int .i64 1)) (fun t31 h_4 => 
 LoopC 1 (fun (X : Value → Heap → Prop) => fun i12 h_5 =>
 Hp Try.prog true (binS .leq 3 (.tmp 32) (.tmp 33) i12 t31) (fun t34 _ => 
 Join1 (fun k h_6 => guardP t34 true (k cmp4 h_6) (k undef h_6) ⟨⟩ ⟨⟩) (fun t36 _ => 
 Join1 (fun k_1 h_7 => guardP t34 true (k_1 data0 h_7) (k_1 undef h_7) ⟨⟩ ⟨⟩) (fun t37 _ => 
 Join1 (fun k_2 h_8 => guardP t34 true (k_2 i12 h_8) (k_2 undef h_8) ⟨⟩ ⟨⟩) (fun t38 _ => 
 Join1 (fun k_3 h_9 => guardP t34 true (Hp Try.prog true (Instr.indexAt 22 t37 t38) k_3 h_9 ⟨⟩) (k_3 undef h_9) ⟨⟩ ⟨⟩) (fun t39 _ => 
 Join1 (fun k_4 h_10 => guardP t34 true (Hp Try.prog true (Instr.loadAt 24 t39) k_4 h_10 ⟨⟩) (k_4 undef h_10) ⟨⟩ ⟨⟩) (fun t40 _ => 
 Join1 (fun k_5 h_11 => guardP t34 true (k_5 data0 h_11) (k_5 undef h_11) ⟨⟩ ⟨⟩) (fun t41 _ => 
 Join1 (fun k_6 h_12 => guardP t34 true (k_6 a1 h_12) (k_6 undef h_12) ⟨⟩ ⟨⟩) (fun t42 _ => 
 Join1 (fun k_7 h_13 => guardP t34 true (Hp Try.prog true (Instr.indexAt 22 t41 t42) k_7 h_13 ⟨⟩) (k_7 undef h_13) ⟨⟩ ⟨⟩) (fun t43 _ => 
 Join1 (fun k_8 h_14 => guardP t34 true (Hp Try.prog true (Instr.loadAt 24 t43) k_8 h_14 ⟨⟩) (k_8 undef h_14) ⟨⟩ ⟨⟩) (fun t44 _ => 
 Join1 (fun k_9 h_15 => guardP t34 true (InvokeH Try.prog t36 #[t40, t44] h_15 k_9 ⟨⟩) (k_9 undef h_15) ⟨⟩ ⟨⟩) (fun t45 h_16 => 
 Join1 (fun k_10 h_17 => guardP t34 true (Hp Try.prog true (binS .lss 3 (.tmp 45) (.const (.int .i64 0)) t45 (.int .i64 0)) k_10 h_17 ⟨⟩) (k_10 undef h_17) ⟨⟩ ⟨⟩) (fun t46 _ => 
 Hp Try.prog true (pickS t34 t46 (.bool false)) (fun t47 _ => 
 CondP t47 (
 Hp Try.prog false (binS .add 3 (.tmp 48) (.const (.int .i64 1)) i12 (.int .i64 1)) (fun t49 h_18 => 
 X t49 h_18) h_16 ⟨⟩) (
 LoopC 1 (fun (X_1 : Value → Heap → Prop) => fun j13 h_19 =>
 Hp Try.prog true (binS .leq 3 (.tmp 50) (.tmp 51) i12 j13) (fun t52 _ => 
 Join1 (fun k_11 h_20 => guardP t52 true (k_11 cmp4 h_20) (k_11 undef h_20) ⟨⟩ ⟨⟩) (fun t54 _ => 
 Join1 (fun k_12 h_21 => guardP t52 true (k_12 data0 h_21) (k_12 undef h_21) ⟨⟩ ⟨⟩) (fun t55 _ => 
 Join1 (fun k_13 h_22 => guardP t52 true (k_13 j13 h_22) (k_13 undef h_22) ⟨⟩ ⟨⟩) (fun t56 _ => 
 Join1 (fun k_14 h_23 => guardP t52 true (Hp Try.prog true (Instr.indexAt 22 t55 t56) k_14 h_23 ⟨⟩) (k_14 undef h_23) ⟨⟩ ⟨⟩) (fun t57 _ => 
 Join1 (fun k_15 h_24 => guardP t52 true (Hp Try.prog true (Instr.loadAt 24 t57) k_15 h_24 ⟨⟩) (k_15 undef h_24) ⟨⟩ ⟨⟩) (fun t58 _ => 
 Join1 (fun k_16 h_25 => guardP t52 true (k_16 data0 h_25) (k_16 undef h_25) ⟨⟩ ⟨⟩) (fun t59 _ => 
 Join1 (fun k_17 h_26 => guardP t52 true (k_17 a1 h_26) (k_17 undef h_26) ⟨⟩ ⟨⟩) (fun t60 _ => 
 Join1 (fun k_18 h_27 => guardP t52 true (Hp Try.prog true (Instr.indexAt 22 t59 t60) k_18 h_27 ⟨⟩) (k_18 undef h_27) ⟨⟩ ⟨⟩) (fun t61 _ => 
 Join1 (fun k_19 h_28 => guardP t52 true (Hp Try.prog true (Instr.loadAt 24 t61) k_19 h_28 ⟨⟩) (k_19 undef h_28) ⟨⟩ ⟨⟩) (fun t62 _ => 
 Join1 (fun k_20 h_29 => guardP t52 true (InvokeH Try.prog t54 #[t58, t62] h_29 k_20 ⟨⟩) (k_20 undef h_29) ⟨⟩ ⟨⟩) (fun t63 h_30 => 
 Join1 (fun k_21 h_31 => guardP t52 true (Hp Try.prog true (binS .lss 3 (.tmp 63) (.const (.int .i64 0)) t63 (.int .i64 0)) k_21 h_31 ⟨⟩) (k_21 undef h_31) ⟨⟩ ⟨⟩) (fun t64 _ => 
 Join1 (fun k_22 h_32 => guardP t52 true (Hp Try.prog true (Op.unary .not t64) k_22 h_32 ⟨⟩) (k_22 undef h_32) ⟨⟩ ⟨⟩) (fun t65 _ => 
 Hp Try.prog true (pickS t52 t65 (.bool false)) (fun t66 _ => 
 CondP t66 (
 Hp Try.prog false (binS .sub 3 (.tmp 67) (.const (.int .i64 1)) j13 (.int .i64 1)) (fun t68 h_33 => 
 X_1 t68 h_33) h_30 ⟨⟩) (
 Hp Try.prog false (binS .gtr 3 (.tmp 69) (.tmp 70) i12 j13) (fun t71 h_34 => 
 CondP t71 (
 Hp Try.prog true (Instr.indexAt 22 data0 a1) (fun t78 _ => 
 Hp Try.prog true (Instr.loadAt 24 t78) (fun t79 _ => 
 Hp Try.prog true (Instr.indexAt 22 data0 j13) (fun t82 _ => 
 Hp Try.prog true (Instr.loadAt 24 t82) (fun t83 _ => 
 Hp Try.prog true (Instr.indexAt 22 data0 j13) (fun t84 _ => 
 Hp Try.prog false (storeS 24 t84 t79) (fun _ h_35 => 
 Hp Try.prog true (Instr.indexAt 22 data0 a1) (fun t85 _ => 
 Hp Try.prog false (storeS 24 t85 t83) (fun _ h_36 => 
 R (.tuple #[j13, (.bool true)]) h_36) h_35 ⟨⟩) #[] ⟨⟩) h_34 ⟨⟩) #[] ⟨⟩) h_34 ⟨⟩) #[] ⟨⟩) h_34 ⟨⟩) #[] ⟨⟩) (
 Hp Try.prog true (Instr.indexAt 22 data0 j13) (fun t93 _ => 
 Hp Try.prog true (Instr.loadAt 24 t93) (fun t94 _ => 
 Hp Try.prog true (Instr.indexAt 22 data0 i12) (fun t97 _ => 
 Hp Try.prog true (Instr.loadAt 24 t97) (fun t98 _ => 
 Hp Try.prog true (Instr.indexAt 22 data0 i12) (fun t99 _ => 
 Hp Try.prog false (storeS 24 t99 t94) (fun _ h_37 => 
 Hp Try.prog true (Instr.indexAt 22 data0 j13) (fun t100 _ => 
 Hp Try.prog false (storeS 24 t100 t98) (fun _ h_38 => 
 Hp Try.prog false (binS .add 3 (.tmp 101) (.const (.int .i64 1)) i12 (.int .i64 1)) (fun t102 h_39 => 
 Hp Try.prog false (binS .sub 3 (.tmp 103) (.const (.int .i64 1)) j13 (.int .i64 1)) (fun t104 h_40 => 
 LoopC 2 (fun (X_2 : Value → Value → Heap → Prop) => fun i12_1 j13_1 h_41 =>
 LoopC 1 (fun (X_3 : Value → Heap → Prop) => fun i12_2 h_42 =>
 Hp Try.prog true (binS .leq 3 (.tmp 105) (.tmp 106) i12_2 j13_1) (fun t107 _ => 
 Join1 (fun k_23 h_43 => guardP t107 true (k_23 cmp4 h_43) (k_23 undef h_43) ⟨⟩ ⟨⟩) (fun t109 _ => 
 Join1 (fun k_24 h_44 => guardP t107 true (k_24 data0 h_44) (k_24 undef h_44) ⟨⟩ ⟨⟩) (fun t110 _ => 
 Join1 (fun k_25 h_45 => guardP t107 true (k_25 i12_2 h_45) (k_25 undef h_45) ⟨⟩ ⟨⟩) (fun t111 _ => 
 Join1 (fun k_26 h_46 => guardP t107 true (Hp Try.prog true (Instr.indexAt 22 t110 t111) k_26 h_46 ⟨⟩) (k_26 undef h_46) ⟨⟩ ⟨⟩) (fun t112 _ => 
 Join1 (fun k_27 h_47 => guardP t107 true (Hp Try.prog true (Instr.loadAt 24 t112) k_27 h_47 ⟨⟩) (k_27 undef h_47) ⟨⟩ ⟨⟩) (fun t113 _ => 
 Join1 (fun k_28 h_48 => guardP t107 true (k_28 data0 h_48) (k_28 undef h_48) ⟨⟩ ⟨⟩) (fun t114 _ => 
 Join1 (fun k_29 h_49 => guardP t107 true (k_29 a1 h_49) (k_29 undef h_49) ⟨⟩ ⟨⟩) (fun t115 _ => 
 Join1 (fun k_30 h_50 => guardP t107 true (Hp Try.prog true (Instr.indexAt 22 t114 t115) k_30 h_50 ⟨⟩) (k_30 undef h_50) ⟨⟩ ⟨⟩) (fun t116 _ => 
 Join1 (fun k_31 h_51 => guardP t107 true (Hp Try.prog true (Instr.loadAt 24 t116) k_31 h_51 ⟨⟩) (k_31 undef h_51) ⟨⟩ ⟨⟩) (fun t117 _ => 
 Join1 (fun k_32 h_52 => guardP t107 true (InvokeH Try.prog t109 #[t113, t117] h_52 k_32 ⟨⟩) (k_32 undef h_52) ⟨⟩ ⟨⟩) (fun t118 h_53 => 
 Join1 (fun k_33 h_54 => guardP t107 true (Hp Try.prog true (binS .lss 3 (.tmp 118) (.const (.int .i64 0)) t118 (.int .i64 0)) k_33 h_54 ⟨⟩) (k_33 undef h_54) ⟨⟩ ⟨⟩) (fun t119 _ => 
 Hp Try.prog true (pickS t107 t119 (.bool false)) (fun t120 _ => 
 CondP t120 (
 Hp Try.prog false (binS .add 3 (.tmp 121) (.const (.int .i64 1)) i12_2 (.int .i64 1)) (fun t122 h_55 => 
 X_3 t122 h_55) h_53 ⟨⟩) (
 LoopC 1 (fun (X_4 : Value → Heap → Prop) => fun j13_2 h_56 =>
 Hp Try.prog true (binS .leq 3 (.tmp 123) (.tmp 124) i12_2 j13_2) (fun t125 _ => 
 Join1 (fun k_34 h_57 => guardP t125 true (k_34 cmp4 h_57) (k_34 undef h_57) ⟨⟩ ⟨⟩) (fun t127 _ => 
 Join1 (fun k_35 h_58 => guardP t125 true (k_35 data0 h_58) (k_35 undef h_58) ⟨⟩ ⟨⟩) (fun t128 _ => 
 Join1 (fun k_36 h_59 => guardP t125 true (k_36 j13_2 h_59) (k_36 undef h_59) ⟨⟩ ⟨⟩) (fun t129 _ => 
 Join1 (fun k_37 h_60 => guardP t125 true (Hp Try.prog true (Instr.indexAt 22 t128 t129) k_37 h_60 ⟨⟩) (k_37 undef h_60) ⟨⟩ ⟨⟩) (fun t130 _ => 
 Join1 (fun k_38 h_61 => guardP t125 true (Hp Try.prog true (Instr.loadAt 24 t130) k_38 h_61 ⟨⟩) (k_38 undef h_61) ⟨⟩ ⟨⟩) (fun t131 _ => 
 Join1 (fun k_39 h_62 => guardP t125 true (k_39 data0 h_62) (k_39 undef h_62) ⟨⟩ ⟨⟩) (fun t132 _ => 
 Join1 (fun k_40 h_63 => guardP t125 true (k_40 a1 h_63) (k_40 undef h_63) ⟨⟩ ⟨⟩) (fun t133 _ => 
 Join1 (fun k_41 h_64 => guardP t125 true (Hp Try.prog true (Instr.indexAt 22 t132 t133) k_41 h_64 ⟨⟩) (k_41 undef h_64) ⟨⟩ ⟨⟩) (fun t134 _ => 
 Join1 (fun k_42 h_65 => guardP t125 true (Hp Try.prog true (Instr.loadAt 24 t134) k_42 h_65 ⟨⟩) (k_42 undef h_65) ⟨⟩ ⟨⟩) (fun t135 _ => 
 Join1 (fun k_43 h_66 => guardP t125 true (InvokeH Try.prog t127 #[t131, t135] h_66 k_43 ⟨⟩) (k_43 undef h_66) ⟨⟩ ⟨⟩) (fun t136 h_67 => 
 Join1 (fun k_44 h_68 => guardP t125 true (Hp Try.prog true (binS .lss 3 (.tmp 136) (.const (.int .i64 0)) t136 (.int .i64 0)) k_44 h_68 ⟨⟩) (k_44 undef h_68) ⟨⟩ ⟨⟩) (fun t137 _ => 
 Join1 (fun k_45 h_69 => guardP t125 true (Hp Try.prog true (Op.unary .not t137) k_45 h_69 ⟨⟩) (k_45 undef h_69) ⟨⟩ ⟨⟩) (fun t138 _ => 
 Hp Try.prog true (pickS t125 t138 (.bool false)) (fun t139 _ => 
 CondP t139 (
 Hp Try.prog false (binS .sub 3 (.tmp 140) (.const (.int .i64 1)) j13_2 (.int .i64 1)) (fun t141 h_70 => 
 X_4 t141 h_70) h_67 ⟨⟩) (
 Hp Try.prog false (binS .gtr 3 (.tmp 142) (.tmp 143) i12_2 j13_2) (fun t144 h_71 => 
 CondP t144 (
 Hp Try.prog true (Instr.indexAt 22 data0 a1) (fun t169 _ => 
 Hp Try.prog true (Instr.loadAt 24 t169) (fun t170 _ => 
 Hp Try.prog true (Instr.indexAt 22 data0 j13_2) (fun t173 _ => 
 Hp Try.prog true (Instr.loadAt 24 t173) (fun t174 _ => 
 Hp Try.prog true (Instr.indexAt 22 data0 j13_2) (fun t175 _ => 
 Hp Try.prog false (storeS 24 t175 t170) (fun _ h_72 => 
 Hp Try.prog true (Instr.indexAt 22 data0 a1) (fun t176 _ => 
 Hp Try.prog false (storeS 24 t176 t174) (fun _ h_73 => 
 R (.tuple #[j13_2, (.bool false)]) h_73) h_72 ⟨⟩) #[] ⟨⟩) h_71 ⟨⟩) #[] ⟨⟩) h_71 ⟨⟩) #[] ⟨⟩) h_71 ⟨⟩) #[] ⟨⟩) (
 Hp Try.prog true (Instr.indexAt 22 data0 j13_2) (fun t151 _ => 
 Hp Try.prog true (Instr.loadAt 24 t151) (fun t152 _ => 
 Hp Try.prog true (Instr.indexAt 22 data0 i12_2) (fun t155 _ => 
 Hp Try.prog true (Instr.loadAt 24 t155) (fun t156 _ => 
 Hp Try.prog true (Instr.indexAt 22 data0 i12_2) (fun t157 _ => 
 Hp Try.prog false (storeS 24 t157 t152) (fun _ h_74 => 
 Hp Try.prog true (Instr.indexAt 22 data0 j13_2) (fun t158 _ => 
 Hp Try.prog false (storeS 24 t158 t156) (fun _ h_75 => 
 Hp Try.prog false (binS .add 3 (.tmp 159) (.const (.int .i64 1)) i12_2 (.int .i64 1)) (fun t160 h_76 => 
 Hp Try.prog false (binS .sub 3 (.tmp 161) (.const (.int .i64 1)) j13_2 (.int .i64 1)) (fun t162 h_77 => 
 X_2 t160 t162 h_77) h_76 ⟨⟩) h_75 ⟨⟩) h_74 ⟨⟩) #[] ⟨⟩) h_71 ⟨⟩) #[] ⟨⟩) h_71 ⟨⟩) #[] ⟨⟩) h_71 ⟨⟩) #[] ⟨⟩) ⟨⟩ ⟨⟩) h_67 ⟨⟩) ⟨⟩ ⟨⟩) #[] ⟨⟩) #[] ⟨⟩ ⟨⟩) #[] ⟨⟩ ⟨⟩) h_56 ⟨⟩ ⟨⟩) h_56 ⟨⟩ ⟨⟩) #[] ⟨⟩ ⟨⟩) #[] ⟨⟩ ⟨⟩) #[] ⟨⟩ ⟨⟩) h_56 ⟨⟩ ⟨⟩) #[] ⟨⟩ ⟨⟩) #[] ⟨⟩ ⟨⟩) #[] ⟨⟩ ⟨⟩) #[] ⟨⟩ ⟨⟩) #[] ⟨⟩) [j13_1] h_53 ⟨⟩) ⟨⟩ ⟨⟩) #[] ⟨⟩) #[] ⟨⟩ ⟨⟩) h_42 ⟨⟩ ⟨⟩) h_42 ⟨⟩ ⟨⟩) #[] ⟨⟩ ⟨⟩) #[] ⟨⟩ ⟨⟩) #[] ⟨⟩ ⟨⟩) h_42 ⟨⟩ ⟨⟩) #[] ⟨⟩ ⟨⟩) #[] ⟨⟩ ⟨⟩) #[] ⟨⟩ ⟨⟩) #[] ⟨⟩ ⟨⟩) #[] ⟨⟩) [i12_1] h_41 ⟨⟩) [t102, t104] h_40 ⟨⟩) h_39 ⟨⟩) h_38 ⟨⟩) h_37 ⟨⟩) #[] ⟨⟩) h_34 ⟨⟩) #[] ⟨⟩) h_34 ⟨⟩) #[] ⟨⟩) h_34 ⟨⟩) #[] ⟨⟩) ⟨⟩ ⟨⟩) h_30 ⟨⟩) ⟨⟩ ⟨⟩) #[] ⟨⟩) #[] ⟨⟩ ⟨⟩) #[] ⟨⟩ ⟨⟩) h_19 ⟨⟩ ⟨⟩) h_19 ⟨⟩ ⟨⟩) #[] ⟨⟩ ⟨⟩) #[] ⟨⟩ ⟨⟩) #[] ⟨⟩ ⟨⟩) h_19 ⟨⟩ ⟨⟩) #[] ⟨⟩ ⟨⟩) #[] ⟨⟩ ⟨⟩) #[] ⟨⟩ ⟨⟩) #[] ⟨⟩ ⟨⟩) #[] ⟨⟩) [t31] h_16 ⟨⟩) ⟨⟩ ⟨⟩) #[] ⟨⟩) #[] ⟨⟩ ⟨⟩) h_5 ⟨⟩ ⟨⟩) h_5 ⟨⟩ ⟨⟩) #[] ⟨⟩ ⟨⟩) #[] ⟨⟩ ⟨⟩) #[] ⟨⟩ ⟨⟩) h_5 ⟨⟩ ⟨⟩) #[] ⟨⟩ ⟨⟩) #[] ⟨⟩ ⟨⟩) #[] ⟨⟩ ⟨⟩) #[] ⟨⟩ ⟨⟩) #[] ⟨⟩) [t29] h_4 ⟨⟩) h_3 ⟨⟩) h_2 ⟨⟩) h_1 ⟨⟩) #[] ⟨⟩) h ⟨⟩) #[] ⟨⟩) h ⟨⟩) #[] ⟨⟩) h ⟨⟩) #[] ⟨⟩

theorem n76_calls {data0 a1 b2 pivot3 cmp4 : Value} {R : Value → Heap → Prop} {h : Heap} (H : n76 data0 a1 b2 pivot3 cmp4 R h) : CallsH Try.prog 76 #[data0, a1, b2, pivot3, cmp4] h R ⟨⟩ :=
 callsH_of_eq Try.follow (.n none .l (.n none .l (.n none .l (.n none (.n none (.n (some [13]) .l .l) .l) (.n none (.n none (.n (some [14]) .l .l) .l) (.n none .l (.n none .l (.n none .l (.n none .l (.n none (.n none (.n (some [13, 14]) (.n none (.n none (.n none (.n (some [13]) .l .l) .l) (.n none (.n none (.n (some [14]) .l .l) .l) .l)) .l) .l) .l) .l)))))))))) Try.func76 (by kernel_rfl) (by kernel_rfl) (by kernel_rfl) H

/-- math/bits.Len32 -/
def n77 (x0 : Value) (R : Value → Heap → Prop) (h : Heap) : Prop :=
 JoinN 2 (fun (k : Value → Value → Heap → Prop) h_1 =>
 Hp Try.prog false (binS .geq 115 (.tmp 3) (.const (.int .u32 65536)) x0 (.int .u32 65536)) (fun t4 h_2 => 
 CondP t4 (
 Hp Try.prog false (binS .shr 115 (.tmp 5) (.const (.int .u64 16)) x0 (.int .u64 16)) (fun t6 h_3 => 
 k t6 (.int .i64 16) h_3) h_2 ⟨⟩) (
 k x0 (.int .i64 0) h_2) ⟨⟩ ⟨⟩) h_1 ⟨⟩)
 (fun x0_1 n2 h_4 =>
 JoinN 2 (fun (k_1 : Value → Value → Heap → Prop) h_5 =>
 Hp Try.prog false (binS .geq 115 (.tmp 7) (.const (.int .u32 256)) x0_1 (.int .u32 256)) (fun t8 h_6 => 
 CondP t8 (
 Hp Try.prog false (binS .shr 115 (.tmp 9) (.const (.int .u64 8)) x0_1 (.int .u64 8)) (fun t10 h_7 => 
 Hp Try.prog false (binS .add 3 (.tmp 11) (.const (.int .i64 8)) n2 (.int .i64 8)) (fun t12 h_8 => 
 k_1 t10 t12 h_8) h_7 ⟨⟩) h_6 ⟨⟩) (
 k_1 x0_1 n2 h_6) ⟨⟩ ⟨⟩) h_5 ⟨⟩)
 (fun x0_2 n2_1 h_9 =>
 Hp Try.prog false (convert 115 5 x0_2) (fun t15 h_10 => 
 Hp Try.prog false (Instr.index 9 (str [0, 1, 2, 2, 3, 3, 3, 3, 4, 4, 4, 4, 4, 4, 4, 4, 5, 5, 5, 5, 5, 5, 5, 5, 5, 5, 5, 5, 5, 5, 5, 5, 6, 6, 6, 6, 6, 6, 6, 6, 6, 6, 6, 6, 6, 6, 6, 6, 6, 6, 6, 6, 6, 6, 6, 6, 6, 6, 6, 6, 6, 6, 6, 6, 7, 7, 7, 7, 7, 7, 7, 7, 7, 7, 7, 7, 7, 7, 7, 7, 7, 7, 7, 7, 7, 7, 7, 7, 7, 7, 7, 7, 7, 7, 7, 7, 7, 7, 7, 7, 7, 7, 7, 7, 7, 7, 7, 7, 7, 7, 7, 7, 7, 7, 7, 7, 7, 7, 7, 7, 7, 7, 7, 7, 7, 7, 7, 7, 8, 8, 8, 8, 8, 8, 8, 8, 8, 8, 8, 8, 8, 8, 8, 8, 8, 8, 8, 8, 8, 8, 8, 8, 8, 8, 8, 8, 8, 8, 8, 8, 8, 8, 8, 8, 8, 8, 8, 8, 8, 8, 8, 8, 8, 8, 8, 8, 8, 8, 8, 8, 8, 8, 8, 8, 8, 8, 8, 8, 8, 8, 8, 8, 8, 8, 8, 8, 8, 8, 8, 8, 8, 8, 8, 8, 8, 8, 8, 8, 8, 8, 8, 8, 8, 8, 8, 8, 8, 8, 8, 8, 8, 8, 8, 8, 8, 8, 8, 8, 8, 8, 8, 8, 8, 8, 8, 8, 8, 8, 8, 8, 8, 8, 8, 8, 8, 8, 8, 8, 8, 8, 8, 8, 8, 8, 8, 8]) t15) (fun t16 h_11 => 
 Hp Try.prog false (convert 5 3 t16) (fun t17 h_12 => 
 Hp Try.prog false (binS .add 3 (.tmp 13) (.tmp 17) n2_1 t17) (fun t18 h_13 => 
 R t18 h_13) h_12 ⟨⟩) h_11 ⟨⟩) h_10 ⟨⟩) h_9 ⟨⟩) h_4 ⟨⟩ ⟨⟩) h ⟨⟩ ⟨⟩

theorem n77_calls {x0 : Value} {R : Value → Heap → Prop} {h : Heap} (H : n77 x0 R h) : CallsH Try.prog 77 #[x0] h R ⟨⟩ :=
 callsH_of_eq Try.follow (.n none .l (.n (some [1, 3]) .l (.n (some [1, 3]) .l .l))) Try.func77 (by kernel_rfl) (by kernel_rfl) (by kernel_rfl) H

/-- math/bits.Len64 -/
def n78 (x0 : Value) (R : Value → Heap → Prop) (h : Heap) : Prop :=
 JoinN 2 (fun (k : Value → Value → Heap → Prop) h_1 =>
 Hp Try.prog false (binS .geq 117 (.tmp 3) (.const (.int .u64 4294967296)) x0 (.int .u64 4294967296)) (fun t4 h_2 => 
 CondP t4 (
 Hp Try.prog false (binS .shr 117 (.tmp 5) (.const (.int .u64 32)) x0 (.int .u64 32)) (fun t6 h_3 => 
 k t6 (.int .i64 32) h_3) h_2 ⟨⟩) (
 k x0 (.int .i64 0) h_2) ⟨⟩ ⟨⟩) h_1 ⟨⟩)
 (fun x0_1 n2 h_4 =>
 JoinN 2 (fun (k_1 : Value → Value → Heap → Prop) h_5 =>
 Hp Try.prog false (binS .geq 117 (.tmp 7) (.const (.int .u64 65536)) x0_1 (.int .u64 65536)) (fun t8 h_6 => 
 CondP t8 (
 Hp Try.prog false (binS .shr 117 (.tmp 9) (.const (.int .u64 16)) x0_1 (.int .u64 16)) (fun t10 h_7 => 
 Hp Try.prog false (binS .add 3 (.tmp 11) (.const (.int .i64 16)) n2 (.int .i64 16)) (fun t12 h_8 => 
 k_1 t10 t12 h_8) h_7 ⟨⟩) h_6 ⟨⟩) (
 k_1 x0_1 n2 h_6) ⟨⟩ ⟨⟩) h_5 ⟨⟩)
 (fun x0_2 n2_1 h_9 =>
 JoinN 2 (fun (k_2 : Value → Value → Heap → Prop) h_10 =>
 Hp Try.prog false (binS .geq 117 (.tmp 13) (.const (.int .u64 256)) x0_2 (.int .u64 256)) (fun t14 h_11 => 
 CondP t14 (
 Hp Try.prog false (binS .shr 117 (.tmp 15) (.const (.int .u64 8)) x0_2 (.int .u64 8)) (fun t16 h_12 => 
 Hp Try.prog false (binS .add 3 (.tmp 17) (.const (.int .i64 8)) n2_1 (.int .i64 8)) (fun t18 h_13 => 
 k_2 t16 t18 h_13) h_12 ⟨⟩) h_11 ⟨⟩) (
 k_2 x0_2 n2_1 h_11) ⟨⟩ ⟨⟩) h_10 ⟨⟩)
 (fun x0_3 n2_2 h_14 =>
 Hp Try.prog false (convert 117 5 x0_3) (fun t21 h_15 => 
 Hp Try.prog false (Instr.index 9 (str [0, 1, 2, 2, 3, 3, 3, 3, 4, 4, 4, 4, 4, 4, 4, 4, 5, 5, 5, 5, 5, 5, 5, 5, 5, 5, 5, 5, 5, 5, 5, 5, 6, 6, 6, 6, 6, 6, 6, 6, 6, 6, 6, 6, 6, 6, 6, 6, 6, 6, 6, 6, 6, 6, 6, 6, 6, 6, 6, 6, 6, 6, 6, 6, 7, 7, 7, 7, 7, 7, 7, 7, 7, 7, 7, 7, 7, 7, 7, 7, 7, 7, 7, 7, 7, 7, 7, 7, 7, 7, 7, 7, 7, 7, 7, 7, 7, 7, 7, 7, 7, 7, 7, 7, 7, 7, 7, 7, 7, 7, 7, 7, 7, 7, 7, 7, 7, 7, 7, 7, 7, 7, 7, 7, 7, 7, 7, 7, 8, 8, 8, 8, 8, 8, 8, 8, 8, 8, 8, 8, 8, 8, 8, 8, 8, 8, 8, 8, 8, 8, 8, 8, 8, 8, 8, 8, 8, 8, 8, 8, 8, 8, 8, 8, 8, 8, 8, 8, 8, 8, 8, 8, 8, 8, 8, 8, 8, 8, 8, 8, 8, 8, 8, 8, 8, 8, 8, 8, 8, 8, 8, 8, 8, 8, 8, 8, 8, 8, 8, 8, 8, 8, 8, 8, 8, 8, 8, 8, 8, 8, 8, 8, 8, 8, 8, 8, 8, 8, 8, 8, 8, 8, 8, 8, 8, 8, 8, 8, 8, 8, 8, 8, 8, 8, 8, 8, 8, 8, 8, 8, 8, 8, 8, 8, 8, 8, 8, 8, 8, 8, 8, 8, 8, 8, 8, 8]) t21) (fun t22 h_16 => 
 Hp Try.prog false (convert 5 3 t22) (fun t23 h_17 => 
 Hp Try.prog false (binS .add 3 (.tmp 19) (.tmp 23) n2_2 t23) (fun t24 h_18 => 
 R t24 h_18) h_17 ⟨⟩) h_16 ⟨⟩) h_15 ⟨⟩) h_14 ⟨⟩) h_9 ⟨⟩ ⟨⟩) h_4 ⟨⟩ ⟨⟩) h ⟨⟩ ⟨⟩

theorem n78_calls {x0 : Value} {R : Value → Heap → Prop} {h : Heap} (H : n78 x0 R h) : CallsH Try.prog 78 #[x0] h R ⟨⟩ :=
 callsH_of_eq Try.follow (.n none .l (.n (some [1, 3]) .l (.n (some [1, 3]) .l (.n (some [1, 3]) .l .l)))) Try.func78 (by kernel_rfl) (by kernel_rfl) (by kernel_rfl) H

/-- slices.siftDownCmpFunc[palimpsest/api.Run] -/
def n79 (data0 lo1 hi2 first3 cmp4 : Value) (R : Value → Heap → Prop) (h : Heap) : Prop :=
 LoopC 1 (fun (X : Value → Heap → Prop) => fun root10 h_1 =>
 Hp Try.prog false (binS .mul 3 (.const (.int .i64 2)) (.tmp 13) (.int .i64 2) root10) (fun t14 h_2 => 
 Hp Try.prog false (binS .add 3 (.tmp 14) (.const (.int .i64 1)) t14 (.int .i64 1)) (fun t15 h_3 => 
 Hp Try.prog false (binS .geq 3 (.tmp 16) (.tmp 17) t15 hi2) (fun t18 h_4 => 
 CondP t18 (
 R (.tuple #[]) h_4) (
 JoinN 1 (fun (k : Value → Heap → Prop) h_5 =>
 Hp Try.prog true (binS .add 3 (.tmp 19) (.const (.int .i64 1)) t15 (.int .i64 1)) (fun t20 _ => 
 Hp Try.prog true (binS .lss 3 (.tmp 20) (.tmp 21) t20 hi2) (fun t22 _ => 
 Join1 (fun k_1 h_6 => guardP t22 true (k_1 cmp4 h_6) (k_1 undef h_6) ⟨⟩ ⟨⟩) (fun t24 _ => 
 Join1 (fun k_2 h_7 => guardP t22 true (k_2 data0 h_7) (k_2 undef h_7) ⟨⟩ ⟨⟩) (fun t25 _ => 
 Join1 (fun k_3 h_8 => guardP t22 true (k_3 first3 h_8) (k_3 undef h_8) ⟨⟩ ⟨⟩) (fun t26 _ => 
 Join1 (fun k_4 h_9 => guardP t22 true (k_4 t15 h_9) (k_4 undef h_9) ⟨⟩ ⟨⟩) (fun t27 _ => 
 Join1 (fun k_5 h_10 => guardP t22 true (Hp Try.prog true (binS .add 3 (.tmp 26) (.tmp 27) t26 t27) k_5 h_10 ⟨⟩) (k_5 undef h_10) ⟨⟩ ⟨⟩) (fun t28 _ => 
 Join1 (fun k_6 h_11 => guardP t22 true (Hp Try.prog true (Instr.indexAt 22 t25 t28) k_6 h_11 ⟨⟩) (k_6 undef h_11) ⟨⟩ ⟨⟩) (fun t29 _ => 
 Join1 (fun k_7 h_12 => guardP t22 true (Hp Try.prog true (Instr.loadAt 24 t29) k_7 h_12 ⟨⟩) (k_7 undef h_12) ⟨⟩ ⟨⟩) (fun t30 _ => 
 Join1 (fun k_8 h_13 => guardP t22 true (k_8 data0 h_13) (k_8 undef h_13) ⟨⟩ ⟨⟩) (fun t31 _ => 
 Join1 (fun k_9 h_14 => guardP t22 true (k_9 first3 h_14) (k_9 undef h_14) ⟨⟩ ⟨⟩) (fun t32 _ => 
 Join1 (fun k_10 h_15 => guardP t22 true (k_10 t15 h_15) (k_10 undef h_15) ⟨⟩ ⟨⟩) (fun t33 _ => 
 Join1 (fun k_11 h_16 => guardP t22 true (Hp Try.prog true (binS .add 3 (.tmp 32) (.tmp 33) t32 t33) k_11 h_16 ⟨⟩) (k_11 undef h_16) ⟨⟩ ⟨⟩) (fun t34 _ => 
 Join1 (fun k_12 h_17 => guardP t22 true (Hp Try.prog true (binS .add 3 (.tmp 34) (.const (.int .i64 1)) t34 (.int .i64 1)) k_12 h_17 ⟨⟩) (k_12 undef h_17) ⟨⟩ ⟨⟩) (fun t35 _ => 
 Join1 (fun k_13 h_18 => guardP t22 true (Hp Try.prog true (Instr.indexAt 22 t31 t35) k_13 h_18 ⟨⟩) (k_13 undef h_18) ⟨⟩ ⟨⟩) (fun t36 _ => 
 Join1 (fun k_14 h_19 => guardP t22 true (Hp Try.prog true (Instr.loadAt 24 t36) k_14 h_19 ⟨⟩) (k_14 undef h_19) ⟨⟩ ⟨⟩) (fun t37 _ => 
 Join1 (fun k_15 h_20 => guardP t22 true (InvokeH Try.prog t24 #[t30, t37] h_20 k_15 ⟨⟩) (k_15 undef h_20) ⟨⟩ ⟨⟩) (fun t38 h_21 => 
 Join1 (fun k_16 h_22 => guardP t22 true (Hp Try.prog true (binS .lss 3 (.tmp 38) (.const (.int .i64 0)) t38 (.int .i64 0)) k_16 h_22 ⟨⟩) (k_16 undef h_22) ⟨⟩ ⟨⟩) (fun t39 _ => 
 Hp Try.prog true (pickS t22 t39 (.bool false)) (fun t40 _ => 
 CondP t40 (
 Hp Try.prog false (binS .add 3 (.tmp 41) (.const (.int .i64 1)) t15 (.int .i64 1)) (fun t42 h_23 => 
 k t42 h_23) h_21 ⟨⟩) (
 k t15 h_21) ⟨⟩ ⟨⟩) #[] ⟨⟩) #[] ⟨⟩ ⟨⟩) h_5 ⟨⟩ ⟨⟩) h_5 ⟨⟩ ⟨⟩) #[] ⟨⟩ ⟨⟩) #[] ⟨⟩ ⟨⟩) #[] ⟨⟩ ⟨⟩) #[] ⟨⟩ ⟨⟩) #[] ⟨⟩ ⟨⟩) #[] ⟨⟩ ⟨⟩) h_5 ⟨⟩ ⟨⟩) #[] ⟨⟩ ⟨⟩) #[] ⟨⟩ ⟨⟩) #[] ⟨⟩ ⟨⟩) #[] ⟨⟩ ⟨⟩) #[] ⟨⟩ ⟨⟩) #[] ⟨⟩ ⟨⟩) #[] ⟨⟩) #[] ⟨⟩)
 (fun child11 h_24 =>
 Hp Try.prog true (binS .add 3 (.tmp 45) (.tmp 46) first3 root10) (fun t47 _ => 
 Hp Try.prog true (Instr.indexAt 22 data0 t47) (fun t48 _ => 
 Hp Try.prog true (Instr.loadAt 24 t48) (fun t49 _ => 
 Hp Try.prog true (binS .add 3 (.tmp 51) (.tmp 52) first3 child11) (fun t53 _ => 
 Hp Try.prog true (Instr.indexAt 22 data0 t53) (fun t54 _ => 
 Hp Try.prog true (Instr.loadAt 24 t54) (fun t55 _ => 
 InvokeH Try.prog cmp4 #[t49, t55] h_24 (fun t56 h_25 => 
 Hp Try.prog true (binS .lss 3 (.tmp 56) (.const (.int .i64 0)) t56 (.int .i64 0)) (fun t57 _ => 
 Hp Try.prog true (Op.unary .not t57) (fun t58 _ => 
 CondP t58 (
 R (.tuple #[]) h_25) (
 Hp Try.prog true (binS .add 3 (.tmp 60) (.tmp 61) first3 root10) (fun t62 _ => 
 Hp Try.prog true (binS .add 3 (.tmp 64) (.tmp 65) first3 child11) (fun t66 _ => 
 Hp Try.prog true (binS .add 3 (.tmp 68) (.tmp 69) first3 child11) (fun t70 _ => 
 Hp Try.prog true (Instr.indexAt 22 data0 t70) (fun t71 _ => 
 Hp Try.prog true (Instr.loadAt 24 t71) (fun t72 _ => 
 Hp Try.prog true (binS .add 3 (.tmp 74) (.tmp 75) first3 root10) (fun t76 _ => 
 Hp Try.prog true (Instr.indexAt 22 data0 t76) (fun t77 _ => 
 Hp Try.prog true (Instr.loadAt 24 t77) (fun t78 _ => 
 Hp Try.prog true (Instr.indexAt 22 data0 t62) (fun t79 _ => 
 Hp Try.prog false (storeS 24 t79 t72) (fun _ h_26 => 
 Hp Try.prog true (Instr.indexAt 22 data0 t66) (fun t80 _ => 
 Hp Try.prog false (storeS 24 t80 t78) (fun _ h_27 => 
 X child11 h_27) h_26 ⟨⟩) #[] ⟨⟩) h_25 ⟨⟩) #[] ⟨⟩) h_25 ⟨⟩) #[] ⟨⟩) #[] ⟨⟩) h_25 ⟨⟩) #[] ⟨⟩) #[] ⟨⟩) #[] ⟨⟩) #[] ⟨⟩) ⟨⟩ ⟨⟩) #[] ⟨⟩) #[] ⟨⟩) ⟨⟩) h_24 ⟨⟩) #[] ⟨⟩) #[] ⟨⟩) h_24 ⟨⟩) #[] ⟨⟩) #[] ⟨⟩) h_4 ⟨⟩ ⟨⟩) ⟨⟩ ⟨⟩) h_3 ⟨⟩) h_2 ⟨⟩) h_1 ⟨⟩) [lo1] h ⟨⟩

theorem n79_calls {data0 lo1 hi2 first3 cmp4 : Value} {R : Value → Heap → Prop} {h : Heap} (H : n79 data0 lo1 hi2 first3 cmp4 R h) : CallsH Try.prog 79 #[data0, lo1, hi2, first3, cmp4] h R ⟨⟩ :=
 callsH_of_eq Try.follow (.n none .l (.n none (.n (some [11]) (.n none (.n none .l (.n none .l (.n (some [12]) .l .l))) .l) .l) .l)) Try.func79 (by kernel_rfl) (by kernel_rfl) (by kernel_rfl) H

/-- slices.nextPowerOfTwo -/
def n80 (length0 : Value) (R : Value → Heap → Prop) (h : Heap) : Prop :=
 Hp Try.prog false (convert 3 99 length0) (fun t4 h_1 => 
 CallsH Try.prog 65 #[t4] h_1 (fun t5 h_2 => 
 Hp Try.prog false (binS .shl 99 (.const (.int .u64 1)) (.tmp 5) (.int .u64 1) t5) (fun t6 h_3 => 
 R t6 h_3) h_2 ⟨⟩) ⟨⟩) h ⟨⟩

theorem n80_calls {length0 : Value} {R : Value → Heap → Prop} {h : Heap} (H : n80 length0 R h) : CallsH Try.prog 80 #[length0] h R ⟨⟩ :=
 callsH_of_eq Try.follow .l Try.func80 (by kernel_rfl) (by kernel_rfl) (by kernel_rfl) H

/-- (*slices.xorshift).Next -/
def n81 (r0 : Value) (R : Value → Heap → Prop) (h : Heap) : Prop :=
 Hp Try.prog true (nilS r0) (fun t4 _ => 
 Hp Try.prog true (Instr.loadAt 120 t4) (fun t5 _ => 
 Hp Try.prog true (nilS r0) (fun t7 _ => 
 Hp Try.prog true (Instr.loadAt 120 t7) (fun t8 _ => 
 Hp Try.prog true (binS .shl 120 (.tmp 8) (.const (.int .u64 13)) t8 (.int .u64 13)) (fun t9 _ => 
 Hp Try.prog true (binS .xor 120 (.tmp 5) (.tmp 9) t5 t9) (fun t10 _ => 
 Hp Try.prog true (nilS r0) (fun t11 _ => 
 Hp Try.prog false (storeS 120 t11 t10) (fun _ h_1 => 
 Hp Try.prog true (nilS r0) (fun t13 _ => 
 Hp Try.prog true (Instr.loadAt 120 t13) (fun t14 _ => 
 Hp Try.prog true (nilS r0) (fun t16 _ => 
 Hp Try.prog true (Instr.loadAt 120 t16) (fun t17 _ => 
 Hp Try.prog true (binS .shr 120 (.tmp 17) (.const (.int .u64 7)) t17 (.int .u64 7)) (fun t18 _ => 
 Hp Try.prog true (binS .xor 120 (.tmp 14) (.tmp 18) t14 t18) (fun t19 _ => 
 Hp Try.prog true (nilS r0) (fun t20 _ => 
 Hp Try.prog false (storeS 120 t20 t19) (fun _ h_2 => 
 Hp Try.prog true (nilS r0) (fun t22 _ => 
 Hp Try.prog true (Instr.loadAt 120 t22) (fun t23 _ => 
 Hp Try.prog true (nilS r0) (fun t25 _ => 
 Hp Try.prog true (Instr.loadAt 120 t25) (fun t26 _ => 
 Hp Try.prog true (binS .shl 120 (.tmp 26) (.const (.int .u64 17)) t26 (.int .u64 17)) (fun t27 _ => 
 Hp Try.prog true (binS .xor 120 (.tmp 23) (.tmp 27) t23 t27) (fun t28 _ => 
 Hp Try.prog true (nilS r0) (fun t29 _ => 
 Hp Try.prog false (storeS 120 t29 t28) (fun _ h_3 => 
 Hp Try.prog false (nilS r0) (fun t31 h_4 => 
 Hp Try.prog false (Instr.loadAt 120 t31) (fun t32 h_5 => 
 R t32 h_5) h_4 ⟨⟩) h_3 ⟨⟩) h_2 ⟨⟩) #[] ⟨⟩) #[] ⟨⟩) #[] ⟨⟩) h_2 ⟨⟩) #[] ⟨⟩) h_2 ⟨⟩) #[] ⟨⟩) h_1 ⟨⟩) #[] ⟨⟩) #[] ⟨⟩) #[] ⟨⟩) h_1 ⟨⟩) #[] ⟨⟩) h_1 ⟨⟩) #[] ⟨⟩) h ⟨⟩) #[] ⟨⟩) #[] ⟨⟩) #[] ⟨⟩) h ⟨⟩) #[] ⟨⟩) h ⟨⟩) #[] ⟨⟩

theorem n81_calls {r0 : Value} {R : Value → Heap → Prop} {h : Heap} (H : n81 r0 R h) : CallsH Try.prog 81 #[r0] h R ⟨⟩ :=
 callsH_of_eq Try.follow .l Try.func81 (by kernel_rfl) (by kernel_rfl) (by kernel_rfl) H

/-- slices.medianAdjacentCmpFunc[palimpsest/api.Run] -/
def n82 (data0 a1 swaps2 cmp3 : Value) (R : Value → Heap → Prop) (h : Heap) : Prop :=
 Hp Try.prog false (binS .sub 3 (.tmp 10) (.const (.int .i64 1)) a1 (.int .i64 1)) (fun t11 h_1 => 
 Hp Try.prog false (binS .add 3 (.tmp 13) (.const (.int .i64 1)) a1 (.int .i64 1)) (fun t14 h_2 => 
 CallsH Try.prog 83 #[data0, t11, a1, t14, swaps2, cmp3] h_2 (fun t17 h_3 => 
 R t17 h_3) ⟨⟩) h_1 ⟨⟩) h ⟨⟩

theorem n82_calls {data0 a1 swaps2 cmp3 : Value} {R : Value → Heap → Prop} {h : Heap} (H : n82 data0 a1 swaps2 cmp3 R h) : CallsH Try.prog 82 #[data0, a1, swaps2, cmp3] h R ⟨⟩ :=
 callsH_of_eq Try.follow .l Try.func82 (by kernel_rfl) (by kernel_rfl) (by kernel_rfl) H

/-- slices.medianCmpFunc[palimpsest/api.Run] -/
def n83 (data0 a1 b2 c3 swaps4 cmp5 : Value) (R : Value → Heap → Prop) (h : Heap) : Prop :=
 CallsH Try.prog 84 #[data0, a1, b2, swaps4, cmp5] h (fun t19 h_1 => 
 Hp Try.prog false (Instr.extract t19 0) (fun t20 h_2 => 
 Hp Try.prog false (Instr.extract t19 1) (fun t21 h_3 => 
 CallsH Try.prog 84 #[data0, t21, c3, swaps4, cmp5] h_3 (fun t28 h_4 => 
 Hp Try.prog false (Instr.extract t28 0) (fun t29 h_5 => 
 Hp Try.prog false (Instr.extract t28 1) (fun t30 h_6 => 
 CallsH Try.prog 84 #[data0, t20, t29, swaps4, cmp5] h_6 (fun t37 h_7 => 
 Hp Try.prog false (Instr.extract t37 0) (fun t38 h_8 => 
 Hp Try.prog false (Instr.extract t37 1) (fun t39 h_9 => 
 R t39 h_9) h_8 ⟨⟩) h_7 ⟨⟩) ⟨⟩) h_5 ⟨⟩) h_4 ⟨⟩) ⟨⟩) h_2 ⟨⟩) h_1 ⟨⟩) ⟨⟩

theorem n83_calls {data0 a1 b2 c3 swaps4 cmp5 : Value} {R : Value → Heap → Prop} {h : Heap} (H : n83 data0 a1 b2 c3 swaps4 cmp5 R h) : CallsH Try.prog 83 #[data0, a1, b2, c3, swaps4, cmp5] h R ⟨⟩ :=
 callsH_of_eq Try.follow .l Try.func83 (by kernel_rfl) (by kernel_rfl) (by kernel_rfl) H

/-- slices.order2CmpFunc[palimpsest/api.Run] -/
def n84 (data0 a1 b2 swaps3 cmp4 : Value) (R : Value → Heap → Prop) (h : Heap) : Prop :=
 Hp Try.prog true (Instr.indexAt 22 data0 b2) (fun t15 _ => 
 Hp Try.prog true (Instr.loadAt 24 t15) (fun t16 _ => 
 Hp Try.prog true (Instr.indexAt 22 data0 a1) (fun t19 _ => 
 Hp Try.prog true (Instr.loadAt 24 t19) (fun t20 _ => 
 InvokeH Try.prog cmp4 #[t16, t20] h (fun t21 h_1 => 
 Hp Try.prog true (binS .lss 3 (.tmp 21) (.const (.int .i64 0)) t21 (.int .i64 0)) (fun t22 _ => 
 CondP t22 (
 Hp Try.prog false (nilS swaps3) (fun t24 h_2 => 
 Hp Try.prog false (Instr.loadAt 3 t24) (fun t25 h_3 => 
 Hp Try.prog false (binS .add 3 (.tmp 25) (.const (.int .i64 1)) t25 (.int .i64 1)) (fun t26 h_4 => 
 Hp Try.prog false (nilS swaps3) (fun t27 h_5 => 
 Hp Try.prog false (storeS 3 t27 t26) (fun _ h_6 => 
 R (.tuple #[b2, a1]) h_6) h_5 ⟨⟩) h_4 ⟨⟩) h_3 ⟨⟩) h_2 ⟨⟩) h_1 ⟨⟩) (
 R (.tuple #[a1, b2]) h_1) ⟨⟩ ⟨⟩) #[] ⟨⟩) ⟨⟩) h ⟨⟩) #[] ⟨⟩) h ⟨⟩) #[] ⟨⟩

theorem n84_calls {data0 a1 b2 swaps3 cmp4 : Value} {R : Value → Heap → Prop} {h : Heap} (H : n84 data0 a1 b2 swaps3 cmp4 R h) : CallsH Try.prog 84 #[data0, a1, b2, swaps3, cmp4] h R ⟨⟩ :=
 callsH_of_eq Try.follow .l Try.func84 (by kernel_rfl) (by kernel_rfl) (by kernel_rfl) H

/-- (*palimpsest/later.runs).Less -/
def n102 (r0 i1 k2 : Value) (R : Value → Heap → Prop) (h : Heap) : Prop :=
 Hp Try.prog true (nilS r0) (fun t8 _ => 
 Hp Try.prog true (Instr.fieldAt 73 t8 1) (fun t9 _ => 
 Hp Try.prog true (Instr.loadAt 71 t9) (fun t10 _ => 
 Hp Try.prog true (nilS r0) (fun t12 _ => 
 Hp Try.prog true (Instr.fieldAt 73 t12 0) (fun t13 _ => 
 Hp Try.prog true (Instr.loadAt 70 t13) (fun t14 _ => 
 Hp Try.prog true (Instr.indexAt 70 t14 i1) (fun t16 _ => 
 Hp Try.prog true (Instr.loadAt 69 t16) (fun t17 _ => 
 Hp Try.prog true (nilS r0) (fun t19 _ => 
 Hp Try.prog true (Instr.fieldAt 73 t19 0) (fun t20 _ => 
 Hp Try.prog true (Instr.loadAt 70 t20) (fun t21 _ => 
 Hp Try.prog true (Instr.indexAt 70 t21 k2) (fun t23 _ => 
 Hp Try.prog true (Instr.loadAt 69 t23) (fun t24 _ => 
 InvokeH Try.prog t10 #[t17, t24] h (fun t25 h_1 => 
 R t25 h_1) ⟨⟩) h ⟨⟩) #[] ⟨⟩) h ⟨⟩) #[] ⟨⟩) #[] ⟨⟩) h ⟨⟩) #[] ⟨⟩) h ⟨⟩) #[] ⟨⟩) #[] ⟨⟩) h ⟨⟩) #[] ⟨⟩) #[] ⟨⟩

theorem n102_calls {r0 i1 k2 : Value} {R : Value → Heap → Prop} {h : Heap} (H : n102 r0 i1 k2 R h) : CallsH Try.prog 102 #[r0, i1, k2] h R ⟨⟩ :=
 callsH_of_eq Try.follow .l Try.func102 (by kernel_rfl) (by kernel_rfl) (by kernel_rfl) H

/-- (*palimpsest/later.runs).Pop -/
def n103 (r0 : Value) (R : Value → Heap → Prop) (h : Heap) : Prop :=
 Hp Try.prog false (nilS r0) (fun t6 h_1 => 
 Hp Try.prog false (Instr.fieldAt 73 t6 0) (fun t7 h_2 => 
 Hp Try.prog false (Instr.loadAt 70 t7) (fun t8 h_3 => 
 Hp Try.prog false (Builtin.len_ #[70] 3 #[t8]) (fun t9 h_4 => 
 Hp Try.prog false (binS .sub 3 (.tmp 9) (.const (.int .i64 1)) t9 (.int .i64 1)) (fun t10 h_5 => 
 Hp Try.prog false (nilS r0) (fun t12 h_6 => 
 Hp Try.prog false (Instr.fieldAt 73 t12 0) (fun t13 h_7 => 
 Hp Try.prog false (Instr.loadAt 70 t13) (fun t14 h_8 => 
 Hp Try.prog false (Instr.indexAt 70 t14 t10) (fun t16 h_9 => 
 Hp Try.prog false (Instr.loadAt 69 t16) (fun t17 h_10 => 
 Hp Try.prog false (nilS r0) (fun t20 h_11 => 
 Hp Try.prog false (Instr.fieldAt 73 t20 0) (fun t21 h_12 => 
 Hp Try.prog false (Instr.loadAt 70 t21) (fun t22 h_13 => 
 Hp Try.prog false (Instr.sliceAt 70 t22 none (some t10) none) (fun t24 h_14 => 
 Hp Try.prog false (nilS r0) (fun t25 h_15 => 
 Hp Try.prog false (Instr.fieldAt 73 t25 0) (fun t26 h_16 => 
 Hp Try.prog false (storeS 70 t26 t24) (fun _ h_17 => 
 Hp Try.prog false (Instr.makeInterface 69 t17) (fun t28 h_18 => 
 R t28 h_18) h_17 ⟨⟩) h_16 ⟨⟩) h_15 ⟨⟩) h_14 ⟨⟩) h_13 ⟨⟩) h_12 ⟨⟩) h_11 ⟨⟩) h_10 ⟨⟩) h_9 ⟨⟩) h_8 ⟨⟩) h_7 ⟨⟩) h_6 ⟨⟩) h_5 ⟨⟩) h_4 ⟨⟩) h_3 ⟨⟩) h_2 ⟨⟩) h_1 ⟨⟩) h ⟨⟩

theorem n103_calls {r0 : Value} {R : Value → Heap → Prop} {h : Heap} (H : n103 r0 R h) : CallsH Try.prog 103 #[r0] h R ⟨⟩ :=
 callsH_of_eq Try.follow .l Try.func103 (by kernel_rfl) (by kernel_rfl) (by kernel_rfl) H

/-- (*palimpsest/later.runs).Push -/
def n104 (r0 x1 : Value) (R : Value → Heap → Prop) (h : Heap) : Prop :=
 Hp Try.prog true (nilS r0) (fun t6 _ => 
 Hp Try.prog true (Instr.fieldAt 73 t6 0) (fun t7 _ => 
 Hp Try.prog true (Instr.loadAt 70 t7) (fun t8 _ => 
 Hp Try.prog false (Instr.typeAssert x1 20 69 false) (fun t10 h_1 => Hp Try.prog true (Instr.loadAt 70 t7) (fun u _ => u = t8) h_1 ⟨⟩ ∧ 
 Hp Try.prog false (Instr.buildSlice 70 1 #[(0, t10)]) (fun t11 h_2 => Hp Try.prog true (Instr.loadAt 70 t7) (fun u _ => u = t8) h_2 ⟨⟩ ∧ 
 Hp Try.prog false (Builtin.append_ #[70, 70] 70 #[t8, t11]) (fun t12 h_3 => 
 Hp Try.prog true (nilS r0) (fun t13 _ => 
 Hp Try.prog true (Instr.fieldAt 73 t13 0) (fun t14 _ => 
 Hp Try.prog false (storeS 70 t14 t12) (fun _ h_4 => 
 R (.tuple #[]) h_4) h_3 ⟨⟩) #[] ⟨⟩) #[] ⟨⟩) h_2 ⟨⟩) h_1 ⟨⟩) h ⟨⟩) h ⟨⟩) #[] ⟨⟩) #[] ⟨⟩

theorem n104_calls {r0 x1 : Value} {R : Value → Heap → Prop} {h : Heap} (H : n104 r0 x1 R h) : CallsH Try.prog 104 #[r0, x1] h R ⟨⟩ :=
 callsH_of_eq Try.follow .l Try.func104 (by kernel_rfl) (by kernel_rfl) (by kernel_rfl) H

/-- (*palimpsest/later.runs).Swap -/
def n105 (r0 i1 k2 : Value) (R : Value → Heap → Prop) (h : Heap) : Prop :=
 Hp Try.prog true (nilS r0) (fun t7 _ => 
 Hp Try.prog true (Instr.fieldAt 73 t7 0) (fun t8 _ => 
 Hp Try.prog true (Instr.loadAt 70 t8) (fun t9 _ => 
 Hp Try.prog true (nilS r0) (fun t12 _ => 
 Hp Try.prog true (Instr.fieldAt 73 t12 0) (fun t13 _ => 
 Hp Try.prog true (Instr.loadAt 70 t13) (fun t14 _ => 
 Hp Try.prog true (nilS r0) (fun t17 _ => 
 Hp Try.prog true (Instr.fieldAt 73 t17 0) (fun t18 _ => 
 Hp Try.prog true (Instr.loadAt 70 t18) (fun t19 _ => 
 Hp Try.prog true (Instr.indexAt 70 t19 k2) (fun t21 _ => 
 Hp Try.prog true (Instr.loadAt 69 t21) (fun t22 _ => 
 Hp Try.prog true (nilS r0) (fun t24 _ => 
 Hp Try.prog true (Instr.fieldAt 73 t24 0) (fun t25 _ => 
 Hp Try.prog true (Instr.loadAt 70 t25) (fun t26 _ => 
 Hp Try.prog true (Instr.indexAt 70 t26 i1) (fun t28 _ => 
 Hp Try.prog true (Instr.loadAt 69 t28) (fun t29 _ => 
 Hp Try.prog true (Instr.indexAt 70 t9 i1) (fun t30 _ => 
 Hp Try.prog false (storeS 69 t30 t22) (fun _ h_1 => 
 Hp Try.prog true (Instr.indexAt 70 t14 k2) (fun t31 _ => 
 Hp Try.prog false (storeS 69 t31 t29) (fun _ h_2 => 
 R (.tuple #[]) h_2) h_1 ⟨⟩) #[] ⟨⟩) h ⟨⟩) #[] ⟨⟩) h ⟨⟩) #[] ⟨⟩) h ⟨⟩) #[] ⟨⟩) #[] ⟨⟩) h ⟨⟩) #[] ⟨⟩) h ⟨⟩) #[] ⟨⟩) #[] ⟨⟩) h ⟨⟩) #[] ⟨⟩) #[] ⟨⟩) h ⟨⟩) #[] ⟨⟩) #[] ⟨⟩

theorem n105_calls {r0 i1 k2 : Value} {R : Value → Heap → Prop} {h : Heap} (H : n105 r0 i1 k2 R h) : CallsH Try.prog 105 #[r0, i1, k2] h R ⟨⟩ :=
 callsH_of_eq Try.follow .l Try.func105 (by kernel_rfl) (by kernel_rfl) (by kernel_rfl) H

end Go.Proofs.Ytgcllbelgakjgaa

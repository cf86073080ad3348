/- Printed by wip/tools/gen.py: the condition of each function, and that a call meets it. -/
import Derived.Test.YtgnmjcljljfldaaVcFun
import Derived.Test.YtgnmjcljljfldaaProg
set_option maxRecDepth 100000
set_option linter.unusedVariables false
namespace Go.Proofs.Ytgnmjcljljfldaa
open Go.Vc

theorem Try.follow : Try.prog.follows .mixedOrders = true := by kernel_rfl

/-- palimpsest/palimpsestref08.Cluster -/
def n28 (bits0 : Value) (R : Value → Heap → Prop) (h : Heap) : Prop :=
  LoopC 2 (fun (X : Value → Value → Heap → Prop) => fun c3 i4 h_1 =>
    Hp Try.prog false (binS .lss 3 (.tmp 5) (.tmp 6) i4 bits0) (fun t7 h_2 => 
      CondP t7 (
        Hp Try.prog false (binS .mul 2 (.const (.int .i64 2)) (.tmp 10) (.int .i64 2) c3) (fun t11 h_3 => 
          Hp Try.prog false (binS .add 3 (.tmp 8) (.const (.int .i64 1)) i4 (.int .i64 1)) (fun t9 h_4 => 
            X t11 t9 h_4) h_3 ⟨⟩) h_2 ⟨⟩) (
        R c3 h_2) ⟨⟩ ⟨⟩) h_1 ⟨⟩) [(.int .i64 1), (.int .i64 0)] h ⟨⟩

theorem n28_calls {bits0 : Value} {R : Value → Heap → Prop} {h : Heap} (H : n28 bits0 R h) : CallsH Try.prog 28 #[bits0] h R ⟨⟩ :=
  callsH_of_eq Try.follow (.n none .l (.n none .l (.n none (.n none .l (.n none (.n (some [4, 5]) .l .l) .l)) .l))) Try.func28 (by kernel_rfl) (by kernel_rfl) (by kernel_rfl) H

/-- palimpsest/palimpsestref01.Number -/
def n38 (x0 n1 : Value) (R : Value → Heap → Prop) (h : Heap) : Prop :=
  LoopC 3 (fun (X : Value → Value → Value → Heap → Prop) => fun x0_1 out5 i6 h_1 =>
    Hp Try.prog false (binS .lss 3 (.tmp 7) (.tmp 8) i6 n1) (fun t9 h_2 => 
      CondP t9 (
        Hp Try.prog false (binS .rem 45 (.tmp 13) (.const (.int .u64 256)) x0_1 (.int .u64 256)) (fun t14 h_3 => 
          Hp Try.prog false (convert 45 5 t14) (fun t15 h_4 => 
            Hp Try.prog false (Instr.buildSlice 26 1 #[(0, t15)]) (fun t16 h_5 => 
              Hp Try.prog false (Builtin.append_ #[26, 26] 26 #[out5, t16]) (fun t17 h_6 => 
                Hp Try.prog false (binS .quo 45 (.tmp 18) (.const (.int .u64 256)) x0_1 (.int .u64 256)) (fun t19 h_7 => 
                  Hp Try.prog false (binS .add 3 (.tmp 10) (.const (.int .i64 1)) i6 (.int .i64 1)) (fun t11 h_8 => 
                    X t19 t17 t11 h_8) h_7 ⟨⟩) h_6 ⟨⟩) h_5 ⟨⟩) h_4 ⟨⟩) h_3 ⟨⟩) h_2 ⟨⟩) (
        R out5 h_2) ⟨⟩ ⟨⟩) h_1 ⟨⟩) [x0, (.slice none 0 0), (.int .i64 0)] h ⟨⟩

theorem n38_calls {x0 n1 : Value} {R : Value → Heap → Prop} {h : Heap} (H : n38 x0 n1 R h) : CallsH Try.prog 38 #[x0, n1] h R ⟨⟩ :=
  callsH_of_eq Try.follow (.n none .l (.n none .l (.n none (.n none .l (.n none (.n (some [1, 6, 7]) .l .l) .l)) .l))) Try.func38 (by kernel_rfl) (by kernel_rfl) (by kernel_rfl) H

/-- palimpsest/palimpsestref11.take -/
def n45 (b0 n1 : Value) (R : Value → Heap → Prop) (h : Heap) : Prop :=
  Hp Try.prog false (Builtin.len_ #[26] 3 #[b0]) (fun t9 h_1 => 
    Hp Try.prog false (binS .gtr 3 (.tmp 7) (.tmp 9) n1 t9) (fun t10 h_2 => 
      CondP t10 (
        R (.tuple #[(.slice none 0 0), (.slice none 0 0), (.bool false)]) h_2) (
        Hp Try.prog true (Instr.sliceAt 26 b0 none (some n1) none) (fun t13 _ => 
          Hp Try.prog true (Instr.sliceAt 26 b0 (some n1) none none) (fun t16 _ => 
            R (.tuple #[t13, t16, (.bool true)]) h_2) #[] ⟨⟩) #[] ⟨⟩) ⟨⟩ ⟨⟩) h_1 ⟨⟩) h ⟨⟩

theorem n45_calls {b0 n1 : Value} {R : Value → Heap → Prop} {h : Heap} (H : n45 b0 n1 R h) : CallsH Try.prog 45 #[b0, n1] h R ⟨⟩ :=
  callsH_of_eq Try.follow .l Try.func45 (by kernel_rfl) (by kernel_rfl) (by kernel_rfl) H

/-- palimpsest/palimpsestref11.number -/
def n46 (b0 : Value) (R : Value → Heap → Prop) (h : Heap) : Prop :=
  CallsH Try.prog 54 #[b0] h (fun t5 h_1 => 
    Hp Try.prog false (binS .geq 45 (.tmp 6) (.const (.int .u64 4611686018427387904)) t5 (.int .u64 4611686018427387904)) (fun t7 h_2 => 
      CondP t7 (
        R (.int .i64 (-1)) h_2) (
        Hp Try.prog false (convert 45 2 t5) (fun t9 h_3 => 
          R t9 h_3) h_2 ⟨⟩) ⟨⟩ ⟨⟩) h_1 ⟨⟩) ⟨⟩

theorem n46_calls {b0 : Value} {R : Value → Heap → Prop} {h : Heap} (H : n46 b0 R h) : CallsH Try.prog 46 #[b0] h R ⟨⟩ :=
  callsH_of_eq Try.follow .l Try.func46 (by kernel_rfl) (by kernel_rfl) (by kernel_rfl) H

/-- palimpsest/wire.Get -/
def n50 (b0 at1 n2 : Value) (R : Value → Heap → Prop) (h : Heap) : Prop :=
  Hp Try.prog false (binS .lss 3 (.tmp 11) (.const (.int .i64 1)) n2 (.int .i64 1)) (fun t12 h_1 => 
    Join1 (fun k h_2 => guardP t12 false (k n2 h_2) (k undef h_2) ⟨⟩ ⟨⟩) (fun t14 h_3 => 
      Join1 (fun k_1 h_4 => guardP t12 false (Hp Try.prog false (binS .gtr 3 (.tmp 14) (.const (.int .i64 8)) t14 (.int .i64 8)) k_1 h_4 ⟨⟩) (k_1 undef h_4) ⟨⟩ ⟨⟩) (fun t15 h_5 => 
        Hp Try.prog false (pickS t12 (.bool true) t15) (fun t16 h_6 => 
          CondP t16 (
            R (.tuple #[(.int .u64 0), (.int .i64 2)]) h_6) (
            CallsH Try.prog 84 #[b0, at1, n2] h_6 (fun t21 h_7 => 
              Hp Try.prog false (Op.unary .not t21) (fun t22 h_8 => 
                CondP t22 (
                  R (.tuple #[(.int .u64 0), (.int .i64 4)]) h_8) (
                  Hp Try.prog false (binS .sub 3 (.tmp 23) (.const (.int .i64 1)) n2 (.int .i64 1)) (fun t24 h_9 => 
                    LoopC 2 (fun (X : Value → Value → Heap → Prop) => fun x8 i9 h_10 =>
                      Hp Try.prog false (binS .geq 3 (.tmp 25) (.const (.int .i64 0)) i9 (.int .i64 0)) (fun t26 h_11 => 
                        CondP t26 (
                          Hp Try.prog false (binS .shl 45 (.tmp 29) (.const (.int .u64 8)) x8 (.int .u64 8)) (fun t30 h_12 => 
                            Hp Try.prog false (binS .add 3 (.tmp 33) (.tmp 34) at1 i9) (fun t35 h_13 => 
                              Hp Try.prog false (Instr.indexAt 26 b0 t35) (fun t36 h_14 => 
                                Hp Try.prog false (Instr.loadAt 5 t36) (fun t37 h_15 => 
                                  Hp Try.prog false (convert 5 45 t37) (fun t38 h_16 => 
                                    Hp Try.prog false (binS .or 45 (.tmp 31) (.tmp 38) t30 t38) (fun t39 h_17 => 
                                      Hp Try.prog false (binS .sub 3 (.tmp 27) (.const (.int .i64 1)) i9 (.int .i64 1)) (fun t28 h_18 => 
                                        X t39 t28 h_18) h_17 ⟨⟩) h_16 ⟨⟩) h_15 ⟨⟩) h_14 ⟨⟩) h_13 ⟨⟩) h_12 ⟨⟩) h_11 ⟨⟩) (
                          R (.tuple #[x8, (.int .i64 0)]) h_11) ⟨⟩ ⟨⟩) h_10 ⟨⟩) [(.int .u64 0), t24] h_9 ⟨⟩) h_8 ⟨⟩) ⟨⟩ ⟨⟩) h_7 ⟨⟩) ⟨⟩) ⟨⟩ ⟨⟩) h_5 ⟨⟩) h_3 ⟨⟩ ⟨⟩) h_1 ⟨⟩ ⟨⟩) h ⟨⟩

theorem n50_calls {b0 at1 n2 : Value} {R : Value → Heap → Prop} {h : Heap} (H : n50 b0 at1 n2 R h) : CallsH Try.prog 50 #[b0, at1, n2] h R ⟨⟩ :=
  callsH_of_eq Try.follow (.n none .l (.n none .l (.n none .l (.n none (.n none .l (.n none (.n (some [9, 10]) .l .l) .l)) .l)))) Try.func50 (by kernel_rfl) (by kernel_rfl) (by kernel_rfl) H

/-- palimpsest/wire.Text -/
def n51 (b0 at1 most2 : Value) (R : Value → Heap → Prop) (h : Heap) : Prop :=
  CallsH Try.prog 85 #[b0, at1, most2] h (fun t17 h_1 => 
    Hp Try.prog false (binS .neq 27 (.tmp 18) (.const (.int .i64 0)) t17 (.int .i64 0)) (fun t19 h_2 => 
      CondP t19 (
        R (.tuple #[(str []), t17]) h_2) (
        CallsH Try.prog 50 #[b0, at1, (.int .i64 4)] h_2 (fun t24 h_3 => 
          Hp Try.prog false (Instr.extract t24 0) (fun t25 h_4 => 
            Hp Try.prog false (Instr.extract t24 1) (fun t26 h_5 => 
              Hp Try.prog false (convert 3 45 most2) (fun t29 h_6 => 
                Hp Try.prog false (binS .gtr 45 (.tmp 27) (.tmp 29) t25 t29) (fun t30 h_7 => 
                  CondP t30 (
                    R (.tuple #[(str []), (.int .i64 110)]) h_7) (
                    Hp Try.prog false (binS .add 3 (.tmp 31) (.const (.int .i64 4)) at1 (.int .i64 4)) (fun t32 h_8 => 
                      Hp Try.prog false (convert 45 3 t25) (fun t34 h_9 => 
                        Hp Try.prog false (binS .add 3 (.tmp 32) (.tmp 34) t32 t34) (fun t35 h_10 => 
                          Hp Try.prog false (binS .add 3 (.tmp 39) (.const (.int .i64 4)) at1 (.int .i64 4)) (fun t40 h_11 => 
                            Hp Try.prog false (binS .add 3 (.tmp 40) (.tmp 41) t40 most2) (fun t42 h_12 => 
                              CallsH Try.prog 86 #[b0, t35, t42] h_12 (fun t43 h_13 => 
                                Hp Try.prog false (Instr.extract t43 0) (fun t44 h_14 => 
                                  Hp Try.prog false (Instr.extract t43 1) (fun t45 h_15 => 
                                    Hp Try.prog false (Op.unary .not t44) (fun t47 h_16 => 
                                      CondP t47 (
                                        R (.tuple #[(str []), (.int .i64 110)]) h_16) (
                                        Hp Try.prog false (binS .add 3 (.tmp 49) (.const (.int .i64 4)) at1 (.int .i64 4)) (fun t50 h_17 => 
                                          Hp Try.prog false (Instr.sliceAt 26 b0 (some t50) (some t35) none) (fun t52 h_18 => 
                                            Hp Try.prog false (convert 26 9 t52) (fun t53 h_19 => 
                                              R (.tuple #[t53, (.int .i64 0)]) h_19) h_18 ⟨⟩) h_17 ⟨⟩) h_16 ⟨⟩) ⟨⟩ ⟨⟩) h_15 ⟨⟩) h_14 ⟨⟩) h_13 ⟨⟩) ⟨⟩) h_11 ⟨⟩) h_10 ⟨⟩) h_9 ⟨⟩) h_8 ⟨⟩) h_7 ⟨⟩) ⟨⟩ ⟨⟩) h_6 ⟨⟩) h_5 ⟨⟩) h_4 ⟨⟩) h_3 ⟨⟩) ⟨⟩) ⟨⟩ ⟨⟩) h_1 ⟨⟩) ⟨⟩

theorem n51_calls {b0 at1 most2 : Value} {R : Value → Heap → Prop} {h : Heap} (H : n51 b0 at1 most2 R h) : CallsH Try.prog 51 #[b0, at1, most2] h R ⟨⟩ :=
  callsH_of_eq Try.follow .l Try.func51 (by kernel_rfl) (by kernel_rfl) (by kernel_rfl) H

/-- bytes.Equal -/
def n52 (a0 b1 : Value) (R : Value → Heap → Prop) (h : Heap) : Prop :=
  Hp Try.prog false (convert 26 9 a0) (fun t6 h_1 => 
    Hp Try.prog false (convert 26 9 b1) (fun t8 h_2 => 
      Hp Try.prog false (binS .eql 9 (.tmp 6) (.tmp 8) t6 t8) (fun t9 h_3 => 
        R t9 h_3) h_2 ⟨⟩) h_1 ⟨⟩) h ⟨⟩

theorem n52_calls {a0 b1 : Value} {R : Value → Heap → Prop} {h : Heap} (H : n52 a0 b1 R h) : CallsH Try.prog 52 #[a0, b1] h R ⟨⟩ :=
  callsH_of_eq Try.follow .l Try.func52 (by kernel_rfl) (by kernel_rfl) (by kernel_rfl) H

/-- palimpsest/palimpsestref08.number -/
def n53 (b0 at1 n2 : Value) (R : Value → Heap → Prop) (h : Heap) : Prop :=
  Hp Try.prog false (binS .add 3 (.tmp 10) (.tmp 11) at1 n2) (fun t12 h_1 => 
    Hp Try.prog false (Instr.sliceAt 26 b0 (some at1) (some t12) none) (fun t13 h_2 => 
      CallsH Try.prog 54 #[t13] h_2 (fun t14 h_3 => 
        Hp Try.prog false (binS .gtr 45 (.tmp 15) (.const (.int .u64 4611686018427387904)) t14 (.int .u64 4611686018427387904)) (fun t16 h_4 => 
          CondP t16 (
            R (.int .i64 (-1)) h_4) (
            Hp Try.prog false (convert 45 2 t14) (fun t18 h_5 => 
              R t18 h_5) h_4 ⟨⟩) ⟨⟩ ⟨⟩) h_3 ⟨⟩) ⟨⟩) h_1 ⟨⟩) h ⟨⟩

theorem n53_calls {b0 at1 n2 : Value} {R : Value → Heap → Prop} {h : Heap} (H : n53 b0 at1 n2 R h) : CallsH Try.prog 53 #[b0, at1, n2] h R ⟨⟩ :=
  callsH_of_eq Try.follow .l Try.func53 (by kernel_rfl) (by kernel_rfl) (by kernel_rfl) H

/-- palimpsest/palimpsestref01.Value -/
def n54 (b0 : Value) (R : Value → Heap → Prop) (h : Heap) : Prop :=
  Hp Try.prog false (Builtin.len_ #[26] 3 #[b0]) (fun t6 h_1 => 
    Hp Try.prog false (binS .sub 3 (.tmp 6) (.const (.int .i64 1)) t6 (.int .i64 1)) (fun t7 h_2 => 
      LoopC 2 (fun (X : Value → Value → Heap → Prop) => fun x3 i4 h_3 =>
        Hp Try.prog false (binS .geq 3 (.tmp 8) (.const (.int .i64 0)) i4 (.int .i64 0)) (fun t9 h_4 => 
          CondP t9 (
            Hp Try.prog false (binS .mul 45 (.const (.int .u64 256)) (.tmp 12) (.int .u64 256) x3) (fun t13 h_5 => 
              Hp Try.prog false (Instr.indexAt 26 b0 i4) (fun t16 h_6 => 
                Hp Try.prog false (Instr.loadAt 5 t16) (fun t17 h_7 => 
                  Hp Try.prog false (convert 5 45 t17) (fun t18 h_8 => 
                    Hp Try.prog false (binS .add 45 (.tmp 13) (.tmp 18) t13 t18) (fun t19 h_9 => 
                      Hp Try.prog false (binS .sub 3 (.tmp 10) (.const (.int .i64 1)) i4 (.int .i64 1)) (fun t11 h_10 => 
                        X t19 t11 h_10) h_9 ⟨⟩) h_8 ⟨⟩) h_7 ⟨⟩) h_6 ⟨⟩) h_5 ⟨⟩) h_4 ⟨⟩) (
            R x3 h_4) ⟨⟩ ⟨⟩) h_3 ⟨⟩) [(.int .u64 0), t7] h_2 ⟨⟩) h_1 ⟨⟩) h ⟨⟩

theorem n54_calls {b0 : Value} {R : Value → Heap → Prop} {h : Heap} (H : n54 b0 R h) : CallsH Try.prog 54 #[b0] h R ⟨⟩ :=
  callsH_of_eq Try.follow (.n none .l (.n none .l (.n none (.n none .l (.n none (.n (some [4, 5]) .l .l) .l)) .l))) Try.func54 (by kernel_rfl) (by kernel_rfl) (by kernel_rfl) H

/-- palimpsest/wire.Set -/
def n56 (b0 at1 n2 x3 : Value) (R : Value → Heap → Prop) (h : Heap) : Prop :=
  Hp Try.prog false (binS .lss 3 (.tmp 11) (.const (.int .i64 1)) n2 (.int .i64 1)) (fun t12 h_1 => 
    Join1 (fun k h_2 => guardP t12 false (k n2 h_2) (k undef h_2) ⟨⟩ ⟨⟩) (fun t14 h_3 => 
      Join1 (fun k_1 h_4 => guardP t12 false (Hp Try.prog false (binS .gtr 3 (.tmp 14) (.const (.int .i64 8)) t14 (.int .i64 8)) k_1 h_4 ⟨⟩) (k_1 undef h_4) ⟨⟩ ⟨⟩) (fun t15 h_5 => 
        Hp Try.prog false (pickS t12 (.bool true) t15) (fun t16 h_6 => 
          CondP t16 (
            R (.int .i64 2) h_6) (
            CallsH Try.prog 84 #[b0, at1, n2] h_6 (fun t21 h_7 => 
              Hp Try.prog false (Op.unary .not t21) (fun t22 h_8 => 
                CondP t22 (
                  R (.int .i64 4) h_8) (
                  Hp Try.prog false (binS .lss 3 (.tmp 24) (.const (.int .i64 8)) n2 (.int .i64 8)) (fun t25 h_9 => 
                    Join1 (fun k_2 h_10 => guardP t25 true (k_2 x3 h_10) (k_2 undef h_10) ⟨⟩ ⟨⟩) (fun t27 h_11 => 
                      Join1 (fun k_3 h_12 => guardP t25 true (k_3 n2 h_12) (k_3 undef h_12) ⟨⟩ ⟨⟩) (fun t28 h_13 => 
                        Join1 (fun k_4 h_14 => guardP t25 true (Hp Try.prog false (binS .mul 3 (.const (.int .i64 8)) (.tmp 28) (.int .i64 8) t28) k_4 h_14 ⟨⟩) (k_4 undef h_14) ⟨⟩ ⟨⟩) (fun t29 h_15 => 
                          Join1 (fun k_5 h_16 => guardP t25 true (Hp Try.prog false (binS .shr 45 (.tmp 27) (.tmp 29) t27 t29) k_5 h_16 ⟨⟩) (k_5 undef h_16) ⟨⟩ ⟨⟩) (fun t30 h_17 => 
                            Join1 (fun k_6 h_18 => guardP t25 true (Hp Try.prog false (binS .neq 45 (.tmp 30) (.const (.int .u64 0)) t30 (.int .u64 0)) k_6 h_18 ⟨⟩) (k_6 undef h_18) ⟨⟩ ⟨⟩) (fun t31 h_19 => 
                              Hp Try.prog false (pickS t25 t31 (.bool false)) (fun t32 h_20 => 
                                CondP t32 (
                                  R (.int .i64 3) h_20) (
                                  LoopC 2 (fun (X : Value → Value → Heap → Prop) => fun x3_1 t34 h_21 =>
                                    Hp Try.prog false (binS .lss 3 (.tmp 34) (.tmp 33) t34 n2) (fun t35 h_22 => 
                                      CondP t35 (
                                        Hp Try.prog false (binS .add 3 (.tmp 38) (.tmp 39) at1 t34) (fun t40 h_23 => 
                                          Hp Try.prog false (convert 45 5 x3_1) (fun t42 h_24 => 
                                            Hp Try.prog false (Instr.indexAt 26 b0 t40) (fun t43 h_25 => 
                                              Hp Try.prog false (storeS 5 t43 t42) (fun _ h_26 => 
                                                Hp Try.prog false (binS .shr 45 (.tmp 44) (.const (.int .u64 8)) x3_1 (.int .u64 8)) (fun t45 h_27 => 
                                                  Hp Try.prog false (binS .add 3 (.tmp 34) (.const (.int .i64 1)) t34 (.int .i64 1)) (fun t46 h_28 => 
                                                    X t45 t46 h_28) h_27 ⟨⟩) h_26 ⟨⟩) h_25 ⟨⟩) h_24 ⟨⟩) h_23 ⟨⟩) h_22 ⟨⟩) (
                                        R (.int .i64 0) h_22) ⟨⟩ ⟨⟩) h_21 ⟨⟩) [x3, (.int .i64 0)] h_20 ⟨⟩) ⟨⟩ ⟨⟩) h_19 ⟨⟩) h_17 ⟨⟩ ⟨⟩) h_15 ⟨⟩ ⟨⟩) h_13 ⟨⟩ ⟨⟩) h_11 ⟨⟩ ⟨⟩) h_9 ⟨⟩ ⟨⟩) h_8 ⟨⟩) ⟨⟩ ⟨⟩) h_7 ⟨⟩) ⟨⟩) ⟨⟩ ⟨⟩) h_5 ⟨⟩) h_3 ⟨⟩ ⟨⟩) h_1 ⟨⟩ ⟨⟩) h ⟨⟩

theorem n56_calls {b0 at1 n2 x3 : Value} {R : Value → Heap → Prop} {h : Heap} (H : n56 b0 at1 n2 x3 R h) : CallsH Try.prog 56 #[b0, at1, n2, x3] h R ⟨⟩ :=
  callsH_of_eq Try.follow (.n none .l (.n none .l (.n none (.n none .l (.n none (.n (some [4, 35]) .l .l) .l)) .l))) Try.func56 (by kernel_rfl) (by kernel_rfl) (by kernel_rfl) H

/-- palimpsest/wire.SetText -/
def n57 (b0 at1 most2 s3 : Value) (R : Value → Heap → Prop) (h : Heap) : Prop :=
  CallsH Try.prog 85 #[b0, at1, most2] h (fun t14 h_1 => 
    Hp Try.prog false (binS .neq 27 (.tmp 15) (.const (.int .i64 0)) t14 (.int .i64 0)) (fun t16 h_2 => 
      CondP t16 (
        R t14 h_2) (
        Hp Try.prog false (Builtin.len_ #[9] 3 #[s3]) (fun t19 h_3 => 
          Hp Try.prog false (binS .gtr 3 (.tmp 19) (.tmp 20) t19 most2) (fun t21 h_4 => 
            CondP t21 (
              R (.int .i64 3) h_4) (
              Hp Try.prog false (Builtin.len_ #[9] 3 #[s3]) (fun t25 h_5 => 
                Hp Try.prog false (convert 3 45 t25) (fun t26 h_6 => 
                  CallsH Try.prog 56 #[b0, at1, (.int .i64 4), t26] h_6 (fun t27 h_7 => 
                    Hp Try.prog false (binS .add 3 (.tmp 29) (.const (.int .i64 4)) at1 (.int .i64 4)) (fun t30 h_8 => 
                      Hp Try.prog false (binS .add 3 (.tmp 31) (.const (.int .i64 4)) at1 (.int .i64 4)) (fun t32 h_9 => 
                        Hp Try.prog false (binS .add 3 (.tmp 32) (.tmp 33) t32 most2) (fun t34 h_10 => 
                          Hp Try.prog false (Instr.sliceAt 26 b0 (some t30) (some t34) none) (fun t35 h_11 => 
                            Hp Try.prog false (Builtin.clear_ #[26] 0 #[t35]) (fun _ h_12 => 
                              Hp Try.prog false (Builtin.copy_ #[26, 9] 3 #[t35, s3]) (fun t39 h_13 => 
                                R (.int .i64 0) h_13) h_12 ⟨⟩) h_11 ⟨⟩) h_10 ⟨⟩) h_9 ⟨⟩) h_8 ⟨⟩) h_7 ⟨⟩) ⟨⟩) h_5 ⟨⟩) h_4 ⟨⟩) ⟨⟩ ⟨⟩) h_3 ⟨⟩) h_2 ⟨⟩) ⟨⟩ ⟨⟩) h_1 ⟨⟩) ⟨⟩

theorem n57_calls {b0 at1 most2 s3 : Value} {R : Value → Heap → Prop} {h : Heap} (H : n57 b0 at1 most2 s3 R h) : CallsH Try.prog 57 #[b0, at1, most2, s3] h R ⟨⟩ :=
  callsH_of_eq Try.follow .l Try.func57 (by kernel_rfl) (by kernel_rfl) (by kernel_rfl) H

/-- strings.Contains -/
def n61 (s0 substr1 : Value) (R : Value → Heap → Prop) (h : Heap) : Prop :=
  CallsH Try.prog 87 #[s0, substr1] h (fun t7 h_1 => 
    Hp Try.prog false (binS .geq 3 (.tmp 7) (.const (.int .i64 0)) t7 (.int .i64 0)) (fun t8 h_2 => 
      R t8 h_2) h_1 ⟨⟩) ⟨⟩

theorem n61_calls {s0 substr1 : Value} {R : Value → Heap → Prop} {h : Heap} (H : n61 s0 substr1 R h) : CallsH Try.prog 61 #[s0, substr1] h R ⟨⟩ :=
  callsH_of_eq Try.follow .l Try.func61 (by kernel_rfl) (by kernel_rfl) (by kernel_rfl) H

/-- palimpsest/palimpsestref08.Place -/
def n62 (at0 bits1 : Value) (R : Value → Heap → Prop) (h : Heap) : Prop :=
  Hp Try.prog false (binS .gtr 2 (.tmp 5) (.const (.int .i64 0)) at0 (.int .i64 0)) (fun t6 h_1 => 
    Join1 (fun k h_2 => guardP t6 true (k at0 h_2) (k undef h_2) ⟨⟩ ⟨⟩) (fun t8 h_3 => 
      Join1 (fun k_1 h_4 => guardP t6 true (Hp Try.prog false (binS .leq 2 (.tmp 8) (.const (.int .i64 268435456)) t8 (.int .i64 268435456)) k_1 h_4 ⟨⟩) (k_1 undef h_4) ⟨⟩ ⟨⟩) (fun t9 h_5 => 
        Hp Try.prog false (pickS t6 t9 (.bool false)) (fun t10 h_6 => 
          Join1 (fun k_2 h_7 => guardP t10 true (k_2 at0 h_7) (k_2 undef h_7) ⟨⟩ ⟨⟩) (fun t12 h_8 => 
            Join1 (fun k_3 h_9 => guardP t10 true (k_3 bits1 h_9) (k_3 undef h_9) ⟨⟩ ⟨⟩) (fun t13 h_10 => 
              Join1 (fun k_4 h_11 => guardP t10 true (CallsH Try.prog 28 #[t13] h_11 k_4 ⟨⟩) (k_4 undef h_11) ⟨⟩ ⟨⟩) (fun t14 h_12 => 
                Join1 (fun k_5 h_13 => guardP t10 true (Hp Try.prog false (binS .rem 2 (.tmp 12) (.tmp 14) t12 t14) k_5 h_13 ⟨⟩) (k_5 undef h_13) ⟨⟩ ⟨⟩) (fun t15 h_14 => 
                  Join1 (fun k_6 h_15 => guardP t10 true (Hp Try.prog false (binS .eql 2 (.tmp 15) (.const (.int .i64 0)) t15 (.int .i64 0)) k_6 h_15 ⟨⟩) (k_6 undef h_15) ⟨⟩ ⟨⟩) (fun t16 h_16 => 
                    Hp Try.prog false (pickS t10 t16 (.bool false)) (fun t17 h_17 => 
                      R t17 h_17) h_16 ⟨⟩) h_14 ⟨⟩ ⟨⟩) h_12 ⟨⟩ ⟨⟩) h_10 ⟨⟩ ⟨⟩) h_8 ⟨⟩ ⟨⟩) h_6 ⟨⟩ ⟨⟩) h_5 ⟨⟩) h_3 ⟨⟩ ⟨⟩) h_1 ⟨⟩ ⟨⟩) h ⟨⟩

theorem n62_calls {at0 bits1 : Value} {R : Value → Heap → Prop} {h : Heap} (H : n62 at0 bits1 R h) : CallsH Try.prog 62 #[at0, bits1] h R ⟨⟩ :=
  callsH_of_eq Try.follow .l Try.func62 (by kernel_rfl) (by kernel_rfl) (by kernel_rfl) H

/-- palimpsest/head.div -/
def n68 (a0 b1 : Value) (R : Value → Heap → Prop) (h : Heap) : Prop :=
  Hp Try.prog false (binS .add 2 (.tmp 5) (.tmp 6) a0 b1) (fun t7 h_1 => 
    Hp Try.prog false (binS .sub 2 (.tmp 7) (.const (.int .i64 1)) t7 (.int .i64 1)) (fun t8 h_2 => 
      Hp Try.prog false (binS .quo 2 (.tmp 8) (.tmp 9) t8 b1) (fun t10 h_3 => 
        R t10 h_3) h_2 ⟨⟩) h_1 ⟨⟩) h ⟨⟩

theorem n68_calls {a0 b1 : Value} {R : Value → Heap → Prop} {h : Heap} (H : n68 a0 b1 R h) : CallsH Try.prog 68 #[a0, b1] h R ⟨⟩ :=
  callsH_of_eq Try.follow .l Try.func68 (by kernel_rfl) (by kernel_rfl) (by kernel_rfl) H

/-- palimpsest/palimpsestref08.Up -/
def n70 (a0 b1 : Value) (R : Value → Heap → Prop) (h : Heap) : Prop :=
  Hp Try.prog false (binS .rem 2 (.tmp 5) (.tmp 6) a0 b1) (fun t7 h_1 => 
    Hp Try.prog false (binS .eql 2 (.tmp 7) (.const (.int .i64 0)) t7 (.int .i64 0)) (fun t8 h_2 => 
      CondP t8 (
        Hp Try.prog false (binS .quo 2 (.tmp 9) (.tmp 10) a0 b1) (fun t11 h_3 => 
          R t11 h_3) h_2 ⟨⟩) (
        Hp Try.prog false (binS .quo 2 (.tmp 12) (.tmp 13) a0 b1) (fun t14 h_4 => 
          Hp Try.prog false (binS .add 2 (.tmp 14) (.const (.int .i64 1)) t14 (.int .i64 1)) (fun t15 h_5 => 
            R t15 h_5) h_4 ⟨⟩) h_2 ⟨⟩) ⟨⟩ ⟨⟩) h_1 ⟨⟩) h ⟨⟩

theorem n70_calls {a0 b1 : Value} {R : Value → Heap → Prop} {h : Heap} (H : n70 a0 b1 R h) : CallsH Try.prog 70 #[a0, b1] h R ⟨⟩ :=
  callsH_of_eq Try.follow .l Try.func70 (by kernel_rfl) (by kernel_rfl) (by kernel_rfl) H

/-- palimpsest/wire.Join -/
def n77 (fields0 : Value) (R : Value → Heap → Prop) (h : Heap) : Prop :=
  Hp Try.prog false (Builtin.len_ #[121] 3 #[fields0]) (fun t7 h_1 => 
    LoopC 2 (fun (X : Value → Value → Heap → Prop) => fun out3 t8 h_2 =>
      Hp Try.prog false (binS .lss 3 (.tmp 8) (.tmp 7) t8 t7) (fun t9 h_3 => 
        CondP t9 (
          Hp Try.prog false (Instr.indexAt 121 fields0 t8) (fun t10 h_4 => 
            Hp Try.prog false (Instr.loadAt 26 t10) (fun t11 h_5 => 
              Hp Try.prog false (Builtin.append_ #[26, 26] 26 #[out3, t11]) (fun t14 h_6 => 
                Hp Try.prog false (binS .add 3 (.tmp 8) (.const (.int .i64 1)) t8 (.int .i64 1)) (fun t15 h_7 => 
                  X t14 t15 h_7) h_6 ⟨⟩) h_5 ⟨⟩) h_4 ⟨⟩) h_3 ⟨⟩) (
          R out3 h_3) ⟨⟩ ⟨⟩) h_2 ⟨⟩) [(.slice none 0 0), (.int .i64 0)] h_1 ⟨⟩) h ⟨⟩

theorem n77_calls {fields0 : Value} {R : Value → Heap → Prop} {h : Heap} (H : n77 fields0 R h) : CallsH Try.prog 77 #[fields0] h R ⟨⟩ :=
  callsH_of_eq Try.follow (.n none .l (.n none .l (.n none (.n none .l (.n none (.n (some [4, 9]) .l .l) .l)) .l))) Try.func77 (by kernel_rfl) (by kernel_rfl) (by kernel_rfl) H

/-- palimpsest/wire.lies -/
def n84 (b0 at1 n2 : Value) (R : Value → Heap → Prop) (h : Heap) : Prop :=
  Hp Try.prog false (binS .geq 3 (.tmp 7) (.const (.int .i64 0)) at1 (.int .i64 0)) (fun t8 h_1 => 
    Join1 (fun k h_2 => guardP t8 true (k n2 h_2) (k undef h_2) ⟨⟩ ⟨⟩) (fun t10 h_3 => 
      Join1 (fun k_1 h_4 => guardP t8 true (k_1 b0 h_4) (k_1 undef h_4) ⟨⟩ ⟨⟩) (fun t11 h_5 => 
        Join1 (fun k_2 h_6 => guardP t8 true (Hp Try.prog false (Builtin.len_ #[26] 3 #[t11]) k_2 h_6 ⟨⟩) (k_2 undef h_6) ⟨⟩ ⟨⟩) (fun t12 h_7 => 
          Join1 (fun k_3 h_8 => guardP t8 true (Hp Try.prog false (binS .leq 3 (.tmp 10) (.tmp 12) t10 t12) k_3 h_8 ⟨⟩) (k_3 undef h_8) ⟨⟩ ⟨⟩) (fun t13 h_9 => 
            Hp Try.prog false (pickS t8 t13 (.bool false)) (fun t14 h_10 => 
              Join1 (fun k_4 h_11 => guardP t14 true (k_4 at1 h_11) (k_4 undef h_11) ⟨⟩ ⟨⟩) (fun t16 h_12 => 
                Join1 (fun k_5 h_13 => guardP t14 true (k_5 b0 h_13) (k_5 undef h_13) ⟨⟩ ⟨⟩) (fun t17 h_14 => 
                  Join1 (fun k_6 h_15 => guardP t14 true (Hp Try.prog false (Builtin.len_ #[26] 3 #[t17]) k_6 h_15 ⟨⟩) (k_6 undef h_15) ⟨⟩ ⟨⟩) (fun t18 h_16 => 
                    Join1 (fun k_7 h_17 => guardP t14 true (k_7 n2 h_17) (k_7 undef h_17) ⟨⟩ ⟨⟩) (fun t19 h_18 => 
                      Join1 (fun k_8 h_19 => guardP t14 true (Hp Try.prog false (binS .sub 3 (.tmp 18) (.tmp 19) t18 t19) k_8 h_19 ⟨⟩) (k_8 undef h_19) ⟨⟩ ⟨⟩) (fun t20 h_20 => 
                        Join1 (fun k_9 h_21 => guardP t14 true (Hp Try.prog false (binS .leq 3 (.tmp 16) (.tmp 20) t16 t20) k_9 h_21 ⟨⟩) (k_9 undef h_21) ⟨⟩ ⟨⟩) (fun t21 h_22 => 
                          Hp Try.prog false (pickS t14 t21 (.bool false)) (fun t22 h_23 => 
                            R t22 h_23) h_22 ⟨⟩) h_20 ⟨⟩ ⟨⟩) h_18 ⟨⟩ ⟨⟩) h_16 ⟨⟩ ⟨⟩) h_14 ⟨⟩ ⟨⟩) h_12 ⟨⟩ ⟨⟩) h_10 ⟨⟩ ⟨⟩) h_9 ⟨⟩) h_7 ⟨⟩ ⟨⟩) h_5 ⟨⟩ ⟨⟩) h_3 ⟨⟩ ⟨⟩) h_1 ⟨⟩ ⟨⟩) h ⟨⟩

theorem n84_calls {b0 at1 n2 : Value} {R : Value → Heap → Prop} {h : Heap} (H : n84 b0 at1 n2 R h) : CallsH Try.prog 84 #[b0, at1, n2] h R ⟨⟩ :=
  callsH_of_eq Try.follow .l Try.func84 (by kernel_rfl) (by kernel_rfl) (by kernel_rfl) H

/-- palimpsest/wire.field -/
def n85 (b0 at1 most2 : Value) (R : Value → Heap → Prop) (h : Heap) : Prop :=
  Hp Try.prog false (binS .lss 3 (.tmp 8) (.const (.int .i64 0)) most2 (.int .i64 0)) (fun t9 h_1 => 
    Join1 (fun k h_2 => guardP t9 false (k most2 h_2) (k undef h_2) ⟨⟩ ⟨⟩) (fun t11 h_3 => 
      Join1 (fun k_1 h_4 => guardP t9 false (Hp Try.prog false (binS .gtr 3 (.tmp 11) (.const (.int .i64 1048576)) t11 (.int .i64 1048576)) k_1 h_4 ⟨⟩) (k_1 undef h_4) ⟨⟩ ⟨⟩) (fun t12 h_5 => 
        Hp Try.prog false (pickS t9 (.bool true) t12) (fun t13 h_6 => 
          CondP t13 (
            R (.int .i64 2) h_6) (
            Hp Try.prog false (binS .add 3 (.const (.int .i64 4)) (.tmp 17) (.int .i64 4) most2) (fun t18 h_7 => 
              CallsH Try.prog 84 #[b0, at1, t18] h_7 (fun t19 h_8 => 
                Hp Try.prog false (Op.unary .not t19) (fun t20 h_9 => 
                  CondP t20 (
                    R (.int .i64 4) h_9) (
                    R (.int .i64 0) h_9) ⟨⟩ ⟨⟩) h_8 ⟨⟩) ⟨⟩) h_6 ⟨⟩) ⟨⟩ ⟨⟩) h_5 ⟨⟩) h_3 ⟨⟩ ⟨⟩) h_1 ⟨⟩ ⟨⟩) h ⟨⟩

theorem n85_calls {b0 at1 most2 : Value} {R : Value → Heap → Prop} {h : Heap} (H : n85 b0 at1 most2 R h) : CallsH Try.prog 85 #[b0, at1, most2] h R ⟨⟩ :=
  callsH_of_eq Try.follow .l Try.func85 (by kernel_rfl) (by kernel_rfl) (by kernel_rfl) H

/-- palimpsest/wire.Noughts -/
def n86 (b0 from1 until2 : Value) (R : Value → Heap → Prop) (h : Heap) : Prop :=
  Hp Try.prog false (binS .lss 3 (.tmp 11) (.const (.int .i64 0)) from1 (.int .i64 0)) (fun t12 h_1 => 
    Join1 (fun k h_2 => guardP t12 false (k until2 h_2) (k undef h_2) ⟨⟩ ⟨⟩) (fun t14 h_3 => 
      Join1 (fun k_1 h_4 => guardP t12 false (k_1 from1 h_4) (k_1 undef h_4) ⟨⟩ ⟨⟩) (fun t15 h_5 => 
        Join1 (fun k_2 h_6 => guardP t12 false (Hp Try.prog false (binS .lss 3 (.tmp 14) (.tmp 15) t14 t15) k_2 h_6 ⟨⟩) (k_2 undef h_6) ⟨⟩ ⟨⟩) (fun t16 h_7 => 
          Hp Try.prog false (pickS t12 (.bool true) t16) (fun t17 h_8 => 
            Join1 (fun k_3 h_9 => guardP t17 false (k_3 until2 h_9) (k_3 undef h_9) ⟨⟩ ⟨⟩) (fun t19 h_10 => 
              Join1 (fun k_4 h_11 => guardP t17 false (k_4 b0 h_11) (k_4 undef h_11) ⟨⟩ ⟨⟩) (fun t20 h_12 => 
                Join1 (fun k_5 h_13 => guardP t17 false (Hp Try.prog false (Builtin.len_ #[26] 3 #[t20]) k_5 h_13 ⟨⟩) (k_5 undef h_13) ⟨⟩ ⟨⟩) (fun t21 h_14 => 
                  Join1 (fun k_6 h_15 => guardP t17 false (Hp Try.prog false (binS .gtr 3 (.tmp 19) (.tmp 21) t19 t21) k_6 h_15 ⟨⟩) (k_6 undef h_15) ⟨⟩ ⟨⟩) (fun t22 h_16 => 
                    Hp Try.prog false (pickS t17 (.bool true) t22) (fun t23 h_17 => 
                      CondP t23 (
                        R (.tuple #[(.bool false), (.int .i64 4)]) h_17) (
                        JoinN 1 (fun (k_7 : Value → Heap → Prop) h_18 =>
                          Hp Try.prog false (Instr.sliceAt 26 b0 (some from1) (some until2) none) (fun t27 h_19 => 
                            Hp Try.prog false (Builtin.len_ #[26] 3 #[t27]) (fun t28 h_20 => 
                              JoinN 1 (fun (k_8 : Value → Heap → Prop) h_21 =>
                                LoopC 2 (fun (X : Value → Value → Heap → Prop) => fun all8 t29 h_22 =>
                                  Hp Try.prog false (binS .lss 3 (.tmp 29) (.tmp 28) t29 t28) (fun t30 h_23 => 
                                    CondP t30 (
                                      Hp Try.prog false (Instr.indexAt 26 t27 t29) (fun t31 h_24 => 
                                        Hp Try.prog false (Instr.loadAt 5 t31) (fun t32 h_25 => 
                                          Hp Try.prog false (binS .neq 5 (.tmp 33) (.const (.int .u8 0)) t32 (.int .u8 0)) (fun t34 h_26 => 
                                            CondP t34 (
                                              k_8 (.bool false) h_26) (
                                              Hp Try.prog false (binS .add 3 (.tmp 29) (.const (.int .i64 1)) t29 (.int .i64 1)) (fun t35 h_27 => 
                                                X all8 t35 h_27) h_26 ⟨⟩) ⟨⟩ ⟨⟩) h_25 ⟨⟩) h_24 ⟨⟩) h_23 ⟨⟩) (
                                      k_8 all8 h_23) ⟨⟩ ⟨⟩) h_22 ⟨⟩) [(.bool true), (.int .i64 0)] h_21 ⟨⟩)
                                (fun all8_1 h_28 =>
                                k_7 all8_1 h_28) h_20 ⟨⟩ ⟨⟩) h_19 ⟨⟩) h_18 ⟨⟩)
                          (fun all8_2 h_29 =>
                          R (.tuple #[all8_2, (.int .i64 0)]) h_29) h_17 ⟨⟩ ⟨⟩) ⟨⟩ ⟨⟩) h_16 ⟨⟩) h_14 ⟨⟩ ⟨⟩) h_12 ⟨⟩ ⟨⟩) h_10 ⟨⟩ ⟨⟩) h_8 ⟨⟩ ⟨⟩) h_7 ⟨⟩) h_5 ⟨⟩ ⟨⟩) h_3 ⟨⟩ ⟨⟩) h_1 ⟨⟩ ⟨⟩) h ⟨⟩

theorem n86_calls {b0 from1 until2 : Value} {R : Value → Heap → Prop} {h : Heap} (H : n86 b0 from1 until2 R h) : CallsH Try.prog 86 #[b0, from1, until2] h R ⟨⟩ :=
  callsH_of_eq Try.follow (.n none .l (.n none (.n none .l (.n none .l (.n none .l (.n (some [9]) (.n none .l (.n (some [9]) (.n (some [9, 30]) .l .l) .l)) .l)))) .l)) Try.func86 (by kernel_rfl) (by kernel_rfl) (by kernel_rfl) H

/-- strings.Index -/
def n87 (s0 substr1 : Value) (R : Value → Heap → Prop) (h : Heap) : Prop :=
  CallsH Try.prog 88 #[s0, substr1] h (fun t7 h_1 => 
    R t7 h_1) ⟨⟩

theorem n87_calls {s0 substr1 : Value} {R : Value → Heap → Prop} {h : Heap} (H : n87 s0 substr1 R h) : CallsH Try.prog 87 #[s0, substr1] h R ⟨⟩ :=
  callsH_of_eq Try.follow .l Try.func87 (by kernel_rfl) (by kernel_rfl) (by kernel_rfl) H

/-- internal/stringslite.Index -/
def n88 (s0 substr1 : Value) (R : Value → Heap → Prop) (h : Heap) : Prop :=
  Hp Try.prog false (Builtin.len_ #[9] 3 #[substr1]) (fun t15 h_1 => 
    Hp Try.prog false (binS .eql 3 (.tmp 17) (.const (.int .i64 0)) t15 (.int .i64 0)) (fun t18 h_2 => 
      Join1 (fun k h_3 => guardP t18 false (k substr1 h_3) (k undef h_3) ⟨⟩ ⟨⟩) (fun t20 h_4 => 
        Join1 (fun k_1 h_5 => guardP t18 false (k_1 s0 h_5) (k_1 undef h_5) ⟨⟩ ⟨⟩) (fun t21 h_6 => 
          Join1 (fun k_2 h_7 => guardP t18 false (Hp Try.prog false (binS .eql 9 (.tmp 20) (.tmp 21) t20 t21) k_2 h_7 ⟨⟩) (k_2 undef h_7) ⟨⟩ ⟨⟩) (fun t22 h_8 => 
            Hp Try.prog false (pickS t18 (.bool true) t22) (fun t23 h_9 => 
              CondP t23 (
                R (.int .i64 0) h_9) (
                Hp Try.prog false (binS .eql 3 (.tmp 25) (.const (.int .i64 1)) t15 (.int .i64 1)) (fun t26 h_10 => 
                  CondP t26 (
                    Hp Try.prog false (Instr.index 9 substr1 (.int .i64 0)) (fun t29 h_11 => 
                      CallsH Try.prog 89 #[s0, t29] h_11 (fun t30 h_12 => 
                        R t30 h_12) ⟨⟩) h_10 ⟨⟩) (
                    Hp Try.prog false (Builtin.len_ #[9] 3 #[s0]) (fun t34 h_13 => 
                      Hp Try.prog false (binS .geq 3 (.tmp 32) (.tmp 34) t15 t34) (fun t35 h_14 => 
                        CondP t35 (
                          R (.int .i64 (-1)) h_14) (
                          Hp Try.prog false (Instr.loadAt 3 (.pointer (some ⟨0, 0, none⟩))) (fun t38 h_15 => 
                            Hp Try.prog false (binS .leq 3 (.tmp 37) (.tmp 38) t15 t38) (fun t39 h_16 => 
                              Join1 (fun k_3 h_17 => guardP t39 true (k_3 s0 h_17) (k_3 undef h_17) ⟨⟩ ⟨⟩) (fun t41 h_18 => 
                                Join1 (fun k_4 h_19 => guardP t39 true (Hp Try.prog false (Builtin.len_ #[9] 3 #[t41]) k_4 h_19 ⟨⟩) (k_4 undef h_19) ⟨⟩ ⟨⟩) (fun t42 h_20 => 
                                  Join1 (fun k_5 h_21 => guardP t39 true (Hp Try.prog false (binS .leq 3 (.tmp 42) (.const (.int .i64 64)) t42 (.int .i64 64)) k_5 h_21 ⟨⟩) (k_5 undef h_21) ⟨⟩ ⟨⟩) (fun t43 h_22 => 
                                    Hp Try.prog false (pickS t39 t43 (.bool false)) (fun t44 h_23 => 
                                      CondP t44 (
                                        ExtH Try.prog 90 #[s0, substr1] h_23 (fun t47 h_24 => 
                                          R t47 h_24) ⟨⟩) (
                                        Hp Try.prog false (Instr.index 9 substr1 (.int .i64 0)) (fun t49 h_25 => 
                                          Hp Try.prog false (Instr.index 9 substr1 (.int .i64 1)) (fun t51 h_26 => 
                                            Hp Try.prog false (Builtin.len_ #[9] 3 #[s0]) (fun t53 h_27 => 
                                              Hp Try.prog false (binS .sub 3 (.tmp 53) (.tmp 54) t53 t15) (fun t55 h_28 => 
                                                Hp Try.prog false (binS .add 3 (.tmp 55) (.const (.int .i64 1)) t55 (.int .i64 1)) (fun t56 h_29 => 
                                                  LoopC 2 (fun (X : Value → Value → Heap → Prop) => fun i8 fails10 h_30 =>
                                                    Hp Try.prog false (binS .lss 3 (.tmp 57) (.tmp 58) i8 t56) (fun t59 h_31 => 
                                                      CondP t59 (
                                                        JoinN 1 (fun (k_6 : Value → Heap → Prop) h_32 =>
                                                          Hp Try.prog false (Instr.index 9 s0 i8) (fun t62 h_33 => 
                                                            Hp Try.prog false (binS .neq 5 (.tmp 62) (.tmp 63) t62 t49) (fun t64 h_34 => 
                                                              CondP t64 (
                                                                Hp Try.prog false (binS .add 3 (.tmp 66) (.const (.int .i64 1)) i8 (.int .i64 1)) (fun t67 h_35 => 
                                                                  Hp Try.prog false (Instr.sliceAt 9 s0 (some t67) (some t56) none) (fun t69 h_36 => 
                                                                    CallsH Try.prog 89 #[t69, t49] h_36 (fun t71 h_37 => 
                                                                      Hp Try.prog false (binS .lss 3 (.tmp 72) (.const (.int .i64 0)) t71 (.int .i64 0)) (fun t73 h_38 => 
                                                                        CondP t73 (
                                                                          R (.int .i64 (-1)) h_38) (
                                                                          Hp Try.prog false (binS .add 3 (.tmp 75) (.const (.int .i64 1)) t71 (.int .i64 1)) (fun t76 h_39 => 
                                                                            Hp Try.prog false (binS .add 3 (.tmp 74) (.tmp 76) i8 t76) (fun t77 h_40 => 
                                                                              k_6 t77 h_40) h_39 ⟨⟩) h_38 ⟨⟩) ⟨⟩ ⟨⟩) h_37 ⟨⟩) ⟨⟩) h_35 ⟨⟩) h_34 ⟨⟩) (
                                                                k_6 i8 h_34) ⟨⟩ ⟨⟩) h_33 ⟨⟩) h_32 ⟨⟩)
                                                          (fun i8_1 h_41 =>
                                                          Hp Try.prog false (binS .add 3 (.tmp 79) (.const (.int .i64 1)) i8_1 (.int .i64 1)) (fun t80 h_42 => 
                                                            Hp Try.prog false (Instr.index 9 s0 t80) (fun t81 h_43 => 
                                                              Hp Try.prog false (binS .eql 5 (.tmp 81) (.tmp 82) t81 t51) (fun t83 h_44 => 
                                                                Join1 (fun k_7 h_45 => guardP t83 true (k_7 s0 h_45) (k_7 undef h_45) ⟨⟩ ⟨⟩) (fun t85 h_46 => 
                                                                  Join1 (fun k_8 h_47 => guardP t83 true (k_8 i8_1 h_47) (k_8 undef h_47) ⟨⟩ ⟨⟩) (fun t86 h_48 => 
                                                                    Join1 (fun k_9 h_49 => guardP t83 true (k_9 i8_1 h_49) (k_9 undef h_49) ⟨⟩ ⟨⟩) (fun t87 h_50 => 
                                                                      Join1 (fun k_10 h_51 => guardP t83 true (k_10 t15 h_51) (k_10 undef h_51) ⟨⟩ ⟨⟩) (fun t88 h_52 => 
                                                                        Join1 (fun k_11 h_53 => guardP t83 true (Hp Try.prog false (binS .add 3 (.tmp 87) (.tmp 88) t87 t88) k_11 h_53 ⟨⟩) (k_11 undef h_53) ⟨⟩ ⟨⟩) (fun t89 h_54 => 
                                                                          Join1 (fun k_12 h_55 => guardP t83 true (Hp Try.prog false (Instr.sliceAt 9 t85 (some t86) (some t89) none) k_12 h_55 ⟨⟩) (k_12 undef h_55) ⟨⟩ ⟨⟩) (fun t90 h_56 => 
                                                                            Join1 (fun k_13 h_57 => guardP t83 true (k_13 substr1 h_57) (k_13 undef h_57) ⟨⟩ ⟨⟩) (fun t91 h_58 => 
                                                                              Join1 (fun k_14 h_59 => guardP t83 true (Hp Try.prog false (binS .eql 9 (.tmp 90) (.tmp 91) t90 t91) k_14 h_59 ⟨⟩) (k_14 undef h_59) ⟨⟩ ⟨⟩) (fun t92 h_60 => 
                                                                                Hp Try.prog false (pickS t83 t92 (.bool false)) (fun t93 h_61 => 
                                                                                  CondP t93 (
                                                                                    R i8_1 h_61) (
                                                                                    Hp Try.prog false (binS .add 3 (.tmp 95) (.const (.int .i64 1)) i8_1 (.int .i64 1)) (fun t96 h_62 => 
                                                                                      Hp Try.prog false (binS .add 3 (.tmp 97) (.const (.int .i64 1)) fails10 (.int .i64 1)) (fun t98 h_63 => 
                                                                                        Hp Try.prog false (Instr.loadAt 3 (.pointer (some ⟨0, 0, none⟩))) (fun t100 h_64 => 
                                                                                          Hp Try.prog false (binS .leq 3 (.tmp 99) (.tmp 100) t15 t100) (fun t101 h_65 => 
                                                                                            Join1 (fun k_15 h_66 => guardP t101 true (k_15 t98 h_66) (k_15 undef h_66) ⟨⟩ ⟨⟩) (fun t103 h_67 => 
                                                                                              Join1 (fun k_16 h_68 => guardP t101 true (k_16 t96 h_68) (k_16 undef h_68) ⟨⟩ ⟨⟩) (fun t104 h_69 => 
                                                                                                Join1 (fun k_17 h_70 => guardP t101 true (CallsH Try.prog 91 #[t104] h_70 k_17 ⟨⟩) (k_17 undef h_70) ⟨⟩ ⟨⟩) (fun t105 h_71 => 
                                                                                                  Join1 (fun k_18 h_72 => guardP t101 true (Hp Try.prog false (binS .gtr 3 (.tmp 103) (.tmp 105) t103 t105) k_18 h_72 ⟨⟩) (k_18 undef h_72) ⟨⟩ ⟨⟩) (fun t106 h_73 => 
                                                                                                    Hp Try.prog false (pickS t101 t106 (.bool false)) (fun t107 h_74 => 
                                                                                                      CondP t107 (
                                                                                                        Hp Try.prog false (Instr.sliceAt 9 s0 (some t96) none none) (fun t110 h_75 => 
                                                                                                          ExtH Try.prog 90 #[t110, substr1] h_75 (fun t112 h_76 => 
                                                                                                            Hp Try.prog false (binS .geq 3 (.tmp 113) (.const (.int .i64 0)) t112 (.int .i64 0)) (fun t114 h_77 => 
                                                                                                              CondP t114 (
                                                                                                                Hp Try.prog false (binS .add 3 (.tmp 115) (.tmp 116) t112 t96) (fun t117 h_78 => 
                                                                                                                  R t117 h_78) h_77 ⟨⟩) (
                                                                                                                R (.int .i64 (-1)) h_77) ⟨⟩ ⟨⟩) h_76 ⟨⟩) ⟨⟩) h_74 ⟨⟩) (
                                                                                                        Hp Try.prog false (Instr.loadAt 3 (.pointer (some ⟨0, 0, none⟩))) (fun t119 h_79 => 
                                                                                                          Hp Try.prog false (binS .gtr 3 (.tmp 118) (.tmp 119) t15 t119) (fun t120 h_80 => 
                                                                                                            Join1 (fun k_19 h_81 => guardP t120 true (k_19 t98 h_81) (k_19 undef h_81) ⟨⟩ ⟨⟩) (fun t122 h_82 => 
                                                                                                              Join1 (fun k_20 h_83 => guardP t120 true (k_20 t96 h_83) (k_20 undef h_83) ⟨⟩ ⟨⟩) (fun t123 h_84 => 
                                                                                                                Join1 (fun k_21 h_85 => guardP t120 true (Hp Try.prog false (binS .shr 3 (.tmp 123) (.const (.int .u64 4)) t123 (.int .u64 4)) k_21 h_85 ⟨⟩) (k_21 undef h_85) ⟨⟩ ⟨⟩) (fun t124 h_86 => 
                                                                                                                  Join1 (fun k_22 h_87 => guardP t120 true (Hp Try.prog false (binS .add 3 (.const (.int .i64 4)) (.tmp 124) (.int .i64 4) t124) k_22 h_87 ⟨⟩) (k_22 undef h_87) ⟨⟩ ⟨⟩) (fun t125 h_88 => 
                                                                                                                    Join1 (fun k_23 h_89 => guardP t120 true (Hp Try.prog false (binS .geq 3 (.tmp 122) (.tmp 125) t122 t125) k_23 h_89 ⟨⟩) (k_23 undef h_89) ⟨⟩ ⟨⟩) (fun t126 h_90 => 
                                                                                                                      Hp Try.prog false (pickS t120 t126 (.bool false)) (fun t127 h_91 => 
                                                                                                                        Join1 (fun k_24 h_92 => guardP t127 true (k_24 t96 h_92) (k_24 undef h_92) ⟨⟩ ⟨⟩) (fun t129 h_93 => 
                                                                                                                          Join1 (fun k_25 h_94 => guardP t127 true (k_25 t56 h_94) (k_25 undef h_94) ⟨⟩ ⟨⟩) (fun t130 h_95 => 
                                                                                                                            Join1 (fun k_26 h_96 => guardP t127 true (Hp Try.prog false (binS .lss 3 (.tmp 129) (.tmp 130) t129 t130) k_26 h_96 ⟨⟩) (k_26 undef h_96) ⟨⟩ ⟨⟩) (fun t131 h_97 => 
                                                                                                                              Hp Try.prog false (pickS t127 t131 (.bool false)) (fun t132 h_98 => 
                                                                                                                                CondP t132 (
                                                                                                                                  Hp Try.prog false (Instr.sliceAt 9 s0 (some t96) none none) (fun t135 h_99 => 
                                                                                                                                    CallsH Try.prog 92 #[t135, substr1] h_99 (fun t137 h_100 => 
                                                                                                                                      Hp Try.prog false (binS .lss 3 (.tmp 138) (.const (.int .i64 0)) t137 (.int .i64 0)) (fun t139 h_101 => 
                                                                                                                                        CondP t139 (
                                                                                                                                          R (.int .i64 (-1)) h_101) (
                                                                                                                                          Hp Try.prog false (binS .add 3 (.tmp 140) (.tmp 141) t96 t137) (fun t142 h_102 => 
                                                                                                                                            R t142 h_102) h_101 ⟨⟩) ⟨⟩ ⟨⟩) h_100 ⟨⟩) ⟨⟩) h_98 ⟨⟩) (
                                                                                                                                  X t96 t98 h_98) ⟨⟩ ⟨⟩) h_97 ⟨⟩) h_95 ⟨⟩ ⟨⟩) h_93 ⟨⟩ ⟨⟩) h_91 ⟨⟩ ⟨⟩) h_90 ⟨⟩) h_88 ⟨⟩ ⟨⟩) h_86 ⟨⟩ ⟨⟩) h_84 ⟨⟩ ⟨⟩) h_82 ⟨⟩ ⟨⟩) h_80 ⟨⟩ ⟨⟩) h_79 ⟨⟩) h_74 ⟨⟩) ⟨⟩ ⟨⟩) h_73 ⟨⟩) h_71 ⟨⟩ ⟨⟩) h_69 ⟨⟩ ⟨⟩) h_67 ⟨⟩ ⟨⟩) h_65 ⟨⟩ ⟨⟩) h_64 ⟨⟩) h_63 ⟨⟩) h_62 ⟨⟩) h_61 ⟨⟩) ⟨⟩ ⟨⟩) h_60 ⟨⟩) h_58 ⟨⟩ ⟨⟩) h_56 ⟨⟩ ⟨⟩) h_54 ⟨⟩ ⟨⟩) h_52 ⟨⟩ ⟨⟩) h_50 ⟨⟩ ⟨⟩) h_48 ⟨⟩ ⟨⟩) h_46 ⟨⟩ ⟨⟩) h_44 ⟨⟩ ⟨⟩) h_43 ⟨⟩) h_42 ⟨⟩) h_41 ⟨⟩) h_31 ⟨⟩ ⟨⟩) (
                                                        R (.int .i64 (-1)) h_31) ⟨⟩ ⟨⟩) h_30 ⟨⟩) [(.int .i64 0), (.int .i64 0)] h_29 ⟨⟩) h_28 ⟨⟩) h_27 ⟨⟩) h_26 ⟨⟩) h_25 ⟨⟩) h_23 ⟨⟩) ⟨⟩ ⟨⟩) h_22 ⟨⟩) h_20 ⟨⟩ ⟨⟩) h_18 ⟨⟩ ⟨⟩) h_16 ⟨⟩ ⟨⟩) h_15 ⟨⟩) h_14 ⟨⟩) ⟨⟩ ⟨⟩) h_13 ⟨⟩) h_10 ⟨⟩) ⟨⟩ ⟨⟩) h_9 ⟨⟩) ⟨⟩ ⟨⟩) h_8 ⟨⟩) h_6 ⟨⟩ ⟨⟩) h_4 ⟨⟩ ⟨⟩) h_2 ⟨⟩ ⟨⟩) h_1 ⟨⟩) h ⟨⟩

theorem n88_calls {s0 substr1 : Value} {R : Value → Heap → Prop} {h : Heap} (H : n88 s0 substr1 R h) : CallsH Try.prog 88 #[s0, substr1] h R ⟨⟩ :=
  callsH_of_eq Try.follow (.n none .l (.n none .l (.n none .l (.n none .l (.n none .l (.n none .l (.n none .l (.n none .l (.n none (.n none (.n (some [9, 11]) (.n none .l (.n none (.n (some [9]) .l .l) .l)) .l) .l) .l))))))))) Try.func88 (by kernel_rfl) (by kernel_rfl) (by kernel_rfl) H

/-- internal/stringslite.IndexByte -/
def n89 (s0 c1 : Value) (R : Value → Heap → Prop) (h : Heap) : Prop :=
  ExtH Try.prog 93 #[s0, c1] h (fun t7 h_1 => 
    R t7 h_1) ⟨⟩

theorem n89_calls {s0 c1 : Value} {R : Value → Heap → Prop} {h : Heap} (H : n89 s0 c1 R h) : CallsH Try.prog 89 #[s0, c1] h R ⟨⟩ :=
  callsH_of_eq Try.follow .l Try.func89 (by kernel_rfl) (by kernel_rfl) (by kernel_rfl) H

/-- internal/bytealg.Cutover -/
def n91 (n0 : Value) (R : Value → Heap → Prop) (h : Heap) : Prop :=
  Hp Try.prog false (binS .add 3 (.tmp 3) (.const (.int .i64 16)) n0 (.int .i64 16)) (fun t4 h_1 => 
    Hp Try.prog false (binS .quo 3 (.tmp 4) (.const (.int .i64 8)) t4 (.int .i64 8)) (fun t5 h_2 => 
      R t5 h_2) h_1 ⟨⟩) h ⟨⟩

theorem n91_calls {n0 : Value} {R : Value → Heap → Prop} {h : Heap} (H : n91 n0 R h) : CallsH Try.prog 91 #[n0] h R ⟨⟩ :=
  callsH_of_eq Try.follow .l Try.func91 (by kernel_rfl) (by kernel_rfl) (by kernel_rfl) H

/-- internal/bytealg.IndexRabinKarp[string] -/
def n92 (s0 sep1 : Value) (R : Value → Heap → Prop) (h : Heap) : Prop :=
  CallsH Try.prog 94 #[sep1] h (fun t13 h_1 => 
    Hp Try.prog false (Instr.extract t13 0) (fun t14 h_2 => 
      Hp Try.prog false (Instr.extract t13 1) (fun t15 h_3 => 
        Hp Try.prog false (Builtin.len_ #[9] 3 #[sep1]) (fun t17 h_4 => 
          LoopC 2 (fun (X : Value → Value → Heap → Prop) => fun h8 i9 h_5 =>
            Hp Try.prog false (binS .lss 3 (.tmp 18) (.tmp 19) i9 t17) (fun t20 h_6 => 
              CondP t20 (
                Hp Try.prog false (binS .mul 124 (.tmp 23) (.const (.int .u32 16777619)) h8 (.int .u32 16777619)) (fun t24 h_7 => 
                  Hp Try.prog false (Instr.index 9 s0 i9) (fun t27 h_8 => 
                    Hp Try.prog false (convert 5 124 t27) (fun t28 h_9 => 
                      Hp Try.prog false (binS .add 124 (.tmp 24) (.tmp 28) t24 t28) (fun t29 h_10 => 
                        Hp Try.prog false (binS .add 3 (.tmp 21) (.const (.int .i64 1)) i9 (.int .i64 1)) (fun t22 h_11 => 
                          X t29 t22 h_11) h_10 ⟨⟩) h_9 ⟨⟩) h_8 ⟨⟩) h_7 ⟨⟩) h_6 ⟨⟩) (
                Hp Try.prog false (binS .eql 124 (.tmp 30) (.tmp 31) h8 t14) (fun t32 h_12 => 
                  Join1 (fun k h_13 => guardP t32 true (k s0 h_13) (k undef h_13) ⟨⟩ ⟨⟩) (fun t34 h_14 => 
                    Join1 (fun k_1 h_15 => guardP t32 true (k_1 t17 h_15) (k_1 undef h_15) ⟨⟩ ⟨⟩) (fun t35 h_16 => 
                      Join1 (fun k_2 h_17 => guardP t32 true (Hp Try.prog false (Instr.sliceAt 9 t34 none (some t35) none) k_2 h_17 ⟨⟩) (k_2 undef h_17) ⟨⟩ ⟨⟩) (fun t36 h_18 => 
                        Join1 (fun k_3 h_19 => guardP t32 true (k_3 sep1 h_19) (k_3 undef h_19) ⟨⟩ ⟨⟩) (fun t37 h_20 => 
                          Join1 (fun k_4 h_21 => guardP t32 true (Hp Try.prog false (binS .eql 9 (.tmp 36) (.tmp 37) t36 t37) k_4 h_21 ⟨⟩) (k_4 undef h_21) ⟨⟩ ⟨⟩) (fun t38 h_22 => 
                            Hp Try.prog false (pickS t32 t38 (.bool false)) (fun t39 h_23 => 
                              CondP t39 (
                                R (.int .i64 0) h_23) (
                                LoopC 2 (fun (X_1 : Value → Value → Heap → Prop) => fun h8_1 i10 h_24 =>
                                  Hp Try.prog false (Builtin.len_ #[9] 3 #[s0]) (fun t43 h_25 => 
                                    Hp Try.prog false (binS .lss 3 (.tmp 41) (.tmp 43) i10 t43) (fun t44 h_26 => 
                                      CondP t44 (
                                        Hp Try.prog false (binS .mul 124 (.tmp 45) (.const (.int .u32 16777619)) h8_1 (.int .u32 16777619)) (fun t46 h_27 => 
                                          Hp Try.prog false (Instr.index 9 s0 i10) (fun t50 h_28 => 
                                            Hp Try.prog false (convert 5 124 t50) (fun t51 h_29 => 
                                              Hp Try.prog false (binS .add 124 (.tmp 47) (.tmp 51) t46 t51) (fun t52 h_30 => 
                                                Hp Try.prog false (binS .sub 3 (.tmp 56) (.tmp 57) i10 t17) (fun t58 h_31 => 
                                                  Hp Try.prog false (Instr.index 9 s0 t58) (fun t59 h_32 => 
                                                    Hp Try.prog false (convert 5 124 t59) (fun t60 h_33 => 
                                                      Hp Try.prog false (binS .mul 124 (.tmp 54) (.tmp 60) t15 t60) (fun t61 h_34 => 
                                                        Hp Try.prog false (binS .sub 124 (.tmp 53) (.tmp 61) t52 t61) (fun t62 h_35 => 
                                                          Hp Try.prog false (binS .add 3 (.tmp 63) (.const (.int .i64 1)) i10 (.int .i64 1)) (fun t64 h_36 => 
                                                            Hp Try.prog false (binS .eql 124 (.tmp 65) (.tmp 66) t62 t14) (fun t67 h_37 => 
                                                              Join1 (fun k_5 h_38 => guardP t67 true (k_5 s0 h_38) (k_5 undef h_38) ⟨⟩ ⟨⟩) (fun t69 h_39 => 
                                                                Join1 (fun k_6 h_40 => guardP t67 true (k_6 t64 h_40) (k_6 undef h_40) ⟨⟩ ⟨⟩) (fun t70 h_41 => 
                                                                  Join1 (fun k_7 h_42 => guardP t67 true (k_7 t17 h_42) (k_7 undef h_42) ⟨⟩ ⟨⟩) (fun t71 h_43 => 
                                                                    Join1 (fun k_8 h_44 => guardP t67 true (Hp Try.prog false (binS .sub 3 (.tmp 70) (.tmp 71) t70 t71) k_8 h_44 ⟨⟩) (k_8 undef h_44) ⟨⟩ ⟨⟩) (fun t72 h_45 => 
                                                                      Join1 (fun k_9 h_46 => guardP t67 true (k_9 t64 h_46) (k_9 undef h_46) ⟨⟩ ⟨⟩) (fun t73 h_47 => 
                                                                        Join1 (fun k_10 h_48 => guardP t67 true (Hp Try.prog false (Instr.sliceAt 9 t69 (some t72) (some t73) none) k_10 h_48 ⟨⟩) (k_10 undef h_48) ⟨⟩ ⟨⟩) (fun t74 h_49 => 
                                                                          Join1 (fun k_11 h_50 => guardP t67 true (k_11 sep1 h_50) (k_11 undef h_50) ⟨⟩ ⟨⟩) (fun t75 h_51 => 
                                                                            Join1 (fun k_12 h_52 => guardP t67 true (Hp Try.prog false (binS .eql 9 (.tmp 74) (.tmp 75) t74 t75) k_12 h_52 ⟨⟩) (k_12 undef h_52) ⟨⟩ ⟨⟩) (fun t76 h_53 => 
                                                                              Hp Try.prog false (pickS t67 t76 (.bool false)) (fun t77 h_54 => 
                                                                                CondP t77 (
                                                                                  Hp Try.prog false (binS .sub 3 (.tmp 78) (.tmp 79) t64 t17) (fun t80 h_55 => 
                                                                                    R t80 h_55) h_54 ⟨⟩) (
                                                                                  X_1 t62 t64 h_54) ⟨⟩ ⟨⟩) h_53 ⟨⟩) h_51 ⟨⟩ ⟨⟩) h_49 ⟨⟩ ⟨⟩) h_47 ⟨⟩ ⟨⟩) h_45 ⟨⟩ ⟨⟩) h_43 ⟨⟩ ⟨⟩) h_41 ⟨⟩ ⟨⟩) h_39 ⟨⟩ ⟨⟩) h_37 ⟨⟩ ⟨⟩) h_36 ⟨⟩) h_35 ⟨⟩) h_34 ⟨⟩) h_33 ⟨⟩) h_32 ⟨⟩) h_31 ⟨⟩) h_30 ⟨⟩) h_29 ⟨⟩) h_28 ⟨⟩) h_27 ⟨⟩) h_26 ⟨⟩) (
                                        R (.int .i64 (-1)) h_26) ⟨⟩ ⟨⟩) h_25 ⟨⟩) h_24 ⟨⟩) [h8, t17] h_23 ⟨⟩) ⟨⟩ ⟨⟩) h_22 ⟨⟩) h_20 ⟨⟩ ⟨⟩) h_18 ⟨⟩ ⟨⟩) h_16 ⟨⟩ ⟨⟩) h_14 ⟨⟩ ⟨⟩) h_12 ⟨⟩ ⟨⟩) h_6 ⟨⟩) ⟨⟩ ⟨⟩) h_5 ⟨⟩) [(.int .u32 0), (.int .i64 0)] h_4 ⟨⟩) h_3 ⟨⟩) h_2 ⟨⟩) h_1 ⟨⟩) ⟨⟩

theorem n92_calls {s0 sep1 : Value} {R : Value → Heap → Prop} {h : Heap} (H : n92 s0 sep1 R h) : CallsH Try.prog 92 #[s0, sep1] h R ⟨⟩ :=
  callsH_of_eq Try.follow (.n none .l (.n none .l (.n none .l (.n none .l (.n none (.n none .l (.n none (.n (some [9, 10]) .l .l) .l)) (.n none .l (.n none (.n none .l (.n none (.n (some [9, 11]) .l .l) .l)) .l))))))) Try.func92 (by kernel_rfl) (by kernel_rfl) (by kernel_rfl) H

/-- internal/bytealg.hashStr[string] -/
def n94 (sep0 : Value) (R : Value → Heap → Prop) (h : Heap) : Prop :=
  LoopC 2 (fun (X : Value → Value → Heap → Prop) => fun hash4 i5 h_1 =>
    Hp Try.prog false (Builtin.len_ #[9] 3 #[sep0]) (fun t11 h_2 => 
      Hp Try.prog false (binS .lss 3 (.tmp 9) (.tmp 11) i5 t11) (fun t12 h_3 => 
        CondP t12 (
          Hp Try.prog false (binS .mul 124 (.tmp 15) (.const (.int .u32 16777619)) hash4 (.int .u32 16777619)) (fun t16 h_4 => 
            Hp Try.prog false (Instr.index 9 sep0 i5) (fun t19 h_5 => 
              Hp Try.prog false (convert 5 124 t19) (fun t20 h_6 => 
                Hp Try.prog false (binS .add 124 (.tmp 16) (.tmp 20) t16 t20) (fun t21 h_7 => 
                  Hp Try.prog false (binS .add 3 (.tmp 13) (.const (.int .i64 1)) i5 (.int .i64 1)) (fun t14 h_8 => 
                    X t21 t14 h_8) h_7 ⟨⟩) h_6 ⟨⟩) h_5 ⟨⟩) h_4 ⟨⟩) h_3 ⟨⟩) (
          Hp Try.prog false (Builtin.len_ #[9] 3 #[sep0]) (fun t23 h_9 => 
            LoopC 3 (fun (X_1 : Value → Value → Value → Heap → Prop) => fun pow6 sq7 i8 h_10 =>
              Hp Try.prog false (binS .gtr 3 (.tmp 24) (.const (.int .i64 0)) i8 (.int .i64 0)) (fun t25 h_11 => 
                CondP t25 (
                  JoinN 1 (fun (k : Value → Heap → Prop) h_12 =>
                    Hp Try.prog false (binS .and 3 (.tmp 28) (.const (.int .i64 1)) i8 (.int .i64 1)) (fun t29 h_13 => 
                      Hp Try.prog false (binS .neq 3 (.tmp 29) (.const (.int .i64 0)) t29 (.int .i64 0)) (fun t30 h_14 => 
                        CondP t30 (
                          Hp Try.prog false (binS .mul 124 (.tmp 31) (.tmp 32) pow6 sq7) (fun t33 h_15 => 
                            k t33 h_15) h_14 ⟨⟩) (
                          k pow6 h_14) ⟨⟩ ⟨⟩) h_13 ⟨⟩) h_12 ⟨⟩)
                    (fun pow6_1 h_16 =>
                    Hp Try.prog false (binS .mul 124 (.tmp 34) (.tmp 35) sq7 sq7) (fun t36 h_17 => 
                      Hp Try.prog false (binS .shr 3 (.tmp 26) (.const (.int .u64 1)) i8 (.int .u64 1)) (fun t27 h_18 => 
                        X_1 pow6_1 t36 t27 h_18) h_17 ⟨⟩) h_16 ⟨⟩) h_11 ⟨⟩ ⟨⟩) (
                  R (.tuple #[hash4, pow6]) h_11) ⟨⟩ ⟨⟩) h_10 ⟨⟩) [(.int .u32 1), (.int .u32 16777619), t23] h_9 ⟨⟩) h_3 ⟨⟩) ⟨⟩ ⟨⟩) h_2 ⟨⟩) h_1 ⟨⟩) [(.int .u32 0), (.int .i64 0)] h ⟨⟩

theorem n94_calls {sep0 : Value} {R : Value → Heap → Prop} {h : Heap} (H : n94 sep0 R h) : CallsH Try.prog 94 #[sep0] h R ⟨⟩ :=
  callsH_of_eq Try.follow (.n none .l (.n none .l (.n none (.n none .l (.n none (.n (some [5, 6]) .l .l) .l)) (.n none .l (.n none (.n none .l (.n none (.n (some [7, 8, 9]) (.n none .l (.n none (.n none (.n (some [7]) .l .l) .l) .l)) .l) .l)) .l))))) Try.func94 (by kernel_rfl) (by kernel_rfl) (by kernel_rfl) H

end Go.Proofs.Ytgnmjcljljfldaa

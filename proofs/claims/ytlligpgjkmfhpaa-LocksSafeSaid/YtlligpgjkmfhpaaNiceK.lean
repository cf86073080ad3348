/- Printed by wip/tools/gen.py: the condition of each function, and that a call meets it. -/
import Derived.Test.YtlligpgjkmfhpaaVcFun
import Derived.Test.YtlligpgjkmfhpaaProg
set_option maxRecDepth 100000
set_option linter.unusedVariables false
namespace Go.Proofs.Ytlligpgjkmfhpaa
open Go.Vc

theorem Try.follow : Try.prog.follows .mixedOrders = true := by kernel_rfl

/-- palimpsest/locks.New -/
def n8 (R : Value → Heap → Prop) (h : Heap) : Prop :=
  Hp Try.prog false (Instr.makeMap 53 none) (fun t1 h_1 => 
    Hp Try.prog false (Instr.build 57 #[(0, t1)]) (fun t2 h_2 => 
      Hp Try.prog false (Instr.box 57 t2) (fun t3 h_3 => 
        R t3 h_3) h_2 ⟨⟩) h_1 ⟨⟩) h ⟨⟩

theorem n8_calls {R : Value → Heap → Prop} {h : Heap} (H : n8  R h) : CallsH Try.prog 8 #[] h R ⟨⟩ :=
  callsH_of_eq Try.follow .l Try.func8 (by kernel_rfl) (by kernel_rfl) (by kernel_rfl) H

/-- (*palimpsest/locks.Locks).Ask -/
def n10 (l0 x1 : Value) (R : Value → Heap → Prop) (h : Heap) : Prop :=
  Hp Try.prog false (Instr.box 29 x1) (fun x3 h_1 => 
    CallsH Try.prog 26 #[l0] h_1 (fun t11 h_2 => 
      CondP t11 (
        R (.tuple #[(.bool false), (.int .i64 1)]) h_2) (
        Hp Try.prog false (Instr.loadAt 29 x3) (fun t13 h_3 => 
          CallsH Try.prog 27 #[t13] h_3 (fun t14 h_4 => 
            Hp Try.prog false (Op.unary .not t14) (fun t15 h_5 => 
              CondP t15 (
                R (.tuple #[(.bool false), (.int .i64 2)]) h_5) (
                Hp Try.prog false (Instr.fieldAt 29 x3 0) (fun t18 h_6 => 
                  Hp Try.prog false (Instr.loadAt 3 t18) (fun t19 h_7 => 
                    CallsH Try.prog 28 #[l0, t19] h_7 (fun t20 h_8 => 
                      Hp Try.prog false (Instr.extract t20 0) (fun t21 h_9 => 
                        Hp Try.prog false (Instr.extract t20 1) (fun t22 h_10 => 
                          Hp Try.prog false (binS .neq 59 (.tmp 23) (.const (.pointer none)) t21 (.pointer none)) (fun t24 h_11 => 
                            CondP t24 (
                              R (.tuple #[(.bool false), (.int .i64 8)]) h_11) (
                              Hp Try.prog false (nilS l0) (fun t26 h_12 => 
                                Hp Try.prog false (Instr.fieldAt 57 t26 2) (fun t27 h_13 => 
                                  Hp Try.prog false (Instr.loadAt 3 t27) (fun t28 h_14 => 
                                    Hp Try.prog false (binS .add 3 (.tmp 28) (.const (.int .i64 1)) t28 (.int .i64 1)) (fun t29 h_15 => 
                                      Hp Try.prog false (nilS l0) (fun t30 h_16 => 
                                        Hp Try.prog false (Instr.fieldAt 57 t30 2) (fun t31 h_17 => 
                                          Hp Try.prog false (storeS 3 t31 t29) (fun _ h_18 => 
                                            Hp Try.prog true (Instr.loadAt 29 x3) (fun t32 _ => 
                                              Hp Try.prog true (nilS l0) (fun t34 _ => 
                                                Hp Try.prog true (Instr.fieldAt 57 t34 2) (fun t35 _ => 
                                                  Hp Try.prog true (Instr.loadAt 3 t35) (fun t36 _ => 
                                                    Hp Try.prog true (Instr.build 63 #[(0, t32), (1, t36)]) (fun t37 _ => 
                                                      Hp Try.prog false (Instr.box 63 t37) (fun t38 h_19 => 
                                                        CallsH Try.prog 29 #[l0, t38] h_19 (fun t41 h_20 => 
                                                          CondP t41 (
                                                            Hp Try.prog true (nilS l0) (fun t43 _ => 
                                                              Hp Try.prog true (Instr.fieldAt 57 t43 0) (fun t44 _ => 
                                                                Hp Try.prog true (Instr.loadAt 53 t44) (fun t45 _ => 
                                                                  Hp Try.prog true (Instr.fieldAt 29 x3 0) (fun t46 _ => 
                                                                    Hp Try.prog true (Instr.loadAt 3 t46) (fun t47 _ => 
                                                                      Hp Try.prog false (unitS (Instr.mapUpdate 53 t45 t47 t38)) (fun _ h_21 => 
                                                                        R (.tuple #[(.bool true), (.int .i64 0)]) h_21) h_20 ⟨⟩) h_20 ⟨⟩) #[] ⟨⟩) h_20 ⟨⟩) #[] ⟨⟩) #[] ⟨⟩) (
                                                            Hp Try.prog false (nilS l0) (fun t50 h_22 => 
                                                              Hp Try.prog false (Instr.fieldAt 57 t50 1) (fun t51 h_23 => 
                                                                Hp Try.prog false (Instr.makeInterface 66 t51) (fun t52 h_24 => 
                                                                  Hp Try.prog false (Instr.makeInterface 59 t38) (fun t54 h_25 => 
                                                                    CallsH Try.prog 30 #[t52, t54] h_25 (fun t55 h_26 => 
                                                                      R (.tuple #[(.bool false), (.int .i64 0)]) h_26) ⟨⟩) h_24 ⟨⟩) h_23 ⟨⟩) h_22 ⟨⟩) h_20 ⟨⟩) ⟨⟩ ⟨⟩) ⟨⟩) h_18 ⟨⟩) #[] ⟨⟩) h_18 ⟨⟩) #[] ⟨⟩) #[] ⟨⟩) h_18 ⟨⟩) h_17 ⟨⟩) h_16 ⟨⟩) h_15 ⟨⟩) h_14 ⟨⟩) h_13 ⟨⟩) h_12 ⟨⟩) h_11 ⟨⟩) ⟨⟩ ⟨⟩) h_10 ⟨⟩) h_9 ⟨⟩) h_8 ⟨⟩) ⟨⟩) h_6 ⟨⟩) h_5 ⟨⟩) ⟨⟩ ⟨⟩) h_4 ⟨⟩) ⟨⟩) h_2 ⟨⟩) ⟨⟩ ⟨⟩) ⟨⟩) h ⟨⟩

theorem n10_calls {l0 x1 : Value} {R : Value → Heap → Prop} {h : Heap} (H : n10 l0 x1 R h) : CallsH Try.prog 10 #[l0, x1] h R ⟨⟩ :=
  callsH_of_eq Try.follow .l Try.func10 (by kernel_rfl) (by kernel_rfl) (by kernel_rfl) H

/-- (*palimpsest/locks.Locks).Len -/
def n14 (l0 : Value) (R : Value → Heap → Prop) (h : Heap) : Prop :=
  CallsH Try.prog 26 #[l0] h (fun t5 h_1 => 
    CondP t5 (
      R (.tuple #[(.int .i64 0), (.int .i64 0)]) h_1) (
      Hp Try.prog true (nilS l0) (fun t7 _ => 
        Hp Try.prog true (Instr.fieldAt 57 t7 0) (fun t8 _ => 
          Hp Try.prog true (Instr.loadAt 53 t8) (fun t9 _ => 
            Hp Try.prog true (Builtin.len_ #[53] 3 #[t9]) (fun t10 _ => 
              Hp Try.prog true (nilS l0) (fun t12 _ => 
                Hp Try.prog true (Instr.fieldAt 57 t12 1) (fun t13 _ => 
                  Hp Try.prog true (Instr.loadAt 55 t13) (fun t14 _ => 
                    Hp Try.prog true (Builtin.len_ #[55] 3 #[t14]) (fun t15 _ => 
                      R (.tuple #[t10, t15]) h_1) #[] ⟨⟩) h_1 ⟨⟩) #[] ⟨⟩) #[] ⟨⟩) h_1 ⟨⟩) h_1 ⟨⟩) #[] ⟨⟩) #[] ⟨⟩) ⟨⟩ ⟨⟩) ⟨⟩

theorem n14_calls {l0 : Value} {R : Value → Heap → Prop} {h : Heap} (H : n14 l0 R h) : CallsH Try.prog 14 #[l0] h R ⟨⟩ :=
  callsH_of_eq Try.follow .l Try.func14 (by kernel_rfl) (by kernel_rfl) (by kernel_rfl) H

/-- (*palimpsest/locks.Locks).Upgrade -/
def n16 (l0 n1 : Value) (R : Value → Heap → Prop) (h : Heap) : Prop :=
  CallsH Try.prog 31 #[l0, n1] h (fun t12 h_1 => 
    Hp Try.prog false (Instr.extract t12 0) (fun t13 h_2 => 
      Hp Try.prog false (Instr.extract t12 1) (fun t14 h_3 => 
        Hp Try.prog false (Instr.extract t12 2) (fun t15 h_4 => 
          Hp Try.prog false (Instr.alloc 59 true undef) (fun r5 h_5 => 
            Hp Try.prog false (storeS 59 r5 t13) (fun _ h_6 => 
              Hp Try.prog false (binS .neq 31 (.tmp 17) (.const (.int .i64 0)) t15 (.int .i64 0)) (fun t18 h_7 => 
                CondP t18 (
                  R t15 h_7) (
                  CondP t14 (
                    R (.int .i64 10) h_7) (
                    Hp Try.prog false (Instr.loadAt 59 r5) (fun t22 h_8 => 
                      Hp Try.prog false (nilS t22) (fun t23 h_9 => 
                        Hp Try.prog false (Instr.loadAt 63 t23) (fun t24 h_10 => 
                          Hp Try.prog false (Instr.alloc 63 true undef) (fun alone8 h_11 => 
                            Hp Try.prog false (storeS 63 alone8 t24) (fun _ h_12 => 
                              Hp Try.prog false (Instr.fieldAt 63 alone8 0) (fun t25 h_13 => 
                                Hp Try.prog false (Instr.fieldAt 29 t25 3) (fun t26 h_14 => 
                                  Hp Try.prog false (storeS 4 t26 (.bool true)) (fun _ h_15 => 
                                    Hp Try.prog false (pure (.func (.func 33) #[] #[r5, alone8])) (fun t28 h_16 => 
                                      CallsH Try.prog 32 #[l0, t28] h_16 (fun t29 h_17 => 
                                        CondP t29 (
                                          R (.int .i64 10) h_17) (
                                          Hp Try.prog false (Instr.loadAt 59 r5) (fun t30 h_18 => 
                                            Hp Try.prog false (nilS t30) (fun t31 h_19 => 
                                              Hp Try.prog false (Instr.fieldAt 63 t31 0) (fun t32 h_20 => 
                                                Hp Try.prog false (Instr.fieldAt 29 t32 3) (fun t33 h_21 => 
                                                  Hp Try.prog false (storeS 4 t33 (.bool true)) (fun _ h_22 => 
                                                    R (.int .i64 0) h_22) h_21 ⟨⟩) h_20 ⟨⟩) h_19 ⟨⟩) h_18 ⟨⟩) h_17 ⟨⟩) ⟨⟩ ⟨⟩) ⟨⟩) h_15 ⟨⟩) h_14 ⟨⟩) h_13 ⟨⟩) h_12 ⟨⟩) h_11 ⟨⟩) h_10 ⟨⟩) h_9 ⟨⟩) h_8 ⟨⟩) h_7 ⟨⟩) ⟨⟩ ⟨⟩) ⟨⟩ ⟨⟩) h_6 ⟨⟩) h_5 ⟨⟩) h_4 ⟨⟩) h_3 ⟨⟩) h_2 ⟨⟩) h_1 ⟨⟩) ⟨⟩

theorem n16_calls {l0 n1 : Value} {R : Value → Heap → Prop} {h : Heap} (H : n16 l0 n1 R h) : CallsH Try.prog 16 #[l0, n1] h R ⟨⟩ :=
  callsH_of_eq Try.follow .l Try.func16 (by kernel_rfl) (by kernel_rfl) (by kernel_rfl) H

/-- (*palimpsest/locks.Locks).Done -/
def n17 (l0 n1 : Value) (R : Value → Heap → Prop) (h : Heap) : Prop :=
  CallsH Try.prog 31 #[l0, n1] h (fun t12 h_1 => 
    Hp Try.prog false (Instr.extract t12 0) (fun t13 h_2 => 
      Hp Try.prog false (Instr.extract t12 1) (fun t14 h_3 => 
        Hp Try.prog false (Instr.extract t12 2) (fun t15 h_4 => 
          JoinN 0 (fun (k : Heap → Prop) h_5 =>
            JoinN 0 (fun (k_1 : Heap → Prop) h_6 =>
              Hp Try.prog false (binS .neq 31 (.tmp 22) (.const (.int .i64 0)) t15 (.int .i64 0)) (fun t23 h_7 => 
                CondP t23 (
                  R (.tuple #[(.slice none 0 0), t15]) h_7) (
                  CondP t14 (
                    Hp Try.prog true (nilS l0) (fun t28 _ => 
                      Hp Try.prog true (Instr.fieldAt 57 t28 1) (fun t29 _ => 
                        Hp Try.prog true (Instr.makeInterface 66 t29) (fun t30 _ => 
                          Hp Try.prog true (nilS l0) (fun t32 _ => 
                            Hp Try.prog true (Instr.fieldAt 57 t32 1) (fun t33 _ => 
                              Hp Try.prog true (Instr.loadAt 55 t33) (fun t34 _ => 
                                CallsH Try.prog 36 #[t34, t13] h_7 (fun t36 h_8 => 
                                  CallsH Try.prog 35 #[t30, t36] h_8 (fun t37 h_9 => 
                                    k_1 h_9) ⟨⟩) ⟨⟩) h_7 ⟨⟩) #[] ⟨⟩) #[] ⟨⟩) #[] ⟨⟩) #[] ⟨⟩) #[] ⟨⟩) (
                    Hp Try.prog false (nilS l0) (fun t17 h_10 => 
                      Hp Try.prog false (Instr.fieldAt 57 t17 0) (fun t18 h_11 => 
                        Hp Try.prog false (Instr.loadAt 53 t18) (fun t19 h_12 => 
                          Hp Try.prog false (Builtin.delete_ #[53, 3] 0 #[t19, n1]) (fun _ h_13 => 
                            k_1 h_13) h_12 ⟨⟩) h_11 ⟨⟩) h_10 ⟨⟩) h_7 ⟨⟩) ⟨⟩ ⟨⟩) ⟨⟩ ⟨⟩) h_6 ⟨⟩)
              (fun h_14 =>
              k h_14) h_5 ⟨⟩ ⟨⟩)
            (fun h_15 =>
            CallsH Try.prog 37 #[l0] h_15 (fun t39 h_16 => 
              R (.tuple #[t39, (.int .i64 0)]) h_16) ⟨⟩) h_4 ⟨⟩ ⟨⟩) h_3 ⟨⟩) h_2 ⟨⟩) h_1 ⟨⟩) ⟨⟩

theorem n17_calls {l0 n1 : Value} {R : Value → Heap → Prop} {h : Heap} (H : n17 l0 n1 R h) : CallsH Try.prog 17 #[l0, n1] h R ⟨⟩ :=
  callsH_of_eq Try.follow (.n none .l (.n none .l (.n (some []) (.n (some []) .l .l) .l))) Try.func17 (by kernel_rfl) (by kernel_rfl) (by kernel_rfl) H

/-- (*palimpsest/locks.Locks).Downgrade -/
def n18 (l0 n1 : Value) (R : Value → Heap → Prop) (h : Heap) : Prop :=
  CallsH Try.prog 31 #[l0, n1] h (fun t12 h_1 => 
    Hp Try.prog false (Instr.extract t12 0) (fun t13 h_2 => 
      Hp Try.prog false (Instr.extract t12 1) (fun t14 h_3 => 
        Hp Try.prog false (Instr.extract t12 2) (fun t15 h_4 => 
          Hp Try.prog false (binS .neq 31 (.tmp 17) (.const (.int .i64 0)) t15 (.int .i64 0)) (fun t18 h_5 => 
            CondP t18 (
              R (.tuple #[(.slice none 0 0), t15]) h_5) (
              CondP t14 (
                R (.tuple #[(.slice none 0 0), (.int .i64 10)]) h_5) (
                Hp Try.prog false (nilS t13) (fun t23 h_6 => 
                  Hp Try.prog false (Instr.fieldAt 63 t23 0) (fun t24 h_7 => 
                    Hp Try.prog false (Instr.fieldAt 29 t24 3) (fun t25 h_8 => 
                      Hp Try.prog false (storeS 4 t25 (.bool false)) (fun _ h_9 => 
                        CallsH Try.prog 37 #[l0] h_9 (fun t27 h_10 => 
                          R (.tuple #[t27, (.int .i64 0)]) h_10) ⟨⟩) h_8 ⟨⟩) h_7 ⟨⟩) h_6 ⟨⟩) h_5 ⟨⟩) ⟨⟩ ⟨⟩) ⟨⟩ ⟨⟩) h_4 ⟨⟩) h_3 ⟨⟩) h_2 ⟨⟩) h_1 ⟨⟩) ⟨⟩

theorem n18_calls {l0 n1 : Value} {R : Value → Heap → Prop} {h : Heap} (H : n18 l0 n1 R h) : CallsH Try.prog 18 #[l0, n1] h R ⟨⟩ :=
  callsH_of_eq Try.follow .l Try.func18 (by kernel_rfl) (by kernel_rfl) (by kernel_rfl) H

/-- (*palimpsest/locks.Locks).Could -/
def n20 (l0 x1 : Value) (R : Value → Heap → Prop) (h : Heap) : Prop :=
  Hp Try.prog false (Instr.box 29 x1) (fun x3 h_1 => 
    CallsH Try.prog 26 #[l0] h_1 (fun t8 h_2 => 
      CondP t8 (
        R (.tuple #[(.bool false), (.int .i64 1)]) h_2) (
        Hp Try.prog false (Instr.loadAt 29 x3) (fun t10 h_3 => 
          CallsH Try.prog 27 #[t10] h_3 (fun t11 h_4 => 
            Hp Try.prog false (Op.unary .not t11) (fun t12 h_5 => 
              CondP t12 (
                R (.tuple #[(.bool false), (.int .i64 2)]) h_5) (
                Hp Try.prog false (Instr.loadAt 29 x3) (fun t14 h_6 => 
                  Hp Try.prog false (Instr.build 63 #[(0, t14)]) (fun t15 h_7 => 
                    Hp Try.prog false (Instr.box 63 t15) (fun t16 h_8 => 
                      CallsH Try.prog 29 #[l0, t16] h_8 (fun t17 h_9 => 
                        R (.tuple #[t17, (.int .i64 0)]) h_9) ⟨⟩) h_7 ⟨⟩) h_6 ⟨⟩) h_5 ⟨⟩) ⟨⟩ ⟨⟩) h_4 ⟨⟩) ⟨⟩) h_2 ⟨⟩) ⟨⟩ ⟨⟩) ⟨⟩) h ⟨⟩

theorem n20_calls {l0 x1 : Value} {R : Value → Heap → Prop} {h : Heap} (H : n20 l0 x1 R h) : CallsH Try.prog 20 #[l0, x1] h R ⟨⟩ :=
  callsH_of_eq Try.follow .l Try.func20 (by kernel_rfl) (by kernel_rfl) (by kernel_rfl) H

/-- (*palimpsest/locks.Locks).Holds -/
def n21 (l0 n1 : Value) (R : Value → Heap → Prop) (h : Heap) : Prop :=
  CallsH Try.prog 31 #[l0, n1] h (fun t12 h_1 => 
    Hp Try.prog false (Instr.extract t12 0) (fun t13 h_2 => 
      Hp Try.prog false (Instr.extract t12 1) (fun t14 h_3 => 
        Hp Try.prog false (Instr.extract t12 2) (fun t15 h_4 => 
          Hp Try.prog false (binS .eql 31 (.tmp 16) (.const (.int .i64 0)) t15 (.int .i64 0)) (fun t17 h_5 => 
            Join1 (fun k h_6 => guardP t17 true (k t14 h_6) (k undef h_6) ⟨⟩ ⟨⟩) (fun t19 h_7 => 
              Join1 (fun k_1 h_8 => guardP t17 true (Hp Try.prog false (Op.unary .not t19) k_1 h_8 ⟨⟩) (k_1 undef h_8) ⟨⟩ ⟨⟩) (fun t20 h_9 => 
                Hp Try.prog false (pickS t17 t20 (.bool false)) (fun t21 h_10 => 
                  R (.tuple #[t21, t15]) h_10) h_9 ⟨⟩) h_7 ⟨⟩ ⟨⟩) h_5 ⟨⟩ ⟨⟩) h_4 ⟨⟩) h_3 ⟨⟩) h_2 ⟨⟩) h_1 ⟨⟩) ⟨⟩

theorem n21_calls {l0 n1 : Value} {R : Value → Heap → Prop} {h : Heap} (H : n21 l0 n1 R h) : CallsH Try.prog 21 #[l0, n1] h R ⟨⟩ :=
  callsH_of_eq Try.follow .l Try.func21 (by kernel_rfl) (by kernel_rfl) (by kernel_rfl) H

/-- (*palimpsest/locks.Locks).For -/
def n22 (l0 n1 : Value) (R : Value → Heap → Prop) (h : Heap) : Prop :=
  CallsH Try.prog 31 #[l0, n1] h (fun t17 h_1 => 
    Hp Try.prog false (Instr.extract t17 0) (fun t18 h_2 => 
      Hp Try.prog false (Instr.extract t17 1) (fun t19 h_3 => 
        Hp Try.prog false (Instr.extract t17 2) (fun t20 h_4 => 
          Hp Try.prog false (binS .neq 31 (.tmp 21) (.const (.int .i64 0)) t20 (.int .i64 0)) (fun t22 h_5 => 
            Join1 (fun k h_6 => guardP t22 false (k t19 h_6) (k undef h_6) ⟨⟩ ⟨⟩) (fun t24 h_7 => 
              Join1 (fun k_1 h_8 => guardP t22 false (Hp Try.prog false (Op.unary .not t24) k_1 h_8 ⟨⟩) (k_1 undef h_8) ⟨⟩ ⟨⟩) (fun t25 h_9 => 
                Hp Try.prog false (pickS t22 (.bool true) t25) (fun t26 h_10 => 
                  CondP t26 (
                    R (.tuple #[(.slice none 0 0), t20]) h_10) (
                    Hp Try.prog false (nilS l0) (fun t29 h_11 => 
                      Hp Try.prog false (Instr.fieldAt 57 t29 0) (fun t30 h_12 => 
                        Hp Try.prog false (Instr.loadAt 53 t30) (fun t31 h_13 => 
                          Hp Try.prog false (Instr.range 53 t31) (fun t32 h_14 => 
                            LoopC 1 (fun (X : Value → Heap → Prop) => fun out9 h_15 =>
                              Hp Try.prog false (Instr.next t32 false 0) (fun t33 h_16 => 
                                Hp Try.prog false (Instr.extract t33 0) (fun t34 h_17 => 
                                  CondP t34 (
                                    JoinN 1 (fun (k_2 : Value → Heap → Prop) h_18 =>
                                      Hp Try.prog false (Instr.entry t32) (fun t35 h_19 => 
                                        Hp Try.prog false (Instr.extract t35 1) (fun t36 h_20 => 
                                          CallsH Try.prog 34 #[t18, t36] h_20 (fun t39 h_21 => 
                                            CondP t39 (
                                              Hp Try.prog false (nilS t36) (fun t42 h_22 => 
                                                Hp Try.prog false (Instr.fieldAt 63 t42 0) (fun t43 h_23 => 
                                                  Hp Try.prog false (Instr.fieldAt 29 t43 0) (fun t44 h_24 => 
                                                    Hp Try.prog false (Instr.loadAt 3 t44) (fun t45 h_25 => 
                                                      Hp Try.prog false (Instr.buildSlice 23 1 #[(0, t45)]) (fun t46 h_26 => 
                                                        Hp Try.prog false (Builtin.append_ #[23, 23] 23 #[out9, t46]) (fun t47 h_27 => 
                                                          k_2 t47 h_27) h_26 ⟨⟩) h_25 ⟨⟩) h_24 ⟨⟩) h_23 ⟨⟩) h_22 ⟨⟩) h_21 ⟨⟩) (
                                              k_2 out9 h_21) ⟨⟩ ⟨⟩) ⟨⟩) h_19 ⟨⟩) h_18 ⟨⟩)
                                      (fun out9_1 h_28 =>
                                      X out9_1 h_28) h_17 ⟨⟩ ⟨⟩) (
                                    Hp Try.prog false (nilS l0) (fun t49 h_29 => 
                                      Hp Try.prog false (Instr.fieldAt 57 t49 1) (fun t50 h_30 => 
                                        Hp Try.prog false (Instr.loadAt 55 t50) (fun t51 h_31 => 
                                          Hp Try.prog false (Builtin.len_ #[55] 3 #[t51]) (fun t52 h_32 => 
                                            LoopC 2 (fun (X_1 : Value → Value → Heap → Prop) => fun out9_2 t53 h_33 =>
                                              Hp Try.prog false (binS .lss 3 (.tmp 53) (.tmp 52) t53 t52) (fun t54 h_34 => 
                                                CondP t54 (
                                                  JoinN 1 (fun (k_3 : Value → Heap → Prop) h_35 =>
                                                    JoinN 1 (fun (k_4 : Value → Heap → Prop) h_36 =>
                                                      Hp Try.prog false (Instr.indexAt 55 t51 t53) (fun t55 h_37 => 
                                                        Hp Try.prog false (Instr.loadAt 59 t55) (fun t56 h_38 => 
                                                          Hp Try.prog true (nilS t56) (fun t58 _ => 
                                                            Hp Try.prog true (Instr.fieldAt 63 t58 1) (fun t59 _ => 
                                                              Hp Try.prog true (Instr.loadAt 3 t59) (fun t60 _ => 
                                                                Hp Try.prog true (nilS t18) (fun t62 _ => 
                                                                  Hp Try.prog true (Instr.fieldAt 63 t62 1) (fun t63 _ => 
                                                                    Hp Try.prog true (Instr.loadAt 3 t63) (fun t64 _ => 
                                                                      Hp Try.prog true (binS .lss 3 (.tmp 60) (.tmp 64) t60 t64) (fun t65 _ => 
                                                                        Join1 (fun k_5 h_39 => guardP t65 true (k_5 t18 h_39) (k_5 undef h_39) ⟨⟩ ⟨⟩) (fun t67 _ => 
                                                                          Join1 (fun k_6 h_40 => guardP t65 true (k_6 t56 h_40) (k_6 undef h_40) ⟨⟩ ⟨⟩) (fun t68 _ => 
                                                                            Join1 (fun k_7 h_41 => guardP t65 true (CallsH Try.prog 34 #[t67, t68] h_41 k_7 ⟨⟩) (k_7 undef h_41) ⟨⟩ ⟨⟩) (fun t69 h_42 => 
                                                                              Hp Try.prog true (pickS t65 t69 (.bool false)) (fun t70 _ => 
                                                                                CondP t70 (
                                                                                  Hp Try.prog false (nilS t56) (fun t73 h_43 => 
                                                                                    Hp Try.prog false (Instr.fieldAt 63 t73 0) (fun t74 h_44 => 
                                                                                      Hp Try.prog false (Instr.fieldAt 29 t74 0) (fun t75 h_45 => 
                                                                                        Hp Try.prog false (Instr.loadAt 3 t75) (fun t76 h_46 => 
                                                                                          Hp Try.prog false (Instr.buildSlice 23 1 #[(0, t76)]) (fun t77 h_47 => 
                                                                                            Hp Try.prog false (Builtin.append_ #[23, 23] 23 #[out9_2, t77]) (fun t78 h_48 => 
                                                                                              k_4 t78 h_48) h_47 ⟨⟩) h_46 ⟨⟩) h_45 ⟨⟩) h_44 ⟨⟩) h_43 ⟨⟩) h_42 ⟨⟩) (
                                                                                  k_4 out9_2 h_42) ⟨⟩ ⟨⟩) #[] ⟨⟩) h_38 ⟨⟩ ⟨⟩) #[] ⟨⟩ ⟨⟩) #[] ⟨⟩ ⟨⟩) #[] ⟨⟩) h_38 ⟨⟩) #[] ⟨⟩) #[] ⟨⟩) h_38 ⟨⟩) #[] ⟨⟩) #[] ⟨⟩) h_37 ⟨⟩) h_36 ⟨⟩)
                                                      (fun out9_3 h_49 =>
                                                      k_3 out9_3 h_49) h_35 ⟨⟩ ⟨⟩)
                                                    (fun out9_4 h_50 =>
                                                    Hp Try.prog false (binS .add 3 (.tmp 53) (.const (.int .i64 1)) t53 (.int .i64 1)) (fun t79 h_51 => 
                                                      X_1 out9_4 t79 h_51) h_50 ⟨⟩) h_34 ⟨⟩ ⟨⟩) (
                                                  CallsH Try.prog 38 #[out9_2] h_34 (fun t81 h_52 => 
                                                    R (.tuple #[out9_2, (.int .i64 0)]) h_52) ⟨⟩) ⟨⟩ ⟨⟩) h_33 ⟨⟩) [out9, (.int .i64 0)] h_32 ⟨⟩) h_31 ⟨⟩) h_30 ⟨⟩) h_29 ⟨⟩) h_17 ⟨⟩) ⟨⟩ ⟨⟩) h_16 ⟨⟩) h_15 ⟨⟩) [(.slice none 0 0)] h_14 ⟨⟩) h_13 ⟨⟩) h_12 ⟨⟩) h_11 ⟨⟩) h_10 ⟨⟩) ⟨⟩ ⟨⟩) h_9 ⟨⟩) h_7 ⟨⟩ ⟨⟩) h_5 ⟨⟩ ⟨⟩) h_4 ⟨⟩) h_3 ⟨⟩) h_2 ⟨⟩) h_1 ⟨⟩) ⟨⟩

theorem n22_calls {l0 n1 : Value} {R : Value → Heap → Prop} {h : Heap} (H : n22 l0 n1 R h) : CallsH Try.prog 22 #[l0, n1] h R ⟨⟩ :=
  callsH_of_eq Try.follow (.n none .l (.n none .l (.n none .l (.n none .l (.n none (.n none .l (.n none (.n (some [10]) (.n none .l (.n none .l (.n (some [10]) .l .l))) .l) .l)) (.n none (.n none .l (.n none (.n (some [10, 54]) (.n none .l (.n none .l (.n (some [10]) (.n (some [10]) .l .l) .l))) .l) .l)) .l)))))) Try.func22 (by kernel_rfl) (by kernel_rfl) (by kernel_rfl) H

/-- (*palimpsest/locks.Locks).Held -/
def n23 (l0 : Value) (R : Value → Heap → Prop) (h : Heap) : Prop :=
  JoinN 1 (fun (k : Value → Heap → Prop) h_1 =>
    CallsH Try.prog 26 #[l0] h_1 (fun t7 h_2 => 
      Hp Try.prog false (Op.unary .not t7) (fun t8 h_3 => 
        CondP t8 (
          Hp Try.prog false (nilS l0) (fun t10 h_4 => 
            Hp Try.prog false (Instr.fieldAt 57 t10 0) (fun t11 h_5 => 
              Hp Try.prog false (Instr.loadAt 53 t11) (fun t12 h_6 => 
                Hp Try.prog false (Instr.range 53 t12) (fun t13 h_7 => 
                  LoopC 1 (fun (X : Value → Heap → Prop) => fun out3 h_8 =>
                    Hp Try.prog false (Instr.next t13 false 0) (fun t14 h_9 => 
                      Hp Try.prog false (Instr.extract t14 0) (fun t15 h_10 => 
                        CondP t15 (
                          Hp Try.prog false (Instr.entry t13) (fun t16 h_11 => 
                            Hp Try.prog false (Instr.extract t16 1) (fun t17 h_12 => 
                              Hp Try.prog false (Instr.buildSlice 54 1 #[(0, t17)]) (fun t20 h_13 => 
                                Hp Try.prog false (Builtin.append_ #[54, 54] 54 #[out3, t20]) (fun t21 h_14 => 
                                  X t21 h_14) h_13 ⟨⟩) h_12 ⟨⟩) h_11 ⟨⟩) h_10 ⟨⟩) (
                          k out3 h_10) ⟨⟩ ⟨⟩) h_9 ⟨⟩) h_8 ⟨⟩) [(.slice none 0 0)] h_7 ⟨⟩) h_6 ⟨⟩) h_5 ⟨⟩) h_4 ⟨⟩) h_3 ⟨⟩) (
          k (.slice none 0 0) h_3) ⟨⟩ ⟨⟩) h_2 ⟨⟩) ⟨⟩)
    (fun out3_1 h_15 =>
    CallsH Try.prog 39 #[out3_1, (.func (.func 40) #[] #[])] h_15 (fun t23 h_16 => 
      R t23 h_16) ⟨⟩) h ⟨⟩ ⟨⟩

theorem n23_calls {l0 : Value} {R : Value → Heap → Prop} {h : Heap} (H : n23 l0 R h) : CallsH Try.prog 23 #[l0] h R ⟨⟩ :=
  callsH_of_eq Try.follow (.n none .l (.n none .l (.n (some [4]) (.n none .l (.n none (.n none .l (.n none (.n (some [4]) .l .l) .l)) .l)) .l))) Try.func23 (by kernel_rfl) (by kernel_rfl) (by kernel_rfl) H

/-- (*palimpsest/locks.Locks).Waiting -/
def n24 (l0 : Value) (R : Value → Heap → Prop) (h : Heap) : Prop :=
  JoinN 1 (fun (k : Value → Heap → Prop) h_1 =>
    CallsH Try.prog 26 #[l0] h_1 (fun t5 h_2 => 
      Hp Try.prog false (Op.unary .not t5) (fun t6 h_3 => 
        CondP t6 (
          Hp Try.prog false (nilS l0) (fun t8 h_4 => 
            Hp Try.prog false (Instr.fieldAt 57 t8 1) (fun t9 h_5 => 
              Hp Try.prog false (Instr.loadAt 55 t9) (fun t10 h_6 => 
                CallsH Try.prog 42 #[t10] h_6 (fun t11 h_7 => 
                  k t11 h_7) ⟨⟩) h_5 ⟨⟩) h_4 ⟨⟩) h_3 ⟨⟩) (
          k (.slice none 0 0) h_3) ⟨⟩ ⟨⟩) h_2 ⟨⟩) ⟨⟩)
    (fun out3 h_8 =>
    CallsH Try.prog 39 #[out3, (.func (.func 43) #[] #[])] h_8 (fun t13 h_9 => 
      R t13 h_9) ⟨⟩) h ⟨⟩ ⟨⟩

theorem n24_calls {l0 : Value} {R : Value → Heap → Prop} {h : Heap} (H : n24 l0 R h) : CallsH Try.prog 24 #[l0] h R ⟨⟩ :=
  callsH_of_eq Try.follow (.n none .l (.n none .l (.n (some [4]) .l .l))) Try.func24 (by kernel_rfl) (by kernel_rfl) (by kernel_rfl) H

/-- (*palimpsest/locks.Locks).none -/
def n26 (l0 : Value) (R : Value → Heap → Prop) (h : Heap) : Prop :=
  Hp Try.prog false (binS .eql 25 (.tmp 3) (.const (.pointer none)) l0 (.pointer none)) (fun t4 h_1 => 
    Join1 (fun k h_2 => guardP t4 false (k l0 h_2) (k undef h_2) ⟨⟩ ⟨⟩) (fun t6 h_3 => 
      Join1 (fun k_1 h_4 => guardP t4 false (Hp Try.prog false (nilS t6) k_1 h_4 ⟨⟩) (k_1 undef h_4) ⟨⟩ ⟨⟩) (fun t7 h_5 => 
        Join1 (fun k_2 h_6 => guardP t4 false (Hp Try.prog false (Instr.fieldAt 57 t7 0) k_2 h_6 ⟨⟩) (k_2 undef h_6) ⟨⟩ ⟨⟩) (fun t8 h_7 => 
          Join1 (fun k_3 h_8 => guardP t4 false (Hp Try.prog false (Instr.loadAt 53 t8) k_3 h_8 ⟨⟩) (k_3 undef h_8) ⟨⟩ ⟨⟩) (fun t9 h_9 => 
            Join1 (fun k_4 h_10 => guardP t4 false (Hp Try.prog false (binS .eql 53 (.tmp 9) (.const (.map none)) t9 (.map none)) k_4 h_10 ⟨⟩) (k_4 undef h_10) ⟨⟩ ⟨⟩) (fun t10 h_11 => 
              Hp Try.prog false (pickS t4 (.bool true) t10) (fun t11 h_12 => 
                R t11 h_12) h_11 ⟨⟩) h_9 ⟨⟩ ⟨⟩) h_7 ⟨⟩ ⟨⟩) h_5 ⟨⟩ ⟨⟩) h_3 ⟨⟩ ⟨⟩) h_1 ⟨⟩ ⟨⟩) h ⟨⟩

theorem n26_calls {l0 : Value} {R : Value → Heap → Prop} {h : Heap} (H : n26 l0 R h) : CallsH Try.prog 26 #[l0] h R ⟨⟩ :=
  callsH_of_eq Try.follow .l Try.func26 (by kernel_rfl) (by kernel_rfl) (by kernel_rfl) H

/-- palimpsest/locks.may -/
def n27 (x0 : Value) (R : Value → Heap → Prop) (h : Heap) : Prop :=
  Hp Try.prog false (Instr.box 29 x0) (fun x1 h_1 => 
    Hp Try.prog false (Instr.fieldAt 29 x1 0) (fun t3 h_2 => 
      Hp Try.prog false (Instr.loadAt 3 t3) (fun t4 h_3 => 
        CallsH Try.prog 44 #[t4] h_3 (fun t5 h_4 => 
          Join1 (fun k h_5 => guardP t5 true (Hp Try.prog false (Instr.fieldAt 29 x1 1) k h_5 ⟨⟩) (k undef h_5) ⟨⟩ ⟨⟩) (fun t7 h_6 => 
            Join1 (fun k_1 h_7 => guardP t5 true (Hp Try.prog false (Instr.loadAt 2 t7) k_1 h_7 ⟨⟩) (k_1 undef h_7) ⟨⟩ ⟨⟩) (fun t8 h_8 => 
              Join1 (fun k_2 h_9 => guardP t5 true (Hp Try.prog false (binS .geq 2 (.tmp 8) (.const (.int .i64 0)) t8 (.int .i64 0)) k_2 h_9 ⟨⟩) (k_2 undef h_9) ⟨⟩ ⟨⟩) (fun t9 h_10 => 
                Hp Try.prog false (pickS t5 t9 (.bool false)) (fun t10 h_11 => 
                  Join1 (fun k_3 h_12 => guardP t10 true (Hp Try.prog false (Instr.fieldAt 29 x1 2) k_3 h_12 ⟨⟩) (k_3 undef h_12) ⟨⟩ ⟨⟩) (fun t12 h_13 => 
                    Join1 (fun k_4 h_14 => guardP t10 true (Hp Try.prog false (Instr.loadAt 2 t12) k_4 h_14 ⟨⟩) (k_4 undef h_14) ⟨⟩ ⟨⟩) (fun t13 h_15 => 
                      Join1 (fun k_5 h_16 => guardP t10 true (Hp Try.prog false (binS .geq 2 (.tmp 13) (.const (.int .i64 0)) t13 (.int .i64 0)) k_5 h_16 ⟨⟩) (k_5 undef h_16) ⟨⟩ ⟨⟩) (fun t14 h_17 => 
                        Hp Try.prog false (pickS t10 t14 (.bool false)) (fun t15 h_18 => 
                          Join1 (fun k_6 h_19 => guardP t15 true (Hp Try.prog false (Instr.fieldAt 29 x1 1) k_6 h_19 ⟨⟩) (k_6 undef h_19) ⟨⟩ ⟨⟩) (fun t17 h_20 => 
                            Join1 (fun k_7 h_21 => guardP t15 true (Hp Try.prog false (Instr.loadAt 2 t17) k_7 h_21 ⟨⟩) (k_7 undef h_21) ⟨⟩ ⟨⟩) (fun t18 h_22 => 
                              Join1 (fun k_8 h_23 => guardP t15 true (Hp Try.prog false (binS .leq 2 (.tmp 18) (.const (.int .i64 72057594037927936)) t18 (.int .i64 72057594037927936)) k_8 h_23 ⟨⟩) (k_8 undef h_23) ⟨⟩ ⟨⟩) (fun t19 h_24 => 
                                Hp Try.prog false (pickS t15 t19 (.bool false)) (fun t20 h_25 => 
                                  Join1 (fun k_9 h_26 => guardP t20 true (Hp Try.prog false (Instr.fieldAt 29 x1 2) k_9 h_26 ⟨⟩) (k_9 undef h_26) ⟨⟩ ⟨⟩) (fun t22 h_27 => 
                                    Join1 (fun k_10 h_28 => guardP t20 true (Hp Try.prog false (Instr.loadAt 2 t22) k_10 h_28 ⟨⟩) (k_10 undef h_28) ⟨⟩ ⟨⟩) (fun t23 h_29 => 
                                      Join1 (fun k_11 h_30 => guardP t20 true (Hp Try.prog false (Instr.fieldAt 29 x1 1) k_11 h_30 ⟨⟩) (k_11 undef h_30) ⟨⟩ ⟨⟩) (fun t24 h_31 => 
                                        Join1 (fun k_12 h_32 => guardP t20 true (Hp Try.prog false (Instr.loadAt 2 t24) k_12 h_32 ⟨⟩) (k_12 undef h_32) ⟨⟩ ⟨⟩) (fun t25 h_33 => 
                                          Join1 (fun k_13 h_34 => guardP t20 true (Hp Try.prog false (binS .sub 2 (.const (.int .i64 72057594037927936)) (.tmp 25) (.int .i64 72057594037927936) t25) k_13 h_34 ⟨⟩) (k_13 undef h_34) ⟨⟩ ⟨⟩) (fun t26 h_35 => 
                                            Join1 (fun k_14 h_36 => guardP t20 true (Hp Try.prog false (binS .leq 2 (.tmp 23) (.tmp 26) t23 t26) k_14 h_36 ⟨⟩) (k_14 undef h_36) ⟨⟩ ⟨⟩) (fun t27 h_37 => 
                                              Hp Try.prog false (pickS t20 t27 (.bool false)) (fun t28 h_38 => 
                                                R t28 h_38) h_37 ⟨⟩) h_35 ⟨⟩ ⟨⟩) h_33 ⟨⟩ ⟨⟩) h_31 ⟨⟩ ⟨⟩) h_29 ⟨⟩ ⟨⟩) h_27 ⟨⟩ ⟨⟩) h_25 ⟨⟩ ⟨⟩) h_24 ⟨⟩) h_22 ⟨⟩ ⟨⟩) h_20 ⟨⟩ ⟨⟩) h_18 ⟨⟩ ⟨⟩) h_17 ⟨⟩) h_15 ⟨⟩ ⟨⟩) h_13 ⟨⟩ ⟨⟩) h_11 ⟨⟩ ⟨⟩) h_10 ⟨⟩) h_8 ⟨⟩ ⟨⟩) h_6 ⟨⟩ ⟨⟩) h_4 ⟨⟩ ⟨⟩) ⟨⟩) h_2 ⟨⟩) h_1 ⟨⟩) h ⟨⟩

theorem n27_calls {x0 : Value} {R : Value → Heap → Prop} {h : Heap} (H : n27 x0 R h) : CallsH Try.prog 27 #[x0] h R ⟨⟩ :=
  callsH_of_eq Try.follow .l Try.func27 (by kernel_rfl) (by kernel_rfl) (by kernel_rfl) H

/-- (*palimpsest/locks.Locks).find -/
def n28 (l0 n1 : Value) (R : Value → Heap → Prop) (h : Heap) : Prop :=
  Hp Try.prog false (Instr.box 3 n1) (fun n3 h_1 => 
    Hp Try.prog true (nilS l0) (fun t11 _ => 
      Hp Try.prog true (Instr.fieldAt 57 t11 0) (fun t12 _ => 
        Hp Try.prog true (Instr.loadAt 53 t12) (fun t13 _ => 
          Hp Try.prog true (Instr.loadAt 3 n3) (fun t14 _ => 
            Hp Try.prog true (Instr.lookup 53 t13 t14 true) (fun t15 _ => 
              Hp Try.prog true (Instr.extract t15 0) (fun t16 _ => 
                Hp Try.prog true (Instr.extract t15 1) (fun t17 _ => 
                  CondP t17 (
                    R (.tuple #[t16, (.bool false)]) h_1) (
                    Hp Try.prog false (nilS l0) (fun t21 h_2 => 
                      Hp Try.prog false (Instr.fieldAt 57 t21 1) (fun t22 h_3 => 
                        Hp Try.prog false (Instr.loadAt 55 t22) (fun t23 h_4 => 
                          Hp Try.prog false (pure (.func (.func 46) #[] #[n3])) (fun t24 h_5 => 
                            CallsH Try.prog 45 #[t23, t24] h_5 (fun t25 h_6 => 
                              Hp Try.prog false (binS .geq 3 (.tmp 26) (.const (.int .i64 0)) t25 (.int .i64 0)) (fun t27 h_7 => 
                                CondP t27 (
                                  Hp Try.prog false (nilS l0) (fun t29 h_8 => 
                                    Hp Try.prog false (Instr.fieldAt 57 t29 1) (fun t30 h_9 => 
                                      Hp Try.prog false (Instr.loadAt 55 t30) (fun t31 h_10 => 
                                        Hp Try.prog false (Instr.indexAt 55 t31 t25) (fun t33 h_11 => 
                                          Hp Try.prog false (Instr.loadAt 59 t33) (fun t34 h_12 => 
                                            R (.tuple #[t34, (.bool true)]) h_12) h_11 ⟨⟩) h_10 ⟨⟩) h_9 ⟨⟩) h_8 ⟨⟩) h_7 ⟨⟩) (
                                  R (.tuple #[(.pointer none), (.bool false)]) h_7) ⟨⟩ ⟨⟩) h_6 ⟨⟩) ⟨⟩) h_4 ⟨⟩) h_3 ⟨⟩) h_2 ⟨⟩) h_1 ⟨⟩) ⟨⟩ ⟨⟩) #[] ⟨⟩) #[] ⟨⟩) h_1 ⟨⟩) h_1 ⟨⟩) h_1 ⟨⟩) #[] ⟨⟩) #[] ⟨⟩) h ⟨⟩

theorem n28_calls {l0 n1 : Value} {R : Value → Heap → Prop} {h : Heap} (H : n28 l0 n1 R h) : CallsH Try.prog 28 #[l0, n1] h R ⟨⟩ :=
  callsH_of_eq Try.follow .l Try.func28 (by kernel_rfl) (by kernel_rfl) (by kernel_rfl) H

/-- (*palimpsest/locks.Locks).could -/
def n29 (l0 r1 : Value) (R : Value → Heap → Prop) (h : Heap) : Prop :=
  Hp Try.prog false (pure (.func (.func 34) #[r1] #[])) (fun t7 h_1 => 
    CallsH Try.prog 32 #[l0, t7] h_1 (fun t8 h_2 => 
      Hp Try.prog false (Op.unary .not t8) (fun t9 h_3 => 
        Join1 (fun k h_4 => guardP t9 true (k l0 h_4) (k undef h_4) ⟨⟩ ⟨⟩) (fun t11 h_5 => 
          Join1 (fun k_1 h_6 => guardP t9 true (Hp Try.prog false (nilS t11) k_1 h_6 ⟨⟩) (k_1 undef h_6) ⟨⟩ ⟨⟩) (fun t12 h_7 => 
            Join1 (fun k_2 h_8 => guardP t9 true (Hp Try.prog false (Instr.fieldAt 57 t12 1) k_2 h_8 ⟨⟩) (k_2 undef h_8) ⟨⟩ ⟨⟩) (fun t13 h_9 => 
              Join1 (fun k_3 h_10 => guardP t9 true (Hp Try.prog false (Instr.loadAt 55 t13) k_3 h_10 ⟨⟩) (k_3 undef h_10) ⟨⟩ ⟨⟩) (fun t14 h_11 => 
                Join1 (fun k_4 h_12 => guardP t9 true (k_4 r1 h_12) (k_4 undef h_12) ⟨⟩ ⟨⟩) (fun t15 h_13 => 
                  Join1 (fun k_5 h_14 => guardP t9 true (Hp Try.prog false (pure (.func (.func 34) #[t15] #[])) k_5 h_14 ⟨⟩) (k_5 undef h_14) ⟨⟩ ⟨⟩) (fun t16 h_15 => 
                    Join1 (fun k_6 h_16 => guardP t9 true (CallsH Try.prog 47 #[t14, t16] h_16 k_6 ⟨⟩) (k_6 undef h_16) ⟨⟩ ⟨⟩) (fun t17 h_17 => 
                      Join1 (fun k_7 h_18 => guardP t9 true (Hp Try.prog false (Op.unary .not t17) k_7 h_18 ⟨⟩) (k_7 undef h_18) ⟨⟩ ⟨⟩) (fun t18 h_19 => 
                        Hp Try.prog false (pickS t9 t18 (.bool false)) (fun t19 h_20 => 
                          R t19 h_20) h_19 ⟨⟩) h_17 ⟨⟩ ⟨⟩) h_15 ⟨⟩ ⟨⟩) h_13 ⟨⟩ ⟨⟩) h_11 ⟨⟩ ⟨⟩) h_9 ⟨⟩ ⟨⟩) h_7 ⟨⟩ ⟨⟩) h_5 ⟨⟩ ⟨⟩) h_3 ⟨⟩ ⟨⟩) h_2 ⟨⟩) ⟨⟩) h ⟨⟩

theorem n29_calls {l0 r1 : Value} {R : Value → Heap → Prop} {h : Heap} (H : n29 l0 r1 R h) : CallsH Try.prog 29 #[l0, r1] h R ⟨⟩ :=
  callsH_of_eq Try.follow .l Try.func29 (by kernel_rfl) (by kernel_rfl) (by kernel_rfl) H

/-- container/heap.Push -/
def n30 (h0 x1 : Value) (R : Value → Heap → Prop) (h : Heap) : Prop :=
  MethodH Try.prog h0 "Push" #[x1] h (fun t6 h_1 => 
    MethodH Try.prog h0 "Len" #[] h_1 (fun t9 h_2 => 
      Hp Try.prog false (binS .sub 3 (.tmp 9) (.const (.int .i64 1)) t9 (.int .i64 1)) (fun t10 h_3 => 
        CallsH Try.prog 48 #[h0, t10] h_3 (fun t11 h_4 => 
          R (.tuple #[]) h_4) ⟨⟩) h_2 ⟨⟩) ⟨⟩) ⟨⟩

theorem n30_calls {h0 x1 : Value} {R : Value → Heap → Prop} {h : Heap} (H : n30 h0 x1 R h) : CallsH Try.prog 30 #[h0, x1] h R ⟨⟩ :=
  callsH_of_eq Try.follow .l Try.func30 (by kernel_rfl) (by kernel_rfl) (by kernel_rfl) H

/-- (*palimpsest/locks.Locks).which -/
def n31 (l0 n1 : Value) (R : Value → Heap → Prop) (h : Heap) : Prop :=
  CallsH Try.prog 26 #[l0] h (fun t11 h_1 => 
    CondP t11 (
      R (.tuple #[(.pointer none), (.bool false), (.int .i64 1)]) h_1) (
      CallsH Try.prog 44 #[n1] h_1 (fun t14 h_2 => 
        Hp Try.prog false (Op.unary .not t14) (fun t15 h_3 => 
          CondP t15 (
            R (.tuple #[(.pointer none), (.bool false), (.int .i64 2)]) h_3) (
            CallsH Try.prog 28 #[l0, n1] h_3 (fun t19 h_4 => 
              Hp Try.prog false (Instr.extract t19 0) (fun t20 h_5 => 
                Hp Try.prog false (Instr.extract t19 1) (fun t21 h_6 => 
                  Hp Try.prog false (binS .eql 59 (.tmp 22) (.const (.pointer none)) t20 (.pointer none)) (fun t23 h_7 => 
                    CondP t23 (
                      R (.tuple #[(.pointer none), (.bool false), (.int .i64 7)]) h_7) (
                      R (.tuple #[t20, t21, (.int .i64 0)]) h_7) ⟨⟩ ⟨⟩) h_6 ⟨⟩) h_5 ⟨⟩) h_4 ⟨⟩) ⟨⟩) ⟨⟩ ⟨⟩) h_2 ⟨⟩) ⟨⟩) ⟨⟩ ⟨⟩) ⟨⟩

theorem n31_calls {l0 n1 : Value} {R : Value → Heap → Prop} {h : Heap} (H : n31 l0 n1 R h) : CallsH Try.prog 31 #[l0, n1] h R ⟨⟩ :=
  callsH_of_eq Try.follow .l Try.func31 (by kernel_rfl) (by kernel_rfl) (by kernel_rfl) H

/-- (*palimpsest/locks.Locks).holds -/
def n32 (l0 against1 : Value) (R : Value → Heap → Prop) (h : Heap) : Prop :=
  Hp Try.prog false (nilS l0) (fun t8 h_1 => 
    Hp Try.prog false (Instr.fieldAt 57 t8 0) (fun t9 h_2 => 
      Hp Try.prog false (Instr.loadAt 53 t9) (fun t10 h_3 => 
        Hp Try.prog false (Instr.range 53 t10) (fun t11 h_4 => 
          LoopC 0 (fun (X : Heap → Prop) => fun h_5 =>
            Hp Try.prog false (Instr.next t11 false 0) (fun t12 h_6 => 
              Hp Try.prog false (Instr.extract t12 0) (fun t13 h_7 => 
                CondP t13 (
                  Hp Try.prog false (Instr.entry t11) (fun t14 h_8 => 
                    Hp Try.prog false (Instr.extract t14 1) (fun t15 h_9 => 
                      InvokeH Try.prog against1 #[t15] h_9 (fun t18 h_10 => 
                        CondP t18 (
                          R (.bool true) h_10) (
                          X h_10) ⟨⟩ ⟨⟩) ⟨⟩) h_8 ⟨⟩) h_7 ⟨⟩) (
                  R (.bool false) h_7) ⟨⟩ ⟨⟩) h_6 ⟨⟩) h_5 ⟨⟩) [] h_4 ⟨⟩) h_3 ⟨⟩) h_2 ⟨⟩) h_1 ⟨⟩) h ⟨⟩

theorem n32_calls {l0 against1 : Value} {R : Value → Heap → Prop} {h : Heap} (H : n32 l0 against1 R h) : CallsH Try.prog 32 #[l0, against1] h R ⟨⟩ :=
  callsH_of_eq Try.follow (.n none .l (.n none (.n none .l (.n none (.n (some []) .l .l) .l)) .l)) Try.func32 (by kernel_rfl) (by kernel_rfl) (by kernel_rfl) H

/-- (*palimpsest/locks.Locks).Upgrade$1 -/
def n33 (o0 t1 t2 : Value) (R : Value → Heap → Prop) (h : Heap) : Prop :=
  Hp Try.prog false (Instr.loadAt 59 t1) (fun t6 h_1 => 
    Hp Try.prog false (binS .neq 59 (.tmp 5) (.tmp 6) o0 t6) (fun t7 h_2 => 
      Join1 (fun k h_3 => guardP t7 true (k o0 h_3) (k undef h_3) ⟨⟩ ⟨⟩) (fun t9 h_4 => 
        Join1 (fun k_1 h_5 => guardP t7 true (CallsH Try.prog 34 #[t2, t9] h_5 k_1 ⟨⟩) (k_1 undef h_5) ⟨⟩ ⟨⟩) (fun t10 h_6 => 
          Hp Try.prog false (pickS t7 t10 (.bool false)) (fun t11 h_7 => 
            R t11 h_7) h_6 ⟨⟩) h_4 ⟨⟩ ⟨⟩) h_2 ⟨⟩ ⟨⟩) h_1 ⟨⟩) h ⟨⟩

theorem n33_calls {o0 t1 t2 : Value} {R : Value → Heap → Prop} {h : Heap} (H : n33 o0 t1 t2 R h) : CallsH Try.prog 33 #[o0, t1, t2] h R ⟨⟩ :=
  callsH_of_eq Try.follow .l Try.func33 (by kernel_rfl) (by kernel_rfl) (by kernel_rfl) H

/-- (*palimpsest/locks.request).against -/
def n34 (r0 o1 : Value) (R : Value → Heap → Prop) (h : Heap) : Prop :=
  Hp Try.prog false (binS .neq 59 (.tmp 5) (.tmp 6) r0 o1) (fun t7 h_1 => 
    Join1 (fun k h_2 => guardP t7 true (k r0 h_2) (k undef h_2) ⟨⟩ ⟨⟩) (fun t9 _ => 
      Join1 (fun k_1 h_3 => guardP t7 true (Hp Try.prog true (nilS t9) k_1 h_3 ⟨⟩) (k_1 undef h_3) ⟨⟩ ⟨⟩) (fun t10 _ => 
        Join1 (fun k_2 h_4 => guardP t7 true (Hp Try.prog true (Instr.fieldAt 63 t10 0) k_2 h_4 ⟨⟩) (k_2 undef h_4) ⟨⟩ ⟨⟩) (fun t11 _ => 
          Join1 (fun k_3 h_5 => guardP t7 true (Hp Try.prog true (Instr.fieldAt 29 t11 3) k_3 h_5 ⟨⟩) (k_3 undef h_5) ⟨⟩ ⟨⟩) (fun t12 _ => 
            Join1 (fun k_4 h_6 => guardP t7 true (Hp Try.prog true (Instr.loadAt 4 t12) k_4 h_6 ⟨⟩) (k_4 undef h_6) ⟨⟩ ⟨⟩) (fun t13 _ => 
              Join1 (fun k_5 h_7 => guardP t7 true (k_5 t13 h_7) (k_5 undef h_7) ⟨⟩ ⟨⟩) (fun t14 _ => 
                Join1 (fun k_6 h_8 => guardP t14 false (k_6 o1 h_8) (k_6 undef h_8) ⟨⟩ ⟨⟩) (fun t15 _ => 
                  Join1 (fun k_7 h_9 => guardP t14 false (Hp Try.prog true (nilS t15) k_7 h_9 ⟨⟩) (k_7 undef h_9) ⟨⟩ ⟨⟩) (fun t16 _ => 
                    Join1 (fun k_8 h_10 => guardP t14 false (Hp Try.prog true (Instr.fieldAt 63 t16 0) k_8 h_10 ⟨⟩) (k_8 undef h_10) ⟨⟩ ⟨⟩) (fun t17 _ => 
                      Join1 (fun k_9 h_11 => guardP t14 false (Hp Try.prog true (Instr.fieldAt 29 t17 3) k_9 h_11 ⟨⟩) (k_9 undef h_11) ⟨⟩ ⟨⟩) (fun t18 _ => 
                        Join1 (fun k_10 h_12 => guardP t14 false (Hp Try.prog true (Instr.loadAt 4 t18) k_10 h_12 ⟨⟩) (k_10 undef h_12) ⟨⟩ ⟨⟩) (fun t19 _ => 
                          Join1 (fun k_11 h_13 => guardP t7 true (Hp Try.prog true (pickS t14 (.bool true) t19) k_11 h_13 ⟨⟩) (k_11 undef h_13) ⟨⟩ ⟨⟩) (fun t20 _ => 
                            Hp Try.prog true (pickS t7 t20 (.bool false)) (fun t21 _ => 
                              Join1 (fun k_12 h_14 => guardP t21 true (k_12 r0 h_14) (k_12 undef h_14) ⟨⟩ ⟨⟩) (fun t23 _ => 
                                Join1 (fun k_13 h_15 => guardP t21 true (Hp Try.prog true (nilS t23) k_13 h_15 ⟨⟩) (k_13 undef h_15) ⟨⟩ ⟨⟩) (fun t24 _ => 
                                  Join1 (fun k_14 h_16 => guardP t21 true (Hp Try.prog true (Instr.fieldAt 63 t24 0) k_14 h_16 ⟨⟩) (k_14 undef h_16) ⟨⟩ ⟨⟩) (fun t25 _ => 
                                    Join1 (fun k_15 h_17 => guardP t21 true (Hp Try.prog true (Instr.fieldAt 29 t25 1) k_15 h_17 ⟨⟩) (k_15 undef h_17) ⟨⟩ ⟨⟩) (fun t26 _ => 
                                      Join1 (fun k_16 h_18 => guardP t21 true (Hp Try.prog true (Instr.loadAt 2 t26) k_16 h_18 ⟨⟩) (k_16 undef h_18) ⟨⟩ ⟨⟩) (fun t27 _ => 
                                        Join1 (fun k_17 h_19 => guardP t21 true (k_17 o1 h_19) (k_17 undef h_19) ⟨⟩ ⟨⟩) (fun t28 _ => 
                                          Join1 (fun k_18 h_20 => guardP t21 true (Hp Try.prog true (nilS t28) k_18 h_20 ⟨⟩) (k_18 undef h_20) ⟨⟩ ⟨⟩) (fun t29 _ => 
                                            Join1 (fun k_19 h_21 => guardP t21 true (Hp Try.prog true (Instr.fieldAt 63 t29 0) k_19 h_21 ⟨⟩) (k_19 undef h_21) ⟨⟩ ⟨⟩) (fun t30 _ => 
                                              Join1 (fun k_20 h_22 => guardP t21 true (Hp Try.prog true (Instr.fieldAt 29 t30 1) k_20 h_22 ⟨⟩) (k_20 undef h_22) ⟨⟩ ⟨⟩) (fun t31 _ => 
                                                Join1 (fun k_21 h_23 => guardP t21 true (Hp Try.prog true (Instr.loadAt 2 t31) k_21 h_23 ⟨⟩) (k_21 undef h_23) ⟨⟩ ⟨⟩) (fun t32 _ => 
                                                  Join1 (fun k_22 h_24 => guardP t21 true (Hp Try.prog true (Builtin.max_ #[2, 2] 2 #[t27, t32]) k_22 h_24 ⟨⟩) (k_22 undef h_24) ⟨⟩ ⟨⟩) (fun t33 _ => 
                                                    Join1 (fun k_23 h_25 => guardP t21 true (k_23 r0 h_25) (k_23 undef h_25) ⟨⟩ ⟨⟩) (fun t34 _ => 
                                                      Join1 (fun k_24 h_26 => guardP t21 true (Hp Try.prog true (nilS t34) k_24 h_26 ⟨⟩) (k_24 undef h_26) ⟨⟩ ⟨⟩) (fun t35 _ => 
                                                        Join1 (fun k_25 h_27 => guardP t21 true (Hp Try.prog true (Instr.fieldAt 63 t35 0) k_25 h_27 ⟨⟩) (k_25 undef h_27) ⟨⟩ ⟨⟩) (fun t36 _ => 
                                                          Join1 (fun k_26 h_28 => guardP t21 true (Hp Try.prog true (Instr.fieldAt 29 t36 1) k_26 h_28 ⟨⟩) (k_26 undef h_28) ⟨⟩ ⟨⟩) (fun t37 _ => 
                                                            Join1 (fun k_27 h_29 => guardP t21 true (Hp Try.prog true (Instr.loadAt 2 t37) k_27 h_29 ⟨⟩) (k_27 undef h_29) ⟨⟩ ⟨⟩) (fun t38 _ => 
                                                              Join1 (fun k_28 h_30 => guardP t21 true (k_28 r0 h_30) (k_28 undef h_30) ⟨⟩ ⟨⟩) (fun t39 _ => 
                                                                Join1 (fun k_29 h_31 => guardP t21 true (Hp Try.prog true (nilS t39) k_29 h_31 ⟨⟩) (k_29 undef h_31) ⟨⟩ ⟨⟩) (fun t40 _ => 
                                                                  Join1 (fun k_30 h_32 => guardP t21 true (Hp Try.prog true (Instr.fieldAt 63 t40 0) k_30 h_32 ⟨⟩) (k_30 undef h_32) ⟨⟩ ⟨⟩) (fun t41 _ => 
                                                                    Join1 (fun k_31 h_33 => guardP t21 true (Hp Try.prog true (Instr.fieldAt 29 t41 2) k_31 h_33 ⟨⟩) (k_31 undef h_33) ⟨⟩ ⟨⟩) (fun t42 _ => 
                                                                      Join1 (fun k_32 h_34 => guardP t21 true (Hp Try.prog true (Instr.loadAt 2 t42) k_32 h_34 ⟨⟩) (k_32 undef h_34) ⟨⟩ ⟨⟩) (fun t43 _ => 
                                                                        Join1 (fun k_33 h_35 => guardP t21 true (Hp Try.prog true (binS .add 2 (.tmp 38) (.tmp 43) t38 t43) k_33 h_35 ⟨⟩) (k_33 undef h_35) ⟨⟩ ⟨⟩) (fun t44 _ => 
                                                                          Join1 (fun k_34 h_36 => guardP t21 true (k_34 o1 h_36) (k_34 undef h_36) ⟨⟩ ⟨⟩) (fun t45 _ => 
                                                                            Join1 (fun k_35 h_37 => guardP t21 true (Hp Try.prog true (nilS t45) k_35 h_37 ⟨⟩) (k_35 undef h_37) ⟨⟩ ⟨⟩) (fun t46 _ => 
                                                                              Join1 (fun k_36 h_38 => guardP t21 true (Hp Try.prog true (Instr.fieldAt 63 t46 0) k_36 h_38 ⟨⟩) (k_36 undef h_38) ⟨⟩ ⟨⟩) (fun t47 _ => 
                                                                                Join1 (fun k_37 h_39 => guardP t21 true (Hp Try.prog true (Instr.fieldAt 29 t47 1) k_37 h_39 ⟨⟩) (k_37 undef h_39) ⟨⟩ ⟨⟩) (fun t48 _ => 
                                                                                  Join1 (fun k_38 h_40 => guardP t21 true (Hp Try.prog true (Instr.loadAt 2 t48) k_38 h_40 ⟨⟩) (k_38 undef h_40) ⟨⟩ ⟨⟩) (fun t49 _ => 
                                                                                    Join1 (fun k_39 h_41 => guardP t21 true (k_39 o1 h_41) (k_39 undef h_41) ⟨⟩ ⟨⟩) (fun t50 _ => 
                                                                                      Join1 (fun k_40 h_42 => guardP t21 true (Hp Try.prog true (nilS t50) k_40 h_42 ⟨⟩) (k_40 undef h_42) ⟨⟩ ⟨⟩) (fun t51 _ => 
                                                                                        Join1 (fun k_41 h_43 => guardP t21 true (Hp Try.prog true (Instr.fieldAt 63 t51 0) k_41 h_43 ⟨⟩) (k_41 undef h_43) ⟨⟩ ⟨⟩) (fun t52 _ => 
                                                                                          Join1 (fun k_42 h_44 => guardP t21 true (Hp Try.prog true (Instr.fieldAt 29 t52 2) k_42 h_44 ⟨⟩) (k_42 undef h_44) ⟨⟩ ⟨⟩) (fun t53 _ => 
                                                                                            Join1 (fun k_43 h_45 => guardP t21 true (Hp Try.prog true (Instr.loadAt 2 t53) k_43 h_45 ⟨⟩) (k_43 undef h_45) ⟨⟩ ⟨⟩) (fun t54 _ => 
                                                                                              Join1 (fun k_44 h_46 => guardP t21 true (Hp Try.prog true (binS .add 2 (.tmp 49) (.tmp 54) t49 t54) k_44 h_46 ⟨⟩) (k_44 undef h_46) ⟨⟩ ⟨⟩) (fun t55 _ => 
                                                                                                Join1 (fun k_45 h_47 => guardP t21 true (Hp Try.prog true (Builtin.min_ #[2, 2] 2 #[t44, t55]) k_45 h_47 ⟨⟩) (k_45 undef h_47) ⟨⟩ ⟨⟩) (fun t56 _ => 
                                                                                                  Join1 (fun k_46 h_48 => guardP t21 true (Hp Try.prog true (binS .lss 2 (.tmp 33) (.tmp 56) t33 t56) k_46 h_48 ⟨⟩) (k_46 undef h_48) ⟨⟩ ⟨⟩) (fun t57 _ => 
                                                                                                    Hp Try.prog true (pickS t21 t57 (.bool false)) (fun t58 _ => 
                                                                                                      R t58 h_1) #[] ⟨⟩) #[] ⟨⟩ ⟨⟩) #[] ⟨⟩ ⟨⟩) #[] ⟨⟩ ⟨⟩) h_1 ⟨⟩ ⟨⟩) #[] ⟨⟩ ⟨⟩) #[] ⟨⟩ ⟨⟩) #[] ⟨⟩ ⟨⟩) #[] ⟨⟩ ⟨⟩) h_1 ⟨⟩ ⟨⟩) #[] ⟨⟩ ⟨⟩) #[] ⟨⟩ ⟨⟩) #[] ⟨⟩ ⟨⟩) #[] ⟨⟩ ⟨⟩) #[] ⟨⟩ ⟨⟩) h_1 ⟨⟩ ⟨⟩) #[] ⟨⟩ ⟨⟩) #[] ⟨⟩ ⟨⟩) #[] ⟨⟩ ⟨⟩) #[] ⟨⟩ ⟨⟩) h_1 ⟨⟩ ⟨⟩) #[] ⟨⟩ ⟨⟩) #[] ⟨⟩ ⟨⟩) #[] ⟨⟩ ⟨⟩) #[] ⟨⟩ ⟨⟩) #[] ⟨⟩ ⟨⟩) h_1 ⟨⟩ ⟨⟩) #[] ⟨⟩ ⟨⟩) #[] ⟨⟩ ⟨⟩) #[] ⟨⟩ ⟨⟩) #[] ⟨⟩ ⟨⟩) h_1 ⟨⟩ ⟨⟩) #[] ⟨⟩ ⟨⟩) #[] ⟨⟩ ⟨⟩) #[] ⟨⟩ ⟨⟩) #[] ⟨⟩ ⟨⟩) #[] ⟨⟩) #[] ⟨⟩ ⟨⟩) h_1 ⟨⟩ ⟨⟩) #[] ⟨⟩ ⟨⟩) #[] ⟨⟩ ⟨⟩) #[] ⟨⟩ ⟨⟩) #[] ⟨⟩ ⟨⟩) #[] ⟨⟩ ⟨⟩) h_1 ⟨⟩ ⟨⟩) #[] ⟨⟩ ⟨⟩) #[] ⟨⟩ ⟨⟩) #[] ⟨⟩ ⟨⟩) #[] ⟨⟩ ⟨⟩) h ⟨⟩

theorem n34_calls {r0 o1 : Value} {R : Value → Heap → Prop} {h : Heap} (H : n34 r0 o1 R h) : CallsH Try.prog 34 #[r0, o1] h R ⟨⟩ :=
  callsH_of_eq Try.follow .l Try.func34 (by kernel_rfl) (by kernel_rfl) (by kernel_rfl) H

/-- container/heap.Remove -/
def n35 (h0 i1 : Value) (R : Value → Heap → Prop) (h : Heap) : Prop :=
  MethodH Try.prog h0 "Len" #[] h (fun t7 h_1 => 
    Hp Try.prog false (binS .sub 3 (.tmp 7) (.const (.int .i64 1)) t7 (.int .i64 1)) (fun t8 h_2 => 
      JoinN 0 (fun (k : Heap → Prop) h_3 =>
        Hp Try.prog false (binS .neq 3 (.tmp 9) (.tmp 10) t8 i1) (fun t11 h_4 => 
          CondP t11 (
            MethodH Try.prog h0 "Swap" #[i1, t8] h_4 (fun t15 h_5 => 
              CallsH Try.prog 49 #[h0, i1, t8] h_5 (fun t19 h_6 => 
                Hp Try.prog false (Op.unary .not t19) (fun t20 h_7 => 
                  CondP t20 (
                    CallsH Try.prog 48 #[h0, i1] h_7 (fun t23 h_8 => 
                      k h_8) ⟨⟩) (
                    k h_7) ⟨⟩ ⟨⟩) h_6 ⟨⟩) ⟨⟩) ⟨⟩) (
            k h_4) ⟨⟩ ⟨⟩) h_3 ⟨⟩)
        (fun h_9 =>
        MethodH Try.prog h0 "Pop" #[] h_9 (fun t25 h_10 => 
          R t25 h_10) ⟨⟩) h_2 ⟨⟩ ⟨⟩) h_1 ⟨⟩) ⟨⟩

theorem n35_calls {h0 i1 : Value} {R : Value → Heap → Prop} {h : Heap} (H : n35 h0 i1 R h) : CallsH Try.prog 35 #[h0, i1] h R ⟨⟩ :=
  callsH_of_eq Try.follow (.n none .l (.n none .l (.n (some []) .l .l))) Try.func35 (by kernel_rfl) (by kernel_rfl) (by kernel_rfl) H

/-- slices.Index[palimpsest/locks.line,*palimpsest/locks.request] -/
def n36 (s0 v1 : Value) (R : Value → Heap → Prop) (h : Heap) : Prop :=
  Hp Try.prog false (Builtin.len_ #[55] 3 #[s0]) (fun t7 h_1 => 
    LoopC 1 (fun (X : Value → Heap → Prop) => fun t8 h_2 =>
      Hp Try.prog false (binS .lss 3 (.tmp 8) (.tmp 7) t8 t7) (fun t9 h_3 => 
        CondP t9 (
          Hp Try.prog false (Instr.indexAt 55 s0 t8) (fun t14 h_4 => 
            Hp Try.prog false (Instr.loadAt 59 t14) (fun t15 h_5 => 
              Hp Try.prog false (binS .eql 59 (.tmp 11) (.tmp 15) v1 t15) (fun t16 h_6 => 
                CondP t16 (
                  R t8 h_6) (
                  Hp Try.prog false (binS .add 3 (.tmp 8) (.const (.int .i64 1)) t8 (.int .i64 1)) (fun t18 h_7 => 
                    X t18 h_7) h_6 ⟨⟩) ⟨⟩ ⟨⟩) h_5 ⟨⟩) h_4 ⟨⟩) h_3 ⟨⟩) (
          R (.int .i64 (-1)) h_3) ⟨⟩ ⟨⟩) h_2 ⟨⟩) [(.int .i64 0)] h_1 ⟨⟩) h ⟨⟩

theorem n36_calls {s0 v1 : Value} {R : Value → Heap → Prop} {h : Heap} (H : n36 s0 v1 R h) : CallsH Try.prog 36 #[s0, v1] h R ⟨⟩ :=
  callsH_of_eq Try.follow (.n none .l (.n none (.n none .l (.n none (.n (some [9]) .l .l) .l)) .l)) Try.func36 (by kernel_rfl) (by kernel_rfl) (by kernel_rfl) H

/-- (*palimpsest/locks.Locks).goOn -/
def n37 (l0 : Value) (R : Value → Heap → Prop) (h : Heap) : Prop :=
  LoopC 2 (fun (X : Value → Value → Heap → Prop) => fun out3 left4 h_1 =>
    Hp Try.prog false (nilS l0) (fun t7 h_2 => 
      Hp Try.prog false (Instr.fieldAt 57 t7 1) (fun t8 h_3 => 
        Hp Try.prog false (Instr.loadAt 55 t8) (fun t9 h_4 => 
          CallsH Try.prog 50 #[t9] h_4 (fun t10 h_5 => 
            Hp Try.prog false (binS .gtr 3 (.tmp 10) (.const (.int .i64 0)) t10 (.int .i64 0)) (fun t11 h_6 => 
              CondP t11 (
                JoinN 2 (fun (k : Value → Value → Heap → Prop) h_7 =>
                  Hp Try.prog false (nilS l0) (fun t13 h_8 => 
                    Hp Try.prog false (Instr.fieldAt 57 t13 1) (fun t14 h_9 => 
                      Hp Try.prog false (Instr.makeInterface 66 t14) (fun t15 h_10 => 
                        CallsH Try.prog 51 #[t15] h_10 (fun t16 h_11 => 
                          Hp Try.prog false (Instr.typeAssert t16 20 59 false) (fun t17 h_12 => 
                            Hp Try.prog false (pure (.func (.func 34) #[t17] #[])) (fun t20 h_13 => 
                              CallsH Try.prog 32 #[l0, t20] h_13 (fun t21 h_14 => 
                                Join1 (fun k_1 h_15 => guardP t21 false (k_1 left4 h_15) (k_1 undef h_15) ⟨⟩ ⟨⟩) (fun t23 h_16 => 
                                  Join1 (fun k_2 h_17 => guardP t21 false (k_2 t17 h_17) (k_2 undef h_17) ⟨⟩ ⟨⟩) (fun t24 h_18 => 
                                    Join1 (fun k_3 h_19 => guardP t21 false (Hp Try.prog false (pure (.func (.func 34) #[t24] #[])) k_3 h_19 ⟨⟩) (k_3 undef h_19) ⟨⟩ ⟨⟩) (fun t25 h_20 => 
                                      Join1 (fun k_4 h_21 => guardP t21 false (CallsH Try.prog 47 #[t23, t25] h_21 k_4 ⟨⟩) (k_4 undef h_21) ⟨⟩ ⟨⟩) (fun t26 h_22 => 
                                        Hp Try.prog false (pickS t21 (.bool true) t26) (fun t27 h_23 => 
                                          CondP t27 (
                                            Hp Try.prog false (Instr.buildSlice 55 1 #[(0, t17)]) (fun t30 h_24 => 
                                              Hp Try.prog false (Builtin.append_ #[55, 55] 55 #[left4, t30]) (fun t31 h_25 => 
                                                k out3 t31 h_25) h_24 ⟨⟩) h_23 ⟨⟩) (
                                            Hp Try.prog true (nilS l0) (fun t33 _ => 
                                              Hp Try.prog true (Instr.fieldAt 57 t33 0) (fun t34 _ => 
                                                Hp Try.prog true (Instr.loadAt 53 t34) (fun t35 _ => 
                                                  Hp Try.prog true (nilS t17) (fun t37 _ => 
                                                    Hp Try.prog true (Instr.fieldAt 63 t37 0) (fun t38 _ => 
                                                      Hp Try.prog true (Instr.fieldAt 29 t38 0) (fun t39 _ => 
                                                        Hp Try.prog true (Instr.loadAt 3 t39) (fun t40 _ => 
                                                          Hp Try.prog false (unitS (Instr.mapUpdate 53 t35 t40 t17)) (fun _ h_26 => 
                                                            Hp Try.prog false (nilS t17) (fun t44 h_27 => 
                                                              Hp Try.prog false (Instr.fieldAt 63 t44 0) (fun t45 h_28 => 
                                                                Hp Try.prog false (Instr.fieldAt 29 t45 0) (fun t46 h_29 => 
                                                                  Hp Try.prog false (Instr.loadAt 3 t46) (fun t47 h_30 => 
                                                                    Hp Try.prog false (Instr.buildSlice 23 1 #[(0, t47)]) (fun t48 h_31 => 
                                                                      Hp Try.prog false (Builtin.append_ #[23, 23] 23 #[out3, t48]) (fun t49 h_32 => 
                                                                        k t49 left4 h_32) h_31 ⟨⟩) h_30 ⟨⟩) h_29 ⟨⟩) h_28 ⟨⟩) h_27 ⟨⟩) h_26 ⟨⟩) h_23 ⟨⟩) h_23 ⟨⟩) #[] ⟨⟩) #[] ⟨⟩) #[] ⟨⟩) h_23 ⟨⟩) #[] ⟨⟩) #[] ⟨⟩) ⟨⟩ ⟨⟩) h_22 ⟨⟩) h_20 ⟨⟩ ⟨⟩) h_18 ⟨⟩ ⟨⟩) h_16 ⟨⟩ ⟨⟩) h_14 ⟨⟩ ⟨⟩) ⟨⟩) h_12 ⟨⟩) h_11 ⟨⟩) ⟨⟩) h_9 ⟨⟩) h_8 ⟨⟩) h_7 ⟨⟩)
                  (fun out3_1 left4_1 h_33 =>
                  X out3_1 left4_1 h_33) h_6 ⟨⟩ ⟨⟩) (
                Hp Try.prog false (nilS l0) (fun t52 h_34 => 
                  Hp Try.prog false (Instr.fieldAt 57 t52 1) (fun t53 h_35 => 
                    Hp Try.prog false (storeS 55 t53 left4) (fun _ h_36 => 
                      R out3 h_36) h_35 ⟨⟩) h_34 ⟨⟩) h_6 ⟨⟩) ⟨⟩ ⟨⟩) h_5 ⟨⟩) ⟨⟩) h_3 ⟨⟩) h_2 ⟨⟩) h_1 ⟨⟩) [(.slice none 0 0), (.slice none 0 0)] h ⟨⟩

theorem n37_calls {l0 : Value} {R : Value → Heap → Prop} {h : Heap} (H : n37 l0 R h) : CallsH Try.prog 37 #[l0] h R ⟨⟩ :=
  callsH_of_eq Try.follow (.n none .l (.n none (.n none .l (.n none .l (.n none .l (.n none (.n none (.n (some [4, 5]) (.n none .l (.n (some [4, 5]) .l .l)) .l) .l) .l)))) .l)) Try.func37 (by kernel_rfl) (by kernel_rfl) (by kernel_rfl) H

/-- palimpsest/locks.locks -/
def n39 (l0 order1 : Value) (R : Value → Heap → Prop) (h : Heap) : Prop :=
  CallsH Try.prog 54 #[l0, order1] h (fun t10 h_1 => 
    Hp Try.prog false (Builtin.len_ #[54] 3 #[l0]) (fun t12 h_2 => 
      LoopC 2 (fun (X : Value → Value → Heap → Prop) => fun out5 t13 h_3 =>
        Hp Try.prog false (binS .lss 3 (.tmp 13) (.tmp 12) t13 t12) (fun t14 h_4 => 
          CondP t14 (
            Hp Try.prog false (Instr.indexAt 54 l0 t13) (fun t15 h_5 => 
              Hp Try.prog false (Instr.loadAt 59 t15) (fun t16 h_6 => 
                Hp Try.prog false (nilS t16) (fun t19 h_7 => 
                  Hp Try.prog false (Instr.fieldAt 63 t19 0) (fun t20 h_8 => 
                    Hp Try.prog false (Instr.loadAt 29 t20) (fun t21 h_9 => 
                      Hp Try.prog false (Instr.buildSlice 22 1 #[(0, t21)]) (fun t22 h_10 => 
                        Hp Try.prog false (Builtin.append_ #[22, 22] 22 #[out5, t22]) (fun t23 h_11 => 
                          Hp Try.prog false (binS .add 3 (.tmp 13) (.const (.int .i64 1)) t13 (.int .i64 1)) (fun t24 h_12 => 
                            X t23 t24 h_12) h_11 ⟨⟩) h_10 ⟨⟩) h_9 ⟨⟩) h_8 ⟨⟩) h_7 ⟨⟩) h_6 ⟨⟩) h_5 ⟨⟩) h_4 ⟨⟩) (
            CallsH Try.prog 55 #[out5] h_4 (fun t26 h_13 => 
              R t26 h_13) ⟨⟩) ⟨⟩ ⟨⟩) h_3 ⟨⟩) [(.slice none 0 0), (.int .i64 0)] h_2 ⟨⟩) h_1 ⟨⟩) ⟨⟩

theorem n39_calls {l0 order1 : Value} {R : Value → Heap → Prop} {h : Heap} (H : n39 l0 order1 R h) : CallsH Try.prog 39 #[l0, order1] h R ⟨⟩ :=
  callsH_of_eq Try.follow (.n none .l (.n none .l (.n none .l (.n none (.n none .l (.n none (.n (some [6, 14]) .l .l) .l)) .l)))) Try.func39 (by kernel_rfl) (by kernel_rfl) (by kernel_rfl) H

/-- (*palimpsest/locks.Locks).Held$1 -/
def n40 (a0 b1 : Value) (R : Value → Heap → Prop) (h : Heap) : Prop :=
  Hp Try.prog true (nilS a0) (fun t6 _ => 
    Hp Try.prog true (Instr.fieldAt 63 t6 0) (fun t7 _ => 
      Hp Try.prog true (Instr.fieldAt 29 t7 0) (fun t8 _ => 
        Hp Try.prog true (Instr.loadAt 3 t8) (fun t9 _ => 
          Hp Try.prog true (nilS b1) (fun t11 _ => 
            Hp Try.prog true (Instr.fieldAt 63 t11 0) (fun t12 _ => 
              Hp Try.prog true (Instr.fieldAt 29 t12 0) (fun t13 _ => 
                Hp Try.prog true (Instr.loadAt 3 t13) (fun t14 _ => 
                  CallsH Try.prog 41 #[t9, t14] h (fun t15 h_1 => 
                    R t15 h_1) ⟨⟩) h ⟨⟩) #[] ⟨⟩) #[] ⟨⟩) #[] ⟨⟩) h ⟨⟩) #[] ⟨⟩) #[] ⟨⟩) #[] ⟨⟩

theorem n40_calls {a0 b1 : Value} {R : Value → Heap → Prop} {h : Heap} (H : n40 a0 b1 R h) : CallsH Try.prog 40 #[a0, b1] h R ⟨⟩ :=
  callsH_of_eq Try.follow .l Try.func40 (by kernel_rfl) (by kernel_rfl) (by kernel_rfl) H

/-- cmp.Compare[int] -/
def n41 (x0 y1 : Value) (R : Value → Heap → Prop) (h : Heap) : Prop :=
  CallsH Try.prog 56 #[x0] h (fun t8 h_1 => 
    CallsH Try.prog 56 #[y1] h_1 (fun t10 h_2 => 
      CondP t8 (
        CondP t10 (
          R (.int .i64 0) h_2) (
          R (.int .i64 (-1)) h_2) ⟨⟩ ⟨⟩) (
        CondP t10 (
          R (.int .i64 1) h_2) (
          Hp Try.prog false (binS .lss 3 (.tmp 14) (.tmp 15) x0 y1) (fun t16 h_3 => 
            CondP t16 (
              R (.int .i64 (-1)) h_3) (
              Hp Try.prog false (binS .gtr 3 (.tmp 17) (.tmp 18) x0 y1) (fun t19 h_4 => 
                CondP t19 (
                  R (.int .i64 1) h_4) (
                  R (.int .i64 0) h_4) ⟨⟩ ⟨⟩) h_3 ⟨⟩) ⟨⟩ ⟨⟩) h_2 ⟨⟩) ⟨⟩ ⟨⟩) ⟨⟩ ⟨⟩) ⟨⟩) ⟨⟩

theorem n41_calls {x0 y1 : Value} {R : Value → Heap → Prop} {h : Heap} (H : n41 x0 y1 R h) : CallsH Try.prog 41 #[x0, y1] h R ⟨⟩ :=
  callsH_of_eq Try.follow .l Try.func41 (by kernel_rfl) (by kernel_rfl) (by kernel_rfl) H

/-- slices.Clone[palimpsest/locks.line,*palimpsest/locks.request] -/
def n42 (s0 : Value) (R : Value → Heap → Prop) (h : Heap) : Prop :=
  Hp Try.prog false (binS .eql 55 (.tmp 3) (.const (.slice none 0 0)) s0 (.slice none 0 0)) (fun t4 h_1 => 
    CondP t4 (
      R (.slice none 0 0) h_1) (
      Hp Try.prog false (Instr.buildSlice 55 0 #[]) (fun t5 h_2 => 
        Hp Try.prog false (Builtin.append_ #[55, 55] 55 #[t5, s0]) (fun t7 h_3 => 
          R t7 h_3) h_2 ⟨⟩) h_1 ⟨⟩) ⟨⟩ ⟨⟩) h ⟨⟩

theorem n42_calls {s0 : Value} {R : Value → Heap → Prop} {h : Heap} (H : n42 s0 R h) : CallsH Try.prog 42 #[s0] h R ⟨⟩ :=
  callsH_of_eq Try.follow .l Try.func42 (by kernel_rfl) (by kernel_rfl) (by kernel_rfl) H

/-- (*palimpsest/locks.Locks).Waiting$1 -/
def n43 (a0 b1 : Value) (R : Value → Heap → Prop) (h : Heap) : Prop :=
  Hp Try.prog true (nilS a0) (fun t6 _ => 
    Hp Try.prog true (Instr.fieldAt 63 t6 1) (fun t7 _ => 
      Hp Try.prog true (Instr.loadAt 3 t7) (fun t8 _ => 
        Hp Try.prog true (nilS b1) (fun t10 _ => 
          Hp Try.prog true (Instr.fieldAt 63 t10 1) (fun t11 _ => 
            Hp Try.prog true (Instr.loadAt 3 t11) (fun t12 _ => 
              CallsH Try.prog 41 #[t8, t12] h (fun t13 h_1 => 
                R t13 h_1) ⟨⟩) h ⟨⟩) #[] ⟨⟩) #[] ⟨⟩) h ⟨⟩) #[] ⟨⟩) #[] ⟨⟩

theorem n43_calls {a0 b1 : Value} {R : Value → Heap → Prop} {h : Heap} (H : n43 a0 b1 R h) : CallsH Try.prog 43 #[a0, b1] h R ⟨⟩ :=
  callsH_of_eq Try.follow .l Try.func43 (by kernel_rfl) (by kernel_rfl) (by kernel_rfl) H

/-- palimpsest/locks.id -/
def n44 (n0 : Value) (R : Value → Heap → Prop) (h : Heap) : Prop :=
  Hp Try.prog false (binS .geq 3 (.tmp 3) (.const (.int .i64 0)) n0 (.int .i64 0)) (fun t4 h_1 => 
    Join1 (fun k h_2 => guardP t4 true (k n0 h_2) (k undef h_2) ⟨⟩ ⟨⟩) (fun t6 h_3 => 
      Join1 (fun k_1 h_4 => guardP t4 true (Hp Try.prog false (binS .lss 3 (.tmp 6) (.const (.int .i64 4096)) t6 (.int .i64 4096)) k_1 h_4 ⟨⟩) (k_1 undef h_4) ⟨⟩ ⟨⟩) (fun t7 h_5 => 
        Hp Try.prog false (pickS t4 t7 (.bool false)) (fun t8 h_6 => 
          R t8 h_6) h_5 ⟨⟩) h_3 ⟨⟩ ⟨⟩) h_1 ⟨⟩ ⟨⟩) h ⟨⟩

theorem n44_calls {n0 : Value} {R : Value → Heap → Prop} {h : Heap} (H : n44 n0 R h) : CallsH Try.prog 44 #[n0] h R ⟨⟩ :=
  callsH_of_eq Try.follow .l Try.func44 (by kernel_rfl) (by kernel_rfl) (by kernel_rfl) H

/-- slices.IndexFunc[palimpsest/locks.line,*palimpsest/locks.request] -/
def n45 (s0 f1 : Value) (R : Value → Heap → Prop) (h : Heap) : Prop :=
  Hp Try.prog false (Builtin.len_ #[55] 3 #[s0]) (fun t7 h_1 => 
    LoopC 1 (fun (X : Value → Heap → Prop) => fun t8 h_2 =>
      Hp Try.prog false (binS .lss 3 (.tmp 8) (.tmp 7) t8 t7) (fun t9 h_3 => 
        CondP t9 (
          Hp Try.prog false (Instr.indexAt 55 s0 t8) (fun t14 h_4 => 
            Hp Try.prog false (Instr.loadAt 59 t14) (fun t15 h_5 => 
              InvokeH Try.prog f1 #[t15] h_5 (fun t16 h_6 => 
                CondP t16 (
                  R t8 h_6) (
                  Hp Try.prog false (binS .add 3 (.tmp 8) (.const (.int .i64 1)) t8 (.int .i64 1)) (fun t18 h_7 => 
                    X t18 h_7) h_6 ⟨⟩) ⟨⟩ ⟨⟩) ⟨⟩) h_4 ⟨⟩) h_3 ⟨⟩) (
          R (.int .i64 (-1)) h_3) ⟨⟩ ⟨⟩) h_2 ⟨⟩) [(.int .i64 0)] h_1 ⟨⟩) h ⟨⟩

theorem n45_calls {s0 f1 : Value} {R : Value → Heap → Prop} {h : Heap} (H : n45 s0 f1 R h) : CallsH Try.prog 45 #[s0, f1] h R ⟨⟩ :=
  callsH_of_eq Try.follow (.n none .l (.n none (.n none .l (.n none (.n (some [9]) .l .l) .l)) .l)) Try.func45 (by kernel_rfl) (by kernel_rfl) (by kernel_rfl) H

/-- (*palimpsest/locks.Locks).find$1 -/
def n46 (r0 t1 : Value) (R : Value → Heap → Prop) (h : Heap) : Prop :=
  Hp Try.prog true (nilS r0) (fun t5 _ => 
    Hp Try.prog true (Instr.fieldAt 63 t5 0) (fun t6 _ => 
      Hp Try.prog true (Instr.fieldAt 29 t6 0) (fun t7 _ => 
        Hp Try.prog true (Instr.loadAt 3 t7) (fun t8 _ => 
          Hp Try.prog true (Instr.loadAt 3 t1) (fun t9 _ => 
            Hp Try.prog true (binS .eql 3 (.tmp 8) (.tmp 9) t8 t9) (fun t10 _ => 
              R t10 h) #[] ⟨⟩) h ⟨⟩) h ⟨⟩) #[] ⟨⟩) #[] ⟨⟩) #[] ⟨⟩

theorem n46_calls {r0 t1 : Value} {R : Value → Heap → Prop} {h : Heap} (H : n46 r0 t1 R h) : CallsH Try.prog 46 #[r0, t1] h R ⟨⟩ :=
  callsH_of_eq Try.follow .l Try.func46 (by kernel_rfl) (by kernel_rfl) (by kernel_rfl) H

/-- slices.ContainsFunc[palimpsest/locks.line,*palimpsest/locks.request] -/
def n47 (s0 f1 : Value) (R : Value → Heap → Prop) (h : Heap) : Prop :=
  CallsH Try.prog 45 #[s0, f1] h (fun t7 h_1 => 
    Hp Try.prog false (binS .geq 3 (.tmp 7) (.const (.int .i64 0)) t7 (.int .i64 0)) (fun t8 h_2 => 
      R t8 h_2) h_1 ⟨⟩) ⟨⟩

theorem n47_calls {s0 f1 : Value} {R : Value → Heap → Prop} {h : Heap} (H : n47 s0 f1 R h) : CallsH Try.prog 47 #[s0, f1] h R ⟨⟩ :=
  callsH_of_eq Try.follow .l Try.func47 (by kernel_rfl) (by kernel_rfl) (by kernel_rfl) H

/-- container/heap.up -/
def n48 (h0 j1 : Value) (R : Value → Heap → Prop) (h : Heap) : Prop :=
  LoopC 1 (fun (X : Value → Heap → Prop) => fun j1_1 h_1 =>
    Hp Try.prog false (binS .sub 3 (.tmp 5) (.const (.int .i64 1)) j1_1 (.int .i64 1)) (fun t6 h_2 => 
      Hp Try.prog false (binS .quo 3 (.tmp 6) (.const (.int .i64 2)) t6 (.int .i64 2)) (fun t7 h_3 => 
        Hp Try.prog false (binS .eql 3 (.tmp 8) (.tmp 9) t7 j1_1) (fun t10 h_4 => 
          Join1 (fun k h_5 => guardP t10 false (k h0 h_5) (k undef h_5) ⟨⟩ ⟨⟩) (fun t12 h_6 => 
            Join1 (fun k_1 h_7 => guardP t10 false (k_1 j1_1 h_7) (k_1 undef h_7) ⟨⟩ ⟨⟩) (fun t13 h_8 => 
              Join1 (fun k_2 h_9 => guardP t10 false (k_2 t7 h_9) (k_2 undef h_9) ⟨⟩ ⟨⟩) (fun t14 h_10 => 
                Join1 (fun k_3 h_11 => guardP t10 false (MethodH Try.prog t12 "Less" #[t13, t14] h_11 k_3 ⟨⟩) (k_3 undef h_11) ⟨⟩ ⟨⟩) (fun t15 h_12 => 
                  Join1 (fun k_4 h_13 => guardP t10 false (Hp Try.prog false (Op.unary .not t15) k_4 h_13 ⟨⟩) (k_4 undef h_13) ⟨⟩ ⟨⟩) (fun t16 h_14 => 
                    Hp Try.prog false (pickS t10 (.bool true) t16) (fun t17 h_15 => 
                      CondP t17 (
                        R (.tuple #[]) h_15) (
                        MethodH Try.prog h0 "Swap" #[t7, j1_1] h_15 (fun t21 h_16 => 
                          X t7 h_16) ⟨⟩) ⟨⟩ ⟨⟩) h_14 ⟨⟩) h_12 ⟨⟩ ⟨⟩) h_10 ⟨⟩ ⟨⟩) h_8 ⟨⟩ ⟨⟩) h_6 ⟨⟩ ⟨⟩) h_4 ⟨⟩ ⟨⟩) h_3 ⟨⟩) h_2 ⟨⟩) h_1 ⟨⟩) [j1] h ⟨⟩

theorem n48_calls {h0 j1 : Value} {R : Value → Heap → Prop} {h : Heap} (H : n48 h0 j1 R h) : CallsH Try.prog 48 #[h0, j1] h R ⟨⟩ :=
  callsH_of_eq Try.follow (.n none (.n (some [2]) .l .l) .l) Try.func48 (by kernel_rfl) (by kernel_rfl) (by kernel_rfl) H

/-- container/heap.down -/
def n49 (h0 i01 n2 : Value) (R : Value → Heap → Prop) (h : Heap) : Prop :=
  JoinN 1 (fun (k : Value → Heap → Prop) h_1 =>
    JoinN 1 (fun (k_1 : Value → Heap → Prop) h_2 =>
      LoopC 1 (fun (X : Value → Heap → Prop) => fun i7 h_3 =>
        Hp Try.prog false (binS .mul 3 (.const (.int .i64 2)) (.tmp 12) (.int .i64 2) i7) (fun t13 h_4 => 
          Hp Try.prog false (binS .add 3 (.tmp 13) (.const (.int .i64 1)) t13 (.int .i64 1)) (fun t14 h_5 => 
            Hp Try.prog false (binS .geq 3 (.tmp 15) (.tmp 16) t14 n2) (fun t17 h_6 => 
              Join1 (fun k_2 h_7 => guardP t17 false (k_2 t14 h_7) (k_2 undef h_7) ⟨⟩ ⟨⟩) (fun t19 h_8 => 
                Join1 (fun k_3 h_9 => guardP t17 false (Hp Try.prog false (binS .lss 3 (.tmp 19) (.const (.int .i64 0)) t19 (.int .i64 0)) k_3 h_9 ⟨⟩) (k_3 undef h_9) ⟨⟩ ⟨⟩) (fun t20 h_10 => 
                  Hp Try.prog false (pickS t17 (.bool true) t20) (fun t21 h_11 => 
                    CondP t21 (
                      k_1 i7 h_11) (
                      JoinN 1 (fun (k_4 : Value → Heap → Prop) h_12 =>
                        Hp Try.prog false (binS .add 3 (.tmp 23) (.const (.int .i64 1)) t14 (.int .i64 1)) (fun t24 h_13 => 
                          Hp Try.prog false (binS .lss 3 (.tmp 25) (.tmp 26) t24 n2) (fun t27 h_14 => 
                            Join1 (fun k_5 h_15 => guardP t27 true (k_5 h0 h_15) (k_5 undef h_15) ⟨⟩ ⟨⟩) (fun t29 h_16 => 
                              Join1 (fun k_6 h_17 => guardP t27 true (k_6 t24 h_17) (k_6 undef h_17) ⟨⟩ ⟨⟩) (fun t30 h_18 => 
                                Join1 (fun k_7 h_19 => guardP t27 true (k_7 t14 h_19) (k_7 undef h_19) ⟨⟩ ⟨⟩) (fun t31 h_20 => 
                                  Join1 (fun k_8 h_21 => guardP t27 true (MethodH Try.prog t29 "Less" #[t30, t31] h_21 k_8 ⟨⟩) (k_8 undef h_21) ⟨⟩ ⟨⟩) (fun t32 h_22 => 
                                    Hp Try.prog false (pickS t27 t32 (.bool false)) (fun t33 h_23 => 
                                      CondP t33 (
                                        k_4 t24 h_23) (
                                        k_4 t14 h_23) ⟨⟩ ⟨⟩) h_22 ⟨⟩) h_20 ⟨⟩ ⟨⟩) h_18 ⟨⟩ ⟨⟩) h_16 ⟨⟩ ⟨⟩) h_14 ⟨⟩ ⟨⟩) h_13 ⟨⟩) h_12 ⟨⟩)
                        (fun j9 h_24 =>
                        MethodH Try.prog h0 "Less" #[j9, i7] h_24 (fun t38 h_25 => 
                          Hp Try.prog false (Op.unary .not t38) (fun t39 h_26 => 
                            CondP t39 (
                              k_1 i7 h_26) (
                              MethodH Try.prog h0 "Swap" #[i7, j9] h_26 (fun t43 h_27 => 
                                X j9 h_27) ⟨⟩) ⟨⟩ ⟨⟩) h_25 ⟨⟩) ⟨⟩) h_11 ⟨⟩ ⟨⟩) ⟨⟩ ⟨⟩) h_10 ⟨⟩) h_8 ⟨⟩ ⟨⟩) h_6 ⟨⟩ ⟨⟩) h_5 ⟨⟩) h_4 ⟨⟩) h_3 ⟨⟩) [i01] h_2 ⟨⟩)
      (fun i7_1 h_28 =>
      k i7_1 h_28) h_1 ⟨⟩ ⟨⟩)
    (fun i7_2 h_29 =>
    Hp Try.prog false (binS .gtr 3 (.tmp 45) (.tmp 46) i7_2 i01) (fun t47 h_30 => 
      R t47 h_30) h_29 ⟨⟩) h ⟨⟩ ⟨⟩

theorem n49_calls {h0 i01 n2 : Value} {R : Value → Heap → Prop} {h : Heap} (H : n49 h0 i01 n2 R h) : CallsH Try.prog 49 #[h0, i01, n2] h R ⟨⟩ :=
  callsH_of_eq Try.follow (.n none .l (.n none .l (.n (some [8]) (.n (some [8]) (.n (some [8]) (.n none (.n none .l (.n none .l (.n none .l (.n (some [10]) .l .l)))) .l) .l) .l) .l))) Try.func49 (by kernel_rfl) (by kernel_rfl) (by kernel_rfl) H

/-- (palimpsest/locks.line).Len -/
def n50 (l0 : Value) (R : Value → Heap → Prop) (h : Heap) : Prop :=
  Hp Try.prog false (Builtin.len_ #[55] 3 #[l0]) (fun t4 h_1 => 
    R t4 h_1) h ⟨⟩

theorem n50_calls {l0 : Value} {R : Value → Heap → Prop} {h : Heap} (H : n50 l0 R h) : CallsH Try.prog 50 #[l0] h R ⟨⟩ :=
  callsH_of_eq Try.follow .l Try.func50 (by kernel_rfl) (by kernel_rfl) (by kernel_rfl) H

/-- container/heap.Pop -/
def n51 (h0 : Value) (R : Value → Heap → Prop) (h : Heap) : Prop :=
  MethodH Try.prog h0 "Len" #[] h (fun t5 h_1 => 
    Hp Try.prog false (binS .sub 3 (.tmp 5) (.const (.int .i64 1)) t5 (.int .i64 1)) (fun t6 h_2 => 
      MethodH Try.prog h0 "Swap" #[(.int .i64 0), t6] h_2 (fun t9 h_3 => 
        CallsH Try.prog 49 #[h0, (.int .i64 0), t6] h_3 (fun t12 h_4 => 
          MethodH Try.prog h0 "Pop" #[] h_4 (fun t14 h_5 => 
            R t14 h_5) ⟨⟩) ⟨⟩) ⟨⟩) h_1 ⟨⟩) ⟨⟩

theorem n51_calls {h0 : Value} {R : Value → Heap → Prop} {h : Heap} (H : n51 h0 R h) : CallsH Try.prog 51 #[h0] h R ⟨⟩ :=
  callsH_of_eq Try.follow .l Try.func51 (by kernel_rfl) (by kernel_rfl) (by kernel_rfl) H

/-- slices.SortFunc[[]*palimpsest/locks.request,*palimpsest/locks.request] -/
def n54 (x0 cmp1 : Value) (R : Value → Heap → Prop) (h : Heap) : Prop :=
  Hp Try.prog false (Builtin.len_ #[54] 3 #[x0]) (fun t6 h_1 => 
    Hp Try.prog false (convert 3 91 t6) (fun t10 h_2 => 
      CallsH Try.prog 53 #[t10] h_2 (fun t11 h_3 => 
        CallsH Try.prog 68 #[x0, (.int .i64 0), t6, t11, cmp1] h_3 (fun t13 h_4 => 
          R (.tuple #[]) h_4) ⟨⟩) ⟨⟩) h_1 ⟨⟩) h ⟨⟩

theorem n54_calls {x0 cmp1 : Value} {R : Value → Heap → Prop} {h : Heap} (H : n54 x0 cmp1 R h) : CallsH Try.prog 54 #[x0, cmp1] h R ⟨⟩ :=
  callsH_of_eq Try.follow .l Try.func54 (by kernel_rfl) (by kernel_rfl) (by kernel_rfl) H

/-- slices.Values[[]palimpsest/api.Lock,palimpsest/api.Lock] -/
def n55 (s0 : Value) (R : Value → Heap → Prop) (h : Heap) : Prop :=
  Hp Try.prog false (Instr.box 22 s0) (fun s1 h_1 => 
    Hp Try.prog false (pure (.func (.func 69) #[] #[s1])) (fun t3 h_2 => 
      R t3 h_2) h_1 ⟨⟩) h ⟨⟩

theorem n55_calls {s0 : Value} {R : Value → Heap → Prop} {h : Heap} (H : n55 s0 R h) : CallsH Try.prog 55 #[s0] h R ⟨⟩ :=
  callsH_of_eq Try.follow .l Try.func55 (by kernel_rfl) (by kernel_rfl) (by kernel_rfl) H

/-- cmp.isNaN[int] -/
def n56 (x0 : Value) (R : Value → Heap → Prop) (h : Heap) : Prop :=
  Hp Try.prog false (binS .neq 3 (.tmp 3) (.tmp 4) x0 x0) (fun t5 h_1 => 
    R t5 h_1) h ⟨⟩

theorem n56_calls {x0 : Value} {R : Value → Heap → Prop} {h : Heap} (H : n56 x0 R h) : CallsH Try.prog 56 #[x0] h R ⟨⟩ :=
  callsH_of_eq Try.follow .l Try.func56 (by kernel_rfl) (by kernel_rfl) (by kernel_rfl) H

/-- math/bits.Len32 -/
def n66 (x0 : Value) (R : Value → Heap → Prop) (h : Heap) : Prop :=
  JoinN 2 (fun (k : Value → Value → Heap → Prop) h_1 =>
    Hp Try.prog false (binS .geq 104 (.tmp 3) (.const (.int .u32 65536)) x0 (.int .u32 65536)) (fun t4 h_2 => 
      CondP t4 (
        Hp Try.prog false (binS .shr 104 (.tmp 5) (.const (.int .u64 16)) x0 (.int .u64 16)) (fun t6 h_3 => 
          k t6 (.int .i64 16) h_3) h_2 ⟨⟩) (
        k x0 (.int .i64 0) h_2) ⟨⟩ ⟨⟩) h_1 ⟨⟩)
    (fun x0_1 n2 h_4 =>
    JoinN 2 (fun (k_1 : Value → Value → Heap → Prop) h_5 =>
      Hp Try.prog false (binS .geq 104 (.tmp 7) (.const (.int .u32 256)) x0_1 (.int .u32 256)) (fun t8 h_6 => 
        CondP t8 (
          Hp Try.prog false (binS .shr 104 (.tmp 9) (.const (.int .u64 8)) x0_1 (.int .u64 8)) (fun t10 h_7 => 
            Hp Try.prog false (binS .add 3 (.tmp 11) (.const (.int .i64 8)) n2 (.int .i64 8)) (fun t12 h_8 => 
              k_1 t10 t12 h_8) h_7 ⟨⟩) h_6 ⟨⟩) (
          k_1 x0_1 n2 h_6) ⟨⟩ ⟨⟩) h_5 ⟨⟩)
      (fun x0_2 n2_1 h_9 =>
      Hp Try.prog false (convert 104 5 x0_2) (fun t15 h_10 => 
        Hp Try.prog false (Instr.index 9 (str [0, 1, 2, 2, 3, 3, 3, 3, 4, 4, 4, 4, 4, 4, 4, 4, 5, 5, 5, 5, 5, 5, 5, 5, 5, 5, 5, 5, 5, 5, 5, 5, 6, 6, 6, 6, 6, 6, 6, 6, 6, 6, 6, 6, 6, 6, 6, 6, 6, 6, 6, 6, 6, 6, 6, 6, 6, 6, 6, 6, 6, 6, 6, 6, 7, 7, 7, 7, 7, 7, 7, 7, 7, 7, 7, 7, 7, 7, 7, 7, 7, 7, 7, 7, 7, 7, 7, 7, 7, 7, 7, 7, 7, 7, 7, 7, 7, 7, 7, 7, 7, 7, 7, 7, 7, 7, 7, 7, 7, 7, 7, 7, 7, 7, 7, 7, 7, 7, 7, 7, 7, 7, 7, 7, 7, 7, 7, 7, 8, 8, 8, 8, 8, 8, 8, 8, 8, 8, 8, 8, 8, 8, 8, 8, 8, 8, 8, 8, 8, 8, 8, 8, 8, 8, 8, 8, 8, 8, 8, 8, 8, 8, 8, 8, 8, 8, 8, 8, 8, 8, 8, 8, 8, 8, 8, 8, 8, 8, 8, 8, 8, 8, 8, 8, 8, 8, 8, 8, 8, 8, 8, 8, 8, 8, 8, 8, 8, 8, 8, 8, 8, 8, 8, 8, 8, 8, 8, 8, 8, 8, 8, 8, 8, 8, 8, 8, 8, 8, 8, 8, 8, 8, 8, 8, 8, 8, 8, 8, 8, 8, 8, 8, 8, 8, 8, 8, 8, 8, 8, 8, 8, 8, 8, 8, 8, 8, 8, 8, 8, 8, 8, 8, 8, 8, 8, 8]) t15) (fun t16 h_11 => 
          Hp Try.prog false (convert 5 3 t16) (fun t17 h_12 => 
            Hp Try.prog false (binS .add 3 (.tmp 13) (.tmp 17) n2_1 t17) (fun t18 h_13 => 
              R t18 h_13) h_12 ⟨⟩) h_11 ⟨⟩) h_10 ⟨⟩) h_9 ⟨⟩) h_4 ⟨⟩ ⟨⟩) h ⟨⟩ ⟨⟩

theorem n66_calls {x0 : Value} {R : Value → Heap → Prop} {h : Heap} (H : n66 x0 R h) : CallsH Try.prog 66 #[x0] h R ⟨⟩ :=
  callsH_of_eq Try.follow (.n none .l (.n (some [1, 3]) .l (.n (some [1, 3]) .l .l))) Try.func66 (by kernel_rfl) (by kernel_rfl) (by kernel_rfl) H

/-- math/bits.Len64 -/
def n67 (x0 : Value) (R : Value → Heap → Prop) (h : Heap) : Prop :=
  JoinN 2 (fun (k : Value → Value → Heap → Prop) h_1 =>
    Hp Try.prog false (binS .geq 106 (.tmp 3) (.const (.int .u64 4294967296)) x0 (.int .u64 4294967296)) (fun t4 h_2 => 
      CondP t4 (
        Hp Try.prog false (binS .shr 106 (.tmp 5) (.const (.int .u64 32)) x0 (.int .u64 32)) (fun t6 h_3 => 
          k t6 (.int .i64 32) h_3) h_2 ⟨⟩) (
        k x0 (.int .i64 0) h_2) ⟨⟩ ⟨⟩) h_1 ⟨⟩)
    (fun x0_1 n2 h_4 =>
    JoinN 2 (fun (k_1 : Value → Value → Heap → Prop) h_5 =>
      Hp Try.prog false (binS .geq 106 (.tmp 7) (.const (.int .u64 65536)) x0_1 (.int .u64 65536)) (fun t8 h_6 => 
        CondP t8 (
          Hp Try.prog false (binS .shr 106 (.tmp 9) (.const (.int .u64 16)) x0_1 (.int .u64 16)) (fun t10 h_7 => 
            Hp Try.prog false (binS .add 3 (.tmp 11) (.const (.int .i64 16)) n2 (.int .i64 16)) (fun t12 h_8 => 
              k_1 t10 t12 h_8) h_7 ⟨⟩) h_6 ⟨⟩) (
          k_1 x0_1 n2 h_6) ⟨⟩ ⟨⟩) h_5 ⟨⟩)
      (fun x0_2 n2_1 h_9 =>
      JoinN 2 (fun (k_2 : Value → Value → Heap → Prop) h_10 =>
        Hp Try.prog false (binS .geq 106 (.tmp 13) (.const (.int .u64 256)) x0_2 (.int .u64 256)) (fun t14 h_11 => 
          CondP t14 (
            Hp Try.prog false (binS .shr 106 (.tmp 15) (.const (.int .u64 8)) x0_2 (.int .u64 8)) (fun t16 h_12 => 
              Hp Try.prog false (binS .add 3 (.tmp 17) (.const (.int .i64 8)) n2_1 (.int .i64 8)) (fun t18 h_13 => 
                k_2 t16 t18 h_13) h_12 ⟨⟩) h_11 ⟨⟩) (
            k_2 x0_2 n2_1 h_11) ⟨⟩ ⟨⟩) h_10 ⟨⟩)
        (fun x0_3 n2_2 h_14 =>
        Hp Try.prog false (convert 106 5 x0_3) (fun t21 h_15 => 
          Hp Try.prog false (Instr.index 9 (str [0, 1, 2, 2, 3, 3, 3, 3, 4, 4, 4, 4, 4, 4, 4, 4, 5, 5, 5, 5, 5, 5, 5, 5, 5, 5, 5, 5, 5, 5, 5, 5, 6, 6, 6, 6, 6, 6, 6, 6, 6, 6, 6, 6, 6, 6, 6, 6, 6, 6, 6, 6, 6, 6, 6, 6, 6, 6, 6, 6, 6, 6, 6, 6, 7, 7, 7, 7, 7, 7, 7, 7, 7, 7, 7, 7, 7, 7, 7, 7, 7, 7, 7, 7, 7, 7, 7, 7, 7, 7, 7, 7, 7, 7, 7, 7, 7, 7, 7, 7, 7, 7, 7, 7, 7, 7, 7, 7, 7, 7, 7, 7, 7, 7, 7, 7, 7, 7, 7, 7, 7, 7, 7, 7, 7, 7, 7, 7, 8, 8, 8, 8, 8, 8, 8, 8, 8, 8, 8, 8, 8, 8, 8, 8, 8, 8, 8, 8, 8, 8, 8, 8, 8, 8, 8, 8, 8, 8, 8, 8, 8, 8, 8, 8, 8, 8, 8, 8, 8, 8, 8, 8, 8, 8, 8, 8, 8, 8, 8, 8, 8, 8, 8, 8, 8, 8, 8, 8, 8, 8, 8, 8, 8, 8, 8, 8, 8, 8, 8, 8, 8, 8, 8, 8, 8, 8, 8, 8, 8, 8, 8, 8, 8, 8, 8, 8, 8, 8, 8, 8, 8, 8, 8, 8, 8, 8, 8, 8, 8, 8, 8, 8, 8, 8, 8, 8, 8, 8, 8, 8, 8, 8, 8, 8, 8, 8, 8, 8, 8, 8, 8, 8, 8, 8, 8, 8]) t21) (fun t22 h_16 => 
            Hp Try.prog false (convert 5 3 t22) (fun t23 h_17 => 
              Hp Try.prog false (binS .add 3 (.tmp 19) (.tmp 23) n2_2 t23) (fun t24 h_18 => 
                R t24 h_18) h_17 ⟨⟩) h_16 ⟨⟩) h_15 ⟨⟩) h_14 ⟨⟩) h_9 ⟨⟩ ⟨⟩) h_4 ⟨⟩ ⟨⟩) h ⟨⟩ ⟨⟩

theorem n67_calls {x0 : Value} {R : Value → Heap → Prop} {h : Heap} (H : n67 x0 R h) : CallsH Try.prog 67 #[x0] h R ⟨⟩ :=
  callsH_of_eq Try.follow (.n none .l (.n (some [1, 3]) .l (.n (some [1, 3]) .l (.n (some [1, 3]) .l .l)))) Try.func67 (by kernel_rfl) (by kernel_rfl) (by kernel_rfl) H

/-- slices.pdqsortCmpFunc[*palimpsest/locks.request] -/
def n68 (data0 a1 b2 limit3 cmp4 : Value) (R : Value → Heap → Prop) (h : Heap) : Prop :=
  LoopC 5 (fun (X : Value → Value → Value → Value → Value → Heap → Prop) => fun a1_1 b2_1 limit3_1 wasBalanced10 wasPartitioned11 h_1 =>
    JoinN 5 (fun (k : Value → Value → Value → Value → Value → Heap → Prop) h_2 =>
      Hp Try.prog false (binS .sub 3 (.tmp 21) (.tmp 22) b2_1 a1_1) (fun t23 h_3 => 
        Hp Try.prog false (binS .leq 3 (.tmp 24) (.const (.int .i64 12)) t23 (.int .i64 12)) (fun t25 h_4 => 
          CondP t25 (
            CallsH Try.prog 75 #[data0, a1_1, b2_1, cmp4] h_4 (fun t30 h_5 => 
              R (.tuple #[]) h_5) ⟨⟩) (
            Hp Try.prog false (binS .eql 3 (.tmp 31) (.const (.int .i64 0)) limit3_1 (.int .i64 0)) (fun t32 h_6 => 
              CondP t32 (
                CallsH Try.prog 76 #[data0, a1_1, b2_1, cmp4] h_6 (fun t37 h_7 => 
                  R (.tuple #[]) h_7) ⟨⟩) (
                JoinN 1 (fun (k_1 : Value → Heap → Prop) h_8 =>
                  Hp Try.prog false (Op.unary .not wasBalanced10) (fun t39 h_9 => 
                    CondP t39 (
                      CallsH Try.prog 77 #[data0, a1_1, b2_1, cmp4] h_9 (fun t44 h_10 => 
                        Hp Try.prog false (binS .sub 3 (.tmp 45) (.const (.int .i64 1)) limit3_1 (.int .i64 1)) (fun t46 h_11 => 
                          k_1 t46 h_11) h_10 ⟨⟩) ⟨⟩) (
                      k_1 limit3_1 h_9) ⟨⟩ ⟨⟩) h_8 ⟨⟩)
                  (fun limit3_2 h_12 =>
                  CallsH Try.prog 78 #[data0, a1_1, b2_1, cmp4] h_12 (fun t52 h_13 => 
                    Hp Try.prog false (Instr.extract t52 0) (fun t53 h_14 => 
                      Hp Try.prog false (Instr.extract t52 1) (fun t54 h_15 => 
                        JoinN 2 (fun (k_2 : Value → Value → Heap → Prop) h_16 =>
                          Hp Try.prog false (binS .eql 96 (.tmp 55) (.const (.int .i64 2)) t54 (.int .i64 2)) (fun t56 h_17 => 
                            CondP t56 (
                              CallsH Try.prog 79 #[data0, a1_1, b2_1, cmp4] h_17 (fun t61 h_18 => 
                                Hp Try.prog false (binS .sub 3 (.tmp 62) (.const (.int .i64 1)) b2_1 (.int .i64 1)) (fun t63 h_19 => 
                                  Hp Try.prog false (binS .sub 3 (.tmp 64) (.tmp 65) t53 a1_1) (fun t66 h_20 => 
                                    Hp Try.prog false (binS .sub 3 (.tmp 63) (.tmp 66) t63 t66) (fun t67 h_21 => 
                                      k_2 t67 (.int .i64 1) h_21) h_20 ⟨⟩) h_19 ⟨⟩) h_18 ⟨⟩) ⟨⟩) (
                              k_2 t53 t54 h_17) ⟨⟩ ⟨⟩) h_16 ⟨⟩)
                          (fun pivot13 hint14 h_22 =>
                          JoinN 0 (fun (k_3 : Heap → Prop) h_23 =>
                            Join1 (fun k_4 h_24 => guardP wasBalanced10 true (k_4 wasPartitioned11 h_24) (k_4 undef h_24) ⟨⟩ ⟨⟩) (fun t70 h_25 => 
                              Hp Try.prog false (pickS wasBalanced10 t70 (.bool false)) (fun t71 h_26 => 
                                Join1 (fun k_5 h_27 => guardP t71 true (k_5 hint14 h_27) (k_5 undef h_27) ⟨⟩ ⟨⟩) (fun t73 h_28 => 
                                  Join1 (fun k_6 h_29 => guardP t71 true (Hp Try.prog false (binS .eql 96 (.tmp 73) (.const (.int .i64 1)) t73 (.int .i64 1)) k_6 h_29 ⟨⟩) (k_6 undef h_29) ⟨⟩ ⟨⟩) (fun t74 h_30 => 
                                    Hp Try.prog false (pickS t71 t74 (.bool false)) (fun t75 h_31 => 
                                      CondP t75 (
                                        CallsH Try.prog 80 #[data0, a1_1, b2_1, cmp4] h_31 (fun t80 h_32 => 
                                          CondP t80 (
                                            R (.tuple #[]) h_32) (
                                            k_3 h_32) ⟨⟩ ⟨⟩) ⟨⟩) (
                                        k_3 h_31) ⟨⟩ ⟨⟩) h_30 ⟨⟩) h_28 ⟨⟩ ⟨⟩) h_26 ⟨⟩ ⟨⟩) h_25 ⟨⟩) h_23 ⟨⟩ ⟨⟩)
                            (fun h_33 =>
                            Hp Try.prog true (binS .gtr 3 (.tmp 81) (.const (.int .i64 0)) a1_1 (.int .i64 0)) (fun t82 _ => 
                              Join1 (fun k_7 h_34 => guardP t82 true (k_7 cmp4 h_34) (k_7 undef h_34) ⟨⟩ ⟨⟩) (fun t84 _ => 
                                Join1 (fun k_8 h_35 => guardP t82 true (k_8 data0 h_35) (k_8 undef h_35) ⟨⟩ ⟨⟩) (fun t85 _ => 
                                  Join1 (fun k_9 h_36 => guardP t82 true (k_9 a1_1 h_36) (k_9 undef h_36) ⟨⟩ ⟨⟩) (fun t86 _ => 
                                    Join1 (fun k_10 h_37 => guardP t82 true (Hp Try.prog true (binS .sub 3 (.tmp 86) (.const (.int .i64 1)) t86 (.int .i64 1)) k_10 h_37 ⟨⟩) (k_10 undef h_37) ⟨⟩ ⟨⟩) (fun t87 _ => 
                                      Join1 (fun k_11 h_38 => guardP t82 true (Hp Try.prog true (Instr.indexAt 54 t85 t87) k_11 h_38 ⟨⟩) (k_11 undef h_38) ⟨⟩ ⟨⟩) (fun t88 _ => 
                                        Join1 (fun k_12 h_39 => guardP t82 true (Hp Try.prog true (Instr.loadAt 59 t88) k_12 h_39 ⟨⟩) (k_12 undef h_39) ⟨⟩ ⟨⟩) (fun t89 _ => 
                                          Join1 (fun k_13 h_40 => guardP t82 true (k_13 data0 h_40) (k_13 undef h_40) ⟨⟩ ⟨⟩) (fun t90 _ => 
                                            Join1 (fun k_14 h_41 => guardP t82 true (k_14 pivot13 h_41) (k_14 undef h_41) ⟨⟩ ⟨⟩) (fun t91 _ => 
                                              Join1 (fun k_15 h_42 => guardP t82 true (Hp Try.prog true (Instr.indexAt 54 t90 t91) k_15 h_42 ⟨⟩) (k_15 undef h_42) ⟨⟩ ⟨⟩) (fun t92 _ => 
                                                Join1 (fun k_16 h_43 => guardP t82 true (Hp Try.prog true (Instr.loadAt 59 t92) k_16 h_43 ⟨⟩) (k_16 undef h_43) ⟨⟩ ⟨⟩) (fun t93 _ => 
                                                  Join1 (fun k_17 h_44 => guardP t82 true (InvokeH Try.prog t84 #[t89, t93] h_44 k_17 ⟨⟩) (k_17 undef h_44) ⟨⟩ ⟨⟩) (fun t94 h_45 => 
                                                    Join1 (fun k_18 h_46 => guardP t82 true (Hp Try.prog true (binS .lss 3 (.tmp 94) (.const (.int .i64 0)) t94 (.int .i64 0)) k_18 h_46 ⟨⟩) (k_18 undef h_46) ⟨⟩ ⟨⟩) (fun t95 _ => 
                                                      Join1 (fun k_19 h_47 => guardP t82 true (Hp Try.prog true (Op.unary .not t95) k_19 h_47 ⟨⟩) (k_19 undef h_47) ⟨⟩ ⟨⟩) (fun t96 _ => 
                                                        Hp Try.prog true (pickS t82 t96 (.bool false)) (fun t97 _ => 
                                                          CondP t97 (
                                                            CallsH Try.prog 81 #[data0, a1_1, b2_1, pivot13, cmp4] h_45 (fun t103 h_48 => 
                                                              k t103 b2_1 limit3_2 wasBalanced10 wasPartitioned11 h_48) ⟨⟩) (
                                                            CallsH Try.prog 82 #[data0, a1_1, b2_1, pivot13, cmp4] h_45 (fun t111 h_49 => 
                                                              Hp Try.prog false (Instr.extract t111 0) (fun t112 h_50 => 
                                                                Hp Try.prog false (Instr.extract t111 1) (fun t113 h_51 => 
                                                                  Hp Try.prog false (binS .sub 3 (.tmp 115) (.tmp 116) t112 a1_1) (fun t117 h_52 => 
                                                                    Hp Try.prog false (binS .sub 3 (.tmp 118) (.tmp 119) b2_1 t112) (fun t120 h_53 => 
                                                                      Hp Try.prog false (binS .quo 3 (.tmp 121) (.const (.int .i64 8)) t23 (.int .i64 8)) (fun t122 h_54 => 
                                                                        Hp Try.prog false (binS .lss 3 (.tmp 123) (.tmp 124) t117 t120) (fun t125 h_55 => 
                                                                          CondP t125 (
                                                                            Hp Try.prog false (binS .geq 3 (.tmp 126) (.tmp 127) t117 t122) (fun t128 h_56 => 
                                                                              CallsH Try.prog 68 #[data0, a1_1, t112, limit3_2, cmp4] h_56 (fun t134 h_57 => 
                                                                                Hp Try.prog false (binS .add 3 (.tmp 135) (.const (.int .i64 1)) t112 (.int .i64 1)) (fun t136 h_58 => 
                                                                                  k t136 b2_1 limit3_2 t128 t113 h_58) h_57 ⟨⟩) ⟨⟩) h_55 ⟨⟩) (
                                                                            Hp Try.prog false (binS .geq 3 (.tmp 137) (.tmp 138) t120 t122) (fun t139 h_59 => 
                                                                              Hp Try.prog false (binS .add 3 (.tmp 141) (.const (.int .i64 1)) t112 (.int .i64 1)) (fun t142 h_60 => 
                                                                                CallsH Try.prog 68 #[data0, t142, b2_1, limit3_2, cmp4] h_60 (fun t146 h_61 => 
                                                                                  k a1_1 t112 limit3_2 t139 t113 h_61) ⟨⟩) h_59 ⟨⟩) h_55 ⟨⟩) ⟨⟩ ⟨⟩) h_54 ⟨⟩) h_53 ⟨⟩) h_52 ⟨⟩) h_51 ⟨⟩) h_50 ⟨⟩) h_49 ⟨⟩) ⟨⟩) ⟨⟩ ⟨⟩) #[] ⟨⟩) #[] ⟨⟩ ⟨⟩) #[] ⟨⟩ ⟨⟩) h_33 ⟨⟩ ⟨⟩) h_33 ⟨⟩ ⟨⟩) #[] ⟨⟩ ⟨⟩) #[] ⟨⟩ ⟨⟩) #[] ⟨⟩ ⟨⟩) h_33 ⟨⟩ ⟨⟩) #[] ⟨⟩ ⟨⟩) #[] ⟨⟩ ⟨⟩) #[] ⟨⟩ ⟨⟩) #[] ⟨⟩ ⟨⟩) #[] ⟨⟩ ⟨⟩) #[] ⟨⟩) h_22 ⟨⟩ ⟨⟩) h_15 ⟨⟩ ⟨⟩) h_14 ⟨⟩) h_13 ⟨⟩) ⟨⟩) h_6 ⟨⟩ ⟨⟩) ⟨⟩ ⟨⟩) h_4 ⟨⟩) ⟨⟩ ⟨⟩) h_3 ⟨⟩) h_2 ⟨⟩)
      (fun a1_2 b2_2 limit3_3 wasBalanced10_1 wasPartitioned11_1 h_62 =>
      X a1_2 b2_2 limit3_3 wasBalanced10_1 wasPartitioned11_1 h_62) h_1 ⟨⟩ ⟨⟩) [a1, b2, limit3, (.bool true), (.bool true)] h ⟨⟩

theorem n68_calls {data0 a1 b2 limit3 cmp4 : Value} {R : Value → Heap → Prop} {h : Heap} (H : n68 data0 a1 b2 limit3 cmp4 R h) : CallsH Try.prog 68 #[data0, a1, b2, limit3, cmp4] h R ⟨⟩ :=
  callsH_of_eq Try.follow (.n none .l (.n none .l (.n none (.n (some [2, 3, 4, 11, 12]) (.n (some [2, 3, 4, 11, 12]) (.n none .l (.n none .l (.n none .l (.n (some [4]) .l (.n none .l (.n (some [14, 15]) .l (.n (some []) .l .l))))))) .l) .l) .l))) Try.func68 (by kernel_rfl) (by kernel_rfl) (by kernel_rfl) H

/-- slices.Values[[]palimpsest/api.Lock,palimpsest/api.Lock]$1 -/
def n69 (yield0 t1 : Value) (R : Value → Heap → Prop) (h : Heap) : Prop :=
  Hp Try.prog false (Instr.loadAt 22 t1) (fun t5 h_1 => 
    Hp Try.prog false (Builtin.len_ #[22] 3 #[t5]) (fun t6 h_2 => 
      LoopC 1 (fun (X : Value → Heap → Prop) => fun t7 h_3 =>
        Hp Try.prog false (binS .lss 3 (.tmp 7) (.tmp 6) t7 t6) (fun t8 h_4 => 
          CondP t8 (
            Hp Try.prog false (Instr.indexAt 22 t5 t7) (fun t9 h_5 => 
              Hp Try.prog false (Instr.loadAt 29 t9) (fun t10 h_6 => 
                Hp Try.prog false (Instr.alloc 29 true undef) (fun v4 h_7 => 
                  Hp Try.prog false (storeS 29 v4 t10) (fun _ h_8 => 
                    Hp Try.prog false (Instr.loadAt 29 v4) (fun t12 h_9 => 
                      InvokeH Try.prog yield0 #[t12] h_9 (fun t13 h_10 => 
                        Hp Try.prog false (Op.unary .not t13) (fun t14 h_11 => 
                          CondP t14 (
                            R (.tuple #[]) h_11) (
                            Hp Try.prog false (binS .add 3 (.tmp 7) (.const (.int .i64 1)) t7 (.int .i64 1)) (fun t15 h_12 => 
                              X t15 h_12) h_11 ⟨⟩) ⟨⟩ ⟨⟩) h_10 ⟨⟩) ⟨⟩) h_8 ⟨⟩) h_7 ⟨⟩) h_6 ⟨⟩) h_5 ⟨⟩) h_4 ⟨⟩) (
            R (.tuple #[]) h_4) ⟨⟩ ⟨⟩) h_3 ⟨⟩) [(.int .i64 0)] h_2 ⟨⟩) h_1 ⟨⟩) h ⟨⟩

theorem n69_calls {yield0 t1 : Value} {R : Value → Heap → Prop} {h : Heap} (H : n69 yield0 t1 R h) : CallsH Try.prog 69 #[yield0, t1] h R ⟨⟩ :=
  callsH_of_eq Try.follow (.n none .l (.n none (.n (some [8]) .l .l) .l)) Try.func69 (by kernel_rfl) (by kernel_rfl) (by kernel_rfl) H

/-- (palimpsest/locks.line).Less -/
def n105 (l0 i1 k2 : Value) (R : Value → Heap → Prop) (h : Heap) : Prop :=
  Hp Try.prog true (Instr.indexAt 55 l0 i1) (fun t9 _ => 
    Hp Try.prog true (Instr.loadAt 59 t9) (fun t10 _ => 
      Hp Try.prog true (nilS t10) (fun t11 _ => 
        Hp Try.prog true (Instr.fieldAt 63 t11 1) (fun t12 _ => 
          Hp Try.prog true (Instr.loadAt 3 t12) (fun t13 _ => 
            Hp Try.prog true (Instr.indexAt 55 l0 k2) (fun t16 _ => 
              Hp Try.prog true (Instr.loadAt 59 t16) (fun t17 _ => 
                Hp Try.prog true (nilS t17) (fun t18 _ => 
                  Hp Try.prog true (Instr.fieldAt 63 t18 1) (fun t19 _ => 
                    Hp Try.prog true (Instr.loadAt 3 t19) (fun t20 _ => 
                      Hp Try.prog true (binS .lss 3 (.tmp 13) (.tmp 20) t13 t20) (fun t21 _ => 
                        R t21 h) #[] ⟨⟩) h ⟨⟩) #[] ⟨⟩) #[] ⟨⟩) h ⟨⟩) #[] ⟨⟩) h ⟨⟩) #[] ⟨⟩) #[] ⟨⟩) h ⟨⟩) #[] ⟨⟩

theorem n105_calls {l0 i1 k2 : Value} {R : Value → Heap → Prop} {h : Heap} (H : n105 l0 i1 k2 R h) : CallsH Try.prog 105 #[l0, i1, k2] h R ⟨⟩ :=
  callsH_of_eq Try.follow .l Try.func105 (by kernel_rfl) (by kernel_rfl) (by kernel_rfl) H

/-- (palimpsest/locks.line).Swap -/
def n106 (l0 i1 k2 : Value) (R : Value → Heap → Prop) (h : Heap) : Prop :=
  Hp Try.prog true (Instr.indexAt 55 l0 k2) (fun t12 _ => 
    Hp Try.prog true (Instr.loadAt 59 t12) (fun t13 _ => 
      Hp Try.prog true (Instr.indexAt 55 l0 i1) (fun t16 _ => 
        Hp Try.prog true (Instr.loadAt 59 t16) (fun t17 _ => 
          Hp Try.prog true (Instr.indexAt 55 l0 i1) (fun t18 _ => 
            Hp Try.prog false (storeS 59 t18 t13) (fun _ h_1 => 
              Hp Try.prog true (Instr.indexAt 55 l0 k2) (fun t19 _ => 
                Hp Try.prog false (storeS 59 t19 t17) (fun _ h_2 => 
                  R (.tuple #[]) h_2) h_1 ⟨⟩) #[] ⟨⟩) h ⟨⟩) #[] ⟨⟩) h ⟨⟩) #[] ⟨⟩) h ⟨⟩) #[] ⟨⟩

theorem n106_calls {l0 i1 k2 : Value} {R : Value → Heap → Prop} {h : Heap} (H : n106 l0 i1 k2 R h) : CallsH Try.prog 106 #[l0, i1, k2] h R ⟨⟩ :=
  callsH_of_eq Try.follow .l Try.func106 (by kernel_rfl) (by kernel_rfl) (by kernel_rfl) H

/-- (*palimpsest/locks.line).Pop -/
def n107 (l0 : Value) (R : Value → Heap → Prop) (h : Heap) : Prop :=
  Hp Try.prog false (nilS l0) (fun t6 h_1 => 
    Hp Try.prog false (Instr.loadAt 55 t6) (fun t7 h_2 => 
      Hp Try.prog false (Builtin.len_ #[55] 3 #[t7]) (fun t8 h_3 => 
        Hp Try.prog false (binS .sub 3 (.tmp 8) (.const (.int .i64 1)) t8 (.int .i64 1)) (fun t9 h_4 => 
          Hp Try.prog false (nilS l0) (fun t11 h_5 => 
            Hp Try.prog false (Instr.loadAt 55 t11) (fun t12 h_6 => 
              Hp Try.prog false (Instr.indexAt 55 t12 t9) (fun t14 h_7 => 
                Hp Try.prog false (Instr.loadAt 59 t14) (fun t15 h_8 => 
                  Hp Try.prog false (nilS l0) (fun t18 h_9 => 
                    Hp Try.prog false (Instr.loadAt 55 t18) (fun t19 h_10 => 
                      Hp Try.prog false (Instr.sliceAt 55 t19 none (some t9) none) (fun t21 h_11 => 
                        Hp Try.prog false (nilS l0) (fun t22 h_12 => 
                          Hp Try.prog false (storeS 55 t22 t21) (fun _ h_13 => 
                            Hp Try.prog false (Instr.makeInterface 59 t15) (fun t24 h_14 => 
                              R t24 h_14) h_13 ⟨⟩) h_12 ⟨⟩) h_11 ⟨⟩) h_10 ⟨⟩) h_9 ⟨⟩) h_8 ⟨⟩) h_7 ⟨⟩) h_6 ⟨⟩) h_5 ⟨⟩) h_4 ⟨⟩) h_3 ⟨⟩) h_2 ⟨⟩) h_1 ⟨⟩) h ⟨⟩

theorem n107_calls {l0 : Value} {R : Value → Heap → Prop} {h : Heap} (H : n107 l0 R h) : CallsH Try.prog 107 #[l0] h R ⟨⟩ :=
  callsH_of_eq Try.follow .l Try.func107 (by kernel_rfl) (by kernel_rfl) (by kernel_rfl) H

/-- (*palimpsest/locks.line).Push -/
def n108 (l0 x1 : Value) (R : Value → Heap → Prop) (h : Heap) : Prop :=
  Hp Try.prog true (nilS l0) (fun t6 _ => 
    Hp Try.prog true (Instr.loadAt 55 t6) (fun t7 _ => 
      Hp Try.prog false (Instr.typeAssert x1 20 59 false) (fun t9 h_1 => Hp Try.prog true (Instr.loadAt 55 t6) (fun u _ => u = t7) h_1 ⟨⟩ ∧ 
        Hp Try.prog false (Instr.buildSlice 55 1 #[(0, t9)]) (fun t10 h_2 => Hp Try.prog true (Instr.loadAt 55 t6) (fun u _ => u = t7) h_2 ⟨⟩ ∧ 
          Hp Try.prog false (Builtin.append_ #[55, 55] 55 #[t7, t10]) (fun t11 h_3 => 
            Hp Try.prog true (nilS l0) (fun t12 _ => 
              Hp Try.prog false (storeS 55 t12 t11) (fun _ h_4 => 
                R (.tuple #[]) h_4) h_3 ⟨⟩) #[] ⟨⟩) h_2 ⟨⟩) h_1 ⟨⟩) h ⟨⟩) h ⟨⟩) #[] ⟨⟩

theorem n108_calls {l0 x1 : Value} {R : Value → Heap → Prop} {h : Heap} (H : n108 l0 x1 R h) : CallsH Try.prog 108 #[l0, x1] h R ⟨⟩ :=
  callsH_of_eq Try.follow .l Try.func108 (by kernel_rfl) (by kernel_rfl) (by kernel_rfl) H

end Go.Proofs.Ytlligpgjkmfhpaa

/- Printed by wip/tools/gen.py: the condition of each function, and that a call meets it. -/
import Derived.Test.YtlligpgjkmfhpaaVcFun
import Derived.Test.YtlligpgjkmfhpaaProg
import Derived.Test.YtlligpgjkmfhpaaNiceL
set_option maxRecDepth 100000
set_option linter.unusedVariables false
namespace Go.Proofs.Ytlligpgjkmfhpaa
open Go.Vc

/-- slices.Sort[[]int,int] -/
def n38 (x0 : Value) (R : Value → Heap → Prop) (h : Heap) : Prop :=
  Hp Try.prog false (Builtin.len_ #[23] 3 #[x0]) (fun t4 h_1 => 
    Hp Try.prog false (convert 3 91 t4) (fun t8 h_2 => 
      CallsH Try.prog 53 #[t8] h_2 (fun t9 h_3 => 
        CallsH Try.prog 52 #[x0, (.int .i64 0), t4, t9] h_3 (fun t10 h_4 => 
          R (.tuple #[]) h_4) ⟨⟩) ⟨⟩) h_1 ⟨⟩) h ⟨⟩

theorem n38_calls {x0 : Value} {R : Value → Heap → Prop} {h : Heap} (H : n38 x0 R h) : CallsH Try.prog 38 #[x0] h R ⟨⟩ :=
  callsH_of_eq Try.follow .l Try.func38 (by kernel_rfl) (by kernel_rfl) (by kernel_rfl) H

/-- slices.pdqsortOrdered[int] -/
def n52 (data0 a1 b2 limit3 : Value) (R : Value → Heap → Prop) (h : Heap) : Prop :=
  LoopC 5 (fun (X : Value → Value → Value → Value → Value → Heap → Prop) => fun a1_1 b2_1 limit3_1 wasBalanced8 wasPartitioned9 h_1 =>
    JoinN 5 (fun (k : Value → Value → Value → Value → Value → Heap → Prop) h_2 =>
      Hp Try.prog false (binS .sub 3 (.tmp 19) (.tmp 20) b2_1 a1_1) (fun t21 h_3 => 
        Hp Try.prog false (binS .leq 3 (.tmp 22) (.const (.int .i64 12)) t21 (.int .i64 12)) (fun t23 h_4 => 
          CondP t23 (
            CallsH Try.prog 57 #[data0, a1_1, b2_1] h_4 (fun t27 h_5 => 
              R (.tuple #[]) h_5) ⟨⟩) (
            Hp Try.prog false (binS .eql 3 (.tmp 28) (.const (.int .i64 0)) limit3_1 (.int .i64 0)) (fun t29 h_6 => 
              CondP t29 (
                CallsH Try.prog 58 #[data0, a1_1, b2_1] h_6 (fun t33 h_7 => 
                  R (.tuple #[]) h_7) ⟨⟩) (
                JoinN 1 (fun (k_1 : Value → Heap → Prop) h_8 =>
                  Hp Try.prog false (Op.unary .not wasBalanced8) (fun t35 h_9 => 
                    CondP t35 (
                      CallsH Try.prog 59 #[data0, a1_1, b2_1] h_9 (fun t39 h_10 => 
                        Hp Try.prog false (binS .sub 3 (.tmp 40) (.const (.int .i64 1)) limit3_1 (.int .i64 1)) (fun t41 h_11 => 
                          k_1 t41 h_11) h_10 ⟨⟩) ⟨⟩) (
                      k_1 limit3_1 h_9) ⟨⟩ ⟨⟩) h_8 ⟨⟩)
                  (fun limit3_2 h_12 =>
                  CallsH Try.prog 60 #[data0, a1_1, b2_1] h_12 (fun t46 h_13 => 
                    Hp Try.prog false (Instr.extract t46 0) (fun t47 h_14 => 
                      Hp Try.prog false (Instr.extract t46 1) (fun t48 h_15 => 
                        JoinN 2 (fun (k_2 : Value → Value → Heap → Prop) h_16 =>
                          Hp Try.prog false (binS .eql 96 (.tmp 49) (.const (.int .i64 2)) t48 (.int .i64 2)) (fun t50 h_17 => 
                            CondP t50 (
                              CallsH Try.prog 61 #[data0, a1_1, b2_1] h_17 (fun t54 h_18 => 
                                Hp Try.prog false (binS .sub 3 (.tmp 55) (.const (.int .i64 1)) b2_1 (.int .i64 1)) (fun t56 h_19 => 
                                  Hp Try.prog false (binS .sub 3 (.tmp 57) (.tmp 58) t47 a1_1) (fun t59 h_20 => 
                                    Hp Try.prog false (binS .sub 3 (.tmp 56) (.tmp 59) t56 t59) (fun t60 h_21 => 
                                      k_2 t60 (.int .i64 1) h_21) h_20 ⟨⟩) h_19 ⟨⟩) h_18 ⟨⟩) ⟨⟩) (
                              k_2 t47 t48 h_17) ⟨⟩ ⟨⟩) h_16 ⟨⟩)
                          (fun pivot11 hint12 h_22 =>
                          JoinN 0 (fun (k_3 : Heap → Prop) h_23 =>
                            Join1 (fun k_4 h_24 => guardP wasBalanced8 true (k_4 wasPartitioned9 h_24) (k_4 undef h_24) ⟨⟩ ⟨⟩) (fun t63 h_25 => 
                              Hp Try.prog false (pickS wasBalanced8 t63 (.bool false)) (fun t64 h_26 => 
                                Join1 (fun k_5 h_27 => guardP t64 true (k_5 hint12 h_27) (k_5 undef h_27) ⟨⟩ ⟨⟩) (fun t66 h_28 => 
                                  Join1 (fun k_6 h_29 => guardP t64 true (Hp Try.prog false (binS .eql 96 (.tmp 66) (.const (.int .i64 1)) t66 (.int .i64 1)) k_6 h_29 ⟨⟩) (k_6 undef h_29) ⟨⟩ ⟨⟩) (fun t67 h_30 => 
                                    Hp Try.prog false (pickS t64 t67 (.bool false)) (fun t68 h_31 => 
                                      CondP t68 (
                                        CallsH Try.prog 62 #[data0, a1_1, b2_1] h_31 (fun t72 h_32 => 
                                          CondP t72 (
                                            R (.tuple #[]) h_32) (
                                            k_3 h_32) ⟨⟩ ⟨⟩) ⟨⟩) (
                                        k_3 h_31) ⟨⟩ ⟨⟩) h_30 ⟨⟩) h_28 ⟨⟩ ⟨⟩) h_26 ⟨⟩ ⟨⟩) h_25 ⟨⟩) h_23 ⟨⟩ ⟨⟩)
                            (fun h_33 =>
                            Hp Try.prog true (binS .gtr 3 (.tmp 73) (.const (.int .i64 0)) a1_1 (.int .i64 0)) (fun t74 _ => 
                              Join1 (fun k_7 h_34 => guardP t74 true (k_7 data0 h_34) (k_7 undef h_34) ⟨⟩ ⟨⟩) (fun t76 _ => 
                                Join1 (fun k_8 h_35 => guardP t74 true (k_8 a1_1 h_35) (k_8 undef h_35) ⟨⟩ ⟨⟩) (fun t77 _ => 
                                  Join1 (fun k_9 h_36 => guardP t74 true (Hp Try.prog true (binS .sub 3 (.tmp 77) (.const (.int .i64 1)) t77 (.int .i64 1)) k_9 h_36 ⟨⟩) (k_9 undef h_36) ⟨⟩ ⟨⟩) (fun t78 _ => 
                                    Join1 (fun k_10 h_37 => guardP t74 true (Hp Try.prog true (Instr.indexAt 23 t76 t78) k_10 h_37 ⟨⟩) (k_10 undef h_37) ⟨⟩ ⟨⟩) (fun t79 _ => 
                                      Join1 (fun k_11 h_38 => guardP t74 true (Hp Try.prog true (Instr.loadAt 3 t79) k_11 h_38 ⟨⟩) (k_11 undef h_38) ⟨⟩ ⟨⟩) (fun t80 _ => 
                                        Join1 (fun k_12 h_39 => guardP t74 true (k_12 data0 h_39) (k_12 undef h_39) ⟨⟩ ⟨⟩) (fun t81 _ => 
                                          Join1 (fun k_13 h_40 => guardP t74 true (k_13 pivot11 h_40) (k_13 undef h_40) ⟨⟩ ⟨⟩) (fun t82 _ => 
                                            Join1 (fun k_14 h_41 => guardP t74 true (Hp Try.prog true (Instr.indexAt 23 t81 t82) k_14 h_41 ⟨⟩) (k_14 undef h_41) ⟨⟩ ⟨⟩) (fun t83 _ => 
                                              Join1 (fun k_15 h_42 => guardP t74 true (Hp Try.prog true (Instr.loadAt 3 t83) k_15 h_42 ⟨⟩) (k_15 undef h_42) ⟨⟩ ⟨⟩) (fun t84 _ => 
                                                Join1 (fun k_16 h_43 => guardP t74 true (CallsH Try.prog 63 #[t80, t84] h_43 k_16 ⟨⟩) (k_16 undef h_43) ⟨⟩ ⟨⟩) (fun t85 h_44 => 
                                                  Join1 (fun k_17 h_45 => guardP t74 true (Hp Try.prog true (Op.unary .not t85) k_17 h_45 ⟨⟩) (k_17 undef h_45) ⟨⟩ ⟨⟩) (fun t86 _ => 
                                                    Hp Try.prog true (pickS t74 t86 (.bool false)) (fun t87 _ => 
                                                      CondP t87 (
                                                        CallsH Try.prog 64 #[data0, a1_1, b2_1, pivot11] h_44 (fun t92 h_46 => 
                                                          k t92 b2_1 limit3_2 wasBalanced8 wasPartitioned9 h_46) ⟨⟩) (
                                                        CallsH Try.prog 65 #[data0, a1_1, b2_1, pivot11] h_44 (fun t99 h_47 => 
                                                          Hp Try.prog false (Instr.extract t99 0) (fun t100 h_48 => 
                                                            Hp Try.prog false (Instr.extract t99 1) (fun t101 h_49 => 
                                                              Hp Try.prog false (binS .sub 3 (.tmp 103) (.tmp 104) t100 a1_1) (fun t105 h_50 => 
                                                                Hp Try.prog false (binS .sub 3 (.tmp 106) (.tmp 107) b2_1 t100) (fun t108 h_51 => 
                                                                  Hp Try.prog false (binS .quo 3 (.tmp 109) (.const (.int .i64 8)) t21 (.int .i64 8)) (fun t110 h_52 => 
                                                                    Hp Try.prog false (binS .lss 3 (.tmp 111) (.tmp 112) t105 t108) (fun t113 h_53 => 
                                                                      CondP t113 (
                                                                        Hp Try.prog false (binS .geq 3 (.tmp 114) (.tmp 115) t105 t110) (fun t116 h_54 => 
                                                                          CallsH Try.prog 52 #[data0, a1_1, t100, limit3_2] h_54 (fun t121 h_55 => 
                                                                            Hp Try.prog false (binS .add 3 (.tmp 122) (.const (.int .i64 1)) t100 (.int .i64 1)) (fun t123 h_56 => 
                                                                              k t123 b2_1 limit3_2 t116 t101 h_56) h_55 ⟨⟩) ⟨⟩) h_53 ⟨⟩) (
                                                                        Hp Try.prog false (binS .geq 3 (.tmp 124) (.tmp 125) t108 t110) (fun t126 h_57 => 
                                                                          Hp Try.prog false (binS .add 3 (.tmp 128) (.const (.int .i64 1)) t100 (.int .i64 1)) (fun t129 h_58 => 
                                                                            CallsH Try.prog 52 #[data0, t129, b2_1, limit3_2] h_58 (fun t132 h_59 => 
                                                                              k a1_1 t100 limit3_2 t126 t101 h_59) ⟨⟩) h_57 ⟨⟩) h_53 ⟨⟩) ⟨⟩ ⟨⟩) h_52 ⟨⟩) h_51 ⟨⟩) h_50 ⟨⟩) h_49 ⟨⟩) h_48 ⟨⟩) h_47 ⟨⟩) ⟨⟩) ⟨⟩ ⟨⟩) #[] ⟨⟩) #[] ⟨⟩ ⟨⟩) h_33 ⟨⟩ ⟨⟩) h_33 ⟨⟩ ⟨⟩) #[] ⟨⟩ ⟨⟩) #[] ⟨⟩ ⟨⟩) #[] ⟨⟩ ⟨⟩) h_33 ⟨⟩ ⟨⟩) #[] ⟨⟩ ⟨⟩) #[] ⟨⟩ ⟨⟩) #[] ⟨⟩ ⟨⟩) #[] ⟨⟩ ⟨⟩) #[] ⟨⟩) h_22 ⟨⟩ ⟨⟩) h_15 ⟨⟩ ⟨⟩) h_14 ⟨⟩) h_13 ⟨⟩) ⟨⟩) h_6 ⟨⟩ ⟨⟩) ⟨⟩ ⟨⟩) h_4 ⟨⟩) ⟨⟩ ⟨⟩) h_3 ⟨⟩) h_2 ⟨⟩)
      (fun a1_2 b2_2 limit3_3 wasBalanced8_1 wasPartitioned9_1 h_60 =>
      X a1_2 b2_2 limit3_3 wasBalanced8_1 wasPartitioned9_1 h_60) h_1 ⟨⟩ ⟨⟩) [a1, b2, limit3, (.bool true), (.bool true)] h ⟨⟩

theorem n52_calls {data0 a1 b2 limit3 : Value} {R : Value → Heap → Prop} {h : Heap} (H : n52 data0 a1 b2 limit3 R h) : CallsH Try.prog 52 #[data0, a1, b2, limit3] h R ⟨⟩ :=
  callsH_of_eq Try.follow (.n none .l (.n none .l (.n none (.n (some [2, 3, 4, 9, 10]) (.n (some [2, 3, 4, 9, 10]) (.n none .l (.n none .l (.n none .l (.n (some [4]) .l (.n none .l (.n (some [12, 13]) .l (.n (some []) .l .l))))))) .l) .l) .l))) Try.func52 (by kernel_rfl) (by kernel_rfl) (by kernel_rfl) H

/-- math/bits.Len -/
def n53 (x0 : Value) (R : Value → Heap → Prop) (h : Heap) : Prop :=
  CondP (.bool false) (
    Hp Try.prog false (convert 91 104 x0) (fun t4 h_1 => 
      CallsH Try.prog 66 #[t4] h_1 (fun t5 h_2 => 
        R t5 h_2) ⟨⟩) h ⟨⟩) (
    CallsH Try.prog 67 #[x0] h (fun t7 h_3 => 
      R t7 h_3) ⟨⟩) ⟨⟩ ⟨⟩

theorem n53_calls {x0 : Value} {R : Value → Heap → Prop} {h : Heap} (H : n53 x0 R h) : CallsH Try.prog 53 #[x0] h R ⟨⟩ :=
  callsH_of_eq Try.follow .l Try.func53 (by kernel_rfl) (by kernel_rfl) (by kernel_rfl) H

/-- slices.insertionSortOrdered[int] -/
def n57 (data0 a1 b2 : Value) (R : Value → Heap → Prop) (h : Heap) : Prop :=
  Hp Try.prog false (binS .add 3 (.tmp 8) (.const (.int .i64 1)) a1 (.int .i64 1)) (fun t9 h_1 => 
    LoopC 1 (fun (X : Value → Heap → Prop) => fun i6 h_2 =>
      Hp Try.prog false (binS .lss 3 (.tmp 10) (.tmp 11) i6 b2) (fun t12 h_3 => 
        CondP t12 (
          LoopC 1 (fun (X_1 : Value → Heap → Prop) => fun j7 h_4 =>
            Hp Try.prog true (binS .gtr 3 (.tmp 16) (.tmp 17) j7 a1) (fun t18 _ => 
              Join1 (fun k h_5 => guardP t18 true (k data0 h_5) (k undef h_5) ⟨⟩ ⟨⟩) (fun t20 _ => 
                Join1 (fun k_1 h_6 => guardP t18 true (k_1 j7 h_6) (k_1 undef h_6) ⟨⟩ ⟨⟩) (fun t21 _ => 
                  Join1 (fun k_2 h_7 => guardP t18 true (Hp Try.prog true (Instr.indexAt 23 t20 t21) k_2 h_7 ⟨⟩) (k_2 undef h_7) ⟨⟩ ⟨⟩) (fun t22 _ => 
                    Join1 (fun k_3 h_8 => guardP t18 true (Hp Try.prog true (Instr.loadAt 3 t22) k_3 h_8 ⟨⟩) (k_3 undef h_8) ⟨⟩ ⟨⟩) (fun t23 _ => 
                      Join1 (fun k_4 h_9 => guardP t18 true (k_4 data0 h_9) (k_4 undef h_9) ⟨⟩ ⟨⟩) (fun t24 _ => 
                        Join1 (fun k_5 h_10 => guardP t18 true (k_5 j7 h_10) (k_5 undef h_10) ⟨⟩ ⟨⟩) (fun t25 _ => 
                          Join1 (fun k_6 h_11 => guardP t18 true (Hp Try.prog true (binS .sub 3 (.tmp 25) (.const (.int .i64 1)) t25 (.int .i64 1)) k_6 h_11 ⟨⟩) (k_6 undef h_11) ⟨⟩ ⟨⟩) (fun t26 _ => 
                            Join1 (fun k_7 h_12 => guardP t18 true (Hp Try.prog true (Instr.indexAt 23 t24 t26) k_7 h_12 ⟨⟩) (k_7 undef h_12) ⟨⟩ ⟨⟩) (fun t27 _ => 
                              Join1 (fun k_8 h_13 => guardP t18 true (Hp Try.prog true (Instr.loadAt 3 t27) k_8 h_13 ⟨⟩) (k_8 undef h_13) ⟨⟩ ⟨⟩) (fun t28 _ => 
                                Join1 (fun k_9 h_14 => guardP t18 true (CallsH Try.prog 63 #[t23, t28] h_14 k_9 ⟨⟩) (k_9 undef h_14) ⟨⟩ ⟨⟩) (fun t29 h_15 => 
                                  Hp Try.prog true (pickS t18 t29 (.bool false)) (fun t30 _ => 
                                    CondP t30 (
                                      Hp Try.prog true (binS .sub 3 (.tmp 36) (.const (.int .i64 1)) j7 (.int .i64 1)) (fun t37 _ => 
                                        Hp Try.prog true (binS .sub 3 (.tmp 39) (.const (.int .i64 1)) j7 (.int .i64 1)) (fun t40 _ => 
                                          Hp Try.prog true (Instr.indexAt 23 data0 t40) (fun t41 _ => 
                                            Hp Try.prog true (Instr.loadAt 3 t41) (fun t42 _ => 
                                              Hp Try.prog true (Instr.indexAt 23 data0 j7) (fun t45 _ => 
                                                Hp Try.prog true (Instr.loadAt 3 t45) (fun t46 _ => 
                                                  Hp Try.prog true (Instr.indexAt 23 data0 j7) (fun t47 _ => 
                                                    Hp Try.prog false (storeS 3 t47 t42) (fun _ h_16 => 
                                                      Hp Try.prog true (Instr.indexAt 23 data0 t37) (fun t48 _ => 
                                                        Hp Try.prog false (storeS 3 t48 t46) (fun _ h_17 => 
                                                          Hp Try.prog false (binS .sub 3 (.tmp 31) (.const (.int .i64 1)) j7 (.int .i64 1)) (fun t32 h_18 => 
                                                            X_1 t32 h_18) h_17 ⟨⟩) h_16 ⟨⟩) #[] ⟨⟩) h_15 ⟨⟩) #[] ⟨⟩) h_15 ⟨⟩) #[] ⟨⟩) h_15 ⟨⟩) #[] ⟨⟩) #[] ⟨⟩) #[] ⟨⟩) (
                                      Hp Try.prog false (binS .add 3 (.tmp 13) (.const (.int .i64 1)) i6 (.int .i64 1)) (fun t14 h_19 => 
                                        X t14 h_19) h_15 ⟨⟩) ⟨⟩ ⟨⟩) #[] ⟨⟩) h_4 ⟨⟩ ⟨⟩) h_4 ⟨⟩ ⟨⟩) #[] ⟨⟩ ⟨⟩) #[] ⟨⟩ ⟨⟩) #[] ⟨⟩ ⟨⟩) #[] ⟨⟩ ⟨⟩) h_4 ⟨⟩ ⟨⟩) #[] ⟨⟩ ⟨⟩) #[] ⟨⟩ ⟨⟩) #[] ⟨⟩ ⟨⟩) #[] ⟨⟩) [i6] h_3 ⟨⟩) (
          R (.tuple #[]) h_3) ⟨⟩ ⟨⟩) h_2 ⟨⟩) [t9] h_1 ⟨⟩) h ⟨⟩

theorem n57_calls {data0 a1 b2 : Value} {R : Value → Heap → Prop} {h : Heap} (H : n57 data0 a1 b2 R h) : CallsH Try.prog 57 #[data0, a1, b2] h R ⟨⟩ :=
  callsH_of_eq Try.follow (.n none .l (.n none (.n (some [7]) (.n none .l (.n none (.n none (.n none .l (.n none (.n (some [8]) .l .l) .l)) .l) .l)) .l) .l)) Try.func57 (by kernel_rfl) (by kernel_rfl) (by kernel_rfl) H

/-- slices.heapSortOrdered[int] -/
def n58 (data0 a1 b2 : Value) (R : Value → Heap → Prop) (h : Heap) : Prop :=
  Hp Try.prog false (binS .sub 3 (.tmp 12) (.tmp 13) b2 a1) (fun t14 h_1 => 
    Hp Try.prog false (binS .sub 3 (.tmp 15) (.const (.int .i64 1)) t14 (.int .i64 1)) (fun t16 h_2 => 
      Hp Try.prog false (binS .quo 3 (.tmp 16) (.const (.int .i64 2)) t16 (.int .i64 2)) (fun t17 h_3 => 
        LoopC 1 (fun (X : Value → Heap → Prop) => fun i9 h_4 =>
          Hp Try.prog false (binS .geq 3 (.tmp 18) (.const (.int .i64 0)) i9 (.int .i64 0)) (fun t19 h_5 => 
            CondP t19 (
              CallsH Try.prog 70 #[data0, i9, t14, a1] h_5 (fun t26 h_6 => 
                Hp Try.prog false (binS .sub 3 (.tmp 20) (.const (.int .i64 1)) i9 (.int .i64 1)) (fun t21 h_7 => 
                  X t21 h_7) h_6 ⟨⟩) ⟨⟩) (
              Hp Try.prog false (binS .sub 3 (.tmp 27) (.const (.int .i64 1)) t14 (.int .i64 1)) (fun t28 h_8 => 
                LoopC 1 (fun (X_1 : Value → Heap → Prop) => fun i10 h_9 =>
                  Hp Try.prog false (binS .geq 3 (.tmp 29) (.const (.int .i64 0)) i10 (.int .i64 0)) (fun t30 h_10 => 
                    CondP t30 (
                      Hp Try.prog true (binS .add 3 (.tmp 36) (.tmp 37) a1 i10) (fun t38 _ => 
                        Hp Try.prog true (binS .add 3 (.tmp 40) (.tmp 41) a1 i10) (fun t42 _ => 
                          Hp Try.prog true (Instr.indexAt 23 data0 t42) (fun t43 _ => 
                            Hp Try.prog true (Instr.loadAt 3 t43) (fun t44 _ => 
                              Hp Try.prog true (Instr.indexAt 23 data0 a1) (fun t47 _ => 
                                Hp Try.prog true (Instr.loadAt 3 t47) (fun t48 _ => 
                                  Hp Try.prog true (Instr.indexAt 23 data0 a1) (fun t49 _ => 
                                    Hp Try.prog false (storeS 3 t49 t44) (fun _ h_11 => 
                                      Hp Try.prog true (Instr.indexAt 23 data0 t38) (fun t50 _ => 
                                        Hp Try.prog false (storeS 3 t50 t48) (fun _ h_12 => 
                                          CallsH Try.prog 70 #[data0, (.int .i64 0), i10, a1] h_12 (fun t55 h_13 => 
                                            Hp Try.prog false (binS .sub 3 (.tmp 31) (.const (.int .i64 1)) i10 (.int .i64 1)) (fun t32 h_14 => 
                                              X_1 t32 h_14) h_13 ⟨⟩) ⟨⟩) h_11 ⟨⟩) #[] ⟨⟩) h_10 ⟨⟩) #[] ⟨⟩) h_10 ⟨⟩) #[] ⟨⟩) h_10 ⟨⟩) #[] ⟨⟩) #[] ⟨⟩) #[] ⟨⟩) (
                      R (.tuple #[]) h_10) ⟨⟩ ⟨⟩) h_9 ⟨⟩) [t28] h_8 ⟨⟩) h_5 ⟨⟩) ⟨⟩ ⟨⟩) h_4 ⟨⟩) [t17] h_3 ⟨⟩) h_2 ⟨⟩) h_1 ⟨⟩) h ⟨⟩

theorem n58_calls {data0 a1 b2 : Value} {R : Value → Heap → Prop} {h : Heap} (H : n58 data0 a1 b2 R h) : CallsH Try.prog 58 #[data0, a1, b2] h R ⟨⟩ :=
  callsH_of_eq Try.follow (.n none .l (.n none .l (.n none .l (.n none (.n none .l (.n none (.n (some [10]) .l .l) .l)) (.n none .l (.n none (.n (some [11]) .l .l) .l)))))) Try.func58 (by kernel_rfl) (by kernel_rfl) (by kernel_rfl) H

/-- slices.breakPatternsOrdered[int] -/
def n59 (data0 a1 b2 : Value) (R : Value → Heap → Prop) (h : Heap) : Prop :=
  Hp Try.prog false (binS .sub 3 (.tmp 11) (.tmp 12) b2 a1) (fun t13 h_1 => 
    Hp Try.prog false (binS .geq 3 (.tmp 14) (.const (.int .i64 8)) t13 (.int .i64 8)) (fun t15 h_2 => 
      CondP t15 (
        Hp Try.prog false (convert 3 108 t13) (fun t17 h_3 => 
          Hp Try.prog false (Instr.alloc 108 true undef) (fun random7 h_4 => 
            Hp Try.prog false (storeS 108 random7 t17) (fun _ h_5 => 
              CallsH Try.prog 71 #[t13] h_5 (fun t19 h_6 => 
                Hp Try.prog false (binS .quo 3 (.tmp 21) (.const (.int .i64 4)) t13 (.int .i64 4)) (fun t22 h_7 => 
                  Hp Try.prog false (binS .mul 3 (.tmp 22) (.const (.int .i64 2)) t22 (.int .i64 2)) (fun t23 h_8 => 
                    Hp Try.prog false (binS .add 3 (.tmp 20) (.tmp 23) a1 t23) (fun t24 h_9 => 
                      Hp Try.prog false (binS .sub 3 (.tmp 24) (.const (.int .i64 1)) t24 (.int .i64 1)) (fun t25 h_10 => 
                        LoopC 1 (fun (X : Value → Heap → Prop) => fun idx9 h_11 =>
                          Hp Try.prog false (binS .quo 3 (.tmp 28) (.const (.int .i64 4)) t13 (.int .i64 4)) (fun t29 h_12 => 
                            Hp Try.prog false (binS .mul 3 (.tmp 29) (.const (.int .i64 2)) t29 (.int .i64 2)) (fun t30 h_13 => 
                              Hp Try.prog false (binS .add 3 (.tmp 27) (.tmp 30) a1 t30) (fun t31 h_14 => 
                                Hp Try.prog false (binS .add 3 (.tmp 31) (.const (.int .i64 1)) t31 (.int .i64 1)) (fun t32 h_15 => 
                                  Hp Try.prog false (binS .leq 3 (.tmp 26) (.tmp 32) idx9 t32) (fun t33 h_16 => 
                                    CondP t33 (
                                      CallsH Try.prog 72 #[random7] h_16 (fun t36 h_17 => 
                                        Hp Try.prog false (binS .sub 91 (.tmp 37) (.const (.int .u64 1)) t19 (.int .u64 1)) (fun t38 h_18 => 
                                          Hp Try.prog false (binS .and 91 (.tmp 36) (.tmp 38) t36 t38) (fun t39 h_19 => 
                                            Hp Try.prog false (convert 91 3 t39) (fun t40 h_20 => 
                                              JoinN 1 (fun (k : Value → Heap → Prop) h_21 =>
                                                Hp Try.prog false (binS .geq 3 (.tmp 41) (.tmp 42) t40 t13) (fun t43 h_22 => 
                                                  CondP t43 (
                                                    Hp Try.prog false (binS .sub 3 (.tmp 44) (.tmp 45) t40 t13) (fun t46 h_23 => 
                                                      k t46 h_23) h_22 ⟨⟩) (
                                                    k t40 h_22) ⟨⟩ ⟨⟩) h_21 ⟨⟩)
                                                (fun other10 h_24 =>
                                                Hp Try.prog true (binS .add 3 (.tmp 50) (.tmp 51) a1 other10) (fun t52 _ => 
                                                  Hp Try.prog true (binS .add 3 (.tmp 54) (.tmp 55) a1 other10) (fun t56 _ => 
                                                    Hp Try.prog true (Instr.indexAt 23 data0 t56) (fun t57 _ => 
                                                      Hp Try.prog true (Instr.loadAt 3 t57) (fun t58 _ => 
                                                        Hp Try.prog true (Instr.indexAt 23 data0 idx9) (fun t61 _ => 
                                                          Hp Try.prog true (Instr.loadAt 3 t61) (fun t62 _ => 
                                                            Hp Try.prog true (Instr.indexAt 23 data0 idx9) (fun t63 _ => 
                                                              Hp Try.prog false (storeS 3 t63 t58) (fun _ h_25 => 
                                                                Hp Try.prog true (Instr.indexAt 23 data0 t52) (fun t64 _ => 
                                                                  Hp Try.prog false (storeS 3 t64 t62) (fun _ h_26 => 
                                                                    Hp Try.prog false (binS .add 3 (.tmp 34) (.const (.int .i64 1)) idx9 (.int .i64 1)) (fun t35 h_27 => 
                                                                      X t35 h_27) h_26 ⟨⟩) h_25 ⟨⟩) #[] ⟨⟩) h_24 ⟨⟩) #[] ⟨⟩) h_24 ⟨⟩) #[] ⟨⟩) h_24 ⟨⟩) #[] ⟨⟩) #[] ⟨⟩) #[] ⟨⟩) h_20 ⟨⟩ ⟨⟩) h_19 ⟨⟩) h_18 ⟨⟩) h_17 ⟨⟩) ⟨⟩) (
                                      R (.tuple #[]) h_16) ⟨⟩ ⟨⟩) h_15 ⟨⟩) h_14 ⟨⟩) h_13 ⟨⟩) h_12 ⟨⟩) h_11 ⟨⟩) [t25] h_10 ⟨⟩) h_9 ⟨⟩) h_8 ⟨⟩) h_7 ⟨⟩) h_6 ⟨⟩) ⟨⟩) h_4 ⟨⟩) h_3 ⟨⟩) h_2 ⟨⟩) (
        R (.tuple #[]) h_2) ⟨⟩ ⟨⟩) h_1 ⟨⟩) h ⟨⟩

theorem n59_calls {data0 a1 b2 : Value} {R : Value → Heap → Prop} {h : Heap} (H : n59 data0 a1 b2 R h) : CallsH Try.prog 59 #[data0, a1, b2] h R ⟨⟩ :=
  callsH_of_eq Try.follow (.n none .l (.n none .l (.n none (.n none .l (.n none .l (.n none .l (.n none (.n (some [10]) (.n none .l (.n none (.n none (.n none .l (.n (some [11]) .l .l)) .l) .l)) .l) .l)))) .l))) Try.func59 (by kernel_rfl) (by kernel_rfl) (by kernel_rfl) H

/-- slices.choosePivotOrdered[int] -/
def n60 (data0 a1 b2 : Value) (R : Value → Heap → Prop) (h : Heap) : Prop :=
  Hp Try.prog false (binS .sub 3 (.tmp 13) (.tmp 14) b2 a1) (fun t15 h_1 => 
    Hp Try.prog false (Instr.alloc 3 true undef) (fun swaps9 h_2 => 
      Hp Try.prog false (binS .quo 3 (.tmp 17) (.const (.int .i64 4)) t15 (.int .i64 4)) (fun t18 h_3 => 
        Hp Try.prog false (binS .mul 3 (.tmp 18) (.const (.int .i64 1)) t18 (.int .i64 1)) (fun t19 h_4 => 
          Hp Try.prog false (binS .add 3 (.tmp 16) (.tmp 19) a1 t19) (fun t20 h_5 => 
            Hp Try.prog false (binS .quo 3 (.tmp 22) (.const (.int .i64 4)) t15 (.int .i64 4)) (fun t23 h_6 => 
              Hp Try.prog false (binS .mul 3 (.tmp 23) (.const (.int .i64 2)) t23 (.int .i64 2)) (fun t24 h_7 => 
                Hp Try.prog false (binS .add 3 (.tmp 21) (.tmp 24) a1 t24) (fun t25 h_8 => 
                  Hp Try.prog false (binS .quo 3 (.tmp 27) (.const (.int .i64 4)) t15 (.int .i64 4)) (fun t28 h_9 => 
                    Hp Try.prog false (binS .mul 3 (.tmp 28) (.const (.int .i64 3)) t28 (.int .i64 3)) (fun t29 h_10 => 
                      Hp Try.prog false (binS .add 3 (.tmp 26) (.tmp 29) a1 t29) (fun t30 h_11 => 
                        JoinN 1 (fun (k : Value → Heap → Prop) h_12 =>
                          Hp Try.prog false (binS .geq 3 (.tmp 31) (.const (.int .i64 8)) t15 (.int .i64 8)) (fun t32 h_13 => 
                            CondP t32 (
                              JoinN 3 (fun (k_1 : Value → Value → Value → Heap → Prop) h_14 =>
                                Hp Try.prog false (binS .geq 3 (.tmp 33) (.const (.int .i64 50)) t15 (.int .i64 50)) (fun t34 h_15 => 
                                  CondP t34 (
                                    CallsH Try.prog 73 #[data0, t20, swaps9] h_15 (fun t37 h_16 => 
                                      CallsH Try.prog 73 #[data0, t25, swaps9] h_16 (fun t40 h_17 => 
                                        CallsH Try.prog 73 #[data0, t30, swaps9] h_17 (fun t43 h_18 => 
                                          k_1 t37 t40 t43 h_18) ⟨⟩) ⟨⟩) ⟨⟩) (
                                    k_1 t20 t25 t30 h_15) ⟨⟩ ⟨⟩) h_14 ⟨⟩)
                                (fun i10 j11 k12 h_19 =>
                                CallsH Try.prog 74 #[data0, i10, j11, k12, swaps9] h_19 (fun t48 h_20 => 
                                  k t48 h_20) ⟨⟩) h_13 ⟨⟩ ⟨⟩) (
                              k t25 h_13) ⟨⟩ ⟨⟩) h_12 ⟨⟩)
                          (fun j11_1 h_21 =>
                          Hp Try.prog false (Instr.loadAt 3 swaps9) (fun t49 h_22 => 
                            Hp Try.prog false (binS .eql 3 (.tmp 49) (.const (.int .i64 0)) t49 (.int .i64 0)) (fun t52 h_23 => 
                              CondP t52 (
                                R (.tuple #[j11_1, (.int .i64 1)]) h_23) (
                                Hp Try.prog false (binS .eql 3 (.tmp 49) (.const (.int .i64 12)) t49 (.int .i64 12)) (fun t55 h_24 => 
                                  CondP t55 (
                                    R (.tuple #[j11_1, (.int .i64 2)]) h_24) (
                                    R (.tuple #[j11_1, (.int .i64 0)]) h_24) ⟨⟩ ⟨⟩) h_23 ⟨⟩) ⟨⟩ ⟨⟩) h_22 ⟨⟩) h_21 ⟨⟩) h_11 ⟨⟩ ⟨⟩) h_10 ⟨⟩) h_9 ⟨⟩) h_8 ⟨⟩) h_7 ⟨⟩) h_6 ⟨⟩) h_5 ⟨⟩) h_4 ⟨⟩) h_3 ⟨⟩) h_2 ⟨⟩) h_1 ⟨⟩) h ⟨⟩

theorem n60_calls {data0 a1 b2 : Value} {R : Value → Heap → Prop} {h : Heap} (H : n60 data0 a1 b2 R h) : CallsH Try.prog 60 #[data0, a1, b2] h R ⟨⟩ :=
  callsH_of_eq Try.follow (.n none .l (.n none .l (.n none .l (.n none .l (.n none .l (.n none .l (.n (some [12]) (.n none .l (.n none (.n (some [11, 12, 13]) .l .l) .l)) .l))))))) Try.func60 (by kernel_rfl) (by kernel_rfl) (by kernel_rfl) H

/-- slices.reverseRangeOrdered[int] -/
def n61 (data0 a1 b2 : Value) (R : Value → Heap → Prop) (h : Heap) : Prop :=
  Hp Try.prog false (binS .sub 3 (.tmp 9) (.const (.int .i64 1)) b2 (.int .i64 1)) (fun t10 h_1 => 
    LoopC 2 (fun (X : Value → Value → Heap → Prop) => fun i6 j7 h_2 =>
      Hp Try.prog false (binS .lss 3 (.tmp 11) (.tmp 12) i6 j7) (fun t13 h_3 => 
        CondP t13 (
          Hp Try.prog true (Instr.indexAt 23 data0 j7) (fun t20 _ => 
            Hp Try.prog true (Instr.loadAt 3 t20) (fun t21 _ => 
              Hp Try.prog true (Instr.indexAt 23 data0 i6) (fun t24 _ => 
                Hp Try.prog true (Instr.loadAt 3 t24) (fun t25 _ => 
                  Hp Try.prog true (Instr.indexAt 23 data0 i6) (fun t26 _ => 
                    Hp Try.prog false (storeS 3 t26 t21) (fun _ h_4 => 
                      Hp Try.prog true (Instr.indexAt 23 data0 j7) (fun t27 _ => 
                        Hp Try.prog false (storeS 3 t27 t25) (fun _ h_5 => 
                          Hp Try.prog false (binS .add 3 (.tmp 28) (.const (.int .i64 1)) i6 (.int .i64 1)) (fun t29 h_6 => 
                            Hp Try.prog false (binS .sub 3 (.tmp 30) (.const (.int .i64 1)) j7 (.int .i64 1)) (fun t31 h_7 => 
                              X t29 t31 h_7) h_6 ⟨⟩) h_5 ⟨⟩) h_4 ⟨⟩) #[] ⟨⟩) h_3 ⟨⟩) #[] ⟨⟩) h_3 ⟨⟩) #[] ⟨⟩) h_3 ⟨⟩) #[] ⟨⟩) (
          R (.tuple #[]) h_3) ⟨⟩ ⟨⟩) h_2 ⟨⟩) [a1, t10] h_1 ⟨⟩) h ⟨⟩

theorem n61_calls {data0 a1 b2 : Value} {R : Value → Heap → Prop} {h : Heap} (H : n61 data0 a1 b2 R h) : CallsH Try.prog 61 #[data0, a1, b2] h R ⟨⟩ :=
  callsH_of_eq Try.follow (.n none .l (.n none .l (.n none (.n (some [7, 8]) .l .l) .l))) Try.func61 (by kernel_rfl) (by kernel_rfl) (by kernel_rfl) H

/-- slices.partialInsertionSortOrdered[int] -/
def n62 (data0 a1 b2 : Value) (R : Value → Heap → Prop) (h : Heap) : Prop :=
  Hp Try.prog false (binS .add 3 (.tmp 11) (.const (.int .i64 1)) a1 (.int .i64 1)) (fun t12 h_1 => 
    LoopC 2 (fun (X : Value → Value → Heap → Prop) => fun i7 j8 h_2 =>
      Hp Try.prog false (binS .lss 3 (.tmp 13) (.const (.int .i64 5)) j8 (.int .i64 5)) (fun t14 h_3 => 
        CondP t14 (
          JoinN 1 (fun (k : Value → Heap → Prop) h_4 =>
            JoinN 1 (fun (k_1 : Value → Heap → Prop) h_5 =>
              LoopC 1 (fun (X_1 : Value → Heap → Prop) => fun i7_1 h_6 =>
                Hp Try.prog true (binS .lss 3 (.tmp 17) (.tmp 18) i7_1 b2) (fun t19 _ => 
                  Join1 (fun k_2 h_7 => guardP t19 true (k_2 data0 h_7) (k_2 undef h_7) ⟨⟩ ⟨⟩) (fun t21 _ => 
                    Join1 (fun k_3 h_8 => guardP t19 true (k_3 i7_1 h_8) (k_3 undef h_8) ⟨⟩ ⟨⟩) (fun t22 _ => 
                      Join1 (fun k_4 h_9 => guardP t19 true (Hp Try.prog true (Instr.indexAt 23 t21 t22) k_4 h_9 ⟨⟩) (k_4 undef h_9) ⟨⟩ ⟨⟩) (fun t23 _ => 
                        Join1 (fun k_5 h_10 => guardP t19 true (Hp Try.prog true (Instr.loadAt 3 t23) k_5 h_10 ⟨⟩) (k_5 undef h_10) ⟨⟩ ⟨⟩) (fun t24 _ => 
                          Join1 (fun k_6 h_11 => guardP t19 true (k_6 data0 h_11) (k_6 undef h_11) ⟨⟩ ⟨⟩) (fun t25 _ => 
                            Join1 (fun k_7 h_12 => guardP t19 true (k_7 i7_1 h_12) (k_7 undef h_12) ⟨⟩ ⟨⟩) (fun t26 _ => 
                              Join1 (fun k_8 h_13 => guardP t19 true (Hp Try.prog true (binS .sub 3 (.tmp 26) (.const (.int .i64 1)) t26 (.int .i64 1)) k_8 h_13 ⟨⟩) (k_8 undef h_13) ⟨⟩ ⟨⟩) (fun t27 _ => 
                                Join1 (fun k_9 h_14 => guardP t19 true (Hp Try.prog true (Instr.indexAt 23 t25 t27) k_9 h_14 ⟨⟩) (k_9 undef h_14) ⟨⟩ ⟨⟩) (fun t28 _ => 
                                  Join1 (fun k_10 h_15 => guardP t19 true (Hp Try.prog true (Instr.loadAt 3 t28) k_10 h_15 ⟨⟩) (k_10 undef h_15) ⟨⟩ ⟨⟩) (fun t29 _ => 
                                    Join1 (fun k_11 h_16 => guardP t19 true (CallsH Try.prog 63 #[t24, t29] h_16 k_11 ⟨⟩) (k_11 undef h_16) ⟨⟩ ⟨⟩) (fun t30 h_17 => 
                                      Join1 (fun k_12 h_18 => guardP t19 true (Hp Try.prog true (Op.unary .not t30) k_12 h_18 ⟨⟩) (k_12 undef h_18) ⟨⟩ ⟨⟩) (fun t31 _ => 
                                        Hp Try.prog true (pickS t19 t31 (.bool false)) (fun t32 _ => 
                                          CondP t32 (
                                            Hp Try.prog false (binS .add 3 (.tmp 33) (.const (.int .i64 1)) i7_1 (.int .i64 1)) (fun t34 h_19 => 
                                              X_1 t34 h_19) h_17 ⟨⟩) (
                                            Hp Try.prog false (binS .eql 3 (.tmp 35) (.tmp 36) i7_1 b2) (fun t37 h_20 => 
                                              CondP t37 (
                                                R (.bool true) h_20) (
                                                Hp Try.prog false (binS .sub 3 (.tmp 38) (.tmp 39) b2 a1) (fun t40 h_21 => 
                                                  Hp Try.prog false (binS .lss 3 (.tmp 40) (.const (.int .i64 50)) t40 (.int .i64 50)) (fun t41 h_22 => 
                                                    CondP t41 (
                                                      R (.bool false) h_22) (
                                                      Hp Try.prog true (binS .sub 3 (.tmp 45) (.const (.int .i64 1)) i7_1 (.int .i64 1)) (fun t46 _ => 
                                                        Hp Try.prog true (binS .sub 3 (.tmp 48) (.const (.int .i64 1)) i7_1 (.int .i64 1)) (fun t49 _ => 
                                                          Hp Try.prog true (Instr.indexAt 23 data0 t49) (fun t50 _ => 
                                                            Hp Try.prog true (Instr.loadAt 3 t50) (fun t51 _ => 
                                                              Hp Try.prog true (Instr.indexAt 23 data0 i7_1) (fun t54 _ => 
                                                                Hp Try.prog true (Instr.loadAt 3 t54) (fun t55 _ => 
                                                                  Hp Try.prog true (Instr.indexAt 23 data0 i7_1) (fun t56 _ => 
                                                                    Hp Try.prog false (storeS 3 t56 t51) (fun _ h_23 => 
                                                                      Hp Try.prog true (Instr.indexAt 23 data0 t46) (fun t57 _ => 
                                                                        Hp Try.prog false (storeS 3 t57 t55) (fun _ h_24 => 
                                                                          JoinN 0 (fun (k_13 : Heap → Prop) h_25 =>
                                                                            Hp Try.prog false (binS .sub 3 (.tmp 58) (.tmp 59) i7_1 a1) (fun t60 h_26 => 
                                                                              Hp Try.prog false (binS .geq 3 (.tmp 60) (.const (.int .i64 2)) t60 (.int .i64 2)) (fun t61 h_27 => 
                                                                                CondP t61 (
                                                                                  Hp Try.prog false (binS .sub 3 (.tmp 62) (.const (.int .i64 1)) i7_1 (.int .i64 1)) (fun t63 h_28 => 
                                                                                    JoinN 0 (fun (k_14 : Heap → Prop) h_29 =>
                                                                                      LoopC 1 (fun (X_2 : Value → Heap → Prop) => fun j9 h_30 =>
                                                                                        Hp Try.prog false (binS .geq 3 (.tmp 64) (.const (.int .i64 1)) j9 (.int .i64 1)) (fun t65 h_31 => 
                                                                                          CondP t65 (
                                                                                            Hp Try.prog true (Instr.indexAt 23 data0 j9) (fun t70 _ => 
                                                                                              Hp Try.prog true (Instr.loadAt 3 t70) (fun t71 _ => 
                                                                                                Hp Try.prog true (binS .sub 3 (.tmp 73) (.const (.int .i64 1)) j9 (.int .i64 1)) (fun t74 _ => 
                                                                                                  Hp Try.prog true (Instr.indexAt 23 data0 t74) (fun t75 _ => 
                                                                                                    Hp Try.prog true (Instr.loadAt 3 t75) (fun t76 _ => 
                                                                                                      CallsH Try.prog 63 #[t71, t76] h_31 (fun t77 h_32 => 
                                                                                                        Hp Try.prog true (Op.unary .not t77) (fun t78 _ => 
                                                                                                          CondP t78 (
                                                                                                            k_14 h_32) (
                                                                                                            Hp Try.prog true (binS .sub 3 (.tmp 82) (.const (.int .i64 1)) j9 (.int .i64 1)) (fun t83 _ => 
                                                                                                              Hp Try.prog true (binS .sub 3 (.tmp 85) (.const (.int .i64 1)) j9 (.int .i64 1)) (fun t86 _ => 
                                                                                                                Hp Try.prog true (Instr.indexAt 23 data0 t86) (fun t87 _ => 
                                                                                                                  Hp Try.prog true (Instr.loadAt 3 t87) (fun t88 _ => 
                                                                                                                    Hp Try.prog true (Instr.indexAt 23 data0 j9) (fun t91 _ => 
                                                                                                                      Hp Try.prog true (Instr.loadAt 3 t91) (fun t92 _ => 
                                                                                                                        Hp Try.prog true (Instr.indexAt 23 data0 j9) (fun t93 _ => 
                                                                                                                          Hp Try.prog false (storeS 3 t93 t88) (fun _ h_33 => 
                                                                                                                            Hp Try.prog true (Instr.indexAt 23 data0 t83) (fun t94 _ => 
                                                                                                                              Hp Try.prog false (storeS 3 t94 t92) (fun _ h_34 => 
                                                                                                                                Hp Try.prog false (binS .sub 3 (.tmp 66) (.const (.int .i64 1)) j9 (.int .i64 1)) (fun t67 h_35 => 
                                                                                                                                  X_2 t67 h_35) h_34 ⟨⟩) h_33 ⟨⟩) #[] ⟨⟩) h_32 ⟨⟩) #[] ⟨⟩) h_32 ⟨⟩) #[] ⟨⟩) h_32 ⟨⟩) #[] ⟨⟩) #[] ⟨⟩) #[] ⟨⟩) ⟨⟩ ⟨⟩) #[] ⟨⟩) ⟨⟩) h_31 ⟨⟩) #[] ⟨⟩) #[] ⟨⟩) h_31 ⟨⟩) #[] ⟨⟩) (
                                                                                            k_14 h_31) ⟨⟩ ⟨⟩) h_30 ⟨⟩) [t63] h_29 ⟨⟩)
                                                                                      (fun h_36 =>
                                                                                      k_13 h_36) h_28 ⟨⟩ ⟨⟩) h_27 ⟨⟩) (
                                                                                  k_13 h_27) ⟨⟩ ⟨⟩) h_26 ⟨⟩) h_25 ⟨⟩)
                                                                            (fun h_37 =>
                                                                            Hp Try.prog false (binS .sub 3 (.tmp 95) (.tmp 96) b2 i7_1) (fun t97 h_38 => 
                                                                              Hp Try.prog false (binS .geq 3 (.tmp 97) (.const (.int .i64 2)) t97 (.int .i64 2)) (fun t98 h_39 => 
                                                                                CondP t98 (
                                                                                  Hp Try.prog false (binS .add 3 (.tmp 99) (.const (.int .i64 1)) i7_1 (.int .i64 1)) (fun t100 h_40 => 
                                                                                    JoinN 0 (fun (k_15 : Heap → Prop) h_41 =>
                                                                                      LoopC 1 (fun (X_3 : Value → Heap → Prop) => fun j10 h_42 =>
                                                                                        Hp Try.prog false (binS .lss 3 (.tmp 101) (.tmp 102) j10 b2) (fun t103 h_43 => 
                                                                                          CondP t103 (
                                                                                            Hp Try.prog true (Instr.indexAt 23 data0 j10) (fun t108 _ => 
                                                                                              Hp Try.prog true (Instr.loadAt 3 t108) (fun t109 _ => 
                                                                                                Hp Try.prog true (binS .sub 3 (.tmp 111) (.const (.int .i64 1)) j10 (.int .i64 1)) (fun t112 _ => 
                                                                                                  Hp Try.prog true (Instr.indexAt 23 data0 t112) (fun t113 _ => 
                                                                                                    Hp Try.prog true (Instr.loadAt 3 t113) (fun t114 _ => 
                                                                                                      CallsH Try.prog 63 #[t109, t114] h_43 (fun t115 h_44 => 
                                                                                                        Hp Try.prog true (Op.unary .not t115) (fun t116 _ => 
                                                                                                          CondP t116 (
                                                                                                            k_15 h_44) (
                                                                                                            Hp Try.prog true (binS .sub 3 (.tmp 120) (.const (.int .i64 1)) j10 (.int .i64 1)) (fun t121 _ => 
                                                                                                              Hp Try.prog true (binS .sub 3 (.tmp 123) (.const (.int .i64 1)) j10 (.int .i64 1)) (fun t124 _ => 
                                                                                                                Hp Try.prog true (Instr.indexAt 23 data0 t124) (fun t125 _ => 
                                                                                                                  Hp Try.prog true (Instr.loadAt 3 t125) (fun t126 _ => 
                                                                                                                    Hp Try.prog true (Instr.indexAt 23 data0 j10) (fun t129 _ => 
                                                                                                                      Hp Try.prog true (Instr.loadAt 3 t129) (fun t130 _ => 
                                                                                                                        Hp Try.prog true (Instr.indexAt 23 data0 j10) (fun t131 _ => 
                                                                                                                          Hp Try.prog false (storeS 3 t131 t126) (fun _ h_45 => 
                                                                                                                            Hp Try.prog true (Instr.indexAt 23 data0 t121) (fun t132 _ => 
                                                                                                                              Hp Try.prog false (storeS 3 t132 t130) (fun _ h_46 => 
                                                                                                                                Hp Try.prog false (binS .add 3 (.tmp 104) (.const (.int .i64 1)) j10 (.int .i64 1)) (fun t105 h_47 => 
                                                                                                                                  X_3 t105 h_47) h_46 ⟨⟩) h_45 ⟨⟩) #[] ⟨⟩) h_44 ⟨⟩) #[] ⟨⟩) h_44 ⟨⟩) #[] ⟨⟩) h_44 ⟨⟩) #[] ⟨⟩) #[] ⟨⟩) #[] ⟨⟩) ⟨⟩ ⟨⟩) #[] ⟨⟩) ⟨⟩) h_43 ⟨⟩) #[] ⟨⟩) #[] ⟨⟩) h_43 ⟨⟩) #[] ⟨⟩) (
                                                                                            k_15 h_43) ⟨⟩ ⟨⟩) h_42 ⟨⟩) [t100] h_41 ⟨⟩)
                                                                                      (fun h_48 =>
                                                                                      k_1 i7_1 h_48) h_40 ⟨⟩ ⟨⟩) h_39 ⟨⟩) (
                                                                                  k_1 i7_1 h_39) ⟨⟩ ⟨⟩) h_38 ⟨⟩) h_37 ⟨⟩) h_24 ⟨⟩ ⟨⟩) h_23 ⟨⟩) #[] ⟨⟩) h_22 ⟨⟩) #[] ⟨⟩) h_22 ⟨⟩) #[] ⟨⟩) h_22 ⟨⟩) #[] ⟨⟩) #[] ⟨⟩) #[] ⟨⟩) ⟨⟩ ⟨⟩) h_21 ⟨⟩) h_20 ⟨⟩) ⟨⟩ ⟨⟩) h_17 ⟨⟩) ⟨⟩ ⟨⟩) #[] ⟨⟩) #[] ⟨⟩ ⟨⟩) h_6 ⟨⟩ ⟨⟩) h_6 ⟨⟩ ⟨⟩) #[] ⟨⟩ ⟨⟩) #[] ⟨⟩ ⟨⟩) #[] ⟨⟩ ⟨⟩) #[] ⟨⟩ ⟨⟩) h_6 ⟨⟩ ⟨⟩) #[] ⟨⟩ ⟨⟩) #[] ⟨⟩ ⟨⟩) #[] ⟨⟩ ⟨⟩) #[] ⟨⟩) [i7] h_5 ⟨⟩)
              (fun i7_2 h_49 =>
              k i7_2 h_49) h_4 ⟨⟩ ⟨⟩)
            (fun i7_3 h_50 =>
            Hp Try.prog false (binS .add 3 (.tmp 15) (.const (.int .i64 1)) j8 (.int .i64 1)) (fun t16 h_51 => 
              X i7_3 t16 h_51) h_50 ⟨⟩) h_3 ⟨⟩ ⟨⟩) (
          R (.bool false) h_3) ⟨⟩ ⟨⟩) h_2 ⟨⟩) [t12, (.int .i64 0)] h_1 ⟨⟩) h ⟨⟩

theorem n62_calls {data0 a1 b2 : Value} {R : Value → Heap → Prop} {h : Heap} (H : n62 data0 a1 b2 R h) : CallsH Try.prog 62 #[data0, a1, b2] h R ⟨⟩ :=
  callsH_of_eq Try.follow (.n none .l (.n none .l (.n none (.n none .l (.n none (.n (some [8, 9]) (.n none .l (.n (some [8]) (.n (some [8]) (.n none (.n none (.n (some [8]) .l .l) .l) (.n none .l (.n none .l (.n none .l (.n (some []) (.n none .l (.n none (.n none .l (.n (some []) (.n (some [10]) .l .l) .l)) .l)) (.n none .l (.n none (.n none .l (.n (some []) (.n (some [11]) .l .l) .l)) .l))))))) .l) .l)) .l) .l)) .l))) Try.func62 (by kernel_rfl) (by kernel_rfl) (by kernel_rfl) H

/-- cmp.Less[int] -/
def n63 (x0 y1 : Value) (R : Value → Heap → Prop) (h : Heap) : Prop :=
  CallsH Try.prog 56 #[x0] h (fun t6 h_1 => 
    Join1 (fun k h_2 => guardP t6 true (k y1 h_2) (k undef h_2) ⟨⟩ ⟨⟩) (fun t8 h_3 => 
      Join1 (fun k_1 h_4 => guardP t6 true (CallsH Try.prog 56 #[t8] h_4 k_1 ⟨⟩) (k_1 undef h_4) ⟨⟩ ⟨⟩) (fun t9 h_5 => 
        Join1 (fun k_2 h_6 => guardP t6 true (Hp Try.prog false (Op.unary .not t9) k_2 h_6 ⟨⟩) (k_2 undef h_6) ⟨⟩ ⟨⟩) (fun t10 h_7 => 
          Hp Try.prog false (pickS t6 t10 (.bool false)) (fun t11 h_8 => 
            Join1 (fun k_3 h_9 => guardP t11 false (k_3 x0 h_9) (k_3 undef h_9) ⟨⟩ ⟨⟩) (fun t13 h_10 => 
              Join1 (fun k_4 h_11 => guardP t11 false (k_4 y1 h_11) (k_4 undef h_11) ⟨⟩ ⟨⟩) (fun t14 h_12 => 
                Join1 (fun k_5 h_13 => guardP t11 false (Hp Try.prog false (binS .lss 3 (.tmp 13) (.tmp 14) t13 t14) k_5 h_13 ⟨⟩) (k_5 undef h_13) ⟨⟩ ⟨⟩) (fun t15 h_14 => 
                  Hp Try.prog false (pickS t11 (.bool true) t15) (fun t16 h_15 => 
                    R t16 h_15) h_14 ⟨⟩) h_12 ⟨⟩ ⟨⟩) h_10 ⟨⟩ ⟨⟩) h_8 ⟨⟩ ⟨⟩) h_7 ⟨⟩) h_5 ⟨⟩ ⟨⟩) h_3 ⟨⟩ ⟨⟩) h_1 ⟨⟩ ⟨⟩) ⟨⟩

theorem n63_calls {x0 y1 : Value} {R : Value → Heap → Prop} {h : Heap} (H : n63 x0 y1 R h) : CallsH Try.prog 63 #[x0, y1] h R ⟨⟩ :=
  callsH_of_eq Try.follow .l Try.func63 (by kernel_rfl) (by kernel_rfl) (by kernel_rfl) H

/-- slices.partitionEqualOrdered[int] -/
def n64 (data0 a1 b2 pivot3 : Value) (R : Value → Heap → Prop) (h : Heap) : Prop :=
  Hp Try.prog true (Instr.indexAt 23 data0 pivot3) (fun t17 _ => 
    Hp Try.prog true (Instr.loadAt 3 t17) (fun t18 _ => 
      Hp Try.prog true (Instr.indexAt 23 data0 a1) (fun t21 _ => 
        Hp Try.prog true (Instr.loadAt 3 t21) (fun t22 _ => 
          Hp Try.prog true (Instr.indexAt 23 data0 a1) (fun t23 _ => 
            Hp Try.prog false (storeS 3 t23 t18) (fun _ h_1 => 
              Hp Try.prog true (Instr.indexAt 23 data0 pivot3) (fun t24 _ => 
                Hp Try.prog false (storeS 3 t24 t22) (fun _ h_2 => 
                  Hp Try.prog false (binS .add 3 (.tmp 25) (.const (.int .i64 1)) a1 (.int .i64 1)) (fun t26 h_3 => 
                    Hp Try.prog false (binS .sub 3 (.tmp 27) (.const (.int .i64 1)) b2 (.int .i64 1)) (fun t28 h_4 => 
                      LoopC 2 (fun (X : Value → Value → Heap → Prop) => fun i9 j10 h_5 =>
                        LoopC 1 (fun (X_1 : Value → Heap → Prop) => fun i9_1 h_6 =>
                          Hp Try.prog true (binS .leq 3 (.tmp 29) (.tmp 30) i9_1 j10) (fun t31 _ => 
                            Join1 (fun k h_7 => guardP t31 true (k data0 h_7) (k undef h_7) ⟨⟩ ⟨⟩) (fun t33 _ => 
                              Join1 (fun k_1 h_8 => guardP t31 true (k_1 a1 h_8) (k_1 undef h_8) ⟨⟩ ⟨⟩) (fun t34 _ => 
                                Join1 (fun k_2 h_9 => guardP t31 true (Hp Try.prog true (Instr.indexAt 23 t33 t34) k_2 h_9 ⟨⟩) (k_2 undef h_9) ⟨⟩ ⟨⟩) (fun t35 _ => 
                                  Join1 (fun k_3 h_10 => guardP t31 true (Hp Try.prog true (Instr.loadAt 3 t35) k_3 h_10 ⟨⟩) (k_3 undef h_10) ⟨⟩ ⟨⟩) (fun t36 _ => 
                                    Join1 (fun k_4 h_11 => guardP t31 true (k_4 data0 h_11) (k_4 undef h_11) ⟨⟩ ⟨⟩) (fun t37 _ => 
                                      Join1 (fun k_5 h_12 => guardP t31 true (k_5 i9_1 h_12) (k_5 undef h_12) ⟨⟩ ⟨⟩) (fun t38 _ => 
                                        Join1 (fun k_6 h_13 => guardP t31 true (Hp Try.prog true (Instr.indexAt 23 t37 t38) k_6 h_13 ⟨⟩) (k_6 undef h_13) ⟨⟩ ⟨⟩) (fun t39 _ => 
                                          Join1 (fun k_7 h_14 => guardP t31 true (Hp Try.prog true (Instr.loadAt 3 t39) k_7 h_14 ⟨⟩) (k_7 undef h_14) ⟨⟩ ⟨⟩) (fun t40 _ => 
                                            Join1 (fun k_8 h_15 => guardP t31 true (CallsH Try.prog 63 #[t36, t40] h_15 k_8 ⟨⟩) (k_8 undef h_15) ⟨⟩ ⟨⟩) (fun t41 h_16 => 
                                              Join1 (fun k_9 h_17 => guardP t31 true (Hp Try.prog true (Op.unary .not t41) k_9 h_17 ⟨⟩) (k_9 undef h_17) ⟨⟩ ⟨⟩) (fun t42 _ => 
                                                Hp Try.prog true (pickS t31 t42 (.bool false)) (fun t43 _ => 
                                                  CondP t43 (
                                                    Hp Try.prog false (binS .add 3 (.tmp 44) (.const (.int .i64 1)) i9_1 (.int .i64 1)) (fun t45 h_18 => 
                                                      X_1 t45 h_18) h_16 ⟨⟩) (
                                                    LoopC 1 (fun (X_2 : Value → Heap → Prop) => fun j10_1 h_19 =>
                                                      Hp Try.prog true (binS .leq 3 (.tmp 46) (.tmp 47) i9_1 j10_1) (fun t48 _ => 
                                                        Join1 (fun k_10 h_20 => guardP t48 true (k_10 data0 h_20) (k_10 undef h_20) ⟨⟩ ⟨⟩) (fun t50 _ => 
                                                          Join1 (fun k_11 h_21 => guardP t48 true (k_11 a1 h_21) (k_11 undef h_21) ⟨⟩ ⟨⟩) (fun t51 _ => 
                                                            Join1 (fun k_12 h_22 => guardP t48 true (Hp Try.prog true (Instr.indexAt 23 t50 t51) k_12 h_22 ⟨⟩) (k_12 undef h_22) ⟨⟩ ⟨⟩) (fun t52 _ => 
                                                              Join1 (fun k_13 h_23 => guardP t48 true (Hp Try.prog true (Instr.loadAt 3 t52) k_13 h_23 ⟨⟩) (k_13 undef h_23) ⟨⟩ ⟨⟩) (fun t53 _ => 
                                                                Join1 (fun k_14 h_24 => guardP t48 true (k_14 data0 h_24) (k_14 undef h_24) ⟨⟩ ⟨⟩) (fun t54 _ => 
                                                                  Join1 (fun k_15 h_25 => guardP t48 true (k_15 j10_1 h_25) (k_15 undef h_25) ⟨⟩ ⟨⟩) (fun t55 _ => 
                                                                    Join1 (fun k_16 h_26 => guardP t48 true (Hp Try.prog true (Instr.indexAt 23 t54 t55) k_16 h_26 ⟨⟩) (k_16 undef h_26) ⟨⟩ ⟨⟩) (fun t56 _ => 
                                                                      Join1 (fun k_17 h_27 => guardP t48 true (Hp Try.prog true (Instr.loadAt 3 t56) k_17 h_27 ⟨⟩) (k_17 undef h_27) ⟨⟩ ⟨⟩) (fun t57 _ => 
                                                                        Join1 (fun k_18 h_28 => guardP t48 true (CallsH Try.prog 63 #[t53, t57] h_28 k_18 ⟨⟩) (k_18 undef h_28) ⟨⟩ ⟨⟩) (fun t58 h_29 => 
                                                                          Hp Try.prog true (pickS t48 t58 (.bool false)) (fun t59 _ => 
                                                                            CondP t59 (
                                                                              Hp Try.prog false (binS .sub 3 (.tmp 60) (.const (.int .i64 1)) j10_1 (.int .i64 1)) (fun t61 h_30 => 
                                                                                X_2 t61 h_30) h_29 ⟨⟩) (
                                                                              Hp Try.prog false (binS .gtr 3 (.tmp 62) (.tmp 63) i9_1 j10_1) (fun t64 h_31 => 
                                                                                CondP t64 (
                                                                                  R i9_1 h_31) (
                                                                                  Hp Try.prog true (Instr.indexAt 23 data0 j10_1) (fun t71 _ => 
                                                                                    Hp Try.prog true (Instr.loadAt 3 t71) (fun t72 _ => 
                                                                                      Hp Try.prog true (Instr.indexAt 23 data0 i9_1) (fun t75 _ => 
                                                                                        Hp Try.prog true (Instr.loadAt 3 t75) (fun t76 _ => 
                                                                                          Hp Try.prog true (Instr.indexAt 23 data0 i9_1) (fun t77 _ => 
                                                                                            Hp Try.prog false (storeS 3 t77 t72) (fun _ h_32 => 
                                                                                              Hp Try.prog true (Instr.indexAt 23 data0 j10_1) (fun t78 _ => 
                                                                                                Hp Try.prog false (storeS 3 t78 t76) (fun _ h_33 => 
                                                                                                  Hp Try.prog false (binS .add 3 (.tmp 79) (.const (.int .i64 1)) i9_1 (.int .i64 1)) (fun t80 h_34 => 
                                                                                                    Hp Try.prog false (binS .sub 3 (.tmp 81) (.const (.int .i64 1)) j10_1 (.int .i64 1)) (fun t82 h_35 => 
                                                                                                      X t80 t82 h_35) h_34 ⟨⟩) h_33 ⟨⟩) h_32 ⟨⟩) #[] ⟨⟩) h_31 ⟨⟩) #[] ⟨⟩) h_31 ⟨⟩) #[] ⟨⟩) h_31 ⟨⟩) #[] ⟨⟩) ⟨⟩ ⟨⟩) h_29 ⟨⟩) ⟨⟩ ⟨⟩) #[] ⟨⟩) h_19 ⟨⟩ ⟨⟩) h_19 ⟨⟩ ⟨⟩) #[] ⟨⟩ ⟨⟩) #[] ⟨⟩ ⟨⟩) #[] ⟨⟩ ⟨⟩) h_19 ⟨⟩ ⟨⟩) #[] ⟨⟩ ⟨⟩) #[] ⟨⟩ ⟨⟩) #[] ⟨⟩ ⟨⟩) #[] ⟨⟩) [j10] h_16 ⟨⟩) ⟨⟩ ⟨⟩) #[] ⟨⟩) #[] ⟨⟩ ⟨⟩) h_6 ⟨⟩ ⟨⟩) h_6 ⟨⟩ ⟨⟩) #[] ⟨⟩ ⟨⟩) #[] ⟨⟩ ⟨⟩) #[] ⟨⟩ ⟨⟩) h_6 ⟨⟩ ⟨⟩) #[] ⟨⟩ ⟨⟩) #[] ⟨⟩ ⟨⟩) #[] ⟨⟩ ⟨⟩) #[] ⟨⟩) [i9] h_5 ⟨⟩) [t26, t28] h_4 ⟨⟩) h_3 ⟨⟩) h_2 ⟨⟩) h_1 ⟨⟩) #[] ⟨⟩) h ⟨⟩) #[] ⟨⟩) h ⟨⟩) #[] ⟨⟩) h ⟨⟩) #[] ⟨⟩

theorem n64_calls {data0 a1 b2 pivot3 : Value} {R : Value → Heap → Prop} {h : Heap} (H : n64 data0 a1 b2 pivot3 R h) : CallsH Try.prog 64 #[data0, a1, b2, pivot3] h R ⟨⟩ :=
  callsH_of_eq Try.follow (.n none .l (.n none .l (.n none .l (.n none (.n none (.n (some [10, 11]) (.n none (.n none (.n none (.n (some [10]) .l .l) .l) (.n none (.n none (.n (some [11]) .l .l) .l) .l)) .l) .l) .l) .l)))) Try.func64 (by kernel_rfl) (by kernel_rfl) (by kernel_rfl) H

/-- slices.partitionOrdered[int] -/
def n65 (data0 a1 b2 pivot3 : Value) (R : Value → Heap → Prop) (h : Heap) : Prop :=
  Hp Try.prog true (Instr.indexAt 23 data0 pivot3) (fun t18 _ => 
    Hp Try.prog true (Instr.loadAt 3 t18) (fun t19 _ => 
      Hp Try.prog true (Instr.indexAt 23 data0 a1) (fun t22 _ => 
        Hp Try.prog true (Instr.loadAt 3 t22) (fun t23 _ => 
          Hp Try.prog true (Instr.indexAt 23 data0 a1) (fun t24 _ => 
            Hp Try.prog false (storeS 3 t24 t19) (fun _ h_1 => 
              Hp Try.prog true (Instr.indexAt 23 data0 pivot3) (fun t25 _ => 
                Hp Try.prog false (storeS 3 t25 t23) (fun _ h_2 => 
                  Hp Try.prog false (binS .add 3 (.tmp 26) (.const (.int .i64 1)) a1 (.int .i64 1)) (fun t27 h_3 => 
                    Hp Try.prog false (binS .sub 3 (.tmp 28) (.const (.int .i64 1)) b2 (.int .i64 1)) (fun t29 h_4 => 
                      LoopC 1 (fun (X : Value → Heap → Prop) => fun i10 h_5 =>
                        Hp Try.prog true (binS .leq 3 (.tmp 30) (.tmp 31) i10 t29) (fun t32 _ => 
                          Join1 (fun k h_6 => guardP t32 true (k data0 h_6) (k undef h_6) ⟨⟩ ⟨⟩) (fun t34 _ => 
                            Join1 (fun k_1 h_7 => guardP t32 true (k_1 i10 h_7) (k_1 undef h_7) ⟨⟩ ⟨⟩) (fun t35 _ => 
                              Join1 (fun k_2 h_8 => guardP t32 true (Hp Try.prog true (Instr.indexAt 23 t34 t35) k_2 h_8 ⟨⟩) (k_2 undef h_8) ⟨⟩ ⟨⟩) (fun t36 _ => 
                                Join1 (fun k_3 h_9 => guardP t32 true (Hp Try.prog true (Instr.loadAt 3 t36) k_3 h_9 ⟨⟩) (k_3 undef h_9) ⟨⟩ ⟨⟩) (fun t37 _ => 
                                  Join1 (fun k_4 h_10 => guardP t32 true (k_4 data0 h_10) (k_4 undef h_10) ⟨⟩ ⟨⟩) (fun t38 _ => 
                                    Join1 (fun k_5 h_11 => guardP t32 true (k_5 a1 h_11) (k_5 undef h_11) ⟨⟩ ⟨⟩) (fun t39 _ => 
                                      Join1 (fun k_6 h_12 => guardP t32 true (Hp Try.prog true (Instr.indexAt 23 t38 t39) k_6 h_12 ⟨⟩) (k_6 undef h_12) ⟨⟩ ⟨⟩) (fun t40 _ => 
                                        Join1 (fun k_7 h_13 => guardP t32 true (Hp Try.prog true (Instr.loadAt 3 t40) k_7 h_13 ⟨⟩) (k_7 undef h_13) ⟨⟩ ⟨⟩) (fun t41 _ => 
                                          Join1 (fun k_8 h_14 => guardP t32 true (CallsH Try.prog 63 #[t37, t41] h_14 k_8 ⟨⟩) (k_8 undef h_14) ⟨⟩ ⟨⟩) (fun t42 h_15 => 
                                            Hp Try.prog true (pickS t32 t42 (.bool false)) (fun t43 _ => 
                                              CondP t43 (
                                                Hp Try.prog false (binS .add 3 (.tmp 44) (.const (.int .i64 1)) i10 (.int .i64 1)) (fun t45 h_16 => 
                                                  X t45 h_16) h_15 ⟨⟩) (
                                                LoopC 1 (fun (X_1 : Value → Heap → Prop) => fun j11 h_17 =>
                                                  Hp Try.prog true (binS .leq 3 (.tmp 46) (.tmp 47) i10 j11) (fun t48 _ => 
                                                    Join1 (fun k_9 h_18 => guardP t48 true (k_9 data0 h_18) (k_9 undef h_18) ⟨⟩ ⟨⟩) (fun t50 _ => 
                                                      Join1 (fun k_10 h_19 => guardP t48 true (k_10 j11 h_19) (k_10 undef h_19) ⟨⟩ ⟨⟩) (fun t51 _ => 
                                                        Join1 (fun k_11 h_20 => guardP t48 true (Hp Try.prog true (Instr.indexAt 23 t50 t51) k_11 h_20 ⟨⟩) (k_11 undef h_20) ⟨⟩ ⟨⟩) (fun t52 _ => 
                                                          Join1 (fun k_12 h_21 => guardP t48 true (Hp Try.prog true (Instr.loadAt 3 t52) k_12 h_21 ⟨⟩) (k_12 undef h_21) ⟨⟩ ⟨⟩) (fun t53 _ => 
                                                            Join1 (fun k_13 h_22 => guardP t48 true (k_13 data0 h_22) (k_13 undef h_22) ⟨⟩ ⟨⟩) (fun t54 _ => 
                                                              Join1 (fun k_14 h_23 => guardP t48 true (k_14 a1 h_23) (k_14 undef h_23) ⟨⟩ ⟨⟩) (fun t55 _ => 
                                                                Join1 (fun k_15 h_24 => guardP t48 true (Hp Try.prog true (Instr.indexAt 23 t54 t55) k_15 h_24 ⟨⟩) (k_15 undef h_24) ⟨⟩ ⟨⟩) (fun t56 _ => 
                                                                  Join1 (fun k_16 h_25 => guardP t48 true (Hp Try.prog true (Instr.loadAt 3 t56) k_16 h_25 ⟨⟩) (k_16 undef h_25) ⟨⟩ ⟨⟩) (fun t57 _ => 
                                                                    Join1 (fun k_17 h_26 => guardP t48 true (CallsH Try.prog 63 #[t53, t57] h_26 k_17 ⟨⟩) (k_17 undef h_26) ⟨⟩ ⟨⟩) (fun t58 h_27 => 
                                                                      Join1 (fun k_18 h_28 => guardP t48 true (Hp Try.prog true (Op.unary .not t58) k_18 h_28 ⟨⟩) (k_18 undef h_28) ⟨⟩ ⟨⟩) (fun t59 _ => 
                                                                        Hp Try.prog true (pickS t48 t59 (.bool false)) (fun t60 _ => 
                                                                          CondP t60 (
                                                                            Hp Try.prog false (binS .sub 3 (.tmp 61) (.const (.int .i64 1)) j11 (.int .i64 1)) (fun t62 h_29 => 
                                                                              X_1 t62 h_29) h_27 ⟨⟩) (
                                                                            Hp Try.prog false (binS .gtr 3 (.tmp 63) (.tmp 64) i10 j11) (fun t65 h_30 => 
                                                                              CondP t65 (
                                                                                Hp Try.prog true (Instr.indexAt 23 data0 a1) (fun t72 _ => 
                                                                                  Hp Try.prog true (Instr.loadAt 3 t72) (fun t73 _ => 
                                                                                    Hp Try.prog true (Instr.indexAt 23 data0 j11) (fun t76 _ => 
                                                                                      Hp Try.prog true (Instr.loadAt 3 t76) (fun t77 _ => 
                                                                                        Hp Try.prog true (Instr.indexAt 23 data0 j11) (fun t78 _ => 
                                                                                          Hp Try.prog false (storeS 3 t78 t73) (fun _ h_31 => 
                                                                                            Hp Try.prog true (Instr.indexAt 23 data0 a1) (fun t79 _ => 
                                                                                              Hp Try.prog false (storeS 3 t79 t77) (fun _ h_32 => 
                                                                                                R (.tuple #[j11, (.bool true)]) h_32) h_31 ⟨⟩) #[] ⟨⟩) h_30 ⟨⟩) #[] ⟨⟩) h_30 ⟨⟩) #[] ⟨⟩) h_30 ⟨⟩) #[] ⟨⟩) (
                                                                                Hp Try.prog true (Instr.indexAt 23 data0 j11) (fun t87 _ => 
                                                                                  Hp Try.prog true (Instr.loadAt 3 t87) (fun t88 _ => 
                                                                                    Hp Try.prog true (Instr.indexAt 23 data0 i10) (fun t91 _ => 
                                                                                      Hp Try.prog true (Instr.loadAt 3 t91) (fun t92 _ => 
                                                                                        Hp Try.prog true (Instr.indexAt 23 data0 i10) (fun t93 _ => 
                                                                                          Hp Try.prog false (storeS 3 t93 t88) (fun _ h_33 => 
                                                                                            Hp Try.prog true (Instr.indexAt 23 data0 j11) (fun t94 _ => 
                                                                                              Hp Try.prog false (storeS 3 t94 t92) (fun _ h_34 => 
                                                                                                Hp Try.prog false (binS .add 3 (.tmp 95) (.const (.int .i64 1)) i10 (.int .i64 1)) (fun t96 h_35 => 
                                                                                                  Hp Try.prog false (binS .sub 3 (.tmp 97) (.const (.int .i64 1)) j11 (.int .i64 1)) (fun t98 h_36 => 
                                                                                                    LoopC 2 (fun (X_2 : Value → Value → Heap → Prop) => fun i10_1 j11_1 h_37 =>
                                                                                                      LoopC 1 (fun (X_3 : Value → Heap → Prop) => fun i10_2 h_38 =>
                                                                                                        Hp Try.prog true (binS .leq 3 (.tmp 99) (.tmp 100) i10_2 j11_1) (fun t101 _ => 
                                                                                                          Join1 (fun k_19 h_39 => guardP t101 true (k_19 data0 h_39) (k_19 undef h_39) ⟨⟩ ⟨⟩) (fun t103 _ => 
                                                                                                            Join1 (fun k_20 h_40 => guardP t101 true (k_20 i10_2 h_40) (k_20 undef h_40) ⟨⟩ ⟨⟩) (fun t104 _ => 
                                                                                                              Join1 (fun k_21 h_41 => guardP t101 true (Hp Try.prog true (Instr.indexAt 23 t103 t104) k_21 h_41 ⟨⟩) (k_21 undef h_41) ⟨⟩ ⟨⟩) (fun t105 _ => 
                                                                                                                Join1 (fun k_22 h_42 => guardP t101 true (Hp Try.prog true (Instr.loadAt 3 t105) k_22 h_42 ⟨⟩) (k_22 undef h_42) ⟨⟩ ⟨⟩) (fun t106 _ => 
                                                                                                                  Join1 (fun k_23 h_43 => guardP t101 true (k_23 data0 h_43) (k_23 undef h_43) ⟨⟩ ⟨⟩) (fun t107 _ => 
                                                                                                                    Join1 (fun k_24 h_44 => guardP t101 true (k_24 a1 h_44) (k_24 undef h_44) ⟨⟩ ⟨⟩) (fun t108 _ => 
                                                                                                                      Join1 (fun k_25 h_45 => guardP t101 true (Hp Try.prog true (Instr.indexAt 23 t107 t108) k_25 h_45 ⟨⟩) (k_25 undef h_45) ⟨⟩ ⟨⟩) (fun t109 _ => 
                                                                                                                        Join1 (fun k_26 h_46 => guardP t101 true (Hp Try.prog true (Instr.loadAt 3 t109) k_26 h_46 ⟨⟩) (k_26 undef h_46) ⟨⟩ ⟨⟩) (fun t110 _ => 
                                                                                                                          Join1 (fun k_27 h_47 => guardP t101 true (CallsH Try.prog 63 #[t106, t110] h_47 k_27 ⟨⟩) (k_27 undef h_47) ⟨⟩ ⟨⟩) (fun t111 h_48 => 
                                                                                                                            Hp Try.prog true (pickS t101 t111 (.bool false)) (fun t112 _ => 
                                                                                                                              CondP t112 (
                                                                                                                                Hp Try.prog false (binS .add 3 (.tmp 113) (.const (.int .i64 1)) i10_2 (.int .i64 1)) (fun t114 h_49 => 
                                                                                                                                  X_3 t114 h_49) h_48 ⟨⟩) (
                                                                                                                                LoopC 1 (fun (X_4 : Value → Heap → Prop) => fun j11_2 h_50 =>
                                                                                                                                  Hp Try.prog true (binS .leq 3 (.tmp 115) (.tmp 116) i10_2 j11_2) (fun t117 _ => 
                                                                                                                                    Join1 (fun k_28 h_51 => guardP t117 true (k_28 data0 h_51) (k_28 undef h_51) ⟨⟩ ⟨⟩) (fun t119 _ => 
                                                                                                                                      Join1 (fun k_29 h_52 => guardP t117 true (k_29 j11_2 h_52) (k_29 undef h_52) ⟨⟩ ⟨⟩) (fun t120 _ => 
                                                                                                                                        Join1 (fun k_30 h_53 => guardP t117 true (Hp Try.prog true (Instr.indexAt 23 t119 t120) k_30 h_53 ⟨⟩) (k_30 undef h_53) ⟨⟩ ⟨⟩) (fun t121 _ => 
                                                                                                                                          Join1 (fun k_31 h_54 => guardP t117 true (Hp Try.prog true (Instr.loadAt 3 t121) k_31 h_54 ⟨⟩) (k_31 undef h_54) ⟨⟩ ⟨⟩) (fun t122 _ => 
                                                                                                                                            Join1 (fun k_32 h_55 => guardP t117 true (k_32 data0 h_55) (k_32 undef h_55) ⟨⟩ ⟨⟩) (fun t123 _ => 
                                                                                                                                              Join1 (fun k_33 h_56 => guardP t117 true (k_33 a1 h_56) (k_33 undef h_56) ⟨⟩ ⟨⟩) (fun t124 _ => 
                                                                                                                                                Join1 (fun k_34 h_57 => guardP t117 true (Hp Try.prog true (Instr.indexAt 23 t123 t124) k_34 h_57 ⟨⟩) (k_34 undef h_57) ⟨⟩ ⟨⟩) (fun t125 _ => 
                                                                                                                                                  Join1 (fun k_35 h_58 => guardP t117 true (Hp Try.prog true (Instr.loadAt 3 t125) k_35 h_58 ⟨⟩) (k_35 undef h_58) ⟨⟩ ⟨⟩) (fun t126 _ => 
                                                                                                                                                    Join1 (fun k_36 h_59 => guardP t117 true (CallsH Try.prog 63 #[t122, t126] h_59 k_36 ⟨⟩) (k_36 undef h_59) ⟨⟩ ⟨⟩) (fun t127 h_60 => 
                                                                                                                                                      Join1 (fun k_37 h_61 => guardP t117 true (Hp Try.prog true (Op.unary .not t127) k_37 h_61 ⟨⟩) (k_37 undef h_61) ⟨⟩ ⟨⟩) (fun t128 _ => 
                                                                                                                                                        Hp Try.prog true (pickS t117 t128 (.bool false)) (fun t129 _ => 
                                                                                                                                                          CondP t129 (
                                                                                                                                                            Hp Try.prog false (binS .sub 3 (.tmp 130) (.const (.int .i64 1)) j11_2 (.int .i64 1)) (fun t131 h_62 => 
                                                                                                                                                              X_4 t131 h_62) h_60 ⟨⟩) (
                                                                                                                                                            Hp Try.prog false (binS .gtr 3 (.tmp 132) (.tmp 133) i10_2 j11_2) (fun t134 h_63 => 
                                                                                                                                                              CondP t134 (
                                                                                                                                                                Hp Try.prog true (Instr.indexAt 23 data0 a1) (fun t159 _ => 
                                                                                                                                                                  Hp Try.prog true (Instr.loadAt 3 t159) (fun t160 _ => 
                                                                                                                                                                    Hp Try.prog true (Instr.indexAt 23 data0 j11_2) (fun t163 _ => 
                                                                                                                                                                      Hp Try.prog true (Instr.loadAt 3 t163) (fun t164 _ => 
                                                                                                                                                                        Hp Try.prog true (Instr.indexAt 23 data0 j11_2) (fun t165 _ => 
                                                                                                                                                                          Hp Try.prog false (storeS 3 t165 t160) (fun _ h_64 => 
                                                                                                                                                                            Hp Try.prog true (Instr.indexAt 23 data0 a1) (fun t166 _ => 
                                                                                                                                                                              Hp Try.prog false (storeS 3 t166 t164) (fun _ h_65 => 
                                                                                                                                                                                R (.tuple #[j11_2, (.bool false)]) h_65) h_64 ⟨⟩) #[] ⟨⟩) h_63 ⟨⟩) #[] ⟨⟩) h_63 ⟨⟩) #[] ⟨⟩) h_63 ⟨⟩) #[] ⟨⟩) (
                                                                                                                                                                Hp Try.prog true (Instr.indexAt 23 data0 j11_2) (fun t141 _ => 
                                                                                                                                                                  Hp Try.prog true (Instr.loadAt 3 t141) (fun t142 _ => 
                                                                                                                                                                    Hp Try.prog true (Instr.indexAt 23 data0 i10_2) (fun t145 _ => 
                                                                                                                                                                      Hp Try.prog true (Instr.loadAt 3 t145) (fun t146 _ => 
                                                                                                                                                                        Hp Try.prog true (Instr.indexAt 23 data0 i10_2) (fun t147 _ => 
                                                                                                                                                                          Hp Try.prog false (storeS 3 t147 t142) (fun _ h_66 => 
                                                                                                                                                                            Hp Try.prog true (Instr.indexAt 23 data0 j11_2) (fun t148 _ => 
                                                                                                                                                                              Hp Try.prog false (storeS 3 t148 t146) (fun _ h_67 => 
                                                                                                                                                                                Hp Try.prog false (binS .add 3 (.tmp 149) (.const (.int .i64 1)) i10_2 (.int .i64 1)) (fun t150 h_68 => 
                                                                                                                                                                                  Hp Try.prog false (binS .sub 3 (.tmp 151) (.const (.int .i64 1)) j11_2 (.int .i64 1)) (fun t152 h_69 => 
                                                                                                                                                                                    X_2 t150 t152 h_69) h_68 ⟨⟩) h_67 ⟨⟩) h_66 ⟨⟩) #[] ⟨⟩) h_63 ⟨⟩) #[] ⟨⟩) h_63 ⟨⟩) #[] ⟨⟩) h_63 ⟨⟩) #[] ⟨⟩) ⟨⟩ ⟨⟩) h_60 ⟨⟩) ⟨⟩ ⟨⟩) #[] ⟨⟩) #[] ⟨⟩ ⟨⟩) h_50 ⟨⟩ ⟨⟩) h_50 ⟨⟩ ⟨⟩) #[] ⟨⟩ ⟨⟩) #[] ⟨⟩ ⟨⟩) #[] ⟨⟩ ⟨⟩) h_50 ⟨⟩ ⟨⟩) #[] ⟨⟩ ⟨⟩) #[] ⟨⟩ ⟨⟩) #[] ⟨⟩ ⟨⟩) #[] ⟨⟩) [j11_1] h_48 ⟨⟩) ⟨⟩ ⟨⟩) #[] ⟨⟩) h_38 ⟨⟩ ⟨⟩) h_38 ⟨⟩ ⟨⟩) #[] ⟨⟩ ⟨⟩) #[] ⟨⟩ ⟨⟩) #[] ⟨⟩ ⟨⟩) h_38 ⟨⟩ ⟨⟩) #[] ⟨⟩ ⟨⟩) #[] ⟨⟩ ⟨⟩) #[] ⟨⟩ ⟨⟩) #[] ⟨⟩) [i10_1] h_37 ⟨⟩) [t96, t98] h_36 ⟨⟩) h_35 ⟨⟩) h_34 ⟨⟩) h_33 ⟨⟩) #[] ⟨⟩) h_30 ⟨⟩) #[] ⟨⟩) h_30 ⟨⟩) #[] ⟨⟩) h_30 ⟨⟩) #[] ⟨⟩) ⟨⟩ ⟨⟩) h_27 ⟨⟩) ⟨⟩ ⟨⟩) #[] ⟨⟩) #[] ⟨⟩ ⟨⟩) h_17 ⟨⟩ ⟨⟩) h_17 ⟨⟩ ⟨⟩) #[] ⟨⟩ ⟨⟩) #[] ⟨⟩ ⟨⟩) #[] ⟨⟩ ⟨⟩) h_17 ⟨⟩ ⟨⟩) #[] ⟨⟩ ⟨⟩) #[] ⟨⟩ ⟨⟩) #[] ⟨⟩ ⟨⟩) #[] ⟨⟩) [t29] h_15 ⟨⟩) ⟨⟩ ⟨⟩) #[] ⟨⟩) h_5 ⟨⟩ ⟨⟩) h_5 ⟨⟩ ⟨⟩) #[] ⟨⟩ ⟨⟩) #[] ⟨⟩ ⟨⟩) #[] ⟨⟩ ⟨⟩) h_5 ⟨⟩ ⟨⟩) #[] ⟨⟩ ⟨⟩) #[] ⟨⟩ ⟨⟩) #[] ⟨⟩ ⟨⟩) #[] ⟨⟩) [t27] h_4 ⟨⟩) h_3 ⟨⟩) h_2 ⟨⟩) h_1 ⟨⟩) #[] ⟨⟩) h ⟨⟩) #[] ⟨⟩) h ⟨⟩) #[] ⟨⟩) h ⟨⟩) #[] ⟨⟩

theorem n65_calls {data0 a1 b2 pivot3 : Value} {R : Value → Heap → Prop} {h : Heap} (H : n65 data0 a1 b2 pivot3 R h) : CallsH Try.prog 65 #[data0, a1, b2, pivot3] h R ⟨⟩ :=
  callsH_of_eq Try.follow (.n none .l (.n none .l (.n none .l (.n none (.n none (.n (some [11]) .l .l) .l) (.n none (.n none (.n (some [12]) .l .l) .l) (.n none .l (.n none .l (.n none .l (.n none .l (.n none (.n none (.n (some [11, 12]) (.n none (.n none (.n none (.n (some [11]) .l .l) .l) (.n none (.n none (.n (some [12]) .l .l) .l) .l)) .l) .l) .l) .l)))))))))) Try.func65 (by kernel_rfl) (by kernel_rfl) (by kernel_rfl) H

/-- slices.siftDownOrdered[int] -/
def n70 (data0 lo1 hi2 first3 : Value) (R : Value → Heap → Prop) (h : Heap) : Prop :=
  LoopC 1 (fun (X : Value → Heap → Prop) => fun root8 h_1 =>
    Hp Try.prog false (binS .mul 3 (.const (.int .i64 2)) (.tmp 11) (.int .i64 2) root8) (fun t12 h_2 => 
      Hp Try.prog false (binS .add 3 (.tmp 12) (.const (.int .i64 1)) t12 (.int .i64 1)) (fun t13 h_3 => 
        Hp Try.prog false (binS .geq 3 (.tmp 14) (.tmp 15) t13 hi2) (fun t16 h_4 => 
          CondP t16 (
            R (.tuple #[]) h_4) (
            JoinN 1 (fun (k : Value → Heap → Prop) h_5 =>
              Hp Try.prog true (binS .add 3 (.tmp 17) (.const (.int .i64 1)) t13 (.int .i64 1)) (fun t18 _ => 
                Hp Try.prog true (binS .lss 3 (.tmp 18) (.tmp 19) t18 hi2) (fun t20 _ => 
                  Join1 (fun k_1 h_6 => guardP t20 true (k_1 data0 h_6) (k_1 undef h_6) ⟨⟩ ⟨⟩) (fun t22 _ => 
                    Join1 (fun k_2 h_7 => guardP t20 true (k_2 first3 h_7) (k_2 undef h_7) ⟨⟩ ⟨⟩) (fun t23 _ => 
                      Join1 (fun k_3 h_8 => guardP t20 true (k_3 t13 h_8) (k_3 undef h_8) ⟨⟩ ⟨⟩) (fun t24 _ => 
                        Join1 (fun k_4 h_9 => guardP t20 true (Hp Try.prog true (binS .add 3 (.tmp 23) (.tmp 24) t23 t24) k_4 h_9 ⟨⟩) (k_4 undef h_9) ⟨⟩ ⟨⟩) (fun t25 _ => 
                          Join1 (fun k_5 h_10 => guardP t20 true (Hp Try.prog true (Instr.indexAt 23 t22 t25) k_5 h_10 ⟨⟩) (k_5 undef h_10) ⟨⟩ ⟨⟩) (fun t26 _ => 
                            Join1 (fun k_6 h_11 => guardP t20 true (Hp Try.prog true (Instr.loadAt 3 t26) k_6 h_11 ⟨⟩) (k_6 undef h_11) ⟨⟩ ⟨⟩) (fun t27 _ => 
                              Join1 (fun k_7 h_12 => guardP t20 true (k_7 data0 h_12) (k_7 undef h_12) ⟨⟩ ⟨⟩) (fun t28 _ => 
                                Join1 (fun k_8 h_13 => guardP t20 true (k_8 first3 h_13) (k_8 undef h_13) ⟨⟩ ⟨⟩) (fun t29 _ => 
                                  Join1 (fun k_9 h_14 => guardP t20 true (k_9 t13 h_14) (k_9 undef h_14) ⟨⟩ ⟨⟩) (fun t30 _ => 
                                    Join1 (fun k_10 h_15 => guardP t20 true (Hp Try.prog true (binS .add 3 (.tmp 29) (.tmp 30) t29 t30) k_10 h_15 ⟨⟩) (k_10 undef h_15) ⟨⟩ ⟨⟩) (fun t31 _ => 
                                      Join1 (fun k_11 h_16 => guardP t20 true (Hp Try.prog true (binS .add 3 (.tmp 31) (.const (.int .i64 1)) t31 (.int .i64 1)) k_11 h_16 ⟨⟩) (k_11 undef h_16) ⟨⟩ ⟨⟩) (fun t32 _ => 
                                        Join1 (fun k_12 h_17 => guardP t20 true (Hp Try.prog true (Instr.indexAt 23 t28 t32) k_12 h_17 ⟨⟩) (k_12 undef h_17) ⟨⟩ ⟨⟩) (fun t33 _ => 
                                          Join1 (fun k_13 h_18 => guardP t20 true (Hp Try.prog true (Instr.loadAt 3 t33) k_13 h_18 ⟨⟩) (k_13 undef h_18) ⟨⟩ ⟨⟩) (fun t34 _ => 
                                            Join1 (fun k_14 h_19 => guardP t20 true (CallsH Try.prog 63 #[t27, t34] h_19 k_14 ⟨⟩) (k_14 undef h_19) ⟨⟩ ⟨⟩) (fun t35 h_20 => 
                                              Hp Try.prog true (pickS t20 t35 (.bool false)) (fun t36 _ => 
                                                CondP t36 (
                                                  Hp Try.prog false (binS .add 3 (.tmp 37) (.const (.int .i64 1)) t13 (.int .i64 1)) (fun t38 h_21 => 
                                                    k t38 h_21) h_20 ⟨⟩) (
                                                  k t13 h_20) ⟨⟩ ⟨⟩) #[] ⟨⟩) h_5 ⟨⟩ ⟨⟩) h_5 ⟨⟩ ⟨⟩) #[] ⟨⟩ ⟨⟩) #[] ⟨⟩ ⟨⟩) #[] ⟨⟩ ⟨⟩) #[] ⟨⟩ ⟨⟩) #[] ⟨⟩ ⟨⟩) #[] ⟨⟩ ⟨⟩) h_5 ⟨⟩ ⟨⟩) #[] ⟨⟩ ⟨⟩) #[] ⟨⟩ ⟨⟩) #[] ⟨⟩ ⟨⟩) #[] ⟨⟩ ⟨⟩) #[] ⟨⟩ ⟨⟩) #[] ⟨⟩) #[] ⟨⟩)
              (fun child9 h_22 =>
              Hp Try.prog true (binS .add 3 (.tmp 40) (.tmp 41) first3 root8) (fun t42 _ => 
                Hp Try.prog true (Instr.indexAt 23 data0 t42) (fun t43 _ => 
                  Hp Try.prog true (Instr.loadAt 3 t43) (fun t44 _ => 
                    Hp Try.prog true (binS .add 3 (.tmp 46) (.tmp 47) first3 child9) (fun t48 _ => 
                      Hp Try.prog true (Instr.indexAt 23 data0 t48) (fun t49 _ => 
                        Hp Try.prog true (Instr.loadAt 3 t49) (fun t50 _ => 
                          CallsH Try.prog 63 #[t44, t50] h_22 (fun t51 h_23 => 
                            Hp Try.prog true (Op.unary .not t51) (fun t52 _ => 
                              CondP t52 (
                                R (.tuple #[]) h_23) (
                                Hp Try.prog true (binS .add 3 (.tmp 54) (.tmp 55) first3 root8) (fun t56 _ => 
                                  Hp Try.prog true (binS .add 3 (.tmp 58) (.tmp 59) first3 child9) (fun t60 _ => 
                                    Hp Try.prog true (binS .add 3 (.tmp 62) (.tmp 63) first3 child9) (fun t64 _ => 
                                      Hp Try.prog true (Instr.indexAt 23 data0 t64) (fun t65 _ => 
                                        Hp Try.prog true (Instr.loadAt 3 t65) (fun t66 _ => 
                                          Hp Try.prog true (binS .add 3 (.tmp 68) (.tmp 69) first3 root8) (fun t70 _ => 
                                            Hp Try.prog true (Instr.indexAt 23 data0 t70) (fun t71 _ => 
                                              Hp Try.prog true (Instr.loadAt 3 t71) (fun t72 _ => 
                                                Hp Try.prog true (Instr.indexAt 23 data0 t56) (fun t73 _ => 
                                                  Hp Try.prog false (storeS 3 t73 t66) (fun _ h_24 => 
                                                    Hp Try.prog true (Instr.indexAt 23 data0 t60) (fun t74 _ => 
                                                      Hp Try.prog false (storeS 3 t74 t72) (fun _ h_25 => 
                                                        X child9 h_25) h_24 ⟨⟩) #[] ⟨⟩) h_23 ⟨⟩) #[] ⟨⟩) h_23 ⟨⟩) #[] ⟨⟩) #[] ⟨⟩) h_23 ⟨⟩) #[] ⟨⟩) #[] ⟨⟩) #[] ⟨⟩) #[] ⟨⟩) ⟨⟩ ⟨⟩) #[] ⟨⟩) ⟨⟩) h_22 ⟨⟩) #[] ⟨⟩) #[] ⟨⟩) h_22 ⟨⟩) #[] ⟨⟩) #[] ⟨⟩) h_4 ⟨⟩ ⟨⟩) ⟨⟩ ⟨⟩) h_3 ⟨⟩) h_2 ⟨⟩) h_1 ⟨⟩) [lo1] h ⟨⟩

theorem n70_calls {data0 lo1 hi2 first3 : Value} {R : Value → Heap → Prop} {h : Heap} (H : n70 data0 lo1 hi2 first3 R h) : CallsH Try.prog 70 #[data0, lo1, hi2, first3] h R ⟨⟩ :=
  callsH_of_eq Try.follow (.n none .l (.n none (.n (some [9]) (.n none (.n none .l (.n none .l (.n (some [10]) .l .l))) .l) .l) .l)) Try.func70 (by kernel_rfl) (by kernel_rfl) (by kernel_rfl) H

/-- slices.nextPowerOfTwo -/
def n71 (length0 : Value) (R : Value → Heap → Prop) (h : Heap) : Prop :=
  Hp Try.prog false (convert 3 91 length0) (fun t4 h_1 => 
    CallsH Try.prog 53 #[t4] h_1 (fun t5 h_2 => 
      Hp Try.prog false (binS .shl 91 (.const (.int .u64 1)) (.tmp 5) (.int .u64 1) t5) (fun t6 h_3 => 
        R t6 h_3) h_2 ⟨⟩) ⟨⟩) h ⟨⟩

theorem n71_calls {length0 : Value} {R : Value → Heap → Prop} {h : Heap} (H : n71 length0 R h) : CallsH Try.prog 71 #[length0] h R ⟨⟩ :=
  callsH_of_eq Try.follow .l Try.func71 (by kernel_rfl) (by kernel_rfl) (by kernel_rfl) H

/-- (*slices.xorshift).Next -/
def n72 (r0 : Value) (R : Value → Heap → Prop) (h : Heap) : Prop :=
  Hp Try.prog true (nilS r0) (fun t4 _ => 
    Hp Try.prog true (Instr.loadAt 108 t4) (fun t5 _ => 
      Hp Try.prog true (nilS r0) (fun t7 _ => 
        Hp Try.prog true (Instr.loadAt 108 t7) (fun t8 _ => 
          Hp Try.prog true (binS .shl 108 (.tmp 8) (.const (.int .u64 13)) t8 (.int .u64 13)) (fun t9 _ => 
            Hp Try.prog true (binS .xor 108 (.tmp 5) (.tmp 9) t5 t9) (fun t10 _ => 
              Hp Try.prog true (nilS r0) (fun t11 _ => 
                Hp Try.prog false (storeS 108 t11 t10) (fun _ h_1 => 
                  Hp Try.prog true (nilS r0) (fun t13 _ => 
                    Hp Try.prog true (Instr.loadAt 108 t13) (fun t14 _ => 
                      Hp Try.prog true (nilS r0) (fun t16 _ => 
                        Hp Try.prog true (Instr.loadAt 108 t16) (fun t17 _ => 
                          Hp Try.prog true (binS .shr 108 (.tmp 17) (.const (.int .u64 7)) t17 (.int .u64 7)) (fun t18 _ => 
                            Hp Try.prog true (binS .xor 108 (.tmp 14) (.tmp 18) t14 t18) (fun t19 _ => 
                              Hp Try.prog true (nilS r0) (fun t20 _ => 
                                Hp Try.prog false (storeS 108 t20 t19) (fun _ h_2 => 
                                  Hp Try.prog true (nilS r0) (fun t22 _ => 
                                    Hp Try.prog true (Instr.loadAt 108 t22) (fun t23 _ => 
                                      Hp Try.prog true (nilS r0) (fun t25 _ => 
                                        Hp Try.prog true (Instr.loadAt 108 t25) (fun t26 _ => 
                                          Hp Try.prog true (binS .shl 108 (.tmp 26) (.const (.int .u64 17)) t26 (.int .u64 17)) (fun t27 _ => 
                                            Hp Try.prog true (binS .xor 108 (.tmp 23) (.tmp 27) t23 t27) (fun t28 _ => 
                                              Hp Try.prog true (nilS r0) (fun t29 _ => 
                                                Hp Try.prog false (storeS 108 t29 t28) (fun _ h_3 => 
                                                  Hp Try.prog false (nilS r0) (fun t31 h_4 => 
                                                    Hp Try.prog false (Instr.loadAt 108 t31) (fun t32 h_5 => 
                                                      R t32 h_5) h_4 ⟨⟩) h_3 ⟨⟩) h_2 ⟨⟩) #[] ⟨⟩) #[] ⟨⟩) #[] ⟨⟩) h_2 ⟨⟩) #[] ⟨⟩) h_2 ⟨⟩) #[] ⟨⟩) h_1 ⟨⟩) #[] ⟨⟩) #[] ⟨⟩) #[] ⟨⟩) h_1 ⟨⟩) #[] ⟨⟩) h_1 ⟨⟩) #[] ⟨⟩) h ⟨⟩) #[] ⟨⟩) #[] ⟨⟩) #[] ⟨⟩) h ⟨⟩) #[] ⟨⟩) h ⟨⟩) #[] ⟨⟩

theorem n72_calls {r0 : Value} {R : Value → Heap → Prop} {h : Heap} (H : n72 r0 R h) : CallsH Try.prog 72 #[r0] h R ⟨⟩ :=
  callsH_of_eq Try.follow .l Try.func72 (by kernel_rfl) (by kernel_rfl) (by kernel_rfl) H

/-- slices.medianAdjacentOrdered[int] -/
def n73 (data0 a1 swaps2 : Value) (R : Value → Heap → Prop) (h : Heap) : Prop :=
  Hp Try.prog false (binS .sub 3 (.tmp 8) (.const (.int .i64 1)) a1 (.int .i64 1)) (fun t9 h_1 => 
    Hp Try.prog false (binS .add 3 (.tmp 11) (.const (.int .i64 1)) a1 (.int .i64 1)) (fun t12 h_2 => 
      CallsH Try.prog 74 #[data0, t9, a1, t12, swaps2] h_2 (fun t14 h_3 => 
        R t14 h_3) ⟨⟩) h_1 ⟨⟩) h ⟨⟩

theorem n73_calls {data0 a1 swaps2 : Value} {R : Value → Heap → Prop} {h : Heap} (H : n73 data0 a1 swaps2 R h) : CallsH Try.prog 73 #[data0, a1, swaps2] h R ⟨⟩ :=
  callsH_of_eq Try.follow .l Try.func73 (by kernel_rfl) (by kernel_rfl) (by kernel_rfl) H

/-- slices.medianOrdered[int] -/
def n74 (data0 a1 b2 c3 swaps4 : Value) (R : Value → Heap → Prop) (h : Heap) : Prop :=
  CallsH Try.prog 83 #[data0, a1, b2, swaps4] h (fun t16 h_1 => 
    Hp Try.prog false (Instr.extract t16 0) (fun t17 h_2 => 
      Hp Try.prog false (Instr.extract t16 1) (fun t18 h_3 => 
        CallsH Try.prog 83 #[data0, t18, c3, swaps4] h_3 (fun t24 h_4 => 
          Hp Try.prog false (Instr.extract t24 0) (fun t25 h_5 => 
            Hp Try.prog false (Instr.extract t24 1) (fun t26 h_6 => 
              CallsH Try.prog 83 #[data0, t17, t25, swaps4] h_6 (fun t32 h_7 => 
                Hp Try.prog false (Instr.extract t32 0) (fun t33 h_8 => 
                  Hp Try.prog false (Instr.extract t32 1) (fun t34 h_9 => 
                    R t34 h_9) h_8 ⟨⟩) h_7 ⟨⟩) ⟨⟩) h_5 ⟨⟩) h_4 ⟨⟩) ⟨⟩) h_2 ⟨⟩) h_1 ⟨⟩) ⟨⟩

theorem n74_calls {data0 a1 b2 c3 swaps4 : Value} {R : Value → Heap → Prop} {h : Heap} (H : n74 data0 a1 b2 c3 swaps4 R h) : CallsH Try.prog 74 #[data0, a1, b2, c3, swaps4] h R ⟨⟩ :=
  callsH_of_eq Try.follow .l Try.func74 (by kernel_rfl) (by kernel_rfl) (by kernel_rfl) H

/-- slices.insertionSortCmpFunc[*palimpsest/locks.request] -/
def n75 (data0 a1 b2 cmp3 : Value) (R : Value → Heap → Prop) (h : Heap) : Prop :=
  Hp Try.prog false (binS .add 3 (.tmp 10) (.const (.int .i64 1)) a1 (.int .i64 1)) (fun t11 h_1 => 
    LoopC 1 (fun (X : Value → Heap → Prop) => fun i8 h_2 =>
      Hp Try.prog false (binS .lss 3 (.tmp 12) (.tmp 13) i8 b2) (fun t14 h_3 => 
        CondP t14 (
          LoopC 1 (fun (X_1 : Value → Heap → Prop) => fun j9 h_4 =>
            Hp Try.prog true (binS .gtr 3 (.tmp 18) (.tmp 19) j9 a1) (fun t20 _ => 
              Join1 (fun k h_5 => guardP t20 true (k cmp3 h_5) (k undef h_5) ⟨⟩ ⟨⟩) (fun t22 _ => 
                Join1 (fun k_1 h_6 => guardP t20 true (k_1 data0 h_6) (k_1 undef h_6) ⟨⟩ ⟨⟩) (fun t23 _ => 
                  Join1 (fun k_2 h_7 => guardP t20 true (k_2 j9 h_7) (k_2 undef h_7) ⟨⟩ ⟨⟩) (fun t24 _ => 
                    Join1 (fun k_3 h_8 => guardP t20 true (Hp Try.prog true (Instr.indexAt 54 t23 t24) k_3 h_8 ⟨⟩) (k_3 undef h_8) ⟨⟩ ⟨⟩) (fun t25 _ => 
                      Join1 (fun k_4 h_9 => guardP t20 true (Hp Try.prog true (Instr.loadAt 59 t25) k_4 h_9 ⟨⟩) (k_4 undef h_9) ⟨⟩ ⟨⟩) (fun t26 _ => 
                        Join1 (fun k_5 h_10 => guardP t20 true (k_5 data0 h_10) (k_5 undef h_10) ⟨⟩ ⟨⟩) (fun t27 _ => 
                          Join1 (fun k_6 h_11 => guardP t20 true (k_6 j9 h_11) (k_6 undef h_11) ⟨⟩ ⟨⟩) (fun t28 _ => 
                            Join1 (fun k_7 h_12 => guardP t20 true (Hp Try.prog true (binS .sub 3 (.tmp 28) (.const (.int .i64 1)) t28 (.int .i64 1)) k_7 h_12 ⟨⟩) (k_7 undef h_12) ⟨⟩ ⟨⟩) (fun t29 _ => 
                              Join1 (fun k_8 h_13 => guardP t20 true (Hp Try.prog true (Instr.indexAt 54 t27 t29) k_8 h_13 ⟨⟩) (k_8 undef h_13) ⟨⟩ ⟨⟩) (fun t30 _ => 
                                Join1 (fun k_9 h_14 => guardP t20 true (Hp Try.prog true (Instr.loadAt 59 t30) k_9 h_14 ⟨⟩) (k_9 undef h_14) ⟨⟩ ⟨⟩) (fun t31 _ => 
                                  Join1 (fun k_10 h_15 => guardP t20 true (InvokeH Try.prog t22 #[t26, t31] h_15 k_10 ⟨⟩) (k_10 undef h_15) ⟨⟩ ⟨⟩) (fun t32 h_16 => 
                                    Join1 (fun k_11 h_17 => guardP t20 true (Hp Try.prog true (binS .lss 3 (.tmp 32) (.const (.int .i64 0)) t32 (.int .i64 0)) k_11 h_17 ⟨⟩) (k_11 undef h_17) ⟨⟩ ⟨⟩) (fun t33 _ => 
                                      Hp Try.prog true (pickS t20 t33 (.bool false)) (fun t34 _ => 
                                        CondP t34 (
                                          Hp Try.prog true (binS .sub 3 (.tmp 40) (.const (.int .i64 1)) j9 (.int .i64 1)) (fun t41 _ => 
                                            Hp Try.prog true (binS .sub 3 (.tmp 43) (.const (.int .i64 1)) j9 (.int .i64 1)) (fun t44 _ => 
                                              Hp Try.prog true (Instr.indexAt 54 data0 t44) (fun t45 _ => 
                                                Hp Try.prog true (Instr.loadAt 59 t45) (fun t46 _ => 
                                                  Hp Try.prog true (Instr.indexAt 54 data0 j9) (fun t49 _ => 
                                                    Hp Try.prog true (Instr.loadAt 59 t49) (fun t50 _ => 
                                                      Hp Try.prog true (Instr.indexAt 54 data0 j9) (fun t51 _ => 
                                                        Hp Try.prog false (storeS 59 t51 t46) (fun _ h_18 => 
                                                          Hp Try.prog true (Instr.indexAt 54 data0 t41) (fun t52 _ => 
                                                            Hp Try.prog false (storeS 59 t52 t50) (fun _ h_19 => 
                                                              Hp Try.prog false (binS .sub 3 (.tmp 35) (.const (.int .i64 1)) j9 (.int .i64 1)) (fun t36 h_20 => 
                                                                X_1 t36 h_20) h_19 ⟨⟩) h_18 ⟨⟩) #[] ⟨⟩) h_16 ⟨⟩) #[] ⟨⟩) h_16 ⟨⟩) #[] ⟨⟩) h_16 ⟨⟩) #[] ⟨⟩) #[] ⟨⟩) #[] ⟨⟩) (
                                          Hp Try.prog false (binS .add 3 (.tmp 15) (.const (.int .i64 1)) i8 (.int .i64 1)) (fun t16 h_21 => 
                                            X t16 h_21) h_16 ⟨⟩) ⟨⟩ ⟨⟩) #[] ⟨⟩) #[] ⟨⟩ ⟨⟩) h_4 ⟨⟩ ⟨⟩) h_4 ⟨⟩ ⟨⟩) #[] ⟨⟩ ⟨⟩) #[] ⟨⟩ ⟨⟩) #[] ⟨⟩ ⟨⟩) #[] ⟨⟩ ⟨⟩) h_4 ⟨⟩ ⟨⟩) #[] ⟨⟩ ⟨⟩) #[] ⟨⟩ ⟨⟩) #[] ⟨⟩ ⟨⟩) #[] ⟨⟩ ⟨⟩) #[] ⟨⟩) [i8] h_3 ⟨⟩) (
          R (.tuple #[]) h_3) ⟨⟩ ⟨⟩) h_2 ⟨⟩) [t11] h_1 ⟨⟩) h ⟨⟩

theorem n75_calls {data0 a1 b2 cmp3 : Value} {R : Value → Heap → Prop} {h : Heap} (H : n75 data0 a1 b2 cmp3 R h) : CallsH Try.prog 75 #[data0, a1, b2, cmp3] h R ⟨⟩ :=
  callsH_of_eq Try.follow (.n none .l (.n none (.n (some [9]) (.n none .l (.n none (.n none (.n none .l (.n none (.n (some [10]) .l .l) .l)) .l) .l)) .l) .l)) Try.func75 (by kernel_rfl) (by kernel_rfl) (by kernel_rfl) H

/-- slices.heapSortCmpFunc[*palimpsest/locks.request] -/
def n76 (data0 a1 b2 cmp3 : Value) (R : Value → Heap → Prop) (h : Heap) : Prop :=
  Hp Try.prog false (binS .sub 3 (.tmp 14) (.tmp 15) b2 a1) (fun t16 h_1 => 
    Hp Try.prog false (binS .sub 3 (.tmp 17) (.const (.int .i64 1)) t16 (.int .i64 1)) (fun t18 h_2 => 
      Hp Try.prog false (binS .quo 3 (.tmp 18) (.const (.int .i64 2)) t18 (.int .i64 2)) (fun t19 h_3 => 
        LoopC 1 (fun (X : Value → Heap → Prop) => fun i11 h_4 =>
          Hp Try.prog false (binS .geq 3 (.tmp 20) (.const (.int .i64 0)) i11 (.int .i64 0)) (fun t21 h_5 => 
            CondP t21 (
              CallsH Try.prog 84 #[data0, i11, t16, a1, cmp3] h_5 (fun t29 h_6 => 
                Hp Try.prog false (binS .sub 3 (.tmp 22) (.const (.int .i64 1)) i11 (.int .i64 1)) (fun t23 h_7 => 
                  X t23 h_7) h_6 ⟨⟩) ⟨⟩) (
              Hp Try.prog false (binS .sub 3 (.tmp 30) (.const (.int .i64 1)) t16 (.int .i64 1)) (fun t31 h_8 => 
                LoopC 1 (fun (X_1 : Value → Heap → Prop) => fun i12 h_9 =>
                  Hp Try.prog false (binS .geq 3 (.tmp 32) (.const (.int .i64 0)) i12 (.int .i64 0)) (fun t33 h_10 => 
                    CondP t33 (
                      Hp Try.prog true (binS .add 3 (.tmp 39) (.tmp 40) a1 i12) (fun t41 _ => 
                        Hp Try.prog true (binS .add 3 (.tmp 43) (.tmp 44) a1 i12) (fun t45 _ => 
                          Hp Try.prog true (Instr.indexAt 54 data0 t45) (fun t46 _ => 
                            Hp Try.prog true (Instr.loadAt 59 t46) (fun t47 _ => 
                              Hp Try.prog true (Instr.indexAt 54 data0 a1) (fun t50 _ => 
                                Hp Try.prog true (Instr.loadAt 59 t50) (fun t51 _ => 
                                  Hp Try.prog true (Instr.indexAt 54 data0 a1) (fun t52 _ => 
                                    Hp Try.prog false (storeS 59 t52 t47) (fun _ h_11 => 
                                      Hp Try.prog true (Instr.indexAt 54 data0 t41) (fun t53 _ => 
                                        Hp Try.prog false (storeS 59 t53 t51) (fun _ h_12 => 
                                          CallsH Try.prog 84 #[data0, (.int .i64 0), i12, a1, cmp3] h_12 (fun t59 h_13 => 
                                            Hp Try.prog false (binS .sub 3 (.tmp 34) (.const (.int .i64 1)) i12 (.int .i64 1)) (fun t35 h_14 => 
                                              X_1 t35 h_14) h_13 ⟨⟩) ⟨⟩) h_11 ⟨⟩) #[] ⟨⟩) h_10 ⟨⟩) #[] ⟨⟩) h_10 ⟨⟩) #[] ⟨⟩) h_10 ⟨⟩) #[] ⟨⟩) #[] ⟨⟩) #[] ⟨⟩) (
                      R (.tuple #[]) h_10) ⟨⟩ ⟨⟩) h_9 ⟨⟩) [t31] h_8 ⟨⟩) h_5 ⟨⟩) ⟨⟩ ⟨⟩) h_4 ⟨⟩) [t19] h_3 ⟨⟩) h_2 ⟨⟩) h_1 ⟨⟩) h ⟨⟩

theorem n76_calls {data0 a1 b2 cmp3 : Value} {R : Value → Heap → Prop} {h : Heap} (H : n76 data0 a1 b2 cmp3 R h) : CallsH Try.prog 76 #[data0, a1, b2, cmp3] h R ⟨⟩ :=
  callsH_of_eq Try.follow (.n none .l (.n none .l (.n none .l (.n none (.n none .l (.n none (.n (some [12]) .l .l) .l)) (.n none .l (.n none (.n (some [13]) .l .l) .l)))))) Try.func76 (by kernel_rfl) (by kernel_rfl) (by kernel_rfl) H

/-- slices.breakPatternsCmpFunc[*palimpsest/locks.request] -/
def n77 (data0 a1 b2 cmp3 : Value) (R : Value → Heap → Prop) (h : Heap) : Prop :=
  Hp Try.prog false (binS .sub 3 (.tmp 13) (.tmp 14) b2 a1) (fun t15 h_1 => 
    Hp Try.prog false (binS .geq 3 (.tmp 16) (.const (.int .i64 8)) t15 (.int .i64 8)) (fun t17 h_2 => 
      CondP t17 (
        Hp Try.prog false (convert 3 108 t15) (fun t19 h_3 => 
          Hp Try.prog false (Instr.alloc 108 true undef) (fun random9 h_4 => 
            Hp Try.prog false (storeS 108 random9 t19) (fun _ h_5 => 
              CallsH Try.prog 71 #[t15] h_5 (fun t21 h_6 => 
                Hp Try.prog false (binS .quo 3 (.tmp 23) (.const (.int .i64 4)) t15 (.int .i64 4)) (fun t24 h_7 => 
                  Hp Try.prog false (binS .mul 3 (.tmp 24) (.const (.int .i64 2)) t24 (.int .i64 2)) (fun t25 h_8 => 
                    Hp Try.prog false (binS .add 3 (.tmp 22) (.tmp 25) a1 t25) (fun t26 h_9 => 
                      Hp Try.prog false (binS .sub 3 (.tmp 26) (.const (.int .i64 1)) t26 (.int .i64 1)) (fun t27 h_10 => 
                        LoopC 1 (fun (X : Value → Heap → Prop) => fun idx11 h_11 =>
                          Hp Try.prog false (binS .quo 3 (.tmp 30) (.const (.int .i64 4)) t15 (.int .i64 4)) (fun t31 h_12 => 
                            Hp Try.prog false (binS .mul 3 (.tmp 31) (.const (.int .i64 2)) t31 (.int .i64 2)) (fun t32 h_13 => 
                              Hp Try.prog false (binS .add 3 (.tmp 29) (.tmp 32) a1 t32) (fun t33 h_14 => 
                                Hp Try.prog false (binS .add 3 (.tmp 33) (.const (.int .i64 1)) t33 (.int .i64 1)) (fun t34 h_15 => 
                                  Hp Try.prog false (binS .leq 3 (.tmp 28) (.tmp 34) idx11 t34) (fun t35 h_16 => 
                                    CondP t35 (
                                      CallsH Try.prog 72 #[random9] h_16 (fun t38 h_17 => 
                                        Hp Try.prog false (binS .sub 91 (.tmp 39) (.const (.int .u64 1)) t21 (.int .u64 1)) (fun t40 h_18 => 
                                          Hp Try.prog false (binS .and 91 (.tmp 38) (.tmp 40) t38 t40) (fun t41 h_19 => 
                                            Hp Try.prog false (convert 91 3 t41) (fun t42 h_20 => 
                                              JoinN 1 (fun (k : Value → Heap → Prop) h_21 =>
                                                Hp Try.prog false (binS .geq 3 (.tmp 43) (.tmp 44) t42 t15) (fun t45 h_22 => 
                                                  CondP t45 (
                                                    Hp Try.prog false (binS .sub 3 (.tmp 46) (.tmp 47) t42 t15) (fun t48 h_23 => 
                                                      k t48 h_23) h_22 ⟨⟩) (
                                                    k t42 h_22) ⟨⟩ ⟨⟩) h_21 ⟨⟩)
                                                (fun other12 h_24 =>
                                                Hp Try.prog true (binS .add 3 (.tmp 52) (.tmp 53) a1 other12) (fun t54 _ => 
                                                  Hp Try.prog true (binS .add 3 (.tmp 56) (.tmp 57) a1 other12) (fun t58 _ => 
                                                    Hp Try.prog true (Instr.indexAt 54 data0 t58) (fun t59 _ => 
                                                      Hp Try.prog true (Instr.loadAt 59 t59) (fun t60 _ => 
                                                        Hp Try.prog true (Instr.indexAt 54 data0 idx11) (fun t63 _ => 
                                                          Hp Try.prog true (Instr.loadAt 59 t63) (fun t64 _ => 
                                                            Hp Try.prog true (Instr.indexAt 54 data0 idx11) (fun t65 _ => 
                                                              Hp Try.prog false (storeS 59 t65 t60) (fun _ h_25 => 
                                                                Hp Try.prog true (Instr.indexAt 54 data0 t54) (fun t66 _ => 
                                                                  Hp Try.prog false (storeS 59 t66 t64) (fun _ h_26 => 
                                                                    Hp Try.prog false (binS .add 3 (.tmp 36) (.const (.int .i64 1)) idx11 (.int .i64 1)) (fun t37 h_27 => 
                                                                      X t37 h_27) h_26 ⟨⟩) h_25 ⟨⟩) #[] ⟨⟩) h_24 ⟨⟩) #[] ⟨⟩) h_24 ⟨⟩) #[] ⟨⟩) h_24 ⟨⟩) #[] ⟨⟩) #[] ⟨⟩) #[] ⟨⟩) h_20 ⟨⟩ ⟨⟩) h_19 ⟨⟩) h_18 ⟨⟩) h_17 ⟨⟩) ⟨⟩) (
                                      R (.tuple #[]) h_16) ⟨⟩ ⟨⟩) h_15 ⟨⟩) h_14 ⟨⟩) h_13 ⟨⟩) h_12 ⟨⟩) h_11 ⟨⟩) [t27] h_10 ⟨⟩) h_9 ⟨⟩) h_8 ⟨⟩) h_7 ⟨⟩) h_6 ⟨⟩) ⟨⟩) h_4 ⟨⟩) h_3 ⟨⟩) h_2 ⟨⟩) (
        R (.tuple #[]) h_2) ⟨⟩ ⟨⟩) h_1 ⟨⟩) h ⟨⟩

theorem n77_calls {data0 a1 b2 cmp3 : Value} {R : Value → Heap → Prop} {h : Heap} (H : n77 data0 a1 b2 cmp3 R h) : CallsH Try.prog 77 #[data0, a1, b2, cmp3] h R ⟨⟩ :=
  callsH_of_eq Try.follow (.n none .l (.n none .l (.n none (.n none .l (.n none .l (.n none .l (.n none (.n (some [12]) (.n none .l (.n none (.n none (.n none .l (.n (some [13]) .l .l)) .l) .l)) .l) .l)))) .l))) Try.func77 (by kernel_rfl) (by kernel_rfl) (by kernel_rfl) H

/-- slices.choosePivotCmpFunc[*palimpsest/locks.request] -/
def n78 (data0 a1 b2 cmp3 : Value) (R : Value → Heap → Prop) (h : Heap) : Prop :=
  Hp Try.prog false (binS .sub 3 (.tmp 15) (.tmp 16) b2 a1) (fun t17 h_1 => 
    Hp Try.prog false (Instr.alloc 3 true undef) (fun swaps11 h_2 => 
      Hp Try.prog false (binS .quo 3 (.tmp 19) (.const (.int .i64 4)) t17 (.int .i64 4)) (fun t20 h_3 => 
        Hp Try.prog false (binS .mul 3 (.tmp 20) (.const (.int .i64 1)) t20 (.int .i64 1)) (fun t21 h_4 => 
          Hp Try.prog false (binS .add 3 (.tmp 18) (.tmp 21) a1 t21) (fun t22 h_5 => 
            Hp Try.prog false (binS .quo 3 (.tmp 24) (.const (.int .i64 4)) t17 (.int .i64 4)) (fun t25 h_6 => 
              Hp Try.prog false (binS .mul 3 (.tmp 25) (.const (.int .i64 2)) t25 (.int .i64 2)) (fun t26 h_7 => 
                Hp Try.prog false (binS .add 3 (.tmp 23) (.tmp 26) a1 t26) (fun t27 h_8 => 
                  Hp Try.prog false (binS .quo 3 (.tmp 29) (.const (.int .i64 4)) t17 (.int .i64 4)) (fun t30 h_9 => 
                    Hp Try.prog false (binS .mul 3 (.tmp 30) (.const (.int .i64 3)) t30 (.int .i64 3)) (fun t31 h_10 => 
                      Hp Try.prog false (binS .add 3 (.tmp 28) (.tmp 31) a1 t31) (fun t32 h_11 => 
                        JoinN 1 (fun (k : Value → Heap → Prop) h_12 =>
                          Hp Try.prog false (binS .geq 3 (.tmp 33) (.const (.int .i64 8)) t17 (.int .i64 8)) (fun t34 h_13 => 
                            CondP t34 (
                              JoinN 3 (fun (k_1 : Value → Value → Value → Heap → Prop) h_14 =>
                                Hp Try.prog false (binS .geq 3 (.tmp 35) (.const (.int .i64 50)) t17 (.int .i64 50)) (fun t36 h_15 => 
                                  CondP t36 (
                                    CallsH Try.prog 85 #[data0, t22, swaps11, cmp3] h_15 (fun t40 h_16 => 
                                      CallsH Try.prog 85 #[data0, t27, swaps11, cmp3] h_16 (fun t44 h_17 => 
                                        CallsH Try.prog 85 #[data0, t32, swaps11, cmp3] h_17 (fun t48 h_18 => 
                                          k_1 t40 t44 t48 h_18) ⟨⟩) ⟨⟩) ⟨⟩) (
                                    k_1 t22 t27 t32 h_15) ⟨⟩ ⟨⟩) h_14 ⟨⟩)
                                (fun i12 j13 k14 h_19 =>
                                CallsH Try.prog 86 #[data0, i12, j13, k14, swaps11, cmp3] h_19 (fun t54 h_20 => 
                                  k t54 h_20) ⟨⟩) h_13 ⟨⟩ ⟨⟩) (
                              k t27 h_13) ⟨⟩ ⟨⟩) h_12 ⟨⟩)
                          (fun j13_1 h_21 =>
                          Hp Try.prog false (Instr.loadAt 3 swaps11) (fun t55 h_22 => 
                            Hp Try.prog false (binS .eql 3 (.tmp 55) (.const (.int .i64 0)) t55 (.int .i64 0)) (fun t58 h_23 => 
                              CondP t58 (
                                R (.tuple #[j13_1, (.int .i64 1)]) h_23) (
                                Hp Try.prog false (binS .eql 3 (.tmp 55) (.const (.int .i64 12)) t55 (.int .i64 12)) (fun t61 h_24 => 
                                  CondP t61 (
                                    R (.tuple #[j13_1, (.int .i64 2)]) h_24) (
                                    R (.tuple #[j13_1, (.int .i64 0)]) h_24) ⟨⟩ ⟨⟩) h_23 ⟨⟩) ⟨⟩ ⟨⟩) h_22 ⟨⟩) h_21 ⟨⟩) h_11 ⟨⟩ ⟨⟩) h_10 ⟨⟩) h_9 ⟨⟩) h_8 ⟨⟩) h_7 ⟨⟩) h_6 ⟨⟩) h_5 ⟨⟩) h_4 ⟨⟩) h_3 ⟨⟩) h_2 ⟨⟩) h_1 ⟨⟩) h ⟨⟩

theorem n78_calls {data0 a1 b2 cmp3 : Value} {R : Value → Heap → Prop} {h : Heap} (H : n78 data0 a1 b2 cmp3 R h) : CallsH Try.prog 78 #[data0, a1, b2, cmp3] h R ⟨⟩ :=
  callsH_of_eq Try.follow (.n none .l (.n none .l (.n none .l (.n none .l (.n none .l (.n none .l (.n (some [14]) (.n none .l (.n none (.n (some [13, 14, 15]) .l .l) .l)) .l))))))) Try.func78 (by kernel_rfl) (by kernel_rfl) (by kernel_rfl) H

/-- slices.reverseRangeCmpFunc[*palimpsest/locks.request] -/
def n79 (data0 a1 b2 cmp3 : Value) (R : Value → Heap → Prop) (h : Heap) : Prop :=
  Hp Try.prog false (binS .sub 3 (.tmp 11) (.const (.int .i64 1)) b2 (.int .i64 1)) (fun t12 h_1 => 
    LoopC 2 (fun (X : Value → Value → Heap → Prop) => fun i8 j9 h_2 =>
      Hp Try.prog false (binS .lss 3 (.tmp 13) (.tmp 14) i8 j9) (fun t15 h_3 => 
        CondP t15 (
          Hp Try.prog true (Instr.indexAt 54 data0 j9) (fun t22 _ => 
            Hp Try.prog true (Instr.loadAt 59 t22) (fun t23 _ => 
              Hp Try.prog true (Instr.indexAt 54 data0 i8) (fun t26 _ => 
                Hp Try.prog true (Instr.loadAt 59 t26) (fun t27 _ => 
                  Hp Try.prog true (Instr.indexAt 54 data0 i8) (fun t28 _ => 
                    Hp Try.prog false (storeS 59 t28 t23) (fun _ h_4 => 
                      Hp Try.prog true (Instr.indexAt 54 data0 j9) (fun t29 _ => 
                        Hp Try.prog false (storeS 59 t29 t27) (fun _ h_5 => 
                          Hp Try.prog false (binS .add 3 (.tmp 30) (.const (.int .i64 1)) i8 (.int .i64 1)) (fun t31 h_6 => 
                            Hp Try.prog false (binS .sub 3 (.tmp 32) (.const (.int .i64 1)) j9 (.int .i64 1)) (fun t33 h_7 => 
                              X t31 t33 h_7) h_6 ⟨⟩) h_5 ⟨⟩) h_4 ⟨⟩) #[] ⟨⟩) h_3 ⟨⟩) #[] ⟨⟩) h_3 ⟨⟩) #[] ⟨⟩) h_3 ⟨⟩) #[] ⟨⟩) (
          R (.tuple #[]) h_3) ⟨⟩ ⟨⟩) h_2 ⟨⟩) [a1, t12] h_1 ⟨⟩) h ⟨⟩

theorem n79_calls {data0 a1 b2 cmp3 : Value} {R : Value → Heap → Prop} {h : Heap} (H : n79 data0 a1 b2 cmp3 R h) : CallsH Try.prog 79 #[data0, a1, b2, cmp3] h R ⟨⟩ :=
  callsH_of_eq Try.follow (.n none .l (.n none .l (.n none (.n (some [9, 10]) .l .l) .l))) Try.func79 (by kernel_rfl) (by kernel_rfl) (by kernel_rfl) H

/-- slices.partialInsertionSortCmpFunc[*palimpsest/locks.request] -/
def n80 (data0 a1 b2 cmp3 : Value) (R : Value → Heap → Prop) (h : Heap) : Prop :=
  Hp Try.prog false (binS .add 3 (.tmp 13) (.const (.int .i64 1)) a1 (.int .i64 1)) (fun t14 h_1 => 
    LoopC 2 (fun (X : Value → Value → Heap → Prop) => fun i9 j10 h_2 =>
      Hp Try.prog false (binS .lss 3 (.tmp 15) (.const (.int .i64 5)) j10 (.int .i64 5)) (fun t16 h_3 => 
        CondP t16 (
          JoinN 1 (fun (k : Value → Heap → Prop) h_4 =>
            JoinN 1 (fun (k_1 : Value → Heap → Prop) h_5 =>
              LoopC 1 (fun (X_1 : Value → Heap → Prop) => fun i9_1 h_6 =>
                Hp Try.prog true (binS .lss 3 (.tmp 19) (.tmp 20) i9_1 b2) (fun t21 _ => 
                  Join1 (fun k_2 h_7 => guardP t21 true (k_2 cmp3 h_7) (k_2 undef h_7) ⟨⟩ ⟨⟩) (fun t23 _ => 
                    Join1 (fun k_3 h_8 => guardP t21 true (k_3 data0 h_8) (k_3 undef h_8) ⟨⟩ ⟨⟩) (fun t24 _ => 
                      Join1 (fun k_4 h_9 => guardP t21 true (k_4 i9_1 h_9) (k_4 undef h_9) ⟨⟩ ⟨⟩) (fun t25 _ => 
                        Join1 (fun k_5 h_10 => guardP t21 true (Hp Try.prog true (Instr.indexAt 54 t24 t25) k_5 h_10 ⟨⟩) (k_5 undef h_10) ⟨⟩ ⟨⟩) (fun t26 _ => 
                          Join1 (fun k_6 h_11 => guardP t21 true (Hp Try.prog true (Instr.loadAt 59 t26) k_6 h_11 ⟨⟩) (k_6 undef h_11) ⟨⟩ ⟨⟩) (fun t27 _ => 
                            Join1 (fun k_7 h_12 => guardP t21 true (k_7 data0 h_12) (k_7 undef h_12) ⟨⟩ ⟨⟩) (fun t28 _ => 
                              Join1 (fun k_8 h_13 => guardP t21 true (k_8 i9_1 h_13) (k_8 undef h_13) ⟨⟩ ⟨⟩) (fun t29 _ => 
                                Join1 (fun k_9 h_14 => guardP t21 true (Hp Try.prog true (binS .sub 3 (.tmp 29) (.const (.int .i64 1)) t29 (.int .i64 1)) k_9 h_14 ⟨⟩) (k_9 undef h_14) ⟨⟩ ⟨⟩) (fun t30 _ => 
                                  Join1 (fun k_10 h_15 => guardP t21 true (Hp Try.prog true (Instr.indexAt 54 t28 t30) k_10 h_15 ⟨⟩) (k_10 undef h_15) ⟨⟩ ⟨⟩) (fun t31 _ => 
                                    Join1 (fun k_11 h_16 => guardP t21 true (Hp Try.prog true (Instr.loadAt 59 t31) k_11 h_16 ⟨⟩) (k_11 undef h_16) ⟨⟩ ⟨⟩) (fun t32 _ => 
                                      Join1 (fun k_12 h_17 => guardP t21 true (InvokeH Try.prog t23 #[t27, t32] h_17 k_12 ⟨⟩) (k_12 undef h_17) ⟨⟩ ⟨⟩) (fun t33 h_18 => 
                                        Join1 (fun k_13 h_19 => guardP t21 true (Hp Try.prog true (binS .lss 3 (.tmp 33) (.const (.int .i64 0)) t33 (.int .i64 0)) k_13 h_19 ⟨⟩) (k_13 undef h_19) ⟨⟩ ⟨⟩) (fun t34 _ => 
                                          Join1 (fun k_14 h_20 => guardP t21 true (Hp Try.prog true (Op.unary .not t34) k_14 h_20 ⟨⟩) (k_14 undef h_20) ⟨⟩ ⟨⟩) (fun t35 _ => 
                                            Hp Try.prog true (pickS t21 t35 (.bool false)) (fun t36 _ => 
                                              CondP t36 (
                                                Hp Try.prog false (binS .add 3 (.tmp 37) (.const (.int .i64 1)) i9_1 (.int .i64 1)) (fun t38 h_21 => 
                                                  X_1 t38 h_21) h_18 ⟨⟩) (
                                                Hp Try.prog false (binS .eql 3 (.tmp 39) (.tmp 40) i9_1 b2) (fun t41 h_22 => 
                                                  CondP t41 (
                                                    R (.bool true) h_22) (
                                                    Hp Try.prog false (binS .sub 3 (.tmp 42) (.tmp 43) b2 a1) (fun t44 h_23 => 
                                                      Hp Try.prog false (binS .lss 3 (.tmp 44) (.const (.int .i64 50)) t44 (.int .i64 50)) (fun t45 h_24 => 
                                                        CondP t45 (
                                                          R (.bool false) h_24) (
                                                          Hp Try.prog true (binS .sub 3 (.tmp 49) (.const (.int .i64 1)) i9_1 (.int .i64 1)) (fun t50 _ => 
                                                            Hp Try.prog true (binS .sub 3 (.tmp 52) (.const (.int .i64 1)) i9_1 (.int .i64 1)) (fun t53 _ => 
                                                              Hp Try.prog true (Instr.indexAt 54 data0 t53) (fun t54 _ => 
                                                                Hp Try.prog true (Instr.loadAt 59 t54) (fun t55 _ => 
                                                                  Hp Try.prog true (Instr.indexAt 54 data0 i9_1) (fun t58 _ => 
                                                                    Hp Try.prog true (Instr.loadAt 59 t58) (fun t59 _ => 
                                                                      Hp Try.prog true (Instr.indexAt 54 data0 i9_1) (fun t60 _ => 
                                                                        Hp Try.prog false (storeS 59 t60 t55) (fun _ h_25 => 
                                                                          Hp Try.prog true (Instr.indexAt 54 data0 t50) (fun t61 _ => 
                                                                            Hp Try.prog false (storeS 59 t61 t59) (fun _ h_26 => 
                                                                              JoinN 0 (fun (k_15 : Heap → Prop) h_27 =>
                                                                                Hp Try.prog false (binS .sub 3 (.tmp 62) (.tmp 63) i9_1 a1) (fun t64 h_28 => 
                                                                                  Hp Try.prog false (binS .geq 3 (.tmp 64) (.const (.int .i64 2)) t64 (.int .i64 2)) (fun t65 h_29 => 
                                                                                    CondP t65 (
                                                                                      Hp Try.prog false (binS .sub 3 (.tmp 66) (.const (.int .i64 1)) i9_1 (.int .i64 1)) (fun t67 h_30 => 
                                                                                        JoinN 0 (fun (k_16 : Heap → Prop) h_31 =>
                                                                                          LoopC 1 (fun (X_2 : Value → Heap → Prop) => fun j11 h_32 =>
                                                                                            Hp Try.prog false (binS .geq 3 (.tmp 68) (.const (.int .i64 1)) j11 (.int .i64 1)) (fun t69 h_33 => 
                                                                                              CondP t69 (
                                                                                                Hp Try.prog true (Instr.indexAt 54 data0 j11) (fun t75 _ => 
                                                                                                  Hp Try.prog true (Instr.loadAt 59 t75) (fun t76 _ => 
                                                                                                    Hp Try.prog true (binS .sub 3 (.tmp 78) (.const (.int .i64 1)) j11 (.int .i64 1)) (fun t79 _ => 
                                                                                                      Hp Try.prog true (Instr.indexAt 54 data0 t79) (fun t80 _ => 
                                                                                                        Hp Try.prog true (Instr.loadAt 59 t80) (fun t81 _ => 
                                                                                                          InvokeH Try.prog cmp3 #[t76, t81] h_33 (fun t82 h_34 => 
                                                                                                            Hp Try.prog true (binS .lss 3 (.tmp 82) (.const (.int .i64 0)) t82 (.int .i64 0)) (fun t83 _ => 
                                                                                                              Hp Try.prog true (Op.unary .not t83) (fun t84 _ => 
                                                                                                                CondP t84 (
                                                                                                                  k_16 h_34) (
                                                                                                                  Hp Try.prog true (binS .sub 3 (.tmp 88) (.const (.int .i64 1)) j11 (.int .i64 1)) (fun t89 _ => 
                                                                                                                    Hp Try.prog true (binS .sub 3 (.tmp 91) (.const (.int .i64 1)) j11 (.int .i64 1)) (fun t92 _ => 
                                                                                                                      Hp Try.prog true (Instr.indexAt 54 data0 t92) (fun t93 _ => 
                                                                                                                        Hp Try.prog true (Instr.loadAt 59 t93) (fun t94 _ => 
                                                                                                                          Hp Try.prog true (Instr.indexAt 54 data0 j11) (fun t97 _ => 
                                                                                                                            Hp Try.prog true (Instr.loadAt 59 t97) (fun t98 _ => 
                                                                                                                              Hp Try.prog true (Instr.indexAt 54 data0 j11) (fun t99 _ => 
                                                                                                                                Hp Try.prog false (storeS 59 t99 t94) (fun _ h_35 => 
                                                                                                                                  Hp Try.prog true (Instr.indexAt 54 data0 t89) (fun t100 _ => 
                                                                                                                                    Hp Try.prog false (storeS 59 t100 t98) (fun _ h_36 => 
                                                                                                                                      Hp Try.prog false (binS .sub 3 (.tmp 70) (.const (.int .i64 1)) j11 (.int .i64 1)) (fun t71 h_37 => 
                                                                                                                                        X_2 t71 h_37) h_36 ⟨⟩) h_35 ⟨⟩) #[] ⟨⟩) h_34 ⟨⟩) #[] ⟨⟩) h_34 ⟨⟩) #[] ⟨⟩) h_34 ⟨⟩) #[] ⟨⟩) #[] ⟨⟩) #[] ⟨⟩) ⟨⟩ ⟨⟩) #[] ⟨⟩) #[] ⟨⟩) ⟨⟩) h_33 ⟨⟩) #[] ⟨⟩) #[] ⟨⟩) h_33 ⟨⟩) #[] ⟨⟩) (
                                                                                                k_16 h_33) ⟨⟩ ⟨⟩) h_32 ⟨⟩) [t67] h_31 ⟨⟩)
                                                                                          (fun h_38 =>
                                                                                          k_15 h_38) h_30 ⟨⟩ ⟨⟩) h_29 ⟨⟩) (
                                                                                      k_15 h_29) ⟨⟩ ⟨⟩) h_28 ⟨⟩) h_27 ⟨⟩)
                                                                                (fun h_39 =>
                                                                                Hp Try.prog false (binS .sub 3 (.tmp 101) (.tmp 102) b2 i9_1) (fun t103 h_40 => 
                                                                                  Hp Try.prog false (binS .geq 3 (.tmp 103) (.const (.int .i64 2)) t103 (.int .i64 2)) (fun t104 h_41 => 
                                                                                    CondP t104 (
                                                                                      Hp Try.prog false (binS .add 3 (.tmp 105) (.const (.int .i64 1)) i9_1 (.int .i64 1)) (fun t106 h_42 => 
                                                                                        JoinN 0 (fun (k_17 : Heap → Prop) h_43 =>
                                                                                          LoopC 1 (fun (X_3 : Value → Heap → Prop) => fun j12 h_44 =>
                                                                                            Hp Try.prog false (binS .lss 3 (.tmp 107) (.tmp 108) j12 b2) (fun t109 h_45 => 
                                                                                              CondP t109 (
                                                                                                Hp Try.prog true (Instr.indexAt 54 data0 j12) (fun t115 _ => 
                                                                                                  Hp Try.prog true (Instr.loadAt 59 t115) (fun t116 _ => 
                                                                                                    Hp Try.prog true (binS .sub 3 (.tmp 118) (.const (.int .i64 1)) j12 (.int .i64 1)) (fun t119 _ => 
                                                                                                      Hp Try.prog true (Instr.indexAt 54 data0 t119) (fun t120 _ => 
                                                                                                        Hp Try.prog true (Instr.loadAt 59 t120) (fun t121 _ => 
                                                                                                          InvokeH Try.prog cmp3 #[t116, t121] h_45 (fun t122 h_46 => 
                                                                                                            Hp Try.prog true (binS .lss 3 (.tmp 122) (.const (.int .i64 0)) t122 (.int .i64 0)) (fun t123 _ => 
                                                                                                              Hp Try.prog true (Op.unary .not t123) (fun t124 _ => 
                                                                                                                CondP t124 (
                                                                                                                  k_17 h_46) (
                                                                                                                  Hp Try.prog true (binS .sub 3 (.tmp 128) (.const (.int .i64 1)) j12 (.int .i64 1)) (fun t129 _ => 
                                                                                                                    Hp Try.prog true (binS .sub 3 (.tmp 131) (.const (.int .i64 1)) j12 (.int .i64 1)) (fun t132 _ => 
                                                                                                                      Hp Try.prog true (Instr.indexAt 54 data0 t132) (fun t133 _ => 
                                                                                                                        Hp Try.prog true (Instr.loadAt 59 t133) (fun t134 _ => 
                                                                                                                          Hp Try.prog true (Instr.indexAt 54 data0 j12) (fun t137 _ => 
                                                                                                                            Hp Try.prog true (Instr.loadAt 59 t137) (fun t138 _ => 
                                                                                                                              Hp Try.prog true (Instr.indexAt 54 data0 j12) (fun t139 _ => 
                                                                                                                                Hp Try.prog false (storeS 59 t139 t134) (fun _ h_47 => 
                                                                                                                                  Hp Try.prog true (Instr.indexAt 54 data0 t129) (fun t140 _ => 
                                                                                                                                    Hp Try.prog false (storeS 59 t140 t138) (fun _ h_48 => 
                                                                                                                                      Hp Try.prog false (binS .add 3 (.tmp 110) (.const (.int .i64 1)) j12 (.int .i64 1)) (fun t111 h_49 => 
                                                                                                                                        X_3 t111 h_49) h_48 ⟨⟩) h_47 ⟨⟩) #[] ⟨⟩) h_46 ⟨⟩) #[] ⟨⟩) h_46 ⟨⟩) #[] ⟨⟩) h_46 ⟨⟩) #[] ⟨⟩) #[] ⟨⟩) #[] ⟨⟩) ⟨⟩ ⟨⟩) #[] ⟨⟩) #[] ⟨⟩) ⟨⟩) h_45 ⟨⟩) #[] ⟨⟩) #[] ⟨⟩) h_45 ⟨⟩) #[] ⟨⟩) (
                                                                                                k_17 h_45) ⟨⟩ ⟨⟩) h_44 ⟨⟩) [t106] h_43 ⟨⟩)
                                                                                          (fun h_50 =>
                                                                                          k_1 i9_1 h_50) h_42 ⟨⟩ ⟨⟩) h_41 ⟨⟩) (
                                                                                      k_1 i9_1 h_41) ⟨⟩ ⟨⟩) h_40 ⟨⟩) h_39 ⟨⟩) h_26 ⟨⟩ ⟨⟩) h_25 ⟨⟩) #[] ⟨⟩) h_24 ⟨⟩) #[] ⟨⟩) h_24 ⟨⟩) #[] ⟨⟩) h_24 ⟨⟩) #[] ⟨⟩) #[] ⟨⟩) #[] ⟨⟩) ⟨⟩ ⟨⟩) h_23 ⟨⟩) h_22 ⟨⟩) ⟨⟩ ⟨⟩) h_18 ⟨⟩) ⟨⟩ ⟨⟩) #[] ⟨⟩) #[] ⟨⟩ ⟨⟩) #[] ⟨⟩ ⟨⟩) h_6 ⟨⟩ ⟨⟩) h_6 ⟨⟩ ⟨⟩) #[] ⟨⟩ ⟨⟩) #[] ⟨⟩ ⟨⟩) #[] ⟨⟩ ⟨⟩) #[] ⟨⟩ ⟨⟩) h_6 ⟨⟩ ⟨⟩) #[] ⟨⟩ ⟨⟩) #[] ⟨⟩ ⟨⟩) #[] ⟨⟩ ⟨⟩) #[] ⟨⟩ ⟨⟩) #[] ⟨⟩) [i9] h_5 ⟨⟩)
              (fun i9_2 h_51 =>
              k i9_2 h_51) h_4 ⟨⟩ ⟨⟩)
            (fun i9_3 h_52 =>
            Hp Try.prog false (binS .add 3 (.tmp 17) (.const (.int .i64 1)) j10 (.int .i64 1)) (fun t18 h_53 => 
              X i9_3 t18 h_53) h_52 ⟨⟩) h_3 ⟨⟩ ⟨⟩) (
          R (.bool false) h_3) ⟨⟩ ⟨⟩) h_2 ⟨⟩) [t14, (.int .i64 0)] h_1 ⟨⟩) h ⟨⟩

theorem n80_calls {data0 a1 b2 cmp3 : Value} {R : Value → Heap → Prop} {h : Heap} (H : n80 data0 a1 b2 cmp3 R h) : CallsH Try.prog 80 #[data0, a1, b2, cmp3] h R ⟨⟩ :=
  callsH_of_eq Try.follow (.n none .l (.n none .l (.n none (.n none .l (.n none (.n (some [10, 11]) (.n none .l (.n (some [10]) (.n (some [10]) (.n none (.n none (.n (some [10]) .l .l) .l) (.n none .l (.n none .l (.n none .l (.n (some []) (.n none .l (.n none (.n none .l (.n (some []) (.n (some [12]) .l .l) .l)) .l)) (.n none .l (.n none (.n none .l (.n (some []) (.n (some [13]) .l .l) .l)) .l))))))) .l) .l)) .l) .l)) .l))) Try.func80 (by kernel_rfl) (by kernel_rfl) (by kernel_rfl) H

/-- slices.partitionEqualCmpFunc[*palimpsest/locks.request] -/
def n81 (data0 a1 b2 pivot3 cmp4 : Value) (R : Value → Heap → Prop) (h : Heap) : Prop :=
  Hp Try.prog true (Instr.indexAt 54 data0 pivot3) (fun t19 _ => 
    Hp Try.prog true (Instr.loadAt 59 t19) (fun t20 _ => 
      Hp Try.prog true (Instr.indexAt 54 data0 a1) (fun t23 _ => 
        Hp Try.prog true (Instr.loadAt 59 t23) (fun t24 _ => 
          Hp Try.prog true (Instr.indexAt 54 data0 a1) (fun t25 _ => 
            Hp Try.prog false (storeS 59 t25 t20) (fun _ h_1 => 
              Hp Try.prog true (Instr.indexAt 54 data0 pivot3) (fun t26 _ => 
                Hp Try.prog false (storeS 59 t26 t24) (fun _ h_2 => 
                  Hp Try.prog false (binS .add 3 (.tmp 27) (.const (.int .i64 1)) a1 (.int .i64 1)) (fun t28 h_3 => 
                    Hp Try.prog false (binS .sub 3 (.tmp 29) (.const (.int .i64 1)) b2 (.int .i64 1)) (fun t30 h_4 => 
                      LoopC 2 (fun (X : Value → Value → Heap → Prop) => fun i11 j12 h_5 =>
                        LoopC 1 (fun (X_1 : Value → Heap → Prop) => fun i11_1 h_6 =>
                          Hp Try.prog true (binS .leq 3 (.tmp 31) (.tmp 32) i11_1 j12) (fun t33 _ => 
                            Join1 (fun k h_7 => guardP t33 true (k cmp4 h_7) (k undef h_7) ⟨⟩ ⟨⟩) (fun t35 _ => 
                              Join1 (fun k_1 h_8 => guardP t33 true (k_1 data0 h_8) (k_1 undef h_8) ⟨⟩ ⟨⟩) (fun t36 _ => 
                                Join1 (fun k_2 h_9 => guardP t33 true (k_2 a1 h_9) (k_2 undef h_9) ⟨⟩ ⟨⟩) (fun t37 _ => 
                                  Join1 (fun k_3 h_10 => guardP t33 true (Hp Try.prog true (Instr.indexAt 54 t36 t37) k_3 h_10 ⟨⟩) (k_3 undef h_10) ⟨⟩ ⟨⟩) (fun t38 _ => 
                                    Join1 (fun k_4 h_11 => guardP t33 true (Hp Try.prog true (Instr.loadAt 59 t38) k_4 h_11 ⟨⟩) (k_4 undef h_11) ⟨⟩ ⟨⟩) (fun t39 _ => 
                                      Join1 (fun k_5 h_12 => guardP t33 true (k_5 data0 h_12) (k_5 undef h_12) ⟨⟩ ⟨⟩) (fun t40 _ => 
                                        Join1 (fun k_6 h_13 => guardP t33 true (k_6 i11_1 h_13) (k_6 undef h_13) ⟨⟩ ⟨⟩) (fun t41 _ => 
                                          Join1 (fun k_7 h_14 => guardP t33 true (Hp Try.prog true (Instr.indexAt 54 t40 t41) k_7 h_14 ⟨⟩) (k_7 undef h_14) ⟨⟩ ⟨⟩) (fun t42 _ => 
                                            Join1 (fun k_8 h_15 => guardP t33 true (Hp Try.prog true (Instr.loadAt 59 t42) k_8 h_15 ⟨⟩) (k_8 undef h_15) ⟨⟩ ⟨⟩) (fun t43 _ => 
                                              Join1 (fun k_9 h_16 => guardP t33 true (InvokeH Try.prog t35 #[t39, t43] h_16 k_9 ⟨⟩) (k_9 undef h_16) ⟨⟩ ⟨⟩) (fun t44 h_17 => 
                                                Join1 (fun k_10 h_18 => guardP t33 true (Hp Try.prog true (binS .lss 3 (.tmp 44) (.const (.int .i64 0)) t44 (.int .i64 0)) k_10 h_18 ⟨⟩) (k_10 undef h_18) ⟨⟩ ⟨⟩) (fun t45 _ => 
                                                  Join1 (fun k_11 h_19 => guardP t33 true (Hp Try.prog true (Op.unary .not t45) k_11 h_19 ⟨⟩) (k_11 undef h_19) ⟨⟩ ⟨⟩) (fun t46 _ => 
                                                    Hp Try.prog true (pickS t33 t46 (.bool false)) (fun t47 _ => 
                                                      CondP t47 (
                                                        Hp Try.prog false (binS .add 3 (.tmp 48) (.const (.int .i64 1)) i11_1 (.int .i64 1)) (fun t49 h_20 => 
                                                          X_1 t49 h_20) h_17 ⟨⟩) (
                                                        LoopC 1 (fun (X_2 : Value → Heap → Prop) => fun j12_1 h_21 =>
                                                          Hp Try.prog true (binS .leq 3 (.tmp 50) (.tmp 51) i11_1 j12_1) (fun t52 _ => 
                                                            Join1 (fun k_12 h_22 => guardP t52 true (k_12 cmp4 h_22) (k_12 undef h_22) ⟨⟩ ⟨⟩) (fun t54 _ => 
                                                              Join1 (fun k_13 h_23 => guardP t52 true (k_13 data0 h_23) (k_13 undef h_23) ⟨⟩ ⟨⟩) (fun t55 _ => 
                                                                Join1 (fun k_14 h_24 => guardP t52 true (k_14 a1 h_24) (k_14 undef h_24) ⟨⟩ ⟨⟩) (fun t56 _ => 
                                                                  Join1 (fun k_15 h_25 => guardP t52 true (Hp Try.prog true (Instr.indexAt 54 t55 t56) k_15 h_25 ⟨⟩) (k_15 undef h_25) ⟨⟩ ⟨⟩) (fun t57 _ => 
                                                                    Join1 (fun k_16 h_26 => guardP t52 true (Hp Try.prog true (Instr.loadAt 59 t57) k_16 h_26 ⟨⟩) (k_16 undef h_26) ⟨⟩ ⟨⟩) (fun t58 _ => 
                                                                      Join1 (fun k_17 h_27 => guardP t52 true (k_17 data0 h_27) (k_17 undef h_27) ⟨⟩ ⟨⟩) (fun t59 _ => 
                                                                        Join1 (fun k_18 h_28 => guardP t52 true (k_18 j12_1 h_28) (k_18 undef h_28) ⟨⟩ ⟨⟩) (fun t60 _ => 
                                                                          Join1 (fun k_19 h_29 => guardP t52 true (Hp Try.prog true (Instr.indexAt 54 t59 t60) k_19 h_29 ⟨⟩) (k_19 undef h_29) ⟨⟩ ⟨⟩) (fun t61 _ => 
                                                                            Join1 (fun k_20 h_30 => guardP t52 true (Hp Try.prog true (Instr.loadAt 59 t61) k_20 h_30 ⟨⟩) (k_20 undef h_30) ⟨⟩ ⟨⟩) (fun t62 _ => 
                                                                              Join1 (fun k_21 h_31 => guardP t52 true (InvokeH Try.prog t54 #[t58, t62] h_31 k_21 ⟨⟩) (k_21 undef h_31) ⟨⟩ ⟨⟩) (fun t63 h_32 => 
                                                                                Join1 (fun k_22 h_33 => guardP t52 true (Hp Try.prog true (binS .lss 3 (.tmp 63) (.const (.int .i64 0)) t63 (.int .i64 0)) k_22 h_33 ⟨⟩) (k_22 undef h_33) ⟨⟩ ⟨⟩) (fun t64 _ => 
                                                                                  Hp Try.prog true (pickS t52 t64 (.bool false)) (fun t65 _ => 
                                                                                    CondP t65 (
                                                                                      Hp Try.prog false (binS .sub 3 (.tmp 66) (.const (.int .i64 1)) j12_1 (.int .i64 1)) (fun t67 h_34 => 
                                                                                        X_2 t67 h_34) h_32 ⟨⟩) (
                                                                                      Hp Try.prog false (binS .gtr 3 (.tmp 68) (.tmp 69) i11_1 j12_1) (fun t70 h_35 => 
                                                                                        CondP t70 (
                                                                                          R i11_1 h_35) (
                                                                                          Hp Try.prog true (Instr.indexAt 54 data0 j12_1) (fun t77 _ => 
                                                                                            Hp Try.prog true (Instr.loadAt 59 t77) (fun t78 _ => 
                                                                                              Hp Try.prog true (Instr.indexAt 54 data0 i11_1) (fun t81 _ => 
                                                                                                Hp Try.prog true (Instr.loadAt 59 t81) (fun t82 _ => 
                                                                                                  Hp Try.prog true (Instr.indexAt 54 data0 i11_1) (fun t83 _ => 
                                                                                                    Hp Try.prog false (storeS 59 t83 t78) (fun _ h_36 => 
                                                                                                      Hp Try.prog true (Instr.indexAt 54 data0 j12_1) (fun t84 _ => 
                                                                                                        Hp Try.prog false (storeS 59 t84 t82) (fun _ h_37 => 
                                                                                                          Hp Try.prog false (binS .add 3 (.tmp 85) (.const (.int .i64 1)) i11_1 (.int .i64 1)) (fun t86 h_38 => 
                                                                                                            Hp Try.prog false (binS .sub 3 (.tmp 87) (.const (.int .i64 1)) j12_1 (.int .i64 1)) (fun t88 h_39 => 
                                                                                                              X t86 t88 h_39) h_38 ⟨⟩) h_37 ⟨⟩) h_36 ⟨⟩) #[] ⟨⟩) h_35 ⟨⟩) #[] ⟨⟩) h_35 ⟨⟩) #[] ⟨⟩) h_35 ⟨⟩) #[] ⟨⟩) ⟨⟩ ⟨⟩) h_32 ⟨⟩) ⟨⟩ ⟨⟩) #[] ⟨⟩) #[] ⟨⟩ ⟨⟩) h_21 ⟨⟩ ⟨⟩) h_21 ⟨⟩ ⟨⟩) #[] ⟨⟩ ⟨⟩) #[] ⟨⟩ ⟨⟩) #[] ⟨⟩ ⟨⟩) h_21 ⟨⟩ ⟨⟩) #[] ⟨⟩ ⟨⟩) #[] ⟨⟩ ⟨⟩) #[] ⟨⟩ ⟨⟩) #[] ⟨⟩ ⟨⟩) #[] ⟨⟩) [j12] h_17 ⟨⟩) ⟨⟩ ⟨⟩) #[] ⟨⟩) #[] ⟨⟩ ⟨⟩) #[] ⟨⟩ ⟨⟩) h_6 ⟨⟩ ⟨⟩) h_6 ⟨⟩ ⟨⟩) #[] ⟨⟩ ⟨⟩) #[] ⟨⟩ ⟨⟩) #[] ⟨⟩ ⟨⟩) h_6 ⟨⟩ ⟨⟩) #[] ⟨⟩ ⟨⟩) #[] ⟨⟩ ⟨⟩) #[] ⟨⟩ ⟨⟩) #[] ⟨⟩ ⟨⟩) #[] ⟨⟩) [i11] h_5 ⟨⟩) [t28, t30] h_4 ⟨⟩) h_3 ⟨⟩) h_2 ⟨⟩) h_1 ⟨⟩) #[] ⟨⟩) h ⟨⟩) #[] ⟨⟩) h ⟨⟩) #[] ⟨⟩) h ⟨⟩) #[] ⟨⟩

theorem n81_calls {data0 a1 b2 pivot3 cmp4 : Value} {R : Value → Heap → Prop} {h : Heap} (H : n81 data0 a1 b2 pivot3 cmp4 R h) : CallsH Try.prog 81 #[data0, a1, b2, pivot3, cmp4] h R ⟨⟩ :=
  callsH_of_eq Try.follow (.n none .l (.n none .l (.n none .l (.n none (.n none (.n (some [12, 13]) (.n none (.n none (.n none (.n (some [12]) .l .l) .l) (.n none (.n none (.n (some [13]) .l .l) .l) .l)) .l) .l) .l) .l)))) Try.func81 (by kernel_rfl) (by kernel_rfl) (by kernel_rfl) H

/-- slices.partitionCmpFunc[*palimpsest/locks.request] -/
def n82 (data0 a1 b2 pivot3 cmp4 : Value) (R : Value → Heap → Prop) (h : Heap) : Prop :=
  Hp Try.prog true (Instr.indexAt 54 data0 pivot3) (fun t20 _ => 
    Hp Try.prog true (Instr.loadAt 59 t20) (fun t21 _ => 
      Hp Try.prog true (Instr.indexAt 54 data0 a1) (fun t24 _ => 
        Hp Try.prog true (Instr.loadAt 59 t24) (fun t25 _ => 
          Hp Try.prog true (Instr.indexAt 54 data0 a1) (fun t26 _ => 
            Hp Try.prog false (storeS 59 t26 t21) (fun _ h_1 => 
              Hp Try.prog true (Instr.indexAt 54 data0 pivot3) (fun t27 _ => 
                Hp Try.prog false (storeS 59 t27 t25) (fun _ h_2 => 
                  Hp Try.prog false (binS .add 3 (.tmp 28) (.const (.int .i64 1)) a1 (.int .i64 1)) (fun t29 h_3 => 
                    Hp Try.prog false (binS .sub 3 (.tmp 30) (.const (.int .i64 1)) b2 (.int .i64 1)) (fun t31 h_4 => 
                      LoopC 1 (fun (X : Value → Heap → Prop) => fun i12 h_5 =>
                        Hp Try.prog true (binS .leq 3 (.tmp 32) (.tmp 33) i12 t31) (fun t34 _ => 
                          Join1 (fun k h_6 => guardP t34 true (k cmp4 h_6) (k undef h_6) ⟨⟩ ⟨⟩) (fun t36 _ => 
                            Join1 (fun k_1 h_7 => guardP t34 true (k_1 data0 h_7) (k_1 undef h_7) ⟨⟩ ⟨⟩) (fun t37 _ => 
                              Join1 (fun k_2 h_8 => guardP t34 true (k_2 i12 h_8) (k_2 undef h_8) ⟨⟩ ⟨⟩) (fun t38 _ => 
                                Join1 (fun k_3 h_9 => guardP t34 true (Hp Try.prog true (Instr.indexAt 54 t37 t38) k_3 h_9 ⟨⟩) (k_3 undef h_9) ⟨⟩ ⟨⟩) (fun t39 _ => 
                                  Join1 (fun k_4 h_10 => guardP t34 true (Hp Try.prog true (Instr.loadAt 59 t39) k_4 h_10 ⟨⟩) (k_4 undef h_10) ⟨⟩ ⟨⟩) (fun t40 _ => 
                                    Join1 (fun k_5 h_11 => guardP t34 true (k_5 data0 h_11) (k_5 undef h_11) ⟨⟩ ⟨⟩) (fun t41 _ => 
                                      Join1 (fun k_6 h_12 => guardP t34 true (k_6 a1 h_12) (k_6 undef h_12) ⟨⟩ ⟨⟩) (fun t42 _ => 
                                        Join1 (fun k_7 h_13 => guardP t34 true (Hp Try.prog true (Instr.indexAt 54 t41 t42) k_7 h_13 ⟨⟩) (k_7 undef h_13) ⟨⟩ ⟨⟩) (fun t43 _ => 
                                          Join1 (fun k_8 h_14 => guardP t34 true (Hp Try.prog true (Instr.loadAt 59 t43) k_8 h_14 ⟨⟩) (k_8 undef h_14) ⟨⟩ ⟨⟩) (fun t44 _ => 
                                            Join1 (fun k_9 h_15 => guardP t34 true (InvokeH Try.prog t36 #[t40, t44] h_15 k_9 ⟨⟩) (k_9 undef h_15) ⟨⟩ ⟨⟩) (fun t45 h_16 => 
                                              Join1 (fun k_10 h_17 => guardP t34 true (Hp Try.prog true (binS .lss 3 (.tmp 45) (.const (.int .i64 0)) t45 (.int .i64 0)) k_10 h_17 ⟨⟩) (k_10 undef h_17) ⟨⟩ ⟨⟩) (fun t46 _ => 
                                                Hp Try.prog true (pickS t34 t46 (.bool false)) (fun t47 _ => 
                                                  CondP t47 (
                                                    Hp Try.prog false (binS .add 3 (.tmp 48) (.const (.int .i64 1)) i12 (.int .i64 1)) (fun t49 h_18 => 
                                                      X t49 h_18) h_16 ⟨⟩) (
                                                    LoopC 1 (fun (X_1 : Value → Heap → Prop) => fun j13 h_19 =>
                                                      Hp Try.prog true (binS .leq 3 (.tmp 50) (.tmp 51) i12 j13) (fun t52 _ => 
                                                        Join1 (fun k_11 h_20 => guardP t52 true (k_11 cmp4 h_20) (k_11 undef h_20) ⟨⟩ ⟨⟩) (fun t54 _ => 
                                                          Join1 (fun k_12 h_21 => guardP t52 true (k_12 data0 h_21) (k_12 undef h_21) ⟨⟩ ⟨⟩) (fun t55 _ => 
                                                            Join1 (fun k_13 h_22 => guardP t52 true (k_13 j13 h_22) (k_13 undef h_22) ⟨⟩ ⟨⟩) (fun t56 _ => 
                                                              Join1 (fun k_14 h_23 => guardP t52 true (Hp Try.prog true (Instr.indexAt 54 t55 t56) k_14 h_23 ⟨⟩) (k_14 undef h_23) ⟨⟩ ⟨⟩) (fun t57 _ => 
                                                                Join1 (fun k_15 h_24 => guardP t52 true (Hp Try.prog true (Instr.loadAt 59 t57) k_15 h_24 ⟨⟩) (k_15 undef h_24) ⟨⟩ ⟨⟩) (fun t58 _ => 
                                                                  Join1 (fun k_16 h_25 => guardP t52 true (k_16 data0 h_25) (k_16 undef h_25) ⟨⟩ ⟨⟩) (fun t59 _ => 
                                                                    Join1 (fun k_17 h_26 => guardP t52 true (k_17 a1 h_26) (k_17 undef h_26) ⟨⟩ ⟨⟩) (fun t60 _ => 
                                                                      Join1 (fun k_18 h_27 => guardP t52 true (Hp Try.prog true (Instr.indexAt 54 t59 t60) k_18 h_27 ⟨⟩) (k_18 undef h_27) ⟨⟩ ⟨⟩) (fun t61 _ => 
                                                                        Join1 (fun k_19 h_28 => guardP t52 true (Hp Try.prog true (Instr.loadAt 59 t61) k_19 h_28 ⟨⟩) (k_19 undef h_28) ⟨⟩ ⟨⟩) (fun t62 _ => 
                                                                          Join1 (fun k_20 h_29 => guardP t52 true (InvokeH Try.prog t54 #[t58, t62] h_29 k_20 ⟨⟩) (k_20 undef h_29) ⟨⟩ ⟨⟩) (fun t63 h_30 => 
                                                                            Join1 (fun k_21 h_31 => guardP t52 true (Hp Try.prog true (binS .lss 3 (.tmp 63) (.const (.int .i64 0)) t63 (.int .i64 0)) k_21 h_31 ⟨⟩) (k_21 undef h_31) ⟨⟩ ⟨⟩) (fun t64 _ => 
                                                                              Join1 (fun k_22 h_32 => guardP t52 true (Hp Try.prog true (Op.unary .not t64) k_22 h_32 ⟨⟩) (k_22 undef h_32) ⟨⟩ ⟨⟩) (fun t65 _ => 
                                                                                Hp Try.prog true (pickS t52 t65 (.bool false)) (fun t66 _ => 
                                                                                  CondP t66 (
                                                                                    Hp Try.prog false (binS .sub 3 (.tmp 67) (.const (.int .i64 1)) j13 (.int .i64 1)) (fun t68 h_33 => 
                                                                                      X_1 t68 h_33) h_30 ⟨⟩) (
                                                                                    Hp Try.prog false (binS .gtr 3 (.tmp 69) (.tmp 70) i12 j13) (fun t71 h_34 => 
                                                                                      CondP t71 (
                                                                                        Hp Try.prog true (Instr.indexAt 54 data0 a1) (fun t78 _ => 
                                                                                          Hp Try.prog true (Instr.loadAt 59 t78) (fun t79 _ => 
                                                                                            Hp Try.prog true (Instr.indexAt 54 data0 j13) (fun t82 _ => 
                                                                                              Hp Try.prog true (Instr.loadAt 59 t82) (fun t83 _ => 
                                                                                                Hp Try.prog true (Instr.indexAt 54 data0 j13) (fun t84 _ => 
                                                                                                  Hp Try.prog false (storeS 59 t84 t79) (fun _ h_35 => 
                                                                                                    Hp Try.prog true (Instr.indexAt 54 data0 a1) (fun t85 _ => 
                                                                                                      Hp Try.prog false (storeS 59 t85 t83) (fun _ h_36 => 
                                                                                                        R (.tuple #[j13, (.bool true)]) h_36) h_35 ⟨⟩) #[] ⟨⟩) h_34 ⟨⟩) #[] ⟨⟩) h_34 ⟨⟩) #[] ⟨⟩) h_34 ⟨⟩) #[] ⟨⟩) (
                                                                                        Hp Try.prog true (Instr.indexAt 54 data0 j13) (fun t93 _ => 
                                                                                          Hp Try.prog true (Instr.loadAt 59 t93) (fun t94 _ => 
                                                                                            Hp Try.prog true (Instr.indexAt 54 data0 i12) (fun t97 _ => 
                                                                                              Hp Try.prog true (Instr.loadAt 59 t97) (fun t98 _ => 
                                                                                                Hp Try.prog true (Instr.indexAt 54 data0 i12) (fun t99 _ => 
                                                                                                  Hp Try.prog false (storeS 59 t99 t94) (fun _ h_37 => 
                                                                                                    Hp Try.prog true (Instr.indexAt 54 data0 j13) (fun t100 _ => 
                                                                                                      Hp Try.prog false (storeS 59 t100 t98) (fun _ h_38 => 
                                                                                                        Hp Try.prog false (binS .add 3 (.tmp 101) (.const (.int .i64 1)) i12 (.int .i64 1)) (fun t102 h_39 => 
                                                                                                          Hp Try.prog false (binS .sub 3 (.tmp 103) (.const (.int .i64 1)) j13 (.int .i64 1)) (fun t104 h_40 => 
                                                                                                            LoopC 2 (fun (X_2 : Value → Value → Heap → Prop) => fun i12_1 j13_1 h_41 =>
                                                                                                              LoopC 1 (fun (X_3 : Value → Heap → Prop) => fun i12_2 h_42 =>
                                                                                                                Hp Try.prog true (binS .leq 3 (.tmp 105) (.tmp 106) i12_2 j13_1) (fun t107 _ => 
                                                                                                                  Join1 (fun k_23 h_43 => guardP t107 true (k_23 cmp4 h_43) (k_23 undef h_43) ⟨⟩ ⟨⟩) (fun t109 _ => 
                                                                                                                    Join1 (fun k_24 h_44 => guardP t107 true (k_24 data0 h_44) (k_24 undef h_44) ⟨⟩ ⟨⟩) (fun t110 _ => 
                                                                                                                      Join1 (fun k_25 h_45 => guardP t107 true (k_25 i12_2 h_45) (k_25 undef h_45) ⟨⟩ ⟨⟩) (fun t111 _ => 
                                                                                                                        Join1 (fun k_26 h_46 => guardP t107 true (Hp Try.prog true (Instr.indexAt 54 t110 t111) k_26 h_46 ⟨⟩) (k_26 undef h_46) ⟨⟩ ⟨⟩) (fun t112 _ => 
                                                                                                                          Join1 (fun k_27 h_47 => guardP t107 true (Hp Try.prog true (Instr.loadAt 59 t112) k_27 h_47 ⟨⟩) (k_27 undef h_47) ⟨⟩ ⟨⟩) (fun t113 _ => 
                                                                                                                            Join1 (fun k_28 h_48 => guardP t107 true (k_28 data0 h_48) (k_28 undef h_48) ⟨⟩ ⟨⟩) (fun t114 _ => 
                                                                                                                              Join1 (fun k_29 h_49 => guardP t107 true (k_29 a1 h_49) (k_29 undef h_49) ⟨⟩ ⟨⟩) (fun t115 _ => 
                                                                                                                                Join1 (fun k_30 h_50 => guardP t107 true (Hp Try.prog true (Instr.indexAt 54 t114 t115) k_30 h_50 ⟨⟩) (k_30 undef h_50) ⟨⟩ ⟨⟩) (fun t116 _ => 
                                                                                                                                  Join1 (fun k_31 h_51 => guardP t107 true (Hp Try.prog true (Instr.loadAt 59 t116) k_31 h_51 ⟨⟩) (k_31 undef h_51) ⟨⟩ ⟨⟩) (fun t117 _ => 
                                                                                                                                    Join1 (fun k_32 h_52 => guardP t107 true (InvokeH Try.prog t109 #[t113, t117] h_52 k_32 ⟨⟩) (k_32 undef h_52) ⟨⟩ ⟨⟩) (fun t118 h_53 => 
                                                                                                                                      Join1 (fun k_33 h_54 => guardP t107 true (Hp Try.prog true (binS .lss 3 (.tmp 118) (.const (.int .i64 0)) t118 (.int .i64 0)) k_33 h_54 ⟨⟩) (k_33 undef h_54) ⟨⟩ ⟨⟩) (fun t119 _ => 
                                                                                                                                        Hp Try.prog true (pickS t107 t119 (.bool false)) (fun t120 _ => 
                                                                                                                                          CondP t120 (
                                                                                                                                            Hp Try.prog false (binS .add 3 (.tmp 121) (.const (.int .i64 1)) i12_2 (.int .i64 1)) (fun t122 h_55 => 
                                                                                                                                              X_3 t122 h_55) h_53 ⟨⟩) (
                                                                                                                                            LoopC 1 (fun (X_4 : Value → Heap → Prop) => fun j13_2 h_56 =>
                                                                                                                                              Hp Try.prog true (binS .leq 3 (.tmp 123) (.tmp 124) i12_2 j13_2) (fun t125 _ => 
                                                                                                                                                Join1 (fun k_34 h_57 => guardP t125 true (k_34 cmp4 h_57) (k_34 undef h_57) ⟨⟩ ⟨⟩) (fun t127 _ => 
                                                                                                                                                  Join1 (fun k_35 h_58 => guardP t125 true (k_35 data0 h_58) (k_35 undef h_58) ⟨⟩ ⟨⟩) (fun t128 _ => 
                                                                                                                                                    Join1 (fun k_36 h_59 => guardP t125 true (k_36 j13_2 h_59) (k_36 undef h_59) ⟨⟩ ⟨⟩) (fun t129 _ => 
                                                                                                                                                      Join1 (fun k_37 h_60 => guardP t125 true (Hp Try.prog true (Instr.indexAt 54 t128 t129) k_37 h_60 ⟨⟩) (k_37 undef h_60) ⟨⟩ ⟨⟩) (fun t130 _ => 
                                                                                                                                                        Join1 (fun k_38 h_61 => guardP t125 true (Hp Try.prog true (Instr.loadAt 59 t130) k_38 h_61 ⟨⟩) (k_38 undef h_61) ⟨⟩ ⟨⟩) (fun t131 _ => 
                                                                                                                                                          Join1 (fun k_39 h_62 => guardP t125 true (k_39 data0 h_62) (k_39 undef h_62) ⟨⟩ ⟨⟩) (fun t132 _ => 
                                                                                                                                                            Join1 (fun k_40 h_63 => guardP t125 true (k_40 a1 h_63) (k_40 undef h_63) ⟨⟩ ⟨⟩) (fun t133 _ => 
                                                                                                                                                              Join1 (fun k_41 h_64 => guardP t125 true (Hp Try.prog true (Instr.indexAt 54 t132 t133) k_41 h_64 ⟨⟩) (k_41 undef h_64) ⟨⟩ ⟨⟩) (fun t134 _ => 
                                                                                                                                                                Join1 (fun k_42 h_65 => guardP t125 true (Hp Try.prog true (Instr.loadAt 59 t134) k_42 h_65 ⟨⟩) (k_42 undef h_65) ⟨⟩ ⟨⟩) (fun t135 _ => 
                                                                                                                                                                  Join1 (fun k_43 h_66 => guardP t125 true (InvokeH Try.prog t127 #[t131, t135] h_66 k_43 ⟨⟩) (k_43 undef h_66) ⟨⟩ ⟨⟩) (fun t136 h_67 => 
                                                                                                                                                                    Join1 (fun k_44 h_68 => guardP t125 true (Hp Try.prog true (binS .lss 3 (.tmp 136) (.const (.int .i64 0)) t136 (.int .i64 0)) k_44 h_68 ⟨⟩) (k_44 undef h_68) ⟨⟩ ⟨⟩) (fun t137 _ => 
                                                                                                                                                                      Join1 (fun k_45 h_69 => guardP t125 true (Hp Try.prog true (Op.unary .not t137) k_45 h_69 ⟨⟩) (k_45 undef h_69) ⟨⟩ ⟨⟩) (fun t138 _ => 
                                                                                                                                                                        Hp Try.prog true (pickS t125 t138 (.bool false)) (fun t139 _ => 
                                                                                                                                                                          CondP t139 (
                                                                                                                                                                            Hp Try.prog false (binS .sub 3 (.tmp 140) (.const (.int .i64 1)) j13_2 (.int .i64 1)) (fun t141 h_70 => 
                                                                                                                                                                              X_4 t141 h_70) h_67 ⟨⟩) (
                                                                                                                                                                            Hp Try.prog false (binS .gtr 3 (.tmp 142) (.tmp 143) i12_2 j13_2) (fun t144 h_71 => 
                                                                                                                                                                              CondP t144 (
                                                                                                                                                                                Hp Try.prog true (Instr.indexAt 54 data0 a1) (fun t169 _ => 
                                                                                                                                                                                  Hp Try.prog true (Instr.loadAt 59 t169) (fun t170 _ => 
                                                                                                                                                                                    Hp Try.prog true (Instr.indexAt 54 data0 j13_2) (fun t173 _ => 
                                                                                                                                                                                      Hp Try.prog true (Instr.loadAt 59 t173) (fun t174 _ => 
                                                                                                                                                                                        Hp Try.prog true (Instr.indexAt 54 data0 j13_2) (fun t175 _ => 
                                                                                                                                                                                          Hp Try.prog false (storeS 59 t175 t170) (fun _ h_72 => 
                                                                                                                                                                                            Hp Try.prog true (Instr.indexAt 54 data0 a1) (fun t176 _ => 
                                                                                                                                                                                              Hp Try.prog false (storeS 59 t176 t174) (fun _ h_73 => 
                                                                                                                                                                                                R (.tuple #[j13_2, (.bool false)]) h_73) h_72 ⟨⟩) #[] ⟨⟩) h_71 ⟨⟩) #[] ⟨⟩) h_71 ⟨⟩) #[] ⟨⟩) h_71 ⟨⟩) #[] ⟨⟩) (
                                                                                                                                                                                Hp Try.prog true (Instr.indexAt 54 data0 j13_2) (fun t151 _ => 
                                                                                                                                                                                  Hp Try.prog true (Instr.loadAt 59 t151) (fun t152 _ => 
                                                                                                                                                                                    Hp Try.prog true (Instr.indexAt 54 data0 i12_2) (fun t155 _ => 
                                                                                                                                                                                      Hp Try.prog true (Instr.loadAt 59 t155) (fun t156 _ => 
                                                                                                                                                                                        Hp Try.prog true (Instr.indexAt 54 data0 i12_2) (fun t157 _ => 
                                                                                                                                                                                          Hp Try.prog false (storeS 59 t157 t152) (fun _ h_74 => 
                                                                                                                                                                                            Hp Try.prog true (Instr.indexAt 54 data0 j13_2) (fun t158 _ => 
                                                                                                                                                                                              Hp Try.prog false (storeS 59 t158 t156) (fun _ h_75 => 
                                                                                                                                                                                                Hp Try.prog false (binS .add 3 (.tmp 159) (.const (.int .i64 1)) i12_2 (.int .i64 1)) (fun t160 h_76 => 
                                                                                                                                                                                                  Hp Try.prog false (binS .sub 3 (.tmp 161) (.const (.int .i64 1)) j13_2 (.int .i64 1)) (fun t162 h_77 => 
                                                                                                                                                                                                    X_2 t160 t162 h_77) h_76 ⟨⟩) h_75 ⟨⟩) h_74 ⟨⟩) #[] ⟨⟩) h_71 ⟨⟩) #[] ⟨⟩) h_71 ⟨⟩) #[] ⟨⟩) h_71 ⟨⟩) #[] ⟨⟩) ⟨⟩ ⟨⟩) h_67 ⟨⟩) ⟨⟩ ⟨⟩) #[] ⟨⟩) #[] ⟨⟩ ⟨⟩) #[] ⟨⟩ ⟨⟩) h_56 ⟨⟩ ⟨⟩) h_56 ⟨⟩ ⟨⟩) #[] ⟨⟩ ⟨⟩) #[] ⟨⟩ ⟨⟩) #[] ⟨⟩ ⟨⟩) h_56 ⟨⟩ ⟨⟩) #[] ⟨⟩ ⟨⟩) #[] ⟨⟩ ⟨⟩) #[] ⟨⟩ ⟨⟩) #[] ⟨⟩ ⟨⟩) #[] ⟨⟩) [j13_1] h_53 ⟨⟩) ⟨⟩ ⟨⟩) #[] ⟨⟩) #[] ⟨⟩ ⟨⟩) h_42 ⟨⟩ ⟨⟩) h_42 ⟨⟩ ⟨⟩) #[] ⟨⟩ ⟨⟩) #[] ⟨⟩ ⟨⟩) #[] ⟨⟩ ⟨⟩) h_42 ⟨⟩ ⟨⟩) #[] ⟨⟩ ⟨⟩) #[] ⟨⟩ ⟨⟩) #[] ⟨⟩ ⟨⟩) #[] ⟨⟩ ⟨⟩) #[] ⟨⟩) [i12_1] h_41 ⟨⟩) [t102, t104] h_40 ⟨⟩) h_39 ⟨⟩) h_38 ⟨⟩) h_37 ⟨⟩) #[] ⟨⟩) h_34 ⟨⟩) #[] ⟨⟩) h_34 ⟨⟩) #[] ⟨⟩) h_34 ⟨⟩) #[] ⟨⟩) ⟨⟩ ⟨⟩) h_30 ⟨⟩) ⟨⟩ ⟨⟩) #[] ⟨⟩) #[] ⟨⟩ ⟨⟩) #[] ⟨⟩ ⟨⟩) h_19 ⟨⟩ ⟨⟩) h_19 ⟨⟩ ⟨⟩) #[] ⟨⟩ ⟨⟩) #[] ⟨⟩ ⟨⟩) #[] ⟨⟩ ⟨⟩) h_19 ⟨⟩ ⟨⟩) #[] ⟨⟩ ⟨⟩) #[] ⟨⟩ ⟨⟩) #[] ⟨⟩ ⟨⟩) #[] ⟨⟩ ⟨⟩) #[] ⟨⟩) [t31] h_16 ⟨⟩) ⟨⟩ ⟨⟩) #[] ⟨⟩) #[] ⟨⟩ ⟨⟩) h_5 ⟨⟩ ⟨⟩) h_5 ⟨⟩ ⟨⟩) #[] ⟨⟩ ⟨⟩) #[] ⟨⟩ ⟨⟩) #[] ⟨⟩ ⟨⟩) h_5 ⟨⟩ ⟨⟩) #[] ⟨⟩ ⟨⟩) #[] ⟨⟩ ⟨⟩) #[] ⟨⟩ ⟨⟩) #[] ⟨⟩ ⟨⟩) #[] ⟨⟩) [t29] h_4 ⟨⟩) h_3 ⟨⟩) h_2 ⟨⟩) h_1 ⟨⟩) #[] ⟨⟩) h ⟨⟩) #[] ⟨⟩) h ⟨⟩) #[] ⟨⟩) h ⟨⟩) #[] ⟨⟩

theorem n82_calls {data0 a1 b2 pivot3 cmp4 : Value} {R : Value → Heap → Prop} {h : Heap} (H : n82 data0 a1 b2 pivot3 cmp4 R h) : CallsH Try.prog 82 #[data0, a1, b2, pivot3, cmp4] h R ⟨⟩ :=
  callsH_of_eq Try.follow (.n none .l (.n none .l (.n none .l (.n none (.n none (.n (some [13]) .l .l) .l) (.n none (.n none (.n (some [14]) .l .l) .l) (.n none .l (.n none .l (.n none .l (.n none .l (.n none (.n none (.n (some [13, 14]) (.n none (.n none (.n none (.n (some [13]) .l .l) .l) (.n none (.n none (.n (some [14]) .l .l) .l) .l)) .l) .l) .l) .l)))))))))) Try.func82 (by kernel_rfl) (by kernel_rfl) (by kernel_rfl) H

/-- slices.order2Ordered[int] -/
def n83 (data0 a1 b2 swaps3 : Value) (R : Value → Heap → Prop) (h : Heap) : Prop :=
  Hp Try.prog true (Instr.indexAt 23 data0 b2) (fun t12 _ => 
    Hp Try.prog true (Instr.loadAt 3 t12) (fun t13 _ => 
      Hp Try.prog true (Instr.indexAt 23 data0 a1) (fun t16 _ => 
        Hp Try.prog true (Instr.loadAt 3 t16) (fun t17 _ => 
          CallsH Try.prog 63 #[t13, t17] h (fun t18 h_1 => 
            CondP t18 (
              Hp Try.prog false (nilS swaps3) (fun t20 h_2 => 
                Hp Try.prog false (Instr.loadAt 3 t20) (fun t21 h_3 => 
                  Hp Try.prog false (binS .add 3 (.tmp 21) (.const (.int .i64 1)) t21 (.int .i64 1)) (fun t22 h_4 => 
                    Hp Try.prog false (nilS swaps3) (fun t23 h_5 => 
                      Hp Try.prog false (storeS 3 t23 t22) (fun _ h_6 => 
                        R (.tuple #[b2, a1]) h_6) h_5 ⟨⟩) h_4 ⟨⟩) h_3 ⟨⟩) h_2 ⟨⟩) h_1 ⟨⟩) (
              R (.tuple #[a1, b2]) h_1) ⟨⟩ ⟨⟩) ⟨⟩) h ⟨⟩) #[] ⟨⟩) h ⟨⟩) #[] ⟨⟩

theorem n83_calls {data0 a1 b2 swaps3 : Value} {R : Value → Heap → Prop} {h : Heap} (H : n83 data0 a1 b2 swaps3 R h) : CallsH Try.prog 83 #[data0, a1, b2, swaps3] h R ⟨⟩ :=
  callsH_of_eq Try.follow .l Try.func83 (by kernel_rfl) (by kernel_rfl) (by kernel_rfl) H

/-- slices.siftDownCmpFunc[*palimpsest/locks.request] -/
def n84 (data0 lo1 hi2 first3 cmp4 : Value) (R : Value → Heap → Prop) (h : Heap) : Prop :=
  LoopC 1 (fun (X : Value → Heap → Prop) => fun root10 h_1 =>
    Hp Try.prog false (binS .mul 3 (.const (.int .i64 2)) (.tmp 13) (.int .i64 2) root10) (fun t14 h_2 => 
      Hp Try.prog false (binS .add 3 (.tmp 14) (.const (.int .i64 1)) t14 (.int .i64 1)) (fun t15 h_3 => 
        Hp Try.prog false (binS .geq 3 (.tmp 16) (.tmp 17) t15 hi2) (fun t18 h_4 => 
          CondP t18 (
            R (.tuple #[]) h_4) (
            JoinN 1 (fun (k : Value → Heap → Prop) h_5 =>
              Hp Try.prog true (binS .add 3 (.tmp 19) (.const (.int .i64 1)) t15 (.int .i64 1)) (fun t20 _ => 
                Hp Try.prog true (binS .lss 3 (.tmp 20) (.tmp 21) t20 hi2) (fun t22 _ => 
                  Join1 (fun k_1 h_6 => guardP t22 true (k_1 cmp4 h_6) (k_1 undef h_6) ⟨⟩ ⟨⟩) (fun t24 _ => 
                    Join1 (fun k_2 h_7 => guardP t22 true (k_2 data0 h_7) (k_2 undef h_7) ⟨⟩ ⟨⟩) (fun t25 _ => 
                      Join1 (fun k_3 h_8 => guardP t22 true (k_3 first3 h_8) (k_3 undef h_8) ⟨⟩ ⟨⟩) (fun t26 _ => 
                        Join1 (fun k_4 h_9 => guardP t22 true (k_4 t15 h_9) (k_4 undef h_9) ⟨⟩ ⟨⟩) (fun t27 _ => 
                          Join1 (fun k_5 h_10 => guardP t22 true (Hp Try.prog true (binS .add 3 (.tmp 26) (.tmp 27) t26 t27) k_5 h_10 ⟨⟩) (k_5 undef h_10) ⟨⟩ ⟨⟩) (fun t28 _ => 
                            Join1 (fun k_6 h_11 => guardP t22 true (Hp Try.prog true (Instr.indexAt 54 t25 t28) k_6 h_11 ⟨⟩) (k_6 undef h_11) ⟨⟩ ⟨⟩) (fun t29 _ => 
                              Join1 (fun k_7 h_12 => guardP t22 true (Hp Try.prog true (Instr.loadAt 59 t29) k_7 h_12 ⟨⟩) (k_7 undef h_12) ⟨⟩ ⟨⟩) (fun t30 _ => 
                                Join1 (fun k_8 h_13 => guardP t22 true (k_8 data0 h_13) (k_8 undef h_13) ⟨⟩ ⟨⟩) (fun t31 _ => 
                                  Join1 (fun k_9 h_14 => guardP t22 true (k_9 first3 h_14) (k_9 undef h_14) ⟨⟩ ⟨⟩) (fun t32 _ => 
                                    Join1 (fun k_10 h_15 => guardP t22 true (k_10 t15 h_15) (k_10 undef h_15) ⟨⟩ ⟨⟩) (fun t33 _ => 
                                      Join1 (fun k_11 h_16 => guardP t22 true (Hp Try.prog true (binS .add 3 (.tmp 32) (.tmp 33) t32 t33) k_11 h_16 ⟨⟩) (k_11 undef h_16) ⟨⟩ ⟨⟩) (fun t34 _ => 
                                        Join1 (fun k_12 h_17 => guardP t22 true (Hp Try.prog true (binS .add 3 (.tmp 34) (.const (.int .i64 1)) t34 (.int .i64 1)) k_12 h_17 ⟨⟩) (k_12 undef h_17) ⟨⟩ ⟨⟩) (fun t35 _ => 
                                          Join1 (fun k_13 h_18 => guardP t22 true (Hp Try.prog true (Instr.indexAt 54 t31 t35) k_13 h_18 ⟨⟩) (k_13 undef h_18) ⟨⟩ ⟨⟩) (fun t36 _ => 
                                            Join1 (fun k_14 h_19 => guardP t22 true (Hp Try.prog true (Instr.loadAt 59 t36) k_14 h_19 ⟨⟩) (k_14 undef h_19) ⟨⟩ ⟨⟩) (fun t37 _ => 
                                              Join1 (fun k_15 h_20 => guardP t22 true (InvokeH Try.prog t24 #[t30, t37] h_20 k_15 ⟨⟩) (k_15 undef h_20) ⟨⟩ ⟨⟩) (fun t38 h_21 => 
                                                Join1 (fun k_16 h_22 => guardP t22 true (Hp Try.prog true (binS .lss 3 (.tmp 38) (.const (.int .i64 0)) t38 (.int .i64 0)) k_16 h_22 ⟨⟩) (k_16 undef h_22) ⟨⟩ ⟨⟩) (fun t39 _ => 
                                                  Hp Try.prog true (pickS t22 t39 (.bool false)) (fun t40 _ => 
                                                    CondP t40 (
                                                      Hp Try.prog false (binS .add 3 (.tmp 41) (.const (.int .i64 1)) t15 (.int .i64 1)) (fun t42 h_23 => 
                                                        k t42 h_23) h_21 ⟨⟩) (
                                                      k t15 h_21) ⟨⟩ ⟨⟩) #[] ⟨⟩) #[] ⟨⟩ ⟨⟩) h_5 ⟨⟩ ⟨⟩) h_5 ⟨⟩ ⟨⟩) #[] ⟨⟩ ⟨⟩) #[] ⟨⟩ ⟨⟩) #[] ⟨⟩ ⟨⟩) #[] ⟨⟩ ⟨⟩) #[] ⟨⟩ ⟨⟩) #[] ⟨⟩ ⟨⟩) h_5 ⟨⟩ ⟨⟩) #[] ⟨⟩ ⟨⟩) #[] ⟨⟩ ⟨⟩) #[] ⟨⟩ ⟨⟩) #[] ⟨⟩ ⟨⟩) #[] ⟨⟩ ⟨⟩) #[] ⟨⟩ ⟨⟩) #[] ⟨⟩) #[] ⟨⟩)
              (fun child11 h_24 =>
              Hp Try.prog true (binS .add 3 (.tmp 45) (.tmp 46) first3 root10) (fun t47 _ => 
                Hp Try.prog true (Instr.indexAt 54 data0 t47) (fun t48 _ => 
                  Hp Try.prog true (Instr.loadAt 59 t48) (fun t49 _ => 
                    Hp Try.prog true (binS .add 3 (.tmp 51) (.tmp 52) first3 child11) (fun t53 _ => 
                      Hp Try.prog true (Instr.indexAt 54 data0 t53) (fun t54 _ => 
                        Hp Try.prog true (Instr.loadAt 59 t54) (fun t55 _ => 
                          InvokeH Try.prog cmp4 #[t49, t55] h_24 (fun t56 h_25 => 
                            Hp Try.prog true (binS .lss 3 (.tmp 56) (.const (.int .i64 0)) t56 (.int .i64 0)) (fun t57 _ => 
                              Hp Try.prog true (Op.unary .not t57) (fun t58 _ => 
                                CondP t58 (
                                  R (.tuple #[]) h_25) (
                                  Hp Try.prog true (binS .add 3 (.tmp 60) (.tmp 61) first3 root10) (fun t62 _ => 
                                    Hp Try.prog true (binS .add 3 (.tmp 64) (.tmp 65) first3 child11) (fun t66 _ => 
                                      Hp Try.prog true (binS .add 3 (.tmp 68) (.tmp 69) first3 child11) (fun t70 _ => 
                                        Hp Try.prog true (Instr.indexAt 54 data0 t70) (fun t71 _ => 
                                          Hp Try.prog true (Instr.loadAt 59 t71) (fun t72 _ => 
                                            Hp Try.prog true (binS .add 3 (.tmp 74) (.tmp 75) first3 root10) (fun t76 _ => 
                                              Hp Try.prog true (Instr.indexAt 54 data0 t76) (fun t77 _ => 
                                                Hp Try.prog true (Instr.loadAt 59 t77) (fun t78 _ => 
                                                  Hp Try.prog true (Instr.indexAt 54 data0 t62) (fun t79 _ => 
                                                    Hp Try.prog false (storeS 59 t79 t72) (fun _ h_26 => 
                                                      Hp Try.prog true (Instr.indexAt 54 data0 t66) (fun t80 _ => 
                                                        Hp Try.prog false (storeS 59 t80 t78) (fun _ h_27 => 
                                                          X child11 h_27) h_26 ⟨⟩) #[] ⟨⟩) h_25 ⟨⟩) #[] ⟨⟩) h_25 ⟨⟩) #[] ⟨⟩) #[] ⟨⟩) h_25 ⟨⟩) #[] ⟨⟩) #[] ⟨⟩) #[] ⟨⟩) #[] ⟨⟩) ⟨⟩ ⟨⟩) #[] ⟨⟩) #[] ⟨⟩) ⟨⟩) h_24 ⟨⟩) #[] ⟨⟩) #[] ⟨⟩) h_24 ⟨⟩) #[] ⟨⟩) #[] ⟨⟩) h_4 ⟨⟩ ⟨⟩) ⟨⟩ ⟨⟩) h_3 ⟨⟩) h_2 ⟨⟩) h_1 ⟨⟩) [lo1] h ⟨⟩

theorem n84_calls {data0 lo1 hi2 first3 cmp4 : Value} {R : Value → Heap → Prop} {h : Heap} (H : n84 data0 lo1 hi2 first3 cmp4 R h) : CallsH Try.prog 84 #[data0, lo1, hi2, first3, cmp4] h R ⟨⟩ :=
  callsH_of_eq Try.follow (.n none .l (.n none (.n (some [11]) (.n none (.n none .l (.n none .l (.n (some [12]) .l .l))) .l) .l) .l)) Try.func84 (by kernel_rfl) (by kernel_rfl) (by kernel_rfl) H

/-- slices.medianAdjacentCmpFunc[*palimpsest/locks.request] -/
def n85 (data0 a1 swaps2 cmp3 : Value) (R : Value → Heap → Prop) (h : Heap) : Prop :=
  Hp Try.prog false (binS .sub 3 (.tmp 10) (.const (.int .i64 1)) a1 (.int .i64 1)) (fun t11 h_1 => 
    Hp Try.prog false (binS .add 3 (.tmp 13) (.const (.int .i64 1)) a1 (.int .i64 1)) (fun t14 h_2 => 
      CallsH Try.prog 86 #[data0, t11, a1, t14, swaps2, cmp3] h_2 (fun t17 h_3 => 
        R t17 h_3) ⟨⟩) h_1 ⟨⟩) h ⟨⟩

theorem n85_calls {data0 a1 swaps2 cmp3 : Value} {R : Value → Heap → Prop} {h : Heap} (H : n85 data0 a1 swaps2 cmp3 R h) : CallsH Try.prog 85 #[data0, a1, swaps2, cmp3] h R ⟨⟩ :=
  callsH_of_eq Try.follow .l Try.func85 (by kernel_rfl) (by kernel_rfl) (by kernel_rfl) H

/-- slices.medianCmpFunc[*palimpsest/locks.request] -/
def n86 (data0 a1 b2 c3 swaps4 cmp5 : Value) (R : Value → Heap → Prop) (h : Heap) : Prop :=
  CallsH Try.prog 87 #[data0, a1, b2, swaps4, cmp5] h (fun t19 h_1 => 
    Hp Try.prog false (Instr.extract t19 0) (fun t20 h_2 => 
      Hp Try.prog false (Instr.extract t19 1) (fun t21 h_3 => 
        CallsH Try.prog 87 #[data0, t21, c3, swaps4, cmp5] h_3 (fun t28 h_4 => 
          Hp Try.prog false (Instr.extract t28 0) (fun t29 h_5 => 
            Hp Try.prog false (Instr.extract t28 1) (fun t30 h_6 => 
              CallsH Try.prog 87 #[data0, t20, t29, swaps4, cmp5] h_6 (fun t37 h_7 => 
                Hp Try.prog false (Instr.extract t37 0) (fun t38 h_8 => 
                  Hp Try.prog false (Instr.extract t37 1) (fun t39 h_9 => 
                    R t39 h_9) h_8 ⟨⟩) h_7 ⟨⟩) ⟨⟩) h_5 ⟨⟩) h_4 ⟨⟩) ⟨⟩) h_2 ⟨⟩) h_1 ⟨⟩) ⟨⟩

theorem n86_calls {data0 a1 b2 c3 swaps4 cmp5 : Value} {R : Value → Heap → Prop} {h : Heap} (H : n86 data0 a1 b2 c3 swaps4 cmp5 R h) : CallsH Try.prog 86 #[data0, a1, b2, c3, swaps4, cmp5] h R ⟨⟩ :=
  callsH_of_eq Try.follow .l Try.func86 (by kernel_rfl) (by kernel_rfl) (by kernel_rfl) H

/-- slices.order2CmpFunc[*palimpsest/locks.request] -/
def n87 (data0 a1 b2 swaps3 cmp4 : Value) (R : Value → Heap → Prop) (h : Heap) : Prop :=
  Hp Try.prog true (Instr.indexAt 54 data0 b2) (fun t15 _ => 
    Hp Try.prog true (Instr.loadAt 59 t15) (fun t16 _ => 
      Hp Try.prog true (Instr.indexAt 54 data0 a1) (fun t19 _ => 
        Hp Try.prog true (Instr.loadAt 59 t19) (fun t20 _ => 
          InvokeH Try.prog cmp4 #[t16, t20] h (fun t21 h_1 => 
            Hp Try.prog true (binS .lss 3 (.tmp 21) (.const (.int .i64 0)) t21 (.int .i64 0)) (fun t22 _ => 
              CondP t22 (
                Hp Try.prog false (nilS swaps3) (fun t24 h_2 => 
                  Hp Try.prog false (Instr.loadAt 3 t24) (fun t25 h_3 => 
                    Hp Try.prog false (binS .add 3 (.tmp 25) (.const (.int .i64 1)) t25 (.int .i64 1)) (fun t26 h_4 => 
                      Hp Try.prog false (nilS swaps3) (fun t27 h_5 => 
                        Hp Try.prog false (storeS 3 t27 t26) (fun _ h_6 => 
                          R (.tuple #[b2, a1]) h_6) h_5 ⟨⟩) h_4 ⟨⟩) h_3 ⟨⟩) h_2 ⟨⟩) h_1 ⟨⟩) (
                R (.tuple #[a1, b2]) h_1) ⟨⟩ ⟨⟩) #[] ⟨⟩) ⟨⟩) h ⟨⟩) #[] ⟨⟩) h ⟨⟩) #[] ⟨⟩

theorem n87_calls {data0 a1 b2 swaps3 cmp4 : Value} {R : Value → Heap → Prop} {h : Heap} (H : n87 data0 a1 b2 swaps3 cmp4 R h) : CallsH Try.prog 87 #[data0, a1, b2, swaps3, cmp4] h R ⟨⟩ :=
  callsH_of_eq Try.follow .l Try.func87 (by kernel_rfl) (by kernel_rfl) (by kernel_rfl) H

end Go.Proofs.Ytlligpgjkmfhpaa

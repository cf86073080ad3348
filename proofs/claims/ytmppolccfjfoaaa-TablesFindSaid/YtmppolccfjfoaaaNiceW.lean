/- Printed by wip/tools/gen.py: the condition of each function, and that a call meets it. -/
import Derived.Test.YtmppolccfjfoaaaVcFun
import Derived.Test.YtmppolccfjfoaaaProg
set_option maxRecDepth 100000
set_option linter.unusedVariables false
namespace Go.Proofs.Ytmppolccfjfoaaa
open Go.Vc

theorem Try.follow : Try.prog.follows .mixedOrders = true := by kernel_rfl

/-- palimpsest/palimpsestlaw01.WireNumbers -/
def n4 (b0 at1 n2 : Value) (R : Value → Heap → Prop) (h : Heap) : Prop :=
  Hp Try.prog false (Builtin.len_ #[39] 3 #[b0]) (fun t20 h_1 => 
    Hp Try.prog false (binS .gtr 3 (.tmp 20) (.const (.int .i64 10000)) t20 (.int .i64 10000)) (fun t21 h_2 => 
      CondP t21 (
        CallsH Try.prog 23 #[] h_2 (fun t22 h_3 => 
          R t22 h_3) ⟨⟩) (
        Hp Try.prog false (Builtin.append_ #[39, 39] 39 #[(.slice none 0 0), b0]) (fun t24 h_4 => 
          Hp Try.prog false (Instr.buildSlice 39 1 #[(0, (.int .u8 77))]) (fun t25 h_5 => 
            Hp Try.prog false (Builtin.append_ #[39, 39] 39 #[t24, t25]) (fun t26 h_6 => 
              Hp Try.prog false (Builtin.len_ #[39] 3 #[b0]) (fun t28 h_7 => 
                Hp Try.prog false (Instr.sliceAt 39 t26 none (some t28) none) (fun t29 h_8 => 
                  CallsH Try.prog 24 #[t29, at1, n2] h_8 (fun t34 h_9 => 
                    Hp Try.prog false (Instr.extract t34 0) (fun t35 h_10 => 
                      Hp Try.prog false (Instr.extract t34 1) (fun t36 h_11 => 
                        CallsH Try.prog 25 #[b0, at1, n2] h_11 (fun t41 h_12 => 
                          Hp Try.prog false (Instr.extract t41 0) (fun t42 h_13 => 
                            Hp Try.prog false (Instr.extract t41 1) (fun t43 h_14 => 
                              Hp Try.prog false (binS .neq 25 (.tmp 44) (.tmp 45) t35 t42) (fun t46 h_15 => 
                                Join1 (fun k h_16 => guardP t46 false (k t36 h_16) (k undef h_16) ⟨⟩ ⟨⟩) (fun t48 h_17 => 
                                  Join1 (fun k_1 h_18 => guardP t46 false (k_1 t43 h_18) (k_1 undef h_18) ⟨⟩ ⟨⟩) (fun t49 h_19 => 
                                    Join1 (fun k_2 h_20 => guardP t46 false (Hp Try.prog false (binS .neq 3 (.tmp 48) (.tmp 49) t48 t49) k_2 h_20 ⟨⟩) (k_2 undef h_20) ⟨⟩ ⟨⟩) (fun t50 h_21 => 
                                      Hp Try.prog false (pickS t46 (.bool true) t50) (fun t51 h_22 => 
                                        Join1 (fun k_3 h_23 => guardP t51 false (k_3 t29 h_23) (k_3 undef h_23) ⟨⟩ ⟨⟩) (fun t53 h_24 => 
                                          Join1 (fun k_4 h_25 => guardP t51 false (Hp Try.prog false (convert 39 9 t53) k_4 h_25 ⟨⟩) (k_4 undef h_25) ⟨⟩ ⟨⟩) (fun t54 h_26 => 
                                            Join1 (fun k_5 h_27 => guardP t51 false (k_5 b0 h_27) (k_5 undef h_27) ⟨⟩ ⟨⟩) (fun t55 h_28 => 
                                              Join1 (fun k_6 h_29 => guardP t51 false (Hp Try.prog false (convert 39 9 t55) k_6 h_29 ⟨⟩) (k_6 undef h_29) ⟨⟩ ⟨⟩) (fun t56 h_30 => 
                                                Join1 (fun k_7 h_31 => guardP t51 false (Hp Try.prog false (binS .neq 9 (.tmp 54) (.tmp 56) t54 t56) k_7 h_31 ⟨⟩) (k_7 undef h_31) ⟨⟩ ⟨⟩) (fun t57 h_32 => 
                                                  Hp Try.prog false (pickS t51 (.bool true) t57) (fun t58 h_33 => 
                                                    CondP t58 (
                                                      R (.bool false) h_33) (
                                                      Hp Try.prog false (Instr.build 43 #[(0, (.int .u64 0)), (1, (.int .u64 255)), (2, (.int .u64 65537)), (3, (.int .u64 1099511627776)), (4, (.int .u64 18446744073709551615))]) (fun t59 h_34 => 
                                                        LoopC 1 (fun (X : Value → Heap → Prop) => fun t60 h_35 =>
                                                          Hp Try.prog false (binS .lss 3 (.tmp 60) (.const (.int .i64 5)) t60 (.int .i64 5)) (fun t61 h_36 => 
                                                            CondP t61 (
                                                              Hp Try.prog false (Instr.index 43 t59 t60) (fun t62 h_37 => 
                                                                CallsH Try.prog 26 #[b0, at1, n2, t62] h_37 (fun t68 h_38 => 
                                                                  Hp Try.prog false (Instr.extract t68 0) (fun t69 h_39 => 
                                                                    Hp Try.prog false (Instr.extract t68 1) (fun t70 h_40 => 
                                                                      CallsH Try.prog 27 #[t29, at1, n2, t62] h_40 (fun t75 h_41 => 
                                                                        Hp Try.prog false (binS .neq 3 (.tmp 76) (.tmp 77) t75 t70) (fun t78 h_42 => 
                                                                          Join1 (fun k_8 h_43 => guardP t78 false (k_8 t29 h_43) (k_8 undef h_43) ⟨⟩ ⟨⟩) (fun t80 h_44 => 
                                                                            Join1 (fun k_9 h_45 => guardP t78 false (Hp Try.prog false (convert 39 9 t80) k_9 h_45 ⟨⟩) (k_9 undef h_45) ⟨⟩ ⟨⟩) (fun t81 h_46 => 
                                                                              Join1 (fun k_10 h_47 => guardP t78 false (k_10 t69 h_47) (k_10 undef h_47) ⟨⟩ ⟨⟩) (fun t82 h_48 => 
                                                                                Join1 (fun k_11 h_49 => guardP t78 false (Hp Try.prog false (convert 39 9 t82) k_11 h_49 ⟨⟩) (k_11 undef h_49) ⟨⟩ ⟨⟩) (fun t83 h_50 => 
                                                                                  Join1 (fun k_12 h_51 => guardP t78 false (Hp Try.prog false (binS .neq 9 (.tmp 81) (.tmp 83) t81 t83) k_12 h_51 ⟨⟩) (k_12 undef h_51) ⟨⟩ ⟨⟩) (fun t84 h_52 => 
                                                                                    Hp Try.prog false (pickS t78 (.bool true) t84) (fun t85 h_53 => 
                                                                                      Join1 (fun k_13 h_54 => guardP t85 false (k_13 t29 h_54) (k_13 undef h_54) ⟨⟩ ⟨⟩) (fun t87 h_55 => 
                                                                                        Join1 (fun k_14 h_56 => guardP t85 false (k_14 t29 h_56) (k_14 undef h_56) ⟨⟩ ⟨⟩) (fun t88 h_57 => 
                                                                                          Join1 (fun k_15 h_58 => guardP t85 false (Hp Try.prog false (Builtin.len_ #[39] 3 #[t88]) k_15 h_58 ⟨⟩) (k_15 undef h_58) ⟨⟩ ⟨⟩) (fun t89 h_59 => 
                                                                                            Join1 (fun k_16 h_60 => guardP t85 false (Hp Try.prog false (binS .add 3 (.tmp 89) (.const (.int .i64 1)) t89 (.int .i64 1)) k_16 h_60 ⟨⟩) (k_16 undef h_60) ⟨⟩ ⟨⟩) (fun t90 h_61 => 
                                                                                              Join1 (fun k_17 h_62 => guardP t85 false (Hp Try.prog false (Instr.sliceAt 39 t87 none (some t90) none) k_17 h_62 ⟨⟩) (k_17 undef h_62) ⟨⟩ ⟨⟩) (fun t91 h_63 => 
                                                                                                Join1 (fun k_18 h_64 => guardP t85 false (k_18 t29 h_64) (k_18 undef h_64) ⟨⟩ ⟨⟩) (fun t92 h_65 => 
                                                                                                  Join1 (fun k_19 h_66 => guardP t85 false (Hp Try.prog false (Builtin.len_ #[39] 3 #[t92]) k_19 h_66 ⟨⟩) (k_19 undef h_66) ⟨⟩ ⟨⟩) (fun t93 h_67 => 
                                                                                                    Join1 (fun k_20 h_68 => guardP t85 false (Hp Try.prog false (Instr.indexAt 39 t91 t93) k_20 h_68 ⟨⟩) (k_20 undef h_68) ⟨⟩ ⟨⟩) (fun t94 h_69 => 
                                                                                                      Join1 (fun k_21 h_70 => guardP t85 false (Hp Try.prog false (Instr.loadAt 5 t94) k_21 h_70 ⟨⟩) (k_21 undef h_70) ⟨⟩ ⟨⟩) (fun t95 h_71 => 
                                                                                                        Join1 (fun k_22 h_72 => guardP t85 false (Hp Try.prog false (binS .neq 5 (.tmp 95) (.const (.int .u8 77)) t95 (.int .u8 77)) k_22 h_72 ⟨⟩) (k_22 undef h_72) ⟨⟩ ⟨⟩) (fun t96 h_73 => 
                                                                                                          Hp Try.prog false (pickS t85 (.bool true) t96) (fun t97 h_74 => 
                                                                                                            CondP t97 (
                                                                                                              R (.bool false) h_74) (
                                                                                                              JoinN 0 (fun (k_23 : Heap → Prop) h_75 =>
                                                                                                                Hp Try.prog false (binS .eql 27 (.tmp 98) (.const (.int .i64 0)) t75 (.int .i64 0)) (fun t99 h_76 => 
                                                                                                                  CondP t99 (
                                                                                                                    CallsH Try.prog 24 #[t29, at1, n2] h_76 (fun t104 h_77 => 
                                                                                                                      Hp Try.prog false (Instr.extract t104 0) (fun t105 h_78 => 
                                                                                                                        Hp Try.prog false (Instr.extract t104 1) (fun t106 h_79 => 
                                                                                                                          Hp Try.prog false (binS .neq 25 (.tmp 107) (.tmp 108) t105 t62) (fun t109 h_80 => 
                                                                                                                            Join1 (fun k_24 h_81 => guardP t109 false (k_24 t106 h_81) (k_24 undef h_81) ⟨⟩ ⟨⟩) (fun t111 h_82 => 
                                                                                                                              Join1 (fun k_25 h_83 => guardP t109 false (Hp Try.prog false (binS .neq 27 (.tmp 111) (.const (.int .i64 0)) t111 (.int .i64 0)) k_25 h_83 ⟨⟩) (k_25 undef h_83) ⟨⟩ ⟨⟩) (fun t112 h_84 => 
                                                                                                                                Hp Try.prog false (pickS t109 (.bool true) t112) (fun t113 h_85 => 
                                                                                                                                  CondP t113 (
                                                                                                                                    R (.bool false) h_85) (
                                                                                                                                    k_23 h_85) ⟨⟩ ⟨⟩) h_84 ⟨⟩) h_82 ⟨⟩ ⟨⟩) h_80 ⟨⟩ ⟨⟩) h_79 ⟨⟩) h_78 ⟨⟩) h_77 ⟨⟩) ⟨⟩) (
                                                                                                                    k_23 h_76) ⟨⟩ ⟨⟩) h_75 ⟨⟩)
                                                                                                                (fun h_86 =>
                                                                                                                Hp Try.prog false (Builtin.copy_ #[39, 39] 3 #[t29, b0]) (fun t116 h_87 => 
                                                                                                                  Hp Try.prog false (binS .add 3 (.tmp 60) (.const (.int .i64 1)) t60 (.int .i64 1)) (fun t117 h_88 => 
                                                                                                                    X t117 h_88) h_87 ⟨⟩) h_86 ⟨⟩) h_74 ⟨⟩ ⟨⟩) ⟨⟩ ⟨⟩) h_73 ⟨⟩) h_71 ⟨⟩ ⟨⟩) h_69 ⟨⟩ ⟨⟩) h_67 ⟨⟩ ⟨⟩) h_65 ⟨⟩ ⟨⟩) h_63 ⟨⟩ ⟨⟩) h_61 ⟨⟩ ⟨⟩) h_59 ⟨⟩ ⟨⟩) h_57 ⟨⟩ ⟨⟩) h_55 ⟨⟩ ⟨⟩) h_53 ⟨⟩ ⟨⟩) h_52 ⟨⟩) h_50 ⟨⟩ ⟨⟩) h_48 ⟨⟩ ⟨⟩) h_46 ⟨⟩ ⟨⟩) h_44 ⟨⟩ ⟨⟩) h_42 ⟨⟩ ⟨⟩) h_41 ⟨⟩) ⟨⟩) h_39 ⟨⟩) h_38 ⟨⟩) ⟨⟩) h_36 ⟨⟩) (
                                                              CallsH Try.prog 23 #[] h_36 (fun t118 h_89 => 
                                                                R t118 h_89) ⟨⟩) ⟨⟩ ⟨⟩) h_35 ⟨⟩) [(.int .i64 0)] h_34 ⟨⟩) h_33 ⟨⟩) ⟨⟩ ⟨⟩) h_32 ⟨⟩) h_30 ⟨⟩ ⟨⟩) h_28 ⟨⟩ ⟨⟩) h_26 ⟨⟩ ⟨⟩) h_24 ⟨⟩ ⟨⟩) h_22 ⟨⟩ ⟨⟩) h_21 ⟨⟩) h_19 ⟨⟩ ⟨⟩) h_17 ⟨⟩ ⟨⟩) h_15 ⟨⟩ ⟨⟩) h_14 ⟨⟩) h_13 ⟨⟩) h_12 ⟨⟩) ⟨⟩) h_10 ⟨⟩) h_9 ⟨⟩) ⟨⟩) h_7 ⟨⟩) h_6 ⟨⟩) h_5 ⟨⟩) h_4 ⟨⟩) h_2 ⟨⟩) ⟨⟩ ⟨⟩) h_1 ⟨⟩) h ⟨⟩

theorem n4_calls {b0 at1 n2 : Value} {R : Value → Heap → Prop} {h : Heap} (H : n4 b0 at1 n2 R h) : CallsH Try.prog 4 #[b0, at1, n2] h R ⟨⟩ :=
  callsH_of_eq Try.follow (.n none .l (.n none .l (.n none .l (.n none .l (.n none .l (.n none .l (.n none (.n none .l (.n none (.n (some [61]) (.n none .l (.n none .l (.n none (.n none (.n none .l (.n none .l (.n none .l (.n none .l (.n (some []) .l .l))))) .l) .l))) .l) .l)) .l))))))) Try.func4 (by kernel_rfl) (by kernel_rfl) (by kernel_rfl) H

/-- palimpsest/palimpsestlaw01.WireTexts -/
def n5 (b0 at1 in2 : Value) (R : Value → Heap → Prop) (h : Heap) : Prop :=
  Hp Try.prog false (Instr.box 49 in2) (fun in5 h_1 => 
    Hp Try.prog true (Instr.fieldAt 49 in5 0) (fun t19 _ => 
      Hp Try.prog true (Instr.loadAt 3 t19) (fun t20 _ => 
        Hp Try.prog true (Instr.fieldAt 49 in5 1) (fun t21 _ => 
          Hp Try.prog true (Instr.loadAt 9 t21) (fun t22 _ => 
            Hp Try.prog false (Builtin.len_ #[39] 3 #[b0]) (fun t24 h_2 => 
              Hp Try.prog false (binS .gtr 3 (.tmp 24) (.const (.int .i64 10000)) t24 (.int .i64 10000)) (fun t25 h_3 => 
                Join1 (fun k h_4 => guardP t25 false (k t22 h_4) (k undef h_4) ⟨⟩ ⟨⟩) (fun t27 h_5 => 
                  Join1 (fun k_1 h_6 => guardP t25 false (Hp Try.prog false (Builtin.len_ #[9] 3 #[t27]) k_1 h_6 ⟨⟩) (k_1 undef h_6) ⟨⟩ ⟨⟩) (fun t28 h_7 => 
                    Join1 (fun k_2 h_8 => guardP t25 false (Hp Try.prog false (binS .gtr 3 (.tmp 28) (.const (.int .i64 10000)) t28 (.int .i64 10000)) k_2 h_8 ⟨⟩) (k_2 undef h_8) ⟨⟩ ⟨⟩) (fun t29 h_9 => 
                      Hp Try.prog false (pickS t25 (.bool true) t29) (fun t30 h_10 => 
                        CondP t30 (
                          CallsH Try.prog 23 #[] h_10 (fun t31 h_11 => 
                            R t31 h_11) ⟨⟩) (
                          Hp Try.prog false (Builtin.append_ #[39, 39] 39 #[(.slice none 0 0), b0]) (fun t33 h_12 => 
                            Hp Try.prog false (Instr.buildSlice 39 1 #[(0, (.int .u8 77))]) (fun t34 h_13 => 
                              Hp Try.prog false (Builtin.append_ #[39, 39] 39 #[t33, t34]) (fun t35 h_14 => 
                                Hp Try.prog false (Builtin.len_ #[39] 3 #[b0]) (fun t37 h_15 => 
                                  Hp Try.prog false (Instr.sliceAt 39 t35 none (some t37) none) (fun t38 h_16 => 
                                    CallsH Try.prog 28 #[t38, at1, t20] h_16 (fun t43 h_17 => 
                                      Hp Try.prog false (Instr.extract t43 0) (fun t44 h_18 => 
                                        Hp Try.prog false (Instr.extract t43 1) (fun t45 h_19 => 
                                          CallsH Try.prog 29 #[b0, at1, t20] h_19 (fun t50 h_20 => 
                                            Hp Try.prog false (Instr.extract t50 0) (fun t51 h_21 => 
                                              Hp Try.prog false (Instr.extract t50 1) (fun t52 h_22 => 
                                                Hp Try.prog false (binS .neq 9 (.tmp 53) (.tmp 54) t44 t51) (fun t55 h_23 => 
                                                  Join1 (fun k_3 h_24 => guardP t55 false (k_3 t45 h_24) (k_3 undef h_24) ⟨⟩ ⟨⟩) (fun t57 h_25 => 
                                                    Join1 (fun k_4 h_26 => guardP t55 false (k_4 t52 h_26) (k_4 undef h_26) ⟨⟩ ⟨⟩) (fun t58 h_27 => 
                                                      Join1 (fun k_5 h_28 => guardP t55 false (Hp Try.prog false (binS .neq 3 (.tmp 57) (.tmp 58) t57 t58) k_5 h_28 ⟨⟩) (k_5 undef h_28) ⟨⟩ ⟨⟩) (fun t59 h_29 => 
                                                        Hp Try.prog false (pickS t55 (.bool true) t59) (fun t60 h_30 => 
                                                          Join1 (fun k_6 h_31 => guardP t60 false (k_6 t38 h_31) (k_6 undef h_31) ⟨⟩ ⟨⟩) (fun t62 h_32 => 
                                                            Join1 (fun k_7 h_33 => guardP t60 false (Hp Try.prog false (convert 39 9 t62) k_7 h_33 ⟨⟩) (k_7 undef h_33) ⟨⟩ ⟨⟩) (fun t63 h_34 => 
                                                              Join1 (fun k_8 h_35 => guardP t60 false (k_8 b0 h_35) (k_8 undef h_35) ⟨⟩ ⟨⟩) (fun t64 h_36 => 
                                                                Join1 (fun k_9 h_37 => guardP t60 false (Hp Try.prog false (convert 39 9 t64) k_9 h_37 ⟨⟩) (k_9 undef h_37) ⟨⟩ ⟨⟩) (fun t65 h_38 => 
                                                                  Join1 (fun k_10 h_39 => guardP t60 false (Hp Try.prog false (binS .neq 9 (.tmp 63) (.tmp 65) t63 t65) k_10 h_39 ⟨⟩) (k_10 undef h_39) ⟨⟩ ⟨⟩) (fun t66 h_40 => 
                                                                    Hp Try.prog false (pickS t60 (.bool true) t66) (fun t67 h_41 => 
                                                                      CondP t67 (
                                                                        R (.bool false) h_41) (
                                                                        CallsH Try.prog 30 #[b0, at1, t20, t22] h_41 (fun t73 h_42 => 
                                                                          Hp Try.prog false (Instr.extract t73 0) (fun t74 h_43 => 
                                                                            Hp Try.prog false (Instr.extract t73 1) (fun t75 h_44 => 
                                                                              CallsH Try.prog 31 #[t38, at1, t20, t22] h_44 (fun t80 h_45 => 
                                                                                Hp Try.prog false (binS .neq 3 (.tmp 81) (.tmp 82) t80 t75) (fun t83 h_46 => 
                                                                                  Join1 (fun k_11 h_47 => guardP t83 false (k_11 t38 h_47) (k_11 undef h_47) ⟨⟩ ⟨⟩) (fun t85 h_48 => 
                                                                                    Join1 (fun k_12 h_49 => guardP t83 false (Hp Try.prog false (convert 39 9 t85) k_12 h_49 ⟨⟩) (k_12 undef h_49) ⟨⟩ ⟨⟩) (fun t86 h_50 => 
                                                                                      Join1 (fun k_13 h_51 => guardP t83 false (k_13 t74 h_51) (k_13 undef h_51) ⟨⟩ ⟨⟩) (fun t87 h_52 => 
                                                                                        Join1 (fun k_14 h_53 => guardP t83 false (Hp Try.prog false (convert 39 9 t87) k_14 h_53 ⟨⟩) (k_14 undef h_53) ⟨⟩ ⟨⟩) (fun t88 h_54 => 
                                                                                          Join1 (fun k_15 h_55 => guardP t83 false (Hp Try.prog false (binS .neq 9 (.tmp 86) (.tmp 88) t86 t88) k_15 h_55 ⟨⟩) (k_15 undef h_55) ⟨⟩ ⟨⟩) (fun t89 h_56 => 
                                                                                            Hp Try.prog false (pickS t83 (.bool true) t89) (fun t90 h_57 => 
                                                                                              Join1 (fun k_16 h_58 => guardP t90 false (k_16 t38 h_58) (k_16 undef h_58) ⟨⟩ ⟨⟩) (fun t92 h_59 => 
                                                                                                Join1 (fun k_17 h_60 => guardP t90 false (k_17 t38 h_60) (k_17 undef h_60) ⟨⟩ ⟨⟩) (fun t93 h_61 => 
                                                                                                  Join1 (fun k_18 h_62 => guardP t90 false (Hp Try.prog false (Builtin.len_ #[39] 3 #[t93]) k_18 h_62 ⟨⟩) (k_18 undef h_62) ⟨⟩ ⟨⟩) (fun t94 h_63 => 
                                                                                                    Join1 (fun k_19 h_64 => guardP t90 false (Hp Try.prog false (binS .add 3 (.tmp 94) (.const (.int .i64 1)) t94 (.int .i64 1)) k_19 h_64 ⟨⟩) (k_19 undef h_64) ⟨⟩ ⟨⟩) (fun t95 h_65 => 
                                                                                                      Join1 (fun k_20 h_66 => guardP t90 false (Hp Try.prog false (Instr.sliceAt 39 t92 none (some t95) none) k_20 h_66 ⟨⟩) (k_20 undef h_66) ⟨⟩ ⟨⟩) (fun t96 h_67 => 
                                                                                                        Join1 (fun k_21 h_68 => guardP t90 false (k_21 t38 h_68) (k_21 undef h_68) ⟨⟩ ⟨⟩) (fun t97 h_69 => 
                                                                                                          Join1 (fun k_22 h_70 => guardP t90 false (Hp Try.prog false (Builtin.len_ #[39] 3 #[t97]) k_22 h_70 ⟨⟩) (k_22 undef h_70) ⟨⟩ ⟨⟩) (fun t98 h_71 => 
                                                                                                            Join1 (fun k_23 h_72 => guardP t90 false (Hp Try.prog false (Instr.indexAt 39 t96 t98) k_23 h_72 ⟨⟩) (k_23 undef h_72) ⟨⟩ ⟨⟩) (fun t99 h_73 => 
                                                                                                              Join1 (fun k_24 h_74 => guardP t90 false (Hp Try.prog false (Instr.loadAt 5 t99) k_24 h_74 ⟨⟩) (k_24 undef h_74) ⟨⟩ ⟨⟩) (fun t100 h_75 => 
                                                                                                                Join1 (fun k_25 h_76 => guardP t90 false (Hp Try.prog false (binS .neq 5 (.tmp 100) (.const (.int .u8 77)) t100 (.int .u8 77)) k_25 h_76 ⟨⟩) (k_25 undef h_76) ⟨⟩ ⟨⟩) (fun t101 h_77 => 
                                                                                                                  Hp Try.prog false (pickS t90 (.bool true) t101) (fun t102 h_78 => 
                                                                                                                    CondP t102 (
                                                                                                                      R (.bool false) h_78) (
                                                                                                                      Hp Try.prog false (binS .eql 27 (.tmp 103) (.const (.int .i64 0)) t80 (.int .i64 0)) (fun t104 h_79 => 
                                                                                                                        CondP t104 (
                                                                                                                          CallsH Try.prog 28 #[t38, at1, t20] h_79 (fun t109 h_80 => 
                                                                                                                            Hp Try.prog false (Instr.extract t109 0) (fun t110 h_81 => 
                                                                                                                              Hp Try.prog false (Instr.extract t109 1) (fun t111 h_82 => 
                                                                                                                                Hp Try.prog false (binS .eql 9 (.tmp 112) (.tmp 113) t110 t22) (fun t114 h_83 => 
                                                                                                                                  Join1 (fun k_26 h_84 => guardP t114 true (k_26 t111 h_84) (k_26 undef h_84) ⟨⟩ ⟨⟩) (fun t116 h_85 => 
                                                                                                                                    Join1 (fun k_27 h_86 => guardP t114 true (Hp Try.prog false (binS .eql 27 (.tmp 116) (.const (.int .i64 0)) t116 (.int .i64 0)) k_27 h_86 ⟨⟩) (k_27 undef h_86) ⟨⟩ ⟨⟩) (fun t117 h_87 => 
                                                                                                                                      Hp Try.prog false (pickS t114 t117 (.bool false)) (fun t118 h_88 => 
                                                                                                                                        Join1 (fun k_28 h_89 => guardP t118 true (CallsH Try.prog 23 #[] h_89 k_28 ⟨⟩) (k_28 undef h_89) ⟨⟩ ⟨⟩) (fun t120 h_90 => 
                                                                                                                                          Hp Try.prog false (pickS t118 t120 (.bool false)) (fun t121 h_91 => 
                                                                                                                                            R t121 h_91) h_90 ⟨⟩) h_88 ⟨⟩ ⟨⟩) h_87 ⟨⟩) h_85 ⟨⟩ ⟨⟩) h_83 ⟨⟩ ⟨⟩) h_82 ⟨⟩) h_81 ⟨⟩) h_80 ⟨⟩) ⟨⟩) (
                                                                                                                          CallsH Try.prog 23 #[] h_79 (fun t122 h_92 => 
                                                                                                                            R t122 h_92) ⟨⟩) ⟨⟩ ⟨⟩) h_78 ⟨⟩) ⟨⟩ ⟨⟩) h_77 ⟨⟩) h_75 ⟨⟩ ⟨⟩) h_73 ⟨⟩ ⟨⟩) h_71 ⟨⟩ ⟨⟩) h_69 ⟨⟩ ⟨⟩) h_67 ⟨⟩ ⟨⟩) h_65 ⟨⟩ ⟨⟩) h_63 ⟨⟩ ⟨⟩) h_61 ⟨⟩ ⟨⟩) h_59 ⟨⟩ ⟨⟩) h_57 ⟨⟩ ⟨⟩) h_56 ⟨⟩) h_54 ⟨⟩ ⟨⟩) h_52 ⟨⟩ ⟨⟩) h_50 ⟨⟩ ⟨⟩) h_48 ⟨⟩ ⟨⟩) h_46 ⟨⟩ ⟨⟩) h_45 ⟨⟩) ⟨⟩) h_43 ⟨⟩) h_42 ⟨⟩) ⟨⟩) ⟨⟩ ⟨⟩) h_40 ⟨⟩) h_38 ⟨⟩ ⟨⟩) h_36 ⟨⟩ ⟨⟩) h_34 ⟨⟩ ⟨⟩) h_32 ⟨⟩ ⟨⟩) h_30 ⟨⟩ ⟨⟩) h_29 ⟨⟩) h_27 ⟨⟩ ⟨⟩) h_25 ⟨⟩ ⟨⟩) h_23 ⟨⟩ ⟨⟩) h_22 ⟨⟩) h_21 ⟨⟩) h_20 ⟨⟩) ⟨⟩) h_18 ⟨⟩) h_17 ⟨⟩) ⟨⟩) h_15 ⟨⟩) h_14 ⟨⟩) h_13 ⟨⟩) h_12 ⟨⟩) h_10 ⟨⟩) ⟨⟩ ⟨⟩) h_9 ⟨⟩) h_7 ⟨⟩ ⟨⟩) h_5 ⟨⟩ ⟨⟩) h_3 ⟨⟩ ⟨⟩) h_2 ⟨⟩) h_1 ⟨⟩) h_1 ⟨⟩) #[] ⟨⟩) h_1 ⟨⟩) #[] ⟨⟩) h ⟨⟩

theorem n5_calls {b0 at1 in2 : Value} {R : Value → Heap → Prop} {h : Heap} (H : n5 b0 at1 in2 R h) : CallsH Try.prog 5 #[b0, at1, in2] h R ⟨⟩ :=
  callsH_of_eq Try.follow .l Try.func5 (by kernel_rfl) (by kernel_rfl) (by kernel_rfl) H

/-- palimpsest/palimpsestlaw01.WireParts -/
def n6 (fields0 from1 until2 : Value) (R : Value → Heap → Prop) (h : Heap) : Prop :=
  Hp Try.prog false (Builtin.len_ #[57] 3 #[fields0]) (fun t15 h_1 => 
    Hp Try.prog false (binS .gtr 3 (.tmp 15) (.const (.int .i64 100)) t15 (.int .i64 100)) (fun t16 h_2 => 
      CondP t16 (
        CallsH Try.prog 23 #[] h_2 (fun t17 h_3 => 
          R t17 h_3) ⟨⟩) (
        LoopC 2 (fun (X : Value → Value → Heap → Prop) => fun all7 i8 h_4 =>
          Hp Try.prog false (Builtin.len_ #[57] 3 #[fields0]) (fun t20 h_5 => 
            Hp Try.prog false (binS .lss 3 (.tmp 18) (.tmp 20) i8 t20) (fun t21 h_6 => 
              CondP t21 (
                Hp Try.prog false (Instr.indexAt 57 fields0 i8) (fun t26 h_7 => 
                  Hp Try.prog false (Instr.loadAt 39 t26) (fun t27 h_8 => 
                    Hp Try.prog false (Builtin.len_ #[39] 3 #[t27]) (fun t28 h_9 => 
                      Hp Try.prog false (binS .gtr 3 (.tmp 28) (.const (.int .i64 1000)) t28 (.int .i64 1000)) (fun t29 h_10 => 
                        CondP t29 (
                          CallsH Try.prog 23 #[] h_10 (fun t30 h_11 => 
                            R t30 h_11) ⟨⟩) (
                          Hp Try.prog false (Instr.indexAt 57 fields0 i8) (fun t34 h_12 => 
                            Hp Try.prog false (Instr.loadAt 39 t34) (fun t35 h_13 => 
                              Hp Try.prog false (Builtin.append_ #[39, 39] 39 #[all7, t35]) (fun t36 h_14 => 
                                Hp Try.prog false (binS .add 3 (.tmp 22) (.const (.int .i64 1)) i8 (.int .i64 1)) (fun t23 h_15 => 
                                  X t36 t23 h_15) h_14 ⟨⟩) h_13 ⟨⟩) h_12 ⟨⟩) h_10 ⟨⟩) ⟨⟩ ⟨⟩) h_9 ⟨⟩) h_8 ⟨⟩) h_7 ⟨⟩) h_6 ⟨⟩) (
                CallsH Try.prog 32 #[fields0] h_6 (fun t38 h_16 => 
                  CallsH Try.prog 33 #[t38, from1, until2] h_16 (fun t43 h_17 => 
                    Hp Try.prog false (Instr.extract t43 0) (fun t44 h_18 => 
                      Hp Try.prog false (Instr.extract t43 1) (fun t45 h_19 => 
                        Hp Try.prog false (convert 39 9 t38) (fun t47 h_20 => 
                          Hp Try.prog false (convert 39 9 all7) (fun t49 h_21 => 
                            Hp Try.prog false (binS .neq 9 (.tmp 47) (.tmp 49) t47 t49) (fun t50 h_22 => 
                              CondP t50 (
                                R (.bool false) h_22) (
                                Hp Try.prog false (binS .lss 3 (.tmp 51) (.const (.int .i64 0)) from1 (.int .i64 0)) (fun t52 h_23 => 
                                  Join1 (fun k h_24 => guardP t52 false (k until2 h_24) (k undef h_24) ⟨⟩ ⟨⟩) (fun t54 h_25 => 
                                    Join1 (fun k_1 h_26 => guardP t52 false (k_1 from1 h_26) (k_1 undef h_26) ⟨⟩ ⟨⟩) (fun t55 h_27 => 
                                      Join1 (fun k_2 h_28 => guardP t52 false (Hp Try.prog false (binS .lss 3 (.tmp 54) (.tmp 55) t54 t55) k_2 h_28 ⟨⟩) (k_2 undef h_28) ⟨⟩ ⟨⟩) (fun t56 h_29 => 
                                        Hp Try.prog false (pickS t52 (.bool true) t56) (fun t57 h_30 => 
                                          Join1 (fun k_3 h_31 => guardP t57 false (k_3 until2 h_31) (k_3 undef h_31) ⟨⟩ ⟨⟩) (fun t59 h_32 => 
                                            Join1 (fun k_4 h_33 => guardP t57 false (k_4 all7 h_33) (k_4 undef h_33) ⟨⟩ ⟨⟩) (fun t60 h_34 => 
                                              Join1 (fun k_5 h_35 => guardP t57 false (Hp Try.prog false (Builtin.len_ #[39] 3 #[t60]) k_5 h_35 ⟨⟩) (k_5 undef h_35) ⟨⟩ ⟨⟩) (fun t61 h_36 => 
                                                Join1 (fun k_6 h_37 => guardP t57 false (Hp Try.prog false (binS .gtr 3 (.tmp 59) (.tmp 61) t59 t61) k_6 h_37 ⟨⟩) (k_6 undef h_37) ⟨⟩ ⟨⟩) (fun t62 h_38 => 
                                                  Hp Try.prog false (pickS t57 (.bool true) t62) (fun t63 h_39 => 
                                                    CondP t63 (
                                                      Hp Try.prog false (Op.unary .not t44) (fun t65 h_40 => 
                                                        Join1 (fun k_7 h_41 => guardP t65 true (k_7 t45 h_41) (k_7 undef h_41) ⟨⟩ ⟨⟩) (fun t67 h_42 => 
                                                          Join1 (fun k_8 h_43 => guardP t65 true (Hp Try.prog false (binS .eql 27 (.tmp 67) (.const (.int .i64 4)) t67 (.int .i64 4)) k_8 h_43 ⟨⟩) (k_8 undef h_43) ⟨⟩ ⟨⟩) (fun t68 h_44 => 
                                                            Hp Try.prog false (pickS t65 t68 (.bool false)) (fun t69 h_45 => 
                                                              Join1 (fun k_9 h_46 => guardP t69 true (CallsH Try.prog 23 #[] h_46 k_9 ⟨⟩) (k_9 undef h_46) ⟨⟩ ⟨⟩) (fun t71 h_47 => 
                                                                Hp Try.prog false (pickS t69 t71 (.bool false)) (fun t72 h_48 => 
                                                                  R t72 h_48) h_47 ⟨⟩) h_45 ⟨⟩ ⟨⟩) h_44 ⟨⟩) h_42 ⟨⟩ ⟨⟩) h_40 ⟨⟩ ⟨⟩) h_39 ⟨⟩) (
                                                      LoopC 2 (fun (X_1 : Value → Value → Heap → Prop) => fun none12 i13 h_49 =>
                                                        Hp Try.prog false (binS .lss 3 (.tmp 74) (.tmp 75) i13 until2) (fun t76 h_50 => 
                                                          CondP t76 (
                                                            Join1 (fun k_10 h_51 => guardP none12 true (k_10 all7 h_51) (k_10 undef h_51) ⟨⟩ ⟨⟩) (fun t81 h_52 => 
                                                              Join1 (fun k_11 h_53 => guardP none12 true (k_11 i13 h_53) (k_11 undef h_53) ⟨⟩ ⟨⟩) (fun t82 h_54 => 
                                                                Join1 (fun k_12 h_55 => guardP none12 true (Hp Try.prog false (Instr.indexAt 39 t81 t82) k_12 h_55 ⟨⟩) (k_12 undef h_55) ⟨⟩ ⟨⟩) (fun t83 h_56 => 
                                                                  Join1 (fun k_13 h_57 => guardP none12 true (Hp Try.prog false (Instr.loadAt 5 t83) k_13 h_57 ⟨⟩) (k_13 undef h_57) ⟨⟩ ⟨⟩) (fun t84 h_58 => 
                                                                    Join1 (fun k_14 h_59 => guardP none12 true (Hp Try.prog false (binS .eql 5 (.tmp 84) (.const (.int .u8 0)) t84 (.int .u8 0)) k_14 h_59 ⟨⟩) (k_14 undef h_59) ⟨⟩ ⟨⟩) (fun t85 h_60 => 
                                                                      Hp Try.prog false (pickS none12 t85 (.bool false)) (fun t86 h_61 => 
                                                                        Hp Try.prog false (binS .add 3 (.tmp 77) (.const (.int .i64 1)) i13 (.int .i64 1)) (fun t78 h_62 => 
                                                                          X_1 t86 t78 h_62) h_61 ⟨⟩) h_60 ⟨⟩) h_58 ⟨⟩ ⟨⟩) h_56 ⟨⟩ ⟨⟩) h_54 ⟨⟩ ⟨⟩) h_52 ⟨⟩ ⟨⟩) h_50 ⟨⟩ ⟨⟩) (
                                                            Hp Try.prog false (binS .eql 4 (.tmp 87) (.tmp 88) t44 none12) (fun t89 h_63 => 
                                                              Join1 (fun k_15 h_64 => guardP t89 true (k_15 t45 h_64) (k_15 undef h_64) ⟨⟩ ⟨⟩) (fun t91 h_65 => 
                                                                Join1 (fun k_16 h_66 => guardP t89 true (Hp Try.prog false (binS .eql 27 (.tmp 91) (.const (.int .i64 0)) t91 (.int .i64 0)) k_16 h_66 ⟨⟩) (k_16 undef h_66) ⟨⟩ ⟨⟩) (fun t92 h_67 => 
                                                                  Hp Try.prog false (pickS t89 t92 (.bool false)) (fun t93 h_68 => 
                                                                    Join1 (fun k_17 h_69 => guardP t93 true (CallsH Try.prog 23 #[] h_69 k_17 ⟨⟩) (k_17 undef h_69) ⟨⟩ ⟨⟩) (fun t95 h_70 => 
                                                                      Hp Try.prog false (pickS t93 t95 (.bool false)) (fun t96 h_71 => 
                                                                        R t96 h_71) h_70 ⟨⟩) h_68 ⟨⟩ ⟨⟩) h_67 ⟨⟩) h_65 ⟨⟩ ⟨⟩) h_63 ⟨⟩ ⟨⟩) h_50 ⟨⟩) ⟨⟩ ⟨⟩) h_49 ⟨⟩) [(.bool true), from1] h_39 ⟨⟩) ⟨⟩ ⟨⟩) h_38 ⟨⟩) h_36 ⟨⟩ ⟨⟩) h_34 ⟨⟩ ⟨⟩) h_32 ⟨⟩ ⟨⟩) h_30 ⟨⟩ ⟨⟩) h_29 ⟨⟩) h_27 ⟨⟩ ⟨⟩) h_25 ⟨⟩ ⟨⟩) h_23 ⟨⟩ ⟨⟩) h_22 ⟨⟩) ⟨⟩ ⟨⟩) h_21 ⟨⟩) h_20 ⟨⟩) h_19 ⟨⟩) h_18 ⟨⟩) h_17 ⟨⟩) ⟨⟩) ⟨⟩) ⟨⟩ ⟨⟩) h_5 ⟨⟩) h_4 ⟨⟩) [(.slice none 0 0), (.int .i64 0)] h_2 ⟨⟩) ⟨⟩ ⟨⟩) h_1 ⟨⟩) h ⟨⟩

theorem n6_calls {fields0 from1 until2 : Value} {R : Value → Heap → Prop} {h : Heap} (H : n6 fields0 from1 until2 R h) : CallsH Try.prog 6 #[fields0, from1, until2] h R ⟨⟩ :=
  callsH_of_eq Try.follow (.n none .l (.n none .l (.n none .l (.n none (.n none .l (.n none (.n (some [8, 9]) .l .l) .l)) (.n none .l (.n none .l (.n none .l (.n none .l (.n none .l (.n none (.n none .l (.n none (.n (some [13, 14]) .l .l) .l)) .l)))))))))) Try.func6 (by kernel_rfl) (by kernel_rfl) (by kernel_rfl) H

/-- palimpsest/palimpsestlaw01.known -/
def n23 (R : Value → Heap → Prop) (h : Heap) : Prop :=
  Hp Try.prog false (Instr.makeSlice 39 (.int .i64 4) (.int .i64 4)) (fun t11 h_1 => 
    CallsH Try.prog 27 #[t11, (.int .i64 1), (.int .i64 2), (.int .u64 258)] h_1 (fun t13 h_2 => 
      CallsH Try.prog 24 #[t11, (.int .i64 1), (.int .i64 2)] h_2 (fun t16 h_3 => 
        Hp Try.prog false (Instr.extract t16 0) (fun t17 h_4 => 
          Hp Try.prog false (Instr.extract t16 1) (fun t18 h_5 => 
            CallsH Try.prog 24 #[t11, (.int .i64 0), (.int .i64 9)] h_5 (fun t21 h_6 => 
              Hp Try.prog false (Instr.extract t21 0) (fun t22 h_7 => 
                Hp Try.prog false (Instr.extract t21 1) (fun t23 h_8 => 
                  Hp Try.prog false (Instr.makeSlice 39 (.int .i64 7) (.int .i64 7)) (fun t24 h_9 => 
                    CallsH Try.prog 31 #[t24, (.int .i64 0), (.int .i64 3), (str [97, 98])] h_9 (fun t26 h_10 => 
                      CallsH Try.prog 28 #[t24, (.int .i64 0), (.int .i64 3)] h_10 (fun t29 h_11 => 
                        Hp Try.prog false (Instr.extract t29 0) (fun t30 h_12 => 
                          Hp Try.prog false (Instr.extract t29 1) (fun t31 h_13 => 
                            Hp Try.prog false (binS .eql 27 (.tmp 32) (.const (.int .i64 0)) t13 (.int .i64 0)) (fun t33 h_14 => 
                              Join1 (fun k h_15 => guardP t33 true (k t11 h_15) (k undef h_15) ⟨⟩ ⟨⟩) (fun t35 h_16 => 
                                Join1 (fun k_1 h_17 => guardP t33 true (Hp Try.prog false (convert 39 9 t35) k_1 h_17 ⟨⟩) (k_1 undef h_17) ⟨⟩ ⟨⟩) (fun t36 h_18 => 
                                  Join1 (fun k_2 h_19 => guardP t33 true (Hp Try.prog false (binS .eql 9 (.tmp 36) (.const (str [0, 2, 1, 0])) t36 (str [0, 2, 1, 0])) k_2 h_19 ⟨⟩) (k_2 undef h_19) ⟨⟩ ⟨⟩) (fun t37 h_20 => 
                                    Hp Try.prog false (pickS t33 t37 (.bool false)) (fun t38 h_21 => 
                                      Join1 (fun k_3 h_22 => guardP t38 true (k_3 t17 h_22) (k_3 undef h_22) ⟨⟩ ⟨⟩) (fun t40 h_23 => 
                                        Join1 (fun k_4 h_24 => guardP t38 true (Hp Try.prog false (binS .eql 25 (.tmp 40) (.const (.int .u64 258)) t40 (.int .u64 258)) k_4 h_24 ⟨⟩) (k_4 undef h_24) ⟨⟩ ⟨⟩) (fun t41 h_25 => 
                                          Hp Try.prog false (pickS t38 t41 (.bool false)) (fun t42 h_26 => 
                                            Join1 (fun k_5 h_27 => guardP t42 true (k_5 t18 h_27) (k_5 undef h_27) ⟨⟩ ⟨⟩) (fun t44 h_28 => 
                                              Join1 (fun k_6 h_29 => guardP t42 true (Hp Try.prog false (binS .eql 27 (.tmp 44) (.const (.int .i64 0)) t44 (.int .i64 0)) k_6 h_29 ⟨⟩) (k_6 undef h_29) ⟨⟩ ⟨⟩) (fun t45 h_30 => 
                                                Hp Try.prog false (pickS t42 t45 (.bool false)) (fun t46 h_31 => 
                                                  Join1 (fun k_7 h_32 => guardP t46 true (k_7 t23 h_32) (k_7 undef h_32) ⟨⟩ ⟨⟩) (fun t48 h_33 => 
                                                    Join1 (fun k_8 h_34 => guardP t46 true (Hp Try.prog false (binS .eql 27 (.tmp 48) (.const (.int .i64 2)) t48 (.int .i64 2)) k_8 h_34 ⟨⟩) (k_8 undef h_34) ⟨⟩ ⟨⟩) (fun t49 h_35 => 
                                                      Hp Try.prog false (pickS t46 t49 (.bool false)) (fun t50 h_36 => 
                                                        Join1 (fun k_9 h_37 => guardP t50 true (k_9 t26 h_37) (k_9 undef h_37) ⟨⟩ ⟨⟩) (fun t52 h_38 => 
                                                          Join1 (fun k_10 h_39 => guardP t50 true (Hp Try.prog false (binS .eql 27 (.tmp 52) (.const (.int .i64 0)) t52 (.int .i64 0)) k_10 h_39 ⟨⟩) (k_10 undef h_39) ⟨⟩ ⟨⟩) (fun t53 h_40 => 
                                                            Hp Try.prog false (pickS t50 t53 (.bool false)) (fun t54 h_41 => 
                                                              Join1 (fun k_11 h_42 => guardP t54 true (k_11 t30 h_42) (k_11 undef h_42) ⟨⟩ ⟨⟩) (fun t56 h_43 => 
                                                                Join1 (fun k_12 h_44 => guardP t54 true (Hp Try.prog false (binS .eql 9 (.tmp 56) (.const (str [97, 98])) t56 (str [97, 98])) k_12 h_44 ⟨⟩) (k_12 undef h_44) ⟨⟩ ⟨⟩) (fun t57 h_45 => 
                                                                  Hp Try.prog false (pickS t54 t57 (.bool false)) (fun t58 h_46 => 
                                                                    Join1 (fun k_13 h_47 => guardP t58 true (k_13 t31 h_47) (k_13 undef h_47) ⟨⟩ ⟨⟩) (fun t60 h_48 => 
                                                                      Join1 (fun k_14 h_49 => guardP t58 true (Hp Try.prog false (binS .eql 27 (.tmp 60) (.const (.int .i64 0)) t60 (.int .i64 0)) k_14 h_49 ⟨⟩) (k_14 undef h_49) ⟨⟩ ⟨⟩) (fun t61 h_50 => 
                                                                        Hp Try.prog false (pickS t58 t61 (.bool false)) (fun t62 h_51 => 
                                                                          R t62 h_51) h_50 ⟨⟩) h_48 ⟨⟩ ⟨⟩) h_46 ⟨⟩ ⟨⟩) h_45 ⟨⟩) h_43 ⟨⟩ ⟨⟩) h_41 ⟨⟩ ⟨⟩) h_40 ⟨⟩) h_38 ⟨⟩ ⟨⟩) h_36 ⟨⟩ ⟨⟩) h_35 ⟨⟩) h_33 ⟨⟩ ⟨⟩) h_31 ⟨⟩ ⟨⟩) h_30 ⟨⟩) h_28 ⟨⟩ ⟨⟩) h_26 ⟨⟩ ⟨⟩) h_25 ⟨⟩) h_23 ⟨⟩ ⟨⟩) h_21 ⟨⟩ ⟨⟩) h_20 ⟨⟩) h_18 ⟨⟩ ⟨⟩) h_16 ⟨⟩ ⟨⟩) h_14 ⟨⟩ ⟨⟩) h_13 ⟨⟩) h_12 ⟨⟩) h_11 ⟨⟩) ⟨⟩) ⟨⟩) h_8 ⟨⟩) h_7 ⟨⟩) h_6 ⟨⟩) ⟨⟩) h_4 ⟨⟩) h_3 ⟨⟩) ⟨⟩) ⟨⟩) h ⟨⟩

theorem n23_calls {R : Value → Heap → Prop} {h : Heap} (H : n23  R h) : CallsH Try.prog 23 #[] h R ⟨⟩ :=
  callsH_of_eq Try.follow .l Try.func23 (by kernel_rfl) (by kernel_rfl) (by kernel_rfl) H

/-- palimpsest/wire.Get -/
def n24 (b0 at1 n2 : Value) (R : Value → Heap → Prop) (h : Heap) : Prop :=
  Hp Try.prog false (binS .lss 3 (.tmp 11) (.const (.int .i64 1)) n2 (.int .i64 1)) (fun t12 h_1 => 
    Join1 (fun k h_2 => guardP t12 false (k n2 h_2) (k undef h_2) ⟨⟩ ⟨⟩) (fun t14 h_3 => 
      Join1 (fun k_1 h_4 => guardP t12 false (Hp Try.prog false (binS .gtr 3 (.tmp 14) (.const (.int .i64 8)) t14 (.int .i64 8)) k_1 h_4 ⟨⟩) (k_1 undef h_4) ⟨⟩ ⟨⟩) (fun t15 h_5 => 
        Hp Try.prog false (pickS t12 (.bool true) t15) (fun t16 h_6 => 
          CondP t16 (
            R (.tuple #[(.int .u64 0), (.int .i64 2)]) h_6) (
            CallsH Try.prog 66 #[b0, at1, n2] h_6 (fun t21 h_7 => 
              Hp Try.prog false (Op.unary .not t21) (fun t22 h_8 => 
                CondP t22 (
                  R (.tuple #[(.int .u64 0), (.int .i64 4)]) h_8) (
                  Hp Try.prog false (binS .sub 3 (.tmp 23) (.const (.int .i64 1)) n2 (.int .i64 1)) (fun t24 h_9 => 
                    LoopC 2 (fun (X : Value → Value → Heap → Prop) => fun x8 i9 h_10 =>
                      Hp Try.prog false (binS .geq 3 (.tmp 25) (.const (.int .i64 0)) i9 (.int .i64 0)) (fun t26 h_11 => 
                        CondP t26 (
                          Hp Try.prog false (binS .shl 25 (.tmp 29) (.const (.int .u64 8)) x8 (.int .u64 8)) (fun t30 h_12 => 
                            Hp Try.prog false (binS .add 3 (.tmp 33) (.tmp 34) at1 i9) (fun t35 h_13 => 
                              Hp Try.prog false (Instr.indexAt 39 b0 t35) (fun t36 h_14 => 
                                Hp Try.prog false (Instr.loadAt 5 t36) (fun t37 h_15 => 
                                  Hp Try.prog false (convert 5 25 t37) (fun t38 h_16 => 
                                    Hp Try.prog false (binS .or 25 (.tmp 31) (.tmp 38) t30 t38) (fun t39 h_17 => 
                                      Hp Try.prog false (binS .sub 3 (.tmp 27) (.const (.int .i64 1)) i9 (.int .i64 1)) (fun t28 h_18 => 
                                        X t39 t28 h_18) h_17 ⟨⟩) h_16 ⟨⟩) h_15 ⟨⟩) h_14 ⟨⟩) h_13 ⟨⟩) h_12 ⟨⟩) h_11 ⟨⟩) (
                          R (.tuple #[x8, (.int .i64 0)]) h_11) ⟨⟩ ⟨⟩) h_10 ⟨⟩) [(.int .u64 0), t24] h_9 ⟨⟩) h_8 ⟨⟩) ⟨⟩ ⟨⟩) h_7 ⟨⟩) ⟨⟩) ⟨⟩ ⟨⟩) h_5 ⟨⟩) h_3 ⟨⟩ ⟨⟩) h_1 ⟨⟩ ⟨⟩) h ⟨⟩

theorem n24_calls {b0 at1 n2 : Value} {R : Value → Heap → Prop} {h : Heap} (H : n24 b0 at1 n2 R h) : CallsH Try.prog 24 #[b0, at1, n2] h R ⟨⟩ :=
  callsH_of_eq Try.follow (.n none .l (.n none .l (.n none .l (.n none (.n none .l (.n none (.n (some [9, 10]) .l .l) .l)) .l)))) Try.func24 (by kernel_rfl) (by kernel_rfl) (by kernel_rfl) H

/-- palimpsest/palimpsestref01.Get -/
def n25 (b0 at1 n2 : Value) (R : Value → Heap → Prop) (h : Heap) : Prop :=
  Hp Try.prog false (binS .lss 3 (.tmp 8) (.const (.int .i64 1)) n2 (.int .i64 1)) (fun t9 h_1 => 
    Join1 (fun k h_2 => guardP t9 false (k n2 h_2) (k undef h_2) ⟨⟩ ⟨⟩) (fun t11 h_3 => 
      Join1 (fun k_1 h_4 => guardP t9 false (Hp Try.prog false (binS .gtr 3 (.tmp 11) (.const (.int .i64 8)) t11 (.int .i64 8)) k_1 h_4 ⟨⟩) (k_1 undef h_4) ⟨⟩ ⟨⟩) (fun t12 h_5 => 
        Hp Try.prog false (pickS t9 (.bool true) t12) (fun t13 h_6 => 
          CondP t13 (
            R (.tuple #[(.int .u64 0), (.int .i64 2)]) h_6) (
            CallsH Try.prog 67 #[b0, at1, n2] h_6 (fun t17 h_7 => 
              Hp Try.prog false (Op.unary .not t17) (fun t18 h_8 => 
                CondP t18 (
                  R (.tuple #[(.int .u64 0), (.int .i64 4)]) h_8) (
                  Hp Try.prog false (binS .add 3 (.tmp 21) (.tmp 22) at1 n2) (fun t23 h_9 => 
                    Hp Try.prog false (Instr.sliceAt 39 b0 (some at1) (some t23) none) (fun t24 h_10 => 
                      CallsH Try.prog 68 #[t24] h_10 (fun t25 h_11 => 
                        R (.tuple #[t25, (.int .i64 0)]) h_11) ⟨⟩) h_9 ⟨⟩) h_8 ⟨⟩) ⟨⟩ ⟨⟩) h_7 ⟨⟩) ⟨⟩) ⟨⟩ ⟨⟩) h_5 ⟨⟩) h_3 ⟨⟩ ⟨⟩) h_1 ⟨⟩ ⟨⟩) h ⟨⟩

theorem n25_calls {b0 at1 n2 : Value} {R : Value → Heap → Prop} {h : Heap} (H : n25 b0 at1 n2 R h) : CallsH Try.prog 25 #[b0, at1, n2] h R ⟨⟩ :=
  callsH_of_eq Try.follow .l Try.func25 (by kernel_rfl) (by kernel_rfl) (by kernel_rfl) H

/-- palimpsest/palimpsestref01.Set -/
def n26 (b0 at1 n2 x3 : Value) (R : Value → Heap → Prop) (h : Heap) : Prop :=
  Hp Try.prog false (binS .lss 3 (.tmp 11) (.const (.int .i64 1)) n2 (.int .i64 1)) (fun t12 h_1 => 
    Join1 (fun k h_2 => guardP t12 false (k n2 h_2) (k undef h_2) ⟨⟩ ⟨⟩) (fun t14 h_3 => 
      Join1 (fun k_1 h_4 => guardP t12 false (Hp Try.prog false (binS .gtr 3 (.tmp 14) (.const (.int .i64 8)) t14 (.int .i64 8)) k_1 h_4 ⟨⟩) (k_1 undef h_4) ⟨⟩ ⟨⟩) (fun t15 h_5 => 
        Hp Try.prog false (pickS t12 (.bool true) t15) (fun t16 h_6 => 
          CondP t16 (
            R (.tuple #[b0, (.int .i64 2)]) h_6) (
            CallsH Try.prog 67 #[b0, at1, n2] h_6 (fun t21 h_7 => 
              Hp Try.prog false (Op.unary .not t21) (fun t22 h_8 => 
                CondP t22 (
                  R (.tuple #[b0, (.int .i64 4)]) h_8) (
                  CallsH Try.prog 69 #[x3, n2] h_8 (fun t26 h_9 => 
                    CallsH Try.prog 68 #[t26] h_9 (fun t27 h_10 => 
                      Hp Try.prog false (binS .neq 25 (.tmp 27) (.tmp 28) t27 x3) (fun t29 h_11 => 
                        CondP t29 (
                          R (.tuple #[b0, (.int .i64 3)]) h_11) (
                          Hp Try.prog false (Instr.sliceAt 39 b0 none (some at1) none) (fun t33 h_12 => 
                            Hp Try.prog false (Builtin.append_ #[39, 39] 39 #[(.slice none 0 0), t33]) (fun t34 h_13 => 
                              CallsH Try.prog 69 #[x3, n2] h_13 (fun t38 h_14 => 
                                Hp Try.prog false (Builtin.append_ #[39, 39] 39 #[t34, t38]) (fun t39 h_15 => 
                                  Hp Try.prog false (binS .add 3 (.tmp 42) (.tmp 43) at1 n2) (fun t44 h_16 => 
                                    Hp Try.prog false (Instr.sliceAt 39 b0 (some t44) none none) (fun t45 h_17 => 
                                      Hp Try.prog false (Builtin.append_ #[39, 39] 39 #[t39, t45]) (fun t46 h_18 => 
                                        R (.tuple #[t46, (.int .i64 0)]) h_18) h_17 ⟨⟩) h_16 ⟨⟩) h_15 ⟨⟩) h_14 ⟨⟩) ⟨⟩) h_12 ⟨⟩) h_11 ⟨⟩) ⟨⟩ ⟨⟩) h_10 ⟨⟩) ⟨⟩) ⟨⟩) ⟨⟩ ⟨⟩) h_7 ⟨⟩) ⟨⟩) ⟨⟩ ⟨⟩) h_5 ⟨⟩) h_3 ⟨⟩ ⟨⟩) h_1 ⟨⟩ ⟨⟩) h ⟨⟩

theorem n26_calls {b0 at1 n2 x3 : Value} {R : Value → Heap → Prop} {h : Heap} (H : n26 b0 at1 n2 x3 R h) : CallsH Try.prog 26 #[b0, at1, n2, x3] h R ⟨⟩ :=
  callsH_of_eq Try.follow .l Try.func26 (by kernel_rfl) (by kernel_rfl) (by kernel_rfl) H

/-- palimpsest/wire.Set -/
def n27 (b0 at1 n2 x3 : Value) (R : Value → Heap → Prop) (h : Heap) : Prop :=
  Hp Try.prog false (binS .lss 3 (.tmp 11) (.const (.int .i64 1)) n2 (.int .i64 1)) (fun t12 h_1 => 
    Join1 (fun k h_2 => guardP t12 false (k n2 h_2) (k undef h_2) ⟨⟩ ⟨⟩) (fun t14 h_3 => 
      Join1 (fun k_1 h_4 => guardP t12 false (Hp Try.prog false (binS .gtr 3 (.tmp 14) (.const (.int .i64 8)) t14 (.int .i64 8)) k_1 h_4 ⟨⟩) (k_1 undef h_4) ⟨⟩ ⟨⟩) (fun t15 h_5 => 
        Hp Try.prog false (pickS t12 (.bool true) t15) (fun t16 h_6 => 
          CondP t16 (
            R (.int .i64 2) h_6) (
            CallsH Try.prog 66 #[b0, at1, n2] h_6 (fun t21 h_7 => 
              Hp Try.prog false (Op.unary .not t21) (fun t22 h_8 => 
                CondP t22 (
                  R (.int .i64 4) h_8) (
                  Hp Try.prog false (binS .lss 3 (.tmp 24) (.const (.int .i64 8)) n2 (.int .i64 8)) (fun t25 h_9 => 
                    Join1 (fun k_2 h_10 => guardP t25 true (k_2 x3 h_10) (k_2 undef h_10) ⟨⟩ ⟨⟩) (fun t27 h_11 => 
                      Join1 (fun k_3 h_12 => guardP t25 true (k_3 n2 h_12) (k_3 undef h_12) ⟨⟩ ⟨⟩) (fun t28 h_13 => 
                        Join1 (fun k_4 h_14 => guardP t25 true (Hp Try.prog false (binS .mul 3 (.const (.int .i64 8)) (.tmp 28) (.int .i64 8) t28) k_4 h_14 ⟨⟩) (k_4 undef h_14) ⟨⟩ ⟨⟩) (fun t29 h_15 => 
                          Join1 (fun k_5 h_16 => guardP t25 true (Hp Try.prog false (binS .shr 25 (.tmp 27) (.tmp 29) t27 t29) k_5 h_16 ⟨⟩) (k_5 undef h_16) ⟨⟩ ⟨⟩) (fun t30 h_17 => 
                            Join1 (fun k_6 h_18 => guardP t25 true (Hp Try.prog false (binS .neq 25 (.tmp 30) (.const (.int .u64 0)) t30 (.int .u64 0)) k_6 h_18 ⟨⟩) (k_6 undef h_18) ⟨⟩ ⟨⟩) (fun t31 h_19 => 
                              Hp Try.prog false (pickS t25 t31 (.bool false)) (fun t32 h_20 => 
                                CondP t32 (
                                  R (.int .i64 3) h_20) (
                                  LoopC 2 (fun (X : Value → Value → Heap → Prop) => fun x3_1 t34 h_21 =>
                                    Hp Try.prog false (binS .lss 3 (.tmp 34) (.tmp 33) t34 n2) (fun t35 h_22 => 
                                      CondP t35 (
                                        Hp Try.prog false (binS .add 3 (.tmp 38) (.tmp 39) at1 t34) (fun t40 h_23 => 
                                          Hp Try.prog false (convert 25 5 x3_1) (fun t42 h_24 => 
                                            Hp Try.prog false (Instr.indexAt 39 b0 t40) (fun t43 h_25 => 
                                              Hp Try.prog false (storeS 5 t43 t42) (fun _ h_26 => 
                                                Hp Try.prog false (binS .shr 25 (.tmp 44) (.const (.int .u64 8)) x3_1 (.int .u64 8)) (fun t45 h_27 => 
                                                  Hp Try.prog false (binS .add 3 (.tmp 34) (.const (.int .i64 1)) t34 (.int .i64 1)) (fun t46 h_28 => 
                                                    X t45 t46 h_28) h_27 ⟨⟩) h_26 ⟨⟩) h_25 ⟨⟩) h_24 ⟨⟩) h_23 ⟨⟩) h_22 ⟨⟩) (
                                        R (.int .i64 0) h_22) ⟨⟩ ⟨⟩) h_21 ⟨⟩) [x3, (.int .i64 0)] h_20 ⟨⟩) ⟨⟩ ⟨⟩) h_19 ⟨⟩) h_17 ⟨⟩ ⟨⟩) h_15 ⟨⟩ ⟨⟩) h_13 ⟨⟩ ⟨⟩) h_11 ⟨⟩ ⟨⟩) h_9 ⟨⟩ ⟨⟩) h_8 ⟨⟩) ⟨⟩ ⟨⟩) h_7 ⟨⟩) ⟨⟩) ⟨⟩ ⟨⟩) h_5 ⟨⟩) h_3 ⟨⟩ ⟨⟩) h_1 ⟨⟩ ⟨⟩) h ⟨⟩

theorem n27_calls {b0 at1 n2 x3 : Value} {R : Value → Heap → Prop} {h : Heap} (H : n27 b0 at1 n2 x3 R h) : CallsH Try.prog 27 #[b0, at1, n2, x3] h R ⟨⟩ :=
  callsH_of_eq Try.follow (.n none .l (.n none .l (.n none (.n none .l (.n none (.n (some [4, 35]) .l .l) .l)) .l))) Try.func27 (by kernel_rfl) (by kernel_rfl) (by kernel_rfl) H

/-- palimpsest/wire.Text -/
def n28 (b0 at1 most2 : Value) (R : Value → Heap → Prop) (h : Heap) : Prop :=
  CallsH Try.prog 70 #[b0, at1, most2] h (fun t17 h_1 => 
    Hp Try.prog false (binS .neq 27 (.tmp 18) (.const (.int .i64 0)) t17 (.int .i64 0)) (fun t19 h_2 => 
      CondP t19 (
        R (.tuple #[(str []), t17]) h_2) (
        CallsH Try.prog 24 #[b0, at1, (.int .i64 4)] h_2 (fun t24 h_3 => 
          Hp Try.prog false (Instr.extract t24 0) (fun t25 h_4 => 
            Hp Try.prog false (Instr.extract t24 1) (fun t26 h_5 => 
              Hp Try.prog false (convert 3 25 most2) (fun t29 h_6 => 
                Hp Try.prog false (binS .gtr 25 (.tmp 27) (.tmp 29) t25 t29) (fun t30 h_7 => 
                  CondP t30 (
                    R (.tuple #[(str []), (.int .i64 110)]) h_7) (
                    Hp Try.prog false (binS .add 3 (.tmp 31) (.const (.int .i64 4)) at1 (.int .i64 4)) (fun t32 h_8 => 
                      Hp Try.prog false (convert 25 3 t25) (fun t34 h_9 => 
                        Hp Try.prog false (binS .add 3 (.tmp 32) (.tmp 34) t32 t34) (fun t35 h_10 => 
                          Hp Try.prog false (binS .add 3 (.tmp 39) (.const (.int .i64 4)) at1 (.int .i64 4)) (fun t40 h_11 => 
                            Hp Try.prog false (binS .add 3 (.tmp 40) (.tmp 41) t40 most2) (fun t42 h_12 => 
                              CallsH Try.prog 33 #[b0, t35, t42] h_12 (fun t43 h_13 => 
                                Hp Try.prog false (Instr.extract t43 0) (fun t44 h_14 => 
                                  Hp Try.prog false (Instr.extract t43 1) (fun t45 h_15 => 
                                    Hp Try.prog false (Op.unary .not t44) (fun t47 h_16 => 
                                      CondP t47 (
                                        R (.tuple #[(str []), (.int .i64 110)]) h_16) (
                                        Hp Try.prog false (binS .add 3 (.tmp 49) (.const (.int .i64 4)) at1 (.int .i64 4)) (fun t50 h_17 => 
                                          Hp Try.prog false (Instr.sliceAt 39 b0 (some t50) (some t35) none) (fun t52 h_18 => 
                                            Hp Try.prog false (convert 39 9 t52) (fun t53 h_19 => 
                                              R (.tuple #[t53, (.int .i64 0)]) h_19) h_18 ⟨⟩) h_17 ⟨⟩) h_16 ⟨⟩) ⟨⟩ ⟨⟩) h_15 ⟨⟩) h_14 ⟨⟩) h_13 ⟨⟩) ⟨⟩) h_11 ⟨⟩) h_10 ⟨⟩) h_9 ⟨⟩) h_8 ⟨⟩) h_7 ⟨⟩) ⟨⟩ ⟨⟩) h_6 ⟨⟩) h_5 ⟨⟩) h_4 ⟨⟩) h_3 ⟨⟩) ⟨⟩) ⟨⟩ ⟨⟩) h_1 ⟨⟩) ⟨⟩

theorem n28_calls {b0 at1 most2 : Value} {R : Value → Heap → Prop} {h : Heap} (H : n28 b0 at1 most2 R h) : CallsH Try.prog 28 #[b0, at1, most2] h R ⟨⟩ :=
  callsH_of_eq Try.follow .l Try.func28 (by kernel_rfl) (by kernel_rfl) (by kernel_rfl) H

/-- palimpsest/palimpsestref01.Text -/
def n29 (b0 at1 most2 : Value) (R : Value → Heap → Prop) (h : Heap) : Prop :=
  CallsH Try.prog 71 #[b0, at1, most2] h (fun t14 h_1 => 
    Hp Try.prog false (binS .neq 3 (.tmp 15) (.const (.int .i64 0)) t14 (.int .i64 0)) (fun t16 h_2 => 
      CondP t16 (
        R (.tuple #[(str []), t14]) h_2) (
        Hp Try.prog false (binS .add 3 (.tmp 20) (.const (.int .i64 4)) at1 (.int .i64 4)) (fun t21 h_3 => 
          Hp Try.prog false (Instr.sliceAt 39 b0 (some at1) (some t21) none) (fun t22 h_4 => 
            CallsH Try.prog 68 #[t22] h_4 (fun t23 h_5 => 
              Hp Try.prog false (convert 3 25 most2) (fun t26 h_6 => 
                Hp Try.prog false (binS .gtr 25 (.tmp 24) (.tmp 26) t23 t26) (fun t27 h_7 => 
                  CondP t27 (
                    R (.tuple #[(str []), (.int .i64 110)]) h_7) (
                    Hp Try.prog false (binS .add 3 (.tmp 28) (.const (.int .i64 4)) at1 (.int .i64 4)) (fun t29 h_8 => 
                      Hp Try.prog false (convert 25 3 t23) (fun t31 h_9 => 
                        Hp Try.prog false (binS .add 3 (.tmp 29) (.tmp 31) t29 t31) (fun t32 h_10 => 
                          LoopC 1 (fun (X : Value → Heap → Prop) => fun i10 h_11 =>
                            Hp Try.prog false (binS .add 3 (.tmp 34) (.const (.int .i64 4)) at1 (.int .i64 4)) (fun t35 h_12 => 
                              Hp Try.prog false (binS .add 3 (.tmp 35) (.tmp 36) t35 most2) (fun t37 h_13 => 
                                Hp Try.prog false (binS .lss 3 (.tmp 33) (.tmp 37) i10 t37) (fun t38 h_14 => 
                                  CondP t38 (
                                    Hp Try.prog false (Instr.indexAt 39 b0 i10) (fun t43 h_15 => 
                                      Hp Try.prog false (Instr.loadAt 5 t43) (fun t44 h_16 => 
                                        Hp Try.prog false (binS .neq 5 (.tmp 44) (.const (.int .u8 0)) t44 (.int .u8 0)) (fun t45 h_17 => 
                                          CondP t45 (
                                            R (.tuple #[(str []), (.int .i64 110)]) h_17) (
                                            Hp Try.prog false (binS .add 3 (.tmp 39) (.const (.int .i64 1)) i10 (.int .i64 1)) (fun t40 h_18 => 
                                              X t40 h_18) h_17 ⟨⟩) ⟨⟩ ⟨⟩) h_16 ⟨⟩) h_15 ⟨⟩) h_14 ⟨⟩) (
                                    Hp Try.prog false (binS .add 3 (.tmp 47) (.const (.int .i64 4)) at1 (.int .i64 4)) (fun t48 h_19 => 
                                      Hp Try.prog false (binS .add 3 (.tmp 49) (.const (.int .i64 4)) at1 (.int .i64 4)) (fun t50 h_20 => 
                                        Hp Try.prog false (convert 25 3 t23) (fun t52 h_21 => 
                                          Hp Try.prog false (binS .add 3 (.tmp 50) (.tmp 52) t50 t52) (fun t53 h_22 => 
                                            Hp Try.prog false (Instr.sliceAt 39 b0 (some t48) (some t53) none) (fun t54 h_23 => 
                                              Hp Try.prog false (convert 39 9 t54) (fun t55 h_24 => 
                                                R (.tuple #[t55, (.int .i64 0)]) h_24) h_23 ⟨⟩) h_22 ⟨⟩) h_21 ⟨⟩) h_20 ⟨⟩) h_19 ⟨⟩) h_14 ⟨⟩) ⟨⟩ ⟨⟩) h_13 ⟨⟩) h_12 ⟨⟩) h_11 ⟨⟩) [t32] h_10 ⟨⟩) h_9 ⟨⟩) h_8 ⟨⟩) h_7 ⟨⟩) ⟨⟩ ⟨⟩) h_6 ⟨⟩) h_5 ⟨⟩) ⟨⟩) h_3 ⟨⟩) h_2 ⟨⟩) ⟨⟩ ⟨⟩) h_1 ⟨⟩) ⟨⟩

theorem n29_calls {b0 at1 most2 : Value} {R : Value → Heap → Prop} {h : Heap} (H : n29 b0 at1 most2 R h) : CallsH Try.prog 29 #[b0, at1, most2] h R ⟨⟩ :=
  callsH_of_eq Try.follow (.n none .l (.n none .l (.n none .l (.n none .l (.n none .l (.n none (.n none .l (.n none (.n (some [11]) .l .l) .l)) .l)))))) Try.func29 (by kernel_rfl) (by kernel_rfl) (by kernel_rfl) H

/-- palimpsest/palimpsestref01.SetText -/
def n30 (b0 at1 most2 s3 : Value) (R : Value → Heap → Prop) (h : Heap) : Prop :=
  CallsH Try.prog 71 #[b0, at1, most2] h (fun t15 h_1 => 
    Hp Try.prog false (binS .neq 3 (.tmp 16) (.const (.int .i64 0)) t15 (.int .i64 0)) (fun t17 h_2 => 
      CondP t17 (
        R (.tuple #[b0, t15]) h_2) (
        Hp Try.prog false (Builtin.len_ #[9] 3 #[s3]) (fun t21 h_3 => 
          Hp Try.prog false (binS .gtr 3 (.tmp 21) (.tmp 22) t21 most2) (fun t23 h_4 => 
            CondP t23 (
              R (.tuple #[b0, (.int .i64 3)]) h_4) (
              Hp Try.prog false (Instr.sliceAt 39 b0 none (some at1) none) (fun t27 h_5 => 
                Hp Try.prog false (Builtin.append_ #[39, 39] 39 #[(.slice none 0 0), t27]) (fun t28 h_6 => 
                  Hp Try.prog false (Builtin.len_ #[9] 3 #[s3]) (fun t31 h_7 => 
                    Hp Try.prog false (convert 3 25 t31) (fun t32 h_8 => 
                      CallsH Try.prog 69 #[t32, (.int .i64 4)] h_8 (fun t33 h_9 => 
                        Hp Try.prog false (Builtin.append_ #[39, 39] 39 #[t28, t33]) (fun t34 h_10 => 
                          Hp Try.prog false (Builtin.append_ #[39, 9] 39 #[t34, s3]) (fun t37 h_11 => 
                            Hp Try.prog false (Builtin.len_ #[9] 3 #[s3]) (fun t41 h_12 => 
                              Hp Try.prog false (binS .sub 3 (.tmp 39) (.tmp 41) most2 t41) (fun t42 h_13 => 
                                Hp Try.prog false (Builtin.append_ #[39, 3] 39 #[t37, t42]) (fun t43 h_14 => 
                                  Hp Try.prog false (binS .add 3 (.tmp 46) (.const (.int .i64 4)) at1 (.int .i64 4)) (fun t47 h_15 => 
                                    Hp Try.prog false (binS .add 3 (.tmp 47) (.tmp 48) t47 most2) (fun t49 h_16 => 
                                      Hp Try.prog false (Instr.sliceAt 39 b0 (some t49) none none) (fun t50 h_17 => 
                                        Hp Try.prog false (Builtin.append_ #[39, 39] 39 #[t43, t50]) (fun t51 h_18 => 
                                          R (.tuple #[t51, (.int .i64 0)]) h_18) h_17 ⟨⟩) h_16 ⟨⟩) h_15 ⟨⟩) h_14 ⟨⟩) h_13 ⟨⟩) h_12 ⟨⟩) h_11 ⟨⟩) h_10 ⟨⟩) h_9 ⟨⟩) ⟨⟩) h_7 ⟨⟩) h_6 ⟨⟩) h_5 ⟨⟩) h_4 ⟨⟩) ⟨⟩ ⟨⟩) h_3 ⟨⟩) h_2 ⟨⟩) ⟨⟩ ⟨⟩) h_1 ⟨⟩) ⟨⟩

theorem n30_calls {b0 at1 most2 s3 : Value} {R : Value → Heap → Prop} {h : Heap} (H : n30 b0 at1 most2 s3 R h) : CallsH Try.prog 30 #[b0, at1, most2, s3] h R ⟨⟩ :=
  callsH_of_eq Try.follow .l Try.func30 (by kernel_rfl) (by kernel_rfl) (by kernel_rfl) H

/-- palimpsest/wire.SetText -/
def n31 (b0 at1 most2 s3 : Value) (R : Value → Heap → Prop) (h : Heap) : Prop :=
  CallsH Try.prog 70 #[b0, at1, most2] h (fun t14 h_1 => 
    Hp Try.prog false (binS .neq 27 (.tmp 15) (.const (.int .i64 0)) t14 (.int .i64 0)) (fun t16 h_2 => 
      CondP t16 (
        R t14 h_2) (
        Hp Try.prog false (Builtin.len_ #[9] 3 #[s3]) (fun t19 h_3 => 
          Hp Try.prog false (binS .gtr 3 (.tmp 19) (.tmp 20) t19 most2) (fun t21 h_4 => 
            CondP t21 (
              R (.int .i64 3) h_4) (
              Hp Try.prog false (Builtin.len_ #[9] 3 #[s3]) (fun t25 h_5 => 
                Hp Try.prog false (convert 3 25 t25) (fun t26 h_6 => 
                  CallsH Try.prog 27 #[b0, at1, (.int .i64 4), t26] h_6 (fun t27 h_7 => 
                    Hp Try.prog false (binS .add 3 (.tmp 29) (.const (.int .i64 4)) at1 (.int .i64 4)) (fun t30 h_8 => 
                      Hp Try.prog false (binS .add 3 (.tmp 31) (.const (.int .i64 4)) at1 (.int .i64 4)) (fun t32 h_9 => 
                        Hp Try.prog false (binS .add 3 (.tmp 32) (.tmp 33) t32 most2) (fun t34 h_10 => 
                          Hp Try.prog false (Instr.sliceAt 39 b0 (some t30) (some t34) none) (fun t35 h_11 => 
                            Hp Try.prog false (Builtin.clear_ #[39] 0 #[t35]) (fun _ h_12 => 
                              Hp Try.prog false (Builtin.copy_ #[39, 9] 3 #[t35, s3]) (fun t39 h_13 => 
                                R (.int .i64 0) h_13) h_12 ⟨⟩) h_11 ⟨⟩) h_10 ⟨⟩) h_9 ⟨⟩) h_8 ⟨⟩) h_7 ⟨⟩) ⟨⟩) h_5 ⟨⟩) h_4 ⟨⟩) ⟨⟩ ⟨⟩) h_3 ⟨⟩) h_2 ⟨⟩) ⟨⟩ ⟨⟩) h_1 ⟨⟩) ⟨⟩

theorem n31_calls {b0 at1 most2 s3 : Value} {R : Value → Heap → Prop} {h : Heap} (H : n31 b0 at1 most2 s3 R h) : CallsH Try.prog 31 #[b0, at1, most2, s3] h R ⟨⟩ :=
  callsH_of_eq Try.follow .l Try.func31 (by kernel_rfl) (by kernel_rfl) (by kernel_rfl) H

/-- palimpsest/wire.Join -/
def n32 (fields0 : Value) (R : Value → Heap → Prop) (h : Heap) : Prop :=
  Hp Try.prog false (Builtin.len_ #[57] 3 #[fields0]) (fun t7 h_1 => 
    LoopC 2 (fun (X : Value → Value → Heap → Prop) => fun out3 t8 h_2 =>
      Hp Try.prog false (binS .lss 3 (.tmp 8) (.tmp 7) t8 t7) (fun t9 h_3 => 
        CondP t9 (
          Hp Try.prog false (Instr.indexAt 57 fields0 t8) (fun t10 h_4 => 
            Hp Try.prog false (Instr.loadAt 39 t10) (fun t11 h_5 => 
              Hp Try.prog false (Builtin.append_ #[39, 39] 39 #[out3, t11]) (fun t14 h_6 => 
                Hp Try.prog false (binS .add 3 (.tmp 8) (.const (.int .i64 1)) t8 (.int .i64 1)) (fun t15 h_7 => 
                  X t14 t15 h_7) h_6 ⟨⟩) h_5 ⟨⟩) h_4 ⟨⟩) h_3 ⟨⟩) (
          R out3 h_3) ⟨⟩ ⟨⟩) h_2 ⟨⟩) [(.slice none 0 0), (.int .i64 0)] h_1 ⟨⟩) h ⟨⟩

theorem n32_calls {fields0 : Value} {R : Value → Heap → Prop} {h : Heap} (H : n32 fields0 R h) : CallsH Try.prog 32 #[fields0] h R ⟨⟩ :=
  callsH_of_eq Try.follow (.n none .l (.n none .l (.n none (.n none .l (.n none (.n (some [4, 9]) .l .l) .l)) .l))) Try.func32 (by kernel_rfl) (by kernel_rfl) (by kernel_rfl) H

/-- palimpsest/wire.Noughts -/
def n33 (b0 from1 until2 : Value) (R : Value → Heap → Prop) (h : Heap) : Prop :=
  Hp Try.prog false (binS .lss 3 (.tmp 11) (.const (.int .i64 0)) from1 (.int .i64 0)) (fun t12 h_1 => 
    Join1 (fun k h_2 => guardP t12 false (k until2 h_2) (k undef h_2) ⟨⟩ ⟨⟩) (fun t14 h_3 => 
      Join1 (fun k_1 h_4 => guardP t12 false (k_1 from1 h_4) (k_1 undef h_4) ⟨⟩ ⟨⟩) (fun t15 h_5 => 
        Join1 (fun k_2 h_6 => guardP t12 false (Hp Try.prog false (binS .lss 3 (.tmp 14) (.tmp 15) t14 t15) k_2 h_6 ⟨⟩) (k_2 undef h_6) ⟨⟩ ⟨⟩) (fun t16 h_7 => 
          Hp Try.prog false (pickS t12 (.bool true) t16) (fun t17 h_8 => 
            Join1 (fun k_3 h_9 => guardP t17 false (k_3 until2 h_9) (k_3 undef h_9) ⟨⟩ ⟨⟩) (fun t19 h_10 => 
              Join1 (fun k_4 h_11 => guardP t17 false (k_4 b0 h_11) (k_4 undef h_11) ⟨⟩ ⟨⟩) (fun t20 h_12 => 
                Join1 (fun k_5 h_13 => guardP t17 false (Hp Try.prog false (Builtin.len_ #[39] 3 #[t20]) k_5 h_13 ⟨⟩) (k_5 undef h_13) ⟨⟩ ⟨⟩) (fun t21 h_14 => 
                  Join1 (fun k_6 h_15 => guardP t17 false (Hp Try.prog false (binS .gtr 3 (.tmp 19) (.tmp 21) t19 t21) k_6 h_15 ⟨⟩) (k_6 undef h_15) ⟨⟩ ⟨⟩) (fun t22 h_16 => 
                    Hp Try.prog false (pickS t17 (.bool true) t22) (fun t23 h_17 => 
                      CondP t23 (
                        R (.tuple #[(.bool false), (.int .i64 4)]) h_17) (
                        JoinN 1 (fun (k_7 : Value → Heap → Prop) h_18 =>
                          Hp Try.prog false (Instr.sliceAt 39 b0 (some from1) (some until2) none) (fun t27 h_19 => 
                            Hp Try.prog false (Builtin.len_ #[39] 3 #[t27]) (fun t28 h_20 => 
                              JoinN 1 (fun (k_8 : Value → Heap → Prop) h_21 =>
                                LoopC 2 (fun (X : Value → Value → Heap → Prop) => fun all8 t29 h_22 =>
                                  Hp Try.prog false (binS .lss 3 (.tmp 29) (.tmp 28) t29 t28) (fun t30 h_23 => 
                                    CondP t30 (
                                      Hp Try.prog false (Instr.indexAt 39 t27 t29) (fun t31 h_24 => 
                                        Hp Try.prog false (Instr.loadAt 5 t31) (fun t32 h_25 => 
                                          Hp Try.prog false (binS .neq 5 (.tmp 33) (.const (.int .u8 0)) t32 (.int .u8 0)) (fun t34 h_26 => 
                                            CondP t34 (
                                              k_8 (.bool false) h_26) (
                                              Hp Try.prog false (binS .add 3 (.tmp 29) (.const (.int .i64 1)) t29 (.int .i64 1)) (fun t35 h_27 => 
                                                X all8 t35 h_27) h_26 ⟨⟩) ⟨⟩ ⟨⟩) h_25 ⟨⟩) h_24 ⟨⟩) h_23 ⟨⟩) (
                                      k_8 all8 h_23) ⟨⟩ ⟨⟩) h_22 ⟨⟩) [(.bool true), (.int .i64 0)] h_21 ⟨⟩)
                                (fun all8_1 h_28 =>
                                k_7 all8_1 h_28) h_20 ⟨⟩ ⟨⟩) h_19 ⟨⟩) h_18 ⟨⟩)
                          (fun all8_2 h_29 =>
                          R (.tuple #[all8_2, (.int .i64 0)]) h_29) h_17 ⟨⟩ ⟨⟩) ⟨⟩ ⟨⟩) h_16 ⟨⟩) h_14 ⟨⟩ ⟨⟩) h_12 ⟨⟩ ⟨⟩) h_10 ⟨⟩ ⟨⟩) h_8 ⟨⟩ ⟨⟩) h_7 ⟨⟩) h_5 ⟨⟩ ⟨⟩) h_3 ⟨⟩ ⟨⟩) h_1 ⟨⟩ ⟨⟩) h ⟨⟩

theorem n33_calls {b0 from1 until2 : Value} {R : Value → Heap → Prop} {h : Heap} (H : n33 b0 from1 until2 R h) : CallsH Try.prog 33 #[b0, from1, until2] h R ⟨⟩ :=
  callsH_of_eq Try.follow (.n none .l (.n none (.n none .l (.n none .l (.n none .l (.n (some [9]) (.n none .l (.n (some [9]) (.n (some [9, 30]) .l .l) .l)) .l)))) .l)) Try.func33 (by kernel_rfl) (by kernel_rfl) (by kernel_rfl) H

/-- palimpsest/wire.lies -/
def n66 (b0 at1 n2 : Value) (R : Value → Heap → Prop) (h : Heap) : Prop :=
  Hp Try.prog false (binS .geq 3 (.tmp 7) (.const (.int .i64 0)) at1 (.int .i64 0)) (fun t8 h_1 => 
    Join1 (fun k h_2 => guardP t8 true (k n2 h_2) (k undef h_2) ⟨⟩ ⟨⟩) (fun t10 h_3 => 
      Join1 (fun k_1 h_4 => guardP t8 true (k_1 b0 h_4) (k_1 undef h_4) ⟨⟩ ⟨⟩) (fun t11 h_5 => 
        Join1 (fun k_2 h_6 => guardP t8 true (Hp Try.prog false (Builtin.len_ #[39] 3 #[t11]) k_2 h_6 ⟨⟩) (k_2 undef h_6) ⟨⟩ ⟨⟩) (fun t12 h_7 => 
          Join1 (fun k_3 h_8 => guardP t8 true (Hp Try.prog false (binS .leq 3 (.tmp 10) (.tmp 12) t10 t12) k_3 h_8 ⟨⟩) (k_3 undef h_8) ⟨⟩ ⟨⟩) (fun t13 h_9 => 
            Hp Try.prog false (pickS t8 t13 (.bool false)) (fun t14 h_10 => 
              Join1 (fun k_4 h_11 => guardP t14 true (k_4 at1 h_11) (k_4 undef h_11) ⟨⟩ ⟨⟩) (fun t16 h_12 => 
                Join1 (fun k_5 h_13 => guardP t14 true (k_5 b0 h_13) (k_5 undef h_13) ⟨⟩ ⟨⟩) (fun t17 h_14 => 
                  Join1 (fun k_6 h_15 => guardP t14 true (Hp Try.prog false (Builtin.len_ #[39] 3 #[t17]) k_6 h_15 ⟨⟩) (k_6 undef h_15) ⟨⟩ ⟨⟩) (fun t18 h_16 => 
                    Join1 (fun k_7 h_17 => guardP t14 true (k_7 n2 h_17) (k_7 undef h_17) ⟨⟩ ⟨⟩) (fun t19 h_18 => 
                      Join1 (fun k_8 h_19 => guardP t14 true (Hp Try.prog false (binS .sub 3 (.tmp 18) (.tmp 19) t18 t19) k_8 h_19 ⟨⟩) (k_8 undef h_19) ⟨⟩ ⟨⟩) (fun t20 h_20 => 
                        Join1 (fun k_9 h_21 => guardP t14 true (Hp Try.prog false (binS .leq 3 (.tmp 16) (.tmp 20) t16 t20) k_9 h_21 ⟨⟩) (k_9 undef h_21) ⟨⟩ ⟨⟩) (fun t21 h_22 => 
                          Hp Try.prog false (pickS t14 t21 (.bool false)) (fun t22 h_23 => 
                            R t22 h_23) h_22 ⟨⟩) h_20 ⟨⟩ ⟨⟩) h_18 ⟨⟩ ⟨⟩) h_16 ⟨⟩ ⟨⟩) h_14 ⟨⟩ ⟨⟩) h_12 ⟨⟩ ⟨⟩) h_10 ⟨⟩ ⟨⟩) h_9 ⟨⟩) h_7 ⟨⟩ ⟨⟩) h_5 ⟨⟩ ⟨⟩) h_3 ⟨⟩ ⟨⟩) h_1 ⟨⟩ ⟨⟩) h ⟨⟩

theorem n66_calls {b0 at1 n2 : Value} {R : Value → Heap → Prop} {h : Heap} (H : n66 b0 at1 n2 R h) : CallsH Try.prog 66 #[b0, at1, n2] h R ⟨⟩ :=
  callsH_of_eq Try.follow .l Try.func66 (by kernel_rfl) (by kernel_rfl) (by kernel_rfl) H

/-- palimpsest/palimpsestref01.Lies -/
def n67 (b0 at1 n2 : Value) (R : Value → Heap → Prop) (h : Heap) : Prop :=
  Hp Try.prog false (binS .geq 3 (.tmp 7) (.const (.int .i64 0)) at1 (.int .i64 0)) (fun t8 h_1 => 
    Join1 (fun k h_2 => guardP t8 true (k n2 h_2) (k undef h_2) ⟨⟩ ⟨⟩) (fun t10 h_3 => 
      Join1 (fun k_1 h_4 => guardP t8 true (Hp Try.prog false (binS .geq 3 (.tmp 10) (.const (.int .i64 0)) t10 (.int .i64 0)) k_1 h_4 ⟨⟩) (k_1 undef h_4) ⟨⟩ ⟨⟩) (fun t11 h_5 => 
        Hp Try.prog false (pickS t8 t11 (.bool false)) (fun t12 h_6 => 
          Join1 (fun k_2 h_7 => guardP t12 true (k_2 n2 h_7) (k_2 undef h_7) ⟨⟩ ⟨⟩) (fun t14 h_8 => 
            Join1 (fun k_3 h_9 => guardP t12 true (k_3 b0 h_9) (k_3 undef h_9) ⟨⟩ ⟨⟩) (fun t15 h_10 => 
              Join1 (fun k_4 h_11 => guardP t12 true (Hp Try.prog false (Builtin.len_ #[39] 3 #[t15]) k_4 h_11 ⟨⟩) (k_4 undef h_11) ⟨⟩ ⟨⟩) (fun t16 h_12 => 
                Join1 (fun k_5 h_13 => guardP t12 true (Hp Try.prog false (binS .leq 3 (.tmp 14) (.tmp 16) t14 t16) k_5 h_13 ⟨⟩) (k_5 undef h_13) ⟨⟩ ⟨⟩) (fun t17 h_14 => 
                  Hp Try.prog false (pickS t12 t17 (.bool false)) (fun t18 h_15 => 
                    Join1 (fun k_6 h_16 => guardP t18 true (k_6 at1 h_16) (k_6 undef h_16) ⟨⟩ ⟨⟩) (fun t20 h_17 => 
                      Join1 (fun k_7 h_18 => guardP t18 true (k_7 b0 h_18) (k_7 undef h_18) ⟨⟩ ⟨⟩) (fun t21 h_19 => 
                        Join1 (fun k_8 h_20 => guardP t18 true (Hp Try.prog false (Builtin.len_ #[39] 3 #[t21]) k_8 h_20 ⟨⟩) (k_8 undef h_20) ⟨⟩ ⟨⟩) (fun t22 h_21 => 
                          Join1 (fun k_9 h_22 => guardP t18 true (k_9 n2 h_22) (k_9 undef h_22) ⟨⟩ ⟨⟩) (fun t23 h_23 => 
                            Join1 (fun k_10 h_24 => guardP t18 true (Hp Try.prog false (binS .sub 3 (.tmp 22) (.tmp 23) t22 t23) k_10 h_24 ⟨⟩) (k_10 undef h_24) ⟨⟩ ⟨⟩) (fun t24 h_25 => 
                              Join1 (fun k_11 h_26 => guardP t18 true (Hp Try.prog false (binS .leq 3 (.tmp 20) (.tmp 24) t20 t24) k_11 h_26 ⟨⟩) (k_11 undef h_26) ⟨⟩ ⟨⟩) (fun t25 h_27 => 
                                Hp Try.prog false (pickS t18 t25 (.bool false)) (fun t26 h_28 => 
                                  R t26 h_28) h_27 ⟨⟩) h_25 ⟨⟩ ⟨⟩) h_23 ⟨⟩ ⟨⟩) h_21 ⟨⟩ ⟨⟩) h_19 ⟨⟩ ⟨⟩) h_17 ⟨⟩ ⟨⟩) h_15 ⟨⟩ ⟨⟩) h_14 ⟨⟩) h_12 ⟨⟩ ⟨⟩) h_10 ⟨⟩ ⟨⟩) h_8 ⟨⟩ ⟨⟩) h_6 ⟨⟩ ⟨⟩) h_5 ⟨⟩) h_3 ⟨⟩ ⟨⟩) h_1 ⟨⟩ ⟨⟩) h ⟨⟩

theorem n67_calls {b0 at1 n2 : Value} {R : Value → Heap → Prop} {h : Heap} (H : n67 b0 at1 n2 R h) : CallsH Try.prog 67 #[b0, at1, n2] h R ⟨⟩ :=
  callsH_of_eq Try.follow .l Try.func67 (by kernel_rfl) (by kernel_rfl) (by kernel_rfl) H

/-- palimpsest/palimpsestref01.Value -/
def n68 (b0 : Value) (R : Value → Heap → Prop) (h : Heap) : Prop :=
  Hp Try.prog false (Builtin.len_ #[39] 3 #[b0]) (fun t6 h_1 => 
    Hp Try.prog false (binS .sub 3 (.tmp 6) (.const (.int .i64 1)) t6 (.int .i64 1)) (fun t7 h_2 => 
      LoopC 2 (fun (X : Value → Value → Heap → Prop) => fun x3 i4 h_3 =>
        Hp Try.prog false (binS .geq 3 (.tmp 8) (.const (.int .i64 0)) i4 (.int .i64 0)) (fun t9 h_4 => 
          CondP t9 (
            Hp Try.prog false (binS .mul 25 (.const (.int .u64 256)) (.tmp 12) (.int .u64 256) x3) (fun t13 h_5 => 
              Hp Try.prog false (Instr.indexAt 39 b0 i4) (fun t16 h_6 => 
                Hp Try.prog false (Instr.loadAt 5 t16) (fun t17 h_7 => 
                  Hp Try.prog false (convert 5 25 t17) (fun t18 h_8 => 
                    Hp Try.prog false (binS .add 25 (.tmp 13) (.tmp 18) t13 t18) (fun t19 h_9 => 
                      Hp Try.prog false (binS .sub 3 (.tmp 10) (.const (.int .i64 1)) i4 (.int .i64 1)) (fun t11 h_10 => 
                        X t19 t11 h_10) h_9 ⟨⟩) h_8 ⟨⟩) h_7 ⟨⟩) h_6 ⟨⟩) h_5 ⟨⟩) h_4 ⟨⟩) (
            R x3 h_4) ⟨⟩ ⟨⟩) h_3 ⟨⟩) [(.int .u64 0), t7] h_2 ⟨⟩) h_1 ⟨⟩) h ⟨⟩

theorem n68_calls {b0 : Value} {R : Value → Heap → Prop} {h : Heap} (H : n68 b0 R h) : CallsH Try.prog 68 #[b0] h R ⟨⟩ :=
  callsH_of_eq Try.follow (.n none .l (.n none .l (.n none (.n none .l (.n none (.n (some [4, 5]) .l .l) .l)) .l))) Try.func68 (by kernel_rfl) (by kernel_rfl) (by kernel_rfl) H

/-- palimpsest/palimpsestref01.Number -/
def n69 (x0 n1 : Value) (R : Value → Heap → Prop) (h : Heap) : Prop :=
  LoopC 3 (fun (X : Value → Value → Value → Heap → Prop) => fun x0_1 out5 i6 h_1 =>
    Hp Try.prog false (binS .lss 3 (.tmp 7) (.tmp 8) i6 n1) (fun t9 h_2 => 
      CondP t9 (
        Hp Try.prog false (binS .rem 25 (.tmp 13) (.const (.int .u64 256)) x0_1 (.int .u64 256)) (fun t14 h_3 => 
          Hp Try.prog false (convert 25 5 t14) (fun t15 h_4 => 
            Hp Try.prog false (Instr.buildSlice 39 1 #[(0, t15)]) (fun t16 h_5 => 
              Hp Try.prog false (Builtin.append_ #[39, 39] 39 #[out5, t16]) (fun t17 h_6 => 
                Hp Try.prog false (binS .quo 25 (.tmp 18) (.const (.int .u64 256)) x0_1 (.int .u64 256)) (fun t19 h_7 => 
                  Hp Try.prog false (binS .add 3 (.tmp 10) (.const (.int .i64 1)) i6 (.int .i64 1)) (fun t11 h_8 => 
                    X t19 t17 t11 h_8) h_7 ⟨⟩) h_6 ⟨⟩) h_5 ⟨⟩) h_4 ⟨⟩) h_3 ⟨⟩) h_2 ⟨⟩) (
        R out5 h_2) ⟨⟩ ⟨⟩) h_1 ⟨⟩) [x0, (.slice none 0 0), (.int .i64 0)] h ⟨⟩

theorem n69_calls {x0 n1 : Value} {R : Value → Heap → Prop} {h : Heap} (H : n69 x0 n1 R h) : CallsH Try.prog 69 #[x0, n1] h R ⟨⟩ :=
  callsH_of_eq Try.follow (.n none .l (.n none .l (.n none (.n none .l (.n none (.n (some [1, 6, 7]) .l .l) .l)) .l))) Try.func69 (by kernel_rfl) (by kernel_rfl) (by kernel_rfl) H

/-- palimpsest/wire.field -/
def n70 (b0 at1 most2 : Value) (R : Value → Heap → Prop) (h : Heap) : Prop :=
  Hp Try.prog false (binS .lss 3 (.tmp 8) (.const (.int .i64 0)) most2 (.int .i64 0)) (fun t9 h_1 => 
    Join1 (fun k h_2 => guardP t9 false (k most2 h_2) (k undef h_2) ⟨⟩ ⟨⟩) (fun t11 h_3 => 
      Join1 (fun k_1 h_4 => guardP t9 false (Hp Try.prog false (binS .gtr 3 (.tmp 11) (.const (.int .i64 1048576)) t11 (.int .i64 1048576)) k_1 h_4 ⟨⟩) (k_1 undef h_4) ⟨⟩ ⟨⟩) (fun t12 h_5 => 
        Hp Try.prog false (pickS t9 (.bool true) t12) (fun t13 h_6 => 
          CondP t13 (
            R (.int .i64 2) h_6) (
            Hp Try.prog false (binS .add 3 (.const (.int .i64 4)) (.tmp 17) (.int .i64 4) most2) (fun t18 h_7 => 
              CallsH Try.prog 66 #[b0, at1, t18] h_7 (fun t19 h_8 => 
                Hp Try.prog false (Op.unary .not t19) (fun t20 h_9 => 
                  CondP t20 (
                    R (.int .i64 4) h_9) (
                    R (.int .i64 0) h_9) ⟨⟩ ⟨⟩) h_8 ⟨⟩) ⟨⟩) h_6 ⟨⟩) ⟨⟩ ⟨⟩) h_5 ⟨⟩) h_3 ⟨⟩ ⟨⟩) h_1 ⟨⟩ ⟨⟩) h ⟨⟩

theorem n70_calls {b0 at1 most2 : Value} {R : Value → Heap → Prop} {h : Heap} (H : n70 b0 at1 most2 R h) : CallsH Try.prog 70 #[b0, at1, most2] h R ⟨⟩ :=
  callsH_of_eq Try.follow .l Try.func70 (by kernel_rfl) (by kernel_rfl) (by kernel_rfl) H

/-- palimpsest/palimpsestref01.Field -/
def n71 (b0 at1 most2 : Value) (R : Value → Heap → Prop) (h : Heap) : Prop :=
  Hp Try.prog false (binS .lss 3 (.tmp 7) (.const (.int .i64 0)) most2 (.int .i64 0)) (fun t8 h_1 => 
    Join1 (fun k h_2 => guardP t8 false (k most2 h_2) (k undef h_2) ⟨⟩ ⟨⟩) (fun t10 h_3 => 
      Join1 (fun k_1 h_4 => guardP t8 false (Hp Try.prog false (binS .gtr 3 (.tmp 10) (.const (.int .i64 1048576)) t10 (.int .i64 1048576)) k_1 h_4 ⟨⟩) (k_1 undef h_4) ⟨⟩ ⟨⟩) (fun t11 h_5 => 
        Hp Try.prog false (pickS t8 (.bool true) t11) (fun t12 h_6 => 
          CondP t12 (
            R (.int .i64 2) h_6) (
            Hp Try.prog false (binS .add 3 (.const (.int .i64 4)) (.tmp 15) (.int .i64 4) most2) (fun t16 h_7 => 
              CallsH Try.prog 67 #[b0, at1, t16] h_7 (fun t17 h_8 => 
                Hp Try.prog false (Op.unary .not t17) (fun t18 h_9 => 
                  CondP t18 (
                    R (.int .i64 4) h_9) (
                    R (.int .i64 0) h_9) ⟨⟩ ⟨⟩) h_8 ⟨⟩) ⟨⟩) h_6 ⟨⟩) ⟨⟩ ⟨⟩) h_5 ⟨⟩) h_3 ⟨⟩ ⟨⟩) h_1 ⟨⟩ ⟨⟩) h ⟨⟩

theorem n71_calls {b0 at1 most2 : Value} {R : Value → Heap → Prop} {h : Heap} (H : n71 b0 at1 most2 R h) : CallsH Try.prog 71 #[b0, at1, most2] h R ⟨⟩ :=
  callsH_of_eq Try.follow .l Try.func71 (by kernel_rfl) (by kernel_rfl) (by kernel_rfl) H

end Go.Proofs.Ytmppolccfjfoaaa

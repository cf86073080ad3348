/- Printed by wip/tools/gen.py: the condition of each function, and that a call meets it. -/
import Derived.Test.YtmppolccfjfoaaaVcFun
import Derived.Test.YtmppolccfjfoaaaProg
set_option maxRecDepth 100000
set_option linter.unusedVariables false
namespace Go.Proofs.Ytmppolccfjfoaaa
open Go.Vc

theorem Try.follow : Try.prog.follows .mixedOrders = true := by kernel_rfl

/-- palimpsest/palimpsestlaw09.EntryWords -/
def n3 (e0 w1 bits2 : Value) (R : Value → Heap → Prop) (h : Heap) : Prop :=
  Hp Try.prog false (Instr.box 24 e0) (fun e3 h_1 => 
    Hp Try.prog false (Instr.loadAt 24 e3) (fun t18 h_2 => 
      CallsH Try.prog 15 #[t18, bits2] h_2 (fun t20 h_3 => 
        Hp Try.prog false (Instr.loadAt 24 e3) (fun t22 h_4 => 
          CallsH Try.prog 16 #[t22, bits2] h_4 (fun t24 h_5 => 
            Hp Try.prog false (Instr.extract t24 0) (fun t25 h_6 => 
              Hp Try.prog false (Instr.extract t24 1) (fun t26 h_7 => 
                JoinN 0 (fun (k : Heap → Prop) h_8 =>
                  CondP t20 (
                    CallsH Try.prog 17 #[t25, bits2] h_8 (fun t31 h_9 => 
                      Hp Try.prog false (Instr.extract t31 0) (fun t32 h_10 => 
                        Hp Try.prog false (Instr.extract t31 1) (fun t33 h_11 => 
                          Hp Try.prog false (Instr.alloc 24 true undef) (fun y10 h_12 => 
                            Hp Try.prog false (storeS 24 y10 t32) (fun _ h_13 => 
                              Hp Try.prog false (Instr.loadAt 24 e3) (fun t34 h_14 => 
                                CallsH Try.prog 18 #[t34, bits2] h_14 (fun t36 h_15 => 
                                  Hp Try.prog false (binS .neq 27 (.tmp 36) (.const (.int .i64 0)) t36 (.int .i64 0)) (fun t37 h_16 => 
                                    Join1 (fun k_1 h_17 => guardP t37 false (k_1 t26 h_17) (k_1 undef h_17) ⟨⟩ ⟨⟩) (fun t39 h_18 =>
                                      Join1 (fun k_2 h_19 => guardP t37 false (Hp Try.prog false (binS .neq 27 (.tmp 39) (.const (.int .i64 0)) t39 (.int .i64 0)) k_2 h_19 ⟨⟩) (k_2 undef h_19) ⟨⟩ ⟨⟩) (fun t40 h_20 =>
                                        Hp Try.prog false (pickS t37 (.bool true) t40) (fun t41 h_21 => 
                                          Join1 (fun k_3 h_22 => guardP t41 false (k_3 t25 h_22) (k_3 undef h_22) ⟨⟩ ⟨⟩) (fun t43 h_23 =>
                                            Join1 (fun k_4 h_24 => guardP t41 false (Hp Try.prog false (Instr.loadAt 24 e3) k_4 h_24 ⟨⟩) (k_4 undef h_24) ⟨⟩ ⟨⟩) (fun t44 h_25 =>
                                              Join1 (fun k_5 h_26 => guardP t41 false (CallsH Try.prog 19 #[t44] h_26 k_5 ⟨⟩) (k_5 undef h_26) ⟨⟩ ⟨⟩) (fun t45 h_27 =>
                                                Join1 (fun k_6 h_28 => guardP t41 false (Hp Try.prog false (binS .neq 25 (.tmp 43) (.tmp 45) t43 t45) k_6 h_28 ⟨⟩) (k_6 undef h_28) ⟨⟩ ⟨⟩) (fun t46 h_29 =>
                                                  Hp Try.prog false (pickS t41 (.bool true) t46) (fun t47 h_30 => 
                                                    Join1 (fun k_7 h_31 => guardP t47 false (Hp Try.prog false (Instr.loadAt 24 y10) k_7 h_31 ⟨⟩) (k_7 undef h_31) ⟨⟩ ⟨⟩) (fun t49 h_32 =>
                                                      Join1 (fun k_8 h_33 => guardP t47 false (Hp Try.prog false (Instr.loadAt 24 e3) k_8 h_33 ⟨⟩) (k_8 undef h_33) ⟨⟩ ⟨⟩) (fun t50 h_34 =>
                                                        Join1 (fun k_9 h_35 => guardP t47 false (Hp Try.prog false (binS .neq 24 (.tmp 49) (.tmp 50) t49 t50) k_9 h_35 ⟨⟩) (k_9 undef h_35) ⟨⟩ ⟨⟩) (fun t51 h_36 =>
                                                          Hp Try.prog false (pickS t47 (.bool true) t51) (fun t52 h_37 => 
                                                            Join1 (fun k_10 h_38 => guardP t52 false (k_10 t33 h_38) (k_10 undef h_38) ⟨⟩ ⟨⟩) (fun t54 h_39 =>
                                                              Join1 (fun k_11 h_40 => guardP t52 false (Hp Try.prog false (binS .neq 27 (.tmp 54) (.const (.int .i64 0)) t54 (.int .i64 0)) k_11 h_40 ⟨⟩) (k_11 undef h_40) ⟨⟩ ⟨⟩) (fun t55 h_41 =>
                                                                Hp Try.prog false (pickS t52 (.bool true) t55) (fun t56 h_42 => 
                                                                  CondP t56 (
                                                                    R (.bool false) h_42) (
                                                                    k h_42) ⟨⟩ ⟨⟩) h_41 ⟨⟩) h_39 ⟨⟩ ⟨⟩) h_37 ⟨⟩ ⟨⟩) h_36 ⟨⟩) h_34 ⟨⟩ ⟨⟩) h_32 ⟨⟩ ⟨⟩) h_30 ⟨⟩ ⟨⟩) h_29 ⟨⟩) h_27 ⟨⟩ ⟨⟩) h_25 ⟨⟩ ⟨⟩) h_23 ⟨⟩ ⟨⟩) h_21 ⟨⟩ ⟨⟩) h_20 ⟨⟩) h_18 ⟨⟩ ⟨⟩) h_16 ⟨⟩ ⟨⟩) h_15 ⟨⟩) ⟨⟩) h_13 ⟨⟩) h_12 ⟨⟩) h_11 ⟨⟩) h_10 ⟨⟩) h_9 ⟨⟩) ⟨⟩) (
                    Hp Try.prog false (Instr.loadAt 24 e3) (fun t57 h_43 => 
                      CallsH Try.prog 18 #[t57, bits2] h_43 (fun t59 h_44 => 
                        Hp Try.prog false (binS .neq 27 (.tmp 59) (.const (.int .i64 2)) t59 (.int .i64 2)) (fun t60 h_45 => 
                          Join1 (fun k_12 h_46 => guardP t60 false (k_12 t25 h_46) (k_12 undef h_46) ⟨⟩ ⟨⟩) (fun t62 h_47 =>
                            Join1 (fun k_13 h_48 => guardP t60 false (Hp Try.prog false (binS .neq 25 (.tmp 62) (.const (.int .u64 0)) t62 (.int .u64 0)) k_13 h_48 ⟨⟩) (k_13 undef h_48) ⟨⟩ ⟨⟩) (fun t63 h_49 =>
                              Hp Try.prog false (pickS t60 (.bool true) t63) (fun t64 h_50 => 
                                Join1 (fun k_14 h_51 => guardP t64 false (k_14 t26 h_51) (k_14 undef h_51) ⟨⟩ ⟨⟩) (fun t66 h_52 =>
                                  Join1 (fun k_15 h_53 => guardP t64 false (Hp Try.prog false (binS .neq 27 (.tmp 66) (.const (.int .i64 2)) t66 (.int .i64 2)) k_15 h_53 ⟨⟩) (k_15 undef h_53) ⟨⟩ ⟨⟩) (fun t67 h_54 =>
                                    Hp Try.prog false (pickS t64 (.bool true) t67) (fun t68 h_55 => 
                                      CondP t68 (
                                        R (.bool false) h_55) (
                                        k h_55) ⟨⟩ ⟨⟩) h_54 ⟨⟩) h_52 ⟨⟩ ⟨⟩) h_50 ⟨⟩ ⟨⟩) h_49 ⟨⟩) h_47 ⟨⟩ ⟨⟩) h_45 ⟨⟩ ⟨⟩) h_44 ⟨⟩) ⟨⟩) h_8 ⟨⟩) ⟨⟩ ⟨⟩)
                  (fun h_56 =>
                  CallsH Try.prog 17 #[w1, bits2] h_56 (fun t72 h_57 => 
                    Hp Try.prog false (Instr.extract t72 0) (fun t73 h_58 => 
                      Hp Try.prog false (Instr.extract t72 1) (fun t74 h_59 => 
                        Hp Try.prog false (Instr.alloc 24 true undef) (fun y12 h_60 => 
                          Hp Try.prog false (storeS 24 y12 t73) (fun _ h_61 => 
                            CallsH Try.prog 20 #[bits2] h_61 (fun t76 h_62 => 
                              Hp Try.prog false (Op.unary .not t76) (fun t77 h_63 => 
                                CondP t77 (
                                  Hp Try.prog false (Instr.loadAt 24 y12) (fun t78 h_64 => 
                                    Hp Try.prog false (Instr.build 24 #[]) (fun t79 h_65 => 
                                      Hp Try.prog false (binS .eql 24 (.tmp 78) (.tmp 79) t78 t79) (fun t80 h_66 => 
                                        Join1 (fun k_16 h_67 => guardP t80 true (k_16 t74 h_67) (k_16 undef h_67) ⟨⟩ ⟨⟩) (fun t82 h_68 =>
                                          Join1 (fun k_17 h_69 => guardP t80 true (Hp Try.prog false (binS .eql 27 (.tmp 82) (.const (.int .i64 2)) t82 (.int .i64 2)) k_17 h_69 ⟨⟩) (k_17 undef h_69) ⟨⟩ ⟨⟩) (fun t83 h_70 =>
                                            Hp Try.prog false (pickS t80 t83 (.bool false)) (fun t84 h_71 => 
                                              Join1 (fun k_18 h_72 => guardP t84 true (CallsH Try.prog 21 #[] h_72 k_18 ⟨⟩) (k_18 undef h_72) ⟨⟩ ⟨⟩) (fun t86 h_73 =>
                                                Hp Try.prog false (pickS t84 t86 (.bool false)) (fun t87 h_74 => 
                                                  R t87 h_74) h_73 ⟨⟩) h_71 ⟨⟩ ⟨⟩) h_70 ⟨⟩) h_68 ⟨⟩ ⟨⟩) h_66 ⟨⟩ ⟨⟩) h_65 ⟨⟩) h_64 ⟨⟩) h_63 ⟨⟩) (
                                  CallsH Try.prog 22 #[w1, bits2] h_63 (fun t91 h_75 => 
                                    Hp Try.prog false (Instr.extract t91 0) (fun t92 h_76 => 
                                      Hp Try.prog false (Instr.extract t91 1) (fun t93 h_77 => 
                                        Hp Try.prog false (Instr.alloc 24 true undef) (fun want14 h_78 => 
                                          Hp Try.prog false (storeS 24 want14 t92) (fun _ h_79 => 
                                            Hp Try.prog false (Op.unary .not t93) (fun t95 h_80 => 
                                              CondP t95 (
                                                Hp Try.prog false (Instr.loadAt 24 y12) (fun t96 h_81 => 
                                                  Hp Try.prog false (Instr.build 24 #[]) (fun t97 h_82 => 
                                                    Hp Try.prog false (binS .eql 24 (.tmp 96) (.tmp 97) t96 t97) (fun t98 h_83 => 
                                                      Join1 (fun k_19 h_84 => guardP t98 true (k_19 t74 h_84) (k_19 undef h_84) ⟨⟩ ⟨⟩) (fun t100 h_85 =>
                                                        Join1 (fun k_20 h_86 => guardP t98 true (Hp Try.prog false (binS .eql 27 (.tmp 100) (.const (.int .i64 190)) t100 (.int .i64 190)) k_20 h_86 ⟨⟩) (k_20 undef h_86) ⟨⟩ ⟨⟩) (fun t101 h_87 =>
                                                          Hp Try.prog false (pickS t98 t101 (.bool false)) (fun t102 h_88 => 
                                                            Join1 (fun k_21 h_89 => guardP t102 true (CallsH Try.prog 21 #[] h_89 k_21 ⟨⟩) (k_21 undef h_89) ⟨⟩ ⟨⟩) (fun t104 h_90 =>
                                                              Hp Try.prog false (pickS t102 t104 (.bool false)) (fun t105 h_91 => 
                                                                R t105 h_91) h_90 ⟨⟩) h_88 ⟨⟩ ⟨⟩) h_87 ⟨⟩) h_85 ⟨⟩ ⟨⟩) h_83 ⟨⟩ ⟨⟩) h_82 ⟨⟩) h_81 ⟨⟩) h_80 ⟨⟩) (
                                                Hp Try.prog false (Instr.loadAt 24 y12) (fun t107 h_92 => 
                                                  CallsH Try.prog 16 #[t107, bits2] h_92 (fun t109 h_93 => 
                                                    Hp Try.prog false (Instr.extract t109 0) (fun t110 h_94 => 
                                                      Hp Try.prog false (Instr.extract t109 1) (fun t111 h_95 => 
                                                        Hp Try.prog false (Instr.loadAt 24 y12) (fun t112 h_96 => 
                                                          Hp Try.prog false (Instr.loadAt 24 want14) (fun t113 h_97 => 
                                                            Hp Try.prog false (binS .eql 24 (.tmp 112) (.tmp 113) t112 t113) (fun t114 h_98 => 
                                                              Join1 (fun k_22 h_99 => guardP t114 true (k_22 t74 h_99) (k_22 undef h_99) ⟨⟩ ⟨⟩) (fun t116 h_100 =>
                                                                Join1 (fun k_23 h_101 => guardP t114 true (Hp Try.prog false (binS .eql 27 (.tmp 116) (.const (.int .i64 0)) t116 (.int .i64 0)) k_23 h_101 ⟨⟩) (k_23 undef h_101) ⟨⟩ ⟨⟩) (fun t117 h_102 =>
                                                                  Hp Try.prog false (pickS t114 t117 (.bool false)) (fun t118 h_103 => 
                                                                    Join1 (fun k_24 h_104 => guardP t118 true (k_24 t110 h_104) (k_24 undef h_104) ⟨⟩ ⟨⟩) (fun t120 h_105 =>
                                                                      Join1 (fun k_25 h_106 => guardP t118 true (k_25 w1 h_106) (k_25 undef h_106) ⟨⟩ ⟨⟩) (fun t121 h_107 =>
                                                                        Join1 (fun k_26 h_108 => guardP t118 true (Hp Try.prog false (binS .eql 25 (.tmp 120) (.tmp 121) t120 t121) k_26 h_108 ⟨⟩) (k_26 undef h_108) ⟨⟩ ⟨⟩) (fun t122 h_109 =>
                                                                          Hp Try.prog false (pickS t118 t122 (.bool false)) (fun t123 h_110 => 
                                                                            Join1 (fun k_27 h_111 => guardP t123 true (k_27 t111 h_111) (k_27 undef h_111) ⟨⟩ ⟨⟩) (fun t125 h_112 =>
                                                                              Join1 (fun k_28 h_113 => guardP t123 true (Hp Try.prog false (binS .eql 27 (.tmp 125) (.const (.int .i64 0)) t125 (.int .i64 0)) k_28 h_113 ⟨⟩) (k_28 undef h_113) ⟨⟩ ⟨⟩) (fun t126 h_114 =>
                                                                                Hp Try.prog false (pickS t123 t126 (.bool false)) (fun t127 h_115 => 
                                                                                  Join1 (fun k_29 h_116 => guardP t127 true (CallsH Try.prog 21 #[] h_116 k_29 ⟨⟩) (k_29 undef h_116) ⟨⟩ ⟨⟩) (fun t129 h_117 =>
                                                                                    Hp Try.prog false (pickS t127 t129 (.bool false)) (fun t130 h_118 => 
                                                                                      R t130 h_118) h_117 ⟨⟩) h_115 ⟨⟩ ⟨⟩) h_114 ⟨⟩) h_112 ⟨⟩ ⟨⟩) h_110 ⟨⟩ ⟨⟩) h_109 ⟨⟩) h_107 ⟨⟩ ⟨⟩) h_105 ⟨⟩ ⟨⟩) h_103 ⟨⟩ ⟨⟩) h_102 ⟨⟩) h_100 ⟨⟩ ⟨⟩) h_98 ⟨⟩ ⟨⟩) h_97 ⟨⟩) h_96 ⟨⟩) h_95 ⟨⟩) h_94 ⟨⟩) h_93 ⟨⟩) ⟨⟩) h_80 ⟨⟩) ⟨⟩ ⟨⟩) h_79 ⟨⟩) h_78 ⟨⟩) h_77 ⟨⟩) h_76 ⟨⟩) h_75 ⟨⟩) ⟨⟩) ⟨⟩ ⟨⟩) h_62 ⟨⟩) ⟨⟩) h_60 ⟨⟩) h_59 ⟨⟩) h_58 ⟨⟩) h_57 ⟨⟩) ⟨⟩) h_7 ⟨⟩ ⟨⟩) h_6 ⟨⟩) h_5 ⟨⟩) ⟨⟩) h_3 ⟨⟩) ⟨⟩) h_1 ⟨⟩) h ⟨⟩

theorem n3_calls {e0 w1 bits2 : Value} {R : Value → Heap → Prop} {h : Heap} (H : n3 e0 w1 bits2 R h) : CallsH Try.prog 3 #[e0, w1, bits2] h R ⟨⟩ :=
  callsH_of_eq Try.follow (.n none .l (.n none .l (.n none .l (.n (some []) .l .l)))) Try.func3 (by kernel_rfl) (by kernel_rfl) (by kernel_rfl) H

/-- palimpsest/palimpsestref09.May -/
def n15 (e0 bits1 : Value) (R : Value → Heap → Prop) (h : Heap) : Prop :=
  Hp Try.prog false (Instr.box 24 e0) (fun e2 h_1 => 
    CallsH Try.prog 20 #[bits1] h_1 (fun t7 h_2 => 
      Hp Try.prog false (Op.unary .not t7) (fun t8 h_3 => 
        CondP t8 (
          R (.bool false) h_3) (
          CallsH Try.prog 64 #[bits1] h_3 (fun t10 h_4 => 
            Hp Try.prog false (Instr.fieldAt 24 e2 0) (fun t11 h_5 => 
              Hp Try.prog false (Instr.loadAt 22 t11) (fun t12 h_6 => 
                JoinN 1 (fun (k : Value → Heap → Prop) h_7 =>
                  Hp Try.prog false (binS .eql 3 (.tmp 12) (.const (.int .i64 0)) t12 (.int .i64 0)) (fun t14 h_8 => 
                    CondP t14 (
                      k t14 h_8) (
                      Hp Try.prog false (binS .eql 3 (.tmp 12) (.const (.int .i64 1)) t12 (.int .i64 1)) (fun t15 h_9 => 
                        k t15 h_9) h_8 ⟨⟩) ⟨⟩ ⟨⟩) h_7 ⟨⟩)
                  (fun t13 h_10 =>
                  CondP t13 (
                    Hp Try.prog false (Instr.fieldAt 24 e2 1) (fun t16 h_11 => 
                      Hp Try.prog false (Instr.loadAt 2 t16) (fun t17 h_12 => 
                        Hp Try.prog false (binS .eql 2 (.tmp 17) (.const (.int .i64 0)) t17 (.int .i64 0)) (fun t18 h_13 => 
                          Join1 (fun k_1 h_14 => guardP t18 true (Hp Try.prog false (Instr.fieldAt 24 e2 2) k_1 h_14 ⟨⟩) (k_1 undef h_14) ⟨⟩ ⟨⟩) (fun t20 h_15 =>
                            Join1 (fun k_2 h_16 => guardP t18 true (Hp Try.prog false (Instr.loadAt 3 t20) k_2 h_16 ⟨⟩) (k_2 undef h_16) ⟨⟩ ⟨⟩) (fun t21 h_17 =>
                              Join1 (fun k_3 h_18 => guardP t18 true (Hp Try.prog false (binS .eql 3 (.tmp 21) (.const (.int .i64 0)) t21 (.int .i64 0)) k_3 h_18 ⟨⟩) (k_3 undef h_18) ⟨⟩ ⟨⟩) (fun t22 h_19 =>
                                Hp Try.prog false (pickS t18 t22 (.bool false)) (fun t23 h_20 => 
                                  R t23 h_20) h_19 ⟨⟩) h_17 ⟨⟩ ⟨⟩) h_15 ⟨⟩ ⟨⟩) h_13 ⟨⟩ ⟨⟩) h_12 ⟨⟩) h_11 ⟨⟩) h_10 ⟨⟩) (
                    Hp Try.prog false (binS .eql 3 (.tmp 12) (.const (.int .i64 2)) t12 (.int .i64 2)) (fun t25 h_21 => 
                      CondP t25 (
                        Hp Try.prog false (Instr.fieldAt 24 e2 2) (fun t26 h_22 => 
                          Hp Try.prog false (Instr.loadAt 3 t26) (fun t27 h_23 => 
                            Hp Try.prog false (binS .eql 3 (.tmp 27) (.const (.int .i64 0)) t27 (.int .i64 0)) (fun t28 h_24 => 
                              Join1 (fun k_4 h_25 => guardP t28 true (Hp Try.prog false (Instr.fieldAt 24 e2 1) k_4 h_25 ⟨⟩) (k_4 undef h_25) ⟨⟩ ⟨⟩) (fun t30 h_26 =>
                                Join1 (fun k_5 h_27 => guardP t28 true (Hp Try.prog false (Instr.loadAt 2 t30) k_5 h_27 ⟨⟩) (k_5 undef h_27) ⟨⟩ ⟨⟩) (fun t31 h_28 =>
                                  Join1 (fun k_6 h_29 => guardP t28 true (k_6 bits1 h_29) (k_6 undef h_29) ⟨⟩ ⟨⟩) (fun t32 h_30 =>
                                    Join1 (fun k_7 h_31 => guardP t28 true (CallsH Try.prog 65 #[t31, t32] h_31 k_7 ⟨⟩) (k_7 undef h_31) ⟨⟩ ⟨⟩) (fun t33 h_32 =>
                                      Hp Try.prog false (pickS t28 t33 (.bool false)) (fun t34 h_33 => 
                                        R t34 h_33) h_32 ⟨⟩) h_30 ⟨⟩ ⟨⟩) h_28 ⟨⟩ ⟨⟩) h_26 ⟨⟩ ⟨⟩) h_24 ⟨⟩ ⟨⟩) h_23 ⟨⟩) h_22 ⟨⟩) h_21 ⟨⟩) (
                        Hp Try.prog false (binS .eql 3 (.tmp 12) (.const (.int .i64 3)) t12 (.int .i64 3)) (fun t36 h_34 => 
                          CondP t36 (
                            Hp Try.prog true (Instr.fieldAt 24 e2 2) (fun t37 h_35 => 
                              Hp Try.prog true (Instr.loadAt 3 t37) (fun t38 h_36 => 
                                Hp Try.prog true (binS .geq 3 (.tmp 38) (.const (.int .i64 1)) t38 (.int .i64 1)) (fun t39 h_37 => 
                                  Join1 (fun k_8 h_38 => guardP t39 true (Hp Try.prog true (Instr.fieldAt 24 e2 2) k_8 h_38 ⟨⟩) (k_8 undef h_38) ⟨⟩ ⟨⟩) (fun t41 h_39 =>
                                    Join1 (fun k_9 h_40 => guardP t39 true (Hp Try.prog true (Instr.loadAt 3 t41) k_9 h_40 ⟨⟩) (k_9 undef h_40) ⟨⟩ ⟨⟩) (fun t42 h_41 =>
                                      Join1 (fun k_10 h_42 => guardP t39 true (Hp Try.prog true (binS .leq 3 (.tmp 42) (.const (.int .i64 16383)) t42 (.int .i64 16383)) k_10 h_42 ⟨⟩) (k_10 undef h_42) ⟨⟩ ⟨⟩) (fun t43 h_43 =>
                                        Hp Try.prog true (pickS t39 t43 (.bool false)) (fun t44 h_44 => 
                                          Join1 (fun k_11 h_45 => guardP t44 true (Hp Try.prog true (Instr.fieldAt 24 e2 2) k_11 h_45 ⟨⟩) (k_11 undef h_45) ⟨⟩ ⟨⟩) (fun t46 h_46 =>
                                            Join1 (fun k_12 h_47 => guardP t44 true (Hp Try.prog true (Instr.loadAt 3 t46) k_12 h_47 ⟨⟩) (k_12 undef h_47) ⟨⟩ ⟨⟩) (fun t47 h_48 =>
                                              Join1 (fun k_13 h_49 => guardP t44 true (k_13 t10 h_49) (k_13 undef h_49) ⟨⟩ ⟨⟩) (fun t48 h_50 =>
                                                Join1 (fun k_14 h_51 => guardP t44 true (Hp Try.prog true (binS .lss 2 (.tmp 47) (.tmp 48) t47 t48) k_14 h_51 ⟨⟩) (k_14 undef h_51) ⟨⟩ ⟨⟩) (fun t49 h_52 =>
                                                  Hp Try.prog true (pickS t44 t49 (.bool false)) (fun t50 h_53 => 
                                                    Join1 (fun k_15 h_54 => guardP t50 true (Hp Try.prog true (Instr.fieldAt 24 e2 1) k_15 h_54 ⟨⟩) (k_15 undef h_54) ⟨⟩ ⟨⟩) (fun t52 h_55 =>
                                                      Join1 (fun k_16 h_56 => guardP t50 true (Hp Try.prog true (Instr.loadAt 2 t52) k_16 h_56 ⟨⟩) (k_16 undef h_56) ⟨⟩ ⟨⟩) (fun t53 h_57 =>
                                                        Join1 (fun k_17 h_58 => guardP t50 true (k_17 t10 h_58) (k_17 undef h_58) ⟨⟩ ⟨⟩) (fun t54 h_59 =>
                                                          Join1 (fun k_18 h_60 => guardP t50 true (Hp Try.prog true (binS .geq 2 (.tmp 53) (.tmp 54) t53 t54) k_18 h_60 ⟨⟩) (k_18 undef h_60) ⟨⟩ ⟨⟩) (fun t55 h_61 =>
                                                            Hp Try.prog true (pickS t50 t55 (.bool false)) (fun t56 h_62 => 
                                                              Join1 (fun k_19 h_63 => guardP t56 true (Hp Try.prog true (Instr.fieldAt 24 e2 1) k_19 h_63 ⟨⟩) (k_19 undef h_63) ⟨⟩ ⟨⟩) (fun t58 h_64 =>
                                                                Join1 (fun k_20 h_65 => guardP t56 true (Hp Try.prog true (Instr.loadAt 2 t58) k_20 h_65 ⟨⟩) (k_20 undef h_65) ⟨⟩ ⟨⟩) (fun t59 h_66 =>
                                                                  Join1 (fun k_21 h_67 => guardP t56 true (Hp Try.prog true (Instr.fieldAt 24 e2 2) k_21 h_67 ⟨⟩) (k_21 undef h_67) ⟨⟩ ⟨⟩) (fun t60 h_68 =>
                                                                    Join1 (fun k_22 h_69 => guardP t56 true (Hp Try.prog true (Instr.loadAt 3 t60) k_22 h_69 ⟨⟩) (k_22 undef h_69) ⟨⟩ ⟨⟩) (fun t61 h_70 =>
                                                                      Join1 (fun k_23 h_71 => guardP t56 true (Hp Try.prog true (binS .sub 2 (.const (.int .i64 268435456)) (.tmp 61) (.int .i64 268435456) t61) k_23 h_71 ⟨⟩) (k_23 undef h_71) ⟨⟩ ⟨⟩) (fun t62 h_72 =>
                                                                        Join1 (fun k_24 h_73 => guardP t56 true (Hp Try.prog true (binS .leq 2 (.tmp 59) (.tmp 62) t59 t62) k_24 h_73 ⟨⟩) (k_24 undef h_73) ⟨⟩ ⟨⟩) (fun t63 h_74 =>
                                                                          Hp Try.prog true (pickS t56 t63 (.bool false)) (fun t64 h_75 => 
                                                                            Join1 (fun k_25 h_76 => guardP t64 true (Hp Try.prog true (Instr.fieldAt 24 e2 1) k_25 h_76 ⟨⟩) (k_25 undef h_76) ⟨⟩ ⟨⟩) (fun t66 h_77 =>
                                                                              Join1 (fun k_26 h_78 => guardP t64 true (Hp Try.prog true (Instr.loadAt 2 t66) k_26 h_78 ⟨⟩) (k_26 undef h_78) ⟨⟩ ⟨⟩) (fun t67 h_79 =>
                                                                                Join1 (fun k_27 h_80 => guardP t64 true (k_27 t10 h_80) (k_27 undef h_80) ⟨⟩ ⟨⟩) (fun t68 h_81 =>
                                                                                  Join1 (fun k_28 h_82 => guardP t64 true (Hp Try.prog true (binS .rem 2 (.tmp 67) (.tmp 68) t67 t68) k_28 h_82 ⟨⟩) (k_28 undef h_82) ⟨⟩ ⟨⟩) (fun t69 h_83 =>
                                                                                    Join1 (fun k_29 h_84 => guardP t64 true (Hp Try.prog true (Instr.fieldAt 24 e2 2) k_29 h_84 ⟨⟩) (k_29 undef h_84) ⟨⟩ ⟨⟩) (fun t70 h_85 =>
                                                                                      Join1 (fun k_30 h_86 => guardP t64 true (Hp Try.prog true (Instr.loadAt 3 t70) k_30 h_86 ⟨⟩) (k_30 undef h_86) ⟨⟩ ⟨⟩) (fun t71 h_87 =>
                                                                                        Join1 (fun k_31 h_88 => guardP t64 true (Hp Try.prog true (binS .add 2 (.tmp 69) (.tmp 71) t69 t71) k_31 h_88 ⟨⟩) (k_31 undef h_88) ⟨⟩ ⟨⟩) (fun t72 h_89 =>
                                                                                          Join1 (fun k_32 h_90 => guardP t64 true (k_32 t10 h_90) (k_32 undef h_90) ⟨⟩ ⟨⟩) (fun t73 h_91 =>
                                                                                            Join1 (fun k_33 h_92 => guardP t64 true (Hp Try.prog true (binS .leq 2 (.tmp 72) (.tmp 73) t72 t73) k_33 h_92 ⟨⟩) (k_33 undef h_92) ⟨⟩ ⟨⟩) (fun t74 h_93 =>
                                                                                              Hp Try.prog true (pickS t64 t74 (.bool false)) (fun t75 h_94 => 
                                                                                                R t75 h_94) h_93 ⟨⟩) h_91 ⟨⟩ ⟨⟩) h_89 ⟨⟩ ⟨⟩) h_87 ⟨⟩ ⟨⟩) h_85 ⟨⟩ ⟨⟩) h_83 ⟨⟩ ⟨⟩) h_81 ⟨⟩ ⟨⟩) h_79 ⟨⟩ ⟨⟩) h_77 ⟨⟩ ⟨⟩) h_75 ⟨⟩ ⟨⟩) h_74 ⟨⟩) h_72 ⟨⟩ ⟨⟩) h_70 ⟨⟩ ⟨⟩) h_68 ⟨⟩ ⟨⟩) h_66 ⟨⟩ ⟨⟩) h_64 ⟨⟩ ⟨⟩) h_62 ⟨⟩ ⟨⟩) h_61 ⟨⟩) h_59 ⟨⟩ ⟨⟩) h_57 ⟨⟩ ⟨⟩) h_55 ⟨⟩ ⟨⟩) h_53 ⟨⟩ ⟨⟩) h_52 ⟨⟩) h_50 ⟨⟩ ⟨⟩) h_48 ⟨⟩ ⟨⟩) h_46 ⟨⟩ ⟨⟩) h_44 ⟨⟩ ⟨⟩) h_43 ⟨⟩) h_41 ⟨⟩ ⟨⟩) h_39 ⟨⟩ ⟨⟩) h_37 ⟨⟩ ⟨⟩) h_36 ⟨⟩) h_35 ⟨⟩) h_34 ⟨⟩) (
                            R (.bool false) h_34) ⟨⟩ ⟨⟩) h_21 ⟨⟩) ⟨⟩ ⟨⟩) h_10 ⟨⟩) ⟨⟩ ⟨⟩) h_6 ⟨⟩ ⟨⟩) h_5 ⟨⟩) h_4 ⟨⟩) ⟨⟩) ⟨⟩ ⟨⟩) h_2 ⟨⟩) ⟨⟩) h ⟨⟩

theorem n15_calls {e0 bits1 : Value} {R : Value → Heap → Prop} {h : Heap} (H : n15 e0 bits1 R h) : CallsH Try.prog 15 #[e0, bits1] h R ⟨⟩ :=
  callsH_of_eq Try.follow (.n none .l (.n none .l (.n none .l (.n none (.n none .l (.n none (.n (some [13]) .l .l) .l)) .l)))) Try.func15 (by kernel_rfl) (by kernel_rfl) (by kernel_rfl) H

/-- palimpsest/entry.Word -/
def n16 (e0 bits1 : Value) (R : Value → Heap → Prop) (h : Heap) : Prop :=
  Hp Try.prog false (Instr.box 24 e0) (fun e2 h_1 => 
    Hp Try.prog false (Instr.loadAt 24 e2) (fun t7 h_2 => 
      CallsH Try.prog 18 #[t7, bits1] h_2 (fun t9 h_3 => 
        Hp Try.prog false (binS .neq 27 (.tmp 9) (.const (.int .i64 0)) t9 (.int .i64 0)) (fun t10 h_4 => 
          CondP t10 (
            R (.tuple #[(.int .u64 0), (.int .i64 2)]) h_4) (
            Hp Try.prog false (Instr.fieldAt 24 e2 0) (fun t11 h_5 => 
              Hp Try.prog false (Instr.loadAt 22 t11) (fun t12 h_6 => 
                Hp Try.prog false (convert 22 25 t12) (fun t13 h_7 => 
                  JoinN 1 (fun (k : Value → Heap → Prop) h_8 =>
                    Hp Try.prog false (Instr.fieldAt 24 e2 0) (fun t14 h_9 => 
                      Hp Try.prog false (Instr.loadAt 22 t14) (fun t15 h_10 => 
                        JoinN 1 (fun (k_1 : Value → Heap → Prop) h_11 =>
                          Hp Try.prog false (binS .eql 22 (.tmp 15) (.const (.int .i64 2)) t15 (.int .i64 2)) (fun t17 h_12 => 
                            CondP t17 (
                              Hp Try.prog false (Instr.fieldAt 24 e2 1) (fun t19 h_13 => 
                                Hp Try.prog false (Instr.loadAt 2 t19) (fun t20 h_14 => 
                                  Hp Try.prog false (convert 2 25 t20) (fun t21 h_15 => 
                                    Hp Try.prog false (binS .or 25 (.tmp 18) (.tmp 21) t13 t21) (fun t22 h_16 => 
                                      k_1 t22 h_16) h_15 ⟨⟩) h_14 ⟨⟩) h_13 ⟨⟩) h_12 ⟨⟩) (
                              Hp Try.prog false (binS .eql 22 (.tmp 15) (.const (.int .i64 3)) t15 (.int .i64 3)) (fun t24 h_17 => 
                                CondP t24 (
                                  Hp Try.prog false (Instr.fieldAt 24 e2 2) (fun t26 h_18 => 
                                    Hp Try.prog false (Instr.loadAt 3 t26) (fun t27 h_19 => 
                                      Hp Try.prog false (convert 3 25 t27) (fun t28 h_20 => 
                                        Hp Try.prog false (binS .shl 25 (.tmp 28) (.const (.int .u64 2)) t28 (.int .u64 2)) (fun t29 h_21 => 
                                          Hp Try.prog false (Instr.fieldAt 24 e2 1) (fun t30 h_22 => 
                                            Hp Try.prog false (Instr.loadAt 2 t30) (fun t31 h_23 => 
                                              Hp Try.prog false (convert 2 25 t31) (fun t32 h_24 => 
                                                Hp Try.prog false (binS .shl 25 (.tmp 32) (.const (.int .u64 16)) t32 (.int .u64 16)) (fun t33 h_25 => 
                                                  Hp Try.prog false (binS .or 25 (.tmp 29) (.tmp 33) t29 t33) (fun t34 h_26 => 
                                                    Hp Try.prog false (binS .or 25 (.tmp 25) (.tmp 34) t13 t34) (fun t35 h_27 => 
                                                      k_1 t35 h_27) h_26 ⟨⟩) h_25 ⟨⟩) h_24 ⟨⟩) h_23 ⟨⟩) h_22 ⟨⟩) h_21 ⟨⟩) h_20 ⟨⟩) h_19 ⟨⟩) h_18 ⟨⟩) h_17 ⟨⟩) (
                                  k_1 t13 h_17) ⟨⟩ ⟨⟩) h_12 ⟨⟩) ⟨⟩ ⟨⟩) h_11 ⟨⟩)
                          (fun w6 h_28 =>
                          k w6 h_28) h_10 ⟨⟩ ⟨⟩) h_9 ⟨⟩) h_8 ⟨⟩)
                    (fun w6_1 h_29 =>
                    R (.tuple #[w6_1, (.int .i64 0)]) h_29) h_7 ⟨⟩ ⟨⟩) h_6 ⟨⟩) h_5 ⟨⟩) h_4 ⟨⟩) ⟨⟩ ⟨⟩) h_3 ⟨⟩) ⟨⟩) h_1 ⟨⟩) h ⟨⟩

theorem n16_calls {e0 bits1 : Value} {R : Value → Heap → Prop} {h : Heap} (H : n16 e0 bits1 R h) : CallsH Try.prog 16 #[e0, bits1] h R ⟨⟩ :=
  callsH_of_eq Try.follow (.n none .l (.n none .l (.n none .l (.n (some [6]) (.n none .l (.n (some [6]) .l .l)) .l)))) Try.func16 (by kernel_rfl) (by kernel_rfl) (by kernel_rfl) H

/-- palimpsest/entry.Of -/
def n17 (w0 bits1 : Value) (R : Value → Heap → Prop) (h : Heap) : Prop :=
  Hp Try.prog false (Instr.alloc 24 true undef) (fun t4 h_1 => 
    Hp Try.prog false (binS .lss 3 (.tmp 9) (.const (.int .i64 9)) bits1 (.int .i64 9)) (fun t10 h_2 => 
      Join1 (fun k h_3 => guardP t10 false (k bits1 h_3) (k undef h_3) ⟨⟩ ⟨⟩) (fun t12 h_4 =>
        Join1 (fun k_1 h_5 => guardP t10 false (Hp Try.prog false (binS .gtr 3 (.tmp 12) (.const (.int .i64 16)) t12 (.int .i64 16)) k_1 h_5 ⟨⟩) (k_1 undef h_5) ⟨⟩ ⟨⟩) (fun t13 h_6 =>
          Hp Try.prog false (pickS t10 (.bool true) t13) (fun t14 h_7 => 
            CondP t14 (
              Hp Try.prog false (Instr.build 24 #[]) (fun t15 h_8 => 
                Hp Try.prog false (storeS 24 t4 t15) (fun _ h_9 => 
                  Hp Try.prog true (loadCell 24 t4) (fun r _ =>
                    R (.tuple #[r, (.int .i64 2)]) h_9) h_9 ⟨⟩) h_8 ⟨⟩) h_7 ⟨⟩) (
              Hp Try.prog false (binS .and 25 (.tmp 16) (.const (.int .u64 3)) w0 (.int .u64 3)) (fun t17 h_10 => 
                Hp Try.prog false (convert 25 22 t17) (fun t18 h_11 => 
                  Hp Try.prog false (Instr.build 24 #[(0, t18)]) (fun t19 h_12 => 
                    Hp Try.prog false (Instr.alloc 24 true undef) (fun e6 h_13 => 
                      Hp Try.prog false (storeS 24 e6 t19) (fun _ h_14 => 
                        JoinN 0 (fun (k_2 : Heap → Prop) h_15 =>
                          Hp Try.prog false (Instr.fieldAt 24 e6 0) (fun t20 h_16 => 
                            Hp Try.prog false (Instr.loadAt 22 t20) (fun t21 h_17 => 
                              JoinN 0 (fun (k_3 : Heap → Prop) h_18 =>
                                Hp Try.prog false (binS .eql 22 (.tmp 21) (.const (.int .i64 2)) t21 (.int .i64 2)) (fun t23 h_19 => 
                                  CondP t23 (
                                    Hp Try.prog false (binS .andNot 25 (.tmp 24) (.const (.int .u64 3)) w0 (.int .u64 3)) (fun t25 h_20 => 
                                      Hp Try.prog false (convert 25 2 t25) (fun t26 h_21 => 
                                        Hp Try.prog false (Instr.fieldAt 24 e6 1) (fun t27 h_22 => 
                                          Hp Try.prog false (storeS 2 t27 t26) (fun _ h_23 => 
                                            k_3 h_23) h_22 ⟨⟩) h_21 ⟨⟩) h_20 ⟨⟩) h_19 ⟨⟩) (
                                    Hp Try.prog false (binS .eql 22 (.tmp 21) (.const (.int .i64 3)) t21 (.int .i64 3)) (fun t29 h_24 => 
                                      CondP t29 (
                                        Hp Try.prog false (binS .shr 25 (.tmp 30) (.const (.int .u64 16)) w0 (.int .u64 16)) (fun t31 h_25 => 
                                          Hp Try.prog false (convert 25 2 t31) (fun t32 h_26 => 
                                            Hp Try.prog false (binS .shr 25 (.tmp 33) (.const (.int .u64 2)) w0 (.int .u64 2)) (fun t34 h_27 => 
                                              Hp Try.prog false (binS .and 25 (.tmp 34) (.const (.int .u64 16383)) t34 (.int .u64 16383)) (fun t35 h_28 => 
                                                Hp Try.prog false (convert 25 3 t35) (fun t36 h_29 => 
                                                  Hp Try.prog false (Instr.fieldAt 24 e6 1) (fun t37 h_30 => 
                                                    Hp Try.prog false (storeS 2 t37 t32) (fun _ h_31 => 
                                                      Hp Try.prog false (Instr.fieldAt 24 e6 2) (fun t38 h_32 => 
                                                        Hp Try.prog false (storeS 3 t38 t36) (fun _ h_33 => 
                                                          k_3 h_33) h_32 ⟨⟩) h_31 ⟨⟩) h_30 ⟨⟩) h_29 ⟨⟩) h_28 ⟨⟩) h_27 ⟨⟩) h_26 ⟨⟩) h_25 ⟨⟩) h_24 ⟨⟩) (
                                        k_3 h_24) ⟨⟩ ⟨⟩) h_19 ⟨⟩) ⟨⟩ ⟨⟩) h_18 ⟨⟩)
                                (fun h_34 =>
                                k_2 h_34) h_17 ⟨⟩ ⟨⟩) h_16 ⟨⟩) h_15 ⟨⟩)
                          (fun h_35 =>
                          Hp Try.prog false (Instr.loadAt 24 e6) (fun t40 h_36 => 
                            CallsH Try.prog 16 #[t40, bits1] h_36 (fun t42 h_37 => 
                              Hp Try.prog false (Instr.extract t42 0) (fun t43 h_38 => 
                                Hp Try.prog false (Instr.extract t42 1) (fun t44 h_39 => 
                                  Hp Try.prog false (binS .neq 27 (.tmp 45) (.const (.int .i64 0)) t44 (.int .i64 0)) (fun t46 h_40 => 
                                    Join1 (fun k_4 h_41 => guardP t46 false (k_4 t43 h_41) (k_4 undef h_41) ⟨⟩ ⟨⟩) (fun t48 h_42 =>
                                      Join1 (fun k_5 h_43 => guardP t46 false (k_5 w0 h_43) (k_5 undef h_43) ⟨⟩ ⟨⟩) (fun t49 h_44 =>
                                        Join1 (fun k_6 h_45 => guardP t46 false (Hp Try.prog false (binS .neq 25 (.tmp 48) (.tmp 49) t48 t49) k_6 h_45 ⟨⟩) (k_6 undef h_45) ⟨⟩ ⟨⟩) (fun t50 h_46 =>
                                          Hp Try.prog false (pickS t46 (.bool true) t50) (fun t51 h_47 => 
                                            CondP t51 (
                                              Hp Try.prog false (Instr.build 24 #[]) (fun t52 h_48 => 
                                                Hp Try.prog false (storeS 24 t4 t52) (fun _ h_49 => 
                                                  Hp Try.prog true (loadCell 24 t4) (fun r_1 _ =>
                                                    R (.tuple #[r_1, (.int .i64 190)]) h_49) h_49 ⟨⟩) h_48 ⟨⟩) h_47 ⟨⟩) (
                                              Hp Try.prog false (Instr.loadAt 24 e6) (fun t53 h_50 => 
                                                Hp Try.prog false (storeS 24 t4 t53) (fun _ h_51 => 
                                                  Hp Try.prog true (loadCell 24 t4) (fun r_2 _ =>
                                                    R (.tuple #[r_2, (.int .i64 0)]) h_51) h_51 ⟨⟩) h_50 ⟨⟩) h_47 ⟨⟩) ⟨⟩ ⟨⟩) h_46 ⟨⟩) h_44 ⟨⟩ ⟨⟩) h_42 ⟨⟩ ⟨⟩) h_40 ⟨⟩ ⟨⟩) h_39 ⟨⟩) h_38 ⟨⟩) h_37 ⟨⟩) ⟨⟩) h_35 ⟨⟩) h_14 ⟨⟩ ⟨⟩) h_13 ⟨⟩) h_12 ⟨⟩) h_11 ⟨⟩) h_10 ⟨⟩) h_7 ⟨⟩) ⟨⟩ ⟨⟩) h_6 ⟨⟩) h_4 ⟨⟩ ⟨⟩) h_2 ⟨⟩ ⟨⟩) h_1 ⟨⟩) h ⟨⟩

theorem n17_calls {w0 bits1 : Value} {R : Value → Heap → Prop} {h : Heap} (H : n17 w0 bits1 R h) : CallsH Try.prog 17 #[w0, bits1] h R ⟨⟩ :=
  callsH_of_eq Try.follow (.n none .l (.n none .l (.n none .l (.n (some []) (.n none .l (.n (some []) .l .l)) .l)))) Try.func17 (by kernel_rfl) (by kernel_rfl) (by kernel_rfl) H

/-- palimpsest/entry.Check -/
def n18 (e0 bits1 : Value) (R : Value → Heap → Prop) (h : Heap) : Prop :=
  Hp Try.prog false (Instr.box 24 e0) (fun e2 h_1 => 
    Hp Try.prog false (binS .lss 3 (.tmp 7) (.const (.int .i64 9)) bits1 (.int .i64 9)) (fun t8 h_2 => 
      Join1 (fun k h_3 => guardP t8 false (k bits1 h_3) (k undef h_3) ⟨⟩ ⟨⟩) (fun t10 h_4 =>
        Join1 (fun k_1 h_5 => guardP t8 false (Hp Try.prog false (binS .gtr 3 (.tmp 10) (.const (.int .i64 16)) t10 (.int .i64 16)) k_1 h_5 ⟨⟩) (k_1 undef h_5) ⟨⟩ ⟨⟩) (fun t11 h_6 =>
          Hp Try.prog false (pickS t8 (.bool true) t11) (fun t12 h_7 => 
            CondP t12 (
              R (.int .i64 2) h_7) (
              Hp Try.prog false (binS .shl 2 (.const (.int .i64 1)) (.tmp 13) (.int .i64 1) bits1) (fun t14 h_8 => 
                JoinN 1 (fun (k_2 : Value → Heap → Prop) h_9 =>
                  Hp Try.prog false (Instr.fieldAt 24 e2 0) (fun t15 h_10 => 
                    Hp Try.prog false (Instr.loadAt 22 t15) (fun t16 h_11 => 
                      JoinN 1 (fun (k_3 : Value → Heap → Prop) h_12 =>
                        JoinN 0 (fun (k_4 : Heap → Prop) h_13 =>
                          JoinN 0 (fun (k_5 : Heap → Prop) h_14 =>
                            Hp Try.prog false (binS .eql 22 (.tmp 16) (.const (.int .i64 0)) t16 (.int .i64 0)) (fun t18 h_15 => 
                              CondP t18 (
                                k_5 h_15) (
                                Hp Try.prog false (binS .eql 22 (.tmp 16) (.const (.int .i64 1)) t16 (.int .i64 1)) (fun t20 h_16 => 
                                  CondP t20 (
                                    k_5 h_16) (
                                    Hp Try.prog false (binS .eql 22 (.tmp 16) (.const (.int .i64 2)) t16 (.int .i64 2)) (fun t22 h_17 => 
                                      CondP t22 (
                                        Hp Try.prog false (Instr.fieldAt 24 e2 2) (fun t30 h_18 => 
                                          Hp Try.prog false (Instr.loadAt 3 t30) (fun t31 h_19 => 
                                            Hp Try.prog false (binS .eql 3 (.tmp 31) (.const (.int .i64 0)) t31 (.int .i64 0)) (fun t32 h_20 => 
                                              Join1 (fun k_6 h_21 => guardP t32 true (Hp Try.prog false (Instr.fieldAt 24 e2 1) k_6 h_21 ⟨⟩) (k_6 undef h_21) ⟨⟩ ⟨⟩) (fun t34 h_22 =>
                                                Join1 (fun k_7 h_23 => guardP t32 true (Hp Try.prog false (Instr.loadAt 2 t34) k_7 h_23 ⟨⟩) (k_7 undef h_23) ⟨⟩ ⟨⟩) (fun t35 h_24 =>
                                                  Join1 (fun k_8 h_25 => guardP t32 true (Hp Try.prog false (binS .gtr 2 (.tmp 35) (.const (.int .i64 0)) t35 (.int .i64 0)) k_8 h_25 ⟨⟩) (k_8 undef h_25) ⟨⟩ ⟨⟩) (fun t36 h_26 =>
                                                    Hp Try.prog false (pickS t32 t36 (.bool false)) (fun t37 h_27 => 
                                                      Join1 (fun k_9 h_28 => guardP t37 true (Hp Try.prog false (Instr.fieldAt 24 e2 1) k_9 h_28 ⟨⟩) (k_9 undef h_28) ⟨⟩ ⟨⟩) (fun t39 h_29 =>
                                                        Join1 (fun k_10 h_30 => guardP t37 true (Hp Try.prog false (Instr.loadAt 2 t39) k_10 h_30 ⟨⟩) (k_10 undef h_30) ⟨⟩ ⟨⟩) (fun t40 h_31 =>
                                                          Join1 (fun k_11 h_32 => guardP t37 true (Hp Try.prog false (binS .leq 2 (.tmp 40) (.const (.int .i64 268435456)) t40 (.int .i64 268435456)) k_11 h_32 ⟨⟩) (k_11 undef h_32) ⟨⟩ ⟨⟩) (fun t41 h_33 =>
                                                            Hp Try.prog false (pickS t37 t41 (.bool false)) (fun t42 h_34 => 
                                                              Join1 (fun k_12 h_35 => guardP t42 true (Hp Try.prog false (Instr.fieldAt 24 e2 1) k_12 h_35 ⟨⟩) (k_12 undef h_35) ⟨⟩ ⟨⟩) (fun t44 h_36 =>
                                                                Join1 (fun k_13 h_37 => guardP t42 true (Hp Try.prog false (Instr.loadAt 2 t44) k_13 h_37 ⟨⟩) (k_13 undef h_37) ⟨⟩ ⟨⟩) (fun t45 h_38 =>
                                                                  Join1 (fun k_14 h_39 => guardP t42 true (k_14 t14 h_39) (k_14 undef h_39) ⟨⟩ ⟨⟩) (fun t46 h_40 =>
                                                                    Join1 (fun k_15 h_41 => guardP t42 true (Hp Try.prog false (binS .rem 2 (.tmp 45) (.tmp 46) t45 t46) k_15 h_41 ⟨⟩) (k_15 undef h_41) ⟨⟩ ⟨⟩) (fun t47 h_42 =>
                                                                      Join1 (fun k_16 h_43 => guardP t42 true (Hp Try.prog false (binS .eql 2 (.tmp 47) (.const (.int .i64 0)) t47 (.int .i64 0)) k_16 h_43 ⟨⟩) (k_16 undef h_43) ⟨⟩ ⟨⟩) (fun t48 h_44 =>
                                                                        Hp Try.prog false (pickS t42 t48 (.bool false)) (fun t49 h_45 => 
                                                                          k_3 t49 h_45) h_44 ⟨⟩) h_42 ⟨⟩ ⟨⟩) h_40 ⟨⟩ ⟨⟩) h_38 ⟨⟩ ⟨⟩) h_36 ⟨⟩ ⟨⟩) h_34 ⟨⟩ ⟨⟩) h_33 ⟨⟩) h_31 ⟨⟩ ⟨⟩) h_29 ⟨⟩ ⟨⟩) h_27 ⟨⟩ ⟨⟩) h_26 ⟨⟩) h_24 ⟨⟩ ⟨⟩) h_22 ⟨⟩ ⟨⟩) h_20 ⟨⟩ ⟨⟩) h_19 ⟨⟩) h_18 ⟨⟩) h_17 ⟨⟩) (
                                        Hp Try.prog false (binS .eql 22 (.tmp 16) (.const (.int .i64 3)) t16 (.int .i64 3)) (fun t24 h_46 => 
                                          CondP t24 (
                                            Hp Try.prog true (Instr.fieldAt 24 e2 2) (fun t50 h_47 => 
                                              Hp Try.prog true (Instr.loadAt 3 t50) (fun t51 h_48 => 
                                                Hp Try.prog true (binS .geq 3 (.tmp 51) (.const (.int .i64 1)) t51 (.int .i64 1)) (fun t52 h_49 => 
                                                  Join1 (fun k_17 h_50 => guardP t52 true (Hp Try.prog true (Instr.fieldAt 24 e2 2) k_17 h_50 ⟨⟩) (k_17 undef h_50) ⟨⟩ ⟨⟩) (fun t54 h_51 =>
                                                    Join1 (fun k_18 h_52 => guardP t52 true (Hp Try.prog true (Instr.loadAt 3 t54) k_18 h_52 ⟨⟩) (k_18 undef h_52) ⟨⟩ ⟨⟩) (fun t55 h_53 =>
                                                      Join1 (fun k_19 h_54 => guardP t52 true (k_19 t14 h_54) (k_19 undef h_54) ⟨⟩ ⟨⟩) (fun t56 h_55 =>
                                                        Join1 (fun k_20 h_56 => guardP t52 true (Hp Try.prog true (binS .lss 2 (.tmp 55) (.tmp 56) t55 t56) k_20 h_56 ⟨⟩) (k_20 undef h_56) ⟨⟩ ⟨⟩) (fun t57 h_57 =>
                                                          Hp Try.prog true (pickS t52 t57 (.bool false)) (fun t58 h_58 => 
                                                            Join1 (fun k_21 h_59 => guardP t58 true (Hp Try.prog true (Instr.fieldAt 24 e2 2) k_21 h_59 ⟨⟩) (k_21 undef h_59) ⟨⟩ ⟨⟩) (fun t60 h_60 =>
                                                              Join1 (fun k_22 h_61 => guardP t58 true (Hp Try.prog true (Instr.loadAt 3 t60) k_22 h_61 ⟨⟩) (k_22 undef h_61) ⟨⟩ ⟨⟩) (fun t61 h_62 =>
                                                                Join1 (fun k_23 h_63 => guardP t58 true (Hp Try.prog true (binS .leq 3 (.tmp 61) (.const (.int .i64 16383)) t61 (.int .i64 16383)) k_23 h_63 ⟨⟩) (k_23 undef h_63) ⟨⟩ ⟨⟩) (fun t62 h_64 =>
                                                                  Hp Try.prog true (pickS t58 t62 (.bool false)) (fun t63 h_65 => 
                                                                    Join1 (fun k_24 h_66 => guardP t63 true (Hp Try.prog true (Instr.fieldAt 24 e2 1) k_24 h_66 ⟨⟩) (k_24 undef h_66) ⟨⟩ ⟨⟩) (fun t65 h_67 =>
                                                                      Join1 (fun k_25 h_68 => guardP t63 true (Hp Try.prog true (Instr.loadAt 2 t65) k_25 h_68 ⟨⟩) (k_25 undef h_68) ⟨⟩ ⟨⟩) (fun t66 h_69 =>
                                                                        Join1 (fun k_26 h_70 => guardP t63 true (k_26 t14 h_70) (k_26 undef h_70) ⟨⟩ ⟨⟩) (fun t67 h_71 =>
                                                                          Join1 (fun k_27 h_72 => guardP t63 true (Hp Try.prog true (binS .geq 2 (.tmp 66) (.tmp 67) t66 t67) k_27 h_72 ⟨⟩) (k_27 undef h_72) ⟨⟩ ⟨⟩) (fun t68 h_73 =>
                                                                            Hp Try.prog true (pickS t63 t68 (.bool false)) (fun t69 h_74 => 
                                                                              Join1 (fun k_28 h_75 => guardP t69 true (Hp Try.prog true (Instr.fieldAt 24 e2 1) k_28 h_75 ⟨⟩) (k_28 undef h_75) ⟨⟩ ⟨⟩) (fun t71 h_76 =>
                                                                                Join1 (fun k_29 h_77 => guardP t69 true (Hp Try.prog true (Instr.loadAt 2 t71) k_29 h_77 ⟨⟩) (k_29 undef h_77) ⟨⟩ ⟨⟩) (fun t72 h_78 =>
                                                                                  Join1 (fun k_30 h_79 => guardP t69 true (Hp Try.prog true (Instr.fieldAt 24 e2 2) k_30 h_79 ⟨⟩) (k_30 undef h_79) ⟨⟩ ⟨⟩) (fun t73 h_80 =>
                                                                                    Join1 (fun k_31 h_81 => guardP t69 true (Hp Try.prog true (Instr.loadAt 3 t73) k_31 h_81 ⟨⟩) (k_31 undef h_81) ⟨⟩ ⟨⟩) (fun t74 h_82 =>
                                                                                      Join1 (fun k_32 h_83 => guardP t69 true (Hp Try.prog true (binS .sub 2 (.const (.int .i64 268435456)) (.tmp 74) (.int .i64 268435456) t74) k_32 h_83 ⟨⟩) (k_32 undef h_83) ⟨⟩ ⟨⟩) (fun t75 h_84 =>
                                                                                        Join1 (fun k_33 h_85 => guardP t69 true (Hp Try.prog true (binS .leq 2 (.tmp 72) (.tmp 75) t72 t75) k_33 h_85 ⟨⟩) (k_33 undef h_85) ⟨⟩ ⟨⟩) (fun t76 h_86 =>
                                                                                          Hp Try.prog true (pickS t69 t76 (.bool false)) (fun t77 h_87 => 
                                                                                            Join1 (fun k_34 h_88 => guardP t77 true (Hp Try.prog true (Instr.fieldAt 24 e2 1) k_34 h_88 ⟨⟩) (k_34 undef h_88) ⟨⟩ ⟨⟩) (fun t79 h_89 =>
                                                                                              Join1 (fun k_35 h_90 => guardP t77 true (Hp Try.prog true (Instr.loadAt 2 t79) k_35 h_90 ⟨⟩) (k_35 undef h_90) ⟨⟩ ⟨⟩) (fun t80 h_91 =>
                                                                                                Join1 (fun k_36 h_92 => guardP t77 true (k_36 t14 h_92) (k_36 undef h_92) ⟨⟩ ⟨⟩) (fun t81 h_93 =>
                                                                                                  Join1 (fun k_37 h_94 => guardP t77 true (Hp Try.prog true (binS .quo 2 (.tmp 80) (.tmp 81) t80 t81) k_37 h_94 ⟨⟩) (k_37 undef h_94) ⟨⟩ ⟨⟩) (fun t82 h_95 =>
                                                                                                    Join1 (fun k_38 h_96 => guardP t77 true (Hp Try.prog true (Instr.fieldAt 24 e2 1) k_38 h_96 ⟨⟩) (k_38 undef h_96) ⟨⟩ ⟨⟩) (fun t83 h_97 =>
                                                                                                      Join1 (fun k_39 h_98 => guardP t77 true (Hp Try.prog true (Instr.loadAt 2 t83) k_39 h_98 ⟨⟩) (k_39 undef h_98) ⟨⟩ ⟨⟩) (fun t84 h_99 =>
                                                                                                        Join1 (fun k_40 h_100 => guardP t77 true (Hp Try.prog true (Instr.fieldAt 24 e2 2) k_40 h_100 ⟨⟩) (k_40 undef h_100) ⟨⟩ ⟨⟩) (fun t85 h_101 =>
                                                                                                          Join1 (fun k_41 h_102 => guardP t77 true (Hp Try.prog true (Instr.loadAt 3 t85) k_41 h_102 ⟨⟩) (k_41 undef h_102) ⟨⟩ ⟨⟩) (fun t86 h_103 =>
                                                                                                            Join1 (fun k_42 h_104 => guardP t77 true (Hp Try.prog true (binS .add 2 (.tmp 84) (.tmp 86) t84 t86) k_42 h_104 ⟨⟩) (k_42 undef h_104) ⟨⟩ ⟨⟩) (fun t87 h_105 =>
                                                                                                              Join1 (fun k_43 h_106 => guardP t77 true (Hp Try.prog true (binS .sub 2 (.tmp 87) (.const (.int .i64 1)) t87 (.int .i64 1)) k_43 h_106 ⟨⟩) (k_43 undef h_106) ⟨⟩ ⟨⟩) (fun t88 h_107 =>
                                                                                                                Join1 (fun k_44 h_108 => guardP t77 true (k_44 t14 h_108) (k_44 undef h_108) ⟨⟩ ⟨⟩) (fun t89 h_109 =>
                                                                                                                  Join1 (fun k_45 h_110 => guardP t77 true (Hp Try.prog true (binS .quo 2 (.tmp 88) (.tmp 89) t88 t89) k_45 h_110 ⟨⟩) (k_45 undef h_110) ⟨⟩ ⟨⟩) (fun t90 h_111 =>
                                                                                                                    Join1 (fun k_46 h_112 => guardP t77 true (Hp Try.prog true (binS .eql 2 (.tmp 82) (.tmp 90) t82 t90) k_46 h_112 ⟨⟩) (k_46 undef h_112) ⟨⟩ ⟨⟩) (fun t91 h_113 =>
                                                                                                                      Hp Try.prog true (pickS t77 t91 (.bool false)) (fun t92 h_114 => 
                                                                                                                        k_3 t92 h_114) h_113 ⟨⟩) h_111 ⟨⟩ ⟨⟩) h_109 ⟨⟩ ⟨⟩) h_107 ⟨⟩ ⟨⟩) h_105 ⟨⟩ ⟨⟩) h_103 ⟨⟩ ⟨⟩) h_101 ⟨⟩ ⟨⟩) h_99 ⟨⟩ ⟨⟩) h_97 ⟨⟩ ⟨⟩) h_95 ⟨⟩ ⟨⟩) h_93 ⟨⟩ ⟨⟩) h_91 ⟨⟩ ⟨⟩) h_89 ⟨⟩ ⟨⟩) h_87 ⟨⟩ ⟨⟩) h_86 ⟨⟩) h_84 ⟨⟩ ⟨⟩) h_82 ⟨⟩ ⟨⟩) h_80 ⟨⟩ ⟨⟩) h_78 ⟨⟩ ⟨⟩) h_76 ⟨⟩ ⟨⟩) h_74 ⟨⟩ ⟨⟩) h_73 ⟨⟩) h_71 ⟨⟩ ⟨⟩) h_69 ⟨⟩ ⟨⟩) h_67 ⟨⟩ ⟨⟩) h_65 ⟨⟩ ⟨⟩) h_64 ⟨⟩) h_62 ⟨⟩ ⟨⟩) h_60 ⟨⟩ ⟨⟩) h_58 ⟨⟩ ⟨⟩) h_57 ⟨⟩) h_55 ⟨⟩ ⟨⟩) h_53 ⟨⟩ ⟨⟩) h_51 ⟨⟩ ⟨⟩) h_49 ⟨⟩ ⟨⟩) h_48 ⟨⟩) h_47 ⟨⟩) h_46 ⟨⟩) (
                                            k_3 (.bool false) h_46) ⟨⟩ ⟨⟩) h_17 ⟨⟩) ⟨⟩ ⟨⟩) h_16 ⟨⟩) ⟨⟩ ⟨⟩) h_15 ⟨⟩) ⟨⟩ ⟨⟩) h_14 ⟨⟩)
                            (fun h_115 =>
                            k_4 h_115) h_13 ⟨⟩ ⟨⟩)
                          (fun h_116 =>
                          Hp Try.prog false (Instr.loadAt 24 e2) (fun t25 h_117 => 
                            Hp Try.prog false (Instr.fieldAt 24 e2 0) (fun t26 h_118 => 
                              Hp Try.prog false (Instr.loadAt 22 t26) (fun t27 h_119 => 
                                Hp Try.prog false (Instr.build 24 #[(0, t27)]) (fun t28 h_120 => 
                                  Hp Try.prog false (binS .eql 24 (.tmp 25) (.tmp 28) t25 t28) (fun t29 h_121 => 
                                    k_3 t29 h_121) h_120 ⟨⟩) h_119 ⟨⟩) h_118 ⟨⟩) h_117 ⟨⟩) h_116 ⟨⟩) h_12 ⟨⟩ ⟨⟩)
                        (fun ok6 h_122 =>
                        k_2 ok6 h_122) h_11 ⟨⟩ ⟨⟩) h_10 ⟨⟩) h_9 ⟨⟩)
                  (fun ok6_1 h_123 =>
                  Hp Try.prog false (Op.unary .not ok6_1) (fun t94 h_124 => 
                    CondP t94 (
                      R (.int .i64 2) h_124) (
                      R (.int .i64 0) h_124) ⟨⟩ ⟨⟩) h_123 ⟨⟩) h_8 ⟨⟩ ⟨⟩) h_7 ⟨⟩) ⟨⟩ ⟨⟩) h_6 ⟨⟩) h_4 ⟨⟩ ⟨⟩) h_2 ⟨⟩ ⟨⟩) h_1 ⟨⟩) h ⟨⟩

theorem n18_calls {e0 bits1 : Value} {R : Value → Heap → Prop} {h : Heap} (H : n18 e0 bits1 R h) : CallsH Try.prog 18 #[e0, bits1] h R ⟨⟩ :=
  callsH_of_eq Try.follow (.n none .l (.n none .l (.n none .l (.n none .l (.n (some [6]) (.n none .l (.n (some [6]) (.n none (.n none (.n none (.n none (.n (some []) (.n (some []) .l .l) .l) .l) .l) .l) .l) .l)) .l))))) Try.func18 (by kernel_rfl) (by kernel_rfl) (by kernel_rfl) H

/-- palimpsest/palimpsestref09.Word -/
def n19 (e0 : Value) (R : Value → Heap → Prop) (h : Heap) : Prop :=
  Hp Try.prog false (Instr.box 24 e0) (fun e1 h_1 => 
    Hp Try.prog false (Instr.fieldAt 24 e1 0) (fun t3 h_2 => 
      Hp Try.prog false (Instr.loadAt 22 t3) (fun t4 h_3 => 
        Hp Try.prog false (binS .eql 3 (.tmp 4) (.const (.int .i64 2)) t4 (.int .i64 2)) (fun t5 h_4 => 
          CondP t5 (
            Hp Try.prog false (Instr.fieldAt 24 e1 1) (fun t6 h_5 => 
              Hp Try.prog false (Instr.loadAt 2 t6) (fun t7 h_6 => 
                Hp Try.prog false (convert 2 25 t7) (fun t8 h_7 => 
                  Hp Try.prog false (binS .add 25 (.tmp 8) (.const (.int .u64 2)) t8 (.int .u64 2)) (fun t9 h_8 => 
                    R t9 h_8) h_7 ⟨⟩) h_6 ⟨⟩) h_5 ⟨⟩) h_4 ⟨⟩) (
            Hp Try.prog false (Instr.fieldAt 24 e1 1) (fun t10 h_9 => 
              Hp Try.prog false (Instr.loadAt 2 t10) (fun t11 h_10 => 
                Hp Try.prog false (convert 2 25 t11) (fun t12 h_11 => 
                  Hp Try.prog false (binS .mul 25 (.tmp 12) (.const (.int .u64 65536)) t12 (.int .u64 65536)) (fun t13 h_12 => 
                    Hp Try.prog false (Instr.fieldAt 24 e1 2) (fun t14 h_13 => 
                      Hp Try.prog false (Instr.loadAt 3 t14) (fun t15 h_14 => 
                        Hp Try.prog false (convert 3 25 t15) (fun t16 h_15 => 
                          Hp Try.prog false (binS .mul 25 (.const (.int .u64 4)) (.tmp 16) (.int .u64 4) t16) (fun t17 h_16 => 
                            Hp Try.prog false (binS .add 25 (.tmp 13) (.tmp 17) t13 t17) (fun t18 h_17 => 
                              Hp Try.prog false (Instr.fieldAt 24 e1 0) (fun t19 h_18 => 
                                Hp Try.prog false (Instr.loadAt 22 t19) (fun t20 h_19 => 
                                  Hp Try.prog false (convert 22 25 t20) (fun t21 h_20 => 
                                    Hp Try.prog false (binS .add 25 (.tmp 18) (.tmp 21) t18 t21) (fun t22 h_21 => 
                                      R t22 h_21) h_20 ⟨⟩) h_19 ⟨⟩) h_18 ⟨⟩) h_17 ⟨⟩) h_16 ⟨⟩) h_15 ⟨⟩) h_14 ⟨⟩) h_13 ⟨⟩) h_12 ⟨⟩) h_11 ⟨⟩) h_10 ⟨⟩) h_9 ⟨⟩) h_4 ⟨⟩) ⟨⟩ ⟨⟩) h_3 ⟨⟩) h_2 ⟨⟩) h_1 ⟨⟩) h ⟨⟩

theorem n19_calls {e0 : Value} {R : Value → Heap → Prop} {h : Heap} (H : n19 e0 R h) : CallsH Try.prog 19 #[e0] h R ⟨⟩ :=
  callsH_of_eq Try.follow .l Try.func19 (by kernel_rfl) (by kernel_rfl) (by kernel_rfl) H

/-- palimpsest/palimpsestref09.Bits -/
def n20 (bits0 : Value) (R : Value → Heap → Prop) (h : Heap) : Prop :=
  Hp Try.prog false (binS .geq 3 (.tmp 3) (.const (.int .i64 9)) bits0 (.int .i64 9)) (fun t4 h_1 => 
    Join1 (fun k h_2 => guardP t4 true (k bits0 h_2) (k undef h_2) ⟨⟩ ⟨⟩) (fun t6 h_3 =>
      Join1 (fun k_1 h_4 => guardP t4 true (Hp Try.prog false (binS .leq 3 (.tmp 6) (.const (.int .i64 16)) t6 (.int .i64 16)) k_1 h_4 ⟨⟩) (k_1 undef h_4) ⟨⟩ ⟨⟩) (fun t7 h_5 =>
        Hp Try.prog false (pickS t4 t7 (.bool false)) (fun t8 h_6 => 
          R t8 h_6) h_5 ⟨⟩) h_3 ⟨⟩ ⟨⟩) h_1 ⟨⟩ ⟨⟩) h ⟨⟩

theorem n20_calls {bits0 : Value} {R : Value → Heap → Prop} {h : Heap} (H : n20 bits0 R h) : CallsH Try.prog 20 #[bits0] h R ⟨⟩ :=
  callsH_of_eq Try.follow .l Try.func20 (by kernel_rfl) (by kernel_rfl) (by kernel_rfl) H

/-- palimpsest/palimpsestlaw09.known -/
def n21 (R : Value → Heap → Prop) (h : Heap) : Prop :=
  Hp Try.prog false (Instr.build 24 #[(0, (.int .i64 2)), (1, (.int .i64 1024))]) (fun t10 h_1 => 
    CallsH Try.prog 16 #[t10, (.int .i64 9)] h_1 (fun t11 h_2 => 
      Hp Try.prog false (Instr.extract t11 0) (fun t12 h_3 => 
        Hp Try.prog false (Instr.extract t11 1) (fun t13 h_4 => 
          Hp Try.prog false (Instr.build 24 #[(0, (.int .i64 3)), (1, (.int .i64 1030)), (2, (.int .i64 5))]) (fun t15 h_5 => 
            CallsH Try.prog 16 #[t15, (.int .i64 9)] h_5 (fun t16 h_6 => 
              Hp Try.prog false (Instr.extract t16 0) (fun t17 h_7 => 
                Hp Try.prog false (Instr.extract t16 1) (fun t18 h_8 => 
                  CallsH Try.prog 17 #[(.int .u64 1026), (.int .i64 9)] h_8 (fun t20 h_9 => 
                    Hp Try.prog false (Instr.extract t20 0) (fun t21 h_10 => 
                      Hp Try.prog false (Instr.extract t20 1) (fun t22 h_11 => 
                        Hp Try.prog false (Instr.alloc 24 true undef) (fun x5 h_12 => 
                          Hp Try.prog false (storeS 24 x5 t21) (fun _ h_13 => 
                            CallsH Try.prog 17 #[(.int .u64 1027), (.int .i64 9)] h_13 (fun t24 h_14 => 
                              Hp Try.prog false (Instr.extract t24 0) (fun t25 h_15 => 
                                Hp Try.prog false (Instr.extract t24 1) (fun t26 h_16 => 
                                  Hp Try.prog false (Instr.alloc 24 true undef) (fun t7 h_17 => 
                                    Hp Try.prog false (storeS 24 t7 t25) (fun _ h_18 => 
                                      Hp Try.prog false (binS .eql 25 (.tmp 27) (.const (.int .u64 1026)) t12 (.int .u64 1026)) (fun t28 h_19 => 
                                        Join1 (fun k h_20 => guardP t28 true (k t13 h_20) (k undef h_20) ⟨⟩ ⟨⟩) (fun t30 h_21 =>
                                          Join1 (fun k_1 h_22 => guardP t28 true (Hp Try.prog false (binS .eql 27 (.tmp 30) (.const (.int .i64 0)) t30 (.int .i64 0)) k_1 h_22 ⟨⟩) (k_1 undef h_22) ⟨⟩ ⟨⟩) (fun t31 h_23 =>
                                            Hp Try.prog false (pickS t28 t31 (.bool false)) (fun t32 h_24 => 
                                              Join1 (fun k_2 h_25 => guardP t32 true (k_2 t17 h_25) (k_2 undef h_25) ⟨⟩ ⟨⟩) (fun t34 h_26 =>
                                                Join1 (fun k_3 h_27 => guardP t32 true (Hp Try.prog false (binS .eql 25 (.tmp 34) (.const (.int .u64 67502103)) t34 (.int .u64 67502103)) k_3 h_27 ⟨⟩) (k_3 undef h_27) ⟨⟩ ⟨⟩) (fun t35 h_28 =>
                                                  Hp Try.prog false (pickS t32 t35 (.bool false)) (fun t36 h_29 => 
                                                    Join1 (fun k_4 h_30 => guardP t36 true (k_4 t18 h_30) (k_4 undef h_30) ⟨⟩ ⟨⟩) (fun t38 h_31 =>
                                                      Join1 (fun k_5 h_32 => guardP t36 true (Hp Try.prog false (binS .eql 27 (.tmp 38) (.const (.int .i64 0)) t38 (.int .i64 0)) k_5 h_32 ⟨⟩) (k_5 undef h_32) ⟨⟩ ⟨⟩) (fun t39 h_33 =>
                                                        Hp Try.prog false (pickS t36 t39 (.bool false)) (fun t40 h_34 => 
                                                          Join1 (fun k_6 h_35 => guardP t40 true (Hp Try.prog false (Instr.loadAt 24 x5) k_6 h_35 ⟨⟩) (k_6 undef h_35) ⟨⟩ ⟨⟩) (fun t42 h_36 =>
                                                            Join1 (fun k_7 h_37 => guardP t40 true (Hp Try.prog false (Instr.build 24 #[(0, (.int .i64 2)), (1, (.int .i64 1024))]) k_7 h_37 ⟨⟩) (k_7 undef h_37) ⟨⟩ ⟨⟩) (fun t43 h_38 =>
                                                              Join1 (fun k_8 h_39 => guardP t40 true (Hp Try.prog false (binS .eql 24 (.tmp 42) (.tmp 43) t42 t43) k_8 h_39 ⟨⟩) (k_8 undef h_39) ⟨⟩ ⟨⟩) (fun t44 h_40 =>
                                                                Hp Try.prog false (pickS t40 t44 (.bool false)) (fun t45 h_41 => 
                                                                  Join1 (fun k_9 h_42 => guardP t45 true (k_9 t22 h_42) (k_9 undef h_42) ⟨⟩ ⟨⟩) (fun t47 h_43 =>
                                                                    Join1 (fun k_10 h_44 => guardP t45 true (Hp Try.prog false (binS .eql 27 (.tmp 47) (.const (.int .i64 0)) t47 (.int .i64 0)) k_10 h_44 ⟨⟩) (k_10 undef h_44) ⟨⟩ ⟨⟩) (fun t48 h_45 =>
                                                                      Hp Try.prog false (pickS t45 t48 (.bool false)) (fun t49 h_46 => 
                                                                        Join1 (fun k_11 h_47 => guardP t49 true (k_11 t26 h_47) (k_11 undef h_47) ⟨⟩ ⟨⟩) (fun t51 h_48 =>
                                                                          Join1 (fun k_12 h_49 => guardP t49 true (Hp Try.prog false (binS .eql 27 (.tmp 51) (.const (.int .i64 190)) t51 (.int .i64 190)) k_12 h_49 ⟨⟩) (k_12 undef h_49) ⟨⟩ ⟨⟩) (fun t52 h_50 =>
                                                                            Hp Try.prog false (pickS t49 t52 (.bool false)) (fun t53 h_51 => 
                                                                              R t53 h_51) h_50 ⟨⟩) h_48 ⟨⟩ ⟨⟩) h_46 ⟨⟩ ⟨⟩) h_45 ⟨⟩) h_43 ⟨⟩ ⟨⟩) h_41 ⟨⟩ ⟨⟩) h_40 ⟨⟩) h_38 ⟨⟩ ⟨⟩) h_36 ⟨⟩ ⟨⟩) h_34 ⟨⟩ ⟨⟩) h_33 ⟨⟩) h_31 ⟨⟩ ⟨⟩) h_29 ⟨⟩ ⟨⟩) h_28 ⟨⟩) h_26 ⟨⟩ ⟨⟩) h_24 ⟨⟩ ⟨⟩) h_23 ⟨⟩) h_21 ⟨⟩ ⟨⟩) h_19 ⟨⟩ ⟨⟩) h_18 ⟨⟩) h_17 ⟨⟩) h_16 ⟨⟩) h_15 ⟨⟩) h_14 ⟨⟩) ⟨⟩) h_12 ⟨⟩) h_11 ⟨⟩) h_10 ⟨⟩) h_9 ⟨⟩) ⟨⟩) h_7 ⟨⟩) h_6 ⟨⟩) ⟨⟩) h_4 ⟨⟩) h_3 ⟨⟩) h_2 ⟨⟩) ⟨⟩) h ⟨⟩

theorem n21_calls {R : Value → Heap → Prop} {h : Heap} (H : n21  R h) : CallsH Try.prog 21 #[] h R ⟨⟩ :=
  callsH_of_eq Try.follow .l Try.func21 (by kernel_rfl) (by kernel_rfl) (by kernel_rfl) H

/-- palimpsest/palimpsestref09.Of -/
def n22 (w0 bits1 : Value) (R : Value → Heap → Prop) (h : Heap) : Prop :=
  Hp Try.prog false (Instr.alloc 24 true undef) (fun t4 h_1 => 
    Hp Try.prog false (binS .rem 25 (.tmp 8) (.const (.int .u64 4)) w0 (.int .u64 4)) (fun t9 h_2 => 
      Hp Try.prog false (convert 25 22 t9) (fun t10 h_3 => 
        Hp Try.prog false (Instr.build 24 #[(0, t10)]) (fun t11 h_4 => 
          Hp Try.prog false (Instr.alloc 24 true undef) (fun e6 h_5 => 
            Hp Try.prog false (storeS 24 e6 t11) (fun _ h_6 => 
              JoinN 0 (fun (k : Heap → Prop) h_7 =>
                Hp Try.prog false (binS .rem 25 (.tmp 12) (.const (.int .u64 4)) w0 (.int .u64 4)) (fun t13 h_8 => 
                  Hp Try.prog false (binS .eql 25 (.tmp 13) (.const (.int .u64 2)) t13 (.int .u64 2)) (fun t14 h_9 => 
                    CondP t14 (
                      Hp Try.prog false (binS .sub 25 (.tmp 15) (.const (.int .u64 2)) w0 (.int .u64 2)) (fun t16 h_10 => 
                        Hp Try.prog false (binS .rem 25 (.tmp 16) (.const (.int .u64 9223372036854775808)) t16 (.int .u64 9223372036854775808)) (fun t17 h_11 => 
                          Hp Try.prog false (convert 25 2 t17) (fun t18 h_12 => 
                            Hp Try.prog false (Instr.fieldAt 24 e6 1) (fun t19 h_13 => 
                              Hp Try.prog false (storeS 2 t19 t18) (fun _ h_14 => 
                                k h_14) h_13 ⟨⟩) h_12 ⟨⟩) h_11 ⟨⟩) h_10 ⟨⟩) h_9 ⟨⟩) (
                      k h_9) ⟨⟩ ⟨⟩) h_8 ⟨⟩) h_7 ⟨⟩)
                (fun h_15 =>
                JoinN 0 (fun (k_1 : Heap → Prop) h_16 =>
                  Hp Try.prog false (binS .rem 25 (.tmp 20) (.const (.int .u64 4)) w0 (.int .u64 4)) (fun t21 h_17 => 
                    Hp Try.prog false (binS .eql 25 (.tmp 21) (.const (.int .u64 3)) t21 (.int .u64 3)) (fun t22 h_18 => 
                      CondP t22 (
                        Hp Try.prog false (binS .quo 25 (.tmp 23) (.const (.int .u64 65536)) w0 (.int .u64 65536)) (fun t24 h_19 => 
                          Hp Try.prog false (convert 25 2 t24) (fun t25 h_20 => 
                            Hp Try.prog false (Instr.fieldAt 24 e6 1) (fun t26 h_21 => 
                              Hp Try.prog false (storeS 2 t26 t25) (fun _ h_22 => 
                                Hp Try.prog false (binS .rem 25 (.tmp 27) (.const (.int .u64 65536)) w0 (.int .u64 65536)) (fun t28 h_23 => 
                                  Hp Try.prog false (binS .quo 25 (.tmp 28) (.const (.int .u64 4)) t28 (.int .u64 4)) (fun t29 h_24 => 
                                    Hp Try.prog false (convert 25 3 t29) (fun t30 h_25 => 
                                      Hp Try.prog false (Instr.fieldAt 24 e6 2) (fun t31 h_26 => 
                                        Hp Try.prog false (storeS 3 t31 t30) (fun _ h_27 => 
                                          k_1 h_27) h_26 ⟨⟩) h_25 ⟨⟩) h_24 ⟨⟩) h_23 ⟨⟩) h_22 ⟨⟩) h_21 ⟨⟩) h_20 ⟨⟩) h_19 ⟨⟩) h_18 ⟨⟩) (
                        k_1 h_18) ⟨⟩ ⟨⟩) h_17 ⟨⟩) h_16 ⟨⟩)
                  (fun h_28 =>
                  Hp Try.prog false (Instr.loadAt 24 e6) (fun t32 h_29 => 
                    CallsH Try.prog 15 #[t32, bits1] h_29 (fun t34 h_30 => 
                      Hp Try.prog false (Op.unary .not t34) (fun t36 h_31 => 
                        Join1 (fun k_2 h_32 => guardP t36 false (Hp Try.prog false (Instr.loadAt 24 e6) k_2 h_32 ⟨⟩) (k_2 undef h_32) ⟨⟩ ⟨⟩) (fun t38 h_33 =>
                          Join1 (fun k_3 h_34 => guardP t36 false (CallsH Try.prog 19 #[t38] h_34 k_3 ⟨⟩) (k_3 undef h_34) ⟨⟩ ⟨⟩) (fun t39 h_35 =>
                            Join1 (fun k_4 h_36 => guardP t36 false (k_4 w0 h_36) (k_4 undef h_36) ⟨⟩ ⟨⟩) (fun t40 h_37 =>
                              Join1 (fun k_5 h_38 => guardP t36 false (Hp Try.prog false (binS .neq 25 (.tmp 39) (.tmp 40) t39 t40) k_5 h_38 ⟨⟩) (k_5 undef h_38) ⟨⟩ ⟨⟩) (fun t41 h_39 =>
                                Hp Try.prog false (pickS t36 (.bool true) t41) (fun t42 h_40 => 
                                  CondP t42 (
                                    Hp Try.prog false (Instr.build 24 #[]) (fun t43 h_41 => 
                                      Hp Try.prog false (storeS 24 t4 t43) (fun _ h_42 => 
                                        Hp Try.prog true (loadCell 24 t4) (fun r _ =>
                                          R (.tuple #[r, (.bool false)]) h_42) h_42 ⟨⟩) h_41 ⟨⟩) h_40 ⟨⟩) (
                                    Hp Try.prog false (Instr.loadAt 24 e6) (fun t44 h_43 => 
                                      Hp Try.prog false (storeS 24 t4 t44) (fun _ h_44 => 
                                        Hp Try.prog true (loadCell 24 t4) (fun r_1 _ =>
                                          R (.tuple #[r_1, (.bool true)]) h_44) h_44 ⟨⟩) h_43 ⟨⟩) h_40 ⟨⟩) ⟨⟩ ⟨⟩) h_39 ⟨⟩) h_37 ⟨⟩ ⟨⟩) h_35 ⟨⟩ ⟨⟩) h_33 ⟨⟩ ⟨⟩) h_31 ⟨⟩ ⟨⟩) h_30 ⟨⟩) ⟨⟩) h_28 ⟨⟩) h_15 ⟨⟩ ⟨⟩) h_6 ⟨⟩ ⟨⟩) h_5 ⟨⟩) h_4 ⟨⟩) h_3 ⟨⟩) h_2 ⟨⟩) h_1 ⟨⟩) h ⟨⟩

theorem n22_calls {w0 bits1 : Value} {R : Value → Heap → Prop} {h : Heap} (H : n22 w0 bits1 R h) : CallsH Try.prog 22 #[w0, bits1] h R ⟨⟩ :=
  callsH_of_eq Try.follow (.n none .l (.n none .l (.n (some []) .l (.n (some []) .l .l)))) Try.func22 (by kernel_rfl) (by kernel_rfl) (by kernel_rfl) H

/-- palimpsest/palimpsestref08.Cluster -/
def n64 (bits0 : Value) (R : Value → Heap → Prop) (h : Heap) : Prop :=
  LoopC 2 (fun (X : Value → Value → Heap → Prop) => fun c3 i4 h_1 =>
    Hp Try.prog false (binS .lss 3 (.tmp 5) (.tmp 6) i4 bits0) (fun t7 h_2 => 
      CondP t7 (
        Hp Try.prog false (binS .mul 2 (.const (.int .i64 2)) (.tmp 10) (.int .i64 2) c3) (fun t11 h_3 => 
          Hp Try.prog false (binS .add 3 (.tmp 8) (.const (.int .i64 1)) i4 (.int .i64 1)) (fun t9 h_4 => 
            X t11 t9 h_4) h_3 ⟨⟩) h_2 ⟨⟩) (
        R c3 h_2) ⟨⟩ ⟨⟩) h_1 ⟨⟩) [(.int .i64 1), (.int .i64 0)] h ⟨⟩

theorem n64_calls {bits0 : Value} {R : Value → Heap → Prop} {h : Heap} (H : n64 bits0 R h) : CallsH Try.prog 64 #[bits0] h R ⟨⟩ :=
  callsH_of_eq Try.follow (.n none .l (.n none .l (.n none (.n none .l (.n none (.n (some [3, 4]) .l .l) .l)) .l))) Try.func64 (by kernel_rfl) (by kernel_rfl) (by kernel_rfl) H

/-- palimpsest/palimpsestref08.Place -/
def n65 (at0 bits1 : Value) (R : Value → Heap → Prop) (h : Heap) : Prop :=
  Hp Try.prog false (binS .gtr 2 (.tmp 5) (.const (.int .i64 0)) at0 (.int .i64 0)) (fun t6 h_1 => 
    Join1 (fun k h_2 => guardP t6 true (k at0 h_2) (k undef h_2) ⟨⟩ ⟨⟩) (fun t8 h_3 =>
      Join1 (fun k_1 h_4 => guardP t6 true (Hp Try.prog false (binS .leq 2 (.tmp 8) (.const (.int .i64 268435456)) t8 (.int .i64 268435456)) k_1 h_4 ⟨⟩) (k_1 undef h_4) ⟨⟩ ⟨⟩) (fun t9 h_5 =>
        Hp Try.prog false (pickS t6 t9 (.bool false)) (fun t10 h_6 => 
          Join1 (fun k_2 h_7 => guardP t10 true (k_2 at0 h_7) (k_2 undef h_7) ⟨⟩ ⟨⟩) (fun t12 h_8 =>
            Join1 (fun k_3 h_9 => guardP t10 true (k_3 bits1 h_9) (k_3 undef h_9) ⟨⟩ ⟨⟩) (fun t13 h_10 =>
              Join1 (fun k_4 h_11 => guardP t10 true (CallsH Try.prog 64 #[t13] h_11 k_4 ⟨⟩) (k_4 undef h_11) ⟨⟩ ⟨⟩) (fun t14 h_12 =>
                Join1 (fun k_5 h_13 => guardP t10 true (Hp Try.prog false (binS .rem 2 (.tmp 12) (.tmp 14) t12 t14) k_5 h_13 ⟨⟩) (k_5 undef h_13) ⟨⟩ ⟨⟩) (fun t15 h_14 =>
                  Join1 (fun k_6 h_15 => guardP t10 true (Hp Try.prog false (binS .eql 2 (.tmp 15) (.const (.int .i64 0)) t15 (.int .i64 0)) k_6 h_15 ⟨⟩) (k_6 undef h_15) ⟨⟩ ⟨⟩) (fun t16 h_16 =>
                    Hp Try.prog false (pickS t10 t16 (.bool false)) (fun t17 h_17 => 
                      R t17 h_17) h_16 ⟨⟩) h_14 ⟨⟩ ⟨⟩) h_12 ⟨⟩ ⟨⟩) h_10 ⟨⟩ ⟨⟩) h_8 ⟨⟩ ⟨⟩) h_6 ⟨⟩ ⟨⟩) h_5 ⟨⟩) h_3 ⟨⟩ ⟨⟩) h_1 ⟨⟩ ⟨⟩) h ⟨⟩

theorem n65_calls {at0 bits1 : Value} {R : Value → Heap → Prop} {h : Heap} (H : n65 at0 bits1 R h) : CallsH Try.prog 65 #[at0, bits1] h R ⟨⟩ :=
  callsH_of_eq Try.follow .l Try.func65 (by kernel_rfl) (by kernel_rfl) (by kernel_rfl) H

end Go.Proofs.Ytmppolccfjfoaaa

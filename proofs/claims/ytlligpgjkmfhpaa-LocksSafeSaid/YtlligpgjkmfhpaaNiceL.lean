/- Printed by wip/tools/gen.py: the condition of each function, and that a call meets it. -/
import Derived.Test.YtlligpgjkmfhpaaVcFun
import Derived.Test.YtlligpgjkmfhpaaProg
import Derived.Test.YtlligpgjkmfhpaaNiceK
set_option maxRecDepth 100000
set_option linter.unusedVariables false
namespace Go.Proofs.Ytlligpgjkmfhpaa
open Go.Vc

/-- palimpsest/palimpsestlaw23.LocksSafe -/
def n3 (l0 done1 : Value) (R : Value → Heap → Prop) (h : Heap) : Prop :=
  Hp Try.prog false (Builtin.len_ #[22] 3 #[l0]) (fun t20 h_1 => 
    Hp Try.prog false (binS .gtr 3 (.tmp 20) (.const (.int .i64 100)) t20 (.int .i64 100)) (fun t21 h_2 => 
      Join1 (fun k h_3 => guardP t21 false (k done1 h_3) (k undef h_3) ⟨⟩ ⟨⟩) (fun t23 h_4 => 
        Join1 (fun k_1 h_5 => guardP t21 false (Hp Try.prog false (Builtin.len_ #[23] 3 #[t23]) k_1 h_5 ⟨⟩) (k_1 undef h_5) ⟨⟩ ⟨⟩) (fun t24 h_6 => 
          Join1 (fun k_2 h_7 => guardP t21 false (Hp Try.prog false (binS .gtr 3 (.tmp 24) (.const (.int .i64 200)) t24 (.int .i64 200)) k_2 h_7 ⟨⟩) (k_2 undef h_7) ⟨⟩ ⟨⟩) (fun t25 h_8 => 
            Hp Try.prog false (pickS t21 (.bool true) t25) (fun t26 h_9 => 
              CondP t26 (
                CallsH Try.prog 7 #[] h_9 (fun t27 h_10 => 
                  R t27 h_10) ⟨⟩) (
                CallsH Try.prog 8 #[] h_9 (fun t28 h_11 => 
                  Hp Try.prog false (binS .eql 25 (.tmp 29) (.const (.pointer none)) t28 (.pointer none)) (fun t30 h_12 => 
                    CondP t30 (
                      R (.bool false) h_12) (
                      Hp Try.prog false (Instr.alloc 23 true undef) (fun order7 h_13 => 
                        Hp Try.prog false (Builtin.len_ #[22] 3 #[l0]) (fun t32 h_14 => 
                          Hp Try.prog false (Instr.makeSlice 27 t32 t32) (fun t33 h_15 => 
                            LoopC 3 (fun (X : Value → Value → Value → Heap → Prop) => fun asked6 at9 i10 h_16 =>
                              Hp Try.prog false (Builtin.len_ #[22] 3 #[l0]) (fun t36 h_17 => 
                                Hp Try.prog false (binS .lss 3 (.tmp 34) (.tmp 36) i10 t36) (fun t37 h_18 => 
                                  CondP t37 (
                                    JoinN 2 (fun (k_3 : Value → Value → Heap → Prop) h_19 =>
                                      JoinN 2 (fun (k_4 : Value → Value → Heap → Prop) h_20 =>
                                        Hp Try.prog false (Instr.indexAt 22 l0 i10) (fun t42 h_21 => 
                                          Hp Try.prog false (Instr.loadAt 29 t42) (fun t43 h_22 => 
                                            Hp Try.prog false (Instr.alloc 29 true undef) (fun x11 h_23 => 
                                              Hp Try.prog false (storeS 29 x11 t43) (fun _ h_24 => 
                                                Hp Try.prog false (Builtin.len_ #[22] 3 #[asked6]) (fun t45 h_25 => 
                                                  Hp Try.prog false (Instr.fieldAt 29 x11 0) (fun t46 h_26 => 
                                                    Hp Try.prog false (storeS 3 t46 t45) (fun _ h_27 => 
                                                      Hp Try.prog false (Instr.loadAt 29 x11) (fun t47 h_28 => 
                                                        CallsH Try.prog 9 #[t47] h_28 (fun t48 h_29 => 
                                                          Hp Try.prog false (Op.unary .not t48) (fun t49 h_30 => 
                                                            CondP t49 (
                                                              k_4 asked6 at9 h_30) (
                                                              Hp Try.prog false (Instr.loadAt 29 x11) (fun t52 h_31 => 
                                                                CallsH Try.prog 10 #[t28, t52] h_31 (fun t53 h_32 => 
                                                                  Hp Try.prog false (Instr.extract t53 0) (fun t54 h_33 => 
                                                                    Hp Try.prog false (Instr.extract t53 1) (fun t55 h_34 => 
                                                                      CallsH Try.prog 11 #[t55] h_34 (fun t57 h_35 => 
                                                                        Hp Try.prog false (binS .neq 3 (.tmp 57) (.const (.int .i64 0)) t57 (.int .i64 0)) (fun t58 h_36 => 
                                                                          CondP t58 (
                                                                            R (.bool false) h_36) (
                                                                            Hp Try.prog false (Instr.loadAt 29 x11) (fun t60 h_37 => 
                                                                              Hp Try.prog false (Instr.buildSlice 22 1 #[(0, t60)]) (fun t61 h_38 => 
                                                                                Hp Try.prog false (Builtin.append_ #[22, 22] 22 #[asked6, t61]) (fun t62 h_39 => 
                                                                                  JoinN 0 (fun (k_5 : Heap → Prop) h_40 =>
                                                                                    CondP t54 (
                                                                                      Hp Try.prog false (Instr.loadAt 23 order7) (fun t64 h_41 => 
                                                                                        Hp Try.prog false (Instr.fieldAt 29 x11 0) (fun t65 h_42 => 
                                                                                          Hp Try.prog false (Instr.loadAt 3 t65) (fun t66 h_43 => 
                                                                                            Hp Try.prog false (Instr.buildSlice 23 1 #[(0, t66)]) (fun t67 h_44 => 
                                                                                              Hp Try.prog false (Builtin.append_ #[23, 23] 23 #[t64, t67]) (fun t68 h_45 => 
                                                                                                Hp Try.prog false (storeS 23 order7 t68) (fun _ h_46 => 
                                                                                                  k_5 h_46) h_45 ⟨⟩) h_44 ⟨⟩) h_43 ⟨⟩) h_42 ⟨⟩) h_41 ⟨⟩) h_40 ⟨⟩) (
                                                                                      k_5 h_40) ⟨⟩ ⟨⟩)
                                                                                    (fun h_47 =>
                                                                                    Hp Try.prog true (Builtin.len_ #[23] 3 #[done1]) (fun t71 _ => 
                                                                                      Hp Try.prog true (binS .lss 3 (.tmp 69) (.tmp 71) at9 t71) (fun t72 _ => 
                                                                                        Join1 (fun k_6 h_48 => guardP t72 true (k_6 done1 h_48) (k_6 undef h_48) ⟨⟩ ⟨⟩) (fun t74 _ => 
                                                                                          Join1 (fun k_7 h_49 => guardP t72 true (k_7 at9 h_49) (k_7 undef h_49) ⟨⟩ ⟨⟩) (fun t75 _ => 
                                                                                            Join1 (fun k_8 h_50 => guardP t72 true (Hp Try.prog true (Instr.indexAt 23 t74 t75) k_8 h_50 ⟨⟩) (k_8 undef h_50) ⟨⟩ ⟨⟩) (fun t76 _ => 
                                                                                              Join1 (fun k_9 h_51 => guardP t72 true (Hp Try.prog true (Instr.loadAt 3 t76) k_9 h_51 ⟨⟩) (k_9 undef h_51) ⟨⟩ ⟨⟩) (fun t77 _ => 
                                                                                                Join1 (fun k_10 h_52 => guardP t72 true (Hp Try.prog true (binS .rem 3 (.tmp 77) (.const (.int .i64 3)) t77 (.int .i64 3)) k_10 h_52 ⟨⟩) (k_10 undef h_52) ⟨⟩ ⟨⟩) (fun t78 _ => 
                                                                                                  Join1 (fun k_11 h_53 => guardP t72 true (Hp Try.prog true (binS .eql 3 (.tmp 78) (.const (.int .i64 0)) t78 (.int .i64 0)) k_11 h_53 ⟨⟩) (k_11 undef h_53) ⟨⟩ ⟨⟩) (fun t79 _ => 
                                                                                                    Hp Try.prog true (pickS t72 t79 (.bool false)) (fun t80 _ => 
                                                                                                      Join1 (fun k_12 h_54 => guardP t80 true (k_12 t28 h_54) (k_12 undef h_54) ⟨⟩ ⟨⟩) (fun t82 _ => 
                                                                                                        Join1 (fun k_13 h_55 => guardP t80 true (Hp Try.prog true (Instr.loadAt 23 order7) k_13 h_55 ⟨⟩) (k_13 undef h_55) ⟨⟩ ⟨⟩) (fun t83 _ => 
                                                                                                          Join1 (fun k_14 h_56 => guardP t80 true (k_14 t33 h_56) (k_14 undef h_56) ⟨⟩ ⟨⟩) (fun t84 _ => 
                                                                                                            Join1 (fun k_15 h_57 => guardP t80 true (k_15 done1 h_57) (k_15 undef h_57) ⟨⟩ ⟨⟩) (fun t85 _ => 
                                                                                                              Join1 (fun k_16 h_58 => guardP t80 true (k_16 at9 h_58) (k_16 undef h_58) ⟨⟩ ⟨⟩) (fun t86 _ => 
                                                                                                                Join1 (fun k_17 h_59 => guardP t80 true (Hp Try.prog true (Instr.indexAt 23 t85 t86) k_17 h_59 ⟨⟩) (k_17 undef h_59) ⟨⟩ ⟨⟩) (fun t87 _ => 
                                                                                                                  Join1 (fun k_18 h_60 => guardP t80 true (Hp Try.prog true (Instr.loadAt 3 t87) k_18 h_60 ⟨⟩) (k_18 undef h_60) ⟨⟩ ⟨⟩) (fun t88 _ => 
                                                                                                                    Join1 (fun k_19 h_61 => guardP t80 true (CallsH Try.prog 12 #[t82, t83, t84, order7, t88] h_61 k_19 ⟨⟩) (k_19 undef h_61) ⟨⟩ ⟨⟩) (fun t89 h_62 => 
                                                                                                                      Join1 (fun k_20 h_63 => guardP t80 true (Hp Try.prog true (Op.unary .not t89) k_20 h_63 ⟨⟩) (k_20 undef h_63) ⟨⟩ ⟨⟩) (fun t90 _ => 
                                                                                                                        Hp Try.prog true (pickS t80 t90 (.bool false)) (fun t91 _ => 
                                                                                                                          CondP t91 (
                                                                                                                            R (.bool false) h_62) (
                                                                                                                            Hp Try.prog false (binS .add 3 (.tmp 92) (.const (.int .i64 1)) at9 (.int .i64 1)) (fun t93 h_64 => 
                                                                                                                              CallsH Try.prog 13 #[t28, t62] h_64 (fun t96 h_65 => 
                                                                                                                                Hp Try.prog false (Op.unary .not t96) (fun t97 h_66 => 
                                                                                                                                  CondP t97 (
                                                                                                                                    R (.bool false) h_66) (
                                                                                                                                    k_4 t62 t93 h_66) ⟨⟩ ⟨⟩) h_65 ⟨⟩) ⟨⟩) h_62 ⟨⟩) ⟨⟩ ⟨⟩) #[] ⟨⟩) #[] ⟨⟩ ⟨⟩) h_47 ⟨⟩ ⟨⟩) h_47 ⟨⟩ ⟨⟩) #[] ⟨⟩ ⟨⟩) #[] ⟨⟩ ⟨⟩) #[] ⟨⟩ ⟨⟩) #[] ⟨⟩ ⟨⟩) h_47 ⟨⟩ ⟨⟩) #[] ⟨⟩ ⟨⟩) #[] ⟨⟩) #[] ⟨⟩ ⟨⟩) #[] ⟨⟩ ⟨⟩) h_47 ⟨⟩ ⟨⟩) #[] ⟨⟩ ⟨⟩) #[] ⟨⟩ ⟨⟩) #[] ⟨⟩ ⟨⟩) #[] ⟨⟩) #[] ⟨⟩) h_39 ⟨⟩ ⟨⟩) h_38 ⟨⟩) h_37 ⟨⟩) h_36 ⟨⟩) ⟨⟩ ⟨⟩) h_35 ⟨⟩) ⟨⟩) h_33 ⟨⟩) h_32 ⟨⟩) ⟨⟩) h_30 ⟨⟩) ⟨⟩ ⟨⟩) h_29 ⟨⟩) ⟨⟩) h_27 ⟨⟩) h_26 ⟨⟩) h_25 ⟨⟩) h_24 ⟨⟩) h_23 ⟨⟩) h_22 ⟨⟩) h_21 ⟨⟩) h_20 ⟨⟩)
                                        (fun asked6_1 at9_1 h_67 =>
                                        k_3 asked6_1 at9_1 h_67) h_19 ⟨⟩ ⟨⟩)
                                      (fun asked6_2 at9_2 h_68 =>
                                      Hp Try.prog false (binS .add 3 (.tmp 38) (.const (.int .i64 1)) i10 (.int .i64 1)) (fun t39 h_69 => 
                                        X asked6_2 at9_2 t39 h_69) h_68 ⟨⟩) h_18 ⟨⟩ ⟨⟩) (
                                    LoopC 1 (fun (X_1 : Value → Heap → Prop) => fun i14 h_70 =>
                                      Hp Try.prog false (Builtin.len_ #[22] 3 #[asked6]) (fun t100 h_71 => 
                                        Hp Try.prog false (binS .leq 3 (.tmp 98) (.tmp 100) i14 t100) (fun t101 h_72 => 
                                          CondP t101 (
                                            Hp Try.prog false (Instr.loadAt 23 order7) (fun t105 h_73 => 
                                              CallsH Try.prog 12 #[t28, t105, t33, order7, (.int .i64 0)] h_73 (fun t107 h_74 => 
                                                Hp Try.prog false (Op.unary .not t107) (fun t108 h_75 => 
                                                  Join1 (fun k_21 h_76 => guardP t108 false (k_21 t28 h_76) (k_21 undef h_76) ⟨⟩ ⟨⟩) (fun t110 h_77 => 
                                                    Join1 (fun k_22 h_78 => guardP t108 false (k_22 asked6 h_78) (k_22 undef h_78) ⟨⟩ ⟨⟩) (fun t111 h_79 => 
                                                      Join1 (fun k_23 h_80 => guardP t108 false (CallsH Try.prog 13 #[t110, t111] h_80 k_23 ⟨⟩) (k_23 undef h_80) ⟨⟩ ⟨⟩) (fun t112 h_81 => 
                                                        Join1 (fun k_24 h_82 => guardP t108 false (Hp Try.prog false (Op.unary .not t112) k_24 h_82 ⟨⟩) (k_24 undef h_82) ⟨⟩ ⟨⟩) (fun t113 h_83 => 
                                                          Hp Try.prog false (pickS t108 (.bool true) t113) (fun t114 h_84 => 
                                                            CondP t114 (
                                                              R (.bool false) h_84) (
                                                              Hp Try.prog false (binS .add 3 (.tmp 102) (.const (.int .i64 1)) i14 (.int .i64 1)) (fun t103 h_85 => 
                                                                X_1 t103 h_85) h_84 ⟨⟩) ⟨⟩ ⟨⟩) h_83 ⟨⟩) h_81 ⟨⟩ ⟨⟩) h_79 ⟨⟩ ⟨⟩) h_77 ⟨⟩ ⟨⟩) h_75 ⟨⟩ ⟨⟩) h_74 ⟨⟩) ⟨⟩) h_72 ⟨⟩) (
                                            CallsH Try.prog 14 #[t28] h_72 (fun t117 h_86 => 
                                              Hp Try.prog false (Instr.extract t117 0) (fun t118 h_87 => 
                                                Hp Try.prog false (Instr.extract t117 1) (fun t119 h_88 => 
                                                  Hp Try.prog false (binS .neq 3 (.tmp 120) (.const (.int .i64 0)) t118 (.int .i64 0)) (fun t121 h_89 => 
                                                    Join1 (fun k_25 h_90 => guardP t121 false (k_25 t119 h_90) (k_25 undef h_90) ⟨⟩ ⟨⟩) (fun t123 h_91 => 
                                                      Join1 (fun k_26 h_92 => guardP t121 false (Hp Try.prog false (binS .neq 3 (.tmp 123) (.const (.int .i64 0)) t123 (.int .i64 0)) k_26 h_92 ⟨⟩) (k_26 undef h_92) ⟨⟩ ⟨⟩) (fun t124 h_93 => 
                                                        Hp Try.prog false (pickS t121 (.bool true) t124) (fun t125 h_94 => 
                                                          Join1 (fun k_27 h_95 => guardP t125 false (Hp Try.prog false (Instr.loadAt 23 order7) k_27 h_95 ⟨⟩) (k_27 undef h_95) ⟨⟩ ⟨⟩) (fun t127 h_96 => 
                                                            Join1 (fun k_28 h_97 => guardP t125 false (Hp Try.prog false (Builtin.len_ #[23] 3 #[t127]) k_28 h_97 ⟨⟩) (k_28 undef h_97) ⟨⟩ ⟨⟩) (fun t128 h_98 => 
                                                              Join1 (fun k_29 h_99 => guardP t125 false (k_29 asked6 h_99) (k_29 undef h_99) ⟨⟩ ⟨⟩) (fun t129 h_100 => 
                                                                Join1 (fun k_30 h_101 => guardP t125 false (Hp Try.prog false (Builtin.len_ #[22] 3 #[t129]) k_30 h_101 ⟨⟩) (k_30 undef h_101) ⟨⟩ ⟨⟩) (fun t130 h_102 => 
                                                                  Join1 (fun k_31 h_103 => guardP t125 false (Hp Try.prog false (binS .neq 3 (.tmp 128) (.tmp 130) t128 t130) k_31 h_103 ⟨⟩) (k_31 undef h_103) ⟨⟩ ⟨⟩) (fun t131 h_104 => 
                                                                    Hp Try.prog false (pickS t125 (.bool true) t131) (fun t132 h_105 => 
                                                                      CondP t132 (
                                                                        R (.bool false) h_105) (
                                                                        LoopC 1 (fun (X_2 : Value → Heap → Prop) => fun i17 h_106 =>
                                                                          Hp Try.prog false (Instr.loadAt 23 order7) (fun t134 h_107 => 
                                                                            Hp Try.prog false (Builtin.len_ #[23] 3 #[t134]) (fun t135 h_108 => 
                                                                              Hp Try.prog false (binS .lss 3 (.tmp 133) (.tmp 135) i17 t135) (fun t136 h_109 => 
                                                                                CondP t136 (
                                                                                  LoopC 1 (fun (X_3 : Value → Heap → Prop) => fun j18 h_110 =>
                                                                                    Hp Try.prog false (binS .lss 3 (.tmp 139) (.tmp 140) j18 i17) (fun t141 h_111 => 
                                                                                      CondP t141 (
                                                                                        Hp Try.prog true (Instr.loadAt 23 order7) (fun t144 _ => 
                                                                                          Hp Try.prog true (Instr.indexAt 23 t144 j18) (fun t146 _ => 
                                                                                            Hp Try.prog true (Instr.loadAt 3 t146) (fun t147 _ => 
                                                                                              Hp Try.prog true (Instr.loadAt 23 order7) (fun t148 _ => 
                                                                                                Hp Try.prog true (Instr.indexAt 23 t148 i17) (fun t150 _ => 
                                                                                                  Hp Try.prog true (Instr.loadAt 3 t150) (fun t151 _ => 
                                                                                                    Hp Try.prog true (binS .gtr 3 (.tmp 147) (.tmp 151) t147 t151) (fun t152 _ => 
                                                                                                      Join1 (fun k_32 h_112 => guardP t152 true (k_32 asked6 h_112) (k_32 undef h_112) ⟨⟩ ⟨⟩) (fun t154 _ => 
                                                                                                        Join1 (fun k_33 h_113 => guardP t152 true (Hp Try.prog true (Instr.loadAt 23 order7) k_33 h_113 ⟨⟩) (k_33 undef h_113) ⟨⟩ ⟨⟩) (fun t155 _ => 
                                                                                                          Join1 (fun k_34 h_114 => guardP t152 true (k_34 j18 h_114) (k_34 undef h_114) ⟨⟩ ⟨⟩) (fun t156 _ => 
                                                                                                            Join1 (fun k_35 h_115 => guardP t152 true (Hp Try.prog true (Instr.indexAt 23 t155 t156) k_35 h_115 ⟨⟩) (k_35 undef h_115) ⟨⟩ ⟨⟩) (fun t157 _ => 
                                                                                                              Join1 (fun k_36 h_116 => guardP t152 true (Hp Try.prog true (Instr.loadAt 3 t157) k_36 h_116 ⟨⟩) (k_36 undef h_116) ⟨⟩ ⟨⟩) (fun t158 _ => 
                                                                                                                Join1 (fun k_37 h_117 => guardP t152 true (Hp Try.prog true (Instr.indexAt 22 t154 t158) k_37 h_117 ⟨⟩) (k_37 undef h_117) ⟨⟩ ⟨⟩) (fun t159 _ => 
                                                                                                                  Join1 (fun k_38 h_118 => guardP t152 true (Hp Try.prog true (Instr.loadAt 29 t159) k_38 h_118 ⟨⟩) (k_38 undef h_118) ⟨⟩ ⟨⟩) (fun t160 _ => 
                                                                                                                    Join1 (fun k_39 h_119 => guardP t152 true (k_39 asked6 h_119) (k_39 undef h_119) ⟨⟩ ⟨⟩) (fun t161 _ => 
                                                                                                                      Join1 (fun k_40 h_120 => guardP t152 true (Hp Try.prog true (Instr.loadAt 23 order7) k_40 h_120 ⟨⟩) (k_40 undef h_120) ⟨⟩ ⟨⟩) (fun t162 _ => 
                                                                                                                        Join1 (fun k_41 h_121 => guardP t152 true (k_41 i17 h_121) (k_41 undef h_121) ⟨⟩ ⟨⟩) (fun t163 _ => 
                                                                                                                          Join1 (fun k_42 h_122 => guardP t152 true (Hp Try.prog true (Instr.indexAt 23 t162 t163) k_42 h_122 ⟨⟩) (k_42 undef h_122) ⟨⟩ ⟨⟩) (fun t164 _ => 
                                                                                                                            Join1 (fun k_43 h_123 => guardP t152 true (Hp Try.prog true (Instr.loadAt 3 t164) k_43 h_123 ⟨⟩) (k_43 undef h_123) ⟨⟩ ⟨⟩) (fun t165 _ => 
                                                                                                                              Join1 (fun k_44 h_124 => guardP t152 true (Hp Try.prog true (Instr.indexAt 22 t161 t165) k_44 h_124 ⟨⟩) (k_44 undef h_124) ⟨⟩ ⟨⟩) (fun t166 _ => 
                                                                                                                                Join1 (fun k_45 h_125 => guardP t152 true (Hp Try.prog true (Instr.loadAt 29 t166) k_45 h_125 ⟨⟩) (k_45 undef h_125) ⟨⟩ ⟨⟩) (fun t167 _ => 
                                                                                                                                  Join1 (fun k_46 h_126 => guardP t152 true (CallsH Try.prog 15 #[t160, t167] h_126 k_46 ⟨⟩) (k_46 undef h_126) ⟨⟩ ⟨⟩) (fun t168 h_127 => 
                                                                                                                                    Hp Try.prog true (pickS t152 t168 (.bool false)) (fun t169 _ => 
                                                                                                                                      CondP t169 (
                                                                                                                                        R (.bool false) h_127) (
                                                                                                                                        Hp Try.prog false (binS .add 3 (.tmp 142) (.const (.int .i64 1)) j18 (.int .i64 1)) (fun t143 h_128 => 
                                                                                                                                          X_3 t143 h_128) h_127 ⟨⟩) ⟨⟩ ⟨⟩) #[] ⟨⟩) h_111 ⟨⟩ ⟨⟩) h_111 ⟨⟩ ⟨⟩) #[] ⟨⟩ ⟨⟩) h_111 ⟨⟩ ⟨⟩) #[] ⟨⟩ ⟨⟩) #[] ⟨⟩ ⟨⟩) h_111 ⟨⟩ ⟨⟩) #[] ⟨⟩ ⟨⟩) h_111 ⟨⟩ ⟨⟩) #[] ⟨⟩ ⟨⟩) h_111 ⟨⟩ ⟨⟩) #[] ⟨⟩ ⟨⟩) #[] ⟨⟩ ⟨⟩) h_111 ⟨⟩ ⟨⟩) #[] ⟨⟩ ⟨⟩) #[] ⟨⟩) h_111 ⟨⟩) #[] ⟨⟩) h_111 ⟨⟩) h_111 ⟨⟩) #[] ⟨⟩) h_111 ⟨⟩) (
                                                                                        Hp Try.prog false (binS .add 3 (.tmp 137) (.const (.int .i64 1)) i17 (.int .i64 1)) (fun t138 h_129 => 
                                                                                          X_2 t138 h_129) h_111 ⟨⟩) ⟨⟩ ⟨⟩) h_110 ⟨⟩) [(.int .i64 0)] h_109 ⟨⟩) (
                                                                                  CallsH Try.prog 7 #[] h_109 (fun t170 h_130 => 
                                                                                    R t170 h_130) ⟨⟩) ⟨⟩ ⟨⟩) h_108 ⟨⟩) h_107 ⟨⟩) h_106 ⟨⟩) [(.int .i64 0)] h_105 ⟨⟩) ⟨⟩ ⟨⟩) h_104 ⟨⟩) h_102 ⟨⟩ ⟨⟩) h_100 ⟨⟩ ⟨⟩) h_98 ⟨⟩ ⟨⟩) h_96 ⟨⟩ ⟨⟩) h_94 ⟨⟩ ⟨⟩) h_93 ⟨⟩) h_91 ⟨⟩ ⟨⟩) h_89 ⟨⟩ ⟨⟩) h_88 ⟨⟩) h_87 ⟨⟩) h_86 ⟨⟩) ⟨⟩) ⟨⟩ ⟨⟩) h_71 ⟨⟩) h_70 ⟨⟩) [(.int .i64 0)] h_18 ⟨⟩) ⟨⟩ ⟨⟩) h_17 ⟨⟩) h_16 ⟨⟩) [(.slice none 0 0), (.int .i64 0), (.int .i64 0)] h_15 ⟨⟩) h_14 ⟨⟩) h_13 ⟨⟩) h_12 ⟨⟩) ⟨⟩ ⟨⟩) h_11 ⟨⟩) ⟨⟩) ⟨⟩ ⟨⟩) h_8 ⟨⟩) h_6 ⟨⟩ ⟨⟩) h_4 ⟨⟩ ⟨⟩) h_2 ⟨⟩ ⟨⟩) h_1 ⟨⟩) h ⟨⟩

theorem n3_calls {l0 done1 : Value} {R : Value → Heap → Prop} {h : Heap} (H : n3 l0 done1 R h) : CallsH Try.prog 3 #[l0, done1] h R ⟨⟩ :=
  callsH_of_eq Try.follow (.n none .l (.n none .l (.n none .l (.n none .l (.n none .l (.n none .l (.n none .l (.n none .l (.n none (.n none .l (.n none (.n (some [7, 10, 11]) (.n none .l (.n (some [7, 10]) (.n (some [7, 10]) (.n none .l (.n none .l (.n none .l (.n none .l (.n none .l (.n none .l (.n (some []) .l .l))))))) .l) .l)) .l) .l)) (.n none (.n none .l (.n none (.n (some [15]) .l .l) .l)) (.n none .l (.n none .l (.n none (.n none .l (.n none (.n (some [18]) (.n none .l (.n none (.n none (.n none .l (.n none (.n (some [19]) .l .l) .l)) .l) .l)) .l) .l)) .l))))))))))))) Try.func3 (by kernel_rfl) (by kernel_rfl) (by kernel_rfl) H

/-- palimpsest/palimpsestlaw23.LocksShare -/
def n4 (l0 : Value) (R : Value → Heap → Prop) (h : Heap) : Prop :=
  CallsH Try.prog 8 #[] h (fun t16 h_1 => 
    CallsH Try.prog 8 #[] h_1 (fun t17 h_2 => 
      Hp Try.prog false (Builtin.len_ #[22] 3 #[l0]) (fun t19 h_3 => 
        Hp Try.prog false (binS .gtr 3 (.tmp 19) (.const (.int .i64 100)) t19 (.int .i64 100)) (fun t20 h_4 => 
          Join1 (fun k h_5 => guardP t20 false (k t16 h_5) (k undef h_5) ⟨⟩ ⟨⟩) (fun t22 h_6 => 
            Join1 (fun k_1 h_7 => guardP t20 false (Hp Try.prog false (binS .eql 25 (.tmp 22) (.const (.pointer none)) t22 (.pointer none)) k_1 h_7 ⟨⟩) (k_1 undef h_7) ⟨⟩ ⟨⟩) (fun t23 h_8 => 
              Hp Try.prog false (pickS t20 (.bool true) t23) (fun t24 h_9 => 
                Join1 (fun k_2 h_10 => guardP t24 false (k_2 t17 h_10) (k_2 undef h_10) ⟨⟩ ⟨⟩) (fun t26 h_11 => 
                  Join1 (fun k_3 h_12 => guardP t24 false (Hp Try.prog false (binS .eql 25 (.tmp 26) (.const (.pointer none)) t26 (.pointer none)) k_3 h_12 ⟨⟩) (k_3 undef h_12) ⟨⟩ ⟨⟩) (fun t27 h_13 => 
                    Hp Try.prog false (pickS t24 (.bool true) t27) (fun t28 h_14 => 
                      CondP t28 (
                        Hp Try.prog false (binS .neq 25 (.tmp 29) (.const (.pointer none)) t16 (.pointer none)) (fun t30 h_15 => 
                          Join1 (fun k_4 h_16 => guardP t30 true (k_4 t17 h_16) (k_4 undef h_16) ⟨⟩ ⟨⟩) (fun t32 h_17 => 
                            Join1 (fun k_5 h_18 => guardP t30 true (Hp Try.prog false (binS .neq 25 (.tmp 32) (.const (.pointer none)) t32 (.pointer none)) k_5 h_18 ⟨⟩) (k_5 undef h_18) ⟨⟩ ⟨⟩) (fun t33 h_19 => 
                              Hp Try.prog false (pickS t30 t33 (.bool false)) (fun t34 h_20 => 
                                Join1 (fun k_6 h_21 => guardP t34 true (CallsH Try.prog 7 #[] h_21 k_6 ⟨⟩) (k_6 undef h_21) ⟨⟩ ⟨⟩) (fun t36 h_22 => 
                                  Hp Try.prog false (pickS t34 t36 (.bool false)) (fun t37 h_23 => 
                                    R t37 h_23) h_22 ⟨⟩) h_20 ⟨⟩ ⟨⟩) h_19 ⟨⟩) h_17 ⟨⟩ ⟨⟩) h_15 ⟨⟩ ⟨⟩) h_14 ⟨⟩) (
                        LoopC 1 (fun (X : Value → Heap → Prop) => fun i5 h_24 =>
                          Hp Try.prog false (Builtin.len_ #[22] 3 #[l0]) (fun t40 h_25 => 
                            Hp Try.prog false (binS .lss 3 (.tmp 38) (.tmp 40) i5 t40) (fun t41 h_26 => 
                              CondP t41 (
                                JoinN 0 (fun (k_7 : Heap → Prop) h_27 =>
                                  JoinN 0 (fun (k_8 : Heap → Prop) h_28 =>
                                    Hp Try.prog false (Instr.indexAt 22 l0 i5) (fun t46 h_29 => 
                                      Hp Try.prog false (Instr.loadAt 29 t46) (fun t47 h_30 => 
                                        Hp Try.prog false (Instr.alloc 29 true undef) (fun x6 h_31 => 
                                          Hp Try.prog false (storeS 29 x6 t47) (fun _ h_32 => 
                                            Hp Try.prog false (Instr.fieldAt 29 x6 0) (fun t49 h_33 => 
                                              Hp Try.prog false (storeS 3 t49 i5) (fun _ h_34 => 
                                                Hp Try.prog false (Instr.fieldAt 29 x6 3) (fun t50 h_35 => 
                                                  Hp Try.prog false (storeS 4 t50 (.bool false)) (fun _ h_36 => 
                                                    Hp Try.prog false (Instr.loadAt 29 x6) (fun t51 h_37 => 
                                                      CallsH Try.prog 9 #[t51] h_37 (fun t52 h_38 => 
                                                        Hp Try.prog false (Op.unary .not t52) (fun t53 h_39 => 
                                                          CondP t53 (
                                                            k_8 h_39) (
                                                            Hp Try.prog false (Instr.loadAt 29 x6) (fun t56 h_40 => 
                                                              CallsH Try.prog 10 #[t16, t56] h_40 (fun t57 h_41 => 
                                                                Hp Try.prog false (Instr.extract t57 0) (fun t58 h_42 => 
                                                                  Hp Try.prog false (Instr.extract t57 1) (fun t59 h_43 => 
                                                                    Hp Try.prog false (Op.unary .not t58) (fun t61 h_44 => 
                                                                      Join1 (fun k_9 h_45 => guardP t61 false (k_9 t59 h_45) (k_9 undef h_45) ⟨⟩ ⟨⟩) (fun t63 h_46 => 
                                                                        Join1 (fun k_10 h_47 => guardP t61 false (CallsH Try.prog 11 #[t63] h_47 k_10 ⟨⟩) (k_10 undef h_47) ⟨⟩ ⟨⟩) (fun t64 h_48 => 
                                                                          Join1 (fun k_11 h_49 => guardP t61 false (Hp Try.prog false (binS .neq 3 (.tmp 64) (.const (.int .i64 0)) t64 (.int .i64 0)) k_11 h_49 ⟨⟩) (k_11 undef h_49) ⟨⟩ ⟨⟩) (fun t65 h_50 => 
                                                                            Hp Try.prog false (pickS t61 (.bool true) t65) (fun t66 h_51 => 
                                                                              CondP t66 (
                                                                                R (.bool false) h_51) (
                                                                                Hp Try.prog false (binS .mul 2 (.tmp 68) (.const (.int .i64 1000)) i5 (.int .i64 1000)) (fun t69 h_52 => 
                                                                                  Hp Try.prog false (Instr.fieldAt 29 x6 2) (fun t70 h_53 => 
                                                                                    Hp Try.prog false (Instr.loadAt 2 t70) (fun t71 h_54 => 
                                                                                      Hp Try.prog false (binS .rem 2 (.tmp 71) (.const (.int .i64 1001)) t71 (.int .i64 1001)) (fun t72 h_55 => 
                                                                                        Hp Try.prog false (Instr.build 29 #[(0, i5), (1, t69), (2, t72), (3, (.bool true))]) (fun t73 h_56 => 
                                                                                          Hp Try.prog false (Instr.alloc 29 true undef) (fun y9 h_57 => 
                                                                                            Hp Try.prog false (storeS 29 y9 t73) (fun _ h_58 => 
                                                                                              Hp Try.prog false (Instr.loadAt 29 y9) (fun t76 h_59 => 
                                                                                                CallsH Try.prog 10 #[t17, t76] h_59 (fun t77 h_60 => 
                                                                                                  Hp Try.prog false (Instr.extract t77 0) (fun t78 h_61 => 
                                                                                                    Hp Try.prog false (Instr.extract t77 1) (fun t79 h_62 => 
                                                                                                      Hp Try.prog false (Op.unary .not t78) (fun t81 h_63 => 
                                                                                                        Join1 (fun k_12 h_64 => guardP t81 false (k_12 t79 h_64) (k_12 undef h_64) ⟨⟩ ⟨⟩) (fun t83 h_65 => 
                                                                                                          Join1 (fun k_13 h_66 => guardP t81 false (CallsH Try.prog 11 #[t83] h_66 k_13 ⟨⟩) (k_13 undef h_66) ⟨⟩ ⟨⟩) (fun t84 h_67 => 
                                                                                                            Join1 (fun k_14 h_68 => guardP t81 false (Hp Try.prog false (binS .neq 3 (.tmp 84) (.const (.int .i64 0)) t84 (.int .i64 0)) k_14 h_68 ⟨⟩) (k_14 undef h_68) ⟨⟩ ⟨⟩) (fun t85 h_69 => 
                                                                                                              Hp Try.prog false (pickS t81 (.bool true) t85) (fun t86 h_70 => 
                                                                                                                CondP t86 (
                                                                                                                  R (.bool false) h_70) (
                                                                                                                  k_8 h_70) ⟨⟩ ⟨⟩) h_69 ⟨⟩) h_67 ⟨⟩ ⟨⟩) h_65 ⟨⟩ ⟨⟩) h_63 ⟨⟩ ⟨⟩) h_62 ⟨⟩) h_61 ⟨⟩) h_60 ⟨⟩) ⟨⟩) h_58 ⟨⟩) h_57 ⟨⟩) h_56 ⟨⟩) h_55 ⟨⟩) h_54 ⟨⟩) h_53 ⟨⟩) h_52 ⟨⟩) h_51 ⟨⟩) ⟨⟩ ⟨⟩) h_50 ⟨⟩) h_48 ⟨⟩ ⟨⟩) h_46 ⟨⟩ ⟨⟩) h_44 ⟨⟩ ⟨⟩) h_43 ⟨⟩) h_42 ⟨⟩) h_41 ⟨⟩) ⟨⟩) h_39 ⟨⟩) ⟨⟩ ⟨⟩) h_38 ⟨⟩) ⟨⟩) h_36 ⟨⟩) h_35 ⟨⟩) h_34 ⟨⟩) h_33 ⟨⟩) h_32 ⟨⟩) h_31 ⟨⟩) h_30 ⟨⟩) h_29 ⟨⟩) h_28 ⟨⟩)
                                    (fun h_71 =>
                                    k_7 h_71) h_27 ⟨⟩ ⟨⟩)
                                  (fun h_72 =>
                                  Hp Try.prog false (binS .add 3 (.tmp 42) (.const (.int .i64 1)) i5 (.int .i64 1)) (fun t43 h_73 => 
                                    X t43 h_73) h_72 ⟨⟩) h_26 ⟨⟩ ⟨⟩) (
                                CallsH Try.prog 14 #[t16] h_26 (fun t89 h_74 => 
                                  Hp Try.prog false (Instr.extract t89 0) (fun t90 h_75 => 
                                    Hp Try.prog false (Instr.extract t89 1) (fun t91 h_76 => 
                                      CallsH Try.prog 14 #[t17] h_76 (fun t94 h_77 => 
                                        Hp Try.prog false (Instr.extract t94 0) (fun t95 h_78 => 
                                          Hp Try.prog false (Instr.extract t94 1) (fun t96 h_79 => 
                                            Hp Try.prog false (binS .eql 3 (.tmp 97) (.const (.int .i64 0)) t91 (.int .i64 0)) (fun t98 h_80 => 
                                              Join1 (fun k_15 h_81 => guardP t98 true (k_15 t96 h_81) (k_15 undef h_81) ⟨⟩ ⟨⟩) (fun t100 h_82 => 
                                                Join1 (fun k_16 h_83 => guardP t98 true (Hp Try.prog false (binS .eql 3 (.tmp 100) (.const (.int .i64 0)) t100 (.int .i64 0)) k_16 h_83 ⟨⟩) (k_16 undef h_83) ⟨⟩ ⟨⟩) (fun t101 h_84 => 
                                                  Hp Try.prog false (pickS t98 t101 (.bool false)) (fun t102 h_85 => 
                                                    Join1 (fun k_17 h_86 => guardP t102 true (CallsH Try.prog 7 #[] h_86 k_17 ⟨⟩) (k_17 undef h_86) ⟨⟩ ⟨⟩) (fun t104 h_87 => 
                                                      Hp Try.prog false (pickS t102 t104 (.bool false)) (fun t105 h_88 => 
                                                        R t105 h_88) h_87 ⟨⟩) h_85 ⟨⟩ ⟨⟩) h_84 ⟨⟩) h_82 ⟨⟩ ⟨⟩) h_80 ⟨⟩ ⟨⟩) h_79 ⟨⟩) h_78 ⟨⟩) h_77 ⟨⟩) ⟨⟩) h_75 ⟨⟩) h_74 ⟨⟩) ⟨⟩) ⟨⟩ ⟨⟩) h_25 ⟨⟩) h_24 ⟨⟩) [(.int .i64 0)] h_14 ⟨⟩) ⟨⟩ ⟨⟩) h_13 ⟨⟩) h_11 ⟨⟩ ⟨⟩) h_9 ⟨⟩ ⟨⟩) h_8 ⟨⟩) h_6 ⟨⟩ ⟨⟩) h_4 ⟨⟩ ⟨⟩) h_3 ⟨⟩) h_2 ⟨⟩) ⟨⟩) ⟨⟩

theorem n4_calls {l0 : Value} {R : Value → Heap → Prop} {h : Heap} (H : n4 l0 R h) : CallsH Try.prog 4 #[l0] h R ⟨⟩ :=
  callsH_of_eq Try.follow (.n none .l (.n none .l (.n none .l (.n none (.n none .l (.n none (.n (some [6]) (.n none .l (.n (some []) (.n (some []) .l .l) .l)) .l) .l)) .l)))) Try.func4 (by kernel_rfl) (by kernel_rfl) (by kernel_rfl) H

/-- palimpsest/palimpsestlaw23.LocksTurn -/
def n5 (x0 y1 : Value) (R : Value → Heap → Prop) (h : Heap) : Prop :=
  Hp Try.prog false (Instr.box 29 x0) (fun x2 h_1 => 
    Hp Try.prog false (Instr.box 29 y1) (fun y3 h_2 => 
      Hp Try.prog false (Instr.fieldAt 29 x2 0) (fun t20 h_3 => 
        Hp Try.prog false (storeS 3 t20 (.int .i64 1)) (fun _ h_4 => 
          Hp Try.prog false (Instr.fieldAt 29 y3 0) (fun t21 h_5 => 
            Hp Try.prog false (storeS 3 t21 (.int .i64 2)) (fun _ h_6 => 
              Hp Try.prog false (Instr.fieldAt 29 x2 3) (fun t22 h_7 => 
                Hp Try.prog false (storeS 4 t22 (.bool false)) (fun _ h_8 => 
                  Hp Try.prog false (Instr.fieldAt 29 y3 3) (fun t23 h_9 => 
                    Hp Try.prog false (storeS 4 t23 (.bool false)) (fun _ h_10 => 
                      CallsH Try.prog 8 #[] h_10 (fun t24 h_11 => 
                        Hp Try.prog false (binS .eql 25 (.tmp 25) (.const (.pointer none)) t24 (.pointer none)) (fun t26 h_12 => 
                          Join1 (fun k h_13 => guardP t26 false (Hp Try.prog false (Instr.loadAt 29 x2) k h_13 ⟨⟩) (k undef h_13) ⟨⟩ ⟨⟩) (fun t28 h_14 => 
                            Join1 (fun k_1 h_15 => guardP t26 false (CallsH Try.prog 9 #[t28] h_15 k_1 ⟨⟩) (k_1 undef h_15) ⟨⟩ ⟨⟩) (fun t29 h_16 => 
                              Join1 (fun k_2 h_17 => guardP t26 false (Hp Try.prog false (Op.unary .not t29) k_2 h_17 ⟨⟩) (k_2 undef h_17) ⟨⟩ ⟨⟩) (fun t30 h_18 => 
                                Hp Try.prog false (pickS t26 (.bool true) t30) (fun t31 h_19 => 
                                  Join1 (fun k_3 h_20 => guardP t31 false (Hp Try.prog false (Instr.loadAt 29 y3) k_3 h_20 ⟨⟩) (k_3 undef h_20) ⟨⟩ ⟨⟩) (fun t33 h_21 => 
                                    Join1 (fun k_4 h_22 => guardP t31 false (CallsH Try.prog 9 #[t33] h_22 k_4 ⟨⟩) (k_4 undef h_22) ⟨⟩ ⟨⟩) (fun t34 h_23 => 
                                      Join1 (fun k_5 h_24 => guardP t31 false (Hp Try.prog false (Op.unary .not t34) k_5 h_24 ⟨⟩) (k_5 undef h_24) ⟨⟩ ⟨⟩) (fun t35 h_25 => 
                                        Hp Try.prog false (pickS t31 (.bool true) t35) (fun t36 h_26 => 
                                          CondP t36 (
                                            Hp Try.prog false (binS .neq 25 (.tmp 37) (.const (.pointer none)) t24 (.pointer none)) (fun t38 h_27 => 
                                              Join1 (fun k_6 h_28 => guardP t38 true (CallsH Try.prog 7 #[] h_28 k_6 ⟨⟩) (k_6 undef h_28) ⟨⟩ ⟨⟩) (fun t40 h_29 => 
                                                Hp Try.prog false (pickS t38 t40 (.bool false)) (fun t41 h_30 => 
                                                  R t41 h_30) h_29 ⟨⟩) h_27 ⟨⟩ ⟨⟩) h_26 ⟨⟩) (
                                            Hp Try.prog false (Instr.fieldAt 29 x2 1) (fun t42 h_31 => 
                                              Hp Try.prog false (Instr.loadAt 2 t42) (fun t43 h_32 => 
                                                Hp Try.prog false (Instr.fieldAt 29 y3 1) (fun t44 h_33 => 
                                                  Hp Try.prog false (Instr.loadAt 2 t44) (fun t45 h_34 => 
                                                    Hp Try.prog false (Builtin.max_ #[2, 2] 2 #[t43, t45]) (fun t46 h_35 => 
                                                      Hp Try.prog false (Instr.fieldAt 29 x2 1) (fun t47 h_36 => 
                                                        Hp Try.prog false (Instr.loadAt 2 t47) (fun t48 h_37 => 
                                                          Hp Try.prog false (Instr.fieldAt 29 x2 2) (fun t49 h_38 => 
                                                            Hp Try.prog false (Instr.loadAt 2 t49) (fun t50 h_39 => 
                                                              Hp Try.prog false (binS .add 2 (.tmp 48) (.tmp 50) t48 t50) (fun t51 h_40 => 
                                                                Hp Try.prog false (Instr.fieldAt 29 y3 1) (fun t52 h_41 => 
                                                                  Hp Try.prog false (Instr.loadAt 2 t52) (fun t53 h_42 => 
                                                                    Hp Try.prog false (Instr.fieldAt 29 y3 2) (fun t54 h_43 => 
                                                                      Hp Try.prog false (Instr.loadAt 2 t54) (fun t55 h_44 => 
                                                                        Hp Try.prog false (binS .add 2 (.tmp 53) (.tmp 55) t53 t55) (fun t56 h_45 => 
                                                                          Hp Try.prog false (Builtin.min_ #[2, 2] 2 #[t51, t56]) (fun t57 h_46 => 
                                                                            Hp Try.prog false (binS .lss 2 (.tmp 46) (.tmp 57) t46 t57) (fun t58 h_47 => 
                                                                              Hp Try.prog false (Instr.loadAt 29 x2) (fun t61 h_48 => 
                                                                                CallsH Try.prog 10 #[t24, t61] h_48 (fun t62 h_49 => 
                                                                                  Hp Try.prog false (Instr.extract t62 0) (fun t63 h_50 => 
                                                                                    Hp Try.prog false (Instr.extract t62 1) (fun t64 h_51 => 
                                                                                      Hp Try.prog false (Instr.loadAt 29 y3) (fun t67 h_52 => 
                                                                                        CallsH Try.prog 10 #[t24, t67] h_52 (fun t68 h_53 => 
                                                                                          Hp Try.prog false (Instr.extract t68 0) (fun t69 h_54 => 
                                                                                            Hp Try.prog false (Instr.extract t68 1) (fun t70 h_55 => 
                                                                                              Hp Try.prog false (Op.unary .not t63) (fun t72 h_56 => 
                                                                                                Join1 (fun k_7 h_57 => guardP t72 false (k_7 t69 h_57) (k_7 undef h_57) ⟨⟩ ⟨⟩) (fun t74 h_58 => 
                                                                                                  Join1 (fun k_8 h_59 => guardP t72 false (Hp Try.prog false (Op.unary .not t74) k_8 h_59 ⟨⟩) (k_8 undef h_59) ⟨⟩ ⟨⟩) (fun t75 h_60 => 
                                                                                                    Hp Try.prog false (pickS t72 (.bool true) t75) (fun t76 h_61 => 
                                                                                                      Join1 (fun k_9 h_62 => guardP t76 false (k_9 t64 h_62) (k_9 undef h_62) ⟨⟩ ⟨⟩) (fun t78 h_63 => 
                                                                                                        Join1 (fun k_10 h_64 => guardP t76 false (CallsH Try.prog 11 #[t78] h_64 k_10 ⟨⟩) (k_10 undef h_64) ⟨⟩ ⟨⟩) (fun t79 h_65 => 
                                                                                                          Join1 (fun k_11 h_66 => guardP t76 false (k_11 t70 h_66) (k_11 undef h_66) ⟨⟩ ⟨⟩) (fun t80 h_67 => 
                                                                                                            Join1 (fun k_12 h_68 => guardP t76 false (CallsH Try.prog 11 #[t80] h_68 k_12 ⟨⟩) (k_12 undef h_68) ⟨⟩ ⟨⟩) (fun t81 h_69 => 
                                                                                                              Join1 (fun k_13 h_70 => guardP t76 false (Hp Try.prog false (binS .add 3 (.tmp 79) (.tmp 81) t79 t81) k_13 h_70 ⟨⟩) (k_13 undef h_70) ⟨⟩ ⟨⟩) (fun t82 h_71 => 
                                                                                                                Join1 (fun k_14 h_72 => guardP t76 false (Hp Try.prog false (binS .neq 3 (.tmp 82) (.const (.int .i64 0)) t82 (.int .i64 0)) k_14 h_72 ⟨⟩) (k_14 undef h_72) ⟨⟩ ⟨⟩) (fun t83 h_73 => 
                                                                                                                  Hp Try.prog false (pickS t76 (.bool true) t83) (fun t84 h_74 => 
                                                                                                                    CondP t84 (
                                                                                                                      R (.bool false) h_74) (
                                                                                                                      CallsH Try.prog 16 #[t24, (.int .i64 1)] h_74 (fun t86 h_75 => 
                                                                                                                        CallsH Try.prog 11 #[t86] h_75 (fun t87 h_76 => 
                                                                                                                          Hp Try.prog false (binS .eql 3 (.tmp 88) (.const (.int .i64 10)) t87 (.int .i64 10)) (fun t89 h_77 => 
                                                                                                                            Hp Try.prog false (binS .neq 4 (.tmp 89) (.tmp 90) t89 t58) (fun t91 h_78 => 
                                                                                                                              Join1 (fun k_15 h_79 => guardP t91 false (k_15 t87 h_79) (k_15 undef h_79) ⟨⟩ ⟨⟩) (fun t93 h_80 => 
                                                                                                                                Join1 (fun k_16 h_81 => guardP t91 false (Hp Try.prog false (binS .neq 3 (.tmp 93) (.const (.int .i64 0)) t93 (.int .i64 0)) k_16 h_81 ⟨⟩) (k_16 undef h_81) ⟨⟩ ⟨⟩) (fun t94 h_82 => 
                                                                                                                                  Join1 (fun k_17 h_83 => guardP t91 false (k_17 t94 h_83) (k_17 undef h_83) ⟨⟩ ⟨⟩) (fun t95 h_84 => 
                                                                                                                                    Join1 (fun k_18 h_85 => guardP t95 true (k_18 t87 h_85) (k_18 undef h_85) ⟨⟩ ⟨⟩) (fun t96 h_86 => 
                                                                                                                                      Join1 (fun k_19 h_87 => guardP t95 true (Hp Try.prog false (binS .neq 3 (.tmp 96) (.const (.int .i64 10)) t96 (.int .i64 10)) k_19 h_87 ⟨⟩) (k_19 undef h_87) ⟨⟩ ⟨⟩) (fun t97 h_88 => 
                                                                                                                                        Join1 (fun k_20 h_89 => guardP t91 false (Hp Try.prog false (pickS t95 t97 (.bool false)) k_20 h_89 ⟨⟩) (k_20 undef h_89) ⟨⟩ ⟨⟩) (fun t98 h_90 => 
                                                                                                                                          Hp Try.prog false (pickS t91 (.bool true) t98) (fun t99 h_91 => 
                                                                                                                                            CondP t99 (
                                                                                                                                              R (.bool false) h_91) (
                                                                                                                                              CallsH Try.prog 17 #[t24, (.int .i64 2)] h_91 (fun t102 h_92 => 
                                                                                                                                                Hp Try.prog false (Instr.extract t102 0) (fun t103 h_93 => 
                                                                                                                                                  Hp Try.prog false (Instr.extract t102 1) (fun t104 h_94 => 
                                                                                                                                                    Hp Try.prog false (Builtin.len_ #[23] 3 #[t103]) (fun t106 h_95 => 
                                                                                                                                                      Hp Try.prog false (binS .neq 3 (.tmp 106) (.const (.int .i64 0)) t106 (.int .i64 0)) (fun t107 h_96 => 
                                                                                                                                                        Join1 (fun k_21 h_97 => guardP t107 false (k_21 t104 h_97) (k_21 undef h_97) ⟨⟩ ⟨⟩) (fun t109 h_98 => 
                                                                                                                                                          Join1 (fun k_22 h_99 => guardP t107 false (CallsH Try.prog 11 #[t109] h_99 k_22 ⟨⟩) (k_22 undef h_99) ⟨⟩ ⟨⟩) (fun t110 h_100 => 
                                                                                                                                                            Join1 (fun k_23 h_101 => guardP t107 false (Hp Try.prog false (binS .neq 3 (.tmp 110) (.const (.int .i64 0)) t110 (.int .i64 0)) k_23 h_101 ⟨⟩) (k_23 undef h_101) ⟨⟩ ⟨⟩) (fun t111 h_102 => 
                                                                                                                                                              Hp Try.prog false (pickS t107 (.bool true) t111) (fun t112 h_103 => 
                                                                                                                                                                Join1 (fun k_24 h_104 => guardP t112 false (k_24 t24 h_104) (k_24 undef h_104) ⟨⟩ ⟨⟩) (fun t114 h_105 => 
                                                                                                                                                                  Join1 (fun k_25 h_106 => guardP t112 false (CallsH Try.prog 16 #[t114, (.int .i64 1)] h_106 k_25 ⟨⟩) (k_25 undef h_106) ⟨⟩ ⟨⟩) (fun t115 h_107 => 
                                                                                                                                                                    Join1 (fun k_26 h_108 => guardP t112 false (CallsH Try.prog 11 #[t115] h_108 k_26 ⟨⟩) (k_26 undef h_108) ⟨⟩ ⟨⟩) (fun t116 h_109 => 
                                                                                                                                                                      Join1 (fun k_27 h_110 => guardP t112 false (Hp Try.prog false (binS .neq 3 (.tmp 116) (.const (.int .i64 0)) t116 (.int .i64 0)) k_27 h_110 ⟨⟩) (k_27 undef h_110) ⟨⟩ ⟨⟩) (fun t117 h_111 => 
                                                                                                                                                                        Hp Try.prog false (pickS t112 (.bool true) t117) (fun t118 h_112 => 
                                                                                                                                                                          Join1 (fun k_28 h_113 => guardP t118 false (k_28 t24 h_113) (k_28 undef h_113) ⟨⟩ ⟨⟩) (fun t120 h_114 => 
                                                                                                                                                                            Join1 (fun k_29 h_115 => guardP t118 false (CallsH Try.prog 16 #[t120, (.int .i64 1)] h_115 k_29 ⟨⟩) (k_29 undef h_115) ⟨⟩ ⟨⟩) (fun t121 h_116 => 
                                                                                                                                                                              Join1 (fun k_30 h_117 => guardP t118 false (CallsH Try.prog 11 #[t121] h_117 k_30 ⟨⟩) (k_30 undef h_117) ⟨⟩ ⟨⟩) (fun t122 h_118 => 
                                                                                                                                                                                Join1 (fun k_31 h_119 => guardP t118 false (Hp Try.prog false (binS .neq 3 (.tmp 122) (.const (.int .i64 0)) t122 (.int .i64 0)) k_31 h_119 ⟨⟩) (k_31 undef h_119) ⟨⟩ ⟨⟩) (fun t123 h_120 => 
                                                                                                                                                                                  Hp Try.prog false (pickS t118 (.bool true) t123) (fun t124 h_121 => 
                                                                                                                                                                                    CondP t124 (
                                                                                                                                                                                      R (.bool false) h_121) (
                                                                                                                                                                                      Hp Try.prog false (Instr.loadAt 29 y3) (fun t127 h_122 => 
                                                                                                                                                                                        CallsH Try.prog 10 #[t24, t127] h_122 (fun t128 h_123 => 
                                                                                                                                                                                          Hp Try.prog false (Instr.extract t128 0) (fun t129 h_124 => 
                                                                                                                                                                                            Hp Try.prog false (Instr.extract t128 1) (fun t130 h_125 => 
                                                                                                                                                                                              Hp Try.prog false (binS .eql 4 (.tmp 131) (.tmp 132) t129 t58) (fun t133 h_126 => 
                                                                                                                                                                                                Join1 (fun k_32 h_127 => guardP t133 false (k_32 t130 h_127) (k_32 undef h_127) ⟨⟩ ⟨⟩) (fun t135 h_128 => 
                                                                                                                                                                                                  Join1 (fun k_33 h_129 => guardP t133 false (CallsH Try.prog 11 #[t135] h_129 k_33 ⟨⟩) (k_33 undef h_129) ⟨⟩ ⟨⟩) (fun t136 h_130 => 
                                                                                                                                                                                                    Join1 (fun k_34 h_131 => guardP t133 false (Hp Try.prog false (binS .neq 3 (.tmp 136) (.const (.int .i64 0)) t136 (.int .i64 0)) k_34 h_131 ⟨⟩) (k_34 undef h_131) ⟨⟩ ⟨⟩) (fun t137 h_132 => 
                                                                                                                                                                                                      Hp Try.prog false (pickS t133 (.bool true) t137) (fun t138 h_133 => 
                                                                                                                                                                                                        CondP t138 (
                                                                                                                                                                                                          R (.bool false) h_133) (
                                                                                                                                                                                                          CallsH Try.prog 18 #[t24, (.int .i64 1)] h_133 (fun t141 h_134 => 
                                                                                                                                                                                                            Hp Try.prog false (Instr.extract t141 0) (fun t142 h_135 => 
                                                                                                                                                                                                              Hp Try.prog false (Instr.extract t141 1) (fun t143 h_136 => 
                                                                                                                                                                                                                CallsH Try.prog 11 #[t143] h_136 (fun t145 h_137 => 
                                                                                                                                                                                                                  Hp Try.prog false (binS .neq 3 (.tmp 145) (.const (.int .i64 0)) t145 (.int .i64 0)) (fun t146 h_138 => 
                                                                                                                                                                                                                    Join1 (fun k_35 h_139 => guardP t146 false (k_35 t58 h_139) (k_35 undef h_139) ⟨⟩ ⟨⟩) (fun t148 h_140 => 
                                                                                                                                                                                                                      Join1 (fun k_36 h_141 => guardP t146 false (k_36 t148 h_141) (k_36 undef h_141) ⟨⟩ ⟨⟩) (fun t149 h_142 => 
                                                                                                                                                                                                                        Join1 (fun k_37 h_143 => guardP t149 true (k_37 t142 h_143) (k_37 undef h_143) ⟨⟩ ⟨⟩) (fun t150 h_144 => 
                                                                                                                                                                                                                          Join1 (fun k_38 h_145 => guardP t149 true (Hp Try.prog false (Builtin.len_ #[23] 3 #[t150]) k_38 h_145 ⟨⟩) (k_38 undef h_145) ⟨⟩ ⟨⟩) (fun t151 h_146 => 
                                                                                                                                                                                                                            Join1 (fun k_39 h_147 => guardP t149 true (Hp Try.prog false (binS .neq 3 (.tmp 151) (.const (.int .i64 1)) t151 (.int .i64 1)) k_39 h_147 ⟨⟩) (k_39 undef h_147) ⟨⟩ ⟨⟩) (fun t152 h_148 => 
                                                                                                                                                                                                                              Join1 (fun k_40 h_149 => guardP t149 true (k_40 t152 h_149) (k_40 undef h_149) ⟨⟩ ⟨⟩) (fun t153 h_150 => 
                                                                                                                                                                                                                                Join1 (fun k_41 h_151 => guardP t153 false (k_41 t142 h_151) (k_41 undef h_151) ⟨⟩ ⟨⟩) (fun t154 h_152 => 
                                                                                                                                                                                                                                  Join1 (fun k_42 h_153 => guardP t153 false (Hp Try.prog false (Instr.indexAt 23 t154 (.int .i64 0)) k_42 h_153 ⟨⟩) (k_42 undef h_153) ⟨⟩ ⟨⟩) (fun t155 h_154 => 
                                                                                                                                                                                                                                    Join1 (fun k_43 h_155 => guardP t153 false (Hp Try.prog false (Instr.loadAt 3 t155) k_43 h_155 ⟨⟩) (k_43 undef h_155) ⟨⟩ ⟨⟩) (fun t156 h_156 => 
                                                                                                                                                                                                                                      Join1 (fun k_44 h_157 => guardP t153 false (Hp Try.prog false (binS .neq 3 (.tmp 156) (.const (.int .i64 2)) t156 (.int .i64 2)) k_44 h_157 ⟨⟩) (k_44 undef h_157) ⟨⟩ ⟨⟩) (fun t157 h_158 => 
                                                                                                                                                                                                                                        Join1 (fun k_45 h_159 => guardP t149 true (Hp Try.prog false (pickS t153 (.bool true) t157) k_45 h_159 ⟨⟩) (k_45 undef h_159) ⟨⟩ ⟨⟩) (fun t158 h_160 => 
                                                                                                                                                                                                                                          Join1 (fun k_46 h_161 => guardP t146 false (Hp Try.prog false (pickS t149 t158 (.bool false)) k_46 h_161 ⟨⟩) (k_46 undef h_161) ⟨⟩ ⟨⟩) (fun t159 h_162 => 
                                                                                                                                                                                                                                            Hp Try.prog false (pickS t146 (.bool true) t159) (fun t160 h_163 => 
                                                                                                                                                                                                                                              Join1 (fun k_47 h_164 => guardP t160 false (k_47 t58 h_164) (k_47 undef h_164) ⟨⟩ ⟨⟩) (fun t162 h_165 => 
                                                                                                                                                                                                                                                Join1 (fun k_48 h_166 => guardP t160 false (Hp Try.prog false (Op.unary .not t162) k_48 h_166 ⟨⟩) (k_48 undef h_166) ⟨⟩ ⟨⟩) (fun t163 h_167 => 
                                                                                                                                                                                                                                                  Join1 (fun k_49 h_168 => guardP t160 false (k_49 t163 h_168) (k_49 undef h_168) ⟨⟩ ⟨⟩) (fun t164 h_169 => 
                                                                                                                                                                                                                                                    Join1 (fun k_50 h_170 => guardP t164 true (k_50 t142 h_170) (k_50 undef h_170) ⟨⟩ ⟨⟩) (fun t165 h_171 => 
                                                                                                                                                                                                                                                      Join1 (fun k_51 h_172 => guardP t164 true (Hp Try.prog false (Builtin.len_ #[23] 3 #[t165]) k_51 h_172 ⟨⟩) (k_51 undef h_172) ⟨⟩ ⟨⟩) (fun t166 h_173 => 
                                                                                                                                                                                                                                                        Join1 (fun k_52 h_174 => guardP t164 true (Hp Try.prog false (binS .neq 3 (.tmp 166) (.const (.int .i64 0)) t166 (.int .i64 0)) k_52 h_174 ⟨⟩) (k_52 undef h_174) ⟨⟩ ⟨⟩) (fun t167 h_175 => 
                                                                                                                                                                                                                                                          Join1 (fun k_53 h_176 => guardP t160 false (Hp Try.prog false (pickS t164 t167 (.bool false)) k_53 h_176 ⟨⟩) (k_53 undef h_176) ⟨⟩ ⟨⟩) (fun t168 h_177 => 
                                                                                                                                                                                                                                                            Hp Try.prog false (pickS t160 (.bool true) t168) (fun t169 h_178 => 
                                                                                                                                                                                                                                                              CondP t169 (
                                                                                                                                                                                                                                                                R (.bool false) h_178) (
                                                                                                                                                                                                                                                                CallsH Try.prog 14 #[t24] h_178 (fun t172 h_179 => 
                                                                                                                                                                                                                                                                  Hp Try.prog false (Instr.extract t172 0) (fun t173 h_180 => 
                                                                                                                                                                                                                                                                    Hp Try.prog false (Instr.extract t172 1) (fun t174 h_181 => 
                                                                                                                                                                                                                                                                      Hp Try.prog false (binS .eql 3 (.tmp 175) (.const (.int .i64 2)) t173 (.int .i64 2)) (fun t176 h_182 => 
                                                                                                                                                                                                                                                                        Join1 (fun k_54 h_183 => guardP t176 true (k_54 t174 h_183) (k_54 undef h_183) ⟨⟩ ⟨⟩) (fun t178 h_184 => 
                                                                                                                                                                                                                                                                          Join1 (fun k_55 h_185 => guardP t176 true (Hp Try.prog false (binS .eql 3 (.tmp 178) (.const (.int .i64 0)) t178 (.int .i64 0)) k_55 h_185 ⟨⟩) (k_55 undef h_185) ⟨⟩ ⟨⟩) (fun t179 h_186 => 
                                                                                                                                                                                                                                                                            Hp Try.prog false (pickS t176 t179 (.bool false)) (fun t180 h_187 => 
                                                                                                                                                                                                                                                                              Join1 (fun k_56 h_188 => guardP t180 true (CallsH Try.prog 7 #[] h_188 k_56 ⟨⟩) (k_56 undef h_188) ⟨⟩ ⟨⟩) (fun t182 h_189 => 
                                                                                                                                                                                                                                                                                Hp Try.prog false (pickS t180 t182 (.bool false)) (fun t183 h_190 => 
                                                                                                                                                                                                                                                                                  R t183 h_190) h_189 ⟨⟩) h_187 ⟨⟩ ⟨⟩) h_186 ⟨⟩) h_184 ⟨⟩ ⟨⟩) h_182 ⟨⟩ ⟨⟩) h_181 ⟨⟩) h_180 ⟨⟩) h_179 ⟨⟩) ⟨⟩) ⟨⟩ ⟨⟩) h_177 ⟨⟩) h_175 ⟨⟩ ⟨⟩) h_173 ⟨⟩ ⟨⟩) h_171 ⟨⟩ ⟨⟩) h_169 ⟨⟩ ⟨⟩) h_167 ⟨⟩ ⟨⟩) h_165 ⟨⟩ ⟨⟩) h_163 ⟨⟩ ⟨⟩) h_162 ⟨⟩) h_160 ⟨⟩ ⟨⟩) h_158 ⟨⟩ ⟨⟩) h_156 ⟨⟩ ⟨⟩) h_154 ⟨⟩ ⟨⟩) h_152 ⟨⟩ ⟨⟩) h_150 ⟨⟩ ⟨⟩) h_148 ⟨⟩ ⟨⟩) h_146 ⟨⟩ ⟨⟩) h_144 ⟨⟩ ⟨⟩) h_142 ⟨⟩ ⟨⟩) h_140 ⟨⟩ ⟨⟩) h_138 ⟨⟩ ⟨⟩) h_137 ⟨⟩) ⟨⟩) h_135 ⟨⟩) h_134 ⟨⟩) ⟨⟩) ⟨⟩ ⟨⟩) h_132 ⟨⟩) h_130 ⟨⟩ ⟨⟩) h_128 ⟨⟩ ⟨⟩) h_126 ⟨⟩ ⟨⟩) h_125 ⟨⟩) h_124 ⟨⟩) h_123 ⟨⟩) ⟨⟩) h_121 ⟨⟩) ⟨⟩ ⟨⟩) h_120 ⟨⟩) h_118 ⟨⟩ ⟨⟩) h_116 ⟨⟩ ⟨⟩) h_114 ⟨⟩ ⟨⟩) h_112 ⟨⟩ ⟨⟩) h_111 ⟨⟩) h_109 ⟨⟩ ⟨⟩) h_107 ⟨⟩ ⟨⟩) h_105 ⟨⟩ ⟨⟩) h_103 ⟨⟩ ⟨⟩) h_102 ⟨⟩) h_100 ⟨⟩ ⟨⟩) h_98 ⟨⟩ ⟨⟩) h_96 ⟨⟩ ⟨⟩) h_95 ⟨⟩) h_94 ⟨⟩) h_93 ⟨⟩) h_92 ⟨⟩) ⟨⟩) ⟨⟩ ⟨⟩) h_90 ⟨⟩) h_88 ⟨⟩ ⟨⟩) h_86 ⟨⟩ ⟨⟩) h_84 ⟨⟩ ⟨⟩) h_82 ⟨⟩ ⟨⟩) h_80 ⟨⟩ ⟨⟩) h_78 ⟨⟩ ⟨⟩) h_77 ⟨⟩) h_76 ⟨⟩) ⟨⟩) ⟨⟩) ⟨⟩ ⟨⟩) h_73 ⟨⟩) h_71 ⟨⟩ ⟨⟩) h_69 ⟨⟩ ⟨⟩) h_67 ⟨⟩ ⟨⟩) h_65 ⟨⟩ ⟨⟩) h_63 ⟨⟩ ⟨⟩) h_61 ⟨⟩ ⟨⟩) h_60 ⟨⟩) h_58 ⟨⟩ ⟨⟩) h_56 ⟨⟩ ⟨⟩) h_55 ⟨⟩) h_54 ⟨⟩) h_53 ⟨⟩) ⟨⟩) h_51 ⟨⟩) h_50 ⟨⟩) h_49 ⟨⟩) ⟨⟩) h_47 ⟨⟩) h_46 ⟨⟩) h_45 ⟨⟩) h_44 ⟨⟩) h_43 ⟨⟩) h_42 ⟨⟩) h_41 ⟨⟩) h_40 ⟨⟩) h_39 ⟨⟩) h_38 ⟨⟩) h_37 ⟨⟩) h_36 ⟨⟩) h_35 ⟨⟩) h_34 ⟨⟩) h_33 ⟨⟩) h_32 ⟨⟩) h_31 ⟨⟩) h_26 ⟨⟩) ⟨⟩ ⟨⟩) h_25 ⟨⟩) h_23 ⟨⟩ ⟨⟩) h_21 ⟨⟩ ⟨⟩) h_19 ⟨⟩ ⟨⟩) h_18 ⟨⟩) h_16 ⟨⟩ ⟨⟩) h_14 ⟨⟩ ⟨⟩) h_12 ⟨⟩ ⟨⟩) h_11 ⟨⟩) ⟨⟩) h_9 ⟨⟩) h_8 ⟨⟩) h_7 ⟨⟩) h_6 ⟨⟩) h_5 ⟨⟩) h_4 ⟨⟩) h_3 ⟨⟩) h_2 ⟨⟩) h_1 ⟨⟩) h ⟨⟩

theorem n5_calls {x0 y1 : Value} {R : Value → Heap → Prop} {h : Heap} (H : n5 x0 y1 R h) : CallsH Try.prog 5 #[x0, y1] h R ⟨⟩ :=
  callsH_of_eq Try.follow .l Try.func5 (by kernel_rfl) (by kernel_rfl) (by kernel_rfl) H

/-- palimpsest/palimpsestlaw23.LocksCould -/
def n6 (l0 x1 : Value) (R : Value → Heap → Prop) (h : Heap) : Prop :=
  Hp Try.prog false (Instr.box 29 x1) (fun x3 h_1 => 
    CallsH Try.prog 8 #[] h_1 (fun t23 h_2 => 
      Hp Try.prog false (Builtin.len_ #[22] 3 #[l0]) (fun t25 h_3 => 
        Hp Try.prog false (binS .gtr 3 (.tmp 25) (.const (.int .i64 60)) t25 (.int .i64 60)) (fun t26 h_4 => 
          Join1 (fun k h_5 => guardP t26 false (k t23 h_5) (k undef h_5) ⟨⟩ ⟨⟩) (fun t28 h_6 => 
            Join1 (fun k_1 h_7 => guardP t26 false (Hp Try.prog false (binS .eql 25 (.tmp 28) (.const (.pointer none)) t28 (.pointer none)) k_1 h_7 ⟨⟩) (k_1 undef h_7) ⟨⟩ ⟨⟩) (fun t29 h_8 => 
              Hp Try.prog false (pickS t26 (.bool true) t29) (fun t30 h_9 => 
                CondP t30 (
                  Hp Try.prog false (binS .neq 25 (.tmp 31) (.const (.pointer none)) t23 (.pointer none)) (fun t32 h_10 => 
                    Join1 (fun k_2 h_11 => guardP t32 true (CallsH Try.prog 7 #[] h_11 k_2 ⟨⟩) (k_2 undef h_11) ⟨⟩ ⟨⟩) (fun t34 h_12 => 
                      Hp Try.prog false (pickS t32 t34 (.bool false)) (fun t35 h_13 => 
                        R t35 h_13) h_12 ⟨⟩) h_10 ⟨⟩ ⟨⟩) h_9 ⟨⟩) (
                  CallsH Try.prog 19 #[t23, l0] h_9 (fun t39 h_14 => 
                    Hp Try.prog false (Instr.extract t39 0) (fun t40 h_15 => 
                      Hp Try.prog false (Instr.extract t39 1) (fun t41 h_16 => 
                        Hp Try.prog false (Builtin.len_ #[22] 3 #[t40]) (fun t43 h_17 => 
                          Hp Try.prog false (Instr.fieldAt 29 x3 0) (fun t44 h_18 => 
                            Hp Try.prog false (storeS 3 t44 t43) (fun _ h_19 => 
                              Hp Try.prog false (Op.unary .not t41) (fun t46 h_20 => 
                                Join1 (fun k_3 h_21 => guardP t46 false (Hp Try.prog false (Instr.loadAt 29 x3) k_3 h_21 ⟨⟩) (k_3 undef h_21) ⟨⟩ ⟨⟩) (fun t48 h_22 => 
                                  Join1 (fun k_4 h_23 => guardP t46 false (CallsH Try.prog 9 #[t48] h_23 k_4 ⟨⟩) (k_4 undef h_23) ⟨⟩ ⟨⟩) (fun t49 h_24 => 
                                    Join1 (fun k_5 h_25 => guardP t46 false (Hp Try.prog false (Op.unary .not t49) k_5 h_25 ⟨⟩) (k_5 undef h_25) ⟨⟩ ⟨⟩) (fun t50 h_26 => 
                                      Hp Try.prog false (pickS t46 (.bool true) t50) (fun t51 h_27 => 
                                        CondP t51 (
                                          Join1 (fun k_6 h_28 => guardP t41 true (CallsH Try.prog 7 #[] h_28 k_6 ⟨⟩) (k_6 undef h_28) ⟨⟩ ⟨⟩) (fun t54 h_29 => 
                                            Hp Try.prog false (pickS t41 t54 (.bool false)) (fun t55 h_30 => 
                                              R t55 h_30) h_29 ⟨⟩) h_27 ⟨⟩ ⟨⟩) (
                                          CallsH Try.prog 14 #[t23] h_27 (fun t58 h_31 => 
                                            Hp Try.prog false (Instr.extract t58 0) (fun t59 h_32 => 
                                              Hp Try.prog false (Instr.extract t58 1) (fun t60 h_33 => 
                                                Hp Try.prog false (Instr.loadAt 29 x3) (fun t63 h_34 => 
                                                  CallsH Try.prog 20 #[t23, t63] h_34 (fun t64 h_35 => 
                                                    Hp Try.prog false (Instr.extract t64 0) (fun t65 h_36 => 
                                                      Hp Try.prog false (Instr.extract t64 1) (fun t66 h_37 => 
                                                        CallsH Try.prog 14 #[t23] h_37 (fun t69 h_38 => 
                                                          Hp Try.prog false (Instr.extract t69 0) (fun t70 h_39 => 
                                                            Hp Try.prog false (Instr.extract t69 1) (fun t71 h_40 => 
                                                              Hp Try.prog false (Instr.loadAt 29 x3) (fun t74 h_41 => 
                                                                CallsH Try.prog 10 #[t23, t74] h_41 (fun t75 h_42 => 
                                                                  Hp Try.prog false (Instr.extract t75 0) (fun t76 h_43 => 
                                                                    Hp Try.prog false (Instr.extract t75 1) (fun t77 h_44 => 
                                                                      Hp Try.prog false (Instr.fieldAt 29 x3 0) (fun t80 h_45 => 
                                                                        Hp Try.prog false (Instr.loadAt 3 t80) (fun t81 h_46 => 
                                                                          CallsH Try.prog 21 #[t23, t81] h_46 (fun t82 h_47 => 
                                                                            Hp Try.prog false (Instr.extract t82 0) (fun t83 h_48 => 
                                                                              Hp Try.prog false (Instr.extract t82 1) (fun t84 h_49 => 
                                                                                Hp Try.prog false (Instr.fieldAt 29 x3 0) (fun t87 h_50 => 
                                                                                  Hp Try.prog false (Instr.loadAt 3 t87) (fun t88 h_51 => 
                                                                                    CallsH Try.prog 22 #[t23, t88] h_51 (fun t89 h_52 => 
                                                                                      Hp Try.prog false (Instr.extract t89 0) (fun t90 h_53 => 
                                                                                        Hp Try.prog false (Instr.extract t89 1) (fun t91 h_54 => 
                                                                                          CallsH Try.prog 14 #[t23] h_54 (fun t94 h_55 => 
                                                                                            Hp Try.prog false (Instr.extract t94 0) (fun t95 h_56 => 
                                                                                              Hp Try.prog false (Instr.extract t94 1) (fun t96 h_57 => 
                                                                                                CallsH Try.prog 11 #[t66] h_57 (fun t98 h_58 => 
                                                                                                  CallsH Try.prog 11 #[t77] h_58 (fun t100 h_59 => 
                                                                                                    Hp Try.prog false (binS .add 3 (.tmp 98) (.tmp 100) t98 t100) (fun t101 h_60 => 
                                                                                                      CallsH Try.prog 11 #[t84] h_60 (fun t103 h_61 => 
                                                                                                        Hp Try.prog false (binS .add 3 (.tmp 101) (.tmp 103) t101 t103) (fun t104 h_62 => 
                                                                                                          CallsH Try.prog 11 #[t91] h_62 (fun t106 h_63 => 
                                                                                                            Hp Try.prog false (binS .add 3 (.tmp 104) (.tmp 106) t104 t106) (fun t107 h_64 => 
                                                                                                              Hp Try.prog false (binS .neq 3 (.tmp 107) (.const (.int .i64 0)) t107 (.int .i64 0)) (fun t108 h_65 => 
                                                                                                                Join1 (fun k_7 h_66 => guardP t108 false (k_7 t59 h_66) (k_7 undef h_66) ⟨⟩ ⟨⟩) (fun t110 h_67 => 
                                                                                                                  Join1 (fun k_8 h_68 => guardP t108 false (k_8 t70 h_68) (k_8 undef h_68) ⟨⟩ ⟨⟩) (fun t111 h_69 => 
                                                                                                                    Join1 (fun k_9 h_70 => guardP t108 false (Hp Try.prog false (binS .neq 3 (.tmp 110) (.tmp 111) t110 t111) k_9 h_70 ⟨⟩) (k_9 undef h_70) ⟨⟩ ⟨⟩) (fun t112 h_71 => 
                                                                                                                      Hp Try.prog false (pickS t108 (.bool true) t112) (fun t113 h_72 => 
                                                                                                                        Join1 (fun k_10 h_73 => guardP t113 false (k_10 t60 h_73) (k_10 undef h_73) ⟨⟩ ⟨⟩) (fun t115 h_74 => 
                                                                                                                          Join1 (fun k_11 h_75 => guardP t113 false (k_11 t71 h_75) (k_11 undef h_75) ⟨⟩ ⟨⟩) (fun t116 h_76 => 
                                                                                                                            Join1 (fun k_12 h_77 => guardP t113 false (Hp Try.prog false (binS .neq 3 (.tmp 115) (.tmp 116) t115 t116) k_12 h_77 ⟨⟩) (k_12 undef h_77) ⟨⟩ ⟨⟩) (fun t117 h_78 => 
                                                                                                                              Hp Try.prog false (pickS t113 (.bool true) t117) (fun t118 h_79 => 
                                                                                                                                Join1 (fun k_13 h_80 => guardP t118 false (k_13 t65 h_80) (k_13 undef h_80) ⟨⟩ ⟨⟩) (fun t120 h_81 => 
                                                                                                                                  Join1 (fun k_14 h_82 => guardP t118 false (k_14 t76 h_82) (k_14 undef h_82) ⟨⟩ ⟨⟩) (fun t121 h_83 => 
                                                                                                                                    Join1 (fun k_15 h_84 => guardP t118 false (Hp Try.prog false (binS .neq 4 (.tmp 120) (.tmp 121) t120 t121) k_15 h_84 ⟨⟩) (k_15 undef h_84) ⟨⟩ ⟨⟩) (fun t122 h_85 => 
                                                                                                                                      Hp Try.prog false (pickS t118 (.bool true) t122) (fun t123 h_86 => 
                                                                                                                                        Join1 (fun k_16 h_87 => guardP t123 false (k_16 t76 h_87) (k_16 undef h_87) ⟨⟩ ⟨⟩) (fun t125 h_88 => 
                                                                                                                                          Join1 (fun k_17 h_89 => guardP t123 false (k_17 t83 h_89) (k_17 undef h_89) ⟨⟩ ⟨⟩) (fun t126 h_90 => 
                                                                                                                                            Join1 (fun k_18 h_91 => guardP t123 false (Hp Try.prog false (binS .neq 4 (.tmp 125) (.tmp 126) t125 t126) k_18 h_91 ⟨⟩) (k_18 undef h_91) ⟨⟩ ⟨⟩) (fun t127 h_92 => 
                                                                                                                                              Hp Try.prog false (pickS t123 (.bool true) t127) (fun t128 h_93 => 
                                                                                                                                                Join1 (fun k_19 h_94 => guardP t128 false (k_19 t76 h_94) (k_19 undef h_94) ⟨⟩ ⟨⟩) (fun t130 h_95 => 
                                                                                                                                                  Join1 (fun k_20 h_96 => guardP t128 false (k_20 t90 h_96) (k_20 undef h_96) ⟨⟩ ⟨⟩) (fun t131 h_97 => 
                                                                                                                                                    Join1 (fun k_21 h_98 => guardP t128 false (Hp Try.prog false (Builtin.len_ #[23] 3 #[t131]) k_21 h_98 ⟨⟩) (k_21 undef h_98) ⟨⟩ ⟨⟩) (fun t132 h_99 => 
                                                                                                                                                      Join1 (fun k_22 h_100 => guardP t128 false (Hp Try.prog false (binS .eql 3 (.tmp 132) (.const (.int .i64 0)) t132 (.int .i64 0)) k_22 h_100 ⟨⟩) (k_22 undef h_100) ⟨⟩ ⟨⟩) (fun t133 h_101 => 
                                                                                                                                                        Join1 (fun k_23 h_102 => guardP t128 false (Hp Try.prog false (binS .neq 4 (.tmp 130) (.tmp 133) t130 t133) k_23 h_102 ⟨⟩) (k_23 undef h_102) ⟨⟩ ⟨⟩) (fun t134 h_103 => 
                                                                                                                                                          Hp Try.prog false (pickS t128 (.bool true) t134) (fun t135 h_104 => 
                                                                                                                                                            Join1 (fun k_24 h_105 => guardP t135 false (k_24 t95 h_105) (k_24 undef h_105) ⟨⟩ ⟨⟩) (fun t137 h_106 => 
                                                                                                                                                              Join1 (fun k_25 h_107 => guardP t135 false (k_25 t96 h_107) (k_25 undef h_107) ⟨⟩ ⟨⟩) (fun t138 h_108 => 
                                                                                                                                                                Join1 (fun k_26 h_109 => guardP t135 false (Hp Try.prog false (binS .add 3 (.tmp 137) (.tmp 138) t137 t138) k_26 h_109 ⟨⟩) (k_26 undef h_109) ⟨⟩ ⟨⟩) (fun t139 h_110 => 
                                                                                                                                                                  Join1 (fun k_27 h_111 => guardP t135 false (k_27 t59 h_111) (k_27 undef h_111) ⟨⟩ ⟨⟩) (fun t140 h_112 => 
                                                                                                                                                                    Join1 (fun k_28 h_113 => guardP t135 false (k_28 t60 h_113) (k_28 undef h_113) ⟨⟩ ⟨⟩) (fun t141 h_114 => 
                                                                                                                                                                      Join1 (fun k_29 h_115 => guardP t135 false (Hp Try.prog false (binS .add 3 (.tmp 140) (.tmp 141) t140 t141) k_29 h_115 ⟨⟩) (k_29 undef h_115) ⟨⟩ ⟨⟩) (fun t142 h_116 => 
                                                                                                                                                                        Join1 (fun k_30 h_117 => guardP t135 false (Hp Try.prog false (binS .add 3 (.tmp 142) (.const (.int .i64 1)) t142 (.int .i64 1)) k_30 h_117 ⟨⟩) (k_30 undef h_117) ⟨⟩ ⟨⟩) (fun t143 h_118 => 
                                                                                                                                                                          Join1 (fun k_31 h_119 => guardP t135 false (Hp Try.prog false (binS .neq 3 (.tmp 139) (.tmp 143) t139 t143) k_31 h_119 ⟨⟩) (k_31 undef h_119) ⟨⟩ ⟨⟩) (fun t144 h_120 => 
                                                                                                                                                                            Hp Try.prog false (pickS t135 (.bool true) t144) (fun t145 h_121 => 
                                                                                                                                                                              CondP t145 (
                                                                                                                                                                                R (.bool false) h_121) (
                                                                                                                                                                                LoopC 1 (fun (X : Value → Heap → Prop) => fun i22 h_122 =>
                                                                                                                                                                                  Hp Try.prog false (Builtin.len_ #[23] 3 #[t90]) (fun t148 h_123 => 
                                                                                                                                                                                    Hp Try.prog false (binS .lss 3 (.tmp 146) (.tmp 148) i22 t148) (fun t149 h_124 => 
                                                                                                                                                                                      CondP t149 (
                                                                                                                                                                                        Hp Try.prog true (Instr.indexAt 23 t90 i22) (fun t154 _ => 
                                                                                                                                                                                          Hp Try.prog true (Instr.loadAt 3 t154) (fun t155 _ => 
                                                                                                                                                                                            Hp Try.prog true (binS .lss 3 (.tmp 155) (.const (.int .i64 0)) t155 (.int .i64 0)) (fun t156 _ => 
                                                                                                                                                                                              Join1 (fun k_32 h_125 => guardP t156 false (k_32 t90 h_125) (k_32 undef h_125) ⟨⟩ ⟨⟩) (fun t158 _ => 
                                                                                                                                                                                                Join1 (fun k_33 h_126 => guardP t156 false (k_33 i22 h_126) (k_33 undef h_126) ⟨⟩ ⟨⟩) (fun t159 _ => 
                                                                                                                                                                                                  Join1 (fun k_34 h_127 => guardP t156 false (Hp Try.prog true (Instr.indexAt 23 t158 t159) k_34 h_127 ⟨⟩) (k_34 undef h_127) ⟨⟩ ⟨⟩) (fun t160 _ => 
                                                                                                                                                                                                    Join1 (fun k_35 h_128 => guardP t156 false (Hp Try.prog true (Instr.loadAt 3 t160) k_35 h_128 ⟨⟩) (k_35 undef h_128) ⟨⟩ ⟨⟩) (fun t161 _ => 
                                                                                                                                                                                                      Join1 (fun k_36 h_129 => guardP t156 false (k_36 t40 h_129) (k_36 undef h_129) ⟨⟩ ⟨⟩) (fun t162 _ => 
                                                                                                                                                                                                        Join1 (fun k_37 h_130 => guardP t156 false (Hp Try.prog true (Builtin.len_ #[22] 3 #[t162]) k_37 h_130 ⟨⟩) (k_37 undef h_130) ⟨⟩ ⟨⟩) (fun t163 _ => 
                                                                                                                                                                                                          Join1 (fun k_38 h_131 => guardP t156 false (Hp Try.prog true (binS .geq 3 (.tmp 161) (.tmp 163) t161 t163) k_38 h_131 ⟨⟩) (k_38 undef h_131) ⟨⟩ ⟨⟩) (fun t164 _ => 
                                                                                                                                                                                                            Hp Try.prog true (pickS t156 (.bool true) t164) (fun t165 _ => 
                                                                                                                                                                                                              Join1 (fun k_39 h_132 => guardP t165 false (Hp Try.prog true (Instr.loadAt 29 x3) k_39 h_132 ⟨⟩) (k_39 undef h_132) ⟨⟩ ⟨⟩) (fun t167 _ => 
                                                                                                                                                                                                                Join1 (fun k_40 h_133 => guardP t165 false (k_40 t40 h_133) (k_40 undef h_133) ⟨⟩ ⟨⟩) (fun t168 _ => 
                                                                                                                                                                                                                  Join1 (fun k_41 h_134 => guardP t165 false (k_41 t90 h_134) (k_41 undef h_134) ⟨⟩ ⟨⟩) (fun t169 _ => 
                                                                                                                                                                                                                    Join1 (fun k_42 h_135 => guardP t165 false (k_42 i22 h_135) (k_42 undef h_135) ⟨⟩ ⟨⟩) (fun t170 _ => 
                                                                                                                                                                                                                      Join1 (fun k_43 h_136 => guardP t165 false (Hp Try.prog true (Instr.indexAt 23 t169 t170) k_43 h_136 ⟨⟩) (k_43 undef h_136) ⟨⟩ ⟨⟩) (fun t171 _ => 
                                                                                                                                                                                                                        Join1 (fun k_44 h_137 => guardP t165 false (Hp Try.prog true (Instr.loadAt 3 t171) k_44 h_137 ⟨⟩) (k_44 undef h_137) ⟨⟩ ⟨⟩) (fun t172 _ => 
                                                                                                                                                                                                                          Join1 (fun k_45 h_138 => guardP t165 false (Hp Try.prog true (Instr.indexAt 22 t168 t172) k_45 h_138 ⟨⟩) (k_45 undef h_138) ⟨⟩ ⟨⟩) (fun t173 _ => 
                                                                                                                                                                                                                            Join1 (fun k_46 h_139 => guardP t165 false (Hp Try.prog true (Instr.loadAt 29 t173) k_46 h_139 ⟨⟩) (k_46 undef h_139) ⟨⟩ ⟨⟩) (fun t174 _ => 
                                                                                                                                                                                                                              Join1 (fun k_47 h_140 => guardP t165 false (CallsH Try.prog 15 #[t167, t174] h_140 k_47 ⟨⟩) (k_47 undef h_140) ⟨⟩ ⟨⟩) (fun t175 h_141 => 
                                                                                                                                                                                                                                Join1 (fun k_48 h_142 => guardP t165 false (Hp Try.prog true (Op.unary .not t175) k_48 h_142 ⟨⟩) (k_48 undef h_142) ⟨⟩ ⟨⟩) (fun t176 _ => 
                                                                                                                                                                                                                                  Hp Try.prog true (pickS t165 (.bool true) t176) (fun t177 _ => 
                                                                                                                                                                                                                                    CondP t177 (
                                                                                                                                                                                                                                      R (.bool false) h_141) (
                                                                                                                                                                                                                                      Hp Try.prog false (binS .add 3 (.tmp 150) (.const (.int .i64 1)) i22 (.int .i64 1)) (fun t151 h_143 => 
                                                                                                                                                                                                                                        X t151 h_143) h_141 ⟨⟩) ⟨⟩ ⟨⟩) #[] ⟨⟩) #[] ⟨⟩ ⟨⟩) h_124 ⟨⟩ ⟨⟩) h_124 ⟨⟩ ⟨⟩) #[] ⟨⟩ ⟨⟩) h_124 ⟨⟩ ⟨⟩) #[] ⟨⟩ ⟨⟩) #[] ⟨⟩ ⟨⟩) #[] ⟨⟩ ⟨⟩) #[] ⟨⟩ ⟨⟩) h_124 ⟨⟩ ⟨⟩) #[] ⟨⟩) #[] ⟨⟩ ⟨⟩) #[] ⟨⟩ ⟨⟩) #[] ⟨⟩ ⟨⟩) h_124 ⟨⟩ ⟨⟩) #[] ⟨⟩ ⟨⟩) #[] ⟨⟩ ⟨⟩) #[] ⟨⟩ ⟨⟩) #[] ⟨⟩) h_124 ⟨⟩) #[] ⟨⟩) (
                                                                                                                                                                                        CallsH Try.prog 7 #[] h_124 (fun t178 h_144 => 
                                                                                                                                                                                          R t178 h_144) ⟨⟩) ⟨⟩ ⟨⟩) h_123 ⟨⟩) h_122 ⟨⟩) [(.int .i64 0)] h_121 ⟨⟩) ⟨⟩ ⟨⟩) h_120 ⟨⟩) h_118 ⟨⟩ ⟨⟩) h_116 ⟨⟩ ⟨⟩) h_114 ⟨⟩ ⟨⟩) h_112 ⟨⟩ ⟨⟩) h_110 ⟨⟩ ⟨⟩) h_108 ⟨⟩ ⟨⟩) h_106 ⟨⟩ ⟨⟩) h_104 ⟨⟩ ⟨⟩) h_103 ⟨⟩) h_101 ⟨⟩ ⟨⟩) h_99 ⟨⟩ ⟨⟩) h_97 ⟨⟩ ⟨⟩) h_95 ⟨⟩ ⟨⟩) h_93 ⟨⟩ ⟨⟩) h_92 ⟨⟩) h_90 ⟨⟩ ⟨⟩) h_88 ⟨⟩ ⟨⟩) h_86 ⟨⟩ ⟨⟩) h_85 ⟨⟩) h_83 ⟨⟩ ⟨⟩) h_81 ⟨⟩ ⟨⟩) h_79 ⟨⟩ ⟨⟩) h_78 ⟨⟩) h_76 ⟨⟩ ⟨⟩) h_74 ⟨⟩ ⟨⟩) h_72 ⟨⟩ ⟨⟩) h_71 ⟨⟩) h_69 ⟨⟩ ⟨⟩) h_67 ⟨⟩ ⟨⟩) h_65 ⟨⟩ ⟨⟩) h_64 ⟨⟩) h_63 ⟨⟩) ⟨⟩) h_61 ⟨⟩) ⟨⟩) h_59 ⟨⟩) ⟨⟩) ⟨⟩) h_56 ⟨⟩) h_55 ⟨⟩) ⟨⟩) h_53 ⟨⟩) h_52 ⟨⟩) ⟨⟩) h_50 ⟨⟩) h_49 ⟨⟩) h_48 ⟨⟩) h_47 ⟨⟩) ⟨⟩) h_45 ⟨⟩) h_44 ⟨⟩) h_43 ⟨⟩) h_42 ⟨⟩) ⟨⟩) h_40 ⟨⟩) h_39 ⟨⟩) h_38 ⟨⟩) ⟨⟩) h_36 ⟨⟩) h_35 ⟨⟩) ⟨⟩) h_33 ⟨⟩) h_32 ⟨⟩) h_31 ⟨⟩) ⟨⟩) ⟨⟩ ⟨⟩) h_26 ⟨⟩) h_24 ⟨⟩ ⟨⟩) h_22 ⟨⟩ ⟨⟩) h_20 ⟨⟩ ⟨⟩) h_19 ⟨⟩) h_18 ⟨⟩) h_17 ⟨⟩) h_16 ⟨⟩) h_15 ⟨⟩) h_14 ⟨⟩) ⟨⟩) ⟨⟩ ⟨⟩) h_8 ⟨⟩) h_6 ⟨⟩ ⟨⟩) h_4 ⟨⟩ ⟨⟩) h_3 ⟨⟩) h_2 ⟨⟩) ⟨⟩) h ⟨⟩

theorem n6_calls {l0 x1 : Value} {R : Value → Heap → Prop} {h : Heap} (H : n6 l0 x1 R h) : CallsH Try.prog 6 #[l0, x1] h R ⟨⟩ :=
  callsH_of_eq Try.follow (.n none .l (.n none .l (.n none .l (.n none .l (.n none .l (.n none .l (.n none .l (.n none .l (.n none .l (.n none .l (.n none .l (.n none .l (.n none .l (.n none .l (.n none (.n none .l (.n none (.n (some [23]) .l .l) .l)) .l))))))))))))))) Try.func6 (by kernel_rfl) (by kernel_rfl) (by kernel_rfl) H

/-- palimpsest/palimpsestlaw23.works -/
def n7 (R : Value → Heap → Prop) (h : Heap) : Prop :=
  CallsH Try.prog 8 #[] h (fun t12 h_1 => 
    Hp Try.prog false (binS .eql 25 (.tmp 13) (.const (.pointer none)) t12 (.pointer none)) (fun t14 h_2 => 
      Join1 (fun k h_3 => guardP t14 false (k t12 h_3) (k undef h_3) ⟨⟩ ⟨⟩) (fun t16 h_4 => 
        Join1 (fun k_1 h_5 => guardP t14 false (CallsH Try.prog 23 #[t16] h_5 k_1 ⟨⟩) (k_1 undef h_5) ⟨⟩ ⟨⟩) (fun t17 h_6 => 
          Join1 (fun k_2 h_7 => guardP t14 false (Hp Try.prog false (binS .eql 51 (.tmp 17) (.const .nilFunc) t17 .nilFunc) k_2 h_7 ⟨⟩) (k_2 undef h_7) ⟨⟩ ⟨⟩) (fun t18 h_8 => 
            Hp Try.prog false (pickS t14 (.bool true) t18) (fun t19 h_9 => 
              Join1 (fun k_3 h_10 => guardP t19 false (k_3 t12 h_10) (k_3 undef h_10) ⟨⟩ ⟨⟩) (fun t21 h_11 => 
                Join1 (fun k_4 h_12 => guardP t19 false (CallsH Try.prog 24 #[t21] h_12 k_4 ⟨⟩) (k_4 undef h_12) ⟨⟩ ⟨⟩) (fun t22 h_13 => 
                  Join1 (fun k_5 h_14 => guardP t19 false (Hp Try.prog false (binS .eql 51 (.tmp 22) (.const .nilFunc) t22 .nilFunc) k_5 h_14 ⟨⟩) (k_5 undef h_14) ⟨⟩ ⟨⟩) (fun t23 h_15 => 
                    Hp Try.prog false (pickS t19 (.bool true) t23) (fun t24 h_16 => 
                      CondP t24 (
                        R (.bool false) h_16) (
                        Hp Try.prog false (Instr.build 29 #[(0, (.int .i64 1)), (2, (.int .i64 10))]) (fun t27 h_17 => 
                          CallsH Try.prog 10 #[t12, t27] h_17 (fun t28 h_18 => 
                            Hp Try.prog false (Instr.extract t28 0) (fun t29 h_19 => 
                              Hp Try.prog false (Instr.extract t28 1) (fun t30 h_20 => 
                                Hp Try.prog false (Instr.build 29 #[(0, (.int .i64 2)), (1, (.int .i64 5)), (2, (.int .i64 10))]) (fun t33 h_21 => 
                                  CallsH Try.prog 10 #[t12, t33] h_21 (fun t34 h_22 => 
                                    Hp Try.prog false (Instr.extract t34 0) (fun t35 h_23 => 
                                      Hp Try.prog false (Instr.extract t34 1) (fun t36 h_24 => 
                                        Hp Try.prog false (Instr.build 29 #[(0, (.int .i64 3)), (1, (.int .i64 8)), (2, (.int .i64 1)), (3, (.bool true))]) (fun t39 h_25 => 
                                          CallsH Try.prog 10 #[t12, t39] h_25 (fun t40 h_26 => 
                                            Hp Try.prog false (Instr.extract t40 0) (fun t41 h_27 => 
                                              Hp Try.prog false (Instr.extract t40 1) (fun t42 h_28 => 
                                                CallsH Try.prog 17 #[t12, (.int .i64 1)] h_28 (fun t45 h_29 => 
                                                  Hp Try.prog false (Instr.extract t45 0) (fun t46 h_30 => 
                                                    Hp Try.prog false (Instr.extract t45 1) (fun t47 h_31 => 
                                                      CallsH Try.prog 17 #[t12, (.int .i64 2)] h_31 (fun t50 h_32 => 
                                                        Hp Try.prog false (Instr.extract t50 0) (fun t51 h_33 => 
                                                          Hp Try.prog false (Instr.extract t50 1) (fun t52 h_34 => 
                                                            Join1 (fun k_6 h_35 => guardP t29 true (k_6 t35 h_35) (k_6 undef h_35) ⟨⟩ ⟨⟩) (fun t55 h_36 => 
                                                              Hp Try.prog false (pickS t29 t55 (.bool false)) (fun t56 h_37 => 
                                                                Join1 (fun k_7 h_38 => guardP t56 true (k_7 t41 h_38) (k_7 undef h_38) ⟨⟩ ⟨⟩) (fun t58 h_39 => 
                                                                  Join1 (fun k_8 h_40 => guardP t56 true (Hp Try.prog false (Op.unary .not t58) k_8 h_40 ⟨⟩) (k_8 undef h_40) ⟨⟩ ⟨⟩) (fun t59 h_41 => 
                                                                    Hp Try.prog false (pickS t56 t59 (.bool false)) (fun t60 h_42 => 
                                                                      Join1 (fun k_9 h_43 => guardP t60 true (k_9 t30 h_43) (k_9 undef h_43) ⟨⟩ ⟨⟩) (fun t62 h_44 => 
                                                                        Join1 (fun k_10 h_45 => guardP t60 true (CallsH Try.prog 11 #[t62] h_45 k_10 ⟨⟩) (k_10 undef h_45) ⟨⟩ ⟨⟩) (fun t63 h_46 => 
                                                                          Join1 (fun k_11 h_47 => guardP t60 true (k_11 t36 h_47) (k_11 undef h_47) ⟨⟩ ⟨⟩) (fun t64 h_48 => 
                                                                            Join1 (fun k_12 h_49 => guardP t60 true (CallsH Try.prog 11 #[t64] h_49 k_12 ⟨⟩) (k_12 undef h_49) ⟨⟩ ⟨⟩) (fun t65 h_50 => 
                                                                              Join1 (fun k_13 h_51 => guardP t60 true (Hp Try.prog false (binS .add 3 (.tmp 63) (.tmp 65) t63 t65) k_13 h_51 ⟨⟩) (k_13 undef h_51) ⟨⟩ ⟨⟩) (fun t66 h_52 => 
                                                                                Join1 (fun k_14 h_53 => guardP t60 true (k_14 t42 h_53) (k_14 undef h_53) ⟨⟩ ⟨⟩) (fun t67 h_54 => 
                                                                                  Join1 (fun k_15 h_55 => guardP t60 true (CallsH Try.prog 11 #[t67] h_55 k_15 ⟨⟩) (k_15 undef h_55) ⟨⟩ ⟨⟩) (fun t68 h_56 => 
                                                                                    Join1 (fun k_16 h_57 => guardP t60 true (Hp Try.prog false (binS .add 3 (.tmp 66) (.tmp 68) t66 t68) k_16 h_57 ⟨⟩) (k_16 undef h_57) ⟨⟩ ⟨⟩) (fun t69 h_58 => 
                                                                                      Join1 (fun k_17 h_59 => guardP t60 true (k_17 t47 h_59) (k_17 undef h_59) ⟨⟩ ⟨⟩) (fun t70 h_60 => 
                                                                                        Join1 (fun k_18 h_61 => guardP t60 true (CallsH Try.prog 11 #[t70] h_61 k_18 ⟨⟩) (k_18 undef h_61) ⟨⟩ ⟨⟩) (fun t71 h_62 => 
                                                                                          Join1 (fun k_19 h_63 => guardP t60 true (Hp Try.prog false (binS .add 3 (.tmp 69) (.tmp 71) t69 t71) k_19 h_63 ⟨⟩) (k_19 undef h_63) ⟨⟩ ⟨⟩) (fun t72 h_64 => 
                                                                                            Join1 (fun k_20 h_65 => guardP t60 true (k_20 t52 h_65) (k_20 undef h_65) ⟨⟩ ⟨⟩) (fun t73 h_66 => 
                                                                                              Join1 (fun k_21 h_67 => guardP t60 true (CallsH Try.prog 11 #[t73] h_67 k_21 ⟨⟩) (k_21 undef h_67) ⟨⟩ ⟨⟩) (fun t74 h_68 => 
                                                                                                Join1 (fun k_22 h_69 => guardP t60 true (Hp Try.prog false (binS .add 3 (.tmp 72) (.tmp 74) t72 t74) k_22 h_69 ⟨⟩) (k_22 undef h_69) ⟨⟩ ⟨⟩) (fun t75 h_70 => 
                                                                                                  Join1 (fun k_23 h_71 => guardP t60 true (Hp Try.prog false (binS .eql 3 (.tmp 75) (.const (.int .i64 0)) t75 (.int .i64 0)) k_23 h_71 ⟨⟩) (k_23 undef h_71) ⟨⟩ ⟨⟩) (fun t76 h_72 => 
                                                                                                    Hp Try.prog false (pickS t60 t76 (.bool false)) (fun t77 h_73 => 
                                                                                                      Join1 (fun k_24 h_74 => guardP t77 true (k_24 t46 h_74) (k_24 undef h_74) ⟨⟩ ⟨⟩) (fun t79 h_75 => 
                                                                                                        Join1 (fun k_25 h_76 => guardP t77 true (Hp Try.prog false (Builtin.len_ #[23] 3 #[t79]) k_25 h_76 ⟨⟩) (k_25 undef h_76) ⟨⟩ ⟨⟩) (fun t80 h_77 => 
                                                                                                          Join1 (fun k_26 h_78 => guardP t77 true (Hp Try.prog false (binS .eql 3 (.tmp 80) (.const (.int .i64 0)) t80 (.int .i64 0)) k_26 h_78 ⟨⟩) (k_26 undef h_78) ⟨⟩ ⟨⟩) (fun t81 h_79 => 
                                                                                                            Hp Try.prog false (pickS t77 t81 (.bool false)) (fun t82 h_80 => 
                                                                                                              Join1 (fun k_27 h_81 => guardP t82 true (k_27 t51 h_81) (k_27 undef h_81) ⟨⟩ ⟨⟩) (fun t84 h_82 => 
                                                                                                                Join1 (fun k_28 h_83 => guardP t82 true (Hp Try.prog false (Builtin.len_ #[23] 3 #[t84]) k_28 h_83 ⟨⟩) (k_28 undef h_83) ⟨⟩ ⟨⟩) (fun t85 h_84 => 
                                                                                                                  Join1 (fun k_29 h_85 => guardP t82 true (Hp Try.prog false (binS .eql 3 (.tmp 85) (.const (.int .i64 1)) t85 (.int .i64 1)) k_29 h_85 ⟨⟩) (k_29 undef h_85) ⟨⟩ ⟨⟩) (fun t86 h_86 => 
                                                                                                                    Hp Try.prog false (pickS t82 t86 (.bool false)) (fun t87 h_87 => 
                                                                                                                      Join1 (fun k_30 h_88 => guardP t87 true (k_30 t51 h_88) (k_30 undef h_88) ⟨⟩ ⟨⟩) (fun t89 h_89 => 
                                                                                                                        Join1 (fun k_31 h_90 => guardP t87 true (Hp Try.prog false (Instr.indexAt 23 t89 (.int .i64 0)) k_31 h_90 ⟨⟩) (k_31 undef h_90) ⟨⟩ ⟨⟩) (fun t90 h_91 => 
                                                                                                                          Join1 (fun k_32 h_92 => guardP t87 true (Hp Try.prog false (Instr.loadAt 3 t90) k_32 h_92 ⟨⟩) (k_32 undef h_92) ⟨⟩ ⟨⟩) (fun t91 h_93 => 
                                                                                                                            Join1 (fun k_33 h_94 => guardP t87 true (Hp Try.prog false (binS .eql 3 (.tmp 91) (.const (.int .i64 3)) t91 (.int .i64 3)) k_33 h_94 ⟨⟩) (k_33 undef h_94) ⟨⟩ ⟨⟩) (fun t92 h_95 => 
                                                                                                                              Hp Try.prog false (pickS t87 t92 (.bool false)) (fun t93 h_96 => 
                                                                                                                                R t93 h_96) h_95 ⟨⟩) h_93 ⟨⟩ ⟨⟩) h_91 ⟨⟩ ⟨⟩) h_89 ⟨⟩ ⟨⟩) h_87 ⟨⟩ ⟨⟩) h_86 ⟨⟩) h_84 ⟨⟩ ⟨⟩) h_82 ⟨⟩ ⟨⟩) h_80 ⟨⟩ ⟨⟩) h_79 ⟨⟩) h_77 ⟨⟩ ⟨⟩) h_75 ⟨⟩ ⟨⟩) h_73 ⟨⟩ ⟨⟩) h_72 ⟨⟩) h_70 ⟨⟩ ⟨⟩) h_68 ⟨⟩ ⟨⟩) h_66 ⟨⟩ ⟨⟩) h_64 ⟨⟩ ⟨⟩) h_62 ⟨⟩ ⟨⟩) h_60 ⟨⟩ ⟨⟩) h_58 ⟨⟩ ⟨⟩) h_56 ⟨⟩ ⟨⟩) h_54 ⟨⟩ ⟨⟩) h_52 ⟨⟩ ⟨⟩) h_50 ⟨⟩ ⟨⟩) h_48 ⟨⟩ ⟨⟩) h_46 ⟨⟩ ⟨⟩) h_44 ⟨⟩ ⟨⟩) h_42 ⟨⟩ ⟨⟩) h_41 ⟨⟩) h_39 ⟨⟩ ⟨⟩) h_37 ⟨⟩ ⟨⟩) h_36 ⟨⟩) h_34 ⟨⟩ ⟨⟩) h_33 ⟨⟩) h_32 ⟨⟩) ⟨⟩) h_30 ⟨⟩) h_29 ⟨⟩) ⟨⟩) h_27 ⟨⟩) h_26 ⟨⟩) ⟨⟩) h_24 ⟨⟩) h_23 ⟨⟩) h_22 ⟨⟩) ⟨⟩) h_20 ⟨⟩) h_19 ⟨⟩) h_18 ⟨⟩) ⟨⟩) h_16 ⟨⟩) ⟨⟩ ⟨⟩) h_15 ⟨⟩) h_13 ⟨⟩ ⟨⟩) h_11 ⟨⟩ ⟨⟩) h_9 ⟨⟩ ⟨⟩) h_8 ⟨⟩) h_6 ⟨⟩ ⟨⟩) h_4 ⟨⟩ ⟨⟩) h_2 ⟨⟩ ⟨⟩) h_1 ⟨⟩) ⟨⟩

theorem n7_calls {R : Value → Heap → Prop} {h : Heap} (H : n7  R h) : CallsH Try.prog 7 #[] h R ⟨⟩ :=
  callsH_of_eq Try.follow .l Try.func7 (by kernel_rfl) (by kernel_rfl) (by kernel_rfl) H

/-- palimpsest/palimpsestref23.May -/
def n9 (x0 : Value) (R : Value → Heap → Prop) (h : Heap) : Prop :=
  Hp Try.prog false (Instr.box 29 x0) (fun x1 h_1 => 
    Hp Try.prog false (Instr.fieldAt 29 x1 0) (fun t3 h_2 => 
      Hp Try.prog false (Instr.loadAt 3 t3) (fun t4 h_3 => 
        CallsH Try.prog 25 #[t4] h_3 (fun t5 h_4 => 
          Join1 (fun k h_5 => guardP t5 true (Hp Try.prog false (Instr.fieldAt 29 x1 1) k h_5 ⟨⟩) (k undef h_5) ⟨⟩ ⟨⟩) (fun t7 h_6 => 
            Join1 (fun k_1 h_7 => guardP t5 true (Hp Try.prog false (Instr.loadAt 2 t7) k_1 h_7 ⟨⟩) (k_1 undef h_7) ⟨⟩ ⟨⟩) (fun t8 h_8 => 
              Join1 (fun k_2 h_9 => guardP t5 true (Hp Try.prog false (binS .geq 2 (.tmp 8) (.const (.int .i64 0)) t8 (.int .i64 0)) k_2 h_9 ⟨⟩) (k_2 undef h_9) ⟨⟩ ⟨⟩) (fun t9 h_10 => 
                Hp Try.prog false (pickS t5 t9 (.bool false)) (fun t10 h_11 => 
                  Join1 (fun k_3 h_12 => guardP t10 true (Hp Try.prog false (Instr.fieldAt 29 x1 2) k_3 h_12 ⟨⟩) (k_3 undef h_12) ⟨⟩ ⟨⟩) (fun t12 h_13 => 
                    Join1 (fun k_4 h_14 => guardP t10 true (Hp Try.prog false (Instr.loadAt 2 t12) k_4 h_14 ⟨⟩) (k_4 undef h_14) ⟨⟩ ⟨⟩) (fun t13 h_15 => 
                      Join1 (fun k_5 h_16 => guardP t10 true (Hp Try.prog false (binS .geq 2 (.tmp 13) (.const (.int .i64 0)) t13 (.int .i64 0)) k_5 h_16 ⟨⟩) (k_5 undef h_16) ⟨⟩ ⟨⟩) (fun t14 h_17 => 
                        Hp Try.prog false (pickS t10 t14 (.bool false)) (fun t15 h_18 => 
                          Join1 (fun k_6 h_19 => guardP t15 true (Hp Try.prog false (Instr.fieldAt 29 x1 1) k_6 h_19 ⟨⟩) (k_6 undef h_19) ⟨⟩ ⟨⟩) (fun t17 h_20 => 
                            Join1 (fun k_7 h_21 => guardP t15 true (Hp Try.prog false (Instr.loadAt 2 t17) k_7 h_21 ⟨⟩) (k_7 undef h_21) ⟨⟩ ⟨⟩) (fun t18 h_22 => 
                              Join1 (fun k_8 h_23 => guardP t15 true (Hp Try.prog false (binS .leq 2 (.tmp 18) (.const (.int .i64 72057594037927936)) t18 (.int .i64 72057594037927936)) k_8 h_23 ⟨⟩) (k_8 undef h_23) ⟨⟩ ⟨⟩) (fun t19 h_24 => 
                                Hp Try.prog false (pickS t15 t19 (.bool false)) (fun t20 h_25 => 
                                  Join1 (fun k_9 h_26 => guardP t20 true (Hp Try.prog false (Instr.fieldAt 29 x1 2) k_9 h_26 ⟨⟩) (k_9 undef h_26) ⟨⟩ ⟨⟩) (fun t22 h_27 => 
                                    Join1 (fun k_10 h_28 => guardP t20 true (Hp Try.prog false (Instr.loadAt 2 t22) k_10 h_28 ⟨⟩) (k_10 undef h_28) ⟨⟩ ⟨⟩) (fun t23 h_29 => 
                                      Join1 (fun k_11 h_30 => guardP t20 true (Hp Try.prog false (Instr.fieldAt 29 x1 1) k_11 h_30 ⟨⟩) (k_11 undef h_30) ⟨⟩ ⟨⟩) (fun t24 h_31 => 
                                        Join1 (fun k_12 h_32 => guardP t20 true (Hp Try.prog false (Instr.loadAt 2 t24) k_12 h_32 ⟨⟩) (k_12 undef h_32) ⟨⟩ ⟨⟩) (fun t25 h_33 => 
                                          Join1 (fun k_13 h_34 => guardP t20 true (Hp Try.prog false (binS .sub 2 (.const (.int .i64 72057594037927936)) (.tmp 25) (.int .i64 72057594037927936) t25) k_13 h_34 ⟨⟩) (k_13 undef h_34) ⟨⟩ ⟨⟩) (fun t26 h_35 => 
                                            Join1 (fun k_14 h_36 => guardP t20 true (Hp Try.prog false (binS .leq 2 (.tmp 23) (.tmp 26) t23 t26) k_14 h_36 ⟨⟩) (k_14 undef h_36) ⟨⟩ ⟨⟩) (fun t27 h_37 => 
                                              Hp Try.prog false (pickS t20 t27 (.bool false)) (fun t28 h_38 => 
                                                R t28 h_38) h_37 ⟨⟩) h_35 ⟨⟩ ⟨⟩) h_33 ⟨⟩ ⟨⟩) h_31 ⟨⟩ ⟨⟩) h_29 ⟨⟩ ⟨⟩) h_27 ⟨⟩ ⟨⟩) h_25 ⟨⟩ ⟨⟩) h_24 ⟨⟩) h_22 ⟨⟩ ⟨⟩) h_20 ⟨⟩ ⟨⟩) h_18 ⟨⟩ ⟨⟩) h_17 ⟨⟩) h_15 ⟨⟩ ⟨⟩) h_13 ⟨⟩ ⟨⟩) h_11 ⟨⟩ ⟨⟩) h_10 ⟨⟩) h_8 ⟨⟩ ⟨⟩) h_6 ⟨⟩ ⟨⟩) h_4 ⟨⟩ ⟨⟩) ⟨⟩) h_2 ⟨⟩) h_1 ⟨⟩) h ⟨⟩

theorem n9_calls {x0 : Value} {R : Value → Heap → Prop} {h : Heap} (H : n9 x0 R h) : CallsH Try.prog 9 #[x0] h R ⟨⟩ :=
  callsH_of_eq Try.follow .l Try.func9 (by kernel_rfl) (by kernel_rfl) (by kernel_rfl) H

/-- palimpsest/palimpsestlaw23.num -/
def n11 (e0 : Value) (R : Value → Heap → Prop) (h : Heap) : Prop :=
  R e0 h

theorem n11_calls {e0 : Value} {R : Value → Heap → Prop} {h : Heap} (H : n11 e0 R h) : CallsH Try.prog 11 #[e0] h R ⟨⟩ :=
  callsH_of_eq Try.follow .l Try.func11 (by kernel_rfl) (by kernel_rfl) (by kernel_rfl) H

/-- palimpsest/palimpsestlaw23.finish -/
def n12 (q0 held1 gone2 order3 k4 : Value) (R : Value → Heap → Prop) (h : Heap) : Prop :=
  LoopC 1 (fun (X : Value → Heap → Prop) => fun i11 h_1 =>
    Hp Try.prog false (Builtin.len_ #[23] 3 #[held1]) (fun t17 h_2 => 
      Hp Try.prog false (binS .lss 3 (.tmp 15) (.tmp 17) i11 t17) (fun t18 h_3 => 
        CondP t18 (
          Hp Try.prog false (binS .add 3 (.tmp 22) (.tmp 23) i11 k4) (fun t24 h_4 => 
            Hp Try.prog false (Builtin.len_ #[23] 3 #[held1]) (fun t26 h_5 => 
              Hp Try.prog false (binS .rem 3 (.tmp 24) (.tmp 26) t24 t26) (fun t27 h_6 => 
                Hp Try.prog false (Builtin.len_ #[23] 3 #[held1]) (fun t29 h_7 => 
                  Hp Try.prog false (binS .add 3 (.tmp 27) (.tmp 29) t27 t29) (fun t30 h_8 => 
                    Hp Try.prog false (Builtin.len_ #[23] 3 #[held1]) (fun t32 h_9 => 
                      Hp Try.prog false (binS .rem 3 (.tmp 30) (.tmp 32) t30 t32) (fun t33 h_10 => 
                        Hp Try.prog false (Instr.indexAt 23 held1 t33) (fun t34 h_11 => 
                          Hp Try.prog false (Instr.loadAt 3 t34) (fun t35 h_12 => 
                            Hp Try.prog false (Instr.indexAt 27 gone2 t35) (fun t38 h_13 => 
                              Hp Try.prog false (Instr.loadAt 4 t38) (fun t39 h_14 => 
                                CondP t39 (
                                  Hp Try.prog false (binS .add 3 (.tmp 19) (.const (.int .i64 1)) i11 (.int .i64 1)) (fun t20 h_15 => 
                                    X t20 h_15) h_14 ⟨⟩) (
                                  Hp Try.prog false (Instr.indexAt 27 gone2 t35) (fun t42 h_16 => 
                                    Hp Try.prog false (storeS 4 t42 (.bool true)) (fun _ h_17 => 
                                      CallsH Try.prog 17 #[q0, t35] h_17 (fun t46 h_18 => 
                                        Hp Try.prog false (Instr.extract t46 0) (fun t47 h_19 => 
                                          Hp Try.prog false (Instr.extract t46 1) (fun t48 h_20 => 
                                            Hp Try.prog false (Instr.buildSlice 23 0 #[]) (fun t50 h_21 => 
                                              Hp Try.prog false (nilS order3) (fun t52 h_22 => 
                                                Hp Try.prog false (Instr.loadAt 23 t52) (fun t53 h_23 => 
                                                  Hp Try.prog false (Builtin.append_ #[23, 23] 23 #[t50, t53]) (fun t54 h_24 => 
                                                    Hp Try.prog false (Builtin.append_ #[23, 23] 23 #[t54, t47]) (fun t56 h_25 => 
                                                      Hp Try.prog false (nilS order3) (fun t57 h_26 => 
                                                        Hp Try.prog false (storeS 23 t57 t56) (fun _ h_27 => 
                                                          CallsH Try.prog 11 #[t48] h_27 (fun t59 h_28 => 
                                                            Hp Try.prog false (binS .eql 3 (.tmp 59) (.const (.int .i64 0)) t59 (.int .i64 0)) (fun t60 h_29 => 
                                                              R t60 h_29) h_28 ⟨⟩) ⟨⟩) h_26 ⟨⟩) h_25 ⟨⟩) h_24 ⟨⟩) h_23 ⟨⟩) h_22 ⟨⟩) h_21 ⟨⟩) h_20 ⟨⟩) h_19 ⟨⟩) h_18 ⟨⟩) ⟨⟩) h_16 ⟨⟩) h_14 ⟨⟩) ⟨⟩ ⟨⟩) h_13 ⟨⟩) h_12 ⟨⟩) h_11 ⟨⟩) h_10 ⟨⟩) h_9 ⟨⟩) h_8 ⟨⟩) h_7 ⟨⟩) h_6 ⟨⟩) h_5 ⟨⟩) h_4 ⟨⟩) h_3 ⟨⟩) (
          R (.bool true) h_3) ⟨⟩ ⟨⟩) h_2 ⟨⟩) h_1 ⟨⟩) [(.int .i64 0)] h ⟨⟩

theorem n12_calls {q0 held1 gone2 order3 k4 : Value} {R : Value → Heap → Prop} {h : Heap} (H : n12 q0 held1 gone2 order3 k4 R h) : CallsH Try.prog 12 #[q0, held1, gone2, order3, k4] h R ⟨⟩ :=
  callsH_of_eq Try.follow (.n none .l (.n none (.n none .l (.n none (.n (some [12]) .l .l) .l)) .l)) Try.func12 (by kernel_rfl) (by kernel_rfl) (by kernel_rfl) H

/-- palimpsest/palimpsestlaw23.apart -/
def n13 (q0 asked1 : Value) (R : Value → Heap → Prop) (h : Heap) : Prop :=
  Hp Try.prog false (Instr.box 22 asked1) (fun asked3 h_1 => 
    Hp Try.prog false (Instr.alloc 4 true undef) (fun t4 h_2 => 
      Hp Try.prog false (Instr.alloc 22 true undef) (fun held5 h_3 => 
        Hp Try.prog false (Instr.alloc 22 true undef) (fun waiting6 h_4 => 
          CallsH Try.prog 23 #[q0] h_4 (fun t16 h_5 => 
            CallsH Try.prog 24 #[q0] h_5 (fun t18 h_6 => 
              Hp Try.prog false (binS .eql 51 (.tmp 19) (.const .nilFunc) t16 .nilFunc) (fun t20 h_7 => 
                Join1 (fun k h_8 => guardP t20 false (k t18 h_8) (k undef h_8) ⟨⟩ ⟨⟩) (fun t22 h_9 => 
                  Join1 (fun k_1 h_10 => guardP t20 false (Hp Try.prog false (binS .eql 51 (.tmp 22) (.const .nilFunc) t22 .nilFunc) k_1 h_10 ⟨⟩) (k_1 undef h_10) ⟨⟩ ⟨⟩) (fun t23 h_11 => 
                    Hp Try.prog false (pickS t20 (.bool true) t23) (fun t24 h_12 => 
                      CondP t24 (
                        Hp Try.prog false (storeS 4 t4 (.bool false)) (fun _ h_13 => 
                          RetD (.tuple #[]) h_13 (fun h_14 =>
                            Hp Try.prog true (loadCell 4 t4) (fun r _ =>
                              R r h_14) h_14 ⟨⟩) ⟨⟩) h_12 ⟨⟩) (
                        JoinN 1 (fun (k_2 : Value → Heap → Prop) h_15 =>
                          JoinN 1 (fun (k_3 : Value → Heap → Prop) h_16 =>
                            RangeC Try.prog none t16 1 (.tuple #[]) (fun l args bg Nb Jb h_17 =>
                              Hp Try.prog false (Instr.alloc 29 true undef) (fun x9 h_19 => 
                                Hp Try.prog false (storeS 29 x9 (getV args 0)) (fun _ h_20 => 
                                  bg (fun h_18 =>
                                    LoopC 1 (fun (X : Value → Heap → Prop) => fun i10 h_21 =>
                                      Hp Try.prog false (Instr.loadAt 22 held5) (fun t28 h_22 => 
                                        Hp Try.prog false (Builtin.len_ #[22] 3 #[t28]) (fun t29 h_23 => 
                                          Hp Try.prog false (binS .lss 3 (.tmp 27) (.tmp 29) i10 t29) (fun t30 h_24 => 
                                            CondP t30 (
                                              Hp Try.prog true (Instr.loadAt 29 x9) (fun t33 _ => 
                                                Hp Try.prog true (Instr.loadAt 22 held5) (fun t34 _ => 
                                                  Hp Try.prog true (Instr.indexAt 22 t34 i10) (fun t36 _ => 
                                                    Hp Try.prog true (Instr.loadAt 29 t36) (fun t37 _ => 
                                                      CallsH Try.prog 15 #[t33, t37] h_24 (fun t38 h_25 => 
                                                        CondP t38 (
                                                          Hp Try.prog false (storeS 4 t4 (.bool false)) (fun _ h_26 => 
                                                            Jb .ret h_26) h_25 ⟨⟩) (
                                                          Hp Try.prog false (binS .add 3 (.tmp 31) (.const (.int .i64 1)) i10 (.int .i64 1)) (fun t32 h_27 => 
                                                            X t32 h_27) h_25 ⟨⟩) ⟨⟩ ⟨⟩) ⟨⟩) h_24 ⟨⟩) #[] ⟨⟩) h_24 ⟨⟩) h_24 ⟨⟩) (
                                              Hp Try.prog false (Instr.loadAt 22 held5) (fun t39 h_28 => 
                                                Hp Try.prog false (Instr.loadAt 29 x9) (fun t40 h_29 => 
                                                  Hp Try.prog false (Instr.buildSlice 22 1 #[(0, t40)]) (fun t41 h_30 => 
                                                    Hp Try.prog false (Builtin.append_ #[22, 22] 22 #[t39, t41]) (fun t42 h_31 => 
                                                      Hp Try.prog false (storeS 22 held5 t42) (fun _ h_32 => 
                                                        Nb h_32) h_31 ⟨⟩) h_30 ⟨⟩) h_29 ⟨⟩) h_28 ⟨⟩) h_24 ⟨⟩) ⟨⟩ ⟨⟩) h_23 ⟨⟩) h_22 ⟨⟩) h_21 ⟨⟩) [(.int .i64 0)] h_18 ⟨⟩) h_20) h_19 ⟨⟩) h_17 ⟨⟩)
                              (fun D h_33 =>
                              k_3 D h_33)
                              (fun D_1 h_34 =>
                              RetD D_1 h_34 (fun h_35 =>
                                Hp Try.prog true (loadCell 4 t4) (fun r_1 _ =>
                                  R r_1 h_35) h_35 ⟨⟩) ⟨⟩)
                              (fun id D_2 h_36 => bif Nat.beq id 0 then (k_3 D_2 h_36) else False) h_16 ⟨⟩ ⟨⟩ ⟨⟩ ⟨⟩)
                            (fun D_3 h_37 =>
                            k_2 D_3 h_37) h_15 ⟨⟩ ⟨⟩)
                          (fun D_4 h_38 =>
                          JoinN 1 (fun (k_4 : Value → Heap → Prop) h_39 =>
                            JoinN 1 (fun (k_5 : Value → Heap → Prop) h_40 =>
                              RangeC Try.prog none t18 1 D_4 (fun l_1 args_1 bg_1 Nb_1 Jb_1 h_41 =>
                                Hp Try.prog false (Instr.alloc 29 true undef) (fun x11 h_43 => 
                                  Hp Try.prog false (storeS 29 x11 (getV args_1 0)) (fun _ h_44 => 
                                    bg_1 (fun h_42 =>
                                      LoopC 2 (fun (X_1 : Value → Value → Heap → Prop) => fun some12 i13 h_45 =>
                                        Hp Try.prog false (Instr.loadAt 22 held5) (fun t46 h_46 => 
                                          Hp Try.prog false (Builtin.len_ #[22] 3 #[t46]) (fun t47 h_47 => 
                                            Hp Try.prog false (binS .lss 3 (.tmp 45) (.tmp 47) i13 t47) (fun t48 h_48 => 
                                              CondP t48 (
                                                Join1 (fun k_6 h_49 => guardP some12 false (Hp Try.prog true (Instr.loadAt 29 x11) k_6 h_49 ⟨⟩) (k_6 undef h_49) ⟨⟩ ⟨⟩) (fun t53 _ => 
                                                  Join1 (fun k_7 h_50 => guardP some12 false (Hp Try.prog true (Instr.loadAt 22 held5) k_7 h_50 ⟨⟩) (k_7 undef h_50) ⟨⟩ ⟨⟩) (fun t54 _ => 
                                                    Join1 (fun k_8 h_51 => guardP some12 false (k_8 i13 h_51) (k_8 undef h_51) ⟨⟩ ⟨⟩) (fun t55 _ => 
                                                      Join1 (fun k_9 h_52 => guardP some12 false (Hp Try.prog true (Instr.indexAt 22 t54 t55) k_9 h_52 ⟨⟩) (k_9 undef h_52) ⟨⟩ ⟨⟩) (fun t56 _ => 
                                                        Join1 (fun k_10 h_53 => guardP some12 false (Hp Try.prog true (Instr.loadAt 29 t56) k_10 h_53 ⟨⟩) (k_10 undef h_53) ⟨⟩ ⟨⟩) (fun t57 _ => 
                                                          Join1 (fun k_11 h_54 => guardP some12 false (CallsH Try.prog 15 #[t53, t57] h_54 k_11 ⟨⟩) (k_11 undef h_54) ⟨⟩ ⟨⟩) (fun t58 h_55 => 
                                                            Hp Try.prog true (pickS some12 (.bool true) t58) (fun t59 _ => 
                                                              Hp Try.prog false (binS .add 3 (.tmp 49) (.const (.int .i64 1)) i13 (.int .i64 1)) (fun t50 h_56 => 
                                                                X_1 t59 t50 h_56) h_55 ⟨⟩) #[] ⟨⟩) h_48 ⟨⟩ ⟨⟩) h_48 ⟨⟩ ⟨⟩) #[] ⟨⟩ ⟨⟩) #[] ⟨⟩ ⟨⟩) h_48 ⟨⟩ ⟨⟩) h_48 ⟨⟩ ⟨⟩) (
                                                LoopC 2 (fun (X_2 : Value → Value → Heap → Prop) => fun some12_1 i14 h_57 =>
                                                  Hp Try.prog false (Instr.loadAt 22 waiting6) (fun t61 h_58 => 
                                                    Hp Try.prog false (Builtin.len_ #[22] 3 #[t61]) (fun t62 h_59 => 
                                                      Hp Try.prog false (binS .lss 3 (.tmp 60) (.tmp 62) i14 t62) (fun t63 h_60 => 
                                                        CondP t63 (
                                                          Join1 (fun k_12 h_61 => guardP some12_1 false (Hp Try.prog true (Instr.loadAt 29 x11) k_12 h_61 ⟨⟩) (k_12 undef h_61) ⟨⟩ ⟨⟩) (fun t68 _ => 
                                                            Join1 (fun k_13 h_62 => guardP some12_1 false (Hp Try.prog true (Instr.loadAt 22 waiting6) k_13 h_62 ⟨⟩) (k_13 undef h_62) ⟨⟩ ⟨⟩) (fun t69 _ => 
                                                              Join1 (fun k_14 h_63 => guardP some12_1 false (k_14 i14 h_63) (k_14 undef h_63) ⟨⟩ ⟨⟩) (fun t70 _ => 
                                                                Join1 (fun k_15 h_64 => guardP some12_1 false (Hp Try.prog true (Instr.indexAt 22 t69 t70) k_15 h_64 ⟨⟩) (k_15 undef h_64) ⟨⟩ ⟨⟩) (fun t71 _ => 
                                                                  Join1 (fun k_16 h_65 => guardP some12_1 false (Hp Try.prog true (Instr.loadAt 29 t71) k_16 h_65 ⟨⟩) (k_16 undef h_65) ⟨⟩ ⟨⟩) (fun t72 _ => 
                                                                    Join1 (fun k_17 h_66 => guardP some12_1 false (CallsH Try.prog 15 #[t68, t72] h_66 k_17 ⟨⟩) (k_17 undef h_66) ⟨⟩ ⟨⟩) (fun t73 h_67 => 
                                                                      Hp Try.prog true (pickS some12_1 (.bool true) t73) (fun t74 _ => 
                                                                        Hp Try.prog false (binS .add 3 (.tmp 64) (.const (.int .i64 1)) i14 (.int .i64 1)) (fun t65 h_68 => 
                                                                          X_2 t74 t65 h_68) h_67 ⟨⟩) #[] ⟨⟩) h_60 ⟨⟩ ⟨⟩) h_60 ⟨⟩ ⟨⟩) #[] ⟨⟩ ⟨⟩) #[] ⟨⟩ ⟨⟩) h_60 ⟨⟩ ⟨⟩) h_60 ⟨⟩ ⟨⟩) (
                                                          Hp Try.prog true (Op.unary .not some12_1) (fun t76 _ => 
                                                            Join1 (fun k_18 h_69 => guardP t76 false (Hp Try.prog true (Instr.fieldAt 29 x11 0) k_18 h_69 ⟨⟩) (k_18 undef h_69) ⟨⟩ ⟨⟩) (fun t78 _ => 
                                                              Join1 (fun k_19 h_70 => guardP t76 false (Hp Try.prog true (Instr.loadAt 3 t78) k_19 h_70 ⟨⟩) (k_19 undef h_70) ⟨⟩ ⟨⟩) (fun t79 _ => 
                                                                Join1 (fun k_20 h_71 => guardP t76 false (Hp Try.prog true (binS .lss 3 (.tmp 79) (.const (.int .i64 0)) t79 (.int .i64 0)) k_20 h_71 ⟨⟩) (k_20 undef h_71) ⟨⟩ ⟨⟩) (fun t80 _ => 
                                                                  Hp Try.prog true (pickS t76 (.bool true) t80) (fun t81 _ => 
                                                                    Join1 (fun k_21 h_72 => guardP t81 false (Hp Try.prog true (Instr.fieldAt 29 x11 0) k_21 h_72 ⟨⟩) (k_21 undef h_72) ⟨⟩ ⟨⟩) (fun t83 _ => 
                                                                      Join1 (fun k_22 h_73 => guardP t81 false (Hp Try.prog true (Instr.loadAt 3 t83) k_22 h_73 ⟨⟩) (k_22 undef h_73) ⟨⟩ ⟨⟩) (fun t84 _ => 
                                                                        Join1 (fun k_23 h_74 => guardP t81 false (Hp Try.prog true (Instr.loadAt 22 asked3) k_23 h_74 ⟨⟩) (k_23 undef h_74) ⟨⟩ ⟨⟩) (fun t85 _ => 
                                                                          Join1 (fun k_24 h_75 => guardP t81 false (Hp Try.prog true (Builtin.len_ #[22] 3 #[t85]) k_24 h_75 ⟨⟩) (k_24 undef h_75) ⟨⟩ ⟨⟩) (fun t86 _ => 
                                                                            Join1 (fun k_25 h_76 => guardP t81 false (Hp Try.prog true (binS .geq 3 (.tmp 84) (.tmp 86) t84 t86) k_25 h_76 ⟨⟩) (k_25 undef h_76) ⟨⟩ ⟨⟩) (fun t87 _ => 
                                                                              Hp Try.prog true (pickS t81 (.bool true) t87) (fun t88 _ => 
                                                                                Join1 (fun k_26 h_77 => guardP t88 false (Hp Try.prog true (Instr.loadAt 29 x11) k_26 h_77 ⟨⟩) (k_26 undef h_77) ⟨⟩ ⟨⟩) (fun t90 _ => 
                                                                                  Join1 (fun k_27 h_78 => guardP t88 false (Hp Try.prog true (Instr.loadAt 22 asked3) k_27 h_78 ⟨⟩) (k_27 undef h_78) ⟨⟩ ⟨⟩) (fun t91 _ => 
                                                                                    Join1 (fun k_28 h_79 => guardP t88 false (Hp Try.prog true (Instr.fieldAt 29 x11 0) k_28 h_79 ⟨⟩) (k_28 undef h_79) ⟨⟩ ⟨⟩) (fun t92 _ => 
                                                                                      Join1 (fun k_29 h_80 => guardP t88 false (Hp Try.prog true (Instr.loadAt 3 t92) k_29 h_80 ⟨⟩) (k_29 undef h_80) ⟨⟩ ⟨⟩) (fun t93 _ => 
                                                                                        Join1 (fun k_30 h_81 => guardP t88 false (Hp Try.prog true (Instr.indexAt 22 t91 t93) k_30 h_81 ⟨⟩) (k_30 undef h_81) ⟨⟩ ⟨⟩) (fun t94 _ => 
                                                                                          Join1 (fun k_31 h_82 => guardP t88 false (Hp Try.prog true (Instr.loadAt 29 t94) k_31 h_82 ⟨⟩) (k_31 undef h_82) ⟨⟩ ⟨⟩) (fun t95 _ => 
                                                                                            Join1 (fun k_32 h_83 => guardP t88 false (Hp Try.prog true (binS .neq 29 (.tmp 90) (.tmp 95) t90 t95) k_32 h_83 ⟨⟩) (k_32 undef h_83) ⟨⟩ ⟨⟩) (fun t96 _ => 
                                                                                              Hp Try.prog true (pickS t88 (.bool true) t96) (fun t97 _ => 
                                                                                                CondP t97 (
                                                                                                  Hp Try.prog false (storeS 4 t4 (.bool false)) (fun _ h_84 => 
                                                                                                    Jb_1 .ret h_84) h_60 ⟨⟩) (
                                                                                                  Hp Try.prog false (Instr.loadAt 22 waiting6) (fun t98 h_85 => 
                                                                                                    Hp Try.prog false (Instr.loadAt 29 x11) (fun t99 h_86 => 
                                                                                                      Hp Try.prog false (Instr.buildSlice 22 1 #[(0, t99)]) (fun t100 h_87 => 
                                                                                                        Hp Try.prog false (Builtin.append_ #[22, 22] 22 #[t98, t100]) (fun t101 h_88 => 
                                                                                                          Hp Try.prog false (storeS 22 waiting6 t101) (fun _ h_89 => 
                                                                                                            Nb_1 h_89) h_88 ⟨⟩) h_87 ⟨⟩) h_86 ⟨⟩) h_85 ⟨⟩) h_60 ⟨⟩) ⟨⟩ ⟨⟩) #[] ⟨⟩) #[] ⟨⟩ ⟨⟩) h_60 ⟨⟩ ⟨⟩) #[] ⟨⟩ ⟨⟩) h_60 ⟨⟩ ⟨⟩) #[] ⟨⟩ ⟨⟩) h_60 ⟨⟩ ⟨⟩) h_60 ⟨⟩ ⟨⟩) #[] ⟨⟩) #[] ⟨⟩ ⟨⟩) #[] ⟨⟩ ⟨⟩) h_60 ⟨⟩ ⟨⟩) h_60 ⟨⟩ ⟨⟩) #[] ⟨⟩ ⟨⟩) #[] ⟨⟩) #[] ⟨⟩ ⟨⟩) h_60 ⟨⟩ ⟨⟩) #[] ⟨⟩ ⟨⟩) #[] ⟨⟩) ⟨⟩ ⟨⟩) h_59 ⟨⟩) h_58 ⟨⟩) h_57 ⟨⟩) [some12, (.int .i64 0)] h_48 ⟨⟩) ⟨⟩ ⟨⟩) h_47 ⟨⟩) h_46 ⟨⟩) h_45 ⟨⟩) [(.bool false), (.int .i64 0)] h_42 ⟨⟩) h_44) h_43 ⟨⟩) h_41 ⟨⟩)
                                (fun D_5 h_90 =>
                                k_5 D_5 h_90)
                                (fun D_6 h_91 =>
                                RetD D_6 h_91 (fun h_92 =>
                                  Hp Try.prog true (loadCell 4 t4) (fun r_2 _ =>
                                    R r_2 h_92) h_92 ⟨⟩) ⟨⟩)
                                (fun id_1 D_7 h_93 => bif Nat.beq id_1 4 then (k_5 D_7 h_93) else False) h_40 ⟨⟩ ⟨⟩ ⟨⟩ ⟨⟩)
                              (fun D_8 h_94 =>
                              k_4 D_8 h_94) h_39 ⟨⟩ ⟨⟩)
                            (fun D_9 h_95 =>
                            Hp Try.prog false (storeS 4 t4 (.bool true)) (fun _ h_96 => 
                              RetD D_9 h_96 (fun h_97 =>
                                Hp Try.prog true (loadCell 4 t4) (fun r_3 _ =>
                                  R r_3 h_97) h_97 ⟨⟩) ⟨⟩) h_95 ⟨⟩) h_38 ⟨⟩ ⟨⟩) h_12 ⟨⟩ ⟨⟩) ⟨⟩ ⟨⟩) h_11 ⟨⟩) h_9 ⟨⟩ ⟨⟩) h_7 ⟨⟩ ⟨⟩) h_6 ⟨⟩) ⟨⟩) ⟨⟩) h_3 ⟨⟩) h_2 ⟨⟩) h_1 ⟨⟩) h ⟨⟩

theorem n13_calls {q0 asked1 : Value} {R : Value → Heap → Prop} {h : Heap} (H : n13 q0 asked1 R h) : CallsH Try.prog 13 #[q0, asked1] h R ⟨⟩ :=
  callsH_of_eq Try.follow (.n none .l (.n none .l (.n none .l (.n none .l (.n (some [0]) (.n none .l (.n (some [0]) (.n none .l (.n none (.n none (.n none .l (.n none (.n (some [11]) .l .l) .l)) .l) .l)) .l)) (.n (some [0]) (.n none .l (.n (some [0]) (.n none .l (.n none (.n none .l (.n none (.n none .l (.n none (.n (some [13, 14]) .l .l) .l)) (.n none (.n none .l (.n none (.n (some [13, 15]) .l .l) .l)) .l))) .l)) .l)) .l)))))) Try.func13 (by kernel_rfl) (by kernel_rfl) (by kernel_rfl) H

/-- palimpsest/palimpsestlaw23.against -/
def n15 (x0 y1 : Value) (R : Value → Heap → Prop) (h : Heap) : Prop :=
  Hp Try.prog false (Instr.box 29 x0) (fun x2 h_1 => 
    Hp Try.prog false (Instr.box 29 y1) (fun y3 h_2 => 
      Hp Try.prog false (Instr.fieldAt 29 x2 3) (fun t5 h_3 => 
        Hp Try.prog false (Instr.loadAt 4 t5) (fun t6 h_4 => 
          Join1 (fun k h_5 => guardP t6 false (Hp Try.prog false (Instr.fieldAt 29 y3 3) k h_5 ⟨⟩) (k undef h_5) ⟨⟩ ⟨⟩) (fun t8 h_6 => 
            Join1 (fun k_1 h_7 => guardP t6 false (Hp Try.prog false (Instr.loadAt 4 t8) k_1 h_7 ⟨⟩) (k_1 undef h_7) ⟨⟩ ⟨⟩) (fun t9 h_8 => 
              Hp Try.prog false (pickS t6 (.bool true) t9) (fun t10 h_9 => 
                Join1 (fun k_2 h_10 => guardP t10 true (Hp Try.prog false (Instr.fieldAt 29 x2 1) k_2 h_10 ⟨⟩) (k_2 undef h_10) ⟨⟩ ⟨⟩) (fun t12 h_11 => 
                  Join1 (fun k_3 h_12 => guardP t10 true (Hp Try.prog false (Instr.loadAt 2 t12) k_3 h_12 ⟨⟩) (k_3 undef h_12) ⟨⟩ ⟨⟩) (fun t13 h_13 => 
                    Join1 (fun k_4 h_14 => guardP t10 true (Hp Try.prog false (Instr.fieldAt 29 y3 1) k_4 h_14 ⟨⟩) (k_4 undef h_14) ⟨⟩ ⟨⟩) (fun t14 h_15 => 
                      Join1 (fun k_5 h_16 => guardP t10 true (Hp Try.prog false (Instr.loadAt 2 t14) k_5 h_16 ⟨⟩) (k_5 undef h_16) ⟨⟩ ⟨⟩) (fun t15 h_17 => 
                        Join1 (fun k_6 h_18 => guardP t10 true (Hp Try.prog false (Builtin.max_ #[2, 2] 2 #[t13, t15]) k_6 h_18 ⟨⟩) (k_6 undef h_18) ⟨⟩ ⟨⟩) (fun t16 h_19 => 
                          Join1 (fun k_7 h_20 => guardP t10 true (Hp Try.prog false (Instr.fieldAt 29 x2 1) k_7 h_20 ⟨⟩) (k_7 undef h_20) ⟨⟩ ⟨⟩) (fun t17 h_21 => 
                            Join1 (fun k_8 h_22 => guardP t10 true (Hp Try.prog false (Instr.loadAt 2 t17) k_8 h_22 ⟨⟩) (k_8 undef h_22) ⟨⟩ ⟨⟩) (fun t18 h_23 => 
                              Join1 (fun k_9 h_24 => guardP t10 true (Hp Try.prog false (Instr.fieldAt 29 x2 2) k_9 h_24 ⟨⟩) (k_9 undef h_24) ⟨⟩ ⟨⟩) (fun t19 h_25 => 
                                Join1 (fun k_10 h_26 => guardP t10 true (Hp Try.prog false (Instr.loadAt 2 t19) k_10 h_26 ⟨⟩) (k_10 undef h_26) ⟨⟩ ⟨⟩) (fun t20 h_27 => 
                                  Join1 (fun k_11 h_28 => guardP t10 true (Hp Try.prog false (binS .add 2 (.tmp 18) (.tmp 20) t18 t20) k_11 h_28 ⟨⟩) (k_11 undef h_28) ⟨⟩ ⟨⟩) (fun t21 h_29 => 
                                    Join1 (fun k_12 h_30 => guardP t10 true (Hp Try.prog false (Instr.fieldAt 29 y3 1) k_12 h_30 ⟨⟩) (k_12 undef h_30) ⟨⟩ ⟨⟩) (fun t22 h_31 => 
                                      Join1 (fun k_13 h_32 => guardP t10 true (Hp Try.prog false (Instr.loadAt 2 t22) k_13 h_32 ⟨⟩) (k_13 undef h_32) ⟨⟩ ⟨⟩) (fun t23 h_33 => 
                                        Join1 (fun k_14 h_34 => guardP t10 true (Hp Try.prog false (Instr.fieldAt 29 y3 2) k_14 h_34 ⟨⟩) (k_14 undef h_34) ⟨⟩ ⟨⟩) (fun t24 h_35 => 
                                          Join1 (fun k_15 h_36 => guardP t10 true (Hp Try.prog false (Instr.loadAt 2 t24) k_15 h_36 ⟨⟩) (k_15 undef h_36) ⟨⟩ ⟨⟩) (fun t25 h_37 => 
                                            Join1 (fun k_16 h_38 => guardP t10 true (Hp Try.prog false (binS .add 2 (.tmp 23) (.tmp 25) t23 t25) k_16 h_38 ⟨⟩) (k_16 undef h_38) ⟨⟩ ⟨⟩) (fun t26 h_39 => 
                                              Join1 (fun k_17 h_40 => guardP t10 true (Hp Try.prog false (Builtin.min_ #[2, 2] 2 #[t21, t26]) k_17 h_40 ⟨⟩) (k_17 undef h_40) ⟨⟩ ⟨⟩) (fun t27 h_41 => 
                                                Join1 (fun k_18 h_42 => guardP t10 true (Hp Try.prog false (binS .lss 2 (.tmp 16) (.tmp 27) t16 t27) k_18 h_42 ⟨⟩) (k_18 undef h_42) ⟨⟩ ⟨⟩) (fun t28 h_43 => 
                                                  Hp Try.prog false (pickS t10 t28 (.bool false)) (fun t29 h_44 => 
                                                    R t29 h_44) h_43 ⟨⟩) h_41 ⟨⟩ ⟨⟩) h_39 ⟨⟩ ⟨⟩) h_37 ⟨⟩ ⟨⟩) h_35 ⟨⟩ ⟨⟩) h_33 ⟨⟩ ⟨⟩) h_31 ⟨⟩ ⟨⟩) h_29 ⟨⟩ ⟨⟩) h_27 ⟨⟩ ⟨⟩) h_25 ⟨⟩ ⟨⟩) h_23 ⟨⟩ ⟨⟩) h_21 ⟨⟩ ⟨⟩) h_19 ⟨⟩ ⟨⟩) h_17 ⟨⟩ ⟨⟩) h_15 ⟨⟩ ⟨⟩) h_13 ⟨⟩ ⟨⟩) h_11 ⟨⟩ ⟨⟩) h_9 ⟨⟩ ⟨⟩) h_8 ⟨⟩) h_6 ⟨⟩ ⟨⟩) h_4 ⟨⟩ ⟨⟩) h_3 ⟨⟩) h_2 ⟨⟩) h_1 ⟨⟩) h ⟨⟩

theorem n15_calls {x0 y1 : Value} {R : Value → Heap → Prop} {h : Heap} (H : n15 x0 y1 R h) : CallsH Try.prog 15 #[x0, y1] h R ⟨⟩ :=
  callsH_of_eq Try.follow .l Try.func15 (by kernel_rfl) (by kernel_rfl) (by kernel_rfl) H

/-- palimpsest/palimpsestlaw23.asked -/
def n19 (q0 l1 : Value) (R : Value → Heap → Prop) (h : Heap) : Prop :=
  LoopC 2 (fun (X : Value → Value → Heap → Prop) => fun some6 i7 h_1 =>
    Hp Try.prog false (Builtin.len_ #[22] 3 #[l1]) (fun t13 h_2 => 
      Hp Try.prog false (binS .lss 3 (.tmp 11) (.tmp 13) i7 t13) (fun t14 h_3 => 
        CondP t14 (
          JoinN 1 (fun (k : Value → Heap → Prop) h_4 =>
            JoinN 1 (fun (k_1 : Value → Heap → Prop) h_5 =>
              Hp Try.prog false (Instr.indexAt 22 l1 i7) (fun t19 h_6 => 
                Hp Try.prog false (Instr.loadAt 29 t19) (fun t20 h_7 => 
                  Hp Try.prog false (Instr.alloc 29 true undef) (fun x8 h_8 => 
                    Hp Try.prog false (storeS 29 x8 t20) (fun _ h_9 => 
                      Hp Try.prog false (Builtin.len_ #[22] 3 #[some6]) (fun t22 h_10 => 
                        Hp Try.prog false (Instr.fieldAt 29 x8 0) (fun t23 h_11 => 
                          Hp Try.prog false (storeS 3 t23 t22) (fun _ h_12 => 
                            Hp Try.prog false (Instr.loadAt 29 x8) (fun t24 h_13 => 
                              CallsH Try.prog 9 #[t24] h_13 (fun t25 h_14 => 
                                Hp Try.prog false (Op.unary .not t25) (fun t26 h_15 => 
                                  CondP t26 (
                                    k_1 some6 h_15) (
                                    Hp Try.prog false (Instr.loadAt 29 x8) (fun t29 h_16 => 
                                      CallsH Try.prog 10 #[q0, t29] h_16 (fun t30 h_17 => 
                                        Hp Try.prog false (Instr.extract t30 0) (fun t31 h_18 => 
                                          Hp Try.prog false (Instr.extract t30 1) (fun t32 h_19 => 
                                            CallsH Try.prog 11 #[t32] h_19 (fun t34 h_20 => 
                                              Hp Try.prog false (binS .neq 3 (.tmp 34) (.const (.int .i64 0)) t34 (.int .i64 0)) (fun t35 h_21 => 
                                                CondP t35 (
                                                  R (.tuple #[(.slice none 0 0), (.bool false)]) h_21) (
                                                  Hp Try.prog false (Instr.loadAt 29 x8) (fun t37 h_22 => 
                                                    Hp Try.prog false (Instr.buildSlice 22 1 #[(0, t37)]) (fun t38 h_23 => 
                                                      Hp Try.prog false (Builtin.append_ #[22, 22] 22 #[some6, t38]) (fun t39 h_24 => 
                                                        k_1 t39 h_24) h_23 ⟨⟩) h_22 ⟨⟩) h_21 ⟨⟩) ⟨⟩ ⟨⟩) h_20 ⟨⟩) ⟨⟩) h_18 ⟨⟩) h_17 ⟨⟩) ⟨⟩) h_15 ⟨⟩) ⟨⟩ ⟨⟩) h_14 ⟨⟩) ⟨⟩) h_12 ⟨⟩) h_11 ⟨⟩) h_10 ⟨⟩) h_9 ⟨⟩) h_8 ⟨⟩) h_7 ⟨⟩) h_6 ⟨⟩) h_5 ⟨⟩)
              (fun some6_1 h_25 =>
              k some6_1 h_25) h_4 ⟨⟩ ⟨⟩)
            (fun some6_2 h_26 =>
            Hp Try.prog false (binS .add 3 (.tmp 15) (.const (.int .i64 1)) i7 (.int .i64 1)) (fun t16 h_27 => 
              X some6_2 t16 h_27) h_26 ⟨⟩) h_3 ⟨⟩ ⟨⟩) (
          R (.tuple #[some6, (.bool true)]) h_3) ⟨⟩ ⟨⟩) h_2 ⟨⟩) h_1 ⟨⟩) [(.slice none 0 0), (.int .i64 0)] h ⟨⟩

theorem n19_calls {q0 l1 : Value} {R : Value → Heap → Prop} {h : Heap} (H : n19 q0 l1 R h) : CallsH Try.prog 19 #[q0, l1] h R ⟨⟩ :=
  callsH_of_eq Try.follow (.n none .l (.n none .l (.n none (.n none .l (.n none (.n (some [7, 8]) (.n none .l (.n (some [7]) (.n (some [7]) .l .l) .l)) .l) .l)) .l))) Try.func19 (by kernel_rfl) (by kernel_rfl) (by kernel_rfl) H

/-- palimpsest/palimpsestref23.ID -/
def n25 (n0 : Value) (R : Value → Heap → Prop) (h : Heap) : Prop :=
  Hp Try.prog false (binS .geq 3 (.tmp 3) (.const (.int .i64 0)) n0 (.int .i64 0)) (fun t4 h_1 => 
    Join1 (fun k h_2 => guardP t4 true (k n0 h_2) (k undef h_2) ⟨⟩ ⟨⟩) (fun t6 h_3 => 
      Join1 (fun k_1 h_4 => guardP t4 true (Hp Try.prog false (binS .lss 3 (.tmp 6) (.const (.int .i64 4096)) t6 (.int .i64 4096)) k_1 h_4 ⟨⟩) (k_1 undef h_4) ⟨⟩ ⟨⟩) (fun t7 h_5 => 
        Hp Try.prog false (pickS t4 t7 (.bool false)) (fun t8 h_6 => 
          R t8 h_6) h_5 ⟨⟩) h_3 ⟨⟩ ⟨⟩) h_1 ⟨⟩ ⟨⟩) h ⟨⟩

theorem n25_calls {n0 : Value} {R : Value → Heap → Prop} {h : Heap} (H : n25 n0 R h) : CallsH Try.prog 25 #[n0] h R ⟨⟩ :=
  callsH_of_eq Try.follow .l Try.func25 (by kernel_rfl) (by kernel_rfl) (by kernel_rfl) H

end Go.Proofs.Ytlligpgjkmfhpaa

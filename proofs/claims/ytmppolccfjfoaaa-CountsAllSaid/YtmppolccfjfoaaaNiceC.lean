/- Printed by wip/tools/gen.py: the condition of each function, and that a call meets it. -/
import Derived.Test.YtmppolccfjfoaaaVcFun
import Derived.Test.YtmppolccfjfoaaaProg
import Derived.Test.YtmppolccfjfoaaaNiceW
set_option maxRecDepth 100000
set_option linter.unusedVariables false
namespace Go.Proofs.Ytmppolccfjfoaaa
open Go.Vc

/-- palimpsest/palimpsestlaw10.CountsOne -/
def n9 (b0 order1 in2 : Value) (R : Value → Heap → Prop) (h : Heap) : Prop :=
  Hp Try.prog false (Instr.box 78 in2) (fun in5 h_1 => 
    Hp Try.prog true (Instr.fieldAt 78 in5 0) (fun t28 _ => 
      Hp Try.prog true (Instr.loadAt 3 t28) (fun t29 _ => 
        Hp Try.prog true (Instr.fieldAt 78 in5 1) (fun t30 _ => 
          Hp Try.prog true (Instr.loadAt 25 t30) (fun t31 _ => 
            Hp Try.prog true (Instr.fieldAt 78 in5 2) (fun t32 _ => 
              Hp Try.prog true (Instr.loadAt 2 t32) (fun t33 _ => 
                Hp Try.prog false (Builtin.len_ #[39] 3 #[b0]) (fun t35 h_2 => 
                  Hp Try.prog false (binS .gtr 3 (.tmp 35) (.const (.int .i64 3000)) t35 (.int .i64 3000)) (fun t36 h_3 => 
                    CondP t36 (
                      CallsH Try.prog 41 #[] h_3 (fun t37 h_4 => 
                        R t37 h_4) ⟨⟩) (
                      Hp Try.prog false (Builtin.append_ #[39, 39] 39 #[(.slice none 0 0), b0]) (fun t39 h_5 => 
                        Hp Try.prog false (Instr.buildSlice 39 1 #[(0, (.int .u8 77))]) (fun t40 h_6 => 
                          Hp Try.prog false (Builtin.append_ #[39, 39] 39 #[t39, t40]) (fun t41 h_7 => 
                            Hp Try.prog false (Builtin.len_ #[39] 3 #[b0]) (fun t43 h_8 => 
                              Hp Try.prog false (Instr.sliceAt 39 t41 none (some t43) none) (fun t44 h_9 => 
                                CallsH Try.prog 42 #[t44, order1] h_9 (fun t48 h_10 => 
                                  Hp Try.prog false (Instr.extract t48 0) (fun t49 h_11 => 
                                    Hp Try.prog false (Instr.extract t48 1) (fun t50 h_12 => 
                                      CallsH Try.prog 43 #[order1] h_12 (fun t53 h_13 => 
                                        Hp Try.prog false (Instr.extract t53 0) (fun t54 h_14 => 
                                          Hp Try.prog false (Instr.extract t53 1) (fun t55 h_15 => 
                                            CallsH Try.prog 44 #[t44, order1, t29] h_15 (fun t60 h_16 => 
                                              Hp Try.prog false (Instr.extract t60 0) (fun t61 h_17 => 
                                                Hp Try.prog false (Instr.extract t60 1) (fun t62 h_18 => 
                                                  CallsH Try.prog 45 #[t44, order1, t29, t31] h_18 (fun t67 h_19 => 
                                                    CallsH Try.prog 46 #[order1] h_19 (fun t69 h_20 => 
                                                      Hp Try.prog false (binS .eql 3 (.tmp 69) (.const (.int .i64 0)) t69 (.int .i64 0)) (fun t70 h_21 => 
                                                        CondP t70 (
                                                          CallsH Try.prog 47 #[t44, order1, t29, t33] h_21 (fun t76 h_22 => 
                                                            Hp Try.prog false (Instr.extract t76 0) (fun t77 h_23 => 
                                                              Hp Try.prog false (Instr.extract t76 1) (fun t78 h_24 => 
                                                                Hp Try.prog false (binS .eql 3 (.tmp 79) (.const (.int .i64 0)) t49 (.int .i64 0)) (fun t80 h_25 => 
                                                                  Join1 (fun k h_26 => guardP t80 true (k t50 h_26) (k undef h_26) ⟨⟩ ⟨⟩) (fun t82 h_27 => 
                                                                    Join1 (fun k_1 h_28 => guardP t80 true (Hp Try.prog false (binS .eql 27 (.tmp 82) (.const (.int .i64 2)) t82 (.int .i64 2)) k_1 h_28 ⟨⟩) (k_1 undef h_28) ⟨⟩ ⟨⟩) (fun t83 h_29 => 
                                                                      Hp Try.prog false (pickS t80 t83 (.bool false)) (fun t84 h_30 => 
                                                                        Join1 (fun k_2 h_31 => guardP t84 true (k_2 t54 h_31) (k_2 undef h_31) ⟨⟩ ⟨⟩) (fun t86 h_32 => 
                                                                          Join1 (fun k_3 h_33 => guardP t84 true (Hp Try.prog false (binS .eql 25 (.tmp 86) (.const (.int .u64 0)) t86 (.int .u64 0)) k_3 h_33 ⟨⟩) (k_3 undef h_33) ⟨⟩ ⟨⟩) (fun t87 h_34 => 
                                                                            Hp Try.prog false (pickS t84 t87 (.bool false)) (fun t88 h_35 => 
                                                                              Join1 (fun k_4 h_36 => guardP t88 true (k_4 t55 h_36) (k_4 undef h_36) ⟨⟩ ⟨⟩) (fun t90 h_37 => 
                                                                                Join1 (fun k_5 h_38 => guardP t88 true (Hp Try.prog false (binS .eql 27 (.tmp 90) (.const (.int .i64 2)) t90 (.int .i64 2)) k_5 h_38 ⟨⟩) (k_5 undef h_38) ⟨⟩ ⟨⟩) (fun t91 h_39 => 
                                                                                  Hp Try.prog false (pickS t88 t91 (.bool false)) (fun t92 h_40 => 
                                                                                    Join1 (fun k_6 h_41 => guardP t92 true (k_6 t61 h_41) (k_6 undef h_41) ⟨⟩ ⟨⟩) (fun t94 h_42 => 
                                                                                      Join1 (fun k_7 h_43 => guardP t92 true (Hp Try.prog false (binS .eql 25 (.tmp 94) (.const (.int .u64 0)) t94 (.int .u64 0)) k_7 h_43 ⟨⟩) (k_7 undef h_43) ⟨⟩ ⟨⟩) (fun t95 h_44 => 
                                                                                        Hp Try.prog false (pickS t92 t95 (.bool false)) (fun t96 h_45 => 
                                                                                          Join1 (fun k_8 h_46 => guardP t96 true (k_8 t62 h_46) (k_8 undef h_46) ⟨⟩ ⟨⟩) (fun t98 h_47 => 
                                                                                            Join1 (fun k_9 h_48 => guardP t96 true (Hp Try.prog false (binS .eql 27 (.tmp 98) (.const (.int .i64 2)) t98 (.int .i64 2)) k_9 h_48 ⟨⟩) (k_9 undef h_48) ⟨⟩ ⟨⟩) (fun t99 h_49 => 
                                                                                              Hp Try.prog false (pickS t96 t99 (.bool false)) (fun t100 h_50 => 
                                                                                                Join1 (fun k_10 h_51 => guardP t100 true (k_10 t67 h_51) (k_10 undef h_51) ⟨⟩ ⟨⟩) (fun t102 h_52 => 
                                                                                                  Join1 (fun k_11 h_53 => guardP t100 true (Hp Try.prog false (binS .eql 27 (.tmp 102) (.const (.int .i64 2)) t102 (.int .i64 2)) k_11 h_53 ⟨⟩) (k_11 undef h_53) ⟨⟩ ⟨⟩) (fun t103 h_54 => 
                                                                                                    Hp Try.prog false (pickS t100 t103 (.bool false)) (fun t104 h_55 => 
                                                                                                      Join1 (fun k_12 h_56 => guardP t104 true (k_12 t78 h_56) (k_12 undef h_56) ⟨⟩ ⟨⟩) (fun t106 h_57 => 
                                                                                                        Join1 (fun k_13 h_58 => guardP t104 true (Hp Try.prog false (binS .eql 27 (.tmp 106) (.const (.int .i64 2)) t106 (.int .i64 2)) k_13 h_58 ⟨⟩) (k_13 undef h_58) ⟨⟩ ⟨⟩) (fun t107 h_59 => 
                                                                                                          Hp Try.prog false (pickS t104 t107 (.bool false)) (fun t108 h_60 => 
                                                                                                            Join1 (fun k_14 h_61 => guardP t108 true (k_14 t44 h_61) (k_14 undef h_61) ⟨⟩ ⟨⟩) (fun t110 h_62 => 
                                                                                                              Join1 (fun k_15 h_63 => guardP t108 true (Hp Try.prog false (convert 39 9 t110) k_15 h_63 ⟨⟩) (k_15 undef h_63) ⟨⟩ ⟨⟩) (fun t111 h_64 => 
                                                                                                                Join1 (fun k_16 h_65 => guardP t108 true (k_16 b0 h_65) (k_16 undef h_65) ⟨⟩ ⟨⟩) (fun t112 h_66 => 
                                                                                                                  Join1 (fun k_17 h_67 => guardP t108 true (Hp Try.prog false (convert 39 9 t112) k_17 h_67 ⟨⟩) (k_17 undef h_67) ⟨⟩ ⟨⟩) (fun t113 h_68 => 
                                                                                                                    Join1 (fun k_18 h_69 => guardP t108 true (Hp Try.prog false (binS .eql 9 (.tmp 111) (.tmp 113) t111 t113) k_18 h_69 ⟨⟩) (k_18 undef h_69) ⟨⟩ ⟨⟩) (fun t114 h_70 => 
                                                                                                                      Hp Try.prog false (pickS t108 t114 (.bool false)) (fun t115 h_71 => 
                                                                                                                        Join1 (fun k_19 h_72 => guardP t115 true (CallsH Try.prog 41 #[] h_72 k_19 ⟨⟩) (k_19 undef h_72) ⟨⟩ ⟨⟩) (fun t117 h_73 => 
                                                                                                                          Hp Try.prog false (pickS t115 t117 (.bool false)) (fun t118 h_74 => 
                                                                                                                            R t118 h_74) h_73 ⟨⟩) h_71 ⟨⟩ ⟨⟩) h_70 ⟨⟩) h_68 ⟨⟩ ⟨⟩) h_66 ⟨⟩ ⟨⟩) h_64 ⟨⟩ ⟨⟩) h_62 ⟨⟩ ⟨⟩) h_60 ⟨⟩ ⟨⟩) h_59 ⟨⟩) h_57 ⟨⟩ ⟨⟩) h_55 ⟨⟩ ⟨⟩) h_54 ⟨⟩) h_52 ⟨⟩ ⟨⟩) h_50 ⟨⟩ ⟨⟩) h_49 ⟨⟩) h_47 ⟨⟩ ⟨⟩) h_45 ⟨⟩ ⟨⟩) h_44 ⟨⟩) h_42 ⟨⟩ ⟨⟩) h_40 ⟨⟩ ⟨⟩) h_39 ⟨⟩) h_37 ⟨⟩ ⟨⟩) h_35 ⟨⟩ ⟨⟩) h_34 ⟨⟩) h_32 ⟨⟩ ⟨⟩) h_30 ⟨⟩ ⟨⟩) h_29 ⟨⟩) h_27 ⟨⟩ ⟨⟩) h_25 ⟨⟩ ⟨⟩) h_24 ⟨⟩) h_23 ⟨⟩) h_22 ⟨⟩) ⟨⟩) (
                                                          CallsH Try.prog 48 #[b0, order1] h_21 (fun t122 h_75 => 
                                                            Hp Try.prog false (binS .neq 3 (.tmp 119) (.tmp 122) t49 t122) (fun t123 h_76 => 
                                                              Join1 (fun k_20 h_77 => guardP t123 false (k_20 t50 h_77) (k_20 undef h_77) ⟨⟩ ⟨⟩) (fun t125 h_78 => 
                                                                Join1 (fun k_21 h_79 => guardP t123 false (Hp Try.prog false (binS .neq 27 (.tmp 125) (.const (.int .i64 0)) t125 (.int .i64 0)) k_21 h_79 ⟨⟩) (k_21 undef h_79) ⟨⟩ ⟨⟩) (fun t126 h_80 => 
                                                                  Hp Try.prog false (pickS t123 (.bool true) t126) (fun t127 h_81 => 
                                                                    Join1 (fun k_22 h_82 => guardP t127 false (k_22 t54 h_82) (k_22 undef h_82) ⟨⟩ ⟨⟩) (fun t129 h_83 => 
                                                                      Join1 (fun k_23 h_84 => guardP t127 false (k_23 order1 h_84) (k_23 undef h_84) ⟨⟩ ⟨⟩) (fun t130 h_85 => 
                                                                        Join1 (fun k_24 h_86 => guardP t127 false (CallsH Try.prog 49 #[t130] h_86 k_24 ⟨⟩) (k_24 undef h_86) ⟨⟩ ⟨⟩) (fun t131 h_87 => 
                                                                          Join1 (fun k_25 h_88 => guardP t127 false (Hp Try.prog false (binS .neq 25 (.tmp 129) (.tmp 131) t129 t131) k_25 h_88 ⟨⟩) (k_25 undef h_88) ⟨⟩ ⟨⟩) (fun t132 h_89 => 
                                                                            Hp Try.prog false (pickS t127 (.bool true) t132) (fun t133 h_90 => 
                                                                              Join1 (fun k_26 h_91 => guardP t133 false (k_26 t55 h_91) (k_26 undef h_91) ⟨⟩ ⟨⟩) (fun t135 h_92 => 
                                                                                Join1 (fun k_27 h_93 => guardP t133 false (Hp Try.prog false (binS .neq 27 (.tmp 135) (.const (.int .i64 0)) t135 (.int .i64 0)) k_27 h_93 ⟨⟩) (k_27 undef h_93) ⟨⟩ ⟨⟩) (fun t136 h_94 => 
                                                                                  Hp Try.prog false (pickS t133 (.bool true) t136) (fun t137 h_95 => 
                                                                                    CondP t137 (
                                                                                      R (.bool false) h_95) (
                                                                                      Hp Try.prog false (binS .lss 3 (.tmp 138) (.const (.int .i64 0)) t29 (.int .i64 0)) (fun t139 h_96 => 
                                                                                        Join1 (fun k_28 h_97 => guardP t139 false (k_28 t29 h_97) (k_28 undef h_97) ⟨⟩ ⟨⟩) (fun t141 h_98 => 
                                                                                          Join1 (fun k_29 h_99 => guardP t139 false (k_29 t49 h_99) (k_29 undef h_99) ⟨⟩ ⟨⟩) (fun t142 h_100 => 
                                                                                            Join1 (fun k_30 h_101 => guardP t139 false (Hp Try.prog false (binS .geq 3 (.tmp 141) (.tmp 142) t141 t142) k_30 h_101 ⟨⟩) (k_30 undef h_101) ⟨⟩ ⟨⟩) (fun t143 h_102 => 
                                                                                              Hp Try.prog false (pickS t139 (.bool true) t143) (fun t144 h_103 => 
                                                                                                CondP t144 (
                                                                                                  CallsH Try.prog 47 #[t44, order1, t29, t33] h_103 (fun t150 h_104 => 
                                                                                                    Hp Try.prog false (Instr.extract t150 0) (fun t151 h_105 => 
                                                                                                      Hp Try.prog false (Instr.extract t150 1) (fun t152 h_106 => 
                                                                                                        Hp Try.prog false (binS .eql 25 (.tmp 153) (.const (.int .u64 0)) t61 (.int .u64 0)) (fun t154 h_107 => 
                                                                                                          Join1 (fun k_31 h_108 => guardP t154 true (k_31 t62 h_108) (k_31 undef h_108) ⟨⟩ ⟨⟩) (fun t156 h_109 => 
                                                                                                            Join1 (fun k_32 h_110 => guardP t154 true (Hp Try.prog false (binS .eql 27 (.tmp 156) (.const (.int .i64 4)) t156 (.int .i64 4)) k_32 h_110 ⟨⟩) (k_32 undef h_110) ⟨⟩ ⟨⟩) (fun t157 h_111 => 
                                                                                                              Hp Try.prog false (pickS t154 t157 (.bool false)) (fun t158 h_112 => 
                                                                                                                Join1 (fun k_33 h_113 => guardP t158 true (k_33 t67 h_113) (k_33 undef h_113) ⟨⟩ ⟨⟩) (fun t160 h_114 => 
                                                                                                                  Join1 (fun k_34 h_115 => guardP t158 true (Hp Try.prog false (binS .eql 27 (.tmp 160) (.const (.int .i64 4)) t160 (.int .i64 4)) k_34 h_115 ⟨⟩) (k_34 undef h_115) ⟨⟩ ⟨⟩) (fun t161 h_116 => 
                                                                                                                    Hp Try.prog false (pickS t158 t161 (.bool false)) (fun t162 h_117 => 
                                                                                                                      Join1 (fun k_35 h_118 => guardP t162 true (k_35 t152 h_118) (k_35 undef h_118) ⟨⟩ ⟨⟩) (fun t164 h_119 => 
                                                                                                                        Join1 (fun k_36 h_120 => guardP t162 true (Hp Try.prog false (binS .eql 27 (.tmp 164) (.const (.int .i64 4)) t164 (.int .i64 4)) k_36 h_120 ⟨⟩) (k_36 undef h_120) ⟨⟩ ⟨⟩) (fun t165 h_121 => 
                                                                                                                          Hp Try.prog false (pickS t162 t165 (.bool false)) (fun t166 h_122 => 
                                                                                                                            Join1 (fun k_37 h_123 => guardP t166 true (k_37 t44 h_123) (k_37 undef h_123) ⟨⟩ ⟨⟩) (fun t168 h_124 => 
                                                                                                                              Join1 (fun k_38 h_125 => guardP t166 true (Hp Try.prog false (convert 39 9 t168) k_38 h_125 ⟨⟩) (k_38 undef h_125) ⟨⟩ ⟨⟩) (fun t169 h_126 => 
                                                                                                                                Join1 (fun k_39 h_127 => guardP t166 true (k_39 b0 h_127) (k_39 undef h_127) ⟨⟩ ⟨⟩) (fun t170 h_128 => 
                                                                                                                                  Join1 (fun k_40 h_129 => guardP t166 true (Hp Try.prog false (convert 39 9 t170) k_40 h_129 ⟨⟩) (k_40 undef h_129) ⟨⟩ ⟨⟩) (fun t171 h_130 => 
                                                                                                                                    Join1 (fun k_41 h_131 => guardP t166 true (Hp Try.prog false (binS .eql 9 (.tmp 169) (.tmp 171) t169 t171) k_41 h_131 ⟨⟩) (k_41 undef h_131) ⟨⟩ ⟨⟩) (fun t172 h_132 => 
                                                                                                                                      Hp Try.prog false (pickS t166 t172 (.bool false)) (fun t173 h_133 => 
                                                                                                                                        Join1 (fun k_42 h_134 => guardP t173 true (CallsH Try.prog 41 #[] h_134 k_42 ⟨⟩) (k_42 undef h_134) ⟨⟩ ⟨⟩) (fun t175 h_135 => 
                                                                                                                                          Hp Try.prog false (pickS t173 t175 (.bool false)) (fun t176 h_136 => 
                                                                                                                                            R t176 h_136) h_135 ⟨⟩) h_133 ⟨⟩ ⟨⟩) h_132 ⟨⟩) h_130 ⟨⟩ ⟨⟩) h_128 ⟨⟩ ⟨⟩) h_126 ⟨⟩ ⟨⟩) h_124 ⟨⟩ ⟨⟩) h_122 ⟨⟩ ⟨⟩) h_121 ⟨⟩) h_119 ⟨⟩ ⟨⟩) h_117 ⟨⟩ ⟨⟩) h_116 ⟨⟩) h_114 ⟨⟩ ⟨⟩) h_112 ⟨⟩ ⟨⟩) h_111 ⟨⟩) h_109 ⟨⟩ ⟨⟩) h_107 ⟨⟩ ⟨⟩) h_106 ⟨⟩) h_105 ⟨⟩) h_104 ⟨⟩) ⟨⟩) (
                                                                                                  CallsH Try.prog 50 #[b0, order1, t29] h_103 (fun t181 h_137 => 
                                                                                                    Hp Try.prog false (binS .neq 25 (.tmp 177) (.tmp 181) t61 t181) (fun t182 h_138 => 
                                                                                                      Join1 (fun k_43 h_139 => guardP t182 false (k_43 t62 h_139) (k_43 undef h_139) ⟨⟩ ⟨⟩) (fun t184 h_140 => 
                                                                                                        Join1 (fun k_44 h_141 => guardP t182 false (Hp Try.prog false (binS .neq 27 (.tmp 184) (.const (.int .i64 0)) t184 (.int .i64 0)) k_44 h_141 ⟨⟩) (k_44 undef h_141) ⟨⟩ ⟨⟩) (fun t185 h_142 => 
                                                                                                          Hp Try.prog false (pickS t182 (.bool true) t185) (fun t186 h_143 => 
                                                                                                            CondP t186 (
                                                                                                              R (.bool false) h_143) (
                                                                                                              JoinN 1 (fun (k_45 : Value → Heap → Prop) h_144 =>
                                                                                                                Hp Try.prog false (binS .leq 25 (.tmp 188) (.tmp 189) t31 t54) (fun t190 h_145 => 
                                                                                                                  CondP t190 (
                                                                                                                    CallsH Try.prog 51 #[b0, order1, t29, t31] h_145 (fun t195 h_146 => 
                                                                                                                      k_45 t195 h_146) ⟨⟩) (
                                                                                                                    k_45 b0 h_145) ⟨⟩ ⟨⟩) h_144 ⟨⟩)
                                                                                                                (fun want22 h_147 =>
                                                                                                                Hp Try.prog false (binS .leq 25 (.tmp 196) (.tmp 197) t31 t54) (fun t198 h_148 => 
                                                                                                                  Hp Try.prog false (binS .eql 27 (.tmp 199) (.const (.int .i64 0)) t67 (.int .i64 0)) (fun t200 h_149 => 
                                                                                                                    Hp Try.prog false (binS .neq 4 (.tmp 198) (.tmp 200) t198 t200) (fun t201 h_150 => 
                                                                                                                      Join1 (fun k_46 h_151 => guardP t201 false (k_46 t67 h_151) (k_46 undef h_151) ⟨⟩ ⟨⟩) (fun t203 h_152 => 
                                                                                                                        Join1 (fun k_47 h_153 => guardP t201 false (Hp Try.prog false (binS .neq 27 (.tmp 203) (.const (.int .i64 0)) t203 (.int .i64 0)) k_47 h_153 ⟨⟩) (k_47 undef h_153) ⟨⟩ ⟨⟩) (fun t204 h_154 => 
                                                                                                                          Join1 (fun k_48 h_155 => guardP t201 false (k_48 t204 h_155) (k_48 undef h_155) ⟨⟩ ⟨⟩) (fun t205 h_156 => 
                                                                                                                            Join1 (fun k_49 h_157 => guardP t205 true (k_49 t67 h_157) (k_49 undef h_157) ⟨⟩ ⟨⟩) (fun t206 h_158 => 
                                                                                                                              Join1 (fun k_50 h_159 => guardP t205 true (Hp Try.prog false (binS .neq 27 (.tmp 206) (.const (.int .i64 3)) t206 (.int .i64 3)) k_50 h_159 ⟨⟩) (k_50 undef h_159) ⟨⟩ ⟨⟩) (fun t207 h_160 => 
                                                                                                                                Join1 (fun k_51 h_161 => guardP t201 false (Hp Try.prog false (pickS t205 t207 (.bool false)) k_51 h_161 ⟨⟩) (k_51 undef h_161) ⟨⟩ ⟨⟩) (fun t208 h_162 => 
                                                                                                                                  Hp Try.prog false (pickS t201 (.bool true) t208) (fun t209 h_163 => 
                                                                                                                                    Join1 (fun k_52 h_164 => guardP t209 false (k_52 t44 h_164) (k_52 undef h_164) ⟨⟩ ⟨⟩) (fun t211 h_165 => 
                                                                                                                                      Join1 (fun k_53 h_166 => guardP t209 false (Hp Try.prog false (convert 39 9 t211) k_53 h_166 ⟨⟩) (k_53 undef h_166) ⟨⟩ ⟨⟩) (fun t212 h_167 => 
                                                                                                                                        Join1 (fun k_54 h_168 => guardP t209 false (k_54 want22 h_168) (k_54 undef h_168) ⟨⟩ ⟨⟩) (fun t213 h_169 => 
                                                                                                                                          Join1 (fun k_55 h_170 => guardP t209 false (Hp Try.prog false (convert 39 9 t213) k_55 h_170 ⟨⟩) (k_55 undef h_170) ⟨⟩ ⟨⟩) (fun t214 h_171 => 
                                                                                                                                            Join1 (fun k_56 h_172 => guardP t209 false (Hp Try.prog false (binS .neq 9 (.tmp 212) (.tmp 214) t212 t214) k_56 h_172 ⟨⟩) (k_56 undef h_172) ⟨⟩ ⟨⟩) (fun t215 h_173 => 
                                                                                                                                              Hp Try.prog false (pickS t209 (.bool true) t215) (fun t216 h_174 => 
                                                                                                                                                CondP t216 (
                                                                                                                                                  R (.bool false) h_174) (
                                                                                                                                                  CallsH Try.prog 50 #[want22, order1, t29] h_174 (fun t220 h_175 => 
                                                                                                                                                    CallsH Try.prog 47 #[t44, order1, t29, t33] h_175 (fun t226 h_176 => 
                                                                                                                                                      Hp Try.prog false (Instr.extract t226 0) (fun t227 h_177 => 
                                                                                                                                                        Hp Try.prog false (Instr.extract t226 1) (fun t228 h_178 => 
                                                                                                                                                          Hp Try.prog false (binS .geq 2 (.tmp 229) (.const (.int .i64 0)) t33 (.int .i64 0)) (fun t230 h_179 => 
                                                                                                                                                            Join1 (fun k_57 h_180 => guardP t230 true (k_57 t33 h_180) (k_57 undef h_180) ⟨⟩ ⟨⟩) (fun t232 h_181 => 
                                                                                                                                                              Join1 (fun k_58 h_182 => guardP t230 true (Hp Try.prog false (convert 2 25 t232) k_58 h_182 ⟨⟩) (k_58 undef h_182) ⟨⟩ ⟨⟩) (fun t233 h_183 => 
                                                                                                                                                                Join1 (fun k_59 h_184 => guardP t230 true (k_59 t54 h_184) (k_59 undef h_184) ⟨⟩ ⟨⟩) (fun t234 h_185 => 
                                                                                                                                                                  Join1 (fun k_60 h_186 => guardP t230 true (k_60 t220 h_186) (k_60 undef h_186) ⟨⟩ ⟨⟩) (fun t235 h_187 => 
                                                                                                                                                                    Join1 (fun k_61 h_188 => guardP t230 true (Hp Try.prog false (binS .sub 25 (.tmp 234) (.tmp 235) t234 t235) k_61 h_188 ⟨⟩) (k_61 undef h_188) ⟨⟩ ⟨⟩) (fun t236 h_189 => 
                                                                                                                                                                      Join1 (fun k_62 h_190 => guardP t230 true (Hp Try.prog false (binS .leq 25 (.tmp 233) (.tmp 236) t233 t236) k_62 h_190 ⟨⟩) (k_62 undef h_190) ⟨⟩ ⟨⟩) (fun t237 h_191 => 
                                                                                                                                                                        Hp Try.prog false (pickS t230 t237 (.bool false)) (fun t238 h_192 => 
                                                                                                                                                                          Join1 (fun k_63 h_193 => guardP t238 false (k_63 t33 h_193) (k_63 undef h_193) ⟨⟩ ⟨⟩) (fun t240 h_194 => 
                                                                                                                                                                            Join1 (fun k_64 h_195 => guardP t238 false (Hp Try.prog false (binS .lss 2 (.tmp 240) (.const (.int .i64 0)) t240 (.int .i64 0)) k_64 h_195 ⟨⟩) (k_64 undef h_195) ⟨⟩ ⟨⟩) (fun t241 h_196 => 
                                                                                                                                                                              Join1 (fun k_65 h_197 => guardP t238 false (k_65 t241 h_197) (k_65 undef h_197) ⟨⟩ ⟨⟩) (fun t242 h_198 => 
                                                                                                                                                                                Join1 (fun k_66 h_199 => guardP t242 true (k_66 t33 h_199) (k_66 undef h_199) ⟨⟩ ⟨⟩) (fun t243 h_200 => 
                                                                                                                                                                                  Join1 (fun k_67 h_201 => guardP t242 true (Hp Try.prog false (binS .add 2 (.tmp 243) (.const (.int .i64 1)) t243 (.int .i64 1)) k_67 h_201 ⟨⟩) (k_67 undef h_201) ⟨⟩ ⟨⟩) (fun t244 h_202 => 
                                                                                                                                                                                    Join1 (fun k_68 h_203 => guardP t242 true (Hp Try.prog false (Op.unary .neg t244) k_68 h_203 ⟨⟩) (k_68 undef h_203) ⟨⟩ ⟨⟩) (fun t245 h_204 => 
                                                                                                                                                                                      Join1 (fun k_69 h_205 => guardP t242 true (Hp Try.prog false (convert 2 25 t245) k_69 h_205 ⟨⟩) (k_69 undef h_205) ⟨⟩ ⟨⟩) (fun t246 h_206 => 
                                                                                                                                                                                        Join1 (fun k_70 h_207 => guardP t242 true (k_70 t220 h_207) (k_70 undef h_207) ⟨⟩ ⟨⟩) (fun t247 h_208 => 
                                                                                                                                                                                          Join1 (fun k_71 h_209 => guardP t242 true (Hp Try.prog false (binS .lss 25 (.tmp 246) (.tmp 247) t246 t247) k_71 h_209 ⟨⟩) (k_71 undef h_209) ⟨⟩ ⟨⟩) (fun t248 h_210 => 
                                                                                                                                                                                            Join1 (fun k_72 h_211 => guardP t238 false (Hp Try.prog false (pickS t242 t248 (.bool false)) k_72 h_211 ⟨⟩) (k_72 undef h_211) ⟨⟩ ⟨⟩) (fun t249 h_212 => 
                                                                                                                                                                                              Hp Try.prog false (pickS t238 (.bool true) t249) (fun t250 h_213 => 
                                                                                                                                                                                                Hp Try.prog false (Op.unary .not t250) (fun t252 h_214 => 
                                                                                                                                                                                                  CondP t252 (
                                                                                                                                                                                                    Hp Try.prog false (binS .eql 25 (.tmp 253) (.const (.int .u64 0)) t227 (.int .u64 0)) (fun t254 h_215 => 
                                                                                                                                                                                                      Join1 (fun k_73 h_216 => guardP t254 true (k_73 t228 h_216) (k_73 undef h_216) ⟨⟩ ⟨⟩) (fun t256 h_217 => 
                                                                                                                                                                                                        Join1 (fun k_74 h_218 => guardP t254 true (Hp Try.prog false (binS .eql 27 (.tmp 256) (.const (.int .i64 3)) t256 (.int .i64 3)) k_74 h_218 ⟨⟩) (k_74 undef h_218) ⟨⟩ ⟨⟩) (fun t257 h_219 => 
                                                                                                                                                                                                          Hp Try.prog false (pickS t254 t257 (.bool false)) (fun t258 h_220 => 
                                                                                                                                                                                                            Join1 (fun k_75 h_221 => guardP t258 true (k_75 t44 h_221) (k_75 undef h_221) ⟨⟩ ⟨⟩) (fun t260 h_222 => 
                                                                                                                                                                                                              Join1 (fun k_76 h_223 => guardP t258 true (Hp Try.prog false (convert 39 9 t260) k_76 h_223 ⟨⟩) (k_76 undef h_223) ⟨⟩ ⟨⟩) (fun t261 h_224 => 
                                                                                                                                                                                                                Join1 (fun k_77 h_225 => guardP t258 true (k_77 want22 h_225) (k_77 undef h_225) ⟨⟩ ⟨⟩) (fun t262 h_226 => 
                                                                                                                                                                                                                  Join1 (fun k_78 h_227 => guardP t258 true (Hp Try.prog false (convert 39 9 t262) k_78 h_227 ⟨⟩) (k_78 undef h_227) ⟨⟩ ⟨⟩) (fun t263 h_228 => 
                                                                                                                                                                                                                    Join1 (fun k_79 h_229 => guardP t258 true (Hp Try.prog false (binS .eql 9 (.tmp 261) (.tmp 263) t261 t263) k_79 h_229 ⟨⟩) (k_79 undef h_229) ⟨⟩ ⟨⟩) (fun t264 h_230 => 
                                                                                                                                                                                                                      Hp Try.prog false (pickS t258 t264 (.bool false)) (fun t265 h_231 => 
                                                                                                                                                                                                                        Join1 (fun k_80 h_232 => guardP t265 true (k_80 t44 h_232) (k_80 undef h_232) ⟨⟩ ⟨⟩) (fun t267 h_233 => 
                                                                                                                                                                                                                          Join1 (fun k_81 h_234 => guardP t265 true (k_81 t44 h_234) (k_81 undef h_234) ⟨⟩ ⟨⟩) (fun t268 h_235 => 
                                                                                                                                                                                                                            Join1 (fun k_82 h_236 => guardP t265 true (Hp Try.prog false (Builtin.len_ #[39] 3 #[t268]) k_82 h_236 ⟨⟩) (k_82 undef h_236) ⟨⟩ ⟨⟩) (fun t269 h_237 => 
                                                                                                                                                                                                                              Join1 (fun k_83 h_238 => guardP t265 true (Hp Try.prog false (binS .add 3 (.tmp 269) (.const (.int .i64 1)) t269 (.int .i64 1)) k_83 h_238 ⟨⟩) (k_83 undef h_238) ⟨⟩ ⟨⟩) (fun t270 h_239 => 
                                                                                                                                                                                                                                Join1 (fun k_84 h_240 => guardP t265 true (Hp Try.prog false (Instr.sliceAt 39 t267 none (some t270) none) k_84 h_240 ⟨⟩) (k_84 undef h_240) ⟨⟩ ⟨⟩) (fun t271 h_241 => 
                                                                                                                                                                                                                                  Join1 (fun k_85 h_242 => guardP t265 true (k_85 t44 h_242) (k_85 undef h_242) ⟨⟩ ⟨⟩) (fun t272 h_243 => 
                                                                                                                                                                                                                                    Join1 (fun k_86 h_244 => guardP t265 true (Hp Try.prog false (Builtin.len_ #[39] 3 #[t272]) k_86 h_244 ⟨⟩) (k_86 undef h_244) ⟨⟩ ⟨⟩) (fun t273 h_245 => 
                                                                                                                                                                                                                                      Join1 (fun k_87 h_246 => guardP t265 true (Hp Try.prog false (Instr.indexAt 39 t271 t273) k_87 h_246 ⟨⟩) (k_87 undef h_246) ⟨⟩ ⟨⟩) (fun t274 h_247 => 
                                                                                                                                                                                                                                        Join1 (fun k_88 h_248 => guardP t265 true (Hp Try.prog false (Instr.loadAt 5 t274) k_88 h_248 ⟨⟩) (k_88 undef h_248) ⟨⟩ ⟨⟩) (fun t275 h_249 => 
                                                                                                                                                                                                                                          Join1 (fun k_89 h_250 => guardP t265 true (Hp Try.prog false (binS .eql 5 (.tmp 275) (.const (.int .u8 77)) t275 (.int .u8 77)) k_89 h_250 ⟨⟩) (k_89 undef h_250) ⟨⟩ ⟨⟩) (fun t276 h_251 => 
                                                                                                                                                                                                                                            Hp Try.prog false (pickS t265 t276 (.bool false)) (fun t277 h_252 => 
                                                                                                                                                                                                                                              Join1 (fun k_90 h_253 => guardP t277 true (CallsH Try.prog 41 #[] h_253 k_90 ⟨⟩) (k_90 undef h_253) ⟨⟩ ⟨⟩) (fun t279 h_254 => 
                                                                                                                                                                                                                                                Hp Try.prog false (pickS t277 t279 (.bool false)) (fun t280 h_255 => 
                                                                                                                                                                                                                                                  R t280 h_255) h_254 ⟨⟩) h_252 ⟨⟩ ⟨⟩) h_251 ⟨⟩) h_249 ⟨⟩ ⟨⟩) h_247 ⟨⟩ ⟨⟩) h_245 ⟨⟩ ⟨⟩) h_243 ⟨⟩ ⟨⟩) h_241 ⟨⟩ ⟨⟩) h_239 ⟨⟩ ⟨⟩) h_237 ⟨⟩ ⟨⟩) h_235 ⟨⟩ ⟨⟩) h_233 ⟨⟩ ⟨⟩) h_231 ⟨⟩ ⟨⟩) h_230 ⟨⟩) h_228 ⟨⟩ ⟨⟩) h_226 ⟨⟩ ⟨⟩) h_224 ⟨⟩ ⟨⟩) h_222 ⟨⟩ ⟨⟩) h_220 ⟨⟩ ⟨⟩) h_219 ⟨⟩) h_217 ⟨⟩ ⟨⟩) h_215 ⟨⟩ ⟨⟩) h_214 ⟨⟩) (
                                                                                                                                                                                                    Hp Try.prog false (convert 2 25 t33) (fun t283 h_256 => 
                                                                                                                                                                                                      Hp Try.prog false (binS .add 25 (.tmp 281) (.tmp 283) t220 t283) (fun t284 h_257 => 
                                                                                                                                                                                                        Hp Try.prog true (binS .eql 25 (.tmp 285) (.tmp 286) t227 t284) (fun t287 _ => 
                                                                                                                                                                                                          Join1 (fun k_91 h_258 => guardP t287 true (k_91 t228 h_258) (k_91 undef h_258) ⟨⟩ ⟨⟩) (fun t289 _ => 
                                                                                                                                                                                                            Join1 (fun k_92 h_259 => guardP t287 true (Hp Try.prog true (binS .eql 27 (.tmp 289) (.const (.int .i64 0)) t289 (.int .i64 0)) k_92 h_259 ⟨⟩) (k_92 undef h_259) ⟨⟩ ⟨⟩) (fun t290 _ => 
                                                                                                                                                                                                              Hp Try.prog true (pickS t287 t290 (.bool false)) (fun t291 _ => 
                                                                                                                                                                                                                Join1 (fun k_93 h_260 => guardP t291 true (k_93 t44 h_260) (k_93 undef h_260) ⟨⟩ ⟨⟩) (fun t293 _ => 
                                                                                                                                                                                                                  Join1 (fun k_94 h_261 => guardP t291 true (Hp Try.prog true (convert 39 9 t293) k_94 h_261 ⟨⟩) (k_94 undef h_261) ⟨⟩ ⟨⟩) (fun t294 _ => 
                                                                                                                                                                                                                    Join1 (fun k_95 h_262 => guardP t291 true (k_95 want22 h_262) (k_95 undef h_262) ⟨⟩ ⟨⟩) (fun t295 _ => 
                                                                                                                                                                                                                      Join1 (fun k_96 h_263 => guardP t291 true (k_96 order1 h_263) (k_96 undef h_263) ⟨⟩ ⟨⟩) (fun t296 _ => 
                                                                                                                                                                                                                        Join1 (fun k_97 h_264 => guardP t291 true (k_97 t29 h_264) (k_97 undef h_264) ⟨⟩ ⟨⟩) (fun t297 _ => 
                                                                                                                                                                                                                          Join1 (fun k_98 h_265 => guardP t291 true (k_98 t284 h_265) (k_98 undef h_265) ⟨⟩ ⟨⟩) (fun t298 _ => 
                                                                                                                                                                                                                            Join1 (fun k_99 h_266 => guardP t291 true (CallsH Try.prog 51 #[t295, t296, t297, t298] h_266 k_99 ⟨⟩) (k_99 undef h_266) ⟨⟩ ⟨⟩) (fun t299 h_267 => Join1 (fun k h => guardP t291 true (Hp Try.prog true (convert 39 9 t293) k h ⟨⟩) (k undef h) ⟨⟩ ⟨⟩) (fun u _ => u = t294) h_267 ⟨⟩ ⟨⟩ ∧ 
                                                                                                                                                                                                                              Join1 (fun k_100 h_268 => guardP t291 true (Hp Try.prog true (convert 39 9 t299) k_100 h_268 ⟨⟩) (k_100 undef h_268) ⟨⟩ ⟨⟩) (fun t300 _ => 
                                                                                                                                                                                                                                Join1 (fun k_101 h_269 => guardP t291 true (Hp Try.prog true (binS .eql 9 (.tmp 294) (.tmp 300) t294 t300) k_101 h_269 ⟨⟩) (k_101 undef h_269) ⟨⟩ ⟨⟩) (fun t301 _ => 
                                                                                                                                                                                                                                  Hp Try.prog true (pickS t291 t301 (.bool false)) (fun t302 _ => 
                                                                                                                                                                                                                                    Join1 (fun k_102 h_270 => guardP t302 true (k_102 t44 h_270) (k_102 undef h_270) ⟨⟩ ⟨⟩) (fun t304 _ => 
                                                                                                                                                                                                                                      Join1 (fun k_103 h_271 => guardP t302 true (k_103 t44 h_271) (k_103 undef h_271) ⟨⟩ ⟨⟩) (fun t305 _ => 
                                                                                                                                                                                                                                        Join1 (fun k_104 h_272 => guardP t302 true (Hp Try.prog true (Builtin.len_ #[39] 3 #[t305]) k_104 h_272 ⟨⟩) (k_104 undef h_272) ⟨⟩ ⟨⟩) (fun t306 _ => 
                                                                                                                                                                                                                                          Join1 (fun k_105 h_273 => guardP t302 true (Hp Try.prog true (binS .add 3 (.tmp 306) (.const (.int .i64 1)) t306 (.int .i64 1)) k_105 h_273 ⟨⟩) (k_105 undef h_273) ⟨⟩ ⟨⟩) (fun t307 _ => 
                                                                                                                                                                                                                                            Join1 (fun k_106 h_274 => guardP t302 true (Hp Try.prog true (Instr.sliceAt 39 t304 none (some t307) none) k_106 h_274 ⟨⟩) (k_106 undef h_274) ⟨⟩ ⟨⟩) (fun t308 _ => 
                                                                                                                                                                                                                                              Join1 (fun k_107 h_275 => guardP t302 true (k_107 t44 h_275) (k_107 undef h_275) ⟨⟩ ⟨⟩) (fun t309 _ => 
                                                                                                                                                                                                                                                Join1 (fun k_108 h_276 => guardP t302 true (Hp Try.prog true (Builtin.len_ #[39] 3 #[t309]) k_108 h_276 ⟨⟩) (k_108 undef h_276) ⟨⟩ ⟨⟩) (fun t310 _ => 
                                                                                                                                                                                                                                                  Join1 (fun k_109 h_277 => guardP t302 true (Hp Try.prog true (Instr.indexAt 39 t308 t310) k_109 h_277 ⟨⟩) (k_109 undef h_277) ⟨⟩ ⟨⟩) (fun t311 _ => 
                                                                                                                                                                                                                                                    Join1 (fun k_110 h_278 => guardP t302 true (Hp Try.prog true (Instr.loadAt 5 t311) k_110 h_278 ⟨⟩) (k_110 undef h_278) ⟨⟩ ⟨⟩) (fun t312 _ => 
                                                                                                                                                                                                                                                      Join1 (fun k_111 h_279 => guardP t302 true (Hp Try.prog true (binS .eql 5 (.tmp 312) (.const (.int .u8 77)) t312 (.int .u8 77)) k_111 h_279 ⟨⟩) (k_111 undef h_279) ⟨⟩ ⟨⟩) (fun t313 _ => 
                                                                                                                                                                                                                                                        Hp Try.prog true (pickS t302 t313 (.bool false)) (fun t314 _ => 
                                                                                                                                                                                                                                                          Join1 (fun k_112 h_280 => guardP t314 true (CallsH Try.prog 41 #[] h_280 k_112 ⟨⟩) (k_112 undef h_280) ⟨⟩ ⟨⟩) (fun t316 h_281 => 
                                                                                                                                                                                                                                                            Hp Try.prog true (pickS t314 t316 (.bool false)) (fun t317 _ => 
                                                                                                                                                                                                                                                              R t317 h_281) #[] ⟨⟩) h_267 ⟨⟩ ⟨⟩) #[] ⟨⟩) #[] ⟨⟩ ⟨⟩) h_267 ⟨⟩ ⟨⟩) #[] ⟨⟩ ⟨⟩) #[] ⟨⟩ ⟨⟩) #[] ⟨⟩ ⟨⟩) #[] ⟨⟩ ⟨⟩) #[] ⟨⟩ ⟨⟩) #[] ⟨⟩ ⟨⟩) #[] ⟨⟩ ⟨⟩) #[] ⟨⟩ ⟨⟩) #[] ⟨⟩) #[] ⟨⟩ ⟨⟩) h_267 ⟨⟩ ⟨⟩) h_257 ⟨⟩ ⟨⟩) #[] ⟨⟩ ⟨⟩) #[] ⟨⟩ ⟨⟩) #[] ⟨⟩ ⟨⟩) #[] ⟨⟩ ⟨⟩) h_257 ⟨⟩ ⟨⟩) #[] ⟨⟩ ⟨⟩) #[] ⟨⟩) #[] ⟨⟩ ⟨⟩) #[] ⟨⟩ ⟨⟩) #[] ⟨⟩) h_256 ⟨⟩) h_214 ⟨⟩) ⟨⟩ ⟨⟩) h_213 ⟨⟩) h_212 ⟨⟩) h_210 ⟨⟩ ⟨⟩) h_208 ⟨⟩ ⟨⟩) h_206 ⟨⟩ ⟨⟩) h_204 ⟨⟩ ⟨⟩) h_202 ⟨⟩ ⟨⟩) h_200 ⟨⟩ ⟨⟩) h_198 ⟨⟩ ⟨⟩) h_196 ⟨⟩ ⟨⟩) h_194 ⟨⟩ ⟨⟩) h_192 ⟨⟩ ⟨⟩) h_191 ⟨⟩) h_189 ⟨⟩ ⟨⟩) h_187 ⟨⟩ ⟨⟩) h_185 ⟨⟩ ⟨⟩) h_183 ⟨⟩ ⟨⟩) h_181 ⟨⟩ ⟨⟩) h_179 ⟨⟩ ⟨⟩) h_178 ⟨⟩) h_177 ⟨⟩) h_176 ⟨⟩) ⟨⟩) ⟨⟩) ⟨⟩ ⟨⟩) h_173 ⟨⟩) h_171 ⟨⟩ ⟨⟩) h_169 ⟨⟩ ⟨⟩) h_167 ⟨⟩ ⟨⟩) h_165 ⟨⟩ ⟨⟩) h_163 ⟨⟩ ⟨⟩) h_162 ⟨⟩) h_160 ⟨⟩ ⟨⟩) h_158 ⟨⟩ ⟨⟩) h_156 ⟨⟩ ⟨⟩) h_154 ⟨⟩ ⟨⟩) h_152 ⟨⟩ ⟨⟩) h_150 ⟨⟩ ⟨⟩) h_149 ⟨⟩) h_148 ⟨⟩) h_147 ⟨⟩) h_143 ⟨⟩ ⟨⟩) ⟨⟩ ⟨⟩) h_142 ⟨⟩) h_140 ⟨⟩ ⟨⟩) h_138 ⟨⟩ ⟨⟩) h_137 ⟨⟩) ⟨⟩) ⟨⟩ ⟨⟩) h_102 ⟨⟩) h_100 ⟨⟩ ⟨⟩) h_98 ⟨⟩ ⟨⟩) h_96 ⟨⟩ ⟨⟩) h_95 ⟨⟩) ⟨⟩ ⟨⟩) h_94 ⟨⟩) h_92 ⟨⟩ ⟨⟩) h_90 ⟨⟩ ⟨⟩) h_89 ⟨⟩) h_87 ⟨⟩ ⟨⟩) h_85 ⟨⟩ ⟨⟩) h_83 ⟨⟩ ⟨⟩) h_81 ⟨⟩ ⟨⟩) h_80 ⟨⟩) h_78 ⟨⟩ ⟨⟩) h_76 ⟨⟩ ⟨⟩) h_75 ⟨⟩) ⟨⟩) ⟨⟩ ⟨⟩) h_20 ⟨⟩) ⟨⟩) ⟨⟩) h_17 ⟨⟩) h_16 ⟨⟩) ⟨⟩) h_14 ⟨⟩) h_13 ⟨⟩) ⟨⟩) h_11 ⟨⟩) h_10 ⟨⟩) ⟨⟩) h_8 ⟨⟩) h_7 ⟨⟩) h_6 ⟨⟩) h_5 ⟨⟩) h_3 ⟨⟩) ⟨⟩ ⟨⟩) h_2 ⟨⟩) h_1 ⟨⟩) h_1 ⟨⟩) #[] ⟨⟩) h_1 ⟨⟩) #[] ⟨⟩) h_1 ⟨⟩) #[] ⟨⟩) h ⟨⟩

theorem n9_calls {b0 order1 in2 : Value} {R : Value → Heap → Prop} {h : Heap} (H : n9 b0 order1 in2 R h) : CallsH Try.prog 9 #[b0, order1, in2] h R ⟨⟩ :=
  callsH_of_eq Try.follow (.n none .l (.n none .l (.n none .l (.n none .l (.n none .l (.n none .l (.n none .l (.n none .l (.n none .l (.n none .l (.n none .l (.n none .l (.n none .l (.n (some [23]) .l .l)))))))))))))) Try.func9 (by kernel_rfl) (by kernel_rfl) (by kernel_rfl) H

/-- palimpsest/palimpsestlaw10.CountsFree -/
def n10 (b0 order1 in2 : Value) (R : Value → Heap → Prop) (h : Heap) : Prop :=
  Hp Try.prog false (Instr.box 88 in2) (fun in5 h_1 => 
    Hp Try.prog false (Builtin.len_ #[39] 3 #[b0]) (fun t12 h_2 => 
      Hp Try.prog false (binS .gtr 3 (.tmp 12) (.const (.int .i64 300)) t12 (.int .i64 300)) (fun t13 h_3 => 
        CondP t13 (
          CallsH Try.prog 41 #[] h_3 (fun t14 h_4 => 
            R t14 h_4) ⟨⟩) (
          Hp Try.prog false (Instr.fieldAt 88 in5 0) (fun t18 h_5 => 
            Hp Try.prog false (Instr.loadAt 3 t18) (fun t19 h_6 => 
              Hp Try.prog false (Instr.fieldAt 88 in5 1) (fun t20 h_7 => 
                Hp Try.prog false (Instr.loadAt 3 t20) (fun t21 h_8 => 
                  CallsH Try.prog 52 #[b0, order1, t19, t21] h_8 (fun t22 h_9 => 
                    Hp Try.prog false (Instr.extract t22 0) (fun t23 h_10 => 
                      Hp Try.prog false (Instr.extract t22 1) (fun t24 h_11 => 
                        Hp Try.prog false (Instr.fieldAt 88 in5 0) (fun t28 h_12 => 
                          Hp Try.prog false (Instr.loadAt 3 t28) (fun t29 h_13 => 
                            Hp Try.prog false (Instr.fieldAt 88 in5 1) (fun t30 h_14 => 
                              Hp Try.prog false (Instr.loadAt 3 t30) (fun t31 h_15 => 
                                CallsH Try.prog 53 #[b0, order1, t29, t31] h_15 (fun t32 h_16 => 
                                  Hp Try.prog false (Instr.extract t32 0) (fun t33 h_17 => 
                                    Hp Try.prog false (Instr.extract t32 1) (fun t34 h_18 => 
                                      Hp Try.prog false (binS .eql 3 (.tmp 35) (.tmp 36) t23 t33) (fun t37 h_19 => 
                                        Join1 (fun k h_20 => guardP t37 true (k t24 h_20) (k undef h_20) ⟨⟩ ⟨⟩) (fun t39 h_21 => 
                                          Join1 (fun k_1 h_22 => guardP t37 true (k_1 t34 h_22) (k_1 undef h_22) ⟨⟩ ⟨⟩) (fun t40 h_23 => 
                                            Join1 (fun k_2 h_24 => guardP t37 true (Hp Try.prog false (binS .eql 3 (.tmp 39) (.tmp 40) t39 t40) k_2 h_24 ⟨⟩) (k_2 undef h_24) ⟨⟩ ⟨⟩) (fun t41 h_25 => 
                                              Hp Try.prog false (pickS t37 t41 (.bool false)) (fun t42 h_26 => 
                                                Join1 (fun k_3 h_27 => guardP t42 true (CallsH Try.prog 41 #[] h_27 k_3 ⟨⟩) (k_3 undef h_27) ⟨⟩ ⟨⟩) (fun t44 h_28 => 
                                                  Hp Try.prog false (pickS t42 t44 (.bool false)) (fun t45 h_29 => 
                                                    R t45 h_29) h_28 ⟨⟩) h_26 ⟨⟩ ⟨⟩) h_25 ⟨⟩) h_23 ⟨⟩ ⟨⟩) h_21 ⟨⟩ ⟨⟩) h_19 ⟨⟩ ⟨⟩) h_18 ⟨⟩) h_17 ⟨⟩) h_16 ⟨⟩) ⟨⟩) h_14 ⟨⟩) h_13 ⟨⟩) h_12 ⟨⟩) h_11 ⟨⟩) h_10 ⟨⟩) h_9 ⟨⟩) ⟨⟩) h_7 ⟨⟩) h_6 ⟨⟩) h_5 ⟨⟩) h_3 ⟨⟩) ⟨⟩ ⟨⟩) h_2 ⟨⟩) h_1 ⟨⟩) h ⟨⟩

theorem n10_calls {b0 order1 in2 : Value} {R : Value → Heap → Prop} {h : Heap} (H : n10 b0 order1 in2 R h) : CallsH Try.prog 10 #[b0, order1, in2] h R ⟨⟩ :=
  callsH_of_eq Try.follow .l Try.func10 (by kernel_rfl) (by kernel_rfl) (by kernel_rfl) H

/-- palimpsest/palimpsestlaw10.CountsAll -/
def n11 (b0 in1 : Value) (R : Value → Heap → Prop) (h : Heap) : Prop :=
  Hp Try.prog false (Instr.box 39 b0) (fun b2 h_1 => 
    Hp Try.prog false (Instr.box 93 in1) (fun in3 h_2 => 
      Hp Try.prog false (Instr.alloc 4 true undef) (fun t4 h_3 => 
        JoinN 3 (fun (k : Value → Value → Value → Heap → Prop) h_4 =>
          Hp Try.prog true (Instr.fieldAt 93 in3 0) (fun t28 _ => 
            Hp Try.prog true (Instr.loadAt 3 t28) (fun t29 _ => 
              Hp Try.prog true (Instr.fieldAt 93 in3 1) (fun t30 _ => 
                Hp Try.prog true (Instr.loadAt 3 t30) (fun t31 _ => 
                  Hp Try.prog true (Instr.fieldAt 93 in3 2) (fun t32 _ => 
                    Hp Try.prog true (Instr.loadAt 3 t32) (fun t33 _ => 
                      ((
                        Hp Try.prog false (Instr.alloc 3 true undef) (fun order5 h_5 => Hp Try.prog true (Instr.loadAt 3 t32) (fun u _ => u = t33) h_5 ⟨⟩ ∧ Hp Try.prog true (Instr.loadAt 3 t30) (fun u _ => u = t31) h_5 ⟨⟩ ∧ Hp Try.prog true (Instr.loadAt 3 t28) (fun u _ => u = t29) h_5 ⟨⟩ ∧ 
                          Hp Try.prog false (Instr.alloc 3 true undef) (fun leave7 h_6 => Hp Try.prog true (Instr.loadAt 3 t32) (fun u _ => u = t33) h_6 ⟨⟩ ∧ Hp Try.prog true (Instr.loadAt 3 t30) (fun u _ => u = t31) h_6 ⟨⟩ ∧ Hp Try.prog true (Instr.loadAt 3 t28) (fun u _ => u = t29) h_6 ⟨⟩ ∧ 
                            Hp Try.prog false (storeS 3 order5 t29) (fun _ h_7 => Hp Try.prog true (Instr.loadAt 3 t32) (fun u _ => u = t33) h_7 ⟨⟩ ∧ Hp Try.prog true (Instr.loadAt 3 t30) (fun u _ => u = t31) h_7 ⟨⟩ ∧ 
                              Hp Try.prog false (storeS 3 leave7 t33) (fun _ h_8 => 
                                k order5 t31 leave7 h_8) h_7 ⟨⟩) h_6 ⟨⟩) h_5 ⟨⟩) h_4 ⟨⟩) ∧ (
                        Hp Try.prog false (Instr.alloc 3 true undef) (fun leave7_1 h_9 => Hp Try.prog true (Instr.loadAt 3 t32) (fun u _ => u = t33) h_9 ⟨⟩ ∧ Hp Try.prog true (Instr.loadAt 3 t30) (fun u _ => u = t31) h_9 ⟨⟩ ∧ Hp Try.prog true (Instr.loadAt 3 t28) (fun u _ => u = t29) h_9 ⟨⟩ ∧ 
                          Hp Try.prog false (Instr.alloc 3 true undef) (fun order5_1 h_10 => Hp Try.prog true (Instr.loadAt 3 t32) (fun u _ => u = t33) h_10 ⟨⟩ ∧ Hp Try.prog true (Instr.loadAt 3 t30) (fun u _ => u = t31) h_10 ⟨⟩ ∧ Hp Try.prog true (Instr.loadAt 3 t28) (fun u _ => u = t29) h_10 ⟨⟩ ∧ 
                            Hp Try.prog false (storeS 3 order5_1 t29) (fun _ h_11 => Hp Try.prog true (Instr.loadAt 3 t32) (fun u _ => u = t33) h_11 ⟨⟩ ∧ Hp Try.prog true (Instr.loadAt 3 t30) (fun u _ => u = t31) h_11 ⟨⟩ ∧ 
                              Hp Try.prog false (storeS 3 leave7_1 t33) (fun _ h_12 => 
                                k order5_1 t31 leave7_1 h_12) h_11 ⟨⟩) h_10 ⟨⟩) h_9 ⟨⟩) h_4 ⟨⟩))) h_4 ⟨⟩) #[] ⟨⟩) h_4 ⟨⟩) #[] ⟨⟩) h_4 ⟨⟩) #[] ⟨⟩)
          (fun order5_2 to6 leave7_2 h_13 =>
          Hp Try.prog false (Instr.loadAt 39 b2) (fun t34 h_14 => 
            Hp Try.prog false (Builtin.len_ #[39] 3 #[t34]) (fun t35 h_15 => 
              Hp Try.prog false (binS .gtr 3 (.tmp 35) (.const (.int .i64 600)) t35 (.int .i64 600)) (fun t36 h_16 => 
                CondP t36 (
                  CallsH Try.prog 41 #[] h_16 (fun t37 h_17 => 
                    Hp Try.prog false (storeS 4 t4 t37) (fun _ h_18 => 
                      RetD (.tuple #[]) h_18 (fun h_19 =>
                        Hp Try.prog true (loadCell 4 t4) (fun r _ =>
                          R r h_19) h_19 ⟨⟩) ⟨⟩) h_17 ⟨⟩) ⟨⟩) (
                  Hp Try.prog false (Instr.loadAt 39 b2) (fun t38 h_20 => 
                    Hp Try.prog false (Builtin.append_ #[39, 39] 39 #[(.slice none 0 0), t38]) (fun t39 h_21 => 
                      Hp Try.prog false (Instr.loadAt 3 order5_2) (fun t41 h_22 => 
                        CallsH Try.prog 54 #[t39, t41] h_22 (fun t42 h_23 => 
                          Hp Try.prog false (Instr.loadAt 3 order5_2) (fun t45 h_24 => 
                            CallsH Try.prog 55 #[t39, t45, to6] h_24 (fun t47 h_25 => 
                              Hp Try.prog false (Instr.extract t47 0) (fun t48 h_26 => 
                                Hp Try.prog false (Instr.extract t47 1) (fun t49 h_27 => 
                                  Hp Try.prog false (binS .eql 95 (.tmp 50) (.const .nilFunc) t42 .nilFunc) (fun t51 h_28 => 
                                    CondP t51 (
                                      Hp Try.prog false (storeS 4 t4 (.bool false)) (fun _ h_29 => 
                                        RetD (.tuple #[]) h_29 (fun h_30 =>
                                          Hp Try.prog true (loadCell 4 t4) (fun r_1 _ =>
                                            R r_1 h_30) h_30 ⟨⟩) ⟨⟩) h_28 ⟨⟩) (
                                      LoopC 1 (fun (X : Value → Heap → Prop) => fun i12 h_31 =>
                                        Hp Try.prog false (Builtin.len_ #[39] 3 #[t39]) (fun t54 h_32 => 
                                          Hp Try.prog false (binS .lss 3 (.tmp 52) (.tmp 54) i12 t54) (fun t55 h_33 => 
                                            CondP t55 (
                                              Hp Try.prog false (Instr.indexAt 39 t39 i12) (fun t60 h_34 => 
                                                Hp Try.prog false (Instr.loadAt 5 t60) (fun t61 h_35 => 
                                                  Hp Try.prog false (binS .add 5 (.tmp 61) (.const (.int .u8 1)) t61 (.int .u8 1)) (fun t62 h_36 => 
                                                    Hp Try.prog false (Instr.indexAt 39 t39 i12) (fun t63 h_37 => 
                                                      Hp Try.prog false (storeS 5 t63 t62) (fun _ h_38 => 
                                                        Hp Try.prog false (binS .add 3 (.tmp 56) (.const (.int .i64 1)) i12 (.int .i64 1)) (fun t57 h_39 => 
                                                          X t57 h_39) h_38 ⟨⟩) h_37 ⟨⟩) h_36 ⟨⟩) h_35 ⟨⟩) h_34 ⟨⟩) h_33 ⟨⟩) (
                                              JoinN 0 (fun (k_1 : Heap → Prop) h_40 =>
                                                Hp Try.prog false (Instr.loadAt 3 order5_2) (fun t64 h_41 => 
                                                  CallsH Try.prog 46 #[t64] h_41 (fun t65 h_42 => 
                                                    Hp Try.prog false (binS .eql 3 (.tmp 65) (.const (.int .i64 0)) t65 (.int .i64 0)) (fun t66 h_43 => 
                                                      Join1 (fun k_2 h_44 => guardP t66 false (k_2 to6 h_44) (k_2 undef h_44) ⟨⟩ ⟨⟩) (fun t68 h_45 => 
                                                        Join1 (fun k_3 h_46 => guardP t66 false (CallsH Try.prog 46 #[t68] h_46 k_3 ⟨⟩) (k_3 undef h_46) ⟨⟩ ⟨⟩) (fun t69 h_47 => 
                                                          Join1 (fun k_4 h_48 => guardP t66 false (Hp Try.prog false (binS .eql 3 (.tmp 69) (.const (.int .i64 0)) t69 (.int .i64 0)) k_4 h_48 ⟨⟩) (k_4 undef h_48) ⟨⟩ ⟨⟩) (fun t70 h_49 => 
                                                            Hp Try.prog false (pickS t66 (.bool true) t70) (fun t71 h_50 => 
                                                              CondP t71 (
                                                                Hp Try.prog false (Builtin.len_ #[39] 3 #[t48]) (fun t73 h_51 => 
                                                                  Hp Try.prog false (binS .neq 3 (.tmp 73) (.const (.int .i64 0)) t73 (.int .i64 0)) (fun t74 h_52 => 
                                                                    Join1 (fun k_5 h_53 => guardP t74 false (k_5 t49 h_53) (k_5 undef h_53) ⟨⟩ ⟨⟩) (fun t76 h_54 => 
                                                                      Join1 (fun k_6 h_55 => guardP t74 false (Hp Try.prog false (binS .neq 27 (.tmp 76) (.const (.int .i64 2)) t76 (.int .i64 2)) k_6 h_55 ⟨⟩) (k_6 undef h_55) ⟨⟩ ⟨⟩) (fun t77 h_56 => 
                                                                        Hp Try.prog false (pickS t74 (.bool true) t77) (fun t78 h_57 => 
                                                                          CondP t78 (
                                                                            Hp Try.prog false (storeS 4 t4 (.bool false)) (fun _ h_58 => 
                                                                              RetD (.tuple #[]) h_58 (fun h_59 =>
                                                                                Hp Try.prog true (loadCell 4 t4) (fun r_2 _ =>
                                                                                  R r_2 h_59) h_59 ⟨⟩) ⟨⟩) h_57 ⟨⟩) (
                                                                            k_1 h_57) ⟨⟩ ⟨⟩) h_56 ⟨⟩) h_54 ⟨⟩ ⟨⟩) h_52 ⟨⟩ ⟨⟩) h_51 ⟨⟩) h_50 ⟨⟩) (
                                                                Hp Try.prog false (Instr.loadAt 39 b2) (fun t80 h_60 => 
                                                                  Hp Try.prog false (Instr.loadAt 3 order5_2) (fun t81 h_61 => 
                                                                    CallsH Try.prog 56 #[t80, t81, to6] h_61 (fun t83 h_62 => 
                                                                      Hp Try.prog false (Instr.extract t83 0) (fun t84 h_63 => 
                                                                        Hp Try.prog false (Instr.extract t83 1) (fun t85 h_64 => 
                                                                          Hp Try.prog false (convert 39 9 t48) (fun t87 h_65 => 
                                                                            Hp Try.prog false (convert 39 9 t84) (fun t89 h_66 => 
                                                                              Hp Try.prog false (binS .neq 9 (.tmp 87) (.tmp 89) t87 t89) (fun t90 h_67 => 
                                                                                Join1 (fun k_7 h_68 => guardP t90 false (k_7 t49 h_68) (k_7 undef h_68) ⟨⟩ ⟨⟩) (fun t92 h_69 => 
                                                                                  Join1 (fun k_8 h_70 => guardP t90 false (k_8 t85 h_70) (k_8 undef h_70) ⟨⟩ ⟨⟩) (fun t93 h_71 => 
                                                                                    Join1 (fun k_9 h_72 => guardP t90 false (Hp Try.prog false (binS .neq 3 (.tmp 92) (.tmp 93) t92 t93) k_9 h_72 ⟨⟩) (k_9 undef h_72) ⟨⟩ ⟨⟩) (fun t94 h_73 => 
                                                                                      Hp Try.prog false (pickS t90 (.bool true) t94) (fun t95 h_74 => 
                                                                                        CondP t95 (
                                                                                          Hp Try.prog false (storeS 4 t4 (.bool false)) (fun _ h_75 => 
                                                                                            RetD (.tuple #[]) h_75 (fun h_76 =>
                                                                                              Hp Try.prog true (loadCell 4 t4) (fun r_3 _ =>
                                                                                                R r_3 h_76) h_76 ⟨⟩) ⟨⟩) h_74 ⟨⟩) (
                                                                                          Hp Try.prog false (binS .eql 3 (.tmp 96) (.const (.int .i64 0)) t85 (.int .i64 0)) (fun t97 h_77 => 
                                                                                            CondP t97 (
                                                                                              Hp Try.prog false (Instr.loadAt 3 order5_2) (fun t101 h_78 => 
                                                                                                CallsH Try.prog 55 #[t48, to6, t101] h_78 (fun t102 h_79 => 
                                                                                                  Hp Try.prog false (Instr.extract t102 0) (fun t103 h_80 => 
                                                                                                    Hp Try.prog false (Instr.extract t102 1) (fun t104 h_81 => 
                                                                                                      Hp Try.prog false (Instr.loadAt 39 b2) (fun t105 h_82 => 
                                                                                                        Hp Try.prog false (Instr.loadAt 3 order5_2) (fun t106 h_83 => 
                                                                                                          CallsH Try.prog 48 #[t105, t106] h_83 (fun t107 h_84 => 
                                                                                                            LoopC 1 (fun (X_1 : Value → Heap → Prop) => fun i18 h_85 =>
                                                                                                              Hp Try.prog false (binS .lss 3 (.tmp 108) (.tmp 109) i18 t107) (fun t110 h_86 => 
                                                                                                                CondP t110 (
                                                                                                                  Hp Try.prog false (Instr.loadAt 3 order5_2) (fun t115 h_87 => 
                                                                                                                    CallsH Try.prog 44 #[t103, t115, i18] h_87 (fun t117 h_88 => 
                                                                                                                      Hp Try.prog false (Instr.extract t117 0) (fun t118 h_89 => 
                                                                                                                        Hp Try.prog false (Instr.extract t117 1) (fun t119 h_90 => 
                                                                                                                          Hp Try.prog false (binS .neq 27 (.tmp 120) (.const (.int .i64 0)) t104 (.int .i64 0)) (fun t121 h_91 => 
                                                                                                                            Join1 (fun k_10 h_92 => guardP t121 false (k_10 t119 h_92) (k_10 undef h_92) ⟨⟩ ⟨⟩) (fun t123 h_93 => 
                                                                                                                              Join1 (fun k_11 h_94 => guardP t121 false (Hp Try.prog false (binS .neq 27 (.tmp 123) (.const (.int .i64 0)) t123 (.int .i64 0)) k_11 h_94 ⟨⟩) (k_11 undef h_94) ⟨⟩ ⟨⟩) (fun t124 h_95 => 
                                                                                                                                Hp Try.prog false (pickS t121 (.bool true) t124) (fun t125 h_96 => 
                                                                                                                                  Join1 (fun k_12 h_97 => guardP t125 false (k_12 t118 h_97) (k_12 undef h_97) ⟨⟩ ⟨⟩) (fun t127 h_98 => 
                                                                                                                                    Join1 (fun k_13 h_99 => guardP t125 false (Hp Try.prog false (Instr.loadAt 39 b2) k_13 h_99 ⟨⟩) (k_13 undef h_99) ⟨⟩ ⟨⟩) (fun t128 h_100 => 
                                                                                                                                      Join1 (fun k_14 h_101 => guardP t125 false (Hp Try.prog false (Instr.loadAt 3 order5_2) k_14 h_101 ⟨⟩) (k_14 undef h_101) ⟨⟩ ⟨⟩) (fun t129 h_102 => 
                                                                                                                                        Join1 (fun k_15 h_103 => guardP t125 false (k_15 i18 h_103) (k_15 undef h_103) ⟨⟩ ⟨⟩) (fun t130 h_104 => 
                                                                                                                                          Join1 (fun k_16 h_105 => guardP t125 false (CallsH Try.prog 50 #[t128, t129, t130] h_105 k_16 ⟨⟩) (k_16 undef h_105) ⟨⟩ ⟨⟩) (fun t131 h_106 => 
                                                                                                                                            Join1 (fun k_17 h_107 => guardP t125 false (Hp Try.prog false (binS .neq 25 (.tmp 127) (.tmp 131) t127 t131) k_17 h_107 ⟨⟩) (k_17 undef h_107) ⟨⟩ ⟨⟩) (fun t132 h_108 => 
                                                                                                                                              Hp Try.prog false (pickS t125 (.bool true) t132) (fun t133 h_109 => 
                                                                                                                                                CondP t133 (
                                                                                                                                                  Hp Try.prog false (storeS 4 t4 (.bool false)) (fun _ h_110 => 
                                                                                                                                                    RetD (.tuple #[]) h_110 (fun h_111 =>
                                                                                                                                                      Hp Try.prog true (loadCell 4 t4) (fun r_4 _ =>
                                                                                                                                                        R r_4 h_111) h_111 ⟨⟩) ⟨⟩) h_109 ⟨⟩) (
                                                                                                                                                  Hp Try.prog false (binS .add 3 (.tmp 111) (.const (.int .i64 1)) i18 (.int .i64 1)) (fun t112 h_112 => 
                                                                                                                                                    X_1 t112 h_112) h_109 ⟨⟩) ⟨⟩ ⟨⟩) h_108 ⟨⟩) h_106 ⟨⟩ ⟨⟩) h_104 ⟨⟩ ⟨⟩) h_102 ⟨⟩ ⟨⟩) h_100 ⟨⟩ ⟨⟩) h_98 ⟨⟩ ⟨⟩) h_96 ⟨⟩ ⟨⟩) h_95 ⟨⟩) h_93 ⟨⟩ ⟨⟩) h_91 ⟨⟩ ⟨⟩) h_90 ⟨⟩) h_89 ⟨⟩) h_88 ⟨⟩) ⟨⟩) h_86 ⟨⟩) (
                                                                                                                  k_1 h_86) ⟨⟩ ⟨⟩) h_85 ⟨⟩) [(.int .i64 0)] h_84 ⟨⟩) ⟨⟩) h_82 ⟨⟩) h_81 ⟨⟩) h_80 ⟨⟩) h_79 ⟨⟩) ⟨⟩) h_77 ⟨⟩) (
                                                                                              k_1 h_77) ⟨⟩ ⟨⟩) h_74 ⟨⟩) ⟨⟩ ⟨⟩) h_73 ⟨⟩) h_71 ⟨⟩ ⟨⟩) h_69 ⟨⟩ ⟨⟩) h_67 ⟨⟩ ⟨⟩) h_66 ⟨⟩) h_65 ⟨⟩) h_64 ⟨⟩) h_63 ⟨⟩) h_62 ⟨⟩) ⟨⟩) h_60 ⟨⟩) h_50 ⟨⟩) ⟨⟩ ⟨⟩) h_49 ⟨⟩) h_47 ⟨⟩ ⟨⟩) h_45 ⟨⟩ ⟨⟩) h_43 ⟨⟩ ⟨⟩) h_42 ⟨⟩) ⟨⟩) h_40 ⟨⟩)
                                                (fun h_113 =>
                                                Hp Try.prog false (Instr.alloc 3 true undef) (fun many21 h_114 => 
                                                  Hp Try.prog false (storeS 3 many21 (.int .i64 0)) (fun _ h_115 => 
                                                    JoinN 0 (fun (k_18 : Heap → Prop) h_116 =>
                                                      Hp Try.prog false (Instr.loadAt 3 order5_2) (fun t134 h_117 => 
                                                        CallsH Try.prog 46 #[t134] h_117 (fun t135 h_118 => 
                                                          Hp Try.prog false (binS .gtr 3 (.tmp 135) (.const (.int .i64 0)) t135 (.int .i64 0)) (fun t136 h_119 => 
                                                            CondP t136 (
                                                              Hp Try.prog false (Instr.loadAt 39 b2) (fun t137 h_120 => 
                                                                Hp Try.prog false (Instr.loadAt 3 order5_2) (fun t138 h_121 => 
                                                                  CallsH Try.prog 48 #[t137, t138] h_121 (fun t139 h_122 => 
                                                                    Hp Try.prog false (storeS 3 many21 t139) (fun _ h_123 => 
                                                                      k_18 h_123) h_122 ⟨⟩) ⟨⟩) h_120 ⟨⟩) h_119 ⟨⟩) (
                                                              k_18 h_119) ⟨⟩ ⟨⟩) h_118 ⟨⟩) ⟨⟩) h_116 ⟨⟩)
                                                      (fun h_124 =>
                                                      JoinN 1 (fun (k_19 : Value → Heap → Prop) h_125 =>
                                                        Hp Try.prog false (Instr.alloc 3 true undef) (fun turn22 h_126 => 
                                                          Hp Try.prog false (storeS 3 turn22 (.int .i64 0)) (fun _ h_127 => 
                                                            JoinN 1 (fun (k_20 : Value → Heap → Prop) h_128 =>
                                                              LoopC 2 (fun (X_2 : Value → Value → Heap → Prop) => fun D turn22_1 h_129 =>
                                                                Hp Try.prog false (Instr.loadAt 3 turn22_1) (fun t140 h_130 => 
                                                                  Hp Try.prog false (binS .lss 3 (.tmp 140) (.const (.int .i64 2)) t140 (.int .i64 2)) (fun t141 h_131 => 
                                                                    CondP t141 (
                                                                      JoinN 1 (fun (k_21 : Value → Heap → Prop) h_132 =>
                                                                        JoinN 1 (fun (k_22 : Value → Heap → Prop) h_133 =>
                                                                          Hp Try.prog false (Instr.alloc 3 true undef) (fun at23 h_134 => 
                                                                            Hp Try.prog false (Instr.alloc 3 true undef) (fun told24 h_135 => 
                                                                              Hp Try.prog false (storeS 3 at23 (.int .i64 0)) (fun _ h_136 => 
                                                                                Hp Try.prog false (storeS 3 told24 (.int .i64 0)) (fun _ h_137 => 
                                                                                  Hp Try.prog false (Instr.alloc 4 true undef) (fun stopped25 h_138 => 
                                                                                    Hp Try.prog false (storeS 4 stopped25 (.bool false)) (fun _ h_139 => 
                                                                                      JoinN 1 (fun (k_23 : Value → Heap → Prop) h_140 =>
                                                                                        JoinN 1 (fun (k_24 : Value → Heap → Prop) h_141 =>
                                                                                          RangeC Try.prog none t42 2 D (fun l args bg Nb Jb h_142 =>
                                                                                            bg (fun h_143 =>
                                                                                              LoopC 0 (fun (X_3 : Heap → Prop) => fun h_144 =>
                                                                                                Hp Try.prog false (Instr.loadAt 3 at23) (fun t147 h_145 => 
                                                                                                  Hp Try.prog false (binS .lss 3 (.tmp 147) (.tmp 148) t147 (getV args 0)) (fun t149 h_146 => 
                                                                                                    Join1 (fun k_25 h_147 => guardP t149 true (Hp Try.prog false (Instr.loadAt 3 at23) k_25 h_147 ⟨⟩) (k_25 undef h_147) ⟨⟩ ⟨⟩) (fun t151 h_148 => 
                                                                                                      Join1 (fun k_26 h_149 => guardP t149 true (Hp Try.prog false (Instr.loadAt 3 many21) k_26 h_149 ⟨⟩) (k_26 undef h_149) ⟨⟩ ⟨⟩) (fun t152 h_150 => 
                                                                                                        Join1 (fun k_27 h_151 => guardP t149 true (Hp Try.prog false (binS .lss 3 (.tmp 151) (.tmp 152) t151 t152) k_27 h_151 ⟨⟩) (k_27 undef h_151) ⟨⟩ ⟨⟩) (fun t153 h_152 => 
                                                                                                          Hp Try.prog false (pickS t149 t153 (.bool false)) (fun t154 h_153 => 
                                                                                                            Join1 (fun k_28 h_154 => guardP t154 true (Hp Try.prog false (Instr.loadAt 39 b2) k_28 h_154 ⟨⟩) (k_28 undef h_154) ⟨⟩ ⟨⟩) (fun t156 h_155 => 
                                                                                                              Join1 (fun k_29 h_156 => guardP t154 true (Hp Try.prog false (Instr.loadAt 3 order5_2) k_29 h_156 ⟨⟩) (k_29 undef h_156) ⟨⟩ ⟨⟩) (fun t157 h_157 => 
                                                                                                                Join1 (fun k_30 h_158 => guardP t154 true (Hp Try.prog false (Instr.loadAt 3 at23) k_30 h_158 ⟨⟩) (k_30 undef h_158) ⟨⟩ ⟨⟩) (fun t158 h_159 => 
                                                                                                                  Join1 (fun k_31 h_160 => guardP t154 true (CallsH Try.prog 50 #[t156, t157, t158] h_160 k_31 ⟨⟩) (k_31 undef h_160) ⟨⟩ ⟨⟩) (fun t159 h_161 => 
                                                                                                                    Join1 (fun k_32 h_162 => guardP t154 true (Hp Try.prog false (binS .eql 25 (.tmp 159) (.const (.int .u64 0)) t159 (.int .u64 0)) k_32 h_162 ⟨⟩) (k_32 undef h_162) ⟨⟩ ⟨⟩) (fun t160 h_163 => 
                                                                                                                      Hp Try.prog false (pickS t154 t160 (.bool false)) (fun t161 h_164 => 
                                                                                                                        CondP t161 (
                                                                                                                          Hp Try.prog false (Instr.loadAt 3 at23) (fun t162 h_165 => 
                                                                                                                            Hp Try.prog false (binS .add 3 (.tmp 162) (.const (.int .i64 1)) t162 (.int .i64 1)) (fun t163 h_166 => 
                                                                                                                              Hp Try.prog false (storeS 3 at23 t163) (fun _ h_167 => 
                                                                                                                                X_3 h_167) h_166 ⟨⟩) h_165 ⟨⟩) h_164 ⟨⟩) (
                                                                                                                          Hp Try.prog false (Instr.loadAt 3 at23) (fun t165 h_168 => 
                                                                                                                            Hp Try.prog false (binS .neq 3 (.tmp 164) (.tmp 165) (getV args 0) t165) (fun t166 h_169 => 
                                                                                                                              Join1 (fun k_33 h_170 => guardP t166 false (k_33 (getV args 0) h_170) (k_33 undef h_170) ⟨⟩ ⟨⟩) (fun t168 h_171 => 
                                                                                                                                Join1 (fun k_34 h_172 => guardP t166 false (Hp Try.prog false (Instr.loadAt 3 many21) k_34 h_172 ⟨⟩) (k_34 undef h_172) ⟨⟩ ⟨⟩) (fun t169 h_173 => 
                                                                                                                                  Join1 (fun k_35 h_174 => guardP t166 false (Hp Try.prog false (binS .geq 3 (.tmp 168) (.tmp 169) t168 t169) k_35 h_174 ⟨⟩) (k_35 undef h_174) ⟨⟩ ⟨⟩) (fun t170 h_175 => 
                                                                                                                                    Hp Try.prog false (pickS t166 (.bool true) t170) (fun t171 h_176 => 
                                                                                                                                      Join1 (fun k_36 h_177 => guardP t171 false (k_36 (getV args 1) h_177) (k_36 undef h_177) ⟨⟩ ⟨⟩) (fun t173 h_178 => 
                                                                                                                                        Join1 (fun k_37 h_179 => guardP t171 false (Hp Try.prog false (binS .eql 25 (.tmp 173) (.const (.int .u64 0)) t173 (.int .u64 0)) k_37 h_179 ⟨⟩) (k_37 undef h_179) ⟨⟩ ⟨⟩) (fun t174 h_180 => 
                                                                                                                                          Hp Try.prog false (pickS t171 (.bool true) t174) (fun t175 h_181 => 
                                                                                                                                            Join1 (fun k_38 h_182 => guardP t175 false (k_38 (getV args 1) h_182) (k_38 undef h_182) ⟨⟩ ⟨⟩) (fun t177 h_183 => 
                                                                                                                                              Join1 (fun k_39 h_184 => guardP t175 false (Hp Try.prog false (Instr.loadAt 39 b2) k_39 h_184 ⟨⟩) (k_39 undef h_184) ⟨⟩ ⟨⟩) (fun t178 h_185 => 
                                                                                                                                                Join1 (fun k_40 h_186 => guardP t175 false (Hp Try.prog false (Instr.loadAt 3 order5_2) k_40 h_186 ⟨⟩) (k_40 undef h_186) ⟨⟩ ⟨⟩) (fun t179 h_187 => 
                                                                                                                                                  Join1 (fun k_41 h_188 => guardP t175 false (k_41 (getV args 0) h_188) (k_41 undef h_188) ⟨⟩ ⟨⟩) (fun t180 h_189 => 
                                                                                                                                                    Join1 (fun k_42 h_190 => guardP t175 false (CallsH Try.prog 50 #[t178, t179, t180] h_190 k_42 ⟨⟩) (k_42 undef h_190) ⟨⟩ ⟨⟩) (fun t181 h_191 => 
                                                                                                                                                      Join1 (fun k_43 h_192 => guardP t175 false (Hp Try.prog false (binS .neq 25 (.tmp 177) (.tmp 181) t177 t181) k_43 h_192 ⟨⟩) (k_43 undef h_192) ⟨⟩ ⟨⟩) (fun t182 h_193 => 
                                                                                                                                                        Hp Try.prog false (pickS t175 (.bool true) t182) (fun t183 h_194 => 
                                                                                                                                                          CondP t183 (
                                                                                                                                                            Hp Try.prog false (storeS 4 t4 (.bool false)) (fun _ h_195 => 
                                                                                                                                                              Jb .ret h_195) h_194 ⟨⟩) (
                                                                                                                                                            Hp Try.prog false (Instr.loadAt 3 at23) (fun t184 h_196 => 
                                                                                                                                                              Hp Try.prog false (binS .add 3 (.tmp 184) (.const (.int .i64 1)) t184 (.int .i64 1)) (fun t185 h_197 => 
                                                                                                                                                                Hp Try.prog false (storeS 3 at23 t185) (fun _ h_198 => 
                                                                                                                                                                  Hp Try.prog false (Instr.loadAt 3 told24) (fun t186 h_199 => 
                                                                                                                                                                    Hp Try.prog false (binS .add 3 (.tmp 186) (.const (.int .i64 1)) t186 (.int .i64 1)) (fun t187 h_200 => 
                                                                                                                                                                      Hp Try.prog false (storeS 3 told24 t187) (fun _ h_201 => 
                                                                                                                                                                        Hp Try.prog false (Instr.loadAt 3 turn22_1) (fun t188 h_202 => 
                                                                                                                                                                          Hp Try.prog false (binS .eql 3 (.tmp 188) (.const (.int .i64 0)) t188 (.int .i64 0)) (fun t189 h_203 => 
                                                                                                                                                                            Join1 (fun k_44 h_204 => guardP t189 true (Hp Try.prog false (Instr.loadAt 3 told24) k_44 h_204 ⟨⟩) (k_44 undef h_204) ⟨⟩ ⟨⟩) (fun t191 h_205 => 
                                                                                                                                                                              Join1 (fun k_45 h_206 => guardP t189 true (Hp Try.prog false (Instr.loadAt 3 leave7_2) k_45 h_206 ⟨⟩) (k_45 undef h_206) ⟨⟩ ⟨⟩) (fun t192 h_207 => 
                                                                                                                                                                                Join1 (fun k_46 h_208 => guardP t189 true (Hp Try.prog false (binS .eql 3 (.tmp 191) (.tmp 192) t191 t192) k_46 h_208 ⟨⟩) (k_46 undef h_208) ⟨⟩ ⟨⟩) (fun t193 h_209 => 
                                                                                                                                                                                  Hp Try.prog false (pickS t189 t193 (.bool false)) (fun t194 h_210 => 
                                                                                                                                                                                    CondP t194 (
                                                                                                                                                                                      Hp Try.prog false (storeS 4 stopped25 (.bool true)) (fun _ h_211 => 
                                                                                                                                                                                        Jb (.exit 6) h_211) h_210 ⟨⟩) (
                                                                                                                                                                                      Nb h_210) ⟨⟩ ⟨⟩) h_209 ⟨⟩) h_207 ⟨⟩ ⟨⟩) h_205 ⟨⟩ ⟨⟩) h_203 ⟨⟩ ⟨⟩) h_202 ⟨⟩) h_201 ⟨⟩) h_200 ⟨⟩) h_199 ⟨⟩) h_198 ⟨⟩) h_197 ⟨⟩) h_196 ⟨⟩) h_194 ⟨⟩) ⟨⟩ ⟨⟩) h_193 ⟨⟩) h_191 ⟨⟩ ⟨⟩) h_189 ⟨⟩ ⟨⟩) h_187 ⟨⟩ ⟨⟩) h_185 ⟨⟩ ⟨⟩) h_183 ⟨⟩ ⟨⟩) h_181 ⟨⟩ ⟨⟩) h_180 ⟨⟩) h_178 ⟨⟩ ⟨⟩) h_176 ⟨⟩ ⟨⟩) h_175 ⟨⟩) h_173 ⟨⟩ ⟨⟩) h_171 ⟨⟩ ⟨⟩) h_169 ⟨⟩ ⟨⟩) h_168 ⟨⟩) h_164 ⟨⟩) ⟨⟩ ⟨⟩) h_163 ⟨⟩) h_161 ⟨⟩ ⟨⟩) h_159 ⟨⟩ ⟨⟩) h_157 ⟨⟩ ⟨⟩) h_155 ⟨⟩ ⟨⟩) h_153 ⟨⟩ ⟨⟩) h_152 ⟨⟩) h_150 ⟨⟩ ⟨⟩) h_148 ⟨⟩ ⟨⟩) h_146 ⟨⟩ ⟨⟩) h_145 ⟨⟩) h_144 ⟨⟩) [] h_143 ⟨⟩) h_142)
                                                                                            (fun D_1 h_212 =>
                                                                                            k_24 D_1 h_212)
                                                                                            (fun D_2 h_213 =>
                                                                                            RetD D_2 h_213 (fun h_214 =>
                                                                                              Hp Try.prog true (loadCell 4 t4) (fun r_5 _ =>
                                                                                                R r_5 h_214) h_214 ⟨⟩) ⟨⟩)
                                                                                            (fun id D_3 h_215 => bif Nat.beq id 6 then (k_24 D_3 h_215) else bif Nat.beq id 5 then (k_22 D_3 h_215) else bif Nat.beq id 4 then (k_20 D_3 h_215) else False) h_141 ⟨⟩ ⟨⟩ ⟨⟩ ⟨⟩)
                                                                                          (fun D_4 h_216 =>
                                                                                          k_23 D_4 h_216) h_140 ⟨⟩ ⟨⟩)
                                                                                        (fun D_5 h_217 =>
                                                                                        LoopC 0 (fun (X_4 : Heap → Prop) => fun h_218 =>
                                                                                          Hp Try.prog false (Instr.loadAt 3 at23) (fun t195 h_219 => 
                                                                                            Hp Try.prog false (Instr.loadAt 3 many21) (fun t196 h_220 => 
                                                                                              Hp Try.prog false (binS .lss 3 (.tmp 195) (.tmp 196) t195 t196) (fun t197 h_221 => 
                                                                                                Join1 (fun k_47 h_222 => guardP t197 true (Hp Try.prog false (Instr.loadAt 4 stopped25) k_47 h_222 ⟨⟩) (k_47 undef h_222) ⟨⟩ ⟨⟩) (fun t199 h_223 => 
                                                                                                  Join1 (fun k_48 h_224 => guardP t197 true (Hp Try.prog false (Op.unary .not t199) k_48 h_224 ⟨⟩) (k_48 undef h_224) ⟨⟩ ⟨⟩) (fun t200 h_225 => 
                                                                                                    Hp Try.prog false (pickS t197 t200 (.bool false)) (fun t201 h_226 => 
                                                                                                      CondP t201 (
                                                                                                        Hp Try.prog false (Instr.loadAt 39 b2) (fun t202 h_227 => 
                                                                                                          Hp Try.prog false (Instr.loadAt 3 order5_2) (fun t203 h_228 => 
                                                                                                            Hp Try.prog false (Instr.loadAt 3 at23) (fun t204 h_229 => 
                                                                                                              CallsH Try.prog 50 #[t202, t203, t204] h_229 (fun t205 h_230 => 
                                                                                                                Hp Try.prog false (binS .neq 25 (.tmp 205) (.const (.int .u64 0)) t205 (.int .u64 0)) (fun t206 h_231 => 
                                                                                                                  CondP t206 (
                                                                                                                    Hp Try.prog false (storeS 4 t4 (.bool false)) (fun _ h_232 => 
                                                                                                                      RetD D_5 h_232 (fun h_233 =>
                                                                                                                        Hp Try.prog true (loadCell 4 t4) (fun r_6 _ =>
                                                                                                                          R r_6 h_233) h_233 ⟨⟩) ⟨⟩) h_231 ⟨⟩) (
                                                                                                                    Hp Try.prog false (Instr.loadAt 3 at23) (fun t207 h_234 => 
                                                                                                                      Hp Try.prog false (binS .add 3 (.tmp 207) (.const (.int .i64 1)) t207 (.int .i64 1)) (fun t208 h_235 => 
                                                                                                                        Hp Try.prog false (storeS 3 at23 t208) (fun _ h_236 => 
                                                                                                                          X_4 h_236) h_235 ⟨⟩) h_234 ⟨⟩) h_231 ⟨⟩) ⟨⟩ ⟨⟩) h_230 ⟨⟩) ⟨⟩) h_228 ⟨⟩) h_227 ⟨⟩) h_226 ⟨⟩) (
                                                                                                        k_22 D_5 h_226) ⟨⟩ ⟨⟩) h_225 ⟨⟩) h_223 ⟨⟩ ⟨⟩) h_221 ⟨⟩ ⟨⟩) h_220 ⟨⟩) h_219 ⟨⟩) h_218 ⟨⟩) [] h_217 ⟨⟩) h_139 ⟨⟩ ⟨⟩) h_138 ⟨⟩) h_137 ⟨⟩) h_136 ⟨⟩) h_135 ⟨⟩) h_134 ⟨⟩) h_133 ⟨⟩)
                                                                          (fun D_6 h_237 =>
                                                                          k_21 D_6 h_237) h_132 ⟨⟩ ⟨⟩)
                                                                        (fun D_7 h_238 =>
                                                                        Hp Try.prog false (Instr.loadAt 3 turn22_1) (fun t209 h_239 => 
                                                                          Hp Try.prog false (Instr.alloc 3 true undef) (fun turn22_2 h_240 => 
                                                                            Hp Try.prog false (storeS 3 turn22_2 t209) (fun _ h_241 => 
                                                                              Hp Try.prog false (Instr.loadAt 3 turn22_2) (fun t142 h_242 => 
                                                                                Hp Try.prog false (binS .add 3 (.tmp 142) (.const (.int .i64 1)) t142 (.int .i64 1)) (fun t143 h_243 => 
                                                                                  Hp Try.prog false (storeS 3 turn22_2 t143) (fun _ h_244 => 
                                                                                    X_2 D_7 turn22_2 h_244) h_243 ⟨⟩) h_242 ⟨⟩) h_241 ⟨⟩) h_240 ⟨⟩) h_239 ⟨⟩) h_238 ⟨⟩) h_131 ⟨⟩ ⟨⟩) (
                                                                      k_20 D h_131) ⟨⟩ ⟨⟩) h_130 ⟨⟩) h_129 ⟨⟩) [(.tuple #[]), turn22] h_128 ⟨⟩)
                                                              (fun D_8 h_245 =>
                                                              k_19 D_8 h_245) h_127 ⟨⟩ ⟨⟩) h_126 ⟨⟩) h_125 ⟨⟩)
                                                        (fun D_9 h_246 =>
                                                        CallsH Try.prog 41 #[] h_246 (fun t210 h_247 => 
                                                          Hp Try.prog false (storeS 4 t4 t210) (fun _ h_248 => 
                                                            RetD D_9 h_248 (fun h_249 =>
                                                              Hp Try.prog true (loadCell 4 t4) (fun r_7 _ =>
                                                                R r_7 h_249) h_249 ⟨⟩) ⟨⟩) h_247 ⟨⟩) ⟨⟩) h_124 ⟨⟩ ⟨⟩) h_115 ⟨⟩ ⟨⟩) h_114 ⟨⟩) h_113 ⟨⟩) h_33 ⟨⟩ ⟨⟩) ⟨⟩ ⟨⟩) h_32 ⟨⟩) h_31 ⟨⟩) [(.int .i64 0)] h_28 ⟨⟩) ⟨⟩ ⟨⟩) h_27 ⟨⟩) h_26 ⟨⟩) h_25 ⟨⟩) ⟨⟩) h_23 ⟨⟩) ⟨⟩) h_21 ⟨⟩) h_20 ⟨⟩) h_16 ⟨⟩) ⟨⟩ ⟨⟩) h_15 ⟨⟩) h_14 ⟨⟩) h_13 ⟨⟩) h_3 ⟨⟩ ⟨⟩) h_2 ⟨⟩) h_1 ⟨⟩) h ⟨⟩

theorem n11_calls {b0 in1 : Value} {R : Value → Heap → Prop} {h : Heap} (H : n11 b0 in1 R h) : CallsH Try.prog 11 #[b0, in1] h R ⟨⟩ :=
  callsH_of_eq Try.follow (.n none .l (.n (some [6, 7, 8]) .l (.n none .l (.n none .l (.n none .l (.n none .l (.n none .l (.n none (.n none .l (.n none (.n (some [13]) .l .l) .l)) (.n (some []) (.n none .l (.n none .l (.n none .l (.n none .l (.n none .l (.n none (.n none .l (.n none .l (.n none .l (.n none (.n (some [19]) .l .l) .l)))) .l)))))) (.n none .l (.n (some []) .l (.n (some [0]) (.n none .l (.n (some [0]) (.n (some [0, 23]) (.n none .l (.n (some [0]) (.n (some [0]) (.n none .l (.n none .l (.n (some [0]) (.n none .l (.n (some [0]) (.n none .l (.n none (.n none (.n none (.n (some []) .l .l) .l) .l) .l)) .l)) (.n none (.n (some []) .l .l) .l)))) .l) .l)) .l) .l)) .l)))))))))))) Try.func11 (by kernel_rfl) (by kernel_rfl) (by kernel_rfl) H

/-- palimpsest/palimpsestlaw10.known -/
def n41 (R : Value → Heap → Prop) (h : Heap) : Prop :=
  Hp Try.prog false (Instr.makeSlice 39 (.int .i64 4) (.int .i64 4)) (fun t11 h_1 => 
    CallsH Try.prog 45 #[t11, (.int .i64 1), (.int .i64 5), (.int .u64 2)] h_1 (fun t13 h_2 => 
      CallsH Try.prog 44 #[t11, (.int .i64 1), (.int .i64 5)] h_2 (fun t16 h_3 => 
        Hp Try.prog false (Instr.extract t16 0) (fun t17 h_4 => 
          Hp Try.prog false (Instr.extract t16 1) (fun t18 h_5 => 
            CallsH Try.prog 47 #[t11, (.int .i64 1), (.int .i64 5), (.int .i64 2)] h_5 (fun t21 h_6 => 
              Hp Try.prog false (Instr.extract t21 0) (fun t22 h_7 => 
                Hp Try.prog false (Instr.extract t21 1) (fun t23 h_8 => 
                  CallsH Try.prog 47 #[t11, (.int .i64 1), (.int .i64 5), (.int .i64 1)] h_8 (fun t26 h_9 => 
                    Hp Try.prog false (Instr.extract t26 0) (fun t27 h_10 => 
                      Hp Try.prog false (Instr.extract t26 1) (fun t28 h_11 => 
                        CallsH Try.prog 52 #[t11, (.int .i64 1), (.int .i64 5), (.int .i64 2)] h_11 (fun t31 h_12 => 
                          Hp Try.prog false (Instr.extract t31 0) (fun t32 h_13 => 
                            Hp Try.prog false (Instr.extract t31 1) (fun t33 h_14 => 
                              Hp Try.prog false (binS .eql 27 (.tmp 34) (.const (.int .i64 0)) t13 (.int .i64 0)) (fun t35 h_15 => 
                                Join1 (fun k h_16 => guardP t35 true (k t11 h_16) (k undef h_16) ⟨⟩ ⟨⟩) (fun t37 h_17 => 
                                  Join1 (fun k_1 h_18 => guardP t35 true (Hp Try.prog false (Instr.indexAt 39 t37 (.int .i64 1)) k_1 h_18 ⟨⟩) (k_1 undef h_18) ⟨⟩ ⟨⟩) (fun t38 h_19 => 
                                    Join1 (fun k_2 h_20 => guardP t35 true (Hp Try.prog false (Instr.loadAt 5 t38) k_2 h_20 ⟨⟩) (k_2 undef h_20) ⟨⟩ ⟨⟩) (fun t39 h_21 => 
                                      Join1 (fun k_3 h_22 => guardP t35 true (Hp Try.prog false (binS .eql 5 (.tmp 39) (.const (.int .u8 12)) t39 (.int .u8 12)) k_3 h_22 ⟨⟩) (k_3 undef h_22) ⟨⟩ ⟨⟩) (fun t40 h_23 => 
                                        Hp Try.prog false (pickS t35 t40 (.bool false)) (fun t41 h_24 => 
                                          Join1 (fun k_4 h_25 => guardP t41 true (k_4 t17 h_25) (k_4 undef h_25) ⟨⟩ ⟨⟩) (fun t43 h_26 => 
                                            Join1 (fun k_5 h_27 => guardP t41 true (Hp Try.prog false (binS .eql 25 (.tmp 43) (.const (.int .u64 2)) t43 (.int .u64 2)) k_5 h_27 ⟨⟩) (k_5 undef h_27) ⟨⟩ ⟨⟩) (fun t44 h_28 => 
                                              Hp Try.prog false (pickS t41 t44 (.bool false)) (fun t45 h_29 => 
                                                Join1 (fun k_6 h_30 => guardP t45 true (k_6 t18 h_30) (k_6 undef h_30) ⟨⟩ ⟨⟩) (fun t47 h_31 => 
                                                  Join1 (fun k_7 h_32 => guardP t45 true (Hp Try.prog false (binS .eql 27 (.tmp 47) (.const (.int .i64 0)) t47 (.int .i64 0)) k_7 h_32 ⟨⟩) (k_7 undef h_32) ⟨⟩ ⟨⟩) (fun t48 h_33 => 
                                                    Hp Try.prog false (pickS t45 t48 (.bool false)) (fun t49 h_34 => 
                                                      Join1 (fun k_8 h_35 => guardP t49 true (k_8 t23 h_35) (k_8 undef h_35) ⟨⟩ ⟨⟩) (fun t51 h_36 => 
                                                        Join1 (fun k_9 h_37 => guardP t49 true (Hp Try.prog false (binS .eql 27 (.tmp 51) (.const (.int .i64 3)) t51 (.int .i64 3)) k_9 h_37 ⟨⟩) (k_9 undef h_37) ⟨⟩ ⟨⟩) (fun t52 h_38 => 
                                                          Hp Try.prog false (pickS t49 t52 (.bool false)) (fun t53 h_39 => 
                                                            Join1 (fun k_10 h_40 => guardP t53 true (k_10 t27 h_40) (k_10 undef h_40) ⟨⟩ ⟨⟩) (fun t55 h_41 => 
                                                              Join1 (fun k_11 h_42 => guardP t53 true (Hp Try.prog false (binS .eql 25 (.tmp 55) (.const (.int .u64 3)) t55 (.int .u64 3)) k_11 h_42 ⟨⟩) (k_11 undef h_42) ⟨⟩ ⟨⟩) (fun t56 h_43 => 
                                                                Hp Try.prog false (pickS t53 t56 (.bool false)) (fun t57 h_44 => 
                                                                  Join1 (fun k_12 h_45 => guardP t57 true (k_12 t28 h_45) (k_12 undef h_45) ⟨⟩ ⟨⟩) (fun t59 h_46 => 
                                                                    Join1 (fun k_13 h_47 => guardP t57 true (Hp Try.prog false (binS .eql 27 (.tmp 59) (.const (.int .i64 0)) t59 (.int .i64 0)) k_13 h_47 ⟨⟩) (k_13 undef h_47) ⟨⟩ ⟨⟩) (fun t60 h_48 => 
                                                                      Hp Try.prog false (pickS t57 t60 (.bool false)) (fun t61 h_49 => 
                                                                        Join1 (fun k_14 h_50 => guardP t61 true (k_14 t32 h_50) (k_14 undef h_50) ⟨⟩ ⟨⟩) (fun t63 h_51 => 
                                                                          Join1 (fun k_15 h_52 => guardP t61 true (Hp Try.prog false (binS .eql 3 (.tmp 63) (.const (.int .i64 6)) t63 (.int .i64 6)) k_15 h_52 ⟨⟩) (k_15 undef h_52) ⟨⟩ ⟨⟩) (fun t64 h_53 => 
                                                                            Hp Try.prog false (pickS t61 t64 (.bool false)) (fun t65 h_54 => 
                                                                              Join1 (fun k_16 h_55 => guardP t65 true (k_16 t33 h_55) (k_16 undef h_55) ⟨⟩ ⟨⟩) (fun t67 h_56 => 
                                                                                Join1 (fun k_17 h_57 => guardP t65 true (Hp Try.prog false (binS .eql 27 (.tmp 67) (.const (.int .i64 0)) t67 (.int .i64 0)) k_17 h_57 ⟨⟩) (k_17 undef h_57) ⟨⟩ ⟨⟩) (fun t68 h_58 => 
                                                                                  Hp Try.prog false (pickS t65 t68 (.bool false)) (fun t69 h_59 => 
                                                                                    R t69 h_59) h_58 ⟨⟩) h_56 ⟨⟩ ⟨⟩) h_54 ⟨⟩ ⟨⟩) h_53 ⟨⟩) h_51 ⟨⟩ ⟨⟩) h_49 ⟨⟩ ⟨⟩) h_48 ⟨⟩) h_46 ⟨⟩ ⟨⟩) h_44 ⟨⟩ ⟨⟩) h_43 ⟨⟩) h_41 ⟨⟩ ⟨⟩) h_39 ⟨⟩ ⟨⟩) h_38 ⟨⟩) h_36 ⟨⟩ ⟨⟩) h_34 ⟨⟩ ⟨⟩) h_33 ⟨⟩) h_31 ⟨⟩ ⟨⟩) h_29 ⟨⟩ ⟨⟩) h_28 ⟨⟩) h_26 ⟨⟩ ⟨⟩) h_24 ⟨⟩ ⟨⟩) h_23 ⟨⟩) h_21 ⟨⟩ ⟨⟩) h_19 ⟨⟩ ⟨⟩) h_17 ⟨⟩ ⟨⟩) h_15 ⟨⟩ ⟨⟩) h_14 ⟨⟩) h_13 ⟨⟩) h_12 ⟨⟩) ⟨⟩) h_10 ⟨⟩) h_9 ⟨⟩) ⟨⟩) h_7 ⟨⟩) h_6 ⟨⟩) ⟨⟩) h_4 ⟨⟩) h_3 ⟨⟩) ⟨⟩) ⟨⟩) h ⟨⟩

theorem n41_calls {R : Value → Heap → Prop} {h : Heap} (H : n41  R h) : CallsH Try.prog 41 #[] h R ⟨⟩ :=
  callsH_of_eq Try.follow .l Try.func41 (by kernel_rfl) (by kernel_rfl) (by kernel_rfl) H

/-- palimpsest/counts.Many -/
def n42 (b0 order1 : Value) (R : Value → Heap → Prop) (h : Heap) : Prop :=
  CallsH Try.prog 74 #[order1] h (fun t8 h_1 => 
    Hp Try.prog false (binS .eql 3 (.tmp 9) (.const (.int .i64 0)) t8 (.int .i64 0)) (fun t10 h_2 => 
      CondP t10 (
        R (.tuple #[(.int .i64 0), (.int .i64 2)]) h_2) (
        Hp Try.prog false (Builtin.len_ #[39] 3 #[b0]) (fun t12 h_3 => 
          Hp Try.prog false (binS .mul 3 (.const (.int .i64 8)) (.tmp 12) (.int .i64 8) t12) (fun t13 h_4 => 
            Hp Try.prog false (binS .quo 3 (.tmp 13) (.tmp 14) t13 t8) (fun t15 h_5 => 
              R (.tuple #[t15, (.int .i64 0)]) h_5) h_4 ⟨⟩) h_3 ⟨⟩) h_2 ⟨⟩) ⟨⟩ ⟨⟩) h_1 ⟨⟩) ⟨⟩

theorem n42_calls {b0 order1 : Value} {R : Value → Heap → Prop} {h : Heap} (H : n42 b0 order1 R h) : CallsH Try.prog 42 #[b0, order1] h R ⟨⟩ :=
  callsH_of_eq Try.follow .l Try.func42 (by kernel_rfl) (by kernel_rfl) (by kernel_rfl) H

/-- palimpsest/counts.Most -/
def n43 (order0 : Value) (R : Value → Heap → Prop) (h : Heap) : Prop :=
  CallsH Try.prog 74 #[order0] h (fun t6 h_1 => 
    Hp Try.prog false (binS .eql 3 (.tmp 7) (.const (.int .i64 0)) t6 (.int .i64 0)) (fun t8 h_2 => 
      CondP t8 (
        R (.tuple #[(.int .u64 0), (.int .i64 2)]) h_2) (
        Hp Try.prog false (binS .sub 3 (.const (.int .i64 64)) (.tmp 9) (.int .i64 64) t6) (fun t10 h_3 => 
          Hp Try.prog false (binS .shr 25 (.const (.int .u64 18446744073709551615)) (.tmp 10) (.int .u64 18446744073709551615) t10) (fun t11 h_4 => 
            R (.tuple #[t11, (.int .i64 0)]) h_4) h_3 ⟨⟩) h_2 ⟨⟩) ⟨⟩ ⟨⟩) h_1 ⟨⟩) ⟨⟩

theorem n43_calls {order0 : Value} {R : Value → Heap → Prop} {h : Heap} (H : n43 order0 R h) : CallsH Try.prog 43 #[order0] h R ⟨⟩ :=
  callsH_of_eq Try.follow .l Try.func43 (by kernel_rfl) (by kernel_rfl) (by kernel_rfl) H

/-- palimpsest/counts.Get -/
def n44 (b0 order1 i2 : Value) (R : Value → Heap → Prop) (h : Heap) : Prop :=
  CallsH Try.prog 75 #[b0, order1, i2] h (fun t14 h_1 => 
    Hp Try.prog false (Instr.extract t14 0) (fun t15 h_2 => 
      Hp Try.prog false (Instr.extract t14 1) (fun t16 h_3 => 
        Hp Try.prog false (binS .neq 27 (.tmp 17) (.const (.int .i64 0)) t16 (.int .i64 0)) (fun t18 h_4 => 
          CondP t18 (
            R (.tuple #[(.int .u64 0), t16]) h_4) (
            CallsH Try.prog 76 #[b0, t15, i2] h_4 (fun t23 h_5 => 
              R (.tuple #[t23, (.int .i64 0)]) h_5) ⟨⟩) ⟨⟩ ⟨⟩) h_3 ⟨⟩) h_2 ⟨⟩) h_1 ⟨⟩) ⟨⟩

theorem n44_calls {b0 order1 i2 : Value} {R : Value → Heap → Prop} {h : Heap} (H : n44 b0 order1 i2 R h) : CallsH Try.prog 44 #[b0, order1, i2] h R ⟨⟩ :=
  callsH_of_eq Try.follow .l Try.func44 (by kernel_rfl) (by kernel_rfl) (by kernel_rfl) H

/-- palimpsest/counts.Set -/
def n45 (b0 order1 i2 x3 : Value) (R : Value → Heap → Prop) (h : Heap) : Prop :=
  CallsH Try.prog 75 #[b0, order1, i2] h (fun t17 h_1 => 
    Hp Try.prog false (Instr.extract t17 0) (fun t18 h_2 => 
      Hp Try.prog false (Instr.extract t17 1) (fun t19 h_3 => 
        Hp Try.prog false (binS .neq 27 (.tmp 20) (.const (.int .i64 0)) t19 (.int .i64 0)) (fun t21 h_4 => 
          CondP t21 (
            R t19 h_4) (
            CallsH Try.prog 43 #[order1] h_4 (fun t25 h_5 => 
              Hp Try.prog false (Instr.extract t25 0) (fun t26 h_6 => 
                Hp Try.prog false (Instr.extract t25 1) (fun t27 h_7 => 
                  Hp Try.prog false (binS .gtr 25 (.tmp 28) (.tmp 29) x3 t26) (fun t30 h_8 => 
                    CondP t30 (
                      R (.int .i64 3) h_8) (
                      CallsH Try.prog 77 #[b0, t18, i2, x3] h_8 (fun t35 h_9 => 
                        R (.int .i64 0) h_9) ⟨⟩) ⟨⟩ ⟨⟩) h_7 ⟨⟩) h_6 ⟨⟩) h_5 ⟨⟩) ⟨⟩) ⟨⟩ ⟨⟩) h_3 ⟨⟩) h_2 ⟨⟩) h_1 ⟨⟩) ⟨⟩

theorem n45_calls {b0 order1 i2 x3 : Value} {R : Value → Heap → Prop} {h : Heap} (H : n45 b0 order1 i2 x3 R h) : CallsH Try.prog 45 #[b0, order1, i2, x3] h R ⟨⟩ :=
  callsH_of_eq Try.follow .l Try.func45 (by kernel_rfl) (by kernel_rfl) (by kernel_rfl) H

/-- palimpsest/palimpsestref10.Width -/
def n46 (order0 : Value) (R : Value → Heap → Prop) (h : Heap) : Prop :=
  Hp Try.prog false (binS .lss 3 (.tmp 5) (.const (.int .i64 0)) order0 (.int .i64 0)) (fun t6 h_1 => 
    Join1 (fun k h_2 => guardP t6 false (k order0 h_2) (k undef h_2) ⟨⟩ ⟨⟩) (fun t8 h_3 => 
      Join1 (fun k_1 h_4 => guardP t6 false (Hp Try.prog false (binS .gtr 3 (.tmp 8) (.const (.int .i64 6)) t8 (.int .i64 6)) k_1 h_4 ⟨⟩) (k_1 undef h_4) ⟨⟩ ⟨⟩) (fun t9 h_5 => 
        Hp Try.prog false (pickS t6 (.bool true) t9) (fun t10 h_6 => 
          CondP t10 (
            R (.int .i64 0) h_6) (
            LoopC 2 (fun (X : Value → Value → Heap → Prop) => fun w3 i4 h_7 =>
              Hp Try.prog false (binS .lss 3 (.tmp 11) (.tmp 12) i4 order0) (fun t13 h_8 => 
                CondP t13 (
                  Hp Try.prog false (binS .mul 3 (.const (.int .i64 2)) (.tmp 16) (.int .i64 2) w3) (fun t17 h_9 => 
                    Hp Try.prog false (binS .add 3 (.tmp 14) (.const (.int .i64 1)) i4 (.int .i64 1)) (fun t15 h_10 => 
                      X t17 t15 h_10) h_9 ⟨⟩) h_8 ⟨⟩) (
                  R w3 h_8) ⟨⟩ ⟨⟩) h_7 ⟨⟩) [(.int .i64 1), (.int .i64 0)] h_6 ⟨⟩) ⟨⟩ ⟨⟩) h_5 ⟨⟩) h_3 ⟨⟩ ⟨⟩) h_1 ⟨⟩ ⟨⟩) h ⟨⟩

theorem n46_calls {order0 : Value} {R : Value → Heap → Prop} {h : Heap} (H : n46 order0 R h) : CallsH Try.prog 46 #[order0] h R ⟨⟩ :=
  callsH_of_eq Try.follow (.n none .l (.n none .l (.n none .l (.n none (.n none .l (.n none (.n (some [4, 5]) .l .l) .l)) .l)))) Try.func46 (by kernel_rfl) (by kernel_rfl) (by kernel_rfl) H

/-- palimpsest/counts.Add -/
def n47 (b0 order1 i2 by3 : Value) (R : Value → Heap → Prop) (h : Heap) : Prop :=
  CallsH Try.prog 75 #[b0, order1, i2] h (fun t19 h_1 => 
    Hp Try.prog false (Instr.extract t19 0) (fun t20 h_2 => 
      Hp Try.prog false (Instr.extract t19 1) (fun t21 h_3 => 
        Hp Try.prog false (binS .neq 27 (.tmp 22) (.const (.int .i64 0)) t21 (.int .i64 0)) (fun t23 h_4 => 
          CondP t23 (
            R (.tuple #[(.int .u64 0), t21]) h_4) (
            Hp Try.prog true (binS .sub 3 (.const (.int .i64 64)) (.tmp 29) (.int .i64 64) t20) (fun t30 _ => 
              Hp Try.prog true (binS .shr 25 (.const (.int .u64 18446744073709551615)) (.tmp 30) (.int .u64 18446744073709551615) t30) (fun t31 _ => 
                CallsH Try.prog 76 #[b0, t20, i2] h_4 (fun t28 h_5 => 
                  JoinN 1 (fun (k : Value → Heap → Prop) h_6 =>
                    JoinN 1 (fun (k_1 : Value → Heap → Prop) h_7 =>
                      Hp Try.prog false (binS .geq 2 (.tmp 33) (.const (.int .i64 0)) by3 (.int .i64 0)) (fun t34 h_8 => 
                        Join1 (fun k_2 h_9 => guardP t34 true (k_2 (.func (.func 78) #[] #[]) h_9) (k_2 undef h_9) ⟨⟩ ⟨⟩) (fun t36 h_10 => 
                          Join1 (fun k_3 h_11 => guardP t34 true (k_3 t31 h_11) (k_3 undef h_11) ⟨⟩ ⟨⟩) (fun t37 h_12 => 
                            Join1 (fun k_4 h_13 => guardP t34 true (k_4 t28 h_13) (k_4 undef h_13) ⟨⟩ ⟨⟩) (fun t38 h_14 => 
                              Join1 (fun k_5 h_15 => guardP t34 true (Hp Try.prog false (binS .sub 25 (.tmp 37) (.tmp 38) t37 t38) k_5 h_15 ⟨⟩) (k_5 undef h_15) ⟨⟩ ⟨⟩) (fun t39 h_16 => 
                                Join1 (fun k_6 h_17 => guardP t34 true (k_6 by3 h_17) (k_6 undef h_17) ⟨⟩ ⟨⟩) (fun t40 h_18 => 
                                  Join1 (fun k_7 h_19 => guardP t34 true (Hp Try.prog false (convert 2 25 t40) k_7 h_19 ⟨⟩) (k_7 undef h_19) ⟨⟩ ⟨⟩) (fun t41 h_20 => 
                                    Join1 (fun k_8 h_21 => guardP t34 true (InvokeH Try.prog t36 #[t39, t41] h_21 k_8 ⟨⟩) (k_8 undef h_21) ⟨⟩ ⟨⟩) (fun t42 h_22 => 
                                      Hp Try.prog false (pickS t34 t42 (.bool false)) (fun t43 h_23 => 
                                        CondP t43 (
                                          Hp Try.prog false (convert 2 25 by3) (fun t46 h_24 => 
                                            Hp Try.prog false (binS .add 25 (.tmp 44) (.tmp 46) t28 t46) (fun t47 h_25 => 
                                              k_1 t47 h_25) h_24 ⟨⟩) h_23 ⟨⟩) (
                                          Hp Try.prog false (binS .lss 2 (.tmp 49) (.const (.int .i64 0)) by3 (.int .i64 0)) (fun t50 h_26 => 
                                            Join1 (fun k_9 h_27 => guardP t50 true (k_9 (.func (.func 78) #[] #[]) h_27) (k_9 undef h_27) ⟨⟩ ⟨⟩) (fun t52 h_28 => 
                                              Join1 (fun k_10 h_29 => guardP t50 true (k_10 t28 h_29) (k_10 undef h_29) ⟨⟩ ⟨⟩) (fun t53 h_30 => 
                                                Join1 (fun k_11 h_31 => guardP t50 true (k_11 by3 h_31) (k_11 undef h_31) ⟨⟩ ⟨⟩) (fun t54 h_32 => 
                                                  Join1 (fun k_12 h_33 => guardP t50 true (Hp Try.prog false (convert 2 25 t54) k_12 h_33 ⟨⟩) (k_12 undef h_33) ⟨⟩ ⟨⟩) (fun t55 h_34 => 
                                                    Join1 (fun k_13 h_35 => guardP t50 true (Hp Try.prog false (Op.unary .neg t55) k_13 h_35 ⟨⟩) (k_13 undef h_35) ⟨⟩ ⟨⟩) (fun t56 h_36 => 
                                                      Join1 (fun k_14 h_37 => guardP t50 true (InvokeH Try.prog t52 #[t53, t56] h_37 k_14 ⟨⟩) (k_14 undef h_37) ⟨⟩ ⟨⟩) (fun t57 h_38 => 
                                                        Hp Try.prog false (pickS t50 t57 (.bool false)) (fun t58 h_39 => 
                                                          CondP t58 (
                                                            Hp Try.prog false (convert 2 25 by3) (fun t61 h_40 => 
                                                              Hp Try.prog false (Op.unary .neg t61) (fun t62 h_41 => 
                                                                Hp Try.prog false (binS .sub 25 (.tmp 59) (.tmp 62) t28 t62) (fun t63 h_42 => 
                                                                  k_1 t63 h_42) h_41 ⟨⟩) h_40 ⟨⟩) h_39 ⟨⟩) (
                                                            R (.tuple #[(.int .u64 0), (.int .i64 3)]) h_39) ⟨⟩ ⟨⟩) h_38 ⟨⟩) h_36 ⟨⟩ ⟨⟩) h_34 ⟨⟩ ⟨⟩) h_32 ⟨⟩ ⟨⟩) h_30 ⟨⟩ ⟨⟩) h_28 ⟨⟩ ⟨⟩) h_26 ⟨⟩ ⟨⟩) h_23 ⟨⟩) ⟨⟩ ⟨⟩) h_22 ⟨⟩) h_20 ⟨⟩ ⟨⟩) h_18 ⟨⟩ ⟨⟩) h_16 ⟨⟩ ⟨⟩) h_14 ⟨⟩ ⟨⟩) h_12 ⟨⟩ ⟨⟩) h_10 ⟨⟩ ⟨⟩) h_8 ⟨⟩ ⟨⟩) h_7 ⟨⟩)
                      (fun x12 h_43 =>
                      k x12 h_43) h_6 ⟨⟩ ⟨⟩)
                    (fun x12_1 h_44 =>
                    CallsH Try.prog 77 #[b0, t20, i2, x12_1] h_44 (fun t68 h_45 => 
                      R (.tuple #[x12_1, (.int .i64 0)]) h_45) ⟨⟩) h_5 ⟨⟩ ⟨⟩) ⟨⟩) #[] ⟨⟩) #[] ⟨⟩) ⟨⟩ ⟨⟩) h_3 ⟨⟩) h_2 ⟨⟩) h_1 ⟨⟩) ⟨⟩

theorem n47_calls {b0 order1 i2 by3 : Value} {R : Value → Heap → Prop} {h : Heap} (H : n47 b0 order1 i2 by3 R h) : CallsH Try.prog 47 #[b0, order1, i2, by3] h R ⟨⟩ :=
  callsH_of_eq Try.follow (.n none .l (.n none .l (.n none .l (.n none .l (.n none .l (.n (some [13]) (.n (some [13]) .l .l) .l)))))) Try.func47 (by kernel_rfl) (by kernel_rfl) (by kernel_rfl) H

/-- palimpsest/palimpsestref10.Many -/
def n48 (b0 order1 : Value) (R : Value → Heap → Prop) (h : Heap) : Prop :=
  Hp Try.prog false (Builtin.len_ #[39] 3 #[b0]) (fun t6 h_1 => 
    Hp Try.prog false (binS .mul 3 (.const (.int .i64 8)) (.tmp 6) (.int .i64 8) t6) (fun t7 h_2 => 
      CallsH Try.prog 46 #[order1] h_2 (fun t9 h_3 => 
        Hp Try.prog false (binS .quo 3 (.tmp 7) (.tmp 9) t7 t9) (fun t10 h_4 => 
          R t10 h_4) h_3 ⟨⟩) ⟨⟩) h_1 ⟨⟩) h ⟨⟩

theorem n48_calls {b0 order1 : Value} {R : Value → Heap → Prop} {h : Heap} (H : n48 b0 order1 R h) : CallsH Try.prog 48 #[b0, order1] h R ⟨⟩ :=
  callsH_of_eq Try.follow .l Try.func48 (by kernel_rfl) (by kernel_rfl) (by kernel_rfl) H

/-- palimpsest/palimpsestref10.Most -/
def n49 (order0 : Value) (R : Value → Heap → Prop) (h : Heap) : Prop :=
  LoopC 2 (fun (X : Value → Value → Heap → Prop) => fun x3 i4 h_1 =>
    CallsH Try.prog 46 #[order0] h_1 (fun t7 h_2 => 
      Hp Try.prog false (binS .lss 3 (.tmp 5) (.tmp 7) i4 t7) (fun t8 h_3 => 
        CondP t8 (
          Hp Try.prog false (binS .mul 25 (.const (.int .u64 2)) (.tmp 11) (.int .u64 2) x3) (fun t12 h_4 => 
            Hp Try.prog false (binS .add 25 (.tmp 12) (.const (.int .u64 1)) t12 (.int .u64 1)) (fun t13 h_5 => 
              Hp Try.prog false (binS .add 3 (.tmp 9) (.const (.int .i64 1)) i4 (.int .i64 1)) (fun t10 h_6 => 
                X t13 t10 h_6) h_5 ⟨⟩) h_4 ⟨⟩) h_3 ⟨⟩) (
          R x3 h_3) ⟨⟩ ⟨⟩) h_2 ⟨⟩) ⟨⟩) [(.int .u64 0), (.int .i64 0)] h ⟨⟩

theorem n49_calls {order0 : Value} {R : Value → Heap → Prop} {h : Heap} (H : n49 order0 R h) : CallsH Try.prog 49 #[order0] h R ⟨⟩ :=
  callsH_of_eq Try.follow (.n none .l (.n none .l (.n none (.n none .l (.n none (.n (some [4, 5]) .l .l) .l)) .l))) Try.func49 (by kernel_rfl) (by kernel_rfl) (by kernel_rfl) H

/-- palimpsest/palimpsestref10.At -/
def n50 (b0 order1 i2 : Value) (R : Value → Heap → Prop) (h : Heap) : Prop :=
  CallsH Try.prog 46 #[order1] h (fun t12 h_1 => 
    Hp Try.prog false (binS .sub 3 (.tmp 13) (.const (.int .i64 1)) t12 (.int .i64 1)) (fun t14 h_2 => 
      LoopC 2 (fun (X : Value → Value → Heap → Prop) => fun x8 k9 h_3 =>
        Hp Try.prog false (binS .geq 3 (.tmp 15) (.const (.int .i64 0)) k9 (.int .i64 0)) (fun t16 h_4 => 
          CondP t16 (
            Hp Try.prog false (binS .mul 3 (.tmp 19) (.tmp 20) i2 t12) (fun t21 h_5 => 
              Hp Try.prog false (binS .add 3 (.tmp 21) (.tmp 22) t21 k9) (fun t23 h_6 => 
                Hp Try.prog false (binS .mul 25 (.const (.int .u64 2)) (.tmp 24) (.int .u64 2) x8) (fun t25 h_7 => 
                  Hp Try.prog false (binS .quo 3 (.tmp 27) (.const (.int .i64 8)) t23 (.int .i64 8)) (fun t28 h_8 => 
                    Hp Try.prog false (Instr.indexAt 39 b0 t28) (fun t29 h_9 => 
                      Hp Try.prog false (Instr.loadAt 5 t29) (fun t30 h_10 => 
                        Hp Try.prog false (binS .rem 3 (.tmp 31) (.const (.int .i64 8)) t23 (.int .i64 8)) (fun t32 h_11 => 
                          Hp Try.prog false (binS .shr 5 (.tmp 30) (.tmp 32) t30 t32) (fun t33 h_12 => 
                            Hp Try.prog false (binS .rem 5 (.tmp 33) (.const (.int .u8 2)) t33 (.int .u8 2)) (fun t34 h_13 => 
                              Hp Try.prog false (convert 5 25 t34) (fun t35 h_14 => 
                                Hp Try.prog false (binS .add 25 (.tmp 25) (.tmp 35) t25 t35) (fun t36 h_15 => 
                                  Hp Try.prog false (binS .sub 3 (.tmp 17) (.const (.int .i64 1)) k9 (.int .i64 1)) (fun t18 h_16 => 
                                    X t36 t18 h_16) h_15 ⟨⟩) h_14 ⟨⟩) h_13 ⟨⟩) h_12 ⟨⟩) h_11 ⟨⟩) h_10 ⟨⟩) h_9 ⟨⟩) h_8 ⟨⟩) h_7 ⟨⟩) h_6 ⟨⟩) h_5 ⟨⟩) h_4 ⟨⟩) (
            R x8 h_4) ⟨⟩ ⟨⟩) h_3 ⟨⟩) [(.int .u64 0), t14] h_2 ⟨⟩) h_1 ⟨⟩) ⟨⟩

theorem n50_calls {b0 order1 i2 : Value} {R : Value → Heap → Prop} {h : Heap} (H : n50 b0 order1 i2 R h) : CallsH Try.prog 50 #[b0, order1, i2] h R ⟨⟩ :=
  callsH_of_eq Try.follow (.n none .l (.n none .l (.n none .l (.n none (.n none .l (.n none (.n (some [9, 10]) .l .l) .l)) .l)))) Try.func50 (by kernel_rfl) (by kernel_rfl) (by kernel_rfl) H

/-- palimpsest/palimpsestref10.With -/
def n51 (b0 order1 i2 x3 : Value) (R : Value → Heap → Prop) (h : Heap) : Prop :=
  CallsH Try.prog 46 #[order1] h (fun t16 h_1 => 
    Hp Try.prog false (Builtin.append_ #[39, 39] 39 #[(.slice none 0 0), b0]) (fun t18 h_2 => 
      LoopC 2 (fun (X : Value → Value → Heap → Prop) => fun x3_1 k11 h_3 =>
        Hp Try.prog false (binS .lss 3 (.tmp 19) (.tmp 20) k11 t16) (fun t21 h_4 => 
          CondP t21 (
            Hp Try.prog false (binS .mul 3 (.tmp 24) (.tmp 25) i2 t16) (fun t26 h_5 => 
              Hp Try.prog false (binS .add 3 (.tmp 26) (.tmp 27) t26 k11) (fun t28 h_6 => 
                Hp Try.prog false (binS .quo 3 (.tmp 30) (.const (.int .i64 8)) t28 (.int .i64 8)) (fun t31 h_7 => 
                  Hp Try.prog false (Instr.indexAt 39 t18 t31) (fun t32 h_8 => 
                    Hp Try.prog false (Instr.loadAt 5 t32) (fun t33 h_9 => 
                      Hp Try.prog false (binS .rem 3 (.tmp 34) (.const (.int .i64 8)) t28 (.int .i64 8)) (fun t35 h_10 => 
                        Hp Try.prog false (binS .shr 5 (.tmp 33) (.tmp 35) t33 t35) (fun t36 h_11 => 
                          Hp Try.prog false (binS .rem 5 (.tmp 36) (.const (.int .u8 2)) t36 (.int .u8 2)) (fun t37 h_12 => 
                            Hp Try.prog false (binS .rem 25 (.tmp 38) (.const (.int .u64 2)) x3_1 (.int .u64 2)) (fun t39 h_13 => 
                              Hp Try.prog false (convert 25 5 t39) (fun t40 h_14 => 
                                JoinN 0 (fun (k : Heap → Prop) h_15 =>
                                  Hp Try.prog false (binS .neq 5 (.tmp 41) (.tmp 42) t37 t40) (fun t43 h_16 => 
                                    CondP t43 (
                                      Hp Try.prog true (binS .quo 3 (.tmp 45) (.const (.int .i64 8)) t28 (.int .i64 8)) (fun t46 _ => 
                                        Hp Try.prog true (binS .quo 3 (.tmp 48) (.const (.int .i64 8)) t28 (.int .i64 8)) (fun t49 _ => 
                                          Hp Try.prog true (Instr.indexAt 39 t18 t49) (fun t50 _ => 
                                            Hp Try.prog true (Instr.loadAt 5 t50) (fun t51 _ => 
                                              Hp Try.prog true (binS .rem 3 (.tmp 52) (.const (.int .i64 8)) t28 (.int .i64 8)) (fun t53 _ => 
                                                Hp Try.prog true (binS .shl 5 (.const (.int .u8 1)) (.tmp 53) (.int .u8 1) t53) (fun t54 _ => 
                                                  Hp Try.prog true (binS .xor 5 (.tmp 51) (.tmp 54) t51 t54) (fun t55 _ => 
                                                    Hp Try.prog true (Instr.indexAt 39 t18 t46) (fun t56 _ => 
                                                      Hp Try.prog false (storeS 5 t56 t55) (fun _ h_17 => 
                                                        k h_17) h_16 ⟨⟩) #[] ⟨⟩) #[] ⟨⟩) #[] ⟨⟩) #[] ⟨⟩) h_16 ⟨⟩) #[] ⟨⟩) #[] ⟨⟩) #[] ⟨⟩) (
                                      k h_16) ⟨⟩ ⟨⟩) h_15 ⟨⟩)
                                  (fun h_18 =>
                                  Hp Try.prog false (binS .quo 25 (.tmp 57) (.const (.int .u64 2)) x3_1 (.int .u64 2)) (fun t58 h_19 => 
                                    Hp Try.prog false (binS .add 3 (.tmp 22) (.const (.int .i64 1)) k11 (.int .i64 1)) (fun t23 h_20 => 
                                      X t58 t23 h_20) h_19 ⟨⟩) h_18 ⟨⟩) h_14 ⟨⟩ ⟨⟩) h_13 ⟨⟩) h_12 ⟨⟩) h_11 ⟨⟩) h_10 ⟨⟩) h_9 ⟨⟩) h_8 ⟨⟩) h_7 ⟨⟩) h_6 ⟨⟩) h_5 ⟨⟩) h_4 ⟨⟩) (
            R t18 h_4) ⟨⟩ ⟨⟩) h_3 ⟨⟩) [x3, (.int .i64 0)] h_2 ⟨⟩) h_1 ⟨⟩) ⟨⟩

theorem n51_calls {b0 order1 i2 x3 : Value} {R : Value → Heap → Prop} {h : Heap} (H : n51 b0 order1 i2 x3 R h) : CallsH Try.prog 51 #[b0, order1, i2, x3] h R ⟨⟩ :=
  callsH_of_eq Try.follow (.n none .l (.n none .l (.n none .l (.n none (.n none .l (.n none (.n (some [4, 12]) (.n none .l (.n none (.n none (.n none .l (.n none .l (.n none .l (.n (some []) .l .l)))) .l) .l)) .l) .l)) .l)))) Try.func51 (by kernel_rfl) (by kernel_rfl) (by kernel_rfl) H

/-- palimpsest/counts.Free -/
def n52 (b0 order1 from2 n3 : Value) (R : Value → Heap → Prop) (h : Heap) : Prop :=
  CallsH Try.prog 42 #[b0, order1] h (fun t19 h_1 => 
    Hp Try.prog false (Instr.extract t19 0) (fun t20 h_2 => 
      Hp Try.prog false (Instr.extract t19 1) (fun t21 h_3 => 
        Hp Try.prog false (binS .neq 27 (.tmp 23) (.const (.int .i64 0)) t21 (.int .i64 0)) (fun t24 h_4 => 
          Join1 (fun k h_5 => guardP t24 false (k n3 h_5) (k undef h_5) ⟨⟩ ⟨⟩) (fun t26 h_6 => 
            Join1 (fun k_1 h_7 => guardP t24 false (Hp Try.prog false (binS .lss 3 (.tmp 26) (.const (.int .i64 1)) t26 (.int .i64 1)) k_1 h_7 ⟨⟩) (k_1 undef h_7) ⟨⟩ ⟨⟩) (fun t27 h_8 => 
              Hp Try.prog false (pickS t24 (.bool true) t27) (fun t28 h_9 => 
                CondP t28 (
                  R (.tuple #[(.int .i64 0), (.int .i64 2)]) h_9) (
                  Hp Try.prog false (binS .lss 3 (.tmp 30) (.const (.int .i64 0)) from2 (.int .i64 0)) (fun t31 h_10 => 
                    Join1 (fun k_2 h_11 => guardP t31 false (k_2 from2 h_11) (k_2 undef h_11) ⟨⟩ ⟨⟩) (fun t33 h_12 => 
                      Join1 (fun k_3 h_13 => guardP t31 false (k_3 t20 h_13) (k_3 undef h_13) ⟨⟩ ⟨⟩) (fun t34 h_14 => 
                        Join1 (fun k_4 h_15 => guardP t31 false (Hp Try.prog false (binS .gtr 3 (.tmp 33) (.tmp 34) t33 t34) k_4 h_15 ⟨⟩) (k_4 undef h_15) ⟨⟩ ⟨⟩) (fun t35 h_16 => 
                          Hp Try.prog false (pickS t31 (.bool true) t35) (fun t36 h_17 => 
                            CondP t36 (
                              R (.tuple #[(.int .i64 0), (.int .i64 4)]) h_17) (
                              CallsH Try.prog 74 #[order1] h_17 (fun t38 h_18 => 
                                JoinN 2 (fun (k_5 : Value → Value → Heap → Prop) h_19 =>
                                  JoinN 2 (fun (k_6 : Value → Value → Heap → Prop) h_20 =>
                                    LoopC 3 (fun (X : Value → Value → Value → Heap → Prop) => fun begin13 found14 i15 h_21 =>
                                      Hp Try.prog false (binS .lss 3 (.tmp 41) (.tmp 42) i15 t20) (fun t43 h_22 => 
                                        CondP t43 (
                                          JoinN 2 (fun (k_7 : Value → Value → Heap → Prop) h_23 =>
                                            JoinN 2 (fun (k_8 : Value → Value → Heap → Prop) h_24 =>
                                              CallsH Try.prog 76 #[b0, t38, i15] h_24 (fun t49 h_25 => 
                                                Hp Try.prog false (binS .neq 25 (.tmp 49) (.const (.int .u64 0)) t49 (.int .u64 0)) (fun t50 h_26 => 
                                                  CondP t50 (
                                                    Hp Try.prog false (binS .add 3 (.tmp 51) (.const (.int .i64 1)) i15 (.int .i64 1)) (fun t52 h_27 => 
                                                      k_8 t52 found14 h_27) h_26 ⟨⟩) (
                                                    Hp Try.prog false (binS .sub 3 (.tmp 53) (.tmp 54) i15 begin13) (fun t55 h_28 => 
                                                      Hp Try.prog false (binS .add 3 (.tmp 55) (.const (.int .i64 1)) t55 (.int .i64 1)) (fun t56 h_29 => 
                                                        Hp Try.prog false (binS .eql 3 (.tmp 56) (.tmp 57) t56 n3) (fun t58 h_30 => 
                                                          CondP t58 (
                                                            k_6 begin13 (.bool true) h_30) (
                                                            k_8 begin13 found14 h_30) ⟨⟩ ⟨⟩) h_29 ⟨⟩) h_28 ⟨⟩) h_26 ⟨⟩) ⟨⟩ ⟨⟩) h_25 ⟨⟩) ⟨⟩)
                                              (fun begin13_1 found14_1 h_31 =>
                                              k_7 begin13_1 found14_1 h_31) h_23 ⟨⟩ ⟨⟩)
                                            (fun begin13_2 found14_2 h_32 =>
                                            Hp Try.prog false (binS .add 3 (.tmp 44) (.const (.int .i64 1)) i15 (.int .i64 1)) (fun t45 h_33 => 
                                              X begin13_2 found14_2 t45 h_33) h_32 ⟨⟩) h_22 ⟨⟩ ⟨⟩) (
                                          k_6 begin13 found14 h_22) ⟨⟩ ⟨⟩) h_21 ⟨⟩) [from2, (.bool false), from2] h_20 ⟨⟩)
                                    (fun begin13_3 found14_3 h_34 =>
                                    k_5 begin13_3 found14_3 h_34) h_19 ⟨⟩ ⟨⟩)
                                  (fun begin13_4 found14_4 h_35 =>
                                  Hp Try.prog false (Op.unary .not found14_4) (fun t60 h_36 => 
                                    CondP t60 (
                                      R (.tuple #[(.int .i64 0), (.int .i64 7)]) h_36) (
                                      R (.tuple #[begin13_4, (.int .i64 0)]) h_36) ⟨⟩ ⟨⟩) h_35 ⟨⟩) h_18 ⟨⟩ ⟨⟩) ⟨⟩) ⟨⟩ ⟨⟩) h_16 ⟨⟩) h_14 ⟨⟩ ⟨⟩) h_12 ⟨⟩ ⟨⟩) h_10 ⟨⟩ ⟨⟩) h_9 ⟨⟩) ⟨⟩ ⟨⟩) h_8 ⟨⟩) h_6 ⟨⟩ ⟨⟩) h_4 ⟨⟩ ⟨⟩) h_3 ⟨⟩) h_2 ⟨⟩) h_1 ⟨⟩) ⟨⟩

theorem n52_calls {b0 order1 from2 n3 : Value} {R : Value → Heap → Prop} {h : Heap} (H : n52 b0 order1 from2 n3 R h) : CallsH Try.prog 52 #[b0, order1, from2, n3] h R ⟨⟩ :=
  callsH_of_eq Try.follow (.n none .l (.n none (.n none .l (.n none .l (.n none .l (.n none .l (.n none .l (.n none .l (.n (some [14, 15]) (.n none .l (.n (some [14, 15]) (.n (some [14, 15, 16]) (.n none .l (.n (some [14, 15]) (.n (some [14, 15]) .l .l) .l)) .l) .l)) .l))))))) .l)) Try.func52 (by kernel_rfl) (by kernel_rfl) (by kernel_rfl) H

/-- palimpsest/palimpsestref10.Free -/
def n53 (b0 order1 from2 n3 : Value) (R : Value → Heap → Prop) (h : Heap) : Prop :=
  CallsH Try.prog 46 #[order1] h (fun t14 h_1 => 
    Hp Try.prog false (binS .eql 3 (.tmp 14) (.const (.int .i64 0)) t14 (.int .i64 0)) (fun t15 h_2 => 
      Join1 (fun k h_3 => guardP t15 false (k n3 h_3) (k undef h_3) ⟨⟩ ⟨⟩) (fun t17 h_4 => 
        Join1 (fun k_1 h_5 => guardP t15 false (Hp Try.prog false (binS .lss 3 (.tmp 17) (.const (.int .i64 1)) t17 (.int .i64 1)) k_1 h_5 ⟨⟩) (k_1 undef h_5) ⟨⟩ ⟨⟩) (fun t18 h_6 => 
          Hp Try.prog false (pickS t15 (.bool true) t18) (fun t19 h_7 => 
            CondP t19 (
              R (.tuple #[(.int .i64 0), (.int .i64 2)]) h_7) (
              CallsH Try.prog 48 #[b0, order1] h_7 (fun t22 h_8 => 
                Hp Try.prog false (binS .lss 3 (.tmp 23) (.const (.int .i64 0)) from2 (.int .i64 0)) (fun t24 h_9 => 
                  Join1 (fun k_2 h_10 => guardP t24 false (k_2 from2 h_10) (k_2 undef h_10) ⟨⟩ ⟨⟩) (fun t26 h_11 => 
                    Join1 (fun k_3 h_12 => guardP t24 false (k_3 t22 h_12) (k_3 undef h_12) ⟨⟩ ⟨⟩) (fun t27 h_13 => 
                      Join1 (fun k_4 h_14 => guardP t24 false (Hp Try.prog false (binS .gtr 3 (.tmp 26) (.tmp 27) t26 t27) k_4 h_14 ⟨⟩) (k_4 undef h_14) ⟨⟩ ⟨⟩) (fun t28 h_15 => 
                        Hp Try.prog false (pickS t24 (.bool true) t28) (fun t29 h_16 => 
                          CondP t29 (
                            R (.tuple #[(.int .i64 0), (.int .i64 4)]) h_16) (
                            LoopC 1 (fun (X : Value → Heap → Prop) => fun i11 h_17 =>
                              Hp Try.prog false (binS .leq 3 (.tmp 31) (.tmp 32) n3 t22) (fun t33 h_18 => 
                                Join1 (fun k_5 h_19 => guardP t33 true (k_5 i11 h_19) (k_5 undef h_19) ⟨⟩ ⟨⟩) (fun t35 h_20 => 
                                  Join1 (fun k_6 h_21 => guardP t33 true (k_6 t22 h_21) (k_6 undef h_21) ⟨⟩ ⟨⟩) (fun t36 h_22 => 
                                    Join1 (fun k_7 h_23 => guardP t33 true (k_7 n3 h_23) (k_7 undef h_23) ⟨⟩ ⟨⟩) (fun t37 h_24 => 
                                      Join1 (fun k_8 h_25 => guardP t33 true (Hp Try.prog false (binS .sub 3 (.tmp 36) (.tmp 37) t36 t37) k_8 h_25 ⟨⟩) (k_8 undef h_25) ⟨⟩ ⟨⟩) (fun t38 h_26 => 
                                        Join1 (fun k_9 h_27 => guardP t33 true (Hp Try.prog false (binS .leq 3 (.tmp 35) (.tmp 38) t35 t38) k_9 h_27 ⟨⟩) (k_9 undef h_27) ⟨⟩ ⟨⟩) (fun t39 h_28 => 
                                          Hp Try.prog false (pickS t33 t39 (.bool false)) (fun t40 h_29 => 
                                            CondP t40 (
                                              LoopC 1 (fun (X_1 : Value → Heap → Prop) => fun free12 h_30 =>
                                                Hp Try.prog false (binS .lss 3 (.tmp 43) (.tmp 44) free12 n3) (fun t45 h_31 => 
                                                  Join1 (fun k_10 h_32 => guardP t45 true (k_10 b0 h_32) (k_10 undef h_32) ⟨⟩ ⟨⟩) (fun t47 h_33 => 
                                                    Join1 (fun k_11 h_34 => guardP t45 true (k_11 order1 h_34) (k_11 undef h_34) ⟨⟩ ⟨⟩) (fun t48 h_35 => 
                                                      Join1 (fun k_12 h_36 => guardP t45 true (k_12 i11 h_36) (k_12 undef h_36) ⟨⟩ ⟨⟩) (fun t49 h_37 => 
                                                        Join1 (fun k_13 h_38 => guardP t45 true (k_13 free12 h_38) (k_13 undef h_38) ⟨⟩ ⟨⟩) (fun t50 h_39 => 
                                                          Join1 (fun k_14 h_40 => guardP t45 true (Hp Try.prog false (binS .add 3 (.tmp 49) (.tmp 50) t49 t50) k_14 h_40 ⟨⟩) (k_14 undef h_40) ⟨⟩ ⟨⟩) (fun t51 h_41 => 
                                                            Join1 (fun k_15 h_42 => guardP t45 true (CallsH Try.prog 50 #[t47, t48, t51] h_42 k_15 ⟨⟩) (k_15 undef h_42) ⟨⟩ ⟨⟩) (fun t52 h_43 => 
                                                              Join1 (fun k_16 h_44 => guardP t45 true (Hp Try.prog false (binS .eql 25 (.tmp 52) (.const (.int .u64 0)) t52 (.int .u64 0)) k_16 h_44 ⟨⟩) (k_16 undef h_44) ⟨⟩ ⟨⟩) (fun t53 h_45 => 
                                                                Hp Try.prog false (pickS t45 t53 (.bool false)) (fun t54 h_46 => 
                                                                  CondP t54 (
                                                                    Hp Try.prog false (binS .add 3 (.tmp 55) (.const (.int .i64 1)) free12 (.int .i64 1)) (fun t56 h_47 => 
                                                                      X_1 t56 h_47) h_46 ⟨⟩) (
                                                                    Hp Try.prog false (binS .eql 3 (.tmp 57) (.tmp 58) free12 n3) (fun t59 h_48 => 
                                                                      CondP t59 (
                                                                        R (.tuple #[i11, (.int .i64 0)]) h_48) (
                                                                        Hp Try.prog false (binS .add 3 (.tmp 41) (.const (.int .i64 1)) i11 (.int .i64 1)) (fun t42 h_49 => 
                                                                          X t42 h_49) h_48 ⟨⟩) ⟨⟩ ⟨⟩) h_46 ⟨⟩) ⟨⟩ ⟨⟩) h_45 ⟨⟩) h_43 ⟨⟩ ⟨⟩) h_41 ⟨⟩ ⟨⟩) h_39 ⟨⟩ ⟨⟩) h_37 ⟨⟩ ⟨⟩) h_35 ⟨⟩ ⟨⟩) h_33 ⟨⟩ ⟨⟩) h_31 ⟨⟩ ⟨⟩) h_30 ⟨⟩) [(.int .i64 0)] h_29 ⟨⟩) (
                                              R (.tuple #[(.int .i64 0), (.int .i64 7)]) h_29) ⟨⟩ ⟨⟩) h_28 ⟨⟩) h_26 ⟨⟩ ⟨⟩) h_24 ⟨⟩ ⟨⟩) h_22 ⟨⟩ ⟨⟩) h_20 ⟨⟩ ⟨⟩) h_18 ⟨⟩ ⟨⟩) h_17 ⟨⟩) [from2] h_16 ⟨⟩) ⟨⟩ ⟨⟩) h_15 ⟨⟩) h_13 ⟨⟩ ⟨⟩) h_11 ⟨⟩ ⟨⟩) h_9 ⟨⟩ ⟨⟩) h_8 ⟨⟩) ⟨⟩) ⟨⟩ ⟨⟩) h_6 ⟨⟩) h_4 ⟨⟩ ⟨⟩) h_2 ⟨⟩ ⟨⟩) h_1 ⟨⟩) ⟨⟩

theorem n53_calls {b0 order1 from2 n3 : Value} {R : Value → Heap → Prop} {h : Heap} (H : n53 b0 order1 from2 n3 R h) : CallsH Try.prog 53 #[b0, order1, from2, n3] h R ⟨⟩ :=
  callsH_of_eq Try.follow (.n none .l (.n none .l (.n none .l (.n none .l (.n none (.n none .l (.n none (.n (some [12]) (.n none .l (.n none (.n none (.n none .l (.n none (.n none (.n (some [13]) .l .l) .l) .l)) .l) .l)) .l) .l)) .l))))) Try.func53 (by kernel_rfl) (by kernel_rfl) (by kernel_rfl) H

/-- palimpsest/counts.All -/
def n54 (b0 order1 : Value) (R : Value → Heap → Prop) (h : Heap) : Prop :=
  Hp Try.prog false (Instr.box 39 b0) (fun b2 h_1 => 
    Hp Try.prog false (Instr.box 3 order1) (fun order3 h_2 => 
      Hp Try.prog false (Instr.loadAt 39 b2) (fun t5 h_3 => 
        CallsH Try.prog 72 #[t5] h_3 (fun t6 h_4 => 
          Hp Try.prog false (storeS 39 b2 t6) (fun _ h_5 => 
            Hp Try.prog false (pure (.func (.func 79) #[] #[b2, order3])) (fun t7 h_6 => 
              R t7 h_6) h_5 ⟨⟩) h_4 ⟨⟩) ⟨⟩) h_2 ⟨⟩) h_1 ⟨⟩) h ⟨⟩

theorem n54_calls {b0 order1 : Value} {R : Value → Heap → Prop} {h : Heap} (H : n54 b0 order1 R h) : CallsH Try.prog 54 #[b0, order1] h R ⟨⟩ :=
  callsH_of_eq Try.follow .l Try.func54 (by kernel_rfl) (by kernel_rfl) (by kernel_rfl) H

/-- palimpsest/counts.Widen -/
def n55 (b0 order1 to2 : Value) (R : Value → Heap → Prop) (h : Heap) : Prop :=
  Hp Try.prog false (Instr.box 3 to2) (fun to5 h_1 => 
    Hp Try.prog false (Instr.alloc 39 true undef) (fun t6 h_2 => 
      Hp Try.prog false (Instr.alloc 27 true undef) (fun t7 h_3 => 
        CallsH Try.prog 42 #[b0, order1] h_3 (fun t18 h_4 => 
          Hp Try.prog false (Instr.extract t18 0) (fun t19 h_5 => 
            Hp Try.prog false (Instr.extract t18 1) (fun t20 h_6 => 
              Hp Try.prog false (Instr.loadAt 3 to5) (fun t22 h_7 => 
                CallsH Try.prog 43 #[t22] h_7 (fun t23 h_8 => 
                  Hp Try.prog false (Instr.extract t23 0) (fun t24 h_9 => 
                    Hp Try.prog false (Instr.extract t23 1) (fun t25 h_10 => 
                      Hp Try.prog false (Instr.alloc 25 true undef) (fun most10 h_11 => 
                        Hp Try.prog false (storeS 25 most10 t24) (fun _ h_12 => 
                          Hp Try.prog false (binS .neq 27 (.tmp 26) (.const (.int .i64 0)) t20 (.int .i64 0)) (fun t27 h_13 => 
                            Join1 (fun k h_14 => guardP t27 false (k t25 h_14) (k undef h_14) ⟨⟩ ⟨⟩) (fun t29 h_15 => 
                              Join1 (fun k_1 h_16 => guardP t27 false (Hp Try.prog false (binS .neq 27 (.tmp 29) (.const (.int .i64 0)) t29 (.int .i64 0)) k_1 h_16 ⟨⟩) (k_1 undef h_16) ⟨⟩ ⟨⟩) (fun t30 h_17 => 
                                Hp Try.prog false (pickS t27 (.bool true) t30) (fun t31 h_18 => 
                                  CondP t31 (
                                    Hp Try.prog false (storeS 39 t6 (.slice none 0 0)) (fun _ h_19 => 
                                      Hp Try.prog false (storeS 27 t7 (.int .i64 2)) (fun _ h_20 => 
                                        RetD (.tuple #[]) h_20 (fun h_21 =>
                                          Hp Try.prog true (loadCell 39 t6) (fun r _ =>
                                            Hp Try.prog true (loadCell 27 t7) (fun r_1 _ =>
                                              R (.tuple #[r, r_1]) h_21) h_21 ⟨⟩) h_21 ⟨⟩) ⟨⟩) h_19 ⟨⟩) h_18 ⟨⟩) (
                                    Hp Try.prog false (Instr.loadAt 3 to5) (fun t33 h_22 => 
                                      CallsH Try.prog 74 #[t33] h_22 (fun t34 h_23 => 
                                        Hp Try.prog false (binS .mul 3 (.tmp 32) (.tmp 34) t19 t34) (fun t35 h_24 => 
                                          Hp Try.prog false (binS .add 3 (.tmp 35) (.const (.int .i64 7)) t35 (.int .i64 7)) (fun t36 h_25 => 
                                            Hp Try.prog false (binS .quo 3 (.tmp 36) (.const (.int .i64 8)) t36 (.int .i64 8)) (fun t37 h_26 => 
                                              Hp Try.prog false (Instr.makeSlice 39 t37 t37) (fun t38 h_27 => 
                                                Hp Try.prog false (Instr.alloc 39 true undef) (fun out12 h_28 => 
                                                  Hp Try.prog false (storeS 39 out12 t38) (fun _ h_29 => 
                                                    JoinN 1 (fun (k_2 : Value → Heap → Prop) h_30 =>
                                                      CallsH Try.prog 54 #[b0, order1] h_30 (fun t41 h_31 => 
                                                        JoinN 1 (fun (k_3 : Value → Heap → Prop) h_32 =>
                                                          RangeC Try.prog none t41 2 (.tuple #[]) (fun l args bg Nb Jb h_33 =>
                                                            bg (fun h_34 =>
                                                              Hp Try.prog false (Instr.loadAt 25 most10) (fun t45 h_35 => 
                                                                Hp Try.prog false (binS .gtr 25 (.tmp 44) (.tmp 45) (getV args 1) t45) (fun t46 h_36 => 
                                                                  CondP t46 (
                                                                    Hp Try.prog false (storeS 39 t6 (.slice none 0 0)) (fun _ h_37 => 
                                                                      Hp Try.prog false (storeS 27 t7 (.int .i64 3)) (fun _ h_38 => 
                                                                        Jb .ret h_38) h_37 ⟨⟩) h_36 ⟨⟩) (
                                                                    Hp Try.prog true (Instr.loadAt 39 out12) (fun t47 _ => 
                                                                      Hp Try.prog true (Instr.loadAt 3 to5) (fun t48 _ => 
                                                                        CallsH Try.prog 74 #[t48] h_36 (fun t49 h_39 => Hp Try.prog true (Instr.loadAt 39 out12) (fun u _ => u = t47) h_39 ⟨⟩ ∧ 
                                                                          CallsH Try.prog 77 #[t47, t49, (getV args 0), (getV args 1)] h_39 (fun t52 h_40 => 
                                                                            Nb h_40) ⟨⟩) ⟨⟩) h_36 ⟨⟩) h_36 ⟨⟩) ⟨⟩ ⟨⟩) h_35 ⟨⟩) h_34 ⟨⟩) h_33)
                                                            (fun D h_41 =>
                                                            k_3 D h_41)
                                                            (fun D_1 h_42 =>
                                                            RetD D_1 h_42 (fun h_43 =>
                                                              Hp Try.prog true (loadCell 39 t6) (fun r_2 _ =>
                                                                Hp Try.prog true (loadCell 27 t7) (fun r_3 _ =>
                                                                  R (.tuple #[r_2, r_3]) h_43) h_43 ⟨⟩) h_43 ⟨⟩) ⟨⟩)
                                                            (fun id D_2 h_44 => bif Nat.beq id 0 then (k_3 D_2 h_44) else False) h_32 ⟨⟩ ⟨⟩ ⟨⟩ ⟨⟩)
                                                          (fun D_3 h_45 =>
                                                          k_2 D_3 h_45) h_31 ⟨⟩ ⟨⟩) ⟨⟩)
                                                      (fun D_4 h_46 =>
                                                      Hp Try.prog false (Instr.loadAt 39 out12) (fun t53 h_47 => 
                                                        Hp Try.prog false (storeS 39 t6 t53) (fun _ h_48 => 
                                                          Hp Try.prog false (storeS 27 t7 (.int .i64 0)) (fun _ h_49 => 
                                                            RetD D_4 h_49 (fun h_50 =>
                                                              Hp Try.prog true (loadCell 39 t6) (fun r_4 _ =>
                                                                Hp Try.prog true (loadCell 27 t7) (fun r_5 _ =>
                                                                  R (.tuple #[r_4, r_5]) h_50) h_50 ⟨⟩) h_50 ⟨⟩) ⟨⟩) h_48 ⟨⟩) h_47 ⟨⟩) h_46 ⟨⟩) h_29 ⟨⟩ ⟨⟩) h_28 ⟨⟩) h_27 ⟨⟩) h_26 ⟨⟩) h_25 ⟨⟩) h_24 ⟨⟩) h_23 ⟨⟩) ⟨⟩) h_18 ⟨⟩) ⟨⟩ ⟨⟩) h_17 ⟨⟩) h_15 ⟨⟩ ⟨⟩) h_13 ⟨⟩ ⟨⟩) h_12 ⟨⟩) h_11 ⟨⟩) h_10 ⟨⟩) h_9 ⟨⟩) h_8 ⟨⟩) ⟨⟩) h_6 ⟨⟩) h_5 ⟨⟩) h_4 ⟨⟩) ⟨⟩) h_2 ⟨⟩) h_1 ⟨⟩) h ⟨⟩

theorem n55_calls {b0 order1 to2 : Value} {R : Value → Heap → Prop} {h : Heap} (H : n55 b0 order1 to2 R h) : CallsH Try.prog 55 #[b0, order1, to2] h R ⟨⟩ :=
  callsH_of_eq Try.follow (.n none .l (.n none .l (.n none .l (.n none .l (.n none .l (.n (some [0]) (.n none .l (.n (some [0]) .l .l)) .l)))))) Try.func55 (by kernel_rfl) (by kernel_rfl) (by kernel_rfl) H

/-- palimpsest/palimpsestref10.Widen -/
def n56 (b0 order1 to2 : Value) (R : Value → Heap → Prop) (h : Heap) : Prop :=
  CallsH Try.prog 48 #[b0, order1] h (fun t14 h_1 => 
    CallsH Try.prog 46 #[to2] h_1 (fun t17 h_2 => 
      Hp Try.prog false (binS .mul 3 (.tmp 15) (.tmp 17) t14 t17) (fun t18 h_3 => 
        Hp Try.prog false (binS .add 3 (.tmp 18) (.const (.int .i64 7)) t18 (.int .i64 7)) (fun t19 h_4 => 
          Hp Try.prog false (binS .quo 3 (.tmp 19) (.const (.int .i64 8)) t19 (.int .i64 8)) (fun t20 h_5 => 
            Hp Try.prog false (Instr.makeSlice 39 t20 t20) (fun t21 h_6 => 
              LoopC 2 (fun (X : Value → Value → Heap → Prop) => fun out9 i10 h_7 =>
                Hp Try.prog false (binS .lss 3 (.tmp 22) (.tmp 23) i10 t14) (fun t24 h_8 => 
                  CondP t24 (
                    JoinN 1 (fun (k : Value → Heap → Prop) h_9 =>
                      JoinN 1 (fun (k_1 : Value → Heap → Prop) h_10 =>
                        CallsH Try.prog 50 #[b0, order1, i10] h_10 (fun t30 h_11 => 
                          CallsH Try.prog 49 #[to2] h_11 (fun t33 h_12 => 
                            Hp Try.prog false (binS .gtr 25 (.tmp 31) (.tmp 33) t30 t33) (fun t34 h_13 => 
                              CondP t34 (
                                R (.tuple #[(.slice none 0 0), (.int .i64 3)]) h_13) (
                                Hp Try.prog false (binS .gtr 25 (.tmp 35) (.const (.int .u64 0)) t30 (.int .u64 0)) (fun t36 h_14 => 
                                  CondP t36 (
                                    CallsH Try.prog 51 #[out9, to2, i10, t30] h_14 (fun t41 h_15 => 
                                      k_1 t41 h_15) ⟨⟩) (
                                    k_1 out9 h_14) ⟨⟩ ⟨⟩) h_13 ⟨⟩) ⟨⟩ ⟨⟩) h_12 ⟨⟩) ⟨⟩) ⟨⟩)
                        (fun out9_1 h_16 =>
                        k out9_1 h_16) h_9 ⟨⟩ ⟨⟩)
                      (fun out9_2 h_17 =>
                      Hp Try.prog false (binS .add 3 (.tmp 25) (.const (.int .i64 1)) i10 (.int .i64 1)) (fun t26 h_18 => 
                        X out9_2 t26 h_18) h_17 ⟨⟩) h_8 ⟨⟩ ⟨⟩) (
                    R (.tuple #[out9, (.int .i64 0)]) h_8) ⟨⟩ ⟨⟩) h_7 ⟨⟩) [t21, (.int .i64 0)] h_6 ⟨⟩) h_5 ⟨⟩) h_4 ⟨⟩) h_3 ⟨⟩) h_2 ⟨⟩) ⟨⟩) ⟨⟩

theorem n56_calls {b0 order1 to2 : Value} {R : Value → Heap → Prop} {h : Heap} (H : n56 b0 order1 to2 R h) : CallsH Try.prog 56 #[b0, order1, to2] h R ⟨⟩ :=
  callsH_of_eq Try.follow (.n none .l (.n none .l (.n none .l (.n none (.n none .l (.n none (.n (some [10, 11]) (.n none .l (.n (some [10]) (.n (some [10]) .l .l) .l)) .l) .l)) .l)))) Try.func56 (by kernel_rfl) (by kernel_rfl) (by kernel_rfl) H

/-- palimpsest/counts.width -/
def n74 (order0 : Value) (R : Value → Heap → Prop) (h : Heap) : Prop :=
  Hp Try.prog false (Instr.build 143 #[(0, (.int .i64 1)), (1, (.int .i64 2)), (2, (.int .i64 4)), (3, (.int .i64 8)), (4, (.int .i64 16)), (5, (.int .i64 32)), (6, (.int .i64 64))]) (fun t4 h_1 => 
    Hp Try.prog false (Instr.alloc 143 true undef) (fun widths3 h_2 => 
      Hp Try.prog false (storeS 143 widths3 t4) (fun _ h_3 => 
        Hp Try.prog false (binS .lss 3 (.tmp 5) (.const (.int .i64 0)) order0 (.int .i64 0)) (fun t6 h_4 => 
          Join1 (fun k h_5 => guardP t6 false (k order0 h_5) (k undef h_5) ⟨⟩ ⟨⟩) (fun t8 h_6 => 
            Join1 (fun k_1 h_7 => guardP t6 false (Hp Try.prog false (binS .geq 3 (.tmp 8) (.const (.int .i64 7)) t8 (.int .i64 7)) k_1 h_7 ⟨⟩) (k_1 undef h_7) ⟨⟩ ⟨⟩) (fun t9 h_8 => 
              Hp Try.prog false (pickS t6 (.bool true) t9) (fun t10 h_9 => 
                CondP t10 (
                  R (.int .i64 0) h_9) (
                  Hp Try.prog false (Instr.indexAt 143 widths3 order0) (fun t12 h_10 => 
                    Hp Try.prog false (Instr.loadAt 3 t12) (fun t13 h_11 => 
                      R t13 h_11) h_10 ⟨⟩) h_9 ⟨⟩) ⟨⟩ ⟨⟩) h_8 ⟨⟩) h_6 ⟨⟩ ⟨⟩) h_4 ⟨⟩ ⟨⟩) h_3 ⟨⟩) h_2 ⟨⟩) h_1 ⟨⟩) h ⟨⟩

theorem n74_calls {order0 : Value} {R : Value → Heap → Prop} {h : Heap} (H : n74 order0 R h) : CallsH Try.prog 74 #[order0] h R ⟨⟩ :=
  callsH_of_eq Try.follow .l Try.func74 (by kernel_rfl) (by kernel_rfl) (by kernel_rfl) H

/-- palimpsest/counts.asked -/
def n75 (b0 order1 i2 : Value) (R : Value → Heap → Prop) (h : Heap) : Prop :=
  CallsH Try.prog 42 #[b0, order1] h (fun t13 h_1 => 
    Hp Try.prog false (Instr.extract t13 0) (fun t14 h_2 => 
      Hp Try.prog false (Instr.extract t13 1) (fun t15 h_3 => 
        Hp Try.prog false (binS .neq 27 (.tmp 17) (.const (.int .i64 0)) t15 (.int .i64 0)) (fun t18 h_4 => 
          CondP t18 (
            R (.tuple #[(.int .i64 0), t15]) h_4) (
            Hp Try.prog false (binS .lss 3 (.tmp 21) (.const (.int .i64 0)) i2 (.int .i64 0)) (fun t22 h_5 => 
              Join1 (fun k h_6 => guardP t22 false (k i2 h_6) (k undef h_6) ⟨⟩ ⟨⟩) (fun t24 h_7 => 
                Join1 (fun k_1 h_8 => guardP t22 false (k_1 t14 h_8) (k_1 undef h_8) ⟨⟩ ⟨⟩) (fun t25 h_9 => 
                  Join1 (fun k_2 h_10 => guardP t22 false (Hp Try.prog false (binS .geq 3 (.tmp 24) (.tmp 25) t24 t25) k_2 h_10 ⟨⟩) (k_2 undef h_10) ⟨⟩ ⟨⟩) (fun t26 h_11 => 
                    Hp Try.prog false (pickS t22 (.bool true) t26) (fun t27 h_12 => 
                      CondP t27 (
                        R (.tuple #[(.int .i64 0), (.int .i64 4)]) h_12) (
                        CallsH Try.prog 74 #[order1] h_12 (fun t29 h_13 => 
                          R (.tuple #[t29, (.int .i64 0)]) h_13) ⟨⟩) ⟨⟩ ⟨⟩) h_11 ⟨⟩) h_9 ⟨⟩ ⟨⟩) h_7 ⟨⟩ ⟨⟩) h_5 ⟨⟩ ⟨⟩) h_4 ⟨⟩) ⟨⟩ ⟨⟩) h_3 ⟨⟩) h_2 ⟨⟩) h_1 ⟨⟩) ⟨⟩

theorem n75_calls {b0 order1 i2 : Value} {R : Value → Heap → Prop} {h : Heap} (H : n75 b0 order1 i2 R h) : CallsH Try.prog 75 #[b0, order1, i2] h R ⟨⟩ :=
  callsH_of_eq Try.follow .l Try.func75 (by kernel_rfl) (by kernel_rfl) (by kernel_rfl) H

/-- palimpsest/counts.get -/
def n76 (b0 w1 i2 : Value) (R : Value → Heap → Prop) (h : Heap) : Prop :=
  Hp Try.prog false (binS .lss 3 (.tmp 9) (.const (.int .i64 8)) w1 (.int .i64 8)) (fun t10 h_1 => 
    CondP t10 (
      Hp Try.prog true (binS .mul 3 (.tmp 12) (.tmp 13) i2 w1) (fun t14 _ => 
        Hp Try.prog true (binS .quo 3 (.tmp 14) (.const (.int .i64 8)) t14 (.int .i64 8)) (fun t15 _ => 
          Hp Try.prog true (Instr.indexAt 39 b0 t15) (fun t16 _ => 
            Hp Try.prog true (Instr.loadAt 5 t16) (fun t17 _ => 
              Hp Try.prog true (convert 5 25 t17) (fun t18 _ => 
                Hp Try.prog true (binS .mul 3 (.tmp 19) (.tmp 20) i2 w1) (fun t21 _ => 
                  Hp Try.prog true (binS .rem 3 (.tmp 21) (.const (.int .i64 8)) t21 (.int .i64 8)) (fun t22 _ => 
                    Hp Try.prog true (binS .shr 25 (.tmp 18) (.tmp 22) t18 t22) (fun t23 _ => 
                      Hp Try.prog true (binS .shl 25 (.const (.int .u64 1)) (.tmp 24) (.int .u64 1) w1) (fun t25 _ => 
                        Hp Try.prog true (binS .sub 25 (.tmp 25) (.const (.int .u64 1)) t25 (.int .u64 1)) (fun t26 _ => 
                          Hp Try.prog true (binS .and 25 (.tmp 23) (.tmp 26) t23 t26) (fun t27 _ => 
                            R t27 h_1) #[] ⟨⟩) #[] ⟨⟩) #[] ⟨⟩) #[] ⟨⟩) #[] ⟨⟩) #[] ⟨⟩) #[] ⟨⟩) h_1 ⟨⟩) #[] ⟨⟩) #[] ⟨⟩) #[] ⟨⟩) (
      Hp Try.prog false (binS .quo 3 (.tmp 28) (.const (.int .i64 8)) w1 (.int .i64 8)) (fun t29 h_2 => 
        Hp Try.prog false (binS .sub 3 (.tmp 29) (.const (.int .i64 1)) t29 (.int .i64 1)) (fun t30 h_3 => 
          LoopC 2 (fun (X : Value → Value → Heap → Prop) => fun x7 k8 h_4 =>
            Hp Try.prog false (binS .geq 3 (.tmp 31) (.const (.int .i64 0)) k8 (.int .i64 0)) (fun t32 h_5 => 
              CondP t32 (
                Hp Try.prog false (binS .shl 25 (.tmp 35) (.const (.int .u64 8)) x7 (.int .u64 8)) (fun t36 h_6 => 
                  Hp Try.prog false (binS .mul 3 (.tmp 39) (.tmp 40) i2 w1) (fun t41 h_7 => 
                    Hp Try.prog false (binS .quo 3 (.tmp 41) (.const (.int .i64 8)) t41 (.int .i64 8)) (fun t42 h_8 => 
                      Hp Try.prog false (binS .add 3 (.tmp 42) (.tmp 43) t42 k8) (fun t44 h_9 => 
                        Hp Try.prog false (Instr.indexAt 39 b0 t44) (fun t45 h_10 => 
                          Hp Try.prog false (Instr.loadAt 5 t45) (fun t46 h_11 => 
                            Hp Try.prog false (convert 5 25 t46) (fun t47 h_12 => 
                              Hp Try.prog false (binS .or 25 (.tmp 37) (.tmp 47) t36 t47) (fun t48 h_13 => 
                                Hp Try.prog false (binS .sub 3 (.tmp 33) (.const (.int .i64 1)) k8 (.int .i64 1)) (fun t34 h_14 => 
                                  X t48 t34 h_14) h_13 ⟨⟩) h_12 ⟨⟩) h_11 ⟨⟩) h_10 ⟨⟩) h_9 ⟨⟩) h_8 ⟨⟩) h_7 ⟨⟩) h_6 ⟨⟩) h_5 ⟨⟩) (
                R x7 h_5) ⟨⟩ ⟨⟩) h_4 ⟨⟩) [(.int .u64 0), t30] h_3 ⟨⟩) h_2 ⟨⟩) h_1 ⟨⟩) ⟨⟩ ⟨⟩) h ⟨⟩

theorem n76_calls {b0 w1 i2 : Value} {R : Value → Heap → Prop} {h : Heap} (H : n76 b0 w1 i2 R h) : CallsH Try.prog 76 #[b0, w1, i2] h R ⟨⟩ :=
  callsH_of_eq Try.follow (.n none .l (.n none .l (.n none .l (.n none (.n none .l (.n none (.n (some [8, 9]) .l .l) .l)) .l)))) Try.func76 (by kernel_rfl) (by kernel_rfl) (by kernel_rfl) H

/-- palimpsest/counts.set -/
def n77 (b0 w1 i2 x3 : Value) (R : Value → Heap → Prop) (h : Heap) : Prop :=
  Hp Try.prog false (binS .lss 3 (.tmp 11) (.const (.int .i64 8)) w1 (.int .i64 8)) (fun t12 h_1 => 
    CondP t12 (
      Hp Try.prog false (binS .mul 3 (.tmp 13) (.tmp 14) i2 w1) (fun t15 h_2 => 
        Hp Try.prog false (binS .quo 3 (.tmp 15) (.const (.int .i64 8)) t15 (.int .i64 8)) (fun t16 h_3 => 
          Hp Try.prog false (binS .mul 3 (.tmp 17) (.tmp 18) i2 w1) (fun t19 h_4 => 
            Hp Try.prog false (binS .rem 3 (.tmp 19) (.const (.int .i64 8)) t19 (.int .i64 8)) (fun t20 h_5 => 
              Hp Try.prog true (Instr.indexAt 39 b0 t16) (fun t23 _ => 
                Hp Try.prog true (Instr.loadAt 5 t23) (fun t24 _ => 
                  Hp Try.prog true (binS .shl 5 (.const (.int .u8 1)) (.tmp 25) (.int .u8 1) w1) (fun t26 _ => 
                    Hp Try.prog true (binS .sub 5 (.tmp 26) (.const (.int .u8 1)) t26 (.int .u8 1)) (fun t27 _ => 
                      Hp Try.prog true (binS .shl 5 (.tmp 27) (.tmp 28) t27 t20) (fun t29 _ => 
                        Hp Try.prog true (binS .andNot 5 (.tmp 24) (.tmp 29) t24 t29) (fun t30 _ => 
                          Hp Try.prog true (Instr.indexAt 39 b0 t16) (fun t31 _ => 
                            Hp Try.prog false (storeS 5 t31 t30) (fun _ h_6 => 
                              Hp Try.prog true (Instr.indexAt 39 b0 t16) (fun t34 _ => 
                                Hp Try.prog true (Instr.loadAt 5 t34) (fun t35 _ => 
                                  Hp Try.prog true (convert 25 5 x3) (fun t37 _ => 
                                    Hp Try.prog true (binS .shl 5 (.tmp 37) (.tmp 38) t37 t20) (fun t39 _ => 
                                      Hp Try.prog true (binS .or 5 (.tmp 35) (.tmp 39) t35 t39) (fun t40 _ => 
                                        Hp Try.prog true (Instr.indexAt 39 b0 t16) (fun t41 _ => 
                                          Hp Try.prog false (storeS 5 t41 t40) (fun _ h_7 => 
                                            R (.tuple #[]) h_7) h_6 ⟨⟩) #[] ⟨⟩) #[] ⟨⟩) #[] ⟨⟩) #[] ⟨⟩) h_6 ⟨⟩) #[] ⟨⟩) h_5 ⟨⟩) #[] ⟨⟩) #[] ⟨⟩) #[] ⟨⟩) #[] ⟨⟩) #[] ⟨⟩) h_5 ⟨⟩) #[] ⟨⟩) h_4 ⟨⟩) h_3 ⟨⟩) h_2 ⟨⟩) h_1 ⟨⟩) (
      Hp Try.prog false (binS .quo 3 (.tmp 42) (.const (.int .i64 8)) w1 (.int .i64 8)) (fun t43 h_8 => 
        LoopC 2 (fun (X : Value → Value → Heap → Prop) => fun x3_1 t44 h_9 =>
          Hp Try.prog false (binS .lss 3 (.tmp 44) (.tmp 43) t44 t43) (fun t45 h_10 => 
            CondP t45 (
              Hp Try.prog false (binS .mul 3 (.tmp 48) (.tmp 49) i2 w1) (fun t50 h_11 => 
                Hp Try.prog false (binS .quo 3 (.tmp 50) (.const (.int .i64 8)) t50 (.int .i64 8)) (fun t51 h_12 => 
                  Hp Try.prog false (binS .add 3 (.tmp 51) (.tmp 52) t51 t44) (fun t53 h_13 => 
                    Hp Try.prog false (convert 25 5 x3_1) (fun t55 h_14 => 
                      Hp Try.prog false (Instr.indexAt 39 b0 t53) (fun t56 h_15 => 
                        Hp Try.prog false (storeS 5 t56 t55) (fun _ h_16 => 
                          Hp Try.prog false (binS .shr 25 (.tmp 57) (.const (.int .u64 8)) x3_1 (.int .u64 8)) (fun t58 h_17 => 
                            Hp Try.prog false (binS .add 3 (.tmp 44) (.const (.int .i64 1)) t44 (.int .i64 1)) (fun t59 h_18 => 
                              X t58 t59 h_18) h_17 ⟨⟩) h_16 ⟨⟩) h_15 ⟨⟩) h_14 ⟨⟩) h_13 ⟨⟩) h_12 ⟨⟩) h_11 ⟨⟩) h_10 ⟨⟩) (
              R (.tuple #[]) h_10) ⟨⟩ ⟨⟩) h_9 ⟨⟩) [x3, (.int .i64 0)] h_8 ⟨⟩) h_1 ⟨⟩) ⟨⟩ ⟨⟩) h ⟨⟩

theorem n77_calls {b0 w1 i2 x3 : Value} {R : Value → Heap → Prop} {h : Heap} (H : n77 b0 w1 i2 x3 R h) : CallsH Try.prog 77 #[b0, w1, i2, x3] h R ⟨⟩ :=
  callsH_of_eq Try.follow (.n none .l (.n none .l (.n none (.n (some [4, 45]) .l .l) .l))) Try.func77 (by kernel_rfl) (by kernel_rfl) (by kernel_rfl) H

/-- palimpsest/counts.Add$1 -/
def n78 (room0 n1 : Value) (R : Value → Heap → Prop) (h : Heap) : Prop :=
  Hp Try.prog false (binS .leq 25 (.tmp 5) (.tmp 6) n1 room0) (fun t7 h_1 => 
    R t7 h_1) h ⟨⟩

theorem n78_calls {room0 n1 : Value} {R : Value → Heap → Prop} {h : Heap} (H : n78 room0 n1 R h) : CallsH Try.prog 78 #[room0, n1] h R ⟨⟩ :=
  callsH_of_eq Try.follow .l Try.func78 (by kernel_rfl) (by kernel_rfl) (by kernel_rfl) H

/-- palimpsest/counts.All$1 -/
def n79 (yield0 t1 t2 : Value) (R : Value → Heap → Prop) (h : Heap) : Prop :=
  Hp Try.prog false (Instr.loadAt 39 t1) (fun t9 h_1 => 
    Hp Try.prog false (Instr.loadAt 3 t2) (fun t10 h_2 => 
      CallsH Try.prog 42 #[t9, t10] h_2 (fun t11 h_3 => 
        Hp Try.prog false (Instr.extract t11 0) (fun t12 h_4 => 
          Hp Try.prog false (Instr.extract t11 1) (fun t13 h_5 => 
            LoopC 1 (fun (X : Value → Heap → Prop) => fun t15 h_6 =>
              Hp Try.prog false (binS .lss 3 (.tmp 15) (.tmp 14) t15 t12) (fun t16 h_7 => 
                CondP t16 (
                  Hp Try.prog true (Instr.loadAt 39 t1) (fun t18 _ => 
                    Hp Try.prog true (Instr.loadAt 3 t2) (fun t19 _ => 
                      CallsH Try.prog 74 #[t19] h_7 (fun t20 h_8 => Hp Try.prog true (Instr.loadAt 39 t1) (fun u _ => u = t18) h_8 ⟨⟩ ∧ 
                        CallsH Try.prog 76 #[t18, t20, t15] h_8 (fun t22 h_9 => 
                          Hp Try.prog false (binS .neq 25 (.tmp 23) (.const (.int .u64 0)) t22 (.int .u64 0)) (fun t24 h_10 => 
                            Join1 (fun k h_11 => guardP t24 true (k yield0 h_11) (k undef h_11) ⟨⟩ ⟨⟩) (fun t26 h_12 => 
                              Join1 (fun k_1 h_13 => guardP t24 true (k_1 t15 h_13) (k_1 undef h_13) ⟨⟩ ⟨⟩) (fun t27 h_14 => 
                                Join1 (fun k_2 h_15 => guardP t24 true (k_2 t22 h_15) (k_2 undef h_15) ⟨⟩ ⟨⟩) (fun t28 h_16 => 
                                  Join1 (fun k_3 h_17 => guardP t24 true (InvokeH Try.prog t26 #[t27, t28] h_17 k_3 ⟨⟩) (k_3 undef h_17) ⟨⟩ ⟨⟩) (fun t29 h_18 => 
                                    Join1 (fun k_4 h_19 => guardP t24 true (Hp Try.prog false (Op.unary .not t29) k_4 h_19 ⟨⟩) (k_4 undef h_19) ⟨⟩ ⟨⟩) (fun t30 h_20 => 
                                      Hp Try.prog false (pickS t24 t30 (.bool false)) (fun t31 h_21 => 
                                        CondP t31 (
                                          R (.tuple #[]) h_21) (
                                          Hp Try.prog false (binS .add 3 (.tmp 15) (.const (.int .i64 1)) t15 (.int .i64 1)) (fun t32 h_22 => 
                                            X t32 h_22) h_21 ⟨⟩) ⟨⟩ ⟨⟩) h_20 ⟨⟩) h_18 ⟨⟩ ⟨⟩) h_16 ⟨⟩ ⟨⟩) h_14 ⟨⟩ ⟨⟩) h_12 ⟨⟩ ⟨⟩) h_10 ⟨⟩ ⟨⟩) h_9 ⟨⟩) ⟨⟩) ⟨⟩) h_7 ⟨⟩) h_7 ⟨⟩) (
                  R (.tuple #[]) h_7) ⟨⟩ ⟨⟩) h_6 ⟨⟩) [(.int .i64 0)] h_5 ⟨⟩) h_4 ⟨⟩) h_3 ⟨⟩) ⟨⟩) h_1 ⟨⟩) h ⟨⟩

theorem n79_calls {yield0 t1 t2 : Value} {R : Value → Heap → Prop} {h : Heap} (H : n79 yield0 t1 t2 R h) : CallsH Try.prog 79 #[yield0, t1, t2] h R ⟨⟩ :=
  callsH_of_eq Try.follow (.n none .l (.n none .l (.n none (.n (some [16]) .l .l) .l))) Try.func79 (by kernel_rfl) (by kernel_rfl) (by kernel_rfl) H

end Go.Proofs.Ytmppolccfjfoaaa

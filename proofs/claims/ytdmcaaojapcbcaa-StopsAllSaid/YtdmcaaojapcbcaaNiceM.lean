/- Printed by wip/tools/gen.py: the condition of each function, and that a call meets it. -/
import Derived.Test.YtdmcaaojapcbcaaVcFun
import Derived.Test.YtdmcaaojapcbcaaProg
import Derived.Test.YtdmcaaojapcbcaaNiceK
import Derived.Test.YtdmcaaojapcbcaaNiceO
import Derived.Test.YtdmcaaojapcbcaaNiceR
import Derived.Test.YtdmcaaojapcbcaaNiceT
import Derived.Test.YtdmcaaojapcbcaaNiceL
set_option maxRecDepth 100000
set_option linter.unusedVariables false
namespace Go.Proofs.Ytdmcaaojapcbcaa
open Go.Vc

/-- palimpsest/palimpsestlaw07.StopsNumbers -/
def n3 (l0 picks1 n2 : Value) (R : Value → Heap → Prop) (h : Heap) : Prop :=
 CallsH Try.prog 9 #[l0] h (fun t26 h_1 => 
 Join1 (fun k h_2 => guardP t26 false (k picks1 h_2) (k undef h_2) ⟨⟩ ⟨⟩) (fun t28 h_3 => 
 Join1 (fun k_1 h_4 => guardP t26 false (Hp Try.prog false (Builtin.len_ #[23] 3 #[t28]) k_1 h_4 ⟨⟩) (k_1 undef h_4) ⟨⟩ ⟨⟩) (fun t29 h_5 => 
 Join1 (fun k_2 h_6 => guardP t26 false (Hp Try.prog false (binS .gtr 3 (.tmp 29) (.const (.int .i64 300)) t29 (.int .i64 300)) k_2 h_6 ⟨⟩) (k_2 undef h_6) ⟨⟩ ⟨⟩) (fun t30 h_7 => 
 Hp Try.prog false (pickS t26 (.bool true) t30) (fun t31 h_8 => 
 CondP t31 (
 CallsH Try.prog 10 #[] h_8 (fun t32 h_9 => 
 R t32 h_9) ⟨⟩) (
 CallsH Try.prog 11 #[l0] h_8 (fun t35 h_10 => 
 Hp Try.prog false (Instr.extract t35 0) (fun t36 h_11 => 
 Hp Try.prog false (Instr.extract t35 1) (fun t37 h_12 => 
 CallsH Try.prog 12 #[t37] h_12 (fun t39 h_13 => 
 LoopC 2 (fun (X : Value → Value → Heap → Prop) => fun bad10 i11 h_14 =>
 Hp Try.prog false (Builtin.len_ #[23] 3 #[picks1]) (fun t42 h_15 => 
 Hp Try.prog false (binS .lss 3 (.tmp 40) (.tmp 42) i11 t42) (fun t43 h_16 => 
 CondP t43 (
 Join1 (fun k_3 h_17 => guardP bad10 false (k_3 picks1 h_17) (k_3 undef h_17) ⟨⟩ ⟨⟩) (fun t48 h_18 => 
 Join1 (fun k_4 h_19 => guardP bad10 false (k_4 i11 h_19) (k_4 undef h_19) ⟨⟩ ⟨⟩) (fun t49 h_20 => 
 Join1 (fun k_5 h_21 => guardP bad10 false (Hp Try.prog false (Instr.indexAt 23 t48 t49) k_5 h_21 ⟨⟩) (k_5 undef h_21) ⟨⟩ ⟨⟩) (fun t50 h_22 => 
 Join1 (fun k_6 h_23 => guardP bad10 false (Hp Try.prog false (Instr.loadAt 3 t50) k_6 h_23 ⟨⟩) (k_6 undef h_23) ⟨⟩ ⟨⟩) (fun t51 h_24 => 
 Join1 (fun k_7 h_25 => guardP bad10 false (Hp Try.prog false (binS .lss 3 (.tmp 51) (.const (.int .i64 0)) t51 (.int .i64 0)) k_7 h_25 ⟨⟩) (k_7 undef h_25) ⟨⟩ ⟨⟩) (fun t52 h_26 => 
 Hp Try.prog false (pickS bad10 (.bool true) t52) (fun t53 h_27 => 
 Hp Try.prog false (binS .add 3 (.tmp 44) (.const (.int .i64 1)) i11 (.int .i64 1)) (fun t45 h_28 => 
 X t53 t45 h_28) h_27 ⟨⟩) h_26 ⟨⟩) h_24 ⟨⟩ ⟨⟩) h_22 ⟨⟩ ⟨⟩) h_20 ⟨⟩ ⟨⟩) h_18 ⟨⟩ ⟨⟩) h_16 ⟨⟩ ⟨⟩) (
 Hp Try.prog false (Builtin.append_ #[23, 23] 23 #[(.slice none 0 0), picks1]) (fun t55 h_29 => 
 Hp Try.prog false (Instr.buildSlice 23 1 #[(0, (.int .i64 4242))]) (fun t56 h_30 => 
 Hp Try.prog false (Builtin.append_ #[23, 23] 23 #[t55, t56]) (fun t57 h_31 => 
 Hp Try.prog false (Builtin.len_ #[23] 3 #[picks1]) (fun t59 h_32 => 
 Hp Try.prog false (Instr.sliceAt 23 t57 none (some t59) none) (fun t60 h_33 => 
 CallsH Try.prog 13 #[t36] h_33 (fun t63 h_34 => 
 Hp Try.prog false (Instr.extract t63 0) (fun t64 h_35 => 
 Hp Try.prog false (Instr.extract t63 1) (fun t65 h_36 => 
 CallsH Try.prog 14 #[t36, t60] h_36 (fun t69 h_37 => 
 Hp Try.prog false (Instr.extract t69 0) (fun t70 h_38 => 
 Hp Try.prog false (Instr.extract t69 1) (fun t71 h_39 => 
 CallsH Try.prog 15 #[t36, t60] h_39 (fun t75 h_40 => 
 Hp Try.prog false (Instr.extract t75 0) (fun t76 h_41 => 
 Hp Try.prog false (Instr.extract t75 1) (fun t77 h_42 => 
 CallsH Try.prog 16 #[t36, n2] h_42 (fun t81 h_43 => 
 Hp Try.prog false (Instr.extract t81 0) (fun t82 h_44 => 
 Hp Try.prog false (Instr.extract t81 1) (fun t83 h_45 => 
 CallsH Try.prog 17 #[t60, picks1] h_45 (fun t86 h_46 => 
 Hp Try.prog false (Op.unary .not t86) (fun t87 h_47 => 
 Join1 (fun k_8 h_48 => guardP t87 false (k_8 t60 h_48) (k_8 undef h_48) ⟨⟩ ⟨⟩) (fun t89 h_49 => 
 Join1 (fun k_9 h_50 => guardP t87 false (k_9 t60 h_50) (k_9 undef h_50) ⟨⟩ ⟨⟩) (fun t90 h_51 => 
 Join1 (fun k_10 h_52 => guardP t87 false (Hp Try.prog false (Builtin.len_ #[23] 3 #[t90]) k_10 h_52 ⟨⟩) (k_10 undef h_52) ⟨⟩ ⟨⟩) (fun t91 h_53 => 
 Join1 (fun k_11 h_54 => guardP t87 false (Hp Try.prog false (binS .add 3 (.tmp 91) (.const (.int .i64 1)) t91 (.int .i64 1)) k_11 h_54 ⟨⟩) (k_11 undef h_54) ⟨⟩ ⟨⟩) (fun t92 h_55 => 
 Join1 (fun k_12 h_56 => guardP t87 false (Hp Try.prog false (Instr.sliceAt 23 t89 none (some t92) none) k_12 h_56 ⟨⟩) (k_12 undef h_56) ⟨⟩ ⟨⟩) (fun t93 h_57 => 
 Join1 (fun k_13 h_58 => guardP t87 false (k_13 t60 h_58) (k_13 undef h_58) ⟨⟩ ⟨⟩) (fun t94 h_59 => 
 Join1 (fun k_14 h_60 => guardP t87 false (Hp Try.prog false (Builtin.len_ #[23] 3 #[t94]) k_14 h_60 ⟨⟩) (k_14 undef h_60) ⟨⟩ ⟨⟩) (fun t95 h_61 => 
 Join1 (fun k_15 h_62 => guardP t87 false (Hp Try.prog false (Instr.indexAt 23 t93 t95) k_15 h_62 ⟨⟩) (k_15 undef h_62) ⟨⟩ ⟨⟩) (fun t96 h_63 => 
 Join1 (fun k_16 h_64 => guardP t87 false (Hp Try.prog false (Instr.loadAt 3 t96) k_16 h_64 ⟨⟩) (k_16 undef h_64) ⟨⟩ ⟨⟩) (fun t97 h_65 => 
 Join1 (fun k_17 h_66 => guardP t87 false (Hp Try.prog false (binS .neq 3 (.tmp 97) (.const (.int .i64 4242)) t97 (.int .i64 4242)) k_17 h_66 ⟨⟩) (k_17 undef h_66) ⟨⟩ ⟨⟩) (fun t98 h_67 => 
 Hp Try.prog false (pickS t87 (.bool true) t98) (fun t99 h_68 => 
 CondP t99 (
 R (.bool false) h_68) (
 Join1 (fun k_18 h_69 => guardP bad10 true (k_18 t70 h_69) (k_18 undef h_69) ⟨⟩ ⟨⟩) (fun t102 h_70 => 
 Join1 (fun k_19 h_71 => guardP bad10 true (Hp Try.prog false (Builtin.len_ #[23] 3 #[t102]) k_19 h_71 ⟨⟩) (k_19 undef h_71) ⟨⟩ ⟨⟩) (fun t103 h_72 => 
 Join1 (fun k_20 h_73 => guardP bad10 true (Hp Try.prog false (binS .neq 3 (.tmp 103) (.const (.int .i64 0)) t103 (.int .i64 0)) k_20 h_73 ⟨⟩) (k_20 undef h_73) ⟨⟩ ⟨⟩) (fun t104 h_74 => 
 Join1 (fun k_21 h_75 => guardP bad10 true (k_21 t104 h_75) (k_21 undef h_75) ⟨⟩ ⟨⟩) (fun t105 h_76 => 
 Join1 (fun k_22 h_77 => guardP t105 false (k_22 t71 h_77) (k_22 undef h_77) ⟨⟩ ⟨⟩) (fun t106 h_78 => 
 Join1 (fun k_23 h_79 => guardP t105 false (Hp Try.prog false (binS .neq 31 (.tmp 106) (.const (.int .i64 2)) t106 (.int .i64 2)) k_23 h_79 ⟨⟩) (k_23 undef h_79) ⟨⟩ ⟨⟩) (fun t107 h_80 => 
 Join1 (fun k_24 h_81 => guardP bad10 true (Hp Try.prog false (pickS t105 (.bool true) t107) k_24 h_81 ⟨⟩) (k_24 undef h_81) ⟨⟩ ⟨⟩) (fun t108 h_82 => 
 Join1 (fun k_25 h_83 => guardP bad10 true (k_25 t108 h_83) (k_25 undef h_83) ⟨⟩ ⟨⟩) (fun t109 h_84 => 
 Join1 (fun k_26 h_85 => guardP t109 false (k_26 t77 h_85) (k_26 undef h_85) ⟨⟩ ⟨⟩) (fun t110 h_86 => 
 Join1 (fun k_27 h_87 => guardP t109 false (Hp Try.prog false (binS .neq 31 (.tmp 110) (.const (.int .i64 2)) t110 (.int .i64 2)) k_27 h_87 ⟨⟩) (k_27 undef h_87) ⟨⟩ ⟨⟩) (fun t111 h_88 => 
 Join1 (fun k_28 h_89 => guardP bad10 true (Hp Try.prog false (pickS t109 (.bool true) t111) k_28 h_89 ⟨⟩) (k_28 undef h_89) ⟨⟩ ⟨⟩) (fun t112 h_90 => 
 Hp Try.prog false (pickS bad10 t112 (.bool false)) (fun t113 h_91 => 
 Join1 (fun k_29 h_92 => guardP t113 false (k_29 bad10 h_92) (k_29 undef h_92) ⟨⟩ ⟨⟩) (fun t115 h_93 => 
 Join1 (fun k_30 h_94 => guardP t113 false (Hp Try.prog false (Op.unary .not t115) k_30 h_94 ⟨⟩) (k_30 undef h_94) ⟨⟩ ⟨⟩) (fun t116 h_95 => 
 Join1 (fun k_31 h_96 => guardP t113 false (k_31 t116 h_96) (k_31 undef h_96) ⟨⟩ ⟨⟩) (fun t117 h_97 => 
 Join1 (fun k_32 h_98 => guardP t117 true (k_32 t70 h_98) (k_32 undef h_98) ⟨⟩ ⟨⟩) (fun t118 h_99 => 
 Join1 (fun k_33 h_100 => guardP t117 true (k_33 t39 h_100) (k_33 undef h_100) ⟨⟩ ⟨⟩) (fun t119 h_101 => 
 Join1 (fun k_34 h_102 => guardP t117 true (k_34 picks1 h_102) (k_34 undef h_102) ⟨⟩ ⟨⟩) (fun t120 h_103 => 
 Join1 (fun k_35 h_104 => guardP t117 true (CallsH Try.prog 18 #[t119, t120] h_104 k_35 ⟨⟩) (k_35 undef h_104) ⟨⟩ ⟨⟩) (fun t121 h_105 => 
 Join1 (fun k_36 h_106 => guardP t117 true (CallsH Try.prog 17 #[t118, t121] h_106 k_36 ⟨⟩) (k_36 undef h_106) ⟨⟩ ⟨⟩) (fun t122 h_107 => 
 Join1 (fun k_37 h_108 => guardP t117 true (Hp Try.prog false (Op.unary .not t122) k_37 h_108 ⟨⟩) (k_37 undef h_108) ⟨⟩ ⟨⟩) (fun t123 h_109 => 
 Join1 (fun k_38 h_110 => guardP t117 true (k_38 t123 h_110) (k_38 undef h_110) ⟨⟩ ⟨⟩) (fun t124 h_111 => 
 Join1 (fun k_39 h_112 => guardP t124 false (k_39 t71 h_112) (k_39 undef h_112) ⟨⟩ ⟨⟩) (fun t125 h_113 => 
 Join1 (fun k_40 h_114 => guardP t124 false (Hp Try.prog false (binS .neq 31 (.tmp 125) (.const (.int .i64 0)) t125 (.int .i64 0)) k_40 h_114 ⟨⟩) (k_40 undef h_114) ⟨⟩ ⟨⟩) (fun t126 h_115 => 
 Join1 (fun k_41 h_116 => guardP t117 true (Hp Try.prog false (pickS t124 (.bool true) t126) k_41 h_116 ⟨⟩) (k_41 undef h_116) ⟨⟩ ⟨⟩) (fun t127 h_117 => 
 Join1 (fun k_42 h_118 => guardP t113 false (Hp Try.prog false (pickS t117 t127 (.bool false)) k_42 h_118 ⟨⟩) (k_42 undef h_118) ⟨⟩ ⟨⟩) (fun t128 h_119 => 
 Hp Try.prog false (pickS t113 (.bool true) t128) (fun t129 h_120 => 
 CondP t129 (
 R (.bool false) h_120) (
 Hp Try.prog false (binS .gtr 3 (.tmp 130) (.const (.int .i64 62)) t39 (.int .i64 62)) (fun t131 h_121 => 
 CondP t131 (
 Hp Try.prog false (binS .eql 2 (.tmp 132) (.const (.int .i64 0)) t64 (.int .i64 0)) (fun t133 h_122 => 
 Join1 (fun k_43 h_123 => guardP t133 true (k_43 t65 h_123) (k_43 undef h_123) ⟨⟩ ⟨⟩) (fun t135 h_124 => 
 Join1 (fun k_44 h_125 => guardP t133 true (Hp Try.prog false (binS .eql 31 (.tmp 135) (.const (.int .i64 3)) t135 (.int .i64 3)) k_44 h_125 ⟨⟩) (k_44 undef h_125) ⟨⟩ ⟨⟩) (fun t136 h_126 => 
 Hp Try.prog false (pickS t133 t136 (.bool false)) (fun t137 h_127 => 
 Join1 (fun k_45 h_128 => guardP t137 true (k_45 t76 h_128) (k_45 undef h_128) ⟨⟩ ⟨⟩) (fun t139 h_129 => 
 Join1 (fun k_46 h_130 => guardP t137 true (Hp Try.prog false (binS .eql 2 (.tmp 139) (.const (.int .i64 0)) t139 (.int .i64 0)) k_46 h_130 ⟨⟩) (k_46 undef h_130) ⟨⟩ ⟨⟩) (fun t140 h_131 => 
 Hp Try.prog false (pickS t137 t140 (.bool false)) (fun t141 h_132 => 
 Join1 (fun k_47 h_133 => guardP t141 true (k_47 bad10 h_133) (k_47 undef h_133) ⟨⟩ ⟨⟩) (fun t143 h_134 => 
 Join1 (fun k_48 h_135 => guardP t141 true (k_48 t143 h_135) (k_48 undef h_135) ⟨⟩ ⟨⟩) (fun t144 h_136 => 
 Join1 (fun k_49 h_137 => guardP t144 false (k_49 t77 h_137) (k_49 undef h_137) ⟨⟩ ⟨⟩) (fun t145 h_138 => 
 Join1 (fun k_50 h_139 => guardP t144 false (Hp Try.prog false (binS .eql 31 (.tmp 145) (.const (.int .i64 3)) t145 (.int .i64 3)) k_50 h_139 ⟨⟩) (k_50 undef h_139) ⟨⟩ ⟨⟩) (fun t146 h_140 => 
 Join1 (fun k_51 h_141 => guardP t141 true (Hp Try.prog false (pickS t144 (.bool true) t146) k_51 h_141 ⟨⟩) (k_51 undef h_141) ⟨⟩ ⟨⟩) (fun t147 h_142 => 
 Hp Try.prog false (pickS t141 t147 (.bool false)) (fun t148 h_143 => 
 Join1 (fun k_52 h_144 => guardP t148 true (k_52 t82 h_144) (k_52 undef h_144) ⟨⟩ ⟨⟩) (fun t150 h_145 => 
 Join1 (fun k_53 h_146 => guardP t148 true (Hp Try.prog false (Builtin.len_ #[23] 3 #[t150]) k_53 h_146 ⟨⟩) (k_53 undef h_146) ⟨⟩ ⟨⟩) (fun t151 h_147 => 
 Join1 (fun k_54 h_148 => guardP t148 true (Hp Try.prog false (binS .eql 3 (.tmp 151) (.const (.int .i64 0)) t151 (.int .i64 0)) k_54 h_148 ⟨⟩) (k_54 undef h_148) ⟨⟩ ⟨⟩) (fun t152 h_149 => 
 Hp Try.prog false (pickS t148 t152 (.bool false)) (fun t153 h_150 => 
 Join1 (fun k_55 h_151 => guardP t153 true (k_55 t83 h_151) (k_55 undef h_151) ⟨⟩ ⟨⟩) (fun t155 h_152 => 
 Join1 (fun k_56 h_153 => guardP t153 true (Hp Try.prog false (binS .eql 31 (.tmp 155) (.const (.int .i64 3)) t155 (.int .i64 3)) k_56 h_153 ⟨⟩) (k_56 undef h_153) ⟨⟩ ⟨⟩) (fun t156 h_154 => 
 Join1 (fun k_57 h_155 => guardP t153 true (k_57 t156 h_155) (k_57 undef h_155) ⟨⟩ ⟨⟩) (fun t157 h_156 => 
 Join1 (fun k_58 h_157 => guardP t157 false (k_58 n2 h_157) (k_58 undef h_157) ⟨⟩ ⟨⟩) (fun t158 h_158 => 
 Join1 (fun k_59 h_159 => guardP t157 false (Hp Try.prog false (binS .lss 2 (.tmp 158) (.const (.int .i64 0)) t158 (.int .i64 0)) k_59 h_159 ⟨⟩) (k_59 undef h_159) ⟨⟩ ⟨⟩) (fun t159 h_160 => 
 Join1 (fun k_60 h_161 => guardP t157 false (k_60 t159 h_161) (k_60 undef h_161) ⟨⟩ ⟨⟩) (fun t160 h_162 => 
 Join1 (fun k_61 h_163 => guardP t160 true (k_61 t83 h_163) (k_61 undef h_163) ⟨⟩ ⟨⟩) (fun t161 h_164 => 
 Join1 (fun k_62 h_165 => guardP t160 true (Hp Try.prog false (binS .eql 31 (.tmp 161) (.const (.int .i64 2)) t161 (.int .i64 2)) k_62 h_165 ⟨⟩) (k_62 undef h_165) ⟨⟩ ⟨⟩) (fun t162 h_166 => 
 Join1 (fun k_63 h_167 => guardP t157 false (Hp Try.prog false (pickS t160 t162 (.bool false)) k_63 h_167 ⟨⟩) (k_63 undef h_167) ⟨⟩ ⟨⟩) (fun t163 h_168 => 
 Join1 (fun k_64 h_169 => guardP t153 true (Hp Try.prog false (pickS t157 (.bool true) t163) k_64 h_169 ⟨⟩) (k_64 undef h_169) ⟨⟩ ⟨⟩) (fun t164 h_170 => 
 Hp Try.prog false (pickS t153 t164 (.bool false)) (fun t165 h_171 => 
 Join1 (fun k_65 h_172 => guardP t165 true (CallsH Try.prog 10 #[] h_172 k_65 ⟨⟩) (k_65 undef h_172) ⟨⟩ ⟨⟩) (fun t167 h_173 => 
 Hp Try.prog false (pickS t165 t167 (.bool false)) (fun t168 h_174 => 
 R t168 h_174) h_173 ⟨⟩) h_171 ⟨⟩ ⟨⟩) h_170 ⟨⟩) h_168 ⟨⟩ ⟨⟩) h_166 ⟨⟩ ⟨⟩) h_164 ⟨⟩ ⟨⟩) h_162 ⟨⟩ ⟨⟩) h_160 ⟨⟩ ⟨⟩) h_158 ⟨⟩ ⟨⟩) h_156 ⟨⟩ ⟨⟩) h_154 ⟨⟩ ⟨⟩) h_152 ⟨⟩ ⟨⟩) h_150 ⟨⟩ ⟨⟩) h_149 ⟨⟩) h_147 ⟨⟩ ⟨⟩) h_145 ⟨⟩ ⟨⟩) h_143 ⟨⟩ ⟨⟩) h_142 ⟨⟩) h_140 ⟨⟩ ⟨⟩) h_138 ⟨⟩ ⟨⟩) h_136 ⟨⟩ ⟨⟩) h_134 ⟨⟩ ⟨⟩) h_132 ⟨⟩ ⟨⟩) h_131 ⟨⟩) h_129 ⟨⟩ ⟨⟩) h_127 ⟨⟩ ⟨⟩) h_126 ⟨⟩) h_124 ⟨⟩ ⟨⟩) h_122 ⟨⟩ ⟨⟩) h_121 ⟨⟩) (
 Hp Try.prog false (binS .shl 2 (.const (.int .i64 1)) (.tmp 169) (.int .i64 1) t39) (fun t170 h_175 => 
 Hp Try.prog false (binS .neq 2 (.tmp 171) (.tmp 172) t64 t170) (fun t173 h_176 => 
 Join1 (fun k_66 h_177 => guardP t173 false (k_66 t65 h_177) (k_66 undef h_177) ⟨⟩ ⟨⟩) (fun t175 h_178 => 
 Join1 (fun k_67 h_179 => guardP t173 false (Hp Try.prog false (binS .neq 31 (.tmp 175) (.const (.int .i64 0)) t175 (.int .i64 0)) k_67 h_179 ⟨⟩) (k_67 undef h_179) ⟨⟩ ⟨⟩) (fun t176 h_180 => 
 Hp Try.prog false (pickS t173 (.bool true) t176) (fun t177 h_181 => 
 Join1 (fun k_68 h_182 => guardP t177 false (k_68 bad10 h_182) (k_68 undef h_182) ⟨⟩ ⟨⟩) (fun t179 h_183 => 
 Join1 (fun k_69 h_184 => guardP t177 false (Hp Try.prog false (Op.unary .not t179) k_69 h_184 ⟨⟩) (k_69 undef h_184) ⟨⟩ ⟨⟩) (fun t180 h_185 => 
 Join1 (fun k_70 h_186 => guardP t177 false (k_70 t180 h_186) (k_70 undef h_186) ⟨⟩ ⟨⟩) (fun t181 h_187 => 
 Join1 (fun k_71 h_188 => guardP t181 true (k_71 t77 h_188) (k_71 undef h_188) ⟨⟩ ⟨⟩) (fun t182 h_189 => 
 Join1 (fun k_72 h_190 => guardP t181 true (Hp Try.prog false (binS .neq 31 (.tmp 182) (.const (.int .i64 0)) t182 (.int .i64 0)) k_72 h_190 ⟨⟩) (k_72 undef h_190) ⟨⟩ ⟨⟩) (fun t183 h_191 => 
 Join1 (fun k_73 h_192 => guardP t181 true (k_73 t183 h_192) (k_73 undef h_192) ⟨⟩ ⟨⟩) (fun t184 h_193 => 
 Join1 (fun k_74 h_194 => guardP t184 false (k_74 t76 h_194) (k_74 undef h_194) ⟨⟩ ⟨⟩) (fun t185 h_195 => 
 Join1 (fun k_75 h_196 => guardP t184 false (Hp Try.prog false (binS .lss 2 (.tmp 185) (.const (.int .i64 0)) t185 (.int .i64 0)) k_75 h_196 ⟨⟩) (k_75 undef h_196) ⟨⟩ ⟨⟩) (fun t186 h_197 => 
 Join1 (fun k_76 h_198 => guardP t181 true (Hp Try.prog false (pickS t184 (.bool true) t186) k_76 h_198 ⟨⟩) (k_76 undef h_198) ⟨⟩ ⟨⟩) (fun t187 h_199 => 
 Join1 (fun k_77 h_200 => guardP t181 true (k_77 t187 h_200) (k_77 undef h_200) ⟨⟩ ⟨⟩) (fun t188 h_201 => 
 Join1 (fun k_78 h_202 => guardP t188 false (k_78 t76 h_202) (k_78 undef h_202) ⟨⟩ ⟨⟩) (fun t189 h_203 => 
 Join1 (fun k_79 h_204 => guardP t188 false (k_79 t170 h_204) (k_79 undef h_204) ⟨⟩ ⟨⟩) (fun t190 h_205 => 
 Join1 (fun k_80 h_206 => guardP t188 false (Hp Try.prog false (binS .geq 2 (.tmp 189) (.tmp 190) t189 t190) k_80 h_206 ⟨⟩) (k_80 undef h_206) ⟨⟩ ⟨⟩) (fun t191 h_207 => 
 Join1 (fun k_81 h_208 => guardP t181 true (Hp Try.prog false (pickS t188 (.bool true) t191) k_81 h_208 ⟨⟩) (k_81 undef h_208) ⟨⟩ ⟨⟩) (fun t192 h_209 => 
 Join1 (fun k_82 h_210 => guardP t177 false (Hp Try.prog false (pickS t181 t192 (.bool false)) k_82 h_210 ⟨⟩) (k_82 undef h_210) ⟨⟩ ⟨⟩) (fun t193 h_211 => 
 Hp Try.prog false (pickS t177 (.bool true) t193) (fun t194 h_212 => 
 CondP t194 (
 R (.bool false) h_212) (
 Hp Try.prog false (binS .lss 2 (.tmp 195) (.const (.int .i64 0)) n2 (.int .i64 0)) (fun t196 h_213 => 
 Join1 (fun k_83 h_214 => guardP t196 false (k_83 n2 h_214) (k_83 undef h_214) ⟨⟩ ⟨⟩) (fun t198 h_215 => 
 Join1 (fun k_84 h_216 => guardP t196 false (k_84 t170 h_216) (k_84 undef h_216) ⟨⟩ ⟨⟩) (fun t199 h_217 => 
 Join1 (fun k_85 h_218 => guardP t196 false (Hp Try.prog false (binS .geq 2 (.tmp 198) (.tmp 199) t198 t199) k_85 h_218 ⟨⟩) (k_85 undef h_218) ⟨⟩ ⟨⟩) (fun t200 h_219 => 
 Hp Try.prog false (pickS t196 (.bool true) t200) (fun t201 h_220 => 
 CondP t201 (
 JoinN 1 (fun (k_86 : Value → Heap → Prop) h_221 =>
 Hp Try.prog false (binS .lss 2 (.tmp 202) (.const (.int .i64 0)) n2 (.int .i64 0)) (fun t203 h_222 => 
 CondP t203 (
 k_86 (.int .i64 2) h_222) (
 k_86 (.int .i64 4) h_222) ⟨⟩ ⟨⟩) h_221 ⟨⟩)
 (fun want22 h_223 =>
 Hp Try.prog false (Builtin.len_ #[23] 3 #[t82]) (fun t205 h_224 => 
 Hp Try.prog false (binS .eql 3 (.tmp 205) (.const (.int .i64 0)) t205 (.int .i64 0)) (fun t206 h_225 => 
 Join1 (fun k_87 h_226 => guardP t206 true (k_87 t83 h_226) (k_87 undef h_226) ⟨⟩ ⟨⟩) (fun t208 h_227 => 
 Join1 (fun k_88 h_228 => guardP t206 true (k_88 want22 h_228) (k_88 undef h_228) ⟨⟩ ⟨⟩) (fun t209 h_229 => 
 Join1 (fun k_89 h_230 => guardP t206 true (Hp Try.prog false (binS .eql 31 (.tmp 208) (.tmp 209) t208 t209) k_89 h_230 ⟨⟩) (k_89 undef h_230) ⟨⟩ ⟨⟩) (fun t210 h_231 => 
 Hp Try.prog false (pickS t206 t210 (.bool false)) (fun t211 h_232 => 
 Join1 (fun k_90 h_233 => guardP t211 true (CallsH Try.prog 10 #[] h_233 k_90 ⟨⟩) (k_90 undef h_233) ⟨⟩ ⟨⟩) (fun t213 h_234 => 
 Hp Try.prog false (pickS t211 t213 (.bool false)) (fun t214 h_235 => 
 R t214 h_235) h_234 ⟨⟩) h_232 ⟨⟩ ⟨⟩) h_231 ⟨⟩) h_229 ⟨⟩ ⟨⟩) h_227 ⟨⟩ ⟨⟩) h_225 ⟨⟩ ⟨⟩) h_224 ⟨⟩) h_223 ⟨⟩) h_220 ⟨⟩ ⟨⟩) (
 CallsH Try.prog 15 #[t36, t82] h_220 (fun t218 h_236 => 
 Hp Try.prog false (Instr.extract t218 0) (fun t219 h_237 => 
 Hp Try.prog false (Instr.extract t218 1) (fun t220 h_238 => 
 Hp Try.prog false (binS .eql 31 (.tmp 221) (.const (.int .i64 0)) t83 (.int .i64 0)) (fun t222 h_239 => 
 Join1 (fun k_91 h_240 => guardP t222 true (k_91 t82 h_240) (k_91 undef h_240) ⟨⟩ ⟨⟩) (fun t224 h_241 => 
 Join1 (fun k_92 h_242 => guardP t222 true (Hp Try.prog false (Builtin.len_ #[23] 3 #[t224]) k_92 h_242 ⟨⟩) (k_92 undef h_242) ⟨⟩ ⟨⟩) (fun t225 h_243 => 
 Join1 (fun k_93 h_244 => guardP t222 true (k_93 t39 h_244) (k_93 undef h_244) ⟨⟩ ⟨⟩) (fun t226 h_245 => 
 Join1 (fun k_94 h_246 => guardP t222 true (Hp Try.prog false (binS .eql 3 (.tmp 225) (.tmp 226) t225 t226) k_94 h_246 ⟨⟩) (k_94 undef h_246) ⟨⟩ ⟨⟩) (fun t227 h_247 => 
 Hp Try.prog false (pickS t222 t227 (.bool false)) (fun t228 h_248 => 
 Join1 (fun k_95 h_249 => guardP t228 true (k_95 t82 h_249) (k_95 undef h_249) ⟨⟩ ⟨⟩) (fun t230 h_250 => 
 Join1 (fun k_96 h_251 => guardP t228 true (k_96 t39 h_251) (k_96 undef h_251) ⟨⟩ ⟨⟩) (fun t231 h_252 => 
 Join1 (fun k_97 h_253 => guardP t228 true (k_97 t82 h_253) (k_97 undef h_253) ⟨⟩ ⟨⟩) (fun t232 h_254 => 
 Join1 (fun k_98 h_255 => guardP t228 true (CallsH Try.prog 18 #[t231, t232] h_255 k_98 ⟨⟩) (k_98 undef h_255) ⟨⟩ ⟨⟩) (fun t233 h_256 => 
 Join1 (fun k_99 h_257 => guardP t228 true (CallsH Try.prog 17 #[t230, t233] h_257 k_99 ⟨⟩) (k_99 undef h_257) ⟨⟩ ⟨⟩) (fun t234 h_258 => 
 Hp Try.prog false (pickS t228 t234 (.bool false)) (fun t235 h_259 => 
 Join1 (fun k_100 h_260 => guardP t235 true (k_100 t219 h_260) (k_100 undef h_260) ⟨⟩ ⟨⟩) (fun t237 h_261 => 
 Join1 (fun k_101 h_262 => guardP t235 true (k_101 n2 h_262) (k_101 undef h_262) ⟨⟩ ⟨⟩) (fun t238 h_263 => 
 Join1 (fun k_102 h_264 => guardP t235 true (Hp Try.prog false (binS .eql 2 (.tmp 237) (.tmp 238) t237 t238) k_102 h_264 ⟨⟩) (k_102 undef h_264) ⟨⟩ ⟨⟩) (fun t239 h_265 => 
 Hp Try.prog false (pickS t235 t239 (.bool false)) (fun t240 h_266 => 
 Join1 (fun k_103 h_267 => guardP t240 true (k_103 t220 h_267) (k_103 undef h_267) ⟨⟩ ⟨⟩) (fun t242 h_268 => 
 Join1 (fun k_104 h_269 => guardP t240 true (Hp Try.prog false (binS .eql 31 (.tmp 242) (.const (.int .i64 0)) t242 (.int .i64 0)) k_104 h_269 ⟨⟩) (k_104 undef h_269) ⟨⟩ ⟨⟩) (fun t243 h_270 => 
 Hp Try.prog false (pickS t240 t243 (.bool false)) (fun t244 h_271 => 
 Join1 (fun k_105 h_272 => guardP t244 true (CallsH Try.prog 10 #[] h_272 k_105 ⟨⟩) (k_105 undef h_272) ⟨⟩ ⟨⟩) (fun t246 h_273 => 
 Hp Try.prog false (pickS t244 t246 (.bool false)) (fun t247 h_274 => 
 R t247 h_274) h_273 ⟨⟩) h_271 ⟨⟩ ⟨⟩) h_270 ⟨⟩) h_268 ⟨⟩ ⟨⟩) h_266 ⟨⟩ ⟨⟩) h_265 ⟨⟩) h_263 ⟨⟩ ⟨⟩) h_261 ⟨⟩ ⟨⟩) h_259 ⟨⟩ ⟨⟩) h_258 ⟨⟩) h_256 ⟨⟩ ⟨⟩) h_254 ⟨⟩ ⟨⟩) h_252 ⟨⟩ ⟨⟩) h_250 ⟨⟩ ⟨⟩) h_248 ⟨⟩ ⟨⟩) h_247 ⟨⟩) h_245 ⟨⟩ ⟨⟩) h_243 ⟨⟩ ⟨⟩) h_241 ⟨⟩ ⟨⟩) h_239 ⟨⟩ ⟨⟩) h_238 ⟨⟩) h_237 ⟨⟩) h_236 ⟨⟩) ⟨⟩) ⟨⟩ ⟨⟩) h_219 ⟨⟩) h_217 ⟨⟩ ⟨⟩) h_215 ⟨⟩ ⟨⟩) h_213 ⟨⟩ ⟨⟩) h_212 ⟨⟩) ⟨⟩ ⟨⟩) h_211 ⟨⟩) h_209 ⟨⟩ ⟨⟩) h_207 ⟨⟩ ⟨⟩) h_205 ⟨⟩ ⟨⟩) h_203 ⟨⟩ ⟨⟩) h_201 ⟨⟩ ⟨⟩) h_199 ⟨⟩ ⟨⟩) h_197 ⟨⟩ ⟨⟩) h_195 ⟨⟩ ⟨⟩) h_193 ⟨⟩ ⟨⟩) h_191 ⟨⟩ ⟨⟩) h_189 ⟨⟩ ⟨⟩) h_187 ⟨⟩ ⟨⟩) h_185 ⟨⟩ ⟨⟩) h_183 ⟨⟩ ⟨⟩) h_181 ⟨⟩ ⟨⟩) h_180 ⟨⟩) h_178 ⟨⟩ ⟨⟩) h_176 ⟨⟩ ⟨⟩) h_175 ⟨⟩) h_121 ⟨⟩) ⟨⟩ ⟨⟩) h_120 ⟨⟩) ⟨⟩ ⟨⟩) h_119 ⟨⟩) h_117 ⟨⟩ ⟨⟩) h_115 ⟨⟩ ⟨⟩) h_113 ⟨⟩ ⟨⟩) h_111 ⟨⟩ ⟨⟩) h_109 ⟨⟩ ⟨⟩) h_107 ⟨⟩ ⟨⟩) h_105 ⟨⟩ ⟨⟩) h_103 ⟨⟩ ⟨⟩) h_101 ⟨⟩ ⟨⟩) h_99 ⟨⟩ ⟨⟩) h_97 ⟨⟩ ⟨⟩) h_95 ⟨⟩ ⟨⟩) h_93 ⟨⟩ ⟨⟩) h_91 ⟨⟩ ⟨⟩) h_90 ⟨⟩) h_88 ⟨⟩ ⟨⟩) h_86 ⟨⟩ ⟨⟩) h_84 ⟨⟩ ⟨⟩) h_82 ⟨⟩ ⟨⟩) h_80 ⟨⟩ ⟨⟩) h_78 ⟨⟩ ⟨⟩) h_76 ⟨⟩ ⟨⟩) h_74 ⟨⟩ ⟨⟩) h_72 ⟨⟩ ⟨⟩) h_70 ⟨⟩ ⟨⟩) h_68 ⟨⟩ ⟨⟩) ⟨⟩ ⟨⟩) h_67 ⟨⟩) h_65 ⟨⟩ ⟨⟩) h_63 ⟨⟩ ⟨⟩) h_61 ⟨⟩ ⟨⟩) h_59 ⟨⟩ ⟨⟩) h_57 ⟨⟩ ⟨⟩) h_55 ⟨⟩ ⟨⟩) h_53 ⟨⟩ ⟨⟩) h_51 ⟨⟩ ⟨⟩) h_49 ⟨⟩ ⟨⟩) h_47 ⟨⟩ ⟨⟩) h_46 ⟨⟩) ⟨⟩) h_44 ⟨⟩) h_43 ⟨⟩) ⟨⟩) h_41 ⟨⟩) h_40 ⟨⟩) ⟨⟩) h_38 ⟨⟩) h_37 ⟨⟩) ⟨⟩) h_35 ⟨⟩) h_34 ⟨⟩) ⟨⟩) h_32 ⟨⟩) h_31 ⟨⟩) h_30 ⟨⟩) h_29 ⟨⟩) h_16 ⟨⟩) ⟨⟩ ⟨⟩) h_15 ⟨⟩) h_14 ⟨⟩) [(.bool false), (.int .i64 0)] h_13 ⟨⟩) ⟨⟩) h_11 ⟨⟩) h_10 ⟨⟩) ⟨⟩) ⟨⟩ ⟨⟩) h_7 ⟨⟩) h_5 ⟨⟩ ⟨⟩) h_3 ⟨⟩ ⟨⟩) h_1 ⟨⟩ ⟨⟩) ⟨⟩

theorem n3_calls {l0 picks1 n2 : Value} {R : Value → Heap → Prop} {h : Heap} (H : n3 l0 picks1 n2 R h) : CallsH Try.prog 3 #[l0, picks1, n2] h R ⟨⟩ :=
 callsH_of_eq Try.follow (.n none .l (.n none .l (.n none .l (.n none .l (.n none .l (.n none (.n none .l (.n none (.n (some [11, 12]) .l .l) .l)) (.n none .l (.n none .l (.n none .l (.n none .l (.n none .l (.n none .l (.n none .l (.n none .l (.n none .l (.n none .l (.n none (.n none .l (.n none (.n none .l (.n (some [23]) .l .l)) .l)) .l))))))))))))))))) Try.func3 (by kernel_rfl) (by kernel_rfl) (by kernel_rfl) H

/-- palimpsest/palimpsestlaw07.StopsAll -/
def n7 (l0 leave1 : Value) (R : Value → Heap → Prop) (h : Heap) : Prop :=
 Hp Try.prog false (Instr.box 3 leave1) (fun leave3 h_1 => 
 Hp Try.prog false (Instr.alloc 4 true undef) (fun t4 h_2 => 
 CallsH Try.prog 9 #[l0] h_2 (fun t20 h_3 => 
 CondP t20 (
 CallsH Try.prog 10 #[] h_3 (fun t21 h_4 => 
 Hp Try.prog false (storeS 4 t4 t21) (fun _ h_5 => 
 RetD (.tuple #[]) h_5 (fun h_6 =>
 Hp Try.prog true (loadCell 4 t4) (fun r _ =>
 R r h_6) h_6 ⟨⟩) ⟨⟩) h_4 ⟨⟩) ⟨⟩) (
 CallsH Try.prog 11 #[l0] h_3 (fun t24 h_7 => 
 Hp Try.prog false (Instr.extract t24 0) (fun t25 h_8 => 
 Hp Try.prog false (Instr.extract t24 1) (fun t26 h_9 => 
 Hp Try.prog false (Instr.alloc 27 true undef) (fun r6 h_10 => 
 Hp Try.prog false (storeS 27 r6 t26) (fun _ h_11 => 
 Hp Try.prog false (Instr.loadAt 27 r6) (fun t27 h_12 => 
 CallsH Try.prog 12 #[t27] h_12 (fun t28 h_13 => 
 Hp Try.prog false (Instr.alloc 3 true undef) (fun p7 h_14 => 
 Hp Try.prog false (storeS 3 p7 t28) (fun _ h_15 => 
 CallsH Try.prog 31 #[t25] h_15 (fun t30 h_16 => 
 CallsH Try.prog 32 #[t25] h_16 (fun t32 h_17 => 
 Hp Try.prog false (binS .eql 71 (.tmp 33) (.const .nilFunc) t30 .nilFunc) (fun t34 h_18 => 
 Join1 (fun k h_19 => guardP t34 false (k t32 h_19) (k undef h_19) ⟨⟩ ⟨⟩) (fun t36 h_20 => 
 Join1 (fun k_1 h_21 => guardP t34 false (Hp Try.prog false (binS .eql 74 (.tmp 36) (.const .nilFunc) t36 .nilFunc) k_1 h_21 ⟨⟩) (k_1 undef h_21) ⟨⟩ ⟨⟩) (fun t37 h_22 => 
 Hp Try.prog false (pickS t34 (.bool true) t37) (fun t38 h_23 => 
 CondP t38 (
 Hp Try.prog false (storeS 4 t4 (.bool false)) (fun _ h_24 => 
 RetD (.tuple #[]) h_24 (fun h_25 =>
 Hp Try.prog true (loadCell 4 t4) (fun r_1 _ =>
 R r_1 h_25) h_25 ⟨⟩) ⟨⟩) h_23 ⟨⟩) (
 CallsH Try.prog 33 #[t25, (str [122, 122])] h_23 (fun t40 h_26 => 
 Hp Try.prog false (Instr.buildSlice 50 4 #[(0, (.int .u8 109)), (1, (.int .u8 111)), (2, (.int .u8 114)), (3, (.int .u8 101))]) (fun t42 h_27 => 
 Hp Try.prog false (convert 50 50 t42) (fun t43 h_28 => 
 CallsH Try.prog 34 #[t25, (str [122, 122]), (.int .i64 0), t43] h_28 (fun t44 h_29 => 
 JoinN 1 (fun (k_2 : Value → Heap → Prop) h_30 =>
 Hp Try.prog false (Instr.alloc 3 true undef) (fun turn10 h_31 => 
 Hp Try.prog false (storeS 3 turn10 (.int .i64 0)) (fun _ h_32 => 
 JoinN 1 (fun (k_3 : Value → Heap → Prop) h_33 =>
 LoopC 2 (fun (X : Value → Value → Heap → Prop) => fun D turn10_1 h_34 =>
 Hp Try.prog false (Instr.loadAt 3 turn10_1) (fun t45 h_35 => 
 Hp Try.prog false (binS .lss 3 (.tmp 45) (.const (.int .i64 2)) t45 (.int .i64 2)) (fun t46 h_36 => 
 CondP t46 (
 JoinN 1 (fun (k_4 : Value → Heap → Prop) h_37 =>
 JoinN 1 (fun (k_5 : Value → Heap → Prop) h_38 =>
 Hp Try.prog false (Instr.alloc 2 true undef) (fun n11 h_39 => 
 Hp Try.prog false (storeS 2 n11 (.int .i64 0)) (fun _ h_40 => 
 Hp Try.prog false (Instr.alloc 4 true undef) (fun over12 h_41 => 
 Hp Try.prog false (storeS 4 over12 (.bool false)) (fun _ h_42 => 
 JoinN 1 (fun (k_6 : Value → Heap → Prop) h_43 =>
 JoinN 1 (fun (k_7 : Value → Heap → Prop) h_44 =>
 RangeC Try.prog none t30 1 D (fun l args bg Nb Jb h_45 =>
 bg (fun h_46 =>
 Hp Try.prog false (Instr.loadAt 4 over12) (fun t51 h_47 => 
 Join1 (fun k_8 h_48 => guardP t51 false (k_8 (getV args 0) h_48) (k_8 undef h_48) ⟨⟩ ⟨⟩) (fun t53 h_49 => 
 Join1 (fun k_9 h_50 => guardP t51 false (Hp Try.prog false (Instr.loadAt 3 p7) k_9 h_50 ⟨⟩) (k_9 undef h_50) ⟨⟩ ⟨⟩) (fun t54 h_51 => 
 Join1 (fun k_10 h_52 => guardP t51 false (Hp Try.prog false (Instr.loadAt 2 n11) k_10 h_52 ⟨⟩) (k_10 undef h_52) ⟨⟩ ⟨⟩) (fun t55 h_53 => 
 Join1 (fun k_11 h_54 => guardP t51 false (CallsH Try.prog 35 #[t54, t55] h_54 k_11 ⟨⟩) (k_11 undef h_54) ⟨⟩ ⟨⟩) (fun t56 h_55 => 
 Join1 (fun k_12 h_56 => guardP t51 false (CallsH Try.prog 17 #[t53, t56] h_56 k_12 ⟨⟩) (k_12 undef h_56) ⟨⟩ ⟨⟩) (fun t57 h_57 => 
 Join1 (fun k_13 h_58 => guardP t51 false (Hp Try.prog false (Op.unary .not t57) k_13 h_58 ⟨⟩) (k_13 undef h_58) ⟨⟩ ⟨⟩) (fun t58 h_59 => 
 Hp Try.prog false (pickS t51 (.bool true) t58) (fun t59 h_60 => 
 CondP t59 (
 Hp Try.prog false (storeS 4 t4 (.bool false)) (fun _ h_61 => 
 Jb .ret h_61) h_60 ⟨⟩) (
 LoopC 1 (fun (X_1 : Value → Heap → Prop) => fun i14 h_62 =>
 Hp Try.prog false (Builtin.len_ #[23] 3 #[(getV args 0)]) (fun t62 h_63 => 
 Hp Try.prog false (binS .lss 3 (.tmp 60) (.tmp 62) i14 t62) (fun t63 h_64 => 
 CondP t63 (
 Hp Try.prog false (Instr.indexAt 23 (getV args 0) i14) (fun t68 h_65 => 
 Hp Try.prog false (storeS 3 t68 (.int .i64 9)) (fun _ h_66 => 
 Hp Try.prog false (binS .add 3 (.tmp 64) (.const (.int .i64 1)) i14 (.int .i64 1)) (fun t65 h_67 => 
 X_1 t65 h_67) h_66 ⟨⟩) h_65 ⟨⟩) h_64 ⟨⟩) (
 Hp Try.prog false (Instr.loadAt 2 n11) (fun t69 h_68 => 
 Hp Try.prog false (binS .add 2 (.tmp 69) (.const (.int .i64 1)) t69 (.int .i64 1)) (fun t70 h_69 => 
 Hp Try.prog false (storeS 2 n11 t70) (fun _ h_70 => 
 Hp Try.prog true (Instr.loadAt 3 p7) (fun t71 _ => 
 Hp Try.prog true (binS .lss 3 (.tmp 71) (.const (.int .i64 62)) t71 (.int .i64 62)) (fun t72 _ => 
 Join1 (fun k_14 h_71 => guardP t72 true (Hp Try.prog true (Instr.loadAt 2 n11) k_14 h_71 ⟨⟩) (k_14 undef h_71) ⟨⟩ ⟨⟩) (fun t74 _ => 
 Join1 (fun k_15 h_72 => guardP t72 true (Hp Try.prog true (Instr.loadAt 3 p7) k_15 h_72 ⟨⟩) (k_15 undef h_72) ⟨⟩ ⟨⟩) (fun t75 _ => 
 Join1 (fun k_16 h_73 => guardP t72 true (Hp Try.prog true (binS .shl 2 (.const (.int .i64 1)) (.tmp 75) (.int .i64 1) t75) k_16 h_73 ⟨⟩) (k_16 undef h_73) ⟨⟩ ⟨⟩) (fun t76 _ => 
 Join1 (fun k_17 h_74 => guardP t72 true (Hp Try.prog true (binS .eql 2 (.tmp 74) (.tmp 76) t74 t76) k_17 h_74 ⟨⟩) (k_17 undef h_74) ⟨⟩ ⟨⟩) (fun t77 _ => 
 Hp Try.prog true (pickS t72 t77 (.bool false)) (fun t78 _ => 
 Hp Try.prog false (storeS 4 over12 t78) (fun _ h_75 => 
 Hp Try.prog false (Instr.loadAt 2 n11) (fun t79 h_76 => 
 Hp Try.prog false (binS .eql 2 (.tmp 79) (.const (.int .i64 200)) t79 (.int .i64 200)) (fun t80 h_77 => 
 Join1 (fun k_18 h_78 => guardP t80 false (Hp Try.prog false (Instr.loadAt 3 turn10_1) k_18 h_78 ⟨⟩) (k_18 undef h_78) ⟨⟩ ⟨⟩) (fun t82 h_79 => 
 Join1 (fun k_19 h_80 => guardP t80 false (Hp Try.prog false (binS .eql 3 (.tmp 82) (.const (.int .i64 0)) t82 (.int .i64 0)) k_19 h_80 ⟨⟩) (k_19 undef h_80) ⟨⟩ ⟨⟩) (fun t83 h_81 => 
 Join1 (fun k_20 h_82 => guardP t80 false (k_20 t83 h_82) (k_20 undef h_82) ⟨⟩ ⟨⟩) (fun t84 h_83 => 
 Join1 (fun k_21 h_84 => guardP t84 true (Hp Try.prog false (Instr.loadAt 2 n11) k_21 h_84 ⟨⟩) (k_21 undef h_84) ⟨⟩ ⟨⟩) (fun t85 h_85 => 
 Join1 (fun k_22 h_86 => guardP t84 true (Hp Try.prog false (Instr.loadAt 3 leave3) k_22 h_86 ⟨⟩) (k_22 undef h_86) ⟨⟩ ⟨⟩) (fun t86 h_87 => 
 Join1 (fun k_23 h_88 => guardP t84 true (Hp Try.prog false (binS .eql 2 (.tmp 85) (.tmp 86) t85 t86) k_23 h_88 ⟨⟩) (k_23 undef h_88) ⟨⟩ ⟨⟩) (fun t87 h_89 => 
 Join1 (fun k_24 h_90 => guardP t80 false (Hp Try.prog false (pickS t84 t87 (.bool false)) k_24 h_90 ⟨⟩) (k_24 undef h_90) ⟨⟩ ⟨⟩) (fun t88 h_91 => 
 Hp Try.prog false (pickS t80 (.bool true) t88) (fun t89 h_92 => 
 CondP t89 (
 Jb (.exit 2) h_92) (
 Nb h_92) ⟨⟩ ⟨⟩) h_91 ⟨⟩) h_89 ⟨⟩ ⟨⟩) h_87 ⟨⟩ ⟨⟩) h_85 ⟨⟩ ⟨⟩) h_83 ⟨⟩ ⟨⟩) h_81 ⟨⟩ ⟨⟩) h_79 ⟨⟩ ⟨⟩) h_77 ⟨⟩ ⟨⟩) h_76 ⟨⟩) h_75 ⟨⟩) h_70 ⟨⟩) #[] ⟨⟩) #[] ⟨⟩ ⟨⟩) #[] ⟨⟩ ⟨⟩) h_70 ⟨⟩ ⟨⟩) h_70 ⟨⟩ ⟨⟩) #[] ⟨⟩) h_70 ⟨⟩) h_69 ⟨⟩) h_68 ⟨⟩) h_64 ⟨⟩) ⟨⟩ ⟨⟩) h_63 ⟨⟩) h_62 ⟨⟩) [(.int .i64 0)] h_60 ⟨⟩) ⟨⟩ ⟨⟩) h_59 ⟨⟩) h_57 ⟨⟩ ⟨⟩) h_55 ⟨⟩ ⟨⟩) h_53 ⟨⟩ ⟨⟩) h_51 ⟨⟩ ⟨⟩) h_49 ⟨⟩ ⟨⟩) h_47 ⟨⟩ ⟨⟩) h_46 ⟨⟩) h_45)
 (fun D_1 h_93 =>
 k_7 D_1 h_93)
 (fun D_2 h_94 =>
 RetD D_2 h_94 (fun h_95 =>
 Hp Try.prog true (loadCell 4 t4) (fun r_2 _ =>
 R r_2 h_95) h_95 ⟨⟩) ⟨⟩)
 (fun id D_3 h_96 => bif Nat.beq id 2 then (k_7 D_3 h_96) else bif Nat.beq id 1 then (k_5 D_3 h_96) else bif Nat.beq id 0 then (k_3 D_3 h_96) else False) h_44 ⟨⟩ ⟨⟩ ⟨⟩ ⟨⟩)
 (fun D_4 h_97 =>
 k_6 D_4 h_97) h_43 ⟨⟩ ⟨⟩)
 (fun D_5 h_98 =>
 Hp Try.prog false (Instr.loadAt 4 over12) (fun t90 h_99 => 
 Hp Try.prog false (Op.unary .not t90) (fun t91 h_100 => 
 Join1 (fun k_25 h_101 => guardP t91 true (Hp Try.prog false (Instr.loadAt 2 n11) k_25 h_101 ⟨⟩) (k_25 undef h_101) ⟨⟩ ⟨⟩) (fun t93 h_102 => 
 Join1 (fun k_26 h_103 => guardP t91 true (Hp Try.prog false (binS .neq 2 (.tmp 93) (.const (.int .i64 200)) t93 (.int .i64 200)) k_26 h_103 ⟨⟩) (k_26 undef h_103) ⟨⟩ ⟨⟩) (fun t94 h_104 => 
 Hp Try.prog false (pickS t91 t94 (.bool false)) (fun t95 h_105 => 
 Join1 (fun k_27 h_106 => guardP t95 true (Hp Try.prog false (Instr.loadAt 3 turn10_1) k_27 h_106 ⟨⟩) (k_27 undef h_106) ⟨⟩ ⟨⟩) (fun t97 h_107 => 
 Join1 (fun k_28 h_108 => guardP t95 true (Hp Try.prog false (binS .eql 3 (.tmp 97) (.const (.int .i64 1)) t97 (.int .i64 1)) k_28 h_108 ⟨⟩) (k_28 undef h_108) ⟨⟩ ⟨⟩) (fun t98 h_109 => 
 Join1 (fun k_29 h_110 => guardP t95 true (k_29 t98 h_110) (k_29 undef h_110) ⟨⟩ ⟨⟩) (fun t99 h_111 => 
 Join1 (fun k_30 h_112 => guardP t99 false (Hp Try.prog false (Instr.loadAt 2 n11) k_30 h_112 ⟨⟩) (k_30 undef h_112) ⟨⟩ ⟨⟩) (fun t100 h_113 => 
 Join1 (fun k_31 h_114 => guardP t99 false (Hp Try.prog false (Instr.loadAt 3 leave3) k_31 h_114 ⟨⟩) (k_31 undef h_114) ⟨⟩ ⟨⟩) (fun t101 h_115 => 
 Join1 (fun k_32 h_116 => guardP t99 false (Hp Try.prog false (binS .neq 2 (.tmp 100) (.tmp 101) t100 t101) k_32 h_116 ⟨⟩) (k_32 undef h_116) ⟨⟩ ⟨⟩) (fun t102 h_117 => 
 Join1 (fun k_33 h_118 => guardP t95 true (Hp Try.prog false (pickS t99 (.bool true) t102) k_33 h_118 ⟨⟩) (k_33 undef h_118) ⟨⟩ ⟨⟩) (fun t103 h_119 => 
 Hp Try.prog false (pickS t95 t103 (.bool false)) (fun t104 h_120 => 
 CondP t104 (
 Hp Try.prog false (storeS 4 t4 (.bool false)) (fun _ h_121 => 
 RetD D_5 h_121 (fun h_122 =>
 Hp Try.prog true (loadCell 4 t4) (fun r_3 _ =>
 R r_3 h_122) h_122 ⟨⟩) ⟨⟩) h_120 ⟨⟩) (
 Hp Try.prog false (storeS 2 n11 (.int .i64 0)) (fun _ h_123 => 
 Hp Try.prog false (storeS 4 over12 (.bool false)) (fun _ h_124 => 
 JoinN 1 (fun (k_34 : Value → Heap → Prop) h_125 =>
 RangeC Try.prog none t32 2 D_5 (fun l_1 args_1 bg_1 Nb_1 Jb_1 h_126 =>
 bg_1 (fun h_127 =>
 Hp Try.prog true (Instr.loadAt 27 r6) (fun t109 _ => 
 Hp Try.prog true (Instr.loadAt 3 p7) (fun t110 _ => 
 Hp Try.prog true (Instr.loadAt 2 n11) (fun t111 _ => 
 CallsH Try.prog 35 #[t110, t111] h_127 (fun t112 h_128 => Hp Try.prog true (Instr.loadAt 27 r6) (fun u _ => u = t109) h_128 ⟨⟩ ∧ 
 CallsH Try.prog 36 #[t109, t112] h_128 (fun t113 h_129 => 
 Hp Try.prog true (Instr.extract t113 0) (fun t114 _ => 
 Hp Try.prog true (Instr.extract t113 1) (fun t115 _ => 
 Hp Try.prog false (Instr.loadAt 4 over12) (fun t116 h_130 => 
 Join1 (fun k_35 h_131 => guardP t116 false (k_35 (getV args_1 0) h_131) (k_35 undef h_131) ⟨⟩ ⟨⟩) (fun t118 h_132 => 
 Join1 (fun k_36 h_133 => guardP t116 false (Hp Try.prog false (Instr.loadAt 2 n11) k_36 h_133 ⟨⟩) (k_36 undef h_133) ⟨⟩ ⟨⟩) (fun t119 h_134 => 
 Join1 (fun k_37 h_135 => guardP t116 false (Hp Try.prog false (binS .neq 2 (.tmp 118) (.tmp 119) t118 t119) k_37 h_135 ⟨⟩) (k_37 undef h_135) ⟨⟩ ⟨⟩) (fun t120 h_136 => 
 Hp Try.prog false (pickS t116 (.bool true) t120) (fun t121 h_137 => 
 Join1 (fun k_38 h_138 => guardP t121 false (k_38 (getV args_1 1) h_138) (k_38 undef h_138) ⟨⟩ ⟨⟩) (fun t123 h_139 => 
 Join1 (fun k_39 h_140 => guardP t121 false (k_39 t114 h_140) (k_39 undef h_140) ⟨⟩ ⟨⟩) (fun t124 h_141 => 
 Join1 (fun k_40 h_142 => guardP t121 false (CallsH Try.prog 37 #[t123, t124] h_142 k_40 ⟨⟩) (k_40 undef h_142) ⟨⟩ ⟨⟩) (fun t125 h_143 => 
 Join1 (fun k_41 h_144 => guardP t121 false (Hp Try.prog false (Op.unary .not t125) k_41 h_144 ⟨⟩) (k_41 undef h_144) ⟨⟩ ⟨⟩) (fun t126 h_145 => 
 Hp Try.prog false (pickS t121 (.bool true) t126) (fun t127 h_146 => 
 CondP t127 (
 Hp Try.prog false (storeS 4 t4 (.bool false)) (fun _ h_147 => 
 Jb_1 .ret h_147) h_146 ⟨⟩) (
 Hp Try.prog false (Instr.loadAt 2 n11) (fun t128 h_148 => 
 Hp Try.prog false (binS .add 2 (.tmp 128) (.const (.int .i64 1)) t128 (.int .i64 1)) (fun t129 h_149 => 
 Hp Try.prog false (storeS 2 n11 t129) (fun _ h_150 => 
 Hp Try.prog true (Instr.loadAt 3 p7) (fun t130 _ => 
 Hp Try.prog true (binS .lss 3 (.tmp 130) (.const (.int .i64 62)) t130 (.int .i64 62)) (fun t131 _ => 
 Join1 (fun k_42 h_151 => guardP t131 true (Hp Try.prog true (Instr.loadAt 2 n11) k_42 h_151 ⟨⟩) (k_42 undef h_151) ⟨⟩ ⟨⟩) (fun t133 _ => 
 Join1 (fun k_43 h_152 => guardP t131 true (Hp Try.prog true (Instr.loadAt 3 p7) k_43 h_152 ⟨⟩) (k_43 undef h_152) ⟨⟩ ⟨⟩) (fun t134 _ => 
 Join1 (fun k_44 h_153 => guardP t131 true (Hp Try.prog true (binS .shl 2 (.const (.int .i64 1)) (.tmp 134) (.int .i64 1) t134) k_44 h_153 ⟨⟩) (k_44 undef h_153) ⟨⟩ ⟨⟩) (fun t135 _ => 
 Join1 (fun k_45 h_154 => guardP t131 true (Hp Try.prog true (binS .eql 2 (.tmp 133) (.tmp 135) t133 t135) k_45 h_154 ⟨⟩) (k_45 undef h_154) ⟨⟩ ⟨⟩) (fun t136 _ => 
 Hp Try.prog true (pickS t131 t136 (.bool false)) (fun t137 _ => 
 Hp Try.prog false (storeS 4 over12 t137) (fun _ h_155 => 
 Hp Try.prog false (Instr.loadAt 2 n11) (fun t138 h_156 => 
 Hp Try.prog false (binS .eql 2 (.tmp 138) (.const (.int .i64 60)) t138 (.int .i64 60)) (fun t139 h_157 => 
 Join1 (fun k_46 h_158 => guardP t139 false (Hp Try.prog false (Instr.loadAt 3 turn10_1) k_46 h_158 ⟨⟩) (k_46 undef h_158) ⟨⟩ ⟨⟩) (fun t141 h_159 => 
 Join1 (fun k_47 h_160 => guardP t139 false (Hp Try.prog false (binS .eql 3 (.tmp 141) (.const (.int .i64 0)) t141 (.int .i64 0)) k_47 h_160 ⟨⟩) (k_47 undef h_160) ⟨⟩ ⟨⟩) (fun t142 h_161 => 
 Join1 (fun k_48 h_162 => guardP t139 false (k_48 t142 h_162) (k_48 undef h_162) ⟨⟩ ⟨⟩) (fun t143 h_163 => 
 Join1 (fun k_49 h_164 => guardP t143 true (Hp Try.prog false (Instr.loadAt 2 n11) k_49 h_164 ⟨⟩) (k_49 undef h_164) ⟨⟩ ⟨⟩) (fun t144 h_165 => 
 Join1 (fun k_50 h_166 => guardP t143 true (Hp Try.prog false (Instr.loadAt 3 leave3) k_50 h_166 ⟨⟩) (k_50 undef h_166) ⟨⟩ ⟨⟩) (fun t145 h_167 => 
 Join1 (fun k_51 h_168 => guardP t143 true (Hp Try.prog false (binS .eql 2 (.tmp 144) (.tmp 145) t144 t145) k_51 h_168 ⟨⟩) (k_51 undef h_168) ⟨⟩ ⟨⟩) (fun t146 h_169 => 
 Join1 (fun k_52 h_170 => guardP t139 false (Hp Try.prog false (pickS t143 t146 (.bool false)) k_52 h_170 ⟨⟩) (k_52 undef h_170) ⟨⟩ ⟨⟩) (fun t147 h_171 => 
 Hp Try.prog false (pickS t139 (.bool true) t147) (fun t148 h_172 => 
 CondP t148 (
 Jb_1 (.exit 6) h_172) (
 Nb_1 h_172) ⟨⟩ ⟨⟩) h_171 ⟨⟩) h_169 ⟨⟩ ⟨⟩) h_167 ⟨⟩ ⟨⟩) h_165 ⟨⟩ ⟨⟩) h_163 ⟨⟩ ⟨⟩) h_161 ⟨⟩ ⟨⟩) h_159 ⟨⟩ ⟨⟩) h_157 ⟨⟩ ⟨⟩) h_156 ⟨⟩) h_155 ⟨⟩) h_150 ⟨⟩) #[] ⟨⟩) #[] ⟨⟩ ⟨⟩) #[] ⟨⟩ ⟨⟩) h_150 ⟨⟩ ⟨⟩) h_150 ⟨⟩ ⟨⟩) #[] ⟨⟩) h_150 ⟨⟩) h_149 ⟨⟩) h_148 ⟨⟩) h_146 ⟨⟩) ⟨⟩ ⟨⟩) h_145 ⟨⟩) h_143 ⟨⟩ ⟨⟩) h_141 ⟨⟩ ⟨⟩) h_139 ⟨⟩ ⟨⟩) h_137 ⟨⟩ ⟨⟩) h_136 ⟨⟩) h_134 ⟨⟩ ⟨⟩) h_132 ⟨⟩ ⟨⟩) h_130 ⟨⟩ ⟨⟩) h_129 ⟨⟩) #[] ⟨⟩) #[] ⟨⟩) ⟨⟩) ⟨⟩) h_127 ⟨⟩) h_127 ⟨⟩) h_127 ⟨⟩) h_126)
 (fun D_6 h_173 =>
 k_34 D_6 h_173)
 (fun D_7 h_174 =>
 RetD D_7 h_174 (fun h_175 =>
 Hp Try.prog true (loadCell 4 t4) (fun r_4 _ =>
 R r_4 h_175) h_175 ⟨⟩) ⟨⟩)
 (fun id_1 D_8 h_176 => bif Nat.beq id_1 6 then (k_34 D_8 h_176) else bif Nat.beq id_1 1 then (k_5 D_8 h_176) else bif Nat.beq id_1 0 then (k_3 D_8 h_176) else False) h_125 ⟨⟩ ⟨⟩ ⟨⟩ ⟨⟩)
 (fun D_9 h_177 =>
 k_5 D_9 h_177) h_124 ⟨⟩ ⟨⟩) h_123 ⟨⟩) h_120 ⟨⟩) ⟨⟩ ⟨⟩) h_119 ⟨⟩) h_117 ⟨⟩ ⟨⟩) h_115 ⟨⟩ ⟨⟩) h_113 ⟨⟩ ⟨⟩) h_111 ⟨⟩ ⟨⟩) h_109 ⟨⟩ ⟨⟩) h_107 ⟨⟩ ⟨⟩) h_105 ⟨⟩ ⟨⟩) h_104 ⟨⟩) h_102 ⟨⟩ ⟨⟩) h_100 ⟨⟩ ⟨⟩) h_99 ⟨⟩) h_98 ⟨⟩) h_42 ⟨⟩ ⟨⟩) h_41 ⟨⟩) h_40 ⟨⟩) h_39 ⟨⟩) h_38 ⟨⟩)
 (fun D_10 h_178 =>
 k_4 D_10 h_178) h_37 ⟨⟩ ⟨⟩)
 (fun D_11 h_179 =>
 Hp Try.prog false (Instr.loadAt 3 turn10_1) (fun t149 h_180 => 
 Hp Try.prog false (Instr.alloc 3 true undef) (fun turn10_2 h_181 => 
 Hp Try.prog false (storeS 3 turn10_2 t149) (fun _ h_182 => 
 Hp Try.prog false (Instr.loadAt 3 turn10_2) (fun t47 h_183 => 
 Hp Try.prog false (binS .add 3 (.tmp 47) (.const (.int .i64 1)) t47 (.int .i64 1)) (fun t48 h_184 => 
 Hp Try.prog false (storeS 3 turn10_2 t48) (fun _ h_185 => 
 X D_11 turn10_2 h_185) h_184 ⟨⟩) h_183 ⟨⟩) h_182 ⟨⟩) h_181 ⟨⟩) h_180 ⟨⟩) h_179 ⟨⟩) h_36 ⟨⟩ ⟨⟩) (
 k_3 D h_36) ⟨⟩ ⟨⟩) h_35 ⟨⟩) h_34 ⟨⟩) [(.tuple #[]), turn10] h_33 ⟨⟩)
 (fun D_12 h_186 =>
 k_2 D_12 h_186) h_32 ⟨⟩ ⟨⟩) h_31 ⟨⟩) h_30 ⟨⟩)
 (fun D_13 h_187 =>
 CallsH Try.prog 10 #[] h_187 (fun t150 h_188 => 
 Hp Try.prog false (storeS 4 t4 t150) (fun _ h_189 => 
 RetD D_13 h_189 (fun h_190 =>
 Hp Try.prog true (loadCell 4 t4) (fun r_5 _ =>
 R r_5 h_190) h_190 ⟨⟩) ⟨⟩) h_188 ⟨⟩) ⟨⟩) h_29 ⟨⟩ ⟨⟩) ⟨⟩) h_27 ⟨⟩) h_26 ⟨⟩) ⟨⟩) ⟨⟩ ⟨⟩) h_22 ⟨⟩) h_20 ⟨⟩ ⟨⟩) h_18 ⟨⟩ ⟨⟩) h_17 ⟨⟩) ⟨⟩) ⟨⟩) h_14 ⟨⟩) h_13 ⟨⟩) ⟨⟩) h_11 ⟨⟩) h_10 ⟨⟩) h_9 ⟨⟩) h_8 ⟨⟩) h_7 ⟨⟩) ⟨⟩) ⟨⟩ ⟨⟩) ⟨⟩) h_1 ⟨⟩) h ⟨⟩

theorem n7_calls {l0 leave1 : Value} {R : Value → Heap → Prop} {h : Heap} (H : n7 l0 leave1 R h) : CallsH Try.prog 7 #[l0, leave1] h R ⟨⟩ :=
 callsH_of_eq Try.follow (.n none .l (.n none .l (.n none .l (.n none .l (.n none .l (.n none .l (.n none .l (.n none .l (.n (some [0]) (.n none .l (.n (some [0]) (.n (some [0, 11]) (.n none .l (.n (some [0]) (.n (some [0]) (.n none .l (.n none .l (.n (some [0]) (.n none .l (.n (some [0]) (.n none .l (.n none (.n none .l (.n none (.n none .l (.n none (.n (some [15]) .l .l) .l)) .l)) .l)) .l)) (.n none .l (.n none .l (.n none .l (.n none .l (.n (some [0]) .l .l)))))))) .l) .l)) .l) .l)) .l))))))))) Try.func7 (by kernel_rfl) (by kernel_rfl) (by kernel_rfl) H

/-- palimpsest/palimpsestlaw07.StopsSome -/
def n8 (l0 seed1 n2 : Value) (R : Value → Heap → Prop) (h : Heap) : Prop :=
 Hp Try.prog false (Instr.alloc 4 true undef) (fun t6 h_1 => 
 CallsH Try.prog 9 #[l0] h_1 (fun t26 h_2 => 
 Join1 (fun k h_3 => guardP t26 false (k n2 h_3) (k undef h_3) ⟨⟩ ⟨⟩) (fun t28 h_4 => 
 Join1 (fun k_1 h_5 => guardP t26 false (Hp Try.prog false (binS .gtr 3 (.tmp 28) (.const (.int .i64 300)) t28 (.int .i64 300)) k_1 h_5 ⟨⟩) (k_1 undef h_5) ⟨⟩ ⟨⟩) (fun t29 h_6 => 
 Join1 (fun k_2 h_7 => guardP t26 false (k_2 t29 h_7) (k_2 undef h_7) ⟨⟩ ⟨⟩) (fun t30 h_8 => 
 Join1 (fun k_3 h_9 => guardP t30 true (k_3 n2 h_9) (k_3 undef h_9) ⟨⟩ ⟨⟩) (fun t31 h_10 => 
 Join1 (fun k_4 h_11 => guardP t30 true (Hp Try.prog false (binS .leq 3 (.tmp 31) (.const (.int .i64 1000)) t31 (.int .i64 1000)) k_4 h_11 ⟨⟩) (k_4 undef h_11) ⟨⟩ ⟨⟩) (fun t32 h_12 => 
 Join1 (fun k_5 h_13 => guardP t26 false (Hp Try.prog false (pickS t30 t32 (.bool false)) k_5 h_13 ⟨⟩) (k_5 undef h_13) ⟨⟩ ⟨⟩) (fun t33 h_14 => 
 Hp Try.prog false (pickS t26 (.bool true) t33) (fun t34 h_15 => 
 CondP t34 (
 CallsH Try.prog 10 #[] h_15 (fun t35 h_16 => 
 Hp Try.prog false (storeS 4 t6 t35) (fun _ h_17 => 
 RetD (.tuple #[]) h_17 (fun h_18 =>
 Hp Try.prog true (loadCell 4 t6) (fun r _ =>
 R r h_18) h_18 ⟨⟩) ⟨⟩) h_16 ⟨⟩) ⟨⟩) (
 CallsH Try.prog 11 #[l0] h_15 (fun t38 h_19 => 
 Hp Try.prog false (Instr.extract t38 0) (fun t39 h_20 => 
 Hp Try.prog false (Instr.extract t38 1) (fun t40 h_21 => 
 CallsH Try.prog 12 #[t40] h_21 (fun t42 h_22 => 
 CallsH Try.prog 38 #[t39, seed1, n2] h_22 (fun t47 h_23 => 
 Hp Try.prog false (Instr.extract t47 0) (fun t48 h_24 => 
 Hp Try.prog false (Instr.extract t47 1) (fun t49 h_25 => 
 CallsH Try.prog 38 #[(.pointer none), seed1, n2] h_25 (fun t54 h_26 => 
 Hp Try.prog false (Instr.extract t54 0) (fun t55 h_27 => 
 Hp Try.prog false (Instr.extract t54 1) (fun t56 h_28 => 
 CallsH Try.prog 13 #[(.pointer none)] h_28 (fun t59 h_29 => 
 Hp Try.prog false (Instr.extract t59 0) (fun t60 h_30 => 
 Hp Try.prog false (Instr.extract t59 1) (fun t61 h_31 => 
 Hp Try.prog false (Instr.build 68 #[]) (fun t63 h_32 => 
 Hp Try.prog false (Instr.box 68 t63) (fun t64 h_33 => 
 CallsH Try.prog 14 #[t64, (.slice none 0 0)] h_33 (fun t65 h_34 => 
 Hp Try.prog false (Instr.extract t65 0) (fun t66 h_35 => 
 Hp Try.prog false (Instr.extract t65 1) (fun t67 h_36 => 
 CallsH Try.prog 31 #[(.pointer none)] h_36 (fun t69 h_37 => 
 CallsH Try.prog 32 #[(.pointer none)] h_37 (fun t71 h_38 => 
 Hp Try.prog false (binS .neq 31 (.tmp 72) (.const (.int .i64 1)) t56 (.int .i64 1)) (fun t73 h_39 => 
 Join1 (fun k_6 h_40 => guardP t73 false (k_6 t61 h_40) (k_6 undef h_40) ⟨⟩ ⟨⟩) (fun t75 h_41 => 
 Join1 (fun k_7 h_42 => guardP t73 false (Hp Try.prog false (binS .neq 31 (.tmp 75) (.const (.int .i64 1)) t75 (.int .i64 1)) k_7 h_42 ⟨⟩) (k_7 undef h_42) ⟨⟩ ⟨⟩) (fun t76 h_43 => 
 Hp Try.prog false (pickS t73 (.bool true) t76) (fun t77 h_44 => 
 Join1 (fun k_8 h_45 => guardP t77 false (k_8 t67 h_45) (k_8 undef h_45) ⟨⟩ ⟨⟩) (fun t79 h_46 => 
 Join1 (fun k_9 h_47 => guardP t77 false (Hp Try.prog false (binS .neq 31 (.tmp 79) (.const (.int .i64 1)) t79 (.int .i64 1)) k_9 h_47 ⟨⟩) (k_9 undef h_47) ⟨⟩ ⟨⟩) (fun t80 h_48 => 
 Hp Try.prog false (pickS t77 (.bool true) t80) (fun t81 h_49 => 
 Join1 (fun k_10 h_50 => guardP t81 false (k_10 t69 h_50) (k_10 undef h_50) ⟨⟩ ⟨⟩) (fun t83 h_51 => 
 Join1 (fun k_11 h_52 => guardP t81 false (Hp Try.prog false (binS .eql 71 (.tmp 83) (.const .nilFunc) t83 .nilFunc) k_11 h_52 ⟨⟩) (k_11 undef h_52) ⟨⟩ ⟨⟩) (fun t84 h_53 => 
 Hp Try.prog false (pickS t81 (.bool true) t84) (fun t85 h_54 => 
 Join1 (fun k_12 h_55 => guardP t85 false (k_12 t71 h_55) (k_12 undef h_55) ⟨⟩ ⟨⟩) (fun t87 h_56 => 
 Join1 (fun k_13 h_57 => guardP t85 false (Hp Try.prog false (binS .eql 74 (.tmp 87) (.const .nilFunc) t87 .nilFunc) k_13 h_57 ⟨⟩) (k_13 undef h_57) ⟨⟩ ⟨⟩) (fun t88 h_58 => 
 Hp Try.prog false (pickS t85 (.bool true) t88) (fun t89 h_59 => 
 CondP t89 (
 Hp Try.prog false (storeS 4 t6 (.bool false)) (fun _ h_60 => 
 RetD (.tuple #[]) h_60 (fun h_61 =>
 Hp Try.prog true (loadCell 4 t6) (fun r_1 _ =>
 R r_1 h_61) h_61 ⟨⟩) ⟨⟩) h_59 ⟨⟩) (
 JoinN 1 (fun (k_14 : Value → Heap → Prop) h_62 =>
 JoinN 1 (fun (k_15 : Value → Heap → Prop) h_63 =>
 RangeC Try.prog none t69 1 (.tuple #[]) (fun l args bg Nb Jb h_64 =>
 bg (fun h_65 =>
 Hp Try.prog false (storeS 4 t6 (.bool false)) (fun _ h_66 => 
 Jb .ret h_66) h_65 ⟨⟩) h_64)
 (fun D h_67 =>
 k_15 D h_67)
 (fun D_1 h_68 =>
 RetD D_1 h_68 (fun h_69 =>
 Hp Try.prog true (loadCell 4 t6) (fun r_2 _ =>
 R r_2 h_69) h_69 ⟨⟩) ⟨⟩)
 (fun id D_2 h_70 => bif Nat.beq id 0 then (k_15 D_2 h_70) else False) h_63 ⟨⟩ ⟨⟩ ⟨⟩ ⟨⟩)
 (fun D_3 h_71 =>
 k_14 D_3 h_71) h_62 ⟨⟩ ⟨⟩)
 (fun D_4 h_72 =>
 JoinN 1 (fun (k_16 : Value → Heap → Prop) h_73 =>
 JoinN 1 (fun (k_17 : Value → Heap → Prop) h_74 =>
 RangeC Try.prog none t71 2 D_4 (fun l_1 args_1 bg_1 Nb_1 Jb_1 h_75 =>
 bg_1 (fun h_76 =>
 Hp Try.prog false (storeS 4 t6 (.bool false)) (fun _ h_77 => 
 Jb_1 .ret h_77) h_76 ⟨⟩) h_75)
 (fun D_5 h_78 =>
 k_17 D_5 h_78)
 (fun D_6 h_79 =>
 RetD D_6 h_79 (fun h_80 =>
 Hp Try.prog true (loadCell 4 t6) (fun r_3 _ =>
 R r_3 h_80) h_80 ⟨⟩) ⟨⟩)
 (fun id_1 D_7 h_81 => bif Nat.beq id_1 2 then (k_17 D_7 h_81) else False) h_74 ⟨⟩ ⟨⟩ ⟨⟩ ⟨⟩)
 (fun D_8 h_82 =>
 k_16 D_8 h_82) h_73 ⟨⟩ ⟨⟩)
 (fun D_9 h_83 =>
 Hp Try.prog false (binS .lss 3 (.tmp 95) (.const (.int .i64 0)) n2 (.int .i64 0)) (fun t96 h_84 => 
 CondP t96 (
 Hp Try.prog false (Builtin.len_ #[83] 3 #[t48]) (fun t98 h_85 => 
 Hp Try.prog false (binS .eql 3 (.tmp 98) (.const (.int .i64 0)) t98 (.int .i64 0)) (fun t99 h_86 => 
 Join1 (fun k_18 h_87 => guardP t99 true (k_18 t49 h_87) (k_18 undef h_87) ⟨⟩ ⟨⟩) (fun t101 h_88 => 
 Join1 (fun k_19 h_89 => guardP t99 true (Hp Try.prog false (binS .eql 31 (.tmp 101) (.const (.int .i64 2)) t101 (.int .i64 2)) k_19 h_89 ⟨⟩) (k_19 undef h_89) ⟨⟩ ⟨⟩) (fun t102 h_90 => 
 Hp Try.prog false (pickS t99 t102 (.bool false)) (fun t103 h_91 => 
 Join1 (fun k_20 h_92 => guardP t103 true (CallsH Try.prog 10 #[] h_92 k_20 ⟨⟩) (k_20 undef h_92) ⟨⟩ ⟨⟩) (fun t105 h_93 => 
 Hp Try.prog false (pickS t103 t105 (.bool false)) (fun t106 h_94 => 
 Hp Try.prog false (storeS 4 t6 t106) (fun _ h_95 => 
 RetD D_9 h_95 (fun h_96 =>
 Hp Try.prog true (loadCell 4 t6) (fun r_4 _ =>
 R r_4 h_96) h_96 ⟨⟩) ⟨⟩) h_94 ⟨⟩) h_93 ⟨⟩) h_91 ⟨⟩ ⟨⟩) h_90 ⟨⟩) h_88 ⟨⟩ ⟨⟩) h_86 ⟨⟩ ⟨⟩) h_85 ⟨⟩) h_84 ⟨⟩) (
 Hp Try.prog false (binS .gtr 3 (.tmp 107) (.const (.int .i64 1000)) n2 (.int .i64 1000)) (fun t108 h_97 => 
 CondP t108 (
 Hp Try.prog false (Builtin.len_ #[83] 3 #[t48]) (fun t110 h_98 => 
 Hp Try.prog false (binS .eql 3 (.tmp 110) (.const (.int .i64 0)) t110 (.int .i64 0)) (fun t111 h_99 => 
 Join1 (fun k_21 h_100 => guardP t111 true (k_21 t49 h_100) (k_21 undef h_100) ⟨⟩ ⟨⟩) (fun t113 h_101 => 
 Join1 (fun k_22 h_102 => guardP t111 true (Hp Try.prog false (binS .eql 31 (.tmp 113) (.const (.int .i64 3)) t113 (.int .i64 3)) k_22 h_102 ⟨⟩) (k_22 undef h_102) ⟨⟩ ⟨⟩) (fun t114 h_103 => 
 Hp Try.prog false (pickS t111 t114 (.bool false)) (fun t115 h_104 => 
 Join1 (fun k_23 h_105 => guardP t115 true (CallsH Try.prog 10 #[] h_105 k_23 ⟨⟩) (k_23 undef h_105) ⟨⟩ ⟨⟩) (fun t117 h_106 => 
 Hp Try.prog false (pickS t115 t117 (.bool false)) (fun t118 h_107 => 
 Hp Try.prog false (storeS 4 t6 t118) (fun _ h_108 => 
 RetD D_9 h_108 (fun h_109 =>
 Hp Try.prog true (loadCell 4 t6) (fun r_5 _ =>
 R r_5 h_109) h_109 ⟨⟩) ⟨⟩) h_107 ⟨⟩) h_106 ⟨⟩) h_104 ⟨⟩ ⟨⟩) h_103 ⟨⟩) h_101 ⟨⟩ ⟨⟩) h_99 ⟨⟩ ⟨⟩) h_98 ⟨⟩) h_97 ⟨⟩) (
 Hp Try.prog false (binS .neq 31 (.tmp 119) (.const (.int .i64 0)) t49 (.int .i64 0)) (fun t120 h_110 => 
 Join1 (fun k_24 h_111 => guardP t120 false (k_24 t48 h_111) (k_24 undef h_111) ⟨⟩ ⟨⟩) (fun t122 h_112 => 
 Join1 (fun k_25 h_113 => guardP t120 false (Hp Try.prog false (Builtin.len_ #[83] 3 #[t122]) k_25 h_113 ⟨⟩) (k_25 undef h_113) ⟨⟩ ⟨⟩) (fun t123 h_114 => 
 Join1 (fun k_26 h_115 => guardP t120 false (k_26 n2 h_115) (k_26 undef h_115) ⟨⟩ ⟨⟩) (fun t124 h_116 => 
 Join1 (fun k_27 h_117 => guardP t120 false (Hp Try.prog false (binS .neq 3 (.tmp 123) (.tmp 124) t123 t124) k_27 h_117 ⟨⟩) (k_27 undef h_117) ⟨⟩ ⟨⟩) (fun t125 h_118 => 
 Hp Try.prog false (pickS t120 (.bool true) t125) (fun t126 h_119 => 
 CondP t126 (
 Hp Try.prog false (storeS 4 t6 (.bool false)) (fun _ h_120 => 
 RetD D_9 h_120 (fun h_121 =>
 Hp Try.prog true (loadCell 4 t6) (fun r_6 _ =>
 R r_6 h_121) h_121 ⟨⟩) ⟨⟩) h_119 ⟨⟩) (
 LoopC 2 (fun (X : Value → Value → Heap → Prop) => fun x21 k22 h_122 =>
 Hp Try.prog false (binS .lss 3 (.tmp 128) (.tmp 129) k22 n2) (fun t130 h_123 => 
 CondP t130 (
 LoopC 3 (fun (X_1 : Value → Value → Value → Heap → Prop) => fun x21_1 want23 i24 h_124 =>
 Hp Try.prog false (binS .lss 3 (.tmp 133) (.tmp 134) i24 t42) (fun t135 h_125 => 
 CondP t135 (
 JoinN 2 (fun (k_28 : Value → Value → Heap → Prop) h_126 =>
 JoinN 2 (fun (k_29 : Value → Value → Heap → Prop) h_127 =>
 Hp Try.prog false (binS .lss 3 (.tmp 138) (.const (.int .i64 2)) k22 (.int .i64 2)) (fun t139 h_128 => 
 CondP t139 (
 Hp Try.prog false (Instr.buildSlice 23 1 #[(0, k22)]) (fun t142 h_129 => 
 Hp Try.prog false (Builtin.append_ #[23, 23] 23 #[want23, t142]) (fun t143 h_130 => 
 k_29 x21_1 t143 h_130) h_129 ⟨⟩) h_128 ⟨⟩) (
 Hp Try.prog false (binS .mul 82 (.tmp 144) (.const (.int .u64 6364136223846793005)) x21_1 (.int .u64 6364136223846793005)) (fun t145 h_131 => 
 Hp Try.prog false (binS .add 82 (.tmp 145) (.const (.int .u64 1442695040888963407)) t145 (.int .u64 1442695040888963407)) (fun t146 h_132 => 
 Hp Try.prog false (binS .shr 82 (.tmp 148) (.const (.int .u64 63)) t146 (.int .u64 63)) (fun t149 h_133 => 
 Hp Try.prog false (convert 82 3 t149) (fun t150 h_134 => 
 Hp Try.prog false (Instr.buildSlice 23 1 #[(0, t150)]) (fun t151 h_135 => 
 Hp Try.prog false (Builtin.append_ #[23, 23] 23 #[want23, t151]) (fun t152 h_136 => 
 k_29 t146 t152 h_136) h_135 ⟨⟩) h_134 ⟨⟩) h_133 ⟨⟩) h_132 ⟨⟩) h_131 ⟨⟩) h_128 ⟨⟩) ⟨⟩ ⟨⟩) h_127 ⟨⟩)
 (fun x21_2 want23_1 h_137 =>
 k_28 x21_2 want23_1 h_137) h_126 ⟨⟩ ⟨⟩)
 (fun x21_3 want23_2 h_138 =>
 Hp Try.prog false (binS .add 3 (.tmp 136) (.const (.int .i64 1)) i24 (.int .i64 1)) (fun t137 h_139 => 
 X_1 x21_3 want23_2 t137 h_139) h_138 ⟨⟩) h_125 ⟨⟩ ⟨⟩) (
 Hp Try.prog false (Instr.indexAt 83 t48 k22) (fun t155 h_140 => 
 Hp Try.prog false (Instr.loadAt 23 t155) (fun t156 h_141 => 
 CallsH Try.prog 17 #[t156, want23] h_141 (fun t158 h_142 => 
 Hp Try.prog false (Op.unary .not t158) (fun t159 h_143 => 
 CondP t159 (
 Hp Try.prog false (storeS 4 t6 (.bool false)) (fun _ h_144 => 
 RetD D_9 h_144 (fun h_145 =>
 Hp Try.prog true (loadCell 4 t6) (fun r_7 _ =>
 R r_7 h_145) h_145 ⟨⟩) ⟨⟩) h_143 ⟨⟩) (
 Hp Try.prog false (binS .add 3 (.tmp 131) (.const (.int .i64 1)) k22 (.int .i64 1)) (fun t132 h_146 => 
 X x21_1 t132 h_146) h_143 ⟨⟩) ⟨⟩ ⟨⟩) h_142 ⟨⟩) ⟨⟩) h_140 ⟨⟩) h_125 ⟨⟩) ⟨⟩ ⟨⟩) h_124 ⟨⟩) [x21, (.slice none 0 0), (.int .i64 0)] h_123 ⟨⟩) (
 CallsH Try.prog 10 #[] h_123 (fun t160 h_147 => 
 Hp Try.prog false (storeS 4 t6 t160) (fun _ h_148 => 
 RetD D_9 h_148 (fun h_149 =>
 Hp Try.prog true (loadCell 4 t6) (fun r_8 _ =>
 R r_8 h_149) h_149 ⟨⟩) ⟨⟩) h_147 ⟨⟩) ⟨⟩) ⟨⟩ ⟨⟩) h_122 ⟨⟩) [seed1, (.int .i64 0)] h_119 ⟨⟩) ⟨⟩ ⟨⟩) h_118 ⟨⟩) h_116 ⟨⟩ ⟨⟩) h_114 ⟨⟩ ⟨⟩) h_112 ⟨⟩ ⟨⟩) h_110 ⟨⟩ ⟨⟩) h_97 ⟨⟩) ⟨⟩ ⟨⟩) h_84 ⟨⟩) ⟨⟩ ⟨⟩) h_83 ⟨⟩) h_72 ⟨⟩ ⟨⟩) h_59 ⟨⟩ ⟨⟩) ⟨⟩ ⟨⟩) h_58 ⟨⟩) h_56 ⟨⟩ ⟨⟩) h_54 ⟨⟩ ⟨⟩) h_53 ⟨⟩) h_51 ⟨⟩ ⟨⟩) h_49 ⟨⟩ ⟨⟩) h_48 ⟨⟩) h_46 ⟨⟩ ⟨⟩) h_44 ⟨⟩ ⟨⟩) h_43 ⟨⟩) h_41 ⟨⟩ ⟨⟩) h_39 ⟨⟩ ⟨⟩) h_38 ⟨⟩) ⟨⟩) ⟨⟩) h_35 ⟨⟩) h_34 ⟨⟩) ⟨⟩) h_32 ⟨⟩) h_31 ⟨⟩) h_30 ⟨⟩) h_29 ⟨⟩) ⟨⟩) h_27 ⟨⟩) h_26 ⟨⟩) ⟨⟩) h_24 ⟨⟩) h_23 ⟨⟩) ⟨⟩) ⟨⟩) h_20 ⟨⟩) h_19 ⟨⟩) ⟨⟩) ⟨⟩ ⟨⟩) h_14 ⟨⟩) h_12 ⟨⟩ ⟨⟩) h_10 ⟨⟩ ⟨⟩) h_8 ⟨⟩ ⟨⟩) h_6 ⟨⟩ ⟨⟩) h_4 ⟨⟩ ⟨⟩) h_2 ⟨⟩ ⟨⟩) ⟨⟩) h ⟨⟩

theorem n8_calls {l0 seed1 n2 : Value} {R : Value → Heap → Prop} {h : Heap} (H : n8 l0 seed1 n2 R h) : CallsH Try.prog 8 #[l0, seed1, n2] h R ⟨⟩ :=
 callsH_of_eq Try.follow (.n none .l (.n none .l (.n none .l (.n none .l (.n none .l (.n none .l (.n none .l (.n none .l (.n none .l (.n none .l (.n none .l (.n (some [0]) (.n none .l (.n (some [0]) .l .l)) (.n (some [0]) (.n none .l (.n (some [0]) .l .l)) (.n none .l (.n none .l (.n none .l (.n none .l (.n none (.n none .l (.n none (.n (some [22, 23]) (.n none .l (.n none (.n none (.n none .l (.n none (.n none .l (.n none (.n (some [22, 24, 25]) (.n none .l (.n (some [22, 24]) (.n (some [22, 24]) .l .l) .l)) .l) .l)) .l)) .l) .l)) .l) .l)) .l)))))))))))))))))) Try.func8 (by kernel_rfl) (by kernel_rfl) (by kernel_rfl) H

/-- palimpsest/palimpsestlaw07.vast -/
def n9 (l0 : Value) (R : Value → Heap → Prop) (h : Heap) : Prop :=
 Hp Try.prog false (Builtin.len_ #[22] 3 #[l0]) (fun t5 h_1 => 
 Hp Try.prog false (binS .gtr 3 (.tmp 5) (.const (.int .i64 60)) t5 (.int .i64 60)) (fun t6 h_2 => 
 CondP t6 (
 R (.bool true) h_2) (
 LoopC 1 (fun (X : Value → Heap → Prop) => fun i3 h_3 =>
 Hp Try.prog false (Builtin.len_ #[22] 3 #[l0]) (fun t9 h_4 => 
 Hp Try.prog false (binS .lss 3 (.tmp 7) (.tmp 9) i3 t9) (fun t10 h_5 => 
 CondP t10 (
 Hp Try.prog false (Instr.indexAt 22 l0 i3) (fun t15 h_6 => 
 Hp Try.prog false (Instr.fieldAt 89 t15 1) (fun t16 h_7 => 
 Hp Try.prog false (Instr.loadAt 2 t16) (fun t17 h_8 => 
 Hp Try.prog false (binS .gtr 2 (.tmp 17) (.const (.int .i64 20000)) t17 (.int .i64 20000)) (fun t18 h_9 => 
 Join1 (fun k h_10 => guardP t18 false (k l0 h_10) (k undef h_10) ⟨⟩ ⟨⟩) (fun t20 h_11 => 
 Join1 (fun k_1 h_12 => guardP t18 false (k_1 i3 h_12) (k_1 undef h_12) ⟨⟩ ⟨⟩) (fun t21 h_13 => 
 Join1 (fun k_2 h_14 => guardP t18 false (Hp Try.prog false (Instr.indexAt 22 t20 t21) k_2 h_14 ⟨⟩) (k_2 undef h_14) ⟨⟩ ⟨⟩) (fun t22 h_15 => 
 Join1 (fun k_3 h_16 => guardP t18 false (Hp Try.prog false (Instr.fieldAt 89 t22 2) k_3 h_16 ⟨⟩) (k_3 undef h_16) ⟨⟩ ⟨⟩) (fun t23 h_17 => 
 Join1 (fun k_4 h_18 => guardP t18 false (Hp Try.prog false (Instr.loadAt 50 t23) k_4 h_18 ⟨⟩) (k_4 undef h_18) ⟨⟩ ⟨⟩) (fun t24 h_19 => 
 Join1 (fun k_5 h_20 => guardP t18 false (Hp Try.prog false (Builtin.len_ #[50] 3 #[t24]) k_5 h_20 ⟨⟩) (k_5 undef h_20) ⟨⟩ ⟨⟩) (fun t25 h_21 => 
 Join1 (fun k_6 h_22 => guardP t18 false (Hp Try.prog false (binS .gtr 3 (.tmp 25) (.const (.int .i64 40000)) t25 (.int .i64 40000)) k_6 h_22 ⟨⟩) (k_6 undef h_22) ⟨⟩ ⟨⟩) (fun t26 h_23 => 
 Hp Try.prog false (pickS t18 (.bool true) t26) (fun t27 h_24 => 
 CondP t27 (
 R (.bool true) h_24) (
 Hp Try.prog false (binS .add 3 (.tmp 11) (.const (.int .i64 1)) i3 (.int .i64 1)) (fun t12 h_25 => 
 X t12 h_25) h_24 ⟨⟩) ⟨⟩ ⟨⟩) h_23 ⟨⟩) h_21 ⟨⟩ ⟨⟩) h_19 ⟨⟩ ⟨⟩) h_17 ⟨⟩ ⟨⟩) h_15 ⟨⟩ ⟨⟩) h_13 ⟨⟩ ⟨⟩) h_11 ⟨⟩ ⟨⟩) h_9 ⟨⟩ ⟨⟩) h_8 ⟨⟩) h_7 ⟨⟩) h_6 ⟨⟩) h_5 ⟨⟩) (
 R (.bool false) h_5) ⟨⟩ ⟨⟩) h_4 ⟨⟩) h_3 ⟨⟩) [(.int .i64 0)] h_2 ⟨⟩) ⟨⟩ ⟨⟩) h_1 ⟨⟩) h ⟨⟩

theorem n9_calls {l0 : Value} {R : Value → Heap → Prop} {h : Heap} (H : n9 l0 R h) : CallsH Try.prog 9 #[l0] h R ⟨⟩ :=
 callsH_of_eq Try.follow (.n none .l (.n none .l (.n none (.n none .l (.n none (.n (some [4]) .l .l) .l)) .l))) Try.func9 (by kernel_rfl) (by kernel_rfl) (by kernel_rfl) H

/-- palimpsest/palimpsestlaw07.known -/
def n10 (R : Value → Heap → Prop) (h : Heap) : Prop :=
 Hp Try.prog false (Instr.buildSlice 50 4 #[(0, (.int .u8 119)), (1, (.int .u8 120)), (2, (.int .u8 121)), (3, (.int .u8 122))]) (fun t10 h_1 => 
 Hp Try.prog false (convert 50 50 t10) (fun t11 h_2 => 
 Hp Try.prog false (Instr.build 89 #[(0, (str [97])), (1, (.int .i64 510)), (2, t11)]) (fun t12 h_3 => 
 Hp Try.prog false (Instr.buildSlice 22 1 #[(0, t12)]) (fun t13 h_4 => 
 CallsH Try.prog 11 #[t13] h_4 (fun t14 h_5 => 
 Hp Try.prog false (Instr.extract t14 0) (fun t15 h_6 => 
 Hp Try.prog false (Instr.extract t14 1) (fun t16 h_7 => 
 CallsH Try.prog 13 #[t15] h_7 (fun t19 h_8 => 
 Hp Try.prog false (Instr.extract t19 0) (fun t20 h_9 => 
 Hp Try.prog false (Instr.extract t19 1) (fun t21 h_10 => 
 CallsH Try.prog 16 #[t15, (.int .i64 3)] h_10 (fun t24 h_11 => 
 Hp Try.prog false (Instr.extract t24 0) (fun t25 h_12 => 
 Hp Try.prog false (Instr.extract t24 1) (fun t26 h_13 => 
 Hp Try.prog false (Instr.buildSlice 23 1 #[(0, (.int .i64 7))]) (fun t29 h_14 => 
 CallsH Try.prog 15 #[t15, t29] h_14 (fun t30 h_15 => 
 Hp Try.prog false (Instr.extract t30 0) (fun t31 h_16 => 
 Hp Try.prog false (Instr.extract t30 1) (fun t32 h_17 => 
 Hp Try.prog false (binS .eql 2 (.tmp 33) (.const (.int .i64 4)) t20 (.int .i64 4)) (fun t34 h_18 => 
 Join1 (fun k h_19 => guardP t34 true (k t21 h_19) (k undef h_19) ⟨⟩ ⟨⟩) (fun t36 h_20 => 
 Join1 (fun k_1 h_21 => guardP t34 true (Hp Try.prog false (binS .eql 31 (.tmp 36) (.const (.int .i64 0)) t36 (.int .i64 0)) k_1 h_21 ⟨⟩) (k_1 undef h_21) ⟨⟩ ⟨⟩) (fun t37 h_22 => 
 Hp Try.prog false (pickS t34 t37 (.bool false)) (fun t38 h_23 => 
 Join1 (fun k_2 h_24 => guardP t38 true (k_2 t25 h_24) (k_2 undef h_24) ⟨⟩ ⟨⟩) (fun t40 h_25 => 
 Join1 (fun k_3 h_26 => guardP t38 true (Hp Try.prog false (Instr.buildSlice 23 2 #[(0, (.int .i64 1)), (1, (.int .i64 1))]) k_3 h_26 ⟨⟩) (k_3 undef h_26) ⟨⟩ ⟨⟩) (fun t41 h_27 => 
 Join1 (fun k_4 h_28 => guardP t38 true (CallsH Try.prog 17 #[t40, t41] h_28 k_4 ⟨⟩) (k_4 undef h_28) ⟨⟩ ⟨⟩) (fun t42 h_29 => 
 Hp Try.prog false (pickS t38 t42 (.bool false)) (fun t43 h_30 => 
 Join1 (fun k_5 h_31 => guardP t43 true (k_5 t26 h_31) (k_5 undef h_31) ⟨⟩ ⟨⟩) (fun t45 h_32 => 
 Join1 (fun k_6 h_33 => guardP t43 true (Hp Try.prog false (binS .eql 31 (.tmp 45) (.const (.int .i64 0)) t45 (.int .i64 0)) k_6 h_33 ⟨⟩) (k_6 undef h_33) ⟨⟩ ⟨⟩) (fun t46 h_34 => 
 Hp Try.prog false (pickS t43 t46 (.bool false)) (fun t47 h_35 => 
 Join1 (fun k_7 h_36 => guardP t47 true (k_7 t31 h_36) (k_7 undef h_36) ⟨⟩ ⟨⟩) (fun t49 h_37 => 
 Join1 (fun k_8 h_38 => guardP t47 true (Hp Try.prog false (binS .eql 2 (.tmp 49) (.const (.int .i64 2)) t49 (.int .i64 2)) k_8 h_38 ⟨⟩) (k_8 undef h_38) ⟨⟩ ⟨⟩) (fun t50 h_39 => 
 Hp Try.prog false (pickS t47 t50 (.bool false)) (fun t51 h_40 => 
 Join1 (fun k_9 h_41 => guardP t51 true (k_9 t32 h_41) (k_9 undef h_41) ⟨⟩ ⟨⟩) (fun t53 h_42 => 
 Join1 (fun k_10 h_43 => guardP t51 true (Hp Try.prog false (binS .eql 31 (.tmp 53) (.const (.int .i64 0)) t53 (.int .i64 0)) k_10 h_43 ⟨⟩) (k_10 undef h_43) ⟨⟩ ⟨⟩) (fun t54 h_44 => 
 Hp Try.prog false (pickS t51 t54 (.bool false)) (fun t55 h_45 => 
 Join1 (fun k_11 h_46 => guardP t55 true (k_11 t16 h_46) (k_11 undef h_46) ⟨⟩ ⟨⟩) (fun t57 h_47 => 
 Join1 (fun k_12 h_48 => guardP t55 true (Hp Try.prog false (nilS t57) k_12 h_48 ⟨⟩) (k_12 undef h_48) ⟨⟩ ⟨⟩) (fun t58 h_49 => 
 Join1 (fun k_13 h_50 => guardP t55 true (Hp Try.prog false (Instr.fieldAt 92 t58 0) k_13 h_50 ⟨⟩) (k_13 undef h_50) ⟨⟩ ⟨⟩) (fun t59 h_51 => 
 Join1 (fun k_14 h_52 => guardP t55 true (Hp Try.prog false (Instr.loadAt 90 t59) k_14 h_52 ⟨⟩) (k_14 undef h_52) ⟨⟩ ⟨⟩) (fun t60 h_53 => 
 Join1 (fun k_15 h_54 => guardP t55 true (Hp Try.prog false (Builtin.len_ #[90] 3 #[t60]) k_15 h_54 ⟨⟩) (k_15 undef h_54) ⟨⟩ ⟨⟩) (fun t61 h_55 => 
 Join1 (fun k_16 h_56 => guardP t55 true (Hp Try.prog false (binS .eql 3 (.tmp 61) (.const (.int .i64 1)) t61 (.int .i64 1)) k_16 h_56 ⟨⟩) (k_16 undef h_56) ⟨⟩ ⟨⟩) (fun t62 h_57 => 
 Hp Try.prog false (pickS t55 t62 (.bool false)) (fun t63 h_58 => 
 R t63 h_58) h_57 ⟨⟩) h_55 ⟨⟩ ⟨⟩) h_53 ⟨⟩ ⟨⟩) h_51 ⟨⟩ ⟨⟩) h_49 ⟨⟩ ⟨⟩) h_47 ⟨⟩ ⟨⟩) h_45 ⟨⟩ ⟨⟩) h_44 ⟨⟩) h_42 ⟨⟩ ⟨⟩) h_40 ⟨⟩ ⟨⟩) h_39 ⟨⟩) h_37 ⟨⟩ ⟨⟩) h_35 ⟨⟩ ⟨⟩) h_34 ⟨⟩) h_32 ⟨⟩ ⟨⟩) h_30 ⟨⟩ ⟨⟩) h_29 ⟨⟩) h_27 ⟨⟩ ⟨⟩) h_25 ⟨⟩ ⟨⟩) h_23 ⟨⟩ ⟨⟩) h_22 ⟨⟩) h_20 ⟨⟩ ⟨⟩) h_18 ⟨⟩ ⟨⟩) h_17 ⟨⟩) h_16 ⟨⟩) h_15 ⟨⟩) ⟨⟩) h_13 ⟨⟩) h_12 ⟨⟩) h_11 ⟨⟩) ⟨⟩) h_9 ⟨⟩) h_8 ⟨⟩) ⟨⟩) h_6 ⟨⟩) h_5 ⟨⟩) ⟨⟩) h_3 ⟨⟩) h_2 ⟨⟩) h_1 ⟨⟩) h ⟨⟩

theorem n10_calls {R : Value → Heap → Prop} {h : Heap} (H : n10  R h) : CallsH Try.prog 10 #[] h R ⟨⟩ :=
 callsH_of_eq Try.follow .l Try.func10 (by kernel_rfl) (by kernel_rfl) (by kernel_rfl) H

/-- palimpsest/palimpsestlaw07.both -/
def n11 (l0 : Value) (R : Value → Heap → Prop) (h : Heap) : Prop :=
 CallsH Try.prog 39 #[(.slice none 0 0)] h (fun t9 h_1 => 
 Hp Try.prog false (Instr.extract t9 0) (fun t10 h_2 => 
 Hp Try.prog false (Instr.extract t9 1) (fun t11 h_3 => 
 CallsH Try.prog 40 #[(.slice none 0 0)] h_3 (fun t12 h_4 => 
 LoopC 1 (fun (X : Value → Heap → Prop) => fun i7 h_5 =>
 Hp Try.prog false (Builtin.len_ #[22] 3 #[l0]) (fun t15 h_6 => 
 Hp Try.prog false (binS .lss 3 (.tmp 13) (.tmp 15) i7 t15) (fun t16 h_7 => 
 CondP t16 (
 JoinN 0 (fun (k : Heap → Prop) h_8 =>
 JoinN 0 (fun (k_1 : Heap → Prop) h_9 =>
 Hp Try.prog false (Instr.indexAt 22 l0 i7) (fun t22 h_10 => 
 Hp Try.prog false (Instr.fieldAt 89 t22 0) (fun t23 h_11 => 
 Hp Try.prog false (Instr.loadAt 9 t23) (fun t24 h_12 => 
 CallsH Try.prog 33 #[t10, t24] h_12 (fun t25 h_13 => 
 Hp Try.prog false (Instr.indexAt 22 l0 i7) (fun t29 h_14 => 
 Hp Try.prog false (Instr.fieldAt 89 t29 0) (fun t30 h_15 => 
 Hp Try.prog false (Instr.loadAt 9 t30) (fun t31 h_16 => 
 CallsH Try.prog 41 #[t12, t31] h_16 (fun t32 h_17 => 
 Hp Try.prog true (Instr.indexAt 22 l0 i7) (fun t36 _ => 
 Hp Try.prog true (Instr.fieldAt 89 t36 0) (fun t37 _ => 
 Hp Try.prog true (Instr.loadAt 9 t37) (fun t38 _ => 
 Hp Try.prog true (Instr.indexAt 22 l0 i7) (fun t41 _ => 
 Hp Try.prog true (Instr.fieldAt 89 t41 1) (fun t42 _ => 
 Hp Try.prog true (Instr.loadAt 2 t42) (fun t43 _ => 
 Hp Try.prog true (Instr.indexAt 22 l0 i7) (fun t46 _ => 
 Hp Try.prog true (Instr.fieldAt 89 t46 2) (fun t47 _ => 
 Hp Try.prog true (Instr.loadAt 50 t47) (fun t48 _ => 
 CallsH Try.prog 34 #[t10, t38, t43, t48] h_17 (fun t49 h_18 => 
 Hp Try.prog true (Instr.indexAt 22 l0 i7) (fun t53 _ => 
 Hp Try.prog true (Instr.fieldAt 89 t53 0) (fun t54 _ => 
 Hp Try.prog true (Instr.loadAt 9 t54) (fun t55 _ => 
 Hp Try.prog true (Instr.indexAt 22 l0 i7) (fun t58 _ => 
 Hp Try.prog true (Instr.fieldAt 89 t58 1) (fun t59 _ => 
 Hp Try.prog true (Instr.loadAt 2 t59) (fun t60 _ => 
 Hp Try.prog true (Instr.indexAt 22 l0 i7) (fun t63 _ => 
 Hp Try.prog true (Instr.fieldAt 89 t63 2) (fun t64 _ => 
 Hp Try.prog true (Instr.loadAt 50 t64) (fun t65 _ => 
 CallsH Try.prog 42 #[t12, t55, t60, t65] h_18 (fun t66 h_19 => 
 Hp Try.prog false (Instr.indexAt 22 l0 i7) (fun t69 h_20 => 
 Hp Try.prog false (Instr.fieldAt 89 t69 3) (fun t70 h_21 => 
 Hp Try.prog false (Instr.loadAt 4 t70) (fun t71 h_22 => 
 CondP t71 (
 Hp Try.prog false (Instr.indexAt 22 l0 i7) (fun t75 h_23 => 
 Hp Try.prog false (Instr.fieldAt 89 t75 0) (fun t76 h_24 => 
 Hp Try.prog false (Instr.loadAt 9 t76) (fun t77 h_25 => 
 CallsH Try.prog 28 #[t10, t77] h_25 (fun t78 h_26 => 
 Hp Try.prog false (Instr.indexAt 22 l0 i7) (fun t82 h_27 => 
 Hp Try.prog false (Instr.fieldAt 89 t82 0) (fun t83 h_28 => 
 Hp Try.prog false (Instr.loadAt 9 t83) (fun t84 h_29 => 
 CallsH Try.prog 43 #[t12, t84] h_29 (fun t85 h_30 => 
 k_1 h_30) ⟨⟩) h_28 ⟨⟩) h_27 ⟨⟩) h_26 ⟨⟩) ⟨⟩) h_24 ⟨⟩) h_23 ⟨⟩) h_22 ⟨⟩) (
 k_1 h_22) ⟨⟩ ⟨⟩) h_21 ⟨⟩) h_20 ⟨⟩) h_19 ⟨⟩) ⟨⟩) h_18 ⟨⟩) #[] ⟨⟩) #[] ⟨⟩) h_18 ⟨⟩) #[] ⟨⟩) #[] ⟨⟩) h_18 ⟨⟩) #[] ⟨⟩) #[] ⟨⟩) ⟨⟩) h_17 ⟨⟩) #[] ⟨⟩) #[] ⟨⟩) h_17 ⟨⟩) #[] ⟨⟩) #[] ⟨⟩) h_17 ⟨⟩) #[] ⟨⟩) #[] ⟨⟩) ⟨⟩) h_15 ⟨⟩) h_14 ⟨⟩) h_13 ⟨⟩) ⟨⟩) h_11 ⟨⟩) h_10 ⟨⟩) h_9 ⟨⟩)
 (fun h_31 =>
 k h_31) h_8 ⟨⟩ ⟨⟩)
 (fun h_32 =>
 Hp Try.prog false (binS .add 3 (.tmp 17) (.const (.int .i64 1)) i7 (.int .i64 1)) (fun t18 h_33 => 
 X t18 h_33) h_32 ⟨⟩) h_7 ⟨⟩ ⟨⟩) (
 R (.tuple #[t10, t12]) h_7) ⟨⟩ ⟨⟩) h_6 ⟨⟩) h_5 ⟨⟩) [(.int .i64 0)] h_4 ⟨⟩) ⟨⟩) h_2 ⟨⟩) h_1 ⟨⟩) ⟨⟩

theorem n11_calls {l0 : Value} {R : Value → Heap → Prop} {h : Heap} (H : n11 l0 R h) : CallsH Try.prog 11 #[l0] h R ⟨⟩ :=
 callsH_of_eq Try.follow (.n none .l (.n none .l (.n none .l (.n none (.n none .l (.n none (.n (some [8]) (.n none .l (.n (some []) (.n (some []) .l .l) .l)) .l) .l)) .l)))) Try.func11 (by kernel_rfl) (by kernel_rfl) (by kernel_rfl) H

/-- palimpsest/palimpsestlaw07.same -/
def n17 (a0 b1 : Value) (R : Value → Heap → Prop) (h : Heap) : Prop :=
 Hp Try.prog false (Builtin.len_ #[23] 3 #[a0]) (fun t7 h_1 => 
 Hp Try.prog false (Builtin.len_ #[23] 3 #[b1]) (fun t9 h_2 => 
 Hp Try.prog false (binS .neq 3 (.tmp 7) (.tmp 9) t7 t9) (fun t10 h_3 => 
 CondP t10 (
 R (.bool false) h_3) (
 LoopC 1 (fun (X : Value → Heap → Prop) => fun i5 h_4 =>
 Hp Try.prog false (Builtin.len_ #[23] 3 #[a0]) (fun t13 h_5 => 
 Hp Try.prog false (binS .lss 3 (.tmp 11) (.tmp 13) i5 t13) (fun t14 h_6 => 
 CondP t14 (
 Hp Try.prog true (Instr.indexAt 23 a0 i5) (fun t19 _ => 
 Hp Try.prog true (Instr.loadAt 3 t19) (fun t20 _ => 
 Hp Try.prog true (Instr.indexAt 23 b1 i5) (fun t23 _ => 
 Hp Try.prog true (Instr.loadAt 3 t23) (fun t24 _ => 
 Hp Try.prog true (binS .neq 3 (.tmp 20) (.tmp 24) t20 t24) (fun t25 _ => 
 CondP t25 (
 R (.bool false) h_6) (
 Hp Try.prog false (binS .add 3 (.tmp 15) (.const (.int .i64 1)) i5 (.int .i64 1)) (fun t16 h_7 => 
 X t16 h_7) h_6 ⟨⟩) ⟨⟩ ⟨⟩) #[] ⟨⟩) h_6 ⟨⟩) #[] ⟨⟩) h_6 ⟨⟩) #[] ⟨⟩) (
 R (.bool true) h_6) ⟨⟩ ⟨⟩) h_5 ⟨⟩) h_4 ⟨⟩) [(.int .i64 0)] h_3 ⟨⟩) ⟨⟩ ⟨⟩) h_2 ⟨⟩) h_1 ⟨⟩) h ⟨⟩

theorem n17_calls {a0 b1 : Value} {R : Value → Heap → Prop} {h : Heap} (H : n17 a0 b1 R h) : CallsH Try.prog 17 #[a0, b1] h R ⟨⟩ :=
 callsH_of_eq Try.follow (.n none .l (.n none .l (.n none (.n none .l (.n none (.n (some [6]) .l .l) .l)) .l))) Try.func17 (by kernel_rfl) (by kernel_rfl) (by kernel_rfl) H

/-- palimpsest/palimpsestlaw07.plain -/
def n18 (n0 picks1 : Value) (R : Value → Heap → Prop) (h : Heap) : Prop :=
 Hp Try.prog false (Instr.makeSlice 23 n0 n0) (fun t8 h_1 => 
 LoopC 1 (fun (X : Value → Heap → Prop) => fun i6 h_2 =>
 Hp Try.prog false (binS .lss 3 (.tmp 9) (.tmp 10) i6 n0) (fun t11 h_3 => 
 Join1 (fun k h_4 => guardP t11 true (k i6 h_4) (k undef h_4) ⟨⟩ ⟨⟩) (fun t13 h_5 => 
 Join1 (fun k_1 h_6 => guardP t11 true (k_1 picks1 h_6) (k_1 undef h_6) ⟨⟩ ⟨⟩) (fun t14 h_7 => 
 Join1 (fun k_2 h_8 => guardP t11 true (Hp Try.prog false (Builtin.len_ #[23] 3 #[t14]) k_2 h_8 ⟨⟩) (k_2 undef h_8) ⟨⟩ ⟨⟩) (fun t15 h_9 => 
 Join1 (fun k_3 h_10 => guardP t11 true (Hp Try.prog false (binS .lss 3 (.tmp 13) (.tmp 15) t13 t15) k_3 h_10 ⟨⟩) (k_3 undef h_10) ⟨⟩ ⟨⟩) (fun t16 h_11 => 
 Hp Try.prog false (pickS t11 t16 (.bool false)) (fun t17 h_12 => 
 CondP t17 (
 Hp Try.prog false (Instr.indexAt 23 picks1 i6) (fun t24 h_13 => 
 Hp Try.prog false (Instr.loadAt 3 t24) (fun t25 h_14 => 
 Hp Try.prog false (binS .rem 3 (.tmp 25) (.const (.int .i64 2)) t25 (.int .i64 2)) (fun t26 h_15 => 
 Hp Try.prog false (Instr.indexAt 23 t8 i6) (fun t27 h_16 => 
 Hp Try.prog false (storeS 3 t27 t26) (fun _ h_17 => 
 Hp Try.prog false (binS .add 3 (.tmp 18) (.const (.int .i64 1)) i6 (.int .i64 1)) (fun t19 h_18 => 
 X t19 h_18) h_17 ⟨⟩) h_16 ⟨⟩) h_15 ⟨⟩) h_14 ⟨⟩) h_13 ⟨⟩) h_12 ⟨⟩) (
 R t8 h_12) ⟨⟩ ⟨⟩) h_11 ⟨⟩) h_9 ⟨⟩ ⟨⟩) h_7 ⟨⟩ ⟨⟩) h_5 ⟨⟩ ⟨⟩) h_3 ⟨⟩ ⟨⟩) h_2 ⟨⟩) [(.int .i64 0)] h_1 ⟨⟩) h ⟨⟩

theorem n18_calls {n0 picks1 : Value} {R : Value → Heap → Prop} {h : Heap} (H : n18 n0 picks1 R h) : CallsH Try.prog 18 #[n0, picks1] h R ⟨⟩ :=
 callsH_of_eq Try.follow (.n none .l (.n none .l (.n none (.n none .l (.n none (.n (some [7]) .l .l) .l)) .l))) Try.func18 (by kernel_rfl) (by kernel_rfl) (by kernel_rfl) H

/-- palimpsest/palimpsestlaw07.way -/
def n35 (p0 n1 : Value) (R : Value → Heap → Prop) (h : Heap) : Prop :=
 Hp Try.prog false (Instr.makeSlice 23 p0 p0) (fun t8 h_1 => 
 Hp Try.prog false (binS .sub 3 (.tmp 9) (.const (.int .i64 1)) p0 (.int .i64 1)) (fun t10 h_2 => 
 LoopC 2 (fun (X : Value → Value → Heap → Prop) => fun n1_1 i6 h_3 =>
 Hp Try.prog false (binS .geq 3 (.tmp 11) (.const (.int .i64 0)) i6 (.int .i64 0)) (fun t12 h_4 => 
 CondP t12 (
 Hp Try.prog false (binS .rem 2 (.tmp 17) (.const (.int .i64 2)) n1_1 (.int .i64 2)) (fun t18 h_5 => 
 Hp Try.prog false (Instr.indexAt 23 t8 i6) (fun t19 h_6 => 
 Hp Try.prog false (storeS 3 t19 t18) (fun _ h_7 => 
 Hp Try.prog false (binS .quo 2 (.tmp 20) (.const (.int .i64 2)) n1_1 (.int .i64 2)) (fun t21 h_8 => 
 Hp Try.prog false (binS .sub 3 (.tmp 13) (.const (.int .i64 1)) i6 (.int .i64 1)) (fun t14 h_9 => 
 X t21 t14 h_9) h_8 ⟨⟩) h_7 ⟨⟩) h_6 ⟨⟩) h_5 ⟨⟩) h_4 ⟨⟩) (
 R t8 h_4) ⟨⟩ ⟨⟩) h_3 ⟨⟩) [n1, t10] h_2 ⟨⟩) h_1 ⟨⟩) h ⟨⟩

theorem n35_calls {p0 n1 : Value} {R : Value → Heap → Prop} {h : Heap} (H : n35 p0 n1 R h) : CallsH Try.prog 35 #[p0, n1] h R ⟨⟩ :=
 callsH_of_eq Try.follow (.n none .l (.n none .l (.n none (.n none .l (.n none (.n (some [2, 7]) .l .l) .l)) .l))) Try.func35 (by kernel_rfl) (by kernel_rfl) (by kernel_rfl) H

/-- palimpsest/palimpsestlaw07.is -/
def n37 (s0 r1 : Value) (R : Value → Heap → Prop) (h : Heap) : Prop :=
 CallsH Try.prog 25 #[s0] h (fun t10 h_1 => 
 Hp Try.prog false (Builtin.len_ #[48] 3 #[t10]) (fun t12 h_2 => 
 Hp Try.prog false (nilS r1) (fun t14 h_3 => 
 Hp Try.prog false (Instr.fieldAt 92 t14 0) (fun t15 h_4 => 
 Hp Try.prog false (Instr.loadAt 90 t15) (fun t16 h_5 => 
 Hp Try.prog false (Builtin.len_ #[90] 3 #[t16]) (fun t17 h_6 => 
 Hp Try.prog false (binS .neq 3 (.tmp 12) (.tmp 17) t12 t17) (fun t18 h_7 => 
 Join1 (fun k h_8 => guardP t18 false (k s0 h_8) (k undef h_8) ⟨⟩ ⟨⟩) (fun t20 h_9 => 
 Join1 (fun k_1 h_10 => guardP t18 false (CallsH Try.prog 23 #[t20] h_10 k_1 ⟨⟩) (k_1 undef h_10) ⟨⟩ ⟨⟩) (fun t21 h_11 => 
 Join1 (fun k_2 h_12 => guardP t18 false (Hp Try.prog false (binS .neq 3 (.tmp 21) (.const (.int .i64 0)) t21 (.int .i64 0)) k_2 h_12 ⟨⟩) (k_2 undef h_12) ⟨⟩ ⟨⟩) (fun t22 h_13 => 
 Hp Try.prog false (pickS t18 (.bool true) t22) (fun t23 h_14 => 
 CondP t23 (
 R (.bool false) h_14) (
 LoopC 1 (fun (X : Value → Heap → Prop) => fun i6 h_15 =>
 Hp Try.prog false (Builtin.len_ #[48] 3 #[t10]) (fun t26 h_16 => 
 Hp Try.prog false (binS .lss 3 (.tmp 24) (.tmp 26) i6 t26) (fun t27 h_17 => 
 CondP t27 (
 Hp Try.prog false (Instr.indexAt 48 t10 i6) (fun t34 h_18 => 
 Hp Try.prog false (Instr.loadAt 9 t34) (fun t35 h_19 => 
 CallsH Try.prog 26 #[s0, t35, (.int .i64 0), (.int .i64 268435456)] h_19 (fun t36 h_20 => 
 Hp Try.prog false (Instr.extract t36 0) (fun t37 h_21 => 
 Hp Try.prog false (Instr.extract t36 1) (fun t38 h_22 => 
 Hp Try.prog true (Instr.indexAt 48 t10 i6) (fun t41 _ => 
 Hp Try.prog true (Instr.loadAt 9 t41) (fun t42 _ => 
 Hp Try.prog true (nilS r1) (fun t44 _ => 
 Hp Try.prog true (Instr.fieldAt 92 t44 0) (fun t45 _ => 
 Hp Try.prog true (Instr.loadAt 90 t45) (fun t46 _ => 
 Hp Try.prog true (Instr.indexAt 90 t46 i6) (fun t48 _ => 
 Hp Try.prog true (Instr.fieldAt 99 t48 0) (fun t49 _ => 
 Hp Try.prog true (Instr.loadAt 9 t49) (fun t50 _ => 
 Hp Try.prog true (binS .neq 9 (.tmp 42) (.tmp 50) t42 t50) (fun t51 _ => 
 Join1 (fun k_3 h_23 => guardP t51 false (k_3 t37 h_23) (k_3 undef h_23) ⟨⟩ ⟨⟩) (fun t53 _ => 
 Join1 (fun k_4 h_24 => guardP t51 false (Hp Try.prog true (convert 50 9 t53) k_4 h_24 ⟨⟩) (k_4 undef h_24) ⟨⟩ ⟨⟩) (fun t54 _ => 
 Join1 (fun k_5 h_25 => guardP t51 false (k_5 r1 h_25) (k_5 undef h_25) ⟨⟩ ⟨⟩) (fun t55 _ => 
 Join1 (fun k_6 h_26 => guardP t51 false (Hp Try.prog true (nilS t55) k_6 h_26 ⟨⟩) (k_6 undef h_26) ⟨⟩ ⟨⟩) (fun t56 _ => 
 Join1 (fun k_7 h_27 => guardP t51 false (Hp Try.prog true (Instr.fieldAt 92 t56 0) k_7 h_27 ⟨⟩) (k_7 undef h_27) ⟨⟩ ⟨⟩) (fun t57 _ => 
 Join1 (fun k_8 h_28 => guardP t51 false (Hp Try.prog true (Instr.loadAt 90 t57) k_8 h_28 ⟨⟩) (k_8 undef h_28) ⟨⟩ ⟨⟩) (fun t58 _ => 
 Join1 (fun k_9 h_29 => guardP t51 false (k_9 i6 h_29) (k_9 undef h_29) ⟨⟩ ⟨⟩) (fun t59 _ => 
 Join1 (fun k_10 h_30 => guardP t51 false (Hp Try.prog true (Instr.indexAt 90 t58 t59) k_10 h_30 ⟨⟩) (k_10 undef h_30) ⟨⟩ ⟨⟩) (fun t60 _ => 
 Join1 (fun k_11 h_31 => guardP t51 false (Hp Try.prog true (Instr.fieldAt 99 t60 1) k_11 h_31 ⟨⟩) (k_11 undef h_31) ⟨⟩ ⟨⟩) (fun t61 _ => 
 Join1 (fun k_12 h_32 => guardP t51 false (Hp Try.prog true (Instr.loadAt 9 t61) k_12 h_32 ⟨⟩) (k_12 undef h_32) ⟨⟩ ⟨⟩) (fun t62 _ => 
 Join1 (fun k_13 h_33 => guardP t51 false (Hp Try.prog true (binS .neq 9 (.tmp 54) (.tmp 62) t54 t62) k_13 h_33 ⟨⟩) (k_13 undef h_33) ⟨⟩ ⟨⟩) (fun t63 _ => 
 Hp Try.prog true (pickS t51 (.bool true) t63) (fun t64 _ => 
 Join1 (fun k_14 h_34 => guardP t64 false (k_14 t38 h_34) (k_14 undef h_34) ⟨⟩ ⟨⟩) (fun t66 _ => 
 Join1 (fun k_15 h_35 => guardP t64 false (Hp Try.prog true (binS .neq 31 (.tmp 66) (.const (.int .i64 0)) t66 (.int .i64 0)) k_15 h_35 ⟨⟩) (k_15 undef h_35) ⟨⟩ ⟨⟩) (fun t67 _ => 
 Hp Try.prog true (pickS t64 (.bool true) t67) (fun t68 _ => 
 CondP t68 (
 R (.bool false) h_22) (
 Hp Try.prog false (binS .add 3 (.tmp 28) (.const (.int .i64 1)) i6 (.int .i64 1)) (fun t29 h_36 => 
 X t29 h_36) h_22 ⟨⟩) ⟨⟩ ⟨⟩) #[] ⟨⟩) #[] ⟨⟩ ⟨⟩) #[] ⟨⟩ ⟨⟩) #[] ⟨⟩) #[] ⟨⟩ ⟨⟩) h_22 ⟨⟩ ⟨⟩) #[] ⟨⟩ ⟨⟩) #[] ⟨⟩ ⟨⟩) #[] ⟨⟩ ⟨⟩) h_22 ⟨⟩ ⟨⟩) #[] ⟨⟩ ⟨⟩) #[] ⟨⟩ ⟨⟩) #[] ⟨⟩ ⟨⟩) h_22 ⟨⟩ ⟨⟩) #[] ⟨⟩ ⟨⟩) #[] ⟨⟩) h_22 ⟨⟩) #[] ⟨⟩) #[] ⟨⟩) h_22 ⟨⟩) #[] ⟨⟩) #[] ⟨⟩) h_22 ⟨⟩) #[] ⟨⟩) h_21 ⟨⟩) h_20 ⟨⟩) ⟨⟩) h_18 ⟨⟩) h_17 ⟨⟩) (
 R (.bool true) h_17) ⟨⟩ ⟨⟩) h_16 ⟨⟩) h_15 ⟨⟩) [(.int .i64 0)] h_14 ⟨⟩) ⟨⟩ ⟨⟩) h_13 ⟨⟩) h_11 ⟨⟩ ⟨⟩) h_9 ⟨⟩ ⟨⟩) h_7 ⟨⟩ ⟨⟩) h_6 ⟨⟩) h_5 ⟨⟩) h_4 ⟨⟩) h_3 ⟨⟩) h_2 ⟨⟩) h_1 ⟨⟩) ⟨⟩

theorem n37_calls {s0 r1 : Value} {R : Value → Heap → Prop} {h : Heap} (H : n37 s0 r1 R h) : CallsH Try.prog 37 #[s0, r1] h R ⟨⟩ :=
 callsH_of_eq Try.follow (.n none .l (.n none .l (.n none .l (.n none (.n none .l (.n none (.n (some [7]) .l .l) .l)) .l)))) Try.func37 (by kernel_rfl) (by kernel_rfl) (by kernel_rfl) H

end Go.Proofs.Ytdmcaaojapcbcaa

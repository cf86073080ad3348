/- Printed by wip/tools/gen.py: the condition of each function, and that a call meets it. -/
import Derived.Test.YtcbbdnaelimpfaaGreatVcFun
import Derived.Test.YtcbbdnaelimpfaaGreatProg
import Derived.Test.YtcbbdnaelimpfaaGreatNiceA
import Derived.Test.YtcbbdnaelimpfaaGreatNiceB
set_option maxRecDepth 100000
set_option linter.unusedVariables false
namespace Go.Proofs.YtcbbdnaelimpfaaGreat
open Go.Vc

/-- palimpsest/palimpsestlaw14.CacheStates -/
def n5 (page0 b1 bits2 : Value) (R : Value → Heap → Prop) (h : Heap) : Prop :=
 Hp Tryz.prog false (binS .lss 2 (.tmp 14) (.const (.int .i64 0)) page0 (.int .i64 0)) (fun t15 h_1 => 
 Join1 (fun k h_2 => guardP t15 false (k page0 h_2) (k undef h_2) ⟨⟩ ⟨⟩) (fun t17 h_3 => 
 Join1 (fun k_1 h_4 => guardP t15 false (Hp Tryz.prog false (binS .gtr 2 (.tmp 17) (.const (.int .i64 20)) t17 (.int .i64 20)) k_1 h_4 ⟨⟩) (k_1 undef h_4) ⟨⟩ ⟨⟩) (fun t18 h_5 => 
 Hp Tryz.prog false (pickS t15 (.bool true) t18) (fun t19 h_6 => 
 Join1 (fun k_2 h_7 => guardP t19 false (k_2 b1 h_7) (k_2 undef h_7) ⟨⟩ ⟨⟩) (fun t21 h_8 => 
 Join1 (fun k_3 h_9 => guardP t19 false (Hp Tryz.prog false (Builtin.len_ #[33] 3 #[t21]) k_3 h_9 ⟨⟩) (k_3 undef h_9) ⟨⟩ ⟨⟩) (fun t22 h_10 => 
 Join1 (fun k_4 h_11 => guardP t19 false (Hp Tryz.prog false (binS .lss 3 (.tmp 22) (.const (.int .i64 1)) t22 (.int .i64 1)) k_4 h_11 ⟨⟩) (k_4 undef h_11) ⟨⟩ ⟨⟩) (fun t23 h_12 => 
 Hp Tryz.prog false (pickS t19 (.bool true) t23) (fun t24 h_13 => 
 Join1 (fun k_5 h_14 => guardP t24 false (k_5 b1 h_14) (k_5 undef h_14) ⟨⟩ ⟨⟩) (fun t26 h_15 => 
 Join1 (fun k_6 h_16 => guardP t24 false (Hp Tryz.prog false (Builtin.len_ #[33] 3 #[t26]) k_6 h_16 ⟨⟩) (k_6 undef h_16) ⟨⟩ ⟨⟩) (fun t27 h_17 => 
 Join1 (fun k_7 h_18 => guardP t24 false (Hp Tryz.prog false (binS .gtr 3 (.tmp 27) (.const (.int .i64 512)) t27 (.int .i64 512)) k_7 h_18 ⟨⟩) (k_7 undef h_18) ⟨⟩ ⟨⟩) (fun t28 h_19 => 
 Hp Tryz.prog false (pickS t24 (.bool true) t28) (fun t29 h_20 => 
 Join1 (fun k_8 h_21 => guardP t29 false (k_8 bits2 h_21) (k_8 undef h_21) ⟨⟩ ⟨⟩) (fun t31 h_22 => 
 Join1 (fun k_9 h_23 => guardP t29 false (Hp Tryz.prog false (binS .lss 3 (.tmp 31) (.const (.int .i64 9)) t31 (.int .i64 9)) k_9 h_23 ⟨⟩) (k_9 undef h_23) ⟨⟩ ⟨⟩) (fun t32 h_24 => 
 Hp Tryz.prog false (pickS t29 (.bool true) t32) (fun t33 h_25 => 
 Join1 (fun k_10 h_26 => guardP t33 false (k_10 bits2 h_26) (k_10 undef h_26) ⟨⟩ ⟨⟩) (fun t35 h_27 => 
 Join1 (fun k_11 h_28 => guardP t33 false (Hp Tryz.prog false (binS .gtr 3 (.tmp 35) (.const (.int .i64 16)) t35 (.int .i64 16)) k_11 h_28 ⟨⟩) (k_11 undef h_28) ⟨⟩ ⟨⟩) (fun t36 h_29 => 
 Hp Tryz.prog false (pickS t33 (.bool true) t36) (fun t37 h_30 => 
 CondP t37 (
 CallsH Tryz.prog 8 #[] h_30 (fun t38 h_31 => 
 R t38 h_31) ⟨⟩) (
 CallsH Tryz.prog 9 #[(.int .i64 100), (.slice none 0 0)] h_30 (fun t39 h_32 => 
 CallsH Tryz.prog 10 #[t39, (str [102]), bits2, (.int .i64 2)] h_32 (fun t43 h_33 => 
 Hp Tryz.prog false (Instr.extract t43 0) (fun t44 h_34 => 
 Hp Tryz.prog false (Instr.extract t43 1) (fun t45 h_35 => 
 Hp Tryz.prog false (binS .eql 26 (.tmp 46) (.const (.pointer none)) t39 (.pointer none)) (fun t47 h_36 => 
 Join1 (fun k_12 h_37 => guardP t47 false (k_12 t44 h_37) (k_12 undef h_37) ⟨⟩ ⟨⟩) (fun t49 h_38 => 
 Join1 (fun k_13 h_39 => guardP t47 false (Hp Tryz.prog false (binS .eql 28 (.tmp 49) (.const (.pointer none)) t49 (.pointer none)) k_13 h_39 ⟨⟩) (k_13 undef h_39) ⟨⟩ ⟨⟩) (fun t50 h_40 => 
 Hp Tryz.prog false (pickS t47 (.bool true) t50) (fun t51 h_41 => 
 Join1 (fun k_14 h_42 => guardP t51 false (k_14 t45 h_42) (k_14 undef h_42) ⟨⟩ ⟨⟩) (fun t53 h_43 => 
 Join1 (fun k_15 h_44 => guardP t51 false (CallsH Tryz.prog 11 #[t53] h_44 k_15 ⟨⟩) (k_15 undef h_44) ⟨⟩ ⟨⟩) (fun t54 h_45 => 
 Join1 (fun k_16 h_46 => guardP t51 false (Hp Tryz.prog false (binS .neq 3 (.tmp 54) (.const (.int .i64 0)) t54 (.int .i64 0)) k_16 h_46 ⟨⟩) (k_16 undef h_46) ⟨⟩ ⟨⟩) (fun t55 h_47 => 
 Hp Tryz.prog false (pickS t51 (.bool true) t55) (fun t56 h_48 => 
 CondP t56 (
 R (.bool false) h_48) (
 CallsH Tryz.prog 13 #[t44, page0, (.int .i64 0), b1] h_48 (fun t60 h_49 => 
 CallsH Tryz.prog 11 #[t60] h_49 (fun t61 h_50 => 
 Hp Tryz.prog false (binS .neq 3 (.tmp 61) (.const (.int .i64 0)) t61 (.int .i64 0)) (fun t62 h_51 => 
 Join1 (fun k_17 h_52 => guardP t62 false (k_17 t44 h_52) (k_17 undef h_52) ⟨⟩ ⟨⟩) (fun t64 h_53 => 
 Join1 (fun k_18 h_54 => guardP t62 false (k_18 page0 h_54) (k_18 undef h_54) ⟨⟩ ⟨⟩) (fun t65 h_55 => 
 Join1 (fun k_19 h_56 => guardP t62 false (CallsH Tryz.prog 23 #[t64, t65, (.bool true), (.bool false)] h_56 k_19 ⟨⟩) (k_19 undef h_56) ⟨⟩ ⟨⟩) (fun t66 h_57 => 
 Join1 (fun k_20 h_58 => guardP t62 false (Hp Tryz.prog false (Op.unary .not t66) k_20 h_58 ⟨⟩) (k_20 undef h_58) ⟨⟩ ⟨⟩) (fun t67 h_59 => 
 Hp Tryz.prog false (pickS t62 (.bool true) t67) (fun t68 h_60 => 
 Join1 (fun k_21 h_61 => guardP t68 false (k_21 t44 h_61) (k_21 undef h_61) ⟨⟩ ⟨⟩) (fun t70 h_62 => 
 Join1 (fun k_22 h_63 => guardP t68 false (k_22 page0 h_63) (k_22 undef h_63) ⟨⟩ ⟨⟩) (fun t71 h_64 => 
 Join1 (fun k_23 h_65 => guardP t68 false (CallsH Tryz.prog 15 #[t70, t71] h_65 k_23 ⟨⟩) (k_23 undef h_65) ⟨⟩ ⟨⟩) (fun t72 h_66 => 
 Join1 (fun k_24 h_67 => guardP t68 false (CallsH Tryz.prog 11 #[t72] h_67 k_24 ⟨⟩) (k_24 undef h_67) ⟨⟩ ⟨⟩) (fun t73 h_68 => 
 Join1 (fun k_25 h_69 => guardP t68 false (Hp Tryz.prog false (binS .neq 3 (.tmp 73) (.const (.int .i64 0)) t73 (.int .i64 0)) k_25 h_69 ⟨⟩) (k_25 undef h_69) ⟨⟩ ⟨⟩) (fun t74 h_70 => 
 Hp Tryz.prog false (pickS t68 (.bool true) t74) (fun t75 h_71 => 
 Join1 (fun k_26 h_72 => guardP t75 false (k_26 t44 h_72) (k_26 undef h_72) ⟨⟩ ⟨⟩) (fun t77 h_73 => 
 Join1 (fun k_27 h_74 => guardP t75 false (k_27 page0 h_74) (k_27 undef h_74) ⟨⟩ ⟨⟩) (fun t78 h_75 => 
 Join1 (fun k_28 h_76 => guardP t75 false (CallsH Tryz.prog 23 #[t77, t78, (.bool false), (.bool true)] h_76 k_28 ⟨⟩) (k_28 undef h_76) ⟨⟩ ⟨⟩) (fun t79 h_77 => 
 Join1 (fun k_29 h_78 => guardP t75 false (Hp Tryz.prog false (Op.unary .not t79) k_29 h_78 ⟨⟩) (k_29 undef h_78) ⟨⟩ ⟨⟩) (fun t80 h_79 => 
 Hp Tryz.prog false (pickS t75 (.bool true) t80) (fun t81 h_80 => 
 Join1 (fun k_30 h_81 => guardP t81 false (k_30 t39 h_81) (k_30 undef h_81) ⟨⟩ ⟨⟩) (fun t83 h_82 => 
 Join1 (fun k_31 h_83 => guardP t81 false (CallsH Tryz.prog 17 #[t83] h_83 k_31 ⟨⟩) (k_31 undef h_83) ⟨⟩ ⟨⟩) (fun t84 h_84 => 
 Join1 (fun k_32 h_85 => guardP t81 false (Hp Tryz.prog false (binS .eql 3 (.tmp 84) (.const (.int .i64 0)) t84 (.int .i64 0)) k_32 h_85 ⟨⟩) (k_32 undef h_85) ⟨⟩ ⟨⟩) (fun t85 h_86 => 
 Hp Tryz.prog false (pickS t81 (.bool true) t85) (fun t86 h_87 => 
 Join1 (fun k_33 h_88 => guardP t86 false (k_33 t44 h_88) (k_33 undef h_88) ⟨⟩ ⟨⟩) (fun t88 h_89 => 
 Join1 (fun k_34 h_90 => guardP t86 false (CallsH Tryz.prog 16 #[t88] h_90 k_34 ⟨⟩) (k_34 undef h_90) ⟨⟩ ⟨⟩) (fun t89 h_91 => 
 Join1 (fun k_35 h_92 => guardP t86 false (CallsH Tryz.prog 11 #[t89] h_92 k_35 ⟨⟩) (k_35 undef h_92) ⟨⟩ ⟨⟩) (fun t90 h_93 => 
 Join1 (fun k_36 h_94 => guardP t86 false (Hp Tryz.prog false (binS .neq 3 (.tmp 90) (.const (.int .i64 0)) t90 (.int .i64 0)) k_36 h_94 ⟨⟩) (k_36 undef h_94) ⟨⟩ ⟨⟩) (fun t91 h_95 => 
 Hp Tryz.prog false (pickS t86 (.bool true) t91) (fun t92 h_96 => 
 Join1 (fun k_37 h_97 => guardP t92 false (k_37 t44 h_97) (k_37 undef h_97) ⟨⟩ ⟨⟩) (fun t94 h_98 => 
 Join1 (fun k_38 h_99 => guardP t92 false (k_38 page0 h_99) (k_38 undef h_99) ⟨⟩ ⟨⟩) (fun t95 h_100 => 
 Join1 (fun k_39 h_101 => guardP t92 false (CallsH Tryz.prog 23 #[t94, t95, (.bool false), (.bool false)] h_101 k_39 ⟨⟩) (k_39 undef h_101) ⟨⟩ ⟨⟩) (fun t96 h_102 => 
 Join1 (fun k_40 h_103 => guardP t92 false (Hp Tryz.prog false (Op.unary .not t96) k_40 h_103 ⟨⟩) (k_40 undef h_103) ⟨⟩ ⟨⟩) (fun t97 h_104 => 
 Hp Tryz.prog false (pickS t92 (.bool true) t97) (fun t98 h_105 => 
 Join1 (fun k_41 h_106 => guardP t98 false (k_41 t39 h_106) (k_41 undef h_106) ⟨⟩ ⟨⟩) (fun t100 h_107 => 
 Join1 (fun k_42 h_108 => guardP t98 false (CallsH Tryz.prog 17 #[t100] h_108 k_42 ⟨⟩) (k_42 undef h_108) ⟨⟩ ⟨⟩) (fun t101 h_109 => 
 Join1 (fun k_43 h_110 => guardP t98 false (Hp Tryz.prog false (binS .neq 3 (.tmp 101) (.const (.int .i64 0)) t101 (.int .i64 0)) k_43 h_110 ⟨⟩) (k_43 undef h_110) ⟨⟩ ⟨⟩) (fun t102 h_111 => 
 Hp Tryz.prog false (pickS t98 (.bool true) t102) (fun t103 h_112 => 
 CondP t103 (
 R (.bool false) h_112) (
 Hp Tryz.prog false (Instr.buildSlice 33 0 #[]) (fun t104 h_113 => 
 Hp Tryz.prog false (Builtin.append_ #[33, 33] 33 #[t104, b1]) (fun t106 h_114 => 
 LoopC 1 (fun (X : Value → Heap → Prop) => fun i11 h_115 =>
 Hp Tryz.prog false (Builtin.len_ #[33] 3 #[t106]) (fun t109 h_116 => 
 Hp Tryz.prog false (binS .lss 3 (.tmp 107) (.tmp 109) i11 t109) (fun t110 h_117 => 
 CondP t110 (
 Hp Tryz.prog false (Instr.indexAt 33 t106 i11) (fun t115 h_118 => 
 Hp Tryz.prog false (Instr.loadAt 5 t115) (fun t116 h_119 => 
 Hp Tryz.prog false (binS .xor 5 (.tmp 116) (.const (.int .u8 255)) t116 (.int .u8 255)) (fun t117 h_120 => 
 Hp Tryz.prog false (Instr.indexAt 33 t106 i11) (fun t118 h_121 => 
 Hp Tryz.prog false (storeS 5 t118 t117) (fun _ h_122 => 
 Hp Tryz.prog false (binS .add 3 (.tmp 111) (.const (.int .i64 1)) i11 (.int .i64 1)) (fun t112 h_123 => 
 X t112 h_123) h_122 ⟨⟩) h_121 ⟨⟩) h_120 ⟨⟩) h_119 ⟨⟩) h_118 ⟨⟩) h_117 ⟨⟩) (
 CallsH Tryz.prog 13 #[t44, page0, (.int .i64 0), t106] h_117 (fun t122 h_124 => 
 CallsH Tryz.prog 11 #[t122] h_124 (fun t123 h_125 => 
 Hp Tryz.prog false (binS .neq 3 (.tmp 123) (.const (.int .i64 0)) t123 (.int .i64 0)) (fun t124 h_126 => 
 Join1 (fun k_44 h_127 => guardP t124 false (k_44 t44 h_127) (k_44 undef h_127) ⟨⟩ ⟨⟩) (fun t126 h_128 => 
 Join1 (fun k_45 h_129 => guardP t124 false (k_45 page0 h_129) (k_45 undef h_129) ⟨⟩ ⟨⟩) (fun t127 h_130 => 
 Join1 (fun k_46 h_131 => guardP t124 false (CallsH Tryz.prog 24 #[t126, t127] h_131 k_46 ⟨⟩) (k_46 undef h_131) ⟨⟩ ⟨⟩) (fun t128 h_132 => 
 Join1 (fun k_47 h_133 => guardP t124 false (CallsH Tryz.prog 11 #[t128] h_133 k_47 ⟨⟩) (k_47 undef h_133) ⟨⟩ ⟨⟩) (fun t129 h_134 => 
 Join1 (fun k_48 h_135 => guardP t124 false (Hp Tryz.prog false (binS .neq 3 (.tmp 129) (.const (.int .i64 0)) t129 (.int .i64 0)) k_48 h_135 ⟨⟩) (k_48 undef h_135) ⟨⟩ ⟨⟩) (fun t130 h_136 => 
 Hp Tryz.prog false (pickS t124 (.bool true) t130) (fun t131 h_137 => 
 Join1 (fun k_49 h_138 => guardP t131 false (k_49 t44 h_138) (k_49 undef h_138) ⟨⟩ ⟨⟩) (fun t133 h_139 => 
 Join1 (fun k_50 h_140 => guardP t131 false (k_50 page0 h_140) (k_50 undef h_140) ⟨⟩ ⟨⟩) (fun t134 h_141 => 
 Join1 (fun k_51 h_142 => guardP t131 false (CallsH Tryz.prog 24 #[t133, t134] h_142 k_51 ⟨⟩) (k_51 undef h_142) ⟨⟩ ⟨⟩) (fun t135 h_143 => 
 Join1 (fun k_52 h_144 => guardP t131 false (CallsH Tryz.prog 11 #[t135] h_144 k_52 ⟨⟩) (k_52 undef h_144) ⟨⟩ ⟨⟩) (fun t136 h_145 => 
 Join1 (fun k_53 h_146 => guardP t131 false (Hp Tryz.prog false (binS .neq 3 (.tmp 136) (.const (.int .i64 7)) t136 (.int .i64 7)) k_53 h_146 ⟨⟩) (k_53 undef h_146) ⟨⟩ ⟨⟩) (fun t137 h_147 => 
 Hp Tryz.prog false (pickS t131 (.bool true) t137) (fun t138 h_148 => 
 Join1 (fun k_54 h_149 => guardP t138 false (k_54 t44 h_149) (k_54 undef h_149) ⟨⟩ ⟨⟩) (fun t140 h_150 => 
 Join1 (fun k_55 h_151 => guardP t138 false (k_55 page0 h_151) (k_55 undef h_151) ⟨⟩ ⟨⟩) (fun t141 h_152 => 
 Join1 (fun k_56 h_153 => guardP t138 false (CallsH Tryz.prog 15 #[t140, t141] h_153 k_56 ⟨⟩) (k_56 undef h_153) ⟨⟩ ⟨⟩) (fun t142 h_154 => 
 Join1 (fun k_57 h_155 => guardP t138 false (CallsH Tryz.prog 11 #[t142] h_155 k_57 ⟨⟩) (k_57 undef h_155) ⟨⟩ ⟨⟩) (fun t143 h_156 => 
 Join1 (fun k_58 h_157 => guardP t138 false (Hp Tryz.prog false (binS .neq 3 (.tmp 143) (.const (.int .i64 7)) t143 (.int .i64 7)) k_58 h_157 ⟨⟩) (k_58 undef h_157) ⟨⟩ ⟨⟩) (fun t144 h_158 => 
 Hp Tryz.prog false (pickS t138 (.bool true) t144) (fun t145 h_159 => 
 Join1 (fun k_59 h_160 => guardP t145 false (k_59 t44 h_160) (k_59 undef h_160) ⟨⟩ ⟨⟩) (fun t147 h_161 => 
 Join1 (fun k_60 h_162 => guardP t145 false (k_60 page0 h_162) (k_60 undef h_162) ⟨⟩ ⟨⟩) (fun t148 h_163 => 
 Join1 (fun k_61 h_164 => guardP t145 false (CallsH Tryz.prog 23 #[t147, t148, (.bool false), (.bool false)] h_164 k_61 ⟨⟩) (k_61 undef h_164) ⟨⟩ ⟨⟩) (fun t149 h_165 => 
 Join1 (fun k_62 h_166 => guardP t145 false (Hp Tryz.prog false (Op.unary .not t149) k_62 h_166 ⟨⟩) (k_62 undef h_166) ⟨⟩ ⟨⟩) (fun t150 h_167 => 
 Hp Tryz.prog false (pickS t145 (.bool true) t150) (fun t151 h_168 => 
 CondP t151 (
 R (.bool false) h_168) (
 Hp Tryz.prog false (Builtin.len_ #[33] 3 #[b1]) (fun t156 h_169 => 
 CallsH Tryz.prog 12 #[t44, page0, (.int .i64 0), t156] h_169 (fun t157 h_170 => 
 Hp Tryz.prog false (Instr.extract t157 0) (fun t158 h_171 => 
 Hp Tryz.prog false (Instr.extract t157 1) (fun t159 h_172 => 
 CallsH Tryz.prog 11 #[t159] h_172 (fun t161 h_173 => 
 Hp Tryz.prog false (binS .eql 3 (.tmp 161) (.const (.int .i64 0)) t161 (.int .i64 0)) (fun t162 h_174 => 
 Join1 (fun k_63 h_175 => guardP t162 true (k_63 t158 h_175) (k_63 undef h_175) ⟨⟩ ⟨⟩) (fun t164 h_176 => 
 Join1 (fun k_64 h_177 => guardP t162 true (Hp Tryz.prog false (convert 33 9 t164) k_64 h_177 ⟨⟩) (k_64 undef h_177) ⟨⟩ ⟨⟩) (fun t165 h_178 => 
 Join1 (fun k_65 h_179 => guardP t162 true (k_65 b1 h_179) (k_65 undef h_179) ⟨⟩ ⟨⟩) (fun t166 h_180 => 
 Join1 (fun k_66 h_181 => guardP t162 true (Hp Tryz.prog false (convert 33 9 t166) k_66 h_181 ⟨⟩) (k_66 undef h_181) ⟨⟩ ⟨⟩) (fun t167 h_182 => 
 Join1 (fun k_67 h_183 => guardP t162 true (Hp Tryz.prog false (binS .eql 9 (.tmp 165) (.tmp 167) t165 t167) k_67 h_183 ⟨⟩) (k_67 undef h_183) ⟨⟩ ⟨⟩) (fun t168 h_184 => 
 Hp Tryz.prog false (pickS t162 t168 (.bool false)) (fun t169 h_185 => 
 Join1 (fun k_68 h_186 => guardP t169 true (CallsH Tryz.prog 8 #[] h_186 k_68 ⟨⟩) (k_68 undef h_186) ⟨⟩ ⟨⟩) (fun t171 h_187 => 
 Hp Tryz.prog false (pickS t169 t171 (.bool false)) (fun t172 h_188 => 
 R t172 h_188) h_187 ⟨⟩) h_185 ⟨⟩ ⟨⟩) h_184 ⟨⟩) h_182 ⟨⟩ ⟨⟩) h_180 ⟨⟩ ⟨⟩) h_178 ⟨⟩ ⟨⟩) h_176 ⟨⟩ ⟨⟩) h_174 ⟨⟩ ⟨⟩) h_173 ⟨⟩) ⟨⟩) h_171 ⟨⟩) h_170 ⟨⟩) ⟨⟩) h_168 ⟨⟩) ⟨⟩ ⟨⟩) h_167 ⟨⟩) h_165 ⟨⟩ ⟨⟩) h_163 ⟨⟩ ⟨⟩) h_161 ⟨⟩ ⟨⟩) h_159 ⟨⟩ ⟨⟩) h_158 ⟨⟩) h_156 ⟨⟩ ⟨⟩) h_154 ⟨⟩ ⟨⟩) h_152 ⟨⟩ ⟨⟩) h_150 ⟨⟩ ⟨⟩) h_148 ⟨⟩ ⟨⟩) h_147 ⟨⟩) h_145 ⟨⟩ ⟨⟩) h_143 ⟨⟩ ⟨⟩) h_141 ⟨⟩ ⟨⟩) h_139 ⟨⟩ ⟨⟩) h_137 ⟨⟩ ⟨⟩) h_136 ⟨⟩) h_134 ⟨⟩ ⟨⟩) h_132 ⟨⟩ ⟨⟩) h_130 ⟨⟩ ⟨⟩) h_128 ⟨⟩ ⟨⟩) h_126 ⟨⟩ ⟨⟩) h_125 ⟨⟩) ⟨⟩) ⟨⟩) ⟨⟩ ⟨⟩) h_116 ⟨⟩) h_115 ⟨⟩) [(.int .i64 0)] h_114 ⟨⟩) h_113 ⟨⟩) h_112 ⟨⟩) ⟨⟩ ⟨⟩) h_111 ⟨⟩) h_109 ⟨⟩ ⟨⟩) h_107 ⟨⟩ ⟨⟩) h_105 ⟨⟩ ⟨⟩) h_104 ⟨⟩) h_102 ⟨⟩ ⟨⟩) h_100 ⟨⟩ ⟨⟩) h_98 ⟨⟩ ⟨⟩) h_96 ⟨⟩ ⟨⟩) h_95 ⟨⟩) h_93 ⟨⟩ ⟨⟩) h_91 ⟨⟩ ⟨⟩) h_89 ⟨⟩ ⟨⟩) h_87 ⟨⟩ ⟨⟩) h_86 ⟨⟩) h_84 ⟨⟩ ⟨⟩) h_82 ⟨⟩ ⟨⟩) h_80 ⟨⟩ ⟨⟩) h_79 ⟨⟩) h_77 ⟨⟩ ⟨⟩) h_75 ⟨⟩ ⟨⟩) h_73 ⟨⟩ ⟨⟩) h_71 ⟨⟩ ⟨⟩) h_70 ⟨⟩) h_68 ⟨⟩ ⟨⟩) h_66 ⟨⟩ ⟨⟩) h_64 ⟨⟩ ⟨⟩) h_62 ⟨⟩ ⟨⟩) h_60 ⟨⟩ ⟨⟩) h_59 ⟨⟩) h_57 ⟨⟩ ⟨⟩) h_55 ⟨⟩ ⟨⟩) h_53 ⟨⟩ ⟨⟩) h_51 ⟨⟩ ⟨⟩) h_50 ⟨⟩) ⟨⟩) ⟨⟩) ⟨⟩ ⟨⟩) h_47 ⟨⟩) h_45 ⟨⟩ ⟨⟩) h_43 ⟨⟩ ⟨⟩) h_41 ⟨⟩ ⟨⟩) h_40 ⟨⟩) h_38 ⟨⟩ ⟨⟩) h_36 ⟨⟩ ⟨⟩) h_35 ⟨⟩) h_34 ⟨⟩) h_33 ⟨⟩) ⟨⟩) ⟨⟩) ⟨⟩ ⟨⟩) h_29 ⟨⟩) h_27 ⟨⟩ ⟨⟩) h_25 ⟨⟩ ⟨⟩) h_24 ⟨⟩) h_22 ⟨⟩ ⟨⟩) h_20 ⟨⟩ ⟨⟩) h_19 ⟨⟩) h_17 ⟨⟩ ⟨⟩) h_15 ⟨⟩ ⟨⟩) h_13 ⟨⟩ ⟨⟩) h_12 ⟨⟩) h_10 ⟨⟩ ⟨⟩) h_8 ⟨⟩ ⟨⟩) h_6 ⟨⟩ ⟨⟩) h_5 ⟨⟩) h_3 ⟨⟩ ⟨⟩) h_1 ⟨⟩ ⟨⟩) h ⟨⟩

theorem n5_calls {page0 b1 bits2 : Value} {R : Value → Heap → Prop} {h : Heap} (H : n5 page0 b1 bits2 R h) : CallsH Tryz.prog 5 #[page0, b1, bits2] h R ⟨⟩ :=
 callsH_of_eq Tryz.follow (.n none .l (.n none .l (.n none .l (.n none .l (.n none .l (.n none .l (.n none .l (.n none (.n none .l (.n none (.n (some [12]) .l .l) .l)) .l)))))))) Tryz.func5 (by kernel_rfl) (by kernel_rfl) (by kernel_rfl) H

/-- palimpsest/palimpsestlaw14.works -/
def n8 (R : Value → Heap → Prop) (h : Heap) : Prop :=
 CallsH Tryz.prog 9 #[(.int .i64 4096), (.slice none 0 0)] h (fun t12 h_1 => 
 CallsH Tryz.prog 10 #[t12, (str [102]), (.int .i64 9), (.int .i64 2)] h_1 (fun t15 h_2 => 
 Hp Tryz.prog false (Instr.extract t15 0) (fun t16 h_3 => 
 Hp Tryz.prog false (Instr.extract t15 1) (fun t17 h_4 => 
 Hp Tryz.prog false (binS .eql 26 (.tmp 18) (.const (.pointer none)) t12 (.pointer none)) (fun t19 h_5 => 
 Join1 (fun k h_6 => guardP t19 false (k t16 h_6) (k undef h_6) ⟨⟩ ⟨⟩) (fun t21 h_7 => 
 Join1 (fun k_1 h_8 => guardP t19 false (Hp Tryz.prog false (binS .eql 28 (.tmp 21) (.const (.pointer none)) t21 (.pointer none)) k_1 h_8 ⟨⟩) (k_1 undef h_8) ⟨⟩ ⟨⟩) (fun t22 h_9 => 
 Hp Tryz.prog false (pickS t19 (.bool true) t22) (fun t23 h_10 => 
 Join1 (fun k_2 h_11 => guardP t23 false (k_2 t17 h_11) (k_2 undef h_11) ⟨⟩ ⟨⟩) (fun t25 h_12 => 
 Join1 (fun k_3 h_13 => guardP t23 false (CallsH Tryz.prog 11 #[t25] h_13 k_3 ⟨⟩) (k_3 undef h_13) ⟨⟩ ⟨⟩) (fun t26 h_14 => 
 Join1 (fun k_4 h_15 => guardP t23 false (Hp Tryz.prog false (binS .neq 3 (.tmp 26) (.const (.int .i64 0)) t26 (.int .i64 0)) k_4 h_15 ⟨⟩) (k_4 undef h_15) ⟨⟩ ⟨⟩) (fun t27 h_16 => 
 Hp Tryz.prog false (pickS t23 (.bool true) t27) (fun t28 h_17 => 
 Join1 (fun k_5 h_18 => guardP t28 false (k_5 t16 h_18) (k_5 undef h_18) ⟨⟩ ⟨⟩) (fun t30 h_19 => 
 Join1 (fun k_6 h_20 => guardP t28 false (CallsH Tryz.prog 33 #[t30] h_20 k_6 ⟨⟩) (k_6 undef h_20) ⟨⟩ ⟨⟩) (fun t31 h_21 => 
 Join1 (fun k_7 h_22 => guardP t28 false (Hp Tryz.prog false (binS .eql 78 (.tmp 31) (.const .nilFunc) t31 .nilFunc) k_7 h_22 ⟨⟩) (k_7 undef h_22) ⟨⟩ ⟨⟩) (fun t32 h_23 => 
 Hp Tryz.prog false (pickS t28 (.bool true) t32) (fun t33 h_24 => 
 CondP t33 (
 R (.bool false) h_24) (
 Hp Tryz.prog false (Instr.buildSlice 33 1 #[(0, (.int .u8 1))]) (fun t35 h_25 => 
 CallsH Tryz.prog 13 #[t16, (.int .i64 0), (.int .i64 0), t35] h_25 (fun t36 h_26 => 
 Hp Tryz.prog false (Instr.buildSlice 33 1 #[(0, (.int .u8 2))]) (fun t38 h_27 => 
 CallsH Tryz.prog 13 #[t16, (.int .i64 1), (.int .i64 0), t38] h_27 (fun t39 h_28 => 
 CallsH Tryz.prog 14 #[t16, (.int .i64 0), (.int .i64 1)] h_28 (fun t41 h_29 => 
 CallsH Tryz.prog 14 #[t16, (.int .i64 1), (.int .i64 0)] h_29 (fun t43 h_30 => 
 CallsH Tryz.prog 15 #[t16, (.int .i64 0)] h_30 (fun t45 h_31 => 
 CallsH Tryz.prog 19 #[t12, (str [102]), (.int .i64 512), (.int .i64 1)] h_31 (fun t48 h_32 => 
 Hp Tryz.prog false (Instr.extract t48 0) (fun t49 h_33 => 
 Hp Tryz.prog false (Instr.extract t48 1) (fun t50 h_34 => 
 CallsH Tryz.prog 34 #[t16] h_34 (fun t52 h_35 => 
 Hp Tryz.prog false (Instr.alloc 81 true undef) (fun n11 h_36 => 
 Hp Tryz.prog false (storeS 81 n11 t52) (fun _ h_37 => 
 CallsH Tryz.prog 11 #[t36] h_37 (fun t54 h_38 => 
 CallsH Tryz.prog 11 #[t39] h_38 (fun t56 h_39 => 
 Hp Tryz.prog false (binS .add 3 (.tmp 54) (.tmp 56) t54 t56) (fun t57 h_40 => 
 CallsH Tryz.prog 11 #[t41] h_40 (fun t59 h_41 => 
 Hp Tryz.prog false (binS .add 3 (.tmp 57) (.tmp 59) t57 t59) (fun t60 h_42 => 
 CallsH Tryz.prog 11 #[t45] h_42 (fun t62 h_43 => 
 Hp Tryz.prog false (binS .add 3 (.tmp 60) (.tmp 62) t60 t62) (fun t63 h_44 => 
 CallsH Tryz.prog 11 #[t50] h_44 (fun t65 h_45 => 
 Hp Tryz.prog false (binS .add 3 (.tmp 63) (.tmp 65) t63 t65) (fun t66 h_46 => 
 Hp Tryz.prog false (binS .eql 3 (.tmp 66) (.const (.int .i64 0)) t66 (.int .i64 0)) (fun t67 h_47 => 
 Join1 (fun k_8 h_48 => guardP t67 true (k_8 t43 h_48) (k_8 undef h_48) ⟨⟩ ⟨⟩) (fun t69 h_49 => 
 Join1 (fun k_9 h_50 => guardP t67 true (CallsH Tryz.prog 11 #[t69] h_50 k_9 ⟨⟩) (k_9 undef h_50) ⟨⟩ ⟨⟩) (fun t70 h_51 => 
 Join1 (fun k_10 h_52 => guardP t67 true (Hp Tryz.prog false (binS .eql 3 (.tmp 70) (.const (.int .i64 240)) t70 (.int .i64 240)) k_10 h_52 ⟨⟩) (k_10 undef h_52) ⟨⟩ ⟨⟩) (fun t71 h_53 => 
 Hp Tryz.prog false (pickS t67 t71 (.bool false)) (fun t72 h_54 => 
 Join1 (fun k_11 h_55 => guardP t72 true (k_11 t49 h_55) (k_11 undef h_55) ⟨⟩ ⟨⟩) (fun t74 h_56 => 
 Join1 (fun k_12 h_57 => guardP t72 true (Hp Tryz.prog false (Builtin.len_ #[33] 3 #[t74]) k_12 h_57 ⟨⟩) (k_12 undef h_57) ⟨⟩ ⟨⟩) (fun t75 h_58 => 
 Join1 (fun k_13 h_59 => guardP t72 true (Hp Tryz.prog false (binS .eql 3 (.tmp 75) (.const (.int .i64 1)) t75 (.int .i64 1)) k_13 h_59 ⟨⟩) (k_13 undef h_59) ⟨⟩ ⟨⟩) (fun t76 h_60 => 
 Hp Tryz.prog false (pickS t72 t76 (.bool false)) (fun t77 h_61 => 
 Join1 (fun k_14 h_62 => guardP t77 true (k_14 t49 h_62) (k_14 undef h_62) ⟨⟩ ⟨⟩) (fun t79 h_63 => 
 Join1 (fun k_15 h_64 => guardP t77 true (Hp Tryz.prog false (Instr.indexAt 33 t79 (.int .i64 0)) k_15 h_64 ⟨⟩) (k_15 undef h_64) ⟨⟩ ⟨⟩) (fun t80 h_65 => 
 Join1 (fun k_16 h_66 => guardP t77 true (Hp Tryz.prog false (Instr.loadAt 5 t80) k_16 h_66 ⟨⟩) (k_16 undef h_66) ⟨⟩ ⟨⟩) (fun t81 h_67 => 
 Join1 (fun k_17 h_68 => guardP t77 true (Hp Tryz.prog false (binS .eql 5 (.tmp 81) (.const (.int .u8 2)) t81 (.int .u8 2)) k_17 h_68 ⟨⟩) (k_17 undef h_68) ⟨⟩ ⟨⟩) (fun t82 h_69 => 
 Hp Tryz.prog false (pickS t77 t82 (.bool false)) (fun t83 h_70 => 
 Join1 (fun k_18 h_71 => guardP t83 true (Hp Tryz.prog false (Instr.loadAt 81 n11) k_18 h_71 ⟨⟩) (k_18 undef h_71) ⟨⟩ ⟨⟩) (fun t85 h_72 => 
 Join1 (fun k_19 h_73 => guardP t83 true (Hp Tryz.prog false (Instr.build 81 #[(1, (.int .i64 2)), (2, (.int .i64 2)), (3, (.int .i64 1))]) k_19 h_73 ⟨⟩) (k_19 undef h_73) ⟨⟩ ⟨⟩) (fun t86 h_74 => 
 Join1 (fun k_20 h_75 => guardP t83 true (Hp Tryz.prog false (binS .eql 81 (.tmp 85) (.tmp 86) t85 t86) k_20 h_75 ⟨⟩) (k_20 undef h_75) ⟨⟩ ⟨⟩) (fun t87 h_76 => 
 Hp Tryz.prog false (pickS t83 t87 (.bool false)) (fun t88 h_77 => 
 R t88 h_77) h_76 ⟨⟩) h_74 ⟨⟩ ⟨⟩) h_72 ⟨⟩ ⟨⟩) h_70 ⟨⟩ ⟨⟩) h_69 ⟨⟩) h_67 ⟨⟩ ⟨⟩) h_65 ⟨⟩ ⟨⟩) h_63 ⟨⟩ ⟨⟩) h_61 ⟨⟩ ⟨⟩) h_60 ⟨⟩) h_58 ⟨⟩ ⟨⟩) h_56 ⟨⟩ ⟨⟩) h_54 ⟨⟩ ⟨⟩) h_53 ⟨⟩) h_51 ⟨⟩ ⟨⟩) h_49 ⟨⟩ ⟨⟩) h_47 ⟨⟩ ⟨⟩) h_46 ⟨⟩) h_45 ⟨⟩) ⟨⟩) h_43 ⟨⟩) ⟨⟩) h_41 ⟨⟩) ⟨⟩) h_39 ⟨⟩) ⟨⟩) ⟨⟩) h_36 ⟨⟩) h_35 ⟨⟩) ⟨⟩) h_33 ⟨⟩) h_32 ⟨⟩) ⟨⟩) ⟨⟩) ⟨⟩) ⟨⟩) ⟨⟩) h_26 ⟨⟩) ⟨⟩) h_24 ⟨⟩) ⟨⟩ ⟨⟩) h_23 ⟨⟩) h_21 ⟨⟩ ⟨⟩) h_19 ⟨⟩ ⟨⟩) h_17 ⟨⟩ ⟨⟩) h_16 ⟨⟩) h_14 ⟨⟩ ⟨⟩) h_12 ⟨⟩ ⟨⟩) h_10 ⟨⟩ ⟨⟩) h_9 ⟨⟩) h_7 ⟨⟩ ⟨⟩) h_5 ⟨⟩ ⟨⟩) h_4 ⟨⟩) h_3 ⟨⟩) h_2 ⟨⟩) ⟨⟩) ⟨⟩

theorem n8_calls {R : Value → Heap → Prop} {h : Heap} (H : n8  R h) : CallsH Tryz.prog 8 #[] h R ⟨⟩ :=
 callsH_of_eq Tryz.follow .l Tryz.func8 (by kernel_rfl) (by kernel_rfl) (by kernel_rfl) H

/-- palimpsest/palimpsestlaw14.file -/
def n9 (n0 fates1 : Value) (R : Value → Heap → Prop) (h : Heap) : Prop :=
 CallsH Tryz.prog 35 #[(.slice none 0 0)] h (fun t8 h_1 => 
 Hp Tryz.prog false (Instr.extract t8 0) (fun t9 h_2 => 
 Hp Tryz.prog false (Instr.extract t8 1) (fun t10 h_3 => 
 Hp Tryz.prog false (binS .eql 26 (.tmp 11) (.const (.pointer none)) t9 (.pointer none)) (fun t12 h_4 => 
 Join1 (fun k h_5 => guardP t12 false (k t10 h_5) (k undef h_5) ⟨⟩ ⟨⟩) (fun t14 h_6 => 
 Join1 (fun k_1 h_7 => guardP t12 false (CallsH Tryz.prog 11 #[t14] h_7 k_1 ⟨⟩) (k_1 undef h_7) ⟨⟩ ⟨⟩) (fun t15 h_8 => 
 Join1 (fun k_2 h_9 => guardP t12 false (Hp Tryz.prog false (binS .neq 3 (.tmp 15) (.const (.int .i64 0)) t15 (.int .i64 0)) k_2 h_9 ⟨⟩) (k_2 undef h_9) ⟨⟩ ⟨⟩) (fun t16 h_10 => 
 Hp Tryz.prog false (pickS t12 (.bool true) t16) (fun t17 h_11 => 
 Join1 (fun k_3 h_12 => guardP t17 false (k_3 t9 h_12) (k_3 undef h_12) ⟨⟩ ⟨⟩) (fun t19 h_13 => 
 Join1 (fun k_4 h_14 => guardP t17 false (CallsH Tryz.prog 36 #[t19, (str [102])] h_14 k_4 ⟨⟩) (k_4 undef h_14) ⟨⟩ ⟨⟩) (fun t20 h_15 => 
 Join1 (fun k_5 h_16 => guardP t17 false (CallsH Tryz.prog 11 #[t20] h_16 k_5 ⟨⟩) (k_5 undef h_16) ⟨⟩ ⟨⟩) (fun t21 h_17 => 
 Join1 (fun k_6 h_18 => guardP t17 false (Hp Tryz.prog false (binS .neq 3 (.tmp 21) (.const (.int .i64 0)) t21 (.int .i64 0)) k_6 h_18 ⟨⟩) (k_6 undef h_18) ⟨⟩ ⟨⟩) (fun t22 h_19 => 
 Hp Tryz.prog false (pickS t17 (.bool true) t22) (fun t23 h_20 => 
 Join1 (fun k_7 h_21 => guardP t23 false (k_7 t9 h_21) (k_7 undef h_21) ⟨⟩ ⟨⟩) (fun t25 h_22 => 
 Join1 (fun k_8 h_23 => guardP t23 false (k_8 n0 h_23) (k_8 undef h_23) ⟨⟩ ⟨⟩) (fun t26 h_24 => 
 Join1 (fun k_9 h_25 => guardP t23 false (CallsH Tryz.prog 37 #[t25, (str [102]), t26] h_25 k_9 ⟨⟩) (k_9 undef h_25) ⟨⟩ ⟨⟩) (fun t27 h_26 => 
 Join1 (fun k_10 h_27 => guardP t23 false (CallsH Tryz.prog 11 #[t27] h_27 k_10 ⟨⟩) (k_10 undef h_27) ⟨⟩ ⟨⟩) (fun t28 h_28 => 
 Join1 (fun k_11 h_29 => guardP t23 false (Hp Tryz.prog false (binS .neq 3 (.tmp 28) (.const (.int .i64 0)) t28 (.int .i64 0)) k_11 h_29 ⟨⟩) (k_11 undef h_29) ⟨⟩ ⟨⟩) (fun t29 h_30 => 
 Hp Tryz.prog false (pickS t23 (.bool true) t29) (fun t30 h_31 => 
 Join1 (fun k_12 h_32 => guardP t30 false (k_12 t9 h_32) (k_12 undef h_32) ⟨⟩ ⟨⟩) (fun t32 h_33 => 
 Join1 (fun k_13 h_34 => guardP t30 false (k_13 fates1 h_34) (k_13 undef h_34) ⟨⟩ ⟨⟩) (fun t33 h_35 => 
 Join1 (fun k_14 h_36 => guardP t30 false (CallsH Tryz.prog 38 #[t32, t33] h_36 k_14 ⟨⟩) (k_14 undef h_36) ⟨⟩ ⟨⟩) (fun t34 h_37 => 
 Join1 (fun k_15 h_38 => guardP t30 false (CallsH Tryz.prog 11 #[t34] h_38 k_15 ⟨⟩) (k_15 undef h_38) ⟨⟩ ⟨⟩) (fun t35 h_39 => 
 Join1 (fun k_16 h_40 => guardP t30 false (Hp Tryz.prog false (binS .neq 3 (.tmp 35) (.const (.int .i64 0)) t35 (.int .i64 0)) k_16 h_40 ⟨⟩) (k_16 undef h_40) ⟨⟩ ⟨⟩) (fun t36 h_41 => 
 Hp Tryz.prog false (pickS t30 (.bool true) t36) (fun t37 h_42 => 
 CondP t37 (
 R (.pointer none) h_42) (
 R t9 h_42) ⟨⟩ ⟨⟩) h_41 ⟨⟩) h_39 ⟨⟩ ⟨⟩) h_37 ⟨⟩ ⟨⟩) h_35 ⟨⟩ ⟨⟩) h_33 ⟨⟩ ⟨⟩) h_31 ⟨⟩ ⟨⟩) h_30 ⟨⟩) h_28 ⟨⟩ ⟨⟩) h_26 ⟨⟩ ⟨⟩) h_24 ⟨⟩ ⟨⟩) h_22 ⟨⟩ ⟨⟩) h_20 ⟨⟩ ⟨⟩) h_19 ⟨⟩) h_17 ⟨⟩ ⟨⟩) h_15 ⟨⟩ ⟨⟩) h_13 ⟨⟩ ⟨⟩) h_11 ⟨⟩ ⟨⟩) h_10 ⟨⟩) h_8 ⟨⟩ ⟨⟩) h_6 ⟨⟩ ⟨⟩) h_4 ⟨⟩ ⟨⟩) h_3 ⟨⟩) h_2 ⟨⟩) h_1 ⟨⟩) ⟨⟩

theorem n9_calls {n0 fates1 : Value} {R : Value → Heap → Prop} {h : Heap} (H : n9 n0 fates1 R h) : CallsH Tryz.prog 9 #[n0, fates1] h R ⟨⟩ :=
 callsH_of_eq Tryz.follow .l Tryz.func9 (by kernel_rfl) (by kernel_rfl) (by kernel_rfl) H

/-- palimpsest/cache.New -/
def n10 (s0 name1 bits2 room3 : Value) (R : Value → Heap → Prop) (h : Heap) : Prop :=
 Hp Tryz.prog false (binS .eql 26 (.tmp 13) (.const (.pointer none)) s0 (.pointer none)) (fun t14 h_1 => 
 CondP t14 (
 R (.tuple #[(.pointer none), (.int .i64 1)]) h_1) (
 Hp Tryz.prog false (binS .lss 3 (.tmp 16) (.const (.int .i64 9)) bits2 (.int .i64 9)) (fun t17 h_2 => 
 Join1 (fun k h_3 => guardP t17 false (k bits2 h_3) (k undef h_3) ⟨⟩ ⟨⟩) (fun t19 h_4 => 
 Join1 (fun k_1 h_5 => guardP t17 false (Hp Tryz.prog false (binS .gtr 3 (.tmp 19) (.const (.int .i64 16)) t19 (.int .i64 16)) k_1 h_5 ⟨⟩) (k_1 undef h_5) ⟨⟩ ⟨⟩) (fun t20 h_6 => 
 Hp Tryz.prog false (pickS t17 (.bool true) t20) (fun t21 h_7 => 
 Join1 (fun k_2 h_8 => guardP t21 false (k_2 room3 h_8) (k_2 undef h_8) ⟨⟩ ⟨⟩) (fun t23 h_9 => 
 Join1 (fun k_3 h_10 => guardP t21 false (Hp Tryz.prog false (binS .lss 3 (.tmp 23) (.const (.int .i64 1)) t23 (.int .i64 1)) k_3 h_10 ⟨⟩) (k_3 undef h_10) ⟨⟩ ⟨⟩) (fun t24 h_11 => 
 Hp Tryz.prog false (pickS t21 (.bool true) t24) (fun t25 h_12 => 
 Join1 (fun k_4 h_13 => guardP t25 false (k_4 room3 h_13) (k_4 undef h_13) ⟨⟩ ⟨⟩) (fun t27 h_14 => 
 Join1 (fun k_5 h_15 => guardP t25 false (Hp Tryz.prog false (binS .gtr 3 (.tmp 27) (.const (.int .i64 1024)) t27 (.int .i64 1024)) k_5 h_15 ⟨⟩) (k_5 undef h_15) ⟨⟩ ⟨⟩) (fun t28 h_16 => 
 Hp Tryz.prog false (pickS t25 (.bool true) t28) (fun t29 h_17 => 
 CondP t29 (
 R (.tuple #[(.pointer none), (.int .i64 2)]) h_17) (
 CallsH Tryz.prog 18 #[s0, name1] h_17 (fun t33 h_18 => 
 Hp Tryz.prog false (Instr.extract t33 0) (fun t34 h_19 => 
 Hp Tryz.prog false (Instr.extract t33 1) (fun t35 h_20 => 
 Hp Tryz.prog false (binS .neq 29 (.tmp 36) (.const (.int .i64 0)) t35 (.int .i64 0)) (fun t37 h_21 => 
 CondP t37 (
 R (.tuple #[(.pointer none), t35]) h_21) (
 Hp Tryz.prog false (Instr.makeMap 88 none) (fun t43 h_22 => 
 Hp Tryz.prog false (Instr.makeMap 90 none) (fun t44 h_23 => 
 Hp Tryz.prog false (Instr.makeMap 91 none) (fun t45 h_24 => 
 Hp Tryz.prog false (Instr.build 93 #[(0, s0), (1, name1), (2, bits2), (3, room3), (4, t43), (5, t44), (6, t45)]) (fun t46 h_25 => 
 Hp Tryz.prog false (Instr.box 93 t46) (fun t47 h_26 => 
 R (.tuple #[t47, (.int .i64 0)]) h_26) h_25 ⟨⟩) h_24 ⟨⟩) h_23 ⟨⟩) h_22 ⟨⟩) h_21 ⟨⟩) ⟨⟩ ⟨⟩) h_20 ⟨⟩) h_19 ⟨⟩) h_18 ⟨⟩) ⟨⟩) ⟨⟩ ⟨⟩) h_16 ⟨⟩) h_14 ⟨⟩ ⟨⟩) h_12 ⟨⟩ ⟨⟩) h_11 ⟨⟩) h_9 ⟨⟩ ⟨⟩) h_7 ⟨⟩ ⟨⟩) h_6 ⟨⟩) h_4 ⟨⟩ ⟨⟩) h_2 ⟨⟩ ⟨⟩) h_1 ⟨⟩) ⟨⟩ ⟨⟩) h ⟨⟩

theorem n10_calls {s0 name1 bits2 room3 : Value} {R : Value → Heap → Prop} {h : Heap} (H : n10 s0 name1 bits2 room3 R h) : CallsH Tryz.prog 10 #[s0, name1, bits2, room3] h R ⟨⟩ :=
 callsH_of_eq Tryz.follow .l Tryz.func10 (by kernel_rfl) (by kernel_rfl) (by kernel_rfl) H

/-- palimpsest/palimpsestlaw14.num -/
def n11 (e0 : Value) (R : Value → Heap → Prop) (h : Heap) : Prop :=
 R e0 h

theorem n11_calls {e0 : Value} {R : Value → Heap → Prop} {h : Heap} (H : n11 e0 R h) : CallsH Tryz.prog 11 #[e0] h R ⟨⟩ :=
 callsH_of_eq Tryz.follow .l Tryz.func11 (by kernel_rfl) (by kernel_rfl) (by kernel_rfl) H

/-- (*palimpsest/cache.Cache).Read -/
def n12 (c0 n1 at2 k3 : Value) (R : Value → Heap → Prop) (h : Heap) : Prop :=
 CallsH Tryz.prog 39 #[c0, n1, at2, k3] h (fun t17 h_1 => 
 Hp Tryz.prog false (Instr.extract t17 0) (fun t18 h_2 => 
 Hp Tryz.prog false (Instr.extract t17 1) (fun t19 h_3 => 
 Hp Tryz.prog false (binS .neq 29 (.tmp 20) (.const (.int .i64 0)) t19 (.int .i64 0)) (fun t21 h_4 => 
 CondP t21 (
 R (.tuple #[(.slice none 0 0), t19]) h_4) (
 Hp Tryz.prog false (nilS t18) (fun t24 h_5 => 
 Hp Tryz.prog false (Instr.fieldAt 99 t24 1) (fun t25 h_6 => 
 Hp Tryz.prog false (Instr.loadAt 33 t25) (fun t26 h_7 => 
 Hp Tryz.prog false (binS .add 3 (.tmp 28) (.tmp 29) at2 k3) (fun t30 h_8 => 
 Hp Tryz.prog false (Instr.sliceAt 33 t26 (some at2) (some t30) none) (fun t31 h_9 => 
 CallsH Tryz.prog 40 #[t31] h_9 (fun t32 h_10 => 
 R (.tuple #[t32, (.int .i64 0)]) h_10) ⟨⟩) h_8 ⟨⟩) h_7 ⟨⟩) h_6 ⟨⟩) h_5 ⟨⟩) h_4 ⟨⟩) ⟨⟩ ⟨⟩) h_3 ⟨⟩) h_2 ⟨⟩) h_1 ⟨⟩) ⟨⟩

theorem n12_calls {c0 n1 at2 k3 : Value} {R : Value → Heap → Prop} {h : Heap} (H : n12 c0 n1 at2 k3 R h) : CallsH Tryz.prog 12 #[c0, n1, at2, k3] h R ⟨⟩ :=
 callsH_of_eq Tryz.follow .l Tryz.func12 (by kernel_rfl) (by kernel_rfl) (by kernel_rfl) H

/-- (*palimpsest/cache.Cache).Write -/
def n13 (c0 n1 at2 b3 : Value) (R : Value → Heap → Prop) (h : Heap) : Prop :=
 Hp Tryz.prog false (Builtin.len_ #[33] 3 #[b3]) (fun t16 h_1 => 
 CallsH Tryz.prog 39 #[c0, n1, at2, t16] h_1 (fun t17 h_2 => 
 Hp Tryz.prog false (Instr.extract t17 0) (fun t18 h_3 => 
 Hp Tryz.prog false (Instr.extract t17 1) (fun t19 h_4 => 
 Hp Tryz.prog false (binS .neq 29 (.tmp 20) (.const (.int .i64 0)) t19 (.int .i64 0)) (fun t21 h_5 => 
 CondP t21 (
 R t19 h_5) (
 Hp Tryz.prog false (nilS t18) (fun t24 h_6 => 
 Hp Tryz.prog false (Instr.fieldAt 99 t24 1) (fun t25 h_7 => 
 Hp Tryz.prog false (Instr.loadAt 33 t25) (fun t26 h_8 => 
 Hp Tryz.prog false (Instr.sliceAt 33 t26 (some at2) none none) (fun t28 h_9 => 
 Hp Tryz.prog false (Builtin.copy_ #[33, 33] 3 #[t28, b3]) (fun t30 h_10 => 
 Hp Tryz.prog false (nilS t18) (fun t33 h_11 => 
 Hp Tryz.prog false (Instr.fieldAt 99 t33 2) (fun t34 h_12 => 
 Hp Tryz.prog false (Instr.loadAt 4 t34) (fun t35 h_13 => 
 Join1 (fun k h_14 => guardP t35 false (k b3 h_14) (k undef h_14) ⟨⟩ ⟨⟩) (fun t37 h_15 => 
 Join1 (fun k_1 h_16 => guardP t35 false (Hp Tryz.prog false (Builtin.len_ #[33] 3 #[t37]) k_1 h_16 ⟨⟩) (k_1 undef h_16) ⟨⟩ ⟨⟩) (fun t38 h_17 => 
 Join1 (fun k_2 h_18 => guardP t35 false (Hp Tryz.prog false (binS .gtr 3 (.tmp 38) (.const (.int .i64 0)) t38 (.int .i64 0)) k_2 h_18 ⟨⟩) (k_2 undef h_18) ⟨⟩ ⟨⟩) (fun t39 h_19 => 
 Hp Tryz.prog false (pickS t35 (.bool true) t39) (fun t40 h_20 => 
 Hp Tryz.prog false (nilS t18) (fun t41 h_21 => 
 Hp Tryz.prog false (Instr.fieldAt 99 t41 2) (fun t42 h_22 => 
 Hp Tryz.prog false (storeS 4 t42 t40) (fun _ h_23 => 
 R (.int .i64 0) h_23) h_22 ⟨⟩) h_21 ⟨⟩) h_20 ⟨⟩) h_19 ⟨⟩) h_17 ⟨⟩ ⟨⟩) h_15 ⟨⟩ ⟨⟩) h_13 ⟨⟩ ⟨⟩) h_12 ⟨⟩) h_11 ⟨⟩) h_10 ⟨⟩) h_9 ⟨⟩) h_8 ⟨⟩) h_7 ⟨⟩) h_6 ⟨⟩) h_5 ⟨⟩) ⟨⟩ ⟨⟩) h_4 ⟨⟩) h_3 ⟨⟩) h_2 ⟨⟩) ⟨⟩) h ⟨⟩

theorem n13_calls {c0 n1 at2 b3 : Value} {R : Value → Heap → Prop} {h : Heap} (H : n13 c0 n1 at2 b3 R h) : CallsH Tryz.prog 13 #[c0, n1, at2, b3] h R ⟨⟩ :=
 callsH_of_eq Tryz.follow .l Tryz.func13 (by kernel_rfl) (by kernel_rfl) (by kernel_rfl) H

/-- (*palimpsest/cache.Cache).After -/
def n14 (c0 n1 other2 : Value) (R : Value → Heap → Prop) (h : Heap) : Prop :=
 CallsH Tryz.prog 41 #[c0, n1] h (fun t11 h_1 => 
 Hp Tryz.prog false (binS .neq 29 (.tmp 12) (.const (.int .i64 0)) t11 (.int .i64 0)) (fun t13 h_2 => 
 CondP t13 (
 R t11 h_2) (
 CallsH Tryz.prog 41 #[c0, other2] h_2 (fun t17 h_3 => 
 Hp Tryz.prog false (binS .neq 29 (.tmp 18) (.const (.int .i64 0)) t17 (.int .i64 0)) (fun t19 h_4 => 
 CondP t19 (
 R t17 h_4) (
 JoinN 0 (fun (k : Heap → Prop) h_5 =>
 JoinN 0 (fun (k_1 : Heap → Prop) h_6 =>
 Hp Tryz.prog false (binS .eql 2 (.tmp 22) (.tmp 23) n1 other2) (fun t24 h_7 => 
 Join1 (fun k_2 h_8 => guardP t24 false (k_2 c0 h_8) (k_2 undef h_8) ⟨⟩ ⟨⟩) (fun t26 h_9 => 
 Join1 (fun k_3 h_10 => guardP t24 false (k_3 other2 h_10) (k_3 undef h_10) ⟨⟩ ⟨⟩) (fun t27 h_11 => 
 Join1 (fun k_4 h_12 => guardP t24 false (k_4 n1 h_12) (k_4 undef h_12) ⟨⟩ ⟨⟩) (fun t28 h_13 => 
 Join1 (fun k_5 h_14 => guardP t24 false (CallsH Tryz.prog 42 #[t26, t27, t28] h_14 k_5 ⟨⟩) (k_5 undef h_14) ⟨⟩ ⟨⟩) (fun t29 h_15 => 
 Hp Tryz.prog false (pickS t24 (.bool true) t29) (fun t30 h_16 => 
 CondP t30 (
 R (.int .i64 240) h_16) (
 CallsH Tryz.prog 43 #[c0, other2] h_16 (fun t34 h_17 => 
 Hp Tryz.prog false (Op.unary .not t34) (fun t35 h_18 => 
 CondP t35 (
 R (.int .i64 0) h_18) (
 Hp Tryz.prog false (nilS c0) (fun t38 h_19 => 
 Hp Tryz.prog false (Instr.fieldAt 93 t38 6) (fun t39 h_20 => 
 Hp Tryz.prog false (Instr.loadAt 91 t39) (fun t40 h_21 => 
 Hp Tryz.prog false (Instr.lookup 91 t40 n1 false) (fun t42 h_22 => 
 Hp Tryz.prog false (binS .eql 90 (.tmp 42) (.const (.map none)) t42 (.map none)) (fun t43 h_23 => 
 CondP t43 (
 Hp Tryz.prog false (nilS c0) (fun t45 h_24 => 
 Hp Tryz.prog false (Instr.fieldAt 93 t45 6) (fun t46 h_25 => 
 Hp Tryz.prog false (Instr.loadAt 91 t46) (fun t47 h_26 => 
 Hp Tryz.prog false (Instr.makeMap 90 none) (fun t49 h_27 => 
 Hp Tryz.prog false (unitS (Instr.mapUpdate 91 t47 n1 t49)) (fun _ h_28 => 
 k_1 h_28) h_27 ⟨⟩) h_26 ⟨⟩) h_25 ⟨⟩) h_24 ⟨⟩) h_23 ⟨⟩) (
 k_1 h_23) ⟨⟩ ⟨⟩) h_22 ⟨⟩) h_21 ⟨⟩) h_20 ⟨⟩) h_19 ⟨⟩) h_18 ⟨⟩) ⟨⟩ ⟨⟩) h_17 ⟨⟩) ⟨⟩) ⟨⟩ ⟨⟩) h_15 ⟨⟩) h_13 ⟨⟩ ⟨⟩) h_11 ⟨⟩ ⟨⟩) h_9 ⟨⟩ ⟨⟩) h_7 ⟨⟩ ⟨⟩) h_6 ⟨⟩)
 (fun h_29 =>
 k h_29) h_5 ⟨⟩ ⟨⟩)
 (fun h_30 =>
 Hp Tryz.prog false (nilS c0) (fun t51 h_31 => 
 Hp Tryz.prog false (Instr.fieldAt 93 t51 6) (fun t52 h_32 => 
 Hp Tryz.prog false (Instr.loadAt 91 t52) (fun t53 h_33 => 
 Hp Tryz.prog false (Instr.lookup 91 t53 n1 false) (fun t55 h_34 => 
 Hp Tryz.prog false (unitS (Instr.mapUpdate 90 t55 other2 (.bool true))) (fun _ h_35 => 
 R (.int .i64 0) h_35) h_34 ⟨⟩) h_33 ⟨⟩) h_32 ⟨⟩) h_31 ⟨⟩) h_30 ⟨⟩) h_4 ⟨⟩ ⟨⟩) ⟨⟩ ⟨⟩) h_3 ⟨⟩) ⟨⟩) ⟨⟩ ⟨⟩) h_1 ⟨⟩) ⟨⟩

theorem n14_calls {c0 n1 other2 : Value} {R : Value → Heap → Prop} {h : Heap} (H : n14 c0 n1 other2 R h) : CallsH Tryz.prog 14 #[c0, n1, other2] h R ⟨⟩ :=
 callsH_of_eq Tryz.follow (.n none .l (.n none .l (.n none .l (.n (some []) (.n (some []) .l .l) .l)))) Tryz.func14 (by kernel_rfl) (by kernel_rfl) (by kernel_rfl) H

/-- (*palimpsest/cache.Cache).Back -/
def n15 (c0 n1 : Value) (R : Value → Heap → Prop) (h : Heap) : Prop :=
 CallsH Tryz.prog 41 #[c0, n1] h (fun t8 h_1 => 
 Hp Tryz.prog false (binS .neq 29 (.tmp 10) (.const (.int .i64 0)) t8 (.int .i64 0)) (fun t11 h_2 => 
 CondP t11 (
 R t8 h_2) (
 Hp Tryz.prog false (nilS c0) (fun t15 h_3 => 
 Hp Tryz.prog false (Instr.fieldAt 93 t15 4) (fun t16 h_4 => 
 Hp Tryz.prog false (Instr.loadAt 88 t16) (fun t17 h_5 => 
 Hp Tryz.prog false (Instr.lookup 88 t17 n1 false) (fun t19 h_6 => 
 Hp Tryz.prog false (binS .eql 94 (.tmp 19) (.const (.pointer none)) t19 (.pointer none)) (fun t20 h_7 => 
 CondP t20 (
 R (.int .i64 7) h_7) (
 CallsH Tryz.prog 44 #[c0, n1] h_7 (fun t23 h_8 => 
 R t23 h_8) ⟨⟩) ⟨⟩ ⟨⟩) h_6 ⟨⟩) h_5 ⟨⟩) h_4 ⟨⟩) h_3 ⟨⟩) h_2 ⟨⟩) ⟨⟩ ⟨⟩) h_1 ⟨⟩) ⟨⟩

theorem n15_calls {c0 n1 : Value} {R : Value → Heap → Prop} {h : Heap} (H : n15 c0 n1 R h) : CallsH Tryz.prog 15 #[c0, n1] h R ⟨⟩ :=
 callsH_of_eq Tryz.follow .l Tryz.func15 (by kernel_rfl) (by kernel_rfl) (by kernel_rfl) H

/-- (*palimpsest/cache.Cache).Flush -/
def n16 (c0 : Value) (R : Value → Heap → Prop) (h : Heap) : Prop :=
 CallsH Tryz.prog 41 #[c0, (.int .i64 0)] h (fun t8 h_1 => 
 Hp Tryz.prog false (binS .neq 29 (.tmp 9) (.const (.int .i64 0)) t8 (.int .i64 0)) (fun t10 h_2 => 
 CondP t10 (
 R t8 h_2) (
 Hp Tryz.prog false (nilS c0) (fun t13 h_3 => 
 Hp Tryz.prog false (Instr.fieldAt 93 t13 4) (fun t14 h_4 => 
 Hp Tryz.prog false (Instr.loadAt 88 t14) (fun t15 h_5 => 
 CallsH Tryz.prog 46 #[t15] h_5 (fun t16 h_6 => 
 CallsH Tryz.prog 45 #[t16] h_6 (fun t17 h_7 => 
 Hp Tryz.prog false (Builtin.len_ #[102] 3 #[t17]) (fun t18 h_8 => 
 LoopC 1 (fun (X : Value → Heap → Prop) => fun t19 h_9 =>
 Hp Tryz.prog false (binS .lss 3 (.tmp 19) (.tmp 18) t19 t18) (fun t20 h_10 => 
 CondP t20 (
 Hp Tryz.prog false (Instr.indexAt 102 t17 t19) (fun t21 h_11 => 
 Hp Tryz.prog false (Instr.loadAt 2 t21) (fun t22 h_12 => 
 CallsH Tryz.prog 44 #[c0, t22] h_12 (fun t25 h_13 => 
 Hp Tryz.prog false (binS .neq 29 (.tmp 26) (.const (.int .i64 0)) t25 (.int .i64 0)) (fun t27 h_14 => 
 CondP t27 (
 R t25 h_14) (
 Hp Tryz.prog false (binS .add 3 (.tmp 19) (.const (.int .i64 1)) t19 (.int .i64 1)) (fun t29 h_15 => 
 X t29 h_15) h_14 ⟨⟩) ⟨⟩ ⟨⟩) h_13 ⟨⟩) ⟨⟩) h_11 ⟨⟩) h_10 ⟨⟩) (
 CallsH Tryz.prog 47 #[c0] h_10 (fun t31 h_16 => 
 R t31 h_16) ⟨⟩) ⟨⟩ ⟨⟩) h_9 ⟨⟩) [(.int .i64 0)] h_8 ⟨⟩) h_7 ⟨⟩) ⟨⟩) ⟨⟩) h_4 ⟨⟩) h_3 ⟨⟩) h_2 ⟨⟩) ⟨⟩ ⟨⟩) h_1 ⟨⟩) ⟨⟩

theorem n16_calls {c0 : Value} {R : Value → Heap → Prop} {h : Heap} (H : n16 c0 R h) : CallsH Tryz.prog 16 #[c0] h R ⟨⟩ :=
 callsH_of_eq Tryz.follow (.n none .l (.n none .l (.n none (.n none .l (.n none (.n (some [20]) .l .l) .l)) .l))) Tryz.func16 (by kernel_rfl) (by kernel_rfl) (by kernel_rfl) H

/-- (*palimpsest/store.Store).Pending -/
def n17 (s0 : Value) (R : Value → Heap → Prop) (h : Heap) : Prop :=
 Hp Tryz.prog false (Instr.alloc 3 true undef) (fun n3 h_1 => 
 Hp Tryz.prog false (storeS 3 n3 (.int .i64 0)) (fun _ h_2 => 
 JoinN 1 (fun (k : Value → Heap → Prop) h_3 =>
 CallsH Tryz.prog 48 #[s0] h_3 (fun t7 h_4 => 
 Hp Tryz.prog false (Builtin.len_ #[105] 3 #[t7]) (fun t8 h_5 => 
 JoinN 1 (fun (k_1 : Value → Heap → Prop) h_6 =>
 LoopC 2 (fun (X : Value → Value → Heap → Prop) => fun D t9 h_7 =>
 Hp Tryz.prog false (binS .lss 3 (.tmp 9) (.tmp 8) t9 t8) (fun t10 h_8 => 
 CondP t10 (
 JoinN 1 (fun (k_2 : Value → Heap → Prop) h_9 =>
 JoinN 1 (fun (k_3 : Value → Heap → Prop) h_10 =>
 Hp Tryz.prog false (Instr.indexAt 105 t7 t9) (fun t11 h_11 => 
 Hp Tryz.prog false (Instr.loadAt 9 t11) (fun t12 h_12 => 
 CallsH Tryz.prog 49 #[s0, t12] h_12 (fun t15 h_13 => 
 JoinN 1 (fun (k_4 : Value → Heap → Prop) h_14 =>
 RangeC Tryz.prog none t15 1 D (fun l args bg Nb Jb h_15 =>
 bg (fun h_16 =>
 Hp Tryz.prog false (Instr.loadAt 3 n3) (fun t17 h_17 => 
 Hp Tryz.prog false (binS .add 3 (.tmp 17) (.const (.int .i64 1)) t17 (.int .i64 1)) (fun t18 h_18 => 
 Hp Tryz.prog false (storeS 3 n3 t18) (fun _ h_19 => 
 Nb h_19) h_18 ⟨⟩) h_17 ⟨⟩) h_16 ⟨⟩) h_15)
 (fun D_1 h_20 =>
 k_4 D_1 h_20)
 (fun D_2 h_21 =>
 RetD D_2 h_21 (fun h_22 =>
 R (.int .i64 0) h_22) ⟨⟩)
 (fun id D_3 h_23 => bif Nat.beq id 2 then (k_4 D_3 h_23) else bif Nat.beq id 1 then (k_3 D_3 h_23) else bif Nat.beq id 0 then (k_1 D_3 h_23) else False) h_14 ⟨⟩ ⟨⟩ ⟨⟩ ⟨⟩)
 (fun D_4 h_24 =>
 k_3 D_4 h_24) h_13 ⟨⟩ ⟨⟩) ⟨⟩) h_11 ⟨⟩) h_10 ⟨⟩)
 (fun D_5 h_25 =>
 k_2 D_5 h_25) h_9 ⟨⟩ ⟨⟩)
 (fun D_6 h_26 =>
 Hp Tryz.prog false (binS .add 3 (.tmp 9) (.const (.int .i64 1)) t9 (.int .i64 1)) (fun t19 h_27 => 
 X D_6 t19 h_27) h_26 ⟨⟩) h_8 ⟨⟩ ⟨⟩) (
 k_1 D h_8) ⟨⟩ ⟨⟩) h_7 ⟨⟩) [(.tuple #[]), (.int .i64 0)] h_6 ⟨⟩)
 (fun D_7 h_28 =>
 k D_7 h_28) h_5 ⟨⟩ ⟨⟩) h_4 ⟨⟩) ⟨⟩)
 (fun D_8 h_29 =>
 Hp Tryz.prog false (Instr.loadAt 3 n3) (fun t20 h_30 => 
 RetD D_8 h_30 (fun h_31 =>
 R t20 h_31) ⟨⟩) h_29 ⟨⟩) h_2 ⟨⟩ ⟨⟩) h_1 ⟨⟩) h ⟨⟩

theorem n17_calls {s0 : Value} {R : Value → Heap → Prop} {h : Heap} (H : n17 s0 R h) : CallsH Tryz.prog 17 #[s0] h R ⟨⟩ :=
 callsH_of_eq Tryz.follow (.n none .l (.n none .l (.n (some [0]) (.n none .l (.n (some [0]) (.n (some [0, 10]) (.n none .l (.n none .l (.n (some [0]) (.n (some [0]) (.n none .l (.n none .l (.n (some [0]) .l .l))) .l) .l))) .l) .l)) .l))) Tryz.func17 (by kernel_rfl) (by kernel_rfl) (by kernel_rfl) H

/-- (*palimpsest/store.Store).Size -/
def n18 (s0 name1 : Value) (R : Value → Heap → Prop) (h : Heap) : Prop :=
 CallsH Tryz.prog 50 #[s0, name1] h (fun t11 h_1 => 
 Hp Tryz.prog false (Instr.extract t11 0) (fun t12 h_2 => 
 Hp Tryz.prog false (Instr.extract t11 1) (fun t13 h_3 => 
 Hp Tryz.prog false (binS .neq 29 (.tmp 14) (.const (.int .i64 0)) t13 (.int .i64 0)) (fun t15 h_4 => 
 CondP t15 (
 R (.tuple #[(.int .i64 0), t13]) h_4) (
 Hp Tryz.prog false (nilS t12) (fun t18 h_5 => 
 Hp Tryz.prog false (Instr.fieldAt 115 t18 2) (fun t19 h_6 => 
 Hp Tryz.prog false (Instr.loadAt 33 t19) (fun t20 h_7 => 
 Hp Tryz.prog false (Builtin.len_ #[33] 3 #[t20]) (fun t21 h_8 => 
 R (.tuple #[t21, (.int .i64 0)]) h_8) h_7 ⟨⟩) h_6 ⟨⟩) h_5 ⟨⟩) h_4 ⟨⟩) ⟨⟩ ⟨⟩) h_3 ⟨⟩) h_2 ⟨⟩) h_1 ⟨⟩) ⟨⟩

theorem n18_calls {s0 name1 : Value} {R : Value → Heap → Prop} {h : Heap} (H : n18 s0 name1 R h) : CallsH Tryz.prog 18 #[s0, name1] h R ⟨⟩ :=
 callsH_of_eq Tryz.follow .l Tryz.func18 (by kernel_rfl) (by kernel_rfl) (by kernel_rfl) H

/-- (*palimpsest/store.Store).Read -/
def n19 (s0 name1 at2 n3 : Value) (R : Value → Heap → Prop) (h : Heap) : Prop :=
 CallsH Tryz.prog 50 #[s0, name1] h (fun t16 h_1 => 
 Hp Tryz.prog false (Instr.extract t16 0) (fun t17 h_2 => 
 Hp Tryz.prog false (Instr.extract t16 1) (fun t18 h_3 => 
 Hp Tryz.prog false (binS .neq 29 (.tmp 20) (.const (.int .i64 0)) t18 (.int .i64 0)) (fun t21 h_4 => 
 CondP t21 (
 R (.tuple #[(.slice none 0 0), t18]) h_4) (
 Hp Tryz.prog false (binS .lss 2 (.tmp 24) (.const (.int .i64 0)) at2 (.int .i64 0)) (fun t25 h_5 => 
 Join1 (fun k h_6 => guardP t25 false (k at2 h_6) (k undef h_6) ⟨⟩ ⟨⟩) (fun t27 h_7 => 
 Join1 (fun k_1 h_8 => guardP t25 false (k_1 t17 h_8) (k_1 undef h_8) ⟨⟩ ⟨⟩) (fun t28 h_9 => 
 Join1 (fun k_2 h_10 => guardP t25 false (Hp Tryz.prog false (nilS t28) k_2 h_10 ⟨⟩) (k_2 undef h_10) ⟨⟩ ⟨⟩) (fun t29 h_11 => 
 Join1 (fun k_3 h_12 => guardP t25 false (Hp Tryz.prog false (Instr.fieldAt 115 t29 2) k_3 h_12 ⟨⟩) (k_3 undef h_12) ⟨⟩ ⟨⟩) (fun t30 h_13 => 
 Join1 (fun k_4 h_14 => guardP t25 false (Hp Tryz.prog false (Instr.loadAt 33 t30) k_4 h_14 ⟨⟩) (k_4 undef h_14) ⟨⟩ ⟨⟩) (fun t31 h_15 => 
 Join1 (fun k_5 h_16 => guardP t25 false (Hp Tryz.prog false (Builtin.len_ #[33] 3 #[t31]) k_5 h_16 ⟨⟩) (k_5 undef h_16) ⟨⟩ ⟨⟩) (fun t32 h_17 => 
 Join1 (fun k_6 h_18 => guardP t25 false (Hp Tryz.prog false (binS .gtr 2 (.tmp 27) (.tmp 32) t27 t32) k_6 h_18 ⟨⟩) (k_6 undef h_18) ⟨⟩ ⟨⟩) (fun t33 h_19 => 
 Hp Tryz.prog false (pickS t25 (.bool true) t33) (fun t34 h_20 => 
 Join1 (fun k_7 h_21 => guardP t34 false (k_7 n3 h_21) (k_7 undef h_21) ⟨⟩ ⟨⟩) (fun t36 h_22 => 
 Join1 (fun k_8 h_23 => guardP t34 false (Hp Tryz.prog false (binS .lss 3 (.tmp 36) (.const (.int .i64 0)) t36 (.int .i64 0)) k_8 h_23 ⟨⟩) (k_8 undef h_23) ⟨⟩ ⟨⟩) (fun t37 h_24 => 
 Hp Tryz.prog false (pickS t34 (.bool true) t37) (fun t38 h_25 => 
 CondP t38 (
 R (.tuple #[(.slice none 0 0), (.int .i64 4)]) h_25) (
 Hp Tryz.prog false (nilS t17) (fun t40 h_26 => 
 Hp Tryz.prog false (Instr.fieldAt 115 t40 2) (fun t41 h_27 => 
 Hp Tryz.prog false (Instr.loadAt 33 t41) (fun t42 h_28 => 
 Hp Tryz.prog false (Instr.sliceAt 33 t42 (some at2) none none) (fun t44 h_29 => 
 Hp Tryz.prog false (Builtin.len_ #[33] 3 #[t44]) (fun t48 h_30 => 
 Hp Tryz.prog false (Builtin.min_ #[3, 3] 3 #[n3, t48]) (fun t49 h_31 => 
 Hp Tryz.prog false (Instr.sliceAt 33 t44 none (some t49) none) (fun t50 h_32 => 
 CallsH Tryz.prog 51 #[t50] h_32 (fun t51 h_33 => 
 R (.tuple #[t51, (.int .i64 0)]) h_33) ⟨⟩) h_31 ⟨⟩) h_30 ⟨⟩) h_29 ⟨⟩) h_28 ⟨⟩) h_27 ⟨⟩) h_26 ⟨⟩) h_25 ⟨⟩) ⟨⟩ ⟨⟩) h_24 ⟨⟩) h_22 ⟨⟩ ⟨⟩) h_20 ⟨⟩ ⟨⟩) h_19 ⟨⟩) h_17 ⟨⟩ ⟨⟩) h_15 ⟨⟩ ⟨⟩) h_13 ⟨⟩ ⟨⟩) h_11 ⟨⟩ ⟨⟩) h_9 ⟨⟩ ⟨⟩) h_7 ⟨⟩ ⟨⟩) h_5 ⟨⟩ ⟨⟩) h_4 ⟨⟩) ⟨⟩ ⟨⟩) h_3 ⟨⟩) h_2 ⟨⟩) h_1 ⟨⟩) ⟨⟩

theorem n19_calls {s0 name1 at2 n3 : Value} {R : Value → Heap → Prop} {h : Heap} (H : n19 s0 name1 at2 n3 R h) : CallsH Tryz.prog 19 #[s0, name1, at2, n3] h R ⟨⟩ :=
 callsH_of_eq Tryz.follow .l Tryz.func19 (by kernel_rfl) (by kernel_rfl) (by kernel_rfl) H

/-- palimpsest/palimpsestlaw14.stands -/
def n23 (c0 page1 dirty2 pending3 : Value) (R : Value → Heap → Prop) (h : Heap) : Prop :=
 CallsH Tryz.prog 53 #[c0, page1] h (fun t14 h_1 => 
 Hp Tryz.prog false (Instr.extract t14 0) (fun t15 h_2 => 
 Hp Tryz.prog false (Instr.extract t14 1) (fun t16 h_3 => 
 Hp Tryz.prog false (Instr.alloc 121 true undef) (fun x9 h_4 => 
 Hp Tryz.prog false (storeS 121 x9 t15) (fun _ h_5 => 
 CallsH Tryz.prog 11 #[t16] h_5 (fun t18 h_6 => 
 Hp Tryz.prog false (binS .eql 3 (.tmp 18) (.const (.int .i64 0)) t18 (.int .i64 0)) (fun t19 h_7 => 
 Join1 (fun k h_8 => guardP t19 true (Hp Tryz.prog false (Instr.fieldAt 121 x9 0) k h_8 ⟨⟩) (k undef h_8) ⟨⟩ ⟨⟩) (fun t21 h_9 => 
 Join1 (fun k_1 h_10 => guardP t19 true (Hp Tryz.prog false (Instr.loadAt 4 t21) k_1 h_10 ⟨⟩) (k_1 undef h_10) ⟨⟩ ⟨⟩) (fun t22 h_11 => 
 Join1 (fun k_2 h_12 => guardP t19 true (k_2 dirty2 h_12) (k_2 undef h_12) ⟨⟩ ⟨⟩) (fun t23 h_13 => 
 Join1 (fun k_3 h_14 => guardP t19 true (Hp Tryz.prog false (binS .eql 4 (.tmp 22) (.tmp 23) t22 t23) k_3 h_14 ⟨⟩) (k_3 undef h_14) ⟨⟩ ⟨⟩) (fun t24 h_15 => 
 Hp Tryz.prog false (pickS t19 t24 (.bool false)) (fun t25 h_16 => 
 Join1 (fun k_4 h_17 => guardP t25 true (Hp Tryz.prog false (Instr.fieldAt 121 x9 1) k_4 h_17 ⟨⟩) (k_4 undef h_17) ⟨⟩ ⟨⟩) (fun t27 h_18 => 
 Join1 (fun k_5 h_19 => guardP t25 true (Hp Tryz.prog false (Instr.loadAt 4 t27) k_5 h_19 ⟨⟩) (k_5 undef h_19) ⟨⟩ ⟨⟩) (fun t28 h_20 => 
 Join1 (fun k_6 h_21 => guardP t25 true (k_6 pending3 h_21) (k_6 undef h_21) ⟨⟩ ⟨⟩) (fun t29 h_22 => 
 Join1 (fun k_7 h_23 => guardP t25 true (Hp Tryz.prog false (binS .eql 4 (.tmp 28) (.tmp 29) t28 t29) k_7 h_23 ⟨⟩) (k_7 undef h_23) ⟨⟩ ⟨⟩) (fun t30 h_24 => 
 Hp Tryz.prog false (pickS t25 t30 (.bool false)) (fun t31 h_25 => 
 Join1 (fun k_8 h_26 => guardP t31 true (Hp Tryz.prog false (Instr.fieldAt 121 x9 2) k_8 h_26 ⟨⟩) (k_8 undef h_26) ⟨⟩ ⟨⟩) (fun t33 h_27 => 
 Join1 (fun k_9 h_28 => guardP t31 true (Hp Tryz.prog false (Instr.loadAt 102 t33) k_9 h_28 ⟨⟩) (k_9 undef h_28) ⟨⟩ ⟨⟩) (fun t34 h_29 => 
 Join1 (fun k_10 h_30 => guardP t31 true (Hp Tryz.prog false (Builtin.len_ #[102] 3 #[t34]) k_10 h_30 ⟨⟩) (k_10 undef h_30) ⟨⟩ ⟨⟩) (fun t35 h_31 => 
 Join1 (fun k_11 h_32 => guardP t31 true (Hp Tryz.prog false (binS .eql 3 (.tmp 35) (.const (.int .i64 0)) t35 (.int .i64 0)) k_11 h_32 ⟨⟩) (k_11 undef h_32) ⟨⟩ ⟨⟩) (fun t36 h_33 => 
 Hp Tryz.prog false (pickS t31 t36 (.bool false)) (fun t37 h_34 => 
 R t37 h_34) h_33 ⟨⟩) h_31 ⟨⟩ ⟨⟩) h_29 ⟨⟩ ⟨⟩) h_27 ⟨⟩ ⟨⟩) h_25 ⟨⟩ ⟨⟩) h_24 ⟨⟩) h_22 ⟨⟩ ⟨⟩) h_20 ⟨⟩ ⟨⟩) h_18 ⟨⟩ ⟨⟩) h_16 ⟨⟩ ⟨⟩) h_15 ⟨⟩) h_13 ⟨⟩ ⟨⟩) h_11 ⟨⟩ ⟨⟩) h_9 ⟨⟩ ⟨⟩) h_7 ⟨⟩ ⟨⟩) h_6 ⟨⟩) ⟨⟩) h_4 ⟨⟩) h_3 ⟨⟩) h_2 ⟨⟩) h_1 ⟨⟩) ⟨⟩

theorem n23_calls {c0 page1 dirty2 pending3 : Value} {R : Value → Heap → Prop} {h : Heap} (H : n23 c0 page1 dirty2 pending3 R h) : CallsH Tryz.prog 23 #[c0, page1, dirty2, pending3] h R ⟨⟩ :=
 callsH_of_eq Tryz.follow .l Tryz.func23 (by kernel_rfl) (by kernel_rfl) (by kernel_rfl) H

/-- (*palimpsest/cache.Cache).Drop -/
def n24 (c0 n1 : Value) (R : Value → Heap → Prop) (h : Heap) : Prop :=
 CallsH Tryz.prog 41 #[c0, n1] h (fun t8 h_1 => 
 Hp Tryz.prog false (binS .neq 29 (.tmp 10) (.const (.int .i64 0)) t8 (.int .i64 0)) (fun t11 h_2 => 
 CondP t11 (
 R t8 h_2) (
 Hp Tryz.prog false (nilS c0) (fun t15 h_3 => 
 Hp Tryz.prog false (Instr.fieldAt 93 t15 4) (fun t16 h_4 => 
 Hp Tryz.prog false (Instr.loadAt 88 t16) (fun t17 h_5 => 
 Hp Tryz.prog false (Instr.lookup 88 t17 n1 false) (fun t19 h_6 => 
 Hp Tryz.prog false (binS .eql 94 (.tmp 19) (.const (.pointer none)) t19 (.pointer none)) (fun t20 h_7 => 
 CondP t20 (
 R (.int .i64 7) h_7) (
 Hp Tryz.prog false (nilS c0) (fun t22 h_8 => 
 Hp Tryz.prog false (Instr.fieldAt 93 t22 4) (fun t23 h_9 => 
 Hp Tryz.prog false (Instr.loadAt 88 t23) (fun t24 h_10 => 
 Hp Tryz.prog false (Builtin.delete_ #[88, 2] 0 #[t24, n1]) (fun _ h_11 => 
 Hp Tryz.prog false (nilS c0) (fun t27 h_12 => 
 Hp Tryz.prog false (Instr.fieldAt 93 t27 6) (fun t28 h_13 => 
 Hp Tryz.prog false (Instr.loadAt 91 t28) (fun t29 h_14 => 
 Hp Tryz.prog false (Builtin.delete_ #[91, 2] 0 #[t29, n1]) (fun _ h_15 => 
 CallsH Tryz.prog 54 #[c0] h_15 (fun t32 h_16 => 
 R (.int .i64 0) h_16) ⟨⟩) h_14 ⟨⟩) h_13 ⟨⟩) h_12 ⟨⟩) h_11 ⟨⟩) h_10 ⟨⟩) h_9 ⟨⟩) h_8 ⟨⟩) h_7 ⟨⟩) ⟨⟩ ⟨⟩) h_6 ⟨⟩) h_5 ⟨⟩) h_4 ⟨⟩) h_3 ⟨⟩) h_2 ⟨⟩) ⟨⟩ ⟨⟩) h_1 ⟨⟩) ⟨⟩

theorem n24_calls {c0 n1 : Value} {R : Value → Heap → Prop} {h : Heap} (H : n24 c0 n1 R h) : CallsH Tryz.prog 24 #[c0, n1] h R ⟨⟩ :=
 callsH_of_eq Tryz.follow .l Tryz.func24 (by kernel_rfl) (by kernel_rfl) (by kernel_rfl) H

/-- (*palimpsest/cache.Cache).Pages -/
def n33 (c0 : Value) (R : Value → Heap → Prop) (h : Heap) : Prop :=
 Hp Tryz.prog false (binS .eql 28 (.tmp 3) (.const (.pointer none)) c0 (.pointer none)) (fun t4 h_1 => 
 CondP t4 (
 CallsH Tryz.prog 73 #[(.slice none 0 0)] h_1 (fun t5 h_2 => 
 R t5 h_2) ⟨⟩) (
 Hp Tryz.prog false (nilS c0) (fun t7 h_3 => 
 Hp Tryz.prog false (Instr.fieldAt 93 t7 4) (fun t8 h_4 => 
 Hp Tryz.prog false (Instr.loadAt 88 t8) (fun t9 h_5 => 
 CallsH Tryz.prog 46 #[t9] h_5 (fun t10 h_6 => 
 CallsH Tryz.prog 45 #[t10] h_6 (fun t11 h_7 => 
 CallsH Tryz.prog 73 #[t11] h_7 (fun t12 h_8 => 
 R t12 h_8) ⟨⟩) ⟨⟩) ⟨⟩) h_4 ⟨⟩) h_3 ⟨⟩) h_1 ⟨⟩) ⟨⟩ ⟨⟩) h ⟨⟩

theorem n33_calls {c0 : Value} {R : Value → Heap → Prop} {h : Heap} (H : n33 c0 R h) : CallsH Tryz.prog 33 #[c0] h R ⟨⟩ :=
 callsH_of_eq Tryz.follow .l Tryz.func33 (by kernel_rfl) (by kernel_rfl) (by kernel_rfl) H

/-- (*palimpsest/cache.Cache).Counts -/
def n34 (c0 : Value) (R : Value → Heap → Prop) (h : Heap) : Prop :=
 Hp Tryz.prog false (Instr.alloc 81 true undef) (fun t2 h_1 => 
 Hp Tryz.prog false (binS .eql 28 (.tmp 3) (.const (.pointer none)) c0 (.pointer none)) (fun t4 h_2 => 
 CondP t4 (
 Hp Tryz.prog false (Instr.build 81 #[]) (fun t5 h_3 => 
 Hp Tryz.prog false (storeS 81 t2 t5) (fun _ h_4 => 
 Hp Tryz.prog true (loadCell 81 t2) (fun r _ =>
 R r h_4) h_4 ⟨⟩) h_3 ⟨⟩) h_2 ⟨⟩) (
 Hp Tryz.prog false (nilS c0) (fun t7 h_5 => 
 Hp Tryz.prog false (Instr.fieldAt 93 t7 8) (fun t8 h_6 => 
 Hp Tryz.prog false (Instr.loadAt 81 t8) (fun t9 h_7 => 
 Hp Tryz.prog false (storeS 81 t2 t9) (fun _ h_8 => 
 Hp Tryz.prog true (loadCell 81 t2) (fun r_1 _ =>
 R r_1 h_8) h_8 ⟨⟩) h_7 ⟨⟩) h_6 ⟨⟩) h_5 ⟨⟩) h_2 ⟨⟩) ⟨⟩ ⟨⟩) h_1 ⟨⟩) h ⟨⟩

theorem n34_calls {c0 : Value} {R : Value → Heap → Prop} {h : Heap} (H : n34 c0 R h) : CallsH Tryz.prog 34 #[c0] h R ⟨⟩ :=
 callsH_of_eq Tryz.follow .l Tryz.func34 (by kernel_rfl) (by kernel_rfl) (by kernel_rfl) H

/-- palimpsest/store.New -/
def n35 (fates0 : Value) (R : Value → Heap → Prop) (h : Heap) : Prop :=
 CallsH Tryz.prog 74 #[fates0] h (fun t5 h_1 => 
 Hp Tryz.prog false (Op.unary .not t5) (fun t6 h_2 => 
 CondP t6 (
 R (.tuple #[(.pointer none), (.int .i64 2)]) h_2) (
 Hp Tryz.prog false (Instr.makeMap 153 none) (fun t7 h_3 => 
 CallsH Tryz.prog 75 #[fates0] h_3 (fun t9 h_4 => 
 Hp Tryz.prog false (Instr.build 156 #[(0, t7), (1, t9)]) (fun t10 h_5 => 
 Hp Tryz.prog false (Instr.box 156 t10) (fun t11 h_6 => 
 R (.tuple #[t11, (.int .i64 0)]) h_6) h_5 ⟨⟩) h_4 ⟨⟩) ⟨⟩) h_2 ⟨⟩) ⟨⟩ ⟨⟩) h_1 ⟨⟩) ⟨⟩

theorem n35_calls {fates0 : Value} {R : Value → Heap → Prop} {h : Heap} (H : n35 fates0 R h) : CallsH Tryz.prog 35 #[fates0] h R ⟨⟩ :=
 callsH_of_eq Tryz.follow .l Tryz.func35 (by kernel_rfl) (by kernel_rfl) (by kernel_rfl) H

/-- (*palimpsest/store.Store).Create -/
def n36 (s0 name1 : Value) (R : Value → Heap → Prop) (h : Heap) : Prop :=
 CallsH Tryz.prog 76 #[s0, name1] h (fun t12 h_1 => 
 Hp Tryz.prog false (binS .neq 29 (.tmp 13) (.const (.int .i64 0)) t12 (.int .i64 0)) (fun t14 h_2 => 
 CondP t14 (
 R t12 h_2) (
 Hp Tryz.prog false (nilS s0) (fun t18 h_3 => 
 Hp Tryz.prog false (Instr.fieldAt 156 t18 0) (fun t19 h_4 => 
 Hp Tryz.prog false (Instr.loadAt 153 t19) (fun t20 h_5 => 
 Hp Tryz.prog false (Instr.lookup 153 t20 name1 true) (fun t22 h_6 => 
 Hp Tryz.prog false (Instr.extract t22 0) (fun t23 h_7 => 
 Hp Tryz.prog false (Instr.extract t22 1) (fun t24 h_8 => 
 CondP t24 (
 R (.int .i64 8) h_8) (
 Hp Tryz.prog false (nilS s0) (fun t27 h_9 => 
 Hp Tryz.prog false (Instr.fieldAt 156 t27 0) (fun t28 h_10 => 
 Hp Tryz.prog false (Instr.loadAt 153 t28) (fun t29 h_11 => 
 Hp Tryz.prog false (Builtin.len_ #[153] 3 #[t29]) (fun t30 h_12 => 
 Hp Tryz.prog false (binS .geq 3 (.tmp 30) (.const (.int .i64 256)) t30 (.int .i64 256)) (fun t31 h_13 => 
 CondP t31 (
 R (.int .i64 6) h_13) (
 CallsH Tryz.prog 77 #[s0] h_13 (fun t34 h_14 => 
 Hp Tryz.prog false (Instr.extract t34 0) (fun t35 h_15 => 
 Hp Tryz.prog false (Instr.extract t34 1) (fun t36 h_16 => 
 Hp Tryz.prog false (binS .neq 29 (.tmp 37) (.const (.int .i64 0)) t35 (.int .i64 0)) (fun t38 h_17 => 
 CondP t38 (
 R t35 h_17) (
 Hp Tryz.prog false (nilS s0) (fun t41 h_18 => 
 Hp Tryz.prog false (Instr.fieldAt 156 t41 0) (fun t42 h_19 => 
 Hp Tryz.prog false (Instr.loadAt 153 t42) (fun t43 h_20 => 
 Hp Tryz.prog false (Instr.build 115 #[]) (fun t45 h_21 => 
 Hp Tryz.prog false (Instr.box 115 t45) (fun t46 h_22 => 
 Hp Tryz.prog false (unitS (Instr.mapUpdate 153 t43 name1 t46)) (fun _ h_23 => 
 R (.int .i64 0) h_23) h_22 ⟨⟩) h_21 ⟨⟩) h_20 ⟨⟩) h_19 ⟨⟩) h_18 ⟨⟩) h_17 ⟨⟩) ⟨⟩ ⟨⟩) h_16 ⟨⟩) h_15 ⟨⟩) h_14 ⟨⟩) ⟨⟩) ⟨⟩ ⟨⟩) h_12 ⟨⟩) h_11 ⟨⟩) h_10 ⟨⟩) h_9 ⟨⟩) h_8 ⟨⟩) ⟨⟩ ⟨⟩) h_7 ⟨⟩) h_6 ⟨⟩) h_5 ⟨⟩) h_4 ⟨⟩) h_3 ⟨⟩) h_2 ⟨⟩) ⟨⟩ ⟨⟩) h_1 ⟨⟩) ⟨⟩

theorem n36_calls {s0 name1 : Value} {R : Value → Heap → Prop} {h : Heap} (H : n36 s0 name1 R h) : CallsH Tryz.prog 36 #[s0, name1] h R ⟨⟩ :=
 callsH_of_eq Tryz.follow .l Tryz.func36 (by kernel_rfl) (by kernel_rfl) (by kernel_rfl) H

/-- (*palimpsest/store.Store).Resize -/
def n37 (s0 name1 size2 : Value) (R : Value → Heap → Prop) (h : Heap) : Prop :=
 CallsH Tryz.prog 50 #[s0, name1] h (fun t17 h_1 => 
 Hp Tryz.prog false (Instr.extract t17 0) (fun t18 h_2 => 
 Hp Tryz.prog false (Instr.extract t17 1) (fun t19 h_3 => 
 Hp Tryz.prog false (binS .neq 29 (.tmp 21) (.const (.int .i64 0)) t19 (.int .i64 0)) (fun t22 h_4 => 
 CondP t22 (
 R t19 h_4) (
 Hp Tryz.prog false (binS .lss 2 (.tmp 25) (.const (.int .i64 0)) size2 (.int .i64 0)) (fun t26 h_5 => 
 CondP t26 (
 R (.int .i64 4) h_5) (
 Hp Tryz.prog false (binS .gtr 2 (.tmp 28) (.const (.int .i64 268435456)) size2 (.int .i64 268435456)) (fun t29 h_6 => 
 CondP t29 (
 R (.int .i64 6) h_6) (
 CallsH Tryz.prog 77 #[s0] h_6 (fun t32 h_7 => 
 Hp Tryz.prog false (Instr.extract t32 0) (fun t33 h_8 => 
 Hp Tryz.prog false (Instr.extract t32 1) (fun t34 h_9 => 
 Hp Tryz.prog false (binS .neq 29 (.tmp 35) (.const (.int .i64 0)) t33 (.int .i64 0)) (fun t36 h_10 => 
 CondP t36 (
 R t33 h_10) (
 CallsH Tryz.prog 78 #[t18, size2] h_10 (fun t40 h_11 => 
 Hp Tryz.prog true (nilS t18) (fun t44 _ => 
 Hp Tryz.prog true (Instr.fieldAt 115 t44 2) (fun t45 _ => 
 Hp Tryz.prog true (Instr.loadAt 33 t45) (fun t46 _ => 
 Hp Tryz.prog true (Instr.sliceAt 33 t46 none (some size2) (some size2)) (fun t49 _ => 
 Hp Tryz.prog true (nilS t18) (fun t51 _ => 
 Hp Tryz.prog true (Instr.fieldAt 115 t51 0) (fun t52 _ => 
 Hp Tryz.prog true (Instr.loadAt 33 t52) (fun t53 _ => 
 Hp Tryz.prog true (Instr.sliceAt 33 t53 none (some size2) (some size2)) (fun t56 _ => 
 Hp Tryz.prog true (nilS t18) (fun t57 _ => 
 Hp Tryz.prog true (Instr.fieldAt 115 t57 2) (fun t58 _ => 
 Hp Tryz.prog false (storeS 33 t58 t49) (fun _ h_12 => 
 Hp Tryz.prog true (nilS t18) (fun t59 _ => 
 Hp Tryz.prog true (Instr.fieldAt 115 t59 0) (fun t60 _ => 
 Hp Tryz.prog false (storeS 33 t60 t56) (fun _ h_13 => 
 Hp Tryz.prog false (nilS t18) (fun t62 h_14 => 
 Hp Tryz.prog false (Instr.fieldAt 115 t62 1) (fun t63 h_15 => 
 Hp Tryz.prog false (Instr.loadAt 113 t63) (fun t64 h_16 => 
 Hp Tryz.prog false (Builtin.len_ #[113] 3 #[t64]) (fun t65 h_17 => 
 LoopC 2 (fun (X : Value → Value → Heap → Prop) => fun stay11 t66 h_18 =>
 Hp Tryz.prog false (binS .lss 3 (.tmp 66) (.tmp 65) t66 t65) (fun t67 h_19 => 
 CondP t67 (
 JoinN 1 (fun (k : Value → Heap → Prop) h_20 =>
 JoinN 1 (fun (k_1 : Value → Heap → Prop) h_21 =>
 Hp Tryz.prog false (Instr.indexAt 113 t64 t66) (fun t68 h_22 => 
 Hp Tryz.prog false (Instr.loadAt 162 t68) (fun t69 h_23 => 
 Hp Tryz.prog false (Instr.alloc 162 true undef) (fun p13 h_24 => 
 Hp Tryz.prog false (storeS 162 p13 t69) (fun _ h_25 => 
 Hp Tryz.prog false (Instr.fieldAt 162 p13 0) (fun t70 h_26 => 
 Hp Tryz.prog false (Instr.loadAt 2 t70) (fun t71 h_27 => 
 Hp Tryz.prog false (binS .lss 2 (.tmp 71) (.tmp 72) t71 size2) (fun t73 h_28 => 
 CondP t73 (
 Hp Tryz.prog false (Instr.fieldAt 162 p13 1) (fun t74 h_29 => 
 Hp Tryz.prog false (Instr.loadAt 33 t74) (fun t75 h_30 => 
 Hp Tryz.prog false (Instr.fieldAt 162 p13 1) (fun t76 h_31 => 
 Hp Tryz.prog false (Instr.loadAt 33 t76) (fun t77 h_32 => 
 Hp Tryz.prog false (Builtin.len_ #[33] 3 #[t77]) (fun t78 h_33 => 
 Hp Tryz.prog false (Instr.fieldAt 162 p13 0) (fun t80 h_34 => 
 Hp Tryz.prog false (Instr.loadAt 2 t80) (fun t81 h_35 => 
 Hp Tryz.prog false (binS .sub 2 (.tmp 79) (.tmp 81) size2 t81) (fun t82 h_36 => 
 Hp Tryz.prog false (Builtin.min_ #[2, 2] 2 #[t78, t82]) (fun t83 h_37 => 
 Hp Tryz.prog false (Instr.sliceAt 33 t75 none (some t83) none) (fun t84 h_38 => 
 Hp Tryz.prog false (Instr.fieldAt 162 p13 1) (fun t85 h_39 => 
 Hp Tryz.prog false (storeS 33 t85 t84) (fun _ h_40 => 
 Hp Tryz.prog false (Instr.loadAt 162 p13) (fun t87 h_41 => 
 Hp Tryz.prog false (Instr.buildSlice 113 1 #[(0, t87)]) (fun t88 h_42 => 
 Hp Tryz.prog false (Builtin.append_ #[113, 113] 113 #[stay11, t88]) (fun t89 h_43 => 
 k_1 t89 h_43) h_42 ⟨⟩) h_41 ⟨⟩) h_40 ⟨⟩) h_39 ⟨⟩) h_38 ⟨⟩) h_37 ⟨⟩) h_36 ⟨⟩) h_35 ⟨⟩) h_34 ⟨⟩) h_33 ⟨⟩) h_32 ⟨⟩) h_31 ⟨⟩) h_30 ⟨⟩) h_29 ⟨⟩) h_28 ⟨⟩) (
 k_1 stay11 h_28) ⟨⟩ ⟨⟩) h_27 ⟨⟩) h_26 ⟨⟩) h_25 ⟨⟩) h_24 ⟨⟩) h_23 ⟨⟩) h_22 ⟨⟩) h_21 ⟨⟩)
 (fun stay11_1 h_44 =>
 k stay11_1 h_44) h_20 ⟨⟩ ⟨⟩)
 (fun stay11_2 h_45 =>
 Hp Tryz.prog false (binS .add 3 (.tmp 66) (.const (.int .i64 1)) t66 (.int .i64 1)) (fun t90 h_46 => 
 X stay11_2 t90 h_46) h_45 ⟨⟩) h_19 ⟨⟩ ⟨⟩) (
 Hp Tryz.prog false (nilS t18) (fun t93 h_47 => 
 Hp Tryz.prog false (Instr.fieldAt 115 t93 1) (fun t94 h_48 => 
 Hp Tryz.prog false (storeS 113 t94 stay11) (fun _ h_49 => 
 R (.int .i64 0) h_49) h_48 ⟨⟩) h_47 ⟨⟩) h_19 ⟨⟩) ⟨⟩ ⟨⟩) h_18 ⟨⟩) [(.slice none 0 0), (.int .i64 0)] h_17 ⟨⟩) h_16 ⟨⟩) h_15 ⟨⟩) h_14 ⟨⟩) h_13 ⟨⟩) h_12 ⟨⟩) #[] ⟨⟩) #[] ⟨⟩) h_11 ⟨⟩) #[] ⟨⟩) #[] ⟨⟩) #[] ⟨⟩) h_11 ⟨⟩) #[] ⟨⟩) #[] ⟨⟩) #[] ⟨⟩) h_11 ⟨⟩) #[] ⟨⟩) #[] ⟨⟩) ⟨⟩) ⟨⟩ ⟨⟩) h_9 ⟨⟩) h_8 ⟨⟩) h_7 ⟨⟩) ⟨⟩) ⟨⟩ ⟨⟩) h_5 ⟨⟩) ⟨⟩ ⟨⟩) h_4 ⟨⟩) ⟨⟩ ⟨⟩) h_3 ⟨⟩) h_2 ⟨⟩) h_1 ⟨⟩) ⟨⟩

theorem n37_calls {s0 name1 size2 : Value} {R : Value → Heap → Prop} {h : Heap} (H : n37 s0 name1 size2 R h) : CallsH Tryz.prog 37 #[s0, name1, size2] h R ⟨⟩ :=
 callsH_of_eq Tryz.follow (.n none .l (.n none .l (.n none .l (.n none .l (.n none .l (.n none .l (.n none .l (.n none (.n none .l (.n none (.n (some [12, 67]) (.n none .l (.n none .l (.n (some [12]) (.n (some [12]) .l .l) .l))) .l) .l)) .l)))))))) Tryz.func37 (by kernel_rfl) (by kernel_rfl) (by kernel_rfl) H

/-- (*palimpsest/store.Store).Feed -/
def n38 (s0 fates1 : Value) (R : Value → Heap → Prop) (h : Heap) : Prop :=
 CallsH Tryz.prog 79 #[s0] h (fun t7 h_1 => 
 CondP t7 (
 R (.int .i64 1) h_1) (
 CallsH Tryz.prog 74 #[fates1] h_1 (fun t10 h_2 => 
 Hp Tryz.prog false (Op.unary .not t10) (fun t11 h_3 => 
 CondP t11 (
 R (.int .i64 2) h_3) (
 Hp Tryz.prog false (nilS s0) (fun t14 h_4 => 
 Hp Tryz.prog false (Instr.fieldAt 156 t14 1) (fun t15 h_5 => 
 Hp Tryz.prog false (Instr.loadAt 48 t15) (fun t16 h_6 => 
 Hp Tryz.prog false (Builtin.append_ #[48, 48] 48 #[t16, fates1]) (fun t18 h_7 => 
 Hp Tryz.prog false (nilS s0) (fun t19 h_8 => 
 Hp Tryz.prog false (Instr.fieldAt 156 t19 1) (fun t20 h_9 => 
 Hp Tryz.prog false (storeS 48 t20 t18) (fun _ h_10 => 
 R (.int .i64 0) h_10) h_9 ⟨⟩) h_8 ⟨⟩) h_7 ⟨⟩) h_6 ⟨⟩) h_5 ⟨⟩) h_4 ⟨⟩) h_3 ⟨⟩) ⟨⟩ ⟨⟩) h_2 ⟨⟩) ⟨⟩) ⟨⟩ ⟨⟩) ⟨⟩

theorem n38_calls {s0 fates1 : Value} {R : Value → Heap → Prop} {h : Heap} (H : n38 s0 fates1 R h) : CallsH Tryz.prog 38 #[s0, fates1] h R ⟨⟩ :=
 callsH_of_eq Tryz.follow .l Tryz.func38 (by kernel_rfl) (by kernel_rfl) (by kernel_rfl) H

/-- (*palimpsest/cache.Cache).use -/
def n39 (c0 n1 at2 k3 : Value) (R : Value → Heap → Prop) (h : Heap) : Prop :=
 CallsH Tryz.prog 41 #[c0, n1] h (fun t20 h_1 => 
 Hp Tryz.prog false (binS .neq 29 (.tmp 21) (.const (.int .i64 0)) t20 (.int .i64 0)) (fun t22 h_2 => 
 CondP t22 (
 R (.tuple #[(.pointer none), t20]) h_2) (
 Hp Tryz.prog false (binS .lss 3 (.tmp 24) (.const (.int .i64 0)) at2 (.int .i64 0)) (fun t25 h_3 => 
 Join1 (fun k h_4 => guardP t25 false (k k3 h_4) (k undef h_4) ⟨⟩ ⟨⟩) (fun t27 h_5 => 
 Join1 (fun k_1 h_6 => guardP t25 false (Hp Tryz.prog false (binS .lss 3 (.tmp 27) (.const (.int .i64 0)) t27 (.int .i64 0)) k_1 h_6 ⟨⟩) (k_1 undef h_6) ⟨⟩ ⟨⟩) (fun t28 h_7 => 
 Hp Tryz.prog false (pickS t25 (.bool true) t28) (fun t29 h_8 => 
 Join1 (fun k_2 h_9 => guardP t29 false (k_2 at2 h_9) (k_2 undef h_9) ⟨⟩ ⟨⟩) (fun t31 h_10 => 
 Join1 (fun k_3 h_11 => guardP t29 false (k_3 c0 h_11) (k_3 undef h_11) ⟨⟩ ⟨⟩) (fun t32 h_12 => 
 Join1 (fun k_4 h_13 => guardP t29 false (Hp Tryz.prog false (nilS t32) k_4 h_13 ⟨⟩) (k_4 undef h_13) ⟨⟩ ⟨⟩) (fun t33 h_14 => 
 Join1 (fun k_5 h_15 => guardP t29 false (Hp Tryz.prog false (Instr.fieldAt 93 t33 2) k_5 h_15 ⟨⟩) (k_5 undef h_15) ⟨⟩ ⟨⟩) (fun t34 h_16 => 
 Join1 (fun k_6 h_17 => guardP t29 false (Hp Tryz.prog false (Instr.loadAt 3 t34) k_6 h_17 ⟨⟩) (k_6 undef h_17) ⟨⟩ ⟨⟩) (fun t35 h_18 => 
 Join1 (fun k_7 h_19 => guardP t29 false (Hp Tryz.prog false (binS .shl 3 (.const (.int .i64 1)) (.tmp 35) (.int .i64 1) t35) k_7 h_19 ⟨⟩) (k_7 undef h_19) ⟨⟩ ⟨⟩) (fun t36 h_20 => 
 Join1 (fun k_8 h_21 => guardP t29 false (Hp Tryz.prog false (binS .gtr 3 (.tmp 31) (.tmp 36) t31 t36) k_8 h_21 ⟨⟩) (k_8 undef h_21) ⟨⟩ ⟨⟩) (fun t37 h_22 => 
 Hp Tryz.prog false (pickS t29 (.bool true) t37) (fun t38 h_23 => 
 Join1 (fun k_9 h_24 => guardP t38 false (k_9 k3 h_24) (k_9 undef h_24) ⟨⟩ ⟨⟩) (fun t40 h_25 => 
 Join1 (fun k_10 h_26 => guardP t38 false (k_10 c0 h_26) (k_10 undef h_26) ⟨⟩ ⟨⟩) (fun t41 h_27 => 
 Join1 (fun k_11 h_28 => guardP t38 false (Hp Tryz.prog false (nilS t41) k_11 h_28 ⟨⟩) (k_11 undef h_28) ⟨⟩ ⟨⟩) (fun t42 h_29 => 
 Join1 (fun k_12 h_30 => guardP t38 false (Hp Tryz.prog false (Instr.fieldAt 93 t42 2) k_12 h_30 ⟨⟩) (k_12 undef h_30) ⟨⟩ ⟨⟩) (fun t43 h_31 => 
 Join1 (fun k_13 h_32 => guardP t38 false (Hp Tryz.prog false (Instr.loadAt 3 t43) k_13 h_32 ⟨⟩) (k_13 undef h_32) ⟨⟩ ⟨⟩) (fun t44 h_33 => 
 Join1 (fun k_14 h_34 => guardP t38 false (Hp Tryz.prog false (binS .shl 3 (.const (.int .i64 1)) (.tmp 44) (.int .i64 1) t44) k_14 h_34 ⟨⟩) (k_14 undef h_34) ⟨⟩ ⟨⟩) (fun t45 h_35 => 
 Join1 (fun k_15 h_36 => guardP t38 false (k_15 at2 h_36) (k_15 undef h_36) ⟨⟩ ⟨⟩) (fun t46 h_37 => 
 Join1 (fun k_16 h_38 => guardP t38 false (Hp Tryz.prog false (binS .sub 3 (.tmp 45) (.tmp 46) t45 t46) k_16 h_38 ⟨⟩) (k_16 undef h_38) ⟨⟩ ⟨⟩) (fun t47 h_39 => 
 Join1 (fun k_17 h_40 => guardP t38 false (Hp Tryz.prog false (binS .gtr 3 (.tmp 40) (.tmp 47) t40 t47) k_17 h_40 ⟨⟩) (k_17 undef h_40) ⟨⟩ ⟨⟩) (fun t48 h_41 => 
 Hp Tryz.prog false (pickS t38 (.bool true) t48) (fun t49 h_42 => 
 CondP t49 (
 R (.tuple #[(.pointer none), (.int .i64 2)]) h_42) (
 Hp Tryz.prog true (nilS c0) (fun t52 _ => 
 Hp Tryz.prog true (Instr.fieldAt 93 t52 0) (fun t53 _ => 
 Hp Tryz.prog true (Instr.loadAt 26 t53) (fun t54 _ => 
 Hp Tryz.prog true (nilS c0) (fun t56 _ => 
 Hp Tryz.prog true (Instr.fieldAt 93 t56 1) (fun t57 _ => 
 Hp Tryz.prog true (Instr.loadAt 9 t57) (fun t58 _ => 
 CallsH Tryz.prog 18 #[t54, t58] h_42 (fun t59 h_43 => 
 Hp Tryz.prog true (Instr.extract t59 0) (fun t60 _ => 
 Hp Tryz.prog true (Instr.extract t59 1) (fun t61 _ => 
 Hp Tryz.prog false (binS .neq 29 (.tmp 62) (.const (.int .i64 0)) t61 (.int .i64 0)) (fun t63 h_44 => 
 CondP t63 (
 R (.tuple #[(.pointer none), t61]) h_44) (
 Hp Tryz.prog false (nilS c0) (fun t66 h_45 => 
 Hp Tryz.prog false (Instr.fieldAt 93 t66 4) (fun t67 h_46 => 
 Hp Tryz.prog false (Instr.loadAt 88 t67) (fun t68 h_47 => 
 Hp Tryz.prog false (Instr.lookup 88 t68 n1 false) (fun t70 h_48 => 
 JoinN 1 (fun (k_18 : Value → Heap → Prop) h_49 =>
 Hp Tryz.prog false (binS .eql 94 (.tmp 71) (.const (.pointer none)) t70 (.pointer none)) (fun t72 h_50 => 
 CondP t72 (
 CallsH Tryz.prog 80 #[c0] h_50 (fun t74 h_51 => 
 Hp Tryz.prog false (binS .neq 29 (.tmp 75) (.const (.int .i64 0)) t74 (.int .i64 0)) (fun t76 h_52 => 
 CondP t76 (
 R (.tuple #[(.pointer none), t74]) h_52) (
 Hp Tryz.prog false (nilS c0) (fun t80 h_53 => 
 Hp Tryz.prog false (Instr.fieldAt 93 t80 2) (fun t81 h_54 => 
 Hp Tryz.prog false (Instr.loadAt 3 t81) (fun t82 h_55 => 
 Hp Tryz.prog false (binS .shl 3 (.const (.int .i64 1)) (.tmp 82) (.int .i64 1) t82) (fun t83 h_56 => 
 Hp Tryz.prog false (Instr.makeSlice 33 t83 t83) (fun t84 h_57 => 
 Hp Tryz.prog false (Instr.build 99 #[(0, n1), (1, t84)]) (fun t85 h_58 => 
 Hp Tryz.prog false (Instr.box 99 t85) (fun t86 h_59 => 
 Hp Tryz.prog true (nilS c0) (fun t89 _ => 
 Hp Tryz.prog true (Instr.fieldAt 93 t89 0) (fun t90 _ => 
 Hp Tryz.prog true (Instr.loadAt 26 t90) (fun t91 _ => 
 Hp Tryz.prog true (nilS c0) (fun t93 _ => 
 Hp Tryz.prog true (Instr.fieldAt 93 t93 1) (fun t94 _ => 
 Hp Tryz.prog true (Instr.loadAt 9 t94) (fun t95 _ => 
 CallsH Tryz.prog 18 #[t91, t95] h_59 (fun t96 h_60 => 
 Hp Tryz.prog true (Instr.extract t96 0) (fun t97 _ => 
 Hp Tryz.prog true (Instr.extract t96 1) (fun t98 _ => 
 JoinN 0 (fun (k_19 : Heap → Prop) h_61 =>
 Hp Tryz.prog false (nilS c0) (fun t101 h_62 => 
 Hp Tryz.prog false (Instr.fieldAt 93 t101 2) (fun t102 h_63 => 
 Hp Tryz.prog false (Instr.loadAt 3 t102) (fun t103 h_64 => 
 Hp Tryz.prog false (binS .shl 2 (.tmp 99) (.tmp 103) n1 t103) (fun t104 h_65 => 
 Hp Tryz.prog false (binS .lss 2 (.tmp 105) (.tmp 106) t104 t97) (fun t107 h_66 => 
 CondP t107 (
 Hp Tryz.prog true (nilS c0) (fun t110 _ => 
 Hp Tryz.prog true (Instr.fieldAt 93 t110 0) (fun t111 _ => 
 Hp Tryz.prog true (Instr.loadAt 26 t111) (fun t112 _ => 
 Hp Tryz.prog true (nilS c0) (fun t114 _ => 
 Hp Tryz.prog true (Instr.fieldAt 93 t114 1) (fun t115 _ => 
 Hp Tryz.prog true (Instr.loadAt 9 t115) (fun t116 _ => 
 Hp Tryz.prog true (nilS t86) (fun t119 _ => 
 Hp Tryz.prog true (Instr.fieldAt 99 t119 1) (fun t120 _ => 
 Hp Tryz.prog true (Instr.loadAt 33 t120) (fun t121 _ => 
 Hp Tryz.prog true (Builtin.len_ #[33] 3 #[t121]) (fun t122 _ => 
 CallsH Tryz.prog 19 #[t112, t116, t104, t122] h_66 (fun t123 h_67 => 
 Hp Tryz.prog true (Instr.extract t123 0) (fun t124 _ => 
 Hp Tryz.prog true (Instr.extract t123 1) (fun t125 _ => 
 Hp Tryz.prog false (nilS t86) (fun t127 h_68 => 
 Hp Tryz.prog false (Instr.fieldAt 99 t127 1) (fun t128 h_69 => 
 Hp Tryz.prog false (Instr.loadAt 33 t128) (fun t129 h_70 => 
 Hp Tryz.prog false (Builtin.copy_ #[33, 33] 3 #[t129, t124]) (fun t131 h_71 => 
 k_19 h_71) h_70 ⟨⟩) h_69 ⟨⟩) h_68 ⟨⟩) h_67 ⟨⟩) #[] ⟨⟩) #[] ⟨⟩) ⟨⟩) #[] ⟨⟩) h_66 ⟨⟩) #[] ⟨⟩) #[] ⟨⟩) h_66 ⟨⟩) #[] ⟨⟩) #[] ⟨⟩) h_66 ⟨⟩) #[] ⟨⟩) #[] ⟨⟩) (
 k_19 h_66) ⟨⟩ ⟨⟩) h_65 ⟨⟩) h_64 ⟨⟩) h_63 ⟨⟩) h_62 ⟨⟩) h_61 ⟨⟩)
 (fun h_72 =>
 Hp Tryz.prog false (nilS c0) (fun t133 h_73 => 
 Hp Tryz.prog false (Instr.fieldAt 93 t133 4) (fun t134 h_74 => 
 Hp Tryz.prog false (Instr.loadAt 88 t134) (fun t135 h_75 => 
 Hp Tryz.prog false (unitS (Instr.mapUpdate 88 t135 n1 t86)) (fun _ h_76 => 
 Hp Tryz.prog false (nilS c0) (fun t139 h_77 => 
 Hp Tryz.prog false (Instr.fieldAt 93 t139 8) (fun t140 h_78 => 
 Hp Tryz.prog false (Instr.fieldAt 81 t140 1) (fun t141 h_79 => 
 Hp Tryz.prog false (Instr.loadAt 3 t141) (fun t142 h_80 => 
 Hp Tryz.prog false (binS .add 3 (.tmp 142) (.const (.int .i64 1)) t142 (.int .i64 1)) (fun t143 h_81 => 
 Hp Tryz.prog false (nilS c0) (fun t144 h_82 => 
 Hp Tryz.prog false (Instr.fieldAt 93 t144 8) (fun t145 h_83 => 
 Hp Tryz.prog false (Instr.fieldAt 81 t145 1) (fun t146 h_84 => 
 Hp Tryz.prog false (storeS 3 t146 t143) (fun _ h_85 => 
 k_18 t86 h_85) h_84 ⟨⟩) h_83 ⟨⟩) h_82 ⟨⟩) h_81 ⟨⟩) h_80 ⟨⟩) h_79 ⟨⟩) h_78 ⟨⟩) h_77 ⟨⟩) h_76 ⟨⟩) h_75 ⟨⟩) h_74 ⟨⟩) h_73 ⟨⟩) h_72 ⟨⟩) h_60 ⟨⟩ ⟨⟩) #[] ⟨⟩) #[] ⟨⟩) ⟨⟩) h_59 ⟨⟩) #[] ⟨⟩) #[] ⟨⟩) h_59 ⟨⟩) #[] ⟨⟩) #[] ⟨⟩) h_58 ⟨⟩) h_57 ⟨⟩) h_56 ⟨⟩) h_55 ⟨⟩) h_54 ⟨⟩) h_53 ⟨⟩) h_52 ⟨⟩) ⟨⟩ ⟨⟩) h_51 ⟨⟩) ⟨⟩) (
 Hp Tryz.prog false (nilS c0) (fun t148 h_86 => 
 Hp Tryz.prog false (Instr.fieldAt 93 t148 8) (fun t149 h_87 => 
 Hp Tryz.prog false (Instr.fieldAt 81 t149 0) (fun t150 h_88 => 
 Hp Tryz.prog false (Instr.loadAt 3 t150) (fun t151 h_89 => 
 Hp Tryz.prog false (binS .add 3 (.tmp 151) (.const (.int .i64 1)) t151 (.int .i64 1)) (fun t152 h_90 => 
 Hp Tryz.prog false (nilS c0) (fun t153 h_91 => 
 Hp Tryz.prog false (Instr.fieldAt 93 t153 8) (fun t154 h_92 => 
 Hp Tryz.prog false (Instr.fieldAt 81 t154 0) (fun t155 h_93 => 
 Hp Tryz.prog false (storeS 3 t155 t152) (fun _ h_94 => 
 k_18 t70 h_94) h_93 ⟨⟩) h_92 ⟨⟩) h_91 ⟨⟩) h_90 ⟨⟩) h_89 ⟨⟩) h_88 ⟨⟩) h_87 ⟨⟩) h_86 ⟨⟩) h_50 ⟨⟩) ⟨⟩ ⟨⟩) h_49 ⟨⟩)
 (fun p13 h_95 =>
 Hp Tryz.prog false (nilS c0) (fun t157 h_96 => 
 Hp Tryz.prog false (Instr.fieldAt 93 t157 7) (fun t158 h_97 => 
 Hp Tryz.prog false (Instr.loadAt 3 t158) (fun t159 h_98 => 
 Hp Tryz.prog false (binS .add 3 (.tmp 159) (.const (.int .i64 1)) t159 (.int .i64 1)) (fun t160 h_99 => 
 Hp Tryz.prog false (nilS c0) (fun t161 h_100 => 
 Hp Tryz.prog false (Instr.fieldAt 93 t161 7) (fun t162 h_101 => 
 Hp Tryz.prog false (storeS 3 t162 t160) (fun _ h_102 => 
 Hp Tryz.prog false (nilS c0) (fun t165 h_103 => 
 Hp Tryz.prog false (Instr.fieldAt 93 t165 7) (fun t166 h_104 => 
 Hp Tryz.prog false (Instr.loadAt 3 t166) (fun t167 h_105 => 
 Hp Tryz.prog false (nilS p13) (fun t168 h_106 => 
 Hp Tryz.prog false (Instr.fieldAt 99 t168 3) (fun t169 h_107 => 
 Hp Tryz.prog false (storeS 3 t169 t167) (fun _ h_108 => 
 R (.tuple #[p13, (.int .i64 0)]) h_108) h_107 ⟨⟩) h_106 ⟨⟩) h_105 ⟨⟩) h_104 ⟨⟩) h_103 ⟨⟩) h_102 ⟨⟩) h_101 ⟨⟩) h_100 ⟨⟩) h_99 ⟨⟩) h_98 ⟨⟩) h_97 ⟨⟩) h_96 ⟨⟩) h_95 ⟨⟩) h_48 ⟨⟩ ⟨⟩) h_47 ⟨⟩) h_46 ⟨⟩) h_45 ⟨⟩) h_44 ⟨⟩) ⟨⟩ ⟨⟩) h_43 ⟨⟩) #[] ⟨⟩) #[] ⟨⟩) ⟨⟩) h_42 ⟨⟩) #[] ⟨⟩) #[] ⟨⟩) h_42 ⟨⟩) #[] ⟨⟩) #[] ⟨⟩) ⟨⟩ ⟨⟩) h_41 ⟨⟩) h_39 ⟨⟩ ⟨⟩) h_37 ⟨⟩ ⟨⟩) h_35 ⟨⟩ ⟨⟩) h_33 ⟨⟩ ⟨⟩) h_31 ⟨⟩ ⟨⟩) h_29 ⟨⟩ ⟨⟩) h_27 ⟨⟩ ⟨⟩) h_25 ⟨⟩ ⟨⟩) h_23 ⟨⟩ ⟨⟩) h_22 ⟨⟩) h_20 ⟨⟩ ⟨⟩) h_18 ⟨⟩ ⟨⟩) h_16 ⟨⟩ ⟨⟩) h_14 ⟨⟩ ⟨⟩) h_12 ⟨⟩ ⟨⟩) h_10 ⟨⟩ ⟨⟩) h_8 ⟨⟩ ⟨⟩) h_7 ⟨⟩) h_5 ⟨⟩ ⟨⟩) h_3 ⟨⟩ ⟨⟩) h_2 ⟨⟩) ⟨⟩ ⟨⟩) h_1 ⟨⟩) ⟨⟩

theorem n39_calls {c0 n1 at2 k3 : Value} {R : Value → Heap → Prop} {h : Heap} (H : n39 c0 n1 at2 k3 R h) : CallsH Tryz.prog 39 #[c0, n1, at2, k3] h R ⟨⟩ :=
 callsH_of_eq Tryz.follow (.n none .l (.n none .l (.n none .l (.n none .l (.n none .l (.n none .l (.n (some [14]) (.n none .l (.n none (.n none .l (.n none .l (.n none .l (.n (some []) .l .l)))) .l)) .l))))))) Tryz.func39 (by kernel_rfl) (by kernel_rfl) (by kernel_rfl) H

end Go.Proofs.YtcbbdnaelimpfaaGreat

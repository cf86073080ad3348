/- Printed by wip/tools/gen.py: the condition of each function, and that a call meets it. -/
import Derived.Test.YtdmcaaojapcbcaaVcFun
import Derived.Test.YtdmcaaojapcbcaaProg
import Derived.Test.YtdmcaaojapcbcaaNiceK
import Derived.Test.YtdmcaaojapcbcaaNiceO
import Derived.Test.YtdmcaaojapcbcaaNiceR
import Derived.Test.YtdmcaaojapcbcaaNiceT
set_option maxRecDepth 100000
set_option linter.unusedVariables false
namespace Go.Proofs.Ytdmcaaojapcbcaa
open Go.Vc

/-- palimpsest/palimpsestlaw06.StoreCrash -/
def n4 (fates0 script1 picks2 : Value) (R : Value → Heap → Prop) (h : Heap) : Prop :=
 Hp Try.prog false (Instr.alloc 4 true undef) (fun t6 h_1 => 
 Hp Try.prog false (Builtin.len_ #[41] 3 #[fates0]) (fun t32 h_2 => 
 Hp Try.prog false (binS .gtr 3 (.tmp 32) (.const (.int .i64 100)) t32 (.int .i64 100)) (fun t33 h_3 => 
 Join1 (fun k h_4 => guardP t33 false (k script1 h_4) (k undef h_4) ⟨⟩ ⟨⟩) (fun t35 h_5 => 
 Join1 (fun k_1 h_6 => guardP t33 false (CallsH Try.prog 19 #[t35] h_6 k_1 ⟨⟩) (k_1 undef h_6) ⟨⟩ ⟨⟩) (fun t36 h_7 => 
 Hp Try.prog false (pickS t33 (.bool true) t36) (fun t37 h_8 => 
 Join1 (fun k_2 h_9 => guardP t37 false (k_2 fates0 h_9) (k_2 undef h_9) ⟨⟩ ⟨⟩) (fun t39 h_10 => 
 Join1 (fun k_3 h_11 => guardP t37 false (CallsH Try.prog 20 #[t39] h_11 k_3 ⟨⟩) (k_3 undef h_11) ⟨⟩ ⟨⟩) (fun t40 h_12 => 
 Join1 (fun k_4 h_13 => guardP t37 false (Hp Try.prog false (Op.unary .not t40) k_4 h_13 ⟨⟩) (k_4 undef h_13) ⟨⟩ ⟨⟩) (fun t41 h_14 => 
 Hp Try.prog false (pickS t37 (.bool true) t41) (fun t42 h_15 => 
 Join1 (fun k_5 h_16 => guardP t42 false (k_5 picks2 h_16) (k_5 undef h_16) ⟨⟩ ⟨⟩) (fun t44 h_17 => 
 Join1 (fun k_6 h_18 => guardP t42 false (Hp Try.prog false (Builtin.len_ #[23] 3 #[t44]) k_6 h_18 ⟨⟩) (k_6 undef h_18) ⟨⟩ ⟨⟩) (fun t45 h_19 => 
 Join1 (fun k_7 h_20 => guardP t42 false (Hp Try.prog false (binS .gtr 3 (.tmp 45) (.const (.int .i64 300)) t45 (.int .i64 300)) k_7 h_20 ⟨⟩) (k_7 undef h_20) ⟨⟩ ⟨⟩) (fun t46 h_21 => 
 Hp Try.prog false (pickS t42 (.bool true) t46) (fun t47 h_22 => 
 CondP t47 (
 CallsH Try.prog 21 #[] h_22 (fun t48 h_23 => 
 Hp Try.prog false (storeS 4 t6 t48) (fun _ h_24 => 
 RetD (.tuple #[]) h_24 (fun h_25 =>
 Hp Try.prog true (loadCell 4 t6) (fun r _ =>
 R r h_25) h_25 ⟨⟩) ⟨⟩) h_23 ⟨⟩) ⟨⟩) (
 CallsH Try.prog 22 #[fates0, script1] h_22 (fun t51 h_26 => 
 LoopC 2 (fun (X : Value → Value → Heap → Prop) => fun ones8 i9 h_27 =>
 CallsH Try.prog 23 #[t51] h_27 (fun t54 h_28 => 
 Hp Try.prog false (binS .lss 3 (.tmp 52) (.tmp 54) i9 t54) (fun t55 h_29 => 
 CondP t55 (
 Hp Try.prog false (Instr.buildSlice 23 1 #[(0, (.int .i64 1))]) (fun t59 h_30 => 
 Hp Try.prog false (Builtin.append_ #[23, 23] 23 #[ones8, t59]) (fun t60 h_31 => 
 Hp Try.prog false (binS .add 3 (.tmp 56) (.const (.int .i64 1)) i9 (.int .i64 1)) (fun t57 h_32 => 
 X t60 t57 h_32) h_31 ⟨⟩) h_30 ⟨⟩) h_29 ⟨⟩) (
 CallsH Try.prog 24 #[t51, ones8] h_29 (fun t64 h_33 => 
 Hp Try.prog false (Instr.extract t64 0) (fun t65 h_34 => 
 Hp Try.prog false (Instr.extract t64 1) (fun t66 h_35 => 
 CallsH Try.prog 24 #[t51, (.slice none 0 0)] h_35 (fun t69 h_36 => 
 Hp Try.prog false (Instr.extract t69 0) (fun t70 h_37 => 
 Hp Try.prog false (Instr.extract t69 1) (fun t71 h_38 => 
 CallsH Try.prog 24 #[t51, picks2] h_38 (fun t75 h_39 => 
 Hp Try.prog false (Instr.extract t75 0) (fun t76 h_40 => 
 Hp Try.prog false (Instr.extract t75 1) (fun t77 h_41 => 
 Hp Try.prog false (binS .neq 31 (.tmp 78) (.const (.int .i64 0)) t66 (.int .i64 0)) (fun t79 h_42 => 
 Join1 (fun k_8 h_43 => guardP t79 false (k_8 t71 h_43) (k_8 undef h_43) ⟨⟩ ⟨⟩) (fun t81 h_44 => 
 Join1 (fun k_9 h_45 => guardP t79 false (Hp Try.prog false (binS .neq 31 (.tmp 81) (.const (.int .i64 0)) t81 (.int .i64 0)) k_9 h_45 ⟨⟩) (k_9 undef h_45) ⟨⟩ ⟨⟩) (fun t82 h_46 => 
 Hp Try.prog false (pickS t79 (.bool true) t82) (fun t83 h_47 => 
 CondP t83 (
 Hp Try.prog false (storeS 4 t6 (.bool false)) (fun _ h_48 => 
 RetD (.tuple #[]) h_48 (fun h_49 =>
 Hp Try.prog true (loadCell 4 t6) (fun r_1 _ =>
 R r_1 h_49) h_49 ⟨⟩) ⟨⟩) h_47 ⟨⟩) (
 Hp Try.prog false (binS .neq 31 (.tmp 84) (.const (.int .i64 0)) t77 (.int .i64 0)) (fun t85 h_50 => 
 CondP t85 (
 Hp Try.prog false (binS .eql 31 (.tmp 86) (.const (.int .i64 2)) t77 (.int .i64 2)) (fun t87 h_51 => 
 Join1 (fun k_10 h_52 => guardP t87 true (CallsH Try.prog 21 #[] h_52 k_10 ⟨⟩) (k_10 undef h_52) ⟨⟩ ⟨⟩) (fun t89 h_53 => 
 Hp Try.prog false (pickS t87 t89 (.bool false)) (fun t90 h_54 => 
 Hp Try.prog false (storeS 4 t6 t90) (fun _ h_55 => 
 RetD (.tuple #[]) h_55 (fun h_56 =>
 Hp Try.prog true (loadCell 4 t6) (fun r_2 _ =>
 R r_2 h_56) h_56 ⟨⟩) ⟨⟩) h_54 ⟨⟩) h_53 ⟨⟩) h_51 ⟨⟩ ⟨⟩) h_50 ⟨⟩) (
 CallsH Try.prog 25 #[t51] h_50 (fun t92 h_57 => 
 JoinN 1 (fun (k_11 : Value → Heap → Prop) h_58 =>
 JoinN 1 (fun (k_12 : Value → Heap → Prop) h_59 =>
 LoopC 2 (fun (X_1 : Value → Value → Heap → Prop) => fun D i17 h_60 =>
 Hp Try.prog false (Builtin.len_ #[48] 3 #[t92]) (fun t95 h_61 => 
 Hp Try.prog false (binS .lss 3 (.tmp 93) (.tmp 95) i17 t95) (fun t96 h_62 => 
 CondP t96 (
 JoinN 1 (fun (k_13 : Value → Heap → Prop) h_63 =>
 JoinN 1 (fun (k_14 : Value → Heap → Prop) h_64 =>
 Hp Try.prog false (Instr.indexAt 48 t92 i17) (fun t103 h_65 => 
 Hp Try.prog false (Instr.loadAt 9 t103) (fun t104 h_66 => 
 CallsH Try.prog 26 #[t51, t104, (.int .i64 0), (.int .i64 268435456)] h_66 (fun t105 h_67 => 
 Hp Try.prog false (Instr.extract t105 0) (fun t106 h_68 => 
 Hp Try.prog false (Instr.extract t105 1) (fun t107 h_69 => 
 Hp Try.prog false (Instr.alloc 50 true undef) (fun now18 h_70 => 
 Hp Try.prog false (storeS 50 now18 t106) (fun _ h_71 => 
 Hp Try.prog false (Instr.indexAt 48 t92 i17) (fun t112 h_72 => 
 Hp Try.prog false (Instr.loadAt 9 t112) (fun t113 h_73 => 
 CallsH Try.prog 26 #[t65, t113, (.int .i64 0), (.int .i64 268435456)] h_73 (fun t114 h_74 => 
 Hp Try.prog false (Instr.extract t114 0) (fun t115 h_75 => 
 Hp Try.prog false (Instr.extract t114 1) (fun t116 h_76 => 
 Hp Try.prog false (Instr.indexAt 48 t92 i17) (fun t121 h_77 => 
 Hp Try.prog false (Instr.loadAt 9 t121) (fun t122 h_78 => 
 CallsH Try.prog 26 #[t70, t122, (.int .i64 0), (.int .i64 268435456)] h_78 (fun t123 h_79 => 
 Hp Try.prog false (Instr.extract t123 0) (fun t124 h_80 => 
 Hp Try.prog false (Instr.extract t123 1) (fun t125 h_81 => 
 Hp Try.prog false (Instr.indexAt 48 t92 i17) (fun t130 h_82 => 
 Hp Try.prog false (Instr.loadAt 9 t130) (fun t131 h_83 => 
 CallsH Try.prog 26 #[t76, t131, (.int .i64 0), (.int .i64 268435456)] h_83 (fun t132 h_84 => 
 Hp Try.prog false (Instr.extract t132 0) (fun t133 h_85 => 
 Hp Try.prog false (Instr.extract t132 1) (fun t134 h_86 => 
 Hp Try.prog false (binS .neq 31 (.tmp 135) (.const (.int .i64 0)) t107 (.int .i64 0)) (fun t136 h_87 => 
 Join1 (fun k_15 h_88 => guardP t136 false (k_15 t116 h_88) (k_15 undef h_88) ⟨⟩ ⟨⟩) (fun t138 h_89 => 
 Join1 (fun k_16 h_90 => guardP t136 false (Hp Try.prog false (binS .neq 31 (.tmp 138) (.const (.int .i64 0)) t138 (.int .i64 0)) k_16 h_90 ⟨⟩) (k_16 undef h_90) ⟨⟩ ⟨⟩) (fun t139 h_91 => 
 Hp Try.prog false (pickS t136 (.bool true) t139) (fun t140 h_92 => 
 Join1 (fun k_17 h_93 => guardP t140 false (k_17 t125 h_93) (k_17 undef h_93) ⟨⟩ ⟨⟩) (fun t142 h_94 => 
 Join1 (fun k_18 h_95 => guardP t140 false (Hp Try.prog false (binS .neq 31 (.tmp 142) (.const (.int .i64 0)) t142 (.int .i64 0)) k_18 h_95 ⟨⟩) (k_18 undef h_95) ⟨⟩ ⟨⟩) (fun t143 h_96 => 
 Hp Try.prog false (pickS t140 (.bool true) t143) (fun t144 h_97 => 
 Join1 (fun k_19 h_98 => guardP t144 false (k_19 t134 h_98) (k_19 undef h_98) ⟨⟩ ⟨⟩) (fun t146 h_99 => 
 Join1 (fun k_20 h_100 => guardP t144 false (Hp Try.prog false (binS .neq 31 (.tmp 146) (.const (.int .i64 0)) t146 (.int .i64 0)) k_20 h_100 ⟨⟩) (k_20 undef h_100) ⟨⟩ ⟨⟩) (fun t147 h_101 => 
 Hp Try.prog false (pickS t144 (.bool true) t147) (fun t148 h_102 => 
 Join1 (fun k_21 h_103 => guardP t148 false (k_21 t115 h_103) (k_21 undef h_103) ⟨⟩ ⟨⟩) (fun t150 h_104 => 
 Join1 (fun k_22 h_105 => guardP t148 false (Hp Try.prog false (convert 50 9 t150) k_22 h_105 ⟨⟩) (k_22 undef h_105) ⟨⟩ ⟨⟩) (fun t151 h_106 => 
 Join1 (fun k_23 h_107 => guardP t148 false (Hp Try.prog false (Instr.loadAt 50 now18) k_23 h_107 ⟨⟩) (k_23 undef h_107) ⟨⟩ ⟨⟩) (fun t152 h_108 => 
 Join1 (fun k_24 h_109 => guardP t148 false (Hp Try.prog false (convert 50 9 t152) k_24 h_109 ⟨⟩) (k_24 undef h_109) ⟨⟩ ⟨⟩) (fun t153 h_110 => 
 Join1 (fun k_25 h_111 => guardP t148 false (Hp Try.prog false (binS .neq 9 (.tmp 151) (.tmp 153) t151 t153) k_25 h_111 ⟨⟩) (k_25 undef h_111) ⟨⟩ ⟨⟩) (fun t154 h_112 => 
 Hp Try.prog false (pickS t148 (.bool true) t154) (fun t155 h_113 => 
 Join1 (fun k_26 h_114 => guardP t155 false (k_26 t124 h_114) (k_26 undef h_114) ⟨⟩ ⟨⟩) (fun t157 h_115 => 
 Join1 (fun k_27 h_116 => guardP t155 false (Hp Try.prog false (Builtin.len_ #[50] 3 #[t157]) k_27 h_116 ⟨⟩) (k_27 undef h_116) ⟨⟩ ⟨⟩) (fun t158 h_117 => 
 Join1 (fun k_28 h_118 => guardP t155 false (Hp Try.prog false (Instr.loadAt 50 now18) k_28 h_118 ⟨⟩) (k_28 undef h_118) ⟨⟩ ⟨⟩) (fun t159 h_119 => 
 Join1 (fun k_29 h_120 => guardP t155 false (Hp Try.prog false (Builtin.len_ #[50] 3 #[t159]) k_29 h_120 ⟨⟩) (k_29 undef h_120) ⟨⟩ ⟨⟩) (fun t160 h_121 => 
 Join1 (fun k_30 h_122 => guardP t155 false (Hp Try.prog false (binS .neq 3 (.tmp 158) (.tmp 160) t158 t160) k_30 h_122 ⟨⟩) (k_30 undef h_122) ⟨⟩ ⟨⟩) (fun t161 h_123 => 
 Hp Try.prog false (pickS t155 (.bool true) t161) (fun t162 h_124 => 
 Join1 (fun k_31 h_125 => guardP t162 false (k_31 t133 h_125) (k_31 undef h_125) ⟨⟩ ⟨⟩) (fun t164 h_126 => 
 Join1 (fun k_32 h_127 => guardP t162 false (Hp Try.prog false (Builtin.len_ #[50] 3 #[t164]) k_32 h_127 ⟨⟩) (k_32 undef h_127) ⟨⟩ ⟨⟩) (fun t165 h_128 => 
 Join1 (fun k_33 h_129 => guardP t162 false (Hp Try.prog false (Instr.loadAt 50 now18) k_33 h_129 ⟨⟩) (k_33 undef h_129) ⟨⟩ ⟨⟩) (fun t166 h_130 => 
 Join1 (fun k_34 h_131 => guardP t162 false (Hp Try.prog false (Builtin.len_ #[50] 3 #[t166]) k_34 h_131 ⟨⟩) (k_34 undef h_131) ⟨⟩ ⟨⟩) (fun t167 h_132 => 
 Join1 (fun k_35 h_133 => guardP t162 false (Hp Try.prog false (binS .neq 3 (.tmp 165) (.tmp 167) t165 t167) k_35 h_133 ⟨⟩) (k_35 undef h_133) ⟨⟩ ⟨⟩) (fun t168 h_134 => 
 Hp Try.prog false (pickS t162 (.bool true) t168) (fun t169 h_135 => 
 CondP t169 (
 Hp Try.prog false (storeS 4 t6 (.bool false)) (fun _ h_136 => 
 RetD D h_136 (fun h_137 =>
 Hp Try.prog true (loadCell 4 t6) (fun r_3 _ =>
 R r_3 h_137) h_137 ⟨⟩) ⟨⟩) h_135 ⟨⟩) (
 Hp Try.prog false (Instr.indexAt 48 t92 i17) (fun t173 h_138 => 
 Hp Try.prog false (Instr.loadAt 9 t173) (fun t174 h_139 => 
 CallsH Try.prog 27 #[t51, t174] h_139 (fun t175 h_140 => 
 Hp Try.prog false (binS .eql 54 (.tmp 176) (.const .nilFunc) t175 .nilFunc) (fun t177 h_141 => 
 CondP t177 (
 Hp Try.prog false (storeS 4 t6 (.bool false)) (fun _ h_142 => 
 RetD D h_142 (fun h_143 =>
 Hp Try.prog true (loadCell 4 t6) (fun r_4 _ =>
 R r_4 h_143) h_143 ⟨⟩) ⟨⟩) h_141 ⟨⟩) (
 Hp Try.prog false (Instr.loadAt 50 now18) (fun t178 h_144 => 
 Hp Try.prog false (Builtin.len_ #[50] 3 #[t178]) (fun t179 h_145 => 
 Hp Try.prog false (Instr.makeSlice 56 t179 t179) (fun t180 h_146 => 
 Hp Try.prog false (Instr.alloc 56 true undef) (fun touched27 h_147 => 
 Hp Try.prog false (storeS 56 touched27 t180) (fun _ h_148 => 
 JoinN 1 (fun (k_36 : Value → Heap → Prop) h_149 =>
 JoinN 1 (fun (k_37 : Value → Heap → Prop) h_150 =>
 RangeC Try.prog none t175 1 D (fun l args bg Nb Jb h_151 =>
 Hp Try.prog false (Instr.alloc 58 true undef) (fun p28 h_153 => 
 Hp Try.prog false (storeS 58 p28 (getV args 0)) (fun _ h_154 => 
 bg (fun h_152 =>
 Hp Try.prog false (Instr.fieldAt 58 p28 0) (fun t183 h_155 => 
 Hp Try.prog false (Instr.loadAt 2 t183) (fun t184 h_156 => 
 Hp Try.prog false (binS .lss 2 (.tmp 184) (.const (.int .i64 0)) t184 (.int .i64 0)) (fun t185 h_157 => 
 Join1 (fun k_38 h_158 => guardP t185 false (Hp Try.prog false (Instr.fieldAt 58 p28 1) k_38 h_158 ⟨⟩) (k_38 undef h_158) ⟨⟩ ⟨⟩) (fun t187 h_159 => 
 Join1 (fun k_39 h_160 => guardP t185 false (Hp Try.prog false (Instr.loadAt 3 t187) k_39 h_160 ⟨⟩) (k_39 undef h_160) ⟨⟩ ⟨⟩) (fun t188 h_161 => 
 Join1 (fun k_40 h_162 => guardP t185 false (Hp Try.prog false (binS .lss 3 (.tmp 188) (.const (.int .i64 1)) t188 (.int .i64 1)) k_40 h_162 ⟨⟩) (k_40 undef h_162) ⟨⟩ ⟨⟩) (fun t189 h_163 => 
 Hp Try.prog false (pickS t185 (.bool true) t189) (fun t190 h_164 => 
 Join1 (fun k_41 h_165 => guardP t190 false (Hp Try.prog false (Instr.fieldAt 58 p28 0) k_41 h_165 ⟨⟩) (k_41 undef h_165) ⟨⟩ ⟨⟩) (fun t192 h_166 => 
 Join1 (fun k_42 h_167 => guardP t190 false (Hp Try.prog false (Instr.loadAt 2 t192) k_42 h_167 ⟨⟩) (k_42 undef h_167) ⟨⟩ ⟨⟩) (fun t193 h_168 => 
 Join1 (fun k_43 h_169 => guardP t190 false (Hp Try.prog false (binS .quo 2 (.tmp 193) (.const (.int .i64 512)) t193 (.int .i64 512)) k_43 h_169 ⟨⟩) (k_43 undef h_169) ⟨⟩ ⟨⟩) (fun t194 h_170 => 
 Join1 (fun k_44 h_171 => guardP t190 false (Hp Try.prog false (Instr.fieldAt 58 p28 0) k_44 h_171 ⟨⟩) (k_44 undef h_171) ⟨⟩ ⟨⟩) (fun t195 h_172 => 
 Join1 (fun k_45 h_173 => guardP t190 false (Hp Try.prog false (Instr.loadAt 2 t195) k_45 h_173 ⟨⟩) (k_45 undef h_173) ⟨⟩ ⟨⟩) (fun t196 h_174 => 
 Join1 (fun k_46 h_175 => guardP t190 false (Hp Try.prog false (Instr.fieldAt 58 p28 1) k_46 h_175 ⟨⟩) (k_46 undef h_175) ⟨⟩ ⟨⟩) (fun t197 h_176 => 
 Join1 (fun k_47 h_177 => guardP t190 false (Hp Try.prog false (Instr.loadAt 3 t197) k_47 h_177 ⟨⟩) (k_47 undef h_177) ⟨⟩ ⟨⟩) (fun t198 h_178 => 
 Join1 (fun k_48 h_179 => guardP t190 false (Hp Try.prog false (binS .add 2 (.tmp 196) (.tmp 198) t196 t198) k_48 h_179 ⟨⟩) (k_48 undef h_179) ⟨⟩ ⟨⟩) (fun t199 h_180 => 
 Join1 (fun k_49 h_181 => guardP t190 false (Hp Try.prog false (binS .sub 2 (.tmp 199) (.const (.int .i64 1)) t199 (.int .i64 1)) k_49 h_181 ⟨⟩) (k_49 undef h_181) ⟨⟩ ⟨⟩) (fun t200 h_182 => 
 Join1 (fun k_50 h_183 => guardP t190 false (Hp Try.prog false (binS .quo 2 (.tmp 200) (.const (.int .i64 512)) t200 (.int .i64 512)) k_50 h_183 ⟨⟩) (k_50 undef h_183) ⟨⟩ ⟨⟩) (fun t201 h_184 => 
 Join1 (fun k_51 h_185 => guardP t190 false (Hp Try.prog false (binS .neq 2 (.tmp 194) (.tmp 201) t194 t201) k_51 h_185 ⟨⟩) (k_51 undef h_185) ⟨⟩ ⟨⟩) (fun t202 h_186 => 
 Hp Try.prog false (pickS t190 (.bool true) t202) (fun t203 h_187 => 
 Join1 (fun k_52 h_188 => guardP t203 false (Hp Try.prog false (Instr.fieldAt 58 p28 0) k_52 h_188 ⟨⟩) (k_52 undef h_188) ⟨⟩ ⟨⟩) (fun t205 h_189 => 
 Join1 (fun k_53 h_190 => guardP t203 false (Hp Try.prog false (Instr.loadAt 2 t205) k_53 h_190 ⟨⟩) (k_53 undef h_190) ⟨⟩ ⟨⟩) (fun t206 h_191 => 
 Join1 (fun k_54 h_192 => guardP t203 false (Hp Try.prog false (Instr.fieldAt 58 p28 1) k_54 h_192 ⟨⟩) (k_54 undef h_192) ⟨⟩ ⟨⟩) (fun t207 h_193 => 
 Join1 (fun k_55 h_194 => guardP t203 false (Hp Try.prog false (Instr.loadAt 3 t207) k_55 h_194 ⟨⟩) (k_55 undef h_194) ⟨⟩ ⟨⟩) (fun t208 h_195 => 
 Join1 (fun k_56 h_196 => guardP t203 false (Hp Try.prog false (binS .add 2 (.tmp 206) (.tmp 208) t206 t208) k_56 h_196 ⟨⟩) (k_56 undef h_196) ⟨⟩ ⟨⟩) (fun t209 h_197 => 
 Join1 (fun k_57 h_198 => guardP t203 false (Hp Try.prog false (Instr.loadAt 50 now18) k_57 h_198 ⟨⟩) (k_57 undef h_198) ⟨⟩ ⟨⟩) (fun t210 h_199 => 
 Join1 (fun k_58 h_200 => guardP t203 false (Hp Try.prog false (Builtin.len_ #[50] 3 #[t210]) k_58 h_200 ⟨⟩) (k_58 undef h_200) ⟨⟩ ⟨⟩) (fun t211 h_201 => 
 Join1 (fun k_59 h_202 => guardP t203 false (Hp Try.prog false (binS .gtr 2 (.tmp 209) (.tmp 211) t209 t211) k_59 h_202 ⟨⟩) (k_59 undef h_202) ⟨⟩ ⟨⟩) (fun t212 h_203 => 
 Hp Try.prog false (pickS t203 (.bool true) t212) (fun t213 h_204 => 
 CondP t213 (
 Hp Try.prog false (storeS 4 t6 (.bool false)) (fun _ h_205 => 
 Jb .ret h_205) h_204 ⟨⟩) (
 Hp Try.prog false (Instr.fieldAt 58 p28 0) (fun t214 h_206 => 
 Hp Try.prog false (Instr.loadAt 2 t214) (fun t215 h_207 => 
 LoopC 1 (fun (X_2 : Value → Heap → Prop) => fun at29 h_208 =>
 Hp Try.prog false (Instr.fieldAt 58 p28 0) (fun t217 h_209 => 
 Hp Try.prog false (Instr.loadAt 2 t217) (fun t218 h_210 => 
 Hp Try.prog false (Instr.fieldAt 58 p28 1) (fun t219 h_211 => 
 Hp Try.prog false (Instr.loadAt 3 t219) (fun t220 h_212 => 
 Hp Try.prog false (binS .add 2 (.tmp 218) (.tmp 220) t218 t220) (fun t221 h_213 => 
 Hp Try.prog false (binS .lss 2 (.tmp 216) (.tmp 221) at29 t221) (fun t222 h_214 => 
 CondP t222 (
 Hp Try.prog false (Instr.loadAt 56 touched27) (fun t225 h_215 => 
 Hp Try.prog false (Instr.indexAt 56 t225 at29) (fun t227 h_216 => 
 Hp Try.prog false (storeS 4 t227 (.bool true)) (fun _ h_217 => 
 Hp Try.prog false (binS .add 2 (.tmp 223) (.const (.int .i64 1)) at29 (.int .i64 1)) (fun t224 h_218 => 
 X_2 t224 h_218) h_217 ⟨⟩) h_216 ⟨⟩) h_215 ⟨⟩) h_214 ⟨⟩) (
 Nb h_214) ⟨⟩ ⟨⟩) h_213 ⟨⟩) h_212 ⟨⟩) h_211 ⟨⟩) h_210 ⟨⟩) h_209 ⟨⟩) h_208 ⟨⟩) [t215] h_207 ⟨⟩) h_206 ⟨⟩) h_204 ⟨⟩) ⟨⟩ ⟨⟩) h_203 ⟨⟩) h_201 ⟨⟩ ⟨⟩) h_199 ⟨⟩ ⟨⟩) h_197 ⟨⟩ ⟨⟩) h_195 ⟨⟩ ⟨⟩) h_193 ⟨⟩ ⟨⟩) h_191 ⟨⟩ ⟨⟩) h_189 ⟨⟩ ⟨⟩) h_187 ⟨⟩ ⟨⟩) h_186 ⟨⟩) h_184 ⟨⟩ ⟨⟩) h_182 ⟨⟩ ⟨⟩) h_180 ⟨⟩ ⟨⟩) h_178 ⟨⟩ ⟨⟩) h_176 ⟨⟩ ⟨⟩) h_174 ⟨⟩ ⟨⟩) h_172 ⟨⟩ ⟨⟩) h_170 ⟨⟩ ⟨⟩) h_168 ⟨⟩ ⟨⟩) h_166 ⟨⟩ ⟨⟩) h_164 ⟨⟩ ⟨⟩) h_163 ⟨⟩) h_161 ⟨⟩ ⟨⟩) h_159 ⟨⟩ ⟨⟩) h_157 ⟨⟩ ⟨⟩) h_156 ⟨⟩) h_155 ⟨⟩) h_152 ⟨⟩) h_154) h_153 ⟨⟩) h_151 ⟨⟩)
 (fun D_1 h_219 =>
 k_37 D_1 h_219)
 (fun D_2 h_220 =>
 RetD D_2 h_220 (fun h_221 =>
 Hp Try.prog true (loadCell 4 t6) (fun r_5 _ =>
 R r_5 h_221) h_221 ⟨⟩) ⟨⟩)
 (fun id D_3 h_222 => bif Nat.beq id 4 then (k_37 D_3 h_222) else bif Nat.beq id 3 then (k_14 D_3 h_222) else bif Nat.beq id 2 then (k_12 D_3 h_222) else False) h_150 ⟨⟩ ⟨⟩ ⟨⟩ ⟨⟩)
 (fun D_4 h_223 =>
 k_36 D_4 h_223) h_149 ⟨⟩ ⟨⟩)
 (fun D_5 h_224 =>
 LoopC 1 (fun (X_3 : Value → Heap → Prop) => fun at30 h_225 =>
 Hp Try.prog false (Instr.loadAt 50 now18) (fun t229 h_226 => 
 Hp Try.prog false (Builtin.len_ #[50] 3 #[t229]) (fun t230 h_227 => 
 Hp Try.prog false (binS .lss 3 (.tmp 228) (.tmp 230) at30 t230) (fun t231 h_228 => 
 CondP t231 (
 Hp Try.prog true (Instr.loadAt 56 touched27) (fun t234 _ => 
 Hp Try.prog true (Instr.indexAt 56 t234 at30) (fun t236 _ => 
 Hp Try.prog true (Instr.loadAt 4 t236) (fun t237 _ => 
 Hp Try.prog true (Op.unary .not t237) (fun t238 _ => 
 Join1 (fun k_60 h_229 => guardP t238 true (k_60 t124 h_229) (k_60 undef h_229) ⟨⟩ ⟨⟩) (fun t240 _ => 
 Join1 (fun k_61 h_230 => guardP t238 true (k_61 at30 h_230) (k_61 undef h_230) ⟨⟩ ⟨⟩) (fun t241 _ => 
 Join1 (fun k_62 h_231 => guardP t238 true (Hp Try.prog true (Instr.indexAt 50 t240 t241) k_62 h_231 ⟨⟩) (k_62 undef h_231) ⟨⟩ ⟨⟩) (fun t242 _ => 
 Join1 (fun k_63 h_232 => guardP t238 true (Hp Try.prog true (Instr.loadAt 5 t242) k_63 h_232 ⟨⟩) (k_63 undef h_232) ⟨⟩ ⟨⟩) (fun t243 _ => 
 Join1 (fun k_64 h_233 => guardP t238 true (Hp Try.prog true (Instr.loadAt 50 now18) k_64 h_233 ⟨⟩) (k_64 undef h_233) ⟨⟩ ⟨⟩) (fun t244 _ => 
 Join1 (fun k_65 h_234 => guardP t238 true (k_65 at30 h_234) (k_65 undef h_234) ⟨⟩ ⟨⟩) (fun t245 _ => 
 Join1 (fun k_66 h_235 => guardP t238 true (Hp Try.prog true (Instr.indexAt 50 t244 t245) k_66 h_235 ⟨⟩) (k_66 undef h_235) ⟨⟩ ⟨⟩) (fun t246 _ => 
 Join1 (fun k_67 h_236 => guardP t238 true (Hp Try.prog true (Instr.loadAt 5 t246) k_67 h_236 ⟨⟩) (k_67 undef h_236) ⟨⟩ ⟨⟩) (fun t247 _ => 
 Join1 (fun k_68 h_237 => guardP t238 true (Hp Try.prog true (binS .neq 5 (.tmp 243) (.tmp 247) t243 t247) k_68 h_237 ⟨⟩) (k_68 undef h_237) ⟨⟩ ⟨⟩) (fun t248 _ => 
 Join1 (fun k_69 h_238 => guardP t238 true (k_69 t248 h_238) (k_69 undef h_238) ⟨⟩ ⟨⟩) (fun t249 _ => 
 Join1 (fun k_70 h_239 => guardP t249 false (k_70 t133 h_239) (k_70 undef h_239) ⟨⟩ ⟨⟩) (fun t250 _ => 
 Join1 (fun k_71 h_240 => guardP t249 false (k_71 at30 h_240) (k_71 undef h_240) ⟨⟩ ⟨⟩) (fun t251 _ => 
 Join1 (fun k_72 h_241 => guardP t249 false (Hp Try.prog true (Instr.indexAt 50 t250 t251) k_72 h_241 ⟨⟩) (k_72 undef h_241) ⟨⟩ ⟨⟩) (fun t252 _ => 
 Join1 (fun k_73 h_242 => guardP t249 false (Hp Try.prog true (Instr.loadAt 5 t252) k_73 h_242 ⟨⟩) (k_73 undef h_242) ⟨⟩ ⟨⟩) (fun t253 _ => 
 Join1 (fun k_74 h_243 => guardP t249 false (Hp Try.prog true (Instr.loadAt 50 now18) k_74 h_243 ⟨⟩) (k_74 undef h_243) ⟨⟩ ⟨⟩) (fun t254 _ => 
 Join1 (fun k_75 h_244 => guardP t249 false (k_75 at30 h_244) (k_75 undef h_244) ⟨⟩ ⟨⟩) (fun t255 _ => 
 Join1 (fun k_76 h_245 => guardP t249 false (Hp Try.prog true (Instr.indexAt 50 t254 t255) k_76 h_245 ⟨⟩) (k_76 undef h_245) ⟨⟩ ⟨⟩) (fun t256 _ => 
 Join1 (fun k_77 h_246 => guardP t249 false (Hp Try.prog true (Instr.loadAt 5 t256) k_77 h_246 ⟨⟩) (k_77 undef h_246) ⟨⟩ ⟨⟩) (fun t257 _ => 
 Join1 (fun k_78 h_247 => guardP t249 false (Hp Try.prog true (binS .neq 5 (.tmp 253) (.tmp 257) t253 t257) k_78 h_247 ⟨⟩) (k_78 undef h_247) ⟨⟩ ⟨⟩) (fun t258 _ => 
 Join1 (fun k_79 h_248 => guardP t238 true (Hp Try.prog true (pickS t249 (.bool true) t258) k_79 h_248 ⟨⟩) (k_79 undef h_248) ⟨⟩ ⟨⟩) (fun t259 _ => 
 Hp Try.prog true (pickS t238 t259 (.bool false)) (fun t260 _ => 
 CondP t260 (
 Hp Try.prog false (storeS 4 t6 (.bool false)) (fun _ h_249 => 
 RetD D_5 h_249 (fun h_250 =>
 Hp Try.prog true (loadCell 4 t6) (fun r_6 _ =>
 R r_6 h_250) h_250 ⟨⟩) ⟨⟩) h_228 ⟨⟩) (
 Hp Try.prog false (binS .add 3 (.tmp 232) (.const (.int .i64 1)) at30 (.int .i64 1)) (fun t233 h_251 => 
 X_3 t233 h_251) h_228 ⟨⟩) ⟨⟩ ⟨⟩) #[] ⟨⟩) #[] ⟨⟩ ⟨⟩) #[] ⟨⟩ ⟨⟩) h_228 ⟨⟩ ⟨⟩) #[] ⟨⟩ ⟨⟩) #[] ⟨⟩ ⟨⟩) h_228 ⟨⟩ ⟨⟩) h_228 ⟨⟩ ⟨⟩) #[] ⟨⟩ ⟨⟩) #[] ⟨⟩ ⟨⟩) #[] ⟨⟩ ⟨⟩) #[] ⟨⟩ ⟨⟩) #[] ⟨⟩ ⟨⟩) h_228 ⟨⟩ ⟨⟩) #[] ⟨⟩ ⟨⟩) #[] ⟨⟩ ⟨⟩) h_228 ⟨⟩ ⟨⟩) h_228 ⟨⟩ ⟨⟩) #[] ⟨⟩ ⟨⟩) #[] ⟨⟩ ⟨⟩) #[] ⟨⟩ ⟨⟩) #[] ⟨⟩) h_228 ⟨⟩) #[] ⟨⟩) h_228 ⟨⟩) (
 k_14 D_5 h_228) ⟨⟩ ⟨⟩) h_227 ⟨⟩) h_226 ⟨⟩) h_225 ⟨⟩) [(.int .i64 0)] h_224 ⟨⟩) h_148 ⟨⟩ ⟨⟩) h_147 ⟨⟩) h_146 ⟨⟩) h_145 ⟨⟩) h_144 ⟨⟩) h_141 ⟨⟩) ⟨⟩ ⟨⟩) h_140 ⟨⟩) ⟨⟩) h_138 ⟨⟩) h_135 ⟨⟩) ⟨⟩ ⟨⟩) h_134 ⟨⟩) h_132 ⟨⟩ ⟨⟩) h_130 ⟨⟩ ⟨⟩) h_128 ⟨⟩ ⟨⟩) h_126 ⟨⟩ ⟨⟩) h_124 ⟨⟩ ⟨⟩) h_123 ⟨⟩) h_121 ⟨⟩ ⟨⟩) h_119 ⟨⟩ ⟨⟩) h_117 ⟨⟩ ⟨⟩) h_115 ⟨⟩ ⟨⟩) h_113 ⟨⟩ ⟨⟩) h_112 ⟨⟩) h_110 ⟨⟩ ⟨⟩) h_108 ⟨⟩ ⟨⟩) h_106 ⟨⟩ ⟨⟩) h_104 ⟨⟩ ⟨⟩) h_102 ⟨⟩ ⟨⟩) h_101 ⟨⟩) h_99 ⟨⟩ ⟨⟩) h_97 ⟨⟩ ⟨⟩) h_96 ⟨⟩) h_94 ⟨⟩ ⟨⟩) h_92 ⟨⟩ ⟨⟩) h_91 ⟨⟩) h_89 ⟨⟩ ⟨⟩) h_87 ⟨⟩ ⟨⟩) h_86 ⟨⟩) h_85 ⟨⟩) h_84 ⟨⟩) ⟨⟩) h_82 ⟨⟩) h_81 ⟨⟩) h_80 ⟨⟩) h_79 ⟨⟩) ⟨⟩) h_77 ⟨⟩) h_76 ⟨⟩) h_75 ⟨⟩) h_74 ⟨⟩) ⟨⟩) h_72 ⟨⟩) h_71 ⟨⟩) h_70 ⟨⟩) h_69 ⟨⟩) h_68 ⟨⟩) h_67 ⟨⟩) ⟨⟩) h_65 ⟨⟩) h_64 ⟨⟩)
 (fun D_6 h_252 =>
 k_13 D_6 h_252) h_63 ⟨⟩ ⟨⟩)
 (fun D_7 h_253 =>
 Hp Try.prog false (binS .add 3 (.tmp 97) (.const (.int .i64 1)) i17 (.int .i64 1)) (fun t98 h_254 => 
 X_1 D_7 t98 h_254) h_253 ⟨⟩) h_62 ⟨⟩ ⟨⟩) (
 k_12 D h_62) ⟨⟩ ⟨⟩) h_61 ⟨⟩) h_60 ⟨⟩) [(.tuple #[]), (.int .i64 0)] h_59 ⟨⟩)
 (fun D_8 h_255 =>
 k_11 D_8 h_255) h_58 ⟨⟩ ⟨⟩)
 (fun D_9 h_256 =>
 CallsH Try.prog 23 #[t76] h_256 (fun t262 h_257 => 
 Hp Try.prog false (binS .eql 3 (.tmp 262) (.const (.int .i64 0)) t262 (.int .i64 0)) (fun t263 h_258 => 
 Join1 (fun k_80 h_259 => guardP t263 true (CallsH Try.prog 21 #[] h_259 k_80 ⟨⟩) (k_80 undef h_259) ⟨⟩ ⟨⟩) (fun t265 h_260 => 
 Hp Try.prog false (pickS t263 t265 (.bool false)) (fun t266 h_261 => 
 Hp Try.prog false (storeS 4 t6 t266) (fun _ h_262 => 
 RetD D_9 h_262 (fun h_263 =>
 Hp Try.prog true (loadCell 4 t6) (fun r_7 _ =>
 R r_7 h_263) h_263 ⟨⟩) ⟨⟩) h_261 ⟨⟩) h_260 ⟨⟩) h_258 ⟨⟩ ⟨⟩) h_257 ⟨⟩) ⟨⟩) h_57 ⟨⟩ ⟨⟩) ⟨⟩) ⟨⟩ ⟨⟩) h_47 ⟨⟩) ⟨⟩ ⟨⟩) h_46 ⟨⟩) h_44 ⟨⟩ ⟨⟩) h_42 ⟨⟩ ⟨⟩) h_41 ⟨⟩) h_40 ⟨⟩) h_39 ⟨⟩) ⟨⟩) h_37 ⟨⟩) h_36 ⟨⟩) ⟨⟩) h_34 ⟨⟩) h_33 ⟨⟩) ⟨⟩) ⟨⟩ ⟨⟩) h_28 ⟨⟩) ⟨⟩) [(.slice none 0 0), (.int .i64 0)] h_26 ⟨⟩) ⟨⟩) ⟨⟩ ⟨⟩) h_21 ⟨⟩) h_19 ⟨⟩ ⟨⟩) h_17 ⟨⟩ ⟨⟩) h_15 ⟨⟩ ⟨⟩) h_14 ⟨⟩) h_12 ⟨⟩ ⟨⟩) h_10 ⟨⟩ ⟨⟩) h_8 ⟨⟩ ⟨⟩) h_7 ⟨⟩) h_5 ⟨⟩ ⟨⟩) h_3 ⟨⟩ ⟨⟩) h_2 ⟨⟩) h_1 ⟨⟩) h ⟨⟩

theorem n4_calls {fates0 script1 picks2 : Value} {R : Value → Heap → Prop} {h : Heap} (H : n4 fates0 script1 picks2 R h) : CallsH Try.prog 4 #[fates0, script1, picks2] h R ⟨⟩ :=
 callsH_of_eq Try.follow (.n none .l (.n none .l (.n none .l (.n none .l (.n none (.n none .l (.n none (.n (some [9, 10]) .l .l) .l)) (.n none .l (.n none .l (.n none .l (.n none .l (.n none .l (.n none .l (.n (some [0]) (.n none .l (.n (some [0]) (.n (some [0, 18]) (.n none .l (.n (some [0]) (.n (some [0]) (.n none .l (.n none .l (.n none .l (.n none .l (.n none .l (.n none .l (.n none .l (.n none .l (.n (some [0]) (.n none .l (.n (some [0]) (.n none .l (.n none (.n none .l (.n none .l (.n none (.n (some [30]) .l .l) .l))) .l)) .l)) (.n none .l (.n none (.n (some [31]) .l .l) .l))))))))))) .l) .l)) .l) .l)) .l)))))))))))) Try.func4 (by kernel_rfl) (by kernel_rfl) (by kernel_rfl) H

/-- palimpsest/palimpsestlaw06.StoreFlushed -/
def n5 (script0 one1 other2 : Value) (R : Value → Heap → Prop) (h : Heap) : Prop :=
 CallsH Try.prog 19 #[script0] h (fun t17 h_1 => 
 Join1 (fun k h_2 => guardP t17 false (k one1 h_2) (k undef h_2) ⟨⟩ ⟨⟩) (fun t19 h_3 => 
 Join1 (fun k_1 h_4 => guardP t17 false (Hp Try.prog false (Builtin.len_ #[23] 3 #[t19]) k_1 h_4 ⟨⟩) (k_1 undef h_4) ⟨⟩ ⟨⟩) (fun t20 h_5 => 
 Join1 (fun k_2 h_6 => guardP t17 false (Hp Try.prog false (binS .gtr 3 (.tmp 20) (.const (.int .i64 300)) t20 (.int .i64 300)) k_2 h_6 ⟨⟩) (k_2 undef h_6) ⟨⟩ ⟨⟩) (fun t21 h_7 => 
 Hp Try.prog false (pickS t17 (.bool true) t21) (fun t22 h_8 => 
 Join1 (fun k_3 h_9 => guardP t22 false (k_3 other2 h_9) (k_3 undef h_9) ⟨⟩ ⟨⟩) (fun t24 h_10 => 
 Join1 (fun k_4 h_11 => guardP t22 false (Hp Try.prog false (Builtin.len_ #[23] 3 #[t24]) k_4 h_11 ⟨⟩) (k_4 undef h_11) ⟨⟩ ⟨⟩) (fun t25 h_12 => 
 Join1 (fun k_5 h_13 => guardP t22 false (Hp Try.prog false (binS .gtr 3 (.tmp 25) (.const (.int .i64 300)) t25 (.int .i64 300)) k_5 h_13 ⟨⟩) (k_5 undef h_13) ⟨⟩ ⟨⟩) (fun t26 h_14 => 
 Hp Try.prog false (pickS t22 (.bool true) t26) (fun t27 h_15 => 
 CondP t27 (
 CallsH Try.prog 21 #[] h_15 (fun t28 h_16 => 
 R t28 h_16) ⟨⟩) (
 LoopC 2 (fun (X : Value → Value → Heap → Prop) => fun some7 i8 h_17 =>
 Hp Try.prog false (Builtin.len_ #[42] 3 #[script0]) (fun t31 h_18 => 
 Hp Try.prog false (binS .lss 3 (.tmp 29) (.tmp 31) i8 t31) (fun t32 h_19 => 
 CondP t32 (
 JoinN 1 (fun (k_6 : Value → Heap → Prop) h_20 =>
 JoinN 1 (fun (k_7 : Value → Heap → Prop) h_21 =>
 Hp Try.prog false (Instr.indexAt 42 script0 i8) (fun t37 h_22 => 
 Hp Try.prog false (Instr.fieldAt 61 t37 0) (fun t38 h_23 => 
 Hp Try.prog false (Instr.loadAt 3 t38) (fun t39 h_24 => 
 Hp Try.prog false (binS .neq 3 (.tmp 39) (.const (.int .i64 7)) t39 (.int .i64 7)) (fun t40 h_25 => 
 CondP t40 (
 Hp Try.prog false (Instr.indexAt 42 script0 i8) (fun t44 h_26 => 
 Hp Try.prog false (Instr.loadAt 61 t44) (fun t45 h_27 => 
 Hp Try.prog false (Instr.buildSlice 42 1 #[(0, t45)]) (fun t46 h_28 => 
 Hp Try.prog false (Builtin.append_ #[42, 42] 42 #[some7, t46]) (fun t47 h_29 => 
 k_7 t47 h_29) h_28 ⟨⟩) h_27 ⟨⟩) h_26 ⟨⟩) h_25 ⟨⟩) (
 k_7 some7 h_25) ⟨⟩ ⟨⟩) h_24 ⟨⟩) h_23 ⟨⟩) h_22 ⟨⟩) h_21 ⟨⟩)
 (fun some7_1 h_30 =>
 k_6 some7_1 h_30) h_20 ⟨⟩ ⟨⟩)
 (fun some7_2 h_31 =>
 Hp Try.prog false (binS .add 3 (.tmp 33) (.const (.int .i64 1)) i8 (.int .i64 1)) (fun t34 h_32 => 
 X some7_2 t34 h_32) h_31 ⟨⟩) h_19 ⟨⟩ ⟨⟩) (
 CallsH Try.prog 22 #[(.slice none 0 0), some7] h_19 (fun t49 h_33 => 
 CallsH Try.prog 25 #[t49] h_33 (fun t51 h_34 => 
 LoopC 1 (fun (X_1 : Value → Heap → Prop) => fun i11 h_35 =>
 Hp Try.prog false (Builtin.len_ #[48] 3 #[t51]) (fun t54 h_36 => 
 Hp Try.prog false (binS .lss 3 (.tmp 52) (.tmp 54) i11 t54) (fun t55 h_37 => 
 CondP t55 (
 Hp Try.prog false (Instr.indexAt 48 t51 i11) (fun t61 h_38 => 
 Hp Try.prog false (Instr.loadAt 9 t61) (fun t62 h_39 => 
 CallsH Try.prog 28 #[t49, t62] h_39 (fun t63 h_40 => 
 Hp Try.prog false (binS .neq 31 (.tmp 63) (.const (.int .i64 0)) t63 (.int .i64 0)) (fun t64 h_41 => 
 CondP t64 (
 R (.bool false) h_41) (
 Hp Try.prog false (binS .add 3 (.tmp 56) (.const (.int .i64 1)) i11 (.int .i64 1)) (fun t57 h_42 => 
 X_1 t57 h_42) h_41 ⟨⟩) ⟨⟩ ⟨⟩) h_40 ⟨⟩) ⟨⟩) h_38 ⟨⟩) h_37 ⟨⟩) (
 CallsH Try.prog 24 #[t49, one1] h_37 (fun t68 h_43 => 
 Hp Try.prog false (Instr.extract t68 0) (fun t69 h_44 => 
 Hp Try.prog false (Instr.extract t68 1) (fun t70 h_45 => 
 CallsH Try.prog 24 #[t49, other2] h_45 (fun t74 h_46 => 
 Hp Try.prog false (Instr.extract t74 0) (fun t75 h_47 => 
 Hp Try.prog false (Instr.extract t74 1) (fun t76 h_48 => 
 Hp Try.prog false (binS .neq 31 (.tmp 77) (.const (.int .i64 0)) t70 (.int .i64 0)) (fun t78 h_49 => 
 Join1 (fun k_8 h_50 => guardP t78 false (k_8 t76 h_50) (k_8 undef h_50) ⟨⟩ ⟨⟩) (fun t80 h_51 => 
 Join1 (fun k_9 h_52 => guardP t78 false (Hp Try.prog false (binS .neq 31 (.tmp 80) (.const (.int .i64 0)) t80 (.int .i64 0)) k_9 h_52 ⟨⟩) (k_9 undef h_52) ⟨⟩ ⟨⟩) (fun t81 h_53 => 
 Hp Try.prog false (pickS t78 (.bool true) t81) (fun t82 h_54 => 
 CondP t82 (
 Hp Try.prog false (binS .eql 31 (.tmp 83) (.const (.int .i64 2)) t70 (.int .i64 2)) (fun t84 h_55 => 
 Join1 (fun k_10 h_56 => guardP t84 false (k_10 t76 h_56) (k_10 undef h_56) ⟨⟩ ⟨⟩) (fun t86 h_57 => 
 Join1 (fun k_11 h_58 => guardP t84 false (Hp Try.prog false (binS .eql 31 (.tmp 86) (.const (.int .i64 2)) t86 (.int .i64 2)) k_11 h_58 ⟨⟩) (k_11 undef h_58) ⟨⟩ ⟨⟩) (fun t87 h_59 => 
 Hp Try.prog false (pickS t84 (.bool true) t87) (fun t88 h_60 => 
 Join1 (fun k_12 h_61 => guardP t88 true (CallsH Try.prog 21 #[] h_61 k_12 ⟨⟩) (k_12 undef h_61) ⟨⟩ ⟨⟩) (fun t90 h_62 => 
 Hp Try.prog false (pickS t88 t90 (.bool false)) (fun t91 h_63 => 
 R t91 h_63) h_62 ⟨⟩) h_60 ⟨⟩ ⟨⟩) h_59 ⟨⟩) h_57 ⟨⟩ ⟨⟩) h_55 ⟨⟩ ⟨⟩) h_54 ⟨⟩) (
 CallsH Try.prog 23 #[t49] h_54 (fun t93 h_64 => 
 Hp Try.prog false (binS .eql 3 (.tmp 93) (.const (.int .i64 0)) t93 (.int .i64 0)) (fun t94 h_65 => 
 Join1 (fun k_13 h_66 => guardP t94 true (k_13 t69 h_66) (k_13 undef h_66) ⟨⟩ ⟨⟩) (fun t96 h_67 => 
 Join1 (fun k_14 h_68 => guardP t94 true (k_14 t75 h_68) (k_14 undef h_68) ⟨⟩ ⟨⟩) (fun t97 h_69 => 
 Join1 (fun k_15 h_70 => guardP t94 true (CallsH Try.prog 29 #[t96, t97] h_70 k_15 ⟨⟩) (k_15 undef h_70) ⟨⟩ ⟨⟩) (fun t98 h_71 => 
 Hp Try.prog false (pickS t94 t98 (.bool false)) (fun t99 h_72 => 
 Join1 (fun k_16 h_73 => guardP t99 true (k_16 t69 h_73) (k_16 undef h_73) ⟨⟩ ⟨⟩) (fun t101 h_74 => 
 Join1 (fun k_17 h_75 => guardP t99 true (k_17 t49 h_75) (k_17 undef h_75) ⟨⟩ ⟨⟩) (fun t102 h_76 => 
 Join1 (fun k_18 h_77 => guardP t99 true (CallsH Try.prog 29 #[t101, t102] h_77 k_18 ⟨⟩) (k_18 undef h_77) ⟨⟩ ⟨⟩) (fun t103 h_78 => 
 Hp Try.prog false (pickS t99 t103 (.bool false)) (fun t104 h_79 => 
 Join1 (fun k_19 h_80 => guardP t104 true (CallsH Try.prog 21 #[] h_80 k_19 ⟨⟩) (k_19 undef h_80) ⟨⟩ ⟨⟩) (fun t106 h_81 => 
 Hp Try.prog false (pickS t104 t106 (.bool false)) (fun t107 h_82 => 
 R t107 h_82) h_81 ⟨⟩) h_79 ⟨⟩ ⟨⟩) h_78 ⟨⟩) h_76 ⟨⟩ ⟨⟩) h_74 ⟨⟩ ⟨⟩) h_72 ⟨⟩ ⟨⟩) h_71 ⟨⟩) h_69 ⟨⟩ ⟨⟩) h_67 ⟨⟩ ⟨⟩) h_65 ⟨⟩ ⟨⟩) h_64 ⟨⟩) ⟨⟩) ⟨⟩ ⟨⟩) h_53 ⟨⟩) h_51 ⟨⟩ ⟨⟩) h_49 ⟨⟩ ⟨⟩) h_48 ⟨⟩) h_47 ⟨⟩) h_46 ⟨⟩) ⟨⟩) h_44 ⟨⟩) h_43 ⟨⟩) ⟨⟩) ⟨⟩ ⟨⟩) h_36 ⟨⟩) h_35 ⟨⟩) [(.int .i64 0)] h_34 ⟨⟩) ⟨⟩) ⟨⟩) ⟨⟩ ⟨⟩) h_18 ⟨⟩) h_17 ⟨⟩) [(.slice none 0 0), (.int .i64 0)] h_15 ⟨⟩) ⟨⟩ ⟨⟩) h_14 ⟨⟩) h_12 ⟨⟩ ⟨⟩) h_10 ⟨⟩ ⟨⟩) h_8 ⟨⟩ ⟨⟩) h_7 ⟨⟩) h_5 ⟨⟩ ⟨⟩) h_3 ⟨⟩ ⟨⟩) h_1 ⟨⟩ ⟨⟩) ⟨⟩

theorem n5_calls {script0 one1 other2 : Value} {R : Value → Heap → Prop} {h : Heap} (H : n5 script0 one1 other2 R h) : CallsH Try.prog 5 #[script0, one1, other2] h R ⟨⟩ :=
 callsH_of_eq Try.follow (.n none .l (.n none .l (.n none .l (.n none (.n none .l (.n none (.n (some [8, 9]) (.n none .l (.n (some [8]) (.n (some [8]) .l .l) .l)) .l) .l)) (.n none .l (.n none .l (.n none (.n none .l (.n none (.n (some [12]) .l .l) .l)) .l))))))) Try.func5 (by kernel_rfl) (by kernel_rfl) (by kernel_rfl) H

/-- palimpsest/palimpsestlaw06.StoreNil -/
def n6 (name0 n1 b2 : Value) (R : Value → Heap → Prop) (h : Heap) : Prop :=
 CallsH Try.prog 30 #[(.pointer none), name0, n1, b2] h (fun t12 h_1 => 
 Join1 (fun k h_2 => guardP t12 true (Hp Try.prog false (Instr.build 68 #[]) k h_2 ⟨⟩) (k undef h_2) ⟨⟩ ⟨⟩) (fun t14 h_3 => 
 Join1 (fun k_1 h_4 => guardP t12 true (Hp Try.prog false (Instr.box 68 t14) k_1 h_4 ⟨⟩) (k_1 undef h_4) ⟨⟩ ⟨⟩) (fun t15 h_5 => 
 Join1 (fun k_2 h_6 => guardP t12 true (k_2 name0 h_6) (k_2 undef h_6) ⟨⟩ ⟨⟩) (fun t16 h_7 => 
 Join1 (fun k_3 h_8 => guardP t12 true (k_3 n1 h_8) (k_3 undef h_8) ⟨⟩ ⟨⟩) (fun t17 h_9 => 
 Join1 (fun k_4 h_10 => guardP t12 true (k_4 b2 h_10) (k_4 undef h_10) ⟨⟩ ⟨⟩) (fun t18 h_11 => 
 Join1 (fun k_5 h_12 => guardP t12 true (CallsH Try.prog 30 #[t15, t16, t17, t18] h_12 k_5 ⟨⟩) (k_5 undef h_12) ⟨⟩ ⟨⟩) (fun t19 h_13 => 
 Hp Try.prog false (pickS t12 t19 (.bool false)) (fun t20 h_14 => 
 Join1 (fun k_6 h_15 => guardP t20 true (k_6 (.pointer none) h_15) (k_6 undef h_15) ⟨⟩ ⟨⟩) (fun t22 h_16 => 
 Join1 (fun k_7 h_17 => guardP t20 true (Hp Try.prog false (Instr.build 68 #[]) k_7 h_17 ⟨⟩) (k_7 undef h_17) ⟨⟩ ⟨⟩) (fun t23 h_18 => 
 Join1 (fun k_8 h_19 => guardP t20 true (Hp Try.prog false (Instr.box 68 t23) k_8 h_19 ⟨⟩) (k_8 undef h_19) ⟨⟩ ⟨⟩) (fun t24 h_20 => 
 Join1 (fun k_9 h_21 => guardP t20 true (CallsH Try.prog 29 #[t22, t24] h_21 k_9 ⟨⟩) (k_9 undef h_21) ⟨⟩ ⟨⟩) (fun t25 h_22 => 
 Hp Try.prog false (pickS t20 t25 (.bool false)) (fun t26 h_23 => 
 Join1 (fun k_10 h_24 => guardP t26 true (CallsH Try.prog 21 #[] h_24 k_10 ⟨⟩) (k_10 undef h_24) ⟨⟩ ⟨⟩) (fun t28 h_25 => 
 Hp Try.prog false (pickS t26 t28 (.bool false)) (fun t29 h_26 => 
 R t29 h_26) h_25 ⟨⟩) h_23 ⟨⟩ ⟨⟩) h_22 ⟨⟩) h_20 ⟨⟩ ⟨⟩) h_18 ⟨⟩ ⟨⟩) h_16 ⟨⟩ ⟨⟩) h_14 ⟨⟩ ⟨⟩) h_13 ⟨⟩) h_11 ⟨⟩ ⟨⟩) h_9 ⟨⟩ ⟨⟩) h_7 ⟨⟩ ⟨⟩) h_5 ⟨⟩ ⟨⟩) h_3 ⟨⟩ ⟨⟩) h_1 ⟨⟩ ⟨⟩) ⟨⟩

theorem n6_calls {name0 n1 b2 : Value} {R : Value → Heap → Prop} {h : Heap} (H : n6 name0 n1 b2 R h) : CallsH Try.prog 6 #[name0, n1, b2] h R ⟨⟩ :=
 callsH_of_eq Try.follow .l Try.func6 (by kernel_rfl) (by kernel_rfl) (by kernel_rfl) H

/-- palimpsest/palimpsestlaw06.vast -/
def n19 (l0 : Value) (R : Value → Heap → Prop) (h : Heap) : Prop :=
 Hp Try.prog false (Builtin.len_ #[42] 3 #[l0]) (fun t6 h_1 => 
 Hp Try.prog false (binS .gtr 3 (.tmp 6) (.const (.int .i64 120)) t6 (.int .i64 120)) (fun t7 h_2 => 
 CondP t7 (
 R (.bool true) h_2) (
 LoopC 1 (fun (X : Value → Heap → Prop) => fun i3 h_3 =>
 Hp Try.prog false (Builtin.len_ #[42] 3 #[l0]) (fun t10 h_4 => 
 Hp Try.prog false (binS .lss 3 (.tmp 8) (.tmp 10) i3 t10) (fun t11 h_5 => 
 CondP t11 (
 Hp Try.prog false (Instr.indexAt 42 l0 i3) (fun t16 h_6 => 
 Hp Try.prog false (Instr.loadAt 61 t16) (fun t17 h_7 => 
 Hp Try.prog false (Instr.alloc 61 true undef) (fun s4 h_8 => 
 Hp Try.prog false (storeS 61 s4 t17) (fun _ h_9 => 
 Hp Try.prog false (Instr.fieldAt 61 s4 4) (fun t18 h_10 => 
 Hp Try.prog false (Instr.loadAt 50 t18) (fun t19 h_11 => 
 Hp Try.prog false (Builtin.len_ #[50] 3 #[t19]) (fun t20 h_12 => 
 Hp Try.prog false (binS .gtr 3 (.tmp 20) (.const (.int .i64 3000)) t20 (.int .i64 3000)) (fun t21 h_13 => 
 Join1 (fun k h_14 => guardP t21 false (Hp Try.prog false (Instr.fieldAt 61 s4 5) k h_14 ⟨⟩) (k undef h_14) ⟨⟩ ⟨⟩) (fun t23 h_15 => 
 Join1 (fun k_1 h_16 => guardP t21 false (Hp Try.prog false (Instr.loadAt 41 t23) k_1 h_16 ⟨⟩) (k_1 undef h_16) ⟨⟩ ⟨⟩) (fun t24 h_17 => 
 Join1 (fun k_2 h_18 => guardP t21 false (Hp Try.prog false (Builtin.len_ #[41] 3 #[t24]) k_2 h_18 ⟨⟩) (k_2 undef h_18) ⟨⟩ ⟨⟩) (fun t25 h_19 => 
 Join1 (fun k_3 h_20 => guardP t21 false (Hp Try.prog false (binS .gtr 3 (.tmp 25) (.const (.int .i64 60)) t25 (.int .i64 60)) k_3 h_20 ⟨⟩) (k_3 undef h_20) ⟨⟩ ⟨⟩) (fun t26 h_21 => 
 Hp Try.prog false (pickS t21 (.bool true) t26) (fun t27 h_22 => 
 Join1 (fun k_4 h_23 => guardP t27 false (Hp Try.prog false (Instr.fieldAt 61 s4 6) k_4 h_23 ⟨⟩) (k_4 undef h_23) ⟨⟩ ⟨⟩) (fun t29 h_24 => 
 Join1 (fun k_5 h_25 => guardP t27 false (Hp Try.prog false (Instr.loadAt 23 t29) k_5 h_25 ⟨⟩) (k_5 undef h_25) ⟨⟩ ⟨⟩) (fun t30 h_26 => 
 Join1 (fun k_6 h_27 => guardP t27 false (Hp Try.prog false (Builtin.len_ #[23] 3 #[t30]) k_6 h_27 ⟨⟩) (k_6 undef h_27) ⟨⟩ ⟨⟩) (fun t31 h_28 => 
 Join1 (fun k_7 h_29 => guardP t27 false (Hp Try.prog false (binS .gtr 3 (.tmp 31) (.const (.int .i64 300)) t31 (.int .i64 300)) k_7 h_29 ⟨⟩) (k_7 undef h_29) ⟨⟩ ⟨⟩) (fun t32 h_30 => 
 Hp Try.prog false (pickS t27 (.bool true) t32) (fun t33 h_31 => 
 Join1 (fun k_8 h_32 => guardP t33 false (Hp Try.prog false (Instr.fieldAt 61 s4 0) k_8 h_32 ⟨⟩) (k_8 undef h_32) ⟨⟩ ⟨⟩) (fun t35 h_33 => 
 Join1 (fun k_9 h_34 => guardP t33 false (Hp Try.prog false (Instr.loadAt 3 t35) k_9 h_34 ⟨⟩) (k_9 undef h_34) ⟨⟩ ⟨⟩) (fun t36 h_35 => 
 Join1 (fun k_10 h_36 => guardP t33 false (Hp Try.prog false (binS .eql 3 (.tmp 36) (.const (.int .i64 3)) t36 (.int .i64 3)) k_10 h_36 ⟨⟩) (k_10 undef h_36) ⟨⟩ ⟨⟩) (fun t37 h_37 => 
 Join1 (fun k_11 h_38 => guardP t33 false (k_11 t37 h_38) (k_11 undef h_38) ⟨⟩ ⟨⟩) (fun t38 h_39 => 
 Join1 (fun k_12 h_40 => guardP t38 true (Hp Try.prog false (Instr.fieldAt 61 s4 2) k_12 h_40 ⟨⟩) (k_12 undef h_40) ⟨⟩ ⟨⟩) (fun t39 h_41 => 
 Join1 (fun k_13 h_42 => guardP t38 true (Hp Try.prog false (Instr.loadAt 2 t39) k_13 h_42 ⟨⟩) (k_13 undef h_42) ⟨⟩ ⟨⟩) (fun t40 h_43 => 
 Join1 (fun k_14 h_44 => guardP t38 true (Hp Try.prog false (binS .gtr 2 (.tmp 40) (.const (.int .i64 20000)) t40 (.int .i64 20000)) k_14 h_44 ⟨⟩) (k_14 undef h_44) ⟨⟩ ⟨⟩) (fun t41 h_45 => 
 Join1 (fun k_15 h_46 => guardP t33 false (Hp Try.prog false (pickS t38 t41 (.bool false)) k_15 h_46 ⟨⟩) (k_15 undef h_46) ⟨⟩ ⟨⟩) (fun t42 h_47 => 
 Join1 (fun k_16 h_48 => guardP t33 false (k_16 t42 h_48) (k_16 undef h_48) ⟨⟩ ⟨⟩) (fun t43 h_49 => 
 Join1 (fun k_17 h_50 => guardP t43 true (Hp Try.prog false (Instr.fieldAt 61 s4 2) k_17 h_50 ⟨⟩) (k_17 undef h_50) ⟨⟩ ⟨⟩) (fun t44 h_51 => 
 Join1 (fun k_18 h_52 => guardP t43 true (Hp Try.prog false (Instr.loadAt 2 t44) k_18 h_52 ⟨⟩) (k_18 undef h_52) ⟨⟩ ⟨⟩) (fun t45 h_53 => 
 Join1 (fun k_19 h_54 => guardP t43 true (Hp Try.prog false (binS .leq 2 (.tmp 45) (.const (.int .i64 268435456)) t45 (.int .i64 268435456)) k_19 h_54 ⟨⟩) (k_19 undef h_54) ⟨⟩ ⟨⟩) (fun t46 h_55 => 
 Join1 (fun k_20 h_56 => guardP t33 false (Hp Try.prog false (pickS t43 t46 (.bool false)) k_20 h_56 ⟨⟩) (k_20 undef h_56) ⟨⟩ ⟨⟩) (fun t47 h_57 => 
 Hp Try.prog false (pickS t33 (.bool true) t47) (fun t48 h_58 => 
 Join1 (fun k_21 h_59 => guardP t48 false (Hp Try.prog false (Instr.fieldAt 61 s4 0) k_21 h_59 ⟨⟩) (k_21 undef h_59) ⟨⟩ ⟨⟩) (fun t50 h_60 => 
 Join1 (fun k_22 h_61 => guardP t48 false (Hp Try.prog false (Instr.loadAt 3 t50) k_22 h_61 ⟨⟩) (k_22 undef h_61) ⟨⟩ ⟨⟩) (fun t51 h_62 => 
 Join1 (fun k_23 h_63 => guardP t48 false (Hp Try.prog false (binS .eql 3 (.tmp 51) (.const (.int .i64 5)) t51 (.int .i64 5)) k_23 h_63 ⟨⟩) (k_23 undef h_63) ⟨⟩ ⟨⟩) (fun t52 h_64 => 
 Join1 (fun k_24 h_65 => guardP t48 false (k_24 t52 h_65) (k_24 undef h_65) ⟨⟩ ⟨⟩) (fun t53 h_66 => 
 Join1 (fun k_25 h_67 => guardP t53 true (Hp Try.prog false (Instr.fieldAt 61 s4 1) k_25 h_67 ⟨⟩) (k_25 undef h_67) ⟨⟩ ⟨⟩) (fun t54 h_68 => 
 Join1 (fun k_26 h_69 => guardP t53 true (Hp Try.prog false (Instr.loadAt 3 t54) k_26 h_69 ⟨⟩) (k_26 undef h_69) ⟨⟩ ⟨⟩) (fun t55 h_70 => 
 Join1 (fun k_27 h_71 => guardP t53 true (Hp Try.prog false (binS .gtr 3 (.tmp 55) (.const (.int .i64 20000)) t55 (.int .i64 20000)) k_27 h_71 ⟨⟩) (k_27 undef h_71) ⟨⟩ ⟨⟩) (fun t56 h_72 => 
 Join1 (fun k_28 h_73 => guardP t48 false (Hp Try.prog false (pickS t53 t56 (.bool false)) k_28 h_73 ⟨⟩) (k_28 undef h_73) ⟨⟩ ⟨⟩) (fun t57 h_74 => 
 Join1 (fun k_29 h_75 => guardP t48 false (k_29 t57 h_75) (k_29 undef h_75) ⟨⟩ ⟨⟩) (fun t58 h_76 => 
 Join1 (fun k_30 h_77 => guardP t58 true (Hp Try.prog false (Instr.fieldAt 61 s4 1) k_30 h_77 ⟨⟩) (k_30 undef h_77) ⟨⟩ ⟨⟩) (fun t59 h_78 => 
 Join1 (fun k_31 h_79 => guardP t58 true (Hp Try.prog false (Instr.loadAt 3 t59) k_31 h_79 ⟨⟩) (k_31 undef h_79) ⟨⟩ ⟨⟩) (fun t60 h_80 => 
 Join1 (fun k_32 h_81 => guardP t58 true (Hp Try.prog false (binS .leq 3 (.tmp 60) (.const (.int .i64 268435456)) t60 (.int .i64 268435456)) k_32 h_81 ⟨⟩) (k_32 undef h_81) ⟨⟩ ⟨⟩) (fun t61 h_82 => 
 Join1 (fun k_33 h_83 => guardP t48 false (Hp Try.prog false (pickS t58 t61 (.bool false)) k_33 h_83 ⟨⟩) (k_33 undef h_83) ⟨⟩ ⟨⟩) (fun t62 h_84 => 
 Hp Try.prog false (pickS t48 (.bool true) t62) (fun t63 h_85 => 
 CondP t63 (
 R (.bool true) h_85) (
 Hp Try.prog false (binS .add 3 (.tmp 12) (.const (.int .i64 1)) i3 (.int .i64 1)) (fun t13 h_86 => 
 X t13 h_86) h_85 ⟨⟩) ⟨⟩ ⟨⟩) h_84 ⟨⟩) h_82 ⟨⟩ ⟨⟩) h_80 ⟨⟩ ⟨⟩) h_78 ⟨⟩ ⟨⟩) h_76 ⟨⟩ ⟨⟩) h_74 ⟨⟩ ⟨⟩) h_72 ⟨⟩ ⟨⟩) h_70 ⟨⟩ ⟨⟩) h_68 ⟨⟩ ⟨⟩) h_66 ⟨⟩ ⟨⟩) h_64 ⟨⟩ ⟨⟩) h_62 ⟨⟩ ⟨⟩) h_60 ⟨⟩ ⟨⟩) h_58 ⟨⟩ ⟨⟩) h_57 ⟨⟩) h_55 ⟨⟩ ⟨⟩) h_53 ⟨⟩ ⟨⟩) h_51 ⟨⟩ ⟨⟩) h_49 ⟨⟩ ⟨⟩) h_47 ⟨⟩ ⟨⟩) h_45 ⟨⟩ ⟨⟩) h_43 ⟨⟩ ⟨⟩) h_41 ⟨⟩ ⟨⟩) h_39 ⟨⟩ ⟨⟩) h_37 ⟨⟩ ⟨⟩) h_35 ⟨⟩ ⟨⟩) h_33 ⟨⟩ ⟨⟩) h_31 ⟨⟩ ⟨⟩) h_30 ⟨⟩) h_28 ⟨⟩ ⟨⟩) h_26 ⟨⟩ ⟨⟩) h_24 ⟨⟩ ⟨⟩) h_22 ⟨⟩ ⟨⟩) h_21 ⟨⟩) h_19 ⟨⟩ ⟨⟩) h_17 ⟨⟩ ⟨⟩) h_15 ⟨⟩ ⟨⟩) h_13 ⟨⟩ ⟨⟩) h_12 ⟨⟩) h_11 ⟨⟩) h_10 ⟨⟩) h_9 ⟨⟩) h_8 ⟨⟩) h_7 ⟨⟩) h_6 ⟨⟩) h_5 ⟨⟩) (
 R (.bool false) h_5) ⟨⟩ ⟨⟩) h_4 ⟨⟩) h_3 ⟨⟩) [(.int .i64 0)] h_2 ⟨⟩) ⟨⟩ ⟨⟩) h_1 ⟨⟩) h ⟨⟩

theorem n19_calls {l0 : Value} {R : Value → Heap → Prop} {h : Heap} (H : n19 l0 R h) : CallsH Try.prog 19 #[l0] h R ⟨⟩ :=
 callsH_of_eq Try.follow (.n none .l (.n none .l (.n none (.n none .l (.n none (.n (some [4]) .l .l) .l)) .l))) Try.func19 (by kernel_rfl) (by kernel_rfl) (by kernel_rfl) H

/-- palimpsest/palimpsestlaw06.known -/
def n21 (R : Value → Heap → Prop) (h : Heap) : Prop :=
 CallsH Try.prog 39 #[(.slice none 0 0)] h (fun t12 h_1 => 
 Hp Try.prog false (Instr.extract t12 0) (fun t13 h_2 => 
 Hp Try.prog false (Instr.extract t12 1) (fun t14 h_3 => 
 CallsH Try.prog 33 #[t13, (str [97])] h_3 (fun t16 h_4 => 
 Hp Try.prog false (Instr.buildSlice 50 4 #[(0, (.int .u8 119)), (1, (.int .u8 120)), (2, (.int .u8 121)), (3, (.int .u8 122))]) (fun t18 h_5 => 
 Hp Try.prog false (convert 50 50 t18) (fun t19 h_6 => 
 CallsH Try.prog 34 #[t13, (str [97]), (.int .i64 510), t19] h_6 (fun t20 h_7 => 
 CallsH Try.prog 49 #[t13, (str [97])] h_7 (fun t23 h_8 => 
 Hp Try.prog false (Instr.extract t23 0) (fun t24 h_9 => 
 Hp Try.prog false (Instr.extract t23 1) (fun t25 h_10 => 
 Hp Try.prog false (Instr.buildSlice 23 2 #[(0, (.int .i64 0)), (1, (.int .i64 1))]) (fun t28 h_11 => 
 CallsH Try.prog 24 #[t13, t28] h_11 (fun t29 h_12 => 
 Hp Try.prog false (Instr.extract t29 0) (fun t30 h_13 => 
 Hp Try.prog false (Instr.extract t29 1) (fun t31 h_14 => 
 CallsH Try.prog 26 #[t30, (str [97]), (.int .i64 510), (.int .i64 9)] h_14 (fun t34 h_15 => 
 Hp Try.prog false (Instr.extract t34 0) (fun t35 h_16 => 
 Hp Try.prog false (Instr.extract t34 1) (fun t36 h_17 => 
 Hp Try.prog false (binS .eql 31 (.tmp 37) (.const (.int .i64 0)) t14 (.int .i64 0)) (fun t38 h_18 => 
 Join1 (fun k h_19 => guardP t38 true (k t16 h_19) (k undef h_19) ⟨⟩ ⟨⟩) (fun t40 h_20 => 
 Join1 (fun k_1 h_21 => guardP t38 true (Hp Try.prog false (binS .eql 31 (.tmp 40) (.const (.int .i64 0)) t40 (.int .i64 0)) k_1 h_21 ⟨⟩) (k_1 undef h_21) ⟨⟩ ⟨⟩) (fun t41 h_22 => 
 Hp Try.prog false (pickS t38 t41 (.bool false)) (fun t42 h_23 => 
 Join1 (fun k_2 h_24 => guardP t42 true (k_2 t20 h_24) (k_2 undef h_24) ⟨⟩ ⟨⟩) (fun t44 h_25 => 
 Join1 (fun k_3 h_26 => guardP t42 true (Hp Try.prog false (binS .eql 31 (.tmp 44) (.const (.int .i64 0)) t44 (.int .i64 0)) k_3 h_26 ⟨⟩) (k_3 undef h_26) ⟨⟩ ⟨⟩) (fun t45 h_27 => 
 Hp Try.prog false (pickS t42 t45 (.bool false)) (fun t46 h_28 => 
 Join1 (fun k_4 h_29 => guardP t46 true (k_4 t24 h_29) (k_4 undef h_29) ⟨⟩ ⟨⟩) (fun t48 h_30 => 
 Join1 (fun k_5 h_31 => guardP t46 true (Hp Try.prog false (binS .eql 2 (.tmp 48) (.const (.int .i64 514)) t48 (.int .i64 514)) k_5 h_31 ⟨⟩) (k_5 undef h_31) ⟨⟩ ⟨⟩) (fun t49 h_32 => 
 Hp Try.prog false (pickS t46 t49 (.bool false)) (fun t50 h_33 => 
 Join1 (fun k_6 h_34 => guardP t50 true (k_6 t25 h_34) (k_6 undef h_34) ⟨⟩ ⟨⟩) (fun t52 h_35 => 
 Join1 (fun k_7 h_36 => guardP t50 true (Hp Try.prog false (binS .eql 31 (.tmp 52) (.const (.int .i64 0)) t52 (.int .i64 0)) k_7 h_36 ⟨⟩) (k_7 undef h_36) ⟨⟩ ⟨⟩) (fun t53 h_37 => 
 Hp Try.prog false (pickS t50 t53 (.bool false)) (fun t54 h_38 => 
 Join1 (fun k_8 h_39 => guardP t54 true (k_8 t13 h_39) (k_8 undef h_39) ⟨⟩ ⟨⟩) (fun t56 h_40 => 
 Join1 (fun k_9 h_41 => guardP t54 true (CallsH Try.prog 23 #[t56] h_41 k_9 ⟨⟩) (k_9 undef h_41) ⟨⟩ ⟨⟩) (fun t57 h_42 => 
 Join1 (fun k_10 h_43 => guardP t54 true (Hp Try.prog false (binS .eql 3 (.tmp 57) (.const (.int .i64 2)) t57 (.int .i64 2)) k_10 h_43 ⟨⟩) (k_10 undef h_43) ⟨⟩ ⟨⟩) (fun t58 h_44 => 
 Hp Try.prog false (pickS t54 t58 (.bool false)) (fun t59 h_45 => 
 Join1 (fun k_11 h_46 => guardP t59 true (k_11 t31 h_46) (k_11 undef h_46) ⟨⟩ ⟨⟩) (fun t61 h_47 => 
 Join1 (fun k_12 h_48 => guardP t59 true (Hp Try.prog false (binS .eql 31 (.tmp 61) (.const (.int .i64 0)) t61 (.int .i64 0)) k_12 h_48 ⟨⟩) (k_12 undef h_48) ⟨⟩ ⟨⟩) (fun t62 h_49 => 
 Hp Try.prog false (pickS t59 t62 (.bool false)) (fun t63 h_50 => 
 Join1 (fun k_13 h_51 => guardP t63 true (k_13 t35 h_51) (k_13 undef h_51) ⟨⟩ ⟨⟩) (fun t65 h_52 => 
 Join1 (fun k_14 h_53 => guardP t63 true (Hp Try.prog false (convert 50 9 t65) k_14 h_53 ⟨⟩) (k_14 undef h_53) ⟨⟩ ⟨⟩) (fun t66 h_54 => 
 Join1 (fun k_15 h_55 => guardP t63 true (Hp Try.prog false (binS .eql 9 (.tmp 66) (.const (str [0, 0, 121, 122])) t66 (str [0, 0, 121, 122])) k_15 h_55 ⟨⟩) (k_15 undef h_55) ⟨⟩ ⟨⟩) (fun t67 h_56 => 
 Hp Try.prog false (pickS t63 t67 (.bool false)) (fun t68 h_57 => 
 Join1 (fun k_16 h_58 => guardP t68 true (k_16 t36 h_58) (k_16 undef h_58) ⟨⟩ ⟨⟩) (fun t70 h_59 => 
 Join1 (fun k_17 h_60 => guardP t68 true (Hp Try.prog false (binS .eql 31 (.tmp 70) (.const (.int .i64 0)) t70 (.int .i64 0)) k_17 h_60 ⟨⟩) (k_17 undef h_60) ⟨⟩ ⟨⟩) (fun t71 h_61 => 
 Hp Try.prog false (pickS t68 t71 (.bool false)) (fun t72 h_62 => 
 R t72 h_62) h_61 ⟨⟩) h_59 ⟨⟩ ⟨⟩) h_57 ⟨⟩ ⟨⟩) h_56 ⟨⟩) h_54 ⟨⟩ ⟨⟩) h_52 ⟨⟩ ⟨⟩) h_50 ⟨⟩ ⟨⟩) h_49 ⟨⟩) h_47 ⟨⟩ ⟨⟩) h_45 ⟨⟩ ⟨⟩) h_44 ⟨⟩) h_42 ⟨⟩ ⟨⟩) h_40 ⟨⟩ ⟨⟩) h_38 ⟨⟩ ⟨⟩) h_37 ⟨⟩) h_35 ⟨⟩ ⟨⟩) h_33 ⟨⟩ ⟨⟩) h_32 ⟨⟩) h_30 ⟨⟩ ⟨⟩) h_28 ⟨⟩ ⟨⟩) h_27 ⟨⟩) h_25 ⟨⟩ ⟨⟩) h_23 ⟨⟩ ⟨⟩) h_22 ⟨⟩) h_20 ⟨⟩ ⟨⟩) h_18 ⟨⟩ ⟨⟩) h_17 ⟨⟩) h_16 ⟨⟩) h_15 ⟨⟩) ⟨⟩) h_13 ⟨⟩) h_12 ⟨⟩) ⟨⟩) h_10 ⟨⟩) h_9 ⟨⟩) h_8 ⟨⟩) ⟨⟩) ⟨⟩) h_5 ⟨⟩) h_4 ⟨⟩) ⟨⟩) h_2 ⟨⟩) h_1 ⟨⟩) ⟨⟩

theorem n21_calls {R : Value → Heap → Prop} {h : Heap} (H : n21  R h) : CallsH Try.prog 21 #[] h R ⟨⟩ :=
 callsH_of_eq Try.follow .l Try.func21 (by kernel_rfl) (by kernel_rfl) (by kernel_rfl) H

/-- palimpsest/palimpsestlaw06.play -/
def n22 (fates0 script1 : Value) (R : Value → Heap → Prop) (h : Heap) : Prop :=
 CallsH Try.prog 39 #[fates0] h (fun t11 h_1 => 
 Hp Try.prog false (Instr.extract t11 0) (fun t12 h_2 => 
 Hp Try.prog false (Instr.extract t11 1) (fun t13 h_3 => 
 LoopC 1 (fun (X : Value → Heap → Prop) => fun i7 h_4 =>
 Hp Try.prog false (Builtin.len_ #[42] 3 #[script1]) (fun t16 h_5 => 
 Hp Try.prog false (binS .lss 3 (.tmp 14) (.tmp 16) i7 t16) (fun t17 h_6 => 
 CondP t17 (
 JoinN 0 (fun (k : Heap → Prop) h_7 =>
 JoinN 0 (fun (k_1 : Heap → Prop) h_8 =>
 Hp Try.prog false (Instr.indexAt 42 script1 i7) (fun t22 h_9 => 
 Hp Try.prog false (Instr.loadAt 61 t22) (fun t23 h_10 => 
 Hp Try.prog false (Instr.alloc 61 true undef) (fun t8 h_11 => 
 Hp Try.prog false (storeS 61 t8 t23) (fun _ h_12 => 
 Hp Try.prog false (Instr.fieldAt 61 t8 0) (fun t24 h_13 => 
 Hp Try.prog false (Instr.loadAt 3 t24) (fun t25 h_14 => 
 JoinN 0 (fun (k_2 : Heap → Prop) h_15 =>
 Hp Try.prog false (binS .eql 3 (.tmp 25) (.const (.int .i64 1)) t25 (.int .i64 1)) (fun t27 h_16 => 
 CondP t27 (
 Hp Try.prog false (Instr.fieldAt 61 t8 3) (fun t29 h_17 => 
 Hp Try.prog false (Instr.loadAt 9 t29) (fun t30 h_18 => 
 CallsH Try.prog 33 #[t12, t30] h_18 (fun t31 h_19 => 
 k_2 h_19) ⟨⟩) h_17 ⟨⟩) h_16 ⟨⟩) (
 Hp Try.prog false (binS .eql 3 (.tmp 25) (.const (.int .i64 2)) t25 (.int .i64 2)) (fun t33 h_20 => 
 CondP t33 (
 Hp Try.prog false (Instr.fieldAt 61 t8 3) (fun t35 h_21 => 
 Hp Try.prog false (Instr.loadAt 9 t35) (fun t36 h_22 => 
 CallsH Try.prog 50 #[t12, t36] h_22 (fun t37 h_23 => 
 k_2 h_23) ⟨⟩) h_21 ⟨⟩) h_20 ⟨⟩) (
 Hp Try.prog false (binS .eql 3 (.tmp 25) (.const (.int .i64 3)) t25 (.int .i64 3)) (fun t39 h_24 => 
 CondP t39 (
 Hp Try.prog false (Instr.fieldAt 61 t8 3) (fun t41 h_25 => 
 Hp Try.prog false (Instr.loadAt 9 t41) (fun t42 h_26 => 
 Hp Try.prog false (Instr.fieldAt 61 t8 2) (fun t43 h_27 => 
 Hp Try.prog false (Instr.loadAt 2 t43) (fun t44 h_28 => 
 Hp Try.prog false (Instr.fieldAt 61 t8 4) (fun t45 h_29 => 
 Hp Try.prog false (Instr.loadAt 50 t45) (fun t46 h_30 => 
 CallsH Try.prog 34 #[t12, t42, t44, t46] h_30 (fun t47 h_31 => 
 k_2 h_31) ⟨⟩) h_29 ⟨⟩) h_28 ⟨⟩) h_27 ⟨⟩) h_26 ⟨⟩) h_25 ⟨⟩) h_24 ⟨⟩) (
 Hp Try.prog false (binS .eql 3 (.tmp 25) (.const (.int .i64 4)) t25 (.int .i64 4)) (fun t49 h_32 => 
 CondP t49 (
 Hp Try.prog false (Instr.fieldAt 61 t8 3) (fun t51 h_33 => 
 Hp Try.prog false (Instr.loadAt 9 t51) (fun t52 h_34 => 
 CallsH Try.prog 28 #[t12, t52] h_34 (fun t53 h_35 => 
 k_2 h_35) ⟨⟩) h_33 ⟨⟩) h_32 ⟨⟩) (
 Hp Try.prog false (binS .eql 3 (.tmp 25) (.const (.int .i64 5)) t25 (.int .i64 5)) (fun t55 h_36 => 
 CondP t55 (
 Hp Try.prog false (Instr.fieldAt 61 t8 3) (fun t57 h_37 => 
 Hp Try.prog false (Instr.loadAt 9 t57) (fun t58 h_38 => 
 Hp Try.prog false (Instr.fieldAt 61 t8 1) (fun t59 h_39 => 
 Hp Try.prog false (Instr.loadAt 3 t59) (fun t60 h_40 => 
 CallsH Try.prog 51 #[t12, t58, t60] h_40 (fun t61 h_41 => 
 k_2 h_41) ⟨⟩) h_39 ⟨⟩) h_38 ⟨⟩) h_37 ⟨⟩) h_36 ⟨⟩) (
 Hp Try.prog false (binS .eql 3 (.tmp 25) (.const (.int .i64 7)) t25 (.int .i64 7)) (fun t63 h_42 => 
 CondP t63 (
 Hp Try.prog false (Instr.fieldAt 61 t8 5) (fun t65 h_43 => 
 Hp Try.prog false (Instr.loadAt 41 t65) (fun t66 h_44 => 
 CallsH Try.prog 52 #[t12, t66] h_44 (fun t67 h_45 => 
 k_2 h_45) ⟨⟩) h_43 ⟨⟩) h_42 ⟨⟩) (
 k_2 h_42) ⟨⟩ ⟨⟩) h_36 ⟨⟩) ⟨⟩ ⟨⟩) h_32 ⟨⟩) ⟨⟩ ⟨⟩) h_24 ⟨⟩) ⟨⟩ ⟨⟩) h_20 ⟨⟩) ⟨⟩ ⟨⟩) h_16 ⟨⟩) ⟨⟩ ⟨⟩) h_15 ⟨⟩)
 (fun h_46 =>
 k_1 h_46) h_14 ⟨⟩ ⟨⟩) h_13 ⟨⟩) h_12 ⟨⟩) h_11 ⟨⟩) h_10 ⟨⟩) h_9 ⟨⟩) h_8 ⟨⟩)
 (fun h_47 =>
 k h_47) h_7 ⟨⟩ ⟨⟩)
 (fun h_48 =>
 Hp Try.prog false (binS .add 3 (.tmp 18) (.const (.int .i64 1)) i7 (.int .i64 1)) (fun t19 h_49 => 
 X t19 h_49) h_48 ⟨⟩) h_6 ⟨⟩ ⟨⟩) (
 R t12 h_6) ⟨⟩ ⟨⟩) h_5 ⟨⟩) h_4 ⟨⟩) [(.int .i64 0)] h_3 ⟨⟩) h_2 ⟨⟩) h_1 ⟨⟩) ⟨⟩

theorem n22_calls {fates0 script1 : Value} {R : Value → Heap → Prop} {h : Heap} (H : n22 fates0 script1 R h) : CallsH Try.prog 22 #[fates0, script1] h R ⟨⟩ :=
 callsH_of_eq Try.follow (.n none .l (.n none .l (.n none (.n none .l (.n none (.n (some [8]) (.n none .l (.n (some []) (.n (some []) (.n none .l (.n none .l (.n (some []) .l .l))) .l) .l)) .l) .l)) .l))) Try.func22 (by kernel_rfl) (by kernel_rfl) (by kernel_rfl) H

/-- palimpsest/palimpsestlaw06.nothing -/
def n30 (s0 name1 n2 b3 : Value) (R : Value → Heap → Prop) (h : Heap) : Prop :=
 Hp Try.prog false (Instr.alloc 4 true undef) (fun t8 h_1 => 
 CallsH Try.prog 26 #[s0, name1, n2, n2] h_1 (fun t25 h_2 => 
 Hp Try.prog false (Instr.extract t25 0) (fun t26 h_3 => 
 Hp Try.prog false (Instr.extract t25 1) (fun t27 h_4 => 
 CallsH Try.prog 49 #[s0, name1] h_4 (fun t31 h_5 => 
 Hp Try.prog false (Instr.extract t31 0) (fun t32 h_6 => 
 Hp Try.prog false (Instr.extract t31 1) (fun t33 h_7 => 
 CallsH Try.prog 24 #[s0, (.slice none 0 0)] h_7 (fun t36 h_8 => 
 Hp Try.prog false (Instr.extract t36 0) (fun t37 h_9 => 
 Hp Try.prog false (Instr.extract t36 1) (fun t38 h_10 => 
 CallsH Try.prog 68 #[s0] h_10 (fun t41 h_11 => 
 Hp Try.prog false (Instr.extract t41 0) (fun t42 h_12 => 
 Hp Try.prog false (Instr.extract t41 1) (fun t43 h_13 => 
 CallsH Try.prog 27 #[s0, name1] h_13 (fun t46 h_14 => 
 Hp Try.prog false (binS .eql 54 (.tmp 47) (.const .nilFunc) t46 .nilFunc) (fun t48 h_15 => 
 CondP t48 (
 Hp Try.prog false (storeS 4 t8 (.bool false)) (fun _ h_16 => 
 RetD (.tuple #[]) h_16 (fun h_17 =>
 Hp Try.prog true (loadCell 4 t8) (fun r _ =>
 R r h_17) h_17 ⟨⟩) ⟨⟩) h_15 ⟨⟩) (
 JoinN 1 (fun (k : Value → Heap → Prop) h_18 =>
 JoinN 1 (fun (k_1 : Value → Heap → Prop) h_19 =>
 RangeC Try.prog none t46 1 (.tuple #[]) (fun l args bg Nb Jb h_20 =>
 bg (fun h_21 =>
 Hp Try.prog false (storeS 4 t8 (.bool false)) (fun _ h_22 => 
 Jb .ret h_22) h_21 ⟨⟩) h_20)
 (fun D h_23 =>
 k_1 D h_23)
 (fun D_1 h_24 =>
 RetD D_1 h_24 (fun h_25 =>
 Hp Try.prog true (loadCell 4 t8) (fun r_1 _ =>
 R r_1 h_25) h_25 ⟨⟩) ⟨⟩)
 (fun id D_2 h_26 => bif Nat.beq id 0 then (k_1 D_2 h_26) else False) h_19 ⟨⟩ ⟨⟩ ⟨⟩ ⟨⟩)
 (fun D_3 h_27 =>
 k D_3 h_27) h_18 ⟨⟩ ⟨⟩)
 (fun D_4 h_28 =>
 CallsH Try.prog 39 #[(.slice none 0 0)] h_28 (fun t52 h_29 => 
 Hp Try.prog false (Instr.extract t52 0) (fun t53 h_30 => 
 Hp Try.prog false (Instr.extract t52 1) (fun t54 h_31 => 
 CallsH Try.prog 33 #[s0, name1] h_31 (fun t57 h_32 => 
 Hp Try.prog false (binS .eql 31 (.tmp 57) (.const (.int .i64 1)) t57 (.int .i64 1)) (fun t58 h_33 => 
 Join1 (fun k_2 h_34 => guardP t58 true (k_2 s0 h_34) (k_2 undef h_34) ⟨⟩ ⟨⟩) (fun t60 h_35 => 
 Join1 (fun k_3 h_36 => guardP t58 true (k_3 name1 h_36) (k_3 undef h_36) ⟨⟩ ⟨⟩) (fun t61 h_37 => 
 Join1 (fun k_4 h_38 => guardP t58 true (CallsH Try.prog 50 #[t60, t61] h_38 k_4 ⟨⟩) (k_4 undef h_38) ⟨⟩ ⟨⟩) (fun t62 h_39 => 
 Join1 (fun k_5 h_40 => guardP t58 true (Hp Try.prog false (binS .eql 31 (.tmp 62) (.const (.int .i64 1)) t62 (.int .i64 1)) k_5 h_40 ⟨⟩) (k_5 undef h_40) ⟨⟩ ⟨⟩) (fun t63 h_41 => 
 Hp Try.prog false (pickS t58 t63 (.bool false)) (fun t64 h_42 => 
 Join1 (fun k_6 h_43 => guardP t64 true (k_6 s0 h_43) (k_6 undef h_43) ⟨⟩ ⟨⟩) (fun t66 h_44 => 
 Join1 (fun k_7 h_45 => guardP t64 true (k_7 name1 h_45) (k_7 undef h_45) ⟨⟩ ⟨⟩) (fun t67 h_46 => 
 Join1 (fun k_8 h_47 => guardP t64 true (k_8 n2 h_47) (k_8 undef h_47) ⟨⟩ ⟨⟩) (fun t68 h_48 => 
 Join1 (fun k_9 h_49 => guardP t64 true (k_9 b3 h_49) (k_9 undef h_49) ⟨⟩ ⟨⟩) (fun t69 h_50 => 
 Join1 (fun k_10 h_51 => guardP t64 true (CallsH Try.prog 34 #[t66, t67, t68, t69] h_51 k_10 ⟨⟩) (k_10 undef h_51) ⟨⟩ ⟨⟩) (fun t70 h_52 => 
 Join1 (fun k_11 h_53 => guardP t64 true (Hp Try.prog false (binS .eql 31 (.tmp 70) (.const (.int .i64 1)) t70 (.int .i64 1)) k_11 h_53 ⟨⟩) (k_11 undef h_53) ⟨⟩ ⟨⟩) (fun t71 h_54 => 
 Hp Try.prog false (pickS t64 t71 (.bool false)) (fun t72 h_55 => 
 Join1 (fun k_12 h_56 => guardP t72 true (k_12 s0 h_56) (k_12 undef h_56) ⟨⟩ ⟨⟩) (fun t74 h_57 => 
 Join1 (fun k_13 h_58 => guardP t72 true (k_13 name1 h_58) (k_13 undef h_58) ⟨⟩ ⟨⟩) (fun t75 h_59 => 
 Join1 (fun k_14 h_60 => guardP t72 true (CallsH Try.prog 28 #[t74, t75] h_60 k_14 ⟨⟩) (k_14 undef h_60) ⟨⟩ ⟨⟩) (fun t76 h_61 => 
 Join1 (fun k_15 h_62 => guardP t72 true (Hp Try.prog false (binS .eql 31 (.tmp 76) (.const (.int .i64 1)) t76 (.int .i64 1)) k_15 h_62 ⟨⟩) (k_15 undef h_62) ⟨⟩ ⟨⟩) (fun t77 h_63 => 
 Hp Try.prog false (pickS t72 t77 (.bool false)) (fun t78 h_64 => 
 Join1 (fun k_16 h_65 => guardP t78 true (k_16 s0 h_65) (k_16 undef h_65) ⟨⟩ ⟨⟩) (fun t80 h_66 => 
 Join1 (fun k_17 h_67 => guardP t78 true (k_17 name1 h_67) (k_17 undef h_67) ⟨⟩ ⟨⟩) (fun t81 h_68 => 
 Join1 (fun k_18 h_69 => guardP t78 true (k_18 n2 h_69) (k_18 undef h_69) ⟨⟩ ⟨⟩) (fun t82 h_70 => 
 Join1 (fun k_19 h_71 => guardP t78 true (CallsH Try.prog 51 #[t80, t81, t82] h_71 k_19 ⟨⟩) (k_19 undef h_71) ⟨⟩ ⟨⟩) (fun t83 h_72 => 
 Join1 (fun k_20 h_73 => guardP t78 true (Hp Try.prog false (binS .eql 31 (.tmp 83) (.const (.int .i64 1)) t83 (.int .i64 1)) k_20 h_73 ⟨⟩) (k_20 undef h_73) ⟨⟩ ⟨⟩) (fun t84 h_74 => 
 Hp Try.prog false (pickS t78 t84 (.bool false)) (fun t85 h_75 => 
 Join1 (fun k_21 h_76 => guardP t85 true (k_21 s0 h_76) (k_21 undef h_76) ⟨⟩ ⟨⟩) (fun t87 h_77 => 
 Join1 (fun k_22 h_78 => guardP t85 true (CallsH Try.prog 52 #[t87, (.slice none 0 0)] h_78 k_22 ⟨⟩) (k_22 undef h_78) ⟨⟩ ⟨⟩) (fun t88 h_79 => 
 Join1 (fun k_23 h_80 => guardP t85 true (Hp Try.prog false (binS .eql 31 (.tmp 88) (.const (.int .i64 1)) t88 (.int .i64 1)) k_23 h_80 ⟨⟩) (k_23 undef h_80) ⟨⟩ ⟨⟩) (fun t89 h_81 => 
 Hp Try.prog false (pickS t85 t89 (.bool false)) (fun t90 h_82 => 
 Join1 (fun k_24 h_83 => guardP t90 true (k_24 t26 h_83) (k_24 undef h_83) ⟨⟩ ⟨⟩) (fun t92 h_84 => 
 Join1 (fun k_25 h_85 => guardP t90 true (Hp Try.prog false (Builtin.len_ #[50] 3 #[t92]) k_25 h_85 ⟨⟩) (k_25 undef h_85) ⟨⟩ ⟨⟩) (fun t93 h_86 => 
 Join1 (fun k_26 h_87 => guardP t90 true (Hp Try.prog false (binS .eql 3 (.tmp 93) (.const (.int .i64 0)) t93 (.int .i64 0)) k_26 h_87 ⟨⟩) (k_26 undef h_87) ⟨⟩ ⟨⟩) (fun t94 h_88 => 
 Hp Try.prog false (pickS t90 t94 (.bool false)) (fun t95 h_89 => 
 Join1 (fun k_27 h_90 => guardP t95 true (k_27 t27 h_90) (k_27 undef h_90) ⟨⟩ ⟨⟩) (fun t97 h_91 => 
 Join1 (fun k_28 h_92 => guardP t95 true (Hp Try.prog false (binS .eql 31 (.tmp 97) (.const (.int .i64 1)) t97 (.int .i64 1)) k_28 h_92 ⟨⟩) (k_28 undef h_92) ⟨⟩ ⟨⟩) (fun t98 h_93 => 
 Hp Try.prog false (pickS t95 t98 (.bool false)) (fun t99 h_94 => 
 Join1 (fun k_29 h_95 => guardP t99 true (k_29 t32 h_95) (k_29 undef h_95) ⟨⟩ ⟨⟩) (fun t101 h_96 => 
 Join1 (fun k_30 h_97 => guardP t99 true (Hp Try.prog false (binS .eql 2 (.tmp 101) (.const (.int .i64 0)) t101 (.int .i64 0)) k_30 h_97 ⟨⟩) (k_30 undef h_97) ⟨⟩ ⟨⟩) (fun t102 h_98 => 
 Hp Try.prog false (pickS t99 t102 (.bool false)) (fun t103 h_99 => 
 Join1 (fun k_31 h_100 => guardP t103 true (k_31 t33 h_100) (k_31 undef h_100) ⟨⟩ ⟨⟩) (fun t105 h_101 => 
 Join1 (fun k_32 h_102 => guardP t103 true (Hp Try.prog false (binS .eql 31 (.tmp 105) (.const (.int .i64 1)) t105 (.int .i64 1)) k_32 h_102 ⟨⟩) (k_32 undef h_102) ⟨⟩ ⟨⟩) (fun t106 h_103 => 
 Hp Try.prog false (pickS t103 t106 (.bool false)) (fun t107 h_104 => 
 Join1 (fun k_33 h_105 => guardP t107 true (k_33 t37 h_105) (k_33 undef h_105) ⟨⟩ ⟨⟩) (fun t109 h_106 => 
 Join1 (fun k_34 h_107 => guardP t107 true (Hp Try.prog false (binS .eql 26 (.tmp 109) (.const (.pointer none)) t109 (.pointer none)) k_34 h_107 ⟨⟩) (k_34 undef h_107) ⟨⟩ ⟨⟩) (fun t110 h_108 => 
 Hp Try.prog false (pickS t107 t110 (.bool false)) (fun t111 h_109 => 
 Join1 (fun k_35 h_110 => guardP t111 true (k_35 t38 h_110) (k_35 undef h_110) ⟨⟩ ⟨⟩) (fun t113 h_111 => 
 Join1 (fun k_36 h_112 => guardP t111 true (Hp Try.prog false (binS .eql 31 (.tmp 113) (.const (.int .i64 1)) t113 (.int .i64 1)) k_36 h_112 ⟨⟩) (k_36 undef h_112) ⟨⟩ ⟨⟩) (fun t114 h_113 => 
 Hp Try.prog false (pickS t111 t114 (.bool false)) (fun t115 h_114 => 
 Join1 (fun k_37 h_115 => guardP t115 true (k_37 t42 h_115) (k_37 undef h_115) ⟨⟩ ⟨⟩) (fun t117 h_116 => 
 Join1 (fun k_38 h_117 => guardP t115 true (Hp Try.prog false (binS .eql 3 (.tmp 117) (.const (.int .i64 0)) t117 (.int .i64 0)) k_38 h_117 ⟨⟩) (k_38 undef h_117) ⟨⟩ ⟨⟩) (fun t118 h_118 => 
 Hp Try.prog false (pickS t115 t118 (.bool false)) (fun t119 h_119 => 
 Join1 (fun k_39 h_120 => guardP t119 true (k_39 t43 h_120) (k_39 undef h_120) ⟨⟩ ⟨⟩) (fun t121 h_121 => 
 Join1 (fun k_40 h_122 => guardP t119 true (Hp Try.prog false (binS .eql 3 (.tmp 121) (.const (.int .i64 0)) t121 (.int .i64 0)) k_40 h_122 ⟨⟩) (k_40 undef h_122) ⟨⟩ ⟨⟩) (fun t122 h_123 => 
 Hp Try.prog false (pickS t119 t122 (.bool false)) (fun t123 h_124 => 
 Join1 (fun k_41 h_125 => guardP t123 true (k_41 s0 h_125) (k_41 undef h_125) ⟨⟩ ⟨⟩) (fun t125 h_126 => 
 Join1 (fun k_42 h_127 => guardP t123 true (CallsH Try.prog 25 #[t125] h_127 k_42 ⟨⟩) (k_42 undef h_127) ⟨⟩ ⟨⟩) (fun t126 h_128 => 
 Join1 (fun k_43 h_129 => guardP t123 true (Hp Try.prog false (Builtin.len_ #[48] 3 #[t126]) k_43 h_129 ⟨⟩) (k_43 undef h_129) ⟨⟩ ⟨⟩) (fun t127 h_130 => 
 Join1 (fun k_44 h_131 => guardP t123 true (Hp Try.prog false (binS .eql 3 (.tmp 127) (.const (.int .i64 0)) t127 (.int .i64 0)) k_44 h_131 ⟨⟩) (k_44 undef h_131) ⟨⟩ ⟨⟩) (fun t128 h_132 => 
 Hp Try.prog false (pickS t123 t128 (.bool false)) (fun t129 h_133 => 
 Join1 (fun k_45 h_134 => guardP t129 true (k_45 s0 h_134) (k_45 undef h_134) ⟨⟩ ⟨⟩) (fun t131 h_135 => 
 Join1 (fun k_46 h_136 => guardP t129 true (CallsH Try.prog 23 #[t131] h_136 k_46 ⟨⟩) (k_46 undef h_136) ⟨⟩ ⟨⟩) (fun t132 h_137 => 
 Join1 (fun k_47 h_138 => guardP t129 true (Hp Try.prog false (binS .eql 3 (.tmp 132) (.const (.int .i64 0)) t132 (.int .i64 0)) k_47 h_138 ⟨⟩) (k_47 undef h_138) ⟨⟩ ⟨⟩) (fun t133 h_139 => 
 Hp Try.prog false (pickS t129 t133 (.bool false)) (fun t134 h_140 => 
 Join1 (fun k_48 h_141 => guardP t134 true (k_48 s0 h_141) (k_48 undef h_141) ⟨⟩ ⟨⟩) (fun t136 h_142 => 
 Join1 (fun k_49 h_143 => guardP t134 true (CallsH Try.prog 69 #[t136] h_143 k_49 ⟨⟩) (k_49 undef h_143) ⟨⟩ ⟨⟩) (fun t137 h_144 => 
 Join1 (fun k_50 h_145 => guardP t134 true (Hp Try.prog false (binS .eql 26 (.tmp 137) (.const (.pointer none)) t137 (.pointer none)) k_50 h_145 ⟨⟩) (k_50 undef h_145) ⟨⟩ ⟨⟩) (fun t138 h_146 => 
 Hp Try.prog false (pickS t134 t138 (.bool false)) (fun t139 h_147 => 
 Join1 (fun k_51 h_148 => guardP t139 true (k_51 s0 h_148) (k_51 undef h_148) ⟨⟩ ⟨⟩) (fun t141 h_149 => 
 Join1 (fun k_52 h_150 => guardP t139 true (CallsH Try.prog 29 #[t141, (.pointer none)] h_150 k_52 ⟨⟩) (k_52 undef h_150) ⟨⟩ ⟨⟩) (fun t142 h_151 => 
 Hp Try.prog false (pickS t139 t142 (.bool false)) (fun t143 h_152 => 
 Join1 (fun k_53 h_153 => guardP t143 true (k_53 s0 h_153) (k_53 undef h_153) ⟨⟩ ⟨⟩) (fun t145 h_154 => 
 Join1 (fun k_54 h_155 => guardP t143 true (k_54 t53 h_155) (k_54 undef h_155) ⟨⟩ ⟨⟩) (fun t146 h_156 => 
 Join1 (fun k_55 h_157 => guardP t143 true (CallsH Try.prog 29 #[t145, t146] h_157 k_55 ⟨⟩) (k_55 undef h_157) ⟨⟩ ⟨⟩) (fun t147 h_158 => 
 Join1 (fun k_56 h_159 => guardP t143 true (Hp Try.prog false (Op.unary .not t147) k_56 h_159 ⟨⟩) (k_56 undef h_159) ⟨⟩ ⟨⟩) (fun t148 h_160 => 
 Hp Try.prog false (pickS t143 t148 (.bool false)) (fun t149 h_161 => 
 Join1 (fun k_57 h_162 => guardP t149 true (k_57 t53 h_162) (k_57 undef h_162) ⟨⟩ ⟨⟩) (fun t151 h_163 => 
 Join1 (fun k_58 h_164 => guardP t149 true (k_58 s0 h_164) (k_58 undef h_164) ⟨⟩ ⟨⟩) (fun t152 h_165 => 
 Join1 (fun k_59 h_166 => guardP t149 true (CallsH Try.prog 29 #[t151, t152] h_166 k_59 ⟨⟩) (k_59 undef h_166) ⟨⟩ ⟨⟩) (fun t153 h_167 => 
 Join1 (fun k_60 h_168 => guardP t149 true (Hp Try.prog false (Op.unary .not t153) k_60 h_168 ⟨⟩) (k_60 undef h_168) ⟨⟩ ⟨⟩) (fun t154 h_169 => 
 Hp Try.prog false (pickS t149 t154 (.bool false)) (fun t155 h_170 => 
 Hp Try.prog false (storeS 4 t8 t155) (fun _ h_171 => 
 RetD D_4 h_171 (fun h_172 =>
 Hp Try.prog true (loadCell 4 t8) (fun r_2 _ =>
 R r_2 h_172) h_172 ⟨⟩) ⟨⟩) h_170 ⟨⟩) h_169 ⟨⟩) h_167 ⟨⟩ ⟨⟩) h_165 ⟨⟩ ⟨⟩) h_163 ⟨⟩ ⟨⟩) h_161 ⟨⟩ ⟨⟩) h_160 ⟨⟩) h_158 ⟨⟩ ⟨⟩) h_156 ⟨⟩ ⟨⟩) h_154 ⟨⟩ ⟨⟩) h_152 ⟨⟩ ⟨⟩) h_151 ⟨⟩) h_149 ⟨⟩ ⟨⟩) h_147 ⟨⟩ ⟨⟩) h_146 ⟨⟩) h_144 ⟨⟩ ⟨⟩) h_142 ⟨⟩ ⟨⟩) h_140 ⟨⟩ ⟨⟩) h_139 ⟨⟩) h_137 ⟨⟩ ⟨⟩) h_135 ⟨⟩ ⟨⟩) h_133 ⟨⟩ ⟨⟩) h_132 ⟨⟩) h_130 ⟨⟩ ⟨⟩) h_128 ⟨⟩ ⟨⟩) h_126 ⟨⟩ ⟨⟩) h_124 ⟨⟩ ⟨⟩) h_123 ⟨⟩) h_121 ⟨⟩ ⟨⟩) h_119 ⟨⟩ ⟨⟩) h_118 ⟨⟩) h_116 ⟨⟩ ⟨⟩) h_114 ⟨⟩ ⟨⟩) h_113 ⟨⟩) h_111 ⟨⟩ ⟨⟩) h_109 ⟨⟩ ⟨⟩) h_108 ⟨⟩) h_106 ⟨⟩ ⟨⟩) h_104 ⟨⟩ ⟨⟩) h_103 ⟨⟩) h_101 ⟨⟩ ⟨⟩) h_99 ⟨⟩ ⟨⟩) h_98 ⟨⟩) h_96 ⟨⟩ ⟨⟩) h_94 ⟨⟩ ⟨⟩) h_93 ⟨⟩) h_91 ⟨⟩ ⟨⟩) h_89 ⟨⟩ ⟨⟩) h_88 ⟨⟩) h_86 ⟨⟩ ⟨⟩) h_84 ⟨⟩ ⟨⟩) h_82 ⟨⟩ ⟨⟩) h_81 ⟨⟩) h_79 ⟨⟩ ⟨⟩) h_77 ⟨⟩ ⟨⟩) h_75 ⟨⟩ ⟨⟩) h_74 ⟨⟩) h_72 ⟨⟩ ⟨⟩) h_70 ⟨⟩ ⟨⟩) h_68 ⟨⟩ ⟨⟩) h_66 ⟨⟩ ⟨⟩) h_64 ⟨⟩ ⟨⟩) h_63 ⟨⟩) h_61 ⟨⟩ ⟨⟩) h_59 ⟨⟩ ⟨⟩) h_57 ⟨⟩ ⟨⟩) h_55 ⟨⟩ ⟨⟩) h_54 ⟨⟩) h_52 ⟨⟩ ⟨⟩) h_50 ⟨⟩ ⟨⟩) h_48 ⟨⟩ ⟨⟩) h_46 ⟨⟩ ⟨⟩) h_44 ⟨⟩ ⟨⟩) h_42 ⟨⟩ ⟨⟩) h_41 ⟨⟩) h_39 ⟨⟩ ⟨⟩) h_37 ⟨⟩ ⟨⟩) h_35 ⟨⟩ ⟨⟩) h_33 ⟨⟩ ⟨⟩) h_32 ⟨⟩) ⟨⟩) h_30 ⟨⟩) h_29 ⟨⟩) ⟨⟩) h_15 ⟨⟩ ⟨⟩) ⟨⟩ ⟨⟩) h_14 ⟨⟩) ⟨⟩) h_12 ⟨⟩) h_11 ⟨⟩) ⟨⟩) h_9 ⟨⟩) h_8 ⟨⟩) ⟨⟩) h_6 ⟨⟩) h_5 ⟨⟩) ⟨⟩) h_3 ⟨⟩) h_2 ⟨⟩) ⟨⟩) h ⟨⟩

theorem n30_calls {s0 name1 n2 b3 : Value} {R : Value → Heap → Prop} {h : Heap} (H : n30 s0 name1 n2 b3 R h) : CallsH Try.prog 30 #[s0, name1, n2, b3] h R ⟨⟩ :=
 callsH_of_eq Try.follow (.n none .l (.n none .l (.n none .l (.n none .l (.n none .l (.n none .l (.n none .l (.n (some [0]) (.n none .l (.n (some [0]) .l .l)) .l)))))))) Try.func30 (by kernel_rfl) (by kernel_rfl) (by kernel_rfl) H

end Go.Proofs.Ytdmcaaojapcbcaa

/- Printed by wip/tools/gen.py: the condition of each function, and that a call meets it. -/
import Derived.Test.YtcbbdnaelimpfaaVcFun
import Derived.Test.YtcbbdnaelimpfaaProg
import Derived.Test.YtcbbdnaelimpfaaNiceA
set_option maxRecDepth 100000
set_option linter.unusedVariables false
namespace Go.Proofs.Ytcbbdnaelimpfaa
open Go.Vc

/-- palimpsest/palimpsestlaw14.CacheRoom -/
def n4 (x0 : Value) (R : Value → Heap → Prop) (h : Heap) : Prop :=
 Hp Try.prog false (Instr.box 50 x0) (fun x1 h_1 => 
 Hp Try.prog false (Instr.alloc 4 true undef) (fun t2 h_2 => 
 Hp Try.prog false (Instr.loadAt 50 x1) (fun t18 h_3 => 
 CallsH Try.prog 15 #[t18] h_3 (fun t19 h_4 => 
 Hp Try.prog false (Op.unary .not t19) (fun t20 h_5 => 
 CondP t20 (
 CallsH Try.prog 5 #[] h_5 (fun t21 h_6 => 
 Hp Try.prog false (storeS 4 t2 t21) (fun _ h_7 => 
 RetD (.tuple #[]) h_7 (fun h_8 =>
 Hp Try.prog true (loadCell 4 t2) (fun r _ =>
 R r h_8) h_8 ⟨⟩) ⟨⟩) h_6 ⟨⟩) ⟨⟩) (
 Hp Try.prog false (Instr.fieldAt 50 x1 0) (fun t22 h_9 => 
 Hp Try.prog false (Instr.loadAt 2 t22) (fun t23 h_10 => 
 CallsH Try.prog 6 #[t23, (.slice none 0 0)] h_10 (fun t24 h_11 => 
 Hp Try.prog false (Instr.fieldAt 50 x1 1) (fun t27 h_12 => 
 Hp Try.prog false (Instr.loadAt 3 t27) (fun t28 h_13 => 
 Hp Try.prog false (Instr.fieldAt 50 x1 2) (fun t29 h_14 => 
 Hp Try.prog false (Instr.loadAt 3 t29) (fun t30 h_15 => 
 CallsH Try.prog 7 #[t24, (str [102]), t28, t30] h_15 (fun t31 h_16 => 
 Hp Try.prog false (Instr.extract t31 0) (fun t32 h_17 => 
 Hp Try.prog false (Instr.extract t31 1) (fun t33 h_18 => 
 Hp Try.prog false (binS .eql 24 (.tmp 34) (.const (.pointer none)) t24 (.pointer none)) (fun t35 h_19 => 
 Join1 (fun k h_20 => guardP t35 false (k t32 h_20) (k undef h_20) ⟨⟩ ⟨⟩) (fun t37 h_21 => 
 Join1 (fun k_1 h_22 => guardP t35 false (Hp Try.prog false (binS .eql 26 (.tmp 37) (.const (.pointer none)) t37 (.pointer none)) k_1 h_22 ⟨⟩) (k_1 undef h_22) ⟨⟩ ⟨⟩) (fun t38 h_23 => 
 Hp Try.prog false (pickS t35 (.bool true) t38) (fun t39 h_24 => 
 Join1 (fun k_2 h_25 => guardP t39 false (k_2 t33 h_25) (k_2 undef h_25) ⟨⟩ ⟨⟩) (fun t41 h_26 => 
 Join1 (fun k_3 h_27 => guardP t39 false (CallsH Try.prog 8 #[t41] h_27 k_3 ⟨⟩) (k_3 undef h_27) ⟨⟩ ⟨⟩) (fun t42 h_28 => 
 Join1 (fun k_4 h_29 => guardP t39 false (Hp Try.prog false (binS .neq 3 (.tmp 42) (.const (.int .i64 0)) t42 (.int .i64 0)) k_4 h_29 ⟨⟩) (k_4 undef h_29) ⟨⟩ ⟨⟩) (fun t43 h_30 => 
 Hp Try.prog false (pickS t39 (.bool true) t43) (fun t44 h_31 => 
 CondP t44 (
 Hp Try.prog false (storeS 4 t2 (.bool false)) (fun _ h_32 => 
 RetD (.tuple #[]) h_32 (fun h_33 =>
 Hp Try.prog true (loadCell 4 t2) (fun r_1 _ =>
 R r_1 h_33) h_33 ⟨⟩) ⟨⟩) h_31 ⟨⟩) (
 JoinN 2 (fun (k_5 : Value → Value → Heap → Prop) h_34 =>
 JoinN 2 (fun (k_6 : Value → Value → Heap → Prop) h_35 =>
 LoopC 4 (fun (X : Value → Value → Value → Value → Heap → Prop) => fun D uses6 writes7 i8 h_36 =>
 Hp Try.prog false (Instr.fieldAt 50 x1 3) (fun t46 h_37 => 
 Hp Try.prog false (Instr.loadAt 48 t46) (fun t47 h_38 => 
 Hp Try.prog false (Builtin.len_ #[48] 3 #[t47]) (fun t48 h_39 => 
 Hp Try.prog false (binS .lss 3 (.tmp 45) (.tmp 48) i8 t48) (fun t49 h_40 => 
 CondP t49 (
 JoinN 3 (fun (k_7 : Value → Value → Value → Heap → Prop) h_41 =>
 JoinN 3 (fun (k_8 : Value → Value → Value → Heap → Prop) h_42 =>
 Hp Try.prog false (Instr.fieldAt 50 x1 3) (fun t52 h_43 => 
 Hp Try.prog false (Instr.loadAt 48 t52) (fun t53 h_44 => 
 Hp Try.prog false (Instr.indexAt 48 t53 i8) (fun t55 h_45 => 
 Hp Try.prog false (Instr.loadAt 52 t55) (fun t56 h_46 => 
 Hp Try.prog false (Instr.alloc 52 true undef) (fun y9 h_47 => 
 Hp Try.prog false (storeS 52 y9 t56) (fun _ h_48 => 
 JoinN 2 (fun (k_9 : Value → Value → Heap → Prop) h_49 =>
 Hp Try.prog false (Instr.fieldAt 52 y9 0) (fun t57 h_50 => 
 Hp Try.prog false (Instr.loadAt 3 t57) (fun t58 h_51 => 
 Hp Try.prog false (binS .rem 3 (.tmp 58) (.const (.int .i64 2)) t58 (.int .i64 2)) (fun t59 h_52 => 
 Hp Try.prog false (binS .eql 3 (.tmp 59) (.const (.int .i64 0)) t59 (.int .i64 0)) (fun t60 h_53 => 
 CondP t60 (
 Hp Try.prog false (Instr.fieldAt 52 y9 3) (fun t63 h_54 => 
 Hp Try.prog false (Instr.loadAt 2 t63) (fun t64 h_55 => 
 Hp Try.prog false (Instr.fieldAt 52 y9 1) (fun t65 h_56 => 
 Hp Try.prog false (Instr.loadAt 3 t65) (fun t66 h_57 => 
 Hp Try.prog false (Instr.fieldAt 52 y9 2) (fun t67 h_58 => 
 Hp Try.prog false (Instr.loadAt 3 t67) (fun t68 h_59 => 
 CallsH Try.prog 16 #[t32, t64, t66, t68] h_59 (fun t69 h_60 => 
 Hp Try.prog false (Instr.extract t69 0) (fun t70 h_61 => 
 Hp Try.prog false (Instr.extract t69 1) (fun t71 h_62 => 
 CallsH Try.prog 8 #[t71] h_62 (fun t73 h_63 => 
 Hp Try.prog false (binS .eql 3 (.tmp 73) (.const (.int .i64 0)) t73 (.int .i64 0)) (fun t74 h_64 => 
 CondP t74 (
 Hp Try.prog false (binS .add 3 (.tmp 75) (.const (.int .i64 1)) uses6 (.int .i64 1)) (fun t76 h_65 => 
 k_9 t76 writes7 h_65) h_64 ⟨⟩) (
 k_9 uses6 writes7 h_64) ⟨⟩ ⟨⟩) h_63 ⟨⟩) ⟨⟩) h_61 ⟨⟩) h_60 ⟨⟩) ⟨⟩) h_58 ⟨⟩) h_57 ⟨⟩) h_56 ⟨⟩) h_55 ⟨⟩) h_54 ⟨⟩) h_53 ⟨⟩) (
 Hp Try.prog false (Instr.fieldAt 52 y9 3) (fun t78 h_66 => 
 Hp Try.prog false (Instr.loadAt 2 t78) (fun t79 h_67 => 
 Hp Try.prog false (Instr.fieldAt 52 y9 1) (fun t80 h_68 => 
 Hp Try.prog false (Instr.loadAt 3 t80) (fun t81 h_69 => 
 Hp Try.prog false (Instr.fieldAt 52 y9 5) (fun t82 h_70 => 
 Hp Try.prog false (Instr.loadAt 32 t82) (fun t83 h_71 => 
 CallsH Try.prog 9 #[t32, t79, t81, t83] h_71 (fun t84 h_72 => 
 CallsH Try.prog 8 #[t84] h_72 (fun t85 h_73 => 
 Hp Try.prog false (binS .eql 3 (.tmp 85) (.const (.int .i64 0)) t85 (.int .i64 0)) (fun t86 h_74 => 
 CondP t86 (
 Hp Try.prog false (binS .add 3 (.tmp 87) (.const (.int .i64 1)) uses6 (.int .i64 1)) (fun t88 h_75 => 
 Hp Try.prog false (binS .add 3 (.tmp 89) (.const (.int .i64 1)) writes7 (.int .i64 1)) (fun t90 h_76 => 
 k_9 t88 t90 h_76) h_75 ⟨⟩) h_74 ⟨⟩) (
 k_9 uses6 writes7 h_74) ⟨⟩ ⟨⟩) h_73 ⟨⟩) ⟨⟩) ⟨⟩) h_70 ⟨⟩) h_69 ⟨⟩) h_68 ⟨⟩) h_67 ⟨⟩) h_66 ⟨⟩) h_53 ⟨⟩) ⟨⟩ ⟨⟩) h_52 ⟨⟩) h_51 ⟨⟩) h_50 ⟨⟩) h_49 ⟨⟩)
 (fun uses6_1 writes7_1 h_77 =>
 CallsH Try.prog 17 #[t32] h_77 (fun t92 h_78 => 
 Hp Try.prog false (Instr.alloc 3 true undef) (fun n12 h_79 => 
 Hp Try.prog false (storeS 3 n12 (.int .i64 0)) (fun _ h_80 => 
 Hp Try.prog false (binS .eql 56 (.tmp 93) (.const .nilFunc) t92 .nilFunc) (fun t94 h_81 => 
 CondP t94 (
 Hp Try.prog false (storeS 4 t2 (.bool false)) (fun _ h_82 => 
 RetD D h_82 (fun h_83 =>
 Hp Try.prog true (loadCell 4 t2) (fun r_2 _ =>
 R r_2 h_83) h_83 ⟨⟩) ⟨⟩) h_81 ⟨⟩) (
 JoinN 1 (fun (k_10 : Value → Heap → Prop) h_84 =>
 JoinN 1 (fun (k_11 : Value → Heap → Prop) h_85 =>
 RangeC Try.prog none t92 1 D (fun l args bg Nb Jb h_86 =>
 bg (fun h_87 =>
 Hp Try.prog false (binS .lss 2 (.tmp 97) (.const (.int .i64 0)) (getV args 0) (.int .i64 0)) (fun t98 h_88 => 
 Join1 (fun k_12 h_89 => guardP t98 false (k_12 (getV args 0) h_89) (k_12 undef h_89) ⟨⟩ ⟨⟩) (fun t100 h_90 => 
 Join1 (fun k_13 h_91 => guardP t98 false (Hp Try.prog false (binS .geq 2 (.tmp 100) (.const (.int .i64 12)) t100 (.int .i64 12)) k_13 h_91 ⟨⟩) (k_13 undef h_91) ⟨⟩ ⟨⟩) (fun t101 h_92 => 
 Hp Try.prog false (pickS t98 (.bool true) t101) (fun t102 h_93 => 
 CondP t102 (
 Hp Try.prog false (storeS 4 t2 (.bool false)) (fun _ h_94 => 
 Jb .ret h_94) h_93 ⟨⟩) (
 Hp Try.prog false (Instr.loadAt 3 n12) (fun t103 h_95 => 
 Hp Try.prog false (binS .add 3 (.tmp 103) (.const (.int .i64 1)) t103 (.int .i64 1)) (fun t104 h_96 => 
 Hp Try.prog false (storeS 3 n12 t104) (fun _ h_97 => 
 Nb h_97) h_96 ⟨⟩) h_95 ⟨⟩) h_93 ⟨⟩) ⟨⟩ ⟨⟩) h_92 ⟨⟩) h_90 ⟨⟩ ⟨⟩) h_88 ⟨⟩ ⟨⟩) h_87 ⟨⟩) h_86)
 (fun D_1 h_98 =>
 k_11 D_1 h_98)
 (fun D_2 h_99 =>
 RetD D_2 h_99 (fun h_100 =>
 Hp Try.prog true (loadCell 4 t2) (fun r_3 _ =>
 R r_3 h_100) h_100 ⟨⟩) ⟨⟩)
 (fun id D_3 h_101 => bif Nat.beq id 2 then (k_11 D_3 h_101) else bif Nat.beq id 1 then (k_8 D_3 uses6_1 writes7_1 h_101) else bif Nat.beq id 0 then (k_6 D_3 writes7_1 h_101) else False) h_85 ⟨⟩ ⟨⟩ ⟨⟩ ⟨⟩)
 (fun D_4 h_102 =>
 k_10 D_4 h_102) h_84 ⟨⟩ ⟨⟩)
 (fun D_5 h_103 =>
 CallsH Try.prog 13 #[t32] h_103 (fun t106 h_104 => 
 Hp Try.prog false (Instr.alloc 44 true undef) (fun k15 h_105 => 
 Hp Try.prog false (storeS 44 k15 t106) (fun _ h_106 => 
 Hp Try.prog false (Instr.loadAt 3 n12) (fun t107 h_107 => 
 Hp Try.prog false (Instr.fieldAt 50 x1 2) (fun t108 h_108 => 
 Hp Try.prog false (Instr.loadAt 3 t108) (fun t109 h_109 => 
 Hp Try.prog false (binS .gtr 3 (.tmp 107) (.tmp 109) t107 t109) (fun t110 h_110 => 
 Join1 (fun k_14 h_111 => guardP t110 false (Hp Try.prog false (Instr.fieldAt 44 k15 0) k_14 h_111 ⟨⟩) (k_14 undef h_111) ⟨⟩ ⟨⟩) (fun t112 h_112 => 
 Join1 (fun k_15 h_113 => guardP t110 false (Hp Try.prog false (Instr.loadAt 3 t112) k_15 h_113 ⟨⟩) (k_15 undef h_113) ⟨⟩ ⟨⟩) (fun t113 h_114 => 
 Join1 (fun k_16 h_115 => guardP t110 false (Hp Try.prog false (Instr.fieldAt 44 k15 1) k_16 h_115 ⟨⟩) (k_16 undef h_115) ⟨⟩ ⟨⟩) (fun t114 h_116 => 
 Join1 (fun k_17 h_117 => guardP t110 false (Hp Try.prog false (Instr.loadAt 3 t114) k_17 h_117 ⟨⟩) (k_17 undef h_117) ⟨⟩ ⟨⟩) (fun t115 h_118 => 
 Join1 (fun k_18 h_119 => guardP t110 false (Hp Try.prog false (binS .add 3 (.tmp 113) (.tmp 115) t113 t115) k_18 h_119 ⟨⟩) (k_18 undef h_119) ⟨⟩ ⟨⟩) (fun t116 h_120 => 
 Join1 (fun k_19 h_121 => guardP t110 false (k_19 uses6_1 h_121) (k_19 undef h_121) ⟨⟩ ⟨⟩) (fun t117 h_122 => 
 Join1 (fun k_20 h_123 => guardP t110 false (Hp Try.prog false (binS .neq 3 (.tmp 116) (.tmp 117) t116 t117) k_20 h_123 ⟨⟩) (k_20 undef h_123) ⟨⟩ ⟨⟩) (fun t118 h_124 => 
 Hp Try.prog false (pickS t110 (.bool true) t118) (fun t119 h_125 => 
 Join1 (fun k_21 h_126 => guardP t119 false (Hp Try.prog false (Instr.fieldAt 44 k15 2) k_21 h_126 ⟨⟩) (k_21 undef h_126) ⟨⟩ ⟨⟩) (fun t121 h_127 => 
 Join1 (fun k_22 h_128 => guardP t119 false (Hp Try.prog false (Instr.loadAt 3 t121) k_22 h_128 ⟨⟩) (k_22 undef h_128) ⟨⟩ ⟨⟩) (fun t122 h_129 => 
 Join1 (fun k_23 h_130 => guardP t119 false (k_23 writes7_1 h_130) (k_23 undef h_130) ⟨⟩ ⟨⟩) (fun t123 h_131 => 
 Join1 (fun k_24 h_132 => guardP t119 false (Hp Try.prog false (binS .gtr 3 (.tmp 122) (.tmp 123) t122 t123) k_24 h_132 ⟨⟩) (k_24 undef h_132) ⟨⟩ ⟨⟩) (fun t124 h_133 => 
 Hp Try.prog false (pickS t119 (.bool true) t124) (fun t125 h_134 => 
 Join1 (fun k_25 h_135 => guardP t125 false (Hp Try.prog false (Instr.loadAt 3 n12) k_25 h_135 ⟨⟩) (k_25 undef h_135) ⟨⟩ ⟨⟩) (fun t127 h_136 => 
 Join1 (fun k_26 h_137 => guardP t125 false (Hp Try.prog false (Instr.fieldAt 44 k15 1) k_26 h_137 ⟨⟩) (k_26 undef h_137) ⟨⟩ ⟨⟩) (fun t128 h_138 => 
 Join1 (fun k_27 h_139 => guardP t125 false (Hp Try.prog false (Instr.loadAt 3 t128) k_27 h_139 ⟨⟩) (k_27 undef h_139) ⟨⟩ ⟨⟩) (fun t129 h_140 => 
 Join1 (fun k_28 h_141 => guardP t125 false (Hp Try.prog false (binS .gtr 3 (.tmp 127) (.tmp 129) t127 t129) k_28 h_141 ⟨⟩) (k_28 undef h_141) ⟨⟩ ⟨⟩) (fun t130 h_142 => 
 Hp Try.prog false (pickS t125 (.bool true) t130) (fun t131 h_143 => 
 CondP t131 (
 Hp Try.prog false (storeS 4 t2 (.bool false)) (fun _ h_144 => 
 RetD D_5 h_144 (fun h_145 =>
 Hp Try.prog true (loadCell 4 t2) (fun r_4 _ =>
 R r_4 h_145) h_145 ⟨⟩) ⟨⟩) h_143 ⟨⟩) (
 k_8 D_5 uses6_1 writes7_1 h_143) ⟨⟩ ⟨⟩) h_142 ⟨⟩) h_140 ⟨⟩ ⟨⟩) h_138 ⟨⟩ ⟨⟩) h_136 ⟨⟩ ⟨⟩) h_134 ⟨⟩ ⟨⟩) h_133 ⟨⟩) h_131 ⟨⟩ ⟨⟩) h_129 ⟨⟩ ⟨⟩) h_127 ⟨⟩ ⟨⟩) h_125 ⟨⟩ ⟨⟩) h_124 ⟨⟩) h_122 ⟨⟩ ⟨⟩) h_120 ⟨⟩ ⟨⟩) h_118 ⟨⟩ ⟨⟩) h_116 ⟨⟩ ⟨⟩) h_114 ⟨⟩ ⟨⟩) h_112 ⟨⟩ ⟨⟩) h_110 ⟨⟩ ⟨⟩) h_109 ⟨⟩) h_108 ⟨⟩) h_107 ⟨⟩) h_106 ⟨⟩) h_105 ⟨⟩) h_104 ⟨⟩) ⟨⟩) h_81 ⟨⟩ ⟨⟩) ⟨⟩ ⟨⟩) h_80 ⟨⟩) h_79 ⟨⟩) h_78 ⟨⟩) ⟨⟩) h_48 ⟨⟩ ⟨⟩) h_47 ⟨⟩) h_46 ⟨⟩) h_45 ⟨⟩) h_44 ⟨⟩) h_43 ⟨⟩) h_42 ⟨⟩)
 (fun D_6 uses6_2 writes7_2 h_146 =>
 k_7 D_6 uses6_2 writes7_2 h_146) h_41 ⟨⟩ ⟨⟩)
 (fun D_7 uses6_3 writes7_3 h_147 =>
 Hp Try.prog false (binS .add 3 (.tmp 50) (.const (.int .i64 1)) i8 (.int .i64 1)) (fun t51 h_148 => 
 X D_7 uses6_3 writes7_3 t51 h_148) h_147 ⟨⟩) h_40 ⟨⟩ ⟨⟩) (
 k_6 D writes7 h_40) ⟨⟩ ⟨⟩) h_39 ⟨⟩) h_38 ⟨⟩) h_37 ⟨⟩) h_36 ⟨⟩) [(.tuple #[]), (.int .i64 0), (.int .i64 0), (.int .i64 0)] h_35 ⟨⟩)
 (fun D_8 writes7_4 h_149 =>
 k_5 D_8 writes7_4 h_149) h_34 ⟨⟩ ⟨⟩)
 (fun D_9 writes7_5 h_150 =>
 CallsH Try.prog 13 #[t32] h_150 (fun t133 h_151 => 
 Hp Try.prog false (Instr.alloc 44 true undef) (fun was16 h_152 => 
 Hp Try.prog false (storeS 44 was16 t133) (fun _ h_153 => 
 CallsH Try.prog 18 #[t32] h_153 (fun t135 h_154 => 
 CallsH Try.prog 8 #[t135] h_154 (fun t136 h_155 => 
 Hp Try.prog false (binS .neq 3 (.tmp 136) (.const (.int .i64 0)) t136 (.int .i64 0)) (fun t137 h_156 => 
 Join1 (fun k_29 h_157 => guardP t137 false (k_29 t32 h_157) (k_29 undef h_157) ⟨⟩ ⟨⟩) (fun t139 h_158 => 
 Join1 (fun k_30 h_159 => guardP t137 false (CallsH Try.prog 18 #[t139] h_159 k_30 ⟨⟩) (k_30 undef h_159) ⟨⟩ ⟨⟩) (fun t140 h_160 => 
 Join1 (fun k_31 h_161 => guardP t137 false (CallsH Try.prog 8 #[t140] h_161 k_31 ⟨⟩) (k_31 undef h_161) ⟨⟩ ⟨⟩) (fun t141 h_162 => 
 Join1 (fun k_32 h_163 => guardP t137 false (Hp Try.prog false (binS .neq 3 (.tmp 141) (.const (.int .i64 0)) t141 (.int .i64 0)) k_32 h_163 ⟨⟩) (k_32 undef h_163) ⟨⟩ ⟨⟩) (fun t142 h_164 => 
 Hp Try.prog false (pickS t137 (.bool true) t142) (fun t143 h_165 => 
 CondP t143 (
 Hp Try.prog false (storeS 4 t2 (.bool false)) (fun _ h_166 => 
 RetD D_9 h_166 (fun h_167 =>
 Hp Try.prog true (loadCell 4 t2) (fun r_5 _ =>
 R r_5 h_167) h_167 ⟨⟩) ⟨⟩) h_165 ⟨⟩) (
 CallsH Try.prog 13 #[t32] h_165 (fun t145 h_168 => 
 Hp Try.prog false (Instr.alloc 44 true undef) (fun now17 h_169 => 
 Hp Try.prog false (storeS 44 now17 t145) (fun _ h_170 => 
 Hp Try.prog false (Instr.fieldAt 44 now17 3) (fun t146 h_171 => 
 Hp Try.prog false (Instr.loadAt 3 t146) (fun t147 h_172 => 
 Hp Try.prog false (Instr.fieldAt 44 was16 3) (fun t148 h_173 => 
 Hp Try.prog false (Instr.loadAt 3 t148) (fun t149 h_174 => 
 Hp Try.prog false (binS .add 3 (.tmp 149) (.const (.int .i64 2)) t149 (.int .i64 2)) (fun t150 h_175 => 
 Hp Try.prog false (binS .eql 3 (.tmp 147) (.tmp 150) t147 t150) (fun t151 h_176 => 
 Join1 (fun k_33 h_177 => guardP t151 true (Hp Try.prog false (Instr.fieldAt 44 now17 2) k_33 h_177 ⟨⟩) (k_33 undef h_177) ⟨⟩ ⟨⟩) (fun t153 h_178 => 
 Join1 (fun k_34 h_179 => guardP t151 true (Hp Try.prog false (Instr.loadAt 3 t153) k_34 h_179 ⟨⟩) (k_34 undef h_179) ⟨⟩ ⟨⟩) (fun t154 h_180 => 
 Join1 (fun k_35 h_181 => guardP t151 true (Hp Try.prog false (Instr.fieldAt 44 was16 2) k_35 h_181 ⟨⟩) (k_35 undef h_181) ⟨⟩ ⟨⟩) (fun t155 h_182 => 
 Join1 (fun k_36 h_183 => guardP t151 true (Hp Try.prog false (Instr.loadAt 3 t155) k_36 h_183 ⟨⟩) (k_36 undef h_183) ⟨⟩ ⟨⟩) (fun t156 h_184 => 
 Join1 (fun k_37 h_185 => guardP t151 true (Hp Try.prog false (binS .sub 3 (.tmp 154) (.tmp 156) t154 t156) k_37 h_185 ⟨⟩) (k_37 undef h_185) ⟨⟩ ⟨⟩) (fun t157 h_186 => 
 Join1 (fun k_38 h_187 => guardP t151 true (Hp Try.prog false (Instr.fieldAt 50 x1 2) k_38 h_187 ⟨⟩) (k_38 undef h_187) ⟨⟩ ⟨⟩) (fun t158 h_188 => 
 Join1 (fun k_39 h_189 => guardP t151 true (Hp Try.prog false (Instr.loadAt 3 t158) k_39 h_189 ⟨⟩) (k_39 undef h_189) ⟨⟩ ⟨⟩) (fun t159 h_190 => 
 Join1 (fun k_40 h_191 => guardP t151 true (Hp Try.prog false (binS .leq 3 (.tmp 157) (.tmp 159) t157 t159) k_40 h_191 ⟨⟩) (k_40 undef h_191) ⟨⟩ ⟨⟩) (fun t160 h_192 => 
 Hp Try.prog false (pickS t151 t160 (.bool false)) (fun t161 h_193 => 
 Join1 (fun k_41 h_194 => guardP t161 true (Hp Try.prog false (Instr.fieldAt 44 now17 2) k_41 h_194 ⟨⟩) (k_41 undef h_194) ⟨⟩ ⟨⟩) (fun t163 h_195 => 
 Join1 (fun k_42 h_196 => guardP t161 true (Hp Try.prog false (Instr.loadAt 3 t163) k_42 h_196 ⟨⟩) (k_42 undef h_196) ⟨⟩ ⟨⟩) (fun t164 h_197 => 
 Join1 (fun k_43 h_198 => guardP t161 true (k_43 writes7_5 h_198) (k_43 undef h_198) ⟨⟩ ⟨⟩) (fun t165 h_199 => 
 Join1 (fun k_44 h_200 => guardP t161 true (Hp Try.prog false (binS .leq 3 (.tmp 164) (.tmp 165) t164 t165) k_44 h_200 ⟨⟩) (k_44 undef h_200) ⟨⟩ ⟨⟩) (fun t166 h_201 => 
 Hp Try.prog false (pickS t161 t166 (.bool false)) (fun t167 h_202 => 
 Join1 (fun k_45 h_203 => guardP t167 true (CallsH Try.prog 5 #[] h_203 k_45 ⟨⟩) (k_45 undef h_203) ⟨⟩ ⟨⟩) (fun t169 h_204 => 
 Hp Try.prog false (pickS t167 t169 (.bool false)) (fun t170 h_205 => 
 Hp Try.prog false (storeS 4 t2 t170) (fun _ h_206 => 
 RetD D_9 h_206 (fun h_207 =>
 Hp Try.prog true (loadCell 4 t2) (fun r_6 _ =>
 R r_6 h_207) h_207 ⟨⟩) ⟨⟩) h_205 ⟨⟩) h_204 ⟨⟩) h_202 ⟨⟩ ⟨⟩) h_201 ⟨⟩) h_199 ⟨⟩ ⟨⟩) h_197 ⟨⟩ ⟨⟩) h_195 ⟨⟩ ⟨⟩) h_193 ⟨⟩ ⟨⟩) h_192 ⟨⟩) h_190 ⟨⟩ ⟨⟩) h_188 ⟨⟩ ⟨⟩) h_186 ⟨⟩ ⟨⟩) h_184 ⟨⟩ ⟨⟩) h_182 ⟨⟩ ⟨⟩) h_180 ⟨⟩ ⟨⟩) h_178 ⟨⟩ ⟨⟩) h_176 ⟨⟩ ⟨⟩) h_175 ⟨⟩) h_174 ⟨⟩) h_173 ⟨⟩) h_172 ⟨⟩) h_171 ⟨⟩) h_170 ⟨⟩) h_169 ⟨⟩) h_168 ⟨⟩) ⟨⟩) ⟨⟩ ⟨⟩) h_164 ⟨⟩) h_162 ⟨⟩ ⟨⟩) h_160 ⟨⟩ ⟨⟩) h_158 ⟨⟩ ⟨⟩) h_156 ⟨⟩ ⟨⟩) h_155 ⟨⟩) ⟨⟩) ⟨⟩) h_152 ⟨⟩) h_151 ⟨⟩) ⟨⟩) h_31 ⟨⟩ ⟨⟩) ⟨⟩ ⟨⟩) h_30 ⟨⟩) h_28 ⟨⟩ ⟨⟩) h_26 ⟨⟩ ⟨⟩) h_24 ⟨⟩ ⟨⟩) h_23 ⟨⟩) h_21 ⟨⟩ ⟨⟩) h_19 ⟨⟩ ⟨⟩) h_18 ⟨⟩) h_17 ⟨⟩) h_16 ⟨⟩) ⟨⟩) h_14 ⟨⟩) h_13 ⟨⟩) h_12 ⟨⟩) h_11 ⟨⟩) ⟨⟩) h_9 ⟨⟩) h_5 ⟨⟩) ⟨⟩ ⟨⟩) h_4 ⟨⟩) ⟨⟩) h_2 ⟨⟩) h_1 ⟨⟩) h ⟨⟩

theorem n4_calls {x0 : Value} {R : Value → Heap → Prop} {h : Heap} (H : n4 x0 R h) : CallsH Try.prog 4 #[x0] h R ⟨⟩ :=
 callsH_of_eq Try.follow (.n none .l (.n none .l (.n none .l (.n none .l (.n none .l (.n none .l (.n (some [0, 8]) (.n none .l (.n (some [0, 8]) (.n (some [0, 7, 8, 9]) (.n none .l (.n (some [0, 7, 8]) (.n (some [0, 7, 8]) (.n none .l (.n (some [7, 8]) .l (.n none .l (.n none .l (.n (some [0]) (.n none .l (.n (some [0]) .l .l)) .l))))) .l) .l)) .l) .l)) .l))))))) Try.func4 (by kernel_rfl) (by kernel_rfl) (by kernel_rfl) H

/-- palimpsest/palimpsestlaw14.works -/
def n5 (R : Value → Heap → Prop) (h : Heap) : Prop :=
 CallsH Try.prog 6 #[(.int .i64 4096), (.slice none 0 0)] h (fun t12 h_1 => 
 CallsH Try.prog 7 #[t12, (str [102]), (.int .i64 9), (.int .i64 2)] h_1 (fun t15 h_2 => 
 Hp Try.prog false (Instr.extract t15 0) (fun t16 h_3 => 
 Hp Try.prog false (Instr.extract t15 1) (fun t17 h_4 => 
 Hp Try.prog false (binS .eql 24 (.tmp 18) (.const (.pointer none)) t12 (.pointer none)) (fun t19 h_5 => 
 Join1 (fun k h_6 => guardP t19 false (k t16 h_6) (k undef h_6) ⟨⟩ ⟨⟩) (fun t21 h_7 => 
 Join1 (fun k_1 h_8 => guardP t19 false (Hp Try.prog false (binS .eql 26 (.tmp 21) (.const (.pointer none)) t21 (.pointer none)) k_1 h_8 ⟨⟩) (k_1 undef h_8) ⟨⟩ ⟨⟩) (fun t22 h_9 => 
 Hp Try.prog false (pickS t19 (.bool true) t22) (fun t23 h_10 => 
 Join1 (fun k_2 h_11 => guardP t23 false (k_2 t17 h_11) (k_2 undef h_11) ⟨⟩ ⟨⟩) (fun t25 h_12 => 
 Join1 (fun k_3 h_13 => guardP t23 false (CallsH Try.prog 8 #[t25] h_13 k_3 ⟨⟩) (k_3 undef h_13) ⟨⟩ ⟨⟩) (fun t26 h_14 => 
 Join1 (fun k_4 h_15 => guardP t23 false (Hp Try.prog false (binS .neq 3 (.tmp 26) (.const (.int .i64 0)) t26 (.int .i64 0)) k_4 h_15 ⟨⟩) (k_4 undef h_15) ⟨⟩ ⟨⟩) (fun t27 h_16 => 
 Hp Try.prog false (pickS t23 (.bool true) t27) (fun t28 h_17 => 
 Join1 (fun k_5 h_18 => guardP t28 false (k_5 t16 h_18) (k_5 undef h_18) ⟨⟩ ⟨⟩) (fun t30 h_19 => 
 Join1 (fun k_6 h_20 => guardP t28 false (CallsH Try.prog 17 #[t30] h_20 k_6 ⟨⟩) (k_6 undef h_20) ⟨⟩ ⟨⟩) (fun t31 h_21 => 
 Join1 (fun k_7 h_22 => guardP t28 false (Hp Try.prog false (binS .eql 56 (.tmp 31) (.const .nilFunc) t31 .nilFunc) k_7 h_22 ⟨⟩) (k_7 undef h_22) ⟨⟩ ⟨⟩) (fun t32 h_23 => 
 Hp Try.prog false (pickS t28 (.bool true) t32) (fun t33 h_24 => 
 CondP t33 (
 R (.bool false) h_24) (
 Hp Try.prog false (Instr.buildSlice 32 1 #[(0, (.int .u8 1))]) (fun t35 h_25 => 
 CallsH Try.prog 9 #[t16, (.int .i64 0), (.int .i64 0), t35] h_25 (fun t36 h_26 => 
 Hp Try.prog false (Instr.buildSlice 32 1 #[(0, (.int .u8 2))]) (fun t38 h_27 => 
 CallsH Try.prog 9 #[t16, (.int .i64 1), (.int .i64 0), t38] h_27 (fun t39 h_28 => 
 CallsH Try.prog 10 #[t16, (.int .i64 0), (.int .i64 1)] h_28 (fun t41 h_29 => 
 CallsH Try.prog 10 #[t16, (.int .i64 1), (.int .i64 0)] h_29 (fun t43 h_30 => 
 CallsH Try.prog 11 #[t16, (.int .i64 0)] h_30 (fun t45 h_31 => 
 CallsH Try.prog 19 #[t12, (str [102]), (.int .i64 512), (.int .i64 1)] h_31 (fun t48 h_32 => 
 Hp Try.prog false (Instr.extract t48 0) (fun t49 h_33 => 
 Hp Try.prog false (Instr.extract t48 1) (fun t50 h_34 => 
 CallsH Try.prog 13 #[t16] h_34 (fun t52 h_35 => 
 Hp Try.prog false (Instr.alloc 44 true undef) (fun n11 h_36 => 
 Hp Try.prog false (storeS 44 n11 t52) (fun _ h_37 => 
 CallsH Try.prog 8 #[t36] h_37 (fun t54 h_38 => 
 CallsH Try.prog 8 #[t39] h_38 (fun t56 h_39 => 
 Hp Try.prog false (binS .add 3 (.tmp 54) (.tmp 56) t54 t56) (fun t57 h_40 => 
 CallsH Try.prog 8 #[t41] h_40 (fun t59 h_41 => 
 Hp Try.prog false (binS .add 3 (.tmp 57) (.tmp 59) t57 t59) (fun t60 h_42 => 
 CallsH Try.prog 8 #[t45] h_42 (fun t62 h_43 => 
 Hp Try.prog false (binS .add 3 (.tmp 60) (.tmp 62) t60 t62) (fun t63 h_44 => 
 CallsH Try.prog 8 #[t50] h_44 (fun t65 h_45 => 
 Hp Try.prog false (binS .add 3 (.tmp 63) (.tmp 65) t63 t65) (fun t66 h_46 => 
 Hp Try.prog false (binS .eql 3 (.tmp 66) (.const (.int .i64 0)) t66 (.int .i64 0)) (fun t67 h_47 => 
 Join1 (fun k_8 h_48 => guardP t67 true (k_8 t43 h_48) (k_8 undef h_48) ⟨⟩ ⟨⟩) (fun t69 h_49 => 
 Join1 (fun k_9 h_50 => guardP t67 true (CallsH Try.prog 8 #[t69] h_50 k_9 ⟨⟩) (k_9 undef h_50) ⟨⟩ ⟨⟩) (fun t70 h_51 => 
 Join1 (fun k_10 h_52 => guardP t67 true (Hp Try.prog false (binS .eql 3 (.tmp 70) (.const (.int .i64 240)) t70 (.int .i64 240)) k_10 h_52 ⟨⟩) (k_10 undef h_52) ⟨⟩ ⟨⟩) (fun t71 h_53 => 
 Hp Try.prog false (pickS t67 t71 (.bool false)) (fun t72 h_54 => 
 Join1 (fun k_11 h_55 => guardP t72 true (k_11 t49 h_55) (k_11 undef h_55) ⟨⟩ ⟨⟩) (fun t74 h_56 => 
 Join1 (fun k_12 h_57 => guardP t72 true (Hp Try.prog false (Builtin.len_ #[32] 3 #[t74]) k_12 h_57 ⟨⟩) (k_12 undef h_57) ⟨⟩ ⟨⟩) (fun t75 h_58 => 
 Join1 (fun k_13 h_59 => guardP t72 true (Hp Try.prog false (binS .eql 3 (.tmp 75) (.const (.int .i64 1)) t75 (.int .i64 1)) k_13 h_59 ⟨⟩) (k_13 undef h_59) ⟨⟩ ⟨⟩) (fun t76 h_60 => 
 Hp Try.prog false (pickS t72 t76 (.bool false)) (fun t77 h_61 => 
 Join1 (fun k_14 h_62 => guardP t77 true (k_14 t49 h_62) (k_14 undef h_62) ⟨⟩ ⟨⟩) (fun t79 h_63 => 
 Join1 (fun k_15 h_64 => guardP t77 true (Hp Try.prog false (Instr.indexAt 32 t79 (.int .i64 0)) k_15 h_64 ⟨⟩) (k_15 undef h_64) ⟨⟩ ⟨⟩) (fun t80 h_65 => 
 Join1 (fun k_16 h_66 => guardP t77 true (Hp Try.prog false (Instr.loadAt 5 t80) k_16 h_66 ⟨⟩) (k_16 undef h_66) ⟨⟩ ⟨⟩) (fun t81 h_67 => 
 Join1 (fun k_17 h_68 => guardP t77 true (Hp Try.prog false (binS .eql 5 (.tmp 81) (.const (.int .u8 2)) t81 (.int .u8 2)) k_17 h_68 ⟨⟩) (k_17 undef h_68) ⟨⟩ ⟨⟩) (fun t82 h_69 => 
 Hp Try.prog false (pickS t77 t82 (.bool false)) (fun t83 h_70 => 
 Join1 (fun k_18 h_71 => guardP t83 true (Hp Try.prog false (Instr.loadAt 44 n11) k_18 h_71 ⟨⟩) (k_18 undef h_71) ⟨⟩ ⟨⟩) (fun t85 h_72 => 
 Join1 (fun k_19 h_73 => guardP t83 true (Hp Try.prog false (Instr.build 44 #[(1, (.int .i64 2)), (2, (.int .i64 2)), (3, (.int .i64 1))]) k_19 h_73 ⟨⟩) (k_19 undef h_73) ⟨⟩ ⟨⟩) (fun t86 h_74 => 
 Join1 (fun k_20 h_75 => guardP t83 true (Hp Try.prog false (binS .eql 44 (.tmp 85) (.tmp 86) t85 t86) k_20 h_75 ⟨⟩) (k_20 undef h_75) ⟨⟩ ⟨⟩) (fun t87 h_76 => 
 Hp Try.prog false (pickS t83 t87 (.bool false)) (fun t88 h_77 => 
 R t88 h_77) h_76 ⟨⟩) h_74 ⟨⟩ ⟨⟩) h_72 ⟨⟩ ⟨⟩) h_70 ⟨⟩ ⟨⟩) h_69 ⟨⟩) h_67 ⟨⟩ ⟨⟩) h_65 ⟨⟩ ⟨⟩) h_63 ⟨⟩ ⟨⟩) h_61 ⟨⟩ ⟨⟩) h_60 ⟨⟩) h_58 ⟨⟩ ⟨⟩) h_56 ⟨⟩ ⟨⟩) h_54 ⟨⟩ ⟨⟩) h_53 ⟨⟩) h_51 ⟨⟩ ⟨⟩) h_49 ⟨⟩ ⟨⟩) h_47 ⟨⟩ ⟨⟩) h_46 ⟨⟩) h_45 ⟨⟩) ⟨⟩) h_43 ⟨⟩) ⟨⟩) h_41 ⟨⟩) ⟨⟩) h_39 ⟨⟩) ⟨⟩) ⟨⟩) h_36 ⟨⟩) h_35 ⟨⟩) ⟨⟩) h_33 ⟨⟩) h_32 ⟨⟩) ⟨⟩) ⟨⟩) ⟨⟩) ⟨⟩) ⟨⟩) h_26 ⟨⟩) ⟨⟩) h_24 ⟨⟩) ⟨⟩ ⟨⟩) h_23 ⟨⟩) h_21 ⟨⟩ ⟨⟩) h_19 ⟨⟩ ⟨⟩) h_17 ⟨⟩ ⟨⟩) h_16 ⟨⟩) h_14 ⟨⟩ ⟨⟩) h_12 ⟨⟩ ⟨⟩) h_10 ⟨⟩ ⟨⟩) h_9 ⟨⟩) h_7 ⟨⟩ ⟨⟩) h_5 ⟨⟩ ⟨⟩) h_4 ⟨⟩) h_3 ⟨⟩) h_2 ⟨⟩) ⟨⟩) ⟨⟩

theorem n5_calls {R : Value → Heap → Prop} {h : Heap} (H : n5  R h) : CallsH Try.prog 5 #[] h R ⟨⟩ :=
 callsH_of_eq Try.follow .l Try.func5 (by kernel_rfl) (by kernel_rfl) (by kernel_rfl) H

/-- palimpsest/palimpsestlaw14.file -/
def n6 (n0 fates1 : Value) (R : Value → Heap → Prop) (h : Heap) : Prop :=
 CallsH Try.prog 20 #[(.slice none 0 0)] h (fun t8 h_1 => 
 Hp Try.prog false (Instr.extract t8 0) (fun t9 h_2 => 
 Hp Try.prog false (Instr.extract t8 1) (fun t10 h_3 => 
 Hp Try.prog false (binS .eql 24 (.tmp 11) (.const (.pointer none)) t9 (.pointer none)) (fun t12 h_4 => 
 Join1 (fun k h_5 => guardP t12 false (k t10 h_5) (k undef h_5) ⟨⟩ ⟨⟩) (fun t14 h_6 => 
 Join1 (fun k_1 h_7 => guardP t12 false (CallsH Try.prog 8 #[t14] h_7 k_1 ⟨⟩) (k_1 undef h_7) ⟨⟩ ⟨⟩) (fun t15 h_8 => 
 Join1 (fun k_2 h_9 => guardP t12 false (Hp Try.prog false (binS .neq 3 (.tmp 15) (.const (.int .i64 0)) t15 (.int .i64 0)) k_2 h_9 ⟨⟩) (k_2 undef h_9) ⟨⟩ ⟨⟩) (fun t16 h_10 => 
 Hp Try.prog false (pickS t12 (.bool true) t16) (fun t17 h_11 => 
 Join1 (fun k_3 h_12 => guardP t17 false (k_3 t9 h_12) (k_3 undef h_12) ⟨⟩ ⟨⟩) (fun t19 h_13 => 
 Join1 (fun k_4 h_14 => guardP t17 false (CallsH Try.prog 21 #[t19, (str [102])] h_14 k_4 ⟨⟩) (k_4 undef h_14) ⟨⟩ ⟨⟩) (fun t20 h_15 => 
 Join1 (fun k_5 h_16 => guardP t17 false (CallsH Try.prog 8 #[t20] h_16 k_5 ⟨⟩) (k_5 undef h_16) ⟨⟩ ⟨⟩) (fun t21 h_17 => 
 Join1 (fun k_6 h_18 => guardP t17 false (Hp Try.prog false (binS .neq 3 (.tmp 21) (.const (.int .i64 0)) t21 (.int .i64 0)) k_6 h_18 ⟨⟩) (k_6 undef h_18) ⟨⟩ ⟨⟩) (fun t22 h_19 => 
 Hp Try.prog false (pickS t17 (.bool true) t22) (fun t23 h_20 => 
 Join1 (fun k_7 h_21 => guardP t23 false (k_7 t9 h_21) (k_7 undef h_21) ⟨⟩ ⟨⟩) (fun t25 h_22 => 
 Join1 (fun k_8 h_23 => guardP t23 false (k_8 n0 h_23) (k_8 undef h_23) ⟨⟩ ⟨⟩) (fun t26 h_24 => 
 Join1 (fun k_9 h_25 => guardP t23 false (CallsH Try.prog 22 #[t25, (str [102]), t26] h_25 k_9 ⟨⟩) (k_9 undef h_25) ⟨⟩ ⟨⟩) (fun t27 h_26 => 
 Join1 (fun k_10 h_27 => guardP t23 false (CallsH Try.prog 8 #[t27] h_27 k_10 ⟨⟩) (k_10 undef h_27) ⟨⟩ ⟨⟩) (fun t28 h_28 => 
 Join1 (fun k_11 h_29 => guardP t23 false (Hp Try.prog false (binS .neq 3 (.tmp 28) (.const (.int .i64 0)) t28 (.int .i64 0)) k_11 h_29 ⟨⟩) (k_11 undef h_29) ⟨⟩ ⟨⟩) (fun t29 h_30 => 
 Hp Try.prog false (pickS t23 (.bool true) t29) (fun t30 h_31 => 
 Join1 (fun k_12 h_32 => guardP t30 false (k_12 t9 h_32) (k_12 undef h_32) ⟨⟩ ⟨⟩) (fun t32 h_33 => 
 Join1 (fun k_13 h_34 => guardP t30 false (k_13 fates1 h_34) (k_13 undef h_34) ⟨⟩ ⟨⟩) (fun t33 h_35 => 
 Join1 (fun k_14 h_36 => guardP t30 false (CallsH Try.prog 23 #[t32, t33] h_36 k_14 ⟨⟩) (k_14 undef h_36) ⟨⟩ ⟨⟩) (fun t34 h_37 => 
 Join1 (fun k_15 h_38 => guardP t30 false (CallsH Try.prog 8 #[t34] h_38 k_15 ⟨⟩) (k_15 undef h_38) ⟨⟩ ⟨⟩) (fun t35 h_39 => 
 Join1 (fun k_16 h_40 => guardP t30 false (Hp Try.prog false (binS .neq 3 (.tmp 35) (.const (.int .i64 0)) t35 (.int .i64 0)) k_16 h_40 ⟨⟩) (k_16 undef h_40) ⟨⟩ ⟨⟩) (fun t36 h_41 => 
 Hp Try.prog false (pickS t30 (.bool true) t36) (fun t37 h_42 => 
 CondP t37 (
 R (.pointer none) h_42) (
 R t9 h_42) ⟨⟩ ⟨⟩) h_41 ⟨⟩) h_39 ⟨⟩ ⟨⟩) h_37 ⟨⟩ ⟨⟩) h_35 ⟨⟩ ⟨⟩) h_33 ⟨⟩ ⟨⟩) h_31 ⟨⟩ ⟨⟩) h_30 ⟨⟩) h_28 ⟨⟩ ⟨⟩) h_26 ⟨⟩ ⟨⟩) h_24 ⟨⟩ ⟨⟩) h_22 ⟨⟩ ⟨⟩) h_20 ⟨⟩ ⟨⟩) h_19 ⟨⟩) h_17 ⟨⟩ ⟨⟩) h_15 ⟨⟩ ⟨⟩) h_13 ⟨⟩ ⟨⟩) h_11 ⟨⟩ ⟨⟩) h_10 ⟨⟩) h_8 ⟨⟩ ⟨⟩) h_6 ⟨⟩ ⟨⟩) h_4 ⟨⟩ ⟨⟩) h_3 ⟨⟩) h_2 ⟨⟩) h_1 ⟨⟩) ⟨⟩

theorem n6_calls {n0 fates1 : Value} {R : Value → Heap → Prop} {h : Heap} (H : n6 n0 fates1 R h) : CallsH Try.prog 6 #[n0, fates1] h R ⟨⟩ :=
 callsH_of_eq Try.follow .l Try.func6 (by kernel_rfl) (by kernel_rfl) (by kernel_rfl) H

/-- palimpsest/cache.New -/
def n7 (s0 name1 bits2 room3 : Value) (R : Value → Heap → Prop) (h : Heap) : Prop :=
 Hp Try.prog false (binS .eql 24 (.tmp 13) (.const (.pointer none)) s0 (.pointer none)) (fun t14 h_1 => 
 CondP t14 (
 R (.tuple #[(.pointer none), (.int .i64 1)]) h_1) (
 Hp Try.prog false (binS .lss 3 (.tmp 16) (.const (.int .i64 9)) bits2 (.int .i64 9)) (fun t17 h_2 => 
 Join1 (fun k h_3 => guardP t17 false (k bits2 h_3) (k undef h_3) ⟨⟩ ⟨⟩) (fun t19 h_4 => 
 Join1 (fun k_1 h_5 => guardP t17 false (Hp Try.prog false (binS .gtr 3 (.tmp 19) (.const (.int .i64 16)) t19 (.int .i64 16)) k_1 h_5 ⟨⟩) (k_1 undef h_5) ⟨⟩ ⟨⟩) (fun t20 h_6 => 
 Hp Try.prog false (pickS t17 (.bool true) t20) (fun t21 h_7 => 
 Join1 (fun k_2 h_8 => guardP t21 false (k_2 room3 h_8) (k_2 undef h_8) ⟨⟩ ⟨⟩) (fun t23 h_9 => 
 Join1 (fun k_3 h_10 => guardP t21 false (Hp Try.prog false (binS .lss 3 (.tmp 23) (.const (.int .i64 1)) t23 (.int .i64 1)) k_3 h_10 ⟨⟩) (k_3 undef h_10) ⟨⟩ ⟨⟩) (fun t24 h_11 => 
 Hp Try.prog false (pickS t21 (.bool true) t24) (fun t25 h_12 => 
 Join1 (fun k_4 h_13 => guardP t25 false (k_4 room3 h_13) (k_4 undef h_13) ⟨⟩ ⟨⟩) (fun t27 h_14 => 
 Join1 (fun k_5 h_15 => guardP t25 false (Hp Try.prog false (binS .gtr 3 (.tmp 27) (.const (.int .i64 1024)) t27 (.int .i64 1024)) k_5 h_15 ⟨⟩) (k_5 undef h_15) ⟨⟩ ⟨⟩) (fun t28 h_16 => 
 Hp Try.prog false (pickS t25 (.bool true) t28) (fun t29 h_17 => 
 CondP t29 (
 R (.tuple #[(.pointer none), (.int .i64 2)]) h_17) (
 CallsH Try.prog 24 #[s0, name1] h_17 (fun t33 h_18 => 
 Hp Try.prog false (Instr.extract t33 0) (fun t34 h_19 => 
 Hp Try.prog false (Instr.extract t33 1) (fun t35 h_20 => 
 Hp Try.prog false (binS .neq 27 (.tmp 36) (.const (.int .i64 0)) t35 (.int .i64 0)) (fun t37 h_21 => 
 CondP t37 (
 R (.tuple #[(.pointer none), t35]) h_21) (
 Hp Try.prog false (Instr.makeMap 69 none) (fun t43 h_22 => 
 Hp Try.prog false (Instr.makeMap 71 none) (fun t44 h_23 => 
 Hp Try.prog false (Instr.makeMap 72 none) (fun t45 h_24 => 
 Hp Try.prog false (Instr.build 74 #[(0, s0), (1, name1), (2, bits2), (3, room3), (4, t43), (5, t44), (6, t45)]) (fun t46 h_25 => 
 Hp Try.prog false (Instr.box 74 t46) (fun t47 h_26 => 
 R (.tuple #[t47, (.int .i64 0)]) h_26) h_25 ⟨⟩) h_24 ⟨⟩) h_23 ⟨⟩) h_22 ⟨⟩) h_21 ⟨⟩) ⟨⟩ ⟨⟩) h_20 ⟨⟩) h_19 ⟨⟩) h_18 ⟨⟩) ⟨⟩) ⟨⟩ ⟨⟩) h_16 ⟨⟩) h_14 ⟨⟩ ⟨⟩) h_12 ⟨⟩ ⟨⟩) h_11 ⟨⟩) h_9 ⟨⟩ ⟨⟩) h_7 ⟨⟩ ⟨⟩) h_6 ⟨⟩) h_4 ⟨⟩ ⟨⟩) h_2 ⟨⟩ ⟨⟩) h_1 ⟨⟩) ⟨⟩ ⟨⟩) h ⟨⟩

theorem n7_calls {s0 name1 bits2 room3 : Value} {R : Value → Heap → Prop} {h : Heap} (H : n7 s0 name1 bits2 room3 R h) : CallsH Try.prog 7 #[s0, name1, bits2, room3] h R ⟨⟩ :=
 callsH_of_eq Try.follow .l Try.func7 (by kernel_rfl) (by kernel_rfl) (by kernel_rfl) H

/-- palimpsest/palimpsestlaw14.num -/
def n8 (e0 : Value) (R : Value → Heap → Prop) (h : Heap) : Prop :=
 R e0 h

theorem n8_calls {e0 : Value} {R : Value → Heap → Prop} {h : Heap} (H : n8 e0 R h) : CallsH Try.prog 8 #[e0] h R ⟨⟩ :=
 callsH_of_eq Try.follow .l Try.func8 (by kernel_rfl) (by kernel_rfl) (by kernel_rfl) H

/-- (*palimpsest/cache.Cache).Write -/
def n9 (c0 n1 at2 b3 : Value) (R : Value → Heap → Prop) (h : Heap) : Prop :=
 Hp Try.prog false (Builtin.len_ #[32] 3 #[b3]) (fun t16 h_1 => 
 CallsH Try.prog 25 #[c0, n1, at2, t16] h_1 (fun t17 h_2 => 
 Hp Try.prog false (Instr.extract t17 0) (fun t18 h_3 => 
 Hp Try.prog false (Instr.extract t17 1) (fun t19 h_4 => 
 Hp Try.prog false (binS .neq 27 (.tmp 20) (.const (.int .i64 0)) t19 (.int .i64 0)) (fun t21 h_5 => 
 CondP t21 (
 R t19 h_5) (
 Hp Try.prog false (nilS t18) (fun t24 h_6 => 
 Hp Try.prog false (Instr.fieldAt 79 t24 1) (fun t25 h_7 => 
 Hp Try.prog false (Instr.loadAt 32 t25) (fun t26 h_8 => 
 Hp Try.prog false (Instr.sliceAt 32 t26 (some at2) none none) (fun t28 h_9 => 
 Hp Try.prog false (Builtin.copy_ #[32, 32] 3 #[t28, b3]) (fun t30 h_10 => 
 Hp Try.prog false (nilS t18) (fun t33 h_11 => 
 Hp Try.prog false (Instr.fieldAt 79 t33 2) (fun t34 h_12 => 
 Hp Try.prog false (Instr.loadAt 4 t34) (fun t35 h_13 => 
 Join1 (fun k h_14 => guardP t35 false (k b3 h_14) (k undef h_14) ⟨⟩ ⟨⟩) (fun t37 h_15 => 
 Join1 (fun k_1 h_16 => guardP t35 false (Hp Try.prog false (Builtin.len_ #[32] 3 #[t37]) k_1 h_16 ⟨⟩) (k_1 undef h_16) ⟨⟩ ⟨⟩) (fun t38 h_17 => 
 Join1 (fun k_2 h_18 => guardP t35 false (Hp Try.prog false (binS .gtr 3 (.tmp 38) (.const (.int .i64 0)) t38 (.int .i64 0)) k_2 h_18 ⟨⟩) (k_2 undef h_18) ⟨⟩ ⟨⟩) (fun t39 h_19 => 
 Hp Try.prog false (pickS t35 (.bool true) t39) (fun t40 h_20 => 
 Hp Try.prog false (nilS t18) (fun t41 h_21 => 
 Hp Try.prog false (Instr.fieldAt 79 t41 2) (fun t42 h_22 => 
 Hp Try.prog false (storeS 4 t42 t40) (fun _ h_23 => 
 R (.int .i64 0) h_23) h_22 ⟨⟩) h_21 ⟨⟩) h_20 ⟨⟩) h_19 ⟨⟩) h_17 ⟨⟩ ⟨⟩) h_15 ⟨⟩ ⟨⟩) h_13 ⟨⟩ ⟨⟩) h_12 ⟨⟩) h_11 ⟨⟩) h_10 ⟨⟩) h_9 ⟨⟩) h_8 ⟨⟩) h_7 ⟨⟩) h_6 ⟨⟩) h_5 ⟨⟩) ⟨⟩ ⟨⟩) h_4 ⟨⟩) h_3 ⟨⟩) h_2 ⟨⟩) ⟨⟩) h ⟨⟩

theorem n9_calls {c0 n1 at2 b3 : Value} {R : Value → Heap → Prop} {h : Heap} (H : n9 c0 n1 at2 b3 R h) : CallsH Try.prog 9 #[c0, n1, at2, b3] h R ⟨⟩ :=
 callsH_of_eq Try.follow .l Try.func9 (by kernel_rfl) (by kernel_rfl) (by kernel_rfl) H

/-- (*palimpsest/cache.Cache).After -/
def n10 (c0 n1 other2 : Value) (R : Value → Heap → Prop) (h : Heap) : Prop :=
 CallsH Try.prog 26 #[c0, n1] h (fun t11 h_1 => 
 Hp Try.prog false (binS .neq 27 (.tmp 12) (.const (.int .i64 0)) t11 (.int .i64 0)) (fun t13 h_2 => 
 CondP t13 (
 R t11 h_2) (
 CallsH Try.prog 26 #[c0, other2] h_2 (fun t17 h_3 => 
 Hp Try.prog false (binS .neq 27 (.tmp 18) (.const (.int .i64 0)) t17 (.int .i64 0)) (fun t19 h_4 => 
 CondP t19 (
 R t17 h_4) (
 JoinN 0 (fun (k : Heap → Prop) h_5 =>
 JoinN 0 (fun (k_1 : Heap → Prop) h_6 =>
 Hp Try.prog false (binS .eql 2 (.tmp 22) (.tmp 23) n1 other2) (fun t24 h_7 => 
 Join1 (fun k_2 h_8 => guardP t24 false (k_2 c0 h_8) (k_2 undef h_8) ⟨⟩ ⟨⟩) (fun t26 h_9 => 
 Join1 (fun k_3 h_10 => guardP t24 false (k_3 other2 h_10) (k_3 undef h_10) ⟨⟩ ⟨⟩) (fun t27 h_11 => 
 Join1 (fun k_4 h_12 => guardP t24 false (k_4 n1 h_12) (k_4 undef h_12) ⟨⟩ ⟨⟩) (fun t28 h_13 => 
 Join1 (fun k_5 h_14 => guardP t24 false (CallsH Try.prog 27 #[t26, t27, t28] h_14 k_5 ⟨⟩) (k_5 undef h_14) ⟨⟩ ⟨⟩) (fun t29 h_15 => 
 Hp Try.prog false (pickS t24 (.bool true) t29) (fun t30 h_16 => 
 CondP t30 (
 R (.int .i64 240) h_16) (
 CallsH Try.prog 28 #[c0, other2] h_16 (fun t34 h_17 => 
 Hp Try.prog false (Op.unary .not t34) (fun t35 h_18 => 
 CondP t35 (
 R (.int .i64 0) h_18) (
 Hp Try.prog false (nilS c0) (fun t38 h_19 => 
 Hp Try.prog false (Instr.fieldAt 74 t38 6) (fun t39 h_20 => 
 Hp Try.prog false (Instr.loadAt 72 t39) (fun t40 h_21 => 
 Hp Try.prog false (Instr.lookup 72 t40 n1 false) (fun t42 h_22 => 
 Hp Try.prog false (binS .eql 71 (.tmp 42) (.const (.map none)) t42 (.map none)) (fun t43 h_23 => 
 CondP t43 (
 Hp Try.prog false (nilS c0) (fun t45 h_24 => 
 Hp Try.prog false (Instr.fieldAt 74 t45 6) (fun t46 h_25 => 
 Hp Try.prog false (Instr.loadAt 72 t46) (fun t47 h_26 => 
 Hp Try.prog false (Instr.makeMap 71 none) (fun t49 h_27 => 
 Hp Try.prog false (unitS (Instr.mapUpdate 72 t47 n1 t49)) (fun _ h_28 => 
 k_1 h_28) h_27 ⟨⟩) h_26 ⟨⟩) h_25 ⟨⟩) h_24 ⟨⟩) h_23 ⟨⟩) (
 k_1 h_23) ⟨⟩ ⟨⟩) h_22 ⟨⟩) h_21 ⟨⟩) h_20 ⟨⟩) h_19 ⟨⟩) h_18 ⟨⟩) ⟨⟩ ⟨⟩) h_17 ⟨⟩) ⟨⟩) ⟨⟩ ⟨⟩) h_15 ⟨⟩) h_13 ⟨⟩ ⟨⟩) h_11 ⟨⟩ ⟨⟩) h_9 ⟨⟩ ⟨⟩) h_7 ⟨⟩ ⟨⟩) h_6 ⟨⟩)
 (fun h_29 =>
 k h_29) h_5 ⟨⟩ ⟨⟩)
 (fun h_30 =>
 Hp Try.prog false (nilS c0) (fun t51 h_31 => 
 Hp Try.prog false (Instr.fieldAt 74 t51 6) (fun t52 h_32 => 
 Hp Try.prog false (Instr.loadAt 72 t52) (fun t53 h_33 => 
 Hp Try.prog false (Instr.lookup 72 t53 n1 false) (fun t55 h_34 => 
 Hp Try.prog false (unitS (Instr.mapUpdate 71 t55 other2 (.bool true))) (fun _ h_35 => 
 R (.int .i64 0) h_35) h_34 ⟨⟩) h_33 ⟨⟩) h_32 ⟨⟩) h_31 ⟨⟩) h_30 ⟨⟩) h_4 ⟨⟩ ⟨⟩) ⟨⟩ ⟨⟩) h_3 ⟨⟩) ⟨⟩) ⟨⟩ ⟨⟩) h_1 ⟨⟩) ⟨⟩

theorem n10_calls {c0 n1 other2 : Value} {R : Value → Heap → Prop} {h : Heap} (H : n10 c0 n1 other2 R h) : CallsH Try.prog 10 #[c0, n1, other2] h R ⟨⟩ :=
 callsH_of_eq Try.follow (.n none .l (.n none .l (.n none .l (.n (some []) (.n (some []) .l .l) .l)))) Try.func10 (by kernel_rfl) (by kernel_rfl) (by kernel_rfl) H

/-- (*palimpsest/cache.Cache).Back -/
def n11 (c0 n1 : Value) (R : Value → Heap → Prop) (h : Heap) : Prop :=
 CallsH Try.prog 26 #[c0, n1] h (fun t8 h_1 => 
 Hp Try.prog false (binS .neq 27 (.tmp 10) (.const (.int .i64 0)) t8 (.int .i64 0)) (fun t11 h_2 => 
 CondP t11 (
 R t8 h_2) (
 Hp Try.prog false (nilS c0) (fun t15 h_3 => 
 Hp Try.prog false (Instr.fieldAt 74 t15 4) (fun t16 h_4 => 
 Hp Try.prog false (Instr.loadAt 69 t16) (fun t17 h_5 => 
 Hp Try.prog false (Instr.lookup 69 t17 n1 false) (fun t19 h_6 => 
 Hp Try.prog false (binS .eql 75 (.tmp 19) (.const (.pointer none)) t19 (.pointer none)) (fun t20 h_7 => 
 CondP t20 (
 R (.int .i64 7) h_7) (
 CallsH Try.prog 29 #[c0, n1] h_7 (fun t23 h_8 => 
 R t23 h_8) ⟨⟩) ⟨⟩ ⟨⟩) h_6 ⟨⟩) h_5 ⟨⟩) h_4 ⟨⟩) h_3 ⟨⟩) h_2 ⟨⟩) ⟨⟩ ⟨⟩) h_1 ⟨⟩) ⟨⟩

theorem n11_calls {c0 n1 : Value} {R : Value → Heap → Prop} {h : Heap} (H : n11 c0 n1 R h) : CallsH Try.prog 11 #[c0, n1] h R ⟨⟩ :=
 callsH_of_eq Try.follow .l Try.func11 (by kernel_rfl) (by kernel_rfl) (by kernel_rfl) H

/-- (*palimpsest/cache.Cache).State -/
def n12 (c0 n1 : Value) (R : Value → Heap → Prop) (h : Heap) : Prop :=
 Hp Try.prog false (Instr.alloc 40 true undef) (fun t4 h_1 => 
 CallsH Try.prog 26 #[c0, n1] h_1 (fun t10 h_2 => 
 Hp Try.prog false (binS .neq 27 (.tmp 11) (.const (.int .i64 0)) t10 (.int .i64 0)) (fun t12 h_3 => 
 CondP t12 (
 Hp Try.prog false (Instr.build 40 #[]) (fun t13 h_4 => 
 Hp Try.prog false (storeS 40 t4 t13) (fun _ h_5 => 
 Hp Try.prog true (loadCell 40 t4) (fun r _ =>
 R (.tuple #[r, t10]) h_5) h_5 ⟨⟩) h_4 ⟨⟩) h_3 ⟨⟩) (
 Hp Try.prog false (nilS c0) (fun t16 h_6 => 
 Hp Try.prog false (Instr.fieldAt 74 t16 4) (fun t17 h_7 => 
 Hp Try.prog false (Instr.loadAt 69 t17) (fun t18 h_8 => 
 Hp Try.prog false (Instr.lookup 69 t18 n1 false) (fun t20 h_9 => 
 Hp Try.prog true (nilS c0) (fun t30 _ => 
 Hp Try.prog true (Instr.fieldAt 74 t30 5) (fun t31 _ => 
 Hp Try.prog true (Instr.loadAt 71 t31) (fun t32 _ => 
 Hp Try.prog true (Instr.lookup 71 t32 n1 false) (fun t34 _ => 
 Hp Try.prog false (binS .neq 75 (.tmp 21) (.const (.pointer none)) t20 (.pointer none)) (fun t22 h_10 => Hp Try.prog true (Instr.lookup 71 t32 n1 false) (fun u _ => u = t34) h_10 ⟨⟩ ∧ Hp Try.prog true (Instr.loadAt 71 t31) (fun u _ => u = t32) h_10 ⟨⟩ ∧ 
 Join1 (fun k h_11 => guardP t22 true (k t20 h_11) (k undef h_11) ⟨⟩ ⟨⟩) (fun t24 _ => 
 Join1 (fun k_1 h_12 => guardP t22 true (Hp Try.prog true (nilS t24) k_1 h_12 ⟨⟩) (k_1 undef h_12) ⟨⟩ ⟨⟩) (fun t25 _ => 
 Join1 (fun k_2 h_13 => guardP t22 true (Hp Try.prog true (Instr.fieldAt 79 t25 2) k_2 h_13 ⟨⟩) (k_2 undef h_13) ⟨⟩ ⟨⟩) (fun t26 _ => 
 Join1 (fun k_3 h_14 => guardP t22 true (Hp Try.prog true (Instr.loadAt 4 t26) k_3 h_14 ⟨⟩) (k_3 undef h_14) ⟨⟩ ⟨⟩) (fun t27 _ => 
 Hp Try.prog true (pickS t22 t27 (.bool false)) (fun t28 _ => 
 CallsH Try.prog 30 #[c0, n1] h_10 (fun t37 h_15 => Join1 (fun k h => guardP t22 true (Hp Try.prog true (Instr.loadAt 4 t26) k h ⟨⟩) (k undef h) ⟨⟩ ⟨⟩) (fun u _ => u = t27) h_15 ⟨⟩ ⟨⟩ ∧ Hp Try.prog true (Instr.lookup 71 t32 n1 false) (fun u _ => u = t34) h_15 ⟨⟩ ∧ Hp Try.prog true (Instr.loadAt 71 t31) (fun u _ => u = t32) h_15 ⟨⟩ ∧ 
 Hp Try.prog true (Instr.build 40 #[(0, t28), (1, t34), (2, t37)]) (fun t38 _ => 
 Hp Try.prog false (storeS 40 t4 t38) (fun _ h_16 => 
 Hp Try.prog true (loadCell 40 t4) (fun r_1 _ =>
 R (.tuple #[r_1, (.int .i64 0)]) h_16) h_16 ⟨⟩) h_15 ⟨⟩) #[] ⟨⟩) ⟨⟩) #[] ⟨⟩) h_10 ⟨⟩ ⟨⟩) #[] ⟨⟩ ⟨⟩) #[] ⟨⟩ ⟨⟩) #[] ⟨⟩ ⟨⟩) h_9 ⟨⟩) h_9 ⟨⟩) h_9 ⟨⟩) #[] ⟨⟩) #[] ⟨⟩) h_8 ⟨⟩) h_7 ⟨⟩) h_6 ⟨⟩) h_3 ⟨⟩) ⟨⟩ ⟨⟩) h_2 ⟨⟩) ⟨⟩) h ⟨⟩

theorem n12_calls {c0 n1 : Value} {R : Value → Heap → Prop} {h : Heap} (H : n12 c0 n1 R h) : CallsH Try.prog 12 #[c0, n1] h R ⟨⟩ :=
 callsH_of_eq Try.follow .l Try.func12 (by kernel_rfl) (by kernel_rfl) (by kernel_rfl) H

/-- (*palimpsest/cache.Cache).Counts -/
def n13 (c0 : Value) (R : Value → Heap → Prop) (h : Heap) : Prop :=
 Hp Try.prog false (Instr.alloc 44 true undef) (fun t2 h_1 => 
 Hp Try.prog false (binS .eql 26 (.tmp 3) (.const (.pointer none)) c0 (.pointer none)) (fun t4 h_2 => 
 CondP t4 (
 Hp Try.prog false (Instr.build 44 #[]) (fun t5 h_3 => 
 Hp Try.prog false (storeS 44 t2 t5) (fun _ h_4 => 
 Hp Try.prog true (loadCell 44 t2) (fun r _ =>
 R r h_4) h_4 ⟨⟩) h_3 ⟨⟩) h_2 ⟨⟩) (
 Hp Try.prog false (nilS c0) (fun t7 h_5 => 
 Hp Try.prog false (Instr.fieldAt 74 t7 8) (fun t8 h_6 => 
 Hp Try.prog false (Instr.loadAt 44 t8) (fun t9 h_7 => 
 Hp Try.prog false (storeS 44 t2 t9) (fun _ h_8 => 
 Hp Try.prog true (loadCell 44 t2) (fun r_1 _ =>
 R r_1 h_8) h_8 ⟨⟩) h_7 ⟨⟩) h_6 ⟨⟩) h_5 ⟨⟩) h_2 ⟨⟩) ⟨⟩ ⟨⟩) h_1 ⟨⟩) h ⟨⟩

theorem n13_calls {c0 : Value} {R : Value → Heap → Prop} {h : Heap} (H : n13 c0 R h) : CallsH Try.prog 13 #[c0] h R ⟨⟩ :=
 callsH_of_eq Try.follow .l Try.func13 (by kernel_rfl) (by kernel_rfl) (by kernel_rfl) H

/-- palimpsest/palimpsestlaw14.wrote -/
def n14 (s0 : Value) (R : Value → Heap → Prop) (h : Heap) : Prop :=
 CallsH Try.prog 19 #[s0, (str [102]), (.int .i64 0), (.int .i64 4096)] h (fun t8 h_1 => 
 Hp Try.prog false (Instr.extract t8 0) (fun t9 h_2 => 
 Hp Try.prog false (Instr.extract t8 1) (fun t10 h_3 => 
 CallsH Try.prog 8 #[t10] h_3 (fun t12 h_4 => 
 Hp Try.prog false (binS .neq 3 (.tmp 12) (.const (.int .i64 0)) t12 (.int .i64 0)) (fun t13 h_5 => 
 Join1 (fun k h_6 => guardP t13 false (k t9 h_6) (k undef h_6) ⟨⟩ ⟨⟩) (fun t15 h_7 => 
 Join1 (fun k_1 h_8 => guardP t13 false (Hp Try.prog false (Builtin.len_ #[32] 3 #[t15]) k_1 h_8 ⟨⟩) (k_1 undef h_8) ⟨⟩ ⟨⟩) (fun t16 h_9 => 
 Join1 (fun k_2 h_10 => guardP t13 false (Hp Try.prog false (binS .neq 3 (.tmp 16) (.const (.int .i64 4096)) t16 (.int .i64 4096)) k_2 h_10 ⟨⟩) (k_2 undef h_10) ⟨⟩ ⟨⟩) (fun t17 h_11 => 
 Hp Try.prog false (pickS t13 (.bool true) t17) (fun t18 h_12 => 
 CondP t18 (
 R (.bool false) h_12) (
 LoopC 1 (fun (X : Value → Heap → Prop) => fun p5 h_13 =>
 Hp Try.prog false (binS .lss 3 (.tmp 19) (.const (.int .i64 8)) p5 (.int .i64 8)) (fun t20 h_14 => 
 CondP t20 (
 Hp Try.prog false (binS .mul 3 (.const (.int .i64 512)) (.tmp 24) (.int .i64 512) p5) (fun t25 h_15 => 
 Hp Try.prog false (Instr.indexAt 32 t9 t25) (fun t26 h_16 => 
 Hp Try.prog false (Instr.loadAt 5 t26) (fun t27 h_17 => 
 Hp Try.prog false (binS .add 3 (.tmp 28) (.const (.int .i64 1)) p5 (.int .i64 1)) (fun t29 h_18 => 
 Hp Try.prog false (convert 3 5 t29) (fun t30 h_19 => 
 Hp Try.prog false (binS .neq 5 (.tmp 27) (.tmp 30) t27 t30) (fun t31 h_20 => 
 CondP t31 (
 R (.bool false) h_20) (
 Hp Try.prog false (binS .add 3 (.tmp 21) (.const (.int .i64 1)) p5 (.int .i64 1)) (fun t22 h_21 => 
 X t22 h_21) h_20 ⟨⟩) ⟨⟩ ⟨⟩) h_19 ⟨⟩) h_18 ⟨⟩) h_17 ⟨⟩) h_16 ⟨⟩) h_15 ⟨⟩) h_14 ⟨⟩) (
 R (.bool true) h_14) ⟨⟩ ⟨⟩) h_13 ⟨⟩) [(.int .i64 0)] h_12 ⟨⟩) ⟨⟩ ⟨⟩) h_11 ⟨⟩) h_9 ⟨⟩ ⟨⟩) h_7 ⟨⟩ ⟨⟩) h_5 ⟨⟩ ⟨⟩) h_4 ⟨⟩) ⟨⟩) h_2 ⟨⟩) h_1 ⟨⟩) ⟨⟩

theorem n14_calls {s0 : Value} {R : Value → Heap → Prop} {h : Heap} (H : n14 s0 R h) : CallsH Try.prog 14 #[s0] h R ⟨⟩ :=
 callsH_of_eq Try.follow (.n none .l (.n none .l (.n none .l (.n none (.n none .l (.n none (.n (some [6]) .l .l) .l)) .l)))) Try.func14 (by kernel_rfl) (by kernel_rfl) (by kernel_rfl) H

/-- (palimpsest/palimpsestlaw14.Calls).fits -/
def n15 (x0 : Value) (R : Value → Heap → Prop) (h : Heap) : Prop :=
 Hp Try.prog false (Instr.box 50 x0) (fun x1 h_1 => 
 Hp Try.prog false (Instr.fieldAt 50 x1 0) (fun t4 h_2 => 
 Hp Try.prog false (Instr.loadAt 2 t4) (fun t5 h_3 => 
 Hp Try.prog false (binS .lss 2 (.tmp 5) (.const (.int .i64 0)) t5 (.int .i64 0)) (fun t6 h_4 => 
 Join1 (fun k h_5 => guardP t6 false (Hp Try.prog false (Instr.fieldAt 50 x1 0) k h_5 ⟨⟩) (k undef h_5) ⟨⟩ ⟨⟩) (fun t8 h_6 => 
 Join1 (fun k_1 h_7 => guardP t6 false (Hp Try.prog false (Instr.loadAt 2 t8) k_1 h_7 ⟨⟩) (k_1 undef h_7) ⟨⟩ ⟨⟩) (fun t9 h_8 => 
 Join1 (fun k_2 h_9 => guardP t6 false (Hp Try.prog false (binS .gtr 2 (.tmp 9) (.const (.int .i64 50000)) t9 (.int .i64 50000)) k_2 h_9 ⟨⟩) (k_2 undef h_9) ⟨⟩ ⟨⟩) (fun t10 h_10 => 
 Hp Try.prog false (pickS t6 (.bool true) t10) (fun t11 h_11 => 
 Join1 (fun k_3 h_12 => guardP t11 false (Hp Try.prog false (Instr.fieldAt 50 x1 1) k_3 h_12 ⟨⟩) (k_3 undef h_12) ⟨⟩ ⟨⟩) (fun t13 h_13 => 
 Join1 (fun k_4 h_14 => guardP t11 false (Hp Try.prog false (Instr.loadAt 3 t13) k_4 h_14 ⟨⟩) (k_4 undef h_14) ⟨⟩ ⟨⟩) (fun t14 h_15 => 
 Join1 (fun k_5 h_16 => guardP t11 false (Hp Try.prog false (binS .lss 3 (.tmp 14) (.const (.int .i64 9)) t14 (.int .i64 9)) k_5 h_16 ⟨⟩) (k_5 undef h_16) ⟨⟩ ⟨⟩) (fun t15 h_17 => 
 Hp Try.prog false (pickS t11 (.bool true) t15) (fun t16 h_18 => 
 Join1 (fun k_6 h_19 => guardP t16 false (Hp Try.prog false (Instr.fieldAt 50 x1 1) k_6 h_19 ⟨⟩) (k_6 undef h_19) ⟨⟩ ⟨⟩) (fun t18 h_20 => 
 Join1 (fun k_7 h_21 => guardP t16 false (Hp Try.prog false (Instr.loadAt 3 t18) k_7 h_21 ⟨⟩) (k_7 undef h_21) ⟨⟩ ⟨⟩) (fun t19 h_22 => 
 Join1 (fun k_8 h_23 => guardP t16 false (Hp Try.prog false (binS .gtr 3 (.tmp 19) (.const (.int .i64 12)) t19 (.int .i64 12)) k_8 h_23 ⟨⟩) (k_8 undef h_23) ⟨⟩ ⟨⟩) (fun t20 h_24 => 
 Hp Try.prog false (pickS t16 (.bool true) t20) (fun t21 h_25 => 
 Join1 (fun k_9 h_26 => guardP t21 false (Hp Try.prog false (Instr.fieldAt 50 x1 2) k_9 h_26 ⟨⟩) (k_9 undef h_26) ⟨⟩ ⟨⟩) (fun t23 h_27 => 
 Join1 (fun k_10 h_28 => guardP t21 false (Hp Try.prog false (Instr.loadAt 3 t23) k_10 h_28 ⟨⟩) (k_10 undef h_28) ⟨⟩ ⟨⟩) (fun t24 h_29 => 
 Join1 (fun k_11 h_30 => guardP t21 false (Hp Try.prog false (binS .lss 3 (.tmp 24) (.const (.int .i64 1)) t24 (.int .i64 1)) k_11 h_30 ⟨⟩) (k_11 undef h_30) ⟨⟩ ⟨⟩) (fun t25 h_31 => 
 Hp Try.prog false (pickS t21 (.bool true) t25) (fun t26 h_32 => 
 Join1 (fun k_12 h_33 => guardP t26 false (Hp Try.prog false (Instr.fieldAt 50 x1 2) k_12 h_33 ⟨⟩) (k_12 undef h_33) ⟨⟩ ⟨⟩) (fun t28 h_34 => 
 Join1 (fun k_13 h_35 => guardP t26 false (Hp Try.prog false (Instr.loadAt 3 t28) k_13 h_35 ⟨⟩) (k_13 undef h_35) ⟨⟩ ⟨⟩) (fun t29 h_36 => 
 Join1 (fun k_14 h_37 => guardP t26 false (Hp Try.prog false (binS .gtr 3 (.tmp 29) (.const (.int .i64 20)) t29 (.int .i64 20)) k_14 h_37 ⟨⟩) (k_14 undef h_37) ⟨⟩ ⟨⟩) (fun t30 h_38 => 
 Hp Try.prog false (pickS t26 (.bool true) t30) (fun t31 h_39 => 
 Join1 (fun k_15 h_40 => guardP t31 false (Hp Try.prog false (Instr.fieldAt 50 x1 3) k_15 h_40 ⟨⟩) (k_15 undef h_40) ⟨⟩ ⟨⟩) (fun t33 h_41 => 
 Join1 (fun k_16 h_42 => guardP t31 false (Hp Try.prog false (Instr.loadAt 48 t33) k_16 h_42 ⟨⟩) (k_16 undef h_42) ⟨⟩ ⟨⟩) (fun t34 h_43 => 
 Join1 (fun k_17 h_44 => guardP t31 false (Hp Try.prog false (Builtin.len_ #[48] 3 #[t34]) k_17 h_44 ⟨⟩) (k_17 undef h_44) ⟨⟩ ⟨⟩) (fun t35 h_45 => 
 Join1 (fun k_18 h_46 => guardP t31 false (Hp Try.prog false (binS .gtr 3 (.tmp 35) (.const (.int .i64 60)) t35 (.int .i64 60)) k_18 h_46 ⟨⟩) (k_18 undef h_46) ⟨⟩ ⟨⟩) (fun t36 h_47 => 
 Hp Try.prog false (pickS t31 (.bool true) t36) (fun t37 h_48 => 
 CondP t37 (
 R (.bool false) h_48) (
 LoopC 1 (fun (X : Value → Heap → Prop) => fun i3 h_49 =>
 Hp Try.prog false (Instr.fieldAt 50 x1 3) (fun t39 h_50 => 
 Hp Try.prog false (Instr.loadAt 48 t39) (fun t40 h_51 => 
 Hp Try.prog false (Builtin.len_ #[48] 3 #[t40]) (fun t41 h_52 => 
 Hp Try.prog false (binS .lss 3 (.tmp 38) (.tmp 41) i3 t41) (fun t42 h_53 => 
 CondP t42 (
 Hp Try.prog false (Instr.fieldAt 50 x1 3) (fun t45 h_54 => 
 Hp Try.prog false (Instr.loadAt 48 t45) (fun t46 h_55 => 
 Hp Try.prog false (Instr.indexAt 48 t46 i3) (fun t48 h_56 => 
 Hp Try.prog false (Instr.fieldAt 52 t48 3) (fun t49 h_57 => 
 Hp Try.prog false (Instr.loadAt 2 t49) (fun t50 h_58 => 
 Hp Try.prog false (binS .geq 2 (.tmp 50) (.const (.int .i64 12)) t50 (.int .i64 12)) (fun t51 h_59 => 
 Join1 (fun k_19 h_60 => guardP t51 false (Hp Try.prog false (Instr.fieldAt 50 x1 3) k_19 h_60 ⟨⟩) (k_19 undef h_60) ⟨⟩ ⟨⟩) (fun t53 h_61 => 
 Join1 (fun k_20 h_62 => guardP t51 false (Hp Try.prog false (Instr.loadAt 48 t53) k_20 h_62 ⟨⟩) (k_20 undef h_62) ⟨⟩ ⟨⟩) (fun t54 h_63 => 
 Join1 (fun k_21 h_64 => guardP t51 false (k_21 i3 h_64) (k_21 undef h_64) ⟨⟩ ⟨⟩) (fun t55 h_65 => 
 Join1 (fun k_22 h_66 => guardP t51 false (Hp Try.prog false (Instr.indexAt 48 t54 t55) k_22 h_66 ⟨⟩) (k_22 undef h_66) ⟨⟩ ⟨⟩) (fun t56 h_67 => 
 Join1 (fun k_23 h_68 => guardP t51 false (Hp Try.prog false (Instr.fieldAt 52 t56 5) k_23 h_68 ⟨⟩) (k_23 undef h_68) ⟨⟩ ⟨⟩) (fun t57 h_69 => 
 Join1 (fun k_24 h_70 => guardP t51 false (Hp Try.prog false (Instr.loadAt 32 t57) k_24 h_70 ⟨⟩) (k_24 undef h_70) ⟨⟩ ⟨⟩) (fun t58 h_71 => 
 Join1 (fun k_25 h_72 => guardP t51 false (Hp Try.prog false (Builtin.len_ #[32] 3 #[t58]) k_25 h_72 ⟨⟩) (k_25 undef h_72) ⟨⟩ ⟨⟩) (fun t59 h_73 => 
 Join1 (fun k_26 h_74 => guardP t51 false (Hp Try.prog false (binS .gtr 3 (.tmp 59) (.const (.int .i64 5000)) t59 (.int .i64 5000)) k_26 h_74 ⟨⟩) (k_26 undef h_74) ⟨⟩ ⟨⟩) (fun t60 h_75 => 
 Hp Try.prog false (pickS t51 (.bool true) t60) (fun t61 h_76 => 
 CondP t61 (
 R (.bool false) h_76) (
 Hp Try.prog false (binS .add 3 (.tmp 43) (.const (.int .i64 1)) i3 (.int .i64 1)) (fun t44 h_77 => 
 X t44 h_77) h_76 ⟨⟩) ⟨⟩ ⟨⟩) h_75 ⟨⟩) h_73 ⟨⟩ ⟨⟩) h_71 ⟨⟩ ⟨⟩) h_69 ⟨⟩ ⟨⟩) h_67 ⟨⟩ ⟨⟩) h_65 ⟨⟩ ⟨⟩) h_63 ⟨⟩ ⟨⟩) h_61 ⟨⟩ ⟨⟩) h_59 ⟨⟩ ⟨⟩) h_58 ⟨⟩) h_57 ⟨⟩) h_56 ⟨⟩) h_55 ⟨⟩) h_54 ⟨⟩) h_53 ⟨⟩) (
 R (.bool true) h_53) ⟨⟩ ⟨⟩) h_52 ⟨⟩) h_51 ⟨⟩) h_50 ⟨⟩) h_49 ⟨⟩) [(.int .i64 0)] h_48 ⟨⟩) ⟨⟩ ⟨⟩) h_47 ⟨⟩) h_45 ⟨⟩ ⟨⟩) h_43 ⟨⟩ ⟨⟩) h_41 ⟨⟩ ⟨⟩) h_39 ⟨⟩ ⟨⟩) h_38 ⟨⟩) h_36 ⟨⟩ ⟨⟩) h_34 ⟨⟩ ⟨⟩) h_32 ⟨⟩ ⟨⟩) h_31 ⟨⟩) h_29 ⟨⟩ ⟨⟩) h_27 ⟨⟩ ⟨⟩) h_25 ⟨⟩ ⟨⟩) h_24 ⟨⟩) h_22 ⟨⟩ ⟨⟩) h_20 ⟨⟩ ⟨⟩) h_18 ⟨⟩ ⟨⟩) h_17 ⟨⟩) h_15 ⟨⟩ ⟨⟩) h_13 ⟨⟩ ⟨⟩) h_11 ⟨⟩ ⟨⟩) h_10 ⟨⟩) h_8 ⟨⟩ ⟨⟩) h_6 ⟨⟩ ⟨⟩) h_4 ⟨⟩ ⟨⟩) h_3 ⟨⟩) h_2 ⟨⟩) h_1 ⟨⟩) h ⟨⟩

theorem n15_calls {x0 : Value} {R : Value → Heap → Prop} {h : Heap} (H : n15 x0 R h) : CallsH Try.prog 15 #[x0] h R ⟨⟩ :=
 callsH_of_eq Try.follow (.n none .l (.n none .l (.n none (.n none .l (.n none (.n (some [4]) .l .l) .l)) .l))) Try.func15 (by kernel_rfl) (by kernel_rfl) (by kernel_rfl) H

/-- (*palimpsest/cache.Cache).Read -/
def n16 (c0 n1 at2 k3 : Value) (R : Value → Heap → Prop) (h : Heap) : Prop :=
 CallsH Try.prog 25 #[c0, n1, at2, k3] h (fun t17 h_1 => 
 Hp Try.prog false (Instr.extract t17 0) (fun t18 h_2 => 
 Hp Try.prog false (Instr.extract t17 1) (fun t19 h_3 => 
 Hp Try.prog false (binS .neq 27 (.tmp 20) (.const (.int .i64 0)) t19 (.int .i64 0)) (fun t21 h_4 => 
 CondP t21 (
 R (.tuple #[(.slice none 0 0), t19]) h_4) (
 Hp Try.prog false (nilS t18) (fun t24 h_5 => 
 Hp Try.prog false (Instr.fieldAt 79 t24 1) (fun t25 h_6 => 
 Hp Try.prog false (Instr.loadAt 32 t25) (fun t26 h_7 => 
 Hp Try.prog false (binS .add 3 (.tmp 28) (.tmp 29) at2 k3) (fun t30 h_8 => 
 Hp Try.prog false (Instr.sliceAt 32 t26 (some at2) (some t30) none) (fun t31 h_9 => 
 CallsH Try.prog 31 #[t31] h_9 (fun t32 h_10 => 
 R (.tuple #[t32, (.int .i64 0)]) h_10) ⟨⟩) h_8 ⟨⟩) h_7 ⟨⟩) h_6 ⟨⟩) h_5 ⟨⟩) h_4 ⟨⟩) ⟨⟩ ⟨⟩) h_3 ⟨⟩) h_2 ⟨⟩) h_1 ⟨⟩) ⟨⟩

theorem n16_calls {c0 n1 at2 k3 : Value} {R : Value → Heap → Prop} {h : Heap} (H : n16 c0 n1 at2 k3 R h) : CallsH Try.prog 16 #[c0, n1, at2, k3] h R ⟨⟩ :=
 callsH_of_eq Try.follow .l Try.func16 (by kernel_rfl) (by kernel_rfl) (by kernel_rfl) H

/-- (*palimpsest/cache.Cache).Pages -/
def n17 (c0 : Value) (R : Value → Heap → Prop) (h : Heap) : Prop :=
 Hp Try.prog false (binS .eql 26 (.tmp 3) (.const (.pointer none)) c0 (.pointer none)) (fun t4 h_1 => 
 CondP t4 (
 CallsH Try.prog 32 #[(.slice none 0 0)] h_1 (fun t5 h_2 => 
 R t5 h_2) ⟨⟩) (
 Hp Try.prog false (nilS c0) (fun t7 h_3 => 
 Hp Try.prog false (Instr.fieldAt 74 t7 4) (fun t8 h_4 => 
 Hp Try.prog false (Instr.loadAt 69 t8) (fun t9 h_5 => 
 CallsH Try.prog 34 #[t9] h_5 (fun t10 h_6 => 
 CallsH Try.prog 33 #[t10] h_6 (fun t11 h_7 => 
 CallsH Try.prog 32 #[t11] h_7 (fun t12 h_8 => 
 R t12 h_8) ⟨⟩) ⟨⟩) ⟨⟩) h_4 ⟨⟩) h_3 ⟨⟩) h_1 ⟨⟩) ⟨⟩ ⟨⟩) h ⟨⟩

theorem n17_calls {c0 : Value} {R : Value → Heap → Prop} {h : Heap} (H : n17 c0 R h) : CallsH Try.prog 17 #[c0] h R ⟨⟩ :=
 callsH_of_eq Try.follow .l Try.func17 (by kernel_rfl) (by kernel_rfl) (by kernel_rfl) H

/-- (*palimpsest/cache.Cache).Flush -/
def n18 (c0 : Value) (R : Value → Heap → Prop) (h : Heap) : Prop :=
 CallsH Try.prog 26 #[c0, (.int .i64 0)] h (fun t8 h_1 => 
 Hp Try.prog false (binS .neq 27 (.tmp 9) (.const (.int .i64 0)) t8 (.int .i64 0)) (fun t10 h_2 => 
 CondP t10 (
 R t8 h_2) (
 Hp Try.prog false (nilS c0) (fun t13 h_3 => 
 Hp Try.prog false (Instr.fieldAt 74 t13 4) (fun t14 h_4 => 
 Hp Try.prog false (Instr.loadAt 69 t14) (fun t15 h_5 => 
 CallsH Try.prog 34 #[t15] h_5 (fun t16 h_6 => 
 CallsH Try.prog 33 #[t16] h_6 (fun t17 h_7 => 
 Hp Try.prog false (Builtin.len_ #[38] 3 #[t17]) (fun t18 h_8 => 
 LoopC 1 (fun (X : Value → Heap → Prop) => fun t19 h_9 =>
 Hp Try.prog false (binS .lss 3 (.tmp 19) (.tmp 18) t19 t18) (fun t20 h_10 => 
 CondP t20 (
 Hp Try.prog false (Instr.indexAt 38 t17 t19) (fun t21 h_11 => 
 Hp Try.prog false (Instr.loadAt 2 t21) (fun t22 h_12 => 
 CallsH Try.prog 29 #[c0, t22] h_12 (fun t25 h_13 => 
 Hp Try.prog false (binS .neq 27 (.tmp 26) (.const (.int .i64 0)) t25 (.int .i64 0)) (fun t27 h_14 => 
 CondP t27 (
 R t25 h_14) (
 Hp Try.prog false (binS .add 3 (.tmp 19) (.const (.int .i64 1)) t19 (.int .i64 1)) (fun t29 h_15 => 
 X t29 h_15) h_14 ⟨⟩) ⟨⟩ ⟨⟩) h_13 ⟨⟩) ⟨⟩) h_11 ⟨⟩) h_10 ⟨⟩) (
 CallsH Try.prog 35 #[c0] h_10 (fun t31 h_16 => 
 R t31 h_16) ⟨⟩) ⟨⟩ ⟨⟩) h_9 ⟨⟩) [(.int .i64 0)] h_8 ⟨⟩) h_7 ⟨⟩) ⟨⟩) ⟨⟩) h_4 ⟨⟩) h_3 ⟨⟩) h_2 ⟨⟩) ⟨⟩ ⟨⟩) h_1 ⟨⟩) ⟨⟩

theorem n18_calls {c0 : Value} {R : Value → Heap → Prop} {h : Heap} (H : n18 c0 R h) : CallsH Try.prog 18 #[c0] h R ⟨⟩ :=
 callsH_of_eq Try.follow (.n none .l (.n none .l (.n none (.n none .l (.n none (.n (some [20]) .l .l) .l)) .l))) Try.func18 (by kernel_rfl) (by kernel_rfl) (by kernel_rfl) H

/-- (*palimpsest/store.Store).Read -/
def n19 (s0 name1 at2 n3 : Value) (R : Value → Heap → Prop) (h : Heap) : Prop :=
 CallsH Try.prog 36 #[s0, name1] h (fun t16 h_1 => 
 Hp Try.prog false (Instr.extract t16 0) (fun t17 h_2 => 
 Hp Try.prog false (Instr.extract t16 1) (fun t18 h_3 => 
 Hp Try.prog false (binS .neq 27 (.tmp 20) (.const (.int .i64 0)) t18 (.int .i64 0)) (fun t21 h_4 => 
 CondP t21 (
 R (.tuple #[(.slice none 0 0), t18]) h_4) (
 Hp Try.prog false (binS .lss 2 (.tmp 24) (.const (.int .i64 0)) at2 (.int .i64 0)) (fun t25 h_5 => 
 Join1 (fun k h_6 => guardP t25 false (k at2 h_6) (k undef h_6) ⟨⟩ ⟨⟩) (fun t27 h_7 => 
 Join1 (fun k_1 h_8 => guardP t25 false (k_1 t17 h_8) (k_1 undef h_8) ⟨⟩ ⟨⟩) (fun t28 h_9 => 
 Join1 (fun k_2 h_10 => guardP t25 false (Hp Try.prog false (nilS t28) k_2 h_10 ⟨⟩) (k_2 undef h_10) ⟨⟩ ⟨⟩) (fun t29 h_11 => 
 Join1 (fun k_3 h_12 => guardP t25 false (Hp Try.prog false (Instr.fieldAt 92 t29 2) k_3 h_12 ⟨⟩) (k_3 undef h_12) ⟨⟩ ⟨⟩) (fun t30 h_13 => 
 Join1 (fun k_4 h_14 => guardP t25 false (Hp Try.prog false (Instr.loadAt 32 t30) k_4 h_14 ⟨⟩) (k_4 undef h_14) ⟨⟩ ⟨⟩) (fun t31 h_15 => 
 Join1 (fun k_5 h_16 => guardP t25 false (Hp Try.prog false (Builtin.len_ #[32] 3 #[t31]) k_5 h_16 ⟨⟩) (k_5 undef h_16) ⟨⟩ ⟨⟩) (fun t32 h_17 => 
 Join1 (fun k_6 h_18 => guardP t25 false (Hp Try.prog false (binS .gtr 2 (.tmp 27) (.tmp 32) t27 t32) k_6 h_18 ⟨⟩) (k_6 undef h_18) ⟨⟩ ⟨⟩) (fun t33 h_19 => 
 Hp Try.prog false (pickS t25 (.bool true) t33) (fun t34 h_20 => 
 Join1 (fun k_7 h_21 => guardP t34 false (k_7 n3 h_21) (k_7 undef h_21) ⟨⟩ ⟨⟩) (fun t36 h_22 => 
 Join1 (fun k_8 h_23 => guardP t34 false (Hp Try.prog false (binS .lss 3 (.tmp 36) (.const (.int .i64 0)) t36 (.int .i64 0)) k_8 h_23 ⟨⟩) (k_8 undef h_23) ⟨⟩ ⟨⟩) (fun t37 h_24 => 
 Hp Try.prog false (pickS t34 (.bool true) t37) (fun t38 h_25 => 
 CondP t38 (
 R (.tuple #[(.slice none 0 0), (.int .i64 4)]) h_25) (
 Hp Try.prog false (nilS t17) (fun t40 h_26 => 
 Hp Try.prog false (Instr.fieldAt 92 t40 2) (fun t41 h_27 => 
 Hp Try.prog false (Instr.loadAt 32 t41) (fun t42 h_28 => 
 Hp Try.prog false (Instr.sliceAt 32 t42 (some at2) none none) (fun t44 h_29 => 
 Hp Try.prog false (Builtin.len_ #[32] 3 #[t44]) (fun t48 h_30 => 
 Hp Try.prog false (Builtin.min_ #[3, 3] 3 #[n3, t48]) (fun t49 h_31 => 
 Hp Try.prog false (Instr.sliceAt 32 t44 none (some t49) none) (fun t50 h_32 => 
 CallsH Try.prog 37 #[t50] h_32 (fun t51 h_33 => 
 R (.tuple #[t51, (.int .i64 0)]) h_33) ⟨⟩) h_31 ⟨⟩) h_30 ⟨⟩) h_29 ⟨⟩) h_28 ⟨⟩) h_27 ⟨⟩) h_26 ⟨⟩) h_25 ⟨⟩) ⟨⟩ ⟨⟩) h_24 ⟨⟩) h_22 ⟨⟩ ⟨⟩) h_20 ⟨⟩ ⟨⟩) h_19 ⟨⟩) h_17 ⟨⟩ ⟨⟩) h_15 ⟨⟩ ⟨⟩) h_13 ⟨⟩ ⟨⟩) h_11 ⟨⟩ ⟨⟩) h_9 ⟨⟩ ⟨⟩) h_7 ⟨⟩ ⟨⟩) h_5 ⟨⟩ ⟨⟩) h_4 ⟨⟩) ⟨⟩ ⟨⟩) h_3 ⟨⟩) h_2 ⟨⟩) h_1 ⟨⟩) ⟨⟩

theorem n19_calls {s0 name1 at2 n3 : Value} {R : Value → Heap → Prop} {h : Heap} (H : n19 s0 name1 at2 n3 R h) : CallsH Try.prog 19 #[s0, name1, at2, n3] h R ⟨⟩ :=
 callsH_of_eq Try.follow .l Try.func19 (by kernel_rfl) (by kernel_rfl) (by kernel_rfl) H

/-- palimpsest/store.New -/
def n20 (fates0 : Value) (R : Value → Heap → Prop) (h : Heap) : Prop :=
 CallsH Try.prog 38 #[fates0] h (fun t5 h_1 => 
 Hp Try.prog false (Op.unary .not t5) (fun t6 h_2 => 
 CondP t6 (
 R (.tuple #[(.pointer none), (.int .i64 2)]) h_2) (
 Hp Try.prog false (Instr.makeMap 94 none) (fun t7 h_3 => 
 CallsH Try.prog 39 #[fates0] h_3 (fun t9 h_4 => 
 Hp Try.prog false (Instr.build 100 #[(0, t7), (1, t9)]) (fun t10 h_5 => 
 Hp Try.prog false (Instr.box 100 t10) (fun t11 h_6 => 
 R (.tuple #[t11, (.int .i64 0)]) h_6) h_5 ⟨⟩) h_4 ⟨⟩) ⟨⟩) h_2 ⟨⟩) ⟨⟩ ⟨⟩) h_1 ⟨⟩) ⟨⟩

theorem n20_calls {fates0 : Value} {R : Value → Heap → Prop} {h : Heap} (H : n20 fates0 R h) : CallsH Try.prog 20 #[fates0] h R ⟨⟩ :=
 callsH_of_eq Try.follow .l Try.func20 (by kernel_rfl) (by kernel_rfl) (by kernel_rfl) H

/-- (*palimpsest/store.Store).Create -/
def n21 (s0 name1 : Value) (R : Value → Heap → Prop) (h : Heap) : Prop :=
 CallsH Try.prog 40 #[s0, name1] h (fun t12 h_1 => 
 Hp Try.prog false (binS .neq 27 (.tmp 13) (.const (.int .i64 0)) t12 (.int .i64 0)) (fun t14 h_2 => 
 CondP t14 (
 R t12 h_2) (
 Hp Try.prog false (nilS s0) (fun t18 h_3 => 
 Hp Try.prog false (Instr.fieldAt 100 t18 0) (fun t19 h_4 => 
 Hp Try.prog false (Instr.loadAt 94 t19) (fun t20 h_5 => 
 Hp Try.prog false (Instr.lookup 94 t20 name1 true) (fun t22 h_6 => 
 Hp Try.prog false (Instr.extract t22 0) (fun t23 h_7 => 
 Hp Try.prog false (Instr.extract t22 1) (fun t24 h_8 => 
 CondP t24 (
 R (.int .i64 8) h_8) (
 Hp Try.prog false (nilS s0) (fun t27 h_9 => 
 Hp Try.prog false (Instr.fieldAt 100 t27 0) (fun t28 h_10 => 
 Hp Try.prog false (Instr.loadAt 94 t28) (fun t29 h_11 => 
 Hp Try.prog false (Builtin.len_ #[94] 3 #[t29]) (fun t30 h_12 => 
 Hp Try.prog false (binS .geq 3 (.tmp 30) (.const (.int .i64 256)) t30 (.int .i64 256)) (fun t31 h_13 => 
 CondP t31 (
 R (.int .i64 6) h_13) (
 CallsH Try.prog 41 #[s0] h_13 (fun t34 h_14 => 
 Hp Try.prog false (Instr.extract t34 0) (fun t35 h_15 => 
 Hp Try.prog false (Instr.extract t34 1) (fun t36 h_16 => 
 Hp Try.prog false (binS .neq 27 (.tmp 37) (.const (.int .i64 0)) t35 (.int .i64 0)) (fun t38 h_17 => 
 CondP t38 (
 R t35 h_17) (
 Hp Try.prog false (nilS s0) (fun t41 h_18 => 
 Hp Try.prog false (Instr.fieldAt 100 t41 0) (fun t42 h_19 => 
 Hp Try.prog false (Instr.loadAt 94 t42) (fun t43 h_20 => 
 Hp Try.prog false (Instr.build 92 #[]) (fun t45 h_21 => 
 Hp Try.prog false (Instr.box 92 t45) (fun t46 h_22 => 
 Hp Try.prog false (unitS (Instr.mapUpdate 94 t43 name1 t46)) (fun _ h_23 => 
 R (.int .i64 0) h_23) h_22 ⟨⟩) h_21 ⟨⟩) h_20 ⟨⟩) h_19 ⟨⟩) h_18 ⟨⟩) h_17 ⟨⟩) ⟨⟩ ⟨⟩) h_16 ⟨⟩) h_15 ⟨⟩) h_14 ⟨⟩) ⟨⟩) ⟨⟩ ⟨⟩) h_12 ⟨⟩) h_11 ⟨⟩) h_10 ⟨⟩) h_9 ⟨⟩) h_8 ⟨⟩) ⟨⟩ ⟨⟩) h_7 ⟨⟩) h_6 ⟨⟩) h_5 ⟨⟩) h_4 ⟨⟩) h_3 ⟨⟩) h_2 ⟨⟩) ⟨⟩ ⟨⟩) h_1 ⟨⟩) ⟨⟩

theorem n21_calls {s0 name1 : Value} {R : Value → Heap → Prop} {h : Heap} (H : n21 s0 name1 R h) : CallsH Try.prog 21 #[s0, name1] h R ⟨⟩ :=
 callsH_of_eq Try.follow .l Try.func21 (by kernel_rfl) (by kernel_rfl) (by kernel_rfl) H

/-- (*palimpsest/store.Store).Resize -/
def n22 (s0 name1 size2 : Value) (R : Value → Heap → Prop) (h : Heap) : Prop :=
 CallsH Try.prog 36 #[s0, name1] h (fun t17 h_1 => 
 Hp Try.prog false (Instr.extract t17 0) (fun t18 h_2 => 
 Hp Try.prog false (Instr.extract t17 1) (fun t19 h_3 => 
 Hp Try.prog false (binS .neq 27 (.tmp 21) (.const (.int .i64 0)) t19 (.int .i64 0)) (fun t22 h_4 => 
 CondP t22 (
 R t19 h_4) (
 Hp Try.prog false (binS .lss 2 (.tmp 25) (.const (.int .i64 0)) size2 (.int .i64 0)) (fun t26 h_5 => 
 CondP t26 (
 R (.int .i64 4) h_5) (
 Hp Try.prog false (binS .gtr 2 (.tmp 28) (.const (.int .i64 268435456)) size2 (.int .i64 268435456)) (fun t29 h_6 => 
 CondP t29 (
 R (.int .i64 6) h_6) (
 CallsH Try.prog 41 #[s0] h_6 (fun t32 h_7 => 
 Hp Try.prog false (Instr.extract t32 0) (fun t33 h_8 => 
 Hp Try.prog false (Instr.extract t32 1) (fun t34 h_9 => 
 Hp Try.prog false (binS .neq 27 (.tmp 35) (.const (.int .i64 0)) t33 (.int .i64 0)) (fun t36 h_10 => 
 CondP t36 (
 R t33 h_10) (
 CallsH Try.prog 42 #[t18, size2] h_10 (fun t40 h_11 => 
 Hp Try.prog true (nilS t18) (fun t44 _ => 
 Hp Try.prog true (Instr.fieldAt 92 t44 2) (fun t45 _ => 
 Hp Try.prog true (Instr.loadAt 32 t45) (fun t46 _ => 
 Hp Try.prog true (Instr.sliceAt 32 t46 none (some size2) (some size2)) (fun t49 _ => 
 Hp Try.prog true (nilS t18) (fun t51 _ => 
 Hp Try.prog true (Instr.fieldAt 92 t51 0) (fun t52 _ => 
 Hp Try.prog true (Instr.loadAt 32 t52) (fun t53 _ => 
 Hp Try.prog true (Instr.sliceAt 32 t53 none (some size2) (some size2)) (fun t56 _ => 
 Hp Try.prog true (nilS t18) (fun t57 _ => 
 Hp Try.prog true (Instr.fieldAt 92 t57 2) (fun t58 _ => 
 Hp Try.prog false (storeS 32 t58 t49) (fun _ h_12 => 
 Hp Try.prog true (nilS t18) (fun t59 _ => 
 Hp Try.prog true (Instr.fieldAt 92 t59 0) (fun t60 _ => 
 Hp Try.prog false (storeS 32 t60 t56) (fun _ h_13 => 
 Hp Try.prog false (nilS t18) (fun t62 h_14 => 
 Hp Try.prog false (Instr.fieldAt 92 t62 1) (fun t63 h_15 => 
 Hp Try.prog false (Instr.loadAt 90 t63) (fun t64 h_16 => 
 Hp Try.prog false (Builtin.len_ #[90] 3 #[t64]) (fun t65 h_17 => 
 LoopC 2 (fun (X : Value → Value → Heap → Prop) => fun stay11 t66 h_18 =>
 Hp Try.prog false (binS .lss 3 (.tmp 66) (.tmp 65) t66 t65) (fun t67 h_19 => 
 CondP t67 (
 JoinN 1 (fun (k : Value → Heap → Prop) h_20 =>
 JoinN 1 (fun (k_1 : Value → Heap → Prop) h_21 =>
 Hp Try.prog false (Instr.indexAt 90 t64 t66) (fun t68 h_22 => 
 Hp Try.prog false (Instr.loadAt 106 t68) (fun t69 h_23 => 
 Hp Try.prog false (Instr.alloc 106 true undef) (fun p13 h_24 => 
 Hp Try.prog false (storeS 106 p13 t69) (fun _ h_25 => 
 Hp Try.prog false (Instr.fieldAt 106 p13 0) (fun t70 h_26 => 
 Hp Try.prog false (Instr.loadAt 2 t70) (fun t71 h_27 => 
 Hp Try.prog false (binS .lss 2 (.tmp 71) (.tmp 72) t71 size2) (fun t73 h_28 => 
 CondP t73 (
 Hp Try.prog false (Instr.fieldAt 106 p13 1) (fun t74 h_29 => 
 Hp Try.prog false (Instr.loadAt 32 t74) (fun t75 h_30 => 
 Hp Try.prog false (Instr.fieldAt 106 p13 1) (fun t76 h_31 => 
 Hp Try.prog false (Instr.loadAt 32 t76) (fun t77 h_32 => 
 Hp Try.prog false (Builtin.len_ #[32] 3 #[t77]) (fun t78 h_33 => 
 Hp Try.prog false (Instr.fieldAt 106 p13 0) (fun t80 h_34 => 
 Hp Try.prog false (Instr.loadAt 2 t80) (fun t81 h_35 => 
 Hp Try.prog false (binS .sub 2 (.tmp 79) (.tmp 81) size2 t81) (fun t82 h_36 => 
 Hp Try.prog false (Builtin.min_ #[2, 2] 2 #[t78, t82]) (fun t83 h_37 => 
 Hp Try.prog false (Instr.sliceAt 32 t75 none (some t83) none) (fun t84 h_38 => 
 Hp Try.prog false (Instr.fieldAt 106 p13 1) (fun t85 h_39 => 
 Hp Try.prog false (storeS 32 t85 t84) (fun _ h_40 => 
 Hp Try.prog false (Instr.loadAt 106 p13) (fun t87 h_41 => 
 Hp Try.prog false (Instr.buildSlice 90 1 #[(0, t87)]) (fun t88 h_42 => 
 Hp Try.prog false (Builtin.append_ #[90, 90] 90 #[stay11, t88]) (fun t89 h_43 => 
 k_1 t89 h_43) h_42 ⟨⟩) h_41 ⟨⟩) h_40 ⟨⟩) h_39 ⟨⟩) h_38 ⟨⟩) h_37 ⟨⟩) h_36 ⟨⟩) h_35 ⟨⟩) h_34 ⟨⟩) h_33 ⟨⟩) h_32 ⟨⟩) h_31 ⟨⟩) h_30 ⟨⟩) h_29 ⟨⟩) h_28 ⟨⟩) (
 k_1 stay11 h_28) ⟨⟩ ⟨⟩) h_27 ⟨⟩) h_26 ⟨⟩) h_25 ⟨⟩) h_24 ⟨⟩) h_23 ⟨⟩) h_22 ⟨⟩) h_21 ⟨⟩)
 (fun stay11_1 h_44 =>
 k stay11_1 h_44) h_20 ⟨⟩ ⟨⟩)
 (fun stay11_2 h_45 =>
 Hp Try.prog false (binS .add 3 (.tmp 66) (.const (.int .i64 1)) t66 (.int .i64 1)) (fun t90 h_46 => 
 X stay11_2 t90 h_46) h_45 ⟨⟩) h_19 ⟨⟩ ⟨⟩) (
 Hp Try.prog false (nilS t18) (fun t93 h_47 => 
 Hp Try.prog false (Instr.fieldAt 92 t93 1) (fun t94 h_48 => 
 Hp Try.prog false (storeS 90 t94 stay11) (fun _ h_49 => 
 R (.int .i64 0) h_49) h_48 ⟨⟩) h_47 ⟨⟩) h_19 ⟨⟩) ⟨⟩ ⟨⟩) h_18 ⟨⟩) [(.slice none 0 0), (.int .i64 0)] h_17 ⟨⟩) h_16 ⟨⟩) h_15 ⟨⟩) h_14 ⟨⟩) h_13 ⟨⟩) h_12 ⟨⟩) #[] ⟨⟩) #[] ⟨⟩) h_11 ⟨⟩) #[] ⟨⟩) #[] ⟨⟩) #[] ⟨⟩) h_11 ⟨⟩) #[] ⟨⟩) #[] ⟨⟩) #[] ⟨⟩) h_11 ⟨⟩) #[] ⟨⟩) #[] ⟨⟩) ⟨⟩) ⟨⟩ ⟨⟩) h_9 ⟨⟩) h_8 ⟨⟩) h_7 ⟨⟩) ⟨⟩) ⟨⟩ ⟨⟩) h_5 ⟨⟩) ⟨⟩ ⟨⟩) h_4 ⟨⟩) ⟨⟩ ⟨⟩) h_3 ⟨⟩) h_2 ⟨⟩) h_1 ⟨⟩) ⟨⟩

theorem n22_calls {s0 name1 size2 : Value} {R : Value → Heap → Prop} {h : Heap} (H : n22 s0 name1 size2 R h) : CallsH Try.prog 22 #[s0, name1, size2] h R ⟨⟩ :=
 callsH_of_eq Try.follow (.n none .l (.n none .l (.n none .l (.n none .l (.n none .l (.n none .l (.n none .l (.n none (.n none .l (.n none (.n (some [12, 67]) (.n none .l (.n none .l (.n (some [12]) (.n (some [12]) .l .l) .l))) .l) .l)) .l)))))))) Try.func22 (by kernel_rfl) (by kernel_rfl) (by kernel_rfl) H

/-- (*palimpsest/store.Store).Feed -/
def n23 (s0 fates1 : Value) (R : Value → Heap → Prop) (h : Heap) : Prop :=
 CallsH Try.prog 43 #[s0] h (fun t7 h_1 => 
 CondP t7 (
 R (.int .i64 1) h_1) (
 CallsH Try.prog 38 #[fates1] h_1 (fun t10 h_2 => 
 Hp Try.prog false (Op.unary .not t10) (fun t11 h_3 => 
 CondP t11 (
 R (.int .i64 2) h_3) (
 Hp Try.prog false (nilS s0) (fun t14 h_4 => 
 Hp Try.prog false (Instr.fieldAt 100 t14 1) (fun t15 h_5 => 
 Hp Try.prog false (Instr.loadAt 61 t15) (fun t16 h_6 => 
 Hp Try.prog false (Builtin.append_ #[61, 61] 61 #[t16, fates1]) (fun t18 h_7 => 
 Hp Try.prog false (nilS s0) (fun t19 h_8 => 
 Hp Try.prog false (Instr.fieldAt 100 t19 1) (fun t20 h_9 => 
 Hp Try.prog false (storeS 61 t20 t18) (fun _ h_10 => 
 R (.int .i64 0) h_10) h_9 ⟨⟩) h_8 ⟨⟩) h_7 ⟨⟩) h_6 ⟨⟩) h_5 ⟨⟩) h_4 ⟨⟩) h_3 ⟨⟩) ⟨⟩ ⟨⟩) h_2 ⟨⟩) ⟨⟩) ⟨⟩ ⟨⟩) ⟨⟩

theorem n23_calls {s0 fates1 : Value} {R : Value → Heap → Prop} {h : Heap} (H : n23 s0 fates1 R h) : CallsH Try.prog 23 #[s0, fates1] h R ⟨⟩ :=
 callsH_of_eq Try.follow .l Try.func23 (by kernel_rfl) (by kernel_rfl) (by kernel_rfl) H

/-- (*palimpsest/store.Store).Size -/
def n24 (s0 name1 : Value) (R : Value → Heap → Prop) (h : Heap) : Prop :=
 CallsH Try.prog 36 #[s0, name1] h (fun t11 h_1 => 
 Hp Try.prog false (Instr.extract t11 0) (fun t12 h_2 => 
 Hp Try.prog false (Instr.extract t11 1) (fun t13 h_3 => 
 Hp Try.prog false (binS .neq 27 (.tmp 14) (.const (.int .i64 0)) t13 (.int .i64 0)) (fun t15 h_4 => 
 CondP t15 (
 R (.tuple #[(.int .i64 0), t13]) h_4) (
 Hp Try.prog false (nilS t12) (fun t18 h_5 => 
 Hp Try.prog false (Instr.fieldAt 92 t18 2) (fun t19 h_6 => 
 Hp Try.prog false (Instr.loadAt 32 t19) (fun t20 h_7 => 
 Hp Try.prog false (Builtin.len_ #[32] 3 #[t20]) (fun t21 h_8 => 
 R (.tuple #[t21, (.int .i64 0)]) h_8) h_7 ⟨⟩) h_6 ⟨⟩) h_5 ⟨⟩) h_4 ⟨⟩) ⟨⟩ ⟨⟩) h_3 ⟨⟩) h_2 ⟨⟩) h_1 ⟨⟩) ⟨⟩

theorem n24_calls {s0 name1 : Value} {R : Value → Heap → Prop} {h : Heap} (H : n24 s0 name1 R h) : CallsH Try.prog 24 #[s0, name1] h R ⟨⟩ :=
 callsH_of_eq Try.follow .l Try.func24 (by kernel_rfl) (by kernel_rfl) (by kernel_rfl) H

/-- (*palimpsest/cache.Cache).use -/
def n25 (c0 n1 at2 k3 : Value) (R : Value → Heap → Prop) (h : Heap) : Prop :=
 CallsH Try.prog 26 #[c0, n1] h (fun t20 h_1 => 
 Hp Try.prog false (binS .neq 27 (.tmp 21) (.const (.int .i64 0)) t20 (.int .i64 0)) (fun t22 h_2 => 
 CondP t22 (
 R (.tuple #[(.pointer none), t20]) h_2) (
 Hp Try.prog false (binS .lss 3 (.tmp 24) (.const (.int .i64 0)) at2 (.int .i64 0)) (fun t25 h_3 => 
 Join1 (fun k h_4 => guardP t25 false (k k3 h_4) (k undef h_4) ⟨⟩ ⟨⟩) (fun t27 h_5 => 
 Join1 (fun k_1 h_6 => guardP t25 false (Hp Try.prog false (binS .lss 3 (.tmp 27) (.const (.int .i64 0)) t27 (.int .i64 0)) k_1 h_6 ⟨⟩) (k_1 undef h_6) ⟨⟩ ⟨⟩) (fun t28 h_7 => 
 Hp Try.prog false (pickS t25 (.bool true) t28) (fun t29 h_8 => 
 Join1 (fun k_2 h_9 => guardP t29 false (k_2 at2 h_9) (k_2 undef h_9) ⟨⟩ ⟨⟩) (fun t31 h_10 => 
 Join1 (fun k_3 h_11 => guardP t29 false (k_3 c0 h_11) (k_3 undef h_11) ⟨⟩ ⟨⟩) (fun t32 h_12 => 
 Join1 (fun k_4 h_13 => guardP t29 false (Hp Try.prog false (nilS t32) k_4 h_13 ⟨⟩) (k_4 undef h_13) ⟨⟩ ⟨⟩) (fun t33 h_14 => 
 Join1 (fun k_5 h_15 => guardP t29 false (Hp Try.prog false (Instr.fieldAt 74 t33 2) k_5 h_15 ⟨⟩) (k_5 undef h_15) ⟨⟩ ⟨⟩) (fun t34 h_16 => 
 Join1 (fun k_6 h_17 => guardP t29 false (Hp Try.prog false (Instr.loadAt 3 t34) k_6 h_17 ⟨⟩) (k_6 undef h_17) ⟨⟩ ⟨⟩) (fun t35 h_18 => 
 Join1 (fun k_7 h_19 => guardP t29 false (Hp Try.prog false (binS .shl 3 (.const (.int .i64 1)) (.tmp 35) (.int .i64 1) t35) k_7 h_19 ⟨⟩) (k_7 undef h_19) ⟨⟩ ⟨⟩) (fun t36 h_20 => 
 Join1 (fun k_8 h_21 => guardP t29 false (Hp Try.prog false (binS .gtr 3 (.tmp 31) (.tmp 36) t31 t36) k_8 h_21 ⟨⟩) (k_8 undef h_21) ⟨⟩ ⟨⟩) (fun t37 h_22 => 
 Hp Try.prog false (pickS t29 (.bool true) t37) (fun t38 h_23 => 
 Join1 (fun k_9 h_24 => guardP t38 false (k_9 k3 h_24) (k_9 undef h_24) ⟨⟩ ⟨⟩) (fun t40 h_25 => 
 Join1 (fun k_10 h_26 => guardP t38 false (k_10 c0 h_26) (k_10 undef h_26) ⟨⟩ ⟨⟩) (fun t41 h_27 => 
 Join1 (fun k_11 h_28 => guardP t38 false (Hp Try.prog false (nilS t41) k_11 h_28 ⟨⟩) (k_11 undef h_28) ⟨⟩ ⟨⟩) (fun t42 h_29 => 
 Join1 (fun k_12 h_30 => guardP t38 false (Hp Try.prog false (Instr.fieldAt 74 t42 2) k_12 h_30 ⟨⟩) (k_12 undef h_30) ⟨⟩ ⟨⟩) (fun t43 h_31 => 
 Join1 (fun k_13 h_32 => guardP t38 false (Hp Try.prog false (Instr.loadAt 3 t43) k_13 h_32 ⟨⟩) (k_13 undef h_32) ⟨⟩ ⟨⟩) (fun t44 h_33 => 
 Join1 (fun k_14 h_34 => guardP t38 false (Hp Try.prog false (binS .shl 3 (.const (.int .i64 1)) (.tmp 44) (.int .i64 1) t44) k_14 h_34 ⟨⟩) (k_14 undef h_34) ⟨⟩ ⟨⟩) (fun t45 h_35 => 
 Join1 (fun k_15 h_36 => guardP t38 false (k_15 at2 h_36) (k_15 undef h_36) ⟨⟩ ⟨⟩) (fun t46 h_37 => 
 Join1 (fun k_16 h_38 => guardP t38 false (Hp Try.prog false (binS .sub 3 (.tmp 45) (.tmp 46) t45 t46) k_16 h_38 ⟨⟩) (k_16 undef h_38) ⟨⟩ ⟨⟩) (fun t47 h_39 => 
 Join1 (fun k_17 h_40 => guardP t38 false (Hp Try.prog false (binS .gtr 3 (.tmp 40) (.tmp 47) t40 t47) k_17 h_40 ⟨⟩) (k_17 undef h_40) ⟨⟩ ⟨⟩) (fun t48 h_41 => 
 Hp Try.prog false (pickS t38 (.bool true) t48) (fun t49 h_42 => 
 CondP t49 (
 R (.tuple #[(.pointer none), (.int .i64 2)]) h_42) (
 Hp Try.prog true (nilS c0) (fun t52 _ => 
 Hp Try.prog true (Instr.fieldAt 74 t52 0) (fun t53 _ => 
 Hp Try.prog true (Instr.loadAt 24 t53) (fun t54 _ => 
 Hp Try.prog true (nilS c0) (fun t56 _ => 
 Hp Try.prog true (Instr.fieldAt 74 t56 1) (fun t57 _ => 
 Hp Try.prog true (Instr.loadAt 9 t57) (fun t58 _ => 
 CallsH Try.prog 24 #[t54, t58] h_42 (fun t59 h_43 => 
 Hp Try.prog true (Instr.extract t59 0) (fun t60 _ => 
 Hp Try.prog true (Instr.extract t59 1) (fun t61 _ => 
 Hp Try.prog false (binS .neq 27 (.tmp 62) (.const (.int .i64 0)) t61 (.int .i64 0)) (fun t63 h_44 => 
 CondP t63 (
 R (.tuple #[(.pointer none), t61]) h_44) (
 Hp Try.prog false (nilS c0) (fun t66 h_45 => 
 Hp Try.prog false (Instr.fieldAt 74 t66 4) (fun t67 h_46 => 
 Hp Try.prog false (Instr.loadAt 69 t67) (fun t68 h_47 => 
 Hp Try.prog false (Instr.lookup 69 t68 n1 false) (fun t70 h_48 => 
 JoinN 1 (fun (k_18 : Value → Heap → Prop) h_49 =>
 Hp Try.prog false (binS .eql 75 (.tmp 71) (.const (.pointer none)) t70 (.pointer none)) (fun t72 h_50 => 
 CondP t72 (
 CallsH Try.prog 44 #[c0] h_50 (fun t74 h_51 => 
 Hp Try.prog false (binS .neq 27 (.tmp 75) (.const (.int .i64 0)) t74 (.int .i64 0)) (fun t76 h_52 => 
 CondP t76 (
 R (.tuple #[(.pointer none), t74]) h_52) (
 Hp Try.prog false (nilS c0) (fun t80 h_53 => 
 Hp Try.prog false (Instr.fieldAt 74 t80 2) (fun t81 h_54 => 
 Hp Try.prog false (Instr.loadAt 3 t81) (fun t82 h_55 => 
 Hp Try.prog false (binS .shl 3 (.const (.int .i64 1)) (.tmp 82) (.int .i64 1) t82) (fun t83 h_56 => 
 Hp Try.prog false (Instr.makeSlice 32 t83 t83) (fun t84 h_57 => 
 Hp Try.prog false (Instr.build 79 #[(0, n1), (1, t84)]) (fun t85 h_58 => 
 Hp Try.prog false (Instr.box 79 t85) (fun t86 h_59 => 
 Hp Try.prog true (nilS c0) (fun t89 _ => 
 Hp Try.prog true (Instr.fieldAt 74 t89 0) (fun t90 _ => 
 Hp Try.prog true (Instr.loadAt 24 t90) (fun t91 _ => 
 Hp Try.prog true (nilS c0) (fun t93 _ => 
 Hp Try.prog true (Instr.fieldAt 74 t93 1) (fun t94 _ => 
 Hp Try.prog true (Instr.loadAt 9 t94) (fun t95 _ => 
 CallsH Try.prog 24 #[t91, t95] h_59 (fun t96 h_60 => 
 Hp Try.prog true (Instr.extract t96 0) (fun t97 _ => 
 Hp Try.prog true (Instr.extract t96 1) (fun t98 _ => 
 JoinN 0 (fun (k_19 : Heap → Prop) h_61 =>
 Hp Try.prog false (nilS c0) (fun t101 h_62 => 
 Hp Try.prog false (Instr.fieldAt 74 t101 2) (fun t102 h_63 => 
 Hp Try.prog false (Instr.loadAt 3 t102) (fun t103 h_64 => 
 Hp Try.prog false (binS .shl 2 (.tmp 99) (.tmp 103) n1 t103) (fun t104 h_65 => 
 Hp Try.prog false (binS .lss 2 (.tmp 105) (.tmp 106) t104 t97) (fun t107 h_66 => 
 CondP t107 (
 Hp Try.prog true (nilS c0) (fun t110 _ => 
 Hp Try.prog true (Instr.fieldAt 74 t110 0) (fun t111 _ => 
 Hp Try.prog true (Instr.loadAt 24 t111) (fun t112 _ => 
 Hp Try.prog true (nilS c0) (fun t114 _ => 
 Hp Try.prog true (Instr.fieldAt 74 t114 1) (fun t115 _ => 
 Hp Try.prog true (Instr.loadAt 9 t115) (fun t116 _ => 
 Hp Try.prog true (nilS t86) (fun t119 _ => 
 Hp Try.prog true (Instr.fieldAt 79 t119 1) (fun t120 _ => 
 Hp Try.prog true (Instr.loadAt 32 t120) (fun t121 _ => 
 Hp Try.prog true (Builtin.len_ #[32] 3 #[t121]) (fun t122 _ => 
 CallsH Try.prog 19 #[t112, t116, t104, t122] h_66 (fun t123 h_67 => 
 Hp Try.prog true (Instr.extract t123 0) (fun t124 _ => 
 Hp Try.prog true (Instr.extract t123 1) (fun t125 _ => 
 Hp Try.prog false (nilS t86) (fun t127 h_68 => 
 Hp Try.prog false (Instr.fieldAt 79 t127 1) (fun t128 h_69 => 
 Hp Try.prog false (Instr.loadAt 32 t128) (fun t129 h_70 => 
 Hp Try.prog false (Builtin.copy_ #[32, 32] 3 #[t129, t124]) (fun t131 h_71 => 
 k_19 h_71) h_70 ⟨⟩) h_69 ⟨⟩) h_68 ⟨⟩) h_67 ⟨⟩) #[] ⟨⟩) #[] ⟨⟩) ⟨⟩) #[] ⟨⟩) h_66 ⟨⟩) #[] ⟨⟩) #[] ⟨⟩) h_66 ⟨⟩) #[] ⟨⟩) #[] ⟨⟩) h_66 ⟨⟩) #[] ⟨⟩) #[] ⟨⟩) (
 k_19 h_66) ⟨⟩ ⟨⟩) h_65 ⟨⟩) h_64 ⟨⟩) h_63 ⟨⟩) h_62 ⟨⟩) h_61 ⟨⟩)
 (fun h_72 =>
 Hp Try.prog false (nilS c0) (fun t133 h_73 => 
 Hp Try.prog false (Instr.fieldAt 74 t133 4) (fun t134 h_74 => 
 Hp Try.prog false (Instr.loadAt 69 t134) (fun t135 h_75 => 
 Hp Try.prog false (unitS (Instr.mapUpdate 69 t135 n1 t86)) (fun _ h_76 => 
 Hp Try.prog false (nilS c0) (fun t139 h_77 => 
 Hp Try.prog false (Instr.fieldAt 74 t139 8) (fun t140 h_78 => 
 Hp Try.prog false (Instr.fieldAt 44 t140 1) (fun t141 h_79 => 
 Hp Try.prog false (Instr.loadAt 3 t141) (fun t142 h_80 => 
 Hp Try.prog false (binS .add 3 (.tmp 142) (.const (.int .i64 1)) t142 (.int .i64 1)) (fun t143 h_81 => 
 Hp Try.prog false (nilS c0) (fun t144 h_82 => 
 Hp Try.prog false (Instr.fieldAt 74 t144 8) (fun t145 h_83 => 
 Hp Try.prog false (Instr.fieldAt 44 t145 1) (fun t146 h_84 => 
 Hp Try.prog false (storeS 3 t146 t143) (fun _ h_85 => 
 k_18 t86 h_85) h_84 ⟨⟩) h_83 ⟨⟩) h_82 ⟨⟩) h_81 ⟨⟩) h_80 ⟨⟩) h_79 ⟨⟩) h_78 ⟨⟩) h_77 ⟨⟩) h_76 ⟨⟩) h_75 ⟨⟩) h_74 ⟨⟩) h_73 ⟨⟩) h_72 ⟨⟩) h_60 ⟨⟩ ⟨⟩) #[] ⟨⟩) #[] ⟨⟩) ⟨⟩) h_59 ⟨⟩) #[] ⟨⟩) #[] ⟨⟩) h_59 ⟨⟩) #[] ⟨⟩) #[] ⟨⟩) h_58 ⟨⟩) h_57 ⟨⟩) h_56 ⟨⟩) h_55 ⟨⟩) h_54 ⟨⟩) h_53 ⟨⟩) h_52 ⟨⟩) ⟨⟩ ⟨⟩) h_51 ⟨⟩) ⟨⟩) (
 Hp Try.prog false (nilS c0) (fun t148 h_86 => 
 Hp Try.prog false (Instr.fieldAt 74 t148 8) (fun t149 h_87 => 
 Hp Try.prog false (Instr.fieldAt 44 t149 0) (fun t150 h_88 => 
 Hp Try.prog false (Instr.loadAt 3 t150) (fun t151 h_89 => 
 Hp Try.prog false (binS .add 3 (.tmp 151) (.const (.int .i64 1)) t151 (.int .i64 1)) (fun t152 h_90 => 
 Hp Try.prog false (nilS c0) (fun t153 h_91 => 
 Hp Try.prog false (Instr.fieldAt 74 t153 8) (fun t154 h_92 => 
 Hp Try.prog false (Instr.fieldAt 44 t154 0) (fun t155 h_93 => 
 Hp Try.prog false (storeS 3 t155 t152) (fun _ h_94 => 
 k_18 t70 h_94) h_93 ⟨⟩) h_92 ⟨⟩) h_91 ⟨⟩) h_90 ⟨⟩) h_89 ⟨⟩) h_88 ⟨⟩) h_87 ⟨⟩) h_86 ⟨⟩) h_50 ⟨⟩) ⟨⟩ ⟨⟩) h_49 ⟨⟩)
 (fun p13 h_95 =>
 Hp Try.prog false (nilS c0) (fun t157 h_96 => 
 Hp Try.prog false (Instr.fieldAt 74 t157 7) (fun t158 h_97 => 
 Hp Try.prog false (Instr.loadAt 3 t158) (fun t159 h_98 => 
 Hp Try.prog false (binS .add 3 (.tmp 159) (.const (.int .i64 1)) t159 (.int .i64 1)) (fun t160 h_99 => 
 Hp Try.prog false (nilS c0) (fun t161 h_100 => 
 Hp Try.prog false (Instr.fieldAt 74 t161 7) (fun t162 h_101 => 
 Hp Try.prog false (storeS 3 t162 t160) (fun _ h_102 => 
 Hp Try.prog false (nilS c0) (fun t165 h_103 => 
 Hp Try.prog false (Instr.fieldAt 74 t165 7) (fun t166 h_104 => 
 Hp Try.prog false (Instr.loadAt 3 t166) (fun t167 h_105 => 
 Hp Try.prog false (nilS p13) (fun t168 h_106 => 
 Hp Try.prog false (Instr.fieldAt 79 t168 3) (fun t169 h_107 => 
 Hp Try.prog false (storeS 3 t169 t167) (fun _ h_108 => 
 R (.tuple #[p13, (.int .i64 0)]) h_108) h_107 ⟨⟩) h_106 ⟨⟩) h_105 ⟨⟩) h_104 ⟨⟩) h_103 ⟨⟩) h_102 ⟨⟩) h_101 ⟨⟩) h_100 ⟨⟩) h_99 ⟨⟩) h_98 ⟨⟩) h_97 ⟨⟩) h_96 ⟨⟩) h_95 ⟨⟩) h_48 ⟨⟩ ⟨⟩) h_47 ⟨⟩) h_46 ⟨⟩) h_45 ⟨⟩) h_44 ⟨⟩) ⟨⟩ ⟨⟩) h_43 ⟨⟩) #[] ⟨⟩) #[] ⟨⟩) ⟨⟩) h_42 ⟨⟩) #[] ⟨⟩) #[] ⟨⟩) h_42 ⟨⟩) #[] ⟨⟩) #[] ⟨⟩) ⟨⟩ ⟨⟩) h_41 ⟨⟩) h_39 ⟨⟩ ⟨⟩) h_37 ⟨⟩ ⟨⟩) h_35 ⟨⟩ ⟨⟩) h_33 ⟨⟩ ⟨⟩) h_31 ⟨⟩ ⟨⟩) h_29 ⟨⟩ ⟨⟩) h_27 ⟨⟩ ⟨⟩) h_25 ⟨⟩ ⟨⟩) h_23 ⟨⟩ ⟨⟩) h_22 ⟨⟩) h_20 ⟨⟩ ⟨⟩) h_18 ⟨⟩ ⟨⟩) h_16 ⟨⟩ ⟨⟩) h_14 ⟨⟩ ⟨⟩) h_12 ⟨⟩ ⟨⟩) h_10 ⟨⟩ ⟨⟩) h_8 ⟨⟩ ⟨⟩) h_7 ⟨⟩) h_5 ⟨⟩ ⟨⟩) h_3 ⟨⟩ ⟨⟩) h_2 ⟨⟩) ⟨⟩ ⟨⟩) h_1 ⟨⟩) ⟨⟩

theorem n25_calls {c0 n1 at2 k3 : Value} {R : Value → Heap → Prop} {h : Heap} (H : n25 c0 n1 at2 k3 R h) : CallsH Try.prog 25 #[c0, n1, at2, k3] h R ⟨⟩ :=
 callsH_of_eq Try.follow (.n none .l (.n none .l (.n none .l (.n none .l (.n none .l (.n none .l (.n (some [14]) (.n none .l (.n none (.n none .l (.n none .l (.n none .l (.n (some []) .l .l)))) .l)) .l))))))) Try.func25 (by kernel_rfl) (by kernel_rfl) (by kernel_rfl) H

/-- (*palimpsest/cache.Cache).ask -/
def n26 (c0 n1 : Value) (R : Value → Heap → Prop) (h : Heap) : Prop :=
 Hp Try.prog false (binS .eql 26 (.tmp 6) (.const (.pointer none)) c0 (.pointer none)) (fun t7 h_1 => 
 Join1 (fun k h_2 => guardP t7 false (k c0 h_2) (k undef h_2) ⟨⟩ ⟨⟩) (fun t9 h_3 => 
 Join1 (fun k_1 h_4 => guardP t7 false (Hp Try.prog false (nilS t9) k_1 h_4 ⟨⟩) (k_1 undef h_4) ⟨⟩ ⟨⟩) (fun t10 h_5 => 
 Join1 (fun k_2 h_6 => guardP t7 false (Hp Try.prog false (Instr.fieldAt 74 t10 0) k_2 h_6 ⟨⟩) (k_2 undef h_6) ⟨⟩ ⟨⟩) (fun t11 h_7 => 
 Join1 (fun k_3 h_8 => guardP t7 false (Hp Try.prog false (Instr.loadAt 24 t11) k_3 h_8 ⟨⟩) (k_3 undef h_8) ⟨⟩ ⟨⟩) (fun t12 h_9 => 
 Join1 (fun k_4 h_10 => guardP t7 false (Hp Try.prog false (binS .eql 24 (.tmp 12) (.const (.pointer none)) t12 (.pointer none)) k_4 h_10 ⟨⟩) (k_4 undef h_10) ⟨⟩ ⟨⟩) (fun t13 h_11 => 
 Hp Try.prog false (pickS t7 (.bool true) t13) (fun t14 h_12 => 
 CondP t14 (
 R (.int .i64 1) h_12) (
 Hp Try.prog false (binS .lss 2 (.tmp 16) (.const (.int .i64 0)) n1 (.int .i64 0)) (fun t17 h_13 => 
 Join1 (fun k_5 h_14 => guardP t17 false (k_5 n1 h_14) (k_5 undef h_14) ⟨⟩ ⟨⟩) (fun t19 h_15 => 
 Join1 (fun k_6 h_16 => guardP t17 false (k_6 c0 h_16) (k_6 undef h_16) ⟨⟩ ⟨⟩) (fun t20 h_17 => 
 Join1 (fun k_7 h_18 => guardP t17 false (Hp Try.prog false (nilS t20) k_7 h_18 ⟨⟩) (k_7 undef h_18) ⟨⟩ ⟨⟩) (fun t21 h_19 => 
 Join1 (fun k_8 h_20 => guardP t17 false (Hp Try.prog false (Instr.fieldAt 74 t21 2) k_8 h_20 ⟨⟩) (k_8 undef h_20) ⟨⟩ ⟨⟩) (fun t22 h_21 => 
 Join1 (fun k_9 h_22 => guardP t17 false (Hp Try.prog false (Instr.loadAt 3 t22) k_9 h_22 ⟨⟩) (k_9 undef h_22) ⟨⟩ ⟨⟩) (fun t23 h_23 => 
 Join1 (fun k_10 h_24 => guardP t17 false (Hp Try.prog false (binS .shr 2 (.const (.int .i64 268435456)) (.tmp 23) (.int .i64 268435456) t23) k_10 h_24 ⟨⟩) (k_10 undef h_24) ⟨⟩ ⟨⟩) (fun t24 h_25 => 
 Join1 (fun k_11 h_26 => guardP t17 false (Hp Try.prog false (binS .geq 2 (.tmp 19) (.tmp 24) t19 t24) k_11 h_26 ⟨⟩) (k_11 undef h_26) ⟨⟩ ⟨⟩) (fun t25 h_27 => 
 Hp Try.prog false (pickS t17 (.bool true) t25) (fun t26 h_28 => 
 CondP t26 (
 R (.int .i64 2) h_28) (
 R (.int .i64 0) h_28) ⟨⟩ ⟨⟩) h_27 ⟨⟩) h_25 ⟨⟩ ⟨⟩) h_23 ⟨⟩ ⟨⟩) h_21 ⟨⟩ ⟨⟩) h_19 ⟨⟩ ⟨⟩) h_17 ⟨⟩ ⟨⟩) h_15 ⟨⟩ ⟨⟩) h_13 ⟨⟩ ⟨⟩) h_12 ⟨⟩) ⟨⟩ ⟨⟩) h_11 ⟨⟩) h_9 ⟨⟩ ⟨⟩) h_7 ⟨⟩ ⟨⟩) h_5 ⟨⟩ ⟨⟩) h_3 ⟨⟩ ⟨⟩) h_1 ⟨⟩ ⟨⟩) h ⟨⟩

theorem n26_calls {c0 n1 : Value} {R : Value → Heap → Prop} {h : Heap} (H : n26 c0 n1 R h) : CallsH Try.prog 26 #[c0, n1] h R ⟨⟩ :=
 callsH_of_eq Try.follow .l Try.func26 (by kernel_rfl) (by kernel_rfl) (by kernel_rfl) H

/-- (*palimpsest/cache.Cache).reaches -/
def n27 (c0 n1 other2 : Value) (R : Value → Heap → Prop) (h : Heap) : Prop :=
 Hp Try.prog false (Instr.box 26 c0) (fun c3 h_1 => 
 Hp Try.prog false (Instr.box 2 other2) (fun other5 h_2 => 
 Hp Try.prog false (Instr.makeMap 71 none) (fun t9 h_3 => 
 Hp Try.prog false (Instr.alloc 71 true undef) (fun seen7 h_4 => 
 Hp Try.prog false (storeS 71 seen7 t9) (fun _ h_5 => 
 Hp Try.prog false (Instr.alloc 81 true undef) (fun down8 h_6 => 
 Hp Try.prog false (pure (.func (.func 45) #[] #[c3, other5, seen7, down8])) (fun t10 h_7 => 
 Hp Try.prog false (storeS 81 down8 t10) (fun _ h_8 => 
 Hp Try.prog false (Instr.loadAt 81 down8) (fun t11 h_9 => 
 InvokeH Try.prog t11 #[n1] h_9 (fun t13 h_10 => 
 R t13 h_10) ⟨⟩) h_8 ⟨⟩) h_7 ⟨⟩) h_6 ⟨⟩) h_5 ⟨⟩) h_4 ⟨⟩) h_3 ⟨⟩) h_2 ⟨⟩) h_1 ⟨⟩) h ⟨⟩

theorem n27_calls {c0 n1 other2 : Value} {R : Value → Heap → Prop} {h : Heap} (H : n27 c0 n1 other2 R h) : CallsH Try.prog 27 #[c0, n1, other2] h R ⟨⟩ :=
 callsH_of_eq Try.follow .l Try.func27 (by kernel_rfl) (by kernel_rfl) (by kernel_rfl) H

/-- (*palimpsest/cache.Cache).open -/
def n28 (c0 n1 : Value) (R : Value → Heap → Prop) (h : Heap) : Prop :=
 Hp Try.prog false (nilS c0) (fun t7 h_1 => 
 Hp Try.prog false (Instr.fieldAt 74 t7 4) (fun t8 h_2 => 
 Hp Try.prog false (Instr.loadAt 69 t8) (fun t9 h_3 => 
 Hp Try.prog false (Instr.lookup 69 t9 n1 false) (fun t11 h_4 => 
 Hp Try.prog false (binS .neq 75 (.tmp 12) (.const (.pointer none)) t11 (.pointer none)) (fun t13 h_5 => 
 Join1 (fun k h_6 => guardP t13 true (k t11 h_6) (k undef h_6) ⟨⟩ ⟨⟩) (fun t15 h_7 => 
 Join1 (fun k_1 h_8 => guardP t13 true (Hp Try.prog false (nilS t15) k_1 h_8 ⟨⟩) (k_1 undef h_8) ⟨⟩ ⟨⟩) (fun t16 h_9 => 
 Join1 (fun k_2 h_10 => guardP t13 true (Hp Try.prog false (Instr.fieldAt 79 t16 2) k_2 h_10 ⟨⟩) (k_2 undef h_10) ⟨⟩ ⟨⟩) (fun t17 h_11 => 
 Join1 (fun k_3 h_12 => guardP t13 true (Hp Try.prog false (Instr.loadAt 4 t17) k_3 h_12 ⟨⟩) (k_3 undef h_12) ⟨⟩ ⟨⟩) (fun t18 h_13 => 
 Hp Try.prog false (pickS t13 t18 (.bool false)) (fun t19 h_14 => 
 Join1 (fun k_4 h_15 => guardP t19 false (k_4 c0 h_15) (k_4 undef h_15) ⟨⟩ ⟨⟩) (fun t21 h_16 => 
 Join1 (fun k_5 h_17 => guardP t19 false (Hp Try.prog false (nilS t21) k_5 h_17 ⟨⟩) (k_5 undef h_17) ⟨⟩ ⟨⟩) (fun t22 h_18 => 
 Join1 (fun k_6 h_19 => guardP t19 false (Hp Try.prog false (Instr.fieldAt 74 t22 5) k_6 h_19 ⟨⟩) (k_6 undef h_19) ⟨⟩ ⟨⟩) (fun t23 h_20 => 
 Join1 (fun k_7 h_21 => guardP t19 false (Hp Try.prog false (Instr.loadAt 71 t23) k_7 h_21 ⟨⟩) (k_7 undef h_21) ⟨⟩ ⟨⟩) (fun t24 h_22 => 
 Join1 (fun k_8 h_23 => guardP t19 false (k_8 n1 h_23) (k_8 undef h_23) ⟨⟩ ⟨⟩) (fun t25 h_24 => 
 Join1 (fun k_9 h_25 => guardP t19 false (Hp Try.prog false (Instr.lookup 71 t24 t25 false) k_9 h_25 ⟨⟩) (k_9 undef h_25) ⟨⟩ ⟨⟩) (fun t26 h_26 => 
 Hp Try.prog false (pickS t19 (.bool true) t26) (fun t27 h_27 => 
 R t27 h_27) h_26 ⟨⟩) h_24 ⟨⟩ ⟨⟩) h_22 ⟨⟩ ⟨⟩) h_20 ⟨⟩ ⟨⟩) h_18 ⟨⟩ ⟨⟩) h_16 ⟨⟩ ⟨⟩) h_14 ⟨⟩ ⟨⟩) h_13 ⟨⟩) h_11 ⟨⟩ ⟨⟩) h_9 ⟨⟩ ⟨⟩) h_7 ⟨⟩ ⟨⟩) h_5 ⟨⟩ ⟨⟩) h_4 ⟨⟩) h_3 ⟨⟩) h_2 ⟨⟩) h_1 ⟨⟩) h ⟨⟩

theorem n28_calls {c0 n1 : Value} {R : Value → Heap → Prop} {h : Heap} (H : n28 c0 n1 R h) : CallsH Try.prog 28 #[c0, n1] h R ⟨⟩ :=
 callsH_of_eq Try.follow .l Try.func28 (by kernel_rfl) (by kernel_rfl) (by kernel_rfl) H

/-- (*palimpsest/cache.Cache).back -/
def n29 (c0 n1 : Value) (R : Value → Heap → Prop) (h : Heap) : Prop :=
 Hp Try.prog false (nilS c0) (fun t13 h_1 => 
 Hp Try.prog false (Instr.fieldAt 74 t13 4) (fun t14 h_2 => 
 Hp Try.prog false (Instr.loadAt 69 t14) (fun t15 h_3 => 
 Hp Try.prog false (Instr.lookup 69 t15 n1 false) (fun t17 h_4 => 
 Hp Try.prog false (binS .eql 75 (.tmp 18) (.const (.pointer none)) t17 (.pointer none)) (fun t19 h_5 => 
 Join1 (fun k h_6 => guardP t19 false (k t17 h_6) (k undef h_6) ⟨⟩ ⟨⟩) (fun t21 h_7 => 
 Join1 (fun k_1 h_8 => guardP t19 false (Hp Try.prog false (nilS t21) k_1 h_8 ⟨⟩) (k_1 undef h_8) ⟨⟩ ⟨⟩) (fun t22 h_9 => 
 Join1 (fun k_2 h_10 => guardP t19 false (Hp Try.prog false (Instr.fieldAt 79 t22 2) k_2 h_10 ⟨⟩) (k_2 undef h_10) ⟨⟩ ⟨⟩) (fun t23 h_11 => 
 Join1 (fun k_3 h_12 => guardP t19 false (Hp Try.prog false (Instr.loadAt 4 t23) k_3 h_12 ⟨⟩) (k_3 undef h_12) ⟨⟩ ⟨⟩) (fun t24 h_13 => 
 Join1 (fun k_4 h_14 => guardP t19 false (Hp Try.prog false (Op.unary .not t24) k_4 h_14 ⟨⟩) (k_4 undef h_14) ⟨⟩ ⟨⟩) (fun t25 h_15 => 
 Hp Try.prog false (pickS t19 (.bool true) t25) (fun t26 h_16 => 
 CondP t26 (
 R (.int .i64 0) h_16) (
 Hp Try.prog false (pure (.func (.func 29) #[c0] #[])) (fun t28 h_17 => 
 CallsH Try.prog 30 #[c0, n1] h_17 (fun t31 h_18 => 
 Hp Try.prog false (Builtin.len_ #[38] 3 #[t31]) (fun t32 h_19 => 
 LoopC 1 (fun (X : Value → Heap → Prop) => fun t33 h_20 =>
 Hp Try.prog false (binS .lss 3 (.tmp 33) (.tmp 32) t33 t32) (fun t34 h_21 => 
 CondP t34 (
 Hp Try.prog false (Instr.indexAt 38 t31 t33) (fun t35 h_22 => 
 Hp Try.prog false (Instr.loadAt 2 t35) (fun t36 h_23 => 
 InvokeH Try.prog t28 #[t36] h_23 (fun t39 h_24 => 
 Hp Try.prog false (binS .neq 27 (.tmp 40) (.const (.int .i64 0)) t39 (.int .i64 0)) (fun t41 h_25 => 
 CondP t41 (
 R t39 h_25) (
 Hp Try.prog false (binS .add 3 (.tmp 33) (.const (.int .i64 1)) t33 (.int .i64 1)) (fun t43 h_26 => 
 X t43 h_26) h_25 ⟨⟩) ⟨⟩ ⟨⟩) h_24 ⟨⟩) ⟨⟩) h_22 ⟨⟩) h_21 ⟨⟩) (
 JoinN 0 (fun (k_5 : Heap → Prop) h_27 =>
 CallsH Try.prog 30 #[c0, n1] h_27 (fun t46 h_28 => 
 Hp Try.prog false (Builtin.len_ #[38] 3 #[t46]) (fun t47 h_29 => 
 Hp Try.prog false (binS .gtr 3 (.tmp 47) (.const (.int .i64 0)) t47 (.int .i64 0)) (fun t48 h_30 => 
 CondP t48 (
 CallsH Try.prog 35 #[c0] h_30 (fun t50 h_31 => 
 Hp Try.prog false (binS .neq 27 (.tmp 51) (.const (.int .i64 0)) t50 (.int .i64 0)) (fun t52 h_32 => 
 CondP t52 (
 R t50 h_32) (
 k_5 h_32) ⟨⟩ ⟨⟩) h_31 ⟨⟩) ⟨⟩) (
 k_5 h_30) ⟨⟩ ⟨⟩) h_29 ⟨⟩) h_28 ⟨⟩) ⟨⟩)
 (fun h_33 =>
 Hp Try.prog true (nilS c0) (fun t55 _ => 
 Hp Try.prog true (Instr.fieldAt 74 t55 0) (fun t56 _ => 
 Hp Try.prog true (Instr.loadAt 24 t56) (fun t57 _ => 
 Hp Try.prog true (nilS c0) (fun t59 _ => 
 Hp Try.prog true (Instr.fieldAt 74 t59 1) (fun t60 _ => 
 Hp Try.prog true (Instr.loadAt 9 t60) (fun t61 _ => 
 Hp Try.prog true (nilS c0) (fun t64 _ => 
 Hp Try.prog true (Instr.fieldAt 74 t64 2) (fun t65 _ => 
 Hp Try.prog true (Instr.loadAt 3 t65) (fun t66 _ => 
 Hp Try.prog true (binS .shl 2 (.tmp 62) (.tmp 66) n1 t66) (fun t67 _ => 
 Hp Try.prog true (nilS t17) (fun t69 _ => 
 Hp Try.prog true (Instr.fieldAt 79 t69 1) (fun t70 _ => 
 Hp Try.prog true (Instr.loadAt 32 t70) (fun t71 _ => 
 CallsH Try.prog 46 #[t57, t61, t67, t71] h_33 (fun t72 h_34 => 
 Hp Try.prog false (binS .neq 27 (.tmp 73) (.const (.int .i64 0)) t72 (.int .i64 0)) (fun t74 h_35 => 
 CondP t74 (
 R t72 h_35) (
 Hp Try.prog false (nilS t17) (fun t77 h_36 => 
 Hp Try.prog false (Instr.fieldAt 79 t77 2) (fun t78 h_37 => 
 Hp Try.prog false (storeS 4 t78 (.bool false)) (fun _ h_38 => 
 Hp Try.prog false (nilS c0) (fun t80 h_39 => 
 Hp Try.prog false (Instr.fieldAt 74 t80 5) (fun t81 h_40 => 
 Hp Try.prog false (Instr.loadAt 71 t81) (fun t82 h_41 => 
 Hp Try.prog false (unitS (Instr.mapUpdate 71 t82 n1 (.bool true))) (fun _ h_42 => 
 Hp Try.prog false (nilS c0) (fun t85 h_43 => 
 Hp Try.prog false (Instr.fieldAt 74 t85 6) (fun t86 h_44 => 
 Hp Try.prog false (Instr.loadAt 72 t86) (fun t87 h_45 => 
 Hp Try.prog false (Builtin.delete_ #[72, 2] 0 #[t87, n1]) (fun _ h_46 => 
 Hp Try.prog false (nilS c0) (fun t90 h_47 => 
 Hp Try.prog false (Instr.fieldAt 74 t90 8) (fun t91 h_48 => 
 Hp Try.prog false (Instr.fieldAt 44 t91 2) (fun t92 h_49 => 
 Hp Try.prog false (Instr.loadAt 3 t92) (fun t93 h_50 => 
 Hp Try.prog false (binS .add 3 (.tmp 93) (.const (.int .i64 1)) t93 (.int .i64 1)) (fun t94 h_51 => 
 Hp Try.prog false (nilS c0) (fun t95 h_52 => 
 Hp Try.prog false (Instr.fieldAt 74 t95 8) (fun t96 h_53 => 
 Hp Try.prog false (Instr.fieldAt 44 t96 2) (fun t97 h_54 => 
 Hp Try.prog false (storeS 3 t97 t94) (fun _ h_55 => 
 R (.int .i64 0) h_55) h_54 ⟨⟩) h_53 ⟨⟩) h_52 ⟨⟩) h_51 ⟨⟩) h_50 ⟨⟩) h_49 ⟨⟩) h_48 ⟨⟩) h_47 ⟨⟩) h_46 ⟨⟩) h_45 ⟨⟩) h_44 ⟨⟩) h_43 ⟨⟩) h_42 ⟨⟩) h_41 ⟨⟩) h_40 ⟨⟩) h_39 ⟨⟩) h_38 ⟨⟩) h_37 ⟨⟩) h_36 ⟨⟩) h_35 ⟨⟩) ⟨⟩ ⟨⟩) h_34 ⟨⟩) ⟨⟩) h_33 ⟨⟩) #[] ⟨⟩) #[] ⟨⟩) #[] ⟨⟩) h_33 ⟨⟩) #[] ⟨⟩) #[] ⟨⟩) h_33 ⟨⟩) #[] ⟨⟩) #[] ⟨⟩) h_33 ⟨⟩) #[] ⟨⟩) #[] ⟨⟩) h_21 ⟨⟩ ⟨⟩) ⟨⟩ ⟨⟩) h_20 ⟨⟩) [(.int .i64 0)] h_19 ⟨⟩) h_18 ⟨⟩) ⟨⟩) h_16 ⟨⟩) ⟨⟩ ⟨⟩) h_15 ⟨⟩) h_13 ⟨⟩ ⟨⟩) h_11 ⟨⟩ ⟨⟩) h_9 ⟨⟩ ⟨⟩) h_7 ⟨⟩ ⟨⟩) h_5 ⟨⟩ ⟨⟩) h_4 ⟨⟩) h_3 ⟨⟩) h_2 ⟨⟩) h_1 ⟨⟩) h ⟨⟩

theorem n29_calls {c0 n1 : Value} {R : Value → Heap → Prop} {h : Heap} (H : n29 c0 n1 R h) : CallsH Try.prog 29 #[c0, n1] h R ⟨⟩ :=
 callsH_of_eq Try.follow (.n none .l (.n none .l (.n none .l (.n none .l (.n none (.n none .l (.n none (.n (some [34]) .l .l) .l)) (.n (some []) .l .l)))))) Try.func29 (by kernel_rfl) (by kernel_rfl) (by kernel_rfl) H

/-- (*palimpsest/cache.Cache).behind -/
def n30 (c0 n1 : Value) (R : Value → Heap → Prop) (h : Heap) : Prop :=
 Hp Try.prog false (nilS c0) (fun t8 h_1 => 
 Hp Try.prog false (Instr.fieldAt 74 t8 6) (fun t9 h_2 => 
 Hp Try.prog false (Instr.loadAt 72 t9) (fun t10 h_3 => 
 Hp Try.prog false (Instr.lookup 72 t10 n1 false) (fun t12 h_4 => 
 Hp Try.prog false (Instr.range 71 t12) (fun t13 h_5 => 
 LoopC 1 (fun (X : Value → Heap → Prop) => fun l5 h_6 =>
 Hp Try.prog false (Instr.next t13 false 0) (fun t14 h_7 => 
 Hp Try.prog false (Instr.extract t14 0) (fun t15 h_8 => 
 CondP t15 (
 JoinN 1 (fun (k : Value → Heap → Prop) h_9 =>
 Hp Try.prog false (Instr.entry t13) (fun t16 h_10 => 
 Hp Try.prog false (Instr.extract t16 0) (fun t17 h_11 => 
 CallsH Try.prog 28 #[c0, t17] h_11 (fun t20 h_12 => 
 CondP t20 (
 Hp Try.prog false (Instr.buildSlice 38 1 #[(0, t17)]) (fun t23 h_13 => 
 Hp Try.prog false (Builtin.append_ #[38, 38] 38 #[l5, t23]) (fun t24 h_14 => 
 k t24 h_14) h_13 ⟨⟩) h_12 ⟨⟩) (
 k l5 h_12) ⟨⟩ ⟨⟩) ⟨⟩) h_10 ⟨⟩) h_9 ⟨⟩)
 (fun l5_1 h_15 =>
 X l5_1 h_15) h_8 ⟨⟩ ⟨⟩) (
 CallsH Try.prog 47 #[l5] h_8 (fun t26 h_16 => 
 R l5 h_16) ⟨⟩) ⟨⟩ ⟨⟩) h_7 ⟨⟩) h_6 ⟨⟩) [(.slice none 0 0)] h_5 ⟨⟩) h_4 ⟨⟩) h_3 ⟨⟩) h_2 ⟨⟩) h_1 ⟨⟩) h ⟨⟩

theorem n30_calls {c0 n1 : Value} {R : Value → Heap → Prop} {h : Heap} (H : n30 c0 n1 R h) : CallsH Try.prog 30 #[c0, n1] h R ⟨⟩ :=
 callsH_of_eq Try.follow (.n none .l (.n none .l (.n none (.n none .l (.n none (.n (some [6]) (.n none .l (.n none .l (.n (some [6]) .l .l))) .l) .l)) .l))) Try.func30 (by kernel_rfl) (by kernel_rfl) (by kernel_rfl) H

/-- slices.Clone[[]byte,byte] -/
def n31 (s0 : Value) (R : Value → Heap → Prop) (h : Heap) : Prop :=
 Hp Try.prog false (binS .eql 32 (.tmp 3) (.const (.slice none 0 0)) s0 (.slice none 0 0)) (fun t4 h_1 => 
 CondP t4 (
 R (.slice none 0 0) h_1) (
 Hp Try.prog false (Instr.buildSlice 32 0 #[]) (fun t5 h_2 => 
 Hp Try.prog false (Builtin.append_ #[32, 32] 32 #[t5, s0]) (fun t7 h_3 => 
 R t7 h_3) h_2 ⟨⟩) h_1 ⟨⟩) ⟨⟩ ⟨⟩) h ⟨⟩

theorem n31_calls {s0 : Value} {R : Value → Heap → Prop} {h : Heap} (H : n31 s0 R h) : CallsH Try.prog 31 #[s0] h R ⟨⟩ :=
 callsH_of_eq Try.follow .l Try.func31 (by kernel_rfl) (by kernel_rfl) (by kernel_rfl) H

/-- slices.Values[[]int64,int64] -/
def n32 (s0 : Value) (R : Value → Heap → Prop) (h : Heap) : Prop :=
 Hp Try.prog false (Instr.box 38 s0) (fun s1 h_1 => 
 Hp Try.prog false (pure (.func (.func 48) #[] #[s1])) (fun t3 h_2 => 
 R t3 h_2) h_1 ⟨⟩) h ⟨⟩

theorem n32_calls {s0 : Value} {R : Value → Heap → Prop} {h : Heap} (H : n32 s0 R h) : CallsH Try.prog 32 #[s0] h R ⟨⟩ :=
 callsH_of_eq Try.follow .l Try.func32 (by kernel_rfl) (by kernel_rfl) (by kernel_rfl) H

/-- slices.Sorted[int64] -/
def n33 (seq0 : Value) (R : Value → Heap → Prop) (h : Heap) : Prop :=
 CallsH Try.prog 49 #[seq0] h (fun t5 h_1 => 
 CallsH Try.prog 47 #[t5] h_1 (fun t7 h_2 => 
 R t5 h_2) ⟨⟩) ⟨⟩

theorem n33_calls {seq0 : Value} {R : Value → Heap → Prop} {h : Heap} (H : n33 seq0 R h) : CallsH Try.prog 33 #[seq0] h R ⟨⟩ :=
 callsH_of_eq Try.follow .l Try.func33 (by kernel_rfl) (by kernel_rfl) (by kernel_rfl) H

/-- maps.Keys[map[int64]*palimpsest/cache.page,int64,*palimpsest/cache.page] -/
def n34 (m0 : Value) (R : Value → Heap → Prop) (h : Heap) : Prop :=
 Hp Try.prog false (Instr.box 69 m0) (fun m1 h_1 => 
 Hp Try.prog false (pure (.func (.func 50) #[] #[m1])) (fun t3 h_2 => 
 R t3 h_2) h_1 ⟨⟩) h ⟨⟩

theorem n34_calls {m0 : Value} {R : Value → Heap → Prop} {h : Heap} (H : n34 m0 R h) : CallsH Try.prog 34 #[m0] h R ⟨⟩ :=
 callsH_of_eq Try.follow .l Try.func34 (by kernel_rfl) (by kernel_rfl) (by kernel_rfl) H

/-- (*palimpsest/cache.Cache).flush -/
def n35 (c0 : Value) (R : Value → Heap → Prop) (h : Heap) : Prop :=
 Hp Try.prog true (nilS c0) (fun t5 _ => 
 Hp Try.prog true (Instr.fieldAt 74 t5 0) (fun t6 _ => 
 Hp Try.prog true (Instr.loadAt 24 t6) (fun t7 _ => 
 Hp Try.prog true (nilS c0) (fun t9 _ => 
 Hp Try.prog true (Instr.fieldAt 74 t9 1) (fun t10 _ => 
 Hp Try.prog true (Instr.loadAt 9 t10) (fun t11 _ => 
 CallsH Try.prog 51 #[t7, t11] h (fun t12 h_1 => 
 JoinN 0 (fun (k : Heap → Prop) h_2 =>
 Hp Try.prog false (binS .eql 27 (.tmp 13) (.const (.int .i64 0)) t12 (.int .i64 0)) (fun t14 h_3 => 
 CondP t14 (
 Hp Try.prog false (nilS c0) (fun t16 h_4 => 
 Hp Try.prog false (Instr.fieldAt 74 t16 8) (fun t17 h_5 => 
 Hp Try.prog false (Instr.fieldAt 44 t17 3) (fun t18 h_6 => 
 Hp Try.prog false (Instr.loadAt 3 t18) (fun t19 h_7 => 
 Hp Try.prog false (binS .add 3 (.tmp 19) (.const (.int .i64 1)) t19 (.int .i64 1)) (fun t20 h_8 => 
 Hp Try.prog false (nilS c0) (fun t21 h_9 => 
 Hp Try.prog false (Instr.fieldAt 74 t21 8) (fun t22 h_10 => 
 Hp Try.prog false (Instr.fieldAt 44 t22 3) (fun t23 h_11 => 
 Hp Try.prog false (storeS 3 t23 t20) (fun _ h_12 => 
 Hp Try.prog false (nilS c0) (fun t25 h_13 => 
 Hp Try.prog false (Instr.fieldAt 74 t25 5) (fun t26 h_14 => 
 Hp Try.prog false (Instr.loadAt 71 t26) (fun t27 h_15 => 
 Hp Try.prog false (Builtin.clear_ #[71] 0 #[t27]) (fun _ h_16 => 
 CallsH Try.prog 52 #[c0] h_16 (fun t29 h_17 => 
 k h_17) ⟨⟩) h_15 ⟨⟩) h_14 ⟨⟩) h_13 ⟨⟩) h_12 ⟨⟩) h_11 ⟨⟩) h_10 ⟨⟩) h_9 ⟨⟩) h_8 ⟨⟩) h_7 ⟨⟩) h_6 ⟨⟩) h_5 ⟨⟩) h_4 ⟨⟩) h_3 ⟨⟩) (
 k h_3) ⟨⟩ ⟨⟩) h_2 ⟨⟩)
 (fun h_18 =>
 R t12 h_18) h_1 ⟨⟩ ⟨⟩) ⟨⟩) h ⟨⟩) #[] ⟨⟩) #[] ⟨⟩) h ⟨⟩) #[] ⟨⟩) #[] ⟨⟩

theorem n35_calls {c0 : Value} {R : Value → Heap → Prop} {h : Heap} (H : n35 c0 R h) : CallsH Try.prog 35 #[c0] h R ⟨⟩ :=
 callsH_of_eq Try.follow (.n none .l (.n none .l (.n (some []) .l .l))) Try.func35 (by kernel_rfl) (by kernel_rfl) (by kernel_rfl) H

/-- (*palimpsest/store.Store).find -/
def n36 (s0 name1 : Value) (R : Value → Heap → Prop) (h : Heap) : Prop :=
 CallsH Try.prog 40 #[s0, name1] h (fun t11 h_1 => 
 Hp Try.prog false (binS .neq 27 (.tmp 12) (.const (.int .i64 0)) t11 (.int .i64 0)) (fun t13 h_2 => 
 CondP t13 (
 R (.tuple #[(.pointer none), t11]) h_2) (
 Hp Try.prog false (nilS s0) (fun t17 h_3 => 
 Hp Try.prog false (Instr.fieldAt 100 t17 0) (fun t18 h_4 => 
 Hp Try.prog false (Instr.loadAt 94 t18) (fun t19 h_5 => 
 Hp Try.prog false (Instr.lookup 94 t19 name1 true) (fun t21 h_6 => 
 Hp Try.prog false (Instr.extract t21 0) (fun t22 h_7 => 
 Hp Try.prog false (Instr.extract t21 1) (fun t23 h_8 => 
 Hp Try.prog false (Op.unary .not t23) (fun t25 h_9 => 
 CondP t25 (
 R (.tuple #[(.pointer none), (.int .i64 7)]) h_9) (
 R (.tuple #[t22, (.int .i64 0)]) h_9) ⟨⟩ ⟨⟩) h_8 ⟨⟩) h_7 ⟨⟩) h_6 ⟨⟩) h_5 ⟨⟩) h_4 ⟨⟩) h_3 ⟨⟩) h_2 ⟨⟩) ⟨⟩ ⟨⟩) h_1 ⟨⟩) ⟨⟩

theorem n36_calls {s0 name1 : Value} {R : Value → Heap → Prop} {h : Heap} (H : n36 s0 name1 R h) : CallsH Try.prog 36 #[s0, name1] h R ⟨⟩ :=
 callsH_of_eq Try.follow .l Try.func36 (by kernel_rfl) (by kernel_rfl) (by kernel_rfl) H

/-- bytes.Clone -/
def n37 (b0 : Value) (R : Value → Heap → Prop) (h : Heap) : Prop :=
 Hp Try.prog false (binS .eql 32 (.tmp 3) (.const (.slice none 0 0)) b0 (.slice none 0 0)) (fun t4 h_1 => 
 CondP t4 (
 R (.slice none 0 0) h_1) (
 Hp Try.prog false (Instr.buildSlice 32 0 #[]) (fun t5 h_2 => 
 Hp Try.prog false (Builtin.append_ #[32, 32] 32 #[t5, b0]) (fun t7 h_3 => 
 R t7 h_3) h_2 ⟨⟩) h_1 ⟨⟩) ⟨⟩ ⟨⟩) h ⟨⟩

theorem n37_calls {b0 : Value} {R : Value → Heap → Prop} {h : Heap} (H : n37 b0 R h) : CallsH Try.prog 37 #[b0] h R ⟨⟩ :=
 callsH_of_eq Try.follow .l Try.func37 (by kernel_rfl) (by kernel_rfl) (by kernel_rfl) H

/-- palimpsest/store.right -/
def n38 (fates0 : Value) (R : Value → Heap → Prop) (h : Heap) : Prop :=
 CallsH Try.prog 53 #[fates0, (.func (.func 54) #[] #[])] h (fun t4 h_1 => 
 Hp Try.prog false (Op.unary .not t4) (fun t5 h_2 => 
 R t5 h_2) h_1 ⟨⟩) ⟨⟩

theorem n38_calls {fates0 : Value} {R : Value → Heap → Prop} {h : Heap} (H : n38 fates0 R h) : CallsH Try.prog 38 #[fates0] h R ⟨⟩ :=
 callsH_of_eq Try.follow .l Try.func38 (by kernel_rfl) (by kernel_rfl) (by kernel_rfl) H

/-- slices.Clone[[]palimpsest/api.Fate,palimpsest/api.Fate] -/
def n39 (s0 : Value) (R : Value → Heap → Prop) (h : Heap) : Prop :=
 Hp Try.prog false (binS .eql 61 (.tmp 3) (.const (.slice none 0 0)) s0 (.slice none 0 0)) (fun t4 h_1 => 
 CondP t4 (
 R (.slice none 0 0) h_1) (
 Hp Try.prog false (Instr.buildSlice 61 0 #[]) (fun t5 h_2 => 
 Hp Try.prog false (Builtin.append_ #[61, 61] 61 #[t5, s0]) (fun t7 h_3 => 
 R t7 h_3) h_2 ⟨⟩) h_1 ⟨⟩) ⟨⟩ ⟨⟩) h ⟨⟩

theorem n39_calls {s0 : Value} {R : Value → Heap → Prop} {h : Heap} (H : n39 s0 R h) : CallsH Try.prog 39 #[s0] h R ⟨⟩ :=
 callsH_of_eq Try.follow .l Try.func39 (by kernel_rfl) (by kernel_rfl) (by kernel_rfl) H

/-- (*palimpsest/store.Store).asked -/
def n40 (s0 name1 : Value) (R : Value → Heap → Prop) (h : Heap) : Prop :=
 CallsH Try.prog 43 #[s0] h (fun t7 h_1 => 
 CondP t7 (
 R (.int .i64 1) h_1) (
 Hp Try.prog false (Builtin.len_ #[9] 3 #[name1]) (fun t10 h_2 => 
 Hp Try.prog false (binS .lss 3 (.tmp 10) (.const (.int .i64 1)) t10 (.int .i64 1)) (fun t11 h_3 => 
 Join1 (fun k h_4 => guardP t11 false (k name1 h_4) (k undef h_4) ⟨⟩ ⟨⟩) (fun t13 h_5 => 
 Join1 (fun k_1 h_6 => guardP t11 false (Hp Try.prog false (Builtin.len_ #[9] 3 #[t13]) k_1 h_6 ⟨⟩) (k_1 undef h_6) ⟨⟩ ⟨⟩) (fun t14 h_7 => 
 Join1 (fun k_2 h_8 => guardP t11 false (Hp Try.prog false (binS .gtr 3 (.tmp 14) (.const (.int .i64 64)) t14 (.int .i64 64)) k_2 h_8 ⟨⟩) (k_2 undef h_8) ⟨⟩ ⟨⟩) (fun t15 h_9 => 
 Hp Try.prog false (pickS t11 (.bool true) t15) (fun t16 h_10 => 
 Join1 (fun k_3 h_11 => guardP t16 false (k_3 name1 h_11) (k_3 undef h_11) ⟨⟩ ⟨⟩) (fun t18 h_12 => 
 Join1 (fun k_4 h_13 => guardP t16 false (Hp Try.prog false (convert 9 32 t18) k_4 h_13 ⟨⟩) (k_4 undef h_13) ⟨⟩ ⟨⟩) (fun t19 h_14 => 
 Join1 (fun k_5 h_15 => guardP t16 false (CallsH Try.prog 55 #[t19, (.int .u8 0)] h_15 k_5 ⟨⟩) (k_5 undef h_15) ⟨⟩ ⟨⟩) (fun t20 h_16 => 
 Join1 (fun k_6 h_17 => guardP t16 false (Hp Try.prog false (binS .geq 3 (.tmp 20) (.const (.int .i64 0)) t20 (.int .i64 0)) k_6 h_17 ⟨⟩) (k_6 undef h_17) ⟨⟩ ⟨⟩) (fun t21 h_18 => 
 Hp Try.prog false (pickS t16 (.bool true) t21) (fun t22 h_19 => 
 CondP t22 (
 R (.int .i64 2) h_19) (
 R (.int .i64 0) h_19) ⟨⟩ ⟨⟩) h_18 ⟨⟩) h_16 ⟨⟩ ⟨⟩) h_14 ⟨⟩ ⟨⟩) h_12 ⟨⟩ ⟨⟩) h_10 ⟨⟩ ⟨⟩) h_9 ⟨⟩) h_7 ⟨⟩ ⟨⟩) h_5 ⟨⟩ ⟨⟩) h_3 ⟨⟩ ⟨⟩) h_2 ⟨⟩) h_1 ⟨⟩) ⟨⟩ ⟨⟩) ⟨⟩

theorem n40_calls {s0 name1 : Value} {R : Value → Heap → Prop} {h : Heap} (H : n40 s0 name1 R h) : CallsH Try.prog 40 #[s0, name1] h R ⟨⟩ :=
 callsH_of_eq Try.follow .l Try.func40 (by kernel_rfl) (by kernel_rfl) (by kernel_rfl) H

/-- (*palimpsest/store.Store).step -/
def n41 (s0 : Value) (R : Value → Heap → Prop) (h : Heap) : Prop :=
 Hp Try.prog false (nilS s0) (fun t7 h_1 => 
 Hp Try.prog false (Instr.fieldAt 100 t7 2) (fun t8 h_2 => 
 Hp Try.prog false (Instr.loadAt 3 t8) (fun t9 h_3 => 
 Hp Try.prog false (binS .add 3 (.tmp 9) (.const (.int .i64 1)) t9 (.int .i64 1)) (fun t10 h_4 => 
 Hp Try.prog false (nilS s0) (fun t11 h_5 => 
 Hp Try.prog false (Instr.fieldAt 100 t11 2) (fun t12 h_6 => 
 Hp Try.prog false (storeS 3 t12 t10) (fun _ h_7 => 
 Hp Try.prog false (nilS s0) (fun t14 h_8 => 
 Hp Try.prog false (Instr.fieldAt 100 t14 1) (fun t15 h_9 => 
 Hp Try.prog false (Instr.loadAt 61 t15) (fun t16 h_10 => 
 Hp Try.prog false (Builtin.len_ #[61] 3 #[t16]) (fun t17 h_11 => 
 Hp Try.prog false (binS .eql 3 (.tmp 17) (.const (.int .i64 0)) t17 (.int .i64 0)) (fun t18 h_12 => 
 CondP t18 (
 R (.tuple #[(.int .i64 0), (.int .i64 0)]) h_12) (
 Hp Try.prog false (nilS s0) (fun t20 h_13 => 
 Hp Try.prog false (Instr.fieldAt 100 t20 1) (fun t21 h_14 => 
 Hp Try.prog false (Instr.loadAt 61 t21) (fun t22 h_15 => 
 Hp Try.prog false (Instr.indexAt 61 t22 (.int .i64 0)) (fun t23 h_16 => 
 Hp Try.prog false (Instr.loadAt 98 t23) (fun t24 h_17 => 
 Hp Try.prog false (Instr.alloc 98 true undef) (fun f4 h_18 => 
 Hp Try.prog false (storeS 98 f4 t24) (fun _ h_19 => 
 Hp Try.prog false (nilS s0) (fun t27 h_20 => 
 Hp Try.prog false (Instr.fieldAt 100 t27 1) (fun t28 h_21 => 
 Hp Try.prog false (Instr.loadAt 61 t28) (fun t29 h_22 => 
 Hp Try.prog false (Instr.sliceAt 61 t29 (some (.int .i64 1)) none none) (fun t30 h_23 => 
 Hp Try.prog false (nilS s0) (fun t31 h_24 => 
 Hp Try.prog false (Instr.fieldAt 100 t31 1) (fun t32 h_25 => 
 Hp Try.prog false (storeS 61 t32 t30) (fun _ h_26 => 
 JoinN 1 (fun (k : Value → Heap → Prop) h_27 =>
 Hp Try.prog false (Instr.fieldAt 98 f4 0) (fun t33 h_28 => 
 Hp Try.prog false (Instr.loadAt 96 t33) (fun t34 h_29 => 
 JoinN 1 (fun (k_1 : Value → Heap → Prop) h_30 =>
 Hp Try.prog false (binS .eql 96 (.tmp 34) (.const (.int .i64 1)) t34 (.int .i64 1)) (fun t36 h_31 => 
 CondP t36 (
 k_1 (.int .i64 5) h_31) (
 Hp Try.prog false (binS .eql 96 (.tmp 34) (.const (.int .i64 2)) t34 (.int .i64 2)) (fun t38 h_32 => 
 CondP t38 (
 k_1 (.int .i64 6) h_32) (
 k_1 (.int .i64 0) h_32) ⟨⟩ ⟨⟩) h_31 ⟨⟩) ⟨⟩ ⟨⟩) h_30 ⟨⟩)
 (fun e5 h_33 =>
 k e5 h_33) h_29 ⟨⟩ ⟨⟩) h_28 ⟨⟩) h_27 ⟨⟩)
 (fun e5_1 h_34 =>
 Hp Try.prog true (Instr.fieldAt 98 f4 1) (fun t40 _ => 
 Hp Try.prog true (Instr.loadAt 3 t40) (fun t41 _ => 
 Hp Try.prog true (Builtin.max_ #[3, 3] 3 #[(.int .i64 0), t41]) (fun t42 _ => 
 R (.tuple #[e5_1, t42]) h_34) #[] ⟨⟩) h_34 ⟨⟩) #[] ⟨⟩) h_26 ⟨⟩ ⟨⟩) h_25 ⟨⟩) h_24 ⟨⟩) h_23 ⟨⟩) h_22 ⟨⟩) h_21 ⟨⟩) h_20 ⟨⟩) h_19 ⟨⟩) h_18 ⟨⟩) h_17 ⟨⟩) h_16 ⟨⟩) h_15 ⟨⟩) h_14 ⟨⟩) h_13 ⟨⟩) h_12 ⟨⟩) ⟨⟩ ⟨⟩) h_11 ⟨⟩) h_10 ⟨⟩) h_9 ⟨⟩) h_8 ⟨⟩) h_7 ⟨⟩) h_6 ⟨⟩) h_5 ⟨⟩) h_4 ⟨⟩) h_3 ⟨⟩) h_2 ⟨⟩) h_1 ⟨⟩) h ⟨⟩

theorem n41_calls {s0 : Value} {R : Value → Heap → Prop} {h : Heap} (H : n41 s0 R h) : CallsH Try.prog 41 #[s0] h R ⟨⟩ :=
 callsH_of_eq Try.follow (.n none .l (.n none .l (.n none .l (.n none .l (.n none .l (.n none .l (.n (some [6]) (.n none .l (.n (some [6]) .l .l)) .l))))))) Try.func41 (by kernel_rfl) (by kernel_rfl) (by kernel_rfl) H

end Go.Proofs.Ytcbbdnaelimpfaa

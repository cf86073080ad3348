/- Printed by /tmp/tools2/gen.py: the condition of each function, and that a call meets it. -/
import Derived.Test.YtcbbdnaelimpfaaGreatVcFun
import Derived.Test.YtcbbdnaelimpfaaGreatProg
import Derived.Test.YtcbbdnaelimpfaaGreatNiceA
import Derived.Test.YtcbbdnaelimpfaaGreatNiceB
set_option maxRecDepth 100000
set_option linter.unusedVariables false
namespace Go.Proofs.YtcbbdnaelimpfaaGreat
open Go.Vc

/-- palimpsest/palimpsestlaw14.CachePlain -/
def n3 (x0 : Value) (R : Value → Heap → Prop) (h : Heap) : Prop :=
 Hp Tryz.prog false (Instr.box 24 x0) (fun x1 h_1 => 
 Hp Tryz.prog false (Instr.loadAt 24 x1) (fun t17 h_2 => 
 CallsH Tryz.prog 7 #[t17] h_2 (fun t18 h_3 => 
 Hp Tryz.prog false (Op.unary .not t18) (fun t19 h_4 => 
 CondP t19 (
 CallsH Tryz.prog 8 #[] h_4 (fun t20 h_5 => 
 R t20 h_5) ⟨⟩) (
 Hp Tryz.prog false (Instr.fieldAt 24 x1 0) (fun t21 h_6 => 
 Hp Tryz.prog false (Instr.loadAt 2 t21) (fun t22 h_7 => 
 CallsH Tryz.prog 9 #[t22, (.slice none 0 0)] h_7 (fun t23 h_8 => 
 Hp Tryz.prog false (Instr.fieldAt 24 x1 1) (fun t26 h_9 => 
 Hp Tryz.prog false (Instr.loadAt 3 t26) (fun t27 h_10 => 
 Hp Tryz.prog false (Instr.fieldAt 24 x1 2) (fun t28 h_11 => 
 Hp Tryz.prog false (Instr.loadAt 3 t28) (fun t29 h_12 => 
 CallsH Tryz.prog 10 #[t23, (str [102]), t27, t29] h_12 (fun t30 h_13 => 
 Hp Tryz.prog false (Instr.extract t30 0) (fun t31 h_14 => 
 Hp Tryz.prog false (Instr.extract t30 1) (fun t32 h_15 => 
 Hp Tryz.prog false (binS .eql 26 (.tmp 33) (.const (.pointer none)) t23 (.pointer none)) (fun t34 h_16 => 
 Join1 (fun k h_17 => guardP t34 false (k t31 h_17) (k undef h_17) ⟨⟩ ⟨⟩) (fun t36 h_18 => 
 Join1 (fun k_1 h_19 => guardP t34 false (Hp Tryz.prog false (binS .eql 28 (.tmp 36) (.const (.pointer none)) t36 (.pointer none)) k_1 h_19 ⟨⟩) (k_1 undef h_19) ⟨⟩ ⟨⟩) (fun t37 h_20 => 
 Hp Tryz.prog false (pickS t34 (.bool true) t37) (fun t38 h_21 => 
 Join1 (fun k_2 h_22 => guardP t38 false (k_2 t32 h_22) (k_2 undef h_22) ⟨⟩ ⟨⟩) (fun t40 h_23 => 
 Join1 (fun k_3 h_24 => guardP t38 false (CallsH Tryz.prog 11 #[t40] h_24 k_3 ⟨⟩) (k_3 undef h_24) ⟨⟩ ⟨⟩) (fun t41 h_25 => 
 Join1 (fun k_4 h_26 => guardP t38 false (Hp Tryz.prog false (binS .neq 3 (.tmp 41) (.const (.int .i64 0)) t41 (.int .i64 0)) k_4 h_26 ⟨⟩) (k_4 undef h_26) ⟨⟩ ⟨⟩) (fun t42 h_27 => 
 Hp Tryz.prog false (pickS t38 (.bool true) t42) (fun t43 h_28 => 
 CondP t43 (
 R (.bool false) h_28) (
 Hp Tryz.prog false (Instr.fieldAt 24 x1 1) (fun t44 h_29 => 
 Hp Tryz.prog false (Instr.loadAt 3 t44) (fun t45 h_30 => 
 Hp Tryz.prog false (binS .shl 3 (.const (.int .i64 1)) (.tmp 45) (.int .i64 1) t45) (fun t46 h_31 => 
 Hp Tryz.prog false (binS .mul 3 (.const (.int .i64 12)) (.tmp 47) (.int .i64 12) t46) (fun t48 h_32 => 
 Hp Tryz.prog false (Instr.makeSlice 33 t48 t48) (fun t49 h_33 => 
 LoopC 1 (fun (X : Value → Heap → Prop) => fun i8 h_34 =>
 Hp Tryz.prog false (Instr.fieldAt 24 x1 3) (fun t51 h_35 => 
 Hp Tryz.prog false (Instr.loadAt 22 t51) (fun t52 h_36 => 
 Hp Tryz.prog false (Builtin.len_ #[22] 3 #[t52]) (fun t53 h_37 => 
 Hp Tryz.prog false (binS .lss 3 (.tmp 50) (.tmp 53) i8 t53) (fun t54 h_38 => 
 CondP t54 (
 JoinN 0 (fun (k_5 : Heap → Prop) h_39 =>
 JoinN 0 (fun (k_6 : Heap → Prop) h_40 =>
 Hp Tryz.prog false (Instr.fieldAt 24 x1 3) (fun t57 h_41 => 
 Hp Tryz.prog false (Instr.loadAt 22 t57) (fun t58 h_42 => 
 Hp Tryz.prog false (Instr.indexAt 22 t58 i8) (fun t60 h_43 => 
 Hp Tryz.prog false (Instr.loadAt 35 t60) (fun t61 h_44 => 
 Hp Tryz.prog false (Instr.alloc 35 true undef) (fun y9 h_45 => 
 Hp Tryz.prog false (storeS 35 y9 t61) (fun _ h_46 => 
 Hp Tryz.prog false (Instr.fieldAt 35 y9 3) (fun t62 h_47 => 
 Hp Tryz.prog false (Instr.loadAt 2 t62) (fun t63 h_48 => 
 Hp Tryz.prog false (binS .mul 3 (.tmp 63) (.tmp 64) t63 t46) (fun t65 h_49 => 
 Hp Tryz.prog false (Instr.fieldAt 35 y9 1) (fun t66 h_50 => 
 Hp Tryz.prog false (Instr.loadAt 3 t66) (fun t67 h_51 => 
 Hp Tryz.prog false (binS .add 3 (.tmp 65) (.tmp 67) t65 t67) (fun t68 h_52 => 
 Hp Tryz.prog false (Instr.fieldAt 35 y9 0) (fun t69 h_53 => 
 Hp Tryz.prog false (Instr.loadAt 3 t69) (fun t70 h_54 => 
 Hp Tryz.prog false (binS .rem 3 (.tmp 70) (.const (.int .i64 4)) t70 (.int .i64 4)) (fun t71 h_55 => 
 JoinN 0 (fun (k_7 : Heap → Prop) h_56 =>
 Hp Tryz.prog false (binS .eql 3 (.tmp 71) (.const (.int .i64 0)) t71 (.int .i64 0)) (fun t83 h_57 => 
 CondP t83 (
 Hp Tryz.prog false (Instr.fieldAt 35 y9 3) (fun t86 h_58 => 
 Hp Tryz.prog false (Instr.loadAt 2 t86) (fun t87 h_59 => 
 Hp Tryz.prog false (Instr.fieldAt 35 y9 1) (fun t88 h_60 => 
 Hp Tryz.prog false (Instr.loadAt 3 t88) (fun t89 h_61 => 
 Hp Tryz.prog false (Instr.fieldAt 35 y9 2) (fun t90 h_62 => 
 Hp Tryz.prog false (Instr.loadAt 3 t90) (fun t91 h_63 => 
 CallsH Tryz.prog 12 #[t31, t87, t89, t91] h_63 (fun t92 h_64 => 
 Hp Tryz.prog false (Instr.extract t92 0) (fun t93 h_65 => 
 Hp Tryz.prog false (Instr.extract t92 1) (fun t94 h_66 => 
 CallsH Tryz.prog 11 #[t94] h_66 (fun t96 h_67 => 
 Hp Tryz.prog true (binS .eql 3 (.tmp 96) (.const (.int .i64 0)) t96 (.int .i64 0)) (fun t97 _ => 
 Join1 (fun k_8 h_68 => guardP t97 true (Hp Tryz.prog true (Instr.fieldAt 35 y9 2) k_8 h_68 ⟨⟩) (k_8 undef h_68) ⟨⟩ ⟨⟩) (fun t99 _ => 
 Join1 (fun k_9 h_69 => guardP t97 true (Hp Tryz.prog true (Instr.loadAt 3 t99) k_9 h_69 ⟨⟩) (k_9 undef h_69) ⟨⟩ ⟨⟩) (fun t100 _ => 
 Join1 (fun k_10 h_70 => guardP t97 true (k_10 t93 h_70) (k_10 undef h_70) ⟨⟩ ⟨⟩) (fun t101 _ => 
 Join1 (fun k_11 h_71 => guardP t97 true (Hp Tryz.prog true (Builtin.len_ #[33] 3 #[t101]) k_11 h_71 ⟨⟩) (k_11 undef h_71) ⟨⟩ ⟨⟩) (fun t102 _ => 
 Join1 (fun k_12 h_72 => guardP t97 true (Hp Tryz.prog true (binS .neq 3 (.tmp 100) (.tmp 102) t100 t102) k_12 h_72 ⟨⟩) (k_12 undef h_72) ⟨⟩ ⟨⟩) (fun t103 _ => 
 Join1 (fun k_13 h_73 => guardP t97 true (k_13 t103 h_73) (k_13 undef h_73) ⟨⟩ ⟨⟩) (fun t104 _ => 
 Join1 (fun k_14 h_74 => guardP t104 false (k_14 t93 h_74) (k_14 undef h_74) ⟨⟩ ⟨⟩) (fun t105 _ => 
 Join1 (fun k_15 h_75 => guardP t104 false (Hp Tryz.prog true (convert 33 9 t105) k_15 h_75 ⟨⟩) (k_15 undef h_75) ⟨⟩ ⟨⟩) (fun t106 _ => 
 Join1 (fun k_16 h_76 => guardP t104 false (k_16 t49 h_76) (k_16 undef h_76) ⟨⟩ ⟨⟩) (fun t107 _ => 
 Join1 (fun k_17 h_77 => guardP t104 false (k_17 t68 h_77) (k_17 undef h_77) ⟨⟩ ⟨⟩) (fun t108 _ => 
 Join1 (fun k_18 h_78 => guardP t104 false (k_18 t68 h_78) (k_18 undef h_78) ⟨⟩ ⟨⟩) (fun t109 _ => 
 Join1 (fun k_19 h_79 => guardP t104 false (Hp Tryz.prog true (Instr.fieldAt 35 y9 2) k_19 h_79 ⟨⟩) (k_19 undef h_79) ⟨⟩ ⟨⟩) (fun t110 _ => 
 Join1 (fun k_20 h_80 => guardP t104 false (Hp Tryz.prog true (Instr.loadAt 3 t110) k_20 h_80 ⟨⟩) (k_20 undef h_80) ⟨⟩ ⟨⟩) (fun t111 _ => 
 Join1 (fun k_21 h_81 => guardP t104 false (Hp Tryz.prog true (binS .add 3 (.tmp 109) (.tmp 111) t109 t111) k_21 h_81 ⟨⟩) (k_21 undef h_81) ⟨⟩ ⟨⟩) (fun t112 _ => 
 Join1 (fun k_22 h_82 => guardP t104 false (Hp Tryz.prog true (Instr.sliceAt 33 t107 (some t108) (some t112) none) k_22 h_82 ⟨⟩) (k_22 undef h_82) ⟨⟩ ⟨⟩) (fun t113 _ => 
 Join1 (fun k_23 h_83 => guardP t104 false (Hp Tryz.prog true (convert 33 9 t113) k_23 h_83 ⟨⟩) (k_23 undef h_83) ⟨⟩ ⟨⟩) (fun t114 _ => 
 Join1 (fun k_24 h_84 => guardP t104 false (Hp Tryz.prog true (binS .neq 9 (.tmp 106) (.tmp 114) t106 t114) k_24 h_84 ⟨⟩) (k_24 undef h_84) ⟨⟩ ⟨⟩) (fun t115 _ => 
 Join1 (fun k_25 h_85 => guardP t97 true (Hp Tryz.prog true (pickS t104 (.bool true) t115) k_25 h_85 ⟨⟩) (k_25 undef h_85) ⟨⟩ ⟨⟩) (fun t116 _ => 
 Hp Tryz.prog true (pickS t97 t116 (.bool false)) (fun t117 _ => 
 CondP t117 (
 R (.bool false) h_67) (
 k_7 h_67) ⟨⟩ ⟨⟩) #[] ⟨⟩) #[] ⟨⟩ ⟨⟩) #[] ⟨⟩ ⟨⟩) h_67 ⟨⟩ ⟨⟩) #[] ⟨⟩ ⟨⟩) #[] ⟨⟩ ⟨⟩) h_67 ⟨⟩ ⟨⟩) #[] ⟨⟩ ⟨⟩) #[] ⟨⟩ ⟨⟩) #[] ⟨⟩ ⟨⟩) #[] ⟨⟩ ⟨⟩) h_67 ⟨⟩ ⟨⟩) #[] ⟨⟩ ⟨⟩) #[] ⟨⟩ ⟨⟩) #[] ⟨⟩ ⟨⟩) #[] ⟨⟩ ⟨⟩) #[] ⟨⟩ ⟨⟩) h_67 ⟨⟩ ⟨⟩) #[] ⟨⟩ ⟨⟩) #[] ⟨⟩) ⟨⟩) h_65 ⟨⟩) h_64 ⟨⟩) ⟨⟩) h_62 ⟨⟩) h_61 ⟨⟩) h_60 ⟨⟩) h_59 ⟨⟩) h_58 ⟨⟩) h_57 ⟨⟩) (
 JoinN 1 (fun (k_26 : Value → Heap → Prop) h_86 =>
 Hp Tryz.prog false (binS .eql 3 (.tmp 71) (.const (.int .i64 1)) t71 (.int .i64 1)) (fun t119 h_87 => 
 CondP t119 (
 k_26 t119 h_87) (
 Hp Tryz.prog false (binS .eql 3 (.tmp 71) (.const (.int .i64 2)) t71 (.int .i64 2)) (fun t120 h_88 => 
 k_26 t120 h_88) h_87 ⟨⟩) ⟨⟩ ⟨⟩) h_86 ⟨⟩)
 (fun t118 h_89 =>
 CondP t118 (
 Hp Tryz.prog false (Instr.fieldAt 35 y9 3) (fun t122 h_90 => 
 Hp Tryz.prog false (Instr.loadAt 2 t122) (fun t123 h_91 => 
 Hp Tryz.prog false (Instr.fieldAt 35 y9 1) (fun t124 h_92 => 
 Hp Tryz.prog false (Instr.loadAt 3 t124) (fun t125 h_93 => 
 Hp Tryz.prog false (Instr.fieldAt 35 y9 5) (fun t126 h_94 => 
 Hp Tryz.prog false (Instr.loadAt 33 t126) (fun t127 h_95 => 
 CallsH Tryz.prog 13 #[t31, t123, t125, t127] h_95 (fun t128 h_96 => 
 CallsH Tryz.prog 11 #[t128] h_96 (fun t129 h_97 => 
 Hp Tryz.prog false (binS .eql 3 (.tmp 129) (.const (.int .i64 0)) t129 (.int .i64 0)) (fun t130 h_98 => 
 CondP t130 (
 Hp Tryz.prog true (Instr.sliceAt 33 t49 (some t68) none none) (fun t133 _ => 
 Hp Tryz.prog true (Instr.fieldAt 35 y9 5) (fun t134 _ => 
 Hp Tryz.prog true (Instr.loadAt 33 t134) (fun t135 _ => 
 Hp Tryz.prog false (Builtin.copy_ #[33, 33] 3 #[t133, t135]) (fun t136 h_99 => 
 k_7 h_99) h_98 ⟨⟩) h_98 ⟨⟩) #[] ⟨⟩) #[] ⟨⟩) (
 k_7 h_98) ⟨⟩ ⟨⟩) h_97 ⟨⟩) ⟨⟩) ⟨⟩) h_94 ⟨⟩) h_93 ⟨⟩) h_92 ⟨⟩) h_91 ⟨⟩) h_90 ⟨⟩) h_89 ⟨⟩) (
 Hp Tryz.prog false (Instr.fieldAt 35 y9 3) (fun t73 h_100 => 
 Hp Tryz.prog false (Instr.loadAt 2 t73) (fun t74 h_101 => 
 Hp Tryz.prog false (Instr.fieldAt 35 y9 4) (fun t75 h_102 => 
 Hp Tryz.prog false (Instr.loadAt 2 t75) (fun t76 h_103 => 
 CallsH Tryz.prog 14 #[t31, t74, t76] h_103 (fun t77 h_104 => 
 Hp Tryz.prog false (Instr.fieldAt 35 y9 3) (fun t79 h_105 => 
 Hp Tryz.prog false (Instr.loadAt 2 t79) (fun t80 h_106 => 
 CallsH Tryz.prog 15 #[t31, t80] h_106 (fun t81 h_107 => 
 k_7 h_107) ⟨⟩) h_105 ⟨⟩) h_104 ⟨⟩) ⟨⟩) h_102 ⟨⟩) h_101 ⟨⟩) h_100 ⟨⟩) h_89 ⟨⟩) ⟨⟩ ⟨⟩) h_57 ⟨⟩ ⟨⟩) ⟨⟩ ⟨⟩) h_56 ⟨⟩)
 (fun h_108 =>
 k_6 h_108) h_55 ⟨⟩ ⟨⟩) h_54 ⟨⟩) h_53 ⟨⟩) h_52 ⟨⟩) h_51 ⟨⟩) h_50 ⟨⟩) h_49 ⟨⟩) h_48 ⟨⟩) h_47 ⟨⟩) h_46 ⟨⟩) h_45 ⟨⟩) h_44 ⟨⟩) h_43 ⟨⟩) h_42 ⟨⟩) h_41 ⟨⟩) h_40 ⟨⟩)
 (fun h_109 =>
 k_5 h_109) h_39 ⟨⟩ ⟨⟩)
 (fun h_110 =>
 Hp Tryz.prog false (binS .add 3 (.tmp 55) (.const (.int .i64 1)) i8 (.int .i64 1)) (fun t56 h_111 => 
 X t56 h_111) h_110 ⟨⟩) h_38 ⟨⟩ ⟨⟩) (
 CallsH Tryz.prog 16 #[t31] h_38 (fun t138 h_112 => 
 CallsH Tryz.prog 11 #[t138] h_112 (fun t139 h_113 => 
 Hp Tryz.prog false (binS .neq 3 (.tmp 139) (.const (.int .i64 0)) t139 (.int .i64 0)) (fun t140 h_114 => 
 Join1 (fun k_27 h_115 => guardP t140 false (k_27 t23 h_115) (k_27 undef h_115) ⟨⟩ ⟨⟩) (fun t142 h_116 => 
 Join1 (fun k_28 h_117 => guardP t140 false (CallsH Tryz.prog 17 #[t142] h_117 k_28 ⟨⟩) (k_28 undef h_117) ⟨⟩ ⟨⟩) (fun t143 h_118 => 
 Join1 (fun k_29 h_119 => guardP t140 false (Hp Tryz.prog false (binS .neq 3 (.tmp 143) (.const (.int .i64 0)) t143 (.int .i64 0)) k_29 h_119 ⟨⟩) (k_29 undef h_119) ⟨⟩ ⟨⟩) (fun t144 h_120 => 
 Hp Tryz.prog false (pickS t140 (.bool true) t144) (fun t145 h_121 => 
 CondP t145 (
 R (.bool false) h_121) (
 CallsH Tryz.prog 18 #[t23, (str [102])] h_121 (fun t148 h_122 => 
 Hp Tryz.prog false (Instr.extract t148 0) (fun t149 h_123 => 
 Hp Tryz.prog false (Instr.extract t148 1) (fun t150 h_124 => 
 CallsH Tryz.prog 19 #[t23, (str [102]), (.int .i64 0), t149] h_124 (fun t154 h_125 => 
 Hp Tryz.prog false (Instr.extract t154 0) (fun t155 h_126 => 
 Hp Tryz.prog false (Instr.extract t154 1) (fun t156 h_127 => 
 CallsH Tryz.prog 11 #[t150] h_127 (fun t158 h_128 => 
 Hp Tryz.prog false (binS .neq 3 (.tmp 158) (.const (.int .i64 0)) t158 (.int .i64 0)) (fun t159 h_129 => 
 Join1 (fun k_30 h_130 => guardP t159 false (k_30 t156 h_130) (k_30 undef h_130) ⟨⟩ ⟨⟩) (fun t161 h_131 => 
 Join1 (fun k_31 h_132 => guardP t159 false (CallsH Tryz.prog 11 #[t161] h_132 k_31 ⟨⟩) (k_31 undef h_132) ⟨⟩ ⟨⟩) (fun t162 h_133 => 
 Join1 (fun k_32 h_134 => guardP t159 false (Hp Tryz.prog false (binS .neq 3 (.tmp 162) (.const (.int .i64 0)) t162 (.int .i64 0)) k_32 h_134 ⟨⟩) (k_32 undef h_134) ⟨⟩ ⟨⟩) (fun t163 h_135 => 
 Hp Tryz.prog false (pickS t159 (.bool true) t163) (fun t164 h_136 => 
 Join1 (fun k_33 h_137 => guardP t164 false (k_33 t149 h_137) (k_33 undef h_137) ⟨⟩ ⟨⟩) (fun t166 h_138 => 
 Join1 (fun k_34 h_139 => guardP t164 false (k_34 t49 h_139) (k_34 undef h_139) ⟨⟩ ⟨⟩) (fun t167 h_140 => 
 Join1 (fun k_35 h_141 => guardP t164 false (Hp Tryz.prog false (Instr.fieldAt 24 x1 0) k_35 h_141 ⟨⟩) (k_35 undef h_141) ⟨⟩ ⟨⟩) (fun t168 h_142 => 
 Join1 (fun k_36 h_143 => guardP t164 false (Hp Tryz.prog false (Instr.loadAt 2 t168) k_36 h_143 ⟨⟩) (k_36 undef h_143) ⟨⟩ ⟨⟩) (fun t169 h_144 => 
 Join1 (fun k_37 h_145 => guardP t164 false (CallsH Tryz.prog 20 #[t167, t169] h_145 k_37 ⟨⟩) (k_37 undef h_145) ⟨⟩ ⟨⟩) (fun t170 h_146 => 
 Join1 (fun k_38 h_147 => guardP t164 false (Hp Tryz.prog false (Builtin.len_ #[33] 3 #[t170]) k_38 h_147 ⟨⟩) (k_38 undef h_147) ⟨⟩ ⟨⟩) (fun t171 h_148 => 
 Join1 (fun k_39 h_149 => guardP t164 false (Hp Tryz.prog false (binS .gtr 2 (.tmp 166) (.tmp 171) t166 t171) k_39 h_149 ⟨⟩) (k_39 undef h_149) ⟨⟩ ⟨⟩) (fun t172 h_150 => 
 Hp Tryz.prog false (pickS t164 (.bool true) t172) (fun t173 h_151 => 
 CondP t173 (
 R (.bool false) h_151) (
 Hp Tryz.prog false (Builtin.len_ #[33] 3 #[t49]) (fun t176 h_152 => 
 CallsH Tryz.prog 20 #[t155, t176] h_152 (fun t177 h_153 => 
 Hp Tryz.prog true (Builtin.len_ #[33] 3 #[t49]) (fun t180 _ => 
 Hp Tryz.prog true (Instr.sliceAt 33 t177 none (some t180) none) (fun t181 _ => 
 Hp Tryz.prog true (convert 33 9 t181) (fun t182 _ => 
 Hp Tryz.prog true (convert 33 9 t49) (fun t184 _ => 
 Hp Tryz.prog true (binS .eql 9 (.tmp 182) (.tmp 184) t182 t184) (fun t185 _ => 
 Join1 (fun k_40 h_154 => guardP t185 true (CallsH Tryz.prog 8 #[] h_154 k_40 ⟨⟩) (k_40 undef h_154) ⟨⟩ ⟨⟩) (fun t187 h_155 => 
 Hp Tryz.prog true (pickS t185 t187 (.bool false)) (fun t188 _ => 
 R t188 h_155) #[] ⟨⟩) h_153 ⟨⟩ ⟨⟩) #[] ⟨⟩) h_153 ⟨⟩) h_153 ⟨⟩) #[] ⟨⟩) #[] ⟨⟩) ⟨⟩) h_151 ⟨⟩) ⟨⟩ ⟨⟩) h_150 ⟨⟩) h_148 ⟨⟩ ⟨⟩) h_146 ⟨⟩ ⟨⟩) h_144 ⟨⟩ ⟨⟩) h_142 ⟨⟩ ⟨⟩) h_140 ⟨⟩ ⟨⟩) h_138 ⟨⟩ ⟨⟩) h_136 ⟨⟩ ⟨⟩) h_135 ⟨⟩) h_133 ⟨⟩ ⟨⟩) h_131 ⟨⟩ ⟨⟩) h_129 ⟨⟩ ⟨⟩) h_128 ⟨⟩) ⟨⟩) h_126 ⟨⟩) h_125 ⟨⟩) ⟨⟩) h_123 ⟨⟩) h_122 ⟨⟩) ⟨⟩) ⟨⟩ ⟨⟩) h_120 ⟨⟩) h_118 ⟨⟩ ⟨⟩) h_116 ⟨⟩ ⟨⟩) h_114 ⟨⟩ ⟨⟩) h_113 ⟨⟩) ⟨⟩) ⟨⟩) ⟨⟩ ⟨⟩) h_37 ⟨⟩) h_36 ⟨⟩) h_35 ⟨⟩) h_34 ⟨⟩) [(.int .i64 0)] h_33 ⟨⟩) h_32 ⟨⟩) h_31 ⟨⟩) h_30 ⟨⟩) h_29 ⟨⟩) h_28 ⟨⟩) ⟨⟩ ⟨⟩) h_27 ⟨⟩) h_25 ⟨⟩ ⟨⟩) h_23 ⟨⟩ ⟨⟩) h_21 ⟨⟩ ⟨⟩) h_20 ⟨⟩) h_18 ⟨⟩ ⟨⟩) h_16 ⟨⟩ ⟨⟩) h_15 ⟨⟩) h_14 ⟨⟩) h_13 ⟨⟩) ⟨⟩) h_11 ⟨⟩) h_10 ⟨⟩) h_9 ⟨⟩) h_8 ⟨⟩) ⟨⟩) h_6 ⟨⟩) h_4 ⟨⟩) ⟨⟩ ⟨⟩) h_3 ⟨⟩) ⟨⟩) h_1 ⟨⟩) h ⟨⟩

theorem n3_calls {x0 : Value} {R : Value → Heap → Prop} {h : Heap} (H : n3 x0 R h) : CallsH Tryz.prog 3 #[x0] h R ⟨⟩ :=
 callsH_of_eq Tryz.follow (.n none .l (.n none .l (.n none .l (.n none .l (.n none .l (.n none .l (.n none .l (.n none (.n none .l (.n none (.n (some [9]) (.n none .l (.n (some []) (.n (some []) (.n none .l (.n none .l (.n none .l (.n (some []) (.n none .l (.n none .l (.n (some [119]) .l .l))) .l)))) .l) .l)) .l) .l)) .l)))))))) Tryz.func3 (by kernel_rfl) (by kernel_rfl) (by kernel_rfl) H

/-- (palimpsest/palimpsestlaw14.Calls).fits -/
def n7 (x0 : Value) (R : Value → Heap → Prop) (h : Heap) : Prop :=
 Hp Tryz.prog false (Instr.box 24 x0) (fun x1 h_1 => 
 Hp Tryz.prog false (Instr.fieldAt 24 x1 0) (fun t4 h_2 => 
 Hp Tryz.prog false (Instr.loadAt 2 t4) (fun t5 h_3 => 
 Hp Tryz.prog false (binS .lss 2 (.tmp 5) (.const (.int .i64 0)) t5 (.int .i64 0)) (fun t6 h_4 => 
 Join1 (fun k h_5 => guardP t6 false (Hp Tryz.prog false (Instr.fieldAt 24 x1 0) k h_5 ⟨⟩) (k undef h_5) ⟨⟩ ⟨⟩) (fun t8 h_6 => 
 Join1 (fun k_1 h_7 => guardP t6 false (Hp Tryz.prog false (Instr.loadAt 2 t8) k_1 h_7 ⟨⟩) (k_1 undef h_7) ⟨⟩ ⟨⟩) (fun t9 h_8 => 
 Join1 (fun k_2 h_9 => guardP t6 false (Hp Tryz.prog false (binS .gtr 2 (.tmp 9) (.const (.int .i64 50000)) t9 (.int .i64 50000)) k_2 h_9 ⟨⟩) (k_2 undef h_9) ⟨⟩ ⟨⟩) (fun t10 h_10 => 
 Hp Tryz.prog false (pickS t6 (.bool true) t10) (fun t11 h_11 => 
 Join1 (fun k_3 h_12 => guardP t11 false (Hp Tryz.prog false (Instr.fieldAt 24 x1 1) k_3 h_12 ⟨⟩) (k_3 undef h_12) ⟨⟩ ⟨⟩) (fun t13 h_13 => 
 Join1 (fun k_4 h_14 => guardP t11 false (Hp Tryz.prog false (Instr.loadAt 3 t13) k_4 h_14 ⟨⟩) (k_4 undef h_14) ⟨⟩ ⟨⟩) (fun t14 h_15 => 
 Join1 (fun k_5 h_16 => guardP t11 false (Hp Tryz.prog false (binS .lss 3 (.tmp 14) (.const (.int .i64 9)) t14 (.int .i64 9)) k_5 h_16 ⟨⟩) (k_5 undef h_16) ⟨⟩ ⟨⟩) (fun t15 h_17 => 
 Hp Tryz.prog false (pickS t11 (.bool true) t15) (fun t16 h_18 => 
 Join1 (fun k_6 h_19 => guardP t16 false (Hp Tryz.prog false (Instr.fieldAt 24 x1 1) k_6 h_19 ⟨⟩) (k_6 undef h_19) ⟨⟩ ⟨⟩) (fun t18 h_20 => 
 Join1 (fun k_7 h_21 => guardP t16 false (Hp Tryz.prog false (Instr.loadAt 3 t18) k_7 h_21 ⟨⟩) (k_7 undef h_21) ⟨⟩ ⟨⟩) (fun t19 h_22 => 
 Join1 (fun k_8 h_23 => guardP t16 false (Hp Tryz.prog false (binS .gtr 3 (.tmp 19) (.const (.int .i64 12)) t19 (.int .i64 12)) k_8 h_23 ⟨⟩) (k_8 undef h_23) ⟨⟩ ⟨⟩) (fun t20 h_24 => 
 Hp Tryz.prog false (pickS t16 (.bool true) t20) (fun t21 h_25 => 
 Join1 (fun k_9 h_26 => guardP t21 false (Hp Tryz.prog false (Instr.fieldAt 24 x1 2) k_9 h_26 ⟨⟩) (k_9 undef h_26) ⟨⟩ ⟨⟩) (fun t23 h_27 => 
 Join1 (fun k_10 h_28 => guardP t21 false (Hp Tryz.prog false (Instr.loadAt 3 t23) k_10 h_28 ⟨⟩) (k_10 undef h_28) ⟨⟩ ⟨⟩) (fun t24 h_29 => 
 Join1 (fun k_11 h_30 => guardP t21 false (Hp Tryz.prog false (binS .lss 3 (.tmp 24) (.const (.int .i64 1)) t24 (.int .i64 1)) k_11 h_30 ⟨⟩) (k_11 undef h_30) ⟨⟩ ⟨⟩) (fun t25 h_31 => 
 Hp Tryz.prog false (pickS t21 (.bool true) t25) (fun t26 h_32 => 
 Join1 (fun k_12 h_33 => guardP t26 false (Hp Tryz.prog false (Instr.fieldAt 24 x1 2) k_12 h_33 ⟨⟩) (k_12 undef h_33) ⟨⟩ ⟨⟩) (fun t28 h_34 => 
 Join1 (fun k_13 h_35 => guardP t26 false (Hp Tryz.prog false (Instr.loadAt 3 t28) k_13 h_35 ⟨⟩) (k_13 undef h_35) ⟨⟩ ⟨⟩) (fun t29 h_36 => 
 Join1 (fun k_14 h_37 => guardP t26 false (Hp Tryz.prog false (binS .gtr 3 (.tmp 29) (.const (.int .i64 20)) t29 (.int .i64 20)) k_14 h_37 ⟨⟩) (k_14 undef h_37) ⟨⟩ ⟨⟩) (fun t30 h_38 => 
 Hp Tryz.prog false (pickS t26 (.bool true) t30) (fun t31 h_39 => 
 Join1 (fun k_15 h_40 => guardP t31 false (Hp Tryz.prog false (Instr.fieldAt 24 x1 3) k_15 h_40 ⟨⟩) (k_15 undef h_40) ⟨⟩ ⟨⟩) (fun t33 h_41 => 
 Join1 (fun k_16 h_42 => guardP t31 false (Hp Tryz.prog false (Instr.loadAt 22 t33) k_16 h_42 ⟨⟩) (k_16 undef h_42) ⟨⟩ ⟨⟩) (fun t34 h_43 => 
 Join1 (fun k_17 h_44 => guardP t31 false (Hp Tryz.prog false (Builtin.len_ #[22] 3 #[t34]) k_17 h_44 ⟨⟩) (k_17 undef h_44) ⟨⟩ ⟨⟩) (fun t35 h_45 => 
 Join1 (fun k_18 h_46 => guardP t31 false (Hp Tryz.prog false (binS .gtr 3 (.tmp 35) (.const (.int .i64 60)) t35 (.int .i64 60)) k_18 h_46 ⟨⟩) (k_18 undef h_46) ⟨⟩ ⟨⟩) (fun t36 h_47 => 
 Hp Tryz.prog false (pickS t31 (.bool true) t36) (fun t37 h_48 => 
 CondP t37 (
 R (.bool false) h_48) (
 LoopC 1 (fun (X : Value → Heap → Prop) => fun i3 h_49 =>
 Hp Tryz.prog false (Instr.fieldAt 24 x1 3) (fun t39 h_50 => 
 Hp Tryz.prog false (Instr.loadAt 22 t39) (fun t40 h_51 => 
 Hp Tryz.prog false (Builtin.len_ #[22] 3 #[t40]) (fun t41 h_52 => 
 Hp Tryz.prog false (binS .lss 3 (.tmp 38) (.tmp 41) i3 t41) (fun t42 h_53 => 
 CondP t42 (
 Hp Tryz.prog false (Instr.fieldAt 24 x1 3) (fun t45 h_54 => 
 Hp Tryz.prog false (Instr.loadAt 22 t45) (fun t46 h_55 => 
 Hp Tryz.prog false (Instr.indexAt 22 t46 i3) (fun t48 h_56 => 
 Hp Tryz.prog false (Instr.fieldAt 35 t48 3) (fun t49 h_57 => 
 Hp Tryz.prog false (Instr.loadAt 2 t49) (fun t50 h_58 => 
 Hp Tryz.prog false (binS .geq 2 (.tmp 50) (.const (.int .i64 12)) t50 (.int .i64 12)) (fun t51 h_59 => 
 Join1 (fun k_19 h_60 => guardP t51 false (Hp Tryz.prog false (Instr.fieldAt 24 x1 3) k_19 h_60 ⟨⟩) (k_19 undef h_60) ⟨⟩ ⟨⟩) (fun t53 h_61 => 
 Join1 (fun k_20 h_62 => guardP t51 false (Hp Tryz.prog false (Instr.loadAt 22 t53) k_20 h_62 ⟨⟩) (k_20 undef h_62) ⟨⟩ ⟨⟩) (fun t54 h_63 => 
 Join1 (fun k_21 h_64 => guardP t51 false (k_21 i3 h_64) (k_21 undef h_64) ⟨⟩ ⟨⟩) (fun t55 h_65 => 
 Join1 (fun k_22 h_66 => guardP t51 false (Hp Tryz.prog false (Instr.indexAt 22 t54 t55) k_22 h_66 ⟨⟩) (k_22 undef h_66) ⟨⟩ ⟨⟩) (fun t56 h_67 => 
 Join1 (fun k_23 h_68 => guardP t51 false (Hp Tryz.prog false (Instr.fieldAt 35 t56 5) k_23 h_68 ⟨⟩) (k_23 undef h_68) ⟨⟩ ⟨⟩) (fun t57 h_69 => 
 Join1 (fun k_24 h_70 => guardP t51 false (Hp Tryz.prog false (Instr.loadAt 33 t57) k_24 h_70 ⟨⟩) (k_24 undef h_70) ⟨⟩ ⟨⟩) (fun t58 h_71 => 
 Join1 (fun k_25 h_72 => guardP t51 false (Hp Tryz.prog false (Builtin.len_ #[33] 3 #[t58]) k_25 h_72 ⟨⟩) (k_25 undef h_72) ⟨⟩ ⟨⟩) (fun t59 h_73 => 
 Join1 (fun k_26 h_74 => guardP t51 false (Hp Tryz.prog false (binS .gtr 3 (.tmp 59) (.const (.int .i64 5000)) t59 (.int .i64 5000)) k_26 h_74 ⟨⟩) (k_26 undef h_74) ⟨⟩ ⟨⟩) (fun t60 h_75 => 
 Hp Tryz.prog false (pickS t51 (.bool true) t60) (fun t61 h_76 => 
 CondP t61 (
 R (.bool false) h_76) (
 Hp Tryz.prog false (binS .add 3 (.tmp 43) (.const (.int .i64 1)) i3 (.int .i64 1)) (fun t44 h_77 => 
 X t44 h_77) h_76 ⟨⟩) ⟨⟩ ⟨⟩) h_75 ⟨⟩) h_73 ⟨⟩ ⟨⟩) h_71 ⟨⟩ ⟨⟩) h_69 ⟨⟩ ⟨⟩) h_67 ⟨⟩ ⟨⟩) h_65 ⟨⟩ ⟨⟩) h_63 ⟨⟩ ⟨⟩) h_61 ⟨⟩ ⟨⟩) h_59 ⟨⟩ ⟨⟩) h_58 ⟨⟩) h_57 ⟨⟩) h_56 ⟨⟩) h_55 ⟨⟩) h_54 ⟨⟩) h_53 ⟨⟩) (
 R (.bool true) h_53) ⟨⟩ ⟨⟩) h_52 ⟨⟩) h_51 ⟨⟩) h_50 ⟨⟩) h_49 ⟨⟩) [(.int .i64 0)] h_48 ⟨⟩) ⟨⟩ ⟨⟩) h_47 ⟨⟩) h_45 ⟨⟩ ⟨⟩) h_43 ⟨⟩ ⟨⟩) h_41 ⟨⟩ ⟨⟩) h_39 ⟨⟩ ⟨⟩) h_38 ⟨⟩) h_36 ⟨⟩ ⟨⟩) h_34 ⟨⟩ ⟨⟩) h_32 ⟨⟩ ⟨⟩) h_31 ⟨⟩) h_29 ⟨⟩ ⟨⟩) h_27 ⟨⟩ ⟨⟩) h_25 ⟨⟩ ⟨⟩) h_24 ⟨⟩) h_22 ⟨⟩ ⟨⟩) h_20 ⟨⟩ ⟨⟩) h_18 ⟨⟩ ⟨⟩) h_17 ⟨⟩) h_15 ⟨⟩ ⟨⟩) h_13 ⟨⟩ ⟨⟩) h_11 ⟨⟩ ⟨⟩) h_10 ⟨⟩) h_8 ⟨⟩ ⟨⟩) h_6 ⟨⟩ ⟨⟩) h_4 ⟨⟩ ⟨⟩) h_3 ⟨⟩) h_2 ⟨⟩) h_1 ⟨⟩) h ⟨⟩

theorem n7_calls {x0 : Value} {R : Value → Heap → Prop} {h : Heap} (H : n7 x0 R h) : CallsH Tryz.prog 7 #[x0] h R ⟨⟩ :=
 callsH_of_eq Tryz.follow (.n none .l (.n none .l (.n none (.n none .l (.n none (.n (some [4]) .l .l) .l)) .l))) Tryz.func7 (by kernel_rfl) (by kernel_rfl) (by kernel_rfl) H

/-- palimpsest/palimpsestlaw14.works -/
def n8 (R : Value → Heap → Prop) (h : Heap) : Prop :=
 CallsH Tryz.prog 9 #[(.int .i64 4096), (.slice none 0 0)] h (fun t12 h_1 => 
 CallsH Tryz.prog 10 #[t12, (str [102]), (.int .i64 9), (.int .i64 2)] h_1 (fun t15 h_2 => 
 Hp Tryz.prog false (Instr.extract t15 0) (fun t16 h_3 => 
 Hp Tryz.prog false (Instr.extract t15 1) (fun t17 h_4 => 
 Hp Tryz.prog false (binS .eql 26 (.tmp 18) (.const (.pointer none)) t12 (.pointer none)) (fun t19 h_5 => 
 Join1 (fun k h_6 => guardP t19 false (k t16 h_6) (k undef h_6) ⟨⟩ ⟨⟩) (fun t21 h_7 => 
 Join1 (fun k_1 h_8 => guardP t19 false (Hp Tryz.prog false (binS .eql 28 (.tmp 21) (.const (.pointer none)) t21 (.pointer none)) k_1 h_8 ⟨⟩) (k_1 undef h_8) ⟨⟩ ⟨⟩) (fun t22 h_9 => 
 Hp Tryz.prog false (pickS t19 (.bool true) t22) (fun t23 h_10 => 
 Join1 (fun k_2 h_11 => guardP t23 false (k_2 t17 h_11) (k_2 undef h_11) ⟨⟩ ⟨⟩) (fun t25 h_12 => 
 Join1 (fun k_3 h_13 => guardP t23 false (CallsH Tryz.prog 11 #[t25] h_13 k_3 ⟨⟩) (k_3 undef h_13) ⟨⟩ ⟨⟩) (fun t26 h_14 => 
 Join1 (fun k_4 h_15 => guardP t23 false (Hp Tryz.prog false (binS .neq 3 (.tmp 26) (.const (.int .i64 0)) t26 (.int .i64 0)) k_4 h_15 ⟨⟩) (k_4 undef h_15) ⟨⟩ ⟨⟩) (fun t27 h_16 => 
 Hp Tryz.prog false (pickS t23 (.bool true) t27) (fun t28 h_17 => 
 Join1 (fun k_5 h_18 => guardP t28 false (k_5 t16 h_18) (k_5 undef h_18) ⟨⟩ ⟨⟩) (fun t30 h_19 => 
 Join1 (fun k_6 h_20 => guardP t28 false (CallsH Tryz.prog 33 #[t30] h_20 k_6 ⟨⟩) (k_6 undef h_20) ⟨⟩ ⟨⟩) (fun t31 h_21 => 
 Join1 (fun k_7 h_22 => guardP t28 false (Hp Tryz.prog false (binS .eql 78 (.tmp 31) (.const .nilFunc) t31 .nilFunc) k_7 h_22 ⟨⟩) (k_7 undef h_22) ⟨⟩ ⟨⟩) (fun t32 h_23 => 
 Hp Tryz.prog false (pickS t28 (.bool true) t32) (fun t33 h_24 => 
 CondP t33 (
 R (.bool false) h_24) (
 Hp Tryz.prog false (Instr.buildSlice 33 1 #[(0, (.int .u8 1))]) (fun t35 h_25 => 
 CallsH Tryz.prog 13 #[t16, (.int .i64 0), (.int .i64 0), t35] h_25 (fun t36 h_26 => 
 Hp Tryz.prog false (Instr.buildSlice 33 1 #[(0, (.int .u8 2))]) (fun t38 h_27 => 
 CallsH Tryz.prog 13 #[t16, (.int .i64 1), (.int .i64 0), t38] h_27 (fun t39 h_28 => 
 CallsH Tryz.prog 14 #[t16, (.int .i64 0), (.int .i64 1)] h_28 (fun t41 h_29 => 
 CallsH Tryz.prog 14 #[t16, (.int .i64 1), (.int .i64 0)] h_29 (fun t43 h_30 => 
 CallsH Tryz.prog 15 #[t16, (.int .i64 0)] h_30 (fun t45 h_31 => 
 CallsH Tryz.prog 19 #[t12, (str [102]), (.int .i64 512), (.int .i64 1)] h_31 (fun t48 h_32 => 
 Hp Tryz.prog false (Instr.extract t48 0) (fun t49 h_33 => 
 Hp Tryz.prog false (Instr.extract t48 1) (fun t50 h_34 => 
 CallsH Tryz.prog 34 #[t16] h_34 (fun t52 h_35 => 
 Hp Tryz.prog false (Instr.alloc 81 true undef) (fun n11 h_36 => 
 Hp Tryz.prog false (storeS 81 n11 t52) (fun _ h_37 => 
 CallsH Tryz.prog 11 #[t36] h_37 (fun t54 h_38 => 
 CallsH Tryz.prog 11 #[t39] h_38 (fun t56 h_39 => 
 Hp Tryz.prog false (binS .add 3 (.tmp 54) (.tmp 56) t54 t56) (fun t57 h_40 => 
 CallsH Tryz.prog 11 #[t41] h_40 (fun t59 h_41 => 
 Hp Tryz.prog false (binS .add 3 (.tmp 57) (.tmp 59) t57 t59) (fun t60 h_42 => 
 CallsH Tryz.prog 11 #[t45] h_42 (fun t62 h_43 => 
 Hp Tryz.prog false (binS .add 3 (.tmp 60) (.tmp 62) t60 t62) (fun t63 h_44 => 
 CallsH Tryz.prog 11 #[t50] h_44 (fun t65 h_45 => 
 Hp Tryz.prog false (binS .add 3 (.tmp 63) (.tmp 65) t63 t65) (fun t66 h_46 => 
 Hp Tryz.prog false (binS .eql 3 (.tmp 66) (.const (.int .i64 0)) t66 (.int .i64 0)) (fun t67 h_47 => 
 Join1 (fun k_8 h_48 => guardP t67 true (k_8 t43 h_48) (k_8 undef h_48) ⟨⟩ ⟨⟩) (fun t69 h_49 => 
 Join1 (fun k_9 h_50 => guardP t67 true (CallsH Tryz.prog 11 #[t69] h_50 k_9 ⟨⟩) (k_9 undef h_50) ⟨⟩ ⟨⟩) (fun t70 h_51 => 
 Join1 (fun k_10 h_52 => guardP t67 true (Hp Tryz.prog false (binS .eql 3 (.tmp 70) (.const (.int .i64 240)) t70 (.int .i64 240)) k_10 h_52 ⟨⟩) (k_10 undef h_52) ⟨⟩ ⟨⟩) (fun t71 h_53 => 
 Hp Tryz.prog false (pickS t67 t71 (.bool false)) (fun t72 h_54 => 
 Join1 (fun k_11 h_55 => guardP t72 true (k_11 t49 h_55) (k_11 undef h_55) ⟨⟩ ⟨⟩) (fun t74 h_56 => 
 Join1 (fun k_12 h_57 => guardP t72 true (Hp Tryz.prog false (Builtin.len_ #[33] 3 #[t74]) k_12 h_57 ⟨⟩) (k_12 undef h_57) ⟨⟩ ⟨⟩) (fun t75 h_58 => 
 Join1 (fun k_13 h_59 => guardP t72 true (Hp Tryz.prog false (binS .eql 3 (.tmp 75) (.const (.int .i64 1)) t75 (.int .i64 1)) k_13 h_59 ⟨⟩) (k_13 undef h_59) ⟨⟩ ⟨⟩) (fun t76 h_60 => 
 Hp Tryz.prog false (pickS t72 t76 (.bool false)) (fun t77 h_61 => 
 Join1 (fun k_14 h_62 => guardP t77 true (k_14 t49 h_62) (k_14 undef h_62) ⟨⟩ ⟨⟩) (fun t79 h_63 => 
 Join1 (fun k_15 h_64 => guardP t77 true (Hp Tryz.prog false (Instr.indexAt 33 t79 (.int .i64 0)) k_15 h_64 ⟨⟩) (k_15 undef h_64) ⟨⟩ ⟨⟩) (fun t80 h_65 => 
 Join1 (fun k_16 h_66 => guardP t77 true (Hp Tryz.prog false (Instr.loadAt 5 t80) k_16 h_66 ⟨⟩) (k_16 undef h_66) ⟨⟩ ⟨⟩) (fun t81 h_67 => 
 Join1 (fun k_17 h_68 => guardP t77 true (Hp Tryz.prog false (binS .eql 5 (.tmp 81) (.const (.int .u8 2)) t81 (.int .u8 2)) k_17 h_68 ⟨⟩) (k_17 undef h_68) ⟨⟩ ⟨⟩) (fun t82 h_69 => 
 Hp Tryz.prog false (pickS t77 t82 (.bool false)) (fun t83 h_70 => 
 Join1 (fun k_18 h_71 => guardP t83 true (Hp Tryz.prog false (Instr.loadAt 81 n11) k_18 h_71 ⟨⟩) (k_18 undef h_71) ⟨⟩ ⟨⟩) (fun t85 h_72 => 
 Join1 (fun k_19 h_73 => guardP t83 true (Hp Tryz.prog false (Instr.build 81 #[(1, (.int .i64 2)), (2, (.int .i64 2)), (3, (.int .i64 1))]) k_19 h_73 ⟨⟩) (k_19 undef h_73) ⟨⟩ ⟨⟩) (fun t86 h_74 => 
 Join1 (fun k_20 h_75 => guardP t83 true (Hp Tryz.prog false (binS .eql 81 (.tmp 85) (.tmp 86) t85 t86) k_20 h_75 ⟨⟩) (k_20 undef h_75) ⟨⟩ ⟨⟩) (fun t87 h_76 => 
 Hp Tryz.prog false (pickS t83 t87 (.bool false)) (fun t88 h_77 => 
 R t88 h_77) h_76 ⟨⟩) h_74 ⟨⟩ ⟨⟩) h_72 ⟨⟩ ⟨⟩) h_70 ⟨⟩ ⟨⟩) h_69 ⟨⟩) h_67 ⟨⟩ ⟨⟩) h_65 ⟨⟩ ⟨⟩) h_63 ⟨⟩ ⟨⟩) h_61 ⟨⟩ ⟨⟩) h_60 ⟨⟩) h_58 ⟨⟩ ⟨⟩) h_56 ⟨⟩ ⟨⟩) h_54 ⟨⟩ ⟨⟩) h_53 ⟨⟩) h_51 ⟨⟩ ⟨⟩) h_49 ⟨⟩ ⟨⟩) h_47 ⟨⟩ ⟨⟩) h_46 ⟨⟩) h_45 ⟨⟩) ⟨⟩) h_43 ⟨⟩) ⟨⟩) h_41 ⟨⟩) ⟨⟩) h_39 ⟨⟩) ⟨⟩) ⟨⟩) h_36 ⟨⟩) h_35 ⟨⟩) ⟨⟩) h_33 ⟨⟩) h_32 ⟨⟩) ⟨⟩) ⟨⟩) ⟨⟩) ⟨⟩) ⟨⟩) h_26 ⟨⟩) ⟨⟩) h_24 ⟨⟩) ⟨⟩ ⟨⟩) h_23 ⟨⟩) h_21 ⟨⟩ ⟨⟩) h_19 ⟨⟩ ⟨⟩) h_17 ⟨⟩ ⟨⟩) h_16 ⟨⟩) h_14 ⟨⟩ ⟨⟩) h_12 ⟨⟩ ⟨⟩) h_10 ⟨⟩ ⟨⟩) h_9 ⟨⟩) h_7 ⟨⟩ ⟨⟩) h_5 ⟨⟩ ⟨⟩) h_4 ⟨⟩) h_3 ⟨⟩) h_2 ⟨⟩) ⟨⟩) ⟨⟩

theorem n8_calls {R : Value → Heap → Prop} {h : Heap} (H : n8  R h) : CallsH Tryz.prog 8 #[] h R ⟨⟩ :=
 callsH_of_eq Tryz.follow .l Tryz.func8 (by kernel_rfl) (by kernel_rfl) (by kernel_rfl) H

/-- palimpsest/palimpsestlaw14.file -/
def n9 (n0 fates1 : Value) (R : Value → Heap → Prop) (h : Heap) : Prop :=
 CallsH Tryz.prog 35 #[(.slice none 0 0)] h (fun t8 h_1 => 
 Hp Tryz.prog false (Instr.extract t8 0) (fun t9 h_2 => 
 Hp Tryz.prog false (Instr.extract t8 1) (fun t10 h_3 => 
 Hp Tryz.prog false (binS .eql 26 (.tmp 11) (.const (.pointer none)) t9 (.pointer none)) (fun t12 h_4 => 
 Join1 (fun k h_5 => guardP t12 false (k t10 h_5) (k undef h_5) ⟨⟩ ⟨⟩) (fun t14 h_6 => 
 Join1 (fun k_1 h_7 => guardP t12 false (CallsH Tryz.prog 11 #[t14] h_7 k_1 ⟨⟩) (k_1 undef h_7) ⟨⟩ ⟨⟩) (fun t15 h_8 => 
 Join1 (fun k_2 h_9 => guardP t12 false (Hp Tryz.prog false (binS .neq 3 (.tmp 15) (.const (.int .i64 0)) t15 (.int .i64 0)) k_2 h_9 ⟨⟩) (k_2 undef h_9) ⟨⟩ ⟨⟩) (fun t16 h_10 => 
 Hp Tryz.prog false (pickS t12 (.bool true) t16) (fun t17 h_11 => 
 Join1 (fun k_3 h_12 => guardP t17 false (k_3 t9 h_12) (k_3 undef h_12) ⟨⟩ ⟨⟩) (fun t19 h_13 => 
 Join1 (fun k_4 h_14 => guardP t17 false (CallsH Tryz.prog 36 #[t19, (str [102])] h_14 k_4 ⟨⟩) (k_4 undef h_14) ⟨⟩ ⟨⟩) (fun t20 h_15 => 
 Join1 (fun k_5 h_16 => guardP t17 false (CallsH Tryz.prog 11 #[t20] h_16 k_5 ⟨⟩) (k_5 undef h_16) ⟨⟩ ⟨⟩) (fun t21 h_17 => 
 Join1 (fun k_6 h_18 => guardP t17 false (Hp Tryz.prog false (binS .neq 3 (.tmp 21) (.const (.int .i64 0)) t21 (.int .i64 0)) k_6 h_18 ⟨⟩) (k_6 undef h_18) ⟨⟩ ⟨⟩) (fun t22 h_19 => 
 Hp Tryz.prog false (pickS t17 (.bool true) t22) (fun t23 h_20 => 
 Join1 (fun k_7 h_21 => guardP t23 false (k_7 t9 h_21) (k_7 undef h_21) ⟨⟩ ⟨⟩) (fun t25 h_22 => 
 Join1 (fun k_8 h_23 => guardP t23 false (k_8 n0 h_23) (k_8 undef h_23) ⟨⟩ ⟨⟩) (fun t26 h_24 => 
 Join1 (fun k_9 h_25 => guardP t23 false (CallsH Tryz.prog 37 #[t25, (str [102]), t26] h_25 k_9 ⟨⟩) (k_9 undef h_25) ⟨⟩ ⟨⟩) (fun t27 h_26 => 
 Join1 (fun k_10 h_27 => guardP t23 false (CallsH Tryz.prog 11 #[t27] h_27 k_10 ⟨⟩) (k_10 undef h_27) ⟨⟩ ⟨⟩) (fun t28 h_28 => 
 Join1 (fun k_11 h_29 => guardP t23 false (Hp Tryz.prog false (binS .neq 3 (.tmp 28) (.const (.int .i64 0)) t28 (.int .i64 0)) k_11 h_29 ⟨⟩) (k_11 undef h_29) ⟨⟩ ⟨⟩) (fun t29 h_30 => 
 Hp Tryz.prog false (pickS t23 (.bool true) t29) (fun t30 h_31 => 
 Join1 (fun k_12 h_32 => guardP t30 false (k_12 t9 h_32) (k_12 undef h_32) ⟨⟩ ⟨⟩) (fun t32 h_33 => 
 Join1 (fun k_13 h_34 => guardP t30 false (k_13 fates1 h_34) (k_13 undef h_34) ⟨⟩ ⟨⟩) (fun t33 h_35 => 
 Join1 (fun k_14 h_36 => guardP t30 false (CallsH Tryz.prog 38 #[t32, t33] h_36 k_14 ⟨⟩) (k_14 undef h_36) ⟨⟩ ⟨⟩) (fun t34 h_37 => 
 Join1 (fun k_15 h_38 => guardP t30 false (CallsH Tryz.prog 11 #[t34] h_38 k_15 ⟨⟩) (k_15 undef h_38) ⟨⟩ ⟨⟩) (fun t35 h_39 => 
 Join1 (fun k_16 h_40 => guardP t30 false (Hp Tryz.prog false (binS .neq 3 (.tmp 35) (.const (.int .i64 0)) t35 (.int .i64 0)) k_16 h_40 ⟨⟩) (k_16 undef h_40) ⟨⟩ ⟨⟩) (fun t36 h_41 => 
 Hp Tryz.prog false (pickS t30 (.bool true) t36) (fun t37 h_42 => 
 CondP t37 (
 R (.pointer none) h_42) (
 R t9 h_42) ⟨⟩ ⟨⟩) h_41 ⟨⟩) h_39 ⟨⟩ ⟨⟩) h_37 ⟨⟩ ⟨⟩) h_35 ⟨⟩ ⟨⟩) h_33 ⟨⟩ ⟨⟩) h_31 ⟨⟩ ⟨⟩) h_30 ⟨⟩) h_28 ⟨⟩ ⟨⟩) h_26 ⟨⟩ ⟨⟩) h_24 ⟨⟩ ⟨⟩) h_22 ⟨⟩ ⟨⟩) h_20 ⟨⟩ ⟨⟩) h_19 ⟨⟩) h_17 ⟨⟩ ⟨⟩) h_15 ⟨⟩ ⟨⟩) h_13 ⟨⟩ ⟨⟩) h_11 ⟨⟩ ⟨⟩) h_10 ⟨⟩) h_8 ⟨⟩ ⟨⟩) h_6 ⟨⟩ ⟨⟩) h_4 ⟨⟩ ⟨⟩) h_3 ⟨⟩) h_2 ⟨⟩) h_1 ⟨⟩) ⟨⟩

theorem n9_calls {n0 fates1 : Value} {R : Value → Heap → Prop} {h : Heap} (H : n9 n0 fates1 R h) : CallsH Tryz.prog 9 #[n0, fates1] h R ⟨⟩ :=
 callsH_of_eq Tryz.follow .l Tryz.func9 (by kernel_rfl) (by kernel_rfl) (by kernel_rfl) H

/-- palimpsest/cache.New -/
def n10 (s0 name1 bits2 room3 : Value) (R : Value → Heap → Prop) (h : Heap) : Prop :=
 Hp Tryz.prog false (binS .eql 26 (.tmp 13) (.const (.pointer none)) s0 (.pointer none)) (fun t14 h_1 => 
 CondP t14 (
 R (.tuple #[(.pointer none), (.int .i64 1)]) h_1) (
 Hp Tryz.prog false (binS .lss 3 (.tmp 16) (.const (.int .i64 9)) bits2 (.int .i64 9)) (fun t17 h_2 => 
 Join1 (fun k h_3 => guardP t17 false (k bits2 h_3) (k undef h_3) ⟨⟩ ⟨⟩) (fun t19 h_4 => 
 Join1 (fun k_1 h_5 => guardP t17 false (Hp Tryz.prog false (binS .gtr 3 (.tmp 19) (.const (.int .i64 16)) t19 (.int .i64 16)) k_1 h_5 ⟨⟩) (k_1 undef h_5) ⟨⟩ ⟨⟩) (fun t20 h_6 => 
 Hp Tryz.prog false (pickS t17 (.bool true) t20) (fun t21 h_7 => 
 Join1 (fun k_2 h_8 => guardP t21 false (k_2 room3 h_8) (k_2 undef h_8) ⟨⟩ ⟨⟩) (fun t23 h_9 => 
 Join1 (fun k_3 h_10 => guardP t21 false (Hp Tryz.prog false (binS .lss 3 (.tmp 23) (.const (.int .i64 1)) t23 (.int .i64 1)) k_3 h_10 ⟨⟩) (k_3 undef h_10) ⟨⟩ ⟨⟩) (fun t24 h_11 => 
 Hp Tryz.prog false (pickS t21 (.bool true) t24) (fun t25 h_12 => 
 Join1 (fun k_4 h_13 => guardP t25 false (k_4 room3 h_13) (k_4 undef h_13) ⟨⟩ ⟨⟩) (fun t27 h_14 => 
 Join1 (fun k_5 h_15 => guardP t25 false (Hp Tryz.prog false (binS .gtr 3 (.tmp 27) (.const (.int .i64 1024)) t27 (.int .i64 1024)) k_5 h_15 ⟨⟩) (k_5 undef h_15) ⟨⟩ ⟨⟩) (fun t28 h_16 => 
 Hp Tryz.prog false (pickS t25 (.bool true) t28) (fun t29 h_17 => 
 CondP t29 (
 R (.tuple #[(.pointer none), (.int .i64 2)]) h_17) (
 CallsH Tryz.prog 18 #[s0, name1] h_17 (fun t33 h_18 => 
 Hp Tryz.prog false (Instr.extract t33 0) (fun t34 h_19 => 
 Hp Tryz.prog false (Instr.extract t33 1) (fun t35 h_20 => 
 Hp Tryz.prog false (binS .neq 29 (.tmp 36) (.const (.int .i64 0)) t35 (.int .i64 0)) (fun t37 h_21 => 
 CondP t37 (
 R (.tuple #[(.pointer none), t35]) h_21) (
 Hp Tryz.prog false (Instr.makeMap 88 none) (fun t43 h_22 => 
 Hp Tryz.prog false (Instr.makeMap 90 none) (fun t44 h_23 => 
 Hp Tryz.prog false (Instr.makeMap 91 none) (fun t45 h_24 => 
 Hp Tryz.prog false (Instr.build 93 #[(0, s0), (1, name1), (2, bits2), (3, room3), (4, t43), (5, t44), (6, t45)]) (fun t46 h_25 => 
 Hp Tryz.prog false (Instr.box 93 t46) (fun t47 h_26 => 
 R (.tuple #[t47, (.int .i64 0)]) h_26) h_25 ⟨⟩) h_24 ⟨⟩) h_23 ⟨⟩) h_22 ⟨⟩) h_21 ⟨⟩) ⟨⟩ ⟨⟩) h_20 ⟨⟩) h_19 ⟨⟩) h_18 ⟨⟩) ⟨⟩) ⟨⟩ ⟨⟩) h_16 ⟨⟩) h_14 ⟨⟩ ⟨⟩) h_12 ⟨⟩ ⟨⟩) h_11 ⟨⟩) h_9 ⟨⟩ ⟨⟩) h_7 ⟨⟩ ⟨⟩) h_6 ⟨⟩) h_4 ⟨⟩ ⟨⟩) h_2 ⟨⟩ ⟨⟩) h_1 ⟨⟩) ⟨⟩ ⟨⟩) h ⟨⟩

theorem n10_calls {s0 name1 bits2 room3 : Value} {R : Value → Heap → Prop} {h : Heap} (H : n10 s0 name1 bits2 room3 R h) : CallsH Tryz.prog 10 #[s0, name1, bits2, room3] h R ⟨⟩ :=
 callsH_of_eq Tryz.follow .l Tryz.func10 (by kernel_rfl) (by kernel_rfl) (by kernel_rfl) H

/-- palimpsest/palimpsestlaw14.num -/
def n11 (e0 : Value) (R : Value → Heap → Prop) (h : Heap) : Prop :=
 R e0 h

theorem n11_calls {e0 : Value} {R : Value → Heap → Prop} {h : Heap} (H : n11 e0 R h) : CallsH Tryz.prog 11 #[e0] h R ⟨⟩ :=
 callsH_of_eq Tryz.follow .l Tryz.func11 (by kernel_rfl) (by kernel_rfl) (by kernel_rfl) H

/-- (*palimpsest/cache.Cache).Read -/
def n12 (c0 n1 at2 k3 : Value) (R : Value → Heap → Prop) (h : Heap) : Prop :=
 CallsH Tryz.prog 39 #[c0, n1, at2, k3] h (fun t17 h_1 => 
 Hp Tryz.prog false (Instr.extract t17 0) (fun t18 h_2 => 
 Hp Tryz.prog false (Instr.extract t17 1) (fun t19 h_3 => 
 Hp Tryz.prog false (binS .neq 29 (.tmp 20) (.const (.int .i64 0)) t19 (.int .i64 0)) (fun t21 h_4 => 
 CondP t21 (
 R (.tuple #[(.slice none 0 0), t19]) h_4) (
 Hp Tryz.prog false (nilS t18) (fun t24 h_5 => 
 Hp Tryz.prog false (Instr.fieldAt 99 t24 1) (fun t25 h_6 => 
 Hp Tryz.prog false (Instr.loadAt 33 t25) (fun t26 h_7 => 
 Hp Tryz.prog false (binS .add 3 (.tmp 28) (.tmp 29) at2 k3) (fun t30 h_8 => 
 Hp Tryz.prog false (Instr.sliceAt 33 t26 (some at2) (some t30) none) (fun t31 h_9 => 
 CallsH Tryz.prog 40 #[t31] h_9 (fun t32 h_10 => 
 R (.tuple #[t32, (.int .i64 0)]) h_10) ⟨⟩) h_8 ⟨⟩) h_7 ⟨⟩) h_6 ⟨⟩) h_5 ⟨⟩) h_4 ⟨⟩) ⟨⟩ ⟨⟩) h_3 ⟨⟩) h_2 ⟨⟩) h_1 ⟨⟩) ⟨⟩

theorem n12_calls {c0 n1 at2 k3 : Value} {R : Value → Heap → Prop} {h : Heap} (H : n12 c0 n1 at2 k3 R h) : CallsH Tryz.prog 12 #[c0, n1, at2, k3] h R ⟨⟩ :=
 callsH_of_eq Tryz.follow .l Tryz.func12 (by kernel_rfl) (by kernel_rfl) (by kernel_rfl) H

/-- (*palimpsest/cache.Cache).Write -/
def n13 (c0 n1 at2 b3 : Value) (R : Value → Heap → Prop) (h : Heap) : Prop :=
 Hp Tryz.prog false (Builtin.len_ #[33] 3 #[b3]) (fun t16 h_1 => 
 CallsH Tryz.prog 39 #[c0, n1, at2, t16] h_1 (fun t17 h_2 => 
 Hp Tryz.prog false (Instr.extract t17 0) (fun t18 h_3 => 
 Hp Tryz.prog false (Instr.extract t17 1) (fun t19 h_4 => 
 Hp Tryz.prog false (binS .neq 29 (.tmp 20) (.const (.int .i64 0)) t19 (.int .i64 0)) (fun t21 h_5 => 
 CondP t21 (
 R t19 h_5) (
 Hp Tryz.prog false (nilS t18) (fun t24 h_6 => 
 Hp Tryz.prog false (Instr.fieldAt 99 t24 1) (fun t25 h_7 => 
 Hp Tryz.prog false (Instr.loadAt 33 t25) (fun t26 h_8 => 
 Hp Tryz.prog false (Instr.sliceAt 33 t26 (some at2) none none) (fun t28 h_9 => 
 Hp Tryz.prog false (Builtin.copy_ #[33, 33] 3 #[t28, b3]) (fun t30 h_10 => 
 Hp Tryz.prog false (nilS t18) (fun t33 h_11 => 
 Hp Tryz.prog false (Instr.fieldAt 99 t33 2) (fun t34 h_12 => 
 Hp Tryz.prog false (Instr.loadAt 4 t34) (fun t35 h_13 => 
 Join1 (fun k h_14 => guardP t35 false (k b3 h_14) (k undef h_14) ⟨⟩ ⟨⟩) (fun t37 h_15 => 
 Join1 (fun k_1 h_16 => guardP t35 false (Hp Tryz.prog false (Builtin.len_ #[33] 3 #[t37]) k_1 h_16 ⟨⟩) (k_1 undef h_16) ⟨⟩ ⟨⟩) (fun t38 h_17 => 
 Join1 (fun k_2 h_18 => guardP t35 false (Hp Tryz.prog false (binS .gtr 3 (.tmp 38) (.const (.int .i64 0)) t38 (.int .i64 0)) k_2 h_18 ⟨⟩) (k_2 undef h_18) ⟨⟩ ⟨⟩) (fun t39 h_19 => 
 Hp Tryz.prog false (pickS t35 (.bool true) t39) (fun t40 h_20 => 
 Hp Tryz.prog false (nilS t18) (fun t41 h_21 => 
 Hp Tryz.prog false (Instr.fieldAt 99 t41 2) (fun t42 h_22 => 
 Hp Tryz.prog false (storeS 4 t42 t40) (fun _ h_23 => 
 R (.int .i64 0) h_23) h_22 ⟨⟩) h_21 ⟨⟩) h_20 ⟨⟩) h_19 ⟨⟩) h_17 ⟨⟩ ⟨⟩) h_15 ⟨⟩ ⟨⟩) h_13 ⟨⟩ ⟨⟩) h_12 ⟨⟩) h_11 ⟨⟩) h_10 ⟨⟩) h_9 ⟨⟩) h_8 ⟨⟩) h_7 ⟨⟩) h_6 ⟨⟩) h_5 ⟨⟩) ⟨⟩ ⟨⟩) h_4 ⟨⟩) h_3 ⟨⟩) h_2 ⟨⟩) ⟨⟩) h ⟨⟩

theorem n13_calls {c0 n1 at2 b3 : Value} {R : Value → Heap → Prop} {h : Heap} (H : n13 c0 n1 at2 b3 R h) : CallsH Tryz.prog 13 #[c0, n1, at2, b3] h R ⟨⟩ :=
 callsH_of_eq Tryz.follow .l Tryz.func13 (by kernel_rfl) (by kernel_rfl) (by kernel_rfl) H

/-- (*palimpsest/cache.Cache).After -/
def n14 (c0 n1 other2 : Value) (R : Value → Heap → Prop) (h : Heap) : Prop :=
 CallsH Tryz.prog 41 #[c0, n1] h (fun t11 h_1 => 
 Hp Tryz.prog false (binS .neq 29 (.tmp 12) (.const (.int .i64 0)) t11 (.int .i64 0)) (fun t13 h_2 => 
 CondP t13 (
 R t11 h_2) (
 CallsH Tryz.prog 41 #[c0, other2] h_2 (fun t17 h_3 => 
 Hp Tryz.prog false (binS .neq 29 (.tmp 18) (.const (.int .i64 0)) t17 (.int .i64 0)) (fun t19 h_4 => 
 CondP t19 (
 R t17 h_4) (
 JoinN 0 (fun (k : Heap → Prop) h_5 =>
 JoinN 0 (fun (k_1 : Heap → Prop) h_6 =>
 Hp Tryz.prog false (binS .eql 2 (.tmp 22) (.tmp 23) n1 other2) (fun t24 h_7 => 
 Join1 (fun k_2 h_8 => guardP t24 false (k_2 c0 h_8) (k_2 undef h_8) ⟨⟩ ⟨⟩) (fun t26 h_9 => 
 Join1 (fun k_3 h_10 => guardP t24 false (k_3 other2 h_10) (k_3 undef h_10) ⟨⟩ ⟨⟩) (fun t27 h_11 => 
 Join1 (fun k_4 h_12 => guardP t24 false (k_4 n1 h_12) (k_4 undef h_12) ⟨⟩ ⟨⟩) (fun t28 h_13 => 
 Join1 (fun k_5 h_14 => guardP t24 false (CallsH Tryz.prog 42 #[t26, t27, t28] h_14 k_5 ⟨⟩) (k_5 undef h_14) ⟨⟩ ⟨⟩) (fun t29 h_15 => 
 Hp Tryz.prog false (pickS t24 (.bool true) t29) (fun t30 h_16 => 
 CondP t30 (
 R (.int .i64 240) h_16) (
 CallsH Tryz.prog 43 #[c0, other2] h_16 (fun t34 h_17 => 
 Hp Tryz.prog false (Op.unary .not t34) (fun t35 h_18 => 
 CondP t35 (
 R (.int .i64 0) h_18) (
 Hp Tryz.prog false (nilS c0) (fun t38 h_19 => 
 Hp Tryz.prog false (Instr.fieldAt 93 t38 6) (fun t39 h_20 => 
 Hp Tryz.prog false (Instr.loadAt 91 t39) (fun t40 h_21 => 
 Hp Tryz.prog false (Instr.lookup 91 t40 n1 false) (fun t42 h_22 => 
 Hp Tryz.prog false (binS .eql 90 (.tmp 42) (.const (.map none)) t42 (.map none)) (fun t43 h_23 => 
 CondP t43 (
 Hp Tryz.prog false (nilS c0) (fun t45 h_24 => 
 Hp Tryz.prog false (Instr.fieldAt 93 t45 6) (fun t46 h_25 => 
 Hp Tryz.prog false (Instr.loadAt 91 t46) (fun t47 h_26 => 
 Hp Tryz.prog false (Instr.makeMap 90 none) (fun t49 h_27 => 
 Hp Tryz.prog false (unitS (Instr.mapUpdate 91 t47 n1 t49)) (fun _ h_28 => 
 k_1 h_28) h_27 ⟨⟩) h_26 ⟨⟩) h_25 ⟨⟩) h_24 ⟨⟩) h_23 ⟨⟩) (
 k_1 h_23) ⟨⟩ ⟨⟩) h_22 ⟨⟩) h_21 ⟨⟩) h_20 ⟨⟩) h_19 ⟨⟩) h_18 ⟨⟩) ⟨⟩ ⟨⟩) h_17 ⟨⟩) ⟨⟩) ⟨⟩ ⟨⟩) h_15 ⟨⟩) h_13 ⟨⟩ ⟨⟩) h_11 ⟨⟩ ⟨⟩) h_9 ⟨⟩ ⟨⟩) h_7 ⟨⟩ ⟨⟩) h_6 ⟨⟩)
 (fun h_29 =>
 k h_29) h_5 ⟨⟩ ⟨⟩)
 (fun h_30 =>
 Hp Tryz.prog false (nilS c0) (fun t51 h_31 => 
 Hp Tryz.prog false (Instr.fieldAt 93 t51 6) (fun t52 h_32 => 
 Hp Tryz.prog false (Instr.loadAt 91 t52) (fun t53 h_33 => 
 Hp Tryz.prog false (Instr.lookup 91 t53 n1 false) (fun t55 h_34 => 
 Hp Tryz.prog false (unitS (Instr.mapUpdate 90 t55 other2 (.bool true))) (fun _ h_35 => 
 R (.int .i64 0) h_35) h_34 ⟨⟩) h_33 ⟨⟩) h_32 ⟨⟩) h_31 ⟨⟩) h_30 ⟨⟩) h_4 ⟨⟩ ⟨⟩) ⟨⟩ ⟨⟩) h_3 ⟨⟩) ⟨⟩) ⟨⟩ ⟨⟩) h_1 ⟨⟩) ⟨⟩

theorem n14_calls {c0 n1 other2 : Value} {R : Value → Heap → Prop} {h : Heap} (H : n14 c0 n1 other2 R h) : CallsH Tryz.prog 14 #[c0, n1, other2] h R ⟨⟩ :=
 callsH_of_eq Tryz.follow (.n none .l (.n none .l (.n none .l (.n (some []) (.n (some []) .l .l) .l)))) Tryz.func14 (by kernel_rfl) (by kernel_rfl) (by kernel_rfl) H

/-- (*palimpsest/cache.Cache).Back -/
def n15 (c0 n1 : Value) (R : Value → Heap → Prop) (h : Heap) : Prop :=
 CallsH Tryz.prog 41 #[c0, n1] h (fun t8 h_1 => 
 Hp Tryz.prog false (binS .neq 29 (.tmp 10) (.const (.int .i64 0)) t8 (.int .i64 0)) (fun t11 h_2 => 
 CondP t11 (
 R t8 h_2) (
 Hp Tryz.prog false (nilS c0) (fun t15 h_3 => 
 Hp Tryz.prog false (Instr.fieldAt 93 t15 4) (fun t16 h_4 => 
 Hp Tryz.prog false (Instr.loadAt 88 t16) (fun t17 h_5 => 
 Hp Tryz.prog false (Instr.lookup 88 t17 n1 false) (fun t19 h_6 => 
 Hp Tryz.prog false (binS .eql 94 (.tmp 19) (.const (.pointer none)) t19 (.pointer none)) (fun t20 h_7 => 
 CondP t20 (
 R (.int .i64 7) h_7) (
 CallsH Tryz.prog 44 #[c0, n1] h_7 (fun t23 h_8 => 
 R t23 h_8) ⟨⟩) ⟨⟩ ⟨⟩) h_6 ⟨⟩) h_5 ⟨⟩) h_4 ⟨⟩) h_3 ⟨⟩) h_2 ⟨⟩) ⟨⟩ ⟨⟩) h_1 ⟨⟩) ⟨⟩

theorem n15_calls {c0 n1 : Value} {R : Value → Heap → Prop} {h : Heap} (H : n15 c0 n1 R h) : CallsH Tryz.prog 15 #[c0, n1] h R ⟨⟩ :=
 callsH_of_eq Tryz.follow .l Tryz.func15 (by kernel_rfl) (by kernel_rfl) (by kernel_rfl) H

/-- (*palimpsest/cache.Cache).Flush -/
def n16 (c0 : Value) (R : Value → Heap → Prop) (h : Heap) : Prop :=
 CallsH Tryz.prog 41 #[c0, (.int .i64 0)] h (fun t8 h_1 => 
 Hp Tryz.prog false (binS .neq 29 (.tmp 9) (.const (.int .i64 0)) t8 (.int .i64 0)) (fun t10 h_2 => 
 CondP t10 (
 R t8 h_2) (
 Hp Tryz.prog false (nilS c0) (fun t13 h_3 => 
 Hp Tryz.prog false (Instr.fieldAt 93 t13 4) (fun t14 h_4 => 
 Hp Tryz.prog false (Instr.loadAt 88 t14) (fun t15 h_5 => 
 CallsH Tryz.prog 46 #[t15] h_5 (fun t16 h_6 => 
 CallsH Tryz.prog 45 #[t16] h_6 (fun t17 h_7 => 
 Hp Tryz.prog false (Builtin.len_ #[102] 3 #[t17]) (fun t18 h_8 => 
 LoopC 1 (fun (X : Value → Heap → Prop) => fun t19 h_9 =>
 Hp Tryz.prog false (binS .lss 3 (.tmp 19) (.tmp 18) t19 t18) (fun t20 h_10 => 
 CondP t20 (
 Hp Tryz.prog false (Instr.indexAt 102 t17 t19) (fun t21 h_11 => 
 Hp Tryz.prog false (Instr.loadAt 2 t21) (fun t22 h_12 => 
 CallsH Tryz.prog 44 #[c0, t22] h_12 (fun t25 h_13 => 
 Hp Tryz.prog false (binS .neq 29 (.tmp 26) (.const (.int .i64 0)) t25 (.int .i64 0)) (fun t27 h_14 => 
 CondP t27 (
 R t25 h_14) (
 Hp Tryz.prog false (binS .add 3 (.tmp 19) (.const (.int .i64 1)) t19 (.int .i64 1)) (fun t29 h_15 => 
 X t29 h_15) h_14 ⟨⟩) ⟨⟩ ⟨⟩) h_13 ⟨⟩) ⟨⟩) h_11 ⟨⟩) h_10 ⟨⟩) (
 CallsH Tryz.prog 47 #[c0] h_10 (fun t31 h_16 => 
 R t31 h_16) ⟨⟩) ⟨⟩ ⟨⟩) h_9 ⟨⟩) [(.int .i64 0)] h_8 ⟨⟩) h_7 ⟨⟩) ⟨⟩) ⟨⟩) h_4 ⟨⟩) h_3 ⟨⟩) h_2 ⟨⟩) ⟨⟩ ⟨⟩) h_1 ⟨⟩) ⟨⟩

theorem n16_calls {c0 : Value} {R : Value → Heap → Prop} {h : Heap} (H : n16 c0 R h) : CallsH Tryz.prog 16 #[c0] h R ⟨⟩ :=
 callsH_of_eq Tryz.follow (.n none .l (.n none .l (.n none (.n none .l (.n none (.n (some [20]) .l .l) .l)) .l))) Tryz.func16 (by kernel_rfl) (by kernel_rfl) (by kernel_rfl) H

/-- (*palimpsest/store.Store).Pending -/
def n17 (s0 : Value) (R : Value → Heap → Prop) (h : Heap) : Prop :=
 Hp Tryz.prog false (Instr.alloc 3 true undef) (fun n3 h_1 => 
 Hp Tryz.prog false (storeS 3 n3 (.int .i64 0)) (fun _ h_2 => 
 JoinN 1 (fun (k : Value → Heap → Prop) h_3 =>
 CallsH Tryz.prog 48 #[s0] h_3 (fun t7 h_4 => 
 Hp Tryz.prog false (Builtin.len_ #[105] 3 #[t7]) (fun t8 h_5 => 
 JoinN 1 (fun (k_1 : Value → Heap → Prop) h_6 =>
 LoopC 2 (fun (X : Value → Value → Heap → Prop) => fun D t9 h_7 =>
 Hp Tryz.prog false (binS .lss 3 (.tmp 9) (.tmp 8) t9 t8) (fun t10 h_8 => 
 CondP t10 (
 JoinN 1 (fun (k_2 : Value → Heap → Prop) h_9 =>
 JoinN 1 (fun (k_3 : Value → Heap → Prop) h_10 =>
 Hp Tryz.prog false (Instr.indexAt 105 t7 t9) (fun t11 h_11 => 
 Hp Tryz.prog false (Instr.loadAt 9 t11) (fun t12 h_12 => 
 CallsH Tryz.prog 49 #[s0, t12] h_12 (fun t15 h_13 => 
 JoinN 1 (fun (k_4 : Value → Heap → Prop) h_14 =>
 RangeC Tryz.prog none t15 1 D (fun l args bg Nb Jb h_15 =>
 bg (fun h_16 =>
 Hp Tryz.prog false (Instr.loadAt 3 n3) (fun t17 h_17 => 
 Hp Tryz.prog false (binS .add 3 (.tmp 17) (.const (.int .i64 1)) t17 (.int .i64 1)) (fun t18 h_18 => 
 Hp Tryz.prog false (storeS 3 n3 t18) (fun _ h_19 => 
 Nb h_19) h_18 ⟨⟩) h_17 ⟨⟩) h_16 ⟨⟩) h_15)
 (fun D_1 h_20 =>
 k_4 D_1 h_20)
 (fun D_2 h_21 =>
 RetD D_2 h_21 (fun h_22 =>
 R (.int .i64 0) h_22) ⟨⟩)
 (fun id D_3 h_23 => bif Nat.beq id 2 then (k_4 D_3 h_23) else bif Nat.beq id 1 then (k_3 D_3 h_23) else bif Nat.beq id 0 then (k_1 D_3 h_23) else False) h_14 ⟨⟩ ⟨⟩ ⟨⟩ ⟨⟩)
 (fun D_4 h_24 =>
 k_3 D_4 h_24) h_13 ⟨⟩ ⟨⟩) ⟨⟩) h_11 ⟨⟩) h_10 ⟨⟩)
 (fun D_5 h_25 =>
 k_2 D_5 h_25) h_9 ⟨⟩ ⟨⟩)
 (fun D_6 h_26 =>
 Hp Tryz.prog false (binS .add 3 (.tmp 9) (.const (.int .i64 1)) t9 (.int .i64 1)) (fun t19 h_27 => 
 X D_6 t19 h_27) h_26 ⟨⟩) h_8 ⟨⟩ ⟨⟩) (
 k_1 D h_8) ⟨⟩ ⟨⟩) h_7 ⟨⟩) [(.tuple #[]), (.int .i64 0)] h_6 ⟨⟩)
 (fun D_7 h_28 =>
 k D_7 h_28) h_5 ⟨⟩ ⟨⟩) h_4 ⟨⟩) ⟨⟩)
 (fun D_8 h_29 =>
 Hp Tryz.prog false (Instr.loadAt 3 n3) (fun t20 h_30 => 
 RetD D_8 h_30 (fun h_31 =>
 R t20 h_31) ⟨⟩) h_29 ⟨⟩) h_2 ⟨⟩ ⟨⟩) h_1 ⟨⟩) h ⟨⟩

theorem n17_calls {s0 : Value} {R : Value → Heap → Prop} {h : Heap} (H : n17 s0 R h) : CallsH Tryz.prog 17 #[s0] h R ⟨⟩ :=
 callsH_of_eq Tryz.follow (.n none .l (.n none .l (.n (some [0]) (.n none .l (.n (some [0]) (.n (some [0, 10]) (.n none .l (.n none .l (.n (some [0]) (.n (some [0]) (.n none .l (.n none .l (.n (some [0]) .l .l))) .l) .l))) .l) .l)) .l))) Tryz.func17 (by kernel_rfl) (by kernel_rfl) (by kernel_rfl) H

/-- (*palimpsest/store.Store).Size -/
def n18 (s0 name1 : Value) (R : Value → Heap → Prop) (h : Heap) : Prop :=
 CallsH Tryz.prog 50 #[s0, name1] h (fun t11 h_1 => 
 Hp Tryz.prog false (Instr.extract t11 0) (fun t12 h_2 => 
 Hp Tryz.prog false (Instr.extract t11 1) (fun t13 h_3 => 
 Hp Tryz.prog false (binS .neq 29 (.tmp 14) (.const (.int .i64 0)) t13 (.int .i64 0)) (fun t15 h_4 => 
 CondP t15 (
 R (.tuple #[(.int .i64 0), t13]) h_4) (
 Hp Tryz.prog false (nilS t12) (fun t18 h_5 => 
 Hp Tryz.prog false (Instr.fieldAt 115 t18 2) (fun t19 h_6 => 
 Hp Tryz.prog false (Instr.loadAt 33 t19) (fun t20 h_7 => 
 Hp Tryz.prog false (Builtin.len_ #[33] 3 #[t20]) (fun t21 h_8 => 
 R (.tuple #[t21, (.int .i64 0)]) h_8) h_7 ⟨⟩) h_6 ⟨⟩) h_5 ⟨⟩) h_4 ⟨⟩) ⟨⟩ ⟨⟩) h_3 ⟨⟩) h_2 ⟨⟩) h_1 ⟨⟩) ⟨⟩

theorem n18_calls {s0 name1 : Value} {R : Value → Heap → Prop} {h : Heap} (H : n18 s0 name1 R h) : CallsH Tryz.prog 18 #[s0, name1] h R ⟨⟩ :=
 callsH_of_eq Tryz.follow .l Tryz.func18 (by kernel_rfl) (by kernel_rfl) (by kernel_rfl) H

/-- (*palimpsest/store.Store).Read -/
def n19 (s0 name1 at2 n3 : Value) (R : Value → Heap → Prop) (h : Heap) : Prop :=
 CallsH Tryz.prog 50 #[s0, name1] h (fun t16 h_1 => 
 Hp Tryz.prog false (Instr.extract t16 0) (fun t17 h_2 => 
 Hp Tryz.prog false (Instr.extract t16 1) (fun t18 h_3 => 
 Hp Tryz.prog false (binS .neq 29 (.tmp 20) (.const (.int .i64 0)) t18 (.int .i64 0)) (fun t21 h_4 => 
 CondP t21 (
 R (.tuple #[(.slice none 0 0), t18]) h_4) (
 Hp Tryz.prog false (binS .lss 2 (.tmp 24) (.const (.int .i64 0)) at2 (.int .i64 0)) (fun t25 h_5 => 
 Join1 (fun k h_6 => guardP t25 false (k at2 h_6) (k undef h_6) ⟨⟩ ⟨⟩) (fun t27 h_7 => 
 Join1 (fun k_1 h_8 => guardP t25 false (k_1 t17 h_8) (k_1 undef h_8) ⟨⟩ ⟨⟩) (fun t28 h_9 => 
 Join1 (fun k_2 h_10 => guardP t25 false (Hp Tryz.prog false (nilS t28) k_2 h_10 ⟨⟩) (k_2 undef h_10) ⟨⟩ ⟨⟩) (fun t29 h_11 => 
 Join1 (fun k_3 h_12 => guardP t25 false (Hp Tryz.prog false (Instr.fieldAt 115 t29 2) k_3 h_12 ⟨⟩) (k_3 undef h_12) ⟨⟩ ⟨⟩) (fun t30 h_13 => 
 Join1 (fun k_4 h_14 => guardP t25 false (Hp Tryz.prog false (Instr.loadAt 33 t30) k_4 h_14 ⟨⟩) (k_4 undef h_14) ⟨⟩ ⟨⟩) (fun t31 h_15 => 
 Join1 (fun k_5 h_16 => guardP t25 false (Hp Tryz.prog false (Builtin.len_ #[33] 3 #[t31]) k_5 h_16 ⟨⟩) (k_5 undef h_16) ⟨⟩ ⟨⟩) (fun t32 h_17 => 
 Join1 (fun k_6 h_18 => guardP t25 false (Hp Tryz.prog false (binS .gtr 2 (.tmp 27) (.tmp 32) t27 t32) k_6 h_18 ⟨⟩) (k_6 undef h_18) ⟨⟩ ⟨⟩) (fun t33 h_19 => 
 Hp Tryz.prog false (pickS t25 (.bool true) t33) (fun t34 h_20 => 
 Join1 (fun k_7 h_21 => guardP t34 false (k_7 n3 h_21) (k_7 undef h_21) ⟨⟩ ⟨⟩) (fun t36 h_22 => 
 Join1 (fun k_8 h_23 => guardP t34 false (Hp Tryz.prog false (binS .lss 3 (.tmp 36) (.const (.int .i64 0)) t36 (.int .i64 0)) k_8 h_23 ⟨⟩) (k_8 undef h_23) ⟨⟩ ⟨⟩) (fun t37 h_24 => 
 Hp Tryz.prog false (pickS t34 (.bool true) t37) (fun t38 h_25 => 
 CondP t38 (
 R (.tuple #[(.slice none 0 0), (.int .i64 4)]) h_25) (
 Hp Tryz.prog false (nilS t17) (fun t40 h_26 => 
 Hp Tryz.prog false (Instr.fieldAt 115 t40 2) (fun t41 h_27 => 
 Hp Tryz.prog false (Instr.loadAt 33 t41) (fun t42 h_28 => 
 Hp Tryz.prog false (Instr.sliceAt 33 t42 (some at2) none none) (fun t44 h_29 => 
 Hp Tryz.prog false (Builtin.len_ #[33] 3 #[t44]) (fun t48 h_30 => 
 Hp Tryz.prog false (Builtin.min_ #[3, 3] 3 #[n3, t48]) (fun t49 h_31 => 
 Hp Tryz.prog false (Instr.sliceAt 33 t44 none (some t49) none) (fun t50 h_32 => 
 CallsH Tryz.prog 51 #[t50] h_32 (fun t51 h_33 => 
 R (.tuple #[t51, (.int .i64 0)]) h_33) ⟨⟩) h_31 ⟨⟩) h_30 ⟨⟩) h_29 ⟨⟩) h_28 ⟨⟩) h_27 ⟨⟩) h_26 ⟨⟩) h_25 ⟨⟩) ⟨⟩ ⟨⟩) h_24 ⟨⟩) h_22 ⟨⟩ ⟨⟩) h_20 ⟨⟩ ⟨⟩) h_19 ⟨⟩) h_17 ⟨⟩ ⟨⟩) h_15 ⟨⟩ ⟨⟩) h_13 ⟨⟩ ⟨⟩) h_11 ⟨⟩ ⟨⟩) h_9 ⟨⟩ ⟨⟩) h_7 ⟨⟩ ⟨⟩) h_5 ⟨⟩ ⟨⟩) h_4 ⟨⟩) ⟨⟩ ⟨⟩) h_3 ⟨⟩) h_2 ⟨⟩) h_1 ⟨⟩) ⟨⟩

theorem n19_calls {s0 name1 at2 n3 : Value} {R : Value → Heap → Prop} {h : Heap} (H : n19 s0 name1 at2 n3 R h) : CallsH Tryz.prog 19 #[s0, name1, at2, n3] h R ⟨⟩ :=
 callsH_of_eq Tryz.follow .l Tryz.func19 (by kernel_rfl) (by kernel_rfl) (by kernel_rfl) H

/-- palimpsest/palimpsestlaw14.grown -/
def n20 (b0 n1 : Value) (R : Value → Heap → Prop) (h : Heap) : Prop :=
 LoopC 1 (fun (X : Value → Heap → Prop) => fun b0_1 h_1 =>
 Hp Tryz.prog false (Builtin.len_ #[33] 3 #[b0_1]) (fun t6 h_2 => 
 Hp Tryz.prog false (binS .lss 3 (.tmp 6) (.tmp 7) t6 n1) (fun t8 h_3 => 
 CondP t8 (
 Hp Tryz.prog false (Instr.buildSlice 33 1 #[(0, (.int .u8 0))]) (fun t10 h_4 => 
 Hp Tryz.prog false (Builtin.append_ #[33, 33] 33 #[b0_1, t10]) (fun t11 h_5 => 
 X t11 h_5) h_4 ⟨⟩) h_3 ⟨⟩) (
 R b0_1 h_3) ⟨⟩ ⟨⟩) h_2 ⟨⟩) h_1 ⟨⟩) [b0] h ⟨⟩

theorem n20_calls {b0 n1 : Value} {R : Value → Heap → Prop} {h : Heap} (H : n20 b0 n1 R h) : CallsH Tryz.prog 20 #[b0, n1] h R ⟨⟩ :=
 callsH_of_eq Tryz.follow (.n none .l (.n none (.n none (.n (some [1]) .l .l) .l) .l)) Tryz.func20 (by kernel_rfl) (by kernel_rfl) (by kernel_rfl) H

/-- (*palimpsest/cache.Cache).Pages -/
def n33 (c0 : Value) (R : Value → Heap → Prop) (h : Heap) : Prop :=
 Hp Tryz.prog false (binS .eql 28 (.tmp 3) (.const (.pointer none)) c0 (.pointer none)) (fun t4 h_1 => 
 CondP t4 (
 CallsH Tryz.prog 73 #[(.slice none 0 0)] h_1 (fun t5 h_2 => 
 R t5 h_2) ⟨⟩) (
 Hp Tryz.prog false (nilS c0) (fun t7 h_3 => 
 Hp Tryz.prog false (Instr.fieldAt 93 t7 4) (fun t8 h_4 => 
 Hp Tryz.prog false (Instr.loadAt 88 t8) (fun t9 h_5 => 
 CallsH Tryz.prog 46 #[t9] h_5 (fun t10 h_6 => 
 CallsH Tryz.prog 45 #[t10] h_6 (fun t11 h_7 => 
 CallsH Tryz.prog 73 #[t11] h_7 (fun t12 h_8 => 
 R t12 h_8) ⟨⟩) ⟨⟩) ⟨⟩) h_4 ⟨⟩) h_3 ⟨⟩) h_1 ⟨⟩) ⟨⟩ ⟨⟩) h ⟨⟩

theorem n33_calls {c0 : Value} {R : Value → Heap → Prop} {h : Heap} (H : n33 c0 R h) : CallsH Tryz.prog 33 #[c0] h R ⟨⟩ :=
 callsH_of_eq Tryz.follow .l Tryz.func33 (by kernel_rfl) (by kernel_rfl) (by kernel_rfl) H

/-- (*palimpsest/cache.Cache).Counts -/
def n34 (c0 : Value) (R : Value → Heap → Prop) (h : Heap) : Prop :=
 Hp Tryz.prog false (Instr.alloc 81 true undef) (fun t2 h_1 => 
 Hp Tryz.prog false (binS .eql 28 (.tmp 3) (.const (.pointer none)) c0 (.pointer none)) (fun t4 h_2 => 
 CondP t4 (
 Hp Tryz.prog false (Instr.build 81 #[]) (fun t5 h_3 => 
 Hp Tryz.prog false (storeS 81 t2 t5) (fun _ h_4 => 
 Hp Tryz.prog true (loadCell 81 t2) (fun r _ =>
 R r h_4) h_4 ⟨⟩) h_3 ⟨⟩) h_2 ⟨⟩) (
 Hp Tryz.prog false (nilS c0) (fun t7 h_5 => 
 Hp Tryz.prog false (Instr.fieldAt 93 t7 8) (fun t8 h_6 => 
 Hp Tryz.prog false (Instr.loadAt 81 t8) (fun t9 h_7 => 
 Hp Tryz.prog false (storeS 81 t2 t9) (fun _ h_8 => 
 Hp Tryz.prog true (loadCell 81 t2) (fun r_1 _ =>
 R r_1 h_8) h_8 ⟨⟩) h_7 ⟨⟩) h_6 ⟨⟩) h_5 ⟨⟩) h_2 ⟨⟩) ⟨⟩ ⟨⟩) h_1 ⟨⟩) h ⟨⟩

theorem n34_calls {c0 : Value} {R : Value → Heap → Prop} {h : Heap} (H : n34 c0 R h) : CallsH Tryz.prog 34 #[c0] h R ⟨⟩ :=
 callsH_of_eq Tryz.follow .l Tryz.func34 (by kernel_rfl) (by kernel_rfl) (by kernel_rfl) H

/-- palimpsest/store.New -/
def n35 (fates0 : Value) (R : Value → Heap → Prop) (h : Heap) : Prop :=
 CallsH Tryz.prog 74 #[fates0] h (fun t5 h_1 => 
 Hp Tryz.prog false (Op.unary .not t5) (fun t6 h_2 => 
 CondP t6 (
 R (.tuple #[(.pointer none), (.int .i64 2)]) h_2) (
 Hp Tryz.prog false (Instr.makeMap 153 none) (fun t7 h_3 => 
 CallsH Tryz.prog 75 #[fates0] h_3 (fun t9 h_4 => 
 Hp Tryz.prog false (Instr.build 156 #[(0, t7), (1, t9)]) (fun t10 h_5 => 
 Hp Tryz.prog false (Instr.box 156 t10) (fun t11 h_6 => 
 R (.tuple #[t11, (.int .i64 0)]) h_6) h_5 ⟨⟩) h_4 ⟨⟩) ⟨⟩) h_2 ⟨⟩) ⟨⟩ ⟨⟩) h_1 ⟨⟩) ⟨⟩

theorem n35_calls {fates0 : Value} {R : Value → Heap → Prop} {h : Heap} (H : n35 fates0 R h) : CallsH Tryz.prog 35 #[fates0] h R ⟨⟩ :=
 callsH_of_eq Tryz.follow .l Tryz.func35 (by kernel_rfl) (by kernel_rfl) (by kernel_rfl) H

/-- (*palimpsest/store.Store).Create -/
def n36 (s0 name1 : Value) (R : Value → Heap → Prop) (h : Heap) : Prop :=
 CallsH Tryz.prog 76 #[s0, name1] h (fun t12 h_1 => 
 Hp Tryz.prog false (binS .neq 29 (.tmp 13) (.const (.int .i64 0)) t12 (.int .i64 0)) (fun t14 h_2 => 
 CondP t14 (
 R t12 h_2) (
 Hp Tryz.prog false (nilS s0) (fun t18 h_3 => 
 Hp Tryz.prog false (Instr.fieldAt 156 t18 0) (fun t19 h_4 => 
 Hp Tryz.prog false (Instr.loadAt 153 t19) (fun t20 h_5 => 
 Hp Tryz.prog false (Instr.lookup 153 t20 name1 true) (fun t22 h_6 => 
 Hp Tryz.prog false (Instr.extract t22 0) (fun t23 h_7 => 
 Hp Tryz.prog false (Instr.extract t22 1) (fun t24 h_8 => 
 CondP t24 (
 R (.int .i64 8) h_8) (
 Hp Tryz.prog false (nilS s0) (fun t27 h_9 => 
 Hp Tryz.prog false (Instr.fieldAt 156 t27 0) (fun t28 h_10 => 
 Hp Tryz.prog false (Instr.loadAt 153 t28) (fun t29 h_11 => 
 Hp Tryz.prog false (Builtin.len_ #[153] 3 #[t29]) (fun t30 h_12 => 
 Hp Tryz.prog false (binS .geq 3 (.tmp 30) (.const (.int .i64 256)) t30 (.int .i64 256)) (fun t31 h_13 => 
 CondP t31 (
 R (.int .i64 6) h_13) (
 CallsH Tryz.prog 77 #[s0] h_13 (fun t34 h_14 => 
 Hp Tryz.prog false (Instr.extract t34 0) (fun t35 h_15 => 
 Hp Tryz.prog false (Instr.extract t34 1) (fun t36 h_16 => 
 Hp Tryz.prog false (binS .neq 29 (.tmp 37) (.const (.int .i64 0)) t35 (.int .i64 0)) (fun t38 h_17 => 
 CondP t38 (
 R t35 h_17) (
 Hp Tryz.prog false (nilS s0) (fun t41 h_18 => 
 Hp Tryz.prog false (Instr.fieldAt 156 t41 0) (fun t42 h_19 => 
 Hp Tryz.prog false (Instr.loadAt 153 t42) (fun t43 h_20 => 
 Hp Tryz.prog false (Instr.build 115 #[]) (fun t45 h_21 => 
 Hp Tryz.prog false (Instr.box 115 t45) (fun t46 h_22 => 
 Hp Tryz.prog false (unitS (Instr.mapUpdate 153 t43 name1 t46)) (fun _ h_23 => 
 R (.int .i64 0) h_23) h_22 ⟨⟩) h_21 ⟨⟩) h_20 ⟨⟩) h_19 ⟨⟩) h_18 ⟨⟩) h_17 ⟨⟩) ⟨⟩ ⟨⟩) h_16 ⟨⟩) h_15 ⟨⟩) h_14 ⟨⟩) ⟨⟩) ⟨⟩ ⟨⟩) h_12 ⟨⟩) h_11 ⟨⟩) h_10 ⟨⟩) h_9 ⟨⟩) h_8 ⟨⟩) ⟨⟩ ⟨⟩) h_7 ⟨⟩) h_6 ⟨⟩) h_5 ⟨⟩) h_4 ⟨⟩) h_3 ⟨⟩) h_2 ⟨⟩) ⟨⟩ ⟨⟩) h_1 ⟨⟩) ⟨⟩

theorem n36_calls {s0 name1 : Value} {R : Value → Heap → Prop} {h : Heap} (H : n36 s0 name1 R h) : CallsH Tryz.prog 36 #[s0, name1] h R ⟨⟩ :=
 callsH_of_eq Tryz.follow .l Tryz.func36 (by kernel_rfl) (by kernel_rfl) (by kernel_rfl) H

/-- (*palimpsest/store.Store).Resize -/
def n37 (s0 name1 size2 : Value) (R : Value → Heap → Prop) (h : Heap) : Prop :=
 CallsH Tryz.prog 50 #[s0, name1] h (fun t17 h_1 => 
 Hp Tryz.prog false (Instr.extract t17 0) (fun t18 h_2 => 
 Hp Tryz.prog false (Instr.extract t17 1) (fun t19 h_3 => 
 Hp Tryz.prog false (binS .neq 29 (.tmp 21) (.const (.int .i64 0)) t19 (.int .i64 0)) (fun t22 h_4 => 
 CondP t22 (
 R t19 h_4) (
 Hp Tryz.prog false (binS .lss 2 (.tmp 25) (.const (.int .i64 0)) size2 (.int .i64 0)) (fun t26 h_5 => 
 CondP t26 (
 R (.int .i64 4) h_5) (
 Hp Tryz.prog false (binS .gtr 2 (.tmp 28) (.const (.int .i64 268435456)) size2 (.int .i64 268435456)) (fun t29 h_6 => 
 CondP t29 (
 R (.int .i64 6) h_6) (
 CallsH Tryz.prog 77 #[s0] h_6 (fun t32 h_7 => 
 Hp Tryz.prog false (Instr.extract t32 0) (fun t33 h_8 => 
 Hp Tryz.prog false (Instr.extract t32 1) (fun t34 h_9 => 
 Hp Tryz.prog false (binS .neq 29 (.tmp 35) (.const (.int .i64 0)) t33 (.int .i64 0)) (fun t36 h_10 => 
 CondP t36 (
 R t33 h_10) (
 CallsH Tryz.prog 78 #[t18, size2] h_10 (fun t40 h_11 => 
 Hp Tryz.prog true (nilS t18) (fun t44 _ => 
 Hp Tryz.prog true (Instr.fieldAt 115 t44 2) (fun t45 _ => 
 Hp Tryz.prog true (Instr.loadAt 33 t45) (fun t46 _ => 
 Hp Tryz.prog true (Instr.sliceAt 33 t46 none (some size2) (some size2)) (fun t49 _ => 
 Hp Tryz.prog true (nilS t18) (fun t51 _ => 
 Hp Tryz.prog true (Instr.fieldAt 115 t51 0) (fun t52 _ => 
 Hp Tryz.prog true (Instr.loadAt 33 t52) (fun t53 _ => 
 Hp Tryz.prog true (Instr.sliceAt 33 t53 none (some size2) (some size2)) (fun t56 _ => 
 Hp Tryz.prog true (nilS t18) (fun t57 _ => 
 Hp Tryz.prog true (Instr.fieldAt 115 t57 2) (fun t58 _ => 
 Hp Tryz.prog false (storeS 33 t58 t49) (fun _ h_12 => 
 Hp Tryz.prog true (nilS t18) (fun t59 _ => 
 Hp Tryz.prog true (Instr.fieldAt 115 t59 0) (fun t60 _ => 
 Hp Tryz.prog false (storeS 33 t60 t56) (fun _ h_13 => 
 Hp Tryz.prog false (nilS t18) (fun t62 h_14 => 
 Hp Tryz.prog false (Instr.fieldAt 115 t62 1) (fun t63 h_15 => 
 Hp Tryz.prog false (Instr.loadAt 113 t63) (fun t64 h_16 => 
 Hp Tryz.prog false (Builtin.len_ #[113] 3 #[t64]) (fun t65 h_17 => 
 LoopC 2 (fun (X : Value → Value → Heap → Prop) => fun stay11 t66 h_18 =>
 Hp Tryz.prog false (binS .lss 3 (.tmp 66) (.tmp 65) t66 t65) (fun t67 h_19 => 
 CondP t67 (
 JoinN 1 (fun (k : Value → Heap → Prop) h_20 =>
 JoinN 1 (fun (k_1 : Value → Heap → Prop) h_21 =>
 Hp Tryz.prog false (Instr.indexAt 113 t64 t66) (fun t68 h_22 => 
 Hp Tryz.prog false (Instr.loadAt 162 t68) (fun t69 h_23 => 
 Hp Tryz.prog false (Instr.alloc 162 true undef) (fun p13 h_24 => 
 Hp Tryz.prog false (storeS 162 p13 t69) (fun _ h_25 => 
 Hp Tryz.prog false (Instr.fieldAt 162 p13 0) (fun t70 h_26 => 
 Hp Tryz.prog false (Instr.loadAt 2 t70) (fun t71 h_27 => 
 Hp Tryz.prog false (binS .lss 2 (.tmp 71) (.tmp 72) t71 size2) (fun t73 h_28 => 
 CondP t73 (
 Hp Tryz.prog false (Instr.fieldAt 162 p13 1) (fun t74 h_29 => 
 Hp Tryz.prog false (Instr.loadAt 33 t74) (fun t75 h_30 => 
 Hp Tryz.prog false (Instr.fieldAt 162 p13 1) (fun t76 h_31 => 
 Hp Tryz.prog false (Instr.loadAt 33 t76) (fun t77 h_32 => 
 Hp Tryz.prog false (Builtin.len_ #[33] 3 #[t77]) (fun t78 h_33 => 
 Hp Tryz.prog false (Instr.fieldAt 162 p13 0) (fun t80 h_34 => 
 Hp Tryz.prog false (Instr.loadAt 2 t80) (fun t81 h_35 => 
 Hp Tryz.prog false (binS .sub 2 (.tmp 79) (.tmp 81) size2 t81) (fun t82 h_36 => 
 Hp Tryz.prog false (Builtin.min_ #[2, 2] 2 #[t78, t82]) (fun t83 h_37 => 
 Hp Tryz.prog false (Instr.sliceAt 33 t75 none (some t83) none) (fun t84 h_38 => 
 Hp Tryz.prog false (Instr.fieldAt 162 p13 1) (fun t85 h_39 => 
 Hp Tryz.prog false (storeS 33 t85 t84) (fun _ h_40 => 
 Hp Tryz.prog false (Instr.loadAt 162 p13) (fun t87 h_41 => 
 Hp Tryz.prog false (Instr.buildSlice 113 1 #[(0, t87)]) (fun t88 h_42 => 
 Hp Tryz.prog false (Builtin.append_ #[113, 113] 113 #[stay11, t88]) (fun t89 h_43 => 
 k_1 t89 h_43) h_42 ⟨⟩) h_41 ⟨⟩) h_40 ⟨⟩) h_39 ⟨⟩) h_38 ⟨⟩) h_37 ⟨⟩) h_36 ⟨⟩) h_35 ⟨⟩) h_34 ⟨⟩) h_33 ⟨⟩) h_32 ⟨⟩) h_31 ⟨⟩) h_30 ⟨⟩) h_29 ⟨⟩) h_28 ⟨⟩) (
 k_1 stay11 h_28) ⟨⟩ ⟨⟩) h_27 ⟨⟩) h_26 ⟨⟩) h_25 ⟨⟩) h_24 ⟨⟩) h_23 ⟨⟩) h_22 ⟨⟩) h_21 ⟨⟩)
 (fun stay11_1 h_44 =>
 k stay11_1 h_44) h_20 ⟨⟩ ⟨⟩)
 (fun stay11_2 h_45 =>
 Hp Tryz.prog false (binS .add 3 (.tmp 66) (.const (.int .i64 1)) t66 (.int .i64 1)) (fun t90 h_46 => 
 X stay11_2 t90 h_46) h_45 ⟨⟩) h_19 ⟨⟩ ⟨⟩) (
 Hp Tryz.prog false (nilS t18) (fun t93 h_47 => 
 Hp Tryz.prog false (Instr.fieldAt 115 t93 1) (fun t94 h_48 => 
 Hp Tryz.prog false (storeS 113 t94 stay11) (fun _ h_49 => 
 R (.int .i64 0) h_49) h_48 ⟨⟩) h_47 ⟨⟩) h_19 ⟨⟩) ⟨⟩ ⟨⟩) h_18 ⟨⟩) [(.slice none 0 0), (.int .i64 0)] h_17 ⟨⟩) h_16 ⟨⟩) h_15 ⟨⟩) h_14 ⟨⟩) h_13 ⟨⟩) h_12 ⟨⟩) #[] ⟨⟩) #[] ⟨⟩) h_11 ⟨⟩) #[] ⟨⟩) #[] ⟨⟩) #[] ⟨⟩) h_11 ⟨⟩) #[] ⟨⟩) #[] ⟨⟩) #[] ⟨⟩) h_11 ⟨⟩) #[] ⟨⟩) #[] ⟨⟩) ⟨⟩) ⟨⟩ ⟨⟩) h_9 ⟨⟩) h_8 ⟨⟩) h_7 ⟨⟩) ⟨⟩) ⟨⟩ ⟨⟩) h_5 ⟨⟩) ⟨⟩ ⟨⟩) h_4 ⟨⟩) ⟨⟩ ⟨⟩) h_3 ⟨⟩) h_2 ⟨⟩) h_1 ⟨⟩) ⟨⟩

theorem n37_calls {s0 name1 size2 : Value} {R : Value → Heap → Prop} {h : Heap} (H : n37 s0 name1 size2 R h) : CallsH Tryz.prog 37 #[s0, name1, size2] h R ⟨⟩ :=
 callsH_of_eq Tryz.follow (.n none .l (.n none .l (.n none .l (.n none .l (.n none .l (.n none .l (.n none .l (.n none (.n none .l (.n none (.n (some [12, 67]) (.n none .l (.n none .l (.n (some [12]) (.n (some [12]) .l .l) .l))) .l) .l)) .l)))))))) Tryz.func37 (by kernel_rfl) (by kernel_rfl) (by kernel_rfl) H

end Go.Proofs.YtcbbdnaelimpfaaGreat

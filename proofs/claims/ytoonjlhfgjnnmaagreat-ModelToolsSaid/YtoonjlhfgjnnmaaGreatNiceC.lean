/- Printed by wip/tools/gen.py: the condition of each function, and that a call meets it. -/
import Derived.Test.YtoonjlhfgjnnmaaGreatVcFun
import Derived.Test.YtoonjlhfgjnnmaaGreatProg
import Derived.Test.YtoonjlhfgjnnmaaGreatNiceA
import Derived.Test.YtoonjlhfgjnnmaaGreatNiceB
set_option maxRecDepth 100000
set_option linter.unusedVariables false
namespace Go.Proofs.YtoonjlhfgjnnmaaGreat
open Go.Vc

/-- palimpsest/palimpsestlaw25.ModelDirty -/
def n3 (l0 gran1 : Value) (R : Value → Heap → Prop) (h : Heap) : Prop :=
 Hp Tryz.prog false (Builtin.len_ #[22] 3 #[l0]) (fun t17 h_1 => 
 Hp Tryz.prog false (binS .gtr 3 (.tmp 17) (.const (.int .i64 12)) t17 (.int .i64 12)) (fun t18 h_2 => 
 Join1 (fun k h_3 => guardP t18 false (k gran1 h_3) (k undef h_3) ⟨⟩ ⟨⟩) (fun t20 h_4 => 
 Join1 (fun k_1 h_5 => guardP t18 false (Hp Tryz.prog false (binS .lss 3 (.tmp 20) (.const (.int .i64 9)) t20 (.int .i64 9)) k_1 h_5 ⟨⟩) (k_1 undef h_5) ⟨⟩ ⟨⟩) (fun t21 h_6 => 
 Hp Tryz.prog false (pickS t18 (.bool true) t21) (fun t22 h_7 => 
 Join1 (fun k_2 h_8 => guardP t22 false (k_2 gran1 h_8) (k_2 undef h_8) ⟨⟩ ⟨⟩) (fun t24 h_9 => 
 Join1 (fun k_3 h_10 => guardP t22 false (Hp Tryz.prog false (binS .gtr 3 (.tmp 24) (.const (.int .i64 20)) t24 (.int .i64 20)) k_3 h_10 ⟨⟩) (k_3 undef h_10) ⟨⟩ ⟨⟩) (fun t25 h_11 => 
 Hp Tryz.prog false (pickS t22 (.bool true) t25) (fun t26 h_12 => 
 CondP t26 (
 CallsH Tryz.prog 5 #[] h_12 (fun t27 h_13 => 
 R t27 h_13) ⟨⟩) (
 CallsH Tryz.prog 6 #[(.slice none 0 0)] h_12 (fun t28 h_14 => 
 Hp Tryz.prog false (binS .eql 24 (.tmp 29) (.const (.pointer none)) t28 (.pointer none)) (fun t30 h_15 => 
 Join1 (fun k_4 h_16 => guardP t30 false (k_4 t28 h_16) (k_4 undef h_16) ⟨⟩ ⟨⟩) (fun t32 h_17 => 
 Join1 (fun k_5 h_18 => guardP t30 false (k_5 gran1 h_18) (k_5 undef h_18) ⟨⟩ ⟨⟩) (fun t33 h_19 => 
 Join1 (fun k_6 h_20 => guardP t30 false (CallsH Tryz.prog 8 #[t32, (str [116, 111, 112]), (str [100]), t33] h_20 k_6 ⟨⟩) (k_6 undef h_20) ⟨⟩ ⟨⟩) (fun t34 h_21 => 
 Join1 (fun k_7 h_22 => guardP t30 false (CallsH Tryz.prog 7 #[t34] h_22 k_7 ⟨⟩) (k_7 undef h_22) ⟨⟩ ⟨⟩) (fun t35 h_23 => 
 Join1 (fun k_8 h_24 => guardP t30 false (Hp Tryz.prog false (binS .neq 3 (.tmp 35) (.const (.int .i64 0)) t35 (.int .i64 0)) k_8 h_24 ⟨⟩) (k_8 undef h_24) ⟨⟩ ⟨⟩) (fun t36 h_25 => 
 Hp Tryz.prog false (pickS t30 (.bool true) t36) (fun t37 h_26 => 
 Join1 (fun k_9 h_27 => guardP t37 false (k_9 t28 h_27) (k_9 undef h_27) ⟨⟩ ⟨⟩) (fun t39 h_28 => 
 Join1 (fun k_10 h_29 => guardP t37 false (CallsH Tryz.prog 9 #[t39, (str [116, 111, 112]), (str [115])] h_29 k_10 ⟨⟩) (k_10 undef h_29) ⟨⟩ ⟨⟩) (fun t40 h_30 => 
 Join1 (fun k_11 h_31 => guardP t37 false (CallsH Tryz.prog 7 #[t40] h_31 k_11 ⟨⟩) (k_11 undef h_31) ⟨⟩ ⟨⟩) (fun t41 h_32 => 
 Join1 (fun k_12 h_33 => guardP t37 false (Hp Tryz.prog false (binS .neq 3 (.tmp 41) (.const (.int .i64 0)) t41 (.int .i64 0)) k_12 h_33 ⟨⟩) (k_12 undef h_33) ⟨⟩ ⟨⟩) (fun t42 h_34 => 
 Hp Tryz.prog false (pickS t37 (.bool true) t42) (fun t43 h_35 => 
 CondP t43 (
 R (.bool false) h_35) (
 CallsH Tryz.prog 10 #[t28, (str [116, 111, 112])] h_35 (fun t46 h_36 => 
 Hp Tryz.prog false (Instr.extract t46 0) (fun t47 h_37 => 
 Hp Tryz.prog false (Instr.extract t46 1) (fun t48 h_38 => 
 CallsH Tryz.prog 10 #[t28, (str [109, 105, 100])] h_38 (fun t51 h_39 => 
 Hp Tryz.prog false (Instr.extract t51 0) (fun t52 h_40 => 
 Hp Tryz.prog false (Instr.extract t51 1) (fun t53 h_41 => 
 Hp Tryz.prog false (Op.unary .not t48) (fun t55 h_42 => 
 Join1 (fun k_13 h_43 => guardP t55 false (k_13 t53 h_43) (k_13 undef h_43) ⟨⟩ ⟨⟩) (fun t57 h_44 => 
 Join1 (fun k_14 h_45 => guardP t55 false (Hp Tryz.prog false (Op.unary .not t57) k_14 h_45 ⟨⟩) (k_14 undef h_45) ⟨⟩ ⟨⟩) (fun t58 h_46 => 
 Hp Tryz.prog false (pickS t55 (.bool true) t58) (fun t59 h_47 => 
 CondP t59 (
 R (.bool false) h_47) (
 LoopC 1 (fun (X : Value → Heap → Prop) => fun i10 h_48 =>
 Hp Tryz.prog false (Builtin.len_ #[22] 3 #[l0]) (fun t62 h_49 => 
 Hp Tryz.prog false (binS .lss 3 (.tmp 60) (.tmp 62) i10 t62) (fun t63 h_50 => 
 CondP t63 (
 JoinN 0 (fun (k_15 : Heap → Prop) h_51 =>
 JoinN 0 (fun (k_16 : Heap → Prop) h_52 =>
 Hp Tryz.prog false (Instr.indexAt 22 l0 i10) (fun t68 h_53 => 
 Hp Tryz.prog false (Instr.fieldAt 34 t68 0) (fun t69 h_54 => 
 Hp Tryz.prog false (Instr.loadAt 3 t69) (fun t70 h_55 => 
 Hp Tryz.prog false (binS .rem 3 (.tmp 70) (.const (.int .i64 4)) t70 (.int .i64 4)) (fun t71 h_56 => 
 JoinN 0 (fun (k_17 : Heap → Prop) h_57 =>
 JoinN 1 (fun (k_18 : Value → Heap → Prop) h_58 =>
 Hp Tryz.prog false (binS .eql 3 (.tmp 71) (.const (.int .i64 0)) t71 (.int .i64 0)) (fun t77 h_59 => 
 CondP t77 (
 k_18 t77 h_59) (
 Hp Tryz.prog false (binS .eql 3 (.tmp 71) (.const (.int .i64 1)) t71 (.int .i64 1)) (fun t78 h_60 => 
 k_18 t78 h_60) h_59 ⟨⟩) ⟨⟩ ⟨⟩) h_58 ⟨⟩)
 (fun t76 h_61 =>
 CondP t76 (
 Hp Tryz.prog true (Instr.indexAt 22 l0 i10) (fun t82 _ => 
 Hp Tryz.prog true (Instr.fieldAt 34 t82 5) (fun t83 _ => 
 Hp Tryz.prog true (Instr.loadAt 2 t83) (fun t84 _ => 
 Hp Tryz.prog true (Instr.indexAt 22 l0 i10) (fun t87 _ => 
 Hp Tryz.prog true (Instr.fieldAt 34 t87 7) (fun t88 _ => 
 Hp Tryz.prog true (Instr.loadAt 32 t88) (fun t89 _ => 
 CallsH Tryz.prog 11 #[t28, (str [116, 111, 112]), t84, t89] h_61 (fun t90 h_62 => 
 k_17 h_62) ⟨⟩) h_61 ⟨⟩) #[] ⟨⟩) #[] ⟨⟩) h_61 ⟨⟩) #[] ⟨⟩) #[] ⟨⟩) (
 Hp Tryz.prog false (binS .eql 3 (.tmp 71) (.const (.int .i64 2)) t71 (.int .i64 2)) (fun t92 h_63 => 
 CondP t92 (
 Hp Tryz.prog true (Instr.indexAt 22 l0 i10) (fun t96 _ => 
 Hp Tryz.prog true (Instr.fieldAt 34 t96 5) (fun t97 _ => 
 Hp Tryz.prog true (Instr.loadAt 2 t97) (fun t98 _ => 
 Hp Tryz.prog true (Instr.indexAt 22 l0 i10) (fun t101 _ => 
 Hp Tryz.prog true (Instr.fieldAt 34 t101 6) (fun t102 _ => 
 Hp Tryz.prog true (Instr.loadAt 2 t102) (fun t103 _ => 
 CallsH Tryz.prog 12 #[t28, (str [116, 111, 112]), t98, t103] h_63 (fun t104 h_64 => 
 k_17 h_64) ⟨⟩) h_63 ⟨⟩) #[] ⟨⟩) #[] ⟨⟩) h_63 ⟨⟩) #[] ⟨⟩) #[] ⟨⟩) (
 CallsH Tryz.prog 13 #[t28, (str [116, 111, 112]), (str [115])] h_63 (fun t73 h_65 => 
 CallsH Tryz.prog 7 #[t73] h_65 (fun t74 h_66 => 
 Hp Tryz.prog false (binS .neq 3 (.tmp 74) (.const (.int .i64 0)) t74 (.int .i64 0)) (fun t75 h_67 => 
 CondP t75 (
 R (.bool false) h_67) (
 k_17 h_67) ⟨⟩ ⟨⟩) h_66 ⟨⟩) ⟨⟩) ⟨⟩) ⟨⟩ ⟨⟩) h_61 ⟨⟩) ⟨⟩ ⟨⟩) h_57 ⟨⟩ ⟨⟩)
 (fun h_68 =>
 k_16 h_68) h_56 ⟨⟩ ⟨⟩) h_55 ⟨⟩) h_54 ⟨⟩) h_53 ⟨⟩) h_52 ⟨⟩)
 (fun h_69 =>
 k_15 h_69) h_51 ⟨⟩ ⟨⟩)
 (fun h_70 =>
 Hp Tryz.prog false (binS .add 3 (.tmp 64) (.const (.int .i64 1)) i10 (.int .i64 1)) (fun t65 h_71 => 
 X t65 h_71) h_70 ⟨⟩) h_50 ⟨⟩ ⟨⟩) (
 CallsH Tryz.prog 10 #[t28, (str [116, 111, 112])] h_50 (fun t107 h_72 => 
 Hp Tryz.prog false (Instr.extract t107 0) (fun t108 h_73 => 
 Hp Tryz.prog false (Instr.extract t107 1) (fun t109 h_74 => 
 CallsH Tryz.prog 10 #[t28, (str [109, 105, 100])] h_74 (fun t112 h_75 => 
 Hp Tryz.prog false (Instr.extract t112 0) (fun t113 h_76 => 
 Hp Tryz.prog false (Instr.extract t112 1) (fun t114 h_77 => 
 CallsH Tryz.prog 14 #[t28, (str [116, 111, 112])] h_77 (fun t117 h_78 => 
 Hp Tryz.prog false (Instr.extract t117 0) (fun t118 h_79 => 
 Hp Tryz.prog false (Instr.extract t117 1) (fun t119 h_80 => 
 Hp Tryz.prog false (Instr.alloc 40 true undef) (fun x13 h_81 => 
 Hp Tryz.prog false (storeS 40 x13 t118) (fun _ h_82 => 
 Hp Tryz.prog false (Op.unary .not t109) (fun t121 h_83 => 
 Join1 (fun k_19 h_84 => guardP t121 false (k_19 t114 h_84) (k_19 undef h_84) ⟨⟩ ⟨⟩) (fun t123 h_85 => 
 Join1 (fun k_20 h_86 => guardP t121 false (Hp Tryz.prog false (Op.unary .not t123) k_20 h_86 ⟨⟩) (k_20 undef h_86) ⟨⟩ ⟨⟩) (fun t124 h_87 => 
 Hp Tryz.prog false (pickS t121 (.bool true) t124) (fun t125 h_88 => 
 Join1 (fun k_21 h_89 => guardP t125 false (k_21 t113 h_89) (k_21 undef h_89) ⟨⟩ ⟨⟩) (fun t127 h_90 => 
 Join1 (fun k_22 h_91 => guardP t125 false (k_22 t52 h_91) (k_22 undef h_91) ⟨⟩ ⟨⟩) (fun t128 h_92 => 
 Join1 (fun k_23 h_93 => guardP t125 false (Hp Tryz.prog false (binS .neq 9 (.tmp 127) (.tmp 128) t127 t128) k_23 h_93 ⟨⟩) (k_23 undef h_93) ⟨⟩ ⟨⟩) (fun t129 h_94 => 
 Hp Tryz.prog false (pickS t125 (.bool true) t129) (fun t130 h_95 => 
 Join1 (fun k_24 h_96 => guardP t130 false (k_24 t108 h_96) (k_24 undef h_96) ⟨⟩ ⟨⟩) (fun t132 h_97 => 
 Join1 (fun k_25 h_98 => guardP t130 false (Hp Tryz.prog false (Builtin.len_ #[9] 3 #[t132]) k_25 h_98 ⟨⟩) (k_25 undef h_98) ⟨⟩ ⟨⟩) (fun t133 h_99 => 
 Join1 (fun k_26 h_100 => guardP t130 false (k_26 t47 h_100) (k_26 undef h_100) ⟨⟩ ⟨⟩) (fun t134 h_101 => 
 Join1 (fun k_27 h_102 => guardP t130 false (Hp Tryz.prog false (Builtin.len_ #[9] 3 #[t134]) k_27 h_102 ⟨⟩) (k_27 undef h_102) ⟨⟩ ⟨⟩) (fun t135 h_103 => 
 Join1 (fun k_28 h_104 => guardP t130 false (Hp Tryz.prog false (binS .neq 3 (.tmp 133) (.tmp 135) t133 t135) k_28 h_104 ⟨⟩) (k_28 undef h_104) ⟨⟩ ⟨⟩) (fun t136 h_105 => 
 Hp Tryz.prog false (pickS t130 (.bool true) t136) (fun t137 h_106 => 
 Join1 (fun k_29 h_107 => guardP t137 false (k_29 t119 h_107) (k_29 undef h_107) ⟨⟩ ⟨⟩) (fun t139 h_108 => 
 Join1 (fun k_30 h_109 => guardP t137 false (CallsH Tryz.prog 7 #[t139] h_109 k_30 ⟨⟩) (k_30 undef h_109) ⟨⟩ ⟨⟩) (fun t140 h_110 => 
 Join1 (fun k_31 h_111 => guardP t137 false (Hp Tryz.prog false (binS .neq 3 (.tmp 140) (.const (.int .i64 0)) t140 (.int .i64 0)) k_31 h_111 ⟨⟩) (k_31 undef h_111) ⟨⟩ ⟨⟩) (fun t141 h_112 => 
 Hp Tryz.prog false (pickS t137 (.bool true) t141) (fun t142 h_113 => 
 Join1 (fun k_32 h_114 => guardP t142 false (Hp Tryz.prog false (Instr.fieldAt 40 x13 5) k_32 h_114 ⟨⟩) (k_32 undef h_114) ⟨⟩ ⟨⟩) (fun t144 h_115 => 
 Join1 (fun k_33 h_116 => guardP t142 false (Hp Tryz.prog false (Instr.loadAt 38 t144) k_33 h_116 ⟨⟩) (k_33 undef h_116) ⟨⟩ ⟨⟩) (fun t145 h_117 => 
 Join1 (fun k_34 h_118 => guardP t142 false (Hp Tryz.prog false (Builtin.len_ #[38] 3 #[t145]) k_34 h_118 ⟨⟩) (k_34 undef h_118) ⟨⟩ ⟨⟩) (fun t146 h_119 => 
 Join1 (fun k_35 h_120 => guardP t142 false (Hp Tryz.prog false (binS .neq 3 (.tmp 146) (.const (.int .i64 1)) t146 (.int .i64 1)) k_35 h_120 ⟨⟩) (k_35 undef h_120) ⟨⟩ ⟨⟩) (fun t147 h_121 => 
 Hp Tryz.prog false (pickS t142 (.bool true) t147) (fun t148 h_122 => 
 CondP t148 (
 R (.bool false) h_122) (
 LoopC 1 (fun (X_1 : Value → Heap → Prop) => fun k15 h_123 =>
 Hp Tryz.prog false (Builtin.len_ #[9] 3 #[t108]) (fun t151 h_124 => 
 Hp Tryz.prog false (binS .lss 3 (.tmp 149) (.tmp 151) k15 t151) (fun t152 h_125 => 
 CondP t152 (
 Hp Tryz.prog true (binS .add 3 (.tmp 157) (.const (.int .i64 512)) k15 (.int .i64 512)) (fun t158 _ => 
 Hp Tryz.prog true (Instr.sliceAt 9 t108 (some k15) (some t158) none) (fun t159 _ => 
 Hp Tryz.prog true (binS .add 3 (.tmp 162) (.const (.int .i64 512)) k15 (.int .i64 512)) (fun t163 _ => 
 Hp Tryz.prog true (Instr.sliceAt 9 t47 (some k15) (some t163) none) (fun t164 _ => 
 Hp Tryz.prog true (binS .neq 9 (.tmp 159) (.tmp 164) t159 t164) (fun t165 _ => 
 Join1 (fun k_36 h_126 => guardP t165 true (Hp Tryz.prog true (Instr.fieldAt 40 x13 5) k_36 h_126 ⟨⟩) (k_36 undef h_126) ⟨⟩ ⟨⟩) (fun t167 _ => 
 Join1 (fun k_37 h_127 => guardP t165 true (Hp Tryz.prog true (Instr.loadAt 38 t167) k_37 h_127 ⟨⟩) (k_37 undef h_127) ⟨⟩ ⟨⟩) (fun t168 _ => 
 Join1 (fun k_38 h_128 => guardP t165 true (Hp Tryz.prog true (Instr.indexAt 38 t168 (.int .i64 0)) k_38 h_128 ⟨⟩) (k_38 undef h_128) ⟨⟩ ⟨⟩) (fun t169 _ => 
 Join1 (fun k_39 h_129 => guardP t165 true (Hp Tryz.prog true (Instr.fieldAt 46 t169 3) k_39 h_129 ⟨⟩) (k_39 undef h_129) ⟨⟩ ⟨⟩) (fun t170 _ => 
 Join1 (fun k_40 h_130 => guardP t165 true (Hp Tryz.prog true (Instr.loadAt 44 t170) k_40 h_130 ⟨⟩) (k_40 undef h_130) ⟨⟩ ⟨⟩) (fun t171 _ => 
 Join1 (fun k_41 h_131 => guardP t165 true (k_41 k15 h_131) (k_41 undef h_131) ⟨⟩ ⟨⟩) (fun t172 _ => 
 Join1 (fun k_42 h_132 => guardP t165 true (k_42 gran1 h_132) (k_42 undef h_132) ⟨⟩ ⟨⟩) (fun t173 _ => 
 Join1 (fun k_43 h_133 => guardP t165 true (Hp Tryz.prog true (binS .shr 2 (.tmp 172) (.tmp 173) t172 t173) k_43 h_133 ⟨⟩) (k_43 undef h_133) ⟨⟩ ⟨⟩) (fun t174 _ => 
 Join1 (fun k_44 h_134 => guardP t165 true (CallsH Tryz.prog 15 #[t171, t174] h_134 k_44 ⟨⟩) (k_44 undef h_134) ⟨⟩ ⟨⟩) (fun t175 h_135 => 
 Join1 (fun k_45 h_136 => guardP t165 true (Hp Tryz.prog true (Op.unary .not t175) k_45 h_136 ⟨⟩) (k_45 undef h_136) ⟨⟩ ⟨⟩) (fun t176 _ => 
 Hp Tryz.prog true (pickS t165 t176 (.bool false)) (fun t177 _ => 
 CondP t177 (
 R (.bool false) h_135) (
 Hp Tryz.prog false (binS .add 3 (.tmp 153) (.const (.int .i64 512)) k15 (.int .i64 512)) (fun t154 h_137 => 
 X_1 t154 h_137) h_135 ⟨⟩) ⟨⟩ ⟨⟩) #[] ⟨⟩) #[] ⟨⟩ ⟨⟩) h_125 ⟨⟩ ⟨⟩) #[] ⟨⟩ ⟨⟩) #[] ⟨⟩ ⟨⟩) #[] ⟨⟩ ⟨⟩) h_125 ⟨⟩ ⟨⟩) #[] ⟨⟩ ⟨⟩) #[] ⟨⟩ ⟨⟩) h_125 ⟨⟩ ⟨⟩) #[] ⟨⟩ ⟨⟩) #[] ⟨⟩) #[] ⟨⟩) #[] ⟨⟩) #[] ⟨⟩) #[] ⟨⟩) (
 CallsH Tryz.prog 5 #[] h_125 (fun t178 h_138 => 
 R t178 h_138) ⟨⟩) ⟨⟩ ⟨⟩) h_124 ⟨⟩) h_123 ⟨⟩) [(.int .i64 0)] h_122 ⟨⟩) ⟨⟩ ⟨⟩) h_121 ⟨⟩) h_119 ⟨⟩ ⟨⟩) h_117 ⟨⟩ ⟨⟩) h_115 ⟨⟩ ⟨⟩) h_113 ⟨⟩ ⟨⟩) h_112 ⟨⟩) h_110 ⟨⟩ ⟨⟩) h_108 ⟨⟩ ⟨⟩) h_106 ⟨⟩ ⟨⟩) h_105 ⟨⟩) h_103 ⟨⟩ ⟨⟩) h_101 ⟨⟩ ⟨⟩) h_99 ⟨⟩ ⟨⟩) h_97 ⟨⟩ ⟨⟩) h_95 ⟨⟩ ⟨⟩) h_94 ⟨⟩) h_92 ⟨⟩ ⟨⟩) h_90 ⟨⟩ ⟨⟩) h_88 ⟨⟩ ⟨⟩) h_87 ⟨⟩) h_85 ⟨⟩ ⟨⟩) h_83 ⟨⟩ ⟨⟩) h_82 ⟨⟩) h_81 ⟨⟩) h_80 ⟨⟩) h_79 ⟨⟩) h_78 ⟨⟩) ⟨⟩) h_76 ⟨⟩) h_75 ⟨⟩) ⟨⟩) h_73 ⟨⟩) h_72 ⟨⟩) ⟨⟩) ⟨⟩ ⟨⟩) h_49 ⟨⟩) h_48 ⟨⟩) [(.int .i64 0)] h_47 ⟨⟩) ⟨⟩ ⟨⟩) h_46 ⟨⟩) h_44 ⟨⟩ ⟨⟩) h_42 ⟨⟩ ⟨⟩) h_41 ⟨⟩) h_40 ⟨⟩) h_39 ⟨⟩) ⟨⟩) h_37 ⟨⟩) h_36 ⟨⟩) ⟨⟩) ⟨⟩ ⟨⟩) h_34 ⟨⟩) h_32 ⟨⟩ ⟨⟩) h_30 ⟨⟩ ⟨⟩) h_28 ⟨⟩ ⟨⟩) h_26 ⟨⟩ ⟨⟩) h_25 ⟨⟩) h_23 ⟨⟩ ⟨⟩) h_21 ⟨⟩ ⟨⟩) h_19 ⟨⟩ ⟨⟩) h_17 ⟨⟩ ⟨⟩) h_15 ⟨⟩ ⟨⟩) h_14 ⟨⟩) ⟨⟩) ⟨⟩ ⟨⟩) h_11 ⟨⟩) h_9 ⟨⟩ ⟨⟩) h_7 ⟨⟩ ⟨⟩) h_6 ⟨⟩) h_4 ⟨⟩ ⟨⟩) h_2 ⟨⟩ ⟨⟩) h_1 ⟨⟩) h ⟨⟩

theorem n3_calls {l0 gran1 : Value} {R : Value → Heap → Prop} {h : Heap} (H : n3 l0 gran1 R h) : CallsH Tryz.prog 3 #[l0, gran1] h R ⟨⟩ :=
 callsH_of_eq Tryz.follow (.n none .l (.n none .l (.n none .l (.n none .l (.n none .l (.n none .l (.n none .l (.n none (.n none .l (.n none (.n (some [11]) (.n none .l (.n (some []) (.n (some []) (.n none .l (.n (some []) (.n (some [77]) .l .l) .l)) .l) .l)) .l) .l)) (.n none .l (.n none .l (.n none .l (.n none .l (.n none (.n none .l (.n none (.n (some [16]) .l .l) .l)) .l))))))))))))) Tryz.func3 (by kernel_rfl) (by kernel_rfl) (by kernel_rfl) H

/-- palimpsest/palimpsestlaw25.ModelTools -/
def n4 (l0 : Value) (R : Value → Heap → Prop) (h : Heap) : Prop :=
 Hp Tryz.prog false (Builtin.len_ #[22] 3 #[l0]) (fun t20 h_1 => 
 Hp Tryz.prog false (binS .gtr 3 (.tmp 20) (.const (.int .i64 12)) t20 (.int .i64 12)) (fun t21 h_2 => 
 CondP t21 (
 CallsH Tryz.prog 5 #[] h_2 (fun t22 h_3 => 
 R t22 h_3) ⟨⟩) (
 CallsH Tryz.prog 6 #[l0] h_2 (fun t24 h_4 => 
 Hp Tryz.prog false (binS .eql 24 (.tmp 25) (.const (.pointer none)) t24 (.pointer none)) (fun t26 h_5 => 
 CondP t26 (
 R (.bool false) h_5) (
 CallsH Tryz.prog 10 #[t24, (str [116, 111, 112])] h_5 (fun t29 h_6 => 
 Hp Tryz.prog false (Instr.extract t29 0) (fun t30 h_7 => 
 Hp Tryz.prog false (Instr.extract t29 1) (fun t31 h_8 => 
 Hp Tryz.prog false (Op.unary .not t31) (fun t33 h_9 => 
 Join1 (fun k h_10 => guardP t33 false (k t24 h_10) (k undef h_10) ⟨⟩ ⟨⟩) (fun t35 h_11 => 
 Join1 (fun k_1 h_12 => guardP t33 false (CallsH Tryz.prog 9 #[t35, (str [116, 111, 112]), (str [115])] h_12 k_1 ⟨⟩) (k_1 undef h_12) ⟨⟩ ⟨⟩) (fun t36 h_13 => 
 Join1 (fun k_2 h_14 => guardP t33 false (CallsH Tryz.prog 7 #[t36] h_14 k_2 ⟨⟩) (k_2 undef h_14) ⟨⟩ ⟨⟩) (fun t37 h_15 => 
 Join1 (fun k_3 h_16 => guardP t33 false (Hp Tryz.prog false (binS .neq 3 (.tmp 37) (.const (.int .i64 0)) t37 (.int .i64 0)) k_3 h_16 ⟨⟩) (k_3 undef h_16) ⟨⟩ ⟨⟩) (fun t38 h_17 => 
 Hp Tryz.prog false (pickS t33 (.bool true) t38) (fun t39 h_18 => 
 Join1 (fun k_4 h_19 => guardP t39 false (k_4 t24 h_19) (k_4 undef h_19) ⟨⟩ ⟨⟩) (fun t41 h_20 => 
 Join1 (fun k_5 h_21 => guardP t39 false (CallsH Tryz.prog 16 #[t41, (str [116, 111, 112]), (str [102, 108, 97, 116]), (.int .i64 12)] h_21 k_5 ⟨⟩) (k_5 undef h_21) ⟨⟩ ⟨⟩) (fun t42 h_22 => 
 Join1 (fun k_6 h_23 => guardP t39 false (CallsH Tryz.prog 7 #[t42] h_23 k_6 ⟨⟩) (k_6 undef h_23) ⟨⟩ ⟨⟩) (fun t43 h_24 => 
 Join1 (fun k_7 h_25 => guardP t39 false (Hp Tryz.prog false (binS .neq 3 (.tmp 43) (.const (.int .i64 0)) t43 (.int .i64 0)) k_7 h_25 ⟨⟩) (k_7 undef h_25) ⟨⟩ ⟨⟩) (fun t44 h_26 => 
 Hp Tryz.prog false (pickS t39 (.bool true) t44) (fun t45 h_27 => 
 CondP t45 (
 R (.bool false) h_27) (
 CallsH Tryz.prog 10 #[t24, (str [102, 108, 97, 116])] h_27 (fun t48 h_28 => 
 Hp Tryz.prog false (Instr.extract t48 0) (fun t49 h_29 => 
 Hp Tryz.prog false (Instr.extract t48 1) (fun t50 h_30 => 
 CallsH Tryz.prog 17 #[t24, (str [102, 108, 97, 116]), (str [116, 111, 112])] h_30 (fun t53 h_31 => 
 Hp Tryz.prog false (Instr.extract t53 0) (fun t54 h_32 => 
 Hp Tryz.prog false (Instr.extract t53 1) (fun t55 h_33 => 
 Hp Tryz.prog false (Instr.extract t53 2) (fun t56 h_34 => 
 Hp Tryz.prog false (Op.unary .not t50) (fun t58 h_35 => 
 Join1 (fun k_8 h_36 => guardP t58 false (k_8 t49 h_36) (k_8 undef h_36) ⟨⟩ ⟨⟩) (fun t60 h_37 => 
 Join1 (fun k_9 h_38 => guardP t58 false (k_9 t30 h_38) (k_9 undef h_38) ⟨⟩ ⟨⟩) (fun t61 h_39 => 
 Join1 (fun k_10 h_40 => guardP t58 false (Hp Tryz.prog false (binS .neq 9 (.tmp 60) (.tmp 61) t60 t61) k_10 h_40 ⟨⟩) (k_10 undef h_40) ⟨⟩ ⟨⟩) (fun t62 h_41 => 
 Hp Tryz.prog false (pickS t58 (.bool true) t62) (fun t63 h_42 => 
 Join1 (fun k_11 h_43 => guardP t63 false (k_11 t55 h_43) (k_11 undef h_43) ⟨⟩ ⟨⟩) (fun t65 h_44 => 
 Join1 (fun k_12 h_45 => guardP t63 false (Hp Tryz.prog false (Op.unary .not t65) k_12 h_45 ⟨⟩) (k_12 undef h_45) ⟨⟩ ⟨⟩) (fun t66 h_46 => 
 Hp Tryz.prog false (pickS t63 (.bool true) t66) (fun t67 h_47 => 
 Join1 (fun k_13 h_48 => guardP t67 false (k_13 t54 h_48) (k_13 undef h_48) ⟨⟩ ⟨⟩) (fun t69 h_49 => 
 Join1 (fun k_14 h_50 => guardP t67 false (Hp Tryz.prog false (binS .neq 2 (.tmp 69) (.const (.int .i64 0)) t69 (.int .i64 0)) k_14 h_50 ⟨⟩) (k_14 undef h_50) ⟨⟩ ⟨⟩) (fun t70 h_51 => 
 Hp Tryz.prog false (pickS t67 (.bool true) t70) (fun t71 h_52 => 
 Join1 (fun k_15 h_53 => guardP t71 false (k_15 t56 h_53) (k_15 undef h_53) ⟨⟩ ⟨⟩) (fun t73 h_54 => 
 Join1 (fun k_16 h_55 => guardP t71 false (CallsH Tryz.prog 7 #[t73] h_55 k_16 ⟨⟩) (k_16 undef h_55) ⟨⟩ ⟨⟩) (fun t74 h_56 => 
 Join1 (fun k_17 h_57 => guardP t71 false (Hp Tryz.prog false (binS .neq 3 (.tmp 74) (.const (.int .i64 0)) t74 (.int .i64 0)) k_17 h_57 ⟨⟩) (k_17 undef h_57) ⟨⟩ ⟨⟩) (fun t75 h_58 => 
 Hp Tryz.prog false (pickS t71 (.bool true) t75) (fun t76 h_59 => 
 CondP t76 (
 R (.bool false) h_59) (
 CallsH Tryz.prog 18 #[t24] h_59 (fun t78 h_60 => 
 CallsH Tryz.prog 18 #[t24] h_60 (fun t80 h_61 => 
 Hp Tryz.prog false (binS .eql 24 (.tmp 81) (.const (.pointer none)) t78 (.pointer none)) (fun t82 h_62 => 
 Join1 (fun k_18 h_63 => guardP t82 false (k_18 t80 h_63) (k_18 undef h_63) ⟨⟩ ⟨⟩) (fun t84 h_64 => 
 Join1 (fun k_19 h_65 => guardP t82 false (Hp Tryz.prog false (binS .eql 24 (.tmp 84) (.const (.pointer none)) t84 (.pointer none)) k_19 h_65 ⟨⟩) (k_19 undef h_65) ⟨⟩ ⟨⟩) (fun t85 h_66 => 
 Hp Tryz.prog false (pickS t82 (.bool true) t85) (fun t86 h_67 => 
 Join1 (fun k_20 h_68 => guardP t86 false (k_20 t78 h_68) (k_20 undef h_68) ⟨⟩ ⟨⟩) (fun t88 h_69 => 
 Join1 (fun k_21 h_70 => guardP t86 false (CallsH Tryz.prog 19 #[t88, (str [116, 111, 112])] h_70 k_21 ⟨⟩) (k_21 undef h_70) ⟨⟩ ⟨⟩) (fun t89 h_71 => 
 Join1 (fun k_22 h_72 => guardP t86 false (CallsH Tryz.prog 7 #[t89] h_72 k_22 ⟨⟩) (k_22 undef h_72) ⟨⟩ ⟨⟩) (fun t90 h_73 => 
 Join1 (fun k_23 h_74 => guardP t86 false (Hp Tryz.prog false (binS .neq 3 (.tmp 90) (.const (.int .i64 0)) t90 (.int .i64 0)) k_23 h_74 ⟨⟩) (k_23 undef h_74) ⟨⟩ ⟨⟩) (fun t91 h_75 => 
 Hp Tryz.prog false (pickS t86 (.bool true) t91) (fun t92 h_76 => 
 Join1 (fun k_24 h_77 => guardP t92 false (k_24 t80 h_77) (k_24 undef h_77) ⟨⟩ ⟨⟩) (fun t94 h_78 => 
 Join1 (fun k_25 h_79 => guardP t92 false (CallsH Tryz.prog 20 #[t94, (str [116, 111, 112]), (str [98, 97, 115, 101]), (.bool true)] h_79 k_25 ⟨⟩) (k_25 undef h_79) ⟨⟩ ⟨⟩) (fun t95 h_80 => 
 Join1 (fun k_26 h_81 => guardP t92 false (CallsH Tryz.prog 7 #[t95] h_81 k_26 ⟨⟩) (k_26 undef h_81) ⟨⟩ ⟨⟩) (fun t96 h_82 => 
 Join1 (fun k_27 h_83 => guardP t92 false (Hp Tryz.prog false (binS .neq 3 (.tmp 96) (.const (.int .i64 0)) t96 (.int .i64 0)) k_27 h_83 ⟨⟩) (k_27 undef h_83) ⟨⟩ ⟨⟩) (fun t97 h_84 => 
 Hp Tryz.prog false (pickS t92 (.bool true) t97) (fun t98 h_85 => 
 CondP t98 (
 R (.bool false) h_85) (
 CallsH Tryz.prog 10 #[t78, (str [109, 105, 100])] h_85 (fun t101 h_86 => 
 Hp Tryz.prog false (Instr.extract t101 0) (fun t102 h_87 => 
 Hp Tryz.prog false (Instr.extract t101 1) (fun t103 h_88 => 
 CallsH Tryz.prog 10 #[t78, (str [116, 111, 112])] h_88 (fun t106 h_89 => 
 Hp Tryz.prog false (Instr.extract t106 0) (fun t107 h_90 => 
 Hp Tryz.prog false (Instr.extract t106 1) (fun t108 h_91 => 
 Hp Tryz.prog false (Op.unary .not t103) (fun t110 h_92 => 
 Join1 (fun k_28 h_93 => guardP t110 false (k_28 t108 h_93) (k_28 undef h_93) ⟨⟩ ⟨⟩) (fun t112 h_94 => 
 Join1 (fun k_29 h_95 => guardP t110 false (Hp Tryz.prog false (Op.unary .not t112) k_29 h_95 ⟨⟩) (k_29 undef h_95) ⟨⟩ ⟨⟩) (fun t113 h_96 => 
 Hp Tryz.prog false (pickS t110 (.bool true) t113) (fun t114 h_97 => 
 Join1 (fun k_30 h_98 => guardP t114 false (k_30 t102 h_98) (k_30 undef h_98) ⟨⟩ ⟨⟩) (fun t116 h_99 => 
 Join1 (fun k_31 h_100 => guardP t114 false (k_31 t30 h_100) (k_31 undef h_100) ⟨⟩ ⟨⟩) (fun t117 h_101 => 
 Join1 (fun k_32 h_102 => guardP t114 false (Hp Tryz.prog false (binS .neq 9 (.tmp 116) (.tmp 117) t116 t117) k_32 h_102 ⟨⟩) (k_32 undef h_102) ⟨⟩ ⟨⟩) (fun t118 h_103 => 
 Hp Tryz.prog false (pickS t114 (.bool true) t118) (fun t119 h_104 => 
 Join1 (fun k_33 h_105 => guardP t119 false (k_33 t107 h_105) (k_33 undef h_105) ⟨⟩ ⟨⟩) (fun t121 h_106 => 
 Join1 (fun k_34 h_107 => guardP t119 false (k_34 t30 h_107) (k_34 undef h_107) ⟨⟩ ⟨⟩) (fun t122 h_108 => 
 Join1 (fun k_35 h_109 => guardP t119 false (Hp Tryz.prog false (binS .neq 9 (.tmp 121) (.tmp 122) t121 t122) k_35 h_109 ⟨⟩) (k_35 undef h_109) ⟨⟩ ⟨⟩) (fun t123 h_110 => 
 Hp Tryz.prog false (pickS t119 (.bool true) t123) (fun t124 h_111 => 
 CondP t124 (
 R (.bool false) h_111) (
 CallsH Tryz.prog 10 #[t80, (str [116, 111, 112])] h_111 (fun t127 h_112 => 
 Hp Tryz.prog false (Instr.extract t127 0) (fun t128 h_113 => 
 Hp Tryz.prog false (Instr.extract t127 1) (fun t129 h_114 => 
 Hp Tryz.prog false (Op.unary .not t129) (fun t131 h_115 => 
 Join1 (fun k_36 h_116 => guardP t131 false (k_36 t128 h_116) (k_36 undef h_116) ⟨⟩ ⟨⟩) (fun t133 h_117 => 
 Join1 (fun k_37 h_118 => guardP t131 false (k_37 t30 h_118) (k_37 undef h_118) ⟨⟩ ⟨⟩) (fun t134 h_119 => 
 Join1 (fun k_38 h_120 => guardP t131 false (Hp Tryz.prog false (binS .neq 9 (.tmp 133) (.tmp 134) t133 t134) k_38 h_120 ⟨⟩) (k_38 undef h_120) ⟨⟩ ⟨⟩) (fun t135 h_121 => 
 Hp Tryz.prog false (pickS t131 (.bool true) t135) (fun t136 h_122 => 
 Join1 (fun k_39 h_123 => guardP t136 false (k_39 t80 h_123) (k_39 undef h_123) ⟨⟩ ⟨⟩) (fun t138 h_124 => 
 Join1 (fun k_40 h_125 => guardP t136 false (CallsH Tryz.prog 20 #[t138, (str [116, 111, 112]), (str []), (.bool true)] h_125 k_40 ⟨⟩) (k_40 undef h_125) ⟨⟩ ⟨⟩) (fun t139 h_126 => 
 Join1 (fun k_41 h_127 => guardP t136 false (CallsH Tryz.prog 7 #[t139] h_127 k_41 ⟨⟩) (k_41 undef h_127) ⟨⟩ ⟨⟩) (fun t140 h_128 => 
 Join1 (fun k_42 h_129 => guardP t136 false (Hp Tryz.prog false (binS .neq 3 (.tmp 140) (.const (.int .i64 0)) t140 (.int .i64 0)) k_42 h_129 ⟨⟩) (k_42 undef h_129) ⟨⟩ ⟨⟩) (fun t141 h_130 => 
 Hp Tryz.prog false (pickS t136 (.bool true) t141) (fun t142 h_131 => 
 CondP t142 (
 R (.bool false) h_131) (
 CallsH Tryz.prog 10 #[t80, (str [116, 111, 112])] h_131 (fun t145 h_132 => 
 Hp Tryz.prog false (Instr.extract t145 0) (fun t146 h_133 => 
 Hp Tryz.prog false (Instr.extract t145 1) (fun t147 h_134 => 
 Hp Tryz.prog false (Op.unary .not t147) (fun t149 h_135 => 
 Join1 (fun k_43 h_136 => guardP t149 false (k_43 t146 h_136) (k_43 undef h_136) ⟨⟩ ⟨⟩) (fun t151 h_137 => 
 Join1 (fun k_44 h_138 => guardP t149 false (k_44 t30 h_138) (k_44 undef h_138) ⟨⟩ ⟨⟩) (fun t152 h_139 => 
 Join1 (fun k_45 h_140 => guardP t149 false (Hp Tryz.prog false (binS .neq 9 (.tmp 151) (.tmp 152) t151 t152) k_45 h_140 ⟨⟩) (k_45 undef h_140) ⟨⟩ ⟨⟩) (fun t153 h_141 => 
 Hp Tryz.prog false (pickS t149 (.bool true) t153) (fun t154 h_142 => 
 Join1 (fun k_46 h_143 => guardP t154 false (k_46 t80 h_143) (k_46 undef h_143) ⟨⟩ ⟨⟩) (fun t156 h_144 => 
 Join1 (fun k_47 h_145 => guardP t154 false (CallsH Tryz.prog 21 #[t156, (str [109, 105, 100])] h_145 k_47 ⟨⟩) (k_47 undef h_145) ⟨⟩ ⟨⟩) (fun t157 h_146 => 
 Join1 (fun k_48 h_147 => guardP t154 false (CallsH Tryz.prog 7 #[t157] h_147 k_48 ⟨⟩) (k_48 undef h_147) ⟨⟩ ⟨⟩) (fun t158 h_148 => 
 Join1 (fun k_49 h_149 => guardP t154 false (Hp Tryz.prog false (binS .neq 3 (.tmp 158) (.const (.int .i64 0)) t158 (.int .i64 0)) k_49 h_149 ⟨⟩) (k_49 undef h_149) ⟨⟩ ⟨⟩) (fun t159 h_150 => 
 Hp Tryz.prog false (pickS t154 (.bool true) t159) (fun t160 h_151 => 
 Join1 (fun k_50 h_152 => guardP t160 false (k_50 t80 h_152) (k_50 undef h_152) ⟨⟩ ⟨⟩) (fun t162 h_153 => 
 Join1 (fun k_51 h_154 => guardP t160 false (CallsH Tryz.prog 21 #[t162, (str [98, 97, 115, 101])] h_154 k_51 ⟨⟩) (k_51 undef h_154) ⟨⟩ ⟨⟩) (fun t163 h_155 => 
 Join1 (fun k_52 h_156 => guardP t160 false (CallsH Tryz.prog 7 #[t163] h_156 k_52 ⟨⟩) (k_52 undef h_156) ⟨⟩ ⟨⟩) (fun t164 h_157 => 
 Join1 (fun k_53 h_158 => guardP t160 false (Hp Tryz.prog false (binS .neq 3 (.tmp 164) (.const (.int .i64 0)) t164 (.int .i64 0)) k_53 h_158 ⟨⟩) (k_53 undef h_158) ⟨⟩ ⟨⟩) (fun t165 h_159 => 
 Hp Tryz.prog false (pickS t160 (.bool true) t165) (fun t166 h_160 => 
 CondP t166 (
 R (.bool false) h_160) (
 CallsH Tryz.prog 22 #[t24, (str [116, 111, 112]), (.int .i64 0), (.int .i64 20)] h_160 (fun t168 h_161 => 
 CallsH Tryz.prog 7 #[t168] h_161 (fun t169 h_162 => 
 Hp Tryz.prog false (binS .neq 3 (.tmp 169) (.const (.int .i64 0)) t169 (.int .i64 0)) (fun t170 h_163 => 
 Join1 (fun k_54 h_164 => guardP t170 false (k_54 t24 h_164) (k_54 undef h_164) ⟨⟩ ⟨⟩) (fun t172 h_165 => 
 Join1 (fun k_55 h_166 => guardP t170 false (CallsH Tryz.prog 23 #[t172, (str [116, 111, 112]), (.int .i64 512)] h_166 k_55 ⟨⟩) (k_55 undef h_166) ⟨⟩ ⟨⟩) (fun t173 h_167 => 
 Join1 (fun k_56 h_168 => guardP t170 false (CallsH Tryz.prog 7 #[t173] h_168 k_56 ⟨⟩) (k_56 undef h_168) ⟨⟩ ⟨⟩) (fun t174 h_169 => 
 Join1 (fun k_57 h_170 => guardP t170 false (Hp Tryz.prog false (binS .neq 3 (.tmp 174) (.const (.int .i64 0)) t174 (.int .i64 0)) k_57 h_170 ⟨⟩) (k_57 undef h_170) ⟨⟩ ⟨⟩) (fun t175 h_171 => 
 Hp Tryz.prog false (pickS t170 (.bool true) t175) (fun t176 h_172 => 
 Join1 (fun k_58 h_173 => guardP t176 false (k_58 t24 h_173) (k_58 undef h_173) ⟨⟩ ⟨⟩) (fun t178 h_174 => 
 Join1 (fun k_59 h_175 => guardP t176 false (CallsH Tryz.prog 13 #[t178, (str [116, 111, 112]), (str [115])] h_175 k_59 ⟨⟩) (k_59 undef h_175) ⟨⟩ ⟨⟩) (fun t179 h_176 => 
 Join1 (fun k_60 h_177 => guardP t176 false (CallsH Tryz.prog 7 #[t179] h_177 k_60 ⟨⟩) (k_60 undef h_177) ⟨⟩ ⟨⟩) (fun t180 h_178 => 
 Join1 (fun k_61 h_179 => guardP t176 false (Hp Tryz.prog false (binS .neq 3 (.tmp 180) (.const (.int .i64 0)) t180 (.int .i64 0)) k_61 h_179 ⟨⟩) (k_61 undef h_179) ⟨⟩ ⟨⟩) (fun t181 h_180 => 
 Hp Tryz.prog false (pickS t176 (.bool true) t181) (fun t182 h_181 => 
 CondP t182 (
 R (.bool false) h_181) (
 CallsH Tryz.prog 10 #[t24, (str [116, 111, 112])] h_181 (fun t185 h_182 => 
 Hp Tryz.prog false (Instr.extract t185 0) (fun t186 h_183 => 
 Hp Tryz.prog false (Instr.extract t185 1) (fun t187 h_184 => 
 CallsH Tryz.prog 10 #[t24, (str [98, 97, 115, 101])] h_184 (fun t190 h_185 => 
 Hp Tryz.prog false (Instr.extract t190 0) (fun t191 h_186 => 
 Hp Tryz.prog false (Instr.extract t190 1) (fun t192 h_187 => 
 Join1 (fun k_62 h_188 => guardP t187 true (k_62 t186 h_188) (k_62 undef h_188) ⟨⟩ ⟨⟩) (fun t195 _ => 
 Join1 (fun k_63 h_189 => guardP t187 true (k_63 t30 h_189) (k_63 undef h_189) ⟨⟩ ⟨⟩) (fun t196 _ => 
 Join1 (fun k_64 h_190 => guardP t187 true (Hp Tryz.prog true (binS .eql 9 (.tmp 195) (.tmp 196) t195 t196) k_64 h_190 ⟨⟩) (k_64 undef h_190) ⟨⟩ ⟨⟩) (fun t197 _ => 
 Hp Tryz.prog true (pickS t187 t197 (.bool false)) (fun t198 _ => 
 Join1 (fun k_65 h_191 => guardP t198 true (k_65 t192 h_191) (k_65 undef h_191) ⟨⟩ ⟨⟩) (fun t200 _ => 
 Hp Tryz.prog true (pickS t198 t200 (.bool false)) (fun t201 _ => 
 Join1 (fun k_66 h_192 => guardP t201 true (k_66 t191 h_192) (k_66 undef h_192) ⟨⟩ ⟨⟩) (fun t203 _ => 
 Join1 (fun k_67 h_193 => guardP t201 true (CallsH Tryz.prog 24 #[(.int .i64 1536), (.int .u8 0)] h_193 k_67 ⟨⟩) (k_67 undef h_193) ⟨⟩ ⟨⟩) (fun t204 h_194 => 
 Join1 (fun k_68 h_195 => guardP t201 true (Hp Tryz.prog true (convert 32 9 t204) k_68 h_195 ⟨⟩) (k_68 undef h_195) ⟨⟩ ⟨⟩) (fun t205 _ => 
 Join1 (fun k_69 h_196 => guardP t201 true (CallsH Tryz.prog 24 #[(.int .i64 512), (.int .u8 1)] h_196 k_69 ⟨⟩) (k_69 undef h_196) ⟨⟩ ⟨⟩) (fun t206 h_197 => Join1 (fun k h => guardP t201 true (Hp Tryz.prog true (convert 32 9 t204) k h ⟨⟩) (k undef h) ⟨⟩ ⟨⟩) (fun u _ => u = t205) h_197 ⟨⟩ ⟨⟩ ∧ 
 Join1 (fun k_70 h_198 => guardP t201 true (Hp Tryz.prog true (convert 32 9 t206) k_70 h_198 ⟨⟩) (k_70 undef h_198) ⟨⟩ ⟨⟩) (fun t207 _ => 
 Join1 (fun k_71 h_199 => guardP t201 true (Hp Tryz.prog true (binS .add 9 (.tmp 205) (.tmp 207) t205 t207) k_71 h_199 ⟨⟩) (k_71 undef h_199) ⟨⟩ ⟨⟩) (fun t208 _ => 
 Join1 (fun k_72 h_200 => guardP t201 true (CallsH Tryz.prog 24 #[(.int .i64 6144), (.int .u8 0)] h_200 k_72 ⟨⟩) (k_72 undef h_200) ⟨⟩ ⟨⟩) (fun t209 h_201 => Join1 (fun k h => guardP t201 true (Hp Tryz.prog true (convert 32 9 t206) k h ⟨⟩) (k undef h) ⟨⟩ ⟨⟩) (fun u _ => u = t207) h_201 ⟨⟩ ⟨⟩ ∧ Join1 (fun k h => guardP t201 true (Hp Tryz.prog true (convert 32 9 t204) k h ⟨⟩) (k undef h) ⟨⟩ ⟨⟩) (fun u _ => u = t205) h_201 ⟨⟩ ⟨⟩ ∧ 
 Join1 (fun k_73 h_202 => guardP t201 true (Hp Tryz.prog true (convert 32 9 t209) k_73 h_202 ⟨⟩) (k_73 undef h_202) ⟨⟩ ⟨⟩) (fun t210 _ => 
 Join1 (fun k_74 h_203 => guardP t201 true (Hp Tryz.prog true (binS .add 9 (.tmp 208) (.tmp 210) t208 t210) k_74 h_203 ⟨⟩) (k_74 undef h_203) ⟨⟩ ⟨⟩) (fun t211 _ => 
 Join1 (fun k_75 h_204 => guardP t201 true (Hp Tryz.prog true (binS .eql 9 (.tmp 203) (.tmp 211) t203 t211) k_75 h_204 ⟨⟩) (k_75 undef h_204) ⟨⟩ ⟨⟩) (fun t212 _ => 
 Hp Tryz.prog true (pickS t201 t212 (.bool false)) (fun t213 _ => 
 Join1 (fun k_76 h_205 => guardP t213 true (CallsH Tryz.prog 5 #[] h_205 k_76 ⟨⟩) (k_76 undef h_205) ⟨⟩ ⟨⟩) (fun t215 h_206 => 
 Hp Tryz.prog true (pickS t213 t215 (.bool false)) (fun t216 _ => 
 R t216 h_206) #[] ⟨⟩) h_201 ⟨⟩ ⟨⟩) #[] ⟨⟩) #[] ⟨⟩ ⟨⟩) #[] ⟨⟩ ⟨⟩) h_201 ⟨⟩ ⟨⟩) h_197 ⟨⟩ ⟨⟩) #[] ⟨⟩ ⟨⟩) h_197 ⟨⟩ ⟨⟩) h_194 ⟨⟩ ⟨⟩) h_194 ⟨⟩ ⟨⟩) h_187 ⟨⟩ ⟨⟩) #[] ⟨⟩ ⟨⟩) #[] ⟨⟩) #[] ⟨⟩ ⟨⟩) #[] ⟨⟩) #[] ⟨⟩ ⟨⟩) #[] ⟨⟩ ⟨⟩) #[] ⟨⟩ ⟨⟩) h_186 ⟨⟩) h_185 ⟨⟩) ⟨⟩) h_183 ⟨⟩) h_182 ⟨⟩) ⟨⟩) ⟨⟩ ⟨⟩) h_180 ⟨⟩) h_178 ⟨⟩ ⟨⟩) h_176 ⟨⟩ ⟨⟩) h_174 ⟨⟩ ⟨⟩) h_172 ⟨⟩ ⟨⟩) h_171 ⟨⟩) h_169 ⟨⟩ ⟨⟩) h_167 ⟨⟩ ⟨⟩) h_165 ⟨⟩ ⟨⟩) h_163 ⟨⟩ ⟨⟩) h_162 ⟨⟩) ⟨⟩) ⟨⟩) ⟨⟩ ⟨⟩) h_159 ⟨⟩) h_157 ⟨⟩ ⟨⟩) h_155 ⟨⟩ ⟨⟩) h_153 ⟨⟩ ⟨⟩) h_151 ⟨⟩ ⟨⟩) h_150 ⟨⟩) h_148 ⟨⟩ ⟨⟩) h_146 ⟨⟩ ⟨⟩) h_144 ⟨⟩ ⟨⟩) h_142 ⟨⟩ ⟨⟩) h_141 ⟨⟩) h_139 ⟨⟩ ⟨⟩) h_137 ⟨⟩ ⟨⟩) h_135 ⟨⟩ ⟨⟩) h_134 ⟨⟩) h_133 ⟨⟩) h_132 ⟨⟩) ⟨⟩) ⟨⟩ ⟨⟩) h_130 ⟨⟩) h_128 ⟨⟩ ⟨⟩) h_126 ⟨⟩ ⟨⟩) h_124 ⟨⟩ ⟨⟩) h_122 ⟨⟩ ⟨⟩) h_121 ⟨⟩) h_119 ⟨⟩ ⟨⟩) h_117 ⟨⟩ ⟨⟩) h_115 ⟨⟩ ⟨⟩) h_114 ⟨⟩) h_113 ⟨⟩) h_112 ⟨⟩) ⟨⟩) ⟨⟩ ⟨⟩) h_110 ⟨⟩) h_108 ⟨⟩ ⟨⟩) h_106 ⟨⟩ ⟨⟩) h_104 ⟨⟩ ⟨⟩) h_103 ⟨⟩) h_101 ⟨⟩ ⟨⟩) h_99 ⟨⟩ ⟨⟩) h_97 ⟨⟩ ⟨⟩) h_96 ⟨⟩) h_94 ⟨⟩ ⟨⟩) h_92 ⟨⟩ ⟨⟩) h_91 ⟨⟩) h_90 ⟨⟩) h_89 ⟨⟩) ⟨⟩) h_87 ⟨⟩) h_86 ⟨⟩) ⟨⟩) ⟨⟩ ⟨⟩) h_84 ⟨⟩) h_82 ⟨⟩ ⟨⟩) h_80 ⟨⟩ ⟨⟩) h_78 ⟨⟩ ⟨⟩) h_76 ⟨⟩ ⟨⟩) h_75 ⟨⟩) h_73 ⟨⟩ ⟨⟩) h_71 ⟨⟩ ⟨⟩) h_69 ⟨⟩ ⟨⟩) h_67 ⟨⟩ ⟨⟩) h_66 ⟨⟩) h_64 ⟨⟩ ⟨⟩) h_62 ⟨⟩ ⟨⟩) h_61 ⟨⟩) ⟨⟩) ⟨⟩) ⟨⟩ ⟨⟩) h_58 ⟨⟩) h_56 ⟨⟩ ⟨⟩) h_54 ⟨⟩ ⟨⟩) h_52 ⟨⟩ ⟨⟩) h_51 ⟨⟩) h_49 ⟨⟩ ⟨⟩) h_47 ⟨⟩ ⟨⟩) h_46 ⟨⟩) h_44 ⟨⟩ ⟨⟩) h_42 ⟨⟩ ⟨⟩) h_41 ⟨⟩) h_39 ⟨⟩ ⟨⟩) h_37 ⟨⟩ ⟨⟩) h_35 ⟨⟩ ⟨⟩) h_34 ⟨⟩) h_33 ⟨⟩) h_32 ⟨⟩) h_31 ⟨⟩) ⟨⟩) h_29 ⟨⟩) h_28 ⟨⟩) ⟨⟩) ⟨⟩ ⟨⟩) h_26 ⟨⟩) h_24 ⟨⟩ ⟨⟩) h_22 ⟨⟩ ⟨⟩) h_20 ⟨⟩ ⟨⟩) h_18 ⟨⟩ ⟨⟩) h_17 ⟨⟩) h_15 ⟨⟩ ⟨⟩) h_13 ⟨⟩ ⟨⟩) h_11 ⟨⟩ ⟨⟩) h_9 ⟨⟩ ⟨⟩) h_8 ⟨⟩) h_7 ⟨⟩) h_6 ⟨⟩) ⟨⟩) ⟨⟩ ⟨⟩) h_4 ⟨⟩) ⟨⟩) ⟨⟩ ⟨⟩) h_1 ⟨⟩) h ⟨⟩

theorem n4_calls {l0 : Value} {R : Value → Heap → Prop} {h : Heap} (H : n4 l0 R h) : CallsH Tryz.prog 4 #[l0] h R ⟨⟩ :=
 callsH_of_eq Tryz.follow .l Tryz.func4 (by kernel_rfl) (by kernel_rfl) (by kernel_rfl) H

/-- palimpsest/palimpsestlaw25.works -/
def n5 (R : Value → Heap → Prop) (h : Heap) : Prop :=
 CallsH Tryz.prog 25 #[] h (fun t8 h_1 => 
 Hp Tryz.prog false (binS .eql 24 (.tmp 9) (.const (.pointer none)) t8 (.pointer none)) (fun t10 h_2 => 
 Join1 (fun k h_3 => guardP t10 false (k t8 h_3) (k undef h_3) ⟨⟩ ⟨⟩) (fun t12 h_4 => 
 Join1 (fun k_1 h_5 => guardP t10 false (CallsH Tryz.prog 26 #[t12] h_5 k_1 ⟨⟩) (k_1 undef h_5) ⟨⟩ ⟨⟩) (fun t13 h_6 => 
 Join1 (fun k_2 h_7 => guardP t10 false (Hp Tryz.prog false (binS .eql 57 (.tmp 13) (.const .nilFunc) t13 .nilFunc) k_2 h_7 ⟨⟩) (k_2 undef h_7) ⟨⟩ ⟨⟩) (fun t14 h_8 => 
 Hp Tryz.prog false (pickS t10 (.bool true) t14) (fun t15 h_9 => 
 CondP t15 (
 R (.bool false) h_9) (
 Hp Tryz.prog false (Instr.makeSlice 32 (.int .i64 512) (.int .i64 512)) (fun t16 h_10 => 
 Hp Tryz.prog false (Instr.indexAt 32 t16 (.int .i64 7)) (fun t18 h_11 => 
 Hp Tryz.prog false (storeS 5 t18 (.int .u8 9)) (fun _ h_12 => 
 CallsH Tryz.prog 27 #[t8, (str [97]), (.int .i64 1536), (.int .i64 9), (str [])] h_12 (fun t20 h_13 => 
 CallsH Tryz.prog 11 #[t8, (str [97]), (.int .i64 1), t16] h_13 (fun t23 h_14 => 
 CallsH Tryz.prog 27 #[t8, (str [98]), (.int .i64 2048), (.int .i64 10), (str [97])] h_14 (fun t25 h_15 => 
 CallsH Tryz.prog 28 #[t8, (str [98]), (.int .i64 0), (.int .i64 4)] h_15 (fun t28 h_16 => 
 Hp Tryz.prog false (Instr.extract t28 0) (fun t29 h_17 => 
 Hp Tryz.prog false (Instr.extract t28 1) (fun t30 h_18 => 
 CallsH Tryz.prog 7 #[t20] h_18 (fun t32 h_19 => 
 CallsH Tryz.prog 7 #[t23] h_19 (fun t34 h_20 => 
 Hp Tryz.prog false (binS .add 3 (.tmp 32) (.tmp 34) t32 t34) (fun t35 h_21 => 
 CallsH Tryz.prog 7 #[t25] h_21 (fun t37 h_22 => 
 Hp Tryz.prog false (binS .add 3 (.tmp 35) (.tmp 37) t35 t37) (fun t38 h_23 => 
 CallsH Tryz.prog 7 #[t30] h_23 (fun t40 h_24 => 
 Hp Tryz.prog false (binS .add 3 (.tmp 38) (.tmp 40) t38 t40) (fun t41 h_25 => 
 Hp Tryz.prog false (binS .eql 3 (.tmp 41) (.const (.int .i64 0)) t41 (.int .i64 0)) (fun t42 h_26 => 
 Join1 (fun k_3 h_27 => guardP t42 true (k_3 t29 h_27) (k_3 undef h_27) ⟨⟩ ⟨⟩) (fun t44 h_28 => 
 Join1 (fun k_4 h_29 => guardP t42 true (Hp Tryz.prog false (Builtin.len_ #[32] 3 #[t44]) k_4 h_29 ⟨⟩) (k_4 undef h_29) ⟨⟩ ⟨⟩) (fun t45 h_30 => 
 Join1 (fun k_5 h_31 => guardP t42 true (Hp Tryz.prog false (binS .eql 3 (.tmp 45) (.const (.int .i64 2048)) t45 (.int .i64 2048)) k_5 h_31 ⟨⟩) (k_5 undef h_31) ⟨⟩ ⟨⟩) (fun t46 h_32 => 
 Hp Tryz.prog false (pickS t42 t46 (.bool false)) (fun t47 h_33 => 
 Join1 (fun k_6 h_34 => guardP t47 true (k_6 t29 h_34) (k_6 undef h_34) ⟨⟩ ⟨⟩) (fun t49 h_35 => 
 Join1 (fun k_7 h_36 => guardP t47 true (Hp Tryz.prog false (Instr.indexAt 32 t49 (.int .i64 519)) k_7 h_36 ⟨⟩) (k_7 undef h_36) ⟨⟩ ⟨⟩) (fun t50 h_37 => 
 Join1 (fun k_8 h_38 => guardP t47 true (Hp Tryz.prog false (Instr.loadAt 5 t50) k_8 h_38 ⟨⟩) (k_8 undef h_38) ⟨⟩ ⟨⟩) (fun t51 h_39 => 
 Join1 (fun k_9 h_40 => guardP t47 true (Hp Tryz.prog false (binS .eql 5 (.tmp 51) (.const (.int .u8 9)) t51 (.int .u8 9)) k_9 h_40 ⟨⟩) (k_9 undef h_40) ⟨⟩ ⟨⟩) (fun t52 h_41 => 
 Hp Tryz.prog false (pickS t47 t52 (.bool false)) (fun t53 h_42 => 
 R t53 h_42) h_41 ⟨⟩) h_39 ⟨⟩ ⟨⟩) h_37 ⟨⟩ ⟨⟩) h_35 ⟨⟩ ⟨⟩) h_33 ⟨⟩ ⟨⟩) h_32 ⟨⟩) h_30 ⟨⟩ ⟨⟩) h_28 ⟨⟩ ⟨⟩) h_26 ⟨⟩ ⟨⟩) h_25 ⟨⟩) h_24 ⟨⟩) ⟨⟩) h_22 ⟨⟩) ⟨⟩) h_20 ⟨⟩) ⟨⟩) ⟨⟩) h_17 ⟨⟩) h_16 ⟨⟩) ⟨⟩) ⟨⟩) ⟨⟩) ⟨⟩) h_11 ⟨⟩) h_10 ⟨⟩) h_9 ⟨⟩) ⟨⟩ ⟨⟩) h_8 ⟨⟩) h_6 ⟨⟩ ⟨⟩) h_4 ⟨⟩ ⟨⟩) h_2 ⟨⟩ ⟨⟩) h_1 ⟨⟩) ⟨⟩

theorem n5_calls {R : Value → Heap → Prop} {h : Heap} (H : n5  R h) : CallsH Tryz.prog 5 #[] h R ⟨⟩ :=
 callsH_of_eq Tryz.follow .l Tryz.func5 (by kernel_rfl) (by kernel_rfl) (by kernel_rfl) H

/-- palimpsest/palimpsestlaw25.grow -/
def n6 (l0 : Value) (R : Value → Heap → Prop) (h : Heap) : Prop :=
 CallsH Tryz.prog 25 #[] h (fun t5 h_1 => 
 Hp Tryz.prog false (binS .eql 24 (.tmp 6) (.const (.pointer none)) t5 (.pointer none)) (fun t7 h_2 => 
 Join1 (fun k h_3 => guardP t7 false (k t5 h_3) (k undef h_3) ⟨⟩ ⟨⟩) (fun t9 h_4 => 
 Join1 (fun k_1 h_5 => guardP t7 false (CallsH Tryz.prog 27 #[t9, (str [98, 97, 115, 101]), (.int .i64 8192), (.int .i64 10), (str [])] h_5 k_1 ⟨⟩) (k_1 undef h_5) ⟨⟩ ⟨⟩) (fun t10 h_6 => 
 Join1 (fun k_2 h_7 => guardP t7 false (CallsH Tryz.prog 7 #[t10] h_7 k_2 ⟨⟩) (k_2 undef h_7) ⟨⟩ ⟨⟩) (fun t11 h_8 => 
 Join1 (fun k_3 h_9 => guardP t7 false (Hp Tryz.prog false (binS .neq 3 (.tmp 11) (.const (.int .i64 0)) t11 (.int .i64 0)) k_3 h_9 ⟨⟩) (k_3 undef h_9) ⟨⟩ ⟨⟩) (fun t12 h_10 => 
 Hp Tryz.prog false (pickS t7 (.bool true) t12) (fun t13 h_11 => 
 Join1 (fun k_4 h_12 => guardP t13 false (k_4 t5 h_12) (k_4 undef h_12) ⟨⟩ ⟨⟩) (fun t15 h_13 => 
 Join1 (fun k_5 h_14 => guardP t13 false (CallsH Tryz.prog 24 #[(.int .i64 512), (.int .u8 1)] h_14 k_5 ⟨⟩) (k_5 undef h_14) ⟨⟩ ⟨⟩) (fun t16 h_15 => 
 Join1 (fun k_6 h_16 => guardP t13 false (CallsH Tryz.prog 11 #[t15, (str [98, 97, 115, 101]), (.int .i64 3), t16] h_16 k_6 ⟨⟩) (k_6 undef h_16) ⟨⟩ ⟨⟩) (fun t17 h_17 => 
 Join1 (fun k_7 h_18 => guardP t13 false (CallsH Tryz.prog 7 #[t17] h_18 k_7 ⟨⟩) (k_7 undef h_18) ⟨⟩ ⟨⟩) (fun t18 h_19 => 
 Join1 (fun k_8 h_20 => guardP t13 false (Hp Tryz.prog false (binS .neq 3 (.tmp 18) (.const (.int .i64 0)) t18 (.int .i64 0)) k_8 h_20 ⟨⟩) (k_8 undef h_20) ⟨⟩ ⟨⟩) (fun t19 h_21 => 
 Hp Tryz.prog false (pickS t13 (.bool true) t19) (fun t20 h_22 => 
 Join1 (fun k_9 h_23 => guardP t20 false (k_9 t5 h_23) (k_9 undef h_23) ⟨⟩ ⟨⟩) (fun t22 h_24 => 
 Join1 (fun k_10 h_25 => guardP t20 false (CallsH Tryz.prog 27 #[t22, (str [109, 105, 100]), (.int .i64 6144), (.int .i64 11), (str [98, 97, 115, 101])] h_25 k_10 ⟨⟩) (k_10 undef h_25) ⟨⟩ ⟨⟩) (fun t23 h_26 => 
 Join1 (fun k_11 h_27 => guardP t20 false (CallsH Tryz.prog 7 #[t23] h_27 k_11 ⟨⟩) (k_11 undef h_27) ⟨⟩ ⟨⟩) (fun t24 h_28 => 
 Join1 (fun k_12 h_29 => guardP t20 false (Hp Tryz.prog false (binS .neq 3 (.tmp 24) (.const (.int .i64 0)) t24 (.int .i64 0)) k_12 h_29 ⟨⟩) (k_12 undef h_29) ⟨⟩ ⟨⟩) (fun t25 h_30 => 
 Hp Tryz.prog false (pickS t20 (.bool true) t25) (fun t26 h_31 => 
 Join1 (fun k_13 h_32 => guardP t26 false (k_13 t5 h_32) (k_13 undef h_32) ⟨⟩ ⟨⟩) (fun t28 h_33 => 
 Join1 (fun k_14 h_34 => guardP t26 false (CallsH Tryz.prog 24 #[(.int .i64 1024), (.int .u8 2)] h_34 k_14 ⟨⟩) (k_14 undef h_34) ⟨⟩ ⟨⟩) (fun t29 h_35 => 
 Join1 (fun k_15 h_36 => guardP t26 false (CallsH Tryz.prog 11 #[t28, (str [109, 105, 100]), (.int .i64 1), t29] h_36 k_15 ⟨⟩) (k_15 undef h_36) ⟨⟩ ⟨⟩) (fun t30 h_37 => 
 Join1 (fun k_16 h_38 => guardP t26 false (CallsH Tryz.prog 7 #[t30] h_38 k_16 ⟨⟩) (k_16 undef h_38) ⟨⟩ ⟨⟩) (fun t31 h_39 => 
 Join1 (fun k_17 h_40 => guardP t26 false (Hp Tryz.prog false (binS .neq 3 (.tmp 31) (.const (.int .i64 0)) t31 (.int .i64 0)) k_17 h_40 ⟨⟩) (k_17 undef h_40) ⟨⟩ ⟨⟩) (fun t32 h_41 => 
 Hp Tryz.prog false (pickS t26 (.bool true) t32) (fun t33 h_42 => 
 Join1 (fun k_18 h_43 => guardP t33 false (k_18 t5 h_43) (k_18 undef h_43) ⟨⟩ ⟨⟩) (fun t35 h_44 => 
 Join1 (fun k_19 h_45 => guardP t33 false (CallsH Tryz.prog 27 #[t35, (str [116, 111, 112]), (.int .i64 10240), (.int .i64 9), (str [109, 105, 100])] h_45 k_19 ⟨⟩) (k_19 undef h_45) ⟨⟩ ⟨⟩) (fun t36 h_46 => 
 Join1 (fun k_20 h_47 => guardP t33 false (CallsH Tryz.prog 7 #[t36] h_47 k_20 ⟨⟩) (k_20 undef h_47) ⟨⟩ ⟨⟩) (fun t37 h_48 => 
 Join1 (fun k_21 h_49 => guardP t33 false (Hp Tryz.prog false (binS .neq 3 (.tmp 37) (.const (.int .i64 0)) t37 (.int .i64 0)) k_21 h_49 ⟨⟩) (k_21 undef h_49) ⟨⟩ ⟨⟩) (fun t38 h_50 => 
 Hp Tryz.prog false (pickS t33 (.bool true) t38) (fun t39 h_51 => 
 CondP t39 (
 R (.pointer none) h_51) (
 LoopC 1 (fun (X : Value → Heap → Prop) => fun i4 h_52 =>
 Hp Tryz.prog false (Builtin.len_ #[22] 3 #[l0]) (fun t42 h_53 => 
 Hp Tryz.prog false (binS .lss 3 (.tmp 40) (.tmp 42) i4 t42) (fun t43 h_54 => 
 CondP t43 (
 Hp Tryz.prog true (Instr.indexAt 22 l0 i4) (fun t49 _ => 
 Hp Tryz.prog true (Instr.fieldAt 34 t49 5) (fun t50 _ => 
 Hp Tryz.prog true (Instr.loadAt 2 t50) (fun t51 _ => 
 Hp Tryz.prog true (Instr.indexAt 22 l0 i4) (fun t54 _ => 
 Hp Tryz.prog true (Instr.fieldAt 34 t54 7) (fun t55 _ => 
 Hp Tryz.prog true (Instr.loadAt 32 t55) (fun t56 _ => 
 CallsH Tryz.prog 11 #[t5, (str [116, 111, 112]), t51, t56] h_54 (fun t57 h_55 => 
 Hp Tryz.prog false (Instr.indexAt 22 l0 i4) (fun t61 h_56 => 
 Hp Tryz.prog false (Instr.fieldAt 34 t61 6) (fun t62 h_57 => 
 Hp Tryz.prog false (Instr.loadAt 2 t62) (fun t63 h_58 => 
 CallsH Tryz.prog 22 #[t5, (str [116, 111, 112]), t63, (.int .i64 1)] h_58 (fun t64 h_59 => 
 Hp Tryz.prog false (binS .add 3 (.tmp 44) (.const (.int .i64 1)) i4 (.int .i64 1)) (fun t45 h_60 => 
 X t45 h_60) h_59 ⟨⟩) ⟨⟩) h_57 ⟨⟩) h_56 ⟨⟩) h_55 ⟨⟩) ⟨⟩) h_54 ⟨⟩) #[] ⟨⟩) #[] ⟨⟩) h_54 ⟨⟩) #[] ⟨⟩) #[] ⟨⟩) (
 R t5 h_54) ⟨⟩ ⟨⟩) h_53 ⟨⟩) h_52 ⟨⟩) [(.int .i64 0)] h_51 ⟨⟩) ⟨⟩ ⟨⟩) h_50 ⟨⟩) h_48 ⟨⟩ ⟨⟩) h_46 ⟨⟩ ⟨⟩) h_44 ⟨⟩ ⟨⟩) h_42 ⟨⟩ ⟨⟩) h_41 ⟨⟩) h_39 ⟨⟩ ⟨⟩) h_37 ⟨⟩ ⟨⟩) h_35 ⟨⟩ ⟨⟩) h_33 ⟨⟩ ⟨⟩) h_31 ⟨⟩ ⟨⟩) h_30 ⟨⟩) h_28 ⟨⟩ ⟨⟩) h_26 ⟨⟩ ⟨⟩) h_24 ⟨⟩ ⟨⟩) h_22 ⟨⟩ ⟨⟩) h_21 ⟨⟩) h_19 ⟨⟩ ⟨⟩) h_17 ⟨⟩ ⟨⟩) h_15 ⟨⟩ ⟨⟩) h_13 ⟨⟩ ⟨⟩) h_11 ⟨⟩ ⟨⟩) h_10 ⟨⟩) h_8 ⟨⟩ ⟨⟩) h_6 ⟨⟩ ⟨⟩) h_4 ⟨⟩ ⟨⟩) h_2 ⟨⟩ ⟨⟩) h_1 ⟨⟩) ⟨⟩

theorem n6_calls {l0 : Value} {R : Value → Heap → Prop} {h : Heap} (H : n6 l0 R h) : CallsH Tryz.prog 6 #[l0] h R ⟨⟩ :=
 callsH_of_eq Tryz.follow (.n none .l (.n none .l (.n none .l (.n none (.n none .l (.n none (.n (some [5]) .l .l) .l)) .l)))) Tryz.func6 (by kernel_rfl) (by kernel_rfl) (by kernel_rfl) H

/-- palimpsest/palimpsestlaw25.num -/
def n7 (e0 : Value) (R : Value → Heap → Prop) (h : Heap) : Prop :=
 R e0 h

theorem n7_calls {e0 : Value} {R : Value → Heap → Prop} {h : Heap} (H : n7 e0 R h) : CallsH Tryz.prog 7 #[e0] h R ⟨⟩ :=
 callsH_of_eq Tryz.follow .l Tryz.func7 (by kernel_rfl) (by kernel_rfl) (by kernel_rfl) H

/-- (*palimpsest/model.World).Add -/
def n8 (w0 name1 as2 gran3 : Value) (R : Value → Heap → Prop) (h : Heap) : Prop :=
 Hp Tryz.prog false (Instr.buildSlice 105 1 #[(0, as2)]) (fun t14 h_1 => 
 CallsH Tryz.prog 30 #[t14] h_1 (fun t15 h_2 => 
 Join1 (fun k h_3 => guardP t15 true (k gran3 h_3) (k undef h_3) ⟨⟩ ⟨⟩) (fun t17 h_4 => 
 Join1 (fun k_1 h_5 => guardP t15 true (Hp Tryz.prog false (binS .geq 3 (.tmp 17) (.const (.int .i64 9)) t17 (.int .i64 9)) k_1 h_5 ⟨⟩) (k_1 undef h_5) ⟨⟩ ⟨⟩) (fun t18 h_6 => 
 Hp Tryz.prog false (pickS t15 t18 (.bool false)) (fun t19 h_7 => 
 Join1 (fun k_2 h_8 => guardP t19 true (k_2 gran3 h_8) (k_2 undef h_8) ⟨⟩ ⟨⟩) (fun t21 h_9 => 
 Join1 (fun k_3 h_10 => guardP t19 true (Hp Tryz.prog false (binS .leq 3 (.tmp 21) (.const (.int .i64 26)) t21 (.int .i64 26)) k_3 h_10 ⟨⟩) (k_3 undef h_10) ⟨⟩ ⟨⟩) (fun t22 h_11 => 
 Hp Tryz.prog false (pickS t19 t22 (.bool false)) (fun t23 h_12 => 
 CallsH Tryz.prog 29 #[w0, t23, name1] h_12 (fun t25 h_13 => 
 Hp Tryz.prog false (Instr.extract t25 0) (fun t26 h_14 => 
 Hp Tryz.prog false (Instr.extract t25 1) (fun t27 h_15 => 
 Hp Tryz.prog false (binS .neq 27 (.tmp 29) (.const (.int .i64 0)) t27 (.int .i64 0)) (fun t30 h_16 => 
 CondP t30 (
 R t27 h_16) (
 CallsH Tryz.prog 31 #[t26, as2] h_16 (fun t35 h_17 => 
 Hp Tryz.prog false (binS .geq 3 (.tmp 35) (.const (.int .i64 0)) t35 (.int .i64 0)) (fun t36 h_18 => 
 CondP t36 (
 R (.int .i64 8) h_18) (
 Hp Tryz.prog false (nilS t26) (fun t39 h_19 => 
 Hp Tryz.prog false (Instr.fieldAt 72 t39 6) (fun t40 h_20 => 
 Hp Tryz.prog false (Instr.loadAt 70 t40) (fun t41 h_21 => 
 Hp Tryz.prog false (Builtin.len_ #[70] 3 #[t41]) (fun t42 h_22 => 
 Hp Tryz.prog false (binS .eql 3 (.tmp 42) (.const (.int .i64 64)) t42 (.int .i64 64)) (fun t43 h_23 => 
 CondP t43 (
 R (.int .i64 6) h_23) (
 Hp Tryz.prog false (nilS t26) (fun t46 h_24 => 
 Hp Tryz.prog false (Instr.fieldAt 72 t46 6) (fun t47 h_25 => 
 Hp Tryz.prog false (Instr.loadAt 70 t47) (fun t48 h_26 => 
 Hp Tryz.prog false (Instr.makeMap 73 none) (fun t51 h_27 => 
 Hp Tryz.prog false (Instr.build 75 #[(0, as2), (1, gran3), (2, (.bool true)), (3, t51)]) (fun t52 h_28 => 
 Hp Tryz.prog false (Instr.buildSlice 70 1 #[(0, t52)]) (fun t53 h_29 => 
 Hp Tryz.prog false (Builtin.append_ #[70, 70] 70 #[t48, t53]) (fun t54 h_30 => 
 Hp Tryz.prog false (nilS t26) (fun t55 h_31 => 
 Hp Tryz.prog false (Instr.fieldAt 72 t55 6) (fun t56 h_32 => 
 Hp Tryz.prog false (storeS 70 t56 t54) (fun _ h_33 => 
 R (.int .i64 0) h_33) h_32 ⟨⟩) h_31 ⟨⟩) h_30 ⟨⟩) h_29 ⟨⟩) h_28 ⟨⟩) h_27 ⟨⟩) h_26 ⟨⟩) h_25 ⟨⟩) h_24 ⟨⟩) h_23 ⟨⟩) ⟨⟩ ⟨⟩) h_22 ⟨⟩) h_21 ⟨⟩) h_20 ⟨⟩) h_19 ⟨⟩) h_18 ⟨⟩) ⟨⟩ ⟨⟩) h_17 ⟨⟩) ⟨⟩) ⟨⟩ ⟨⟩) h_15 ⟨⟩) h_14 ⟨⟩) h_13 ⟨⟩) ⟨⟩) h_11 ⟨⟩) h_9 ⟨⟩ ⟨⟩) h_7 ⟨⟩ ⟨⟩) h_6 ⟨⟩) h_4 ⟨⟩ ⟨⟩) h_2 ⟨⟩ ⟨⟩) ⟨⟩) h ⟨⟩

theorem n8_calls {w0 name1 as2 gran3 : Value} {R : Value → Heap → Prop} {h : Heap} (H : n8 w0 name1 as2 gran3 R h) : CallsH Tryz.prog 8 #[w0, name1, as2, gran3] h R ⟨⟩ :=
 callsH_of_eq Tryz.follow .l Tryz.func8 (by kernel_rfl) (by kernel_rfl) (by kernel_rfl) H

/-- (*palimpsest/model.World).Snap -/
def n9 (w0 name1 as2 : Value) (R : Value → Heap → Prop) (h : Heap) : Prop :=
 Hp Tryz.prog false (Instr.buildSlice 105 1 #[(0, as2)]) (fun t12 h_1 => 
 CallsH Tryz.prog 30 #[t12] h_1 (fun t13 h_2 => 
 CallsH Tryz.prog 29 #[w0, t13, name1] h_2 (fun t15 h_3 => 
 Hp Tryz.prog false (Instr.extract t15 0) (fun t16 h_4 => 
 Hp Tryz.prog false (Instr.extract t15 1) (fun t17 h_5 => 
 Hp Tryz.prog false (binS .neq 27 (.tmp 19) (.const (.int .i64 0)) t17 (.int .i64 0)) (fun t20 h_6 => 
 CondP t20 (
 R t17 h_6) (
 CallsH Tryz.prog 32 #[t16, as2] h_6 (fun t25 h_7 => 
 Hp Tryz.prog false (binS .geq 3 (.tmp 25) (.const (.int .i64 0)) t25 (.int .i64 0)) (fun t26 h_8 => 
 CondP t26 (
 R (.int .i64 8) h_8) (
 Hp Tryz.prog false (nilS t16) (fun t29 h_9 => 
 Hp Tryz.prog false (Instr.fieldAt 72 t29 5) (fun t30 h_10 => 
 Hp Tryz.prog false (Instr.loadAt 69 t30) (fun t31 h_11 => 
 Hp Tryz.prog false (Builtin.len_ #[69] 3 #[t31]) (fun t32 h_12 => 
 Hp Tryz.prog false (binS .eql 3 (.tmp 32) (.const (.int .i64 64)) t32 (.int .i64 64)) (fun t33 h_13 => 
 CondP t33 (
 R (.int .i64 6) h_13) (
 Hp Tryz.prog true (nilS t16) (fun t36 _ => 
 Hp Tryz.prog true (Instr.fieldAt 72 t36 5) (fun t37 _ => 
 Hp Tryz.prog true (Instr.loadAt 69 t37) (fun t38 _ => 
 Hp Tryz.prog true (nilS t16) (fun t41 _ => 
 Hp Tryz.prog true (Instr.fieldAt 72 t41 2) (fun t42 _ => 
 Hp Tryz.prog true (Instr.loadAt 2 t42) (fun t43 _ => 
 Hp Tryz.prog true (nilS t16) (fun t45 _ => 
 Hp Tryz.prog true (Instr.fieldAt 72 t45 4) (fun t46 _ => 
 Hp Tryz.prog true (Instr.loadAt 68 t46) (fun t47 _ => 
 CallsH Tryz.prog 33 #[t47] h_13 (fun t48 h_14 => Hp Tryz.prog true (Instr.loadAt 2 t42) (fun u _ => u = t43) h_14 ⟨⟩ ∧ Hp Tryz.prog true (Instr.loadAt 69 t37) (fun u _ => u = t38) h_14 ⟨⟩ ∧ 
 Hp Tryz.prog true (Instr.build 78 #[(0, as2), (1, t43), (2, t48)]) (fun t49 _ => 
 Hp Tryz.prog false (Instr.buildSlice 69 1 #[(0, t49)]) (fun t50 h_15 => Hp Tryz.prog true (Instr.loadAt 69 t37) (fun u _ => u = t38) h_15 ⟨⟩ ∧ 
 Hp Tryz.prog false (Builtin.append_ #[69, 69] 69 #[t38, t50]) (fun t51 h_16 => 
 Hp Tryz.prog true (nilS t16) (fun t52 _ => 
 Hp Tryz.prog true (Instr.fieldAt 72 t52 5) (fun t53 _ => 
 Hp Tryz.prog false (storeS 69 t53 t51) (fun _ h_17 => 
 R (.int .i64 0) h_17) h_16 ⟨⟩) #[] ⟨⟩) #[] ⟨⟩) h_15 ⟨⟩) h_14 ⟨⟩) #[] ⟨⟩) ⟨⟩) h_13 ⟨⟩) #[] ⟨⟩) #[] ⟨⟩) h_13 ⟨⟩) #[] ⟨⟩) #[] ⟨⟩) h_13 ⟨⟩) #[] ⟨⟩) #[] ⟨⟩) ⟨⟩ ⟨⟩) h_12 ⟨⟩) h_11 ⟨⟩) h_10 ⟨⟩) h_9 ⟨⟩) h_8 ⟨⟩) ⟨⟩ ⟨⟩) h_7 ⟨⟩) ⟨⟩) ⟨⟩ ⟨⟩) h_5 ⟨⟩) h_4 ⟨⟩) h_3 ⟨⟩) ⟨⟩) ⟨⟩) h ⟨⟩

theorem n9_calls {w0 name1 as2 : Value} {R : Value → Heap → Prop} {h : Heap} (H : n9 w0 name1 as2 R h) : CallsH Tryz.prog 9 #[w0, name1, as2] h R ⟨⟩ :=
 callsH_of_eq Tryz.follow .l Tryz.func9 (by kernel_rfl) (by kernel_rfl) (by kernel_rfl) H

/-- palimpsest/palimpsestlaw25.all -/
def n10 (w0 name1 : Value) (R : Value → Heap → Prop) (h : Heap) : Prop :=
 CallsH Tryz.prog 14 #[w0, name1] h (fun t13 h_1 => 
 Hp Tryz.prog false (Instr.extract t13 0) (fun t14 h_2 => 
 Hp Tryz.prog false (Instr.extract t13 1) (fun t15 h_3 => 
 Hp Tryz.prog false (Instr.alloc 40 true undef) (fun x6 h_4 => 
 Hp Tryz.prog false (storeS 40 x6 t14) (fun _ h_5 => 
 CallsH Tryz.prog 7 #[t15] h_5 (fun t17 h_6 => 
 Hp Tryz.prog false (binS .neq 3 (.tmp 17) (.const (.int .i64 0)) t17 (.int .i64 0)) (fun t18 h_7 => 
 Join1 (fun k h_8 => guardP t18 false (Hp Tryz.prog false (Instr.fieldAt 40 x6 2) k h_8 ⟨⟩) (k undef h_8) ⟨⟩ ⟨⟩) (fun t20 h_9 => 
 Join1 (fun k_1 h_10 => guardP t18 false (Hp Tryz.prog false (Instr.loadAt 2 t20) k_1 h_10 ⟨⟩) (k_1 undef h_10) ⟨⟩ ⟨⟩) (fun t21 h_11 => 
 Join1 (fun k_2 h_12 => guardP t18 false (Hp Tryz.prog false (binS .lss 2 (.tmp 21) (.const (.int .i64 0)) t21 (.int .i64 0)) k_2 h_12 ⟨⟩) (k_2 undef h_12) ⟨⟩ ⟨⟩) (fun t22 h_13 => 
 Hp Tryz.prog false (pickS t18 (.bool true) t22) (fun t23 h_14 => 
 Join1 (fun k_3 h_15 => guardP t23 false (Hp Tryz.prog false (Instr.fieldAt 40 x6 2) k_3 h_15 ⟨⟩) (k_3 undef h_15) ⟨⟩ ⟨⟩) (fun t25 h_16 => 
 Join1 (fun k_4 h_17 => guardP t23 false (Hp Tryz.prog false (Instr.loadAt 2 t25) k_4 h_17 ⟨⟩) (k_4 undef h_17) ⟨⟩ ⟨⟩) (fun t26 h_18 => 
 Join1 (fun k_5 h_19 => guardP t23 false (Hp Tryz.prog false (binS .gtr 2 (.tmp 26) (.const (.int .i64 1000000)) t26 (.int .i64 1000000)) k_5 h_19 ⟨⟩) (k_5 undef h_19) ⟨⟩ ⟨⟩) (fun t27 h_20 => 
 Hp Tryz.prog false (pickS t23 (.bool true) t27) (fun t28 h_21 => 
 CondP t28 (
 R (.tuple #[(str []), (.bool false)]) h_21) (
 Hp Tryz.prog false (Instr.fieldAt 40 x6 2) (fun t32 h_22 => 
 Hp Tryz.prog false (Instr.loadAt 2 t32) (fun t33 h_23 => 
 Hp Tryz.prog false (binS .quo 2 (.tmp 33) (.const (.int .i64 512)) t33 (.int .i64 512)) (fun t34 h_24 => 
 CallsH Tryz.prog 28 #[w0, name1, (.int .i64 0), t34] h_24 (fun t35 h_25 => 
 Hp Tryz.prog false (Instr.extract t35 0) (fun t36 h_26 => 
 Hp Tryz.prog false (Instr.extract t35 1) (fun t37 h_27 => 
 Hp Tryz.prog true (convert 32 9 t36) (fun t39 _ => 
 CallsH Tryz.prog 7 #[t37] h_27 (fun t41 h_28 => Hp Tryz.prog true (convert 32 9 t36) (fun u _ => u = t39) h_28 ⟨⟩ ∧ 
 Hp Tryz.prog true (binS .eql 3 (.tmp 41) (.const (.int .i64 0)) t41 (.int .i64 0)) (fun t42 _ => 
 R (.tuple #[t39, t42]) h_28) #[] ⟨⟩) ⟨⟩) h_27 ⟨⟩) h_26 ⟨⟩) h_25 ⟨⟩) ⟨⟩) h_23 ⟨⟩) h_22 ⟨⟩) h_21 ⟨⟩) ⟨⟩ ⟨⟩) h_20 ⟨⟩) h_18 ⟨⟩ ⟨⟩) h_16 ⟨⟩ ⟨⟩) h_14 ⟨⟩ ⟨⟩) h_13 ⟨⟩) h_11 ⟨⟩ ⟨⟩) h_9 ⟨⟩ ⟨⟩) h_7 ⟨⟩ ⟨⟩) h_6 ⟨⟩) ⟨⟩) h_4 ⟨⟩) h_3 ⟨⟩) h_2 ⟨⟩) h_1 ⟨⟩) ⟨⟩

theorem n10_calls {w0 name1 : Value} {R : Value → Heap → Prop} {h : Heap} (H : n10 w0 name1 R h) : CallsH Tryz.prog 10 #[w0, name1] h R ⟨⟩ :=
 callsH_of_eq Tryz.follow .l Tryz.func10 (by kernel_rfl) (by kernel_rfl) (by kernel_rfl) H

/-- (*palimpsest/model.World).Write -/
def n11 (w0 name1 at2 b3 : Value) (R : Value → Heap → Prop) (h : Heap) : Prop :=
 Hp Tryz.prog false (Builtin.len_ #[32] 3 #[b3]) (fun t13 h_1 => 
 Hp Tryz.prog false (binS .quo 3 (.tmp 13) (.const (.int .i64 512)) t13 (.int .i64 512)) (fun t14 h_2 => 
 Hp Tryz.prog false (Builtin.len_ #[32] 3 #[b3]) (fun t18 h_3 => 
 Hp Tryz.prog false (binS .rem 3 (.tmp 18) (.const (.int .i64 512)) t18 (.int .i64 512)) (fun t19 h_4 => 
 Hp Tryz.prog false (binS .eql 3 (.tmp 19) (.const (.int .i64 0)) t19 (.int .i64 0)) (fun t20 h_5 => 
 CallsH Tryz.prog 34 #[w0, t20, name1, at2, t14] h_5 (fun t24 h_6 => 
 Hp Tryz.prog false (Instr.extract t24 0) (fun t25 h_7 => 
 Hp Tryz.prog false (Instr.extract t24 1) (fun t26 h_8 => 
 Hp Tryz.prog false (binS .neq 27 (.tmp 27) (.const (.int .i64 0)) t26 (.int .i64 0)) (fun t28 h_9 => 
 CondP t28 (
 R t26 h_9) (
 CallsH Tryz.prog 35 #[w0, t25, at2, b3] h_9 (fun t34 h_10 => 
 CallsH Tryz.prog 36 #[t25, at2, t14] h_10 (fun t38 h_11 => 
 R (.int .i64 0) h_11) ⟨⟩) ⟨⟩) ⟨⟩ ⟨⟩) h_8 ⟨⟩) h_7 ⟨⟩) h_6 ⟨⟩) ⟨⟩) h_4 ⟨⟩) h_3 ⟨⟩) h_2 ⟨⟩) h_1 ⟨⟩) h ⟨⟩

theorem n11_calls {w0 name1 at2 b3 : Value} {R : Value → Heap → Prop} {h : Heap} (H : n11 w0 name1 at2 b3 R h) : CallsH Tryz.prog 11 #[w0, name1, at2, b3] h R ⟨⟩ :=
 callsH_of_eq Tryz.follow .l Tryz.func11 (by kernel_rfl) (by kernel_rfl) (by kernel_rfl) H

/-- (*palimpsest/model.World).Discard -/
def n12 (w0 name1 at2 n3 : Value) (R : Value → Heap → Prop) (h : Heap) : Prop :=
 CallsH Tryz.prog 22 #[w0, name1, at2, n3] h (fun t13 h_1 => 
 R t13 h_1) ⟨⟩

theorem n12_calls {w0 name1 at2 n3 : Value} {R : Value → Heap → Prop} {h : Heap} (H : n12 w0 name1 at2 n3 R h) : CallsH Tryz.prog 12 #[w0, name1, at2, n3] h R ⟨⟩ :=
 callsH_of_eq Tryz.follow .l Tryz.func12 (by kernel_rfl) (by kernel_rfl) (by kernel_rfl) H

/-- (*palimpsest/model.World).Apply -/
def n13 (w0 name1 as2 : Value) (R : Value → Heap → Prop) (h : Heap) : Prop :=
 Hp Tryz.prog false (Instr.buildSlice 105 1 #[(0, as2)]) (fun t13 h_1 => 
 CallsH Tryz.prog 30 #[t13] h_1 (fun t14 h_2 => 
 CallsH Tryz.prog 29 #[w0, t14, name1] h_2 (fun t16 h_3 => 
 Hp Tryz.prog false (Instr.extract t16 0) (fun t17 h_4 => 
 Hp Tryz.prog false (Instr.extract t16 1) (fun t18 h_5 => 
 Hp Tryz.prog false (binS .neq 27 (.tmp 19) (.const (.int .i64 0)) t18 (.int .i64 0)) (fun t20 h_6 => 
 CondP t20 (
 R t18 h_6) (
 CallsH Tryz.prog 32 #[t17, as2] h_6 (fun t24 h_7 => 
 Hp Tryz.prog false (binS .lss 3 (.tmp 26) (.const (.int .i64 0)) t24 (.int .i64 0)) (fun t27 h_8 => 
 CondP t27 (
 R (.int .i64 7) h_8) (
 CallsH Tryz.prog 37 #[w0, t17] h_8 (fun t31 h_9 => 
 Hp Tryz.prog false (binS .gtr 3 (.tmp 31) (.const (.int .i64 0)) t31 (.int .i64 0)) (fun t32 h_10 => 
 CondP t32 (
 R (.int .i64 10) h_10) (
 Hp Tryz.prog true (nilS t17) (fun t36 _ => 
 Hp Tryz.prog true (Instr.fieldAt 72 t36 5) (fun t37 _ => 
 Hp Tryz.prog true (Instr.loadAt 69 t37) (fun t38 _ => 
 Hp Tryz.prog true (Instr.indexAt 69 t38 t24) (fun t40 _ => 
 Hp Tryz.prog true (Instr.fieldAt 78 t40 1) (fun t41 _ => 
 Hp Tryz.prog true (Instr.loadAt 2 t41) (fun t42 _ => 
 Hp Tryz.prog true (nilS t17) (fun t44 _ => 
 Hp Tryz.prog true (Instr.fieldAt 72 t44 5) (fun t45 _ => 
 Hp Tryz.prog true (Instr.loadAt 69 t45) (fun t46 _ => 
 Hp Tryz.prog true (Instr.indexAt 69 t46 t24) (fun t48 _ => 
 Hp Tryz.prog true (Instr.fieldAt 78 t48 2) (fun t49 _ => 
 Hp Tryz.prog true (Instr.loadAt 68 t49) (fun t50 _ => 
 CallsH Tryz.prog 33 #[t50] h_10 (fun t51 h_11 => Hp Tryz.prog true (Instr.loadAt 2 t41) (fun u _ => u = t42) h_11 ⟨⟩ ∧ Hp Tryz.prog true (Instr.loadAt 69 t37) (fun u _ => u = t38) h_11 ⟨⟩ ∧ 
 Hp Tryz.prog true (nilS t17) (fun t52 _ => 
 Hp Tryz.prog true (Instr.fieldAt 72 t52 2) (fun t53 _ => 
 Hp Tryz.prog false (storeS 2 t53 t42) (fun _ h_12 => 
 Hp Tryz.prog true (nilS t17) (fun t54 _ => 
 Hp Tryz.prog true (Instr.fieldAt 72 t54 4) (fun t55 _ => 
 Hp Tryz.prog false (storeS 68 t55 t51) (fun _ h_13 => 
 CallsH Tryz.prog 38 #[t17] h_13 (fun t57 h_14 => 
 Hp Tryz.prog false (nilS t17) (fun t60 h_15 => 
 Hp Tryz.prog false (Instr.fieldAt 72 t60 2) (fun t61 h_16 => 
 Hp Tryz.prog false (Instr.loadAt 2 t61) (fun t62 h_17 => 
 Hp Tryz.prog false (binS .quo 2 (.tmp 62) (.const (.int .i64 512)) t62 (.int .i64 512)) (fun t63 h_18 => 
 CallsH Tryz.prog 36 #[t17, (.int .i64 0), t63] h_18 (fun t64 h_19 => 
 R (.int .i64 0) h_19) ⟨⟩) h_17 ⟨⟩) h_16 ⟨⟩) h_15 ⟨⟩) h_14 ⟨⟩) ⟨⟩) h_12 ⟨⟩) #[] ⟨⟩) #[] ⟨⟩) h_11 ⟨⟩) #[] ⟨⟩) #[] ⟨⟩) ⟨⟩) h_10 ⟨⟩) #[] ⟨⟩) #[] ⟨⟩) h_10 ⟨⟩) #[] ⟨⟩) #[] ⟨⟩) h_10 ⟨⟩) #[] ⟨⟩) #[] ⟨⟩) h_10 ⟨⟩) #[] ⟨⟩) #[] ⟨⟩) ⟨⟩ ⟨⟩) h_9 ⟨⟩) ⟨⟩) ⟨⟩ ⟨⟩) h_7 ⟨⟩) ⟨⟩) ⟨⟩ ⟨⟩) h_5 ⟨⟩) h_4 ⟨⟩) h_3 ⟨⟩) ⟨⟩) ⟨⟩) h ⟨⟩

theorem n13_calls {w0 name1 as2 : Value} {R : Value → Heap → Prop} {h : Heap} (H : n13 w0 name1 as2 R h) : CallsH Tryz.prog 13 #[w0, name1, as2] h R ⟨⟩ :=
 callsH_of_eq Tryz.follow .l Tryz.func13 (by kernel_rfl) (by kernel_rfl) (by kernel_rfl) H

/-- (*palimpsest/model.World).Info -/
def n14 (w0 name1 : Value) (R : Value → Heap → Prop) (h : Heap) : Prop :=
 Hp Tryz.prog false (Instr.alloc 40 true undef) (fun t4 h_1 => 
 CallsH Tryz.prog 29 #[w0, (.bool true), name1] h_1 (fun t11 h_2 => 
 Hp Tryz.prog false (Instr.extract t11 0) (fun t12 h_3 => 
 Hp Tryz.prog false (Instr.extract t11 1) (fun t13 h_4 => 
 Hp Tryz.prog false (binS .neq 27 (.tmp 14) (.const (.int .i64 0)) t13 (.int .i64 0)) (fun t15 h_5 => 
 CondP t15 (
 Hp Tryz.prog false (Instr.build 40 #[]) (fun t16 h_6 => 
 Hp Tryz.prog false (storeS 40 t4 t16) (fun _ h_7 => 
 Hp Tryz.prog true (loadCell 40 t4) (fun r _ =>
 R (.tuple #[r, t13]) h_7) h_7 ⟨⟩) h_6 ⟨⟩) h_5 ⟨⟩) (
 CallsH Tryz.prog 39 #[t12] h_5 (fun t19 h_8 => 
 Hp Tryz.prog false (storeS 40 t4 t19) (fun _ h_9 => 
 Hp Tryz.prog true (loadCell 40 t4) (fun r_1 _ =>
 R (.tuple #[r_1, (.int .i64 0)]) h_9) h_9 ⟨⟩) h_8 ⟨⟩) ⟨⟩) ⟨⟩ ⟨⟩) h_4 ⟨⟩) h_3 ⟨⟩) h_2 ⟨⟩) ⟨⟩) h ⟨⟩

theorem n14_calls {w0 name1 : Value} {R : Value → Heap → Prop} {h : Heap} (H : n14 w0 name1 R h) : CallsH Tryz.prog 14 #[w0, name1] h R ⟨⟩ :=
 callsH_of_eq Tryz.follow .l Tryz.func14 (by kernel_rfl) (by kernel_rfl) (by kernel_rfl) H

/-- palimpsest/palimpsestlaw25.in -/
def n15 (l0 x1 : Value) (R : Value → Heap → Prop) (h : Heap) : Prop :=
 LoopC 1 (fun (X : Value → Heap → Prop) => fun i5 h_1 =>
 Hp Tryz.prog false (Builtin.len_ #[44] 3 #[l0]) (fun t8 h_2 => 
 Hp Tryz.prog false (binS .lss 3 (.tmp 6) (.tmp 8) i5 t8) (fun t9 h_3 => 
 CondP t9 (
 Hp Tryz.prog false (Instr.indexAt 44 l0 i5) (fun t14 h_4 => 
 Hp Tryz.prog false (Instr.loadAt 2 t14) (fun t15 h_5 => 
 Hp Tryz.prog false (binS .eql 2 (.tmp 15) (.tmp 16) t15 x1) (fun t17 h_6 => 
 CondP t17 (
 R (.bool true) h_6) (
 Hp Tryz.prog false (binS .add 3 (.tmp 10) (.const (.int .i64 1)) i5 (.int .i64 1)) (fun t11 h_7 => 
 X t11 h_7) h_6 ⟨⟩) ⟨⟩ ⟨⟩) h_5 ⟨⟩) h_4 ⟨⟩) h_3 ⟨⟩) (
 R (.bool false) h_3) ⟨⟩ ⟨⟩) h_2 ⟨⟩) h_1 ⟨⟩) [(.int .i64 0)] h ⟨⟩

theorem n15_calls {l0 x1 : Value} {R : Value → Heap → Prop} {h : Heap} (H : n15 l0 x1 R h) : CallsH Tryz.prog 15 #[l0, x1] h R ⟨⟩ :=
 callsH_of_eq Tryz.follow (.n none .l (.n none (.n none .l (.n none (.n (some [6]) .l .l) .l)) .l)) Tryz.func15 (by kernel_rfl) (by kernel_rfl) (by kernel_rfl) H

/-- (*palimpsest/model.World).Convert -/
def n16 (w0 from1 to2 bits3 : Value) (R : Value → Heap → Prop) (h : Heap) : Prop :=
 Hp Tryz.prog false (Instr.buildSlice 105 1 #[(0, to2)]) (fun t19 h_1 => 
 CallsH Tryz.prog 30 #[t19] h_1 (fun t20 h_2 => 
 Join1 (fun k h_3 => guardP t20 true (k bits3 h_3) (k undef h_3) ⟨⟩ ⟨⟩) (fun t22 h_4 => 
 Join1 (fun k_1 h_5 => guardP t20 true (CallsH Tryz.prog 40 #[t22] h_5 k_1 ⟨⟩) (k_1 undef h_5) ⟨⟩ ⟨⟩) (fun t23 h_6 => 
 Hp Tryz.prog false (pickS t20 t23 (.bool false)) (fun t24 h_7 => 
 CallsH Tryz.prog 29 #[w0, t24, from1] h_7 (fun t26 h_8 => 
 Hp Tryz.prog false (Instr.extract t26 0) (fun t27 h_9 => 
 Hp Tryz.prog false (Instr.extract t26 1) (fun t28 h_10 => 
 Hp Tryz.prog false (binS .neq 27 (.tmp 30) (.const (.int .i64 0)) t28 (.int .i64 0)) (fun t31 h_11 => 
 CondP t31 (
 R t28 h_11) (
 Hp Tryz.prog false (nilS w0) (fun t35 h_12 => 
 Hp Tryz.prog false (Instr.fieldAt 87 t35 0) (fun t36 h_13 => 
 Hp Tryz.prog false (Instr.loadAt 85 t36) (fun t37 h_14 => 
 Hp Tryz.prog false (Instr.lookup 85 t37 to2 false) (fun t39 h_15 => 
 Hp Tryz.prog false (binS .neq 62 (.tmp 39) (.const (.pointer none)) t39 (.pointer none)) (fun t40 h_16 => 
 CondP t40 (
 R (.int .i64 8) h_16) (
 Hp Tryz.prog false (nilS t27) (fun t43 h_17 => 
 Hp Tryz.prog false (Instr.fieldAt 72 t43 2) (fun t44 h_18 => 
 Hp Tryz.prog false (Instr.loadAt 2 t44) (fun t45 h_19 => 
 Hp Tryz.prog false (Instr.makeMap 68 none) (fun t47 h_20 => 
 Hp Tryz.prog false (Instr.build 72 #[(0, to2), (2, t45), (3, bits3), (4, t47)]) (fun t48 h_21 => 
 Hp Tryz.prog false (Instr.box 72 t48) (fun t49 h_22 => 
 Hp Tryz.prog false (binS .shl 3 (.const (.int .i64 1)) (.tmp 50) (.int .i64 1) bits3) (fun t51 h_23 => 
 Hp Tryz.prog false (Instr.makeSlice 32 t51 t51) (fun t52 h_24 => 
 CallsH Tryz.prog 41 #[t49] h_24 (fun t54 h_25 => 
 LoopC 1 (fun (X : Value → Heap → Prop) => fun t55 h_26 =>
 Hp Tryz.prog false (binS .lss 2 (.tmp 55) (.tmp 54) t55 t54) (fun t56 h_27 => 
 CondP t56 (
 JoinN 0 (fun (k_2 : Heap → Prop) h_28 =>
 JoinN 0 (fun (k_3 : Heap → Prop) h_29 =>
 Hp Tryz.prog true (binS .shl 2 (.const (.int .i64 1)) (.tmp 58) (.int .i64 1) bits3) (fun t59 _ => 
 Hp Tryz.prog true (nilS t27) (fun t61 _ => 
 Hp Tryz.prog true (Instr.fieldAt 72 t61 2) (fun t62 _ => 
 Hp Tryz.prog true (Instr.loadAt 2 t62) (fun t63 _ => 
 Hp Tryz.prog true (binS .shl 2 (.tmp 64) (.tmp 65) t55 bits3) (fun t66 _ => 
 Hp Tryz.prog true (binS .sub 2 (.tmp 63) (.tmp 66) t63 t66) (fun t67 _ => 
 Hp Tryz.prog true (Builtin.min_ #[2, 2] 2 #[t59, t67]) (fun t68 _ => 
 Hp Tryz.prog false (binS .shl 2 (.tmp 71) (.tmp 72) t55 bits3) (fun t73 h_30 => 
 Hp Tryz.prog false (binS .quo 2 (.tmp 73) (.const (.int .i64 512)) t73 (.int .i64 512)) (fun t74 h_31 => 
 Hp Tryz.prog false (binS .quo 2 (.tmp 75) (.const (.int .i64 512)) t68 (.int .i64 512)) (fun t76 h_32 => 
 CallsH Tryz.prog 42 #[w0, t27, t74, t76] h_32 (fun t77 h_33 => 
 Hp Tryz.prog false (Instr.sliceAt 32 t52 none (some t68) none) (fun t81 h_34 => 
 CallsH Tryz.prog 43 #[t77, t81] h_34 (fun t82 h_35 => 
 Hp Tryz.prog false (Op.unary .not t82) (fun t83 h_36 => 
 CondP t83 (
 Hp Tryz.prog true (nilS t49) (fun t85 _ => 
 Hp Tryz.prog true (Instr.fieldAt 72 t85 4) (fun t86 _ => 
 Hp Tryz.prog true (Instr.loadAt 68 t86) (fun t87 _ => 
 Hp Tryz.prog true (Instr.sliceAt 32 t52 (some t68) none none) (fun t92 _ => 
 Hp Tryz.prog false (Builtin.append_ #[32, 32] 32 #[t77, t92]) (fun t93 h_37 => Hp Tryz.prog true (Instr.loadAt 68 t86) (fun u _ => u = t87) h_37 ⟨⟩ ∧ 
 Hp Tryz.prog false (unitS (Instr.mapUpdate 68 t87 t55 t93)) (fun _ h_38 => 
 k_3 h_38) h_37 ⟨⟩) h_36 ⟨⟩) #[] ⟨⟩) h_36 ⟨⟩) #[] ⟨⟩) #[] ⟨⟩) (
 k_3 h_36) ⟨⟩ ⟨⟩) h_35 ⟨⟩) ⟨⟩) h_33 ⟨⟩) ⟨⟩) h_31 ⟨⟩) h_30 ⟨⟩) h_29 ⟨⟩) #[] ⟨⟩) #[] ⟨⟩) #[] ⟨⟩) h_29 ⟨⟩) #[] ⟨⟩) #[] ⟨⟩) #[] ⟨⟩)
 (fun h_39 =>
 k_2 h_39) h_28 ⟨⟩ ⟨⟩)
 (fun h_40 =>
 Hp Tryz.prog false (binS .add 2 (.tmp 55) (.const (.int .i64 1)) t55 (.int .i64 1)) (fun t94 h_41 => 
 X t94 h_41) h_40 ⟨⟩) h_27 ⟨⟩ ⟨⟩) (
 Hp Tryz.prog false (nilS w0) (fun t96 h_42 => 
 Hp Tryz.prog false (Instr.fieldAt 87 t96 0) (fun t97 h_43 => 
 Hp Tryz.prog false (Instr.loadAt 85 t97) (fun t98 h_44 => 
 Hp Tryz.prog false (unitS (Instr.mapUpdate 85 t98 to2 t49)) (fun _ h_45 => 
 R (.int .i64 0) h_45) h_44 ⟨⟩) h_43 ⟨⟩) h_42 ⟨⟩) h_27 ⟨⟩) ⟨⟩ ⟨⟩) h_26 ⟨⟩) [(.int .i64 0)] h_25 ⟨⟩) ⟨⟩) h_23 ⟨⟩) h_22 ⟨⟩) h_21 ⟨⟩) h_20 ⟨⟩) h_19 ⟨⟩) h_18 ⟨⟩) h_17 ⟨⟩) h_16 ⟨⟩) ⟨⟩ ⟨⟩) h_15 ⟨⟩) h_14 ⟨⟩) h_13 ⟨⟩) h_12 ⟨⟩) h_11 ⟨⟩) ⟨⟩ ⟨⟩) h_10 ⟨⟩) h_9 ⟨⟩) h_8 ⟨⟩) ⟨⟩) h_6 ⟨⟩) h_4 ⟨⟩ ⟨⟩) h_2 ⟨⟩ ⟨⟩) ⟨⟩) h ⟨⟩

theorem n16_calls {w0 from1 to2 bits3 : Value} {R : Value → Heap → Prop} {h : Heap} (H : n16 w0 from1 to2 bits3 R h) : CallsH Tryz.prog 16 #[w0, from1, to2, bits3] h R ⟨⟩ :=
 callsH_of_eq Tryz.follow (.n none .l (.n none .l (.n none .l (.n none .l (.n none .l (.n none (.n none .l (.n none (.n (some [56]) (.n none .l (.n none .l (.n (some []) (.n (some []) .l .l) .l))) .l) .l)) .l)))))) Tryz.func16 (by kernel_rfl) (by kernel_rfl) (by kernel_rfl) H

/-- (*palimpsest/model.World).Compare -/
def n17 (w0 a1 b2 : Value) (R : Value → Heap → Prop) (h : Heap) : Prop :=
 Hp Tryz.prog false (Instr.buildSlice 105 1 #[(0, b2)]) (fun t18 h_1 => 
 CallsH Tryz.prog 30 #[t18] h_1 (fun t19 h_2 => 
 CallsH Tryz.prog 29 #[w0, t19, a1] h_2 (fun t21 h_3 => 
 Hp Tryz.prog false (Instr.extract t21 0) (fun t22 h_4 => 
 Hp Tryz.prog false (Instr.extract t21 1) (fun t23 h_5 => 
 Hp Tryz.prog false (binS .neq 27 (.tmp 24) (.const (.int .i64 0)) t23 (.int .i64 0)) (fun t25 h_6 => 
 CondP t25 (
 R (.tuple #[(.int .i64 0), (.bool false), t23]) h_6) (
 CallsH Tryz.prog 29 #[w0, (.bool true), b2] h_6 (fun t30 h_7 => 
 Hp Tryz.prog false (Instr.extract t30 0) (fun t31 h_8 => 
 Hp Tryz.prog false (Instr.extract t30 1) (fun t32 h_9 => 
 Hp Tryz.prog false (binS .neq 27 (.tmp 33) (.const (.int .i64 0)) t32 (.int .i64 0)) (fun t34 h_10 => 
 CondP t34 (
 R (.tuple #[(.int .i64 0), (.bool false), t32]) h_10) (
 Hp Tryz.prog false (Instr.alloc 91 true undef) (fun p12 h_11 => 
 Hp Tryz.prog false (Instr.alloc 91 true undef) (fun q13 h_12 => 
 Hp Tryz.prog true (nilS t22) (fun t37 _ => 
 Hp Tryz.prog true (Instr.fieldAt 72 t37 2) (fun t38 _ => 
 Hp Tryz.prog true (Instr.loadAt 2 t38) (fun t39 _ => 
 Hp Tryz.prog true (nilS t31) (fun t41 _ => 
 Hp Tryz.prog true (Instr.fieldAt 72 t41 2) (fun t42 _ => 
 Hp Tryz.prog true (Instr.loadAt 2 t42) (fun t43 _ => 
 Hp Tryz.prog true (Builtin.max_ #[2, 2] 2 #[t39, t43]) (fun t44 _ => 
 Hp Tryz.prog true (binS .quo 2 (.tmp 44) (.const (.int .i64 512)) t44 (.int .i64 512)) (fun t45 _ => 
 LoopC 1 (fun (X : Value → Heap → Prop) => fun t46 h_13 =>
 Hp Tryz.prog false (binS .lss 2 (.tmp 46) (.tmp 45) t46 t45) (fun t47 h_14 => 
 CondP t47 (
 Hp Tryz.prog false (Instr.sliceAt 91 p12 none none none) (fun t50 h_15 => 
 CallsH Tryz.prog 44 #[w0, t50, t22, t46] h_15 (fun t53 h_16 => 
 Hp Tryz.prog false (Instr.sliceAt 91 q13 none none none) (fun t55 h_17 => 
 CallsH Tryz.prog 44 #[w0, t55, t31, t46] h_17 (fun t58 h_18 => 
 Hp Tryz.prog false (Instr.loadAt 91 p12) (fun t59 h_19 => 
 Hp Tryz.prog false (Instr.loadAt 91 q13) (fun t60 h_20 => 
 Hp Tryz.prog false (binS .neq 91 (.tmp 59) (.tmp 60) t59 t60) (fun t61 h_21 => 
 CondP t61 (
 R (.tuple #[t46, (.bool false), (.int .i64 0)]) h_21) (
 Hp Tryz.prog false (binS .add 2 (.tmp 46) (.const (.int .i64 1)) t46 (.int .i64 1)) (fun t63 h_22 => 
 X t63 h_22) h_21 ⟨⟩) ⟨⟩ ⟨⟩) h_20 ⟨⟩) h_19 ⟨⟩) h_18 ⟨⟩) ⟨⟩) h_16 ⟨⟩) ⟨⟩) h_14 ⟨⟩) (
 R (.tuple #[(.int .i64 0), (.bool true), (.int .i64 0)]) h_14) ⟨⟩ ⟨⟩) h_13 ⟨⟩) [(.int .i64 0)] h_12 ⟨⟩) #[] ⟨⟩) #[] ⟨⟩) h_12 ⟨⟩) #[] ⟨⟩) #[] ⟨⟩) h_12 ⟨⟩) #[] ⟨⟩) #[] ⟨⟩) h_11 ⟨⟩) h_10 ⟨⟩) ⟨⟩ ⟨⟩) h_9 ⟨⟩) h_8 ⟨⟩) h_7 ⟨⟩) ⟨⟩) ⟨⟩ ⟨⟩) h_5 ⟨⟩) h_4 ⟨⟩) h_3 ⟨⟩) ⟨⟩) ⟨⟩) h ⟨⟩

theorem n17_calls {w0 a1 b2 : Value} {R : Value → Heap → Prop} {h : Heap} (H : n17 w0 a1 b2 R h) : CallsH Tryz.prog 17 #[w0, a1, b2] h R ⟨⟩ :=
 callsH_of_eq Tryz.follow (.n none .l (.n none .l (.n none .l (.n none .l (.n none .l (.n none .l (.n none (.n none .l (.n none (.n (some [47]) .l .l) .l)) .l))))))) Tryz.func17 (by kernel_rfl) (by kernel_rfl) (by kernel_rfl) H

/-- (*palimpsest/model.World).Copy -/
def n18 (w0 : Value) (R : Value → Heap → Prop) (h : Heap) : Prop :=
 CallsH Tryz.prog 45 #[w0] h (fun t9 h_1 => 
 CondP t9 (
 R (.pointer none) h_1) (
 CallsH Tryz.prog 25 #[] h_1 (fun t10 h_2 => 
 Hp Tryz.prog false (nilS w0) (fun t12 h_3 => 
 Hp Tryz.prog false (Instr.fieldAt 87 t12 0) (fun t13 h_4 => 
 Hp Tryz.prog false (Instr.loadAt 85 t13) (fun t14 h_5 => 
 Hp Tryz.prog false (Instr.range 85 t14) (fun t15 h_6 => 
 LoopC 0 (fun (X : Heap → Prop) => fun h_7 =>
 Hp Tryz.prog false (Instr.next t15 false 0) (fun t16 h_8 => 
 Hp Tryz.prog false (Instr.extract t16 0) (fun t17 h_9 => 
 CondP t17 (
 Hp Tryz.prog false (Instr.entry t15) (fun t18 h_10 => 
 Hp Tryz.prog false (Instr.extract t18 0) (fun t19 h_11 => 
 Hp Tryz.prog false (Instr.extract t18 1) (fun t20 h_12 => 
 Hp Tryz.prog false (nilS t20) (fun t22 h_13 => 
 Hp Tryz.prog false (Instr.loadAt 72 t22) (fun t23 h_14 => 
 Hp Tryz.prog false (Instr.alloc 72 true undef) (fun y6 h_15 => 
 Hp Tryz.prog false (storeS 72 y6 t23) (fun _ h_16 => 
 Hp Tryz.prog false (nilS t20) (fun t25 h_17 => 
 Hp Tryz.prog false (Instr.fieldAt 72 t25 4) (fun t26 h_18 => 
 Hp Tryz.prog false (Instr.loadAt 68 t26) (fun t27 h_19 => 
 CallsH Tryz.prog 33 #[t27] h_19 (fun t28 h_20 => 
 Hp Tryz.prog false (Instr.fieldAt 72 y6 4) (fun t29 h_21 => 
 Hp Tryz.prog false (storeS 68 t29 t28) (fun _ h_22 => 
 Hp Tryz.prog false (nilS t20) (fun t31 h_23 => 
 Hp Tryz.prog false (Instr.fieldAt 72 t31 5) (fun t32 h_24 => 
 Hp Tryz.prog false (Instr.loadAt 69 t32) (fun t33 h_25 => 
 CallsH Tryz.prog 46 #[t33] h_25 (fun t34 h_26 => 
 Hp Tryz.prog false (Instr.fieldAt 72 y6 5) (fun t35 h_27 => 
 Hp Tryz.prog false (storeS 69 t35 t34) (fun _ h_28 => 
 Hp Tryz.prog false (nilS t20) (fun t37 h_29 => 
 Hp Tryz.prog false (Instr.fieldAt 72 t37 6) (fun t38 h_30 => 
 Hp Tryz.prog false (Instr.loadAt 70 t38) (fun t39 h_31 => 
 CallsH Tryz.prog 47 #[t39] h_31 (fun t40 h_32 => 
 Hp Tryz.prog false (Instr.fieldAt 72 y6 6) (fun t41 h_33 => 
 Hp Tryz.prog false (storeS 70 t41 t40) (fun _ h_34 => 
 Hp Tryz.prog false (Instr.fieldAt 72 y6 6) (fun t42 h_35 => 
 Hp Tryz.prog false (Instr.loadAt 70 t42) (fun t43 h_36 => 
 Hp Tryz.prog false (Builtin.len_ #[70] 3 #[t43]) (fun t44 h_37 => 
 LoopC 1 (fun (X_1 : Value → Heap → Prop) => fun t45 h_38 =>
 Hp Tryz.prog false (binS .lss 3 (.tmp 45) (.tmp 44) t45 t44) (fun t46 h_39 => 
 CondP t46 (
 Hp Tryz.prog true (Instr.fieldAt 72 y6 6) (fun t48 _ => 
 Hp Tryz.prog true (Instr.loadAt 70 t48) (fun t49 _ => 
 Hp Tryz.prog true (nilS t20) (fun t52 _ => 
 Hp Tryz.prog true (Instr.fieldAt 72 t52 6) (fun t53 _ => 
 Hp Tryz.prog true (Instr.loadAt 70 t53) (fun t54 _ => 
 Hp Tryz.prog true (Instr.indexAt 70 t54 t45) (fun t56 _ => 
 Hp Tryz.prog true (Instr.fieldAt 75 t56 3) (fun t57 _ => 
 Hp Tryz.prog true (Instr.loadAt 73 t57) (fun t58 _ => 
 CallsH Tryz.prog 48 #[t58] h_39 (fun t59 h_40 => Hp Tryz.prog true (Instr.loadAt 70 t48) (fun u _ => u = t49) h_40 ⟨⟩ ∧ 
 Hp Tryz.prog true (Instr.indexAt 70 t49 t45) (fun t60 _ => 
 Hp Tryz.prog true (Instr.fieldAt 75 t60 3) (fun t61 _ => 
 Hp Tryz.prog false (storeS 73 t61 t59) (fun _ h_41 => 
 Hp Tryz.prog false (binS .add 3 (.tmp 45) (.const (.int .i64 1)) t45 (.int .i64 1)) (fun t62 h_42 => 
 X_1 t62 h_42) h_41 ⟨⟩) h_40 ⟨⟩) #[] ⟨⟩) #[] ⟨⟩) ⟨⟩) h_39 ⟨⟩) #[] ⟨⟩) #[] ⟨⟩) h_39 ⟨⟩) #[] ⟨⟩) #[] ⟨⟩) h_39 ⟨⟩) #[] ⟨⟩) (
 Hp Tryz.prog false (nilS t10) (fun t64 h_43 => 
 Hp Tryz.prog false (Instr.fieldAt 87 t64 0) (fun t65 h_44 => 
 Hp Tryz.prog false (Instr.loadAt 85 t65) (fun t66 h_45 => 
 Hp Tryz.prog false (unitS (Instr.mapUpdate 85 t66 t19 y6)) (fun _ h_46 => 
 X h_46) h_45 ⟨⟩) h_44 ⟨⟩) h_43 ⟨⟩) h_39 ⟨⟩) ⟨⟩ ⟨⟩) h_38 ⟨⟩) [(.int .i64 0)] h_37 ⟨⟩) h_36 ⟨⟩) h_35 ⟨⟩) h_34 ⟨⟩) h_33 ⟨⟩) h_32 ⟨⟩) ⟨⟩) h_30 ⟨⟩) h_29 ⟨⟩) h_28 ⟨⟩) h_27 ⟨⟩) h_26 ⟨⟩) ⟨⟩) h_24 ⟨⟩) h_23 ⟨⟩) h_22 ⟨⟩) h_21 ⟨⟩) h_20 ⟨⟩) ⟨⟩) h_18 ⟨⟩) h_17 ⟨⟩) h_16 ⟨⟩) h_15 ⟨⟩) h_14 ⟨⟩) h_13 ⟨⟩) h_12 ⟨⟩) h_11 ⟨⟩) h_10 ⟨⟩) h_9 ⟨⟩) (
 R t10 h_9) ⟨⟩ ⟨⟩) h_8 ⟨⟩) h_7 ⟨⟩) [] h_6 ⟨⟩) h_5 ⟨⟩) h_4 ⟨⟩) h_3 ⟨⟩) h_2 ⟨⟩) ⟨⟩) ⟨⟩ ⟨⟩) ⟨⟩

theorem n18_calls {w0 : Value} {R : Value → Heap → Prop} {h : Heap} (H : n18 w0 R h) : CallsH Tryz.prog 18 #[w0] h R ⟨⟩ :=
 callsH_of_eq Tryz.follow (.n none .l (.n none .l (.n none .l (.n none (.n none .l (.n none (.n (some []) (.n none .l (.n none .l (.n none (.n none .l (.n none .l (.n none .l (.n none .l (.n none .l (.n none (.n none .l (.n none (.n (some [46]) .l .l) .l)) .l)))))) .l))) .l) .l)) .l)))) Tryz.func18 (by kernel_rfl) (by kernel_rfl) (by kernel_rfl) H

/-- (*palimpsest/model.World).Commit -/
def n19 (w0 name1 : Value) (R : Value → Heap → Prop) (h : Heap) : Prop :=
 CallsH Tryz.prog 29 #[w0, (.bool true), name1] h (fun t15 h_1 => 
 Hp Tryz.prog false (Instr.extract t15 0) (fun t16 h_2 => 
 Hp Tryz.prog false (Instr.extract t15 1) (fun t17 h_3 => 
 Hp Tryz.prog false (binS .neq 27 (.tmp 18) (.const (.int .i64 0)) t17 (.int .i64 0)) (fun t19 h_4 => 
 CondP t19 (
 R t17 h_4) (
 Hp Tryz.prog true (nilS w0) (fun t22 _ => 
 Hp Tryz.prog true (Instr.fieldAt 87 t22 0) (fun t23 _ => 
 Hp Tryz.prog true (Instr.loadAt 85 t23) (fun t24 _ => 
 Hp Tryz.prog true (nilS t16) (fun t26 _ => 
 Hp Tryz.prog true (Instr.fieldAt 72 t26 1) (fun t27 _ => 
 Hp Tryz.prog true (Instr.loadAt 9 t27) (fun t28 _ => 
 Hp Tryz.prog true (Instr.lookup 85 t24 t28 false) (fun t29 _ => 
 Hp Tryz.prog false (binS .eql 62 (.tmp 31) (.const (.pointer none)) t29 (.pointer none)) (fun t32 h_5 => 
 CondP t32 (
 R (.int .i64 7) h_5) (
 CallsH Tryz.prog 37 #[w0, t29] h_5 (fun t36 h_6 => 
 Hp Tryz.prog false (binS .gtr 3 (.tmp 36) (.const (.int .i64 1)) t36 (.int .i64 1)) (fun t37 h_7 => 
 CondP t37 (
 R (.int .i64 10) h_7) (
 Hp Tryz.prog false (nilS t16) (fun t41 h_8 => 
 Hp Tryz.prog false (Instr.fieldAt 72 t41 2) (fun t42 h_9 => 
 Hp Tryz.prog false (Instr.loadAt 2 t42) (fun t43 h_10 => 
 CallsH Tryz.prog 49 #[w0, t29, t43] h_10 (fun t44 h_11 => 
 Hp Tryz.prog false (nilS t16) (fun t46 h_12 => 
 Hp Tryz.prog false (Instr.fieldAt 72 t46 4) (fun t47 h_13 => 
 Hp Tryz.prog false (Instr.loadAt 68 t47) (fun t48 h_14 => 
 CallsH Tryz.prog 51 #[t48] h_14 (fun t49 h_15 => 
 CallsH Tryz.prog 50 #[t49] h_15 (fun t50 h_16 => 
 Hp Tryz.prog false (Builtin.len_ #[44] 3 #[t50]) (fun t51 h_17 => 
 LoopC 1 (fun (X : Value → Heap → Prop) => fun t52 h_18 =>
 Hp Tryz.prog false (binS .lss 3 (.tmp 52) (.tmp 51) t52 t51) (fun t53 h_19 => 
 CondP t53 (
 Hp Tryz.prog false (Instr.indexAt 44 t50 t52) (fun t54 h_20 => 
 Hp Tryz.prog false (Instr.loadAt 2 t54) (fun t55 h_21 => 
 Hp Tryz.prog false (nilS t16) (fun t58 h_22 => 
 Hp Tryz.prog false (Instr.fieldAt 72 t58 3) (fun t59 h_23 => 
 Hp Tryz.prog false (Instr.loadAt 3 t59) (fun t60 h_24 => 
 Hp Tryz.prog false (binS .shl 2 (.tmp 56) (.tmp 60) t55 t60) (fun t61 h_25 => 
 Hp Tryz.prog true (nilS t16) (fun t64 _ => 
 Hp Tryz.prog true (Instr.fieldAt 72 t64 3) (fun t65 _ => 
 Hp Tryz.prog true (Instr.loadAt 3 t65) (fun t66 _ => 
 Hp Tryz.prog true (binS .shl 2 (.const (.int .i64 1)) (.tmp 66) (.int .i64 1) t66) (fun t67 _ => 
 Hp Tryz.prog true (binS .add 2 (.tmp 62) (.tmp 67) t61 t67) (fun t68 _ => 
 Hp Tryz.prog true (nilS t16) (fun t70 _ => 
 Hp Tryz.prog true (Instr.fieldAt 72 t70 2) (fun t71 _ => 
 Hp Tryz.prog true (Instr.loadAt 2 t71) (fun t72 _ => 
 Hp Tryz.prog true (Builtin.min_ #[2, 2] 2 #[t68, t72]) (fun t73 _ => 
 Hp Tryz.prog false (binS .quo 2 (.tmp 76) (.const (.int .i64 512)) t61 (.int .i64 512)) (fun t77 h_26 => 
 Hp Tryz.prog false (nilS t16) (fun t79 h_27 => 
 Hp Tryz.prog false (Instr.fieldAt 72 t79 4) (fun t80 h_28 => 
 Hp Tryz.prog false (Instr.loadAt 68 t80) (fun t81 h_29 => 
 Hp Tryz.prog false (Instr.lookup 68 t81 t55 false) (fun t83 h_30 => 
 Hp Tryz.prog false (binS .sub 2 (.tmp 84) (.tmp 85) t73 t61) (fun t86 h_31 => 
 Hp Tryz.prog false (Instr.sliceAt 32 t83 none (some t86) none) (fun t87 h_32 => 
 CallsH Tryz.prog 35 #[w0, t29, t77, t87] h_32 (fun t88 h_33 => 
 Hp Tryz.prog false (binS .quo 2 (.tmp 90) (.const (.int .i64 512)) t61 (.int .i64 512)) (fun t91 h_34 => 
 Hp Tryz.prog false (binS .sub 2 (.tmp 92) (.tmp 93) t73 t61) (fun t94 h_35 => 
 Hp Tryz.prog false (binS .quo 2 (.tmp 94) (.const (.int .i64 512)) t94 (.int .i64 512)) (fun t95 h_36 => 
 CallsH Tryz.prog 36 #[t29, t91, t95] h_36 (fun t96 h_37 => 
 Hp Tryz.prog false (binS .add 3 (.tmp 52) (.const (.int .i64 1)) t52 (.int .i64 1)) (fun t97 h_38 => 
 X t97 h_38) h_37 ⟨⟩) ⟨⟩) h_35 ⟨⟩) h_34 ⟨⟩) h_33 ⟨⟩) ⟨⟩) h_31 ⟨⟩) h_30 ⟨⟩) h_29 ⟨⟩) h_28 ⟨⟩) h_27 ⟨⟩) h_26 ⟨⟩) h_25 ⟨⟩) #[] ⟨⟩) h_25 ⟨⟩) #[] ⟨⟩) #[] ⟨⟩) #[] ⟨⟩) #[] ⟨⟩) h_25 ⟨⟩) #[] ⟨⟩) #[] ⟨⟩) h_24 ⟨⟩) h_23 ⟨⟩) h_22 ⟨⟩) h_21 ⟨⟩) h_20 ⟨⟩) h_19 ⟨⟩) (
 R (.int .i64 0) h_19) ⟨⟩ ⟨⟩) h_18 ⟨⟩) [(.int .i64 0)] h_17 ⟨⟩) h_16 ⟨⟩) ⟨⟩) ⟨⟩) h_13 ⟨⟩) h_12 ⟨⟩) h_11 ⟨⟩) ⟨⟩) h_9 ⟨⟩) h_8 ⟨⟩) h_7 ⟨⟩) ⟨⟩ ⟨⟩) h_6 ⟨⟩) ⟨⟩) ⟨⟩ ⟨⟩) h_4 ⟨⟩) h_4 ⟨⟩) h_4 ⟨⟩) #[] ⟨⟩) #[] ⟨⟩) h_4 ⟨⟩) #[] ⟨⟩) #[] ⟨⟩) ⟨⟩ ⟨⟩) h_3 ⟨⟩) h_2 ⟨⟩) h_1 ⟨⟩) ⟨⟩

theorem n19_calls {w0 name1 : Value} {R : Value → Heap → Prop} {h : Heap} (H : n19 w0 name1 R h) : CallsH Tryz.prog 19 #[w0, name1] h R ⟨⟩ :=
 callsH_of_eq Tryz.follow (.n none .l (.n none .l (.n none .l (.n none .l (.n none .l (.n none .l (.n none (.n none .l (.n none (.n (some [53]) .l .l) .l)) .l))))))) Tryz.func19 (by kernel_rfl) (by kernel_rfl) (by kernel_rfl) H

/-- (*palimpsest/model.World).Rebase -/
def n20 (w0 name1 backing2 safe3 : Value) (R : Value → Heap → Prop) (h : Heap) : Prop :=
 Hp Tryz.prog false (binS .eql 9 (.tmp 21) (.const (str [])) backing2 (str [])) (fun t22 h_1 => 
 Join1 (fun k h_2 => guardP t22 false (k backing2 h_2) (k undef h_2) ⟨⟩ ⟨⟩) (fun t24 h_3 => 
 Join1 (fun k_1 h_4 => guardP t22 false (Hp Tryz.prog false (Instr.buildSlice 105 1 #[(0, t24)]) k_1 h_4 ⟨⟩) (k_1 undef h_4) ⟨⟩ ⟨⟩) (fun t25 h_5 => 
 Join1 (fun k_2 h_6 => guardP t22 false (CallsH Tryz.prog 30 #[t25] h_6 k_2 ⟨⟩) (k_2 undef h_6) ⟨⟩ ⟨⟩) (fun t26 h_7 => 
 Hp Tryz.prog false (pickS t22 (.bool true) t26) (fun t27 h_8 => 
 CallsH Tryz.prog 29 #[w0, t27, name1] h_8 (fun t29 h_9 => 
 Hp Tryz.prog false (Instr.extract t29 0) (fun t30 h_10 => 
 Hp Tryz.prog false (Instr.extract t29 1) (fun t31 h_11 => 
 Hp Tryz.prog false (binS .neq 27 (.tmp 33) (.const (.int .i64 0)) t31 (.int .i64 0)) (fun t34 h_12 => 
 CondP t34 (
 R t31 h_12) (
 Hp Tryz.prog false (binS .neq 9 (.tmp 37) (.const (str [])) backing2 (str [])) (fun t38 h_13 => 
 Join1 (fun k_3 h_14 => guardP t38 true (k_3 w0 h_14) (k_3 undef h_14) ⟨⟩ ⟨⟩) (fun t40 h_15 => 
 Join1 (fun k_4 h_16 => guardP t38 true (Hp Tryz.prog false (nilS t40) k_4 h_16 ⟨⟩) (k_4 undef h_16) ⟨⟩ ⟨⟩) (fun t41 h_17 => 
 Join1 (fun k_5 h_18 => guardP t38 true (Hp Tryz.prog false (Instr.fieldAt 87 t41 0) k_5 h_18 ⟨⟩) (k_5 undef h_18) ⟨⟩ ⟨⟩) (fun t42 h_19 => 
 Join1 (fun k_6 h_20 => guardP t38 true (Hp Tryz.prog false (Instr.loadAt 85 t42) k_6 h_20 ⟨⟩) (k_6 undef h_20) ⟨⟩ ⟨⟩) (fun t43 h_21 => 
 Join1 (fun k_7 h_22 => guardP t38 true (k_7 backing2 h_22) (k_7 undef h_22) ⟨⟩ ⟨⟩) (fun t44 h_23 => 
 Join1 (fun k_8 h_24 => guardP t38 true (Hp Tryz.prog false (Instr.lookup 85 t43 t44 false) k_8 h_24 ⟨⟩) (k_8 undef h_24) ⟨⟩ ⟨⟩) (fun t45 h_25 => 
 Join1 (fun k_9 h_26 => guardP t38 true (Hp Tryz.prog false (binS .eql 62 (.tmp 45) (.const (.pointer none)) t45 (.pointer none)) k_9 h_26 ⟨⟩) (k_9 undef h_26) ⟨⟩ ⟨⟩) (fun t46 h_27 => 
 Hp Tryz.prog false (pickS t38 t46 (.bool false)) (fun t47 h_28 => 
 CondP t47 (
 R (.int .i64 7) h_28) (
 CallsH Tryz.prog 37 #[w0, t30] h_28 (fun t51 h_29 => 
 Hp Tryz.prog false (binS .gtr 3 (.tmp 51) (.const (.int .i64 0)) t51 (.int .i64 0)) (fun t52 h_30 => 
 CondP t52 (
 R (.int .i64 10) h_30) (
 Hp Tryz.prog false (nilS t30) (fun t54 h_31 => 
 Hp Tryz.prog false (Instr.fieldAt 72 t54 1) (fun t55 h_32 => 
 Hp Tryz.prog false (Instr.loadAt 9 t55) (fun t56 h_33 => 
 Hp Tryz.prog false (nilS t30) (fun t59 h_34 => 
 Hp Tryz.prog false (Instr.fieldAt 72 t59 1) (fun t60 h_35 => 
 Hp Tryz.prog false (storeS 9 t60 backing2) (fun _ h_36 => 
 CallsH Tryz.prog 52 #[w0, name1, (.int .i64 0)] h_36 (fun t63 h_37 => 
 CondP t63 (
 Hp Tryz.prog false (nilS t30) (fun t66 h_38 => 
 Hp Tryz.prog false (Instr.fieldAt 72 t66 1) (fun t67 h_39 => 
 Hp Tryz.prog false (storeS 9 t67 t56) (fun _ h_40 => 
 R (.int .i64 350) h_40) h_39 ⟨⟩) h_38 ⟨⟩) h_37 ⟨⟩) (
 LoopC 1 (fun (X : Value → Heap → Prop) => fun c12 h_41 =>
 Join1 (fun k_10 h_42 => guardP safe3 true (k_10 c12 h_42) (k_10 undef h_42) ⟨⟩ ⟨⟩) (fun t70 h_43 => 
 Join1 (fun k_11 h_44 => guardP safe3 true (k_11 t30 h_44) (k_11 undef h_44) ⟨⟩ ⟨⟩) (fun t71 h_45 => 
 Join1 (fun k_12 h_46 => guardP safe3 true (CallsH Tryz.prog 41 #[t71] h_46 k_12 ⟨⟩) (k_12 undef h_46) ⟨⟩ ⟨⟩) (fun t72 h_47 => 
 Join1 (fun k_13 h_48 => guardP safe3 true (Hp Tryz.prog false (binS .lss 2 (.tmp 70) (.tmp 72) t70 t72) k_13 h_48 ⟨⟩) (k_13 undef h_48) ⟨⟩ ⟨⟩) (fun t73 h_49 => 
 Hp Tryz.prog false (pickS safe3 t73 (.bool false)) (fun t74 h_50 => 
 CondP t74 (
 JoinN 0 (fun (k_14 : Heap → Prop) h_51 =>
 JoinN 0 (fun (k_15 : Heap → Prop) h_52 =>
 Hp Tryz.prog false (nilS t30) (fun t79 h_53 => 
 Hp Tryz.prog false (Instr.fieldAt 72 t79 4) (fun t80 h_54 => 
 Hp Tryz.prog false (Instr.loadAt 68 t80) (fun t81 h_55 => 
 Hp Tryz.prog false (Instr.lookup 68 t81 c12 true) (fun t83 h_56 => 
 Hp Tryz.prog false (Instr.extract t83 0) (fun t84 h_57 => 
 Hp Tryz.prog false (Instr.extract t83 1) (fun t85 h_58 => 
 CondP t85 (
 k_15 h_58) (
 Hp Tryz.prog false (nilS t30) (fun t89 h_59 => 
 Hp Tryz.prog false (Instr.fieldAt 72 t89 3) (fun t90 h_60 => 
 Hp Tryz.prog false (Instr.loadAt 3 t90) (fun t91 h_61 => 
 Hp Tryz.prog false (binS .shl 2 (.tmp 87) (.tmp 91) c12 t91) (fun t92 h_62 => 
 Hp Tryz.prog false (binS .quo 2 (.tmp 92) (.const (.int .i64 512)) t92 (.int .i64 512)) (fun t93 h_63 => 
 Hp Tryz.prog true (nilS t30) (fun t95 _ => 
 Hp Tryz.prog true (Instr.fieldAt 72 t95 3) (fun t96 _ => 
 Hp Tryz.prog true (Instr.loadAt 3 t96) (fun t97 _ => 
 Hp Tryz.prog true (binS .shl 2 (.const (.int .i64 1)) (.tmp 97) (.int .i64 1) t97) (fun t98 _ => 
 Hp Tryz.prog true (nilS t30) (fun t100 _ => 
 Hp Tryz.prog true (Instr.fieldAt 72 t100 2) (fun t101 _ => 
 Hp Tryz.prog true (Instr.loadAt 2 t101) (fun t102 _ => 
 Hp Tryz.prog true (nilS t30) (fun t105 _ => 
 Hp Tryz.prog true (Instr.fieldAt 72 t105 3) (fun t106 _ => 
 Hp Tryz.prog true (Instr.loadAt 3 t106) (fun t107 _ => 
 Hp Tryz.prog true (binS .shl 2 (.tmp 103) (.tmp 107) c12 t107) (fun t108 _ => 
 Hp Tryz.prog true (binS .sub 2 (.tmp 102) (.tmp 108) t102 t108) (fun t109 _ => 
 Hp Tryz.prog true (Builtin.min_ #[2, 2] 2 #[t98, t109]) (fun t110 _ => 
 Hp Tryz.prog true (binS .quo 2 (.tmp 110) (.const (.int .i64 512)) t110 (.int .i64 512)) (fun t111 _ => 
 CallsH Tryz.prog 42 #[w0, t30, t93, t111] h_63 (fun t116 h_64 => 
 Hp Tryz.prog false (nilS t30) (fun t119 h_65 => 
 Hp Tryz.prog false (Instr.fieldAt 72 t119 1) (fun t120 h_66 => 
 Hp Tryz.prog false (storeS 9 t120 t56) (fun _ h_67 => 
 JoinN 0 (fun (k_16 : Heap → Prop) h_68 =>
 CallsH Tryz.prog 42 #[w0, t30, t93, t111] h_68 (fun t125 h_69 => 
 CallsH Tryz.prog 43 #[t116, t125] h_69 (fun t128 h_70 => 
 Hp Tryz.prog false (Op.unary .not t128) (fun t129 h_71 => 
 CondP t129 (
 Hp Tryz.prog true (nilS t30) (fun t131 _ => 
 Hp Tryz.prog true (Instr.fieldAt 72 t131 4) (fun t132 _ => 
 Hp Tryz.prog true (Instr.loadAt 68 t132) (fun t133 _ => 
 Hp Tryz.prog true (nilS t30) (fun t137 _ => 
 Hp Tryz.prog true (Instr.fieldAt 72 t137 3) (fun t138 _ => 
 Hp Tryz.prog true (Instr.loadAt 3 t138) (fun t139 _ => 
 Hp Tryz.prog true (binS .shl 3 (.const (.int .i64 1)) (.tmp 139) (.int .i64 1) t139) (fun t140 _ => 
 Hp Tryz.prog true (Builtin.len_ #[32] 3 #[t125]) (fun t142 _ => 
 Hp Tryz.prog true (binS .sub 3 (.tmp 140) (.tmp 142) t140 t142) (fun t143 _ => 
 Hp Tryz.prog false (Builtin.append_ #[32, 3] 32 #[t125, t143]) (fun t144 h_72 => Hp Tryz.prog true (Instr.loadAt 68 t132) (fun u _ => u = t133) h_72 ⟨⟩ ∧ 
 Hp Tryz.prog false (unitS (Instr.mapUpdate 68 t133 c12 t144)) (fun _ h_73 => 
 k_16 h_73) h_72 ⟨⟩) h_71 ⟨⟩) #[] ⟨⟩) #[] ⟨⟩) #[] ⟨⟩) h_71 ⟨⟩) #[] ⟨⟩) #[] ⟨⟩) h_71 ⟨⟩) #[] ⟨⟩) #[] ⟨⟩) (
 k_16 h_71) ⟨⟩ ⟨⟩) h_70 ⟨⟩) ⟨⟩) ⟨⟩)
 (fun h_74 =>
 Hp Tryz.prog false (nilS t30) (fun t147 h_75 => 
 Hp Tryz.prog false (Instr.fieldAt 72 t147 1) (fun t148 h_76 => 
 Hp Tryz.prog false (storeS 9 t148 backing2) (fun _ h_77 => 
 k_15 h_77) h_76 ⟨⟩) h_75 ⟨⟩) h_74 ⟨⟩) h_67 ⟨⟩ ⟨⟩) h_66 ⟨⟩) h_65 ⟨⟩) h_64 ⟨⟩) ⟨⟩) #[] ⟨⟩) #[] ⟨⟩) #[] ⟨⟩) #[] ⟨⟩) h_63 ⟨⟩) #[] ⟨⟩) #[] ⟨⟩) h_63 ⟨⟩) #[] ⟨⟩) #[] ⟨⟩) #[] ⟨⟩) h_63 ⟨⟩) #[] ⟨⟩) #[] ⟨⟩) h_62 ⟨⟩) h_61 ⟨⟩) h_60 ⟨⟩) h_59 ⟨⟩) h_58 ⟨⟩) ⟨⟩ ⟨⟩) h_57 ⟨⟩) h_56 ⟨⟩) h_55 ⟨⟩) h_54 ⟨⟩) h_53 ⟨⟩) h_52 ⟨⟩)
 (fun h_78 =>
 k_14 h_78) h_51 ⟨⟩ ⟨⟩)
 (fun h_79 =>
 Hp Tryz.prog false (binS .add 2 (.tmp 75) (.const (.int .i64 1)) c12 (.int .i64 1)) (fun t76 h_80 => 
 X t76 h_80) h_79 ⟨⟩) h_50 ⟨⟩ ⟨⟩) (
 R (.int .i64 0) h_50) ⟨⟩ ⟨⟩) h_49 ⟨⟩) h_47 ⟨⟩ ⟨⟩) h_45 ⟨⟩ ⟨⟩) h_43 ⟨⟩ ⟨⟩) h_41 ⟨⟩ ⟨⟩) [(.int .i64 0)] h_37 ⟨⟩) ⟨⟩ ⟨⟩) ⟨⟩) h_35 ⟨⟩) h_34 ⟨⟩) h_33 ⟨⟩) h_32 ⟨⟩) h_31 ⟨⟩) h_30 ⟨⟩) ⟨⟩ ⟨⟩) h_29 ⟨⟩) ⟨⟩) ⟨⟩ ⟨⟩) h_27 ⟨⟩) h_25 ⟨⟩ ⟨⟩) h_23 ⟨⟩ ⟨⟩) h_21 ⟨⟩ ⟨⟩) h_19 ⟨⟩ ⟨⟩) h_17 ⟨⟩ ⟨⟩) h_15 ⟨⟩ ⟨⟩) h_13 ⟨⟩ ⟨⟩) h_12 ⟨⟩) ⟨⟩ ⟨⟩) h_11 ⟨⟩) h_10 ⟨⟩) h_9 ⟨⟩) ⟨⟩) h_7 ⟨⟩) h_5 ⟨⟩ ⟨⟩) h_3 ⟨⟩ ⟨⟩) h_1 ⟨⟩ ⟨⟩) h ⟨⟩

theorem n20_calls {w0 name1 backing2 safe3 : Value} {R : Value → Heap → Prop} {h : Heap} (H : n20 w0 name1 backing2 safe3 R h) : CallsH Tryz.prog 20 #[w0, name1, backing2, safe3] h R ⟨⟩ :=
 callsH_of_eq Tryz.follow (.n none .l (.n none .l (.n none .l (.n none .l (.n none .l (.n none .l (.n none (.n none .l (.n none (.n (some [13]) (.n none .l (.n (some []) (.n (some []) (.n none .l (.n none .l (.n none .l (.n none .l (.n none .l (.n (some []) .l .l)))))) .l) .l)) .l) .l)) .l))))))) Tryz.func20 (by kernel_rfl) (by kernel_rfl) (by kernel_rfl) H

/-- (*palimpsest/model.World).Remove -/
def n21 (w0 name1 : Value) (R : Value → Heap → Prop) (h : Heap) : Prop :=
 CallsH Tryz.prog 29 #[w0, (.bool true), name1] h (fun t10 h_1 => 
 Hp Tryz.prog false (Instr.extract t10 0) (fun t11 h_2 => 
 Hp Tryz.prog false (Instr.extract t10 1) (fun t12 h_3 => 
 Hp Tryz.prog false (binS .neq 27 (.tmp 14) (.const (.int .i64 0)) t12 (.int .i64 0)) (fun t15 h_4 => 
 CondP t15 (
 R t12 h_4) (
 CallsH Tryz.prog 37 #[w0, t11] h_4 (fun t20 h_5 => 
 Hp Tryz.prog false (binS .gtr 3 (.tmp 20) (.const (.int .i64 0)) t20 (.int .i64 0)) (fun t21 h_6 => 
 CondP t21 (
 R (.int .i64 10) h_6) (
 Hp Tryz.prog false (nilS w0) (fun t23 h_7 => 
 Hp Tryz.prog false (Instr.fieldAt 87 t23 0) (fun t24 h_8 => 
 Hp Tryz.prog false (Instr.loadAt 85 t24) (fun t25 h_9 => 
 Hp Tryz.prog false (Builtin.delete_ #[85, 9] 0 #[t25, name1]) (fun _ h_10 => 
 R (.int .i64 0) h_10) h_9 ⟨⟩) h_8 ⟨⟩) h_7 ⟨⟩) h_6 ⟨⟩) ⟨⟩ ⟨⟩) h_5 ⟨⟩) ⟨⟩) ⟨⟩ ⟨⟩) h_3 ⟨⟩) h_2 ⟨⟩) h_1 ⟨⟩) ⟨⟩

theorem n21_calls {w0 name1 : Value} {R : Value → Heap → Prop} {h : Heap} (H : n21 w0 name1 R h) : CallsH Tryz.prog 21 #[w0, name1] h R ⟨⟩ :=
 callsH_of_eq Tryz.follow .l Tryz.func21 (by kernel_rfl) (by kernel_rfl) (by kernel_rfl) H

/-- (*palimpsest/model.World).Zero -/
def n22 (w0 name1 at2 n3 : Value) (R : Value → Heap → Prop) (h : Heap) : Prop :=
 Hp Tryz.prog false (binS .geq 2 (.tmp 13) (.const (.int .i64 0)) n3 (.int .i64 0)) (fun t14 h_1 => 
 CallsH Tryz.prog 34 #[w0, t14, name1, at2, n3] h_1 (fun t18 h_2 => 
 Hp Tryz.prog false (Instr.extract t18 0) (fun t19 h_3 => 
 Hp Tryz.prog false (Instr.extract t18 1) (fun t20 h_4 => 
 Hp Tryz.prog false (binS .neq 27 (.tmp 21) (.const (.int .i64 0)) t20 (.int .i64 0)) (fun t22 h_5 => 
 CondP t22 (
 R t20 h_5) (
 Hp Tryz.prog false (binS .mul 2 (.tmp 27) (.const (.int .i64 512)) n3 (.int .i64 512)) (fun t28 h_6 => 
 Hp Tryz.prog false (Instr.makeSlice 32 t28 t28) (fun t29 h_7 => 
 CallsH Tryz.prog 35 #[w0, t19, at2, t29] h_7 (fun t30 h_8 => 
 CallsH Tryz.prog 36 #[t19, at2, n3] h_8 (fun t34 h_9 => 
 R (.int .i64 0) h_9) ⟨⟩) ⟨⟩) h_6 ⟨⟩) h_5 ⟨⟩) ⟨⟩ ⟨⟩) h_4 ⟨⟩) h_3 ⟨⟩) h_2 ⟨⟩) ⟨⟩) h ⟨⟩

theorem n22_calls {w0 name1 at2 n3 : Value} {R : Value → Heap → Prop} {h : Heap} (H : n22 w0 name1 at2 n3 R h) : CallsH Tryz.prog 22 #[w0, name1, at2, n3] h R ⟨⟩ :=
 callsH_of_eq Tryz.follow .l Tryz.func22 (by kernel_rfl) (by kernel_rfl) (by kernel_rfl) H

/-- (*palimpsest/model.World).Resize -/
def n23 (w0 name1 size2 : Value) (R : Value → Heap → Prop) (h : Heap) : Prop :=
 CallsH Tryz.prog 53 #[size2] h (fun t12 h_1 => 
 CallsH Tryz.prog 34 #[w0, t12, name1, (.int .i64 0), (.int .i64 0)] h_1 (fun t14 h_2 => 
 Hp Tryz.prog false (Instr.extract t14 0) (fun t15 h_3 => 
 Hp Tryz.prog false (Instr.extract t14 1) (fun t16 h_4 => 
 JoinN 0 (fun (k : Heap → Prop) h_5 =>
 Hp Tryz.prog false (binS .eql 27 (.tmp 17) (.const (.int .i64 0)) t16 (.int .i64 0)) (fun t18 h_6 => 
 CondP t18 (
 CallsH Tryz.prog 49 #[w0, t15, size2] h_6 (fun t22 h_7 => 
 k h_7) ⟨⟩) (
 k h_6) ⟨⟩ ⟨⟩) h_5 ⟨⟩)
 (fun h_8 =>
 R t16 h_8) h_4 ⟨⟩ ⟨⟩) h_3 ⟨⟩) h_2 ⟨⟩) ⟨⟩) ⟨⟩

theorem n23_calls {w0 name1 size2 : Value} {R : Value → Heap → Prop} {h : Heap} (H : n23 w0 name1 size2 R h) : CallsH Tryz.prog 23 #[w0, name1, size2] h R ⟨⟩ :=
 callsH_of_eq Tryz.follow (.n none .l (.n none .l (.n (some []) .l .l))) Tryz.func23 (by kernel_rfl) (by kernel_rfl) (by kernel_rfl) H

/-- palimpsest/palimpsestlaw25.fill -/
def n24 (n0 c1 : Value) (R : Value → Heap → Prop) (h : Heap) : Prop :=
 Hp Tryz.prog false (Instr.makeSlice 32 n0 n0) (fun t8 h_1 => 
 LoopC 1 (fun (X : Value → Heap → Prop) => fun i6 h_2 =>
 Hp Tryz.prog false (binS .lss 3 (.tmp 9) (.tmp 10) i6 n0) (fun t11 h_3 => 
 CondP t11 (
 Hp Tryz.prog false (Instr.indexAt 32 t8 i6) (fun t17 h_4 => 
 Hp Tryz.prog false (storeS 5 t17 c1) (fun _ h_5 => 
 Hp Tryz.prog false (binS .add 3 (.tmp 12) (.const (.int .i64 1)) i6 (.int .i64 1)) (fun t13 h_6 => 
 X t13 h_6) h_5 ⟨⟩) h_4 ⟨⟩) h_3 ⟨⟩) (
 R t8 h_3) ⟨⟩ ⟨⟩) h_2 ⟨⟩) [(.int .i64 0)] h_1 ⟨⟩) h ⟨⟩

theorem n24_calls {n0 c1 : Value} {R : Value → Heap → Prop} {h : Heap} (H : n24 n0 c1 R h) : CallsH Tryz.prog 24 #[n0, c1] h R ⟨⟩ :=
 callsH_of_eq Tryz.follow (.n none .l (.n none .l (.n none (.n none .l (.n none (.n (some [7]) .l .l) .l)) .l))) Tryz.func24 (by kernel_rfl) (by kernel_rfl) (by kernel_rfl) H

/-- palimpsest/model.New -/
def n25 (R : Value → Heap → Prop) (h : Heap) : Prop :=
 Hp Tryz.prog false (Instr.makeMap 85 none) (fun t1 h_1 => 
 Hp Tryz.prog false (Instr.build 87 #[(0, t1)]) (fun t2 h_2 => 
 Hp Tryz.prog false (Instr.box 87 t2) (fun t3 h_3 => 
 R t3 h_3) h_2 ⟨⟩) h_1 ⟨⟩) h ⟨⟩

theorem n25_calls {R : Value → Heap → Prop} {h : Heap} (H : n25  R h) : CallsH Tryz.prog 25 #[] h R ⟨⟩ :=
 callsH_of_eq Tryz.follow .l Tryz.func25 (by kernel_rfl) (by kernel_rfl) (by kernel_rfl) H

/-- (*palimpsest/model.World).All -/
def n26 (w0 : Value) (R : Value → Heap → Prop) (h : Heap) : Prop :=
 Hp Tryz.prog false (Instr.alloc 104 true undef) (fun l3 h_1 => 
 CallsH Tryz.prog 54 #[w0] h_1 (fun t7 h_2 => 
 Hp Tryz.prog false (Builtin.len_ #[105] 3 #[t7]) (fun t8 h_3 => 
 LoopC 1 (fun (X : Value → Heap → Prop) => fun t9 h_4 =>
 Hp Tryz.prog false (binS .lss 3 (.tmp 9) (.tmp 8) t9 t8) (fun t10 h_5 => 
 CondP t10 (
 Hp Tryz.prog false (Instr.indexAt 105 t7 t9) (fun t11 h_6 => 
 Hp Tryz.prog false (Instr.loadAt 9 t11) (fun t12 h_7 => 
 Hp Tryz.prog true (Instr.loadAt 104 l3) (fun t13 _ => 
 Hp Tryz.prog true (nilS w0) (fun t15 _ => 
 Hp Tryz.prog true (Instr.fieldAt 87 t15 0) (fun t16 _ => 
 Hp Tryz.prog true (Instr.loadAt 85 t16) (fun t17 _ => 
 Hp Tryz.prog true (Instr.lookup 85 t17 t12 false) (fun t19 _ => 
 CallsH Tryz.prog 39 #[t19] h_7 (fun t20 h_8 => Hp Tryz.prog true (Instr.loadAt 104 l3) (fun u _ => u = t13) h_8 ⟨⟩ ∧ 
 Hp Tryz.prog false (Instr.buildSlice 104 1 #[(0, t20)]) (fun t21 h_9 => Hp Tryz.prog true (Instr.loadAt 104 l3) (fun u _ => u = t13) h_9 ⟨⟩ ∧ 
 Hp Tryz.prog false (Builtin.append_ #[104, 104] 104 #[t13, t21]) (fun t22 h_10 => 
 Hp Tryz.prog false (storeS 104 l3 t22) (fun _ h_11 => 
 Hp Tryz.prog false (binS .add 3 (.tmp 9) (.const (.int .i64 1)) t9 (.int .i64 1)) (fun t23 h_12 => 
 X t23 h_12) h_11 ⟨⟩) h_10 ⟨⟩) h_9 ⟨⟩) h_8 ⟨⟩) ⟨⟩) h_7 ⟨⟩) h_7 ⟨⟩) #[] ⟨⟩) #[] ⟨⟩) h_7 ⟨⟩) h_6 ⟨⟩) h_5 ⟨⟩) (
 Hp Tryz.prog false (pure (.func (.func 55) #[] #[l3])) (fun t24 h_13 => 
 R t24 h_13) h_5 ⟨⟩) ⟨⟩ ⟨⟩) h_4 ⟨⟩) [(.int .i64 0)] h_3 ⟨⟩) h_2 ⟨⟩) ⟨⟩) h ⟨⟩

theorem n26_calls {w0 : Value} {R : Value → Heap → Prop} {h : Heap} (H : n26 w0 R h) : CallsH Tryz.prog 26 #[w0] h R ⟨⟩ :=
 callsH_of_eq Tryz.follow (.n none .l (.n none .l (.n none (.n none .l (.n none (.n (some [10]) .l .l) .l)) .l))) Tryz.func26 (by kernel_rfl) (by kernel_rfl) (by kernel_rfl) H

end Go.Proofs.YtoonjlhfgjnnmaaGreat

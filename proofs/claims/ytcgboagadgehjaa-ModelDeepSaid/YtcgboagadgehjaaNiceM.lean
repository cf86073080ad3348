/- Printed by wip/tools/gen.py: the condition of each function, and that a call meets it. -/
import Derived.Test.YtcgboagadgehjaaVcFun
import Derived.Test.YtcgboagadgehjaaProg
import Derived.Test.YtcgboagadgehjaaNiceK
import Derived.Test.YtcgboagadgehjaaNiceL
set_option maxRecDepth 100000
set_option linter.unusedVariables false
namespace Go.Proofs.Ytcgboagadgehjaa
open Go.Vc

/-- palimpsest/palimpsestlaw25.ModelCompare -/
def n3 (n0 m1 l2 : Value) (R : Value → Heap → Prop) (h : Heap) : Prop :=
 Hp Try.prog false (binS .lss 2 (.tmp 20) (.const (.int .i64 0)) n0 (.int .i64 0)) (fun t21 h_1 => 
 Join1 (fun k h_2 => guardP t21 false (k m1 h_2) (k undef h_2) ⟨⟩ ⟨⟩) (fun t23 h_3 => 
 Join1 (fun k_1 h_4 => guardP t21 false (Hp Try.prog false (binS .lss 2 (.tmp 23) (.const (.int .i64 0)) t23 (.int .i64 0)) k_1 h_4 ⟨⟩) (k_1 undef h_4) ⟨⟩ ⟨⟩) (fun t24 h_5 => 
 Hp Try.prog false (pickS t21 (.bool true) t24) (fun t25 h_6 => 
 Join1 (fun k_2 h_7 => guardP t25 false (k_2 n0 h_7) (k_2 undef h_7) ⟨⟩ ⟨⟩) (fun t27 h_8 => 
 Join1 (fun k_3 h_9 => guardP t25 false (Hp Try.prog false (binS .gtr 2 (.tmp 27) (.const (.int .i64 40)) t27 (.int .i64 40)) k_3 h_9 ⟨⟩) (k_3 undef h_9) ⟨⟩ ⟨⟩) (fun t28 h_10 => 
 Hp Try.prog false (pickS t25 (.bool true) t28) (fun t29 h_11 => 
 Join1 (fun k_4 h_12 => guardP t29 false (k_4 m1 h_12) (k_4 undef h_12) ⟨⟩ ⟨⟩) (fun t31 h_13 => 
 Join1 (fun k_5 h_14 => guardP t29 false (Hp Try.prog false (binS .gtr 2 (.tmp 31) (.const (.int .i64 40)) t31 (.int .i64 40)) k_5 h_14 ⟨⟩) (k_5 undef h_14) ⟨⟩ ⟨⟩) (fun t32 h_15 => 
 Hp Try.prog false (pickS t29 (.bool true) t32) (fun t33 h_16 => 
 Join1 (fun k_6 h_17 => guardP t33 false (k_6 l2 h_17) (k_6 undef h_17) ⟨⟩ ⟨⟩) (fun t35 h_18 => 
 Join1 (fun k_7 h_19 => guardP t33 false (Hp Try.prog false (Builtin.len_ #[22] 3 #[t35]) k_7 h_19 ⟨⟩) (k_7 undef h_19) ⟨⟩ ⟨⟩) (fun t36 h_20 => 
 Join1 (fun k_8 h_21 => guardP t33 false (Hp Try.prog false (binS .gtr 3 (.tmp 36) (.const (.int .i64 12)) t36 (.int .i64 12)) k_8 h_21 ⟨⟩) (k_8 undef h_21) ⟨⟩ ⟨⟩) (fun t37 h_22 => 
 Hp Try.prog false (pickS t33 (.bool true) t37) (fun t38 h_23 => 
 CondP t38 (
 CallsH Try.prog 6 #[] h_23 (fun t39 h_24 => 
 R t39 h_24) ⟨⟩) (
 CallsH Try.prog 7 #[] h_23 (fun t40 h_25 => 
 Hp Try.prog false (binS .eql 24 (.tmp 41) (.const (.pointer none)) t40 (.pointer none)) (fun t42 h_26 => 
 Join1 (fun k_9 h_27 => guardP t42 false (k_9 t40 h_27) (k_9 undef h_27) ⟨⟩ ⟨⟩) (fun t44 h_28 => 
 Join1 (fun k_10 h_29 => guardP t42 false (k_10 n0 h_29) (k_10 undef h_29) ⟨⟩ ⟨⟩) (fun t45 h_30 => 
 Join1 (fun k_11 h_31 => guardP t42 false (Hp Try.prog false (binS .mul 2 (.tmp 45) (.const (.int .i64 512)) t45 (.int .i64 512)) k_11 h_31 ⟨⟩) (k_11 undef h_31) ⟨⟩ ⟨⟩) (fun t46 h_32 => 
 Join1 (fun k_12 h_33 => guardP t42 false (CallsH Try.prog 9 #[t44, (str [97]), t46, (.int .i64 9), (str [])] h_33 k_12 ⟨⟩) (k_12 undef h_33) ⟨⟩ ⟨⟩) (fun t47 h_34 => 
 Join1 (fun k_13 h_35 => guardP t42 false (CallsH Try.prog 8 #[t47] h_35 k_13 ⟨⟩) (k_13 undef h_35) ⟨⟩ ⟨⟩) (fun t48 h_36 => 
 Join1 (fun k_14 h_37 => guardP t42 false (Hp Try.prog false (binS .neq 3 (.tmp 48) (.const (.int .i64 0)) t48 (.int .i64 0)) k_14 h_37 ⟨⟩) (k_14 undef h_37) ⟨⟩ ⟨⟩) (fun t49 h_38 => 
 Hp Try.prog false (pickS t42 (.bool true) t49) (fun t50 h_39 => 
 Join1 (fun k_15 h_40 => guardP t50 false (k_15 t40 h_40) (k_15 undef h_40) ⟨⟩ ⟨⟩) (fun t52 h_41 => 
 Join1 (fun k_16 h_42 => guardP t50 false (k_16 m1 h_42) (k_16 undef h_42) ⟨⟩ ⟨⟩) (fun t53 h_43 => 
 Join1 (fun k_17 h_44 => guardP t50 false (Hp Try.prog false (binS .mul 2 (.tmp 53) (.const (.int .i64 512)) t53 (.int .i64 512)) k_17 h_44 ⟨⟩) (k_17 undef h_44) ⟨⟩ ⟨⟩) (fun t54 h_45 => 
 Join1 (fun k_18 h_46 => guardP t50 false (CallsH Try.prog 9 #[t52, (str [98]), t54, (.int .i64 10), (str [])] h_46 k_18 ⟨⟩) (k_18 undef h_46) ⟨⟩ ⟨⟩) (fun t55 h_47 => 
 Join1 (fun k_19 h_48 => guardP t50 false (CallsH Try.prog 8 #[t55] h_48 k_19 ⟨⟩) (k_19 undef h_48) ⟨⟩ ⟨⟩) (fun t56 h_49 => 
 Join1 (fun k_20 h_50 => guardP t50 false (Hp Try.prog false (binS .neq 3 (.tmp 56) (.const (.int .i64 0)) t56 (.int .i64 0)) k_20 h_50 ⟨⟩) (k_20 undef h_50) ⟨⟩ ⟨⟩) (fun t57 h_51 => 
 Hp Try.prog false (pickS t50 (.bool true) t57) (fun t58 h_52 => 
 CondP t58 (
 R (.bool false) h_52) (
 JoinN 2 (fun (k_21 : Value → Value → Heap → Prop) h_53 =>
 ((
 Hp Try.prog false (Instr.makeSlice 29 (.int .i64 20480) (.int .i64 20480)) (fun t59 h_54 => 
 Hp Try.prog false (Instr.makeSlice 29 (.int .i64 20480) (.int .i64 20480)) (fun t60 h_55 => 
 k_21 t59 t60 h_55) h_54 ⟨⟩) h_53 ⟨⟩) ∧ (
 Hp Try.prog false (Instr.makeSlice 29 (.int .i64 20480) (.int .i64 20480)) (fun t60_1 h_56 => 
 Hp Try.prog false (Instr.makeSlice 29 (.int .i64 20480) (.int .i64 20480)) (fun t59_1 h_57 => 
 k_21 t59_1 t60_1 h_57) h_56 ⟨⟩) h_53 ⟨⟩)))
 (fun a8 b9 h_58 =>
 LoopC 1 (fun (X : Value → Heap → Prop) => fun i10 h_59 =>
 Hp Try.prog false (Builtin.len_ #[22] 3 #[l2]) (fun t63 h_60 => 
 Hp Try.prog false (binS .lss 3 (.tmp 61) (.tmp 63) i10 t63) (fun t64 h_61 => 
 CondP t64 (
 JoinN 0 (fun (k_22 : Heap → Prop) h_62 =>
 JoinN 0 (fun (k_23 : Heap → Prop) h_63 =>
 Hp Try.prog false (Instr.indexAt 22 l2 i10) (fun t69 h_64 => 
 Hp Try.prog false (Instr.fieldAt 31 t69 7) (fun t70 h_65 => 
 Hp Try.prog false (Instr.loadAt 29 t70) (fun t71 h_66 => 
 Hp Try.prog false (Builtin.len_ #[29] 3 #[t71]) (fun t72 h_67 => 
 Hp Try.prog false (binS .gtr 3 (.tmp 72) (.const (.int .i64 3072)) t72 (.int .i64 3072)) (fun t73 h_68 => 
 CondP t73 (
 CallsH Try.prog 6 #[] h_68 (fun t74 h_69 => 
 R t74 h_69) ⟨⟩) (
 JoinN 0 (fun (k_24 : Heap → Prop) h_70 =>
 Hp Try.prog true (Instr.indexAt 22 l2 i10) (fun t78 _ => 
 Hp Try.prog true (Instr.fieldAt 31 t78 5) (fun t79 _ => 
 Hp Try.prog true (Instr.loadAt 2 t79) (fun t80 _ => 
 Hp Try.prog true (Instr.indexAt 22 l2 i10) (fun t83 _ => 
 Hp Try.prog true (Instr.fieldAt 31 t83 7) (fun t84 _ => 
 Hp Try.prog true (Instr.loadAt 29 t84) (fun t85 _ => 
 CallsH Try.prog 10 #[t40, (str [97]), t80, t85] h_70 (fun t86 h_71 => 
 CallsH Try.prog 8 #[t86] h_71 (fun t87 h_72 => 
 Hp Try.prog true (binS .eql 3 (.tmp 87) (.const (.int .i64 0)) t87 (.int .i64 0)) (fun t88 _ => 
 CondP t88 (
 Hp Try.prog true (Instr.indexAt 22 l2 i10) (fun t92 _ => 
 Hp Try.prog true (Instr.fieldAt 31 t92 5) (fun t93 _ => 
 Hp Try.prog true (Instr.loadAt 2 t93) (fun t94 _ => 
 Hp Try.prog true (binS .mul 2 (.tmp 94) (.const (.int .i64 512)) t94 (.int .i64 512)) (fun t95 _ => 
 Hp Try.prog true (Instr.sliceAt 29 a8 (some t95) none none) (fun t96 _ => 
 Hp Try.prog true (Instr.indexAt 22 l2 i10) (fun t99 _ => 
 Hp Try.prog true (Instr.fieldAt 31 t99 7) (fun t100 _ => 
 Hp Try.prog true (Instr.loadAt 29 t100) (fun t101 _ => 
 Hp Try.prog false (Builtin.copy_ #[29, 29] 3 #[t96, t101]) (fun t102 h_73 => 
 k_24 h_73) h_72 ⟨⟩) h_72 ⟨⟩) #[] ⟨⟩) #[] ⟨⟩) #[] ⟨⟩) #[] ⟨⟩) h_72 ⟨⟩) #[] ⟨⟩) #[] ⟨⟩) (
 k_24 h_72) ⟨⟩ ⟨⟩) #[] ⟨⟩) ⟨⟩) ⟨⟩) h_70 ⟨⟩) #[] ⟨⟩) #[] ⟨⟩) h_70 ⟨⟩) #[] ⟨⟩) #[] ⟨⟩)
 (fun h_74 =>
 Hp Try.prog true (Instr.indexAt 22 l2 i10) (fun t105 _ => 
 Hp Try.prog true (Instr.fieldAt 31 t105 8) (fun t106 _ => 
 Hp Try.prog true (Instr.loadAt 4 t106) (fun t107 _ => 
 Hp Try.prog true (Op.unary .not t107) (fun t108 _ => 
 Join1 (fun k_25 h_75 => guardP t108 true (k_25 t40 h_75) (k_25 undef h_75) ⟨⟩ ⟨⟩) (fun t110 _ => 
 Join1 (fun k_26 h_76 => guardP t108 true (k_26 l2 h_76) (k_26 undef h_76) ⟨⟩ ⟨⟩) (fun t111 _ => 
 Join1 (fun k_27 h_77 => guardP t108 true (k_27 i10 h_77) (k_27 undef h_77) ⟨⟩ ⟨⟩) (fun t112 _ => 
 Join1 (fun k_28 h_78 => guardP t108 true (Hp Try.prog true (Instr.indexAt 22 t111 t112) k_28 h_78 ⟨⟩) (k_28 undef h_78) ⟨⟩ ⟨⟩) (fun t113 _ => 
 Join1 (fun k_29 h_79 => guardP t108 true (Hp Try.prog true (Instr.fieldAt 31 t113 5) k_29 h_79 ⟨⟩) (k_29 undef h_79) ⟨⟩ ⟨⟩) (fun t114 _ => 
 Join1 (fun k_30 h_80 => guardP t108 true (Hp Try.prog true (Instr.loadAt 2 t114) k_30 h_80 ⟨⟩) (k_30 undef h_80) ⟨⟩ ⟨⟩) (fun t115 _ => 
 Join1 (fun k_31 h_81 => guardP t108 true (k_31 l2 h_81) (k_31 undef h_81) ⟨⟩ ⟨⟩) (fun t116 _ => 
 Join1 (fun k_32 h_82 => guardP t108 true (k_32 i10 h_82) (k_32 undef h_82) ⟨⟩ ⟨⟩) (fun t117 _ => 
 Join1 (fun k_33 h_83 => guardP t108 true (Hp Try.prog true (Instr.indexAt 22 t116 t117) k_33 h_83 ⟨⟩) (k_33 undef h_83) ⟨⟩ ⟨⟩) (fun t118 _ => 
 Join1 (fun k_34 h_84 => guardP t108 true (Hp Try.prog true (Instr.fieldAt 31 t118 7) k_34 h_84 ⟨⟩) (k_34 undef h_84) ⟨⟩ ⟨⟩) (fun t119 _ => 
 Join1 (fun k_35 h_85 => guardP t108 true (Hp Try.prog true (Instr.loadAt 29 t119) k_35 h_85 ⟨⟩) (k_35 undef h_85) ⟨⟩ ⟨⟩) (fun t120 _ => 
 Join1 (fun k_36 h_86 => guardP t108 true (CallsH Try.prog 10 #[t110, (str [98]), t115, t120] h_86 k_36 ⟨⟩) (k_36 undef h_86) ⟨⟩ ⟨⟩) (fun t121 h_87 => 
 Join1 (fun k_37 h_88 => guardP t108 true (CallsH Try.prog 8 #[t121] h_88 k_37 ⟨⟩) (k_37 undef h_88) ⟨⟩ ⟨⟩) (fun t122 h_89 => 
 Join1 (fun k_38 h_90 => guardP t108 true (Hp Try.prog true (binS .eql 3 (.tmp 122) (.const (.int .i64 0)) t122 (.int .i64 0)) k_38 h_90 ⟨⟩) (k_38 undef h_90) ⟨⟩ ⟨⟩) (fun t123 _ => 
 Hp Try.prog true (pickS t108 t123 (.bool false)) (fun t124 _ => 
 CondP t124 (
 Hp Try.prog true (Instr.indexAt 22 l2 i10) (fun t128 _ => 
 Hp Try.prog true (Instr.fieldAt 31 t128 5) (fun t129 _ => 
 Hp Try.prog true (Instr.loadAt 2 t129) (fun t130 _ => 
 Hp Try.prog true (binS .mul 2 (.tmp 130) (.const (.int .i64 512)) t130 (.int .i64 512)) (fun t131 _ => 
 Hp Try.prog true (Instr.sliceAt 29 b9 (some t131) none none) (fun t132 _ => 
 Hp Try.prog true (Instr.indexAt 22 l2 i10) (fun t135 _ => 
 Hp Try.prog true (Instr.fieldAt 31 t135 7) (fun t136 _ => 
 Hp Try.prog true (Instr.loadAt 29 t136) (fun t137 _ => 
 Hp Try.prog false (Builtin.copy_ #[29, 29] 3 #[t132, t137]) (fun t138 h_91 => 
 k_23 h_91) h_89 ⟨⟩) h_89 ⟨⟩) #[] ⟨⟩) #[] ⟨⟩) #[] ⟨⟩) #[] ⟨⟩) h_89 ⟨⟩) #[] ⟨⟩) #[] ⟨⟩) (
 k_23 h_89) ⟨⟩ ⟨⟩) #[] ⟨⟩) #[] ⟨⟩ ⟨⟩) h_87 ⟨⟩ ⟨⟩) h_74 ⟨⟩ ⟨⟩) h_74 ⟨⟩ ⟨⟩) #[] ⟨⟩ ⟨⟩) #[] ⟨⟩ ⟨⟩) #[] ⟨⟩ ⟨⟩) #[] ⟨⟩ ⟨⟩) h_74 ⟨⟩ ⟨⟩) #[] ⟨⟩ ⟨⟩) #[] ⟨⟩ ⟨⟩) #[] ⟨⟩ ⟨⟩) #[] ⟨⟩ ⟨⟩) #[] ⟨⟩ ⟨⟩) #[] ⟨⟩) h_74 ⟨⟩) #[] ⟨⟩) #[] ⟨⟩) h_68 ⟨⟩ ⟨⟩) ⟨⟩ ⟨⟩) h_67 ⟨⟩) h_66 ⟨⟩) h_65 ⟨⟩) h_64 ⟨⟩) h_63 ⟨⟩)
 (fun h_92 =>
 k_22 h_92) h_62 ⟨⟩ ⟨⟩)
 (fun h_93 =>
 Hp Try.prog false (binS .add 3 (.tmp 65) (.const (.int .i64 1)) i10 (.int .i64 1)) (fun t66 h_94 => 
 X t66 h_94) h_93 ⟨⟩) h_61 ⟨⟩ ⟨⟩) (
 CallsH Try.prog 11 #[t40, (str [97]), (str [98])] h_61 (fun t141 h_95 => 
 Hp Try.prog false (Instr.extract t141 0) (fun t142 h_96 => 
 Hp Try.prog false (Instr.extract t141 1) (fun t143 h_97 => 
 Hp Try.prog false (Instr.extract t141 2) (fun t144 h_98 => 
 CallsH Try.prog 11 #[t40, (str [98]), (str [97])] h_98 (fun t147 h_99 => 
 Hp Try.prog false (Instr.extract t147 0) (fun t148 h_100 => 
 Hp Try.prog false (Instr.extract t147 1) (fun t149 h_101 => 
 Hp Try.prog false (Instr.extract t147 2) (fun t150 h_102 => 
 CallsH Try.prog 11 #[t40, (str [97]), (str [97])] h_102 (fun t153 h_103 => 
 Hp Try.prog false (Instr.extract t153 0) (fun t154 h_104 => 
 Hp Try.prog false (Instr.extract t153 1) (fun t155 h_105 => 
 Hp Try.prog false (Instr.extract t153 2) (fun t156 h_106 => 
 Hp Try.prog false (binS .neq 2 (.tmp 157) (.tmp 158) t142 t148) (fun t159 h_107 => 
 Join1 (fun k_39 h_108 => guardP t159 false (k_39 t143 h_108) (k_39 undef h_108) ⟨⟩ ⟨⟩) (fun t161 h_109 => 
 Join1 (fun k_40 h_110 => guardP t159 false (k_40 t149 h_110) (k_40 undef h_110) ⟨⟩ ⟨⟩) (fun t162 h_111 => 
 Join1 (fun k_41 h_112 => guardP t159 false (Hp Try.prog false (binS .neq 4 (.tmp 161) (.tmp 162) t161 t162) k_41 h_112 ⟨⟩) (k_41 undef h_112) ⟨⟩ ⟨⟩) (fun t163 h_113 => 
 Hp Try.prog false (pickS t159 (.bool true) t163) (fun t164 h_114 => 
 Join1 (fun k_42 h_115 => guardP t164 false (k_42 t155 h_115) (k_42 undef h_115) ⟨⟩ ⟨⟩) (fun t166 h_116 => 
 Join1 (fun k_43 h_117 => guardP t164 false (Hp Try.prog false (Op.unary .not t166) k_43 h_117 ⟨⟩) (k_43 undef h_117) ⟨⟩ ⟨⟩) (fun t167 h_118 => 
 Hp Try.prog false (pickS t164 (.bool true) t167) (fun t168 h_119 => 
 Join1 (fun k_44 h_120 => guardP t168 false (k_44 t144 h_120) (k_44 undef h_120) ⟨⟩ ⟨⟩) (fun t170 h_121 => 
 Join1 (fun k_45 h_122 => guardP t168 false (CallsH Try.prog 8 #[t170] h_122 k_45 ⟨⟩) (k_45 undef h_122) ⟨⟩ ⟨⟩) (fun t171 h_123 => 
 Join1 (fun k_46 h_124 => guardP t168 false (k_46 t150 h_124) (k_46 undef h_124) ⟨⟩ ⟨⟩) (fun t172 h_125 => 
 Join1 (fun k_47 h_126 => guardP t168 false (CallsH Try.prog 8 #[t172] h_126 k_47 ⟨⟩) (k_47 undef h_126) ⟨⟩ ⟨⟩) (fun t173 h_127 => 
 Join1 (fun k_48 h_128 => guardP t168 false (Hp Try.prog false (binS .add 3 (.tmp 171) (.tmp 173) t171 t173) k_48 h_128 ⟨⟩) (k_48 undef h_128) ⟨⟩ ⟨⟩) (fun t174 h_129 => 
 Join1 (fun k_49 h_130 => guardP t168 false (k_49 t156 h_130) (k_49 undef h_130) ⟨⟩ ⟨⟩) (fun t175 h_131 => 
 Join1 (fun k_50 h_132 => guardP t168 false (CallsH Try.prog 8 #[t175] h_132 k_50 ⟨⟩) (k_50 undef h_132) ⟨⟩ ⟨⟩) (fun t176 h_133 => 
 Join1 (fun k_51 h_134 => guardP t168 false (Hp Try.prog false (binS .add 3 (.tmp 174) (.tmp 176) t174 t176) k_51 h_134 ⟨⟩) (k_51 undef h_134) ⟨⟩ ⟨⟩) (fun t177 h_135 => 
 Join1 (fun k_52 h_136 => guardP t168 false (Hp Try.prog false (binS .neq 3 (.tmp 177) (.const (.int .i64 0)) t177 (.int .i64 0)) k_52 h_136 ⟨⟩) (k_52 undef h_136) ⟨⟩ ⟨⟩) (fun t178 h_137 => 
 Hp Try.prog false (pickS t168 (.bool true) t178) (fun t179 h_138 => 
 Join1 (fun k_53 h_139 => guardP t179 false (k_53 t143 h_139) (k_53 undef h_139) ⟨⟩ ⟨⟩) (fun t181 h_140 => 
 Join1 (fun k_54 h_141 => guardP t179 false (k_54 a8 h_141) (k_54 undef h_141) ⟨⟩ ⟨⟩) (fun t182 h_142 => 
 Join1 (fun k_55 h_143 => guardP t179 false (Hp Try.prog false (convert 29 9 t182) k_55 h_143 ⟨⟩) (k_55 undef h_143) ⟨⟩ ⟨⟩) (fun t183 h_144 => 
 Join1 (fun k_56 h_145 => guardP t179 false (k_56 b9 h_145) (k_56 undef h_145) ⟨⟩ ⟨⟩) (fun t184 h_146 => 
 Join1 (fun k_57 h_147 => guardP t179 false (Hp Try.prog false (convert 29 9 t184) k_57 h_147 ⟨⟩) (k_57 undef h_147) ⟨⟩ ⟨⟩) (fun t185 h_148 => 
 Join1 (fun k_58 h_149 => guardP t179 false (Hp Try.prog false (binS .eql 9 (.tmp 183) (.tmp 185) t183 t185) k_58 h_149 ⟨⟩) (k_58 undef h_149) ⟨⟩ ⟨⟩) (fun t186 h_150 => 
 Join1 (fun k_59 h_151 => guardP t179 false (Hp Try.prog false (binS .neq 4 (.tmp 181) (.tmp 186) t181 t186) k_59 h_151 ⟨⟩) (k_59 undef h_151) ⟨⟩ ⟨⟩) (fun t187 h_152 => 
 Hp Try.prog false (pickS t179 (.bool true) t187) (fun t188 h_153 => 
 CondP t188 (
 R (.bool false) h_153) (
 CondP t143 (
 Hp Try.prog false (binS .eql 2 (.tmp 190) (.const (.int .i64 0)) t142 (.int .i64 0)) (fun t191 h_154 => 
 Join1 (fun k_60 h_155 => guardP t191 true (CallsH Try.prog 6 #[] h_155 k_60 ⟨⟩) (k_60 undef h_155) ⟨⟩ ⟨⟩) (fun t193 h_156 => 
 Hp Try.prog false (pickS t191 t193 (.bool false)) (fun t194 h_157 => 
 R t194 h_157) h_156 ⟨⟩) h_154 ⟨⟩ ⟨⟩) h_153 ⟨⟩) (
 Hp Try.prog true (binS .geq 2 (.tmp 195) (.const (.int .i64 0)) t142 (.int .i64 0)) (fun t196 _ => 
 Join1 (fun k_61 h_158 => guardP t196 true (k_61 t142 h_158) (k_61 undef h_158) ⟨⟩ ⟨⟩) (fun t198 _ => 
 Join1 (fun k_62 h_159 => guardP t196 true (Hp Try.prog true (binS .lss 2 (.tmp 198) (.const (.int .i64 40)) t198 (.int .i64 40)) k_62 h_159 ⟨⟩) (k_62 undef h_159) ⟨⟩ ⟨⟩) (fun t199 _ => 
 Hp Try.prog true (pickS t196 t199 (.bool false)) (fun t200 _ => 
 Join1 (fun k_63 h_160 => guardP t200 true (k_63 a8 h_160) (k_63 undef h_160) ⟨⟩ ⟨⟩) (fun t202 _ => 
 Join1 (fun k_64 h_161 => guardP t200 true (k_64 t142 h_161) (k_64 undef h_161) ⟨⟩ ⟨⟩) (fun t203 _ => 
 Join1 (fun k_65 h_162 => guardP t200 true (Hp Try.prog true (binS .mul 2 (.const (.int .i64 512)) (.tmp 203) (.int .i64 512) t203) k_65 h_162 ⟨⟩) (k_65 undef h_162) ⟨⟩ ⟨⟩) (fun t204 _ => 
 Join1 (fun k_66 h_163 => guardP t200 true (Hp Try.prog true (Instr.sliceAt 29 t202 none (some t204) none) k_66 h_163 ⟨⟩) (k_66 undef h_163) ⟨⟩ ⟨⟩) (fun t205 _ => 
 Join1 (fun k_67 h_164 => guardP t200 true (Hp Try.prog true (convert 29 9 t205) k_67 h_164 ⟨⟩) (k_67 undef h_164) ⟨⟩ ⟨⟩) (fun t206 _ => 
 Join1 (fun k_68 h_165 => guardP t200 true (k_68 b9 h_165) (k_68 undef h_165) ⟨⟩ ⟨⟩) (fun t207 _ => 
 Join1 (fun k_69 h_166 => guardP t200 true (k_69 t142 h_166) (k_69 undef h_166) ⟨⟩ ⟨⟩) (fun t208 _ => 
 Join1 (fun k_70 h_167 => guardP t200 true (Hp Try.prog true (binS .mul 2 (.const (.int .i64 512)) (.tmp 208) (.int .i64 512) t208) k_70 h_167 ⟨⟩) (k_70 undef h_167) ⟨⟩ ⟨⟩) (fun t209 _ => 
 Join1 (fun k_71 h_168 => guardP t200 true (Hp Try.prog true (Instr.sliceAt 29 t207 none (some t209) none) k_71 h_168 ⟨⟩) (k_71 undef h_168) ⟨⟩ ⟨⟩) (fun t210 _ => 
 Join1 (fun k_72 h_169 => guardP t200 true (Hp Try.prog true (convert 29 9 t210) k_72 h_169 ⟨⟩) (k_72 undef h_169) ⟨⟩ ⟨⟩) (fun t211 _ => 
 Join1 (fun k_73 h_170 => guardP t200 true (Hp Try.prog true (binS .eql 9 (.tmp 206) (.tmp 211) t206 t211) k_73 h_170 ⟨⟩) (k_73 undef h_170) ⟨⟩ ⟨⟩) (fun t212 _ => 
 Hp Try.prog true (pickS t200 t212 (.bool false)) (fun t213 _ => 
 Join1 (fun k_74 h_171 => guardP t213 true (k_74 a8 h_171) (k_74 undef h_171) ⟨⟩ ⟨⟩) (fun t215 _ => 
 Join1 (fun k_75 h_172 => guardP t213 true (k_75 t142 h_172) (k_75 undef h_172) ⟨⟩ ⟨⟩) (fun t216 _ => 
 Join1 (fun k_76 h_173 => guardP t213 true (Hp Try.prog true (binS .mul 2 (.const (.int .i64 512)) (.tmp 216) (.int .i64 512) t216) k_76 h_173 ⟨⟩) (k_76 undef h_173) ⟨⟩ ⟨⟩) (fun t217 _ => 
 Join1 (fun k_77 h_174 => guardP t213 true (k_77 t142 h_174) (k_77 undef h_174) ⟨⟩ ⟨⟩) (fun t218 _ => 
 Join1 (fun k_78 h_175 => guardP t213 true (Hp Try.prog true (binS .mul 2 (.const (.int .i64 512)) (.tmp 218) (.int .i64 512) t218) k_78 h_175 ⟨⟩) (k_78 undef h_175) ⟨⟩ ⟨⟩) (fun t219 _ => 
 Join1 (fun k_79 h_176 => guardP t213 true (Hp Try.prog true (binS .add 2 (.tmp 219) (.const (.int .i64 512)) t219 (.int .i64 512)) k_79 h_176 ⟨⟩) (k_79 undef h_176) ⟨⟩ ⟨⟩) (fun t220 _ => 
 Join1 (fun k_80 h_177 => guardP t213 true (Hp Try.prog true (Instr.sliceAt 29 t215 (some t217) (some t220) none) k_80 h_177 ⟨⟩) (k_80 undef h_177) ⟨⟩ ⟨⟩) (fun t221 _ => 
 Join1 (fun k_81 h_178 => guardP t213 true (Hp Try.prog true (convert 29 9 t221) k_81 h_178 ⟨⟩) (k_81 undef h_178) ⟨⟩ ⟨⟩) (fun t222 _ => 
 Join1 (fun k_82 h_179 => guardP t213 true (k_82 b9 h_179) (k_82 undef h_179) ⟨⟩ ⟨⟩) (fun t223 _ => 
 Join1 (fun k_83 h_180 => guardP t213 true (k_83 t142 h_180) (k_83 undef h_180) ⟨⟩ ⟨⟩) (fun t224 _ => 
 Join1 (fun k_84 h_181 => guardP t213 true (Hp Try.prog true (binS .mul 2 (.const (.int .i64 512)) (.tmp 224) (.int .i64 512) t224) k_84 h_181 ⟨⟩) (k_84 undef h_181) ⟨⟩ ⟨⟩) (fun t225 _ => 
 Join1 (fun k_85 h_182 => guardP t213 true (k_85 t142 h_182) (k_85 undef h_182) ⟨⟩ ⟨⟩) (fun t226 _ => 
 Join1 (fun k_86 h_183 => guardP t213 true (Hp Try.prog true (binS .mul 2 (.const (.int .i64 512)) (.tmp 226) (.int .i64 512) t226) k_86 h_183 ⟨⟩) (k_86 undef h_183) ⟨⟩ ⟨⟩) (fun t227 _ => 
 Join1 (fun k_87 h_184 => guardP t213 true (Hp Try.prog true (binS .add 2 (.tmp 227) (.const (.int .i64 512)) t227 (.int .i64 512)) k_87 h_184 ⟨⟩) (k_87 undef h_184) ⟨⟩ ⟨⟩) (fun t228 _ => 
 Join1 (fun k_88 h_185 => guardP t213 true (Hp Try.prog true (Instr.sliceAt 29 t223 (some t225) (some t228) none) k_88 h_185 ⟨⟩) (k_88 undef h_185) ⟨⟩ ⟨⟩) (fun t229 _ => 
 Join1 (fun k_89 h_186 => guardP t213 true (Hp Try.prog true (convert 29 9 t229) k_89 h_186 ⟨⟩) (k_89 undef h_186) ⟨⟩ ⟨⟩) (fun t230 _ => 
 Join1 (fun k_90 h_187 => guardP t213 true (Hp Try.prog true (binS .neq 9 (.tmp 222) (.tmp 230) t222 t230) k_90 h_187 ⟨⟩) (k_90 undef h_187) ⟨⟩ ⟨⟩) (fun t231 _ => 
 Hp Try.prog true (pickS t213 t231 (.bool false)) (fun t232 _ => 
 Join1 (fun k_91 h_188 => guardP t232 true (CallsH Try.prog 6 #[] h_188 k_91 ⟨⟩) (k_91 undef h_188) ⟨⟩ ⟨⟩) (fun t234 h_189 => 
 Hp Try.prog true (pickS t232 t234 (.bool false)) (fun t235 _ => 
 R t235 h_189) #[] ⟨⟩) h_153 ⟨⟩ ⟨⟩) #[] ⟨⟩) #[] ⟨⟩ ⟨⟩) h_153 ⟨⟩ ⟨⟩) #[] ⟨⟩ ⟨⟩) #[] ⟨⟩ ⟨⟩) #[] ⟨⟩ ⟨⟩) #[] ⟨⟩ ⟨⟩) #[] ⟨⟩ ⟨⟩) #[] ⟨⟩ ⟨⟩) #[] ⟨⟩ ⟨⟩) h_153 ⟨⟩ ⟨⟩) #[] ⟨⟩ ⟨⟩) #[] ⟨⟩ ⟨⟩) #[] ⟨⟩ ⟨⟩) #[] ⟨⟩ ⟨⟩) #[] ⟨⟩ ⟨⟩) #[] ⟨⟩ ⟨⟩) #[] ⟨⟩ ⟨⟩) #[] ⟨⟩) #[] ⟨⟩ ⟨⟩) h_153 ⟨⟩ ⟨⟩) #[] ⟨⟩ ⟨⟩) #[] ⟨⟩ ⟨⟩) #[] ⟨⟩ ⟨⟩) #[] ⟨⟩ ⟨⟩) h_153 ⟨⟩ ⟨⟩) #[] ⟨⟩ ⟨⟩) #[] ⟨⟩ ⟨⟩) #[] ⟨⟩ ⟨⟩) #[] ⟨⟩ ⟨⟩) #[] ⟨⟩) #[] ⟨⟩ ⟨⟩) #[] ⟨⟩ ⟨⟩) #[] ⟨⟩) ⟨⟩ ⟨⟩) ⟨⟩ ⟨⟩) h_152 ⟨⟩) h_150 ⟨⟩ ⟨⟩) h_148 ⟨⟩ ⟨⟩) h_146 ⟨⟩ ⟨⟩) h_144 ⟨⟩ ⟨⟩) h_142 ⟨⟩ ⟨⟩) h_140 ⟨⟩ ⟨⟩) h_138 ⟨⟩ ⟨⟩) h_137 ⟨⟩) h_135 ⟨⟩ ⟨⟩) h_133 ⟨⟩ ⟨⟩) h_131 ⟨⟩ ⟨⟩) h_129 ⟨⟩ ⟨⟩) h_127 ⟨⟩ ⟨⟩) h_125 ⟨⟩ ⟨⟩) h_123 ⟨⟩ ⟨⟩) h_121 ⟨⟩ ⟨⟩) h_119 ⟨⟩ ⟨⟩) h_118 ⟨⟩) h_116 ⟨⟩ ⟨⟩) h_114 ⟨⟩ ⟨⟩) h_113 ⟨⟩) h_111 ⟨⟩ ⟨⟩) h_109 ⟨⟩ ⟨⟩) h_107 ⟨⟩ ⟨⟩) h_106 ⟨⟩) h_105 ⟨⟩) h_104 ⟨⟩) h_103 ⟨⟩) ⟨⟩) h_101 ⟨⟩) h_100 ⟨⟩) h_99 ⟨⟩) ⟨⟩) h_97 ⟨⟩) h_96 ⟨⟩) h_95 ⟨⟩) ⟨⟩) ⟨⟩ ⟨⟩) h_60 ⟨⟩) h_59 ⟨⟩) [(.int .i64 0)] h_58 ⟨⟩) h_52 ⟨⟩ ⟨⟩) ⟨⟩ ⟨⟩) h_51 ⟨⟩) h_49 ⟨⟩ ⟨⟩) h_47 ⟨⟩ ⟨⟩) h_45 ⟨⟩ ⟨⟩) h_43 ⟨⟩ ⟨⟩) h_41 ⟨⟩ ⟨⟩) h_39 ⟨⟩ ⟨⟩) h_38 ⟨⟩) h_36 ⟨⟩ ⟨⟩) h_34 ⟨⟩ ⟨⟩) h_32 ⟨⟩ ⟨⟩) h_30 ⟨⟩ ⟨⟩) h_28 ⟨⟩ ⟨⟩) h_26 ⟨⟩ ⟨⟩) h_25 ⟨⟩) ⟨⟩) ⟨⟩ ⟨⟩) h_22 ⟨⟩) h_20 ⟨⟩ ⟨⟩) h_18 ⟨⟩ ⟨⟩) h_16 ⟨⟩ ⟨⟩) h_15 ⟨⟩) h_13 ⟨⟩ ⟨⟩) h_11 ⟨⟩ ⟨⟩) h_10 ⟨⟩) h_8 ⟨⟩ ⟨⟩) h_6 ⟨⟩ ⟨⟩) h_5 ⟨⟩) h_3 ⟨⟩ ⟨⟩) h_1 ⟨⟩ ⟨⟩) h ⟨⟩

theorem n3_calls {n0 m1 l2 : Value} {R : Value → Heap → Prop} {h : Heap} (H : n3 n0 m1 l2 R h) : CallsH Try.prog 3 #[n0, m1, l2] h R ⟨⟩ :=
 callsH_of_eq Try.follow (.n none .l (.n none .l (.n none .l (.n none .l (.n (some [9, 10]) .l (.n none (.n none .l (.n none (.n (some [11]) (.n none .l (.n (some []) (.n (some []) (.n none .l (.n (some []) .l .l)) .l) .l)) .l) .l)) .l)))))) Try.func3 (by kernel_rfl) (by kernel_rfl) (by kernel_rfl) H

/-- palimpsest/palimpsestlaw25.ModelOwn -/
def n4 (bits0 other1 l2 : Value) (R : Value → Heap → Prop) (h : Heap) : Prop :=
 Hp Try.prog false (binS .lss 3 (.tmp 23) (.const (.int .i64 9)) bits0 (.int .i64 9)) (fun t24 h_1 => 
 Join1 (fun k h_2 => guardP t24 false (k bits0 h_2) (k undef h_2) ⟨⟩ ⟨⟩) (fun t26 h_3 => 
 Join1 (fun k_1 h_4 => guardP t24 false (Hp Try.prog false (binS .gtr 3 (.tmp 26) (.const (.int .i64 14)) t26 (.int .i64 14)) k_1 h_4 ⟨⟩) (k_1 undef h_4) ⟨⟩ ⟨⟩) (fun t27 h_5 => 
 Hp Try.prog false (pickS t24 (.bool true) t27) (fun t28 h_6 => 
 Join1 (fun k_2 h_7 => guardP t28 false (k_2 other1 h_7) (k_2 undef h_7) ⟨⟩ ⟨⟩) (fun t30 h_8 => 
 Join1 (fun k_3 h_9 => guardP t28 false (Hp Try.prog false (binS .lss 3 (.tmp 30) (.const (.int .i64 9)) t30 (.int .i64 9)) k_3 h_9 ⟨⟩) (k_3 undef h_9) ⟨⟩ ⟨⟩) (fun t31 h_10 => 
 Hp Try.prog false (pickS t28 (.bool true) t31) (fun t32 h_11 => 
 Join1 (fun k_4 h_12 => guardP t32 false (k_4 other1 h_12) (k_4 undef h_12) ⟨⟩ ⟨⟩) (fun t34 h_13 => 
 Join1 (fun k_5 h_14 => guardP t32 false (Hp Try.prog false (binS .gtr 3 (.tmp 34) (.const (.int .i64 14)) t34 (.int .i64 14)) k_5 h_14 ⟨⟩) (k_5 undef h_14) ⟨⟩ ⟨⟩) (fun t35 h_15 => 
 Hp Try.prog false (pickS t32 (.bool true) t35) (fun t36 h_16 => 
 Join1 (fun k_6 h_17 => guardP t36 false (k_6 l2 h_17) (k_6 undef h_17) ⟨⟩ ⟨⟩) (fun t38 h_18 => 
 Join1 (fun k_7 h_19 => guardP t36 false (Hp Try.prog false (Builtin.len_ #[22] 3 #[t38]) k_7 h_19 ⟨⟩) (k_7 undef h_19) ⟨⟩ ⟨⟩) (fun t39 h_20 => 
 Join1 (fun k_8 h_21 => guardP t36 false (Hp Try.prog false (binS .gtr 3 (.tmp 39) (.const (.int .i64 12)) t39 (.int .i64 12)) k_8 h_21 ⟨⟩) (k_8 undef h_21) ⟨⟩ ⟨⟩) (fun t40 h_22 => 
 Hp Try.prog false (pickS t36 (.bool true) t40) (fun t41 h_23 => 
 CondP t41 (
 CallsH Try.prog 6 #[] h_23 (fun t42 h_24 => 
 R t42 h_24) ⟨⟩) (
 CallsH Try.prog 7 #[] h_23 (fun t43 h_25 => 
 Hp Try.prog false (binS .eql 24 (.tmp 44) (.const (.pointer none)) t43 (.pointer none)) (fun t45 h_26 => 
 Join1 (fun k_9 h_27 => guardP t45 false (k_9 t43 h_27) (k_9 undef h_27) ⟨⟩ ⟨⟩) (fun t47 h_28 => 
 Join1 (fun k_10 h_29 => guardP t45 false (k_10 other1 h_29) (k_10 undef h_29) ⟨⟩ ⟨⟩) (fun t48 h_30 => 
 Join1 (fun k_11 h_31 => guardP t45 false (CallsH Try.prog 9 #[t47, (str [97]), (.int .i64 10240), t48, (str [])] h_31 k_11 ⟨⟩) (k_11 undef h_31) ⟨⟩ ⟨⟩) (fun t49 h_32 => 
 Join1 (fun k_12 h_33 => guardP t45 false (CallsH Try.prog 8 #[t49] h_33 k_12 ⟨⟩) (k_12 undef h_33) ⟨⟩ ⟨⟩) (fun t50 h_34 => 
 Join1 (fun k_13 h_35 => guardP t45 false (Hp Try.prog false (binS .neq 3 (.tmp 50) (.const (.int .i64 0)) t50 (.int .i64 0)) k_13 h_35 ⟨⟩) (k_13 undef h_35) ⟨⟩ ⟨⟩) (fun t51 h_36 => 
 Hp Try.prog false (pickS t45 (.bool true) t51) (fun t52 h_37 => 
 Join1 (fun k_14 h_38 => guardP t52 false (k_14 t43 h_38) (k_14 undef h_38) ⟨⟩ ⟨⟩) (fun t54 h_39 => 
 Join1 (fun k_15 h_40 => guardP t52 false (CallsH Try.prog 12 #[(.int .i64 4096), (.int .u8 5)] h_40 k_15 ⟨⟩) (k_15 undef h_40) ⟨⟩ ⟨⟩) (fun t55 h_41 => 
 Join1 (fun k_16 h_42 => guardP t52 false (CallsH Try.prog 10 #[t54, (str [97]), (.int .i64 2), t55] h_42 k_16 ⟨⟩) (k_16 undef h_42) ⟨⟩ ⟨⟩) (fun t56 h_43 => 
 Join1 (fun k_17 h_44 => guardP t52 false (CallsH Try.prog 8 #[t56] h_44 k_17 ⟨⟩) (k_17 undef h_44) ⟨⟩ ⟨⟩) (fun t57 h_45 => 
 Join1 (fun k_18 h_46 => guardP t52 false (Hp Try.prog false (binS .neq 3 (.tmp 57) (.const (.int .i64 0)) t57 (.int .i64 0)) k_18 h_46 ⟨⟩) (k_18 undef h_46) ⟨⟩ ⟨⟩) (fun t58 h_47 => 
 Hp Try.prog false (pickS t52 (.bool true) t58) (fun t59 h_48 => 
 Join1 (fun k_19 h_49 => guardP t59 false (k_19 t43 h_49) (k_19 undef h_49) ⟨⟩ ⟨⟩) (fun t61 h_50 => 
 Join1 (fun k_20 h_51 => guardP t59 false (k_20 bits0 h_51) (k_20 undef h_51) ⟨⟩ ⟨⟩) (fun t62 h_52 => 
 Join1 (fun k_21 h_53 => guardP t59 false (CallsH Try.prog 9 #[t61, (str [98]), (.int .i64 12288), t62, (str [97])] h_53 k_21 ⟨⟩) (k_21 undef h_53) ⟨⟩ ⟨⟩) (fun t63 h_54 => 
 Join1 (fun k_22 h_55 => guardP t59 false (CallsH Try.prog 8 #[t63] h_55 k_22 ⟨⟩) (k_22 undef h_55) ⟨⟩ ⟨⟩) (fun t64 h_56 => 
 Join1 (fun k_23 h_57 => guardP t59 false (Hp Try.prog false (binS .neq 3 (.tmp 64) (.const (.int .i64 0)) t64 (.int .i64 0)) k_23 h_57 ⟨⟩) (k_23 undef h_57) ⟨⟩ ⟨⟩) (fun t65 h_58 => 
 Hp Try.prog false (pickS t59 (.bool true) t65) (fun t66 h_59 => 
 CondP t66 (
 R (.bool false) h_59) (
 Hp Try.prog false (Instr.makeSlice 37 (.int .i64 24) (.int .i64 24)) (fun t67 h_60 => 
 LoopC 1 (fun (X : Value → Heap → Prop) => fun i9 h_61 =>
 Hp Try.prog false (Builtin.len_ #[22] 3 #[l2]) (fun t70 h_62 => 
 Hp Try.prog false (binS .lss 3 (.tmp 68) (.tmp 70) i9 t70) (fun t71 h_63 => 
 CondP t71 (
 JoinN 0 (fun (k_24 : Heap → Prop) h_64 =>
 JoinN 0 (fun (k_25 : Heap → Prop) h_65 =>
 Hp Try.prog false (Instr.indexAt 22 l2 i9) (fun t76 h_66 => 
 Hp Try.prog false (Instr.fieldAt 31 t76 7) (fun t77 h_67 => 
 Hp Try.prog false (Instr.loadAt 29 t77) (fun t78 h_68 => 
 Hp Try.prog false (Builtin.len_ #[29] 3 #[t78]) (fun t79 h_69 => 
 Hp Try.prog false (binS .gtr 3 (.tmp 79) (.const (.int .i64 3072)) t79 (.int .i64 3072)) (fun t80 h_70 => 
 CondP t80 (
 CallsH Try.prog 6 #[] h_70 (fun t81 h_71 => 
 R t81 h_71) ⟨⟩) (
 Hp Try.prog true (Instr.indexAt 22 l2 i9) (fun t85 _ => 
 Hp Try.prog true (Instr.fieldAt 31 t85 5) (fun t86 _ => 
 Hp Try.prog true (Instr.loadAt 2 t86) (fun t87 _ => 
 Hp Try.prog true (Instr.indexAt 22 l2 i9) (fun t90 _ => 
 Hp Try.prog true (Instr.fieldAt 31 t90 7) (fun t91 _ => 
 Hp Try.prog true (Instr.loadAt 29 t91) (fun t92 _ => 
 CallsH Try.prog 10 #[t43, (str [98]), t87, t92] h_70 (fun t93 h_72 => 
 CallsH Try.prog 8 #[t93] h_72 (fun t94 h_73 => 
 Hp Try.prog true (binS .eql 3 (.tmp 94) (.const (.int .i64 0)) t94 (.int .i64 0)) (fun t95 _ => 
 CondP t95 (
 Hp Try.prog false (Instr.indexAt 22 l2 i9) (fun t98 h_74 => 
 Hp Try.prog false (Instr.fieldAt 31 t98 5) (fun t99 h_75 => 
 Hp Try.prog false (Instr.loadAt 2 t99) (fun t100 h_76 => 
 LoopC 1 (fun (X_1 : Value → Heap → Prop) => fun k10 h_77 =>
 Hp Try.prog true (Instr.indexAt 22 l2 i9) (fun t104 _ => 
 Hp Try.prog true (Instr.fieldAt 31 t104 5) (fun t105 _ => 
 Hp Try.prog true (Instr.loadAt 2 t105) (fun t106 _ => 
 Hp Try.prog true (Instr.indexAt 22 l2 i9) (fun t109 _ => 
 Hp Try.prog true (Instr.fieldAt 31 t109 7) (fun t110 _ => 
 Hp Try.prog true (Instr.loadAt 29 t110) (fun t111 _ => 
 Hp Try.prog true (Builtin.len_ #[29] 3 #[t111]) (fun t112 _ => 
 Hp Try.prog true (binS .quo 3 (.tmp 112) (.const (.int .i64 512)) t112 (.int .i64 512)) (fun t113 _ => 
 Hp Try.prog true (binS .add 2 (.tmp 106) (.tmp 113) t106 t113) (fun t114 _ => 
 Hp Try.prog true (binS .lss 2 (.tmp 101) (.tmp 114) k10 t114) (fun t115 _ => 
 CondP t115 (
 Hp Try.prog false (Instr.indexAt 37 t67 k10) (fun t120 h_78 => 
 Hp Try.prog false (storeS 4 t120 (.bool true)) (fun _ h_79 => 
 Hp Try.prog false (binS .add 2 (.tmp 116) (.const (.int .i64 1)) k10 (.int .i64 1)) (fun t117 h_80 => 
 X_1 t117 h_80) h_79 ⟨⟩) h_78 ⟨⟩) h_77 ⟨⟩) (
 k_25 h_77) ⟨⟩ ⟨⟩) #[] ⟨⟩) #[] ⟨⟩) #[] ⟨⟩) #[] ⟨⟩) h_77 ⟨⟩) #[] ⟨⟩) #[] ⟨⟩) h_77 ⟨⟩) #[] ⟨⟩) #[] ⟨⟩) [t100] h_76 ⟨⟩) h_75 ⟨⟩) h_74 ⟨⟩) h_73 ⟨⟩) (
 k_25 h_73) ⟨⟩ ⟨⟩) #[] ⟨⟩) ⟨⟩) ⟨⟩) h_70 ⟨⟩) #[] ⟨⟩) #[] ⟨⟩) h_70 ⟨⟩) #[] ⟨⟩) #[] ⟨⟩) ⟨⟩ ⟨⟩) h_69 ⟨⟩) h_68 ⟨⟩) h_67 ⟨⟩) h_66 ⟨⟩) h_65 ⟨⟩)
 (fun h_81 =>
 k_24 h_81) h_64 ⟨⟩ ⟨⟩)
 (fun h_82 =>
 Hp Try.prog false (binS .add 3 (.tmp 72) (.const (.int .i64 1)) i9 (.int .i64 1)) (fun t73 h_83 => 
 X t73 h_83) h_82 ⟨⟩) h_63 ⟨⟩ ⟨⟩) (
 CallsH Try.prog 13 #[t43, (str [98])] h_63 (fun t123 h_84 => 
 Hp Try.prog false (Instr.extract t123 0) (fun t124 h_85 => 
 Hp Try.prog false (Instr.extract t123 1) (fun t125 h_86 => 
 Hp Try.prog false (Instr.alloc 41 true undef) (fun x11 h_87 => 
 Hp Try.prog false (storeS 41 x11 t124) (fun _ h_88 => 
 CallsH Try.prog 8 #[t125] h_88 (fun t127 h_89 => 
 Hp Try.prog false (binS .neq 3 (.tmp 127) (.const (.int .i64 0)) t127 (.int .i64 0)) (fun t128 h_90 => 
 Join1 (fun k_26 h_91 => guardP t128 false (Hp Try.prog false (Instr.fieldAt 41 x11 1) k_26 h_91 ⟨⟩) (k_26 undef h_91) ⟨⟩ ⟨⟩) (fun t130 h_92 => 
 Join1 (fun k_27 h_93 => guardP t128 false (Hp Try.prog false (Instr.loadAt 9 t130) k_27 h_93 ⟨⟩) (k_27 undef h_93) ⟨⟩ ⟨⟩) (fun t131 h_94 => 
 Join1 (fun k_28 h_95 => guardP t128 false (Hp Try.prog false (binS .neq 9 (.tmp 131) (.const (str [97])) t131 (str [97])) k_28 h_95 ⟨⟩) (k_28 undef h_95) ⟨⟩ ⟨⟩) (fun t132 h_96 => 
 Hp Try.prog false (pickS t128 (.bool true) t132) (fun t133 h_97 => 
 Join1 (fun k_29 h_98 => guardP t133 false (Hp Try.prog false (Instr.fieldAt 41 x11 3) k_29 h_98 ⟨⟩) (k_29 undef h_98) ⟨⟩ ⟨⟩) (fun t135 h_99 => 
 Join1 (fun k_30 h_100 => guardP t133 false (Hp Try.prog false (Instr.loadAt 3 t135) k_30 h_100 ⟨⟩) (k_30 undef h_100) ⟨⟩ ⟨⟩) (fun t136 h_101 => 
 Join1 (fun k_31 h_102 => guardP t133 false (k_31 bits0 h_102) (k_31 undef h_102) ⟨⟩ ⟨⟩) (fun t137 h_103 => 
 Join1 (fun k_32 h_104 => guardP t133 false (Hp Try.prog false (binS .neq 3 (.tmp 136) (.tmp 137) t136 t137) k_32 h_104 ⟨⟩) (k_32 undef h_104) ⟨⟩ ⟨⟩) (fun t138 h_105 => 
 Hp Try.prog false (pickS t133 (.bool true) t138) (fun t139 h_106 => 
 CondP t139 (
 R (.bool false) h_106) (
 LoopC 1 (fun (X_2 : Value → Heap → Prop) => fun k13 h_107 =>
 Hp Try.prog false (binS .lss 2 (.tmp 140) (.const (.int .i64 24)) k13 (.int .i64 24)) (fun t141 h_108 => 
 CondP t141 (
 Hp Try.prog false (binS .mul 2 (.tmp 144) (.const (.int .i64 512)) k13 (.int .i64 512)) (fun t145 h_109 => 
 Hp Try.prog false (binS .shr 2 (.tmp 145) (.tmp 146) t145 bits0) (fun t147 h_110 => 
 LoopC 2 (fun (X_3 : Value → Value → Heap → Prop) => fun some15 j16 h_111 =>
 Hp Try.prog false (binS .lss 2 (.tmp 148) (.const (.int .i64 24)) j16 (.int .i64 24)) (fun t149 h_112 => 
 CondP t149 (
 Join1 (fun k_33 h_113 => guardP some15 false (k_33 t67 h_113) (k_33 undef h_113) ⟨⟩ ⟨⟩) (fun t154 h_114 => 
 Join1 (fun k_34 h_115 => guardP some15 false (k_34 j16 h_115) (k_34 undef h_115) ⟨⟩ ⟨⟩) (fun t155 h_116 => 
 Join1 (fun k_35 h_117 => guardP some15 false (Hp Try.prog false (Instr.indexAt 37 t154 t155) k_35 h_117 ⟨⟩) (k_35 undef h_117) ⟨⟩ ⟨⟩) (fun t156 h_118 => 
 Join1 (fun k_36 h_119 => guardP some15 false (Hp Try.prog false (Instr.loadAt 4 t156) k_36 h_119 ⟨⟩) (k_36 undef h_119) ⟨⟩ ⟨⟩) (fun t157 h_120 => 
 Join1 (fun k_37 h_121 => guardP some15 false (k_37 t157 h_121) (k_37 undef h_121) ⟨⟩ ⟨⟩) (fun t158 h_122 => 
 Join1 (fun k_38 h_123 => guardP t158 true (k_38 j16 h_123) (k_38 undef h_123) ⟨⟩ ⟨⟩) (fun t159 h_124 => 
 Join1 (fun k_39 h_125 => guardP t158 true (Hp Try.prog false (binS .mul 2 (.tmp 159) (.const (.int .i64 512)) t159 (.int .i64 512)) k_39 h_125 ⟨⟩) (k_39 undef h_125) ⟨⟩ ⟨⟩) (fun t160 h_126 => 
 Join1 (fun k_40 h_127 => guardP t158 true (k_40 bits0 h_127) (k_40 undef h_127) ⟨⟩ ⟨⟩) (fun t161 h_128 => 
 Join1 (fun k_41 h_129 => guardP t158 true (Hp Try.prog false (binS .shr 2 (.tmp 160) (.tmp 161) t160 t161) k_41 h_129 ⟨⟩) (k_41 undef h_129) ⟨⟩ ⟨⟩) (fun t162 h_130 => 
 Join1 (fun k_42 h_131 => guardP t158 true (k_42 t147 h_131) (k_42 undef h_131) ⟨⟩ ⟨⟩) (fun t163 h_132 => 
 Join1 (fun k_43 h_133 => guardP t158 true (Hp Try.prog false (binS .eql 2 (.tmp 162) (.tmp 163) t162 t163) k_43 h_133 ⟨⟩) (k_43 undef h_133) ⟨⟩ ⟨⟩) (fun t164 h_134 => 
 Join1 (fun k_44 h_135 => guardP some15 false (Hp Try.prog false (pickS t158 t164 (.bool false)) k_44 h_135 ⟨⟩) (k_44 undef h_135) ⟨⟩ ⟨⟩) (fun t165 h_136 => 
 Hp Try.prog false (pickS some15 (.bool true) t165) (fun t166 h_137 => 
 Hp Try.prog false (binS .add 2 (.tmp 150) (.const (.int .i64 1)) j16 (.int .i64 1)) (fun t151 h_138 => 
 X_3 t166 t151 h_138) h_137 ⟨⟩) h_136 ⟨⟩) h_134 ⟨⟩ ⟨⟩) h_132 ⟨⟩ ⟨⟩) h_130 ⟨⟩ ⟨⟩) h_128 ⟨⟩ ⟨⟩) h_126 ⟨⟩ ⟨⟩) h_124 ⟨⟩ ⟨⟩) h_122 ⟨⟩ ⟨⟩) h_120 ⟨⟩ ⟨⟩) h_118 ⟨⟩ ⟨⟩) h_116 ⟨⟩ ⟨⟩) h_114 ⟨⟩ ⟨⟩) h_112 ⟨⟩ ⟨⟩) (
 CallsH Try.prog 14 #[t43, (str [98]), t147] h_112 (fun t170 h_139 => 
 Hp Try.prog false (Instr.extract t170 0) (fun t171 h_140 => 
 Hp Try.prog false (Instr.extract t170 1) (fun t172 h_141 => 
 CallsH Try.prog 15 #[t43, (str [98]), k13, (.int .i64 1)] h_141 (fun t176 h_142 => 
 Hp Try.prog false (Instr.extract t176 0) (fun t177 h_143 => 
 Hp Try.prog false (Instr.extract t176 1) (fun t178 h_144 => 
 CallsH Try.prog 8 #[t172] h_144 (fun t180 h_145 => 
 CallsH Try.prog 8 #[t178] h_145 (fun t182 h_146 => 
 Hp Try.prog false (binS .add 3 (.tmp 180) (.tmp 182) t180 t182) (fun t183 h_147 => 
 Hp Try.prog false (binS .neq 3 (.tmp 183) (.const (.int .i64 0)) t183 (.int .i64 0)) (fun t184 h_148 => 
 Join1 (fun k_45 h_149 => guardP t184 false (k_45 t171 h_149) (k_45 undef h_149) ⟨⟩ ⟨⟩) (fun t186 h_150 => 
 Join1 (fun k_46 h_151 => guardP t184 false (k_46 some15 h_151) (k_46 undef h_151) ⟨⟩ ⟨⟩) (fun t187 h_152 => 
 Join1 (fun k_47 h_153 => guardP t184 false (Hp Try.prog false (binS .neq 4 (.tmp 186) (.tmp 187) t186 t187) k_47 h_153 ⟨⟩) (k_47 undef h_153) ⟨⟩ ⟨⟩) (fun t188 h_154 => 
 Hp Try.prog false (pickS t184 (.bool true) t188) (fun t189 h_155 => 
 Join1 (fun k_48 h_156 => guardP t189 false (k_48 t67 h_156) (k_48 undef h_156) ⟨⟩ ⟨⟩) (fun t191 h_157 => 
 Join1 (fun k_49 h_158 => guardP t189 false (k_49 k13 h_158) (k_49 undef h_158) ⟨⟩ ⟨⟩) (fun t192 h_159 => 
 Join1 (fun k_50 h_160 => guardP t189 false (Hp Try.prog false (Instr.indexAt 37 t191 t192) k_50 h_160 ⟨⟩) (k_50 undef h_160) ⟨⟩ ⟨⟩) (fun t193 h_161 => 
 Join1 (fun k_51 h_162 => guardP t189 false (Hp Try.prog false (Instr.loadAt 4 t193) k_51 h_162 ⟨⟩) (k_51 undef h_162) ⟨⟩ ⟨⟩) (fun t194 h_163 => 
 Join1 (fun k_52 h_164 => guardP t189 false (Hp Try.prog false (Op.unary .not t194) k_52 h_164 ⟨⟩) (k_52 undef h_164) ⟨⟩ ⟨⟩) (fun t195 h_165 => 
 Join1 (fun k_53 h_166 => guardP t189 false (k_53 t195 h_166) (k_53 undef h_166) ⟨⟩ ⟨⟩) (fun t196 h_167 => 
 Join1 (fun k_54 h_168 => guardP t196 true (k_54 t177 h_168) (k_54 undef h_168) ⟨⟩ ⟨⟩) (fun t197 h_169 => 
 Join1 (fun k_55 h_170 => guardP t196 true (Hp Try.prog false (Instr.indexAt 29 t197 (.int .i64 0)) k_55 h_170 ⟨⟩) (k_55 undef h_170) ⟨⟩ ⟨⟩) (fun t198 h_171 => 
 Join1 (fun k_56 h_172 => guardP t196 true (Hp Try.prog false (Instr.loadAt 5 t198) k_56 h_172 ⟨⟩) (k_56 undef h_172) ⟨⟩ ⟨⟩) (fun t199 h_173 => 
 Join1 (fun k_57 h_174 => guardP t196 true (Hp Try.prog false (binS .eql 5 (.tmp 199) (.const (.int .u8 5)) t199 (.int .u8 5)) k_57 h_174 ⟨⟩) (k_57 undef h_174) ⟨⟩ ⟨⟩) (fun t200 h_175 => 
 Join1 (fun k_58 h_176 => guardP t196 true (k_58 k13 h_176) (k_58 undef h_176) ⟨⟩ ⟨⟩) (fun t201 h_177 => 
 Join1 (fun k_59 h_178 => guardP t196 true (Hp Try.prog false (binS .geq 2 (.tmp 201) (.const (.int .i64 2)) t201 (.int .i64 2)) k_59 h_178 ⟨⟩) (k_59 undef h_178) ⟨⟩ ⟨⟩) (fun t202 h_179 => 
 Join1 (fun k_60 h_180 => guardP t196 true (k_60 t202 h_180) (k_60 undef h_180) ⟨⟩ ⟨⟩) (fun t203 h_181 => 
 Join1 (fun k_61 h_182 => guardP t203 true (k_61 k13 h_182) (k_61 undef h_182) ⟨⟩ ⟨⟩) (fun t204 h_183 => 
 Join1 (fun k_62 h_184 => guardP t203 true (Hp Try.prog false (binS .lss 2 (.tmp 204) (.const (.int .i64 10)) t204 (.int .i64 10)) k_62 h_184 ⟨⟩) (k_62 undef h_184) ⟨⟩ ⟨⟩) (fun t205 h_185 => 
 Join1 (fun k_63 h_186 => guardP t196 true (Hp Try.prog false (pickS t203 t205 (.bool false)) k_63 h_186 ⟨⟩) (k_63 undef h_186) ⟨⟩ ⟨⟩) (fun t206 h_187 => 
 Join1 (fun k_64 h_188 => guardP t196 true (Hp Try.prog false (binS .neq 4 (.tmp 200) (.tmp 206) t200 t206) k_64 h_188 ⟨⟩) (k_64 undef h_188) ⟨⟩ ⟨⟩) (fun t207 h_189 => 
 Join1 (fun k_65 h_190 => guardP t189 false (Hp Try.prog false (pickS t196 t207 (.bool false)) k_65 h_190 ⟨⟩) (k_65 undef h_190) ⟨⟩ ⟨⟩) (fun t208 h_191 => 
 Hp Try.prog false (pickS t189 (.bool true) t208) (fun t209 h_192 => 
 CondP t209 (
 R (.bool false) h_192) (
 Hp Try.prog false (binS .add 2 (.tmp 142) (.const (.int .i64 1)) k13 (.int .i64 1)) (fun t143 h_193 => 
 X_2 t143 h_193) h_192 ⟨⟩) ⟨⟩ ⟨⟩) h_191 ⟨⟩) h_189 ⟨⟩ ⟨⟩) h_187 ⟨⟩ ⟨⟩) h_185 ⟨⟩ ⟨⟩) h_183 ⟨⟩ ⟨⟩) h_181 ⟨⟩ ⟨⟩) h_179 ⟨⟩ ⟨⟩) h_177 ⟨⟩ ⟨⟩) h_175 ⟨⟩ ⟨⟩) h_173 ⟨⟩ ⟨⟩) h_171 ⟨⟩ ⟨⟩) h_169 ⟨⟩ ⟨⟩) h_167 ⟨⟩ ⟨⟩) h_165 ⟨⟩ ⟨⟩) h_163 ⟨⟩ ⟨⟩) h_161 ⟨⟩ ⟨⟩) h_159 ⟨⟩ ⟨⟩) h_157 ⟨⟩ ⟨⟩) h_155 ⟨⟩ ⟨⟩) h_154 ⟨⟩) h_152 ⟨⟩ ⟨⟩) h_150 ⟨⟩ ⟨⟩) h_148 ⟨⟩ ⟨⟩) h_147 ⟨⟩) h_146 ⟨⟩) ⟨⟩) ⟨⟩) h_143 ⟨⟩) h_142 ⟨⟩) ⟨⟩) h_140 ⟨⟩) h_139 ⟨⟩) ⟨⟩) ⟨⟩ ⟨⟩) h_111 ⟨⟩) [(.bool false), (.int .i64 0)] h_110 ⟨⟩) h_109 ⟨⟩) h_108 ⟨⟩) (
 Hp Try.prog false (binS .shl 2 (.const (.int .i64 1)) (.tmp 212) (.int .i64 1) bits0) (fun t213 h_194 => 
 Hp Try.prog false (binS .add 2 (.const (.int .i64 12288)) (.tmp 213) (.int .i64 12288) t213) (fun t214 h_195 => 
 Hp Try.prog false (binS .sub 2 (.tmp 214) (.const (.int .i64 1)) t214 (.int .i64 1)) (fun t215 h_196 => 
 Hp Try.prog false (binS .shr 2 (.tmp 215) (.tmp 216) t215 bits0) (fun t217 h_197 => 
 CallsH Try.prog 14 #[t43, (str [98]), t217] h_197 (fun t218 h_198 => 
 Hp Try.prog false (Instr.extract t218 0) (fun t219 h_199 => 
 Hp Try.prog false (Instr.extract t218 1) (fun t220 h_200 => 
 CallsH Try.prog 8 #[t220] h_200 (fun t222 h_201 => 
 Hp Try.prog false (binS .eql 3 (.tmp 222) (.const (.int .i64 4)) t222 (.int .i64 4)) (fun t223 h_202 => 
 Join1 (fun k_66 h_203 => guardP t223 true (CallsH Try.prog 6 #[] h_203 k_66 ⟨⟩) (k_66 undef h_203) ⟨⟩ ⟨⟩) (fun t225 h_204 => 
 Hp Try.prog false (pickS t223 t225 (.bool false)) (fun t226 h_205 => 
 R t226 h_205) h_204 ⟨⟩) h_202 ⟨⟩ ⟨⟩) h_201 ⟨⟩) ⟨⟩) h_199 ⟨⟩) h_198 ⟨⟩) ⟨⟩) h_196 ⟨⟩) h_195 ⟨⟩) h_194 ⟨⟩) h_108 ⟨⟩) ⟨⟩ ⟨⟩) h_107 ⟨⟩) [(.int .i64 0)] h_106 ⟨⟩) ⟨⟩ ⟨⟩) h_105 ⟨⟩) h_103 ⟨⟩ ⟨⟩) h_101 ⟨⟩ ⟨⟩) h_99 ⟨⟩ ⟨⟩) h_97 ⟨⟩ ⟨⟩) h_96 ⟨⟩) h_94 ⟨⟩ ⟨⟩) h_92 ⟨⟩ ⟨⟩) h_90 ⟨⟩ ⟨⟩) h_89 ⟨⟩) ⟨⟩) h_87 ⟨⟩) h_86 ⟨⟩) h_85 ⟨⟩) h_84 ⟨⟩) ⟨⟩) ⟨⟩ ⟨⟩) h_62 ⟨⟩) h_61 ⟨⟩) [(.int .i64 0)] h_60 ⟨⟩) h_59 ⟨⟩) ⟨⟩ ⟨⟩) h_58 ⟨⟩) h_56 ⟨⟩ ⟨⟩) h_54 ⟨⟩ ⟨⟩) h_52 ⟨⟩ ⟨⟩) h_50 ⟨⟩ ⟨⟩) h_48 ⟨⟩ ⟨⟩) h_47 ⟨⟩) h_45 ⟨⟩ ⟨⟩) h_43 ⟨⟩ ⟨⟩) h_41 ⟨⟩ ⟨⟩) h_39 ⟨⟩ ⟨⟩) h_37 ⟨⟩ ⟨⟩) h_36 ⟨⟩) h_34 ⟨⟩ ⟨⟩) h_32 ⟨⟩ ⟨⟩) h_30 ⟨⟩ ⟨⟩) h_28 ⟨⟩ ⟨⟩) h_26 ⟨⟩ ⟨⟩) h_25 ⟨⟩) ⟨⟩) ⟨⟩ ⟨⟩) h_22 ⟨⟩) h_20 ⟨⟩ ⟨⟩) h_18 ⟨⟩ ⟨⟩) h_16 ⟨⟩ ⟨⟩) h_15 ⟨⟩) h_13 ⟨⟩ ⟨⟩) h_11 ⟨⟩ ⟨⟩) h_10 ⟨⟩) h_8 ⟨⟩ ⟨⟩) h_6 ⟨⟩ ⟨⟩) h_5 ⟨⟩) h_3 ⟨⟩ ⟨⟩) h_1 ⟨⟩ ⟨⟩) h ⟨⟩

theorem n4_calls {bits0 other1 l2 : Value} {R : Value → Heap → Prop} {h : Heap} (H : n4 bits0 other1 l2 R h) : CallsH Try.prog 4 #[bits0, other1, l2] h R ⟨⟩ :=
 callsH_of_eq Try.follow (.n none .l (.n none .l (.n none .l (.n none .l (.n none .l (.n none (.n none .l (.n none (.n (some [10]) (.n none .l (.n (some []) (.n (some []) (.n none .l (.n none .l (.n none (.n none .l (.n none (.n (some [11]) .l .l) .l)) .l))) .l) .l)) .l) .l)) (.n none .l (.n none .l (.n none (.n none .l (.n none (.n (some [14]) (.n none .l (.n none (.n none (.n none .l (.n none .l (.n none (.n none .l (.n none (.n (some [16, 17]) .l .l) .l)) .l))) .l) .l)) .l) .l)) .l))))))))) Try.func4 (by kernel_rfl) (by kernel_rfl) (by kernel_rfl) H

/-- palimpsest/palimpsestlaw25.ModelDeep -/
def n5 (R : Value → Heap → Prop) (h : Heap) : Prop :=
 CallsH Try.prog 7 #[] h (fun t11 h_1 => 
 Hp Try.prog false (binS .eql 24 (.tmp 12) (.const (.pointer none)) t11 (.pointer none)) (fun t13 h_2 => 
 Join1 (fun k h_3 => guardP t13 false (k t11 h_3) (k undef h_3) ⟨⟩ ⟨⟩) (fun t15 h_4 => 
 Join1 (fun k_1 h_5 => guardP t13 false (CallsH Try.prog 9 #[t15, (str [97]), (.int .i64 512), (.int .i64 9), (str [])] h_5 k_1 ⟨⟩) (k_1 undef h_5) ⟨⟩ ⟨⟩) (fun t16 h_6 => 
 Join1 (fun k_2 h_7 => guardP t13 false (CallsH Try.prog 8 #[t16] h_7 k_2 ⟨⟩) (k_2 undef h_7) ⟨⟩ ⟨⟩) (fun t17 h_8 => 
 Join1 (fun k_3 h_9 => guardP t13 false (Hp Try.prog false (binS .neq 3 (.tmp 17) (.const (.int .i64 0)) t17 (.int .i64 0)) k_3 h_9 ⟨⟩) (k_3 undef h_9) ⟨⟩ ⟨⟩) (fun t18 h_10 => 
 Hp Try.prog false (pickS t13 (.bool true) t18) (fun t19 h_11 => 
 CondP t19 (
 R (.bool false) h_11) (
 LoopC 2 (fun (X : Value → Value → Heap → Prop) => fun name2 i3 h_12 =>
 Hp Try.prog false (binS .lss 3 (.tmp 20) (.const (.int .i64 8)) i3 (.int .i64 8)) (fun t21 h_13 => 
 CondP t21 (
 Hp Try.prog false (binS .add 9 (.tmp 24) (.const (str [97])) name2 (str [97])) (fun t25 h_14 => 
 CallsH Try.prog 9 #[t11, t25, (.int .i64 512), (.int .i64 9), name2] h_14 (fun t29 h_15 => 
 CallsH Try.prog 8 #[t29] h_15 (fun t30 h_16 => 
 Hp Try.prog false (binS .neq 3 (.tmp 30) (.const (.int .i64 0)) t30 (.int .i64 0)) (fun t31 h_17 => 
 CondP t31 (
 R (.bool false) h_17) (
 Hp Try.prog false (binS .add 3 (.tmp 22) (.const (.int .i64 1)) i3 (.int .i64 1)) (fun t23 h_18 => 
 X t25 t23 h_18) h_17 ⟨⟩) ⟨⟩ ⟨⟩) h_16 ⟨⟩) ⟨⟩) ⟨⟩) h_13 ⟨⟩) (
 CallsH Try.prog 9 #[t11, (str [98]), (.int .i64 512), (.int .i64 9), name2] h_13 (fun t35 h_19 => 
 CallsH Try.prog 8 #[t35] h_19 (fun t36 h_20 => 
 CallsH Try.prog 9 #[t11, (str [99]), (.int .i64 512), (.int .i64 9), (str [])] h_20 (fun t38 h_21 => 
 CallsH Try.prog 8 #[t38] h_21 (fun t39 h_22 => 
 CallsH Try.prog 16 #[t11, (str [99]), name2, (.bool true)] h_22 (fun t42 h_23 => 
 CallsH Try.prog 8 #[t42] h_23 (fun t43 h_24 => 
 CallsH Try.prog 16 #[t11, (str [97]), name2, (.bool true)] h_24 (fun t46 h_25 => 
 CallsH Try.prog 8 #[t46] h_25 (fun t47 h_26 => 
 CallsH Try.prog 16 #[t11, name2, name2, (.bool true)] h_26 (fun t51 h_27 => 
 CallsH Try.prog 8 #[t51] h_27 (fun t52 h_28 => 
 CallsH Try.prog 16 #[t11, (str [99]), (str [99]), (.bool false)] h_28 (fun t54 h_29 => 
 CallsH Try.prog 8 #[t54] h_29 (fun t55 h_30 => 
 Hp Try.prog false (binS .eql 3 (.tmp 56) (.const (.int .i64 350)) t36 (.int .i64 350)) (fun t57 h_31 => 
 Join1 (fun k_4 h_32 => guardP t57 true (k_4 t39 h_32) (k_4 undef h_32) ⟨⟩ ⟨⟩) (fun t59 h_33 => 
 Join1 (fun k_5 h_34 => guardP t57 true (Hp Try.prog false (binS .eql 3 (.tmp 59) (.const (.int .i64 0)) t59 (.int .i64 0)) k_5 h_34 ⟨⟩) (k_5 undef h_34) ⟨⟩ ⟨⟩) (fun t60 h_35 => 
 Hp Try.prog false (pickS t57 t60 (.bool false)) (fun t61 h_36 => 
 Join1 (fun k_6 h_37 => guardP t61 true (k_6 t43 h_37) (k_6 undef h_37) ⟨⟩ ⟨⟩) (fun t63 h_38 => 
 Join1 (fun k_7 h_39 => guardP t61 true (Hp Try.prog false (binS .eql 3 (.tmp 63) (.const (.int .i64 350)) t63 (.int .i64 350)) k_7 h_39 ⟨⟩) (k_7 undef h_39) ⟨⟩ ⟨⟩) (fun t64 h_40 => 
 Hp Try.prog false (pickS t61 t64 (.bool false)) (fun t65 h_41 => 
 Join1 (fun k_8 h_42 => guardP t65 true (k_8 t47 h_42) (k_8 undef h_42) ⟨⟩ ⟨⟩) (fun t67 h_43 => 
 Join1 (fun k_9 h_44 => guardP t65 true (Hp Try.prog false (binS .eql 3 (.tmp 67) (.const (.int .i64 10)) t67 (.int .i64 10)) k_9 h_44 ⟨⟩) (k_9 undef h_44) ⟨⟩ ⟨⟩) (fun t68 h_45 => 
 Hp Try.prog false (pickS t65 t68 (.bool false)) (fun t69 h_46 => 
 Join1 (fun k_10 h_47 => guardP t69 true (k_10 t52 h_47) (k_10 undef h_47) ⟨⟩ ⟨⟩) (fun t71 h_48 => 
 Join1 (fun k_11 h_49 => guardP t69 true (Hp Try.prog false (binS .eql 3 (.tmp 71) (.const (.int .i64 350)) t71 (.int .i64 350)) k_11 h_49 ⟨⟩) (k_11 undef h_49) ⟨⟩ ⟨⟩) (fun t72 h_50 => 
 Hp Try.prog false (pickS t69 t72 (.bool false)) (fun t73 h_51 => 
 Join1 (fun k_12 h_52 => guardP t73 true (k_12 t55 h_52) (k_12 undef h_52) ⟨⟩ ⟨⟩) (fun t75 h_53 => 
 Join1 (fun k_13 h_54 => guardP t73 true (Hp Try.prog false (binS .eql 3 (.tmp 75) (.const (.int .i64 350)) t75 (.int .i64 350)) k_13 h_54 ⟨⟩) (k_13 undef h_54) ⟨⟩ ⟨⟩) (fun t76 h_55 => 
 Hp Try.prog false (pickS t73 t76 (.bool false)) (fun t77 h_56 => 
 Join1 (fun k_14 h_57 => guardP t77 true (CallsH Try.prog 6 #[] h_57 k_14 ⟨⟩) (k_14 undef h_57) ⟨⟩ ⟨⟩) (fun t79 h_58 => 
 Hp Try.prog false (pickS t77 t79 (.bool false)) (fun t80 h_59 => 
 R t80 h_59) h_58 ⟨⟩) h_56 ⟨⟩ ⟨⟩) h_55 ⟨⟩) h_53 ⟨⟩ ⟨⟩) h_51 ⟨⟩ ⟨⟩) h_50 ⟨⟩) h_48 ⟨⟩ ⟨⟩) h_46 ⟨⟩ ⟨⟩) h_45 ⟨⟩) h_43 ⟨⟩ ⟨⟩) h_41 ⟨⟩ ⟨⟩) h_40 ⟨⟩) h_38 ⟨⟩ ⟨⟩) h_36 ⟨⟩ ⟨⟩) h_35 ⟨⟩) h_33 ⟨⟩ ⟨⟩) h_31 ⟨⟩ ⟨⟩) h_30 ⟨⟩) ⟨⟩) ⟨⟩) ⟨⟩) ⟨⟩) ⟨⟩) ⟨⟩) ⟨⟩) ⟨⟩) ⟨⟩) ⟨⟩) ⟨⟩) ⟨⟩) ⟨⟩ ⟨⟩) h_12 ⟨⟩) [(str [97]), (.int .i64 1)] h_11 ⟨⟩) ⟨⟩ ⟨⟩) h_10 ⟨⟩) h_8 ⟨⟩ ⟨⟩) h_6 ⟨⟩ ⟨⟩) h_4 ⟨⟩ ⟨⟩) h_2 ⟨⟩ ⟨⟩) h_1 ⟨⟩) ⟨⟩

theorem n5_calls {R : Value → Heap → Prop} {h : Heap} (H : n5  R h) : CallsH Try.prog 5 #[] h R ⟨⟩ :=
 callsH_of_eq Try.follow (.n none .l (.n none .l (.n none .l (.n none .l (.n none (.n none .l (.n none (.n (some [3, 4]) .l .l) .l)) .l))))) Try.func5 (by kernel_rfl) (by kernel_rfl) (by kernel_rfl) H

/-- palimpsest/palimpsestlaw25.works -/
def n6 (R : Value → Heap → Prop) (h : Heap) : Prop :=
 CallsH Try.prog 7 #[] h (fun t8 h_1 => 
 Hp Try.prog false (binS .eql 24 (.tmp 9) (.const (.pointer none)) t8 (.pointer none)) (fun t10 h_2 => 
 Join1 (fun k h_3 => guardP t10 false (k t8 h_3) (k undef h_3) ⟨⟩ ⟨⟩) (fun t12 h_4 => 
 Join1 (fun k_1 h_5 => guardP t10 false (CallsH Try.prog 17 #[t12] h_5 k_1 ⟨⟩) (k_1 undef h_5) ⟨⟩ ⟨⟩) (fun t13 h_6 => 
 Join1 (fun k_2 h_7 => guardP t10 false (Hp Try.prog false (binS .eql 51 (.tmp 13) (.const .nilFunc) t13 .nilFunc) k_2 h_7 ⟨⟩) (k_2 undef h_7) ⟨⟩ ⟨⟩) (fun t14 h_8 => 
 Hp Try.prog false (pickS t10 (.bool true) t14) (fun t15 h_9 => 
 CondP t15 (
 R (.bool false) h_9) (
 Hp Try.prog false (Instr.makeSlice 29 (.int .i64 512) (.int .i64 512)) (fun t16 h_10 => 
 Hp Try.prog false (Instr.indexAt 29 t16 (.int .i64 7)) (fun t18 h_11 => 
 Hp Try.prog false (storeS 5 t18 (.int .u8 9)) (fun _ h_12 => 
 CallsH Try.prog 9 #[t8, (str [97]), (.int .i64 1536), (.int .i64 9), (str [])] h_12 (fun t20 h_13 => 
 CallsH Try.prog 10 #[t8, (str [97]), (.int .i64 1), t16] h_13 (fun t23 h_14 => 
 CallsH Try.prog 9 #[t8, (str [98]), (.int .i64 2048), (.int .i64 10), (str [97])] h_14 (fun t25 h_15 => 
 CallsH Try.prog 15 #[t8, (str [98]), (.int .i64 0), (.int .i64 4)] h_15 (fun t28 h_16 => 
 Hp Try.prog false (Instr.extract t28 0) (fun t29 h_17 => 
 Hp Try.prog false (Instr.extract t28 1) (fun t30 h_18 => 
 CallsH Try.prog 8 #[t20] h_18 (fun t32 h_19 => 
 CallsH Try.prog 8 #[t23] h_19 (fun t34 h_20 => 
 Hp Try.prog false (binS .add 3 (.tmp 32) (.tmp 34) t32 t34) (fun t35 h_21 => 
 CallsH Try.prog 8 #[t25] h_21 (fun t37 h_22 => 
 Hp Try.prog false (binS .add 3 (.tmp 35) (.tmp 37) t35 t37) (fun t38 h_23 => 
 CallsH Try.prog 8 #[t30] h_23 (fun t40 h_24 => 
 Hp Try.prog false (binS .add 3 (.tmp 38) (.tmp 40) t38 t40) (fun t41 h_25 => 
 Hp Try.prog false (binS .eql 3 (.tmp 41) (.const (.int .i64 0)) t41 (.int .i64 0)) (fun t42 h_26 => 
 Join1 (fun k_3 h_27 => guardP t42 true (k_3 t29 h_27) (k_3 undef h_27) ⟨⟩ ⟨⟩) (fun t44 h_28 => 
 Join1 (fun k_4 h_29 => guardP t42 true (Hp Try.prog false (Builtin.len_ #[29] 3 #[t44]) k_4 h_29 ⟨⟩) (k_4 undef h_29) ⟨⟩ ⟨⟩) (fun t45 h_30 => 
 Join1 (fun k_5 h_31 => guardP t42 true (Hp Try.prog false (binS .eql 3 (.tmp 45) (.const (.int .i64 2048)) t45 (.int .i64 2048)) k_5 h_31 ⟨⟩) (k_5 undef h_31) ⟨⟩ ⟨⟩) (fun t46 h_32 => 
 Hp Try.prog false (pickS t42 t46 (.bool false)) (fun t47 h_33 => 
 Join1 (fun k_6 h_34 => guardP t47 true (k_6 t29 h_34) (k_6 undef h_34) ⟨⟩ ⟨⟩) (fun t49 h_35 => 
 Join1 (fun k_7 h_36 => guardP t47 true (Hp Try.prog false (Instr.indexAt 29 t49 (.int .i64 519)) k_7 h_36 ⟨⟩) (k_7 undef h_36) ⟨⟩ ⟨⟩) (fun t50 h_37 => 
 Join1 (fun k_8 h_38 => guardP t47 true (Hp Try.prog false (Instr.loadAt 5 t50) k_8 h_38 ⟨⟩) (k_8 undef h_38) ⟨⟩ ⟨⟩) (fun t51 h_39 => 
 Join1 (fun k_9 h_40 => guardP t47 true (Hp Try.prog false (binS .eql 5 (.tmp 51) (.const (.int .u8 9)) t51 (.int .u8 9)) k_9 h_40 ⟨⟩) (k_9 undef h_40) ⟨⟩ ⟨⟩) (fun t52 h_41 => 
 Hp Try.prog false (pickS t47 t52 (.bool false)) (fun t53 h_42 => 
 R t53 h_42) h_41 ⟨⟩) h_39 ⟨⟩ ⟨⟩) h_37 ⟨⟩ ⟨⟩) h_35 ⟨⟩ ⟨⟩) h_33 ⟨⟩ ⟨⟩) h_32 ⟨⟩) h_30 ⟨⟩ ⟨⟩) h_28 ⟨⟩ ⟨⟩) h_26 ⟨⟩ ⟨⟩) h_25 ⟨⟩) h_24 ⟨⟩) ⟨⟩) h_22 ⟨⟩) ⟨⟩) h_20 ⟨⟩) ⟨⟩) ⟨⟩) h_17 ⟨⟩) h_16 ⟨⟩) ⟨⟩) ⟨⟩) ⟨⟩) ⟨⟩) h_11 ⟨⟩) h_10 ⟨⟩) h_9 ⟨⟩) ⟨⟩ ⟨⟩) h_8 ⟨⟩) h_6 ⟨⟩ ⟨⟩) h_4 ⟨⟩ ⟨⟩) h_2 ⟨⟩ ⟨⟩) h_1 ⟨⟩) ⟨⟩

theorem n6_calls {R : Value → Heap → Prop} {h : Heap} (H : n6  R h) : CallsH Try.prog 6 #[] h R ⟨⟩ :=
 callsH_of_eq Try.follow .l Try.func6 (by kernel_rfl) (by kernel_rfl) (by kernel_rfl) H

/-- palimpsest/palimpsestlaw25.num -/
def n8 (e0 : Value) (R : Value → Heap → Prop) (h : Heap) : Prop :=
 R e0 h

theorem n8_calls {e0 : Value} {R : Value → Heap → Prop} {h : Heap} (H : n8 e0 R h) : CallsH Try.prog 8 #[e0] h R ⟨⟩ :=
 callsH_of_eq Try.follow .l Try.func8 (by kernel_rfl) (by kernel_rfl) (by kernel_rfl) H

/-- palimpsest/palimpsestlaw25.fill -/
def n12 (n0 c1 : Value) (R : Value → Heap → Prop) (h : Heap) : Prop :=
 Hp Try.prog false (Instr.makeSlice 29 n0 n0) (fun t8 h_1 => 
 LoopC 1 (fun (X : Value → Heap → Prop) => fun i6 h_2 =>
 Hp Try.prog false (binS .lss 3 (.tmp 9) (.tmp 10) i6 n0) (fun t11 h_3 => 
 CondP t11 (
 Hp Try.prog false (Instr.indexAt 29 t8 i6) (fun t17 h_4 => 
 Hp Try.prog false (storeS 5 t17 c1) (fun _ h_5 => 
 Hp Try.prog false (binS .add 3 (.tmp 12) (.const (.int .i64 1)) i6 (.int .i64 1)) (fun t13 h_6 => 
 X t13 h_6) h_5 ⟨⟩) h_4 ⟨⟩) h_3 ⟨⟩) (
 R t8 h_3) ⟨⟩ ⟨⟩) h_2 ⟨⟩) [(.int .i64 0)] h_1 ⟨⟩) h ⟨⟩

theorem n12_calls {n0 c1 : Value} {R : Value → Heap → Prop} {h : Heap} (H : n12 n0 c1 R h) : CallsH Try.prog 12 #[n0, c1] h R ⟨⟩ :=
 callsH_of_eq Try.follow (.n none .l (.n none .l (.n none (.n none .l (.n none (.n (some [7]) .l .l) .l)) .l))) Try.func12 (by kernel_rfl) (by kernel_rfl) (by kernel_rfl) H

end Go.Proofs.Ytcgboagadgehjaa

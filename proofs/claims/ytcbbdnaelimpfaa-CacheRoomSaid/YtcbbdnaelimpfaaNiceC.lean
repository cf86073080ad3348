/- Printed by wip/tools/gen.py: the condition of each function, and that a call meets it. -/
import Derived.Test.YtcbbdnaelimpfaaVcFun
import Derived.Test.YtcbbdnaelimpfaaProg
import Derived.Test.YtcbbdnaelimpfaaNiceA
import Derived.Test.YtcbbdnaelimpfaaNiceB
set_option maxRecDepth 100000
set_option linter.unusedVariables false
namespace Go.Proofs.Ytcbbdnaelimpfaa
open Go.Vc

/-- palimpsest/palimpsestlaw14.CacheLoops -/
def n3 (pairs0 : Value) (R : Value → Heap → Prop) (h : Heap) : Prop :=
 Hp Try.prog false (Builtin.len_ #[22] 3 #[pairs0]) (fun t19 h_1 => 
 Hp Try.prog false (binS .gtr 3 (.tmp 19) (.const (.int .i64 100)) t19 (.int .i64 100)) (fun t20 h_2 => 
 CondP t20 (
 CallsH Try.prog 5 #[] h_2 (fun t21 h_3 => 
 R t21 h_3) ⟨⟩) (
 CallsH Try.prog 6 #[(.int .i64 4096), (.slice none 0 0)] h_2 (fun t22 h_4 => 
 CallsH Try.prog 7 #[t22, (str [102]), (.int .i64 9), (.int .i64 8)] h_4 (fun t25 h_5 => 
 Hp Try.prog false (Instr.extract t25 0) (fun t26 h_6 => 
 Hp Try.prog false (Instr.extract t25 1) (fun t27 h_7 => 
 Hp Try.prog false (binS .eql 24 (.tmp 28) (.const (.pointer none)) t22 (.pointer none)) (fun t29 h_8 => 
 Join1 (fun k h_9 => guardP t29 false (k t26 h_9) (k undef h_9) ⟨⟩ ⟨⟩) (fun t31 h_10 => 
 Join1 (fun k_1 h_11 => guardP t29 false (Hp Try.prog false (binS .eql 26 (.tmp 31) (.const (.pointer none)) t31 (.pointer none)) k_1 h_11 ⟨⟩) (k_1 undef h_11) ⟨⟩ ⟨⟩) (fun t32 h_12 => 
 Hp Try.prog false (pickS t29 (.bool true) t32) (fun t33 h_13 => 
 Join1 (fun k_2 h_14 => guardP t33 false (k_2 t27 h_14) (k_2 undef h_14) ⟨⟩ ⟨⟩) (fun t35 h_15 => 
 Join1 (fun k_3 h_16 => guardP t33 false (CallsH Try.prog 8 #[t35] h_16 k_3 ⟨⟩) (k_3 undef h_16) ⟨⟩ ⟨⟩) (fun t36 h_17 => 
 Join1 (fun k_4 h_18 => guardP t33 false (Hp Try.prog false (binS .neq 3 (.tmp 36) (.const (.int .i64 0)) t36 (.int .i64 0)) k_4 h_18 ⟨⟩) (k_4 undef h_18) ⟨⟩ ⟨⟩) (fun t37 h_19 => 
 Hp Try.prog false (pickS t33 (.bool true) t37) (fun t38 h_20 => 
 CondP t38 (
 R (.bool false) h_20) (
 LoopC 1 (fun (X : Value → Heap → Prop) => fun p6 h_21 =>
 Hp Try.prog false (binS .lss 2 (.tmp 39) (.const (.int .i64 8)) p6 (.int .i64 8)) (fun t40 h_22 => 
 CondP t40 (
 Hp Try.prog false (binS .add 2 (.tmp 45) (.const (.int .i64 1)) p6 (.int .i64 1)) (fun t46 h_23 => 
 Hp Try.prog false (convert 2 5 t46) (fun t47 h_24 => 
 Hp Try.prog false (Instr.buildSlice 32 1 #[(0, t47)]) (fun t48 h_25 => 
 CallsH Try.prog 9 #[t26, p6, (.int .i64 0), t48] h_25 (fun t49 h_26 => 
 CallsH Try.prog 8 #[t49] h_26 (fun t50 h_27 => 
 Hp Try.prog false (binS .neq 3 (.tmp 50) (.const (.int .i64 0)) t50 (.int .i64 0)) (fun t51 h_28 => 
 CondP t51 (
 R (.bool false) h_28) (
 Hp Try.prog false (binS .add 2 (.tmp 41) (.const (.int .i64 1)) p6 (.int .i64 1)) (fun t42 h_29 => 
 X t42 h_29) h_28 ⟨⟩) ⟨⟩ ⟨⟩) h_27 ⟨⟩) ⟨⟩) ⟨⟩) h_24 ⟨⟩) h_23 ⟨⟩) h_22 ⟨⟩) (
 Hp Try.prog false (Instr.alloc 34 true undef) (fun waits7 h_30 => 
 LoopC 1 (fun (X_1 : Value → Heap → Prop) => fun i8 h_31 =>
 Hp Try.prog false (Builtin.len_ #[22] 3 #[pairs0]) (fun t54 h_32 => 
 Hp Try.prog false (binS .lss 3 (.tmp 52) (.tmp 54) i8 t54) (fun t55 h_33 => 
 CondP t55 (
 JoinN 0 (fun (k_5 : Heap → Prop) h_34 =>
 JoinN 0 (fun (k_6 : Heap → Prop) h_35 =>
 Hp Try.prog true (Instr.indexAt 22 pairs0 i8) (fun t60 _ => 
 Hp Try.prog true (Instr.loadAt 3 t60) (fun t61 _ => 
 Hp Try.prog true (binS .and 3 (.tmp 61) (.const (.int .i64 7)) t61 (.int .i64 7)) (fun t62 _ => 
 Hp Try.prog true (Instr.indexAt 22 pairs0 i8) (fun t65 _ => 
 Hp Try.prog true (Instr.loadAt 3 t65) (fun t66 _ => 
 Hp Try.prog true (binS .shr 3 (.tmp 66) (.const (.int .u64 3)) t66 (.int .u64 3)) (fun t67 _ => 
 Hp Try.prog true (binS .and 3 (.tmp 67) (.const (.int .i64 7)) t67 (.int .i64 7)) (fun t68 _ => 
 CallsH Try.prog 10 #[t26, t62, t68] h_35 (fun t72 h_36 => 
 CallsH Try.prog 8 #[t72] h_36 (fun t73 h_37 => 
 Hp Try.prog false (binS .eql 3 (.tmp 74) (.const (.int .i64 240)) t73 (.int .i64 240)) (fun t75 h_38 => 
 Hp Try.prog false (binS .eql 3 (.tmp 76) (.tmp 77) t62 t68) (fun t78 h_39 => 
 Join1 (fun k_7 h_40 => guardP t78 false (k_7 t68 h_40) (k_7 undef h_40) ⟨⟩ ⟨⟩) (fun t80 h_41 => 
 Join1 (fun k_8 h_42 => guardP t78 false (k_8 t62 h_42) (k_8 undef h_42) ⟨⟩ ⟨⟩) (fun t81 h_43 => 
 Join1 (fun k_9 h_44 => guardP t78 false (Hp Try.prog false (Instr.indexAt 34 waits7 t80) k_9 h_44 ⟨⟩) (k_9 undef h_44) ⟨⟩ ⟨⟩) (fun t82 h_45 => 
 Join1 (fun k_10 h_46 => guardP t78 false (Hp Try.prog false (Instr.indexAt 33 t82 t81) k_10 h_46 ⟨⟩) (k_10 undef h_46) ⟨⟩ ⟨⟩) (fun t83 h_47 => 
 Join1 (fun k_11 h_48 => guardP t78 false (Hp Try.prog false (Instr.loadAt 4 t83) k_11 h_48 ⟨⟩) (k_11 undef h_48) ⟨⟩ ⟨⟩) (fun t84 h_49 => 
 Hp Try.prog false (pickS t78 (.bool true) t84) (fun t85 h_50 => 
 Hp Try.prog false (binS .neq 4 (.tmp 75) (.tmp 85) t75 t85) (fun t86 h_51 => 
 Join1 (fun k_12 h_52 => guardP t86 false (k_12 t73 h_52) (k_12 undef h_52) ⟨⟩ ⟨⟩) (fun t88 h_53 => 
 Join1 (fun k_13 h_54 => guardP t86 false (Hp Try.prog false (binS .neq 3 (.tmp 88) (.const (.int .i64 240)) t88 (.int .i64 240)) k_13 h_54 ⟨⟩) (k_13 undef h_54) ⟨⟩ ⟨⟩) (fun t89 h_55 => 
 Join1 (fun k_14 h_56 => guardP t86 false (k_14 t89 h_56) (k_14 undef h_56) ⟨⟩ ⟨⟩) (fun t90 h_57 => 
 Join1 (fun k_15 h_58 => guardP t90 true (k_15 t73 h_58) (k_15 undef h_58) ⟨⟩ ⟨⟩) (fun t91 h_59 => 
 Join1 (fun k_16 h_60 => guardP t90 true (Hp Try.prog false (binS .neq 3 (.tmp 91) (.const (.int .i64 0)) t91 (.int .i64 0)) k_16 h_60 ⟨⟩) (k_16 undef h_60) ⟨⟩ ⟨⟩) (fun t92 h_61 => 
 Join1 (fun k_17 h_62 => guardP t86 false (Hp Try.prog false (pickS t90 t92 (.bool false)) k_17 h_62 ⟨⟩) (k_17 undef h_62) ⟨⟩ ⟨⟩) (fun t93 h_63 => 
 Hp Try.prog false (pickS t86 (.bool true) t93) (fun t94 h_64 => 
 CondP t94 (
 R (.bool false) h_64) (
 Hp Try.prog false (binS .neq 3 (.tmp 95) (.const (.int .i64 0)) t73 (.int .i64 0)) (fun t96 h_65 => 
 CondP t96 (
 k_6 h_65) (
 LoopC 1 (fun (X_2 : Value → Heap → Prop) => fun a12 h_66 =>
 Hp Try.prog false (binS .lss 3 (.tmp 97) (.const (.int .i64 8)) a12 (.int .i64 8)) (fun t98 h_67 => 
 CondP t98 (
 LoopC 1 (fun (X_3 : Value → Heap → Prop) => fun b13 h_68 =>
 Hp Try.prog false (binS .lss 3 (.tmp 101) (.const (.int .i64 8)) b13 (.int .i64 8)) (fun t102 h_69 => 
 CondP t102 (
 JoinN 0 (fun (k_18 : Heap → Prop) h_70 =>
 JoinN 0 (fun (k_19 : Heap → Prop) h_71 =>
 Hp Try.prog false (binS .eql 3 (.tmp 105) (.tmp 106) a12 t62) (fun t107 h_72 => 
 Join1 (fun k_20 h_73 => guardP t107 false (k_20 a12 h_73) (k_20 undef h_73) ⟨⟩ ⟨⟩) (fun t109 h_74 => 
 Join1 (fun k_21 h_75 => guardP t107 false (k_21 t62 h_75) (k_21 undef h_75) ⟨⟩ ⟨⟩) (fun t110 h_76 => 
 Join1 (fun k_22 h_77 => guardP t107 false (Hp Try.prog false (Instr.indexAt 34 waits7 t109) k_22 h_77 ⟨⟩) (k_22 undef h_77) ⟨⟩ ⟨⟩) (fun t111 h_78 => 
 Join1 (fun k_23 h_79 => guardP t107 false (Hp Try.prog false (Instr.indexAt 33 t111 t110) k_23 h_79 ⟨⟩) (k_23 undef h_79) ⟨⟩ ⟨⟩) (fun t112 h_80 => 
 Join1 (fun k_24 h_81 => guardP t107 false (Hp Try.prog false (Instr.loadAt 4 t112) k_24 h_81 ⟨⟩) (k_24 undef h_81) ⟨⟩ ⟨⟩) (fun t113 h_82 => 
 Hp Try.prog false (pickS t107 (.bool true) t113) (fun t114 h_83 => 
 Join1 (fun k_25 h_84 => guardP t114 true (k_25 b13 h_84) (k_25 undef h_84) ⟨⟩ ⟨⟩) (fun t116 h_85 => 
 Join1 (fun k_26 h_86 => guardP t114 true (k_26 t68 h_86) (k_26 undef h_86) ⟨⟩ ⟨⟩) (fun t117 h_87 => 
 Join1 (fun k_27 h_88 => guardP t114 true (Hp Try.prog false (binS .eql 3 (.tmp 116) (.tmp 117) t116 t117) k_27 h_88 ⟨⟩) (k_27 undef h_88) ⟨⟩ ⟨⟩) (fun t118 h_89 => 
 Join1 (fun k_28 h_90 => guardP t114 true (k_28 t118 h_90) (k_28 undef h_90) ⟨⟩ ⟨⟩) (fun t119 h_91 => 
 Join1 (fun k_29 h_92 => guardP t119 false (k_29 t68 h_92) (k_29 undef h_92) ⟨⟩ ⟨⟩) (fun t120 h_93 => 
 Join1 (fun k_30 h_94 => guardP t119 false (k_30 b13 h_94) (k_30 undef h_94) ⟨⟩ ⟨⟩) (fun t121 h_95 => 
 Join1 (fun k_31 h_96 => guardP t119 false (Hp Try.prog false (Instr.indexAt 34 waits7 t120) k_31 h_96 ⟨⟩) (k_31 undef h_96) ⟨⟩ ⟨⟩) (fun t122 h_97 => 
 Join1 (fun k_32 h_98 => guardP t119 false (Hp Try.prog false (Instr.indexAt 33 t122 t121) k_32 h_98 ⟨⟩) (k_32 undef h_98) ⟨⟩ ⟨⟩) (fun t123 h_99 => 
 Join1 (fun k_33 h_100 => guardP t119 false (Hp Try.prog false (Instr.loadAt 4 t123) k_33 h_100 ⟨⟩) (k_33 undef h_100) ⟨⟩ ⟨⟩) (fun t124 h_101 => 
 Join1 (fun k_34 h_102 => guardP t114 true (Hp Try.prog false (pickS t119 (.bool true) t124) k_34 h_102 ⟨⟩) (k_34 undef h_102) ⟨⟩ ⟨⟩) (fun t125 h_103 => 
 Hp Try.prog false (pickS t114 t125 (.bool false)) (fun t126 h_104 => 
 CondP t126 (
 Hp Try.prog false (Instr.indexAt 34 waits7 a12) (fun t129 h_105 => 
 Hp Try.prog false (Instr.indexAt 33 t129 b13) (fun t130 h_106 => 
 Hp Try.prog false (storeS 4 t130 (.bool true)) (fun _ h_107 => 
 k_19 h_107) h_106 ⟨⟩) h_105 ⟨⟩) h_104 ⟨⟩) (
 k_19 h_104) ⟨⟩ ⟨⟩) h_103 ⟨⟩) h_101 ⟨⟩ ⟨⟩) h_99 ⟨⟩ ⟨⟩) h_97 ⟨⟩ ⟨⟩) h_95 ⟨⟩ ⟨⟩) h_93 ⟨⟩ ⟨⟩) h_91 ⟨⟩ ⟨⟩) h_89 ⟨⟩ ⟨⟩) h_87 ⟨⟩ ⟨⟩) h_85 ⟨⟩ ⟨⟩) h_83 ⟨⟩ ⟨⟩) h_82 ⟨⟩) h_80 ⟨⟩ ⟨⟩) h_78 ⟨⟩ ⟨⟩) h_76 ⟨⟩ ⟨⟩) h_74 ⟨⟩ ⟨⟩) h_72 ⟨⟩ ⟨⟩) h_71 ⟨⟩)
 (fun h_108 =>
 k_18 h_108) h_70 ⟨⟩ ⟨⟩)
 (fun h_109 =>
 Hp Try.prog false (binS .add 3 (.tmp 103) (.const (.int .i64 1)) b13 (.int .i64 1)) (fun t104 h_110 => 
 X_3 t104 h_110) h_109 ⟨⟩) h_69 ⟨⟩ ⟨⟩) (
 Hp Try.prog false (binS .add 3 (.tmp 99) (.const (.int .i64 1)) a12 (.int .i64 1)) (fun t100 h_111 => 
 X_2 t100 h_111) h_69 ⟨⟩) ⟨⟩ ⟨⟩) h_68 ⟨⟩) [(.int .i64 0)] h_67 ⟨⟩) (
 k_6 h_67) ⟨⟩ ⟨⟩) h_66 ⟨⟩) [(.int .i64 0)] h_65 ⟨⟩) ⟨⟩ ⟨⟩) h_64 ⟨⟩) ⟨⟩ ⟨⟩) h_63 ⟨⟩) h_61 ⟨⟩ ⟨⟩) h_59 ⟨⟩ ⟨⟩) h_57 ⟨⟩ ⟨⟩) h_55 ⟨⟩ ⟨⟩) h_53 ⟨⟩ ⟨⟩) h_51 ⟨⟩ ⟨⟩) h_50 ⟨⟩) h_49 ⟨⟩) h_47 ⟨⟩ ⟨⟩) h_45 ⟨⟩ ⟨⟩) h_43 ⟨⟩ ⟨⟩) h_41 ⟨⟩ ⟨⟩) h_39 ⟨⟩ ⟨⟩) h_38 ⟨⟩) h_37 ⟨⟩) ⟨⟩) ⟨⟩) #[] ⟨⟩) #[] ⟨⟩) h_35 ⟨⟩) #[] ⟨⟩) #[] ⟨⟩) h_35 ⟨⟩) #[] ⟨⟩)
 (fun h_112 =>
 k_5 h_112) h_34 ⟨⟩ ⟨⟩)
 (fun h_113 =>
 Hp Try.prog false (binS .add 3 (.tmp 56) (.const (.int .i64 1)) i8 (.int .i64 1)) (fun t57 h_114 => 
 X_1 t57 h_114) h_113 ⟨⟩) h_33 ⟨⟩ ⟨⟩) (
 LoopC 1 (fun (X_4 : Value → Heap → Prop) => fun p14 h_115 =>
 Hp Try.prog false (binS .lss 2 (.tmp 131) (.const (.int .i64 8)) p14 (.int .i64 8)) (fun t132 h_116 => 
 CondP t132 (
 CallsH Try.prog 11 #[t26, p14] h_116 (fun t137 h_117 => 
 CallsH Try.prog 8 #[t137] h_117 (fun t138 h_118 => 
 Hp Try.prog false (binS .neq 3 (.tmp 138) (.const (.int .i64 0)) t138 (.int .i64 0)) (fun t139 h_119 => 
 CondP t139 (
 R (.bool false) h_119) (
 Hp Try.prog false (binS .add 2 (.tmp 133) (.const (.int .i64 1)) p14 (.int .i64 1)) (fun t134 h_120 => 
 X_4 t134 h_120) h_119 ⟨⟩) ⟨⟩ ⟨⟩) h_118 ⟨⟩) ⟨⟩) ⟨⟩) (
 CallsH Try.prog 12 #[t26, (.int .i64 3)] h_116 (fun t142 h_121 => 
 Hp Try.prog false (Instr.extract t142 0) (fun t143 h_122 => 
 Hp Try.prog false (Instr.extract t142 1) (fun t144 h_123 => 
 Hp Try.prog false (Instr.alloc 40 true undef) (fun x15 h_124 => 
 Hp Try.prog false (storeS 40 x15 t143) (fun _ h_125 => 
 CallsH Try.prog 13 #[t26] h_125 (fun t146 h_126 => 
 Hp Try.prog false (Instr.alloc 44 true undef) (fun n17 h_127 => 
 Hp Try.prog false (storeS 44 n17 t146) (fun _ h_128 => 
 CallsH Try.prog 8 #[t144] h_128 (fun t148 h_129 => 
 Hp Try.prog false (binS .eql 3 (.tmp 148) (.const (.int .i64 0)) t148 (.int .i64 0)) (fun t149 h_130 => 
 Join1 (fun k_35 h_131 => guardP t149 true (Hp Try.prog false (Instr.fieldAt 40 x15 0) k_35 h_131 ⟨⟩) (k_35 undef h_131) ⟨⟩ ⟨⟩) (fun t151 h_132 => 
 Join1 (fun k_36 h_133 => guardP t149 true (Hp Try.prog false (Instr.loadAt 4 t151) k_36 h_133 ⟨⟩) (k_36 undef h_133) ⟨⟩ ⟨⟩) (fun t152 h_134 => 
 Join1 (fun k_37 h_135 => guardP t149 true (Hp Try.prog false (Op.unary .not t152) k_37 h_135 ⟨⟩) (k_37 undef h_135) ⟨⟩ ⟨⟩) (fun t153 h_136 => 
 Hp Try.prog false (pickS t149 t153 (.bool false)) (fun t154 h_137 => 
 Join1 (fun k_38 h_138 => guardP t154 true (Hp Try.prog false (Instr.fieldAt 40 x15 2) k_38 h_138 ⟨⟩) (k_38 undef h_138) ⟨⟩ ⟨⟩) (fun t156 h_139 => 
 Join1 (fun k_39 h_140 => guardP t154 true (Hp Try.prog false (Instr.loadAt 38 t156) k_39 h_140 ⟨⟩) (k_39 undef h_140) ⟨⟩ ⟨⟩) (fun t157 h_141 => 
 Join1 (fun k_40 h_142 => guardP t154 true (Hp Try.prog false (Builtin.len_ #[38] 3 #[t157]) k_40 h_142 ⟨⟩) (k_40 undef h_142) ⟨⟩ ⟨⟩) (fun t158 h_143 => 
 Join1 (fun k_41 h_144 => guardP t154 true (Hp Try.prog false (binS .eql 3 (.tmp 158) (.const (.int .i64 0)) t158 (.int .i64 0)) k_41 h_144 ⟨⟩) (k_41 undef h_144) ⟨⟩ ⟨⟩) (fun t159 h_145 => 
 Hp Try.prog false (pickS t154 t159 (.bool false)) (fun t160 h_146 => 
 Join1 (fun k_42 h_147 => guardP t160 true (Hp Try.prog false (Instr.fieldAt 44 n17 2) k_42 h_147 ⟨⟩) (k_42 undef h_147) ⟨⟩ ⟨⟩) (fun t162 h_148 => 
 Join1 (fun k_43 h_149 => guardP t160 true (Hp Try.prog false (Instr.loadAt 3 t162) k_43 h_149 ⟨⟩) (k_43 undef h_149) ⟨⟩ ⟨⟩) (fun t163 h_150 => 
 Join1 (fun k_44 h_151 => guardP t160 true (Hp Try.prog false (binS .eql 3 (.tmp 163) (.const (.int .i64 8)) t163 (.int .i64 8)) k_44 h_151 ⟨⟩) (k_44 undef h_151) ⟨⟩ ⟨⟩) (fun t164 h_152 => 
 Hp Try.prog false (pickS t160 t164 (.bool false)) (fun t165 h_153 => 
 Join1 (fun k_45 h_154 => guardP t165 true (k_45 t22 h_154) (k_45 undef h_154) ⟨⟩ ⟨⟩) (fun t167 h_155 => 
 Join1 (fun k_46 h_156 => guardP t165 true (CallsH Try.prog 14 #[t167] h_156 k_46 ⟨⟩) (k_46 undef h_156) ⟨⟩ ⟨⟩) (fun t168 h_157 => 
 Hp Try.prog false (pickS t165 t168 (.bool false)) (fun t169 h_158 => 
 Join1 (fun k_47 h_159 => guardP t169 true (CallsH Try.prog 5 #[] h_159 k_47 ⟨⟩) (k_47 undef h_159) ⟨⟩ ⟨⟩) (fun t171 h_160 => 
 Hp Try.prog false (pickS t169 t171 (.bool false)) (fun t172 h_161 => 
 R t172 h_161) h_160 ⟨⟩) h_158 ⟨⟩ ⟨⟩) h_157 ⟨⟩) h_155 ⟨⟩ ⟨⟩) h_153 ⟨⟩ ⟨⟩) h_152 ⟨⟩) h_150 ⟨⟩ ⟨⟩) h_148 ⟨⟩ ⟨⟩) h_146 ⟨⟩ ⟨⟩) h_145 ⟨⟩) h_143 ⟨⟩ ⟨⟩) h_141 ⟨⟩ ⟨⟩) h_139 ⟨⟩ ⟨⟩) h_137 ⟨⟩ ⟨⟩) h_136 ⟨⟩) h_134 ⟨⟩ ⟨⟩) h_132 ⟨⟩ ⟨⟩) h_130 ⟨⟩ ⟨⟩) h_129 ⟨⟩) ⟨⟩) h_127 ⟨⟩) h_126 ⟨⟩) ⟨⟩) h_124 ⟨⟩) h_123 ⟨⟩) h_122 ⟨⟩) h_121 ⟨⟩) ⟨⟩) ⟨⟩ ⟨⟩) h_115 ⟨⟩) [(.int .i64 0)] h_33 ⟨⟩) ⟨⟩ ⟨⟩) h_32 ⟨⟩) h_31 ⟨⟩) [(.int .i64 0)] h_30 ⟨⟩) h_22 ⟨⟩) ⟨⟩ ⟨⟩) h_21 ⟨⟩) [(.int .i64 0)] h_20 ⟨⟩) ⟨⟩ ⟨⟩) h_19 ⟨⟩) h_17 ⟨⟩ ⟨⟩) h_15 ⟨⟩ ⟨⟩) h_13 ⟨⟩ ⟨⟩) h_12 ⟨⟩) h_10 ⟨⟩ ⟨⟩) h_8 ⟨⟩ ⟨⟩) h_7 ⟨⟩) h_6 ⟨⟩) h_5 ⟨⟩) ⟨⟩) ⟨⟩) ⟨⟩ ⟨⟩) h_1 ⟨⟩) h ⟨⟩

theorem n3_calls {pairs0 : Value} {R : Value → Heap → Prop} {h : Heap} (H : n3 pairs0 R h) : CallsH Try.prog 3 #[pairs0] h R ⟨⟩ :=
 callsH_of_eq Try.follow (.n none .l (.n none .l (.n none .l (.n none .l (.n none .l (.n none (.n none .l (.n none (.n (some [7]) .l .l) .l)) (.n none .l (.n none (.n none .l (.n none (.n (some [9]) (.n none .l (.n (some []) (.n (some []) (.n none .l (.n none .l (.n none .l (.n none .l (.n none .l (.n none (.n (some [13]) (.n none .l (.n none (.n none (.n none .l (.n none (.n (some [14]) (.n none .l (.n (some []) (.n (some []) .l .l) .l)) .l) .l)) .l) .l)) .l) .l)))))) .l) .l)) .l) .l)) (.n none (.n none .l (.n none (.n (some [15]) .l .l) .l)) .l))))))))) Try.func3 (by kernel_rfl) (by kernel_rfl) (by kernel_rfl) H

end Go.Proofs.Ytcbbdnaelimpfaa

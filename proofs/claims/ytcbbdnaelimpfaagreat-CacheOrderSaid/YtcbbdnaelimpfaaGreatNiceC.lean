/- Printed by /tmp/tools2/gen.py: the condition of each function, and that a call meets it. -/
import Derived.Test.YtcbbdnaelimpfaaGreatVcFun
import Derived.Test.YtcbbdnaelimpfaaGreatProg
import Derived.Test.YtcbbdnaelimpfaaGreatNiceA
import Derived.Test.YtcbbdnaelimpfaaGreatNiceB
set_option maxRecDepth 100000
set_option linter.unusedVariables false
namespace Go.Proofs.YtcbbdnaelimpfaaGreat
open Go.Vc

/-- palimpsest/palimpsestlaw14.CacheOrder -/
def n4 (x0 : Value) (R : Value → Heap → Prop) (h : Heap) : Prop :=
 Hp Tryz.prog false (Instr.box 51 x0) (fun x1 h_1 => 
 Hp Tryz.prog false (Instr.fieldAt 51 x1 1) (fun t11 h_2 => 
 Hp Tryz.prog false (Instr.loadAt 22 t11) (fun t12 h_3 => 
 Hp Tryz.prog false (Builtin.len_ #[22] 3 #[t12]) (fun t13 h_4 => 
 Hp Tryz.prog false (binS .gtr 3 (.tmp 13) (.const (.int .i64 60)) t13 (.int .i64 60)) (fun t14 h_5 => 
 Join1 (fun k h_6 => guardP t14 false (Hp Tryz.prog false (Instr.fieldAt 51 x1 0) k h_6 ⟨⟩) (k undef h_6) ⟨⟩ ⟨⟩) (fun t16 h_7 => 
 Join1 (fun k_1 h_8 => guardP t14 false (Hp Tryz.prog false (Instr.loadAt 3 t16) k_1 h_8 ⟨⟩) (k_1 undef h_8) ⟨⟩ ⟨⟩) (fun t17 h_9 => 
 Join1 (fun k_2 h_10 => guardP t14 false (Hp Tryz.prog false (binS .lss 3 (.tmp 17) (.const (.int .i64 1)) t17 (.int .i64 1)) k_2 h_10 ⟨⟩) (k_2 undef h_10) ⟨⟩ ⟨⟩) (fun t18 h_11 => 
 Hp Tryz.prog false (pickS t14 (.bool true) t18) (fun t19 h_12 => 
 Join1 (fun k_3 h_13 => guardP t19 false (Hp Tryz.prog false (Instr.fieldAt 51 x1 0) k_3 h_13 ⟨⟩) (k_3 undef h_13) ⟨⟩ ⟨⟩) (fun t21 h_14 => 
 Join1 (fun k_4 h_15 => guardP t19 false (Hp Tryz.prog false (Instr.loadAt 3 t21) k_4 h_15 ⟨⟩) (k_4 undef h_15) ⟨⟩ ⟨⟩) (fun t22 h_16 => 
 Join1 (fun k_5 h_17 => guardP t19 false (Hp Tryz.prog false (binS .gtr 3 (.tmp 22) (.const (.int .i64 8)) t22 (.int .i64 8)) k_5 h_17 ⟨⟩) (k_5 undef h_17) ⟨⟩ ⟨⟩) (fun t23 h_18 => 
 Hp Tryz.prog false (pickS t19 (.bool true) t23) (fun t24 h_19 => 
 Join1 (fun k_6 h_20 => guardP t24 false (Hp Tryz.prog false (Instr.fieldAt 51 x1 2) k_6 h_20 ⟨⟩) (k_6 undef h_20) ⟨⟩ ⟨⟩) (fun t26 h_21 => 
 Join1 (fun k_7 h_22 => guardP t24 false (Hp Tryz.prog false (Instr.loadAt 48 t26) k_7 h_22 ⟨⟩) (k_7 undef h_22) ⟨⟩ ⟨⟩) (fun t27 h_23 => 
 Join1 (fun k_8 h_24 => guardP t24 false (Hp Tryz.prog false (Builtin.len_ #[48] 3 #[t27]) k_8 h_24 ⟨⟩) (k_8 undef h_24) ⟨⟩ ⟨⟩) (fun t28 h_25 => 
 Join1 (fun k_9 h_26 => guardP t24 false (Hp Tryz.prog false (binS .gtr 3 (.tmp 28) (.const (.int .i64 60)) t28 (.int .i64 60)) k_9 h_26 ⟨⟩) (k_9 undef h_26) ⟨⟩ ⟨⟩) (fun t29 h_27 => 
 Hp Tryz.prog false (pickS t24 (.bool true) t29) (fun t30 h_28 => 
 Join1 (fun k_10 h_29 => guardP t30 false (Hp Tryz.prog false (Instr.fieldAt 51 x1 3) k_10 h_29 ⟨⟩) (k_10 undef h_29) ⟨⟩ ⟨⟩) (fun t32 h_30 => 
 Join1 (fun k_11 h_31 => guardP t30 false (Hp Tryz.prog false (Instr.loadAt 49 t32) k_11 h_31 ⟨⟩) (k_11 undef h_31) ⟨⟩ ⟨⟩) (fun t33 h_32 => 
 Join1 (fun k_12 h_33 => guardP t30 false (Hp Tryz.prog false (Builtin.len_ #[49] 3 #[t33]) k_12 h_33 ⟨⟩) (k_12 undef h_33) ⟨⟩ ⟨⟩) (fun t34 h_34 => 
 Join1 (fun k_13 h_35 => guardP t30 false (Hp Tryz.prog false (binS .gtr 3 (.tmp 34) (.const (.int .i64 60)) t34 (.int .i64 60)) k_13 h_35 ⟨⟩) (k_13 undef h_35) ⟨⟩ ⟨⟩) (fun t35 h_36 => 
 Hp Tryz.prog false (pickS t30 (.bool true) t35) (fun t36 h_37 => 
 Join1 (fun k_14 h_38 => guardP t36 false (Hp Tryz.prog false (Instr.fieldAt 51 x1 2) k_14 h_38 ⟨⟩) (k_14 undef h_38) ⟨⟩ ⟨⟩) (fun t38 h_39 => 
 Join1 (fun k_15 h_40 => guardP t36 false (Hp Tryz.prog false (Instr.loadAt 48 t38) k_15 h_40 ⟨⟩) (k_15 undef h_40) ⟨⟩ ⟨⟩) (fun t39 h_41 => 
 Join1 (fun k_16 h_42 => guardP t36 false (CallsH Tryz.prog 21 #[t39] h_42 k_16 ⟨⟩) (k_16 undef h_42) ⟨⟩ ⟨⟩) (fun t40 h_43 => 
 Join1 (fun k_17 h_44 => guardP t36 false (Hp Tryz.prog false (Op.unary .not t40) k_17 h_44 ⟨⟩) (k_17 undef h_44) ⟨⟩ ⟨⟩) (fun t41 h_45 => 
 Hp Tryz.prog false (pickS t36 (.bool true) t41) (fun t42 h_46 => 
 CondP t42 (
 CallsH Tryz.prog 8 #[] h_46 (fun t43 h_47 => 
 R t43 h_47) ⟨⟩) (
 Hp Tryz.prog false (Instr.fieldAt 51 x1 2) (fun t44 h_48 => 
 Hp Tryz.prog false (Instr.loadAt 48 t44) (fun t45 h_49 => 
 CallsH Tryz.prog 9 #[(.int .i64 4096), t45] h_49 (fun t46 h_50 => 
 Hp Tryz.prog false (Instr.fieldAt 51 x1 0) (fun t49 h_51 => 
 Hp Tryz.prog false (Instr.loadAt 3 t49) (fun t50 h_52 => 
 CallsH Tryz.prog 10 #[t46, (str [102]), (.int .i64 9), t50] h_52 (fun t51 h_53 => 
 Hp Tryz.prog false (Instr.extract t51 0) (fun t52 h_54 => 
 Hp Tryz.prog false (Instr.extract t51 1) (fun t53 h_55 => 
 Hp Tryz.prog false (binS .eql 26 (.tmp 54) (.const (.pointer none)) t46 (.pointer none)) (fun t55 h_56 => 
 Join1 (fun k_18 h_57 => guardP t55 false (k_18 t52 h_57) (k_18 undef h_57) ⟨⟩ ⟨⟩) (fun t57 h_58 => 
 Join1 (fun k_19 h_59 => guardP t55 false (Hp Tryz.prog false (binS .eql 28 (.tmp 57) (.const (.pointer none)) t57 (.pointer none)) k_19 h_59 ⟨⟩) (k_19 undef h_59) ⟨⟩ ⟨⟩) (fun t58 h_60 => 
 Hp Tryz.prog false (pickS t55 (.bool true) t58) (fun t59 h_61 => 
 Join1 (fun k_20 h_62 => guardP t59 false (k_20 t53 h_62) (k_20 undef h_62) ⟨⟩ ⟨⟩) (fun t61 h_63 => 
 Join1 (fun k_21 h_64 => guardP t59 false (CallsH Tryz.prog 11 #[t61] h_64 k_21 ⟨⟩) (k_21 undef h_64) ⟨⟩ ⟨⟩) (fun t62 h_65 => 
 Join1 (fun k_22 h_66 => guardP t59 false (Hp Tryz.prog false (binS .neq 3 (.tmp 62) (.const (.int .i64 0)) t62 (.int .i64 0)) k_22 h_66 ⟨⟩) (k_22 undef h_66) ⟨⟩ ⟨⟩) (fun t63 h_67 => 
 Hp Tryz.prog false (pickS t59 (.bool true) t63) (fun t64 h_68 => 
 CondP t64 (
 R (.bool false) h_68) (
 Hp Tryz.prog false (Instr.makeSlice 33 (.int .i64 8) (.int .i64 8)) (fun t65 h_69 => 
 LoopC 2 (fun (X : Value → Value → Heap → Prop) => fun l6 i8 h_70 =>
 Hp Tryz.prog false (Instr.fieldAt 51 x1 1) (fun t67 h_71 => 
 Hp Tryz.prog false (Instr.loadAt 22 t67) (fun t68 h_72 => 
 Hp Tryz.prog false (Builtin.len_ #[22] 3 #[t68]) (fun t69 h_73 => 
 Hp Tryz.prog false (binS .lss 3 (.tmp 66) (.tmp 69) i8 t69) (fun t70 h_74 => 
 CondP t70 (
 Hp Tryz.prog true (Instr.fieldAt 51 x1 1) (fun t73 _ => 
 Hp Tryz.prog true (Instr.loadAt 22 t73) (fun t74 _ => 
 Hp Tryz.prog true (Instr.indexAt 22 t74 i8) (fun t76 _ => 
 Hp Tryz.prog true (Instr.fieldAt 35 t76 3) (fun t77 _ => 
 Hp Tryz.prog true (Instr.loadAt 2 t77) (fun t78 _ => 
 Hp Tryz.prog true (binS .and 2 (.tmp 78) (.const (.int .i64 7)) t78 (.int .i64 7)) (fun t79 _ => 
 Hp Tryz.prog true (Instr.fieldAt 51 x1 1) (fun t80 _ => 
 Hp Tryz.prog true (Instr.loadAt 22 t80) (fun t81 _ => 
 Hp Tryz.prog true (Instr.indexAt 22 t81 i8) (fun t83 _ => 
 Hp Tryz.prog true (Instr.fieldAt 35 t83 4) (fun t84 _ => 
 Hp Tryz.prog true (Instr.loadAt 2 t84) (fun t85 _ => 
 Hp Tryz.prog true (binS .and 2 (.tmp 85) (.const (.int .i64 7)) t85 (.int .i64 7)) (fun t86 _ => 
 JoinN 1 (fun (k_23 : Value → Heap → Prop) h_75 =>
 Hp Tryz.prog false (Instr.fieldAt 51 x1 1) (fun t87 h_76 => 
 Hp Tryz.prog false (Instr.loadAt 22 t87) (fun t88 h_77 => 
 Hp Tryz.prog false (Instr.indexAt 22 t88 i8) (fun t90 h_78 => 
 Hp Tryz.prog false (Instr.fieldAt 35 t90 0) (fun t91 h_79 => 
 Hp Tryz.prog false (Instr.loadAt 3 t91) (fun t92 h_80 => 
 Hp Tryz.prog false (binS .rem 3 (.tmp 92) (.const (.int .i64 6)) t92 (.int .i64 6)) (fun t93 h_81 => 
 JoinN 1 (fun (k_24 : Value → Heap → Prop) h_82 =>
 JoinN 1 (fun (k_25 : Value → Heap → Prop) h_83 =>
 Hp Tryz.prog false (binS .eql 3 (.tmp 93) (.const (.int .i64 0)) t93 (.int .i64 0)) (fun t107 h_84 => 
 CondP t107 (
 k_25 t107 h_84) (
 Hp Tryz.prog false (binS .eql 3 (.tmp 93) (.const (.int .i64 1)) t93 (.int .i64 1)) (fun t108 h_85 => 
 CondP t108 (
 k_25 t108 h_85) (
 Hp Tryz.prog false (binS .eql 3 (.tmp 93) (.const (.int .i64 2)) t93 (.int .i64 2)) (fun t109 h_86 => 
 k_25 t109 h_86) h_85 ⟨⟩) ⟨⟩ ⟨⟩) h_84 ⟨⟩) ⟨⟩ ⟨⟩) h_83 ⟨⟩)
 (fun t106 h_87 =>
 CondP t106 (
 Hp Tryz.prog false (Instr.indexAt 33 t65 t79) (fun t114 h_88 => 
 Hp Tryz.prog false (Instr.loadAt 5 t114) (fun t115 h_89 => 
 Hp Tryz.prog false (binS .add 5 (.tmp 115) (.const (.int .u8 1)) t115 (.int .u8 1)) (fun t116 h_90 => 
 Hp Tryz.prog false (Instr.buildSlice 33 1 #[(0, t116)]) (fun t117 h_91 => 
 CallsH Tryz.prog 13 #[t52, t79, (.int .i64 0), t117] h_91 (fun t118 h_92 => 
 CallsH Tryz.prog 11 #[t118] h_92 (fun t119 h_93 => 
 Hp Tryz.prog false (binS .eql 3 (.tmp 119) (.const (.int .i64 0)) t119 (.int .i64 0)) (fun t120 h_94 => 
 CondP t120 (
 Hp Tryz.prog false (Instr.indexAt 33 t65 t79) (fun t123 h_95 => 
 Hp Tryz.prog false (Instr.loadAt 5 t123) (fun t124 h_96 => 
 Hp Tryz.prog false (binS .add 5 (.tmp 124) (.const (.int .u8 1)) t124 (.int .u8 1)) (fun t125 h_97 => 
 Hp Tryz.prog false (Instr.indexAt 33 t65 t79) (fun t126 h_98 => 
 Hp Tryz.prog false (storeS 5 t126 t125) (fun _ h_99 => 
 k_24 l6 h_99) h_98 ⟨⟩) h_97 ⟨⟩) h_96 ⟨⟩) h_95 ⟨⟩) h_94 ⟨⟩) (
 k_24 l6 h_94) ⟨⟩ ⟨⟩) h_93 ⟨⟩) ⟨⟩) ⟨⟩) h_90 ⟨⟩) h_89 ⟨⟩) h_88 ⟨⟩) h_87 ⟨⟩) (
 JoinN 1 (fun (k_26 : Value → Heap → Prop) h_100 =>
 Hp Tryz.prog false (binS .eql 3 (.tmp 93) (.const (.int .i64 3)) t93 (.int .i64 3)) (fun t128 h_101 => 
 CondP t128 (
 k_26 t128 h_101) (
 Hp Tryz.prog false (binS .eql 3 (.tmp 93) (.const (.int .i64 4)) t93 (.int .i64 4)) (fun t129 h_102 => 
 k_26 t129 h_102) h_101 ⟨⟩) ⟨⟩ ⟨⟩) h_100 ⟨⟩)
 (fun t127 h_103 =>
 CondP t127 (
 CallsH Tryz.prog 14 #[t52, t79, t86] h_103 (fun t133 h_104 => 
 CallsH Tryz.prog 11 #[t133] h_104 (fun t134 h_105 => 
 Hp Tryz.prog false (binS .eql 3 (.tmp 134) (.const (.int .i64 0)) t134 (.int .i64 0)) (fun t135 h_106 => 
 CondP t135 (
 Hp Tryz.prog true (Instr.indexAt 33 t65 t79) (fun t141 _ => 
 Hp Tryz.prog true (Instr.loadAt 5 t141) (fun t142 _ => 
 Hp Tryz.prog true (binS .add 5 (.tmp 142) (.const (.int .u8 1)) t142 (.int .u8 1)) (fun t143 _ => 
 Hp Tryz.prog true (Instr.indexAt 33 t65 t86) (fun t146 _ => 
 Hp Tryz.prog true (Instr.loadAt 5 t146) (fun t147 _ => 
 Hp Tryz.prog true (Instr.build 55 #[(0, t79), (1, t86), (2, t143), (3, t147)]) (fun t148 _ => 
 Hp Tryz.prog false (Instr.buildSlice 53 1 #[(0, t148)]) (fun t149 h_107 => 
 Hp Tryz.prog false (Builtin.append_ #[53, 53] 53 #[l6, t149]) (fun t150 h_108 => 
 k_24 t150 h_108) h_107 ⟨⟩) h_106 ⟨⟩) #[] ⟨⟩) h_106 ⟨⟩) #[] ⟨⟩) #[] ⟨⟩) h_106 ⟨⟩) #[] ⟨⟩) (
 k_24 l6 h_106) ⟨⟩ ⟨⟩) h_105 ⟨⟩) ⟨⟩) ⟨⟩) (
 CallsH Tryz.prog 15 #[t52, t79] h_103 (fun t96 h_109 => 
 CallsH Tryz.prog 11 #[t96] h_109 (fun t97 h_110 => 
 Hp Tryz.prog false (binS .eql 3 (.tmp 97) (.const (.int .i64 0)) t97 (.int .i64 0)) (fun t98 h_111 => 
 Join1 (fun k_27 h_112 => guardP t98 true (k_27 t79 h_112) (k_27 undef h_112) ⟨⟩ ⟨⟩) (fun t100 h_113 => 
 Join1 (fun k_28 h_114 => guardP t98 true (k_28 t86 h_114) (k_28 undef h_114) ⟨⟩ ⟨⟩) (fun t101 h_115 => 
 Join1 (fun k_29 h_116 => guardP t98 true (Hp Tryz.prog false (binS .eql 2 (.tmp 100) (.tmp 101) t100 t101) k_29 h_116 ⟨⟩) (k_29 undef h_116) ⟨⟩ ⟨⟩) (fun t102 h_117 => 
 Hp Tryz.prog false (pickS t98 t102 (.bool false)) (fun t103 h_118 => 
 CondP t103 (
 CallsH Tryz.prog 16 #[t52] h_118 (fun t105 h_119 => 
 k_24 l6 h_119) ⟨⟩) (
 k_24 l6 h_118) ⟨⟩ ⟨⟩) h_117 ⟨⟩) h_115 ⟨⟩ ⟨⟩) h_113 ⟨⟩ ⟨⟩) h_111 ⟨⟩ ⟨⟩) h_110 ⟨⟩) ⟨⟩) ⟨⟩) ⟨⟩ ⟨⟩) h_87 ⟨⟩ ⟨⟩) ⟨⟩ ⟨⟩) h_82 ⟨⟩ ⟨⟩)
 (fun l6_1 h_120 =>
 k_23 l6_1 h_120) h_81 ⟨⟩ ⟨⟩) h_80 ⟨⟩) h_79 ⟨⟩) h_78 ⟨⟩) h_77 ⟨⟩) h_76 ⟨⟩) h_75 ⟨⟩)
 (fun l6_2 h_121 =>
 Hp Tryz.prog false (Instr.fieldAt 51 x1 3) (fun t155 h_122 => 
 Hp Tryz.prog false (Instr.loadAt 49 t155) (fun t156 h_123 => 
 CallsH Tryz.prog 22 #[t46, t52, l6_2, t65, t156] h_123 (fun t157 h_124 => 
 Hp Tryz.prog false (Op.unary .not t157) (fun t158 h_125 => 
 CondP t158 (
 R (.bool false) h_125) (
 Hp Tryz.prog false (binS .add 3 (.tmp 71) (.const (.int .i64 1)) i8 (.int .i64 1)) (fun t72 h_126 => 
 X l6_2 t72 h_126) h_125 ⟨⟩) ⟨⟩ ⟨⟩) h_124 ⟨⟩) ⟨⟩) h_122 ⟨⟩) h_121 ⟨⟩) h_74 ⟨⟩ ⟨⟩) #[] ⟨⟩) h_74 ⟨⟩) #[] ⟨⟩) #[] ⟨⟩) h_74 ⟨⟩) #[] ⟨⟩) #[] ⟨⟩) h_74 ⟨⟩) #[] ⟨⟩) #[] ⟨⟩) h_74 ⟨⟩) #[] ⟨⟩) (
 CallsH Tryz.prog 8 #[] h_74 (fun t159 h_127 => 
 R t159 h_127) ⟨⟩) ⟨⟩ ⟨⟩) h_73 ⟨⟩) h_72 ⟨⟩) h_71 ⟨⟩) h_70 ⟨⟩) [(.slice none 0 0), (.int .i64 0)] h_69 ⟨⟩) h_68 ⟨⟩) ⟨⟩ ⟨⟩) h_67 ⟨⟩) h_65 ⟨⟩ ⟨⟩) h_63 ⟨⟩ ⟨⟩) h_61 ⟨⟩ ⟨⟩) h_60 ⟨⟩) h_58 ⟨⟩ ⟨⟩) h_56 ⟨⟩ ⟨⟩) h_55 ⟨⟩) h_54 ⟨⟩) h_53 ⟨⟩) ⟨⟩) h_51 ⟨⟩) h_50 ⟨⟩) ⟨⟩) h_48 ⟨⟩) h_46 ⟨⟩) ⟨⟩ ⟨⟩) h_45 ⟨⟩) h_43 ⟨⟩ ⟨⟩) h_41 ⟨⟩ ⟨⟩) h_39 ⟨⟩ ⟨⟩) h_37 ⟨⟩ ⟨⟩) h_36 ⟨⟩) h_34 ⟨⟩ ⟨⟩) h_32 ⟨⟩ ⟨⟩) h_30 ⟨⟩ ⟨⟩) h_28 ⟨⟩ ⟨⟩) h_27 ⟨⟩) h_25 ⟨⟩ ⟨⟩) h_23 ⟨⟩ ⟨⟩) h_21 ⟨⟩ ⟨⟩) h_19 ⟨⟩ ⟨⟩) h_18 ⟨⟩) h_16 ⟨⟩ ⟨⟩) h_14 ⟨⟩ ⟨⟩) h_12 ⟨⟩ ⟨⟩) h_11 ⟨⟩) h_9 ⟨⟩ ⟨⟩) h_7 ⟨⟩ ⟨⟩) h_5 ⟨⟩ ⟨⟩) h_4 ⟨⟩) h_3 ⟨⟩) h_2 ⟨⟩) h_1 ⟨⟩) h ⟨⟩

theorem n4_calls {x0 : Value} {R : Value → Heap → Prop} {h : Heap} (H : n4 x0 R h) : CallsH Tryz.prog 4 #[x0] h R ⟨⟩ :=
 callsH_of_eq Tryz.follow (.n none .l (.n none .l (.n none .l (.n none .l (.n none .l (.n none .l (.n none .l (.n none (.n none .l (.n none (.n (some [7, 9]) (.n none .l (.n none (.n none (.n none .l (.n (some [7]) (.n none .l (.n (some [7]) (.n (some [107]) .l (.n none .l (.n (some [128]) .l .l))) .l)) .l)) .l) .l)) .l) .l)) .l)))))))) Tryz.func4 (by kernel_rfl) (by kernel_rfl) (by kernel_rfl) H

/-- palimpsest/palimpsestlaw14.works -/
def n8 (R : Value → Heap → Prop) (h : Heap) : Prop :=
 CallsH Tryz.prog 9 #[(.int .i64 4096), (.slice none 0 0)] h (fun t12 h_1 => 
 CallsH Tryz.prog 10 #[t12, (str [102]), (.int .i64 9), (.int .i64 2)] h_1 (fun t15 h_2 => 
 Hp Tryz.prog false (Instr.extract t15 0) (fun t16 h_3 => 
 Hp Tryz.prog false (Instr.extract t15 1) (fun t17 h_4 => 
 Hp Tryz.prog false (binS .eql 26 (.tmp 18) (.const (.pointer none)) t12 (.pointer none)) (fun t19 h_5 => 
 Join1 (fun k h_6 => guardP t19 false (k t16 h_6) (k undef h_6) ⟨⟩ ⟨⟩) (fun t21 h_7 => 
 Join1 (fun k_1 h_8 => guardP t19 false (Hp Tryz.prog false (binS .eql 28 (.tmp 21) (.const (.pointer none)) t21 (.pointer none)) k_1 h_8 ⟨⟩) (k_1 undef h_8) ⟨⟩ ⟨⟩) (fun t22 h_9 => 
 Hp Tryz.prog false (pickS t19 (.bool true) t22) (fun t23 h_10 => 
 Join1 (fun k_2 h_11 => guardP t23 false (k_2 t17 h_11) (k_2 undef h_11) ⟨⟩ ⟨⟩) (fun t25 h_12 => 
 Join1 (fun k_3 h_13 => guardP t23 false (CallsH Tryz.prog 11 #[t25] h_13 k_3 ⟨⟩) (k_3 undef h_13) ⟨⟩ ⟨⟩) (fun t26 h_14 => 
 Join1 (fun k_4 h_15 => guardP t23 false (Hp Tryz.prog false (binS .neq 3 (.tmp 26) (.const (.int .i64 0)) t26 (.int .i64 0)) k_4 h_15 ⟨⟩) (k_4 undef h_15) ⟨⟩ ⟨⟩) (fun t27 h_16 => 
 Hp Tryz.prog false (pickS t23 (.bool true) t27) (fun t28 h_17 => 
 Join1 (fun k_5 h_18 => guardP t28 false (k_5 t16 h_18) (k_5 undef h_18) ⟨⟩ ⟨⟩) (fun t30 h_19 => 
 Join1 (fun k_6 h_20 => guardP t28 false (CallsH Tryz.prog 33 #[t30] h_20 k_6 ⟨⟩) (k_6 undef h_20) ⟨⟩ ⟨⟩) (fun t31 h_21 => 
 Join1 (fun k_7 h_22 => guardP t28 false (Hp Tryz.prog false (binS .eql 78 (.tmp 31) (.const .nilFunc) t31 .nilFunc) k_7 h_22 ⟨⟩) (k_7 undef h_22) ⟨⟩ ⟨⟩) (fun t32 h_23 => 
 Hp Tryz.prog false (pickS t28 (.bool true) t32) (fun t33 h_24 => 
 CondP t33 (
 R (.bool false) h_24) (
 Hp Tryz.prog false (Instr.buildSlice 33 1 #[(0, (.int .u8 1))]) (fun t35 h_25 => 
 CallsH Tryz.prog 13 #[t16, (.int .i64 0), (.int .i64 0), t35] h_25 (fun t36 h_26 => 
 Hp Tryz.prog false (Instr.buildSlice 33 1 #[(0, (.int .u8 2))]) (fun t38 h_27 => 
 CallsH Tryz.prog 13 #[t16, (.int .i64 1), (.int .i64 0), t38] h_27 (fun t39 h_28 => 
 CallsH Tryz.prog 14 #[t16, (.int .i64 0), (.int .i64 1)] h_28 (fun t41 h_29 => 
 CallsH Tryz.prog 14 #[t16, (.int .i64 1), (.int .i64 0)] h_29 (fun t43 h_30 => 
 CallsH Tryz.prog 15 #[t16, (.int .i64 0)] h_30 (fun t45 h_31 => 
 CallsH Tryz.prog 19 #[t12, (str [102]), (.int .i64 512), (.int .i64 1)] h_31 (fun t48 h_32 => 
 Hp Tryz.prog false (Instr.extract t48 0) (fun t49 h_33 => 
 Hp Tryz.prog false (Instr.extract t48 1) (fun t50 h_34 => 
 CallsH Tryz.prog 34 #[t16] h_34 (fun t52 h_35 => 
 Hp Tryz.prog false (Instr.alloc 81 true undef) (fun n11 h_36 => 
 Hp Tryz.prog false (storeS 81 n11 t52) (fun _ h_37 => 
 CallsH Tryz.prog 11 #[t36] h_37 (fun t54 h_38 => 
 CallsH Tryz.prog 11 #[t39] h_38 (fun t56 h_39 => 
 Hp Tryz.prog false (binS .add 3 (.tmp 54) (.tmp 56) t54 t56) (fun t57 h_40 => 
 CallsH Tryz.prog 11 #[t41] h_40 (fun t59 h_41 => 
 Hp Tryz.prog false (binS .add 3 (.tmp 57) (.tmp 59) t57 t59) (fun t60 h_42 => 
 CallsH Tryz.prog 11 #[t45] h_42 (fun t62 h_43 => 
 Hp Tryz.prog false (binS .add 3 (.tmp 60) (.tmp 62) t60 t62) (fun t63 h_44 => 
 CallsH Tryz.prog 11 #[t50] h_44 (fun t65 h_45 => 
 Hp Tryz.prog false (binS .add 3 (.tmp 63) (.tmp 65) t63 t65) (fun t66 h_46 => 
 Hp Tryz.prog false (binS .eql 3 (.tmp 66) (.const (.int .i64 0)) t66 (.int .i64 0)) (fun t67 h_47 => 
 Join1 (fun k_8 h_48 => guardP t67 true (k_8 t43 h_48) (k_8 undef h_48) ⟨⟩ ⟨⟩) (fun t69 h_49 => 
 Join1 (fun k_9 h_50 => guardP t67 true (CallsH Tryz.prog 11 #[t69] h_50 k_9 ⟨⟩) (k_9 undef h_50) ⟨⟩ ⟨⟩) (fun t70 h_51 => 
 Join1 (fun k_10 h_52 => guardP t67 true (Hp Tryz.prog false (binS .eql 3 (.tmp 70) (.const (.int .i64 240)) t70 (.int .i64 240)) k_10 h_52 ⟨⟩) (k_10 undef h_52) ⟨⟩ ⟨⟩) (fun t71 h_53 => 
 Hp Tryz.prog false (pickS t67 t71 (.bool false)) (fun t72 h_54 => 
 Join1 (fun k_11 h_55 => guardP t72 true (k_11 t49 h_55) (k_11 undef h_55) ⟨⟩ ⟨⟩) (fun t74 h_56 => 
 Join1 (fun k_12 h_57 => guardP t72 true (Hp Tryz.prog false (Builtin.len_ #[33] 3 #[t74]) k_12 h_57 ⟨⟩) (k_12 undef h_57) ⟨⟩ ⟨⟩) (fun t75 h_58 => 
 Join1 (fun k_13 h_59 => guardP t72 true (Hp Tryz.prog false (binS .eql 3 (.tmp 75) (.const (.int .i64 1)) t75 (.int .i64 1)) k_13 h_59 ⟨⟩) (k_13 undef h_59) ⟨⟩ ⟨⟩) (fun t76 h_60 => 
 Hp Tryz.prog false (pickS t72 t76 (.bool false)) (fun t77 h_61 => 
 Join1 (fun k_14 h_62 => guardP t77 true (k_14 t49 h_62) (k_14 undef h_62) ⟨⟩ ⟨⟩) (fun t79 h_63 => 
 Join1 (fun k_15 h_64 => guardP t77 true (Hp Tryz.prog false (Instr.indexAt 33 t79 (.int .i64 0)) k_15 h_64 ⟨⟩) (k_15 undef h_64) ⟨⟩ ⟨⟩) (fun t80 h_65 => 
 Join1 (fun k_16 h_66 => guardP t77 true (Hp Tryz.prog false (Instr.loadAt 5 t80) k_16 h_66 ⟨⟩) (k_16 undef h_66) ⟨⟩ ⟨⟩) (fun t81 h_67 => 
 Join1 (fun k_17 h_68 => guardP t77 true (Hp Tryz.prog false (binS .eql 5 (.tmp 81) (.const (.int .u8 2)) t81 (.int .u8 2)) k_17 h_68 ⟨⟩) (k_17 undef h_68) ⟨⟩ ⟨⟩) (fun t82 h_69 => 
 Hp Tryz.prog false (pickS t77 t82 (.bool false)) (fun t83 h_70 => 
 Join1 (fun k_18 h_71 => guardP t83 true (Hp Tryz.prog false (Instr.loadAt 81 n11) k_18 h_71 ⟨⟩) (k_18 undef h_71) ⟨⟩ ⟨⟩) (fun t85 h_72 => 
 Join1 (fun k_19 h_73 => guardP t83 true (Hp Tryz.prog false (Instr.build 81 #[(1, (.int .i64 2)), (2, (.int .i64 2)), (3, (.int .i64 1))]) k_19 h_73 ⟨⟩) (k_19 undef h_73) ⟨⟩ ⟨⟩) (fun t86 h_74 => 
 Join1 (fun k_20 h_75 => guardP t83 true (Hp Tryz.prog false (binS .eql 81 (.tmp 85) (.tmp 86) t85 t86) k_20 h_75 ⟨⟩) (k_20 undef h_75) ⟨⟩ ⟨⟩) (fun t87 h_76 => 
 Hp Tryz.prog false (pickS t83 t87 (.bool false)) (fun t88 h_77 => 
 R t88 h_77) h_76 ⟨⟩) h_74 ⟨⟩ ⟨⟩) h_72 ⟨⟩ ⟨⟩) h_70 ⟨⟩ ⟨⟩) h_69 ⟨⟩) h_67 ⟨⟩ ⟨⟩) h_65 ⟨⟩ ⟨⟩) h_63 ⟨⟩ ⟨⟩) h_61 ⟨⟩ ⟨⟩) h_60 ⟨⟩) h_58 ⟨⟩ ⟨⟩) h_56 ⟨⟩ ⟨⟩) h_54 ⟨⟩ ⟨⟩) h_53 ⟨⟩) h_51 ⟨⟩ ⟨⟩) h_49 ⟨⟩ ⟨⟩) h_47 ⟨⟩ ⟨⟩) h_46 ⟨⟩) h_45 ⟨⟩) ⟨⟩) h_43 ⟨⟩) ⟨⟩) h_41 ⟨⟩) ⟨⟩) h_39 ⟨⟩) ⟨⟩) ⟨⟩) h_36 ⟨⟩) h_35 ⟨⟩) ⟨⟩) h_33 ⟨⟩) h_32 ⟨⟩) ⟨⟩) ⟨⟩) ⟨⟩) ⟨⟩) ⟨⟩) h_26 ⟨⟩) ⟨⟩) h_24 ⟨⟩) ⟨⟩ ⟨⟩) h_23 ⟨⟩) h_21 ⟨⟩ ⟨⟩) h_19 ⟨⟩ ⟨⟩) h_17 ⟨⟩ ⟨⟩) h_16 ⟨⟩) h_14 ⟨⟩ ⟨⟩) h_12 ⟨⟩ ⟨⟩) h_10 ⟨⟩ ⟨⟩) h_9 ⟨⟩) h_7 ⟨⟩ ⟨⟩) h_5 ⟨⟩ ⟨⟩) h_4 ⟨⟩) h_3 ⟨⟩) h_2 ⟨⟩) ⟨⟩) ⟨⟩

theorem n8_calls {R : Value → Heap → Prop} {h : Heap} (H : n8  R h) : CallsH Tryz.prog 8 #[] h R ⟨⟩ :=
 callsH_of_eq Tryz.follow .l Tryz.func8 (by kernel_rfl) (by kernel_rfl) (by kernel_rfl) H

/-- palimpsest/palimpsestlaw14.file -/
def n9 (n0 fates1 : Value) (R : Value → Heap → Prop) (h : Heap) : Prop :=
 CallsH Tryz.prog 35 #[(.slice none 0 0)] h (fun t8 h_1 => 
 Hp Tryz.prog false (Instr.extract t8 0) (fun t9 h_2 => 
 Hp Tryz.prog false (Instr.extract t8 1) (fun t10 h_3 => 
 Hp Tryz.prog false (binS .eql 26 (.tmp 11) (.const (.pointer none)) t9 (.pointer none)) (fun t12 h_4 => 
 Join1 (fun k h_5 => guardP t12 false (k t10 h_5) (k undef h_5) ⟨⟩ ⟨⟩) (fun t14 h_6 => 
 Join1 (fun k_1 h_7 => guardP t12 false (CallsH Tryz.prog 11 #[t14] h_7 k_1 ⟨⟩) (k_1 undef h_7) ⟨⟩ ⟨⟩) (fun t15 h_8 => 
 Join1 (fun k_2 h_9 => guardP t12 false (Hp Tryz.prog false (binS .neq 3 (.tmp 15) (.const (.int .i64 0)) t15 (.int .i64 0)) k_2 h_9 ⟨⟩) (k_2 undef h_9) ⟨⟩ ⟨⟩) (fun t16 h_10 => 
 Hp Tryz.prog false (pickS t12 (.bool true) t16) (fun t17 h_11 => 
 Join1 (fun k_3 h_12 => guardP t17 false (k_3 t9 h_12) (k_3 undef h_12) ⟨⟩ ⟨⟩) (fun t19 h_13 => 
 Join1 (fun k_4 h_14 => guardP t17 false (CallsH Tryz.prog 36 #[t19, (str [102])] h_14 k_4 ⟨⟩) (k_4 undef h_14) ⟨⟩ ⟨⟩) (fun t20 h_15 => 
 Join1 (fun k_5 h_16 => guardP t17 false (CallsH Tryz.prog 11 #[t20] h_16 k_5 ⟨⟩) (k_5 undef h_16) ⟨⟩ ⟨⟩) (fun t21 h_17 => 
 Join1 (fun k_6 h_18 => guardP t17 false (Hp Tryz.prog false (binS .neq 3 (.tmp 21) (.const (.int .i64 0)) t21 (.int .i64 0)) k_6 h_18 ⟨⟩) (k_6 undef h_18) ⟨⟩ ⟨⟩) (fun t22 h_19 => 
 Hp Tryz.prog false (pickS t17 (.bool true) t22) (fun t23 h_20 => 
 Join1 (fun k_7 h_21 => guardP t23 false (k_7 t9 h_21) (k_7 undef h_21) ⟨⟩ ⟨⟩) (fun t25 h_22 => 
 Join1 (fun k_8 h_23 => guardP t23 false (k_8 n0 h_23) (k_8 undef h_23) ⟨⟩ ⟨⟩) (fun t26 h_24 => 
 Join1 (fun k_9 h_25 => guardP t23 false (CallsH Tryz.prog 37 #[t25, (str [102]), t26] h_25 k_9 ⟨⟩) (k_9 undef h_25) ⟨⟩ ⟨⟩) (fun t27 h_26 => 
 Join1 (fun k_10 h_27 => guardP t23 false (CallsH Tryz.prog 11 #[t27] h_27 k_10 ⟨⟩) (k_10 undef h_27) ⟨⟩ ⟨⟩) (fun t28 h_28 => 
 Join1 (fun k_11 h_29 => guardP t23 false (Hp Tryz.prog false (binS .neq 3 (.tmp 28) (.const (.int .i64 0)) t28 (.int .i64 0)) k_11 h_29 ⟨⟩) (k_11 undef h_29) ⟨⟩ ⟨⟩) (fun t29 h_30 => 
 Hp Tryz.prog false (pickS t23 (.bool true) t29) (fun t30 h_31 => 
 Join1 (fun k_12 h_32 => guardP t30 false (k_12 t9 h_32) (k_12 undef h_32) ⟨⟩ ⟨⟩) (fun t32 h_33 => 
 Join1 (fun k_13 h_34 => guardP t30 false (k_13 fates1 h_34) (k_13 undef h_34) ⟨⟩ ⟨⟩) (fun t33 h_35 => 
 Join1 (fun k_14 h_36 => guardP t30 false (CallsH Tryz.prog 38 #[t32, t33] h_36 k_14 ⟨⟩) (k_14 undef h_36) ⟨⟩ ⟨⟩) (fun t34 h_37 => 
 Join1 (fun k_15 h_38 => guardP t30 false (CallsH Tryz.prog 11 #[t34] h_38 k_15 ⟨⟩) (k_15 undef h_38) ⟨⟩ ⟨⟩) (fun t35 h_39 => 
 Join1 (fun k_16 h_40 => guardP t30 false (Hp Tryz.prog false (binS .neq 3 (.tmp 35) (.const (.int .i64 0)) t35 (.int .i64 0)) k_16 h_40 ⟨⟩) (k_16 undef h_40) ⟨⟩ ⟨⟩) (fun t36 h_41 => 
 Hp Tryz.prog false (pickS t30 (.bool true) t36) (fun t37 h_42 => 
 CondP t37 (
 R (.pointer none) h_42) (
 R t9 h_42) ⟨⟩ ⟨⟩) h_41 ⟨⟩) h_39 ⟨⟩ ⟨⟩) h_37 ⟨⟩ ⟨⟩) h_35 ⟨⟩ ⟨⟩) h_33 ⟨⟩ ⟨⟩) h_31 ⟨⟩ ⟨⟩) h_30 ⟨⟩) h_28 ⟨⟩ ⟨⟩) h_26 ⟨⟩ ⟨⟩) h_24 ⟨⟩ ⟨⟩) h_22 ⟨⟩ ⟨⟩) h_20 ⟨⟩ ⟨⟩) h_19 ⟨⟩) h_17 ⟨⟩ ⟨⟩) h_15 ⟨⟩ ⟨⟩) h_13 ⟨⟩ ⟨⟩) h_11 ⟨⟩ ⟨⟩) h_10 ⟨⟩) h_8 ⟨⟩ ⟨⟩) h_6 ⟨⟩ ⟨⟩) h_4 ⟨⟩ ⟨⟩) h_3 ⟨⟩) h_2 ⟨⟩) h_1 ⟨⟩) ⟨⟩

theorem n9_calls {n0 fates1 : Value} {R : Value → Heap → Prop} {h : Heap} (H : n9 n0 fates1 R h) : CallsH Tryz.prog 9 #[n0, fates1] h R ⟨⟩ :=
 callsH_of_eq Tryz.follow .l Tryz.func9 (by kernel_rfl) (by kernel_rfl) (by kernel_rfl) H

/-- palimpsest/cache.New -/
def n10 (s0 name1 bits2 room3 : Value) (R : Value → Heap → Prop) (h : Heap) : Prop :=
 Hp Tryz.prog false (binS .eql 26 (.tmp 13) (.const (.pointer none)) s0 (.pointer none)) (fun t14 h_1 => 
 CondP t14 (
 R (.tuple #[(.pointer none), (.int .i64 1)]) h_1) (
 Hp Tryz.prog false (binS .lss 3 (.tmp 16) (.const (.int .i64 9)) bits2 (.int .i64 9)) (fun t17 h_2 => 
 Join1 (fun k h_3 => guardP t17 false (k bits2 h_3) (k undef h_3) ⟨⟩ ⟨⟩) (fun t19 h_4 => 
 Join1 (fun k_1 h_5 => guardP t17 false (Hp Tryz.prog false (binS .gtr 3 (.tmp 19) (.const (.int .i64 16)) t19 (.int .i64 16)) k_1 h_5 ⟨⟩) (k_1 undef h_5) ⟨⟩ ⟨⟩) (fun t20 h_6 => 
 Hp Tryz.prog false (pickS t17 (.bool true) t20) (fun t21 h_7 => 
 Join1 (fun k_2 h_8 => guardP t21 false (k_2 room3 h_8) (k_2 undef h_8) ⟨⟩ ⟨⟩) (fun t23 h_9 => 
 Join1 (fun k_3 h_10 => guardP t21 false (Hp Tryz.prog false (binS .lss 3 (.tmp 23) (.const (.int .i64 1)) t23 (.int .i64 1)) k_3 h_10 ⟨⟩) (k_3 undef h_10) ⟨⟩ ⟨⟩) (fun t24 h_11 => 
 Hp Tryz.prog false (pickS t21 (.bool true) t24) (fun t25 h_12 => 
 Join1 (fun k_4 h_13 => guardP t25 false (k_4 room3 h_13) (k_4 undef h_13) ⟨⟩ ⟨⟩) (fun t27 h_14 => 
 Join1 (fun k_5 h_15 => guardP t25 false (Hp Tryz.prog false (binS .gtr 3 (.tmp 27) (.const (.int .i64 1024)) t27 (.int .i64 1024)) k_5 h_15 ⟨⟩) (k_5 undef h_15) ⟨⟩ ⟨⟩) (fun t28 h_16 => 
 Hp Tryz.prog false (pickS t25 (.bool true) t28) (fun t29 h_17 => 
 CondP t29 (
 R (.tuple #[(.pointer none), (.int .i64 2)]) h_17) (
 CallsH Tryz.prog 18 #[s0, name1] h_17 (fun t33 h_18 => 
 Hp Tryz.prog false (Instr.extract t33 0) (fun t34 h_19 => 
 Hp Tryz.prog false (Instr.extract t33 1) (fun t35 h_20 => 
 Hp Tryz.prog false (binS .neq 29 (.tmp 36) (.const (.int .i64 0)) t35 (.int .i64 0)) (fun t37 h_21 => 
 CondP t37 (
 R (.tuple #[(.pointer none), t35]) h_21) (
 Hp Tryz.prog false (Instr.makeMap 88 none) (fun t43 h_22 => 
 Hp Tryz.prog false (Instr.makeMap 90 none) (fun t44 h_23 => 
 Hp Tryz.prog false (Instr.makeMap 91 none) (fun t45 h_24 => 
 Hp Tryz.prog false (Instr.build 93 #[(0, s0), (1, name1), (2, bits2), (3, room3), (4, t43), (5, t44), (6, t45)]) (fun t46 h_25 => 
 Hp Tryz.prog false (Instr.box 93 t46) (fun t47 h_26 => 
 R (.tuple #[t47, (.int .i64 0)]) h_26) h_25 ⟨⟩) h_24 ⟨⟩) h_23 ⟨⟩) h_22 ⟨⟩) h_21 ⟨⟩) ⟨⟩ ⟨⟩) h_20 ⟨⟩) h_19 ⟨⟩) h_18 ⟨⟩) ⟨⟩) ⟨⟩ ⟨⟩) h_16 ⟨⟩) h_14 ⟨⟩ ⟨⟩) h_12 ⟨⟩ ⟨⟩) h_11 ⟨⟩) h_9 ⟨⟩ ⟨⟩) h_7 ⟨⟩ ⟨⟩) h_6 ⟨⟩) h_4 ⟨⟩ ⟨⟩) h_2 ⟨⟩ ⟨⟩) h_1 ⟨⟩) ⟨⟩ ⟨⟩) h ⟨⟩

theorem n10_calls {s0 name1 bits2 room3 : Value} {R : Value → Heap → Prop} {h : Heap} (H : n10 s0 name1 bits2 room3 R h) : CallsH Tryz.prog 10 #[s0, name1, bits2, room3] h R ⟨⟩ :=
 callsH_of_eq Tryz.follow .l Tryz.func10 (by kernel_rfl) (by kernel_rfl) (by kernel_rfl) H

/-- palimpsest/palimpsestlaw14.num -/
def n11 (e0 : Value) (R : Value → Heap → Prop) (h : Heap) : Prop :=
 R e0 h

theorem n11_calls {e0 : Value} {R : Value → Heap → Prop} {h : Heap} (H : n11 e0 R h) : CallsH Tryz.prog 11 #[e0] h R ⟨⟩ :=
 callsH_of_eq Tryz.follow .l Tryz.func11 (by kernel_rfl) (by kernel_rfl) (by kernel_rfl) H

/-- (*palimpsest/cache.Cache).Write -/
def n13 (c0 n1 at2 b3 : Value) (R : Value → Heap → Prop) (h : Heap) : Prop :=
 Hp Tryz.prog false (Builtin.len_ #[33] 3 #[b3]) (fun t16 h_1 => 
 CallsH Tryz.prog 39 #[c0, n1, at2, t16] h_1 (fun t17 h_2 => 
 Hp Tryz.prog false (Instr.extract t17 0) (fun t18 h_3 => 
 Hp Tryz.prog false (Instr.extract t17 1) (fun t19 h_4 => 
 Hp Tryz.prog false (binS .neq 29 (.tmp 20) (.const (.int .i64 0)) t19 (.int .i64 0)) (fun t21 h_5 => 
 CondP t21 (
 R t19 h_5) (
 Hp Tryz.prog false (nilS t18) (fun t24 h_6 => 
 Hp Tryz.prog false (Instr.fieldAt 99 t24 1) (fun t25 h_7 => 
 Hp Tryz.prog false (Instr.loadAt 33 t25) (fun t26 h_8 => 
 Hp Tryz.prog false (Instr.sliceAt 33 t26 (some at2) none none) (fun t28 h_9 => 
 Hp Tryz.prog false (Builtin.copy_ #[33, 33] 3 #[t28, b3]) (fun t30 h_10 => 
 Hp Tryz.prog false (nilS t18) (fun t33 h_11 => 
 Hp Tryz.prog false (Instr.fieldAt 99 t33 2) (fun t34 h_12 => 
 Hp Tryz.prog false (Instr.loadAt 4 t34) (fun t35 h_13 => 
 Join1 (fun k h_14 => guardP t35 false (k b3 h_14) (k undef h_14) ⟨⟩ ⟨⟩) (fun t37 h_15 => 
 Join1 (fun k_1 h_16 => guardP t35 false (Hp Tryz.prog false (Builtin.len_ #[33] 3 #[t37]) k_1 h_16 ⟨⟩) (k_1 undef h_16) ⟨⟩ ⟨⟩) (fun t38 h_17 => 
 Join1 (fun k_2 h_18 => guardP t35 false (Hp Tryz.prog false (binS .gtr 3 (.tmp 38) (.const (.int .i64 0)) t38 (.int .i64 0)) k_2 h_18 ⟨⟩) (k_2 undef h_18) ⟨⟩ ⟨⟩) (fun t39 h_19 => 
 Hp Tryz.prog false (pickS t35 (.bool true) t39) (fun t40 h_20 => 
 Hp Tryz.prog false (nilS t18) (fun t41 h_21 => 
 Hp Tryz.prog false (Instr.fieldAt 99 t41 2) (fun t42 h_22 => 
 Hp Tryz.prog false (storeS 4 t42 t40) (fun _ h_23 => 
 R (.int .i64 0) h_23) h_22 ⟨⟩) h_21 ⟨⟩) h_20 ⟨⟩) h_19 ⟨⟩) h_17 ⟨⟩ ⟨⟩) h_15 ⟨⟩ ⟨⟩) h_13 ⟨⟩ ⟨⟩) h_12 ⟨⟩) h_11 ⟨⟩) h_10 ⟨⟩) h_9 ⟨⟩) h_8 ⟨⟩) h_7 ⟨⟩) h_6 ⟨⟩) h_5 ⟨⟩) ⟨⟩ ⟨⟩) h_4 ⟨⟩) h_3 ⟨⟩) h_2 ⟨⟩) ⟨⟩) h ⟨⟩

theorem n13_calls {c0 n1 at2 b3 : Value} {R : Value → Heap → Prop} {h : Heap} (H : n13 c0 n1 at2 b3 R h) : CallsH Tryz.prog 13 #[c0, n1, at2, b3] h R ⟨⟩ :=
 callsH_of_eq Tryz.follow .l Tryz.func13 (by kernel_rfl) (by kernel_rfl) (by kernel_rfl) H

/-- (*palimpsest/cache.Cache).After -/
def n14 (c0 n1 other2 : Value) (R : Value → Heap → Prop) (h : Heap) : Prop :=
 CallsH Tryz.prog 41 #[c0, n1] h (fun t11 h_1 => 
 Hp Tryz.prog false (binS .neq 29 (.tmp 12) (.const (.int .i64 0)) t11 (.int .i64 0)) (fun t13 h_2 => 
 CondP t13 (
 R t11 h_2) (
 CallsH Tryz.prog 41 #[c0, other2] h_2 (fun t17 h_3 => 
 Hp Tryz.prog false (binS .neq 29 (.tmp 18) (.const (.int .i64 0)) t17 (.int .i64 0)) (fun t19 h_4 => 
 CondP t19 (
 R t17 h_4) (
 JoinN 0 (fun (k : Heap → Prop) h_5 =>
 JoinN 0 (fun (k_1 : Heap → Prop) h_6 =>
 Hp Tryz.prog false (binS .eql 2 (.tmp 22) (.tmp 23) n1 other2) (fun t24 h_7 => 
 Join1 (fun k_2 h_8 => guardP t24 false (k_2 c0 h_8) (k_2 undef h_8) ⟨⟩ ⟨⟩) (fun t26 h_9 => 
 Join1 (fun k_3 h_10 => guardP t24 false (k_3 other2 h_10) (k_3 undef h_10) ⟨⟩ ⟨⟩) (fun t27 h_11 => 
 Join1 (fun k_4 h_12 => guardP t24 false (k_4 n1 h_12) (k_4 undef h_12) ⟨⟩ ⟨⟩) (fun t28 h_13 => 
 Join1 (fun k_5 h_14 => guardP t24 false (CallsH Tryz.prog 42 #[t26, t27, t28] h_14 k_5 ⟨⟩) (k_5 undef h_14) ⟨⟩ ⟨⟩) (fun t29 h_15 => 
 Hp Tryz.prog false (pickS t24 (.bool true) t29) (fun t30 h_16 => 
 CondP t30 (
 R (.int .i64 240) h_16) (
 CallsH Tryz.prog 43 #[c0, other2] h_16 (fun t34 h_17 => 
 Hp Tryz.prog false (Op.unary .not t34) (fun t35 h_18 => 
 CondP t35 (
 R (.int .i64 0) h_18) (
 Hp Tryz.prog false (nilS c0) (fun t38 h_19 => 
 Hp Tryz.prog false (Instr.fieldAt 93 t38 6) (fun t39 h_20 => 
 Hp Tryz.prog false (Instr.loadAt 91 t39) (fun t40 h_21 => 
 Hp Tryz.prog false (Instr.lookup 91 t40 n1 false) (fun t42 h_22 => 
 Hp Tryz.prog false (binS .eql 90 (.tmp 42) (.const (.map none)) t42 (.map none)) (fun t43 h_23 => 
 CondP t43 (
 Hp Tryz.prog false (nilS c0) (fun t45 h_24 => 
 Hp Tryz.prog false (Instr.fieldAt 93 t45 6) (fun t46 h_25 => 
 Hp Tryz.prog false (Instr.loadAt 91 t46) (fun t47 h_26 => 
 Hp Tryz.prog false (Instr.makeMap 90 none) (fun t49 h_27 => 
 Hp Tryz.prog false (unitS (Instr.mapUpdate 91 t47 n1 t49)) (fun _ h_28 => 
 k_1 h_28) h_27 ⟨⟩) h_26 ⟨⟩) h_25 ⟨⟩) h_24 ⟨⟩) h_23 ⟨⟩) (
 k_1 h_23) ⟨⟩ ⟨⟩) h_22 ⟨⟩) h_21 ⟨⟩) h_20 ⟨⟩) h_19 ⟨⟩) h_18 ⟨⟩) ⟨⟩ ⟨⟩) h_17 ⟨⟩) ⟨⟩) ⟨⟩ ⟨⟩) h_15 ⟨⟩) h_13 ⟨⟩ ⟨⟩) h_11 ⟨⟩ ⟨⟩) h_9 ⟨⟩ ⟨⟩) h_7 ⟨⟩ ⟨⟩) h_6 ⟨⟩)
 (fun h_29 =>
 k h_29) h_5 ⟨⟩ ⟨⟩)
 (fun h_30 =>
 Hp Tryz.prog false (nilS c0) (fun t51 h_31 => 
 Hp Tryz.prog false (Instr.fieldAt 93 t51 6) (fun t52 h_32 => 
 Hp Tryz.prog false (Instr.loadAt 91 t52) (fun t53 h_33 => 
 Hp Tryz.prog false (Instr.lookup 91 t53 n1 false) (fun t55 h_34 => 
 Hp Tryz.prog false (unitS (Instr.mapUpdate 90 t55 other2 (.bool true))) (fun _ h_35 => 
 R (.int .i64 0) h_35) h_34 ⟨⟩) h_33 ⟨⟩) h_32 ⟨⟩) h_31 ⟨⟩) h_30 ⟨⟩) h_4 ⟨⟩ ⟨⟩) ⟨⟩ ⟨⟩) h_3 ⟨⟩) ⟨⟩) ⟨⟩ ⟨⟩) h_1 ⟨⟩) ⟨⟩

theorem n14_calls {c0 n1 other2 : Value} {R : Value → Heap → Prop} {h : Heap} (H : n14 c0 n1 other2 R h) : CallsH Tryz.prog 14 #[c0, n1, other2] h R ⟨⟩ :=
 callsH_of_eq Tryz.follow (.n none .l (.n none .l (.n none .l (.n (some []) (.n (some []) .l .l) .l)))) Tryz.func14 (by kernel_rfl) (by kernel_rfl) (by kernel_rfl) H

/-- (*palimpsest/cache.Cache).Back -/
def n15 (c0 n1 : Value) (R : Value → Heap → Prop) (h : Heap) : Prop :=
 CallsH Tryz.prog 41 #[c0, n1] h (fun t8 h_1 => 
 Hp Tryz.prog false (binS .neq 29 (.tmp 10) (.const (.int .i64 0)) t8 (.int .i64 0)) (fun t11 h_2 => 
 CondP t11 (
 R t8 h_2) (
 Hp Tryz.prog false (nilS c0) (fun t15 h_3 => 
 Hp Tryz.prog false (Instr.fieldAt 93 t15 4) (fun t16 h_4 => 
 Hp Tryz.prog false (Instr.loadAt 88 t16) (fun t17 h_5 => 
 Hp Tryz.prog false (Instr.lookup 88 t17 n1 false) (fun t19 h_6 => 
 Hp Tryz.prog false (binS .eql 94 (.tmp 19) (.const (.pointer none)) t19 (.pointer none)) (fun t20 h_7 => 
 CondP t20 (
 R (.int .i64 7) h_7) (
 CallsH Tryz.prog 44 #[c0, n1] h_7 (fun t23 h_8 => 
 R t23 h_8) ⟨⟩) ⟨⟩ ⟨⟩) h_6 ⟨⟩) h_5 ⟨⟩) h_4 ⟨⟩) h_3 ⟨⟩) h_2 ⟨⟩) ⟨⟩ ⟨⟩) h_1 ⟨⟩) ⟨⟩

theorem n15_calls {c0 n1 : Value} {R : Value → Heap → Prop} {h : Heap} (H : n15 c0 n1 R h) : CallsH Tryz.prog 15 #[c0, n1] h R ⟨⟩ :=
 callsH_of_eq Tryz.follow .l Tryz.func15 (by kernel_rfl) (by kernel_rfl) (by kernel_rfl) H

/-- (*palimpsest/cache.Cache).Flush -/
def n16 (c0 : Value) (R : Value → Heap → Prop) (h : Heap) : Prop :=
 CallsH Tryz.prog 41 #[c0, (.int .i64 0)] h (fun t8 h_1 => 
 Hp Tryz.prog false (binS .neq 29 (.tmp 9) (.const (.int .i64 0)) t8 (.int .i64 0)) (fun t10 h_2 => 
 CondP t10 (
 R t8 h_2) (
 Hp Tryz.prog false (nilS c0) (fun t13 h_3 => 
 Hp Tryz.prog false (Instr.fieldAt 93 t13 4) (fun t14 h_4 => 
 Hp Tryz.prog false (Instr.loadAt 88 t14) (fun t15 h_5 => 
 CallsH Tryz.prog 46 #[t15] h_5 (fun t16 h_6 => 
 CallsH Tryz.prog 45 #[t16] h_6 (fun t17 h_7 => 
 Hp Tryz.prog false (Builtin.len_ #[102] 3 #[t17]) (fun t18 h_8 => 
 LoopC 1 (fun (X : Value → Heap → Prop) => fun t19 h_9 =>
 Hp Tryz.prog false (binS .lss 3 (.tmp 19) (.tmp 18) t19 t18) (fun t20 h_10 => 
 CondP t20 (
 Hp Tryz.prog false (Instr.indexAt 102 t17 t19) (fun t21 h_11 => 
 Hp Tryz.prog false (Instr.loadAt 2 t21) (fun t22 h_12 => 
 CallsH Tryz.prog 44 #[c0, t22] h_12 (fun t25 h_13 => 
 Hp Tryz.prog false (binS .neq 29 (.tmp 26) (.const (.int .i64 0)) t25 (.int .i64 0)) (fun t27 h_14 => 
 CondP t27 (
 R t25 h_14) (
 Hp Tryz.prog false (binS .add 3 (.tmp 19) (.const (.int .i64 1)) t19 (.int .i64 1)) (fun t29 h_15 => 
 X t29 h_15) h_14 ⟨⟩) ⟨⟩ ⟨⟩) h_13 ⟨⟩) ⟨⟩) h_11 ⟨⟩) h_10 ⟨⟩) (
 CallsH Tryz.prog 47 #[c0] h_10 (fun t31 h_16 => 
 R t31 h_16) ⟨⟩) ⟨⟩ ⟨⟩) h_9 ⟨⟩) [(.int .i64 0)] h_8 ⟨⟩) h_7 ⟨⟩) ⟨⟩) ⟨⟩) h_4 ⟨⟩) h_3 ⟨⟩) h_2 ⟨⟩) ⟨⟩ ⟨⟩) h_1 ⟨⟩) ⟨⟩

theorem n16_calls {c0 : Value} {R : Value → Heap → Prop} {h : Heap} (H : n16 c0 R h) : CallsH Tryz.prog 16 #[c0] h R ⟨⟩ :=
 callsH_of_eq Tryz.follow (.n none .l (.n none .l (.n none (.n none .l (.n none (.n (some [20]) .l .l) .l)) .l))) Tryz.func16 (by kernel_rfl) (by kernel_rfl) (by kernel_rfl) H

/-- (*palimpsest/store.Store).Size -/
def n18 (s0 name1 : Value) (R : Value → Heap → Prop) (h : Heap) : Prop :=
 CallsH Tryz.prog 50 #[s0, name1] h (fun t11 h_1 => 
 Hp Tryz.prog false (Instr.extract t11 0) (fun t12 h_2 => 
 Hp Tryz.prog false (Instr.extract t11 1) (fun t13 h_3 => 
 Hp Tryz.prog false (binS .neq 29 (.tmp 14) (.const (.int .i64 0)) t13 (.int .i64 0)) (fun t15 h_4 => 
 CondP t15 (
 R (.tuple #[(.int .i64 0), t13]) h_4) (
 Hp Tryz.prog false (nilS t12) (fun t18 h_5 => 
 Hp Tryz.prog false (Instr.fieldAt 115 t18 2) (fun t19 h_6 => 
 Hp Tryz.prog false (Instr.loadAt 33 t19) (fun t20 h_7 => 
 Hp Tryz.prog false (Builtin.len_ #[33] 3 #[t20]) (fun t21 h_8 => 
 R (.tuple #[t21, (.int .i64 0)]) h_8) h_7 ⟨⟩) h_6 ⟨⟩) h_5 ⟨⟩) h_4 ⟨⟩) ⟨⟩ ⟨⟩) h_3 ⟨⟩) h_2 ⟨⟩) h_1 ⟨⟩) ⟨⟩

theorem n18_calls {s0 name1 : Value} {R : Value → Heap → Prop} {h : Heap} (H : n18 s0 name1 R h) : CallsH Tryz.prog 18 #[s0, name1] h R ⟨⟩ :=
 callsH_of_eq Tryz.follow .l Tryz.func18 (by kernel_rfl) (by kernel_rfl) (by kernel_rfl) H

/-- (*palimpsest/store.Store).Read -/
def n19 (s0 name1 at2 n3 : Value) (R : Value → Heap → Prop) (h : Heap) : Prop :=
 CallsH Tryz.prog 50 #[s0, name1] h (fun t16 h_1 => 
 Hp Tryz.prog false (Instr.extract t16 0) (fun t17 h_2 => 
 Hp Tryz.prog false (Instr.extract t16 1) (fun t18 h_3 => 
 Hp Tryz.prog false (binS .neq 29 (.tmp 20) (.const (.int .i64 0)) t18 (.int .i64 0)) (fun t21 h_4 => 
 CondP t21 (
 R (.tuple #[(.slice none 0 0), t18]) h_4) (
 Hp Tryz.prog false (binS .lss 2 (.tmp 24) (.const (.int .i64 0)) at2 (.int .i64 0)) (fun t25 h_5 => 
 Join1 (fun k h_6 => guardP t25 false (k at2 h_6) (k undef h_6) ⟨⟩ ⟨⟩) (fun t27 h_7 => 
 Join1 (fun k_1 h_8 => guardP t25 false (k_1 t17 h_8) (k_1 undef h_8) ⟨⟩ ⟨⟩) (fun t28 h_9 => 
 Join1 (fun k_2 h_10 => guardP t25 false (Hp Tryz.prog false (nilS t28) k_2 h_10 ⟨⟩) (k_2 undef h_10) ⟨⟩ ⟨⟩) (fun t29 h_11 => 
 Join1 (fun k_3 h_12 => guardP t25 false (Hp Tryz.prog false (Instr.fieldAt 115 t29 2) k_3 h_12 ⟨⟩) (k_3 undef h_12) ⟨⟩ ⟨⟩) (fun t30 h_13 => 
 Join1 (fun k_4 h_14 => guardP t25 false (Hp Tryz.prog false (Instr.loadAt 33 t30) k_4 h_14 ⟨⟩) (k_4 undef h_14) ⟨⟩ ⟨⟩) (fun t31 h_15 => 
 Join1 (fun k_5 h_16 => guardP t25 false (Hp Tryz.prog false (Builtin.len_ #[33] 3 #[t31]) k_5 h_16 ⟨⟩) (k_5 undef h_16) ⟨⟩ ⟨⟩) (fun t32 h_17 => 
 Join1 (fun k_6 h_18 => guardP t25 false (Hp Tryz.prog false (binS .gtr 2 (.tmp 27) (.tmp 32) t27 t32) k_6 h_18 ⟨⟩) (k_6 undef h_18) ⟨⟩ ⟨⟩) (fun t33 h_19 => 
 Hp Tryz.prog false (pickS t25 (.bool true) t33) (fun t34 h_20 => 
 Join1 (fun k_7 h_21 => guardP t34 false (k_7 n3 h_21) (k_7 undef h_21) ⟨⟩ ⟨⟩) (fun t36 h_22 => 
 Join1 (fun k_8 h_23 => guardP t34 false (Hp Tryz.prog false (binS .lss 3 (.tmp 36) (.const (.int .i64 0)) t36 (.int .i64 0)) k_8 h_23 ⟨⟩) (k_8 undef h_23) ⟨⟩ ⟨⟩) (fun t37 h_24 => 
 Hp Tryz.prog false (pickS t34 (.bool true) t37) (fun t38 h_25 => 
 CondP t38 (
 R (.tuple #[(.slice none 0 0), (.int .i64 4)]) h_25) (
 Hp Tryz.prog false (nilS t17) (fun t40 h_26 => 
 Hp Tryz.prog false (Instr.fieldAt 115 t40 2) (fun t41 h_27 => 
 Hp Tryz.prog false (Instr.loadAt 33 t41) (fun t42 h_28 => 
 Hp Tryz.prog false (Instr.sliceAt 33 t42 (some at2) none none) (fun t44 h_29 => 
 Hp Tryz.prog false (Builtin.len_ #[33] 3 #[t44]) (fun t48 h_30 => 
 Hp Tryz.prog false (Builtin.min_ #[3, 3] 3 #[n3, t48]) (fun t49 h_31 => 
 Hp Tryz.prog false (Instr.sliceAt 33 t44 none (some t49) none) (fun t50 h_32 => 
 CallsH Tryz.prog 51 #[t50] h_32 (fun t51 h_33 => 
 R (.tuple #[t51, (.int .i64 0)]) h_33) ⟨⟩) h_31 ⟨⟩) h_30 ⟨⟩) h_29 ⟨⟩) h_28 ⟨⟩) h_27 ⟨⟩) h_26 ⟨⟩) h_25 ⟨⟩) ⟨⟩ ⟨⟩) h_24 ⟨⟩) h_22 ⟨⟩ ⟨⟩) h_20 ⟨⟩ ⟨⟩) h_19 ⟨⟩) h_17 ⟨⟩ ⟨⟩) h_15 ⟨⟩ ⟨⟩) h_13 ⟨⟩ ⟨⟩) h_11 ⟨⟩ ⟨⟩) h_9 ⟨⟩ ⟨⟩) h_7 ⟨⟩ ⟨⟩) h_5 ⟨⟩ ⟨⟩) h_4 ⟨⟩) ⟨⟩ ⟨⟩) h_3 ⟨⟩) h_2 ⟨⟩) h_1 ⟨⟩) ⟨⟩

theorem n19_calls {s0 name1 at2 n3 : Value} {R : Value → Heap → Prop} {h : Heap} (H : n19 s0 name1 at2 n3 R h) : CallsH Tryz.prog 19 #[s0, name1, at2, n3] h R ⟨⟩ :=
 callsH_of_eq Tryz.follow .l Tryz.func19 (by kernel_rfl) (by kernel_rfl) (by kernel_rfl) H

/-- palimpsest/palimpsestref06.Right -/
def n21 (l0 : Value) (R : Value → Heap → Prop) (h : Heap) : Prop :=
 LoopC 1 (fun (X : Value → Heap → Prop) => fun i3 h_1 =>
 Hp Tryz.prog false (Builtin.len_ #[48] 3 #[l0]) (fun t6 h_2 => 
 Hp Tryz.prog false (binS .lss 3 (.tmp 4) (.tmp 6) i3 t6) (fun t7 h_3 => 
 CondP t7 (
 Hp Tryz.prog false (Instr.indexAt 48 l0 i3) (fun t12 h_4 => 
 Hp Tryz.prog false (Instr.fieldAt 118 t12 0) (fun t13 h_5 => 
 Hp Tryz.prog false (Instr.loadAt 116 t13) (fun t14 h_6 => 
 Hp Tryz.prog false (binS .lss 116 (.tmp 14) (.const (.int .i64 0)) t14 (.int .i64 0)) (fun t15 h_7 => 
 Join1 (fun k h_8 => guardP t15 false (k l0 h_8) (k undef h_8) ⟨⟩ ⟨⟩) (fun t17 h_9 => 
 Join1 (fun k_1 h_10 => guardP t15 false (k_1 i3 h_10) (k_1 undef h_10) ⟨⟩ ⟨⟩) (fun t18 h_11 => 
 Join1 (fun k_2 h_12 => guardP t15 false (Hp Tryz.prog false (Instr.indexAt 48 t17 t18) k_2 h_12 ⟨⟩) (k_2 undef h_12) ⟨⟩ ⟨⟩) (fun t19 h_13 => 
 Join1 (fun k_3 h_14 => guardP t15 false (Hp Tryz.prog false (Instr.fieldAt 118 t19 0) k_3 h_14 ⟨⟩) (k_3 undef h_14) ⟨⟩ ⟨⟩) (fun t20 h_15 => 
 Join1 (fun k_4 h_16 => guardP t15 false (Hp Tryz.prog false (Instr.loadAt 116 t20) k_4 h_16 ⟨⟩) (k_4 undef h_16) ⟨⟩ ⟨⟩) (fun t21 h_17 => 
 Join1 (fun k_5 h_18 => guardP t15 false (Hp Tryz.prog false (binS .gtr 116 (.tmp 21) (.const (.int .i64 2)) t21 (.int .i64 2)) k_5 h_18 ⟨⟩) (k_5 undef h_18) ⟨⟩ ⟨⟩) (fun t22 h_19 => 
 Hp Tryz.prog false (pickS t15 (.bool true) t22) (fun t23 h_20 => 
 CondP t23 (
 R (.bool false) h_20) (
 Hp Tryz.prog false (binS .add 3 (.tmp 8) (.const (.int .i64 1)) i3 (.int .i64 1)) (fun t9 h_21 => 
 X t9 h_21) h_20 ⟨⟩) ⟨⟩ ⟨⟩) h_19 ⟨⟩) h_17 ⟨⟩ ⟨⟩) h_15 ⟨⟩ ⟨⟩) h_13 ⟨⟩ ⟨⟩) h_11 ⟨⟩ ⟨⟩) h_9 ⟨⟩ ⟨⟩) h_7 ⟨⟩ ⟨⟩) h_6 ⟨⟩) h_5 ⟨⟩) h_4 ⟨⟩) h_3 ⟨⟩) (
 R (.bool true) h_3) ⟨⟩ ⟨⟩) h_2 ⟨⟩) h_1 ⟨⟩) [(.int .i64 0)] h ⟨⟩

theorem n21_calls {l0 : Value} {R : Value → Heap → Prop} {h : Heap} (H : n21 l0 R h) : CallsH Tryz.prog 21 #[l0] h R ⟨⟩ :=
 callsH_of_eq Tryz.follow (.n none .l (.n none (.n none .l (.n none (.n (some [4]) .l .l) .l)) .l)) Tryz.func21 (by kernel_rfl) (by kernel_rfl) (by kernel_rfl) H

/-- palimpsest/palimpsestlaw14.orderly -/
def n22 (s0 c1 l2 wrote3 picks4 : Value) (R : Value → Heap → Prop) (h : Heap) : Prop :=
 LoopC 2 (fun (X : Value → Value → Heap → Prop) => fun some11 i12 h_1 =>
 Hp Tryz.prog false (Builtin.len_ #[49] 3 #[picks4]) (fun t25 h_2 => 
 Hp Tryz.prog false (binS .lss 3 (.tmp 23) (.tmp 25) i12 t25) (fun t26 h_3 => 
 CondP t26 (
 Hp Tryz.prog false (Instr.indexAt 49 picks4 i12) (fun t32 h_4 => 
 Hp Tryz.prog false (Instr.loadAt 3 t32) (fun t33 h_5 => 
 Hp Tryz.prog false (Builtin.max_ #[3, 3] 3 #[(.int .i64 0), t33]) (fun t34 h_6 => 
 Hp Tryz.prog false (Instr.buildSlice 49 1 #[(0, t34)]) (fun t35 h_7 => 
 Hp Tryz.prog false (Builtin.append_ #[49, 49] 49 #[some11, t35]) (fun t36 h_8 => 
 Hp Tryz.prog false (binS .add 3 (.tmp 27) (.const (.int .i64 1)) i12 (.int .i64 1)) (fun t28 h_9 => 
 X t36 t28 h_9) h_8 ⟨⟩) h_7 ⟨⟩) h_6 ⟨⟩) h_5 ⟨⟩) h_4 ⟨⟩) h_3 ⟨⟩) (
 CallsH Tryz.prog 52 #[s0, some11] h_3 (fun t40 h_10 => 
 Hp Tryz.prog false (Instr.extract t40 0) (fun t41 h_11 => 
 Hp Tryz.prog false (Instr.extract t40 1) (fun t42 h_12 => 
 Hp Tryz.prog false (binS .eql 26 (.tmp 43) (.const (.pointer none)) t41 (.pointer none)) (fun t44 h_13 => 
 Join1 (fun k h_14 => guardP t44 false (k t42 h_14) (k undef h_14) ⟨⟩ ⟨⟩) (fun t46 h_15 => 
 Join1 (fun k_1 h_16 => guardP t44 false (CallsH Tryz.prog 11 #[t46] h_16 k_1 ⟨⟩) (k_1 undef h_16) ⟨⟩ ⟨⟩) (fun t47 h_17 => 
 Join1 (fun k_2 h_18 => guardP t44 false (Hp Tryz.prog false (binS .neq 3 (.tmp 47) (.const (.int .i64 0)) t47 (.int .i64 0)) k_2 h_18 ⟨⟩) (k_2 undef h_18) ⟨⟩ ⟨⟩) (fun t48 h_19 => 
 Hp Tryz.prog false (pickS t44 (.bool true) t48) (fun t49 h_20 => 
 CondP t49 (
 R (.bool false) h_20) (
 CallsH Tryz.prog 19 #[t41, (str [102]), (.int .i64 0), (.int .i64 4096)] h_20 (fun t52 h_21 => 
 Hp Tryz.prog false (Instr.extract t52 0) (fun t53 h_22 => 
 Hp Tryz.prog false (Instr.extract t52 1) (fun t54 h_23 => 
 CallsH Tryz.prog 11 #[t54] h_23 (fun t56 h_24 => 
 Hp Tryz.prog false (binS .neq 3 (.tmp 56) (.const (.int .i64 0)) t56 (.int .i64 0)) (fun t57 h_25 => 
 Join1 (fun k_3 h_26 => guardP t57 false (k_3 t53 h_26) (k_3 undef h_26) ⟨⟩ ⟨⟩) (fun t59 h_27 => 
 Join1 (fun k_4 h_28 => guardP t57 false (Hp Tryz.prog false (Builtin.len_ #[33] 3 #[t59]) k_4 h_28 ⟨⟩) (k_4 undef h_28) ⟨⟩ ⟨⟩) (fun t60 h_29 => 
 Join1 (fun k_5 h_30 => guardP t57 false (Hp Tryz.prog false (binS .neq 3 (.tmp 60) (.const (.int .i64 4096)) t60 (.int .i64 4096)) k_5 h_30 ⟨⟩) (k_5 undef h_30) ⟨⟩ ⟨⟩) (fun t61 h_31 => 
 Hp Tryz.prog false (pickS t57 (.bool true) t61) (fun t62 h_32 => 
 CondP t62 (
 R (.bool false) h_32) (
 LoopC 1 (fun (X_1 : Value → Heap → Prop) => fun i17 h_33 =>
 Hp Tryz.prog false (Builtin.len_ #[53] 3 #[l2]) (fun t65 h_34 => 
 Hp Tryz.prog false (binS .lss 3 (.tmp 63) (.tmp 65) i17 t65) (fun t66 h_35 => 
 CondP t66 (
 Hp Tryz.prog true (Instr.indexAt 53 l2 i17) (fun t72 _ => 
 Hp Tryz.prog true (Instr.fieldAt 55 t72 0) (fun t73 _ => 
 Hp Tryz.prog true (Instr.loadAt 2 t73) (fun t74 _ => 
 Hp Tryz.prog true (binS .mul 2 (.tmp 74) (.const (.int .i64 512)) t74 (.int .i64 512)) (fun t75 _ => 
 Hp Tryz.prog true (Instr.indexAt 33 t53 t75) (fun t76 _ => 
 Hp Tryz.prog true (Instr.loadAt 5 t76) (fun t77 _ => 
 Hp Tryz.prog true (Instr.indexAt 53 l2 i17) (fun t80 _ => 
 Hp Tryz.prog true (Instr.fieldAt 55 t80 2) (fun t81 _ => 
 Hp Tryz.prog true (Instr.loadAt 5 t81) (fun t82 _ => 
 Hp Tryz.prog true (binS .geq 5 (.tmp 77) (.tmp 82) t77 t82) (fun t83 _ => 
 Join1 (fun k_6 h_36 => guardP t83 true (k_6 t53 h_36) (k_6 undef h_36) ⟨⟩ ⟨⟩) (fun t85 _ => 
 Join1 (fun k_7 h_37 => guardP t83 true (k_7 l2 h_37) (k_7 undef h_37) ⟨⟩ ⟨⟩) (fun t86 _ => 
 Join1 (fun k_8 h_38 => guardP t83 true (k_8 i17 h_38) (k_8 undef h_38) ⟨⟩ ⟨⟩) (fun t87 _ => 
 Join1 (fun k_9 h_39 => guardP t83 true (Hp Tryz.prog true (Instr.indexAt 53 t86 t87) k_9 h_39 ⟨⟩) (k_9 undef h_39) ⟨⟩ ⟨⟩) (fun t88 _ => 
 Join1 (fun k_10 h_40 => guardP t83 true (Hp Tryz.prog true (Instr.fieldAt 55 t88 1) k_10 h_40 ⟨⟩) (k_10 undef h_40) ⟨⟩ ⟨⟩) (fun t89 _ => 
 Join1 (fun k_11 h_41 => guardP t83 true (Hp Tryz.prog true (Instr.loadAt 2 t89) k_11 h_41 ⟨⟩) (k_11 undef h_41) ⟨⟩ ⟨⟩) (fun t90 _ => 
 Join1 (fun k_12 h_42 => guardP t83 true (Hp Tryz.prog true (binS .mul 2 (.tmp 90) (.const (.int .i64 512)) t90 (.int .i64 512)) k_12 h_42 ⟨⟩) (k_12 undef h_42) ⟨⟩ ⟨⟩) (fun t91 _ => 
 Join1 (fun k_13 h_43 => guardP t83 true (Hp Tryz.prog true (Instr.indexAt 33 t85 t91) k_13 h_43 ⟨⟩) (k_13 undef h_43) ⟨⟩ ⟨⟩) (fun t92 _ => 
 Join1 (fun k_14 h_44 => guardP t83 true (Hp Tryz.prog true (Instr.loadAt 5 t92) k_14 h_44 ⟨⟩) (k_14 undef h_44) ⟨⟩ ⟨⟩) (fun t93 _ => 
 Join1 (fun k_15 h_45 => guardP t83 true (k_15 l2 h_45) (k_15 undef h_45) ⟨⟩ ⟨⟩) (fun t94 _ => 
 Join1 (fun k_16 h_46 => guardP t83 true (k_16 i17 h_46) (k_16 undef h_46) ⟨⟩ ⟨⟩) (fun t95 _ => 
 Join1 (fun k_17 h_47 => guardP t83 true (Hp Tryz.prog true (Instr.indexAt 53 t94 t95) k_17 h_47 ⟨⟩) (k_17 undef h_47) ⟨⟩ ⟨⟩) (fun t96 _ => 
 Join1 (fun k_18 h_48 => guardP t83 true (Hp Tryz.prog true (Instr.fieldAt 55 t96 3) k_18 h_48 ⟨⟩) (k_18 undef h_48) ⟨⟩ ⟨⟩) (fun t97 _ => 
 Join1 (fun k_19 h_49 => guardP t83 true (Hp Tryz.prog true (Instr.loadAt 5 t97) k_19 h_49 ⟨⟩) (k_19 undef h_49) ⟨⟩ ⟨⟩) (fun t98 _ => 
 Join1 (fun k_20 h_50 => guardP t83 true (Hp Tryz.prog true (binS .lss 5 (.tmp 93) (.tmp 98) t93 t98) k_20 h_50 ⟨⟩) (k_20 undef h_50) ⟨⟩ ⟨⟩) (fun t99 _ => 
 Hp Tryz.prog true (pickS t83 t99 (.bool false)) (fun t100 _ => 
 CondP t100 (
 R (.bool false) h_35) (
 Hp Tryz.prog false (binS .add 3 (.tmp 67) (.const (.int .i64 1)) i17 (.int .i64 1)) (fun t68 h_51 => 
 X_1 t68 h_51) h_35 ⟨⟩) ⟨⟩ ⟨⟩) #[] ⟨⟩) #[] ⟨⟩ ⟨⟩) h_35 ⟨⟩ ⟨⟩) #[] ⟨⟩ ⟨⟩) #[] ⟨⟩ ⟨⟩) #[] ⟨⟩ ⟨⟩) #[] ⟨⟩ ⟨⟩) h_35 ⟨⟩ ⟨⟩) #[] ⟨⟩ ⟨⟩) #[] ⟨⟩ ⟨⟩) h_35 ⟨⟩ ⟨⟩) #[] ⟨⟩ ⟨⟩) #[] ⟨⟩ ⟨⟩) #[] ⟨⟩ ⟨⟩) #[] ⟨⟩ ⟨⟩) #[] ⟨⟩ ⟨⟩) #[] ⟨⟩) h_35 ⟨⟩) #[] ⟨⟩) #[] ⟨⟩) h_35 ⟨⟩) #[] ⟨⟩) #[] ⟨⟩) h_35 ⟨⟩) #[] ⟨⟩) #[] ⟨⟩) (
 LoopC 1 (fun (X_2 : Value → Heap → Prop) => fun p18 h_52 =>
 Hp Tryz.prog false (binS .lss 2 (.tmp 101) (.const (.int .i64 8)) p18 (.int .i64 8)) (fun t102 h_53 => 
 CondP t102 (
 CallsH Tryz.prog 53 #[c1, p18] h_53 (fun t108 h_54 => 
 Hp Tryz.prog false (Instr.extract t108 0) (fun t109 h_55 => 
 Hp Tryz.prog false (Instr.extract t108 1) (fun t110 h_56 => 
 Hp Tryz.prog false (Instr.alloc 121 true undef) (fun x19 h_57 => 
 Hp Tryz.prog false (storeS 121 x19 t109) (fun _ h_58 => 
 CallsH Tryz.prog 11 #[t110] h_58 (fun t112 h_59 => 
 Hp Tryz.prog false (binS .neq 3 (.tmp 112) (.const (.int .i64 0)) t112 (.int .i64 0)) (fun t113 h_60 => 
 CondP t113 (
 R (.bool false) h_60) (
 Hp Tryz.prog false (binS .mul 2 (.tmp 116) (.const (.int .i64 512)) p18 (.int .i64 512)) (fun t117 h_61 => 
 CallsH Tryz.prog 19 #[s0, (str [102]), t117, (.int .i64 1)] h_61 (fun t118 h_62 => 
 Hp Tryz.prog false (Instr.extract t118 0) (fun t119 h_63 => 
 Hp Tryz.prog false (Instr.extract t118 1) (fun t120 h_64 => 
 CallsH Tryz.prog 11 #[t120] h_64 (fun t122 h_65 => 
 Hp Tryz.prog true (binS .neq 3 (.tmp 122) (.const (.int .i64 0)) t122 (.int .i64 0)) (fun t123 _ => 
 Join1 (fun k_21 h_66 => guardP t123 false (k_21 t119 h_66) (k_21 undef h_66) ⟨⟩ ⟨⟩) (fun t125 _ => 
 Join1 (fun k_22 h_67 => guardP t123 false (Hp Tryz.prog true (Builtin.len_ #[33] 3 #[t125]) k_22 h_67 ⟨⟩) (k_22 undef h_67) ⟨⟩ ⟨⟩) (fun t126 _ => 
 Join1 (fun k_23 h_68 => guardP t123 false (Hp Tryz.prog true (binS .neq 3 (.tmp 126) (.const (.int .i64 1)) t126 (.int .i64 1)) k_23 h_68 ⟨⟩) (k_23 undef h_68) ⟨⟩ ⟨⟩) (fun t127 _ => 
 Hp Tryz.prog true (pickS t123 (.bool true) t127) (fun t128 _ => 
 Join1 (fun k_24 h_69 => guardP t128 false (Hp Tryz.prog true (Instr.fieldAt 121 x19 0) k_24 h_69 ⟨⟩) (k_24 undef h_69) ⟨⟩ ⟨⟩) (fun t130 _ => 
 Join1 (fun k_25 h_70 => guardP t128 false (Hp Tryz.prog true (Instr.loadAt 4 t130) k_25 h_70 ⟨⟩) (k_25 undef h_70) ⟨⟩ ⟨⟩) (fun t131 _ => 
 Join1 (fun k_26 h_71 => guardP t128 false (Hp Tryz.prog true (Op.unary .not t131) k_26 h_71 ⟨⟩) (k_26 undef h_71) ⟨⟩ ⟨⟩) (fun t132 _ => 
 Join1 (fun k_27 h_72 => guardP t128 false (k_27 t132 h_72) (k_27 undef h_72) ⟨⟩ ⟨⟩) (fun t133 _ => 
 Join1 (fun k_28 h_73 => guardP t133 true (k_28 t119 h_73) (k_28 undef h_73) ⟨⟩ ⟨⟩) (fun t134 _ => 
 Join1 (fun k_29 h_74 => guardP t133 true (Hp Tryz.prog true (Instr.indexAt 33 t134 (.int .i64 0)) k_29 h_74 ⟨⟩) (k_29 undef h_74) ⟨⟩ ⟨⟩) (fun t135 _ => 
 Join1 (fun k_30 h_75 => guardP t133 true (Hp Tryz.prog true (Instr.loadAt 5 t135) k_30 h_75 ⟨⟩) (k_30 undef h_75) ⟨⟩ ⟨⟩) (fun t136 _ => 
 Join1 (fun k_31 h_76 => guardP t133 true (k_31 wrote3 h_76) (k_31 undef h_76) ⟨⟩ ⟨⟩) (fun t137 _ => 
 Join1 (fun k_32 h_77 => guardP t133 true (k_32 p18 h_77) (k_32 undef h_77) ⟨⟩ ⟨⟩) (fun t138 _ => 
 Join1 (fun k_33 h_78 => guardP t133 true (Hp Tryz.prog true (Instr.indexAt 33 t137 t138) k_33 h_78 ⟨⟩) (k_33 undef h_78) ⟨⟩ ⟨⟩) (fun t139 _ => 
 Join1 (fun k_34 h_79 => guardP t133 true (Hp Tryz.prog true (Instr.loadAt 5 t139) k_34 h_79 ⟨⟩) (k_34 undef h_79) ⟨⟩ ⟨⟩) (fun t140 _ => 
 Join1 (fun k_35 h_80 => guardP t133 true (Hp Tryz.prog true (binS .neq 5 (.tmp 136) (.tmp 140) t136 t140) k_35 h_80 ⟨⟩) (k_35 undef h_80) ⟨⟩ ⟨⟩) (fun t141 _ => 
 Join1 (fun k_36 h_81 => guardP t128 false (Hp Tryz.prog true (pickS t133 t141 (.bool false)) k_36 h_81 ⟨⟩) (k_36 undef h_81) ⟨⟩ ⟨⟩) (fun t142 _ => 
 Hp Tryz.prog true (pickS t128 (.bool true) t142) (fun t143 _ => 
 CondP t143 (
 R (.bool false) h_65) (
 Hp Tryz.prog false (binS .add 2 (.tmp 103) (.const (.int .i64 1)) p18 (.int .i64 1)) (fun t104 h_82 => 
 X_2 t104 h_82) h_65 ⟨⟩) ⟨⟩ ⟨⟩) #[] ⟨⟩) #[] ⟨⟩ ⟨⟩) #[] ⟨⟩ ⟨⟩) h_65 ⟨⟩ ⟨⟩) #[] ⟨⟩ ⟨⟩) #[] ⟨⟩ ⟨⟩) #[] ⟨⟩ ⟨⟩) h_65 ⟨⟩ ⟨⟩) #[] ⟨⟩ ⟨⟩) #[] ⟨⟩ ⟨⟩) #[] ⟨⟩ ⟨⟩) #[] ⟨⟩ ⟨⟩) h_65 ⟨⟩ ⟨⟩) #[] ⟨⟩ ⟨⟩) #[] ⟨⟩) #[] ⟨⟩ ⟨⟩) #[] ⟨⟩ ⟨⟩) #[] ⟨⟩ ⟨⟩) #[] ⟨⟩) ⟨⟩) h_63 ⟨⟩) h_62 ⟨⟩) ⟨⟩) h_60 ⟨⟩) ⟨⟩ ⟨⟩) h_59 ⟨⟩) ⟨⟩) h_57 ⟨⟩) h_56 ⟨⟩) h_55 ⟨⟩) h_54 ⟨⟩) ⟨⟩) (
 R (.bool true) h_53) ⟨⟩ ⟨⟩) h_52 ⟨⟩) [(.int .i64 0)] h_35 ⟨⟩) ⟨⟩ ⟨⟩) h_34 ⟨⟩) h_33 ⟨⟩) [(.int .i64 0)] h_32 ⟨⟩) ⟨⟩ ⟨⟩) h_31 ⟨⟩) h_29 ⟨⟩ ⟨⟩) h_27 ⟨⟩ ⟨⟩) h_25 ⟨⟩ ⟨⟩) h_24 ⟨⟩) ⟨⟩) h_22 ⟨⟩) h_21 ⟨⟩) ⟨⟩) ⟨⟩ ⟨⟩) h_19 ⟨⟩) h_17 ⟨⟩ ⟨⟩) h_15 ⟨⟩ ⟨⟩) h_13 ⟨⟩ ⟨⟩) h_12 ⟨⟩) h_11 ⟨⟩) h_10 ⟨⟩) ⟨⟩) ⟨⟩ ⟨⟩) h_2 ⟨⟩) h_1 ⟨⟩) [(.slice none 0 0), (.int .i64 0)] h ⟨⟩

theorem n22_calls {s0 c1 l2 wrote3 picks4 : Value} {R : Value → Heap → Prop} {h : Heap} (H : n22 s0 c1 l2 wrote3 picks4 R h) : CallsH Tryz.prog 22 #[s0, c1, l2, wrote3, picks4] h R ⟨⟩ :=
 callsH_of_eq Tryz.follow (.n none .l (.n none .l (.n none (.n none .l (.n none (.n (some [12, 13]) .l .l) .l)) (.n none .l (.n none .l (.n none .l (.n none .l (.n none (.n none .l (.n none (.n (some [18]) .l .l) .l)) (.n none (.n none .l (.n none (.n (some [19]) .l .l) .l)) .l))))))))) Tryz.func22 (by kernel_rfl) (by kernel_rfl) (by kernel_rfl) H

/-- (*palimpsest/cache.Cache).Pages -/
def n33 (c0 : Value) (R : Value → Heap → Prop) (h : Heap) : Prop :=
 Hp Tryz.prog false (binS .eql 28 (.tmp 3) (.const (.pointer none)) c0 (.pointer none)) (fun t4 h_1 => 
 CondP t4 (
 CallsH Tryz.prog 73 #[(.slice none 0 0)] h_1 (fun t5 h_2 => 
 R t5 h_2) ⟨⟩) (
 Hp Tryz.prog false (nilS c0) (fun t7 h_3 => 
 Hp Tryz.prog false (Instr.fieldAt 93 t7 4) (fun t8 h_4 => 
 Hp Tryz.prog false (Instr.loadAt 88 t8) (fun t9 h_5 => 
 CallsH Tryz.prog 46 #[t9] h_5 (fun t10 h_6 => 
 CallsH Tryz.prog 45 #[t10] h_6 (fun t11 h_7 => 
 CallsH Tryz.prog 73 #[t11] h_7 (fun t12 h_8 => 
 R t12 h_8) ⟨⟩) ⟨⟩) ⟨⟩) h_4 ⟨⟩) h_3 ⟨⟩) h_1 ⟨⟩) ⟨⟩ ⟨⟩) h ⟨⟩

theorem n33_calls {c0 : Value} {R : Value → Heap → Prop} {h : Heap} (H : n33 c0 R h) : CallsH Tryz.prog 33 #[c0] h R ⟨⟩ :=
 callsH_of_eq Tryz.follow .l Tryz.func33 (by kernel_rfl) (by kernel_rfl) (by kernel_rfl) H

/-- (*palimpsest/cache.Cache).Counts -/
def n34 (c0 : Value) (R : Value → Heap → Prop) (h : Heap) : Prop :=
 Hp Tryz.prog false (Instr.alloc 81 true undef) (fun t2 h_1 => 
 Hp Tryz.prog false (binS .eql 28 (.tmp 3) (.const (.pointer none)) c0 (.pointer none)) (fun t4 h_2 => 
 CondP t4 (
 Hp Tryz.prog false (Instr.build 81 #[]) (fun t5 h_3 => 
 Hp Tryz.prog false (storeS 81 t2 t5) (fun _ h_4 => 
 Hp Tryz.prog true (loadCell 81 t2) (fun r _ =>
 R r h_4) h_4 ⟨⟩) h_3 ⟨⟩) h_2 ⟨⟩) (
 Hp Tryz.prog false (nilS c0) (fun t7 h_5 => 
 Hp Tryz.prog false (Instr.fieldAt 93 t7 8) (fun t8 h_6 => 
 Hp Tryz.prog false (Instr.loadAt 81 t8) (fun t9 h_7 => 
 Hp Tryz.prog false (storeS 81 t2 t9) (fun _ h_8 => 
 Hp Tryz.prog true (loadCell 81 t2) (fun r_1 _ =>
 R r_1 h_8) h_8 ⟨⟩) h_7 ⟨⟩) h_6 ⟨⟩) h_5 ⟨⟩) h_2 ⟨⟩) ⟨⟩ ⟨⟩) h_1 ⟨⟩) h ⟨⟩

theorem n34_calls {c0 : Value} {R : Value → Heap → Prop} {h : Heap} (H : n34 c0 R h) : CallsH Tryz.prog 34 #[c0] h R ⟨⟩ :=
 callsH_of_eq Tryz.follow .l Tryz.func34 (by kernel_rfl) (by kernel_rfl) (by kernel_rfl) H

/-- palimpsest/store.New -/
def n35 (fates0 : Value) (R : Value → Heap → Prop) (h : Heap) : Prop :=
 CallsH Tryz.prog 74 #[fates0] h (fun t5 h_1 => 
 Hp Tryz.prog false (Op.unary .not t5) (fun t6 h_2 => 
 CondP t6 (
 R (.tuple #[(.pointer none), (.int .i64 2)]) h_2) (
 Hp Tryz.prog false (Instr.makeMap 153 none) (fun t7 h_3 => 
 CallsH Tryz.prog 75 #[fates0] h_3 (fun t9 h_4 => 
 Hp Tryz.prog false (Instr.build 156 #[(0, t7), (1, t9)]) (fun t10 h_5 => 
 Hp Tryz.prog false (Instr.box 156 t10) (fun t11 h_6 => 
 R (.tuple #[t11, (.int .i64 0)]) h_6) h_5 ⟨⟩) h_4 ⟨⟩) ⟨⟩) h_2 ⟨⟩) ⟨⟩ ⟨⟩) h_1 ⟨⟩) ⟨⟩

theorem n35_calls {fates0 : Value} {R : Value → Heap → Prop} {h : Heap} (H : n35 fates0 R h) : CallsH Tryz.prog 35 #[fates0] h R ⟨⟩ :=
 callsH_of_eq Tryz.follow .l Tryz.func35 (by kernel_rfl) (by kernel_rfl) (by kernel_rfl) H

/-- (*palimpsest/store.Store).Create -/
def n36 (s0 name1 : Value) (R : Value → Heap → Prop) (h : Heap) : Prop :=
 CallsH Tryz.prog 76 #[s0, name1] h (fun t12 h_1 => 
 Hp Tryz.prog false (binS .neq 29 (.tmp 13) (.const (.int .i64 0)) t12 (.int .i64 0)) (fun t14 h_2 => 
 CondP t14 (
 R t12 h_2) (
 Hp Tryz.prog false (nilS s0) (fun t18 h_3 => 
 Hp Tryz.prog false (Instr.fieldAt 156 t18 0) (fun t19 h_4 => 
 Hp Tryz.prog false (Instr.loadAt 153 t19) (fun t20 h_5 => 
 Hp Tryz.prog false (Instr.lookup 153 t20 name1 true) (fun t22 h_6 => 
 Hp Tryz.prog false (Instr.extract t22 0) (fun t23 h_7 => 
 Hp Tryz.prog false (Instr.extract t22 1) (fun t24 h_8 => 
 CondP t24 (
 R (.int .i64 8) h_8) (
 Hp Tryz.prog false (nilS s0) (fun t27 h_9 => 
 Hp Tryz.prog false (Instr.fieldAt 156 t27 0) (fun t28 h_10 => 
 Hp Tryz.prog false (Instr.loadAt 153 t28) (fun t29 h_11 => 
 Hp Tryz.prog false (Builtin.len_ #[153] 3 #[t29]) (fun t30 h_12 => 
 Hp Tryz.prog false (binS .geq 3 (.tmp 30) (.const (.int .i64 256)) t30 (.int .i64 256)) (fun t31 h_13 => 
 CondP t31 (
 R (.int .i64 6) h_13) (
 CallsH Tryz.prog 77 #[s0] h_13 (fun t34 h_14 => 
 Hp Tryz.prog false (Instr.extract t34 0) (fun t35 h_15 => 
 Hp Tryz.prog false (Instr.extract t34 1) (fun t36 h_16 => 
 Hp Tryz.prog false (binS .neq 29 (.tmp 37) (.const (.int .i64 0)) t35 (.int .i64 0)) (fun t38 h_17 => 
 CondP t38 (
 R t35 h_17) (
 Hp Tryz.prog false (nilS s0) (fun t41 h_18 => 
 Hp Tryz.prog false (Instr.fieldAt 156 t41 0) (fun t42 h_19 => 
 Hp Tryz.prog false (Instr.loadAt 153 t42) (fun t43 h_20 => 
 Hp Tryz.prog false (Instr.build 115 #[]) (fun t45 h_21 => 
 Hp Tryz.prog false (Instr.box 115 t45) (fun t46 h_22 => 
 Hp Tryz.prog false (unitS (Instr.mapUpdate 153 t43 name1 t46)) (fun _ h_23 => 
 R (.int .i64 0) h_23) h_22 ⟨⟩) h_21 ⟨⟩) h_20 ⟨⟩) h_19 ⟨⟩) h_18 ⟨⟩) h_17 ⟨⟩) ⟨⟩ ⟨⟩) h_16 ⟨⟩) h_15 ⟨⟩) h_14 ⟨⟩) ⟨⟩) ⟨⟩ ⟨⟩) h_12 ⟨⟩) h_11 ⟨⟩) h_10 ⟨⟩) h_9 ⟨⟩) h_8 ⟨⟩) ⟨⟩ ⟨⟩) h_7 ⟨⟩) h_6 ⟨⟩) h_5 ⟨⟩) h_4 ⟨⟩) h_3 ⟨⟩) h_2 ⟨⟩) ⟨⟩ ⟨⟩) h_1 ⟨⟩) ⟨⟩

theorem n36_calls {s0 name1 : Value} {R : Value → Heap → Prop} {h : Heap} (H : n36 s0 name1 R h) : CallsH Tryz.prog 36 #[s0, name1] h R ⟨⟩ :=
 callsH_of_eq Tryz.follow .l Tryz.func36 (by kernel_rfl) (by kernel_rfl) (by kernel_rfl) H

/-- (*palimpsest/store.Store).Resize -/
def n37 (s0 name1 size2 : Value) (R : Value → Heap → Prop) (h : Heap) : Prop :=
 CallsH Tryz.prog 50 #[s0, name1] h (fun t17 h_1 => 
 Hp Tryz.prog false (Instr.extract t17 0) (fun t18 h_2 => 
 Hp Tryz.prog false (Instr.extract t17 1) (fun t19 h_3 => 
 Hp Tryz.prog false (binS .neq 29 (.tmp 21) (.const (.int .i64 0)) t19 (.int .i64 0)) (fun t22 h_4 => 
 CondP t22 (
 R t19 h_4) (
 Hp Tryz.prog false (binS .lss 2 (.tmp 25) (.const (.int .i64 0)) size2 (.int .i64 0)) (fun t26 h_5 => 
 CondP t26 (
 R (.int .i64 4) h_5) (
 Hp Tryz.prog false (binS .gtr 2 (.tmp 28) (.const (.int .i64 268435456)) size2 (.int .i64 268435456)) (fun t29 h_6 => 
 CondP t29 (
 R (.int .i64 6) h_6) (
 CallsH Tryz.prog 77 #[s0] h_6 (fun t32 h_7 => 
 Hp Tryz.prog false (Instr.extract t32 0) (fun t33 h_8 => 
 Hp Tryz.prog false (Instr.extract t32 1) (fun t34 h_9 => 
 Hp Tryz.prog false (binS .neq 29 (.tmp 35) (.const (.int .i64 0)) t33 (.int .i64 0)) (fun t36 h_10 => 
 CondP t36 (
 R t33 h_10) (
 CallsH Tryz.prog 78 #[t18, size2] h_10 (fun t40 h_11 => 
 Hp Tryz.prog true (nilS t18) (fun t44 _ => 
 Hp Tryz.prog true (Instr.fieldAt 115 t44 2) (fun t45 _ => 
 Hp Tryz.prog true (Instr.loadAt 33 t45) (fun t46 _ => 
 Hp Tryz.prog true (Instr.sliceAt 33 t46 none (some size2) (some size2)) (fun t49 _ => 
 Hp Tryz.prog true (nilS t18) (fun t51 _ => 
 Hp Tryz.prog true (Instr.fieldAt 115 t51 0) (fun t52 _ => 
 Hp Tryz.prog true (Instr.loadAt 33 t52) (fun t53 _ => 
 Hp Tryz.prog true (Instr.sliceAt 33 t53 none (some size2) (some size2)) (fun t56 _ => 
 Hp Tryz.prog true (nilS t18) (fun t57 _ => 
 Hp Tryz.prog true (Instr.fieldAt 115 t57 2) (fun t58 _ => 
 Hp Tryz.prog false (storeS 33 t58 t49) (fun _ h_12 => 
 Hp Tryz.prog true (nilS t18) (fun t59 _ => 
 Hp Tryz.prog true (Instr.fieldAt 115 t59 0) (fun t60 _ => 
 Hp Tryz.prog false (storeS 33 t60 t56) (fun _ h_13 => 
 Hp Tryz.prog false (nilS t18) (fun t62 h_14 => 
 Hp Tryz.prog false (Instr.fieldAt 115 t62 1) (fun t63 h_15 => 
 Hp Tryz.prog false (Instr.loadAt 113 t63) (fun t64 h_16 => 
 Hp Tryz.prog false (Builtin.len_ #[113] 3 #[t64]) (fun t65 h_17 => 
 LoopC 2 (fun (X : Value → Value → Heap → Prop) => fun stay11 t66 h_18 =>
 Hp Tryz.prog false (binS .lss 3 (.tmp 66) (.tmp 65) t66 t65) (fun t67 h_19 => 
 CondP t67 (
 JoinN 1 (fun (k : Value → Heap → Prop) h_20 =>
 JoinN 1 (fun (k_1 : Value → Heap → Prop) h_21 =>
 Hp Tryz.prog false (Instr.indexAt 113 t64 t66) (fun t68 h_22 => 
 Hp Tryz.prog false (Instr.loadAt 162 t68) (fun t69 h_23 => 
 Hp Tryz.prog false (Instr.alloc 162 true undef) (fun p13 h_24 => 
 Hp Tryz.prog false (storeS 162 p13 t69) (fun _ h_25 => 
 Hp Tryz.prog false (Instr.fieldAt 162 p13 0) (fun t70 h_26 => 
 Hp Tryz.prog false (Instr.loadAt 2 t70) (fun t71 h_27 => 
 Hp Tryz.prog false (binS .lss 2 (.tmp 71) (.tmp 72) t71 size2) (fun t73 h_28 => 
 CondP t73 (
 Hp Tryz.prog false (Instr.fieldAt 162 p13 1) (fun t74 h_29 => 
 Hp Tryz.prog false (Instr.loadAt 33 t74) (fun t75 h_30 => 
 Hp Tryz.prog false (Instr.fieldAt 162 p13 1) (fun t76 h_31 => 
 Hp Tryz.prog false (Instr.loadAt 33 t76) (fun t77 h_32 => 
 Hp Tryz.prog false (Builtin.len_ #[33] 3 #[t77]) (fun t78 h_33 => 
 Hp Tryz.prog false (Instr.fieldAt 162 p13 0) (fun t80 h_34 => 
 Hp Tryz.prog false (Instr.loadAt 2 t80) (fun t81 h_35 => 
 Hp Tryz.prog false (binS .sub 2 (.tmp 79) (.tmp 81) size2 t81) (fun t82 h_36 => 
 Hp Tryz.prog false (Builtin.min_ #[2, 2] 2 #[t78, t82]) (fun t83 h_37 => 
 Hp Tryz.prog false (Instr.sliceAt 33 t75 none (some t83) none) (fun t84 h_38 => 
 Hp Tryz.prog false (Instr.fieldAt 162 p13 1) (fun t85 h_39 => 
 Hp Tryz.prog false (storeS 33 t85 t84) (fun _ h_40 => 
 Hp Tryz.prog false (Instr.loadAt 162 p13) (fun t87 h_41 => 
 Hp Tryz.prog false (Instr.buildSlice 113 1 #[(0, t87)]) (fun t88 h_42 => 
 Hp Tryz.prog false (Builtin.append_ #[113, 113] 113 #[stay11, t88]) (fun t89 h_43 => 
 k_1 t89 h_43) h_42 ⟨⟩) h_41 ⟨⟩) h_40 ⟨⟩) h_39 ⟨⟩) h_38 ⟨⟩) h_37 ⟨⟩) h_36 ⟨⟩) h_35 ⟨⟩) h_34 ⟨⟩) h_33 ⟨⟩) h_32 ⟨⟩) h_31 ⟨⟩) h_30 ⟨⟩) h_29 ⟨⟩) h_28 ⟨⟩) (
 k_1 stay11 h_28) ⟨⟩ ⟨⟩) h_27 ⟨⟩) h_26 ⟨⟩) h_25 ⟨⟩) h_24 ⟨⟩) h_23 ⟨⟩) h_22 ⟨⟩) h_21 ⟨⟩)
 (fun stay11_1 h_44 =>
 k stay11_1 h_44) h_20 ⟨⟩ ⟨⟩)
 (fun stay11_2 h_45 =>
 Hp Tryz.prog false (binS .add 3 (.tmp 66) (.const (.int .i64 1)) t66 (.int .i64 1)) (fun t90 h_46 => 
 X stay11_2 t90 h_46) h_45 ⟨⟩) h_19 ⟨⟩ ⟨⟩) (
 Hp Tryz.prog false (nilS t18) (fun t93 h_47 => 
 Hp Tryz.prog false (Instr.fieldAt 115 t93 1) (fun t94 h_48 => 
 Hp Tryz.prog false (storeS 113 t94 stay11) (fun _ h_49 => 
 R (.int .i64 0) h_49) h_48 ⟨⟩) h_47 ⟨⟩) h_19 ⟨⟩) ⟨⟩ ⟨⟩) h_18 ⟨⟩) [(.slice none 0 0), (.int .i64 0)] h_17 ⟨⟩) h_16 ⟨⟩) h_15 ⟨⟩) h_14 ⟨⟩) h_13 ⟨⟩) h_12 ⟨⟩) #[] ⟨⟩) #[] ⟨⟩) h_11 ⟨⟩) #[] ⟨⟩) #[] ⟨⟩) #[] ⟨⟩) h_11 ⟨⟩) #[] ⟨⟩) #[] ⟨⟩) #[] ⟨⟩) h_11 ⟨⟩) #[] ⟨⟩) #[] ⟨⟩) ⟨⟩) ⟨⟩ ⟨⟩) h_9 ⟨⟩) h_8 ⟨⟩) h_7 ⟨⟩) ⟨⟩) ⟨⟩ ⟨⟩) h_5 ⟨⟩) ⟨⟩ ⟨⟩) h_4 ⟨⟩) ⟨⟩ ⟨⟩) h_3 ⟨⟩) h_2 ⟨⟩) h_1 ⟨⟩) ⟨⟩

theorem n37_calls {s0 name1 size2 : Value} {R : Value → Heap → Prop} {h : Heap} (H : n37 s0 name1 size2 R h) : CallsH Tryz.prog 37 #[s0, name1, size2] h R ⟨⟩ :=
 callsH_of_eq Tryz.follow (.n none .l (.n none .l (.n none .l (.n none .l (.n none .l (.n none .l (.n none .l (.n none (.n none .l (.n none (.n (some [12, 67]) (.n none .l (.n none .l (.n (some [12]) (.n (some [12]) .l .l) .l))) .l) .l)) .l)))))))) Tryz.func37 (by kernel_rfl) (by kernel_rfl) (by kernel_rfl) H

/-- (*palimpsest/store.Store).Feed -/
def n38 (s0 fates1 : Value) (R : Value → Heap → Prop) (h : Heap) : Prop :=
 CallsH Tryz.prog 79 #[s0] h (fun t7 h_1 => 
 CondP t7 (
 R (.int .i64 1) h_1) (
 CallsH Tryz.prog 74 #[fates1] h_1 (fun t10 h_2 => 
 Hp Tryz.prog false (Op.unary .not t10) (fun t11 h_3 => 
 CondP t11 (
 R (.int .i64 2) h_3) (
 Hp Tryz.prog false (nilS s0) (fun t14 h_4 => 
 Hp Tryz.prog false (Instr.fieldAt 156 t14 1) (fun t15 h_5 => 
 Hp Tryz.prog false (Instr.loadAt 48 t15) (fun t16 h_6 => 
 Hp Tryz.prog false (Builtin.append_ #[48, 48] 48 #[t16, fates1]) (fun t18 h_7 => 
 Hp Tryz.prog false (nilS s0) (fun t19 h_8 => 
 Hp Tryz.prog false (Instr.fieldAt 156 t19 1) (fun t20 h_9 => 
 Hp Tryz.prog false (storeS 48 t20 t18) (fun _ h_10 => 
 R (.int .i64 0) h_10) h_9 ⟨⟩) h_8 ⟨⟩) h_7 ⟨⟩) h_6 ⟨⟩) h_5 ⟨⟩) h_4 ⟨⟩) h_3 ⟨⟩) ⟨⟩ ⟨⟩) h_2 ⟨⟩) ⟨⟩) ⟨⟩ ⟨⟩) ⟨⟩

theorem n38_calls {s0 fates1 : Value} {R : Value → Heap → Prop} {h : Heap} (H : n38 s0 fates1 R h) : CallsH Tryz.prog 38 #[s0, fates1] h R ⟨⟩ :=
 callsH_of_eq Tryz.follow .l Tryz.func38 (by kernel_rfl) (by kernel_rfl) (by kernel_rfl) H

/-- (*palimpsest/cache.Cache).use -/
def n39 (c0 n1 at2 k3 : Value) (R : Value → Heap → Prop) (h : Heap) : Prop :=
 CallsH Tryz.prog 41 #[c0, n1] h (fun t20 h_1 => 
 Hp Tryz.prog false (binS .neq 29 (.tmp 21) (.const (.int .i64 0)) t20 (.int .i64 0)) (fun t22 h_2 => 
 CondP t22 (
 R (.tuple #[(.pointer none), t20]) h_2) (
 Hp Tryz.prog false (binS .lss 3 (.tmp 24) (.const (.int .i64 0)) at2 (.int .i64 0)) (fun t25 h_3 => 
 Join1 (fun k h_4 => guardP t25 false (k k3 h_4) (k undef h_4) ⟨⟩ ⟨⟩) (fun t27 h_5 => 
 Join1 (fun k_1 h_6 => guardP t25 false (Hp Tryz.prog false (binS .lss 3 (.tmp 27) (.const (.int .i64 0)) t27 (.int .i64 0)) k_1 h_6 ⟨⟩) (k_1 undef h_6) ⟨⟩ ⟨⟩) (fun t28 h_7 => 
 Hp Tryz.prog false (pickS t25 (.bool true) t28) (fun t29 h_8 => 
 Join1 (fun k_2 h_9 => guardP t29 false (k_2 at2 h_9) (k_2 undef h_9) ⟨⟩ ⟨⟩) (fun t31 h_10 => 
 Join1 (fun k_3 h_11 => guardP t29 false (k_3 c0 h_11) (k_3 undef h_11) ⟨⟩ ⟨⟩) (fun t32 h_12 => 
 Join1 (fun k_4 h_13 => guardP t29 false (Hp Tryz.prog false (nilS t32) k_4 h_13 ⟨⟩) (k_4 undef h_13) ⟨⟩ ⟨⟩) (fun t33 h_14 => 
 Join1 (fun k_5 h_15 => guardP t29 false (Hp Tryz.prog false (Instr.fieldAt 93 t33 2) k_5 h_15 ⟨⟩) (k_5 undef h_15) ⟨⟩ ⟨⟩) (fun t34 h_16 => 
 Join1 (fun k_6 h_17 => guardP t29 false (Hp Tryz.prog false (Instr.loadAt 3 t34) k_6 h_17 ⟨⟩) (k_6 undef h_17) ⟨⟩ ⟨⟩) (fun t35 h_18 => 
 Join1 (fun k_7 h_19 => guardP t29 false (Hp Tryz.prog false (binS .shl 3 (.const (.int .i64 1)) (.tmp 35) (.int .i64 1) t35) k_7 h_19 ⟨⟩) (k_7 undef h_19) ⟨⟩ ⟨⟩) (fun t36 h_20 => 
 Join1 (fun k_8 h_21 => guardP t29 false (Hp Tryz.prog false (binS .gtr 3 (.tmp 31) (.tmp 36) t31 t36) k_8 h_21 ⟨⟩) (k_8 undef h_21) ⟨⟩ ⟨⟩) (fun t37 h_22 => 
 Hp Tryz.prog false (pickS t29 (.bool true) t37) (fun t38 h_23 => 
 Join1 (fun k_9 h_24 => guardP t38 false (k_9 k3 h_24) (k_9 undef h_24) ⟨⟩ ⟨⟩) (fun t40 h_25 => 
 Join1 (fun k_10 h_26 => guardP t38 false (k_10 c0 h_26) (k_10 undef h_26) ⟨⟩ ⟨⟩) (fun t41 h_27 => 
 Join1 (fun k_11 h_28 => guardP t38 false (Hp Tryz.prog false (nilS t41) k_11 h_28 ⟨⟩) (k_11 undef h_28) ⟨⟩ ⟨⟩) (fun t42 h_29 => 
 Join1 (fun k_12 h_30 => guardP t38 false (Hp Tryz.prog false (Instr.fieldAt 93 t42 2) k_12 h_30 ⟨⟩) (k_12 undef h_30) ⟨⟩ ⟨⟩) (fun t43 h_31 => 
 Join1 (fun k_13 h_32 => guardP t38 false (Hp Tryz.prog false (Instr.loadAt 3 t43) k_13 h_32 ⟨⟩) (k_13 undef h_32) ⟨⟩ ⟨⟩) (fun t44 h_33 => 
 Join1 (fun k_14 h_34 => guardP t38 false (Hp Tryz.prog false (binS .shl 3 (.const (.int .i64 1)) (.tmp 44) (.int .i64 1) t44) k_14 h_34 ⟨⟩) (k_14 undef h_34) ⟨⟩ ⟨⟩) (fun t45 h_35 => 
 Join1 (fun k_15 h_36 => guardP t38 false (k_15 at2 h_36) (k_15 undef h_36) ⟨⟩ ⟨⟩) (fun t46 h_37 => 
 Join1 (fun k_16 h_38 => guardP t38 false (Hp Tryz.prog false (binS .sub 3 (.tmp 45) (.tmp 46) t45 t46) k_16 h_38 ⟨⟩) (k_16 undef h_38) ⟨⟩ ⟨⟩) (fun t47 h_39 => 
 Join1 (fun k_17 h_40 => guardP t38 false (Hp Tryz.prog false (binS .gtr 3 (.tmp 40) (.tmp 47) t40 t47) k_17 h_40 ⟨⟩) (k_17 undef h_40) ⟨⟩ ⟨⟩) (fun t48 h_41 => 
 Hp Tryz.prog false (pickS t38 (.bool true) t48) (fun t49 h_42 => 
 CondP t49 (
 R (.tuple #[(.pointer none), (.int .i64 2)]) h_42) (
 Hp Tryz.prog true (nilS c0) (fun t52 _ => 
 Hp Tryz.prog true (Instr.fieldAt 93 t52 0) (fun t53 _ => 
 Hp Tryz.prog true (Instr.loadAt 26 t53) (fun t54 _ => 
 Hp Tryz.prog true (nilS c0) (fun t56 _ => 
 Hp Tryz.prog true (Instr.fieldAt 93 t56 1) (fun t57 _ => 
 Hp Tryz.prog true (Instr.loadAt 9 t57) (fun t58 _ => 
 CallsH Tryz.prog 18 #[t54, t58] h_42 (fun t59 h_43 => 
 Hp Tryz.prog true (Instr.extract t59 0) (fun t60 _ => 
 Hp Tryz.prog true (Instr.extract t59 1) (fun t61 _ => 
 Hp Tryz.prog false (binS .neq 29 (.tmp 62) (.const (.int .i64 0)) t61 (.int .i64 0)) (fun t63 h_44 => 
 CondP t63 (
 R (.tuple #[(.pointer none), t61]) h_44) (
 Hp Tryz.prog false (nilS c0) (fun t66 h_45 => 
 Hp Tryz.prog false (Instr.fieldAt 93 t66 4) (fun t67 h_46 => 
 Hp Tryz.prog false (Instr.loadAt 88 t67) (fun t68 h_47 => 
 Hp Tryz.prog false (Instr.lookup 88 t68 n1 false) (fun t70 h_48 => 
 JoinN 1 (fun (k_18 : Value → Heap → Prop) h_49 =>
 Hp Tryz.prog false (binS .eql 94 (.tmp 71) (.const (.pointer none)) t70 (.pointer none)) (fun t72 h_50 => 
 CondP t72 (
 CallsH Tryz.prog 80 #[c0] h_50 (fun t74 h_51 => 
 Hp Tryz.prog false (binS .neq 29 (.tmp 75) (.const (.int .i64 0)) t74 (.int .i64 0)) (fun t76 h_52 => 
 CondP t76 (
 R (.tuple #[(.pointer none), t74]) h_52) (
 Hp Tryz.prog false (nilS c0) (fun t80 h_53 => 
 Hp Tryz.prog false (Instr.fieldAt 93 t80 2) (fun t81 h_54 => 
 Hp Tryz.prog false (Instr.loadAt 3 t81) (fun t82 h_55 => 
 Hp Tryz.prog false (binS .shl 3 (.const (.int .i64 1)) (.tmp 82) (.int .i64 1) t82) (fun t83 h_56 => 
 Hp Tryz.prog false (Instr.makeSlice 33 t83 t83) (fun t84 h_57 => 
 Hp Tryz.prog false (Instr.build 99 #[(0, n1), (1, t84)]) (fun t85 h_58 => 
 Hp Tryz.prog false (Instr.box 99 t85) (fun t86 h_59 => 
 Hp Tryz.prog true (nilS c0) (fun t89 _ => 
 Hp Tryz.prog true (Instr.fieldAt 93 t89 0) (fun t90 _ => 
 Hp Tryz.prog true (Instr.loadAt 26 t90) (fun t91 _ => 
 Hp Tryz.prog true (nilS c0) (fun t93 _ => 
 Hp Tryz.prog true (Instr.fieldAt 93 t93 1) (fun t94 _ => 
 Hp Tryz.prog true (Instr.loadAt 9 t94) (fun t95 _ => 
 CallsH Tryz.prog 18 #[t91, t95] h_59 (fun t96 h_60 => 
 Hp Tryz.prog true (Instr.extract t96 0) (fun t97 _ => 
 Hp Tryz.prog true (Instr.extract t96 1) (fun t98 _ => 
 JoinN 0 (fun (k_19 : Heap → Prop) h_61 =>
 Hp Tryz.prog false (nilS c0) (fun t101 h_62 => 
 Hp Tryz.prog false (Instr.fieldAt 93 t101 2) (fun t102 h_63 => 
 Hp Tryz.prog false (Instr.loadAt 3 t102) (fun t103 h_64 => 
 Hp Tryz.prog false (binS .shl 2 (.tmp 99) (.tmp 103) n1 t103) (fun t104 h_65 => 
 Hp Tryz.prog false (binS .lss 2 (.tmp 105) (.tmp 106) t104 t97) (fun t107 h_66 => 
 CondP t107 (
 Hp Tryz.prog true (nilS c0) (fun t110 _ => 
 Hp Tryz.prog true (Instr.fieldAt 93 t110 0) (fun t111 _ => 
 Hp Tryz.prog true (Instr.loadAt 26 t111) (fun t112 _ => 
 Hp Tryz.prog true (nilS c0) (fun t114 _ => 
 Hp Tryz.prog true (Instr.fieldAt 93 t114 1) (fun t115 _ => 
 Hp Tryz.prog true (Instr.loadAt 9 t115) (fun t116 _ => 
 Hp Tryz.prog true (nilS t86) (fun t119 _ => 
 Hp Tryz.prog true (Instr.fieldAt 99 t119 1) (fun t120 _ => 
 Hp Tryz.prog true (Instr.loadAt 33 t120) (fun t121 _ => 
 Hp Tryz.prog true (Builtin.len_ #[33] 3 #[t121]) (fun t122 _ => 
 CallsH Tryz.prog 19 #[t112, t116, t104, t122] h_66 (fun t123 h_67 => 
 Hp Tryz.prog true (Instr.extract t123 0) (fun t124 _ => 
 Hp Tryz.prog true (Instr.extract t123 1) (fun t125 _ => 
 Hp Tryz.prog false (nilS t86) (fun t127 h_68 => 
 Hp Tryz.prog false (Instr.fieldAt 99 t127 1) (fun t128 h_69 => 
 Hp Tryz.prog false (Instr.loadAt 33 t128) (fun t129 h_70 => 
 Hp Tryz.prog false (Builtin.copy_ #[33, 33] 3 #[t129, t124]) (fun t131 h_71 => 
 k_19 h_71) h_70 ⟨⟩) h_69 ⟨⟩) h_68 ⟨⟩) h_67 ⟨⟩) #[] ⟨⟩) #[] ⟨⟩) ⟨⟩) #[] ⟨⟩) h_66 ⟨⟩) #[] ⟨⟩) #[] ⟨⟩) h_66 ⟨⟩) #[] ⟨⟩) #[] ⟨⟩) h_66 ⟨⟩) #[] ⟨⟩) #[] ⟨⟩) (
 k_19 h_66) ⟨⟩ ⟨⟩) h_65 ⟨⟩) h_64 ⟨⟩) h_63 ⟨⟩) h_62 ⟨⟩) h_61 ⟨⟩)
 (fun h_72 =>
 Hp Tryz.prog false (nilS c0) (fun t133 h_73 => 
 Hp Tryz.prog false (Instr.fieldAt 93 t133 4) (fun t134 h_74 => 
 Hp Tryz.prog false (Instr.loadAt 88 t134) (fun t135 h_75 => 
 Hp Tryz.prog false (unitS (Instr.mapUpdate 88 t135 n1 t86)) (fun _ h_76 => 
 Hp Tryz.prog false (nilS c0) (fun t139 h_77 => 
 Hp Tryz.prog false (Instr.fieldAt 93 t139 8) (fun t140 h_78 => 
 Hp Tryz.prog false (Instr.fieldAt 81 t140 1) (fun t141 h_79 => 
 Hp Tryz.prog false (Instr.loadAt 3 t141) (fun t142 h_80 => 
 Hp Tryz.prog false (binS .add 3 (.tmp 142) (.const (.int .i64 1)) t142 (.int .i64 1)) (fun t143 h_81 => 
 Hp Tryz.prog false (nilS c0) (fun t144 h_82 => 
 Hp Tryz.prog false (Instr.fieldAt 93 t144 8) (fun t145 h_83 => 
 Hp Tryz.prog false (Instr.fieldAt 81 t145 1) (fun t146 h_84 => 
 Hp Tryz.prog false (storeS 3 t146 t143) (fun _ h_85 => 
 k_18 t86 h_85) h_84 ⟨⟩) h_83 ⟨⟩) h_82 ⟨⟩) h_81 ⟨⟩) h_80 ⟨⟩) h_79 ⟨⟩) h_78 ⟨⟩) h_77 ⟨⟩) h_76 ⟨⟩) h_75 ⟨⟩) h_74 ⟨⟩) h_73 ⟨⟩) h_72 ⟨⟩) h_60 ⟨⟩ ⟨⟩) #[] ⟨⟩) #[] ⟨⟩) ⟨⟩) h_59 ⟨⟩) #[] ⟨⟩) #[] ⟨⟩) h_59 ⟨⟩) #[] ⟨⟩) #[] ⟨⟩) h_58 ⟨⟩) h_57 ⟨⟩) h_56 ⟨⟩) h_55 ⟨⟩) h_54 ⟨⟩) h_53 ⟨⟩) h_52 ⟨⟩) ⟨⟩ ⟨⟩) h_51 ⟨⟩) ⟨⟩) (
 Hp Tryz.prog false (nilS c0) (fun t148 h_86 => 
 Hp Tryz.prog false (Instr.fieldAt 93 t148 8) (fun t149 h_87 => 
 Hp Tryz.prog false (Instr.fieldAt 81 t149 0) (fun t150 h_88 => 
 Hp Tryz.prog false (Instr.loadAt 3 t150) (fun t151 h_89 => 
 Hp Tryz.prog false (binS .add 3 (.tmp 151) (.const (.int .i64 1)) t151 (.int .i64 1)) (fun t152 h_90 => 
 Hp Tryz.prog false (nilS c0) (fun t153 h_91 => 
 Hp Tryz.prog false (Instr.fieldAt 93 t153 8) (fun t154 h_92 => 
 Hp Tryz.prog false (Instr.fieldAt 81 t154 0) (fun t155 h_93 => 
 Hp Tryz.prog false (storeS 3 t155 t152) (fun _ h_94 => 
 k_18 t70 h_94) h_93 ⟨⟩) h_92 ⟨⟩) h_91 ⟨⟩) h_90 ⟨⟩) h_89 ⟨⟩) h_88 ⟨⟩) h_87 ⟨⟩) h_86 ⟨⟩) h_50 ⟨⟩) ⟨⟩ ⟨⟩) h_49 ⟨⟩)
 (fun p13 h_95 =>
 Hp Tryz.prog false (nilS c0) (fun t157 h_96 => 
 Hp Tryz.prog false (Instr.fieldAt 93 t157 7) (fun t158 h_97 => 
 Hp Tryz.prog false (Instr.loadAt 3 t158) (fun t159 h_98 => 
 Hp Tryz.prog false (binS .add 3 (.tmp 159) (.const (.int .i64 1)) t159 (.int .i64 1)) (fun t160 h_99 => 
 Hp Tryz.prog false (nilS c0) (fun t161 h_100 => 
 Hp Tryz.prog false (Instr.fieldAt 93 t161 7) (fun t162 h_101 => 
 Hp Tryz.prog false (storeS 3 t162 t160) (fun _ h_102 => 
 Hp Tryz.prog false (nilS c0) (fun t165 h_103 => 
 Hp Tryz.prog false (Instr.fieldAt 93 t165 7) (fun t166 h_104 => 
 Hp Tryz.prog false (Instr.loadAt 3 t166) (fun t167 h_105 => 
 Hp Tryz.prog false (nilS p13) (fun t168 h_106 => 
 Hp Tryz.prog false (Instr.fieldAt 99 t168 3) (fun t169 h_107 => 
 Hp Tryz.prog false (storeS 3 t169 t167) (fun _ h_108 => 
 R (.tuple #[p13, (.int .i64 0)]) h_108) h_107 ⟨⟩) h_106 ⟨⟩) h_105 ⟨⟩) h_104 ⟨⟩) h_103 ⟨⟩) h_102 ⟨⟩) h_101 ⟨⟩) h_100 ⟨⟩) h_99 ⟨⟩) h_98 ⟨⟩) h_97 ⟨⟩) h_96 ⟨⟩) h_95 ⟨⟩) h_48 ⟨⟩ ⟨⟩) h_47 ⟨⟩) h_46 ⟨⟩) h_45 ⟨⟩) h_44 ⟨⟩) ⟨⟩ ⟨⟩) h_43 ⟨⟩) #[] ⟨⟩) #[] ⟨⟩) ⟨⟩) h_42 ⟨⟩) #[] ⟨⟩) #[] ⟨⟩) h_42 ⟨⟩) #[] ⟨⟩) #[] ⟨⟩) ⟨⟩ ⟨⟩) h_41 ⟨⟩) h_39 ⟨⟩ ⟨⟩) h_37 ⟨⟩ ⟨⟩) h_35 ⟨⟩ ⟨⟩) h_33 ⟨⟩ ⟨⟩) h_31 ⟨⟩ ⟨⟩) h_29 ⟨⟩ ⟨⟩) h_27 ⟨⟩ ⟨⟩) h_25 ⟨⟩ ⟨⟩) h_23 ⟨⟩ ⟨⟩) h_22 ⟨⟩) h_20 ⟨⟩ ⟨⟩) h_18 ⟨⟩ ⟨⟩) h_16 ⟨⟩ ⟨⟩) h_14 ⟨⟩ ⟨⟩) h_12 ⟨⟩ ⟨⟩) h_10 ⟨⟩ ⟨⟩) h_8 ⟨⟩ ⟨⟩) h_7 ⟨⟩) h_5 ⟨⟩ ⟨⟩) h_3 ⟨⟩ ⟨⟩) h_2 ⟨⟩) ⟨⟩ ⟨⟩) h_1 ⟨⟩) ⟨⟩

theorem n39_calls {c0 n1 at2 k3 : Value} {R : Value → Heap → Prop} {h : Heap} (H : n39 c0 n1 at2 k3 R h) : CallsH Tryz.prog 39 #[c0, n1, at2, k3] h R ⟨⟩ :=
 callsH_of_eq Tryz.follow (.n none .l (.n none .l (.n none .l (.n none .l (.n none .l (.n none .l (.n (some [14]) (.n none .l (.n none (.n none .l (.n none .l (.n none .l (.n (some []) .l .l)))) .l)) .l))))))) Tryz.func39 (by kernel_rfl) (by kernel_rfl) (by kernel_rfl) H

end Go.Proofs.YtcbbdnaelimpfaaGreat

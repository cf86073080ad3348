/- Printed by /tmp/tools2/gen.py: the condition of each function,and that a call meets it. -/
import Derived.Test.YtdccfkffabngjaaGreatVcFun
import Derived.Test.YtdccfkffabngjaaGreatProg
import Derived.Test.YtdccfkffabngjaaGreatNiceA
set_option maxRecDepth 100000
set_option linter.unusedVariables false
namespace Go.Proofs.YtdccfkffabngjaaGreat
open Go.Vc Go.Instr Go.Builtin

def n66 (s0:Value) (R:VP) (h:Heap):Prop :=
 vF (binS .eql 27 (.tmp 3) (.const (.pointer none)) s0 (.pointer none)) (fun t4 H1 =>
 vJ t4 false (vV s0) (fun t6 H3 =>
 vJ t4 false (vF (nilS t6)) (fun t7 H5 =>
 vJ t4 false (vF (fieldAt 144 t7 0)) (fun t8 H7 =>
 vJ t4 false (vF (loadAt 142 t8)) (fun t9 H9 =>
 vJ t4 false (vF (binS .eql 142 (.tmp 9) (.const (.map none)) t9 (.map none))) (fun t10 H11 =>
 vF (pickS t4 (.bool true) t10) (fun t11 H12 =>
 R t11 H12) H11) H9) H7) H5) H3) H1) h

theorem n66_calls {s0:Value} {R:VP} {h:Heap} (H:n66 s0 R h):CallsH Tryz.prog 66 #[s0] h R ⟨⟩ :=
 callsH_of_eq Tryz.follow .l Tryz.func66 kR kR kR H

def n70 (b0:Value) (R:VP) (h:Heap):Prop :=
 vF (binS .eql 52 (.tmp 3) (.const (.slice none 0 0)) b0 (.slice none 0 0)) (fun t4 H1 =>
 vD t4 (
 R (.slice none 0 0) H1) (
 vF (buildSlice 52 0 #[]) (fun t5 H2 =>
 vF (append_ #[52,52] 52 #[t5,b0]) (fun t7 H3 =>
 R t7 H3) H2) H1)) h

theorem n70_calls {b0:Value} {R:VP} {h:Heap} (H:n70 b0 R h):CallsH Tryz.prog 70 #[b0] h R ⟨⟩ :=
 callsH_of_eq Tryz.follow .l Tryz.func70 kR kR kR H

def n71 (h0:Value) (R:VP) (h:Heap):Prop :=
 vF (box 84 h0) (fun h1 H1 =>
 vG (loadAt 84 h1) (fun t3 _ =>
 vG (fieldAt 84 h1 0) (fun t5 _ =>
 vG (loadAt 3 t5) (fun t6 _ =>
 vC 119 #[t3] (fun t4 H2=>vG (loadAt 3 t5) (fun u _=>u=t6) H2 ∧
 vC 36 #[t6] (fun t7 H3 =>
 vG (vk .quo 2 7 .i64 8 t7) (fun t8 _ =>
 vC 72 #[t4,t8] (fun t9 H4 =>
 R t9 H4) H3) #[]) H2) H1) H1) #[]) H1) h

theorem n71_calls {h0:Value} {R:VP} {h:Heap} (H:n71 h0 R h):CallsH Tryz.prog 71 #[h0] h R ⟨⟩ :=
 callsH_of_eq Tryz.follow .l Tryz.func71 kR kR kR H

def n72 (a0 b1:Value) (R:VP) (h:Heap):Prop :=
 vF (vt .rem 2 5 6 a0 b1) (fun t7 H1 =>
 vF (vk .eql 2 7 .i64 0 t7) (fun t8 H2 =>
 vD t8 (
 vF (vt .quo 2 9 10 a0 b1) (fun t11 H3 =>
 R t11 H3) H2) (
 vF (vt .quo 2 12 13 a0 b1) (fun t14 H4 =>
 vF (vk .add 2 14 .i64 1 t14) (fun t15 H5 =>
 R t15 H5) H4) H2)) H1) h

theorem n72_calls {a0 b1:Value} {R:VP} {h:Heap} (H:n72 a0 b1 R h):CallsH Tryz.prog 72 #[a0,b1] h R ⟨⟩ :=
 callsH_of_eq Tryz.follow .l Tryz.func72 kR kR kR H

def n73 (h0:Value) (R:VP) (h:Heap):Prop :=
 vF (box 84 h0) (fun h1 H1 =>
 vF (fieldAt 84 h1 0) (fun t6 H2 =>
 vF (loadAt 3 t6) (fun t7 H3 =>
 vF (vk .lss 3 7 .i64 9 t7) (fun t8 H4 =>
 vJ t8 false (vF (fieldAt 84 h1 0)) (fun t10 H6 =>
 vJ t8 false (vF (loadAt 3 t10)) (fun t11 H8 =>
 vJ t8 false (vF (vk .gtr 3 11 .i64 16 t11)) (fun t12 H10 =>
 vF (pickS t8 (.bool true) t12) (fun t13 H11 =>
 vJ t13 false (vF (fieldAt 84 h1 1)) (fun t15 H13 =>
 vJ t13 false (vF (loadAt 44 t15)) (fun t16 H15 =>
 vJ t13 false (vF (vk .gtr 44 16 .u64 1 t16)) (fun t17 H17 =>
 vF (pickS t13 (.bool true) t17) (fun t18 H18 =>
 vJ t18 false (vF (fieldAt 84 h1 2)) (fun t20 H20 =>
 vJ t18 false (vF (loadAt 2 t20)) (fun t21 H22 =>
 vJ t18 false (vF (vk .lss 2 21 .i64 0 t21)) (fun t22 H24 =>
 vF (pickS t18 (.bool true) t22) (fun t23 H25 =>
 vJ t23 false (vF (fieldAt 84 h1 2)) (fun t25 H27 =>
 vJ t23 false (vF (loadAt 2 t25)) (fun t26 H29 =>
 vJ t23 false (vF (vk .gtr 2 26 .i64 67108864 t26)) (fun t27 H31 =>
 vF (pickS t23 (.bool true) t27) (fun t28 H32 =>
 vJ t28 false (vF (fieldAt 84 h1 2)) (fun t30 H34 =>
 vJ t28 false (vF (loadAt 2 t30)) (fun t31 H36 =>
 vJ t28 false (vF (vk .rem 2 31 .i64 512 t31)) (fun t32 H38 =>
 vJ t28 false (vF (vk .neq 2 32 .i64 0 t32)) (fun t33 H40 =>
 vF (pickS t28 (.bool true) t33) (fun t34 H41 =>
 vD t34 (
 R (.bool false) H41) (
 vG (fieldAt 84 h1 4) (fun t35 _ =>
 vG (loadAt 3 t35) (fun t36 _ =>
 vG (vk .lss 3 36 .i64 0 t36) (fun t37 _ =>
 vJ t37 false (vG (fieldAt 84 h1 4)) (fun t39 _ =>
 vJ t37 false (vG (loadAt 3 t39)) (fun t40 _ =>
 vJ t37 false (vG (vk .gtr 3 40 .i64 1048576 t40)) (fun t41 _ =>
 vG (pickS t37 (.bool true) t41) (fun t42 _ =>
 vJ t42 false (vG (fieldAt 84 h1 4)) (fun t44 _ =>
 vJ t42 false (vG (loadAt 3 t44)) (fun t45 _ =>
 vJ t42 false (vG (loadAt 84 h1)) (fun t46 _ =>
 vJ t42 false (vC 71 #[t46]) (fun t47 H49=>vJ t42 false (vG (loadAt 3 t44)) (fun u _=>u=t45) H49 ∧
 vJ t42 false (vG (vt .lss 2 45 47 t45 t47)) (fun t48 _ =>
 vG (pickS t42 (.bool true) t48) (fun t49 _ =>
 vJ t49 false (vG (fieldAt 84 h1 5)) (fun t51 _ =>
 vJ t49 false (vG (loadAt 3 t51)) (fun t52 _ =>
 vJ t49 false (vG (vk .lss 3 52 .i64 0 t52)) (fun t53 _ =>
 vG (pickS t49 (.bool true) t53) (fun t54 _ =>
 vJ t54 false (vG (fieldAt 84 h1 5)) (fun t56 _ =>
 vJ t54 false (vG (loadAt 3 t56)) (fun t57 _ =>
 vJ t54 false (vG (vk .gtr 3 57 .i64 6 t57)) (fun t58 _ =>
 vG (pickS t54 (.bool true) t58) (fun t59 _ =>
 vJ t59 false (vG (fieldAt 84 h1 7)) (fun t61 _ =>
 vJ t59 false (vG (loadAt 3 t61)) (fun t62 _ =>
 vJ t59 false (vG (vk .lss 3 62 .i64 1 t62)) (fun t63 _ =>
 vG (pickS t59 (.bool true) t63) (fun t64 _ =>
 vJ t64 false (vG (fieldAt 84 h1 7)) (fun t66 _ =>
 vJ t64 false (vG (loadAt 3 t66)) (fun t67 _ =>
 vJ t64 false (vG (vk .gtr 3 67 .i64 65536 t67)) (fun t68 _ =>
 vG (pickS t64 (.bool true) t68) (fun t69 _ =>
 vD t69 (
 R (.bool false) H49) (
 vF (fieldAt 84 h1 4) (fun t70 H63 =>
 vF (loadAt 3 t70) (fun t71 H64 =>
 vF (vk .eql 3 71 .i64 0 t71) (fun t72 H65 =>
 vJ t72 true (vF (fieldAt 84 h1 3)) (fun t74 H67 =>
 vJ t72 true (vF (loadAt 2 t74)) (fun t75 H69 =>
 vJ t72 true (vF (vk .neq 2 75 .i64 0 t75)) (fun t76 H71 =>
 vF (pickS t72 t76 (.bool false)) (fun t77 H72 =>
 vJ t77 false (vF (fieldAt 84 h1 4)) (fun t79 H74 =>
 vJ t77 false (vF (loadAt 3 t79)) (fun t80 H76 =>
 vJ t77 false (vF (vk .gtr 3 80 .i64 0 t80)) (fun t81 H78 =>
 vJ t77 false (vV t81) (fun t82 H80 =>
 vJ t82 true (vF (fieldAt 84 h1 3)) (fun t83 H82 =>
 vJ t82 true (vF (loadAt 2 t83)) (fun t84 H84 =>
 vJ t82 true (vF (fieldAt 84 h1 0)) (fun t85 H86 =>
 vJ t82 true (vF (loadAt 3 t85)) (fun t86 H88 =>
 vJ t82 true (vC 120 #[t84,t86]) (fun t87 H90 =>
 vJ t82 true (vF (Op.unary .not t87)) (fun t88 H92 =>
 vJ t77 false (vF (pickS t82 t88 (.bool false))) (fun t89 H94 =>
 vF (pickS t77 (.bool true) t89) (fun t90 H95 =>
 vJ t90 false (vF (fieldAt 84 h1 6)) (fun t92 H97 =>
 vJ t90 false (vF (loadAt 2 t92)) (fun t93 H99 =>
 vJ t90 false (vF (fieldAt 84 h1 0)) (fun t94 H101 =>
 vJ t90 false (vF (loadAt 3 t94)) (fun t95 H103 =>
 vJ t90 false (vC 120 #[t93,t95]) (fun t96 H105 =>
 vJ t90 false (vF (Op.unary .not t96)) (fun t97 H107 =>
 vF (pickS t90 (.bool true) t97) (fun t98 H108 =>
 vD t98 (
 R (.bool false) H108) (
 vF (fieldAt 84 h1 8) (fun t99 H109 =>
 vF (loadAt 3 t99) (fun t100 H110 =>
 vF (fieldAt 84 h1 9) (fun t101 H111 =>
 vF (loadAt 2 t101) (fun t102 H112 =>
 vF (fieldAt 84 h1 10) (fun t103 H113 =>
 vF (loadAt 3 t103) (fun t104 H114 =>
 vF (fieldAt 84 h1 0) (fun t105 H115 =>
 vF (loadAt 3 t105) (fun t106 H116 =>
 vC 121 #[t100,t102,t104,t106] (fun t107 H117 =>
 vF (fieldAt 84 h1 11) (fun t108 H118 =>
 vF (loadAt 3 t108) (fun t109 H119 =>
 vF (fieldAt 84 h1 12) (fun t110 H120 =>
 vF (loadAt 2 t110) (fun t111 H121 =>
 vF (fieldAt 84 h1 13) (fun t112 H122 =>
 vF (loadAt 3 t112) (fun t113 H123 =>
 vF (fieldAt 84 h1 0) (fun t114 H124 =>
 vF (loadAt 3 t114) (fun t115 H125 =>
 vC 121 #[t109,t111,t113,t115] (fun t116 H126 =>
 LoopC 1 (fun (X:VP)=>fun i5 H127 =>
 vF (fieldAt 84 h1 14) (fun t118 H128 =>
 vF (loadAt 9 t118) (fun t119 H129 =>
 vF (len_ #[9] 3 #[t119]) (fun t120 H130 =>
 vF (vt .lss 3 117 120 i5 t120) (fun t121 H131 =>
 vD t121 (
 vF (fieldAt 84 h1 14) (fun t124 H132 =>
 vF (loadAt 9 t124) (fun t125 H133 =>
 vF (index 9 t125 i5) (fun t127 H134 =>
 vF (vk .eql 5 127 .u8 0 t127) (fun t128 H135 =>
 vD t128 (
 R (.bool false) H135) (
 vF (vk .add 3 122 .i64 1 i5) (fun t123 H136 =>
 X t123 H136) H135)) H134) H133) H132) H131) (
 vJ t107 true (vV t116) (fun t131 H138 =>
 vF (pickS t107 t131 (.bool false)) (fun t132 H139 =>
 vJ t132 true (vF (fieldAt 84 h1 14)) (fun t134 H141 =>
 vJ t132 true (vF (loadAt 9 t134)) (fun t135 H143 =>
 vJ t132 true (vF (len_ #[9] 3 #[t135])) (fun t136 H145 =>
 vJ t132 true (vF (vk .leq 3 136 .i64 64 t136)) (fun t137 H147 =>
 vF (pickS t132 t137 (.bool false)) (fun t138 H148 =>
 R t138 H148) H147) H145) H143) H141) H139) H138) H131)) H130) H129) H128) H127) [(.int .i64 0)] H126 ⟨⟩) H125) H124) H123) H122) H121) H120) H119) H118) H117) H116) H115) H114) H113) H112) H111) H110) H109) H108)) H107) H105) H103) H101) H99) H97) H95) H94) H92) H90) H88) H86) H84) H82) H80) H78) H76) H74) H72) H71) H69) H67) H65) H64) H63) H49)) #[]) #[]) H49) #[]) #[]) #[]) H49) #[]) #[]) #[]) H49) #[]) #[]) #[]) H49) #[]) #[]) #[]) H41) H41) H41) #[]) #[]) #[]) H41) #[]) #[]) H41) #[])) H40) H38) H36) H34) H32) H31) H29) H27) H25) H24) H22) H20) H18) H17) H15) H13) H11) H10) H8) H6) H4) H3) H2) H1) h

theorem n73_calls {h0:Value} {R:VP} {h:Heap} (H:n73 h0 R h):CallsH Tryz.prog 73 #[h0] h R ⟨⟩ :=
 callsH_of_eq Tryz.follow (.n none .l (.n none .l (.n none .l (.n none .l (.n none .l (.n none .l (.n none (.n none .l (.n none (.n (some [6]) .l .l) .l)) .l))))))) Tryz.func73 kR kR kR H

def n74 (b0 at1 x2:Value) (R:VP) (h:Heap):Prop :=
 vF (sliceAt 52 b0 none (some at1) none) (fun t10 H1 =>
 vF (append_ #[52,52] 52 #[(.slice none 0 0),t10]) (fun t11 H2 =>
 vF (append_ #[52,52] 52 #[t11,x2]) (fun t14 H3 =>
 vF (len_ #[52] 3 #[x2]) (fun t19 H4 =>
 vF (vt .add 2 17 19 at1 t19) (fun t20 H5 =>
 vF (sliceAt 52 b0 (some t20) none none) (fun t21 H6 =>
 vF (append_ #[52,52] 52 #[t14,t21]) (fun t22 H7 =>
 R t22 H7) H6) H5) H4) H3) H2) H1) h

theorem n74_calls {b0 at1 x2:Value} {R:VP} {h:Heap} (H:n74 b0 at1 x2 R h):CallsH Tryz.prog 74 #[b0,at1,x2] h R ⟨⟩ :=
 callsH_of_eq Tryz.follow .l Tryz.func74 kR kR kR H

def n75 (h0:Value) (R:VP) (h:Heap):Prop :=
 vF (box 84 h0) (fun h1 H1 =>
 vF (buildSlice 52 4 #[(0,(.int .u8 80)),(1,(.int .u8 65)),(2,(.int .u8 76)),(3,(.int .u8 49))]) (fun t4 H2 =>
 vF (convert 52 52 t4) (fun t5 H3 =>
 vF (fieldAt 84 h1 0) (fun t7 H4 =>
 vF (loadAt 3 t7) (fun t8 H5 =>
 vF (convert 3 44 t8) (fun t9 H6 =>
 vC 76 #[t9,(.int .i64 4)] (fun t10 H7 =>
 vF (append_ #[52,52] 52 #[t5,t10]) (fun t11 H8 =>
 vF (fieldAt 84 h1 1) (fun t13 H9 =>
 vF (loadAt 44 t13) (fun t14 H10 =>
 vC 76 #[t14,(.int .i64 8)] (fun t15 H11 =>
 vF (append_ #[52,52] 52 #[t11,t15]) (fun t16 H12 =>
 vF (fieldAt 84 h1 2) (fun t18 H13 =>
 vF (loadAt 2 t18) (fun t19 H14 =>
 vF (convert 2 44 t19) (fun t20 H15 =>
 vC 76 #[t20,(.int .i64 8)] (fun t21 H16 =>
 vF (append_ #[52,52] 52 #[t16,t21]) (fun t22 H17 =>
 vF (fieldAt 84 h1 3) (fun t24 H18 =>
 vF (loadAt 2 t24) (fun t25 H19 =>
 vF (convert 2 44 t25) (fun t26 H20 =>
 vC 76 #[t26,(.int .i64 8)] (fun t27 H21 =>
 vF (append_ #[52,52] 52 #[t22,t27]) (fun t28 H22 =>
 vF (fieldAt 84 h1 4) (fun t30 H23 =>
 vF (loadAt 3 t30) (fun t31 H24 =>
 vF (convert 3 44 t31) (fun t32 H25 =>
 vC 76 #[t32,(.int .i64 4)] (fun t33 H26 =>
 vF (append_ #[52,52] 52 #[t28,t33]) (fun t34 H27 =>
 vF (fieldAt 84 h1 5) (fun t36 H28 =>
 vF (loadAt 3 t36) (fun t37 H29 =>
 vF (convert 3 44 t37) (fun t38 H30 =>
 vC 76 #[t38,(.int .i64 4)] (fun t39 H31 =>
 vF (append_ #[52,52] 52 #[t34,t39]) (fun t40 H32 =>
 vF (fieldAt 84 h1 6) (fun t42 H33 =>
 vF (loadAt 2 t42) (fun t43 H34 =>
 vF (convert 2 44 t43) (fun t44 H35 =>
 vC 76 #[t44,(.int .i64 8)] (fun t45 H36 =>
 vF (append_ #[52,52] 52 #[t40,t45]) (fun t46 H37 =>
 vF (fieldAt 84 h1 7) (fun t48 H38 =>
 vF (loadAt 3 t48) (fun t49 H39 =>
 vF (convert 3 44 t49) (fun t50 H40 =>
 vC 76 #[t50,(.int .i64 4)] (fun t51 H41 =>
 vF (append_ #[52,52] 52 #[t46,t51]) (fun t52 H42 =>
 vF (fieldAt 84 h1 8) (fun t54 H43 =>
 vF (loadAt 3 t54) (fun t55 H44 =>
 vF (convert 3 44 t55) (fun t56 H45 =>
 vC 76 #[t56,(.int .i64 4)] (fun t57 H46 =>
 vF (append_ #[52,52] 52 #[t52,t57]) (fun t58 H47 =>
 vF (fieldAt 84 h1 9) (fun t60 H48 =>
 vF (loadAt 2 t60) (fun t61 H49 =>
 vF (convert 2 44 t61) (fun t62 H50 =>
 vC 76 #[t62,(.int .i64 8)] (fun t63 H51 =>
 vF (append_ #[52,52] 52 #[t58,t63]) (fun t64 H52 =>
 vF (fieldAt 84 h1 10) (fun t66 H53 =>
 vF (loadAt 3 t66) (fun t67 H54 =>
 vF (convert 3 44 t67) (fun t68 H55 =>
 vC 76 #[t68,(.int .i64 4)] (fun t69 H56 =>
 vF (append_ #[52,52] 52 #[t64,t69]) (fun t70 H57 =>
 vF (fieldAt 84 h1 11) (fun t72 H58 =>
 vF (loadAt 3 t72) (fun t73 H59 =>
 vF (convert 3 44 t73) (fun t74 H60 =>
 vC 76 #[t74,(.int .i64 4)] (fun t75 H61 =>
 vF (append_ #[52,52] 52 #[t70,t75]) (fun t76 H62 =>
 vF (fieldAt 84 h1 12) (fun t78 H63 =>
 vF (loadAt 2 t78) (fun t79 H64 =>
 vF (convert 2 44 t79) (fun t80 H65 =>
 vC 76 #[t80,(.int .i64 8)] (fun t81 H66 =>
 vF (append_ #[52,52] 52 #[t76,t81]) (fun t82 H67 =>
 vF (fieldAt 84 h1 13) (fun t84 H68 =>
 vF (loadAt 3 t84) (fun t85 H69 =>
 vF (convert 3 44 t85) (fun t86 H70 =>
 vC 76 #[t86,(.int .i64 4)] (fun t87 H71 =>
 vF (append_ #[52,52] 52 #[t82,t87]) (fun t88 H72 =>
 vF (fieldAt 84 h1 14) (fun t90 H73 =>
 vF (loadAt 9 t90) (fun t91 H74 =>
 vF (len_ #[9] 3 #[t91]) (fun t92 H75 =>
 vF (convert 3 44 t92) (fun t93 H76 =>
 vC 76 #[t93,(.int .i64 4)] (fun t94 H77 =>
 vF (append_ #[52,52] 52 #[t88,t94]) (fun t95 H78 =>
 vF (fieldAt 84 h1 14) (fun t97 H79 =>
 vF (loadAt 9 t97) (fun t98 H80 =>
 vF (append_ #[52,9] 52 #[t95,t98]) (fun t99 H81 =>
 LoopC 1 (fun (X:VP)=>fun out3 H82 =>
 vF (len_ #[52] 3 #[out3]) (fun t101 H83 =>
 vF (vk .lss 3 101 .i64 512 t101) (fun t102 H84 =>
 vD t102 (
 vF (buildSlice 52 1 #[(0,(.int .u8 0))]) (fun t104 H85 =>
 vF (append_ #[52,52] 52 #[out3,t104]) (fun t105 H86 =>
 X t105 H86) H85) H84) (
 R out3 H84)) H83) H82) [t99] H81 ⟨⟩) H80) H79) H78) H77) H76) H75) H74) H73) H72) H71) H70) H69) H68) H67) H66) H65) H64) H63) H62) H61) H60) H59) H58) H57) H56) H55) H54) H53) H52) H51) H50) H49) H48) H47) H46) H45) H44) H43) H42) H41) H40) H39) H38) H37) H36) H35) H34) H33) H32) H31) H30) H29) H28) H27) H26) H25) H24) H23) H22) H21) H20) H19) H18) H17) H16) H15) H14) H13) H12) H11) H10) H9) H8) H7) H6) H5) H4) H3) H2) H1) h

theorem n75_calls {h0:Value} {R:VP} {h:Heap} (H:n75 h0 R h):CallsH Tryz.prog 75 #[h0] h R ⟨⟩ :=
 callsH_of_eq Tryz.follow (.n none .l (.n none .l (.n none .l (.n none .l (.n none .l (.n none .l (.n none .l (.n none .l (.n none .l (.n none .l (.n none .l (.n none .l (.n none .l (.n none .l (.n none .l (.n none .l (.n none .l (.n none .l (.n none (.n none (.n (some [4]) .l .l) .l) .l))))))))))))))))))) Tryz.func75 kR kR kR H

def n76 (x0 n1:Value) (R:VP) (h:Heap):Prop :=
 LoopC 3 (fun (X:Value→Value→VP)=>fun x0_1 out5 i6 H1 =>
 vF (vt .lss 3 7 8 i6 n1) (fun t9 H2 =>
 vD t9 (
 vF (vk .rem 44 13 .u64 256 x0_1) (fun t14 H3 =>
 vF (convert 44 5 t14) (fun t15 H4 =>
 vF (buildSlice 52 1 #[(0,t15)]) (fun t16 H5 =>
 vF (append_ #[52,52] 52 #[out5,t16]) (fun t17 H6 =>
 vF (vk .quo 44 18 .u64 256 x0_1) (fun t19 H7 =>
 vF (vk .add 3 10 .i64 1 i6) (fun t11 H8 =>
 X t19 t17 t11 H8) H7) H6) H5) H4) H3) H2) (
 R out5 H2)) H1) [x0,(.slice none 0 0),(.int .i64 0)] h ⟨⟩

theorem n76_calls {x0 n1:Value} {R:VP} {h:Heap} (H:n76 x0 n1 R h):CallsH Tryz.prog 76 #[x0,n1] h R ⟨⟩ :=
 callsH_of_eq Tryz.follow (.n none .l (.n none .l (.n none (.n none .l (.n none (.n (some [1,6,7]) .l .l) .l)) .l))) Tryz.func76 kR kR kR H

def n77 (b0 order1 i2 x3:Value) (R:VP) (h:Heap):Prop :=
 vC 37 #[order1] (fun t16 H1 =>
 vF (append_ #[52,52] 52 #[(.slice none 0 0),b0]) (fun t18 H2 =>
 LoopC 2 (fun (X:Value→VP)=>fun x3_1 k11 H3 =>
 vF (vt .lss 3 19 20 k11 t16) (fun t21 H4 =>
 vD t21 (
 vF (vt .mul 3 24 25 i2 t16) (fun t26 H5 =>
 vF (vt .add 3 26 27 t26 k11) (fun t28 H6 =>
 vF (vk .quo 3 30 .i64 8 t28) (fun t31 H7 =>
 vF (indexAt 52 t18 t31) (fun t32 H8 =>
 vF (loadAt 5 t32) (fun t33 H9 =>
 vF (vk .rem 3 34 .i64 8 t28) (fun t35 H10 =>
 vF (vt .shr 5 33 35 t33 t35) (fun t36 H11 =>
 vF (vk .rem 5 36 .u8 2 t36) (fun t37 H12 =>
 vF (vk .rem 44 38 .u64 2 x3_1) (fun t39 H13 =>
 vF (convert 44 5 t39) (fun t40 H14 =>
 JoinN 0 (fun (k:Heap→Prop) H15 =>
 vF (vt .neq 5 41 42 t37 t40) (fun t43 H16 =>
 vD t43 (
 vG (vk .quo 3 45 .i64 8 t28) (fun t46 _ =>
 vG (vk .quo 3 48 .i64 8 t28) (fun t49 _ =>
 vG (indexAt 52 t18 t49) (fun t50 _ =>
 vG (loadAt 5 t50) (fun t51 _ =>
 vG (vk .rem 3 52 .i64 8 t28) (fun t53 _ =>
 vG (binS .shl 5 (.const (.int .u8 1)) (.tmp 53) (.int .u8 1) t53) (fun t54 _ =>
 vG (vt .xor 5 51 54 t51 t54) (fun t55 _ =>
 vG (indexAt 52 t18 t46) (fun t56 _ =>
 vF (storeS 5 t56 t55) (fun _ H17 =>
 k H17) H16) #[]) #[]) #[]) #[]) H16) #[]) #[]) #[]) (
 k H16)) H15)
 (fun H18 =>
 vF (vk .quo 44 57 .u64 2 x3_1) (fun t58 H19 =>
 vF (vk .add 3 22 .i64 1 k11) (fun t23 H20 =>
 X t58 t23 H20) H19) H18) H14 ⟨⟩ ⟨⟩) H13) H12) H11) H10) H9) H8) H7) H6) H5) H4) (
 R t18 H4)) H3) [x3,(.int .i64 0)] H2 ⟨⟩) H1) h

theorem n77_calls {b0 order1 i2 x3:Value} {R:VP} {h:Heap} (H:n77 b0 order1 i2 x3 R h):CallsH Tryz.prog 77 #[b0,order1,i2,x3] h R ⟨⟩ :=
 callsH_of_eq Tryz.follow (.n none .l (.n none .l (.n none .l (.n none (.n none .l (.n none (.n (some [4,12]) (.n none .l (.n none (.n none (.n none .l (.n none .l (.n none .l (.n (some []) .l .l)))) .l) .l)) .l) .l)) .l)))) Tryz.func77 kR kR kR H

def n78 (fates0:Value) (R:VP) (h:Heap):Prop :=
 vC 122 #[fates0,(.func (.func 123) #[] #[])] (fun t4 H1 =>
 vF (Op.unary .not t4) (fun t5 H2 =>
 R t5 H2) H1) h

theorem n78_calls {fates0:Value} {R:VP} {h:Heap} (H:n78 fates0 R h):CallsH Tryz.prog 78 #[fates0] h R ⟨⟩ :=
 callsH_of_eq Tryz.follow .l Tryz.func78 kR kR kR H

def n79 (s0:Value) (R:VP) (h:Heap):Prop :=
 vF (binS .eql 67 (.tmp 3) (.const (.slice none 0 0)) s0 (.slice none 0 0)) (fun t4 H1 =>
 vD t4 (
 R (.slice none 0 0) H1) (
 vF (buildSlice 67 0 #[]) (fun t5 H2 =>
 vF (append_ #[67,67] 67 #[t5,s0]) (fun t7 H3 =>
 R t7 H3) H2) H1)) h

theorem n79_calls {s0:Value} {R:VP} {h:Heap} (H:n79 s0 R h):CallsH Tryz.prog 79 #[s0] h R ⟨⟩ :=
 callsH_of_eq Tryz.follow .l Tryz.func79 kR kR kR H

def n80 (s0 name1:Value) (R:VP) (h:Heap):Prop :=
 vC 66 #[s0] (fun t7 H1 =>
 vD t7 (
 R (.int .i64 1) H1) (
 vF (len_ #[9] 3 #[name1]) (fun t10 H2 =>
 vF (vk .lss 3 10 .i64 1 t10) (fun t11 H3 =>
 vJ t11 false (vV name1) (fun t13 H5 =>
 vJ t11 false (vF (len_ #[9] 3 #[t13])) (fun t14 H7 =>
 vJ t11 false (vF (vk .gtr 3 14 .i64 64 t14)) (fun t15 H9 =>
 vF (pickS t11 (.bool true) t15) (fun t16 H10 =>
 vJ t16 false (vV name1) (fun t18 H12 =>
 vJ t16 false (vF (convert 9 52 t18)) (fun t19 H14 =>
 vJ t16 false (vC 124 #[t19,(.int .u8 0)]) (fun t20 H16 =>
 vJ t16 false (vF (vk .geq 3 20 .i64 0 t20)) (fun t21 H18 =>
 vF (pickS t16 (.bool true) t21) (fun t22 H19 =>
 vD t22 (
 R (.int .i64 2) H19) (
 R (.int .i64 0) H19)) H18) H16) H14) H12) H10) H9) H7) H5) H3) H2) H1)) h

theorem n80_calls {s0 name1:Value} {R:VP} {h:Heap} (H:n80 s0 name1 R h):CallsH Tryz.prog 80 #[s0,name1] h R ⟨⟩ :=
 callsH_of_eq Tryz.follow .l Tryz.func80 kR kR kR H

def n81 (s0:Value) (R:VP) (h:Heap):Prop :=
 vF (nilS s0) (fun t7 H1 =>
 vF (fieldAt 144 t7 2) (fun t8 H2 =>
 vF (loadAt 3 t8) (fun t9 H3 =>
 vF (vk .add 3 9 .i64 1 t9) (fun t10 H4 =>
 vF (nilS s0) (fun t11 H5 =>
 vF (fieldAt 144 t11 2) (fun t12 H6 =>
 vF (storeS 3 t12 t10) (fun _ H7 =>
 vF (nilS s0) (fun t14 H8 =>
 vF (fieldAt 144 t14 1) (fun t15 H9 =>
 vF (loadAt 67 t15) (fun t16 H10 =>
 vF (len_ #[67] 3 #[t16]) (fun t17 H11 =>
 vF (vk .eql 3 17 .i64 0 t17) (fun t18 H12 =>
 vD t18 (
 R (.tuple #[(.int .i64 0),(.int .i64 0)]) H12) (
 vF (nilS s0) (fun t20 H13 =>
 vF (fieldAt 144 t20 1) (fun t21 H14 =>
 vF (loadAt 67 t21) (fun t22 H15 =>
 vF (indexAt 67 t22 (.int .i64 0)) (fun t23 H16 =>
 vF (loadAt 139 t23) (fun t24 H17 =>
 vF (alloc 139 true undef) (fun f4 H18 =>
 vF (storeS 139 f4 t24) (fun _ H19 =>
 vF (nilS s0) (fun t27 H20 =>
 vF (fieldAt 144 t27 1) (fun t28 H21 =>
 vF (loadAt 67 t28) (fun t29 H22 =>
 vF (sliceAt 67 t29 (some (.int .i64 1)) none none) (fun t30 H23 =>
 vF (nilS s0) (fun t31 H24 =>
 vF (fieldAt 144 t31 1) (fun t32 H25 =>
 vF (storeS 67 t32 t30) (fun _ H26 =>
 JoinN 1 (fun (k:VP) H27 =>
 vF (fieldAt 139 f4 0) (fun t33 H28 =>
 vF (loadAt 137 t33) (fun t34 H29 =>
 JoinN 1 (fun (k_1:VP) H30 =>
 vF (vk .eql 137 34 .i64 1 t34) (fun t36 H31 =>
 vD t36 (
 k_1 (.int .i64 5) H31) (
 vF (vk .eql 137 34 .i64 2 t34) (fun t38 H32 =>
 vD t38 (
 k_1 (.int .i64 6) H32) (
 k_1 (.int .i64 0) H32)) H31)) H30)
 (fun e5 H33 =>
 k e5 H33) H29 ⟨⟩ ⟨⟩) H28) H27)
 (fun e5_1 H34 =>
 vG (fieldAt 139 f4 1) (fun t40 _ =>
 vG (loadAt 3 t40) (fun t41 _ =>
 vG (max_ #[3,3] 3 #[(.int .i64 0),t41]) (fun t42 _ =>
 R (.tuple #[e5_1,t42]) H34) #[]) H34) #[]) H26 ⟨⟩ ⟨⟩) H25) H24) H23) H22) H21) H20) H19) H18) H17) H16) H15) H14) H13) H12)) H11) H10) H9) H8) H7) H6) H5) H4) H3) H2) H1) h

theorem n81_calls {s0:Value} {R:VP} {h:Heap} (H:n81 s0 R h):CallsH Tryz.prog 81 #[s0] h R ⟨⟩ :=
 callsH_of_eq Tryz.follow (.n none .l (.n none .l (.n none .l (.n none .l (.n none .l (.n none .l (.n (some [6]) (.n none .l (.n (some [6]) .l .l)) .l))))))) Tryz.func81 kR kR kR H

def n82 (f0 size1:Value) (R:VP) (h:Heap):Prop :=
 vF (nilS f0) (fun t7 H1 =>
 vF (fieldAt 97 t7 2) (fun t8 H2 =>
 vF (loadAt 52 t8) (fun t9 H3 =>
 vF (len_ #[52] 3 #[t9]) (fun t10 H4 =>
 vF (vt .sub 2 5 10 size1 t10) (fun t11 H5 =>
 vF (vk .gtr 2 12 .i64 0 t11) (fun t13 H6 =>
 vD t13 (
 vF (nilS f0) (fun t16 H7 =>
 vF (fieldAt 97 t16 2) (fun t17 H8 =>
 vF (loadAt 52 t17) (fun t18 H9 =>
 vF (append_ #[52,2] 52 #[t18,t11]) (fun t20 H10 =>
 vF (nilS f0) (fun t21 H11 =>
 vF (fieldAt 97 t21 2) (fun t22 H12 =>
 vF (storeS 52 t22 t20) (fun _ H13 =>
 vF (nilS f0) (fun t25 H14 =>
 vF (fieldAt 97 t25 0) (fun t26 H15 =>
 vF (loadAt 52 t26) (fun t27 H16 =>
 vF (append_ #[52,2] 52 #[t27,t11]) (fun t29 H17 =>
 vF (nilS f0) (fun t30 H18 =>
 vF (fieldAt 97 t30 0) (fun t31 H19 =>
 vF (storeS 52 t31 t29) (fun _ H20 =>
 R (.tuple #[]) H20) H19) H18) H17) H16) H15) H14) H13) H12) H11) H10) H9) H8) H7) H6) (
 R (.tuple #[]) H6)) H5) H4) H3) H2) H1) h

theorem n82_calls {f0 size1:Value} {R:VP} {h:Heap} (H:n82 f0 size1 R h):CallsH Tryz.prog 82 #[f0,size1] h R ⟨⟩ :=
 callsH_of_eq Tryz.follow .l Tryz.func82 kR kR kR H

def n83 (s0:Value) (R:VP) (h:Heap):Prop :=
 vF (binS .eql 95 (.tmp 3) (.const (.slice none 0 0)) s0 (.slice none 0 0)) (fun t4 H1 =>
 vD t4 (
 R (.slice none 0 0) H1) (
 vF (buildSlice 95 0 #[]) (fun t5 H2 =>
 vF (append_ #[95,95] 95 #[t5,s0]) (fun t7 H3 =>
 R t7 H3) H2) H1)) h

theorem n83_calls {s0:Value} {R:VP} {h:Heap} (H:n83 s0 R h):CallsH Tryz.prog 83 #[s0] h R ⟨⟩ :=
 callsH_of_eq Tryz.follow .l Tryz.func83 kR kR kR H

def n84 (at0 n1 t2:Value) (R:VP) (h:Heap):Prop :=
 vF (loadAt 52 t2) (fun t9 H1 =>
 vC 85 #[t9,at0,n1] (fun t12 H2 =>
 vF (extract t12 0) (fun t13 H3 =>
 vF (extract t12 1) (fun t14 H4 =>
 vF (convert 44 2 t13) (fun t16 H5 =>
 R t16 H5) H4) H3) H2) H1) h

theorem n84_calls {at0 n1 t2:Value} {R:VP} {h:Heap} (H:n84 at0 n1 t2 R h):CallsH Tryz.prog 84 #[at0,n1,t2] h R ⟨⟩ :=
 callsH_of_eq Tryz.follow .l Tryz.func84 kR kR kR H

def n85 (b0 at1 n2:Value) (R:VP) (h:Heap):Prop :=
 vF (vk .lss 3 11 .i64 1 n2) (fun t12 H1 =>
 vJ t12 false (vV n2) (fun t14 H3 =>
 vJ t12 false (vF (vk .gtr 3 14 .i64 8 t14)) (fun t15 H5 =>
 vF (pickS t12 (.bool true) t15) (fun t16 H6 =>
 vD t16 (
 R (.tuple #[(.int .u64 0),(.int .i64 2)]) H6) (
 vC 125 #[b0,at1,n2] (fun t21 H7 =>
 vF (Op.unary .not t21) (fun t22 H8 =>
 vD t22 (
 R (.tuple #[(.int .u64 0),(.int .i64 4)]) H8) (
 vF (vk .sub 3 23 .i64 1 n2) (fun t24 H9 =>
 LoopC 2 (fun (X:Value→VP)=>fun x8 i9 H10 =>
 vF (vk .geq 3 25 .i64 0 i9) (fun t26 H11 =>
 vD t26 (
 vF (vk .shl 44 29 .u64 8 x8) (fun t30 H12 =>
 vF (vt .add 3 33 34 at1 i9) (fun t35 H13 =>
 vF (indexAt 52 b0 t35) (fun t36 H14 =>
 vF (loadAt 5 t36) (fun t37 H15 =>
 vF (convert 5 44 t37) (fun t38 H16 =>
 vF (vt .or 44 31 38 t30 t38) (fun t39 H17 =>
 vF (vk .sub 3 27 .i64 1 i9) (fun t28 H18 =>
 X t39 t28 H18) H17) H16) H15) H14) H13) H12) H11) (
 R (.tuple #[x8,(.int .i64 0)]) H11)) H10) [(.int .u64 0),t24] H9 ⟨⟩) H8)) H7) H6)) H5) H3) H1) h

theorem n85_calls {b0 at1 n2:Value} {R:VP} {h:Heap} (H:n85 b0 at1 n2 R h):CallsH Tryz.prog 85 #[b0,at1,n2] h R ⟨⟩ :=
 callsH_of_eq Tryz.follow (.n none .l (.n none .l (.n none .l (.n none (.n none .l (.n none (.n (some [9,10]) .l .l) .l)) .l)))) Tryz.func85 kR kR kR H

def n86 (b0 at1 most2:Value) (R:VP) (h:Heap):Prop :=
 vC 126 #[b0,at1,most2] (fun t17 H1 =>
 vF (vk .neq 31 18 .i64 0 t17) (fun t19 H2 =>
 vD t19 (
 R (.tuple #[(str []),t17]) H2) (
 vC 85 #[b0,at1,(.int .i64 4)] (fun t24 H3 =>
 vF (extract t24 0) (fun t25 H4 =>
 vF (extract t24 1) (fun t26 H5 =>
 vF (convert 3 44 most2) (fun t29 H6 =>
 vF (vt .gtr 44 27 29 t25 t29) (fun t30 H7 =>
 vD t30 (
 R (.tuple #[(str []),(.int .i64 110)]) H7) (
 vF (vk .add 3 31 .i64 4 at1) (fun t32 H8 =>
 vF (convert 44 3 t25) (fun t34 H9 =>
 vF (vt .add 3 32 34 t32 t34) (fun t35 H10 =>
 vF (vk .add 3 39 .i64 4 at1) (fun t40 H11 =>
 vF (vt .add 3 40 41 t40 most2) (fun t42 H12 =>
 vC 127 #[b0,t35,t42] (fun t43 H13 =>
 vF (extract t43 0) (fun t44 H14 =>
 vF (extract t43 1) (fun t45 H15 =>
 vF (Op.unary .not t44) (fun t47 H16 =>
 vD t47 (
 R (.tuple #[(str []),(.int .i64 110)]) H16) (
 vF (vk .add 3 49 .i64 4 at1) (fun t50 H17 =>
 vF (sliceAt 52 b0 (some t50) (some t35) none) (fun t52 H18 =>
 vF (convert 52 9 t52) (fun t53 H19 =>
 R (.tuple #[t53,(.int .i64 0)]) H19) H18) H17) H16)) H15) H14) H13) H12) H11) H10) H9) H8) H7)) H6) H5) H4) H3) H2)) H1) h

theorem n86_calls {b0 at1 most2:Value} {R:VP} {h:Heap} (H:n86 b0 at1 most2 R h):CallsH Tryz.prog 86 #[b0,at1,most2] h R ⟨⟩ :=
 callsH_of_eq Tryz.follow .l Tryz.func86 kR kR kR H

def n87 (h0:Value) (R:VP) (h:Heap):Prop :=
 vF (box 84 h0) (fun h1 H1 =>
 vF (loadAt 84 h1) (fun t7 H2 =>
 vC 128 #[t7] (fun t8 H3 =>
 vF (vk .neq 31 8 .i64 0 t8) (fun t9 H4 =>
 vD t9 (
 R (.tuple #[(.slice none 0 0),(.int .i64 2)]) H4) (
 vF (makeSlice 52 (.int .i64 512) (.int .i64 512)) (fun t10 H5 =>
 vF (copy_ #[52,9] 3 #[t10,(str [80,65,76,49])]) (fun t12 H6 =>
 vF (loadAt 84 h1) (fun t13 H7 =>
 vC 129 #[t13] (fun t14 H8 =>
 vF (len_ #[197] 3 #[t14]) (fun t15 H9 =>
 LoopC 1 (fun (X:VP)=>fun t16 H10 =>
 vF (vt .lss 3 16 15 t16 t15) (fun t17 H11 =>
 vD t17 (
 vF (indexAt 197 t14 t16) (fun t18 H12 =>
 vF (loadAt 200 t18) (fun t19 H13 =>
 vF (alloc 200 true undef) (fun f6 H14 =>
 vF (storeS 200 f6 t19) (fun _ H15 =>
 vF (fieldAt 200 f6 0) (fun t21 H16 =>
 vF (loadAt 3 t21) (fun t22 H17 =>
 vF (fieldAt 200 f6 1) (fun t23 H18 =>
 vF (loadAt 3 t23) (fun t24 H19 =>
 vF (fieldAt 200 f6 2) (fun t25 H20 =>
 vF (loadAt 44 t25) (fun t26 H21 =>
 vC 101 #[t10,t22,t24,t26] (fun t27 H22 =>
 vF (vk .add 3 16 .i64 1 t16) (fun t28 H23 =>
 X t28 H23) H22) H21) H20) H19) H18) H17) H16) H15) H14) H13) H12) H11) (
 vF (fieldAt 84 h1 14) (fun t30 H24 =>
 vF (loadAt 9 t30) (fun t31 H25 =>
 vC 130 #[t10,(.int .i64 84),(.int .i64 64),t31] (fun t32 H26 =>
 R (.tuple #[t10,(.int .i64 0)]) H26) H25) H24) H11)) H10) [(.int .i64 0)] H9 ⟨⟩) H8) H7) H6) H5) H4)) H3) H2) H1) h

theorem n87_calls {h0:Value} {R:VP} {h:Heap} (H:n87 h0 R h):CallsH Tryz.prog 87 #[h0] h R ⟨⟩ :=
 callsH_of_eq Tryz.follow (.n none .l (.n none .l (.n none .l (.n none .l (.n none (.n none .l (.n none (.n (some [17]) .l .l) .l)) .l))))) Tryz.func87 kR kR kR H

def n88 (a0 b1:Value) (R:VP) (h:Heap):Prop :=
 vF (convert 52 9 a0) (fun t6 H1 =>
 vF (convert 52 9 b1) (fun t8 H2 =>
 vF (vt .eql 9 6 8 t6 t8) (fun t9 H3 =>
 R t9 H3) H2) H1) h

theorem n88_calls {a0 b1:Value} {R:VP} {h:Heap} (H:n88 a0 b1 R h):CallsH Tryz.prog 88 #[a0,b1] h R ⟨⟩ :=
 callsH_of_eq Tryz.follow .l Tryz.func88 kR kR kR H

def n89 (h0 tell1:Value) (R:VP) (h:Heap):Prop :=
 vF (box 84 h0) (fun h2 H1 =>
 vF (loadAt 84 h2) (fun t5 H2 =>
 vC 128 #[t5] (fun t6 H3 =>
 vF (vk .neq 31 6 .i64 0 t6) (fun t7 H4 =>
 vD t7 (
 R (.int .i64 0) H4) (
 vF (fieldAt 84 h2 0) (fun t9 H5 =>
 vF (loadAt 3 t9) (fun t10 H6 =>
 vF (binS .shl 2 (.const (.int .i64 1)) (.tmp 10) (.int .i64 1) t10) (fun t11 H7 =>
 InvokeH Tryz.prog tell1 #[t11] H7 (fun t12 H8 =>
 R t12 H8) ⟨⟩) H6) H5) H4)) H3) H2) H1) h

theorem n89_calls {h0 tell1:Value} {R:VP} {h:Heap} (H:n89 h0 tell1 R h):CallsH Tryz.prog 89 #[h0,tell1] h R ⟨⟩ :=
 callsH_of_eq Tryz.follow .l Tryz.func89 kR kR kR H

def n90 (c0:Value) (R:VP) (h:Heap):Prop :=
 R c0 h

theorem n90_calls {c0:Value} {R:VP} {h:Heap} (H:n90 c0 R h):CallsH Tryz.prog 90 #[c0] h R ⟨⟩ :=
 callsH_of_eq Tryz.follow .l Tryz.func90 kR kR kR H

def n91 (r0 i1:Value) (R:VP) (h:Heap):Prop :=
 vF (nilS r0) (fun t14 H1 =>
 vF (fieldAt 89 t14 2) (fun t15 H2 =>
 vF (fieldAt 84 t15 6) (fun t16 H3 =>
 vF (loadAt 2 t16) (fun t17 H4 =>
 vF (binS .mul 2 (.const (.int .i64 8)) (.tmp 18) (.int .i64 8) i1) (fun t19 H5 =>
 vF (vt .add 2 17 19 t17 t19) (fun t20 H6 =>
 vC 92 #[r0,t20,(.int .i64 8)] (fun t21 H7 =>
 vF (extract t21 0) (fun t22 H8 =>
 vF (extract t21 1) (fun t23 H9 =>
 vF (vk .neq 31 24 .i64 0 t23) (fun t25 H10 =>
 vD t25 (
 R (.tuple #[(.int .i64 0),t23]) H10) (
 vC 85 #[t22,(.int .i64 0),(.int .i64 8)] (fun t29 H11 =>
 vF (extract t29 0) (fun t30 H12 =>
 vF (extract t29 1) (fun t31 H13 =>
 vF (vk .eql 44 32 .u64 0 t30) (fun t33 H14 =>
 vD t33 (
 R (.tuple #[(.int .i64 0),(.int .i64 0)]) H14) (
 vG (nilS r0) (fun t36 _ =>
 vG (fieldAt 89 t36 0) (fun t37 _ =>
 vG (loadAt 27 t37) (fun t38 _ =>
 vG (nilS r0) (fun t40 _ =>
 vG (fieldAt 89 t40 1) (fun t41 _ =>
 vG (loadAt 9 t41) (fun t42 _ =>
 vC 11 #[t38,t42] (fun t43 H15 =>
 vG (extract t43 0) (fun t44 _ =>
 vG (extract t43 1) (fun t45 _ =>
 vF (vk .neq 31 46 .i64 0 t45) (fun t47 H16 =>
 vD t47 (
 R (.tuple #[(.int .i64 0),t45]) H16) (
 vF (vk .gtr 44 49 .u64 268435456 t30) (fun t50 H17 =>
 vJ t50 false (vV t30) (fun t52 H19 =>
 vJ t50 false (vF (convert 44 2 t52)) (fun t53 H21 =>
 vJ t50 false (vV r0) (fun t54 H23 =>
 vJ t50 false (vF (nilS t54)) (fun t55 H25 =>
 vJ t50 false (vF (fieldAt 89 t55 3)) (fun t56 H27 =>
 vJ t50 false (vF (loadAt 2 t56)) (fun t57 H29 =>
 vJ t50 false (vF (vt .rem 2 53 57 t53 t57)) (fun t58 H31 =>
 vJ t50 false (vF (vk .neq 2 58 .i64 0 t58)) (fun t59 H33 =>
 vF (pickS t50 (.bool true) t59) (fun t60 H34 =>
 vJ t60 false (vV t30) (fun t62 H36 =>
 vJ t60 false (vF (convert 44 2 t62)) (fun t63 H38 =>
 vJ t60 false (vV r0) (fun t64 H40 =>
 vJ t60 false (vF (nilS t64)) (fun t65 H42 =>
 vJ t60 false (vF (fieldAt 89 t65 3)) (fun t66 H44 =>
 vJ t60 false (vF (loadAt 2 t66)) (fun t67 H46 =>
 vJ t60 false (vF (vt .add 2 63 67 t63 t67)) (fun t68 H48 =>
 vJ t60 false (vV t44) (fun t69 H50 =>
 vJ t60 false (vF (vt .gtr 2 68 69 t68 t69)) (fun t70 H52 =>
 vF (pickS t60 (.bool true) t70) (fun t71 H53 =>
 vD t71 (
 R (.tuple #[(.int .i64 0),(.int .i64 9)]) H53) (
 vF (convert 44 2 t30) (fun t73 H54 =>
 R (.tuple #[t73,(.int .i64 0)]) H54) H53)) H52) H50) H48) H46) H44) H42) H40) H38) H36) H34) H33) H31) H29) H27) H25) H23) H21) H19) H17) H16)) H15) #[]) #[]) H14) H14) #[]) #[]) H14) #[]) #[])) H13) H12) H11) H10)) H9) H8) H7) H6) H5) H4) H3) H2) H1) h

theorem n91_calls {r0 i1:Value} {R:VP} {h:Heap} (H:n91 r0 i1 R h):CallsH Tryz.prog 91 #[r0,i1] h R ⟨⟩ :=
 callsH_of_eq Tryz.follow .l Tryz.func91 kR kR kR H

def n92 (r0 at1 n2:Value) (R:VP) (h:Heap):Prop :=
 vG (nilS r0) (fun t12 _ =>
 vG (fieldAt 89 t12 0) (fun t13 _ =>
 vG (loadAt 27 t13) (fun t14 _ =>
 vG (nilS r0) (fun t16 _ =>
 vG (fieldAt 89 t16 1) (fun t17 _ =>
 vG (loadAt 9 t17) (fun t18 _ =>
 vC 33 #[t14,t18,at1,n2] (fun t21 H1 =>
 vG (extract t21 0) (fun t22 _ =>
 vG (extract t21 1) (fun t23 _ =>
 vF (vk .eql 31 25 .i64 4 t23) (fun t26 H2 =>
 vJ t26 false (vV t23) (fun t28 H4 =>
 vJ t26 false (vF (vk .eql 31 28 .i64 0 t28)) (fun t29 H6 =>
 vJ t26 false (vV t29) (fun t30 H8 =>
 vJ t30 true (vV t22) (fun t31 H10 =>
 vJ t30 true (vF (len_ #[52] 3 #[t31])) (fun t32 H12 =>
 vJ t30 true (vV n2) (fun t33 H14 =>
 vJ t30 true (vF (vt .lss 3 32 33 t32 t33)) (fun t34 H16 =>
 vJ t26 false (vF (pickS t30 t34 (.bool false))) (fun t35 H18 =>
 vF (pickS t26 (.bool true) t35) (fun t36 H19 =>
 vD t36 (
 R (.tuple #[(.slice none 0 0),(.int .i64 9)]) H19) (
 vF (vk .neq 31 38 .i64 0 t23) (fun t39 H20 =>
 vD t39 (
 R (.tuple #[(.slice none 0 0),t23]) H20) (
 R (.tuple #[t22,(.int .i64 0)]) H20)) H19)) H18) H16) H14) H12) H10) H8) H6) H4) H2) H1) #[]) #[]) h) h) #[]) #[]) h) #[]) #[]

theorem n92_calls {r0 at1 n2:Value} {R:VP} {h:Heap} (H:n92 r0 at1 n2 R h):CallsH Tryz.prog 92 #[r0,at1,n2] h R ⟨⟩ :=
 callsH_of_eq Tryz.follow .l Tryz.func92 kR kR kR H

def n93 (b0 order1 i2:Value) (R:VP) (h:Heap):Prop :=
 vC 131 #[b0,order1] (fun t13 H1 =>
 vF (extract t13 0) (fun t14 H2 =>
 vF (extract t13 1) (fun t15 H3 =>
 vF (vk .neq 31 17 .i64 0 t15) (fun t18 H4 =>
 vD t18 (
 R (.tuple #[(.int .i64 0),t15]) H4) (
 vF (vk .lss 3 21 .i64 0 i2) (fun t22 H5 =>
 vJ t22 false (vV i2) (fun t24 H7 =>
 vJ t22 false (vV t14) (fun t25 H9 =>
 vJ t22 false (vF (vt .geq 3 24 25 t24 t25)) (fun t26 H11 =>
 vF (pickS t22 (.bool true) t26) (fun t27 H12 =>
 vD t27 (
 R (.tuple #[(.int .i64 0),(.int .i64 4)]) H12) (
 vC 98 #[order1] (fun t29 H13 =>
 R (.tuple #[t29,(.int .i64 0)]) H13) H12)) H11) H9) H7) H5) H4)) H3) H2) H1) h

theorem n93_calls {b0 order1 i2:Value} {R:VP} {h:Heap} (H:n93 b0 order1 i2 R h):CallsH Tryz.prog 93 #[b0,order1,i2] h R ⟨⟩ :=
 callsH_of_eq Tryz.follow .l Tryz.func93 kR kR kR H

def n94 (b0 w1 i2:Value) (R:VP) (h:Heap):Prop :=
 vF (vk .lss 3 9 .i64 8 w1) (fun t10 H1 =>
 vD t10 (
 vG (vt .mul 3 12 13 i2 w1) (fun t14 _ =>
 vG (vk .quo 3 14 .i64 8 t14) (fun t15 _ =>
 vG (indexAt 52 b0 t15) (fun t16 _ =>
 vG (loadAt 5 t16) (fun t17 _ =>
 vG (convert 5 44 t17) (fun t18 _ =>
 vG (vt .mul 3 19 20 i2 w1) (fun t21 _ =>
 vG (vk .rem 3 21 .i64 8 t21) (fun t22 _ =>
 vG (vt .shr 44 18 22 t18 t22) (fun t23 _ =>
 vG (binS .shl 44 (.const (.int .u64 1)) (.tmp 24) (.int .u64 1) w1) (fun t25 _ =>
 vG (vk .sub 44 25 .u64 1 t25) (fun t26 _ =>
 vG (vt .and 44 23 26 t23 t26) (fun t27 _ =>
 R t27 H1) #[]) #[]) #[]) #[]) #[]) #[]) #[]) H1) #[]) #[]) #[]) (
 vF (vk .quo 3 28 .i64 8 w1) (fun t29 H2 =>
 vF (vk .sub 3 29 .i64 1 t29) (fun t30 H3 =>
 LoopC 2 (fun (X:Value→VP)=>fun x7 k8 H4 =>
 vF (vk .geq 3 31 .i64 0 k8) (fun t32 H5 =>
 vD t32 (
 vF (vk .shl 44 35 .u64 8 x7) (fun t36 H6 =>
 vF (vt .mul 3 39 40 i2 w1) (fun t41 H7 =>
 vF (vk .quo 3 41 .i64 8 t41) (fun t42 H8 =>
 vF (vt .add 3 42 43 t42 k8) (fun t44 H9 =>
 vF (indexAt 52 b0 t44) (fun t45 H10 =>
 vF (loadAt 5 t45) (fun t46 H11 =>
 vF (convert 5 44 t46) (fun t47 H12 =>
 vF (vt .or 44 37 47 t36 t47) (fun t48 H13 =>
 vF (vk .sub 3 33 .i64 1 k8) (fun t34 H14 =>
 X t48 t34 H14) H13) H12) H11) H10) H9) H8) H7) H6) H5) (
 R x7 H5)) H4) [(.int .u64 0),t30] H3 ⟨⟩) H2) H1)) h

theorem n94_calls {b0 w1 i2:Value} {R:VP} {h:Heap} (H:n94 b0 w1 i2 R h):CallsH Tryz.prog 94 #[b0,w1,i2] h R ⟨⟩ :=
 callsH_of_eq Tryz.follow (.n none .l (.n none .l (.n none .l (.n none (.n none .l (.n none (.n (some [8,9]) .l .l) .l)) .l)))) Tryz.func94 kR kR kR H

def n95 (seq0:Value) (R:VP) (h:Heap):Prop :=
 vC 132 #[(.slice none 0 0),seq0] (fun t4 H1 =>
 R t4 H1) h

theorem n95_calls {seq0:Value} {R:VP} {h:Heap} (H:n95 seq0 R h):CallsH Tryz.prog 95 #[seq0] h R ⟨⟩ :=
 callsH_of_eq Tryz.follow .l Tryz.func95 kR kR kR H

def n96 (x0:Value) (R:VP) (h:Heap):Prop :=
 vF (len_ #[47] 3 #[x0]) (fun t4 H1 =>
 vF (convert 3 192 t4) (fun t8 H2 =>
 vC 134 #[t8] (fun t9 H3 =>
 vC 133 #[x0,(.int .i64 0),t4,t9] (fun t10 H4 =>
 R (.tuple #[]) H4) H3) H2) H1) h

theorem n96_calls {x0:Value} {R:VP} {h:Heap} (H:n96 x0 R h):CallsH Tryz.prog 96 #[x0] h R ⟨⟩ :=
 callsH_of_eq Tryz.follow .l Tryz.func96 kR kR kR H

def n97 (yield0 t1:Value) (R:VP) (h:Heap):Prop :=
 vF (loadAt 104 t1) (fun t4 H1 =>
 vF (range 104 t4) (fun t5 H2 =>
 LoopC 0 (fun (X:Heap→Prop)=>fun H3 =>
 vF (next t5 false 0) (fun t6 H4 =>
 vF (extract t6 0) (fun t7 H5 =>
 vD t7 (
 vF (entry t5) (fun t8 H6 =>
 vF (extract t8 0) (fun t9 H7 =>
 InvokeH Tryz.prog yield0 #[t9] H7 (fun t12 H8 =>
 vF (Op.unary .not t12) (fun t13 H9 =>
 vD t13 (
 R (.tuple #[]) H9) (
 X H9)) H8) ⟨⟩) H6) H5) (
 R (.tuple #[]) H5)) H4) H3) [] H2 ⟨⟩) H1) h

theorem n97_calls {yield0 t1:Value} {R:VP} {h:Heap} (H:n97 yield0 t1 R h):CallsH Tryz.prog 97 #[yield0,t1] h R ⟨⟩ :=
 callsH_of_eq Tryz.follow (.n none .l (.n none (.n (some []) .l .l) .l)) Tryz.func97 kR kR kR H

def n98 (order0:Value) (R:VP) (h:Heap):Prop :=
 vF (build 206 #[(0,(.int .i64 1)),(1,(.int .i64 2)),(2,(.int .i64 4)),(3,(.int .i64 8)),(4,(.int .i64 16)),(5,(.int .i64 32)),(6,(.int .i64 64))]) (fun t4 H1 =>
 vF (alloc 206 true undef) (fun widths3 H2 =>
 vF (storeS 206 widths3 t4) (fun _ H3 =>
 vF (vk .lss 3 5 .i64 0 order0) (fun t6 H4 =>
 vJ t6 false (vV order0) (fun t8 H6 =>
 vJ t6 false (vF (vk .geq 3 8 .i64 7 t8)) (fun t9 H8 =>
 vF (pickS t6 (.bool true) t9) (fun t10 H9 =>
 vD t10 (
 R (.int .i64 0) H9) (
 vF (indexAt 206 widths3 order0) (fun t12 H10 =>
 vF (loadAt 3 t12) (fun t13 H11 =>
 R t13 H11) H10) H9)) H8) H6) H4) H3) H2) H1) h

theorem n98_calls {order0:Value} {R:VP} {h:Heap} (H:n98 order0 R h):CallsH Tryz.prog 98 #[order0] h R ⟨⟩ :=
 callsH_of_eq Tryz.follow .l Tryz.func98 kR kR kR H

def n99 (yield0 t1:Value) (R:VP) (h:Heap):Prop :=
 vF (loadAt 110 t1) (fun t4 H1 =>
 vF (range 110 t4) (fun t5 H2 =>
 LoopC 0 (fun (X:Heap→Prop)=>fun H3 =>
 vF (next t5 false 0) (fun t6 H4 =>
 vF (extract t6 0) (fun t7 H5 =>
 vD t7 (
 vF (entry t5) (fun t8 H6 =>
 vF (extract t8 0) (fun t9 H7 =>
 InvokeH Tryz.prog yield0 #[t9] H7 (fun t12 H8 =>
 vF (Op.unary .not t12) (fun t13 H9 =>
 vD t13 (
 R (.tuple #[]) H9) (
 X H9)) H8) ⟨⟩) H6) H5) (
 R (.tuple #[]) H5)) H4) H3) [] H2 ⟨⟩) H1) h

theorem n99_calls {yield0 t1:Value} {R:VP} {h:Heap} (H:n99 yield0 t1 R h):CallsH Tryz.prog 99 #[yield0,t1] h R ⟨⟩ :=
 callsH_of_eq Tryz.follow (.n none .l (.n none (.n (some []) .l .l) .l)) Tryz.func99 kR kR kR H

def n100 (b0 order1 i2 x3:Value) (R:VP) (h:Heap):Prop :=
 vC 93 #[b0,order1,i2] (fun t17 H1 =>
 vF (extract t17 0) (fun t18 H2 =>
 vF (extract t17 1) (fun t19 H3 =>
 vF (vk .neq 31 20 .i64 0 t19) (fun t21 H4 =>
 vD t21 (
 R t19 H4) (
 vC 48 #[order1] (fun t25 H5 =>
 vF (extract t25 0) (fun t26 H6 =>
 vF (extract t25 1) (fun t27 H7 =>
 vF (vt .gtr 44 28 29 x3 t26) (fun t30 H8 =>
 vD t30 (
 R (.int .i64 3) H8) (
 vC 108 #[b0,t18,i2,x3] (fun t35 H9 =>
 R (.int .i64 0) H9) H8)) H7) H6) H5) H4)) H3) H2) H1) h

theorem n100_calls {b0 order1 i2 x3:Value} {R:VP} {h:Heap} (H:n100 b0 order1 i2 x3 R h):CallsH Tryz.prog 100 #[b0,order1,i2,x3] h R ⟨⟩ :=
 callsH_of_eq Tryz.follow .l Tryz.func100 kR kR kR H

def n101 (b0 at1 n2 x3:Value) (R:VP) (h:Heap):Prop :=
 vF (vk .lss 3 11 .i64 1 n2) (fun t12 H1 =>
 vJ t12 false (vV n2) (fun t14 H3 =>
 vJ t12 false (vF (vk .gtr 3 14 .i64 8 t14)) (fun t15 H5 =>
 vF (pickS t12 (.bool true) t15) (fun t16 H6 =>
 vD t16 (
 R (.int .i64 2) H6) (
 vC 125 #[b0,at1,n2] (fun t21 H7 =>
 vF (Op.unary .not t21) (fun t22 H8 =>
 vD t22 (
 R (.int .i64 4) H8) (
 vF (vk .lss 3 24 .i64 8 n2) (fun t25 H9 =>
 vJ t25 true (vV x3) (fun t27 H11 =>
 vJ t25 true (vV n2) (fun t28 H13 =>
 vJ t25 true (vF (binS .mul 3 (.const (.int .i64 8)) (.tmp 28) (.int .i64 8) t28)) (fun t29 H15 =>
 vJ t25 true (vF (vt .shr 44 27 29 t27 t29)) (fun t30 H17 =>
 vJ t25 true (vF (vk .neq 44 30 .u64 0 t30)) (fun t31 H19 =>
 vF (pickS t25 t31 (.bool false)) (fun t32 H20 =>
 vD t32 (
 R (.int .i64 3) H20) (
 LoopC 2 (fun (X:Value→VP)=>fun x3_1 t34 H21 =>
 vF (vt .lss 3 34 33 t34 n2) (fun t35 H22 =>
 vD t35 (
 vF (vt .add 3 38 39 at1 t34) (fun t40 H23 =>
 vF (convert 44 5 x3_1) (fun t42 H24 =>
 vF (indexAt 52 b0 t40) (fun t43 H25 =>
 vF (storeS 5 t43 t42) (fun _ H26 =>
 vF (vk .shr 44 44 .u64 8 x3_1) (fun t45 H27 =>
 vF (vk .add 3 34 .i64 1 t34) (fun t46 H28 =>
 X t45 t46 H28) H27) H26) H25) H24) H23) H22) (
 R (.int .i64 0) H22)) H21) [x3,(.int .i64 0)] H20 ⟨⟩)) H19) H17) H15) H13) H11) H9) H8)) H7) H6)) H5) H3) H1) h

theorem n101_calls {b0 at1 n2 x3:Value} {R:VP} {h:Heap} (H:n101 b0 at1 n2 x3 R h):CallsH Tryz.prog 101 #[b0,at1,n2,x3] h R ⟨⟩ :=
 callsH_of_eq Tryz.follow (.n none .l (.n none .l (.n none (.n none .l (.n none (.n (some [4,35]) .l .l) .l)) .l))) Tryz.func101 kR kR kR H

def n102 (t0 t1:Value) (R:VP) (h:Heap):Prop :=
 vG (loadAt 30 t0) (fun t3 _ =>
 vG (loadAt 2 t1) (fun t4 _ =>
 vG (loadAt 30 t0) (fun t5 _ =>
 vG (nilS t5) (fun t6 _ =>
 vG (fieldAt 89 t6 3) (fun t7 _ =>
 vG (loadAt 2 t7) (fun t8 _ =>
 vG (vt .add 2 4 8 t4 t8) (fun t9 _ =>
 vC 19 #[t3,t9] (fun t10 H1 =>
 R t10 H1) h) #[]) h) #[]) #[]) h) h) h

theorem n102_calls {t0 t1:Value} {R:VP} {h:Heap} (H:n102 t0 t1 R h):CallsH Tryz.prog 102 #[t0,t1] h R ⟨⟩ :=
 callsH_of_eq Tryz.follow .l Tryz.func102 kR kR kR H

def n103 (t0 t1 t2:Value) (R:VP) (h:Heap):Prop :=
 vG (loadAt 30 t0) (fun t4 _ =>
 vG (nilS t4) (fun t5 _ =>
 vG (fieldAt 89 t5 0) (fun t6 _ =>
 vG (loadAt 27 t6) (fun t7 _ =>
 vG (loadAt 30 t0) (fun t8 _ =>
 vG (nilS t8) (fun t9 _ =>
 vG (fieldAt 89 t9 1) (fun t10 _ =>
 vG (loadAt 9 t10) (fun t11 _ =>
 vG (loadAt 2 t1) (fun t12 _ =>
 vG (loadAt 52 t2) (fun t13 _ =>
 vC 30 #[t7,t11,t12,t13] (fun t14 H1 =>
 R t14 H1) h) h) h) h) #[]) #[]) h) h) #[]) #[]) h

theorem n103_calls {t0 t1 t2:Value} {R:VP} {h:Heap} (H:n103 t0 t1 t2 R h):CallsH Tryz.prog 103 #[t0,t1,t2] h R ⟨⟩ :=
 callsH_of_eq Tryz.follow .l Tryz.func103 kR kR kR H

def n104 (t0:Value) (R:VP) (h:Heap):Prop :=
 vG (loadAt 30 t0) (fun t2 _ =>
 vG (nilS t2) (fun t3 _ =>
 vG (fieldAt 89 t3 0) (fun t4 _ =>
 vG (loadAt 27 t4) (fun t5 _ =>
 vG (loadAt 30 t0) (fun t6 _ =>
 vG (nilS t6) (fun t7 _ =>
 vG (fieldAt 89 t7 1) (fun t8 _ =>
 vG (loadAt 9 t8) (fun t9 _ =>
 vC 31 #[t5,t9] (fun t10 H1 =>
 R t10 H1) h) h) #[]) #[]) h) h) #[]) #[]) h

theorem n104_calls {t0:Value} {R:VP} {h:Heap} (H:n104 t0 R h):CallsH Tryz.prog 104 #[t0] h R ⟨⟩ :=
 callsH_of_eq Tryz.follow .l Tryz.func104 kR kR kR H

def n105 (t0 t1 t2:Value) (R:VP) (h:Heap):Prop :=
 vG (loadAt 30 t0) (fun t4 _ =>
 vG (nilS t4) (fun t5 _ =>
 vG (fieldAt 89 t5 0) (fun t6 _ =>
 vG (loadAt 27 t6) (fun t7 _ =>
 vG (loadAt 30 t0) (fun t8 _ =>
 vG (nilS t8) (fun t9 _ =>
 vG (fieldAt 89 t9 1) (fun t10 _ =>
 vG (loadAt 9 t10) (fun t11 _ =>
 vG (loadAt 30 t0) (fun t12 _ =>
 vG (nilS t12) (fun t13 _ =>
 vG (fieldAt 89 t13 2) (fun t14 _ =>
 vG (fieldAt 84 t14 6) (fun t15 _ =>
 vG (loadAt 2 t15) (fun t16 _ =>
 vG (loadAt 2 t1) (fun t17 _ =>
 vG (binS .mul 2 (.const (.int .i64 8)) (.tmp 17) (.int .i64 8) t17) (fun t18 _ =>
 vG (vt .add 2 16 18 t16 t18) (fun t19 _ =>
 vG (loadAt 52 t2) (fun t20 _ =>
 vC 30 #[t7,t11,t19,t20] (fun t21 H1 =>
 R t21 H1) h) h) #[]) #[]) h) h) #[]) #[]) #[]) h) h) #[]) #[]) h) h) #[]) #[]) h

theorem n105_calls {t0 t1 t2:Value} {R:VP} {h:Heap} (H:n105 t0 t1 t2 R h):CallsH Tryz.prog 105 #[t0,t1,t2] h R ⟨⟩ :=
 callsH_of_eq Tryz.follow .l Tryz.func105 kR kR kR H

def n106 (t0:Value) (R:VP) (h:Heap):Prop :=
 vG (loadAt 30 t0) (fun t2 _ =>
 vG (nilS t2) (fun t3 _ =>
 vG (fieldAt 89 t3 0) (fun t4 _ =>
 vG (loadAt 27 t4) (fun t5 _ =>
 vG (loadAt 30 t0) (fun t6 _ =>
 vG (nilS t6) (fun t7 _ =>
 vG (fieldAt 89 t7 1) (fun t8 _ =>
 vG (loadAt 9 t8) (fun t9 _ =>
 vC 31 #[t5,t9] (fun t10 H1 =>
 R t10 H1) h) h) #[]) #[]) h) h) #[]) #[]) h

theorem n106_calls {t0:Value} {R:VP} {h:Heap} (H:n106 t0 R h):CallsH Tryz.prog 106 #[t0] h R ⟨⟩ :=
 callsH_of_eq Tryz.follow .l Tryz.func106 kR kR kR H

def n107 (room0 n1:Value) (R:VP) (h:Heap):Prop :=
 vF (vt .leq 44 5 6 n1 room0) (fun t7 H1 =>
 R t7 H1) h

theorem n107_calls {room0 n1:Value} {R:VP} {h:Heap} (H:n107 room0 n1 R h):CallsH Tryz.prog 107 #[room0,n1] h R ⟨⟩ :=
 callsH_of_eq Tryz.follow .l Tryz.func107 kR kR kR H

def n108 (b0 w1 i2 x3:Value) (R:VP) (h:Heap):Prop :=
 vF (vk .lss 3 11 .i64 8 w1) (fun t12 H1 =>
 vD t12 (
 vF (vt .mul 3 13 14 i2 w1) (fun t15 H2 =>
 vF (vk .quo 3 15 .i64 8 t15) (fun t16 H3 =>
 vF (vt .mul 3 17 18 i2 w1) (fun t19 H4 =>
 vF (vk .rem 3 19 .i64 8 t19) (fun t20 H5 =>
 vG (indexAt 52 b0 t16) (fun t23 _ =>
 vG (loadAt 5 t23) (fun t24 _ =>
 vG (binS .shl 5 (.const (.int .u8 1)) (.tmp 25) (.int .u8 1) w1) (fun t26 _ =>
 vG (vk .sub 5 26 .u8 1 t26) (fun t27 _ =>
 vG (vt .shl 5 27 28 t27 t20) (fun t29 _ =>
 vG (vt .andNot 5 24 29 t24 t29) (fun t30 _ =>
 vG (indexAt 52 b0 t16) (fun t31 _ =>
 vF (storeS 5 t31 t30) (fun _ H6 =>
 vG (indexAt 52 b0 t16) (fun t34 _ =>
 vG (loadAt 5 t34) (fun t35 _ =>
 vG (convert 44 5 x3) (fun t37 _ =>
 vG (vt .shl 5 37 38 t37 t20) (fun t39 _ =>
 vG (vt .or 5 35 39 t35 t39) (fun t40 _ =>
 vG (indexAt 52 b0 t16) (fun t41 _ =>
 vF (storeS 5 t41 t40) (fun _ H7 =>
 R (.tuple #[]) H7) H6) #[]) #[]) #[]) #[]) H6) #[]) H5) #[]) #[]) #[]) #[]) #[]) H5) #[]) H4) H3) H2) H1) (
 vF (vk .quo 3 42 .i64 8 w1) (fun t43 H8 =>
 LoopC 2 (fun (X:Value→VP)=>fun x3_1 t44 H9 =>
 vF (vt .lss 3 44 43 t44 t43) (fun t45 H10 =>
 vD t45 (
 vF (vt .mul 3 48 49 i2 w1) (fun t50 H11 =>
 vF (vk .quo 3 50 .i64 8 t50) (fun t51 H12 =>
 vF (vt .add 3 51 52 t51 t44) (fun t53 H13 =>
 vF (convert 44 5 x3_1) (fun t55 H14 =>
 vF (indexAt 52 b0 t53) (fun t56 H15 =>
 vF (storeS 5 t56 t55) (fun _ H16 =>
 vF (vk .shr 44 57 .u64 8 x3_1) (fun t58 H17 =>
 vF (vk .add 3 44 .i64 1 t44) (fun t59 H18 =>
 X t58 t59 H18) H17) H16) H15) H14) H13) H12) H11) H10) (
 R (.tuple #[]) H10)) H9) [x3,(.int .i64 0)] H8 ⟨⟩) H1)) h

theorem n108_calls {b0 w1 i2 x3:Value} {R:VP} {h:Heap} (H:n108 b0 w1 i2 x3 R h):CallsH Tryz.prog 108 #[b0,w1,i2,x3] h R ⟨⟩ :=
 callsH_of_eq Tryz.follow (.n none .l (.n none .l (.n none (.n (some [4,45]) .l .l) .l))) Tryz.func108 kR kR kR H

def n109 (s10 s21:Value) (R:VP) (h:Heap):Prop :=
 vF (len_ #[52] 3 #[s10]) (fun t7 H1 =>
 vF (len_ #[52] 3 #[s21]) (fun t9 H2 =>
 vF (vt .neq 3 7 9 t7 t9) (fun t10 H3 =>
 vD t10 (
 R (.bool false) H3) (
 vF (len_ #[52] 3 #[s10]) (fun t12 H4 =>
 LoopC 1 (fun (X:VP)=>fun t13 H5 =>
 vF (vt .lss 3 13 12 t13 t12) (fun t14 H6 =>
 vD t14 (
 vG (indexAt 52 s10 t13) (fun t18 _ =>
 vG (loadAt 5 t18) (fun t19 _ =>
 vG (indexAt 52 s21 t13) (fun t22 _ =>
 vG (loadAt 5 t22) (fun t23 _ =>
 vG (vt .neq 5 19 23 t19 t23) (fun t24 _ =>
 vD t24 (
 R (.bool false) H6) (
 vF (vk .add 3 13 .i64 1 t13) (fun t25 H7 =>
 X t25 H7) H6)) #[]) H6) #[]) H6) #[]) (
 R (.bool true) H6)) H5) [(.int .i64 0)] H4 ⟨⟩) H3)) H2) H1) h

theorem n109_calls {s10 s21:Value} {R:VP} {h:Heap} (H:n109 s10 s21 R h):CallsH Tryz.prog 109 #[s10,s21] h R ⟨⟩ :=
 callsH_of_eq Tryz.follow (.n none .l (.n none .l (.n none (.n none .l (.n none (.n (some [14]) .l .l) .l)) .l))) Tryz.func109 kR kR kR H

def n110 (b0 at1 n2:Value) (R:VP) (h:Heap):Prop :=
 vF (vt .add 3 10 11 at1 n2) (fun t12 H1 =>
 vF (sliceAt 52 b0 (some at1) (some t12) none) (fun t13 H2 =>
 vC 55 #[t13] (fun t14 H3 =>
 vF (vk .gtr 44 15 .u64 4611686018427387904 t14) (fun t16 H4 =>
 vD t16 (
 R (.int .i64 (-1)) H4) (
 vF (convert 44 2 t14) (fun t18 H5 =>
 R t18 H5) H4)) H3) H2) H1) h

theorem n110_calls {b0 at1 n2:Value} {R:VP} {h:Heap} (H:n110 b0 at1 n2 R h):CallsH Tryz.prog 110 #[b0,at1,n2] h R ⟨⟩ :=
 callsH_of_eq Tryz.follow .l Tryz.func110 kR kR kR H

def n114 (w0:Value) (R:VP) (h:Heap):Prop :=
 vG (nilS w0) (fun t6 _ =>
 vG (fieldAt 130 t6 1) (fun t7 _ =>
 vG (fieldAt 84 t7 7) (fun t8 _ =>
 vG (loadAt 3 t8) (fun t9 _ =>
 vC 117 #[w0] (fun t11 H1=>vG (loadAt 3 t8) (fun u _=>u=t9) H1 ∧
 vG (vt .mul 2 9 11 t9 t11) (fun t12 _ =>
 vF (nilS w0) (fun t15 H2 =>
 vF (fieldAt 130 t15 1) (fun t16 H3 =>
 vF (fieldAt 84 t16 6) (fun t17 H4 =>
 vF (loadAt 2 t17) (fun t18 H5 =>
 vC 139 #[w0,t18,t12,(.int .i64 1),(.int .i64 40)] (fun t20 H6 =>
 vF (Op.unary .not t20) (fun t21 H7 =>
 vD t21 (
 R (.tuple #[]) H7) (
 LoopC 1 (fun (X:VP)=>fun i3 H8 =>
 vF (vk .quo 2 23 .i64 8 t12) (fun t24 H9 =>
 vF (vt .lss 2 22 24 i3 t24) (fun t25 H10 =>
 vD t25 (
 vF (nilS w0) (fun t30 H11 =>
 vF (fieldAt 130 t30 1) (fun t31 H12 =>
 vF (fieldAt 84 t31 6) (fun t32 H13 =>
 vF (loadAt 2 t32) (fun t33 H14 =>
 vF (binS .mul 2 (.const (.int .i64 8)) (.tmp 34) (.int .i64 8) i3) (fun t35 H15 =>
 vF (vt .add 2 33 35 t33 t35) (fun t36 H16 =>
 vC 140 #[w0,t36] (fun t37 H17 =>
 JoinN 1 (fun (k:VP) H18 =>
 vG (vk .neq 2 38 .i64 0 t37) (fun t39 _ =>
 vJ t39 true (vV w0) (fun t41 _ =>
 vJ t39 true (vV t37) (fun t42 _ =>
 vJ t39 true (vV w0) (fun t43 _ =>
 vJ t39 true (vV w0) (fun t45 _ =>
 vJ t39 true (vG (nilS t45)) (fun t46 _ =>
 vJ t39 true (vG (fieldAt 130 t46 1)) (fun t47 _ =>
 vJ t39 true (vG (fieldAt 84 t47 6)) (fun t48 _ =>
 vJ t39 true (vG (loadAt 2 t48)) (fun t49 _ =>
 vJ t39 true (vV i3) (fun t50 _ =>
 vJ t39 true (vG (binS .mul 2 (.const (.int .i64 8)) (.tmp 50) (.int .i64 8) t50)) (fun t51 _ =>
 vJ t39 true (vG (vt .add 2 49 51 t49 t51)) (fun t52 _ =>
 vJ t39 true (vC 117 #[t43]) (fun t44 H31=>vJ t39 true (vG (loadAt 2 t48)) (fun u _=>u=t49) H31 ∧
 vJ t39 true (vC 139 #[t41,t42,t44,(.int .i64 1),t52]) (fun t53 H33 =>
 vJ t39 true (vG (Op.unary .not t53)) (fun t54 _ =>
 vG (pickS t39 t54 (.bool false)) (fun t55 _ =>
 vD t55 (
 k (.int .i64 0) H33) (
 k t37 H33)) #[]) #[]) H31) H18) #[]) #[]) #[]) H18) #[]) #[]) #[]) #[]) #[]) #[]) #[]) #[])
 (fun at4 H35 =>
 vF (nilS w0) (fun t58 H36 =>
 vF (fieldAt 130 t58 6) (fun t59 H37 =>
 vF (loadAt 47 t59) (fun t60 H38 =>
 vF (buildSlice 47 1 #[(0,at4)]) (fun t62 H39 =>
 vF (append_ #[47,47] 47 #[t60,t62]) (fun t63 H40 =>
 vF (nilS w0) (fun t64 H41 =>
 vF (fieldAt 130 t64 6) (fun t65 H42 =>
 vF (storeS 47 t65 t63) (fun _ H43 =>
 vF (vk .add 2 26 .i64 1 i3) (fun t27 H44 =>
 X t27 H44) H43) H42) H41) H40) H39) H38) H37) H36) H35) H17 ⟨⟩ ⟨⟩) H16) H15) H14) H13) H12) H11) H10) (
 R (.tuple #[]) H10)) H9) H8) [(.int .i64 0)] H7 ⟨⟩)) H6) H5) H4) H3) H2) H1) #[]) h) h) #[]) #[]) #[]

theorem n114_calls {w0:Value} {R:VP} {h:Heap} (H:n114 w0 R h):CallsH Tryz.prog 114 #[w0] h R ⟨⟩ :=
 callsH_of_eq Tryz.follow (.n none .l (.n none .l (.n none .l (.n none (.n (some [4]) (.n none .l (.n none (.n none (.n none .l (.n (some [5]) .l .l)) .l) .l)) .l) .l)))) Tryz.func114 kR kR kR H

def n115 (w0 at1 n2 where3:Value) (R:VP) (h:Heap):Prop :=
 vF (vk .eql 3 10 .i64 0 n2) (fun t11 H1 =>
 vJ t11 false (vV w0) (fun t13 H3 =>
 vJ t11 false (vV at1) (fun t14 H5 =>
 vJ t11 false (vV n2) (fun t15 H7 =>
 vJ t11 false (vF (binS .mul 2 (.const (.int .i64 8)) (.tmp 15) (.int .i64 8) t15)) (fun t16 H9 =>
 vJ t11 false (vV where3) (fun t17 H11 =>
 vJ t11 false (vC 139 #[t13,t14,t16,(.int .i64 1),t17]) (fun t18 H13 =>
 vJ t11 false (vF (Op.unary .not t18)) (fun t19 H15 =>
 vF (pickS t11 (.bool true) t19) (fun t20 H16 =>
 vD t20 (
 R (.tuple #[]) H16) (
 LoopC 1 (fun (X:VP)=>fun i8 H17 =>
 vF (vt .lss 2 21 22 i8 n2) (fun t23 H18 =>
 vD t23 (
 JoinN 0 (fun (k_7:Heap→Prop) H19 =>
 JoinN 0 (fun (k_8:Heap→Prop) H20 =>
 vF (binS .mul 2 (.const (.int .i64 8)) (.tmp 28) (.int .i64 8) i8) (fun t29 H21 =>
 vF (vt .add 2 27 29 at1 t29) (fun t30 H22 =>
 vC 140 #[w0,t30] (fun t31 H23 =>
 vF (vk .neq 2 32 .i64 0 t31) (fun t33 H24 =>
 vJ t33 true (vV w0) (fun t35 H26 =>
 vJ t33 true (vV t31) (fun t36 H28 =>
 vJ t33 true (vV w0) (fun t37 H30 =>
 vJ t33 true (vC 117 #[t37]) (fun t38 H32 =>
 vJ t33 true (vV at1) (fun t39 H34 =>
 vJ t33 true (vV i8) (fun t40 H36 =>
 vJ t33 true (vF (binS .mul 2 (.const (.int .i64 8)) (.tmp 40) (.int .i64 8) t40)) (fun t41 H38 =>
 vJ t33 true (vF (vt .add 2 39 41 t39 t41)) (fun t42 H40 =>
 vJ t33 true (vC 139 #[t35,t36,t38,(.int .i64 2),t42]) (fun t43 H42 =>
 vF (pickS t33 t43 (.bool false)) (fun t44 H43 =>
 vD t44 (
 vC 141 #[w0,t31] (fun t47 H44 =>
 k_8 H44) H43) (
 k_8 H43)) H42) H40) H38) H36) H34) H32) H30) H28) H26) H24) H23) H22) H21) H20)
 (fun H45 =>
 k_7 H45) H19 ⟨⟩ ⟨⟩)
 (fun H46 =>
 vF (vk .add 2 24 .i64 1 i8) (fun t25 H47 =>
 X t25 H47) H46) H18 ⟨⟩ ⟨⟩) (
 R (.tuple #[]) H18)) H17) [(.int .i64 0)] H16 ⟨⟩)) H15) H13) H11) H9) H7) H5) H3) H1) h

theorem n115_calls {w0 at1 n2 where3:Value} {R:VP} {h:Heap} (H:n115 w0 at1 n2 where3 R h):CallsH Tryz.prog 115 #[w0,at1,n2,where3] h R ⟨⟩ :=
 callsH_of_eq Tryz.follow (.n none .l (.n none .l (.n none (.n (some [9]) (.n none .l (.n (some []) (.n (some []) .l .l) .l)) .l) .l))) Tryz.func115 kR kR kR H

def n116 (w0:Value) (R:VP) (h:Heap):Prop :=
 JoinN 0 (fun (k:Heap→Prop) H1 =>
 vG (nilS w0) (fun t9 _ =>
 vG (fieldAt 130 t9 1) (fun t10 _ =>
 vG (fieldAt 84 t10 8) (fun t11 _ =>
 vG (loadAt 3 t11) (fun t12 _ =>
 vG (vk .gtr 3 12 .i64 0 t12) (fun t13 _ =>
 vJ t13 true (vV w0) (fun t15 _ =>
 vJ t13 true (vV w0) (fun t16 _ =>
 vJ t13 true (vG (nilS t16)) (fun t17 _ =>
 vJ t13 true (vG (fieldAt 130 t17 1)) (fun t18 _ =>
 vJ t13 true (vG (fieldAt 84 t18 9)) (fun t19 _ =>
 vJ t13 true (vG (loadAt 2 t19)) (fun t20 _ =>
 vJ t13 true (vV w0) (fun t21 _ =>
 vJ t13 true (vG (nilS t21)) (fun t22 _ =>
 vJ t13 true (vG (fieldAt 130 t22 1)) (fun t23 _ =>
 vJ t13 true (vG (fieldAt 84 t23 10)) (fun t24 _ =>
 vJ t13 true (vG (loadAt 3 t24)) (fun t25 _ =>
 vJ t13 true (vC 139 #[t15,t20,t25,(.int .i64 1),(.int .i64 56)]) (fun t26 H14 =>
 vG (pickS t13 t26 (.bool false)) (fun t27 _ =>
 vD t27 (
 vG (nilS w0) (fun t30 _ =>
 vG (fieldAt 130 t30 1) (fun t31 _ =>
 vG (fieldAt 84 t31 0) (fun t32 _ =>
 vG (loadAt 3 t32) (fun t33 _ =>
 vG (nilS w0) (fun t35 _ =>
 vG (fieldAt 130 t35 0) (fun t36 _ =>
 vG (loadAt 52 t36) (fun t37 _ =>
 vG (nilS w0) (fun t39 _ =>
 vG (fieldAt 130 t39 1) (fun t40 _ =>
 vG (fieldAt 84 t40 9) (fun t41 _ =>
 vG (loadAt 2 t41) (fun t42 _ =>
 vG (nilS w0) (fun t44 _ =>
 vG (fieldAt 130 t44 1) (fun t45 _ =>
 vG (fieldAt 84 t45 9) (fun t46 _ =>
 vG (loadAt 2 t46) (fun t47 _ =>
 vG (nilS w0) (fun t49 _ =>
 vG (fieldAt 130 t49 1) (fun t50 _ =>
 vG (fieldAt 84 t50 10) (fun t51 _ =>
 vG (loadAt 3 t51) (fun t52 _ =>
 vG (vt .add 2 47 52 t47 t52) (fun t53 _ =>
 vG (sliceAt 52 t37 (some t42) (some t53) none) (fun t54 _ =>
 vG (nilS w0) (fun t56 _ =>
 vG (fieldAt 130 t56 1) (fun t57 _ =>
 vG (fieldAt 84 t57 8) (fun t58 _ =>
 vG (loadAt 3 t58) (fun t59 _ =>
 vC 142 #[t33,t54,t59] (fun t60 H15 =>
 vG (extract t60 0) (fun t61 _ =>
 vG (extract t60 1) (fun t62 _ =>
 JoinN 0 (fun (k_13:Heap→Prop) H16 =>
 vF (Op.unary .not t62) (fun t64 H17 =>
 vD t64 (
 vF (nilS w0) (fun t67 H18 =>
 vF (fieldAt 130 t67 1) (fun t68 H19 =>
 vF (fieldAt 84 t68 9) (fun t69 H20 =>
 vF (loadAt 2 t69) (fun t70 H21 =>
 vC 143 #[w0,(.int .i64 3),t70] (fun t71 H22 =>
 k_13 H22) H21) H20) H19) H18) H17) (
 k_13 H17)) H16)
 (fun H23 =>
 LoopC 1 (fun (X:VP)=>fun i4 H24 =>
 vJ t62 true (vV i4) (fun t74 H26 =>
 vJ t62 true (vV t61) (fun t75 H28 =>
 vJ t62 true (vF (len_ #[211] 3 #[t75])) (fun t76 H30 =>
 vJ t62 true (vF (vt .lss 3 74 76 t74 t76)) (fun t77 H32 =>
 vF (pickS t62 t77 (.bool false)) (fun t78 H33 =>
 vD t78 (
 vG (indexAt 211 t61 i4) (fun t84 _ =>
 vG (fieldAt 216 t84 1) (fun t85 _ =>
 vG (loadAt 2 t85) (fun t86 _ =>
 vG (indexAt 211 t61 i4) (fun t89 _ =>
 vG (fieldAt 216 t89 2) (fun t90 _ =>
 vG (loadAt 3 t90) (fun t91 _ =>
 vG (nilS w0) (fun t93 _ =>
 vG (fieldAt 130 t93 1) (fun t94 _ =>
 vG (fieldAt 84 t94 9) (fun t95 _ =>
 vG (loadAt 2 t95) (fun t96 _ =>
 vC 115 #[w0,t86,t91,t96] (fun t97 H34 =>
 vF (vk .add 3 79 .i64 1 i4) (fun t80 H35 =>
 X t80 H35) H34) H33) H33) #[]) #[]) #[]) H33) #[]) #[]) H33) #[]) #[]) (
 k H33)) H32) H30) H28) H26) H24) [(.int .i64 0)] H23 ⟨⟩) H15 ⟨⟩ ⟨⟩) #[]) #[]) H14) H14) #[]) #[]) #[]) #[]) #[]) H14) #[]) #[]) #[]) H14) #[]) #[]) #[]) H14) #[]) #[]) #[]) H14) #[]) #[]) H14) #[]) #[]) #[]) (
 k H14)) #[]) H1) H1) #[]) #[]) #[]) #[]) H1) #[]) #[]) #[]) #[]) #[]) #[]) H1) #[]) #[]) #[])
 (fun H36 =>
 vG (nilS w0) (fun t99 _ =>
 vG (fieldAt 130 t99 1) (fun t100 _ =>
 vG (fieldAt 84 t100 11) (fun t101 _ =>
 vG (loadAt 3 t101) (fun t102 _ =>
 vG (vk .gtr 3 102 .i64 0 t102) (fun t103 _ =>
 vJ t103 true (vV w0) (fun t105 _ =>
 vJ t103 true (vV w0) (fun t106 _ =>
 vJ t103 true (vG (nilS t106)) (fun t107 _ =>
 vJ t103 true (vG (fieldAt 130 t107 1)) (fun t108 _ =>
 vJ t103 true (vG (fieldAt 84 t108 12)) (fun t109 _ =>
 vJ t103 true (vG (loadAt 2 t109)) (fun t110 _ =>
 vJ t103 true (vV w0) (fun t111 _ =>
 vJ t103 true (vG (nilS t111)) (fun t112 _ =>
 vJ t103 true (vG (fieldAt 130 t112 1)) (fun t113 _ =>
 vJ t103 true (vG (fieldAt 84 t113 13)) (fun t114 _ =>
 vJ t103 true (vG (loadAt 3 t114)) (fun t115 _ =>
 vJ t103 true (vC 139 #[t105,t110,t115,(.int .i64 1),(.int .i64 72)]) (fun t116 H49 =>
 vG (pickS t103 t116 (.bool false)) (fun t117 _ =>
 vD t117 (
 vG (nilS w0) (fun t120 _ =>
 vG (fieldAt 130 t120 1) (fun t121 _ =>
 vG (fieldAt 84 t121 0) (fun t122 _ =>
 vG (loadAt 3 t122) (fun t123 _ =>
 vG (nilS w0) (fun t125 _ =>
 vG (fieldAt 130 t125 0) (fun t126 _ =>
 vG (loadAt 52 t126) (fun t127 _ =>
 vG (nilS w0) (fun t129 _ =>
 vG (fieldAt 130 t129 1) (fun t130 _ =>
 vG (fieldAt 84 t130 12) (fun t131 _ =>
 vG (loadAt 2 t131) (fun t132 _ =>
 vG (nilS w0) (fun t134 _ =>
 vG (fieldAt 130 t134 1) (fun t135 _ =>
 vG (fieldAt 84 t135 12) (fun t136 _ =>
 vG (loadAt 2 t136) (fun t137 _ =>
 vG (nilS w0) (fun t139 _ =>
 vG (fieldAt 130 t139 1) (fun t140 _ =>
 vG (fieldAt 84 t140 13) (fun t141 _ =>
 vG (loadAt 3 t141) (fun t142 _ =>
 vG (vt .add 2 137 142 t137 t142) (fun t143 _ =>
 vG (sliceAt 52 t127 (some t132) (some t143) none) (fun t144 _ =>
 vG (nilS w0) (fun t146 _ =>
 vG (fieldAt 130 t146 1) (fun t147 _ =>
 vG (fieldAt 84 t147 11) (fun t148 _ =>
 vG (loadAt 3 t148) (fun t149 _ =>
 vC 144 #[t123,t144,t149] (fun t150 H50 =>
 vG (extract t150 0) (fun t151 _ =>
 vG (extract t150 1) (fun t152 _ =>
 JoinN 0 (fun (k_30:Heap→Prop) H51 =>
 vF (Op.unary .not t152) (fun t154 H52 =>
 vD t154 (
 vF (nilS w0) (fun t157 H53 =>
 vF (fieldAt 130 t157 1) (fun t158 H54 =>
 vF (fieldAt 84 t158 12) (fun t159 H55 =>
 vF (loadAt 2 t159) (fun t160 H56 =>
 vC 143 #[w0,(.int .i64 3),t160] (fun t161 H57 =>
 k_30 H57) H56) H55) H54) H53) H52) (
 k_30 H52)) H51)
 (fun H58 =>
 LoopC 1 (fun (X_1:VP)=>fun i7 H59 =>
 vJ t152 true (vV i7) (fun t164 H61 =>
 vJ t152 true (vV t151) (fun t165 H63 =>
 vJ t152 true (vF (len_ #[217] 3 #[t165])) (fun t166 H65 =>
 vJ t152 true (vF (vt .lss 3 164 166 t164 t166)) (fun t167 H67 =>
 vF (pickS t152 t167 (.bool false)) (fun t168 H68 =>
 vD t168 (
 JoinN 0 (fun (k_35:Heap→Prop) H69 =>
 JoinN 0 (fun (k_36:Heap→Prop) H70 =>
 vF (indexAt 217 t151 i7) (fun t173 H71 =>
 vF (fieldAt 221 t173 4) (fun t174 H72 =>
 vF (loadAt 3 t174) (fun t175 H73 =>
 vF (vk .gtr 3 175 .i64 0 t175) (fun t176 H74 =>
 vD t176 (
 vG (indexAt 217 t151 i7) (fun t180 _ =>
 vG (fieldAt 221 t180 3) (fun t181 _ =>
 vG (loadAt 2 t181) (fun t182 _ =>
 vG (indexAt 217 t151 i7) (fun t185 _ =>
 vG (fieldAt 221 t185 4) (fun t186 _ =>
 vG (loadAt 3 t186) (fun t187 _ =>
 vG (nilS w0) (fun t189 _ =>
 vG (fieldAt 130 t189 1) (fun t190 _ =>
 vG (fieldAt 84 t190 12) (fun t191 _ =>
 vG (loadAt 2 t191) (fun t192 _ =>
 vC 139 #[w0,t182,t187,(.int .i64 1),t192] (fun t193 H75 =>
 k_36 H75) H74) H74) #[]) #[]) #[]) H74) #[]) #[]) H74) #[]) #[]) (
 k_36 H74)) H73) H72) H71) H70)
 (fun H76 =>
 k_35 H76) H69 ⟨⟩ ⟨⟩)
 (fun H77 =>
 vF (vk .add 3 169 .i64 1 i7) (fun t170 H78 =>
 X_1 t170 H78) H77) H68 ⟨⟩ ⟨⟩) (
 R (.tuple #[]) H68)) H67) H65) H63) H61) H59) [(.int .i64 0)] H58 ⟨⟩) H50 ⟨⟩ ⟨⟩) #[]) #[]) H49) H49) #[]) #[]) #[]) #[]) #[]) H49) #[]) #[]) #[]) H49) #[]) #[]) #[]) H49) #[]) #[]) #[]) H49) #[]) #[]) H49) #[]) #[]) #[]) (
 R (.tuple #[]) H49)) #[]) H36) H36) #[]) #[]) #[]) #[]) H36) #[]) #[]) #[]) #[]) #[]) #[]) H36) #[]) #[]) #[]) h ⟨⟩ ⟨⟩

theorem n116_calls {w0:Value} {R:VP} {h:Heap} (H:n116 w0 R h):CallsH Tryz.prog 116 #[w0] h R ⟨⟩ :=
 callsH_of_eq Tryz.follow (.n (some []) (.n none .l (.n none (.n none .l (.n (some []) .l (.n none .l (.n none (.n (some [5]) .l .l) .l)))) .l)) (.n none .l (.n none (.n none .l (.n (some []) .l (.n none .l (.n none (.n (some [8]) (.n none .l (.n (some []) (.n (some []) .l .l) .l)) .l) .l)))) .l))) Tryz.func116 kR kR kR H

def n117 (w0:Value) (R:VP) (h:Heap):Prop :=
 vF (nilS w0) (fun t4 H1 =>
 vF (fieldAt 130 t4 1) (fun t5 H2 =>
 vF (fieldAt 84 t5 0) (fun t6 H3 =>
 vF (loadAt 3 t6) (fun t7 H4 =>
 vC 36 #[t7] (fun t8 H5 =>
 R t8 H5) H4) H3) H2) H1) h

theorem n117_calls {w0:Value} {R:VP} {h:Heap} (H:n117 w0 R h):CallsH Tryz.prog 117 #[w0] h R ⟨⟩ :=
 callsH_of_eq Tryz.follow .l Tryz.func117 kR kR kR H

def n119 (h0:Value) (R:VP) (h:Heap):Prop :=
 vF (box 84 h0) (fun h1 H1 =>
 vG (fieldAt 84 h1 2) (fun t3 _ =>
 vG (loadAt 2 t3) (fun t4 _ =>
 vG (fieldAt 84 h1 0) (fun t5 _ =>
 vG (loadAt 3 t5) (fun t6 _ =>
 vC 36 #[t6] (fun t7 H2=>vG (loadAt 2 t3) (fun u _=>u=t4) H2 ∧
 vC 72 #[t4,t7] (fun t8 H3 =>
 R t8 H3) H2) H1) H1) #[]) H1) #[]) h

theorem n119_calls {h0:Value} {R:VP} {h:Heap} (H:n119 h0 R h):CallsH Tryz.prog 119 #[h0] h R ⟨⟩ :=
 callsH_of_eq Tryz.follow .l Tryz.func119 kR kR kR H

def n120 (at0 bits1:Value) (R:VP) (h:Heap):Prop :=
 vF (vk .gtr 2 5 .i64 0 at0) (fun t6 H1 =>
 vJ t6 true (vV at0) (fun t8 H3 =>
 vJ t6 true (vF (vk .leq 2 8 .i64 268435456 t8)) (fun t9 H5 =>
 vF (pickS t6 t9 (.bool false)) (fun t10 H6 =>
 vJ t10 true (vV at0) (fun t12 H8 =>
 vJ t10 true (vV bits1) (fun t13 H10 =>
 vJ t10 true (vC 36 #[t13]) (fun t14 H12 =>
 vJ t10 true (vF (vt .rem 2 12 14 t12 t14)) (fun t15 H14 =>
 vJ t10 true (vF (vk .eql 2 15 .i64 0 t15)) (fun t16 H16 =>
 vF (pickS t10 t16 (.bool false)) (fun t17 H17 =>
 R t17 H17) H16) H14) H12) H10) H8) H6) H5) H3) H1) h

theorem n120_calls {at0 bits1:Value} {R:VP} {h:Heap} (H:n120 at0 bits1 R h):CallsH Tryz.prog 120 #[at0,bits1] h R ⟨⟩ :=
 callsH_of_eq Tryz.follow .l Tryz.func120 kR kR kR H

def n121 (n0 at1 long2 bits3:Value) (R:VP) (h:Heap):Prop :=
 vF (vk .eql 3 9 .i64 0 n0) (fun t10 H1 =>
 vD t10 (
 vF (vk .eql 2 11 .i64 0 at1) (fun t12 H2 =>
 vJ t12 true (vV long2) (fun t14 H4 =>
 vJ t12 true (vF (vk .eql 3 14 .i64 0 t14)) (fun t15 H6 =>
 vF (pickS t12 t15 (.bool false)) (fun t16 H7 =>
 R t16 H7) H6) H4) H2) H1) (
 vF (vk .gtr 3 17 .i64 0 n0) (fun t18 H8 =>
 vJ t18 true (vV n0) (fun t20 H10 =>
 vJ t18 true (vF (vk .leq 3 20 .i64 64 t20)) (fun t21 H12 =>
 vF (pickS t18 t21 (.bool false)) (fun t22 H13 =>
 vJ t22 true (vV at1) (fun t24 H15 =>
 vJ t22 true (vV bits3) (fun t25 H17 =>
 vJ t22 true (vC 120 #[t24,t25]) (fun t26 H19 =>
 vF (pickS t22 t26 (.bool false)) (fun t27 H20 =>
 vJ t27 true (vV long2) (fun t29 H22 =>
 vJ t27 true (vF (vk .geq 3 29 .i64 1 t29)) (fun t30 H24 =>
 vF (pickS t27 t30 (.bool false)) (fun t31 H25 =>
 vJ t31 true (vV long2) (fun t33 H27 =>
 vJ t31 true (vF (vk .leq 3 33 .i64 65536 t33)) (fun t34 H29 =>
 vF (pickS t31 t34 (.bool false)) (fun t35 H30 =>
 R t35 H30) H29) H27) H25) H24) H22) H20) H19) H17) H15) H13) H12) H10) H8) H1)) h

theorem n121_calls {n0 at1 long2 bits3:Value} {R:VP} {h:Heap} (H:n121 n0 at1 long2 bits3 R h):CallsH Tryz.prog 121 #[n0,at1,long2,bits3] h R ⟨⟩ :=
 callsH_of_eq Tryz.follow .l Tryz.func121 kR kR kR H

end Go.Proofs.YtdccfkffabngjaaGreat

/- Printed by /tmp/tools2/gen.py: the condition of each function,and that a call meets it. -/
import Derived.Test.YtdccfkffabngjaaGreatVcFun
import Derived.Test.YtdccfkffabngjaaGreatProg
import Derived.Test.YtdccfkffabngjaaGreatNiceA
import Derived.Test.YtdccfkffabngjaaGreatNiceB
import Derived.Test.YtdccfkffabngjaaGreatNiceC
set_option maxRecDepth 100000
set_option linter.unusedVariables false
namespace Go.Proofs.YtdccfkffabngjaaGreat
open Go.Vc Go.Instr Go.Builtin

def n10(bits0 order1:Value)(R:VP)(h:Heap):Prop :=
 vC 36 #[bits0] (fun t6 H1 =>
 vF (binS .mul 2 (.const (.int .i64 8)) (.tmp 6) (.int .i64 8) t6) (fun t7 H2 =>
 vC 37 #[order1] (fun t9 H3 =>
 vF (vt .quo 2 7 9 t7 t9) (fun t10 H4 =>
 R t10 H4) H3) H2) H1) h

theorem n10_calls{bits0 order1:Value}{R:VP}{h:Heap}(H:n10 bits0 order1 R h):CallsH Tryz.prog 10 #[bits0,order1] h R ⟨⟩ :=
 callsH_of_eq Tryz.follow .l Tryz.func10 kR kR kR H

def n11(s0 name1:Value)(R:VP)(h:Heap):Prop :=
 vC 38 #[s0,name1] (fun t11 H1 =>
 vF (extract t11 0) (fun t12 H2 =>
 vF (extract t11 1) (fun t13 H3 =>
 vF (vk .neq 31 14 .i64 0 t13) (fun t15 H4 =>
 vD t15 (
 R (.tuple #[(.int .i64 0),t13]) H4) (
 vF (nilS t12) (fun t18 H5 =>
 vF (fieldAt 97 t18 2) (fun t19 H6 =>
 vF (loadAt 52 t19) (fun t20 H7 =>
 vF (len_ #[52] 3 #[t20]) (fun t21 H8 =>
 R (.tuple #[t21,(.int .i64 0)]) H8) H7) H6) H5) H4)) H3) H2) H1) h

theorem n11_calls{s0 name1:Value}{R:VP}{h:Heap}(H:n11 s0 name1 R h):CallsH Tryz.prog 11 #[s0,name1] h R ⟨⟩ :=
 callsH_of_eq Tryz.follow .l Tryz.func11 kR kR kR H

def n12(r0 n1:Value)(R:VP)(h:Heap):Prop :=
 vF (box 30 r0) (fun r2 H1 =>
 vF (box 3 n1) (fun n3 H2 =>
 vF (loadAt 30 r2) (fun t16 H3 =>
 vC 39 #[t16] (fun t17 H4 =>
 vD t17 (
 R (.tuple #[(.int .i64 0),(.int .i64 1)]) H4) (
 vF (loadAt 3 n3) (fun t19 H5 =>
 vF (vk .lss 3 19 .i64 1 t19) (fun t20 H6 =>
 vJ t20 false (vF (loadAt 3 n3)) (fun t22 H8 =>
 vJ t20 false (vF (vk .gtr 3 22 .i64 1048576 t22)) (fun t23 H10 =>
 vF (pickS t20 (.bool true) t23) (fun t24 H11 =>
 vD t24 (
 R (.tuple #[(.int .i64 0),(.int .i64 2)]) H11) (
 vG (loadAt 30 r2) (fun t26 _ =>
 vG (nilS t26) (fun t27 _ =>
 vG (fieldAt 89 t27 0) (fun t28 _ =>
 vG (loadAt 27 t28) (fun t29 _ =>
 vG (loadAt 30 r2) (fun t30 _ =>
 vG (nilS t30) (fun t31 _ =>
 vG (fieldAt 89 t31 1) (fun t32 _ =>
 vG (loadAt 9 t32) (fun t33 _ =>
 vC 11 #[t29,t33] (fun t34 H12 =>
 vG (extract t34 0) (fun t35 _ =>
 vG (extract t34 1) (fun t36 _ =>
 vF (vk .neq 31 37 .i64 0 t36) (fun t38 H13 =>
 vD t38 (
 R (.tuple #[(.int .i64 0),t36]) H13) (
 vF (loadAt 30 r2) (fun t41 H14 =>
 vF (loadAt 3 n3) (fun t42 H15 =>
 vC 40 #[t41,t42] (fun t43 H16 =>
 vF (extract t43 0) (fun t44 H17 =>
 vF (extract t43 1) (fun t45 H18 =>
 vF (alloc 2 true undef) (fun first8 H19 =>
 vF (storeS 2 first8 t44) (fun _ H20 =>
 vF (vk .neq 31 46 .i64 0 t45) (fun t47 H21 =>
 vD t47 (
 R (.tuple #[(.int .i64 0),t45]) H21) (
 vF (alloc 47 true undef) (fun clusters10 H22 =>
 vF (loadAt 3 n3) (fun t49 H23 =>
 LoopC 1 (fun (X:VP)=>fun t50 H24 =>
 vF (vt .lss 2 50 49 t50 t49) (fun t51 H25 =>
 vD t51 (
 vF (loadAt 47 clusters10) (fun t53 H26 =>
 vF (loadAt 2 first8) (fun t54 H27 =>
 vF (vt .add 2 54 55 t54 t50) (fun t56 H28 =>
 vF (buildSlice 47 1 #[(0,t56)]) (fun t57 H29 =>
 vF (append_ #[47,47] 47 #[t53,t57]) (fun t58 H30 =>
 vF (storeS 47 clusters10 t58) (fun _ H31 =>
 vF (vk .add 2 50 .i64 1 t50) (fun t59 H32 =>
 X t59 H32) H31) H30) H29) H28) H27) H26) H25) (
 vF (pure (.func (.func 41) #[] #[r2,first8,n3])) (fun t60 H33 =>
 vF (pure (.func (.func 42) #[] #[r2,clusters10])) (fun t61 H34 =>
 vF (pure (.func (.func 43) #[] #[r2])) (fun t62 H35 =>
 vF (buildSlice 100 3 #[(0,t60),(1,t61),(2,t62)]) (fun t63 H36 =>
 vF (len_ #[100] 3 #[t63]) (fun t64 H37 =>
 LoopC 1 (fun (X_1:VP)=>fun t65 H38 =>
 vF (vt .lss 3 65 64 t65 t64) (fun t66 H39 =>
 vD t66 (
 vF (indexAt 100 t63 t65) (fun t67 H40 =>
 vF (loadAt 99 t67) (fun t68 H41 =>
 InvokeH Tryz.prog t68 #[] H41 (fun t70 H42 =>
 vF (vk .neq 31 71 .i64 0 t70) (fun t72 H43 =>
 vD t72 (
 R (.tuple #[(.int .i64 0),t70]) H43) (
 vF (vk .add 3 65 .i64 1 t65) (fun t74 H44 =>
 X_1 t74 H44) H43)) H42) ⟨⟩) H40) H39) (
 vG (loadAt 2 first8) (fun t75 _ =>
 vG (loadAt 30 r2) (fun t76 _ =>
 vG (nilS t76) (fun t77 _ =>
 vG (fieldAt 89 t77 3) (fun t78 _ =>
 vG (loadAt 2 t78) (fun t79 _ =>
 vG (vt .mul 2 75 79 t75 t79) (fun t80 _ =>
 R (.tuple #[t80,(.int .i64 0)]) H39) #[]) H39) #[]) #[]) H39) H39)) H38) [(.int .i64 0)] H37 ⟨⟩) H36) H35) H34) H33) H25)) H24) [(.int .i64 0)] H23 ⟨⟩) H22) H21)) H20) H19) H18) H17) H16) H15) H14) H13)) H12) #[]) #[]) H11) H11) #[]) #[]) H11) H11) #[]) #[]) H11)) H10) H8) H6) H5) H4)) H3) H2) H1) h

theorem n12_calls{r0 n1:Value}{R:VP}{h:Heap}(H:n12 r0 n1 R h):CallsH Tryz.prog 12 #[r0,n1] h R ⟨⟩ :=
 callsH_of_eq Tryz.follow (.n none .l (.n none .l (.n none .l (.n none .l (.n none .l (.n none .l (.n none (.n none .l (.n none (.n (some [51]) .l .l) .l)) (.n none (.n none .l (.n none (.n (some [66]) .l .l) .l)) .l)))))))) Tryz.func12 kR kR kR H

def n14(r0 cluster1:Value)(R:VP)(h:Heap):Prop :=
 vC 39 #[r0] (fun t14 H1 =>
 vD t14 (
 R (.tuple #[(.int .u64 0),(.int .i64 1)]) H1) (
 vG (nilS r0) (fun t17 _ =>
 vG (fieldAt 89 t17 0) (fun t18 _ =>
 vG (loadAt 27 t18) (fun t19 _ =>
 vG (nilS r0) (fun t21 _ =>
 vG (fieldAt 89 t21 1) (fun t22 _ =>
 vG (loadAt 9 t22) (fun t23 _ =>
 vC 11 #[t19,t23] (fun t24 H2 =>
 vG (extract t24 0) (fun t25 _ =>
 vG (extract t24 1) (fun t26 _ =>
 vF (vk .neq 31 27 .i64 0 t26) (fun t28 H3 =>
 vD t28 (
 R (.tuple #[(.int .u64 0),t26]) H3) (
 vF (vk .lss 2 30 .i64 0 cluster1) (fun t31 H4 =>
 vJ t31 false (vV cluster1) (fun t33 H6 =>
 vJ t31 false (vV r0) (fun t34 H8 =>
 vJ t31 false (vC 20 #[t34]) (fun t35 H10 =>
 vJ t31 false (vF (vt .geq 2 33 35 t33 t35)) (fun t36 H12 =>
 vF (pickS t31 (.bool true) t36) (fun t37 H13 =>
 vD t37 (
 R (.tuple #[(.int .u64 0),(.int .i64 4)]) H13) (
 vF (nilS r0) (fun t42 H14 =>
 vF (fieldAt 89 t42 4) (fun t43 H15 =>
 vF (loadAt 2 t43) (fun t44 H16 =>
 vF (vt .quo 2 40 44 cluster1 t44) (fun t45 H17 =>
 vC 44 #[r0,t45] (fun t46 H18 =>
 vF (extract t46 0) (fun t47 H19 =>
 vF (extract t46 1) (fun t48 H20 =>
 vF (extract t46 2) (fun t49 H21 =>
 vF (vk .neq 31 50 .i64 0 t49) (fun t51 H22 =>
 vJ t51 false (vV t47) (fun t53 H24 =>
 vJ t51 false (vF (binS .eql 52 (.tmp 53) (.const (.slice none 0 0)) t53 (.slice none 0 0))) (fun t54 H26 =>
 vF (pickS t51 (.bool true) t54) (fun t55 H27 =>
 vD t55 (
 R (.tuple #[(.int .u64 0),t49]) H27) (
 vG (nilS r0) (fun t60 _ =>
 vG (fieldAt 89 t60 2) (fun t61 _ =>
 vG (fieldAt 84 t61 5) (fun t62 _ =>
 vG (loadAt 3 t62) (fun t63 _ =>
 vG (nilS r0) (fun t66 _ =>
 vG (fieldAt 89 t66 4) (fun t67 _ =>
 vG (loadAt 2 t67) (fun t68 _ =>
 vG (vt .rem 2 64 68 cluster1 t68) (fun t69 _ =>
 vC 45 #[t47,t63,t69] (fun t70 H28 =>
 vG (extract t70 0) (fun t71 _ =>
 vG (extract t70 1) (fun t72 _ =>
 R (.tuple #[t71,(.int .i64 0)]) H28) #[]) #[]) H27) #[]) H27) #[]) #[]) H27) #[]) #[]) #[])) H26) H24) H22) H21) H20) H19) H18) H17) H16) H15) H14) H13)) H12) H10) H8) H6) H4) H3)) H2) #[]) #[]) H1) H1) #[]) #[]) H1) #[]) #[])) h

theorem n14_calls{r0 cluster1:Value}{R:VP}{h:Heap}(H:n14 r0 cluster1 R h):CallsH Tryz.prog 14 #[r0,cluster1] h R ⟨⟩ :=
 callsH_of_eq Tryz.follow .l Tryz.func14 kR kR kR H

def n15(r0 by1 clusters2:Value)(R:VP)(h:Heap):Prop :=
 vC 39 #[r0] (fun t34 H1 =>
 vD t34 (
 R (.int .i64 1) H1) (
 vF (vk .neq 2 36 .i64 1 by1) (fun t37 H2 =>
 vJ t37 true (vV by1) (fun t39 H4 =>
 vJ t37 true (vF (vk .neq 2 39 .i64 (-1) t39)) (fun t40 H6 =>
 vF (pickS t37 t40 (.bool false)) (fun t41 H7 =>
 vD t41 (
 R (.int .i64 2) H7) (
 vG (nilS r0) (fun t44 _ =>
 vG (fieldAt 89 t44 0) (fun t45 _ =>
 vG (loadAt 27 t45) (fun t46 _ =>
 vG (nilS r0) (fun t48 _ =>
 vG (fieldAt 89 t48 1) (fun t49 _ =>
 vG (loadAt 9 t49) (fun t50 _ =>
 vC 11 #[t46,t50] (fun t51 H8 =>
 vG (extract t51 0) (fun t52 _ =>
 vG (extract t51 1) (fun t53 _ =>
 vF (vk .neq 31 54 .i64 0 t53) (fun t55 H9 =>
 vD t55 (
 R t53 H9) (
 vF (makeMap 104 none) (fun t57 H10 =>
 vF (len_ #[47] 3 #[clusters2]) (fun t59 H11 =>
 LoopC 1 (fun (X:VP)=>fun t60 H12 =>
 vF (vt .lss 3 60 59 t60 t59) (fun t61 H13 =>
 vD t61 (
 vF (indexAt 47 clusters2 t60) (fun t62 H14 =>
 vF (loadAt 2 t62) (fun t63 H15 =>
 vF (vk .lss 2 64 .i64 0 t63) (fun t65 H16 =>
 vJ t65 false (vV t63) (fun t67 H18 =>
 vJ t65 false (vV r0) (fun t68 H20 =>
 vJ t65 false (vC 20 #[t68]) (fun t69 H22 =>
 vJ t65 false (vF (vt .geq 2 67 69 t67 t69)) (fun t70 H24 =>
 vF (pickS t65 (.bool true) t70) (fun t71 H25 =>
 vD t71 (
 R (.int .i64 4) H25) (
 vF (lookup 104 t57 t63 false) (fun t74 H26 =>
 vF (vk .add 2 74 .i64 1 t74) (fun t75 H27 =>
 vF (unitS (mapUpdate 104 t57 t63 t75)) (fun _ H28 =>
 vF (vk .add 3 60 .i64 1 t60) (fun t76 H29 =>
 X t76 H29) H28) H27) H26) H25)) H24) H22) H20) H18) H16) H15) H14) H13) (
 vC 47 #[t57] (fun t78 H30 =>
 vC 46 #[t78] (fun t79 H31 =>
 vF (nilS r0) (fun t82 H32 =>
 vF (fieldAt 89 t82 2) (fun t83 H33 =>
 vF (fieldAt 84 t83 5) (fun t84 H34 =>
 vF (loadAt 3 t84) (fun t85 H35 =>
 vC 48 #[t85] (fun t86 H36 =>
 vF (extract t86 0) (fun t87 H37 =>
 vF (extract t86 1) (fun t88 H38 =>
 vF (len_ #[47] 3 #[t79]) (fun t90 H39 =>
 LoopC 2 (fun (X_1:Value->VP)=>fun full15 t91 H40 =>
 vF (vt .lss 3 91 90 t91 t90) (fun t92 H41 =>
 vD t92 (
 vF (indexAt 47 t79 t91) (fun t93 H42 =>
 vF (loadAt 2 t93) (fun t94 H43 =>
 vC 14 #[r0,t94] (fun t98 H44 =>
 vF (extract t98 0) (fun t99 H45 =>
 vF (extract t98 1) (fun t100 H46 =>
 vF (vk .neq 31 101 .i64 0 t100) (fun t102 H47 =>
 vD t102 (
 R t100 H47) (
 vF (vk .lss 2 104 .i64 0 by1) (fun t105 H48 =>
 vJ t105 true (vV t99) (fun t107 H50 =>
 vJ t105 true (vV t57) (fun t108 H52 =>
 vJ t105 true (vV t94) (fun t109 H54 =>
 vJ t105 true (vF (lookup 104 t108 t109 false)) (fun t110 H56 =>
 vJ t105 true (vF (convert 2 44 t110)) (fun t111 H58 =>
 vJ t105 true (vF (vt .lss 44 107 111 t107 t111)) (fun t112 H60 =>
 vF (pickS t105 t112 (.bool false)) (fun t113 H61 =>
 vD t113 (
 R (.int .i64 9) H61) (
 vJ full15 false (vV by1) (fun t116 H63 =>
 vJ full15 false (vF (vk .gtr 2 116 .i64 0 t116)) (fun t117 H65 =>
 vJ full15 false (vV t117) (fun t118 H67 =>
 vJ t118 true (vV t87) (fun t119 H69 =>
 vJ t118 true (vV t99) (fun t120 H71 =>
 vJ t118 true (vF (vt .sub 44 119 120 t119 t120)) (fun t121 H73 =>
 vJ t118 true (vV t57) (fun t122 H75 =>
 vJ t118 true (vV t94) (fun t123 H77 =>
 vJ t118 true (vF (lookup 104 t122 t123 false)) (fun t124 H79 =>
 vJ t118 true (vF (convert 2 44 t124)) (fun t125 H81 =>
 vJ t118 true (vF (vt .lss 44 121 125 t121 t125)) (fun t126 H83 =>
 vJ full15 false (vF (pickS t118 t126 (.bool false))) (fun t127 H85 =>
 vF (pickS full15 (.bool true) t127) (fun t128 H86 =>
 vF (vk .add 3 91 .i64 1 t91) (fun t129 H87 =>
 X_1 t128 t129 H87) H86) H85) H83) H81) H79) H77) H75) H73) H71) H69) H67) H65) H63) H61)) H60) H58) H56) H54) H52) H50) H48) H47)) H46) H45) H44) H43) H42) H41) (
 vD full15 (
 R (.int .i64 6) H41) (
 vF (makeMap 110 none) (fun t131 H88 =>
 vF (len_ #[47] 3 #[t79]) (fun t133 H89 =>
 LoopC 1 (fun (X_2:VP)=>fun t134 H90 =>
 vF (vt .lss 3 134 133 t134 t133) (fun t135 H91 =>
 vD t135 (
 vF (indexAt 47 t79 t134) (fun t136 H92 =>
 vF (loadAt 2 t136) (fun t137 H93 =>
 vF (nilS r0) (fun t141 H94 =>
 vF (fieldAt 89 t141 4) (fun t142 H95 =>
 vF (loadAt 2 t142) (fun t143 H96 =>
 vF (vt .quo 2 139 143 t137 t143) (fun t144 H97 =>
 vF (lookup 110 t131 t144 false) (fun t145 H98 =>
 vF (vk .add 3 145 .i64 1 t145) (fun t146 H99 =>
 vF (unitS (mapUpdate 110 t131 t144 t146)) (fun _ H100 =>
 vF (vk .add 3 134 .i64 1 t134) (fun t147 H101 =>
 X_2 t147 H101) H100) H99) H98) H97) H96) H95) H94) H93) H92) H91) (
 vC 49 #[t131] (fun t149 H102 =>
 vC 46 #[t149] (fun t150 H103 =>
 vF (len_ #[47] 3 #[t150]) (fun t151 H104 =>
 LoopC 1 (fun (X_3:VP)=>fun t152 H105 =>
 vF (vt .lss 3 152 151 t152 t151) (fun t153 H106 =>
 vD t153 (
 JoinN 0 (fun (k_24:Heap->Prop) H107 =>
 JoinN 0 (fun (k_25:Heap->Prop) H108 =>
 vF (indexAt 47 t150 t152) (fun t154 H109 =>
 vF (loadAt 2 t154) (fun t155 H110 =>
 vC 44 #[r0,t155] (fun t159 H111 =>
 vF (extract t159 0) (fun t160 H112 =>
 vF (extract t159 1) (fun t161 H113 =>
 vF (extract t159 2) (fun t162 H114 =>
 JoinN 3 (fun (k_26:Value->Value->VP) H115 =>
 vF (vk .eql 31 163 .i64 0 t162) (fun t164 H116 =>
 vJ t164 true (vV t160) (fun t166 H118 =>
 vJ t164 true (vF (binS .eql 52 (.tmp 166) (.const (.slice none 0 0)) t166 (.slice none 0 0))) (fun t167 H120 =>
 vF (pickS t164 t167 (.bool false)) (fun t168 H121 =>
 vJ t168 true (vV by1) (fun t170 H123 =>
 vJ t168 true (vF (vk .gtr 2 170 .i64 0 t170)) (fun t171 H125 =>
 vF (pickS t168 t171 (.bool false)) (fun t172 H126 =>
 vD t172 (
 vC 50 #[r0,t155] (fun t175 H127 =>
 vF (vk .eql 31 176 .i64 0 t175) (fun t177 H128 =>
 vD t177 (
 vC 44 #[r0,t155] (fun t181 H129 =>
 vF (extract t181 0) (fun t182 H130 =>
 vF (extract t181 1) (fun t183 H131 =>
 vF (extract t181 2) (fun t184 H132 =>
 k_26 t182 t183 t184 H132) H131) H130) H129) H128) (
 k_26 t160 t161 t175 H128)) H127) H126) (
 k_26 t160 t161 t162 H126)) H125) H123) H121) H120) H118) H116) H115)
 (fun b25 at26 e27 H133 =>
 vF (vk .neq 31 185 .i64 0 e27) (fun t186 H134 =>
 vD t186 (
 R e27 H134) (
 vF (binS .eql 52 (.tmp 188) (.const (.slice none 0 0)) b25 (.slice none 0 0)) (fun t189 H135 =>
 vD t189 (
 k_25 H135) (
 vC 51 #[b25] (fun t191 H136 =>
 vF (len_ #[47] 3 #[t79]) (fun t193 H137 =>
 LoopC 1 (fun (X_4:VP)=>fun t194 H138 =>
 vF (vt .lss 3 194 193 t194 t193) (fun t195 H139 =>
 vD t195 (
 JoinN 0 (fun (k_31:Heap->Prop) H140 =>
 JoinN 0 (fun (k_32:Heap->Prop) H141 =>
 vF (indexAt 47 t79 t194) (fun t196 H142 =>
 vF (loadAt 2 t196) (fun t197 H143 =>
 vF (nilS r0) (fun t200 H144 =>
 vF (fieldAt 89 t200 4) (fun t201 H145 =>
 vF (loadAt 2 t201) (fun t202 H146 =>
 vF (vt .quo 2 198 202 t197 t202) (fun t203 H147 =>
 vF (vt .eql 2 203 204 t203 t155) (fun t205 H148 =>
 vD t205 (
 vG (nilS r0) (fun t208 _ =>
 vG (fieldAt 89 t208 2) (fun t209 _ =>
 vG (fieldAt 84 t209 5) (fun t210 _ =>
 vG (loadAt 3 t210) (fun t211 _ =>
 vG (nilS r0) (fun t214 _ =>
 vG (fieldAt 89 t214 4) (fun t215 _ =>
 vG (loadAt 2 t215) (fun t216 _ =>
 vG (vt .rem 2 212 216 t197 t216) (fun t217 _ =>
 vG (lookup 104 t57 t197 false) (fun t221 _ =>
 vG (vt .mul 2 218 221 by1 t221) (fun t222 _ =>
 vC 52 #[b25,t211,t217,t222] (fun t223 H149 =>
 k_32 H149) H148) #[]) H148) #[]) H148) #[]) #[]) H148) #[]) #[]) #[]) (
 k_32 H148)) H147) H146) H145) H144) H143) H142) H141)
 (fun H150 =>
 k_31 H150) H140 ⟨⟩ ⟨⟩)
 (fun H151 =>
 vF (vk .add 3 194 .i64 1 t194) (fun t224 H152 =>
 X_4 t224 H152) H151) H139 ⟨⟩ ⟨⟩) (
 vC 53 #[r0,at26,t191,b25] (fun t229 H153 =>
 vF (vk .neq 31 230 .i64 0 t229) (fun t231 H154 =>
 vD t231 (
 R t229 H154) (
 k_25 H154)) H153) H139)) H138) [(.int .i64 0)] H137 ⟨⟩) H136) H135)) H134)) H133) H114 ⟨⟩ ⟨⟩) H113) H112) H111) H110) H109) H108)
 (fun H155 =>
 k_24 H155) H107 ⟨⟩ ⟨⟩)
 (fun H156 =>
 vF (vk .add 3 152 .i64 1 t152) (fun t233 H157 =>
 X_3 t233 H157) H156) H106 ⟨⟩ ⟨⟩) (
 R (.int .i64 0) H106)) H105) [(.int .i64 0)] H104 ⟨⟩) H103) H102) H91)) H90) [(.int .i64 0)] H89 ⟨⟩) H88) H41))) H40) [(.bool false),(.int .i64 0)] H39 ⟨⟩) H38) H37) H36) H35) H34) H33) H32) H31) H30) H13)) H12) [(.int .i64 0)] H11 ⟨⟩) H10) H9)) H8) #[]) #[]) H7) H7) #[]) #[]) H7) #[]) #[])) H6) H4) H2) H1)) h

theorem n15_calls{r0 by1 clusters2:Value}{R:VP}{h:Heap}(H:n15 r0 by1 clusters2 R h):CallsH Tryz.prog 15 #[r0,by1,clusters2] h R ⟨⟩ :=
 callsH_of_eq Tryz.follow (.n none .l (.n none .l (.n none .l (.n none .l (.n none (.n none .l (.n none (.n (some [61]) .l .l) .l)) (.n none .l (.n none .l (.n none .l (.n none (.n none .l (.n none (.n (some [16,92]) .l .l) .l)) (.n none .l (.n none .l (.n none (.n none .l (.n none (.n (some [135]) .l .l) .l)) (.n none (.n none .l (.n none (.n (some [153]) (.n none .l (.n none .l (.n (some []) (.n (some []) (.n none .l (.n none .l (.n (some [26,27,28]) .l (.n none .l (.n none .l (.n none .l (.n none (.n none .l (.n none (.n (some [195]) (.n none .l (.n none .l (.n (some []) (.n (some []) .l .l) .l))) .l) .l)) .l))))))) .l) .l))) .l) .l)) .l))))))))))))) Tryz.func15 kR kR kR H

def n16(r0 place1 n2:Value)(R:VP)(h:Heap):Prop :=
 vC 39 #[r0] (fun t11 H1 =>
 vD t11 (
 R (.int .i64 1) H1) (
 vF (vk .lss 3 13 .i64 1 n2) (fun t14 H2 =>
 vJ t14 false (vV n2) (fun t16 H4 =>
 vJ t14 false (vF (vk .gtr 3 16 .i64 1048576 t16)) (fun t17 H6 =>
 vF (pickS t14 (.bool true) t17) (fun t18 H7 =>
 vD t18 (
 R (.int .i64 2) H7) (
 vF (vk .lss 2 20 .i64 0 place1) (fun t21 H8 =>
 vJ t21 false (vV place1) (fun t23 H10 =>
 vJ t21 false (vV r0) (fun t24 H12 =>
 vJ t21 false (vF (nilS t24)) (fun t25 H14 =>
 vJ t21 false (vF (fieldAt 89 t25 3)) (fun t26 H16 =>
 vJ t21 false (vF (loadAt 2 t26)) (fun t27 H18 =>
 vJ t21 false (vF (vt .rem 2 23 27 t23 t27)) (fun t28 H20 =>
 vJ t21 false (vF (vk .neq 2 28 .i64 0 t28)) (fun t29 H22 =>
 vF (pickS t21 (.bool true) t29) (fun t30 H23 =>
 vD t30 (
 R (.int .i64 4) H23) (
 LoopC 2 (fun (X:Value->VP)=>fun clusters7 t32 H24 =>
 vF (vt .lss 2 32 31 t32 n2) (fun t33 H25 =>
 vD t33 (
 vF (nilS r0) (fun t38 H26 =>
 vF (fieldAt 89 t38 3) (fun t39 H27 =>
 vF (loadAt 2 t39) (fun t40 H28 =>
 vF (vt .quo 2 36 40 place1 t40) (fun t41 H29 =>
 vF (vt .add 2 41 42 t41 t32) (fun t43 H30 =>
 vF (buildSlice 47 1 #[(0,t43)]) (fun t44 H31 =>
 vF (append_ #[47,47] 47 #[clusters7,t44]) (fun t45 H32 =>
 vF (vk .add 2 32 .i64 1 t32) (fun t46 H33 =>
 X t45 t46 H33) H32) H31) H30) H29) H28) H27) H26) H25) (
 vC 15 #[r0,(.int .i64 (-1)),clusters7] (fun t49 H34 =>
 R t49 H34) H25)) H24) [(.slice none 0 0),(.int .i64 0)] H23 ⟨⟩)) H22) H20) H18) H16) H14) H12) H10) H8) H7)) H6) H4) H2) H1)) h

theorem n16_calls{r0 place1 n2:Value}{R:VP}{h:Heap}(H:n16 r0 place1 n2 R h):CallsH Tryz.prog 16 #[r0,place1,n2] h R ⟨⟩ :=
 callsH_of_eq Tryz.follow (.n none .l (.n none .l (.n none .l (.n none (.n none .l (.n none (.n (some [8,33]) .l .l) .l)) .l)))) Tryz.func16 kR kR kR H

def n17(b0 cluster1:Value)(R:VP)(h:Heap):Prop :=
 vC 54 #[b0] (fun t14 H1 =>
 vF (extract t14 0) (fun t15 H2 =>
 vF (extract t14 1) (fun t16 H3 =>
 vF (alloc 84 true undef) (fun h6 H4 =>
 vF (storeS 84 h6 t15) (fun _ H5 =>
 vF (Op.unary .not t16) (fun t18 H6 =>
 vJ t18 false (vV cluster1) (fun t20 H8 =>
 vJ t18 false (vF (vk .lss 2 20 .i64 0 t20)) (fun t21 H10 =>
 vF (pickS t18 (.bool true) t21) (fun t22 H11 =>
 vD t22 (
 R (.tuple #[(.int .u64 0),(.bool false)]) H11) (
 vF (fieldAt 84 h6 0) (fun t23 H12 =>
 vF (loadAt 3 t23) (fun t24 H13 =>
 vC 36 #[t24] (fun t25 H14 =>
 vF (fieldAt 84 h6 0) (fun t26 H15 =>
 vF (loadAt 3 t26) (fun t27 H16 =>
 vF (fieldAt 84 h6 5) (fun t28 H17 =>
 vF (loadAt 3 t28) (fun t29 H18 =>
 vC 10 #[t27,t29] (fun t30 H19 =>
 vG (fieldAt 84 h6 6) (fun t31 _ =>
 vG (loadAt 2 t31) (fun t32 _ =>
 vG (vt .quo 2 33 34 cluster1 t30) (fun t35 _ =>
 vG (binS .mul 2 (.const (.int .i64 8)) (.tmp 35) (.int .i64 8) t35) (fun t36 _ =>
 vG (vt .add 2 32 36 t32 t36) (fun t37 _ =>
 vG (vt .quo 2 38 39 cluster1 t30) (fun t40 _ =>
 vG (fieldAt 84 h6 7) (fun t41 _ =>
 vG (loadAt 3 t41) (fun t42 _ =>
 vG (vt .mul 2 42 43 t42 t25) (fun t44 _ =>
 vG (vk .quo 2 44 .i64 8 t44) (fun t45 _ =>
 vG (vt .geq 2 40 45 t40 t45) (fun t46 _ =>
 vJ t46 false (vV t37) (fun t48 _ =>
 vJ t46 false (vV b0) (fun t49 _ =>
 vJ t46 false (vG (len_ #[52] 3 #[t49])) (fun t50 _ =>
 vJ t46 false (vG (vk .sub 2 50 .i64 8 t50)) (fun t51 _ =>
 vJ t46 false (vG (vt .gtr 2 48 51 t48 t51)) (fun t52 _ =>
 vG (pickS t46 (.bool true) t52) (fun t53 _ =>
 vD t53 (
 R (.tuple #[(.int .u64 0),(.bool false)]) H19) (
 vF (vk .add 2 56 .i64 8 t37) (fun t57 H25 =>
 vF (sliceAt 52 b0 (some t37) (some t57) none) (fun t58 H26 =>
 vC 55 #[t58] (fun t59 H27 =>
 vF (vk .eql 44 60 .u64 0 t59) (fun t61 H28 =>
 vD t61 (
 R (.tuple #[(.int .u64 0),(.bool true)]) H28) (
 vF (vk .gtr 44 62 .u64 1099511627776 t59) (fun t63 H29 =>
 vJ t63 false (vV t59) (fun t65 H31 =>
 vJ t63 false (vF (convert 44 2 t65)) (fun t66 H33 =>
 vJ t63 false (vV b0) (fun t67 H35 =>
 vJ t63 false (vF (len_ #[52] 3 #[t67])) (fun t68 H37 =>
 vJ t63 false (vV t25) (fun t69 H39 =>
 vJ t63 false (vF (vt .sub 2 68 69 t68 t69)) (fun t70 H41 =>
 vJ t63 false (vF (vt .gtr 2 66 70 t66 t70)) (fun t71 H43 =>
 vF (pickS t63 (.bool true) t71) (fun t72 H44 =>
 vD t72 (
 R (.tuple #[(.int .u64 0),(.bool false)]) H44) (
 vG (convert 44 2 t59) (fun t76 _ =>
 vG (vt .add 2 76 77 t76 t25) (fun t78 _ =>
 vG (sliceAt 52 b0 (some t59) (some t78) none) (fun t79 _ =>
 vG (fieldAt 84 h6 5) (fun t80 _ =>
 vG (loadAt 3 t80) (fun t81 _ =>
 vG (vt .rem 2 82 83 cluster1 t30) (fun t84 _ =>
 vC 56 #[t79,t81,t84] (fun t85 H45 =>
 R (.tuple #[t85,(.bool true)]) H45) H44) #[]) H44) #[]) #[]) #[]) #[])) H43) H41) H39) H37) H35) H33) H31) H29) H28)) H27) H26) H25) H19)) #[]) #[]) #[]) #[]) #[]) #[]) #[]) #[]) #[]) H19) #[]) #[]) #[]) #[]) #[]) H19) #[]) H18) H17) H16) H15) H14) H13) H12) H11)) H10) H8) H6) H5) H4) H3) H2) H1) h

theorem n17_calls{b0 cluster1:Value}{R:VP}{h:Heap}(H:n17 b0 cluster1 R h):CallsH Tryz.prog 17 #[b0,cluster1] h R ⟨⟩ :=
 callsH_of_eq Tryz.follow .l Tryz.func17 kR kR kR H

def n18(s0:Value)(R:VP)(h:Heap):Prop :=
 vC 33 #[s0,(str [97]),(.int .i64 0),(.int .i64 268435456)] (fun t7 H1 =>
 vF (extract t7 0) (fun t8 H2 =>
 vF (extract t7 1) (fun t9 H3 =>
 R t8 H3) H2) H1) h

theorem n18_calls{s0:Value}{R:VP}{h:Heap}(H:n18 s0 R h):CallsH Tryz.prog 18 #[s0] h R ⟨⟩ :=
 callsH_of_eq Tryz.follow .l Tryz.func18 kR kR kR H

def n19(r0 size1:Value)(R:VP)(h:Heap):Prop :=
 vC 39 #[r0] (fun t8 H1 =>
 vD t8 (
 R (.int .i64 1) H1) (
 vG (nilS r0) (fun t11 _ =>
 vG (fieldAt 89 t11 0) (fun t12 _ =>
 vG (loadAt 27 t12) (fun t13 _ =>
 vG (nilS r0) (fun t15 _ =>
 vG (fieldAt 89 t15 1) (fun t16 _ =>
 vG (loadAt 9 t16) (fun t17 _ =>
 vC 11 #[t13,t17] (fun t18 H2 =>
 vG (extract t18 0) (fun t19 _ =>
 vG (extract t18 1) (fun t20 _ =>
 vF (vk .neq 31 21 .i64 0 t20) (fun t22 H3 =>
 vJ t22 false (vV t19) (fun t24 H5 =>
 vJ t22 false (vV size1) (fun t25 H7 =>
 vJ t22 false (vF (vt .geq 2 24 25 t24 t25)) (fun t26 H9 =>
 vF (pickS t22 (.bool true) t26) (fun t27 H10 =>
 vD t27 (
 R t20 H10) (
 vG (nilS r0) (fun t30 _ =>
 vG (fieldAt 89 t30 0) (fun t31 _ =>
 vG (loadAt 27 t31) (fun t32 _ =>
 vG (nilS r0) (fun t34 _ =>
 vG (fieldAt 89 t34 1) (fun t35 _ =>
 vG (loadAt 9 t35) (fun t36 _ =>
 vG (nilS r0) (fun t39 _ =>
 vG (fieldAt 89 t39 3) (fun t40 _ =>
 vG (loadAt 2 t40) (fun t41 _ =>
 vG (vt .add 2 37 41 size1 t41) (fun t42 _ =>
 vG (vk .sub 2 42 .i64 1 t42) (fun t43 _ =>
 vG (nilS r0) (fun t45 _ =>
 vG (fieldAt 89 t45 3) (fun t46 _ =>
 vG (loadAt 2 t46) (fun t47 _ =>
 vG (vt .quo 2 43 47 t43 t47) (fun t48 _ =>
 vG (nilS r0) (fun t50 _ =>
 vG (fieldAt 89 t50 3) (fun t51 _ =>
 vG (loadAt 2 t51) (fun t52 _ =>
 vG (vt .mul 2 48 52 t48 t52) (fun t53 _ =>
 vC 57 #[t32,t36,t53] (fun t54 H11 =>
 R t54 H11) H10) #[]) H10) #[]) #[]) #[]) H10) #[]) #[]) #[]) #[]) H10) #[]) #[]) H10) #[]) #[]) H10) #[]) #[])) H9) H7) H5) H3) H2) #[]) #[]) H1) H1) #[]) #[]) H1) #[]) #[])) h

theorem n19_calls{r0 size1:Value}{R:VP}{h:Heap}(H:n19 r0 size1 R h):CallsH Tryz.prog 19 #[r0,size1] h R ⟨⟩ :=
 callsH_of_eq Tryz.follow .l Tryz.func19 kR kR kR H

def n20(r0:Value)(R:VP)(h:Heap):Prop :=
 vC 39 #[r0] (fun t4 H1 =>
 vD t4 (
 R (.int .i64 0) H1) (
 vG (nilS r0) (fun t6 _ =>
 vG (fieldAt 89 t6 2) (fun t7 _ =>
 vG (fieldAt 84 t7 7) (fun t8 _ =>
 vG (loadAt 3 t8) (fun t9 _ =>
 vG (nilS r0) (fun t11 _ =>
 vG (fieldAt 89 t11 3) (fun t12 _ =>
 vG (loadAt 2 t12) (fun t13 _ =>
 vG (vt .mul 2 9 13 t9 t13) (fun t14 _ =>
 vG (vk .quo 2 14 .i64 8 t14) (fun t15 _ =>
 vG (nilS r0) (fun t17 _ =>
 vG (fieldAt 89 t17 4) (fun t18 _ =>
 vG (loadAt 2 t18) (fun t19 _ =>
 vG (vt .mul 2 15 19 t15 t19) (fun t20 _ =>
 R t20 H1) #[]) H1) #[]) #[]) #[]) #[]) H1) #[]) #[]) H1) #[]) #[]) #[])) h

theorem n20_calls{r0:Value}{R:VP}{h:Heap}(H:n20 r0 R h):CallsH Tryz.prog 20 #[r0] h R ⟨⟩ :=
 callsH_of_eq Tryz.follow .l Tryz.func20 kR kR kR H

def n21(b0 mine1 c2:Value)(R:VP)(h:Heap):Prop :=
 vC 24 #[b0] (fun t15 H1 =>
 vF (extract t15 0) (fun t16 H2 =>
 vF (extract t15 1) (fun t17 H3 =>
 vF (alloc 63 true undef) (fun r7 H4 =>
 vF (storeS 63 r7 t16) (fun _ H5 =>
 vF (vk .neq 3 18 .i64 0 t17) (fun t19 H6 =>
 vJ t19 false (vF (fieldAt 63 r7 1)) (fun t21 H8 =>
 vJ t19 false (vF (loadAt 4 t21)) (fun t22 H10 =>
 vF (pickS t19 (.bool true) t22) (fun t23 H11 =>
 vD t23 (
 R (.bool false) H11) (
 LoopC 1 (fun (X:VP)=>fun i9 H12 =>
 vF (len_ #[35] 3 #[mine1]) (fun t26 H13 =>
 vF (vt .lss 3 24 26 i9 t26) (fun t27 H14 =>
 vD t27 (
 LoopC 1 (fun (X_1:VP)=>fun k10 H15 =>
 vF (indexAt 35 mine1 i9) (fun t33 H16 =>
 vF (fieldAt 42 t33 1) (fun t34 H17 =>
 vF (loadAt 3 t34) (fun t35 H18 =>
 vF (vt .lss 2 30 35 k10 t35) (fun t36 H19 =>
 vD t36 (
 vF (indexAt 35 mine1 i9) (fun t43 H20 =>
 vF (fieldAt 42 t43 0) (fun t44 H21 =>
 vF (loadAt 2 t44) (fun t45 H22 =>
 vF (vt .quo 2 45 46 t45 c2) (fun t47 H23 =>
 vF (vt .add 2 47 48 t47 k10) (fun t49 H24 =>
 vC 17 #[b0,t49] (fun t50 H25 =>
 vF (extract t50 0) (fun t51 H26 =>
 vF (extract t50 1) (fun t52 H27 =>
 vF (Op.unary .not t52) (fun t54 H28 =>
 vJ t54 false (vV t51) (fun t56 H30 =>
 vJ t54 false (vF (vk .lss 44 56 .u64 1 t56)) (fun t57 H32 =>
 vF (pickS t54 (.bool true) t57) (fun t58 H33 =>
 vD t58 (
 R (.bool false) H33) (
 vF (vk .add 2 37 .i64 1 k10) (fun t38 H34 =>
 X_1 t38 H34) H33)) H32) H30) H28) H27) H26) H25) H24) H23) H22) H21) H20) H19) (
 vF (vk .add 3 28 .i64 1 i9) (fun t29 H35 =>
 X t29 H35) H19)) H18) H17) H16) H15) [(.int .i64 0)] H14 ⟨⟩) (
 R (.bool true) H14)) H13) H12) [(.int .i64 0)] H11 ⟨⟩)) H10) H8) H6) H5) H4) H3) H2) H1) h

theorem n21_calls{b0 mine1 c2:Value}{R:VP}{h:Heap}(H:n21 b0 mine1 c2 R h):CallsH Tryz.prog 21 #[b0,mine1,c2] h R ⟨⟩ :=
 callsH_of_eq Tryz.follow (.n none .l (.n none .l (.n none .l (.n none (.n none .l (.n none (.n (some [10]) (.n none .l (.n none (.n none (.n none .l (.n none (.n (some [11]) .l .l) .l)) .l) .l)) .l) .l)) .l)))) Tryz.func21 kR kR kR H

def n24(b0:Value)(R:VP)(h:Heap):Prop :=
 vF (alloc 63 true undef) (fun t2 H1 =>
 vC 60 #[b0] (fun t14 H2 =>
 vF (extract t14 0) (fun t15 H3 =>
 vF (extract t14 1) (fun t16 H4 =>
 vF (vk .neq 3 17 .i64 0 t16) (fun t18 H5 =>
 vD t18 (
 vF (build 63 #[]) (fun t19 H6 =>
 vF (storeS 63 t2 t19) (fun _ H7 =>
 vG (loadCell 63 t2) (fun r _ =>
 R (.tuple #[r,t16]) H7) H7) H6) H5) (
 vC 61 #[t15] (fun t23 H8 =>
 vF (nilS t15) (fun t24 H9 =>
 vF (fieldAt 130 t24 4) (fun t25 H10 =>
 vF (fieldAt 63 t25 2) (fun t26 H11 =>
 vF (storeS 2 t26 t23) (fun _ H12 =>
 LoopC 1 (fun (X:VP)=>fun k6 H13 =>
 vC 62 #[t15] (fun t29 H14 =>
 vF (vt .lss 2 27 29 k6 t29) (fun t30 H15 =>
 vD t30 (
 JoinN 0 (fun (k:Heap->Prop) H16 =>
 JoinN 0 (fun (k_1:Heap->Prop) H17 =>
 vC 63 #[t15,k6] (fun t36 H18 =>
 vF (extract t36 0) (fun t37 H19 =>
 vF (extract t36 1) (fun t38 H20 =>
 JoinN 0 (fun (k_2:Heap->Prop) H21 =>
 vF (vk .gtr 44 39 .u64 0 t37) (fun t40 H22 =>
 vD t40 (
 vF (nilS t15) (fun t42 H23 =>
 vF (fieldAt 130 t42 4) (fun t43 H24 =>
 vF (fieldAt 63 t43 3) (fun t44 H25 =>
 vF (loadAt 2 t44) (fun t45 H26 =>
 vF (vk .add 2 45 .i64 1 t45) (fun t46 H27 =>
 vF (nilS t15) (fun t47 H28 =>
 vF (fieldAt 130 t47 4) (fun t48 H29 =>
 vF (fieldAt 63 t48 3) (fun t49 H30 =>
 vF (storeS 2 t49 t46) (fun _ H31 =>
 k_2 H31) H30) H29) H28) H27) H26) H25) H24) H23) H22) (
 k_2 H22)) H21)
 (fun H32 =>
 vF (nilS t15) (fun t52 H33 =>
 vF (fieldAt 130 t52 1) (fun t53 H34 =>
 vF (fieldAt 84 t53 0) (fun t54 H35 =>
 vF (loadAt 3 t54) (fun t55 H36 =>
 vF (vt .shl 2 50 55 k6 t55) (fun t56 H37 =>
 JoinN 0 (fun (k_3:Heap->Prop) H38 =>
 vF (Op.unary .not t38) (fun t58 H39 =>
 vD t58 (
 vF (nilS t15) (fun t61 H40 =>
 vF (fieldAt 130 t61 3) (fun t62 H41 =>
 vF (loadAt 61 t62) (fun t63 H42 =>
 vF (build 134 #[(0,(.int .i64 4)),(1,t56),(2,(.int .u64 1)),(3,t37)]) (fun t66 H43 =>
 vF (buildSlice 61 1 #[(0,t66)]) (fun t67 H44 =>
 vF (append_ #[61,61] 61 #[t63,t67]) (fun t68 H45 =>
 vF (nilS t15) (fun t69 H46 =>
 vF (fieldAt 130 t69 3) (fun t70 H47 =>
 vF (storeS 61 t70 t68) (fun _ H48 =>
 k_3 H48) H47) H46) H45) H44) H43) H42) H41) H40) H39) (
 k_3 H39)) H38)
 (fun H49 =>
 vC 64 #[t15,k6] (fun t73 H50 =>
 JoinN 0 (fun (k_4:Heap->Prop) H51 =>
 vF (vt .lss 44 74 75 t73 t37) (fun t76 H52 =>
 vD t76 (
 vF (nilS t15) (fun t79 H53 =>
 vF (fieldAt 130 t79 3) (fun t80 H54 =>
 vF (loadAt 61 t80) (fun t81 H55 =>
 vF (build 134 #[(0,(.int .i64 6)),(1,t56),(2,t37),(3,t73)]) (fun t85 H56 =>
 vF (buildSlice 61 1 #[(0,t85)]) (fun t86 H57 =>
 vF (append_ #[61,61] 61 #[t81,t86]) (fun t87 H58 =>
 vF (nilS t15) (fun t88 H59 =>
 vF (fieldAt 130 t88 3) (fun t89 H60 =>
 vF (storeS 61 t89 t87) (fun _ H61 =>
 k_4 H61) H60) H59) H58) H57) H56) H55) H54) H53) H52) (
 k_4 H52)) H51)
 (fun H62 =>
 vF (vt .gtr 44 90 91 t73 t37) (fun t92 H63 =>
 vD t92 (
 vF (nilS t15) (fun t95 H64 =>
 vF (fieldAt 130 t95 3) (fun t96 H65 =>
 vF (loadAt 61 t96) (fun t97 H66 =>
 vF (build 134 #[(0,(.int .i64 7)),(1,t56),(2,t37),(3,t73)]) (fun t101 H67 =>
 vF (buildSlice 61 1 #[(0,t101)]) (fun t102 H68 =>
 vF (append_ #[61,61] 61 #[t97,t102]) (fun t103 H69 =>
 vF (nilS t15) (fun t104 H70 =>
 vF (fieldAt 130 t104 3) (fun t105 H71 =>
 vF (storeS 61 t105 t103) (fun _ H72 =>
 k_1 H72) H71) H70) H69) H68) H67) H66) H65) H64) H63) (
 k_1 H63)) H62) H50 ⟨⟩ ⟨⟩) H49) H37 ⟨⟩ ⟨⟩) H36) H35) H34) H33) H32) H20 ⟨⟩ ⟨⟩) H19) H18) H17)
 (fun H73 =>
 k H73) H16 ⟨⟩ ⟨⟩)
 (fun H74 =>
 vF (vk .add 2 31 .i64 1 k6) (fun t32 H75 =>
 X t32 H75) H74) H15 ⟨⟩ ⟨⟩) (
 LoopC 1 (fun (X_1:VP)=>fun i11 H76 =>
 vF (nilS t15) (fun t108 H77 =>
 vF (fieldAt 130 t108 3) (fun t109 H78 =>
 vF (loadAt 61 t109) (fun t110 H79 =>
 vF (len_ #[61] 3 #[t110]) (fun t111 H80 =>
 vF (vt .lss 3 106 111 i11 t111) (fun t112 H81 =>
 vD t112 (
 vG (nilS t15) (fun t117 _ =>
 vG (fieldAt 130 t117 4) (fun t118 _ =>
 vG (fieldAt 63 t118 0) (fun t119 _ =>
 vG (loadAt 61 t119) (fun t120 _ =>
 vG (nilS t15) (fun t122 _ =>
 vG (fieldAt 130 t122 3) (fun t123 _ =>
 vG (loadAt 61 t123) (fun t124 _ =>
 vG (indexAt 61 t124 i11) (fun t126 _ =>
 vG (loadAt 134 t126) (fun t127 _ =>
 vC 65 #[t120,t127] (fun t128 H82 =>
 vG (nilS t15) (fun t129 _ =>
 vG (fieldAt 130 t129 4) (fun t130 _ =>
 vG (fieldAt 63 t130 0) (fun t131 _ =>
 vF (storeS 61 t131 t128) (fun _ H83 =>
 vF (nilS t15) (fun t134 H84 =>
 vF (fieldAt 130 t134 4) (fun t135 H85 =>
 vF (fieldAt 63 t135 1) (fun t136 H86 =>
 vF (loadAt 4 t136) (fun t137 H87 =>
 vJ t137 false (vV t15) (fun t139 H89 =>
 vJ t137 false (vF (nilS t139)) (fun t140 H91 =>
 vJ t137 false (vF (fieldAt 130 t140 3)) (fun t141 H93 =>
 vJ t137 false (vF (loadAt 61 t141)) (fun t142 H95 =>
 vJ t137 false (vV i11) (fun t143 H97 =>
 vJ t137 false (vF (indexAt 61 t142 t143)) (fun t144 H99 =>
 vJ t137 false (vF (fieldAt 134 t144 0)) (fun t145 H101 =>
 vJ t137 false (vF (loadAt 132 t145)) (fun t146 H103 =>
 vJ t137 false (vF (vk .neq 132 146 .i64 7 t146)) (fun t147 H105 =>
 vF (pickS t137 (.bool true) t147) (fun t148 H106 =>
 vF (nilS t15) (fun t149 H107 =>
 vF (fieldAt 130 t149 4) (fun t150 H108 =>
 vF (fieldAt 63 t150 1) (fun t151 H109 =>
 vF (storeS 4 t151 t148) (fun _ H110 =>
 vF (vk .add 3 113 .i64 1 i11) (fun t114 H111 =>
 X_1 t114 H111) H110) H109) H108) H107) H106) H105) H103) H101) H99) H97) H95) H93) H91) H89) H87) H86) H85) H84) H83) H82) #[]) #[]) #[]) H81) H81) #[]) H81) #[]) #[]) H81) #[]) #[]) #[]) (
 vF (nilS t15) (fun t153 H112 =>
 vF (fieldAt 130 t153 4) (fun t154 H113 =>
 vF (loadAt 63 t154) (fun t155 H114 =>
 vF (storeS 63 t2 t155) (fun _ H115 =>
 vG (loadCell 63 t2) (fun r_1 _ =>
 R (.tuple #[r_1,(.int .i64 0)]) H115) H115) H114) H113) H112) H81)) H80) H79) H78) H77) H76) [(.int .i64 0)] H15 ⟨⟩)) H14) H13) [(.int .i64 0)] H12 ⟨⟩) H11) H10) H9) H8) H5)) H4) H3) H2) H1) h

theorem n24_calls{b0:Value}{R:VP}{h:Heap}(H:n24 b0 R h):CallsH Tryz.prog 24 #[b0] h R ⟨⟩ :=
 callsH_of_eq Tryz.follow (.n none .l (.n none .l (.n none .l (.n none .l (.n none (.n none .l (.n none (.n (some [7]) (.n none .l (.n (some []) (.n (some []) (.n none .l (.n (some []) .l (.n none .l (.n (some []) .l (.n none .l (.n (some []) .l .l)))))) .l) .l)) .l) .l)) (.n none (.n none .l (.n none (.n (some [12]) .l .l) .l)) .l)))))) Tryz.func24 kR kR kR H

def n25(l0:Value)(R:VP)(h:Heap):Prop :=
 LoopC 1 (fun (X:VP)=>fun i3 H1 =>
 vF (len_ #[67] 3 #[l0]) (fun t6 H2 =>
 vF (vt .lss 3 4 6 i3 t6) (fun t7 H3 =>
 vD t7 (
 vF (indexAt 67 l0 i3) (fun t12 H4 =>
 vF (fieldAt 139 t12 0) (fun t13 H5 =>
 vF (loadAt 137 t13) (fun t14 H6 =>
 vF (vk .lss 137 14 .i64 0 t14) (fun t15 H7 =>
 vJ t15 false (vV l0) (fun t17 H9 =>
 vJ t15 false (vV i3) (fun t18 H11 =>
 vJ t15 false (vF (indexAt 67 t17 t18)) (fun t19 H13 =>
 vJ t15 false (vF (fieldAt 139 t19 0)) (fun t20 H15 =>
 vJ t15 false (vF (loadAt 137 t20)) (fun t21 H17 =>
 vJ t15 false (vF (vk .gtr 137 21 .i64 2 t21)) (fun t22 H19 =>
 vF (pickS t15 (.bool true) t22) (fun t23 H20 =>
 vD t23 (
 R (.bool false) H20) (
 vF (vk .add 3 8 .i64 1 i3) (fun t9 H21 =>
 X t9 H21) H20)) H19) H17) H15) H13) H11) H9) H7) H6) H5) H4) H3) (
 R (.bool true) H3)) H2) H1) [(.int .i64 0)] h ⟨⟩

theorem n25_calls{l0:Value}{R:VP}{h:Heap}(H:n25 l0 R h):CallsH Tryz.prog 25 #[l0] h R ⟨⟩ :=
 callsH_of_eq Tryz.follow (.n none .l (.n none (.n none .l (.n none (.n (some [4]) .l .l) .l)) .l)) Tryz.func25 kR kR kR H

def n26(s0 picks1:Value)(R:VP)(h:Heap):Prop :=
 vF (box 68 picks1) (fun picks3 H1 =>
 vC 66 #[s0] (fun t16 H2 =>
 vD t16 (
 R (.tuple #[(.pointer none),(.int .i64 1)]) H2) (
 vF (loadAt 68 picks3) (fun t18 H3 =>
 vC 67 #[t18,(.func (.func 68) #[] #[])] (fun t19 H4 =>
 vD t19 (
 R (.tuple #[(.pointer none),(.int .i64 2)]) H4) (
 vF (pure (.func (.func 69) #[] #[picks3])) (fun t20 H5 =>
 vF (makeMap 142 none) (fun t21 H6 =>
 vF (build 144 #[(0,t21)]) (fun t22 H7 =>
 vF (box 144 t22) (fun t23 H8 =>
 vC 58 #[s0] (fun t25 H9 =>
 vF (len_ #[120] 3 #[t25]) (fun t26 H10 =>
 LoopC 1 (fun (X:VP)=>fun t27 H11 =>
 vF (vt .lss 3 27 26 t27 t26) (fun t28 H12 =>
 vD t28 (
 vF (indexAt 120 t25 t27) (fun t29 H13 =>
 vF (loadAt 9 t29) (fun t30 H14 =>
 vF (nilS s0) (fun t32 H15 =>
 vF (fieldAt 144 t32 0) (fun t33 H16 =>
 vF (loadAt 142 t33) (fun t34 H17 =>
 vF (lookup 142 t34 t30 false) (fun t36 H18 =>
 vF (nilS t36) (fun t38 H19 =>
 vF (fieldAt 97 t38 0) (fun t39 H20 =>
 vF (loadAt 52 t39) (fun t40 H21 =>
 vC 70 #[t40] (fun t41 H22 =>
 vF (nilS t36) (fun t43 H23 =>
 vF (fieldAt 97 t43 1) (fun t44 H24 =>
 vF (loadAt 95 t44) (fun t45 H25 =>
 vF (len_ #[95] 3 #[t45]) (fun t46 H26 =>
 LoopC 1 (fun (X_1:VP)=>fun t47 H27 =>
 vF (vt .lss 3 47 46 t47 t46) (fun t48 H28 =>
 vD t48 (
 JoinN 0 (fun (k:Heap->Prop) H29 =>
 JoinN 0 (fun (k_1:Heap->Prop) H30 =>
 vF (indexAt 95 t45 t47) (fun t49 H31 =>
 vF (loadAt 146 t49) (fun t50 H32 =>
 vF (alloc 146 true undef) (fun p13 H33 =>
 vF (storeS 146 p13 t50) (fun _ H34 =>
 InvokeH Tryz.prog t20 #[] H34 (fun t52 H35 =>
 vD t52 (
 vG (fieldAt 146 p13 0) (fun t54 _ =>
 vG (loadAt 2 t54) (fun t55 _ =>
 vG (sliceAt 52 t41 (some t55) none none) (fun t56 _ =>
 vG (fieldAt 146 p13 1) (fun t57 _ =>
 vG (loadAt 52 t57) (fun t58 _ =>
 vF (copy_ #[52,52] 3 #[t56,t58]) (fun t59 H36 =>
 k_1 H36) H35) H35) #[]) #[]) H35) #[]) (
 k_1 H35)) ⟨⟩) H33) H32) H31) H30)
 (fun H37 =>
 k H37) H29 ⟨⟩ ⟨⟩)
 (fun H38 =>
 vF (vk .add 3 47 .i64 1 t47) (fun t60 H39 =>
 X_1 t60 H39) H38) H28 ⟨⟩ ⟨⟩) (
 vG (nilS t23) (fun t62 _ =>
 vG (fieldAt 144 t62 0) (fun t63 _ =>
 vG (loadAt 142 t63) (fun t64 _ =>
 vC 70 #[t41] (fun t68 H40=>vG (loadAt 142 t63) (fun u _=>u=t64) H40 /\
 vG (build 97 #[(0,t41),(2,t68)]) (fun t69 _ =>
 vF (box 97 t69) (fun t70 H41=>vG (loadAt 142 t63) (fun u _=>u=t64) H41 /\
 vF (unitS (mapUpdate 142 t64 t30 t70)) (fun _ H42 =>
 vF (vk .add 3 27 .i64 1 t27) (fun t71 H43 =>
 X t71 H43) H42) H41) H40) #[]) H28) H28) #[]) #[])) H27) [(.int .i64 0)] H26 ⟨⟩) H25) H24) H23) H22) H21) H20) H19) H18) H17) H16) H15) H14) H13) H12) (
 R (.tuple #[t23,(.int .i64 0)]) H12)) H11) [(.int .i64 0)] H10 ⟨⟩) H9) H8) H7) H6) H5) H4)) H3) H2)) H1) h

theorem n26_calls{s0 picks1:Value}{R:VP}{h:Heap}(H:n26 s0 picks1 R h):CallsH Tryz.prog 26 #[s0,picks1] h R ⟨⟩ :=
 callsH_of_eq Tryz.follow (.n none .l (.n none .l (.n none .l (.n none .l (.n none (.n none .l (.n none (.n (some [28]) (.n none .l (.n none .l (.n none (.n none (.n none .l (.n none .l (.n none .l (.n none (.n none .l (.n none (.n (some [48]) (.n none .l (.n none .l (.n (some []) (.n (some []) .l .l) .l))) .l) .l)) .l)))) .l) .l))) .l) .l)) .l))))) Tryz.func26 kR kR kR H

def n27(bits0 order1 size2 long3 backing4:Value)(R:VP)(h:Heap):Prop :=
 vF (vk .lss 3 22 .i64 9 bits0) (fun t23 H1 =>
 vJ t23 false (vV bits0) (fun t25 H3 =>
 vJ t23 false (vF (vk .gtr 3 25 .i64 16 t25)) (fun t26 H5 =>
 vF (pickS t23 (.bool true) t26) (fun t27 H6 =>
 vJ t27 false (vV order1) (fun t29 H8 =>
 vJ t27 false (vF (vk .lss 3 29 .i64 0 t29)) (fun t30 H10 =>
 vF (pickS t27 (.bool true) t30) (fun t31 H11 =>
 vJ t31 false (vV order1) (fun t33 H13 =>
 vJ t31 false (vF (vk .gtr 3 33 .i64 6 t33)) (fun t34 H15 =>
 vF (pickS t31 (.bool true) t34) (fun t35 H16 =>
 vJ t35 false (vV size2) (fun t37 H18 =>
 vJ t35 false (vF (vk .lss 2 37 .i64 0 t37)) (fun t38 H20 =>
 vF (pickS t35 (.bool true) t38) (fun t39 H21 =>
 vJ t39 false (vV size2) (fun t41 H23 =>
 vJ t39 false (vF (vk .gtr 2 41 .i64 1048576 t41)) (fun t42 H25 =>
 vF (pickS t39 (.bool true) t42) (fun t43 H26 =>
 vJ t43 false (vV size2) (fun t45 H28 =>
 vJ t43 false (vF (vk .rem 2 45 .i64 512 t45)) (fun t46 H30 =>
 vJ t43 false (vF (vk .neq 2 46 .i64 0 t46)) (fun t47 H32 =>
 vF (pickS t43 (.bool true) t47) (fun t48 H33 =>
 vJ t48 false (vV long3) (fun t50 H35 =>
 vJ t48 false (vF (vk .lss 3 50 .i64 1 t50)) (fun t51 H37 =>
 vF (pickS t48 (.bool true) t51) (fun t52 H38 =>
 vJ t52 false (vV long3) (fun t54 H40 =>
 vJ t52 false (vF (vk .gtr 3 54 .i64 40 t54)) (fun t55 H42 =>
 vF (pickS t52 (.bool true) t55) (fun t56 H43 =>
 vD t56 (
 R (.tuple #[(.slice none 0 0),(.bool false)]) H43) (
 vC 36 #[bits0] (fun t58 H44 =>
 vF (build 84 #[(0,bits0),(5,order1),(2,size2),(6,t58),(7,long3),(14,backing4)]) (fun t65 H45 =>
 vF (alloc 84 true undef) (fun h13 H46 =>
 vF (storeS 84 h13 t65) (fun _ H47 =>
 vF (binS .add 2 (.const (.int .i64 1)) (.tmp 66) (.int .i64 1) long3) (fun t67 H48 =>
 vF (loadAt 84 h13) (fun t68 H49 =>
 vC 71 #[t68] (fun t69 H50 =>
 vF (fieldAt 84 h13 4) (fun t70 H51 =>
 vF (storeS 3 t70 t69) (fun _ H52 =>
 JoinN 1 (fun (k_17:VP) H53 =>
 vF (fieldAt 84 h13 4) (fun t71 H54 =>
 vF (loadAt 3 t71) (fun t72 H55 =>
 vF (vk .gtr 3 72 .i64 0 t72) (fun t73 H56 =>
 vD t73 (
 vF (vt .mul 2 74 75 t67 t58) (fun t76 H57 =>
 vF (fieldAt 84 h13 3) (fun t77 H58 =>
 vF (storeS 2 t77 t76) (fun _ H59 =>
 vF (fieldAt 84 h13 4) (fun t79 H60 =>
 vF (loadAt 3 t79) (fun t80 H61 =>
 vF (binS .mul 2 (.const (.int .i64 8)) (.tmp 80) (.int .i64 8) t80) (fun t81 H62 =>
 vC 72 #[t81,t58] (fun t83 H63 =>
 vF (vt .add 2 78 83 t67 t83) (fun t84 H64 =>
 k_17 t84 H64) H63) H62) H61) H60) H59) H58) H57) H56) (
 k_17 t67 H56)) H55) H54) H53)
 (fun used14 H65 =>
 vC 10 #[bits0,order1] (fun t87 H66 =>
 LoopC 1 (fun (X:VP)=>fun blocks16 H67 =>
 vF (vt .mul 2 88 89 blocks16 t87) (fun t90 H68 =>
 vF (vt .add 2 91 92 used14 blocks16) (fun t93 H69 =>
 vF (vt .lss 2 90 93 t90 t93) (fun t94 H70 =>
 vD t94 (
 vF (vk .add 2 95 .i64 1 blocks16) (fun t96 H71 =>
 X t96 H71) H70) (
 vF (vt .add 2 98 99 used14 blocks16) (fun t100 H72 =>
 vF (loadAt 84 h13) (fun t101 H73 =>
 vC 73 #[t101] (fun t102 H74 =>
 vF (Op.unary .not t102) (fun t103 H75 =>
 vJ t103 false (vV blocks16) (fun t105 H77 =>
 vJ t103 false (vV long3) (fun t106 H79 =>
 vJ t103 false (vV t58) (fun t107 H81 =>
 vJ t103 false (vF (vt .mul 2 106 107 t106 t107)) (fun t108 H83 =>
 vJ t103 false (vF (vk .quo 2 108 .i64 8 t108)) (fun t109 H85 =>
 vJ t103 false (vF (vt .gtr 2 105 109 t105 t109)) (fun t110 H87 =>
 vF (pickS t103 (.bool true) t110) (fun t111 H88 =>
 vD t111 (
 R (.tuple #[(.slice none 0 0),(.bool false)]) H88) (
 vF (vt .mul 2 112 113 t100 t58) (fun t114 H89 =>
 vF (makeSlice 52 t114 t114) (fun t115 H90 =>
 vF (loadAt 84 h13) (fun t117 H91 =>
 vC 75 #[t117] (fun t118 H92 =>
 vC 74 #[t115,(.int .i64 0),t118] (fun t119 H93 =>
 LoopC 2 (fun (X_1:Value->VP)=>fun b18 i19 H94 =>
 vF (vt .lss 2 120 121 i19 blocks16) (fun t122 H95 =>
 vD t122 (
 vG (fieldAt 84 h13 6) (fun t126 _ =>
 vG (loadAt 2 t126) (fun t127 _ =>
 vG (binS .mul 2 (.const (.int .i64 8)) (.tmp 128) (.int .i64 8) i19) (fun t129 _ =>
 vG (vt .add 2 127 129 t127 t129) (fun t130 _ =>
 vG (vt .add 2 131 132 used14 i19) (fun t133 _ =>
 vG (vt .mul 2 133 134 t133 t58) (fun t135 _ =>
 vG (convert 2 44 t135) (fun t136 _ =>
 vC 76 #[t136,(.int .i64 8)] (fun t137 H96=>vG (loadAt 2 t126) (fun u _=>u=t127) H96 /\
 vC 74 #[b18,t130,t137] (fun t138 H97 =>
 vF (makeSlice 52 t58 t58) (fun t140 H98 =>
 vF (vt .mul 2 141 142 i19 t87) (fun t143 H99 =>
 LoopC 2 (fun (X_2:Value->VP)=>fun block20 k21 H100 =>
 vF (vt .lss 2 144 145 k21 t100) (fun t146 H101 =>
 vJ t146 true (vV k21) (fun t148 H103 =>
 vJ t146 true (vV i19) (fun t149 H105 =>
 vJ t146 true (vF (vk .add 2 149 .i64 1 t149)) (fun t150 H107 =>
 vJ t146 true (vV t87) (fun t151 H109 =>
 vJ t146 true (vF (vt .mul 2 150 151 t150 t151)) (fun t152 H111 =>
 vJ t146 true (vF (vt .lss 2 148 152 t148 t152)) (fun t153 H113 =>
 vF (pickS t146 t153 (.bool false)) (fun t154 H114 =>
 vD t154 (
 vF (vt .mul 2 160 161 i19 t87) (fun t162 H115 =>
 vF (vt .sub 2 159 162 k21 t162) (fun t163 H116 =>
 vC 77 #[block20,order1,t163,(.int .u64 1)] (fun t164 H117 =>
 vF (vk .add 2 155 .i64 1 k21) (fun t156 H118 =>
 X_2 t164 t156 H118) H117) H116) H115) H114) (
 vF (vt .add 2 166 167 used14 i19) (fun t168 H119 =>
 vF (vt .mul 2 168 169 t168 t58) (fun t170 H120 =>
 vC 74 #[t138,t170,block20] (fun t172 H121 =>
 vF (vk .add 2 123 .i64 1 i19) (fun t124 H122 =>
 X_1 t172 t124 H122) H121) H120) H119) H114)) H113) H111) H109) H107) H105) H103) H101) H100) [t140,t143] H99 ⟨⟩) H98) H97) H96) H95) #[]) #[]) #[]) #[]) #[]) H95) #[]) (
 R (.tuple #[b18,(.bool true)]) H95)) H94) [t119,(.int .i64 0)] H93 ⟨⟩) H92) H91) H90) H89) H88)) H87) H85) H83) H81) H79) H77) H75) H74) H73) H72) H70)) H69) H68) H67) [(.int .i64 1)] H66 ⟨⟩) H65) H52 ⟨⟩ ⟨⟩) H51) H50) H49) H48) H47) H46) H45) H44) H43)) H42) H40) H38) H37) H35) H33) H32) H30) H28) H26) H25) H23) H21) H20) H18) H16) H15) H13) H11) H10) H8) H6) H5) H3) H1) h

theorem n27_calls{bits0 order1 size2 long3 backing4:Value}{R:VP}{h:Heap}(H:n27 bits0 order1 size2 long3 backing4 R h):CallsH Tryz.prog 27 #[bits0,order1,size2,long3,backing4] h R ⟨⟩ :=
 callsH_of_eq Tryz.follow (.n none .l (.n none .l (.n none .l (.n none .l (.n none .l (.n none .l (.n (some [15]) .l (.n none .l (.n none .l (.n none (.n none (.n (some [17]) .l .l) .l) (.n none .l (.n none .l (.n none .l (.n none .l (.n none .l (.n none (.n none .l (.n none (.n (some [19,20]) (.n none .l (.n none (.n none (.n none .l (.n none .l (.n none (.n none .l (.n none (.n (some [21,22]) .l .l) .l)) .l))) .l) .l)) .l) .l)) .l)))))))))))))))) Tryz.func27 kR kR kR H

def n28(fates0:Value)(R:VP)(h:Heap):Prop :=
 vC 78 #[fates0] (fun t5 H1 =>
 vF (Op.unary .not t5) (fun t6 H2 =>
 vD t6 (
 R (.tuple #[(.pointer none),(.int .i64 2)]) H2) (
 vF (makeMap 142 none) (fun t7 H3 =>
 vC 79 #[fates0] (fun t9 H4 =>
 vF (build 144 #[(0,t7),(1,t9)]) (fun t10 H5 =>
 vF (box 144 t10) (fun t11 H6 =>
 R (.tuple #[t11,(.int .i64 0)]) H6) H5) H4) H3) H2)) H1) h

theorem n28_calls{fates0:Value}{R:VP}{h:Heap}(H:n28 fates0 R h):CallsH Tryz.prog 28 #[fates0] h R ⟨⟩ :=
 callsH_of_eq Tryz.follow .l Tryz.func28 kR kR kR H

def n29(s0 name1:Value)(R:VP)(h:Heap):Prop :=
 vC 80 #[s0,name1] (fun t12 H1 =>
 vF (vk .neq 31 13 .i64 0 t12) (fun t14 H2 =>
 vD t14 (
 R t12 H2) (
 vF (nilS s0) (fun t18 H3 =>
 vF (fieldAt 144 t18 0) (fun t19 H4 =>
 vF (loadAt 142 t19) (fun t20 H5 =>
 vF (lookup 142 t20 name1 true) (fun t22 H6 =>
 vF (extract t22 0) (fun t23 H7 =>
 vF (extract t22 1) (fun t24 H8 =>
 vD t24 (
 R (.int .i64 8) H8) (
 vF (nilS s0) (fun t27 H9 =>
 vF (fieldAt 144 t27 0) (fun t28 H10 =>
 vF (loadAt 142 t28) (fun t29 H11 =>
 vF (len_ #[142] 3 #[t29]) (fun t30 H12 =>
 vF (vk .geq 3 30 .i64 256 t30) (fun t31 H13 =>
 vD t31 (
 R (.int .i64 6) H13) (
 vC 81 #[s0] (fun t34 H14 =>
 vF (extract t34 0) (fun t35 H15 =>
 vF (extract t34 1) (fun t36 H16 =>
 vF (vk .neq 31 37 .i64 0 t35) (fun t38 H17 =>
 vD t38 (
 R t35 H17) (
 vF (nilS s0) (fun t41 H18 =>
 vF (fieldAt 144 t41 0) (fun t42 H19 =>
 vF (loadAt 142 t42) (fun t43 H20 =>
 vF (build 97 #[]) (fun t45 H21 =>
 vF (box 97 t45) (fun t46 H22 =>
 vF (unitS (mapUpdate 142 t43 name1 t46)) (fun _ H23 =>
 R (.int .i64 0) H23) H22) H21) H20) H19) H18) H17)) H16) H15) H14) H13)) H12) H11) H10) H9) H8)) H7) H6) H5) H4) H3) H2)) H1) h

theorem n29_calls{s0 name1:Value}{R:VP}{h:Heap}(H:n29 s0 name1 R h):CallsH Tryz.prog 29 #[s0,name1] h R ⟨⟩ :=
 callsH_of_eq Tryz.follow .l Tryz.func29 kR kR kR H

def n30(s0 name1 at2 b3:Value)(R:VP)(h:Heap):Prop :=
 vC 38 #[s0,name1] (fun t16 H1 =>
 vF (extract t16 0) (fun t17 H2 =>
 vF (extract t16 1) (fun t18 H3 =>
 vF (vk .neq 31 20 .i64 0 t18) (fun t21 H4 =>
 vD t21 (
 R t18 H4) (
 vF (vk .lss 2 24 .i64 0 at2) (fun t25 H5 =>
 vD t25 (
 R (.int .i64 4) H5) (
 vF (len_ #[52] 3 #[b3]) (fun t28 H6 =>
 vF (vk .gtr 3 28 .i64 0 t28) (fun t29 H7 =>
 vJ t29 true (vV at2) (fun t31 H9 =>
 vJ t29 true (vF (vk .gtr 2 31 .i64 268435456 t31)) (fun t32 H11 =>
 vJ t29 true (vV t32) (fun t33 H13 =>
 vJ t33 false (vV b3) (fun t34 H15 =>
 vJ t33 false (vF (len_ #[52] 3 #[t34])) (fun t35 H17 =>
 vJ t33 false (vV at2) (fun t36 H19 =>
 vJ t33 false (vF (binS .sub 2 (.const (.int .i64 268435456)) (.tmp 36) (.int .i64 268435456) t36)) (fun t37 H21 =>
 vJ t33 false (vF (vt .gtr 2 35 37 t35 t37)) (fun t38 H23 =>
 vJ t29 true (vF (pickS t33 (.bool true) t38)) (fun t39 H25 =>
 vF (pickS t29 t39 (.bool false)) (fun t40 H26 =>
 vD t40 (
 R (.int .i64 6) H26) (
 vC 81 #[s0] (fun t43 H27 =>
 vF (extract t43 0) (fun t44 H28 =>
 vF (extract t43 1) (fun t45 H29 =>
 LoopC 3 (fun (X:Value->Value->VP)=>fun at2_1 b3_1 keep11 H30 =>
 vF (len_ #[52] 3 #[b3_1]) (fun t47 H31 =>
 vF (vk .gtr 3 47 .i64 0 t47) (fun t48 H32 =>
 vJ t48 true (vV t44) (fun t50 H34 =>
 vJ t48 true (vF (vk .eql 31 50 .i64 0 t50)) (fun t51 H36 =>
 vJ t48 true (vV t51) (fun t52 H38 =>
 vJ t52 false (vV keep11) (fun t53 H40 =>
 vJ t52 false (vF (vk .gtr 3 53 .i64 0 t53)) (fun t54 H42 =>
 vJ t48 true (vF (pickS t52 (.bool true) t54)) (fun t55 H44 =>
 vF (pickS t48 t55 (.bool false)) (fun t56 H45 =>
 vD t56 (
 vF (len_ #[52] 3 #[b3_1]) (fun t58 H46 =>
 vF (vk .rem 2 59 .i64 512 at2_1) (fun t60 H47 =>
 vF (binS .sub 2 (.const (.int .i64 512)) (.tmp 60) (.int .i64 512) t60) (fun t61 H48 =>
 vF (min_ #[3,3] 3 #[t58,t61]) (fun t62 H49 =>
 vF (vt .add 2 64 65 at2_1 t62) (fun t66 H50 =>
 vC 82 #[t17,t66] (fun t67 H51 =>
 vG (nilS t17) (fun t70 _ =>
 vG (fieldAt 97 t70 1) (fun t71 _ =>
 vG (loadAt 95 t71) (fun t72 _ =>
 vG (sliceAt 52 b3_1 none (some t62) none) (fun t76 _ =>
 vC 70 #[t76] (fun t77 H52=>vG (loadAt 95 t71) (fun u _=>u=t72) H52 /\
 vG (build 146 #[(0,at2_1),(1,t77)]) (fun t78 _ =>
 vF (buildSlice 95 1 #[(0,t78)]) (fun t79 H53=>vG (loadAt 95 t71) (fun u _=>u=t72) H53 /\
 vF (append_ #[95,95] 95 #[t72,t79]) (fun t80 H54 =>
 vG (nilS t17) (fun t81 _ =>
 vG (fieldAt 97 t81 1) (fun t82 _ =>
 vF (storeS 95 t82 t80) (fun _ H55 =>
 vG (nilS t17) (fun t84 _ =>
 vG (fieldAt 97 t84 2) (fun t85 _ =>
 vG (loadAt 52 t85) (fun t86 _ =>
 vG (sliceAt 52 t86 (some at2_1) none none) (fun t88 _ =>
 vG (sliceAt 52 b3_1 none (some t62) none) (fun t91 _ =>
 vF (copy_ #[52,52] 3 #[t88,t91]) (fun t92 H56 =>
 vF (sliceAt 52 b3_1 (some t62) none none) (fun t95 H57 =>
 vF (vt .add 2 96 97 at2_1 t62) (fun t98 H58 =>
 vF (vk .sub 3 99 .i64 1 keep11) (fun t100 H59 =>
 X t98 t95 t100 H59) H58) H57) H56) H55) #[]) #[]) H55) #[]) #[]) H54) #[]) #[]) H53) H52) #[]) H51) #[]) H51) #[]) #[]) H50) H49) H48) H47) H46) H45) (
 R t44 H45)) H44) H42) H40) H38) H36) H34) H32) H31) H30) [at2,b3,t45] H29 ⟨⟩) H28) H27) H26)) H25) H23) H21) H19) H17) H15) H13) H11) H9) H7) H6) H5)) H4)) H3) H2) H1) h

theorem n30_calls{s0 name1 at2 b3:Value}{R:VP}{h:Heap}(H:n30 s0 name1 at2 b3 R h):CallsH Tryz.prog 30 #[s0,name1,at2,b3] h R ⟨⟩ :=
 callsH_of_eq Tryz.follow (.n none .l (.n none .l (.n none .l (.n none .l (.n none (.n none (.n (some [3,4,12]) .l .l) .l) .l))))) Tryz.func30 kR kR kR H

def n31(s0 name1:Value)(R:VP)(h:Heap):Prop :=
 vC 38 #[s0,name1] (fun t14 H1 =>
 vF (extract t14 0) (fun t15 H2 =>
 vF (extract t14 1) (fun t16 H3 =>
 vF (vk .neq 31 17 .i64 0 t16) (fun t18 H4 =>
 vD t18 (
 R t16 H4) (
 vC 81 #[s0] (fun t22 H5 =>
 vF (extract t22 0) (fun t23 H6 =>
 vF (extract t22 1) (fun t24 H7 =>
 vF (nilS t15) (fun t26 H8 =>
 vF (fieldAt 97 t26 1) (fun t27 H9 =>
 vF (loadAt 95 t27) (fun t28 H10 =>
 vF (len_ #[95] 3 #[t28]) (fun t29 H11 =>
 JoinN 1 (fun (k:VP) H12 =>
 vF (vk .neq 31 30 .i64 0 t23) (fun t31 H13 =>
 vD t31 (
 vF (min_ #[3,3] 3 #[t29,t24]) (fun t34 H14 =>
 k t34 H14) H13) (
 k t29 H13)) H12)
 (fun n8 H15 =>
 vF (nilS t15) (fun t36 H16 =>
 vF (fieldAt 97 t36 1) (fun t37 H17 =>
 vF (loadAt 95 t37) (fun t38 H18 =>
 vF (sliceAt 95 t38 none (some n8) none) (fun t40 H19 =>
 vF (len_ #[95] 3 #[t40]) (fun t41 H20 =>
 LoopC 1 (fun (X:VP)=>fun t42 H21 =>
 vF (vt .lss 3 42 41 t42 t41) (fun t43 H22 =>
 vD t43 (
 vF (indexAt 95 t40 t42) (fun t44 H23 =>
 vF (loadAt 146 t44) (fun t45 H24 =>
 vF (alloc 146 true undef) (fun p10 H25 =>
 vF (storeS 146 p10 t45) (fun _ H26 =>
 vG (nilS t15) (fun t47 _ =>
 vG (fieldAt 97 t47 0) (fun t48 _ =>
 vG (loadAt 52 t48) (fun t49 _ =>
 vG (fieldAt 146 p10 0) (fun t50 _ =>
 vG (loadAt 2 t50) (fun t51 _ =>
 vG (sliceAt 52 t49 (some t51) none none) (fun t52 _ =>
 vG (fieldAt 146 p10 1) (fun t53 _ =>
 vG (loadAt 52 t53) (fun t54 _ =>
 vF (copy_ #[52,52] 3 #[t52,t54]) (fun t55 H27 =>
 vF (vk .add 3 42 .i64 1 t42) (fun t56 H28 =>
 X t56 H28) H27) H26) H26) #[]) #[]) H26) #[]) H26) #[]) #[]) H25) H24) H23) H22) (
 vF (nilS t15) (fun t59 H29 =>
 vF (fieldAt 97 t59 1) (fun t60 H30 =>
 vF (loadAt 95 t60) (fun t61 H31 =>
 vF (sliceAt 95 t61 (some n8) none none) (fun t63 H32 =>
 vC 83 #[t63] (fun t64 H33 =>
 vF (nilS t15) (fun t65 H34 =>
 vF (fieldAt 97 t65 1) (fun t66 H35 =>
 vF (storeS 95 t66 t64) (fun _ H36 =>
 R t23 H36) H35) H34) H33) H32) H31) H30) H29) H22)) H21) [(.int .i64 0)] H20 ⟨⟩) H19) H18) H17) H16) H15) H11 ⟨⟩ ⟨⟩) H10) H9) H8) H7) H6) H5) H4)) H3) H2) H1) h

theorem n31_calls{s0 name1:Value}{R:VP}{h:Heap}(H:n31 s0 name1 R h):CallsH Tryz.prog 31 #[s0,name1] h R ⟨⟩ :=
 callsH_of_eq Tryz.follow (.n none .l (.n none .l (.n none .l (.n none .l (.n none .l (.n (some [9]) .l (.n none (.n none .l (.n none (.n (some [43]) .l .l) .l)) .l))))))) Tryz.func31 kR kR kR H

def n32(s0 fates1:Value)(R:VP)(h:Heap):Prop :=
 vC 66 #[s0] (fun t7 H1 =>
 vD t7 (
 R (.int .i64 1) H1) (
 vC 78 #[fates1] (fun t10 H2 =>
 vF (Op.unary .not t10) (fun t11 H3 =>
 vD t11 (
 R (.int .i64 2) H3) (
 vF (nilS s0) (fun t14 H4 =>
 vF (fieldAt 144 t14 1) (fun t15 H5 =>
 vF (loadAt 67 t15) (fun t16 H6 =>
 vF (append_ #[67,67] 67 #[t16,fates1]) (fun t18 H7 =>
 vF (nilS s0) (fun t19 H8 =>
 vF (fieldAt 144 t19 1) (fun t20 H9 =>
 vF (storeS 67 t20 t18) (fun _ H10 =>
 R (.int .i64 0) H10) H9) H8) H7) H6) H5) H4) H3)) H2) H1)) h

theorem n32_calls{s0 fates1:Value}{R:VP}{h:Heap}(H:n32 s0 fates1 R h):CallsH Tryz.prog 32 #[s0,fates1] h R ⟨⟩ :=
 callsH_of_eq Tryz.follow .l Tryz.func32 kR kR kR H

def n33(s0 name1 at2 n3:Value)(R:VP)(h:Heap):Prop :=
 vC 38 #[s0,name1] (fun t16 H1 =>
 vF (extract t16 0) (fun t17 H2 =>
 vF (extract t16 1) (fun t18 H3 =>
 vF (vk .neq 31 20 .i64 0 t18) (fun t21 H4 =>
 vD t21 (
 R (.tuple #[(.slice none 0 0),t18]) H4) (
 vF (vk .lss 2 24 .i64 0 at2) (fun t25 H5 =>
 vJ t25 false (vV at2) (fun t27 H7 =>
 vJ t25 false (vV t17) (fun t28 H9 =>
 vJ t25 false (vF (nilS t28)) (fun t29 H11 =>
 vJ t25 false (vF (fieldAt 97 t29 2)) (fun t30 H13 =>
 vJ t25 false (vF (loadAt 52 t30)) (fun t31 H15 =>
 vJ t25 false (vF (len_ #[52] 3 #[t31])) (fun t32 H17 =>
 vJ t25 false (vF (vt .gtr 2 27 32 t27 t32)) (fun t33 H19 =>
 vF (pickS t25 (.bool true) t33) (fun t34 H20 =>
 vJ t34 false (vV n3) (fun t36 H22 =>
 vJ t34 false (vF (vk .lss 3 36 .i64 0 t36)) (fun t37 H24 =>
 vF (pickS t34 (.bool true) t37) (fun t38 H25 =>
 vD t38 (
 R (.tuple #[(.slice none 0 0),(.int .i64 4)]) H25) (
 vF (nilS t17) (fun t40 H26 =>
 vF (fieldAt 97 t40 2) (fun t41 H27 =>
 vF (loadAt 52 t41) (fun t42 H28 =>
 vF (sliceAt 52 t42 (some at2) none none) (fun t44 H29 =>
 vF (len_ #[52] 3 #[t44]) (fun t48 H30 =>
 vF (min_ #[3,3] 3 #[n3,t48]) (fun t49 H31 =>
 vF (sliceAt 52 t44 none (some t49) none) (fun t50 H32 =>
 vC 70 #[t50] (fun t51 H33 =>
 R (.tuple #[t51,(.int .i64 0)]) H33) H32) H31) H30) H29) H28) H27) H26) H25)) H24) H22) H20) H19) H17) H15) H13) H11) H9) H7) H5) H4)) H3) H2) H1) h

theorem n33_calls{s0 name1 at2 n3:Value}{R:VP}{h:Heap}(H:n33 s0 name1 at2 n3 R h):CallsH Tryz.prog 33 #[s0,name1,at2,n3] h R ⟨⟩ :=
 callsH_of_eq Tryz.follow .l Tryz.func33 kR kR kR H

def n34(b0:Value)(R:VP)(h:Heap):Prop :=
 vF (box 52 b0) (fun b1 H1 =>
 vF (alloc 84 true undef) (fun t2 H2 =>
 vF (loadAt 52 b1) (fun t10 H3 =>
 vF (len_ #[52] 3 #[t10]) (fun t11 H4 =>
 vF (vk .lss 3 11 .i64 512 t11) (fun t12 H5 =>
 vD t12 (
 vF (build 84 #[]) (fun t13 H6 =>
 vF (storeS 84 t2 t13) (fun _ H7 =>
 vG (loadCell 84 t2) (fun r _ =>
 R (.tuple #[r,(.int .i64 180)]) H7) H7) H6) H5) (
 vF (loadAt 52 b1) (fun t14 H8 =>
 vF (sliceAt 52 t14 none (some (.int .i64 512)) none) (fun t15 H9 =>
 vF (storeS 52 b1 t15) (fun _ H10 =>
 vF (pure (.func (.func 84) #[] #[b1])) (fun t16 H11 =>
 InvokeH Tryz.prog t16 #[(.int .i64 4),(.int .i64 4)] H11 (fun t18 H12 =>
 InvokeH Tryz.prog t16 #[(.int .i64 8),(.int .i64 8)] H12 (fun t20 H13 =>
 vF (convert 2 44 t20) (fun t21 H14 =>
 InvokeH Tryz.prog t16 #[(.int .i64 16),(.int .i64 8)] H14 (fun t23 H15 =>
 InvokeH Tryz.prog t16 #[(.int .i64 24),(.int .i64 8)] H15 (fun t25 H16 =>
 InvokeH Tryz.prog t16 #[(.int .i64 32),(.int .i64 4)] H16 (fun t27 H17 =>
 InvokeH Tryz.prog t16 #[(.int .i64 36),(.int .i64 4)] H17 (fun t29 H18 =>
 InvokeH Tryz.prog t16 #[(.int .i64 40),(.int .i64 8)] H18 (fun t31 H19 =>
 InvokeH Tryz.prog t16 #[(.int .i64 48),(.int .i64 4)] H19 (fun t33 H20 =>
 InvokeH Tryz.prog t16 #[(.int .i64 52),(.int .i64 4)] H20 (fun t35 H21 =>
 InvokeH Tryz.prog t16 #[(.int .i64 56),(.int .i64 8)] H21 (fun t37 H22 =>
 InvokeH Tryz.prog t16 #[(.int .i64 64),(.int .i64 4)] H22 (fun t39 H23 =>
 InvokeH Tryz.prog t16 #[(.int .i64 68),(.int .i64 4)] H23 (fun t41 H24 =>
 InvokeH Tryz.prog t16 #[(.int .i64 72),(.int .i64 8)] H24 (fun t43 H25 =>
 InvokeH Tryz.prog t16 #[(.int .i64 80),(.int .i64 4)] H25 (fun t45 H26 =>
 vF (build 84 #[(0,t18),(1,t21),(2,t23),(3,t25),(4,t27),(5,t29),(6,t31),(7,t33),(8,t35),(9,t37),(10,t39),(11,t41),(12,t43),(13,t45)]) (fun t46 H27 =>
 vF (alloc 84 true undef) (fun h5 H28 =>
 vF (storeS 84 h5 t46) (fun _ H29 =>
 vF (loadAt 52 b1) (fun t48 H30 =>
 vC 86 #[t48,(.int .i64 84),(.int .i64 64)] (fun t49 H31 =>
 vF (extract t49 0) (fun t50 H32 =>
 vF (extract t49 1) (fun t51 H33 =>
 vF (fieldAt 84 h5 14) (fun t53 H34 =>
 vF (storeS 9 t53 t50) (fun _ H35 =>
 vF (loadAt 84 h5) (fun t55 H36 =>
 vC 87 #[t55] (fun t56 H37 =>
 vF (extract t56 0) (fun t57 H38 =>
 vF (extract t56 1) (fun t58 H39 =>
 vF (vk .neq 31 59 .i64 0 t51) (fun t60 H40 =>
 vJ t60 false (vV t58) (fun t62 H42 =>
 vJ t60 false (vF (vk .neq 31 62 .i64 0 t62)) (fun t63 H44 =>
 vF (pickS t60 (.bool true) t63) (fun t64 H45 =>
 vJ t64 false (vV t57) (fun t66 H47 =>
 vJ t64 false (vF (loadAt 52 b1)) (fun t67 H49 =>
 vJ t64 false (vC 88 #[t66,t67]) (fun t68 H51 =>
 vJ t64 false (vF (Op.unary .not t68)) (fun t69 H53 =>
 vF (pickS t64 (.bool true) t69) (fun t70 H54 =>
 vD t70 (
 vF (build 84 #[]) (fun t71 H55 =>
 vF (storeS 84 t2 t71) (fun _ H56 =>
 vG (loadCell 84 t2) (fun r_1 _ =>
 R (.tuple #[r_1,(.int .i64 180)]) H56) H56) H55) H54) (
 vF (loadAt 84 h5) (fun t72 H57 =>
 vF (storeS 84 t2 t72) (fun _ H58 =>
 vG (loadCell 84 t2) (fun r_2 _ =>
 R (.tuple #[r_2,(.int .i64 0)]) H58) H58) H57) H54)) H53) H51) H49) H47) H45) H44) H42) H40) H39) H38) H37) H36) H35) H34) H33) H32) H31) H30) H29) H28) H27) H26) ⟨⟩) ⟨⟩) ⟨⟩) ⟨⟩) ⟨⟩) ⟨⟩) ⟨⟩) ⟨⟩) ⟨⟩) ⟨⟩) ⟨⟩) ⟨⟩) H13) ⟨⟩) ⟨⟩) H10) H9) H8) H5)) H4) H3) H2) H1) h

theorem n34_calls{b0:Value}{R:VP}{h:Heap}(H:n34 b0 R h):CallsH Tryz.prog 34 #[b0] h R ⟨⟩ :=
 callsH_of_eq Tryz.follow .l Tryz.func34 kR kR kR H

def n35(h0:Value)(R:VP)(h:Heap):Prop :=
 vF (box 84 h0) (fun h1 H1 =>
 vF (loadAt 84 h1) (fun t3 H2 =>
 vC 89 #[t3,(.func (.func 90) #[] #[])] (fun t4 H3 =>
 R t4 H3) H2) H1) h

theorem n35_calls{h0:Value}{R:VP}{h:Heap}(H:n35 h0 R h):CallsH Tryz.prog 35 #[h0] h R ⟨⟩ :=
 callsH_of_eq Tryz.follow .l Tryz.func35 kR kR kR H

def n36(bits0:Value)(R:VP)(h:Heap):Prop :=
 LoopC 2 (fun (X:Value->VP)=>fun c3 i4 H1 =>
 vF (vt .lss 3 5 6 i4 bits0) (fun t7 H2 =>
 vD t7 (
 vF (binS .mul 2 (.const (.int .i64 2)) (.tmp 10) (.int .i64 2) c3) (fun t11 H3 =>
 vF (vk .add 3 8 .i64 1 i4) (fun t9 H4 =>
 X t11 t9 H4) H3) H2) (
 R c3 H2)) H1) [(.int .i64 1),(.int .i64 0)] h ⟨⟩

theorem n36_calls{bits0:Value}{R:VP}{h:Heap}(H:n36 bits0 R h):CallsH Tryz.prog 36 #[bits0] h R ⟨⟩ :=
 callsH_of_eq Tryz.follow (.n none .l (.n none .l (.n none (.n none .l (.n none (.n (some [4,5]) .l .l) .l)) .l))) Tryz.func36 kR kR kR H

def n37(order0:Value)(R:VP)(h:Heap):Prop :=
 vF (vk .lss 3 5 .i64 0 order0) (fun t6 H1 =>
 vJ t6 false (vV order0) (fun t8 H3 =>
 vJ t6 false (vF (vk .gtr 3 8 .i64 6 t8)) (fun t9 H5 =>
 vF (pickS t6 (.bool true) t9) (fun t10 H6 =>
 vD t10 (
 R (.int .i64 0) H6) (
 LoopC 2 (fun (X:Value->VP)=>fun w3 i4 H7 =>
 vF (vt .lss 3 11 12 i4 order0) (fun t13 H8 =>
 vD t13 (
 vF (binS .mul 3 (.const (.int .i64 2)) (.tmp 16) (.int .i64 2) w3) (fun t17 H9 =>
 vF (vk .add 3 14 .i64 1 i4) (fun t15 H10 =>
 X t17 t15 H10) H9) H8) (
 R w3 H8)) H7) [(.int .i64 1),(.int .i64 0)] H6 ⟨⟩)) H5) H3) H1) h

theorem n37_calls{order0:Value}{R:VP}{h:Heap}(H:n37 order0 R h):CallsH Tryz.prog 37 #[order0] h R ⟨⟩ :=
 callsH_of_eq Tryz.follow (.n none .l (.n none .l (.n none .l (.n none (.n none .l (.n none (.n (some [4,5]) .l .l) .l)) .l)))) Tryz.func37 kR kR kR H

def n38(s0 name1:Value)(R:VP)(h:Heap):Prop :=
 vC 80 #[s0,name1] (fun t11 H1 =>
 vF (vk .neq 31 12 .i64 0 t11) (fun t13 H2 =>
 vD t13 (
 R (.tuple #[(.pointer none),t11]) H2) (
 vF (nilS s0) (fun t17 H3 =>
 vF (fieldAt 144 t17 0) (fun t18 H4 =>
 vF (loadAt 142 t18) (fun t19 H5 =>
 vF (lookup 142 t19 name1 true) (fun t21 H6 =>
 vF (extract t21 0) (fun t22 H7 =>
 vF (extract t21 1) (fun t23 H8 =>
 vF (Op.unary .not t23) (fun t25 H9 =>
 vD t25 (
 R (.tuple #[(.pointer none),(.int .i64 7)]) H9) (
 R (.tuple #[t22,(.int .i64 0)]) H9)) H8) H7) H6) H5) H4) H3) H2)) H1) h

theorem n38_calls{s0 name1:Value}{R:VP}{h:Heap}(H:n38 s0 name1 R h):CallsH Tryz.prog 38 #[s0,name1] h R ⟨⟩ :=
 callsH_of_eq Tryz.follow .l Tryz.func38 kR kR kR H

def n39(r0:Value)(R:VP)(h:Heap):Prop :=
 vF (binS .eql 30 (.tmp 3) (.const (.pointer none)) r0 (.pointer none)) (fun t4 H1 =>
 vJ t4 false (vV r0) (fun t6 H3 =>
 vJ t4 false (vF (nilS t6)) (fun t7 H5 =>
 vJ t4 false (vF (fieldAt 89 t7 0)) (fun t8 H7 =>
 vJ t4 false (vF (loadAt 27 t8)) (fun t9 H9 =>
 vJ t4 false (vF (binS .eql 27 (.tmp 9) (.const (.pointer none)) t9 (.pointer none))) (fun t10 H11 =>
 vF (pickS t4 (.bool true) t10) (fun t11 H12 =>
 R t11 H12) H11) H9) H7) H5) H3) H1) h

theorem n39_calls{r0:Value}{R:VP}{h:Heap}(H:n39 r0 R h):CallsH Tryz.prog 39 #[r0] h R ⟨⟩ :=
 callsH_of_eq Tryz.follow .l Tryz.func39 kR kR kR H

def n40(r0 n1:Value)(R:VP)(h:Heap):Prop :=
 vC 20 #[r0] (fun t17 H1 =>
 vF (pure (.func (.func 44) #[r0] #[])) (fun t19 H2 =>
 JoinN 1 (fun (k:VP) H3 =>
 JoinN 1 (fun (k_1:VP) H4 =>
 LoopC 2 (fun (X:Value->VP)=>fun begin6 i9 H5 =>
 vF (nilS r0) (fun t23 H6 =>
 vF (fieldAt 89 t23 4) (fun t24 H7 =>
 vF (loadAt 2 t24) (fun t25 H8 =>
 vF (vt .quo 2 21 25 t17 t25) (fun t26 H9 =>
 vF (vt .lss 2 20 26 i9 t26) (fun t27 H10 =>
 vD t27 (
 InvokeH Tryz.prog t19 #[i9] H10 (fun t33 H11 =>
 vF (extract t33 0) (fun t34 H12 =>
 vF (extract t33 1) (fun t35 H13 =>
 vF (extract t33 2) (fun t36 H14 =>
 vF (vk .neq 31 37 .i64 0 t36) (fun t38 H15 =>
 vD t38 (
 R (.tuple #[(.int .i64 0),t36]) H15) (
 vF (nilS r0) (fun t41 H16 =>
 vF (fieldAt 89 t41 4) (fun t42 H17 =>
 vF (loadAt 2 t42) (fun t43 H18 =>
 LoopC 2 (fun (X_1:Value->VP)=>fun begin6_1 t44 H19 =>
 vF (vt .lss 2 44 43 t44 t43) (fun t45 H20 =>
 vD t45 (
 JoinN 1 (fun (k_2:VP) H21 =>
 JoinN 1 (fun (k_3:VP) H22 =>
 vF (nilS r0) (fun t49 H23 =>
 vF (fieldAt 89 t49 4) (fun t50 H24 =>
 vF (loadAt 2 t50) (fun t51 H25 =>
 vF (vt .mul 2 47 51 i9 t51) (fun t52 H26 =>
 vF (vt .add 2 52 53 t52 t44) (fun t54 H27 =>
 vF (vk .eql 2 55 .i64 0 t54) (fun t56 H28 =>
 vD t56 (
 k_3 begin6_1 H28) (
 JoinN 1 (fun (k_4:VP) H29 =>
 vF (binS .neq 52 (.tmp 57) (.const (.slice none 0 0)) t34 (.slice none 0 0)) (fun t58 H30 =>
 vD t58 (
 vF (nilS r0) (fun t62 H31 =>
 vF (fieldAt 89 t62 2) (fun t63 H32 =>
 vF (fieldAt 84 t63 5) (fun t64 H33 =>
 vF (loadAt 3 t64) (fun t65 H34 =>
 vC 45 #[t34,t65,t44] (fun t67 H35 =>
 vF (extract t67 0) (fun t68 H36 =>
 vF (extract t67 1) (fun t69 H37 =>
 k_4 t68 H37) H36) H35) H34) H33) H32) H31) H30) (
 k_4 (.int .u64 0) H30)) H29)
 (fun x15 H38 =>
 vF (vk .neq 44 70 .u64 0 x15) (fun t71 H39 =>
 vJ t71 false (vV t34) (fun t73 H41 =>
 vJ t71 false (vF (binS .eql 52 (.tmp 73) (.const (.slice none 0 0)) t73 (.slice none 0 0))) (fun t74 H43 =>
 vJ t71 false (vV t74) (fun t75 H45 =>
 vJ t75 true (vV t44) (fun t76 H47 =>
 vJ t75 true (vF (vk .eql 2 76 .i64 0 t76)) (fun t77 H49 =>
 vJ t71 false (vF (pickS t75 t77 (.bool false))) (fun t78 H51 =>
 vF (pickS t71 (.bool true) t78) (fun t79 H52 =>
 vD t79 (
 vF (vk .add 2 80 .i64 1 t54) (fun t81 H53 =>
 k_3 t81 H53) H52) (
 vF (vt .sub 2 82 83 t54 begin6_1) (fun t84 H54 =>
 vF (vk .add 2 84 .i64 1 t84) (fun t85 H55 =>
 vF (vt .eql 2 85 86 t85 n1) (fun t87 H56 =>
 vD t87 (
 k_1 begin6_1 H56) (
 k_3 begin6_1 H56)) H55) H54) H52)) H51) H49) H47) H45) H43) H41) H39) H38) H28 ⟨⟩ ⟨⟩)) H27) H26) H25) H24) H23) H22)
 (fun begin6_2 H57 =>
 k_2 begin6_2 H57) H21 ⟨⟩ ⟨⟩)
 (fun begin6_3 H58 =>
 vF (vk .add 2 44 .i64 1 t44) (fun t88 H59 =>
 X_1 begin6_3 t88 H59) H58) H20 ⟨⟩ ⟨⟩) (
 vF (vk .add 2 28 .i64 1 i9) (fun t29 H60 =>
 X begin6_1 t29 H60) H20)) H19) [begin6,(.int .i64 0)] H18 ⟨⟩) H17) H16) H15)) H14) H13) H12) H11) ⟨⟩) (
 k_1 begin6 H10)) H9) H8) H7) H6) H5) [(.int .i64 1),(.int .i64 0)] H4 ⟨⟩)
 (fun begin6_4 H61 =>
 k begin6_4 H61) H3 ⟨⟩ ⟨⟩)
 (fun begin6_5 H62 =>
 vF (vt .add 2 89 90 begin6_5 n1) (fun t91 H63 =>
 vF (vt .gtr 2 91 92 t91 t17) (fun t93 H64 =>
 vJ t93 false (vV begin6_5) (fun t95 H66 =>
 vJ t93 false (vV n1) (fun t96 H68 =>
 vJ t93 false (vF (vt .add 2 95 96 t95 t96)) (fun t97 H70 =>
 vJ t93 false (vV r0) (fun t98 H72 =>
 vJ t93 false (vF (nilS t98)) (fun t99 H74 =>
 vJ t93 false (vF (fieldAt 89 t99 3)) (fun t100 H76 =>
 vJ t93 false (vF (loadAt 2 t100)) (fun t101 H78 =>
 vJ t93 false (vF (vt .mul 2 97 101 t97 t101)) (fun t102 H80 =>
 vJ t93 false (vF (vk .gtr 2 102 .i64 268435456 t102)) (fun t103 H82 =>
 vF (pickS t93 (.bool true) t103) (fun t104 H83 =>
 vD t104 (
 R (.tuple #[(.int .i64 0),(.int .i64 6)]) H83) (
 R (.tuple #[begin6_5,(.int .i64 0)]) H83)) H82) H80) H78) H76) H74) H72) H70) H68) H66) H64) H63) H62) H2 ⟨⟩ ⟨⟩) H1) h

theorem n40_calls{r0 n1:Value}{R:VP}{h:Heap}(H:n40 r0 n1 R h):CallsH Tryz.prog 40 #[r0,n1] h R ⟨⟩ :=
 callsH_of_eq Tryz.follow (.n none .l (.n none (.n none .l (.n none .l (.n none .l (.n none .l (.n (some [7]) (.n none .l (.n (some [7]) (.n (some [7,10]) (.n none .l (.n none (.n none (.n none .l (.n none .l (.n none .l (.n none (.n (some [7,45]) (.n none .l (.n none .l (.n (some [7]) (.n (some [7]) (.n none .l (.n none .l (.n none .l (.n none .l (.n (some [16]) .l .l))))) .l) .l))) .l) .l)))) .l) .l)) .l) .l)) .l))))) .l)) Tryz.func40 kR kR kR H

def n41(t0 t1 t2:Value)(R:VP)(h:Heap):Prop :=
 vG (loadAt 30 t0) (fun t4 _ =>
 vG (loadAt 2 t1) (fun t5 _ =>
 vG (loadAt 3 t2) (fun t6 _ =>
 vG (vt .add 2 5 6 t5 t6) (fun t7 _ =>
 vG (loadAt 30 t0) (fun t8 _ =>
 vG (nilS t8) (fun t9 _ =>
 vG (fieldAt 89 t9 3) (fun t10 _ =>
 vG (loadAt 2 t10) (fun t11 _ =>
 vG (vt .mul 2 7 11 t7 t11) (fun t12 _ =>
 vC 19 #[t4,t12] (fun t13 H1 =>
 R t13 H1) h) #[]) h) #[]) #[]) h) #[]) h) h) h

theorem n41_calls{t0 t1 t2:Value}{R:VP}{h:Heap}(H:n41 t0 t1 t2 R h):CallsH Tryz.prog 41 #[t0,t1,t2] h R ⟨⟩ :=
 callsH_of_eq Tryz.follow .l Tryz.func41 kR kR kR H

def n42(t0 t1:Value)(R:VP)(h:Heap):Prop :=
 vF (loadAt 30 t0) (fun t3 H1 =>
 vF (loadAt 47 t1) (fun t4 H2 =>
 vC 15 #[t3,(.int .i64 1),t4] (fun t5 H3 =>
 R t5 H3) H2) H1) h

theorem n42_calls{t0 t1:Value}{R:VP}{h:Heap}(H:n42 t0 t1 R h):CallsH Tryz.prog 42 #[t0,t1] h R ⟨⟩ :=
 callsH_of_eq Tryz.follow .l Tryz.func42 kR kR kR H

def n43(t0:Value)(R:VP)(h:Heap):Prop :=
 vG (loadAt 30 t0) (fun t2 _ =>
 vG (nilS t2) (fun t3 _ =>
 vG (fieldAt 89 t3 0) (fun t4 _ =>
 vG (loadAt 27 t4) (fun t5 _ =>
 vG (loadAt 30 t0) (fun t6 _ =>
 vG (nilS t6) (fun t7 _ =>
 vG (fieldAt 89 t7 1) (fun t8 _ =>
 vG (loadAt 9 t8) (fun t9 _ =>
 vC 31 #[t5,t9] (fun t10 H1 =>
 R t10 H1) h) h) #[]) #[]) h) h) #[]) #[]) h

theorem n43_calls{t0:Value}{R:VP}{h:Heap}(H:n43 t0 R h):CallsH Tryz.prog 43 #[t0] h R ⟨⟩ :=
 callsH_of_eq Tryz.follow .l Tryz.func43 kR kR kR H

def n44(r0 i1:Value)(R:VP)(h:Heap):Prop :=
 vC 91 #[r0,i1] (fun t13 H1 =>
 vF (extract t13 0) (fun t14 H2 =>
 vF (extract t13 1) (fun t15 H3 =>
 vF (vk .neq 31 16 .i64 0 t15) (fun t17 H4 =>
 vJ t17 false (vV t14) (fun t19 H6 =>
 vJ t17 false (vF (vk .eql 2 19 .i64 0 t19)) (fun t20 H8 =>
 vF (pickS t17 (.bool true) t20) (fun t21 H9 =>
 vD t21 (
 R (.tuple #[(.slice none 0 0),(.int .i64 0),t15]) H9) (
 vF (nilS r0) (fun t27 H10 =>
 vF (fieldAt 89 t27 3) (fun t28 H11 =>
 vF (loadAt 2 t28) (fun t29 H12 =>
 vC 92 #[r0,t14,t29] (fun t30 H13 =>
 vF (extract t30 0) (fun t31 H14 =>
 vF (extract t30 1) (fun t32 H15 =>
 R (.tuple #[t31,t14,t32]) H15) H14) H13) H12) H11) H10) H9)) H8) H6) H4) H3) H2) H1) h

theorem n44_calls{r0 i1:Value}{R:VP}{h:Heap}(H:n44 r0 i1 R h):CallsH Tryz.prog 44 #[r0,i1] h R ⟨⟩ :=
 callsH_of_eq Tryz.follow .l Tryz.func44 kR kR kR H

def n45(b0 order1 i2:Value)(R:VP)(h:Heap):Prop :=
 vC 93 #[b0,order1,i2] (fun t14 H1 =>
 vF (extract t14 0) (fun t15 H2 =>
 vF (extract t14 1) (fun t16 H3 =>
 vF (vk .neq 31 17 .i64 0 t16) (fun t18 H4 =>
 vD t18 (
 R (.tuple #[(.int .u64 0),t16]) H4) (
 vC 94 #[b0,t15,i2] (fun t23 H5 =>
 R (.tuple #[t23,(.int .i64 0)]) H5) H4)) H3) H2) H1) h

theorem n45_calls{b0 order1 i2:Value}{R:VP}{h:Heap}(H:n45 b0 order1 i2 R h):CallsH Tryz.prog 45 #[b0,order1,i2] h R ⟨⟩ :=
 callsH_of_eq Tryz.follow .l Tryz.func45 kR kR kR H

def n46(seq0:Value)(R:VP)(h:Heap):Prop :=
 vC 95 #[seq0] (fun t5 H1 =>
 vC 96 #[t5] (fun t7 H2 =>
 R t5 H2) H1) h

theorem n46_calls{seq0:Value}{R:VP}{h:Heap}(H:n46 seq0 R h):CallsH Tryz.prog 46 #[seq0] h R ⟨⟩ :=
 callsH_of_eq Tryz.follow .l Tryz.func46 kR kR kR H

def n47(m0:Value)(R:VP)(h:Heap):Prop :=
 vF (box 104 m0) (fun m1 H1 =>
 vF (pure (.func (.func 97) #[] #[m1])) (fun t3 H2 =>
 R t3 H2) H1) h

theorem n47_calls{m0:Value}{R:VP}{h:Heap}(H:n47 m0 R h):CallsH Tryz.prog 47 #[m0] h R ⟨⟩ :=
 callsH_of_eq Tryz.follow .l Tryz.func47 kR kR kR H

def n48(order0:Value)(R:VP)(h:Heap):Prop :=
 vC 98 #[order0] (fun t6 H1 =>
 vF (vk .eql 3 7 .i64 0 t6) (fun t8 H2 =>
 vD t8 (
 R (.tuple #[(.int .u64 0),(.int .i64 2)]) H2) (
 vF (binS .sub 3 (.const (.int .i64 64)) (.tmp 9) (.int .i64 64) t6) (fun t10 H3 =>
 vF (binS .shr 44 (.const (.int .u64 18446744073709551615)) (.tmp 10) (.int .u64 18446744073709551615) t10) (fun t11 H4 =>
 R (.tuple #[t11,(.int .i64 0)]) H4) H3) H2)) H1) h

theorem n48_calls{order0:Value}{R:VP}{h:Heap}(H:n48 order0 R h):CallsH Tryz.prog 48 #[order0] h R ⟨⟩ :=
 callsH_of_eq Tryz.follow .l Tryz.func48 kR kR kR H

def n49(m0:Value)(R:VP)(h:Heap):Prop :=
 vF (box 110 m0) (fun m1 H1 =>
 vF (pure (.func (.func 99) #[] #[m1])) (fun t3 H2 =>
 R t3 H2) H1) h

theorem n49_calls{m0:Value}{R:VP}{h:Heap}(H:n49 m0 R h):CallsH Tryz.prog 49 #[m0] h R ⟨⟩ :=
 callsH_of_eq Tryz.follow .l Tryz.func49 kR kR kR H

def n50(r0 i1:Value)(R:VP)(h:Heap):Prop :=
 vF (box 30 r0) (fun r2 H1 =>
 vF (box 2 i1) (fun i3 H2 =>
 vG (loadAt 2 i3) (fun t11 _ =>
 vG (loadAt 30 r2) (fun t12 _ =>
 vG (nilS t12) (fun t13 _ =>
 vG (fieldAt 89 t13 4) (fun t14 _ =>
 vG (loadAt 2 t14) (fun t15 _ =>
 vG (vt .mul 2 11 15 t11 t15) (fun t16 _ =>
 vG (loadAt 30 r2) (fun t17 _ =>
 vG (nilS t17) (fun t18 _ =>
 vG (fieldAt 89 t18 3) (fun t19 _ =>
 vG (loadAt 2 t19) (fun t20 _ =>
 vG (vt .mul 2 16 20 t16 t20) (fun t21 _ =>
 vF (alloc 2 true undef) (fun at5 H3=>vG (loadAt 2 t19) (fun u _=>u=t20) H3/\vG (loadAt 30 r2) (fun u _=>u=t17) H3/\vG (loadAt 2 t14) (fun u _=>u=t15) H3/\vG (loadAt 30 r2) (fun u _=>u=t12) H3/\vG (loadAt 2 i3) (fun u _=>u=t11) H3 /\
 vF (storeS 2 at5 t21) (fun _ H4 =>
 vF (loadAt 30 r2) (fun t22 H5 =>
 vF (nilS t22) (fun t23 H6 =>
 vF (fieldAt 89 t23 3) (fun t24 H7 =>
 vF (loadAt 2 t24) (fun t25 H8 =>
 vF (makeSlice 52 t25 t25) (fun t26 H9 =>
 vF (alloc 52 true undef) (fun b6 H10 =>
 vF (storeS 52 b6 t26) (fun _ H11 =>
 vG (loadAt 52 b6) (fun t27 _ =>
 vG (loadAt 30 r2) (fun t28 _ =>
 vG (nilS t28) (fun t29 _ =>
 vG (fieldAt 89 t29 2) (fun t30 _ =>
 vG (fieldAt 84 t30 5) (fun t31 _ =>
 vG (loadAt 3 t31) (fun t32 _ =>
 vC 100 #[t27,t32,(.int .i64 0),(.int .u64 1)] (fun t33 H12 =>
 vF (makeSlice 52 (.int .i64 8) (.int .i64 8)) (fun t34 H13 =>
 vF (alloc 52 true undef) (fun w7 H14 =>
 vF (storeS 52 w7 t34) (fun _ H15 =>
 vF (loadAt 52 w7) (fun t35 H16 =>
 vF (loadAt 2 at5) (fun t36 H17 =>
 vF (convert 2 44 t36) (fun t37 H18 =>
 vC 101 #[t35,(.int .i64 0),(.int .i64 8),t37] (fun t38 H19 =>
 vF (pure (.func (.func 102) #[] #[r2,at5])) (fun t39 H20 =>
 vF (pure (.func (.func 103) #[] #[r2,at5,b6])) (fun t40 H21 =>
 vF (pure (.func (.func 104) #[] #[r2])) (fun t41 H22 =>
 vF (pure (.func (.func 105) #[] #[r2,i3,w7])) (fun t42 H23 =>
 vF (pure (.func (.func 106) #[] #[r2])) (fun t43 H24 =>
 vF (buildSlice 100 5 #[(0,t39),(1,t40),(2,t41),(3,t42),(4,t43)]) (fun t44 H25 =>
 vF (len_ #[100] 3 #[t44]) (fun t45 H26 =>
 LoopC 1 (fun (X:VP)=>fun t46 H27 =>
 vF (vt .lss 3 46 45 t46 t45) (fun t47 H28 =>
 vD t47 (
 vF (indexAt 100 t44 t46) (fun t48 H29 =>
 vF (loadAt 99 t48) (fun t49 H30 =>
 InvokeH Tryz.prog t49 #[] H30 (fun t51 H31 =>
 vF (vk .neq 31 52 .i64 0 t51) (fun t53 H32 =>
 vD t53 (
 R t51 H32) (
 vF (vk .add 3 46 .i64 1 t46) (fun t55 H33 =>
 X t55 H33) H32)) H31) ⟨⟩) H29) H28) (
 R (.int .i64 0) H28)) H27) [(.int .i64 0)] H26 ⟨⟩) H25) H24) H23) H22) H21) H20) H19) H18) H17) H16) H15) H14) H13) H12) H11) H11) #[]) #[]) #[]) H11) H11) H10) H9) H8) H7) H6) H5) H4) H3) H2) #[]) H2) #[]) #[]) H2) #[]) H2) #[]) #[]) H2) H2) H1) h

theorem n50_calls{r0 i1:Value}{R:VP}{h:Heap}(H:n50 r0 i1 R h):CallsH Tryz.prog 50 #[r0,i1] h R ⟨⟩ :=
 callsH_of_eq Tryz.follow (.n none .l (.n none .l (.n none .l (.n none .l (.n none .l (.n none .l (.n none (.n none .l (.n none (.n (some [47]) .l .l) .l)) .l))))))) Tryz.func50 kR kR kR H

def n51(s0:Value)(R:VP)(h:Heap):Prop :=
 vF (binS .eql 52 (.tmp 3) (.const (.slice none 0 0)) s0 (.slice none 0 0)) (fun t4 H1 =>
 vD t4 (
 R (.slice none 0 0) H1) (
 vF (buildSlice 52 0 #[]) (fun t5 H2 =>
 vF (append_ #[52,52] 52 #[t5,s0]) (fun t7 H3 =>
 R t7 H3) H2) H1)) h

theorem n51_calls{s0:Value}{R:VP}{h:Heap}(H:n51 s0 R h):CallsH Tryz.prog 51 #[s0] h R ⟨⟩ :=
 callsH_of_eq Tryz.follow .l Tryz.func51 kR kR kR H

def n52(b0 order1 i2 by3:Value)(R:VP)(h:Heap):Prop :=
 vC 93 #[b0,order1,i2] (fun t19 H1 =>
 vF (extract t19 0) (fun t20 H2 =>
 vF (extract t19 1) (fun t21 H3 =>
 vF (vk .neq 31 22 .i64 0 t21) (fun t23 H4 =>
 vD t23 (
 R (.tuple #[(.int .u64 0),t21]) H4) (
 vG (binS .sub 3 (.const (.int .i64 64)) (.tmp 29) (.int .i64 64) t20) (fun t30 _ =>
 vG (binS .shr 44 (.const (.int .u64 18446744073709551615)) (.tmp 30) (.int .u64 18446744073709551615) t30) (fun t31 _ =>
 vC 94 #[b0,t20,i2] (fun t28 H5 =>
 JoinN 1 (fun (k:VP) H6 =>
 JoinN 1 (fun (k_1:VP) H7 =>
 vF (vk .geq 2 33 .i64 0 by3) (fun t34 H8 =>
 vJ t34 true (vV (.func (.func 107) #[] #[])) (fun t36 H10 =>
 vJ t34 true (vV t31) (fun t37 H12 =>
 vJ t34 true (vV t28) (fun t38 H14 =>
 vJ t34 true (vF (vt .sub 44 37 38 t37 t38)) (fun t39 H16 =>
 vJ t34 true (vV by3) (fun t40 H18 =>
 vJ t34 true (vF (convert 2 44 t40)) (fun t41 H20 =>
 Join1 (fun k_8 H21=>guardP t34 true (InvokeH Tryz.prog t36 #[t39,t41] H21 k_8 ⟨⟩) (k_8 undef H21) ⟨⟩ ⟨⟩) (fun t42 H22 =>
 vF (pickS t34 t42 (.bool false)) (fun t43 H23 =>
 vD t43 (
 vF (convert 2 44 by3) (fun t46 H24 =>
 vF (vt .add 44 44 46 t28 t46) (fun t47 H25 =>
 k_1 t47 H25) H24) H23) (
 vF (vk .lss 2 49 .i64 0 by3) (fun t50 H26 =>
 vJ t50 true (vV (.func (.func 107) #[] #[])) (fun t52 H28 =>
 vJ t50 true (vV t28) (fun t53 H30 =>
 vJ t50 true (vV by3) (fun t54 H32 =>
 vJ t50 true (vF (convert 2 44 t54)) (fun t55 H34 =>
 vJ t50 true (vF (Op.unary .neg t55)) (fun t56 H36 =>
 Join1 (fun k_14 H37=>guardP t50 true (InvokeH Tryz.prog t52 #[t53,t56] H37 k_14 ⟨⟩) (k_14 undef H37) ⟨⟩ ⟨⟩) (fun t57 H38 =>
 vF (pickS t50 t57 (.bool false)) (fun t58 H39 =>
 vD t58 (
 vF (convert 2 44 by3) (fun t61 H40 =>
 vF (Op.unary .neg t61) (fun t62 H41 =>
 vF (vt .sub 44 59 62 t28 t62) (fun t63 H42 =>
 k_1 t63 H42) H41) H40) H39) (
 R (.tuple #[(.int .u64 0),(.int .i64 3)]) H39)) H38) H36 ⟨⟩ ⟨⟩) H34) H32) H30) H28) H26) H23)) H22) H20 ⟨⟩ ⟨⟩) H18) H16) H14) H12) H10) H8) H7)
 (fun x12 H43 =>
 k x12 H43) H6 ⟨⟩ ⟨⟩)
 (fun x12_1 H44 =>
 vC 108 #[b0,t20,i2,x12_1] (fun t68 H45 =>
 R (.tuple #[x12_1,(.int .i64 0)]) H45) H44) H5 ⟨⟩ ⟨⟩) H4) #[]) #[])) H3) H2) H1) h

theorem n52_calls{b0 order1 i2 by3:Value}{R:VP}{h:Heap}(H:n52 b0 order1 i2 by3 R h):CallsH Tryz.prog 52 #[b0,order1,i2,by3] h R ⟨⟩ :=
 callsH_of_eq Tryz.follow (.n none .l (.n none .l (.n none .l (.n none .l (.n none .l (.n (some [13]) (.n (some [13]) .l .l) .l)))))) Tryz.func52 kR kR kR H

end Go.Proofs.YtdccfkffabngjaaGreat

/- Printed by /tmp/tools2/gen.py: the condition of each function,and that a call meets it. -/
import Derived.Test.YtdccfkffabngjaaGreatVcFun
import Derived.Test.YtdccfkffabngjaaGreatProg
import Derived.Test.YtdccfkffabngjaaGreatNiceA
import Derived.Test.YtdccfkffabngjaaGreatNiceB
import Derived.Test.YtdccfkffabngjaaGreatNiceC
import Derived.Test.YtdccfkffabngjaaGreatNiceD
set_option maxRecDepth 100000
set_option linter.unusedVariables false
namespace Go.Proofs.YtdccfkffabngjaaGreat
open Go.Vc Go.Instr Go.Builtin

def n4 (in0:Value) (R:VP) (h:Heap):Prop :=
 vF (box 58 in0) (fun in1 H1 =>
 vG (fieldAt 58 in1 0) (fun t20 _ =>
 vG (loadAt 23 t20) (fun t21 _ =>
 vG (fieldAt 58 in1 1) (fun t22 _ =>
 vG (loadAt 3 t22) (fun t23 _ =>
 vG (fieldAt 58 in1 2) (fun t24 _ =>
 vG (loadAt 3 t24) (fun t25 _ =>
 vG (fieldAt 58 in1 3) (fun t26 _ =>
 vG (loadAt 3 t26) (fun t27 _ =>
 vF (alloc 23 true undef) (fun x3 H2=>vG (loadAt 3 t26) (fun u _=>u=t27) H2∧vG (loadAt 3 t24) (fun u _=>u=t25) H2∧vG (loadAt 3 t22) (fun u _=>u=t23) H2∧vG (loadAt 23 t20) (fun u _=>u=t21) H2 ∧
 vF (storeS 23 x3 t21) (fun _ H3=>vG (loadAt 3 t26) (fun u _=>u=t27) H3∧vG (loadAt 3 t24) (fun u _=>u=t25) H3∧vG (loadAt 3 t22) (fun u _=>u=t23) H3 ∧
 vF (loadAt 23 x3) (fun t29 H4 =>
 vC 8 #[t29,(.slice none 0 0)] (fun t30 H5 =>
 vF (extract t30 0) (fun t31 H6 =>
 vF (extract t30 1) (fun t32 H7 =>
 vF (loadAt 23 x3) (fun t33 H8 =>
 vC 6 #[t33,(.slice none 0 0)] (fun t34 H9 =>
 vJ t34 false (vV t23) (fun t36 H11 =>
 vJ t34 false (vF (vk .lss 3 36 .i64 1 t36)) (fun t37 H13 =>
 vF (pickS t34 (.bool true) t37) (fun t38 H14 =>
 vJ t38 false (vV t23) (fun t40 H16 =>
 vJ t38 false (vF (vk .gtr 3 40 .i64 200 t40)) (fun t41 H18 =>
 vF (pickS t38 (.bool true) t41) (fun t42 H19 =>
 vJ t42 false (vV t25) (fun t44 H21 =>
 vJ t42 false (vF (vk .lss 3 44 .i64 0 t44)) (fun t45 H23 =>
 vF (pickS t42 (.bool true) t45) (fun t46 H24 =>
 vJ t46 false (vV t25) (fun t48 H26 =>
 vJ t46 false (vV t23) (fun t49 H28 =>
 vJ t46 false (vF (vt .geq 3 48 49 t48 t49)) (fun t50 H30 =>
 vF (pickS t46 (.bool true) t50) (fun t51 H31 =>
 vJ t51 false (vV t27) (fun t53 H33 =>
 vJ t51 false (vF (vk .lss 3 53 .i64 1 t53)) (fun t54 H35 =>
 vF (pickS t51 (.bool true) t54) (fun t55 H36 =>
 vJ t55 false (vV t27) (fun t57 H38 =>
 vJ t55 false (vV t23) (fun t58 H40 =>
 vJ t55 false (vV t25) (fun t59 H42 =>
 vJ t55 false (vF (vt .sub 3 58 59 t58 t59)) (fun t60 H44 =>
 vJ t55 false (vF (vt .gtr 3 57 60 t57 t60)) (fun t61 H46 =>
 vF (pickS t55 (.bool true) t61) (fun t62 H47 =>
 vJ t62 false (vV t32) (fun t64 H49 =>
 vJ t62 false (vF (Op.unary .not t64)) (fun t65 H51 =>
 vF (pickS t62 (.bool true) t65) (fun t66 H52 =>
 vD t66 (
 vC 7 #[] (fun t67 H53 =>
 R t67 H53) H52) (
 vC 9 #[t31,(str [97])] (fun t70 H54 =>
 vF (extract t70 0) (fun t71 H55 =>
 vF (extract t70 1) (fun t72 H56 =>
 vF (vk .neq 31 73 .i64 0 t72) (fun t74 H57 =>
 vD t74 (
 R (.bool false) H57) (
 vC 12 #[t71,t23] (fun t78 H58 =>
 vF (extract t78 0) (fun t79 H59 =>
 vF (extract t78 1) (fun t80 H60 =>
 vF (vk .eql 31 81 .i64 6 t80) (fun t82 H61 =>
 vD t82 (
 vC 7 #[] (fun t83 H62 =>
 R t83 H62) H61) (
 vF (fieldAt 23 x3 0) (fun t84 H63 =>
 vF (loadAt 3 t84) (fun t85 H64 =>
 vF (binS .shl 2 (.const (.int .i64 1)) (.tmp 85) (.int .i64 1) t85) (fun t86 H65 =>
 vC 18 #[t31] (fun t88 H66 =>
 vG (vk .neq 31 89 .i64 0 t80) (fun t90 _ =>
 vJ t90 false (vV t79) (fun t92 _ =>
 vJ t90 false (vG (vk .leq 2 92 .i64 0 t92)) (fun t93 _ =>
 vG (pickS t90 (.bool true) t93) (fun t94 _ =>
 vJ t94 false (vV t79) (fun t96 _ =>
 vJ t94 false (vV t86) (fun t97 _ =>
 vJ t94 false (vG (vt .rem 2 96 97 t96 t97)) (fun t98 _ =>
 vJ t94 false (vG (vk .neq 2 98 .i64 0 t98)) (fun t99 _ =>
 vG (pickS t94 (.bool true) t99) (fun t100 _ =>
 vJ t100 false (vV t31) (fun t102 _ =>
 vJ t100 false (vC 22 #[t102]) (fun t103 H75 =>
 vJ t100 false (vG (vk .neq 3 103 .i64 0 t103)) (fun t104 _ =>
 vG (pickS t100 (.bool true) t104) (fun t105 _ =>
 vJ t105 false (vV t79) (fun t107 _ =>
 vJ t105 false (vV t86) (fun t108 _ =>
 vJ t105 false (vG (vt .quo 2 107 108 t107 t108)) (fun t109 _ =>
 vJ t105 false (vV t23) (fun t110 _ =>
 vJ t105 false (vG (vt .add 2 109 110 t109 t110)) (fun t111 _ =>
 vJ t105 false (vV t88) (fun t112 _ =>
 vJ t105 false (vG (len_ #[52] 3 #[t112])) (fun t113 _ =>
 vJ t105 false (vV t86) (fun t114 _ =>
 vJ t105 false (vG (vt .quo 2 113 114 t113 t114)) (fun t115 _ =>
 vJ t105 false (vG (vt .gtr 2 111 115 t111 t115)) (fun t116 _ =>
 vG (pickS t105 (.bool true) t116) (fun t117 _ =>
 vD t117 (
 R (.bool false) H75) (
 LoopC 1 (fun (X:VP)=>fun k15 H87 =>
 vF (vt .lss 2 118 119 k15 t23) (fun t120 H88 =>
 vD t120 (
 vF (vt .quo 2 124 125 t79 t86) (fun t126 H89 =>
 vF (vt .add 2 126 127 t126 k15) (fun t128 H90 =>
 vC 23 #[t88,t128] (fun t129 H91 =>
 vF (vk .neq 44 129 .u64 1 t129) (fun t130 H92 =>
 vD t130 (
 R (.bool false) H92) (
 vF (vk .add 2 121 .i64 1 k15) (fun t122 H93 =>
 X t122 H93) H92)) H91) H90) H89) H88) (
 vF (vt .mul 2 133 134 t25 t86) (fun t135 H94 =>
 vF (vt .add 2 132 135 t79 t135) (fun t136 H95 =>
 vC 16 #[t71,t136,t27] (fun t138 H96 =>
 vF (vk .neq 31 138 .i64 0 t138) (fun t139 H97 =>
 vD t139 (
 R (.bool false) H97) (
 vC 18 #[t31] (fun t141 H98 =>
 LoopC 1 (fun (X_1:VP)=>fun k16 H99 =>
 vF (vt .lss 2 142 143 k16 t23) (fun t144 H100 =>
 vD t144 (
 vF (vt .geq 2 147 148 k16 t25) (fun t149 H101 =>
 vJ t149 true (vV k16) (fun t151 H103 =>
 vJ t149 true (vV t25) (fun t152 H105 =>
 vJ t149 true (vV t27) (fun t153 H107 =>
 vJ t149 true (vF (vt .add 3 152 153 t152 t153)) (fun t154 H109 =>
 vJ t149 true (vF (vt .lss 2 151 154 t151 t154)) (fun t155 H111 =>
 vF (pickS t149 t155 (.bool false)) (fun t156 H112 =>
 vF (vt .quo 2 158 159 t79 t86) (fun t160 H113 =>
 vF (vt .add 2 160 161 t160 k16) (fun t162 H114 =>
 vC 23 #[t141,t162] (fun t163 H115 =>
 vF (vk .eql 44 163 .u64 0 t163) (fun t164 H116 =>
 vF (vt .neq 4 164 165 t164 t156) (fun t166 H117 =>
 vD t166 (
 R (.bool false) H117) (
 vF (vk .add 2 145 .i64 1 k16) (fun t146 H118 =>
 X_1 t146 H118) H117)) H116) H115) H114) H113) H112) H111) H109) H107) H105) H103) H101) H100) (
 vC 16 #[t71,t79,t23] (fun t170 H119 =>
 vG (vk .neq 31 170 .i64 9 t170) (fun t171 _ =>
 vJ t171 false (vV t31) (fun t173 _ =>
 vJ t171 false (vV t141) (fun t176 _ =>
 vJ t171 false (vG (convert 52 9 t176)) (fun t177 _ =>
 vJ t171 false (vC 18 #[t173]) (fun t174 H124=>vJ t171 false (vG (convert 52 9 t176)) (fun u _=>u=t177) H124 ∧
 vJ t171 false (vG (convert 52 9 t174)) (fun t175 _ =>
 vJ t171 false (vG (vt .neq 9 175 177 t175 t177)) (fun t178 _ =>
 vG (pickS t171 (.bool true) t178) (fun t179 _ =>
 vD t179 (
 R (.bool false) H124) (
 vC 24 #[t141] (fun t182 H127 =>
 vF (extract t182 0) (fun t183 H128 =>
 vF (extract t182 1) (fun t184 H129 =>
 vF (alloc 63 true undef) (fun y18 H130 =>
 vF (storeS 63 y18 t183) (fun _ H131 =>
 vF (vk .eql 3 185 .i64 0 t184) (fun t186 H132 =>
 vJ t186 true (vF (fieldAt 63 y18 1)) (fun t188 H134 =>
 vJ t186 true (vF (loadAt 4 t188)) (fun t189 H136 =>
 vJ t186 true (vF (Op.unary .not t189)) (fun t190 H138 =>
 vF (pickS t186 t190 (.bool false)) (fun t191 H139 =>
 vJ t191 true (vF (fieldAt 63 y18 0)) (fun t193 H141 =>
 vJ t191 true (vF (loadAt 61 t193)) (fun t194 H143 =>
 vJ t191 true (vF (len_ #[61] 3 #[t194])) (fun t195 H145 =>
 vJ t191 true (vV t23) (fun t196 H147 =>
 vJ t191 true (vV t27) (fun t197 H149 =>
 vJ t191 true (vF (vt .sub 3 196 197 t196 t197)) (fun t198 H151 =>
 vJ t191 true (vF (vt .geq 3 195 198 t195 t198)) (fun t199 H153 =>
 vF (pickS t191 t199 (.bool false)) (fun t200 H154 =>
 vJ t200 true (vC 7 #[]) (fun t202 H156 =>
 vF (pickS t200 t202 (.bool false)) (fun t203 H157 =>
 R t203 H157) H156) H154) H153) H151) H149) H147) H145) H143) H141) H139) H138) H136) H134) H132) H131) H130) H129) H128) H127) H124)) #[]) #[]) H124) H119) H119) #[]) #[]) #[]) H100)) H99) [(.int .i64 0)] H98 ⟨⟩) H97)) H96) H95) H94) H88)) H87) [(.int .i64 0)] H75 ⟨⟩)) #[]) #[]) #[]) #[]) #[]) #[]) #[]) #[]) #[]) #[]) #[]) #[]) #[]) H66) #[]) #[]) #[]) #[]) #[]) #[]) #[]) #[]) #[]) #[]) H65) H64) H63) H61)) H60) H59) H58) H57)) H56) H55) H54) H52)) H51) H49) H47) H46) H44) H42) H40) H38) H36) H35) H33) H31) H30) H28) H26) H24) H23) H21) H19) H18) H16) H14) H13) H11) H9) H8) H7) H6) H5) H4) H3) H2) H1) H1) #[]) H1) #[]) H1) #[]) H1) #[]) h

theorem n4_calls {in0:Value} {R:VP} {h:Heap} (H:n4 in0 R h):CallsH Tryz.prog 4 #[in0] h R ⟨⟩ :=
 callsH_of_eq Tryz.follow (.n none .l (.n none .l (.n none .l (.n none .l (.n none .l (.n none .l (.n none .l (.n none .l (.n none .l (.n none .l (.n none .l (.n none (.n none .l (.n none (.n (some [16]) .l .l) .l)) (.n none .l (.n none .l (.n none (.n none .l (.n none (.n (some [17]) .l .l) .l)) .l))))))))))))))) Tryz.func4 kR kR kR H

def n6 (x0 l1:Value) (R:VP) (h:Heap):Prop :=
 vF (box 23 x0) (fun x2 H1 =>
 vF (len_ #[24] 3 #[l1]) (fun t7 H2 =>
 vF (vk .gtr 3 7 .i64 60 t7) (fun t8 H3 =>
 vJ t8 false (vF (fieldAt 23 x2 0)) (fun t10 H5 =>
 vJ t8 false (vF (loadAt 3 t10)) (fun t11 H7 =>
 vJ t8 false (vF (vk .gtr 3 11 .i64 12 t11)) (fun t12 H9 =>
 vF (pickS t8 (.bool true) t12) (fun t13 H10 =>
 vJ t13 false (vF (fieldAt 23 x2 3)) (fun t15 H12 =>
 vJ t13 false (vF (loadAt 2 t15)) (fun t16 H14 =>
 vJ t13 false (vF (vk .gtr 2 16 .i64 262144 t16)) (fun t17 H16 =>
 vF (pickS t13 (.bool true) t17) (fun t18 H17 =>
 vD t18 (
 R (.bool true) H17) (
 LoopC 1 (fun (X:VP)=>fun i5 H18 =>
 vF (len_ #[24] 3 #[l1]) (fun t21 H19 =>
 vF (vt .lss 3 19 21 i5 t21) (fun t22 H20 =>
 vD t22 (
 vF (indexAt 24 l1 i5) (fun t27 H21 =>
 vF (fieldAt 37 t27 1) (fun t28 H22 =>
 vF (loadAt 3 t28) (fun t29 H23 =>
 vF (vk .gtr 3 29 .i64 200 t29) (fun t30 H24 =>
 vJ t30 false (vV l1) (fun t32 H26 =>
 vJ t30 false (vV i5) (fun t33 H28 =>
 vJ t30 false (vF (indexAt 24 t32 t33)) (fun t34 H30 =>
 vJ t30 false (vF (fieldAt 37 t34 0)) (fun t35 H32 =>
 vJ t30 false (vF (loadAt 3 t35)) (fun t36 H34 =>
 vJ t30 false (vF (vk .eql 3 36 .i64 7 t36)) (fun t37 H36 =>
 vJ t30 false (vV t37) (fun t38 H38 =>
 vJ t38 true (vV l1) (fun t39 H40 =>
 vJ t38 true (vV i5) (fun t40 H42 =>
 vJ t38 true (vF (indexAt 24 t39 t40)) (fun t41 H44 =>
 vJ t38 true (vF (fieldAt 37 t41 2)) (fun t42 H46 =>
 vJ t38 true (vF (loadAt 2 t42)) (fun t43 H48 =>
 vJ t38 true (vF (vk .gtr 2 43 .i64 4194304 t43)) (fun t44 H50 =>
 vJ t30 false (vF (pickS t38 t44 (.bool false))) (fun t45 H52 =>
 vF (pickS t30 (.bool true) t45) (fun t46 H53 =>
 vD t46 (
 R (.bool true) H53) (
 vF (vk .add 3 23 .i64 1 i5) (fun t24 H54 =>
 X t24 H54) H53)) H52) H50) H48) H46) H44) H42) H40) H38) H36) H34) H32) H30) H28) H26) H24) H23) H22) H21) H20) (
 R (.bool false) H20)) H19) H18) [(.int .i64 0)] H17 ⟨⟩)) H16) H14) H12) H10) H9) H7) H5) H3) H2) H1) h

theorem n6_calls {x0 l1:Value} {R:VP} {h:Heap} (H:n6 x0 l1 R h):CallsH Tryz.prog 6 #[x0,l1] h R ⟨⟩ :=
 callsH_of_eq Tryz.follow (.n none .l (.n none .l (.n none (.n none .l (.n none (.n (some [6]) .l .l) .l)) .l))) Tryz.func6 kR kR kR H

def n7 (R:VP) (h:Heap):Prop :=
 vF (build 23 #[(0,(.int .i64 9)),(1,(.int .i64 4)),(2,(.int .i64 1)),(3,(.int .i64 1024))]) (fun t15 H1 =>
 vC 8 #[t15,(.slice none 0 0)] (fun t16 H2 =>
 vF (extract t16 0) (fun t17 H3 =>
 vF (extract t16 1) (fun t18 H4 =>
 vC 9 #[t17,(str [97])] (fun t21 H5 =>
 vF (extract t21 0) (fun t22 H6 =>
 vF (extract t21 1) (fun t23 H7 =>
 vC 12 #[t22,(.int .i64 2)] (fun t26 H8 =>
 vF (extract t26 0) (fun t27 H9 =>
 vF (extract t26 1) (fun t28 H10 =>
 vF (vk .quo 2 31 .i64 512 t27) (fun t32 H11 =>
 vC 14 #[t22,t32] (fun t33 H12 =>
 vF (extract t33 0) (fun t34 H13 =>
 vF (extract t33 1) (fun t35 H14 =>
 vC 16 #[t22,t27,(.int .i64 2)] (fun t38 H15 =>
 vF (vk .quo 2 41 .i64 512 t27) (fun t42 H16 =>
 vC 14 #[t22,t42] (fun t43 H17 =>
 vF (extract t43 0) (fun t44 H18 =>
 vF (extract t43 1) (fun t45 H19 =>
 vC 9 #[(.pointer none),(str [97])] (fun t47 H20 =>
 vF (extract t47 0) (fun t48 H21 =>
 vF (extract t47 1) (fun t49 H22 =>
 vJ t18 true (vV t23) (fun t52 H24 =>
 vJ t18 true (vF (vk .eql 31 52 .i64 0 t52)) (fun t53 H26 =>
 vF (pickS t18 t53 (.bool false)) (fun t54 H27 =>
 vJ t54 true (vV t27) (fun t56 H29 =>
 vJ t54 true (vF (vk .gtr 2 56 .i64 0 t56)) (fun t57 H31 =>
 vF (pickS t54 t57 (.bool false)) (fun t58 H32 =>
 vJ t58 true (vV t27) (fun t60 H34 =>
 vJ t58 true (vF (vk .rem 2 60 .i64 512 t60)) (fun t61 H36 =>
 vJ t58 true (vF (vk .eql 2 61 .i64 0 t61)) (fun t62 H38 =>
 vF (pickS t58 t62 (.bool false)) (fun t63 H39 =>
 vJ t63 true (vV t28) (fun t65 H41 =>
 vJ t63 true (vF (vk .eql 31 65 .i64 0 t65)) (fun t66 H43 =>
 vF (pickS t63 t66 (.bool false)) (fun t67 H44 =>
 vJ t67 true (vV t34) (fun t69 H46 =>
 vJ t67 true (vF (vk .eql 44 69 .u64 1 t69)) (fun t70 H48 =>
 vF (pickS t67 t70 (.bool false)) (fun t71 H49 =>
 vJ t71 true (vV t35) (fun t73 H51 =>
 vJ t71 true (vF (vk .eql 31 73 .i64 0 t73)) (fun t74 H53 =>
 vF (pickS t71 t74 (.bool false)) (fun t75 H54 =>
 vJ t75 true (vV t38) (fun t77 H56 =>
 vJ t75 true (vF (vk .eql 31 77 .i64 0 t77)) (fun t78 H58 =>
 vF (pickS t75 t78 (.bool false)) (fun t79 H59 =>
 vJ t79 true (vV t44) (fun t81 H61 =>
 vJ t79 true (vF (vk .eql 44 81 .u64 0 t81)) (fun t82 H63 =>
 vF (pickS t79 t82 (.bool false)) (fun t83 H64 =>
 vJ t83 true (vV t45) (fun t85 H66 =>
 vJ t83 true (vF (vk .eql 31 85 .i64 0 t85)) (fun t86 H68 =>
 vF (pickS t83 t86 (.bool false)) (fun t87 H69 =>
 vJ t87 true (vV t49) (fun t89 H71 =>
 vJ t87 true (vF (vk .eql 31 89 .i64 1 t89)) (fun t90 H73 =>
 vF (pickS t87 t90 (.bool false)) (fun t91 H74 =>
 R t91 H74) H73) H71) H69) H68) H66) H64) H63) H61) H59) H58) H56) H54) H53) H51) H49) H48) H46) H44) H43) H41) H39) H38) H36) H34) H32) H31) H29) H27) H26) H24) H22) H21) H20) H19) H18) H17) H16) H15) H14) H13) H12) H11) H10) H9) H8) H7) H6) H5) H4) H3) H2) H1) h

theorem n7_calls {R:VP} {h:Heap} (H:n7  R h):CallsH Tryz.prog 7 #[] h R ⟨⟩ :=
 callsH_of_eq Tryz.follow .l Tryz.func7 kR kR kR H

end Go.Proofs.YtdccfkffabngjaaGreat

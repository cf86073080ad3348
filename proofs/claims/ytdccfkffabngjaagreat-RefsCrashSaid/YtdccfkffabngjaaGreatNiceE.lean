/- Printed by /tmp/tools2/gen.py: the condition of each function,and that a call meets it. -/
import Derived.Test.YtdccfkffabngjaaGreatVcFun
import Derived.Test.YtdccfkffabngjaaGreatProg
import Derived.Test.YtdccfkffabngjaaGreatNiceA
import Derived.Test.YtdccfkffabngjaaGreatNiceB
import Derived.Test.YtdccfkffabngjaaGreatNiceC
import Derived.Test.YtdccfkffabngjaaGreatNiceD
set_option maxRecDepth 100000
set_option linter.unusedVariables false
namespace Go.Proofs.YtdccfkffabngjaaGreat
open Go.Vc Go.Instr Go.Builtin

def n5(in0:Value)(R:VP)(h:Heap):Prop :=
 vF (box 70 in0) (fun in1 H1 =>
 vG (fieldAt 70 in1 0) (fun t19 _ =>
 vG (loadAt 23 t19) (fun t20 _ =>
 vG (fieldAt 70 in1 1) (fun t21 _ =>
 vG (loadAt 67 t21) (fun t22 _ =>
 vG (fieldAt 70 in1 2) (fun t23 _ =>
 vG (loadAt 24 t23) (fun t24 _ =>
 vG (fieldAt 70 in1 3) (fun t25 _ =>
 vG (loadAt 68 t25) (fun t26 _ =>
 vF (alloc 23 true undef) (fun x3 H2=>vG (loadAt 68 t25) (fun u _=>u=t26) H2/\vG (loadAt 24 t23) (fun u _=>u=t24) H2/\vG (loadAt 67 t21) (fun u _=>u=t22) H2/\vG (loadAt 23 t19) (fun u _=>u=t20) H2 /\
 vF (storeS 23 x3 t20) (fun _ H3=>vG (loadAt 68 t25) (fun u _=>u=t26) H3/\vG (loadAt 24 t23) (fun u _=>u=t24) H3/\vG (loadAt 67 t21) (fun u _=>u=t22) H3 /\
 vF (loadAt 23 x3) (fun t27 H4 =>
 vC 6 #[t27,t24] (fun t29 H5 =>
 vJ t29 false (vV t22) (fun t31 H7 =>
 vJ t29 false (vF (len_ #[67] 3 #[t31])) (fun t32 H9 =>
 vJ t29 false (vF (vk .gtr 3 32 .i64 60 t32)) (fun t33 H11 =>
 vF (pickS t29 (.bool true) t33) (fun t34 H12 =>
 vJ t34 false (vV t26) (fun t36 H14 =>
 vJ t34 false (vF (len_ #[68] 3 #[t36])) (fun t37 H16 =>
 vJ t34 false (vF (vk .gtr 3 37 .i64 300 t37)) (fun t38 H18 =>
 vF (pickS t34 (.bool true) t38) (fun t39 H19 =>
 vJ t39 false (vV t22) (fun t41 H21 =>
 vJ t39 false (vC 25 #[t41]) (fun t42 H23 =>
 vJ t39 false (vF (Op.unary .not t42)) (fun t43 H25 =>
 vF (pickS t39 (.bool true) t43) (fun t44 H26 =>
 vD t44 (
 vC 7 #[] (fun t45 H27 =>
 R t45 H27) H26) (
 vF (loadAt 23 x3) (fun t47 H28 =>
 vC 8 #[t47,t22] (fun t49 H29 =>
 vF (extract t49 0) (fun t50 H30 =>
 vF (extract t49 1) (fun t51 H31 =>
 vF (Op.unary .not t51) (fun t53 H32 =>
 vD t53 (
 vC 7 #[] (fun t54 H33 =>
 R t54 H33) H32) (
 vC 9 #[t50,(str [97])] (fun t57 H34 =>
 vF (extract t57 0) (fun t58 H35 =>
 vF (extract t57 1) (fun t59 H36 =>
 vF (vk .neq 31 60 .i64 0 t59) (fun t61 H37 =>
 vD t61 (
 R (.bool false) H37) (
 vF (fieldAt 23 x3 0) (fun t62 H38 =>
 vF (loadAt 3 t62) (fun t63 H39 =>
 vF (binS .shl 2 (.const (.int .i64 1)) (.tmp 63) (.int .i64 1) t63) (fun t64 H40 =>
 JoinN 1 (fun (k_9:VP) H41 =>
 JoinN 1 (fun (k_10:VP) H42 =>
 LoopC 2 (fun (X:Value->VP)=>fun mine12 i13 H43 =>
 vF (len_ #[24] 3 #[t24]) (fun t67 H44 =>
 vF (vt .lss 3 65 67 i13 t67) (fun t68 H45 =>
 vD t68 (
 vF (indexAt 24 t24 i13) (fun t73 H46 =>
 vF (loadAt 37 t73) (fun t74 H47 =>
 vF (alloc 37 true undef) (fun t14 H48 =>
 vF (storeS 37 t14 t74) (fun _ H49 =>
 JoinN 2 (fun (k_11:Value->VP) H50 =>
 vF (fieldAt 37 t14 0) (fun t75 H51 =>
 vF (loadAt 3 t75) (fun t76 H52 =>
 vF (vk .eql 3 76 .i64 1 t76) (fun t77 H53 =>
 vJ t77 true (vF (fieldAt 37 t14 1)) (fun t79 H55 =>
 vJ t77 true (vF (loadAt 3 t79)) (fun t80 H57 =>
 vJ t77 true (vF (vk .geq 3 80 .i64 1 t80)) (fun t81 H59 =>
 vF (pickS t77 t81 (.bool false)) (fun t82 H60 =>
 vD t82 (
 vF (fieldAt 37 t14 1) (fun t85 H61 =>
 vF (loadAt 3 t85) (fun t86 H62 =>
 vC 12 #[t58,t86] (fun t87 H63 =>
 vF (extract t87 0) (fun t88 H64 =>
 vF (extract t87 1) (fun t89 H65 =>
 vF (vk .eql 31 90 .i64 0 t89) (fun t91 H66 =>
 vD t91 (
 vF (fieldAt 37 t14 1) (fun t94 H67 =>
 vF (loadAt 3 t94) (fun t95 H68 =>
 vF (build 42 #[(0,t88),(1,t95)]) (fun t96 H69 =>
 vF (buildSlice 35 1 #[(0,t96)]) (fun t97 H70 =>
 vF (append_ #[35,35] 35 #[mine12,t97]) (fun t98 H71 =>
 k_11 t98 t89 H71) H70) H69) H68) H67) H66) (
 k_11 mine12 t89 H66)) H65) H64) H63) H62) H61) H60) (
 vF (len_ #[35] 3 #[mine12]) (fun t100 H72 =>
 vF (vk .gtr 3 100 .i64 0 t100) (fun t101 H73 =>
 vD t101 (
 vF (len_ #[35] 3 #[mine12]) (fun t105 H74 =>
 vF (vk .sub 3 105 .i64 1 t105) (fun t106 H75 =>
 vF (indexAt 35 mine12 t106) (fun t107 H76 =>
 vF (fieldAt 42 t107 0) (fun t108 H77 =>
 vF (loadAt 2 t108) (fun t109 H78 =>
 vF (vt .quo 2 109 110 t109 t64) (fun t111 H79 =>
 vF (buildSlice 47 1 #[(0,t111)]) (fun t112 H80 =>
 vC 15 #[t58,(.int .i64 1),t112] (fun t113 H81 =>
 k_11 mine12 t113 H81) H80) H79) H78) H77) H76) H75) H74) H73) (
 k_11 mine12 (.int .i64 0) H73)) H72) H60)) H59) H57) H55) H53) H52) H51) H50)
 (fun mine12_1 f15 H82 =>
 vF (vk .eql 31 114 .i64 5 f15) (fun t115 H83 =>
 vD t115 (
 k_10 mine12_1 H83) (
 vF (vk .add 3 69 .i64 1 i13) (fun t70 H84 =>
 X mine12_1 t70 H84) H83)) H82) H49 ⟨⟩ ⟨⟩) H48) H47) H46) H45) (
 k_10 mine12 H45)) H44) H43) [(.slice none 0 0),(.int .i64 0)] H42 ⟨⟩)
 (fun mine12_2 H85 =>
 k_9 mine12_2 H85) H41 ⟨⟩ ⟨⟩)
 (fun mine12_3 H86 =>
 vC 26 #[t50,t26] (fun t119 H87 =>
 vF (extract t119 0) (fun t120 H88 =>
 vF (extract t119 1) (fun t121 H89 =>
 vF (vk .neq 31 122 .i64 0 t121) (fun t123 H90 =>
 vD t123 (
 vC 7 #[] (fun t124 H91 =>
 R t124 H91) H90) (
 vC 18 #[t50] (fun t126 H92 =>
 vC 21 #[t126,mine12_3,t64] (fun t129 H93 =>
 vJ t129 true (vV t120) (fun t131 H95 =>
 vJ t129 true (vC 18 #[t131]) (fun t132 H97 =>
 vJ t129 true (vV mine12_3) (fun t133 H99 =>
 vJ t129 true (vV t64) (fun t134 H101 =>
 vJ t129 true (vC 21 #[t132,t133,t134]) (fun t135 H103 =>
 vF (pickS t129 t135 (.bool false)) (fun t136 H104 =>
 vJ t136 true (vC 7 #[]) (fun t138 H106 =>
 vF (pickS t136 t138 (.bool false)) (fun t139 H107 =>
 R t139 H107) H106) H104) H103) H101) H99) H97) H95) H93) H92) H90)) H89) H88) H87) H86) H40 ⟨⟩ ⟨⟩) H39) H38) H37)) H36) H35) H34) H32)) H31) H30) H29) H28) H26)) H25) H23) H21) H19) H18) H16) H14) H12) H11) H9) H7) H5) H4) H3) H2) H1) H1) #[]) H1) #[]) H1) #[]) H1) #[]) h

theorem n5_calls{in0:Value}{R:VP}{h:Heap}(H:n5 in0 R h):CallsH Tryz.prog 5 #[in0] h R ⟨⟩ :=
 callsH_of_eq Tryz.follow (.n none .l (.n none .l (.n none .l (.n none .l (.n none .l (.n none .l (.n none .l (.n none .l (.n none .l (.n (some [13]) (.n none .l (.n (some [13]) (.n (some [13,14]) (.n none .l (.n none (.n none (.n none .l (.n none .l (.n (some [13,16]) .l .l))) .l) .l)) .l) .l)) .l)))))))))) Tryz.func5 kR kR kR H

def n6(x0 l1:Value)(R:VP)(h:Heap):Prop :=
 vF (box 23 x0) (fun x2 H1 =>
 vF (len_ #[24] 3 #[l1]) (fun t7 H2 =>
 vF (vk .gtr 3 7 .i64 60 t7) (fun t8 H3 =>
 vJ t8 false (vF (fieldAt 23 x2 0)) (fun t10 H5 =>
 vJ t8 false (vF (loadAt 3 t10)) (fun t11 H7 =>
 vJ t8 false (vF (vk .gtr 3 11 .i64 12 t11)) (fun t12 H9 =>
 vF (pickS t8 (.bool true) t12) (fun t13 H10 =>
 vJ t13 false (vF (fieldAt 23 x2 3)) (fun t15 H12 =>
 vJ t13 false (vF (loadAt 2 t15)) (fun t16 H14 =>
 vJ t13 false (vF (vk .gtr 2 16 .i64 262144 t16)) (fun t17 H16 =>
 vF (pickS t13 (.bool true) t17) (fun t18 H17 =>
 vD t18 (
 R (.bool true) H17) (
 LoopC 1 (fun (X:VP)=>fun i5 H18 =>
 vF (len_ #[24] 3 #[l1]) (fun t21 H19 =>
 vF (vt .lss 3 19 21 i5 t21) (fun t22 H20 =>
 vD t22 (
 vF (indexAt 24 l1 i5) (fun t27 H21 =>
 vF (fieldAt 37 t27 1) (fun t28 H22 =>
 vF (loadAt 3 t28) (fun t29 H23 =>
 vF (vk .gtr 3 29 .i64 200 t29) (fun t30 H24 =>
 vJ t30 false (vV l1) (fun t32 H26 =>
 vJ t30 false (vV i5) (fun t33 H28 =>
 vJ t30 false (vF (indexAt 24 t32 t33)) (fun t34 H30 =>
 vJ t30 false (vF (fieldAt 37 t34 0)) (fun t35 H32 =>
 vJ t30 false (vF (loadAt 3 t35)) (fun t36 H34 =>
 vJ t30 false (vF (vk .eql 3 36 .i64 7 t36)) (fun t37 H36 =>
 vJ t30 false (vV t37) (fun t38 H38 =>
 vJ t38 true (vV l1) (fun t39 H40 =>
 vJ t38 true (vV i5) (fun t40 H42 =>
 vJ t38 true (vF (indexAt 24 t39 t40)) (fun t41 H44 =>
 vJ t38 true (vF (fieldAt 37 t41 2)) (fun t42 H46 =>
 vJ t38 true (vF (loadAt 2 t42)) (fun t43 H48 =>
 vJ t38 true (vF (vk .gtr 2 43 .i64 4194304 t43)) (fun t44 H50 =>
 vJ t30 false (vF (pickS t38 t44 (.bool false))) (fun t45 H52 =>
 vF (pickS t30 (.bool true) t45) (fun t46 H53 =>
 vD t46 (
 R (.bool true) H53) (
 vF (vk .add 3 23 .i64 1 i5) (fun t24 H54 =>
 X t24 H54) H53)) H52) H50) H48) H46) H44) H42) H40) H38) H36) H34) H32) H30) H28) H26) H24) H23) H22) H21) H20) (
 R (.bool false) H20)) H19) H18) [(.int .i64 0)] H17 ⟨⟩)) H16) H14) H12) H10) H9) H7) H5) H3) H2) H1) h

theorem n6_calls{x0 l1:Value}{R:VP}{h:Heap}(H:n6 x0 l1 R h):CallsH Tryz.prog 6 #[x0,l1] h R ⟨⟩ :=
 callsH_of_eq Tryz.follow (.n none .l (.n none .l (.n none (.n none .l (.n none (.n (some [6]) .l .l) .l)) .l))) Tryz.func6 kR kR kR H

def n7(R:VP)(h:Heap):Prop :=
 vF (build 23 #[(0,(.int .i64 9)),(1,(.int .i64 4)),(2,(.int .i64 1)),(3,(.int .i64 1024))]) (fun t15 H1 =>
 vC 8 #[t15,(.slice none 0 0)] (fun t16 H2 =>
 vF (extract t16 0) (fun t17 H3 =>
 vF (extract t16 1) (fun t18 H4 =>
 vC 9 #[t17,(str [97])] (fun t21 H5 =>
 vF (extract t21 0) (fun t22 H6 =>
 vF (extract t21 1) (fun t23 H7 =>
 vC 12 #[t22,(.int .i64 2)] (fun t26 H8 =>
 vF (extract t26 0) (fun t27 H9 =>
 vF (extract t26 1) (fun t28 H10 =>
 vF (vk .quo 2 31 .i64 512 t27) (fun t32 H11 =>
 vC 14 #[t22,t32] (fun t33 H12 =>
 vF (extract t33 0) (fun t34 H13 =>
 vF (extract t33 1) (fun t35 H14 =>
 vC 16 #[t22,t27,(.int .i64 2)] (fun t38 H15 =>
 vF (vk .quo 2 41 .i64 512 t27) (fun t42 H16 =>
 vC 14 #[t22,t42] (fun t43 H17 =>
 vF (extract t43 0) (fun t44 H18 =>
 vF (extract t43 1) (fun t45 H19 =>
 vC 9 #[(.pointer none),(str [97])] (fun t47 H20 =>
 vF (extract t47 0) (fun t48 H21 =>
 vF (extract t47 1) (fun t49 H22 =>
 vJ t18 true (vV t23) (fun t52 H24 =>
 vJ t18 true (vF (vk .eql 31 52 .i64 0 t52)) (fun t53 H26 =>
 vF (pickS t18 t53 (.bool false)) (fun t54 H27 =>
 vJ t54 true (vV t27) (fun t56 H29 =>
 vJ t54 true (vF (vk .gtr 2 56 .i64 0 t56)) (fun t57 H31 =>
 vF (pickS t54 t57 (.bool false)) (fun t58 H32 =>
 vJ t58 true (vV t27) (fun t60 H34 =>
 vJ t58 true (vF (vk .rem 2 60 .i64 512 t60)) (fun t61 H36 =>
 vJ t58 true (vF (vk .eql 2 61 .i64 0 t61)) (fun t62 H38 =>
 vF (pickS t58 t62 (.bool false)) (fun t63 H39 =>
 vJ t63 true (vV t28) (fun t65 H41 =>
 vJ t63 true (vF (vk .eql 31 65 .i64 0 t65)) (fun t66 H43 =>
 vF (pickS t63 t66 (.bool false)) (fun t67 H44 =>
 vJ t67 true (vV t34) (fun t69 H46 =>
 vJ t67 true (vF (vk .eql 44 69 .u64 1 t69)) (fun t70 H48 =>
 vF (pickS t67 t70 (.bool false)) (fun t71 H49 =>
 vJ t71 true (vV t35) (fun t73 H51 =>
 vJ t71 true (vF (vk .eql 31 73 .i64 0 t73)) (fun t74 H53 =>
 vF (pickS t71 t74 (.bool false)) (fun t75 H54 =>
 vJ t75 true (vV t38) (fun t77 H56 =>
 vJ t75 true (vF (vk .eql 31 77 .i64 0 t77)) (fun t78 H58 =>
 vF (pickS t75 t78 (.bool false)) (fun t79 H59 =>
 vJ t79 true (vV t44) (fun t81 H61 =>
 vJ t79 true (vF (vk .eql 44 81 .u64 0 t81)) (fun t82 H63 =>
 vF (pickS t79 t82 (.bool false)) (fun t83 H64 =>
 vJ t83 true (vV t45) (fun t85 H66 =>
 vJ t83 true (vF (vk .eql 31 85 .i64 0 t85)) (fun t86 H68 =>
 vF (pickS t83 t86 (.bool false)) (fun t87 H69 =>
 vJ t87 true (vV t49) (fun t89 H71 =>
 vJ t87 true (vF (vk .eql 31 89 .i64 1 t89)) (fun t90 H73 =>
 vF (pickS t87 t90 (.bool false)) (fun t91 H74 =>
 R t91 H74) H73) H71) H69) H68) H66) H64) H63) H61) H59) H58) H56) H54) H53) H51) H49) H48) H46) H44) H43) H41) H39) H38) H36) H34) H32) H31) H29) H27) H26) H24) H22) H21) H20) H19) H18) H17) H16) H15) H14) H13) H12) H11) H10) H9) H8) H7) H6) H5) H4) H3) H2) H1) h

theorem n7_calls{R:VP}{h:Heap}(H:n7  R h):CallsH Tryz.prog 7 #[] h R ⟨⟩ :=
 callsH_of_eq Tryz.follow .l Tryz.func7 kR kR kR H

def n8(x0 fates1:Value)(R:VP)(h:Heap):Prop :=
 vF (box 23 x0) (fun x2 H1 =>
 vF (fieldAt 23 x2 0) (fun t11 H2 =>
 vF (loadAt 3 t11) (fun t12 H3 =>
 vF (fieldAt 23 x2 1) (fun t13 H4 =>
 vF (loadAt 3 t13) (fun t14 H5 =>
 vF (fieldAt 23 x2 3) (fun t15 H6 =>
 vF (loadAt 2 t15) (fun t16 H7 =>
 vF (fieldAt 23 x2 2) (fun t17 H8 =>
 vF (loadAt 3 t17) (fun t18 H9 =>
 vC 27 #[t12,t14,t16,t18,(str [])] (fun t19 H10 =>
 vF (extract t19 0) (fun t20 H11 =>
 vF (extract t19 1) (fun t21 H12 =>
 vF (Op.unary .not t21) (fun t23 H13 =>
 vD t23 (
 R (.tuple #[(.pointer none),(.bool false)]) H13) (
 vC 28 #[(.slice none 0 0)] (fun t25 H14 =>
 vF (extract t25 0) (fun t26 H15 =>
 vF (extract t25 1) (fun t27 H16 =>
 vC 29 #[t26,(str [97])] (fun t29 H17 =>
 vC 30 #[t26,(str [97]),(.int .i64 0),t20] (fun t32 H18 =>
 vC 31 #[t26,(str [97])] (fun t34 H19 =>
 vC 32 #[t26,fates1] (fun t37 H20 =>
 R (.tuple #[t26,(.bool true)]) H20) H19) H18) H17) H16) H15) H14) H13)) H12) H11) H10) H9) H8) H7) H6) H5) H4) H3) H2) H1) h

theorem n8_calls{x0 fates1:Value}{R:VP}{h:Heap}(H:n8 x0 fates1 R h):CallsH Tryz.prog 8 #[x0,fates1] h R ⟨⟩ :=
 callsH_of_eq Tryz.follow .l Tryz.func8 kR kR kR H

def n9(s0 name1:Value)(R:VP)(h:Heap):Prop :=
 vC 33 #[s0,name1,(.int .i64 0),(.int .i64 512)] (fun t13 H1 =>
 vF (extract t13 0) (fun t14 H2 =>
 vF (extract t13 1) (fun t15 H3 =>
 vF (vk .neq 31 16 .i64 0 t15) (fun t17 H4 =>
 vD t17 (
 R (.tuple #[(.pointer none),t15]) H4) (
 vC 34 #[t14] (fun t21 H5 =>
 vF (extract t21 0) (fun t22 H6 =>
 vF (extract t21 1) (fun t23 H7 =>
 vF (alloc 84 true undef) (fun h8 H8 =>
 vF (storeS 84 h8 t22) (fun _ H9 =>
 vF (vk .neq 31 24 .i64 0 t23) (fun t25 H10 =>
 vD t25 (
 R (.tuple #[(.pointer none),t23]) H10) (
 vF (loadAt 84 h8) (fun t27 H11 =>
 vC 35 #[t27] (fun t28 H12 =>
 vG (loadAt 84 h8) (fun t31 _ =>
 vG (binS .mul 2 (.const (.int .i64 8)) (.tmp 33) (.int .i64 8) t28) (fun t34 _ =>
 vG (fieldAt 84 h8 5) (fun t35 _ =>
 vG (loadAt 3 t35) (fun t36 _ =>
 vG (vt .shr 2 34 36 t34 t36) (fun t37 _ =>
 vG (build 89 #[(0,s0),(1,name1),(2,t31),(3,t28),(4,t37)]) (fun t38 _ =>
 vF (box 89 t38) (fun t39 H13 =>
 R (.tuple #[t39,(.int .i64 0)]) H13) H12) #[]) #[]) H12) #[]) #[]) H12) H11) H10)) H9) H8) H7) H6) H5) H4)) H3) H2) H1) h

theorem n9_calls{s0 name1:Value}{R:VP}{h:Heap}(H:n9 s0 name1 R h):CallsH Tryz.prog 9 #[s0,name1] h R ⟨⟩ :=
 callsH_of_eq Tryz.follow .l Tryz.func9 kR kR kR H

end Go.Proofs.YtdccfkffabngjaaGreat

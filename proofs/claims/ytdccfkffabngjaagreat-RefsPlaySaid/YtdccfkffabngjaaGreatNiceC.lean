/- Printed by /tmp/tools2/gen.py: the condition of each function,and that a call meets it. -/
import Derived.Test.YtdccfkffabngjaaGreatVcFun
import Derived.Test.YtdccfkffabngjaaGreatProg
import Derived.Test.YtdccfkffabngjaaGreatNiceA
import Derived.Test.YtdccfkffabngjaaGreatNiceB
set_option maxRecDepth 100000
set_option linter.unusedVariables false
namespace Go.Proofs.YtdccfkffabngjaaGreat
open Go.Vc Go.Instr Go.Builtin

def n27 (bits0 order1 size2 long3 backing4:Value) (R:VP) (h:Heap):Prop :=
 vF (vk .lss 3 22 .i64 9 bits0) (fun t23 H1 =>
 vJ t23 false (vV bits0) (fun t25 H3 =>
 vJ t23 false (vF (vk .gtr 3 25 .i64 16 t25)) (fun t26 H5 =>
 vF (pickS t23 (.bool true) t26) (fun t27 H6 =>
 vJ t27 false (vV order1) (fun t29 H8 =>
 vJ t27 false (vF (vk .lss 3 29 .i64 0 t29)) (fun t30 H10 =>
 vF (pickS t27 (.bool true) t30) (fun t31 H11 =>
 vJ t31 false (vV order1) (fun t33 H13 =>
 vJ t31 false (vF (vk .gtr 3 33 .i64 6 t33)) (fun t34 H15 =>
 vF (pickS t31 (.bool true) t34) (fun t35 H16 =>
 vJ t35 false (vV size2) (fun t37 H18 =>
 vJ t35 false (vF (vk .lss 2 37 .i64 0 t37)) (fun t38 H20 =>
 vF (pickS t35 (.bool true) t38) (fun t39 H21 =>
 vJ t39 false (vV size2) (fun t41 H23 =>
 vJ t39 false (vF (vk .gtr 2 41 .i64 1048576 t41)) (fun t42 H25 =>
 vF (pickS t39 (.bool true) t42) (fun t43 H26 =>
 vJ t43 false (vV size2) (fun t45 H28 =>
 vJ t43 false (vF (vk .rem 2 45 .i64 512 t45)) (fun t46 H30 =>
 vJ t43 false (vF (vk .neq 2 46 .i64 0 t46)) (fun t47 H32 =>
 vF (pickS t43 (.bool true) t47) (fun t48 H33 =>
 vJ t48 false (vV long3) (fun t50 H35 =>
 vJ t48 false (vF (vk .lss 3 50 .i64 1 t50)) (fun t51 H37 =>
 vF (pickS t48 (.bool true) t51) (fun t52 H38 =>
 vJ t52 false (vV long3) (fun t54 H40 =>
 vJ t52 false (vF (vk .gtr 3 54 .i64 40 t54)) (fun t55 H42 =>
 vF (pickS t52 (.bool true) t55) (fun t56 H43 =>
 vD t56 (
 R (.tuple #[(.slice none 0 0),(.bool false)]) H43) (
 vC 36 #[bits0] (fun t58 H44 =>
 vF (build 84 #[(0,bits0),(5,order1),(2,size2),(6,t58),(7,long3),(14,backing4)]) (fun t65 H45 =>
 vF (alloc 84 true undef) (fun h13 H46 =>
 vF (storeS 84 h13 t65) (fun _ H47 =>
 vF (binS .add 2 (.const (.int .i64 1)) (.tmp 66) (.int .i64 1) long3) (fun t67 H48 =>
 vF (loadAt 84 h13) (fun t68 H49 =>
 vC 71 #[t68] (fun t69 H50 =>
 vF (fieldAt 84 h13 4) (fun t70 H51 =>
 vF (storeS 3 t70 t69) (fun _ H52 =>
 JoinN 1 (fun (k_17:VP) H53 =>
 vF (fieldAt 84 h13 4) (fun t71 H54 =>
 vF (loadAt 3 t71) (fun t72 H55 =>
 vF (vk .gtr 3 72 .i64 0 t72) (fun t73 H56 =>
 vD t73 (
 vF (vt .mul 2 74 75 t67 t58) (fun t76 H57 =>
 vF (fieldAt 84 h13 3) (fun t77 H58 =>
 vF (storeS 2 t77 t76) (fun _ H59 =>
 vF (fieldAt 84 h13 4) (fun t79 H60 =>
 vF (loadAt 3 t79) (fun t80 H61 =>
 vF (binS .mul 2 (.const (.int .i64 8)) (.tmp 80) (.int .i64 8) t80) (fun t81 H62 =>
 vC 72 #[t81,t58] (fun t83 H63 =>
 vF (vt .add 2 78 83 t67 t83) (fun t84 H64 =>
 k_17 t84 H64) H63) H62) H61) H60) H59) H58) H57) H56) (
 k_17 t67 H56)) H55) H54) H53)
 (fun used14 H65 =>
 vC 10 #[bits0,order1] (fun t87 H66 =>
 LoopC 1 (fun (X:VP)=>fun blocks16 H67 =>
 vF (vt .mul 2 88 89 blocks16 t87) (fun t90 H68 =>
 vF (vt .add 2 91 92 used14 blocks16) (fun t93 H69 =>
 vF (vt .lss 2 90 93 t90 t93) (fun t94 H70 =>
 vD t94 (
 vF (vk .add 2 95 .i64 1 blocks16) (fun t96 H71 =>
 X t96 H71) H70) (
 vF (vt .add 2 98 99 used14 blocks16) (fun t100 H72 =>
 vF (loadAt 84 h13) (fun t101 H73 =>
 vC 73 #[t101] (fun t102 H74 =>
 vF (Op.unary .not t102) (fun t103 H75 =>
 vJ t103 false (vV blocks16) (fun t105 H77 =>
 vJ t103 false (vV long3) (fun t106 H79 =>
 vJ t103 false (vV t58) (fun t107 H81 =>
 vJ t103 false (vF (vt .mul 2 106 107 t106 t107)) (fun t108 H83 =>
 vJ t103 false (vF (vk .quo 2 108 .i64 8 t108)) (fun t109 H85 =>
 vJ t103 false (vF (vt .gtr 2 105 109 t105 t109)) (fun t110 H87 =>
 vF (pickS t103 (.bool true) t110) (fun t111 H88 =>
 vD t111 (
 R (.tuple #[(.slice none 0 0),(.bool false)]) H88) (
 vF (vt .mul 2 112 113 t100 t58) (fun t114 H89 =>
 vF (makeSlice 52 t114 t114) (fun t115 H90 =>
 vF (loadAt 84 h13) (fun t117 H91 =>
 vC 75 #[t117] (fun t118 H92 =>
 vC 74 #[t115,(.int .i64 0),t118] (fun t119 H93 =>
 LoopC 2 (fun (X_1:Value→VP)=>fun b18 i19 H94 =>
 vF (vt .lss 2 120 121 i19 blocks16) (fun t122 H95 =>
 vD t122 (
 vG (fieldAt 84 h13 6) (fun t126 _ =>
 vG (loadAt 2 t126) (fun t127 _ =>
 vG (binS .mul 2 (.const (.int .i64 8)) (.tmp 128) (.int .i64 8) i19) (fun t129 _ =>
 vG (vt .add 2 127 129 t127 t129) (fun t130 _ =>
 vG (vt .add 2 131 132 used14 i19) (fun t133 _ =>
 vG (vt .mul 2 133 134 t133 t58) (fun t135 _ =>
 vG (convert 2 44 t135) (fun t136 _ =>
 vC 76 #[t136,(.int .i64 8)] (fun t137 H96=>vG (loadAt 2 t126) (fun u _=>u=t127) H96 ∧
 vC 74 #[b18,t130,t137] (fun t138 H97 =>
 vF (makeSlice 52 t58 t58) (fun t140 H98 =>
 vF (vt .mul 2 141 142 i19 t87) (fun t143 H99 =>
 LoopC 2 (fun (X_2:Value→VP)=>fun block20 k21 H100 =>
 vF (vt .lss 2 144 145 k21 t100) (fun t146 H101 =>
 vJ t146 true (vV k21) (fun t148 H103 =>
 vJ t146 true (vV i19) (fun t149 H105 =>
 vJ t146 true (vF (vk .add 2 149 .i64 1 t149)) (fun t150 H107 =>
 vJ t146 true (vV t87) (fun t151 H109 =>
 vJ t146 true (vF (vt .mul 2 150 151 t150 t151)) (fun t152 H111 =>
 vJ t146 true (vF (vt .lss 2 148 152 t148 t152)) (fun t153 H113 =>
 vF (pickS t146 t153 (.bool false)) (fun t154 H114 =>
 vD t154 (
 vF (vt .mul 2 160 161 i19 t87) (fun t162 H115 =>
 vF (vt .sub 2 159 162 k21 t162) (fun t163 H116 =>
 vC 77 #[block20,order1,t163,(.int .u64 1)] (fun t164 H117 =>
 vF (vk .add 2 155 .i64 1 k21) (fun t156 H118 =>
 X_2 t164 t156 H118) H117) H116) H115) H114) (
 vF (vt .add 2 166 167 used14 i19) (fun t168 H119 =>
 vF (vt .mul 2 168 169 t168 t58) (fun t170 H120 =>
 vC 74 #[t138,t170,block20] (fun t172 H121 =>
 vF (vk .add 2 123 .i64 1 i19) (fun t124 H122 =>
 X_1 t172 t124 H122) H121) H120) H119) H114)) H113) H111) H109) H107) H105) H103) H101) H100) [t140,t143] H99 ⟨⟩) H98) H97) H96) H95) #[]) #[]) #[]) #[]) #[]) H95) #[]) (
 R (.tuple #[b18,(.bool true)]) H95)) H94) [t119,(.int .i64 0)] H93 ⟨⟩) H92) H91) H90) H89) H88)) H87) H85) H83) H81) H79) H77) H75) H74) H73) H72) H70)) H69) H68) H67) [(.int .i64 1)] H66 ⟨⟩) H65) H52 ⟨⟩ ⟨⟩) H51) H50) H49) H48) H47) H46) H45) H44) H43)) H42) H40) H38) H37) H35) H33) H32) H30) H28) H26) H25) H23) H21) H20) H18) H16) H15) H13) H11) H10) H8) H6) H5) H3) H1) h

theorem n27_calls {bits0 order1 size2 long3 backing4:Value} {R:VP} {h:Heap} (H:n27 bits0 order1 size2 long3 backing4 R h):CallsH Tryz.prog 27 #[bits0,order1,size2,long3,backing4] h R ⟨⟩ :=
 callsH_of_eq Tryz.follow (.n none .l (.n none .l (.n none .l (.n none .l (.n none .l (.n none .l (.n (some [15]) .l (.n none .l (.n none .l (.n none (.n none (.n (some [17]) .l .l) .l) (.n none .l (.n none .l (.n none .l (.n none .l (.n none .l (.n none (.n none .l (.n none (.n (some [19,20]) (.n none .l (.n none (.n none (.n none .l (.n none .l (.n none (.n none .l (.n none (.n (some [21,22]) .l .l) .l)) .l))) .l) .l)) .l) .l)) .l)))))))))))))))) Tryz.func27 kR kR kR H

def n28 (fates0:Value) (R:VP) (h:Heap):Prop :=
 vC 78 #[fates0] (fun t5 H1 =>
 vF (Op.unary .not t5) (fun t6 H2 =>
 vD t6 (
 R (.tuple #[(.pointer none),(.int .i64 2)]) H2) (
 vF (makeMap 142 none) (fun t7 H3 =>
 vC 79 #[fates0] (fun t9 H4 =>
 vF (build 144 #[(0,t7),(1,t9)]) (fun t10 H5 =>
 vF (box 144 t10) (fun t11 H6 =>
 R (.tuple #[t11,(.int .i64 0)]) H6) H5) H4) H3) H2)) H1) h

theorem n28_calls {fates0:Value} {R:VP} {h:Heap} (H:n28 fates0 R h):CallsH Tryz.prog 28 #[fates0] h R ⟨⟩ :=
 callsH_of_eq Tryz.follow .l Tryz.func28 kR kR kR H

def n29 (s0 name1:Value) (R:VP) (h:Heap):Prop :=
 vC 80 #[s0,name1] (fun t12 H1 =>
 vF (vk .neq 31 13 .i64 0 t12) (fun t14 H2 =>
 vD t14 (
 R t12 H2) (
 vF (nilS s0) (fun t18 H3 =>
 vF (fieldAt 144 t18 0) (fun t19 H4 =>
 vF (loadAt 142 t19) (fun t20 H5 =>
 vF (lookup 142 t20 name1 true) (fun t22 H6 =>
 vF (extract t22 0) (fun t23 H7 =>
 vF (extract t22 1) (fun t24 H8 =>
 vD t24 (
 R (.int .i64 8) H8) (
 vF (nilS s0) (fun t27 H9 =>
 vF (fieldAt 144 t27 0) (fun t28 H10 =>
 vF (loadAt 142 t28) (fun t29 H11 =>
 vF (len_ #[142] 3 #[t29]) (fun t30 H12 =>
 vF (vk .geq 3 30 .i64 256 t30) (fun t31 H13 =>
 vD t31 (
 R (.int .i64 6) H13) (
 vC 81 #[s0] (fun t34 H14 =>
 vF (extract t34 0) (fun t35 H15 =>
 vF (extract t34 1) (fun t36 H16 =>
 vF (vk .neq 31 37 .i64 0 t35) (fun t38 H17 =>
 vD t38 (
 R t35 H17) (
 vF (nilS s0) (fun t41 H18 =>
 vF (fieldAt 144 t41 0) (fun t42 H19 =>
 vF (loadAt 142 t42) (fun t43 H20 =>
 vF (build 97 #[]) (fun t45 H21 =>
 vF (box 97 t45) (fun t46 H22 =>
 vF (unitS (mapUpdate 142 t43 name1 t46)) (fun _ H23 =>
 R (.int .i64 0) H23) H22) H21) H20) H19) H18) H17)) H16) H15) H14) H13)) H12) H11) H10) H9) H8)) H7) H6) H5) H4) H3) H2)) H1) h

theorem n29_calls {s0 name1:Value} {R:VP} {h:Heap} (H:n29 s0 name1 R h):CallsH Tryz.prog 29 #[s0,name1] h R ⟨⟩ :=
 callsH_of_eq Tryz.follow .l Tryz.func29 kR kR kR H

def n30 (s0 name1 at2 b3:Value) (R:VP) (h:Heap):Prop :=
 vC 38 #[s0,name1] (fun t16 H1 =>
 vF (extract t16 0) (fun t17 H2 =>
 vF (extract t16 1) (fun t18 H3 =>
 vF (vk .neq 31 20 .i64 0 t18) (fun t21 H4 =>
 vD t21 (
 R t18 H4) (
 vF (vk .lss 2 24 .i64 0 at2) (fun t25 H5 =>
 vD t25 (
 R (.int .i64 4) H5) (
 vF (len_ #[52] 3 #[b3]) (fun t28 H6 =>
 vF (vk .gtr 3 28 .i64 0 t28) (fun t29 H7 =>
 vJ t29 true (vV at2) (fun t31 H9 =>
 vJ t29 true (vF (vk .gtr 2 31 .i64 268435456 t31)) (fun t32 H11 =>
 vJ t29 true (vV t32) (fun t33 H13 =>
 vJ t33 false (vV b3) (fun t34 H15 =>
 vJ t33 false (vF (len_ #[52] 3 #[t34])) (fun t35 H17 =>
 vJ t33 false (vV at2) (fun t36 H19 =>
 vJ t33 false (vF (binS .sub 2 (.const (.int .i64 268435456)) (.tmp 36) (.int .i64 268435456) t36)) (fun t37 H21 =>
 vJ t33 false (vF (vt .gtr 2 35 37 t35 t37)) (fun t38 H23 =>
 vJ t29 true (vF (pickS t33 (.bool true) t38)) (fun t39 H25 =>
 vF (pickS t29 t39 (.bool false)) (fun t40 H26 =>
 vD t40 (
 R (.int .i64 6) H26) (
 vC 81 #[s0] (fun t43 H27 =>
 vF (extract t43 0) (fun t44 H28 =>
 vF (extract t43 1) (fun t45 H29 =>
 LoopC 3 (fun (X:Value→Value→VP)=>fun at2_1 b3_1 keep11 H30 =>
 vF (len_ #[52] 3 #[b3_1]) (fun t47 H31 =>
 vF (vk .gtr 3 47 .i64 0 t47) (fun t48 H32 =>
 vJ t48 true (vV t44) (fun t50 H34 =>
 vJ t48 true (vF (vk .eql 31 50 .i64 0 t50)) (fun t51 H36 =>
 vJ t48 true (vV t51) (fun t52 H38 =>
 vJ t52 false (vV keep11) (fun t53 H40 =>
 vJ t52 false (vF (vk .gtr 3 53 .i64 0 t53)) (fun t54 H42 =>
 vJ t48 true (vF (pickS t52 (.bool true) t54)) (fun t55 H44 =>
 vF (pickS t48 t55 (.bool false)) (fun t56 H45 =>
 vD t56 (
 vF (len_ #[52] 3 #[b3_1]) (fun t58 H46 =>
 vF (vk .rem 2 59 .i64 512 at2_1) (fun t60 H47 =>
 vF (binS .sub 2 (.const (.int .i64 512)) (.tmp 60) (.int .i64 512) t60) (fun t61 H48 =>
 vF (min_ #[3,3] 3 #[t58,t61]) (fun t62 H49 =>
 vF (vt .add 2 64 65 at2_1 t62) (fun t66 H50 =>
 vC 82 #[t17,t66] (fun t67 H51 =>
 vG (nilS t17) (fun t70 _ =>
 vG (fieldAt 97 t70 1) (fun t71 _ =>
 vG (loadAt 95 t71) (fun t72 _ =>
 vG (sliceAt 52 b3_1 none (some t62) none) (fun t76 _ =>
 vC 70 #[t76] (fun t77 H52=>vG (loadAt 95 t71) (fun u _=>u=t72) H52 ∧
 vG (build 146 #[(0,at2_1),(1,t77)]) (fun t78 _ =>
 vF (buildSlice 95 1 #[(0,t78)]) (fun t79 H53=>vG (loadAt 95 t71) (fun u _=>u=t72) H53 ∧
 vF (append_ #[95,95] 95 #[t72,t79]) (fun t80 H54 =>
 vG (nilS t17) (fun t81 _ =>
 vG (fieldAt 97 t81 1) (fun t82 _ =>
 vF (storeS 95 t82 t80) (fun _ H55 =>
 vG (nilS t17) (fun t84 _ =>
 vG (fieldAt 97 t84 2) (fun t85 _ =>
 vG (loadAt 52 t85) (fun t86 _ =>
 vG (sliceAt 52 t86 (some at2_1) none none) (fun t88 _ =>
 vG (sliceAt 52 b3_1 none (some t62) none) (fun t91 _ =>
 vF (copy_ #[52,52] 3 #[t88,t91]) (fun t92 H56 =>
 vF (sliceAt 52 b3_1 (some t62) none none) (fun t95 H57 =>
 vF (vt .add 2 96 97 at2_1 t62) (fun t98 H58 =>
 vF (vk .sub 3 99 .i64 1 keep11) (fun t100 H59 =>
 X t98 t95 t100 H59) H58) H57) H56) H55) #[]) #[]) H55) #[]) #[]) H54) #[]) #[]) H53) H52) #[]) H51) #[]) H51) #[]) #[]) H50) H49) H48) H47) H46) H45) (
 R t44 H45)) H44) H42) H40) H38) H36) H34) H32) H31) H30) [at2,b3,t45] H29 ⟨⟩) H28) H27) H26)) H25) H23) H21) H19) H17) H15) H13) H11) H9) H7) H6) H5)) H4)) H3) H2) H1) h

theorem n30_calls {s0 name1 at2 b3:Value} {R:VP} {h:Heap} (H:n30 s0 name1 at2 b3 R h):CallsH Tryz.prog 30 #[s0,name1,at2,b3] h R ⟨⟩ :=
 callsH_of_eq Tryz.follow (.n none .l (.n none .l (.n none .l (.n none .l (.n none (.n none (.n (some [3,4,12]) .l .l) .l) .l))))) Tryz.func30 kR kR kR H

def n31 (s0 name1:Value) (R:VP) (h:Heap):Prop :=
 vC 38 #[s0,name1] (fun t14 H1 =>
 vF (extract t14 0) (fun t15 H2 =>
 vF (extract t14 1) (fun t16 H3 =>
 vF (vk .neq 31 17 .i64 0 t16) (fun t18 H4 =>
 vD t18 (
 R t16 H4) (
 vC 81 #[s0] (fun t22 H5 =>
 vF (extract t22 0) (fun t23 H6 =>
 vF (extract t22 1) (fun t24 H7 =>
 vF (nilS t15) (fun t26 H8 =>
 vF (fieldAt 97 t26 1) (fun t27 H9 =>
 vF (loadAt 95 t27) (fun t28 H10 =>
 vF (len_ #[95] 3 #[t28]) (fun t29 H11 =>
 JoinN 1 (fun (k:VP) H12 =>
 vF (vk .neq 31 30 .i64 0 t23) (fun t31 H13 =>
 vD t31 (
 vF (min_ #[3,3] 3 #[t29,t24]) (fun t34 H14 =>
 k t34 H14) H13) (
 k t29 H13)) H12)
 (fun n8 H15 =>
 vF (nilS t15) (fun t36 H16 =>
 vF (fieldAt 97 t36 1) (fun t37 H17 =>
 vF (loadAt 95 t37) (fun t38 H18 =>
 vF (sliceAt 95 t38 none (some n8) none) (fun t40 H19 =>
 vF (len_ #[95] 3 #[t40]) (fun t41 H20 =>
 LoopC 1 (fun (X:VP)=>fun t42 H21 =>
 vF (vt .lss 3 42 41 t42 t41) (fun t43 H22 =>
 vD t43 (
 vF (indexAt 95 t40 t42) (fun t44 H23 =>
 vF (loadAt 146 t44) (fun t45 H24 =>
 vF (alloc 146 true undef) (fun p10 H25 =>
 vF (storeS 146 p10 t45) (fun _ H26 =>
 vG (nilS t15) (fun t47 _ =>
 vG (fieldAt 97 t47 0) (fun t48 _ =>
 vG (loadAt 52 t48) (fun t49 _ =>
 vG (fieldAt 146 p10 0) (fun t50 _ =>
 vG (loadAt 2 t50) (fun t51 _ =>
 vG (sliceAt 52 t49 (some t51) none none) (fun t52 _ =>
 vG (fieldAt 146 p10 1) (fun t53 _ =>
 vG (loadAt 52 t53) (fun t54 _ =>
 vF (copy_ #[52,52] 3 #[t52,t54]) (fun t55 H27 =>
 vF (vk .add 3 42 .i64 1 t42) (fun t56 H28 =>
 X t56 H28) H27) H26) H26) #[]) #[]) H26) #[]) H26) #[]) #[]) H25) H24) H23) H22) (
 vF (nilS t15) (fun t59 H29 =>
 vF (fieldAt 97 t59 1) (fun t60 H30 =>
 vF (loadAt 95 t60) (fun t61 H31 =>
 vF (sliceAt 95 t61 (some n8) none none) (fun t63 H32 =>
 vC 83 #[t63] (fun t64 H33 =>
 vF (nilS t15) (fun t65 H34 =>
 vF (fieldAt 97 t65 1) (fun t66 H35 =>
 vF (storeS 95 t66 t64) (fun _ H36 =>
 R t23 H36) H35) H34) H33) H32) H31) H30) H29) H22)) H21) [(.int .i64 0)] H20 ⟨⟩) H19) H18) H17) H16) H15) H11 ⟨⟩ ⟨⟩) H10) H9) H8) H7) H6) H5) H4)) H3) H2) H1) h

theorem n31_calls {s0 name1:Value} {R:VP} {h:Heap} (H:n31 s0 name1 R h):CallsH Tryz.prog 31 #[s0,name1] h R ⟨⟩ :=
 callsH_of_eq Tryz.follow (.n none .l (.n none .l (.n none .l (.n none .l (.n none .l (.n (some [9]) .l (.n none (.n none .l (.n none (.n (some [43]) .l .l) .l)) .l))))))) Tryz.func31 kR kR kR H

def n32 (s0 fates1:Value) (R:VP) (h:Heap):Prop :=
 vC 66 #[s0] (fun t7 H1 =>
 vD t7 (
 R (.int .i64 1) H1) (
 vC 78 #[fates1] (fun t10 H2 =>
 vF (Op.unary .not t10) (fun t11 H3 =>
 vD t11 (
 R (.int .i64 2) H3) (
 vF (nilS s0) (fun t14 H4 =>
 vF (fieldAt 144 t14 1) (fun t15 H5 =>
 vF (loadAt 67 t15) (fun t16 H6 =>
 vF (append_ #[67,67] 67 #[t16,fates1]) (fun t18 H7 =>
 vF (nilS s0) (fun t19 H8 =>
 vF (fieldAt 144 t19 1) (fun t20 H9 =>
 vF (storeS 67 t20 t18) (fun _ H10 =>
 R (.int .i64 0) H10) H9) H8) H7) H6) H5) H4) H3)) H2) H1)) h

theorem n32_calls {s0 fates1:Value} {R:VP} {h:Heap} (H:n32 s0 fates1 R h):CallsH Tryz.prog 32 #[s0,fates1] h R ⟨⟩ :=
 callsH_of_eq Tryz.follow .l Tryz.func32 kR kR kR H

def n33 (s0 name1 at2 n3:Value) (R:VP) (h:Heap):Prop :=
 vC 38 #[s0,name1] (fun t16 H1 =>
 vF (extract t16 0) (fun t17 H2 =>
 vF (extract t16 1) (fun t18 H3 =>
 vF (vk .neq 31 20 .i64 0 t18) (fun t21 H4 =>
 vD t21 (
 R (.tuple #[(.slice none 0 0),t18]) H4) (
 vF (vk .lss 2 24 .i64 0 at2) (fun t25 H5 =>
 vJ t25 false (vV at2) (fun t27 H7 =>
 vJ t25 false (vV t17) (fun t28 H9 =>
 vJ t25 false (vF (nilS t28)) (fun t29 H11 =>
 vJ t25 false (vF (fieldAt 97 t29 2)) (fun t30 H13 =>
 vJ t25 false (vF (loadAt 52 t30)) (fun t31 H15 =>
 vJ t25 false (vF (len_ #[52] 3 #[t31])) (fun t32 H17 =>
 vJ t25 false (vF (vt .gtr 2 27 32 t27 t32)) (fun t33 H19 =>
 vF (pickS t25 (.bool true) t33) (fun t34 H20 =>
 vJ t34 false (vV n3) (fun t36 H22 =>
 vJ t34 false (vF (vk .lss 3 36 .i64 0 t36)) (fun t37 H24 =>
 vF (pickS t34 (.bool true) t37) (fun t38 H25 =>
 vD t38 (
 R (.tuple #[(.slice none 0 0),(.int .i64 4)]) H25) (
 vF (nilS t17) (fun t40 H26 =>
 vF (fieldAt 97 t40 2) (fun t41 H27 =>
 vF (loadAt 52 t41) (fun t42 H28 =>
 vF (sliceAt 52 t42 (some at2) none none) (fun t44 H29 =>
 vF (len_ #[52] 3 #[t44]) (fun t48 H30 =>
 vF (min_ #[3,3] 3 #[n3,t48]) (fun t49 H31 =>
 vF (sliceAt 52 t44 none (some t49) none) (fun t50 H32 =>
 vC 70 #[t50] (fun t51 H33 =>
 R (.tuple #[t51,(.int .i64 0)]) H33) H32) H31) H30) H29) H28) H27) H26) H25)) H24) H22) H20) H19) H17) H15) H13) H11) H9) H7) H5) H4)) H3) H2) H1) h

theorem n33_calls {s0 name1 at2 n3:Value} {R:VP} {h:Heap} (H:n33 s0 name1 at2 n3 R h):CallsH Tryz.prog 33 #[s0,name1,at2,n3] h R ⟨⟩ :=
 callsH_of_eq Tryz.follow .l Tryz.func33 kR kR kR H

def n34 (b0:Value) (R:VP) (h:Heap):Prop :=
 vF (box 52 b0) (fun b1 H1 =>
 vF (alloc 84 true undef) (fun t2 H2 =>
 vF (loadAt 52 b1) (fun t10 H3 =>
 vF (len_ #[52] 3 #[t10]) (fun t11 H4 =>
 vF (vk .lss 3 11 .i64 512 t11) (fun t12 H5 =>
 vD t12 (
 vF (build 84 #[]) (fun t13 H6 =>
 vF (storeS 84 t2 t13) (fun _ H7 =>
 vG (loadCell 84 t2) (fun r _ =>
 R (.tuple #[r,(.int .i64 180)]) H7) H7) H6) H5) (
 vF (loadAt 52 b1) (fun t14 H8 =>
 vF (sliceAt 52 t14 none (some (.int .i64 512)) none) (fun t15 H9 =>
 vF (storeS 52 b1 t15) (fun _ H10 =>
 vF (pure (.func (.func 84) #[] #[b1])) (fun t16 H11 =>
 InvokeH Tryz.prog t16 #[(.int .i64 4),(.int .i64 4)] H11 (fun t18 H12 =>
 InvokeH Tryz.prog t16 #[(.int .i64 8),(.int .i64 8)] H12 (fun t20 H13 =>
 vF (convert 2 44 t20) (fun t21 H14 =>
 InvokeH Tryz.prog t16 #[(.int .i64 16),(.int .i64 8)] H14 (fun t23 H15 =>
 InvokeH Tryz.prog t16 #[(.int .i64 24),(.int .i64 8)] H15 (fun t25 H16 =>
 InvokeH Tryz.prog t16 #[(.int .i64 32),(.int .i64 4)] H16 (fun t27 H17 =>
 InvokeH Tryz.prog t16 #[(.int .i64 36),(.int .i64 4)] H17 (fun t29 H18 =>
 InvokeH Tryz.prog t16 #[(.int .i64 40),(.int .i64 8)] H18 (fun t31 H19 =>
 InvokeH Tryz.prog t16 #[(.int .i64 48),(.int .i64 4)] H19 (fun t33 H20 =>
 InvokeH Tryz.prog t16 #[(.int .i64 52),(.int .i64 4)] H20 (fun t35 H21 =>
 InvokeH Tryz.prog t16 #[(.int .i64 56),(.int .i64 8)] H21 (fun t37 H22 =>
 InvokeH Tryz.prog t16 #[(.int .i64 64),(.int .i64 4)] H22 (fun t39 H23 =>
 InvokeH Tryz.prog t16 #[(.int .i64 68),(.int .i64 4)] H23 (fun t41 H24 =>
 InvokeH Tryz.prog t16 #[(.int .i64 72),(.int .i64 8)] H24 (fun t43 H25 =>
 InvokeH Tryz.prog t16 #[(.int .i64 80),(.int .i64 4)] H25 (fun t45 H26 =>
 vF (build 84 #[(0,t18),(1,t21),(2,t23),(3,t25),(4,t27),(5,t29),(6,t31),(7,t33),(8,t35),(9,t37),(10,t39),(11,t41),(12,t43),(13,t45)]) (fun t46 H27 =>
 vF (alloc 84 true undef) (fun h5 H28 =>
 vF (storeS 84 h5 t46) (fun _ H29 =>
 vF (loadAt 52 b1) (fun t48 H30 =>
 vC 86 #[t48,(.int .i64 84),(.int .i64 64)] (fun t49 H31 =>
 vF (extract t49 0) (fun t50 H32 =>
 vF (extract t49 1) (fun t51 H33 =>
 vF (fieldAt 84 h5 14) (fun t53 H34 =>
 vF (storeS 9 t53 t50) (fun _ H35 =>
 vF (loadAt 84 h5) (fun t55 H36 =>
 vC 87 #[t55] (fun t56 H37 =>
 vF (extract t56 0) (fun t57 H38 =>
 vF (extract t56 1) (fun t58 H39 =>
 vF (vk .neq 31 59 .i64 0 t51) (fun t60 H40 =>
 vJ t60 false (vV t58) (fun t62 H42 =>
 vJ t60 false (vF (vk .neq 31 62 .i64 0 t62)) (fun t63 H44 =>
 vF (pickS t60 (.bool true) t63) (fun t64 H45 =>
 vJ t64 false (vV t57) (fun t66 H47 =>
 vJ t64 false (vF (loadAt 52 b1)) (fun t67 H49 =>
 vJ t64 false (vC 88 #[t66,t67]) (fun t68 H51 =>
 vJ t64 false (vF (Op.unary .not t68)) (fun t69 H53 =>
 vF (pickS t64 (.bool true) t69) (fun t70 H54 =>
 vD t70 (
 vF (build 84 #[]) (fun t71 H55 =>
 vF (storeS 84 t2 t71) (fun _ H56 =>
 vG (loadCell 84 t2) (fun r_1 _ =>
 R (.tuple #[r_1,(.int .i64 180)]) H56) H56) H55) H54) (
 vF (loadAt 84 h5) (fun t72 H57 =>
 vF (storeS 84 t2 t72) (fun _ H58 =>
 vG (loadCell 84 t2) (fun r_2 _ =>
 R (.tuple #[r_2,(.int .i64 0)]) H58) H58) H57) H54)) H53) H51) H49) H47) H45) H44) H42) H40) H39) H38) H37) H36) H35) H34) H33) H32) H31) H30) H29) H28) H27) H26) ⟨⟩) ⟨⟩) ⟨⟩) ⟨⟩) ⟨⟩) ⟨⟩) ⟨⟩) ⟨⟩) ⟨⟩) ⟨⟩) ⟨⟩) ⟨⟩) H13) ⟨⟩) ⟨⟩) H10) H9) H8) H5)) H4) H3) H2) H1) h

theorem n34_calls {b0:Value} {R:VP} {h:Heap} (H:n34 b0 R h):CallsH Tryz.prog 34 #[b0] h R ⟨⟩ :=
 callsH_of_eq Tryz.follow .l Tryz.func34 kR kR kR H

def n35 (h0:Value) (R:VP) (h:Heap):Prop :=
 vF (box 84 h0) (fun h1 H1 =>
 vF (loadAt 84 h1) (fun t3 H2 =>
 vC 89 #[t3,(.func (.func 90) #[] #[])] (fun t4 H3 =>
 R t4 H3) H2) H1) h

theorem n35_calls {h0:Value} {R:VP} {h:Heap} (H:n35 h0 R h):CallsH Tryz.prog 35 #[h0] h R ⟨⟩ :=
 callsH_of_eq Tryz.follow .l Tryz.func35 kR kR kR H

def n36 (bits0:Value) (R:VP) (h:Heap):Prop :=
 LoopC 2 (fun (X:Value→VP)=>fun c3 i4 H1 =>
 vF (vt .lss 3 5 6 i4 bits0) (fun t7 H2 =>
 vD t7 (
 vF (binS .mul 2 (.const (.int .i64 2)) (.tmp 10) (.int .i64 2) c3) (fun t11 H3 =>
 vF (vk .add 3 8 .i64 1 i4) (fun t9 H4 =>
 X t11 t9 H4) H3) H2) (
 R c3 H2)) H1) [(.int .i64 1),(.int .i64 0)] h ⟨⟩

theorem n36_calls {bits0:Value} {R:VP} {h:Heap} (H:n36 bits0 R h):CallsH Tryz.prog 36 #[bits0] h R ⟨⟩ :=
 callsH_of_eq Tryz.follow (.n none .l (.n none .l (.n none (.n none .l (.n none (.n (some [4,5]) .l .l) .l)) .l))) Tryz.func36 kR kR kR H

def n37 (order0:Value) (R:VP) (h:Heap):Prop :=
 vF (vk .lss 3 5 .i64 0 order0) (fun t6 H1 =>
 vJ t6 false (vV order0) (fun t8 H3 =>
 vJ t6 false (vF (vk .gtr 3 8 .i64 6 t8)) (fun t9 H5 =>
 vF (pickS t6 (.bool true) t9) (fun t10 H6 =>
 vD t10 (
 R (.int .i64 0) H6) (
 LoopC 2 (fun (X:Value→VP)=>fun w3 i4 H7 =>
 vF (vt .lss 3 11 12 i4 order0) (fun t13 H8 =>
 vD t13 (
 vF (binS .mul 3 (.const (.int .i64 2)) (.tmp 16) (.int .i64 2) w3) (fun t17 H9 =>
 vF (vk .add 3 14 .i64 1 i4) (fun t15 H10 =>
 X t17 t15 H10) H9) H8) (
 R w3 H8)) H7) [(.int .i64 1),(.int .i64 0)] H6 ⟨⟩)) H5) H3) H1) h

theorem n37_calls {order0:Value} {R:VP} {h:Heap} (H:n37 order0 R h):CallsH Tryz.prog 37 #[order0] h R ⟨⟩ :=
 callsH_of_eq Tryz.follow (.n none .l (.n none .l (.n none .l (.n none (.n none .l (.n none (.n (some [4,5]) .l .l) .l)) .l)))) Tryz.func37 kR kR kR H

def n38 (s0 name1:Value) (R:VP) (h:Heap):Prop :=
 vC 80 #[s0,name1] (fun t11 H1 =>
 vF (vk .neq 31 12 .i64 0 t11) (fun t13 H2 =>
 vD t13 (
 R (.tuple #[(.pointer none),t11]) H2) (
 vF (nilS s0) (fun t17 H3 =>
 vF (fieldAt 144 t17 0) (fun t18 H4 =>
 vF (loadAt 142 t18) (fun t19 H5 =>
 vF (lookup 142 t19 name1 true) (fun t21 H6 =>
 vF (extract t21 0) (fun t22 H7 =>
 vF (extract t21 1) (fun t23 H8 =>
 vF (Op.unary .not t23) (fun t25 H9 =>
 vD t25 (
 R (.tuple #[(.pointer none),(.int .i64 7)]) H9) (
 R (.tuple #[t22,(.int .i64 0)]) H9)) H8) H7) H6) H5) H4) H3) H2)) H1) h

theorem n38_calls {s0 name1:Value} {R:VP} {h:Heap} (H:n38 s0 name1 R h):CallsH Tryz.prog 38 #[s0,name1] h R ⟨⟩ :=
 callsH_of_eq Tryz.follow .l Tryz.func38 kR kR kR H

def n39 (r0:Value) (R:VP) (h:Heap):Prop :=
 vF (binS .eql 30 (.tmp 3) (.const (.pointer none)) r0 (.pointer none)) (fun t4 H1 =>
 vJ t4 false (vV r0) (fun t6 H3 =>
 vJ t4 false (vF (nilS t6)) (fun t7 H5 =>
 vJ t4 false (vF (fieldAt 89 t7 0)) (fun t8 H7 =>
 vJ t4 false (vF (loadAt 27 t8)) (fun t9 H9 =>
 vJ t4 false (vF (binS .eql 27 (.tmp 9) (.const (.pointer none)) t9 (.pointer none))) (fun t10 H11 =>
 vF (pickS t4 (.bool true) t10) (fun t11 H12 =>
 R t11 H12) H11) H9) H7) H5) H3) H1) h

theorem n39_calls {r0:Value} {R:VP} {h:Heap} (H:n39 r0 R h):CallsH Tryz.prog 39 #[r0] h R ⟨⟩ :=
 callsH_of_eq Tryz.follow .l Tryz.func39 kR kR kR H

def n40 (r0 n1:Value) (R:VP) (h:Heap):Prop :=
 vC 20 #[r0] (fun t17 H1 =>
 vF (pure (.func (.func 44) #[r0] #[])) (fun t19 H2 =>
 JoinN 1 (fun (k:VP) H3 =>
 JoinN 1 (fun (k_1:VP) H4 =>
 LoopC 2 (fun (X:Value→VP)=>fun begin6 i9 H5 =>
 vF (nilS r0) (fun t23 H6 =>
 vF (fieldAt 89 t23 4) (fun t24 H7 =>
 vF (loadAt 2 t24) (fun t25 H8 =>
 vF (vt .quo 2 21 25 t17 t25) (fun t26 H9 =>
 vF (vt .lss 2 20 26 i9 t26) (fun t27 H10 =>
 vD t27 (
 InvokeH Tryz.prog t19 #[i9] H10 (fun t33 H11 =>
 vF (extract t33 0) (fun t34 H12 =>
 vF (extract t33 1) (fun t35 H13 =>
 vF (extract t33 2) (fun t36 H14 =>
 vF (vk .neq 31 37 .i64 0 t36) (fun t38 H15 =>
 vD t38 (
 R (.tuple #[(.int .i64 0),t36]) H15) (
 vF (nilS r0) (fun t41 H16 =>
 vF (fieldAt 89 t41 4) (fun t42 H17 =>
 vF (loadAt 2 t42) (fun t43 H18 =>
 LoopC 2 (fun (X_1:Value→VP)=>fun begin6_1 t44 H19 =>
 vF (vt .lss 2 44 43 t44 t43) (fun t45 H20 =>
 vD t45 (
 JoinN 1 (fun (k_2:VP) H21 =>
 JoinN 1 (fun (k_3:VP) H22 =>
 vF (nilS r0) (fun t49 H23 =>
 vF (fieldAt 89 t49 4) (fun t50 H24 =>
 vF (loadAt 2 t50) (fun t51 H25 =>
 vF (vt .mul 2 47 51 i9 t51) (fun t52 H26 =>
 vF (vt .add 2 52 53 t52 t44) (fun t54 H27 =>
 vF (vk .eql 2 55 .i64 0 t54) (fun t56 H28 =>
 vD t56 (
 k_3 begin6_1 H28) (
 JoinN 1 (fun (k_4:VP) H29 =>
 vF (binS .neq 52 (.tmp 57) (.const (.slice none 0 0)) t34 (.slice none 0 0)) (fun t58 H30 =>
 vD t58 (
 vF (nilS r0) (fun t62 H31 =>
 vF (fieldAt 89 t62 2) (fun t63 H32 =>
 vF (fieldAt 84 t63 5) (fun t64 H33 =>
 vF (loadAt 3 t64) (fun t65 H34 =>
 vC 45 #[t34,t65,t44] (fun t67 H35 =>
 vF (extract t67 0) (fun t68 H36 =>
 vF (extract t67 1) (fun t69 H37 =>
 k_4 t68 H37) H36) H35) H34) H33) H32) H31) H30) (
 k_4 (.int .u64 0) H30)) H29)
 (fun x15 H38 =>
 vF (vk .neq 44 70 .u64 0 x15) (fun t71 H39 =>
 vJ t71 false (vV t34) (fun t73 H41 =>
 vJ t71 false (vF (binS .eql 52 (.tmp 73) (.const (.slice none 0 0)) t73 (.slice none 0 0))) (fun t74 H43 =>
 vJ t71 false (vV t74) (fun t75 H45 =>
 vJ t75 true (vV t44) (fun t76 H47 =>
 vJ t75 true (vF (vk .eql 2 76 .i64 0 t76)) (fun t77 H49 =>
 vJ t71 false (vF (pickS t75 t77 (.bool false))) (fun t78 H51 =>
 vF (pickS t71 (.bool true) t78) (fun t79 H52 =>
 vD t79 (
 vF (vk .add 2 80 .i64 1 t54) (fun t81 H53 =>
 k_3 t81 H53) H52) (
 vF (vt .sub 2 82 83 t54 begin6_1) (fun t84 H54 =>
 vF (vk .add 2 84 .i64 1 t84) (fun t85 H55 =>
 vF (vt .eql 2 85 86 t85 n1) (fun t87 H56 =>
 vD t87 (
 k_1 begin6_1 H56) (
 k_3 begin6_1 H56)) H55) H54) H52)) H51) H49) H47) H45) H43) H41) H39) H38) H28 ⟨⟩ ⟨⟩)) H27) H26) H25) H24) H23) H22)
 (fun begin6_2 H57 =>
 k_2 begin6_2 H57) H21 ⟨⟩ ⟨⟩)
 (fun begin6_3 H58 =>
 vF (vk .add 2 44 .i64 1 t44) (fun t88 H59 =>
 X_1 begin6_3 t88 H59) H58) H20 ⟨⟩ ⟨⟩) (
 vF (vk .add 2 28 .i64 1 i9) (fun t29 H60 =>
 X begin6_1 t29 H60) H20)) H19) [begin6,(.int .i64 0)] H18 ⟨⟩) H17) H16) H15)) H14) H13) H12) H11) ⟨⟩) (
 k_1 begin6 H10)) H9) H8) H7) H6) H5) [(.int .i64 1),(.int .i64 0)] H4 ⟨⟩)
 (fun begin6_4 H61 =>
 k begin6_4 H61) H3 ⟨⟩ ⟨⟩)
 (fun begin6_5 H62 =>
 vF (vt .add 2 89 90 begin6_5 n1) (fun t91 H63 =>
 vF (vt .gtr 2 91 92 t91 t17) (fun t93 H64 =>
 vJ t93 false (vV begin6_5) (fun t95 H66 =>
 vJ t93 false (vV n1) (fun t96 H68 =>
 vJ t93 false (vF (vt .add 2 95 96 t95 t96)) (fun t97 H70 =>
 vJ t93 false (vV r0) (fun t98 H72 =>
 vJ t93 false (vF (nilS t98)) (fun t99 H74 =>
 vJ t93 false (vF (fieldAt 89 t99 3)) (fun t100 H76 =>
 vJ t93 false (vF (loadAt 2 t100)) (fun t101 H78 =>
 vJ t93 false (vF (vt .mul 2 97 101 t97 t101)) (fun t102 H80 =>
 vJ t93 false (vF (vk .gtr 2 102 .i64 268435456 t102)) (fun t103 H82 =>
 vF (pickS t93 (.bool true) t103) (fun t104 H83 =>
 vD t104 (
 R (.tuple #[(.int .i64 0),(.int .i64 6)]) H83) (
 R (.tuple #[begin6_5,(.int .i64 0)]) H83)) H82) H80) H78) H76) H74) H72) H70) H68) H66) H64) H63) H62) H2 ⟨⟩ ⟨⟩) H1) h

theorem n40_calls {r0 n1:Value} {R:VP} {h:Heap} (H:n40 r0 n1 R h):CallsH Tryz.prog 40 #[r0,n1] h R ⟨⟩ :=
 callsH_of_eq Tryz.follow (.n none .l (.n none (.n none .l (.n none .l (.n none .l (.n none .l (.n (some [7]) (.n none .l (.n (some [7]) (.n (some [7,10]) (.n none .l (.n none (.n none (.n none .l (.n none .l (.n none .l (.n none (.n (some [7,45]) (.n none .l (.n none .l (.n (some [7]) (.n (some [7]) (.n none .l (.n none .l (.n none .l (.n none .l (.n (some [16]) .l .l))))) .l) .l))) .l) .l)))) .l) .l)) .l) .l)) .l))))) .l)) Tryz.func40 kR kR kR H

def n41 (t0 t1 t2:Value) (R:VP) (h:Heap):Prop :=
 vG (loadAt 30 t0) (fun t4 _ =>
 vG (loadAt 2 t1) (fun t5 _ =>
 vG (loadAt 3 t2) (fun t6 _ =>
 vG (vt .add 2 5 6 t5 t6) (fun t7 _ =>
 vG (loadAt 30 t0) (fun t8 _ =>
 vG (nilS t8) (fun t9 _ =>
 vG (fieldAt 89 t9 3) (fun t10 _ =>
 vG (loadAt 2 t10) (fun t11 _ =>
 vG (vt .mul 2 7 11 t7 t11) (fun t12 _ =>
 vC 19 #[t4,t12] (fun t13 H1 =>
 R t13 H1) h) #[]) h) #[]) #[]) h) #[]) h) h) h

theorem n41_calls {t0 t1 t2:Value} {R:VP} {h:Heap} (H:n41 t0 t1 t2 R h):CallsH Tryz.prog 41 #[t0,t1,t2] h R ⟨⟩ :=
 callsH_of_eq Tryz.follow .l Tryz.func41 kR kR kR H

def n42 (t0 t1:Value) (R:VP) (h:Heap):Prop :=
 vF (loadAt 30 t0) (fun t3 H1 =>
 vF (loadAt 47 t1) (fun t4 H2 =>
 vC 15 #[t3,(.int .i64 1),t4] (fun t5 H3 =>
 R t5 H3) H2) H1) h

theorem n42_calls {t0 t1:Value} {R:VP} {h:Heap} (H:n42 t0 t1 R h):CallsH Tryz.prog 42 #[t0,t1] h R ⟨⟩ :=
 callsH_of_eq Tryz.follow .l Tryz.func42 kR kR kR H

def n43 (t0:Value) (R:VP) (h:Heap):Prop :=
 vG (loadAt 30 t0) (fun t2 _ =>
 vG (nilS t2) (fun t3 _ =>
 vG (fieldAt 89 t3 0) (fun t4 _ =>
 vG (loadAt 27 t4) (fun t5 _ =>
 vG (loadAt 30 t0) (fun t6 _ =>
 vG (nilS t6) (fun t7 _ =>
 vG (fieldAt 89 t7 1) (fun t8 _ =>
 vG (loadAt 9 t8) (fun t9 _ =>
 vC 31 #[t5,t9] (fun t10 H1 =>
 R t10 H1) h) h) #[]) #[]) h) h) #[]) #[]) h

theorem n43_calls {t0:Value} {R:VP} {h:Heap} (H:n43 t0 R h):CallsH Tryz.prog 43 #[t0] h R ⟨⟩ :=
 callsH_of_eq Tryz.follow .l Tryz.func43 kR kR kR H

def n44 (r0 i1:Value) (R:VP) (h:Heap):Prop :=
 vC 91 #[r0,i1] (fun t13 H1 =>
 vF (extract t13 0) (fun t14 H2 =>
 vF (extract t13 1) (fun t15 H3 =>
 vF (vk .neq 31 16 .i64 0 t15) (fun t17 H4 =>
 vJ t17 false (vV t14) (fun t19 H6 =>
 vJ t17 false (vF (vk .eql 2 19 .i64 0 t19)) (fun t20 H8 =>
 vF (pickS t17 (.bool true) t20) (fun t21 H9 =>
 vD t21 (
 R (.tuple #[(.slice none 0 0),(.int .i64 0),t15]) H9) (
 vF (nilS r0) (fun t27 H10 =>
 vF (fieldAt 89 t27 3) (fun t28 H11 =>
 vF (loadAt 2 t28) (fun t29 H12 =>
 vC 92 #[r0,t14,t29] (fun t30 H13 =>
 vF (extract t30 0) (fun t31 H14 =>
 vF (extract t30 1) (fun t32 H15 =>
 R (.tuple #[t31,t14,t32]) H15) H14) H13) H12) H11) H10) H9)) H8) H6) H4) H3) H2) H1) h

theorem n44_calls {r0 i1:Value} {R:VP} {h:Heap} (H:n44 r0 i1 R h):CallsH Tryz.prog 44 #[r0,i1] h R ⟨⟩ :=
 callsH_of_eq Tryz.follow .l Tryz.func44 kR kR kR H

def n45 (b0 order1 i2:Value) (R:VP) (h:Heap):Prop :=
 vC 93 #[b0,order1,i2] (fun t14 H1 =>
 vF (extract t14 0) (fun t15 H2 =>
 vF (extract t14 1) (fun t16 H3 =>
 vF (vk .neq 31 17 .i64 0 t16) (fun t18 H4 =>
 vD t18 (
 R (.tuple #[(.int .u64 0),t16]) H4) (
 vC 94 #[b0,t15,i2] (fun t23 H5 =>
 R (.tuple #[t23,(.int .i64 0)]) H5) H4)) H3) H2) H1) h

theorem n45_calls {b0 order1 i2:Value} {R:VP} {h:Heap} (H:n45 b0 order1 i2 R h):CallsH Tryz.prog 45 #[b0,order1,i2] h R ⟨⟩ :=
 callsH_of_eq Tryz.follow .l Tryz.func45 kR kR kR H

def n46 (seq0:Value) (R:VP) (h:Heap):Prop :=
 vC 95 #[seq0] (fun t5 H1 =>
 vC 96 #[t5] (fun t7 H2 =>
 R t5 H2) H1) h

theorem n46_calls {seq0:Value} {R:VP} {h:Heap} (H:n46 seq0 R h):CallsH Tryz.prog 46 #[seq0] h R ⟨⟩ :=
 callsH_of_eq Tryz.follow .l Tryz.func46 kR kR kR H

def n47 (m0:Value) (R:VP) (h:Heap):Prop :=
 vF (box 104 m0) (fun m1 H1 =>
 vF (pure (.func (.func 97) #[] #[m1])) (fun t3 H2 =>
 R t3 H2) H1) h

theorem n47_calls {m0:Value} {R:VP} {h:Heap} (H:n47 m0 R h):CallsH Tryz.prog 47 #[m0] h R ⟨⟩ :=
 callsH_of_eq Tryz.follow .l Tryz.func47 kR kR kR H

def n48 (order0:Value) (R:VP) (h:Heap):Prop :=
 vC 98 #[order0] (fun t6 H1 =>
 vF (vk .eql 3 7 .i64 0 t6) (fun t8 H2 =>
 vD t8 (
 R (.tuple #[(.int .u64 0),(.int .i64 2)]) H2) (
 vF (binS .sub 3 (.const (.int .i64 64)) (.tmp 9) (.int .i64 64) t6) (fun t10 H3 =>
 vF (binS .shr 44 (.const (.int .u64 18446744073709551615)) (.tmp 10) (.int .u64 18446744073709551615) t10) (fun t11 H4 =>
 R (.tuple #[t11,(.int .i64 0)]) H4) H3) H2)) H1) h

theorem n48_calls {order0:Value} {R:VP} {h:Heap} (H:n48 order0 R h):CallsH Tryz.prog 48 #[order0] h R ⟨⟩ :=
 callsH_of_eq Tryz.follow .l Tryz.func48 kR kR kR H

def n49 (m0:Value) (R:VP) (h:Heap):Prop :=
 vF (box 110 m0) (fun m1 H1 =>
 vF (pure (.func (.func 99) #[] #[m1])) (fun t3 H2 =>
 R t3 H2) H1) h

theorem n49_calls {m0:Value} {R:VP} {h:Heap} (H:n49 m0 R h):CallsH Tryz.prog 49 #[m0] h R ⟨⟩ :=
 callsH_of_eq Tryz.follow .l Tryz.func49 kR kR kR H

def n50 (r0 i1:Value) (R:VP) (h:Heap):Prop :=
 vF (box 30 r0) (fun r2 H1 =>
 vF (box 2 i1) (fun i3 H2 =>
 vG (loadAt 2 i3) (fun t11 _ =>
 vG (loadAt 30 r2) (fun t12 _ =>
 vG (nilS t12) (fun t13 _ =>
 vG (fieldAt 89 t13 4) (fun t14 _ =>
 vG (loadAt 2 t14) (fun t15 _ =>
 vG (vt .mul 2 11 15 t11 t15) (fun t16 _ =>
 vG (loadAt 30 r2) (fun t17 _ =>
 vG (nilS t17) (fun t18 _ =>
 vG (fieldAt 89 t18 3) (fun t19 _ =>
 vG (loadAt 2 t19) (fun t20 _ =>
 vG (vt .mul 2 16 20 t16 t20) (fun t21 _ =>
 vF (alloc 2 true undef) (fun at5 H3=>vG (loadAt 2 t19) (fun u _=>u=t20) H3∧vG (loadAt 30 r2) (fun u _=>u=t17) H3∧vG (loadAt 2 t14) (fun u _=>u=t15) H3∧vG (loadAt 30 r2) (fun u _=>u=t12) H3∧vG (loadAt 2 i3) (fun u _=>u=t11) H3 ∧
 vF (storeS 2 at5 t21) (fun _ H4 =>
 vF (loadAt 30 r2) (fun t22 H5 =>
 vF (nilS t22) (fun t23 H6 =>
 vF (fieldAt 89 t23 3) (fun t24 H7 =>
 vF (loadAt 2 t24) (fun t25 H8 =>
 vF (makeSlice 52 t25 t25) (fun t26 H9 =>
 vF (alloc 52 true undef) (fun b6 H10 =>
 vF (storeS 52 b6 t26) (fun _ H11 =>
 vG (loadAt 52 b6) (fun t27 _ =>
 vG (loadAt 30 r2) (fun t28 _ =>
 vG (nilS t28) (fun t29 _ =>
 vG (fieldAt 89 t29 2) (fun t30 _ =>
 vG (fieldAt 84 t30 5) (fun t31 _ =>
 vG (loadAt 3 t31) (fun t32 _ =>
 vC 100 #[t27,t32,(.int .i64 0),(.int .u64 1)] (fun t33 H12 =>
 vF (makeSlice 52 (.int .i64 8) (.int .i64 8)) (fun t34 H13 =>
 vF (alloc 52 true undef) (fun w7 H14 =>
 vF (storeS 52 w7 t34) (fun _ H15 =>
 vF (loadAt 52 w7) (fun t35 H16 =>
 vF (loadAt 2 at5) (fun t36 H17 =>
 vF (convert 2 44 t36) (fun t37 H18 =>
 vC 101 #[t35,(.int .i64 0),(.int .i64 8),t37] (fun t38 H19 =>
 vF (pure (.func (.func 102) #[] #[r2,at5])) (fun t39 H20 =>
 vF (pure (.func (.func 103) #[] #[r2,at5,b6])) (fun t40 H21 =>
 vF (pure (.func (.func 104) #[] #[r2])) (fun t41 H22 =>
 vF (pure (.func (.func 105) #[] #[r2,i3,w7])) (fun t42 H23 =>
 vF (pure (.func (.func 106) #[] #[r2])) (fun t43 H24 =>
 vF (buildSlice 100 5 #[(0,t39),(1,t40),(2,t41),(3,t42),(4,t43)]) (fun t44 H25 =>
 vF (len_ #[100] 3 #[t44]) (fun t45 H26 =>
 LoopC 1 (fun (X:VP)=>fun t46 H27 =>
 vF (vt .lss 3 46 45 t46 t45) (fun t47 H28 =>
 vD t47 (
 vF (indexAt 100 t44 t46) (fun t48 H29 =>
 vF (loadAt 99 t48) (fun t49 H30 =>
 InvokeH Tryz.prog t49 #[] H30 (fun t51 H31 =>
 vF (vk .neq 31 52 .i64 0 t51) (fun t53 H32 =>
 vD t53 (
 R t51 H32) (
 vF (vk .add 3 46 .i64 1 t46) (fun t55 H33 =>
 X t55 H33) H32)) H31) ⟨⟩) H29) H28) (
 R (.int .i64 0) H28)) H27) [(.int .i64 0)] H26 ⟨⟩) H25) H24) H23) H22) H21) H20) H19) H18) H17) H16) H15) H14) H13) H12) H11) H11) #[]) #[]) #[]) H11) H11) H10) H9) H8) H7) H6) H5) H4) H3) H2) #[]) H2) #[]) #[]) H2) #[]) H2) #[]) #[]) H2) H2) H1) h

theorem n50_calls {r0 i1:Value} {R:VP} {h:Heap} (H:n50 r0 i1 R h):CallsH Tryz.prog 50 #[r0,i1] h R ⟨⟩ :=
 callsH_of_eq Tryz.follow (.n none .l (.n none .l (.n none .l (.n none .l (.n none .l (.n none .l (.n none (.n none .l (.n none (.n (some [47]) .l .l) .l)) .l))))))) Tryz.func50 kR kR kR H

def n51 (s0:Value) (R:VP) (h:Heap):Prop :=
 vF (binS .eql 52 (.tmp 3) (.const (.slice none 0 0)) s0 (.slice none 0 0)) (fun t4 H1 =>
 vD t4 (
 R (.slice none 0 0) H1) (
 vF (buildSlice 52 0 #[]) (fun t5 H2 =>
 vF (append_ #[52,52] 52 #[t5,s0]) (fun t7 H3 =>
 R t7 H3) H2) H1)) h

theorem n51_calls {s0:Value} {R:VP} {h:Heap} (H:n51 s0 R h):CallsH Tryz.prog 51 #[s0] h R ⟨⟩ :=
 callsH_of_eq Tryz.follow .l Tryz.func51 kR kR kR H

def n52 (b0 order1 i2 by3:Value) (R:VP) (h:Heap):Prop :=
 vC 93 #[b0,order1,i2] (fun t19 H1 =>
 vF (extract t19 0) (fun t20 H2 =>
 vF (extract t19 1) (fun t21 H3 =>
 vF (vk .neq 31 22 .i64 0 t21) (fun t23 H4 =>
 vD t23 (
 R (.tuple #[(.int .u64 0),t21]) H4) (
 vG (binS .sub 3 (.const (.int .i64 64)) (.tmp 29) (.int .i64 64) t20) (fun t30 _ =>
 vG (binS .shr 44 (.const (.int .u64 18446744073709551615)) (.tmp 30) (.int .u64 18446744073709551615) t30) (fun t31 _ =>
 vC 94 #[b0,t20,i2] (fun t28 H5 =>
 JoinN 1 (fun (k:VP) H6 =>
 JoinN 1 (fun (k_1:VP) H7 =>
 vF (vk .geq 2 33 .i64 0 by3) (fun t34 H8 =>
 vJ t34 true (vV (.func (.func 107) #[] #[])) (fun t36 H10 =>
 vJ t34 true (vV t31) (fun t37 H12 =>
 vJ t34 true (vV t28) (fun t38 H14 =>
 vJ t34 true (vF (vt .sub 44 37 38 t37 t38)) (fun t39 H16 =>
 vJ t34 true (vV by3) (fun t40 H18 =>
 vJ t34 true (vF (convert 2 44 t40)) (fun t41 H20 =>
 Join1 (fun k_8 H21=>guardP t34 true (InvokeH Tryz.prog t36 #[t39,t41] H21 k_8 ⟨⟩) (k_8 undef H21) ⟨⟩ ⟨⟩) (fun t42 H22 =>
 vF (pickS t34 t42 (.bool false)) (fun t43 H23 =>
 vD t43 (
 vF (convert 2 44 by3) (fun t46 H24 =>
 vF (vt .add 44 44 46 t28 t46) (fun t47 H25 =>
 k_1 t47 H25) H24) H23) (
 vF (vk .lss 2 49 .i64 0 by3) (fun t50 H26 =>
 vJ t50 true (vV (.func (.func 107) #[] #[])) (fun t52 H28 =>
 vJ t50 true (vV t28) (fun t53 H30 =>
 vJ t50 true (vV by3) (fun t54 H32 =>
 vJ t50 true (vF (convert 2 44 t54)) (fun t55 H34 =>
 vJ t50 true (vF (Op.unary .neg t55)) (fun t56 H36 =>
 Join1 (fun k_14 H37=>guardP t50 true (InvokeH Tryz.prog t52 #[t53,t56] H37 k_14 ⟨⟩) (k_14 undef H37) ⟨⟩ ⟨⟩) (fun t57 H38 =>
 vF (pickS t50 t57 (.bool false)) (fun t58 H39 =>
 vD t58 (
 vF (convert 2 44 by3) (fun t61 H40 =>
 vF (Op.unary .neg t61) (fun t62 H41 =>
 vF (vt .sub 44 59 62 t28 t62) (fun t63 H42 =>
 k_1 t63 H42) H41) H40) H39) (
 R (.tuple #[(.int .u64 0),(.int .i64 3)]) H39)) H38) H36 ⟨⟩ ⟨⟩) H34) H32) H30) H28) H26) H23)) H22) H20 ⟨⟩ ⟨⟩) H18) H16) H14) H12) H10) H8) H7)
 (fun x12 H43 =>
 k x12 H43) H6 ⟨⟩ ⟨⟩)
 (fun x12_1 H44 =>
 vC 108 #[b0,t20,i2,x12_1] (fun t68 H45 =>
 R (.tuple #[x12_1,(.int .i64 0)]) H45) H44) H5 ⟨⟩ ⟨⟩) H4) #[]) #[])) H3) H2) H1) h

theorem n52_calls {b0 order1 i2 by3:Value} {R:VP} {h:Heap} (H:n52 b0 order1 i2 by3 R h):CallsH Tryz.prog 52 #[b0,order1,i2,by3] h R ⟨⟩ :=
 callsH_of_eq Tryz.follow (.n none .l (.n none .l (.n none .l (.n none .l (.n none .l (.n (some [13]) (.n (some [13]) .l .l) .l)))))) Tryz.func52 kR kR kR H

def n53 (r0 at1 was2 is3:Value) (R:VP) (h:Heap):Prop :=
 LoopC 1 (fun (X:VP)=>fun i9 H1 =>
 vF (len_ #[52] 3 #[is3]) (fun t14 H2 =>
 vF (vt .lss 3 12 14 i9 t14) (fun t15 H3 =>
 vD t15 (
 JoinN 0 (fun (k:Heap→Prop) H4 =>
 JoinN 0 (fun (k_1:Heap→Prop) H5 =>
 vF (vk .add 3 20 .i64 512 i9) (fun t21 H6 =>
 vF (sliceAt 52 is3 (some i9) (some t21) none) (fun t22 H7 =>
 vF (vk .add 3 26 .i64 512 i9) (fun t27 H8 =>
 vF (sliceAt 52 was2 (some i9) (some t27) none) (fun t28 H9 =>
 vC 109 #[t22,t28] (fun t29 H10 =>
 vD t29 (
 k_1 H10) (
 vG (nilS r0) (fun t31 _ =>
 vG (fieldAt 89 t31 0) (fun t32 _ =>
 vG (loadAt 27 t32) (fun t33 _ =>
 vG (nilS r0) (fun t35 _ =>
 vG (fieldAt 89 t35 1) (fun t36 _ =>
 vG (loadAt 9 t36) (fun t37 _ =>
 vG (vt .add 2 38 39 at1 i9) (fun t40 _ =>
 vC 30 #[t33,t37,t40,t22] (fun t42 H11 =>
 vF (vk .neq 31 43 .i64 0 t42) (fun t44 H12 =>
 vD t44 (
 R t42 H12) (
 k_1 H12)) H11) H10) #[]) H10) #[]) #[]) H10) #[]) #[])) H9) H8) H7) H6) H5)
 (fun H13 =>
 k H13) H4 ⟨⟩ ⟨⟩)
 (fun H14 =>
 vF (vk .add 3 16 .i64 512 i9) (fun t17 H15 =>
 X t17 H15) H14) H3 ⟨⟩ ⟨⟩) (
 R (.int .i64 0) H3)) H2) H1) [(.int .i64 0)] h ⟨⟩

theorem n53_calls {r0 at1 was2 is3:Value} {R:VP} {h:Heap} (H:n53 r0 at1 was2 is3 R h):CallsH Tryz.prog 53 #[r0,at1,was2,is3] h R ⟨⟩ :=
 callsH_of_eq Tryz.follow (.n none .l (.n none (.n none .l (.n none (.n (some [10]) (.n none .l (.n (some []) (.n (some []) .l .l) .l)) .l) .l)) .l)) Tryz.func53 kR kR kR H

def n54 (b0:Value) (R:VP) (h:Heap):Prop :=
 vF (alloc 84 true undef) (fun t2 H1 =>
 vF (len_ #[52] 3 #[b0]) (fun t8 H2 =>
 vF (vk .lss 3 8 .i64 512 t8) (fun t9 H3 =>
 vD t9 (
 vF (build 84 #[]) (fun t10 H4 =>
 vF (storeS 84 t2 t10) (fun _ H5 =>
 vG (loadCell 84 t2) (fun r _ =>
 R (.tuple #[r,(.bool false)]) H5) H5) H4) H3) (
 vC 110 #[b0,(.int .i64 84),(.int .i64 4)] (fun t12 H6 =>
 vF (vk .gtr 2 13 .i64 64 t12) (fun t14 H7 =>
 vD t14 (
 vF (build 84 #[]) (fun t15 H8 =>
 vF (storeS 84 t2 t15) (fun _ H9 =>
 vG (loadCell 84 t2) (fun r_1 _ =>
 R (.tuple #[r_1,(.bool false)]) H9) H9) H8) H7) (
 JoinN 1 (fun (k:VP) H10 =>
 vG (sliceAt 52 b0 (some (.int .i64 8)) (some (.int .i64 16)) none) (fun t19 _ =>
 vG (binS .add 2 (.const (.int .i64 88)) (.tmp 46) (.int .i64 88) t12) (fun t47 _ =>
 vG (sliceAt 52 b0 (some (.int .i64 88)) (some t47) none) (fun t48 _ =>
 vG (convert 52 9 t48) (fun t49 _ =>
 ((
 vC 110 #[b0,(.int .i64 4),(.int .i64 4)] (fun t17 H11=>vG (convert 52 9 t48) (fun u _=>u=t49) H11 ∧
 ((
 vC 55 #[t19] (fun t20 H12=>vG (convert 52 9 t48) (fun u _=>u=t49) H12 ∧
 ((
 vC 110 #[b0,(.int .i64 16),(.int .i64 8)] (fun t22 H13=>vG (convert 52 9 t48) (fun u _=>u=t49) H13 ∧
 ((
 vC 110 #[b0,(.int .i64 24),(.int .i64 8)] (fun t24 H14=>vG (convert 52 9 t48) (fun u _=>u=t49) H14 ∧
 ((
 vC 110 #[b0,(.int .i64 32),(.int .i64 4)] (fun t26 H15=>vG (convert 52 9 t48) (fun u _=>u=t49) H15 ∧
 ((
 vC 110 #[b0,(.int .i64 36),(.int .i64 4)] (fun t28 H16=>vG (convert 52 9 t48) (fun u _=>u=t49) H16 ∧
 ((
 vC 110 #[b0,(.int .i64 40),(.int .i64 8)] (fun t30 H17=>vG (convert 52 9 t48) (fun u _=>u=t49) H17 ∧
 ((
 vC 110 #[b0,(.int .i64 48),(.int .i64 4)] (fun t32 H18=>vG (convert 52 9 t48) (fun u _=>u=t49) H18 ∧
 ((
 vC 110 #[b0,(.int .i64 52),(.int .i64 4)] (fun t34 H19=>vG (convert 52 9 t48) (fun u _=>u=t49) H19 ∧
 ((
 vC 110 #[b0,(.int .i64 56),(.int .i64 8)] (fun t36 H20=>vG (convert 52 9 t48) (fun u _=>u=t49) H20 ∧
 ((
 vC 110 #[b0,(.int .i64 64),(.int .i64 4)] (fun t38 H21=>vG (convert 52 9 t48) (fun u _=>u=t49) H21 ∧
 ((
 vC 110 #[b0,(.int .i64 68),(.int .i64 4)] (fun t40 H22=>vG (convert 52 9 t48) (fun u _=>u=t49) H22 ∧
 ((
 vC 110 #[b0,(.int .i64 72),(.int .i64 8)] (fun t42 H23=>vG (convert 52 9 t48) (fun u _=>u=t49) H23 ∧
 ((
 vC 110 #[b0,(.int .i64 80),(.int .i64 4)] (fun t44 H24=>vG (convert 52 9 t48) (fun u _=>u=t49) H24 ∧
 vG (build 84 #[(0,t17),(1,t20),(2,t22),(3,t24),(4,t26),(5,t28),(6,t30),(7,t32),(8,t34),(9,t36),(10,t38),(11,t40),(12,t42),(13,t44),(14,t49)]) (fun t50 _ =>
 vF (alloc 84 true undef) (fun h5 H25=>vG (convert 52 9 t48) (fun u _=>u=t49) H25 ∧
 vF (storeS 84 h5 t50) (fun _ H26 =>
 k h5 H26) H25) H24) #[]) H23)∧(
 vF (alloc 84 true undef) (fun h5_1 H27=>vG (convert 52 9 t48) (fun u _=>u=t49) H27 ∧
 vC 110 #[b0,(.int .i64 80),(.int .i64 4)] (fun t44_1 H28=>vG (convert 52 9 t48) (fun u _=>u=t49) H28 ∧
 vG (build 84 #[(0,t17),(1,t20),(2,t22),(3,t24),(4,t26),(5,t28),(6,t30),(7,t32),(8,t34),(9,t36),(10,t38),(11,t40),(12,t42),(13,t44_1),(14,t49)]) (fun t50_1 _ =>
 vF (storeS 84 h5_1 t50_1) (fun _ H29 =>
 k h5_1 H29) H28) #[]) H27) H23))) H22)∧(
 vF (alloc 84 true undef) (fun h5_2 H30=>vG (convert 52 9 t48) (fun u _=>u=t49) H30 ∧
 vC 110 #[b0,(.int .i64 72),(.int .i64 8)] (fun t42_1 H31=>vG (convert 52 9 t48) (fun u _=>u=t49) H31 ∧
 vC 110 #[b0,(.int .i64 80),(.int .i64 4)] (fun t44_2 H32=>vG (convert 52 9 t48) (fun u _=>u=t49) H32 ∧
 vG (build 84 #[(0,t17),(1,t20),(2,t22),(3,t24),(4,t26),(5,t28),(6,t30),(7,t32),(8,t34),(9,t36),(10,t38),(11,t40),(12,t42_1),(13,t44_2),(14,t49)]) (fun t50_2 _ =>
 vF (storeS 84 h5_2 t50_2) (fun _ H33 =>
 k h5_2 H33) H32) #[]) H31) H30) H22))) H21)∧(
 vF (alloc 84 true undef) (fun h5_3 H34=>vG (convert 52 9 t48) (fun u _=>u=t49) H34 ∧
 vC 110 #[b0,(.int .i64 68),(.int .i64 4)] (fun t40_1 H35=>vG (convert 52 9 t48) (fun u _=>u=t49) H35 ∧
 vC 110 #[b0,(.int .i64 72),(.int .i64 8)] (fun t42_2 H36=>vG (convert 52 9 t48) (fun u _=>u=t49) H36 ∧
 vC 110 #[b0,(.int .i64 80),(.int .i64 4)] (fun t44_3 H37=>vG (convert 52 9 t48) (fun u _=>u=t49) H37 ∧
 vG (build 84 #[(0,t17),(1,t20),(2,t22),(3,t24),(4,t26),(5,t28),(6,t30),(7,t32),(8,t34),(9,t36),(10,t38),(11,t40_1),(12,t42_2),(13,t44_3),(14,t49)]) (fun t50_3 _ =>
 vF (storeS 84 h5_3 t50_3) (fun _ H38 =>
 k h5_3 H38) H37) #[]) H36) H35) H34) H21))) H20)∧(
 vF (alloc 84 true undef) (fun h5_4 H39=>vG (convert 52 9 t48) (fun u _=>u=t49) H39 ∧
 vC 110 #[b0,(.int .i64 64),(.int .i64 4)] (fun t38_1 H40=>vG (convert 52 9 t48) (fun u _=>u=t49) H40 ∧
 vC 110 #[b0,(.int .i64 68),(.int .i64 4)] (fun t40_2 H41=>vG (convert 52 9 t48) (fun u _=>u=t49) H41 ∧
 vC 110 #[b0,(.int .i64 72),(.int .i64 8)] (fun t42_3 H42=>vG (convert 52 9 t48) (fun u _=>u=t49) H42 ∧
 vC 110 #[b0,(.int .i64 80),(.int .i64 4)] (fun t44_4 H43=>vG (convert 52 9 t48) (fun u _=>u=t49) H43 ∧
 vG (build 84 #[(0,t17),(1,t20),(2,t22),(3,t24),(4,t26),(5,t28),(6,t30),(7,t32),(8,t34),(9,t36),(10,t38_1),(11,t40_2),(12,t42_3),(13,t44_4),(14,t49)]) (fun t50_4 _ =>
 vF (storeS 84 h5_4 t50_4) (fun _ H44 =>
 k h5_4 H44) H43) #[]) H42) H41) H40) H39) H20))) H19)∧(
 vF (alloc 84 true undef) (fun h5_5 H45=>vG (convert 52 9 t48) (fun u _=>u=t49) H45 ∧
 vC 110 #[b0,(.int .i64 56),(.int .i64 8)] (fun t36_1 H46=>vG (convert 52 9 t48) (fun u _=>u=t49) H46 ∧
 vC 110 #[b0,(.int .i64 64),(.int .i64 4)] (fun t38_2 H47=>vG (convert 52 9 t48) (fun u _=>u=t49) H47 ∧
 vC 110 #[b0,(.int .i64 68),(.int .i64 4)] (fun t40_3 H48=>vG (convert 52 9 t48) (fun u _=>u=t49) H48 ∧
 vC 110 #[b0,(.int .i64 72),(.int .i64 8)] (fun t42_4 H49=>vG (convert 52 9 t48) (fun u _=>u=t49) H49 ∧
 vC 110 #[b0,(.int .i64 80),(.int .i64 4)] (fun t44_5 H50=>vG (convert 52 9 t48) (fun u _=>u=t49) H50 ∧
 vG (build 84 #[(0,t17),(1,t20),(2,t22),(3,t24),(4,t26),(5,t28),(6,t30),(7,t32),(8,t34),(9,t36_1),(10,t38_2),(11,t40_3),(12,t42_4),(13,t44_5),(14,t49)]) (fun t50_5 _ =>
 vF (storeS 84 h5_5 t50_5) (fun _ H51 =>
 k h5_5 H51) H50) #[]) H49) H48) H47) H46) H45) H19))) H18)∧(
 vF (alloc 84 true undef) (fun h5_6 H52=>vG (convert 52 9 t48) (fun u _=>u=t49) H52 ∧
 vC 110 #[b0,(.int .i64 52),(.int .i64 4)] (fun t34_1 H53=>vG (convert 52 9 t48) (fun u _=>u=t49) H53 ∧
 vC 110 #[b0,(.int .i64 56),(.int .i64 8)] (fun t36_2 H54=>vG (convert 52 9 t48) (fun u _=>u=t49) H54 ∧
 vC 110 #[b0,(.int .i64 64),(.int .i64 4)] (fun t38_3 H55=>vG (convert 52 9 t48) (fun u _=>u=t49) H55 ∧
 vC 110 #[b0,(.int .i64 68),(.int .i64 4)] (fun t40_4 H56=>vG (convert 52 9 t48) (fun u _=>u=t49) H56 ∧
 vC 110 #[b0,(.int .i64 72),(.int .i64 8)] (fun t42_5 H57=>vG (convert 52 9 t48) (fun u _=>u=t49) H57 ∧
 vC 110 #[b0,(.int .i64 80),(.int .i64 4)] (fun t44_6 H58=>vG (convert 52 9 t48) (fun u _=>u=t49) H58 ∧
 vG (build 84 #[(0,t17),(1,t20),(2,t22),(3,t24),(4,t26),(5,t28),(6,t30),(7,t32),(8,t34_1),(9,t36_2),(10,t38_3),(11,t40_4),(12,t42_5),(13,t44_6),(14,t49)]) (fun t50_6 _ =>
 vF (storeS 84 h5_6 t50_6) (fun _ H59 =>
 k h5_6 H59) H58) #[]) H57) H56) H55) H54) H53) H52) H18))) H17)∧(
 vF (alloc 84 true undef) (fun h5_7 H60=>vG (convert 52 9 t48) (fun u _=>u=t49) H60 ∧
 vC 110 #[b0,(.int .i64 48),(.int .i64 4)] (fun t32_1 H61=>vG (convert 52 9 t48) (fun u _=>u=t49) H61 ∧
 vC 110 #[b0,(.int .i64 52),(.int .i64 4)] (fun t34_2 H62=>vG (convert 52 9 t48) (fun u _=>u=t49) H62 ∧
 vC 110 #[b0,(.int .i64 56),(.int .i64 8)] (fun t36_3 H63=>vG (convert 52 9 t48) (fun u _=>u=t49) H63 ∧
 vC 110 #[b0,(.int .i64 64),(.int .i64 4)] (fun t38_4 H64=>vG (convert 52 9 t48) (fun u _=>u=t49) H64 ∧
 vC 110 #[b0,(.int .i64 68),(.int .i64 4)] (fun t40_5 H65=>vG (convert 52 9 t48) (fun u _=>u=t49) H65 ∧
 vC 110 #[b0,(.int .i64 72),(.int .i64 8)] (fun t42_6 H66=>vG (convert 52 9 t48) (fun u _=>u=t49) H66 ∧
 vC 110 #[b0,(.int .i64 80),(.int .i64 4)] (fun t44_7 H67=>vG (convert 52 9 t48) (fun u _=>u=t49) H67 ∧
 vG (build 84 #[(0,t17),(1,t20),(2,t22),(3,t24),(4,t26),(5,t28),(6,t30),(7,t32_1),(8,t34_2),(9,t36_3),(10,t38_4),(11,t40_5),(12,t42_6),(13,t44_7),(14,t49)]) (fun t50_7 _ =>
 vF (storeS 84 h5_7 t50_7) (fun _ H68 =>
 k h5_7 H68) H67) #[]) H66) H65) H64) H63) H62) H61) H60) H17))) H16)∧(
 vF (alloc 84 true undef) (fun h5_8 H69=>vG (convert 52 9 t48) (fun u _=>u=t49) H69 ∧
 vC 110 #[b0,(.int .i64 40),(.int .i64 8)] (fun t30_1 H70=>vG (convert 52 9 t48) (fun u _=>u=t49) H70 ∧
 vC 110 #[b0,(.int .i64 48),(.int .i64 4)] (fun t32_2 H71=>vG (convert 52 9 t48) (fun u _=>u=t49) H71 ∧
 vC 110 #[b0,(.int .i64 52),(.int .i64 4)] (fun t34_3 H72=>vG (convert 52 9 t48) (fun u _=>u=t49) H72 ∧
 vC 110 #[b0,(.int .i64 56),(.int .i64 8)] (fun t36_4 H73=>vG (convert 52 9 t48) (fun u _=>u=t49) H73 ∧
 vC 110 #[b0,(.int .i64 64),(.int .i64 4)] (fun t38_5 H74=>vG (convert 52 9 t48) (fun u _=>u=t49) H74 ∧
 vC 110 #[b0,(.int .i64 68),(.int .i64 4)] (fun t40_6 H75=>vG (convert 52 9 t48) (fun u _=>u=t49) H75 ∧
 vC 110 #[b0,(.int .i64 72),(.int .i64 8)] (fun t42_7 H76=>vG (convert 52 9 t48) (fun u _=>u=t49) H76 ∧
 vC 110 #[b0,(.int .i64 80),(.int .i64 4)] (fun t44_8 H77=>vG (convert 52 9 t48) (fun u _=>u=t49) H77 ∧
 vG (build 84 #[(0,t17),(1,t20),(2,t22),(3,t24),(4,t26),(5,t28),(6,t30_1),(7,t32_2),(8,t34_3),(9,t36_4),(10,t38_5),(11,t40_6),(12,t42_7),(13,t44_8),(14,t49)]) (fun t50_8 _ =>
 vF (storeS 84 h5_8 t50_8) (fun _ H78 =>
 k h5_8 H78) H77) #[]) H76) H75) H74) H73) H72) H71) H70) H69) H16))) H15)∧(
 vF (alloc 84 true undef) (fun h5_9 H79=>vG (convert 52 9 t48) (fun u _=>u=t49) H79 ∧
 vC 110 #[b0,(.int .i64 36),(.int .i64 4)] (fun t28_1 H80=>vG (convert 52 9 t48) (fun u _=>u=t49) H80 ∧
 vC 110 #[b0,(.int .i64 40),(.int .i64 8)] (fun t30_2 H81=>vG (convert 52 9 t48) (fun u _=>u=t49) H81 ∧
 vC 110 #[b0,(.int .i64 48),(.int .i64 4)] (fun t32_3 H82=>vG (convert 52 9 t48) (fun u _=>u=t49) H82 ∧
 vC 110 #[b0,(.int .i64 52),(.int .i64 4)] (fun t34_4 H83=>vG (convert 52 9 t48) (fun u _=>u=t49) H83 ∧
 vC 110 #[b0,(.int .i64 56),(.int .i64 8)] (fun t36_5 H84=>vG (convert 52 9 t48) (fun u _=>u=t49) H84 ∧
 vC 110 #[b0,(.int .i64 64),(.int .i64 4)] (fun t38_6 H85=>vG (convert 52 9 t48) (fun u _=>u=t49) H85 ∧
 vC 110 #[b0,(.int .i64 68),(.int .i64 4)] (fun t40_7 H86=>vG (convert 52 9 t48) (fun u _=>u=t49) H86 ∧
 vC 110 #[b0,(.int .i64 72),(.int .i64 8)] (fun t42_8 H87=>vG (convert 52 9 t48) (fun u _=>u=t49) H87 ∧
 vC 110 #[b0,(.int .i64 80),(.int .i64 4)] (fun t44_9 H88=>vG (convert 52 9 t48) (fun u _=>u=t49) H88 ∧
 vG (build 84 #[(0,t17),(1,t20),(2,t22),(3,t24),(4,t26),(5,t28_1),(6,t30_2),(7,t32_3),(8,t34_4),(9,t36_5),(10,t38_6),(11,t40_7),(12,t42_8),(13,t44_9),(14,t49)]) (fun t50_9 _ =>
 vF (storeS 84 h5_9 t50_9) (fun _ H89 =>
 k h5_9 H89) H88) #[]) H87) H86) H85) H84) H83) H82) H81) H80) H79) H15))) H14)∧(
 vF (alloc 84 true undef) (fun h5_10 H90=>vG (convert 52 9 t48) (fun u _=>u=t49) H90 ∧
 vC 110 #[b0,(.int .i64 32),(.int .i64 4)] (fun t26_1 H91=>vG (convert 52 9 t48) (fun u _=>u=t49) H91 ∧
 vC 110 #[b0,(.int .i64 36),(.int .i64 4)] (fun t28_2 H92=>vG (convert 52 9 t48) (fun u _=>u=t49) H92 ∧
 vC 110 #[b0,(.int .i64 40),(.int .i64 8)] (fun t30_3 H93=>vG (convert 52 9 t48) (fun u _=>u=t49) H93 ∧
 vC 110 #[b0,(.int .i64 48),(.int .i64 4)] (fun t32_4 H94=>vG (convert 52 9 t48) (fun u _=>u=t49) H94 ∧
 vC 110 #[b0,(.int .i64 52),(.int .i64 4)] (fun t34_5 H95=>vG (convert 52 9 t48) (fun u _=>u=t49) H95 ∧
 vC 110 #[b0,(.int .i64 56),(.int .i64 8)] (fun t36_6 H96=>vG (convert 52 9 t48) (fun u _=>u=t49) H96 ∧
 vC 110 #[b0,(.int .i64 64),(.int .i64 4)] (fun t38_7 H97=>vG (convert 52 9 t48) (fun u _=>u=t49) H97 ∧
 vC 110 #[b0,(.int .i64 68),(.int .i64 4)] (fun t40_8 H98=>vG (convert 52 9 t48) (fun u _=>u=t49) H98 ∧
 vC 110 #[b0,(.int .i64 72),(.int .i64 8)] (fun t42_9 H99=>vG (convert 52 9 t48) (fun u _=>u=t49) H99 ∧
 vC 110 #[b0,(.int .i64 80),(.int .i64 4)] (fun t44_10 H100=>vG (convert 52 9 t48) (fun u _=>u=t49) H100 ∧
 vG (build 84 #[(0,t17),(1,t20),(2,t22),(3,t24),(4,t26_1),(5,t28_2),(6,t30_3),(7,t32_4),(8,t34_5),(9,t36_6),(10,t38_7),(11,t40_8),(12,t42_9),(13,t44_10),(14,t49)]) (fun t50_10 _ =>
 vF (storeS 84 h5_10 t50_10) (fun _ H101 =>
 k h5_10 H101) H100) #[]) H99) H98) H97) H96) H95) H94) H93) H92) H91) H90) H14))) H13)∧(
 vF (alloc 84 true undef) (fun h5_11 H102=>vG (convert 52 9 t48) (fun u _=>u=t49) H102 ∧
 vC 110 #[b0,(.int .i64 24),(.int .i64 8)] (fun t24_1 H103=>vG (convert 52 9 t48) (fun u _=>u=t49) H103 ∧
 vC 110 #[b0,(.int .i64 32),(.int .i64 4)] (fun t26_2 H104=>vG (convert 52 9 t48) (fun u _=>u=t49) H104 ∧
 vC 110 #[b0,(.int .i64 36),(.int .i64 4)] (fun t28_3 H105=>vG (convert 52 9 t48) (fun u _=>u=t49) H105 ∧
 vC 110 #[b0,(.int .i64 40),(.int .i64 8)] (fun t30_4 H106=>vG (convert 52 9 t48) (fun u _=>u=t49) H106 ∧
 vC 110 #[b0,(.int .i64 48),(.int .i64 4)] (fun t32_5 H107=>vG (convert 52 9 t48) (fun u _=>u=t49) H107 ∧
 vC 110 #[b0,(.int .i64 52),(.int .i64 4)] (fun t34_6 H108=>vG (convert 52 9 t48) (fun u _=>u=t49) H108 ∧
 vC 110 #[b0,(.int .i64 56),(.int .i64 8)] (fun t36_7 H109=>vG (convert 52 9 t48) (fun u _=>u=t49) H109 ∧
 vC 110 #[b0,(.int .i64 64),(.int .i64 4)] (fun t38_8 H110=>vG (convert 52 9 t48) (fun u _=>u=t49) H110 ∧
 vC 110 #[b0,(.int .i64 68),(.int .i64 4)] (fun t40_9 H111=>vG (convert 52 9 t48) (fun u _=>u=t49) H111 ∧
 vC 110 #[b0,(.int .i64 72),(.int .i64 8)] (fun t42_10 H112=>vG (convert 52 9 t48) (fun u _=>u=t49) H112 ∧
 vC 110 #[b0,(.int .i64 80),(.int .i64 4)] (fun t44_11 H113=>vG (convert 52 9 t48) (fun u _=>u=t49) H113 ∧
 vG (build 84 #[(0,t17),(1,t20),(2,t22),(3,t24_1),(4,t26_2),(5,t28_3),(6,t30_4),(7,t32_5),(8,t34_6),(9,t36_7),(10,t38_8),(11,t40_9),(12,t42_10),(13,t44_11),(14,t49)]) (fun t50_11 _ =>
 vF (storeS 84 h5_11 t50_11) (fun _ H114 =>
 k h5_11 H114) H113) #[]) H112) H111) H110) H109) H108) H107) H106) H105) H104) H103) H102) H13))) H12)∧(
 vF (alloc 84 true undef) (fun h5_12 H115=>vG (convert 52 9 t48) (fun u _=>u=t49) H115 ∧
 vC 110 #[b0,(.int .i64 16),(.int .i64 8)] (fun t22_1 H116=>vG (convert 52 9 t48) (fun u _=>u=t49) H116 ∧
 vC 110 #[b0,(.int .i64 24),(.int .i64 8)] (fun t24_2 H117=>vG (convert 52 9 t48) (fun u _=>u=t49) H117 ∧
 vC 110 #[b0,(.int .i64 32),(.int .i64 4)] (fun t26_3 H118=>vG (convert 52 9 t48) (fun u _=>u=t49) H118 ∧
 vC 110 #[b0,(.int .i64 36),(.int .i64 4)] (fun t28_4 H119=>vG (convert 52 9 t48) (fun u _=>u=t49) H119 ∧
 vC 110 #[b0,(.int .i64 40),(.int .i64 8)] (fun t30_5 H120=>vG (convert 52 9 t48) (fun u _=>u=t49) H120 ∧
 vC 110 #[b0,(.int .i64 48),(.int .i64 4)] (fun t32_6 H121=>vG (convert 52 9 t48) (fun u _=>u=t49) H121 ∧
 vC 110 #[b0,(.int .i64 52),(.int .i64 4)] (fun t34_7 H122=>vG (convert 52 9 t48) (fun u _=>u=t49) H122 ∧
 vC 110 #[b0,(.int .i64 56),(.int .i64 8)] (fun t36_8 H123=>vG (convert 52 9 t48) (fun u _=>u=t49) H123 ∧
 vC 110 #[b0,(.int .i64 64),(.int .i64 4)] (fun t38_9 H124=>vG (convert 52 9 t48) (fun u _=>u=t49) H124 ∧
 vC 110 #[b0,(.int .i64 68),(.int .i64 4)] (fun t40_10 H125=>vG (convert 52 9 t48) (fun u _=>u=t49) H125 ∧
 vC 110 #[b0,(.int .i64 72),(.int .i64 8)] (fun t42_11 H126=>vG (convert 52 9 t48) (fun u _=>u=t49) H126 ∧
 vC 110 #[b0,(.int .i64 80),(.int .i64 4)] (fun t44_12 H127=>vG (convert 52 9 t48) (fun u _=>u=t49) H127 ∧
 vG (build 84 #[(0,t17),(1,t20),(2,t22_1),(3,t24_2),(4,t26_3),(5,t28_4),(6,t30_5),(7,t32_6),(8,t34_7),(9,t36_8),(10,t38_9),(11,t40_10),(12,t42_11),(13,t44_12),(14,t49)]) (fun t50_12 _ =>
 vF (storeS 84 h5_12 t50_12) (fun _ H128 =>
 k h5_12 H128) H127) #[]) H126) H125) H124) H123) H122) H121) H120) H119) H118) H117) H116) H115) H12))) H11)∧(
 vF (alloc 84 true undef) (fun h5_13 H129=>vG (convert 52 9 t48) (fun u _=>u=t49) H129 ∧
 vC 55 #[t19] (fun t20_1 H130=>vG (convert 52 9 t48) (fun u _=>u=t49) H130 ∧
 vC 110 #[b0,(.int .i64 16),(.int .i64 8)] (fun t22_2 H131=>vG (convert 52 9 t48) (fun u _=>u=t49) H131 ∧
 vC 110 #[b0,(.int .i64 24),(.int .i64 8)] (fun t24_3 H132=>vG (convert 52 9 t48) (fun u _=>u=t49) H132 ∧
 vC 110 #[b0,(.int .i64 32),(.int .i64 4)] (fun t26_4 H133=>vG (convert 52 9 t48) (fun u _=>u=t49) H133 ∧
 vC 110 #[b0,(.int .i64 36),(.int .i64 4)] (fun t28_5 H134=>vG (convert 52 9 t48) (fun u _=>u=t49) H134 ∧
 vC 110 #[b0,(.int .i64 40),(.int .i64 8)] (fun t30_6 H135=>vG (convert 52 9 t48) (fun u _=>u=t49) H135 ∧
 vC 110 #[b0,(.int .i64 48),(.int .i64 4)] (fun t32_7 H136=>vG (convert 52 9 t48) (fun u _=>u=t49) H136 ∧
 vC 110 #[b0,(.int .i64 52),(.int .i64 4)] (fun t34_8 H137=>vG (convert 52 9 t48) (fun u _=>u=t49) H137 ∧
 vC 110 #[b0,(.int .i64 56),(.int .i64 8)] (fun t36_9 H138=>vG (convert 52 9 t48) (fun u _=>u=t49) H138 ∧
 vC 110 #[b0,(.int .i64 64),(.int .i64 4)] (fun t38_10 H139=>vG (convert 52 9 t48) (fun u _=>u=t49) H139 ∧
 vC 110 #[b0,(.int .i64 68),(.int .i64 4)] (fun t40_11 H140=>vG (convert 52 9 t48) (fun u _=>u=t49) H140 ∧
 vC 110 #[b0,(.int .i64 72),(.int .i64 8)] (fun t42_12 H141=>vG (convert 52 9 t48) (fun u _=>u=t49) H141 ∧
 vC 110 #[b0,(.int .i64 80),(.int .i64 4)] (fun t44_13 H142=>vG (convert 52 9 t48) (fun u _=>u=t49) H142 ∧
 vG (build 84 #[(0,t17),(1,t20_1),(2,t22_2),(3,t24_3),(4,t26_4),(5,t28_5),(6,t30_6),(7,t32_7),(8,t34_8),(9,t36_9),(10,t38_10),(11,t40_11),(12,t42_12),(13,t44_13),(14,t49)]) (fun t50_13 _ =>
 vF (storeS 84 h5_13 t50_13) (fun _ H143 =>
 k h5_13 H143) H142) #[]) H141) H140) H139) H138) H137) H136) H135) H134) H133) H132) H131) H130) H129) H11))) H10)∧(
 vF (alloc 84 true undef) (fun h5_14 H144=>vG (convert 52 9 t48) (fun u _=>u=t49) H144 ∧
 vC 110 #[b0,(.int .i64 4),(.int .i64 4)] (fun t17_1 H145=>vG (convert 52 9 t48) (fun u _=>u=t49) H145 ∧
 vC 55 #[t19] (fun t20_2 H146=>vG (convert 52 9 t48) (fun u _=>u=t49) H146 ∧
 vC 110 #[b0,(.int .i64 16),(.int .i64 8)] (fun t22_3 H147=>vG (convert 52 9 t48) (fun u _=>u=t49) H147 ∧
 vC 110 #[b0,(.int .i64 24),(.int .i64 8)] (fun t24_4 H148=>vG (convert 52 9 t48) (fun u _=>u=t49) H148 ∧
 vC 110 #[b0,(.int .i64 32),(.int .i64 4)] (fun t26_5 H149=>vG (convert 52 9 t48) (fun u _=>u=t49) H149 ∧
 vC 110 #[b0,(.int .i64 36),(.int .i64 4)] (fun t28_6 H150=>vG (convert 52 9 t48) (fun u _=>u=t49) H150 ∧
 vC 110 #[b0,(.int .i64 40),(.int .i64 8)] (fun t30_7 H151=>vG (convert 52 9 t48) (fun u _=>u=t49) H151 ∧
 vC 110 #[b0,(.int .i64 48),(.int .i64 4)] (fun t32_8 H152=>vG (convert 52 9 t48) (fun u _=>u=t49) H152 ∧
 vC 110 #[b0,(.int .i64 52),(.int .i64 4)] (fun t34_9 H153=>vG (convert 52 9 t48) (fun u _=>u=t49) H153 ∧
 vC 110 #[b0,(.int .i64 56),(.int .i64 8)] (fun t36_10 H154=>vG (convert 52 9 t48) (fun u _=>u=t49) H154 ∧
 vC 110 #[b0,(.int .i64 64),(.int .i64 4)] (fun t38_11 H155=>vG (convert 52 9 t48) (fun u _=>u=t49) H155 ∧
 vC 110 #[b0,(.int .i64 68),(.int .i64 4)] (fun t40_12 H156=>vG (convert 52 9 t48) (fun u _=>u=t49) H156 ∧
 vC 110 #[b0,(.int .i64 72),(.int .i64 8)] (fun t42_13 H157=>vG (convert 52 9 t48) (fun u _=>u=t49) H157 ∧
 vC 110 #[b0,(.int .i64 80),(.int .i64 4)] (fun t44_14 H158=>vG (convert 52 9 t48) (fun u _=>u=t49) H158 ∧
 vG (build 84 #[(0,t17_1),(1,t20_2),(2,t22_3),(3,t24_4),(4,t26_5),(5,t28_6),(6,t30_7),(7,t32_8),(8,t34_9),(9,t36_10),(10,t38_11),(11,t40_12),(12,t42_13),(13,t44_14),(14,t49)]) (fun t50_14 _ =>
 vF (storeS 84 h5_14 t50_14) (fun _ H159 =>
 k h5_14 H159) H158) #[]) H157) H156) H155) H154) H153) H152) H151) H150) H149) H148) H147) H146) H145) H144) H10))) H10) #[]) #[]) #[])
 (fun h5_15 H160 =>
 vF (loadAt 84 h5_15) (fun t51 H161 =>
 vC 73 #[t51] (fun t52 H162 =>
 vG (Op.unary .not t52) (fun t54 _ =>
 vJ t54 false (vG (loadAt 84 h5_15)) (fun t56 _ =>
 vJ t54 false (vV b0) (fun t59 _ =>
 vJ t54 false (vG (sliceAt 52 t59 none (some (.int .i64 512)) none)) (fun t60 _ =>
 vJ t54 false (vG (convert 52 9 t60)) (fun t61 _ =>
 vJ t54 false (vC 75 #[t56]) (fun t57 H168=>vJ t54 false (vG (convert 52 9 t60)) (fun u _=>u=t61) H168 ∧
 vJ t54 false (vG (convert 52 9 t57)) (fun t58 _ =>
 vJ t54 false (vG (vt .neq 9 58 61 t58 t61)) (fun t62 _ =>
 vG (pickS t54 (.bool true) t62) (fun t63 _ =>
 vD t63 (
 vF (build 84 #[]) (fun t64 H171 =>
 vF (storeS 84 t2 t64) (fun _ H172 =>
 vG (loadCell 84 t2) (fun r_2 _ =>
 R (.tuple #[r_2,(.bool false)]) H172) H172) H171) H168) (
 vF (loadAt 84 h5_15) (fun t65 H173 =>
 vF (storeS 84 t2 t65) (fun _ H174 =>
 vG (loadCell 84 t2) (fun r_3 _ =>
 R (.tuple #[r_3,(.bool true)]) H174) H174) H173) H168)) #[]) #[]) H168) H162) H162) #[]) #[]) H162) #[]) H161) H160) H7 ⟨⟩ ⟨⟩)) H6) H3)) H2) H1) h

theorem n54_calls {b0:Value} {R:VP} {h:Heap} (H:n54 b0 R h):CallsH Tryz.prog 54 #[b0] h R ⟨⟩ :=
 callsH_of_eq Tryz.follow (.n none .l (.n none .l (.n none .l (.n none .l (.n (some [6]) .l .l))))) Tryz.func54 kR kR kR H

def n55 (b0:Value) (R:VP) (h:Heap):Prop :=
 vF (len_ #[52] 3 #[b0]) (fun t6 H1 =>
 vF (vk .sub 3 6 .i64 1 t6) (fun t7 H2 =>
 LoopC 2 (fun (X:Value→VP)=>fun x3 i4 H3 =>
 vF (vk .geq 3 8 .i64 0 i4) (fun t9 H4 =>
 vD t9 (
 vF (binS .mul 44 (.const (.int .u64 256)) (.tmp 12) (.int .u64 256) x3) (fun t13 H5 =>
 vF (indexAt 52 b0 i4) (fun t16 H6 =>
 vF (loadAt 5 t16) (fun t17 H7 =>
 vF (convert 5 44 t17) (fun t18 H8 =>
 vF (vt .add 44 13 18 t13 t18) (fun t19 H9 =>
 vF (vk .sub 3 10 .i64 1 i4) (fun t11 H10 =>
 X t19 t11 H10) H9) H8) H7) H6) H5) H4) (
 R x3 H4)) H3) [(.int .u64 0),t7] H2 ⟨⟩) H1) h

theorem n55_calls {b0:Value} {R:VP} {h:Heap} (H:n55 b0 R h):CallsH Tryz.prog 55 #[b0] h R ⟨⟩ :=
 callsH_of_eq Tryz.follow (.n none .l (.n none .l (.n none (.n none .l (.n none (.n (some [4,5]) .l .l) .l)) .l))) Tryz.func55 kR kR kR H

def n56 (b0 order1 i2:Value) (R:VP) (h:Heap):Prop :=
 vC 37 #[order1] (fun t12 H1 =>
 vF (vk .sub 3 13 .i64 1 t12) (fun t14 H2 =>
 LoopC 2 (fun (X:Value→VP)=>fun x8 k9 H3 =>
 vF (vk .geq 3 15 .i64 0 k9) (fun t16 H4 =>
 vD t16 (
 vF (vt .mul 3 19 20 i2 t12) (fun t21 H5 =>
 vF (vt .add 3 21 22 t21 k9) (fun t23 H6 =>
 vF (binS .mul 44 (.const (.int .u64 2)) (.tmp 24) (.int .u64 2) x8) (fun t25 H7 =>
 vF (vk .quo 3 27 .i64 8 t23) (fun t28 H8 =>
 vF (indexAt 52 b0 t28) (fun t29 H9 =>
 vF (loadAt 5 t29) (fun t30 H10 =>
 vF (vk .rem 3 31 .i64 8 t23) (fun t32 H11 =>
 vF (vt .shr 5 30 32 t30 t32) (fun t33 H12 =>
 vF (vk .rem 5 33 .u8 2 t33) (fun t34 H13 =>
 vF (convert 5 44 t34) (fun t35 H14 =>
 vF (vt .add 44 25 35 t25 t35) (fun t36 H15 =>
 vF (vk .sub 3 17 .i64 1 k9) (fun t18 H16 =>
 X t36 t18 H16) H15) H14) H13) H12) H11) H10) H9) H8) H7) H6) H5) H4) (
 R x8 H4)) H3) [(.int .u64 0),t14] H2 ⟨⟩) H1) h

theorem n56_calls {b0 order1 i2:Value} {R:VP} {h:Heap} (H:n56 b0 order1 i2 R h):CallsH Tryz.prog 56 #[b0,order1,i2] h R ⟨⟩ :=
 callsH_of_eq Tryz.follow (.n none .l (.n none .l (.n none .l (.n none (.n none .l (.n none (.n (some [9,10]) .l .l) .l)) .l)))) Tryz.func56 kR kR kR H

def n57 (s0 name1 size2:Value) (R:VP) (h:Heap):Prop :=
 vC 38 #[s0,name1] (fun t17 H1 =>
 vF (extract t17 0) (fun t18 H2 =>
 vF (extract t17 1) (fun t19 H3 =>
 vF (vk .neq 31 21 .i64 0 t19) (fun t22 H4 =>
 vD t22 (
 R t19 H4) (
 vF (vk .lss 2 25 .i64 0 size2) (fun t26 H5 =>
 vD t26 (
 R (.int .i64 4) H5) (
 vF (vk .gtr 2 28 .i64 268435456 size2) (fun t29 H6 =>
 vD t29 (
 R (.int .i64 6) H6) (
 vC 81 #[s0] (fun t32 H7 =>
 vF (extract t32 0) (fun t33 H8 =>
 vF (extract t32 1) (fun t34 H9 =>
 vF (vk .neq 31 35 .i64 0 t33) (fun t36 H10 =>
 vD t36 (
 R t33 H10) (
 vC 82 #[t18,size2] (fun t40 H11 =>
 vG (nilS t18) (fun t44 _ =>
 vG (fieldAt 97 t44 2) (fun t45 _ =>
 vG (loadAt 52 t45) (fun t46 _ =>
 vG (sliceAt 52 t46 none (some size2) (some size2)) (fun t49 _ =>
 vG (nilS t18) (fun t51 _ =>
 vG (fieldAt 97 t51 0) (fun t52 _ =>
 vG (loadAt 52 t52) (fun t53 _ =>
 vG (sliceAt 52 t53 none (some size2) (some size2)) (fun t56 _ =>
 vG (nilS t18) (fun t57 _ =>
 vG (fieldAt 97 t57 2) (fun t58 _ =>
 vF (storeS 52 t58 t49) (fun _ H12 =>
 vG (nilS t18) (fun t59 _ =>
 vG (fieldAt 97 t59 0) (fun t60 _ =>
 vF (storeS 52 t60 t56) (fun _ H13 =>
 vF (nilS t18) (fun t62 H14 =>
 vF (fieldAt 97 t62 1) (fun t63 H15 =>
 vF (loadAt 95 t63) (fun t64 H16 =>
 vF (len_ #[95] 3 #[t64]) (fun t65 H17 =>
 LoopC 2 (fun (X:Value→VP)=>fun stay11 t66 H18 =>
 vF (vt .lss 3 66 65 t66 t65) (fun t67 H19 =>
 vD t67 (
 JoinN 1 (fun (k:VP) H20 =>
 JoinN 1 (fun (k_1:VP) H21 =>
 vF (indexAt 95 t64 t66) (fun t68 H22 =>
 vF (loadAt 146 t68) (fun t69 H23 =>
 vF (alloc 146 true undef) (fun p13 H24 =>
 vF (storeS 146 p13 t69) (fun _ H25 =>
 vF (fieldAt 146 p13 0) (fun t70 H26 =>
 vF (loadAt 2 t70) (fun t71 H27 =>
 vF (vt .lss 2 71 72 t71 size2) (fun t73 H28 =>
 vD t73 (
 vF (fieldAt 146 p13 1) (fun t74 H29 =>
 vF (loadAt 52 t74) (fun t75 H30 =>
 vF (fieldAt 146 p13 1) (fun t76 H31 =>
 vF (loadAt 52 t76) (fun t77 H32 =>
 vF (len_ #[52] 3 #[t77]) (fun t78 H33 =>
 vF (fieldAt 146 p13 0) (fun t80 H34 =>
 vF (loadAt 2 t80) (fun t81 H35 =>
 vF (vt .sub 2 79 81 size2 t81) (fun t82 H36 =>
 vF (min_ #[2,2] 2 #[t78,t82]) (fun t83 H37 =>
 vF (sliceAt 52 t75 none (some t83) none) (fun t84 H38 =>
 vF (fieldAt 146 p13 1) (fun t85 H39 =>
 vF (storeS 52 t85 t84) (fun _ H40 =>
 vF (loadAt 146 p13) (fun t87 H41 =>
 vF (buildSlice 95 1 #[(0,t87)]) (fun t88 H42 =>
 vF (append_ #[95,95] 95 #[stay11,t88]) (fun t89 H43 =>
 k_1 t89 H43) H42) H41) H40) H39) H38) H37) H36) H35) H34) H33) H32) H31) H30) H29) H28) (
 k_1 stay11 H28)) H27) H26) H25) H24) H23) H22) H21)
 (fun stay11_1 H44 =>
 k stay11_1 H44) H20 ⟨⟩ ⟨⟩)
 (fun stay11_2 H45 =>
 vF (vk .add 3 66 .i64 1 t66) (fun t90 H46 =>
 X stay11_2 t90 H46) H45) H19 ⟨⟩ ⟨⟩) (
 vF (nilS t18) (fun t93 H47 =>
 vF (fieldAt 97 t93 1) (fun t94 H48 =>
 vF (storeS 95 t94 stay11) (fun _ H49 =>
 R (.int .i64 0) H49) H48) H47) H19)) H18) [(.slice none 0 0),(.int .i64 0)] H17 ⟨⟩) H16) H15) H14) H13) H12) #[]) #[]) H11) #[]) #[]) #[]) H11) #[]) #[]) #[]) H11) #[]) #[]) H10)) H9) H8) H7) H6)) H5)) H4)) H3) H2) H1) h

theorem n57_calls {s0 name1 size2:Value} {R:VP} {h:Heap} (H:n57 s0 name1 size2 R h):CallsH Tryz.prog 57 #[s0,name1,size2] h R ⟨⟩ :=
 callsH_of_eq Tryz.follow (.n none .l (.n none .l (.n none .l (.n none .l (.n none .l (.n none .l (.n none .l (.n none (.n none .l (.n none (.n (some [12,67]) (.n none .l (.n none .l (.n (some [12]) (.n (some [12]) .l .l) .l))) .l) .l)) .l)))))))) Tryz.func57 kR kR kR H

def n60 (b0:Value) (R:VP) (h:Heap):Prop :=
 vC 54 #[b0] (fun t9 H1 =>
 vF (extract t9 0) (fun t10 H2 =>
 vF (extract t9 1) (fun t11 H3 =>
 vF (alloc 84 true undef) (fun h4 H4 =>
 vF (storeS 84 h4 t10) (fun _ H5 =>
 vF (Op.unary .not t11) (fun t13 H6 =>
 vD t13 (
 R (.tuple #[(.pointer none),(.int .i64 180)]) H6) (
 vF (loadAt 84 h4) (fun t15 H7 =>
 vF (build 183 #[(0,(.int .i64 0)),(1,(.int .i64 1))]) (fun t16 H8 =>
 vF (buildSlice 128 1 #[(0,t16)]) (fun t17 H9 =>
 vF (build 130 #[(0,b0),(1,t15),(2,t17)]) (fun t18 H10 =>
 vF (box 130 t18) (fun t19 H11 =>
 vC 114 #[t19] (fun t21 H12 =>
 vF (nilS t19) (fun t23 H13 =>
 vF (fieldAt 130 t23 5) (fun t24 H14 =>
 vF (storeS 4 t24 (.bool true)) (fun _ H15 =>
 vF (fieldAt 84 h4 3) (fun t26 H16 =>
 vF (loadAt 2 t26) (fun t27 H17 =>
 vF (fieldAt 84 h4 4) (fun t28 H18 =>
 vF (loadAt 3 t28) (fun t29 H19 =>
 vC 115 #[t19,t27,t29,(.int .i64 24)] (fun t30 H20 =>
 vF (nilS t19) (fun t32 H21 =>
 vF (fieldAt 130 t32 5) (fun t33 H22 =>
 vF (storeS 4 t33 (.bool false)) (fun _ H23 =>
 vC 116 #[t19] (fun t35 H24 =>
 R (.tuple #[t19,(.int .i64 0)]) H24) H23) H22) H21) H20) H19) H18) H17) H16) H15) H14) H13) H12) H11) H10) H9) H8) H7) H6)) H5) H4) H3) H2) H1) h

theorem n60_calls {b0:Value} {R:VP} {h:Heap} (H:n60 b0 R h):CallsH Tryz.prog 60 #[b0] h R ⟨⟩ :=
 callsH_of_eq Tryz.follow .l Tryz.func60 kR kR kR H

def n61 (w0:Value) (R:VP) (h:Heap):Prop :=
 vG (nilS w0) (fun t4 _ =>
 vG (fieldAt 130 t4 0) (fun t5 _ =>
 vG (loadAt 52 t5) (fun t6 _ =>
 vG (len_ #[52] 3 #[t6]) (fun t7 _ =>
 vC 117 #[w0] (fun t9 H1=>vG (loadAt 52 t5) (fun u _=>u=t6) H1 ∧
 vG (vt .quo 2 7 9 t7 t9) (fun t10 _ =>
 R t10 H1) #[]) h) #[]) h) #[]) #[]

theorem n61_calls {w0:Value} {R:VP} {h:Heap} (H:n61 w0 R h):CallsH Tryz.prog 61 #[w0] h R ⟨⟩ :=
 callsH_of_eq Tryz.follow .l Tryz.func61 kR kR kR H

def n62 (w0:Value) (R:VP) (h:Heap):Prop :=
 LoopC 2 (fun (X:Value→VP)=>fun n3 i4 H1 =>
 vF (nilS w0) (fun t9 H2 =>
 vF (fieldAt 130 t9 2) (fun t10 H3 =>
 vF (loadAt 128 t10) (fun t11 H4 =>
 vF (len_ #[128] 3 #[t11]) (fun t12 H5 =>
 vF (vt .lss 3 7 12 i4 t12) (fun t13 H6 =>
 vD t13 (
 vF (nilS w0) (fun t18 H7 =>
 vF (fieldAt 130 t18 2) (fun t19 H8 =>
 vF (loadAt 128 t19) (fun t20 H9 =>
 vF (indexAt 128 t20 i4) (fun t22 H10 =>
 vF (fieldAt 183 t22 0) (fun t23 H11 =>
 vF (loadAt 2 t23) (fun t24 H12 =>
 vF (vk .add 2 24 .i64 1 t24) (fun t25 H13 =>
 vF (max_ #[2,2] 2 #[n3,t25]) (fun t26 H14 =>
 vF (vk .add 3 14 .i64 1 i4) (fun t15 H15 =>
 X t26 t15 H15) H14) H13) H12) H11) H10) H9) H8) H7) H6) (
 vG (nilS w0) (fun t31 _ =>
 vG (fieldAt 130 t31 1) (fun t32 _ =>
 vG (fieldAt 84 t32 5) (fun t33 _ =>
 vG (loadAt 3 t33) (fun t34 _ =>
 vC 117 #[w0] (fun t28 H16=>vG (loadAt 3 t33) (fun u _=>u=t34) H16 ∧
 vG (binS .mul 2 (.const (.int .i64 8)) (.tmp 28) (.int .i64 8) t28) (fun t29 _ =>
 vC 37 #[t34] (fun t35 H17 =>
 vG (vt .quo 2 29 35 t29 t35) (fun t36 _ =>
 LoopC 2 (fun (X_1:Value→VP)=>fun n3_1 i6 H18 =>
 vF (nilS w0) (fun t39 H19 =>
 vF (fieldAt 130 t39 6) (fun t40 H20 =>
 vF (loadAt 47 t40) (fun t41 H21 =>
 vF (len_ #[47] 3 #[t41]) (fun t42 H22 =>
 vF (vt .lss 3 37 42 i6 t42) (fun t43 H23 =>
 vD t43 (
 JoinN 1 (fun (k:VP) H24 =>
 JoinN 1 (fun (k_1:VP) H25 =>
 vF (nilS w0) (fun t47 H26 =>
 vF (fieldAt 130 t47 6) (fun t48 H27 =>
 vF (loadAt 47 t48) (fun t49 H28 =>
 vF (indexAt 47 t49 i6) (fun t51 H29 =>
 vF (loadAt 2 t51) (fun t52 H30 =>
 vF (vk .neq 2 52 .i64 0 t52) (fun t53 H31 =>
 vD t53 (
 vF (vk .add 3 55 .i64 1 i6) (fun t56 H32 =>
 vF (vt .mul 2 56 57 t56 t36) (fun t58 H33 =>
 vF (max_ #[2,2] 2 #[n3_1,t58]) (fun t59 H34 =>
 k_1 t59 H34) H33) H32) H31) (
 k_1 n3_1 H31)) H30) H29) H28) H27) H26) H25)
 (fun n3_2 H35 =>
 k n3_2 H35) H24 ⟨⟩ ⟨⟩)
 (fun n3_3 H36 =>
 vF (vk .add 3 44 .i64 1 i6) (fun t45 H37 =>
 X_1 n3_3 t45 H37) H36) H23 ⟨⟩ ⟨⟩) (
 R n3_1 H23)) H22) H21) H20) H19) H18) [n3,(.int .i64 0)] H17 ⟨⟩) #[]) H16) #[]) H6) H6) #[]) #[]) #[])) H5) H4) H3) H2) H1) [(.int .i64 0),(.int .i64 0)] h ⟨⟩

theorem n62_calls {w0:Value} {R:VP} {h:Heap} (H:n62 w0 R h):CallsH Tryz.prog 62 #[w0] h R ⟨⟩ :=
 callsH_of_eq Tryz.follow (.n none .l (.n none .l (.n none (.n none .l (.n none (.n (some [4,5]) .l .l) .l)) (.n none .l (.n none (.n none .l (.n none (.n (some [4,7]) (.n none .l (.n (some [4]) (.n (some [4]) .l .l) .l)) .l) .l)) .l))))) Tryz.func62 kR kR kR H

def n63 (w0 k1:Value) (R:VP) (h:Heap):Prop :=
 LoopC 4 (fun (X:Value→Value→Value→VP)=>fun n6 how7 ok8 i9 H1 =>
 vF (nilS w0) (fun t12 H2 =>
 vF (fieldAt 130 t12 2) (fun t13 H3 =>
 vF (loadAt 128 t13) (fun t14 H4 =>
 vF (len_ #[128] 3 #[t14]) (fun t15 H5 =>
 vF (vt .lss 3 10 15 i9 t15) (fun t16 H6 =>
 vD t16 (
 JoinN 3 (fun (k:Value→Value→VP) H7 =>
 JoinN 3 (fun (k_1:Value→Value→VP) H8 =>
 vF (nilS w0) (fun t20 H9 =>
 vF (fieldAt 130 t20 2) (fun t21 H10 =>
 vF (loadAt 128 t21) (fun t22 H11 =>
 vF (indexAt 128 t22 i9) (fun t24 H12 =>
 vF (fieldAt 183 t24 0) (fun t25 H13 =>
 vF (loadAt 2 t25) (fun t26 H14 =>
 vF (vt .neq 2 26 27 t26 k1) (fun t28 H15 =>
 vD t28 (
 k_1 n6 how7 ok8 H15) (
 vJ ok8 true (vV n6) (fun t31 H17 =>
 vJ ok8 true (vF (vk .eql 44 31 .u64 0 t31)) (fun t32 H19 =>
 vJ ok8 true (vV t32) (fun t33 H21 =>
 vJ t33 false (vV w0) (fun t34 H23 =>
 vJ t33 false (vF (nilS t34)) (fun t35 H25 =>
 vJ t33 false (vF (fieldAt 130 t35 2)) (fun t36 H27 =>
 vJ t33 false (vF (loadAt 128 t36)) (fun t37 H29 =>
 vJ t33 false (vV i9) (fun t38 H31 =>
 vJ t33 false (vF (indexAt 128 t37 t38)) (fun t39 H33 =>
 vJ t33 false (vF (fieldAt 183 t39 1)) (fun t40 H35 =>
 vJ t33 false (vF (loadAt 3 t40)) (fun t41 H37 =>
 vJ t33 false (vV how7) (fun t42 H39 =>
 vJ t33 false (vF (vt .eql 3 41 42 t41 t42)) (fun t43 H41 =>
 vJ t33 false (vV t43) (fun t44 H43 =>
 vJ t44 true (vV how7) (fun t45 H45 =>
 vJ t44 true (vF (vk .neq 3 45 .i64 1 t45)) (fun t46 H47 =>
 vJ t33 false (vF (pickS t44 t46 (.bool false))) (fun t47 H49 =>
 vJ ok8 true (vF (pickS t33 (.bool true) t47)) (fun t48 H51 =>
 vF (pickS ok8 t48 (.bool false)) (fun t49 H52 =>
 vF (nilS w0) (fun t51 H53 =>
 vF (fieldAt 130 t51 2) (fun t52 H54 =>
 vF (loadAt 128 t52) (fun t53 H55 =>
 vF (indexAt 128 t53 i9) (fun t55 H56 =>
 vF (fieldAt 183 t55 1) (fun t56 H57 =>
 vF (loadAt 3 t56) (fun t57 H58 =>
 vF (vk .add 44 58 .u64 1 n6) (fun t59 H59 =>
 k_1 t59 t57 t49 H59) H58) H57) H56) H55) H54) H53) H52) H51) H49) H47) H45) H43) H41) H39) H37) H35) H33) H31) H29) H27) H25) H23) H21) H19) H17) H15)) H14) H13) H12) H11) H10) H9) H8)
 (fun n6_1 how7_1 ok8_1 H60 =>
 k n6_1 how7_1 ok8_1 H60) H7 ⟨⟩ ⟨⟩)
 (fun n6_2 how7_2 ok8_2 H61 =>
 vF (vk .add 3 17 .i64 1 i9) (fun t18 H62 =>
 X n6_2 how7_2 ok8_2 t18 H62) H61) H6 ⟨⟩ ⟨⟩) (
 R (.tuple #[n6,ok8]) H6)) H5) H4) H3) H2) H1) [(.int .u64 0),(.int .i64 0),(.bool true),(.int .i64 0)] h ⟨⟩

theorem n63_calls {w0 k1:Value} {R:VP} {h:Heap} (H:n63 w0 k1 R h):CallsH Tryz.prog 63 #[w0,k1] h R ⟨⟩ :=
 callsH_of_eq Tryz.follow (.n none .l (.n none .l (.n none (.n none .l (.n none (.n (some [7,8,9,10]) (.n none .l (.n (some [7,8,9]) (.n (some [7,8,9]) .l .l) .l)) .l) .l)) .l))) Tryz.func63 kR kR kR H

def n64 (w0 k1:Value) (R:VP) (h:Heap):Prop :=
 vG (nilS w0) (fun t11 _ =>
 vG (fieldAt 130 t11 1) (fun t12 _ =>
 vG (fieldAt 84 t12 5) (fun t13 _ =>
 vG (loadAt 3 t13) (fun t14 _ =>
 vC 117 #[w0] (fun t8 H1=>vG (loadAt 3 t13) (fun u _=>u=t14) H1 ∧
 vG (binS .mul 2 (.const (.int .i64 8)) (.tmp 8) (.int .i64 8) t8) (fun t9 _ =>
 vC 37 #[t14] (fun t15 H2 =>
 vG (vt .quo 2 9 15 t9 t15) (fun t16 _ =>
 vG (vt .quo 2 17 18 k1 t16) (fun t19 _ =>
 vG (nilS w0) (fun t21 _ =>
 vG (fieldAt 130 t21 6) (fun t22 _ =>
 vG (loadAt 47 t22) (fun t23 _ =>
 vG (len_ #[47] 3 #[t23]) (fun t24 _ =>
 vG (vt .geq 2 19 24 t19 t24) (fun t25 _ =>
 vJ t25 false (vV w0) (fun t27 _ =>
 vJ t25 false (vG (nilS t27)) (fun t28 _ =>
 vJ t25 false (vG (fieldAt 130 t28 6)) (fun t29 _ =>
 vJ t25 false (vG (loadAt 47 t29)) (fun t30 _ =>
 vJ t25 false (vV k1) (fun t31 _ =>
 vJ t25 false (vV t16) (fun t32 _ =>
 vJ t25 false (vG (vt .quo 2 31 32 t31 t32)) (fun t33 _ =>
 vJ t25 false (vG (indexAt 47 t30 t33)) (fun t34 _ =>
 vJ t25 false (vG (loadAt 2 t34)) (fun t35 _ =>
 vJ t25 false (vG (vk .eql 2 35 .i64 0 t35)) (fun t36 _ =>
 vG (pickS t25 (.bool true) t36) (fun t37 _ =>
 vD t37 (
 R (.int .u64 0) H2) (
 vG (nilS w0) (fun t39 _ =>
 vG (fieldAt 130 t39 6) (fun t40 _ =>
 vG (loadAt 47 t40) (fun t41 _ =>
 vG (vt .quo 2 42 43 k1 t16) (fun t44 _ =>
 vG (indexAt 47 t41 t44) (fun t45 _ =>
 vG (loadAt 2 t45) (fun t46 _ =>
 vG (nilS w0) (fun t48 _ =>
 vG (fieldAt 130 t48 0) (fun t49 _ =>
 vG (loadAt 52 t49) (fun t50 _ =>
 vG (nilS w0) (fun t58 _ =>
 vG (fieldAt 130 t58 1) (fun t59 _ =>
 vG (fieldAt 84 t59 5) (fun t60 _ =>
 vG (loadAt 3 t60) (fun t61 _ =>
 vG (vt .rem 2 62 63 k1 t16) (fun t64 _ =>
 vC 117 #[w0] (fun t54 H13=>vG (loadAt 3 t60) (fun u _=>u=t61) H13∧vG (loadAt 52 t49) (fun u _=>u=t50) H13 ∧
 vG (vt .add 2 52 54 t46 t54) (fun t55 _ =>
 vG (sliceAt 52 t50 (some t46) (some t55) none) (fun t56 _ =>
 vC 56 #[t56,t61,t64] (fun t65 H14 =>
 R t65 H14) H13) #[]) #[]) H2) #[]) H2) #[]) #[]) #[]) H2) #[]) #[]) H2) #[]) #[]) H2) #[]) #[])) #[]) #[]) H2) #[]) #[]) #[]) #[]) H2) #[]) #[]) #[]) #[]) #[]) H2) #[]) #[]) #[]) #[]) H1) #[]) h) h) #[]) #[]) #[]

theorem n64_calls {w0 k1:Value} {R:VP} {h:Heap} (H:n64 w0 k1 R h):CallsH Tryz.prog 64 #[w0,k1] h R ⟨⟩ :=
 callsH_of_eq Tryz.follow .l Tryz.func64 kR kR kR H

def n65 (l0 x1:Value) (R:VP) (h:Heap):Prop :=
 vF (box 134 x1) (fun x3 H1 =>
 vF (len_ #[61] 3 #[l0]) (fun t8 H2 =>
 LoopC 1 (fun (X:VP)=>fun at5 H3 =>
 vG (vk .gtr 3 9 .i64 0 at5) (fun t10 _ =>
 vJ t10 true (vV l0) (fun t12 _ =>
 vJ t10 true (vV at5) (fun t13 _ =>
 vJ t10 true (vG (vk .sub 3 13 .i64 1 t13)) (fun t14 _ =>
 vJ t10 true (vG (indexAt 61 t12 t14)) (fun t15 _ =>
 vJ t10 true (vG (fieldAt 134 t15 1)) (fun t16 _ =>
 vJ t10 true (vG (loadAt 2 t16)) (fun t17 _ =>
 vJ t10 true (vG (fieldAt 134 x3 1)) (fun t18 _ =>
 vJ t10 true (vG (loadAt 2 t18)) (fun t19 _ =>
 vJ t10 true (vG (vt .gtr 2 17 19 t17 t19)) (fun t20 _ =>
 vJ t10 true (vV t20) (fun t21 _ =>
 vJ t21 false (vV l0) (fun t22 _ =>
 vJ t21 false (vV at5) (fun t23 _ =>
 vJ t21 false (vG (vk .sub 3 23 .i64 1 t23)) (fun t24 _ =>
 vJ t21 false (vG (indexAt 61 t22 t24)) (fun t25 _ =>
 vJ t21 false (vG (fieldAt 134 t25 1)) (fun t26 _ =>
 vJ t21 false (vG (loadAt 2 t26)) (fun t27 _ =>
 vJ t21 false (vG (fieldAt 134 x3 1)) (fun t28 _ =>
 vJ t21 false (vG (loadAt 2 t28)) (fun t29 _ =>
 vJ t21 false (vG (vt .eql 2 27 29 t27 t29)) (fun t30 _ =>
 vJ t21 false (vV t30) (fun t31 _ =>
 vJ t31 true (vV l0) (fun t32 _ =>
 vJ t31 true (vV at5) (fun t33 _ =>
 vJ t31 true (vG (vk .sub 3 33 .i64 1 t33)) (fun t34 _ =>
 vJ t31 true (vG (indexAt 61 t32 t34)) (fun t35 _ =>
 vJ t31 true (vG (fieldAt 134 t35 0)) (fun t36 _ =>
 vJ t31 true (vG (loadAt 132 t36)) (fun t37 _ =>
 vJ t31 true (vG (fieldAt 134 x3 0)) (fun t38 _ =>
 vJ t31 true (vG (loadAt 132 t38)) (fun t39 _ =>
 vJ t31 true (vG (vt .geq 132 37 39 t37 t39)) (fun t40 _ =>
 vJ t21 false (vG (pickS t31 t40 (.bool false))) (fun t41 _ =>
 vJ t10 true (vG (pickS t21 (.bool true) t41)) (fun t42 _ =>
 vG (pickS t10 t42 (.bool false)) (fun t43 _ =>
 vD t43 (
 vF (vk .sub 3 44 .i64 1 at5) (fun t45 H35 =>
 vG (indexAt 61 l0 t45) (fun t48 _ =>
 vG (loadAt 134 t48) (fun t49 _ =>
 vG (loadAt 134 x3) (fun t50 _ =>
 vG (vt .eql 134 49 50 t49 t50) (fun t51 _ =>
 vD t51 (
 R l0 H35) (
 X t45 H35)) #[]) H35) H35) #[]) H3) (
 JoinN 1 (fun (k_31:VP) H36 =>
 vG (sliceAt 61 l0 none (some at5) none) (fun t56 _ =>
 vG (loadAt 134 x3) (fun t58 _ =>
 ((
 vF (append_ #[61,61] 61 #[(.slice none 0 0),t56]) (fun t57 H37=>vG (loadAt 134 x3) (fun u _=>u=t58) H37 ∧
 vF (buildSlice 61 1 #[(0,t58)]) (fun t59 H38 =>
 vF (append_ #[61,61] 61 #[t57,t59]) (fun t60 H39 =>
 k_31 t60 H39) H38) H37) H36)∧(
 vF (buildSlice 61 1 #[(0,t58)]) (fun t59_1 H40 =>
 vF (append_ #[61,61] 61 #[(.slice none 0 0),t56]) (fun t57_1 H41=>vG (loadAt 134 x3) (fun u _=>u=t58) H41 ∧
 vF (append_ #[61,61] 61 #[t57_1,t59_1]) (fun t60_1 H42 =>
 k_31 t60_1 H42) H41) H40) H36))) H36) #[])
 (fun out6 H43 =>
 vF (sliceAt 61 l0 (some at5) none none) (fun t64 H44 =>
 vF (append_ #[61,61] 61 #[out6,t64]) (fun t65 H45 =>
 R t65 H45) H44) H43) H3 ⟨⟩ ⟨⟩)) #[]) #[]) #[]) #[]) H3) #[]) H3) #[]) #[]) #[]) #[]) #[]) #[]) #[]) H3) #[]) H3) #[]) #[]) #[]) #[]) #[]) #[]) #[]) H3) #[]) H3) #[]) #[]) #[]) #[]) #[]) #[]) [t8] H2 ⟨⟩) H1) h

theorem n65_calls {l0 x1:Value} {R:VP} {h:Heap} (H:n65 l0 x1 R h):CallsH Tryz.prog 65 #[l0,x1] h R ⟨⟩ :=
 callsH_of_eq Tryz.follow (.n none .l (.n none .l (.n none (.n none (.n (some [6]) .l .l) .l) (.n none .l (.n (some [7]) .l .l))))) Tryz.func65 kR kR kR H

end Go.Proofs.YtdccfkffabngjaaGreat

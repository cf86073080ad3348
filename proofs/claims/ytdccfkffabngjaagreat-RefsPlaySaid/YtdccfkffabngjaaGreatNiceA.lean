/- Printed by /tmp/tools2/gen.py: the condition of each function,and that a call meets it. -/
import Derived.Test.YtdccfkffabngjaaGreatVcFun
import Derived.Test.YtdccfkffabngjaaGreatProg
set_option maxRecDepth 100000
set_option linter.unusedVariables false
namespace Go.Proofs.YtdccfkffabngjaaGreat
open Go.Vc Go.Instr Go.Builtin

abbrev vF (m:Sem Value) (k:VP) (h:Heap):Prop:=Hp Tryz.prog false m k h ⟨⟩
abbrev vG (m:Sem Value) (k:VP) (h:Heap):Prop:=Hp Tryz.prog true m k h ⟨⟩
abbrev vC (n:Nat) (a:Array Value) (k:VP) (h:Heap):Prop:=CallsH Tryz.prog n a h k ⟨⟩
abbrev vD (v:Value) (a b:Prop):Prop:=CondP v a b ⟨⟩ ⟨⟩
abbrev vJ (c:Value) (w:Bool) (e:VP→Heap→Prop) (k:VP) (h:Heap):Prop:=Join1 (fun k h=>guardP c w (e k h) (k undef h) ⟨⟩ ⟨⟩) k h ⟨⟩ ⟨⟩
abbrev vV (x:Value) (k:VP) (h:Heap):Prop:=k x h
abbrev vk (o:Go.BinOp) (t n:Nat) (k:IntKind) (c:Int) (v:Value):Sem Value:=binS o t (.tmp n) (.const (.int k c)) v (.int k c)
abbrev vt (o:Go.BinOp) (t n m:Nat) (v w:Value):Sem Value:=binS o t (.tmp n) (.tmp m) v w

theorem Tryz.follow:Tryz.prog.follows .mixedOrders=true:=by kernel_rfl

def n122 (s0 f1:Value) (R:VP) (h:Heap):Prop :=
 vC 145 #[s0,f1] (fun t7 H1 =>
 vF (vk .geq 3 7 .i64 0 t7) (fun t8 H2 =>
 R t8 H2) H1) h

theorem n122_calls {s0 f1:Value} {R:VP} {h:Heap} (H:n122 s0 f1 R h):CallsH Tryz.prog 122 #[s0,f1] h R ⟨⟩ :=
 callsH_of_eq Tryz.follow .l Tryz.func122 kR kR kR H

def n123 (f0:Value) (R:VP) (h:Heap):Prop :=
 vF (box 139 f0) (fun f1 H1 =>
 vF (fieldAt 139 f1 0) (fun t3 H2 =>
 vF (loadAt 137 t3) (fun t4 H3 =>
 vF (vk .lss 137 4 .i64 0 t4) (fun t5 H4 =>
 vJ t5 false (vF (fieldAt 139 f1 0)) (fun t7 H6 =>
 vJ t5 false (vF (loadAt 137 t7)) (fun t8 H8 =>
 vJ t5 false (vF (vk .gtr 137 8 .i64 2 t8)) (fun t9 H10 =>
 vF (pickS t5 (.bool true) t9) (fun t10 H11 =>
 R t10 H11) H10) H8) H6) H4) H3) H2) H1) h

theorem n123_calls {f0:Value} {R:VP} {h:Heap} (H:n123 f0 R h):CallsH Tryz.prog 123 #[f0] h R ⟨⟩ :=
 callsH_of_eq Tryz.follow .l Tryz.func123 kR kR kR H

def n124 (b0 c1:Value) (R:VP) (h:Heap):Prop :=
 ExtH Tryz.prog 146 #[b0,c1] h (fun t7 H1 =>
 R t7 H1) ⟨⟩

theorem n124_calls {b0 c1:Value} {R:VP} {h:Heap} (H:n124 b0 c1 R h):CallsH Tryz.prog 124 #[b0,c1] h R ⟨⟩ :=
 callsH_of_eq Tryz.follow .l Tryz.func124 kR kR kR H

def n125 (b0 at1 n2:Value) (R:VP) (h:Heap):Prop :=
 vF (vk .geq 3 7 .i64 0 at1) (fun t8 H1 =>
 vJ t8 true (vV n2) (fun t10 H3 =>
 vJ t8 true (vV b0) (fun t11 H5 =>
 vJ t8 true (vF (len_ #[52] 3 #[t11])) (fun t12 H7 =>
 vJ t8 true (vF (vt .leq 3 10 12 t10 t12)) (fun t13 H9 =>
 vF (pickS t8 t13 (.bool false)) (fun t14 H10 =>
 vJ t14 true (vV at1) (fun t16 H12 =>
 vJ t14 true (vV b0) (fun t17 H14 =>
 vJ t14 true (vF (len_ #[52] 3 #[t17])) (fun t18 H16 =>
 vJ t14 true (vV n2) (fun t19 H18 =>
 vJ t14 true (vF (vt .sub 3 18 19 t18 t19)) (fun t20 H20 =>
 vJ t14 true (vF (vt .leq 3 16 20 t16 t20)) (fun t21 H22 =>
 vF (pickS t14 t21 (.bool false)) (fun t22 H23 =>
 R t22 H23) H22) H20) H18) H16) H14) H12) H10) H9) H7) H5) H3) H1) h

theorem n125_calls {b0 at1 n2:Value} {R:VP} {h:Heap} (H:n125 b0 at1 n2 R h):CallsH Tryz.prog 125 #[b0,at1,n2] h R ⟨⟩ :=
 callsH_of_eq Tryz.follow .l Tryz.func125 kR kR kR H

def n126 (b0 at1 most2:Value) (R:VP) (h:Heap):Prop :=
 vF (vk .lss 3 8 .i64 0 most2) (fun t9 H1 =>
 vJ t9 false (vV most2) (fun t11 H3 =>
 vJ t9 false (vF (vk .gtr 3 11 .i64 1048576 t11)) (fun t12 H5 =>
 vF (pickS t9 (.bool true) t12) (fun t13 H6 =>
 vD t13 (
 R (.int .i64 2) H6) (
 vF (binS .add 3 (.const (.int .i64 4)) (.tmp 17) (.int .i64 4) most2) (fun t18 H7 =>
 vC 125 #[b0,at1,t18] (fun t19 H8 =>
 vF (Op.unary .not t19) (fun t20 H9 =>
 vD t20 (
 R (.int .i64 4) H9) (
 R (.int .i64 0) H9)) H8) H7) H6)) H5) H3) H1) h

theorem n126_calls {b0 at1 most2:Value} {R:VP} {h:Heap} (H:n126 b0 at1 most2 R h):CallsH Tryz.prog 126 #[b0,at1,most2] h R ⟨⟩ :=
 callsH_of_eq Tryz.follow .l Tryz.func126 kR kR kR H

def n127 (b0 from1 until2:Value) (R:VP) (h:Heap):Prop :=
 vF (vk .lss 3 11 .i64 0 from1) (fun t12 H1 =>
 vJ t12 false (vV until2) (fun t14 H3 =>
 vJ t12 false (vV from1) (fun t15 H5 =>
 vJ t12 false (vF (vt .lss 3 14 15 t14 t15)) (fun t16 H7 =>
 vF (pickS t12 (.bool true) t16) (fun t17 H8 =>
 vJ t17 false (vV until2) (fun t19 H10 =>
 vJ t17 false (vV b0) (fun t20 H12 =>
 vJ t17 false (vF (len_ #[52] 3 #[t20])) (fun t21 H14 =>
 vJ t17 false (vF (vt .gtr 3 19 21 t19 t21)) (fun t22 H16 =>
 vF (pickS t17 (.bool true) t22) (fun t23 H17 =>
 vD t23 (
 R (.tuple #[(.bool false),(.int .i64 4)]) H17) (
 JoinN 1 (fun (k_7:VP) H18 =>
 vF (sliceAt 52 b0 (some from1) (some until2) none) (fun t27 H19 =>
 vF (len_ #[52] 3 #[t27]) (fun t28 H20 =>
 JoinN 1 (fun (k_8:VP) H21 =>
 LoopC 2 (fun (X:Value→VP)=>fun all8 t29 H22 =>
 vF (vt .lss 3 29 28 t29 t28) (fun t30 H23 =>
 vD t30 (
 vF (indexAt 52 t27 t29) (fun t31 H24 =>
 vF (loadAt 5 t31) (fun t32 H25 =>
 vF (vk .neq 5 33 .u8 0 t32) (fun t34 H26 =>
 vD t34 (
 k_8 (.bool false) H26) (
 vF (vk .add 3 29 .i64 1 t29) (fun t35 H27 =>
 X all8 t35 H27) H26)) H25) H24) H23) (
 k_8 all8 H23)) H22) [(.bool true),(.int .i64 0)] H21 ⟨⟩)
 (fun all8_1 H28 =>
 k_7 all8_1 H28) H20 ⟨⟩ ⟨⟩) H19) H18)
 (fun all8_2 H29 =>
 R (.tuple #[all8_2,(.int .i64 0)]) H29) H17 ⟨⟩ ⟨⟩)) H16) H14) H12) H10) H8) H7) H5) H3) H1) h

theorem n127_calls {b0 from1 until2:Value} {R:VP} {h:Heap} (H:n127 b0 from1 until2 R h):CallsH Tryz.prog 127 #[b0,from1,until2] h R ⟨⟩ :=
 callsH_of_eq Tryz.follow (.n none .l (.n none (.n none .l (.n none .l (.n none .l (.n (some [9]) (.n none .l (.n (some [9]) (.n (some [9,30]) .l .l) .l)) .l)))) .l)) Tryz.func127 kR kR kR H

def n128 (h0:Value) (R:VP) (h:Heap):Prop :=
 vF (box 84 h0) (fun h1 H1 =>
 vF (fieldAt 84 h1 0) (fun t9 H2 =>
 vF (loadAt 3 t9) (fun t10 H3 =>
 vF (vk .lss 3 10 .i64 9 t10) (fun t11 H4 =>
 vJ t11 false (vF (fieldAt 84 h1 0)) (fun t13 H6 =>
 vJ t11 false (vF (loadAt 3 t13)) (fun t14 H8 =>
 vJ t11 false (vF (vk .gtr 3 14 .i64 16 t14)) (fun t15 H10 =>
 vF (pickS t11 (.bool true) t15) (fun t16 H11 =>
 vJ t16 false (vF (fieldAt 84 h1 1)) (fun t18 H13 =>
 vJ t16 false (vF (loadAt 44 t18)) (fun t19 H15 =>
 vJ t16 false (vF (vk .gtr 44 19 .u64 1 t19)) (fun t20 H17 =>
 vF (pickS t16 (.bool true) t20) (fun t21 H18 =>
 vJ t21 false (vF (fieldAt 84 h1 2)) (fun t23 H20 =>
 vJ t21 false (vF (loadAt 2 t23)) (fun t24 H22 =>
 vJ t21 false (vF (vk .lss 2 24 .i64 0 t24)) (fun t25 H24 =>
 vF (pickS t21 (.bool true) t25) (fun t26 H25 =>
 vJ t26 false (vF (fieldAt 84 h1 2)) (fun t28 H27 =>
 vJ t26 false (vF (loadAt 2 t28)) (fun t29 H29 =>
 vJ t26 false (vF (vk .gtr 2 29 .i64 67108864 t29)) (fun t30 H31 =>
 vF (pickS t26 (.bool true) t30) (fun t31 H32 =>
 vJ t31 false (vF (fieldAt 84 h1 2)) (fun t33 H34 =>
 vJ t31 false (vF (loadAt 2 t33)) (fun t34 H36 =>
 vJ t31 false (vF (vk .rem 2 34 .i64 512 t34)) (fun t35 H38 =>
 vJ t31 false (vF (vk .neq 2 35 .i64 0 t35)) (fun t36 H40 =>
 vF (pickS t31 (.bool true) t36) (fun t37 H41 =>
 vD t37 (
 R (.int .i64 2) H41) (
 vF (fieldAt 84 h1 0) (fun t38 H42 =>
 vF (loadAt 3 t38) (fun t39 H43 =>
 vF (binS .shl 2 (.const (.int .i64 1)) (.tmp 39) (.int .i64 1) t39) (fun t40 H44 =>
 vF (alloc 2 true undef) (fun c3 H45 =>
 vF (storeS 2 c3 t40) (fun _ H46 =>
 vF (pure (.func (.func 147) #[] #[c3])) (fun t41 H47 =>
 vF (alloc 169 true undef) (fun place4 H48 =>
 vF (storeS 169 place4 t41) (fun _ H49 =>
 vF (pure (.func (.func 148) #[] #[place4])) (fun t42 H50 =>
 JoinN 1 (fun (k_16:VP) H51 =>
 vG (fieldAt 84 h1 4) (fun t43 _ =>
 vG (loadAt 3 t43) (fun t44 _ =>
 vG (vk .geq 3 44 .i64 0 t44) (fun t45 _ =>
 vJ t45 true (vG (fieldAt 84 h1 4)) (fun t47 _ =>
 vJ t45 true (vG (loadAt 3 t47)) (fun t48 _ =>
 vJ t45 true (vG (vk .leq 3 48 .i64 1048576 t48)) (fun t49 _ =>
 vG (pickS t45 t49 (.bool false)) (fun t50 _ =>
 vJ t50 true (vG (fieldAt 84 h1 4)) (fun t52 _ =>
 vJ t50 true (vG (loadAt 3 t52)) (fun t53 _ =>
 vJ t50 true (vG (loadAt 84 h1)) (fun t54 _ =>
 vG (fieldAt 84 h1 4) (fun t58 _ =>
 vG (loadAt 3 t58) (fun t59 _ =>
 vG (vk .eql 3 59 .i64 0 t59) (fun t60 _ =>
 vG (fieldAt 84 h1 5) (fun t77 _ =>
 vG (loadAt 3 t77) (fun t78 _ =>
 vG (vk .geq 3 78 .i64 0 t78) (fun t79 _ =>
 vG (loadAt 169 place4) (fun t85 _ =>
 vG (fieldAt 84 h1 6) (fun t86 _ =>
 vG (loadAt 2 t86) (fun t87 _ =>
 vG (fieldAt 84 h1 8) (fun t100 _ =>
 vG (loadAt 3 t100) (fun t101 _ =>
 vG (fieldAt 84 h1 9) (fun t102 _ =>
 vG (loadAt 2 t102) (fun t103 _ =>
 vG (fieldAt 84 h1 10) (fun t104 _ =>
 vG (loadAt 3 t104) (fun t105 _ =>
 vG (fieldAt 84 h1 11) (fun t108 _ =>
 vG (loadAt 3 t108) (fun t109 _ =>
 vG (fieldAt 84 h1 12) (fun t110 _ =>
 vG (loadAt 2 t110) (fun t111 _ =>
 vG (fieldAt 84 h1 13) (fun t112 _ =>
 vG (loadAt 3 t112) (fun t113 _ =>
 vG (fieldAt 84 h1 14) (fun t115 _ =>
 vG (loadAt 9 t115) (fun t116 _ =>
 vG (len_ #[9] 3 #[t116]) (fun t117 _ =>
 vG (vk .leq 3 117 .i64 64 t117) (fun t118 _ =>
 vJ t50 true (vC 149 #[t54]) (fun t55 H59=>vG (loadAt 9 t115) (fun u _=>u=t116) H59∧vG (loadAt 3 t112) (fun u _=>u=t113) H59∧vG (loadAt 2 t110) (fun u _=>u=t111) H59∧vG (loadAt 3 t108) (fun u _=>u=t109) H59∧vG (loadAt 3 t104) (fun u _=>u=t105) H59∧vG (loadAt 2 t102) (fun u _=>u=t103) H59∧vG (loadAt 3 t100) (fun u _=>u=t101) H59∧vG (loadAt 2 t86) (fun u _=>u=t87) H59∧vG (loadAt 169 place4) (fun u _=>u=t85) H59∧vG (loadAt 3 t77) (fun u _=>u=t78) H59∧vG (loadAt 3 t58) (fun u _=>u=t59) H59∧vJ t50 true (vG (loadAt 3 t52)) (fun u _=>u=t53) H59 ∧
 vJ t50 true (vG (vt .geq 2 53 55 t53 t55)) (fun t56 _ =>
 vG (pickS t50 t56 (.bool false)) (fun t57 _ =>
 vJ t60 true (vG (fieldAt 84 h1 3)) (fun t62 _ =>
 vJ t60 true (vG (loadAt 2 t62)) (fun t63 _ =>
 vJ t60 true (vG (vk .eql 2 63 .i64 0 t63)) (fun t64 _ =>
 vG (pickS t60 t64 (.bool false)) (fun t65 _ =>
 vJ t65 false (vG (fieldAt 84 h1 4)) (fun t67 _ =>
 vJ t65 false (vG (loadAt 3 t67)) (fun t68 _ =>
 vJ t65 false (vG (vk .gtr 3 68 .i64 0 t68)) (fun t69 _ =>
 vJ t65 false (vV t69) (fun t70 _ =>
 vJ t70 true (vG (loadAt 169 place4)) (fun t71 _ =>
 vJ t70 true (vG (fieldAt 84 h1 3)) (fun t72 _ =>
 vJ t70 true (vG (loadAt 2 t72)) (fun t73 _ =>
 Join1 (fun k_35 H71=>guardP t70 true (InvokeH Tryz.prog t71 #[t73] H71 k_35 ⟨⟩) (k_35 undef H71) ⟨⟩ ⟨⟩) (fun t74 H72=>vG (loadAt 9 t115) (fun u _=>u=t116) H72∧vG (loadAt 3 t112) (fun u _=>u=t113) H72∧vG (loadAt 2 t110) (fun u _=>u=t111) H72∧vG (loadAt 3 t108) (fun u _=>u=t109) H72∧vG (loadAt 3 t104) (fun u _=>u=t105) H72∧vG (loadAt 2 t102) (fun u _=>u=t103) H72∧vG (loadAt 3 t100) (fun u _=>u=t101) H72∧vG (loadAt 2 t86) (fun u _=>u=t87) H72∧vG (loadAt 169 place4) (fun u _=>u=t85) H72∧vG (loadAt 3 t77) (fun u _=>u=t78) H72∧vJ t50 true (vG (loadAt 3 t52)) (fun u _=>u=t53) H72 ∧
 vJ t65 false (vG (pickS t70 t74 (.bool false))) (fun t75 _ =>
 vG (pickS t65 (.bool true) t75) (fun t76 _ =>
 vJ t79 true (vG (fieldAt 84 h1 5)) (fun t81 _ =>
 vJ t79 true (vG (loadAt 3 t81)) (fun t82 _ =>
 vJ t79 true (vG (vk .leq 3 82 .i64 6 t82)) (fun t83 _ =>
 vG (pickS t79 t83 (.bool false)) (fun t84 _ =>
 InvokeH Tryz.prog t85 #[t87] H72 (fun t88 H77=>vJ t79 true (vG (loadAt 3 t81)) (fun u _=>u=t82) H77∧vG (loadAt 9 t115) (fun u _=>u=t116) H77∧vG (loadAt 3 t112) (fun u _=>u=t113) H77∧vG (loadAt 2 t110) (fun u _=>u=t111) H77∧vG (loadAt 3 t108) (fun u _=>u=t109) H77∧vG (loadAt 3 t104) (fun u _=>u=t105) H77∧vG (loadAt 2 t102) (fun u _=>u=t103) H77∧vG (loadAt 3 t100) (fun u _=>u=t101) H77∧vJ t50 true (vG (loadAt 3 t52)) (fun u _=>u=t53) H77 ∧
 vJ t88 true (vG (fieldAt 84 h1 7)) (fun t90 _ =>
 vJ t88 true (vG (loadAt 3 t90)) (fun t91 _ =>
 vJ t88 true (vG (vk .geq 3 91 .i64 1 t91)) (fun t92 _ =>
 vG (pickS t88 t92 (.bool false)) (fun t93 _ =>
 vJ t93 true (vG (fieldAt 84 h1 7)) (fun t95 _ =>
 vJ t93 true (vG (loadAt 3 t95)) (fun t96 _ =>
 vJ t93 true (vG (vk .leq 3 96 .i64 65536 t96)) (fun t97 _ =>
 vG (pickS t93 t97 (.bool false)) (fun t98 _ =>
 InvokeH Tryz.prog t42 #[t101,(.int .i64 64),t103,t105] H77 (fun t106 H84=>vJ t93 true (vG (loadAt 3 t95)) (fun u _=>u=t96) H84∧vJ t79 true (vG (loadAt 3 t81)) (fun u _=>u=t82) H84∧vG (loadAt 9 t115) (fun u _=>u=t116) H84∧vG (loadAt 3 t112) (fun u _=>u=t113) H84∧vG (loadAt 2 t110) (fun u _=>u=t111) H84∧vG (loadAt 3 t108) (fun u _=>u=t109) H84∧vJ t50 true (vG (loadAt 3 t52)) (fun u _=>u=t53) H84 ∧
 InvokeH Tryz.prog t42 #[t109,(.int .i64 64),t111,t113] H84 (fun t114 H85=>vJ t93 true (vG (loadAt 3 t95)) (fun u _=>u=t96) H85∧vJ t79 true (vG (loadAt 3 t81)) (fun u _=>u=t82) H85∧vG (loadAt 9 t115) (fun u _=>u=t116) H85∧vJ t50 true (vG (loadAt 3 t52)) (fun u _=>u=t53) H85 ∧
 vJ t118 true (vG (fieldAt 84 h1 14)) (fun t120 _ =>
 vJ t118 true (vG (loadAt 9 t120)) (fun t121 _ =>
 vJ t118 true (vC 150 #[t121,(str [0])]) (fun t122 H89=>vJ t93 true (vG (loadAt 3 t95)) (fun u _=>u=t96) H89∧vJ t79 true (vG (loadAt 3 t81)) (fun u _=>u=t82) H89∧vJ t50 true (vG (loadAt 3 t52)) (fun u _=>u=t53) H89 ∧
 vJ t118 true (vG (Op.unary .not t122)) (fun t123 _ =>
 vG (pickS t118 t123 (.bool false)) (fun t124 _ =>
 vF (buildSlice 225 7 #[(0,t57),(1,t76),(2,t84),(3,t98),(4,t106),(5,t114),(6,t124)]) (fun t125 H91 =>
 vG (len_ #[225] 3 #[t125]) (fun t126 _ =>
 JoinN 1 (fun (k_50:VP) H92 =>
 LoopC 2 (fun (X:Value→VP)=>fun ok6 t127 H93 =>
 vF (vt .lss 3 127 126 t127 t126) (fun t128 H94 =>
 vD t128 (
 vF (indexAt 225 t125 t127) (fun t129 H95 =>
 vF (loadAt 4 t129) (fun t130 H96 =>
 vF (Op.unary .not t130) (fun t132 H97 =>
 vD t132 (
 k_50 (.bool false) H97) (
 vF (vk .add 3 127 .i64 1 t127) (fun t133 H98 =>
 X ok6 t133 H98) H97)) H96) H95) H94) (
 k_50 ok6 H94)) H93) [(.bool true),(.int .i64 0)] H92 ⟨⟩)
 (fun ok6_1 H99 =>
 k_16 ok6_1 H99) H91 ⟨⟩ ⟨⟩) #[]) H89) #[]) #[]) H85) H85) #[]) ⟨⟩) ⟨⟩) #[]) #[]) H77) #[]) #[]) #[]) H77) #[]) ⟨⟩) #[]) #[]) H72) #[]) #[]) #[]) H59 ⟨⟩ ⟨⟩) H59) #[]) H59) #[]) #[]) H59) #[]) #[]) #[]) H59) #[]) #[]) #[]) H51) #[]) #[]) H51) #[]) H51) #[]) H51) #[]) H51) #[]) H51) #[]) H51) #[]) H51) #[]) H51) #[]) H51) #[]) H51) #[]) #[]) H51) #[]) H51) H51) #[]) #[]) #[]) H51) #[]) #[]) H51) #[])
 (fun ok6_2 H100 =>
 vF (Op.unary .not ok6_2) (fun t135 H101 =>
 vD t135 (
 R (.int .i64 2) H101) (
 R (.int .i64 0) H101)) H100) H50 ⟨⟩ ⟨⟩) H49) H48) H47) H46) H45) H44) H43) H42) H41)) H40) H38) H36) H34) H32) H31) H29) H27) H25) H24) H22) H20) H18) H17) H15) H13) H11) H10) H8) H6) H4) H3) H2) H1) h

theorem n128_calls {h0:Value} {R:VP} {h:Heap} (H:n128 h0 R h):CallsH Tryz.prog 128 #[h0] h R ⟨⟩ :=
 callsH_of_eq Tryz.follow (.n none .l (.n none (.n none .l (.n none .l (.n none .l (.n none .l (.n none .l (.n none .l (.n (some [7]) (.n none .l (.n (some [7]) (.n (some [7,128]) .l .l) .l)) .l))))))) .l)) Tryz.func128 kR kR kR H

def n129 (h0:Value) (R:VP) (h:Heap):Prop :=
 vF (box 84 h0) (fun h1 H1 =>
 vF (fieldAt 84 h1 0) (fun t3 H2 =>
 vF (loadAt 3 t3) (fun t4 H3 =>
 vF (convert 3 44 t4) (fun t5 H4 =>
 vF (build 200 #[(0,(.int .i64 4)),(1,(.int .i64 4)),(2,t5)]) (fun t6 H5 =>
 vF (fieldAt 84 h1 1) (fun t7 H6 =>
 vF (loadAt 44 t7) (fun t8 H7 =>
 vF (build 200 #[(0,(.int .i64 8)),(1,(.int .i64 8)),(2,t8)]) (fun t9 H8 =>
 vF (fieldAt 84 h1 2) (fun t10 H9 =>
 vF (loadAt 2 t10) (fun t11 H10 =>
 vF (convert 2 44 t11) (fun t12 H11 =>
 vF (build 200 #[(0,(.int .i64 16)),(1,(.int .i64 8)),(2,t12)]) (fun t13 H12 =>
 vF (fieldAt 84 h1 3) (fun t14 H13 =>
 vF (loadAt 2 t14) (fun t15 H14 =>
 vF (convert 2 44 t15) (fun t16 H15 =>
 vF (build 200 #[(0,(.int .i64 24)),(1,(.int .i64 8)),(2,t16)]) (fun t17 H16 =>
 vF (fieldAt 84 h1 4) (fun t18 H17 =>
 vF (loadAt 3 t18) (fun t19 H18 =>
 vF (convert 3 44 t19) (fun t20 H19 =>
 vF (build 200 #[(0,(.int .i64 32)),(1,(.int .i64 4)),(2,t20)]) (fun t21 H20 =>
 vF (fieldAt 84 h1 5) (fun t22 H21 =>
 vF (loadAt 3 t22) (fun t23 H22 =>
 vF (convert 3 44 t23) (fun t24 H23 =>
 vF (build 200 #[(0,(.int .i64 36)),(1,(.int .i64 4)),(2,t24)]) (fun t25 H24 =>
 vF (fieldAt 84 h1 6) (fun t26 H25 =>
 vF (loadAt 2 t26) (fun t27 H26 =>
 vF (convert 2 44 t27) (fun t28 H27 =>
 vF (build 200 #[(0,(.int .i64 40)),(1,(.int .i64 8)),(2,t28)]) (fun t29 H28 =>
 vF (fieldAt 84 h1 7) (fun t30 H29 =>
 vF (loadAt 3 t30) (fun t31 H30 =>
 vF (convert 3 44 t31) (fun t32 H31 =>
 vF (build 200 #[(0,(.int .i64 48)),(1,(.int .i64 4)),(2,t32)]) (fun t33 H32 =>
 vF (fieldAt 84 h1 8) (fun t34 H33 =>
 vF (loadAt 3 t34) (fun t35 H34 =>
 vF (convert 3 44 t35) (fun t36 H35 =>
 vF (build 200 #[(0,(.int .i64 52)),(1,(.int .i64 4)),(2,t36)]) (fun t37 H36 =>
 vF (fieldAt 84 h1 9) (fun t38 H37 =>
 vF (loadAt 2 t38) (fun t39 H38 =>
 vF (convert 2 44 t39) (fun t40 H39 =>
 vF (build 200 #[(0,(.int .i64 56)),(1,(.int .i64 8)),(2,t40)]) (fun t41 H40 =>
 vF (fieldAt 84 h1 10) (fun t42 H41 =>
 vF (loadAt 3 t42) (fun t43 H42 =>
 vF (convert 3 44 t43) (fun t44 H43 =>
 vF (build 200 #[(0,(.int .i64 64)),(1,(.int .i64 4)),(2,t44)]) (fun t45 H44 =>
 vF (fieldAt 84 h1 11) (fun t46 H45 =>
 vF (loadAt 3 t46) (fun t47 H46 =>
 vF (convert 3 44 t47) (fun t48 H47 =>
 vF (build 200 #[(0,(.int .i64 68)),(1,(.int .i64 4)),(2,t48)]) (fun t49 H48 =>
 vF (fieldAt 84 h1 12) (fun t50 H49 =>
 vF (loadAt 2 t50) (fun t51 H50 =>
 vF (convert 2 44 t51) (fun t52 H51 =>
 vF (build 200 #[(0,(.int .i64 72)),(1,(.int .i64 8)),(2,t52)]) (fun t53 H52 =>
 vF (fieldAt 84 h1 13) (fun t54 H53 =>
 vF (loadAt 3 t54) (fun t55 H54 =>
 vF (convert 3 44 t55) (fun t56 H55 =>
 vF (build 200 #[(0,(.int .i64 80)),(1,(.int .i64 4)),(2,t56)]) (fun t57 H56 =>
 vF (buildSlice 197 14 #[(0,t6),(1,t9),(2,t13),(3,t17),(4,t21),(5,t25),(6,t29),(7,t33),(8,t37),(9,t41),(10,t45),(11,t49),(12,t53),(13,t57)]) (fun t58 H57 =>
 R t58 H57) H56) H55) H54) H53) H52) H51) H50) H49) H48) H47) H46) H45) H44) H43) H42) H41) H40) H39) H38) H37) H36) H35) H34) H33) H32) H31) H30) H29) H28) H27) H26) H25) H24) H23) H22) H21) H20) H19) H18) H17) H16) H15) H14) H13) H12) H11) H10) H9) H8) H7) H6) H5) H4) H3) H2) H1) h

theorem n129_calls {h0:Value} {R:VP} {h:Heap} (H:n129 h0 R h):CallsH Tryz.prog 129 #[h0] h R ⟨⟩ :=
 callsH_of_eq Tryz.follow .l Tryz.func129 kR kR kR H

def n130 (b0 at1 most2 s3:Value) (R:VP) (h:Heap):Prop :=
 vC 126 #[b0,at1,most2] (fun t14 H1 =>
 vF (vk .neq 31 15 .i64 0 t14) (fun t16 H2 =>
 vD t16 (
 R t14 H2) (
 vF (len_ #[9] 3 #[s3]) (fun t19 H3 =>
 vF (vt .gtr 3 19 20 t19 most2) (fun t21 H4 =>
 vD t21 (
 R (.int .i64 3) H4) (
 vF (len_ #[9] 3 #[s3]) (fun t25 H5 =>
 vF (convert 3 44 t25) (fun t26 H6 =>
 vC 101 #[b0,at1,(.int .i64 4),t26] (fun t27 H7 =>
 vF (vk .add 3 29 .i64 4 at1) (fun t30 H8 =>
 vF (vk .add 3 31 .i64 4 at1) (fun t32 H9 =>
 vF (vt .add 3 32 33 t32 most2) (fun t34 H10 =>
 vF (sliceAt 52 b0 (some t30) (some t34) none) (fun t35 H11 =>
 vF (clear_ #[52] 0 #[t35]) (fun _ H12 =>
 vF (copy_ #[52,9] 3 #[t35,s3]) (fun t39 H13 =>
 R (.int .i64 0) H13) H12) H11) H10) H9) H8) H7) H6) H5) H4)) H3) H2)) H1) h

theorem n130_calls {b0 at1 most2 s3:Value} {R:VP} {h:Heap} (H:n130 b0 at1 most2 s3 R h):CallsH Tryz.prog 130 #[b0,at1,most2,s3] h R ⟨⟩ :=
 callsH_of_eq Tryz.follow .l Tryz.func130 kR kR kR H

def n131 (b0 order1:Value) (R:VP) (h:Heap):Prop :=
 vC 98 #[order1] (fun t8 H1 =>
 vF (vk .eql 3 9 .i64 0 t8) (fun t10 H2 =>
 vD t10 (
 R (.tuple #[(.int .i64 0),(.int .i64 2)]) H2) (
 vF (len_ #[52] 3 #[b0]) (fun t12 H3 =>
 vF (binS .mul 3 (.const (.int .i64 8)) (.tmp 12) (.int .i64 8) t12) (fun t13 H4 =>
 vF (vt .quo 3 13 14 t13 t8) (fun t15 H5 =>
 R (.tuple #[t15,(.int .i64 0)]) H5) H4) H3) H2)) H1) h

theorem n131_calls {b0 order1:Value} {R:VP} {h:Heap} (H:n131 b0 order1 R h):CallsH Tryz.prog 131 #[b0,order1] h R ⟨⟩ :=
 callsH_of_eq Tryz.follow .l Tryz.func131 kR kR kR H

def n132 (s0 seq1:Value) (R:VP) (h:Heap):Prop :=
 vF (box 47 s0) (fun s2 H1 =>
 JoinN 1 (fun (k:VP) H2 =>
 JoinN 1 (fun (k_1:VP) H3 =>
 RangeC Tryz.prog none seq1 1 (.tuple #[]) (fun l args bg Nb Jb H4 =>
 bg (fun H5 =>
 vF (loadAt 47 s2) (fun t8 H6 =>
 vF (buildSlice 47 1 #[(0,(getV args 0))]) (fun t10 H7 =>
 vF (append_ #[47,47] 47 #[t8,t10]) (fun t11 H8 =>
 vF (storeS 47 s2 t11) (fun _ H9 =>
 Nb H9) H8) H7) H6) H5) H4)
 (fun D H10 =>
 k_1 D H10)
 (fun D_1 H11 =>
 RetD D_1 H11 (fun H12 =>
 R (.slice none 0 0) H12) ⟨⟩)
 (fun id D_2 H13=>bif Nat.beq id 0 then (k_1 D_2 H13) else False) H3 ⟨⟩ ⟨⟩ ⟨⟩ ⟨⟩)
 (fun D_3 H14 =>
 k D_3 H14) H2 ⟨⟩ ⟨⟩)
 (fun D_4 H15 =>
 vF (loadAt 47 s2) (fun t12 H16 =>
 RetD D_4 H16 (fun H17 =>
 R t12 H17) ⟨⟩) H15) H1 ⟨⟩ ⟨⟩) h

theorem n132_calls {s0 seq1:Value} {R:VP} {h:Heap} (H:n132 s0 seq1 R h):CallsH Tryz.prog 132 #[s0,seq1] h R ⟨⟩ :=
 callsH_of_eq Tryz.follow (.n none .l (.n (some [0]) (.n none .l (.n (some [0]) .l .l)) .l)) Tryz.func132 kR kR kR H

def n133 (data0 a1 b2 limit3:Value) (R:VP) (h:Heap):Prop :=
 LoopC 5 (fun (X:Value→Value→Value→Value→VP)=>fun a1_1 b2_1 limit3_1 wasBalanced8 wasPartitioned9 H1 =>
 JoinN 5 (fun (k:Value→Value→Value→Value→VP) H2 =>
 vF (vt .sub 3 19 20 b2_1 a1_1) (fun t21 H3 =>
 vF (vk .leq 3 22 .i64 12 t21) (fun t23 H4 =>
 vD t23 (
 vC 151 #[data0,a1_1,b2_1] (fun t27 H5 =>
 R (.tuple #[]) H5) H4) (
 vF (vk .eql 3 28 .i64 0 limit3_1) (fun t29 H6 =>
 vD t29 (
 vC 152 #[data0,a1_1,b2_1] (fun t33 H7 =>
 R (.tuple #[]) H7) H6) (
 JoinN 1 (fun (k_1:VP) H8 =>
 vF (Op.unary .not wasBalanced8) (fun t35 H9 =>
 vD t35 (
 vC 153 #[data0,a1_1,b2_1] (fun t39 H10 =>
 vF (vk .sub 3 40 .i64 1 limit3_1) (fun t41 H11 =>
 k_1 t41 H11) H10) H9) (
 k_1 limit3_1 H9)) H8)
 (fun limit3_2 H12 =>
 vC 154 #[data0,a1_1,b2_1] (fun t46 H13 =>
 vF (extract t46 0) (fun t47 H14 =>
 vF (extract t46 1) (fun t48 H15 =>
 JoinN 2 (fun (k_2:Value→VP) H16 =>
 vF (vk .eql 227 49 .i64 2 t48) (fun t50 H17 =>
 vD t50 (
 vC 155 #[data0,a1_1,b2_1] (fun t54 H18 =>
 vF (vk .sub 3 55 .i64 1 b2_1) (fun t56 H19 =>
 vF (vt .sub 3 57 58 t47 a1_1) (fun t59 H20 =>
 vF (vt .sub 3 56 59 t56 t59) (fun t60 H21 =>
 k_2 t60 (.int .i64 1) H21) H20) H19) H18) H17) (
 k_2 t47 t48 H17)) H16)
 (fun pivot11 hint12 H22 =>
 JoinN 0 (fun (k_3:Heap→Prop) H23 =>
 vJ wasBalanced8 true (vV wasPartitioned9) (fun t63 H25 =>
 vF (pickS wasBalanced8 t63 (.bool false)) (fun t64 H26 =>
 vJ t64 true (vV hint12) (fun t66 H28 =>
 vJ t64 true (vF (vk .eql 227 66 .i64 1 t66)) (fun t67 H30 =>
 vF (pickS t64 t67 (.bool false)) (fun t68 H31 =>
 vD t68 (
 vC 156 #[data0,a1_1,b2_1] (fun t72 H32 =>
 vD t72 (
 R (.tuple #[]) H32) (
 k_3 H32)) H31) (
 k_3 H31)) H30) H28) H26) H25) H23)
 (fun H33 =>
 vG (vk .gtr 3 73 .i64 0 a1_1) (fun t74 _ =>
 vJ t74 true (vV data0) (fun t76 _ =>
 vJ t74 true (vV a1_1) (fun t77 _ =>
 vJ t74 true (vG (vk .sub 3 77 .i64 1 t77)) (fun t78 _ =>
 vJ t74 true (vG (indexAt 47 t76 t78)) (fun t79 _ =>
 vJ t74 true (vG (loadAt 2 t79)) (fun t80 _ =>
 vJ t74 true (vV data0) (fun t81 _ =>
 vJ t74 true (vV pivot11) (fun t82 _ =>
 vJ t74 true (vG (indexAt 47 t81 t82)) (fun t83 _ =>
 vJ t74 true (vG (loadAt 2 t83)) (fun t84 _ =>
 vJ t74 true (vC 157 #[t80,t84]) (fun t85 H44 =>
 vJ t74 true (vG (Op.unary .not t85)) (fun t86 _ =>
 vG (pickS t74 t86 (.bool false)) (fun t87 _ =>
 vD t87 (
 vC 158 #[data0,a1_1,b2_1,pivot11] (fun t92 H46 =>
 k t92 b2_1 limit3_2 wasBalanced8 wasPartitioned9 H46) H44) (
 vC 159 #[data0,a1_1,b2_1,pivot11] (fun t99 H47 =>
 vF (extract t99 0) (fun t100 H48 =>
 vF (extract t99 1) (fun t101 H49 =>
 vF (vt .sub 3 103 104 t100 a1_1) (fun t105 H50 =>
 vF (vt .sub 3 106 107 b2_1 t100) (fun t108 H51 =>
 vF (vk .quo 3 109 .i64 8 t21) (fun t110 H52 =>
 vF (vt .lss 3 111 112 t105 t108) (fun t113 H53 =>
 vD t113 (
 vF (vt .geq 3 114 115 t105 t110) (fun t116 H54 =>
 vC 133 #[data0,a1_1,t100,limit3_2] (fun t121 H55 =>
 vF (vk .add 3 122 .i64 1 t100) (fun t123 H56 =>
 k t123 b2_1 limit3_2 t116 t101 H56) H55) H54) H53) (
 vF (vt .geq 3 124 125 t108 t110) (fun t126 H57 =>
 vF (vk .add 3 128 .i64 1 t100) (fun t129 H58 =>
 vC 133 #[data0,t129,b2_1,limit3_2] (fun t132 H59 =>
 k a1_1 t100 limit3_2 t126 t101 H59) H58) H57) H53)) H52) H51) H50) H49) H48) H47) H44)) #[]) #[]) H33) H33) #[]) #[]) #[]) H33) #[]) #[]) #[]) #[]) #[]) H22 ⟨⟩ ⟨⟩) H15 ⟨⟩ ⟨⟩) H14) H13) H12) H6 ⟨⟩ ⟨⟩)) H4)) H3) H2)
 (fun a1_2 b2_2 limit3_3 wasBalanced8_1 wasPartitioned9_1 H60 =>
 X a1_2 b2_2 limit3_3 wasBalanced8_1 wasPartitioned9_1 H60) H1 ⟨⟩ ⟨⟩) [a1,b2,limit3,(.bool true),(.bool true)] h ⟨⟩

theorem n133_calls {data0 a1 b2 limit3:Value} {R:VP} {h:Heap} (H:n133 data0 a1 b2 limit3 R h):CallsH Tryz.prog 133 #[data0,a1,b2,limit3] h R ⟨⟩ :=
 callsH_of_eq Tryz.follow (.n none .l (.n none .l (.n none (.n (some [2,3,4,9,10]) (.n (some [2,3,4,9,10]) (.n none .l (.n none .l (.n none .l (.n (some [4]) .l (.n none .l (.n (some [12,13]) .l (.n (some []) .l .l))))))) .l) .l) .l))) Tryz.func133 kR kR kR H

def n134 (x0:Value) (R:VP) (h:Heap):Prop :=
 vD (.bool false) (
 vF (convert 192 236 x0) (fun t4 H1 =>
 vC 160 #[t4] (fun t5 H2 =>
 R t5 H2) H1) h) (
 vC 161 #[x0] (fun t7 H3 =>
 R t7 H3) h)

theorem n134_calls {x0:Value} {R:VP} {h:Heap} (H:n134 x0 R h):CallsH Tryz.prog 134 #[x0] h R ⟨⟩ :=
 callsH_of_eq Tryz.follow .l Tryz.func134 kR kR kR H

def n139 (w0 at1 n2 how3 where4:Value) (R:VP) (h:Heap):Prop :=
 vC 164 #[w0,at1,n2] (fun t16 H1 =>
 vF (Op.unary .not t16) (fun t17 H2 =>
 vD t17 (
 vC 143 #[w0,(.int .i64 1),where4] (fun t20 H3 =>
 R (.bool false) H3) H2) (
 vC 117 #[w0] (fun t22 H4 =>
 vF (vt .quo 2 23 24 at1 t22) (fun t25 H5 =>
 LoopC 1 (fun (X:VP)=>fun k12 H6 =>
 vG (vt .quo 2 27 28 at1 t22) (fun t29 _ =>
 vC 72 #[n2,t22] (fun t32 H7 =>
 vG (vt .add 2 29 32 t29 t32) (fun t33 _ =>
 vG (vt .lss 2 26 33 k12 t33) (fun t34 _ =>
 vD t34 (
 vF (nilS w0) (fun t39 H8 =>
 vF (fieldAt 130 t39 2) (fun t40 H9 =>
 vF (loadAt 128 t40) (fun t41 H10 =>
 vF (build 183 #[(0,k12),(1,how3)]) (fun t44 H11 =>
 vF (buildSlice 128 1 #[(0,t44)]) (fun t45 H12 =>
 vF (append_ #[128,128] 128 #[t41,t45]) (fun t46 H13 =>
 vF (nilS w0) (fun t47 H14 =>
 vF (fieldAt 130 t47 2) (fun t48 H15 =>
 vF (storeS 128 t48 t46) (fun _ H16 =>
 vF (vk .add 2 35 .i64 1 k12) (fun t36 H17 =>
 X t36 H17) H16) H15) H14) H13) H12) H11) H10) H9) H8) H7) (
 R (.bool true) H7)) #[]) #[]) H6) #[]) [t25] H5 ⟨⟩) H4) H2)) H1) h

theorem n139_calls {w0 at1 n2 how3 where4:Value} {R:VP} {h:Heap} (H:n139 w0 at1 n2 how3 where4 R h):CallsH Tryz.prog 139 #[w0,at1,n2,how3,where4] h R ⟨⟩ :=
 callsH_of_eq Tryz.follow (.n none .l (.n none .l (.n none .l (.n none (.n none .l (.n none (.n (some [13]) .l .l) .l)) .l)))) Tryz.func139 kR kR kR H

def n140 (w0 at1:Value) (R:VP) (h:Heap):Prop :=
 LoopC 2 (fun (X:Value→VP)=>fun x5 i6 H1 =>
 vF (vk .geq 2 7 .i64 0 i6) (fun t8 H2 =>
 vD t8 (
 vF (binS .mul 44 (.const (.int .u64 256)) (.tmp 11) (.int .u64 256) x5) (fun t12 H3 =>
 vF (nilS w0) (fun t14 H4 =>
 vF (fieldAt 130 t14 0) (fun t15 H5 =>
 vF (loadAt 52 t15) (fun t16 H6 =>
 vF (vt .add 2 17 18 at1 i6) (fun t19 H7 =>
 vF (indexAt 52 t16 t19) (fun t20 H8 =>
 vF (loadAt 5 t20) (fun t21 H9 =>
 vF (convert 5 44 t21) (fun t22 H10 =>
 vF (vt .add 44 12 22 t12 t22) (fun t23 H11 =>
 vF (vk .sub 2 9 .i64 1 i6) (fun t10 H12 =>
 X t23 t10 H12) H11) H10) H9) H8) H7) H6) H5) H4) H3) H2) (
 vF (convert 44 2 x5) (fun t25 H13 =>
 R t25 H13) H2)) H1) [(.int .u64 0),(.int .i64 7)] h ⟨⟩

theorem n140_calls {w0 at1:Value} {R:VP} {h:Heap} (H:n140 w0 at1 R h):CallsH Tryz.prog 140 #[w0,at1] h R ⟨⟩ :=
 callsH_of_eq Tryz.follow (.n none .l (.n none .l (.n none (.n none .l (.n none (.n (some [6,7]) .l .l) .l)) .l))) Tryz.func140 kR kR kR H

def n145 (s0 f1:Value) (R:VP) (h:Heap):Prop :=
 vF (len_ #[67] 3 #[s0]) (fun t7 H1 =>
 LoopC 1 (fun (X:VP)=>fun t8 H2 =>
 vF (vt .lss 3 8 7 t8 t7) (fun t9 H3 =>
 vD t9 (
 vF (indexAt 67 s0 t8) (fun t14 H4 =>
 vF (loadAt 139 t14) (fun t15 H5 =>
 InvokeH Tryz.prog f1 #[t15] H5 (fun t16 H6 =>
 vD t16 (
 R t8 H6) (
 vF (vk .add 3 8 .i64 1 t8) (fun t18 H7 =>
 X t18 H7) H6)) ⟨⟩) H4) H3) (
 R (.int .i64 (-1)) H3)) H2) [(.int .i64 0)] H1 ⟨⟩) h

theorem n145_calls {s0 f1:Value} {R:VP} {h:Heap} (H:n145 s0 f1 R h):CallsH Tryz.prog 145 #[s0,f1] h R ⟨⟩ :=
 callsH_of_eq Tryz.follow (.n none .l (.n none (.n none .l (.n none (.n (some [9]) .l .l) .l)) .l)) Tryz.func145 kR kR kR H

def n147 (at0 t1:Value) (R:VP) (h:Heap):Prop :=
 vF (vk .gtr 2 4 .i64 0 at0) (fun t5 H1 =>
 vJ t5 true (vV at0) (fun t7 H3 =>
 vJ t5 true (vF (vk .leq 2 7 .i64 268435456 t7)) (fun t8 H5 =>
 vF (pickS t5 t8 (.bool false)) (fun t9 H6 =>
 vJ t9 true (vV at0) (fun t11 H8 =>
 vJ t9 true (vF (loadAt 2 t1)) (fun t12 H10 =>
 vJ t9 true (vF (vt .rem 2 11 12 t11 t12)) (fun t13 H12 =>
 vJ t9 true (vF (vk .eql 2 13 .i64 0 t13)) (fun t14 H14 =>
 vF (pickS t9 t14 (.bool false)) (fun t15 H15 =>
 R t15 H15) H14) H12) H10) H8) H6) H5) H3) H1) h

theorem n147_calls {at0 t1:Value} {R:VP} {h:Heap} (H:n147 at0 t1 R h):CallsH Tryz.prog 147 #[at0,t1] h R ⟨⟩ :=
 callsH_of_eq Tryz.follow .l Tryz.func147 kR kR kR H

def n148 (n0 most1 at2 long3 t4:Value) (R:VP) (h:Heap):Prop :=
 vF (vk .eql 3 10 .i64 0 n0) (fun t11 H1 =>
 vD t11 (
 vF (vk .eql 2 12 .i64 0 at2) (fun t13 H2 =>
 vJ t13 true (vV long3) (fun t15 H4 =>
 vJ t13 true (vF (vk .eql 3 15 .i64 0 t15)) (fun t16 H6 =>
 vF (pickS t13 t16 (.bool false)) (fun t17 H7 =>
 R t17 H7) H6) H4) H2) H1) (
 vF (vk .gtr 3 18 .i64 0 n0) (fun t19 H8 =>
 vJ t19 true (vV n0) (fun t21 H10 =>
 vJ t19 true (vV most1) (fun t22 H12 =>
 vJ t19 true (vF (vt .leq 3 21 22 t21 t22)) (fun t23 H14 =>
 vF (pickS t19 t23 (.bool false)) (fun t24 H15 =>
 vJ t24 true (vF (loadAt 169 t4)) (fun t26 H17 =>
 vJ t24 true (vV at2) (fun t27 H19 =>
 Join1 (fun k_7 H20=>guardP t24 true (InvokeH Tryz.prog t26 #[t27] H20 k_7 ⟨⟩) (k_7 undef H20) ⟨⟩ ⟨⟩) (fun t28 H21 =>
 vF (pickS t24 t28 (.bool false)) (fun t29 H22 =>
 vJ t29 true (vV long3) (fun t31 H24 =>
 vJ t29 true (vF (vk .geq 3 31 .i64 1 t31)) (fun t32 H26 =>
 vF (pickS t29 t32 (.bool false)) (fun t33 H27 =>
 vJ t33 true (vV long3) (fun t35 H29 =>
 vJ t33 true (vF (vk .leq 3 35 .i64 65536 t35)) (fun t36 H31 =>
 vF (pickS t33 t36 (.bool false)) (fun t37 H32 =>
 R t37 H32) H31) H29) H27) H26) H24) H22) H21) H19 ⟨⟩ ⟨⟩) H17) H15) H14) H12) H10) H8) H1)) h

theorem n148_calls {n0 most1 at2 long3 t4:Value} {R:VP} {h:Heap} (H:n148 n0 most1 at2 long3 t4 R h):CallsH Tryz.prog 148 #[n0,most1,at2,long3,t4] h R ⟨⟩ :=
 callsH_of_eq Tryz.follow .l Tryz.func148 kR kR kR H

def n149 (h0:Value) (R:VP) (h:Heap):Prop :=
 vF (box 84 h0) (fun h1 H1 =>
 vF (fieldAt 84 h1 0) (fun t4 H2 =>
 vF (loadAt 3 t4) (fun t5 H3 =>
 vF (binS .shl 2 (.const (.int .i64 1)) (.tmp 5) (.int .i64 1) t5) (fun t6 H4 =>
 vF (fieldAt 84 h1 2) (fun t7 H5 =>
 vF (loadAt 2 t7) (fun t8 H6 =>
 vC 171 #[t8,t6] (fun t10 H7 =>
 vF (vk .quo 2 11 .i64 8 t6) (fun t12 H8 =>
 vC 171 #[t10,t12] (fun t13 H9 =>
 R t13 H9) H8) H7) H6) H5) H4) H3) H2) H1) h

theorem n149_calls {h0:Value} {R:VP} {h:Heap} (H:n149 h0 R h):CallsH Tryz.prog 149 #[h0] h R ⟨⟩ :=
 callsH_of_eq Tryz.follow .l Tryz.func149 kR kR kR H

def n150 (s0 substr1:Value) (R:VP) (h:Heap):Prop :=
 vC 172 #[s0,substr1] (fun t7 H1 =>
 vF (vk .geq 3 7 .i64 0 t7) (fun t8 H2 =>
 R t8 H2) H1) h

theorem n150_calls {s0 substr1:Value} {R:VP} {h:Heap} (H:n150 s0 substr1 R h):CallsH Tryz.prog 150 #[s0,substr1] h R ⟨⟩ :=
 callsH_of_eq Tryz.follow .l Tryz.func150 kR kR kR H

def n151 (data0 a1 b2:Value) (R:VP) (h:Heap):Prop :=
 vF (vk .add 3 8 .i64 1 a1) (fun t9 H1 =>
 LoopC 1 (fun (X:VP)=>fun i6 H2 =>
 vF (vt .lss 3 10 11 i6 b2) (fun t12 H3 =>
 vD t12 (
 LoopC 1 (fun (X_1:VP)=>fun j7 H4 =>
 vG (vt .gtr 3 16 17 j7 a1) (fun t18 _ =>
 vJ t18 true (vV data0) (fun t20 _ =>
 vJ t18 true (vV j7) (fun t21 _ =>
 vJ t18 true (vG (indexAt 47 t20 t21)) (fun t22 _ =>
 vJ t18 true (vG (loadAt 2 t22)) (fun t23 _ =>
 vJ t18 true (vV data0) (fun t24 _ =>
 vJ t18 true (vV j7) (fun t25 _ =>
 vJ t18 true (vG (vk .sub 3 25 .i64 1 t25)) (fun t26 _ =>
 vJ t18 true (vG (indexAt 47 t24 t26)) (fun t27 _ =>
 vJ t18 true (vG (loadAt 2 t27)) (fun t28 _ =>
 vJ t18 true (vC 157 #[t23,t28]) (fun t29 H15 =>
 vG (pickS t18 t29 (.bool false)) (fun t30 _ =>
 vD t30 (
 vG (vk .sub 3 36 .i64 1 j7) (fun t37 _ =>
 vG (vk .sub 3 39 .i64 1 j7) (fun t40 _ =>
 vG (indexAt 47 data0 t40) (fun t41 _ =>
 vG (loadAt 2 t41) (fun t42 _ =>
 vG (indexAt 47 data0 j7) (fun t45 _ =>
 vG (loadAt 2 t45) (fun t46 _ =>
 vG (indexAt 47 data0 j7) (fun t47 _ =>
 vF (storeS 2 t47 t42) (fun _ H16 =>
 vG (indexAt 47 data0 t37) (fun t48 _ =>
 vF (storeS 2 t48 t46) (fun _ H17 =>
 vF (vk .sub 3 31 .i64 1 j7) (fun t32 H18 =>
 X_1 t32 H18) H17) H16) #[]) H15) #[]) H15) #[]) H15) #[]) #[]) #[]) (
 vF (vk .add 3 13 .i64 1 i6) (fun t14 H19 =>
 X t14 H19) H15)) #[]) H4) H4) #[]) #[]) #[]) #[]) H4) #[]) #[]) #[]) #[]) [i6] H3 ⟨⟩) (
 R (.tuple #[]) H3)) H2) [t9] H1 ⟨⟩) h

theorem n151_calls {data0 a1 b2:Value} {R:VP} {h:Heap} (H:n151 data0 a1 b2 R h):CallsH Tryz.prog 151 #[data0,a1,b2] h R ⟨⟩ :=
 callsH_of_eq Tryz.follow (.n none .l (.n none (.n (some [7]) (.n none .l (.n none (.n none (.n none .l (.n none (.n (some [8]) .l .l) .l)) .l) .l)) .l) .l)) Tryz.func151 kR kR kR H

def n152 (data0 a1 b2:Value) (R:VP) (h:Heap):Prop :=
 vF (vt .sub 3 12 13 b2 a1) (fun t14 H1 =>
 vF (vk .sub 3 15 .i64 1 t14) (fun t16 H2 =>
 vF (vk .quo 3 16 .i64 2 t16) (fun t17 H3 =>
 LoopC 1 (fun (X:VP)=>fun i9 H4 =>
 vF (vk .geq 3 18 .i64 0 i9) (fun t19 H5 =>
 vD t19 (
 vC 173 #[data0,i9,t14,a1] (fun t26 H6 =>
 vF (vk .sub 3 20 .i64 1 i9) (fun t21 H7 =>
 X t21 H7) H6) H5) (
 vF (vk .sub 3 27 .i64 1 t14) (fun t28 H8 =>
 LoopC 1 (fun (X_1:VP)=>fun i10 H9 =>
 vF (vk .geq 3 29 .i64 0 i10) (fun t30 H10 =>
 vD t30 (
 vG (vt .add 3 36 37 a1 i10) (fun t38 _ =>
 vG (vt .add 3 40 41 a1 i10) (fun t42 _ =>
 vG (indexAt 47 data0 t42) (fun t43 _ =>
 vG (loadAt 2 t43) (fun t44 _ =>
 vG (indexAt 47 data0 a1) (fun t47 _ =>
 vG (loadAt 2 t47) (fun t48 _ =>
 vG (indexAt 47 data0 a1) (fun t49 _ =>
 vF (storeS 2 t49 t44) (fun _ H11 =>
 vG (indexAt 47 data0 t38) (fun t50 _ =>
 vF (storeS 2 t50 t48) (fun _ H12 =>
 vC 173 #[data0,(.int .i64 0),i10,a1] (fun t55 H13 =>
 vF (vk .sub 3 31 .i64 1 i10) (fun t32 H14 =>
 X_1 t32 H14) H13) H12) H11) #[]) H10) #[]) H10) #[]) H10) #[]) #[]) #[]) (
 R (.tuple #[]) H10)) H9) [t28] H8 ⟨⟩) H5)) H4) [t17] H3 ⟨⟩) H2) H1) h

theorem n152_calls {data0 a1 b2:Value} {R:VP} {h:Heap} (H:n152 data0 a1 b2 R h):CallsH Tryz.prog 152 #[data0,a1,b2] h R ⟨⟩ :=
 callsH_of_eq Tryz.follow (.n none .l (.n none .l (.n none .l (.n none (.n none .l (.n none (.n (some [10]) .l .l) .l)) (.n none .l (.n none (.n (some [11]) .l .l) .l)))))) Tryz.func152 kR kR kR H

def n153 (data0 a1 b2:Value) (R:VP) (h:Heap):Prop :=
 vF (vt .sub 3 11 12 b2 a1) (fun t13 H1 =>
 vF (vk .geq 3 14 .i64 8 t13) (fun t15 H2 =>
 vD t15 (
 vF (convert 3 253 t13) (fun t17 H3 =>
 vF (alloc 253 true undef) (fun random7 H4 =>
 vF (storeS 253 random7 t17) (fun _ H5 =>
 vC 174 #[t13] (fun t19 H6 =>
 vF (vk .quo 3 21 .i64 4 t13) (fun t22 H7 =>
 vF (vk .mul 3 22 .i64 2 t22) (fun t23 H8 =>
 vF (vt .add 3 20 23 a1 t23) (fun t24 H9 =>
 vF (vk .sub 3 24 .i64 1 t24) (fun t25 H10 =>
 LoopC 1 (fun (X:VP)=>fun idx9 H11 =>
 vF (vk .quo 3 28 .i64 4 t13) (fun t29 H12 =>
 vF (vk .mul 3 29 .i64 2 t29) (fun t30 H13 =>
 vF (vt .add 3 27 30 a1 t30) (fun t31 H14 =>
 vF (vk .add 3 31 .i64 1 t31) (fun t32 H15 =>
 vF (vt .leq 3 26 32 idx9 t32) (fun t33 H16 =>
 vD t33 (
 vC 175 #[random7] (fun t36 H17 =>
 vF (vk .sub 192 37 .u64 1 t19) (fun t38 H18 =>
 vF (vt .and 192 36 38 t36 t38) (fun t39 H19 =>
 vF (convert 192 3 t39) (fun t40 H20 =>
 JoinN 1 (fun (k:VP) H21 =>
 vF (vt .geq 3 41 42 t40 t13) (fun t43 H22 =>
 vD t43 (
 vF (vt .sub 3 44 45 t40 t13) (fun t46 H23 =>
 k t46 H23) H22) (
 k t40 H22)) H21)
 (fun other10 H24 =>
 vG (vt .add 3 50 51 a1 other10) (fun t52 _ =>
 vG (vt .add 3 54 55 a1 other10) (fun t56 _ =>
 vG (indexAt 47 data0 t56) (fun t57 _ =>
 vG (loadAt 2 t57) (fun t58 _ =>
 vG (indexAt 47 data0 idx9) (fun t61 _ =>
 vG (loadAt 2 t61) (fun t62 _ =>
 vG (indexAt 47 data0 idx9) (fun t63 _ =>
 vF (storeS 2 t63 t58) (fun _ H25 =>
 vG (indexAt 47 data0 t52) (fun t64 _ =>
 vF (storeS 2 t64 t62) (fun _ H26 =>
 vF (vk .add 3 34 .i64 1 idx9) (fun t35 H27 =>
 X t35 H27) H26) H25) #[]) H24) #[]) H24) #[]) H24) #[]) #[]) #[]) H20 ⟨⟩ ⟨⟩) H19) H18) H17) H16) (
 R (.tuple #[]) H16)) H15) H14) H13) H12) H11) [t25] H10 ⟨⟩) H9) H8) H7) H6) H5) H4) H3) H2) (
 R (.tuple #[]) H2)) H1) h

theorem n153_calls {data0 a1 b2:Value} {R:VP} {h:Heap} (H:n153 data0 a1 b2 R h):CallsH Tryz.prog 153 #[data0,a1,b2] h R ⟨⟩ :=
 callsH_of_eq Tryz.follow (.n none .l (.n none .l (.n none (.n none .l (.n none .l (.n none .l (.n none (.n (some [10]) (.n none .l (.n none (.n none (.n none .l (.n (some [11]) .l .l)) .l) .l)) .l) .l)))) .l))) Tryz.func153 kR kR kR H

def n154 (data0 a1 b2:Value) (R:VP) (h:Heap):Prop :=
 vF (vt .sub 3 13 14 b2 a1) (fun t15 H1 =>
 vF (alloc 3 true undef) (fun swaps9 H2 =>
 vF (vk .quo 3 17 .i64 4 t15) (fun t18 H3 =>
 vF (vk .mul 3 18 .i64 1 t18) (fun t19 H4 =>
 vF (vt .add 3 16 19 a1 t19) (fun t20 H5 =>
 vF (vk .quo 3 22 .i64 4 t15) (fun t23 H6 =>
 vF (vk .mul 3 23 .i64 2 t23) (fun t24 H7 =>
 vF (vt .add 3 21 24 a1 t24) (fun t25 H8 =>
 vF (vk .quo 3 27 .i64 4 t15) (fun t28 H9 =>
 vF (vk .mul 3 28 .i64 3 t28) (fun t29 H10 =>
 vF (vt .add 3 26 29 a1 t29) (fun t30 H11 =>
 JoinN 1 (fun (k:VP) H12 =>
 vF (vk .geq 3 31 .i64 8 t15) (fun t32 H13 =>
 vD t32 (
 JoinN 3 (fun (k_1:Value→Value→VP) H14 =>
 vF (vk .geq 3 33 .i64 50 t15) (fun t34 H15 =>
 vD t34 (
 vC 176 #[data0,t20,swaps9] (fun t37 H16 =>
 vC 176 #[data0,t25,swaps9] (fun t40 H17 =>
 vC 176 #[data0,t30,swaps9] (fun t43 H18 =>
 k_1 t37 t40 t43 H18) H17) H16) H15) (
 k_1 t20 t25 t30 H15)) H14)
 (fun i10 j11 k12 H19 =>
 vC 177 #[data0,i10,j11,k12,swaps9] (fun t48 H20 =>
 k t48 H20) H19) H13 ⟨⟩ ⟨⟩) (
 k t25 H13)) H12)
 (fun j11_1 H21 =>
 vF (loadAt 3 swaps9) (fun t49 H22 =>
 vF (vk .eql 3 49 .i64 0 t49) (fun t52 H23 =>
 vD t52 (
 R (.tuple #[j11_1,(.int .i64 1)]) H23) (
 vF (vk .eql 3 49 .i64 12 t49) (fun t55 H24 =>
 vD t55 (
 R (.tuple #[j11_1,(.int .i64 2)]) H24) (
 R (.tuple #[j11_1,(.int .i64 0)]) H24)) H23)) H22) H21) H11 ⟨⟩ ⟨⟩) H10) H9) H8) H7) H6) H5) H4) H3) H2) H1) h

theorem n154_calls {data0 a1 b2:Value} {R:VP} {h:Heap} (H:n154 data0 a1 b2 R h):CallsH Tryz.prog 154 #[data0,a1,b2] h R ⟨⟩ :=
 callsH_of_eq Tryz.follow (.n none .l (.n none .l (.n none .l (.n none .l (.n none .l (.n none .l (.n (some [12]) (.n none .l (.n none (.n (some [11,12,13]) .l .l) .l)) .l))))))) Tryz.func154 kR kR kR H

def n155 (data0 a1 b2:Value) (R:VP) (h:Heap):Prop :=
 vF (vk .sub 3 9 .i64 1 b2) (fun t10 H1 =>
 LoopC 2 (fun (X:Value→VP)=>fun i6 j7 H2 =>
 vF (vt .lss 3 11 12 i6 j7) (fun t13 H3 =>
 vD t13 (
 vG (indexAt 47 data0 j7) (fun t20 _ =>
 vG (loadAt 2 t20) (fun t21 _ =>
 vG (indexAt 47 data0 i6) (fun t24 _ =>
 vG (loadAt 2 t24) (fun t25 _ =>
 vG (indexAt 47 data0 i6) (fun t26 _ =>
 vF (storeS 2 t26 t21) (fun _ H4 =>
 vG (indexAt 47 data0 j7) (fun t27 _ =>
 vF (storeS 2 t27 t25) (fun _ H5 =>
 vF (vk .add 3 28 .i64 1 i6) (fun t29 H6 =>
 vF (vk .sub 3 30 .i64 1 j7) (fun t31 H7 =>
 X t29 t31 H7) H6) H5) H4) #[]) H3) #[]) H3) #[]) H3) #[]) (
 R (.tuple #[]) H3)) H2) [a1,t10] H1 ⟨⟩) h

theorem n155_calls {data0 a1 b2:Value} {R:VP} {h:Heap} (H:n155 data0 a1 b2 R h):CallsH Tryz.prog 155 #[data0,a1,b2] h R ⟨⟩ :=
 callsH_of_eq Tryz.follow (.n none .l (.n none .l (.n none (.n (some [7,8]) .l .l) .l))) Tryz.func155 kR kR kR H

def n156 (data0 a1 b2:Value) (R:VP) (h:Heap):Prop :=
 vF (vk .add 3 11 .i64 1 a1) (fun t12 H1 =>
 LoopC 2 (fun (X:Value→VP)=>fun i7 j8 H2 =>
 vF (vk .lss 3 13 .i64 5 j8) (fun t14 H3 =>
 vD t14 (
 JoinN 1 (fun (k:VP) H4 =>
 JoinN 1 (fun (k_1:VP) H5 =>
 LoopC 1 (fun (X_1:VP)=>fun i7_1 H6 =>
 vG (vt .lss 3 17 18 i7_1 b2) (fun t19 _ =>
 vJ t19 true (vV data0) (fun t21 _ =>
 vJ t19 true (vV i7_1) (fun t22 _ =>
 vJ t19 true (vG (indexAt 47 t21 t22)) (fun t23 _ =>
 vJ t19 true (vG (loadAt 2 t23)) (fun t24 _ =>
 vJ t19 true (vV data0) (fun t25 _ =>
 vJ t19 true (vV i7_1) (fun t26 _ =>
 vJ t19 true (vG (vk .sub 3 26 .i64 1 t26)) (fun t27 _ =>
 vJ t19 true (vG (indexAt 47 t25 t27)) (fun t28 _ =>
 vJ t19 true (vG (loadAt 2 t28)) (fun t29 _ =>
 vJ t19 true (vC 157 #[t24,t29]) (fun t30 H17 =>
 vJ t19 true (vG (Op.unary .not t30)) (fun t31 _ =>
 vG (pickS t19 t31 (.bool false)) (fun t32 _ =>
 vD t32 (
 vF (vk .add 3 33 .i64 1 i7_1) (fun t34 H19 =>
 X_1 t34 H19) H17) (
 vF (vt .eql 3 35 36 i7_1 b2) (fun t37 H20 =>
 vD t37 (
 R (.bool true) H20) (
 vF (vt .sub 3 38 39 b2 a1) (fun t40 H21 =>
 vF (vk .lss 3 40 .i64 50 t40) (fun t41 H22 =>
 vD t41 (
 R (.bool false) H22) (
 vG (vk .sub 3 45 .i64 1 i7_1) (fun t46 _ =>
 vG (vk .sub 3 48 .i64 1 i7_1) (fun t49 _ =>
 vG (indexAt 47 data0 t49) (fun t50 _ =>
 vG (loadAt 2 t50) (fun t51 _ =>
 vG (indexAt 47 data0 i7_1) (fun t54 _ =>
 vG (loadAt 2 t54) (fun t55 _ =>
 vG (indexAt 47 data0 i7_1) (fun t56 _ =>
 vF (storeS 2 t56 t51) (fun _ H23 =>
 vG (indexAt 47 data0 t46) (fun t57 _ =>
 vF (storeS 2 t57 t55) (fun _ H24 =>
 JoinN 0 (fun (k_13:Heap→Prop) H25 =>
 vF (vt .sub 3 58 59 i7_1 a1) (fun t60 H26 =>
 vF (vk .geq 3 60 .i64 2 t60) (fun t61 H27 =>
 vD t61 (
 vF (vk .sub 3 62 .i64 1 i7_1) (fun t63 H28 =>
 JoinN 0 (fun (k_14:Heap→Prop) H29 =>
 LoopC 1 (fun (X_2:VP)=>fun j9 H30 =>
 vF (vk .geq 3 64 .i64 1 j9) (fun t65 H31 =>
 vD t65 (
 vG (indexAt 47 data0 j9) (fun t70 _ =>
 vG (loadAt 2 t70) (fun t71 _ =>
 vG (vk .sub 3 73 .i64 1 j9) (fun t74 _ =>
 vG (indexAt 47 data0 t74) (fun t75 _ =>
 vG (loadAt 2 t75) (fun t76 _ =>
 vC 157 #[t71,t76] (fun t77 H32 =>
 vG (Op.unary .not t77) (fun t78 _ =>
 vD t78 (
 k_14 H32) (
 vG (vk .sub 3 82 .i64 1 j9) (fun t83 _ =>
 vG (vk .sub 3 85 .i64 1 j9) (fun t86 _ =>
 vG (indexAt 47 data0 t86) (fun t87 _ =>
 vG (loadAt 2 t87) (fun t88 _ =>
 vG (indexAt 47 data0 j9) (fun t91 _ =>
 vG (loadAt 2 t91) (fun t92 _ =>
 vG (indexAt 47 data0 j9) (fun t93 _ =>
 vF (storeS 2 t93 t88) (fun _ H33 =>
 vG (indexAt 47 data0 t83) (fun t94 _ =>
 vF (storeS 2 t94 t92) (fun _ H34 =>
 vF (vk .sub 3 66 .i64 1 j9) (fun t67 H35 =>
 X_2 t67 H35) H34) H33) #[]) H32) #[]) H32) #[]) H32) #[]) #[]) #[])) #[]) H31) H31) #[]) #[]) H31) #[]) (
 k_14 H31)) H30) [t63] H29 ⟨⟩)
 (fun H36 =>
 k_13 H36) H28 ⟨⟩ ⟨⟩) H27) (
 k_13 H27)) H26) H25)
 (fun H37 =>
 vF (vt .sub 3 95 96 b2 i7_1) (fun t97 H38 =>
 vF (vk .geq 3 97 .i64 2 t97) (fun t98 H39 =>
 vD t98 (
 vF (vk .add 3 99 .i64 1 i7_1) (fun t100 H40 =>
 JoinN 0 (fun (k_15:Heap→Prop) H41 =>
 LoopC 1 (fun (X_3:VP)=>fun j10 H42 =>
 vF (vt .lss 3 101 102 j10 b2) (fun t103 H43 =>
 vD t103 (
 vG (indexAt 47 data0 j10) (fun t108 _ =>
 vG (loadAt 2 t108) (fun t109 _ =>
 vG (vk .sub 3 111 .i64 1 j10) (fun t112 _ =>
 vG (indexAt 47 data0 t112) (fun t113 _ =>
 vG (loadAt 2 t113) (fun t114 _ =>
 vC 157 #[t109,t114] (fun t115 H44 =>
 vG (Op.unary .not t115) (fun t116 _ =>
 vD t116 (
 k_15 H44) (
 vG (vk .sub 3 120 .i64 1 j10) (fun t121 _ =>
 vG (vk .sub 3 123 .i64 1 j10) (fun t124 _ =>
 vG (indexAt 47 data0 t124) (fun t125 _ =>
 vG (loadAt 2 t125) (fun t126 _ =>
 vG (indexAt 47 data0 j10) (fun t129 _ =>
 vG (loadAt 2 t129) (fun t130 _ =>
 vG (indexAt 47 data0 j10) (fun t131 _ =>
 vF (storeS 2 t131 t126) (fun _ H45 =>
 vG (indexAt 47 data0 t121) (fun t132 _ =>
 vF (storeS 2 t132 t130) (fun _ H46 =>
 vF (vk .add 3 104 .i64 1 j10) (fun t105 H47 =>
 X_3 t105 H47) H46) H45) #[]) H44) #[]) H44) #[]) H44) #[]) #[]) #[])) #[]) H43) H43) #[]) #[]) H43) #[]) (
 k_15 H43)) H42) [t100] H41 ⟨⟩)
 (fun H48 =>
 k_1 i7_1 H48) H40 ⟨⟩ ⟨⟩) H39) (
 k_1 i7_1 H39)) H38) H37) H24 ⟨⟩ ⟨⟩) H23) #[]) H22) #[]) H22) #[]) H22) #[]) #[]) #[])) H21) H20)) H17)) #[]) #[]) H6) H6) #[]) #[]) #[]) #[]) H6) #[]) #[]) #[]) #[]) [i7] H5 ⟨⟩)
 (fun i7_2 H49 =>
 k i7_2 H49) H4 ⟨⟩ ⟨⟩)
 (fun i7_3 H50 =>
 vF (vk .add 3 15 .i64 1 j8) (fun t16 H51 =>
 X i7_3 t16 H51) H50) H3 ⟨⟩ ⟨⟩) (
 R (.bool false) H3)) H2) [t12,(.int .i64 0)] H1 ⟨⟩) h

theorem n156_calls {data0 a1 b2:Value} {R:VP} {h:Heap} (H:n156 data0 a1 b2 R h):CallsH Tryz.prog 156 #[data0,a1,b2] h R ⟨⟩ :=
 callsH_of_eq Tryz.follow (.n none .l (.n none .l (.n none (.n none .l (.n none (.n (some [8,9]) (.n none .l (.n (some [8]) (.n (some [8]) (.n none (.n none (.n (some [8]) .l .l) .l) (.n none .l (.n none .l (.n none .l (.n (some []) (.n none .l (.n none (.n none .l (.n (some []) (.n (some [10]) .l .l) .l)) .l)) (.n none .l (.n none (.n none .l (.n (some []) (.n (some [11]) .l .l) .l)) .l))))))) .l) .l)) .l) .l)) .l))) Tryz.func156 kR kR kR H

def n157 (x0 y1:Value) (R:VP) (h:Heap):Prop :=
 vC 178 #[x0] (fun t6 H1 =>
 vJ t6 true (vV y1) (fun t8 H3 =>
 vJ t6 true (vC 178 #[t8]) (fun t9 H5 =>
 vJ t6 true (vF (Op.unary .not t9)) (fun t10 H7 =>
 vF (pickS t6 t10 (.bool false)) (fun t11 H8 =>
 vJ t11 false (vV x0) (fun t13 H10 =>
 vJ t11 false (vV y1) (fun t14 H12 =>
 vJ t11 false (vF (vt .lss 2 13 14 t13 t14)) (fun t15 H14 =>
 vF (pickS t11 (.bool true) t15) (fun t16 H15 =>
 R t16 H15) H14) H12) H10) H8) H7) H5) H3) H1) h

theorem n157_calls {x0 y1:Value} {R:VP} {h:Heap} (H:n157 x0 y1 R h):CallsH Tryz.prog 157 #[x0,y1] h R ⟨⟩ :=
 callsH_of_eq Tryz.follow .l Tryz.func157 kR kR kR H

def n158 (data0 a1 b2 pivot3:Value) (R:VP) (h:Heap):Prop :=
 vG (indexAt 47 data0 pivot3) (fun t17 _ =>
 vG (loadAt 2 t17) (fun t18 _ =>
 vG (indexAt 47 data0 a1) (fun t21 _ =>
 vG (loadAt 2 t21) (fun t22 _ =>
 vG (indexAt 47 data0 a1) (fun t23 _ =>
 vF (storeS 2 t23 t18) (fun _ H1 =>
 vG (indexAt 47 data0 pivot3) (fun t24 _ =>
 vF (storeS 2 t24 t22) (fun _ H2 =>
 vF (vk .add 3 25 .i64 1 a1) (fun t26 H3 =>
 vF (vk .sub 3 27 .i64 1 b2) (fun t28 H4 =>
 LoopC 2 (fun (X:Value→VP)=>fun i9 j10 H5 =>
 LoopC 1 (fun (X_1:VP)=>fun i9_1 H6 =>
 vG (vt .leq 3 29 30 i9_1 j10) (fun t31 _ =>
 vJ t31 true (vV data0) (fun t33 _ =>
 vJ t31 true (vV a1) (fun t34 _ =>
 vJ t31 true (vG (indexAt 47 t33 t34)) (fun t35 _ =>
 vJ t31 true (vG (loadAt 2 t35)) (fun t36 _ =>
 vJ t31 true (vV data0) (fun t37 _ =>
 vJ t31 true (vV i9_1) (fun t38 _ =>
 vJ t31 true (vG (indexAt 47 t37 t38)) (fun t39 _ =>
 vJ t31 true (vG (loadAt 2 t39)) (fun t40 _ =>
 vJ t31 true (vC 157 #[t36,t40]) (fun t41 H16 =>
 vJ t31 true (vG (Op.unary .not t41)) (fun t42 _ =>
 vG (pickS t31 t42 (.bool false)) (fun t43 _ =>
 vD t43 (
 vF (vk .add 3 44 .i64 1 i9_1) (fun t45 H18 =>
 X_1 t45 H18) H16) (
 LoopC 1 (fun (X_2:VP)=>fun j10_1 H19 =>
 vG (vt .leq 3 46 47 i9_1 j10_1) (fun t48 _ =>
 vJ t48 true (vV data0) (fun t50 _ =>
 vJ t48 true (vV a1) (fun t51 _ =>
 vJ t48 true (vG (indexAt 47 t50 t51)) (fun t52 _ =>
 vJ t48 true (vG (loadAt 2 t52)) (fun t53 _ =>
 vJ t48 true (vV data0) (fun t54 _ =>
 vJ t48 true (vV j10_1) (fun t55 _ =>
 vJ t48 true (vG (indexAt 47 t54 t55)) (fun t56 _ =>
 vJ t48 true (vG (loadAt 2 t56)) (fun t57 _ =>
 vJ t48 true (vC 157 #[t53,t57]) (fun t58 H29 =>
 vG (pickS t48 t58 (.bool false)) (fun t59 _ =>
 vD t59 (
 vF (vk .sub 3 60 .i64 1 j10_1) (fun t61 H30 =>
 X_2 t61 H30) H29) (
 vF (vt .gtr 3 62 63 i9_1 j10_1) (fun t64 H31 =>
 vD t64 (
 R i9_1 H31) (
 vG (indexAt 47 data0 j10_1) (fun t71 _ =>
 vG (loadAt 2 t71) (fun t72 _ =>
 vG (indexAt 47 data0 i9_1) (fun t75 _ =>
 vG (loadAt 2 t75) (fun t76 _ =>
 vG (indexAt 47 data0 i9_1) (fun t77 _ =>
 vF (storeS 2 t77 t72) (fun _ H32 =>
 vG (indexAt 47 data0 j10_1) (fun t78 _ =>
 vF (storeS 2 t78 t76) (fun _ H33 =>
 vF (vk .add 3 79 .i64 1 i9_1) (fun t80 H34 =>
 vF (vk .sub 3 81 .i64 1 j10_1) (fun t82 H35 =>
 X t80 t82 H35) H34) H33) H32) #[]) H31) #[]) H31) #[]) H31) #[])) H29)) #[]) H19) H19) #[]) #[]) #[]) H19) #[]) #[]) #[]) #[]) [j10] H16 ⟨⟩)) #[]) #[]) H6) H6) #[]) #[]) #[]) H6) #[]) #[]) #[]) #[]) [i9] H5 ⟨⟩) [t26,t28] H4 ⟨⟩) H3) H2) H1) #[]) h) #[]) h) #[]) h) #[]

theorem n158_calls {data0 a1 b2 pivot3:Value} {R:VP} {h:Heap} (H:n158 data0 a1 b2 pivot3 R h):CallsH Tryz.prog 158 #[data0,a1,b2,pivot3] h R ⟨⟩ :=
 callsH_of_eq Tryz.follow (.n none .l (.n none .l (.n none .l (.n none (.n none (.n (some [10,11]) (.n none (.n none (.n none (.n (some [10]) .l .l) .l) (.n none (.n none (.n (some [11]) .l .l) .l) .l)) .l) .l) .l) .l)))) Tryz.func158 kR kR kR H

def n159 (data0 a1 b2 pivot3:Value) (R:VP) (h:Heap):Prop :=
 vG (indexAt 47 data0 pivot3) (fun t18 _ =>
 vG (loadAt 2 t18) (fun t19 _ =>
 vG (indexAt 47 data0 a1) (fun t22 _ =>
 vG (loadAt 2 t22) (fun t23 _ =>
 vG (indexAt 47 data0 a1) (fun t24 _ =>
 vF (storeS 2 t24 t19) (fun _ H1 =>
 vG (indexAt 47 data0 pivot3) (fun t25 _ =>
 vF (storeS 2 t25 t23) (fun _ H2 =>
 vF (vk .add 3 26 .i64 1 a1) (fun t27 H3 =>
 vF (vk .sub 3 28 .i64 1 b2) (fun t29 H4 =>
 LoopC 1 (fun (X:VP)=>fun i10 H5 =>
 vG (vt .leq 3 30 31 i10 t29) (fun t32 _ =>
 vJ t32 true (vV data0) (fun t34 _ =>
 vJ t32 true (vV i10) (fun t35 _ =>
 vJ t32 true (vG (indexAt 47 t34 t35)) (fun t36 _ =>
 vJ t32 true (vG (loadAt 2 t36)) (fun t37 _ =>
 vJ t32 true (vV data0) (fun t38 _ =>
 vJ t32 true (vV a1) (fun t39 _ =>
 vJ t32 true (vG (indexAt 47 t38 t39)) (fun t40 _ =>
 vJ t32 true (vG (loadAt 2 t40)) (fun t41 _ =>
 vJ t32 true (vC 157 #[t37,t41]) (fun t42 H15 =>
 vG (pickS t32 t42 (.bool false)) (fun t43 _ =>
 vD t43 (
 vF (vk .add 3 44 .i64 1 i10) (fun t45 H16 =>
 X t45 H16) H15) (
 LoopC 1 (fun (X_1:VP)=>fun j11 H17 =>
 vG (vt .leq 3 46 47 i10 j11) (fun t48 _ =>
 vJ t48 true (vV data0) (fun t50 _ =>
 vJ t48 true (vV j11) (fun t51 _ =>
 vJ t48 true (vG (indexAt 47 t50 t51)) (fun t52 _ =>
 vJ t48 true (vG (loadAt 2 t52)) (fun t53 _ =>
 vJ t48 true (vV data0) (fun t54 _ =>
 vJ t48 true (vV a1) (fun t55 _ =>
 vJ t48 true (vG (indexAt 47 t54 t55)) (fun t56 _ =>
 vJ t48 true (vG (loadAt 2 t56)) (fun t57 _ =>
 vJ t48 true (vC 157 #[t53,t57]) (fun t58 H27 =>
 vJ t48 true (vG (Op.unary .not t58)) (fun t59 _ =>
 vG (pickS t48 t59 (.bool false)) (fun t60 _ =>
 vD t60 (
 vF (vk .sub 3 61 .i64 1 j11) (fun t62 H29 =>
 X_1 t62 H29) H27) (
 vF (vt .gtr 3 63 64 i10 j11) (fun t65 H30 =>
 vD t65 (
 vG (indexAt 47 data0 a1) (fun t72 _ =>
 vG (loadAt 2 t72) (fun t73 _ =>
 vG (indexAt 47 data0 j11) (fun t76 _ =>
 vG (loadAt 2 t76) (fun t77 _ =>
 vG (indexAt 47 data0 j11) (fun t78 _ =>
 vF (storeS 2 t78 t73) (fun _ H31 =>
 vG (indexAt 47 data0 a1) (fun t79 _ =>
 vF (storeS 2 t79 t77) (fun _ H32 =>
 R (.tuple #[j11,(.bool true)]) H32) H31) #[]) H30) #[]) H30) #[]) H30) #[]) (
 vG (indexAt 47 data0 j11) (fun t87 _ =>
 vG (loadAt 2 t87) (fun t88 _ =>
 vG (indexAt 47 data0 i10) (fun t91 _ =>
 vG (loadAt 2 t91) (fun t92 _ =>
 vG (indexAt 47 data0 i10) (fun t93 _ =>
 vF (storeS 2 t93 t88) (fun _ H33 =>
 vG (indexAt 47 data0 j11) (fun t94 _ =>
 vF (storeS 2 t94 t92) (fun _ H34 =>
 vF (vk .add 3 95 .i64 1 i10) (fun t96 H35 =>
 vF (vk .sub 3 97 .i64 1 j11) (fun t98 H36 =>
 LoopC 2 (fun (X_2:Value→VP)=>fun i10_1 j11_1 H37 =>
 LoopC 1 (fun (X_3:VP)=>fun i10_2 H38 =>
 vG (vt .leq 3 99 100 i10_2 j11_1) (fun t101 _ =>
 vJ t101 true (vV data0) (fun t103 _ =>
 vJ t101 true (vV i10_2) (fun t104 _ =>
 vJ t101 true (vG (indexAt 47 t103 t104)) (fun t105 _ =>
 vJ t101 true (vG (loadAt 2 t105)) (fun t106 _ =>
 vJ t101 true (vV data0) (fun t107 _ =>
 vJ t101 true (vV a1) (fun t108 _ =>
 vJ t101 true (vG (indexAt 47 t107 t108)) (fun t109 _ =>
 vJ t101 true (vG (loadAt 2 t109)) (fun t110 _ =>
 vJ t101 true (vC 157 #[t106,t110]) (fun t111 H48 =>
 vG (pickS t101 t111 (.bool false)) (fun t112 _ =>
 vD t112 (
 vF (vk .add 3 113 .i64 1 i10_2) (fun t114 H49 =>
 X_3 t114 H49) H48) (
 LoopC 1 (fun (X_4:VP)=>fun j11_2 H50 =>
 vG (vt .leq 3 115 116 i10_2 j11_2) (fun t117 _ =>
 vJ t117 true (vV data0) (fun t119 _ =>
 vJ t117 true (vV j11_2) (fun t120 _ =>
 vJ t117 true (vG (indexAt 47 t119 t120)) (fun t121 _ =>
 vJ t117 true (vG (loadAt 2 t121)) (fun t122 _ =>
 vJ t117 true (vV data0) (fun t123 _ =>
 vJ t117 true (vV a1) (fun t124 _ =>
 vJ t117 true (vG (indexAt 47 t123 t124)) (fun t125 _ =>
 vJ t117 true (vG (loadAt 2 t125)) (fun t126 _ =>
 vJ t117 true (vC 157 #[t122,t126]) (fun t127 H60 =>
 vJ t117 true (vG (Op.unary .not t127)) (fun t128 _ =>
 vG (pickS t117 t128 (.bool false)) (fun t129 _ =>
 vD t129 (
 vF (vk .sub 3 130 .i64 1 j11_2) (fun t131 H62 =>
 X_4 t131 H62) H60) (
 vF (vt .gtr 3 132 133 i10_2 j11_2) (fun t134 H63 =>
 vD t134 (
 vG (indexAt 47 data0 a1) (fun t159 _ =>
 vG (loadAt 2 t159) (fun t160 _ =>
 vG (indexAt 47 data0 j11_2) (fun t163 _ =>
 vG (loadAt 2 t163) (fun t164 _ =>
 vG (indexAt 47 data0 j11_2) (fun t165 _ =>
 vF (storeS 2 t165 t160) (fun _ H64 =>
 vG (indexAt 47 data0 a1) (fun t166 _ =>
 vF (storeS 2 t166 t164) (fun _ H65 =>
 R (.tuple #[j11_2,(.bool false)]) H65) H64) #[]) H63) #[]) H63) #[]) H63) #[]) (
 vG (indexAt 47 data0 j11_2) (fun t141 _ =>
 vG (loadAt 2 t141) (fun t142 _ =>
 vG (indexAt 47 data0 i10_2) (fun t145 _ =>
 vG (loadAt 2 t145) (fun t146 _ =>
 vG (indexAt 47 data0 i10_2) (fun t147 _ =>
 vF (storeS 2 t147 t142) (fun _ H66 =>
 vG (indexAt 47 data0 j11_2) (fun t148 _ =>
 vF (storeS 2 t148 t146) (fun _ H67 =>
 vF (vk .add 3 149 .i64 1 i10_2) (fun t150 H68 =>
 vF (vk .sub 3 151 .i64 1 j11_2) (fun t152 H69 =>
 X_2 t150 t152 H69) H68) H67) H66) #[]) H63) #[]) H63) #[]) H63) #[])) H60)) #[]) #[]) H50) H50) #[]) #[]) #[]) H50) #[]) #[]) #[]) #[]) [j11_1] H48 ⟨⟩)) #[]) H38) H38) #[]) #[]) #[]) H38) #[]) #[]) #[]) #[]) [i10_1] H37 ⟨⟩) [t96,t98] H36 ⟨⟩) H35) H34) H33) #[]) H30) #[]) H30) #[]) H30) #[])) H27)) #[]) #[]) H17) H17) #[]) #[]) #[]) H17) #[]) #[]) #[]) #[]) [t29] H15 ⟨⟩)) #[]) H5) H5) #[]) #[]) #[]) H5) #[]) #[]) #[]) #[]) [t27] H4 ⟨⟩) H3) H2) H1) #[]) h) #[]) h) #[]) h) #[]

theorem n159_calls {data0 a1 b2 pivot3:Value} {R:VP} {h:Heap} (H:n159 data0 a1 b2 pivot3 R h):CallsH Tryz.prog 159 #[data0,a1,b2,pivot3] h R ⟨⟩ :=
 callsH_of_eq Tryz.follow (.n none .l (.n none .l (.n none .l (.n none (.n none (.n (some [11]) .l .l) .l) (.n none (.n none (.n (some [12]) .l .l) .l) (.n none .l (.n none .l (.n none .l (.n none .l (.n none (.n none (.n (some [11,12]) (.n none (.n none (.n none (.n (some [11]) .l .l) .l) (.n none (.n none (.n (some [12]) .l .l) .l) .l)) .l) .l) .l) .l)))))))))) Tryz.func159 kR kR kR H

def n161 (x0:Value) (R:VP) (h:Heap):Prop :=
 JoinN 2 (fun (k:Value→VP) H1 =>
 vF (vk .geq 44 3 .u64 4294967296 x0) (fun t4 H2 =>
 vD t4 (
 vF (vk .shr 44 5 .u64 32 x0) (fun t6 H3 =>
 k t6 (.int .i64 32) H3) H2) (
 k x0 (.int .i64 0) H2)) H1)
 (fun x0_1 n2 H4 =>
 JoinN 2 (fun (k_1:Value→VP) H5 =>
 vF (vk .geq 44 7 .u64 65536 x0_1) (fun t8 H6 =>
 vD t8 (
 vF (vk .shr 44 9 .u64 16 x0_1) (fun t10 H7 =>
 vF (vk .add 3 11 .i64 16 n2) (fun t12 H8 =>
 k_1 t10 t12 H8) H7) H6) (
 k_1 x0_1 n2 H6)) H5)
 (fun x0_2 n2_1 H9 =>
 JoinN 2 (fun (k_2:Value→VP) H10 =>
 vF (vk .geq 44 13 .u64 256 x0_2) (fun t14 H11 =>
 vD t14 (
 vF (vk .shr 44 15 .u64 8 x0_2) (fun t16 H12 =>
 vF (vk .add 3 17 .i64 8 n2_1) (fun t18 H13 =>
 k_2 t16 t18 H13) H12) H11) (
 k_2 x0_2 n2_1 H11)) H10)
 (fun x0_3 n2_2 H14 =>
 vF (convert 44 5 x0_3) (fun t21 H15 =>
 vF (index 9 (str [0,1,2,2,3,3,3,3,4,4,4,4,4,4,4,4,5,5,5,5,5,5,5,5,5,5,5,5,5,5,5,5,6,6,6,6,6,6,6,6,6,6,6,6,6,6,6,6,6,6,6,6,6,6,6,6,6,6,6,6,6,6,6,6,7,7,7,7,7,7,7,7,7,7,7,7,7,7,7,7,7,7,7,7,7,7,7,7,7,7,7,7,7,7,7,7,7,7,7,7,7,7,7,7,7,7,7,7,7,7,7,7,7,7,7,7,7,7,7,7,7,7,7,7,7,7,7,7,8,8,8,8,8,8,8,8,8,8,8,8,8,8,8,8,8,8,8,8,8,8,8,8,8,8,8,8,8,8,8,8,8,8,8,8,8,8,8,8,8,8,8,8,8,8,8,8,8,8,8,8,8,8,8,8,8,8,8,8,8,8,8,8,8,8,8,8,8,8,8,8,8,8,8,8,8,8,8,8,8,8,8,8,8,8,8,8,8,8,8,8,8,8,8,8,8,8,8,8,8,8,8,8,8,8,8,8,8,8,8,8,8,8,8,8,8,8,8,8,8,8,8,8,8,8,8,8]) t21) (fun t22 H16 =>
 vF (convert 5 3 t22) (fun t23 H17 =>
 vF (vt .add 3 19 23 n2_2 t23) (fun t24 H18 =>
 R t24 H18) H17) H16) H15) H14) H9 ⟨⟩ ⟨⟩) H4 ⟨⟩ ⟨⟩) h ⟨⟩ ⟨⟩

theorem n161_calls {x0:Value} {R:VP} {h:Heap} (H:n161 x0 R h):CallsH Tryz.prog 161 #[x0] h R ⟨⟩ :=
 callsH_of_eq Tryz.follow (.n none .l (.n (some [1,3]) .l (.n (some [1,3]) .l (.n (some [1,3]) .l .l)))) Tryz.func161 kR kR kR H

def n164 (w0 at1 n2:Value) (R:VP) (h:Heap):Prop :=
 vC 117 #[w0] (fun t9 H1 =>
 vG (vk .gtr 2 10 .i64 0 at1) (fun t11 _ =>
 vJ t11 true (vV at1) (fun t13 _ =>
 vJ t11 true (vV t9) (fun t14 _ =>
 vJ t11 true (vG (vt .rem 2 13 14 t13 t14)) (fun t15 _ =>
 vJ t11 true (vG (vk .eql 2 15 .i64 0 t15)) (fun t16 _ =>
 vG (pickS t11 t16 (.bool false)) (fun t17 _ =>
 vJ t17 true (vV at1) (fun t19 _ =>
 vJ t17 true (vV t9) (fun t20 _ =>
 vJ t17 true (vG (vt .quo 2 19 20 t19 t20)) (fun t21 _ =>
 vJ t17 true (vV w0) (fun t22 _ =>
 vJ t17 true (vC 61 #[t22]) (fun t23 H11 =>
 vJ t17 true (vG (vt .lss 2 21 23 t21 t23)) (fun t24 _ =>
 vG (pickS t17 t24 (.bool false)) (fun t25 _ =>
 vJ t25 true (vV n2) (fun t27 _ =>
 vJ t25 true (vV t9) (fun t28 _ =>
 vJ t25 true (vV w0) (fun t30 _ =>
 vJ t25 true (vV at1) (fun t32 _ =>
 vJ t25 true (vV t9) (fun t33 _ =>
 vJ t25 true (vG (vt .quo 2 32 33 t32 t33)) (fun t34 _ =>
 vJ t25 true (vC 72 #[t27,t28]) (fun t29 H20 =>
 vJ t25 true (vC 61 #[t30]) (fun t31 H22 =>
 vJ t25 true (vG (vt .sub 2 31 34 t31 t34)) (fun t35 _ =>
 vJ t25 true (vG (vt .leq 2 29 35 t29 t35)) (fun t36 _ =>
 vG (pickS t25 t36 (.bool false)) (fun t37 _ =>
 R t37 H22) #[]) #[]) #[]) H20) H11) #[]) #[]) #[]) #[]) #[]) #[]) #[]) #[]) H1) #[]) #[]) #[]) #[]) #[]) #[]) #[]) #[]) #[]) #[]) h

theorem n164_calls {w0 at1 n2:Value} {R:VP} {h:Heap} (H:n164 w0 at1 n2 R h):CallsH Tryz.prog 164 #[w0,at1,n2] h R ⟨⟩ :=
 callsH_of_eq Tryz.follow .l Tryz.func164 kR kR kR H

def n171 (a0 b1:Value) (R:VP) (h:Heap):Prop :=
 vF (vt .add 2 5 6 a0 b1) (fun t7 H1 =>
 vF (vk .sub 2 7 .i64 1 t7) (fun t8 H2 =>
 vF (vt .quo 2 8 9 t8 b1) (fun t10 H3 =>
 R t10 H3) H2) H1) h

theorem n171_calls {a0 b1:Value} {R:VP} {h:Heap} (H:n171 a0 b1 R h):CallsH Tryz.prog 171 #[a0,b1] h R ⟨⟩ :=
 callsH_of_eq Tryz.follow .l Tryz.func171 kR kR kR H

def n172 (s0 substr1:Value) (R:VP) (h:Heap):Prop :=
 vC 194 #[s0,substr1] (fun t7 H1 =>
 R t7 H1) h

theorem n172_calls {s0 substr1:Value} {R:VP} {h:Heap} (H:n172 s0 substr1 R h):CallsH Tryz.prog 172 #[s0,substr1] h R ⟨⟩ :=
 callsH_of_eq Tryz.follow .l Tryz.func172 kR kR kR H

def n173 (data0 lo1 hi2 first3:Value) (R:VP) (h:Heap):Prop :=
 LoopC 1 (fun (X:VP)=>fun root8 H1 =>
 vF (binS .mul 3 (.const (.int .i64 2)) (.tmp 11) (.int .i64 2) root8) (fun t12 H2 =>
 vF (vk .add 3 12 .i64 1 t12) (fun t13 H3 =>
 vF (vt .geq 3 14 15 t13 hi2) (fun t16 H4 =>
 vD t16 (
 R (.tuple #[]) H4) (
 JoinN 1 (fun (k:VP) H5 =>
 vG (vk .add 3 17 .i64 1 t13) (fun t18 _ =>
 vG (vt .lss 3 18 19 t18 hi2) (fun t20 _ =>
 vJ t20 true (vV data0) (fun t22 _ =>
 vJ t20 true (vV first3) (fun t23 _ =>
 vJ t20 true (vV t13) (fun t24 _ =>
 vJ t20 true (vG (vt .add 3 23 24 t23 t24)) (fun t25 _ =>
 vJ t20 true (vG (indexAt 47 t22 t25)) (fun t26 _ =>
 vJ t20 true (vG (loadAt 2 t26)) (fun t27 _ =>
 vJ t20 true (vV data0) (fun t28 _ =>
 vJ t20 true (vV first3) (fun t29 _ =>
 vJ t20 true (vV t13) (fun t30 _ =>
 vJ t20 true (vG (vt .add 3 29 30 t29 t30)) (fun t31 _ =>
 vJ t20 true (vG (vk .add 3 31 .i64 1 t31)) (fun t32 _ =>
 vJ t20 true (vG (indexAt 47 t28 t32)) (fun t33 _ =>
 vJ t20 true (vG (loadAt 2 t33)) (fun t34 _ =>
 vJ t20 true (vC 157 #[t27,t34]) (fun t35 H20 =>
 vG (pickS t20 t35 (.bool false)) (fun t36 _ =>
 vD t36 (
 vF (vk .add 3 37 .i64 1 t13) (fun t38 H21 =>
 k t38 H21) H20) (
 k t13 H20)) #[]) H5) H5) #[]) #[]) #[]) #[]) #[]) #[]) H5) #[]) #[]) #[]) #[]) #[]) #[]) #[])
 (fun child9 H22 =>
 vG (vt .add 3 40 41 first3 root8) (fun t42 _ =>
 vG (indexAt 47 data0 t42) (fun t43 _ =>
 vG (loadAt 2 t43) (fun t44 _ =>
 vG (vt .add 3 46 47 first3 child9) (fun t48 _ =>
 vG (indexAt 47 data0 t48) (fun t49 _ =>
 vG (loadAt 2 t49) (fun t50 _ =>
 vC 157 #[t44,t50] (fun t51 H23 =>
 vG (Op.unary .not t51) (fun t52 _ =>
 vD t52 (
 R (.tuple #[]) H23) (
 vG (vt .add 3 54 55 first3 root8) (fun t56 _ =>
 vG (vt .add 3 58 59 first3 child9) (fun t60 _ =>
 vG (vt .add 3 62 63 first3 child9) (fun t64 _ =>
 vG (indexAt 47 data0 t64) (fun t65 _ =>
 vG (loadAt 2 t65) (fun t66 _ =>
 vG (vt .add 3 68 69 first3 root8) (fun t70 _ =>
 vG (indexAt 47 data0 t70) (fun t71 _ =>
 vG (loadAt 2 t71) (fun t72 _ =>
 vG (indexAt 47 data0 t56) (fun t73 _ =>
 vF (storeS 2 t73 t66) (fun _ H24 =>
 vG (indexAt 47 data0 t60) (fun t74 _ =>
 vF (storeS 2 t74 t72) (fun _ H25 =>
 X child9 H25) H24) #[]) H23) #[]) H23) #[]) #[]) H23) #[]) #[]) #[]) #[])) #[]) H22) H22) #[]) #[]) H22) #[]) #[]) H4 ⟨⟩ ⟨⟩)) H3) H2) H1) [lo1] h ⟨⟩

theorem n173_calls {data0 lo1 hi2 first3:Value} {R:VP} {h:Heap} (H:n173 data0 lo1 hi2 first3 R h):CallsH Tryz.prog 173 #[data0,lo1,hi2,first3] h R ⟨⟩ :=
 callsH_of_eq Tryz.follow (.n none .l (.n none (.n (some [9]) (.n none (.n none .l (.n none .l (.n (some [10]) .l .l))) .l) .l) .l)) Tryz.func173 kR kR kR H

def n174 (length0:Value) (R:VP) (h:Heap):Prop :=
 vF (convert 3 192 length0) (fun t4 H1 =>
 vC 134 #[t4] (fun t5 H2 =>
 vF (binS .shl 192 (.const (.int .u64 1)) (.tmp 5) (.int .u64 1) t5) (fun t6 H3 =>
 R t6 H3) H2) H1) h

theorem n174_calls {length0:Value} {R:VP} {h:Heap} (H:n174 length0 R h):CallsH Tryz.prog 174 #[length0] h R ⟨⟩ :=
 callsH_of_eq Tryz.follow .l Tryz.func174 kR kR kR H

def n175 (r0:Value) (R:VP) (h:Heap):Prop :=
 vG (nilS r0) (fun t4 _ =>
 vG (loadAt 253 t4) (fun t5 _ =>
 vG (nilS r0) (fun t7 _ =>
 vG (loadAt 253 t7) (fun t8 _ =>
 vG (vk .shl 253 8 .u64 13 t8) (fun t9 _ =>
 vG (vt .xor 253 5 9 t5 t9) (fun t10 _ =>
 vG (nilS r0) (fun t11 _ =>
 vF (storeS 253 t11 t10) (fun _ H1 =>
 vG (nilS r0) (fun t13 _ =>
 vG (loadAt 253 t13) (fun t14 _ =>
 vG (nilS r0) (fun t16 _ =>
 vG (loadAt 253 t16) (fun t17 _ =>
 vG (vk .shr 253 17 .u64 7 t17) (fun t18 _ =>
 vG (vt .xor 253 14 18 t14 t18) (fun t19 _ =>
 vG (nilS r0) (fun t20 _ =>
 vF (storeS 253 t20 t19) (fun _ H2 =>
 vG (nilS r0) (fun t22 _ =>
 vG (loadAt 253 t22) (fun t23 _ =>
 vG (nilS r0) (fun t25 _ =>
 vG (loadAt 253 t25) (fun t26 _ =>
 vG (vk .shl 253 26 .u64 17 t26) (fun t27 _ =>
 vG (vt .xor 253 23 27 t23 t27) (fun t28 _ =>
 vG (nilS r0) (fun t29 _ =>
 vF (storeS 253 t29 t28) (fun _ H3 =>
 vF (nilS r0) (fun t31 H4 =>
 vF (loadAt 253 t31) (fun t32 H5 =>
 R t32 H5) H4) H3) H2) #[]) #[]) #[]) H2) #[]) H2) #[]) H1) #[]) #[]) #[]) H1) #[]) H1) #[]) h) #[]) #[]) #[]) h) #[]) h) #[]

theorem n175_calls {r0:Value} {R:VP} {h:Heap} (H:n175 r0 R h):CallsH Tryz.prog 175 #[r0] h R ⟨⟩ :=
 callsH_of_eq Tryz.follow .l Tryz.func175 kR kR kR H

def n176 (data0 a1 swaps2:Value) (R:VP) (h:Heap):Prop :=
 vF (vk .sub 3 8 .i64 1 a1) (fun t9 H1 =>
 vF (vk .add 3 11 .i64 1 a1) (fun t12 H2 =>
 vC 177 #[data0,t9,a1,t12,swaps2] (fun t14 H3 =>
 R t14 H3) H2) H1) h

theorem n176_calls {data0 a1 swaps2:Value} {R:VP} {h:Heap} (H:n176 data0 a1 swaps2 R h):CallsH Tryz.prog 176 #[data0,a1,swaps2] h R ⟨⟩ :=
 callsH_of_eq Tryz.follow .l Tryz.func176 kR kR kR H

def n177 (data0 a1 b2 c3 swaps4:Value) (R:VP) (h:Heap):Prop :=
 vC 195 #[data0,a1,b2,swaps4] (fun t16 H1 =>
 vF (extract t16 0) (fun t17 H2 =>
 vF (extract t16 1) (fun t18 H3 =>
 vC 195 #[data0,t18,c3,swaps4] (fun t24 H4 =>
 vF (extract t24 0) (fun t25 H5 =>
 vF (extract t24 1) (fun t26 H6 =>
 vC 195 #[data0,t17,t25,swaps4] (fun t32 H7 =>
 vF (extract t32 0) (fun t33 H8 =>
 vF (extract t32 1) (fun t34 H9 =>
 R t34 H9) H8) H7) H6) H5) H4) H3) H2) H1) h

theorem n177_calls {data0 a1 b2 c3 swaps4:Value} {R:VP} {h:Heap} (H:n177 data0 a1 b2 c3 swaps4 R h):CallsH Tryz.prog 177 #[data0,a1,b2,c3,swaps4] h R ⟨⟩ :=
 callsH_of_eq Tryz.follow .l Tryz.func177 kR kR kR H

def n178 (x0:Value) (R:VP) (h:Heap):Prop :=
 vF (vt .neq 2 3 4 x0 x0) (fun t5 H1 =>
 R t5 H1) h

theorem n178_calls {x0:Value} {R:VP} {h:Heap} (H:n178 x0 R h):CallsH Tryz.prog 178 #[x0] h R ⟨⟩ :=
 callsH_of_eq Tryz.follow .l Tryz.func178 kR kR kR H

def n194 (s0 substr1:Value) (R:VP) (h:Heap):Prop :=
 vF (len_ #[9] 3 #[substr1]) (fun t15 H1 =>
 vF (vk .eql 3 17 .i64 0 t15) (fun t18 H2 =>
 vJ t18 false (vV substr1) (fun t20 H4 =>
 vJ t18 false (vV s0) (fun t21 H6 =>
 vJ t18 false (vF (vt .eql 9 20 21 t20 t21)) (fun t22 H8 =>
 vF (pickS t18 (.bool true) t22) (fun t23 H9 =>
 vD t23 (
 R (.int .i64 0) H9) (
 vF (vk .eql 3 25 .i64 1 t15) (fun t26 H10 =>
 vD t26 (
 vF (index 9 substr1 (.int .i64 0)) (fun t29 H11 =>
 vC 204 #[s0,t29] (fun t30 H12 =>
 R t30 H12) H11) H10) (
 vF (len_ #[9] 3 #[s0]) (fun t34 H13 =>
 vF (vt .geq 3 32 34 t15 t34) (fun t35 H14 =>
 vD t35 (
 R (.int .i64 (-1)) H14) (
 vF (loadAt 3 (.pointer (some ⟨0,0,none⟩))) (fun t38 H15 =>
 vF (vt .leq 3 37 38 t15 t38) (fun t39 H16 =>
 vJ t39 true (vV s0) (fun t41 H18 =>
 vJ t39 true (vF (len_ #[9] 3 #[t41])) (fun t42 H20 =>
 vJ t39 true (vF (vk .leq 3 42 .i64 64 t42)) (fun t43 H22 =>
 vF (pickS t39 t43 (.bool false)) (fun t44 H23 =>
 vD t44 (
 ExtH Tryz.prog 205 #[s0,substr1] H23 (fun t47 H24 =>
 R t47 H24) ⟨⟩) (
 vF (index 9 substr1 (.int .i64 0)) (fun t49 H25 =>
 vF (index 9 substr1 (.int .i64 1)) (fun t51 H26 =>
 vF (len_ #[9] 3 #[s0]) (fun t53 H27 =>
 vF (vt .sub 3 53 54 t53 t15) (fun t55 H28 =>
 vF (vk .add 3 55 .i64 1 t55) (fun t56 H29 =>
 LoopC 2 (fun (X:Value→VP)=>fun i8 fails10 H30 =>
 vF (vt .lss 3 57 58 i8 t56) (fun t59 H31 =>
 vD t59 (
 JoinN 1 (fun (k_6:VP) H32 =>
 vF (index 9 s0 i8) (fun t62 H33 =>
 vF (vt .neq 5 62 63 t62 t49) (fun t64 H34 =>
 vD t64 (
 vF (vk .add 3 66 .i64 1 i8) (fun t67 H35 =>
 vF (sliceAt 9 s0 (some t67) (some t56) none) (fun t69 H36 =>
 vC 204 #[t69,t49] (fun t71 H37 =>
 vF (vk .lss 3 72 .i64 0 t71) (fun t73 H38 =>
 vD t73 (
 R (.int .i64 (-1)) H38) (
 vF (vk .add 3 75 .i64 1 t71) (fun t76 H39 =>
 vF (vt .add 3 74 76 i8 t76) (fun t77 H40 =>
 k_6 t77 H40) H39) H38)) H37) H36) H35) H34) (
 k_6 i8 H34)) H33) H32)
 (fun i8_1 H41 =>
 vF (vk .add 3 79 .i64 1 i8_1) (fun t80 H42 =>
 vF (index 9 s0 t80) (fun t81 H43 =>
 vF (vt .eql 5 81 82 t81 t51) (fun t83 H44 =>
 vJ t83 true (vV s0) (fun t85 H46 =>
 vJ t83 true (vV i8_1) (fun t86 H48 =>
 vJ t83 true (vV i8_1) (fun t87 H50 =>
 vJ t83 true (vV t15) (fun t88 H52 =>
 vJ t83 true (vF (vt .add 3 87 88 t87 t88)) (fun t89 H54 =>
 vJ t83 true (vF (sliceAt 9 t85 (some t86) (some t89) none)) (fun t90 H56 =>
 vJ t83 true (vV substr1) (fun t91 H58 =>
 vJ t83 true (vF (vt .eql 9 90 91 t90 t91)) (fun t92 H60 =>
 vF (pickS t83 t92 (.bool false)) (fun t93 H61 =>
 vD t93 (
 R i8_1 H61) (
 vF (vk .add 3 95 .i64 1 i8_1) (fun t96 H62 =>
 vF (vk .add 3 97 .i64 1 fails10) (fun t98 H63 =>
 vF (loadAt 3 (.pointer (some ⟨0,0,none⟩))) (fun t100 H64 =>
 vF (vt .leq 3 99 100 t15 t100) (fun t101 H65 =>
 vJ t101 true (vV t98) (fun t103 H67 =>
 vJ t101 true (vV t96) (fun t104 H69 =>
 vJ t101 true (vC 206 #[t104]) (fun t105 H71 =>
 vJ t101 true (vF (vt .gtr 3 103 105 t103 t105)) (fun t106 H73 =>
 vF (pickS t101 t106 (.bool false)) (fun t107 H74 =>
 vD t107 (
 vF (sliceAt 9 s0 (some t96) none none) (fun t110 H75 =>
 ExtH Tryz.prog 205 #[t110,substr1] H75 (fun t112 H76 =>
 vF (vk .geq 3 113 .i64 0 t112) (fun t114 H77 =>
 vD t114 (
 vF (vt .add 3 115 116 t112 t96) (fun t117 H78 =>
 R t117 H78) H77) (
 R (.int .i64 (-1)) H77)) H76) ⟨⟩) H74) (
 vF (loadAt 3 (.pointer (some ⟨0,0,none⟩))) (fun t119 H79 =>
 vF (vt .gtr 3 118 119 t15 t119) (fun t120 H80 =>
 vJ t120 true (vV t98) (fun t122 H82 =>
 vJ t120 true (vV t96) (fun t123 H84 =>
 vJ t120 true (vF (vk .shr 3 123 .u64 4 t123)) (fun t124 H86 =>
 vJ t120 true (vF (binS .add 3 (.const (.int .i64 4)) (.tmp 124) (.int .i64 4) t124)) (fun t125 H88 =>
 vJ t120 true (vF (vt .geq 3 122 125 t122 t125)) (fun t126 H90 =>
 vF (pickS t120 t126 (.bool false)) (fun t127 H91 =>
 vJ t127 true (vV t96) (fun t129 H93 =>
 vJ t127 true (vV t56) (fun t130 H95 =>
 vJ t127 true (vF (vt .lss 3 129 130 t129 t130)) (fun t131 H97 =>
 vF (pickS t127 t131 (.bool false)) (fun t132 H98 =>
 vD t132 (
 vF (sliceAt 9 s0 (some t96) none none) (fun t135 H99 =>
 vC 207 #[t135,substr1] (fun t137 H100 =>
 vF (vk .lss 3 138 .i64 0 t137) (fun t139 H101 =>
 vD t139 (
 R (.int .i64 (-1)) H101) (
 vF (vt .add 3 140 141 t96 t137) (fun t142 H102 =>
 R t142 H102) H101)) H100) H99) H98) (
 X t96 t98 H98)) H97) H95) H93) H91) H90) H88) H86) H84) H82) H80) H79) H74)) H73) H71) H69) H67) H65) H64) H63) H62) H61)) H60) H58) H56) H54) H52) H50) H48) H46) H44) H43) H42) H41) H31 ⟨⟩ ⟨⟩) (
 R (.int .i64 (-1)) H31)) H30) [(.int .i64 0),(.int .i64 0)] H29 ⟨⟩) H28) H27) H26) H25) H23)) H22) H20) H18) H16) H15) H14)) H13) H10)) H9)) H8) H6) H4) H2) H1) h

theorem n194_calls {s0 substr1:Value} {R:VP} {h:Heap} (H:n194 s0 substr1 R h):CallsH Tryz.prog 194 #[s0,substr1] h R ⟨⟩ :=
 callsH_of_eq Tryz.follow (.n none .l (.n none .l (.n none .l (.n none .l (.n none .l (.n none .l (.n none .l (.n none .l (.n none (.n none (.n (some [9,11]) (.n none .l (.n none (.n (some [9]) .l .l) .l)) .l) .l) .l))))))))) Tryz.func194 kR kR kR H

def n195 (data0 a1 b2 swaps3:Value) (R:VP) (h:Heap):Prop :=
 vG (indexAt 47 data0 b2) (fun t12 _ =>
 vG (loadAt 2 t12) (fun t13 _ =>
 vG (indexAt 47 data0 a1) (fun t16 _ =>
 vG (loadAt 2 t16) (fun t17 _ =>
 vC 157 #[t13,t17] (fun t18 H1 =>
 vD t18 (
 vF (nilS swaps3) (fun t20 H2 =>
 vF (loadAt 3 t20) (fun t21 H3 =>
 vF (vk .add 3 21 .i64 1 t21) (fun t22 H4 =>
 vF (nilS swaps3) (fun t23 H5 =>
 vF (storeS 3 t23 t22) (fun _ H6 =>
 R (.tuple #[b2,a1]) H6) H5) H4) H3) H2) H1) (
 R (.tuple #[a1,b2]) H1)) h) h) #[]) h) #[]

theorem n195_calls {data0 a1 b2 swaps3:Value} {R:VP} {h:Heap} (H:n195 data0 a1 b2 swaps3 R h):CallsH Tryz.prog 195 #[data0,a1,b2,swaps3] h R ⟨⟩ :=
 callsH_of_eq Tryz.follow .l Tryz.func195 kR kR kR H

def n204 (s0 c1:Value) (R:VP) (h:Heap):Prop :=
 ExtH Tryz.prog 215 #[s0,c1] h (fun t7 H1 =>
 R t7 H1) ⟨⟩

theorem n204_calls {s0 c1:Value} {R:VP} {h:Heap} (H:n204 s0 c1 R h):CallsH Tryz.prog 204 #[s0,c1] h R ⟨⟩ :=
 callsH_of_eq Tryz.follow .l Tryz.func204 kR kR kR H

end Go.Proofs.YtdccfkffabngjaaGreat

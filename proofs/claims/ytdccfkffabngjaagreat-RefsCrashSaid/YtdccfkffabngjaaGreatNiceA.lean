/- Printed by /tmp/tools2/gen.py: the condition of each function,and that a call meets it. -/
import Derived.Test.YtdccfkffabngjaaGreatVcFun
import Derived.Test.YtdccfkffabngjaaGreatProg
set_option maxRecDepth 100000
set_option linter.unusedVariables false
namespace Go.Proofs.YtdccfkffabngjaaGreat
open Go.Vc Go.Instr Go.Builtin

abbrev vF(m:Sem Value)(k:VP)(h:Heap):Prop:=Hp Tryz.prog false m k h ⟨⟩
abbrev vG(m:Sem Value)(k:VP)(h:Heap):Prop:=Hp Tryz.prog true m k h ⟨⟩
abbrev vC(n:Nat)(a:Array Value)(k:VP)(h:Heap):Prop:=CallsH Tryz.prog n a h k ⟨⟩
abbrev vD(v:Value)(a b:Prop):Prop:=CondP v a b ⟨⟩ ⟨⟩
abbrev vJ(c:Value)(w:Bool)(e:VP->Heap->Prop)(k:VP)(h:Heap):Prop:=Join1 (fun k h=>guardP c w (e k h) (k undef h) ⟨⟩ ⟨⟩) k h ⟨⟩ ⟨⟩
abbrev vV(x:Value)(k:VP)(h:Heap):Prop:=k x h
abbrev vk(o:Go.BinOp)(t n:Nat)(k:IntKind)(c:Int)(v:Value):Sem Value:=binS o t (.tmp n) (.const (.int k c)) v (.int k c)
abbrev vt(o:Go.BinOp)(t n m:Nat)(v w:Value):Sem Value:=binS o t (.tmp n) (.tmp m) v w

theorem Tryz.follow:Tryz.prog.follows .mixedOrders=true:=by kernel_rfl

def n149(h0:Value)(R:VP)(h:Heap):Prop :=
 vF (box 84 h0) (fun h1 H1 =>
 vF (fieldAt 84 h1 0) (fun t4 H2 =>
 vF (loadAt 3 t4) (fun t5 H3 =>
 vF (binS .shl 2 (.const (.int .i64 1)) (.tmp 5) (.int .i64 1) t5) (fun t6 H4 =>
 vF (fieldAt 84 h1 2) (fun t7 H5 =>
 vF (loadAt 2 t7) (fun t8 H6 =>
 vC 171 #[t8,t6] (fun t10 H7 =>
 vF (vk .quo 2 11 .i64 8 t6) (fun t12 H8 =>
 vC 171 #[t10,t12] (fun t13 H9 =>
 R t13 H9) H8) H7) H6) H5) H4) H3) H2) H1) h

theorem n149_calls{h0:Value}{R:VP}{h:Heap}(H:n149 h0 R h):CallsH Tryz.prog 149 #[h0] h R ⟨⟩ :=
 callsH_of_eq Tryz.follow .l Tryz.func149 kR kR kR H

def n150(s0 substr1:Value)(R:VP)(h:Heap):Prop :=
 vC 172 #[s0,substr1] (fun t7 H1 =>
 vF (vk .geq 3 7 .i64 0 t7) (fun t8 H2 =>
 R t8 H2) H1) h

theorem n150_calls{s0 substr1:Value}{R:VP}{h:Heap}(H:n150 s0 substr1 R h):CallsH Tryz.prog 150 #[s0,substr1] h R ⟨⟩ :=
 callsH_of_eq Tryz.follow .l Tryz.func150 kR kR kR H

def n151(data0 a1 b2:Value)(R:VP)(h:Heap):Prop :=
 vF (vk .add 3 8 .i64 1 a1) (fun t9 H1 =>
 LoopC 1 (fun (X:VP)=>fun i6 H2 =>
 vF (vt .lss 3 10 11 i6 b2) (fun t12 H3 =>
 vD t12 (
 LoopC 1 (fun (X_1:VP)=>fun j7 H4 =>
 vG (vt .gtr 3 16 17 j7 a1) (fun t18 _ =>
 vJ t18 true (vV data0) (fun t20 _ =>
 vJ t18 true (vV j7) (fun t21 _ =>
 vJ t18 true (vG (indexAt 47 t20 t21)) (fun t22 _ =>
 vJ t18 true (vG (loadAt 2 t22)) (fun t23 _ =>
 vJ t18 true (vV data0) (fun t24 _ =>
 vJ t18 true (vV j7) (fun t25 _ =>
 vJ t18 true (vG (vk .sub 3 25 .i64 1 t25)) (fun t26 _ =>
 vJ t18 true (vG (indexAt 47 t24 t26)) (fun t27 _ =>
 vJ t18 true (vG (loadAt 2 t27)) (fun t28 _ =>
 vJ t18 true (vC 157 #[t23,t28]) (fun t29 H15 =>
 vG (pickS t18 t29 (.bool false)) (fun t30 _ =>
 vD t30 (
 vG (vk .sub 3 36 .i64 1 j7) (fun t37 _ =>
 vG (vk .sub 3 39 .i64 1 j7) (fun t40 _ =>
 vG (indexAt 47 data0 t40) (fun t41 _ =>
 vG (loadAt 2 t41) (fun t42 _ =>
 vG (indexAt 47 data0 j7) (fun t45 _ =>
 vG (loadAt 2 t45) (fun t46 _ =>
 vG (indexAt 47 data0 j7) (fun t47 _ =>
 vF (storeS 2 t47 t42) (fun _ H16 =>
 vG (indexAt 47 data0 t37) (fun t48 _ =>
 vF (storeS 2 t48 t46) (fun _ H17 =>
 vF (vk .sub 3 31 .i64 1 j7) (fun t32 H18 =>
 X_1 t32 H18) H17) H16) #[]) H15) #[]) H15) #[]) H15) #[]) #[]) #[]) (
 vF (vk .add 3 13 .i64 1 i6) (fun t14 H19 =>
 X t14 H19) H15)) #[]) H4) H4) #[]) #[]) #[]) #[]) H4) #[]) #[]) #[]) #[]) [i6] H3 ⟨⟩) (
 R (.tuple #[]) H3)) H2) [t9] H1 ⟨⟩) h

theorem n151_calls{data0 a1 b2:Value}{R:VP}{h:Heap}(H:n151 data0 a1 b2 R h):CallsH Tryz.prog 151 #[data0,a1,b2] h R ⟨⟩ :=
 callsH_of_eq Tryz.follow (.n none .l (.n none (.n (some [7]) (.n none .l (.n none (.n none (.n none .l (.n none (.n (some [8]) .l .l) .l)) .l) .l)) .l) .l)) Tryz.func151 kR kR kR H

def n152(data0 a1 b2:Value)(R:VP)(h:Heap):Prop :=
 vF (vt .sub 3 12 13 b2 a1) (fun t14 H1 =>
 vF (vk .sub 3 15 .i64 1 t14) (fun t16 H2 =>
 vF (vk .quo 3 16 .i64 2 t16) (fun t17 H3 =>
 LoopC 1 (fun (X:VP)=>fun i9 H4 =>
 vF (vk .geq 3 18 .i64 0 i9) (fun t19 H5 =>
 vD t19 (
 vC 173 #[data0,i9,t14,a1] (fun t26 H6 =>
 vF (vk .sub 3 20 .i64 1 i9) (fun t21 H7 =>
 X t21 H7) H6) H5) (
 vF (vk .sub 3 27 .i64 1 t14) (fun t28 H8 =>
 LoopC 1 (fun (X_1:VP)=>fun i10 H9 =>
 vF (vk .geq 3 29 .i64 0 i10) (fun t30 H10 =>
 vD t30 (
 vG (vt .add 3 36 37 a1 i10) (fun t38 _ =>
 vG (vt .add 3 40 41 a1 i10) (fun t42 _ =>
 vG (indexAt 47 data0 t42) (fun t43 _ =>
 vG (loadAt 2 t43) (fun t44 _ =>
 vG (indexAt 47 data0 a1) (fun t47 _ =>
 vG (loadAt 2 t47) (fun t48 _ =>
 vG (indexAt 47 data0 a1) (fun t49 _ =>
 vF (storeS 2 t49 t44) (fun _ H11 =>
 vG (indexAt 47 data0 t38) (fun t50 _ =>
 vF (storeS 2 t50 t48) (fun _ H12 =>
 vC 173 #[data0,(.int .i64 0),i10,a1] (fun t55 H13 =>
 vF (vk .sub 3 31 .i64 1 i10) (fun t32 H14 =>
 X_1 t32 H14) H13) H12) H11) #[]) H10) #[]) H10) #[]) H10) #[]) #[]) #[]) (
 R (.tuple #[]) H10)) H9) [t28] H8 ⟨⟩) H5)) H4) [t17] H3 ⟨⟩) H2) H1) h

theorem n152_calls{data0 a1 b2:Value}{R:VP}{h:Heap}(H:n152 data0 a1 b2 R h):CallsH Tryz.prog 152 #[data0,a1,b2] h R ⟨⟩ :=
 callsH_of_eq Tryz.follow (.n none .l (.n none .l (.n none .l (.n none (.n none .l (.n none (.n (some [10]) .l .l) .l)) (.n none .l (.n none (.n (some [11]) .l .l) .l)))))) Tryz.func152 kR kR kR H

def n153(data0 a1 b2:Value)(R:VP)(h:Heap):Prop :=
 vF (vt .sub 3 11 12 b2 a1) (fun t13 H1 =>
 vF (vk .geq 3 14 .i64 8 t13) (fun t15 H2 =>
 vD t15 (
 vF (convert 3 253 t13) (fun t17 H3 =>
 vF (alloc 253 true undef) (fun random7 H4 =>
 vF (storeS 253 random7 t17) (fun _ H5 =>
 vC 174 #[t13] (fun t19 H6 =>
 vF (vk .quo 3 21 .i64 4 t13) (fun t22 H7 =>
 vF (vk .mul 3 22 .i64 2 t22) (fun t23 H8 =>
 vF (vt .add 3 20 23 a1 t23) (fun t24 H9 =>
 vF (vk .sub 3 24 .i64 1 t24) (fun t25 H10 =>
 LoopC 1 (fun (X:VP)=>fun idx9 H11 =>
 vF (vk .quo 3 28 .i64 4 t13) (fun t29 H12 =>
 vF (vk .mul 3 29 .i64 2 t29) (fun t30 H13 =>
 vF (vt .add 3 27 30 a1 t30) (fun t31 H14 =>
 vF (vk .add 3 31 .i64 1 t31) (fun t32 H15 =>
 vF (vt .leq 3 26 32 idx9 t32) (fun t33 H16 =>
 vD t33 (
 vC 175 #[random7] (fun t36 H17 =>
 vF (vk .sub 192 37 .u64 1 t19) (fun t38 H18 =>
 vF (vt .and 192 36 38 t36 t38) (fun t39 H19 =>
 vF (convert 192 3 t39) (fun t40 H20 =>
 JoinN 1 (fun (k:VP) H21 =>
 vF (vt .geq 3 41 42 t40 t13) (fun t43 H22 =>
 vD t43 (
 vF (vt .sub 3 44 45 t40 t13) (fun t46 H23 =>
 k t46 H23) H22) (
 k t40 H22)) H21)
 (fun other10 H24 =>
 vG (vt .add 3 50 51 a1 other10) (fun t52 _ =>
 vG (vt .add 3 54 55 a1 other10) (fun t56 _ =>
 vG (indexAt 47 data0 t56) (fun t57 _ =>
 vG (loadAt 2 t57) (fun t58 _ =>
 vG (indexAt 47 data0 idx9) (fun t61 _ =>
 vG (loadAt 2 t61) (fun t62 _ =>
 vG (indexAt 47 data0 idx9) (fun t63 _ =>
 vF (storeS 2 t63 t58) (fun _ H25 =>
 vG (indexAt 47 data0 t52) (fun t64 _ =>
 vF (storeS 2 t64 t62) (fun _ H26 =>
 vF (vk .add 3 34 .i64 1 idx9) (fun t35 H27 =>
 X t35 H27) H26) H25) #[]) H24) #[]) H24) #[]) H24) #[]) #[]) #[]) H20 ⟨⟩ ⟨⟩) H19) H18) H17) H16) (
 R (.tuple #[]) H16)) H15) H14) H13) H12) H11) [t25] H10 ⟨⟩) H9) H8) H7) H6) H5) H4) H3) H2) (
 R (.tuple #[]) H2)) H1) h

theorem n153_calls{data0 a1 b2:Value}{R:VP}{h:Heap}(H:n153 data0 a1 b2 R h):CallsH Tryz.prog 153 #[data0,a1,b2] h R ⟨⟩ :=
 callsH_of_eq Tryz.follow (.n none .l (.n none .l (.n none (.n none .l (.n none .l (.n none .l (.n none (.n (some [10]) (.n none .l (.n none (.n none (.n none .l (.n (some [11]) .l .l)) .l) .l)) .l) .l)))) .l))) Tryz.func153 kR kR kR H

def n154(data0 a1 b2:Value)(R:VP)(h:Heap):Prop :=
 vF (vt .sub 3 13 14 b2 a1) (fun t15 H1 =>
 vF (alloc 3 true undef) (fun swaps9 H2 =>
 vF (vk .quo 3 17 .i64 4 t15) (fun t18 H3 =>
 vF (vk .mul 3 18 .i64 1 t18) (fun t19 H4 =>
 vF (vt .add 3 16 19 a1 t19) (fun t20 H5 =>
 vF (vk .quo 3 22 .i64 4 t15) (fun t23 H6 =>
 vF (vk .mul 3 23 .i64 2 t23) (fun t24 H7 =>
 vF (vt .add 3 21 24 a1 t24) (fun t25 H8 =>
 vF (vk .quo 3 27 .i64 4 t15) (fun t28 H9 =>
 vF (vk .mul 3 28 .i64 3 t28) (fun t29 H10 =>
 vF (vt .add 3 26 29 a1 t29) (fun t30 H11 =>
 JoinN 1 (fun (k:VP) H12 =>
 vF (vk .geq 3 31 .i64 8 t15) (fun t32 H13 =>
 vD t32 (
 JoinN 3 (fun (k_1:Value->Value->VP) H14 =>
 vF (vk .geq 3 33 .i64 50 t15) (fun t34 H15 =>
 vD t34 (
 vC 176 #[data0,t20,swaps9] (fun t37 H16 =>
 vC 176 #[data0,t25,swaps9] (fun t40 H17 =>
 vC 176 #[data0,t30,swaps9] (fun t43 H18 =>
 k_1 t37 t40 t43 H18) H17) H16) H15) (
 k_1 t20 t25 t30 H15)) H14)
 (fun i10 j11 k12 H19 =>
 vC 177 #[data0,i10,j11,k12,swaps9] (fun t48 H20 =>
 k t48 H20) H19) H13 ⟨⟩ ⟨⟩) (
 k t25 H13)) H12)
 (fun j11_1 H21 =>
 vF (loadAt 3 swaps9) (fun t49 H22 =>
 vF (vk .eql 3 49 .i64 0 t49) (fun t52 H23 =>
 vD t52 (
 R (.tuple #[j11_1,(.int .i64 1)]) H23) (
 vF (vk .eql 3 49 .i64 12 t49) (fun t55 H24 =>
 vD t55 (
 R (.tuple #[j11_1,(.int .i64 2)]) H24) (
 R (.tuple #[j11_1,(.int .i64 0)]) H24)) H23)) H22) H21) H11 ⟨⟩ ⟨⟩) H10) H9) H8) H7) H6) H5) H4) H3) H2) H1) h

theorem n154_calls{data0 a1 b2:Value}{R:VP}{h:Heap}(H:n154 data0 a1 b2 R h):CallsH Tryz.prog 154 #[data0,a1,b2] h R ⟨⟩ :=
 callsH_of_eq Tryz.follow (.n none .l (.n none .l (.n none .l (.n none .l (.n none .l (.n none .l (.n (some [12]) (.n none .l (.n none (.n (some [11,12,13]) .l .l) .l)) .l))))))) Tryz.func154 kR kR kR H

def n155(data0 a1 b2:Value)(R:VP)(h:Heap):Prop :=
 vF (vk .sub 3 9 .i64 1 b2) (fun t10 H1 =>
 LoopC 2 (fun (X:Value->VP)=>fun i6 j7 H2 =>
 vF (vt .lss 3 11 12 i6 j7) (fun t13 H3 =>
 vD t13 (
 vG (indexAt 47 data0 j7) (fun t20 _ =>
 vG (loadAt 2 t20) (fun t21 _ =>
 vG (indexAt 47 data0 i6) (fun t24 _ =>
 vG (loadAt 2 t24) (fun t25 _ =>
 vG (indexAt 47 data0 i6) (fun t26 _ =>
 vF (storeS 2 t26 t21) (fun _ H4 =>
 vG (indexAt 47 data0 j7) (fun t27 _ =>
 vF (storeS 2 t27 t25) (fun _ H5 =>
 vF (vk .add 3 28 .i64 1 i6) (fun t29 H6 =>
 vF (vk .sub 3 30 .i64 1 j7) (fun t31 H7 =>
 X t29 t31 H7) H6) H5) H4) #[]) H3) #[]) H3) #[]) H3) #[]) (
 R (.tuple #[]) H3)) H2) [a1,t10] H1 ⟨⟩) h

theorem n155_calls{data0 a1 b2:Value}{R:VP}{h:Heap}(H:n155 data0 a1 b2 R h):CallsH Tryz.prog 155 #[data0,a1,b2] h R ⟨⟩ :=
 callsH_of_eq Tryz.follow (.n none .l (.n none .l (.n none (.n (some [7,8]) .l .l) .l))) Tryz.func155 kR kR kR H

def n156(data0 a1 b2:Value)(R:VP)(h:Heap):Prop :=
 vF (vk .add 3 11 .i64 1 a1) (fun t12 H1 =>
 LoopC 2 (fun (X:Value->VP)=>fun i7 j8 H2 =>
 vF (vk .lss 3 13 .i64 5 j8) (fun t14 H3 =>
 vD t14 (
 JoinN 1 (fun (k:VP) H4 =>
 JoinN 1 (fun (k_1:VP) H5 =>
 LoopC 1 (fun (X_1:VP)=>fun i7_1 H6 =>
 vG (vt .lss 3 17 18 i7_1 b2) (fun t19 _ =>
 vJ t19 true (vV data0) (fun t21 _ =>
 vJ t19 true (vV i7_1) (fun t22 _ =>
 vJ t19 true (vG (indexAt 47 t21 t22)) (fun t23 _ =>
 vJ t19 true (vG (loadAt 2 t23)) (fun t24 _ =>
 vJ t19 true (vV data0) (fun t25 _ =>
 vJ t19 true (vV i7_1) (fun t26 _ =>
 vJ t19 true (vG (vk .sub 3 26 .i64 1 t26)) (fun t27 _ =>
 vJ t19 true (vG (indexAt 47 t25 t27)) (fun t28 _ =>
 vJ t19 true (vG (loadAt 2 t28)) (fun t29 _ =>
 vJ t19 true (vC 157 #[t24,t29]) (fun t30 H17 =>
 vJ t19 true (vG (Op.unary .not t30)) (fun t31 _ =>
 vG (pickS t19 t31 (.bool false)) (fun t32 _ =>
 vD t32 (
 vF (vk .add 3 33 .i64 1 i7_1) (fun t34 H19 =>
 X_1 t34 H19) H17) (
 vF (vt .eql 3 35 36 i7_1 b2) (fun t37 H20 =>
 vD t37 (
 R (.bool true) H20) (
 vF (vt .sub 3 38 39 b2 a1) (fun t40 H21 =>
 vF (vk .lss 3 40 .i64 50 t40) (fun t41 H22 =>
 vD t41 (
 R (.bool false) H22) (
 vG (vk .sub 3 45 .i64 1 i7_1) (fun t46 _ =>
 vG (vk .sub 3 48 .i64 1 i7_1) (fun t49 _ =>
 vG (indexAt 47 data0 t49) (fun t50 _ =>
 vG (loadAt 2 t50) (fun t51 _ =>
 vG (indexAt 47 data0 i7_1) (fun t54 _ =>
 vG (loadAt 2 t54) (fun t55 _ =>
 vG (indexAt 47 data0 i7_1) (fun t56 _ =>
 vF (storeS 2 t56 t51) (fun _ H23 =>
 vG (indexAt 47 data0 t46) (fun t57 _ =>
 vF (storeS 2 t57 t55) (fun _ H24 =>
 JoinN 0 (fun (k_13:Heap->Prop) H25 =>
 vF (vt .sub 3 58 59 i7_1 a1) (fun t60 H26 =>
 vF (vk .geq 3 60 .i64 2 t60) (fun t61 H27 =>
 vD t61 (
 vF (vk .sub 3 62 .i64 1 i7_1) (fun t63 H28 =>
 JoinN 0 (fun (k_14:Heap->Prop) H29 =>
 LoopC 1 (fun (X_2:VP)=>fun j9 H30 =>
 vF (vk .geq 3 64 .i64 1 j9) (fun t65 H31 =>
 vD t65 (
 vG (indexAt 47 data0 j9) (fun t70 _ =>
 vG (loadAt 2 t70) (fun t71 _ =>
 vG (vk .sub 3 73 .i64 1 j9) (fun t74 _ =>
 vG (indexAt 47 data0 t74) (fun t75 _ =>
 vG (loadAt 2 t75) (fun t76 _ =>
 vC 157 #[t71,t76] (fun t77 H32 =>
 vG (Op.unary .not t77) (fun t78 _ =>
 vD t78 (
 k_14 H32) (
 vG (vk .sub 3 82 .i64 1 j9) (fun t83 _ =>
 vG (vk .sub 3 85 .i64 1 j9) (fun t86 _ =>
 vG (indexAt 47 data0 t86) (fun t87 _ =>
 vG (loadAt 2 t87) (fun t88 _ =>
 vG (indexAt 47 data0 j9) (fun t91 _ =>
 vG (loadAt 2 t91) (fun t92 _ =>
 vG (indexAt 47 data0 j9) (fun t93 _ =>
 vF (storeS 2 t93 t88) (fun _ H33 =>
 vG (indexAt 47 data0 t83) (fun t94 _ =>
 vF (storeS 2 t94 t92) (fun _ H34 =>
 vF (vk .sub 3 66 .i64 1 j9) (fun t67 H35 =>
 X_2 t67 H35) H34) H33) #[]) H32) #[]) H32) #[]) H32) #[]) #[]) #[])) #[]) H31) H31) #[]) #[]) H31) #[]) (
 k_14 H31)) H30) [t63] H29 ⟨⟩)
 (fun H36 =>
 k_13 H36) H28 ⟨⟩ ⟨⟩) H27) (
 k_13 H27)) H26) H25)
 (fun H37 =>
 vF (vt .sub 3 95 96 b2 i7_1) (fun t97 H38 =>
 vF (vk .geq 3 97 .i64 2 t97) (fun t98 H39 =>
 vD t98 (
 vF (vk .add 3 99 .i64 1 i7_1) (fun t100 H40 =>
 JoinN 0 (fun (k_15:Heap->Prop) H41 =>
 LoopC 1 (fun (X_3:VP)=>fun j10 H42 =>
 vF (vt .lss 3 101 102 j10 b2) (fun t103 H43 =>
 vD t103 (
 vG (indexAt 47 data0 j10) (fun t108 _ =>
 vG (loadAt 2 t108) (fun t109 _ =>
 vG (vk .sub 3 111 .i64 1 j10) (fun t112 _ =>
 vG (indexAt 47 data0 t112) (fun t113 _ =>
 vG (loadAt 2 t113) (fun t114 _ =>
 vC 157 #[t109,t114] (fun t115 H44 =>
 vG (Op.unary .not t115) (fun t116 _ =>
 vD t116 (
 k_15 H44) (
 vG (vk .sub 3 120 .i64 1 j10) (fun t121 _ =>
 vG (vk .sub 3 123 .i64 1 j10) (fun t124 _ =>
 vG (indexAt 47 data0 t124) (fun t125 _ =>
 vG (loadAt 2 t125) (fun t126 _ =>
 vG (indexAt 47 data0 j10) (fun t129 _ =>
 vG (loadAt 2 t129) (fun t130 _ =>
 vG (indexAt 47 data0 j10) (fun t131 _ =>
 vF (storeS 2 t131 t126) (fun _ H45 =>
 vG (indexAt 47 data0 t121) (fun t132 _ =>
 vF (storeS 2 t132 t130) (fun _ H46 =>
 vF (vk .add 3 104 .i64 1 j10) (fun t105 H47 =>
 X_3 t105 H47) H46) H45) #[]) H44) #[]) H44) #[]) H44) #[]) #[]) #[])) #[]) H43) H43) #[]) #[]) H43) #[]) (
 k_15 H43)) H42) [t100] H41 ⟨⟩)
 (fun H48 =>
 k_1 i7_1 H48) H40 ⟨⟩ ⟨⟩) H39) (
 k_1 i7_1 H39)) H38) H37) H24 ⟨⟩ ⟨⟩) H23) #[]) H22) #[]) H22) #[]) H22) #[]) #[]) #[])) H21) H20)) H17)) #[]) #[]) H6) H6) #[]) #[]) #[]) #[]) H6) #[]) #[]) #[]) #[]) [i7] H5 ⟨⟩)
 (fun i7_2 H49 =>
 k i7_2 H49) H4 ⟨⟩ ⟨⟩)
 (fun i7_3 H50 =>
 vF (vk .add 3 15 .i64 1 j8) (fun t16 H51 =>
 X i7_3 t16 H51) H50) H3 ⟨⟩ ⟨⟩) (
 R (.bool false) H3)) H2) [t12,(.int .i64 0)] H1 ⟨⟩) h

theorem n156_calls{data0 a1 b2:Value}{R:VP}{h:Heap}(H:n156 data0 a1 b2 R h):CallsH Tryz.prog 156 #[data0,a1,b2] h R ⟨⟩ :=
 callsH_of_eq Tryz.follow (.n none .l (.n none .l (.n none (.n none .l (.n none (.n (some [8,9]) (.n none .l (.n (some [8]) (.n (some [8]) (.n none (.n none (.n (some [8]) .l .l) .l) (.n none .l (.n none .l (.n none .l (.n (some []) (.n none .l (.n none (.n none .l (.n (some []) (.n (some [10]) .l .l) .l)) .l)) (.n none .l (.n none (.n none .l (.n (some []) (.n (some [11]) .l .l) .l)) .l))))))) .l) .l)) .l) .l)) .l))) Tryz.func156 kR kR kR H

def n157(x0 y1:Value)(R:VP)(h:Heap):Prop :=
 vC 178 #[x0] (fun t6 H1 =>
 vJ t6 true (vV y1) (fun t8 H3 =>
 vJ t6 true (vC 178 #[t8]) (fun t9 H5 =>
 vJ t6 true (vF (Op.unary .not t9)) (fun t10 H7 =>
 vF (pickS t6 t10 (.bool false)) (fun t11 H8 =>
 vJ t11 false (vV x0) (fun t13 H10 =>
 vJ t11 false (vV y1) (fun t14 H12 =>
 vJ t11 false (vF (vt .lss 2 13 14 t13 t14)) (fun t15 H14 =>
 vF (pickS t11 (.bool true) t15) (fun t16 H15 =>
 R t16 H15) H14) H12) H10) H8) H7) H5) H3) H1) h

theorem n157_calls{x0 y1:Value}{R:VP}{h:Heap}(H:n157 x0 y1 R h):CallsH Tryz.prog 157 #[x0,y1] h R ⟨⟩ :=
 callsH_of_eq Tryz.follow .l Tryz.func157 kR kR kR H

def n158(data0 a1 b2 pivot3:Value)(R:VP)(h:Heap):Prop :=
 vG (indexAt 47 data0 pivot3) (fun t17 _ =>
 vG (loadAt 2 t17) (fun t18 _ =>
 vG (indexAt 47 data0 a1) (fun t21 _ =>
 vG (loadAt 2 t21) (fun t22 _ =>
 vG (indexAt 47 data0 a1) (fun t23 _ =>
 vF (storeS 2 t23 t18) (fun _ H1 =>
 vG (indexAt 47 data0 pivot3) (fun t24 _ =>
 vF (storeS 2 t24 t22) (fun _ H2 =>
 vF (vk .add 3 25 .i64 1 a1) (fun t26 H3 =>
 vF (vk .sub 3 27 .i64 1 b2) (fun t28 H4 =>
 LoopC 2 (fun (X:Value->VP)=>fun i9 j10 H5 =>
 LoopC 1 (fun (X_1:VP)=>fun i9_1 H6 =>
 vG (vt .leq 3 29 30 i9_1 j10) (fun t31 _ =>
 vJ t31 true (vV data0) (fun t33 _ =>
 vJ t31 true (vV a1) (fun t34 _ =>
 vJ t31 true (vG (indexAt 47 t33 t34)) (fun t35 _ =>
 vJ t31 true (vG (loadAt 2 t35)) (fun t36 _ =>
 vJ t31 true (vV data0) (fun t37 _ =>
 vJ t31 true (vV i9_1) (fun t38 _ =>
 vJ t31 true (vG (indexAt 47 t37 t38)) (fun t39 _ =>
 vJ t31 true (vG (loadAt 2 t39)) (fun t40 _ =>
 vJ t31 true (vC 157 #[t36,t40]) (fun t41 H16 =>
 vJ t31 true (vG (Op.unary .not t41)) (fun t42 _ =>
 vG (pickS t31 t42 (.bool false)) (fun t43 _ =>
 vD t43 (
 vF (vk .add 3 44 .i64 1 i9_1) (fun t45 H18 =>
 X_1 t45 H18) H16) (
 LoopC 1 (fun (X_2:VP)=>fun j10_1 H19 =>
 vG (vt .leq 3 46 47 i9_1 j10_1) (fun t48 _ =>
 vJ t48 true (vV data0) (fun t50 _ =>
 vJ t48 true (vV a1) (fun t51 _ =>
 vJ t48 true (vG (indexAt 47 t50 t51)) (fun t52 _ =>
 vJ t48 true (vG (loadAt 2 t52)) (fun t53 _ =>
 vJ t48 true (vV data0) (fun t54 _ =>
 vJ t48 true (vV j10_1) (fun t55 _ =>
 vJ t48 true (vG (indexAt 47 t54 t55)) (fun t56 _ =>
 vJ t48 true (vG (loadAt 2 t56)) (fun t57 _ =>
 vJ t48 true (vC 157 #[t53,t57]) (fun t58 H29 =>
 vG (pickS t48 t58 (.bool false)) (fun t59 _ =>
 vD t59 (
 vF (vk .sub 3 60 .i64 1 j10_1) (fun t61 H30 =>
 X_2 t61 H30) H29) (
 vF (vt .gtr 3 62 63 i9_1 j10_1) (fun t64 H31 =>
 vD t64 (
 R i9_1 H31) (
 vG (indexAt 47 data0 j10_1) (fun t71 _ =>
 vG (loadAt 2 t71) (fun t72 _ =>
 vG (indexAt 47 data0 i9_1) (fun t75 _ =>
 vG (loadAt 2 t75) (fun t76 _ =>
 vG (indexAt 47 data0 i9_1) (fun t77 _ =>
 vF (storeS 2 t77 t72) (fun _ H32 =>
 vG (indexAt 47 data0 j10_1) (fun t78 _ =>
 vF (storeS 2 t78 t76) (fun _ H33 =>
 vF (vk .add 3 79 .i64 1 i9_1) (fun t80 H34 =>
 vF (vk .sub 3 81 .i64 1 j10_1) (fun t82 H35 =>
 X t80 t82 H35) H34) H33) H32) #[]) H31) #[]) H31) #[]) H31) #[])) H29)) #[]) H19) H19) #[]) #[]) #[]) H19) #[]) #[]) #[]) #[]) [j10] H16 ⟨⟩)) #[]) #[]) H6) H6) #[]) #[]) #[]) H6) #[]) #[]) #[]) #[]) [i9] H5 ⟨⟩) [t26,t28] H4 ⟨⟩) H3) H2) H1) #[]) h) #[]) h) #[]) h) #[]

theorem n158_calls{data0 a1 b2 pivot3:Value}{R:VP}{h:Heap}(H:n158 data0 a1 b2 pivot3 R h):CallsH Tryz.prog 158 #[data0,a1,b2,pivot3] h R ⟨⟩ :=
 callsH_of_eq Tryz.follow (.n none .l (.n none .l (.n none .l (.n none (.n none (.n (some [10,11]) (.n none (.n none (.n none (.n (some [10]) .l .l) .l) (.n none (.n none (.n (some [11]) .l .l) .l) .l)) .l) .l) .l) .l)))) Tryz.func158 kR kR kR H

def n159(data0 a1 b2 pivot3:Value)(R:VP)(h:Heap):Prop :=
 vG (indexAt 47 data0 pivot3) (fun t18 _ =>
 vG (loadAt 2 t18) (fun t19 _ =>
 vG (indexAt 47 data0 a1) (fun t22 _ =>
 vG (loadAt 2 t22) (fun t23 _ =>
 vG (indexAt 47 data0 a1) (fun t24 _ =>
 vF (storeS 2 t24 t19) (fun _ H1 =>
 vG (indexAt 47 data0 pivot3) (fun t25 _ =>
 vF (storeS 2 t25 t23) (fun _ H2 =>
 vF (vk .add 3 26 .i64 1 a1) (fun t27 H3 =>
 vF (vk .sub 3 28 .i64 1 b2) (fun t29 H4 =>
 LoopC 1 (fun (X:VP)=>fun i10 H5 =>
 vG (vt .leq 3 30 31 i10 t29) (fun t32 _ =>
 vJ t32 true (vV data0) (fun t34 _ =>
 vJ t32 true (vV i10) (fun t35 _ =>
 vJ t32 true (vG (indexAt 47 t34 t35)) (fun t36 _ =>
 vJ t32 true (vG (loadAt 2 t36)) (fun t37 _ =>
 vJ t32 true (vV data0) (fun t38 _ =>
 vJ t32 true (vV a1) (fun t39 _ =>
 vJ t32 true (vG (indexAt 47 t38 t39)) (fun t40 _ =>
 vJ t32 true (vG (loadAt 2 t40)) (fun t41 _ =>
 vJ t32 true (vC 157 #[t37,t41]) (fun t42 H15 =>
 vG (pickS t32 t42 (.bool false)) (fun t43 _ =>
 vD t43 (
 vF (vk .add 3 44 .i64 1 i10) (fun t45 H16 =>
 X t45 H16) H15) (
 LoopC 1 (fun (X_1:VP)=>fun j11 H17 =>
 vG (vt .leq 3 46 47 i10 j11) (fun t48 _ =>
 vJ t48 true (vV data0) (fun t50 _ =>
 vJ t48 true (vV j11) (fun t51 _ =>
 vJ t48 true (vG (indexAt 47 t50 t51)) (fun t52 _ =>
 vJ t48 true (vG (loadAt 2 t52)) (fun t53 _ =>
 vJ t48 true (vV data0) (fun t54 _ =>
 vJ t48 true (vV a1) (fun t55 _ =>
 vJ t48 true (vG (indexAt 47 t54 t55)) (fun t56 _ =>
 vJ t48 true (vG (loadAt 2 t56)) (fun t57 _ =>
 vJ t48 true (vC 157 #[t53,t57]) (fun t58 H27 =>
 vJ t48 true (vG (Op.unary .not t58)) (fun t59 _ =>
 vG (pickS t48 t59 (.bool false)) (fun t60 _ =>
 vD t60 (
 vF (vk .sub 3 61 .i64 1 j11) (fun t62 H29 =>
 X_1 t62 H29) H27) (
 vF (vt .gtr 3 63 64 i10 j11) (fun t65 H30 =>
 vD t65 (
 vG (indexAt 47 data0 a1) (fun t72 _ =>
 vG (loadAt 2 t72) (fun t73 _ =>
 vG (indexAt 47 data0 j11) (fun t76 _ =>
 vG (loadAt 2 t76) (fun t77 _ =>
 vG (indexAt 47 data0 j11) (fun t78 _ =>
 vF (storeS 2 t78 t73) (fun _ H31 =>
 vG (indexAt 47 data0 a1) (fun t79 _ =>
 vF (storeS 2 t79 t77) (fun _ H32 =>
 R (.tuple #[j11,(.bool true)]) H32) H31) #[]) H30) #[]) H30) #[]) H30) #[]) (
 vG (indexAt 47 data0 j11) (fun t87 _ =>
 vG (loadAt 2 t87) (fun t88 _ =>
 vG (indexAt 47 data0 i10) (fun t91 _ =>
 vG (loadAt 2 t91) (fun t92 _ =>
 vG (indexAt 47 data0 i10) (fun t93 _ =>
 vF (storeS 2 t93 t88) (fun _ H33 =>
 vG (indexAt 47 data0 j11) (fun t94 _ =>
 vF (storeS 2 t94 t92) (fun _ H34 =>
 vF (vk .add 3 95 .i64 1 i10) (fun t96 H35 =>
 vF (vk .sub 3 97 .i64 1 j11) (fun t98 H36 =>
 LoopC 2 (fun (X_2:Value->VP)=>fun i10_1 j11_1 H37 =>
 LoopC 1 (fun (X_3:VP)=>fun i10_2 H38 =>
 vG (vt .leq 3 99 100 i10_2 j11_1) (fun t101 _ =>
 vJ t101 true (vV data0) (fun t103 _ =>
 vJ t101 true (vV i10_2) (fun t104 _ =>
 vJ t101 true (vG (indexAt 47 t103 t104)) (fun t105 _ =>
 vJ t101 true (vG (loadAt 2 t105)) (fun t106 _ =>
 vJ t101 true (vV data0) (fun t107 _ =>
 vJ t101 true (vV a1) (fun t108 _ =>
 vJ t101 true (vG (indexAt 47 t107 t108)) (fun t109 _ =>
 vJ t101 true (vG (loadAt 2 t109)) (fun t110 _ =>
 vJ t101 true (vC 157 #[t106,t110]) (fun t111 H48 =>
 vG (pickS t101 t111 (.bool false)) (fun t112 _ =>
 vD t112 (
 vF (vk .add 3 113 .i64 1 i10_2) (fun t114 H49 =>
 X_3 t114 H49) H48) (
 LoopC 1 (fun (X_4:VP)=>fun j11_2 H50 =>
 vG (vt .leq 3 115 116 i10_2 j11_2) (fun t117 _ =>
 vJ t117 true (vV data0) (fun t119 _ =>
 vJ t117 true (vV j11_2) (fun t120 _ =>
 vJ t117 true (vG (indexAt 47 t119 t120)) (fun t121 _ =>
 vJ t117 true (vG (loadAt 2 t121)) (fun t122 _ =>
 vJ t117 true (vV data0) (fun t123 _ =>
 vJ t117 true (vV a1) (fun t124 _ =>
 vJ t117 true (vG (indexAt 47 t123 t124)) (fun t125 _ =>
 vJ t117 true (vG (loadAt 2 t125)) (fun t126 _ =>
 vJ t117 true (vC 157 #[t122,t126]) (fun t127 H60 =>
 vJ t117 true (vG (Op.unary .not t127)) (fun t128 _ =>
 vG (pickS t117 t128 (.bool false)) (fun t129 _ =>
 vD t129 (
 vF (vk .sub 3 130 .i64 1 j11_2) (fun t131 H62 =>
 X_4 t131 H62) H60) (
 vF (vt .gtr 3 132 133 i10_2 j11_2) (fun t134 H63 =>
 vD t134 (
 vG (indexAt 47 data0 a1) (fun t159 _ =>
 vG (loadAt 2 t159) (fun t160 _ =>
 vG (indexAt 47 data0 j11_2) (fun t163 _ =>
 vG (loadAt 2 t163) (fun t164 _ =>
 vG (indexAt 47 data0 j11_2) (fun t165 _ =>
 vF (storeS 2 t165 t160) (fun _ H64 =>
 vG (indexAt 47 data0 a1) (fun t166 _ =>
 vF (storeS 2 t166 t164) (fun _ H65 =>
 R (.tuple #[j11_2,(.bool false)]) H65) H64) #[]) H63) #[]) H63) #[]) H63) #[]) (
 vG (indexAt 47 data0 j11_2) (fun t141 _ =>
 vG (loadAt 2 t141) (fun t142 _ =>
 vG (indexAt 47 data0 i10_2) (fun t145 _ =>
 vG (loadAt 2 t145) (fun t146 _ =>
 vG (indexAt 47 data0 i10_2) (fun t147 _ =>
 vF (storeS 2 t147 t142) (fun _ H66 =>
 vG (indexAt 47 data0 j11_2) (fun t148 _ =>
 vF (storeS 2 t148 t146) (fun _ H67 =>
 vF (vk .add 3 149 .i64 1 i10_2) (fun t150 H68 =>
 vF (vk .sub 3 151 .i64 1 j11_2) (fun t152 H69 =>
 X_2 t150 t152 H69) H68) H67) H66) #[]) H63) #[]) H63) #[]) H63) #[])) H60)) #[]) #[]) H50) H50) #[]) #[]) #[]) H50) #[]) #[]) #[]) #[]) [j11_1] H48 ⟨⟩)) #[]) H38) H38) #[]) #[]) #[]) H38) #[]) #[]) #[]) #[]) [i10_1] H37 ⟨⟩) [t96,t98] H36 ⟨⟩) H35) H34) H33) #[]) H30) #[]) H30) #[]) H30) #[])) H27)) #[]) #[]) H17) H17) #[]) #[]) #[]) H17) #[]) #[]) #[]) #[]) [t29] H15 ⟨⟩)) #[]) H5) H5) #[]) #[]) #[]) H5) #[]) #[]) #[]) #[]) [t27] H4 ⟨⟩) H3) H2) H1) #[]) h) #[]) h) #[]) h) #[]

theorem n159_calls{data0 a1 b2 pivot3:Value}{R:VP}{h:Heap}(H:n159 data0 a1 b2 pivot3 R h):CallsH Tryz.prog 159 #[data0,a1,b2,pivot3] h R ⟨⟩ :=
 callsH_of_eq Tryz.follow (.n none .l (.n none .l (.n none .l (.n none (.n none (.n (some [11]) .l .l) .l) (.n none (.n none (.n (some [12]) .l .l) .l) (.n none .l (.n none .l (.n none .l (.n none .l (.n none (.n none (.n (some [11,12]) (.n none (.n none (.n none (.n (some [11]) .l .l) .l) (.n none (.n none (.n (some [12]) .l .l) .l) .l)) .l) .l) .l) .l)))))))))) Tryz.func159 kR kR kR H

def n161(x0:Value)(R:VP)(h:Heap):Prop :=
 JoinN 2 (fun (k:Value->VP) H1 =>
 vF (vk .geq 44 3 .u64 4294967296 x0) (fun t4 H2 =>
 vD t4 (
 vF (vk .shr 44 5 .u64 32 x0) (fun t6 H3 =>
 k t6 (.int .i64 32) H3) H2) (
 k x0 (.int .i64 0) H2)) H1)
 (fun x0_1 n2 H4 =>
 JoinN 2 (fun (k_1:Value->VP) H5 =>
 vF (vk .geq 44 7 .u64 65536 x0_1) (fun t8 H6 =>
 vD t8 (
 vF (vk .shr 44 9 .u64 16 x0_1) (fun t10 H7 =>
 vF (vk .add 3 11 .i64 16 n2) (fun t12 H8 =>
 k_1 t10 t12 H8) H7) H6) (
 k_1 x0_1 n2 H6)) H5)
 (fun x0_2 n2_1 H9 =>
 JoinN 2 (fun (k_2:Value->VP) H10 =>
 vF (vk .geq 44 13 .u64 256 x0_2) (fun t14 H11 =>
 vD t14 (
 vF (vk .shr 44 15 .u64 8 x0_2) (fun t16 H12 =>
 vF (vk .add 3 17 .i64 8 n2_1) (fun t18 H13 =>
 k_2 t16 t18 H13) H12) H11) (
 k_2 x0_2 n2_1 H11)) H10)
 (fun x0_3 n2_2 H14 =>
 vF (convert 44 5 x0_3) (fun t21 H15 =>
 vF (index 9 (str [0,1,2,2,3,3,3,3,4,4,4,4,4,4,4,4,5,5,5,5,5,5,5,5,5,5,5,5,5,5,5,5,6,6,6,6,6,6,6,6,6,6,6,6,6,6,6,6,6,6,6,6,6,6,6,6,6,6,6,6,6,6,6,6,7,7,7,7,7,7,7,7,7,7,7,7,7,7,7,7,7,7,7,7,7,7,7,7,7,7,7,7,7,7,7,7,7,7,7,7,7,7,7,7,7,7,7,7,7,7,7,7,7,7,7,7,7,7,7,7,7,7,7,7,7,7,7,7,8,8,8,8,8,8,8,8,8,8,8,8,8,8,8,8,8,8,8,8,8,8,8,8,8,8,8,8,8,8,8,8,8,8,8,8,8,8,8,8,8,8,8,8,8,8,8,8,8,8,8,8,8,8,8,8,8,8,8,8,8,8,8,8,8,8,8,8,8,8,8,8,8,8,8,8,8,8,8,8,8,8,8,8,8,8,8,8,8,8,8,8,8,8,8,8,8,8,8,8,8,8,8,8,8,8,8,8,8,8,8,8,8,8,8,8,8,8,8,8,8,8,8,8,8,8,8,8]) t21) (fun t22 H16 =>
 vF (convert 5 3 t22) (fun t23 H17 =>
 vF (vt .add 3 19 23 n2_2 t23) (fun t24 H18 =>
 R t24 H18) H17) H16) H15) H14) H9 ⟨⟩ ⟨⟩) H4 ⟨⟩ ⟨⟩) h ⟨⟩ ⟨⟩

theorem n161_calls{x0:Value}{R:VP}{h:Heap}(H:n161 x0 R h):CallsH Tryz.prog 161 #[x0] h R ⟨⟩ :=
 callsH_of_eq Tryz.follow (.n none .l (.n (some [1,3]) .l (.n (some [1,3]) .l (.n (some [1,3]) .l .l)))) Tryz.func161 kR kR kR H

def n162(s0 seq1:Value)(R:VP)(h:Heap):Prop :=
 vF (box 120 s0) (fun s2 H1 =>
 JoinN 1 (fun (k:VP) H2 =>
 JoinN 1 (fun (k_1:VP) H3 =>
 RangeC Tryz.prog none seq1 1 (.tuple #[]) (fun l args bg Nb Jb H4 =>
 bg (fun H5 =>
 vF (loadAt 120 s2) (fun t8 H6 =>
 vF (buildSlice 120 1 #[(0,(getV args 0))]) (fun t10 H7 =>
 vF (append_ #[120,120] 120 #[t8,t10]) (fun t11 H8 =>
 vF (storeS 120 s2 t11) (fun _ H9 =>
 Nb H9) H8) H7) H6) H5) H4)
 (fun D H10 =>
 k_1 D H10)
 (fun D_1 H11 =>
 RetD D_1 H11 (fun H12 =>
 R (.slice none 0 0) H12) ⟨⟩)
 (fun id D_2 H13=>bif Nat.beq id 0 then (k_1 D_2 H13) else False) H3 ⟨⟩ ⟨⟩ ⟨⟩ ⟨⟩)
 (fun D_3 H14 =>
 k D_3 H14) H2 ⟨⟩ ⟨⟩)
 (fun D_4 H15 =>
 vF (loadAt 120 s2) (fun t12 H16 =>
 RetD D_4 H16 (fun H17 =>
 R t12 H17) ⟨⟩) H15) H1 ⟨⟩ ⟨⟩) h

theorem n162_calls{s0 seq1:Value}{R:VP}{h:Heap}(H:n162 s0 seq1 R h):CallsH Tryz.prog 162 #[s0,seq1] h R ⟨⟩ :=
 callsH_of_eq Tryz.follow (.n none .l (.n (some [0]) (.n none .l (.n (some [0]) .l .l)) .l)) Tryz.func162 kR kR kR H

def n163(data0 a1 b2 limit3:Value)(R:VP)(h:Heap):Prop :=
 LoopC 5 (fun (X:Value->Value->Value->Value->VP)=>fun a1_1 b2_1 limit3_1 wasBalanced8 wasPartitioned9 H1 =>
 JoinN 5 (fun (k:Value->Value->Value->Value->VP) H2 =>
 vF (vt .sub 3 19 20 b2_1 a1_1) (fun t21 H3 =>
 vF (vk .leq 3 22 .i64 12 t21) (fun t23 H4 =>
 vD t23 (
 vC 179 #[data0,a1_1,b2_1] (fun t27 H5 =>
 R (.tuple #[]) H5) H4) (
 vF (vk .eql 3 28 .i64 0 limit3_1) (fun t29 H6 =>
 vD t29 (
 vC 180 #[data0,a1_1,b2_1] (fun t33 H7 =>
 R (.tuple #[]) H7) H6) (
 JoinN 1 (fun (k_1:VP) H8 =>
 vF (Op.unary .not wasBalanced8) (fun t35 H9 =>
 vD t35 (
 vC 181 #[data0,a1_1,b2_1] (fun t39 H10 =>
 vF (vk .sub 3 40 .i64 1 limit3_1) (fun t41 H11 =>
 k_1 t41 H11) H10) H9) (
 k_1 limit3_1 H9)) H8)
 (fun limit3_2 H12 =>
 vC 182 #[data0,a1_1,b2_1] (fun t46 H13 =>
 vF (extract t46 0) (fun t47 H14 =>
 vF (extract t46 1) (fun t48 H15 =>
 JoinN 2 (fun (k_2:Value->VP) H16 =>
 vF (vk .eql 227 49 .i64 2 t48) (fun t50 H17 =>
 vD t50 (
 vC 183 #[data0,a1_1,b2_1] (fun t54 H18 =>
 vF (vk .sub 3 55 .i64 1 b2_1) (fun t56 H19 =>
 vF (vt .sub 3 57 58 t47 a1_1) (fun t59 H20 =>
 vF (vt .sub 3 56 59 t56 t59) (fun t60 H21 =>
 k_2 t60 (.int .i64 1) H21) H20) H19) H18) H17) (
 k_2 t47 t48 H17)) H16)
 (fun pivot11 hint12 H22 =>
 JoinN 0 (fun (k_3:Heap->Prop) H23 =>
 vJ wasBalanced8 true (vV wasPartitioned9) (fun t63 H25 =>
 vF (pickS wasBalanced8 t63 (.bool false)) (fun t64 H26 =>
 vJ t64 true (vV hint12) (fun t66 H28 =>
 vJ t64 true (vF (vk .eql 227 66 .i64 1 t66)) (fun t67 H30 =>
 vF (pickS t64 t67 (.bool false)) (fun t68 H31 =>
 vD t68 (
 vC 184 #[data0,a1_1,b2_1] (fun t72 H32 =>
 vD t72 (
 R (.tuple #[]) H32) (
 k_3 H32)) H31) (
 k_3 H31)) H30) H28) H26) H25) H23)
 (fun H33 =>
 vG (vk .gtr 3 73 .i64 0 a1_1) (fun t74 _ =>
 vJ t74 true (vV data0) (fun t76 _ =>
 vJ t74 true (vV a1_1) (fun t77 _ =>
 vJ t74 true (vG (vk .sub 3 77 .i64 1 t77)) (fun t78 _ =>
 vJ t74 true (vG (indexAt 120 t76 t78)) (fun t79 _ =>
 vJ t74 true (vG (loadAt 9 t79)) (fun t80 _ =>
 vJ t74 true (vV data0) (fun t81 _ =>
 vJ t74 true (vV pivot11) (fun t82 _ =>
 vJ t74 true (vG (indexAt 120 t81 t82)) (fun t83 _ =>
 vJ t74 true (vG (loadAt 9 t83)) (fun t84 _ =>
 vJ t74 true (vC 185 #[t80,t84]) (fun t85 H44 =>
 vJ t74 true (vG (Op.unary .not t85)) (fun t86 _ =>
 vG (pickS t74 t86 (.bool false)) (fun t87 _ =>
 vD t87 (
 vC 186 #[data0,a1_1,b2_1,pivot11] (fun t92 H46 =>
 k t92 b2_1 limit3_2 wasBalanced8 wasPartitioned9 H46) H44) (
 vC 187 #[data0,a1_1,b2_1,pivot11] (fun t99 H47 =>
 vF (extract t99 0) (fun t100 H48 =>
 vF (extract t99 1) (fun t101 H49 =>
 vF (vt .sub 3 103 104 t100 a1_1) (fun t105 H50 =>
 vF (vt .sub 3 106 107 b2_1 t100) (fun t108 H51 =>
 vF (vk .quo 3 109 .i64 8 t21) (fun t110 H52 =>
 vF (vt .lss 3 111 112 t105 t108) (fun t113 H53 =>
 vD t113 (
 vF (vt .geq 3 114 115 t105 t110) (fun t116 H54 =>
 vC 163 #[data0,a1_1,t100,limit3_2] (fun t121 H55 =>
 vF (vk .add 3 122 .i64 1 t100) (fun t123 H56 =>
 k t123 b2_1 limit3_2 t116 t101 H56) H55) H54) H53) (
 vF (vt .geq 3 124 125 t108 t110) (fun t126 H57 =>
 vF (vk .add 3 128 .i64 1 t100) (fun t129 H58 =>
 vC 163 #[data0,t129,b2_1,limit3_2] (fun t132 H59 =>
 k a1_1 t100 limit3_2 t126 t101 H59) H58) H57) H53)) H52) H51) H50) H49) H48) H47) H44)) #[]) #[]) H33) H33) #[]) #[]) #[]) H33) #[]) #[]) #[]) #[]) #[]) H22 ⟨⟩ ⟨⟩) H15 ⟨⟩ ⟨⟩) H14) H13) H12) H6 ⟨⟩ ⟨⟩)) H4)) H3) H2)
 (fun a1_2 b2_2 limit3_3 wasBalanced8_1 wasPartitioned9_1 H60 =>
 X a1_2 b2_2 limit3_3 wasBalanced8_1 wasPartitioned9_1 H60) H1 ⟨⟩ ⟨⟩) [a1,b2,limit3,(.bool true),(.bool true)] h ⟨⟩

theorem n163_calls{data0 a1 b2 limit3:Value}{R:VP}{h:Heap}(H:n163 data0 a1 b2 limit3 R h):CallsH Tryz.prog 163 #[data0,a1,b2,limit3] h R ⟨⟩ :=
 callsH_of_eq Tryz.follow (.n none .l (.n none .l (.n none (.n (some [2,3,4,9,10]) (.n (some [2,3,4,9,10]) (.n none .l (.n none .l (.n none .l (.n (some [4]) .l (.n none .l (.n (some [12,13]) .l (.n (some []) .l .l))))))) .l) .l) .l))) Tryz.func163 kR kR kR H

def n164(w0 at1 n2:Value)(R:VP)(h:Heap):Prop :=
 vC 117 #[w0] (fun t9 H1 =>
 vG (vk .gtr 2 10 .i64 0 at1) (fun t11 _ =>
 vJ t11 true (vV at1) (fun t13 _ =>
 vJ t11 true (vV t9) (fun t14 _ =>
 vJ t11 true (vG (vt .rem 2 13 14 t13 t14)) (fun t15 _ =>
 vJ t11 true (vG (vk .eql 2 15 .i64 0 t15)) (fun t16 _ =>
 vG (pickS t11 t16 (.bool false)) (fun t17 _ =>
 vJ t17 true (vV at1) (fun t19 _ =>
 vJ t17 true (vV t9) (fun t20 _ =>
 vJ t17 true (vG (vt .quo 2 19 20 t19 t20)) (fun t21 _ =>
 vJ t17 true (vV w0) (fun t22 _ =>
 vJ t17 true (vC 61 #[t22]) (fun t23 H11 =>
 vJ t17 true (vG (vt .lss 2 21 23 t21 t23)) (fun t24 _ =>
 vG (pickS t17 t24 (.bool false)) (fun t25 _ =>
 vJ t25 true (vV n2) (fun t27 _ =>
 vJ t25 true (vV t9) (fun t28 _ =>
 vJ t25 true (vV w0) (fun t30 _ =>
 vJ t25 true (vV at1) (fun t32 _ =>
 vJ t25 true (vV t9) (fun t33 _ =>
 vJ t25 true (vG (vt .quo 2 32 33 t32 t33)) (fun t34 _ =>
 vJ t25 true (vC 72 #[t27,t28]) (fun t29 H20 =>
 vJ t25 true (vC 61 #[t30]) (fun t31 H22 =>
 vJ t25 true (vG (vt .sub 2 31 34 t31 t34)) (fun t35 _ =>
 vJ t25 true (vG (vt .leq 2 29 35 t29 t35)) (fun t36 _ =>
 vG (pickS t25 t36 (.bool false)) (fun t37 _ =>
 R t37 H22) #[]) #[]) #[]) H20) H11) #[]) #[]) #[]) #[]) #[]) #[]) #[]) #[]) H1) #[]) #[]) #[]) #[]) #[]) #[]) #[]) #[]) #[]) #[]) h

theorem n164_calls{w0 at1 n2:Value}{R:VP}{h:Heap}(H:n164 w0 at1 n2 R h):CallsH Tryz.prog 164 #[w0,at1,n2] h R ⟨⟩ :=
 callsH_of_eq Tryz.follow .l Tryz.func164 kR kR kR H

def n171(a0 b1:Value)(R:VP)(h:Heap):Prop :=
 vF (vt .add 2 5 6 a0 b1) (fun t7 H1 =>
 vF (vk .sub 2 7 .i64 1 t7) (fun t8 H2 =>
 vF (vt .quo 2 8 9 t8 b1) (fun t10 H3 =>
 R t10 H3) H2) H1) h

theorem n171_calls{a0 b1:Value}{R:VP}{h:Heap}(H:n171 a0 b1 R h):CallsH Tryz.prog 171 #[a0,b1] h R ⟨⟩ :=
 callsH_of_eq Tryz.follow .l Tryz.func171 kR kR kR H

def n172(s0 substr1:Value)(R:VP)(h:Heap):Prop :=
 vC 194 #[s0,substr1] (fun t7 H1 =>
 R t7 H1) h

theorem n172_calls{s0 substr1:Value}{R:VP}{h:Heap}(H:n172 s0 substr1 R h):CallsH Tryz.prog 172 #[s0,substr1] h R ⟨⟩ :=
 callsH_of_eq Tryz.follow .l Tryz.func172 kR kR kR H

def n173(data0 lo1 hi2 first3:Value)(R:VP)(h:Heap):Prop :=
 LoopC 1 (fun (X:VP)=>fun root8 H1 =>
 vF (binS .mul 3 (.const (.int .i64 2)) (.tmp 11) (.int .i64 2) root8) (fun t12 H2 =>
 vF (vk .add 3 12 .i64 1 t12) (fun t13 H3 =>
 vF (vt .geq 3 14 15 t13 hi2) (fun t16 H4 =>
 vD t16 (
 R (.tuple #[]) H4) (
 JoinN 1 (fun (k:VP) H5 =>
 vG (vk .add 3 17 .i64 1 t13) (fun t18 _ =>
 vG (vt .lss 3 18 19 t18 hi2) (fun t20 _ =>
 vJ t20 true (vV data0) (fun t22 _ =>
 vJ t20 true (vV first3) (fun t23 _ =>
 vJ t20 true (vV t13) (fun t24 _ =>
 vJ t20 true (vG (vt .add 3 23 24 t23 t24)) (fun t25 _ =>
 vJ t20 true (vG (indexAt 47 t22 t25)) (fun t26 _ =>
 vJ t20 true (vG (loadAt 2 t26)) (fun t27 _ =>
 vJ t20 true (vV data0) (fun t28 _ =>
 vJ t20 true (vV first3) (fun t29 _ =>
 vJ t20 true (vV t13) (fun t30 _ =>
 vJ t20 true (vG (vt .add 3 29 30 t29 t30)) (fun t31 _ =>
 vJ t20 true (vG (vk .add 3 31 .i64 1 t31)) (fun t32 _ =>
 vJ t20 true (vG (indexAt 47 t28 t32)) (fun t33 _ =>
 vJ t20 true (vG (loadAt 2 t33)) (fun t34 _ =>
 vJ t20 true (vC 157 #[t27,t34]) (fun t35 H20 =>
 vG (pickS t20 t35 (.bool false)) (fun t36 _ =>
 vD t36 (
 vF (vk .add 3 37 .i64 1 t13) (fun t38 H21 =>
 k t38 H21) H20) (
 k t13 H20)) #[]) H5) H5) #[]) #[]) #[]) #[]) #[]) #[]) H5) #[]) #[]) #[]) #[]) #[]) #[]) #[])
 (fun child9 H22 =>
 vG (vt .add 3 40 41 first3 root8) (fun t42 _ =>
 vG (indexAt 47 data0 t42) (fun t43 _ =>
 vG (loadAt 2 t43) (fun t44 _ =>
 vG (vt .add 3 46 47 first3 child9) (fun t48 _ =>
 vG (indexAt 47 data0 t48) (fun t49 _ =>
 vG (loadAt 2 t49) (fun t50 _ =>
 vC 157 #[t44,t50] (fun t51 H23 =>
 vG (Op.unary .not t51) (fun t52 _ =>
 vD t52 (
 R (.tuple #[]) H23) (
 vG (vt .add 3 54 55 first3 root8) (fun t56 _ =>
 vG (vt .add 3 58 59 first3 child9) (fun t60 _ =>
 vG (vt .add 3 62 63 first3 child9) (fun t64 _ =>
 vG (indexAt 47 data0 t64) (fun t65 _ =>
 vG (loadAt 2 t65) (fun t66 _ =>
 vG (vt .add 3 68 69 first3 root8) (fun t70 _ =>
 vG (indexAt 47 data0 t70) (fun t71 _ =>
 vG (loadAt 2 t71) (fun t72 _ =>
 vG (indexAt 47 data0 t56) (fun t73 _ =>
 vF (storeS 2 t73 t66) (fun _ H24 =>
 vG (indexAt 47 data0 t60) (fun t74 _ =>
 vF (storeS 2 t74 t72) (fun _ H25 =>
 X child9 H25) H24) #[]) H23) #[]) H23) #[]) #[]) H23) #[]) #[]) #[]) #[])) #[]) H22) H22) #[]) #[]) H22) #[]) #[]) H4 ⟨⟩ ⟨⟩)) H3) H2) H1) [lo1] h ⟨⟩

theorem n173_calls{data0 lo1 hi2 first3:Value}{R:VP}{h:Heap}(H:n173 data0 lo1 hi2 first3 R h):CallsH Tryz.prog 173 #[data0,lo1,hi2,first3] h R ⟨⟩ :=
 callsH_of_eq Tryz.follow (.n none .l (.n none (.n (some [9]) (.n none (.n none .l (.n none .l (.n (some [10]) .l .l))) .l) .l) .l)) Tryz.func173 kR kR kR H

def n174(length0:Value)(R:VP)(h:Heap):Prop :=
 vF (convert 3 192 length0) (fun t4 H1 =>
 vC 134 #[t4] (fun t5 H2 =>
 vF (binS .shl 192 (.const (.int .u64 1)) (.tmp 5) (.int .u64 1) t5) (fun t6 H3 =>
 R t6 H3) H2) H1) h

theorem n174_calls{length0:Value}{R:VP}{h:Heap}(H:n174 length0 R h):CallsH Tryz.prog 174 #[length0] h R ⟨⟩ :=
 callsH_of_eq Tryz.follow .l Tryz.func174 kR kR kR H

def n175(r0:Value)(R:VP)(h:Heap):Prop :=
 vG (nilS r0) (fun t4 _ =>
 vG (loadAt 253 t4) (fun t5 _ =>
 vG (nilS r0) (fun t7 _ =>
 vG (loadAt 253 t7) (fun t8 _ =>
 vG (vk .shl 253 8 .u64 13 t8) (fun t9 _ =>
 vG (vt .xor 253 5 9 t5 t9) (fun t10 _ =>
 vG (nilS r0) (fun t11 _ =>
 vF (storeS 253 t11 t10) (fun _ H1 =>
 vG (nilS r0) (fun t13 _ =>
 vG (loadAt 253 t13) (fun t14 _ =>
 vG (nilS r0) (fun t16 _ =>
 vG (loadAt 253 t16) (fun t17 _ =>
 vG (vk .shr 253 17 .u64 7 t17) (fun t18 _ =>
 vG (vt .xor 253 14 18 t14 t18) (fun t19 _ =>
 vG (nilS r0) (fun t20 _ =>
 vF (storeS 253 t20 t19) (fun _ H2 =>
 vG (nilS r0) (fun t22 _ =>
 vG (loadAt 253 t22) (fun t23 _ =>
 vG (nilS r0) (fun t25 _ =>
 vG (loadAt 253 t25) (fun t26 _ =>
 vG (vk .shl 253 26 .u64 17 t26) (fun t27 _ =>
 vG (vt .xor 253 23 27 t23 t27) (fun t28 _ =>
 vG (nilS r0) (fun t29 _ =>
 vF (storeS 253 t29 t28) (fun _ H3 =>
 vF (nilS r0) (fun t31 H4 =>
 vF (loadAt 253 t31) (fun t32 H5 =>
 R t32 H5) H4) H3) H2) #[]) #[]) #[]) H2) #[]) H2) #[]) H1) #[]) #[]) #[]) H1) #[]) H1) #[]) h) #[]) #[]) #[]) h) #[]) h) #[]

theorem n175_calls{r0:Value}{R:VP}{h:Heap}(H:n175 r0 R h):CallsH Tryz.prog 175 #[r0] h R ⟨⟩ :=
 callsH_of_eq Tryz.follow .l Tryz.func175 kR kR kR H

def n176(data0 a1 swaps2:Value)(R:VP)(h:Heap):Prop :=
 vF (vk .sub 3 8 .i64 1 a1) (fun t9 H1 =>
 vF (vk .add 3 11 .i64 1 a1) (fun t12 H2 =>
 vC 177 #[data0,t9,a1,t12,swaps2] (fun t14 H3 =>
 R t14 H3) H2) H1) h

theorem n176_calls{data0 a1 swaps2:Value}{R:VP}{h:Heap}(H:n176 data0 a1 swaps2 R h):CallsH Tryz.prog 176 #[data0,a1,swaps2] h R ⟨⟩ :=
 callsH_of_eq Tryz.follow .l Tryz.func176 kR kR kR H

def n177(data0 a1 b2 c3 swaps4:Value)(R:VP)(h:Heap):Prop :=
 vC 195 #[data0,a1,b2,swaps4] (fun t16 H1 =>
 vF (extract t16 0) (fun t17 H2 =>
 vF (extract t16 1) (fun t18 H3 =>
 vC 195 #[data0,t18,c3,swaps4] (fun t24 H4 =>
 vF (extract t24 0) (fun t25 H5 =>
 vF (extract t24 1) (fun t26 H6 =>
 vC 195 #[data0,t17,t25,swaps4] (fun t32 H7 =>
 vF (extract t32 0) (fun t33 H8 =>
 vF (extract t32 1) (fun t34 H9 =>
 R t34 H9) H8) H7) H6) H5) H4) H3) H2) H1) h

theorem n177_calls{data0 a1 b2 c3 swaps4:Value}{R:VP}{h:Heap}(H:n177 data0 a1 b2 c3 swaps4 R h):CallsH Tryz.prog 177 #[data0,a1,b2,c3,swaps4] h R ⟨⟩ :=
 callsH_of_eq Tryz.follow .l Tryz.func177 kR kR kR H

def n178(x0:Value)(R:VP)(h:Heap):Prop :=
 vF (vt .neq 2 3 4 x0 x0) (fun t5 H1 =>
 R t5 H1) h

theorem n178_calls{x0:Value}{R:VP}{h:Heap}(H:n178 x0 R h):CallsH Tryz.prog 178 #[x0] h R ⟨⟩ :=
 callsH_of_eq Tryz.follow .l Tryz.func178 kR kR kR H

def n179(data0 a1 b2:Value)(R:VP)(h:Heap):Prop :=
 vF (vk .add 3 8 .i64 1 a1) (fun t9 H1 =>
 LoopC 1 (fun (X:VP)=>fun i6 H2 =>
 vF (vt .lss 3 10 11 i6 b2) (fun t12 H3 =>
 vD t12 (
 LoopC 1 (fun (X_1:VP)=>fun j7 H4 =>
 vG (vt .gtr 3 16 17 j7 a1) (fun t18 _ =>
 vJ t18 true (vV data0) (fun t20 _ =>
 vJ t18 true (vV j7) (fun t21 _ =>
 vJ t18 true (vG (indexAt 120 t20 t21)) (fun t22 _ =>
 vJ t18 true (vG (loadAt 9 t22)) (fun t23 _ =>
 vJ t18 true (vV data0) (fun t24 _ =>
 vJ t18 true (vV j7) (fun t25 _ =>
 vJ t18 true (vG (vk .sub 3 25 .i64 1 t25)) (fun t26 _ =>
 vJ t18 true (vG (indexAt 120 t24 t26)) (fun t27 _ =>
 vJ t18 true (vG (loadAt 9 t27)) (fun t28 _ =>
 vJ t18 true (vC 185 #[t23,t28]) (fun t29 H15 =>
 vG (pickS t18 t29 (.bool false)) (fun t30 _ =>
 vD t30 (
 vG (vk .sub 3 36 .i64 1 j7) (fun t37 _ =>
 vG (vk .sub 3 39 .i64 1 j7) (fun t40 _ =>
 vG (indexAt 120 data0 t40) (fun t41 _ =>
 vG (loadAt 9 t41) (fun t42 _ =>
 vG (indexAt 120 data0 j7) (fun t45 _ =>
 vG (loadAt 9 t45) (fun t46 _ =>
 vG (indexAt 120 data0 j7) (fun t47 _ =>
 vF (storeS 9 t47 t42) (fun _ H16 =>
 vG (indexAt 120 data0 t37) (fun t48 _ =>
 vF (storeS 9 t48 t46) (fun _ H17 =>
 vF (vk .sub 3 31 .i64 1 j7) (fun t32 H18 =>
 X_1 t32 H18) H17) H16) #[]) H15) #[]) H15) #[]) H15) #[]) #[]) #[]) (
 vF (vk .add 3 13 .i64 1 i6) (fun t14 H19 =>
 X t14 H19) H15)) #[]) H4) H4) #[]) #[]) #[]) #[]) H4) #[]) #[]) #[]) #[]) [i6] H3 ⟨⟩) (
 R (.tuple #[]) H3)) H2) [t9] H1 ⟨⟩) h

theorem n179_calls{data0 a1 b2:Value}{R:VP}{h:Heap}(H:n179 data0 a1 b2 R h):CallsH Tryz.prog 179 #[data0,a1,b2] h R ⟨⟩ :=
 callsH_of_eq Tryz.follow (.n none .l (.n none (.n (some [7]) (.n none .l (.n none (.n none (.n none .l (.n none (.n (some [8]) .l .l) .l)) .l) .l)) .l) .l)) Tryz.func179 kR kR kR H

def n180(data0 a1 b2:Value)(R:VP)(h:Heap):Prop :=
 vF (vt .sub 3 12 13 b2 a1) (fun t14 H1 =>
 vF (vk .sub 3 15 .i64 1 t14) (fun t16 H2 =>
 vF (vk .quo 3 16 .i64 2 t16) (fun t17 H3 =>
 LoopC 1 (fun (X:VP)=>fun i9 H4 =>
 vF (vk .geq 3 18 .i64 0 i9) (fun t19 H5 =>
 vD t19 (
 vC 196 #[data0,i9,t14,a1] (fun t26 H6 =>
 vF (vk .sub 3 20 .i64 1 i9) (fun t21 H7 =>
 X t21 H7) H6) H5) (
 vF (vk .sub 3 27 .i64 1 t14) (fun t28 H8 =>
 LoopC 1 (fun (X_1:VP)=>fun i10 H9 =>
 vF (vk .geq 3 29 .i64 0 i10) (fun t30 H10 =>
 vD t30 (
 vG (vt .add 3 36 37 a1 i10) (fun t38 _ =>
 vG (vt .add 3 40 41 a1 i10) (fun t42 _ =>
 vG (indexAt 120 data0 t42) (fun t43 _ =>
 vG (loadAt 9 t43) (fun t44 _ =>
 vG (indexAt 120 data0 a1) (fun t47 _ =>
 vG (loadAt 9 t47) (fun t48 _ =>
 vG (indexAt 120 data0 a1) (fun t49 _ =>
 vF (storeS 9 t49 t44) (fun _ H11 =>
 vG (indexAt 120 data0 t38) (fun t50 _ =>
 vF (storeS 9 t50 t48) (fun _ H12 =>
 vC 196 #[data0,(.int .i64 0),i10,a1] (fun t55 H13 =>
 vF (vk .sub 3 31 .i64 1 i10) (fun t32 H14 =>
 X_1 t32 H14) H13) H12) H11) #[]) H10) #[]) H10) #[]) H10) #[]) #[]) #[]) (
 R (.tuple #[]) H10)) H9) [t28] H8 ⟨⟩) H5)) H4) [t17] H3 ⟨⟩) H2) H1) h

theorem n180_calls{data0 a1 b2:Value}{R:VP}{h:Heap}(H:n180 data0 a1 b2 R h):CallsH Tryz.prog 180 #[data0,a1,b2] h R ⟨⟩ :=
 callsH_of_eq Tryz.follow (.n none .l (.n none .l (.n none .l (.n none (.n none .l (.n none (.n (some [10]) .l .l) .l)) (.n none .l (.n none (.n (some [11]) .l .l) .l)))))) Tryz.func180 kR kR kR H

def n181(data0 a1 b2:Value)(R:VP)(h:Heap):Prop :=
 vF (vt .sub 3 11 12 b2 a1) (fun t13 H1 =>
 vF (vk .geq 3 14 .i64 8 t13) (fun t15 H2 =>
 vD t15 (
 vF (convert 3 253 t13) (fun t17 H3 =>
 vF (alloc 253 true undef) (fun random7 H4 =>
 vF (storeS 253 random7 t17) (fun _ H5 =>
 vC 174 #[t13] (fun t19 H6 =>
 vF (vk .quo 3 21 .i64 4 t13) (fun t22 H7 =>
 vF (vk .mul 3 22 .i64 2 t22) (fun t23 H8 =>
 vF (vt .add 3 20 23 a1 t23) (fun t24 H9 =>
 vF (vk .sub 3 24 .i64 1 t24) (fun t25 H10 =>
 LoopC 1 (fun (X:VP)=>fun idx9 H11 =>
 vF (vk .quo 3 28 .i64 4 t13) (fun t29 H12 =>
 vF (vk .mul 3 29 .i64 2 t29) (fun t30 H13 =>
 vF (vt .add 3 27 30 a1 t30) (fun t31 H14 =>
 vF (vk .add 3 31 .i64 1 t31) (fun t32 H15 =>
 vF (vt .leq 3 26 32 idx9 t32) (fun t33 H16 =>
 vD t33 (
 vC 175 #[random7] (fun t36 H17 =>
 vF (vk .sub 192 37 .u64 1 t19) (fun t38 H18 =>
 vF (vt .and 192 36 38 t36 t38) (fun t39 H19 =>
 vF (convert 192 3 t39) (fun t40 H20 =>
 JoinN 1 (fun (k:VP) H21 =>
 vF (vt .geq 3 41 42 t40 t13) (fun t43 H22 =>
 vD t43 (
 vF (vt .sub 3 44 45 t40 t13) (fun t46 H23 =>
 k t46 H23) H22) (
 k t40 H22)) H21)
 (fun other10 H24 =>
 vG (vt .add 3 50 51 a1 other10) (fun t52 _ =>
 vG (vt .add 3 54 55 a1 other10) (fun t56 _ =>
 vG (indexAt 120 data0 t56) (fun t57 _ =>
 vG (loadAt 9 t57) (fun t58 _ =>
 vG (indexAt 120 data0 idx9) (fun t61 _ =>
 vG (loadAt 9 t61) (fun t62 _ =>
 vG (indexAt 120 data0 idx9) (fun t63 _ =>
 vF (storeS 9 t63 t58) (fun _ H25 =>
 vG (indexAt 120 data0 t52) (fun t64 _ =>
 vF (storeS 9 t64 t62) (fun _ H26 =>
 vF (vk .add 3 34 .i64 1 idx9) (fun t35 H27 =>
 X t35 H27) H26) H25) #[]) H24) #[]) H24) #[]) H24) #[]) #[]) #[]) H20 ⟨⟩ ⟨⟩) H19) H18) H17) H16) (
 R (.tuple #[]) H16)) H15) H14) H13) H12) H11) [t25] H10 ⟨⟩) H9) H8) H7) H6) H5) H4) H3) H2) (
 R (.tuple #[]) H2)) H1) h

theorem n181_calls{data0 a1 b2:Value}{R:VP}{h:Heap}(H:n181 data0 a1 b2 R h):CallsH Tryz.prog 181 #[data0,a1,b2] h R ⟨⟩ :=
 callsH_of_eq Tryz.follow (.n none .l (.n none .l (.n none (.n none .l (.n none .l (.n none .l (.n none (.n (some [10]) (.n none .l (.n none (.n none (.n none .l (.n (some [11]) .l .l)) .l) .l)) .l) .l)))) .l))) Tryz.func181 kR kR kR H

def n182(data0 a1 b2:Value)(R:VP)(h:Heap):Prop :=
 vF (vt .sub 3 13 14 b2 a1) (fun t15 H1 =>
 vF (alloc 3 true undef) (fun swaps9 H2 =>
 vF (vk .quo 3 17 .i64 4 t15) (fun t18 H3 =>
 vF (vk .mul 3 18 .i64 1 t18) (fun t19 H4 =>
 vF (vt .add 3 16 19 a1 t19) (fun t20 H5 =>
 vF (vk .quo 3 22 .i64 4 t15) (fun t23 H6 =>
 vF (vk .mul 3 23 .i64 2 t23) (fun t24 H7 =>
 vF (vt .add 3 21 24 a1 t24) (fun t25 H8 =>
 vF (vk .quo 3 27 .i64 4 t15) (fun t28 H9 =>
 vF (vk .mul 3 28 .i64 3 t28) (fun t29 H10 =>
 vF (vt .add 3 26 29 a1 t29) (fun t30 H11 =>
 JoinN 1 (fun (k:VP) H12 =>
 vF (vk .geq 3 31 .i64 8 t15) (fun t32 H13 =>
 vD t32 (
 JoinN 3 (fun (k_1:Value->Value->VP) H14 =>
 vF (vk .geq 3 33 .i64 50 t15) (fun t34 H15 =>
 vD t34 (
 vC 197 #[data0,t20,swaps9] (fun t37 H16 =>
 vC 197 #[data0,t25,swaps9] (fun t40 H17 =>
 vC 197 #[data0,t30,swaps9] (fun t43 H18 =>
 k_1 t37 t40 t43 H18) H17) H16) H15) (
 k_1 t20 t25 t30 H15)) H14)
 (fun i10 j11 k12 H19 =>
 vC 198 #[data0,i10,j11,k12,swaps9] (fun t48 H20 =>
 k t48 H20) H19) H13 ⟨⟩ ⟨⟩) (
 k t25 H13)) H12)
 (fun j11_1 H21 =>
 vF (loadAt 3 swaps9) (fun t49 H22 =>
 vF (vk .eql 3 49 .i64 0 t49) (fun t52 H23 =>
 vD t52 (
 R (.tuple #[j11_1,(.int .i64 1)]) H23) (
 vF (vk .eql 3 49 .i64 12 t49) (fun t55 H24 =>
 vD t55 (
 R (.tuple #[j11_1,(.int .i64 2)]) H24) (
 R (.tuple #[j11_1,(.int .i64 0)]) H24)) H23)) H22) H21) H11 ⟨⟩ ⟨⟩) H10) H9) H8) H7) H6) H5) H4) H3) H2) H1) h

theorem n182_calls{data0 a1 b2:Value}{R:VP}{h:Heap}(H:n182 data0 a1 b2 R h):CallsH Tryz.prog 182 #[data0,a1,b2] h R ⟨⟩ :=
 callsH_of_eq Tryz.follow (.n none .l (.n none .l (.n none .l (.n none .l (.n none .l (.n none .l (.n (some [12]) (.n none .l (.n none (.n (some [11,12,13]) .l .l) .l)) .l))))))) Tryz.func182 kR kR kR H

def n183(data0 a1 b2:Value)(R:VP)(h:Heap):Prop :=
 vF (vk .sub 3 9 .i64 1 b2) (fun t10 H1 =>
 LoopC 2 (fun (X:Value->VP)=>fun i6 j7 H2 =>
 vF (vt .lss 3 11 12 i6 j7) (fun t13 H3 =>
 vD t13 (
 vG (indexAt 120 data0 j7) (fun t20 _ =>
 vG (loadAt 9 t20) (fun t21 _ =>
 vG (indexAt 120 data0 i6) (fun t24 _ =>
 vG (loadAt 9 t24) (fun t25 _ =>
 vG (indexAt 120 data0 i6) (fun t26 _ =>
 vF (storeS 9 t26 t21) (fun _ H4 =>
 vG (indexAt 120 data0 j7) (fun t27 _ =>
 vF (storeS 9 t27 t25) (fun _ H5 =>
 vF (vk .add 3 28 .i64 1 i6) (fun t29 H6 =>
 vF (vk .sub 3 30 .i64 1 j7) (fun t31 H7 =>
 X t29 t31 H7) H6) H5) H4) #[]) H3) #[]) H3) #[]) H3) #[]) (
 R (.tuple #[]) H3)) H2) [a1,t10] H1 ⟨⟩) h

theorem n183_calls{data0 a1 b2:Value}{R:VP}{h:Heap}(H:n183 data0 a1 b2 R h):CallsH Tryz.prog 183 #[data0,a1,b2] h R ⟨⟩ :=
 callsH_of_eq Tryz.follow (.n none .l (.n none .l (.n none (.n (some [7,8]) .l .l) .l))) Tryz.func183 kR kR kR H

def n184(data0 a1 b2:Value)(R:VP)(h:Heap):Prop :=
 vF (vk .add 3 11 .i64 1 a1) (fun t12 H1 =>
 LoopC 2 (fun (X:Value->VP)=>fun i7 j8 H2 =>
 vF (vk .lss 3 13 .i64 5 j8) (fun t14 H3 =>
 vD t14 (
 JoinN 1 (fun (k:VP) H4 =>
 JoinN 1 (fun (k_1:VP) H5 =>
 LoopC 1 (fun (X_1:VP)=>fun i7_1 H6 =>
 vG (vt .lss 3 17 18 i7_1 b2) (fun t19 _ =>
 vJ t19 true (vV data0) (fun t21 _ =>
 vJ t19 true (vV i7_1) (fun t22 _ =>
 vJ t19 true (vG (indexAt 120 t21 t22)) (fun t23 _ =>
 vJ t19 true (vG (loadAt 9 t23)) (fun t24 _ =>
 vJ t19 true (vV data0) (fun t25 _ =>
 vJ t19 true (vV i7_1) (fun t26 _ =>
 vJ t19 true (vG (vk .sub 3 26 .i64 1 t26)) (fun t27 _ =>
 vJ t19 true (vG (indexAt 120 t25 t27)) (fun t28 _ =>
 vJ t19 true (vG (loadAt 9 t28)) (fun t29 _ =>
 vJ t19 true (vC 185 #[t24,t29]) (fun t30 H17 =>
 vJ t19 true (vG (Op.unary .not t30)) (fun t31 _ =>
 vG (pickS t19 t31 (.bool false)) (fun t32 _ =>
 vD t32 (
 vF (vk .add 3 33 .i64 1 i7_1) (fun t34 H19 =>
 X_1 t34 H19) H17) (
 vF (vt .eql 3 35 36 i7_1 b2) (fun t37 H20 =>
 vD t37 (
 R (.bool true) H20) (
 vF (vt .sub 3 38 39 b2 a1) (fun t40 H21 =>
 vF (vk .lss 3 40 .i64 50 t40) (fun t41 H22 =>
 vD t41 (
 R (.bool false) H22) (
 vG (vk .sub 3 45 .i64 1 i7_1) (fun t46 _ =>
 vG (vk .sub 3 48 .i64 1 i7_1) (fun t49 _ =>
 vG (indexAt 120 data0 t49) (fun t50 _ =>
 vG (loadAt 9 t50) (fun t51 _ =>
 vG (indexAt 120 data0 i7_1) (fun t54 _ =>
 vG (loadAt 9 t54) (fun t55 _ =>
 vG (indexAt 120 data0 i7_1) (fun t56 _ =>
 vF (storeS 9 t56 t51) (fun _ H23 =>
 vG (indexAt 120 data0 t46) (fun t57 _ =>
 vF (storeS 9 t57 t55) (fun _ H24 =>
 JoinN 0 (fun (k_13:Heap->Prop) H25 =>
 vF (vt .sub 3 58 59 i7_1 a1) (fun t60 H26 =>
 vF (vk .geq 3 60 .i64 2 t60) (fun t61 H27 =>
 vD t61 (
 vF (vk .sub 3 62 .i64 1 i7_1) (fun t63 H28 =>
 JoinN 0 (fun (k_14:Heap->Prop) H29 =>
 LoopC 1 (fun (X_2:VP)=>fun j9 H30 =>
 vF (vk .geq 3 64 .i64 1 j9) (fun t65 H31 =>
 vD t65 (
 vG (indexAt 120 data0 j9) (fun t70 _ =>
 vG (loadAt 9 t70) (fun t71 _ =>
 vG (vk .sub 3 73 .i64 1 j9) (fun t74 _ =>
 vG (indexAt 120 data0 t74) (fun t75 _ =>
 vG (loadAt 9 t75) (fun t76 _ =>
 vC 185 #[t71,t76] (fun t77 H32 =>
 vG (Op.unary .not t77) (fun t78 _ =>
 vD t78 (
 k_14 H32) (
 vG (vk .sub 3 82 .i64 1 j9) (fun t83 _ =>
 vG (vk .sub 3 85 .i64 1 j9) (fun t86 _ =>
 vG (indexAt 120 data0 t86) (fun t87 _ =>
 vG (loadAt 9 t87) (fun t88 _ =>
 vG (indexAt 120 data0 j9) (fun t91 _ =>
 vG (loadAt 9 t91) (fun t92 _ =>
 vG (indexAt 120 data0 j9) (fun t93 _ =>
 vF (storeS 9 t93 t88) (fun _ H33 =>
 vG (indexAt 120 data0 t83) (fun t94 _ =>
 vF (storeS 9 t94 t92) (fun _ H34 =>
 vF (vk .sub 3 66 .i64 1 j9) (fun t67 H35 =>
 X_2 t67 H35) H34) H33) #[]) H32) #[]) H32) #[]) H32) #[]) #[]) #[])) #[]) H31) H31) #[]) #[]) H31) #[]) (
 k_14 H31)) H30) [t63] H29 ⟨⟩)
 (fun H36 =>
 k_13 H36) H28 ⟨⟩ ⟨⟩) H27) (
 k_13 H27)) H26) H25)
 (fun H37 =>
 vF (vt .sub 3 95 96 b2 i7_1) (fun t97 H38 =>
 vF (vk .geq 3 97 .i64 2 t97) (fun t98 H39 =>
 vD t98 (
 vF (vk .add 3 99 .i64 1 i7_1) (fun t100 H40 =>
 JoinN 0 (fun (k_15:Heap->Prop) H41 =>
 LoopC 1 (fun (X_3:VP)=>fun j10 H42 =>
 vF (vt .lss 3 101 102 j10 b2) (fun t103 H43 =>
 vD t103 (
 vG (indexAt 120 data0 j10) (fun t108 _ =>
 vG (loadAt 9 t108) (fun t109 _ =>
 vG (vk .sub 3 111 .i64 1 j10) (fun t112 _ =>
 vG (indexAt 120 data0 t112) (fun t113 _ =>
 vG (loadAt 9 t113) (fun t114 _ =>
 vC 185 #[t109,t114] (fun t115 H44 =>
 vG (Op.unary .not t115) (fun t116 _ =>
 vD t116 (
 k_15 H44) (
 vG (vk .sub 3 120 .i64 1 j10) (fun t121 _ =>
 vG (vk .sub 3 123 .i64 1 j10) (fun t124 _ =>
 vG (indexAt 120 data0 t124) (fun t125 _ =>
 vG (loadAt 9 t125) (fun t126 _ =>
 vG (indexAt 120 data0 j10) (fun t129 _ =>
 vG (loadAt 9 t129) (fun t130 _ =>
 vG (indexAt 120 data0 j10) (fun t131 _ =>
 vF (storeS 9 t131 t126) (fun _ H45 =>
 vG (indexAt 120 data0 t121) (fun t132 _ =>
 vF (storeS 9 t132 t130) (fun _ H46 =>
 vF (vk .add 3 104 .i64 1 j10) (fun t105 H47 =>
 X_3 t105 H47) H46) H45) #[]) H44) #[]) H44) #[]) H44) #[]) #[]) #[])) #[]) H43) H43) #[]) #[]) H43) #[]) (
 k_15 H43)) H42) [t100] H41 ⟨⟩)
 (fun H48 =>
 k_1 i7_1 H48) H40 ⟨⟩ ⟨⟩) H39) (
 k_1 i7_1 H39)) H38) H37) H24 ⟨⟩ ⟨⟩) H23) #[]) H22) #[]) H22) #[]) H22) #[]) #[]) #[])) H21) H20)) H17)) #[]) #[]) H6) H6) #[]) #[]) #[]) #[]) H6) #[]) #[]) #[]) #[]) [i7] H5 ⟨⟩)
 (fun i7_2 H49 =>
 k i7_2 H49) H4 ⟨⟩ ⟨⟩)
 (fun i7_3 H50 =>
 vF (vk .add 3 15 .i64 1 j8) (fun t16 H51 =>
 X i7_3 t16 H51) H50) H3 ⟨⟩ ⟨⟩) (
 R (.bool false) H3)) H2) [t12,(.int .i64 0)] H1 ⟨⟩) h

theorem n184_calls{data0 a1 b2:Value}{R:VP}{h:Heap}(H:n184 data0 a1 b2 R h):CallsH Tryz.prog 184 #[data0,a1,b2] h R ⟨⟩ :=
 callsH_of_eq Tryz.follow (.n none .l (.n none .l (.n none (.n none .l (.n none (.n (some [8,9]) (.n none .l (.n (some [8]) (.n (some [8]) (.n none (.n none (.n (some [8]) .l .l) .l) (.n none .l (.n none .l (.n none .l (.n (some []) (.n none .l (.n none (.n none .l (.n (some []) (.n (some [10]) .l .l) .l)) .l)) (.n none .l (.n none (.n none .l (.n (some []) (.n (some [11]) .l .l) .l)) .l))))))) .l) .l)) .l) .l)) .l))) Tryz.func184 kR kR kR H

def n185(x0 y1:Value)(R:VP)(h:Heap):Prop :=
 vC 199 #[x0] (fun t6 H1 =>
 vJ t6 true (vV y1) (fun t8 H3 =>
 vJ t6 true (vC 199 #[t8]) (fun t9 H5 =>
 vJ t6 true (vF (Op.unary .not t9)) (fun t10 H7 =>
 vF (pickS t6 t10 (.bool false)) (fun t11 H8 =>
 vJ t11 false (vV x0) (fun t13 H10 =>
 vJ t11 false (vV y1) (fun t14 H12 =>
 vJ t11 false (vF (vt .lss 9 13 14 t13 t14)) (fun t15 H14 =>
 vF (pickS t11 (.bool true) t15) (fun t16 H15 =>
 R t16 H15) H14) H12) H10) H8) H7) H5) H3) H1) h

theorem n185_calls{x0 y1:Value}{R:VP}{h:Heap}(H:n185 x0 y1 R h):CallsH Tryz.prog 185 #[x0,y1] h R ⟨⟩ :=
 callsH_of_eq Tryz.follow .l Tryz.func185 kR kR kR H

def n186(data0 a1 b2 pivot3:Value)(R:VP)(h:Heap):Prop :=
 vG (indexAt 120 data0 pivot3) (fun t17 _ =>
 vG (loadAt 9 t17) (fun t18 _ =>
 vG (indexAt 120 data0 a1) (fun t21 _ =>
 vG (loadAt 9 t21) (fun t22 _ =>
 vG (indexAt 120 data0 a1) (fun t23 _ =>
 vF (storeS 9 t23 t18) (fun _ H1 =>
 vG (indexAt 120 data0 pivot3) (fun t24 _ =>
 vF (storeS 9 t24 t22) (fun _ H2 =>
 vF (vk .add 3 25 .i64 1 a1) (fun t26 H3 =>
 vF (vk .sub 3 27 .i64 1 b2) (fun t28 H4 =>
 LoopC 2 (fun (X:Value->VP)=>fun i9 j10 H5 =>
 LoopC 1 (fun (X_1:VP)=>fun i9_1 H6 =>
 vG (vt .leq 3 29 30 i9_1 j10) (fun t31 _ =>
 vJ t31 true (vV data0) (fun t33 _ =>
 vJ t31 true (vV a1) (fun t34 _ =>
 vJ t31 true (vG (indexAt 120 t33 t34)) (fun t35 _ =>
 vJ t31 true (vG (loadAt 9 t35)) (fun t36 _ =>
 vJ t31 true (vV data0) (fun t37 _ =>
 vJ t31 true (vV i9_1) (fun t38 _ =>
 vJ t31 true (vG (indexAt 120 t37 t38)) (fun t39 _ =>
 vJ t31 true (vG (loadAt 9 t39)) (fun t40 _ =>
 vJ t31 true (vC 185 #[t36,t40]) (fun t41 H16 =>
 vJ t31 true (vG (Op.unary .not t41)) (fun t42 _ =>
 vG (pickS t31 t42 (.bool false)) (fun t43 _ =>
 vD t43 (
 vF (vk .add 3 44 .i64 1 i9_1) (fun t45 H18 =>
 X_1 t45 H18) H16) (
 LoopC 1 (fun (X_2:VP)=>fun j10_1 H19 =>
 vG (vt .leq 3 46 47 i9_1 j10_1) (fun t48 _ =>
 vJ t48 true (vV data0) (fun t50 _ =>
 vJ t48 true (vV a1) (fun t51 _ =>
 vJ t48 true (vG (indexAt 120 t50 t51)) (fun t52 _ =>
 vJ t48 true (vG (loadAt 9 t52)) (fun t53 _ =>
 vJ t48 true (vV data0) (fun t54 _ =>
 vJ t48 true (vV j10_1) (fun t55 _ =>
 vJ t48 true (vG (indexAt 120 t54 t55)) (fun t56 _ =>
 vJ t48 true (vG (loadAt 9 t56)) (fun t57 _ =>
 vJ t48 true (vC 185 #[t53,t57]) (fun t58 H29 =>
 vG (pickS t48 t58 (.bool false)) (fun t59 _ =>
 vD t59 (
 vF (vk .sub 3 60 .i64 1 j10_1) (fun t61 H30 =>
 X_2 t61 H30) H29) (
 vF (vt .gtr 3 62 63 i9_1 j10_1) (fun t64 H31 =>
 vD t64 (
 R i9_1 H31) (
 vG (indexAt 120 data0 j10_1) (fun t71 _ =>
 vG (loadAt 9 t71) (fun t72 _ =>
 vG (indexAt 120 data0 i9_1) (fun t75 _ =>
 vG (loadAt 9 t75) (fun t76 _ =>
 vG (indexAt 120 data0 i9_1) (fun t77 _ =>
 vF (storeS 9 t77 t72) (fun _ H32 =>
 vG (indexAt 120 data0 j10_1) (fun t78 _ =>
 vF (storeS 9 t78 t76) (fun _ H33 =>
 vF (vk .add 3 79 .i64 1 i9_1) (fun t80 H34 =>
 vF (vk .sub 3 81 .i64 1 j10_1) (fun t82 H35 =>
 X t80 t82 H35) H34) H33) H32) #[]) H31) #[]) H31) #[]) H31) #[])) H29)) #[]) H19) H19) #[]) #[]) #[]) H19) #[]) #[]) #[]) #[]) [j10] H16 ⟨⟩)) #[]) #[]) H6) H6) #[]) #[]) #[]) H6) #[]) #[]) #[]) #[]) [i9] H5 ⟨⟩) [t26,t28] H4 ⟨⟩) H3) H2) H1) #[]) h) #[]) h) #[]) h) #[]

theorem n186_calls{data0 a1 b2 pivot3:Value}{R:VP}{h:Heap}(H:n186 data0 a1 b2 pivot3 R h):CallsH Tryz.prog 186 #[data0,a1,b2,pivot3] h R ⟨⟩ :=
 callsH_of_eq Tryz.follow (.n none .l (.n none .l (.n none .l (.n none (.n none (.n (some [10,11]) (.n none (.n none (.n none (.n (some [10]) .l .l) .l) (.n none (.n none (.n (some [11]) .l .l) .l) .l)) .l) .l) .l) .l)))) Tryz.func186 kR kR kR H

def n187(data0 a1 b2 pivot3:Value)(R:VP)(h:Heap):Prop :=
 vG (indexAt 120 data0 pivot3) (fun t18 _ =>
 vG (loadAt 9 t18) (fun t19 _ =>
 vG (indexAt 120 data0 a1) (fun t22 _ =>
 vG (loadAt 9 t22) (fun t23 _ =>
 vG (indexAt 120 data0 a1) (fun t24 _ =>
 vF (storeS 9 t24 t19) (fun _ H1 =>
 vG (indexAt 120 data0 pivot3) (fun t25 _ =>
 vF (storeS 9 t25 t23) (fun _ H2 =>
 vF (vk .add 3 26 .i64 1 a1) (fun t27 H3 =>
 vF (vk .sub 3 28 .i64 1 b2) (fun t29 H4 =>
 LoopC 1 (fun (X:VP)=>fun i10 H5 =>
 vG (vt .leq 3 30 31 i10 t29) (fun t32 _ =>
 vJ t32 true (vV data0) (fun t34 _ =>
 vJ t32 true (vV i10) (fun t35 _ =>
 vJ t32 true (vG (indexAt 120 t34 t35)) (fun t36 _ =>
 vJ t32 true (vG (loadAt 9 t36)) (fun t37 _ =>
 vJ t32 true (vV data0) (fun t38 _ =>
 vJ t32 true (vV a1) (fun t39 _ =>
 vJ t32 true (vG (indexAt 120 t38 t39)) (fun t40 _ =>
 vJ t32 true (vG (loadAt 9 t40)) (fun t41 _ =>
 vJ t32 true (vC 185 #[t37,t41]) (fun t42 H15 =>
 vG (pickS t32 t42 (.bool false)) (fun t43 _ =>
 vD t43 (
 vF (vk .add 3 44 .i64 1 i10) (fun t45 H16 =>
 X t45 H16) H15) (
 LoopC 1 (fun (X_1:VP)=>fun j11 H17 =>
 vG (vt .leq 3 46 47 i10 j11) (fun t48 _ =>
 vJ t48 true (vV data0) (fun t50 _ =>
 vJ t48 true (vV j11) (fun t51 _ =>
 vJ t48 true (vG (indexAt 120 t50 t51)) (fun t52 _ =>
 vJ t48 true (vG (loadAt 9 t52)) (fun t53 _ =>
 vJ t48 true (vV data0) (fun t54 _ =>
 vJ t48 true (vV a1) (fun t55 _ =>
 vJ t48 true (vG (indexAt 120 t54 t55)) (fun t56 _ =>
 vJ t48 true (vG (loadAt 9 t56)) (fun t57 _ =>
 vJ t48 true (vC 185 #[t53,t57]) (fun t58 H27 =>
 vJ t48 true (vG (Op.unary .not t58)) (fun t59 _ =>
 vG (pickS t48 t59 (.bool false)) (fun t60 _ =>
 vD t60 (
 vF (vk .sub 3 61 .i64 1 j11) (fun t62 H29 =>
 X_1 t62 H29) H27) (
 vF (vt .gtr 3 63 64 i10 j11) (fun t65 H30 =>
 vD t65 (
 vG (indexAt 120 data0 a1) (fun t72 _ =>
 vG (loadAt 9 t72) (fun t73 _ =>
 vG (indexAt 120 data0 j11) (fun t76 _ =>
 vG (loadAt 9 t76) (fun t77 _ =>
 vG (indexAt 120 data0 j11) (fun t78 _ =>
 vF (storeS 9 t78 t73) (fun _ H31 =>
 vG (indexAt 120 data0 a1) (fun t79 _ =>
 vF (storeS 9 t79 t77) (fun _ H32 =>
 R (.tuple #[j11,(.bool true)]) H32) H31) #[]) H30) #[]) H30) #[]) H30) #[]) (
 vG (indexAt 120 data0 j11) (fun t87 _ =>
 vG (loadAt 9 t87) (fun t88 _ =>
 vG (indexAt 120 data0 i10) (fun t91 _ =>
 vG (loadAt 9 t91) (fun t92 _ =>
 vG (indexAt 120 data0 i10) (fun t93 _ =>
 vF (storeS 9 t93 t88) (fun _ H33 =>
 vG (indexAt 120 data0 j11) (fun t94 _ =>
 vF (storeS 9 t94 t92) (fun _ H34 =>
 vF (vk .add 3 95 .i64 1 i10) (fun t96 H35 =>
 vF (vk .sub 3 97 .i64 1 j11) (fun t98 H36 =>
 LoopC 2 (fun (X_2:Value->VP)=>fun i10_1 j11_1 H37 =>
 LoopC 1 (fun (X_3:VP)=>fun i10_2 H38 =>
 vG (vt .leq 3 99 100 i10_2 j11_1) (fun t101 _ =>
 vJ t101 true (vV data0) (fun t103 _ =>
 vJ t101 true (vV i10_2) (fun t104 _ =>
 vJ t101 true (vG (indexAt 120 t103 t104)) (fun t105 _ =>
 vJ t101 true (vG (loadAt 9 t105)) (fun t106 _ =>
 vJ t101 true (vV data0) (fun t107 _ =>
 vJ t101 true (vV a1) (fun t108 _ =>
 vJ t101 true (vG (indexAt 120 t107 t108)) (fun t109 _ =>
 vJ t101 true (vG (loadAt 9 t109)) (fun t110 _ =>
 vJ t101 true (vC 185 #[t106,t110]) (fun t111 H48 =>
 vG (pickS t101 t111 (.bool false)) (fun t112 _ =>
 vD t112 (
 vF (vk .add 3 113 .i64 1 i10_2) (fun t114 H49 =>
 X_3 t114 H49) H48) (
 LoopC 1 (fun (X_4:VP)=>fun j11_2 H50 =>
 vG (vt .leq 3 115 116 i10_2 j11_2) (fun t117 _ =>
 vJ t117 true (vV data0) (fun t119 _ =>
 vJ t117 true (vV j11_2) (fun t120 _ =>
 vJ t117 true (vG (indexAt 120 t119 t120)) (fun t121 _ =>
 vJ t117 true (vG (loadAt 9 t121)) (fun t122 _ =>
 vJ t117 true (vV data0) (fun t123 _ =>
 vJ t117 true (vV a1) (fun t124 _ =>
 vJ t117 true (vG (indexAt 120 t123 t124)) (fun t125 _ =>
 vJ t117 true (vG (loadAt 9 t125)) (fun t126 _ =>
 vJ t117 true (vC 185 #[t122,t126]) (fun t127 H60 =>
 vJ t117 true (vG (Op.unary .not t127)) (fun t128 _ =>
 vG (pickS t117 t128 (.bool false)) (fun t129 _ =>
 vD t129 (
 vF (vk .sub 3 130 .i64 1 j11_2) (fun t131 H62 =>
 X_4 t131 H62) H60) (
 vF (vt .gtr 3 132 133 i10_2 j11_2) (fun t134 H63 =>
 vD t134 (
 vG (indexAt 120 data0 a1) (fun t159 _ =>
 vG (loadAt 9 t159) (fun t160 _ =>
 vG (indexAt 120 data0 j11_2) (fun t163 _ =>
 vG (loadAt 9 t163) (fun t164 _ =>
 vG (indexAt 120 data0 j11_2) (fun t165 _ =>
 vF (storeS 9 t165 t160) (fun _ H64 =>
 vG (indexAt 120 data0 a1) (fun t166 _ =>
 vF (storeS 9 t166 t164) (fun _ H65 =>
 R (.tuple #[j11_2,(.bool false)]) H65) H64) #[]) H63) #[]) H63) #[]) H63) #[]) (
 vG (indexAt 120 data0 j11_2) (fun t141 _ =>
 vG (loadAt 9 t141) (fun t142 _ =>
 vG (indexAt 120 data0 i10_2) (fun t145 _ =>
 vG (loadAt 9 t145) (fun t146 _ =>
 vG (indexAt 120 data0 i10_2) (fun t147 _ =>
 vF (storeS 9 t147 t142) (fun _ H66 =>
 vG (indexAt 120 data0 j11_2) (fun t148 _ =>
 vF (storeS 9 t148 t146) (fun _ H67 =>
 vF (vk .add 3 149 .i64 1 i10_2) (fun t150 H68 =>
 vF (vk .sub 3 151 .i64 1 j11_2) (fun t152 H69 =>
 X_2 t150 t152 H69) H68) H67) H66) #[]) H63) #[]) H63) #[]) H63) #[])) H60)) #[]) #[]) H50) H50) #[]) #[]) #[]) H50) #[]) #[]) #[]) #[]) [j11_1] H48 ⟨⟩)) #[]) H38) H38) #[]) #[]) #[]) H38) #[]) #[]) #[]) #[]) [i10_1] H37 ⟨⟩) [t96,t98] H36 ⟨⟩) H35) H34) H33) #[]) H30) #[]) H30) #[]) H30) #[])) H27)) #[]) #[]) H17) H17) #[]) #[]) #[]) H17) #[]) #[]) #[]) #[]) [t29] H15 ⟨⟩)) #[]) H5) H5) #[]) #[]) #[]) H5) #[]) #[]) #[]) #[]) [t27] H4 ⟨⟩) H3) H2) H1) #[]) h) #[]) h) #[]) h) #[]

theorem n187_calls{data0 a1 b2 pivot3:Value}{R:VP}{h:Heap}(H:n187 data0 a1 b2 pivot3 R h):CallsH Tryz.prog 187 #[data0,a1,b2,pivot3] h R ⟨⟩ :=
 callsH_of_eq Tryz.follow (.n none .l (.n none .l (.n none .l (.n none (.n none (.n (some [11]) .l .l) .l) (.n none (.n none (.n (some [12]) .l .l) .l) (.n none .l (.n none .l (.n none .l (.n none .l (.n none (.n none (.n (some [11,12]) (.n none (.n none (.n none (.n (some [11]) .l .l) .l) (.n none (.n none (.n (some [12]) .l .l) .l) .l)) .l) .l) .l) .l)))))))))) Tryz.func187 kR kR kR H

def n194(s0 substr1:Value)(R:VP)(h:Heap):Prop :=
 vF (len_ #[9] 3 #[substr1]) (fun t15 H1 =>
 vF (vk .eql 3 17 .i64 0 t15) (fun t18 H2 =>
 vJ t18 false (vV substr1) (fun t20 H4 =>
 vJ t18 false (vV s0) (fun t21 H6 =>
 vJ t18 false (vF (vt .eql 9 20 21 t20 t21)) (fun t22 H8 =>
 vF (pickS t18 (.bool true) t22) (fun t23 H9 =>
 vD t23 (
 R (.int .i64 0) H9) (
 vF (vk .eql 3 25 .i64 1 t15) (fun t26 H10 =>
 vD t26 (
 vF (index 9 substr1 (.int .i64 0)) (fun t29 H11 =>
 vC 204 #[s0,t29] (fun t30 H12 =>
 R t30 H12) H11) H10) (
 vF (len_ #[9] 3 #[s0]) (fun t34 H13 =>
 vF (vt .geq 3 32 34 t15 t34) (fun t35 H14 =>
 vD t35 (
 R (.int .i64 (-1)) H14) (
 vF (loadAt 3 (.pointer (some ⟨0,0,none⟩))) (fun t38 H15 =>
 vF (vt .leq 3 37 38 t15 t38) (fun t39 H16 =>
 vJ t39 true (vV s0) (fun t41 H18 =>
 vJ t39 true (vF (len_ #[9] 3 #[t41])) (fun t42 H20 =>
 vJ t39 true (vF (vk .leq 3 42 .i64 64 t42)) (fun t43 H22 =>
 vF (pickS t39 t43 (.bool false)) (fun t44 H23 =>
 vD t44 (
 ExtH Tryz.prog 205 #[s0,substr1] H23 (fun t47 H24 =>
 R t47 H24) ⟨⟩) (
 vF (index 9 substr1 (.int .i64 0)) (fun t49 H25 =>
 vF (index 9 substr1 (.int .i64 1)) (fun t51 H26 =>
 vF (len_ #[9] 3 #[s0]) (fun t53 H27 =>
 vF (vt .sub 3 53 54 t53 t15) (fun t55 H28 =>
 vF (vk .add 3 55 .i64 1 t55) (fun t56 H29 =>
 LoopC 2 (fun (X:Value->VP)=>fun i8 fails10 H30 =>
 vF (vt .lss 3 57 58 i8 t56) (fun t59 H31 =>
 vD t59 (
 JoinN 1 (fun (k_6:VP) H32 =>
 vF (index 9 s0 i8) (fun t62 H33 =>
 vF (vt .neq 5 62 63 t62 t49) (fun t64 H34 =>
 vD t64 (
 vF (vk .add 3 66 .i64 1 i8) (fun t67 H35 =>
 vF (sliceAt 9 s0 (some t67) (some t56) none) (fun t69 H36 =>
 vC 204 #[t69,t49] (fun t71 H37 =>
 vF (vk .lss 3 72 .i64 0 t71) (fun t73 H38 =>
 vD t73 (
 R (.int .i64 (-1)) H38) (
 vF (vk .add 3 75 .i64 1 t71) (fun t76 H39 =>
 vF (vt .add 3 74 76 i8 t76) (fun t77 H40 =>
 k_6 t77 H40) H39) H38)) H37) H36) H35) H34) (
 k_6 i8 H34)) H33) H32)
 (fun i8_1 H41 =>
 vF (vk .add 3 79 .i64 1 i8_1) (fun t80 H42 =>
 vF (index 9 s0 t80) (fun t81 H43 =>
 vF (vt .eql 5 81 82 t81 t51) (fun t83 H44 =>
 vJ t83 true (vV s0) (fun t85 H46 =>
 vJ t83 true (vV i8_1) (fun t86 H48 =>
 vJ t83 true (vV i8_1) (fun t87 H50 =>
 vJ t83 true (vV t15) (fun t88 H52 =>
 vJ t83 true (vF (vt .add 3 87 88 t87 t88)) (fun t89 H54 =>
 vJ t83 true (vF (sliceAt 9 t85 (some t86) (some t89) none)) (fun t90 H56 =>
 vJ t83 true (vV substr1) (fun t91 H58 =>
 vJ t83 true (vF (vt .eql 9 90 91 t90 t91)) (fun t92 H60 =>
 vF (pickS t83 t92 (.bool false)) (fun t93 H61 =>
 vD t93 (
 R i8_1 H61) (
 vF (vk .add 3 95 .i64 1 i8_1) (fun t96 H62 =>
 vF (vk .add 3 97 .i64 1 fails10) (fun t98 H63 =>
 vF (loadAt 3 (.pointer (some ⟨0,0,none⟩))) (fun t100 H64 =>
 vF (vt .leq 3 99 100 t15 t100) (fun t101 H65 =>
 vJ t101 true (vV t98) (fun t103 H67 =>
 vJ t101 true (vV t96) (fun t104 H69 =>
 vJ t101 true (vC 206 #[t104]) (fun t105 H71 =>
 vJ t101 true (vF (vt .gtr 3 103 105 t103 t105)) (fun t106 H73 =>
 vF (pickS t101 t106 (.bool false)) (fun t107 H74 =>
 vD t107 (
 vF (sliceAt 9 s0 (some t96) none none) (fun t110 H75 =>
 ExtH Tryz.prog 205 #[t110,substr1] H75 (fun t112 H76 =>
 vF (vk .geq 3 113 .i64 0 t112) (fun t114 H77 =>
 vD t114 (
 vF (vt .add 3 115 116 t112 t96) (fun t117 H78 =>
 R t117 H78) H77) (
 R (.int .i64 (-1)) H77)) H76) ⟨⟩) H74) (
 vF (loadAt 3 (.pointer (some ⟨0,0,none⟩))) (fun t119 H79 =>
 vF (vt .gtr 3 118 119 t15 t119) (fun t120 H80 =>
 vJ t120 true (vV t98) (fun t122 H82 =>
 vJ t120 true (vV t96) (fun t123 H84 =>
 vJ t120 true (vF (vk .shr 3 123 .u64 4 t123)) (fun t124 H86 =>
 vJ t120 true (vF (binS .add 3 (.const (.int .i64 4)) (.tmp 124) (.int .i64 4) t124)) (fun t125 H88 =>
 vJ t120 true (vF (vt .geq 3 122 125 t122 t125)) (fun t126 H90 =>
 vF (pickS t120 t126 (.bool false)) (fun t127 H91 =>
 vJ t127 true (vV t96) (fun t129 H93 =>
 vJ t127 true (vV t56) (fun t130 H95 =>
 vJ t127 true (vF (vt .lss 3 129 130 t129 t130)) (fun t131 H97 =>
 vF (pickS t127 t131 (.bool false)) (fun t132 H98 =>
 vD t132 (
 vF (sliceAt 9 s0 (some t96) none none) (fun t135 H99 =>
 vC 207 #[t135,substr1] (fun t137 H100 =>
 vF (vk .lss 3 138 .i64 0 t137) (fun t139 H101 =>
 vD t139 (
 R (.int .i64 (-1)) H101) (
 vF (vt .add 3 140 141 t96 t137) (fun t142 H102 =>
 R t142 H102) H101)) H100) H99) H98) (
 X t96 t98 H98)) H97) H95) H93) H91) H90) H88) H86) H84) H82) H80) H79) H74)) H73) H71) H69) H67) H65) H64) H63) H62) H61)) H60) H58) H56) H54) H52) H50) H48) H46) H44) H43) H42) H41) H31 ⟨⟩ ⟨⟩) (
 R (.int .i64 (-1)) H31)) H30) [(.int .i64 0),(.int .i64 0)] H29 ⟨⟩) H28) H27) H26) H25) H23)) H22) H20) H18) H16) H15) H14)) H13) H10)) H9)) H8) H6) H4) H2) H1) h

theorem n194_calls{s0 substr1:Value}{R:VP}{h:Heap}(H:n194 s0 substr1 R h):CallsH Tryz.prog 194 #[s0,substr1] h R ⟨⟩ :=
 callsH_of_eq Tryz.follow (.n none .l (.n none .l (.n none .l (.n none .l (.n none .l (.n none .l (.n none .l (.n none .l (.n none (.n none (.n (some [9,11]) (.n none .l (.n none (.n (some [9]) .l .l) .l)) .l) .l) .l))))))))) Tryz.func194 kR kR kR H

def n195(data0 a1 b2 swaps3:Value)(R:VP)(h:Heap):Prop :=
 vG (indexAt 47 data0 b2) (fun t12 _ =>
 vG (loadAt 2 t12) (fun t13 _ =>
 vG (indexAt 47 data0 a1) (fun t16 _ =>
 vG (loadAt 2 t16) (fun t17 _ =>
 vC 157 #[t13,t17] (fun t18 H1 =>
 vD t18 (
 vF (nilS swaps3) (fun t20 H2 =>
 vF (loadAt 3 t20) (fun t21 H3 =>
 vF (vk .add 3 21 .i64 1 t21) (fun t22 H4 =>
 vF (nilS swaps3) (fun t23 H5 =>
 vF (storeS 3 t23 t22) (fun _ H6 =>
 R (.tuple #[b2,a1]) H6) H5) H4) H3) H2) H1) (
 R (.tuple #[a1,b2]) H1)) h) h) #[]) h) #[]

theorem n195_calls{data0 a1 b2 swaps3:Value}{R:VP}{h:Heap}(H:n195 data0 a1 b2 swaps3 R h):CallsH Tryz.prog 195 #[data0,a1,b2,swaps3] h R ⟨⟩ :=
 callsH_of_eq Tryz.follow .l Tryz.func195 kR kR kR H

def n196(data0 lo1 hi2 first3:Value)(R:VP)(h:Heap):Prop :=
 LoopC 1 (fun (X:VP)=>fun root8 H1 =>
 vF (binS .mul 3 (.const (.int .i64 2)) (.tmp 11) (.int .i64 2) root8) (fun t12 H2 =>
 vF (vk .add 3 12 .i64 1 t12) (fun t13 H3 =>
 vF (vt .geq 3 14 15 t13 hi2) (fun t16 H4 =>
 vD t16 (
 R (.tuple #[]) H4) (
 JoinN 1 (fun (k:VP) H5 =>
 vG (vk .add 3 17 .i64 1 t13) (fun t18 _ =>
 vG (vt .lss 3 18 19 t18 hi2) (fun t20 _ =>
 vJ t20 true (vV data0) (fun t22 _ =>
 vJ t20 true (vV first3) (fun t23 _ =>
 vJ t20 true (vV t13) (fun t24 _ =>
 vJ t20 true (vG (vt .add 3 23 24 t23 t24)) (fun t25 _ =>
 vJ t20 true (vG (indexAt 120 t22 t25)) (fun t26 _ =>
 vJ t20 true (vG (loadAt 9 t26)) (fun t27 _ =>
 vJ t20 true (vV data0) (fun t28 _ =>
 vJ t20 true (vV first3) (fun t29 _ =>
 vJ t20 true (vV t13) (fun t30 _ =>
 vJ t20 true (vG (vt .add 3 29 30 t29 t30)) (fun t31 _ =>
 vJ t20 true (vG (vk .add 3 31 .i64 1 t31)) (fun t32 _ =>
 vJ t20 true (vG (indexAt 120 t28 t32)) (fun t33 _ =>
 vJ t20 true (vG (loadAt 9 t33)) (fun t34 _ =>
 vJ t20 true (vC 185 #[t27,t34]) (fun t35 H20 =>
 vG (pickS t20 t35 (.bool false)) (fun t36 _ =>
 vD t36 (
 vF (vk .add 3 37 .i64 1 t13) (fun t38 H21 =>
 k t38 H21) H20) (
 k t13 H20)) #[]) H5) H5) #[]) #[]) #[]) #[]) #[]) #[]) H5) #[]) #[]) #[]) #[]) #[]) #[]) #[])
 (fun child9 H22 =>
 vG (vt .add 3 40 41 first3 root8) (fun t42 _ =>
 vG (indexAt 120 data0 t42) (fun t43 _ =>
 vG (loadAt 9 t43) (fun t44 _ =>
 vG (vt .add 3 46 47 first3 child9) (fun t48 _ =>
 vG (indexAt 120 data0 t48) (fun t49 _ =>
 vG (loadAt 9 t49) (fun t50 _ =>
 vC 185 #[t44,t50] (fun t51 H23 =>
 vG (Op.unary .not t51) (fun t52 _ =>
 vD t52 (
 R (.tuple #[]) H23) (
 vG (vt .add 3 54 55 first3 root8) (fun t56 _ =>
 vG (vt .add 3 58 59 first3 child9) (fun t60 _ =>
 vG (vt .add 3 62 63 first3 child9) (fun t64 _ =>
 vG (indexAt 120 data0 t64) (fun t65 _ =>
 vG (loadAt 9 t65) (fun t66 _ =>
 vG (vt .add 3 68 69 first3 root8) (fun t70 _ =>
 vG (indexAt 120 data0 t70) (fun t71 _ =>
 vG (loadAt 9 t71) (fun t72 _ =>
 vG (indexAt 120 data0 t56) (fun t73 _ =>
 vF (storeS 9 t73 t66) (fun _ H24 =>
 vG (indexAt 120 data0 t60) (fun t74 _ =>
 vF (storeS 9 t74 t72) (fun _ H25 =>
 X child9 H25) H24) #[]) H23) #[]) H23) #[]) #[]) H23) #[]) #[]) #[]) #[])) #[]) H22) H22) #[]) #[]) H22) #[]) #[]) H4 ⟨⟩ ⟨⟩)) H3) H2) H1) [lo1] h ⟨⟩

theorem n196_calls{data0 lo1 hi2 first3:Value}{R:VP}{h:Heap}(H:n196 data0 lo1 hi2 first3 R h):CallsH Tryz.prog 196 #[data0,lo1,hi2,first3] h R ⟨⟩ :=
 callsH_of_eq Tryz.follow (.n none .l (.n none (.n (some [9]) (.n none (.n none .l (.n none .l (.n (some [10]) .l .l))) .l) .l) .l)) Tryz.func196 kR kR kR H

def n197(data0 a1 swaps2:Value)(R:VP)(h:Heap):Prop :=
 vF (vk .sub 3 8 .i64 1 a1) (fun t9 H1 =>
 vF (vk .add 3 11 .i64 1 a1) (fun t12 H2 =>
 vC 198 #[data0,t9,a1,t12,swaps2] (fun t14 H3 =>
 R t14 H3) H2) H1) h

theorem n197_calls{data0 a1 swaps2:Value}{R:VP}{h:Heap}(H:n197 data0 a1 swaps2 R h):CallsH Tryz.prog 197 #[data0,a1,swaps2] h R ⟨⟩ :=
 callsH_of_eq Tryz.follow .l Tryz.func197 kR kR kR H

def n198(data0 a1 b2 c3 swaps4:Value)(R:VP)(h:Heap):Prop :=
 vC 208 #[data0,a1,b2,swaps4] (fun t16 H1 =>
 vF (extract t16 0) (fun t17 H2 =>
 vF (extract t16 1) (fun t18 H3 =>
 vC 208 #[data0,t18,c3,swaps4] (fun t24 H4 =>
 vF (extract t24 0) (fun t25 H5 =>
 vF (extract t24 1) (fun t26 H6 =>
 vC 208 #[data0,t17,t25,swaps4] (fun t32 H7 =>
 vF (extract t32 0) (fun t33 H8 =>
 vF (extract t32 1) (fun t34 H9 =>
 R t34 H9) H8) H7) H6) H5) H4) H3) H2) H1) h

theorem n198_calls{data0 a1 b2 c3 swaps4:Value}{R:VP}{h:Heap}(H:n198 data0 a1 b2 c3 swaps4 R h):CallsH Tryz.prog 198 #[data0,a1,b2,c3,swaps4] h R ⟨⟩ :=
 callsH_of_eq Tryz.follow .l Tryz.func198 kR kR kR H

def n199(x0:Value)(R:VP)(h:Heap):Prop :=
 vF (vt .neq 9 3 4 x0 x0) (fun t5 H1 =>
 R t5 H1) h

theorem n199_calls{x0:Value}{R:VP}{h:Heap}(H:n199 x0 R h):CallsH Tryz.prog 199 #[x0] h R ⟨⟩ :=
 callsH_of_eq Tryz.follow .l Tryz.func199 kR kR kR H

def n204(s0 c1:Value)(R:VP)(h:Heap):Prop :=
 ExtH Tryz.prog 215 #[s0,c1] h (fun t7 H1 =>
 R t7 H1) ⟨⟩

theorem n204_calls{s0 c1:Value}{R:VP}{h:Heap}(H:n204 s0 c1 R h):CallsH Tryz.prog 204 #[s0,c1] h R ⟨⟩ :=
 callsH_of_eq Tryz.follow .l Tryz.func204 kR kR kR H

def n208(data0 a1 b2 swaps3:Value)(R:VP)(h:Heap):Prop :=
 vG (indexAt 120 data0 b2) (fun t12 _ =>
 vG (loadAt 9 t12) (fun t13 _ =>
 vG (indexAt 120 data0 a1) (fun t16 _ =>
 vG (loadAt 9 t16) (fun t17 _ =>
 vC 185 #[t13,t17] (fun t18 H1 =>
 vD t18 (
 vF (nilS swaps3) (fun t20 H2 =>
 vF (loadAt 3 t20) (fun t21 H3 =>
 vF (vk .add 3 21 .i64 1 t21) (fun t22 H4 =>
 vF (nilS swaps3) (fun t23 H5 =>
 vF (storeS 3 t23 t22) (fun _ H6 =>
 R (.tuple #[b2,a1]) H6) H5) H4) H3) H2) H1) (
 R (.tuple #[a1,b2]) H1)) h) h) #[]) h) #[]

theorem n208_calls{data0 a1 b2 swaps3:Value}{R:VP}{h:Heap}(H:n208 data0 a1 b2 swaps3 R h):CallsH Tryz.prog 208 #[data0,a1,b2,swaps3] h R ⟨⟩ :=
 callsH_of_eq Tryz.follow .l Tryz.func208 kR kR kR H

end Go.Proofs.YtdccfkffabngjaaGreat

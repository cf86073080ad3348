/- Printed by /tmp/tools2/gen.py: the condition of each function,and that a call meets it. -/
import Derived.Test.YtdccfkffabngjaaGreatVcFun
import Derived.Test.YtdccfkffabngjaaGreatProg
import Derived.Test.YtdccfkffabngjaaGreatNiceA
set_option maxRecDepth 100000
set_option linter.unusedVariables false
namespace Go.Proofs.YtdccfkffabngjaaGreat
open Go.Vc Go.Instr Go.Builtin

def n93(b0 order1 i2:Value)(R:VP)(h:Heap):Prop :=
 vC 131 #[b0,order1] (fun t13 H1 =>
 vF (extract t13 0) (fun t14 H2 =>
 vF (extract t13 1) (fun t15 H3 =>
 vF (vk .neq 31 17 .i64 0 t15) (fun t18 H4 =>
 vD t18 (
 R (.tuple #[(.int .i64 0),t15]) H4) (
 vF (vk .lss 3 21 .i64 0 i2) (fun t22 H5 =>
 vJ t22 false (vV i2) (fun t24 H7 =>
 vJ t22 false (vV t14) (fun t25 H9 =>
 vJ t22 false (vF (vt .geq 3 24 25 t24 t25)) (fun t26 H11 =>
 vF (pickS t22 (.bool true) t26) (fun t27 H12 =>
 vD t27 (
 R (.tuple #[(.int .i64 0),(.int .i64 4)]) H12) (
 vC 98 #[order1] (fun t29 H13 =>
 R (.tuple #[t29,(.int .i64 0)]) H13) H12)) H11) H9) H7) H5) H4)) H3) H2) H1) h

theorem n93_calls{b0 order1 i2:Value}{R:VP}{h:Heap}(H:n93 b0 order1 i2 R h):CallsH Tryz.prog 93 #[b0,order1,i2] h R ⟨⟩ :=
 callsH_of_eq Tryz.follow .l Tryz.func93 kR kR kR H

def n94(b0 w1 i2:Value)(R:VP)(h:Heap):Prop :=
 vF (vk .lss 3 9 .i64 8 w1) (fun t10 H1 =>
 vD t10 (
 vG (vt .mul 3 12 13 i2 w1) (fun t14 _ =>
 vG (vk .quo 3 14 .i64 8 t14) (fun t15 _ =>
 vG (indexAt 52 b0 t15) (fun t16 _ =>
 vG (loadAt 5 t16) (fun t17 _ =>
 vG (convert 5 44 t17) (fun t18 _ =>
 vG (vt .mul 3 19 20 i2 w1) (fun t21 _ =>
 vG (vk .rem 3 21 .i64 8 t21) (fun t22 _ =>
 vG (vt .shr 44 18 22 t18 t22) (fun t23 _ =>
 vG (binS .shl 44 (.const (.int .u64 1)) (.tmp 24) (.int .u64 1) w1) (fun t25 _ =>
 vG (vk .sub 44 25 .u64 1 t25) (fun t26 _ =>
 vG (vt .and 44 23 26 t23 t26) (fun t27 _ =>
 R t27 H1) #[]) #[]) #[]) #[]) #[]) #[]) #[]) H1) #[]) #[]) #[]) (
 vF (vk .quo 3 28 .i64 8 w1) (fun t29 H2 =>
 vF (vk .sub 3 29 .i64 1 t29) (fun t30 H3 =>
 LoopC 2 (fun (X:Value->VP)=>fun x7 k8 H4 =>
 vF (vk .geq 3 31 .i64 0 k8) (fun t32 H5 =>
 vD t32 (
 vF (vk .shl 44 35 .u64 8 x7) (fun t36 H6 =>
 vF (vt .mul 3 39 40 i2 w1) (fun t41 H7 =>
 vF (vk .quo 3 41 .i64 8 t41) (fun t42 H8 =>
 vF (vt .add 3 42 43 t42 k8) (fun t44 H9 =>
 vF (indexAt 52 b0 t44) (fun t45 H10 =>
 vF (loadAt 5 t45) (fun t46 H11 =>
 vF (convert 5 44 t46) (fun t47 H12 =>
 vF (vt .or 44 37 47 t36 t47) (fun t48 H13 =>
 vF (vk .sub 3 33 .i64 1 k8) (fun t34 H14 =>
 X t48 t34 H14) H13) H12) H11) H10) H9) H8) H7) H6) H5) (
 R x7 H5)) H4) [(.int .u64 0),t30] H3 ⟨⟩) H2) H1)) h

theorem n94_calls{b0 w1 i2:Value}{R:VP}{h:Heap}(H:n94 b0 w1 i2 R h):CallsH Tryz.prog 94 #[b0,w1,i2] h R ⟨⟩ :=
 callsH_of_eq Tryz.follow (.n none .l (.n none .l (.n none .l (.n none (.n none .l (.n none (.n (some [8,9]) .l .l) .l)) .l)))) Tryz.func94 kR kR kR H

def n95(seq0:Value)(R:VP)(h:Heap):Prop :=
 vC 132 #[(.slice none 0 0),seq0] (fun t4 H1 =>
 R t4 H1) h

theorem n95_calls{seq0:Value}{R:VP}{h:Heap}(H:n95 seq0 R h):CallsH Tryz.prog 95 #[seq0] h R ⟨⟩ :=
 callsH_of_eq Tryz.follow .l Tryz.func95 kR kR kR H

def n96(x0:Value)(R:VP)(h:Heap):Prop :=
 vF (len_ #[47] 3 #[x0]) (fun t4 H1 =>
 vF (convert 3 192 t4) (fun t8 H2 =>
 vC 134 #[t8] (fun t9 H3 =>
 vC 133 #[x0,(.int .i64 0),t4,t9] (fun t10 H4 =>
 R (.tuple #[]) H4) H3) H2) H1) h

theorem n96_calls{x0:Value}{R:VP}{h:Heap}(H:n96 x0 R h):CallsH Tryz.prog 96 #[x0] h R ⟨⟩ :=
 callsH_of_eq Tryz.follow .l Tryz.func96 kR kR kR H

def n97(yield0 t1:Value)(R:VP)(h:Heap):Prop :=
 vF (loadAt 104 t1) (fun t4 H1 =>
 vF (range 104 t4) (fun t5 H2 =>
 LoopC 0 (fun (X:Heap->Prop)=>fun H3 =>
 vF (next t5 false 0) (fun t6 H4 =>
 vF (extract t6 0) (fun t7 H5 =>
 vD t7 (
 vF (entry t5) (fun t8 H6 =>
 vF (extract t8 0) (fun t9 H7 =>
 InvokeH Tryz.prog yield0 #[t9] H7 (fun t12 H8 =>
 vF (Op.unary .not t12) (fun t13 H9 =>
 vD t13 (
 R (.tuple #[]) H9) (
 X H9)) H8) ⟨⟩) H6) H5) (
 R (.tuple #[]) H5)) H4) H3) [] H2 ⟨⟩) H1) h

theorem n97_calls{yield0 t1:Value}{R:VP}{h:Heap}(H:n97 yield0 t1 R h):CallsH Tryz.prog 97 #[yield0,t1] h R ⟨⟩ :=
 callsH_of_eq Tryz.follow (.n none .l (.n none (.n (some []) .l .l) .l)) Tryz.func97 kR kR kR H

def n98(order0:Value)(R:VP)(h:Heap):Prop :=
 vF (build 206 #[(0,(.int .i64 1)),(1,(.int .i64 2)),(2,(.int .i64 4)),(3,(.int .i64 8)),(4,(.int .i64 16)),(5,(.int .i64 32)),(6,(.int .i64 64))]) (fun t4 H1 =>
 vF (alloc 206 true undef) (fun widths3 H2 =>
 vF (storeS 206 widths3 t4) (fun _ H3 =>
 vF (vk .lss 3 5 .i64 0 order0) (fun t6 H4 =>
 vJ t6 false (vV order0) (fun t8 H6 =>
 vJ t6 false (vF (vk .geq 3 8 .i64 7 t8)) (fun t9 H8 =>
 vF (pickS t6 (.bool true) t9) (fun t10 H9 =>
 vD t10 (
 R (.int .i64 0) H9) (
 vF (indexAt 206 widths3 order0) (fun t12 H10 =>
 vF (loadAt 3 t12) (fun t13 H11 =>
 R t13 H11) H10) H9)) H8) H6) H4) H3) H2) H1) h

theorem n98_calls{order0:Value}{R:VP}{h:Heap}(H:n98 order0 R h):CallsH Tryz.prog 98 #[order0] h R ⟨⟩ :=
 callsH_of_eq Tryz.follow .l Tryz.func98 kR kR kR H

def n99(yield0 t1:Value)(R:VP)(h:Heap):Prop :=
 vF (loadAt 110 t1) (fun t4 H1 =>
 vF (range 110 t4) (fun t5 H2 =>
 LoopC 0 (fun (X:Heap->Prop)=>fun H3 =>
 vF (next t5 false 0) (fun t6 H4 =>
 vF (extract t6 0) (fun t7 H5 =>
 vD t7 (
 vF (entry t5) (fun t8 H6 =>
 vF (extract t8 0) (fun t9 H7 =>
 InvokeH Tryz.prog yield0 #[t9] H7 (fun t12 H8 =>
 vF (Op.unary .not t12) (fun t13 H9 =>
 vD t13 (
 R (.tuple #[]) H9) (
 X H9)) H8) ⟨⟩) H6) H5) (
 R (.tuple #[]) H5)) H4) H3) [] H2 ⟨⟩) H1) h

theorem n99_calls{yield0 t1:Value}{R:VP}{h:Heap}(H:n99 yield0 t1 R h):CallsH Tryz.prog 99 #[yield0,t1] h R ⟨⟩ :=
 callsH_of_eq Tryz.follow (.n none .l (.n none (.n (some []) .l .l) .l)) Tryz.func99 kR kR kR H

def n100(b0 order1 i2 x3:Value)(R:VP)(h:Heap):Prop :=
 vC 93 #[b0,order1,i2] (fun t17 H1 =>
 vF (extract t17 0) (fun t18 H2 =>
 vF (extract t17 1) (fun t19 H3 =>
 vF (vk .neq 31 20 .i64 0 t19) (fun t21 H4 =>
 vD t21 (
 R t19 H4) (
 vC 48 #[order1] (fun t25 H5 =>
 vF (extract t25 0) (fun t26 H6 =>
 vF (extract t25 1) (fun t27 H7 =>
 vF (vt .gtr 44 28 29 x3 t26) (fun t30 H8 =>
 vD t30 (
 R (.int .i64 3) H8) (
 vC 108 #[b0,t18,i2,x3] (fun t35 H9 =>
 R (.int .i64 0) H9) H8)) H7) H6) H5) H4)) H3) H2) H1) h

theorem n100_calls{b0 order1 i2 x3:Value}{R:VP}{h:Heap}(H:n100 b0 order1 i2 x3 R h):CallsH Tryz.prog 100 #[b0,order1,i2,x3] h R ⟨⟩ :=
 callsH_of_eq Tryz.follow .l Tryz.func100 kR kR kR H

def n101(b0 at1 n2 x3:Value)(R:VP)(h:Heap):Prop :=
 vF (vk .lss 3 11 .i64 1 n2) (fun t12 H1 =>
 vJ t12 false (vV n2) (fun t14 H3 =>
 vJ t12 false (vF (vk .gtr 3 14 .i64 8 t14)) (fun t15 H5 =>
 vF (pickS t12 (.bool true) t15) (fun t16 H6 =>
 vD t16 (
 R (.int .i64 2) H6) (
 vC 125 #[b0,at1,n2] (fun t21 H7 =>
 vF (Op.unary .not t21) (fun t22 H8 =>
 vD t22 (
 R (.int .i64 4) H8) (
 vF (vk .lss 3 24 .i64 8 n2) (fun t25 H9 =>
 vJ t25 true (vV x3) (fun t27 H11 =>
 vJ t25 true (vV n2) (fun t28 H13 =>
 vJ t25 true (vF (binS .mul 3 (.const (.int .i64 8)) (.tmp 28) (.int .i64 8) t28)) (fun t29 H15 =>
 vJ t25 true (vF (vt .shr 44 27 29 t27 t29)) (fun t30 H17 =>
 vJ t25 true (vF (vk .neq 44 30 .u64 0 t30)) (fun t31 H19 =>
 vF (pickS t25 t31 (.bool false)) (fun t32 H20 =>
 vD t32 (
 R (.int .i64 3) H20) (
 LoopC 2 (fun (X:Value->VP)=>fun x3_1 t34 H21 =>
 vF (vt .lss 3 34 33 t34 n2) (fun t35 H22 =>
 vD t35 (
 vF (vt .add 3 38 39 at1 t34) (fun t40 H23 =>
 vF (convert 44 5 x3_1) (fun t42 H24 =>
 vF (indexAt 52 b0 t40) (fun t43 H25 =>
 vF (storeS 5 t43 t42) (fun _ H26 =>
 vF (vk .shr 44 44 .u64 8 x3_1) (fun t45 H27 =>
 vF (vk .add 3 34 .i64 1 t34) (fun t46 H28 =>
 X t45 t46 H28) H27) H26) H25) H24) H23) H22) (
 R (.int .i64 0) H22)) H21) [x3,(.int .i64 0)] H20 ⟨⟩)) H19) H17) H15) H13) H11) H9) H8)) H7) H6)) H5) H3) H1) h

theorem n101_calls{b0 at1 n2 x3:Value}{R:VP}{h:Heap}(H:n101 b0 at1 n2 x3 R h):CallsH Tryz.prog 101 #[b0,at1,n2,x3] h R ⟨⟩ :=
 callsH_of_eq Tryz.follow (.n none .l (.n none .l (.n none (.n none .l (.n none (.n (some [4,35]) .l .l) .l)) .l))) Tryz.func101 kR kR kR H

def n102(t0 t1:Value)(R:VP)(h:Heap):Prop :=
 vG (loadAt 30 t0) (fun t3 _ =>
 vG (loadAt 2 t1) (fun t4 _ =>
 vG (loadAt 30 t0) (fun t5 _ =>
 vG (nilS t5) (fun t6 _ =>
 vG (fieldAt 89 t6 3) (fun t7 _ =>
 vG (loadAt 2 t7) (fun t8 _ =>
 vG (vt .add 2 4 8 t4 t8) (fun t9 _ =>
 vC 19 #[t3,t9] (fun t10 H1 =>
 R t10 H1) h) #[]) h) #[]) #[]) h) h) h

theorem n102_calls{t0 t1:Value}{R:VP}{h:Heap}(H:n102 t0 t1 R h):CallsH Tryz.prog 102 #[t0,t1] h R ⟨⟩ :=
 callsH_of_eq Tryz.follow .l Tryz.func102 kR kR kR H

def n103(t0 t1 t2:Value)(R:VP)(h:Heap):Prop :=
 vG (loadAt 30 t0) (fun t4 _ =>
 vG (nilS t4) (fun t5 _ =>
 vG (fieldAt 89 t5 0) (fun t6 _ =>
 vG (loadAt 27 t6) (fun t7 _ =>
 vG (loadAt 30 t0) (fun t8 _ =>
 vG (nilS t8) (fun t9 _ =>
 vG (fieldAt 89 t9 1) (fun t10 _ =>
 vG (loadAt 9 t10) (fun t11 _ =>
 vG (loadAt 2 t1) (fun t12 _ =>
 vG (loadAt 52 t2) (fun t13 _ =>
 vC 30 #[t7,t11,t12,t13] (fun t14 H1 =>
 R t14 H1) h) h) h) h) #[]) #[]) h) h) #[]) #[]) h

theorem n103_calls{t0 t1 t2:Value}{R:VP}{h:Heap}(H:n103 t0 t1 t2 R h):CallsH Tryz.prog 103 #[t0,t1,t2] h R ⟨⟩ :=
 callsH_of_eq Tryz.follow .l Tryz.func103 kR kR kR H

def n104(t0:Value)(R:VP)(h:Heap):Prop :=
 vG (loadAt 30 t0) (fun t2 _ =>
 vG (nilS t2) (fun t3 _ =>
 vG (fieldAt 89 t3 0) (fun t4 _ =>
 vG (loadAt 27 t4) (fun t5 _ =>
 vG (loadAt 30 t0) (fun t6 _ =>
 vG (nilS t6) (fun t7 _ =>
 vG (fieldAt 89 t7 1) (fun t8 _ =>
 vG (loadAt 9 t8) (fun t9 _ =>
 vC 31 #[t5,t9] (fun t10 H1 =>
 R t10 H1) h) h) #[]) #[]) h) h) #[]) #[]) h

theorem n104_calls{t0:Value}{R:VP}{h:Heap}(H:n104 t0 R h):CallsH Tryz.prog 104 #[t0] h R ⟨⟩ :=
 callsH_of_eq Tryz.follow .l Tryz.func104 kR kR kR H

def n105(t0 t1 t2:Value)(R:VP)(h:Heap):Prop :=
 vG (loadAt 30 t0) (fun t4 _ =>
 vG (nilS t4) (fun t5 _ =>
 vG (fieldAt 89 t5 0) (fun t6 _ =>
 vG (loadAt 27 t6) (fun t7 _ =>
 vG (loadAt 30 t0) (fun t8 _ =>
 vG (nilS t8) (fun t9 _ =>
 vG (fieldAt 89 t9 1) (fun t10 _ =>
 vG (loadAt 9 t10) (fun t11 _ =>
 vG (loadAt 30 t0) (fun t12 _ =>
 vG (nilS t12) (fun t13 _ =>
 vG (fieldAt 89 t13 2) (fun t14 _ =>
 vG (fieldAt 84 t14 6) (fun t15 _ =>
 vG (loadAt 2 t15) (fun t16 _ =>
 vG (loadAt 2 t1) (fun t17 _ =>
 vG (binS .mul 2 (.const (.int .i64 8)) (.tmp 17) (.int .i64 8) t17) (fun t18 _ =>
 vG (vt .add 2 16 18 t16 t18) (fun t19 _ =>
 vG (loadAt 52 t2) (fun t20 _ =>
 vC 30 #[t7,t11,t19,t20] (fun t21 H1 =>
 R t21 H1) h) h) #[]) #[]) h) h) #[]) #[]) #[]) h) h) #[]) #[]) h) h) #[]) #[]) h

theorem n105_calls{t0 t1 t2:Value}{R:VP}{h:Heap}(H:n105 t0 t1 t2 R h):CallsH Tryz.prog 105 #[t0,t1,t2] h R ⟨⟩ :=
 callsH_of_eq Tryz.follow .l Tryz.func105 kR kR kR H

def n106(t0:Value)(R:VP)(h:Heap):Prop :=
 vG (loadAt 30 t0) (fun t2 _ =>
 vG (nilS t2) (fun t3 _ =>
 vG (fieldAt 89 t3 0) (fun t4 _ =>
 vG (loadAt 27 t4) (fun t5 _ =>
 vG (loadAt 30 t0) (fun t6 _ =>
 vG (nilS t6) (fun t7 _ =>
 vG (fieldAt 89 t7 1) (fun t8 _ =>
 vG (loadAt 9 t8) (fun t9 _ =>
 vC 31 #[t5,t9] (fun t10 H1 =>
 R t10 H1) h) h) #[]) #[]) h) h) #[]) #[]) h

theorem n106_calls{t0:Value}{R:VP}{h:Heap}(H:n106 t0 R h):CallsH Tryz.prog 106 #[t0] h R ⟨⟩ :=
 callsH_of_eq Tryz.follow .l Tryz.func106 kR kR kR H

def n107(room0 n1:Value)(R:VP)(h:Heap):Prop :=
 vF (vt .leq 44 5 6 n1 room0) (fun t7 H1 =>
 R t7 H1) h

theorem n107_calls{room0 n1:Value}{R:VP}{h:Heap}(H:n107 room0 n1 R h):CallsH Tryz.prog 107 #[room0,n1] h R ⟨⟩ :=
 callsH_of_eq Tryz.follow .l Tryz.func107 kR kR kR H

def n108(b0 w1 i2 x3:Value)(R:VP)(h:Heap):Prop :=
 vF (vk .lss 3 11 .i64 8 w1) (fun t12 H1 =>
 vD t12 (
 vF (vt .mul 3 13 14 i2 w1) (fun t15 H2 =>
 vF (vk .quo 3 15 .i64 8 t15) (fun t16 H3 =>
 vF (vt .mul 3 17 18 i2 w1) (fun t19 H4 =>
 vF (vk .rem 3 19 .i64 8 t19) (fun t20 H5 =>
 vG (indexAt 52 b0 t16) (fun t23 _ =>
 vG (loadAt 5 t23) (fun t24 _ =>
 vG (binS .shl 5 (.const (.int .u8 1)) (.tmp 25) (.int .u8 1) w1) (fun t26 _ =>
 vG (vk .sub 5 26 .u8 1 t26) (fun t27 _ =>
 vG (vt .shl 5 27 28 t27 t20) (fun t29 _ =>
 vG (vt .andNot 5 24 29 t24 t29) (fun t30 _ =>
 vG (indexAt 52 b0 t16) (fun t31 _ =>
 vF (storeS 5 t31 t30) (fun _ H6 =>
 vG (indexAt 52 b0 t16) (fun t34 _ =>
 vG (loadAt 5 t34) (fun t35 _ =>
 vG (convert 44 5 x3) (fun t37 _ =>
 vG (vt .shl 5 37 38 t37 t20) (fun t39 _ =>
 vG (vt .or 5 35 39 t35 t39) (fun t40 _ =>
 vG (indexAt 52 b0 t16) (fun t41 _ =>
 vF (storeS 5 t41 t40) (fun _ H7 =>
 R (.tuple #[]) H7) H6) #[]) #[]) #[]) #[]) H6) #[]) H5) #[]) #[]) #[]) #[]) #[]) H5) #[]) H4) H3) H2) H1) (
 vF (vk .quo 3 42 .i64 8 w1) (fun t43 H8 =>
 LoopC 2 (fun (X:Value->VP)=>fun x3_1 t44 H9 =>
 vF (vt .lss 3 44 43 t44 t43) (fun t45 H10 =>
 vD t45 (
 vF (vt .mul 3 48 49 i2 w1) (fun t50 H11 =>
 vF (vk .quo 3 50 .i64 8 t50) (fun t51 H12 =>
 vF (vt .add 3 51 52 t51 t44) (fun t53 H13 =>
 vF (convert 44 5 x3_1) (fun t55 H14 =>
 vF (indexAt 52 b0 t53) (fun t56 H15 =>
 vF (storeS 5 t56 t55) (fun _ H16 =>
 vF (vk .shr 44 57 .u64 8 x3_1) (fun t58 H17 =>
 vF (vk .add 3 44 .i64 1 t44) (fun t59 H18 =>
 X t58 t59 H18) H17) H16) H15) H14) H13) H12) H11) H10) (
 R (.tuple #[]) H10)) H9) [x3,(.int .i64 0)] H8 ⟨⟩) H1)) h

theorem n108_calls{b0 w1 i2 x3:Value}{R:VP}{h:Heap}(H:n108 b0 w1 i2 x3 R h):CallsH Tryz.prog 108 #[b0,w1,i2,x3] h R ⟨⟩ :=
 callsH_of_eq Tryz.follow (.n none .l (.n none .l (.n none (.n (some [4,45]) .l .l) .l))) Tryz.func108 kR kR kR H

def n109(s10 s21:Value)(R:VP)(h:Heap):Prop :=
 vF (len_ #[52] 3 #[s10]) (fun t7 H1 =>
 vF (len_ #[52] 3 #[s21]) (fun t9 H2 =>
 vF (vt .neq 3 7 9 t7 t9) (fun t10 H3 =>
 vD t10 (
 R (.bool false) H3) (
 vF (len_ #[52] 3 #[s10]) (fun t12 H4 =>
 LoopC 1 (fun (X:VP)=>fun t13 H5 =>
 vF (vt .lss 3 13 12 t13 t12) (fun t14 H6 =>
 vD t14 (
 vG (indexAt 52 s10 t13) (fun t18 _ =>
 vG (loadAt 5 t18) (fun t19 _ =>
 vG (indexAt 52 s21 t13) (fun t22 _ =>
 vG (loadAt 5 t22) (fun t23 _ =>
 vG (vt .neq 5 19 23 t19 t23) (fun t24 _ =>
 vD t24 (
 R (.bool false) H6) (
 vF (vk .add 3 13 .i64 1 t13) (fun t25 H7 =>
 X t25 H7) H6)) #[]) H6) #[]) H6) #[]) (
 R (.bool true) H6)) H5) [(.int .i64 0)] H4 ⟨⟩) H3)) H2) H1) h

theorem n109_calls{s10 s21:Value}{R:VP}{h:Heap}(H:n109 s10 s21 R h):CallsH Tryz.prog 109 #[s10,s21] h R ⟨⟩ :=
 callsH_of_eq Tryz.follow (.n none .l (.n none .l (.n none (.n none .l (.n none (.n (some [14]) .l .l) .l)) .l))) Tryz.func109 kR kR kR H

def n110(b0 at1 n2:Value)(R:VP)(h:Heap):Prop :=
 vF (vt .add 3 10 11 at1 n2) (fun t12 H1 =>
 vF (sliceAt 52 b0 (some at1) (some t12) none) (fun t13 H2 =>
 vC 55 #[t13] (fun t14 H3 =>
 vF (vk .gtr 44 15 .u64 4611686018427387904 t14) (fun t16 H4 =>
 vD t16 (
 R (.int .i64 (-1)) H4) (
 vF (convert 44 2 t14) (fun t18 H5 =>
 R t18 H5) H4)) H3) H2) H1) h

theorem n110_calls{b0 at1 n2:Value}{R:VP}{h:Heap}(H:n110 b0 at1 n2 R h):CallsH Tryz.prog 110 #[b0,at1,n2] h R ⟨⟩ :=
 callsH_of_eq Tryz.follow .l Tryz.func110 kR kR kR H

def n111(seq0:Value)(R:VP)(h:Heap):Prop :=
 vC 135 #[seq0] (fun t5 H1 =>
 vC 136 #[t5] (fun t7 H2 =>
 R t5 H2) H1) h

theorem n111_calls{seq0:Value}{R:VP}{h:Heap}(H:n111 seq0 R h):CallsH Tryz.prog 111 #[seq0] h R ⟨⟩ :=
 callsH_of_eq Tryz.follow .l Tryz.func111 kR kR kR H

def n112(m0:Value)(R:VP)(h:Heap):Prop :=
 vF (box 142 m0) (fun m1 H1 =>
 vF (pure (.func (.func 137) #[] #[m1])) (fun t3 H2 =>
 R t3 H2) H1) h

theorem n112_calls{m0:Value}{R:VP}{h:Heap}(H:n112 m0 R h):CallsH Tryz.prog 112 #[m0] h R ⟨⟩ :=
 callsH_of_eq Tryz.follow .l Tryz.func112 kR kR kR H

def n114(w0:Value)(R:VP)(h:Heap):Prop :=
 vG (nilS w0) (fun t6 _ =>
 vG (fieldAt 130 t6 1) (fun t7 _ =>
 vG (fieldAt 84 t7 7) (fun t8 _ =>
 vG (loadAt 3 t8) (fun t9 _ =>
 vC 117 #[w0] (fun t11 H1=>vG (loadAt 3 t8) (fun u _=>u=t9) H1 /\
 vG (vt .mul 2 9 11 t9 t11) (fun t12 _ =>
 vF (nilS w0) (fun t15 H2 =>
 vF (fieldAt 130 t15 1) (fun t16 H3 =>
 vF (fieldAt 84 t16 6) (fun t17 H4 =>
 vF (loadAt 2 t17) (fun t18 H5 =>
 vC 139 #[w0,t18,t12,(.int .i64 1),(.int .i64 40)] (fun t20 H6 =>
 vF (Op.unary .not t20) (fun t21 H7 =>
 vD t21 (
 R (.tuple #[]) H7) (
 LoopC 1 (fun (X:VP)=>fun i3 H8 =>
 vF (vk .quo 2 23 .i64 8 t12) (fun t24 H9 =>
 vF (vt .lss 2 22 24 i3 t24) (fun t25 H10 =>
 vD t25 (
 vF (nilS w0) (fun t30 H11 =>
 vF (fieldAt 130 t30 1) (fun t31 H12 =>
 vF (fieldAt 84 t31 6) (fun t32 H13 =>
 vF (loadAt 2 t32) (fun t33 H14 =>
 vF (binS .mul 2 (.const (.int .i64 8)) (.tmp 34) (.int .i64 8) i3) (fun t35 H15 =>
 vF (vt .add 2 33 35 t33 t35) (fun t36 H16 =>
 vC 140 #[w0,t36] (fun t37 H17 =>
 JoinN 1 (fun (k:VP) H18 =>
 vG (vk .neq 2 38 .i64 0 t37) (fun t39 _ =>
 vJ t39 true (vV w0) (fun t41 _ =>
 vJ t39 true (vV t37) (fun t42 _ =>
 vJ t39 true (vV w0) (fun t43 _ =>
 vJ t39 true (vV w0) (fun t45 _ =>
 vJ t39 true (vG (nilS t45)) (fun t46 _ =>
 vJ t39 true (vG (fieldAt 130 t46 1)) (fun t47 _ =>
 vJ t39 true (vG (fieldAt 84 t47 6)) (fun t48 _ =>
 vJ t39 true (vG (loadAt 2 t48)) (fun t49 _ =>
 vJ t39 true (vV i3) (fun t50 _ =>
 vJ t39 true (vG (binS .mul 2 (.const (.int .i64 8)) (.tmp 50) (.int .i64 8) t50)) (fun t51 _ =>
 vJ t39 true (vG (vt .add 2 49 51 t49 t51)) (fun t52 _ =>
 vJ t39 true (vC 117 #[t43]) (fun t44 H31=>vJ t39 true (vG (loadAt 2 t48)) (fun u _=>u=t49) H31 /\
 vJ t39 true (vC 139 #[t41,t42,t44,(.int .i64 1),t52]) (fun t53 H33 =>
 vJ t39 true (vG (Op.unary .not t53)) (fun t54 _ =>
 vG (pickS t39 t54 (.bool false)) (fun t55 _ =>
 vD t55 (
 k (.int .i64 0) H33) (
 k t37 H33)) #[]) #[]) H31) H18) #[]) #[]) #[]) H18) #[]) #[]) #[]) #[]) #[]) #[]) #[]) #[])
 (fun at4 H35 =>
 vF (nilS w0) (fun t58 H36 =>
 vF (fieldAt 130 t58 6) (fun t59 H37 =>
 vF (loadAt 47 t59) (fun t60 H38 =>
 vF (buildSlice 47 1 #[(0,at4)]) (fun t62 H39 =>
 vF (append_ #[47,47] 47 #[t60,t62]) (fun t63 H40 =>
 vF (nilS w0) (fun t64 H41 =>
 vF (fieldAt 130 t64 6) (fun t65 H42 =>
 vF (storeS 47 t65 t63) (fun _ H43 =>
 vF (vk .add 2 26 .i64 1 i3) (fun t27 H44 =>
 X t27 H44) H43) H42) H41) H40) H39) H38) H37) H36) H35) H17 ⟨⟩ ⟨⟩) H16) H15) H14) H13) H12) H11) H10) (
 R (.tuple #[]) H10)) H9) H8) [(.int .i64 0)] H7 ⟨⟩)) H6) H5) H4) H3) H2) H1) #[]) h) h) #[]) #[]) #[]

theorem n114_calls{w0:Value}{R:VP}{h:Heap}(H:n114 w0 R h):CallsH Tryz.prog 114 #[w0] h R ⟨⟩ :=
 callsH_of_eq Tryz.follow (.n none .l (.n none .l (.n none .l (.n none (.n (some [4]) (.n none .l (.n none (.n none (.n none .l (.n (some [5]) .l .l)) .l) .l)) .l) .l)))) Tryz.func114 kR kR kR H

def n115(w0 at1 n2 where3:Value)(R:VP)(h:Heap):Prop :=
 vF (vk .eql 3 10 .i64 0 n2) (fun t11 H1 =>
 vJ t11 false (vV w0) (fun t13 H3 =>
 vJ t11 false (vV at1) (fun t14 H5 =>
 vJ t11 false (vV n2) (fun t15 H7 =>
 vJ t11 false (vF (binS .mul 2 (.const (.int .i64 8)) (.tmp 15) (.int .i64 8) t15)) (fun t16 H9 =>
 vJ t11 false (vV where3) (fun t17 H11 =>
 vJ t11 false (vC 139 #[t13,t14,t16,(.int .i64 1),t17]) (fun t18 H13 =>
 vJ t11 false (vF (Op.unary .not t18)) (fun t19 H15 =>
 vF (pickS t11 (.bool true) t19) (fun t20 H16 =>
 vD t20 (
 R (.tuple #[]) H16) (
 LoopC 1 (fun (X:VP)=>fun i8 H17 =>
 vF (vt .lss 2 21 22 i8 n2) (fun t23 H18 =>
 vD t23 (
 JoinN 0 (fun (k_7:Heap->Prop) H19 =>
 JoinN 0 (fun (k_8:Heap->Prop) H20 =>
 vF (binS .mul 2 (.const (.int .i64 8)) (.tmp 28) (.int .i64 8) i8) (fun t29 H21 =>
 vF (vt .add 2 27 29 at1 t29) (fun t30 H22 =>
 vC 140 #[w0,t30] (fun t31 H23 =>
 vF (vk .neq 2 32 .i64 0 t31) (fun t33 H24 =>
 vJ t33 true (vV w0) (fun t35 H26 =>
 vJ t33 true (vV t31) (fun t36 H28 =>
 vJ t33 true (vV w0) (fun t37 H30 =>
 vJ t33 true (vC 117 #[t37]) (fun t38 H32 =>
 vJ t33 true (vV at1) (fun t39 H34 =>
 vJ t33 true (vV i8) (fun t40 H36 =>
 vJ t33 true (vF (binS .mul 2 (.const (.int .i64 8)) (.tmp 40) (.int .i64 8) t40)) (fun t41 H38 =>
 vJ t33 true (vF (vt .add 2 39 41 t39 t41)) (fun t42 H40 =>
 vJ t33 true (vC 139 #[t35,t36,t38,(.int .i64 2),t42]) (fun t43 H42 =>
 vF (pickS t33 t43 (.bool false)) (fun t44 H43 =>
 vD t44 (
 vC 141 #[w0,t31] (fun t47 H44 =>
 k_8 H44) H43) (
 k_8 H43)) H42) H40) H38) H36) H34) H32) H30) H28) H26) H24) H23) H22) H21) H20)
 (fun H45 =>
 k_7 H45) H19 ⟨⟩ ⟨⟩)
 (fun H46 =>
 vF (vk .add 2 24 .i64 1 i8) (fun t25 H47 =>
 X t25 H47) H46) H18 ⟨⟩ ⟨⟩) (
 R (.tuple #[]) H18)) H17) [(.int .i64 0)] H16 ⟨⟩)) H15) H13) H11) H9) H7) H5) H3) H1) h

theorem n115_calls{w0 at1 n2 where3:Value}{R:VP}{h:Heap}(H:n115 w0 at1 n2 where3 R h):CallsH Tryz.prog 115 #[w0,at1,n2,where3] h R ⟨⟩ :=
 callsH_of_eq Tryz.follow (.n none .l (.n none .l (.n none (.n (some [9]) (.n none .l (.n (some []) (.n (some []) .l .l) .l)) .l) .l))) Tryz.func115 kR kR kR H

def n116(w0:Value)(R:VP)(h:Heap):Prop :=
 JoinN 0 (fun (k:Heap->Prop) H1 =>
 vG (nilS w0) (fun t9 _ =>
 vG (fieldAt 130 t9 1) (fun t10 _ =>
 vG (fieldAt 84 t10 8) (fun t11 _ =>
 vG (loadAt 3 t11) (fun t12 _ =>
 vG (vk .gtr 3 12 .i64 0 t12) (fun t13 _ =>
 vJ t13 true (vV w0) (fun t15 _ =>
 vJ t13 true (vV w0) (fun t16 _ =>
 vJ t13 true (vG (nilS t16)) (fun t17 _ =>
 vJ t13 true (vG (fieldAt 130 t17 1)) (fun t18 _ =>
 vJ t13 true (vG (fieldAt 84 t18 9)) (fun t19 _ =>
 vJ t13 true (vG (loadAt 2 t19)) (fun t20 _ =>
 vJ t13 true (vV w0) (fun t21 _ =>
 vJ t13 true (vG (nilS t21)) (fun t22 _ =>
 vJ t13 true (vG (fieldAt 130 t22 1)) (fun t23 _ =>
 vJ t13 true (vG (fieldAt 84 t23 10)) (fun t24 _ =>
 vJ t13 true (vG (loadAt 3 t24)) (fun t25 _ =>
 vJ t13 true (vC 139 #[t15,t20,t25,(.int .i64 1),(.int .i64 56)]) (fun t26 H14 =>
 vG (pickS t13 t26 (.bool false)) (fun t27 _ =>
 vD t27 (
 vG (nilS w0) (fun t30 _ =>
 vG (fieldAt 130 t30 1) (fun t31 _ =>
 vG (fieldAt 84 t31 0) (fun t32 _ =>
 vG (loadAt 3 t32) (fun t33 _ =>
 vG (nilS w0) (fun t35 _ =>
 vG (fieldAt 130 t35 0) (fun t36 _ =>
 vG (loadAt 52 t36) (fun t37 _ =>
 vG (nilS w0) (fun t39 _ =>
 vG (fieldAt 130 t39 1) (fun t40 _ =>
 vG (fieldAt 84 t40 9) (fun t41 _ =>
 vG (loadAt 2 t41) (fun t42 _ =>
 vG (nilS w0) (fun t44 _ =>
 vG (fieldAt 130 t44 1) (fun t45 _ =>
 vG (fieldAt 84 t45 9) (fun t46 _ =>
 vG (loadAt 2 t46) (fun t47 _ =>
 vG (nilS w0) (fun t49 _ =>
 vG (fieldAt 130 t49 1) (fun t50 _ =>
 vG (fieldAt 84 t50 10) (fun t51 _ =>
 vG (loadAt 3 t51) (fun t52 _ =>
 vG (vt .add 2 47 52 t47 t52) (fun t53 _ =>
 vG (sliceAt 52 t37 (some t42) (some t53) none) (fun t54 _ =>
 vG (nilS w0) (fun t56 _ =>
 vG (fieldAt 130 t56 1) (fun t57 _ =>
 vG (fieldAt 84 t57 8) (fun t58 _ =>
 vG (loadAt 3 t58) (fun t59 _ =>
 vC 142 #[t33,t54,t59] (fun t60 H15 =>
 vG (extract t60 0) (fun t61 _ =>
 vG (extract t60 1) (fun t62 _ =>
 JoinN 0 (fun (k_13:Heap->Prop) H16 =>
 vF (Op.unary .not t62) (fun t64 H17 =>
 vD t64 (
 vF (nilS w0) (fun t67 H18 =>
 vF (fieldAt 130 t67 1) (fun t68 H19 =>
 vF (fieldAt 84 t68 9) (fun t69 H20 =>
 vF (loadAt 2 t69) (fun t70 H21 =>
 vC 143 #[w0,(.int .i64 3),t70] (fun t71 H22 =>
 k_13 H22) H21) H20) H19) H18) H17) (
 k_13 H17)) H16)
 (fun H23 =>
 LoopC 1 (fun (X:VP)=>fun i4 H24 =>
 vJ t62 true (vV i4) (fun t74 H26 =>
 vJ t62 true (vV t61) (fun t75 H28 =>
 vJ t62 true (vF (len_ #[211] 3 #[t75])) (fun t76 H30 =>
 vJ t62 true (vF (vt .lss 3 74 76 t74 t76)) (fun t77 H32 =>
 vF (pickS t62 t77 (.bool false)) (fun t78 H33 =>
 vD t78 (
 vG (indexAt 211 t61 i4) (fun t84 _ =>
 vG (fieldAt 216 t84 1) (fun t85 _ =>
 vG (loadAt 2 t85) (fun t86 _ =>
 vG (indexAt 211 t61 i4) (fun t89 _ =>
 vG (fieldAt 216 t89 2) (fun t90 _ =>
 vG (loadAt 3 t90) (fun t91 _ =>
 vG (nilS w0) (fun t93 _ =>
 vG (fieldAt 130 t93 1) (fun t94 _ =>
 vG (fieldAt 84 t94 9) (fun t95 _ =>
 vG (loadAt 2 t95) (fun t96 _ =>
 vC 115 #[w0,t86,t91,t96] (fun t97 H34 =>
 vF (vk .add 3 79 .i64 1 i4) (fun t80 H35 =>
 X t80 H35) H34) H33) H33) #[]) #[]) #[]) H33) #[]) #[]) H33) #[]) #[]) (
 k H33)) H32) H30) H28) H26) H24) [(.int .i64 0)] H23 ⟨⟩) H15 ⟨⟩ ⟨⟩) #[]) #[]) H14) H14) #[]) #[]) #[]) #[]) #[]) H14) #[]) #[]) #[]) H14) #[]) #[]) #[]) H14) #[]) #[]) #[]) H14) #[]) #[]) H14) #[]) #[]) #[]) (
 k H14)) #[]) H1) H1) #[]) #[]) #[]) #[]) H1) #[]) #[]) #[]) #[]) #[]) #[]) H1) #[]) #[]) #[])
 (fun H36 =>
 vG (nilS w0) (fun t99 _ =>
 vG (fieldAt 130 t99 1) (fun t100 _ =>
 vG (fieldAt 84 t100 11) (fun t101 _ =>
 vG (loadAt 3 t101) (fun t102 _ =>
 vG (vk .gtr 3 102 .i64 0 t102) (fun t103 _ =>
 vJ t103 true (vV w0) (fun t105 _ =>
 vJ t103 true (vV w0) (fun t106 _ =>
 vJ t103 true (vG (nilS t106)) (fun t107 _ =>
 vJ t103 true (vG (fieldAt 130 t107 1)) (fun t108 _ =>
 vJ t103 true (vG (fieldAt 84 t108 12)) (fun t109 _ =>
 vJ t103 true (vG (loadAt 2 t109)) (fun t110 _ =>
 vJ t103 true (vV w0) (fun t111 _ =>
 vJ t103 true (vG (nilS t111)) (fun t112 _ =>
 vJ t103 true (vG (fieldAt 130 t112 1)) (fun t113 _ =>
 vJ t103 true (vG (fieldAt 84 t113 13)) (fun t114 _ =>
 vJ t103 true (vG (loadAt 3 t114)) (fun t115 _ =>
 vJ t103 true (vC 139 #[t105,t110,t115,(.int .i64 1),(.int .i64 72)]) (fun t116 H49 =>
 vG (pickS t103 t116 (.bool false)) (fun t117 _ =>
 vD t117 (
 vG (nilS w0) (fun t120 _ =>
 vG (fieldAt 130 t120 1) (fun t121 _ =>
 vG (fieldAt 84 t121 0) (fun t122 _ =>
 vG (loadAt 3 t122) (fun t123 _ =>
 vG (nilS w0) (fun t125 _ =>
 vG (fieldAt 130 t125 0) (fun t126 _ =>
 vG (loadAt 52 t126) (fun t127 _ =>
 vG (nilS w0) (fun t129 _ =>
 vG (fieldAt 130 t129 1) (fun t130 _ =>
 vG (fieldAt 84 t130 12) (fun t131 _ =>
 vG (loadAt 2 t131) (fun t132 _ =>
 vG (nilS w0) (fun t134 _ =>
 vG (fieldAt 130 t134 1) (fun t135 _ =>
 vG (fieldAt 84 t135 12) (fun t136 _ =>
 vG (loadAt 2 t136) (fun t137 _ =>
 vG (nilS w0) (fun t139 _ =>
 vG (fieldAt 130 t139 1) (fun t140 _ =>
 vG (fieldAt 84 t140 13) (fun t141 _ =>
 vG (loadAt 3 t141) (fun t142 _ =>
 vG (vt .add 2 137 142 t137 t142) (fun t143 _ =>
 vG (sliceAt 52 t127 (some t132) (some t143) none) (fun t144 _ =>
 vG (nilS w0) (fun t146 _ =>
 vG (fieldAt 130 t146 1) (fun t147 _ =>
 vG (fieldAt 84 t147 11) (fun t148 _ =>
 vG (loadAt 3 t148) (fun t149 _ =>
 vC 144 #[t123,t144,t149] (fun t150 H50 =>
 vG (extract t150 0) (fun t151 _ =>
 vG (extract t150 1) (fun t152 _ =>
 JoinN 0 (fun (k_30:Heap->Prop) H51 =>
 vF (Op.unary .not t152) (fun t154 H52 =>
 vD t154 (
 vF (nilS w0) (fun t157 H53 =>
 vF (fieldAt 130 t157 1) (fun t158 H54 =>
 vF (fieldAt 84 t158 12) (fun t159 H55 =>
 vF (loadAt 2 t159) (fun t160 H56 =>
 vC 143 #[w0,(.int .i64 3),t160] (fun t161 H57 =>
 k_30 H57) H56) H55) H54) H53) H52) (
 k_30 H52)) H51)
 (fun H58 =>
 LoopC 1 (fun (X_1:VP)=>fun i7 H59 =>
 vJ t152 true (vV i7) (fun t164 H61 =>
 vJ t152 true (vV t151) (fun t165 H63 =>
 vJ t152 true (vF (len_ #[217] 3 #[t165])) (fun t166 H65 =>
 vJ t152 true (vF (vt .lss 3 164 166 t164 t166)) (fun t167 H67 =>
 vF (pickS t152 t167 (.bool false)) (fun t168 H68 =>
 vD t168 (
 JoinN 0 (fun (k_35:Heap->Prop) H69 =>
 JoinN 0 (fun (k_36:Heap->Prop) H70 =>
 vF (indexAt 217 t151 i7) (fun t173 H71 =>
 vF (fieldAt 221 t173 4) (fun t174 H72 =>
 vF (loadAt 3 t174) (fun t175 H73 =>
 vF (vk .gtr 3 175 .i64 0 t175) (fun t176 H74 =>
 vD t176 (
 vG (indexAt 217 t151 i7) (fun t180 _ =>
 vG (fieldAt 221 t180 3) (fun t181 _ =>
 vG (loadAt 2 t181) (fun t182 _ =>
 vG (indexAt 217 t151 i7) (fun t185 _ =>
 vG (fieldAt 221 t185 4) (fun t186 _ =>
 vG (loadAt 3 t186) (fun t187 _ =>
 vG (nilS w0) (fun t189 _ =>
 vG (fieldAt 130 t189 1) (fun t190 _ =>
 vG (fieldAt 84 t190 12) (fun t191 _ =>
 vG (loadAt 2 t191) (fun t192 _ =>
 vC 139 #[w0,t182,t187,(.int .i64 1),t192] (fun t193 H75 =>
 k_36 H75) H74) H74) #[]) #[]) #[]) H74) #[]) #[]) H74) #[]) #[]) (
 k_36 H74)) H73) H72) H71) H70)
 (fun H76 =>
 k_35 H76) H69 ⟨⟩ ⟨⟩)
 (fun H77 =>
 vF (vk .add 3 169 .i64 1 i7) (fun t170 H78 =>
 X_1 t170 H78) H77) H68 ⟨⟩ ⟨⟩) (
 R (.tuple #[]) H68)) H67) H65) H63) H61) H59) [(.int .i64 0)] H58 ⟨⟩) H50 ⟨⟩ ⟨⟩) #[]) #[]) H49) H49) #[]) #[]) #[]) #[]) #[]) H49) #[]) #[]) #[]) H49) #[]) #[]) #[]) H49) #[]) #[]) #[]) H49) #[]) #[]) H49) #[]) #[]) #[]) (
 R (.tuple #[]) H49)) #[]) H36) H36) #[]) #[]) #[]) #[]) H36) #[]) #[]) #[]) #[]) #[]) #[]) H36) #[]) #[]) #[]) h ⟨⟩ ⟨⟩

theorem n116_calls{w0:Value}{R:VP}{h:Heap}(H:n116 w0 R h):CallsH Tryz.prog 116 #[w0] h R ⟨⟩ :=
 callsH_of_eq Tryz.follow (.n (some []) (.n none .l (.n none (.n none .l (.n (some []) .l (.n none .l (.n none (.n (some [5]) .l .l) .l)))) .l)) (.n none .l (.n none (.n none .l (.n (some []) .l (.n none .l (.n none (.n (some [8]) (.n none .l (.n (some []) (.n (some []) .l .l) .l)) .l) .l)))) .l))) Tryz.func116 kR kR kR H

def n117(w0:Value)(R:VP)(h:Heap):Prop :=
 vF (nilS w0) (fun t4 H1 =>
 vF (fieldAt 130 t4 1) (fun t5 H2 =>
 vF (fieldAt 84 t5 0) (fun t6 H3 =>
 vF (loadAt 3 t6) (fun t7 H4 =>
 vC 36 #[t7] (fun t8 H5 =>
 R t8 H5) H4) H3) H2) H1) h

theorem n117_calls{w0:Value}{R:VP}{h:Heap}(H:n117 w0 R h):CallsH Tryz.prog 117 #[w0] h R ⟨⟩ :=
 callsH_of_eq Tryz.follow .l Tryz.func117 kR kR kR H

def n118(s0 f1:Value)(R:VP)(h:Heap):Prop :=
 vF (len_ #[68] 3 #[s0]) (fun t7 H1 =>
 LoopC 1 (fun (X:VP)=>fun t8 H2 =>
 vF (vt .lss 3 8 7 t8 t7) (fun t9 H3 =>
 vD t9 (
 vF (indexAt 68 s0 t8) (fun t14 H4 =>
 vF (loadAt 3 t14) (fun t15 H5 =>
 InvokeH Tryz.prog f1 #[t15] H5 (fun t16 H6 =>
 vD t16 (
 R t8 H6) (
 vF (vk .add 3 8 .i64 1 t8) (fun t18 H7 =>
 X t18 H7) H6)) ⟨⟩) H4) H3) (
 R (.int .i64 (-1)) H3)) H2) [(.int .i64 0)] H1 ⟨⟩) h

theorem n118_calls{s0 f1:Value}{R:VP}{h:Heap}(H:n118 s0 f1 R h):CallsH Tryz.prog 118 #[s0,f1] h R ⟨⟩ :=
 callsH_of_eq Tryz.follow (.n none .l (.n none (.n none .l (.n none (.n (some [9]) .l .l) .l)) .l)) Tryz.func118 kR kR kR H

def n119(h0:Value)(R:VP)(h:Heap):Prop :=
 vF (box 84 h0) (fun h1 H1 =>
 vG (fieldAt 84 h1 2) (fun t3 _ =>
 vG (loadAt 2 t3) (fun t4 _ =>
 vG (fieldAt 84 h1 0) (fun t5 _ =>
 vG (loadAt 3 t5) (fun t6 _ =>
 vC 36 #[t6] (fun t7 H2=>vG (loadAt 2 t3) (fun u _=>u=t4) H2 /\
 vC 72 #[t4,t7] (fun t8 H3 =>
 R t8 H3) H2) H1) H1) #[]) H1) #[]) h

theorem n119_calls{h0:Value}{R:VP}{h:Heap}(H:n119 h0 R h):CallsH Tryz.prog 119 #[h0] h R ⟨⟩ :=
 callsH_of_eq Tryz.follow .l Tryz.func119 kR kR kR H

def n120(at0 bits1:Value)(R:VP)(h:Heap):Prop :=
 vF (vk .gtr 2 5 .i64 0 at0) (fun t6 H1 =>
 vJ t6 true (vV at0) (fun t8 H3 =>
 vJ t6 true (vF (vk .leq 2 8 .i64 268435456 t8)) (fun t9 H5 =>
 vF (pickS t6 t9 (.bool false)) (fun t10 H6 =>
 vJ t10 true (vV at0) (fun t12 H8 =>
 vJ t10 true (vV bits1) (fun t13 H10 =>
 vJ t10 true (vC 36 #[t13]) (fun t14 H12 =>
 vJ t10 true (vF (vt .rem 2 12 14 t12 t14)) (fun t15 H14 =>
 vJ t10 true (vF (vk .eql 2 15 .i64 0 t15)) (fun t16 H16 =>
 vF (pickS t10 t16 (.bool false)) (fun t17 H17 =>
 R t17 H17) H16) H14) H12) H10) H8) H6) H5) H3) H1) h

theorem n120_calls{at0 bits1:Value}{R:VP}{h:Heap}(H:n120 at0 bits1 R h):CallsH Tryz.prog 120 #[at0,bits1] h R ⟨⟩ :=
 callsH_of_eq Tryz.follow .l Tryz.func120 kR kR kR H

def n121(n0 at1 long2 bits3:Value)(R:VP)(h:Heap):Prop :=
 vF (vk .eql 3 9 .i64 0 n0) (fun t10 H1 =>
 vD t10 (
 vF (vk .eql 2 11 .i64 0 at1) (fun t12 H2 =>
 vJ t12 true (vV long2) (fun t14 H4 =>
 vJ t12 true (vF (vk .eql 3 14 .i64 0 t14)) (fun t15 H6 =>
 vF (pickS t12 t15 (.bool false)) (fun t16 H7 =>
 R t16 H7) H6) H4) H2) H1) (
 vF (vk .gtr 3 17 .i64 0 n0) (fun t18 H8 =>
 vJ t18 true (vV n0) (fun t20 H10 =>
 vJ t18 true (vF (vk .leq 3 20 .i64 64 t20)) (fun t21 H12 =>
 vF (pickS t18 t21 (.bool false)) (fun t22 H13 =>
 vJ t22 true (vV at1) (fun t24 H15 =>
 vJ t22 true (vV bits3) (fun t25 H17 =>
 vJ t22 true (vC 120 #[t24,t25]) (fun t26 H19 =>
 vF (pickS t22 t26 (.bool false)) (fun t27 H20 =>
 vJ t27 true (vV long2) (fun t29 H22 =>
 vJ t27 true (vF (vk .geq 3 29 .i64 1 t29)) (fun t30 H24 =>
 vF (pickS t27 t30 (.bool false)) (fun t31 H25 =>
 vJ t31 true (vV long2) (fun t33 H27 =>
 vJ t31 true (vF (vk .leq 3 33 .i64 65536 t33)) (fun t34 H29 =>
 vF (pickS t31 t34 (.bool false)) (fun t35 H30 =>
 R t35 H30) H29) H27) H25) H24) H22) H20) H19) H17) H15) H13) H12) H10) H8) H1)) h

theorem n121_calls{n0 at1 long2 bits3:Value}{R:VP}{h:Heap}(H:n121 n0 at1 long2 bits3 R h):CallsH Tryz.prog 121 #[n0,at1,long2,bits3] h R ⟨⟩ :=
 callsH_of_eq Tryz.follow .l Tryz.func121 kR kR kR H

def n122(s0 f1:Value)(R:VP)(h:Heap):Prop :=
 vC 145 #[s0,f1] (fun t7 H1 =>
 vF (vk .geq 3 7 .i64 0 t7) (fun t8 H2 =>
 R t8 H2) H1) h

theorem n122_calls{s0 f1:Value}{R:VP}{h:Heap}(H:n122 s0 f1 R h):CallsH Tryz.prog 122 #[s0,f1] h R ⟨⟩ :=
 callsH_of_eq Tryz.follow .l Tryz.func122 kR kR kR H

def n123(f0:Value)(R:VP)(h:Heap):Prop :=
 vF (box 139 f0) (fun f1 H1 =>
 vF (fieldAt 139 f1 0) (fun t3 H2 =>
 vF (loadAt 137 t3) (fun t4 H3 =>
 vF (vk .lss 137 4 .i64 0 t4) (fun t5 H4 =>
 vJ t5 false (vF (fieldAt 139 f1 0)) (fun t7 H6 =>
 vJ t5 false (vF (loadAt 137 t7)) (fun t8 H8 =>
 vJ t5 false (vF (vk .gtr 137 8 .i64 2 t8)) (fun t9 H10 =>
 vF (pickS t5 (.bool true) t9) (fun t10 H11 =>
 R t10 H11) H10) H8) H6) H4) H3) H2) H1) h

theorem n123_calls{f0:Value}{R:VP}{h:Heap}(H:n123 f0 R h):CallsH Tryz.prog 123 #[f0] h R ⟨⟩ :=
 callsH_of_eq Tryz.follow .l Tryz.func123 kR kR kR H

def n124(b0 c1:Value)(R:VP)(h:Heap):Prop :=
 ExtH Tryz.prog 146 #[b0,c1] h (fun t7 H1 =>
 R t7 H1) ⟨⟩

theorem n124_calls{b0 c1:Value}{R:VP}{h:Heap}(H:n124 b0 c1 R h):CallsH Tryz.prog 124 #[b0,c1] h R ⟨⟩ :=
 callsH_of_eq Tryz.follow .l Tryz.func124 kR kR kR H

def n125(b0 at1 n2:Value)(R:VP)(h:Heap):Prop :=
 vF (vk .geq 3 7 .i64 0 at1) (fun t8 H1 =>
 vJ t8 true (vV n2) (fun t10 H3 =>
 vJ t8 true (vV b0) (fun t11 H5 =>
 vJ t8 true (vF (len_ #[52] 3 #[t11])) (fun t12 H7 =>
 vJ t8 true (vF (vt .leq 3 10 12 t10 t12)) (fun t13 H9 =>
 vF (pickS t8 t13 (.bool false)) (fun t14 H10 =>
 vJ t14 true (vV at1) (fun t16 H12 =>
 vJ t14 true (vV b0) (fun t17 H14 =>
 vJ t14 true (vF (len_ #[52] 3 #[t17])) (fun t18 H16 =>
 vJ t14 true (vV n2) (fun t19 H18 =>
 vJ t14 true (vF (vt .sub 3 18 19 t18 t19)) (fun t20 H20 =>
 vJ t14 true (vF (vt .leq 3 16 20 t16 t20)) (fun t21 H22 =>
 vF (pickS t14 t21 (.bool false)) (fun t22 H23 =>
 R t22 H23) H22) H20) H18) H16) H14) H12) H10) H9) H7) H5) H3) H1) h

theorem n125_calls{b0 at1 n2:Value}{R:VP}{h:Heap}(H:n125 b0 at1 n2 R h):CallsH Tryz.prog 125 #[b0,at1,n2] h R ⟨⟩ :=
 callsH_of_eq Tryz.follow .l Tryz.func125 kR kR kR H

def n126(b0 at1 most2:Value)(R:VP)(h:Heap):Prop :=
 vF (vk .lss 3 8 .i64 0 most2) (fun t9 H1 =>
 vJ t9 false (vV most2) (fun t11 H3 =>
 vJ t9 false (vF (vk .gtr 3 11 .i64 1048576 t11)) (fun t12 H5 =>
 vF (pickS t9 (.bool true) t12) (fun t13 H6 =>
 vD t13 (
 R (.int .i64 2) H6) (
 vF (binS .add 3 (.const (.int .i64 4)) (.tmp 17) (.int .i64 4) most2) (fun t18 H7 =>
 vC 125 #[b0,at1,t18] (fun t19 H8 =>
 vF (Op.unary .not t19) (fun t20 H9 =>
 vD t20 (
 R (.int .i64 4) H9) (
 R (.int .i64 0) H9)) H8) H7) H6)) H5) H3) H1) h

theorem n126_calls{b0 at1 most2:Value}{R:VP}{h:Heap}(H:n126 b0 at1 most2 R h):CallsH Tryz.prog 126 #[b0,at1,most2] h R ⟨⟩ :=
 callsH_of_eq Tryz.follow .l Tryz.func126 kR kR kR H

def n127(b0 from1 until2:Value)(R:VP)(h:Heap):Prop :=
 vF (vk .lss 3 11 .i64 0 from1) (fun t12 H1 =>
 vJ t12 false (vV until2) (fun t14 H3 =>
 vJ t12 false (vV from1) (fun t15 H5 =>
 vJ t12 false (vF (vt .lss 3 14 15 t14 t15)) (fun t16 H7 =>
 vF (pickS t12 (.bool true) t16) (fun t17 H8 =>
 vJ t17 false (vV until2) (fun t19 H10 =>
 vJ t17 false (vV b0) (fun t20 H12 =>
 vJ t17 false (vF (len_ #[52] 3 #[t20])) (fun t21 H14 =>
 vJ t17 false (vF (vt .gtr 3 19 21 t19 t21)) (fun t22 H16 =>
 vF (pickS t17 (.bool true) t22) (fun t23 H17 =>
 vD t23 (
 R (.tuple #[(.bool false),(.int .i64 4)]) H17) (
 JoinN 1 (fun (k_7:VP) H18 =>
 vF (sliceAt 52 b0 (some from1) (some until2) none) (fun t27 H19 =>
 vF (len_ #[52] 3 #[t27]) (fun t28 H20 =>
 JoinN 1 (fun (k_8:VP) H21 =>
 LoopC 2 (fun (X:Value->VP)=>fun all8 t29 H22 =>
 vF (vt .lss 3 29 28 t29 t28) (fun t30 H23 =>
 vD t30 (
 vF (indexAt 52 t27 t29) (fun t31 H24 =>
 vF (loadAt 5 t31) (fun t32 H25 =>
 vF (vk .neq 5 33 .u8 0 t32) (fun t34 H26 =>
 vD t34 (
 k_8 (.bool false) H26) (
 vF (vk .add 3 29 .i64 1 t29) (fun t35 H27 =>
 X all8 t35 H27) H26)) H25) H24) H23) (
 k_8 all8 H23)) H22) [(.bool true),(.int .i64 0)] H21 ⟨⟩)
 (fun all8_1 H28 =>
 k_7 all8_1 H28) H20 ⟨⟩ ⟨⟩) H19) H18)
 (fun all8_2 H29 =>
 R (.tuple #[all8_2,(.int .i64 0)]) H29) H17 ⟨⟩ ⟨⟩)) H16) H14) H12) H10) H8) H7) H5) H3) H1) h

theorem n127_calls{b0 from1 until2:Value}{R:VP}{h:Heap}(H:n127 b0 from1 until2 R h):CallsH Tryz.prog 127 #[b0,from1,until2] h R ⟨⟩ :=
 callsH_of_eq Tryz.follow (.n none .l (.n none (.n none .l (.n none .l (.n none .l (.n (some [9]) (.n none .l (.n (some [9]) (.n (some [9,30]) .l .l) .l)) .l)))) .l)) Tryz.func127 kR kR kR H

def n128(h0:Value)(R:VP)(h:Heap):Prop :=
 vF (box 84 h0) (fun h1 H1 =>
 vF (fieldAt 84 h1 0) (fun t9 H2 =>
 vF (loadAt 3 t9) (fun t10 H3 =>
 vF (vk .lss 3 10 .i64 9 t10) (fun t11 H4 =>
 vJ t11 false (vF (fieldAt 84 h1 0)) (fun t13 H6 =>
 vJ t11 false (vF (loadAt 3 t13)) (fun t14 H8 =>
 vJ t11 false (vF (vk .gtr 3 14 .i64 16 t14)) (fun t15 H10 =>
 vF (pickS t11 (.bool true) t15) (fun t16 H11 =>
 vJ t16 false (vF (fieldAt 84 h1 1)) (fun t18 H13 =>
 vJ t16 false (vF (loadAt 44 t18)) (fun t19 H15 =>
 vJ t16 false (vF (vk .gtr 44 19 .u64 1 t19)) (fun t20 H17 =>
 vF (pickS t16 (.bool true) t20) (fun t21 H18 =>
 vJ t21 false (vF (fieldAt 84 h1 2)) (fun t23 H20 =>
 vJ t21 false (vF (loadAt 2 t23)) (fun t24 H22 =>
 vJ t21 false (vF (vk .lss 2 24 .i64 0 t24)) (fun t25 H24 =>
 vF (pickS t21 (.bool true) t25) (fun t26 H25 =>
 vJ t26 false (vF (fieldAt 84 h1 2)) (fun t28 H27 =>
 vJ t26 false (vF (loadAt 2 t28)) (fun t29 H29 =>
 vJ t26 false (vF (vk .gtr 2 29 .i64 67108864 t29)) (fun t30 H31 =>
 vF (pickS t26 (.bool true) t30) (fun t31 H32 =>
 vJ t31 false (vF (fieldAt 84 h1 2)) (fun t33 H34 =>
 vJ t31 false (vF (loadAt 2 t33)) (fun t34 H36 =>
 vJ t31 false (vF (vk .rem 2 34 .i64 512 t34)) (fun t35 H38 =>
 vJ t31 false (vF (vk .neq 2 35 .i64 0 t35)) (fun t36 H40 =>
 vF (pickS t31 (.bool true) t36) (fun t37 H41 =>
 vD t37 (
 R (.int .i64 2) H41) (
 vF (fieldAt 84 h1 0) (fun t38 H42 =>
 vF (loadAt 3 t38) (fun t39 H43 =>
 vF (binS .shl 2 (.const (.int .i64 1)) (.tmp 39) (.int .i64 1) t39) (fun t40 H44 =>
 vF (alloc 2 true undef) (fun c3 H45 =>
 vF (storeS 2 c3 t40) (fun _ H46 =>
 vF (pure (.func (.func 147) #[] #[c3])) (fun t41 H47 =>
 vF (alloc 169 true undef) (fun place4 H48 =>
 vF (storeS 169 place4 t41) (fun _ H49 =>
 vF (pure (.func (.func 148) #[] #[place4])) (fun t42 H50 =>
 JoinN 1 (fun (k_16:VP) H51 =>
 vG (fieldAt 84 h1 4) (fun t43 _ =>
 vG (loadAt 3 t43) (fun t44 _ =>
 vG (vk .geq 3 44 .i64 0 t44) (fun t45 _ =>
 vJ t45 true (vG (fieldAt 84 h1 4)) (fun t47 _ =>
 vJ t45 true (vG (loadAt 3 t47)) (fun t48 _ =>
 vJ t45 true (vG (vk .leq 3 48 .i64 1048576 t48)) (fun t49 _ =>
 vG (pickS t45 t49 (.bool false)) (fun t50 _ =>
 vJ t50 true (vG (fieldAt 84 h1 4)) (fun t52 _ =>
 vJ t50 true (vG (loadAt 3 t52)) (fun t53 _ =>
 vJ t50 true (vG (loadAt 84 h1)) (fun t54 _ =>
 vG (fieldAt 84 h1 4) (fun t58 _ =>
 vG (loadAt 3 t58) (fun t59 _ =>
 vG (vk .eql 3 59 .i64 0 t59) (fun t60 _ =>
 vG (fieldAt 84 h1 5) (fun t77 _ =>
 vG (loadAt 3 t77) (fun t78 _ =>
 vG (vk .geq 3 78 .i64 0 t78) (fun t79 _ =>
 vG (loadAt 169 place4) (fun t85 _ =>
 vG (fieldAt 84 h1 6) (fun t86 _ =>
 vG (loadAt 2 t86) (fun t87 _ =>
 vG (fieldAt 84 h1 8) (fun t100 _ =>
 vG (loadAt 3 t100) (fun t101 _ =>
 vG (fieldAt 84 h1 9) (fun t102 _ =>
 vG (loadAt 2 t102) (fun t103 _ =>
 vG (fieldAt 84 h1 10) (fun t104 _ =>
 vG (loadAt 3 t104) (fun t105 _ =>
 vG (fieldAt 84 h1 11) (fun t108 _ =>
 vG (loadAt 3 t108) (fun t109 _ =>
 vG (fieldAt 84 h1 12) (fun t110 _ =>
 vG (loadAt 2 t110) (fun t111 _ =>
 vG (fieldAt 84 h1 13) (fun t112 _ =>
 vG (loadAt 3 t112) (fun t113 _ =>
 vG (fieldAt 84 h1 14) (fun t115 _ =>
 vG (loadAt 9 t115) (fun t116 _ =>
 vG (len_ #[9] 3 #[t116]) (fun t117 _ =>
 vG (vk .leq 3 117 .i64 64 t117) (fun t118 _ =>
 vJ t50 true (vC 149 #[t54]) (fun t55 H59=>vG (loadAt 9 t115) (fun u _=>u=t116) H59/\vG (loadAt 3 t112) (fun u _=>u=t113) H59/\vG (loadAt 2 t110) (fun u _=>u=t111) H59/\vG (loadAt 3 t108) (fun u _=>u=t109) H59/\vG (loadAt 3 t104) (fun u _=>u=t105) H59/\vG (loadAt 2 t102) (fun u _=>u=t103) H59/\vG (loadAt 3 t100) (fun u _=>u=t101) H59/\vG (loadAt 2 t86) (fun u _=>u=t87) H59/\vG (loadAt 169 place4) (fun u _=>u=t85) H59/\vG (loadAt 3 t77) (fun u _=>u=t78) H59/\vG (loadAt 3 t58) (fun u _=>u=t59) H59/\vJ t50 true (vG (loadAt 3 t52)) (fun u _=>u=t53) H59 /\
 vJ t50 true (vG (vt .geq 2 53 55 t53 t55)) (fun t56 _ =>
 vG (pickS t50 t56 (.bool false)) (fun t57 _ =>
 vJ t60 true (vG (fieldAt 84 h1 3)) (fun t62 _ =>
 vJ t60 true (vG (loadAt 2 t62)) (fun t63 _ =>
 vJ t60 true (vG (vk .eql 2 63 .i64 0 t63)) (fun t64 _ =>
 vG (pickS t60 t64 (.bool false)) (fun t65 _ =>
 vJ t65 false (vG (fieldAt 84 h1 4)) (fun t67 _ =>
 vJ t65 false (vG (loadAt 3 t67)) (fun t68 _ =>
 vJ t65 false (vG (vk .gtr 3 68 .i64 0 t68)) (fun t69 _ =>
 vJ t65 false (vV t69) (fun t70 _ =>
 vJ t70 true (vG (loadAt 169 place4)) (fun t71 _ =>
 vJ t70 true (vG (fieldAt 84 h1 3)) (fun t72 _ =>
 vJ t70 true (vG (loadAt 2 t72)) (fun t73 _ =>
 Join1 (fun k_35 H71=>guardP t70 true (InvokeH Tryz.prog t71 #[t73] H71 k_35 ⟨⟩) (k_35 undef H71) ⟨⟩ ⟨⟩) (fun t74 H72=>vG (loadAt 9 t115) (fun u _=>u=t116) H72/\vG (loadAt 3 t112) (fun u _=>u=t113) H72/\vG (loadAt 2 t110) (fun u _=>u=t111) H72/\vG (loadAt 3 t108) (fun u _=>u=t109) H72/\vG (loadAt 3 t104) (fun u _=>u=t105) H72/\vG (loadAt 2 t102) (fun u _=>u=t103) H72/\vG (loadAt 3 t100) (fun u _=>u=t101) H72/\vG (loadAt 2 t86) (fun u _=>u=t87) H72/\vG (loadAt 169 place4) (fun u _=>u=t85) H72/\vG (loadAt 3 t77) (fun u _=>u=t78) H72/\vJ t50 true (vG (loadAt 3 t52)) (fun u _=>u=t53) H72 /\
 vJ t65 false (vG (pickS t70 t74 (.bool false))) (fun t75 _ =>
 vG (pickS t65 (.bool true) t75) (fun t76 _ =>
 vJ t79 true (vG (fieldAt 84 h1 5)) (fun t81 _ =>
 vJ t79 true (vG (loadAt 3 t81)) (fun t82 _ =>
 vJ t79 true (vG (vk .leq 3 82 .i64 6 t82)) (fun t83 _ =>
 vG (pickS t79 t83 (.bool false)) (fun t84 _ =>
 InvokeH Tryz.prog t85 #[t87] H72 (fun t88 H77=>vJ t79 true (vG (loadAt 3 t81)) (fun u _=>u=t82) H77/\vG (loadAt 9 t115) (fun u _=>u=t116) H77/\vG (loadAt 3 t112) (fun u _=>u=t113) H77/\vG (loadAt 2 t110) (fun u _=>u=t111) H77/\vG (loadAt 3 t108) (fun u _=>u=t109) H77/\vG (loadAt 3 t104) (fun u _=>u=t105) H77/\vG (loadAt 2 t102) (fun u _=>u=t103) H77/\vG (loadAt 3 t100) (fun u _=>u=t101) H77/\vJ t50 true (vG (loadAt 3 t52)) (fun u _=>u=t53) H77 /\
 vJ t88 true (vG (fieldAt 84 h1 7)) (fun t90 _ =>
 vJ t88 true (vG (loadAt 3 t90)) (fun t91 _ =>
 vJ t88 true (vG (vk .geq 3 91 .i64 1 t91)) (fun t92 _ =>
 vG (pickS t88 t92 (.bool false)) (fun t93 _ =>
 vJ t93 true (vG (fieldAt 84 h1 7)) (fun t95 _ =>
 vJ t93 true (vG (loadAt 3 t95)) (fun t96 _ =>
 vJ t93 true (vG (vk .leq 3 96 .i64 65536 t96)) (fun t97 _ =>
 vG (pickS t93 t97 (.bool false)) (fun t98 _ =>
 InvokeH Tryz.prog t42 #[t101,(.int .i64 64),t103,t105] H77 (fun t106 H84=>vJ t93 true (vG (loadAt 3 t95)) (fun u _=>u=t96) H84/\vJ t79 true (vG (loadAt 3 t81)) (fun u _=>u=t82) H84/\vG (loadAt 9 t115) (fun u _=>u=t116) H84/\vG (loadAt 3 t112) (fun u _=>u=t113) H84/\vG (loadAt 2 t110) (fun u _=>u=t111) H84/\vG (loadAt 3 t108) (fun u _=>u=t109) H84/\vJ t50 true (vG (loadAt 3 t52)) (fun u _=>u=t53) H84 /\
 InvokeH Tryz.prog t42 #[t109,(.int .i64 64),t111,t113] H84 (fun t114 H85=>vJ t93 true (vG (loadAt 3 t95)) (fun u _=>u=t96) H85/\vJ t79 true (vG (loadAt 3 t81)) (fun u _=>u=t82) H85/\vG (loadAt 9 t115) (fun u _=>u=t116) H85/\vJ t50 true (vG (loadAt 3 t52)) (fun u _=>u=t53) H85 /\
 vJ t118 true (vG (fieldAt 84 h1 14)) (fun t120 _ =>
 vJ t118 true (vG (loadAt 9 t120)) (fun t121 _ =>
 vJ t118 true (vC 150 #[t121,(str [0])]) (fun t122 H89=>vJ t93 true (vG (loadAt 3 t95)) (fun u _=>u=t96) H89/\vJ t79 true (vG (loadAt 3 t81)) (fun u _=>u=t82) H89/\vJ t50 true (vG (loadAt 3 t52)) (fun u _=>u=t53) H89 /\
 vJ t118 true (vG (Op.unary .not t122)) (fun t123 _ =>
 vG (pickS t118 t123 (.bool false)) (fun t124 _ =>
 vF (buildSlice 225 7 #[(0,t57),(1,t76),(2,t84),(3,t98),(4,t106),(5,t114),(6,t124)]) (fun t125 H91 =>
 vG (len_ #[225] 3 #[t125]) (fun t126 _ =>
 JoinN 1 (fun (k_50:VP) H92 =>
 LoopC 2 (fun (X:Value->VP)=>fun ok6 t127 H93 =>
 vF (vt .lss 3 127 126 t127 t126) (fun t128 H94 =>
 vD t128 (
 vF (indexAt 225 t125 t127) (fun t129 H95 =>
 vF (loadAt 4 t129) (fun t130 H96 =>
 vF (Op.unary .not t130) (fun t132 H97 =>
 vD t132 (
 k_50 (.bool false) H97) (
 vF (vk .add 3 127 .i64 1 t127) (fun t133 H98 =>
 X ok6 t133 H98) H97)) H96) H95) H94) (
 k_50 ok6 H94)) H93) [(.bool true),(.int .i64 0)] H92 ⟨⟩)
 (fun ok6_1 H99 =>
 k_16 ok6_1 H99) H91 ⟨⟩ ⟨⟩) #[]) H89) #[]) #[]) H85) H85) #[]) ⟨⟩) ⟨⟩) #[]) #[]) H77) #[]) #[]) #[]) H77) #[]) ⟨⟩) #[]) #[]) H72) #[]) #[]) #[]) H59 ⟨⟩ ⟨⟩) H59) #[]) H59) #[]) #[]) H59) #[]) #[]) #[]) H59) #[]) #[]) #[]) H51) #[]) #[]) H51) #[]) H51) #[]) H51) #[]) H51) #[]) H51) #[]) H51) #[]) H51) #[]) H51) #[]) H51) #[]) H51) #[]) #[]) H51) #[]) H51) H51) #[]) #[]) #[]) H51) #[]) #[]) H51) #[])
 (fun ok6_2 H100 =>
 vF (Op.unary .not ok6_2) (fun t135 H101 =>
 vD t135 (
 R (.int .i64 2) H101) (
 R (.int .i64 0) H101)) H100) H50 ⟨⟩ ⟨⟩) H49) H48) H47) H46) H45) H44) H43) H42) H41)) H40) H38) H36) H34) H32) H31) H29) H27) H25) H24) H22) H20) H18) H17) H15) H13) H11) H10) H8) H6) H4) H3) H2) H1) h

theorem n128_calls{h0:Value}{R:VP}{h:Heap}(H:n128 h0 R h):CallsH Tryz.prog 128 #[h0] h R ⟨⟩ :=
 callsH_of_eq Tryz.follow (.n none .l (.n none (.n none .l (.n none .l (.n none .l (.n none .l (.n none .l (.n none .l (.n (some [7]) (.n none .l (.n (some [7]) (.n (some [7,128]) .l .l) .l)) .l))))))) .l)) Tryz.func128 kR kR kR H

def n129(h0:Value)(R:VP)(h:Heap):Prop :=
 vF (box 84 h0) (fun h1 H1 =>
 vF (fieldAt 84 h1 0) (fun t3 H2 =>
 vF (loadAt 3 t3) (fun t4 H3 =>
 vF (convert 3 44 t4) (fun t5 H4 =>
 vF (build 200 #[(0,(.int .i64 4)),(1,(.int .i64 4)),(2,t5)]) (fun t6 H5 =>
 vF (fieldAt 84 h1 1) (fun t7 H6 =>
 vF (loadAt 44 t7) (fun t8 H7 =>
 vF (build 200 #[(0,(.int .i64 8)),(1,(.int .i64 8)),(2,t8)]) (fun t9 H8 =>
 vF (fieldAt 84 h1 2) (fun t10 H9 =>
 vF (loadAt 2 t10) (fun t11 H10 =>
 vF (convert 2 44 t11) (fun t12 H11 =>
 vF (build 200 #[(0,(.int .i64 16)),(1,(.int .i64 8)),(2,t12)]) (fun t13 H12 =>
 vF (fieldAt 84 h1 3) (fun t14 H13 =>
 vF (loadAt 2 t14) (fun t15 H14 =>
 vF (convert 2 44 t15) (fun t16 H15 =>
 vF (build 200 #[(0,(.int .i64 24)),(1,(.int .i64 8)),(2,t16)]) (fun t17 H16 =>
 vF (fieldAt 84 h1 4) (fun t18 H17 =>
 vF (loadAt 3 t18) (fun t19 H18 =>
 vF (convert 3 44 t19) (fun t20 H19 =>
 vF (build 200 #[(0,(.int .i64 32)),(1,(.int .i64 4)),(2,t20)]) (fun t21 H20 =>
 vF (fieldAt 84 h1 5) (fun t22 H21 =>
 vF (loadAt 3 t22) (fun t23 H22 =>
 vF (convert 3 44 t23) (fun t24 H23 =>
 vF (build 200 #[(0,(.int .i64 36)),(1,(.int .i64 4)),(2,t24)]) (fun t25 H24 =>
 vF (fieldAt 84 h1 6) (fun t26 H25 =>
 vF (loadAt 2 t26) (fun t27 H26 =>
 vF (convert 2 44 t27) (fun t28 H27 =>
 vF (build 200 #[(0,(.int .i64 40)),(1,(.int .i64 8)),(2,t28)]) (fun t29 H28 =>
 vF (fieldAt 84 h1 7) (fun t30 H29 =>
 vF (loadAt 3 t30) (fun t31 H30 =>
 vF (convert 3 44 t31) (fun t32 H31 =>
 vF (build 200 #[(0,(.int .i64 48)),(1,(.int .i64 4)),(2,t32)]) (fun t33 H32 =>
 vF (fieldAt 84 h1 8) (fun t34 H33 =>
 vF (loadAt 3 t34) (fun t35 H34 =>
 vF (convert 3 44 t35) (fun t36 H35 =>
 vF (build 200 #[(0,(.int .i64 52)),(1,(.int .i64 4)),(2,t36)]) (fun t37 H36 =>
 vF (fieldAt 84 h1 9) (fun t38 H37 =>
 vF (loadAt 2 t38) (fun t39 H38 =>
 vF (convert 2 44 t39) (fun t40 H39 =>
 vF (build 200 #[(0,(.int .i64 56)),(1,(.int .i64 8)),(2,t40)]) (fun t41 H40 =>
 vF (fieldAt 84 h1 10) (fun t42 H41 =>
 vF (loadAt 3 t42) (fun t43 H42 =>
 vF (convert 3 44 t43) (fun t44 H43 =>
 vF (build 200 #[(0,(.int .i64 64)),(1,(.int .i64 4)),(2,t44)]) (fun t45 H44 =>
 vF (fieldAt 84 h1 11) (fun t46 H45 =>
 vF (loadAt 3 t46) (fun t47 H46 =>
 vF (convert 3 44 t47) (fun t48 H47 =>
 vF (build 200 #[(0,(.int .i64 68)),(1,(.int .i64 4)),(2,t48)]) (fun t49 H48 =>
 vF (fieldAt 84 h1 12) (fun t50 H49 =>
 vF (loadAt 2 t50) (fun t51 H50 =>
 vF (convert 2 44 t51) (fun t52 H51 =>
 vF (build 200 #[(0,(.int .i64 72)),(1,(.int .i64 8)),(2,t52)]) (fun t53 H52 =>
 vF (fieldAt 84 h1 13) (fun t54 H53 =>
 vF (loadAt 3 t54) (fun t55 H54 =>
 vF (convert 3 44 t55) (fun t56 H55 =>
 vF (build 200 #[(0,(.int .i64 80)),(1,(.int .i64 4)),(2,t56)]) (fun t57 H56 =>
 vF (buildSlice 197 14 #[(0,t6),(1,t9),(2,t13),(3,t17),(4,t21),(5,t25),(6,t29),(7,t33),(8,t37),(9,t41),(10,t45),(11,t49),(12,t53),(13,t57)]) (fun t58 H57 =>
 R t58 H57) H56) H55) H54) H53) H52) H51) H50) H49) H48) H47) H46) H45) H44) H43) H42) H41) H40) H39) H38) H37) H36) H35) H34) H33) H32) H31) H30) H29) H28) H27) H26) H25) H24) H23) H22) H21) H20) H19) H18) H17) H16) H15) H14) H13) H12) H11) H10) H9) H8) H7) H6) H5) H4) H3) H2) H1) h

theorem n129_calls{h0:Value}{R:VP}{h:Heap}(H:n129 h0 R h):CallsH Tryz.prog 129 #[h0] h R ⟨⟩ :=
 callsH_of_eq Tryz.follow .l Tryz.func129 kR kR kR H

def n130(b0 at1 most2 s3:Value)(R:VP)(h:Heap):Prop :=
 vC 126 #[b0,at1,most2] (fun t14 H1 =>
 vF (vk .neq 31 15 .i64 0 t14) (fun t16 H2 =>
 vD t16 (
 R t14 H2) (
 vF (len_ #[9] 3 #[s3]) (fun t19 H3 =>
 vF (vt .gtr 3 19 20 t19 most2) (fun t21 H4 =>
 vD t21 (
 R (.int .i64 3) H4) (
 vF (len_ #[9] 3 #[s3]) (fun t25 H5 =>
 vF (convert 3 44 t25) (fun t26 H6 =>
 vC 101 #[b0,at1,(.int .i64 4),t26] (fun t27 H7 =>
 vF (vk .add 3 29 .i64 4 at1) (fun t30 H8 =>
 vF (vk .add 3 31 .i64 4 at1) (fun t32 H9 =>
 vF (vt .add 3 32 33 t32 most2) (fun t34 H10 =>
 vF (sliceAt 52 b0 (some t30) (some t34) none) (fun t35 H11 =>
 vF (clear_ #[52] 0 #[t35]) (fun _ H12 =>
 vF (copy_ #[52,9] 3 #[t35,s3]) (fun t39 H13 =>
 R (.int .i64 0) H13) H12) H11) H10) H9) H8) H7) H6) H5) H4)) H3) H2)) H1) h

theorem n130_calls{b0 at1 most2 s3:Value}{R:VP}{h:Heap}(H:n130 b0 at1 most2 s3 R h):CallsH Tryz.prog 130 #[b0,at1,most2,s3] h R ⟨⟩ :=
 callsH_of_eq Tryz.follow .l Tryz.func130 kR kR kR H

def n131(b0 order1:Value)(R:VP)(h:Heap):Prop :=
 vC 98 #[order1] (fun t8 H1 =>
 vF (vk .eql 3 9 .i64 0 t8) (fun t10 H2 =>
 vD t10 (
 R (.tuple #[(.int .i64 0),(.int .i64 2)]) H2) (
 vF (len_ #[52] 3 #[b0]) (fun t12 H3 =>
 vF (binS .mul 3 (.const (.int .i64 8)) (.tmp 12) (.int .i64 8) t12) (fun t13 H4 =>
 vF (vt .quo 3 13 14 t13 t8) (fun t15 H5 =>
 R (.tuple #[t15,(.int .i64 0)]) H5) H4) H3) H2)) H1) h

theorem n131_calls{b0 order1:Value}{R:VP}{h:Heap}(H:n131 b0 order1 R h):CallsH Tryz.prog 131 #[b0,order1] h R ⟨⟩ :=
 callsH_of_eq Tryz.follow .l Tryz.func131 kR kR kR H

def n132(s0 seq1:Value)(R:VP)(h:Heap):Prop :=
 vF (box 47 s0) (fun s2 H1 =>
 JoinN 1 (fun (k:VP) H2 =>
 JoinN 1 (fun (k_1:VP) H3 =>
 RangeC Tryz.prog none seq1 1 (.tuple #[]) (fun l args bg Nb Jb H4 =>
 bg (fun H5 =>
 vF (loadAt 47 s2) (fun t8 H6 =>
 vF (buildSlice 47 1 #[(0,(getV args 0))]) (fun t10 H7 =>
 vF (append_ #[47,47] 47 #[t8,t10]) (fun t11 H8 =>
 vF (storeS 47 s2 t11) (fun _ H9 =>
 Nb H9) H8) H7) H6) H5) H4)
 (fun D H10 =>
 k_1 D H10)
 (fun D_1 H11 =>
 RetD D_1 H11 (fun H12 =>
 R (.slice none 0 0) H12) ⟨⟩)
 (fun id D_2 H13=>bif Nat.beq id 0 then (k_1 D_2 H13) else False) H3 ⟨⟩ ⟨⟩ ⟨⟩ ⟨⟩)
 (fun D_3 H14 =>
 k D_3 H14) H2 ⟨⟩ ⟨⟩)
 (fun D_4 H15 =>
 vF (loadAt 47 s2) (fun t12 H16 =>
 RetD D_4 H16 (fun H17 =>
 R t12 H17) ⟨⟩) H15) H1 ⟨⟩ ⟨⟩) h

theorem n132_calls{s0 seq1:Value}{R:VP}{h:Heap}(H:n132 s0 seq1 R h):CallsH Tryz.prog 132 #[s0,seq1] h R ⟨⟩ :=
 callsH_of_eq Tryz.follow (.n none .l (.n (some [0]) (.n none .l (.n (some [0]) .l .l)) .l)) Tryz.func132 kR kR kR H

def n133(data0 a1 b2 limit3:Value)(R:VP)(h:Heap):Prop :=
 LoopC 5 (fun (X:Value->Value->Value->Value->VP)=>fun a1_1 b2_1 limit3_1 wasBalanced8 wasPartitioned9 H1 =>
 JoinN 5 (fun (k:Value->Value->Value->Value->VP) H2 =>
 vF (vt .sub 3 19 20 b2_1 a1_1) (fun t21 H3 =>
 vF (vk .leq 3 22 .i64 12 t21) (fun t23 H4 =>
 vD t23 (
 vC 151 #[data0,a1_1,b2_1] (fun t27 H5 =>
 R (.tuple #[]) H5) H4) (
 vF (vk .eql 3 28 .i64 0 limit3_1) (fun t29 H6 =>
 vD t29 (
 vC 152 #[data0,a1_1,b2_1] (fun t33 H7 =>
 R (.tuple #[]) H7) H6) (
 JoinN 1 (fun (k_1:VP) H8 =>
 vF (Op.unary .not wasBalanced8) (fun t35 H9 =>
 vD t35 (
 vC 153 #[data0,a1_1,b2_1] (fun t39 H10 =>
 vF (vk .sub 3 40 .i64 1 limit3_1) (fun t41 H11 =>
 k_1 t41 H11) H10) H9) (
 k_1 limit3_1 H9)) H8)
 (fun limit3_2 H12 =>
 vC 154 #[data0,a1_1,b2_1] (fun t46 H13 =>
 vF (extract t46 0) (fun t47 H14 =>
 vF (extract t46 1) (fun t48 H15 =>
 JoinN 2 (fun (k_2:Value->VP) H16 =>
 vF (vk .eql 227 49 .i64 2 t48) (fun t50 H17 =>
 vD t50 (
 vC 155 #[data0,a1_1,b2_1] (fun t54 H18 =>
 vF (vk .sub 3 55 .i64 1 b2_1) (fun t56 H19 =>
 vF (vt .sub 3 57 58 t47 a1_1) (fun t59 H20 =>
 vF (vt .sub 3 56 59 t56 t59) (fun t60 H21 =>
 k_2 t60 (.int .i64 1) H21) H20) H19) H18) H17) (
 k_2 t47 t48 H17)) H16)
 (fun pivot11 hint12 H22 =>
 JoinN 0 (fun (k_3:Heap->Prop) H23 =>
 vJ wasBalanced8 true (vV wasPartitioned9) (fun t63 H25 =>
 vF (pickS wasBalanced8 t63 (.bool false)) (fun t64 H26 =>
 vJ t64 true (vV hint12) (fun t66 H28 =>
 vJ t64 true (vF (vk .eql 227 66 .i64 1 t66)) (fun t67 H30 =>
 vF (pickS t64 t67 (.bool false)) (fun t68 H31 =>
 vD t68 (
 vC 156 #[data0,a1_1,b2_1] (fun t72 H32 =>
 vD t72 (
 R (.tuple #[]) H32) (
 k_3 H32)) H31) (
 k_3 H31)) H30) H28) H26) H25) H23)
 (fun H33 =>
 vG (vk .gtr 3 73 .i64 0 a1_1) (fun t74 _ =>
 vJ t74 true (vV data0) (fun t76 _ =>
 vJ t74 true (vV a1_1) (fun t77 _ =>
 vJ t74 true (vG (vk .sub 3 77 .i64 1 t77)) (fun t78 _ =>
 vJ t74 true (vG (indexAt 47 t76 t78)) (fun t79 _ =>
 vJ t74 true (vG (loadAt 2 t79)) (fun t80 _ =>
 vJ t74 true (vV data0) (fun t81 _ =>
 vJ t74 true (vV pivot11) (fun t82 _ =>
 vJ t74 true (vG (indexAt 47 t81 t82)) (fun t83 _ =>
 vJ t74 true (vG (loadAt 2 t83)) (fun t84 _ =>
 vJ t74 true (vC 157 #[t80,t84]) (fun t85 H44 =>
 vJ t74 true (vG (Op.unary .not t85)) (fun t86 _ =>
 vG (pickS t74 t86 (.bool false)) (fun t87 _ =>
 vD t87 (
 vC 158 #[data0,a1_1,b2_1,pivot11] (fun t92 H46 =>
 k t92 b2_1 limit3_2 wasBalanced8 wasPartitioned9 H46) H44) (
 vC 159 #[data0,a1_1,b2_1,pivot11] (fun t99 H47 =>
 vF (extract t99 0) (fun t100 H48 =>
 vF (extract t99 1) (fun t101 H49 =>
 vF (vt .sub 3 103 104 t100 a1_1) (fun t105 H50 =>
 vF (vt .sub 3 106 107 b2_1 t100) (fun t108 H51 =>
 vF (vk .quo 3 109 .i64 8 t21) (fun t110 H52 =>
 vF (vt .lss 3 111 112 t105 t108) (fun t113 H53 =>
 vD t113 (
 vF (vt .geq 3 114 115 t105 t110) (fun t116 H54 =>
 vC 133 #[data0,a1_1,t100,limit3_2] (fun t121 H55 =>
 vF (vk .add 3 122 .i64 1 t100) (fun t123 H56 =>
 k t123 b2_1 limit3_2 t116 t101 H56) H55) H54) H53) (
 vF (vt .geq 3 124 125 t108 t110) (fun t126 H57 =>
 vF (vk .add 3 128 .i64 1 t100) (fun t129 H58 =>
 vC 133 #[data0,t129,b2_1,limit3_2] (fun t132 H59 =>
 k a1_1 t100 limit3_2 t126 t101 H59) H58) H57) H53)) H52) H51) H50) H49) H48) H47) H44)) #[]) #[]) H33) H33) #[]) #[]) #[]) H33) #[]) #[]) #[]) #[]) #[]) H22 ⟨⟩ ⟨⟩) H15 ⟨⟩ ⟨⟩) H14) H13) H12) H6 ⟨⟩ ⟨⟩)) H4)) H3) H2)
 (fun a1_2 b2_2 limit3_3 wasBalanced8_1 wasPartitioned9_1 H60 =>
 X a1_2 b2_2 limit3_3 wasBalanced8_1 wasPartitioned9_1 H60) H1 ⟨⟩ ⟨⟩) [a1,b2,limit3,(.bool true),(.bool true)] h ⟨⟩

theorem n133_calls{data0 a1 b2 limit3:Value}{R:VP}{h:Heap}(H:n133 data0 a1 b2 limit3 R h):CallsH Tryz.prog 133 #[data0,a1,b2,limit3] h R ⟨⟩ :=
 callsH_of_eq Tryz.follow (.n none .l (.n none .l (.n none (.n (some [2,3,4,9,10]) (.n (some [2,3,4,9,10]) (.n none .l (.n none .l (.n none .l (.n (some [4]) .l (.n none .l (.n (some [12,13]) .l (.n (some []) .l .l))))))) .l) .l) .l))) Tryz.func133 kR kR kR H

def n134(x0:Value)(R:VP)(h:Heap):Prop :=
 vD (.bool false) (
 vF (convert 192 236 x0) (fun t4 H1 =>
 vC 160 #[t4] (fun t5 H2 =>
 R t5 H2) H1) h) (
 vC 161 #[x0] (fun t7 H3 =>
 R t7 H3) h)

theorem n134_calls{x0:Value}{R:VP}{h:Heap}(H:n134 x0 R h):CallsH Tryz.prog 134 #[x0] h R ⟨⟩ :=
 callsH_of_eq Tryz.follow .l Tryz.func134 kR kR kR H

def n135(seq0:Value)(R:VP)(h:Heap):Prop :=
 vC 162 #[(.slice none 0 0),seq0] (fun t4 H1 =>
 R t4 H1) h

theorem n135_calls{seq0:Value}{R:VP}{h:Heap}(H:n135 seq0 R h):CallsH Tryz.prog 135 #[seq0] h R ⟨⟩ :=
 callsH_of_eq Tryz.follow .l Tryz.func135 kR kR kR H

def n136(x0:Value)(R:VP)(h:Heap):Prop :=
 vF (len_ #[120] 3 #[x0]) (fun t4 H1 =>
 vF (convert 3 192 t4) (fun t8 H2 =>
 vC 134 #[t8] (fun t9 H3 =>
 vC 163 #[x0,(.int .i64 0),t4,t9] (fun t10 H4 =>
 R (.tuple #[]) H4) H3) H2) H1) h

theorem n136_calls{x0:Value}{R:VP}{h:Heap}(H:n136 x0 R h):CallsH Tryz.prog 136 #[x0] h R ⟨⟩ :=
 callsH_of_eq Tryz.follow .l Tryz.func136 kR kR kR H

def n137(yield0 t1:Value)(R:VP)(h:Heap):Prop :=
 vF (loadAt 142 t1) (fun t4 H1 =>
 vF (range 142 t4) (fun t5 H2 =>
 LoopC 0 (fun (X:Heap->Prop)=>fun H3 =>
 vF (next t5 false 0) (fun t6 H4 =>
 vF (extract t6 0) (fun t7 H5 =>
 vD t7 (
 vF (entry t5) (fun t8 H6 =>
 vF (extract t8 0) (fun t9 H7 =>
 InvokeH Tryz.prog yield0 #[t9] H7 (fun t12 H8 =>
 vF (Op.unary .not t12) (fun t13 H9 =>
 vD t13 (
 R (.tuple #[]) H9) (
 X H9)) H8) ⟨⟩) H6) H5) (
 R (.tuple #[]) H5)) H4) H3) [] H2 ⟨⟩) H1) h

theorem n137_calls{yield0 t1:Value}{R:VP}{h:Heap}(H:n137 yield0 t1 R h):CallsH Tryz.prog 137 #[yield0,t1] h R ⟨⟩ :=
 callsH_of_eq Tryz.follow (.n none .l (.n none (.n (some []) .l .l) .l)) Tryz.func137 kR kR kR H

def n139(w0 at1 n2 how3 where4:Value)(R:VP)(h:Heap):Prop :=
 vC 164 #[w0,at1,n2] (fun t16 H1 =>
 vF (Op.unary .not t16) (fun t17 H2 =>
 vD t17 (
 vC 143 #[w0,(.int .i64 1),where4] (fun t20 H3 =>
 R (.bool false) H3) H2) (
 vC 117 #[w0] (fun t22 H4 =>
 vF (vt .quo 2 23 24 at1 t22) (fun t25 H5 =>
 LoopC 1 (fun (X:VP)=>fun k12 H6 =>
 vG (vt .quo 2 27 28 at1 t22) (fun t29 _ =>
 vC 72 #[n2,t22] (fun t32 H7 =>
 vG (vt .add 2 29 32 t29 t32) (fun t33 _ =>
 vG (vt .lss 2 26 33 k12 t33) (fun t34 _ =>
 vD t34 (
 vF (nilS w0) (fun t39 H8 =>
 vF (fieldAt 130 t39 2) (fun t40 H9 =>
 vF (loadAt 128 t40) (fun t41 H10 =>
 vF (build 183 #[(0,k12),(1,how3)]) (fun t44 H11 =>
 vF (buildSlice 128 1 #[(0,t44)]) (fun t45 H12 =>
 vF (append_ #[128,128] 128 #[t41,t45]) (fun t46 H13 =>
 vF (nilS w0) (fun t47 H14 =>
 vF (fieldAt 130 t47 2) (fun t48 H15 =>
 vF (storeS 128 t48 t46) (fun _ H16 =>
 vF (vk .add 2 35 .i64 1 k12) (fun t36 H17 =>
 X t36 H17) H16) H15) H14) H13) H12) H11) H10) H9) H8) H7) (
 R (.bool true) H7)) #[]) #[]) H6) #[]) [t25] H5 ⟨⟩) H4) H2)) H1) h

theorem n139_calls{w0 at1 n2 how3 where4:Value}{R:VP}{h:Heap}(H:n139 w0 at1 n2 how3 where4 R h):CallsH Tryz.prog 139 #[w0,at1,n2,how3,where4] h R ⟨⟩ :=
 callsH_of_eq Tryz.follow (.n none .l (.n none .l (.n none .l (.n none (.n none .l (.n none (.n (some [13]) .l .l) .l)) .l)))) Tryz.func139 kR kR kR H

def n140(w0 at1:Value)(R:VP)(h:Heap):Prop :=
 LoopC 2 (fun (X:Value->VP)=>fun x5 i6 H1 =>
 vF (vk .geq 2 7 .i64 0 i6) (fun t8 H2 =>
 vD t8 (
 vF (binS .mul 44 (.const (.int .u64 256)) (.tmp 11) (.int .u64 256) x5) (fun t12 H3 =>
 vF (nilS w0) (fun t14 H4 =>
 vF (fieldAt 130 t14 0) (fun t15 H5 =>
 vF (loadAt 52 t15) (fun t16 H6 =>
 vF (vt .add 2 17 18 at1 i6) (fun t19 H7 =>
 vF (indexAt 52 t16 t19) (fun t20 H8 =>
 vF (loadAt 5 t20) (fun t21 H9 =>
 vF (convert 5 44 t21) (fun t22 H10 =>
 vF (vt .add 44 12 22 t12 t22) (fun t23 H11 =>
 vF (vk .sub 2 9 .i64 1 i6) (fun t10 H12 =>
 X t23 t10 H12) H11) H10) H9) H8) H7) H6) H5) H4) H3) H2) (
 vF (convert 44 2 x5) (fun t25 H13 =>
 R t25 H13) H2)) H1) [(.int .u64 0),(.int .i64 7)] h ⟨⟩

theorem n140_calls{w0 at1:Value}{R:VP}{h:Heap}(H:n140 w0 at1 R h):CallsH Tryz.prog 140 #[w0,at1] h R ⟨⟩ :=
 callsH_of_eq Tryz.follow (.n none .l (.n none .l (.n none (.n none .l (.n none (.n (some [6,7]) .l .l) .l)) .l))) Tryz.func140 kR kR kR H

def n145(s0 f1:Value)(R:VP)(h:Heap):Prop :=
 vF (len_ #[67] 3 #[s0]) (fun t7 H1 =>
 LoopC 1 (fun (X:VP)=>fun t8 H2 =>
 vF (vt .lss 3 8 7 t8 t7) (fun t9 H3 =>
 vD t9 (
 vF (indexAt 67 s0 t8) (fun t14 H4 =>
 vF (loadAt 139 t14) (fun t15 H5 =>
 InvokeH Tryz.prog f1 #[t15] H5 (fun t16 H6 =>
 vD t16 (
 R t8 H6) (
 vF (vk .add 3 8 .i64 1 t8) (fun t18 H7 =>
 X t18 H7) H6)) ⟨⟩) H4) H3) (
 R (.int .i64 (-1)) H3)) H2) [(.int .i64 0)] H1 ⟨⟩) h

theorem n145_calls{s0 f1:Value}{R:VP}{h:Heap}(H:n145 s0 f1 R h):CallsH Tryz.prog 145 #[s0,f1] h R ⟨⟩ :=
 callsH_of_eq Tryz.follow (.n none .l (.n none (.n none .l (.n none (.n (some [9]) .l .l) .l)) .l)) Tryz.func145 kR kR kR H

def n147(at0 t1:Value)(R:VP)(h:Heap):Prop :=
 vF (vk .gtr 2 4 .i64 0 at0) (fun t5 H1 =>
 vJ t5 true (vV at0) (fun t7 H3 =>
 vJ t5 true (vF (vk .leq 2 7 .i64 268435456 t7)) (fun t8 H5 =>
 vF (pickS t5 t8 (.bool false)) (fun t9 H6 =>
 vJ t9 true (vV at0) (fun t11 H8 =>
 vJ t9 true (vF (loadAt 2 t1)) (fun t12 H10 =>
 vJ t9 true (vF (vt .rem 2 11 12 t11 t12)) (fun t13 H12 =>
 vJ t9 true (vF (vk .eql 2 13 .i64 0 t13)) (fun t14 H14 =>
 vF (pickS t9 t14 (.bool false)) (fun t15 H15 =>
 R t15 H15) H14) H12) H10) H8) H6) H5) H3) H1) h

theorem n147_calls{at0 t1:Value}{R:VP}{h:Heap}(H:n147 at0 t1 R h):CallsH Tryz.prog 147 #[at0,t1] h R ⟨⟩ :=
 callsH_of_eq Tryz.follow .l Tryz.func147 kR kR kR H

def n148(n0 most1 at2 long3 t4:Value)(R:VP)(h:Heap):Prop :=
 vF (vk .eql 3 10 .i64 0 n0) (fun t11 H1 =>
 vD t11 (
 vF (vk .eql 2 12 .i64 0 at2) (fun t13 H2 =>
 vJ t13 true (vV long3) (fun t15 H4 =>
 vJ t13 true (vF (vk .eql 3 15 .i64 0 t15)) (fun t16 H6 =>
 vF (pickS t13 t16 (.bool false)) (fun t17 H7 =>
 R t17 H7) H6) H4) H2) H1) (
 vF (vk .gtr 3 18 .i64 0 n0) (fun t19 H8 =>
 vJ t19 true (vV n0) (fun t21 H10 =>
 vJ t19 true (vV most1) (fun t22 H12 =>
 vJ t19 true (vF (vt .leq 3 21 22 t21 t22)) (fun t23 H14 =>
 vF (pickS t19 t23 (.bool false)) (fun t24 H15 =>
 vJ t24 true (vF (loadAt 169 t4)) (fun t26 H17 =>
 vJ t24 true (vV at2) (fun t27 H19 =>
 Join1 (fun k_7 H20=>guardP t24 true (InvokeH Tryz.prog t26 #[t27] H20 k_7 ⟨⟩) (k_7 undef H20) ⟨⟩ ⟨⟩) (fun t28 H21 =>
 vF (pickS t24 t28 (.bool false)) (fun t29 H22 =>
 vJ t29 true (vV long3) (fun t31 H24 =>
 vJ t29 true (vF (vk .geq 3 31 .i64 1 t31)) (fun t32 H26 =>
 vF (pickS t29 t32 (.bool false)) (fun t33 H27 =>
 vJ t33 true (vV long3) (fun t35 H29 =>
 vJ t33 true (vF (vk .leq 3 35 .i64 65536 t35)) (fun t36 H31 =>
 vF (pickS t33 t36 (.bool false)) (fun t37 H32 =>
 R t37 H32) H31) H29) H27) H26) H24) H22) H21) H19 ⟨⟩ ⟨⟩) H17) H15) H14) H12) H10) H8) H1)) h

theorem n148_calls{n0 most1 at2 long3 t4:Value}{R:VP}{h:Heap}(H:n148 n0 most1 at2 long3 t4 R h):CallsH Tryz.prog 148 #[n0,most1,at2,long3,t4] h R ⟨⟩ :=
 callsH_of_eq Tryz.follow .l Tryz.func148 kR kR kR H

end Go.Proofs.YtdccfkffabngjaaGreat

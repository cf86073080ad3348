/- Printed by /tmp/tools2/gen.py: the condition of each function,and that a call meets it. -/
import Derived.Test.YtcbbdnaelimpfaaGreatVcFun
import Derived.Test.YtcbbdnaelimpfaaGreatProg
import Derived.Test.YtcbbdnaelimpfaaGreatNiceA
set_option maxRecDepth 100000
set_option linter.unusedVariables false
namespace Go.Proofs.YtcbbdnaelimpfaaGreat
open Go.Vc Go.Instr Go.Builtin

def n51 (b0:Value) (R:VP) (h:Heap):Prop :=
 vF (binS .eql 33 (.tmp 3) (.const (.slice none 0 0)) b0 (.slice none 0 0)) (fun t4 h1 =>
 vD t4 (
 R (.slice none 0 0) h1) (
 vF (buildSlice 33 0 #[]) (fun t5 h2 =>
 vF (append_ #[33,33] 33 #[t5,b0]) (fun t7 h3 =>
 R t7 h3) h2) h1)) h

theorem n51_calls {b0:Value} {R:VP} {h:Heap} (H:n51 b0 R h):CallsH Tryz.prog 51 #[b0] h R ⟨⟩ :=
 callsH_of_eq Tryz.follow .l Tryz.func51 kR kR kR H

def n53 (c0 n1:Value) (R:VP) (h:Heap):Prop :=
 vF (alloc 121 true undef) (fun t4 h1 =>
 vC 41 #[c0,n1] (fun t10 h2 =>
 vF (vk .neq 29 11 .i64 0 t10) (fun t12 h3 =>
 vD t12 (
 vF (build 121 #[]) (fun t13 h4 =>
 vF (storeS 121 t4 t13) (fun _ h5 =>
 vG (loadCell 121 t4) (fun r _ =>
 R (.tuple #[r,t10]) h5) h5) h4) h3) (
 vF (nilS c0) (fun t16 h6 =>
 vF (fieldAt 93 t16 4) (fun t17 h7 =>
 vF (loadAt 88 t17) (fun t18 h8 =>
 vF (lookup 88 t18 n1 false) (fun t20 h9 =>
 vG (nilS c0) (fun t30 _ =>
 vG (fieldAt 93 t30 5) (fun t31 _ =>
 vG (loadAt 90 t31) (fun t32 _ =>
 vG (lookup 90 t32 n1 false) (fun t34 _ =>
 vF (binS .neq 94 (.tmp 21) (.const (.pointer none)) t20 (.pointer none)) (fun t22 h10=>vG (lookup 90 t32 n1 false) (fun u _=>u=t34) h10∧vG (loadAt 90 t31) (fun u _=>u=t32) h10 ∧
 vJ t22 true (vV t20) (fun t24 _ =>
 vJ t22 true (vG (nilS t24)) (fun t25 _ =>
 vJ t22 true (vG (fieldAt 99 t25 2)) (fun t26 _ =>
 vJ t22 true (vG (loadAt 4 t26)) (fun t27 _ =>
 vG (pickS t22 t27 (.bool false)) (fun t28 _ =>
 vC 82 #[c0,n1] (fun t37 h15=>vJ t22 true (vG (loadAt 4 t26)) (fun u _=>u=t27) h15∧vG (lookup 90 t32 n1 false) (fun u _=>u=t34) h15∧vG (loadAt 90 t31) (fun u _=>u=t32) h15 ∧
 vG (build 121 #[(0,t28),(1,t34),(2,t37)]) (fun t38 _ =>
 vF (storeS 121 t4 t38) (fun _ h16 =>
 vG (loadCell 121 t4) (fun r_1 _ =>
 R (.tuple #[r_1,(.int .i64 0)]) h16) h16) h15) #[]) h10) #[]) h10) #[]) #[]) #[]) h9) h9) h9) #[]) #[]) h8) h7) h6) h3)) h2) h1) h

theorem n53_calls {c0 n1:Value} {R:VP} {h:Heap} (H:n53 c0 n1 R h):CallsH Tryz.prog 53 #[c0,n1] h R ⟨⟩ :=
 callsH_of_eq Tryz.follow .l Tryz.func53 kR kR kR H

def n54 (c0:Value) (R:VP) (h:Heap):Prop :=
 vF (box 28 c0) (fun c1 h1 =>
 vF (loadAt 28 c1) (fun t4 h2 =>
 vF (nilS t4) (fun t5 h3 =>
 vF (fieldAt 93 t5 6) (fun t6 h4 =>
 vF (loadAt 91 t6) (fun t7 h5 =>
 vF (range 91 t7) (fun t8 h6 =>
 LoopC 0 (fun (X:Heap→Prop)=>fun h7 =>
 vF (next t8 false 0) (fun t9 h8 =>
 vF (extract t9 0) (fun t10 h9 =>
 vD t10 (
 vF (entry t8) (fun t11 h10 =>
 vF (extract t11 1) (fun t12 h11 =>
 vF (pure (.func (.func 95) #[] #[c1])) (fun t14 h12 =>
 vC 94 #[t12,t14] (fun t15 h13 =>
 X h13) h12) h11) h10) h9) (
 R (.tuple #[]) h9)) h8) h7) [] h6 ⟨⟩) h5) h4) h3) h2) h1) h

theorem n54_calls {c0:Value} {R:VP} {h:Heap} (H:n54 c0 R h):CallsH Tryz.prog 54 #[c0] h R ⟨⟩ :=
 callsH_of_eq Tryz.follow (.n none .l (.n none .l (.n none (.n (some []) .l .l) .l))) Tryz.func54 kR kR kR H

def n55 (s0 name1:Value) (R:VP) (h:Heap):Prop :=
 vC 58 #[name1] (fun t9 h1 =>
 vF (Op.unary .not t9) (fun t11 h2 =>
 vD t11 (
 R (.tuple #[(.int .i64 0),(.int .i64 2)]) h2) (
 LoopC 1 (fun (X:VP)=>fun i7 h3 =>
 vF (nilS s0) (fun t14 h4 =>
 vF (fieldAt 68 t14 0) (fun t15 h5 =>
 vF (loadAt 66 t15) (fun t16 h6 =>
 vF (len_ #[66] 3 #[t16]) (fun t17 h7 =>
 vF (vt .lss 3 12 17 i7 t17) (fun t18 h8 =>
 vD t18 (
 vF (nilS s0) (fun t22 h9 =>
 vF (fieldAt 68 t22 0) (fun t23 h10 =>
 vF (loadAt 66 t23) (fun t24 h11 =>
 vF (indexAt 66 t24 i7) (fun t26 h12 =>
 vF (fieldAt 129 t26 0) (fun t27 h13 =>
 vF (loadAt 9 t27) (fun t28 h14 =>
 vF (vt .eql 9 28 29 t28 name1) (fun t30 h15 =>
 vD t30 (
 R (.tuple #[i7,(.int .i64 0)]) h15) (
 vF (vk .add 3 19 .i64 1 i7) (fun t20 h16 =>
 X t20 h16) h15)) h14) h13) h12) h11) h10) h9) h8) (
 R (.tuple #[(.int .i64 0),(.int .i64 7)]) h8)) h7) h6) h5) h4) h3) [(.int .i64 0)] h2 ⟨⟩)) h1) h

theorem n55_calls {s0 name1:Value} {R:VP} {h:Heap} (H:n55 s0 name1 R h):CallsH Tryz.prog 55 #[s0,name1] h R ⟨⟩ :=
 callsH_of_eq Tryz.follow (.n none .l (.n none .l (.n none .l (.n none (.n none .l (.n none (.n (some [8]) .l .l) .l)) .l)))) Tryz.func55 kR kR kR H

def n56 (s0:Value) (R:VP) (h:Heap):Prop :=
 vF (nilS s0) (fun t6 h1 =>
 vF (fieldAt 68 t6 2) (fun t7 h2 =>
 vF (loadAt 3 t7) (fun t8 h3 =>
 vF (vk .add 3 8 .i64 1 t8) (fun t9 h4 =>
 vF (nilS s0) (fun t10 h5 =>
 vF (fieldAt 68 t10 2) (fun t11 h6 =>
 vF (storeS 3 t11 t9) (fun _ h7 =>
 vF (nilS s0) (fun t13 h8 =>
 vF (fieldAt 68 t13 1) (fun t14 h9 =>
 vF (loadAt 48 t14) (fun t15 h10 =>
 vF (len_ #[48] 3 #[t15]) (fun t16 h11 =>
 vF (vk .eql 3 16 .i64 0 t16) (fun t17 h12 =>
 vD t17 (
 R (.tuple #[(.int .i64 0),(.int .i64 0)]) h12) (
 vF (nilS s0) (fun t19 h13 =>
 vF (fieldAt 68 t19 1) (fun t20 h14 =>
 vF (loadAt 48 t20) (fun t21 h15 =>
 vF (indexAt 48 t21 (.int .i64 0)) (fun t22 h16 =>
 vF (loadAt 118 t22) (fun t23 h17 =>
 vF (alloc 118 true undef) (fun f4 h18 =>
 vF (storeS 118 f4 t23) (fun _ h19 =>
 vF (nilS s0) (fun t26 h20 =>
 vF (fieldAt 68 t26 1) (fun t27 h21 =>
 vF (loadAt 48 t27) (fun t28 h22 =>
 vF (sliceAt 48 t28 (some (.int .i64 1)) none none) (fun t29 h23 =>
 vF (nilS s0) (fun t30 h24 =>
 vF (fieldAt 68 t30 1) (fun t31 h25 =>
 vF (storeS 48 t31 t29) (fun _ h26 =>
 vF (fieldAt 118 f4 0) (fun t32 h27 =>
 vF (loadAt 116 t32) (fun t33 h28 =>
 vF (vk .eql 3 33 .i64 1 t33) (fun t35 h29 =>
 vD t35 (
 vG (fieldAt 118 f4 1) (fun t36 _ =>
 vG (loadAt 3 t36) (fun t37 _ =>
 vG (max_ #[3,3] 3 #[(.int .i64 0),t37]) (fun t38 _ =>
 R (.tuple #[(.int .i64 5),t38]) h29) #[]) h29) #[]) (
 vF (vk .eql 3 33 .i64 2 t33) (fun t40 h30 =>
 vD t40 (
 vG (fieldAt 118 f4 1) (fun t41 _ =>
 vG (loadAt 3 t41) (fun t42 _ =>
 vG (max_ #[3,3] 3 #[(.int .i64 0),t42]) (fun t43 _ =>
 R (.tuple #[(.int .i64 6),t43]) h30) #[]) h30) #[]) (
 R (.tuple #[(.int .i64 0),(.int .i64 0)]) h30)) h29)) h28) h27) h26) h25) h24) h23) h22) h21) h20) h19) h18) h17) h16) h15) h14) h13) h12)) h11) h10) h9) h8) h7) h6) h5) h4) h3) h2) h1) h

theorem n56_calls {s0:Value} {R:VP} {h:Heap} (H:n56 s0 R h):CallsH Tryz.prog 56 #[s0] h R ⟨⟩ :=
 callsH_of_eq Tryz.follow .l Tryz.func56 kR kR kR H

def n57 (n0:Value) (R:VP) (h:Heap):Prop :=
 vF (max_ #[2,2] 2 #[(.int .i64 0),n0]) (fun t4 h1 =>
 vF (makeSlice 33 t4 t4) (fun t5 h2 =>
 vF (convert 33 9 t5) (fun t6 h3 =>
 R t6 h3) h2) h1) h

theorem n57_calls {n0:Value} {R:VP} {h:Heap} (H:n57 n0 R h):CallsH Tryz.prog 57 #[n0] h R ⟨⟩ :=
 callsH_of_eq Tryz.follow .l Tryz.func57 kR kR kR H

def n58 (s0:Value) (R:VP) (h:Heap):Prop :=
 vF (len_ #[9] 3 #[s0]) (fun t5 h1 =>
 vF (vk .lss 3 5 .i64 1 t5) (fun t6 h2 =>
 vJ t6 false (vV s0) (fun t8 h4 =>
 vJ t6 false (vF (len_ #[9] 3 #[t8])) (fun t9 h6 =>
 vJ t6 false (vF (vk .gtr 3 9 .i64 64 t9)) (fun t10 h8 =>
 vF (pickS t6 (.bool true) t10) (fun t11 h9 =>
 vD t11 (
 R (.bool false) h9) (
 LoopC 1 (fun (X:VP)=>fun i3 h10 =>
 vF (len_ #[9] 3 #[s0]) (fun t14 h11 =>
 vF (vt .lss 3 12 14 i3 t14) (fun t15 h12 =>
 vD t15 (
 vF (index 9 s0 i3) (fun t20 h13 =>
 vF (vk .eql 5 20 .u8 0 t20) (fun t21 h14 =>
 vD t21 (
 R (.bool false) h14) (
 vF (vk .add 3 16 .i64 1 i3) (fun t17 h15 =>
 X t17 h15) h14)) h13) h12) (
 R (.bool true) h12)) h11) h10) [(.int .i64 0)] h9 ⟨⟩)) h8) h6) h4) h2) h1) h

theorem n58_calls {s0:Value} {R:VP} {h:Heap} (H:n58 s0 R h):CallsH Tryz.prog 58 #[s0] h R ⟨⟩ :=
 callsH_of_eq Tryz.follow (.n none .l (.n none .l (.n none (.n none .l (.n none (.n (some [4]) .l .l) .l)) .l))) Tryz.func58 kR kR kR H

def n59 (s0 name1 at2 n3:Value) (R:VP) (h:Heap):Prop :=
 vC 55 #[s0,name1] (fun t16 h1 =>
 vF (extract t16 0) (fun t17 h2 =>
 vF (extract t16 1) (fun t18 h3 =>
 vF (vk .neq 3 19 .i64 0 t18) (fun t20 h4 =>
 vD t20 (
 R (.tuple #[(.slice none 0 0),t18]) h4) (
 vF (nilS s0) (fun t23 h5 =>
 vF (fieldAt 68 t23 0) (fun t24 h6 =>
 vF (loadAt 66 t24) (fun t25 h7 =>
 vF (indexAt 66 t25 t17) (fun t27 h8 =>
 vF (loadAt 129 t27) (fun t28 h9 =>
 vC 72 #[t28] (fun t29 h10 =>
 vF (vk .lss 2 30 .i64 0 at2) (fun t31 h11 =>
 vJ t31 false (vV at2) (fun t33 h13 =>
 vJ t31 false (vV t29) (fun t34 h15 =>
 vJ t31 false (vF (len_ #[9] 3 #[t34])) (fun t35 h17 =>
 vJ t31 false (vF (vt .gtr 2 33 35 t33 t35)) (fun t36 h19 =>
 vF (pickS t31 (.bool true) t36) (fun t37 h20 =>
 vJ t37 false (vV n3) (fun t39 h22 =>
 vJ t37 false (vF (vk .lss 3 39 .i64 0 t39)) (fun t40 h24 =>
 vF (pickS t37 (.bool true) t40) (fun t41 h25 =>
 vD t41 (
 R (.tuple #[(.slice none 0 0),(.int .i64 4)]) h25) (
 vF (len_ #[9] 3 #[t29]) (fun t47 h26 =>
 vF (vt .sub 2 47 48 t47 at2) (fun t49 h27 =>
 vF (min_ #[2,2] 2 #[n3,t49]) (fun t50 h28 =>
 vF (vt .add 2 44 50 at2 t50) (fun t51 h29 =>
 vF (sliceAt 9 t29 (some at2) (some t51) none) (fun t52 h30 =>
 vF (convert 9 33 t52) (fun t53 h31 =>
 R (.tuple #[t53,(.int .i64 0)]) h31) h30) h29) h28) h27) h26) h25)) h24) h22) h20) h19) h17) h15) h13) h11) h10) h9) h8) h7) h6) h5) h4)) h3) h2) h1) h

theorem n59_calls {s0 name1 at2 n3:Value} {R:VP} {h:Heap} (H:n59 s0 name1 at2 n3 R h):CallsH Tryz.prog 59 #[s0,name1,at2,n3] h R ⟨⟩ :=
 callsH_of_eq Tryz.follow .l Tryz.func59 kR kR kR H

def n60 (c0 page1 at2 n3:Value) (R:VP) (h:Heap):Prop :=
 vC 96 #[c0,page1] (fun t14 h1 =>
 vF (Op.unary .not t14) (fun t15 h2 =>
 vJ t15 false (vV at2) (fun t17 h4 =>
 vJ t15 false (vF (vk .lss 3 17 .i64 0 t17)) (fun t18 h6 =>
 vF (pickS t15 (.bool true) t18) (fun t19 h7 =>
 vJ t19 false (vV n3) (fun t21 h9 =>
 vJ t19 false (vF (vk .lss 3 21 .i64 0 t21)) (fun t22 h11 =>
 vF (pickS t19 (.bool true) t22) (fun t23 h12 =>
 vJ t23 false (vV at2) (fun t25 h14 =>
 vJ t23 false (vV c0) (fun t26 h16 =>
 vJ t23 false (vF (nilS t26)) (fun t27 h18 =>
 vJ t23 false (vF (fieldAt 139 t27 2)) (fun t28 h20 =>
 vJ t23 false (vF (loadAt 3 t28)) (fun t29 h22 =>
 vJ t23 false (vF (binS .shl 3 (.const (.int .i64 1)) (.tmp 29) (.int .i64 1) t29)) (fun t30 h24 =>
 vJ t23 false (vF (vt .gtr 3 25 30 t25 t30)) (fun t31 h26 =>
 vF (pickS t23 (.bool true) t31) (fun t32 h27 =>
 vJ t32 false (vV n3) (fun t34 h29 =>
 vJ t32 false (vV c0) (fun t35 h31 =>
 vJ t32 false (vF (nilS t35)) (fun t36 h33 =>
 vJ t32 false (vF (fieldAt 139 t36 2)) (fun t37 h35 =>
 vJ t32 false (vF (loadAt 3 t37)) (fun t38 h37 =>
 vJ t32 false (vF (binS .shl 3 (.const (.int .i64 1)) (.tmp 38) (.int .i64 1) t38)) (fun t39 h39 =>
 vJ t32 false (vV at2) (fun t40 h41 =>
 vJ t32 false (vF (vt .sub 3 39 40 t39 t40)) (fun t41 h43 =>
 vJ t32 false (vF (vt .gtr 3 34 41 t34 t41)) (fun t42 h45 =>
 vF (pickS t32 (.bool true) t42) (fun t43 h46 =>
 vD t43 (
 R (.tuple #[(.slice none 0 0),(.int .i64 2)]) h46) (
 vC 97 #[c0,page1] (fun t47 h47 =>
 vF (extract t47 0) (fun t48 h48 =>
 vF (extract t47 1) (fun t49 h49 =>
 vF (vk .neq 3 50 .i64 0 t49) (fun t51 h50 =>
 vD t51 (
 R (.tuple #[(.slice none 0 0),t49]) h50) (
 vF (buildSlice 33 0 #[]) (fun t53 h51 =>
 vF (nilS c0) (fun t55 h52 =>
 vF (fieldAt 139 t55 4) (fun t56 h53 =>
 vF (loadAt 136 t56) (fun t57 h54 =>
 vF (indexAt 136 t57 t48) (fun t59 h55 =>
 vF (fieldAt 178 t59 1) (fun t60 h56 =>
 vF (loadAt 33 t60) (fun t61 h57 =>
 vF (vt .add 3 63 64 at2 n3) (fun t65 h58 =>
 vF (sliceAt 33 t61 (some at2) (some t65) none) (fun t66 h59 =>
 vF (append_ #[33,33] 33 #[t53,t66]) (fun t67 h60 =>
 R (.tuple #[t67,(.int .i64 0)]) h60) h59) h58) h57) h56) h55) h54) h53) h52) h51) h50)) h49) h48) h47) h46)) h45) h43) h41) h39) h37) h35) h33) h31) h29) h27) h26) h24) h22) h20) h18) h16) h14) h12) h11) h9) h7) h6) h4) h2) h1) h

theorem n60_calls {c0 page1 at2 n3:Value} {R:VP} {h:Heap} (H:n60 c0 page1 at2 n3 R h):CallsH Tryz.prog 60 #[c0,page1,at2,n3] h R ⟨⟩ :=
 callsH_of_eq Tryz.follow .l Tryz.func60 kR kR kR H

def n61 (c0 page1 at2 b3:Value) (R:VP) (h:Heap):Prop :=
 vC 96 #[c0,page1] (fun t13 h1 =>
 vF (Op.unary .not t13) (fun t14 h2 =>
 vJ t14 false (vV at2) (fun t16 h4 =>
 vJ t14 false (vF (vk .lss 3 16 .i64 0 t16)) (fun t17 h6 =>
 vF (pickS t14 (.bool true) t17) (fun t18 h7 =>
 vJ t18 false (vV at2) (fun t20 h9 =>
 vJ t18 false (vV c0) (fun t21 h11 =>
 vJ t18 false (vF (nilS t21)) (fun t22 h13 =>
 vJ t18 false (vF (fieldAt 139 t22 2)) (fun t23 h15 =>
 vJ t18 false (vF (loadAt 3 t23)) (fun t24 h17 =>
 vJ t18 false (vF (binS .shl 3 (.const (.int .i64 1)) (.tmp 24) (.int .i64 1) t24)) (fun t25 h19 =>
 vJ t18 false (vF (vt .gtr 3 20 25 t20 t25)) (fun t26 h21 =>
 vF (pickS t18 (.bool true) t26) (fun t27 h22 =>
 vJ t27 false (vV b3) (fun t29 h24 =>
 vJ t27 false (vF (len_ #[33] 3 #[t29])) (fun t30 h26 =>
 vJ t27 false (vV c0) (fun t31 h28 =>
 vJ t27 false (vF (nilS t31)) (fun t32 h30 =>
 vJ t27 false (vF (fieldAt 139 t32 2)) (fun t33 h32 =>
 vJ t27 false (vF (loadAt 3 t33)) (fun t34 h34 =>
 vJ t27 false (vF (binS .shl 3 (.const (.int .i64 1)) (.tmp 34) (.int .i64 1) t34)) (fun t35 h36 =>
 vJ t27 false (vV at2) (fun t36 h38 =>
 vJ t27 false (vF (vt .sub 3 35 36 t35 t36)) (fun t37 h40 =>
 vJ t27 false (vF (vt .gtr 3 30 37 t30 t37)) (fun t38 h42 =>
 vF (pickS t27 (.bool true) t38) (fun t39 h43 =>
 vD t39 (
 R (.int .i64 2) h43) (
 vC 97 #[c0,page1] (fun t43 h44 =>
 vF (extract t43 0) (fun t44 h45 =>
 vF (extract t43 1) (fun t45 h46 =>
 vF (vk .neq 3 46 .i64 0 t45) (fun t47 h47 =>
 vD t47 (
 R t45 h47) (
 vF (nilS c0) (fun t50 h48 =>
 vF (fieldAt 139 t50 4) (fun t51 h49 =>
 vF (loadAt 136 t51) (fun t52 h50 =>
 vF (indexAt 136 t52 t44) (fun t54 h51 =>
 vF (fieldAt 178 t54 1) (fun t55 h52 =>
 vF (loadAt 33 t55) (fun t56 h53 =>
 vF (sliceAt 33 t56 (some at2) none none) (fun t58 h54 =>
 vF (copy_ #[33,33] 3 #[t58,b3]) (fun t60 h55 =>
 vG (nilS c0) (fun t62 _ =>
 vG (fieldAt 139 t62 4) (fun t63 _ =>
 vG (loadAt 136 t63) (fun t64 _ =>
 vG (nilS c0) (fun t67 _ =>
 vG (fieldAt 139 t67 4) (fun t68 _ =>
 vG (loadAt 136 t68) (fun t69 _ =>
 vG (indexAt 136 t69 t44) (fun t71 _ =>
 vG (fieldAt 178 t71 2) (fun t72 _ =>
 vG (loadAt 4 t72) (fun t73 _ =>
 vJ t73 false (vV b3) (fun t75 _ =>
 vJ t73 false (vG (len_ #[33] 3 #[t75])) (fun t76 _ =>
 vJ t73 false (vG (vk .gtr 3 76 .i64 0 t76)) (fun t77 _ =>
 vG (pickS t73 (.bool true) t77) (fun t78 _ =>
 vG (indexAt 136 t64 t44) (fun t79 _ =>
 vG (fieldAt 178 t79 2) (fun t80 _ =>
 vF (storeS 4 t80 t78) (fun _ h59 =>
 R (.int .i64 0) h59) h55) #[]) #[]) #[]) #[]) #[]) #[]) h55) #[]) #[]) h55) #[]) #[]) h55) #[]) #[]) h54) h53) h52) h51) h50) h49) h48) h47)) h46) h45) h44) h43)) h42) h40) h38) h36) h34) h32) h30) h28) h26) h24) h22) h21) h19) h17) h15) h13) h11) h9) h7) h6) h4) h2) h1) h

theorem n61_calls {c0 page1 at2 b3:Value} {R:VP} {h:Heap} (H:n61 c0 page1 at2 b3 R h):CallsH Tryz.prog 61 #[c0,page1,at2,b3] h R ⟨⟩ :=
 callsH_of_eq Tryz.follow .l Tryz.func61 kR kR kR H

def n62 (c0 page1 other2:Value) (R:VP) (h:Heap):Prop :=
 vC 96 #[c0,page1] (fun t9 h1 =>
 vF (Op.unary .not t9) (fun t10 h2 =>
 vJ t10 false (vV c0) (fun t12 h4 =>
 vJ t10 false (vV other2) (fun t13 h6 =>
 vJ t10 false (vC 96 #[t12,t13]) (fun t14 h8 =>
 vJ t10 false (vF (Op.unary .not t14)) (fun t15 h10 =>
 vF (pickS t10 (.bool true) t15) (fun t16 h11 =>
 vD t16 (
 R (.int .i64 2) h11) (
 vF (vt .eql 2 17 18 page1 other2) (fun t19 h12 =>
 vJ t19 false (vV c0) (fun t21 h14 =>
 vJ t19 false (vV other2) (fun t22 h16 =>
 vJ t19 false (vV page1) (fun t23 h18 =>
 vJ t19 false (vC 98 #[t21,t22,t23,(.int .i64 60)]) (fun t24 h20 =>
 vF (pickS t19 (.bool true) t24) (fun t25 h21 =>
 vD t25 (
 R (.int .i64 240) h21) (
 JoinN 0 (fun (k_8:Heap→Prop) h22 =>
 vC 99 #[c0,other2] (fun t28 h23 =>
 vD t28 (
 vF (buildSlice 137 0 #[]) (fun t30 h24 =>
 vF (nilS c0) (fun t32 h25 =>
 vF (fieldAt 139 t32 6) (fun t33 h26 =>
 vF (loadAt 137 t33) (fun t34 h27 =>
 vF (append_ #[137,137] 137 #[t30,t34]) (fun t35 h28 =>
 vF (build 181 #[(0,page1),(1,other2)]) (fun t38 h29 =>
 vF (buildSlice 137 1 #[(0,t38)]) (fun t39 h30 =>
 vF (append_ #[137,137] 137 #[t35,t39]) (fun t40 h31 =>
 vF (nilS c0) (fun t41 h32 =>
 vF (fieldAt 139 t41 6) (fun t42 h33 =>
 vF (storeS 137 t42 t40) (fun _ h34 =>
 k_8 h34) h33) h32) h31) h30) h29) h28) h27) h26) h25) h24) h23) (
 k_8 h23)) h22)
 (fun h35 =>
 R (.int .i64 0) h35) h21 ⟨⟩ ⟨⟩)) h20) h18) h16) h14) h12) h11)) h10) h8) h6) h4) h2) h1) h

theorem n62_calls {c0 page1 other2:Value} {R:VP} {h:Heap} (H:n62 c0 page1 other2 R h):CallsH Tryz.prog 62 #[c0,page1,other2] h R ⟨⟩ :=
 callsH_of_eq Tryz.follow (.n none .l (.n none .l (.n none .l (.n (some []) .l .l)))) Tryz.func62 kR kR kR H

def n63 (c0 page1:Value) (R:VP) (h:Heap):Prop :=
 vC 96 #[c0,page1] (fun t8 h1 =>
 vF (Op.unary .not t8) (fun t9 h2 =>
 vD t9 (
 R (.int .i64 2) h2) (
 vC 100 #[c0,page1] (fun t12 h3 =>
 vF (vk .lss 3 13 .i64 0 t12) (fun t14 h4 =>
 vD t14 (
 R (.int .i64 7) h4) (
 vF (nilS c0) (fun t16 h5 =>
 vF (fieldAt 139 t16 4) (fun t17 h6 =>
 vF (loadAt 136 t17) (fun t18 h7 =>
 vF (indexAt 136 t18 t12) (fun t20 h8 =>
 vF (fieldAt 178 t20 2) (fun t21 h9 =>
 vF (loadAt 4 t21) (fun t22 h10 =>
 vF (Op.unary .not t22) (fun t23 h11 =>
 vD t23 (
 R (.int .i64 0) h11) (
 vC 101 #[c0,page1] (fun t26 h12 =>
 R t26 h12) h11)) h10) h9) h8) h7) h6) h5) h4)) h3) h2)) h1) h

theorem n63_calls {c0 page1:Value} {R:VP} {h:Heap} (H:n63 c0 page1 R h):CallsH Tryz.prog 63 #[c0,page1] h R ⟨⟩ :=
 callsH_of_eq Tryz.follow .l Tryz.func63 kR kR kR H

def n64 (c0:Value) (R:VP) (h:Heap):Prop :=
 LoopC 1 (fun (X:VP)=>fun i3 h1 =>
 vF (nilS c0) (fun t7 h2 =>
 vF (fieldAt 139 t7 4) (fun t8 h3 =>
 vF (loadAt 136 t8) (fun t9 h4 =>
 vF (len_ #[136] 3 #[t9]) (fun t10 h5 =>
 vF (vt .lss 3 5 10 i3 t10) (fun t11 h6 =>
 vD t11 (
 JoinN 0 (fun (k:Heap→Prop) h7 =>
 JoinN 0 (fun (k_1:Heap→Prop) h8 =>
 vF (nilS c0) (fun t15 h9 =>
 vF (fieldAt 139 t15 4) (fun t16 h10 =>
 vF (loadAt 136 t16) (fun t17 h11 =>
 vF (indexAt 136 t17 i3) (fun t19 h12 =>
 vF (fieldAt 178 t19 2) (fun t20 h13 =>
 vF (loadAt 4 t20) (fun t21 h14 =>
 vD t21 (
 vF (nilS c0) (fun t24 h15 =>
 vF (fieldAt 139 t24 4) (fun t25 h16 =>
 vF (loadAt 136 t25) (fun t26 h17 =>
 vF (indexAt 136 t26 i3) (fun t28 h18 =>
 vF (fieldAt 178 t28 0) (fun t29 h19 =>
 vF (loadAt 2 t29) (fun t30 h20 =>
 vC 101 #[c0,t30] (fun t31 h21 =>
 vF (vk .neq 3 32 .i64 0 t31) (fun t33 h22 =>
 vD t33 (
 R t31 h22) (
 k_1 h22)) h21) h20) h19) h18) h17) h16) h15) h14) (
 k_1 h14)) h13) h12) h11) h10) h9) h8)
 (fun h23 =>
 k h23) h7 ⟨⟩ ⟨⟩)
 (fun h24 =>
 vF (vk .add 3 12 .i64 1 i3) (fun t13 h25 =>
 X t13 h25) h24) h6 ⟨⟩ ⟨⟩) (
 vC 102 #[c0] (fun t36 h26 =>
 R t36 h26) h6)) h5) h4) h3) h2) h1) [(.int .i64 0)] h ⟨⟩

theorem n64_calls {c0:Value} {R:VP} {h:Heap} (H:n64 c0 R h):CallsH Tryz.prog 64 #[c0] h R ⟨⟩ :=
 callsH_of_eq Tryz.follow (.n none .l (.n none (.n none .l (.n none (.n (some [4]) (.n none .l (.n (some []) (.n (some []) .l .l) .l)) .l) .l)) .l)) Tryz.func64 kR kR kR H

def n65 (c0 page1:Value) (R:VP) (h:Heap):Prop :=
 vC 96 #[c0,page1] (fun t8 h1 =>
 vF (Op.unary .not t8) (fun t9 h2 =>
 vD t9 (
 R (.int .i64 2) h2) (
 vC 100 #[c0,page1] (fun t12 h3 =>
 vF (vk .lss 3 13 .i64 0 t12) (fun t14 h4 =>
 vD t14 (
 R (.int .i64 7) h4) (
 vG (nilS c0) (fun t18 _ =>
 vG (fieldAt 139 t18 4) (fun t19 _ =>
 vG (loadAt 136 t19) (fun t20 _ =>
 vG (sliceAt 136 t20 none (some t12) none) (fun t22 _ =>
 vG (nilS c0) (fun t25 _ =>
 vG (fieldAt 139 t25 4) (fun t26 _ =>
 vG (loadAt 136 t26) (fun t27 _ =>
 vG (vk .add 3 28 .i64 1 t12) (fun t29 _ =>
 vG (sliceAt 136 t27 (some t29) none none) (fun t30 _ =>
 vF (buildSlice 136 0 #[]) (fun t16 h5=>vG (loadAt 136 t26) (fun u _=>u=t27) h5∧vG (loadAt 136 t19) (fun u _=>u=t20) h5 ∧
 vF (append_ #[136,136] 136 #[t16,t22]) (fun t23 h6=>vG (loadAt 136 t26) (fun u _=>u=t27) h6 ∧
 vF (append_ #[136,136] 136 #[t23,t30]) (fun t31 h7 =>
 vG (nilS c0) (fun t32 _ =>
 vG (fieldAt 139 t32 4) (fun t33 _ =>
 vF (storeS 136 t33 t31) (fun _ h8 =>
 vC 103 #[c0,page1] (fun t36 h9 =>
 vC 104 #[c0] (fun t38 h10 =>
 R (.int .i64 0) h10) h9) h8) h7) #[]) #[]) h6) h5) h4) #[]) #[]) h4) #[]) #[]) #[]) h4) #[]) #[])) h3) h2)) h1) h

theorem n65_calls {c0 page1:Value} {R:VP} {h:Heap} (H:n65 c0 page1 R h):CallsH Tryz.prog 65 #[c0,page1] h R ⟨⟩ :=
 callsH_of_eq Tryz.follow .l Tryz.func65 kR kR kR H

def n66 (s0 name1:Value) (R:VP) (h:Heap):Prop :=
 vC 50 #[s0,name1] (fun t12 h1 =>
 vF (extract t12 0) (fun t13 h2 =>
 vF (extract t12 1) (fun t14 h3 =>
 vF (vk .neq 29 15 .i64 0 t14) (fun t16 h4 =>
 vD t16 (
 R t14 h4) (
 vC 77 #[s0] (fun t20 h5 =>
 vF (extract t20 0) (fun t21 h6 =>
 vF (extract t20 1) (fun t22 h7 =>
 vF (vk .neq 29 23 .i64 0 t21) (fun t24 h8 =>
 vD t24 (
 R t21 h8) (
 vF (nilS s0) (fun t27 h9 =>
 vF (fieldAt 156 t27 0) (fun t28 h10 =>
 vF (loadAt 153 t28) (fun t29 h11 =>
 vF (delete_ #[153,9] 0 #[t29,name1]) (fun _ h12 =>
 R (.int .i64 0) h12) h11) h10) h9) h8)) h7) h6) h5) h4)) h3) h2) h1) h

theorem n66_calls {s0 name1:Value} {R:VP} {h:Heap} (H:n66 s0 name1 R h):CallsH Tryz.prog 66 #[s0,name1] h R ⟨⟩ :=
 callsH_of_eq Tryz.follow .l Tryz.func66 kR kR kR H

def n67 (s0 name1:Value) (R:VP) (h:Heap):Prop :=
 vC 55 #[s0,name1] (fun t13 h1 =>
 vF (extract t13 0) (fun t14 h2 =>
 vF (extract t13 1) (fun t15 h3 =>
 vF (vk .neq 3 16 .i64 0 t15) (fun t17 h4 =>
 vD t17 (
 R t15 h4) (
 vC 56 #[s0] (fun t21 h5 =>
 vF (extract t21 0) (fun t22 h6 =>
 vF (extract t21 1) (fun t23 h7 =>
 vF (vk .neq 3 24 .i64 0 t22) (fun t25 h8 =>
 vD t25 (
 R t22 h8) (
 vF (nilS s0) (fun t28 h9 =>
 vF (fieldAt 68 t28 0) (fun t29 h10 =>
 vF (loadAt 66 t29) (fun t30 h11 =>
 vF (sliceAt 66 t30 none (some t14) none) (fun t32 h12 =>
 vF (append_ #[66,66] 66 #[(.slice none 0 0),t32]) (fun t33 h13 =>
 vF (nilS s0) (fun t37 h14 =>
 vF (fieldAt 68 t37 0) (fun t38 h15 =>
 vF (loadAt 66 t38) (fun t39 h16 =>
 vF (vk .add 3 40 .i64 1 t14) (fun t41 h17 =>
 vF (sliceAt 66 t39 (some t41) none none) (fun t42 h18 =>
 vF (append_ #[66,66] 66 #[t33,t42]) (fun t43 h19 =>
 vF (nilS s0) (fun t44 h20 =>
 vF (fieldAt 68 t44 0) (fun t45 h21 =>
 vF (storeS 66 t45 t43) (fun _ h22 =>
 R (.int .i64 0) h22) h21) h20) h19) h18) h17) h16) h15) h14) h13) h12) h11) h10) h9) h8)) h7) h6) h5) h4)) h3) h2) h1) h

theorem n67_calls {s0 name1:Value} {R:VP} {h:Heap} (H:n67 s0 name1 R h):CallsH Tryz.prog 67 #[s0,name1] h R ⟨⟩ :=
 callsH_of_eq Tryz.follow .l Tryz.func67 kR kR kR H

def n68 (all0 l1 leave2:Value) (R:VP) (h:Heap):Prop :=
 vF (box 136 l1) (fun l4 h1 =>
 vF (box 3 leave2) (fun leave5 h2 =>
 vF (alloc 4 true undef) (fun t6 h3 =>
 vF (binS .eql 78 (.tmp 9) (.const .nilFunc) all0 .nilFunc) (fun t10 h4 =>
 vD t10 (
 vF (storeS 4 t6 (.bool false)) (fun _ h5 =>
 RetD (.tuple #[]) h5 (fun h6 =>
 vG (loadCell 4 t6) (fun r _ =>
 R r h6) h6) ⟨⟩) h4) (
 vF (alloc 3 true undef) (fun n7 h7 =>
 vF (storeS 3 n7 (.int .i64 0)) (fun _ h8 =>
 JoinN 1 (fun (k:VP) h9 =>
 JoinN 1 (fun (k_1:VP) h10 =>
 RangeC Tryz.prog none all0 1 (.tuple #[]) (fun l args bg Nb Jb h11 =>
 bg (fun h12 =>
 vF (loadAt 3 n7) (fun t13 h13 =>
 vF (loadAt 136 l4) (fun t14 h14 =>
 vF (len_ #[136] 3 #[t14]) (fun t15 h15 =>
 vF (vt .geq 3 13 15 t13 t15) (fun t16 h16 =>
 vJ t16 false (vV (getV args 0)) (fun t18 h18 =>
 vJ t16 false (vF (loadAt 136 l4)) (fun t19 h20 =>
 vJ t16 false (vF (loadAt 3 n7)) (fun t20 h22 =>
 vJ t16 false (vF (indexAt 136 t19 t20)) (fun t21 h24 =>
 vJ t16 false (vF (fieldAt 178 t21 0)) (fun t22 h26 =>
 vJ t16 false (vF (loadAt 2 t22)) (fun t23 h28 =>
 vJ t16 false (vF (vt .neq 2 18 23 t18 t23)) (fun t24 h30 =>
 vF (pickS t16 (.bool true) t24) (fun t25 h31 =>
 vD t25 (
 vF (storeS 4 t6 (.bool false)) (fun _ h32 =>
 Jb .ret h32) h31) (
 vF (loadAt 3 n7) (fun t26 h33 =>
 vF (vk .add 3 26 .i64 1 t26) (fun t27 h34 =>
 vF (storeS 3 n7 t27) (fun _ h35 =>
 vF (loadAt 3 n7) (fun t28 h36 =>
 vF (loadAt 3 leave5) (fun t29 h37 =>
 vF (vt .eql 3 28 29 t28 t29) (fun t30 h38 =>
 vD t30 (
 vF (storeS 4 t6 (.bool true)) (fun _ h39 =>
 Jb .ret h39) h38) (
 Nb h38)) h37) h36) h35) h34) h33) h31)) h30) h28) h26) h24) h22) h20) h18) h16) h15) h14) h13) h12) h11)
 (fun D h40 =>
 k_1 D h40)
 (fun D_1 h41 =>
 RetD D_1 h41 (fun h42 =>
 vG (loadCell 4 t6) (fun r_1 _ =>
 R r_1 h42) h42) ⟨⟩)
 (fun id D_2 h43=>bif Nat.beq id 0 then (k_1 D_2 h43) else False) h10 ⟨⟩ ⟨⟩ ⟨⟩ ⟨⟩)
 (fun D_3 h44 =>
 k D_3 h44) h9 ⟨⟩ ⟨⟩)
 (fun D_4 h45 =>
 vF (loadAt 3 n7) (fun t31 h46 =>
 vF (loadAt 136 l4) (fun t32 h47 =>
 vF (len_ #[136] 3 #[t32]) (fun t33 h48 =>
 vF (vt .eql 3 31 33 t31 t33) (fun t34 h49 =>
 vF (storeS 4 t6 t34) (fun _ h50 =>
 RetD D_4 h50 (fun h51 =>
 vG (loadCell 4 t6) (fun r_2 _ =>
 R r_2 h51) h51) ⟨⟩) h49) h48) h47) h46) h45) h8 ⟨⟩ ⟨⟩) h7) h4)) h3) h2) h1) h

theorem n68_calls {all0 l1 leave2:Value} {R:VP} {h:Heap} (H:n68 all0 l1 leave2 R h):CallsH Tryz.prog 68 #[all0,l1,leave2] h R ⟨⟩ :=
 callsH_of_eq Tryz.follow (.n none .l (.n none .l (.n none .l (.n (some [0]) (.n none .l (.n (some [0]) .l .l)) .l)))) Tryz.func68 kR kR kR H

def n69 (c0 page1:Value) (R:VP) (h:Heap):Prop :=
 vF (alloc 121 true undef) (fun t4 h1 =>
 vC 96 #[c0,page1] (fun t9 h2 =>
 vF (Op.unary .not t9) (fun t10 h3 =>
 vD t10 (
 vF (build 121 #[]) (fun t11 h4 =>
 vF (storeS 121 t4 t11) (fun _ h5 =>
 vG (loadCell 121 t4) (fun r _ =>
 R (.tuple #[r,(.int .i64 2)]) h5) h5) h4) h3) (
 vC 100 #[c0,page1] (fun t14 h6 =>
 vG (vk .geq 3 15 .i64 0 t14) (fun t16 _ =>
 vJ t16 true (vV c0) (fun t18 _ =>
 vJ t16 true (vG (nilS t18)) (fun t19 _ =>
 vJ t16 true (vG (fieldAt 139 t19 4)) (fun t20 _ =>
 vJ t16 true (vG (loadAt 136 t20)) (fun t21 _ =>
 vJ t16 true (vV t14) (fun t22 _ =>
 vJ t16 true (vG (indexAt 136 t21 t22)) (fun t23 _ =>
 vJ t16 true (vG (fieldAt 178 t23 2)) (fun t24 _ =>
 vJ t16 true (vG (loadAt 4 t24)) (fun t25 _ =>
 vG (pickS t16 t25 (.bool false)) (fun t26 _ =>
 vG (nilS c0) (fun t28 _ =>
 vG (fieldAt 139 t28 5) (fun t29 _ =>
 vG (loadAt 102 t29) (fun t30 _ =>
 vC 105 #[t30,page1] (fun t32 h15=>vJ t16 true (vG (loadAt 4 t24)) (fun u _=>u=t25) h15∧vJ t16 true (vG (loadAt 136 t20)) (fun u _=>u=t21) h15 ∧
 vC 106 #[c0,page1] (fun t35 h16=>vJ t16 true (vG (loadAt 4 t24)) (fun u _=>u=t25) h16∧vJ t16 true (vG (loadAt 136 t20)) (fun u _=>u=t21) h16 ∧
 vG (build 121 #[(0,t26),(1,t32),(2,t35)]) (fun t36 _ =>
 vF (storeS 121 t4 t36) (fun _ h17 =>
 vG (loadCell 121 t4) (fun r_1 _ =>
 R (.tuple #[r_1,(.int .i64 0)]) h17) h17) h16) #[]) h15) h6) h6) #[]) #[]) #[]) h6) #[]) #[]) #[]) h6) #[]) #[]) #[]) #[]) h3)) h2) h1) h

theorem n69_calls {c0 page1:Value} {R:VP} {h:Heap} (H:n69 c0 page1 R h):CallsH Tryz.prog 69 #[c0,page1] h R ⟨⟩ :=
 callsH_of_eq Tryz.follow .l Tryz.func69 kR kR kR H

def n70 (a0 b1:Value) (R:VP) (h:Heap):Prop :=
 vF (len_ #[102] 3 #[a0]) (fun t7 h1 =>
 vF (len_ #[102] 3 #[b1]) (fun t9 h2 =>
 vF (vt .neq 3 7 9 t7 t9) (fun t10 h3 =>
 vD t10 (
 R (.bool false) h3) (
 LoopC 1 (fun (X:VP)=>fun i5 h4 =>
 vF (len_ #[102] 3 #[a0]) (fun t13 h5 =>
 vF (vt .lss 3 11 13 i5 t13) (fun t14 h6 =>
 vD t14 (
 vG (indexAt 102 a0 i5) (fun t19 _ =>
 vG (loadAt 2 t19) (fun t20 _ =>
 vG (indexAt 102 b1 i5) (fun t23 _ =>
 vG (loadAt 2 t23) (fun t24 _ =>
 vG (vt .neq 2 20 24 t20 t24) (fun t25 _ =>
 vD t25 (
 R (.bool false) h6) (
 vF (vk .add 3 15 .i64 1 i5) (fun t16 h7 =>
 X t16 h7) h6)) #[]) h6) #[]) h6) #[]) (
 R (.bool true) h6)) h5) h4) [(.int .i64 0)] h3 ⟨⟩)) h2) h1) h

theorem n70_calls {a0 b1:Value} {R:VP} {h:Heap} (H:n70 a0 b1 R h):CallsH Tryz.prog 70 #[a0,b1] h R ⟨⟩ :=
 callsH_of_eq Tryz.follow (.n none .l (.n none .l (.n none (.n none .l (.n none (.n (some [6]) .l .l) .l)) .l))) Tryz.func70 kR kR kR H

def n71 (s0:Value) (R:VP) (h:Heap):Prop :=
 vC 79 #[s0] (fun t5 h1 =>
 vD t5 (
 R (.tuple #[(.int .i64 0),(.int .i64 0)]) h1) (
 vG (nilS s0) (fun t7 _ =>
 vG (fieldAt 156 t7 2) (fun t8 _ =>
 vG (loadAt 3 t8) (fun t9 _ =>
 vG (nilS s0) (fun t11 _ =>
 vG (fieldAt 156 t11 1) (fun t12 _ =>
 vG (loadAt 48 t12) (fun t13 _ =>
 vG (len_ #[48] 3 #[t13]) (fun t14 _ =>
 R (.tuple #[t9,t14]) h1) #[]) h1) #[]) #[]) h1) #[]) #[])) h

theorem n71_calls {s0:Value} {R:VP} {h:Heap} (H:n71 s0 R h):CallsH Tryz.prog 71 #[s0] h R ⟨⟩ :=
 callsH_of_eq Tryz.follow .l Tryz.func71 kR kR kR H

def n72 (f0:Value) (R:VP) (h:Heap):Prop :=
 vF (box 129 f0) (fun f1 h1 =>
 vF (fieldAt 129 f1 1) (fun t5 h2 =>
 vF (loadAt 9 t5) (fun t6 h3 =>
 LoopC 2 (fun (X:Value→VP)=>fun b3 k4 h4 =>
 vF (fieldAt 129 f1 2) (fun t8 h5 =>
 vF (loadAt 127 t8) (fun t9 h6 =>
 vF (len_ #[127] 3 #[t9]) (fun t10 h7 =>
 vF (vt .lss 3 7 10 k4 t10) (fun t11 h8 =>
 vD t11 (
 vG (fieldAt 129 f1 2) (fun t15 _ =>
 vG (loadAt 127 t15) (fun t16 _ =>
 vG (indexAt 127 t16 k4) (fun t18 _ =>
 vG (fieldAt 132 t18 0) (fun t19 _ =>
 vG (loadAt 2 t19) (fun t20 _ =>
 vG (fieldAt 129 f1 2) (fun t21 _ =>
 vG (loadAt 127 t21) (fun t22 _ =>
 vG (indexAt 127 t22 k4) (fun t24 _ =>
 vG (fieldAt 132 t24 1) (fun t25 _ =>
 vG (loadAt 9 t25) (fun t26 _ =>
 vC 107 #[b3,t20,t26] (fun t27 h9 =>
 vF (vk .add 3 12 .i64 1 k4) (fun t13 h10 =>
 X t27 t13 h10) h9) h8) h8) #[]) #[]) h8) #[]) h8) #[]) #[]) h8) #[]) (
 R b3 h8)) h7) h6) h5) h4) [t6,(.int .i64 0)] h3 ⟨⟩) h2) h1) h

theorem n72_calls {f0:Value} {R:VP} {h:Heap} (H:n72 f0 R h):CallsH Tryz.prog 72 #[f0] h R ⟨⟩ :=
 callsH_of_eq Tryz.follow (.n none .l (.n none .l (.n none (.n none .l (.n none (.n (some [4,5]) .l .l) .l)) .l))) Tryz.func72 kR kR kR H

def n73 (s0:Value) (R:VP) (h:Heap):Prop :=
 vF (box 102 s0) (fun s1 h1 =>
 vF (pure (.func (.func 108) #[] #[s1])) (fun t3 h2 =>
 R t3 h2) h1) h

theorem n73_calls {s0:Value} {R:VP} {h:Heap} (H:n73 s0 R h):CallsH Tryz.prog 73 #[s0] h R ⟨⟩ :=
 callsH_of_eq Tryz.follow .l Tryz.func73 kR kR kR H

def n74 (fates0:Value) (R:VP) (h:Heap):Prop :=
 vC 109 #[fates0,(.func (.func 110) #[] #[])] (fun t4 h1 =>
 vF (Op.unary .not t4) (fun t5 h2 =>
 R t5 h2) h1) h

theorem n74_calls {fates0:Value} {R:VP} {h:Heap} (H:n74 fates0 R h):CallsH Tryz.prog 74 #[fates0] h R ⟨⟩ :=
 callsH_of_eq Tryz.follow .l Tryz.func74 kR kR kR H

def n75 (s0:Value) (R:VP) (h:Heap):Prop :=
 vF (binS .eql 48 (.tmp 3) (.const (.slice none 0 0)) s0 (.slice none 0 0)) (fun t4 h1 =>
 vD t4 (
 R (.slice none 0 0) h1) (
 vF (buildSlice 48 0 #[]) (fun t5 h2 =>
 vF (append_ #[48,48] 48 #[t5,s0]) (fun t7 h3 =>
 R t7 h3) h2) h1)) h

theorem n75_calls {s0:Value} {R:VP} {h:Heap} (H:n75 s0 R h):CallsH Tryz.prog 75 #[s0] h R ⟨⟩ :=
 callsH_of_eq Tryz.follow .l Tryz.func75 kR kR kR H

def n76 (s0 name1:Value) (R:VP) (h:Heap):Prop :=
 vC 79 #[s0] (fun t7 h1 =>
 vD t7 (
 R (.int .i64 1) h1) (
 vF (len_ #[9] 3 #[name1]) (fun t10 h2 =>
 vF (vk .lss 3 10 .i64 1 t10) (fun t11 h3 =>
 vJ t11 false (vV name1) (fun t13 h5 =>
 vJ t11 false (vF (len_ #[9] 3 #[t13])) (fun t14 h7 =>
 vJ t11 false (vF (vk .gtr 3 14 .i64 64 t14)) (fun t15 h9 =>
 vF (pickS t11 (.bool true) t15) (fun t16 h10 =>
 vJ t16 false (vV name1) (fun t18 h12 =>
 vJ t16 false (vF (convert 9 33 t18)) (fun t19 h14 =>
 vJ t16 false (vC 111 #[t19,(.int .u8 0)]) (fun t20 h16 =>
 vJ t16 false (vF (vk .geq 3 20 .i64 0 t20)) (fun t21 h18 =>
 vF (pickS t16 (.bool true) t21) (fun t22 h19 =>
 vD t22 (
 R (.int .i64 2) h19) (
 R (.int .i64 0) h19)) h18) h16) h14) h12) h10) h9) h7) h5) h3) h2) h1)) h

theorem n76_calls {s0 name1:Value} {R:VP} {h:Heap} (H:n76 s0 name1 R h):CallsH Tryz.prog 76 #[s0,name1] h R ⟨⟩ :=
 callsH_of_eq Tryz.follow .l Tryz.func76 kR kR kR H

def n77 (s0:Value) (R:VP) (h:Heap):Prop :=
 vF (nilS s0) (fun t7 h1 =>
 vF (fieldAt 156 t7 2) (fun t8 h2 =>
 vF (loadAt 3 t8) (fun t9 h3 =>
 vF (vk .add 3 9 .i64 1 t9) (fun t10 h4 =>
 vF (nilS s0) (fun t11 h5 =>
 vF (fieldAt 156 t11 2) (fun t12 h6 =>
 vF (storeS 3 t12 t10) (fun _ h7 =>
 vF (nilS s0) (fun t14 h8 =>
 vF (fieldAt 156 t14 1) (fun t15 h9 =>
 vF (loadAt 48 t15) (fun t16 h10 =>
 vF (len_ #[48] 3 #[t16]) (fun t17 h11 =>
 vF (vk .eql 3 17 .i64 0 t17) (fun t18 h12 =>
 vD t18 (
 R (.tuple #[(.int .i64 0),(.int .i64 0)]) h12) (
 vF (nilS s0) (fun t20 h13 =>
 vF (fieldAt 156 t20 1) (fun t21 h14 =>
 vF (loadAt 48 t21) (fun t22 h15 =>
 vF (indexAt 48 t22 (.int .i64 0)) (fun t23 h16 =>
 vF (loadAt 118 t23) (fun t24 h17 =>
 vF (alloc 118 true undef) (fun f4 h18 =>
 vF (storeS 118 f4 t24) (fun _ h19 =>
 vF (nilS s0) (fun t27 h20 =>
 vF (fieldAt 156 t27 1) (fun t28 h21 =>
 vF (loadAt 48 t28) (fun t29 h22 =>
 vF (sliceAt 48 t29 (some (.int .i64 1)) none none) (fun t30 h23 =>
 vF (nilS s0) (fun t31 h24 =>
 vF (fieldAt 156 t31 1) (fun t32 h25 =>
 vF (storeS 48 t32 t30) (fun _ h26 =>
 JoinN 1 (fun (k:VP) h27 =>
 vF (fieldAt 118 f4 0) (fun t33 h28 =>
 vF (loadAt 116 t33) (fun t34 h29 =>
 JoinN 1 (fun (k_1:VP) h30 =>
 vF (vk .eql 116 34 .i64 1 t34) (fun t36 h31 =>
 vD t36 (
 k_1 (.int .i64 5) h31) (
 vF (vk .eql 116 34 .i64 2 t34) (fun t38 h32 =>
 vD t38 (
 k_1 (.int .i64 6) h32) (
 k_1 (.int .i64 0) h32)) h31)) h30)
 (fun e5 h33 =>
 k e5 h33) h29 ⟨⟩ ⟨⟩) h28) h27)
 (fun e5_1 h34 =>
 vG (fieldAt 118 f4 1) (fun t40 _ =>
 vG (loadAt 3 t40) (fun t41 _ =>
 vG (max_ #[3,3] 3 #[(.int .i64 0),t41]) (fun t42 _ =>
 R (.tuple #[e5_1,t42]) h34) #[]) h34) #[]) h26 ⟨⟩ ⟨⟩) h25) h24) h23) h22) h21) h20) h19) h18) h17) h16) h15) h14) h13) h12)) h11) h10) h9) h8) h7) h6) h5) h4) h3) h2) h1) h

theorem n77_calls {s0:Value} {R:VP} {h:Heap} (H:n77 s0 R h):CallsH Tryz.prog 77 #[s0] h R ⟨⟩ :=
 callsH_of_eq Tryz.follow (.n none .l (.n none .l (.n none .l (.n none .l (.n none .l (.n none .l (.n (some [6]) (.n none .l (.n (some [6]) .l .l)) .l))))))) Tryz.func77 kR kR kR H

def n78 (f0 size1:Value) (R:VP) (h:Heap):Prop :=
 vF (nilS f0) (fun t7 h1 =>
 vF (fieldAt 115 t7 2) (fun t8 h2 =>
 vF (loadAt 33 t8) (fun t9 h3 =>
 vF (len_ #[33] 3 #[t9]) (fun t10 h4 =>
 vF (vt .sub 2 5 10 size1 t10) (fun t11 h5 =>
 vF (vk .gtr 2 12 .i64 0 t11) (fun t13 h6 =>
 vD t13 (
 vF (nilS f0) (fun t16 h7 =>
 vF (fieldAt 115 t16 2) (fun t17 h8 =>
 vF (loadAt 33 t17) (fun t18 h9 =>
 vF (append_ #[33,2] 33 #[t18,t11]) (fun t20 h10 =>
 vF (nilS f0) (fun t21 h11 =>
 vF (fieldAt 115 t21 2) (fun t22 h12 =>
 vF (storeS 33 t22 t20) (fun _ h13 =>
 vF (nilS f0) (fun t25 h14 =>
 vF (fieldAt 115 t25 0) (fun t26 h15 =>
 vF (loadAt 33 t26) (fun t27 h16 =>
 vF (append_ #[33,2] 33 #[t27,t11]) (fun t29 h17 =>
 vF (nilS f0) (fun t30 h18 =>
 vF (fieldAt 115 t30 0) (fun t31 h19 =>
 vF (storeS 33 t31 t29) (fun _ h20 =>
 R (.tuple #[]) h20) h19) h18) h17) h16) h15) h14) h13) h12) h11) h10) h9) h8) h7) h6) (
 R (.tuple #[]) h6)) h5) h4) h3) h2) h1) h

theorem n78_calls {f0 size1:Value} {R:VP} {h:Heap} (H:n78 f0 size1 R h):CallsH Tryz.prog 78 #[f0,size1] h R ⟨⟩ :=
 callsH_of_eq Tryz.follow .l Tryz.func78 kR kR kR H

def n79 (s0:Value) (R:VP) (h:Heap):Prop :=
 vF (binS .eql 26 (.tmp 3) (.const (.pointer none)) s0 (.pointer none)) (fun t4 h1 =>
 vJ t4 false (vV s0) (fun t6 h3 =>
 vJ t4 false (vF (nilS t6)) (fun t7 h5 =>
 vJ t4 false (vF (fieldAt 156 t7 0)) (fun t8 h7 =>
 vJ t4 false (vF (loadAt 153 t8)) (fun t9 h9 =>
 vJ t4 false (vF (binS .eql 153 (.tmp 9) (.const (.map none)) t9 (.map none))) (fun t10 h11 =>
 vF (pickS t4 (.bool true) t10) (fun t11 h12 =>
 R t11 h12) h11) h9) h7) h5) h3) h1) h

theorem n79_calls {s0:Value} {R:VP} {h:Heap} (H:n79 s0 R h):CallsH Tryz.prog 79 #[s0] h R ⟨⟩ :=
 callsH_of_eq Tryz.follow .l Tryz.func79 kR kR kR H

def n80 (c0:Value) (R:VP) (h:Heap):Prop :=
 vG (nilS c0) (fun t9 _ =>
 vG (fieldAt 93 t9 4) (fun t10 _ =>
 vG (loadAt 88 t10) (fun t11 _ =>
 vG (len_ #[88] 3 #[t11]) (fun t12 _ =>
 vG (nilS c0) (fun t14 _ =>
 vG (fieldAt 93 t14 3) (fun t15 _ =>
 vG (loadAt 3 t15) (fun t16 _ =>
 vG (vt .lss 3 12 16 t12 t16) (fun t17 _ =>
 vD t17 (
 R (.int .i64 0) h) (
 vF (alloc 188 true undef) (fun o3 h1 =>
 vF (nilS c0) (fun t19 h2 =>
 vF (fieldAt 93 t19 4) (fun t20 h3 =>
 vF (loadAt 88 t20) (fun t21 h4 =>
 vF (range 88 t21) (fun t22 h5 =>
 LoopC 0 (fun (X:Heap→Prop)=>fun h6 =>
 vF (next t22 false 0) (fun t23 h7 =>
 vF (extract t23 0) (fun t24 h8 =>
 vD t24 (
 vF (entry t22) (fun t25 h9 =>
 vF (extract t25 1) (fun t26 h10 =>
 vF (loadAt 188 o3) (fun t27 h11 =>
 vF (buildSlice 188 1 #[(0,t26)]) (fun t29 h12 =>
 vF (append_ #[188,188] 188 #[t27,t29]) (fun t30 h13 =>
 vF (storeS 188 o3 t30) (fun _ h14 =>
 X h14) h13) h12) h11) h10) h9) h8) (
 vF (makeInterface 190 o3) (fun t31 h15 =>
 vC 112 #[t31] (fun t32 h16 =>
 vF (makeInterface 190 o3) (fun t33 h17 =>
 vC 113 #[t33] (fun t34 h18 =>
 vF (typeAssert t34 20 94 false) (fun t35 h19 =>
 vF (nilS t35) (fun t38 h20 =>
 vF (fieldAt 99 t38 0) (fun t39 h21 =>
 vF (loadAt 2 t39) (fun t40 h22 =>
 vC 44 #[c0,t40] (fun t41 h23 =>
 vF (vk .neq 29 42 .i64 0 t41) (fun t43 h24 =>
 vD t43 (
 R t41 h24) (
 vG (nilS c0) (fun t46 _ =>
 vG (fieldAt 93 t46 4) (fun t47 _ =>
 vG (loadAt 88 t47) (fun t48 _ =>
 vG (nilS t35) (fun t50 _ =>
 vG (fieldAt 99 t50 0) (fun t51 _ =>
 vG (loadAt 2 t51) (fun t52 _ =>
 vF (delete_ #[88,2] 0 #[t48,t52]) (fun _ h25 =>
 R (.int .i64 0) h25) h24) h24) #[]) #[]) h24) #[]) #[])) h23) h22) h21) h20) h19) h18) h17) h16) h15) h8)) h7) h6) [] h5 ⟨⟩) h4) h3) h2) h1) h)) #[]) h) #[]) #[]) h) h) #[]) #[]

theorem n80_calls {c0:Value} {R:VP} {h:Heap} (H:n80 c0 R h):CallsH Tryz.prog 80 #[c0] h R ⟨⟩ :=
 callsH_of_eq Tryz.follow (.n none .l (.n none .l (.n none .l (.n none (.n none .l (.n none (.n (some []) .l .l) .l)) .l)))) Tryz.func80 kR kR kR H

def n81 (n0 t1 t2 t3 t4:Value) (R:VP) (h:Heap):Prop :=
 vF (loadAt 28 t1) (fun t9 h1 =>
 vC 82 #[t9,n0] (fun t11 h2 =>
 vF (len_ #[102] 3 #[t11]) (fun t12 h3 =>
 LoopC 1 (fun (X:VP)=>fun t13 h4 =>
 vF (vt .lss 3 13 12 t13 t12) (fun t14 h5 =>
 vD t14 (
 JoinN 0 (fun (k:Heap→Prop) h6 =>
 JoinN 0 (fun (k_1:Heap→Prop) h7 =>
 vF (indexAt 102 t11 t13) (fun t15 h8 =>
 vF (loadAt 2 t15) (fun t16 h9 =>
 vF (loadAt 2 t2) (fun t19 h10 =>
 vF (vt .eql 2 18 19 t16 t19) (fun t20 h11 =>
 vD t20 (
 R (.bool true) h11) (
 vF (loadAt 90 t3) (fun t22 h12 =>
 vF (lookup 90 t22 t16 false) (fun t24 h13 =>
 vD t24 (
 k_1 h13) (
 vF (loadAt 90 t3) (fun t25 h14 =>
 vF (unitS (mapUpdate 90 t25 t16 (.bool true))) (fun _ h15 =>
 vF (loadAt 101 t4) (fun t27 h16 =>
 InvokeH Tryz.prog t27 #[t16] h16 (fun t29 h17 =>
 vD t29 (
 R (.bool true) h17) (
 k_1 h17)) ⟨⟩) h15) h14) h13)) h12) h11)) h10) h9) h8) h7)
 (fun h18 =>
 k h18) h6 ⟨⟩ ⟨⟩)
 (fun h19 =>
 vF (vk .add 3 13 .i64 1 t13) (fun t30 h20 =>
 X t30 h20) h19) h5 ⟨⟩ ⟨⟩) (
 R (.bool false) h5)) h4) [(.int .i64 0)] h3 ⟨⟩) h2) h1) h

theorem n81_calls {n0 t1 t2 t3 t4:Value} {R:VP} {h:Heap} (H:n81 n0 t1 t2 t3 t4 R h):CallsH Tryz.prog 81 #[n0,t1,t2,t3,t4] h R ⟨⟩ :=
 callsH_of_eq Tryz.follow (.n none .l (.n none (.n none .l (.n none (.n none .l (.n none (.n (some [14]) (.n none .l (.n none .l (.n (some []) (.n (some []) .l .l) .l))) .l) .l)) .l)) .l)) Tryz.func81 kR kR kR H

def n82 (c0 n1:Value) (R:VP) (h:Heap):Prop :=
 vF (nilS c0) (fun t8 h1 =>
 vF (fieldAt 93 t8 6) (fun t9 h2 =>
 vF (loadAt 91 t9) (fun t10 h3 =>
 vF (lookup 91 t10 n1 false) (fun t12 h4 =>
 vF (range 90 t12) (fun t13 h5 =>
 LoopC 1 (fun (X:VP)=>fun l5 h6 =>
 vF (next t13 false 0) (fun t14 h7 =>
 vF (extract t14 0) (fun t15 h8 =>
 vD t15 (
 JoinN 1 (fun (k:VP) h9 =>
 vF (entry t13) (fun t16 h10 =>
 vF (extract t16 0) (fun t17 h11 =>
 vC 43 #[c0,t17] (fun t20 h12 =>
 vD t20 (
 vF (buildSlice 102 1 #[(0,t17)]) (fun t23 h13 =>
 vF (append_ #[102,102] 102 #[l5,t23]) (fun t24 h14 =>
 k t24 h14) h13) h12) (
 k l5 h12)) h11) h10) h9)
 (fun l5_1 h15 =>
 X l5_1 h15) h8 ⟨⟩ ⟨⟩) (
 vC 85 #[l5] (fun t26 h16 =>
 R l5 h16) h8)) h7) h6) [(.slice none 0 0)] h5 ⟨⟩) h4) h3) h2) h1) h

theorem n82_calls {c0 n1:Value} {R:VP} {h:Heap} (H:n82 c0 n1 R h):CallsH Tryz.prog 82 #[c0,n1] h R ⟨⟩ :=
 callsH_of_eq Tryz.follow (.n none .l (.n none .l (.n none (.n none .l (.n none (.n (some [6]) (.n none .l (.n none .l (.n (some [6]) .l .l))) .l) .l)) .l))) Tryz.func82 kR kR kR H

def n83 (s0 name1 at2 b3:Value) (R:VP) (h:Heap):Prop :=
 vC 50 #[s0,name1] (fun t16 h1 =>
 vF (extract t16 0) (fun t17 h2 =>
 vF (extract t16 1) (fun t18 h3 =>
 vF (vk .neq 29 20 .i64 0 t18) (fun t21 h4 =>
 vD t21 (
 R t18 h4) (
 vF (vk .lss 2 24 .i64 0 at2) (fun t25 h5 =>
 vD t25 (
 R (.int .i64 4) h5) (
 vF (len_ #[33] 3 #[b3]) (fun t28 h6 =>
 vF (vk .gtr 3 28 .i64 0 t28) (fun t29 h7 =>
 vJ t29 true (vV at2) (fun t31 h9 =>
 vJ t29 true (vF (vk .gtr 2 31 .i64 268435456 t31)) (fun t32 h11 =>
 vJ t29 true (vV t32) (fun t33 h13 =>
 vJ t33 false (vV b3) (fun t34 h15 =>
 vJ t33 false (vF (len_ #[33] 3 #[t34])) (fun t35 h17 =>
 vJ t33 false (vV at2) (fun t36 h19 =>
 vJ t33 false (vF (binS .sub 2 (.const (.int .i64 268435456)) (.tmp 36) (.int .i64 268435456) t36)) (fun t37 h21 =>
 vJ t33 false (vF (vt .gtr 2 35 37 t35 t37)) (fun t38 h23 =>
 vJ t29 true (vF (pickS t33 (.bool true) t38)) (fun t39 h25 =>
 vF (pickS t29 t39 (.bool false)) (fun t40 h26 =>
 vD t40 (
 R (.int .i64 6) h26) (
 vC 77 #[s0] (fun t43 h27 =>
 vF (extract t43 0) (fun t44 h28 =>
 vF (extract t43 1) (fun t45 h29 =>
 LoopC 3 (fun (X:Value→Value→VP)=>fun at2_1 b3_1 keep11 h30 =>
 vF (len_ #[33] 3 #[b3_1]) (fun t47 h31 =>
 vF (vk .gtr 3 47 .i64 0 t47) (fun t48 h32 =>
 vJ t48 true (vV t44) (fun t50 h34 =>
 vJ t48 true (vF (vk .eql 29 50 .i64 0 t50)) (fun t51 h36 =>
 vJ t48 true (vV t51) (fun t52 h38 =>
 vJ t52 false (vV keep11) (fun t53 h40 =>
 vJ t52 false (vF (vk .gtr 3 53 .i64 0 t53)) (fun t54 h42 =>
 vJ t48 true (vF (pickS t52 (.bool true) t54)) (fun t55 h44 =>
 vF (pickS t48 t55 (.bool false)) (fun t56 h45 =>
 vD t56 (
 vF (len_ #[33] 3 #[b3_1]) (fun t58 h46 =>
 vF (vk .rem 2 59 .i64 512 at2_1) (fun t60 h47 =>
 vF (binS .sub 2 (.const (.int .i64 512)) (.tmp 60) (.int .i64 512) t60) (fun t61 h48 =>
 vF (min_ #[3,3] 3 #[t58,t61]) (fun t62 h49 =>
 vF (vt .add 2 64 65 at2_1 t62) (fun t66 h50 =>
 vC 78 #[t17,t66] (fun t67 h51 =>
 vG (nilS t17) (fun t70 _ =>
 vG (fieldAt 115 t70 1) (fun t71 _ =>
 vG (loadAt 113 t71) (fun t72 _ =>
 vG (sliceAt 33 b3_1 none (some t62) none) (fun t76 _ =>
 vC 51 #[t76] (fun t77 h52=>vG (loadAt 113 t71) (fun u _=>u=t72) h52 ∧
 vG (build 162 #[(0,at2_1),(1,t77)]) (fun t78 _ =>
 vF (buildSlice 113 1 #[(0,t78)]) (fun t79 h53=>vG (loadAt 113 t71) (fun u _=>u=t72) h53 ∧
 vF (append_ #[113,113] 113 #[t72,t79]) (fun t80 h54 =>
 vG (nilS t17) (fun t81 _ =>
 vG (fieldAt 115 t81 1) (fun t82 _ =>
 vF (storeS 113 t82 t80) (fun _ h55 =>
 vG (nilS t17) (fun t84 _ =>
 vG (fieldAt 115 t84 2) (fun t85 _ =>
 vG (loadAt 33 t85) (fun t86 _ =>
 vG (sliceAt 33 t86 (some at2_1) none none) (fun t88 _ =>
 vG (sliceAt 33 b3_1 none (some t62) none) (fun t91 _ =>
 vF (copy_ #[33,33] 3 #[t88,t91]) (fun t92 h56 =>
 vF (sliceAt 33 b3_1 (some t62) none none) (fun t95 h57 =>
 vF (vt .add 2 96 97 at2_1 t62) (fun t98 h58 =>
 vF (vk .sub 3 99 .i64 1 keep11) (fun t100 h59 =>
 X t98 t95 t100 h59) h58) h57) h56) h55) #[]) #[]) h55) #[]) #[]) h54) #[]) #[]) h53) h52) #[]) h51) #[]) h51) #[]) #[]) h50) h49) h48) h47) h46) h45) (
 R t44 h45)) h44) h42) h40) h38) h36) h34) h32) h31) h30) [at2,b3,t45] h29 ⟨⟩) h28) h27) h26)) h25) h23) h21) h19) h17) h15) h13) h11) h9) h7) h6) h5)) h4)) h3) h2) h1) h

theorem n83_calls {s0 name1 at2 b3:Value} {R:VP} {h:Heap} (H:n83 s0 name1 at2 b3 R h):CallsH Tryz.prog 83 #[s0,name1,at2,b3] h R ⟨⟩ :=
 callsH_of_eq Tryz.follow (.n none .l (.n none .l (.n none .l (.n none .l (.n none (.n none (.n (some [3,4,12]) .l .l) .l) .l))))) Tryz.func83 kR kR kR H

def n84 (seq0:Value) (R:VP) (h:Heap):Prop :=
 vC 114 #[(.slice none 0 0),seq0] (fun t4 h1 =>
 R t4 h1) h

theorem n84_calls {seq0:Value} {R:VP} {h:Heap} (H:n84 seq0 R h):CallsH Tryz.prog 84 #[seq0] h R ⟨⟩ :=
 callsH_of_eq Tryz.follow .l Tryz.func84 kR kR kR H

def n85 (x0:Value) (R:VP) (h:Heap):Prop :=
 vF (len_ #[102] 3 #[x0]) (fun t4 h1 =>
 vF (convert 3 195 t4) (fun t8 h2 =>
 vC 116 #[t8] (fun t9 h3 =>
 vC 115 #[x0,(.int .i64 0),t4,t9] (fun t10 h4 =>
 R (.tuple #[]) h4) h3) h2) h1) h

theorem n85_calls {x0:Value} {R:VP} {h:Heap} (H:n85 x0 R h):CallsH Tryz.prog 85 #[x0] h R ⟨⟩ :=
 callsH_of_eq Tryz.follow .l Tryz.func85 kR kR kR H

def n86 (yield0 t1:Value) (R:VP) (h:Heap):Prop :=
 vF (loadAt 88 t1) (fun t4 h1 =>
 vF (range 88 t4) (fun t5 h2 =>
 LoopC 0 (fun (X:Heap→Prop)=>fun h3 =>
 vF (next t5 false 0) (fun t6 h4 =>
 vF (extract t6 0) (fun t7 h5 =>
 vD t7 (
 vF (entry t5) (fun t8 h6 =>
 vF (extract t8 0) (fun t9 h7 =>
 InvokeH Tryz.prog yield0 #[t9] h7 (fun t12 h8 =>
 vF (Op.unary .not t12) (fun t13 h9 =>
 vD t13 (
 R (.tuple #[]) h9) (
 X h9)) h8) ⟨⟩) h6) h5) (
 R (.tuple #[]) h5)) h4) h3) [] h2 ⟨⟩) h1) h

theorem n86_calls {yield0 t1:Value} {R:VP} {h:Heap} (H:n86 yield0 t1 R h):CallsH Tryz.prog 86 #[yield0,t1] h R ⟨⟩ :=
 callsH_of_eq Tryz.follow (.n none .l (.n none (.n (some []) .l .l) .l)) Tryz.func86 kR kR kR H

def n87 (s0 name1:Value) (R:VP) (h:Heap):Prop :=
 vC 50 #[s0,name1] (fun t14 h1 =>
 vF (extract t14 0) (fun t15 h2 =>
 vF (extract t14 1) (fun t16 h3 =>
 vF (vk .neq 29 17 .i64 0 t16) (fun t18 h4 =>
 vD t18 (
 R t16 h4) (
 vC 77 #[s0] (fun t22 h5 =>
 vF (extract t22 0) (fun t23 h6 =>
 vF (extract t22 1) (fun t24 h7 =>
 vF (nilS t15) (fun t26 h8 =>
 vF (fieldAt 115 t26 1) (fun t27 h9 =>
 vF (loadAt 113 t27) (fun t28 h10 =>
 vF (len_ #[113] 3 #[t28]) (fun t29 h11 =>
 JoinN 1 (fun (k:VP) h12 =>
 vF (vk .neq 29 30 .i64 0 t23) (fun t31 h13 =>
 vD t31 (
 vF (min_ #[3,3] 3 #[t29,t24]) (fun t34 h14 =>
 k t34 h14) h13) (
 k t29 h13)) h12)
 (fun n8 h15 =>
 vF (nilS t15) (fun t36 h16 =>
 vF (fieldAt 115 t36 1) (fun t37 h17 =>
 vF (loadAt 113 t37) (fun t38 h18 =>
 vF (sliceAt 113 t38 none (some n8) none) (fun t40 h19 =>
 vF (len_ #[113] 3 #[t40]) (fun t41 h20 =>
 LoopC 1 (fun (X:VP)=>fun t42 h21 =>
 vF (vt .lss 3 42 41 t42 t41) (fun t43 h22 =>
 vD t43 (
 vF (indexAt 113 t40 t42) (fun t44 h23 =>
 vF (loadAt 162 t44) (fun t45 h24 =>
 vF (alloc 162 true undef) (fun p10 h25 =>
 vF (storeS 162 p10 t45) (fun _ h26 =>
 vG (nilS t15) (fun t47 _ =>
 vG (fieldAt 115 t47 0) (fun t48 _ =>
 vG (loadAt 33 t48) (fun t49 _ =>
 vG (fieldAt 162 p10 0) (fun t50 _ =>
 vG (loadAt 2 t50) (fun t51 _ =>
 vG (sliceAt 33 t49 (some t51) none none) (fun t52 _ =>
 vG (fieldAt 162 p10 1) (fun t53 _ =>
 vG (loadAt 33 t53) (fun t54 _ =>
 vF (copy_ #[33,33] 3 #[t52,t54]) (fun t55 h27 =>
 vF (vk .add 3 42 .i64 1 t42) (fun t56 h28 =>
 X t56 h28) h27) h26) h26) #[]) #[]) h26) #[]) h26) #[]) #[]) h25) h24) h23) h22) (
 vF (nilS t15) (fun t59 h29 =>
 vF (fieldAt 115 t59 1) (fun t60 h30 =>
 vF (loadAt 113 t60) (fun t61 h31 =>
 vF (sliceAt 113 t61 (some n8) none none) (fun t63 h32 =>
 vC 117 #[t63] (fun t64 h33 =>
 vF (nilS t15) (fun t65 h34 =>
 vF (fieldAt 115 t65 1) (fun t66 h35 =>
 vF (storeS 113 t66 t64) (fun _ h36 =>
 R t23 h36) h35) h34) h33) h32) h31) h30) h29) h22)) h21) [(.int .i64 0)] h20 ⟨⟩) h19) h18) h17) h16) h15) h11 ⟨⟩ ⟨⟩) h10) h9) h8) h7) h6) h5) h4)) h3) h2) h1) h

theorem n87_calls {s0 name1:Value} {R:VP} {h:Heap} (H:n87 s0 name1 R h):CallsH Tryz.prog 87 #[s0,name1] h R ⟨⟩ :=
 callsH_of_eq Tryz.follow (.n none .l (.n none .l (.n none .l (.n none .l (.n none .l (.n (some [9]) .l (.n none (.n none .l (.n none (.n (some [43]) .l .l) .l)) .l))))))) Tryz.func87 kR kR kR H

def n90 (s0:Value) (R:VP) (h:Heap):Prop :=
 vF (box 170 s0) (fun s1 h1 =>
 vF (pure (.func (.func 121) #[] #[s1])) (fun t3 h2 =>
 R t3 h2) h1) h

theorem n90_calls {s0:Value} {R:VP} {h:Heap} (H:n90 s0 R h):CallsH Tryz.prog 90 #[s0] h R ⟨⟩ :=
 callsH_of_eq Tryz.follow .l Tryz.func90 kR kR kR H

def n94 (m0 del1:Value) (R:VP) (h:Heap):Prop :=
 vF (range 90 m0) (fun t7 h1 =>
 LoopC 0 (fun (X:Heap→Prop)=>fun h2 =>
 vF (next t7 false 0) (fun t8 h3 =>
 vF (extract t8 0) (fun t9 h4 =>
 vD t9 (
 JoinN 0 (fun (k:Heap→Prop) h5 =>
 vF (entry t7) (fun t10 h6 =>
 vF (extract t10 0) (fun t11 h7 =>
 vF (extract t10 1) (fun t12 h8 =>
 InvokeH Tryz.prog del1 #[t11,t12] h8 (fun t16 h9 =>
 vD t16 (
 vF (delete_ #[90,2] 0 #[m0,t11]) (fun _ h10 =>
 k h10) h9) (
 k h9)) ⟨⟩) h7) h6) h5)
 (fun h11 =>
 X h11) h4 ⟨⟩ ⟨⟩) (
 R (.tuple #[]) h4)) h3) h2) [] h1 ⟨⟩) h

theorem n94_calls {m0 del1:Value} {R:VP} {h:Heap} (H:n94 m0 del1 R h):CallsH Tryz.prog 94 #[m0,del1] h R ⟨⟩ :=
 callsH_of_eq Tryz.follow (.n none .l (.n none (.n (some []) (.n none .l (.n none .l (.n (some []) .l .l))) .l) .l)) Tryz.func94 kR kR kR H

def n95 (q0 t1 t2:Value) (R:VP) (h:Heap):Prop :=
 vF (loadAt 28 t2) (fun t6 h1 =>
 vC 43 #[t6,q0] (fun t8 h2 =>
 vF (Op.unary .not t8) (fun t9 h3 =>
 R t9 h3) h2) h1) h

theorem n95_calls {q0 t1 t2:Value} {R:VP} {h:Heap} (H:n95 q0 t1 t2 R h):CallsH Tryz.prog 95 #[q0,t1,t2] h R ⟨⟩ :=
 callsH_of_eq Tryz.follow .l Tryz.func95 kR kR kR H

def n96 (c0 page1:Value) (R:VP) (h:Heap):Prop :=
 vF (vk .geq 2 5 .i64 0 page1) (fun t6 h1 =>
 vJ t6 true (vV page1) (fun t8 h3 =>
 vJ t6 true (vV c0) (fun t9 h5 =>
 vJ t6 true (vF (nilS t9)) (fun t10 h7 =>
 vJ t6 true (vF (fieldAt 139 t10 2)) (fun t11 h9 =>
 vJ t6 true (vF (loadAt 3 t11)) (fun t12 h11 =>
 vJ t6 true (vF (binS .shr 2 (.const (.int .i64 268435456)) (.tmp 12) (.int .i64 268435456) t12)) (fun t13 h13 =>
 vJ t6 true (vF (vt .lss 2 8 13 t8 t13)) (fun t14 h15 =>
 vF (pickS t6 t14 (.bool false)) (fun t15 h16 =>
 R t15 h16) h15) h13) h11) h9) h7) h5) h3) h1) h

theorem n96_calls {c0 page1:Value} {R:VP} {h:Heap} (H:n96 c0 page1 R h):CallsH Tryz.prog 96 #[c0,page1] h R ⟨⟩ :=
 callsH_of_eq Tryz.follow .l Tryz.func96 kR kR kR H

def n97 (c0 page1:Value) (R:VP) (h:Heap):Prop :=
 vG (nilS c0) (fun t17 _ =>
 vG (fieldAt 139 t17 0) (fun t18 _ =>
 vG (loadAt 62 t18) (fun t19 _ =>
 vG (nilS c0) (fun t21 _ =>
 vG (fieldAt 139 t21 1) (fun t22 _ =>
 vG (loadAt 9 t22) (fun t23 _ =>
 vC 59 #[t19,t23,(.int .i64 0),(.int .i64 0)] (fun t24 h1 =>
 vG (extract t24 0) (fun t25 _ =>
 vG (extract t24 1) (fun t26 _ =>
 vF (vk .neq 3 27 .i64 0 t26) (fun t28 h2 =>
 vD t28 (
 R (.tuple #[(.int .i64 0),t26]) h2) (
 JoinN 0 (fun (k:Heap→Prop) h3 =>
 vC 100 #[c0,page1] (fun t32 h4 =>
 vF (vk .geq 3 32 .i64 0 t32) (fun t33 h5 =>
 vD t33 (
 vF (nilS c0) (fun t35 h6 =>
 vF (fieldAt 139 t35 8) (fun t36 h7 =>
 vF (fieldAt 81 t36 0) (fun t37 h8 =>
 vF (loadAt 3 t37) (fun t38 h9 =>
 vF (vk .add 3 38 .i64 1 t38) (fun t39 h10 =>
 vF (nilS c0) (fun t40 h11 =>
 vF (fieldAt 139 t40 8) (fun t41 h12 =>
 vF (fieldAt 81 t41 0) (fun t42 h13 =>
 vF (storeS 3 t42 t39) (fun _ h14 =>
 k h14) h13) h12) h11) h10) h9) h8) h7) h6) h5) (
 vC 123 #[c0] (fun t44 h15 =>
 vF (vk .neq 3 45 .i64 0 t44) (fun t46 h16 =>
 vD t46 (
 R (.tuple #[(.int .i64 0),t44]) h16) (
 vF (nilS c0) (fun t49 h17 =>
 vF (fieldAt 139 t49 2) (fun t50 h18 =>
 vF (loadAt 3 t50) (fun t51 h19 =>
 vF (binS .shl 2 (.const (.int .i64 1)) (.tmp 51) (.int .i64 1) t51) (fun t52 h20 =>
 vF (makeSlice 33 t52 t52) (fun t53 h21 =>
 vG (nilS c0) (fun t56 _ =>
 vG (fieldAt 139 t56 0) (fun t57 _ =>
 vG (loadAt 62 t57) (fun t58 _ =>
 vG (nilS c0) (fun t60 _ =>
 vG (fieldAt 139 t60 1) (fun t61 _ =>
 vG (loadAt 9 t61) (fun t62 _ =>
 vG (nilS c0) (fun t65 _ =>
 vG (fieldAt 139 t65 2) (fun t66 _ =>
 vG (loadAt 3 t66) (fun t67 _ =>
 vG (vt .shl 2 63 67 page1 t67) (fun t68 _ =>
 vG (len_ #[33] 3 #[t53]) (fun t70 _ =>
 vC 59 #[t58,t62,t68,t70] (fun t71 h22 =>
 vG (extract t71 0) (fun t72 _ =>
 vG (extract t71 1) (fun t73 _ =>
 JoinN 0 (fun (k_1:Heap→Prop) h23 =>
 vF (vk .eql 3 74 .i64 0 t73) (fun t75 h24 =>
 vD t75 (
 vF (copy_ #[33,33] 3 #[t53,t72]) (fun t78 h25 =>
 k_1 h25) h24) (
 k_1 h24)) h23)
 (fun h26 =>
 LoopC 1 (fun (X:VP)=>fun at12 h27 =>
 vF (nilS c0) (fun t81 h28 =>
 vF (fieldAt 139 t81 4) (fun t82 h29 =>
 vF (loadAt 136 t82) (fun t83 h30 =>
 vF (len_ #[136] 3 #[t83]) (fun t84 h31 =>
 vF (vt .lss 3 79 84 at12 t84) (fun t85 h32 =>
 vJ t85 true (vV c0) (fun t87 h34 =>
 vJ t85 true (vF (nilS t87)) (fun t88 h36 =>
 vJ t85 true (vF (fieldAt 139 t88 4)) (fun t89 h38 =>
 vJ t85 true (vF (loadAt 136 t89)) (fun t90 h40 =>
 vJ t85 true (vV at12) (fun t91 h42 =>
 vJ t85 true (vF (indexAt 136 t90 t91)) (fun t92 h44 =>
 vJ t85 true (vF (fieldAt 178 t92 0)) (fun t93 h46 =>
 vJ t85 true (vF (loadAt 2 t93)) (fun t94 h48 =>
 vJ t85 true (vV page1) (fun t95 h50 =>
 vJ t85 true (vF (vt .lss 2 94 95 t94 t95)) (fun t96 h52 =>
 vF (pickS t85 t96 (.bool false)) (fun t97 h53 =>
 vD t97 (
 vF (vk .add 3 98 .i64 1 at12) (fun t99 h54 =>
 X t99 h54) h53) (
 vF (nilS c0) (fun t102 h55 =>
 vF (fieldAt 139 t102 4) (fun t103 h56 =>
 vF (loadAt 136 t103) (fun t104 h57 =>
 vF (sliceAt 136 t104 none (some at12) none) (fun t106 h58 =>
 vF (append_ #[136,136] 136 #[(.slice none 0 0),t106]) (fun t107 h59 =>
 vF (build 178 #[(0,page1),(1,t53)]) (fun t110 h60 =>
 vF (buildSlice 136 1 #[(0,t110)]) (fun t111 h61 =>
 vF (append_ #[136,136] 136 #[t107,t111]) (fun t112 h62 =>
 vF (nilS c0) (fun t116 h63 =>
 vF (fieldAt 139 t116 4) (fun t117 h64 =>
 vF (loadAt 136 t117) (fun t118 h65 =>
 vF (sliceAt 136 t118 (some at12) none none) (fun t120 h66 =>
 vF (append_ #[136,136] 136 #[t112,t120]) (fun t121 h67 =>
 vF (nilS c0) (fun t122 h68 =>
 vF (fieldAt 139 t122 4) (fun t123 h69 =>
 vF (storeS 136 t123 t121) (fun _ h70 =>
 vF (nilS c0) (fun t125 h71 =>
 vF (fieldAt 139 t125 8) (fun t126 h72 =>
 vF (fieldAt 81 t126 1) (fun t127 h73 =>
 vF (loadAt 3 t127) (fun t128 h74 =>
 vF (vk .add 3 128 .i64 1 t128) (fun t129 h75 =>
 vF (nilS c0) (fun t130 h76 =>
 vF (fieldAt 139 t130 8) (fun t131 h77 =>
 vF (fieldAt 81 t131 1) (fun t132 h78 =>
 vF (storeS 3 t132 t129) (fun _ h79 =>
 k h79) h78) h77) h76) h75) h74) h73) h72) h71) h70) h69) h68) h67) h66) h65) h64) h63) h62) h61) h60) h59) h58) h57) h56) h55) h53)) h52) h50) h48) h46) h44) h42) h40) h38) h36) h34) h32) h31) h30) h29) h28) h27) [(.int .i64 0)] h26 ⟨⟩) h22 ⟨⟩ ⟨⟩) #[]) #[]) h21) #[]) #[]) h21) #[]) #[]) h21) #[]) #[]) h21) #[]) #[]) h20) h19) h18) h17) h16)) h15) h5)) h4) h3)
 (fun h80 =>
 vC 100 #[c0,page1] (fun t135 h81 =>
 vF (nilS c0) (fun t137 h82 =>
 vF (fieldAt 139 t137 7) (fun t138 h83 =>
 vF (loadAt 3 t138) (fun t139 h84 =>
 vF (vk .add 3 139 .i64 1 t139) (fun t140 h85 =>
 vF (nilS c0) (fun t141 h86 =>
 vF (fieldAt 139 t141 7) (fun t142 h87 =>
 vF (storeS 3 t142 t140) (fun _ h88 =>
 vG (nilS c0) (fun t144 _ =>
 vG (fieldAt 139 t144 4) (fun t145 _ =>
 vG (loadAt 136 t145) (fun t146 _ =>
 vG (nilS c0) (fun t149 _ =>
 vG (fieldAt 139 t149 7) (fun t150 _ =>
 vG (loadAt 3 t150) (fun t151 _ =>
 vG (indexAt 136 t146 t135) (fun t152 _ =>
 vG (fieldAt 178 t152 3) (fun t153 _ =>
 vF (storeS 3 t153 t151) (fun _ h89 =>
 R (.tuple #[t135,(.int .i64 0)]) h89) h88) #[]) #[]) h88) #[]) #[]) h88) #[]) #[]) h87) h86) h85) h84) h83) h82) h81) h80) h2 ⟨⟩ ⟨⟩)) h1) #[]) #[]) h) h) #[]) #[]) h) #[]) #[]

theorem n97_calls {c0 page1:Value} {R:VP} {h:Heap} (H:n97 c0 page1 R h):CallsH Tryz.prog 97 #[c0,page1] h R ⟨⟩ :=
 callsH_of_eq Tryz.follow (.n none .l (.n none .l (.n none .l (.n (some []) (.n none .l (.n none .l (.n none .l (.n none .l (.n none .l (.n none .l (.n (some []) .l (.n none .l (.n none (.n none (.n (some [13]) .l .l) .l) .l))))))))) .l)))) Tryz.func97 kR kR kR H

def n98 (c0 page1 other2 most3:Value) (R:VP) (h:Heap):Prop :=
 vC 106 #[c0,page1] (fun t13 h1 =>
 LoopC 1 (fun (X:VP)=>fun i10 h2 =>
 vF (len_ #[102] 3 #[t13]) (fun t16 h3 =>
 vF (vt .lss 3 14 16 i10 t16) (fun t17 h4 =>
 vD t17 (
 vF (indexAt 102 t13 i10) (fun t22 h5 =>
 vF (loadAt 2 t22) (fun t23 h6 =>
 vF (vt .eql 2 23 24 t23 other2) (fun t25 h7 =>
 vJ t25 false (vV most3) (fun t27 h9 =>
 vJ t25 false (vF (vk .gtr 3 27 .i64 0 t27)) (fun t28 h11 =>
 vJ t25 false (vV t28) (fun t29 h13 =>
 vJ t29 true (vV c0) (fun t30 h15 =>
 vJ t29 true (vV t13) (fun t31 h17 =>
 vJ t29 true (vV i10) (fun t32 h19 =>
 vJ t29 true (vF (indexAt 102 t31 t32)) (fun t33 h21 =>
 vJ t29 true (vF (loadAt 2 t33)) (fun t34 h23 =>
 vJ t29 true (vV other2) (fun t35 h25 =>
 vJ t29 true (vV most3) (fun t36 h27 =>
 vJ t29 true (vF (vk .sub 3 36 .i64 1 t36)) (fun t37 h29 =>
 vJ t29 true (vC 98 #[t30,t34,t35,t37]) (fun t38 h31 =>
 vJ t25 false (vF (pickS t29 t38 (.bool false))) (fun t39 h33 =>
 vF (pickS t25 (.bool true) t39) (fun t40 h34 =>
 vD t40 (
 R (.bool true) h34) (
 vF (vk .add 3 18 .i64 1 i10) (fun t19 h35 =>
 X t19 h35) h34)) h33) h31) h29) h27) h25) h23) h21) h19) h17) h15) h13) h11) h9) h7) h6) h5) h4) (
 R (.bool false) h4)) h3) h2) [(.int .i64 0)] h1 ⟨⟩) h

theorem n98_calls {c0 page1 other2 most3:Value} {R:VP} {h:Heap} (H:n98 c0 page1 other2 most3 R h):CallsH Tryz.prog 98 #[c0,page1,other2,most3] h R ⟨⟩ :=
 callsH_of_eq Tryz.follow (.n none .l (.n none .l (.n none (.n none .l (.n none (.n (some [11]) .l .l) .l)) .l))) Tryz.func98 kR kR kR H

def n99 (c0 page1:Value) (R:VP) (h:Heap):Prop :=
 vC 100 #[c0,page1] (fun t8 h1 =>
 vF (vk .geq 3 9 .i64 0 t8) (fun t10 h2 =>
 vJ t10 true (vV c0) (fun t12 h4 =>
 vJ t10 true (vF (nilS t12)) (fun t13 h6 =>
 vJ t10 true (vF (fieldAt 139 t13 4)) (fun t14 h8 =>
 vJ t10 true (vF (loadAt 136 t14)) (fun t15 h10 =>
 vJ t10 true (vV t8) (fun t16 h12 =>
 vJ t10 true (vF (indexAt 136 t15 t16)) (fun t17 h14 =>
 vJ t10 true (vF (fieldAt 178 t17 2)) (fun t18 h16 =>
 vJ t10 true (vF (loadAt 4 t18)) (fun t19 h18 =>
 vF (pickS t10 t19 (.bool false)) (fun t20 h19 =>
 vJ t20 false (vV c0) (fun t22 h21 =>
 vJ t20 false (vF (nilS t22)) (fun t23 h23 =>
 vJ t20 false (vF (fieldAt 139 t23 5)) (fun t24 h25 =>
 vJ t20 false (vF (loadAt 102 t24)) (fun t25 h27 =>
 vJ t20 false (vV page1) (fun t26 h29 =>
 vJ t20 false (vC 105 #[t25,t26]) (fun t27 h31 =>
 vF (pickS t20 (.bool true) t27) (fun t28 h32 =>
 R t28 h32) h31) h29) h27) h25) h23) h21) h19) h18) h16) h14) h12) h10) h8) h6) h4) h2) h1) h

theorem n99_calls {c0 page1:Value} {R:VP} {h:Heap} (H:n99 c0 page1 R h):CallsH Tryz.prog 99 #[c0,page1] h R ⟨⟩ :=
 callsH_of_eq Tryz.follow .l Tryz.func99 kR kR kR H

def n100 (c0 page1:Value) (R:VP) (h:Heap):Prop :=
 LoopC 1 (fun (X:VP)=>fun i5 h1 =>
 vF (nilS c0) (fun t8 h2 =>
 vF (fieldAt 139 t8 4) (fun t9 h3 =>
 vF (loadAt 136 t9) (fun t10 h4 =>
 vF (len_ #[136] 3 #[t10]) (fun t11 h5 =>
 vF (vt .lss 3 6 11 i5 t11) (fun t12 h6 =>
 vD t12 (
 vF (nilS c0) (fun t16 h7 =>
 vF (fieldAt 139 t16 4) (fun t17 h8 =>
 vF (loadAt 136 t17) (fun t18 h9 =>
 vF (indexAt 136 t18 i5) (fun t20 h10 =>
 vF (fieldAt 178 t20 0) (fun t21 h11 =>
 vF (loadAt 2 t21) (fun t22 h12 =>
 vF (vt .eql 2 22 23 t22 page1) (fun t24 h13 =>
 vD t24 (
 R i5 h13) (
 vF (vk .add 3 13 .i64 1 i5) (fun t14 h14 =>
 X t14 h14) h13)) h12) h11) h10) h9) h8) h7) h6) (
 R (.int .i64 (-1)) h6)) h5) h4) h3) h2) h1) [(.int .i64 0)] h ⟨⟩

theorem n100_calls {c0 page1:Value} {R:VP} {h:Heap} (H:n100 c0 page1 R h):CallsH Tryz.prog 100 #[c0,page1] h R ⟨⟩ :=
 callsH_of_eq Tryz.follow (.n none .l (.n none (.n none .l (.n none (.n (some [6]) .l .l) .l)) .l)) Tryz.func100 kR kR kR H

def n101 (c0 page1:Value) (R:VP) (h:Heap):Prop :=
 vC 106 #[c0,page1] (fun t14 h1 =>
 LoopC 1 (fun (X:VP)=>fun i6 h2 =>
 vF (len_ #[102] 3 #[t14]) (fun t17 h3 =>
 vF (vt .lss 3 15 17 i6 t17) (fun t18 h4 =>
 vD t18 (
 JoinN 0 (fun (k:Heap→Prop) h5 =>
 JoinN 0 (fun (k_1:Heap→Prop) h6 =>
 vF (indexAt 102 t14 i6) (fun t24 h7 =>
 vF (loadAt 2 t24) (fun t25 h8 =>
 vC 100 #[c0,t25] (fun t26 h9 =>
 vF (vk .geq 3 27 .i64 0 t26) (fun t28 h10 =>
 vJ t28 true (vV c0) (fun t30 h12 =>
 vJ t28 true (vF (nilS t30)) (fun t31 h14 =>
 vJ t28 true (vF (fieldAt 139 t31 4)) (fun t32 h16 =>
 vJ t28 true (vF (loadAt 136 t32)) (fun t33 h18 =>
 vJ t28 true (vV t26) (fun t34 h20 =>
 vJ t28 true (vF (indexAt 136 t33 t34)) (fun t35 h22 =>
 vJ t28 true (vF (fieldAt 178 t35 2)) (fun t36 h24 =>
 vJ t28 true (vF (loadAt 4 t36)) (fun t37 h26 =>
 vF (pickS t28 t37 (.bool false)) (fun t38 h27 =>
 vD t38 (
 vF (indexAt 102 t14 i6) (fun t42 h28 =>
 vF (loadAt 2 t42) (fun t43 h29 =>
 vC 101 #[c0,t43] (fun t44 h30 =>
 vF (vk .neq 3 45 .i64 0 t44) (fun t46 h31 =>
 vD t46 (
 R t44 h31) (
 k_1 h31)) h30) h29) h28) h27) (
 k_1 h27)) h26) h24) h22) h20) h18) h16) h14) h12) h10) h9) h8) h7) h6)
 (fun h32 =>
 k h32) h5 ⟨⟩ ⟨⟩)
 (fun h33 =>
 vF (vk .add 3 19 .i64 1 i6) (fun t20 h34 =>
 X t20 h34) h33) h4 ⟨⟩ ⟨⟩) (
 JoinN 0 (fun (k_10:Heap→Prop) h35 =>
 vC 106 #[c0,page1] (fun t50 h36 =>
 vF (len_ #[102] 3 #[t50]) (fun t51 h37 =>
 vF (vk .gtr 3 51 .i64 0 t51) (fun t52 h38 =>
 vD t52 (
 vC 102 #[c0] (fun t54 h39 =>
 vF (vk .neq 3 55 .i64 0 t54) (fun t56 h40 =>
 vD t56 (
 R t54 h40) (
 k_10 h40)) h39) h38) (
 k_10 h38)) h37) h36) h35)
 (fun h41 =>
 vC 100 #[c0,page1] (fun t60 h42 =>
 vG (nilS c0) (fun t62 _ =>
 vG (fieldAt 139 t62 0) (fun t63 _ =>
 vG (loadAt 62 t63) (fun t64 _ =>
 vG (nilS c0) (fun t66 _ =>
 vG (fieldAt 139 t66 1) (fun t67 _ =>
 vG (loadAt 9 t67) (fun t68 _ =>
 vG (nilS c0) (fun t71 _ =>
 vG (fieldAt 139 t71 2) (fun t72 _ =>
 vG (loadAt 3 t72) (fun t73 _ =>
 vG (vt .shl 2 69 73 page1 t73) (fun t74 _ =>
 vG (nilS c0) (fun t76 _ =>
 vG (fieldAt 139 t76 4) (fun t77 _ =>
 vG (loadAt 136 t77) (fun t78 _ =>
 vG (indexAt 136 t78 t60) (fun t80 _ =>
 vG (fieldAt 178 t80 1) (fun t81 _ =>
 vG (loadAt 33 t81) (fun t82 _ =>
 vC 124 #[t64,t68,t74,t82] (fun t83 h43 =>
 vF (vk .neq 3 84 .i64 0 t83) (fun t85 h44 =>
 vD t85 (
 R t83 h44) (
 vF (nilS c0) (fun t88 h45 =>
 vF (fieldAt 139 t88 4) (fun t89 h46 =>
 vF (loadAt 136 t89) (fun t90 h47 =>
 vF (indexAt 136 t90 t60) (fun t92 h48 =>
 vF (fieldAt 178 t92 2) (fun t93 h49 =>
 vF (storeS 4 t93 (.bool false)) (fun _ h50 =>
 JoinN 0 (fun (k_11:Heap→Prop) h51 =>
 vF (nilS c0) (fun t95 h52 =>
 vF (fieldAt 139 t95 5) (fun t96 h53 =>
 vF (loadAt 102 t96) (fun t97 h54 =>
 vC 105 #[t97,page1] (fun t99 h55 =>
 vF (Op.unary .not t99) (fun t100 h56 =>
 vD t100 (
 vF (nilS c0) (fun t103 h57 =>
 vF (fieldAt 139 t103 5) (fun t104 h58 =>
 vF (loadAt 102 t104) (fun t105 h59 =>
 vC 125 #[t105,page1] (fun t107 h60 =>
 vF (nilS c0) (fun t108 h61 =>
 vF (fieldAt 139 t108 5) (fun t109 h62 =>
 vF (storeS 102 t109 t107) (fun _ h63 =>
 k_11 h63) h62) h61) h60) h59) h58) h57) h56) (
 k_11 h56)) h55) h54) h53) h52) h51)
 (fun h64 =>
 vC 103 #[c0,page1] (fun t112 h65 =>
 vF (nilS c0) (fun t114 h66 =>
 vF (fieldAt 139 t114 8) (fun t115 h67 =>
 vF (fieldAt 81 t115 2) (fun t116 h68 =>
 vF (loadAt 3 t116) (fun t117 h69 =>
 vF (vk .add 3 117 .i64 1 t117) (fun t118 h70 =>
 vF (nilS c0) (fun t119 h71 =>
 vF (fieldAt 139 t119 8) (fun t120 h72 =>
 vF (fieldAt 81 t120 2) (fun t121 h73 =>
 vF (storeS 3 t121 t118) (fun _ h74 =>
 R (.int .i64 0) h74) h73) h72) h71) h70) h69) h68) h67) h66) h65) h64) h50 ⟨⟩ ⟨⟩) h49) h48) h47) h46) h45) h44)) h43) h42) h42) #[]) #[]) h42) #[]) #[]) #[]) h42) #[]) #[]) h42) #[]) #[]) h42) #[]) #[]) h41) h4 ⟨⟩ ⟨⟩)) h3) h2) [(.int .i64 0)] h1 ⟨⟩) h

theorem n101_calls {c0 page1:Value} {R:VP} {h:Heap} (H:n101 c0 page1 R h):CallsH Tryz.prog 101 #[c0,page1] h R ⟨⟩ :=
 callsH_of_eq Tryz.follow (.n none .l (.n none .l (.n none (.n none .l (.n none (.n (some [7]) (.n none .l (.n (some []) (.n (some []) .l .l) .l)) .l) .l)) (.n (some []) .l (.n none .l (.n none .l (.n none .l (.n none .l (.n (some []) .l .l))))))))) Tryz.func101 kR kR kR H

def n102 (c0:Value) (R:VP) (h:Heap):Prop :=
 vG (nilS c0) (fun t5 _ =>
 vG (fieldAt 139 t5 0) (fun t6 _ =>
 vG (loadAt 62 t6) (fun t7 _ =>
 vG (nilS c0) (fun t9 _ =>
 vG (fieldAt 139 t9 1) (fun t10 _ =>
 vG (loadAt 9 t10) (fun t11 _ =>
 vC 126 #[t7,t11] (fun t12 h1 =>
 JoinN 0 (fun (k:Heap→Prop) h2 =>
 vF (vk .eql 3 13 .i64 0 t12) (fun t14 h3 =>
 vD t14 (
 vF (nilS c0) (fun t16 h4 =>
 vF (fieldAt 139 t16 5) (fun t17 h5 =>
 vF (storeS 102 t17 (.slice none 0 0)) (fun _ h6 =>
 vF (nilS c0) (fun t19 h7 =>
 vF (fieldAt 139 t19 8) (fun t20 h8 =>
 vF (fieldAt 81 t20 3) (fun t21 h9 =>
 vF (loadAt 3 t21) (fun t22 h10 =>
 vF (vk .add 3 22 .i64 1 t22) (fun t23 h11 =>
 vF (nilS c0) (fun t24 h12 =>
 vF (fieldAt 139 t24 8) (fun t25 h13 =>
 vF (fieldAt 81 t25 3) (fun t26 h14 =>
 vF (storeS 3 t26 t23) (fun _ h15 =>
 vC 104 #[c0] (fun t28 h16 =>
 k h16) h15) h14) h13) h12) h11) h10) h9) h8) h7) h6) h5) h4) h3) (
 k h3)) h2)
 (fun h17 =>
 R t12 h17) h1 ⟨⟩ ⟨⟩) h) h) #[]) #[]) h) #[]) #[]

theorem n102_calls {c0:Value} {R:VP} {h:Heap} (H:n102 c0 R h):CallsH Tryz.prog 102 #[c0] h R ⟨⟩ :=
 callsH_of_eq Tryz.follow (.n none .l (.n none .l (.n (some []) .l .l))) Tryz.func102 kR kR kR H

def n103 (c0 page1:Value) (R:VP) (h:Heap):Prop :=
 LoopC 2 (fun (X:Value→VP)=>fun l4 i5 h1 =>
 vF (nilS c0) (fun t8 h2 =>
 vF (fieldAt 139 t8 6) (fun t9 h3 =>
 vF (loadAt 137 t9) (fun t10 h4 =>
 vF (len_ #[137] 3 #[t10]) (fun t11 h5 =>
 vF (vt .lss 3 6 11 i5 t11) (fun t12 h6 =>
 vD t12 (
 JoinN 1 (fun (k:VP) h7 =>
 JoinN 1 (fun (k_1:VP) h8 =>
 vF (nilS c0) (fun t16 h9 =>
 vF (fieldAt 139 t16 6) (fun t17 h10 =>
 vF (loadAt 137 t17) (fun t18 h11 =>
 vF (indexAt 137 t18 i5) (fun t20 h12 =>
 vF (fieldAt 181 t20 0) (fun t21 h13 =>
 vF (loadAt 2 t21) (fun t22 h14 =>
 vF (vt .neq 2 22 23 t22 page1) (fun t24 h15 =>
 vD t24 (
 vF (nilS c0) (fun t27 h16 =>
 vF (fieldAt 139 t27 6) (fun t28 h17 =>
 vF (loadAt 137 t28) (fun t29 h18 =>
 vF (indexAt 137 t29 i5) (fun t31 h19 =>
 vF (loadAt 181 t31) (fun t32 h20 =>
 vF (buildSlice 137 1 #[(0,t32)]) (fun t33 h21 =>
 vF (append_ #[137,137] 137 #[l4,t33]) (fun t34 h22 =>
 k_1 t34 h22) h21) h20) h19) h18) h17) h16) h15) (
 k_1 l4 h15)) h14) h13) h12) h11) h10) h9) h8)
 (fun l4_1 h23 =>
 k l4_1 h23) h7 ⟨⟩ ⟨⟩)
 (fun l4_2 h24 =>
 vF (vk .add 3 13 .i64 1 i5) (fun t14 h25 =>
 X l4_2 t14 h25) h24) h6 ⟨⟩ ⟨⟩) (
 vF (nilS c0) (fun t37 h26 =>
 vF (fieldAt 139 t37 6) (fun t38 h27 =>
 vF (storeS 137 t38 l4) (fun _ h28 =>
 R (.tuple #[]) h28) h27) h26) h6)) h5) h4) h3) h2) h1) [(.slice none 0 0),(.int .i64 0)] h ⟨⟩

theorem n103_calls {c0 page1:Value} {R:VP} {h:Heap} (H:n103 c0 page1 R h):CallsH Tryz.prog 103 #[c0,page1] h R ⟨⟩ :=
 callsH_of_eq Tryz.follow (.n none .l (.n none (.n none .l (.n none (.n (some [5,6]) (.n none .l (.n (some [5]) (.n (some [5]) .l .l) .l)) .l) .l)) .l)) Tryz.func103 kR kR kR H

end Go.Proofs.YtcbbdnaelimpfaaGreat

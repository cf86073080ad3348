/- Printed by /tmp/tools2/gen.py: the condition of each function,and that a call meets it. -/
import Derived.Test.YtcbbdnaelimpfaaGreatVcFun
import Derived.Test.YtcbbdnaelimpfaaGreatProg
import Derived.Test.YtcbbdnaelimpfaaGreatNiceA
import Derived.Test.YtcbbdnaelimpfaaGreatNiceB
set_option maxRecDepth 100000
set_option linter.unusedVariables false
namespace Go.Proofs.YtcbbdnaelimpfaaGreat
open Go.Vc Go.Instr Go.Builtin

def n10 (s0 name1 bits2 room3:Value) (R:VP) (h:Heap):Prop :=
 vF (binS .eql 26 (.tmp 13) (.const (.pointer none)) s0 (.pointer none)) (fun t14 h1 =>
 vD t14 (
 R (.tuple #[(.pointer none),(.int .i64 1)]) h1) (
 vF (vk .lss 3 16 .i64 9 bits2) (fun t17 h2 =>
 vJ t17 false (vV bits2) (fun t19 h4 =>
 vJ t17 false (vF (vk .gtr 3 19 .i64 16 t19)) (fun t20 h6 =>
 vF (pickS t17 (.bool true) t20) (fun t21 h7 =>
 vJ t21 false (vV room3) (fun t23 h9 =>
 vJ t21 false (vF (vk .lss 3 23 .i64 1 t23)) (fun t24 h11 =>
 vF (pickS t21 (.bool true) t24) (fun t25 h12 =>
 vJ t25 false (vV room3) (fun t27 h14 =>
 vJ t25 false (vF (vk .gtr 3 27 .i64 1024 t27)) (fun t28 h16 =>
 vF (pickS t25 (.bool true) t28) (fun t29 h17 =>
 vD t29 (
 R (.tuple #[(.pointer none),(.int .i64 2)]) h17) (
 vC 18 #[s0,name1] (fun t33 h18 =>
 vF (extract t33 0) (fun t34 h19 =>
 vF (extract t33 1) (fun t35 h20 =>
 vF (vk .neq 29 36 .i64 0 t35) (fun t37 h21 =>
 vD t37 (
 R (.tuple #[(.pointer none),t35]) h21) (
 vF (makeMap 88 none) (fun t43 h22 =>
 vF (makeMap 90 none) (fun t44 h23 =>
 vF (makeMap 91 none) (fun t45 h24 =>
 vF (build 93 #[(0,s0),(1,name1),(2,bits2),(3,room3),(4,t43),(5,t44),(6,t45)]) (fun t46 h25 =>
 vF (box 93 t46) (fun t47 h26 =>
 R (.tuple #[t47,(.int .i64 0)]) h26) h25) h24) h23) h22) h21)) h20) h19) h18) h17)) h16) h14) h12) h11) h9) h7) h6) h4) h2) h1)) h

theorem n10_calls {s0 name1 bits2 room3:Value} {R:VP} {h:Heap} (H:n10 s0 name1 bits2 room3 R h):CallsH Tryz.prog 10 #[s0,name1,bits2,room3] h R ⟨⟩ :=
 callsH_of_eq Tryz.follow .l Tryz.func10 kR kR kR H

def n11 (e0:Value) (R:VP) (h:Heap):Prop :=
 R e0 h

theorem n11_calls {e0:Value} {R:VP} {h:Heap} (H:n11 e0 R h):CallsH Tryz.prog 11 #[e0] h R ⟨⟩ :=
 callsH_of_eq Tryz.follow .l Tryz.func11 kR kR kR H

def n12 (c0 n1 at2 k3:Value) (R:VP) (h:Heap):Prop :=
 vC 39 #[c0,n1,at2,k3] (fun t17 h1 =>
 vF (extract t17 0) (fun t18 h2 =>
 vF (extract t17 1) (fun t19 h3 =>
 vF (vk .neq 29 20 .i64 0 t19) (fun t21 h4 =>
 vD t21 (
 R (.tuple #[(.slice none 0 0),t19]) h4) (
 vF (nilS t18) (fun t24 h5 =>
 vF (fieldAt 99 t24 1) (fun t25 h6 =>
 vF (loadAt 33 t25) (fun t26 h7 =>
 vF (vt .add 3 28 29 at2 k3) (fun t30 h8 =>
 vF (sliceAt 33 t26 (some at2) (some t30) none) (fun t31 h9 =>
 vC 40 #[t31] (fun t32 h10 =>
 R (.tuple #[t32,(.int .i64 0)]) h10) h9) h8) h7) h6) h5) h4)) h3) h2) h1) h

theorem n12_calls {c0 n1 at2 k3:Value} {R:VP} {h:Heap} (H:n12 c0 n1 at2 k3 R h):CallsH Tryz.prog 12 #[c0,n1,at2,k3] h R ⟨⟩ :=
 callsH_of_eq Tryz.follow .l Tryz.func12 kR kR kR H

def n13 (c0 n1 at2 b3:Value) (R:VP) (h:Heap):Prop :=
 vF (len_ #[33] 3 #[b3]) (fun t16 h1 =>
 vC 39 #[c0,n1,at2,t16] (fun t17 h2 =>
 vF (extract t17 0) (fun t18 h3 =>
 vF (extract t17 1) (fun t19 h4 =>
 vF (vk .neq 29 20 .i64 0 t19) (fun t21 h5 =>
 vD t21 (
 R t19 h5) (
 vF (nilS t18) (fun t24 h6 =>
 vF (fieldAt 99 t24 1) (fun t25 h7 =>
 vF (loadAt 33 t25) (fun t26 h8 =>
 vF (sliceAt 33 t26 (some at2) none none) (fun t28 h9 =>
 vF (copy_ #[33,33] 3 #[t28,b3]) (fun t30 h10 =>
 vF (nilS t18) (fun t33 h11 =>
 vF (fieldAt 99 t33 2) (fun t34 h12 =>
 vF (loadAt 4 t34) (fun t35 h13 =>
 vJ t35 false (vV b3) (fun t37 h15 =>
 vJ t35 false (vF (len_ #[33] 3 #[t37])) (fun t38 h17 =>
 vJ t35 false (vF (vk .gtr 3 38 .i64 0 t38)) (fun t39 h19 =>
 vF (pickS t35 (.bool true) t39) (fun t40 h20 =>
 vF (nilS t18) (fun t41 h21 =>
 vF (fieldAt 99 t41 2) (fun t42 h22 =>
 vF (storeS 4 t42 t40) (fun _ h23 =>
 R (.int .i64 0) h23) h22) h21) h20) h19) h17) h15) h13) h12) h11) h10) h9) h8) h7) h6) h5)) h4) h3) h2) h1) h

theorem n13_calls {c0 n1 at2 b3:Value} {R:VP} {h:Heap} (H:n13 c0 n1 at2 b3 R h):CallsH Tryz.prog 13 #[c0,n1,at2,b3] h R ⟨⟩ :=
 callsH_of_eq Tryz.follow .l Tryz.func13 kR kR kR H

def n14 (c0 n1 other2:Value) (R:VP) (h:Heap):Prop :=
 vC 41 #[c0,n1] (fun t11 h1 =>
 vF (vk .neq 29 12 .i64 0 t11) (fun t13 h2 =>
 vD t13 (
 R t11 h2) (
 vC 41 #[c0,other2] (fun t17 h3 =>
 vF (vk .neq 29 18 .i64 0 t17) (fun t19 h4 =>
 vD t19 (
 R t17 h4) (
 JoinN 0 (fun (k:Heap→Prop) h5 =>
 JoinN 0 (fun (k_1:Heap→Prop) h6 =>
 vF (vt .eql 2 22 23 n1 other2) (fun t24 h7 =>
 vJ t24 false (vV c0) (fun t26 h9 =>
 vJ t24 false (vV other2) (fun t27 h11 =>
 vJ t24 false (vV n1) (fun t28 h13 =>
 vJ t24 false (vC 42 #[t26,t27,t28]) (fun t29 h15 =>
 vF (pickS t24 (.bool true) t29) (fun t30 h16 =>
 vD t30 (
 R (.int .i64 240) h16) (
 vC 43 #[c0,other2] (fun t34 h17 =>
 vF (Op.unary .not t34) (fun t35 h18 =>
 vD t35 (
 R (.int .i64 0) h18) (
 vF (nilS c0) (fun t38 h19 =>
 vF (fieldAt 93 t38 6) (fun t39 h20 =>
 vF (loadAt 91 t39) (fun t40 h21 =>
 vF (lookup 91 t40 n1 false) (fun t42 h22 =>
 vF (binS .eql 90 (.tmp 42) (.const (.map none)) t42 (.map none)) (fun t43 h23 =>
 vD t43 (
 vF (nilS c0) (fun t45 h24 =>
 vF (fieldAt 93 t45 6) (fun t46 h25 =>
 vF (loadAt 91 t46) (fun t47 h26 =>
 vF (makeMap 90 none) (fun t49 h27 =>
 vF (unitS (mapUpdate 91 t47 n1 t49)) (fun _ h28 =>
 k_1 h28) h27) h26) h25) h24) h23) (
 k_1 h23)) h22) h21) h20) h19) h18)) h17) h16)) h15) h13) h11) h9) h7) h6)
 (fun h29 =>
 k h29) h5 ⟨⟩ ⟨⟩)
 (fun h30 =>
 vF (nilS c0) (fun t51 h31 =>
 vF (fieldAt 93 t51 6) (fun t52 h32 =>
 vF (loadAt 91 t52) (fun t53 h33 =>
 vF (lookup 91 t53 n1 false) (fun t55 h34 =>
 vF (unitS (mapUpdate 90 t55 other2 (.bool true))) (fun _ h35 =>
 R (.int .i64 0) h35) h34) h33) h32) h31) h30) h4 ⟨⟩ ⟨⟩)) h3) h2)) h1) h

theorem n14_calls {c0 n1 other2:Value} {R:VP} {h:Heap} (H:n14 c0 n1 other2 R h):CallsH Tryz.prog 14 #[c0,n1,other2] h R ⟨⟩ :=
 callsH_of_eq Tryz.follow (.n none .l (.n none .l (.n none .l (.n (some []) (.n (some []) .l .l) .l)))) Tryz.func14 kR kR kR H

def n15 (c0 n1:Value) (R:VP) (h:Heap):Prop :=
 vC 41 #[c0,n1] (fun t8 h1 =>
 vF (vk .neq 29 10 .i64 0 t8) (fun t11 h2 =>
 vD t11 (
 R t8 h2) (
 vF (nilS c0) (fun t15 h3 =>
 vF (fieldAt 93 t15 4) (fun t16 h4 =>
 vF (loadAt 88 t16) (fun t17 h5 =>
 vF (lookup 88 t17 n1 false) (fun t19 h6 =>
 vF (binS .eql 94 (.tmp 19) (.const (.pointer none)) t19 (.pointer none)) (fun t20 h7 =>
 vD t20 (
 R (.int .i64 7) h7) (
 vC 44 #[c0,n1] (fun t23 h8 =>
 R t23 h8) h7)) h6) h5) h4) h3) h2)) h1) h

theorem n15_calls {c0 n1:Value} {R:VP} {h:Heap} (H:n15 c0 n1 R h):CallsH Tryz.prog 15 #[c0,n1] h R ⟨⟩ :=
 callsH_of_eq Tryz.follow .l Tryz.func15 kR kR kR H

def n16 (c0:Value) (R:VP) (h:Heap):Prop :=
 vC 41 #[c0,(.int .i64 0)] (fun t8 h1 =>
 vF (vk .neq 29 9 .i64 0 t8) (fun t10 h2 =>
 vD t10 (
 R t8 h2) (
 vF (nilS c0) (fun t13 h3 =>
 vF (fieldAt 93 t13 4) (fun t14 h4 =>
 vF (loadAt 88 t14) (fun t15 h5 =>
 vC 46 #[t15] (fun t16 h6 =>
 vC 45 #[t16] (fun t17 h7 =>
 vF (len_ #[102] 3 #[t17]) (fun t18 h8 =>
 LoopC 1 (fun (X:VP)=>fun t19 h9 =>
 vF (vt .lss 3 19 18 t19 t18) (fun t20 h10 =>
 vD t20 (
 vF (indexAt 102 t17 t19) (fun t21 h11 =>
 vF (loadAt 2 t21) (fun t22 h12 =>
 vC 44 #[c0,t22] (fun t25 h13 =>
 vF (vk .neq 29 26 .i64 0 t25) (fun t27 h14 =>
 vD t27 (
 R t25 h14) (
 vF (vk .add 3 19 .i64 1 t19) (fun t29 h15 =>
 X t29 h15) h14)) h13) h12) h11) h10) (
 vC 47 #[c0] (fun t31 h16 =>
 R t31 h16) h10)) h9) [(.int .i64 0)] h8 ⟨⟩) h7) h6) h5) h4) h3) h2)) h1) h

theorem n16_calls {c0:Value} {R:VP} {h:Heap} (H:n16 c0 R h):CallsH Tryz.prog 16 #[c0] h R ⟨⟩ :=
 callsH_of_eq Tryz.follow (.n none .l (.n none .l (.n none (.n none .l (.n none (.n (some [20]) .l .l) .l)) .l))) Tryz.func16 kR kR kR H

def n18 (s0 name1:Value) (R:VP) (h:Heap):Prop :=
 vC 50 #[s0,name1] (fun t11 h1 =>
 vF (extract t11 0) (fun t12 h2 =>
 vF (extract t11 1) (fun t13 h3 =>
 vF (vk .neq 29 14 .i64 0 t13) (fun t15 h4 =>
 vD t15 (
 R (.tuple #[(.int .i64 0),t13]) h4) (
 vF (nilS t12) (fun t18 h5 =>
 vF (fieldAt 115 t18 2) (fun t19 h6 =>
 vF (loadAt 33 t19) (fun t20 h7 =>
 vF (len_ #[33] 3 #[t20]) (fun t21 h8 =>
 R (.tuple #[t21,(.int .i64 0)]) h8) h7) h6) h5) h4)) h3) h2) h1) h

theorem n18_calls {s0 name1:Value} {R:VP} {h:Heap} (H:n18 s0 name1 R h):CallsH Tryz.prog 18 #[s0,name1] h R ⟨⟩ :=
 callsH_of_eq Tryz.follow .l Tryz.func18 kR kR kR H

def n19 (s0 name1 at2 n3:Value) (R:VP) (h:Heap):Prop :=
 vC 50 #[s0,name1] (fun t16 h1 =>
 vF (extract t16 0) (fun t17 h2 =>
 vF (extract t16 1) (fun t18 h3 =>
 vF (vk .neq 29 20 .i64 0 t18) (fun t21 h4 =>
 vD t21 (
 R (.tuple #[(.slice none 0 0),t18]) h4) (
 vF (vk .lss 2 24 .i64 0 at2) (fun t25 h5 =>
 vJ t25 false (vV at2) (fun t27 h7 =>
 vJ t25 false (vV t17) (fun t28 h9 =>
 vJ t25 false (vF (nilS t28)) (fun t29 h11 =>
 vJ t25 false (vF (fieldAt 115 t29 2)) (fun t30 h13 =>
 vJ t25 false (vF (loadAt 33 t30)) (fun t31 h15 =>
 vJ t25 false (vF (len_ #[33] 3 #[t31])) (fun t32 h17 =>
 vJ t25 false (vF (vt .gtr 2 27 32 t27 t32)) (fun t33 h19 =>
 vF (pickS t25 (.bool true) t33) (fun t34 h20 =>
 vJ t34 false (vV n3) (fun t36 h22 =>
 vJ t34 false (vF (vk .lss 3 36 .i64 0 t36)) (fun t37 h24 =>
 vF (pickS t34 (.bool true) t37) (fun t38 h25 =>
 vD t38 (
 R (.tuple #[(.slice none 0 0),(.int .i64 4)]) h25) (
 vF (nilS t17) (fun t40 h26 =>
 vF (fieldAt 115 t40 2) (fun t41 h27 =>
 vF (loadAt 33 t41) (fun t42 h28 =>
 vF (sliceAt 33 t42 (some at2) none none) (fun t44 h29 =>
 vF (len_ #[33] 3 #[t44]) (fun t48 h30 =>
 vF (min_ #[3,3] 3 #[n3,t48]) (fun t49 h31 =>
 vF (sliceAt 33 t44 none (some t49) none) (fun t50 h32 =>
 vC 51 #[t50] (fun t51 h33 =>
 R (.tuple #[t51,(.int .i64 0)]) h33) h32) h31) h30) h29) h28) h27) h26) h25)) h24) h22) h20) h19) h17) h15) h13) h11) h9) h7) h5) h4)) h3) h2) h1) h

theorem n19_calls {s0 name1 at2 n3:Value} {R:VP} {h:Heap} (H:n19 s0 name1 at2 n3 R h):CallsH Tryz.prog 19 #[s0,name1,at2,n3] h R ⟨⟩ :=
 callsH_of_eq Tryz.follow .l Tryz.func19 kR kR kR H

def n21 (l0:Value) (R:VP) (h:Heap):Prop :=
 LoopC 1 (fun (X:VP)=>fun i3 h1 =>
 vF (len_ #[48] 3 #[l0]) (fun t6 h2 =>
 vF (vt .lss 3 4 6 i3 t6) (fun t7 h3 =>
 vD t7 (
 vF (indexAt 48 l0 i3) (fun t12 h4 =>
 vF (fieldAt 118 t12 0) (fun t13 h5 =>
 vF (loadAt 116 t13) (fun t14 h6 =>
 vF (vk .lss 116 14 .i64 0 t14) (fun t15 h7 =>
 vJ t15 false (vV l0) (fun t17 h9 =>
 vJ t15 false (vV i3) (fun t18 h11 =>
 vJ t15 false (vF (indexAt 48 t17 t18)) (fun t19 h13 =>
 vJ t15 false (vF (fieldAt 118 t19 0)) (fun t20 h15 =>
 vJ t15 false (vF (loadAt 116 t20)) (fun t21 h17 =>
 vJ t15 false (vF (vk .gtr 116 21 .i64 2 t21)) (fun t22 h19 =>
 vF (pickS t15 (.bool true) t22) (fun t23 h20 =>
 vD t23 (
 R (.bool false) h20) (
 vF (vk .add 3 8 .i64 1 i3) (fun t9 h21 =>
 X t9 h21) h20)) h19) h17) h15) h13) h11) h9) h7) h6) h5) h4) h3) (
 R (.bool true) h3)) h2) h1) [(.int .i64 0)] h ⟨⟩

theorem n21_calls {l0:Value} {R:VP} {h:Heap} (H:n21 l0 R h):CallsH Tryz.prog 21 #[l0] h R ⟨⟩ :=
 callsH_of_eq Tryz.follow (.n none .l (.n none (.n none .l (.n none (.n (some [4]) .l .l) .l)) .l)) Tryz.func21 kR kR kR H

def n24 (c0 n1:Value) (R:VP) (h:Heap):Prop :=
 vC 41 #[c0,n1] (fun t8 h1 =>
 vF (vk .neq 29 10 .i64 0 t8) (fun t11 h2 =>
 vD t11 (
 R t8 h2) (
 vF (nilS c0) (fun t15 h3 =>
 vF (fieldAt 93 t15 4) (fun t16 h4 =>
 vF (loadAt 88 t16) (fun t17 h5 =>
 vF (lookup 88 t17 n1 false) (fun t19 h6 =>
 vF (binS .eql 94 (.tmp 19) (.const (.pointer none)) t19 (.pointer none)) (fun t20 h7 =>
 vD t20 (
 R (.int .i64 7) h7) (
 vF (nilS c0) (fun t22 h8 =>
 vF (fieldAt 93 t22 4) (fun t23 h9 =>
 vF (loadAt 88 t23) (fun t24 h10 =>
 vF (delete_ #[88,2] 0 #[t24,n1]) (fun _ h11 =>
 vF (nilS c0) (fun t27 h12 =>
 vF (fieldAt 93 t27 6) (fun t28 h13 =>
 vF (loadAt 91 t28) (fun t29 h14 =>
 vF (delete_ #[91,2] 0 #[t29,n1]) (fun _ h15 =>
 vC 54 #[c0] (fun t32 h16 =>
 R (.int .i64 0) h16) h15) h14) h13) h12) h11) h10) h9) h8) h7)) h6) h5) h4) h3) h2)) h1) h

theorem n24_calls {c0 n1:Value} {R:VP} {h:Heap} (H:n24 c0 n1 R h):CallsH Tryz.prog 24 #[c0,n1] h R ⟨⟩ :=
 callsH_of_eq Tryz.follow .l Tryz.func24 kR kR kR H

def n25 (x0:Value) (R:VP) (h:Heap):Prop :=
 vF (box 61 x0) (fun x1 h1 =>
 vF (fieldAt 61 x1 4) (fun t5 h2 =>
 vF (loadAt 22 t5) (fun t6 h3 =>
 vF (len_ #[22] 3 #[t6]) (fun t7 h4 =>
 vF (vk .gtr 3 7 .i64 40 t7) (fun t8 h5 =>
 vJ t8 false (vF (fieldAt 61 x1 0)) (fun t10 h7 =>
 vJ t8 false (vF (loadAt 2 t10)) (fun t11 h9 =>
 vJ t8 false (vF (vk .lss 2 11 .i64 0 t11)) (fun t12 h11 =>
 vF (pickS t8 (.bool true) t12) (fun t13 h12 =>
 vJ t13 false (vF (fieldAt 61 x1 0)) (fun t15 h14 =>
 vJ t13 false (vF (loadAt 2 t15)) (fun t16 h16 =>
 vJ t13 false (vF (vk .gtr 2 16 .i64 50000 t16)) (fun t17 h18 =>
 vF (pickS t13 (.bool true) t17) (fun t18 h19 =>
 vJ t18 false (vF (fieldAt 61 x1 1)) (fun t20 h21 =>
 vJ t18 false (vF (loadAt 48 t20)) (fun t21 h23 =>
 vJ t18 false (vF (len_ #[48] 3 #[t21])) (fun t22 h25 =>
 vJ t18 false (vF (vk .gtr 3 22 .i64 60 t22)) (fun t23 h27 =>
 vF (pickS t18 (.bool true) t23) (fun t24 h28 =>
 vJ t24 false (vF (fieldAt 61 x1 1)) (fun t26 h30 =>
 vJ t24 false (vF (loadAt 48 t26)) (fun t27 h32 =>
 vJ t24 false (vC 21 #[t27]) (fun t28 h34 =>
 vJ t24 false (vF (Op.unary .not t28)) (fun t29 h36 =>
 vF (pickS t24 (.bool true) t29) (fun t30 h37 =>
 vJ t30 false (vF (fieldAt 61 x1 2)) (fun t32 h39 =>
 vJ t30 false (vF (loadAt 3 t32)) (fun t33 h41 =>
 vJ t30 false (vF (vk .gtr 3 33 .i64 12 t33)) (fun t34 h43 =>
 vJ t30 false (vV t34) (fun t35 h45 =>
 vJ t35 true (vF (fieldAt 61 x1 2)) (fun t36 h47 =>
 vJ t35 true (vF (loadAt 3 t36)) (fun t37 h49 =>
 vJ t35 true (vF (vk .leq 3 37 .i64 16 t37)) (fun t38 h51 =>
 vJ t30 false (vF (pickS t35 t38 (.bool false))) (fun t39 h53 =>
 vF (pickS t30 (.bool true) t39) (fun t40 h54 =>
 vD t40 (
 R (.bool true) h54) (
 LoopC 1 (fun (X:VP)=>fun i3 h55 =>
 vF (fieldAt 61 x1 4) (fun t42 h56 =>
 vF (loadAt 22 t42) (fun t43 h57 =>
 vF (len_ #[22] 3 #[t43]) (fun t44 h58 =>
 vF (vt .lss 3 41 44 i3 t44) (fun t45 h59 =>
 vD t45 (
 vF (fieldAt 61 x1 4) (fun t48 h60 =>
 vF (loadAt 22 t48) (fun t49 h61 =>
 vF (indexAt 22 t49 i3) (fun t51 h62 =>
 vF (loadAt 35 t51) (fun t52 h63 =>
 vF (alloc 35 true undef) (fun s4 h64 =>
 vF (storeS 35 s4 t52) (fun _ h65 =>
 vF (fieldAt 35 s4 3) (fun t53 h66 =>
 vF (loadAt 2 t53) (fun t54 h67 =>
 vF (vk .geq 2 54 .i64 12 t54) (fun t55 h68 =>
 vJ t55 true (vF (fieldAt 35 s4 3)) (fun t57 h70 =>
 vJ t55 true (vF (loadAt 2 t57)) (fun t58 h72 =>
 vJ t55 true (vF (vk .lss 2 58 .i64 268435456 t58)) (fun t59 h74 =>
 vF (pickS t55 t59 (.bool false)) (fun t60 h75 =>
 vJ t60 false (vF (fieldAt 35 s4 5)) (fun t62 h77 =>
 vJ t60 false (vF (loadAt 33 t62)) (fun t63 h79 =>
 vJ t60 false (vF (len_ #[33] 3 #[t63])) (fun t64 h81 =>
 vJ t60 false (vF (vk .gtr 3 64 .i64 5000 t64)) (fun t65 h83 =>
 vF (pickS t60 (.bool true) t65) (fun t66 h84 =>
 vD t66 (
 R (.bool true) h84) (
 vF (vk .add 3 46 .i64 1 i3) (fun t47 h85 =>
 X t47 h85) h84)) h83) h81) h79) h77) h75) h74) h72) h70) h68) h67) h66) h65) h64) h63) h62) h61) h60) h59) (
 R (.bool false) h59)) h58) h57) h56) h55) [(.int .i64 0)] h54 ⟨⟩)) h53) h51) h49) h47) h45) h43) h41) h39) h37) h36) h34) h32) h30) h28) h27) h25) h23) h21) h19) h18) h16) h14) h12) h11) h9) h7) h5) h4) h3) h2) h1) h

theorem n25_calls {x0:Value} {R:VP} {h:Heap} (H:n25 x0 R h):CallsH Tryz.prog 25 #[x0] h R ⟨⟩ :=
 callsH_of_eq Tryz.follow (.n none .l (.n none .l (.n none (.n none .l (.n none (.n (some [4]) .l .l) .l)) .l))) Tryz.func25 kR kR kR H

def n26 (fates0:Value) (R:VP) (h:Heap):Prop :=
 vF (append_ #[48,48] 48 #[(.slice none 0 0),fates0]) (fun t4 h1 =>
 vF (build 68 #[(1,t4)]) (fun t5 h2 =>
 vF (box 68 t5) (fun t6 h3 =>
 R t6 h3) h2) h1) h

theorem n26_calls {fates0:Value} {R:VP} {h:Heap} (H:n26 fates0 R h):CallsH Tryz.prog 26 #[fates0] h R ⟨⟩ :=
 callsH_of_eq Tryz.follow .l Tryz.func26 kR kR kR H

def n27 (s0 name1:Value) (R:VP) (h:Heap):Prop :=
 vC 55 #[s0,name1] (fun t14 h1 =>
 vF (extract t14 0) (fun t15 h2 =>
 vF (extract t14 1) (fun t16 h3 =>
 vF (vk .eql 3 17 .i64 2 t16) (fun t18 h4 =>
 vD t18 (
 R t16 h4) (
 vF (vk .eql 3 20 .i64 0 t16) (fun t21 h5 =>
 vD t21 (
 R (.int .i64 8) h5) (
 vF (nilS s0) (fun t23 h6 =>
 vF (fieldAt 68 t23 0) (fun t24 h7 =>
 vF (loadAt 66 t24) (fun t25 h8 =>
 vF (len_ #[66] 3 #[t25]) (fun t26 h9 =>
 vF (vk .geq 3 26 .i64 256 t26) (fun t27 h10 =>
 vD t27 (
 R (.int .i64 6) h10) (
 vC 56 #[s0] (fun t30 h11 =>
 vF (extract t30 0) (fun t31 h12 =>
 vF (extract t30 1) (fun t32 h13 =>
 vF (vk .neq 3 33 .i64 0 t31) (fun t34 h14 =>
 vD t34 (
 R t31 h14) (
 LoopC 1 (fun (X:VP)=>fun at9 h15 =>
 vF (nilS s0) (fun t38 h16 =>
 vF (fieldAt 68 t38 0) (fun t39 h17 =>
 vF (loadAt 66 t39) (fun t40 h18 =>
 vF (len_ #[66] 3 #[t40]) (fun t41 h19 =>
 vF (vt .lss 3 36 41 at9 t41) (fun t42 h20 =>
 vJ t42 true (vV s0) (fun t44 h22 =>
 vJ t42 true (vF (nilS t44)) (fun t45 h24 =>
 vJ t42 true (vF (fieldAt 68 t45 0)) (fun t46 h26 =>
 vJ t42 true (vF (loadAt 66 t46)) (fun t47 h28 =>
 vJ t42 true (vV at9) (fun t48 h30 =>
 vJ t42 true (vF (indexAt 66 t47 t48)) (fun t49 h32 =>
 vJ t42 true (vF (fieldAt 129 t49 0)) (fun t50 h34 =>
 vJ t42 true (vF (loadAt 9 t50)) (fun t51 h36 =>
 vJ t42 true (vV name1) (fun t52 h38 =>
 vJ t42 true (vF (vt .lss 9 51 52 t51 t52)) (fun t53 h40 =>
 vF (pickS t42 t53 (.bool false)) (fun t54 h41 =>
 vD t54 (
 vF (vk .add 3 55 .i64 1 at9) (fun t56 h42 =>
 X t56 h42) h41) (
 vF (nilS s0) (fun t58 h43 =>
 vF (fieldAt 68 t58 0) (fun t59 h44 =>
 vF (loadAt 66 t59) (fun t60 h45 =>
 vF (sliceAt 66 t60 none (some at9) none) (fun t62 h46 =>
 vF (append_ #[66,66] 66 #[(.slice none 0 0),t62]) (fun t63 h47 =>
 vF (build 129 #[(0,name1)]) (fun t66 h48 =>
 vF (buildSlice 66 1 #[(0,t66)]) (fun t67 h49 =>
 vF (append_ #[66,66] 66 #[t63,t67]) (fun t68 h50 =>
 vF (nilS s0) (fun t72 h51 =>
 vF (fieldAt 68 t72 0) (fun t73 h52 =>
 vF (loadAt 66 t73) (fun t74 h53 =>
 vF (sliceAt 66 t74 (some at9) none none) (fun t76 h54 =>
 vF (append_ #[66,66] 66 #[t68,t76]) (fun t77 h55 =>
 vF (nilS s0) (fun t78 h56 =>
 vF (fieldAt 68 t78 0) (fun t79 h57 =>
 vF (storeS 66 t79 t77) (fun _ h58 =>
 R (.int .i64 0) h58) h57) h56) h55) h54) h53) h52) h51) h50) h49) h48) h47) h46) h45) h44) h43) h41)) h40) h38) h36) h34) h32) h30) h28) h26) h24) h22) h20) h19) h18) h17) h16) h15) [(.int .i64 0)] h14 ⟨⟩)) h13) h12) h11) h10)) h9) h8) h7) h6) h5)) h4)) h3) h2) h1) h

theorem n27_calls {s0 name1:Value} {R:VP} {h:Heap} (H:n27 s0 name1 R h):CallsH Tryz.prog 27 #[s0,name1] h R ⟨⟩ :=
 callsH_of_eq Tryz.follow (.n none .l (.n none .l (.n none .l (.n none .l (.n none .l (.n none .l (.n none .l (.n none .l (.n none (.n none (.n (some [10]) .l .l) .l) .l))))))))) Tryz.func27 kR kR kR H

def n28 (s0 name1 size2:Value) (R:VP) (h:Heap):Prop :=
 vC 55 #[s0,name1] (fun t18 h1 =>
 vF (extract t18 0) (fun t19 h2 =>
 vF (extract t18 1) (fun t20 h3 =>
 vF (vk .neq 3 21 .i64 0 t20) (fun t22 h4 =>
 vD t22 (
 R t20 h4) (
 vF (vk .lss 2 24 .i64 0 size2) (fun t25 h5 =>
 vD t25 (
 R (.int .i64 4) h5) (
 vF (vk .gtr 2 26 .i64 268435456 size2) (fun t27 h6 =>
 vD t27 (
 R (.int .i64 6) h6) (
 vC 56 #[s0] (fun t30 h7 =>
 vF (extract t30 0) (fun t31 h8 =>
 vF (extract t30 1) (fun t32 h9 =>
 vF (vk .neq 3 33 .i64 0 t31) (fun t34 h10 =>
 vD t34 (
 R t31 h10) (
 vF (nilS s0) (fun t37 h11 =>
 vF (fieldAt 68 t37 0) (fun t38 h12 =>
 vF (loadAt 66 t38) (fun t39 h13 =>
 vF (indexAt 66 t39 t19) (fun t41 h14 =>
 vF (loadAt 129 t41) (fun t42 h15 =>
 vF (alloc 129 true undef) (fun x11 h16 =>
 vF (storeS 129 x11 t42) (fun _ h17 =>
 vG (fieldAt 129 x11 1) (fun t43 _ =>
 vG (loadAt 9 t43) (fun t44 _ =>
 vG (fieldAt 129 x11 1) (fun t46 _ =>
 vG (loadAt 9 t46) (fun t47 _ =>
 vG (len_ #[9] 3 #[t47]) (fun t48 _ =>
 vG (vt .sub 2 45 48 size2 t48) (fun t49 _ =>
 vC 57 #[t49] (fun t50 h18=>vG (loadAt 9 t43) (fun u _=>u=t44) h18 ∧
 vG (vt .add 9 44 50 t44 t50) (fun t51 _ =>
 vG (sliceAt 9 t51 none (some size2) none) (fun t53 _ =>
 vG (fieldAt 129 x11 1) (fun t54 _ =>
 vF (storeS 9 t54 t53) (fun _ h19 =>
 LoopC 2 (fun (X:Value→VP)=>fun l12 k13 h20 =>
 vF (fieldAt 129 x11 2) (fun t56 h21 =>
 vF (loadAt 127 t56) (fun t57 h22 =>
 vF (len_ #[127] 3 #[t57]) (fun t58 h23 =>
 vF (vt .lss 3 55 58 k13 t58) (fun t59 h24 =>
 vD t59 (
 JoinN 1 (fun (k:VP) h25 =>
 JoinN 1 (fun (k_1:VP) h26 =>
 vF (fieldAt 129 x11 2) (fun t62 h27 =>
 vF (loadAt 127 t62) (fun t63 h28 =>
 vF (indexAt 127 t63 k13) (fun t65 h29 =>
 vF (loadAt 132 t65) (fun t66 h30 =>
 vF (alloc 132 true undef) (fun p14 h31 =>
 vF (storeS 132 p14 t66) (fun _ h32 =>
 vF (fieldAt 132 p14 0) (fun t67 h33 =>
 vF (loadAt 2 t67) (fun t68 h34 =>
 vF (vt .lss 2 68 69 t68 size2) (fun t70 h35 =>
 vD t70 (
 vG (fieldAt 132 p14 0) (fun t72 _ =>
 vG (loadAt 2 t72) (fun t73 _ =>
 vG (fieldAt 132 p14 1) (fun t74 _ =>
 vG (loadAt 9 t74) (fun t75 _ =>
 vG (fieldAt 132 p14 1) (fun t76 _ =>
 vG (loadAt 9 t76) (fun t77 _ =>
 vG (len_ #[9] 3 #[t77]) (fun t78 _ =>
 vG (fieldAt 132 p14 0) (fun t80 _ =>
 vG (loadAt 2 t80) (fun t81 _ =>
 vG (vt .sub 2 79 81 size2 t81) (fun t82 _ =>
 vG (min_ #[2,2] 2 #[t78,t82]) (fun t83 _ =>
 vG (sliceAt 9 t75 none (some t83) none) (fun t84 _ =>
 vG (build 132 #[(0,t73),(1,t84)]) (fun t85 _ =>
 vF (buildSlice 127 1 #[(0,t85)]) (fun t86 h36 =>
 vF (append_ #[127,127] 127 #[l12,t86]) (fun t87 h37 =>
 k_1 t87 h37) h36) h35) #[]) #[]) #[]) #[]) h35) #[]) #[]) h35) #[]) h35) #[]) h35) #[]) (
 k_1 l12 h35)) h34) h33) h32) h31) h30) h29) h28) h27) h26)
 (fun l12_1 h38 =>
 k l12_1 h38) h25 ⟨⟩ ⟨⟩)
 (fun l12_2 h39 =>
 vF (vk .add 3 60 .i64 1 k13) (fun t61 h40 =>
 X l12_2 t61 h40) h39) h24 ⟨⟩ ⟨⟩) (
 vF (fieldAt 129 x11 2) (fun t89 h41 =>
 vF (storeS 127 t89 l12) (fun _ h42 =>
 vG (nilS s0) (fun t91 _ =>
 vG (fieldAt 68 t91 0) (fun t92 _ =>
 vG (loadAt 66 t92) (fun t93 _ =>
 vG (loadAt 129 x11) (fun t95 _ =>
 vG (indexAt 66 t93 t19) (fun t96 _ =>
 vF (storeS 129 t96 t95) (fun _ h43 =>
 R (.int .i64 0) h43) h42) #[]) h42) h42) #[]) #[]) h41) h24)) h23) h22) h21) h20) [(.slice none 0 0),(.int .i64 0)] h19 ⟨⟩) h18) #[]) #[]) #[]) h17) #[]) #[]) h17) #[]) h17) #[]) h16) h15) h14) h13) h12) h11) h10)) h9) h8) h7) h6)) h5)) h4)) h3) h2) h1) h

theorem n28_calls {s0 name1 size2:Value} {R:VP} {h:Heap} (H:n28 s0 name1 size2 R h):CallsH Tryz.prog 28 #[s0,name1,size2] h R ⟨⟩ :=
 callsH_of_eq Tryz.follow (.n none .l (.n none .l (.n none .l (.n none .l (.n none .l (.n none .l (.n none .l (.n none .l (.n none .l (.n none .l (.n none (.n none .l (.n none (.n (some [13,14]) (.n none .l (.n (some [13]) (.n (some [13]) .l .l) .l)) .l) .l)) .l))))))))))) Tryz.func28 kR kR kR H

def n29 (s0 name1 bits2 room3:Value) (R:VP) (h:Heap):Prop :=
 vF (vk .lss 3 12 .i64 9 bits2) (fun t13 h1 =>
 vJ t13 false (vV bits2) (fun t15 h3 =>
 vJ t13 false (vF (vk .gtr 3 15 .i64 16 t15)) (fun t16 h5 =>
 vF (pickS t13 (.bool true) t16) (fun t17 h6 =>
 vJ t17 false (vV room3) (fun t19 h8 =>
 vJ t17 false (vF (vk .lss 3 19 .i64 1 t19)) (fun t20 h10 =>
 vF (pickS t17 (.bool true) t20) (fun t21 h11 =>
 vJ t21 false (vV room3) (fun t23 h13 =>
 vJ t21 false (vF (vk .gtr 3 23 .i64 1024 t23)) (fun t24 h15 =>
 vF (pickS t21 (.bool true) t24) (fun t25 h16 =>
 vJ t25 false (vV name1) (fun t27 h18 =>
 vJ t25 false (vC 58 #[t27]) (fun t28 h20 =>
 vJ t25 false (vF (Op.unary .not t28)) (fun t29 h22 =>
 vF (pickS t25 (.bool true) t29) (fun t30 h23 =>
 vD t30 (
 R (.tuple #[(.pointer none),(.int .i64 2)]) h23) (
 vC 59 #[s0,name1,(.int .i64 0),(.int .i64 0)] (fun t34 h24 =>
 vF (extract t34 0) (fun t35 h25 =>
 vF (extract t34 1) (fun t36 h26 =>
 vF (vk .neq 3 37 .i64 0 t36) (fun t38 h27 =>
 vD t38 (
 R (.tuple #[(.pointer none),t36]) h27) (
 vF (build 139 #[(0,s0),(1,name1),(2,bits2),(3,room3)]) (fun t44 h28 =>
 vF (box 139 t44) (fun t45 h29 =>
 R (.tuple #[t45,(.int .i64 0)]) h29) h28) h27)) h26) h25) h24) h23)) h22) h20) h18) h16) h15) h13) h11) h10) h8) h6) h5) h3) h1) h

theorem n29_calls {s0 name1 bits2 room3:Value} {R:VP} {h:Heap} (H:n29 s0 name1 bits2 room3 R h):CallsH Tryz.prog 29 #[s0,name1,bits2,room3] h R ⟨⟩ :=
 callsH_of_eq Tryz.follow .l Tryz.func29 kR kR kR H

def n30 (o0 s1:Value) (R:VP) (h:Heap):Prop :=
 vF (box 73 o0) (fun o2 h1 =>
 vF (box 35 s1) (fun s3 h2 =>
 JoinN 0 (fun (k:Heap→Prop) h3 =>
 vF (fieldAt 35 s3 0) (fun t15 h4 =>
 vF (loadAt 3 t15) (fun t16 h5 =>
 JoinN 0 (fun (k_1:Heap→Prop) h6 =>
 vF (vk .eql 3 16 .i64 0 t16) (fun t18 h7 =>
 vD t18 (
 vF (fieldAt 73 o2 1) (fun t20 h8 =>
 vF (loadAt 28 t20) (fun t21 h9 =>
 vF (fieldAt 35 s3 3) (fun t22 h10 =>
 vF (loadAt 2 t22) (fun t23 h11 =>
 vF (fieldAt 35 s3 1) (fun t24 h12 =>
 vF (loadAt 3 t24) (fun t25 h13 =>
 vF (fieldAt 35 s3 2) (fun t26 h14 =>
 vF (loadAt 3 t26) (fun t27 h15 =>
 vC 12 #[t21,t23,t25,t27] (fun t28 h16 =>
 vF (extract t28 0) (fun t29 h17 =>
 vF (extract t28 1) (fun t30 h18 =>
 vF (fieldAt 73 o2 2) (fun t32 h19 =>
 vF (loadAt 69 t32) (fun t33 h20 =>
 vF (fieldAt 35 s3 3) (fun t34 h21 =>
 vF (loadAt 2 t34) (fun t35 h22 =>
 vF (fieldAt 35 s3 1) (fun t36 h23 =>
 vF (loadAt 3 t36) (fun t37 h24 =>
 vF (fieldAt 35 s3 2) (fun t38 h25 =>
 vF (loadAt 3 t38) (fun t39 h26 =>
 vC 60 #[t33,t35,t37,t39] (fun t40 h27 =>
 vF (extract t40 0) (fun t41 h28 =>
 vF (extract t40 1) (fun t42 h29 =>
 vF (convert 33 9 t29) (fun t44 h30 =>
 vF (convert 33 9 t41) (fun t46 h31 =>
 vF (vt .eql 9 44 46 t44 t46) (fun t47 h32 =>
 vJ t47 true (vV t30) (fun t49 h34 =>
 vJ t47 true (vC 11 #[t49]) (fun t50 h36 =>
 vJ t47 true (vV t42) (fun t51 h38 =>
 vJ t47 true (vF (vt .eql 3 50 51 t50 t51)) (fun t52 h40 =>
 vF (pickS t47 t52 (.bool false)) (fun t53 h41 =>
 LoopC 1 (fun (X:VP)=>fun i10 h42 =>
 vF (len_ #[33] 3 #[t29]) (fun t56 h43 =>
 vF (vt .lss 3 54 56 i10 t56) (fun t57 h44 =>
 vD t57 (
 vF (indexAt 33 t29 i10) (fun t62 h45 =>
 vF (loadAt 5 t62) (fun t63 h46 =>
 vF (vk .xor 5 63 .u8 255 t63) (fun t64 h47 =>
 vF (indexAt 33 t29 i10) (fun t65 h48 =>
 vF (storeS 5 t65 t64) (fun _ h49 =>
 vF (vk .add 3 58 .i64 1 i10) (fun t59 h50 =>
 X t59 h50) h49) h48) h47) h46) h45) h44) (
 R t53 h44)) h43) h42) [(.int .i64 0)] h41 ⟨⟩) h40) h38) h36) h34) h32) h31) h30) h29) h28) h27) h26) h25) h24) h23) h22) h21) h20) h19) h18) h17) h16) h15) h14) h13) h12) h11) h10) h9) h8) h7) (
 JoinN 1 (fun (k_6:VP) h51 =>
 vF (vk .eql 3 16 .i64 1 t16) (fun t68 h52 =>
 vD t68 (
 k_6 t68 h52) (
 vF (vk .eql 3 16 .i64 2 t16) (fun t69 h53 =>
 vD t69 (
 k_6 t69 h53) (
 vF (vk .eql 3 16 .i64 3 t16) (fun t70 h54 =>
 k_6 t70 h54) h53)) h52)) h51)
 (fun t67 h55 =>
 vD t67 (
 JoinN 1 (fun (k_7:VP) h56 =>
 vG (fieldAt 35 s3 5) (fun t72 _ =>
 vG (loadAt 33 t72) (fun t73 _ =>
 vG (fieldAt 35 s3 5) (fun t77 _ =>
 vG (loadAt 33 t77) (fun t78 _ =>
 vG (len_ #[33] 3 #[t78]) (fun t79 _ =>
 ((
 vF (buildSlice 33 0 #[]) (fun t71 h57=>vG (loadAt 33 t77) (fun u _=>u=t78) h57∧vG (loadAt 33 t72) (fun u _=>u=t73) h57 ∧
 ((
 vF (append_ #[33,33] 33 #[t71,t73]) (fun t74 h58=>vG (loadAt 33 t77) (fun u _=>u=t78) h58 ∧
 vF (buildSlice 33 1 #[(0,(.int .u8 165))]) (fun t75 h59=>vG (loadAt 33 t77) (fun u _=>u=t78) h59∧vG (loadAt 33 t72) (fun u _=>u=t73) h59 ∧
 vF (append_ #[33,33] 33 #[t74,t75]) (fun t76 h60=>vG (loadAt 33 t77) (fun u _=>u=t78) h60 ∧
 vG (sliceAt 33 t76 none (some t79) none) (fun t80 _ =>
 k_7 t80 h60) #[]) h59) h58) h57)∧(
 vF (buildSlice 33 1 #[(0,(.int .u8 165))]) (fun t75_1 h61=>vG (loadAt 33 t77) (fun u _=>u=t78) h61∧vG (loadAt 33 t72) (fun u _=>u=t73) h61 ∧
 vF (append_ #[33,33] 33 #[t71,t73]) (fun t74_1 h62=>vG (loadAt 33 t77) (fun u _=>u=t78) h62 ∧
 vF (append_ #[33,33] 33 #[t74_1,t75_1]) (fun t76_1 h63=>vG (loadAt 33 t77) (fun u _=>u=t78) h63 ∧
 vG (sliceAt 33 t76_1 none (some t79) none) (fun t80_1 _ =>
 k_7 t80_1 h63) #[]) h62) h61) h57))) h56)∧(
 vF (buildSlice 33 1 #[(0,(.int .u8 165))]) (fun t75_2 h64=>vG (loadAt 33 t77) (fun u _=>u=t78) h64∧vG (loadAt 33 t72) (fun u _=>u=t73) h64 ∧
 vF (buildSlice 33 0 #[]) (fun t71_1 h65=>vG (loadAt 33 t77) (fun u _=>u=t78) h65∧vG (loadAt 33 t72) (fun u _=>u=t73) h65 ∧
 vF (append_ #[33,33] 33 #[t71_1,t73]) (fun t74_2 h66=>vG (loadAt 33 t77) (fun u _=>u=t78) h66 ∧
 vF (append_ #[33,33] 33 #[t74_2,t75_2]) (fun t76_2 h67=>vG (loadAt 33 t77) (fun u _=>u=t78) h67 ∧
 vG (sliceAt 33 t76_2 none (some t79) none) (fun t80_2 _ =>
 k_7 t80_2 h67) #[]) h66) h65) h64) h56))) #[]) h56) #[]) h56) #[])
 (fun m11 h68 =>
 vF (fieldAt 73 o2 1) (fun t81 h69 =>
 vF (loadAt 28 t81) (fun t82 h70 =>
 vF (fieldAt 35 s3 3) (fun t83 h71 =>
 vF (loadAt 2 t83) (fun t84 h72 =>
 vF (fieldAt 35 s3 1) (fun t85 h73 =>
 vF (loadAt 3 t85) (fun t86 h74 =>
 vC 13 #[t82,t84,t86,m11] (fun t88 h75 =>
 vG (convert 33 9 m11) (fun t90 _ =>
 vG (fieldAt 35 s3 5) (fun t91 _ =>
 vG (loadAt 33 t91) (fun t92 _ =>
 vG (convert 33 9 t92) (fun t93 _ =>
 vG (vt .eql 9 90 93 t90 t93) (fun t94 _ =>
 vJ t94 true (vV m11) (fun t96 _ =>
 vJ t94 true (vG (fieldAt 35 s3 5)) (fun t97 _ =>
 vJ t94 true (vG (loadAt 33 t97)) (fun t98 _ =>
 vJ t94 true (vG (len_ #[33] 3 #[t98])) (fun t99 _ =>
 vJ t94 true (vG (vk .add 3 99 .i64 1 t99)) (fun t100 _ =>
 vJ t94 true (vG (sliceAt 33 t96 none (some t100) none)) (fun t101 _ =>
 vJ t94 true (vG (fieldAt 35 s3 5)) (fun t102 _ =>
 vJ t94 true (vG (loadAt 33 t102)) (fun t103 _ =>
 vJ t94 true (vG (len_ #[33] 3 #[t103])) (fun t104 _ =>
 vJ t94 true (vG (indexAt 33 t101 t104)) (fun t105 _ =>
 vJ t94 true (vG (loadAt 5 t105)) (fun t106 _ =>
 vJ t94 true (vG (vk .eql 5 106 .u8 165 t106)) (fun t107 _ =>
 vG (pickS t94 t107 (.bool false)) (fun t108 _ =>
 LoopC 1 (fun (X_1:VP)=>fun i14 h88 =>
 vF (len_ #[33] 3 #[m11]) (fun t111 h89 =>
 vF (vt .lss 3 109 111 i14 t111) (fun t112 h90 =>
 vD t112 (
 vF (indexAt 33 m11 i14) (fun t117 h91 =>
 vF (loadAt 5 t117) (fun t118 h92 =>
 vF (vk .xor 5 118 .u8 255 t118) (fun t119 h93 =>
 vF (indexAt 33 m11 i14) (fun t120 h94 =>
 vF (storeS 5 t120 t119) (fun _ h95 =>
 vF (vk .add 3 113 .i64 1 i14) (fun t114 h96 =>
 X_1 t114 h96) h95) h94) h93) h92) h91) h90) (
 vJ t108 true (vV t88) (fun t123 _ =>
 vJ t108 true (vG (fieldAt 73 o2 2)) (fun t125 _ =>
 vJ t108 true (vG (loadAt 69 t125)) (fun t126 _ =>
 vJ t108 true (vG (fieldAt 35 s3 3)) (fun t127 _ =>
 vJ t108 true (vG (loadAt 2 t127)) (fun t128 _ =>
 vJ t108 true (vG (fieldAt 35 s3 1)) (fun t129 _ =>
 vJ t108 true (vG (loadAt 3 t129)) (fun t130 _ =>
 vJ t108 true (vG (fieldAt 35 s3 5)) (fun t131 _ =>
 vJ t108 true (vG (loadAt 33 t131)) (fun t132 _ =>
 vJ t108 true (vC 11 #[t123]) (fun t124 h107=>vJ t108 true (vG (loadAt 33 t131)) (fun u _=>u=t132) h107∧vJ t108 true (vG (loadAt 3 t129)) (fun u _=>u=t130) h107∧vJ t108 true (vG (loadAt 2 t127)) (fun u _=>u=t128) h107∧vJ t108 true (vG (loadAt 69 t125)) (fun u _=>u=t126) h107 ∧
 vJ t108 true (vC 61 #[t126,t128,t130,t132]) (fun t133 h109 =>
 vJ t108 true (vG (vt .eql 3 124 133 t124 t133)) (fun t134 _ =>
 vG (pickS t108 t134 (.bool false)) (fun t135 _ =>
 R t135 h109) #[]) #[]) h107) h90) h90) #[]) h90) #[]) h90) #[]) h90) #[]) #[])) h89) h88) [(.int .i64 0)] h75 ⟨⟩) #[]) #[]) h75) #[]) #[]) h75) #[]) #[]) #[]) #[]) h75) #[]) #[]) #[]) h75) h75) #[]) h75) h74) h73) h72) h71) h70) h69) h68) h55 ⟨⟩ ⟨⟩) (
 JoinN 1 (fun (k_32:VP) h111 =>
 vF (vk .eql 3 16 .i64 4 t16) (fun t137 h112 =>
 vD t137 (
 k_32 t137 h112) (
 vF (vk .eql 3 16 .i64 5 t16) (fun t138 h113 =>
 k_32 t138 h113) h112)) h111)
 (fun t136 h114 =>
 vD t136 (
 vG (fieldAt 73 o2 1) (fun t139 _ =>
 vG (loadAt 28 t139) (fun t140 _ =>
 vG (fieldAt 35 s3 3) (fun t141 _ =>
 vG (loadAt 2 t141) (fun t142 _ =>
 vG (fieldAt 35 s3 4) (fun t143 _ =>
 vG (loadAt 2 t143) (fun t144 _ =>
 vG (fieldAt 73 o2 2) (fun t147 _ =>
 vG (loadAt 69 t147) (fun t148 _ =>
 vG (fieldAt 35 s3 3) (fun t149 _ =>
 vG (loadAt 2 t149) (fun t150 _ =>
 vG (fieldAt 35 s3 4) (fun t151 _ =>
 vG (loadAt 2 t151) (fun t152 _ =>
 vC 14 #[t140,t142,t144] (fun t145 h115=>vG (loadAt 2 t151) (fun u _=>u=t152) h115∧vG (loadAt 2 t149) (fun u _=>u=t150) h115∧vG (loadAt 69 t147) (fun u _=>u=t148) h115 ∧
 vC 11 #[t145] (fun t146 h116=>vG (loadAt 2 t151) (fun u _=>u=t152) h116∧vG (loadAt 2 t149) (fun u _=>u=t150) h116∧vG (loadAt 69 t147) (fun u _=>u=t148) h116 ∧
 vC 62 #[t148,t150,t152] (fun t153 h117 =>
 vG (vt .eql 3 146 153 t146 t153) (fun t154 _ =>
 R t154 h117) #[]) h116) h115) h114) h114) #[]) h114) #[]) h114) #[]) h114) #[]) h114) #[]) h114) #[]) (
 vF (vk .eql 3 16 .i64 6 t16) (fun t156 h118 =>
 vD t156 (
 vG (fieldAt 73 o2 1) (fun t157 _ =>
 vG (loadAt 28 t157) (fun t158 _ =>
 vG (fieldAt 35 s3 3) (fun t159 _ =>
 vG (loadAt 2 t159) (fun t160 _ =>
 vG (fieldAt 73 o2 2) (fun t163 _ =>
 vG (loadAt 69 t163) (fun t164 _ =>
 vG (fieldAt 35 s3 3) (fun t165 _ =>
 vG (loadAt 2 t165) (fun t166 _ =>
 vC 15 #[t158,t160] (fun t161 h119=>vG (loadAt 2 t165) (fun u _=>u=t166) h119∧vG (loadAt 69 t163) (fun u _=>u=t164) h119 ∧
 vC 11 #[t161] (fun t162 h120=>vG (loadAt 2 t165) (fun u _=>u=t166) h120∧vG (loadAt 69 t163) (fun u _=>u=t164) h120 ∧
 vC 63 #[t164,t166] (fun t167 h121 =>
 vG (vt .eql 3 162 167 t162 t167) (fun t168 _ =>
 R t168 h121) #[]) h120) h119) h118) h118) #[]) h118) #[]) h118) #[]) h118) #[]) (
 vF (vk .eql 3 16 .i64 7 t16) (fun t170 h122 =>
 vD t170 (
 vG (fieldAt 73 o2 1) (fun t171 _ =>
 vG (loadAt 28 t171) (fun t172 _ =>
 vG (fieldAt 73 o2 2) (fun t175 _ =>
 vG (loadAt 69 t175) (fun t176 _ =>
 vC 16 #[t172] (fun t173 h123=>vG (loadAt 69 t175) (fun u _=>u=t176) h123 ∧
 vC 11 #[t173] (fun t174 h124=>vG (loadAt 69 t175) (fun u _=>u=t176) h124 ∧
 vC 64 #[t176] (fun t177 h125 =>
 vG (vt .eql 3 174 177 t174 t177) (fun t178 _ =>
 R t178 h125) #[]) h124) h123) h122) h122) #[]) h122) #[]) (
 vF (vk .eql 3 16 .i64 8 t16) (fun t180 h126 =>
 vD t180 (
 vG (fieldAt 73 o2 1) (fun t181 _ =>
 vG (loadAt 28 t181) (fun t182 _ =>
 vG (fieldAt 35 s3 3) (fun t183 _ =>
 vG (loadAt 2 t183) (fun t184 _ =>
 vG (fieldAt 73 o2 2) (fun t187 _ =>
 vG (loadAt 69 t187) (fun t188 _ =>
 vG (fieldAt 35 s3 3) (fun t189 _ =>
 vG (loadAt 2 t189) (fun t190 _ =>
 vC 24 #[t182,t184] (fun t185 h127=>vG (loadAt 2 t189) (fun u _=>u=t190) h127∧vG (loadAt 69 t187) (fun u _=>u=t188) h127 ∧
 vC 11 #[t185] (fun t186 h128=>vG (loadAt 2 t189) (fun u _=>u=t190) h128∧vG (loadAt 69 t187) (fun u _=>u=t188) h128 ∧
 vC 65 #[t188,t190] (fun t191 h129 =>
 vG (vt .eql 3 186 191 t186 t191) (fun t192 _ =>
 R t192 h129) #[]) h128) h127) h126) h126) #[]) h126) #[]) h126) #[]) h126) #[]) (
 vF (vk .eql 3 16 .i64 9 t16) (fun t194 h130 =>
 vD t194 (
 vF (fieldAt 73 o2 0) (fun t195 h131 =>
 vF (loadAt 26 t195) (fun t196 h132 =>
 vC 66 #[t196,(str [102])] (fun t197 h133 =>
 vC 11 #[t197] (fun t198 h134 =>
 vF (vk .eql 3 198 .i64 7 t198) (fun t199 h135 =>
 vD t199 (
 vG (fieldAt 73 o2 2) (fun t200 _ =>
 vG (loadAt 69 t200) (fun t201 _ =>
 vG (nilS t201) (fun t202 _ =>
 vG (fieldAt 139 t202 0) (fun t203 _ =>
 vG (loadAt 62 t203) (fun t204 _ =>
 vC 67 #[t204,(str [102])] (fun t205 h136 =>
 vG (vk .eql 3 205 .i64 7 t205) (fun t206 _ =>
 vJ t206 true (vG (fieldAt 73 o2 0)) (fun t208 _ =>
 vJ t206 true (vG (loadAt 26 t208)) (fun t209 _ =>
 vJ t206 true (vG (fieldAt 73 o2 2)) (fun t212 _ =>
 vJ t206 true (vG (loadAt 69 t212)) (fun t213 _ =>
 vJ t206 true (vG (nilS t213)) (fun t214 _ =>
 vJ t206 true (vG (fieldAt 139 t214 0)) (fun t215 _ =>
 vJ t206 true (vG (loadAt 62 t215)) (fun t216 _ =>
 vJ t206 true (vC 36 #[t209,(str [102])]) (fun t210 h145=>vJ t206 true (vG (loadAt 62 t215)) (fun u _=>u=t216) h145∧vJ t206 true (vG (loadAt 69 t212)) (fun u _=>u=t213) h145 ∧
 vJ t206 true (vC 11 #[t210]) (fun t211 h147=>vJ t206 true (vG (loadAt 62 t215)) (fun u _=>u=t216) h147∧vJ t206 true (vG (loadAt 69 t212)) (fun u _=>u=t213) h147 ∧
 vJ t206 true (vC 27 #[t216,(str [102])]) (fun t217 h149 =>
 vJ t206 true (vG (vt .eql 3 211 217 t211 t217)) (fun t218 _ =>
 vG (pickS t206 t218 (.bool false)) (fun t219 _ =>
 R t219 h149) #[]) #[]) h147) h145) h136) h136) #[]) #[]) h136) #[]) h136) #[]) #[]) h135) h135) #[]) #[]) h135) #[]) (
 vF (fieldAt 73 o2 2) (fun t220 h151 =>
 vF (loadAt 69 t220) (fun t221 h152 =>
 vF (nilS t221) (fun t222 h153 =>
 vF (fieldAt 139 t222 0) (fun t223 h154 =>
 vF (loadAt 62 t223) (fun t224 h155 =>
 vC 67 #[t224,(str [102])] (fun t225 h156 =>
 k_1 h156) h155) h154) h153) h152) h151) h135)) h134) h133) h132) h131) h130) (
 k_1 h130)) h126)) h122)) h118)) h114)) h55 ⟨⟩ ⟨⟩)) h7 ⟨⟩ ⟨⟩)) h6)
 (fun h157 =>
 k h157) h5 ⟨⟩ ⟨⟩) h4) h3)
 (fun h158 =>
 R (.bool true) h158) h2 ⟨⟩ ⟨⟩) h1) h

theorem n30_calls {o0 s1:Value} {R:VP} {h:Heap} (H:n30 o0 s1 R h):CallsH Tryz.prog 30 #[o0,s1] h R ⟨⟩ :=
 callsH_of_eq Tryz.follow (.n none .l (.n (some []) (.n none .l (.n (some []) (.n none .l (.n none (.n none .l (.n none .l (.n none .l (.n none (.n none .l (.n none (.n (some [11]) .l .l) .l)) .l)))) (.n (some [68]) .l (.n none (.n (some [12]) .l (.n none .l (.n none .l (.n none (.n none .l (.n none (.n (some [15]) .l .l) .l)) .l)))) (.n (some [137]) .l .l))))) .l)) .l)) Tryz.func30 kR kR kR H

def n31 (o0:Value) (R:VP) (h:Heap):Prop :=
 vF (box 73 o0) (fun o1 h1 =>
 vF (alloc 4 true undef) (fun t2 h2 =>
 vF (fieldAt 73 o1 1) (fun t19 h3 =>
 vF (loadAt 28 t19) (fun t20 h4 =>
 vC 33 #[t20] (fun t21 h5 =>
 vG (fieldAt 73 o1 2) (fun t23 _ =>
 vG (loadAt 69 t23) (fun t24 _ =>
 vG (nilS t24) (fun t25 _ =>
 vG (fieldAt 139 t25 4) (fun t26 _ =>
 vG (loadAt 136 t26) (fun t27 _ =>
 vC 68 #[t21,t27,(.int .i64 1)] (fun t28 h6 =>
 vG (Op.unary .not t28) (fun t29 _ =>
 vJ t29 false (vV t21) (fun t31 _ =>
 vJ t29 false (vG (fieldAt 73 o1 2)) (fun t32 _ =>
 vJ t29 false (vG (loadAt 69 t32)) (fun t33 _ =>
 vJ t29 false (vG (nilS t33)) (fun t34 _ =>
 vJ t29 false (vG (fieldAt 139 t34 4)) (fun t35 _ =>
 vJ t29 false (vG (loadAt 136 t35)) (fun t36 _ =>
 vJ t29 false (vC 68 #[t31,t36,(.int .i64 0)]) (fun t37 h14 =>
 vJ t29 false (vG (Op.unary .not t37)) (fun t38 _ =>
 vG (pickS t29 (.bool true) t38) (fun t39 _ =>
 vJ t39 false (vG (fieldAt 73 o1 1)) (fun t41 _ =>
 vJ t39 false (vG (loadAt 28 t41)) (fun t42 _ =>
 vJ t39 false (vG (fieldAt 73 o1 2)) (fun t44 _ =>
 vJ t39 false (vG (loadAt 69 t44)) (fun t45 _ =>
 vJ t39 false (vG (nilS t45)) (fun t46 _ =>
 vJ t39 false (vG (fieldAt 139 t46 8)) (fun t47 _ =>
 vJ t39 false (vG (loadAt 81 t47)) (fun t48 _ =>
 vJ t39 false (vC 34 #[t42]) (fun t43 h24=>vJ t39 false (vG (loadAt 81 t47)) (fun u _=>u=t48) h24∧vJ t39 false (vG (loadAt 69 t44)) (fun u _=>u=t45) h24 ∧
 vJ t39 false (vG (vt .neq 81 43 48 t43 t48)) (fun t49 _ =>
 vG (pickS t39 (.bool true) t49) (fun t50 _ =>
 vD t50 (
 vF (storeS 4 t2 (.bool false)) (fun _ h26 =>
 RetD (.tuple #[]) h26 (fun h27 =>
 vG (loadCell 4 t2) (fun r _ =>
 R r h27) h27) ⟨⟩) h24) (
 LoopC 1 (fun (X:VP)=>fun p4 h28 =>
 vF (vk .lss 2 51 .i64 12 p4) (fun t52 h29 =>
 vD t52 (
 vF (fieldAt 73 o1 1) (fun t56 h30 =>
 vF (loadAt 28 t56) (fun t57 h31 =>
 vC 53 #[t57,p4] (fun t59 h32 =>
 vF (extract t59 0) (fun t60 h33 =>
 vF (extract t59 1) (fun t61 h34 =>
 vF (alloc 121 true undef) (fun x5 h35 =>
 vF (storeS 121 x5 t60) (fun _ h36 =>
 vF (fieldAt 73 o1 2) (fun t63 h37 =>
 vF (loadAt 69 t63) (fun t64 h38 =>
 vC 69 #[t64,p4] (fun t66 h39 =>
 vF (extract t66 0) (fun t67 h40 =>
 vF (extract t66 1) (fun t68 h41 =>
 vF (alloc 121 true undef) (fun y7 h42 =>
 vF (storeS 121 y7 t67) (fun _ h43 =>
 vF (fieldAt 121 x5 0) (fun t69 h44 =>
 vF (loadAt 4 t69) (fun t70 h45 =>
 vF (fieldAt 121 y7 0) (fun t71 h46 =>
 vF (loadAt 4 t71) (fun t72 h47 =>
 vF (vt .neq 4 70 72 t70 t72) (fun t73 h48 =>
 vJ t73 false (vF (fieldAt 121 x5 1)) (fun t75 h50 =>
 vJ t73 false (vF (loadAt 4 t75)) (fun t76 h52 =>
 vJ t73 false (vF (fieldAt 121 y7 1)) (fun t77 h54 =>
 vJ t73 false (vF (loadAt 4 t77)) (fun t78 h56 =>
 vJ t73 false (vF (vt .neq 4 76 78 t76 t78)) (fun t79 h58 =>
 vF (pickS t73 (.bool true) t79) (fun t80 h59 =>
 vJ t80 false (vF (fieldAt 121 x5 2)) (fun t82 h61 =>
 vJ t80 false (vF (loadAt 102 t82)) (fun t83 h63 =>
 vJ t80 false (vF (fieldAt 121 y7 2)) (fun t84 h65 =>
 vJ t80 false (vF (loadAt 102 t84)) (fun t85 h67 =>
 vJ t80 false (vC 70 #[t83,t85]) (fun t86 h69 =>
 vJ t80 false (vF (Op.unary .not t86)) (fun t87 h71 =>
 vF (pickS t80 (.bool true) t87) (fun t88 h72 =>
 vJ t88 false (vV t61) (fun t90 h74 =>
 vJ t88 false (vC 11 #[t90]) (fun t91 h76 =>
 vJ t88 false (vV t68) (fun t92 h78 =>
 vJ t88 false (vF (vt .neq 3 91 92 t91 t92)) (fun t93 h80 =>
 vF (pickS t88 (.bool true) t93) (fun t94 h81 =>
 vD t94 (
 vF (storeS 4 t2 (.bool false)) (fun _ h82 =>
 RetD (.tuple #[]) h82 (fun h83 =>
 vG (loadCell 4 t2) (fun r_1 _ =>
 R r_1 h83) h83) ⟨⟩) h81) (
 vF (vk .add 2 53 .i64 1 p4) (fun t54 h84 =>
 X t54 h84) h81)) h80) h78) h76) h74) h72) h71) h69) h67) h65) h63) h61) h59) h58) h56) h54) h52) h50) h48) h47) h46) h45) h44) h43) h42) h41) h40) h39) h38) h37) h36) h35) h34) h33) h32) h31) h30) h29) (
 vF (fieldAt 73 o1 0) (fun t96 h85 =>
 vF (loadAt 26 t96) (fun t97 h86 =>
 vC 71 #[t97] (fun t98 h87 =>
 vF (extract t98 0) (fun t99 h88 =>
 vF (extract t98 1) (fun t100 h89 =>
 vF (fieldAt 73 o1 2) (fun t102 h90 =>
 vF (loadAt 69 t102) (fun t103 h91 =>
 vF (nilS t103) (fun t104 h92 =>
 vF (fieldAt 139 t104 0) (fun t105 h93 =>
 vF (loadAt 62 t105) (fun t106 h94 =>
 vF (nilS t106) (fun t107 h95 =>
 vF (fieldAt 68 t107 2) (fun t108 h96 =>
 vF (loadAt 3 t108) (fun t109 h97 =>
 vF (vt .neq 3 101 109 t99 t109) (fun t110 h98 =>
 vJ t110 false (vV t100) (fun t112 h100 =>
 vJ t110 false (vF (fieldAt 73 o1 2)) (fun t113 h102 =>
 vJ t110 false (vF (loadAt 69 t113)) (fun t114 h104 =>
 vJ t110 false (vF (nilS t114)) (fun t115 h106 =>
 vJ t110 false (vF (fieldAt 139 t115 0)) (fun t116 h108 =>
 vJ t110 false (vF (loadAt 62 t116)) (fun t117 h110 =>
 vJ t110 false (vF (nilS t117)) (fun t118 h112 =>
 vJ t110 false (vF (fieldAt 68 t118 1)) (fun t119 h114 =>
 vJ t110 false (vF (loadAt 48 t119)) (fun t120 h116 =>
 vJ t110 false (vF (len_ #[48] 3 #[t120])) (fun t121 h118 =>
 vJ t110 false (vF (vt .neq 3 112 121 t112 t121)) (fun t122 h120 =>
 vF (pickS t110 (.bool true) t122) (fun t123 h121 =>
 vD t123 (
 vF (storeS 4 t2 (.bool false)) (fun _ h122 =>
 RetD (.tuple #[]) h122 (fun h123 =>
 vG (loadCell 4 t2) (fun r_2 _ =>
 R r_2 h123) h123) ⟨⟩) h121) (
 vF (fieldAt 73 o1 0) (fun t125 h124 =>
 vF (loadAt 26 t125) (fun t126 h125 =>
 vC 18 #[t126,(str [102])] (fun t127 h126 =>
 vF (extract t127 0) (fun t128 h127 =>
 vF (extract t127 1) (fun t129 h128 =>
 vF (fieldAt 73 o1 2) (fun t130 h129 =>
 vF (loadAt 69 t130) (fun t131 h130 =>
 vF (nilS t131) (fun t132 h131 =>
 vF (fieldAt 139 t132 0) (fun t133 h132 =>
 vF (loadAt 62 t133) (fun t134 h133 =>
 vF (nilS t134) (fun t135 h134 =>
 vF (fieldAt 68 t135 0) (fun t136 h135 =>
 vF (loadAt 66 t136) (fun t137 h136 =>
 vF (len_ #[66] 3 #[t137]) (fun t138 h137 =>
 vF (vk .eql 3 138 .i64 0 t138) (fun t139 h138 =>
 vD t139 (
 vC 11 #[t129] (fun t141 h139 =>
 vF (vk .eql 3 141 .i64 7 t141) (fun t142 h140 =>
 vF (storeS 4 t2 t142) (fun _ h141 =>
 RetD (.tuple #[]) h141 (fun h142 =>
 vG (loadCell 4 t2) (fun r_3 _ =>
 R r_3 h142) h142) ⟨⟩) h140) h139) h138) (
 vF (fieldAt 73 o1 2) (fun t143 h143 =>
 vF (loadAt 69 t143) (fun t144 h144 =>
 vF (nilS t144) (fun t145 h145 =>
 vF (fieldAt 139 t145 0) (fun t146 h146 =>
 vF (loadAt 62 t146) (fun t147 h147 =>
 vF (nilS t147) (fun t148 h148 =>
 vF (fieldAt 68 t148 0) (fun t149 h149 =>
 vF (loadAt 66 t149) (fun t150 h150 =>
 vF (indexAt 66 t150 (.int .i64 0)) (fun t151 h151 =>
 vF (loadAt 129 t151) (fun t152 h152 =>
 vF (alloc 129 true undef) (fun f13 h153 =>
 vF (storeS 129 f13 t152) (fun _ h154 =>
 vF (fieldAt 73 o1 0) (fun t154 h155 =>
 vF (loadAt 26 t154) (fun t155 h156 =>
 vC 19 #[t155,(str [102]),(.int .i64 0),t128] (fun t157 h157 =>
 vF (extract t157 0) (fun t158 h158 =>
 vF (extract t157 1) (fun t159 h159 =>
 vC 11 #[t129] (fun t161 h160 =>
 vG (vk .neq 3 161 .i64 0 t161) (fun t162 _ =>
 vJ t162 false (vV t159) (fun t164 _ =>
 vJ t162 false (vC 11 #[t164]) (fun t165 h163 =>
 vJ t162 false (vG (vk .neq 3 165 .i64 0 t165)) (fun t166 _ =>
 vG (pickS t162 (.bool true) t166) (fun t167 _ =>
 vJ t167 false (vV t158) (fun t169 _ =>
 vJ t167 false (vG (convert 33 9 t169)) (fun t170 _ =>
 vJ t167 false (vG (loadAt 129 f13)) (fun t171 _ =>
 vJ t167 false (vC 72 #[t171]) (fun t172 h169=>vJ t167 false (vG (convert 33 9 t169)) (fun u _=>u=t170) h169 ∧
 vJ t167 false (vG (vt .neq 9 170 172 t170 t172)) (fun t173 _ =>
 vG (pickS t167 (.bool true) t173) (fun t174 _ =>
 vD t174 (
 vF (storeS 4 t2 (.bool false)) (fun _ h171 =>
 RetD (.tuple #[]) h171 (fun h172 =>
 vG (loadCell 4 t2) (fun r_4 _ =>
 R r_4 h172) h172) ⟨⟩) h169) (
 vF (fieldAt 73 o1 0) (fun t175 h173 =>
 vF (loadAt 26 t175) (fun t176 h174 =>
 vC 49 #[t176,(str [102])] (fun t177 h175 =>
 vF (alloc 3 true undef) (fun at16 h176 =>
 vF (storeS 3 at16 (.int .i64 0)) (fun _ h177 =>
 vF (binS .eql 108 (.tmp 178) (.const .nilFunc) t177 .nilFunc) (fun t179 h178 =>
 vD t179 (
 vF (storeS 4 t2 (.bool false)) (fun _ h179 =>
 RetD (.tuple #[]) h179 (fun h180 =>
 vG (loadCell 4 t2) (fun r_5 _ =>
 R r_5 h180) h180) ⟨⟩) h178) (
 JoinN 1 (fun (k_51:VP) h181 =>
 JoinN 1 (fun (k_52:VP) h182 =>
 RangeC Tryz.prog none t177 1 (.tuple #[]) (fun l args bg Nb Jb h183 =>
 vF (alloc 150 true undef) (fun p18 h185 =>
 vF (storeS 150 p18 (getV args 0)) (fun _ h186 =>
 bg (fun h184 =>
 vG (loadAt 3 at16) (fun t182 _ =>
 vG (fieldAt 129 f13 2) (fun t183 _ =>
 vG (loadAt 127 t183) (fun t184 _ =>
 vG (len_ #[127] 3 #[t184]) (fun t185 _ =>
 vG (vt .geq 3 182 185 t182 t185) (fun t186 _ =>
 vJ t186 false (vG (fieldAt 150 p18 0)) (fun t188 _ =>
 vJ t186 false (vG (loadAt 2 t188)) (fun t189 _ =>
 vJ t186 false (vG (fieldAt 129 f13 2)) (fun t190 _ =>
 vJ t186 false (vG (loadAt 127 t190)) (fun t191 _ =>
 vJ t186 false (vG (loadAt 3 at16)) (fun t192 _ =>
 vJ t186 false (vG (indexAt 127 t191 t192)) (fun t193 _ =>
 vJ t186 false (vG (fieldAt 132 t193 0)) (fun t194 _ =>
 vJ t186 false (vG (loadAt 2 t194)) (fun t195 _ =>
 vJ t186 false (vG (vt .neq 2 189 195 t189 t195)) (fun t196 _ =>
 vG (pickS t186 (.bool true) t196) (fun t197 _ =>
 vJ t197 false (vG (fieldAt 150 p18 1)) (fun t199 _ =>
 vJ t197 false (vG (loadAt 3 t199)) (fun t200 _ =>
 vJ t197 false (vG (fieldAt 129 f13 2)) (fun t201 _ =>
 vJ t197 false (vG (loadAt 127 t201)) (fun t202 _ =>
 vJ t197 false (vG (loadAt 3 at16)) (fun t203 _ =>
 vJ t197 false (vG (indexAt 127 t202 t203)) (fun t204 _ =>
 vJ t197 false (vG (fieldAt 132 t204 1)) (fun t205 _ =>
 vJ t197 false (vG (loadAt 9 t205)) (fun t206 _ =>
 vJ t197 false (vG (len_ #[9] 3 #[t206])) (fun t207 _ =>
 vJ t197 false (vG (vt .neq 3 200 207 t200 t207)) (fun t208 _ =>
 vG (pickS t197 (.bool true) t208) (fun t209 _ =>
 vD t209 (
 vF (storeS 4 t2 (.bool false)) (fun _ h206 =>
 Jb .ret h206) h184) (
 vF (loadAt 3 at16) (fun t210 h207 =>
 vF (vk .add 3 210 .i64 1 t210) (fun t211 h208 =>
 vF (storeS 3 at16 t211) (fun _ h209 =>
 Nb h209) h208) h207) h184)) #[]) #[]) #[]) h184) #[]) #[]) h184) h184) #[]) h184) #[]) #[]) #[]) h184) #[]) #[]) h184) h184) #[]) h184) #[]) #[]) #[]) h184) #[]) h184) h186) h185) h183)
 (fun D h210 =>
 k_52 D h210)
 (fun D_1 h211 =>
 RetD D_1 h211 (fun h212 =>
 vG (loadCell 4 t2) (fun r_6 _ =>
 R r_6 h212) h212) ⟨⟩)
 (fun id D_2 h213=>bif Nat.beq id 2 then (k_52 D_2 h213) else False) h182 ⟨⟩ ⟨⟩ ⟨⟩ ⟨⟩)
 (fun D_3 h214 =>
 k_51 D_3 h214) h181 ⟨⟩ ⟨⟩)
 (fun D_4 h215 =>
 vF (loadAt 3 at16) (fun t212 h216 =>
 vF (fieldAt 129 f13 2) (fun t213 h217 =>
 vF (loadAt 127 t213) (fun t214 h218 =>
 vF (len_ #[127] 3 #[t214]) (fun t215 h219 =>
 vF (vt .eql 3 212 215 t212 t215) (fun t216 h220 =>
 vF (storeS 4 t2 t216) (fun _ h221 =>
 RetD D_4 h221 (fun h222 =>
 vG (loadCell 4 t2) (fun r_7 _ =>
 R r_7 h222) h222) ⟨⟩) h220) h219) h218) h217) h216) h215) h178 ⟨⟩ ⟨⟩)) h177) h176) h175) h174) h173) h169)) #[]) #[]) h163) h163) h163) #[]) #[]) #[]) h160) #[]) #[]) h159) h158) h157) h156) h155) h154) h153) h152) h151) h150) h149) h148) h147) h146) h145) h144) h143) h138)) h137) h136) h135) h134) h133) h132) h131) h130) h129) h128) h127) h126) h125) h124) h121)) h120) h118) h116) h114) h112) h110) h108) h106) h104) h102) h100) h98) h97) h96) h95) h94) h93) h92) h91) h90) h89) h88) h87) h86) h85) h29)) h28) [(.int .i64 0)] h24 ⟨⟩)) #[]) #[]) h14) h14) #[]) #[]) h14) #[]) h14) #[]) #[]) #[]) h6) h6) #[]) #[]) h6) #[]) #[]) #[]) h5) h5) #[]) #[]) h5) #[]) h4) h3) h2) h1) h

theorem n31_calls {o0:Value} {R:VP} {h:Heap} (H:n31 o0 R h):CallsH Tryz.prog 31 #[o0] h R ⟨⟩ :=
 callsH_of_eq Tryz.follow (.n none .l (.n none .l (.n none .l (.n none (.n none .l (.n none (.n (some [5]) .l .l) .l)) (.n none .l (.n none .l (.n none .l (.n none .l (.n none .l (.n none .l (.n none .l (.n none .l (.n none .l (.n (some [0]) (.n none .l (.n (some [0]) .l .l)) .l)))))))))))))) Tryz.func31 kR kR kR H

def n32 (s0:Value) (R:VP) (h:Heap):Prop :=
 vC 10 #[(.pointer none),(str []),(.int .i64 0),(.int .i64 0)] (fun t16 h1 =>
 vF (extract t16 0) (fun t17 h2 =>
 vF (extract t16 1) (fun t18 h3 =>
 vC 10 #[s0,(str [103]),(.int .i64 9),(.int .i64 1)] (fun t21 h4 =>
 vF (extract t21 0) (fun t22 h5 =>
 vF (extract t21 1) (fun t23 h6 =>
 vC 10 #[s0,(str []),(.int .i64 9),(.int .i64 1)] (fun t26 h7 =>
 vF (extract t26 0) (fun t27 h8 =>
 vF (extract t26 1) (fun t28 h9 =>
 vF (binS .neq 28 (.tmp 29) (.const (.pointer none)) t17 (.pointer none)) (fun t30 h10 =>
 vJ t30 false (vV t18) (fun t32 h12 =>
 vJ t30 false (vC 11 #[t32]) (fun t33 h14 =>
 vJ t30 false (vF (vk .neq 3 33 .i64 1 t33)) (fun t34 h16 =>
 vF (pickS t30 (.bool true) t34) (fun t35 h17 =>
 vJ t35 false (vV t22) (fun t37 h19 =>
 vJ t35 false (vF (binS .neq 28 (.tmp 37) (.const (.pointer none)) t37 (.pointer none))) (fun t38 h21 =>
 vF (pickS t35 (.bool true) t38) (fun t39 h22 =>
 vJ t39 false (vV t23) (fun t41 h24 =>
 vJ t39 false (vC 11 #[t41]) (fun t42 h26 =>
 vJ t39 false (vF (vk .neq 3 42 .i64 7 t42)) (fun t43 h28 =>
 vF (pickS t39 (.bool true) t43) (fun t44 h29 =>
 vJ t44 false (vV t27) (fun t46 h31 =>
 vJ t44 false (vF (binS .neq 28 (.tmp 46) (.const (.pointer none)) t46 (.pointer none))) (fun t47 h33 =>
 vF (pickS t44 (.bool true) t47) (fun t48 h34 =>
 vJ t48 false (vV t28) (fun t50 h36 =>
 vJ t48 false (vC 11 #[t50]) (fun t51 h38 =>
 vJ t48 false (vF (vk .neq 3 51 .i64 2 t51)) (fun t52 h40 =>
 vF (pickS t48 (.bool true) t52) (fun t53 h41 =>
 vD t53 (
 R (.bool false) h41) (
 vF (build 93 #[]) (fun t54 h42 =>
 vF (box 93 t54) (fun t55 h43 =>
 vF (buildSlice 151 2 #[(0,(.pointer none)),(1,t55)]) (fun t56 h44 =>
 vF (len_ #[151] 3 #[t56]) (fun t57 h45 =>
 LoopC 1 (fun (X:VP)=>fun t58 h46 =>
 vF (vt .lss 3 58 57 t58 t57) (fun t59 h47 =>
 vD t59 (
 vF (indexAt 151 t56 t58) (fun t60 h48 =>
 vF (loadAt 28 t60) (fun t61 h49 =>
 vC 12 #[t61,(.int .i64 (-1)),(.int .i64 0),(.int .i64 0)] (fun t64 h50 =>
 vF (extract t64 0) (fun t65 h51 =>
 vF (extract t64 1) (fun t66 h52 =>
 vC 53 #[t61,(.int .i64 (-1))] (fun t69 h53 =>
 vF (extract t69 0) (fun t70 h54 =>
 vF (extract t69 1) (fun t71 h55 =>
 vF (alloc 121 true undef) (fun y13 h56 =>
 vF (storeS 121 y13 t70) (fun _ h57 =>
 vF (len_ #[33] 3 #[t65]) (fun t73 h58 =>
 vF (vk .neq 3 73 .i64 0 t73) (fun t74 h59 =>
 vJ t74 false (vV t66) (fun t76 h61 =>
 vJ t74 false (vC 11 #[t76]) (fun t77 h63 =>
 vJ t74 false (vF (vk .neq 3 77 .i64 1 t77)) (fun t78 h65 =>
 vF (pickS t74 (.bool true) t78) (fun t79 h66 =>
 vJ t79 false (vV t61) (fun t81 h68 =>
 vJ t79 false (vC 13 #[t81,(.int .i64 (-1)),(.int .i64 0),(.slice none 0 0)]) (fun t82 h70 =>
 vJ t79 false (vC 11 #[t82]) (fun t83 h72 =>
 vJ t79 false (vF (vk .neq 3 83 .i64 1 t83)) (fun t84 h74 =>
 vF (pickS t79 (.bool true) t84) (fun t85 h75 =>
 vJ t85 false (vV t61) (fun t87 h77 =>
 vJ t85 false (vC 14 #[t87,(.int .i64 (-1)),(.int .i64 (-1))]) (fun t88 h79 =>
 vJ t85 false (vC 11 #[t88]) (fun t89 h81 =>
 vJ t85 false (vF (vk .neq 3 89 .i64 1 t89)) (fun t90 h83 =>
 vF (pickS t85 (.bool true) t90) (fun t91 h84 =>
 vJ t91 false (vV t61) (fun t93 h86 =>
 vJ t91 false (vC 15 #[t93,(.int .i64 (-1))]) (fun t94 h88 =>
 vJ t91 false (vC 11 #[t94]) (fun t95 h90 =>
 vJ t91 false (vF (vk .neq 3 95 .i64 1 t95)) (fun t96 h92 =>
 vF (pickS t91 (.bool true) t96) (fun t97 h93 =>
 vJ t97 false (vV t61) (fun t99 h95 =>
 vJ t97 false (vC 16 #[t99]) (fun t100 h97 =>
 vJ t97 false (vC 11 #[t100]) (fun t101 h99 =>
 vJ t97 false (vF (vk .neq 3 101 .i64 1 t101)) (fun t102 h101 =>
 vF (pickS t97 (.bool true) t102) (fun t103 h102 =>
 vJ t103 false (vV t61) (fun t105 h104 =>
 vJ t103 false (vC 24 #[t105,(.int .i64 (-1))]) (fun t106 h106 =>
 vJ t103 false (vC 11 #[t106]) (fun t107 h108 =>
 vJ t103 false (vF (vk .neq 3 107 .i64 1 t107)) (fun t108 h110 =>
 vF (pickS t103 (.bool true) t108) (fun t109 h111 =>
 vJ t109 false (vF (fieldAt 121 y13 0)) (fun t111 h113 =>
 vJ t109 false (vF (loadAt 4 t111)) (fun t112 h115 =>
 vF (pickS t109 (.bool true) t112) (fun t113 h116 =>
 vJ t113 false (vF (fieldAt 121 y13 1)) (fun t115 h118 =>
 vJ t113 false (vF (loadAt 4 t115)) (fun t116 h120 =>
 vF (pickS t113 (.bool true) t116) (fun t117 h121 =>
 vJ t117 false (vF (fieldAt 121 y13 2)) (fun t119 h123 =>
 vJ t117 false (vF (loadAt 102 t119)) (fun t120 h125 =>
 vJ t117 false (vF (len_ #[102] 3 #[t120])) (fun t121 h127 =>
 vJ t117 false (vF (vk .neq 3 121 .i64 0 t121)) (fun t122 h129 =>
 vF (pickS t117 (.bool true) t122) (fun t123 h130 =>
 vJ t123 false (vV t71) (fun t125 h132 =>
 vJ t123 false (vC 11 #[t125]) (fun t126 h134 =>
 vJ t123 false (vF (vk .neq 3 126 .i64 1 t126)) (fun t127 h136 =>
 vF (pickS t123 (.bool true) t127) (fun t128 h137 =>
 vJ t128 false (vV t61) (fun t130 h139 =>
 vJ t128 false (vC 33 #[t130]) (fun t131 h141 =>
 vJ t128 false (vC 68 #[t131,(.slice none 0 0),(.int .i64 0)]) (fun t132 h143 =>
 vJ t128 false (vF (Op.unary .not t132)) (fun t133 h145 =>
 vF (pickS t128 (.bool true) t133) (fun t134 h146 =>
 vJ t134 false (vV t61) (fun t136 h148 =>
 vJ t134 false (vC 34 #[t136]) (fun t137 h150 =>
 vJ t134 false (vF (build 81 #[])) (fun t138 h152 =>
 vJ t134 false (vF (vt .neq 81 137 138 t137 t138)) (fun t139 h154 =>
 vF (pickS t134 (.bool true) t139) (fun t140 h155 =>
 vD t140 (
 R (.bool false) h155) (
 vF (vk .add 3 58 .i64 1 t58) (fun t141 h156 =>
 X t141 h156) h155)) h154) h152) h150) h148) h146) h145) h143) h141) h139) h137) h136) h134) h132) h130) h129) h127) h125) h123) h121) h120) h118) h116) h115) h113) h111) h110) h108) h106) h104) h102) h101) h99) h97) h95) h93) h92) h90) h88) h86) h84) h83) h81) h79) h77) h75) h74) h72) h70) h68) h66) h65) h63) h61) h59) h58) h57) h56) h55) h54) h53) h52) h51) h50) h49) h48) h47) (
 R (.bool true) h47)) h46) [(.int .i64 0)] h45 ⟨⟩) h44) h43) h42) h41)) h40) h38) h36) h34) h33) h31) h29) h28) h26) h24) h22) h21) h19) h17) h16) h14) h12) h10) h9) h8) h7) h6) h5) h4) h3) h2) h1) h

theorem n32_calls {s0:Value} {R:VP} {h:Heap} (H:n32 s0 R h):CallsH Tryz.prog 32 #[s0] h R ⟨⟩ :=
 callsH_of_eq Tryz.follow (.n none .l (.n none .l (.n none .l (.n none .l (.n none .l (.n none (.n none .l (.n none (.n (some [59]) .l .l) .l)) .l)))))) Tryz.func32 kR kR kR H

def n33 (c0:Value) (R:VP) (h:Heap):Prop :=
 vF (binS .eql 28 (.tmp 3) (.const (.pointer none)) c0 (.pointer none)) (fun t4 h1 =>
 vD t4 (
 vC 73 #[(.slice none 0 0)] (fun t5 h2 =>
 R t5 h2) h1) (
 vF (nilS c0) (fun t7 h3 =>
 vF (fieldAt 93 t7 4) (fun t8 h4 =>
 vF (loadAt 88 t8) (fun t9 h5 =>
 vC 46 #[t9] (fun t10 h6 =>
 vC 45 #[t10] (fun t11 h7 =>
 vC 73 #[t11] (fun t12 h8 =>
 R t12 h8) h7) h6) h5) h4) h3) h1)) h

theorem n33_calls {c0:Value} {R:VP} {h:Heap} (H:n33 c0 R h):CallsH Tryz.prog 33 #[c0] h R ⟨⟩ :=
 callsH_of_eq Tryz.follow .l Tryz.func33 kR kR kR H

def n34 (c0:Value) (R:VP) (h:Heap):Prop :=
 vF (alloc 81 true undef) (fun t2 h1 =>
 vF (binS .eql 28 (.tmp 3) (.const (.pointer none)) c0 (.pointer none)) (fun t4 h2 =>
 vD t4 (
 vF (build 81 #[]) (fun t5 h3 =>
 vF (storeS 81 t2 t5) (fun _ h4 =>
 vG (loadCell 81 t2) (fun r _ =>
 R r h4) h4) h3) h2) (
 vF (nilS c0) (fun t7 h5 =>
 vF (fieldAt 93 t7 8) (fun t8 h6 =>
 vF (loadAt 81 t8) (fun t9 h7 =>
 vF (storeS 81 t2 t9) (fun _ h8 =>
 vG (loadCell 81 t2) (fun r_1 _ =>
 R r_1 h8) h8) h7) h6) h5) h2)) h1) h

theorem n34_calls {c0:Value} {R:VP} {h:Heap} (H:n34 c0 R h):CallsH Tryz.prog 34 #[c0] h R ⟨⟩ :=
 callsH_of_eq Tryz.follow .l Tryz.func34 kR kR kR H

def n35 (fates0:Value) (R:VP) (h:Heap):Prop :=
 vC 74 #[fates0] (fun t5 h1 =>
 vF (Op.unary .not t5) (fun t6 h2 =>
 vD t6 (
 R (.tuple #[(.pointer none),(.int .i64 2)]) h2) (
 vF (makeMap 153 none) (fun t7 h3 =>
 vC 75 #[fates0] (fun t9 h4 =>
 vF (build 156 #[(0,t7),(1,t9)]) (fun t10 h5 =>
 vF (box 156 t10) (fun t11 h6 =>
 R (.tuple #[t11,(.int .i64 0)]) h6) h5) h4) h3) h2)) h1) h

theorem n35_calls {fates0:Value} {R:VP} {h:Heap} (H:n35 fates0 R h):CallsH Tryz.prog 35 #[fates0] h R ⟨⟩ :=
 callsH_of_eq Tryz.follow .l Tryz.func35 kR kR kR H

def n36 (s0 name1:Value) (R:VP) (h:Heap):Prop :=
 vC 76 #[s0,name1] (fun t12 h1 =>
 vF (vk .neq 29 13 .i64 0 t12) (fun t14 h2 =>
 vD t14 (
 R t12 h2) (
 vF (nilS s0) (fun t18 h3 =>
 vF (fieldAt 156 t18 0) (fun t19 h4 =>
 vF (loadAt 153 t19) (fun t20 h5 =>
 vF (lookup 153 t20 name1 true) (fun t22 h6 =>
 vF (extract t22 0) (fun t23 h7 =>
 vF (extract t22 1) (fun t24 h8 =>
 vD t24 (
 R (.int .i64 8) h8) (
 vF (nilS s0) (fun t27 h9 =>
 vF (fieldAt 156 t27 0) (fun t28 h10 =>
 vF (loadAt 153 t28) (fun t29 h11 =>
 vF (len_ #[153] 3 #[t29]) (fun t30 h12 =>
 vF (vk .geq 3 30 .i64 256 t30) (fun t31 h13 =>
 vD t31 (
 R (.int .i64 6) h13) (
 vC 77 #[s0] (fun t34 h14 =>
 vF (extract t34 0) (fun t35 h15 =>
 vF (extract t34 1) (fun t36 h16 =>
 vF (vk .neq 29 37 .i64 0 t35) (fun t38 h17 =>
 vD t38 (
 R t35 h17) (
 vF (nilS s0) (fun t41 h18 =>
 vF (fieldAt 156 t41 0) (fun t42 h19 =>
 vF (loadAt 153 t42) (fun t43 h20 =>
 vF (build 115 #[]) (fun t45 h21 =>
 vF (box 115 t45) (fun t46 h22 =>
 vF (unitS (mapUpdate 153 t43 name1 t46)) (fun _ h23 =>
 R (.int .i64 0) h23) h22) h21) h20) h19) h18) h17)) h16) h15) h14) h13)) h12) h11) h10) h9) h8)) h7) h6) h5) h4) h3) h2)) h1) h

theorem n36_calls {s0 name1:Value} {R:VP} {h:Heap} (H:n36 s0 name1 R h):CallsH Tryz.prog 36 #[s0,name1] h R ⟨⟩ :=
 callsH_of_eq Tryz.follow .l Tryz.func36 kR kR kR H

def n37 (s0 name1 size2:Value) (R:VP) (h:Heap):Prop :=
 vC 50 #[s0,name1] (fun t17 h1 =>
 vF (extract t17 0) (fun t18 h2 =>
 vF (extract t17 1) (fun t19 h3 =>
 vF (vk .neq 29 21 .i64 0 t19) (fun t22 h4 =>
 vD t22 (
 R t19 h4) (
 vF (vk .lss 2 25 .i64 0 size2) (fun t26 h5 =>
 vD t26 (
 R (.int .i64 4) h5) (
 vF (vk .gtr 2 28 .i64 268435456 size2) (fun t29 h6 =>
 vD t29 (
 R (.int .i64 6) h6) (
 vC 77 #[s0] (fun t32 h7 =>
 vF (extract t32 0) (fun t33 h8 =>
 vF (extract t32 1) (fun t34 h9 =>
 vF (vk .neq 29 35 .i64 0 t33) (fun t36 h10 =>
 vD t36 (
 R t33 h10) (
 vC 78 #[t18,size2] (fun t40 h11 =>
 vG (nilS t18) (fun t44 _ =>
 vG (fieldAt 115 t44 2) (fun t45 _ =>
 vG (loadAt 33 t45) (fun t46 _ =>
 vG (sliceAt 33 t46 none (some size2) (some size2)) (fun t49 _ =>
 vG (nilS t18) (fun t51 _ =>
 vG (fieldAt 115 t51 0) (fun t52 _ =>
 vG (loadAt 33 t52) (fun t53 _ =>
 vG (sliceAt 33 t53 none (some size2) (some size2)) (fun t56 _ =>
 vG (nilS t18) (fun t57 _ =>
 vG (fieldAt 115 t57 2) (fun t58 _ =>
 vF (storeS 33 t58 t49) (fun _ h12 =>
 vG (nilS t18) (fun t59 _ =>
 vG (fieldAt 115 t59 0) (fun t60 _ =>
 vF (storeS 33 t60 t56) (fun _ h13 =>
 vF (nilS t18) (fun t62 h14 =>
 vF (fieldAt 115 t62 1) (fun t63 h15 =>
 vF (loadAt 113 t63) (fun t64 h16 =>
 vF (len_ #[113] 3 #[t64]) (fun t65 h17 =>
 LoopC 2 (fun (X:Value→VP)=>fun stay11 t66 h18 =>
 vF (vt .lss 3 66 65 t66 t65) (fun t67 h19 =>
 vD t67 (
 JoinN 1 (fun (k:VP) h20 =>
 JoinN 1 (fun (k_1:VP) h21 =>
 vF (indexAt 113 t64 t66) (fun t68 h22 =>
 vF (loadAt 162 t68) (fun t69 h23 =>
 vF (alloc 162 true undef) (fun p13 h24 =>
 vF (storeS 162 p13 t69) (fun _ h25 =>
 vF (fieldAt 162 p13 0) (fun t70 h26 =>
 vF (loadAt 2 t70) (fun t71 h27 =>
 vF (vt .lss 2 71 72 t71 size2) (fun t73 h28 =>
 vD t73 (
 vF (fieldAt 162 p13 1) (fun t74 h29 =>
 vF (loadAt 33 t74) (fun t75 h30 =>
 vF (fieldAt 162 p13 1) (fun t76 h31 =>
 vF (loadAt 33 t76) (fun t77 h32 =>
 vF (len_ #[33] 3 #[t77]) (fun t78 h33 =>
 vF (fieldAt 162 p13 0) (fun t80 h34 =>
 vF (loadAt 2 t80) (fun t81 h35 =>
 vF (vt .sub 2 79 81 size2 t81) (fun t82 h36 =>
 vF (min_ #[2,2] 2 #[t78,t82]) (fun t83 h37 =>
 vF (sliceAt 33 t75 none (some t83) none) (fun t84 h38 =>
 vF (fieldAt 162 p13 1) (fun t85 h39 =>
 vF (storeS 33 t85 t84) (fun _ h40 =>
 vF (loadAt 162 p13) (fun t87 h41 =>
 vF (buildSlice 113 1 #[(0,t87)]) (fun t88 h42 =>
 vF (append_ #[113,113] 113 #[stay11,t88]) (fun t89 h43 =>
 k_1 t89 h43) h42) h41) h40) h39) h38) h37) h36) h35) h34) h33) h32) h31) h30) h29) h28) (
 k_1 stay11 h28)) h27) h26) h25) h24) h23) h22) h21)
 (fun stay11_1 h44 =>
 k stay11_1 h44) h20 ⟨⟩ ⟨⟩)
 (fun stay11_2 h45 =>
 vF (vk .add 3 66 .i64 1 t66) (fun t90 h46 =>
 X stay11_2 t90 h46) h45) h19 ⟨⟩ ⟨⟩) (
 vF (nilS t18) (fun t93 h47 =>
 vF (fieldAt 115 t93 1) (fun t94 h48 =>
 vF (storeS 113 t94 stay11) (fun _ h49 =>
 R (.int .i64 0) h49) h48) h47) h19)) h18) [(.slice none 0 0),(.int .i64 0)] h17 ⟨⟩) h16) h15) h14) h13) h12) #[]) #[]) h11) #[]) #[]) #[]) h11) #[]) #[]) #[]) h11) #[]) #[]) h10)) h9) h8) h7) h6)) h5)) h4)) h3) h2) h1) h

theorem n37_calls {s0 name1 size2:Value} {R:VP} {h:Heap} (H:n37 s0 name1 size2 R h):CallsH Tryz.prog 37 #[s0,name1,size2] h R ⟨⟩ :=
 callsH_of_eq Tryz.follow (.n none .l (.n none .l (.n none .l (.n none .l (.n none .l (.n none .l (.n none .l (.n none (.n none .l (.n none (.n (some [12,67]) (.n none .l (.n none .l (.n (some [12]) (.n (some [12]) .l .l) .l))) .l) .l)) .l)))))))) Tryz.func37 kR kR kR H

def n38 (s0 fates1:Value) (R:VP) (h:Heap):Prop :=
 vC 79 #[s0] (fun t7 h1 =>
 vD t7 (
 R (.int .i64 1) h1) (
 vC 74 #[fates1] (fun t10 h2 =>
 vF (Op.unary .not t10) (fun t11 h3 =>
 vD t11 (
 R (.int .i64 2) h3) (
 vF (nilS s0) (fun t14 h4 =>
 vF (fieldAt 156 t14 1) (fun t15 h5 =>
 vF (loadAt 48 t15) (fun t16 h6 =>
 vF (append_ #[48,48] 48 #[t16,fates1]) (fun t18 h7 =>
 vF (nilS s0) (fun t19 h8 =>
 vF (fieldAt 156 t19 1) (fun t20 h9 =>
 vF (storeS 48 t20 t18) (fun _ h10 =>
 R (.int .i64 0) h10) h9) h8) h7) h6) h5) h4) h3)) h2) h1)) h

theorem n38_calls {s0 fates1:Value} {R:VP} {h:Heap} (H:n38 s0 fates1 R h):CallsH Tryz.prog 38 #[s0,fates1] h R ⟨⟩ :=
 callsH_of_eq Tryz.follow .l Tryz.func38 kR kR kR H

def n39 (c0 n1 at2 k3:Value) (R:VP) (h:Heap):Prop :=
 vC 41 #[c0,n1] (fun t20 h1 =>
 vF (vk .neq 29 21 .i64 0 t20) (fun t22 h2 =>
 vD t22 (
 R (.tuple #[(.pointer none),t20]) h2) (
 vF (vk .lss 3 24 .i64 0 at2) (fun t25 h3 =>
 vJ t25 false (vV k3) (fun t27 h5 =>
 vJ t25 false (vF (vk .lss 3 27 .i64 0 t27)) (fun t28 h7 =>
 vF (pickS t25 (.bool true) t28) (fun t29 h8 =>
 vJ t29 false (vV at2) (fun t31 h10 =>
 vJ t29 false (vV c0) (fun t32 h12 =>
 vJ t29 false (vF (nilS t32)) (fun t33 h14 =>
 vJ t29 false (vF (fieldAt 93 t33 2)) (fun t34 h16 =>
 vJ t29 false (vF (loadAt 3 t34)) (fun t35 h18 =>
 vJ t29 false (vF (binS .shl 3 (.const (.int .i64 1)) (.tmp 35) (.int .i64 1) t35)) (fun t36 h20 =>
 vJ t29 false (vF (vt .gtr 3 31 36 t31 t36)) (fun t37 h22 =>
 vF (pickS t29 (.bool true) t37) (fun t38 h23 =>
 vJ t38 false (vV k3) (fun t40 h25 =>
 vJ t38 false (vV c0) (fun t41 h27 =>
 vJ t38 false (vF (nilS t41)) (fun t42 h29 =>
 vJ t38 false (vF (fieldAt 93 t42 2)) (fun t43 h31 =>
 vJ t38 false (vF (loadAt 3 t43)) (fun t44 h33 =>
 vJ t38 false (vF (binS .shl 3 (.const (.int .i64 1)) (.tmp 44) (.int .i64 1) t44)) (fun t45 h35 =>
 vJ t38 false (vV at2) (fun t46 h37 =>
 vJ t38 false (vF (vt .sub 3 45 46 t45 t46)) (fun t47 h39 =>
 vJ t38 false (vF (vt .gtr 3 40 47 t40 t47)) (fun t48 h41 =>
 vF (pickS t38 (.bool true) t48) (fun t49 h42 =>
 vD t49 (
 R (.tuple #[(.pointer none),(.int .i64 2)]) h42) (
 vG (nilS c0) (fun t52 _ =>
 vG (fieldAt 93 t52 0) (fun t53 _ =>
 vG (loadAt 26 t53) (fun t54 _ =>
 vG (nilS c0) (fun t56 _ =>
 vG (fieldAt 93 t56 1) (fun t57 _ =>
 vG (loadAt 9 t57) (fun t58 _ =>
 vC 18 #[t54,t58] (fun t59 h43 =>
 vG (extract t59 0) (fun t60 _ =>
 vG (extract t59 1) (fun t61 _ =>
 vF (vk .neq 29 62 .i64 0 t61) (fun t63 h44 =>
 vD t63 (
 R (.tuple #[(.pointer none),t61]) h44) (
 vF (nilS c0) (fun t66 h45 =>
 vF (fieldAt 93 t66 4) (fun t67 h46 =>
 vF (loadAt 88 t67) (fun t68 h47 =>
 vF (lookup 88 t68 n1 false) (fun t70 h48 =>
 JoinN 1 (fun (k_18:VP) h49 =>
 vF (binS .eql 94 (.tmp 71) (.const (.pointer none)) t70 (.pointer none)) (fun t72 h50 =>
 vD t72 (
 vC 80 #[c0] (fun t74 h51 =>
 vF (vk .neq 29 75 .i64 0 t74) (fun t76 h52 =>
 vD t76 (
 R (.tuple #[(.pointer none),t74]) h52) (
 vF (nilS c0) (fun t80 h53 =>
 vF (fieldAt 93 t80 2) (fun t81 h54 =>
 vF (loadAt 3 t81) (fun t82 h55 =>
 vF (binS .shl 3 (.const (.int .i64 1)) (.tmp 82) (.int .i64 1) t82) (fun t83 h56 =>
 vF (makeSlice 33 t83 t83) (fun t84 h57 =>
 vF (build 99 #[(0,n1),(1,t84)]) (fun t85 h58 =>
 vF (box 99 t85) (fun t86 h59 =>
 vG (nilS c0) (fun t89 _ =>
 vG (fieldAt 93 t89 0) (fun t90 _ =>
 vG (loadAt 26 t90) (fun t91 _ =>
 vG (nilS c0) (fun t93 _ =>
 vG (fieldAt 93 t93 1) (fun t94 _ =>
 vG (loadAt 9 t94) (fun t95 _ =>
 vC 18 #[t91,t95] (fun t96 h60 =>
 vG (extract t96 0) (fun t97 _ =>
 vG (extract t96 1) (fun t98 _ =>
 JoinN 0 (fun (k_19:Heap→Prop) h61 =>
 vF (nilS c0) (fun t101 h62 =>
 vF (fieldAt 93 t101 2) (fun t102 h63 =>
 vF (loadAt 3 t102) (fun t103 h64 =>
 vF (vt .shl 2 99 103 n1 t103) (fun t104 h65 =>
 vF (vt .lss 2 105 106 t104 t97) (fun t107 h66 =>
 vD t107 (
 vG (nilS c0) (fun t110 _ =>
 vG (fieldAt 93 t110 0) (fun t111 _ =>
 vG (loadAt 26 t111) (fun t112 _ =>
 vG (nilS c0) (fun t114 _ =>
 vG (fieldAt 93 t114 1) (fun t115 _ =>
 vG (loadAt 9 t115) (fun t116 _ =>
 vG (nilS t86) (fun t119 _ =>
 vG (fieldAt 99 t119 1) (fun t120 _ =>
 vG (loadAt 33 t120) (fun t121 _ =>
 vG (len_ #[33] 3 #[t121]) (fun t122 _ =>
 vC 19 #[t112,t116,t104,t122] (fun t123 h67 =>
 vG (extract t123 0) (fun t124 _ =>
 vG (extract t123 1) (fun t125 _ =>
 vF (nilS t86) (fun t127 h68 =>
 vF (fieldAt 99 t127 1) (fun t128 h69 =>
 vF (loadAt 33 t128) (fun t129 h70 =>
 vF (copy_ #[33,33] 3 #[t129,t124]) (fun t131 h71 =>
 k_19 h71) h70) h69) h68) h67) #[]) #[]) h66) #[]) h66) #[]) #[]) h66) #[]) #[]) h66) #[]) #[]) (
 k_19 h66)) h65) h64) h63) h62) h61)
 (fun h72 =>
 vF (nilS c0) (fun t133 h73 =>
 vF (fieldAt 93 t133 4) (fun t134 h74 =>
 vF (loadAt 88 t134) (fun t135 h75 =>
 vF (unitS (mapUpdate 88 t135 n1 t86)) (fun _ h76 =>
 vF (nilS c0) (fun t139 h77 =>
 vF (fieldAt 93 t139 8) (fun t140 h78 =>
 vF (fieldAt 81 t140 1) (fun t141 h79 =>
 vF (loadAt 3 t141) (fun t142 h80 =>
 vF (vk .add 3 142 .i64 1 t142) (fun t143 h81 =>
 vF (nilS c0) (fun t144 h82 =>
 vF (fieldAt 93 t144 8) (fun t145 h83 =>
 vF (fieldAt 81 t145 1) (fun t146 h84 =>
 vF (storeS 3 t146 t143) (fun _ h85 =>
 k_18 t86 h85) h84) h83) h82) h81) h80) h79) h78) h77) h76) h75) h74) h73) h72) h60 ⟨⟩ ⟨⟩) #[]) #[]) h59) h59) #[]) #[]) h59) #[]) #[]) h58) h57) h56) h55) h54) h53) h52)) h51) h50) (
 vF (nilS c0) (fun t148 h86 =>
 vF (fieldAt 93 t148 8) (fun t149 h87 =>
 vF (fieldAt 81 t149 0) (fun t150 h88 =>
 vF (loadAt 3 t150) (fun t151 h89 =>
 vF (vk .add 3 151 .i64 1 t151) (fun t152 h90 =>
 vF (nilS c0) (fun t153 h91 =>
 vF (fieldAt 93 t153 8) (fun t154 h92 =>
 vF (fieldAt 81 t154 0) (fun t155 h93 =>
 vF (storeS 3 t155 t152) (fun _ h94 =>
 k_18 t70 h94) h93) h92) h91) h90) h89) h88) h87) h86) h50)) h49)
 (fun p13 h95 =>
 vF (nilS c0) (fun t157 h96 =>
 vF (fieldAt 93 t157 7) (fun t158 h97 =>
 vF (loadAt 3 t158) (fun t159 h98 =>
 vF (vk .add 3 159 .i64 1 t159) (fun t160 h99 =>
 vF (nilS c0) (fun t161 h100 =>
 vF (fieldAt 93 t161 7) (fun t162 h101 =>
 vF (storeS 3 t162 t160) (fun _ h102 =>
 vF (nilS c0) (fun t165 h103 =>
 vF (fieldAt 93 t165 7) (fun t166 h104 =>
 vF (loadAt 3 t166) (fun t167 h105 =>
 vF (nilS p13) (fun t168 h106 =>
 vF (fieldAt 99 t168 3) (fun t169 h107 =>
 vF (storeS 3 t169 t167) (fun _ h108 =>
 R (.tuple #[p13,(.int .i64 0)]) h108) h107) h106) h105) h104) h103) h102) h101) h100) h99) h98) h97) h96) h95) h48 ⟨⟩ ⟨⟩) h47) h46) h45) h44)) h43) #[]) #[]) h42) h42) #[]) #[]) h42) #[]) #[])) h41) h39) h37) h35) h33) h31) h29) h27) h25) h23) h22) h20) h18) h16) h14) h12) h10) h8) h7) h5) h3) h2)) h1) h

theorem n39_calls {c0 n1 at2 k3:Value} {R:VP} {h:Heap} (H:n39 c0 n1 at2 k3 R h):CallsH Tryz.prog 39 #[c0,n1,at2,k3] h R ⟨⟩ :=
 callsH_of_eq Tryz.follow (.n none .l (.n none .l (.n none .l (.n none .l (.n none .l (.n none .l (.n (some [14]) (.n none .l (.n none (.n none .l (.n none .l (.n none .l (.n (some []) .l .l)))) .l)) .l))))))) Tryz.func39 kR kR kR H

def n40 (s0:Value) (R:VP) (h:Heap):Prop :=
 vF (binS .eql 33 (.tmp 3) (.const (.slice none 0 0)) s0 (.slice none 0 0)) (fun t4 h1 =>
 vD t4 (
 R (.slice none 0 0) h1) (
 vF (buildSlice 33 0 #[]) (fun t5 h2 =>
 vF (append_ #[33,33] 33 #[t5,s0]) (fun t7 h3 =>
 R t7 h3) h2) h1)) h

theorem n40_calls {s0:Value} {R:VP} {h:Heap} (H:n40 s0 R h):CallsH Tryz.prog 40 #[s0] h R ⟨⟩ :=
 callsH_of_eq Tryz.follow .l Tryz.func40 kR kR kR H

def n41 (c0 n1:Value) (R:VP) (h:Heap):Prop :=
 vF (binS .eql 28 (.tmp 6) (.const (.pointer none)) c0 (.pointer none)) (fun t7 h1 =>
 vJ t7 false (vV c0) (fun t9 h3 =>
 vJ t7 false (vF (nilS t9)) (fun t10 h5 =>
 vJ t7 false (vF (fieldAt 93 t10 0)) (fun t11 h7 =>
 vJ t7 false (vF (loadAt 26 t11)) (fun t12 h9 =>
 vJ t7 false (vF (binS .eql 26 (.tmp 12) (.const (.pointer none)) t12 (.pointer none))) (fun t13 h11 =>
 vF (pickS t7 (.bool true) t13) (fun t14 h12 =>
 vD t14 (
 R (.int .i64 1) h12) (
 vF (vk .lss 2 16 .i64 0 n1) (fun t17 h13 =>
 vJ t17 false (vV n1) (fun t19 h15 =>
 vJ t17 false (vV c0) (fun t20 h17 =>
 vJ t17 false (vF (nilS t20)) (fun t21 h19 =>
 vJ t17 false (vF (fieldAt 93 t21 2)) (fun t22 h21 =>
 vJ t17 false (vF (loadAt 3 t22)) (fun t23 h23 =>
 vJ t17 false (vF (binS .shr 2 (.const (.int .i64 268435456)) (.tmp 23) (.int .i64 268435456) t23)) (fun t24 h25 =>
 vJ t17 false (vF (vt .geq 2 19 24 t19 t24)) (fun t25 h27 =>
 vF (pickS t17 (.bool true) t25) (fun t26 h28 =>
 vD t26 (
 R (.int .i64 2) h28) (
 R (.int .i64 0) h28)) h27) h25) h23) h21) h19) h17) h15) h13) h12)) h11) h9) h7) h5) h3) h1) h

theorem n41_calls {c0 n1:Value} {R:VP} {h:Heap} (H:n41 c0 n1 R h):CallsH Tryz.prog 41 #[c0,n1] h R ⟨⟩ :=
 callsH_of_eq Tryz.follow .l Tryz.func41 kR kR kR H

def n42 (c0 n1 other2:Value) (R:VP) (h:Heap):Prop :=
 vF (box 28 c0) (fun c3 h1 =>
 vF (box 2 other2) (fun other5 h2 =>
 vF (makeMap 90 none) (fun t9 h3 =>
 vF (alloc 90 true undef) (fun seen7 h4 =>
 vF (storeS 90 seen7 t9) (fun _ h5 =>
 vF (alloc 101 true undef) (fun down8 h6 =>
 vF (pure (.func (.func 81) #[] #[c3,other5,seen7,down8])) (fun t10 h7 =>
 vF (storeS 101 down8 t10) (fun _ h8 =>
 vF (loadAt 101 down8) (fun t11 h9 =>
 InvokeH Tryz.prog t11 #[n1] h9 (fun t13 h10 =>
 R t13 h10) ⟨⟩) h8) h7) h6) h5) h4) h3) h2) h1) h

theorem n42_calls {c0 n1 other2:Value} {R:VP} {h:Heap} (H:n42 c0 n1 other2 R h):CallsH Tryz.prog 42 #[c0,n1,other2] h R ⟨⟩ :=
 callsH_of_eq Tryz.follow .l Tryz.func42 kR kR kR H

def n43 (c0 n1:Value) (R:VP) (h:Heap):Prop :=
 vF (nilS c0) (fun t7 h1 =>
 vF (fieldAt 93 t7 4) (fun t8 h2 =>
 vF (loadAt 88 t8) (fun t9 h3 =>
 vF (lookup 88 t9 n1 false) (fun t11 h4 =>
 vF (binS .neq 94 (.tmp 12) (.const (.pointer none)) t11 (.pointer none)) (fun t13 h5 =>
 vJ t13 true (vV t11) (fun t15 h7 =>
 vJ t13 true (vF (nilS t15)) (fun t16 h9 =>
 vJ t13 true (vF (fieldAt 99 t16 2)) (fun t17 h11 =>
 vJ t13 true (vF (loadAt 4 t17)) (fun t18 h13 =>
 vF (pickS t13 t18 (.bool false)) (fun t19 h14 =>
 vJ t19 false (vV c0) (fun t21 h16 =>
 vJ t19 false (vF (nilS t21)) (fun t22 h18 =>
 vJ t19 false (vF (fieldAt 93 t22 5)) (fun t23 h20 =>
 vJ t19 false (vF (loadAt 90 t23)) (fun t24 h22 =>
 vJ t19 false (vV n1) (fun t25 h24 =>
 vJ t19 false (vF (lookup 90 t24 t25 false)) (fun t26 h26 =>
 vF (pickS t19 (.bool true) t26) (fun t27 h27 =>
 R t27 h27) h26) h24) h22) h20) h18) h16) h14) h13) h11) h9) h7) h5) h4) h3) h2) h1) h

theorem n43_calls {c0 n1:Value} {R:VP} {h:Heap} (H:n43 c0 n1 R h):CallsH Tryz.prog 43 #[c0,n1] h R ⟨⟩ :=
 callsH_of_eq Tryz.follow .l Tryz.func43 kR kR kR H

def n44 (c0 n1:Value) (R:VP) (h:Heap):Prop :=
 vF (nilS c0) (fun t13 h1 =>
 vF (fieldAt 93 t13 4) (fun t14 h2 =>
 vF (loadAt 88 t14) (fun t15 h3 =>
 vF (lookup 88 t15 n1 false) (fun t17 h4 =>
 vF (binS .eql 94 (.tmp 18) (.const (.pointer none)) t17 (.pointer none)) (fun t19 h5 =>
 vJ t19 false (vV t17) (fun t21 h7 =>
 vJ t19 false (vF (nilS t21)) (fun t22 h9 =>
 vJ t19 false (vF (fieldAt 99 t22 2)) (fun t23 h11 =>
 vJ t19 false (vF (loadAt 4 t23)) (fun t24 h13 =>
 vJ t19 false (vF (Op.unary .not t24)) (fun t25 h15 =>
 vF (pickS t19 (.bool true) t25) (fun t26 h16 =>
 vD t26 (
 R (.int .i64 0) h16) (
 vF (pure (.func (.func 44) #[c0] #[])) (fun t28 h17 =>
 vC 82 #[c0,n1] (fun t31 h18 =>
 vF (len_ #[102] 3 #[t31]) (fun t32 h19 =>
 LoopC 1 (fun (X:VP)=>fun t33 h20 =>
 vF (vt .lss 3 33 32 t33 t32) (fun t34 h21 =>
 vD t34 (
 vF (indexAt 102 t31 t33) (fun t35 h22 =>
 vF (loadAt 2 t35) (fun t36 h23 =>
 InvokeH Tryz.prog t28 #[t36] h23 (fun t39 h24 =>
 vF (vk .neq 29 40 .i64 0 t39) (fun t41 h25 =>
 vD t41 (
 R t39 h25) (
 vF (vk .add 3 33 .i64 1 t33) (fun t43 h26 =>
 X t43 h26) h25)) h24) ⟨⟩) h22) h21) (
 JoinN 0 (fun (k_5:Heap→Prop) h27 =>
 vC 82 #[c0,n1] (fun t46 h28 =>
 vF (len_ #[102] 3 #[t46]) (fun t47 h29 =>
 vF (vk .gtr 3 47 .i64 0 t47) (fun t48 h30 =>
 vD t48 (
 vC 47 #[c0] (fun t50 h31 =>
 vF (vk .neq 29 51 .i64 0 t50) (fun t52 h32 =>
 vD t52 (
 R t50 h32) (
 k_5 h32)) h31) h30) (
 k_5 h30)) h29) h28) h27)
 (fun h33 =>
 vG (nilS c0) (fun t55 _ =>
 vG (fieldAt 93 t55 0) (fun t56 _ =>
 vG (loadAt 26 t56) (fun t57 _ =>
 vG (nilS c0) (fun t59 _ =>
 vG (fieldAt 93 t59 1) (fun t60 _ =>
 vG (loadAt 9 t60) (fun t61 _ =>
 vG (nilS c0) (fun t64 _ =>
 vG (fieldAt 93 t64 2) (fun t65 _ =>
 vG (loadAt 3 t65) (fun t66 _ =>
 vG (vt .shl 2 62 66 n1 t66) (fun t67 _ =>
 vG (nilS t17) (fun t69 _ =>
 vG (fieldAt 99 t69 1) (fun t70 _ =>
 vG (loadAt 33 t70) (fun t71 _ =>
 vC 83 #[t57,t61,t67,t71] (fun t72 h34 =>
 vF (vk .neq 29 73 .i64 0 t72) (fun t74 h35 =>
 vD t74 (
 R t72 h35) (
 vF (nilS t17) (fun t77 h36 =>
 vF (fieldAt 99 t77 2) (fun t78 h37 =>
 vF (storeS 4 t78 (.bool false)) (fun _ h38 =>
 vF (nilS c0) (fun t80 h39 =>
 vF (fieldAt 93 t80 5) (fun t81 h40 =>
 vF (loadAt 90 t81) (fun t82 h41 =>
 vF (unitS (mapUpdate 90 t82 n1 (.bool true))) (fun _ h42 =>
 vF (nilS c0) (fun t85 h43 =>
 vF (fieldAt 93 t85 6) (fun t86 h44 =>
 vF (loadAt 91 t86) (fun t87 h45 =>
 vF (delete_ #[91,2] 0 #[t87,n1]) (fun _ h46 =>
 vF (nilS c0) (fun t90 h47 =>
 vF (fieldAt 93 t90 8) (fun t91 h48 =>
 vF (fieldAt 81 t91 2) (fun t92 h49 =>
 vF (loadAt 3 t92) (fun t93 h50 =>
 vF (vk .add 3 93 .i64 1 t93) (fun t94 h51 =>
 vF (nilS c0) (fun t95 h52 =>
 vF (fieldAt 93 t95 8) (fun t96 h53 =>
 vF (fieldAt 81 t96 2) (fun t97 h54 =>
 vF (storeS 3 t97 t94) (fun _ h55 =>
 R (.int .i64 0) h55) h54) h53) h52) h51) h50) h49) h48) h47) h46) h45) h44) h43) h42) h41) h40) h39) h38) h37) h36) h35)) h34) h33) h33) #[]) #[]) #[]) h33) #[]) #[]) h33) #[]) #[]) h33) #[]) #[]) h21 ⟨⟩ ⟨⟩)) h20) [(.int .i64 0)] h19 ⟨⟩) h18) h17) h16)) h15) h13) h11) h9) h7) h5) h4) h3) h2) h1) h

theorem n44_calls {c0 n1:Value} {R:VP} {h:Heap} (H:n44 c0 n1 R h):CallsH Tryz.prog 44 #[c0,n1] h R ⟨⟩ :=
 callsH_of_eq Tryz.follow (.n none .l (.n none .l (.n none .l (.n none .l (.n none (.n none .l (.n none (.n (some [34]) .l .l) .l)) (.n (some []) .l .l)))))) Tryz.func44 kR kR kR H

def n45 (seq0:Value) (R:VP) (h:Heap):Prop :=
 vC 84 #[seq0] (fun t5 h1 =>
 vC 85 #[t5] (fun t7 h2 =>
 R t5 h2) h1) h

theorem n45_calls {seq0:Value} {R:VP} {h:Heap} (H:n45 seq0 R h):CallsH Tryz.prog 45 #[seq0] h R ⟨⟩ :=
 callsH_of_eq Tryz.follow .l Tryz.func45 kR kR kR H

def n46 (m0:Value) (R:VP) (h:Heap):Prop :=
 vF (box 88 m0) (fun m1 h1 =>
 vF (pure (.func (.func 86) #[] #[m1])) (fun t3 h2 =>
 R t3 h2) h1) h

theorem n46_calls {m0:Value} {R:VP} {h:Heap} (H:n46 m0 R h):CallsH Tryz.prog 46 #[m0] h R ⟨⟩ :=
 callsH_of_eq Tryz.follow .l Tryz.func46 kR kR kR H

def n47 (c0:Value) (R:VP) (h:Heap):Prop :=
 vG (nilS c0) (fun t5 _ =>
 vG (fieldAt 93 t5 0) (fun t6 _ =>
 vG (loadAt 26 t6) (fun t7 _ =>
 vG (nilS c0) (fun t9 _ =>
 vG (fieldAt 93 t9 1) (fun t10 _ =>
 vG (loadAt 9 t10) (fun t11 _ =>
 vC 87 #[t7,t11] (fun t12 h1 =>
 JoinN 0 (fun (k:Heap→Prop) h2 =>
 vF (vk .eql 29 13 .i64 0 t12) (fun t14 h3 =>
 vD t14 (
 vF (nilS c0) (fun t16 h4 =>
 vF (fieldAt 93 t16 8) (fun t17 h5 =>
 vF (fieldAt 81 t17 3) (fun t18 h6 =>
 vF (loadAt 3 t18) (fun t19 h7 =>
 vF (vk .add 3 19 .i64 1 t19) (fun t20 h8 =>
 vF (nilS c0) (fun t21 h9 =>
 vF (fieldAt 93 t21 8) (fun t22 h10 =>
 vF (fieldAt 81 t22 3) (fun t23 h11 =>
 vF (storeS 3 t23 t20) (fun _ h12 =>
 vF (nilS c0) (fun t25 h13 =>
 vF (fieldAt 93 t25 5) (fun t26 h14 =>
 vF (loadAt 90 t26) (fun t27 h15 =>
 vF (clear_ #[90] 0 #[t27]) (fun _ h16 =>
 vC 54 #[c0] (fun t29 h17 =>
 k h17) h16) h15) h14) h13) h12) h11) h10) h9) h8) h7) h6) h5) h4) h3) (
 k h3)) h2)
 (fun h18 =>
 R t12 h18) h1 ⟨⟩ ⟨⟩) h) h) #[]) #[]) h) #[]) #[]

theorem n47_calls {c0:Value} {R:VP} {h:Heap} (H:n47 c0 R h):CallsH Tryz.prog 47 #[c0] h R ⟨⟩ :=
 callsH_of_eq Tryz.follow (.n none .l (.n none .l (.n (some []) .l .l))) Tryz.func47 kR kR kR H

def n49 (s0 name1:Value) (R:VP) (h:Heap):Prop :=
 JoinN 1 (fun (k:VP) h1 =>
 vC 50 #[s0,name1] (fun t13 h2 =>
 vF (extract t13 0) (fun t14 h3 =>
 vF (extract t13 1) (fun t15 h4 =>
 vF (vk .eql 29 16 .i64 0 t15) (fun t17 h5 =>
 vD t17 (
 vF (nilS t14) (fun t19 h6 =>
 vF (fieldAt 115 t19 1) (fun t20 h7 =>
 vF (loadAt 113 t20) (fun t21 h8 =>
 vF (len_ #[113] 3 #[t21]) (fun t22 h9 =>
 LoopC 2 (fun (X:Value→VP)=>fun l5 t23 h10 =>
 vF (vt .lss 3 23 22 t23 t22) (fun t24 h11 =>
 vD t24 (
 vF (indexAt 113 t21 t23) (fun t25 h12 =>
 vF (loadAt 162 t25) (fun t26 h13 =>
 vF (alloc 162 true undef) (fun p9 h14 =>
 vF (storeS 162 p9 t26) (fun _ h15 =>
 vF (fieldAt 162 p9 0) (fun t28 h16 =>
 vF (loadAt 2 t28) (fun t29 h17 =>
 vF (fieldAt 162 p9 1) (fun t30 h18 =>
 vF (loadAt 33 t30) (fun t31 h19 =>
 vF (len_ #[33] 3 #[t31]) (fun t32 h20 =>
 vF (build 150 #[(0,t29),(1,t32)]) (fun t33 h21 =>
 vF (buildSlice 170 1 #[(0,t33)]) (fun t34 h22 =>
 vF (append_ #[170,170] 170 #[l5,t34]) (fun t35 h23 =>
 vF (vk .add 3 23 .i64 1 t23) (fun t36 h24 =>
 X t35 t36 h24) h23) h22) h21) h20) h19) h18) h17) h16) h15) h14) h13) h12) h11) (
 k l5 h11)) h10) [(.slice none 0 0),(.int .i64 0)] h9 ⟨⟩) h8) h7) h6) h5) (
 k (.slice none 0 0) h5)) h4) h3) h2) h1)
 (fun l5_1 h25 =>
 vC 90 #[l5_1] (fun t38 h26 =>
 R t38 h26) h25) h ⟨⟩ ⟨⟩

theorem n49_calls {s0 name1:Value} {R:VP} {h:Heap} (H:n49 s0 name1 R h):CallsH Tryz.prog 49 #[s0,name1] h R ⟨⟩ :=
 callsH_of_eq Tryz.follow (.n none .l (.n none .l (.n (some [6]) (.n none .l (.n none .l (.n none (.n none .l (.n none (.n (some [6,24]) .l .l) .l)) .l))) .l))) Tryz.func49 kR kR kR H

def n50 (s0 name1:Value) (R:VP) (h:Heap):Prop :=
 vC 76 #[s0,name1] (fun t11 h1 =>
 vF (vk .neq 29 12 .i64 0 t11) (fun t13 h2 =>
 vD t13 (
 R (.tuple #[(.pointer none),t11]) h2) (
 vF (nilS s0) (fun t17 h3 =>
 vF (fieldAt 156 t17 0) (fun t18 h4 =>
 vF (loadAt 153 t18) (fun t19 h5 =>
 vF (lookup 153 t19 name1 true) (fun t21 h6 =>
 vF (extract t21 0) (fun t22 h7 =>
 vF (extract t21 1) (fun t23 h8 =>
 vF (Op.unary .not t23) (fun t25 h9 =>
 vD t25 (
 R (.tuple #[(.pointer none),(.int .i64 7)]) h9) (
 R (.tuple #[t22,(.int .i64 0)]) h9)) h8) h7) h6) h5) h4) h3) h2)) h1) h

theorem n50_calls {s0 name1:Value} {R:VP} {h:Heap} (H:n50 s0 name1 R h):CallsH Tryz.prog 50 #[s0,name1] h R ⟨⟩ :=
 callsH_of_eq Tryz.follow .l Tryz.func50 kR kR kR H

end Go.Proofs.YtcbbdnaelimpfaaGreat

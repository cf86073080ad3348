/- Printed by /tmp/tools2/gen.py: the condition of each function,and that a call meets it. -/
import Derived.Test.YtcbbdnaelimpfaaGreatVcFun
import Derived.Test.YtcbbdnaelimpfaaGreatProg
set_option maxRecDepth 100000
set_option linter.unusedVariables false
namespace Go.Proofs.YtcbbdnaelimpfaaGreat
open Go.Vc Go.Instr Go.Builtin

abbrev vF (m:Sem Value) (k:VP) (h:Heap):Prop:=Hp Tryz.prog false m k h ⟨⟩
abbrev vG (m:Sem Value) (k:VP) (h:Heap):Prop:=Hp Tryz.prog true m k h ⟨⟩
abbrev vC (n:Nat) (a:Array Value) (k:VP) (h:Heap):Prop:=CallsH Tryz.prog n a h k ⟨⟩
abbrev vD (v:Value) (a b:Prop):Prop:=CondP v a b ⟨⟩ ⟨⟩
abbrev vJ (c:Value) (w:Bool) (e:VP→Heap→Prop) (k:VP) (h:Heap):Prop:=Join1 (fun k h=>guardP c w (e k h) (k undef h) ⟨⟩ ⟨⟩) k h ⟨⟩ ⟨⟩
abbrev vV (x:Value) (k:VP) (h:Heap):Prop:=k x h
abbrev vk (o:Go.BinOp) (t n:Nat) (k:IntKind) (c:Int) (v:Value):Sem Value:=binS o t (.tmp n) (.const (.int k c)) v (.int k c)
abbrev vt (o:Go.BinOp) (t n m:Nat) (v w:Value):Sem Value:=binS o t (.tmp n) (.tmp m) v w

theorem Tryz.follow:Tryz.prog.follows .mixedOrders=true:=by kernel_rfl

def n104 (c0:Value) (R:VP) (h:Heap):Prop :=
 LoopC 2 (fun (X:Value→VP)=>fun l2 i3 h1 =>
 vF (nilS c0) (fun t6 h2 =>
 vF (fieldAt 139 t6 6) (fun t7 h3 =>
 vF (loadAt 137 t7) (fun t8 h4 =>
 vF (len_ #[137] 3 #[t8]) (fun t9 h5 =>
 vF (vt .lss 3 4 9 i3 t9) (fun t10 h6 =>
 vD t10 (
 JoinN 1 (fun (k:VP) h7 =>
 JoinN 1 (fun (k_1:VP) h8 =>
 vF (nilS c0) (fun t15 h9 =>
 vF (fieldAt 139 t15 6) (fun t16 h10 =>
 vF (loadAt 137 t16) (fun t17 h11 =>
 vF (indexAt 137 t17 i3) (fun t19 h12 =>
 vF (fieldAt 181 t19 1) (fun t20 h13 =>
 vF (loadAt 2 t20) (fun t21 h14 =>
 vC 99 #[c0,t21] (fun t22 h15 =>
 vD t22 (
 vF (nilS c0) (fun t25 h16 =>
 vF (fieldAt 139 t25 6) (fun t26 h17 =>
 vF (loadAt 137 t26) (fun t27 h18 =>
 vF (indexAt 137 t27 i3) (fun t29 h19 =>
 vF (loadAt 181 t29) (fun t30 h20 =>
 vF (buildSlice 137 1 #[(0,t30)]) (fun t31 h21 =>
 vF (append_ #[137,137] 137 #[l2,t31]) (fun t32 h22 =>
 k_1 t32 h22) h21) h20) h19) h18) h17) h16) h15) (
 k_1 l2 h15)) h14) h13) h12) h11) h10) h9) h8)
 (fun l2_1 h23 =>
 k l2_1 h23) h7 ⟨⟩ ⟨⟩)
 (fun l2_2 h24 =>
 vF (vk .add 3 11 .i64 1 i3) (fun t12 h25 =>
 X l2_2 t12 h25) h24) h6 ⟨⟩ ⟨⟩) (
 vF (nilS c0) (fun t35 h26 =>
 vF (fieldAt 139 t35 6) (fun t36 h27 =>
 vF (storeS 137 t36 l2) (fun _ h28 =>
 R (.tuple #[]) h28) h27) h26) h6)) h5) h4) h3) h2) h1) [(.slice none 0 0),(.int .i64 0)] h ⟨⟩

theorem n104_calls {c0:Value} {R:VP} {h:Heap} (H:n104 c0 R h):CallsH Tryz.prog 104 #[c0] h R ⟨⟩ :=
 callsH_of_eq Tryz.follow (.n none .l (.n none (.n none .l (.n none (.n (some [3,4]) (.n none .l (.n (some [3]) (.n (some [3]) .l .l) .l)) .l) .l)) .l)) Tryz.func104 kR kR kR H

def n105 (l0 x1:Value) (R:VP) (h:Heap):Prop :=
 LoopC 1 (fun (X:VP)=>fun i5 h1 =>
 vF (len_ #[102] 3 #[l0]) (fun t8 h2 =>
 vF (vt .lss 3 6 8 i5 t8) (fun t9 h3 =>
 vD t9 (
 vF (indexAt 102 l0 i5) (fun t14 h4 =>
 vF (loadAt 2 t14) (fun t15 h5 =>
 vF (vt .eql 2 15 16 t15 x1) (fun t17 h6 =>
 vD t17 (
 R (.bool true) h6) (
 vF (vk .add 3 10 .i64 1 i5) (fun t11 h7 =>
 X t11 h7) h6)) h5) h4) h3) (
 R (.bool false) h3)) h2) h1) [(.int .i64 0)] h ⟨⟩

theorem n105_calls {l0 x1:Value} {R:VP} {h:Heap} (H:n105 l0 x1 R h):CallsH Tryz.prog 105 #[l0,x1] h R ⟨⟩ :=
 callsH_of_eq Tryz.follow (.n none .l (.n none (.n none .l (.n none (.n (some [6]) .l .l) .l)) .l)) Tryz.func105 kR kR kR H

def n106 (c0 page1:Value) (R:VP) (h:Heap):Prop :=
 LoopC 2 (fun (X:Value→VP)=>fun l5 i6 h1 =>
 vF (nilS c0) (fun t10 h2 =>
 vF (fieldAt 139 t10 6) (fun t11 h3 =>
 vF (loadAt 137 t11) (fun t12 h4 =>
 vF (len_ #[137] 3 #[t12]) (fun t13 h5 =>
 vF (vt .lss 3 8 13 i6 t13) (fun t14 h6 =>
 vD t14 (
 JoinN 1 (fun (k:VP) h7 =>
 JoinN 1 (fun (k_1:VP) h8 =>
 vF (nilS c0) (fun t18 h9 =>
 vF (fieldAt 139 t18 6) (fun t19 h10 =>
 vF (loadAt 137 t19) (fun t20 h11 =>
 vF (indexAt 137 t20 i6) (fun t22 h12 =>
 vF (loadAt 181 t22) (fun t23 h13 =>
 vF (alloc 181 true undef) (fun w7 h14 =>
 vF (storeS 181 w7 t23) (fun _ h15 =>
 vF (fieldAt 181 w7 0) (fun t24 h16 =>
 vF (loadAt 2 t24) (fun t25 h17 =>
 vF (vt .eql 2 25 26 t25 page1) (fun t27 h18 =>
 vJ t27 true (vV c0) (fun t29 h20 =>
 vJ t27 true (vF (fieldAt 181 w7 1)) (fun t30 h22 =>
 vJ t27 true (vF (loadAt 2 t30)) (fun t31 h24 =>
 vJ t27 true (vC 99 #[t29,t31]) (fun t32 h26 =>
 vF (pickS t27 t32 (.bool false)) (fun t33 h27 =>
 vJ t33 true (vV l5) (fun t35 h29 =>
 vJ t33 true (vF (fieldAt 181 w7 1)) (fun t36 h31 =>
 vJ t33 true (vF (loadAt 2 t36)) (fun t37 h33 =>
 vJ t33 true (vC 105 #[t35,t37]) (fun t38 h35 =>
 vJ t33 true (vF (Op.unary .not t38)) (fun t39 h37 =>
 vF (pickS t33 t39 (.bool false)) (fun t40 h38 =>
 vD t40 (
 vF (fieldAt 181 w7 1) (fun t42 h39 =>
 vF (loadAt 2 t42) (fun t43 h40 =>
 vC 125 #[l5,t43] (fun t44 h41 =>
 k_1 t44 h41) h40) h39) h38) (
 k_1 l5 h38)) h37) h35) h33) h31) h29) h27) h26) h24) h22) h20) h18) h17) h16) h15) h14) h13) h12) h11) h10) h9) h8)
 (fun l5_1 h42 =>
 k l5_1 h42) h7 ⟨⟩ ⟨⟩)
 (fun l5_2 h43 =>
 vF (vk .add 3 15 .i64 1 i6) (fun t16 h44 =>
 X l5_2 t16 h44) h43) h6 ⟨⟩ ⟨⟩) (
 R l5 h6)) h5) h4) h3) h2) h1) [(.slice none 0 0),(.int .i64 0)] h ⟨⟩

theorem n106_calls {c0 page1:Value} {R:VP} {h:Heap} (H:n106 c0 page1 R h):CallsH Tryz.prog 106 #[c0,page1] h R ⟨⟩ :=
 callsH_of_eq Tryz.follow (.n none .l (.n none .l (.n none (.n none .l (.n none (.n (some [6,7]) (.n none .l (.n (some [6]) (.n (some [6]) .l .l) .l)) .l) .l)) .l))) Tryz.func106 kR kR kR H

def n107 (b0 at1 x2:Value) (R:VP) (h:Heap):Prop :=
 vG (sliceAt 9 b0 none (some at1) none) (fun t9 _ =>
 vG (vt .add 9 9 10 t9 x2) (fun t11 _ =>
 vG (len_ #[9] 3 #[x2]) (fun t15 _ =>
 vG (vt .add 2 13 15 at1 t15) (fun t16 _ =>
 vG (sliceAt 9 b0 (some t16) none none) (fun t17 _ =>
 vG (vt .add 9 11 17 t11 t17) (fun t18 _ =>
 R t18 h) #[]) #[]) #[]) #[]) #[]) #[]

theorem n107_calls {b0 at1 x2:Value} {R:VP} {h:Heap} (H:n107 b0 at1 x2 R h):CallsH Tryz.prog 107 #[b0,at1,x2] h R ⟨⟩ :=
 callsH_of_eq Tryz.follow .l Tryz.func107 kR kR kR H

def n108 (yield0 t1:Value) (R:VP) (h:Heap):Prop :=
 vF (loadAt 102 t1) (fun t5 h1 =>
 vF (len_ #[102] 3 #[t5]) (fun t6 h2 =>
 LoopC 1 (fun (X:VP)=>fun t7 h3 =>
 vF (vt .lss 3 7 6 t7 t6) (fun t8 h4 =>
 vD t8 (
 vF (indexAt 102 t5 t7) (fun t9 h5 =>
 vF (loadAt 2 t9) (fun t10 h6 =>
 InvokeH Tryz.prog yield0 #[t10] h6 (fun t13 h7 =>
 vF (Op.unary .not t13) (fun t14 h8 =>
 vD t14 (
 R (.tuple #[]) h8) (
 vF (vk .add 3 7 .i64 1 t7) (fun t15 h9 =>
 X t15 h9) h8)) h7) ⟨⟩) h5) h4) (
 R (.tuple #[]) h4)) h3) [(.int .i64 0)] h2 ⟨⟩) h1) h

theorem n108_calls {yield0 t1:Value} {R:VP} {h:Heap} (H:n108 yield0 t1 R h):CallsH Tryz.prog 108 #[yield0,t1] h R ⟨⟩ :=
 callsH_of_eq Tryz.follow (.n none .l (.n none (.n (some [8]) .l .l) .l)) Tryz.func108 kR kR kR H

def n109 (s0 f1:Value) (R:VP) (h:Heap):Prop :=
 vC 127 #[s0,f1] (fun t7 h1 =>
 vF (vk .geq 3 7 .i64 0 t7) (fun t8 h2 =>
 R t8 h2) h1) h

theorem n109_calls {s0 f1:Value} {R:VP} {h:Heap} (H:n109 s0 f1 R h):CallsH Tryz.prog 109 #[s0,f1] h R ⟨⟩ :=
 callsH_of_eq Tryz.follow .l Tryz.func109 kR kR kR H

def n110 (f0:Value) (R:VP) (h:Heap):Prop :=
 vF (box 118 f0) (fun f1 h1 =>
 vF (fieldAt 118 f1 0) (fun t3 h2 =>
 vF (loadAt 116 t3) (fun t4 h3 =>
 vF (vk .lss 116 4 .i64 0 t4) (fun t5 h4 =>
 vJ t5 false (vF (fieldAt 118 f1 0)) (fun t7 h6 =>
 vJ t5 false (vF (loadAt 116 t7)) (fun t8 h8 =>
 vJ t5 false (vF (vk .gtr 116 8 .i64 2 t8)) (fun t9 h10 =>
 vF (pickS t5 (.bool true) t9) (fun t10 h11 =>
 R t10 h11) h10) h8) h6) h4) h3) h2) h1) h

theorem n110_calls {f0:Value} {R:VP} {h:Heap} (H:n110 f0 R h):CallsH Tryz.prog 110 #[f0] h R ⟨⟩ :=
 callsH_of_eq Tryz.follow .l Tryz.func110 kR kR kR H

def n111 (b0 c1:Value) (R:VP) (h:Heap):Prop :=
 ExtH Tryz.prog 128 #[b0,c1] h (fun t7 h1 =>
 R t7 h1) ⟨⟩

theorem n111_calls {b0 c1:Value} {R:VP} {h:Heap} (H:n111 b0 c1 R h):CallsH Tryz.prog 111 #[b0,c1] h R ⟨⟩ :=
 callsH_of_eq Tryz.follow .l Tryz.func111 kR kR kR H

def n112 (h0:Value) (R:VP) (h:Heap):Prop :=
 MethodH Tryz.prog h0 "Len" #[] h (fun t5 h1 =>
 vF (vk .quo 3 6 .i64 2 t5) (fun t7 h2 =>
 vF (vk .sub 3 7 .i64 1 t7) (fun t8 h3 =>
 LoopC 1 (fun (X:VP)=>fun i3 h4 =>
 vF (vk .geq 3 9 .i64 0 i3) (fun t10 h5 =>
 vD t10 (
 vC 129 #[h0,i3,t5] (fun t16 h6 =>
 vF (vk .sub 3 11 .i64 1 i3) (fun t12 h7 =>
 X t12 h7) h6) h5) (
 R (.tuple #[]) h5)) h4) [t8] h3 ⟨⟩) h2) h1) ⟨⟩

theorem n112_calls {h0:Value} {R:VP} {h:Heap} (H:n112 h0 R h):CallsH Tryz.prog 112 #[h0] h R ⟨⟩ :=
 callsH_of_eq Tryz.follow (.n none .l (.n none .l (.n none (.n (some [4]) .l .l) .l))) Tryz.func112 kR kR kR H

def n113 (h0:Value) (R:VP) (h:Heap):Prop :=
 MethodH Tryz.prog h0 "Len" #[] h (fun t5 h1 =>
 vF (vk .sub 3 5 .i64 1 t5) (fun t6 h2 =>
 MethodH Tryz.prog h0 "Swap" #[(.int .i64 0), t6] h2 (fun t9 h3 =>
 vC 129 #[h0,(.int .i64 0),t6] (fun t12 h4 =>
 MethodH Tryz.prog h0 "Pop" #[] h4 (fun t14 h5 =>
 R t14 h5) ⟨⟩) h3) ⟨⟩) h1) ⟨⟩

theorem n113_calls {h0:Value} {R:VP} {h:Heap} (H:n113 h0 R h):CallsH Tryz.prog 113 #[h0] h R ⟨⟩ :=
 callsH_of_eq Tryz.follow .l Tryz.func113 kR kR kR H

def n114 (s0 seq1:Value) (R:VP) (h:Heap):Prop :=
 vF (box 102 s0) (fun s2 h1 =>
 JoinN 1 (fun (k:VP) h2 =>
 JoinN 1 (fun (k_1:VP) h3 =>
 RangeC Tryz.prog none seq1 1 (.tuple #[]) (fun l args bg Nb Jb h4 =>
 bg (fun h5 =>
 vF (loadAt 102 s2) (fun t8 h6 =>
 vF (buildSlice 102 1 #[(0,(getV args 0))]) (fun t10 h7 =>
 vF (append_ #[102,102] 102 #[t8,t10]) (fun t11 h8 =>
 vF (storeS 102 s2 t11) (fun _ h9 =>
 Nb h9) h8) h7) h6) h5) h4)
 (fun D h10 =>
 k_1 D h10)
 (fun D_1 h11 =>
 RetD D_1 h11 (fun h12 =>
 R (.slice none 0 0) h12) ⟨⟩)
 (fun id D_2 h13=>bif Nat.beq id 0 then (k_1 D_2 h13) else False) h3 ⟨⟩ ⟨⟩ ⟨⟩ ⟨⟩)
 (fun D_3 h14 =>
 k D_3 h14) h2 ⟨⟩ ⟨⟩)
 (fun D_4 h15 =>
 vF (loadAt 102 s2) (fun t12 h16 =>
 RetD D_4 h16 (fun h17 =>
 R t12 h17) ⟨⟩) h15) h1 ⟨⟩ ⟨⟩) h

theorem n114_calls {s0 seq1:Value} {R:VP} {h:Heap} (H:n114 s0 seq1 R h):CallsH Tryz.prog 114 #[s0,seq1] h R ⟨⟩ :=
 callsH_of_eq Tryz.follow (.n none .l (.n (some [0]) (.n none .l (.n (some [0]) .l .l)) .l)) Tryz.func114 kR kR kR H

def n115 (data0 a1 b2 limit3:Value) (R:VP) (h:Heap):Prop :=
 LoopC 5 (fun (X:Value→Value→Value→Value→VP)=>fun a1_1 b2_1 limit3_1 wasBalanced8 wasPartitioned9 h1 =>
 JoinN 5 (fun (k:Value→Value→Value→Value→VP) h2 =>
 vF (vt .sub 3 19 20 b2_1 a1_1) (fun t21 h3 =>
 vF (vk .leq 3 22 .i64 12 t21) (fun t23 h4 =>
 vD t23 (
 vC 130 #[data0,a1_1,b2_1] (fun t27 h5 =>
 R (.tuple #[]) h5) h4) (
 vF (vk .eql 3 28 .i64 0 limit3_1) (fun t29 h6 =>
 vD t29 (
 vC 131 #[data0,a1_1,b2_1] (fun t33 h7 =>
 R (.tuple #[]) h7) h6) (
 JoinN 1 (fun (k_1:VP) h8 =>
 vF (Op.unary .not wasBalanced8) (fun t35 h9 =>
 vD t35 (
 vC 132 #[data0,a1_1,b2_1] (fun t39 h10 =>
 vF (vk .sub 3 40 .i64 1 limit3_1) (fun t41 h11 =>
 k_1 t41 h11) h10) h9) (
 k_1 limit3_1 h9)) h8)
 (fun limit3_2 h12 =>
 vC 133 #[data0,a1_1,b2_1] (fun t46 h13 =>
 vF (extract t46 0) (fun t47 h14 =>
 vF (extract t46 1) (fun t48 h15 =>
 JoinN 2 (fun (k_2:Value→VP) h16 =>
 vF (vk .eql 209 49 .i64 2 t48) (fun t50 h17 =>
 vD t50 (
 vC 134 #[data0,a1_1,b2_1] (fun t54 h18 =>
 vF (vk .sub 3 55 .i64 1 b2_1) (fun t56 h19 =>
 vF (vt .sub 3 57 58 t47 a1_1) (fun t59 h20 =>
 vF (vt .sub 3 56 59 t56 t59) (fun t60 h21 =>
 k_2 t60 (.int .i64 1) h21) h20) h19) h18) h17) (
 k_2 t47 t48 h17)) h16)
 (fun pivot11 hint12 h22 =>
 JoinN 0 (fun (k_3:Heap→Prop) h23 =>
 vJ wasBalanced8 true (vV wasPartitioned9) (fun t63 h25 =>
 vF (pickS wasBalanced8 t63 (.bool false)) (fun t64 h26 =>
 vJ t64 true (vV hint12) (fun t66 h28 =>
 vJ t64 true (vF (vk .eql 209 66 .i64 1 t66)) (fun t67 h30 =>
 vF (pickS t64 t67 (.bool false)) (fun t68 h31 =>
 vD t68 (
 vC 135 #[data0,a1_1,b2_1] (fun t72 h32 =>
 vD t72 (
 R (.tuple #[]) h32) (
 k_3 h32)) h31) (
 k_3 h31)) h30) h28) h26) h25) h23)
 (fun h33 =>
 vG (vk .gtr 3 73 .i64 0 a1_1) (fun t74 _ =>
 vJ t74 true (vV data0) (fun t76 _ =>
 vJ t74 true (vV a1_1) (fun t77 _ =>
 vJ t74 true (vG (vk .sub 3 77 .i64 1 t77)) (fun t78 _ =>
 vJ t74 true (vG (indexAt 102 t76 t78)) (fun t79 _ =>
 vJ t74 true (vG (loadAt 2 t79)) (fun t80 _ =>
 vJ t74 true (vV data0) (fun t81 _ =>
 vJ t74 true (vV pivot11) (fun t82 _ =>
 vJ t74 true (vG (indexAt 102 t81 t82)) (fun t83 _ =>
 vJ t74 true (vG (loadAt 2 t83)) (fun t84 _ =>
 vJ t74 true (vC 136 #[t80,t84]) (fun t85 h44 =>
 vJ t74 true (vG (Op.unary .not t85)) (fun t86 _ =>
 vG (pickS t74 t86 (.bool false)) (fun t87 _ =>
 vD t87 (
 vC 137 #[data0,a1_1,b2_1,pivot11] (fun t92 h46 =>
 k t92 b2_1 limit3_2 wasBalanced8 wasPartitioned9 h46) h44) (
 vC 138 #[data0,a1_1,b2_1,pivot11] (fun t99 h47 =>
 vF (extract t99 0) (fun t100 h48 =>
 vF (extract t99 1) (fun t101 h49 =>
 vF (vt .sub 3 103 104 t100 a1_1) (fun t105 h50 =>
 vF (vt .sub 3 106 107 b2_1 t100) (fun t108 h51 =>
 vF (vk .quo 3 109 .i64 8 t21) (fun t110 h52 =>
 vF (vt .lss 3 111 112 t105 t108) (fun t113 h53 =>
 vD t113 (
 vF (vt .geq 3 114 115 t105 t110) (fun t116 h54 =>
 vC 115 #[data0,a1_1,t100,limit3_2] (fun t121 h55 =>
 vF (vk .add 3 122 .i64 1 t100) (fun t123 h56 =>
 k t123 b2_1 limit3_2 t116 t101 h56) h55) h54) h53) (
 vF (vt .geq 3 124 125 t108 t110) (fun t126 h57 =>
 vF (vk .add 3 128 .i64 1 t100) (fun t129 h58 =>
 vC 115 #[data0,t129,b2_1,limit3_2] (fun t132 h59 =>
 k a1_1 t100 limit3_2 t126 t101 h59) h58) h57) h53)) h52) h51) h50) h49) h48) h47) h44)) #[]) #[]) h33) h33) #[]) #[]) #[]) h33) #[]) #[]) #[]) #[]) #[]) h22 ⟨⟩ ⟨⟩) h15 ⟨⟩ ⟨⟩) h14) h13) h12) h6 ⟨⟩ ⟨⟩)) h4)) h3) h2)
 (fun a1_2 b2_2 limit3_3 wasBalanced8_1 wasPartitioned9_1 h60 =>
 X a1_2 b2_2 limit3_3 wasBalanced8_1 wasPartitioned9_1 h60) h1 ⟨⟩ ⟨⟩) [a1,b2,limit3,(.bool true),(.bool true)] h ⟨⟩

theorem n115_calls {data0 a1 b2 limit3:Value} {R:VP} {h:Heap} (H:n115 data0 a1 b2 limit3 R h):CallsH Tryz.prog 115 #[data0,a1,b2,limit3] h R ⟨⟩ :=
 callsH_of_eq Tryz.follow (.n none .l (.n none .l (.n none (.n (some [2,3,4,9,10]) (.n (some [2,3,4,9,10]) (.n none .l (.n none .l (.n none .l (.n (some [4]) .l (.n none .l (.n (some [12,13]) .l (.n (some []) .l .l))))))) .l) .l) .l))) Tryz.func115 kR kR kR H

def n116 (x0:Value) (R:VP) (h:Heap):Prop :=
 vD (.bool false) (
 vF (convert 195 217 x0) (fun t4 h1 =>
 vC 139 #[t4] (fun t5 h2 =>
 R t5 h2) h1) h) (
 vC 140 #[x0] (fun t7 h3 =>
 R t7 h3) h)

theorem n116_calls {x0:Value} {R:VP} {h:Heap} (H:n116 x0 R h):CallsH Tryz.prog 116 #[x0] h R ⟨⟩ :=
 callsH_of_eq Tryz.follow .l Tryz.func116 kR kR kR H

def n117 (s0:Value) (R:VP) (h:Heap):Prop :=
 vF (binS .eql 113 (.tmp 3) (.const (.slice none 0 0)) s0 (.slice none 0 0)) (fun t4 h1 =>
 vD t4 (
 R (.slice none 0 0) h1) (
 vF (buildSlice 113 0 #[]) (fun t5 h2 =>
 vF (append_ #[113,113] 113 #[t5,s0]) (fun t7 h3 =>
 R t7 h3) h2) h1)) h

theorem n117_calls {s0:Value} {R:VP} {h:Heap} (H:n117 s0 R h):CallsH Tryz.prog 117 #[s0] h R ⟨⟩ :=
 callsH_of_eq Tryz.follow .l Tryz.func117 kR kR kR H

def n121 (yield0 t1:Value) (R:VP) (h:Heap):Prop :=
 vF (loadAt 170 t1) (fun t5 h1 =>
 vF (len_ #[170] 3 #[t5]) (fun t6 h2 =>
 LoopC 1 (fun (X:VP)=>fun t7 h3 =>
 vF (vt .lss 3 7 6 t7 t6) (fun t8 h4 =>
 vD t8 (
 vF (indexAt 170 t5 t7) (fun t9 h5 =>
 vF (loadAt 150 t9) (fun t10 h6 =>
 vF (alloc 150 true undef) (fun v4 h7 =>
 vF (storeS 150 v4 t10) (fun _ h8 =>
 vF (loadAt 150 v4) (fun t12 h9 =>
 InvokeH Tryz.prog yield0 #[t12] h9 (fun t13 h10 =>
 vF (Op.unary .not t13) (fun t14 h11 =>
 vD t14 (
 R (.tuple #[]) h11) (
 vF (vk .add 3 7 .i64 1 t7) (fun t15 h12 =>
 X t15 h12) h11)) h10) ⟨⟩) h8) h7) h6) h5) h4) (
 R (.tuple #[]) h4)) h3) [(.int .i64 0)] h2 ⟨⟩) h1) h

theorem n121_calls {yield0 t1:Value} {R:VP} {h:Heap} (H:n121 yield0 t1 R h):CallsH Tryz.prog 121 #[yield0,t1] h R ⟨⟩ :=
 callsH_of_eq Tryz.follow (.n none .l (.n none (.n (some [8]) .l .l) .l)) Tryz.func121 kR kR kR H

def n123 (c0:Value) (R:VP) (h:Heap):Prop :=
 vG (nilS c0) (fun t8 _ =>
 vG (fieldAt 139 t8 4) (fun t9 _ =>
 vG (loadAt 136 t9) (fun t10 _ =>
 vG (len_ #[136] 3 #[t10]) (fun t11 _ =>
 vG (nilS c0) (fun t13 _ =>
 vG (fieldAt 139 t13 3) (fun t14 _ =>
 vG (loadAt 3 t14) (fun t15 _ =>
 vG (vt .lss 3 11 15 t11 t15) (fun t16 _ =>
 vD t16 (
 R (.int .i64 0) h) (
 LoopC 2 (fun (X:Value→VP)=>fun best3 i4 h1 =>
 vF (nilS c0) (fun t19 h2 =>
 vF (fieldAt 139 t19 4) (fun t20 h3 =>
 vF (loadAt 136 t20) (fun t21 h4 =>
 vF (len_ #[136] 3 #[t21]) (fun t22 h5 =>
 vF (vt .lss 3 17 22 i4 t22) (fun t23 h6 =>
 vD t23 (
 JoinN 1 (fun (k:VP) h7 =>
 JoinN 1 (fun (k_1:VP) h8 =>
 vG (nilS c0) (fun t27 _ =>
 vG (fieldAt 139 t27 4) (fun t28 _ =>
 vG (loadAt 136 t28) (fun t29 _ =>
 vG (indexAt 136 t29 i4) (fun t31 _ =>
 vG (fieldAt 178 t31 2) (fun t32 _ =>
 vG (loadAt 4 t32) (fun t33 _ =>
 vG (Op.unary .not t33) (fun t34 _ =>
 vJ t34 true (vV best3) (fun t36 _ =>
 vJ t34 true (vG (vk .lss 3 36 .i64 0 t36)) (fun t37 _ =>
 vJ t34 true (vV t37) (fun t38 _ =>
 vJ t38 false (vV c0) (fun t39 _ =>
 vJ t38 false (vG (nilS t39)) (fun t40 _ =>
 vJ t38 false (vG (fieldAt 139 t40 4)) (fun t41 _ =>
 vJ t38 false (vG (loadAt 136 t41)) (fun t42 _ =>
 vJ t38 false (vV i4) (fun t43 _ =>
 vJ t38 false (vG (indexAt 136 t42 t43)) (fun t44 _ =>
 vJ t38 false (vG (fieldAt 178 t44 3)) (fun t45 _ =>
 vJ t38 false (vG (loadAt 3 t45)) (fun t46 _ =>
 vJ t38 false (vV c0) (fun t47 _ =>
 vJ t38 false (vG (nilS t47)) (fun t48 _ =>
 vJ t38 false (vG (fieldAt 139 t48 4)) (fun t49 _ =>
 vJ t38 false (vG (loadAt 136 t49)) (fun t50 _ =>
 vJ t38 false (vV best3) (fun t51 _ =>
 vJ t38 false (vG (indexAt 136 t50 t51)) (fun t52 _ =>
 vJ t38 false (vG (fieldAt 178 t52 3)) (fun t53 _ =>
 vJ t38 false (vG (loadAt 3 t53)) (fun t54 _ =>
 vJ t38 false (vG (vt .lss 3 46 54 t46 t54)) (fun t55 _ =>
 vJ t34 true (vG (pickS t38 (.bool true) t55)) (fun t56 _ =>
 vG (pickS t34 t56 (.bool false)) (fun t57 _ =>
 vD t57 (
 k_1 i4 h8) (
 k_1 best3 h8)) #[]) #[]) #[]) h8) #[]) #[]) #[]) h8) #[]) #[]) #[]) h8) #[]) #[]) #[]) h8) #[]) #[]) #[]) #[]) #[]) #[]) #[]) h8) #[]) #[]) h8) #[]) #[])
 (fun best3_1 h30 =>
 k best3_1 h30) h7 ⟨⟩ ⟨⟩)
 (fun best3_2 h31 =>
 vF (vk .add 3 24 .i64 1 i4) (fun t25 h32 =>
 X best3_2 t25 h32) h31) h6 ⟨⟩ ⟨⟩) (
 JoinN 1 (fun (k_23:VP) h33 =>
 vF (vk .lss 3 59 .i64 0 best3) (fun t60 h34 =>
 vD t60 (
 LoopC 2 (fun (X_1:Value→VP)=>fun best3_3 i5 h35 =>
 vF (nilS c0) (fun t63 h36 =>
 vF (fieldAt 139 t63 4) (fun t64 h37 =>
 vF (loadAt 136 t64) (fun t65 h38 =>
 vF (len_ #[136] 3 #[t65]) (fun t66 h39 =>
 vF (vt .lss 3 61 66 i5 t66) (fun t67 h40 =>
 vD t67 (
 JoinN 1 (fun (k_24:VP) h41 =>
 JoinN 1 (fun (k_25:VP) h42 =>
 vG (nilS c0) (fun t71 _ =>
 vG (fieldAt 139 t71 4) (fun t72 _ =>
 vG (loadAt 136 t72) (fun t73 _ =>
 vG (indexAt 136 t73 i5) (fun t75 _ =>
 vG (fieldAt 178 t75 3) (fun t76 _ =>
 vG (loadAt 3 t76) (fun t77 _ =>
 vG (nilS c0) (fun t79 _ =>
 vG (fieldAt 139 t79 4) (fun t80 _ =>
 vG (loadAt 136 t80) (fun t81 _ =>
 vG (indexAt 136 t81 best3_3) (fun t83 _ =>
 vG (fieldAt 178 t83 3) (fun t84 _ =>
 vG (loadAt 3 t84) (fun t85 _ =>
 vG (vt .lss 3 77 85 t77 t85) (fun t86 _ =>
 vD t86 (
 k_25 i5 h42) (
 k_25 best3_3 h42)) #[]) h42) #[]) #[]) h42) #[]) #[]) h42) #[]) #[]) h42) #[]) #[])
 (fun best3_4 h43 =>
 k_24 best3_4 h43) h41 ⟨⟩ ⟨⟩)
 (fun best3_5 h44 =>
 vF (vk .add 3 68 .i64 1 i5) (fun t69 h45 =>
 X_1 best3_5 t69 h45) h44) h40 ⟨⟩ ⟨⟩) (
 vF (nilS c0) (fun t90 h46 =>
 vF (fieldAt 139 t90 4) (fun t91 h47 =>
 vF (loadAt 136 t91) (fun t92 h48 =>
 vF (indexAt 136 t92 best3_3) (fun t94 h49 =>
 vF (fieldAt 178 t94 0) (fun t95 h50 =>
 vF (loadAt 2 t95) (fun t96 h51 =>
 vC 101 #[c0,t96] (fun t97 h52 =>
 vF (vk .neq 3 98 .i64 0 t97) (fun t99 h53 =>
 vD t99 (
 R t97 h53) (
 k_23 best3_3 h53)) h52) h51) h50) h49) h48) h47) h46) h40)) h39) h38) h37) h36) h35) [(.int .i64 0),(.int .i64 1)] h34 ⟨⟩) (
 k_23 best3 h34)) h33)
 (fun best3_6 h54 =>
 vG (nilS c0) (fun t104 _ =>
 vG (fieldAt 139 t104 4) (fun t105 _ =>
 vG (loadAt 136 t105) (fun t106 _ =>
 vG (sliceAt 136 t106 none (some best3_6) none) (fun t108 _ =>
 vG (nilS c0) (fun t111 _ =>
 vG (fieldAt 139 t111 4) (fun t112 _ =>
 vG (loadAt 136 t112) (fun t113 _ =>
 vG (vk .add 3 114 .i64 1 best3_6) (fun t115 _ =>
 vG (sliceAt 136 t113 (some t115) none none) (fun t116 _ =>
 vF (buildSlice 136 0 #[]) (fun t102 h55=>vG (loadAt 136 t112) (fun u _=>u=t113) h55∧vG (loadAt 136 t105) (fun u _=>u=t106) h55 ∧
 vF (append_ #[136,136] 136 #[t102,t108]) (fun t109 h56=>vG (loadAt 136 t112) (fun u _=>u=t113) h56 ∧
 vF (append_ #[136,136] 136 #[t109,t116]) (fun t117 h57 =>
 vG (nilS c0) (fun t118 _ =>
 vG (fieldAt 139 t118 4) (fun t119 _ =>
 vF (storeS 136 t119 t117) (fun _ h58 =>
 R (.int .i64 0) h58) h57) #[]) #[]) h56) h55) h54) #[]) #[]) h54) #[]) #[]) #[]) h54) #[]) #[]) h6 ⟨⟩ ⟨⟩)) h5) h4) h3) h2) h1) [(.int .i64 (-1)),(.int .i64 0)] h ⟨⟩)) #[]) h) #[]) #[]) #[]) h) #[]) #[]

theorem n123_calls {c0:Value} {R:VP} {h:Heap} (H:n123 c0 R h):CallsH Tryz.prog 123 #[c0] h R ⟨⟩ :=
 callsH_of_eq Tryz.follow (.n none .l (.n none .l (.n none .l (.n none (.n none .l (.n none (.n (some [4,5]) (.n none .l (.n (some [4]) (.n (some [4]) .l .l) .l)) .l) .l)) (.n (some [4]) (.n none .l (.n none (.n none .l (.n none (.n none .l (.n none (.n (some [4,6]) (.n none .l (.n (some [4]) (.n (some [4]) .l .l) .l)) .l) .l)) .l)) .l)) .l))))) Tryz.func123 kR kR kR H

def n124 (s0 name1 at2 b3:Value) (R:VP) (h:Heap):Prop :=
 vC 55 #[s0,name1] (fun t21 h1 =>
 vF (extract t21 0) (fun t22 h2 =>
 vF (extract t21 1) (fun t23 h3 =>
 vF (vk .neq 3 24 .i64 0 t23) (fun t25 h4 =>
 vD t25 (
 R t23 h4) (
 vF (vk .lss 2 27 .i64 0 at2) (fun t28 h5 =>
 vD t28 (
 R (.int .i64 4) h5) (
 vF (len_ #[33] 3 #[b3]) (fun t30 h6 =>
 vF (vk .gtr 3 30 .i64 0 t30) (fun t31 h7 =>
 vJ t31 true (vV at2) (fun t33 h9 =>
 vJ t31 true (vF (vk .gtr 2 33 .i64 268435456 t33)) (fun t34 h11 =>
 vJ t31 true (vV t34) (fun t35 h13 =>
 vJ t35 false (vV b3) (fun t36 h15 =>
 vJ t35 false (vF (len_ #[33] 3 #[t36])) (fun t37 h17 =>
 vJ t35 false (vV at2) (fun t38 h19 =>
 vJ t35 false (vF (binS .sub 2 (.const (.int .i64 268435456)) (.tmp 38) (.int .i64 268435456) t38)) (fun t39 h21 =>
 vJ t35 false (vF (vt .gtr 2 37 39 t37 t39)) (fun t40 h23 =>
 vJ t31 true (vF (pickS t35 (.bool true) t40)) (fun t41 h25 =>
 vF (pickS t31 t41 (.bool false)) (fun t42 h26 =>
 vD t42 (
 R (.int .i64 6) h26) (
 vC 56 #[s0] (fun t45 h27 =>
 vF (extract t45 0) (fun t46 h28 =>
 vF (extract t45 1) (fun t47 h29 =>
 vF (nilS s0) (fun t49 h30 =>
 vF (fieldAt 68 t49 0) (fun t50 h31 =>
 vF (loadAt 66 t50) (fun t51 h32 =>
 vF (indexAt 66 t51 t22) (fun t53 h33 =>
 vF (loadAt 129 t53) (fun t54 h34 =>
 vF (alloc 129 true undef) (fun x13 h35 =>
 vF (storeS 129 x13 t54) (fun _ h36 =>
 vF (fieldAt 129 x13 2) (fun t55 h37 =>
 vF (loadAt 127 t55) (fun t56 h38 =>
 vF (append_ #[127,127] 127 #[(.slice none 0 0),t56]) (fun t57 h39 =>
 LoopC 3 (fun (X:Value→Value→VP)=>fun pieces14 done15 from16 h40 =>
 vF (len_ #[33] 3 #[b3]) (fun t60 h41 =>
 vF (vt .lss 3 58 60 from16 t60) (fun t61 h42 =>
 vJ t61 true (vV t46) (fun t63 h44 =>
 vJ t61 true (vF (vk .eql 3 63 .i64 0 t63)) (fun t64 h46 =>
 vJ t61 true (vV t64) (fun t65 h48 =>
 vJ t65 false (vV done15) (fun t66 h50 =>
 vJ t65 false (vV t47) (fun t67 h52 =>
 vJ t65 false (vF (vt .lss 3 66 67 t66 t67)) (fun t68 h54 =>
 vJ t61 true (vF (pickS t65 (.bool true) t68)) (fun t69 h56 =>
 vF (pickS t61 t69 (.bool false)) (fun t70 h57 =>
 vD t70 (
 vF (len_ #[33] 3 #[b3]) (fun t72 h58 =>
 vF (vt .sub 3 72 73 t72 from16) (fun t74 h59 =>
 vF (vt .add 2 75 76 at2 from16) (fun t77 h60 =>
 vF (vk .rem 2 77 .i64 512 t77) (fun t78 h61 =>
 vF (binS .sub 3 (.const (.int .i64 512)) (.tmp 78) (.int .i64 512) t78) (fun t79 h62 =>
 vF (min_ #[3,3] 3 #[t74,t79]) (fun t80 h63 =>
 vF (vt .add 2 82 83 at2 from16) (fun t84 h64 =>
 vF (vt .add 3 87 88 from16 t80) (fun t89 h65 =>
 vF (sliceAt 33 b3 (some from16) (some t89) none) (fun t90 h66 =>
 vF (convert 33 9 t90) (fun t91 h67 =>
 vF (build 132 #[(0,t84),(1,t91)]) (fun t92 h68 =>
 vF (buildSlice 127 1 #[(0,t92)]) (fun t93 h69 =>
 vF (append_ #[127,127] 127 #[pieces14,t93]) (fun t94 h70 =>
 vF (vt .add 3 95 96 from16 t80) (fun t97 h71 =>
 vF (vk .add 3 98 .i64 1 done15) (fun t99 h72 =>
 X t94 t99 t97 h72) h71) h70) h69) h68) h67) h66) h65) h64) h63) h62) h61) h60) h59) h58) h57) (
 vF (fieldAt 129 x13 2) (fun t101 h73 =>
 vF (storeS 127 t101 pieces14) (fun _ h74 =>
 JoinN 0 (fun (k_16:Heap→Prop) h75 =>
 vF (vk .gtr 3 102 .i64 0 from16) (fun t103 h76 =>
 vD t103 (
 vG (fieldAt 129 x13 1) (fun t104 _ =>
 vG (loadAt 9 t104) (fun t105 _ =>
 vG (vt .add 2 106 107 at2 from16) (fun t108 _ =>
 vG (fieldAt 129 x13 1) (fun t109 _ =>
 vG (loadAt 9 t109) (fun t110 _ =>
 vG (len_ #[9] 3 #[t110]) (fun t111 _ =>
 vG (vt .sub 2 108 111 t108 t111) (fun t112 _ =>
 vC 57 #[t112] (fun t113 h77=>vG (loadAt 9 t104) (fun u _=>u=t105) h77 ∧
 vG (vt .add 9 105 113 t105 t113) (fun t114 _ =>
 vG (fieldAt 129 x13 1) (fun t115 _ =>
 vF (storeS 9 t115 t114) (fun _ h78 =>
 k_16 h78) h77) #[]) #[]) h76) #[]) #[]) h76) #[]) #[]) h76) #[]) (
 k_16 h76)) h75)
 (fun h79 =>
 vG (nilS s0) (fun t117 _ =>
 vG (fieldAt 68 t117 0) (fun t118 _ =>
 vG (loadAt 66 t118) (fun t119 _ =>
 vG (loadAt 129 x13) (fun t121 _ =>
 vG (indexAt 66 t119 t22) (fun t122 _ =>
 vF (storeS 129 t122 t121) (fun _ h80 =>
 R t46 h80) h79) #[]) h79) h79) #[]) #[]) h74 ⟨⟩ ⟨⟩) h73) h57)) h56) h54) h52) h50) h48) h46) h44) h42) h41) h40) [t57,(.int .i64 0),(.int .i64 0)] h39 ⟨⟩) h38) h37) h36) h35) h34) h33) h32) h31) h30) h29) h28) h27) h26)) h25) h23) h21) h19) h17) h15) h13) h11) h9) h7) h6) h5)) h4)) h3) h2) h1) h

theorem n124_calls {s0 name1 at2 b3:Value} {R:VP} {h:Heap} (H:n124 s0 name1 at2 b3 R h):CallsH Tryz.prog 124 #[s0,name1,at2,b3] h R ⟨⟩ :=
 callsH_of_eq Tryz.follow (.n none .l (.n none .l (.n none .l (.n none .l (.n none .l (.n none .l (.n none .l (.n none .l (.n none .l (.n none .l (.n none (.n none (.n (some [15,16,17]) .l .l) .l) (.n none .l (.n (some []) .l .l))))))))))))) Tryz.func124 kR kR kR H

def n125 (l0 x1:Value) (R:VP) (h:Heap):Prop :=
 vF (len_ #[102] 3 #[l0]) (fun t8 h1 =>
 LoopC 1 (fun (X:VP)=>fun at5 h2 =>
 vF (vk .gtr 3 9 .i64 0 at5) (fun t10 h3 =>
 vJ t10 true (vV l0) (fun t12 h5 =>
 vJ t10 true (vV at5) (fun t13 h7 =>
 vJ t10 true (vF (vk .sub 3 13 .i64 1 t13)) (fun t14 h9 =>
 vJ t10 true (vF (indexAt 102 t12 t14)) (fun t15 h11 =>
 vJ t10 true (vF (loadAt 2 t15)) (fun t16 h13 =>
 vJ t10 true (vV x1) (fun t17 h15 =>
 vJ t10 true (vF (vt .gtr 2 16 17 t16 t17)) (fun t18 h17 =>
 vF (pickS t10 t18 (.bool false)) (fun t19 h18 =>
 vD t19 (
 vF (vk .sub 3 20 .i64 1 at5) (fun t21 h19 =>
 X t21 h19) h18) (
 vF (sliceAt 102 l0 none (some at5) none) (fun t25 h20 =>
 vF (append_ #[102,102] 102 #[(.slice none 0 0),t25]) (fun t26 h21 =>
 vF (buildSlice 102 1 #[(0,x1)]) (fun t28 h22 =>
 vF (append_ #[102,102] 102 #[t26,t28]) (fun t29 h23 =>
 vF (sliceAt 102 l0 (some at5) none none) (fun t33 h24 =>
 vF (append_ #[102,102] 102 #[t29,t33]) (fun t34 h25 =>
 R t34 h25) h24) h23) h22) h21) h20) h18)) h17) h15) h13) h11) h9) h7) h5) h3) h2) [t8] h1 ⟨⟩) h

theorem n125_calls {l0 x1:Value} {R:VP} {h:Heap} (H:n125 l0 x1 R h):CallsH Tryz.prog 125 #[l0,x1] h R ⟨⟩ :=
 callsH_of_eq Tryz.follow (.n none .l (.n none .l (.n none (.n none (.n (some [6]) .l .l) .l) .l))) Tryz.func125 kR kR kR H

def n126 (s0 name1:Value) (R:VP) (h:Heap):Prop :=
 vC 55 #[s0,name1] (fun t15 h1 =>
 vF (extract t15 0) (fun t16 h2 =>
 vF (extract t15 1) (fun t17 h3 =>
 vF (vk .neq 3 18 .i64 0 t17) (fun t19 h4 =>
 vD t19 (
 R t17 h4) (
 vC 56 #[s0] (fun t23 h5 =>
 vF (extract t23 0) (fun t24 h6 =>
 vF (extract t23 1) (fun t25 h7 =>
 vF (nilS s0) (fun t27 h8 =>
 vF (fieldAt 68 t27 0) (fun t28 h9 =>
 vF (loadAt 66 t28) (fun t29 h10 =>
 vF (indexAt 66 t29 t16) (fun t31 h11 =>
 vF (loadAt 129 t31) (fun t32 h12 =>
 vF (alloc 129 true undef) (fun x9 h13 =>
 vF (storeS 129 x9 t32) (fun _ h14 =>
 vF (fieldAt 129 x9 2) (fun t33 h15 =>
 vF (loadAt 127 t33) (fun t34 h16 =>
 vF (len_ #[127] 3 #[t34]) (fun t35 h17 =>
 JoinN 1 (fun (k:VP) h18 =>
 vF (vk .neq 3 36 .i64 0 t24) (fun t37 h19 =>
 vD t37 (
 vF (min_ #[3,3] 3 #[t35,t25]) (fun t40 h20 =>
 k t40 h20) h19) (
 k t35 h19)) h18)
 (fun n10 h21 =>
 LoopC 1 (fun (X:VP)=>fun k11 h22 =>
 vF (vt .lss 3 41 42 k11 n10) (fun t43 h23 =>
 vD t43 (
 vG (fieldAt 129 x9 1) (fun t46 _ =>
 vG (loadAt 9 t46) (fun t47 _ =>
 vG (fieldAt 129 x9 2) (fun t48 _ =>
 vG (loadAt 127 t48) (fun t49 _ =>
 vG (indexAt 127 t49 k11) (fun t51 _ =>
 vG (fieldAt 132 t51 0) (fun t52 _ =>
 vG (loadAt 2 t52) (fun t53 _ =>
 vG (fieldAt 129 x9 2) (fun t54 _ =>
 vG (loadAt 127 t54) (fun t55 _ =>
 vG (indexAt 127 t55 k11) (fun t57 _ =>
 vG (fieldAt 132 t57 1) (fun t58 _ =>
 vG (loadAt 9 t58) (fun t59 _ =>
 vC 107 #[t47,t53,t59] (fun t60 h24 =>
 vG (fieldAt 129 x9 1) (fun t61 _ =>
 vF (storeS 9 t61 t60) (fun _ h25 =>
 vF (vk .add 3 44 .i64 1 k11) (fun t45 h26 =>
 X t45 h26) h25) h24) #[]) h23) h23) #[]) #[]) h23) #[]) h23) #[]) #[]) h23) #[]) h23) #[]) (
 vF (fieldAt 129 x9 2) (fun t62 h27 =>
 vF (loadAt 127 t62) (fun t63 h28 =>
 vF (sliceAt 127 t63 (some n10) none none) (fun t65 h29 =>
 vF (append_ #[127,127] 127 #[(.slice none 0 0),t65]) (fun t66 h30 =>
 vF (fieldAt 129 x9 2) (fun t67 h31 =>
 vF (storeS 127 t67 t66) (fun _ h32 =>
 vG (nilS s0) (fun t69 _ =>
 vG (fieldAt 68 t69 0) (fun t70 _ =>
 vG (loadAt 66 t70) (fun t71 _ =>
 vG (loadAt 129 x9) (fun t73 _ =>
 vG (indexAt 66 t71 t16) (fun t74 _ =>
 vF (storeS 129 t74 t73) (fun _ h33 =>
 R t24 h33) h32) #[]) h32) h32) #[]) #[]) h31) h30) h29) h28) h27) h23)) h22) [(.int .i64 0)] h21 ⟨⟩) h17 ⟨⟩ ⟨⟩) h16) h15) h14) h13) h12) h11) h10) h9) h8) h7) h6) h5) h4)) h3) h2) h1) h

theorem n126_calls {s0 name1:Value} {R:VP} {h:Heap} (H:n126 s0 name1 R h):CallsH Tryz.prog 126 #[s0,name1] h R ⟨⟩ :=
 callsH_of_eq Tryz.follow (.n none .l (.n none .l (.n none .l (.n none .l (.n none .l (.n none .l (.n (some [11]) .l (.n none (.n none .l (.n none (.n (some [12]) .l .l) .l)) .l)))))))) Tryz.func126 kR kR kR H

def n127 (s0 f1:Value) (R:VP) (h:Heap):Prop :=
 vF (len_ #[48] 3 #[s0]) (fun t7 h1 =>
 LoopC 1 (fun (X:VP)=>fun t8 h2 =>
 vF (vt .lss 3 8 7 t8 t7) (fun t9 h3 =>
 vD t9 (
 vF (indexAt 48 s0 t8) (fun t14 h4 =>
 vF (loadAt 118 t14) (fun t15 h5 =>
 InvokeH Tryz.prog f1 #[t15] h5 (fun t16 h6 =>
 vD t16 (
 R t8 h6) (
 vF (vk .add 3 8 .i64 1 t8) (fun t18 h7 =>
 X t18 h7) h6)) ⟨⟩) h4) h3) (
 R (.int .i64 (-1)) h3)) h2) [(.int .i64 0)] h1 ⟨⟩) h

theorem n127_calls {s0 f1:Value} {R:VP} {h:Heap} (H:n127 s0 f1 R h):CallsH Tryz.prog 127 #[s0,f1] h R ⟨⟩ :=
 callsH_of_eq Tryz.follow (.n none .l (.n none (.n none .l (.n none (.n (some [9]) .l .l) .l)) .l)) Tryz.func127 kR kR kR H

def n129 (h0 i01 n2:Value) (R:VP) (h:Heap):Prop :=
 JoinN 1 (fun (k:VP) h1 =>
 JoinN 1 (fun (k_1:VP) h2 =>
 LoopC 1 (fun (X:VP)=>fun i7 h3 =>
 vF (binS .mul 3 (.const (.int .i64 2)) (.tmp 12) (.int .i64 2) i7) (fun t13 h4 =>
 vF (vk .add 3 13 .i64 1 t13) (fun t14 h5 =>
 vF (vt .geq 3 15 16 t14 n2) (fun t17 h6 =>
 vJ t17 false (vV t14) (fun t19 h8 =>
 vJ t17 false (vF (vk .lss 3 19 .i64 0 t19)) (fun t20 h10 =>
 vF (pickS t17 (.bool true) t20) (fun t21 h11 =>
 vD t21 (
 k_1 i7 h11) (
 JoinN 1 (fun (k_4:VP) h12 =>
 vF (vk .add 3 23 .i64 1 t14) (fun t24 h13 =>
 vF (vt .lss 3 25 26 t24 n2) (fun t27 h14 =>
 vJ t27 true (vV h0) (fun t29 h16 =>
 vJ t27 true (vV t24) (fun t30 h18 =>
 vJ t27 true (vV t14) (fun t31 h20 =>
 Join1 (fun k_8 h21 => guardP t27 true (MethodH Tryz.prog t29 "Less" #[t30, t31] h21 k_8 ⟨⟩) (k_8 undef h21) ⟨⟩ ⟨⟩) (fun t32 h22 =>
 vF (pickS t27 t32 (.bool false)) (fun t33 h23 =>
 vD t33 (
 k_4 t24 h23) (
 k_4 t14 h23)) h22) h20 ⟨⟩ ⟨⟩) h18) h16) h14) h13) h12)
 (fun j9 h24 =>
 MethodH Tryz.prog h0 "Less" #[j9, i7] h24 (fun t38 h25 =>
 vF (Op.unary .not t38) (fun t39 h26 =>
 vD t39 (
 k_1 i7 h26) (
 MethodH Tryz.prog h0 "Swap" #[i7, j9] h26 (fun t43 h27 =>
 X j9 h27) ⟨⟩)) h25) ⟨⟩) h11 ⟨⟩ ⟨⟩)) h10) h8) h6) h5) h4) h3) [i01] h2 ⟨⟩)
 (fun i7_1 h28 =>
 k i7_1 h28) h1 ⟨⟩ ⟨⟩)
 (fun i7_2 h29 =>
 vF (vt .gtr 3 45 46 i7_2 i01) (fun t47 h30 =>
 R t47 h30) h29) h ⟨⟩ ⟨⟩

theorem n129_calls {h0 i01 n2:Value} {R:VP} {h:Heap} (H:n129 h0 i01 n2 R h):CallsH Tryz.prog 129 #[h0,i01,n2] h R ⟨⟩ :=
 callsH_of_eq Tryz.follow (.n none .l (.n none .l (.n (some [8]) (.n (some [8]) (.n (some [8]) (.n none (.n none .l (.n none .l (.n none .l (.n (some [10]) .l .l)))) .l) .l) .l) .l))) Tryz.func129 kR kR kR H

def n130 (data0 a1 b2:Value) (R:VP) (h:Heap):Prop :=
 vF (vk .add 3 8 .i64 1 a1) (fun t9 h1 =>
 LoopC 1 (fun (X:VP)=>fun i6 h2 =>
 vF (vt .lss 3 10 11 i6 b2) (fun t12 h3 =>
 vD t12 (
 LoopC 1 (fun (X_1:VP)=>fun j7 h4 =>
 vG (vt .gtr 3 16 17 j7 a1) (fun t18 _ =>
 vJ t18 true (vV data0) (fun t20 _ =>
 vJ t18 true (vV j7) (fun t21 _ =>
 vJ t18 true (vG (indexAt 102 t20 t21)) (fun t22 _ =>
 vJ t18 true (vG (loadAt 2 t22)) (fun t23 _ =>
 vJ t18 true (vV data0) (fun t24 _ =>
 vJ t18 true (vV j7) (fun t25 _ =>
 vJ t18 true (vG (vk .sub 3 25 .i64 1 t25)) (fun t26 _ =>
 vJ t18 true (vG (indexAt 102 t24 t26)) (fun t27 _ =>
 vJ t18 true (vG (loadAt 2 t27)) (fun t28 _ =>
 vJ t18 true (vC 136 #[t23,t28]) (fun t29 h15 =>
 vG (pickS t18 t29 (.bool false)) (fun t30 _ =>
 vD t30 (
 vG (vk .sub 3 36 .i64 1 j7) (fun t37 _ =>
 vG (vk .sub 3 39 .i64 1 j7) (fun t40 _ =>
 vG (indexAt 102 data0 t40) (fun t41 _ =>
 vG (loadAt 2 t41) (fun t42 _ =>
 vG (indexAt 102 data0 j7) (fun t45 _ =>
 vG (loadAt 2 t45) (fun t46 _ =>
 vG (indexAt 102 data0 j7) (fun t47 _ =>
 vF (storeS 2 t47 t42) (fun _ h16 =>
 vG (indexAt 102 data0 t37) (fun t48 _ =>
 vF (storeS 2 t48 t46) (fun _ h17 =>
 vF (vk .sub 3 31 .i64 1 j7) (fun t32 h18 =>
 X_1 t32 h18) h17) h16) #[]) h15) #[]) h15) #[]) h15) #[]) #[]) #[]) (
 vF (vk .add 3 13 .i64 1 i6) (fun t14 h19 =>
 X t14 h19) h15)) #[]) h4) h4) #[]) #[]) #[]) #[]) h4) #[]) #[]) #[]) #[]) [i6] h3 ⟨⟩) (
 R (.tuple #[]) h3)) h2) [t9] h1 ⟨⟩) h

theorem n130_calls {data0 a1 b2:Value} {R:VP} {h:Heap} (H:n130 data0 a1 b2 R h):CallsH Tryz.prog 130 #[data0,a1,b2] h R ⟨⟩ :=
 callsH_of_eq Tryz.follow (.n none .l (.n none (.n (some [7]) (.n none .l (.n none (.n none (.n none .l (.n none (.n (some [8]) .l .l) .l)) .l) .l)) .l) .l)) Tryz.func130 kR kR kR H

def n131 (data0 a1 b2:Value) (R:VP) (h:Heap):Prop :=
 vF (vt .sub 3 12 13 b2 a1) (fun t14 h1 =>
 vF (vk .sub 3 15 .i64 1 t14) (fun t16 h2 =>
 vF (vk .quo 3 16 .i64 2 t16) (fun t17 h3 =>
 LoopC 1 (fun (X:VP)=>fun i9 h4 =>
 vF (vk .geq 3 18 .i64 0 i9) (fun t19 h5 =>
 vD t19 (
 vC 143 #[data0,i9,t14,a1] (fun t26 h6 =>
 vF (vk .sub 3 20 .i64 1 i9) (fun t21 h7 =>
 X t21 h7) h6) h5) (
 vF (vk .sub 3 27 .i64 1 t14) (fun t28 h8 =>
 LoopC 1 (fun (X_1:VP)=>fun i10 h9 =>
 vF (vk .geq 3 29 .i64 0 i10) (fun t30 h10 =>
 vD t30 (
 vG (vt .add 3 36 37 a1 i10) (fun t38 _ =>
 vG (vt .add 3 40 41 a1 i10) (fun t42 _ =>
 vG (indexAt 102 data0 t42) (fun t43 _ =>
 vG (loadAt 2 t43) (fun t44 _ =>
 vG (indexAt 102 data0 a1) (fun t47 _ =>
 vG (loadAt 2 t47) (fun t48 _ =>
 vG (indexAt 102 data0 a1) (fun t49 _ =>
 vF (storeS 2 t49 t44) (fun _ h11 =>
 vG (indexAt 102 data0 t38) (fun t50 _ =>
 vF (storeS 2 t50 t48) (fun _ h12 =>
 vC 143 #[data0,(.int .i64 0),i10,a1] (fun t55 h13 =>
 vF (vk .sub 3 31 .i64 1 i10) (fun t32 h14 =>
 X_1 t32 h14) h13) h12) h11) #[]) h10) #[]) h10) #[]) h10) #[]) #[]) #[]) (
 R (.tuple #[]) h10)) h9) [t28] h8 ⟨⟩) h5)) h4) [t17] h3 ⟨⟩) h2) h1) h

theorem n131_calls {data0 a1 b2:Value} {R:VP} {h:Heap} (H:n131 data0 a1 b2 R h):CallsH Tryz.prog 131 #[data0,a1,b2] h R ⟨⟩ :=
 callsH_of_eq Tryz.follow (.n none .l (.n none .l (.n none .l (.n none (.n none .l (.n none (.n (some [10]) .l .l) .l)) (.n none .l (.n none (.n (some [11]) .l .l) .l)))))) Tryz.func131 kR kR kR H

def n132 (data0 a1 b2:Value) (R:VP) (h:Heap):Prop :=
 vF (vt .sub 3 11 12 b2 a1) (fun t13 h1 =>
 vF (vk .geq 3 14 .i64 8 t13) (fun t15 h2 =>
 vD t15 (
 vF (convert 3 223 t13) (fun t17 h3 =>
 vF (alloc 223 true undef) (fun random7 h4 =>
 vF (storeS 223 random7 t17) (fun _ h5 =>
 vC 144 #[t13] (fun t19 h6 =>
 vF (vk .quo 3 21 .i64 4 t13) (fun t22 h7 =>
 vF (vk .mul 3 22 .i64 2 t22) (fun t23 h8 =>
 vF (vt .add 3 20 23 a1 t23) (fun t24 h9 =>
 vF (vk .sub 3 24 .i64 1 t24) (fun t25 h10 =>
 LoopC 1 (fun (X:VP)=>fun idx9 h11 =>
 vF (vk .quo 3 28 .i64 4 t13) (fun t29 h12 =>
 vF (vk .mul 3 29 .i64 2 t29) (fun t30 h13 =>
 vF (vt .add 3 27 30 a1 t30) (fun t31 h14 =>
 vF (vk .add 3 31 .i64 1 t31) (fun t32 h15 =>
 vF (vt .leq 3 26 32 idx9 t32) (fun t33 h16 =>
 vD t33 (
 vC 145 #[random7] (fun t36 h17 =>
 vF (vk .sub 195 37 .u64 1 t19) (fun t38 h18 =>
 vF (vt .and 195 36 38 t36 t38) (fun t39 h19 =>
 vF (convert 195 3 t39) (fun t40 h20 =>
 JoinN 1 (fun (k:VP) h21 =>
 vF (vt .geq 3 41 42 t40 t13) (fun t43 h22 =>
 vD t43 (
 vF (vt .sub 3 44 45 t40 t13) (fun t46 h23 =>
 k t46 h23) h22) (
 k t40 h22)) h21)
 (fun other10 h24 =>
 vG (vt .add 3 50 51 a1 other10) (fun t52 _ =>
 vG (vt .add 3 54 55 a1 other10) (fun t56 _ =>
 vG (indexAt 102 data0 t56) (fun t57 _ =>
 vG (loadAt 2 t57) (fun t58 _ =>
 vG (indexAt 102 data0 idx9) (fun t61 _ =>
 vG (loadAt 2 t61) (fun t62 _ =>
 vG (indexAt 102 data0 idx9) (fun t63 _ =>
 vF (storeS 2 t63 t58) (fun _ h25 =>
 vG (indexAt 102 data0 t52) (fun t64 _ =>
 vF (storeS 2 t64 t62) (fun _ h26 =>
 vF (vk .add 3 34 .i64 1 idx9) (fun t35 h27 =>
 X t35 h27) h26) h25) #[]) h24) #[]) h24) #[]) h24) #[]) #[]) #[]) h20 ⟨⟩ ⟨⟩) h19) h18) h17) h16) (
 R (.tuple #[]) h16)) h15) h14) h13) h12) h11) [t25] h10 ⟨⟩) h9) h8) h7) h6) h5) h4) h3) h2) (
 R (.tuple #[]) h2)) h1) h

theorem n132_calls {data0 a1 b2:Value} {R:VP} {h:Heap} (H:n132 data0 a1 b2 R h):CallsH Tryz.prog 132 #[data0,a1,b2] h R ⟨⟩ :=
 callsH_of_eq Tryz.follow (.n none .l (.n none .l (.n none (.n none .l (.n none .l (.n none .l (.n none (.n (some [10]) (.n none .l (.n none (.n none (.n none .l (.n (some [11]) .l .l)) .l) .l)) .l) .l)))) .l))) Tryz.func132 kR kR kR H

def n133 (data0 a1 b2:Value) (R:VP) (h:Heap):Prop :=
 vF (vt .sub 3 13 14 b2 a1) (fun t15 h1 =>
 vF (alloc 3 true undef) (fun swaps9 h2 =>
 vF (vk .quo 3 17 .i64 4 t15) (fun t18 h3 =>
 vF (vk .mul 3 18 .i64 1 t18) (fun t19 h4 =>
 vF (vt .add 3 16 19 a1 t19) (fun t20 h5 =>
 vF (vk .quo 3 22 .i64 4 t15) (fun t23 h6 =>
 vF (vk .mul 3 23 .i64 2 t23) (fun t24 h7 =>
 vF (vt .add 3 21 24 a1 t24) (fun t25 h8 =>
 vF (vk .quo 3 27 .i64 4 t15) (fun t28 h9 =>
 vF (vk .mul 3 28 .i64 3 t28) (fun t29 h10 =>
 vF (vt .add 3 26 29 a1 t29) (fun t30 h11 =>
 JoinN 1 (fun (k:VP) h12 =>
 vF (vk .geq 3 31 .i64 8 t15) (fun t32 h13 =>
 vD t32 (
 JoinN 3 (fun (k_1:Value→Value→VP) h14 =>
 vF (vk .geq 3 33 .i64 50 t15) (fun t34 h15 =>
 vD t34 (
 vC 146 #[data0,t20,swaps9] (fun t37 h16 =>
 vC 146 #[data0,t25,swaps9] (fun t40 h17 =>
 vC 146 #[data0,t30,swaps9] (fun t43 h18 =>
 k_1 t37 t40 t43 h18) h17) h16) h15) (
 k_1 t20 t25 t30 h15)) h14)
 (fun i10 j11 k12 h19 =>
 vC 147 #[data0,i10,j11,k12,swaps9] (fun t48 h20 =>
 k t48 h20) h19) h13 ⟨⟩ ⟨⟩) (
 k t25 h13)) h12)
 (fun j11_1 h21 =>
 vF (loadAt 3 swaps9) (fun t49 h22 =>
 vF (vk .eql 3 49 .i64 0 t49) (fun t52 h23 =>
 vD t52 (
 R (.tuple #[j11_1,(.int .i64 1)]) h23) (
 vF (vk .eql 3 49 .i64 12 t49) (fun t55 h24 =>
 vD t55 (
 R (.tuple #[j11_1,(.int .i64 2)]) h24) (
 R (.tuple #[j11_1,(.int .i64 0)]) h24)) h23)) h22) h21) h11 ⟨⟩ ⟨⟩) h10) h9) h8) h7) h6) h5) h4) h3) h2) h1) h

theorem n133_calls {data0 a1 b2:Value} {R:VP} {h:Heap} (H:n133 data0 a1 b2 R h):CallsH Tryz.prog 133 #[data0,a1,b2] h R ⟨⟩ :=
 callsH_of_eq Tryz.follow (.n none .l (.n none .l (.n none .l (.n none .l (.n none .l (.n none .l (.n (some [12]) (.n none .l (.n none (.n (some [11,12,13]) .l .l) .l)) .l))))))) Tryz.func133 kR kR kR H

def n134 (data0 a1 b2:Value) (R:VP) (h:Heap):Prop :=
 vF (vk .sub 3 9 .i64 1 b2) (fun t10 h1 =>
 LoopC 2 (fun (X:Value→VP)=>fun i6 j7 h2 =>
 vF (vt .lss 3 11 12 i6 j7) (fun t13 h3 =>
 vD t13 (
 vG (indexAt 102 data0 j7) (fun t20 _ =>
 vG (loadAt 2 t20) (fun t21 _ =>
 vG (indexAt 102 data0 i6) (fun t24 _ =>
 vG (loadAt 2 t24) (fun t25 _ =>
 vG (indexAt 102 data0 i6) (fun t26 _ =>
 vF (storeS 2 t26 t21) (fun _ h4 =>
 vG (indexAt 102 data0 j7) (fun t27 _ =>
 vF (storeS 2 t27 t25) (fun _ h5 =>
 vF (vk .add 3 28 .i64 1 i6) (fun t29 h6 =>
 vF (vk .sub 3 30 .i64 1 j7) (fun t31 h7 =>
 X t29 t31 h7) h6) h5) h4) #[]) h3) #[]) h3) #[]) h3) #[]) (
 R (.tuple #[]) h3)) h2) [a1,t10] h1 ⟨⟩) h

theorem n134_calls {data0 a1 b2:Value} {R:VP} {h:Heap} (H:n134 data0 a1 b2 R h):CallsH Tryz.prog 134 #[data0,a1,b2] h R ⟨⟩ :=
 callsH_of_eq Tryz.follow (.n none .l (.n none .l (.n none (.n (some [7,8]) .l .l) .l))) Tryz.func134 kR kR kR H

def n135 (data0 a1 b2:Value) (R:VP) (h:Heap):Prop :=
 vF (vk .add 3 11 .i64 1 a1) (fun t12 h1 =>
 LoopC 2 (fun (X:Value→VP)=>fun i7 j8 h2 =>
 vF (vk .lss 3 13 .i64 5 j8) (fun t14 h3 =>
 vD t14 (
 JoinN 1 (fun (k:VP) h4 =>
 JoinN 1 (fun (k_1:VP) h5 =>
 LoopC 1 (fun (X_1:VP)=>fun i7_1 h6 =>
 vG (vt .lss 3 17 18 i7_1 b2) (fun t19 _ =>
 vJ t19 true (vV data0) (fun t21 _ =>
 vJ t19 true (vV i7_1) (fun t22 _ =>
 vJ t19 true (vG (indexAt 102 t21 t22)) (fun t23 _ =>
 vJ t19 true (vG (loadAt 2 t23)) (fun t24 _ =>
 vJ t19 true (vV data0) (fun t25 _ =>
 vJ t19 true (vV i7_1) (fun t26 _ =>
 vJ t19 true (vG (vk .sub 3 26 .i64 1 t26)) (fun t27 _ =>
 vJ t19 true (vG (indexAt 102 t25 t27)) (fun t28 _ =>
 vJ t19 true (vG (loadAt 2 t28)) (fun t29 _ =>
 vJ t19 true (vC 136 #[t24,t29]) (fun t30 h17 =>
 vJ t19 true (vG (Op.unary .not t30)) (fun t31 _ =>
 vG (pickS t19 t31 (.bool false)) (fun t32 _ =>
 vD t32 (
 vF (vk .add 3 33 .i64 1 i7_1) (fun t34 h19 =>
 X_1 t34 h19) h17) (
 vF (vt .eql 3 35 36 i7_1 b2) (fun t37 h20 =>
 vD t37 (
 R (.bool true) h20) (
 vF (vt .sub 3 38 39 b2 a1) (fun t40 h21 =>
 vF (vk .lss 3 40 .i64 50 t40) (fun t41 h22 =>
 vD t41 (
 R (.bool false) h22) (
 vG (vk .sub 3 45 .i64 1 i7_1) (fun t46 _ =>
 vG (vk .sub 3 48 .i64 1 i7_1) (fun t49 _ =>
 vG (indexAt 102 data0 t49) (fun t50 _ =>
 vG (loadAt 2 t50) (fun t51 _ =>
 vG (indexAt 102 data0 i7_1) (fun t54 _ =>
 vG (loadAt 2 t54) (fun t55 _ =>
 vG (indexAt 102 data0 i7_1) (fun t56 _ =>
 vF (storeS 2 t56 t51) (fun _ h23 =>
 vG (indexAt 102 data0 t46) (fun t57 _ =>
 vF (storeS 2 t57 t55) (fun _ h24 =>
 JoinN 0 (fun (k_13:Heap→Prop) h25 =>
 vF (vt .sub 3 58 59 i7_1 a1) (fun t60 h26 =>
 vF (vk .geq 3 60 .i64 2 t60) (fun t61 h27 =>
 vD t61 (
 vF (vk .sub 3 62 .i64 1 i7_1) (fun t63 h28 =>
 JoinN 0 (fun (k_14:Heap→Prop) h29 =>
 LoopC 1 (fun (X_2:VP)=>fun j9 h30 =>
 vF (vk .geq 3 64 .i64 1 j9) (fun t65 h31 =>
 vD t65 (
 vG (indexAt 102 data0 j9) (fun t70 _ =>
 vG (loadAt 2 t70) (fun t71 _ =>
 vG (vk .sub 3 73 .i64 1 j9) (fun t74 _ =>
 vG (indexAt 102 data0 t74) (fun t75 _ =>
 vG (loadAt 2 t75) (fun t76 _ =>
 vC 136 #[t71,t76] (fun t77 h32 =>
 vG (Op.unary .not t77) (fun t78 _ =>
 vD t78 (
 k_14 h32) (
 vG (vk .sub 3 82 .i64 1 j9) (fun t83 _ =>
 vG (vk .sub 3 85 .i64 1 j9) (fun t86 _ =>
 vG (indexAt 102 data0 t86) (fun t87 _ =>
 vG (loadAt 2 t87) (fun t88 _ =>
 vG (indexAt 102 data0 j9) (fun t91 _ =>
 vG (loadAt 2 t91) (fun t92 _ =>
 vG (indexAt 102 data0 j9) (fun t93 _ =>
 vF (storeS 2 t93 t88) (fun _ h33 =>
 vG (indexAt 102 data0 t83) (fun t94 _ =>
 vF (storeS 2 t94 t92) (fun _ h34 =>
 vF (vk .sub 3 66 .i64 1 j9) (fun t67 h35 =>
 X_2 t67 h35) h34) h33) #[]) h32) #[]) h32) #[]) h32) #[]) #[]) #[])) #[]) h31) h31) #[]) #[]) h31) #[]) (
 k_14 h31)) h30) [t63] h29 ⟨⟩)
 (fun h36 =>
 k_13 h36) h28 ⟨⟩ ⟨⟩) h27) (
 k_13 h27)) h26) h25)
 (fun h37 =>
 vF (vt .sub 3 95 96 b2 i7_1) (fun t97 h38 =>
 vF (vk .geq 3 97 .i64 2 t97) (fun t98 h39 =>
 vD t98 (
 vF (vk .add 3 99 .i64 1 i7_1) (fun t100 h40 =>
 JoinN 0 (fun (k_15:Heap→Prop) h41 =>
 LoopC 1 (fun (X_3:VP)=>fun j10 h42 =>
 vF (vt .lss 3 101 102 j10 b2) (fun t103 h43 =>
 vD t103 (
 vG (indexAt 102 data0 j10) (fun t108 _ =>
 vG (loadAt 2 t108) (fun t109 _ =>
 vG (vk .sub 3 111 .i64 1 j10) (fun t112 _ =>
 vG (indexAt 102 data0 t112) (fun t113 _ =>
 vG (loadAt 2 t113) (fun t114 _ =>
 vC 136 #[t109,t114] (fun t115 h44 =>
 vG (Op.unary .not t115) (fun t116 _ =>
 vD t116 (
 k_15 h44) (
 vG (vk .sub 3 120 .i64 1 j10) (fun t121 _ =>
 vG (vk .sub 3 123 .i64 1 j10) (fun t124 _ =>
 vG (indexAt 102 data0 t124) (fun t125 _ =>
 vG (loadAt 2 t125) (fun t126 _ =>
 vG (indexAt 102 data0 j10) (fun t129 _ =>
 vG (loadAt 2 t129) (fun t130 _ =>
 vG (indexAt 102 data0 j10) (fun t131 _ =>
 vF (storeS 2 t131 t126) (fun _ h45 =>
 vG (indexAt 102 data0 t121) (fun t132 _ =>
 vF (storeS 2 t132 t130) (fun _ h46 =>
 vF (vk .add 3 104 .i64 1 j10) (fun t105 h47 =>
 X_3 t105 h47) h46) h45) #[]) h44) #[]) h44) #[]) h44) #[]) #[]) #[])) #[]) h43) h43) #[]) #[]) h43) #[]) (
 k_15 h43)) h42) [t100] h41 ⟨⟩)
 (fun h48 =>
 k_1 i7_1 h48) h40 ⟨⟩ ⟨⟩) h39) (
 k_1 i7_1 h39)) h38) h37) h24 ⟨⟩ ⟨⟩) h23) #[]) h22) #[]) h22) #[]) h22) #[]) #[]) #[])) h21) h20)) h17)) #[]) #[]) h6) h6) #[]) #[]) #[]) #[]) h6) #[]) #[]) #[]) #[]) [i7] h5 ⟨⟩)
 (fun i7_2 h49 =>
 k i7_2 h49) h4 ⟨⟩ ⟨⟩)
 (fun i7_3 h50 =>
 vF (vk .add 3 15 .i64 1 j8) (fun t16 h51 =>
 X i7_3 t16 h51) h50) h3 ⟨⟩ ⟨⟩) (
 R (.bool false) h3)) h2) [t12,(.int .i64 0)] h1 ⟨⟩) h

theorem n135_calls {data0 a1 b2:Value} {R:VP} {h:Heap} (H:n135 data0 a1 b2 R h):CallsH Tryz.prog 135 #[data0,a1,b2] h R ⟨⟩ :=
 callsH_of_eq Tryz.follow (.n none .l (.n none .l (.n none (.n none .l (.n none (.n (some [8,9]) (.n none .l (.n (some [8]) (.n (some [8]) (.n none (.n none (.n (some [8]) .l .l) .l) (.n none .l (.n none .l (.n none .l (.n (some []) (.n none .l (.n none (.n none .l (.n (some []) (.n (some [10]) .l .l) .l)) .l)) (.n none .l (.n none (.n none .l (.n (some []) (.n (some [11]) .l .l) .l)) .l))))))) .l) .l)) .l) .l)) .l))) Tryz.func135 kR kR kR H

def n136 (x0 y1:Value) (R:VP) (h:Heap):Prop :=
 vC 148 #[x0] (fun t6 h1 =>
 vJ t6 true (vV y1) (fun t8 h3 =>
 vJ t6 true (vC 148 #[t8]) (fun t9 h5 =>
 vJ t6 true (vF (Op.unary .not t9)) (fun t10 h7 =>
 vF (pickS t6 t10 (.bool false)) (fun t11 h8 =>
 vJ t11 false (vV x0) (fun t13 h10 =>
 vJ t11 false (vV y1) (fun t14 h12 =>
 vJ t11 false (vF (vt .lss 2 13 14 t13 t14)) (fun t15 h14 =>
 vF (pickS t11 (.bool true) t15) (fun t16 h15 =>
 R t16 h15) h14) h12) h10) h8) h7) h5) h3) h1) h

theorem n136_calls {x0 y1:Value} {R:VP} {h:Heap} (H:n136 x0 y1 R h):CallsH Tryz.prog 136 #[x0,y1] h R ⟨⟩ :=
 callsH_of_eq Tryz.follow .l Tryz.func136 kR kR kR H

def n137 (data0 a1 b2 pivot3:Value) (R:VP) (h:Heap):Prop :=
 vG (indexAt 102 data0 pivot3) (fun t17 _ =>
 vG (loadAt 2 t17) (fun t18 _ =>
 vG (indexAt 102 data0 a1) (fun t21 _ =>
 vG (loadAt 2 t21) (fun t22 _ =>
 vG (indexAt 102 data0 a1) (fun t23 _ =>
 vF (storeS 2 t23 t18) (fun _ h1 =>
 vG (indexAt 102 data0 pivot3) (fun t24 _ =>
 vF (storeS 2 t24 t22) (fun _ h2 =>
 vF (vk .add 3 25 .i64 1 a1) (fun t26 h3 =>
 vF (vk .sub 3 27 .i64 1 b2) (fun t28 h4 =>
 LoopC 2 (fun (X:Value→VP)=>fun i9 j10 h5 =>
 LoopC 1 (fun (X_1:VP)=>fun i9_1 h6 =>
 vG (vt .leq 3 29 30 i9_1 j10) (fun t31 _ =>
 vJ t31 true (vV data0) (fun t33 _ =>
 vJ t31 true (vV a1) (fun t34 _ =>
 vJ t31 true (vG (indexAt 102 t33 t34)) (fun t35 _ =>
 vJ t31 true (vG (loadAt 2 t35)) (fun t36 _ =>
 vJ t31 true (vV data0) (fun t37 _ =>
 vJ t31 true (vV i9_1) (fun t38 _ =>
 vJ t31 true (vG (indexAt 102 t37 t38)) (fun t39 _ =>
 vJ t31 true (vG (loadAt 2 t39)) (fun t40 _ =>
 vJ t31 true (vC 136 #[t36,t40]) (fun t41 h16 =>
 vJ t31 true (vG (Op.unary .not t41)) (fun t42 _ =>
 vG (pickS t31 t42 (.bool false)) (fun t43 _ =>
 vD t43 (
 vF (vk .add 3 44 .i64 1 i9_1) (fun t45 h18 =>
 X_1 t45 h18) h16) (
 LoopC 1 (fun (X_2:VP)=>fun j10_1 h19 =>
 vG (vt .leq 3 46 47 i9_1 j10_1) (fun t48 _ =>
 vJ t48 true (vV data0) (fun t50 _ =>
 vJ t48 true (vV a1) (fun t51 _ =>
 vJ t48 true (vG (indexAt 102 t50 t51)) (fun t52 _ =>
 vJ t48 true (vG (loadAt 2 t52)) (fun t53 _ =>
 vJ t48 true (vV data0) (fun t54 _ =>
 vJ t48 true (vV j10_1) (fun t55 _ =>
 vJ t48 true (vG (indexAt 102 t54 t55)) (fun t56 _ =>
 vJ t48 true (vG (loadAt 2 t56)) (fun t57 _ =>
 vJ t48 true (vC 136 #[t53,t57]) (fun t58 h29 =>
 vG (pickS t48 t58 (.bool false)) (fun t59 _ =>
 vD t59 (
 vF (vk .sub 3 60 .i64 1 j10_1) (fun t61 h30 =>
 X_2 t61 h30) h29) (
 vF (vt .gtr 3 62 63 i9_1 j10_1) (fun t64 h31 =>
 vD t64 (
 R i9_1 h31) (
 vG (indexAt 102 data0 j10_1) (fun t71 _ =>
 vG (loadAt 2 t71) (fun t72 _ =>
 vG (indexAt 102 data0 i9_1) (fun t75 _ =>
 vG (loadAt 2 t75) (fun t76 _ =>
 vG (indexAt 102 data0 i9_1) (fun t77 _ =>
 vF (storeS 2 t77 t72) (fun _ h32 =>
 vG (indexAt 102 data0 j10_1) (fun t78 _ =>
 vF (storeS 2 t78 t76) (fun _ h33 =>
 vF (vk .add 3 79 .i64 1 i9_1) (fun t80 h34 =>
 vF (vk .sub 3 81 .i64 1 j10_1) (fun t82 h35 =>
 X t80 t82 h35) h34) h33) h32) #[]) h31) #[]) h31) #[]) h31) #[])) h29)) #[]) h19) h19) #[]) #[]) #[]) h19) #[]) #[]) #[]) #[]) [j10] h16 ⟨⟩)) #[]) #[]) h6) h6) #[]) #[]) #[]) h6) #[]) #[]) #[]) #[]) [i9] h5 ⟨⟩) [t26,t28] h4 ⟨⟩) h3) h2) h1) #[]) h) #[]) h) #[]) h) #[]

theorem n137_calls {data0 a1 b2 pivot3:Value} {R:VP} {h:Heap} (H:n137 data0 a1 b2 pivot3 R h):CallsH Tryz.prog 137 #[data0,a1,b2,pivot3] h R ⟨⟩ :=
 callsH_of_eq Tryz.follow (.n none .l (.n none .l (.n none .l (.n none (.n none (.n (some [10,11]) (.n none (.n none (.n none (.n (some [10]) .l .l) .l) (.n none (.n none (.n (some [11]) .l .l) .l) .l)) .l) .l) .l) .l)))) Tryz.func137 kR kR kR H

def n138 (data0 a1 b2 pivot3:Value) (R:VP) (h:Heap):Prop :=
 vG (indexAt 102 data0 pivot3) (fun t18 _ =>
 vG (loadAt 2 t18) (fun t19 _ =>
 vG (indexAt 102 data0 a1) (fun t22 _ =>
 vG (loadAt 2 t22) (fun t23 _ =>
 vG (indexAt 102 data0 a1) (fun t24 _ =>
 vF (storeS 2 t24 t19) (fun _ h1 =>
 vG (indexAt 102 data0 pivot3) (fun t25 _ =>
 vF (storeS 2 t25 t23) (fun _ h2 =>
 vF (vk .add 3 26 .i64 1 a1) (fun t27 h3 =>
 vF (vk .sub 3 28 .i64 1 b2) (fun t29 h4 =>
 LoopC 1 (fun (X:VP)=>fun i10 h5 =>
 vG (vt .leq 3 30 31 i10 t29) (fun t32 _ =>
 vJ t32 true (vV data0) (fun t34 _ =>
 vJ t32 true (vV i10) (fun t35 _ =>
 vJ t32 true (vG (indexAt 102 t34 t35)) (fun t36 _ =>
 vJ t32 true (vG (loadAt 2 t36)) (fun t37 _ =>
 vJ t32 true (vV data0) (fun t38 _ =>
 vJ t32 true (vV a1) (fun t39 _ =>
 vJ t32 true (vG (indexAt 102 t38 t39)) (fun t40 _ =>
 vJ t32 true (vG (loadAt 2 t40)) (fun t41 _ =>
 vJ t32 true (vC 136 #[t37,t41]) (fun t42 h15 =>
 vG (pickS t32 t42 (.bool false)) (fun t43 _ =>
 vD t43 (
 vF (vk .add 3 44 .i64 1 i10) (fun t45 h16 =>
 X t45 h16) h15) (
 LoopC 1 (fun (X_1:VP)=>fun j11 h17 =>
 vG (vt .leq 3 46 47 i10 j11) (fun t48 _ =>
 vJ t48 true (vV data0) (fun t50 _ =>
 vJ t48 true (vV j11) (fun t51 _ =>
 vJ t48 true (vG (indexAt 102 t50 t51)) (fun t52 _ =>
 vJ t48 true (vG (loadAt 2 t52)) (fun t53 _ =>
 vJ t48 true (vV data0) (fun t54 _ =>
 vJ t48 true (vV a1) (fun t55 _ =>
 vJ t48 true (vG (indexAt 102 t54 t55)) (fun t56 _ =>
 vJ t48 true (vG (loadAt 2 t56)) (fun t57 _ =>
 vJ t48 true (vC 136 #[t53,t57]) (fun t58 h27 =>
 vJ t48 true (vG (Op.unary .not t58)) (fun t59 _ =>
 vG (pickS t48 t59 (.bool false)) (fun t60 _ =>
 vD t60 (
 vF (vk .sub 3 61 .i64 1 j11) (fun t62 h29 =>
 X_1 t62 h29) h27) (
 vF (vt .gtr 3 63 64 i10 j11) (fun t65 h30 =>
 vD t65 (
 vG (indexAt 102 data0 a1) (fun t72 _ =>
 vG (loadAt 2 t72) (fun t73 _ =>
 vG (indexAt 102 data0 j11) (fun t76 _ =>
 vG (loadAt 2 t76) (fun t77 _ =>
 vG (indexAt 102 data0 j11) (fun t78 _ =>
 vF (storeS 2 t78 t73) (fun _ h31 =>
 vG (indexAt 102 data0 a1) (fun t79 _ =>
 vF (storeS 2 t79 t77) (fun _ h32 =>
 R (.tuple #[j11,(.bool true)]) h32) h31) #[]) h30) #[]) h30) #[]) h30) #[]) (
 vG (indexAt 102 data0 j11) (fun t87 _ =>
 vG (loadAt 2 t87) (fun t88 _ =>
 vG (indexAt 102 data0 i10) (fun t91 _ =>
 vG (loadAt 2 t91) (fun t92 _ =>
 vG (indexAt 102 data0 i10) (fun t93 _ =>
 vF (storeS 2 t93 t88) (fun _ h33 =>
 vG (indexAt 102 data0 j11) (fun t94 _ =>
 vF (storeS 2 t94 t92) (fun _ h34 =>
 vF (vk .add 3 95 .i64 1 i10) (fun t96 h35 =>
 vF (vk .sub 3 97 .i64 1 j11) (fun t98 h36 =>
 LoopC 2 (fun (X_2:Value→VP)=>fun i10_1 j11_1 h37 =>
 LoopC 1 (fun (X_3:VP)=>fun i10_2 h38 =>
 vG (vt .leq 3 99 100 i10_2 j11_1) (fun t101 _ =>
 vJ t101 true (vV data0) (fun t103 _ =>
 vJ t101 true (vV i10_2) (fun t104 _ =>
 vJ t101 true (vG (indexAt 102 t103 t104)) (fun t105 _ =>
 vJ t101 true (vG (loadAt 2 t105)) (fun t106 _ =>
 vJ t101 true (vV data0) (fun t107 _ =>
 vJ t101 true (vV a1) (fun t108 _ =>
 vJ t101 true (vG (indexAt 102 t107 t108)) (fun t109 _ =>
 vJ t101 true (vG (loadAt 2 t109)) (fun t110 _ =>
 vJ t101 true (vC 136 #[t106,t110]) (fun t111 h48 =>
 vG (pickS t101 t111 (.bool false)) (fun t112 _ =>
 vD t112 (
 vF (vk .add 3 113 .i64 1 i10_2) (fun t114 h49 =>
 X_3 t114 h49) h48) (
 LoopC 1 (fun (X_4:VP)=>fun j11_2 h50 =>
 vG (vt .leq 3 115 116 i10_2 j11_2) (fun t117 _ =>
 vJ t117 true (vV data0) (fun t119 _ =>
 vJ t117 true (vV j11_2) (fun t120 _ =>
 vJ t117 true (vG (indexAt 102 t119 t120)) (fun t121 _ =>
 vJ t117 true (vG (loadAt 2 t121)) (fun t122 _ =>
 vJ t117 true (vV data0) (fun t123 _ =>
 vJ t117 true (vV a1) (fun t124 _ =>
 vJ t117 true (vG (indexAt 102 t123 t124)) (fun t125 _ =>
 vJ t117 true (vG (loadAt 2 t125)) (fun t126 _ =>
 vJ t117 true (vC 136 #[t122,t126]) (fun t127 h60 =>
 vJ t117 true (vG (Op.unary .not t127)) (fun t128 _ =>
 vG (pickS t117 t128 (.bool false)) (fun t129 _ =>
 vD t129 (
 vF (vk .sub 3 130 .i64 1 j11_2) (fun t131 h62 =>
 X_4 t131 h62) h60) (
 vF (vt .gtr 3 132 133 i10_2 j11_2) (fun t134 h63 =>
 vD t134 (
 vG (indexAt 102 data0 a1) (fun t159 _ =>
 vG (loadAt 2 t159) (fun t160 _ =>
 vG (indexAt 102 data0 j11_2) (fun t163 _ =>
 vG (loadAt 2 t163) (fun t164 _ =>
 vG (indexAt 102 data0 j11_2) (fun t165 _ =>
 vF (storeS 2 t165 t160) (fun _ h64 =>
 vG (indexAt 102 data0 a1) (fun t166 _ =>
 vF (storeS 2 t166 t164) (fun _ h65 =>
 R (.tuple #[j11_2,(.bool false)]) h65) h64) #[]) h63) #[]) h63) #[]) h63) #[]) (
 vG (indexAt 102 data0 j11_2) (fun t141 _ =>
 vG (loadAt 2 t141) (fun t142 _ =>
 vG (indexAt 102 data0 i10_2) (fun t145 _ =>
 vG (loadAt 2 t145) (fun t146 _ =>
 vG (indexAt 102 data0 i10_2) (fun t147 _ =>
 vF (storeS 2 t147 t142) (fun _ h66 =>
 vG (indexAt 102 data0 j11_2) (fun t148 _ =>
 vF (storeS 2 t148 t146) (fun _ h67 =>
 vF (vk .add 3 149 .i64 1 i10_2) (fun t150 h68 =>
 vF (vk .sub 3 151 .i64 1 j11_2) (fun t152 h69 =>
 X_2 t150 t152 h69) h68) h67) h66) #[]) h63) #[]) h63) #[]) h63) #[])) h60)) #[]) #[]) h50) h50) #[]) #[]) #[]) h50) #[]) #[]) #[]) #[]) [j11_1] h48 ⟨⟩)) #[]) h38) h38) #[]) #[]) #[]) h38) #[]) #[]) #[]) #[]) [i10_1] h37 ⟨⟩) [t96,t98] h36 ⟨⟩) h35) h34) h33) #[]) h30) #[]) h30) #[]) h30) #[])) h27)) #[]) #[]) h17) h17) #[]) #[]) #[]) h17) #[]) #[]) #[]) #[]) [t29] h15 ⟨⟩)) #[]) h5) h5) #[]) #[]) #[]) h5) #[]) #[]) #[]) #[]) [t27] h4 ⟨⟩) h3) h2) h1) #[]) h) #[]) h) #[]) h) #[]

theorem n138_calls {data0 a1 b2 pivot3:Value} {R:VP} {h:Heap} (H:n138 data0 a1 b2 pivot3 R h):CallsH Tryz.prog 138 #[data0,a1,b2,pivot3] h R ⟨⟩ :=
 callsH_of_eq Tryz.follow (.n none .l (.n none .l (.n none .l (.n none (.n none (.n (some [11]) .l .l) .l) (.n none (.n none (.n (some [12]) .l .l) .l) (.n none .l (.n none .l (.n none .l (.n none .l (.n none (.n none (.n (some [11,12]) (.n none (.n none (.n none (.n (some [11]) .l .l) .l) (.n none (.n none (.n (some [12]) .l .l) .l) .l)) .l) .l) .l) .l)))))))))) Tryz.func138 kR kR kR H

def n139 (x0:Value) (R:VP) (h:Heap):Prop :=
 JoinN 2 (fun (k:Value→VP) h1 =>
 vF (vk .geq 217 3 .u32 65536 x0) (fun t4 h2 =>
 vD t4 (
 vF (vk .shr 217 5 .u64 16 x0) (fun t6 h3 =>
 k t6 (.int .i64 16) h3) h2) (
 k x0 (.int .i64 0) h2)) h1)
 (fun x0_1 n2 h4 =>
 JoinN 2 (fun (k_1:Value→VP) h5 =>
 vF (vk .geq 217 7 .u32 256 x0_1) (fun t8 h6 =>
 vD t8 (
 vF (vk .shr 217 9 .u64 8 x0_1) (fun t10 h7 =>
 vF (vk .add 3 11 .i64 8 n2) (fun t12 h8 =>
 k_1 t10 t12 h8) h7) h6) (
 k_1 x0_1 n2 h6)) h5)
 (fun x0_2 n2_1 h9 =>
 vF (convert 217 5 x0_2) (fun t15 h10 =>
 vF (index 9 (str [0,1,2,2,3,3,3,3,4,4,4,4,4,4,4,4,5,5,5,5,5,5,5,5,5,5,5,5,5,5,5,5,6,6,6,6,6,6,6,6,6,6,6,6,6,6,6,6,6,6,6,6,6,6,6,6,6,6,6,6,6,6,6,6,7,7,7,7,7,7,7,7,7,7,7,7,7,7,7,7,7,7,7,7,7,7,7,7,7,7,7,7,7,7,7,7,7,7,7,7,7,7,7,7,7,7,7,7,7,7,7,7,7,7,7,7,7,7,7,7,7,7,7,7,7,7,7,7,8,8,8,8,8,8,8,8,8,8,8,8,8,8,8,8,8,8,8,8,8,8,8,8,8,8,8,8,8,8,8,8,8,8,8,8,8,8,8,8,8,8,8,8,8,8,8,8,8,8,8,8,8,8,8,8,8,8,8,8,8,8,8,8,8,8,8,8,8,8,8,8,8,8,8,8,8,8,8,8,8,8,8,8,8,8,8,8,8,8,8,8,8,8,8,8,8,8,8,8,8,8,8,8,8,8,8,8,8,8,8,8,8,8,8,8,8,8,8,8,8,8,8,8,8,8,8,8]) t15) (fun t16 h11 =>
 vF (convert 5 3 t16) (fun t17 h12 =>
 vF (vt .add 3 13 17 n2_1 t17) (fun t18 h13 =>
 R t18 h13) h12) h11) h10) h9) h4 ⟨⟩ ⟨⟩) h ⟨⟩ ⟨⟩

theorem n139_calls {x0:Value} {R:VP} {h:Heap} (H:n139 x0 R h):CallsH Tryz.prog 139 #[x0] h R ⟨⟩ :=
 callsH_of_eq Tryz.follow (.n none .l (.n (some [1,3]) .l (.n (some [1,3]) .l .l))) Tryz.func139 kR kR kR H

def n140 (x0:Value) (R:VP) (h:Heap):Prop :=
 JoinN 2 (fun (k:Value→VP) h1 =>
 vF (vk .geq 219 3 .u64 4294967296 x0) (fun t4 h2 =>
 vD t4 (
 vF (vk .shr 219 5 .u64 32 x0) (fun t6 h3 =>
 k t6 (.int .i64 32) h3) h2) (
 k x0 (.int .i64 0) h2)) h1)
 (fun x0_1 n2 h4 =>
 JoinN 2 (fun (k_1:Value→VP) h5 =>
 vF (vk .geq 219 7 .u64 65536 x0_1) (fun t8 h6 =>
 vD t8 (
 vF (vk .shr 219 9 .u64 16 x0_1) (fun t10 h7 =>
 vF (vk .add 3 11 .i64 16 n2) (fun t12 h8 =>
 k_1 t10 t12 h8) h7) h6) (
 k_1 x0_1 n2 h6)) h5)
 (fun x0_2 n2_1 h9 =>
 JoinN 2 (fun (k_2:Value→VP) h10 =>
 vF (vk .geq 219 13 .u64 256 x0_2) (fun t14 h11 =>
 vD t14 (
 vF (vk .shr 219 15 .u64 8 x0_2) (fun t16 h12 =>
 vF (vk .add 3 17 .i64 8 n2_1) (fun t18 h13 =>
 k_2 t16 t18 h13) h12) h11) (
 k_2 x0_2 n2_1 h11)) h10)
 (fun x0_3 n2_2 h14 =>
 vF (convert 219 5 x0_3) (fun t21 h15 =>
 vF (index 9 (str [0,1,2,2,3,3,3,3,4,4,4,4,4,4,4,4,5,5,5,5,5,5,5,5,5,5,5,5,5,5,5,5,6,6,6,6,6,6,6,6,6,6,6,6,6,6,6,6,6,6,6,6,6,6,6,6,6,6,6,6,6,6,6,6,7,7,7,7,7,7,7,7,7,7,7,7,7,7,7,7,7,7,7,7,7,7,7,7,7,7,7,7,7,7,7,7,7,7,7,7,7,7,7,7,7,7,7,7,7,7,7,7,7,7,7,7,7,7,7,7,7,7,7,7,7,7,7,7,8,8,8,8,8,8,8,8,8,8,8,8,8,8,8,8,8,8,8,8,8,8,8,8,8,8,8,8,8,8,8,8,8,8,8,8,8,8,8,8,8,8,8,8,8,8,8,8,8,8,8,8,8,8,8,8,8,8,8,8,8,8,8,8,8,8,8,8,8,8,8,8,8,8,8,8,8,8,8,8,8,8,8,8,8,8,8,8,8,8,8,8,8,8,8,8,8,8,8,8,8,8,8,8,8,8,8,8,8,8,8,8,8,8,8,8,8,8,8,8,8,8,8,8,8,8,8,8]) t21) (fun t22 h16 =>
 vF (convert 5 3 t22) (fun t23 h17 =>
 vF (vt .add 3 19 23 n2_2 t23) (fun t24 h18 =>
 R t24 h18) h17) h16) h15) h14) h9 ⟨⟩ ⟨⟩) h4 ⟨⟩ ⟨⟩) h ⟨⟩ ⟨⟩

theorem n140_calls {x0:Value} {R:VP} {h:Heap} (H:n140 x0 R h):CallsH Tryz.prog 140 #[x0] h R ⟨⟩ :=
 callsH_of_eq Tryz.follow (.n none .l (.n (some [1,3]) .l (.n (some [1,3]) .l (.n (some [1,3]) .l .l)))) Tryz.func140 kR kR kR H

def n143 (data0 lo1 hi2 first3:Value) (R:VP) (h:Heap):Prop :=
 LoopC 1 (fun (X:VP)=>fun root8 h1 =>
 vF (binS .mul 3 (.const (.int .i64 2)) (.tmp 11) (.int .i64 2) root8) (fun t12 h2 =>
 vF (vk .add 3 12 .i64 1 t12) (fun t13 h3 =>
 vF (vt .geq 3 14 15 t13 hi2) (fun t16 h4 =>
 vD t16 (
 R (.tuple #[]) h4) (
 JoinN 1 (fun (k:VP) h5 =>
 vG (vk .add 3 17 .i64 1 t13) (fun t18 _ =>
 vG (vt .lss 3 18 19 t18 hi2) (fun t20 _ =>
 vJ t20 true (vV data0) (fun t22 _ =>
 vJ t20 true (vV first3) (fun t23 _ =>
 vJ t20 true (vV t13) (fun t24 _ =>
 vJ t20 true (vG (vt .add 3 23 24 t23 t24)) (fun t25 _ =>
 vJ t20 true (vG (indexAt 102 t22 t25)) (fun t26 _ =>
 vJ t20 true (vG (loadAt 2 t26)) (fun t27 _ =>
 vJ t20 true (vV data0) (fun t28 _ =>
 vJ t20 true (vV first3) (fun t29 _ =>
 vJ t20 true (vV t13) (fun t30 _ =>
 vJ t20 true (vG (vt .add 3 29 30 t29 t30)) (fun t31 _ =>
 vJ t20 true (vG (vk .add 3 31 .i64 1 t31)) (fun t32 _ =>
 vJ t20 true (vG (indexAt 102 t28 t32)) (fun t33 _ =>
 vJ t20 true (vG (loadAt 2 t33)) (fun t34 _ =>
 vJ t20 true (vC 136 #[t27,t34]) (fun t35 h20 =>
 vG (pickS t20 t35 (.bool false)) (fun t36 _ =>
 vD t36 (
 vF (vk .add 3 37 .i64 1 t13) (fun t38 h21 =>
 k t38 h21) h20) (
 k t13 h20)) #[]) h5) h5) #[]) #[]) #[]) #[]) #[]) #[]) h5) #[]) #[]) #[]) #[]) #[]) #[]) #[])
 (fun child9 h22 =>
 vG (vt .add 3 40 41 first3 root8) (fun t42 _ =>
 vG (indexAt 102 data0 t42) (fun t43 _ =>
 vG (loadAt 2 t43) (fun t44 _ =>
 vG (vt .add 3 46 47 first3 child9) (fun t48 _ =>
 vG (indexAt 102 data0 t48) (fun t49 _ =>
 vG (loadAt 2 t49) (fun t50 _ =>
 vC 136 #[t44,t50] (fun t51 h23 =>
 vG (Op.unary .not t51) (fun t52 _ =>
 vD t52 (
 R (.tuple #[]) h23) (
 vG (vt .add 3 54 55 first3 root8) (fun t56 _ =>
 vG (vt .add 3 58 59 first3 child9) (fun t60 _ =>
 vG (vt .add 3 62 63 first3 child9) (fun t64 _ =>
 vG (indexAt 102 data0 t64) (fun t65 _ =>
 vG (loadAt 2 t65) (fun t66 _ =>
 vG (vt .add 3 68 69 first3 root8) (fun t70 _ =>
 vG (indexAt 102 data0 t70) (fun t71 _ =>
 vG (loadAt 2 t71) (fun t72 _ =>
 vG (indexAt 102 data0 t56) (fun t73 _ =>
 vF (storeS 2 t73 t66) (fun _ h24 =>
 vG (indexAt 102 data0 t60) (fun t74 _ =>
 vF (storeS 2 t74 t72) (fun _ h25 =>
 X child9 h25) h24) #[]) h23) #[]) h23) #[]) #[]) h23) #[]) #[]) #[]) #[])) #[]) h22) h22) #[]) #[]) h22) #[]) #[]) h4 ⟨⟩ ⟨⟩)) h3) h2) h1) [lo1] h ⟨⟩

theorem n143_calls {data0 lo1 hi2 first3:Value} {R:VP} {h:Heap} (H:n143 data0 lo1 hi2 first3 R h):CallsH Tryz.prog 143 #[data0,lo1,hi2,first3] h R ⟨⟩ :=
 callsH_of_eq Tryz.follow (.n none .l (.n none (.n (some [9]) (.n none (.n none .l (.n none .l (.n (some [10]) .l .l))) .l) .l) .l)) Tryz.func143 kR kR kR H

def n144 (length0:Value) (R:VP) (h:Heap):Prop :=
 vF (convert 3 195 length0) (fun t4 h1 =>
 vC 116 #[t4] (fun t5 h2 =>
 vF (binS .shl 195 (.const (.int .u64 1)) (.tmp 5) (.int .u64 1) t5) (fun t6 h3 =>
 R t6 h3) h2) h1) h

theorem n144_calls {length0:Value} {R:VP} {h:Heap} (H:n144 length0 R h):CallsH Tryz.prog 144 #[length0] h R ⟨⟩ :=
 callsH_of_eq Tryz.follow .l Tryz.func144 kR kR kR H

def n145 (r0:Value) (R:VP) (h:Heap):Prop :=
 vG (nilS r0) (fun t4 _ =>
 vG (loadAt 223 t4) (fun t5 _ =>
 vG (nilS r0) (fun t7 _ =>
 vG (loadAt 223 t7) (fun t8 _ =>
 vG (vk .shl 223 8 .u64 13 t8) (fun t9 _ =>
 vG (vt .xor 223 5 9 t5 t9) (fun t10 _ =>
 vG (nilS r0) (fun t11 _ =>
 vF (storeS 223 t11 t10) (fun _ h1 =>
 vG (nilS r0) (fun t13 _ =>
 vG (loadAt 223 t13) (fun t14 _ =>
 vG (nilS r0) (fun t16 _ =>
 vG (loadAt 223 t16) (fun t17 _ =>
 vG (vk .shr 223 17 .u64 7 t17) (fun t18 _ =>
 vG (vt .xor 223 14 18 t14 t18) (fun t19 _ =>
 vG (nilS r0) (fun t20 _ =>
 vF (storeS 223 t20 t19) (fun _ h2 =>
 vG (nilS r0) (fun t22 _ =>
 vG (loadAt 223 t22) (fun t23 _ =>
 vG (nilS r0) (fun t25 _ =>
 vG (loadAt 223 t25) (fun t26 _ =>
 vG (vk .shl 223 26 .u64 17 t26) (fun t27 _ =>
 vG (vt .xor 223 23 27 t23 t27) (fun t28 _ =>
 vG (nilS r0) (fun t29 _ =>
 vF (storeS 223 t29 t28) (fun _ h3 =>
 vF (nilS r0) (fun t31 h4 =>
 vF (loadAt 223 t31) (fun t32 h5 =>
 R t32 h5) h4) h3) h2) #[]) #[]) #[]) h2) #[]) h2) #[]) h1) #[]) #[]) #[]) h1) #[]) h1) #[]) h) #[]) #[]) #[]) h) #[]) h) #[]

theorem n145_calls {r0:Value} {R:VP} {h:Heap} (H:n145 r0 R h):CallsH Tryz.prog 145 #[r0] h R ⟨⟩ :=
 callsH_of_eq Tryz.follow .l Tryz.func145 kR kR kR H

def n146 (data0 a1 swaps2:Value) (R:VP) (h:Heap):Prop :=
 vF (vk .sub 3 8 .i64 1 a1) (fun t9 h1 =>
 vF (vk .add 3 11 .i64 1 a1) (fun t12 h2 =>
 vC 147 #[data0,t9,a1,t12,swaps2] (fun t14 h3 =>
 R t14 h3) h2) h1) h

theorem n146_calls {data0 a1 swaps2:Value} {R:VP} {h:Heap} (H:n146 data0 a1 swaps2 R h):CallsH Tryz.prog 146 #[data0,a1,swaps2] h R ⟨⟩ :=
 callsH_of_eq Tryz.follow .l Tryz.func146 kR kR kR H

def n147 (data0 a1 b2 c3 swaps4:Value) (R:VP) (h:Heap):Prop :=
 vC 158 #[data0,a1,b2,swaps4] (fun t16 h1 =>
 vF (extract t16 0) (fun t17 h2 =>
 vF (extract t16 1) (fun t18 h3 =>
 vC 158 #[data0,t18,c3,swaps4] (fun t24 h4 =>
 vF (extract t24 0) (fun t25 h5 =>
 vF (extract t24 1) (fun t26 h6 =>
 vC 158 #[data0,t17,t25,swaps4] (fun t32 h7 =>
 vF (extract t32 0) (fun t33 h8 =>
 vF (extract t32 1) (fun t34 h9 =>
 R t34 h9) h8) h7) h6) h5) h4) h3) h2) h1) h

theorem n147_calls {data0 a1 b2 c3 swaps4:Value} {R:VP} {h:Heap} (H:n147 data0 a1 b2 c3 swaps4 R h):CallsH Tryz.prog 147 #[data0,a1,b2,c3,swaps4] h R ⟨⟩ :=
 callsH_of_eq Tryz.follow .l Tryz.func147 kR kR kR H

def n148 (x0:Value) (R:VP) (h:Heap):Prop :=
 vF (vt .neq 2 3 4 x0 x0) (fun t5 h1 =>
 R t5 h1) h

theorem n148_calls {x0:Value} {R:VP} {h:Heap} (H:n148 x0 R h):CallsH Tryz.prog 148 #[x0] h R ⟨⟩ :=
 callsH_of_eq Tryz.follow .l Tryz.func148 kR kR kR H

def n158 (data0 a1 b2 swaps3:Value) (R:VP) (h:Heap):Prop :=
 vG (indexAt 102 data0 b2) (fun t12 _ =>
 vG (loadAt 2 t12) (fun t13 _ =>
 vG (indexAt 102 data0 a1) (fun t16 _ =>
 vG (loadAt 2 t16) (fun t17 _ =>
 vC 136 #[t13,t17] (fun t18 h1 =>
 vD t18 (
 vF (nilS swaps3) (fun t20 h2 =>
 vF (loadAt 3 t20) (fun t21 h3 =>
 vF (vk .add 3 21 .i64 1 t21) (fun t22 h4 =>
 vF (nilS swaps3) (fun t23 h5 =>
 vF (storeS 3 t23 t22) (fun _ h6 =>
 R (.tuple #[b2,a1]) h6) h5) h4) h3) h2) h1) (
 R (.tuple #[a1,b2]) h1)) h) h) #[]) h) #[]

theorem n158_calls {data0 a1 b2 swaps3:Value} {R:VP} {h:Heap} (H:n158 data0 a1 b2 swaps3 R h):CallsH Tryz.prog 158 #[data0,a1,b2,swaps3] h R ⟨⟩ :=
 callsH_of_eq Tryz.follow .l Tryz.func158 kR kR kR H

def n182 (o0:Value) (R:VP) (h:Heap):Prop :=
 vF (len_ #[188] 3 #[o0]) (fun t4 h1 =>
 R t4 h1) h

theorem n182_calls {o0:Value} {R:VP} {h:Heap} (H:n182 o0 R h):CallsH Tryz.prog 182 #[o0] h R ⟨⟩ :=
 callsH_of_eq Tryz.follow .l Tryz.func182 kR kR kR H

def n183 (o0 i1 k2:Value) (R:VP) (h:Heap):Prop :=
 vG (indexAt 188 o0 i1) (fun t9 _ =>
 vG (loadAt 94 t9) (fun t10 _ =>
 vG (nilS t10) (fun t11 _ =>
 vG (fieldAt 99 t11 2) (fun t12 _ =>
 vG (loadAt 4 t12) (fun t13 _ =>
 vG (indexAt 188 o0 k2) (fun t16 _ =>
 vG (loadAt 94 t16) (fun t17 _ =>
 vG (nilS t17) (fun t18 _ =>
 vG (fieldAt 99 t18 2) (fun t19 _ =>
 vG (loadAt 4 t19) (fun t20 _ =>
 vG (vt .neq 4 13 20 t13 t20) (fun t21 _ =>
 vD t21 (
 vF (indexAt 188 o0 i1) (fun t24 h1 =>
 vF (loadAt 94 t24) (fun t25 h2 =>
 vF (nilS t25) (fun t26 h3 =>
 vF (fieldAt 99 t26 2) (fun t27 h4 =>
 vF (loadAt 4 t27) (fun t28 h5 =>
 vF (Op.unary .not t28) (fun t29 h6 =>
 R t29 h6) h5) h4) h3) h2) h1) h) (
 vG (indexAt 188 o0 i1) (fun t32 _ =>
 vG (loadAt 94 t32) (fun t33 _ =>
 vG (nilS t33) (fun t34 _ =>
 vG (fieldAt 99 t34 3) (fun t35 _ =>
 vG (loadAt 3 t35) (fun t36 _ =>
 vG (indexAt 188 o0 k2) (fun t39 _ =>
 vG (loadAt 94 t39) (fun t40 _ =>
 vG (nilS t40) (fun t41 _ =>
 vG (fieldAt 99 t41 3) (fun t42 _ =>
 vG (loadAt 3 t42) (fun t43 _ =>
 vG (vt .lss 3 36 43 t36 t43) (fun t44 _ =>
 R t44 h) #[]) h) #[]) #[]) h) #[]) h) #[]) #[]) h) #[])) #[]) h) #[]) #[]) h) #[]) h) #[]) #[]) h) #[]

theorem n183_calls {o0 i1 k2:Value} {R:VP} {h:Heap} (H:n183 o0 i1 k2 R h):CallsH Tryz.prog 183 #[o0,i1,k2] h R ⟨⟩ :=
 callsH_of_eq Tryz.follow .l Tryz.func183 kR kR kR H

def n184 (o0 i1 k2:Value) (R:VP) (h:Heap):Prop :=
 vG (indexAt 188 o0 k2) (fun t12 _ =>
 vG (loadAt 94 t12) (fun t13 _ =>
 vG (indexAt 188 o0 i1) (fun t16 _ =>
 vG (loadAt 94 t16) (fun t17 _ =>
 vG (indexAt 188 o0 i1) (fun t18 _ =>
 vF (storeS 94 t18 t13) (fun _ h1 =>
 vG (indexAt 188 o0 k2) (fun t19 _ =>
 vF (storeS 94 t19 t17) (fun _ h2 =>
 R (.tuple #[]) h2) h1) #[]) h) #[]) h) #[]) h) #[]

theorem n184_calls {o0 i1 k2:Value} {R:VP} {h:Heap} (H:n184 o0 i1 k2 R h):CallsH Tryz.prog 184 #[o0,i1,k2] h R ⟨⟩ :=
 callsH_of_eq Tryz.follow .l Tryz.func184 kR kR kR H

def n185 (o0:Value) (R:VP) (h:Heap):Prop :=
 vF (nilS o0) (fun t6 h1 =>
 vF (loadAt 188 t6) (fun t7 h2 =>
 vF (len_ #[188] 3 #[t7]) (fun t8 h3 =>
 vF (vk .sub 3 8 .i64 1 t8) (fun t9 h4 =>
 vF (nilS o0) (fun t11 h5 =>
 vF (loadAt 188 t11) (fun t12 h6 =>
 vF (indexAt 188 t12 t9) (fun t14 h7 =>
 vF (loadAt 94 t14) (fun t15 h8 =>
 vF (nilS o0) (fun t18 h9 =>
 vF (loadAt 188 t18) (fun t19 h10 =>
 vF (sliceAt 188 t19 none (some t9) none) (fun t21 h11 =>
 vF (nilS o0) (fun t22 h12 =>
 vF (storeS 188 t22 t21) (fun _ h13 =>
 vF (makeInterface 94 t15) (fun t24 h14 =>
 R t24 h14) h13) h12) h11) h10) h9) h8) h7) h6) h5) h4) h3) h2) h1) h

theorem n185_calls {o0:Value} {R:VP} {h:Heap} (H:n185 o0 R h):CallsH Tryz.prog 185 #[o0] h R ⟨⟩ :=
 callsH_of_eq Tryz.follow .l Tryz.func185 kR kR kR H

end Go.Proofs.YtcbbdnaelimpfaaGreat

/- Printed by /tmp/tools2/gen.py: the condition of each function,and that a call meets it. -/
import Derived.Test.YtcbbdnaelimpfaaGreatVcFun
import Derived.Test.YtcbbdnaelimpfaaGreatProg
import Derived.Test.YtcbbdnaelimpfaaGreatNiceA
import Derived.Test.YtcbbdnaelimpfaaGreatNiceB
import Derived.Test.YtcbbdnaelimpfaaGreatNiceC
set_option maxRecDepth 100000
set_option linter.unusedVariables false
namespace Go.Proofs.YtcbbdnaelimpfaaGreat
open Go.Vc Go.Instr Go.Builtin

def n6 (x0:Value) (R:VP) (h:Heap):Prop :=
 vF (box 61 x0) (fun x1 h1 =>
 vF (loadAt 61 x1) (fun t11 h2 =>
 vC 25 #[t11] (fun t12 h3 =>
 vD t12 (
 vC 8 #[] (fun t13 h4 =>
 R t13 h4) h3) (
 vF (fieldAt 61 x1 0) (fun t14 h5 =>
 vF (loadAt 2 t14) (fun t15 h6 =>
 vF (fieldAt 61 x1 1) (fun t16 h7 =>
 vF (loadAt 48 t16) (fun t17 h8 =>
 vC 9 #[t15,t17] (fun t18 h9 =>
 vF (binS .eql 26 (.tmp 19) (.const (.pointer none)) t18 (.pointer none)) (fun t20 h10 =>
 vD t20 (
 R (.bool false) h10) (
 vC 26 #[(.slice none 0 0)] (fun t21 h11 =>
 vC 27 #[t21,(str [102])] (fun t23 h12 =>
 vF (vk .neq 3 23 .i64 0 t23) (fun t24 h13 =>
 vJ t24 false (vV t21) (fun t26 h15 =>
 vJ t24 false (vF (fieldAt 61 x1 0)) (fun t27 h17 =>
 vJ t24 false (vF (loadAt 2 t27)) (fun t28 h19 =>
 vJ t24 false (vC 28 #[t26,(str [102]),t28]) (fun t29 h21 =>
 vJ t24 false (vF (vk .neq 3 29 .i64 0 t29)) (fun t30 h23 =>
 vF (pickS t24 (.bool true) t30) (fun t31 h24 =>
 vD t31 (
 R (.bool false) h24) (
 vF (buildSlice 48 0 #[]) (fun t33 h25 =>
 vF (fieldAt 61 x1 1) (fun t34 h26 =>
 vF (loadAt 48 t34) (fun t35 h27 =>
 vF (append_ #[48,48] 48 #[t33,t35]) (fun t36 h28 =>
 vF (nilS t21) (fun t37 h29 =>
 vF (fieldAt 68 t37 1) (fun t38 h30 =>
 vF (storeS 48 t38 t36) (fun _ h31 =>
 vF (fieldAt 61 x1 2) (fun t41 h32 =>
 vF (loadAt 3 t41) (fun t42 h33 =>
 vF (fieldAt 61 x1 3) (fun t43 h34 =>
 vF (loadAt 3 t43) (fun t44 h35 =>
 vC 10 #[t18,(str [102]),t42,t44] (fun t45 h36 =>
 vF (extract t45 0) (fun t46 h37 =>
 vF (extract t45 1) (fun t47 h38 =>
 vF (fieldAt 61 x1 2) (fun t50 h39 =>
 vF (loadAt 3 t50) (fun t51 h40 =>
 vF (fieldAt 61 x1 3) (fun t52 h41 =>
 vF (loadAt 3 t52) (fun t53 h42 =>
 vC 29 #[t21,(str [102]),t51,t53] (fun t54 h43 =>
 vF (extract t54 0) (fun t55 h44 =>
 vF (extract t54 1) (fun t56 h45 =>
 vF (vk .neq 3 57 .i64 0 t56) (fun t58 h46 =>
 vD t58 (
 vF (binS .eql 28 (.tmp 59) (.const (.pointer none)) t46 (.pointer none)) (fun t60 h47 =>
 vJ t60 true (vV t47) (fun t62 h49 =>
 vJ t60 true (vC 11 #[t62]) (fun t63 h51 =>
 vJ t60 true (vV t56) (fun t64 h53 =>
 vJ t60 true (vF (vt .eql 3 63 64 t63 t64)) (fun t65 h55 =>
 vF (pickS t60 t65 (.bool false)) (fun t66 h56 =>
 vJ t66 true (vC 8 #[]) (fun t68 h58 =>
 vF (pickS t66 t68 (.bool false)) (fun t69 h59 =>
 R t69 h59) h58) h56) h55) h53) h51) h49) h47) h46) (
 vF (build 73 #[(0,t18),(1,t46),(2,t55)]) (fun t73 h60 =>
 vF (alloc 73 true undef) (fun o9 h61 =>
 vF (storeS 73 o9 t73) (fun _ h62 =>
 vF (binS .eql 28 (.tmp 74) (.const (.pointer none)) t46 (.pointer none)) (fun t75 h63 =>
 vJ t75 false (vV t47) (fun t77 h65 =>
 vJ t75 false (vC 11 #[t77]) (fun t78 h67 =>
 vJ t75 false (vF (vk .neq 3 78 .i64 0 t78)) (fun t79 h69 =>
 vF (pickS t75 (.bool true) t79) (fun t80 h70 =>
 vD t80 (
 R (.bool false) h70) (
 LoopC 1 (fun (X:VP)=>fun i10 h71 =>
 vF (fieldAt 61 x1 4) (fun t82 h72 =>
 vF (loadAt 22 t82) (fun t83 h73 =>
 vF (len_ #[22] 3 #[t83]) (fun t84 h74 =>
 vF (vt .lss 3 81 84 i10 t84) (fun t85 h75 =>
 vD t85 (
 vG (loadAt 73 o9) (fun t88 _ =>
 vG (fieldAt 61 x1 4) (fun t89 _ =>
 vG (loadAt 22 t89) (fun t90 _ =>
 vG (indexAt 22 t90 i10) (fun t92 _ =>
 vG (loadAt 35 t92) (fun t93 _ =>
 vC 30 #[t88,t93] (fun t94 h76 =>
 vG (Op.unary .not t94) (fun t95 _ =>
 vJ t95 false (vG (loadAt 73 o9)) (fun t97 _ =>
 vJ t95 false (vC 31 #[t97]) (fun t98 h79 =>
 vJ t95 false (vG (Op.unary .not t98)) (fun t99 _ =>
 vG (pickS t95 (.bool true) t99) (fun t100 _ =>
 vD t100 (
 R (.bool false) h79) (
 vF (vk .add 3 86 .i64 1 i10) (fun t87 h81 =>
 X t87 h81) h79)) #[]) #[]) h76) h76) #[]) h75) h75) #[]) h75) #[]) h75) (
 vC 32 #[t18] (fun t102 h82 =>
 vJ t102 true (vC 8 #[]) (fun t104 h84 =>
 vF (pickS t102 t104 (.bool false)) (fun t105 h85 =>
 R t105 h85) h84) h82) h75)) h74) h73) h72) h71) [(.int .i64 0)] h70 ⟨⟩)) h69) h67) h65) h63) h62) h61) h60) h46)) h45) h44) h43) h42) h41) h40) h39) h38) h37) h36) h35) h34) h33) h32) h31) h30) h29) h28) h27) h26) h25) h24)) h23) h21) h19) h17) h15) h13) h12) h11) h10)) h9) h8) h7) h6) h5) h3)) h2) h1) h

theorem n6_calls {x0:Value} {R:VP} {h:Heap} (H:n6 x0 R h):CallsH Tryz.prog 6 #[x0] h R ⟨⟩ :=
 callsH_of_eq Tryz.follow (.n none .l (.n none .l (.n none .l (.n none .l (.n none .l (.n none .l (.n none .l (.n none .l (.n none .l (.n none .l (.n none .l (.n none .l (.n none (.n none .l (.n none (.n (some [11]) .l .l) .l)) .l))))))))))))) Tryz.func6 kR kR kR H

def n8 (R:VP) (h:Heap):Prop :=
 vC 9 #[(.int .i64 4096),(.slice none 0 0)] (fun t12 h1 =>
 vC 10 #[t12,(str [102]),(.int .i64 9),(.int .i64 2)] (fun t15 h2 =>
 vF (extract t15 0) (fun t16 h3 =>
 vF (extract t15 1) (fun t17 h4 =>
 vF (binS .eql 26 (.tmp 18) (.const (.pointer none)) t12 (.pointer none)) (fun t19 h5 =>
 vJ t19 false (vV t16) (fun t21 h7 =>
 vJ t19 false (vF (binS .eql 28 (.tmp 21) (.const (.pointer none)) t21 (.pointer none))) (fun t22 h9 =>
 vF (pickS t19 (.bool true) t22) (fun t23 h10 =>
 vJ t23 false (vV t17) (fun t25 h12 =>
 vJ t23 false (vC 11 #[t25]) (fun t26 h14 =>
 vJ t23 false (vF (vk .neq 3 26 .i64 0 t26)) (fun t27 h16 =>
 vF (pickS t23 (.bool true) t27) (fun t28 h17 =>
 vJ t28 false (vV t16) (fun t30 h19 =>
 vJ t28 false (vC 33 #[t30]) (fun t31 h21 =>
 vJ t28 false (vF (binS .eql 78 (.tmp 31) (.const .nilFunc) t31 .nilFunc)) (fun t32 h23 =>
 vF (pickS t28 (.bool true) t32) (fun t33 h24 =>
 vD t33 (
 R (.bool false) h24) (
 vF (buildSlice 33 1 #[(0,(.int .u8 1))]) (fun t35 h25 =>
 vC 13 #[t16,(.int .i64 0),(.int .i64 0),t35] (fun t36 h26 =>
 vF (buildSlice 33 1 #[(0,(.int .u8 2))]) (fun t38 h27 =>
 vC 13 #[t16,(.int .i64 1),(.int .i64 0),t38] (fun t39 h28 =>
 vC 14 #[t16,(.int .i64 0),(.int .i64 1)] (fun t41 h29 =>
 vC 14 #[t16,(.int .i64 1),(.int .i64 0)] (fun t43 h30 =>
 vC 15 #[t16,(.int .i64 0)] (fun t45 h31 =>
 vC 19 #[t12,(str [102]),(.int .i64 512),(.int .i64 1)] (fun t48 h32 =>
 vF (extract t48 0) (fun t49 h33 =>
 vF (extract t48 1) (fun t50 h34 =>
 vC 34 #[t16] (fun t52 h35 =>
 vF (alloc 81 true undef) (fun n11 h36 =>
 vF (storeS 81 n11 t52) (fun _ h37 =>
 vC 11 #[t36] (fun t54 h38 =>
 vC 11 #[t39] (fun t56 h39 =>
 vF (vt .add 3 54 56 t54 t56) (fun t57 h40 =>
 vC 11 #[t41] (fun t59 h41 =>
 vF (vt .add 3 57 59 t57 t59) (fun t60 h42 =>
 vC 11 #[t45] (fun t62 h43 =>
 vF (vt .add 3 60 62 t60 t62) (fun t63 h44 =>
 vC 11 #[t50] (fun t65 h45 =>
 vF (vt .add 3 63 65 t63 t65) (fun t66 h46 =>
 vF (vk .eql 3 66 .i64 0 t66) (fun t67 h47 =>
 vJ t67 true (vV t43) (fun t69 h49 =>
 vJ t67 true (vC 11 #[t69]) (fun t70 h51 =>
 vJ t67 true (vF (vk .eql 3 70 .i64 240 t70)) (fun t71 h53 =>
 vF (pickS t67 t71 (.bool false)) (fun t72 h54 =>
 vJ t72 true (vV t49) (fun t74 h56 =>
 vJ t72 true (vF (len_ #[33] 3 #[t74])) (fun t75 h58 =>
 vJ t72 true (vF (vk .eql 3 75 .i64 1 t75)) (fun t76 h60 =>
 vF (pickS t72 t76 (.bool false)) (fun t77 h61 =>
 vJ t77 true (vV t49) (fun t79 h63 =>
 vJ t77 true (vF (indexAt 33 t79 (.int .i64 0))) (fun t80 h65 =>
 vJ t77 true (vF (loadAt 5 t80)) (fun t81 h67 =>
 vJ t77 true (vF (vk .eql 5 81 .u8 2 t81)) (fun t82 h69 =>
 vF (pickS t77 t82 (.bool false)) (fun t83 h70 =>
 vJ t83 true (vF (loadAt 81 n11)) (fun t85 h72 =>
 vJ t83 true (vF (build 81 #[(1,(.int .i64 2)),(2,(.int .i64 2)),(3,(.int .i64 1))])) (fun t86 h74 =>
 vJ t83 true (vF (vt .eql 81 85 86 t85 t86)) (fun t87 h76 =>
 vF (pickS t83 t87 (.bool false)) (fun t88 h77 =>
 R t88 h77) h76) h74) h72) h70) h69) h67) h65) h63) h61) h60) h58) h56) h54) h53) h51) h49) h47) h46) h45) h44) h43) h42) h41) h40) h39) h38) h37) h36) h35) h34) h33) h32) h31) h30) h29) h28) h27) h26) h25) h24)) h23) h21) h19) h17) h16) h14) h12) h10) h9) h7) h5) h4) h3) h2) h1) h

theorem n8_calls {R:VP} {h:Heap} (H:n8  R h):CallsH Tryz.prog 8 #[] h R ⟨⟩ :=
 callsH_of_eq Tryz.follow .l Tryz.func8 kR kR kR H

def n9 (n0 fates1:Value) (R:VP) (h:Heap):Prop :=
 vC 35 #[(.slice none 0 0)] (fun t8 h1 =>
 vF (extract t8 0) (fun t9 h2 =>
 vF (extract t8 1) (fun t10 h3 =>
 vF (binS .eql 26 (.tmp 11) (.const (.pointer none)) t9 (.pointer none)) (fun t12 h4 =>
 vJ t12 false (vV t10) (fun t14 h6 =>
 vJ t12 false (vC 11 #[t14]) (fun t15 h8 =>
 vJ t12 false (vF (vk .neq 3 15 .i64 0 t15)) (fun t16 h10 =>
 vF (pickS t12 (.bool true) t16) (fun t17 h11 =>
 vJ t17 false (vV t9) (fun t19 h13 =>
 vJ t17 false (vC 36 #[t19,(str [102])]) (fun t20 h15 =>
 vJ t17 false (vC 11 #[t20]) (fun t21 h17 =>
 vJ t17 false (vF (vk .neq 3 21 .i64 0 t21)) (fun t22 h19 =>
 vF (pickS t17 (.bool true) t22) (fun t23 h20 =>
 vJ t23 false (vV t9) (fun t25 h22 =>
 vJ t23 false (vV n0) (fun t26 h24 =>
 vJ t23 false (vC 37 #[t25,(str [102]),t26]) (fun t27 h26 =>
 vJ t23 false (vC 11 #[t27]) (fun t28 h28 =>
 vJ t23 false (vF (vk .neq 3 28 .i64 0 t28)) (fun t29 h30 =>
 vF (pickS t23 (.bool true) t29) (fun t30 h31 =>
 vJ t30 false (vV t9) (fun t32 h33 =>
 vJ t30 false (vV fates1) (fun t33 h35 =>
 vJ t30 false (vC 38 #[t32,t33]) (fun t34 h37 =>
 vJ t30 false (vC 11 #[t34]) (fun t35 h39 =>
 vJ t30 false (vF (vk .neq 3 35 .i64 0 t35)) (fun t36 h41 =>
 vF (pickS t30 (.bool true) t36) (fun t37 h42 =>
 vD t37 (
 R (.pointer none) h42) (
 R t9 h42)) h41) h39) h37) h35) h33) h31) h30) h28) h26) h24) h22) h20) h19) h17) h15) h13) h11) h10) h8) h6) h4) h3) h2) h1) h

theorem n9_calls {n0 fates1:Value} {R:VP} {h:Heap} (H:n9 n0 fates1 R h):CallsH Tryz.prog 9 #[n0,fates1] h R ⟨⟩ :=
 callsH_of_eq Tryz.follow .l Tryz.func9 kR kR kR H

end Go.Proofs.YtcbbdnaelimpfaaGreat

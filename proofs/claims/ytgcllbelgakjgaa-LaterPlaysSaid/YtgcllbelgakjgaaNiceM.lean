/- Printed by wip/tools/gen.py: the condition of each function, and that a call meets it. -/
import Derived.Test.YtgcllbelgakjgaaVcFun
import Derived.Test.YtgcllbelgakjgaaProg
import Derived.Test.YtgcllbelgakjgaaNiceK
import Derived.Test.YtgcllbelgakjgaaNiceL
import Derived.Test.YtgcllbelgakjgaaNiceR
set_option maxRecDepth 100000
set_option linter.unusedVariables false
namespace Go.Proofs.Ytgcllbelgakjgaa
open Go.Vc

/-- palimpsest/palimpsestlaw13.LaterFull -/
def n3 (R : Value → Heap → Prop) (h : Heap) : Prop :=
 Hp Try.prog false (Instr.makeSlice 22 (.int .i64 4096) (.int .i64 4096)) (fun t15 h_1 => 
 LoopC 1 (fun (X : Value → Heap → Prop) => fun i2 h_2 =>
 Hp Try.prog false (Builtin.len_ #[22] 3 #[t15]) (fun t18 h_3 => 
 Hp Try.prog false (binS .lss 3 (.tmp 16) (.tmp 18) i2 t18) (fun t19 h_4 => 
 CondP t19 (
 Hp Try.prog false (binS .mul 3 (.const (.int .i64 4)) (.tmp 24) (.int .i64 4) i2) (fun t25 h_5 => 
 Hp Try.prog false (Instr.build 24 #[(0, t25), (1, (.int .i64 3))]) (fun t26 h_6 => 
 Hp Try.prog false (Instr.indexAt 22 t15 i2) (fun t27 h_7 => 
 Hp Try.prog false (storeS 24 t27 t26) (fun _ h_8 => 
 Hp Try.prog false (binS .add 3 (.tmp 20) (.const (.int .i64 1)) i2 (.int .i64 1)) (fun t21 h_9 => 
 X t21 h_9) h_8 ⟨⟩) h_7 ⟨⟩) h_6 ⟨⟩) h_5 ⟨⟩) h_4 ⟨⟩) (
 CallsH Try.prog 8 #[t15] h_4 (fun t30 h_10 => 
 Hp Try.prog false (Instr.extract t30 0) (fun t31 h_11 => 
 Hp Try.prog false (Instr.extract t30 1) (fun t32 h_12 => 
 Hp Try.prog false (Instr.build 24 #[(0, (.int .i64 100000)), (1, (.int .i64 1))]) (fun t35 h_13 => 
 Hp Try.prog false (Instr.buildSlice 22 1 #[(0, t35)]) (fun t36 h_14 => 
 Hp Try.prog false (Builtin.append_ #[22, 22] 22 #[t15, t36]) (fun t37 h_15 => 
 CallsH Try.prog 8 #[t37] h_15 (fun t38 h_16 => 
 Hp Try.prog false (Instr.extract t38 0) (fun t39 h_17 => 
 Hp Try.prog false (Instr.extract t38 1) (fun t40 h_18 => 
 Hp Try.prog false (binS .eql 25 (.tmp 41) (.const (.pointer none)) t31 (.pointer none)) (fun t42 h_19 => 
 Join1 (fun k h_20 => guardP t42 false (k t32 h_20) (k undef h_20) ⟨⟩ ⟨⟩) (fun t44 h_21 => 
 Join1 (fun k_1 h_22 => guardP t42 false (CallsH Try.prog 9 #[t44] h_22 k_1 ⟨⟩) (k_1 undef h_22) ⟨⟩ ⟨⟩) (fun t45 h_23 => 
 Join1 (fun k_2 h_24 => guardP t42 false (Hp Try.prog false (binS .neq 3 (.tmp 45) (.const (.int .i64 0)) t45 (.int .i64 0)) k_2 h_24 ⟨⟩) (k_2 undef h_24) ⟨⟩ ⟨⟩) (fun t46 h_25 => 
 Hp Try.prog false (pickS t42 (.bool true) t46) (fun t47 h_26 => 
 Join1 (fun k_3 h_27 => guardP t47 false (k_3 t39 h_27) (k_3 undef h_27) ⟨⟩ ⟨⟩) (fun t49 h_28 => 
 Join1 (fun k_4 h_29 => guardP t47 false (Hp Try.prog false (binS .neq 25 (.tmp 49) (.const (.pointer none)) t49 (.pointer none)) k_4 h_29 ⟨⟩) (k_4 undef h_29) ⟨⟩ ⟨⟩) (fun t50 h_30 => 
 Hp Try.prog false (pickS t47 (.bool true) t50) (fun t51 h_31 => 
 Join1 (fun k_5 h_32 => guardP t51 false (k_5 t40 h_32) (k_5 undef h_32) ⟨⟩ ⟨⟩) (fun t53 h_33 => 
 Join1 (fun k_6 h_34 => guardP t51 false (CallsH Try.prog 9 #[t53] h_34 k_6 ⟨⟩) (k_6 undef h_34) ⟨⟩ ⟨⟩) (fun t54 h_35 => 
 Join1 (fun k_7 h_36 => guardP t51 false (Hp Try.prog false (binS .neq 3 (.tmp 54) (.const (.int .i64 6)) t54 (.int .i64 6)) k_7 h_36 ⟨⟩) (k_7 undef h_36) ⟨⟩ ⟨⟩) (fun t55 h_37 => 
 Hp Try.prog false (pickS t51 (.bool true) t55) (fun t56 h_38 => 
 CondP t56 (
 R (.bool false) h_38) (
 Hp Try.prog false (Instr.build 24 #[(0, (.int .i64 100000)), (1, (.int .i64 1))]) (fun t59 h_39 => 
 Hp Try.prog false (Instr.buildSlice 22 1 #[(0, t59)]) (fun t60 h_40 => 
 CallsH Try.prog 10 #[t31, t60] h_40 (fun t61 h_41 => 
 Hp Try.prog false (Instr.extract t61 0) (fun t62 h_42 => 
 Hp Try.prog false (Instr.extract t61 1) (fun t63 h_43 => 
 Hp Try.prog false (Instr.build 24 #[(0, (.int .i64 1)), (1, (.int .i64 1))]) (fun t66 h_44 => 
 CallsH Try.prog 11 #[t31, t66] h_44 (fun t67 h_45 => 
 Hp Try.prog false (Instr.extract t67 0) (fun t68 h_46 => 
 Hp Try.prog false (Instr.extract t67 1) (fun t69 h_47 => 
 CallsH Try.prog 12 #[t31] h_47 (fun t72 h_48 => 
 Hp Try.prog false (Instr.extract t72 0) (fun t73 h_49 => 
 Hp Try.prog false (Instr.extract t72 1) (fun t74 h_50 => 
 Hp Try.prog false (Instr.build 24 #[(0, (.int .i64 0)), (1, (.int .i64 1))]) (fun t77 h_51 => 
 CallsH Try.prog 11 #[t31, t77] h_51 (fun t78 h_52 => 
 Hp Try.prog false (Instr.extract t78 0) (fun t79 h_53 => 
 Hp Try.prog false (Instr.extract t78 1) (fun t80 h_54 => 
 Hp Try.prog false (binS .eql 2 (.tmp 81) (.const (.int .i64 0)) t62 (.int .i64 0)) (fun t82 h_55 => 
 Join1 (fun k_8 h_56 => guardP t82 true (k_8 t63 h_56) (k_8 undef h_56) ⟨⟩ ⟨⟩) (fun t84 h_57 => 
 Join1 (fun k_9 h_58 => guardP t82 true (CallsH Try.prog 9 #[t84] h_58 k_9 ⟨⟩) (k_9 undef h_58) ⟨⟩ ⟨⟩) (fun t85 h_59 => 
 Join1 (fun k_10 h_60 => guardP t82 true (Hp Try.prog false (binS .eql 3 (.tmp 85) (.const (.int .i64 6)) t85 (.int .i64 6)) k_10 h_60 ⟨⟩) (k_10 undef h_60) ⟨⟩ ⟨⟩) (fun t86 h_61 => 
 Hp Try.prog false (pickS t82 t86 (.bool false)) (fun t87 h_62 => 
 Join1 (fun k_11 h_63 => guardP t87 true (k_11 t68 h_63) (k_11 undef h_63) ⟨⟩ ⟨⟩) (fun t89 h_64 => 
 Join1 (fun k_12 h_65 => guardP t87 true (Hp Try.prog false (binS .eql 2 (.tmp 89) (.const (.int .i64 0)) t89 (.int .i64 0)) k_12 h_65 ⟨⟩) (k_12 undef h_65) ⟨⟩ ⟨⟩) (fun t90 h_66 => 
 Hp Try.prog false (pickS t87 t90 (.bool false)) (fun t91 h_67 => 
 Join1 (fun k_13 h_68 => guardP t91 true (k_13 t69 h_68) (k_13 undef h_68) ⟨⟩ ⟨⟩) (fun t93 h_69 => 
 Join1 (fun k_14 h_70 => guardP t91 true (CallsH Try.prog 9 #[t93] h_70 k_14 ⟨⟩) (k_14 undef h_70) ⟨⟩ ⟨⟩) (fun t94 h_71 => 
 Join1 (fun k_15 h_72 => guardP t91 true (Hp Try.prog false (binS .eql 3 (.tmp 94) (.const (.int .i64 6)) t94 (.int .i64 6)) k_15 h_72 ⟨⟩) (k_15 undef h_72) ⟨⟩ ⟨⟩) (fun t95 h_73 => 
 Hp Try.prog false (pickS t91 t95 (.bool false)) (fun t96 h_74 => 
 Join1 (fun k_16 h_75 => guardP t96 true (k_16 t73 h_75) (k_16 undef h_75) ⟨⟩ ⟨⟩) (fun t98 h_76 => 
 Join1 (fun k_17 h_77 => guardP t96 true (Hp Try.prog false (binS .eql 3 (.tmp 98) (.const (.int .i64 4096)) t98 (.int .i64 4096)) k_17 h_77 ⟨⟩) (k_17 undef h_77) ⟨⟩ ⟨⟩) (fun t99 h_78 => 
 Hp Try.prog false (pickS t96 t99 (.bool false)) (fun t100 h_79 => 
 Join1 (fun k_18 h_80 => guardP t100 true (k_18 t74 h_80) (k_18 undef h_80) ⟨⟩ ⟨⟩) (fun t102 h_81 => 
 Join1 (fun k_19 h_82 => guardP t100 true (Hp Try.prog false (binS .eql 2 (.tmp 102) (.const (.int .i64 12288)) t102 (.int .i64 12288)) k_19 h_82 ⟨⟩) (k_19 undef h_82) ⟨⟩ ⟨⟩) (fun t103 h_83 => 
 Hp Try.prog false (pickS t100 t103 (.bool false)) (fun t104 h_84 => 
 Join1 (fun k_20 h_85 => guardP t104 true (k_20 t79 h_85) (k_20 undef h_85) ⟨⟩ ⟨⟩) (fun t106 h_86 => 
 Join1 (fun k_21 h_87 => guardP t104 true (Hp Try.prog false (binS .eql 2 (.tmp 106) (.const (.int .i64 1)) t106 (.int .i64 1)) k_21 h_87 ⟨⟩) (k_21 undef h_87) ⟨⟩ ⟨⟩) (fun t107 h_88 => 
 Hp Try.prog false (pickS t104 t107 (.bool false)) (fun t108 h_89 => 
 Join1 (fun k_22 h_90 => guardP t108 true (k_22 t80 h_90) (k_22 undef h_90) ⟨⟩ ⟨⟩) (fun t110 h_91 => 
 Join1 (fun k_23 h_92 => guardP t108 true (CallsH Try.prog 9 #[t110] h_92 k_23 ⟨⟩) (k_23 undef h_92) ⟨⟩ ⟨⟩) (fun t111 h_93 => 
 Join1 (fun k_24 h_94 => guardP t108 true (Hp Try.prog false (binS .eql 3 (.tmp 111) (.const (.int .i64 0)) t111 (.int .i64 0)) k_24 h_94 ⟨⟩) (k_24 undef h_94) ⟨⟩ ⟨⟩) (fun t112 h_95 => 
 Hp Try.prog false (pickS t108 t112 (.bool false)) (fun t113 h_96 => 
 Join1 (fun k_25 h_97 => guardP t113 true (CallsH Try.prog 13 #[] h_97 k_25 ⟨⟩) (k_25 undef h_97) ⟨⟩ ⟨⟩) (fun t115 h_98 => 
 Hp Try.prog false (pickS t113 t115 (.bool false)) (fun t116 h_99 => 
 R t116 h_99) h_98 ⟨⟩) h_96 ⟨⟩ ⟨⟩) h_95 ⟨⟩) h_93 ⟨⟩ ⟨⟩) h_91 ⟨⟩ ⟨⟩) h_89 ⟨⟩ ⟨⟩) h_88 ⟨⟩) h_86 ⟨⟩ ⟨⟩) h_84 ⟨⟩ ⟨⟩) h_83 ⟨⟩) h_81 ⟨⟩ ⟨⟩) h_79 ⟨⟩ ⟨⟩) h_78 ⟨⟩) h_76 ⟨⟩ ⟨⟩) h_74 ⟨⟩ ⟨⟩) h_73 ⟨⟩) h_71 ⟨⟩ ⟨⟩) h_69 ⟨⟩ ⟨⟩) h_67 ⟨⟩ ⟨⟩) h_66 ⟨⟩) h_64 ⟨⟩ ⟨⟩) h_62 ⟨⟩ ⟨⟩) h_61 ⟨⟩) h_59 ⟨⟩ ⟨⟩) h_57 ⟨⟩ ⟨⟩) h_55 ⟨⟩ ⟨⟩) h_54 ⟨⟩) h_53 ⟨⟩) h_52 ⟨⟩) ⟨⟩) h_50 ⟨⟩) h_49 ⟨⟩) h_48 ⟨⟩) ⟨⟩) h_46 ⟨⟩) h_45 ⟨⟩) ⟨⟩) h_43 ⟨⟩) h_42 ⟨⟩) h_41 ⟨⟩) ⟨⟩) h_39 ⟨⟩) h_38 ⟨⟩) ⟨⟩ ⟨⟩) h_37 ⟨⟩) h_35 ⟨⟩ ⟨⟩) h_33 ⟨⟩ ⟨⟩) h_31 ⟨⟩ ⟨⟩) h_30 ⟨⟩) h_28 ⟨⟩ ⟨⟩) h_26 ⟨⟩ ⟨⟩) h_25 ⟨⟩) h_23 ⟨⟩ ⟨⟩) h_21 ⟨⟩ ⟨⟩) h_19 ⟨⟩ ⟨⟩) h_18 ⟨⟩) h_17 ⟨⟩) h_16 ⟨⟩) ⟨⟩) h_14 ⟨⟩) h_13 ⟨⟩) h_12 ⟨⟩) h_11 ⟨⟩) h_10 ⟨⟩) ⟨⟩) ⟨⟩ ⟨⟩) h_3 ⟨⟩) h_2 ⟨⟩) [(.int .i64 0)] h_1 ⟨⟩) h ⟨⟩

theorem n3_calls {R : Value → Heap → Prop} {h : Heap} (H : n3  R h) : CallsH Try.prog 3 #[] h R ⟨⟩ :=
 callsH_of_eq Try.follow (.n none .l (.n none .l (.n none (.n none .l (.n none (.n (some [3]) .l .l) .l)) .l))) Try.func3 (by kernel_rfl) (by kernel_rfl) (by kernel_rfl) H

/-- palimpsest/palimpsestlaw13.LaterGreatest -/
def n4 (l0 : Value) (R : Value → Heap → Prop) (h : Heap) : Prop :=
 Hp Try.prog false (Builtin.len_ #[22] 3 #[l0]) (fun t20 h_1 => 
 Hp Try.prog false (binS .gtr 3 (.tmp 20) (.const (.int .i64 60)) t20 (.int .i64 60)) (fun t21 h_2 => 
 CondP t21 (
 CallsH Try.prog 13 #[] h_2 (fun t22 h_3 => 
 R t22 h_3) ⟨⟩) (
 CallsH Try.prog 14 #[l0] h_2 (fun t25 h_4 => 
 CallsH Try.prog 8 #[t25] h_4 (fun t26 h_5 => 
 Hp Try.prog false (Instr.extract t26 0) (fun t27 h_6 => 
 Hp Try.prog false (Instr.extract t26 1) (fun t28 h_7 => 
 Hp Try.prog false (binS .eql 25 (.tmp 29) (.const (.pointer none)) t27 (.pointer none)) (fun t30 h_8 => 
 Join1 (fun k h_9 => guardP t30 false (k t28 h_9) (k undef h_9) ⟨⟩ ⟨⟩) (fun t32 h_10 => 
 Join1 (fun k_1 h_11 => guardP t30 false (CallsH Try.prog 9 #[t32] h_11 k_1 ⟨⟩) (k_1 undef h_11) ⟨⟩ ⟨⟩) (fun t33 h_12 => 
 Join1 (fun k_2 h_13 => guardP t30 false (Hp Try.prog false (binS .neq 3 (.tmp 33) (.const (.int .i64 0)) t33 (.int .i64 0)) k_2 h_13 ⟨⟩) (k_2 undef h_13) ⟨⟩ ⟨⟩) (fun t34 h_14 => 
 Hp Try.prog false (pickS t30 (.bool true) t34) (fun t35 h_15 => 
 CondP t35 (
 R (.bool false) h_15) (
 CallsH Try.prog 15 #[t27] h_15 (fun t37 h_16 => 
 CallsH Try.prog 12 #[t27] h_16 (fun t40 h_17 => 
 Hp Try.prog false (Instr.extract t40 0) (fun t41 h_18 => 
 Hp Try.prog false (Instr.extract t40 1) (fun t42 h_19 => 
 Hp Try.prog false (Instr.build 24 #[(1, (.int .i64 1152921504606846976))]) (fun t43 h_20 => 
 Hp Try.prog false (Instr.alloc 24 true undef) (fun last8 h_21 => 
 Hp Try.prog false (storeS 24 last8 t43) (fun _ h_22 => 
 LoopC 2 (fun (X : Value → Value → Heap → Prop) => fun size7 i9 h_23 =>
 Hp Try.prog false (binS .lss 3 (.tmp 44) (.tmp 45) i9 t41) (fun t46 h_24 => 
 CondP t46 (
 CallsH Try.prog 16 #[t27] h_24 (fun t51 h_25 => 
 Hp Try.prog false (Instr.extract t51 0) (fun t52 h_26 => 
 Hp Try.prog false (Instr.extract t51 1) (fun t53 h_27 => 
 Hp Try.prog false (Instr.alloc 24 true undef) (fun x10 h_28 => 
 Hp Try.prog false (storeS 24 x10 t52) (fun _ h_29 => 
 Hp Try.prog false (Instr.loadAt 24 x10) (fun t56 h_30 => 
 CallsH Try.prog 17 #[t37, t56] h_30 (fun t57 h_31 => 
 Hp Try.prog false (Instr.extract t57 0) (fun t58 h_32 => 
 Hp Try.prog false (Instr.extract t57 1) (fun t59 h_33 => 
 Hp Try.prog false (Instr.fieldAt 24 x10 0) (fun t60 h_34 => 
 Hp Try.prog false (Instr.loadAt 2 t60) (fun t61 h_35 => 
 Hp Try.prog false (binS .sub 2 (.tmp 61) (.const (.int .i64 1)) t61 (.int .i64 1)) (fun t62 h_36 => 
 Hp Try.prog false (Builtin.max_ #[2, 2] 2 #[(.int .i64 0), t62]) (fun t63 h_37 => 
 Hp Try.prog false (Instr.fieldAt 24 x10 0) (fun t67 h_38 => 
 Hp Try.prog false (Instr.loadAt 2 t67) (fun t68 h_39 => 
 Hp Try.prog false (Instr.fieldAt 24 x10 1) (fun t69 h_40 => 
 Hp Try.prog false (Instr.loadAt 2 t69) (fun t70 h_41 => 
 Hp Try.prog false (binS .add 2 (.tmp 68) (.tmp 70) t68 t70) (fun t71 h_42 => 
 Hp Try.prog false (binS .add 2 (.tmp 71) (.const (.int .i64 1)) t71 (.int .i64 1)) (fun t72 h_43 => 
 Hp Try.prog false (Builtin.min_ #[2, 2] 2 #[t72, (.int .i64 72057594037927936)]) (fun t73 h_44 => 
 Hp Try.prog false (binS .sub 2 (.tmp 73) (.tmp 74) t73 t63) (fun t75 h_45 => 
 Hp Try.prog false (Instr.build 24 #[(0, t63), (1, t75)]) (fun t76 h_46 => 
 CallsH Try.prog 17 #[t37, t76] h_46 (fun t77 h_47 => 
 Hp Try.prog false (Instr.extract t77 0) (fun t78 h_48 => 
 Hp Try.prog false (Instr.extract t77 1) (fun t79 h_49 => 
 CallsH Try.prog 9 #[t53] h_49 (fun t81 h_50 => 
 CallsH Try.prog 9 #[t59] h_50 (fun t83 h_51 => 
 Hp Try.prog false (binS .add 3 (.tmp 81) (.tmp 83) t81 t83) (fun t84 h_52 => 
 CallsH Try.prog 9 #[t79] h_52 (fun t86 h_53 => 
 Hp Try.prog false (binS .add 3 (.tmp 84) (.tmp 86) t84 t86) (fun t87 h_54 => 
 Hp Try.prog false (binS .neq 3 (.tmp 87) (.const (.int .i64 0)) t87 (.int .i64 0)) (fun t88 h_55 => 
 Join1 (fun k_3 h_56 => guardP t88 false (Hp Try.prog false (Instr.fieldAt 24 x10 1) k_3 h_56 ⟨⟩) (k_3 undef h_56) ⟨⟩ ⟨⟩) (fun t90 h_57 => 
 Join1 (fun k_4 h_58 => guardP t88 false (Hp Try.prog false (Instr.loadAt 2 t90) k_4 h_58 ⟨⟩) (k_4 undef h_58) ⟨⟩ ⟨⟩) (fun t91 h_59 => 
 Join1 (fun k_5 h_60 => guardP t88 false (Hp Try.prog false (Instr.fieldAt 24 last8 1) k_5 h_60 ⟨⟩) (k_5 undef h_60) ⟨⟩ ⟨⟩) (fun t92 h_61 => 
 Join1 (fun k_6 h_62 => guardP t88 false (Hp Try.prog false (Instr.loadAt 2 t92) k_6 h_62 ⟨⟩) (k_6 undef h_62) ⟨⟩ ⟨⟩) (fun t93 h_63 => 
 Join1 (fun k_7 h_64 => guardP t88 false (Hp Try.prog false (binS .gtr 2 (.tmp 91) (.tmp 93) t91 t93) k_7 h_64 ⟨⟩) (k_7 undef h_64) ⟨⟩ ⟨⟩) (fun t94 h_65 => 
 Hp Try.prog false (pickS t88 (.bool true) t94) (fun t95 h_66 => 
 Join1 (fun k_8 h_67 => guardP t95 false (Hp Try.prog false (Instr.fieldAt 24 x10 1) k_8 h_67 ⟨⟩) (k_8 undef h_67) ⟨⟩ ⟨⟩) (fun t97 h_68 => 
 Join1 (fun k_9 h_69 => guardP t95 false (Hp Try.prog false (Instr.loadAt 2 t97) k_9 h_69 ⟨⟩) (k_9 undef h_69) ⟨⟩ ⟨⟩) (fun t98 h_70 => 
 Join1 (fun k_10 h_71 => guardP t95 false (Hp Try.prog false (Instr.fieldAt 24 last8 1) k_10 h_71 ⟨⟩) (k_10 undef h_71) ⟨⟩ ⟨⟩) (fun t99 h_72 => 
 Join1 (fun k_11 h_73 => guardP t95 false (Hp Try.prog false (Instr.loadAt 2 t99) k_11 h_73 ⟨⟩) (k_11 undef h_73) ⟨⟩ ⟨⟩) (fun t100 h_74 => 
 Join1 (fun k_12 h_75 => guardP t95 false (Hp Try.prog false (binS .eql 2 (.tmp 98) (.tmp 100) t98 t100) k_12 h_75 ⟨⟩) (k_12 undef h_75) ⟨⟩ ⟨⟩) (fun t101 h_76 => 
 Join1 (fun k_13 h_77 => guardP t95 false (k_13 t101 h_77) (k_13 undef h_77) ⟨⟩ ⟨⟩) (fun t102 h_78 => 
 Join1 (fun k_14 h_79 => guardP t102 true (Hp Try.prog false (Instr.fieldAt 24 x10 0) k_14 h_79 ⟨⟩) (k_14 undef h_79) ⟨⟩ ⟨⟩) (fun t103 h_80 => 
 Join1 (fun k_15 h_81 => guardP t102 true (Hp Try.prog false (Instr.loadAt 2 t103) k_15 h_81 ⟨⟩) (k_15 undef h_81) ⟨⟩ ⟨⟩) (fun t104 h_82 => 
 Join1 (fun k_16 h_83 => guardP t102 true (Hp Try.prog false (Instr.fieldAt 24 last8 0) k_16 h_83 ⟨⟩) (k_16 undef h_83) ⟨⟩ ⟨⟩) (fun t105 h_84 => 
 Join1 (fun k_17 h_85 => guardP t102 true (Hp Try.prog false (Instr.loadAt 2 t105) k_17 h_85 ⟨⟩) (k_17 undef h_85) ⟨⟩ ⟨⟩) (fun t106 h_86 => 
 Join1 (fun k_18 h_87 => guardP t102 true (Hp Try.prog false (binS .leq 2 (.tmp 104) (.tmp 106) t104 t106) k_18 h_87 ⟨⟩) (k_18 undef h_87) ⟨⟩ ⟨⟩) (fun t107 h_88 => 
 Join1 (fun k_19 h_89 => guardP t95 false (Hp Try.prog false (pickS t102 t107 (.bool false)) k_19 h_89 ⟨⟩) (k_19 undef h_89) ⟨⟩ ⟨⟩) (fun t108 h_90 => 
 Hp Try.prog false (pickS t95 (.bool true) t108) (fun t109 h_91 => 
 Join1 (fun k_20 h_92 => guardP t109 false (k_20 t58 h_92) (k_20 undef h_92) ⟨⟩ ⟨⟩) (fun t111 h_93 => 
 Join1 (fun k_21 h_94 => guardP t109 false (Hp Try.prog false (Instr.fieldAt 24 x10 1) k_21 h_94 ⟨⟩) (k_21 undef h_94) ⟨⟩ ⟨⟩) (fun t112 h_95 => 
 Join1 (fun k_22 h_96 => guardP t109 false (Hp Try.prog false (Instr.loadAt 2 t112) k_22 h_96 ⟨⟩) (k_22 undef h_96) ⟨⟩ ⟨⟩) (fun t113 h_97 => 
 Join1 (fun k_23 h_98 => guardP t109 false (Hp Try.prog false (binS .neq 2 (.tmp 111) (.tmp 113) t111 t113) k_23 h_98 ⟨⟩) (k_23 undef h_98) ⟨⟩ ⟨⟩) (fun t114 h_99 => 
 Hp Try.prog false (pickS t109 (.bool true) t114) (fun t115 h_100 => 
 Join1 (fun k_24 h_101 => guardP t115 false (k_24 t78 h_101) (k_24 undef h_101) ⟨⟩ ⟨⟩) (fun t117 h_102 => 
 Join1 (fun k_25 h_103 => guardP t115 false (Hp Try.prog false (Instr.fieldAt 24 x10 1) k_25 h_103 ⟨⟩) (k_25 undef h_103) ⟨⟩ ⟨⟩) (fun t118 h_104 => 
 Join1 (fun k_26 h_105 => guardP t115 false (Hp Try.prog false (Instr.loadAt 2 t118) k_26 h_105 ⟨⟩) (k_26 undef h_105) ⟨⟩ ⟨⟩) (fun t119 h_106 => 
 Join1 (fun k_27 h_107 => guardP t115 false (Hp Try.prog false (binS .neq 2 (.tmp 117) (.tmp 119) t117 t119) k_27 h_107 ⟨⟩) (k_27 undef h_107) ⟨⟩ ⟨⟩) (fun t120 h_108 => 
 Hp Try.prog false (pickS t115 (.bool true) t120) (fun t121 h_109 => 
 CondP t121 (
 R (.bool false) h_109) (
 Hp Try.prog false (Instr.fieldAt 24 x10 1) (fun t123 h_110 => 
 Hp Try.prog false (Instr.loadAt 2 t123) (fun t124 h_111 => 
 Hp Try.prog false (binS .sub 2 (.tmp 122) (.tmp 124) size7 t124) (fun t125 h_112 => 
 Hp Try.prog false (Instr.loadAt 24 x10) (fun t126 h_113 => 
 Hp Try.prog false (storeS 24 last8 t126) (fun _ h_114 => 
 Hp Try.prog false (binS .add 3 (.tmp 47) (.const (.int .i64 1)) i9 (.int .i64 1)) (fun t48 h_115 => 
 X t125 t48 h_115) h_114 ⟨⟩) h_113 ⟨⟩) h_112 ⟨⟩) h_111 ⟨⟩) h_110 ⟨⟩) h_109 ⟨⟩) ⟨⟩ ⟨⟩) h_108 ⟨⟩) h_106 ⟨⟩ ⟨⟩) h_104 ⟨⟩ ⟨⟩) h_102 ⟨⟩ ⟨⟩) h_100 ⟨⟩ ⟨⟩) h_99 ⟨⟩) h_97 ⟨⟩ ⟨⟩) h_95 ⟨⟩ ⟨⟩) h_93 ⟨⟩ ⟨⟩) h_91 ⟨⟩ ⟨⟩) h_90 ⟨⟩) h_88 ⟨⟩ ⟨⟩) h_86 ⟨⟩ ⟨⟩) h_84 ⟨⟩ ⟨⟩) h_82 ⟨⟩ ⟨⟩) h_80 ⟨⟩ ⟨⟩) h_78 ⟨⟩ ⟨⟩) h_76 ⟨⟩ ⟨⟩) h_74 ⟨⟩ ⟨⟩) h_72 ⟨⟩ ⟨⟩) h_70 ⟨⟩ ⟨⟩) h_68 ⟨⟩ ⟨⟩) h_66 ⟨⟩ ⟨⟩) h_65 ⟨⟩) h_63 ⟨⟩ ⟨⟩) h_61 ⟨⟩ ⟨⟩) h_59 ⟨⟩ ⟨⟩) h_57 ⟨⟩ ⟨⟩) h_55 ⟨⟩ ⟨⟩) h_54 ⟨⟩) h_53 ⟨⟩) ⟨⟩) h_51 ⟨⟩) ⟨⟩) ⟨⟩) h_48 ⟨⟩) h_47 ⟨⟩) ⟨⟩) h_45 ⟨⟩) h_44 ⟨⟩) h_43 ⟨⟩) h_42 ⟨⟩) h_41 ⟨⟩) h_40 ⟨⟩) h_39 ⟨⟩) h_38 ⟨⟩) h_37 ⟨⟩) h_36 ⟨⟩) h_35 ⟨⟩) h_34 ⟨⟩) h_33 ⟨⟩) h_32 ⟨⟩) h_31 ⟨⟩) ⟨⟩) h_29 ⟨⟩) h_28 ⟨⟩) h_27 ⟨⟩) h_26 ⟨⟩) h_25 ⟨⟩) ⟨⟩) (
 CallsH Try.prog 16 #[t27] h_24 (fun t129 h_116 => 
 Hp Try.prog false (Instr.extract t129 0) (fun t130 h_117 => 
 Hp Try.prog false (Instr.extract t129 1) (fun t131 h_118 => 
 Hp Try.prog false (Instr.alloc 24 true undef) (fun t17 h_119 => 
 Hp Try.prog false (storeS 24 t17 t130) (fun _ h_120 => 
 CallsH Try.prog 9 #[t131] h_120 (fun t133 h_121 => 
 Hp Try.prog false (binS .eql 3 (.tmp 133) (.const (.int .i64 7)) t133 (.int .i64 7)) (fun t134 h_122 => 
 Join1 (fun k_28 h_123 => guardP t134 true (k_28 size7 h_123) (k_28 undef h_123) ⟨⟩ ⟨⟩) (fun t136 h_124 => 
 Join1 (fun k_29 h_125 => guardP t134 true (Hp Try.prog false (binS .eql 2 (.tmp 136) (.const (.int .i64 0)) t136 (.int .i64 0)) k_29 h_125 ⟨⟩) (k_29 undef h_125) ⟨⟩ ⟨⟩) (fun t137 h_126 => 
 Hp Try.prog false (pickS t134 t137 (.bool false)) (fun t138 h_127 => 
 Join1 (fun k_30 h_128 => guardP t138 true (CallsH Try.prog 13 #[] h_128 k_30 ⟨⟩) (k_30 undef h_128) ⟨⟩ ⟨⟩) (fun t140 h_129 => 
 Hp Try.prog false (pickS t138 t140 (.bool false)) (fun t141 h_130 => 
 R t141 h_130) h_129 ⟨⟩) h_127 ⟨⟩ ⟨⟩) h_126 ⟨⟩) h_124 ⟨⟩ ⟨⟩) h_122 ⟨⟩ ⟨⟩) h_121 ⟨⟩) ⟨⟩) h_119 ⟨⟩) h_118 ⟨⟩) h_117 ⟨⟩) h_116 ⟨⟩) ⟨⟩) ⟨⟩ ⟨⟩) h_23 ⟨⟩) [t42, (.int .i64 0)] h_22 ⟨⟩) h_21 ⟨⟩) h_20 ⟨⟩) h_19 ⟨⟩) h_18 ⟨⟩) h_17 ⟨⟩) ⟨⟩) ⟨⟩) ⟨⟩ ⟨⟩) h_14 ⟨⟩) h_12 ⟨⟩ ⟨⟩) h_10 ⟨⟩ ⟨⟩) h_8 ⟨⟩ ⟨⟩) h_7 ⟨⟩) h_6 ⟨⟩) h_5 ⟨⟩) ⟨⟩) ⟨⟩) ⟨⟩ ⟨⟩) h_1 ⟨⟩) h ⟨⟩

theorem n4_calls {l0 : Value} {R : Value → Heap → Prop} {h : Heap} (H : n4 l0 R h) : CallsH Try.prog 4 #[l0] h R ⟨⟩ :=
 callsH_of_eq Try.follow (.n none .l (.n none .l (.n none .l (.n none .l (.n none .l (.n none .l (.n none .l (.n none (.n none .l (.n none (.n (some [8, 10]) .l .l) .l)) .l)))))))) Try.func4 (by kernel_rfl) (by kernel_rfl) (by kernel_rfl) H

/-- palimpsest/palimpsestlaw13.LaterDrained -/
def n5 (l0 most1 x2 : Value) (R : Value → Heap → Prop) (h : Heap) : Prop :=
 Hp Try.prog false (Instr.box 24 x2) (fun x5 h_1 => 
 Hp Try.prog false (Instr.alloc 4 true undef) (fun t6 h_2 => 
 Hp Try.prog false (Builtin.len_ #[22] 3 #[l0]) (fun t34 h_3 => 
 Hp Try.prog false (binS .gtr 3 (.tmp 34) (.const (.int .i64 60)) t34 (.int .i64 60)) (fun t35 h_4 => 
 Join1 (fun k h_5 => guardP t35 false (k most1 h_5) (k undef h_5) ⟨⟩ ⟨⟩) (fun t37 h_6 => 
 Join1 (fun k_1 h_7 => guardP t35 false (Hp Try.prog false (binS .lss 2 (.tmp 37) (.const (.int .i64 1)) t37 (.int .i64 1)) k_1 h_7 ⟨⟩) (k_1 undef h_7) ⟨⟩ ⟨⟩) (fun t38 h_8 => 
 Hp Try.prog false (pickS t35 (.bool true) t38) (fun t39 h_9 => 
 CondP t39 (
 CallsH Try.prog 13 #[] h_9 (fun t40 h_10 => 
 Hp Try.prog false (storeS 4 t6 t40) (fun _ h_11 => 
 RetD (.tuple #[]) h_11 (fun h_12 =>
 Hp Try.prog true (loadCell 4 t6) (fun r _ =>
 R r h_12) h_12 ⟨⟩) ⟨⟩) h_10 ⟨⟩) ⟨⟩) (
 Hp Try.prog false (Instr.alloc 22 true undef) (fun some7 h_13 => 
 LoopC 1 (fun (X : Value → Heap → Prop) => fun i8 h_14 =>
 Hp Try.prog false (Builtin.len_ #[22] 3 #[l0]) (fun t43 h_15 => 
 Hp Try.prog false (binS .lss 3 (.tmp 41) (.tmp 43) i8 t43) (fun t44 h_16 => 
 CondP t44 (
 JoinN 0 (fun (k_2 : Heap → Prop) h_17 =>
 JoinN 0 (fun (k_3 : Heap → Prop) h_18 =>
 Hp Try.prog false (Instr.indexAt 22 l0 i8) (fun t49 h_19 => 
 Hp Try.prog false (Instr.loadAt 24 t49) (fun t50 h_20 => 
 CallsH Try.prog 18 #[t50] h_20 (fun t51 h_21 => 
 Join1 (fun k_4 h_22 => guardP t51 true (k_4 l0 h_22) (k_4 undef h_22) ⟨⟩ ⟨⟩) (fun t53 h_23 => 
 Join1 (fun k_5 h_24 => guardP t51 true (k_5 i8 h_24) (k_5 undef h_24) ⟨⟩ ⟨⟩) (fun t54 h_25 => 
 Join1 (fun k_6 h_26 => guardP t51 true (Hp Try.prog false (Instr.indexAt 22 t53 t54) k_6 h_26 ⟨⟩) (k_6 undef h_26) ⟨⟩ ⟨⟩) (fun t55 h_27 => 
 Join1 (fun k_7 h_28 => guardP t51 true (Hp Try.prog false (Instr.fieldAt 24 t55 1) k_7 h_28 ⟨⟩) (k_7 undef h_28) ⟨⟩ ⟨⟩) (fun t56 h_29 => 
 Join1 (fun k_8 h_30 => guardP t51 true (Hp Try.prog false (Instr.loadAt 2 t56) k_8 h_30 ⟨⟩) (k_8 undef h_30) ⟨⟩ ⟨⟩) (fun t57 h_31 => 
 Join1 (fun k_9 h_32 => guardP t51 true (Hp Try.prog false (binS .lss 2 (.tmp 57) (.const (.int .i64 1000000)) t57 (.int .i64 1000000)) k_9 h_32 ⟨⟩) (k_9 undef h_32) ⟨⟩ ⟨⟩) (fun t58 h_33 => 
 Hp Try.prog false (pickS t51 t58 (.bool false)) (fun t59 h_34 => 
 CondP t59 (
 Hp Try.prog true (Instr.loadAt 22 some7) (fun t60 _ => 
 Hp Try.prog true (Instr.indexAt 22 l0 i8) (fun t63 _ => 
 Hp Try.prog true (Instr.loadAt 24 t63) (fun t64 _ => 
 Hp Try.prog false (Instr.buildSlice 22 1 #[(0, t64)]) (fun t65 h_35 => Hp Try.prog true (Instr.loadAt 22 some7) (fun u _ => u = t60) h_35 ⟨⟩ ∧ 
 Hp Try.prog false (Builtin.append_ #[22, 22] 22 #[t60, t65]) (fun t66 h_36 => 
 Hp Try.prog false (storeS 22 some7 t66) (fun _ h_37 => 
 k_3 h_37) h_36 ⟨⟩) h_35 ⟨⟩) h_34 ⟨⟩) h_34 ⟨⟩) #[] ⟨⟩) h_34 ⟨⟩) (
 k_3 h_34) ⟨⟩ ⟨⟩) h_33 ⟨⟩) h_31 ⟨⟩ ⟨⟩) h_29 ⟨⟩ ⟨⟩) h_27 ⟨⟩ ⟨⟩) h_25 ⟨⟩ ⟨⟩) h_23 ⟨⟩ ⟨⟩) h_21 ⟨⟩ ⟨⟩) ⟨⟩) h_19 ⟨⟩) h_18 ⟨⟩)
 (fun h_38 =>
 k_2 h_38) h_17 ⟨⟩ ⟨⟩)
 (fun h_39 =>
 Hp Try.prog false (binS .add 3 (.tmp 45) (.const (.int .i64 1)) i8 (.int .i64 1)) (fun t46 h_40 => 
 X t46 h_40) h_39 ⟨⟩) h_16 ⟨⟩ ⟨⟩) (
 Hp Try.prog false (Instr.loadAt 22 some7) (fun t68 h_41 => 
 CallsH Try.prog 8 #[t68] h_41 (fun t69 h_42 => 
 Hp Try.prog false (Instr.extract t69 0) (fun t70 h_43 => 
 Hp Try.prog false (Instr.extract t69 1) (fun t71 h_44 => 
 CallsH Try.prog 8 #[(.slice none 0 0)] h_44 (fun t73 h_45 => 
 Hp Try.prog false (Instr.extract t73 0) (fun t74 h_46 => 
 Hp Try.prog false (Instr.extract t73 1) (fun t75 h_47 => 
 Hp Try.prog false (binS .eql 25 (.tmp 76) (.const (.pointer none)) t70 (.pointer none)) (fun t77 h_48 => 
 Join1 (fun k_10 h_49 => guardP t77 false (k_10 t74 h_49) (k_10 undef h_49) ⟨⟩ ⟨⟩) (fun t79 h_50 => 
 Join1 (fun k_11 h_51 => guardP t77 false (Hp Try.prog false (binS .eql 25 (.tmp 79) (.const (.pointer none)) t79 (.pointer none)) k_11 h_51 ⟨⟩) (k_11 undef h_51) ⟨⟩ ⟨⟩) (fun t80 h_52 => 
 Hp Try.prog false (pickS t77 (.bool true) t80) (fun t81 h_53 => 
 Join1 (fun k_12 h_54 => guardP t81 false (k_12 t71 h_54) (k_12 undef h_54) ⟨⟩ ⟨⟩) (fun t83 h_55 => 
 Join1 (fun k_13 h_56 => guardP t81 false (CallsH Try.prog 9 #[t83] h_56 k_13 ⟨⟩) (k_13 undef h_56) ⟨⟩ ⟨⟩) (fun t84 h_57 => 
 Join1 (fun k_14 h_58 => guardP t81 false (k_14 t75 h_58) (k_14 undef h_58) ⟨⟩ ⟨⟩) (fun t85 h_59 => 
 Join1 (fun k_15 h_60 => guardP t81 false (CallsH Try.prog 9 #[t85] h_60 k_15 ⟨⟩) (k_15 undef h_60) ⟨⟩ ⟨⟩) (fun t86 h_61 => 
 Join1 (fun k_16 h_62 => guardP t81 false (Hp Try.prog false (binS .add 3 (.tmp 84) (.tmp 86) t84 t86) k_16 h_62 ⟨⟩) (k_16 undef h_62) ⟨⟩ ⟨⟩) (fun t87 h_63 => 
 Join1 (fun k_17 h_64 => guardP t81 false (Hp Try.prog false (binS .neq 3 (.tmp 87) (.const (.int .i64 0)) t87 (.int .i64 0)) k_17 h_64 ⟨⟩) (k_17 undef h_64) ⟨⟩ ⟨⟩) (fun t88 h_65 => 
 Hp Try.prog false (pickS t81 (.bool true) t88) (fun t89 h_66 => 
 CondP t89 (
 Hp Try.prog false (storeS 4 t6 (.bool false)) (fun _ h_67 => 
 RetD (.tuple #[]) h_67 (fun h_68 =>
 Hp Try.prog true (loadCell 4 t6) (fun r_1 _ =>
 R r_1 h_68) h_68 ⟨⟩) ⟨⟩) h_66 ⟨⟩) (
 Hp Try.prog false (Instr.alloc 2 true undef) (fun total13 h_69 => 
 Hp Try.prog false (storeS 2 total13 (.int .i64 0)) (fun _ h_70 => 
 Hp Try.prog false (Instr.loadAt 22 some7) (fun t90 h_71 => 
 Hp Try.prog false (Builtin.len_ #[22] 3 #[t90]) (fun t91 h_72 => 
 Hp Try.prog false (binS .sub 3 (.tmp 91) (.const (.int .i64 1)) t91 (.int .i64 1)) (fun t92 h_73 => 
 LoopC 1 (fun (X_1 : Value → Heap → Prop) => fun i14 h_74 =>
 Hp Try.prog false (binS .geq 3 (.tmp 93) (.const (.int .i64 0)) i14 (.int .i64 0)) (fun t94 h_75 => 
 CondP t94 (
 Hp Try.prog true (Instr.loadAt 22 some7) (fun t99 _ => 
 Hp Try.prog true (Instr.indexAt 22 t99 i14) (fun t101 _ => 
 Hp Try.prog true (Instr.fieldAt 24 t101 0) (fun t102 _ => 
 Hp Try.prog true (Instr.loadAt 2 t102) (fun t103 _ => 
 Hp Try.prog true (Instr.loadAt 22 some7) (fun t104 _ => 
 Hp Try.prog true (Instr.indexAt 22 t104 i14) (fun t106 _ => 
 Hp Try.prog true (Instr.fieldAt 24 t106 1) (fun t107 _ => 
 Hp Try.prog true (Instr.loadAt 2 t107) (fun t108 _ => 
 Hp Try.prog true (binS .add 2 (.tmp 108) (.const (.int .i64 1)) t108 (.int .i64 1)) (fun t109 _ => 
 Hp Try.prog true (binS .quo 2 (.tmp 109) (.const (.int .i64 2)) t109 (.int .i64 2)) (fun t110 _ => 
 Hp Try.prog true (Instr.build 24 #[(0, t103), (1, t110)]) (fun t111 _ => 
 Hp Try.prog false (Instr.buildSlice 22 1 #[(0, t111)]) (fun t112 h_76 => 
 CallsH Try.prog 10 #[t74, t112] h_76 (fun t113 h_77 => 
 Hp Try.prog true (Instr.extract t113 0) (fun t114 _ => 
 Hp Try.prog true (Instr.extract t113 1) (fun t115 _ => 
 Hp Try.prog false (Instr.loadAt 22 some7) (fun t118 h_78 => 
 Hp Try.prog false (Instr.indexAt 22 t118 i14) (fun t120 h_79 => 
 Hp Try.prog false (Instr.loadAt 24 t120) (fun t121 h_80 => 
 Hp Try.prog false (Instr.buildSlice 22 1 #[(0, t121)]) (fun t122 h_81 => 
 CallsH Try.prog 10 #[t74, t122] h_81 (fun t123 h_82 => 
 Hp Try.prog false (Instr.extract t123 0) (fun t124 h_83 => 
 Hp Try.prog false (Instr.extract t123 1) (fun t125 h_84 => 
 CallsH Try.prog 9 #[t115] h_84 (fun t127 h_85 => 
 CallsH Try.prog 9 #[t125] h_85 (fun t129 h_86 => 
 Hp Try.prog false (binS .add 3 (.tmp 127) (.tmp 129) t127 t129) (fun t130 h_87 => 
 Hp Try.prog false (binS .neq 3 (.tmp 130) (.const (.int .i64 0)) t130 (.int .i64 0)) (fun t131 h_88 => 
 CondP t131 (
 Hp Try.prog false (storeS 4 t6 (.bool false)) (fun _ h_89 => 
 RetD (.tuple #[]) h_89 (fun h_90 =>
 Hp Try.prog true (loadCell 4 t6) (fun r_2 _ =>
 R r_2 h_90) h_90 ⟨⟩) ⟨⟩) h_88 ⟨⟩) (
 Hp Try.prog false (Instr.loadAt 2 total13) (fun t132 h_91 => 
 Hp Try.prog false (binS .add 2 (.tmp 132) (.tmp 133) t132 t114) (fun t134 h_92 => 
 Hp Try.prog false (binS .add 2 (.tmp 134) (.tmp 135) t134 t124) (fun t136 h_93 => 
 Hp Try.prog false (storeS 2 total13 t136) (fun _ h_94 => 
 Hp Try.prog false (binS .sub 3 (.tmp 95) (.const (.int .i64 1)) i14 (.int .i64 1)) (fun t96 h_95 => 
 X_1 t96 h_95) h_94 ⟨⟩) h_93 ⟨⟩) h_92 ⟨⟩) h_91 ⟨⟩) h_88 ⟨⟩) ⟨⟩ ⟨⟩) h_87 ⟨⟩) h_86 ⟨⟩) ⟨⟩) ⟨⟩) h_83 ⟨⟩) h_82 ⟨⟩) ⟨⟩) h_80 ⟨⟩) h_79 ⟨⟩) h_78 ⟨⟩) h_77 ⟨⟩) #[] ⟨⟩) #[] ⟨⟩) ⟨⟩) h_75 ⟨⟩) #[] ⟨⟩) #[] ⟨⟩) #[] ⟨⟩) h_75 ⟨⟩) #[] ⟨⟩) #[] ⟨⟩) h_75 ⟨⟩) h_75 ⟨⟩) #[] ⟨⟩) #[] ⟨⟩) h_75 ⟨⟩) (
 CallsH Try.prog 12 #[t70] h_75 (fun t139 h_96 => 
 Hp Try.prog false (Instr.extract t139 0) (fun t140 h_97 => 
 Hp Try.prog false (Instr.extract t139 1) (fun t141 h_98 => 
 CallsH Try.prog 19 #[t70, t74] h_98 (fun t144 h_99 => 
 Hp Try.prog false (Op.unary .not t144) (fun t145 h_100 => 
 Join1 (fun k_18 h_101 => guardP t145 false (k_18 t141 h_101) (k_18 undef h_101) ⟨⟩ ⟨⟩) (fun t147 h_102 => 
 Join1 (fun k_19 h_103 => guardP t145 false (Hp Try.prog false (Instr.loadAt 2 total13) k_19 h_103 ⟨⟩) (k_19 undef h_103) ⟨⟩ ⟨⟩) (fun t148 h_104 => 
 Join1 (fun k_20 h_105 => guardP t145 false (Hp Try.prog false (binS .neq 2 (.tmp 147) (.tmp 148) t147 t148) k_20 h_105 ⟨⟩) (k_20 undef h_105) ⟨⟩ ⟨⟩) (fun t149 h_106 => 
 Hp Try.prog false (pickS t145 (.bool true) t149) (fun t150 h_107 => 
 CondP t150 (
 Hp Try.prog false (storeS 4 t6 (.bool false)) (fun _ h_108 => 
 RetD (.tuple #[]) h_108 (fun h_109 =>
 Hp Try.prog true (loadCell 4 t6) (fun r_3 _ =>
 R r_3 h_109) h_109 ⟨⟩) ⟨⟩) h_107 ⟨⟩) (
 JoinN 0 (fun (k_21 : Heap → Prop) h_110 =>
 Hp Try.prog false (Instr.loadAt 24 x5) (fun t151 h_111 => 
 CallsH Try.prog 18 #[t151] h_111 (fun t152 h_112 => 
 CondP t152 (
 Hp Try.prog false (Instr.loadAt 24 x5) (fun t155 h_113 => 
 CallsH Try.prog 17 #[t70, t155] h_113 (fun t156 h_114 => 
 Hp Try.prog false (Instr.extract t156 0) (fun t157 h_115 => 
 Hp Try.prog false (Instr.extract t156 1) (fun t158 h_116 => 
 Hp Try.prog false (Instr.loadAt 24 x5) (fun t161 h_117 => 
 CallsH Try.prog 11 #[t70, t161] h_117 (fun t162 h_118 => 
 Hp Try.prog false (Instr.extract t162 0) (fun t163 h_119 => 
 Hp Try.prog false (Instr.extract t162 1) (fun t164 h_120 => 
 Hp Try.prog false (Instr.loadAt 24 x5) (fun t167 h_121 => 
 CallsH Try.prog 17 #[t70, t167] h_121 (fun t168 h_122 => 
 Hp Try.prog false (Instr.extract t168 0) (fun t169 h_123 => 
 Hp Try.prog false (Instr.extract t168 1) (fun t170 h_124 => 
 CallsH Try.prog 9 #[t158] h_124 (fun t172 h_125 => 
 CallsH Try.prog 9 #[t164] h_125 (fun t174 h_126 => 
 Hp Try.prog false (binS .add 3 (.tmp 172) (.tmp 174) t172 t174) (fun t175 h_127 => 
 CallsH Try.prog 9 #[t170] h_127 (fun t177 h_128 => 
 Hp Try.prog false (binS .add 3 (.tmp 175) (.tmp 177) t175 t177) (fun t178 h_129 => 
 Hp Try.prog false (binS .neq 3 (.tmp 178) (.const (.int .i64 0)) t178 (.int .i64 0)) (fun t179 h_130 => 
 Join1 (fun k_22 h_131 => guardP t179 false (k_22 t157 h_131) (k_22 undef h_131) ⟨⟩ ⟨⟩) (fun t181 h_132 => 
 Join1 (fun k_23 h_133 => guardP t179 false (k_23 t163 h_133) (k_23 undef h_133) ⟨⟩ ⟨⟩) (fun t182 h_134 => 
 Join1 (fun k_24 h_135 => guardP t179 false (Hp Try.prog false (binS .neq 2 (.tmp 181) (.tmp 182) t181 t182) k_24 h_135 ⟨⟩) (k_24 undef h_135) ⟨⟩ ⟨⟩) (fun t183 h_136 => 
 Hp Try.prog false (pickS t179 (.bool true) t183) (fun t184 h_137 => 
 Join1 (fun k_25 h_138 => guardP t184 false (k_25 t169 h_138) (k_25 undef h_138) ⟨⟩ ⟨⟩) (fun t186 h_139 => 
 Join1 (fun k_26 h_140 => guardP t184 false (Hp Try.prog false (binS .neq 2 (.tmp 186) (.const (.int .i64 0)) t186 (.int .i64 0)) k_26 h_140 ⟨⟩) (k_26 undef h_140) ⟨⟩ ⟨⟩) (fun t187 h_141 => 
 Hp Try.prog false (pickS t184 (.bool true) t187) (fun t188 h_142 => 
 CondP t188 (
 Hp Try.prog false (storeS 4 t6 (.bool false)) (fun _ h_143 => 
 RetD (.tuple #[]) h_143 (fun h_144 =>
 Hp Try.prog true (loadCell 4 t6) (fun r_4 _ =>
 R r_4 h_144) h_144 ⟨⟩) ⟨⟩) h_142 ⟨⟩) (
 k_21 h_142) ⟨⟩ ⟨⟩) h_141 ⟨⟩) h_139 ⟨⟩ ⟨⟩) h_137 ⟨⟩ ⟨⟩) h_136 ⟨⟩) h_134 ⟨⟩ ⟨⟩) h_132 ⟨⟩ ⟨⟩) h_130 ⟨⟩ ⟨⟩) h_129 ⟨⟩) h_128 ⟨⟩) ⟨⟩) h_126 ⟨⟩) ⟨⟩) ⟨⟩) h_123 ⟨⟩) h_122 ⟨⟩) ⟨⟩) h_120 ⟨⟩) h_119 ⟨⟩) h_118 ⟨⟩) ⟨⟩) h_116 ⟨⟩) h_115 ⟨⟩) h_114 ⟨⟩) ⟨⟩) h_112 ⟨⟩) (
 k_21 h_112) ⟨⟩ ⟨⟩) ⟨⟩) h_110 ⟨⟩)
 (fun h_145 =>
 Hp Try.prog false (Instr.loadAt 2 total13) (fun t190 h_146 => 
 Hp Try.prog false (binS .quo 2 (.tmp 190) (.const (.int .i64 1000)) t190 (.int .i64 1000)) (fun t191 h_147 => 
 Hp Try.prog false (binS .add 2 (.const (.int .i64 1)) (.tmp 191) (.int .i64 1) t191) (fun t192 h_148 => 
 Hp Try.prog false (Builtin.max_ #[2, 2] 2 #[most1, t192]) (fun t193 h_149 => 
 Hp Try.prog false (Instr.alloc 2 true undef) (fun bound27 h_150 => 
 Hp Try.prog false (storeS 2 bound27 t193) (fun _ h_151 => 
 Hp Try.prog false (Instr.loadAt 2 bound27) (fun t195 h_152 => 
 CallsH Try.prog 20 #[t74, t195] h_152 (fun t196 h_153 => 
 Hp Try.prog false (binS .eql 44 (.tmp 197) (.const .nilFunc) t196 .nilFunc) (fun t198 h_154 => 
 CondP t198 (
 Hp Try.prog false (storeS 4 t6 (.bool false)) (fun _ h_155 => 
 RetD (.tuple #[]) h_155 (fun h_156 =>
 Hp Try.prog true (loadCell 4 t6) (fun r_5 _ =>
 R r_5 h_156) h_156 ⟨⟩) ⟨⟩) h_154 ⟨⟩) (
 Hp Try.prog false (Instr.alloc 2 true undef) (fun at29 h_157 => 
 Hp Try.prog false (storeS 2 at29 (.int .i64 (-1))) (fun _ h_158 => 
 JoinN 1 (fun (k_27 : Value → Heap → Prop) h_159 =>
 JoinN 1 (fun (k_28 : Value → Heap → Prop) h_160 =>
 RangeC Try.prog none t196 1 (.tuple #[]) (fun l args bg Nb Jb h_161 =>
 Hp Try.prog false (Instr.alloc 24 true undef) (fun y30 h_163 => 
 Hp Try.prog false (storeS 24 y30 (getV args 0)) (fun _ h_164 => 
 bg (fun h_162 =>
 Hp Try.prog false (Instr.fieldAt 24 y30 0) (fun t201 h_165 => 
 Hp Try.prog false (Instr.loadAt 2 t201) (fun t202 h_166 => 
 Hp Try.prog false (Instr.loadAt 2 at29) (fun t203 h_167 => 
 Hp Try.prog false (binS .leq 2 (.tmp 202) (.tmp 203) t202 t203) (fun t204 h_168 => 
 Join1 (fun k_29 h_169 => guardP t204 false (Hp Try.prog false (Instr.fieldAt 24 y30 1) k_29 h_169 ⟨⟩) (k_29 undef h_169) ⟨⟩ ⟨⟩) (fun t206 h_170 => 
 Join1 (fun k_30 h_171 => guardP t204 false (Hp Try.prog false (Instr.loadAt 2 t206) k_30 h_171 ⟨⟩) (k_30 undef h_171) ⟨⟩ ⟨⟩) (fun t207 h_172 => 
 Join1 (fun k_31 h_173 => guardP t204 false (Hp Try.prog false (binS .lss 2 (.tmp 207) (.const (.int .i64 1)) t207 (.int .i64 1)) k_31 h_173 ⟨⟩) (k_31 undef h_173) ⟨⟩ ⟨⟩) (fun t208 h_174 => 
 Hp Try.prog false (pickS t204 (.bool true) t208) (fun t209 h_175 => 
 Join1 (fun k_32 h_176 => guardP t209 false (Hp Try.prog false (Instr.fieldAt 24 y30 1) k_32 h_176 ⟨⟩) (k_32 undef h_176) ⟨⟩ ⟨⟩) (fun t211 h_177 => 
 Join1 (fun k_33 h_178 => guardP t209 false (Hp Try.prog false (Instr.loadAt 2 t211) k_33 h_178 ⟨⟩) (k_33 undef h_178) ⟨⟩ ⟨⟩) (fun t212 h_179 => 
 Join1 (fun k_34 h_180 => guardP t209 false (Hp Try.prog false (Instr.loadAt 2 bound27) k_34 h_180 ⟨⟩) (k_34 undef h_180) ⟨⟩ ⟨⟩) (fun t213 h_181 => 
 Join1 (fun k_35 h_182 => guardP t209 false (Hp Try.prog false (binS .gtr 2 (.tmp 212) (.tmp 213) t212 t213) k_35 h_182 ⟨⟩) (k_35 undef h_182) ⟨⟩ ⟨⟩) (fun t214 h_183 => 
 Hp Try.prog false (pickS t209 (.bool true) t214) (fun t215 h_184 => 
 CondP t215 (
 Hp Try.prog false (storeS 4 t6 (.bool false)) (fun _ h_185 => 
 Jb .ret h_185) h_184 ⟨⟩) (
 Hp Try.prog false (Instr.fieldAt 24 y30 0) (fun t216 h_186 => 
 Hp Try.prog false (Instr.loadAt 2 t216) (fun t217 h_187 => 
 Hp Try.prog false (Instr.fieldAt 24 y30 1) (fun t218 h_188 => 
 Hp Try.prog false (Instr.loadAt 2 t218) (fun t219 h_189 => 
 Hp Try.prog false (binS .add 2 (.tmp 217) (.tmp 219) t217 t219) (fun t220 h_190 => 
 Hp Try.prog false (binS .sub 2 (.tmp 220) (.const (.int .i64 1)) t220 (.int .i64 1)) (fun t221 h_191 => 
 Hp Try.prog false (storeS 2 at29 t221) (fun _ h_192 => 
 Hp Try.prog false (Instr.loadAt 2 total13) (fun t222 h_193 => 
 Hp Try.prog false (Instr.fieldAt 24 y30 1) (fun t223 h_194 => 
 Hp Try.prog false (Instr.loadAt 2 t223) (fun t224 h_195 => 
 Hp Try.prog false (binS .sub 2 (.tmp 222) (.tmp 224) t222 t224) (fun t225 h_196 => 
 Hp Try.prog false (storeS 2 total13 t225) (fun _ h_197 => 
 Hp Try.prog false (Instr.loadAt 22 some7) (fun t226 h_198 => 
 Hp Try.prog false (Instr.fieldAt 24 y30 0) (fun t227 h_199 => 
 Hp Try.prog false (Instr.loadAt 2 t227) (fun t228 h_200 => 
 CallsH Try.prog 21 #[t226, t228] h_200 (fun t229 h_201 => 
 Hp Try.prog false (Op.unary .not t229) (fun t230 h_202 => 
 Join1 (fun k_36 h_203 => guardP t230 false (Hp Try.prog false (Instr.loadAt 22 some7) k_36 h_203 ⟨⟩) (k_36 undef h_203) ⟨⟩ ⟨⟩) (fun t232 h_204 => 
 Join1 (fun k_37 h_205 => guardP t230 false (Hp Try.prog false (Instr.loadAt 2 at29) k_37 h_205 ⟨⟩) (k_37 undef h_205) ⟨⟩ ⟨⟩) (fun t233 h_206 => 
 Join1 (fun k_38 h_207 => guardP t230 false (CallsH Try.prog 21 #[t232, t233] h_207 k_38 ⟨⟩) (k_38 undef h_207) ⟨⟩ ⟨⟩) (fun t234 h_208 => 
 Join1 (fun k_39 h_209 => guardP t230 false (Hp Try.prog false (Op.unary .not t234) k_39 h_209 ⟨⟩) (k_39 undef h_209) ⟨⟩ ⟨⟩) (fun t235 h_210 => 
 Hp Try.prog false (pickS t230 (.bool true) t235) (fun t236 h_211 => 
 CondP t236 (
 Hp Try.prog false (storeS 4 t6 (.bool false)) (fun _ h_212 => 
 Jb .ret h_212) h_211 ⟨⟩) (
 Nb h_211) ⟨⟩ ⟨⟩) h_210 ⟨⟩) h_208 ⟨⟩ ⟨⟩) h_206 ⟨⟩ ⟨⟩) h_204 ⟨⟩ ⟨⟩) h_202 ⟨⟩ ⟨⟩) h_201 ⟨⟩) ⟨⟩) h_199 ⟨⟩) h_198 ⟨⟩) h_197 ⟨⟩) h_196 ⟨⟩) h_195 ⟨⟩) h_194 ⟨⟩) h_193 ⟨⟩) h_192 ⟨⟩) h_191 ⟨⟩) h_190 ⟨⟩) h_189 ⟨⟩) h_188 ⟨⟩) h_187 ⟨⟩) h_186 ⟨⟩) h_184 ⟨⟩) ⟨⟩ ⟨⟩) h_183 ⟨⟩) h_181 ⟨⟩ ⟨⟩) h_179 ⟨⟩ ⟨⟩) h_177 ⟨⟩ ⟨⟩) h_175 ⟨⟩ ⟨⟩) h_174 ⟨⟩) h_172 ⟨⟩ ⟨⟩) h_170 ⟨⟩ ⟨⟩) h_168 ⟨⟩ ⟨⟩) h_167 ⟨⟩) h_166 ⟨⟩) h_165 ⟨⟩) h_162 ⟨⟩) h_164) h_163 ⟨⟩) h_161 ⟨⟩)
 (fun D h_213 =>
 k_28 D h_213)
 (fun D_1 h_214 =>
 RetD D_1 h_214 (fun h_215 =>
 Hp Try.prog true (loadCell 4 t6) (fun r_6 _ =>
 R r_6 h_215) h_215 ⟨⟩) ⟨⟩)
 (fun id D_2 h_216 => bif Nat.beq id 4 then (k_28 D_2 h_216) else False) h_160 ⟨⟩ ⟨⟩ ⟨⟩ ⟨⟩)
 (fun D_3 h_217 =>
 k_27 D_3 h_217) h_159 ⟨⟩ ⟨⟩)
 (fun D_4 h_218 =>
 CallsH Try.prog 12 #[t74] h_218 (fun t239 h_219 => 
 Hp Try.prog false (Instr.extract t239 0) (fun t240 h_220 => 
 Hp Try.prog false (Instr.extract t239 1) (fun t241 h_221 => 
 Hp Try.prog false (Instr.loadAt 2 total13) (fun t242 h_222 => 
 Hp Try.prog false (binS .eql 2 (.tmp 242) (.const (.int .i64 0)) t242 (.int .i64 0)) (fun t243 h_223 => 
 Join1 (fun k_40 h_224 => guardP t243 true (k_40 t240 h_224) (k_40 undef h_224) ⟨⟩ ⟨⟩) (fun t245 h_225 => 
 Join1 (fun k_41 h_226 => guardP t243 true (Hp Try.prog false (binS .eql 3 (.tmp 245) (.const (.int .i64 0)) t245 (.int .i64 0)) k_41 h_226 ⟨⟩) (k_41 undef h_226) ⟨⟩ ⟨⟩) (fun t246 h_227 => 
 Hp Try.prog false (pickS t243 t246 (.bool false)) (fun t247 h_228 => 
 Join1 (fun k_42 h_229 => guardP t247 true (k_42 t241 h_229) (k_42 undef h_229) ⟨⟩ ⟨⟩) (fun t249 h_230 => 
 Join1 (fun k_43 h_231 => guardP t247 true (Hp Try.prog false (binS .eql 2 (.tmp 249) (.const (.int .i64 0)) t249 (.int .i64 0)) k_43 h_231 ⟨⟩) (k_43 undef h_231) ⟨⟩ ⟨⟩) (fun t250 h_232 => 
 Hp Try.prog false (pickS t247 t250 (.bool false)) (fun t251 h_233 => 
 Join1 (fun k_44 h_234 => guardP t251 true (CallsH Try.prog 13 #[] h_234 k_44 ⟨⟩) (k_44 undef h_234) ⟨⟩ ⟨⟩) (fun t253 h_235 => 
 Hp Try.prog false (pickS t251 t253 (.bool false)) (fun t254 h_236 => 
 Hp Try.prog false (storeS 4 t6 t254) (fun _ h_237 => 
 RetD D_4 h_237 (fun h_238 =>
 Hp Try.prog true (loadCell 4 t6) (fun r_7 _ =>
 R r_7 h_238) h_238 ⟨⟩) ⟨⟩) h_236 ⟨⟩) h_235 ⟨⟩) h_233 ⟨⟩ ⟨⟩) h_232 ⟨⟩) h_230 ⟨⟩ ⟨⟩) h_228 ⟨⟩ ⟨⟩) h_227 ⟨⟩) h_225 ⟨⟩ ⟨⟩) h_223 ⟨⟩ ⟨⟩) h_222 ⟨⟩) h_221 ⟨⟩) h_220 ⟨⟩) h_219 ⟨⟩) ⟨⟩) h_158 ⟨⟩ ⟨⟩) h_157 ⟨⟩) h_154 ⟨⟩) ⟨⟩ ⟨⟩) h_153 ⟨⟩) ⟨⟩) h_151 ⟨⟩) h_150 ⟨⟩) h_149 ⟨⟩) h_148 ⟨⟩) h_147 ⟨⟩) h_146 ⟨⟩) h_145 ⟨⟩) h_107 ⟨⟩ ⟨⟩) ⟨⟩ ⟨⟩) h_106 ⟨⟩) h_104 ⟨⟩ ⟨⟩) h_102 ⟨⟩ ⟨⟩) h_100 ⟨⟩ ⟨⟩) h_99 ⟨⟩) ⟨⟩) h_97 ⟨⟩) h_96 ⟨⟩) ⟨⟩) ⟨⟩ ⟨⟩) h_74 ⟨⟩) [t92] h_73 ⟨⟩) h_72 ⟨⟩) h_71 ⟨⟩) h_70 ⟨⟩) h_69 ⟨⟩) h_66 ⟨⟩) ⟨⟩ ⟨⟩) h_65 ⟨⟩) h_63 ⟨⟩ ⟨⟩) h_61 ⟨⟩ ⟨⟩) h_59 ⟨⟩ ⟨⟩) h_57 ⟨⟩ ⟨⟩) h_55 ⟨⟩ ⟨⟩) h_53 ⟨⟩ ⟨⟩) h_52 ⟨⟩) h_50 ⟨⟩ ⟨⟩) h_48 ⟨⟩ ⟨⟩) h_47 ⟨⟩) h_46 ⟨⟩) h_45 ⟨⟩) ⟨⟩) h_43 ⟨⟩) h_42 ⟨⟩) ⟨⟩) h_16 ⟨⟩) ⟨⟩ ⟨⟩) h_15 ⟨⟩) h_14 ⟨⟩) [(.int .i64 0)] h_13 ⟨⟩) h_9 ⟨⟩) ⟨⟩ ⟨⟩) h_8 ⟨⟩) h_6 ⟨⟩ ⟨⟩) h_4 ⟨⟩ ⟨⟩) h_3 ⟨⟩) h_2 ⟨⟩) h_1 ⟨⟩) h ⟨⟩

theorem n5_calls {l0 most1 x2 : Value} {R : Value → Heap → Prop} {h : Heap} (H : n5 l0 most1 x2 R h) : CallsH Try.prog 5 #[l0, most1, x2] h R ⟨⟩ :=
 callsH_of_eq Try.follow (.n none .l (.n none .l (.n none .l (.n none (.n none .l (.n none (.n (some [9]) (.n none .l (.n (some []) (.n (some []) .l .l) .l)) .l) .l)) (.n none .l (.n none .l (.n none .l (.n none .l (.n none (.n none .l (.n none (.n (some [15]) .l .l) .l)) (.n none .l (.n none .l (.n (some []) .l (.n none .l (.n none .l (.n none .l (.n none .l (.n (some [0]) (.n none .l (.n (some [0]) .l .l)) .l))))))))))))))))) Try.func5 (by kernel_rfl) (by kernel_rfl) (by kernel_rfl) H

/-- palimpsest/palimpsestlaw13.LaterCut -/
def n6 (l0 cuts1 : Value) (R : Value → Heap → Prop) (h : Heap) : Prop :=
 Hp Try.prog false (Instr.alloc 4 true undef) (fun t4 h_1 => 
 Hp Try.prog false (Builtin.len_ #[22] 3 #[l0]) (fun t29 h_2 => 
 Hp Try.prog false (binS .gtr 3 (.tmp 29) (.const (.int .i64 60)) t29 (.int .i64 60)) (fun t30 h_3 => 
 Join1 (fun k h_4 => guardP t30 false (k cuts1 h_4) (k undef h_4) ⟨⟩ ⟨⟩) (fun t32 h_5 => 
 Join1 (fun k_1 h_6 => guardP t30 false (Hp Try.prog false (Builtin.len_ #[22] 3 #[t32]) k_1 h_6 ⟨⟩) (k_1 undef h_6) ⟨⟩ ⟨⟩) (fun t33 h_7 => 
 Join1 (fun k_2 h_8 => guardP t30 false (Hp Try.prog false (binS .gtr 3 (.tmp 33) (.const (.int .i64 20)) t33 (.int .i64 20)) k_2 h_8 ⟨⟩) (k_2 undef h_8) ⟨⟩ ⟨⟩) (fun t34 h_9 => 
 Hp Try.prog false (pickS t30 (.bool true) t34) (fun t35 h_10 => 
 CondP t35 (
 CallsH Try.prog 13 #[] h_10 (fun t36 h_11 => 
 Hp Try.prog false (storeS 4 t4 t36) (fun _ h_12 => 
 RetD (.tuple #[]) h_12 (fun h_13 =>
 Hp Try.prog true (loadCell 4 t4) (fun r _ =>
 R r h_13) h_13 ⟨⟩) ⟨⟩) h_11 ⟨⟩) ⟨⟩) (
 CallsH Try.prog 14 #[l0] h_10 (fun t39 h_14 => 
 CallsH Try.prog 8 #[t39] h_14 (fun t40 h_15 => 
 Hp Try.prog false (Instr.extract t40 0) (fun t41 h_16 => 
 Hp Try.prog false (Instr.extract t40 1) (fun t42 h_17 => 
 Hp Try.prog false (Instr.alloc 25 true undef) (fun a5 h_18 => 
 Hp Try.prog false (storeS 25 a5 t41) (fun _ h_19 => 
 Hp Try.prog false (Instr.loadAt 25 a5) (fun t43 h_20 => 
 Hp Try.prog false (binS .eql 25 (.tmp 43) (.const (.pointer none)) t43 (.pointer none)) (fun t44 h_21 => 
 Join1 (fun k_3 h_22 => guardP t44 false (k_3 t42 h_22) (k_3 undef h_22) ⟨⟩ ⟨⟩) (fun t46 h_23 => 
 Join1 (fun k_4 h_24 => guardP t44 false (CallsH Try.prog 9 #[t46] h_24 k_4 ⟨⟩) (k_4 undef h_24) ⟨⟩ ⟨⟩) (fun t47 h_25 => 
 Join1 (fun k_5 h_26 => guardP t44 false (Hp Try.prog false (binS .neq 3 (.tmp 47) (.const (.int .i64 0)) t47 (.int .i64 0)) k_5 h_26 ⟨⟩) (k_5 undef h_26) ⟨⟩ ⟨⟩) (fun t48 h_27 => 
 Hp Try.prog false (pickS t44 (.bool true) t48) (fun t49 h_28 => 
 CondP t49 (
 Hp Try.prog false (storeS 4 t4 (.bool false)) (fun _ h_29 => 
 RetD (.tuple #[]) h_29 (fun h_30 =>
 Hp Try.prog true (loadCell 4 t4) (fun r_1 _ =>
 R r_1 h_30) h_30 ⟨⟩) ⟨⟩) h_28 ⟨⟩) (
 Hp Try.prog false (Instr.loadAt 25 a5) (fun t50 h_31 => 
 CallsH Try.prog 15 #[t50] h_31 (fun t51 h_32 => 
 Hp Try.prog false (binS .eql 25 (.tmp 52) (.const (.pointer none)) t51 (.pointer none)) (fun t53 h_33 => 
 CondP t53 (
 Hp Try.prog false (storeS 4 t4 (.bool false)) (fun _ h_34 => 
 RetD (.tuple #[]) h_34 (fun h_35 =>
 Hp Try.prog true (loadCell 4 t4) (fun r_2 _ =>
 R r_2 h_35) h_35 ⟨⟩) ⟨⟩) h_33 ⟨⟩) (
 CallsH Try.prog 14 #[cuts1] h_33 (fun t55 h_36 => 
 Hp Try.prog false (Instr.alloc 22 true undef) (fun c8 h_37 => 
 Hp Try.prog false (storeS 22 c8 t55) (fun _ h_38 => 
 LoopC 1 (fun (X : Value → Heap → Prop) => fun i9 h_39 =>
 Hp Try.prog false (Instr.loadAt 22 c8) (fun t57 h_40 => 
 Hp Try.prog false (Builtin.len_ #[22] 3 #[t57]) (fun t58 h_41 => 
 Hp Try.prog false (binS .lss 3 (.tmp 56) (.tmp 58) i9 t58) (fun t59 h_42 => 
 CondP t59 (
 Hp Try.prog false (Instr.loadAt 25 a5) (fun t63 h_43 => 
 CallsH Try.prog 12 #[t63] h_43 (fun t64 h_44 => 
 Hp Try.prog false (Instr.extract t64 0) (fun t65 h_45 => 
 Hp Try.prog false (Instr.extract t64 1) (fun t66 h_46 => 
 Hp Try.prog true (Instr.loadAt 25 a5) (fun t68 _ => 
 Hp Try.prog true (Instr.loadAt 22 c8) (fun t69 _ => 
 Hp Try.prog true (Instr.indexAt 22 t69 i9) (fun t71 _ => 
 Hp Try.prog true (Instr.loadAt 24 t71) (fun t72 _ => 
 CallsH Try.prog 17 #[t68, t72] h_46 (fun t73 h_47 => 
 Hp Try.prog true (Instr.extract t73 0) (fun t74 _ => 
 Hp Try.prog true (Instr.extract t73 1) (fun t75 _ => 
 Hp Try.prog true (Instr.loadAt 25 a5) (fun t77 _ => 
 Hp Try.prog true (Instr.loadAt 22 c8) (fun t78 _ => 
 Hp Try.prog true (Instr.indexAt 22 t78 i9) (fun t80 _ => 
 Hp Try.prog true (Instr.loadAt 24 t80) (fun t81 _ => 
 CallsH Try.prog 11 #[t77, t81] h_47 (fun t82 h_48 => 
 Hp Try.prog true (Instr.extract t82 0) (fun t83 _ => 
 Hp Try.prog true (Instr.extract t82 1) (fun t84 _ => 
 Hp Try.prog true (Instr.loadAt 25 a5) (fun t86 _ => 
 Hp Try.prog true (Instr.loadAt 22 c8) (fun t87 _ => 
 Hp Try.prog true (Instr.indexAt 22 t87 i9) (fun t89 _ => 
 Hp Try.prog true (Instr.loadAt 24 t89) (fun t90 _ => 
 CallsH Try.prog 17 #[t86, t90] h_48 (fun t91 h_49 => 
 Hp Try.prog true (Instr.extract t91 0) (fun t92 _ => 
 Hp Try.prog true (Instr.extract t91 1) (fun t93 _ => 
 Hp Try.prog false (Instr.loadAt 25 a5) (fun t95 h_50 => 
 CallsH Try.prog 12 #[t95] h_50 (fun t96 h_51 => 
 Hp Try.prog false (Instr.extract t96 0) (fun t97 h_52 => 
 Hp Try.prog false (Instr.extract t96 1) (fun t98 h_53 => 
 CallsH Try.prog 9 #[t75] h_53 (fun t100 h_54 => 
 CallsH Try.prog 9 #[t84] h_54 (fun t102 h_55 => 
 Hp Try.prog false (binS .add 3 (.tmp 100) (.tmp 102) t100 t102) (fun t103 h_56 => 
 CallsH Try.prog 9 #[t93] h_56 (fun t105 h_57 => 
 Hp Try.prog false (binS .add 3 (.tmp 103) (.tmp 105) t103 t105) (fun t106 h_58 => 
 Hp Try.prog false (binS .neq 3 (.tmp 106) (.const (.int .i64 0)) t106 (.int .i64 0)) (fun t107 h_59 => 
 Join1 (fun k_6 h_60 => guardP t107 false (k_6 t74 h_60) (k_6 undef h_60) ⟨⟩ ⟨⟩) (fun t109 h_61 => 
 Join1 (fun k_7 h_62 => guardP t107 false (k_7 t83 h_62) (k_7 undef h_62) ⟨⟩ ⟨⟩) (fun t110 h_63 => 
 Join1 (fun k_8 h_64 => guardP t107 false (Hp Try.prog false (binS .neq 2 (.tmp 109) (.tmp 110) t109 t110) k_8 h_64 ⟨⟩) (k_8 undef h_64) ⟨⟩ ⟨⟩) (fun t111 h_65 => 
 Hp Try.prog false (pickS t107 (.bool true) t111) (fun t112 h_66 => 
 Join1 (fun k_9 h_67 => guardP t112 false (k_9 t92 h_67) (k_9 undef h_67) ⟨⟩ ⟨⟩) (fun t114 h_68 => 
 Join1 (fun k_10 h_69 => guardP t112 false (Hp Try.prog false (binS .neq 2 (.tmp 114) (.const (.int .i64 0)) t114 (.int .i64 0)) k_10 h_69 ⟨⟩) (k_10 undef h_69) ⟨⟩ ⟨⟩) (fun t115 h_70 => 
 Hp Try.prog false (pickS t112 (.bool true) t115) (fun t116 h_71 => 
 Join1 (fun k_11 h_72 => guardP t116 false (k_11 t66 h_72) (k_11 undef h_72) ⟨⟩ ⟨⟩) (fun t118 h_73 => 
 Join1 (fun k_12 h_74 => guardP t116 false (k_12 t98 h_74) (k_12 undef h_74) ⟨⟩ ⟨⟩) (fun t119 h_75 => 
 Join1 (fun k_13 h_76 => guardP t116 false (Hp Try.prog false (binS .sub 2 (.tmp 118) (.tmp 119) t118 t119) k_13 h_76 ⟨⟩) (k_13 undef h_76) ⟨⟩ ⟨⟩) (fun t120 h_77 => 
 Join1 (fun k_14 h_78 => guardP t116 false (k_14 t83 h_78) (k_14 undef h_78) ⟨⟩ ⟨⟩) (fun t121 h_79 => 
 Join1 (fun k_15 h_80 => guardP t116 false (Hp Try.prog false (binS .neq 2 (.tmp 120) (.tmp 121) t120 t121) k_15 h_80 ⟨⟩) (k_15 undef h_80) ⟨⟩ ⟨⟩) (fun t122 h_81 => 
 Hp Try.prog false (pickS t116 (.bool true) t122) (fun t123 h_82 => 
 CondP t123 (
 Hp Try.prog false (storeS 4 t4 (.bool false)) (fun _ h_83 => 
 RetD (.tuple #[]) h_83 (fun h_84 =>
 Hp Try.prog true (loadCell 4 t4) (fun r_3 _ =>
 R r_3 h_84) h_84 ⟨⟩) ⟨⟩) h_82 ⟨⟩) (
 Hp Try.prog false (binS .add 3 (.tmp 60) (.const (.int .i64 1)) i9 (.int .i64 1)) (fun t61 h_85 => 
 X t61 h_85) h_82 ⟨⟩) ⟨⟩ ⟨⟩) h_81 ⟨⟩) h_79 ⟨⟩ ⟨⟩) h_77 ⟨⟩ ⟨⟩) h_75 ⟨⟩ ⟨⟩) h_73 ⟨⟩ ⟨⟩) h_71 ⟨⟩ ⟨⟩) h_70 ⟨⟩) h_68 ⟨⟩ ⟨⟩) h_66 ⟨⟩ ⟨⟩) h_65 ⟨⟩) h_63 ⟨⟩ ⟨⟩) h_61 ⟨⟩ ⟨⟩) h_59 ⟨⟩ ⟨⟩) h_58 ⟨⟩) h_57 ⟨⟩) ⟨⟩) h_55 ⟨⟩) ⟨⟩) ⟨⟩) h_52 ⟨⟩) h_51 ⟨⟩) ⟨⟩) h_49 ⟨⟩) #[] ⟨⟩) #[] ⟨⟩) ⟨⟩) h_48 ⟨⟩) #[] ⟨⟩) h_48 ⟨⟩) h_48 ⟨⟩) #[] ⟨⟩) #[] ⟨⟩) ⟨⟩) h_47 ⟨⟩) #[] ⟨⟩) h_47 ⟨⟩) h_47 ⟨⟩) #[] ⟨⟩) #[] ⟨⟩) ⟨⟩) h_46 ⟨⟩) #[] ⟨⟩) h_46 ⟨⟩) h_46 ⟨⟩) h_45 ⟨⟩) h_44 ⟨⟩) ⟨⟩) h_42 ⟨⟩) (
 CallsH Try.prog 22 #[t51] h_42 (fun t125 h_86 => 
 Hp Try.prog false (binS .eql 44 (.tmp 126) (.const .nilFunc) t125 .nilFunc) (fun t127 h_87 => 
 CondP t127 (
 Hp Try.prog false (storeS 4 t4 (.bool false)) (fun _ h_88 => 
 RetD (.tuple #[]) h_88 (fun h_89 =>
 Hp Try.prog true (loadCell 4 t4) (fun r_4 _ =>
 R r_4 h_89) h_89 ⟨⟩) ⟨⟩) h_87 ⟨⟩) (
 JoinN 1 (fun (k_16 : Value → Heap → Prop) h_90 =>
 JoinN 1 (fun (k_17 : Value → Heap → Prop) h_91 =>
 RangeC Try.prog none t125 1 (.tuple #[]) (fun l args bg Nb Jb h_92 =>
 Hp Try.prog false (Instr.alloc 24 true undef) (fun x21 h_94 => 
 Hp Try.prog false (storeS 24 x21 (getV args 0)) (fun _ h_95 => 
 bg (fun h_93 =>
 Hp Try.prog false (Instr.loadAt 25 a5) (fun t131 h_96 => 
 Hp Try.prog false (Instr.loadAt 24 x21) (fun t132 h_97 => 
 CallsH Try.prog 17 #[t131, t132] h_97 (fun t133 h_98 => 
 Hp Try.prog false (Instr.extract t133 0) (fun t134 h_99 => 
 Hp Try.prog false (Instr.extract t133 1) (fun t135 h_100 => 
 LoopC 2 (fun (X_1 : Value → Value → Heap → Prop) => fun n24 i25 h_101 =>
 Hp Try.prog false (Instr.loadAt 22 c8) (fun t137 h_102 => 
 Hp Try.prog false (Builtin.len_ #[22] 3 #[t137]) (fun t138 h_103 => 
 Hp Try.prog false (binS .lss 3 (.tmp 136) (.tmp 138) i25 t138) (fun t139 h_104 => 
 CondP t139 (
 Hp Try.prog true (Instr.fieldAt 24 x21 0) (fun t143 _ => 
 Hp Try.prog true (Instr.loadAt 2 t143) (fun t144 _ => 
 Hp Try.prog true (Instr.fieldAt 24 x21 1) (fun t145 _ => 
 Hp Try.prog true (Instr.loadAt 2 t145) (fun t146 _ => 
 Hp Try.prog true (binS .add 2 (.tmp 144) (.tmp 146) t144 t146) (fun t147 _ => 
 Hp Try.prog true (Instr.loadAt 22 c8) (fun t148 _ => 
 Hp Try.prog true (Instr.indexAt 22 t148 i25) (fun t150 _ => 
 Hp Try.prog true (Instr.fieldAt 24 t150 0) (fun t151 _ => 
 Hp Try.prog true (Instr.loadAt 2 t151) (fun t152 _ => 
 Hp Try.prog true (Instr.loadAt 22 c8) (fun t153 _ => 
 Hp Try.prog true (Instr.indexAt 22 t153 i25) (fun t155 _ => 
 Hp Try.prog true (Instr.fieldAt 24 t155 1) (fun t156 _ => 
 Hp Try.prog true (Instr.loadAt 2 t156) (fun t157 _ => 
 Hp Try.prog true (binS .add 2 (.tmp 152) (.tmp 157) t152 t157) (fun t158 _ => 
 Hp Try.prog true (Builtin.min_ #[2, 2] 2 #[t147, t158]) (fun t159 _ => 
 Hp Try.prog true (Instr.fieldAt 24 x21 0) (fun t160 _ => 
 Hp Try.prog true (Instr.loadAt 2 t160) (fun t161 _ => 
 Hp Try.prog true (Instr.loadAt 22 c8) (fun t162 _ => 
 Hp Try.prog true (Instr.indexAt 22 t162 i25) (fun t164 _ => 
 Hp Try.prog true (Instr.fieldAt 24 t164 0) (fun t165 _ => 
 Hp Try.prog true (Instr.loadAt 2 t165) (fun t166 _ => 
 Hp Try.prog true (Builtin.max_ #[2, 2] 2 #[t161, t166]) (fun t167 _ => 
 Hp Try.prog true (binS .sub 2 (.tmp 159) (.tmp 167) t159 t167) (fun t168 _ => 
 Hp Try.prog true (Builtin.max_ #[2, 2] 2 #[(.int .i64 0), t168]) (fun t169 _ => 
 Hp Try.prog true (binS .add 2 (.tmp 142) (.tmp 169) n24 t169) (fun t170 _ => 
 Hp Try.prog false (binS .add 3 (.tmp 140) (.const (.int .i64 1)) i25 (.int .i64 1)) (fun t141 h_105 => 
 X_1 t170 t141 h_105) h_104 ⟨⟩) #[] ⟨⟩) #[] ⟨⟩) #[] ⟨⟩) #[] ⟨⟩) h_104 ⟨⟩) #[] ⟨⟩) #[] ⟨⟩) h_104 ⟨⟩) h_104 ⟨⟩) #[] ⟨⟩) #[] ⟨⟩) #[] ⟨⟩) h_104 ⟨⟩) #[] ⟨⟩) #[] ⟨⟩) h_104 ⟨⟩) h_104 ⟨⟩) #[] ⟨⟩) #[] ⟨⟩) h_104 ⟨⟩) #[] ⟨⟩) h_104 ⟨⟩) #[] ⟨⟩) h_104 ⟨⟩) #[] ⟨⟩) (
 CallsH Try.prog 9 #[t135] h_104 (fun t172 h_106 => 
 Hp Try.prog false (binS .neq 3 (.tmp 172) (.const (.int .i64 0)) t172 (.int .i64 0)) (fun t173 h_107 => 
 Join1 (fun k_18 h_108 => guardP t173 false (k_18 t134 h_108) (k_18 undef h_108) ⟨⟩ ⟨⟩) (fun t175 h_109 => 
 Join1 (fun k_19 h_110 => guardP t173 false (Hp Try.prog false (Instr.fieldAt 24 x21 1) k_19 h_110 ⟨⟩) (k_19 undef h_110) ⟨⟩ ⟨⟩) (fun t176 h_111 => 
 Join1 (fun k_20 h_112 => guardP t173 false (Hp Try.prog false (Instr.loadAt 2 t176) k_20 h_112 ⟨⟩) (k_20 undef h_112) ⟨⟩ ⟨⟩) (fun t177 h_113 => 
 Join1 (fun k_21 h_114 => guardP t173 false (k_21 n24 h_114) (k_21 undef h_114) ⟨⟩ ⟨⟩) (fun t178 h_115 => 
 Join1 (fun k_22 h_116 => guardP t173 false (Hp Try.prog false (binS .sub 2 (.tmp 177) (.tmp 178) t177 t178) k_22 h_116 ⟨⟩) (k_22 undef h_116) ⟨⟩ ⟨⟩) (fun t179 h_117 => 
 Join1 (fun k_23 h_118 => guardP t173 false (Hp Try.prog false (binS .lss 2 (.tmp 175) (.tmp 179) t175 t179) k_23 h_118 ⟨⟩) (k_23 undef h_118) ⟨⟩ ⟨⟩) (fun t180 h_119 => 
 Hp Try.prog false (pickS t173 (.bool true) t180) (fun t181 h_120 => 
 Join1 (fun k_24 h_121 => guardP t181 false (k_24 t134 h_121) (k_24 undef h_121) ⟨⟩ ⟨⟩) (fun t183 h_122 => 
 Join1 (fun k_25 h_123 => guardP t181 false (Hp Try.prog false (Instr.fieldAt 24 x21 1) k_25 h_123 ⟨⟩) (k_25 undef h_123) ⟨⟩ ⟨⟩) (fun t184 h_124 => 
 Join1 (fun k_26 h_125 => guardP t181 false (Hp Try.prog false (Instr.loadAt 2 t184) k_26 h_125 ⟨⟩) (k_26 undef h_125) ⟨⟩ ⟨⟩) (fun t185 h_126 => 
 Join1 (fun k_27 h_127 => guardP t181 false (Hp Try.prog false (binS .gtr 2 (.tmp 183) (.tmp 185) t183 t185) k_27 h_127 ⟨⟩) (k_27 undef h_127) ⟨⟩ ⟨⟩) (fun t186 h_128 => 
 Hp Try.prog false (pickS t181 (.bool true) t186) (fun t187 h_129 => 
 CondP t187 (
 Hp Try.prog false (storeS 4 t4 (.bool false)) (fun _ h_130 => 
 Jb .ret h_130) h_129 ⟨⟩) (
 Hp Try.prog false (Instr.loadAt 25 a5) (fun t189 h_131 => 
 Hp Try.prog false (Instr.loadAt 24 x21) (fun t190 h_132 => 
 Hp Try.prog false (Instr.buildSlice 22 1 #[(0, t190)]) (fun t191 h_133 => 
 CallsH Try.prog 10 #[t189, t191] h_133 (fun t192 h_134 => 
 Hp Try.prog false (Instr.extract t192 0) (fun t193 h_135 => 
 Hp Try.prog false (Instr.extract t192 1) (fun t194 h_136 => 
 CallsH Try.prog 9 #[t194] h_136 (fun t196 h_137 => 
 Hp Try.prog false (binS .neq 3 (.tmp 196) (.const (.int .i64 0)) t196 (.int .i64 0)) (fun t197 h_138 => 
 CondP t197 (
 Hp Try.prog false (storeS 4 t4 (.bool false)) (fun _ h_139 => 
 Jb .ret h_139) h_138 ⟨⟩) (
 Nb h_138) ⟨⟩ ⟨⟩) h_137 ⟨⟩) ⟨⟩) h_135 ⟨⟩) h_134 ⟨⟩) ⟨⟩) h_132 ⟨⟩) h_131 ⟨⟩) h_129 ⟨⟩) ⟨⟩ ⟨⟩) h_128 ⟨⟩) h_126 ⟨⟩ ⟨⟩) h_124 ⟨⟩ ⟨⟩) h_122 ⟨⟩ ⟨⟩) h_120 ⟨⟩ ⟨⟩) h_119 ⟨⟩) h_117 ⟨⟩ ⟨⟩) h_115 ⟨⟩ ⟨⟩) h_113 ⟨⟩ ⟨⟩) h_111 ⟨⟩ ⟨⟩) h_109 ⟨⟩ ⟨⟩) h_107 ⟨⟩ ⟨⟩) h_106 ⟨⟩) ⟨⟩) ⟨⟩ ⟨⟩) h_103 ⟨⟩) h_102 ⟨⟩) h_101 ⟨⟩) [(.int .i64 0), (.int .i64 0)] h_100 ⟨⟩) h_99 ⟨⟩) h_98 ⟨⟩) ⟨⟩) h_96 ⟨⟩) h_93 ⟨⟩) h_95) h_94 ⟨⟩) h_92 ⟨⟩)
 (fun D h_140 =>
 k_17 D h_140)
 (fun D_1 h_141 =>
 RetD D_1 h_141 (fun h_142 =>
 Hp Try.prog true (loadCell 4 t4) (fun r_5 _ =>
 R r_5 h_142) h_142 ⟨⟩) ⟨⟩)
 (fun id D_2 h_143 => bif Nat.beq id 2 then (k_17 D_2 h_143) else False) h_91 ⟨⟩ ⟨⟩ ⟨⟩ ⟨⟩)
 (fun D_3 h_144 =>
 k_16 D_3 h_144) h_90 ⟨⟩ ⟨⟩)
 (fun D_4 h_145 =>
 Hp Try.prog false (Instr.loadAt 25 a5) (fun t198 h_146 => 
 CallsH Try.prog 19 #[t198, t51] h_146 (fun t200 h_147 => 
 Join1 (fun k_28 h_148 => guardP t200 true (CallsH Try.prog 13 #[] h_148 k_28 ⟨⟩) (k_28 undef h_148) ⟨⟩ ⟨⟩) (fun t202 h_149 => 
 Hp Try.prog false (pickS t200 t202 (.bool false)) (fun t203 h_150 => 
 Hp Try.prog false (storeS 4 t4 t203) (fun _ h_151 => 
 RetD D_4 h_151 (fun h_152 =>
 Hp Try.prog true (loadCell 4 t4) (fun r_6 _ =>
 R r_6 h_152) h_152 ⟨⟩) ⟨⟩) h_150 ⟨⟩) h_149 ⟨⟩) h_147 ⟨⟩ ⟨⟩) ⟨⟩) h_145 ⟨⟩) h_87 ⟨⟩ ⟨⟩) ⟨⟩ ⟨⟩) h_86 ⟨⟩) ⟨⟩) ⟨⟩ ⟨⟩) h_41 ⟨⟩) h_40 ⟨⟩) h_39 ⟨⟩) [(.int .i64 0)] h_38 ⟨⟩) h_37 ⟨⟩) h_36 ⟨⟩) ⟨⟩) ⟨⟩ ⟨⟩) h_32 ⟨⟩) ⟨⟩) h_28 ⟨⟩) ⟨⟩ ⟨⟩) h_27 ⟨⟩) h_25 ⟨⟩ ⟨⟩) h_23 ⟨⟩ ⟨⟩) h_21 ⟨⟩ ⟨⟩) h_20 ⟨⟩) h_19 ⟨⟩) h_18 ⟨⟩) h_17 ⟨⟩) h_16 ⟨⟩) h_15 ⟨⟩) ⟨⟩) ⟨⟩) ⟨⟩ ⟨⟩) h_9 ⟨⟩) h_7 ⟨⟩ ⟨⟩) h_5 ⟨⟩ ⟨⟩) h_3 ⟨⟩ ⟨⟩) h_2 ⟨⟩) h_1 ⟨⟩) h ⟨⟩

theorem n6_calls {l0 cuts1 : Value} {R : Value → Heap → Prop} {h : Heap} (H : n6 l0 cuts1 R h) : CallsH Try.prog 6 #[l0, cuts1] h R ⟨⟩ :=
 callsH_of_eq Try.follow (.n none .l (.n none .l (.n none .l (.n none .l (.n none .l (.n none .l (.n none .l (.n none (.n none .l (.n none (.n (some [10]) .l .l) .l)) (.n none .l (.n none .l (.n (some [0]) (.n none .l (.n (some [0]) (.n none .l (.n none (.n none .l (.n none .l (.n none (.n none .l (.n none (.n (some [25, 26]) .l .l) .l)) .l))) .l)) .l)) .l))))))))))) Try.func6 (by kernel_rfl) (by kernel_rfl) (by kernel_rfl) H

/-- palimpsest/palimpsestlaw13.LaterPlays -/
def n7 (first0 script1 : Value) (R : Value → Heap → Prop) (h : Heap) : Prop :=
 Hp Try.prog false (Builtin.len_ #[50] 3 #[script1]) (fun t18 h_1 => 
 Hp Try.prog false (binS .gtr 3 (.tmp 18) (.const (.int .i64 40)) t18 (.int .i64 40)) (fun t19 h_2 => 
 Join1 (fun k h_3 => guardP t19 false (k first0 h_3) (k undef h_3) ⟨⟩ ⟨⟩) (fun t21 h_4 => 
 Join1 (fun k_1 h_5 => guardP t19 false (Hp Try.prog false (Builtin.len_ #[22] 3 #[t21]) k_1 h_5 ⟨⟩) (k_1 undef h_5) ⟨⟩ ⟨⟩) (fun t22 h_6 => 
 Join1 (fun k_2 h_7 => guardP t19 false (Hp Try.prog false (binS .gtr 3 (.tmp 22) (.const (.int .i64 40)) t22 (.int .i64 40)) k_2 h_7 ⟨⟩) (k_2 undef h_7) ⟨⟩ ⟨⟩) (fun t23 h_8 => 
 Hp Try.prog false (pickS t19 (.bool true) t23) (fun t24 h_9 => 
 CondP t24 (
 CallsH Try.prog 13 #[] h_9 (fun t25 h_10 => 
 R t25 h_10) ⟨⟩) (
 Hp Try.prog false (Instr.build 53 #[]) (fun t26 h_11 => 
 Hp Try.prog false (Instr.box 53 t26) (fun t27 h_12 => 
 CallsH Try.prog 23 #[t27, first0] h_12 (fun t31 h_13 => 
 Hp Try.prog false (Instr.extract t31 0) (fun t32 h_14 => 
 Hp Try.prog false (Instr.extract t31 1) (fun t33 h_15 => 
 CallsH Try.prog 8 #[first0] h_15 (fun t36 h_16 => 
 Hp Try.prog false (Instr.extract t36 0) (fun t37 h_17 => 
 Hp Try.prog false (Instr.extract t36 1) (fun t38 h_18 => 
 Hp Try.prog false (binS .neq 3 (.tmp 39) (.const (.int .i64 0)) t33 (.int .i64 0)) (fun t40 h_19 => 
 CondP t40 (
 Hp Try.prog false (binS .eql 25 (.tmp 41) (.const (.pointer none)) t37 (.pointer none)) (fun t42 h_20 => 
 Join1 (fun k_3 h_21 => guardP t42 true (k_3 t38 h_21) (k_3 undef h_21) ⟨⟩ ⟨⟩) (fun t44 h_22 => 
 Join1 (fun k_4 h_23 => guardP t42 true (CallsH Try.prog 9 #[t44] h_23 k_4 ⟨⟩) (k_4 undef h_23) ⟨⟩ ⟨⟩) (fun t45 h_24 => 
 Join1 (fun k_5 h_25 => guardP t42 true (k_5 t33 h_25) (k_5 undef h_25) ⟨⟩ ⟨⟩) (fun t46 h_26 => 
 Join1 (fun k_6 h_27 => guardP t42 true (Hp Try.prog false (binS .eql 3 (.tmp 45) (.tmp 46) t45 t46) k_6 h_27 ⟨⟩) (k_6 undef h_27) ⟨⟩ ⟨⟩) (fun t47 h_28 => 
 Hp Try.prog false (pickS t42 t47 (.bool false)) (fun t48 h_29 => 
 Join1 (fun k_7 h_30 => guardP t48 true (CallsH Try.prog 13 #[] h_30 k_7 ⟨⟩) (k_7 undef h_30) ⟨⟩ ⟨⟩) (fun t50 h_31 => 
 Hp Try.prog false (pickS t48 t50 (.bool false)) (fun t51 h_32 => 
 R t51 h_32) h_31 ⟨⟩) h_29 ⟨⟩ ⟨⟩) h_28 ⟨⟩) h_26 ⟨⟩ ⟨⟩) h_24 ⟨⟩ ⟨⟩) h_22 ⟨⟩ ⟨⟩) h_20 ⟨⟩ ⟨⟩) h_19 ⟨⟩) (
 CallsH Try.prog 9 #[t38] h_19 (fun t53 h_33 => 
 Hp Try.prog false (binS .neq 3 (.tmp 53) (.const (.int .i64 0)) t53 (.int .i64 0)) (fun t54 h_34 => 
 CondP t54 (
 R (.bool false) h_34) (
 LoopC 4 (fun (X : Value → Value → Value → Value → Heap → Prop) => fun q8 old10 was11 i12 h_35 =>
 Hp Try.prog false (Builtin.len_ #[50] 3 #[script1]) (fun t57 h_36 => 
 Hp Try.prog false (binS .lss 3 (.tmp 55) (.tmp 57) i12 t57) (fun t58 h_37 => 
 CondP t58 (
 Hp Try.prog false (Instr.indexAt 50 script1 i12) (fun t63 h_38 => 
 Hp Try.prog false (Instr.fieldAt 59 t63 2) (fun t64 h_39 => 
 Hp Try.prog false (Instr.loadAt 22 t64) (fun t65 h_40 => 
 Hp Try.prog false (Builtin.len_ #[22] 3 #[t65]) (fun t66 h_41 => 
 Hp Try.prog false (binS .gtr 3 (.tmp 66) (.const (.int .i64 40)) t66 (.int .i64 40)) (fun t67 h_42 => 
 CondP t67 (
 CallsH Try.prog 13 #[] h_42 (fun t68 h_43 => 
 R t68 h_43) ⟨⟩) (
 JoinN 3 (fun (k_8 : Value → Value → Value → Heap → Prop) h_44 =>
 Hp Try.prog false (Instr.indexAt 50 script1 i12) (fun t71 h_45 => 
 Hp Try.prog false (Instr.fieldAt 59 t71 0) (fun t72 h_46 => 
 Hp Try.prog false (Instr.loadAt 3 t72) (fun t73 h_47 => 
 Hp Try.prog false (binS .eql 3 (.tmp 73) (.const (.int .i64 9)) t73 (.int .i64 9)) (fun t74 h_48 => 
 CondP t74 (
 Hp Try.prog false (Instr.buildSlice 56 1 #[(0, q8)]) (fun t77 h_49 => 
 Hp Try.prog false (Builtin.append_ #[56, 56] 56 #[old10, t77]) (fun t78 h_50 => 
 Hp Try.prog false (nilS t27) (fun t81 h_51 => 
 Hp Try.prog false (Instr.loadAt 53 t81) (fun t82 h_52 => 
 Hp Try.prog false (Instr.buildSlice 57 1 #[(0, t82)]) (fun t83 h_53 => 
 Hp Try.prog false (Builtin.append_ #[57, 57] 57 #[was11, t83]) (fun t84 h_54 => 
 CallsH Try.prog 15 #[q8] h_54 (fun t86 h_55 => 
 Hp Try.prog false (binS .eql 25 (.tmp 87) (.const (.pointer none)) t86 (.pointer none)) (fun t88 h_56 => 
 Join1 (fun k_9 h_57 => guardP t88 false (k_9 t86 h_57) (k_9 undef h_57) ⟨⟩ ⟨⟩) (fun t90 h_58 => 
 Join1 (fun k_10 h_59 => guardP t88 false (k_10 t78 h_59) (k_10 undef h_59) ⟨⟩ ⟨⟩) (fun t91 h_60 => 
 Join1 (fun k_11 h_61 => guardP t88 false (k_11 t78 h_61) (k_11 undef h_61) ⟨⟩ ⟨⟩) (fun t92 h_62 => 
 Join1 (fun k_12 h_63 => guardP t88 false (Hp Try.prog false (Builtin.len_ #[56] 3 #[t92]) k_12 h_63 ⟨⟩) (k_12 undef h_63) ⟨⟩ ⟨⟩) (fun t93 h_64 => 
 Join1 (fun k_13 h_65 => guardP t88 false (Hp Try.prog false (binS .sub 3 (.tmp 93) (.const (.int .i64 1)) t93 (.int .i64 1)) k_13 h_65 ⟨⟩) (k_13 undef h_65) ⟨⟩ ⟨⟩) (fun t94 h_66 => 
 Join1 (fun k_14 h_67 => guardP t88 false (Hp Try.prog false (Instr.indexAt 56 t91 t94) k_14 h_67 ⟨⟩) (k_14 undef h_67) ⟨⟩ ⟨⟩) (fun t95 h_68 => 
 Join1 (fun k_15 h_69 => guardP t88 false (Hp Try.prog false (Instr.loadAt 25 t95) k_15 h_69 ⟨⟩) (k_15 undef h_69) ⟨⟩ ⟨⟩) (fun t96 h_70 => 
 Join1 (fun k_16 h_71 => guardP t88 false (CallsH Try.prog 19 #[t90, t96] h_71 k_16 ⟨⟩) (k_16 undef h_71) ⟨⟩ ⟨⟩) (fun t97 h_72 => 
 Join1 (fun k_17 h_73 => guardP t88 false (Hp Try.prog false (Op.unary .not t97) k_17 h_73 ⟨⟩) (k_17 undef h_73) ⟨⟩ ⟨⟩) (fun t98 h_74 => 
 Hp Try.prog false (pickS t88 (.bool true) t98) (fun t99 h_75 => 
 CondP t99 (
 R (.bool false) h_75) (
 k_8 t86 t78 t84 h_75) ⟨⟩ ⟨⟩) h_74 ⟨⟩) h_72 ⟨⟩ ⟨⟩) h_70 ⟨⟩ ⟨⟩) h_68 ⟨⟩ ⟨⟩) h_66 ⟨⟩ ⟨⟩) h_64 ⟨⟩ ⟨⟩) h_62 ⟨⟩ ⟨⟩) h_60 ⟨⟩ ⟨⟩) h_58 ⟨⟩ ⟨⟩) h_56 ⟨⟩ ⟨⟩) h_55 ⟨⟩) ⟨⟩) h_53 ⟨⟩) h_52 ⟨⟩) h_51 ⟨⟩) h_50 ⟨⟩) h_49 ⟨⟩) h_48 ⟨⟩) (
 k_8 q8 old10 was11 h_48) ⟨⟩ ⟨⟩) h_47 ⟨⟩) h_46 ⟨⟩) h_45 ⟨⟩) h_44 ⟨⟩)
 (fun q8_1 old10_1 was11_1 h_76 =>
 Hp Try.prog false (binS .eql 25 (.tmp 100) (.const (.pointer none)) q8_1 (.pointer none)) (fun t101 h_77 => 
 Join1 (fun k_18 h_78 => guardP t101 false (k_18 q8_1 h_78) (k_18 undef h_78) ⟨⟩ ⟨⟩) (fun t103 h_79 => 
 Join1 (fun k_19 h_80 => guardP t101 false (k_19 t27 h_80) (k_19 undef h_80) ⟨⟩ ⟨⟩) (fun t104 h_81 => 
 Join1 (fun k_20 h_82 => guardP t101 false (k_20 script1 h_82) (k_20 undef h_82) ⟨⟩ ⟨⟩) (fun t105 h_83 => 
 Join1 (fun k_21 h_84 => guardP t101 false (k_21 i12 h_84) (k_21 undef h_84) ⟨⟩ ⟨⟩) (fun t106 h_85 => 
 Join1 (fun k_22 h_86 => guardP t101 false (Hp Try.prog false (Instr.indexAt 50 t105 t106) k_22 h_86 ⟨⟩) (k_22 undef h_86) ⟨⟩ ⟨⟩) (fun t107 h_87 => 
 Join1 (fun k_23 h_88 => guardP t101 false (Hp Try.prog false (Instr.loadAt 59 t107) k_23 h_88 ⟨⟩) (k_23 undef h_88) ⟨⟩ ⟨⟩) (fun t108 h_89 => 
 Join1 (fun k_24 h_90 => guardP t101 false (CallsH Try.prog 24 #[t103, t104, t108] h_90 k_24 ⟨⟩) (k_24 undef h_90) ⟨⟩ ⟨⟩) (fun t109 h_91 => 
 Join1 (fun k_25 h_92 => guardP t101 false (Hp Try.prog false (Op.unary .not t109) k_25 h_92 ⟨⟩) (k_25 undef h_92) ⟨⟩ ⟨⟩) (fun t110 h_93 => 
 Hp Try.prog false (pickS t101 (.bool true) t110) (fun t111 h_94 => 
 CondP t111 (
 R (.bool false) h_94) (
 CallsH Try.prog 22 #[q8_1] h_94 (fun t113 h_95 => 
 CallsH Try.prog 12 #[q8_1] h_95 (fun t116 h_96 => 
 Hp Try.prog false (Instr.extract t116 0) (fun t117 h_97 => 
 Hp Try.prog false (Instr.extract t116 1) (fun t118 h_98 => 
 Hp Try.prog true (nilS t27) (fun t121 _ => 
 Hp Try.prog true (Instr.fieldAt 53 t121 0) (fun t122 _ => 
 Hp Try.prog true (Instr.loadAt 22 t122) (fun t123 _ => 
 Hp Try.prog true (Builtin.len_ #[22] 3 #[t123]) (fun t124 _ => 
 Hp Try.prog true (binS .neq 3 (.tmp 119) (.tmp 124) t117 t124) (fun t125 _ => 
 Join1 (fun k_26 h_99 => guardP t125 false (k_26 t118 h_99) (k_26 undef h_99) ⟨⟩ ⟨⟩) (fun t127 _ => 
 Join1 (fun k_27 h_100 => guardP t125 false (k_27 t27 h_100) (k_27 undef h_100) ⟨⟩ ⟨⟩) (fun t128 _ => 
 Join1 (fun k_28 h_101 => guardP t125 false (Hp Try.prog true (nilS t128) k_28 h_101 ⟨⟩) (k_28 undef h_101) ⟨⟩ ⟨⟩) (fun t129 _ => 
 Join1 (fun k_29 h_102 => guardP t125 false (Hp Try.prog true (Instr.fieldAt 53 t129 0) k_29 h_102 ⟨⟩) (k_29 undef h_102) ⟨⟩ ⟨⟩) (fun t130 _ => 
 Join1 (fun k_30 h_103 => guardP t125 false (Hp Try.prog true (Instr.loadAt 22 t130) k_30 h_103 ⟨⟩) (k_30 undef h_103) ⟨⟩ ⟨⟩) (fun t131 _ => 
 Join1 (fun k_31 h_104 => guardP t125 false (CallsH Try.prog 25 #[t131] h_104 k_31 ⟨⟩) (k_31 undef h_104) ⟨⟩ ⟨⟩) (fun t132 h_105 => 
 Join1 (fun k_32 h_106 => guardP t125 false (Hp Try.prog true (binS .neq 2 (.tmp 127) (.tmp 132) t127 t132) k_32 h_106 ⟨⟩) (k_32 undef h_106) ⟨⟩ ⟨⟩) (fun t133 _ => 
 Hp Try.prog true (pickS t125 (.bool true) t133) (fun t134 _ => 
 Join1 (fun k_33 h_107 => guardP t134 false (k_33 t113 h_107) (k_33 undef h_107) ⟨⟩ ⟨⟩) (fun t136 _ => 
 Join1 (fun k_34 h_108 => guardP t134 false (k_34 t27 h_108) (k_34 undef h_108) ⟨⟩ ⟨⟩) (fun t137 _ => 
 Join1 (fun k_35 h_109 => guardP t134 false (Hp Try.prog true (nilS t137) k_35 h_109 ⟨⟩) (k_35 undef h_109) ⟨⟩ ⟨⟩) (fun t138 _ => 
 Join1 (fun k_36 h_110 => guardP t134 false (Hp Try.prog true (Instr.fieldAt 53 t138 0) k_36 h_110 ⟨⟩) (k_36 undef h_110) ⟨⟩ ⟨⟩) (fun t139 _ => 
 Join1 (fun k_37 h_111 => guardP t134 false (Hp Try.prog true (Instr.loadAt 22 t139) k_37 h_111 ⟨⟩) (k_37 undef h_111) ⟨⟩ ⟨⟩) (fun t140 _ => 
 Join1 (fun k_38 h_112 => guardP t134 false (k_38 script1 h_112) (k_38 undef h_112) ⟨⟩ ⟨⟩) (fun t141 _ => 
 Join1 (fun k_39 h_113 => guardP t134 false (k_39 i12 h_113) (k_39 undef h_113) ⟨⟩ ⟨⟩) (fun t142 _ => 
 Join1 (fun k_40 h_114 => guardP t134 false (Hp Try.prog true (Instr.indexAt 50 t141 t142) k_40 h_114 ⟨⟩) (k_40 undef h_114) ⟨⟩ ⟨⟩) (fun t143 _ => 
 Join1 (fun k_41 h_115 => guardP t134 false (Hp Try.prog true (Instr.fieldAt 59 t143 1) k_41 h_115 ⟨⟩) (k_41 undef h_115) ⟨⟩ ⟨⟩) (fun t144 _ => 
 Join1 (fun k_42 h_116 => guardP t134 false (Hp Try.prog true (Instr.loadAt 3 t144) k_42 h_116 ⟨⟩) (k_42 undef h_116) ⟨⟩ ⟨⟩) (fun t145 _ => 
 Join1 (fun k_43 h_117 => guardP t134 false (CallsH Try.prog 26 #[t136, t140, t145] h_117 k_43 ⟨⟩) (k_43 undef h_117) ⟨⟩ ⟨⟩) (fun t146 h_118 => 
 Join1 (fun k_44 h_119 => guardP t134 false (Hp Try.prog true (Op.unary .not t146) k_44 h_119 ⟨⟩) (k_44 undef h_119) ⟨⟩ ⟨⟩) (fun t147 _ => 
 Hp Try.prog true (pickS t134 (.bool true) t147) (fun t148 _ => 
 Join1 (fun k_45 h_120 => guardP t148 false (k_45 t113 h_120) (k_45 undef h_120) ⟨⟩ ⟨⟩) (fun t150 _ => 
 Join1 (fun k_46 h_121 => guardP t148 false (k_46 t27 h_121) (k_46 undef h_121) ⟨⟩ ⟨⟩) (fun t151 _ => 
 Join1 (fun k_47 h_122 => guardP t148 false (Hp Try.prog true (nilS t151) k_47 h_122 ⟨⟩) (k_47 undef h_122) ⟨⟩ ⟨⟩) (fun t152 _ => 
 Join1 (fun k_48 h_123 => guardP t148 false (Hp Try.prog true (Instr.fieldAt 53 t152 0) k_48 h_123 ⟨⟩) (k_48 undef h_123) ⟨⟩ ⟨⟩) (fun t153 _ => 
 Join1 (fun k_49 h_124 => guardP t148 false (Hp Try.prog true (Instr.loadAt 22 t153) k_49 h_124 ⟨⟩) (k_49 undef h_124) ⟨⟩ ⟨⟩) (fun t154 _ => 
 Join1 (fun k_50 h_125 => guardP t148 false (CallsH Try.prog 26 #[t150, t154, (.int .i64 0)] h_125 k_50 ⟨⟩) (k_50 undef h_125) ⟨⟩ ⟨⟩) (fun t155 h_126 => 
 Join1 (fun k_51 h_127 => guardP t148 false (Hp Try.prog true (Op.unary .not t155) k_51 h_127 ⟨⟩) (k_51 undef h_127) ⟨⟩ ⟨⟩) (fun t156 _ => 
 Hp Try.prog true (pickS t148 (.bool true) t156) (fun t157 _ => 
 CondP t157 (
 R (.bool false) h_126) (
 Hp Try.prog false (binS .add 3 (.tmp 59) (.const (.int .i64 1)) i12 (.int .i64 1)) (fun t60 h_128 => 
 X q8_1 old10_1 was11_1 t60 h_128) h_126 ⟨⟩) ⟨⟩ ⟨⟩) #[] ⟨⟩) #[] ⟨⟩ ⟨⟩) h_118 ⟨⟩ ⟨⟩) h_118 ⟨⟩ ⟨⟩) #[] ⟨⟩ ⟨⟩) #[] ⟨⟩ ⟨⟩) #[] ⟨⟩ ⟨⟩) #[] ⟨⟩ ⟨⟩) #[] ⟨⟩) #[] ⟨⟩ ⟨⟩) h_105 ⟨⟩ ⟨⟩) h_105 ⟨⟩ ⟨⟩) #[] ⟨⟩ ⟨⟩) #[] ⟨⟩ ⟨⟩) #[] ⟨⟩ ⟨⟩) #[] ⟨⟩ ⟨⟩) h_105 ⟨⟩ ⟨⟩) #[] ⟨⟩ ⟨⟩) #[] ⟨⟩ ⟨⟩) #[] ⟨⟩ ⟨⟩) #[] ⟨⟩ ⟨⟩) #[] ⟨⟩) #[] ⟨⟩ ⟨⟩) h_98 ⟨⟩ ⟨⟩) h_98 ⟨⟩ ⟨⟩) #[] ⟨⟩ ⟨⟩) #[] ⟨⟩ ⟨⟩) #[] ⟨⟩ ⟨⟩) #[] ⟨⟩ ⟨⟩) #[] ⟨⟩) #[] ⟨⟩) h_98 ⟨⟩) #[] ⟨⟩) #[] ⟨⟩) h_97 ⟨⟩) h_96 ⟨⟩) ⟨⟩) ⟨⟩) ⟨⟩ ⟨⟩) h_93 ⟨⟩) h_91 ⟨⟩ ⟨⟩) h_89 ⟨⟩ ⟨⟩) h_87 ⟨⟩ ⟨⟩) h_85 ⟨⟩ ⟨⟩) h_83 ⟨⟩ ⟨⟩) h_81 ⟨⟩ ⟨⟩) h_79 ⟨⟩ ⟨⟩) h_77 ⟨⟩ ⟨⟩) h_76 ⟨⟩) h_42 ⟨⟩ ⟨⟩) ⟨⟩ ⟨⟩) h_41 ⟨⟩) h_40 ⟨⟩) h_39 ⟨⟩) h_38 ⟨⟩) h_37 ⟨⟩) (
 LoopC 1 (fun (X_1 : Value → Heap → Prop) => fun i16 h_129 =>
 Hp Try.prog false (Builtin.len_ #[56] 3 #[old10]) (fun t160 h_130 => 
 Hp Try.prog false (binS .lss 3 (.tmp 158) (.tmp 160) i16 t160) (fun t161 h_131 => 
 CondP t161 (
 Hp Try.prog true (Instr.indexAt 56 old10 i16) (fun t166 _ => 
 Hp Try.prog true (Instr.loadAt 25 t166) (fun t167 _ => 
 Hp Try.prog true (Instr.indexAt 57 was11 i16) (fun t171 _ => 
 Hp Try.prog true (Instr.fieldAt 53 t171 0) (fun t172 _ => 
 Hp Try.prog true (Instr.loadAt 22 t172) (fun t173 _ => 
 CallsH Try.prog 22 #[t167] h_131 (fun t168 h_132 => Hp Try.prog true (Instr.loadAt 22 t172) (fun u _ => u = t173) h_132 ⟨⟩ ∧ 
 CallsH Try.prog 26 #[t168, t173, (.int .i64 0)] h_132 (fun t174 h_133 => 
 Hp Try.prog true (Op.unary .not t174) (fun t175 _ => 
 Join1 (fun k_52 h_134 => guardP t175 false (k_52 old10 h_134) (k_52 undef h_134) ⟨⟩ ⟨⟩) (fun t177 _ => 
 Join1 (fun k_53 h_135 => guardP t175 false (k_53 i16 h_135) (k_53 undef h_135) ⟨⟩ ⟨⟩) (fun t178 _ => 
 Join1 (fun k_54 h_136 => guardP t175 false (Hp Try.prog true (Instr.indexAt 56 t177 t178) k_54 h_136 ⟨⟩) (k_54 undef h_136) ⟨⟩ ⟨⟩) (fun t179 _ => 
 Join1 (fun k_55 h_137 => guardP t175 false (Hp Try.prog true (Instr.loadAt 25 t179) k_55 h_137 ⟨⟩) (k_55 undef h_137) ⟨⟩ ⟨⟩) (fun t180 _ => 
 Join1 (fun k_56 h_138 => guardP t175 false (k_56 q8 h_138) (k_56 undef h_138) ⟨⟩ ⟨⟩) (fun t181 _ => 
 Join1 (fun k_57 h_139 => guardP t175 false (k_57 was11 h_139) (k_57 undef h_139) ⟨⟩ ⟨⟩) (fun t183 _ => 
 Join1 (fun k_58 h_140 => guardP t175 false (k_58 i16 h_140) (k_58 undef h_140) ⟨⟩ ⟨⟩) (fun t184 _ => 
 Join1 (fun k_59 h_141 => guardP t175 false (Hp Try.prog true (Instr.indexAt 57 t183 t184) k_59 h_141 ⟨⟩) (k_59 undef h_141) ⟨⟩ ⟨⟩) (fun t185 _ => 
 Join1 (fun k_60 h_142 => guardP t175 false (Hp Try.prog true (Instr.fieldAt 53 t185 0) k_60 h_142 ⟨⟩) (k_60 undef h_142) ⟨⟩ ⟨⟩) (fun t186 _ => 
 Join1 (fun k_61 h_143 => guardP t175 false (Hp Try.prog true (Instr.loadAt 22 t186) k_61 h_143 ⟨⟩) (k_61 undef h_143) ⟨⟩ ⟨⟩) (fun t187 _ => 
 Join1 (fun k_62 h_144 => guardP t175 false (k_62 t27 h_144) (k_62 undef h_144) ⟨⟩ ⟨⟩) (fun t188 _ => 
 Join1 (fun k_63 h_145 => guardP t175 false (Hp Try.prog true (nilS t188) k_63 h_145 ⟨⟩) (k_63 undef h_145) ⟨⟩ ⟨⟩) (fun t189 _ => 
 Join1 (fun k_64 h_146 => guardP t175 false (Hp Try.prog true (Instr.fieldAt 53 t189 0) k_64 h_146 ⟨⟩) (k_64 undef h_146) ⟨⟩ ⟨⟩) (fun t190 _ => 
 Join1 (fun k_65 h_147 => guardP t175 false (Hp Try.prog true (Instr.loadAt 22 t190) k_65 h_147 ⟨⟩) (k_65 undef h_147) ⟨⟩ ⟨⟩) (fun t191 _ => 
 Join1 (fun k_66 h_148 => guardP t175 false (CallsH Try.prog 19 #[t180, t181] h_148 k_66 ⟨⟩) (k_66 undef h_148) ⟨⟩ ⟨⟩) (fun t182 h_149 => Join1 (fun k h => guardP t175 false (Hp Try.prog true (Instr.loadAt 22 t190) k h ⟨⟩) (k undef h) ⟨⟩ ⟨⟩) (fun u _ => u = t191) h_149 ⟨⟩ ⟨⟩ ∧ Join1 (fun k h => guardP t175 false (Hp Try.prog true (Instr.loadAt 22 t186) k h ⟨⟩) (k undef h) ⟨⟩ ⟨⟩) (fun u _ => u = t187) h_149 ⟨⟩ ⟨⟩ ∧ 
 Join1 (fun k_67 h_150 => guardP t175 false (CallsH Try.prog 27 #[t187, t191] h_150 k_67 ⟨⟩) (k_67 undef h_150) ⟨⟩ ⟨⟩) (fun t192 h_151 => 
 Join1 (fun k_68 h_152 => guardP t175 false (Hp Try.prog true (binS .neq 4 (.tmp 182) (.tmp 192) t182 t192) k_68 h_152 ⟨⟩) (k_68 undef h_152) ⟨⟩ ⟨⟩) (fun t193 _ => 
 Hp Try.prog true (pickS t175 (.bool true) t193) (fun t194 _ => 
 Join1 (fun k_69 h_153 => guardP t194 false (k_69 old10 h_153) (k_69 undef h_153) ⟨⟩ ⟨⟩) (fun t196 _ => 
 Join1 (fun k_70 h_154 => guardP t194 false (k_70 i16 h_154) (k_70 undef h_154) ⟨⟩ ⟨⟩) (fun t197 _ => 
 Join1 (fun k_71 h_155 => guardP t194 false (Hp Try.prog true (Instr.indexAt 56 t196 t197) k_71 h_155 ⟨⟩) (k_71 undef h_155) ⟨⟩ ⟨⟩) (fun t198 _ => 
 Join1 (fun k_72 h_156 => guardP t194 false (Hp Try.prog true (Instr.loadAt 25 t198) k_72 h_156 ⟨⟩) (k_72 undef h_156) ⟨⟩ ⟨⟩) (fun t199 _ => 
 Join1 (fun k_73 h_157 => guardP t194 false (CallsH Try.prog 19 #[t199, (.pointer none)] h_157 k_73 ⟨⟩) (k_73 undef h_157) ⟨⟩ ⟨⟩) (fun t200 h_158 => 
 Hp Try.prog true (pickS t194 (.bool true) t200) (fun t201 _ => 
 CondP t201 (
 R (.bool false) h_158) (
 Hp Try.prog false (binS .add 3 (.tmp 162) (.const (.int .i64 1)) i16 (.int .i64 1)) (fun t163 h_159 => 
 X_1 t163 h_159) h_158 ⟨⟩) ⟨⟩ ⟨⟩) #[] ⟨⟩) h_151 ⟨⟩ ⟨⟩) h_151 ⟨⟩ ⟨⟩) #[] ⟨⟩ ⟨⟩) #[] ⟨⟩ ⟨⟩) #[] ⟨⟩ ⟨⟩) #[] ⟨⟩) #[] ⟨⟩ ⟨⟩) h_149 ⟨⟩ ⟨⟩) h_133 ⟨⟩ ⟨⟩) h_133 ⟨⟩ ⟨⟩) #[] ⟨⟩ ⟨⟩) #[] ⟨⟩ ⟨⟩) #[] ⟨⟩ ⟨⟩) h_133 ⟨⟩ ⟨⟩) #[] ⟨⟩ ⟨⟩) #[] ⟨⟩ ⟨⟩) #[] ⟨⟩ ⟨⟩) #[] ⟨⟩ ⟨⟩) #[] ⟨⟩ ⟨⟩) h_133 ⟨⟩ ⟨⟩) #[] ⟨⟩ ⟨⟩) #[] ⟨⟩ ⟨⟩) #[] ⟨⟩ ⟨⟩) #[] ⟨⟩) ⟨⟩) ⟨⟩) h_131 ⟨⟩) #[] ⟨⟩) #[] ⟨⟩) h_131 ⟨⟩) #[] ⟨⟩) (
 CallsH Try.prog 28 #[] h_131 (fun t202 h_160 => 
 Join1 (fun k_74 h_161 => guardP t202 true (CallsH Try.prog 13 #[] h_161 k_74 ⟨⟩) (k_74 undef h_161) ⟨⟩ ⟨⟩) (fun t204 h_162 => 
 Hp Try.prog false (pickS t202 t204 (.bool false)) (fun t205 h_163 => 
 R t205 h_163) h_162 ⟨⟩) h_160 ⟨⟩ ⟨⟩) ⟨⟩) ⟨⟩ ⟨⟩) h_130 ⟨⟩) h_129 ⟨⟩) [(.int .i64 0)] h_37 ⟨⟩) ⟨⟩ ⟨⟩) h_36 ⟨⟩) h_35 ⟨⟩) [t37, (.slice none 0 0), (.slice none 0 0), (.int .i64 0)] h_34 ⟨⟩) ⟨⟩ ⟨⟩) h_33 ⟨⟩) ⟨⟩) ⟨⟩ ⟨⟩) h_18 ⟨⟩) h_17 ⟨⟩) h_16 ⟨⟩) ⟨⟩) h_14 ⟨⟩) h_13 ⟨⟩) ⟨⟩) h_11 ⟨⟩) h_9 ⟨⟩) ⟨⟩ ⟨⟩) h_8 ⟨⟩) h_6 ⟨⟩ ⟨⟩) h_4 ⟨⟩ ⟨⟩) h_2 ⟨⟩ ⟨⟩) h_1 ⟨⟩) h ⟨⟩

theorem n7_calls {first0 script1 : Value} {R : Value → Heap → Prop} {h : Heap} (H : n7 first0 script1 R h) : CallsH Try.prog 7 #[first0, script1] h R ⟨⟩ :=
 callsH_of_eq Try.follow (.n none .l (.n none .l (.n none .l (.n none .l (.n none .l (.n none .l (.n none .l (.n none .l (.n none .l (.n none (.n none .l (.n none (.n (some [9, 11, 12, 13]) (.n none .l (.n none (.n none (.n none .l (.n (some [9, 11, 12]) .l .l)) .l) .l)) .l) .l)) (.n none (.n none .l (.n none (.n (some [17]) .l .l) .l)) .l))))))))))) Try.func7 (by kernel_rfl) (by kernel_rfl) (by kernel_rfl) H

/-- palimpsest/palimpsestlaw13.num -/
def n9 (e0 : Value) (R : Value → Heap → Prop) (h : Heap) : Prop :=
 R e0 h

theorem n9_calls {e0 : Value} {R : Value → Heap → Prop} {h : Heap} (H : n9 e0 R h) : CallsH Try.prog 9 #[e0] h R ⟨⟩ :=
 callsH_of_eq Try.follow .l Try.func9 (by kernel_rfl) (by kernel_rfl) (by kernel_rfl) H

/-- palimpsest/palimpsestlaw13.works -/
def n13 (R : Value → Heap → Prop) (h : Heap) : Prop :=
 Hp Try.prog false (Instr.build 24 #[(1, (.int .i64 10))]) (fun t10 h_1 => 
 Hp Try.prog false (Instr.build 24 #[(0, (.int .i64 20)), (1, (.int .i64 5))]) (fun t11 h_2 => 
 Hp Try.prog false (Instr.buildSlice 22 2 #[(0, t10), (1, t11)]) (fun t12 h_3 => 
 CallsH Try.prog 8 #[t12] h_3 (fun t13 h_4 => 
 Hp Try.prog false (Instr.extract t13 0) (fun t14 h_5 => 
 Hp Try.prog false (Instr.extract t13 1) (fun t15 h_6 => 
 Hp Try.prog false (binS .eql 25 (.tmp 16) (.const (.pointer none)) t14 (.pointer none)) (fun t17 h_7 => 
 Join1 (fun k h_8 => guardP t17 false (k t15 h_8) (k undef h_8) ⟨⟩ ⟨⟩) (fun t19 h_9 => 
 Join1 (fun k_1 h_10 => guardP t17 false (CallsH Try.prog 9 #[t19] h_10 k_1 ⟨⟩) (k_1 undef h_10) ⟨⟩ ⟨⟩) (fun t20 h_11 => 
 Join1 (fun k_2 h_12 => guardP t17 false (Hp Try.prog false (binS .neq 3 (.tmp 20) (.const (.int .i64 0)) t20 (.int .i64 0)) k_2 h_12 ⟨⟩) (k_2 undef h_12) ⟨⟩ ⟨⟩) (fun t21 h_13 => 
 Hp Try.prog false (pickS t17 (.bool true) t21) (fun t22 h_14 => 
 Join1 (fun k_3 h_15 => guardP t22 false (k_3 t14 h_15) (k_3 undef h_15) ⟨⟩ ⟨⟩) (fun t24 h_16 => 
 Join1 (fun k_4 h_17 => guardP t22 false (CallsH Try.prog 22 #[t24] h_17 k_4 ⟨⟩) (k_4 undef h_17) ⟨⟩ ⟨⟩) (fun t25 h_18 => 
 Join1 (fun k_5 h_19 => guardP t22 false (Hp Try.prog false (binS .eql 44 (.tmp 25) (.const .nilFunc) t25 .nilFunc) k_5 h_19 ⟨⟩) (k_5 undef h_19) ⟨⟩ ⟨⟩) (fun t26 h_20 => 
 Hp Try.prog false (pickS t22 (.bool true) t26) (fun t27 h_21 => 
 Join1 (fun k_6 h_22 => guardP t27 false (k_6 t14 h_22) (k_6 undef h_22) ⟨⟩ ⟨⟩) (fun t29 h_23 => 
 Join1 (fun k_7 h_24 => guardP t27 false (CallsH Try.prog 20 #[t29, (.int .i64 1)] h_24 k_7 ⟨⟩) (k_7 undef h_24) ⟨⟩ ⟨⟩) (fun t30 h_25 => 
 Join1 (fun k_8 h_26 => guardP t27 false (Hp Try.prog false (binS .eql 44 (.tmp 30) (.const .nilFunc) t30 .nilFunc) k_8 h_26 ⟨⟩) (k_8 undef h_26) ⟨⟩ ⟨⟩) (fun t31 h_27 => 
 Hp Try.prog false (pickS t27 (.bool true) t31) (fun t32 h_28 => 
 CondP t32 (
 R (.bool false) h_28) (
 Hp Try.prog false (Instr.build 24 #[(0, (.int .i64 10)), (1, (.int .i64 10))]) (fun t35 h_29 => 
 Hp Try.prog false (Instr.buildSlice 22 1 #[(0, t35)]) (fun t36 h_30 => 
 CallsH Try.prog 10 #[t14, t36] h_30 (fun t37 h_31 => 
 Hp Try.prog false (Instr.extract t37 0) (fun t38 h_32 => 
 Hp Try.prog false (Instr.extract t37 1) (fun t39 h_33 => 
 CallsH Try.prog 40 #[t14, (.int .i64 4)] h_33 (fun t42 h_34 => 
 Hp Try.prog false (Instr.extract t42 0) (fun t43 h_35 => 
 Hp Try.prog false (Instr.extract t42 1) (fun t44 h_36 => 
 Hp Try.prog false (Instr.alloc 24 true undef) (fun x5 h_37 => 
 Hp Try.prog false (storeS 24 x5 t43) (fun _ h_38 => 
 CallsH Try.prog 12 #[t14] h_38 (fun t47 h_39 => 
 Hp Try.prog false (Instr.extract t47 0) (fun t48 h_40 => 
 Hp Try.prog false (Instr.extract t47 1) (fun t49 h_41 => 
 Hp Try.prog false (binS .eql 2 (.tmp 50) (.const (.int .i64 10)) t38 (.int .i64 10)) (fun t51 h_42 => 
 Join1 (fun k_9 h_43 => guardP t51 true (k_9 t39 h_43) (k_9 undef h_43) ⟨⟩ ⟨⟩) (fun t53 h_44 => 
 Join1 (fun k_10 h_45 => guardP t51 true (CallsH Try.prog 9 #[t53] h_45 k_10 ⟨⟩) (k_10 undef h_45) ⟨⟩ ⟨⟩) (fun t54 h_46 => 
 Join1 (fun k_11 h_47 => guardP t51 true (Hp Try.prog false (binS .eql 3 (.tmp 54) (.const (.int .i64 0)) t54 (.int .i64 0)) k_11 h_47 ⟨⟩) (k_11 undef h_47) ⟨⟩ ⟨⟩) (fun t55 h_48 => 
 Hp Try.prog false (pickS t51 t55 (.bool false)) (fun t56 h_49 => 
 Join1 (fun k_12 h_50 => guardP t56 true (Hp Try.prog false (Instr.loadAt 24 x5) k_12 h_50 ⟨⟩) (k_12 undef h_50) ⟨⟩ ⟨⟩) (fun t58 h_51 => 
 Join1 (fun k_13 h_52 => guardP t56 true (Hp Try.prog false (Instr.build 24 #[(1, (.int .i64 4))]) k_13 h_52 ⟨⟩) (k_13 undef h_52) ⟨⟩ ⟨⟩) (fun t59 h_53 => 
 Join1 (fun k_14 h_54 => guardP t56 true (Hp Try.prog false (binS .eql 24 (.tmp 58) (.tmp 59) t58 t59) k_14 h_54 ⟨⟩) (k_14 undef h_54) ⟨⟩ ⟨⟩) (fun t60 h_55 => 
 Hp Try.prog false (pickS t56 t60 (.bool false)) (fun t61 h_56 => 
 Join1 (fun k_15 h_57 => guardP t61 true (k_15 t44 h_57) (k_15 undef h_57) ⟨⟩ ⟨⟩) (fun t63 h_58 => 
 Join1 (fun k_16 h_59 => guardP t61 true (CallsH Try.prog 9 #[t63] h_59 k_16 ⟨⟩) (k_16 undef h_59) ⟨⟩ ⟨⟩) (fun t64 h_60 => 
 Join1 (fun k_17 h_61 => guardP t61 true (Hp Try.prog false (binS .eql 3 (.tmp 64) (.const (.int .i64 0)) t64 (.int .i64 0)) k_17 h_61 ⟨⟩) (k_17 undef h_61) ⟨⟩ ⟨⟩) (fun t65 h_62 => 
 Hp Try.prog false (pickS t61 t65 (.bool false)) (fun t66 h_63 => 
 Join1 (fun k_18 h_64 => guardP t66 true (k_18 t48 h_64) (k_18 undef h_64) ⟨⟩ ⟨⟩) (fun t68 h_65 => 
 Join1 (fun k_19 h_66 => guardP t66 true (Hp Try.prog false (binS .eql 3 (.tmp 68) (.const (.int .i64 1)) t68 (.int .i64 1)) k_19 h_66 ⟨⟩) (k_19 undef h_66) ⟨⟩ ⟨⟩) (fun t69 h_67 => 
 Hp Try.prog false (pickS t66 t69 (.bool false)) (fun t70 h_68 => 
 Join1 (fun k_20 h_69 => guardP t70 true (k_20 t49 h_69) (k_20 undef h_69) ⟨⟩ ⟨⟩) (fun t72 h_70 => 
 Join1 (fun k_21 h_71 => guardP t70 true (Hp Try.prog false (binS .eql 2 (.tmp 72) (.const (.int .i64 21)) t72 (.int .i64 21)) k_21 h_71 ⟨⟩) (k_21 undef h_71) ⟨⟩ ⟨⟩) (fun t73 h_72 => 
 Hp Try.prog false (pickS t70 t73 (.bool false)) (fun t74 h_73 => 
 R t74 h_73) h_72 ⟨⟩) h_70 ⟨⟩ ⟨⟩) h_68 ⟨⟩ ⟨⟩) h_67 ⟨⟩) h_65 ⟨⟩ ⟨⟩) h_63 ⟨⟩ ⟨⟩) h_62 ⟨⟩) h_60 ⟨⟩ ⟨⟩) h_58 ⟨⟩ ⟨⟩) h_56 ⟨⟩ ⟨⟩) h_55 ⟨⟩) h_53 ⟨⟩ ⟨⟩) h_51 ⟨⟩ ⟨⟩) h_49 ⟨⟩ ⟨⟩) h_48 ⟨⟩) h_46 ⟨⟩ ⟨⟩) h_44 ⟨⟩ ⟨⟩) h_42 ⟨⟩ ⟨⟩) h_41 ⟨⟩) h_40 ⟨⟩) h_39 ⟨⟩) ⟨⟩) h_37 ⟨⟩) h_36 ⟨⟩) h_35 ⟨⟩) h_34 ⟨⟩) ⟨⟩) h_32 ⟨⟩) h_31 ⟨⟩) ⟨⟩) h_29 ⟨⟩) h_28 ⟨⟩) ⟨⟩ ⟨⟩) h_27 ⟨⟩) h_25 ⟨⟩ ⟨⟩) h_23 ⟨⟩ ⟨⟩) h_21 ⟨⟩ ⟨⟩) h_20 ⟨⟩) h_18 ⟨⟩ ⟨⟩) h_16 ⟨⟩ ⟨⟩) h_14 ⟨⟩ ⟨⟩) h_13 ⟨⟩) h_11 ⟨⟩ ⟨⟩) h_9 ⟨⟩ ⟨⟩) h_7 ⟨⟩ ⟨⟩) h_6 ⟨⟩) h_5 ⟨⟩) h_4 ⟨⟩) ⟨⟩) h_2 ⟨⟩) h_1 ⟨⟩) h ⟨⟩

theorem n13_calls {R : Value → Heap → Prop} {h : Heap} (H : n13  R h) : CallsH Try.prog 13 #[] h R ⟨⟩ :=
 callsH_of_eq Try.follow .l Try.func13 (by kernel_rfl) (by kernel_rfl) (by kernel_rfl) H

/-- palimpsest/palimpsestlaw13.some -/
def n14 (l0 : Value) (R : Value → Heap → Prop) (h : Heap) : Prop :=
 LoopC 2 (fun (X : Value → Value → Heap → Prop) => fun out3 i4 h_1 =>
 Hp Try.prog false (Builtin.len_ #[22] 3 #[l0]) (fun t7 h_2 => 
 Hp Try.prog false (binS .lss 3 (.tmp 5) (.tmp 7) i4 t7) (fun t8 h_3 => 
 CondP t8 (
 JoinN 1 (fun (k : Value → Heap → Prop) h_4 =>
 JoinN 1 (fun (k_1 : Value → Heap → Prop) h_5 =>
 Hp Try.prog false (Instr.indexAt 22 l0 i4) (fun t13 h_6 => 
 Hp Try.prog false (Instr.loadAt 24 t13) (fun t14 h_7 => 
 CallsH Try.prog 18 #[t14] h_7 (fun t15 h_8 => 
 Join1 (fun k_2 h_9 => guardP t15 true (k_2 l0 h_9) (k_2 undef h_9) ⟨⟩ ⟨⟩) (fun t17 h_10 => 
 Join1 (fun k_3 h_11 => guardP t15 true (k_3 i4 h_11) (k_3 undef h_11) ⟨⟩ ⟨⟩) (fun t18 h_12 => 
 Join1 (fun k_4 h_13 => guardP t15 true (Hp Try.prog false (Instr.indexAt 22 t17 t18) k_4 h_13 ⟨⟩) (k_4 undef h_13) ⟨⟩ ⟨⟩) (fun t19 h_14 => 
 Join1 (fun k_5 h_15 => guardP t15 true (Hp Try.prog false (Instr.fieldAt 24 t19 1) k_5 h_15 ⟨⟩) (k_5 undef h_15) ⟨⟩ ⟨⟩) (fun t20 h_16 => 
 Join1 (fun k_6 h_17 => guardP t15 true (Hp Try.prog false (Instr.loadAt 2 t20) k_6 h_17 ⟨⟩) (k_6 undef h_17) ⟨⟩ ⟨⟩) (fun t21 h_18 => 
 Join1 (fun k_7 h_19 => guardP t15 true (Hp Try.prog false (binS .lss 2 (.tmp 21) (.const (.int .i64 1000000)) t21 (.int .i64 1000000)) k_7 h_19 ⟨⟩) (k_7 undef h_19) ⟨⟩ ⟨⟩) (fun t22 h_20 => 
 Hp Try.prog false (pickS t15 t22 (.bool false)) (fun t23 h_21 => 
 CondP t23 (
 Hp Try.prog false (Instr.indexAt 22 l0 i4) (fun t27 h_22 => 
 Hp Try.prog false (Instr.loadAt 24 t27) (fun t28 h_23 => 
 Hp Try.prog false (Instr.buildSlice 22 1 #[(0, t28)]) (fun t29 h_24 => 
 Hp Try.prog false (Builtin.append_ #[22, 22] 22 #[out3, t29]) (fun t30 h_25 => 
 k_1 t30 h_25) h_24 ⟨⟩) h_23 ⟨⟩) h_22 ⟨⟩) h_21 ⟨⟩) (
 k_1 out3 h_21) ⟨⟩ ⟨⟩) h_20 ⟨⟩) h_18 ⟨⟩ ⟨⟩) h_16 ⟨⟩ ⟨⟩) h_14 ⟨⟩ ⟨⟩) h_12 ⟨⟩ ⟨⟩) h_10 ⟨⟩ ⟨⟩) h_8 ⟨⟩ ⟨⟩) ⟨⟩) h_6 ⟨⟩) h_5 ⟨⟩)
 (fun out3_1 h_26 =>
 k out3_1 h_26) h_4 ⟨⟩ ⟨⟩)
 (fun out3_2 h_27 =>
 Hp Try.prog false (binS .add 3 (.tmp 9) (.const (.int .i64 1)) i4 (.int .i64 1)) (fun t10 h_28 => 
 X out3_2 t10 h_28) h_27 ⟨⟩) h_3 ⟨⟩ ⟨⟩) (
 R out3 h_3) ⟨⟩ ⟨⟩) h_2 ⟨⟩) h_1 ⟨⟩) [(.slice none 0 0), (.int .i64 0)] h ⟨⟩

theorem n14_calls {l0 : Value} {R : Value → Heap → Prop} {h : Heap} (H : n14 l0 R h) : CallsH Try.prog 14 #[l0] h R ⟨⟩ :=
 callsH_of_eq Try.follow (.n none .l (.n none .l (.n none (.n none .l (.n none (.n (some [4, 5]) (.n none .l (.n (some [4]) (.n (some [4]) .l .l) .l)) .l) .l)) .l))) Try.func14 (by kernel_rfl) (by kernel_rfl) (by kernel_rfl) H

/-- palimpsest/palimpsestlaw13.holds -/
def n21 (l0 at1 : Value) (R : Value → Heap → Prop) (h : Heap) : Prop :=
 LoopC 1 (fun (X : Value → Heap → Prop) => fun i5 h_1 =>
 Hp Try.prog false (Builtin.len_ #[22] 3 #[l0]) (fun t8 h_2 => 
 Hp Try.prog false (binS .lss 3 (.tmp 6) (.tmp 8) i5 t8) (fun t9 h_3 => 
 CondP t9 (
 Hp Try.prog true (Instr.indexAt 22 l0 i5) (fun t15 _ => 
 Hp Try.prog true (Instr.fieldAt 24 t15 0) (fun t16 _ => 
 Hp Try.prog true (Instr.loadAt 2 t16) (fun t17 _ => 
 Hp Try.prog true (binS .geq 2 (.tmp 12) (.tmp 17) at1 t17) (fun t18 _ => 
 Join1 (fun k h_4 => guardP t18 true (k at1 h_4) (k undef h_4) ⟨⟩ ⟨⟩) (fun t20 _ => 
 Join1 (fun k_1 h_5 => guardP t18 true (k_1 l0 h_5) (k_1 undef h_5) ⟨⟩ ⟨⟩) (fun t21 _ => 
 Join1 (fun k_2 h_6 => guardP t18 true (k_2 i5 h_6) (k_2 undef h_6) ⟨⟩ ⟨⟩) (fun t22 _ => 
 Join1 (fun k_3 h_7 => guardP t18 true (Hp Try.prog true (Instr.indexAt 22 t21 t22) k_3 h_7 ⟨⟩) (k_3 undef h_7) ⟨⟩ ⟨⟩) (fun t23 _ => 
 Join1 (fun k_4 h_8 => guardP t18 true (Hp Try.prog true (Instr.fieldAt 24 t23 0) k_4 h_8 ⟨⟩) (k_4 undef h_8) ⟨⟩ ⟨⟩) (fun t24 _ => 
 Join1 (fun k_5 h_9 => guardP t18 true (Hp Try.prog true (Instr.loadAt 2 t24) k_5 h_9 ⟨⟩) (k_5 undef h_9) ⟨⟩ ⟨⟩) (fun t25 _ => 
 Join1 (fun k_6 h_10 => guardP t18 true (Hp Try.prog true (binS .sub 2 (.tmp 20) (.tmp 25) t20 t25) k_6 h_10 ⟨⟩) (k_6 undef h_10) ⟨⟩ ⟨⟩) (fun t26 _ => 
 Join1 (fun k_7 h_11 => guardP t18 true (k_7 l0 h_11) (k_7 undef h_11) ⟨⟩ ⟨⟩) (fun t27 _ => 
 Join1 (fun k_8 h_12 => guardP t18 true (k_8 i5 h_12) (k_8 undef h_12) ⟨⟩ ⟨⟩) (fun t28 _ => 
 Join1 (fun k_9 h_13 => guardP t18 true (Hp Try.prog true (Instr.indexAt 22 t27 t28) k_9 h_13 ⟨⟩) (k_9 undef h_13) ⟨⟩ ⟨⟩) (fun t29 _ => 
 Join1 (fun k_10 h_14 => guardP t18 true (Hp Try.prog true (Instr.fieldAt 24 t29 1) k_10 h_14 ⟨⟩) (k_10 undef h_14) ⟨⟩ ⟨⟩) (fun t30 _ => 
 Join1 (fun k_11 h_15 => guardP t18 true (Hp Try.prog true (Instr.loadAt 2 t30) k_11 h_15 ⟨⟩) (k_11 undef h_15) ⟨⟩ ⟨⟩) (fun t31 _ => 
 Join1 (fun k_12 h_16 => guardP t18 true (Hp Try.prog true (binS .lss 2 (.tmp 26) (.tmp 31) t26 t31) k_12 h_16 ⟨⟩) (k_12 undef h_16) ⟨⟩ ⟨⟩) (fun t32 _ => 
 Hp Try.prog true (pickS t18 t32 (.bool false)) (fun t33 _ => 
 CondP t33 (
 R (.bool true) h_3) (
 Hp Try.prog false (binS .add 3 (.tmp 10) (.const (.int .i64 1)) i5 (.int .i64 1)) (fun t11 h_17 => 
 X t11 h_17) h_3 ⟨⟩) ⟨⟩ ⟨⟩) #[] ⟨⟩) #[] ⟨⟩ ⟨⟩) h_3 ⟨⟩ ⟨⟩) #[] ⟨⟩ ⟨⟩) #[] ⟨⟩ ⟨⟩) #[] ⟨⟩ ⟨⟩) #[] ⟨⟩ ⟨⟩) #[] ⟨⟩ ⟨⟩) h_3 ⟨⟩ ⟨⟩) #[] ⟨⟩ ⟨⟩) #[] ⟨⟩ ⟨⟩) #[] ⟨⟩ ⟨⟩) #[] ⟨⟩ ⟨⟩) #[] ⟨⟩ ⟨⟩) #[] ⟨⟩) h_3 ⟨⟩) #[] ⟨⟩) #[] ⟨⟩) (
 R (.bool false) h_3) ⟨⟩ ⟨⟩) h_2 ⟨⟩) h_1 ⟨⟩) [(.int .i64 0)] h ⟨⟩

theorem n21_calls {l0 at1 : Value} {R : Value → Heap → Prop} {h : Heap} (H : n21 l0 at1 R h) : CallsH Try.prog 21 #[l0, at1] h R ⟨⟩ :=
 callsH_of_eq Try.follow (.n none .l (.n none (.n none .l (.n none (.n (some [6]) .l .l) .l)) .l)) Try.func21 (by kernel_rfl) (by kernel_rfl) (by kernel_rfl) H

/-- palimpsest/palimpsestlaw13.step -/
def n24 (q0 w1 s2 : Value) (R : Value → Heap → Prop) (h : Heap) : Prop :=
 Hp Try.prog false (Instr.box 59 s2) (fun s5 h_1 => 
 Hp Try.prog false (Instr.fieldAt 59 s5 0) (fun t26 h_2 => 
 Hp Try.prog false (Instr.loadAt 3 t26) (fun t27 h_3 => 
 JoinN 1 (fun (k : Value → Heap → Prop) h_4 =>
 Hp Try.prog false (binS .eql 3 (.tmp 27) (.const (.int .i64 0)) t27 (.int .i64 0)) (fun t29 h_5 => 
 CondP t29 (
 k t29 h_5) (
 Hp Try.prog false (binS .eql 3 (.tmp 27) (.const (.int .i64 1)) t27 (.int .i64 1)) (fun t30 h_6 => 
 CondP t30 (
 k t30 h_6) (
 Hp Try.prog false (binS .eql 3 (.tmp 27) (.const (.int .i64 2)) t27 (.int .i64 2)) (fun t31 h_7 => 
 k t31 h_7) h_6 ⟨⟩) ⟨⟩ ⟨⟩) h_5 ⟨⟩) ⟨⟩ ⟨⟩) h_4 ⟨⟩)
 (fun t28 h_8 =>
 CondP t28 (
 JoinN 1 (fun (k_1 : Value → Heap → Prop) h_9 =>
 Hp Try.prog true (Instr.fieldAt 59 s5 2) (fun t33 _ => 
 Hp Try.prog true (Instr.loadAt 22 t33) (fun t34 _ => 
 Hp Try.prog true (Instr.build 24 #[(0, (.int .i64 77))]) (fun t36 _ => 
 Hp Try.prog true (Instr.fieldAt 59 s5 2) (fun t39 _ => 
 Hp Try.prog true (Instr.loadAt 22 t39) (fun t40 _ => 
 Hp Try.prog true (Builtin.len_ #[22] 3 #[t40]) (fun t41 _ => 
 ((
 Hp Try.prog false (Instr.buildSlice 22 0 #[]) (fun t32 h_10 => Hp Try.prog true (Instr.loadAt 22 t39) (fun u _ => u = t40) h_10 ⟨⟩ ∧ Hp Try.prog true (Instr.loadAt 22 t33) (fun u _ => u = t34) h_10 ⟨⟩ ∧ 
 ((
 Hp Try.prog false (Builtin.append_ #[22, 22] 22 #[t32, t34]) (fun t35 h_11 => Hp Try.prog true (Instr.loadAt 22 t39) (fun u _ => u = t40) h_11 ⟨⟩ ∧ 
 Hp Try.prog false (Instr.buildSlice 22 1 #[(0, t36)]) (fun t37 h_12 => Hp Try.prog true (Instr.loadAt 22 t39) (fun u _ => u = t40) h_12 ⟨⟩ ∧ Hp Try.prog true (Instr.loadAt 22 t33) (fun u _ => u = t34) h_12 ⟨⟩ ∧ 
 Hp Try.prog false (Builtin.append_ #[22, 22] 22 #[t35, t37]) (fun t38 h_13 => Hp Try.prog true (Instr.loadAt 22 t39) (fun u _ => u = t40) h_13 ⟨⟩ ∧ 
 Hp Try.prog true (Instr.sliceAt 22 t38 none (some t41) none) (fun t42 _ => 
 k_1 t42 h_13) #[] ⟨⟩) h_12 ⟨⟩) h_11 ⟨⟩) h_10 ⟨⟩) ∧ (
 Hp Try.prog false (Instr.buildSlice 22 1 #[(0, t36)]) (fun t37_1 h_14 => Hp Try.prog true (Instr.loadAt 22 t39) (fun u _ => u = t40) h_14 ⟨⟩ ∧ Hp Try.prog true (Instr.loadAt 22 t33) (fun u _ => u = t34) h_14 ⟨⟩ ∧ 
 Hp Try.prog false (Builtin.append_ #[22, 22] 22 #[t32, t34]) (fun t35_1 h_15 => Hp Try.prog true (Instr.loadAt 22 t39) (fun u _ => u = t40) h_15 ⟨⟩ ∧ 
 Hp Try.prog false (Builtin.append_ #[22, 22] 22 #[t35_1, t37_1]) (fun t38_1 h_16 => Hp Try.prog true (Instr.loadAt 22 t39) (fun u _ => u = t40) h_16 ⟨⟩ ∧ 
 Hp Try.prog true (Instr.sliceAt 22 t38_1 none (some t41) none) (fun t42_1 _ => 
 k_1 t42_1 h_16) #[] ⟨⟩) h_15 ⟨⟩) h_14 ⟨⟩) h_10 ⟨⟩))) h_9 ⟨⟩) ∧ (
 Hp Try.prog false (Instr.buildSlice 22 1 #[(0, t36)]) (fun t37_2 h_17 => Hp Try.prog true (Instr.loadAt 22 t39) (fun u _ => u = t40) h_17 ⟨⟩ ∧ Hp Try.prog true (Instr.loadAt 22 t33) (fun u _ => u = t34) h_17 ⟨⟩ ∧ 
 Hp Try.prog false (Instr.buildSlice 22 0 #[]) (fun t32_1 h_18 => Hp Try.prog true (Instr.loadAt 22 t39) (fun u _ => u = t40) h_18 ⟨⟩ ∧ Hp Try.prog true (Instr.loadAt 22 t33) (fun u _ => u = t34) h_18 ⟨⟩ ∧ 
 Hp Try.prog false (Builtin.append_ #[22, 22] 22 #[t32_1, t34]) (fun t35_2 h_19 => Hp Try.prog true (Instr.loadAt 22 t39) (fun u _ => u = t40) h_19 ⟨⟩ ∧ 
 Hp Try.prog false (Builtin.append_ #[22, 22] 22 #[t35_2, t37_2]) (fun t38_2 h_20 => Hp Try.prog true (Instr.loadAt 22 t39) (fun u _ => u = t40) h_20 ⟨⟩ ∧ 
 Hp Try.prog true (Instr.sliceAt 22 t38_2 none (some t41) none) (fun t42_2 _ => 
 k_1 t42_2 h_20) #[] ⟨⟩) h_19 ⟨⟩) h_18 ⟨⟩) h_17 ⟨⟩) h_9 ⟨⟩))) #[] ⟨⟩) h_9 ⟨⟩) #[] ⟨⟩) #[] ⟨⟩) h_9 ⟨⟩) #[] ⟨⟩)
 (fun m7 h_21 =>
 CallsH Try.prog 10 #[q0, m7] h_21 (fun t46 h_22 => 
 Hp Try.prog false (Instr.extract t46 0) (fun t47 h_23 => 
 Hp Try.prog false (Instr.extract t46 1) (fun t48 h_24 => 
 Hp Try.prog false (Instr.fieldAt 59 s5 2) (fun t51 h_25 => 
 Hp Try.prog false (Instr.loadAt 22 t51) (fun t52 h_26 => 
 CallsH Try.prog 23 #[w1, t52] h_26 (fun t53 h_27 => 
 Hp Try.prog false (Instr.extract t53 0) (fun t54 h_28 => 
 Hp Try.prog false (Instr.extract t53 1) (fun t55 h_29 => 
 Hp Try.prog true (binS .eql 2 (.tmp 56) (.tmp 57) t47 t54) (fun t58 _ => 
 Join1 (fun k_2 h_30 => guardP t58 true (k_2 t48 h_30) (k_2 undef h_30) ⟨⟩ ⟨⟩) (fun t60 _ => 
 Join1 (fun k_3 h_31 => guardP t58 true (k_3 t55 h_31) (k_3 undef h_31) ⟨⟩ ⟨⟩) (fun t62 _ => 
 Join1 (fun k_4 h_32 => guardP t58 true (CallsH Try.prog 9 #[t60] h_32 k_4 ⟨⟩) (k_4 undef h_32) ⟨⟩ ⟨⟩) (fun t61 h_33 => 
 Join1 (fun k_5 h_34 => guardP t58 true (Hp Try.prog true (binS .eql 3 (.tmp 61) (.tmp 62) t61 t62) k_5 h_34 ⟨⟩) (k_5 undef h_34) ⟨⟩ ⟨⟩) (fun t63 _ => 
 Hp Try.prog true (pickS t58 t63 (.bool false)) (fun t64 _ => 
 Join1 (fun k_6 h_35 => guardP t64 true (k_6 m7 h_35) (k_6 undef h_35) ⟨⟩ ⟨⟩) (fun t66 _ => 
 Join1 (fun k_7 h_36 => guardP t64 true (Hp Try.prog true (Instr.fieldAt 59 s5 2) k_7 h_36 ⟨⟩) (k_7 undef h_36) ⟨⟩ ⟨⟩) (fun t67 _ => 
 Join1 (fun k_8 h_37 => guardP t64 true (Hp Try.prog true (Instr.loadAt 22 t67) k_8 h_37 ⟨⟩) (k_8 undef h_37) ⟨⟩ ⟨⟩) (fun t68 _ => 
 Join1 (fun k_9 h_38 => guardP t64 true (CallsH Try.prog 27 #[t66, t68] h_38 k_9 ⟨⟩) (k_9 undef h_38) ⟨⟩ ⟨⟩) (fun t69 h_39 => 
 Hp Try.prog true (pickS t64 t69 (.bool false)) (fun t70 _ => 
 Join1 (fun k_10 h_40 => guardP t70 true (k_10 m7 h_40) (k_10 undef h_40) ⟨⟩ ⟨⟩) (fun t72 _ => 
 Join1 (fun k_11 h_41 => guardP t70 true (Hp Try.prog true (Instr.fieldAt 59 s5 2) k_11 h_41 ⟨⟩) (k_11 undef h_41) ⟨⟩ ⟨⟩) (fun t73 _ => 
 Join1 (fun k_12 h_42 => guardP t70 true (Hp Try.prog true (Instr.loadAt 22 t73) k_12 h_42 ⟨⟩) (k_12 undef h_42) ⟨⟩ ⟨⟩) (fun t74 _ => 
 Join1 (fun k_13 h_43 => guardP t70 true (Hp Try.prog true (Builtin.len_ #[22] 3 #[t74]) k_13 h_43 ⟨⟩) (k_13 undef h_43) ⟨⟩ ⟨⟩) (fun t75 _ => 
 Join1 (fun k_14 h_44 => guardP t70 true (Hp Try.prog true (binS .add 3 (.tmp 75) (.const (.int .i64 1)) t75 (.int .i64 1)) k_14 h_44 ⟨⟩) (k_14 undef h_44) ⟨⟩ ⟨⟩) (fun t76 _ => 
 Join1 (fun k_15 h_45 => guardP t70 true (Hp Try.prog true (Instr.sliceAt 22 t72 none (some t76) none) k_15 h_45 ⟨⟩) (k_15 undef h_45) ⟨⟩ ⟨⟩) (fun t77 _ => 
 Join1 (fun k_16 h_46 => guardP t70 true (Hp Try.prog true (Instr.fieldAt 59 s5 2) k_16 h_46 ⟨⟩) (k_16 undef h_46) ⟨⟩ ⟨⟩) (fun t78 _ => 
 Join1 (fun k_17 h_47 => guardP t70 true (Hp Try.prog true (Instr.loadAt 22 t78) k_17 h_47 ⟨⟩) (k_17 undef h_47) ⟨⟩ ⟨⟩) (fun t79 _ => 
 Join1 (fun k_18 h_48 => guardP t70 true (Hp Try.prog true (Builtin.len_ #[22] 3 #[t79]) k_18 h_48 ⟨⟩) (k_18 undef h_48) ⟨⟩ ⟨⟩) (fun t80 _ => 
 Join1 (fun k_19 h_49 => guardP t70 true (Hp Try.prog true (Instr.indexAt 22 t77 t80) k_19 h_49 ⟨⟩) (k_19 undef h_49) ⟨⟩ ⟨⟩) (fun t81 _ => 
 Join1 (fun k_20 h_50 => guardP t70 true (Hp Try.prog true (Instr.fieldAt 24 t81 0) k_20 h_50 ⟨⟩) (k_20 undef h_50) ⟨⟩ ⟨⟩) (fun t82 _ => 
 Join1 (fun k_21 h_51 => guardP t70 true (Hp Try.prog true (Instr.loadAt 2 t82) k_21 h_51 ⟨⟩) (k_21 undef h_51) ⟨⟩ ⟨⟩) (fun t83 _ => 
 Join1 (fun k_22 h_52 => guardP t70 true (Hp Try.prog true (binS .eql 2 (.tmp 83) (.const (.int .i64 77)) t83 (.int .i64 77)) k_22 h_52 ⟨⟩) (k_22 undef h_52) ⟨⟩ ⟨⟩) (fun t84 _ => 
 Hp Try.prog true (pickS t70 t84 (.bool false)) (fun t85 _ => 
 R t85 h_39) #[] ⟨⟩) #[] ⟨⟩ ⟨⟩) h_39 ⟨⟩ ⟨⟩) #[] ⟨⟩ ⟨⟩) #[] ⟨⟩ ⟨⟩) #[] ⟨⟩ ⟨⟩) h_39 ⟨⟩ ⟨⟩) #[] ⟨⟩ ⟨⟩) #[] ⟨⟩ ⟨⟩) #[] ⟨⟩ ⟨⟩) #[] ⟨⟩ ⟨⟩) h_39 ⟨⟩ ⟨⟩) #[] ⟨⟩ ⟨⟩) #[] ⟨⟩ ⟨⟩) #[] ⟨⟩) h_33 ⟨⟩ ⟨⟩) h_33 ⟨⟩ ⟨⟩) #[] ⟨⟩ ⟨⟩) #[] ⟨⟩ ⟨⟩) #[] ⟨⟩) #[] ⟨⟩ ⟨⟩) h_29 ⟨⟩ ⟨⟩) #[] ⟨⟩ ⟨⟩) #[] ⟨⟩ ⟨⟩) #[] ⟨⟩) h_28 ⟨⟩) h_27 ⟨⟩) ⟨⟩) h_25 ⟨⟩) h_24 ⟨⟩) h_23 ⟨⟩) h_22 ⟨⟩) ⟨⟩) h_8 ⟨⟩ ⟨⟩) (
 JoinN 1 (fun (k_23 : Value → Heap → Prop) h_53 =>
 Hp Try.prog false (binS .eql 3 (.tmp 27) (.const (.int .i64 3)) t27 (.int .i64 3)) (fun t87 h_54 => 
 CondP t87 (
 k_23 t87 h_54) (
 Hp Try.prog false (binS .eql 3 (.tmp 27) (.const (.int .i64 4)) t27 (.int .i64 4)) (fun t88 h_55 => 
 k_23 t88 h_55) h_54 ⟨⟩) ⟨⟩ ⟨⟩) h_53 ⟨⟩)
 (fun t86 h_56 =>
 CondP t86 (
 Hp Try.prog false (Instr.fieldAt 59 s5 3) (fun t91 h_57 => 
 Hp Try.prog false (Instr.loadAt 24 t91) (fun t92 h_58 => 
 CallsH Try.prog 11 #[q0, t92] h_58 (fun t93 h_59 => 
 Hp Try.prog false (Instr.extract t93 0) (fun t94 h_60 => 
 Hp Try.prog false (Instr.extract t93 1) (fun t95 h_61 => 
 Hp Try.prog false (Instr.fieldAt 59 s5 3) (fun t98 h_62 => 
 Hp Try.prog false (Instr.loadAt 24 t98) (fun t99 h_63 => 
 CallsH Try.prog 47 #[w1, t99] h_63 (fun t100 h_64 => 
 Hp Try.prog false (Instr.extract t100 0) (fun t101 h_65 => 
 Hp Try.prog false (Instr.extract t100 1) (fun t102 h_66 => 
 Hp Try.prog false (binS .eql 2 (.tmp 103) (.tmp 104) t94 t101) (fun t105 h_67 => 
 Join1 (fun k_24 h_68 => guardP t105 true (k_24 t95 h_68) (k_24 undef h_68) ⟨⟩ ⟨⟩) (fun t107 h_69 => 
 Join1 (fun k_25 h_70 => guardP t105 true (CallsH Try.prog 9 #[t107] h_70 k_25 ⟨⟩) (k_25 undef h_70) ⟨⟩ ⟨⟩) (fun t108 h_71 => 
 Join1 (fun k_26 h_72 => guardP t105 true (k_26 t102 h_72) (k_26 undef h_72) ⟨⟩ ⟨⟩) (fun t109 h_73 => 
 Join1 (fun k_27 h_74 => guardP t105 true (Hp Try.prog false (binS .eql 3 (.tmp 108) (.tmp 109) t108 t109) k_27 h_74 ⟨⟩) (k_27 undef h_74) ⟨⟩ ⟨⟩) (fun t110 h_75 => 
 Hp Try.prog false (pickS t105 t110 (.bool false)) (fun t111 h_76 => 
 R t111 h_76) h_75 ⟨⟩) h_73 ⟨⟩ ⟨⟩) h_71 ⟨⟩ ⟨⟩) h_69 ⟨⟩ ⟨⟩) h_67 ⟨⟩ ⟨⟩) h_66 ⟨⟩) h_65 ⟨⟩) h_64 ⟨⟩) ⟨⟩) h_62 ⟨⟩) h_61 ⟨⟩) h_60 ⟨⟩) h_59 ⟨⟩) ⟨⟩) h_57 ⟨⟩) h_56 ⟨⟩) (
 Hp Try.prog false (binS .eql 3 (.tmp 27) (.const (.int .i64 5)) t27 (.int .i64 5)) (fun t113 h_77 => 
 CondP t113 (
 Hp Try.prog false (Instr.fieldAt 59 s5 4) (fun t116 h_78 => 
 Hp Try.prog false (Instr.loadAt 2 t116) (fun t117 h_79 => 
 CallsH Try.prog 40 #[q0, t117] h_79 (fun t118 h_80 => 
 Hp Try.prog false (Instr.extract t118 0) (fun t119 h_81 => 
 Hp Try.prog false (Instr.extract t118 1) (fun t120 h_82 => 
 Hp Try.prog false (Instr.alloc 24 true undef) (fun x16 h_83 => 
 Hp Try.prog false (storeS 24 x16 t119) (fun _ h_84 => 
 Hp Try.prog false (Instr.fieldAt 59 s5 4) (fun t123 h_85 => 
 Hp Try.prog false (Instr.loadAt 2 t123) (fun t124 h_86 => 
 CallsH Try.prog 48 #[w1, t124] h_86 (fun t125 h_87 => 
 Hp Try.prog false (Instr.extract t125 0) (fun t126 h_88 => 
 Hp Try.prog false (Instr.extract t125 1) (fun t127 h_89 => 
 Hp Try.prog false (Instr.alloc 24 true undef) (fun y18 h_90 => 
 Hp Try.prog false (storeS 24 y18 t126) (fun _ h_91 => 
 Hp Try.prog false (Instr.loadAt 24 x16) (fun t128 h_92 => 
 Hp Try.prog false (Instr.loadAt 24 y18) (fun t129 h_93 => 
 Hp Try.prog false (binS .eql 24 (.tmp 128) (.tmp 129) t128 t129) (fun t130 h_94 => 
 Join1 (fun k_28 h_95 => guardP t130 true (k_28 t120 h_95) (k_28 undef h_95) ⟨⟩ ⟨⟩) (fun t132 h_96 => 
 Join1 (fun k_29 h_97 => guardP t130 true (CallsH Try.prog 9 #[t132] h_97 k_29 ⟨⟩) (k_29 undef h_97) ⟨⟩ ⟨⟩) (fun t133 h_98 => 
 Join1 (fun k_30 h_99 => guardP t130 true (k_30 t127 h_99) (k_30 undef h_99) ⟨⟩ ⟨⟩) (fun t134 h_100 => 
 Join1 (fun k_31 h_101 => guardP t130 true (Hp Try.prog false (binS .eql 3 (.tmp 133) (.tmp 134) t133 t134) k_31 h_101 ⟨⟩) (k_31 undef h_101) ⟨⟩ ⟨⟩) (fun t135 h_102 => 
 Hp Try.prog false (pickS t130 t135 (.bool false)) (fun t136 h_103 => 
 R t136 h_103) h_102 ⟨⟩) h_100 ⟨⟩ ⟨⟩) h_98 ⟨⟩ ⟨⟩) h_96 ⟨⟩ ⟨⟩) h_94 ⟨⟩ ⟨⟩) h_93 ⟨⟩) h_92 ⟨⟩) h_91 ⟨⟩) h_90 ⟨⟩) h_89 ⟨⟩) h_88 ⟨⟩) h_87 ⟨⟩) ⟨⟩) h_85 ⟨⟩) h_84 ⟨⟩) h_83 ⟨⟩) h_82 ⟨⟩) h_81 ⟨⟩) h_80 ⟨⟩) ⟨⟩) h_78 ⟨⟩) h_77 ⟨⟩) (
 Hp Try.prog false (binS .eql 3 (.tmp 27) (.const (.int .i64 6)) t27 (.int .i64 6)) (fun t138 h_104 => 
 CondP t138 (
 CallsH Try.prog 16 #[q0] h_104 (fun t141 h_105 => 
 Hp Try.prog false (Instr.extract t141 0) (fun t142 h_106 => 
 Hp Try.prog false (Instr.extract t141 1) (fun t143 h_107 => 
 Hp Try.prog false (Instr.alloc 24 true undef) (fun x20 h_108 => 
 Hp Try.prog false (storeS 24 x20 t142) (fun _ h_109 => 
 CallsH Try.prog 49 #[w1] h_109 (fun t146 h_110 => 
 Hp Try.prog false (Instr.extract t146 0) (fun t147 h_111 => 
 Hp Try.prog false (Instr.extract t146 1) (fun t148 h_112 => 
 Hp Try.prog false (Instr.alloc 24 true undef) (fun y22 h_113 => 
 Hp Try.prog false (storeS 24 y22 t147) (fun _ h_114 => 
 Hp Try.prog false (Instr.loadAt 24 x20) (fun t149 h_115 => 
 Hp Try.prog false (Instr.loadAt 24 y22) (fun t150 h_116 => 
 Hp Try.prog false (binS .eql 24 (.tmp 149) (.tmp 150) t149 t150) (fun t151 h_117 => 
 Join1 (fun k_32 h_118 => guardP t151 true (k_32 t143 h_118) (k_32 undef h_118) ⟨⟩ ⟨⟩) (fun t153 h_119 => 
 Join1 (fun k_33 h_120 => guardP t151 true (CallsH Try.prog 9 #[t153] h_120 k_33 ⟨⟩) (k_33 undef h_120) ⟨⟩ ⟨⟩) (fun t154 h_121 => 
 Join1 (fun k_34 h_122 => guardP t151 true (k_34 t148 h_122) (k_34 undef h_122) ⟨⟩ ⟨⟩) (fun t155 h_123 => 
 Join1 (fun k_35 h_124 => guardP t151 true (Hp Try.prog false (binS .eql 3 (.tmp 154) (.tmp 155) t154 t155) k_35 h_124 ⟨⟩) (k_35 undef h_124) ⟨⟩ ⟨⟩) (fun t156 h_125 => 
 Hp Try.prog false (pickS t151 t156 (.bool false)) (fun t157 h_126 => 
 R t157 h_126) h_125 ⟨⟩) h_123 ⟨⟩ ⟨⟩) h_121 ⟨⟩ ⟨⟩) h_119 ⟨⟩ ⟨⟩) h_117 ⟨⟩ ⟨⟩) h_116 ⟨⟩) h_115 ⟨⟩) h_114 ⟨⟩) h_113 ⟨⟩) h_112 ⟨⟩) h_111 ⟨⟩) h_110 ⟨⟩) ⟨⟩) h_108 ⟨⟩) h_107 ⟨⟩) h_106 ⟨⟩) h_105 ⟨⟩) ⟨⟩) (
 Hp Try.prog false (binS .eql 3 (.tmp 27) (.const (.int .i64 7)) t27 (.int .i64 7)) (fun t159 h_127 => 
 CondP t159 (
 Hp Try.prog false (Instr.loadAt 59 s5) (fun t162 h_128 => 
 CallsH Try.prog 50 #[q0, w1, t162] h_128 (fun t163 h_129 => 
 R t163 h_129) ⟨⟩) h_127 ⟨⟩) (
 Hp Try.prog false (binS .eql 3 (.tmp 27) (.const (.int .i64 8)) t27 (.int .i64 8)) (fun t165 h_130 => 
 CondP t165 (
 Hp Try.prog false (Instr.fieldAt 59 s5 3) (fun t168 h_131 => 
 Hp Try.prog false (Instr.loadAt 24 t168) (fun t169 h_132 => 
 CallsH Try.prog 17 #[q0, t169] h_132 (fun t170 h_133 => 
 Hp Try.prog false (Instr.extract t170 0) (fun t171 h_134 => 
 Hp Try.prog false (Instr.extract t170 1) (fun t172 h_135 => 
 Hp Try.prog false (Instr.fieldAt 59 s5 3) (fun t173 h_136 => 
 Hp Try.prog false (Instr.loadAt 24 t173) (fun t174 h_137 => 
 CallsH Try.prog 18 #[t174] h_137 (fun t175 h_138 => 
 Hp Try.prog false (Op.unary .not t175) (fun t176 h_139 => 
 CondP t176 (
 Hp Try.prog false (binS .eql 2 (.tmp 177) (.const (.int .i64 0)) t171 (.int .i64 0)) (fun t178 h_140 => 
 Join1 (fun k_36 h_141 => guardP t178 true (k_36 t172 h_141) (k_36 undef h_141) ⟨⟩ ⟨⟩) (fun t180 h_142 => 
 Join1 (fun k_37 h_143 => guardP t178 true (CallsH Try.prog 9 #[t180] h_143 k_37 ⟨⟩) (k_37 undef h_143) ⟨⟩ ⟨⟩) (fun t181 h_144 => 
 Join1 (fun k_38 h_145 => guardP t178 true (Hp Try.prog false (binS .eql 3 (.tmp 181) (.const (.int .i64 2)) t181 (.int .i64 2)) k_38 h_145 ⟨⟩) (k_38 undef h_145) ⟨⟩ ⟨⟩) (fun t182 h_146 => 
 Hp Try.prog false (pickS t178 t182 (.bool false)) (fun t183 h_147 => 
 R t183 h_147) h_146 ⟨⟩) h_144 ⟨⟩ ⟨⟩) h_142 ⟨⟩ ⟨⟩) h_140 ⟨⟩ ⟨⟩) h_139 ⟨⟩) (
 Hp Try.prog false (Instr.fieldAt 59 s5 3) (fun t186 h_148 => 
 Hp Try.prog false (Instr.loadAt 24 t186) (fun t187 h_149 => 
 CallsH Try.prog 51 #[w1, t187] h_149 (fun t188 h_150 => 
 Hp Try.prog false (binS .eql 2 (.tmp 184) (.tmp 188) t171 t188) (fun t189 h_151 => 
 Join1 (fun k_39 h_152 => guardP t189 true (k_39 t172 h_152) (k_39 undef h_152) ⟨⟩ ⟨⟩) (fun t191 h_153 => 
 Join1 (fun k_40 h_154 => guardP t189 true (CallsH Try.prog 9 #[t191] h_154 k_40 ⟨⟩) (k_40 undef h_154) ⟨⟩ ⟨⟩) (fun t192 h_155 => 
 Join1 (fun k_41 h_156 => guardP t189 true (Hp Try.prog false (binS .eql 3 (.tmp 192) (.const (.int .i64 0)) t192 (.int .i64 0)) k_41 h_156 ⟨⟩) (k_41 undef h_156) ⟨⟩ ⟨⟩) (fun t193 h_157 => 
 Hp Try.prog false (pickS t189 t193 (.bool false)) (fun t194 h_158 => 
 R t194 h_158) h_157 ⟨⟩) h_155 ⟨⟩ ⟨⟩) h_153 ⟨⟩ ⟨⟩) h_151 ⟨⟩ ⟨⟩) h_150 ⟨⟩) ⟨⟩) h_148 ⟨⟩) h_139 ⟨⟩) ⟨⟩ ⟨⟩) h_138 ⟨⟩) ⟨⟩) h_136 ⟨⟩) h_135 ⟨⟩) h_134 ⟨⟩) h_133 ⟨⟩) ⟨⟩) h_131 ⟨⟩) h_130 ⟨⟩) (
 R (.bool true) h_130) ⟨⟩ ⟨⟩) h_127 ⟨⟩) ⟨⟩ ⟨⟩) h_104 ⟨⟩) ⟨⟩ ⟨⟩) h_77 ⟨⟩) ⟨⟩ ⟨⟩) h_56 ⟨⟩) ⟨⟩ ⟨⟩) h_8 ⟨⟩ ⟨⟩) ⟨⟩ ⟨⟩) h_3 ⟨⟩ ⟨⟩) h_2 ⟨⟩) h_1 ⟨⟩) h ⟨⟩

theorem n24_calls {q0 w1 s2 : Value} {R : Value → Heap → Prop} {h : Heap} (H : n24 q0 w1 s2 R h) : CallsH Try.prog 24 #[q0, w1, s2] h R ⟨⟩ :=
 callsH_of_eq Try.follow (.n none .l (.n none (.n none .l (.n none (.n (some [29]) .l (.n none (.n (some [8]) .l .l) (.n (some [87]) .l .l))) .l)) .l)) Try.func24 (by kernel_rfl) (by kernel_rfl) (by kernel_rfl) H

/-- palimpsest/palimpsestlaw13.goes -/
def n26 (w0 l1 leave2 : Value) (R : Value → Heap → Prop) (h : Heap) : Prop :=
 Hp Try.prog false (Instr.box 22 l1) (fun l4 h_1 => 
 Hp Try.prog false (Instr.box 3 leave2) (fun leave5 h_2 => 
 Hp Try.prog false (Instr.alloc 4 true undef) (fun t6 h_3 => 
 Hp Try.prog false (binS .eql 44 (.tmp 9) (.const .nilFunc) w0 .nilFunc) (fun t10 h_4 => 
 CondP t10 (
 Hp Try.prog false (storeS 4 t6 (.bool false)) (fun _ h_5 => 
 RetD (.tuple #[]) h_5 (fun h_6 =>
 Hp Try.prog true (loadCell 4 t6) (fun r _ =>
 R r h_6) h_6 ⟨⟩) ⟨⟩) h_4 ⟨⟩) (
 Hp Try.prog false (Instr.alloc 3 true undef) (fun n7 h_7 => 
 Hp Try.prog false (storeS 3 n7 (.int .i64 0)) (fun _ h_8 => 
 JoinN 1 (fun (k : Value → Heap → Prop) h_9 =>
 JoinN 1 (fun (k_1 : Value → Heap → Prop) h_10 =>
 RangeC Try.prog none w0 1 (.tuple #[]) (fun l args bg Nb Jb h_11 =>
 Hp Try.prog false (Instr.alloc 24 true undef) (fun x8 h_13 => 
 Hp Try.prog false (storeS 24 x8 (getV args 0)) (fun _ h_14 => 
 bg (fun h_12 =>
 Hp Try.prog true (Instr.loadAt 3 n7) (fun t13 _ => 
 Hp Try.prog true (Instr.loadAt 22 l4) (fun t14 _ => 
 Hp Try.prog true (Builtin.len_ #[22] 3 #[t14]) (fun t15 _ => 
 Hp Try.prog true (binS .geq 3 (.tmp 13) (.tmp 15) t13 t15) (fun t16 _ => 
 Join1 (fun k_2 h_15 => guardP t16 false (Hp Try.prog true (Instr.loadAt 24 x8) k_2 h_15 ⟨⟩) (k_2 undef h_15) ⟨⟩ ⟨⟩) (fun t18 _ => 
 Join1 (fun k_3 h_16 => guardP t16 false (Hp Try.prog true (Instr.loadAt 22 l4) k_3 h_16 ⟨⟩) (k_3 undef h_16) ⟨⟩ ⟨⟩) (fun t19 _ => 
 Join1 (fun k_4 h_17 => guardP t16 false (Hp Try.prog true (Instr.loadAt 3 n7) k_4 h_17 ⟨⟩) (k_4 undef h_17) ⟨⟩ ⟨⟩) (fun t20 _ => 
 Join1 (fun k_5 h_18 => guardP t16 false (Hp Try.prog true (Instr.indexAt 22 t19 t20) k_5 h_18 ⟨⟩) (k_5 undef h_18) ⟨⟩ ⟨⟩) (fun t21 _ => 
 Join1 (fun k_6 h_19 => guardP t16 false (Hp Try.prog true (Instr.loadAt 24 t21) k_6 h_19 ⟨⟩) (k_6 undef h_19) ⟨⟩ ⟨⟩) (fun t22 _ => 
 Join1 (fun k_7 h_20 => guardP t16 false (Hp Try.prog true (binS .neq 24 (.tmp 18) (.tmp 22) t18 t22) k_7 h_20 ⟨⟩) (k_7 undef h_20) ⟨⟩ ⟨⟩) (fun t23 _ => 
 Hp Try.prog true (pickS t16 (.bool true) t23) (fun t24 _ => 
 CondP t24 (
 Hp Try.prog false (storeS 4 t6 (.bool false)) (fun _ h_21 => 
 Jb .ret h_21) h_12 ⟨⟩) (
 Hp Try.prog false (Instr.loadAt 3 n7) (fun t25 h_22 => 
 Hp Try.prog false (binS .add 3 (.tmp 25) (.const (.int .i64 1)) t25 (.int .i64 1)) (fun t26 h_23 => 
 Hp Try.prog false (storeS 3 n7 t26) (fun _ h_24 => 
 Hp Try.prog false (Instr.loadAt 3 n7) (fun t27 h_25 => 
 Hp Try.prog false (Instr.loadAt 3 leave5) (fun t28 h_26 => 
 Hp Try.prog false (binS .eql 3 (.tmp 27) (.tmp 28) t27 t28) (fun t29 h_27 => 
 CondP t29 (
 Hp Try.prog false (storeS 4 t6 (.bool true)) (fun _ h_28 => 
 Jb .ret h_28) h_27 ⟨⟩) (
 Nb h_27) ⟨⟩ ⟨⟩) h_26 ⟨⟩) h_25 ⟨⟩) h_24 ⟨⟩) h_23 ⟨⟩) h_22 ⟨⟩) h_12 ⟨⟩) ⟨⟩ ⟨⟩) #[] ⟨⟩) #[] ⟨⟩ ⟨⟩) h_12 ⟨⟩ ⟨⟩) #[] ⟨⟩ ⟨⟩) h_12 ⟨⟩ ⟨⟩) h_12 ⟨⟩ ⟨⟩) h_12 ⟨⟩ ⟨⟩) #[] ⟨⟩) #[] ⟨⟩) h_12 ⟨⟩) h_12 ⟨⟩) h_14) h_13 ⟨⟩) h_11 ⟨⟩)
 (fun D h_29 =>
 k_1 D h_29)
 (fun D_1 h_30 =>
 RetD D_1 h_30 (fun h_31 =>
 Hp Try.prog true (loadCell 4 t6) (fun r_1 _ =>
 R r_1 h_31) h_31 ⟨⟩) ⟨⟩)
 (fun id D_2 h_32 => bif Nat.beq id 0 then (k_1 D_2 h_32) else False) h_10 ⟨⟩ ⟨⟩ ⟨⟩ ⟨⟩)
 (fun D_3 h_33 =>
 k D_3 h_33) h_9 ⟨⟩ ⟨⟩)
 (fun D_4 h_34 =>
 Hp Try.prog false (Instr.loadAt 3 n7) (fun t30 h_35 => 
 Hp Try.prog false (Instr.loadAt 22 l4) (fun t31 h_36 => 
 Hp Try.prog false (Builtin.len_ #[22] 3 #[t31]) (fun t32 h_37 => 
 Hp Try.prog false (binS .eql 3 (.tmp 30) (.tmp 32) t30 t32) (fun t33 h_38 => 
 Hp Try.prog false (storeS 4 t6 t33) (fun _ h_39 => 
 RetD D_4 h_39 (fun h_40 =>
 Hp Try.prog true (loadCell 4 t6) (fun r_2 _ =>
 R r_2 h_40) h_40 ⟨⟩) ⟨⟩) h_38 ⟨⟩) h_37 ⟨⟩) h_36 ⟨⟩) h_35 ⟨⟩) h_34 ⟨⟩) h_8 ⟨⟩ ⟨⟩) h_7 ⟨⟩) h_4 ⟨⟩) ⟨⟩ ⟨⟩) h_3 ⟨⟩) h_2 ⟨⟩) h_1 ⟨⟩) h ⟨⟩

theorem n26_calls {w0 l1 leave2 : Value} {R : Value → Heap → Prop} {h : Heap} (H : n26 w0 l1 leave2 R h) : CallsH Try.prog 26 #[w0, l1, leave2] h R ⟨⟩ :=
 callsH_of_eq Try.follow (.n none .l (.n none .l (.n none .l (.n (some [0]) (.n none .l (.n (some [0]) .l .l)) .l)))) Try.func26 (by kernel_rfl) (by kernel_rfl) (by kernel_rfl) H

/-- palimpsest/palimpsestlaw13.nothing -/
def n28 (R : Value → Heap → Prop) (h : Heap) : Prop :=
 Hp Try.prog false (Instr.build 76 #[]) (fun t15 h_1 => 
 Hp Try.prog false (Instr.box 76 t15) (fun t16 h_2 => 
 Hp Try.prog false (Instr.buildSlice 56 2 #[(0, (.pointer none)), (1, t16)]) (fun t17 h_3 => 
 Hp Try.prog false (Builtin.len_ #[56] 3 #[t17]) (fun t18 h_4 => 
 LoopC 1 (fun (X : Value → Heap → Prop) => fun t19 h_5 =>
 Hp Try.prog false (binS .lss 3 (.tmp 19) (.tmp 18) t19 t18) (fun t20 h_6 => 
 CondP t20 (
 Hp Try.prog false (Instr.indexAt 56 t17 t19) (fun t21 h_7 => 
 Hp Try.prog false (Instr.loadAt 25 t21) (fun t22 h_8 => 
 CallsH Try.prog 10 #[t22, (.slice none 0 0)] h_8 (fun t25 h_9 => 
 Hp Try.prog false (Instr.extract t25 0) (fun t26 h_10 => 
 Hp Try.prog false (Instr.extract t25 1) (fun t27 h_11 => 
 Hp Try.prog false (Instr.build 24 #[]) (fun t30 h_12 => 
 CallsH Try.prog 11 #[t22, t30] h_12 (fun t31 h_13 => 
 Hp Try.prog false (Instr.extract t31 0) (fun t32 h_14 => 
 Hp Try.prog false (Instr.extract t31 1) (fun t33 h_15 => 
 CallsH Try.prog 40 #[t22, (.int .i64 0)] h_15 (fun t36 h_16 => 
 Hp Try.prog false (Instr.extract t36 0) (fun t37 h_17 => 
 Hp Try.prog false (Instr.extract t36 1) (fun t38 h_18 => 
 Hp Try.prog false (Instr.alloc 24 true undef) (fun x7 h_19 => 
 Hp Try.prog false (storeS 24 x7 t37) (fun _ h_20 => 
 CallsH Try.prog 16 #[t22] h_20 (fun t41 h_21 => 
 Hp Try.prog false (Instr.extract t41 0) (fun t42 h_22 => 
 Hp Try.prog false (Instr.extract t41 1) (fun t43 h_23 => 
 Hp Try.prog false (Instr.alloc 24 true undef) (fun y9 h_24 => 
 Hp Try.prog false (storeS 24 y9 t42) (fun _ h_25 => 
 Hp Try.prog false (Instr.build 24 #[]) (fun t46 h_26 => 
 CallsH Try.prog 17 #[t22, t46] h_26 (fun t47 h_27 => 
 Hp Try.prog false (Instr.extract t47 0) (fun t48 h_28 => 
 Hp Try.prog false (Instr.extract t47 1) (fun t49 h_29 => 
 CallsH Try.prog 12 #[t22] h_29 (fun t52 h_30 => 
 Hp Try.prog false (Instr.extract t52 0) (fun t53 h_31 => 
 Hp Try.prog false (Instr.extract t52 1) (fun t54 h_32 => 
 Hp Try.prog false (binS .neq 2 (.tmp 55) (.const (.int .i64 0)) t26 (.int .i64 0)) (fun t56 h_33 => 
 Join1 (fun k h_34 => guardP t56 false (k t27 h_34) (k undef h_34) ⟨⟩ ⟨⟩) (fun t58 h_35 => 
 Join1 (fun k_1 h_36 => guardP t56 false (CallsH Try.prog 9 #[t58] h_36 k_1 ⟨⟩) (k_1 undef h_36) ⟨⟩ ⟨⟩) (fun t59 h_37 => 
 Join1 (fun k_2 h_38 => guardP t56 false (Hp Try.prog false (binS .neq 3 (.tmp 59) (.const (.int .i64 1)) t59 (.int .i64 1)) k_2 h_38 ⟨⟩) (k_2 undef h_38) ⟨⟩ ⟨⟩) (fun t60 h_39 => 
 Hp Try.prog false (pickS t56 (.bool true) t60) (fun t61 h_40 => 
 Join1 (fun k_3 h_41 => guardP t61 false (k_3 t32 h_41) (k_3 undef h_41) ⟨⟩ ⟨⟩) (fun t63 h_42 => 
 Join1 (fun k_4 h_43 => guardP t61 false (Hp Try.prog false (binS .neq 2 (.tmp 63) (.const (.int .i64 0)) t63 (.int .i64 0)) k_4 h_43 ⟨⟩) (k_4 undef h_43) ⟨⟩ ⟨⟩) (fun t64 h_44 => 
 Hp Try.prog false (pickS t61 (.bool true) t64) (fun t65 h_45 => 
 Join1 (fun k_5 h_46 => guardP t65 false (k_5 t33 h_46) (k_5 undef h_46) ⟨⟩ ⟨⟩) (fun t67 h_47 => 
 Join1 (fun k_6 h_48 => guardP t65 false (CallsH Try.prog 9 #[t67] h_48 k_6 ⟨⟩) (k_6 undef h_48) ⟨⟩ ⟨⟩) (fun t68 h_49 => 
 Join1 (fun k_7 h_50 => guardP t65 false (Hp Try.prog false (binS .neq 3 (.tmp 68) (.const (.int .i64 1)) t68 (.int .i64 1)) k_7 h_50 ⟨⟩) (k_7 undef h_50) ⟨⟩ ⟨⟩) (fun t69 h_51 => 
 Hp Try.prog false (pickS t65 (.bool true) t69) (fun t70 h_52 => 
 Join1 (fun k_8 h_53 => guardP t70 false (Hp Try.prog false (Instr.loadAt 24 x7) k_8 h_53 ⟨⟩) (k_8 undef h_53) ⟨⟩ ⟨⟩) (fun t72 h_54 => 
 Join1 (fun k_9 h_55 => guardP t70 false (Hp Try.prog false (Instr.build 24 #[]) k_9 h_55 ⟨⟩) (k_9 undef h_55) ⟨⟩ ⟨⟩) (fun t73 h_56 => 
 Join1 (fun k_10 h_57 => guardP t70 false (Hp Try.prog false (binS .neq 24 (.tmp 72) (.tmp 73) t72 t73) k_10 h_57 ⟨⟩) (k_10 undef h_57) ⟨⟩ ⟨⟩) (fun t74 h_58 => 
 Hp Try.prog false (pickS t70 (.bool true) t74) (fun t75 h_59 => 
 Join1 (fun k_11 h_60 => guardP t75 false (k_11 t38 h_60) (k_11 undef h_60) ⟨⟩ ⟨⟩) (fun t77 h_61 => 
 Join1 (fun k_12 h_62 => guardP t75 false (CallsH Try.prog 9 #[t77] h_62 k_12 ⟨⟩) (k_12 undef h_62) ⟨⟩ ⟨⟩) (fun t78 h_63 => 
 Join1 (fun k_13 h_64 => guardP t75 false (Hp Try.prog false (binS .neq 3 (.tmp 78) (.const (.int .i64 1)) t78 (.int .i64 1)) k_13 h_64 ⟨⟩) (k_13 undef h_64) ⟨⟩ ⟨⟩) (fun t79 h_65 => 
 Hp Try.prog false (pickS t75 (.bool true) t79) (fun t80 h_66 => 
 Join1 (fun k_14 h_67 => guardP t80 false (Hp Try.prog false (Instr.loadAt 24 y9) k_14 h_67 ⟨⟩) (k_14 undef h_67) ⟨⟩ ⟨⟩) (fun t82 h_68 => 
 Join1 (fun k_15 h_69 => guardP t80 false (Hp Try.prog false (Instr.build 24 #[]) k_15 h_69 ⟨⟩) (k_15 undef h_69) ⟨⟩ ⟨⟩) (fun t83 h_70 => 
 Join1 (fun k_16 h_71 => guardP t80 false (Hp Try.prog false (binS .neq 24 (.tmp 82) (.tmp 83) t82 t83) k_16 h_71 ⟨⟩) (k_16 undef h_71) ⟨⟩ ⟨⟩) (fun t84 h_72 => 
 Hp Try.prog false (pickS t80 (.bool true) t84) (fun t85 h_73 => 
 Join1 (fun k_17 h_74 => guardP t85 false (k_17 t43 h_74) (k_17 undef h_74) ⟨⟩ ⟨⟩) (fun t87 h_75 => 
 Join1 (fun k_18 h_76 => guardP t85 false (CallsH Try.prog 9 #[t87] h_76 k_18 ⟨⟩) (k_18 undef h_76) ⟨⟩ ⟨⟩) (fun t88 h_77 => 
 Join1 (fun k_19 h_78 => guardP t85 false (Hp Try.prog false (binS .neq 3 (.tmp 88) (.const (.int .i64 1)) t88 (.int .i64 1)) k_19 h_78 ⟨⟩) (k_19 undef h_78) ⟨⟩ ⟨⟩) (fun t89 h_79 => 
 Hp Try.prog false (pickS t85 (.bool true) t89) (fun t90 h_80 => 
 Join1 (fun k_20 h_81 => guardP t90 false (k_20 t48 h_81) (k_20 undef h_81) ⟨⟩ ⟨⟩) (fun t92 h_82 => 
 Join1 (fun k_21 h_83 => guardP t90 false (Hp Try.prog false (binS .neq 2 (.tmp 92) (.const (.int .i64 0)) t92 (.int .i64 0)) k_21 h_83 ⟨⟩) (k_21 undef h_83) ⟨⟩ ⟨⟩) (fun t93 h_84 => 
 Hp Try.prog false (pickS t90 (.bool true) t93) (fun t94 h_85 => 
 Join1 (fun k_22 h_86 => guardP t94 false (k_22 t49 h_86) (k_22 undef h_86) ⟨⟩ ⟨⟩) (fun t96 h_87 => 
 Join1 (fun k_23 h_88 => guardP t94 false (CallsH Try.prog 9 #[t96] h_88 k_23 ⟨⟩) (k_23 undef h_88) ⟨⟩ ⟨⟩) (fun t97 h_89 => 
 Join1 (fun k_24 h_90 => guardP t94 false (Hp Try.prog false (binS .neq 3 (.tmp 97) (.const (.int .i64 1)) t97 (.int .i64 1)) k_24 h_90 ⟨⟩) (k_24 undef h_90) ⟨⟩ ⟨⟩) (fun t98 h_91 => 
 Hp Try.prog false (pickS t94 (.bool true) t98) (fun t99 h_92 => 
 Join1 (fun k_25 h_93 => guardP t99 false (k_25 t53 h_93) (k_25 undef h_93) ⟨⟩ ⟨⟩) (fun t101 h_94 => 
 Join1 (fun k_26 h_95 => guardP t99 false (Hp Try.prog false (binS .neq 3 (.tmp 101) (.const (.int .i64 0)) t101 (.int .i64 0)) k_26 h_95 ⟨⟩) (k_26 undef h_95) ⟨⟩ ⟨⟩) (fun t102 h_96 => 
 Hp Try.prog false (pickS t99 (.bool true) t102) (fun t103 h_97 => 
 Join1 (fun k_27 h_98 => guardP t103 false (k_27 t54 h_98) (k_27 undef h_98) ⟨⟩ ⟨⟩) (fun t105 h_99 => 
 Join1 (fun k_28 h_100 => guardP t103 false (Hp Try.prog false (binS .neq 2 (.tmp 105) (.const (.int .i64 0)) t105 (.int .i64 0)) k_28 h_100 ⟨⟩) (k_28 undef h_100) ⟨⟩ ⟨⟩) (fun t106 h_101 => 
 Hp Try.prog false (pickS t103 (.bool true) t106) (fun t107 h_102 => 
 Join1 (fun k_29 h_103 => guardP t107 false (k_29 t22 h_103) (k_29 undef h_103) ⟨⟩ ⟨⟩) (fun t109 h_104 => 
 Join1 (fun k_30 h_105 => guardP t107 false (CallsH Try.prog 22 #[t109] h_105 k_30 ⟨⟩) (k_30 undef h_105) ⟨⟩ ⟨⟩) (fun t110 h_106 => 
 Join1 (fun k_31 h_107 => guardP t107 false (CallsH Try.prog 26 #[t110, (.slice none 0 0), (.int .i64 0)] h_107 k_31 ⟨⟩) (k_31 undef h_107) ⟨⟩ ⟨⟩) (fun t111 h_108 => 
 Join1 (fun k_32 h_109 => guardP t107 false (Hp Try.prog false (Op.unary .not t111) k_32 h_109 ⟨⟩) (k_32 undef h_109) ⟨⟩ ⟨⟩) (fun t112 h_110 => 
 Hp Try.prog false (pickS t107 (.bool true) t112) (fun t113 h_111 => 
 Join1 (fun k_33 h_112 => guardP t113 false (k_33 t22 h_112) (k_33 undef h_112) ⟨⟩ ⟨⟩) (fun t115 h_113 => 
 Join1 (fun k_34 h_114 => guardP t113 false (CallsH Try.prog 20 #[t115, (.int .i64 1)] h_114 k_34 ⟨⟩) (k_34 undef h_114) ⟨⟩ ⟨⟩) (fun t116 h_115 => 
 Join1 (fun k_35 h_116 => guardP t113 false (CallsH Try.prog 26 #[t116, (.slice none 0 0), (.int .i64 0)] h_116 k_35 ⟨⟩) (k_35 undef h_116) ⟨⟩ ⟨⟩) (fun t117 h_117 => 
 Join1 (fun k_36 h_118 => guardP t113 false (Hp Try.prog false (Op.unary .not t117) k_36 h_118 ⟨⟩) (k_36 undef h_118) ⟨⟩ ⟨⟩) (fun t118 h_119 => 
 Hp Try.prog false (pickS t113 (.bool true) t118) (fun t119 h_120 => 
 Join1 (fun k_37 h_121 => guardP t119 false (k_37 t22 h_121) (k_37 undef h_121) ⟨⟩ ⟨⟩) (fun t121 h_122 => 
 Join1 (fun k_38 h_123 => guardP t119 false (CallsH Try.prog 19 #[t121, (.pointer none)] h_123 k_38 ⟨⟩) (k_38 undef h_123) ⟨⟩ ⟨⟩) (fun t122 h_124 => 
 Join1 (fun k_39 h_125 => guardP t119 false (Hp Try.prog false (Op.unary .not t122) k_39 h_125 ⟨⟩) (k_39 undef h_125) ⟨⟩ ⟨⟩) (fun t123 h_126 => 
 Hp Try.prog false (pickS t119 (.bool true) t123) (fun t124 h_127 => 
 Join1 (fun k_40 h_128 => guardP t124 false (k_40 t22 h_128) (k_40 undef h_128) ⟨⟩ ⟨⟩) (fun t126 h_129 => 
 Join1 (fun k_41 h_130 => guardP t124 false (Hp Try.prog false (Instr.build 76 #[]) k_41 h_130 ⟨⟩) (k_41 undef h_130) ⟨⟩ ⟨⟩) (fun t127 h_131 => 
 Join1 (fun k_42 h_132 => guardP t124 false (Hp Try.prog false (Instr.box 76 t127) k_42 h_132 ⟨⟩) (k_42 undef h_132) ⟨⟩ ⟨⟩) (fun t128 h_133 => 
 Join1 (fun k_43 h_134 => guardP t124 false (CallsH Try.prog 19 #[t126, t128] h_134 k_43 ⟨⟩) (k_43 undef h_134) ⟨⟩ ⟨⟩) (fun t129 h_135 => 
 Join1 (fun k_44 h_136 => guardP t124 false (Hp Try.prog false (Op.unary .not t129) k_44 h_136 ⟨⟩) (k_44 undef h_136) ⟨⟩ ⟨⟩) (fun t130 h_137 => 
 Hp Try.prog false (pickS t124 (.bool true) t130) (fun t131 h_138 => 
 Join1 (fun k_45 h_139 => guardP t131 false (k_45 t22 h_139) (k_45 undef h_139) ⟨⟩ ⟨⟩) (fun t133 h_140 => 
 Join1 (fun k_46 h_141 => guardP t131 false (CallsH Try.prog 15 #[t133] h_141 k_46 ⟨⟩) (k_46 undef h_141) ⟨⟩ ⟨⟩) (fun t134 h_142 => 
 Join1 (fun k_47 h_143 => guardP t131 false (Hp Try.prog false (binS .neq 25 (.tmp 134) (.const (.pointer none)) t134 (.pointer none)) k_47 h_143 ⟨⟩) (k_47 undef h_143) ⟨⟩ ⟨⟩) (fun t135 h_144 => 
 Hp Try.prog false (pickS t131 (.bool true) t135) (fun t136 h_145 => 
 CondP t136 (
 R (.bool false) h_145) (
 Hp Try.prog false (binS .add 3 (.tmp 19) (.const (.int .i64 1)) t19 (.int .i64 1)) (fun t137 h_146 => 
 X t137 h_146) h_145 ⟨⟩) ⟨⟩ ⟨⟩) h_144 ⟨⟩) h_142 ⟨⟩ ⟨⟩) h_140 ⟨⟩ ⟨⟩) h_138 ⟨⟩ ⟨⟩) h_137 ⟨⟩) h_135 ⟨⟩ ⟨⟩) h_133 ⟨⟩ ⟨⟩) h_131 ⟨⟩ ⟨⟩) h_129 ⟨⟩ ⟨⟩) h_127 ⟨⟩ ⟨⟩) h_126 ⟨⟩) h_124 ⟨⟩ ⟨⟩) h_122 ⟨⟩ ⟨⟩) h_120 ⟨⟩ ⟨⟩) h_119 ⟨⟩) h_117 ⟨⟩ ⟨⟩) h_115 ⟨⟩ ⟨⟩) h_113 ⟨⟩ ⟨⟩) h_111 ⟨⟩ ⟨⟩) h_110 ⟨⟩) h_108 ⟨⟩ ⟨⟩) h_106 ⟨⟩ ⟨⟩) h_104 ⟨⟩ ⟨⟩) h_102 ⟨⟩ ⟨⟩) h_101 ⟨⟩) h_99 ⟨⟩ ⟨⟩) h_97 ⟨⟩ ⟨⟩) h_96 ⟨⟩) h_94 ⟨⟩ ⟨⟩) h_92 ⟨⟩ ⟨⟩) h_91 ⟨⟩) h_89 ⟨⟩ ⟨⟩) h_87 ⟨⟩ ⟨⟩) h_85 ⟨⟩ ⟨⟩) h_84 ⟨⟩) h_82 ⟨⟩ ⟨⟩) h_80 ⟨⟩ ⟨⟩) h_79 ⟨⟩) h_77 ⟨⟩ ⟨⟩) h_75 ⟨⟩ ⟨⟩) h_73 ⟨⟩ ⟨⟩) h_72 ⟨⟩) h_70 ⟨⟩ ⟨⟩) h_68 ⟨⟩ ⟨⟩) h_66 ⟨⟩ ⟨⟩) h_65 ⟨⟩) h_63 ⟨⟩ ⟨⟩) h_61 ⟨⟩ ⟨⟩) h_59 ⟨⟩ ⟨⟩) h_58 ⟨⟩) h_56 ⟨⟩ ⟨⟩) h_54 ⟨⟩ ⟨⟩) h_52 ⟨⟩ ⟨⟩) h_51 ⟨⟩) h_49 ⟨⟩ ⟨⟩) h_47 ⟨⟩ ⟨⟩) h_45 ⟨⟩ ⟨⟩) h_44 ⟨⟩) h_42 ⟨⟩ ⟨⟩) h_40 ⟨⟩ ⟨⟩) h_39 ⟨⟩) h_37 ⟨⟩ ⟨⟩) h_35 ⟨⟩ ⟨⟩) h_33 ⟨⟩ ⟨⟩) h_32 ⟨⟩) h_31 ⟨⟩) h_30 ⟨⟩) ⟨⟩) h_28 ⟨⟩) h_27 ⟨⟩) ⟨⟩) h_25 ⟨⟩) h_24 ⟨⟩) h_23 ⟨⟩) h_22 ⟨⟩) h_21 ⟨⟩) ⟨⟩) h_19 ⟨⟩) h_18 ⟨⟩) h_17 ⟨⟩) h_16 ⟨⟩) ⟨⟩) h_14 ⟨⟩) h_13 ⟨⟩) ⟨⟩) h_11 ⟨⟩) h_10 ⟨⟩) h_9 ⟨⟩) ⟨⟩) h_7 ⟨⟩) h_6 ⟨⟩) (
 R (.bool true) h_6) ⟨⟩ ⟨⟩) h_5 ⟨⟩) [(.int .i64 0)] h_4 ⟨⟩) h_3 ⟨⟩) h_2 ⟨⟩) h_1 ⟨⟩) h ⟨⟩

theorem n28_calls {R : Value → Heap → Prop} {h : Heap} (H : n28  R h) : CallsH Try.prog 28 #[] h R ⟨⟩ :=
 callsH_of_eq Try.follow (.n none .l (.n none (.n none .l (.n none (.n (some [20]) .l .l) .l)) .l)) Try.func28 (by kernel_rfl) (by kernel_rfl) (by kernel_rfl) H

/-- palimpsest/palimpsestlaw13.drain -/
def n50 (q0 w1 s2 : Value) (R : Value → Heap → Prop) (h : Heap) : Prop :=
 Hp Try.prog false (Instr.box 51 w1) (fun w4 h_1 => 
 Hp Try.prog false (Instr.box 59 s2) (fun s5 h_2 => 
 Hp Try.prog false (Instr.alloc 4 true undef) (fun t6 h_3 => 
 Hp Try.prog false (Instr.fieldAt 59 s5 4) (fun t13 h_4 => 
 Hp Try.prog false (Instr.loadAt 2 t13) (fun t14 h_5 => 
 CallsH Try.prog 20 #[q0, t14] h_5 (fun t15 h_6 => 
 Hp Try.prog false (binS .eql 44 (.tmp 16) (.const .nilFunc) t15 .nilFunc) (fun t17 h_7 => 
 CondP t17 (
 Hp Try.prog false (storeS 4 t6 (.bool false)) (fun _ h_8 => 
 RetD (.tuple #[]) h_8 (fun h_9 =>
 Hp Try.prog true (loadCell 4 t6) (fun r _ =>
 R r h_9) h_9 ⟨⟩) ⟨⟩) h_7 ⟨⟩) (
 Hp Try.prog false (Instr.alloc 3 true undef) (fun n8 h_10 => 
 Hp Try.prog false (storeS 3 n8 (.int .i64 0)) (fun _ h_11 => 
 JoinN 1 (fun (k : Value → Heap → Prop) h_12 =>
 JoinN 1 (fun (k_1 : Value → Heap → Prop) h_13 =>
 RangeC Try.prog none t15 1 (.tuple #[]) (fun l args bg Nb Jb h_14 =>
 Hp Try.prog false (Instr.alloc 24 true undef) (fun x9 h_16 => 
 Hp Try.prog false (storeS 24 x9 (getV args 0)) (fun _ h_17 => 
 bg (fun h_15 =>
 Hp Try.prog false (Instr.loadAt 51 w4) (fun t21 h_18 => 
 Hp Try.prog false (Instr.fieldAt 59 s5 4) (fun t22 h_19 => 
 Hp Try.prog false (Instr.loadAt 2 t22) (fun t23 h_20 => 
 CallsH Try.prog 48 #[t21, t23] h_20 (fun t24 h_21 => 
 Hp Try.prog false (Instr.extract t24 0) (fun t25 h_22 => 
 Hp Try.prog false (Instr.extract t24 1) (fun t26 h_23 => 
 Hp Try.prog false (Instr.alloc 24 true undef) (fun y10 h_24 => 
 Hp Try.prog false (storeS 24 y10 t25) (fun _ h_25 => 
 Hp Try.prog false (binS .neq 3 (.tmp 27) (.const (.int .i64 0)) t26 (.int .i64 0)) (fun t28 h_26 => 
 Join1 (fun k_2 h_27 => guardP t28 false (Hp Try.prog false (Instr.loadAt 24 x9) k_2 h_27 ⟨⟩) (k_2 undef h_27) ⟨⟩ ⟨⟩) (fun t30 h_28 => 
 Join1 (fun k_3 h_29 => guardP t28 false (Hp Try.prog false (Instr.loadAt 24 y10) k_3 h_29 ⟨⟩) (k_3 undef h_29) ⟨⟩ ⟨⟩) (fun t31 h_30 => 
 Join1 (fun k_4 h_31 => guardP t28 false (Hp Try.prog false (binS .neq 24 (.tmp 30) (.tmp 31) t30 t31) k_4 h_31 ⟨⟩) (k_4 undef h_31) ⟨⟩ ⟨⟩) (fun t32 h_32 => 
 Hp Try.prog false (pickS t28 (.bool true) t32) (fun t33 h_33 => 
 Join1 (fun k_5 h_34 => guardP t33 false (Hp Try.prog false (Instr.loadAt 3 n8) k_5 h_34 ⟨⟩) (k_5 undef h_34) ⟨⟩ ⟨⟩) (fun t35 h_35 => 
 Join1 (fun k_6 h_36 => guardP t33 false (Hp Try.prog false (binS .geq 3 (.tmp 35) (.const (.int .i64 1000)) t35 (.int .i64 1000)) k_6 h_36 ⟨⟩) (k_6 undef h_36) ⟨⟩ ⟨⟩) (fun t36 h_37 => 
 Hp Try.prog false (pickS t33 (.bool true) t36) (fun t37 h_38 => 
 CondP t37 (
 Hp Try.prog false (storeS 4 t6 (.bool false)) (fun _ h_39 => 
 Jb .ret h_39) h_38 ⟨⟩) (
 Hp Try.prog false (Instr.loadAt 3 n8) (fun t38 h_40 => 
 Hp Try.prog false (binS .add 3 (.tmp 38) (.const (.int .i64 1)) t38 (.int .i64 1)) (fun t39 h_41 => 
 Hp Try.prog false (storeS 3 n8 t39) (fun _ h_42 => 
 Hp Try.prog false (Instr.loadAt 3 n8) (fun t40 h_43 => 
 Hp Try.prog false (Instr.fieldAt 59 s5 1) (fun t41 h_44 => 
 Hp Try.prog false (Instr.loadAt 3 t41) (fun t42 h_45 => 
 Hp Try.prog false (binS .eql 3 (.tmp 40) (.tmp 42) t40 t42) (fun t43 h_46 => 
 Join1 (fun k_7 h_47 => guardP t43 false (Hp Try.prog false (Instr.loadAt 3 n8) k_7 h_47 ⟨⟩) (k_7 undef h_47) ⟨⟩ ⟨⟩) (fun t45 h_48 => 
 Join1 (fun k_8 h_49 => guardP t43 false (Hp Try.prog false (binS .eql 3 (.tmp 45) (.const (.int .i64 1000)) t45 (.int .i64 1000)) k_8 h_49 ⟨⟩) (k_8 undef h_49) ⟨⟩ ⟨⟩) (fun t46 h_50 => 
 Hp Try.prog false (pickS t43 (.bool true) t46) (fun t47 h_51 => 
 CondP t47 (
 Hp Try.prog false (storeS 4 t6 (.bool true)) (fun _ h_52 => 
 Jb .ret h_52) h_51 ⟨⟩) (
 Nb h_51) ⟨⟩ ⟨⟩) h_50 ⟨⟩) h_48 ⟨⟩ ⟨⟩) h_46 ⟨⟩ ⟨⟩) h_45 ⟨⟩) h_44 ⟨⟩) h_43 ⟨⟩) h_42 ⟨⟩) h_41 ⟨⟩) h_40 ⟨⟩) h_38 ⟨⟩) ⟨⟩ ⟨⟩) h_37 ⟨⟩) h_35 ⟨⟩ ⟨⟩) h_33 ⟨⟩ ⟨⟩) h_32 ⟨⟩) h_30 ⟨⟩ ⟨⟩) h_28 ⟨⟩ ⟨⟩) h_26 ⟨⟩ ⟨⟩) h_25 ⟨⟩) h_24 ⟨⟩) h_23 ⟨⟩) h_22 ⟨⟩) h_21 ⟨⟩) ⟨⟩) h_19 ⟨⟩) h_18 ⟨⟩) h_15 ⟨⟩) h_17) h_16 ⟨⟩) h_14 ⟨⟩)
 (fun D h_53 =>
 k_1 D h_53)
 (fun D_1 h_54 =>
 RetD D_1 h_54 (fun h_55 =>
 Hp Try.prog true (loadCell 4 t6) (fun r_1 _ =>
 R r_1 h_55) h_55 ⟨⟩) ⟨⟩)
 (fun id D_2 h_56 => bif Nat.beq id 0 then (k_1 D_2 h_56) else False) h_13 ⟨⟩ ⟨⟩ ⟨⟩ ⟨⟩)
 (fun D_3 h_57 =>
 k D_3 h_57) h_12 ⟨⟩ ⟨⟩)
 (fun D_4 h_58 =>
 Hp Try.prog false (Instr.fieldAt 59 s5 4) (fun t48 h_59 => 
 Hp Try.prog false (Instr.loadAt 2 t48) (fun t49 h_60 => 
 Hp Try.prog false (binS .lss 2 (.tmp 49) (.const (.int .i64 1)) t49 (.int .i64 1)) (fun t50 h_61 => 
 Join1 (fun k_9 h_62 => guardP t50 false (Hp Try.prog false (Instr.loadAt 51 w4) k_9 h_62 ⟨⟩) (k_9 undef h_62) ⟨⟩ ⟨⟩) (fun t52 h_63 => 
 Join1 (fun k_10 h_64 => guardP t50 false (Hp Try.prog false (nilS t52) k_10 h_64 ⟨⟩) (k_10 undef h_64) ⟨⟩ ⟨⟩) (fun t53 h_65 => 
 Join1 (fun k_11 h_66 => guardP t50 false (Hp Try.prog false (Instr.fieldAt 53 t53 0) k_11 h_66 ⟨⟩) (k_11 undef h_66) ⟨⟩ ⟨⟩) (fun t54 h_67 => 
 Join1 (fun k_12 h_68 => guardP t50 false (Hp Try.prog false (Instr.loadAt 22 t54) k_12 h_68 ⟨⟩) (k_12 undef h_68) ⟨⟩ ⟨⟩) (fun t55 h_69 => 
 Join1 (fun k_13 h_70 => guardP t50 false (Hp Try.prog false (Builtin.len_ #[22] 3 #[t55]) k_13 h_70 ⟨⟩) (k_13 undef h_70) ⟨⟩ ⟨⟩) (fun t56 h_71 => 
 Join1 (fun k_14 h_72 => guardP t50 false (Hp Try.prog false (binS .eql 3 (.tmp 56) (.const (.int .i64 0)) t56 (.int .i64 0)) k_14 h_72 ⟨⟩) (k_14 undef h_72) ⟨⟩ ⟨⟩) (fun t57 h_73 => 
 Hp Try.prog false (pickS t50 (.bool true) t57) (fun t58 h_74 => 
 Hp Try.prog false (storeS 4 t6 t58) (fun _ h_75 => 
 RetD D_4 h_75 (fun h_76 =>
 Hp Try.prog true (loadCell 4 t6) (fun r_2 _ =>
 R r_2 h_76) h_76 ⟨⟩) ⟨⟩) h_74 ⟨⟩) h_73 ⟨⟩) h_71 ⟨⟩ ⟨⟩) h_69 ⟨⟩ ⟨⟩) h_67 ⟨⟩ ⟨⟩) h_65 ⟨⟩ ⟨⟩) h_63 ⟨⟩ ⟨⟩) h_61 ⟨⟩ ⟨⟩) h_60 ⟨⟩) h_59 ⟨⟩) h_58 ⟨⟩) h_11 ⟨⟩ ⟨⟩) h_10 ⟨⟩) h_7 ⟨⟩) ⟨⟩ ⟨⟩) h_6 ⟨⟩) ⟨⟩) h_4 ⟨⟩) h_3 ⟨⟩) h_2 ⟨⟩) h_1 ⟨⟩) h ⟨⟩

theorem n50_calls {q0 w1 s2 : Value} {R : Value → Heap → Prop} {h : Heap} (H : n50 q0 w1 s2 R h) : CallsH Try.prog 50 #[q0, w1, s2] h R ⟨⟩ :=
 callsH_of_eq Try.follow (.n none .l (.n none .l (.n none .l (.n none .l (.n (some [0]) (.n none .l (.n (some [0]) .l .l)) .l))))) Try.func50 (by kernel_rfl) (by kernel_rfl) (by kernel_rfl) H

end Go.Proofs.Ytgcllbelgakjgaa

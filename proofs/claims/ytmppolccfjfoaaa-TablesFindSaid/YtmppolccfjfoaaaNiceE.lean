/- Printed by wip/tools/gen.py: the condition of each function, and that a call meets it. -/
import Derived.Test.YtmppolccfjfoaaaVcFun
import Derived.Test.YtmppolccfjfoaaaProg
import Derived.Test.YtmppolccfjfoaaaNiceW
set_option maxRecDepth 100000
set_option linter.unusedVariables false
namespace Go.Proofs.Ytmppolccfjfoaaa
open Go.Vc

/-- palimpsest/palimpsestlaw09.EntryWords -/
def n3 (e0 w1 bits2 : Value) (R : Value → Heap → Prop) (h : Heap) : Prop :=
  Hp Try.prog false (Instr.box 24 e0) (fun e3 h_1 => 
    Hp Try.prog false (Instr.loadAt 24 e3) (fun t18 h_2 => 
      CallsH Try.prog 15 #[t18, bits2] h_2 (fun t20 h_3 => 
        Hp Try.prog false (Instr.loadAt 24 e3) (fun t22 h_4 => 
          CallsH Try.prog 16 #[t22, bits2] h_4 (fun t24 h_5 => 
            Hp Try.prog false (Instr.extract t24 0) (fun t25 h_6 => 
              Hp Try.prog false (Instr.extract t24 1) (fun t26 h_7 => 
                JoinN 0 (fun (k : Heap → Prop) h_8 =>
                  CondP t20 (
                    CallsH Try.prog 17 #[t25, bits2] h_8 (fun t31 h_9 => 
                      Hp Try.prog false (Instr.extract t31 0) (fun t32 h_10 => 
                        Hp Try.prog false (Instr.extract t31 1) (fun t33 h_11 => 
                          Hp Try.prog false (Instr.alloc 24 true undef) (fun y10 h_12 => 
                            Hp Try.prog false (storeS 24 y10 t32) (fun _ h_13 => 
                              Hp Try.prog false (Instr.loadAt 24 e3) (fun t34 h_14 => 
                                CallsH Try.prog 18 #[t34, bits2] h_14 (fun t36 h_15 => 
                                  Hp Try.prog false (binS .neq 27 (.tmp 36) (.const (.int .i64 0)) t36 (.int .i64 0)) (fun t37 h_16 => 
                                    Join1 (fun k_1 h_17 => guardP t37 false (k_1 t26 h_17) (k_1 undef h_17) ⟨⟩ ⟨⟩) (fun t39 h_18 => 
                                      Join1 (fun k_2 h_19 => guardP t37 false (Hp Try.prog false (binS .neq 27 (.tmp 39) (.const (.int .i64 0)) t39 (.int .i64 0)) k_2 h_19 ⟨⟩) (k_2 undef h_19) ⟨⟩ ⟨⟩) (fun t40 h_20 => 
                                        Hp Try.prog false (pickS t37 (.bool true) t40) (fun t41 h_21 => 
                                          Join1 (fun k_3 h_22 => guardP t41 false (k_3 t25 h_22) (k_3 undef h_22) ⟨⟩ ⟨⟩) (fun t43 h_23 => 
                                            Join1 (fun k_4 h_24 => guardP t41 false (Hp Try.prog false (Instr.loadAt 24 e3) k_4 h_24 ⟨⟩) (k_4 undef h_24) ⟨⟩ ⟨⟩) (fun t44 h_25 => 
                                              Join1 (fun k_5 h_26 => guardP t41 false (CallsH Try.prog 19 #[t44] h_26 k_5 ⟨⟩) (k_5 undef h_26) ⟨⟩ ⟨⟩) (fun t45 h_27 => 
                                                Join1 (fun k_6 h_28 => guardP t41 false (Hp Try.prog false (binS .neq 25 (.tmp 43) (.tmp 45) t43 t45) k_6 h_28 ⟨⟩) (k_6 undef h_28) ⟨⟩ ⟨⟩) (fun t46 h_29 => 
                                                  Hp Try.prog false (pickS t41 (.bool true) t46) (fun t47 h_30 => 
                                                    Join1 (fun k_7 h_31 => guardP t47 false (Hp Try.prog false (Instr.loadAt 24 y10) k_7 h_31 ⟨⟩) (k_7 undef h_31) ⟨⟩ ⟨⟩) (fun t49 h_32 => 
                                                      Join1 (fun k_8 h_33 => guardP t47 false (Hp Try.prog false (Instr.loadAt 24 e3) k_8 h_33 ⟨⟩) (k_8 undef h_33) ⟨⟩ ⟨⟩) (fun t50 h_34 => 
                                                        Join1 (fun k_9 h_35 => guardP t47 false (Hp Try.prog false (binS .neq 24 (.tmp 49) (.tmp 50) t49 t50) k_9 h_35 ⟨⟩) (k_9 undef h_35) ⟨⟩ ⟨⟩) (fun t51 h_36 => 
                                                          Hp Try.prog false (pickS t47 (.bool true) t51) (fun t52 h_37 => 
                                                            Join1 (fun k_10 h_38 => guardP t52 false (k_10 t33 h_38) (k_10 undef h_38) ⟨⟩ ⟨⟩) (fun t54 h_39 => 
                                                              Join1 (fun k_11 h_40 => guardP t52 false (Hp Try.prog false (binS .neq 27 (.tmp 54) (.const (.int .i64 0)) t54 (.int .i64 0)) k_11 h_40 ⟨⟩) (k_11 undef h_40) ⟨⟩ ⟨⟩) (fun t55 h_41 => 
                                                                Hp Try.prog false (pickS t52 (.bool true) t55) (fun t56 h_42 => 
                                                                  CondP t56 (
                                                                    R (.bool false) h_42) (
                                                                    k h_42) ⟨⟩ ⟨⟩) h_41 ⟨⟩) h_39 ⟨⟩ ⟨⟩) h_37 ⟨⟩ ⟨⟩) h_36 ⟨⟩) h_34 ⟨⟩ ⟨⟩) h_32 ⟨⟩ ⟨⟩) h_30 ⟨⟩ ⟨⟩) h_29 ⟨⟩) h_27 ⟨⟩ ⟨⟩) h_25 ⟨⟩ ⟨⟩) h_23 ⟨⟩ ⟨⟩) h_21 ⟨⟩ ⟨⟩) h_20 ⟨⟩) h_18 ⟨⟩ ⟨⟩) h_16 ⟨⟩ ⟨⟩) h_15 ⟨⟩) ⟨⟩) h_13 ⟨⟩) h_12 ⟨⟩) h_11 ⟨⟩) h_10 ⟨⟩) h_9 ⟨⟩) ⟨⟩) (
                    Hp Try.prog false (Instr.loadAt 24 e3) (fun t57 h_43 => 
                      CallsH Try.prog 18 #[t57, bits2] h_43 (fun t59 h_44 => 
                        Hp Try.prog false (binS .neq 27 (.tmp 59) (.const (.int .i64 2)) t59 (.int .i64 2)) (fun t60 h_45 => 
                          Join1 (fun k_12 h_46 => guardP t60 false (k_12 t25 h_46) (k_12 undef h_46) ⟨⟩ ⟨⟩) (fun t62 h_47 => 
                            Join1 (fun k_13 h_48 => guardP t60 false (Hp Try.prog false (binS .neq 25 (.tmp 62) (.const (.int .u64 0)) t62 (.int .u64 0)) k_13 h_48 ⟨⟩) (k_13 undef h_48) ⟨⟩ ⟨⟩) (fun t63 h_49 => 
                              Hp Try.prog false (pickS t60 (.bool true) t63) (fun t64 h_50 => 
                                Join1 (fun k_14 h_51 => guardP t64 false (k_14 t26 h_51) (k_14 undef h_51) ⟨⟩ ⟨⟩) (fun t66 h_52 => 
                                  Join1 (fun k_15 h_53 => guardP t64 false (Hp Try.prog false (binS .neq 27 (.tmp 66) (.const (.int .i64 2)) t66 (.int .i64 2)) k_15 h_53 ⟨⟩) (k_15 undef h_53) ⟨⟩ ⟨⟩) (fun t67 h_54 => 
                                    Hp Try.prog false (pickS t64 (.bool true) t67) (fun t68 h_55 => 
                                      CondP t68 (
                                        R (.bool false) h_55) (
                                        k h_55) ⟨⟩ ⟨⟩) h_54 ⟨⟩) h_52 ⟨⟩ ⟨⟩) h_50 ⟨⟩ ⟨⟩) h_49 ⟨⟩) h_47 ⟨⟩ ⟨⟩) h_45 ⟨⟩ ⟨⟩) h_44 ⟨⟩) ⟨⟩) h_8 ⟨⟩) ⟨⟩ ⟨⟩)
                  (fun h_56 =>
                  CallsH Try.prog 17 #[w1, bits2] h_56 (fun t72 h_57 => 
                    Hp Try.prog false (Instr.extract t72 0) (fun t73 h_58 => 
                      Hp Try.prog false (Instr.extract t72 1) (fun t74 h_59 => 
                        Hp Try.prog false (Instr.alloc 24 true undef) (fun y12 h_60 => 
                          Hp Try.prog false (storeS 24 y12 t73) (fun _ h_61 => 
                            CallsH Try.prog 20 #[bits2] h_61 (fun t76 h_62 => 
                              Hp Try.prog false (Op.unary .not t76) (fun t77 h_63 => 
                                CondP t77 (
                                  Hp Try.prog false (Instr.loadAt 24 y12) (fun t78 h_64 => 
                                    Hp Try.prog false (Instr.build 24 #[]) (fun t79 h_65 => 
                                      Hp Try.prog false (binS .eql 24 (.tmp 78) (.tmp 79) t78 t79) (fun t80 h_66 => 
                                        Join1 (fun k_16 h_67 => guardP t80 true (k_16 t74 h_67) (k_16 undef h_67) ⟨⟩ ⟨⟩) (fun t82 h_68 => 
                                          Join1 (fun k_17 h_69 => guardP t80 true (Hp Try.prog false (binS .eql 27 (.tmp 82) (.const (.int .i64 2)) t82 (.int .i64 2)) k_17 h_69 ⟨⟩) (k_17 undef h_69) ⟨⟩ ⟨⟩) (fun t83 h_70 => 
                                            Hp Try.prog false (pickS t80 t83 (.bool false)) (fun t84 h_71 => 
                                              Join1 (fun k_18 h_72 => guardP t84 true (CallsH Try.prog 21 #[] h_72 k_18 ⟨⟩) (k_18 undef h_72) ⟨⟩ ⟨⟩) (fun t86 h_73 => 
                                                Hp Try.prog false (pickS t84 t86 (.bool false)) (fun t87 h_74 => 
                                                  R t87 h_74) h_73 ⟨⟩) h_71 ⟨⟩ ⟨⟩) h_70 ⟨⟩) h_68 ⟨⟩ ⟨⟩) h_66 ⟨⟩ ⟨⟩) h_65 ⟨⟩) h_64 ⟨⟩) h_63 ⟨⟩) (
                                  CallsH Try.prog 22 #[w1, bits2] h_63 (fun t91 h_75 => 
                                    Hp Try.prog false (Instr.extract t91 0) (fun t92 h_76 => 
                                      Hp Try.prog false (Instr.extract t91 1) (fun t93 h_77 => 
                                        Hp Try.prog false (Instr.alloc 24 true undef) (fun want14 h_78 => 
                                          Hp Try.prog false (storeS 24 want14 t92) (fun _ h_79 => 
                                            Hp Try.prog false (Op.unary .not t93) (fun t95 h_80 => 
                                              CondP t95 (
                                                Hp Try.prog false (Instr.loadAt 24 y12) (fun t96 h_81 => 
                                                  Hp Try.prog false (Instr.build 24 #[]) (fun t97 h_82 => 
                                                    Hp Try.prog false (binS .eql 24 (.tmp 96) (.tmp 97) t96 t97) (fun t98 h_83 => 
                                                      Join1 (fun k_19 h_84 => guardP t98 true (k_19 t74 h_84) (k_19 undef h_84) ⟨⟩ ⟨⟩) (fun t100 h_85 => 
                                                        Join1 (fun k_20 h_86 => guardP t98 true (Hp Try.prog false (binS .eql 27 (.tmp 100) (.const (.int .i64 190)) t100 (.int .i64 190)) k_20 h_86 ⟨⟩) (k_20 undef h_86) ⟨⟩ ⟨⟩) (fun t101 h_87 => 
                                                          Hp Try.prog false (pickS t98 t101 (.bool false)) (fun t102 h_88 => 
                                                            Join1 (fun k_21 h_89 => guardP t102 true (CallsH Try.prog 21 #[] h_89 k_21 ⟨⟩) (k_21 undef h_89) ⟨⟩ ⟨⟩) (fun t104 h_90 => 
                                                              Hp Try.prog false (pickS t102 t104 (.bool false)) (fun t105 h_91 => 
                                                                R t105 h_91) h_90 ⟨⟩) h_88 ⟨⟩ ⟨⟩) h_87 ⟨⟩) h_85 ⟨⟩ ⟨⟩) h_83 ⟨⟩ ⟨⟩) h_82 ⟨⟩) h_81 ⟨⟩) h_80 ⟨⟩) (
                                                Hp Try.prog false (Instr.loadAt 24 y12) (fun t107 h_92 => 
                                                  CallsH Try.prog 16 #[t107, bits2] h_92 (fun t109 h_93 => 
                                                    Hp Try.prog false (Instr.extract t109 0) (fun t110 h_94 => 
                                                      Hp Try.prog false (Instr.extract t109 1) (fun t111 h_95 => 
                                                        Hp Try.prog false (Instr.loadAt 24 y12) (fun t112 h_96 => 
                                                          Hp Try.prog false (Instr.loadAt 24 want14) (fun t113 h_97 => 
                                                            Hp Try.prog false (binS .eql 24 (.tmp 112) (.tmp 113) t112 t113) (fun t114 h_98 => 
                                                              Join1 (fun k_22 h_99 => guardP t114 true (k_22 t74 h_99) (k_22 undef h_99) ⟨⟩ ⟨⟩) (fun t116 h_100 => 
                                                                Join1 (fun k_23 h_101 => guardP t114 true (Hp Try.prog false (binS .eql 27 (.tmp 116) (.const (.int .i64 0)) t116 (.int .i64 0)) k_23 h_101 ⟨⟩) (k_23 undef h_101) ⟨⟩ ⟨⟩) (fun t117 h_102 => 
                                                                  Hp Try.prog false (pickS t114 t117 (.bool false)) (fun t118 h_103 => 
                                                                    Join1 (fun k_24 h_104 => guardP t118 true (k_24 t110 h_104) (k_24 undef h_104) ⟨⟩ ⟨⟩) (fun t120 h_105 => 
                                                                      Join1 (fun k_25 h_106 => guardP t118 true (k_25 w1 h_106) (k_25 undef h_106) ⟨⟩ ⟨⟩) (fun t121 h_107 => 
                                                                        Join1 (fun k_26 h_108 => guardP t118 true (Hp Try.prog false (binS .eql 25 (.tmp 120) (.tmp 121) t120 t121) k_26 h_108 ⟨⟩) (k_26 undef h_108) ⟨⟩ ⟨⟩) (fun t122 h_109 => 
                                                                          Hp Try.prog false (pickS t118 t122 (.bool false)) (fun t123 h_110 => 
                                                                            Join1 (fun k_27 h_111 => guardP t123 true (k_27 t111 h_111) (k_27 undef h_111) ⟨⟩ ⟨⟩) (fun t125 h_112 => 
                                                                              Join1 (fun k_28 h_113 => guardP t123 true (Hp Try.prog false (binS .eql 27 (.tmp 125) (.const (.int .i64 0)) t125 (.int .i64 0)) k_28 h_113 ⟨⟩) (k_28 undef h_113) ⟨⟩ ⟨⟩) (fun t126 h_114 => 
                                                                                Hp Try.prog false (pickS t123 t126 (.bool false)) (fun t127 h_115 => 
                                                                                  Join1 (fun k_29 h_116 => guardP t127 true (CallsH Try.prog 21 #[] h_116 k_29 ⟨⟩) (k_29 undef h_116) ⟨⟩ ⟨⟩) (fun t129 h_117 => 
                                                                                    Hp Try.prog false (pickS t127 t129 (.bool false)) (fun t130 h_118 => 
                                                                                      R t130 h_118) h_117 ⟨⟩) h_115 ⟨⟩ ⟨⟩) h_114 ⟨⟩) h_112 ⟨⟩ ⟨⟩) h_110 ⟨⟩ ⟨⟩) h_109 ⟨⟩) h_107 ⟨⟩ ⟨⟩) h_105 ⟨⟩ ⟨⟩) h_103 ⟨⟩ ⟨⟩) h_102 ⟨⟩) h_100 ⟨⟩ ⟨⟩) h_98 ⟨⟩ ⟨⟩) h_97 ⟨⟩) h_96 ⟨⟩) h_95 ⟨⟩) h_94 ⟨⟩) h_93 ⟨⟩) ⟨⟩) h_80 ⟨⟩) ⟨⟩ ⟨⟩) h_79 ⟨⟩) h_78 ⟨⟩) h_77 ⟨⟩) h_76 ⟨⟩) h_75 ⟨⟩) ⟨⟩) ⟨⟩ ⟨⟩) h_62 ⟨⟩) ⟨⟩) h_60 ⟨⟩) h_59 ⟨⟩) h_58 ⟨⟩) h_57 ⟨⟩) ⟨⟩) h_7 ⟨⟩ ⟨⟩) h_6 ⟨⟩) h_5 ⟨⟩) ⟨⟩) h_3 ⟨⟩) ⟨⟩) h_1 ⟨⟩) h ⟨⟩

theorem n3_calls {e0 w1 bits2 : Value} {R : Value → Heap → Prop} {h : Heap} (H : n3 e0 w1 bits2 R h) : CallsH Try.prog 3 #[e0, w1, bits2] h R ⟨⟩ :=
  callsH_of_eq Try.follow (.n none .l (.n none .l (.n none .l (.n (some []) .l .l)))) Try.func3 (by kernel_rfl) (by kernel_rfl) (by kernel_rfl) H

/-- palimpsest/palimpsestlaw09.EntryTables -/
def n7 (table0 i1 in2 : Value) (R : Value → Heap → Prop) (h : Heap) : Prop :=
  Hp Try.prog false (Instr.box 63 in2) (fun in5 h_1 => 
    Hp Try.prog true (Instr.fieldAt 63 in5 0) (fun t19 _ => 
      Hp Try.prog true (Instr.loadAt 24 t19) (fun t20 _ => 
        Hp Try.prog true (Instr.fieldAt 63 in5 1) (fun t21 _ => 
          Hp Try.prog true (Instr.loadAt 3 t21) (fun t22 _ => 
            Hp Try.prog false (Instr.alloc 24 true undef) (fun e7 h_2 => Hp Try.prog true (Instr.loadAt 3 t21) (fun u _ => u = t22) h_2 ⟨⟩ ∧ Hp Try.prog true (Instr.loadAt 24 t19) (fun u _ => u = t20) h_2 ⟨⟩ ∧ 
              Hp Try.prog false (storeS 24 e7 t20) (fun _ h_3 => Hp Try.prog true (Instr.loadAt 3 t21) (fun u _ => u = t22) h_3 ⟨⟩ ∧ 
                Hp Try.prog false (Builtin.len_ #[39] 3 #[table0]) (fun t24 h_4 => 
                  Hp Try.prog false (binS .gtr 3 (.tmp 24) (.const (.int .i64 10000)) t24 (.int .i64 10000)) (fun t25 h_5 => 
                    CondP t25 (
                      CallsH Try.prog 21 #[] h_5 (fun t26 h_6 => 
                        R t26 h_6) ⟨⟩) (
                      Hp Try.prog false (Builtin.append_ #[39, 39] 39 #[(.slice none 0 0), table0]) (fun t28 h_7 => 
                        Hp Try.prog false (Instr.buildSlice 39 1 #[(0, (.int .u8 77))]) (fun t29 h_8 => 
                          Hp Try.prog false (Builtin.append_ #[39, 39] 39 #[t28, t29]) (fun t30 h_9 => 
                            Hp Try.prog false (Builtin.len_ #[39] 3 #[table0]) (fun t32 h_10 => 
                              Hp Try.prog false (Instr.sliceAt 39 t30 none (some t32) none) (fun t33 h_11 => 
                                CallsH Try.prog 34 #[t33, i1, t22] h_11 (fun t38 h_12 => 
                                  Hp Try.prog false (Instr.extract t38 0) (fun t39 h_13 => 
                                    Hp Try.prog false (Instr.extract t38 1) (fun t40 h_14 => 
                                      Hp Try.prog false (Instr.alloc 24 true undef) (fun x10 h_15 => 
                                        Hp Try.prog false (storeS 24 x10 t39) (fun _ h_16 => 
                                          CallsH Try.prog 35 #[table0, i1, t22] h_16 (fun t45 h_17 => 
                                            Hp Try.prog false (Instr.extract t45 0) (fun t46 h_18 => 
                                              Hp Try.prog false (Instr.extract t45 1) (fun t47 h_19 => 
                                                Hp Try.prog false (Instr.alloc 24 true undef) (fun y12 h_20 => 
                                                  Hp Try.prog false (storeS 24 y12 t46) (fun _ h_21 => 
                                                    Hp Try.prog false (Instr.loadAt 24 x10) (fun t48 h_22 => 
                                                      Hp Try.prog false (Instr.loadAt 24 y12) (fun t49 h_23 => 
                                                        Hp Try.prog false (binS .neq 24 (.tmp 48) (.tmp 49) t48 t49) (fun t50 h_24 => 
                                                          Join1 (fun k h_25 => guardP t50 false (k t40 h_25) (k undef h_25) ⟨⟩ ⟨⟩) (fun t52 h_26 => 
                                                            Join1 (fun k_1 h_27 => guardP t50 false (k_1 t47 h_27) (k_1 undef h_27) ⟨⟩ ⟨⟩) (fun t53 h_28 => 
                                                              Join1 (fun k_2 h_29 => guardP t50 false (Hp Try.prog false (binS .neq 3 (.tmp 52) (.tmp 53) t52 t53) k_2 h_29 ⟨⟩) (k_2 undef h_29) ⟨⟩ ⟨⟩) (fun t54 h_30 => 
                                                                Hp Try.prog false (pickS t50 (.bool true) t54) (fun t55 h_31 => 
                                                                  Join1 (fun k_3 h_32 => guardP t55 false (k_3 t33 h_32) (k_3 undef h_32) ⟨⟩ ⟨⟩) (fun t57 h_33 => 
                                                                    Join1 (fun k_4 h_34 => guardP t55 false (Hp Try.prog false (convert 39 9 t57) k_4 h_34 ⟨⟩) (k_4 undef h_34) ⟨⟩ ⟨⟩) (fun t58 h_35 => 
                                                                      Join1 (fun k_5 h_36 => guardP t55 false (k_5 table0 h_36) (k_5 undef h_36) ⟨⟩ ⟨⟩) (fun t59 h_37 => 
                                                                        Join1 (fun k_6 h_38 => guardP t55 false (Hp Try.prog false (convert 39 9 t59) k_6 h_38 ⟨⟩) (k_6 undef h_38) ⟨⟩ ⟨⟩) (fun t60 h_39 => 
                                                                          Join1 (fun k_7 h_40 => guardP t55 false (Hp Try.prog false (binS .neq 9 (.tmp 58) (.tmp 60) t58 t60) k_7 h_40 ⟨⟩) (k_7 undef h_40) ⟨⟩ ⟨⟩) (fun t61 h_41 => 
                                                                            Hp Try.prog false (pickS t55 (.bool true) t61) (fun t62 h_42 => 
                                                                              CondP t62 (
                                                                                R (.bool false) h_42) (
                                                                                Hp Try.prog false (Instr.loadAt 24 e7) (fun t66 h_43 => 
                                                                                  CallsH Try.prog 36 #[table0, i1, t66, t22] h_43 (fun t68 h_44 => 
                                                                                    Hp Try.prog false (Instr.extract t68 0) (fun t69 h_45 => 
                                                                                      Hp Try.prog false (Instr.extract t68 1) (fun t70 h_46 => 
                                                                                        Hp Try.prog false (Instr.loadAt 24 e7) (fun t73 h_47 => 
                                                                                          CallsH Try.prog 37 #[t33, i1, t73, t22] h_47 (fun t75 h_48 => 
                                                                                            Hp Try.prog false (binS .neq 3 (.tmp 76) (.tmp 77) t75 t70) (fun t78 h_49 => 
                                                                                              Join1 (fun k_8 h_50 => guardP t78 false (k_8 t33 h_50) (k_8 undef h_50) ⟨⟩ ⟨⟩) (fun t80 h_51 => 
                                                                                                Join1 (fun k_9 h_52 => guardP t78 false (Hp Try.prog false (convert 39 9 t80) k_9 h_52 ⟨⟩) (k_9 undef h_52) ⟨⟩ ⟨⟩) (fun t81 h_53 => 
                                                                                                  Join1 (fun k_10 h_54 => guardP t78 false (k_10 t69 h_54) (k_10 undef h_54) ⟨⟩ ⟨⟩) (fun t82 h_55 => 
                                                                                                    Join1 (fun k_11 h_56 => guardP t78 false (Hp Try.prog false (convert 39 9 t82) k_11 h_56 ⟨⟩) (k_11 undef h_56) ⟨⟩ ⟨⟩) (fun t83 h_57 => 
                                                                                                      Join1 (fun k_12 h_58 => guardP t78 false (Hp Try.prog false (binS .neq 9 (.tmp 81) (.tmp 83) t81 t83) k_12 h_58 ⟨⟩) (k_12 undef h_58) ⟨⟩ ⟨⟩) (fun t84 h_59 => 
                                                                                                        Hp Try.prog false (pickS t78 (.bool true) t84) (fun t85 h_60 => 
                                                                                                          Join1 (fun k_13 h_61 => guardP t85 false (k_13 t33 h_61) (k_13 undef h_61) ⟨⟩ ⟨⟩) (fun t87 h_62 => 
                                                                                                            Join1 (fun k_14 h_63 => guardP t85 false (k_14 t33 h_63) (k_14 undef h_63) ⟨⟩ ⟨⟩) (fun t88 h_64 => 
                                                                                                              Join1 (fun k_15 h_65 => guardP t85 false (Hp Try.prog false (Builtin.len_ #[39] 3 #[t88]) k_15 h_65 ⟨⟩) (k_15 undef h_65) ⟨⟩ ⟨⟩) (fun t89 h_66 => 
                                                                                                                Join1 (fun k_16 h_67 => guardP t85 false (Hp Try.prog false (binS .add 3 (.tmp 89) (.const (.int .i64 1)) t89 (.int .i64 1)) k_16 h_67 ⟨⟩) (k_16 undef h_67) ⟨⟩ ⟨⟩) (fun t90 h_68 => 
                                                                                                                  Join1 (fun k_17 h_69 => guardP t85 false (Hp Try.prog false (Instr.sliceAt 39 t87 none (some t90) none) k_17 h_69 ⟨⟩) (k_17 undef h_69) ⟨⟩ ⟨⟩) (fun t91 h_70 => 
                                                                                                                    Join1 (fun k_18 h_71 => guardP t85 false (k_18 t33 h_71) (k_18 undef h_71) ⟨⟩ ⟨⟩) (fun t92 h_72 => 
                                                                                                                      Join1 (fun k_19 h_73 => guardP t85 false (Hp Try.prog false (Builtin.len_ #[39] 3 #[t92]) k_19 h_73 ⟨⟩) (k_19 undef h_73) ⟨⟩ ⟨⟩) (fun t93 h_74 => 
                                                                                                                        Join1 (fun k_20 h_75 => guardP t85 false (Hp Try.prog false (Instr.indexAt 39 t91 t93) k_20 h_75 ⟨⟩) (k_20 undef h_75) ⟨⟩ ⟨⟩) (fun t94 h_76 => 
                                                                                                                          Join1 (fun k_21 h_77 => guardP t85 false (Hp Try.prog false (Instr.loadAt 5 t94) k_21 h_77 ⟨⟩) (k_21 undef h_77) ⟨⟩ ⟨⟩) (fun t95 h_78 => 
                                                                                                                            Join1 (fun k_22 h_79 => guardP t85 false (Hp Try.prog false (binS .neq 5 (.tmp 95) (.const (.int .u8 77)) t95 (.int .u8 77)) k_22 h_79 ⟨⟩) (k_22 undef h_79) ⟨⟩ ⟨⟩) (fun t96 h_80 => 
                                                                                                                              Hp Try.prog false (pickS t85 (.bool true) t96) (fun t97 h_81 => 
                                                                                                                                CondP t97 (
                                                                                                                                  R (.bool false) h_81) (
                                                                                                                                  Hp Try.prog false (binS .eql 27 (.tmp 98) (.const (.int .i64 0)) t75 (.int .i64 0)) (fun t99 h_82 => 
                                                                                                                                    CondP t99 (
                                                                                                                                      CallsH Try.prog 34 #[t33, i1, t22] h_82 (fun t104 h_83 => 
                                                                                                                                        Hp Try.prog false (Instr.extract t104 0) (fun t105 h_84 => 
                                                                                                                                          Hp Try.prog false (Instr.extract t104 1) (fun t106 h_85 => 
                                                                                                                                            Hp Try.prog false (Instr.alloc 24 true undef) (fun back17 h_86 => 
                                                                                                                                              Hp Try.prog false (storeS 24 back17 t105) (fun _ h_87 => 
                                                                                                                                                Hp Try.prog false (Instr.loadAt 24 back17) (fun t107 h_88 => 
                                                                                                                                                  Hp Try.prog false (Instr.loadAt 24 e7) (fun t108 h_89 => 
                                                                                                                                                    Hp Try.prog false (binS .eql 24 (.tmp 107) (.tmp 108) t107 t108) (fun t109 h_90 => 
                                                                                                                                                      Join1 (fun k_23 h_91 => guardP t109 true (k_23 t106 h_91) (k_23 undef h_91) ⟨⟩ ⟨⟩) (fun t111 h_92 => 
                                                                                                                                                        Join1 (fun k_24 h_93 => guardP t109 true (Hp Try.prog false (binS .eql 27 (.tmp 111) (.const (.int .i64 0)) t111 (.int .i64 0)) k_24 h_93 ⟨⟩) (k_24 undef h_93) ⟨⟩ ⟨⟩) (fun t112 h_94 => 
                                                                                                                                                          Hp Try.prog false (pickS t109 t112 (.bool false)) (fun t113 h_95 => 
                                                                                                                                                            Join1 (fun k_25 h_96 => guardP t113 true (CallsH Try.prog 21 #[] h_96 k_25 ⟨⟩) (k_25 undef h_96) ⟨⟩ ⟨⟩) (fun t115 h_97 => 
                                                                                                                                                              Hp Try.prog false (pickS t113 t115 (.bool false)) (fun t116 h_98 => 
                                                                                                                                                                R t116 h_98) h_97 ⟨⟩) h_95 ⟨⟩ ⟨⟩) h_94 ⟨⟩) h_92 ⟨⟩ ⟨⟩) h_90 ⟨⟩ ⟨⟩) h_89 ⟨⟩) h_88 ⟨⟩) h_87 ⟨⟩) h_86 ⟨⟩) h_85 ⟨⟩) h_84 ⟨⟩) h_83 ⟨⟩) ⟨⟩) (
                                                                                                                                      CallsH Try.prog 21 #[] h_82 (fun t117 h_99 => 
                                                                                                                                        R t117 h_99) ⟨⟩) ⟨⟩ ⟨⟩) h_81 ⟨⟩) ⟨⟩ ⟨⟩) h_80 ⟨⟩) h_78 ⟨⟩ ⟨⟩) h_76 ⟨⟩ ⟨⟩) h_74 ⟨⟩ ⟨⟩) h_72 ⟨⟩ ⟨⟩) h_70 ⟨⟩ ⟨⟩) h_68 ⟨⟩ ⟨⟩) h_66 ⟨⟩ ⟨⟩) h_64 ⟨⟩ ⟨⟩) h_62 ⟨⟩ ⟨⟩) h_60 ⟨⟩ ⟨⟩) h_59 ⟨⟩) h_57 ⟨⟩ ⟨⟩) h_55 ⟨⟩ ⟨⟩) h_53 ⟨⟩ ⟨⟩) h_51 ⟨⟩ ⟨⟩) h_49 ⟨⟩ ⟨⟩) h_48 ⟨⟩) ⟨⟩) h_46 ⟨⟩) h_45 ⟨⟩) h_44 ⟨⟩) ⟨⟩) h_42 ⟨⟩) ⟨⟩ ⟨⟩) h_41 ⟨⟩) h_39 ⟨⟩ ⟨⟩) h_37 ⟨⟩ ⟨⟩) h_35 ⟨⟩ ⟨⟩) h_33 ⟨⟩ ⟨⟩) h_31 ⟨⟩ ⟨⟩) h_30 ⟨⟩) h_28 ⟨⟩ ⟨⟩) h_26 ⟨⟩ ⟨⟩) h_24 ⟨⟩ ⟨⟩) h_23 ⟨⟩) h_22 ⟨⟩) h_21 ⟨⟩) h_20 ⟨⟩) h_19 ⟨⟩) h_18 ⟨⟩) h_17 ⟨⟩) ⟨⟩) h_15 ⟨⟩) h_14 ⟨⟩) h_13 ⟨⟩) h_12 ⟨⟩) ⟨⟩) h_10 ⟨⟩) h_9 ⟨⟩) h_8 ⟨⟩) h_7 ⟨⟩) h_5 ⟨⟩) ⟨⟩ ⟨⟩) h_4 ⟨⟩) h_3 ⟨⟩) h_2 ⟨⟩) h_1 ⟨⟩) h_1 ⟨⟩) #[] ⟨⟩) h_1 ⟨⟩) #[] ⟨⟩) h ⟨⟩

theorem n7_calls {table0 i1 in2 : Value} {R : Value → Heap → Prop} {h : Heap} (H : n7 table0 i1 in2 R h) : CallsH Try.prog 7 #[table0, i1, in2] h R ⟨⟩ :=
  callsH_of_eq Try.follow .l Try.func7 (by kernel_rfl) (by kernel_rfl) (by kernel_rfl) H

/-- palimpsest/palimpsestlaw09.EntryAll -/
def n8 (table0 bits1 leave2 : Value) (R : Value → Heap → Prop) (h : Heap) : Prop :=
  Hp Try.prog false (Instr.box 39 table0) (fun table3 h_1 => 
    Hp Try.prog false (Instr.box 3 bits1) (fun bits4 h_2 => 
      Hp Try.prog false (Instr.box 3 leave2) (fun leave5 h_3 => 
        Hp Try.prog false (Instr.alloc 4 true undef) (fun t6 h_4 => 
          Hp Try.prog false (Instr.loadAt 39 table3) (fun t26 h_5 => 
            Hp Try.prog false (Builtin.len_ #[39] 3 #[t26]) (fun t27 h_6 => 
              Hp Try.prog false (binS .gtr 3 (.tmp 27) (.const (.int .i64 10000)) t27 (.int .i64 10000)) (fun t28 h_7 => 
                CondP t28 (
                  CallsH Try.prog 21 #[] h_7 (fun t29 h_8 => 
                    Hp Try.prog false (storeS 4 t6 t29) (fun _ h_9 => 
                      RetD (.tuple #[]) h_9 (fun h_10 =>
                        Hp Try.prog true (loadCell 4 t6) (fun r _ =>
                          R r h_10) h_10 ⟨⟩) ⟨⟩) h_8 ⟨⟩) ⟨⟩) (
                  Hp Try.prog false (Instr.loadAt 39 table3) (fun t31 h_11 => 
                    Hp Try.prog false (Instr.loadAt 3 bits4) (fun t32 h_12 => 
                      CallsH Try.prog 38 #[t31, t32] h_12 (fun t33 h_13 => 
                        Hp Try.prog false (Instr.extract t33 0) (fun t34 h_14 => 
                          Hp Try.prog false (Instr.extract t33 1) (fun t35 h_15 => 
                            Hp Try.prog false (Instr.loadAt 39 table3) (fun t37 h_16 => 
                              Hp Try.prog false (Instr.loadAt 3 bits4) (fun t38 h_17 => 
                                CallsH Try.prog 39 #[t37, t38] h_17 (fun t39 h_18 => 
                                  Hp Try.prog false (Instr.extract t39 0) (fun t40 h_19 => 
                                    Hp Try.prog false (Instr.extract t39 1) (fun t41 h_20 => 
                                      Hp Try.prog false (Instr.alloc 3 true undef) (fun k9 h_21 => 
                                        Hp Try.prog false (storeS 3 k9 t40) (fun _ h_22 => 
                                          Hp Try.prog false (Instr.loadAt 39 table3) (fun t42 h_23 => 
                                            Hp Try.prog false (Builtin.append_ #[39, 39] 39 #[(.slice none 0 0), t42]) (fun t43 h_24 => 
                                              Hp Try.prog false (Instr.loadAt 3 bits4) (fun t45 h_25 => 
                                                CallsH Try.prog 40 #[t43, t45] h_25 (fun t46 h_26 => 
                                                  Hp Try.prog false (Instr.loadAt 3 k9) (fun t48 h_27 => 
                                                    Hp Try.prog false (binS .neq 3 (.tmp 47) (.tmp 48) t34 t48) (fun t49 h_28 => 
                                                      Join1 (fun k h_29 => guardP t49 false (k t35 h_29) (k undef h_29) ⟨⟩ ⟨⟩) (fun t51 h_30 => 
                                                        Join1 (fun k_1 h_31 => guardP t49 false (k_1 t41 h_31) (k_1 undef h_31) ⟨⟩ ⟨⟩) (fun t52 h_32 => 
                                                          Join1 (fun k_2 h_33 => guardP t49 false (Hp Try.prog false (binS .neq 3 (.tmp 51) (.tmp 52) t51 t52) k_2 h_33 ⟨⟩) (k_2 undef h_33) ⟨⟩ ⟨⟩) (fun t53 h_34 => 
                                                            Hp Try.prog false (pickS t49 (.bool true) t53) (fun t54 h_35 => 
                                                              Join1 (fun k_3 h_36 => guardP t54 false (k_3 t46 h_36) (k_3 undef h_36) ⟨⟩ ⟨⟩) (fun t56 h_37 => 
                                                                Join1 (fun k_4 h_38 => guardP t54 false (Hp Try.prog false (binS .eql 75 (.tmp 56) (.const .nilFunc) t56 .nilFunc) k_4 h_38 ⟨⟩) (k_4 undef h_38) ⟨⟩ ⟨⟩) (fun t57 h_39 => 
                                                                  Hp Try.prog false (pickS t54 (.bool true) t57) (fun t58 h_40 => 
                                                                    CondP t58 (
                                                                      Hp Try.prog false (storeS 4 t6 (.bool false)) (fun _ h_41 => 
                                                                        RetD (.tuple #[]) h_41 (fun h_42 =>
                                                                          Hp Try.prog true (loadCell 4 t6) (fun r_1 _ =>
                                                                            R r_1 h_42) h_42 ⟨⟩) ⟨⟩) h_40 ⟨⟩) (
                                                                      LoopC 1 (fun (X : Value → Heap → Prop) => fun i13 h_43 =>
                                                                        Hp Try.prog false (Builtin.len_ #[39] 3 #[t43]) (fun t61 h_44 => 
                                                                          Hp Try.prog false (binS .lss 3 (.tmp 59) (.tmp 61) i13 t61) (fun t62 h_45 => 
                                                                            CondP t62 (
                                                                              Hp Try.prog false (Instr.indexAt 39 t43 i13) (fun t67 h_46 => 
                                                                                Hp Try.prog false (storeS 5 t67 (.int .u8 255)) (fun _ h_47 => 
                                                                                  Hp Try.prog false (binS .add 3 (.tmp 63) (.const (.int .i64 1)) i13 (.int .i64 1)) (fun t64 h_48 => 
                                                                                    X t64 h_48) h_47 ⟨⟩) h_46 ⟨⟩) h_45 ⟨⟩) (
                                                                              JoinN 1 (fun (k_5 : Value → Heap → Prop) h_49 =>
                                                                                Hp Try.prog false (Instr.alloc 3 true undef) (fun turn14 h_50 => 
                                                                                  Hp Try.prog false (storeS 3 turn14 (.int .i64 0)) (fun _ h_51 => 
                                                                                    JoinN 1 (fun (k_6 : Value → Heap → Prop) h_52 =>
                                                                                      LoopC 2 (fun (X_1 : Value → Value → Heap → Prop) => fun D turn14_1 h_53 =>
                                                                                        Hp Try.prog false (Instr.loadAt 3 turn14_1) (fun t68 h_54 => 
                                                                                          Hp Try.prog false (binS .lss 3 (.tmp 68) (.const (.int .i64 2)) t68 (.int .i64 2)) (fun t69 h_55 => 
                                                                                            CondP t69 (
                                                                                              JoinN 1 (fun (k_7 : Value → Heap → Prop) h_56 =>
                                                                                                JoinN 1 (fun (k_8 : Value → Heap → Prop) h_57 =>
                                                                                                  Hp Try.prog false (Instr.alloc 3 true undef) (fun at15 h_58 => 
                                                                                                    Hp Try.prog false (Instr.alloc 3 true undef) (fun told16 h_59 => 
                                                                                                      Hp Try.prog false (storeS 3 at15 (.int .i64 0)) (fun _ h_60 => 
                                                                                                        Hp Try.prog false (storeS 3 told16 (.int .i64 0)) (fun _ h_61 => 
                                                                                                          Hp Try.prog false (Instr.alloc 4 true undef) (fun stopped17 h_62 => 
                                                                                                            Hp Try.prog false (storeS 4 stopped17 (.bool false)) (fun _ h_63 => 
                                                                                                              JoinN 1 (fun (k_9 : Value → Heap → Prop) h_64 =>
                                                                                                                JoinN 1 (fun (k_10 : Value → Heap → Prop) h_65 =>
                                                                                                                  RangeC Try.prog none t46 2 D (fun l args bg Nb Jb h_66 =>
                                                                                                                    Hp Try.prog false (Instr.alloc 24 true undef) (fun x19 h_68 => 
                                                                                                                      Hp Try.prog false (storeS 24 x19 (getV args 1)) (fun _ h_69 => 
                                                                                                                        bg (fun h_67 =>
                                                                                                                          LoopC 0 (fun (X_2 : Heap → Prop) => fun h_70 =>
                                                                                                                            Hp Try.prog false (Instr.loadAt 3 at15) (fun t75 h_71 => 
                                                                                                                              Hp Try.prog false (binS .lss 3 (.tmp 75) (.tmp 76) t75 (getV args 0)) (fun t77 h_72 => 
                                                                                                                                CondP t77 (
                                                                                                                                  Hp Try.prog false (Instr.loadAt 39 table3) (fun t79 h_73 => 
                                                                                                                                    Hp Try.prog false (Instr.loadAt 3 at15) (fun t80 h_74 => 
                                                                                                                                      Hp Try.prog false (Instr.loadAt 3 bits4) (fun t81 h_75 => 
                                                                                                                                        CallsH Try.prog 35 #[t79, t80, t81] h_75 (fun t82 h_76 => 
                                                                                                                                          Hp Try.prog false (Instr.extract t82 0) (fun t83 h_77 => 
                                                                                                                                            Hp Try.prog false (Instr.extract t82 1) (fun t84 h_78 => 
                                                                                                                                              Hp Try.prog false (Instr.alloc 24 true undef) (fun y20 h_79 => 
                                                                                                                                                Hp Try.prog false (storeS 24 y20 t83) (fun _ h_80 => 
                                                                                                                                                  Hp Try.prog false (binS .neq 3 (.tmp 85) (.const (.int .i64 0)) t84 (.int .i64 0)) (fun t86 h_81 => 
                                                                                                                                                    Join1 (fun k_11 h_82 => guardP t86 false (Hp Try.prog false (Instr.loadAt 24 y20) k_11 h_82 ⟨⟩) (k_11 undef h_82) ⟨⟩ ⟨⟩) (fun t88 h_83 => 
                                                                                                                                                      Join1 (fun k_12 h_84 => guardP t86 false (Hp Try.prog false (Instr.build 24 #[]) k_12 h_84 ⟨⟩) (k_12 undef h_84) ⟨⟩ ⟨⟩) (fun t89 h_85 => 
                                                                                                                                                        Join1 (fun k_13 h_86 => guardP t86 false (Hp Try.prog false (binS .neq 24 (.tmp 88) (.tmp 89) t88 t89) k_13 h_86 ⟨⟩) (k_13 undef h_86) ⟨⟩ ⟨⟩) (fun t90 h_87 => 
                                                                                                                                                          Hp Try.prog false (pickS t86 (.bool true) t90) (fun t91 h_88 => 
                                                                                                                                                            CondP t91 (
                                                                                                                                                              Hp Try.prog false (storeS 4 t6 (.bool false)) (fun _ h_89 => 
                                                                                                                                                                Jb .ret h_89) h_88 ⟨⟩) (
                                                                                                                                                              Hp Try.prog false (Instr.loadAt 3 at15) (fun t92 h_90 => 
                                                                                                                                                                Hp Try.prog false (binS .add 3 (.tmp 92) (.const (.int .i64 1)) t92 (.int .i64 1)) (fun t93 h_91 => 
                                                                                                                                                                  Hp Try.prog false (storeS 3 at15 t93) (fun _ h_92 => 
                                                                                                                                                                    X_2 h_92) h_91 ⟨⟩) h_90 ⟨⟩) h_88 ⟨⟩) ⟨⟩ ⟨⟩) h_87 ⟨⟩) h_85 ⟨⟩ ⟨⟩) h_83 ⟨⟩ ⟨⟩) h_81 ⟨⟩ ⟨⟩) h_80 ⟨⟩) h_79 ⟨⟩) h_78 ⟨⟩) h_77 ⟨⟩) h_76 ⟨⟩) ⟨⟩) h_74 ⟨⟩) h_73 ⟨⟩) h_72 ⟨⟩) (
                                                                                                                                  Hp Try.prog false (Instr.loadAt 39 table3) (fun t95 h_93 => 
                                                                                                                                    Hp Try.prog false (Instr.loadAt 3 bits4) (fun t97 h_94 => 
                                                                                                                                      CallsH Try.prog 35 #[t95, (getV args 0), t97] h_94 (fun t98 h_95 => 
                                                                                                                                        Hp Try.prog false (Instr.extract t98 0) (fun t99 h_96 => 
                                                                                                                                          Hp Try.prog false (Instr.extract t98 1) (fun t100 h_97 => 
                                                                                                                                            Hp Try.prog false (Instr.alloc 24 true undef) (fun y22 h_98 => 
                                                                                                                                              Hp Try.prog false (storeS 24 y22 t99) (fun _ h_99 => 
                                                                                                                                                Hp Try.prog false (Instr.loadAt 3 k9) (fun t102 h_100 => 
                                                                                                                                                  Hp Try.prog false (binS .geq 3 (.tmp 101) (.tmp 102) (getV args 0) t102) (fun t103 h_101 => 
                                                                                                                                                    Join1 (fun k_14 h_102 => guardP t103 false (k_14 t100 h_102) (k_14 undef h_102) ⟨⟩ ⟨⟩) (fun t105 h_103 => 
                                                                                                                                                      Join1 (fun k_15 h_104 => guardP t103 false (Hp Try.prog false (binS .neq 3 (.tmp 105) (.const (.int .i64 0)) t105 (.int .i64 0)) k_15 h_104 ⟨⟩) (k_15 undef h_104) ⟨⟩ ⟨⟩) (fun t106 h_105 => 
                                                                                                                                                        Hp Try.prog false (pickS t103 (.bool true) t106) (fun t107 h_106 => 
                                                                                                                                                          Join1 (fun k_16 h_107 => guardP t107 false (Hp Try.prog false (Instr.loadAt 24 x19) k_16 h_107 ⟨⟩) (k_16 undef h_107) ⟨⟩ ⟨⟩) (fun t109 h_108 => 
                                                                                                                                                            Join1 (fun k_17 h_109 => guardP t107 false (Hp Try.prog false (Instr.loadAt 24 y22) k_17 h_109 ⟨⟩) (k_17 undef h_109) ⟨⟩ ⟨⟩) (fun t110 h_110 => 
                                                                                                                                                              Join1 (fun k_18 h_111 => guardP t107 false (Hp Try.prog false (binS .neq 24 (.tmp 109) (.tmp 110) t109 t110) k_18 h_111 ⟨⟩) (k_18 undef h_111) ⟨⟩ ⟨⟩) (fun t111 h_112 => 
                                                                                                                                                                Hp Try.prog false (pickS t107 (.bool true) t111) (fun t112 h_113 => 
                                                                                                                                                                  Join1 (fun k_19 h_114 => guardP t112 false (Hp Try.prog false (Instr.loadAt 24 x19) k_19 h_114 ⟨⟩) (k_19 undef h_114) ⟨⟩ ⟨⟩) (fun t114 h_115 => 
                                                                                                                                                                    Join1 (fun k_20 h_116 => guardP t112 false (Hp Try.prog false (Instr.build 24 #[]) k_20 h_116 ⟨⟩) (k_20 undef h_116) ⟨⟩ ⟨⟩) (fun t115 h_117 => 
                                                                                                                                                                      Join1 (fun k_21 h_118 => guardP t112 false (Hp Try.prog false (binS .eql 24 (.tmp 114) (.tmp 115) t114 t115) k_21 h_118 ⟨⟩) (k_21 undef h_118) ⟨⟩ ⟨⟩) (fun t116 h_119 => 
                                                                                                                                                                        Hp Try.prog false (pickS t112 (.bool true) t116) (fun t117 h_120 => 
                                                                                                                                                                          CondP t117 (
                                                                                                                                                                            Hp Try.prog false (storeS 4 t6 (.bool false)) (fun _ h_121 => 
                                                                                                                                                                              Jb .ret h_121) h_120 ⟨⟩) (
                                                                                                                                                                            Hp Try.prog false (binS .add 3 (.tmp 118) (.const (.int .i64 1)) (getV args 0) (.int .i64 1)) (fun t119 h_122 => 
                                                                                                                                                                              Hp Try.prog false (storeS 3 at15 t119) (fun _ h_123 => 
                                                                                                                                                                                Hp Try.prog false (Instr.loadAt 3 told16) (fun t120 h_124 => 
                                                                                                                                                                                  Hp Try.prog false (binS .add 3 (.tmp 120) (.const (.int .i64 1)) t120 (.int .i64 1)) (fun t121 h_125 => 
                                                                                                                                                                                    Hp Try.prog false (storeS 3 told16 t121) (fun _ h_126 => 
                                                                                                                                                                                      Hp Try.prog false (Instr.loadAt 3 turn14_1) (fun t122 h_127 => 
                                                                                                                                                                                        Hp Try.prog false (binS .eql 3 (.tmp 122) (.const (.int .i64 0)) t122 (.int .i64 0)) (fun t123 h_128 => 
                                                                                                                                                                                          Join1 (fun k_22 h_129 => guardP t123 true (Hp Try.prog false (Instr.loadAt 3 told16) k_22 h_129 ⟨⟩) (k_22 undef h_129) ⟨⟩ ⟨⟩) (fun t125 h_130 => 
                                                                                                                                                                                            Join1 (fun k_23 h_131 => guardP t123 true (Hp Try.prog false (Instr.loadAt 3 leave5) k_23 h_131 ⟨⟩) (k_23 undef h_131) ⟨⟩ ⟨⟩) (fun t126 h_132 => 
                                                                                                                                                                                              Join1 (fun k_24 h_133 => guardP t123 true (Hp Try.prog false (binS .eql 3 (.tmp 125) (.tmp 126) t125 t126) k_24 h_133 ⟨⟩) (k_24 undef h_133) ⟨⟩ ⟨⟩) (fun t127 h_134 => 
                                                                                                                                                                                                Hp Try.prog false (pickS t123 t127 (.bool false)) (fun t128 h_135 => 
                                                                                                                                                                                                  CondP t128 (
                                                                                                                                                                                                    Hp Try.prog false (storeS 4 stopped17 (.bool true)) (fun _ h_136 => 
                                                                                                                                                                                                      Jb (.exit 4) h_136) h_135 ⟨⟩) (
                                                                                                                                                                                                    Nb h_135) ⟨⟩ ⟨⟩) h_134 ⟨⟩) h_132 ⟨⟩ ⟨⟩) h_130 ⟨⟩ ⟨⟩) h_128 ⟨⟩ ⟨⟩) h_127 ⟨⟩) h_126 ⟨⟩) h_125 ⟨⟩) h_124 ⟨⟩) h_123 ⟨⟩) h_122 ⟨⟩) h_120 ⟨⟩) ⟨⟩ ⟨⟩) h_119 ⟨⟩) h_117 ⟨⟩ ⟨⟩) h_115 ⟨⟩ ⟨⟩) h_113 ⟨⟩ ⟨⟩) h_112 ⟨⟩) h_110 ⟨⟩ ⟨⟩) h_108 ⟨⟩ ⟨⟩) h_106 ⟨⟩ ⟨⟩) h_105 ⟨⟩) h_103 ⟨⟩ ⟨⟩) h_101 ⟨⟩ ⟨⟩) h_100 ⟨⟩) h_99 ⟨⟩) h_98 ⟨⟩) h_97 ⟨⟩) h_96 ⟨⟩) h_95 ⟨⟩) ⟨⟩) h_93 ⟨⟩) h_72 ⟨⟩) ⟨⟩ ⟨⟩) h_71 ⟨⟩) h_70 ⟨⟩) [] h_67 ⟨⟩) h_69) h_68 ⟨⟩) h_66 ⟨⟩)
                                                                                                                    (fun D_1 h_137 =>
                                                                                                                    k_10 D_1 h_137)
                                                                                                                    (fun D_2 h_138 =>
                                                                                                                    RetD D_2 h_138 (fun h_139 =>
                                                                                                                      Hp Try.prog true (loadCell 4 t6) (fun r_2 _ =>
                                                                                                                        R r_2 h_139) h_139 ⟨⟩) ⟨⟩)
                                                                                                                    (fun id D_3 h_140 => bif Nat.beq id 4 then (k_10 D_3 h_140) else bif Nat.beq id 3 then (k_8 D_3 h_140) else bif Nat.beq id 2 then (k_6 D_3 h_140) else False) h_65 ⟨⟩ ⟨⟩ ⟨⟩ ⟨⟩)
                                                                                                                  (fun D_4 h_141 =>
                                                                                                                  k_9 D_4 h_141) h_64 ⟨⟩ ⟨⟩)
                                                                                                                (fun D_5 h_142 =>
                                                                                                                LoopC 0 (fun (X_3 : Heap → Prop) => fun h_143 =>
                                                                                                                  Hp Try.prog false (Instr.loadAt 3 at15) (fun t129 h_144 => 
                                                                                                                    Hp Try.prog false (Instr.loadAt 3 k9) (fun t130 h_145 => 
                                                                                                                      Hp Try.prog false (binS .lss 3 (.tmp 129) (.tmp 130) t129 t130) (fun t131 h_146 => 
                                                                                                                        Join1 (fun k_25 h_147 => guardP t131 true (Hp Try.prog false (Instr.loadAt 4 stopped17) k_25 h_147 ⟨⟩) (k_25 undef h_147) ⟨⟩ ⟨⟩) (fun t133 h_148 => 
                                                                                                                          Join1 (fun k_26 h_149 => guardP t131 true (Hp Try.prog false (Op.unary .not t133) k_26 h_149 ⟨⟩) (k_26 undef h_149) ⟨⟩ ⟨⟩) (fun t134 h_150 => 
                                                                                                                            Hp Try.prog false (pickS t131 t134 (.bool false)) (fun t135 h_151 => 
                                                                                                                              CondP t135 (
                                                                                                                                Hp Try.prog false (Instr.loadAt 39 table3) (fun t137 h_152 => 
                                                                                                                                  Hp Try.prog false (Instr.loadAt 3 at15) (fun t138 h_153 => 
                                                                                                                                    Hp Try.prog false (Instr.loadAt 3 bits4) (fun t139 h_154 => 
                                                                                                                                      CallsH Try.prog 35 #[t137, t138, t139] h_154 (fun t140 h_155 => 
                                                                                                                                        Hp Try.prog false (Instr.extract t140 0) (fun t141 h_156 => 
                                                                                                                                          Hp Try.prog false (Instr.extract t140 1) (fun t142 h_157 => 
                                                                                                                                            Hp Try.prog false (Instr.alloc 24 true undef) (fun y24 h_158 => 
                                                                                                                                              Hp Try.prog false (storeS 24 y24 t141) (fun _ h_159 => 
                                                                                                                                                Hp Try.prog false (Instr.loadAt 24 y24) (fun t143 h_160 => 
                                                                                                                                                  Hp Try.prog false (Instr.build 24 #[]) (fun t144 h_161 => 
                                                                                                                                                    Hp Try.prog false (binS .neq 24 (.tmp 143) (.tmp 144) t143 t144) (fun t145 h_162 => 
                                                                                                                                                      CondP t145 (
                                                                                                                                                        Hp Try.prog false (storeS 4 t6 (.bool false)) (fun _ h_163 => 
                                                                                                                                                          RetD D_5 h_163 (fun h_164 =>
                                                                                                                                                            Hp Try.prog true (loadCell 4 t6) (fun r_3 _ =>
                                                                                                                                                              R r_3 h_164) h_164 ⟨⟩) ⟨⟩) h_162 ⟨⟩) (
                                                                                                                                                        Hp Try.prog false (Instr.loadAt 3 at15) (fun t146 h_165 => 
                                                                                                                                                          Hp Try.prog false (binS .add 3 (.tmp 146) (.const (.int .i64 1)) t146 (.int .i64 1)) (fun t147 h_166 => 
                                                                                                                                                            Hp Try.prog false (storeS 3 at15 t147) (fun _ h_167 => 
                                                                                                                                                              X_3 h_167) h_166 ⟨⟩) h_165 ⟨⟩) h_162 ⟨⟩) ⟨⟩ ⟨⟩) h_161 ⟨⟩) h_160 ⟨⟩) h_159 ⟨⟩) h_158 ⟨⟩) h_157 ⟨⟩) h_156 ⟨⟩) h_155 ⟨⟩) ⟨⟩) h_153 ⟨⟩) h_152 ⟨⟩) h_151 ⟨⟩) (
                                                                                                                                k_8 D_5 h_151) ⟨⟩ ⟨⟩) h_150 ⟨⟩) h_148 ⟨⟩ ⟨⟩) h_146 ⟨⟩ ⟨⟩) h_145 ⟨⟩) h_144 ⟨⟩) h_143 ⟨⟩) [] h_142 ⟨⟩) h_63 ⟨⟩ ⟨⟩) h_62 ⟨⟩) h_61 ⟨⟩) h_60 ⟨⟩) h_59 ⟨⟩) h_58 ⟨⟩) h_57 ⟨⟩)
                                                                                                  (fun D_6 h_168 =>
                                                                                                  k_7 D_6 h_168) h_56 ⟨⟩ ⟨⟩)
                                                                                                (fun D_7 h_169 =>
                                                                                                Hp Try.prog false (Instr.loadAt 3 turn14_1) (fun t148 h_170 => 
                                                                                                  Hp Try.prog false (Instr.alloc 3 true undef) (fun turn14_2 h_171 => 
                                                                                                    Hp Try.prog false (storeS 3 turn14_2 t148) (fun _ h_172 => 
                                                                                                      Hp Try.prog false (Instr.loadAt 3 turn14_2) (fun t70 h_173 => 
                                                                                                        Hp Try.prog false (binS .add 3 (.tmp 70) (.const (.int .i64 1)) t70 (.int .i64 1)) (fun t71 h_174 => 
                                                                                                          Hp Try.prog false (storeS 3 turn14_2 t71) (fun _ h_175 => 
                                                                                                            X_1 D_7 turn14_2 h_175) h_174 ⟨⟩) h_173 ⟨⟩) h_172 ⟨⟩) h_171 ⟨⟩) h_170 ⟨⟩) h_169 ⟨⟩) h_55 ⟨⟩ ⟨⟩) (
                                                                                              k_6 D h_55) ⟨⟩ ⟨⟩) h_54 ⟨⟩) h_53 ⟨⟩) [(.tuple #[]), turn14] h_52 ⟨⟩)
                                                                                      (fun D_8 h_176 =>
                                                                                      k_5 D_8 h_176) h_51 ⟨⟩ ⟨⟩) h_50 ⟨⟩) h_49 ⟨⟩)
                                                                                (fun D_9 h_177 =>
                                                                                CallsH Try.prog 21 #[] h_177 (fun t149 h_178 => 
                                                                                  Hp Try.prog false (storeS 4 t6 t149) (fun _ h_179 => 
                                                                                    RetD D_9 h_179 (fun h_180 =>
                                                                                      Hp Try.prog true (loadCell 4 t6) (fun r_4 _ =>
                                                                                        R r_4 h_180) h_180 ⟨⟩) ⟨⟩) h_178 ⟨⟩) ⟨⟩) h_45 ⟨⟩ ⟨⟩) ⟨⟩ ⟨⟩) h_44 ⟨⟩) h_43 ⟨⟩) [(.int .i64 0)] h_40 ⟨⟩) ⟨⟩ ⟨⟩) h_39 ⟨⟩) h_37 ⟨⟩ ⟨⟩) h_35 ⟨⟩ ⟨⟩) h_34 ⟨⟩) h_32 ⟨⟩ ⟨⟩) h_30 ⟨⟩ ⟨⟩) h_28 ⟨⟩ ⟨⟩) h_27 ⟨⟩) h_26 ⟨⟩) ⟨⟩) h_24 ⟨⟩) h_23 ⟨⟩) h_22 ⟨⟩) h_21 ⟨⟩) h_20 ⟨⟩) h_19 ⟨⟩) h_18 ⟨⟩) ⟨⟩) h_16 ⟨⟩) h_15 ⟨⟩) h_14 ⟨⟩) h_13 ⟨⟩) ⟨⟩) h_11 ⟨⟩) h_7 ⟨⟩) ⟨⟩ ⟨⟩) h_6 ⟨⟩) h_5 ⟨⟩) h_4 ⟨⟩) h_3 ⟨⟩) h_2 ⟨⟩) h_1 ⟨⟩) h ⟨⟩

theorem n8_calls {table0 bits1 leave2 : Value} {R : Value → Heap → Prop} {h : Heap} (H : n8 table0 bits1 leave2 R h) : CallsH Try.prog 8 #[table0, bits1, leave2] h R ⟨⟩ :=
  callsH_of_eq Try.follow (.n none .l (.n none .l (.n none .l (.n none .l (.n none .l (.n none .l (.n none .l (.n none (.n none .l (.n none (.n (some [14]) .l .l) .l)) (.n (some [0]) (.n none .l (.n (some [0]) (.n (some [0, 15]) (.n none .l (.n (some [0]) (.n (some [0]) (.n none .l (.n none .l (.n (some [0]) (.n none .l (.n (some [0]) (.n none .l (.n none (.n none (.n none (.n (some []) .l .l) .l) .l) .l)) .l)) (.n none (.n (some []) .l .l) .l)))) .l) .l)) .l) .l)) .l))))))))) Try.func8 (by kernel_rfl) (by kernel_rfl) (by kernel_rfl) H

/-- palimpsest/palimpsestref09.May -/
def n15 (e0 bits1 : Value) (R : Value → Heap → Prop) (h : Heap) : Prop :=
  Hp Try.prog false (Instr.box 24 e0) (fun e2 h_1 => 
    CallsH Try.prog 20 #[bits1] h_1 (fun t7 h_2 => 
      Hp Try.prog false (Op.unary .not t7) (fun t8 h_3 => 
        CondP t8 (
          R (.bool false) h_3) (
          CallsH Try.prog 64 #[bits1] h_3 (fun t10 h_4 => 
            Hp Try.prog false (Instr.fieldAt 24 e2 0) (fun t11 h_5 => 
              Hp Try.prog false (Instr.loadAt 22 t11) (fun t12 h_6 => 
                JoinN 1 (fun (k : Value → Heap → Prop) h_7 =>
                  Hp Try.prog false (binS .eql 3 (.tmp 12) (.const (.int .i64 0)) t12 (.int .i64 0)) (fun t14 h_8 => 
                    CondP t14 (
                      k t14 h_8) (
                      Hp Try.prog false (binS .eql 3 (.tmp 12) (.const (.int .i64 1)) t12 (.int .i64 1)) (fun t15 h_9 => 
                        k t15 h_9) h_8 ⟨⟩) ⟨⟩ ⟨⟩) h_7 ⟨⟩)
                  (fun t13 h_10 =>
                  CondP t13 (
                    Hp Try.prog false (Instr.fieldAt 24 e2 1) (fun t16 h_11 => 
                      Hp Try.prog false (Instr.loadAt 2 t16) (fun t17 h_12 => 
                        Hp Try.prog false (binS .eql 2 (.tmp 17) (.const (.int .i64 0)) t17 (.int .i64 0)) (fun t18 h_13 => 
                          Join1 (fun k_1 h_14 => guardP t18 true (Hp Try.prog false (Instr.fieldAt 24 e2 2) k_1 h_14 ⟨⟩) (k_1 undef h_14) ⟨⟩ ⟨⟩) (fun t20 h_15 => 
                            Join1 (fun k_2 h_16 => guardP t18 true (Hp Try.prog false (Instr.loadAt 3 t20) k_2 h_16 ⟨⟩) (k_2 undef h_16) ⟨⟩ ⟨⟩) (fun t21 h_17 => 
                              Join1 (fun k_3 h_18 => guardP t18 true (Hp Try.prog false (binS .eql 3 (.tmp 21) (.const (.int .i64 0)) t21 (.int .i64 0)) k_3 h_18 ⟨⟩) (k_3 undef h_18) ⟨⟩ ⟨⟩) (fun t22 h_19 => 
                                Hp Try.prog false (pickS t18 t22 (.bool false)) (fun t23 h_20 => 
                                  R t23 h_20) h_19 ⟨⟩) h_17 ⟨⟩ ⟨⟩) h_15 ⟨⟩ ⟨⟩) h_13 ⟨⟩ ⟨⟩) h_12 ⟨⟩) h_11 ⟨⟩) h_10 ⟨⟩) (
                    Hp Try.prog false (binS .eql 3 (.tmp 12) (.const (.int .i64 2)) t12 (.int .i64 2)) (fun t25 h_21 => 
                      CondP t25 (
                        Hp Try.prog false (Instr.fieldAt 24 e2 2) (fun t26 h_22 => 
                          Hp Try.prog false (Instr.loadAt 3 t26) (fun t27 h_23 => 
                            Hp Try.prog false (binS .eql 3 (.tmp 27) (.const (.int .i64 0)) t27 (.int .i64 0)) (fun t28 h_24 => 
                              Join1 (fun k_4 h_25 => guardP t28 true (Hp Try.prog false (Instr.fieldAt 24 e2 1) k_4 h_25 ⟨⟩) (k_4 undef h_25) ⟨⟩ ⟨⟩) (fun t30 h_26 => 
                                Join1 (fun k_5 h_27 => guardP t28 true (Hp Try.prog false (Instr.loadAt 2 t30) k_5 h_27 ⟨⟩) (k_5 undef h_27) ⟨⟩ ⟨⟩) (fun t31 h_28 => 
                                  Join1 (fun k_6 h_29 => guardP t28 true (k_6 bits1 h_29) (k_6 undef h_29) ⟨⟩ ⟨⟩) (fun t32 h_30 => 
                                    Join1 (fun k_7 h_31 => guardP t28 true (CallsH Try.prog 65 #[t31, t32] h_31 k_7 ⟨⟩) (k_7 undef h_31) ⟨⟩ ⟨⟩) (fun t33 h_32 => 
                                      Hp Try.prog false (pickS t28 t33 (.bool false)) (fun t34 h_33 => 
                                        R t34 h_33) h_32 ⟨⟩) h_30 ⟨⟩ ⟨⟩) h_28 ⟨⟩ ⟨⟩) h_26 ⟨⟩ ⟨⟩) h_24 ⟨⟩ ⟨⟩) h_23 ⟨⟩) h_22 ⟨⟩) h_21 ⟨⟩) (
                        Hp Try.prog false (binS .eql 3 (.tmp 12) (.const (.int .i64 3)) t12 (.int .i64 3)) (fun t36 h_34 => 
                          CondP t36 (
                            Hp Try.prog true (Instr.fieldAt 24 e2 2) (fun t37 _ => 
                              Hp Try.prog true (Instr.loadAt 3 t37) (fun t38 _ => 
                                Hp Try.prog true (binS .geq 3 (.tmp 38) (.const (.int .i64 1)) t38 (.int .i64 1)) (fun t39 _ => 
                                  Join1 (fun k_8 h_35 => guardP t39 true (Hp Try.prog true (Instr.fieldAt 24 e2 2) k_8 h_35 ⟨⟩) (k_8 undef h_35) ⟨⟩ ⟨⟩) (fun t41 _ => 
                                    Join1 (fun k_9 h_36 => guardP t39 true (Hp Try.prog true (Instr.loadAt 3 t41) k_9 h_36 ⟨⟩) (k_9 undef h_36) ⟨⟩ ⟨⟩) (fun t42 _ => 
                                      Join1 (fun k_10 h_37 => guardP t39 true (Hp Try.prog true (binS .leq 3 (.tmp 42) (.const (.int .i64 16383)) t42 (.int .i64 16383)) k_10 h_37 ⟨⟩) (k_10 undef h_37) ⟨⟩ ⟨⟩) (fun t43 _ => 
                                        Hp Try.prog true (pickS t39 t43 (.bool false)) (fun t44 _ => 
                                          Join1 (fun k_11 h_38 => guardP t44 true (Hp Try.prog true (Instr.fieldAt 24 e2 2) k_11 h_38 ⟨⟩) (k_11 undef h_38) ⟨⟩ ⟨⟩) (fun t46 _ => 
                                            Join1 (fun k_12 h_39 => guardP t44 true (Hp Try.prog true (Instr.loadAt 3 t46) k_12 h_39 ⟨⟩) (k_12 undef h_39) ⟨⟩ ⟨⟩) (fun t47 _ => 
                                              Join1 (fun k_13 h_40 => guardP t44 true (k_13 t10 h_40) (k_13 undef h_40) ⟨⟩ ⟨⟩) (fun t48 _ => 
                                                Join1 (fun k_14 h_41 => guardP t44 true (Hp Try.prog true (binS .lss 2 (.tmp 47) (.tmp 48) t47 t48) k_14 h_41 ⟨⟩) (k_14 undef h_41) ⟨⟩ ⟨⟩) (fun t49 _ => 
                                                  Hp Try.prog true (pickS t44 t49 (.bool false)) (fun t50 _ => 
                                                    Join1 (fun k_15 h_42 => guardP t50 true (Hp Try.prog true (Instr.fieldAt 24 e2 1) k_15 h_42 ⟨⟩) (k_15 undef h_42) ⟨⟩ ⟨⟩) (fun t52 _ => 
                                                      Join1 (fun k_16 h_43 => guardP t50 true (Hp Try.prog true (Instr.loadAt 2 t52) k_16 h_43 ⟨⟩) (k_16 undef h_43) ⟨⟩ ⟨⟩) (fun t53 _ => 
                                                        Join1 (fun k_17 h_44 => guardP t50 true (k_17 t10 h_44) (k_17 undef h_44) ⟨⟩ ⟨⟩) (fun t54 _ => 
                                                          Join1 (fun k_18 h_45 => guardP t50 true (Hp Try.prog true (binS .geq 2 (.tmp 53) (.tmp 54) t53 t54) k_18 h_45 ⟨⟩) (k_18 undef h_45) ⟨⟩ ⟨⟩) (fun t55 _ => 
                                                            Hp Try.prog true (pickS t50 t55 (.bool false)) (fun t56 _ => 
                                                              Join1 (fun k_19 h_46 => guardP t56 true (Hp Try.prog true (Instr.fieldAt 24 e2 1) k_19 h_46 ⟨⟩) (k_19 undef h_46) ⟨⟩ ⟨⟩) (fun t58 _ => 
                                                                Join1 (fun k_20 h_47 => guardP t56 true (Hp Try.prog true (Instr.loadAt 2 t58) k_20 h_47 ⟨⟩) (k_20 undef h_47) ⟨⟩ ⟨⟩) (fun t59 _ => 
                                                                  Join1 (fun k_21 h_48 => guardP t56 true (Hp Try.prog true (Instr.fieldAt 24 e2 2) k_21 h_48 ⟨⟩) (k_21 undef h_48) ⟨⟩ ⟨⟩) (fun t60 _ => 
                                                                    Join1 (fun k_22 h_49 => guardP t56 true (Hp Try.prog true (Instr.loadAt 3 t60) k_22 h_49 ⟨⟩) (k_22 undef h_49) ⟨⟩ ⟨⟩) (fun t61 _ => 
                                                                      Join1 (fun k_23 h_50 => guardP t56 true (Hp Try.prog true (binS .sub 2 (.const (.int .i64 268435456)) (.tmp 61) (.int .i64 268435456) t61) k_23 h_50 ⟨⟩) (k_23 undef h_50) ⟨⟩ ⟨⟩) (fun t62 _ => 
                                                                        Join1 (fun k_24 h_51 => guardP t56 true (Hp Try.prog true (binS .leq 2 (.tmp 59) (.tmp 62) t59 t62) k_24 h_51 ⟨⟩) (k_24 undef h_51) ⟨⟩ ⟨⟩) (fun t63 _ => 
                                                                          Hp Try.prog true (pickS t56 t63 (.bool false)) (fun t64 _ => 
                                                                            Join1 (fun k_25 h_52 => guardP t64 true (Hp Try.prog true (Instr.fieldAt 24 e2 1) k_25 h_52 ⟨⟩) (k_25 undef h_52) ⟨⟩ ⟨⟩) (fun t66 _ => 
                                                                              Join1 (fun k_26 h_53 => guardP t64 true (Hp Try.prog true (Instr.loadAt 2 t66) k_26 h_53 ⟨⟩) (k_26 undef h_53) ⟨⟩ ⟨⟩) (fun t67 _ => 
                                                                                Join1 (fun k_27 h_54 => guardP t64 true (k_27 t10 h_54) (k_27 undef h_54) ⟨⟩ ⟨⟩) (fun t68 _ => 
                                                                                  Join1 (fun k_28 h_55 => guardP t64 true (Hp Try.prog true (binS .rem 2 (.tmp 67) (.tmp 68) t67 t68) k_28 h_55 ⟨⟩) (k_28 undef h_55) ⟨⟩ ⟨⟩) (fun t69 _ => 
                                                                                    Join1 (fun k_29 h_56 => guardP t64 true (Hp Try.prog true (Instr.fieldAt 24 e2 2) k_29 h_56 ⟨⟩) (k_29 undef h_56) ⟨⟩ ⟨⟩) (fun t70 _ => 
                                                                                      Join1 (fun k_30 h_57 => guardP t64 true (Hp Try.prog true (Instr.loadAt 3 t70) k_30 h_57 ⟨⟩) (k_30 undef h_57) ⟨⟩ ⟨⟩) (fun t71 _ => 
                                                                                        Join1 (fun k_31 h_58 => guardP t64 true (Hp Try.prog true (binS .add 2 (.tmp 69) (.tmp 71) t69 t71) k_31 h_58 ⟨⟩) (k_31 undef h_58) ⟨⟩ ⟨⟩) (fun t72 _ => 
                                                                                          Join1 (fun k_32 h_59 => guardP t64 true (k_32 t10 h_59) (k_32 undef h_59) ⟨⟩ ⟨⟩) (fun t73 _ => 
                                                                                            Join1 (fun k_33 h_60 => guardP t64 true (Hp Try.prog true (binS .leq 2 (.tmp 72) (.tmp 73) t72 t73) k_33 h_60 ⟨⟩) (k_33 undef h_60) ⟨⟩ ⟨⟩) (fun t74 _ => 
                                                                                              Hp Try.prog true (pickS t64 t74 (.bool false)) (fun t75 _ => 
                                                                                                R t75 h_34) #[] ⟨⟩) #[] ⟨⟩ ⟨⟩) #[] ⟨⟩ ⟨⟩) #[] ⟨⟩ ⟨⟩) h_34 ⟨⟩ ⟨⟩) #[] ⟨⟩ ⟨⟩) #[] ⟨⟩ ⟨⟩) #[] ⟨⟩ ⟨⟩) h_34 ⟨⟩ ⟨⟩) #[] ⟨⟩ ⟨⟩) #[] ⟨⟩) #[] ⟨⟩ ⟨⟩) #[] ⟨⟩ ⟨⟩) h_34 ⟨⟩ ⟨⟩) #[] ⟨⟩ ⟨⟩) h_34 ⟨⟩ ⟨⟩) #[] ⟨⟩ ⟨⟩) #[] ⟨⟩) #[] ⟨⟩ ⟨⟩) #[] ⟨⟩ ⟨⟩) h_34 ⟨⟩ ⟨⟩) #[] ⟨⟩ ⟨⟩) #[] ⟨⟩) #[] ⟨⟩ ⟨⟩) #[] ⟨⟩ ⟨⟩) h_34 ⟨⟩ ⟨⟩) #[] ⟨⟩ ⟨⟩) #[] ⟨⟩) #[] ⟨⟩ ⟨⟩) h_34 ⟨⟩ ⟨⟩) #[] ⟨⟩ ⟨⟩) #[] ⟨⟩) h_34 ⟨⟩) #[] ⟨⟩) (
                            R (.bool false) h_34) ⟨⟩ ⟨⟩) h_21 ⟨⟩) ⟨⟩ ⟨⟩) h_10 ⟨⟩) ⟨⟩ ⟨⟩) h_6 ⟨⟩ ⟨⟩) h_5 ⟨⟩) h_4 ⟨⟩) ⟨⟩) ⟨⟩ ⟨⟩) h_2 ⟨⟩) ⟨⟩) h ⟨⟩

theorem n15_calls {e0 bits1 : Value} {R : Value → Heap → Prop} {h : Heap} (H : n15 e0 bits1 R h) : CallsH Try.prog 15 #[e0, bits1] h R ⟨⟩ :=
  callsH_of_eq Try.follow (.n none .l (.n none .l (.n none .l (.n none (.n none .l (.n none (.n (some [14]) .l .l) .l)) .l)))) Try.func15 (by kernel_rfl) (by kernel_rfl) (by kernel_rfl) H

/-- palimpsest/entry.Word -/
def n16 (e0 bits1 : Value) (R : Value → Heap → Prop) (h : Heap) : Prop :=
  Hp Try.prog false (Instr.box 24 e0) (fun e2 h_1 => 
    Hp Try.prog false (Instr.loadAt 24 e2) (fun t7 h_2 => 
      CallsH Try.prog 18 #[t7, bits1] h_2 (fun t9 h_3 => 
        Hp Try.prog false (binS .neq 27 (.tmp 9) (.const (.int .i64 0)) t9 (.int .i64 0)) (fun t10 h_4 => 
          CondP t10 (
            R (.tuple #[(.int .u64 0), (.int .i64 2)]) h_4) (
            Hp Try.prog false (Instr.fieldAt 24 e2 0) (fun t11 h_5 => 
              Hp Try.prog false (Instr.loadAt 22 t11) (fun t12 h_6 => 
                Hp Try.prog false (convert 22 25 t12) (fun t13 h_7 => 
                  JoinN 1 (fun (k : Value → Heap → Prop) h_8 =>
                    Hp Try.prog false (Instr.fieldAt 24 e2 0) (fun t14 h_9 => 
                      Hp Try.prog false (Instr.loadAt 22 t14) (fun t15 h_10 => 
                        JoinN 1 (fun (k_1 : Value → Heap → Prop) h_11 =>
                          Hp Try.prog false (binS .eql 22 (.tmp 15) (.const (.int .i64 2)) t15 (.int .i64 2)) (fun t17 h_12 => 
                            CondP t17 (
                              Hp Try.prog false (Instr.fieldAt 24 e2 1) (fun t19 h_13 => 
                                Hp Try.prog false (Instr.loadAt 2 t19) (fun t20 h_14 => 
                                  Hp Try.prog false (convert 2 25 t20) (fun t21 h_15 => 
                                    Hp Try.prog false (binS .or 25 (.tmp 18) (.tmp 21) t13 t21) (fun t22 h_16 => 
                                      k_1 t22 h_16) h_15 ⟨⟩) h_14 ⟨⟩) h_13 ⟨⟩) h_12 ⟨⟩) (
                              Hp Try.prog false (binS .eql 22 (.tmp 15) (.const (.int .i64 3)) t15 (.int .i64 3)) (fun t24 h_17 => 
                                CondP t24 (
                                  Hp Try.prog false (Instr.fieldAt 24 e2 2) (fun t26 h_18 => 
                                    Hp Try.prog false (Instr.loadAt 3 t26) (fun t27 h_19 => 
                                      Hp Try.prog false (convert 3 25 t27) (fun t28 h_20 => 
                                        Hp Try.prog false (binS .shl 25 (.tmp 28) (.const (.int .u64 2)) t28 (.int .u64 2)) (fun t29 h_21 => 
                                          Hp Try.prog false (Instr.fieldAt 24 e2 1) (fun t30 h_22 => 
                                            Hp Try.prog false (Instr.loadAt 2 t30) (fun t31 h_23 => 
                                              Hp Try.prog false (convert 2 25 t31) (fun t32 h_24 => 
                                                Hp Try.prog false (binS .shl 25 (.tmp 32) (.const (.int .u64 16)) t32 (.int .u64 16)) (fun t33 h_25 => 
                                                  Hp Try.prog false (binS .or 25 (.tmp 29) (.tmp 33) t29 t33) (fun t34 h_26 => 
                                                    Hp Try.prog false (binS .or 25 (.tmp 25) (.tmp 34) t13 t34) (fun t35 h_27 => 
                                                      k_1 t35 h_27) h_26 ⟨⟩) h_25 ⟨⟩) h_24 ⟨⟩) h_23 ⟨⟩) h_22 ⟨⟩) h_21 ⟨⟩) h_20 ⟨⟩) h_19 ⟨⟩) h_18 ⟨⟩) h_17 ⟨⟩) (
                                  k_1 t13 h_17) ⟨⟩ ⟨⟩) h_12 ⟨⟩) ⟨⟩ ⟨⟩) h_11 ⟨⟩)
                          (fun w6 h_28 =>
                          k w6 h_28) h_10 ⟨⟩ ⟨⟩) h_9 ⟨⟩) h_8 ⟨⟩)
                    (fun w6_1 h_29 =>
                    R (.tuple #[w6_1, (.int .i64 0)]) h_29) h_7 ⟨⟩ ⟨⟩) h_6 ⟨⟩) h_5 ⟨⟩) h_4 ⟨⟩) ⟨⟩ ⟨⟩) h_3 ⟨⟩) ⟨⟩) h_1 ⟨⟩) h ⟨⟩

theorem n16_calls {e0 bits1 : Value} {R : Value → Heap → Prop} {h : Heap} (H : n16 e0 bits1 R h) : CallsH Try.prog 16 #[e0, bits1] h R ⟨⟩ :=
  callsH_of_eq Try.follow (.n none .l (.n none .l (.n none .l (.n (some [7]) (.n none .l (.n (some [7]) .l .l)) .l)))) Try.func16 (by kernel_rfl) (by kernel_rfl) (by kernel_rfl) H

/-- palimpsest/entry.Of -/
def n17 (w0 bits1 : Value) (R : Value → Heap → Prop) (h : Heap) : Prop :=
  Hp Try.prog false (Instr.alloc 24 true undef) (fun t4 h_1 => 
    Hp Try.prog false (binS .lss 3 (.tmp 9) (.const (.int .i64 9)) bits1 (.int .i64 9)) (fun t10 h_2 => 
      Join1 (fun k h_3 => guardP t10 false (k bits1 h_3) (k undef h_3) ⟨⟩ ⟨⟩) (fun t12 h_4 => 
        Join1 (fun k_1 h_5 => guardP t10 false (Hp Try.prog false (binS .gtr 3 (.tmp 12) (.const (.int .i64 16)) t12 (.int .i64 16)) k_1 h_5 ⟨⟩) (k_1 undef h_5) ⟨⟩ ⟨⟩) (fun t13 h_6 => 
          Hp Try.prog false (pickS t10 (.bool true) t13) (fun t14 h_7 => 
            CondP t14 (
              Hp Try.prog false (Instr.build 24 #[]) (fun t15 h_8 => 
                Hp Try.prog false (storeS 24 t4 t15) (fun _ h_9 => 
                  Hp Try.prog true (loadCell 24 t4) (fun r _ =>
                    R (.tuple #[r, (.int .i64 2)]) h_9) h_9 ⟨⟩) h_8 ⟨⟩) h_7 ⟨⟩) (
              Hp Try.prog false (binS .and 25 (.tmp 16) (.const (.int .u64 3)) w0 (.int .u64 3)) (fun t17 h_10 => 
                Hp Try.prog false (convert 25 22 t17) (fun t18 h_11 => 
                  Hp Try.prog false (Instr.build 24 #[(0, t18)]) (fun t19 h_12 => 
                    Hp Try.prog false (Instr.alloc 24 true undef) (fun e6 h_13 => 
                      Hp Try.prog false (storeS 24 e6 t19) (fun _ h_14 => 
                        JoinN 0 (fun (k_2 : Heap → Prop) h_15 =>
                          Hp Try.prog false (Instr.fieldAt 24 e6 0) (fun t20 h_16 => 
                            Hp Try.prog false (Instr.loadAt 22 t20) (fun t21 h_17 => 
                              JoinN 0 (fun (k_3 : Heap → Prop) h_18 =>
                                Hp Try.prog false (binS .eql 22 (.tmp 21) (.const (.int .i64 2)) t21 (.int .i64 2)) (fun t23 h_19 => 
                                  CondP t23 (
                                    Hp Try.prog false (binS .andNot 25 (.tmp 24) (.const (.int .u64 3)) w0 (.int .u64 3)) (fun t25 h_20 => 
                                      Hp Try.prog false (convert 25 2 t25) (fun t26 h_21 => 
                                        Hp Try.prog false (Instr.fieldAt 24 e6 1) (fun t27 h_22 => 
                                          Hp Try.prog false (storeS 2 t27 t26) (fun _ h_23 => 
                                            k_3 h_23) h_22 ⟨⟩) h_21 ⟨⟩) h_20 ⟨⟩) h_19 ⟨⟩) (
                                    Hp Try.prog false (binS .eql 22 (.tmp 21) (.const (.int .i64 3)) t21 (.int .i64 3)) (fun t29 h_24 => 
                                      CondP t29 (
                                        Hp Try.prog false (binS .shr 25 (.tmp 30) (.const (.int .u64 16)) w0 (.int .u64 16)) (fun t31 h_25 => 
                                          Hp Try.prog false (convert 25 2 t31) (fun t32 h_26 => 
                                            Hp Try.prog false (binS .shr 25 (.tmp 33) (.const (.int .u64 2)) w0 (.int .u64 2)) (fun t34 h_27 => 
                                              Hp Try.prog false (binS .and 25 (.tmp 34) (.const (.int .u64 16383)) t34 (.int .u64 16383)) (fun t35 h_28 => 
                                                Hp Try.prog false (convert 25 3 t35) (fun t36 h_29 => 
                                                  Hp Try.prog false (Instr.fieldAt 24 e6 1) (fun t37 h_30 => 
                                                    Hp Try.prog false (storeS 2 t37 t32) (fun _ h_31 => 
                                                      Hp Try.prog false (Instr.fieldAt 24 e6 2) (fun t38 h_32 => 
                                                        Hp Try.prog false (storeS 3 t38 t36) (fun _ h_33 => 
                                                          k_3 h_33) h_32 ⟨⟩) h_31 ⟨⟩) h_30 ⟨⟩) h_29 ⟨⟩) h_28 ⟨⟩) h_27 ⟨⟩) h_26 ⟨⟩) h_25 ⟨⟩) h_24 ⟨⟩) (
                                        k_3 h_24) ⟨⟩ ⟨⟩) h_19 ⟨⟩) ⟨⟩ ⟨⟩) h_18 ⟨⟩)
                                (fun h_34 =>
                                k_2 h_34) h_17 ⟨⟩ ⟨⟩) h_16 ⟨⟩) h_15 ⟨⟩)
                          (fun h_35 =>
                          Hp Try.prog false (Instr.loadAt 24 e6) (fun t40 h_36 => 
                            CallsH Try.prog 16 #[t40, bits1] h_36 (fun t42 h_37 => 
                              Hp Try.prog false (Instr.extract t42 0) (fun t43 h_38 => 
                                Hp Try.prog false (Instr.extract t42 1) (fun t44 h_39 => 
                                  Hp Try.prog false (binS .neq 27 (.tmp 45) (.const (.int .i64 0)) t44 (.int .i64 0)) (fun t46 h_40 => 
                                    Join1 (fun k_4 h_41 => guardP t46 false (k_4 t43 h_41) (k_4 undef h_41) ⟨⟩ ⟨⟩) (fun t48 h_42 => 
                                      Join1 (fun k_5 h_43 => guardP t46 false (k_5 w0 h_43) (k_5 undef h_43) ⟨⟩ ⟨⟩) (fun t49 h_44 => 
                                        Join1 (fun k_6 h_45 => guardP t46 false (Hp Try.prog false (binS .neq 25 (.tmp 48) (.tmp 49) t48 t49) k_6 h_45 ⟨⟩) (k_6 undef h_45) ⟨⟩ ⟨⟩) (fun t50 h_46 => 
                                          Hp Try.prog false (pickS t46 (.bool true) t50) (fun t51 h_47 => 
                                            CondP t51 (
                                              Hp Try.prog false (Instr.build 24 #[]) (fun t52 h_48 => 
                                                Hp Try.prog false (storeS 24 t4 t52) (fun _ h_49 => 
                                                  Hp Try.prog true (loadCell 24 t4) (fun r_1 _ =>
                                                    R (.tuple #[r_1, (.int .i64 190)]) h_49) h_49 ⟨⟩) h_48 ⟨⟩) h_47 ⟨⟩) (
                                              Hp Try.prog false (Instr.loadAt 24 e6) (fun t53 h_50 => 
                                                Hp Try.prog false (storeS 24 t4 t53) (fun _ h_51 => 
                                                  Hp Try.prog true (loadCell 24 t4) (fun r_2 _ =>
                                                    R (.tuple #[r_2, (.int .i64 0)]) h_51) h_51 ⟨⟩) h_50 ⟨⟩) h_47 ⟨⟩) ⟨⟩ ⟨⟩) h_46 ⟨⟩) h_44 ⟨⟩ ⟨⟩) h_42 ⟨⟩ ⟨⟩) h_40 ⟨⟩ ⟨⟩) h_39 ⟨⟩) h_38 ⟨⟩) h_37 ⟨⟩) ⟨⟩) h_35 ⟨⟩) h_14 ⟨⟩ ⟨⟩) h_13 ⟨⟩) h_12 ⟨⟩) h_11 ⟨⟩) h_10 ⟨⟩) h_7 ⟨⟩) ⟨⟩ ⟨⟩) h_6 ⟨⟩) h_4 ⟨⟩ ⟨⟩) h_2 ⟨⟩ ⟨⟩) h_1 ⟨⟩) h ⟨⟩

theorem n17_calls {w0 bits1 : Value} {R : Value → Heap → Prop} {h : Heap} (H : n17 w0 bits1 R h) : CallsH Try.prog 17 #[w0, bits1] h R ⟨⟩ :=
  callsH_of_eq Try.follow (.n none .l (.n none .l (.n none .l (.n (some []) (.n none .l (.n (some []) .l .l)) .l)))) Try.func17 (by kernel_rfl) (by kernel_rfl) (by kernel_rfl) H

/-- palimpsest/entry.Check -/
def n18 (e0 bits1 : Value) (R : Value → Heap → Prop) (h : Heap) : Prop :=
  Hp Try.prog false (Instr.box 24 e0) (fun e2 h_1 => 
    Hp Try.prog false (binS .lss 3 (.tmp 7) (.const (.int .i64 9)) bits1 (.int .i64 9)) (fun t8 h_2 => 
      Join1 (fun k h_3 => guardP t8 false (k bits1 h_3) (k undef h_3) ⟨⟩ ⟨⟩) (fun t10 h_4 => 
        Join1 (fun k_1 h_5 => guardP t8 false (Hp Try.prog false (binS .gtr 3 (.tmp 10) (.const (.int .i64 16)) t10 (.int .i64 16)) k_1 h_5 ⟨⟩) (k_1 undef h_5) ⟨⟩ ⟨⟩) (fun t11 h_6 => 
          Hp Try.prog false (pickS t8 (.bool true) t11) (fun t12 h_7 => 
            CondP t12 (
              R (.int .i64 2) h_7) (
              Hp Try.prog false (binS .shl 2 (.const (.int .i64 1)) (.tmp 13) (.int .i64 1) bits1) (fun t14 h_8 => 
                JoinN 1 (fun (k_2 : Value → Heap → Prop) h_9 =>
                  Hp Try.prog false (Instr.fieldAt 24 e2 0) (fun t15 h_10 => 
                    Hp Try.prog false (Instr.loadAt 22 t15) (fun t16 h_11 => 
                      JoinN 1 (fun (k_3 : Value → Heap → Prop) h_12 =>
                        JoinN 0 (fun (k_4 : Heap → Prop) h_13 =>
                          JoinN 0 (fun (k_5 : Heap → Prop) h_14 =>
                            Hp Try.prog false (binS .eql 22 (.tmp 16) (.const (.int .i64 0)) t16 (.int .i64 0)) (fun t18 h_15 => 
                              CondP t18 (
                                k_5 h_15) (
                                Hp Try.prog false (binS .eql 22 (.tmp 16) (.const (.int .i64 1)) t16 (.int .i64 1)) (fun t20 h_16 => 
                                  CondP t20 (
                                    k_5 h_16) (
                                    Hp Try.prog false (binS .eql 22 (.tmp 16) (.const (.int .i64 2)) t16 (.int .i64 2)) (fun t22 h_17 => 
                                      CondP t22 (
                                        Hp Try.prog false (Instr.fieldAt 24 e2 2) (fun t30 h_18 => 
                                          Hp Try.prog false (Instr.loadAt 3 t30) (fun t31 h_19 => 
                                            Hp Try.prog false (binS .eql 3 (.tmp 31) (.const (.int .i64 0)) t31 (.int .i64 0)) (fun t32 h_20 => 
                                              Join1 (fun k_6 h_21 => guardP t32 true (Hp Try.prog false (Instr.fieldAt 24 e2 1) k_6 h_21 ⟨⟩) (k_6 undef h_21) ⟨⟩ ⟨⟩) (fun t34 h_22 => 
                                                Join1 (fun k_7 h_23 => guardP t32 true (Hp Try.prog false (Instr.loadAt 2 t34) k_7 h_23 ⟨⟩) (k_7 undef h_23) ⟨⟩ ⟨⟩) (fun t35 h_24 => 
                                                  Join1 (fun k_8 h_25 => guardP t32 true (Hp Try.prog false (binS .gtr 2 (.tmp 35) (.const (.int .i64 0)) t35 (.int .i64 0)) k_8 h_25 ⟨⟩) (k_8 undef h_25) ⟨⟩ ⟨⟩) (fun t36 h_26 => 
                                                    Hp Try.prog false (pickS t32 t36 (.bool false)) (fun t37 h_27 => 
                                                      Join1 (fun k_9 h_28 => guardP t37 true (Hp Try.prog false (Instr.fieldAt 24 e2 1) k_9 h_28 ⟨⟩) (k_9 undef h_28) ⟨⟩ ⟨⟩) (fun t39 h_29 => 
                                                        Join1 (fun k_10 h_30 => guardP t37 true (Hp Try.prog false (Instr.loadAt 2 t39) k_10 h_30 ⟨⟩) (k_10 undef h_30) ⟨⟩ ⟨⟩) (fun t40 h_31 => 
                                                          Join1 (fun k_11 h_32 => guardP t37 true (Hp Try.prog false (binS .leq 2 (.tmp 40) (.const (.int .i64 268435456)) t40 (.int .i64 268435456)) k_11 h_32 ⟨⟩) (k_11 undef h_32) ⟨⟩ ⟨⟩) (fun t41 h_33 => 
                                                            Hp Try.prog false (pickS t37 t41 (.bool false)) (fun t42 h_34 => 
                                                              Join1 (fun k_12 h_35 => guardP t42 true (Hp Try.prog false (Instr.fieldAt 24 e2 1) k_12 h_35 ⟨⟩) (k_12 undef h_35) ⟨⟩ ⟨⟩) (fun t44 h_36 => 
                                                                Join1 (fun k_13 h_37 => guardP t42 true (Hp Try.prog false (Instr.loadAt 2 t44) k_13 h_37 ⟨⟩) (k_13 undef h_37) ⟨⟩ ⟨⟩) (fun t45 h_38 => 
                                                                  Join1 (fun k_14 h_39 => guardP t42 true (k_14 t14 h_39) (k_14 undef h_39) ⟨⟩ ⟨⟩) (fun t46 h_40 => 
                                                                    Join1 (fun k_15 h_41 => guardP t42 true (Hp Try.prog false (binS .rem 2 (.tmp 45) (.tmp 46) t45 t46) k_15 h_41 ⟨⟩) (k_15 undef h_41) ⟨⟩ ⟨⟩) (fun t47 h_42 => 
                                                                      Join1 (fun k_16 h_43 => guardP t42 true (Hp Try.prog false (binS .eql 2 (.tmp 47) (.const (.int .i64 0)) t47 (.int .i64 0)) k_16 h_43 ⟨⟩) (k_16 undef h_43) ⟨⟩ ⟨⟩) (fun t48 h_44 => 
                                                                        Hp Try.prog false (pickS t42 t48 (.bool false)) (fun t49 h_45 => 
                                                                          k_3 t49 h_45) h_44 ⟨⟩) h_42 ⟨⟩ ⟨⟩) h_40 ⟨⟩ ⟨⟩) h_38 ⟨⟩ ⟨⟩) h_36 ⟨⟩ ⟨⟩) h_34 ⟨⟩ ⟨⟩) h_33 ⟨⟩) h_31 ⟨⟩ ⟨⟩) h_29 ⟨⟩ ⟨⟩) h_27 ⟨⟩ ⟨⟩) h_26 ⟨⟩) h_24 ⟨⟩ ⟨⟩) h_22 ⟨⟩ ⟨⟩) h_20 ⟨⟩ ⟨⟩) h_19 ⟨⟩) h_18 ⟨⟩) h_17 ⟨⟩) (
                                        Hp Try.prog false (binS .eql 22 (.tmp 16) (.const (.int .i64 3)) t16 (.int .i64 3)) (fun t24 h_46 => 
                                          CondP t24 (
                                            Hp Try.prog true (Instr.fieldAt 24 e2 2) (fun t50 _ => 
                                              Hp Try.prog true (Instr.loadAt 3 t50) (fun t51 _ => 
                                                Hp Try.prog true (binS .geq 3 (.tmp 51) (.const (.int .i64 1)) t51 (.int .i64 1)) (fun t52 _ => 
                                                  Join1 (fun k_17 h_47 => guardP t52 true (Hp Try.prog true (Instr.fieldAt 24 e2 2) k_17 h_47 ⟨⟩) (k_17 undef h_47) ⟨⟩ ⟨⟩) (fun t54 _ => 
                                                    Join1 (fun k_18 h_48 => guardP t52 true (Hp Try.prog true (Instr.loadAt 3 t54) k_18 h_48 ⟨⟩) (k_18 undef h_48) ⟨⟩ ⟨⟩) (fun t55 _ => 
                                                      Join1 (fun k_19 h_49 => guardP t52 true (k_19 t14 h_49) (k_19 undef h_49) ⟨⟩ ⟨⟩) (fun t56 _ => 
                                                        Join1 (fun k_20 h_50 => guardP t52 true (Hp Try.prog true (binS .lss 2 (.tmp 55) (.tmp 56) t55 t56) k_20 h_50 ⟨⟩) (k_20 undef h_50) ⟨⟩ ⟨⟩) (fun t57 _ => 
                                                          Hp Try.prog true (pickS t52 t57 (.bool false)) (fun t58 _ => 
                                                            Join1 (fun k_21 h_51 => guardP t58 true (Hp Try.prog true (Instr.fieldAt 24 e2 2) k_21 h_51 ⟨⟩) (k_21 undef h_51) ⟨⟩ ⟨⟩) (fun t60 _ => 
                                                              Join1 (fun k_22 h_52 => guardP t58 true (Hp Try.prog true (Instr.loadAt 3 t60) k_22 h_52 ⟨⟩) (k_22 undef h_52) ⟨⟩ ⟨⟩) (fun t61 _ => 
                                                                Join1 (fun k_23 h_53 => guardP t58 true (Hp Try.prog true (binS .leq 3 (.tmp 61) (.const (.int .i64 16383)) t61 (.int .i64 16383)) k_23 h_53 ⟨⟩) (k_23 undef h_53) ⟨⟩ ⟨⟩) (fun t62 _ => 
                                                                  Hp Try.prog true (pickS t58 t62 (.bool false)) (fun t63 _ => 
                                                                    Join1 (fun k_24 h_54 => guardP t63 true (Hp Try.prog true (Instr.fieldAt 24 e2 1) k_24 h_54 ⟨⟩) (k_24 undef h_54) ⟨⟩ ⟨⟩) (fun t65 _ => 
                                                                      Join1 (fun k_25 h_55 => guardP t63 true (Hp Try.prog true (Instr.loadAt 2 t65) k_25 h_55 ⟨⟩) (k_25 undef h_55) ⟨⟩ ⟨⟩) (fun t66 _ => 
                                                                        Join1 (fun k_26 h_56 => guardP t63 true (k_26 t14 h_56) (k_26 undef h_56) ⟨⟩ ⟨⟩) (fun t67 _ => 
                                                                          Join1 (fun k_27 h_57 => guardP t63 true (Hp Try.prog true (binS .geq 2 (.tmp 66) (.tmp 67) t66 t67) k_27 h_57 ⟨⟩) (k_27 undef h_57) ⟨⟩ ⟨⟩) (fun t68 _ => 
                                                                            Hp Try.prog true (pickS t63 t68 (.bool false)) (fun t69 _ => 
                                                                              Join1 (fun k_28 h_58 => guardP t69 true (Hp Try.prog true (Instr.fieldAt 24 e2 1) k_28 h_58 ⟨⟩) (k_28 undef h_58) ⟨⟩ ⟨⟩) (fun t71 _ => 
                                                                                Join1 (fun k_29 h_59 => guardP t69 true (Hp Try.prog true (Instr.loadAt 2 t71) k_29 h_59 ⟨⟩) (k_29 undef h_59) ⟨⟩ ⟨⟩) (fun t72 _ => 
                                                                                  Join1 (fun k_30 h_60 => guardP t69 true (Hp Try.prog true (Instr.fieldAt 24 e2 2) k_30 h_60 ⟨⟩) (k_30 undef h_60) ⟨⟩ ⟨⟩) (fun t73 _ => 
                                                                                    Join1 (fun k_31 h_61 => guardP t69 true (Hp Try.prog true (Instr.loadAt 3 t73) k_31 h_61 ⟨⟩) (k_31 undef h_61) ⟨⟩ ⟨⟩) (fun t74 _ => 
                                                                                      Join1 (fun k_32 h_62 => guardP t69 true (Hp Try.prog true (binS .sub 2 (.const (.int .i64 268435456)) (.tmp 74) (.int .i64 268435456) t74) k_32 h_62 ⟨⟩) (k_32 undef h_62) ⟨⟩ ⟨⟩) (fun t75 _ => 
                                                                                        Join1 (fun k_33 h_63 => guardP t69 true (Hp Try.prog true (binS .leq 2 (.tmp 72) (.tmp 75) t72 t75) k_33 h_63 ⟨⟩) (k_33 undef h_63) ⟨⟩ ⟨⟩) (fun t76 _ => 
                                                                                          Hp Try.prog true (pickS t69 t76 (.bool false)) (fun t77 _ => 
                                                                                            Join1 (fun k_34 h_64 => guardP t77 true (Hp Try.prog true (Instr.fieldAt 24 e2 1) k_34 h_64 ⟨⟩) (k_34 undef h_64) ⟨⟩ ⟨⟩) (fun t79 _ => 
                                                                                              Join1 (fun k_35 h_65 => guardP t77 true (Hp Try.prog true (Instr.loadAt 2 t79) k_35 h_65 ⟨⟩) (k_35 undef h_65) ⟨⟩ ⟨⟩) (fun t80 _ => 
                                                                                                Join1 (fun k_36 h_66 => guardP t77 true (k_36 t14 h_66) (k_36 undef h_66) ⟨⟩ ⟨⟩) (fun t81 _ => 
                                                                                                  Join1 (fun k_37 h_67 => guardP t77 true (Hp Try.prog true (binS .quo 2 (.tmp 80) (.tmp 81) t80 t81) k_37 h_67 ⟨⟩) (k_37 undef h_67) ⟨⟩ ⟨⟩) (fun t82 _ => 
                                                                                                    Join1 (fun k_38 h_68 => guardP t77 true (Hp Try.prog true (Instr.fieldAt 24 e2 1) k_38 h_68 ⟨⟩) (k_38 undef h_68) ⟨⟩ ⟨⟩) (fun t83 _ => 
                                                                                                      Join1 (fun k_39 h_69 => guardP t77 true (Hp Try.prog true (Instr.loadAt 2 t83) k_39 h_69 ⟨⟩) (k_39 undef h_69) ⟨⟩ ⟨⟩) (fun t84 _ => 
                                                                                                        Join1 (fun k_40 h_70 => guardP t77 true (Hp Try.prog true (Instr.fieldAt 24 e2 2) k_40 h_70 ⟨⟩) (k_40 undef h_70) ⟨⟩ ⟨⟩) (fun t85 _ => 
                                                                                                          Join1 (fun k_41 h_71 => guardP t77 true (Hp Try.prog true (Instr.loadAt 3 t85) k_41 h_71 ⟨⟩) (k_41 undef h_71) ⟨⟩ ⟨⟩) (fun t86 _ => 
                                                                                                            Join1 (fun k_42 h_72 => guardP t77 true (Hp Try.prog true (binS .add 2 (.tmp 84) (.tmp 86) t84 t86) k_42 h_72 ⟨⟩) (k_42 undef h_72) ⟨⟩ ⟨⟩) (fun t87 _ => 
                                                                                                              Join1 (fun k_43 h_73 => guardP t77 true (Hp Try.prog true (binS .sub 2 (.tmp 87) (.const (.int .i64 1)) t87 (.int .i64 1)) k_43 h_73 ⟨⟩) (k_43 undef h_73) ⟨⟩ ⟨⟩) (fun t88 _ => 
                                                                                                                Join1 (fun k_44 h_74 => guardP t77 true (k_44 t14 h_74) (k_44 undef h_74) ⟨⟩ ⟨⟩) (fun t89 _ => 
                                                                                                                  Join1 (fun k_45 h_75 => guardP t77 true (Hp Try.prog true (binS .quo 2 (.tmp 88) (.tmp 89) t88 t89) k_45 h_75 ⟨⟩) (k_45 undef h_75) ⟨⟩ ⟨⟩) (fun t90 _ => 
                                                                                                                    Join1 (fun k_46 h_76 => guardP t77 true (Hp Try.prog true (binS .eql 2 (.tmp 82) (.tmp 90) t82 t90) k_46 h_76 ⟨⟩) (k_46 undef h_76) ⟨⟩ ⟨⟩) (fun t91 _ => 
                                                                                                                      Hp Try.prog true (pickS t77 t91 (.bool false)) (fun t92 _ => 
                                                                                                                        k_3 t92 h_46) #[] ⟨⟩) #[] ⟨⟩ ⟨⟩) #[] ⟨⟩ ⟨⟩) #[] ⟨⟩ ⟨⟩) #[] ⟨⟩ ⟨⟩) #[] ⟨⟩ ⟨⟩) h_46 ⟨⟩ ⟨⟩) #[] ⟨⟩ ⟨⟩) h_46 ⟨⟩ ⟨⟩) #[] ⟨⟩ ⟨⟩) #[] ⟨⟩ ⟨⟩) #[] ⟨⟩ ⟨⟩) h_46 ⟨⟩ ⟨⟩) #[] ⟨⟩ ⟨⟩) #[] ⟨⟩) #[] ⟨⟩ ⟨⟩) #[] ⟨⟩ ⟨⟩) h_46 ⟨⟩ ⟨⟩) #[] ⟨⟩ ⟨⟩) h_46 ⟨⟩ ⟨⟩) #[] ⟨⟩ ⟨⟩) #[] ⟨⟩) #[] ⟨⟩ ⟨⟩) #[] ⟨⟩ ⟨⟩) h_46 ⟨⟩ ⟨⟩) #[] ⟨⟩ ⟨⟩) #[] ⟨⟩) #[] ⟨⟩ ⟨⟩) h_46 ⟨⟩ ⟨⟩) #[] ⟨⟩ ⟨⟩) #[] ⟨⟩) #[] ⟨⟩ ⟨⟩) #[] ⟨⟩ ⟨⟩) h_46 ⟨⟩ ⟨⟩) #[] ⟨⟩ ⟨⟩) #[] ⟨⟩) h_46 ⟨⟩) #[] ⟨⟩) (
                                            k_3 (.bool false) h_46) ⟨⟩ ⟨⟩) h_17 ⟨⟩) ⟨⟩ ⟨⟩) h_16 ⟨⟩) ⟨⟩ ⟨⟩) h_15 ⟨⟩) ⟨⟩ ⟨⟩) h_14 ⟨⟩)
                            (fun h_77 =>
                            k_4 h_77) h_13 ⟨⟩ ⟨⟩)
                          (fun h_78 =>
                          Hp Try.prog false (Instr.loadAt 24 e2) (fun t25 h_79 => 
                            Hp Try.prog false (Instr.fieldAt 24 e2 0) (fun t26 h_80 => 
                              Hp Try.prog false (Instr.loadAt 22 t26) (fun t27 h_81 => 
                                Hp Try.prog false (Instr.build 24 #[(0, t27)]) (fun t28 h_82 => 
                                  Hp Try.prog false (binS .eql 24 (.tmp 25) (.tmp 28) t25 t28) (fun t29 h_83 => 
                                    k_3 t29 h_83) h_82 ⟨⟩) h_81 ⟨⟩) h_80 ⟨⟩) h_79 ⟨⟩) h_78 ⟨⟩) h_12 ⟨⟩ ⟨⟩)
                        (fun ok6 h_84 =>
                        k_2 ok6 h_84) h_11 ⟨⟩ ⟨⟩) h_10 ⟨⟩) h_9 ⟨⟩)
                  (fun ok6_1 h_85 =>
                  Hp Try.prog false (Op.unary .not ok6_1) (fun t94 h_86 => 
                    CondP t94 (
                      R (.int .i64 2) h_86) (
                      R (.int .i64 0) h_86) ⟨⟩ ⟨⟩) h_85 ⟨⟩) h_8 ⟨⟩ ⟨⟩) h_7 ⟨⟩) ⟨⟩ ⟨⟩) h_6 ⟨⟩) h_4 ⟨⟩ ⟨⟩) h_2 ⟨⟩ ⟨⟩) h_1 ⟨⟩) h ⟨⟩

theorem n18_calls {e0 bits1 : Value} {R : Value → Heap → Prop} {h : Heap} (H : n18 e0 bits1 R h) : CallsH Try.prog 18 #[e0, bits1] h R ⟨⟩ :=
  callsH_of_eq Try.follow (.n none .l (.n none .l (.n none .l (.n none .l (.n (some [7]) (.n none .l (.n (some [7]) (.n none (.n none (.n none (.n none (.n (some []) (.n (some []) .l .l) .l) .l) .l) .l) .l) .l)) .l))))) Try.func18 (by kernel_rfl) (by kernel_rfl) (by kernel_rfl) H

/-- palimpsest/palimpsestref09.Word -/
def n19 (e0 : Value) (R : Value → Heap → Prop) (h : Heap) : Prop :=
  Hp Try.prog false (Instr.box 24 e0) (fun e1 h_1 => 
    Hp Try.prog false (Instr.fieldAt 24 e1 0) (fun t3 h_2 => 
      Hp Try.prog false (Instr.loadAt 22 t3) (fun t4 h_3 => 
        Hp Try.prog false (binS .eql 3 (.tmp 4) (.const (.int .i64 2)) t4 (.int .i64 2)) (fun t5 h_4 => 
          CondP t5 (
            Hp Try.prog false (Instr.fieldAt 24 e1 1) (fun t6 h_5 => 
              Hp Try.prog false (Instr.loadAt 2 t6) (fun t7 h_6 => 
                Hp Try.prog false (convert 2 25 t7) (fun t8 h_7 => 
                  Hp Try.prog false (binS .add 25 (.tmp 8) (.const (.int .u64 2)) t8 (.int .u64 2)) (fun t9 h_8 => 
                    R t9 h_8) h_7 ⟨⟩) h_6 ⟨⟩) h_5 ⟨⟩) h_4 ⟨⟩) (
            Hp Try.prog false (Instr.fieldAt 24 e1 1) (fun t10 h_9 => 
              Hp Try.prog false (Instr.loadAt 2 t10) (fun t11 h_10 => 
                Hp Try.prog false (convert 2 25 t11) (fun t12 h_11 => 
                  Hp Try.prog false (binS .mul 25 (.tmp 12) (.const (.int .u64 65536)) t12 (.int .u64 65536)) (fun t13 h_12 => 
                    Hp Try.prog false (Instr.fieldAt 24 e1 2) (fun t14 h_13 => 
                      Hp Try.prog false (Instr.loadAt 3 t14) (fun t15 h_14 => 
                        Hp Try.prog false (convert 3 25 t15) (fun t16 h_15 => 
                          Hp Try.prog false (binS .mul 25 (.const (.int .u64 4)) (.tmp 16) (.int .u64 4) t16) (fun t17 h_16 => 
                            Hp Try.prog false (binS .add 25 (.tmp 13) (.tmp 17) t13 t17) (fun t18 h_17 => 
                              Hp Try.prog false (Instr.fieldAt 24 e1 0) (fun t19 h_18 => 
                                Hp Try.prog false (Instr.loadAt 22 t19) (fun t20 h_19 => 
                                  Hp Try.prog false (convert 22 25 t20) (fun t21 h_20 => 
                                    Hp Try.prog false (binS .add 25 (.tmp 18) (.tmp 21) t18 t21) (fun t22 h_21 => 
                                      R t22 h_21) h_20 ⟨⟩) h_19 ⟨⟩) h_18 ⟨⟩) h_17 ⟨⟩) h_16 ⟨⟩) h_15 ⟨⟩) h_14 ⟨⟩) h_13 ⟨⟩) h_12 ⟨⟩) h_11 ⟨⟩) h_10 ⟨⟩) h_9 ⟨⟩) h_4 ⟨⟩) ⟨⟩ ⟨⟩) h_3 ⟨⟩) h_2 ⟨⟩) h_1 ⟨⟩) h ⟨⟩

theorem n19_calls {e0 : Value} {R : Value → Heap → Prop} {h : Heap} (H : n19 e0 R h) : CallsH Try.prog 19 #[e0] h R ⟨⟩ :=
  callsH_of_eq Try.follow .l Try.func19 (by kernel_rfl) (by kernel_rfl) (by kernel_rfl) H

/-- palimpsest/palimpsestref09.Bits -/
def n20 (bits0 : Value) (R : Value → Heap → Prop) (h : Heap) : Prop :=
  Hp Try.prog false (binS .geq 3 (.tmp 3) (.const (.int .i64 9)) bits0 (.int .i64 9)) (fun t4 h_1 => 
    Join1 (fun k h_2 => guardP t4 true (k bits0 h_2) (k undef h_2) ⟨⟩ ⟨⟩) (fun t6 h_3 => 
      Join1 (fun k_1 h_4 => guardP t4 true (Hp Try.prog false (binS .leq 3 (.tmp 6) (.const (.int .i64 16)) t6 (.int .i64 16)) k_1 h_4 ⟨⟩) (k_1 undef h_4) ⟨⟩ ⟨⟩) (fun t7 h_5 => 
        Hp Try.prog false (pickS t4 t7 (.bool false)) (fun t8 h_6 => 
          R t8 h_6) h_5 ⟨⟩) h_3 ⟨⟩ ⟨⟩) h_1 ⟨⟩ ⟨⟩) h ⟨⟩

theorem n20_calls {bits0 : Value} {R : Value → Heap → Prop} {h : Heap} (H : n20 bits0 R h) : CallsH Try.prog 20 #[bits0] h R ⟨⟩ :=
  callsH_of_eq Try.follow .l Try.func20 (by kernel_rfl) (by kernel_rfl) (by kernel_rfl) H

/-- palimpsest/palimpsestlaw09.known -/
def n21 (R : Value → Heap → Prop) (h : Heap) : Prop :=
  Hp Try.prog false (Instr.build 24 #[(0, (.int .i64 2)), (1, (.int .i64 1024))]) (fun t10 h_1 => 
    CallsH Try.prog 16 #[t10, (.int .i64 9)] h_1 (fun t11 h_2 => 
      Hp Try.prog false (Instr.extract t11 0) (fun t12 h_3 => 
        Hp Try.prog false (Instr.extract t11 1) (fun t13 h_4 => 
          Hp Try.prog false (Instr.build 24 #[(0, (.int .i64 3)), (1, (.int .i64 1030)), (2, (.int .i64 5))]) (fun t15 h_5 => 
            CallsH Try.prog 16 #[t15, (.int .i64 9)] h_5 (fun t16 h_6 => 
              Hp Try.prog false (Instr.extract t16 0) (fun t17 h_7 => 
                Hp Try.prog false (Instr.extract t16 1) (fun t18 h_8 => 
                  CallsH Try.prog 17 #[(.int .u64 1026), (.int .i64 9)] h_8 (fun t20 h_9 => 
                    Hp Try.prog false (Instr.extract t20 0) (fun t21 h_10 => 
                      Hp Try.prog false (Instr.extract t20 1) (fun t22 h_11 => 
                        Hp Try.prog false (Instr.alloc 24 true undef) (fun x5 h_12 => 
                          Hp Try.prog false (storeS 24 x5 t21) (fun _ h_13 => 
                            CallsH Try.prog 17 #[(.int .u64 1027), (.int .i64 9)] h_13 (fun t24 h_14 => 
                              Hp Try.prog false (Instr.extract t24 0) (fun t25 h_15 => 
                                Hp Try.prog false (Instr.extract t24 1) (fun t26 h_16 => 
                                  Hp Try.prog false (Instr.alloc 24 true undef) (fun t7 h_17 => 
                                    Hp Try.prog false (storeS 24 t7 t25) (fun _ h_18 => 
                                      Hp Try.prog false (binS .eql 25 (.tmp 27) (.const (.int .u64 1026)) t12 (.int .u64 1026)) (fun t28 h_19 => 
                                        Join1 (fun k h_20 => guardP t28 true (k t13 h_20) (k undef h_20) ⟨⟩ ⟨⟩) (fun t30 h_21 => 
                                          Join1 (fun k_1 h_22 => guardP t28 true (Hp Try.prog false (binS .eql 27 (.tmp 30) (.const (.int .i64 0)) t30 (.int .i64 0)) k_1 h_22 ⟨⟩) (k_1 undef h_22) ⟨⟩ ⟨⟩) (fun t31 h_23 => 
                                            Hp Try.prog false (pickS t28 t31 (.bool false)) (fun t32 h_24 => 
                                              Join1 (fun k_2 h_25 => guardP t32 true (k_2 t17 h_25) (k_2 undef h_25) ⟨⟩ ⟨⟩) (fun t34 h_26 => 
                                                Join1 (fun k_3 h_27 => guardP t32 true (Hp Try.prog false (binS .eql 25 (.tmp 34) (.const (.int .u64 67502103)) t34 (.int .u64 67502103)) k_3 h_27 ⟨⟩) (k_3 undef h_27) ⟨⟩ ⟨⟩) (fun t35 h_28 => 
                                                  Hp Try.prog false (pickS t32 t35 (.bool false)) (fun t36 h_29 => 
                                                    Join1 (fun k_4 h_30 => guardP t36 true (k_4 t18 h_30) (k_4 undef h_30) ⟨⟩ ⟨⟩) (fun t38 h_31 => 
                                                      Join1 (fun k_5 h_32 => guardP t36 true (Hp Try.prog false (binS .eql 27 (.tmp 38) (.const (.int .i64 0)) t38 (.int .i64 0)) k_5 h_32 ⟨⟩) (k_5 undef h_32) ⟨⟩ ⟨⟩) (fun t39 h_33 => 
                                                        Hp Try.prog false (pickS t36 t39 (.bool false)) (fun t40 h_34 => 
                                                          Join1 (fun k_6 h_35 => guardP t40 true (Hp Try.prog false (Instr.loadAt 24 x5) k_6 h_35 ⟨⟩) (k_6 undef h_35) ⟨⟩ ⟨⟩) (fun t42 h_36 => 
                                                            Join1 (fun k_7 h_37 => guardP t40 true (Hp Try.prog false (Instr.build 24 #[(0, (.int .i64 2)), (1, (.int .i64 1024))]) k_7 h_37 ⟨⟩) (k_7 undef h_37) ⟨⟩ ⟨⟩) (fun t43 h_38 => 
                                                              Join1 (fun k_8 h_39 => guardP t40 true (Hp Try.prog false (binS .eql 24 (.tmp 42) (.tmp 43) t42 t43) k_8 h_39 ⟨⟩) (k_8 undef h_39) ⟨⟩ ⟨⟩) (fun t44 h_40 => 
                                                                Hp Try.prog false (pickS t40 t44 (.bool false)) (fun t45 h_41 => 
                                                                  Join1 (fun k_9 h_42 => guardP t45 true (k_9 t22 h_42) (k_9 undef h_42) ⟨⟩ ⟨⟩) (fun t47 h_43 => 
                                                                    Join1 (fun k_10 h_44 => guardP t45 true (Hp Try.prog false (binS .eql 27 (.tmp 47) (.const (.int .i64 0)) t47 (.int .i64 0)) k_10 h_44 ⟨⟩) (k_10 undef h_44) ⟨⟩ ⟨⟩) (fun t48 h_45 => 
                                                                      Hp Try.prog false (pickS t45 t48 (.bool false)) (fun t49 h_46 => 
                                                                        Join1 (fun k_11 h_47 => guardP t49 true (k_11 t26 h_47) (k_11 undef h_47) ⟨⟩ ⟨⟩) (fun t51 h_48 => 
                                                                          Join1 (fun k_12 h_49 => guardP t49 true (Hp Try.prog false (binS .eql 27 (.tmp 51) (.const (.int .i64 190)) t51 (.int .i64 190)) k_12 h_49 ⟨⟩) (k_12 undef h_49) ⟨⟩ ⟨⟩) (fun t52 h_50 => 
                                                                            Hp Try.prog false (pickS t49 t52 (.bool false)) (fun t53 h_51 => 
                                                                              R t53 h_51) h_50 ⟨⟩) h_48 ⟨⟩ ⟨⟩) h_46 ⟨⟩ ⟨⟩) h_45 ⟨⟩) h_43 ⟨⟩ ⟨⟩) h_41 ⟨⟩ ⟨⟩) h_40 ⟨⟩) h_38 ⟨⟩ ⟨⟩) h_36 ⟨⟩ ⟨⟩) h_34 ⟨⟩ ⟨⟩) h_33 ⟨⟩) h_31 ⟨⟩ ⟨⟩) h_29 ⟨⟩ ⟨⟩) h_28 ⟨⟩) h_26 ⟨⟩ ⟨⟩) h_24 ⟨⟩ ⟨⟩) h_23 ⟨⟩) h_21 ⟨⟩ ⟨⟩) h_19 ⟨⟩ ⟨⟩) h_18 ⟨⟩) h_17 ⟨⟩) h_16 ⟨⟩) h_15 ⟨⟩) h_14 ⟨⟩) ⟨⟩) h_12 ⟨⟩) h_11 ⟨⟩) h_10 ⟨⟩) h_9 ⟨⟩) ⟨⟩) h_7 ⟨⟩) h_6 ⟨⟩) ⟨⟩) h_4 ⟨⟩) h_3 ⟨⟩) h_2 ⟨⟩) ⟨⟩) h ⟨⟩

theorem n21_calls {R : Value → Heap → Prop} {h : Heap} (H : n21  R h) : CallsH Try.prog 21 #[] h R ⟨⟩ :=
  callsH_of_eq Try.follow .l Try.func21 (by kernel_rfl) (by kernel_rfl) (by kernel_rfl) H

/-- palimpsest/palimpsestref09.Of -/
def n22 (w0 bits1 : Value) (R : Value → Heap → Prop) (h : Heap) : Prop :=
  Hp Try.prog false (Instr.alloc 24 true undef) (fun t4 h_1 => 
    Hp Try.prog false (binS .rem 25 (.tmp 8) (.const (.int .u64 4)) w0 (.int .u64 4)) (fun t9 h_2 => 
      Hp Try.prog false (convert 25 22 t9) (fun t10 h_3 => 
        Hp Try.prog false (Instr.build 24 #[(0, t10)]) (fun t11 h_4 => 
          Hp Try.prog false (Instr.alloc 24 true undef) (fun e6 h_5 => 
            Hp Try.prog false (storeS 24 e6 t11) (fun _ h_6 => 
              JoinN 0 (fun (k : Heap → Prop) h_7 =>
                Hp Try.prog false (binS .rem 25 (.tmp 12) (.const (.int .u64 4)) w0 (.int .u64 4)) (fun t13 h_8 => 
                  Hp Try.prog false (binS .eql 25 (.tmp 13) (.const (.int .u64 2)) t13 (.int .u64 2)) (fun t14 h_9 => 
                    CondP t14 (
                      Hp Try.prog false (binS .sub 25 (.tmp 15) (.const (.int .u64 2)) w0 (.int .u64 2)) (fun t16 h_10 => 
                        Hp Try.prog false (binS .rem 25 (.tmp 16) (.const (.int .u64 9223372036854775808)) t16 (.int .u64 9223372036854775808)) (fun t17 h_11 => 
                          Hp Try.prog false (convert 25 2 t17) (fun t18 h_12 => 
                            Hp Try.prog false (Instr.fieldAt 24 e6 1) (fun t19 h_13 => 
                              Hp Try.prog false (storeS 2 t19 t18) (fun _ h_14 => 
                                k h_14) h_13 ⟨⟩) h_12 ⟨⟩) h_11 ⟨⟩) h_10 ⟨⟩) h_9 ⟨⟩) (
                      k h_9) ⟨⟩ ⟨⟩) h_8 ⟨⟩) h_7 ⟨⟩)
                (fun h_15 =>
                JoinN 0 (fun (k_1 : Heap → Prop) h_16 =>
                  Hp Try.prog false (binS .rem 25 (.tmp 20) (.const (.int .u64 4)) w0 (.int .u64 4)) (fun t21 h_17 => 
                    Hp Try.prog false (binS .eql 25 (.tmp 21) (.const (.int .u64 3)) t21 (.int .u64 3)) (fun t22 h_18 => 
                      CondP t22 (
                        Hp Try.prog false (binS .quo 25 (.tmp 23) (.const (.int .u64 65536)) w0 (.int .u64 65536)) (fun t24 h_19 => 
                          Hp Try.prog false (convert 25 2 t24) (fun t25 h_20 => 
                            Hp Try.prog false (Instr.fieldAt 24 e6 1) (fun t26 h_21 => 
                              Hp Try.prog false (storeS 2 t26 t25) (fun _ h_22 => 
                                Hp Try.prog false (binS .rem 25 (.tmp 27) (.const (.int .u64 65536)) w0 (.int .u64 65536)) (fun t28 h_23 => 
                                  Hp Try.prog false (binS .quo 25 (.tmp 28) (.const (.int .u64 4)) t28 (.int .u64 4)) (fun t29 h_24 => 
                                    Hp Try.prog false (convert 25 3 t29) (fun t30 h_25 => 
                                      Hp Try.prog false (Instr.fieldAt 24 e6 2) (fun t31 h_26 => 
                                        Hp Try.prog false (storeS 3 t31 t30) (fun _ h_27 => 
                                          k_1 h_27) h_26 ⟨⟩) h_25 ⟨⟩) h_24 ⟨⟩) h_23 ⟨⟩) h_22 ⟨⟩) h_21 ⟨⟩) h_20 ⟨⟩) h_19 ⟨⟩) h_18 ⟨⟩) (
                        k_1 h_18) ⟨⟩ ⟨⟩) h_17 ⟨⟩) h_16 ⟨⟩)
                  (fun h_28 =>
                  Hp Try.prog false (Instr.loadAt 24 e6) (fun t32 h_29 => 
                    CallsH Try.prog 15 #[t32, bits1] h_29 (fun t34 h_30 => 
                      Hp Try.prog false (Op.unary .not t34) (fun t36 h_31 => 
                        Join1 (fun k_2 h_32 => guardP t36 false (Hp Try.prog false (Instr.loadAt 24 e6) k_2 h_32 ⟨⟩) (k_2 undef h_32) ⟨⟩ ⟨⟩) (fun t38 h_33 => 
                          Join1 (fun k_3 h_34 => guardP t36 false (CallsH Try.prog 19 #[t38] h_34 k_3 ⟨⟩) (k_3 undef h_34) ⟨⟩ ⟨⟩) (fun t39 h_35 => 
                            Join1 (fun k_4 h_36 => guardP t36 false (k_4 w0 h_36) (k_4 undef h_36) ⟨⟩ ⟨⟩) (fun t40 h_37 => 
                              Join1 (fun k_5 h_38 => guardP t36 false (Hp Try.prog false (binS .neq 25 (.tmp 39) (.tmp 40) t39 t40) k_5 h_38 ⟨⟩) (k_5 undef h_38) ⟨⟩ ⟨⟩) (fun t41 h_39 => 
                                Hp Try.prog false (pickS t36 (.bool true) t41) (fun t42 h_40 => 
                                  CondP t42 (
                                    Hp Try.prog false (Instr.build 24 #[]) (fun t43 h_41 => 
                                      Hp Try.prog false (storeS 24 t4 t43) (fun _ h_42 => 
                                        Hp Try.prog true (loadCell 24 t4) (fun r _ =>
                                          R (.tuple #[r, (.bool false)]) h_42) h_42 ⟨⟩) h_41 ⟨⟩) h_40 ⟨⟩) (
                                    Hp Try.prog false (Instr.loadAt 24 e6) (fun t44 h_43 => 
                                      Hp Try.prog false (storeS 24 t4 t44) (fun _ h_44 => 
                                        Hp Try.prog true (loadCell 24 t4) (fun r_1 _ =>
                                          R (.tuple #[r_1, (.bool true)]) h_44) h_44 ⟨⟩) h_43 ⟨⟩) h_40 ⟨⟩) ⟨⟩ ⟨⟩) h_39 ⟨⟩) h_37 ⟨⟩ ⟨⟩) h_35 ⟨⟩ ⟨⟩) h_33 ⟨⟩ ⟨⟩) h_31 ⟨⟩ ⟨⟩) h_30 ⟨⟩) ⟨⟩) h_28 ⟨⟩) h_15 ⟨⟩ ⟨⟩) h_6 ⟨⟩ ⟨⟩) h_5 ⟨⟩) h_4 ⟨⟩) h_3 ⟨⟩) h_2 ⟨⟩) h_1 ⟨⟩) h ⟨⟩

theorem n22_calls {w0 bits1 : Value} {R : Value → Heap → Prop} {h : Heap} (H : n22 w0 bits1 R h) : CallsH Try.prog 22 #[w0, bits1] h R ⟨⟩ :=
  callsH_of_eq Try.follow (.n none .l (.n none .l (.n (some []) .l (.n (some []) .l .l)))) Try.func22 (by kernel_rfl) (by kernel_rfl) (by kernel_rfl) H

/-- palimpsest/entry.Get -/
def n34 (table0 i1 bits2 : Value) (R : Value → Heap → Prop) (h : Heap) : Prop :=
  Hp Try.prog false (Instr.alloc 24 true undef) (fun t6 h_1 => 
    Hp Try.prog false (binS .lss 3 (.tmp 10) (.const (.int .i64 9)) bits2 (.int .i64 9)) (fun t11 h_2 => 
      Join1 (fun k h_3 => guardP t11 false (k bits2 h_3) (k undef h_3) ⟨⟩ ⟨⟩) (fun t13 h_4 => 
        Join1 (fun k_1 h_5 => guardP t11 false (Hp Try.prog false (binS .gtr 3 (.tmp 13) (.const (.int .i64 16)) t13 (.int .i64 16)) k_1 h_5 ⟨⟩) (k_1 undef h_5) ⟨⟩ ⟨⟩) (fun t14 h_6 => 
          Hp Try.prog false (pickS t11 (.bool true) t14) (fun t15 h_7 => 
            CondP t15 (
              Hp Try.prog false (Instr.build 24 #[]) (fun t16 h_8 => 
                Hp Try.prog false (storeS 24 t6 t16) (fun _ h_9 => 
                  Hp Try.prog true (loadCell 24 t6) (fun r _ =>
                    R (.tuple #[r, (.int .i64 2)]) h_9) h_9 ⟨⟩) h_8 ⟨⟩) h_7 ⟨⟩) (
              Hp Try.prog false (binS .lss 3 (.tmp 17) (.const (.int .i64 0)) i1 (.int .i64 0)) (fun t18 h_10 => 
                Join1 (fun k_2 h_11 => guardP t18 false (k_2 i1 h_11) (k_2 undef h_11) ⟨⟩ ⟨⟩) (fun t20 h_12 => 
                  Join1 (fun k_3 h_13 => guardP t18 false (k_3 table0 h_13) (k_3 undef h_13) ⟨⟩ ⟨⟩) (fun t21 h_14 => 
                    Join1 (fun k_4 h_15 => guardP t18 false (Hp Try.prog false (Builtin.len_ #[39] 3 #[t21]) k_4 h_15 ⟨⟩) (k_4 undef h_15) ⟨⟩ ⟨⟩) (fun t22 h_16 => 
                      Join1 (fun k_5 h_17 => guardP t18 false (Hp Try.prog false (binS .quo 3 (.tmp 22) (.const (.int .i64 8)) t22 (.int .i64 8)) k_5 h_17 ⟨⟩) (k_5 undef h_17) ⟨⟩ ⟨⟩) (fun t23 h_18 => 
                        Join1 (fun k_6 h_19 => guardP t18 false (Hp Try.prog false (binS .geq 3 (.tmp 20) (.tmp 23) t20 t23) k_6 h_19 ⟨⟩) (k_6 undef h_19) ⟨⟩ ⟨⟩) (fun t24 h_20 => 
                          Hp Try.prog false (pickS t18 (.bool true) t24) (fun t25 h_21 => 
                            CondP t25 (
                              Hp Try.prog false (Instr.build 24 #[]) (fun t26 h_22 => 
                                Hp Try.prog false (storeS 24 t6 t26) (fun _ h_23 => 
                                  Hp Try.prog true (loadCell 24 t6) (fun r_1 _ =>
                                    R (.tuple #[r_1, (.int .i64 4)]) h_23) h_23 ⟨⟩) h_22 ⟨⟩) h_21 ⟨⟩) (
                              Hp Try.prog false (binS .mul 3 (.const (.int .i64 8)) (.tmp 29) (.int .i64 8) i1) (fun t30 h_24 => 
                                CallsH Try.prog 24 #[table0, t30, (.int .i64 8)] h_24 (fun t31 h_25 => 
                                  Hp Try.prog false (Instr.extract t31 0) (fun t32 h_26 => 
                                    Hp Try.prog false (Instr.extract t31 1) (fun t33 h_27 => 
                                      CallsH Try.prog 17 #[t32, bits2] h_27 (fun t36 h_28 => 
                                        Hp Try.prog false (Instr.extract t36 0) (fun t37 h_29 => 
                                          Hp Try.prog false (Instr.extract t36 1) (fun t38 h_30 => 
                                            Hp Try.prog false (storeS 24 t6 t37) (fun _ h_31 => 
                                              Hp Try.prog true (loadCell 24 t6) (fun r_2 _ =>
                                                R (.tuple #[r_2, t38]) h_31) h_31 ⟨⟩) h_30 ⟨⟩) h_29 ⟨⟩) h_28 ⟨⟩) ⟨⟩) h_26 ⟨⟩) h_25 ⟨⟩) ⟨⟩) h_21 ⟨⟩) ⟨⟩ ⟨⟩) h_20 ⟨⟩) h_18 ⟨⟩ ⟨⟩) h_16 ⟨⟩ ⟨⟩) h_14 ⟨⟩ ⟨⟩) h_12 ⟨⟩ ⟨⟩) h_10 ⟨⟩ ⟨⟩) h_7 ⟨⟩) ⟨⟩ ⟨⟩) h_6 ⟨⟩) h_4 ⟨⟩ ⟨⟩) h_2 ⟨⟩ ⟨⟩) h_1 ⟨⟩) h ⟨⟩

theorem n34_calls {table0 i1 bits2 : Value} {R : Value → Heap → Prop} {h : Heap} (H : n34 table0 i1 bits2 R h) : CallsH Try.prog 34 #[table0, i1, bits2] h R ⟨⟩ :=
  callsH_of_eq Try.follow .l Try.func34 (by kernel_rfl) (by kernel_rfl) (by kernel_rfl) H

/-- palimpsest/palimpsestref09.Get -/
def n35 (table0 i1 bits2 : Value) (R : Value → Heap → Prop) (h : Heap) : Prop :=
  Hp Try.prog false (Instr.alloc 24 true undef) (fun t6 h_1 => 
    CallsH Try.prog 20 #[bits2] h_1 (fun t11 h_2 => 
      Hp Try.prog false (Op.unary .not t11) (fun t12 h_3 => 
        CondP t12 (
          Hp Try.prog false (Instr.build 24 #[]) (fun t13 h_4 => 
            Hp Try.prog false (storeS 24 t6 t13) (fun _ h_5 => 
              Hp Try.prog true (loadCell 24 t6) (fun r _ =>
                R (.tuple #[r, (.int .i64 2)]) h_5) h_5 ⟨⟩) h_4 ⟨⟩) h_3 ⟨⟩) (
          Hp Try.prog false (binS .lss 3 (.tmp 14) (.const (.int .i64 0)) i1 (.int .i64 0)) (fun t15 h_6 => 
            Join1 (fun k h_7 => guardP t15 false (k i1 h_7) (k undef h_7) ⟨⟩ ⟨⟩) (fun t17 h_8 => 
              Join1 (fun k_1 h_9 => guardP t15 false (k_1 table0 h_9) (k_1 undef h_9) ⟨⟩ ⟨⟩) (fun t18 h_10 => 
                Join1 (fun k_2 h_11 => guardP t15 false (Hp Try.prog false (Builtin.len_ #[39] 3 #[t18]) k_2 h_11 ⟨⟩) (k_2 undef h_11) ⟨⟩ ⟨⟩) (fun t19 h_12 => 
                  Join1 (fun k_3 h_13 => guardP t15 false (Hp Try.prog false (binS .quo 3 (.tmp 19) (.const (.int .i64 8)) t19 (.int .i64 8)) k_3 h_13 ⟨⟩) (k_3 undef h_13) ⟨⟩ ⟨⟩) (fun t20 h_14 => 
                    Join1 (fun k_4 h_15 => guardP t15 false (Hp Try.prog false (binS .geq 3 (.tmp 17) (.tmp 20) t17 t20) k_4 h_15 ⟨⟩) (k_4 undef h_15) ⟨⟩ ⟨⟩) (fun t21 h_16 => 
                      Hp Try.prog false (pickS t15 (.bool true) t21) (fun t22 h_17 => 
                        CondP t22 (
                          Hp Try.prog false (Instr.build 24 #[]) (fun t23 h_18 => 
                            Hp Try.prog false (storeS 24 t6 t23) (fun _ h_19 => 
                              Hp Try.prog true (loadCell 24 t6) (fun r_1 _ =>
                                R (.tuple #[r_1, (.int .i64 4)]) h_19) h_19 ⟨⟩) h_18 ⟨⟩) h_17 ⟨⟩) (
                          Hp Try.prog false (binS .mul 3 (.const (.int .i64 8)) (.tmp 26) (.int .i64 8) i1) (fun t27 h_20 => 
                            Hp Try.prog false (binS .mul 3 (.const (.int .i64 8)) (.tmp 28) (.int .i64 8) i1) (fun t29 h_21 => 
                              Hp Try.prog false (binS .add 3 (.tmp 29) (.const (.int .i64 8)) t29 (.int .i64 8)) (fun t30 h_22 => 
                                Hp Try.prog false (Instr.sliceAt 39 table0 (some t27) (some t30) none) (fun t31 h_23 => 
                                  CallsH Try.prog 68 #[t31] h_23 (fun t32 h_24 => 
                                    CallsH Try.prog 22 #[t32, bits2] h_24 (fun t34 h_25 => 
                                      Hp Try.prog false (Instr.extract t34 0) (fun t35 h_26 => 
                                        Hp Try.prog false (Instr.extract t34 1) (fun t36 h_27 => 
                                          Hp Try.prog false (Instr.alloc 24 true undef) (fun e8 h_28 => 
                                            Hp Try.prog false (storeS 24 e8 t35) (fun _ h_29 => 
                                              Hp Try.prog false (Op.unary .not t36) (fun t38 h_30 => 
                                                CondP t38 (
                                                  Hp Try.prog false (Instr.build 24 #[]) (fun t39 h_31 => 
                                                    Hp Try.prog false (storeS 24 t6 t39) (fun _ h_32 => 
                                                      Hp Try.prog true (loadCell 24 t6) (fun r_2 _ =>
                                                        R (.tuple #[r_2, (.int .i64 190)]) h_32) h_32 ⟨⟩) h_31 ⟨⟩) h_30 ⟨⟩) (
                                                  Hp Try.prog false (Instr.loadAt 24 e8) (fun t40 h_33 => 
                                                    Hp Try.prog false (storeS 24 t6 t40) (fun _ h_34 => 
                                                      Hp Try.prog true (loadCell 24 t6) (fun r_3 _ =>
                                                        R (.tuple #[r_3, (.int .i64 0)]) h_34) h_34 ⟨⟩) h_33 ⟨⟩) h_30 ⟨⟩) ⟨⟩ ⟨⟩) h_29 ⟨⟩) h_28 ⟨⟩) h_27 ⟨⟩) h_26 ⟨⟩) h_25 ⟨⟩) ⟨⟩) ⟨⟩) h_22 ⟨⟩) h_21 ⟨⟩) h_20 ⟨⟩) h_17 ⟨⟩) ⟨⟩ ⟨⟩) h_16 ⟨⟩) h_14 ⟨⟩ ⟨⟩) h_12 ⟨⟩ ⟨⟩) h_10 ⟨⟩ ⟨⟩) h_8 ⟨⟩ ⟨⟩) h_6 ⟨⟩ ⟨⟩) h_3 ⟨⟩) ⟨⟩ ⟨⟩) h_2 ⟨⟩) ⟨⟩) h ⟨⟩

theorem n35_calls {table0 i1 bits2 : Value} {R : Value → Heap → Prop} {h : Heap} (H : n35 table0 i1 bits2 R h) : CallsH Try.prog 35 #[table0, i1, bits2] h R ⟨⟩ :=
  callsH_of_eq Try.follow .l Try.func35 (by kernel_rfl) (by kernel_rfl) (by kernel_rfl) H

/-- palimpsest/palimpsestref09.Put -/
def n36 (table0 i1 e2 bits3 : Value) (R : Value → Heap → Prop) (h : Heap) : Prop :=
  Hp Try.prog false (Instr.box 24 e2) (fun e6 h_1 => 
    Hp Try.prog false (Instr.loadAt 24 e6) (fun t12 h_2 => 
      CallsH Try.prog 15 #[t12, bits3] h_2 (fun t14 h_3 => 
        Hp Try.prog false (Op.unary .not t14) (fun t16 h_4 => 
          CondP t16 (
            R (.tuple #[table0, (.int .i64 2)]) h_4) (
            Hp Try.prog false (binS .lss 3 (.tmp 18) (.const (.int .i64 0)) i1 (.int .i64 0)) (fun t19 h_5 => 
              Join1 (fun k h_6 => guardP t19 false (k i1 h_6) (k undef h_6) ⟨⟩ ⟨⟩) (fun t21 h_7 => 
                Join1 (fun k_1 h_8 => guardP t19 false (k_1 table0 h_8) (k_1 undef h_8) ⟨⟩ ⟨⟩) (fun t22 h_9 => 
                  Join1 (fun k_2 h_10 => guardP t19 false (Hp Try.prog false (Builtin.len_ #[39] 3 #[t22]) k_2 h_10 ⟨⟩) (k_2 undef h_10) ⟨⟩ ⟨⟩) (fun t23 h_11 => 
                    Join1 (fun k_3 h_12 => guardP t19 false (Hp Try.prog false (binS .quo 3 (.tmp 23) (.const (.int .i64 8)) t23 (.int .i64 8)) k_3 h_12 ⟨⟩) (k_3 undef h_12) ⟨⟩ ⟨⟩) (fun t24 h_13 => 
                      Join1 (fun k_4 h_14 => guardP t19 false (Hp Try.prog false (binS .geq 3 (.tmp 21) (.tmp 24) t21 t24) k_4 h_14 ⟨⟩) (k_4 undef h_14) ⟨⟩ ⟨⟩) (fun t25 h_15 => 
                        Hp Try.prog false (pickS t19 (.bool true) t25) (fun t26 h_16 => 
                          CondP t26 (
                            R (.tuple #[table0, (.int .i64 4)]) h_16) (
                            Hp Try.prog false (binS .mul 3 (.const (.int .i64 8)) (.tmp 29) (.int .i64 8) i1) (fun t30 h_17 => 
                              Hp Try.prog false (Instr.sliceAt 39 table0 none (some t30) none) (fun t31 h_18 => 
                                Hp Try.prog false (Builtin.append_ #[39, 39] 39 #[(.slice none 0 0), t31]) (fun t32 h_19 => 
                                  Hp Try.prog false (Instr.loadAt 24 e6) (fun t34 h_20 => 
                                    CallsH Try.prog 19 #[t34] h_20 (fun t35 h_21 => 
                                      CallsH Try.prog 69 #[t35, (.int .i64 8)] h_21 (fun t36 h_22 => 
                                        Hp Try.prog false (Builtin.append_ #[39, 39] 39 #[t32, t36]) (fun t37 h_23 => 
                                          Hp Try.prog false (binS .mul 3 (.const (.int .i64 8)) (.tmp 40) (.int .i64 8) i1) (fun t41 h_24 => 
                                            Hp Try.prog false (binS .add 3 (.tmp 41) (.const (.int .i64 8)) t41 (.int .i64 8)) (fun t42 h_25 => 
                                              Hp Try.prog false (Instr.sliceAt 39 table0 (some t42) none none) (fun t43 h_26 => 
                                                Hp Try.prog false (Builtin.append_ #[39, 39] 39 #[t37, t43]) (fun t44 h_27 => 
                                                  R (.tuple #[t44, (.int .i64 0)]) h_27) h_26 ⟨⟩) h_25 ⟨⟩) h_24 ⟨⟩) h_23 ⟨⟩) h_22 ⟨⟩) ⟨⟩) ⟨⟩) h_19 ⟨⟩) h_18 ⟨⟩) h_17 ⟨⟩) h_16 ⟨⟩) ⟨⟩ ⟨⟩) h_15 ⟨⟩) h_13 ⟨⟩ ⟨⟩) h_11 ⟨⟩ ⟨⟩) h_9 ⟨⟩ ⟨⟩) h_7 ⟨⟩ ⟨⟩) h_5 ⟨⟩ ⟨⟩) h_4 ⟨⟩) ⟨⟩ ⟨⟩) h_3 ⟨⟩) ⟨⟩) h_1 ⟨⟩) h ⟨⟩

theorem n36_calls {table0 i1 e2 bits3 : Value} {R : Value → Heap → Prop} {h : Heap} (H : n36 table0 i1 e2 bits3 R h) : CallsH Try.prog 36 #[table0, i1, e2, bits3] h R ⟨⟩ :=
  callsH_of_eq Try.follow .l Try.func36 (by kernel_rfl) (by kernel_rfl) (by kernel_rfl) H

/-- palimpsest/entry.Put -/
def n37 (table0 i1 e2 bits3 : Value) (R : Value → Heap → Prop) (h : Heap) : Prop :=
  Hp Try.prog false (Instr.box 24 e2) (fun e6 h_1 => 
    Hp Try.prog false (Instr.loadAt 24 e6) (fun t12 h_2 => 
      CallsH Try.prog 16 #[t12, bits3] h_2 (fun t14 h_3 => 
        Hp Try.prog false (Instr.extract t14 0) (fun t15 h_4 => 
          Hp Try.prog false (Instr.extract t14 1) (fun t16 h_5 => 
            Hp Try.prog false (binS .neq 27 (.tmp 17) (.const (.int .i64 0)) t16 (.int .i64 0)) (fun t18 h_6 => 
              CondP t18 (
                R t16 h_6) (
                Hp Try.prog false (binS .lss 3 (.tmp 20) (.const (.int .i64 0)) i1 (.int .i64 0)) (fun t21 h_7 => 
                  Join1 (fun k h_8 => guardP t21 false (k i1 h_8) (k undef h_8) ⟨⟩ ⟨⟩) (fun t23 h_9 => 
                    Join1 (fun k_1 h_10 => guardP t21 false (k_1 table0 h_10) (k_1 undef h_10) ⟨⟩ ⟨⟩) (fun t24 h_11 => 
                      Join1 (fun k_2 h_12 => guardP t21 false (Hp Try.prog false (Builtin.len_ #[39] 3 #[t24]) k_2 h_12 ⟨⟩) (k_2 undef h_12) ⟨⟩ ⟨⟩) (fun t25 h_13 => 
                        Join1 (fun k_3 h_14 => guardP t21 false (Hp Try.prog false (binS .quo 3 (.tmp 25) (.const (.int .i64 8)) t25 (.int .i64 8)) k_3 h_14 ⟨⟩) (k_3 undef h_14) ⟨⟩ ⟨⟩) (fun t26 h_15 => 
                          Join1 (fun k_4 h_16 => guardP t21 false (Hp Try.prog false (binS .geq 3 (.tmp 23) (.tmp 26) t23 t26) k_4 h_16 ⟨⟩) (k_4 undef h_16) ⟨⟩ ⟨⟩) (fun t27 h_17 => 
                            Hp Try.prog false (pickS t21 (.bool true) t27) (fun t28 h_18 => 
                              CondP t28 (
                                R (.int .i64 4) h_18) (
                                Hp Try.prog false (binS .mul 3 (.const (.int .i64 8)) (.tmp 30) (.int .i64 8) i1) (fun t31 h_19 => 
                                  CallsH Try.prog 27 #[table0, t31, (.int .i64 8), t15] h_19 (fun t33 h_20 => 
                                    R t33 h_20) ⟨⟩) h_18 ⟨⟩) ⟨⟩ ⟨⟩) h_17 ⟨⟩) h_15 ⟨⟩ ⟨⟩) h_13 ⟨⟩ ⟨⟩) h_11 ⟨⟩ ⟨⟩) h_9 ⟨⟩ ⟨⟩) h_7 ⟨⟩ ⟨⟩) h_6 ⟨⟩) ⟨⟩ ⟨⟩) h_5 ⟨⟩) h_4 ⟨⟩) h_3 ⟨⟩) ⟨⟩) h_1 ⟨⟩) h ⟨⟩

theorem n37_calls {table0 i1 e2 bits3 : Value} {R : Value → Heap → Prop} {h : Heap} (H : n37 table0 i1 e2 bits3 R h) : CallsH Try.prog 37 #[table0, i1, e2, bits3] h R ⟨⟩ :=
  callsH_of_eq Try.follow .l Try.func37 (by kernel_rfl) (by kernel_rfl) (by kernel_rfl) H

/-- palimpsest/entry.First -/
def n38 (table0 bits1 : Value) (R : Value → Heap → Prop) (h : Heap) : Prop :=
  Hp Try.prog false (binS .lss 3 (.tmp 9) (.const (.int .i64 9)) bits1 (.int .i64 9)) (fun t10 h_1 => 
    Join1 (fun k h_2 => guardP t10 false (k bits1 h_2) (k undef h_2) ⟨⟩ ⟨⟩) (fun t12 h_3 => 
      Join1 (fun k_1 h_4 => guardP t10 false (Hp Try.prog false (binS .gtr 3 (.tmp 12) (.const (.int .i64 16)) t12 (.int .i64 16)) k_1 h_4 ⟨⟩) (k_1 undef h_4) ⟨⟩ ⟨⟩) (fun t13 h_5 => 
        Hp Try.prog false (pickS t10 (.bool true) t13) (fun t14 h_6 => 
          CondP t14 (
            R (.tuple #[(.int .i64 0), (.int .i64 2)]) h_6) (
            Hp Try.prog false (Builtin.len_ #[39] 3 #[table0]) (fun t16 h_7 => 
              Hp Try.prog false (binS .quo 3 (.tmp 16) (.const (.int .i64 8)) t16 (.int .i64 8)) (fun t17 h_8 => 
                LoopC 1 (fun (X : Value → Heap → Prop) => fun t18 h_9 =>
                  Hp Try.prog false (binS .lss 3 (.tmp 18) (.tmp 17) t18 t17) (fun t19 h_10 => 
                    CondP t19 (
                      CallsH Try.prog 34 #[table0, t18, bits1] h_10 (fun t25 h_11 => 
                        Hp Try.prog false (Instr.extract t25 0) (fun t26 h_12 => 
                          Hp Try.prog false (Instr.extract t25 1) (fun t27 h_13 => 
                            Hp Try.prog false (Instr.alloc 24 true undef) (fun t7 h_14 => 
                              Hp Try.prog false (storeS 24 t7 t26) (fun _ h_15 => 
                                Hp Try.prog false (binS .neq 27 (.tmp 28) (.const (.int .i64 0)) t27 (.int .i64 0)) (fun t29 h_16 => 
                                  CondP t29 (
                                    R (.tuple #[t18, t27]) h_16) (
                                    Hp Try.prog false (binS .add 3 (.tmp 18) (.const (.int .i64 1)) t18 (.int .i64 1)) (fun t32 h_17 => 
                                      X t32 h_17) h_16 ⟨⟩) ⟨⟩ ⟨⟩) h_15 ⟨⟩) h_14 ⟨⟩) h_13 ⟨⟩) h_12 ⟨⟩) h_11 ⟨⟩) ⟨⟩) (
                      Hp Try.prog false (Builtin.len_ #[39] 3 #[table0]) (fun t34 h_18 => 
                        Hp Try.prog false (binS .quo 3 (.tmp 34) (.const (.int .i64 8)) t34 (.int .i64 8)) (fun t35 h_19 => 
                          R (.tuple #[t35, (.int .i64 0)]) h_19) h_18 ⟨⟩) h_10 ⟨⟩) ⟨⟩ ⟨⟩) h_9 ⟨⟩) [(.int .i64 0)] h_8 ⟨⟩) h_7 ⟨⟩) h_6 ⟨⟩) ⟨⟩ ⟨⟩) h_5 ⟨⟩) h_3 ⟨⟩ ⟨⟩) h_1 ⟨⟩ ⟨⟩) h ⟨⟩

theorem n38_calls {table0 bits1 : Value} {R : Value → Heap → Prop} {h : Heap} (H : n38 table0 bits1 R h) : CallsH Try.prog 38 #[table0, bits1] h R ⟨⟩ :=
  callsH_of_eq Try.follow (.n none .l (.n none .l (.n none (.n none .l (.n none (.n (some [19]) .l .l) .l)) .l))) Try.func38 (by kernel_rfl) (by kernel_rfl) (by kernel_rfl) H

/-- palimpsest/palimpsestref09.First -/
def n39 (table0 bits1 : Value) (R : Value → Heap → Prop) (h : Heap) : Prop :=
  CallsH Try.prog 20 #[bits1] h (fun t10 h_1 => 
    Hp Try.prog false (Op.unary .not t10) (fun t11 h_2 => 
      CondP t11 (
        R (.tuple #[(.int .i64 0), (.int .i64 2)]) h_2) (
        LoopC 1 (fun (X : Value → Heap → Prop) => fun i6 h_3 =>
          Hp Try.prog false (Builtin.len_ #[39] 3 #[table0]) (fun t14 h_4 => 
            Hp Try.prog false (binS .quo 3 (.tmp 14) (.const (.int .i64 8)) t14 (.int .i64 8)) (fun t15 h_5 => 
              Hp Try.prog false (binS .lss 3 (.tmp 12) (.tmp 15) i6 t15) (fun t16 h_6 => 
                CondP t16 (
                  CallsH Try.prog 35 #[table0, i6, bits1] h_6 (fun t23 h_7 => 
                    Hp Try.prog false (Instr.extract t23 0) (fun t24 h_8 => 
                      Hp Try.prog false (Instr.extract t23 1) (fun t25 h_9 => 
                        Hp Try.prog false (Instr.alloc 24 true undef) (fun t7 h_10 => 
                          Hp Try.prog false (storeS 24 t7 t24) (fun _ h_11 => 
                            Hp Try.prog false (binS .neq 3 (.tmp 26) (.const (.int .i64 0)) t25 (.int .i64 0)) (fun t27 h_12 => 
                              CondP t27 (
                                R (.tuple #[i6, t25]) h_12) (
                                Hp Try.prog false (binS .add 3 (.tmp 17) (.const (.int .i64 1)) i6 (.int .i64 1)) (fun t18 h_13 => 
                                  X t18 h_13) h_12 ⟨⟩) ⟨⟩ ⟨⟩) h_11 ⟨⟩) h_10 ⟨⟩) h_9 ⟨⟩) h_8 ⟨⟩) h_7 ⟨⟩) ⟨⟩) (
                  Hp Try.prog false (Builtin.len_ #[39] 3 #[table0]) (fun t31 h_14 => 
                    Hp Try.prog false (binS .quo 3 (.tmp 31) (.const (.int .i64 8)) t31 (.int .i64 8)) (fun t32 h_15 => 
                      R (.tuple #[t32, (.int .i64 0)]) h_15) h_14 ⟨⟩) h_6 ⟨⟩) ⟨⟩ ⟨⟩) h_5 ⟨⟩) h_4 ⟨⟩) h_3 ⟨⟩) [(.int .i64 0)] h_2 ⟨⟩) ⟨⟩ ⟨⟩) h_1 ⟨⟩) ⟨⟩

theorem n39_calls {table0 bits1 : Value} {R : Value → Heap → Prop} {h : Heap} (H : n39 table0 bits1 R h) : CallsH Try.prog 39 #[table0, bits1] h R ⟨⟩ :=
  callsH_of_eq Try.follow (.n none .l (.n none .l (.n none (.n none .l (.n none (.n (some [7]) .l .l) .l)) .l))) Try.func39 (by kernel_rfl) (by kernel_rfl) (by kernel_rfl) H

/-- palimpsest/entry.All -/
def n40 (table0 bits1 : Value) (R : Value → Heap → Prop) (h : Heap) : Prop :=
  Hp Try.prog false (Instr.box 39 table0) (fun table2 h_1 => 
    Hp Try.prog false (Instr.box 3 bits1) (fun bits3 h_2 => 
      Hp Try.prog false (Instr.loadAt 39 table2) (fun t5 h_3 => 
        CallsH Try.prog 72 #[t5] h_3 (fun t6 h_4 => 
          Hp Try.prog false (storeS 39 table2 t6) (fun _ h_5 => 
            Hp Try.prog false (pure (.func (.func 73) #[] #[table2, bits3])) (fun t7 h_6 => 
              R t7 h_6) h_5 ⟨⟩) h_4 ⟨⟩) ⟨⟩) h_2 ⟨⟩) h_1 ⟨⟩) h ⟨⟩

theorem n40_calls {table0 bits1 : Value} {R : Value → Heap → Prop} {h : Heap} (H : n40 table0 bits1 R h) : CallsH Try.prog 40 #[table0, bits1] h R ⟨⟩ :=
  callsH_of_eq Try.follow .l Try.func40 (by kernel_rfl) (by kernel_rfl) (by kernel_rfl) H

/-- palimpsest/palimpsestref08.Cluster -/
def n64 (bits0 : Value) (R : Value → Heap → Prop) (h : Heap) : Prop :=
  LoopC 2 (fun (X : Value → Value → Heap → Prop) => fun c3 i4 h_1 =>
    Hp Try.prog false (binS .lss 3 (.tmp 5) (.tmp 6) i4 bits0) (fun t7 h_2 => 
      CondP t7 (
        Hp Try.prog false (binS .mul 2 (.const (.int .i64 2)) (.tmp 10) (.int .i64 2) c3) (fun t11 h_3 => 
          Hp Try.prog false (binS .add 3 (.tmp 8) (.const (.int .i64 1)) i4 (.int .i64 1)) (fun t9 h_4 => 
            X t11 t9 h_4) h_3 ⟨⟩) h_2 ⟨⟩) (
        R c3 h_2) ⟨⟩ ⟨⟩) h_1 ⟨⟩) [(.int .i64 1), (.int .i64 0)] h ⟨⟩

theorem n64_calls {bits0 : Value} {R : Value → Heap → Prop} {h : Heap} (H : n64 bits0 R h) : CallsH Try.prog 64 #[bits0] h R ⟨⟩ :=
  callsH_of_eq Try.follow (.n none .l (.n none .l (.n none (.n none .l (.n none (.n (some [4, 5]) .l .l) .l)) .l))) Try.func64 (by kernel_rfl) (by kernel_rfl) (by kernel_rfl) H

/-- palimpsest/palimpsestref08.Place -/
def n65 (at0 bits1 : Value) (R : Value → Heap → Prop) (h : Heap) : Prop :=
  Hp Try.prog false (binS .gtr 2 (.tmp 5) (.const (.int .i64 0)) at0 (.int .i64 0)) (fun t6 h_1 => 
    Join1 (fun k h_2 => guardP t6 true (k at0 h_2) (k undef h_2) ⟨⟩ ⟨⟩) (fun t8 h_3 => 
      Join1 (fun k_1 h_4 => guardP t6 true (Hp Try.prog false (binS .leq 2 (.tmp 8) (.const (.int .i64 268435456)) t8 (.int .i64 268435456)) k_1 h_4 ⟨⟩) (k_1 undef h_4) ⟨⟩ ⟨⟩) (fun t9 h_5 => 
        Hp Try.prog false (pickS t6 t9 (.bool false)) (fun t10 h_6 => 
          Join1 (fun k_2 h_7 => guardP t10 true (k_2 at0 h_7) (k_2 undef h_7) ⟨⟩ ⟨⟩) (fun t12 h_8 => 
            Join1 (fun k_3 h_9 => guardP t10 true (k_3 bits1 h_9) (k_3 undef h_9) ⟨⟩ ⟨⟩) (fun t13 h_10 => 
              Join1 (fun k_4 h_11 => guardP t10 true (CallsH Try.prog 64 #[t13] h_11 k_4 ⟨⟩) (k_4 undef h_11) ⟨⟩ ⟨⟩) (fun t14 h_12 => 
                Join1 (fun k_5 h_13 => guardP t10 true (Hp Try.prog false (binS .rem 2 (.tmp 12) (.tmp 14) t12 t14) k_5 h_13 ⟨⟩) (k_5 undef h_13) ⟨⟩ ⟨⟩) (fun t15 h_14 => 
                  Join1 (fun k_6 h_15 => guardP t10 true (Hp Try.prog false (binS .eql 2 (.tmp 15) (.const (.int .i64 0)) t15 (.int .i64 0)) k_6 h_15 ⟨⟩) (k_6 undef h_15) ⟨⟩ ⟨⟩) (fun t16 h_16 => 
                    Hp Try.prog false (pickS t10 t16 (.bool false)) (fun t17 h_17 => 
                      R t17 h_17) h_16 ⟨⟩) h_14 ⟨⟩ ⟨⟩) h_12 ⟨⟩ ⟨⟩) h_10 ⟨⟩ ⟨⟩) h_8 ⟨⟩ ⟨⟩) h_6 ⟨⟩ ⟨⟩) h_5 ⟨⟩) h_3 ⟨⟩ ⟨⟩) h_1 ⟨⟩ ⟨⟩) h ⟨⟩

theorem n65_calls {at0 bits1 : Value} {R : Value → Heap → Prop} {h : Heap} (H : n65 at0 bits1 R h) : CallsH Try.prog 65 #[at0, bits1] h R ⟨⟩ :=
  callsH_of_eq Try.follow .l Try.func65 (by kernel_rfl) (by kernel_rfl) (by kernel_rfl) H

/-- slices.Clone[[]byte,byte] -/
def n72 (s0 : Value) (R : Value → Heap → Prop) (h : Heap) : Prop :=
  Hp Try.prog false (binS .eql 39 (.tmp 3) (.const (.slice none 0 0)) s0 (.slice none 0 0)) (fun t4 h_1 => 
    CondP t4 (
      R (.slice none 0 0) h_1) (
      Hp Try.prog false (Instr.buildSlice 39 0 #[]) (fun t5 h_2 => 
        Hp Try.prog false (Builtin.append_ #[39, 39] 39 #[t5, s0]) (fun t7 h_3 => 
          R t7 h_3) h_2 ⟨⟩) h_1 ⟨⟩) ⟨⟩ ⟨⟩) h ⟨⟩

theorem n72_calls {s0 : Value} {R : Value → Heap → Prop} {h : Heap} (H : n72 s0 R h) : CallsH Try.prog 72 #[s0] h R ⟨⟩ :=
  callsH_of_eq Try.follow .l Try.func72 (by kernel_rfl) (by kernel_rfl) (by kernel_rfl) H

/-- palimpsest/entry.All$1 -/
def n73 (yield0 t1 t2 : Value) (R : Value → Heap → Prop) (h : Heap) : Prop :=
  Hp Try.prog false (Instr.loadAt 39 t1) (fun t7 h_1 => 
    Hp Try.prog false (Builtin.len_ #[39] 3 #[t7]) (fun t8 h_2 => 
      Hp Try.prog false (binS .quo 3 (.tmp 8) (.const (.int .i64 8)) t8 (.int .i64 8)) (fun t9 h_3 => 
        LoopC 1 (fun (X : Value → Heap → Prop) => fun t10 h_4 =>
          Hp Try.prog false (binS .lss 3 (.tmp 10) (.tmp 9) t10 t9) (fun t11 h_5 => 
            CondP t11 (
              Hp Try.prog false (Instr.loadAt 39 t1) (fun t14 h_6 => 
                Hp Try.prog false (Instr.loadAt 3 t2) (fun t16 h_7 => 
                  CallsH Try.prog 34 #[t14, t10, t16] h_7 (fun t17 h_8 => 
                    Hp Try.prog false (Instr.extract t17 0) (fun t18 h_9 => 
                      Hp Try.prog false (Instr.extract t17 1) (fun t19 h_10 => 
                        Hp Try.prog false (Instr.alloc 24 true undef) (fun e5 h_11 => 
                          Hp Try.prog false (storeS 24 e5 t18) (fun _ h_12 => 
                            Hp Try.prog false (binS .neq 27 (.tmp 20) (.const (.int .i64 0)) t19 (.int .i64 0)) (fun t21 h_13 => 
                              CondP t21 (
                                R (.tuple #[]) h_13) (
                                Hp Try.prog false (Instr.loadAt 24 e5) (fun t22 h_14 => 
                                  Hp Try.prog false (Instr.build 24 #[]) (fun t23 h_15 => 
                                    Hp Try.prog false (binS .neq 24 (.tmp 22) (.tmp 23) t22 t23) (fun t24 h_16 => 
                                      Join1 (fun k h_17 => guardP t24 true (k yield0 h_17) (k undef h_17) ⟨⟩ ⟨⟩) (fun t26 h_18 => 
                                        Join1 (fun k_1 h_19 => guardP t24 true (k_1 t10 h_19) (k_1 undef h_19) ⟨⟩ ⟨⟩) (fun t27 h_20 => 
                                          Join1 (fun k_2 h_21 => guardP t24 true (Hp Try.prog false (Instr.loadAt 24 e5) k_2 h_21 ⟨⟩) (k_2 undef h_21) ⟨⟩ ⟨⟩) (fun t28 h_22 => 
                                            Join1 (fun k_3 h_23 => guardP t24 true (InvokeH Try.prog t26 #[t27, t28] h_23 k_3 ⟨⟩) (k_3 undef h_23) ⟨⟩ ⟨⟩) (fun t29 h_24 => 
                                              Join1 (fun k_4 h_25 => guardP t24 true (Hp Try.prog false (Op.unary .not t29) k_4 h_25 ⟨⟩) (k_4 undef h_25) ⟨⟩ ⟨⟩) (fun t30 h_26 => 
                                                Hp Try.prog false (pickS t24 t30 (.bool false)) (fun t31 h_27 => 
                                                  CondP t31 (
                                                    R (.tuple #[]) h_27) (
                                                    Hp Try.prog false (binS .add 3 (.tmp 10) (.const (.int .i64 1)) t10 (.int .i64 1)) (fun t32 h_28 => 
                                                      X t32 h_28) h_27 ⟨⟩) ⟨⟩ ⟨⟩) h_26 ⟨⟩) h_24 ⟨⟩ ⟨⟩) h_22 ⟨⟩ ⟨⟩) h_20 ⟨⟩ ⟨⟩) h_18 ⟨⟩ ⟨⟩) h_16 ⟨⟩ ⟨⟩) h_15 ⟨⟩) h_14 ⟨⟩) h_13 ⟨⟩) ⟨⟩ ⟨⟩) h_12 ⟨⟩) h_11 ⟨⟩) h_10 ⟨⟩) h_9 ⟨⟩) h_8 ⟨⟩) ⟨⟩) h_6 ⟨⟩) h_5 ⟨⟩) (
              R (.tuple #[]) h_5) ⟨⟩ ⟨⟩) h_4 ⟨⟩) [(.int .i64 0)] h_3 ⟨⟩) h_2 ⟨⟩) h_1 ⟨⟩) h ⟨⟩

theorem n73_calls {yield0 t1 t2 : Value} {R : Value → Heap → Prop} {h : Heap} (H : n73 yield0 t1 t2 R h) : CallsH Try.prog 73 #[yield0, t1, t2] h R ⟨⟩ :=
  callsH_of_eq Try.follow (.n none .l (.n none (.n (some [11]) .l .l) .l)) Try.func73 (by kernel_rfl) (by kernel_rfl) (by kernel_rfl) H

end Go.Proofs.Ytmppolccfjfoaaa

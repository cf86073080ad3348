/- Printed by wip/tools/gen.py: the condition of each function, and that a call meets it. -/
import Derived.Test.YtmppolccfjfoaaaVcFun
import Derived.Test.YtmppolccfjfoaaaProg
import Derived.Test.YtmppolccfjfoaaaNiceW
set_option maxRecDepth 100000
set_option linter.unusedVariables false
namespace Go.Proofs.Ytmppolccfjfoaaa
open Go.Vc

/-- palimpsest/palimpsestlaw11.TablesSnaps -/
def n12 (bits0 l1 : Value) (R : Value → Heap → Prop) (h : Heap) : Prop :=
  Hp Try.prog false (Builtin.len_ #[101] 3 #[l1]) (fun t13 h_1 => 
    Hp Try.prog false (binS .gtr 3 (.tmp 13) (.const (.int .i64 100)) t13 (.int .i64 100)) (fun t14 h_2 => 
      CondP t14 (
        CallsH Try.prog 57 #[] h_2 (fun t15 h_3 => 
          R t15 h_3) ⟨⟩) (
        Hp Try.prog false (Builtin.append_ #[101, 101] 101 #[(.slice none 0 0), l1]) (fun t17 h_4 => 
          Hp Try.prog false (Instr.build 103 #[(0, (str [122, 122]))]) (fun t18 h_5 => 
            Hp Try.prog false (Instr.buildSlice 101 1 #[(0, t18)]) (fun t19 h_6 => 
              Hp Try.prog false (Builtin.append_ #[101, 101] 101 #[t17, t19]) (fun t20 h_7 => 
                Hp Try.prog false (Builtin.len_ #[101] 3 #[l1]) (fun t22 h_8 => 
                  Hp Try.prog false (Instr.sliceAt 101 t20 none (some t22) none) (fun t23 h_9 => 
                    CallsH Try.prog 58 #[bits0, t23] h_9 (fun t27 h_10 => 
                      Hp Try.prog false (Instr.extract t27 0) (fun t28 h_11 => 
                        Hp Try.prog false (Instr.extract t27 1) (fun t29 h_12 => 
                          CallsH Try.prog 59 #[bits0, l1] h_12 (fun t33 h_13 => 
                            Hp Try.prog false (Instr.extract t33 0) (fun t34 h_14 => 
                              Hp Try.prog false (Instr.extract t33 1) (fun t35 h_15 => 
                                Hp Try.prog false (convert 39 9 t28) (fun t37 h_16 => 
                                  Hp Try.prog false (convert 39 9 t34) (fun t39 h_17 => 
                                    Hp Try.prog false (binS .neq 9 (.tmp 37) (.tmp 39) t37 t39) (fun t40 h_18 => 
                                      Join1 (fun k h_19 => guardP t40 false (k t29 h_19) (k undef h_19) ⟨⟩ ⟨⟩) (fun t42 h_20 => 
                                        Join1 (fun k_1 h_21 => guardP t40 false (k_1 t35 h_21) (k_1 undef h_21) ⟨⟩ ⟨⟩) (fun t43 h_22 => 
                                          Join1 (fun k_2 h_23 => guardP t40 false (Hp Try.prog false (binS .neq 3 (.tmp 42) (.tmp 43) t42 t43) k_2 h_23 ⟨⟩) (k_2 undef h_23) ⟨⟩ ⟨⟩) (fun t44 h_24 => 
                                            Hp Try.prog false (pickS t40 (.bool true) t44) (fun t45 h_25 => 
                                              Join1 (fun k_3 h_26 => guardP t45 false (k_3 t23 h_26) (k_3 undef h_26) ⟨⟩ ⟨⟩) (fun t47 h_27 => 
                                                Join1 (fun k_4 h_28 => guardP t45 false (k_4 l1 h_28) (k_4 undef h_28) ⟨⟩ ⟨⟩) (fun t48 h_29 => 
                                                  Join1 (fun k_5 h_30 => guardP t45 false (CallsH Try.prog 60 #[t47, t48] h_30 k_5 ⟨⟩) (k_5 undef h_30) ⟨⟩ ⟨⟩) (fun t49 h_31 => 
                                                    Join1 (fun k_6 h_32 => guardP t45 false (Hp Try.prog false (Op.unary .not t49) k_6 h_32 ⟨⟩) (k_6 undef h_32) ⟨⟩ ⟨⟩) (fun t50 h_33 => 
                                                      Hp Try.prog false (pickS t45 (.bool true) t50) (fun t51 h_34 => 
                                                        Join1 (fun k_7 h_35 => guardP t51 false (k_7 t23 h_35) (k_7 undef h_35) ⟨⟩ ⟨⟩) (fun t53 h_36 => 
                                                          Join1 (fun k_8 h_37 => guardP t51 false (k_8 l1 h_37) (k_8 undef h_37) ⟨⟩ ⟨⟩) (fun t54 h_38 => 
                                                            Join1 (fun k_9 h_39 => guardP t51 false (Hp Try.prog false (Builtin.len_ #[101] 3 #[t54]) k_9 h_39 ⟨⟩) (k_9 undef h_39) ⟨⟩ ⟨⟩) (fun t55 h_40 => 
                                                              Join1 (fun k_10 h_41 => guardP t51 false (Hp Try.prog false (binS .add 3 (.tmp 55) (.const (.int .i64 1)) t55 (.int .i64 1)) k_10 h_41 ⟨⟩) (k_10 undef h_41) ⟨⟩ ⟨⟩) (fun t56 h_42 => 
                                                                Join1 (fun k_11 h_43 => guardP t51 false (Hp Try.prog false (Instr.sliceAt 101 t53 none (some t56) none) k_11 h_43 ⟨⟩) (k_11 undef h_43) ⟨⟩ ⟨⟩) (fun t57 h_44 => 
                                                                  Join1 (fun k_12 h_45 => guardP t51 false (k_12 l1 h_45) (k_12 undef h_45) ⟨⟩ ⟨⟩) (fun t58 h_46 => 
                                                                    Join1 (fun k_13 h_47 => guardP t51 false (Hp Try.prog false (Builtin.len_ #[101] 3 #[t58]) k_13 h_47 ⟨⟩) (k_13 undef h_47) ⟨⟩ ⟨⟩) (fun t59 h_48 => 
                                                                      Join1 (fun k_14 h_49 => guardP t51 false (Hp Try.prog false (Instr.indexAt 101 t57 t59) k_14 h_49 ⟨⟩) (k_14 undef h_49) ⟨⟩ ⟨⟩) (fun t60 h_50 => 
                                                                        Join1 (fun k_15 h_51 => guardP t51 false (Hp Try.prog false (Instr.fieldAt 103 t60 0) k_15 h_51 ⟨⟩) (k_15 undef h_51) ⟨⟩ ⟨⟩) (fun t61 h_52 => 
                                                                          Join1 (fun k_16 h_53 => guardP t51 false (Hp Try.prog false (Instr.loadAt 9 t61) k_16 h_53 ⟨⟩) (k_16 undef h_53) ⟨⟩ ⟨⟩) (fun t62 h_54 => 
                                                                            Join1 (fun k_17 h_55 => guardP t51 false (Hp Try.prog false (binS .neq 9 (.tmp 62) (.const (str [122, 122])) t62 (str [122, 122])) k_17 h_55 ⟨⟩) (k_17 undef h_55) ⟨⟩ ⟨⟩) (fun t63 h_56 => 
                                                                              Hp Try.prog false (pickS t51 (.bool true) t63) (fun t64 h_57 => 
                                                                                CondP t64 (
                                                                                  R (.bool false) h_57) (
                                                                                  Hp Try.prog false (binS .neq 27 (.tmp 65) (.const (.int .i64 0)) t29 (.int .i64 0)) (fun t66 h_58 => 
                                                                                    CondP t66 (
                                                                                      CallsH Try.prog 57 #[] h_58 (fun t67 h_59 => 
                                                                                        R t67 h_59) ⟨⟩) (
                                                                                      Hp Try.prog false (Builtin.len_ #[101] 3 #[l1]) (fun t72 h_60 => 
                                                                                        CallsH Try.prog 61 #[bits0, t28, t72] h_60 (fun t73 h_61 => 
                                                                                          Hp Try.prog false (Instr.extract t73 0) (fun t74 h_62 => 
                                                                                            Hp Try.prog false (Instr.extract t73 1) (fun t75 h_63 => 
                                                                                              Hp Try.prog false (binS .eql 27 (.tmp 76) (.const (.int .i64 0)) t75 (.int .i64 0)) (fun t77 h_64 => 
                                                                                                Join1 (fun k_18 h_65 => guardP t77 true (k_18 t74 h_65) (k_18 undef h_65) ⟨⟩ ⟨⟩) (fun t79 h_66 => 
                                                                                                  Join1 (fun k_19 h_67 => guardP t77 true (k_19 l1 h_67) (k_19 undef h_67) ⟨⟩ ⟨⟩) (fun t80 h_68 => 
                                                                                                    Join1 (fun k_20 h_69 => guardP t77 true (CallsH Try.prog 60 #[t79, t80] h_69 k_20 ⟨⟩) (k_20 undef h_69) ⟨⟩ ⟨⟩) (fun t81 h_70 => 
                                                                                                      Hp Try.prog false (pickS t77 t81 (.bool false)) (fun t82 h_71 => 
                                                                                                        Join1 (fun k_21 h_72 => guardP t82 true (CallsH Try.prog 57 #[] h_72 k_21 ⟨⟩) (k_21 undef h_72) ⟨⟩ ⟨⟩) (fun t84 h_73 => 
                                                                                                          Hp Try.prog false (pickS t82 t84 (.bool false)) (fun t85 h_74 => 
                                                                                                            R t85 h_74) h_73 ⟨⟩) h_71 ⟨⟩ ⟨⟩) h_70 ⟨⟩) h_68 ⟨⟩ ⟨⟩) h_66 ⟨⟩ ⟨⟩) h_64 ⟨⟩ ⟨⟩) h_63 ⟨⟩) h_62 ⟨⟩) h_61 ⟨⟩) ⟨⟩) h_58 ⟨⟩) ⟨⟩ ⟨⟩) h_57 ⟨⟩) ⟨⟩ ⟨⟩) h_56 ⟨⟩) h_54 ⟨⟩ ⟨⟩) h_52 ⟨⟩ ⟨⟩) h_50 ⟨⟩ ⟨⟩) h_48 ⟨⟩ ⟨⟩) h_46 ⟨⟩ ⟨⟩) h_44 ⟨⟩ ⟨⟩) h_42 ⟨⟩ ⟨⟩) h_40 ⟨⟩ ⟨⟩) h_38 ⟨⟩ ⟨⟩) h_36 ⟨⟩ ⟨⟩) h_34 ⟨⟩ ⟨⟩) h_33 ⟨⟩) h_31 ⟨⟩ ⟨⟩) h_29 ⟨⟩ ⟨⟩) h_27 ⟨⟩ ⟨⟩) h_25 ⟨⟩ ⟨⟩) h_24 ⟨⟩) h_22 ⟨⟩ ⟨⟩) h_20 ⟨⟩ ⟨⟩) h_18 ⟨⟩ ⟨⟩) h_17 ⟨⟩) h_16 ⟨⟩) h_15 ⟨⟩) h_14 ⟨⟩) h_13 ⟨⟩) ⟨⟩) h_11 ⟨⟩) h_10 ⟨⟩) ⟨⟩) h_8 ⟨⟩) h_7 ⟨⟩) h_6 ⟨⟩) h_5 ⟨⟩) h_4 ⟨⟩) h_2 ⟨⟩) ⟨⟩ ⟨⟩) h_1 ⟨⟩) h ⟨⟩

theorem n12_calls {bits0 l1 : Value} {R : Value → Heap → Prop} {h : Heap} (H : n12 bits0 l1 R h) : CallsH Try.prog 12 #[bits0, l1] h R ⟨⟩ :=
  callsH_of_eq Try.follow .l Try.func12 (by kernel_rfl) (by kernel_rfl) (by kernel_rfl) H

/-- palimpsest/palimpsestlaw11.TablesParts -/
def n13 (bits0 l1 cut2 : Value) (R : Value → Heap → Prop) (h : Heap) : Prop :=
  Hp Try.prog false (Builtin.len_ #[101] 3 #[l1]) (fun t19 h_1 => 
    Hp Try.prog false (binS .gtr 3 (.tmp 19) (.const (.int .i64 100)) t19 (.int .i64 100)) (fun t20 h_2 => 
      CondP t20 (
        CallsH Try.prog 57 #[] h_2 (fun t21 h_3 => 
          R t21 h_3) ⟨⟩) (
        CallsH Try.prog 58 #[bits0, l1] h_2 (fun t25 h_4 => 
          Hp Try.prog false (Instr.extract t25 0) (fun t26 h_5 => 
            Hp Try.prog false (Instr.extract t25 1) (fun t27 h_6 => 
              Hp Try.prog false (binS .neq 27 (.tmp 28) (.const (.int .i64 0)) t27 (.int .i64 0)) (fun t29 h_7 => 
                CondP t29 (
                  Hp Try.prog false (Builtin.len_ #[39] 3 #[t26]) (fun t31 h_8 => 
                    Hp Try.prog false (binS .eql 3 (.tmp 31) (.const (.int .i64 0)) t31 (.int .i64 0)) (fun t32 h_9 => 
                      Join1 (fun k h_10 => guardP t32 true (CallsH Try.prog 57 #[] h_10 k ⟨⟩) (k undef h_10) ⟨⟩ ⟨⟩) (fun t34 h_11 => 
                        Hp Try.prog false (pickS t32 t34 (.bool false)) (fun t35 h_12 => 
                          R t35 h_12) h_11 ⟨⟩) h_9 ⟨⟩ ⟨⟩) h_8 ⟨⟩) h_7 ⟨⟩) (
                  Hp Try.prog false (Builtin.len_ #[39] 3 #[t26]) (fun t37 h_13 => 
                    Hp Try.prog false (binS .eql 3 (.tmp 37) (.const (.int .i64 0)) t37 (.int .i64 0)) (fun t38 h_14 => 
                      CondP t38 (
                        CallsH Try.prog 61 #[bits0, t26, (.int .i64 0)] h_14 (fun t42 h_15 => 
                          Hp Try.prog false (Instr.extract t42 0) (fun t43 h_16 => 
                            Hp Try.prog false (Instr.extract t42 1) (fun t44 h_17 => 
                              Hp Try.prog false (Builtin.len_ #[101] 3 #[t43]) (fun t46 h_18 => 
                                Hp Try.prog false (binS .eql 3 (.tmp 46) (.const (.int .i64 0)) t46 (.int .i64 0)) (fun t47 h_19 => 
                                  Join1 (fun k_1 h_20 => guardP t47 true (k_1 t44 h_20) (k_1 undef h_20) ⟨⟩ ⟨⟩) (fun t49 h_21 => 
                                    Join1 (fun k_2 h_22 => guardP t47 true (Hp Try.prog false (binS .eql 27 (.tmp 49) (.const (.int .i64 0)) t49 (.int .i64 0)) k_2 h_22 ⟨⟩) (k_2 undef h_22) ⟨⟩ ⟨⟩) (fun t50 h_23 => 
                                      Hp Try.prog false (pickS t47 t50 (.bool false)) (fun t51 h_24 => 
                                        Join1 (fun k_3 h_25 => guardP t51 true (CallsH Try.prog 57 #[] h_25 k_3 ⟨⟩) (k_3 undef h_25) ⟨⟩ ⟨⟩) (fun t53 h_26 => 
                                          Hp Try.prog false (pickS t51 t53 (.bool false)) (fun t54 h_27 => 
                                            R t54 h_27) h_26 ⟨⟩) h_24 ⟨⟩ ⟨⟩) h_23 ⟨⟩) h_21 ⟨⟩ ⟨⟩) h_19 ⟨⟩ ⟨⟩) h_18 ⟨⟩) h_17 ⟨⟩) h_16 ⟨⟩) h_15 ⟨⟩) ⟨⟩) (
                        Hp Try.prog false (Builtin.len_ #[39] 3 #[t26]) (fun t57 h_28 => 
                          Hp Try.prog false (binS .rem 3 (.tmp 55) (.tmp 57) cut2 t57) (fun t58 h_29 => 
                            Hp Try.prog false (Builtin.len_ #[39] 3 #[t26]) (fun t60 h_30 => 
                              Hp Try.prog false (binS .add 3 (.tmp 58) (.tmp 60) t58 t60) (fun t61 h_31 => 
                                Hp Try.prog false (Builtin.len_ #[39] 3 #[t26]) (fun t63 h_32 => 
                                  Hp Try.prog false (binS .rem 3 (.tmp 61) (.tmp 63) t61 t63) (fun t64 h_33 => 
                                    Hp Try.prog false (Instr.sliceAt 39 t26 none (some t64) none) (fun t69 h_34 => 
                                      Hp Try.prog false (Builtin.len_ #[101] 3 #[l1]) (fun t71 h_35 => 
                                        CallsH Try.prog 61 #[bits0, t69, t71] h_35 (fun t72 h_36 => 
                                          Hp Try.prog false (Instr.extract t72 0) (fun t73 h_37 => 
                                            Hp Try.prog false (Instr.extract t72 1) (fun t74 h_38 => 
                                              Hp Try.prog false (Builtin.len_ #[101] 3 #[l1]) (fun t79 h_39 => 
                                                Hp Try.prog false (binS .add 3 (.tmp 79) (.const (.int .i64 1)) t79 (.int .i64 1)) (fun t80 h_40 => 
                                                  CallsH Try.prog 61 #[bits0, t26, t80] h_40 (fun t81 h_41 => 
                                                    Hp Try.prog false (Instr.extract t81 0) (fun t82 h_42 => 
                                                      Hp Try.prog false (Instr.extract t81 1) (fun t83 h_43 => 
                                                        Hp Try.prog false (Builtin.len_ #[101] 3 #[l1]) (fun t88 h_44 => 
                                                          Hp Try.prog false (binS .sub 3 (.tmp 88) (.const (.int .i64 1)) t88 (.int .i64 1)) (fun t89 h_45 => 
                                                            CallsH Try.prog 61 #[bits0, t26, t89] h_45 (fun t90 h_46 => 
                                                              Hp Try.prog false (Instr.extract t90 0) (fun t91 h_47 => 
                                                                Hp Try.prog false (Instr.extract t90 1) (fun t92 h_48 => 
                                                                  Hp Try.prog false (Builtin.len_ #[101] 3 #[t73]) (fun t94 h_49 => 
                                                                    Hp Try.prog false (binS .eql 3 (.tmp 94) (.const (.int .i64 0)) t94 (.int .i64 0)) (fun t95 h_50 => 
                                                                      Join1 (fun k_4 h_51 => guardP t95 true (k_4 t74 h_51) (k_4 undef h_51) ⟨⟩ ⟨⟩) (fun t97 h_52 => 
                                                                        Join1 (fun k_5 h_53 => guardP t95 true (Hp Try.prog false (binS .eql 27 (.tmp 97) (.const (.int .i64 210)) t97 (.int .i64 210)) k_5 h_53 ⟨⟩) (k_5 undef h_53) ⟨⟩ ⟨⟩) (fun t98 h_54 => 
                                                                          Hp Try.prog false (pickS t95 t98 (.bool false)) (fun t99 h_55 => 
                                                                            Join1 (fun k_6 h_56 => guardP t99 true (k_6 t82 h_56) (k_6 undef h_56) ⟨⟩ ⟨⟩) (fun t101 h_57 => 
                                                                              Join1 (fun k_7 h_58 => guardP t99 true (Hp Try.prog false (Builtin.len_ #[101] 3 #[t101]) k_7 h_58 ⟨⟩) (k_7 undef h_58) ⟨⟩ ⟨⟩) (fun t102 h_59 => 
                                                                                Join1 (fun k_8 h_60 => guardP t99 true (Hp Try.prog false (binS .eql 3 (.tmp 102) (.const (.int .i64 0)) t102 (.int .i64 0)) k_8 h_60 ⟨⟩) (k_8 undef h_60) ⟨⟩ ⟨⟩) (fun t103 h_61 => 
                                                                                  Hp Try.prog false (pickS t99 t103 (.bool false)) (fun t104 h_62 => 
                                                                                    Join1 (fun k_9 h_63 => guardP t104 true (k_9 t83 h_63) (k_9 undef h_63) ⟨⟩ ⟨⟩) (fun t106 h_64 => 
                                                                                      Join1 (fun k_10 h_65 => guardP t104 true (Hp Try.prog false (binS .eql 27 (.tmp 106) (.const (.int .i64 210)) t106 (.int .i64 210)) k_10 h_65 ⟨⟩) (k_10 undef h_65) ⟨⟩ ⟨⟩) (fun t107 h_66 => 
                                                                                        Hp Try.prog false (pickS t104 t107 (.bool false)) (fun t108 h_67 => 
                                                                                          Join1 (fun k_11 h_68 => guardP t108 true (k_11 t91 h_68) (k_11 undef h_68) ⟨⟩ ⟨⟩) (fun t110 h_69 => 
                                                                                            Join1 (fun k_12 h_70 => guardP t108 true (Hp Try.prog false (Builtin.len_ #[101] 3 #[t110]) k_12 h_70 ⟨⟩) (k_12 undef h_70) ⟨⟩ ⟨⟩) (fun t111 h_71 => 
                                                                                              Join1 (fun k_13 h_72 => guardP t108 true (Hp Try.prog false (binS .eql 3 (.tmp 111) (.const (.int .i64 0)) t111 (.int .i64 0)) k_13 h_72 ⟨⟩) (k_13 undef h_72) ⟨⟩ ⟨⟩) (fun t112 h_73 => 
                                                                                                Hp Try.prog false (pickS t108 t112 (.bool false)) (fun t113 h_74 => 
                                                                                                  Join1 (fun k_14 h_75 => guardP t113 true (k_14 t92 h_75) (k_14 undef h_75) ⟨⟩ ⟨⟩) (fun t115 h_76 => 
                                                                                                    Join1 (fun k_15 h_77 => guardP t113 true (Hp Try.prog false (binS .eql 27 (.tmp 115) (.const (.int .i64 210)) t115 (.int .i64 210)) k_15 h_77 ⟨⟩) (k_15 undef h_77) ⟨⟩ ⟨⟩) (fun t116 h_78 => 
                                                                                                      Hp Try.prog false (pickS t113 t116 (.bool false)) (fun t117 h_79 => 
                                                                                                        Join1 (fun k_16 h_80 => guardP t117 true (CallsH Try.prog 57 #[] h_80 k_16 ⟨⟩) (k_16 undef h_80) ⟨⟩ ⟨⟩) (fun t119 h_81 => 
                                                                                                          Hp Try.prog false (pickS t117 t119 (.bool false)) (fun t120 h_82 => 
                                                                                                            R t120 h_82) h_81 ⟨⟩) h_79 ⟨⟩ ⟨⟩) h_78 ⟨⟩) h_76 ⟨⟩ ⟨⟩) h_74 ⟨⟩ ⟨⟩) h_73 ⟨⟩) h_71 ⟨⟩ ⟨⟩) h_69 ⟨⟩ ⟨⟩) h_67 ⟨⟩ ⟨⟩) h_66 ⟨⟩) h_64 ⟨⟩ ⟨⟩) h_62 ⟨⟩ ⟨⟩) h_61 ⟨⟩) h_59 ⟨⟩ ⟨⟩) h_57 ⟨⟩ ⟨⟩) h_55 ⟨⟩ ⟨⟩) h_54 ⟨⟩) h_52 ⟨⟩ ⟨⟩) h_50 ⟨⟩ ⟨⟩) h_49 ⟨⟩) h_48 ⟨⟩) h_47 ⟨⟩) h_46 ⟨⟩) ⟨⟩) h_44 ⟨⟩) h_43 ⟨⟩) h_42 ⟨⟩) h_41 ⟨⟩) ⟨⟩) h_39 ⟨⟩) h_38 ⟨⟩) h_37 ⟨⟩) h_36 ⟨⟩) ⟨⟩) h_34 ⟨⟩) h_33 ⟨⟩) h_32 ⟨⟩) h_31 ⟨⟩) h_30 ⟨⟩) h_29 ⟨⟩) h_28 ⟨⟩) h_14 ⟨⟩) ⟨⟩ ⟨⟩) h_13 ⟨⟩) h_7 ⟨⟩) ⟨⟩ ⟨⟩) h_6 ⟨⟩) h_5 ⟨⟩) h_4 ⟨⟩) ⟨⟩) ⟨⟩ ⟨⟩) h_1 ⟨⟩) h ⟨⟩

theorem n13_calls {bits0 l1 cut2 : Value} {R : Value → Heap → Prop} {h : Heap} (H : n13 bits0 l1 cut2 R h) : CallsH Try.prog 13 #[bits0, l1, cut2] h R ⟨⟩ :=
  callsH_of_eq Try.follow .l Try.func13 (by kernel_rfl) (by kernel_rfl) (by kernel_rfl) H

/-- palimpsest/palimpsestlaw11.TablesFind -/
def n14 (l0 r1 name2 : Value) (R : Value → Heap → Prop) (h : Heap) : Prop :=
  Hp Try.prog false (Builtin.len_ #[101] 3 #[l0]) (fun t16 h_1 => 
    Hp Try.prog false (binS .gtr 3 (.tmp 16) (.const (.int .i64 200)) t16 (.int .i64 200)) (fun t17 h_2 => 
      Join1 (fun k h_3 => guardP t17 false (k r1 h_3) (k undef h_3) ⟨⟩ ⟨⟩) (fun t19 h_4 => 
        Join1 (fun k_1 h_5 => guardP t17 false (Hp Try.prog false (Builtin.len_ #[111] 3 #[t19]) k_1 h_5 ⟨⟩) (k_1 undef h_5) ⟨⟩ ⟨⟩) (fun t20 h_6 => 
          Join1 (fun k_2 h_7 => guardP t17 false (Hp Try.prog false (binS .gtr 3 (.tmp 20) (.const (.int .i64 200)) t20 (.int .i64 200)) k_2 h_7 ⟨⟩) (k_2 undef h_7) ⟨⟩ ⟨⟩) (fun t21 h_8 => 
            Hp Try.prog false (pickS t17 (.bool true) t21) (fun t22 h_9 => 
              CondP t22 (
                CallsH Try.prog 57 #[] h_9 (fun t23 h_10 => 
                  R t23 h_10) ⟨⟩) (
                CallsH Try.prog 62 #[l0, name2] h_9 (fun t27 h_11 => 
                  Hp Try.prog false (Instr.extract t27 0) (fun t28 h_12 => 
                    Hp Try.prog false (Instr.extract t27 1) (fun t29 h_13 => 
                      CallsH Try.prog 63 #[r1, name2] h_13 (fun t33 h_14 => 
                        Hp Try.prog false (Instr.extract t33 0) (fun t34 h_15 => 
                          Hp Try.prog false (Instr.extract t33 1) (fun t35 h_16 => 
                            Hp Try.prog false (Builtin.len_ #[101] 3 #[l0]) (fun t37 h_17 => 
                              Hp Try.prog false (binS .sub 3 (.tmp 37) (.const (.int .i64 1)) t37 (.int .i64 1)) (fun t38 h_18 => 
                                LoopC 3 (fun (X : Value → Value → Value → Heap → Prop) => fun at11 yes12 n13 h_19 =>
                                  Hp Try.prog false (binS .geq 3 (.tmp 39) (.const (.int .i64 0)) n13 (.int .i64 0)) (fun t40 h_20 => 
                                    CondP t40 (
                                      JoinN 2 (fun (k_3 : Value → Value → Heap → Prop) h_21 =>
                                        JoinN 2 (fun (k_4 : Value → Value → Heap → Prop) h_22 =>
                                          Hp Try.prog false (Instr.indexAt 101 l0 n13) (fun t45 h_23 => 
                                            Hp Try.prog false (Instr.fieldAt 103 t45 0) (fun t46 h_24 => 
                                              Hp Try.prog false (Instr.loadAt 9 t46) (fun t47 h_25 => 
                                                Hp Try.prog false (binS .eql 9 (.tmp 47) (.tmp 48) t47 name2) (fun t49 h_26 => 
                                                  CondP t49 (
                                                    k_4 n13 (.bool true) h_26) (
                                                    k_4 at11 yes12 h_26) ⟨⟩ ⟨⟩) h_25 ⟨⟩) h_24 ⟨⟩) h_23 ⟨⟩) h_22 ⟨⟩)
                                          (fun at11_1 yes12_1 h_27 =>
                                          k_3 at11_1 yes12_1 h_27) h_21 ⟨⟩ ⟨⟩)
                                        (fun at11_2 yes12_2 h_28 =>
                                        Hp Try.prog false (binS .sub 3 (.tmp 41) (.const (.int .i64 1)) n13 (.int .i64 1)) (fun t42 h_29 => 
                                          X at11_2 yes12_2 t42 h_29) h_28 ⟨⟩) h_20 ⟨⟩ ⟨⟩) (
                                      Hp Try.prog false (binS .neq 3 (.tmp 51) (.tmp 52) t28 at11) (fun t53 h_30 => 
                                        Join1 (fun k_5 h_31 => guardP t53 false (k_5 t29 h_31) (k_5 undef h_31) ⟨⟩ ⟨⟩) (fun t55 h_32 => 
                                          Join1 (fun k_6 h_33 => guardP t53 false (k_6 yes12 h_33) (k_6 undef h_33) ⟨⟩ ⟨⟩) (fun t56 h_34 => 
                                            Join1 (fun k_7 h_35 => guardP t53 false (Hp Try.prog false (binS .neq 4 (.tmp 55) (.tmp 56) t55 t56) k_7 h_35 ⟨⟩) (k_7 undef h_35) ⟨⟩ ⟨⟩) (fun t57 h_36 => 
                                              Hp Try.prog false (pickS t53 (.bool true) t57) (fun t58 h_37 => 
                                                CondP t58 (
                                                  R (.bool false) h_37) (
                                                  Hp Try.prog false (Builtin.len_ #[111] 3 #[r1]) (fun t60 h_38 => 
                                                    Hp Try.prog false (binS .sub 3 (.tmp 60) (.const (.int .i64 1)) t60 (.int .i64 1)) (fun t61 h_39 => 
                                                      LoopC 3 (fun (X_1 : Value → Value → Value → Heap → Prop) => fun at11_3 yes12_3 n14 h_40 =>
                                                        Hp Try.prog false (binS .geq 3 (.tmp 62) (.const (.int .i64 0)) n14 (.int .i64 0)) (fun t63 h_41 => 
                                                          CondP t63 (
                                                            JoinN 2 (fun (k_8 : Value → Value → Heap → Prop) h_42 =>
                                                              JoinN 2 (fun (k_9 : Value → Value → Heap → Prop) h_43 =>
                                                                Hp Try.prog false (Instr.indexAt 111 r1 n14) (fun t68 h_44 => 
                                                                  Hp Try.prog false (Instr.fieldAt 116 t68 0) (fun t69 h_45 => 
                                                                    Hp Try.prog false (Instr.loadAt 9 t69) (fun t70 h_46 => 
                                                                      Hp Try.prog false (binS .eql 9 (.tmp 70) (.tmp 71) t70 name2) (fun t72 h_47 => 
                                                                        CondP t72 (
                                                                          k_9 n14 (.bool true) h_47) (
                                                                          k_9 at11_3 yes12_3 h_47) ⟨⟩ ⟨⟩) h_46 ⟨⟩) h_45 ⟨⟩) h_44 ⟨⟩) h_43 ⟨⟩)
                                                                (fun at11_4 yes12_4 h_48 =>
                                                                k_8 at11_4 yes12_4 h_48) h_42 ⟨⟩ ⟨⟩)
                                                              (fun at11_5 yes12_5 h_49 =>
                                                              Hp Try.prog false (binS .sub 3 (.tmp 64) (.const (.int .i64 1)) n14 (.int .i64 1)) (fun t65 h_50 => 
                                                                X_1 at11_5 yes12_5 t65 h_50) h_49 ⟨⟩) h_41 ⟨⟩ ⟨⟩) (
                                                            Hp Try.prog false (binS .eql 3 (.tmp 74) (.tmp 75) t34 at11_3) (fun t76 h_51 => 
                                                              Join1 (fun k_10 h_52 => guardP t76 true (k_10 t35 h_52) (k_10 undef h_52) ⟨⟩ ⟨⟩) (fun t78 h_53 => 
                                                                Join1 (fun k_11 h_54 => guardP t76 true (k_11 yes12_3 h_54) (k_11 undef h_54) ⟨⟩ ⟨⟩) (fun t79 h_55 => 
                                                                  Join1 (fun k_12 h_56 => guardP t76 true (Hp Try.prog false (binS .eql 4 (.tmp 78) (.tmp 79) t78 t79) k_12 h_56 ⟨⟩) (k_12 undef h_56) ⟨⟩ ⟨⟩) (fun t80 h_57 => 
                                                                    Hp Try.prog false (pickS t76 t80 (.bool false)) (fun t81 h_58 => 
                                                                      Join1 (fun k_13 h_59 => guardP t81 true (CallsH Try.prog 57 #[] h_59 k_13 ⟨⟩) (k_13 undef h_59) ⟨⟩ ⟨⟩) (fun t83 h_60 => 
                                                                        Hp Try.prog false (pickS t81 t83 (.bool false)) (fun t84 h_61 => 
                                                                          R t84 h_61) h_60 ⟨⟩) h_58 ⟨⟩ ⟨⟩) h_57 ⟨⟩) h_55 ⟨⟩ ⟨⟩) h_53 ⟨⟩ ⟨⟩) h_51 ⟨⟩ ⟨⟩) h_41 ⟨⟩) ⟨⟩ ⟨⟩) h_40 ⟨⟩) [(.int .i64 0), (.bool false), t61] h_39 ⟨⟩) h_38 ⟨⟩) h_37 ⟨⟩) ⟨⟩ ⟨⟩) h_36 ⟨⟩) h_34 ⟨⟩ ⟨⟩) h_32 ⟨⟩ ⟨⟩) h_30 ⟨⟩ ⟨⟩) h_20 ⟨⟩) ⟨⟩ ⟨⟩) h_19 ⟨⟩) [(.int .i64 0), (.bool false), t38] h_18 ⟨⟩) h_17 ⟨⟩) h_16 ⟨⟩) h_15 ⟨⟩) h_14 ⟨⟩) ⟨⟩) h_12 ⟨⟩) h_11 ⟨⟩) ⟨⟩) ⟨⟩ ⟨⟩) h_8 ⟨⟩) h_6 ⟨⟩ ⟨⟩) h_4 ⟨⟩ ⟨⟩) h_2 ⟨⟩ ⟨⟩) h_1 ⟨⟩) h ⟨⟩

theorem n14_calls {l0 r1 name2 : Value} {R : Value → Heap → Prop} {h : Heap} (H : n14 l0 r1 name2 R h) : CallsH Try.prog 14 #[l0, r1, name2] h R ⟨⟩ :=
  callsH_of_eq Try.follow (.n none .l (.n none .l (.n none .l (.n none .l (.n none .l (.n none (.n none .l (.n none (.n (some [12, 13, 14]) (.n none .l (.n (some [12, 13]) (.n (some [12, 13]) .l .l) .l)) .l) .l)) (.n none .l (.n none .l (.n none (.n none .l (.n none (.n (some [12, 13, 15]) (.n none .l (.n (some [12, 13]) (.n (some [12, 13]) .l .l) .l)) .l) .l)) .l))))))))) Try.func14 (by kernel_rfl) (by kernel_rfl) (by kernel_rfl) H

/-- palimpsest/palimpsestlaw11.known -/
def n57 (R : Value → Heap → Prop) (h : Heap) : Prop :=
  Hp Try.prog false (Instr.build 103 #[(0, (str [97])), (1, (.int .i64 1024)), (2, (.int .i64 1)), (3, (.int .i64 512))]) (fun t8 h_1 => 
    Hp Try.prog false (Instr.alloc 103 true undef) (fun x1 h_2 => 
      Hp Try.prog false (storeS 103 x1 t8) (fun _ h_3 => 
        Hp Try.prog false (Instr.loadAt 103 x1) (fun t10 h_4 => 
          Hp Try.prog false (Instr.buildSlice 101 1 #[(0, t10)]) (fun t11 h_5 => 
            CallsH Try.prog 58 #[(.int .i64 9), t11] h_5 (fun t12 h_6 => 
              Hp Try.prog false (Instr.extract t12 0) (fun t13 h_7 => 
                Hp Try.prog false (Instr.extract t12 1) (fun t14 h_8 => 
                  CallsH Try.prog 61 #[(.int .i64 9), t13, (.int .i64 1)] h_8 (fun t17 h_9 => 
                    Hp Try.prog false (Instr.extract t17 0) (fun t18 h_10 => 
                      Hp Try.prog false (Instr.extract t17 1) (fun t19 h_11 => 
                        CallsH Try.prog 61 #[(.int .i64 9), t13, (.int .i64 2)] h_11 (fun t22 h_12 => 
                          Hp Try.prog false (Instr.extract t22 0) (fun t23 h_13 => 
                            Hp Try.prog false (Instr.extract t22 1) (fun t24 h_14 => 
                              Hp Try.prog true (binS .eql 27 (.tmp 25) (.const (.int .i64 0)) t14 (.int .i64 0)) (fun t26 _ => 
                                Join1 (fun k h_15 => guardP t26 true (k t13 h_15) (k undef h_15) ⟨⟩ ⟨⟩) (fun t28 _ => 
                                  Join1 (fun k_1 h_16 => guardP t26 true (Hp Try.prog true (Builtin.len_ #[39] 3 #[t28]) k_1 h_16 ⟨⟩) (k_1 undef h_16) ⟨⟩ ⟨⟩) (fun t29 _ => 
                                    Join1 (fun k_2 h_17 => guardP t26 true (Hp Try.prog true (binS .eql 3 (.tmp 29) (.const (.int .i64 22)) t29 (.int .i64 22)) k_2 h_17 ⟨⟩) (k_2 undef h_17) ⟨⟩ ⟨⟩) (fun t30 _ => 
                                      Hp Try.prog true (pickS t26 t30 (.bool false)) (fun t31 _ => 
                                        Join1 (fun k_3 h_18 => guardP t31 true (k_3 t13 h_18) (k_3 undef h_18) ⟨⟩ ⟨⟩) (fun t33 _ => 
                                          Join1 (fun k_4 h_19 => guardP t31 true (Hp Try.prog true (Instr.indexAt 39 t33 (.int .i64 0)) k_4 h_19 ⟨⟩) (k_4 undef h_19) ⟨⟩ ⟨⟩) (fun t34 _ => 
                                            Join1 (fun k_5 h_20 => guardP t31 true (Hp Try.prog true (Instr.loadAt 5 t34) k_5 h_20 ⟨⟩) (k_5 undef h_20) ⟨⟩ ⟨⟩) (fun t35 _ => 
                                              Join1 (fun k_6 h_21 => guardP t31 true (Hp Try.prog true (binS .eql 5 (.tmp 35) (.const (.int .u8 1)) t35 (.int .u8 1)) k_6 h_21 ⟨⟩) (k_6 undef h_21) ⟨⟩ ⟨⟩) (fun t36 _ => 
                                                Hp Try.prog true (pickS t31 t36 (.bool false)) (fun t37 _ => 
                                                  Join1 (fun k_7 h_22 => guardP t37 true (k_7 t13 h_22) (k_7 undef h_22) ⟨⟩ ⟨⟩) (fun t39 _ => 
                                                    Join1 (fun k_8 h_23 => guardP t37 true (Hp Try.prog true (Instr.indexAt 39 t39 (.int .i64 1)) k_8 h_23 ⟨⟩) (k_8 undef h_23) ⟨⟩ ⟨⟩) (fun t40 _ => 
                                                      Join1 (fun k_9 h_24 => guardP t37 true (Hp Try.prog true (Instr.loadAt 5 t40) k_9 h_24 ⟨⟩) (k_9 undef h_24) ⟨⟩ ⟨⟩) (fun t41 _ => 
                                                        Join1 (fun k_10 h_25 => guardP t37 true (Hp Try.prog true (binS .eql 5 (.tmp 41) (.const (.int .u8 97)) t41 (.int .u8 97)) k_10 h_25 ⟨⟩) (k_10 undef h_25) ⟨⟩ ⟨⟩) (fun t42 _ => 
                                                          Hp Try.prog true (pickS t37 t42 (.bool false)) (fun t43 _ => 
                                                            Join1 (fun k_11 h_26 => guardP t43 true (k_11 t19 h_26) (k_11 undef h_26) ⟨⟩ ⟨⟩) (fun t45 _ => 
                                                              Join1 (fun k_12 h_27 => guardP t43 true (Hp Try.prog true (binS .eql 27 (.tmp 45) (.const (.int .i64 0)) t45 (.int .i64 0)) k_12 h_27 ⟨⟩) (k_12 undef h_27) ⟨⟩ ⟨⟩) (fun t46 _ => 
                                                                Hp Try.prog true (pickS t43 t46 (.bool false)) (fun t47 _ => 
                                                                  Join1 (fun k_13 h_28 => guardP t47 true (k_13 t18 h_28) (k_13 undef h_28) ⟨⟩ ⟨⟩) (fun t49 _ => 
                                                                    Join1 (fun k_14 h_29 => guardP t47 true (Hp Try.prog true (Builtin.len_ #[101] 3 #[t49]) k_14 h_29 ⟨⟩) (k_14 undef h_29) ⟨⟩ ⟨⟩) (fun t50 _ => 
                                                                      Join1 (fun k_15 h_30 => guardP t47 true (Hp Try.prog true (binS .eql 3 (.tmp 50) (.const (.int .i64 1)) t50 (.int .i64 1)) k_15 h_30 ⟨⟩) (k_15 undef h_30) ⟨⟩ ⟨⟩) (fun t51 _ => 
                                                                        Hp Try.prog true (pickS t47 t51 (.bool false)) (fun t52 _ => 
                                                                          Join1 (fun k_16 h_31 => guardP t52 true (k_16 t18 h_31) (k_16 undef h_31) ⟨⟩ ⟨⟩) (fun t54 _ => 
                                                                            Join1 (fun k_17 h_32 => guardP t52 true (Hp Try.prog true (Instr.indexAt 101 t54 (.int .i64 0)) k_17 h_32 ⟨⟩) (k_17 undef h_32) ⟨⟩ ⟨⟩) (fun t55 _ => 
                                                                              Join1 (fun k_18 h_33 => guardP t52 true (Hp Try.prog true (Instr.loadAt 103 t55) k_18 h_33 ⟨⟩) (k_18 undef h_33) ⟨⟩ ⟨⟩) (fun t56 _ => 
                                                                                Join1 (fun k_19 h_34 => guardP t52 true (Hp Try.prog true (Instr.loadAt 103 x1) k_19 h_34 ⟨⟩) (k_19 undef h_34) ⟨⟩ ⟨⟩) (fun t57 _ => 
                                                                                  Join1 (fun k_20 h_35 => guardP t52 true (Hp Try.prog true (binS .eql 103 (.tmp 56) (.tmp 57) t56 t57) k_20 h_35 ⟨⟩) (k_20 undef h_35) ⟨⟩ ⟨⟩) (fun t58 _ => 
                                                                                    Hp Try.prog true (pickS t52 t58 (.bool false)) (fun t59 _ => 
                                                                                      Join1 (fun k_21 h_36 => guardP t59 true (k_21 t24 h_36) (k_21 undef h_36) ⟨⟩ ⟨⟩) (fun t61 _ => 
                                                                                        Join1 (fun k_22 h_37 => guardP t59 true (Hp Try.prog true (binS .eql 27 (.tmp 61) (.const (.int .i64 210)) t61 (.int .i64 210)) k_22 h_37 ⟨⟩) (k_22 undef h_37) ⟨⟩ ⟨⟩) (fun t62 _ => 
                                                                                          Hp Try.prog true (pickS t59 t62 (.bool false)) (fun t63 _ => 
                                                                                            R t63 h_14) #[] ⟨⟩) #[] ⟨⟩ ⟨⟩) #[] ⟨⟩ ⟨⟩) #[] ⟨⟩) #[] ⟨⟩ ⟨⟩) h_14 ⟨⟩ ⟨⟩) h_14 ⟨⟩ ⟨⟩) #[] ⟨⟩ ⟨⟩) #[] ⟨⟩ ⟨⟩) #[] ⟨⟩) #[] ⟨⟩ ⟨⟩) #[] ⟨⟩ ⟨⟩) #[] ⟨⟩ ⟨⟩) #[] ⟨⟩) #[] ⟨⟩ ⟨⟩) #[] ⟨⟩ ⟨⟩) #[] ⟨⟩) #[] ⟨⟩ ⟨⟩) h_14 ⟨⟩ ⟨⟩) #[] ⟨⟩ ⟨⟩) #[] ⟨⟩ ⟨⟩) #[] ⟨⟩) #[] ⟨⟩ ⟨⟩) h_14 ⟨⟩ ⟨⟩) #[] ⟨⟩ ⟨⟩) #[] ⟨⟩ ⟨⟩) #[] ⟨⟩) #[] ⟨⟩ ⟨⟩) #[] ⟨⟩ ⟨⟩) #[] ⟨⟩ ⟨⟩) #[] ⟨⟩) h_13 ⟨⟩) h_12 ⟨⟩) ⟨⟩) h_10 ⟨⟩) h_9 ⟨⟩) ⟨⟩) h_7 ⟨⟩) h_6 ⟨⟩) ⟨⟩) h_4 ⟨⟩) h_3 ⟨⟩) h_2 ⟨⟩) h_1 ⟨⟩) h ⟨⟩

theorem n57_calls {R : Value → Heap → Prop} {h : Heap} (H : n57  R h) : CallsH Try.prog 57 #[] h R ⟨⟩ :=
  callsH_of_eq Try.follow .l Try.func57 (by kernel_rfl) (by kernel_rfl) (by kernel_rfl) H

/-- palimpsest/tables.Snaps -/
def n58 (bits0 l1 : Value) (R : Value → Heap → Prop) (h : Heap) : Prop :=
  CallsH Try.prog 80 #[bits0, (.int .i64 64), l1, (.func (.func 81) #[] #[]), (.func (.func 82) #[] #[]), (.func (.func 83) #[] #[])] h (fun t8 h_1 => 
    Hp Try.prog false (Instr.extract t8 0) (fun t9 h_2 => 
      Hp Try.prog false (Instr.extract t8 1) (fun t10 h_3 => 
        R (.tuple #[t9, t10]) h_3) h_2 ⟨⟩) h_1 ⟨⟩) ⟨⟩

theorem n58_calls {bits0 l1 : Value} {R : Value → Heap → Prop} {h : Heap} (H : n58 bits0 l1 R h) : CallsH Try.prog 58 #[bits0, l1] h R ⟨⟩ :=
  callsH_of_eq Try.follow .l Try.func58 (by kernel_rfl) (by kernel_rfl) (by kernel_rfl) H

/-- palimpsest/palimpsestref11.Snaps -/
def n59 (bits0 l1 : Value) (R : Value → Heap → Prop) (h : Heap) : Prop :=
  Hp Try.prog false (binS .lss 3 (.tmp 9) (.const (.int .i64 9)) bits0 (.int .i64 9)) (fun t10 h_1 => 
    Join1 (fun k h_2 => guardP t10 false (k bits0 h_2) (k undef h_2) ⟨⟩ ⟨⟩) (fun t12 h_3 => 
      Join1 (fun k_1 h_4 => guardP t10 false (Hp Try.prog false (binS .gtr 3 (.tmp 12) (.const (.int .i64 16)) t12 (.int .i64 16)) k_1 h_4 ⟨⟩) (k_1 undef h_4) ⟨⟩ ⟨⟩) (fun t13 h_5 => 
        Hp Try.prog false (pickS t10 (.bool true) t13) (fun t14 h_6 => 
          CondP t14 (
            R (.tuple #[(.slice none 0 0), (.int .i64 2)]) h_6) (
            LoopC 2 (fun (X : Value → Value → Heap → Prop) => fun out6 i7 h_7 =>
              Hp Try.prog false (Builtin.len_ #[101] 3 #[l1]) (fun t17 h_8 => 
                Hp Try.prog false (binS .lss 3 (.tmp 15) (.tmp 17) i7 t17) (fun t18 h_9 => 
                  CondP t18 (
                    Hp Try.prog false (Instr.indexAt 101 l1 i7) (fun t23 h_10 => 
                      Hp Try.prog false (Instr.loadAt 103 t23) (fun t24 h_11 => 
                        CallsH Try.prog 84 #[t24, bits0] h_11 (fun t26 h_12 => 
                          Hp Try.prog false (Op.unary .not t26) (fun t27 h_13 => 
                            CondP t27 (
                              R (.tuple #[(.slice none 0 0), (.int .i64 2)]) h_13) (
                              LoopC 1 (fun (X_1 : Value → Heap → Prop) => fun k8 h_14 =>
                                Hp Try.prog false (binS .lss 3 (.tmp 28) (.tmp 29) k8 i7) (fun t30 h_15 => 
                                  CondP t30 (
                                    Hp Try.prog true (Instr.indexAt 101 l1 k8) (fun t35 _ => 
                                      Hp Try.prog true (Instr.fieldAt 103 t35 0) (fun t36 _ => 
                                        Hp Try.prog true (Instr.loadAt 9 t36) (fun t37 _ => 
                                          Hp Try.prog true (Instr.indexAt 101 l1 i7) (fun t40 _ => 
                                            Hp Try.prog true (Instr.fieldAt 103 t40 0) (fun t41 _ => 
                                              Hp Try.prog true (Instr.loadAt 9 t41) (fun t42 _ => 
                                                Hp Try.prog true (binS .eql 9 (.tmp 37) (.tmp 42) t37 t42) (fun t43 _ => 
                                                  CondP t43 (
                                                    R (.tuple #[(.slice none 0 0), (.int .i64 2)]) h_15) (
                                                    Hp Try.prog false (binS .add 3 (.tmp 31) (.const (.int .i64 1)) k8 (.int .i64 1)) (fun t32 h_16 => 
                                                      X_1 t32 h_16) h_15 ⟨⟩) ⟨⟩ ⟨⟩) #[] ⟨⟩) h_15 ⟨⟩) #[] ⟨⟩) #[] ⟨⟩) h_15 ⟨⟩) #[] ⟨⟩) #[] ⟨⟩) (
                                    Hp Try.prog false (Instr.indexAt 101 l1 i7) (fun t47 h_17 => 
                                      Hp Try.prog false (Instr.fieldAt 103 t47 0) (fun t48 h_18 => 
                                        Hp Try.prog false (Instr.loadAt 9 t48) (fun t49 h_19 => 
                                          CallsH Try.prog 85 #[t49] h_19 (fun t50 h_20 => 
                                            Hp Try.prog false (Builtin.append_ #[39, 39] 39 #[out6, t50]) (fun t51 h_21 => 
                                              Hp Try.prog false (Instr.indexAt 101 l1 i7) (fun t55 h_22 => 
                                                Hp Try.prog false (Instr.fieldAt 103 t55 1) (fun t56 h_23 => 
                                                  Hp Try.prog false (Instr.loadAt 2 t56) (fun t57 h_24 => 
                                                    Hp Try.prog false (convert 2 25 t57) (fun t58 h_25 => 
                                                      CallsH Try.prog 69 #[t58, (.int .i64 8)] h_25 (fun t59 h_26 => 
                                                        Hp Try.prog false (Builtin.append_ #[39, 39] 39 #[t51, t59]) (fun t60 h_27 => 
                                                          Hp Try.prog false (Instr.indexAt 101 l1 i7) (fun t64 h_28 => 
                                                            Hp Try.prog false (Instr.fieldAt 103 t64 2) (fun t65 h_29 => 
                                                              Hp Try.prog false (Instr.loadAt 3 t65) (fun t66 h_30 => 
                                                                Hp Try.prog false (convert 3 25 t66) (fun t67 h_31 => 
                                                                  CallsH Try.prog 69 #[t67, (.int .i64 4)] h_31 (fun t68 h_32 => 
                                                                    Hp Try.prog false (Builtin.append_ #[39, 39] 39 #[t60, t68]) (fun t69 h_33 => 
                                                                      Hp Try.prog false (Instr.indexAt 101 l1 i7) (fun t73 h_34 => 
                                                                        Hp Try.prog false (Instr.fieldAt 103 t73 3) (fun t74 h_35 => 
                                                                          Hp Try.prog false (Instr.loadAt 2 t74) (fun t75 h_36 => 
                                                                            Hp Try.prog false (convert 2 25 t75) (fun t76 h_37 => 
                                                                              CallsH Try.prog 69 #[t76, (.int .i64 8)] h_37 (fun t77 h_38 => 
                                                                                Hp Try.prog false (Builtin.append_ #[39, 39] 39 #[t69, t77]) (fun t78 h_39 => 
                                                                                  Hp Try.prog false (binS .add 3 (.tmp 19) (.const (.int .i64 1)) i7 (.int .i64 1)) (fun t20 h_40 => 
                                                                                    X t78 t20 h_40) h_39 ⟨⟩) h_38 ⟨⟩) ⟨⟩) h_36 ⟨⟩) h_35 ⟨⟩) h_34 ⟨⟩) h_33 ⟨⟩) h_32 ⟨⟩) ⟨⟩) h_30 ⟨⟩) h_29 ⟨⟩) h_28 ⟨⟩) h_27 ⟨⟩) h_26 ⟨⟩) ⟨⟩) h_24 ⟨⟩) h_23 ⟨⟩) h_22 ⟨⟩) h_21 ⟨⟩) h_20 ⟨⟩) ⟨⟩) h_18 ⟨⟩) h_17 ⟨⟩) h_15 ⟨⟩) ⟨⟩ ⟨⟩) h_14 ⟨⟩) [(.int .i64 0)] h_13 ⟨⟩) ⟨⟩ ⟨⟩) h_12 ⟨⟩) ⟨⟩) h_10 ⟨⟩) h_9 ⟨⟩) (
                    Hp Try.prog false (Builtin.len_ #[101] 3 #[l1]) (fun t80 h_41 => 
                      Hp Try.prog false (binS .gtr 3 (.tmp 80) (.const (.int .i64 64)) t80 (.int .i64 64)) (fun t81 h_42 => 
                        CondP t81 (
                          R (.tuple #[(.slice none 0 0), (.int .i64 3)]) h_42) (
                          R (.tuple #[out6, (.int .i64 0)]) h_42) ⟨⟩ ⟨⟩) h_41 ⟨⟩) h_9 ⟨⟩) ⟨⟩ ⟨⟩) h_8 ⟨⟩) h_7 ⟨⟩) [(.slice none 0 0), (.int .i64 0)] h_6 ⟨⟩) ⟨⟩ ⟨⟩) h_5 ⟨⟩) h_3 ⟨⟩ ⟨⟩) h_1 ⟨⟩ ⟨⟩) h ⟨⟩

theorem n59_calls {bits0 l1 : Value} {R : Value → Heap → Prop} {h : Heap} (H : n59 bits0 l1 R h) : CallsH Try.prog 59 #[bits0, l1] h R ⟨⟩ :=
  callsH_of_eq Try.follow (.n none .l (.n none .l (.n none .l (.n none (.n none .l (.n none (.n (some [7, 8]) (.n none .l (.n none (.n none (.n none .l (.n none (.n none .l (.n none (.n (some [9]) .l .l) .l)) .l)) .l) .l)) .l) .l)) .l)))) Try.func59 (by kernel_rfl) (by kernel_rfl) (by kernel_rfl) H

/-- palimpsest/palimpsestlaw11.sameSnaps -/
def n60 (a0 b1 : Value) (R : Value → Heap → Prop) (h : Heap) : Prop :=
  Hp Try.prog false (Builtin.len_ #[101] 3 #[a0]) (fun t7 h_1 => 
    Hp Try.prog false (Builtin.len_ #[101] 3 #[b1]) (fun t9 h_2 => 
      Hp Try.prog false (binS .neq 3 (.tmp 7) (.tmp 9) t7 t9) (fun t10 h_3 => 
        CondP t10 (
          R (.bool false) h_3) (
          LoopC 1 (fun (X : Value → Heap → Prop) => fun i5 h_4 =>
            Hp Try.prog false (Builtin.len_ #[101] 3 #[a0]) (fun t13 h_5 => 
              Hp Try.prog false (binS .lss 3 (.tmp 11) (.tmp 13) i5 t13) (fun t14 h_6 => 
                CondP t14 (
                  Hp Try.prog true (Instr.indexAt 101 a0 i5) (fun t19 _ => 
                    Hp Try.prog true (Instr.loadAt 103 t19) (fun t20 _ => 
                      Hp Try.prog true (Instr.indexAt 101 b1 i5) (fun t23 _ => 
                        Hp Try.prog true (Instr.loadAt 103 t23) (fun t24 _ => 
                          Hp Try.prog true (binS .neq 103 (.tmp 20) (.tmp 24) t20 t24) (fun t25 _ => 
                            CondP t25 (
                              R (.bool false) h_6) (
                              Hp Try.prog false (binS .add 3 (.tmp 15) (.const (.int .i64 1)) i5 (.int .i64 1)) (fun t16 h_7 => 
                                X t16 h_7) h_6 ⟨⟩) ⟨⟩ ⟨⟩) #[] ⟨⟩) h_6 ⟨⟩) #[] ⟨⟩) h_6 ⟨⟩) #[] ⟨⟩) (
                  R (.bool true) h_6) ⟨⟩ ⟨⟩) h_5 ⟨⟩) h_4 ⟨⟩) [(.int .i64 0)] h_3 ⟨⟩) ⟨⟩ ⟨⟩) h_2 ⟨⟩) h_1 ⟨⟩) h ⟨⟩

theorem n60_calls {a0 b1 : Value} {R : Value → Heap → Prop} {h : Heap} (H : n60 a0 b1 R h) : CallsH Try.prog 60 #[a0, b1] h R ⟨⟩ :=
  callsH_of_eq Try.follow (.n none .l (.n none .l (.n none (.n none .l (.n none (.n (some [6]) .l .l) .l)) .l))) Try.func60 (by kernel_rfl) (by kernel_rfl) (by kernel_rfl) H

/-- palimpsest/tables.ReadSnaps -/
def n61 (bits0 b1 n2 : Value) (R : Value → Heap → Prop) (h : Heap) : Prop :=
  Hp Try.prog false (Instr.box 3 bits0) (fun bits3 h_1 => 
    Hp Try.prog false (Instr.loadAt 3 bits3) (fun t8 h_2 => 
      Hp Try.prog false (pure (.func (.func 88) #[] #[bits3])) (fun t11 h_3 => 
        CallsH Try.prog 86 #[t8, n2, b1, (.func (.func 87) #[] #[]), t11] h_3 (fun t12 h_4 => 
          Hp Try.prog false (Instr.extract t12 0) (fun t13 h_5 => 
            Hp Try.prog false (Instr.extract t12 1) (fun t14 h_6 => 
              R (.tuple #[t13, t14]) h_6) h_5 ⟨⟩) h_4 ⟨⟩) ⟨⟩) h_2 ⟨⟩) h_1 ⟨⟩) h ⟨⟩

theorem n61_calls {bits0 b1 n2 : Value} {R : Value → Heap → Prop} {h : Heap} (H : n61 bits0 b1 n2 R h) : CallsH Try.prog 61 #[bits0, b1, n2] h R ⟨⟩ :=
  callsH_of_eq Try.follow .l Try.func61 (by kernel_rfl) (by kernel_rfl) (by kernel_rfl) H

/-- palimpsest/tables.FindSnap -/
def n62 (l0 name1 : Value) (R : Value → Heap → Prop) (h : Heap) : Prop :=
  Hp Try.prog false (Instr.box 9 name1) (fun name3 h_1 => 
    Hp Try.prog false (pure (.func (.func 90) #[] #[name3])) (fun t8 h_2 => 
      CallsH Try.prog 89 #[l0, t8] h_2 (fun t9 h_3 => 
        Hp Try.prog false (Builtin.max_ #[3, 3] 3 #[(.int .i64 0), t9]) (fun t11 h_4 => 
          Hp Try.prog false (binS .geq 3 (.tmp 12) (.const (.int .i64 0)) t9 (.int .i64 0)) (fun t13 h_5 => 
            R (.tuple #[t11, t13]) h_5) h_4 ⟨⟩) h_3 ⟨⟩) ⟨⟩) h_1 ⟨⟩) h ⟨⟩

theorem n62_calls {l0 name1 : Value} {R : Value → Heap → Prop} {h : Heap} (H : n62 l0 name1 R h) : CallsH Try.prog 62 #[l0, name1] h R ⟨⟩ :=
  callsH_of_eq Try.follow .l Try.func62 (by kernel_rfl) (by kernel_rfl) (by kernel_rfl) H

/-- palimpsest/tables.FindRow -/
def n63 (l0 name1 : Value) (R : Value → Heap → Prop) (h : Heap) : Prop :=
  Hp Try.prog false (Instr.box 9 name1) (fun name3 h_1 => 
    Hp Try.prog false (pure (.func (.func 92) #[] #[name3])) (fun t8 h_2 => 
      CallsH Try.prog 91 #[l0, t8] h_2 (fun t9 h_3 => 
        Hp Try.prog false (Builtin.max_ #[3, 3] 3 #[(.int .i64 0), t9]) (fun t11 h_4 => 
          Hp Try.prog false (binS .geq 3 (.tmp 12) (.const (.int .i64 0)) t9 (.int .i64 0)) (fun t13 h_5 => 
            R (.tuple #[t11, t13]) h_5) h_4 ⟨⟩) h_3 ⟨⟩) ⟨⟩) h_1 ⟨⟩) h ⟨⟩

theorem n63_calls {l0 name1 : Value} {R : Value → Heap → Prop} {h : Heap} (H : n63 l0 name1 R h) : CallsH Try.prog 63 #[l0, name1] h R ⟨⟩ :=
  callsH_of_eq Try.follow .l Try.func63 (by kernel_rfl) (by kernel_rfl) (by kernel_rfl) H

/-- palimpsest/tables.put[palimpsest/api.Snap] -/
def n80 (bits0 most1 l2 name3 may4 bytes5 : Value) (R : Value → Heap → Prop) (h : Heap) : Prop :=
  Hp Try.prog false (binS .lss 3 (.tmp 20) (.const (.int .i64 9)) bits0 (.int .i64 9)) (fun t21 h_1 => 
    Join1 (fun k h_2 => guardP t21 false (k bits0 h_2) (k undef h_2) ⟨⟩ ⟨⟩) (fun t23 h_3 => 
      Join1 (fun k_1 h_4 => guardP t21 false (Hp Try.prog false (binS .gtr 3 (.tmp 23) (.const (.int .i64 16)) t23 (.int .i64 16)) k_1 h_4 ⟨⟩) (k_1 undef h_4) ⟨⟩ ⟨⟩) (fun t24 h_5 => 
        Hp Try.prog false (pickS t21 (.bool true) t24) (fun t25 h_6 => 
          CondP t25 (
            R (.tuple #[(.slice none 0 0), (.int .i64 2)]) h_6) (
            Hp Try.prog false (Instr.makeMap 144 none) (fun t26 h_7 => 
              Hp Try.prog false (Builtin.len_ #[101] 3 #[l2]) (fun t28 h_8 => 
                LoopC 1 (fun (X : Value → Heap → Prop) => fun t29 h_9 =>
                  Hp Try.prog false (binS .lss 3 (.tmp 29) (.tmp 28) t29 t28) (fun t30 h_10 => 
                    CondP t30 (
                      Hp Try.prog false (Instr.indexAt 101 l2 t29) (fun t31 h_11 => 
                        Hp Try.prog false (Instr.loadAt 103 t31) (fun t32 h_12 => 
                          Hp Try.prog false (Instr.alloc 103 true undef) (fun x17 h_13 => 
                            Hp Try.prog false (storeS 103 x17 t32) (fun _ h_14 => 
                              Hp Try.prog false (Instr.loadAt 103 x17) (fun t35 h_15 => 
                                InvokeH Try.prog name3 #[t35] h_15 (fun t36 h_16 => 
                                  Hp Try.prog false (Instr.lookup 144 t26 t36 false) (fun t37 h_17 => 
                                    Hp Try.prog false (binS .add 3 (.tmp 37) (.const (.int .i64 1)) t37 (.int .i64 1)) (fun t38 h_18 => 
                                      Hp Try.prog false (unitS (Instr.mapUpdate 144 t26 t36 t38)) (fun _ h_19 => 
                                        Hp Try.prog false (Instr.loadAt 103 x17) (fun t40 h_20 => 
                                          InvokeH Try.prog may4 #[t40, bits0] h_20 (fun t42 h_21 => 
                                            Hp Try.prog false (Op.unary .not t42) (fun t43 h_22 => 
                                              Join1 (fun k_2 h_23 => guardP t43 false (k_2 t26 h_23) (k_2 undef h_23) ⟨⟩ ⟨⟩) (fun t45 h_24 => 
                                                Join1 (fun k_3 h_25 => guardP t43 false (k_3 name3 h_25) (k_3 undef h_25) ⟨⟩ ⟨⟩) (fun t46 h_26 => 
                                                  Join1 (fun k_4 h_27 => guardP t43 false (Hp Try.prog false (Instr.loadAt 103 x17) k_4 h_27 ⟨⟩) (k_4 undef h_27) ⟨⟩ ⟨⟩) (fun t47 h_28 => 
                                                    Join1 (fun k_5 h_29 => guardP t43 false (InvokeH Try.prog t46 #[t47] h_29 k_5 ⟨⟩) (k_5 undef h_29) ⟨⟩ ⟨⟩) (fun t48 h_30 => 
                                                      Join1 (fun k_6 h_31 => guardP t43 false (Hp Try.prog false (Instr.lookup 144 t45 t48 false) k_6 h_31 ⟨⟩) (k_6 undef h_31) ⟨⟩ ⟨⟩) (fun t49 h_32 => 
                                                        Join1 (fun k_7 h_33 => guardP t43 false (Hp Try.prog false (binS .gtr 3 (.tmp 49) (.const (.int .i64 1)) t49 (.int .i64 1)) k_7 h_33 ⟨⟩) (k_7 undef h_33) ⟨⟩ ⟨⟩) (fun t50 h_34 => 
                                                          Hp Try.prog false (pickS t43 (.bool true) t50) (fun t51 h_35 => 
                                                            CondP t51 (
                                                              R (.tuple #[(.slice none 0 0), (.int .i64 2)]) h_35) (
                                                              Hp Try.prog false (binS .add 3 (.tmp 29) (.const (.int .i64 1)) t29 (.int .i64 1)) (fun t52 h_36 => 
                                                                X t52 h_36) h_35 ⟨⟩) ⟨⟩ ⟨⟩) h_34 ⟨⟩) h_32 ⟨⟩ ⟨⟩) h_30 ⟨⟩ ⟨⟩) h_28 ⟨⟩ ⟨⟩) h_26 ⟨⟩ ⟨⟩) h_24 ⟨⟩ ⟨⟩) h_22 ⟨⟩ ⟨⟩) h_21 ⟨⟩) ⟨⟩) h_19 ⟨⟩) h_18 ⟨⟩) h_17 ⟨⟩) h_16 ⟨⟩) ⟨⟩) h_14 ⟨⟩) h_13 ⟨⟩) h_12 ⟨⟩) h_11 ⟨⟩) h_10 ⟨⟩) (
                      Hp Try.prog false (Builtin.len_ #[101] 3 #[l2]) (fun t54 h_37 => 
                        Hp Try.prog false (binS .gtr 3 (.tmp 54) (.tmp 55) t54 most1) (fun t56 h_38 => 
                          CondP t56 (
                            R (.tuple #[(.slice none 0 0), (.int .i64 3)]) h_38) (
                            Hp Try.prog false (Builtin.len_ #[101] 3 #[l2]) (fun t58 h_39 => 
                              LoopC 2 (fun (X_1 : Value → Value → Heap → Prop) => fun out15 t59 h_40 =>
                                Hp Try.prog false (binS .lss 3 (.tmp 59) (.tmp 58) t59 t58) (fun t60 h_41 => 
                                  CondP t60 (
                                    Hp Try.prog false (Instr.indexAt 101 l2 t59) (fun t61 h_42 => 
                                      Hp Try.prog false (Instr.loadAt 103 t61) (fun t62 h_43 => 
                                        Hp Try.prog false (Instr.alloc 103 true undef) (fun x19 h_44 => 
                                          Hp Try.prog false (storeS 103 x19 t62) (fun _ h_45 => 
                                            Hp Try.prog false (Instr.loadAt 103 x19) (fun t65 h_46 => 
                                              InvokeH Try.prog bytes5 #[t65] h_46 (fun t66 h_47 => 
                                                Hp Try.prog false (Builtin.append_ #[39, 39] 39 #[out15, t66]) (fun t67 h_48 => 
                                                  Hp Try.prog false (binS .add 3 (.tmp 59) (.const (.int .i64 1)) t59 (.int .i64 1)) (fun t68 h_49 => 
                                                    X_1 t67 t68 h_49) h_48 ⟨⟩) h_47 ⟨⟩) ⟨⟩) h_45 ⟨⟩) h_44 ⟨⟩) h_43 ⟨⟩) h_42 ⟨⟩) h_41 ⟨⟩) (
                                    R (.tuple #[out15, (.int .i64 0)]) h_41) ⟨⟩ ⟨⟩) h_40 ⟨⟩) [(.slice none 0 0), (.int .i64 0)] h_39 ⟨⟩) h_38 ⟨⟩) ⟨⟩ ⟨⟩) h_37 ⟨⟩) h_10 ⟨⟩) ⟨⟩ ⟨⟩) h_9 ⟨⟩) [(.int .i64 0)] h_8 ⟨⟩) h_7 ⟨⟩) h_6 ⟨⟩) ⟨⟩ ⟨⟩) h_5 ⟨⟩) h_3 ⟨⟩ ⟨⟩) h_1 ⟨⟩ ⟨⟩) h ⟨⟩

theorem n80_calls {bits0 most1 l2 name3 may4 bytes5 : Value} {R : Value → Heap → Prop} {h : Heap} (H : n80 bits0 most1 l2 name3 may4 bytes5 R h) : CallsH Try.prog 80 #[bits0, most1, l2, name3, may4, bytes5] h R ⟨⟩ :=
  callsH_of_eq Try.follow (.n none .l (.n none .l (.n none .l (.n none .l (.n none (.n none .l (.n none (.n (some [30]) .l .l) .l)) (.n none .l (.n none (.n none .l (.n none (.n (some [16, 60]) .l .l) .l)) .l))))))) Try.func80 (by kernel_rfl) (by kernel_rfl) (by kernel_rfl) H

/-- palimpsest/tables.Snaps$1 -/
def n81 (x0 : Value) (R : Value → Heap → Prop) (h : Heap) : Prop :=
  Hp Try.prog false (Instr.box 103 x0) (fun x1 h_1 => 
    Hp Try.prog false (Instr.fieldAt 103 x1 0) (fun t3 h_2 => 
      Hp Try.prog false (Instr.loadAt 9 t3) (fun t4 h_3 => 
        R t4 h_3) h_2 ⟨⟩) h_1 ⟨⟩) h ⟨⟩

theorem n81_calls {x0 : Value} {R : Value → Heap → Prop} {h : Heap} (H : n81 x0 R h) : CallsH Try.prog 81 #[x0] h R ⟨⟩ :=
  callsH_of_eq Try.follow .l Try.func81 (by kernel_rfl) (by kernel_rfl) (by kernel_rfl) H

/-- palimpsest/tables.snap -/
def n82 (x0 bits1 : Value) (R : Value → Heap → Prop) (h : Heap) : Prop :=
  Hp Try.prog false (Instr.box 103 x0) (fun x2 h_1 => 
    Hp Try.prog false (Instr.fieldAt 103 x2 0) (fun t5 h_2 => 
      Hp Try.prog false (Instr.loadAt 9 t5) (fun t6 h_3 => 
        CallsH Try.prog 93 #[t6] h_3 (fun t7 h_4 => 
          Join1 (fun k h_5 => guardP t7 true (Hp Try.prog false (Instr.fieldAt 103 x2 3) k h_5 ⟨⟩) (k undef h_5) ⟨⟩ ⟨⟩) (fun t9 h_6 => 
            Join1 (fun k_1 h_7 => guardP t7 true (Hp Try.prog false (Instr.loadAt 2 t9) k_1 h_7 ⟨⟩) (k_1 undef h_7) ⟨⟩ ⟨⟩) (fun t10 h_8 => 
              Join1 (fun k_2 h_9 => guardP t7 true (Hp Try.prog false (binS .geq 2 (.tmp 10) (.const (.int .i64 0)) t10 (.int .i64 0)) k_2 h_9 ⟨⟩) (k_2 undef h_9) ⟨⟩ ⟨⟩) (fun t11 h_10 => 
                Hp Try.prog false (pickS t7 t11 (.bool false)) (fun t12 h_11 => 
                  Join1 (fun k_3 h_12 => guardP t12 true (Hp Try.prog false (Instr.fieldAt 103 x2 3) k_3 h_12 ⟨⟩) (k_3 undef h_12) ⟨⟩ ⟨⟩) (fun t14 h_13 => 
                    Join1 (fun k_4 h_14 => guardP t12 true (Hp Try.prog false (Instr.loadAt 2 t14) k_4 h_14 ⟨⟩) (k_4 undef h_14) ⟨⟩ ⟨⟩) (fun t15 h_15 => 
                      Join1 (fun k_5 h_16 => guardP t12 true (Hp Try.prog false (binS .leq 2 (.tmp 15) (.const (.int .i64 67108864)) t15 (.int .i64 67108864)) k_5 h_16 ⟨⟩) (k_5 undef h_16) ⟨⟩ ⟨⟩) (fun t16 h_17 => 
                        Hp Try.prog false (pickS t12 t16 (.bool false)) (fun t17 h_18 => 
                          Join1 (fun k_6 h_19 => guardP t17 true (Hp Try.prog false (Instr.fieldAt 103 x2 3) k_6 h_19 ⟨⟩) (k_6 undef h_19) ⟨⟩ ⟨⟩) (fun t19 h_20 => 
                            Join1 (fun k_7 h_21 => guardP t17 true (Hp Try.prog false (Instr.loadAt 2 t19) k_7 h_21 ⟨⟩) (k_7 undef h_21) ⟨⟩ ⟨⟩) (fun t20 h_22 => 
                              Join1 (fun k_8 h_23 => guardP t17 true (Hp Try.prog false (binS .rem 2 (.tmp 20) (.const (.int .i64 512)) t20 (.int .i64 512)) k_8 h_23 ⟨⟩) (k_8 undef h_23) ⟨⟩ ⟨⟩) (fun t21 h_24 => 
                                Join1 (fun k_9 h_25 => guardP t17 true (Hp Try.prog false (binS .eql 2 (.tmp 21) (.const (.int .i64 0)) t21 (.int .i64 0)) k_9 h_25 ⟨⟩) (k_9 undef h_25) ⟨⟩ ⟨⟩) (fun t22 h_26 => 
                                  Hp Try.prog false (pickS t17 t22 (.bool false)) (fun t23 h_27 => 
                                    Join1 (fun k_10 h_28 => guardP t23 true (Hp Try.prog false (Instr.fieldAt 103 x2 2) k_10 h_28 ⟨⟩) (k_10 undef h_28) ⟨⟩ ⟨⟩) (fun t25 h_29 => 
                                      Join1 (fun k_11 h_30 => guardP t23 true (Hp Try.prog false (Instr.loadAt 3 t25) k_11 h_30 ⟨⟩) (k_11 undef h_30) ⟨⟩ ⟨⟩) (fun t26 h_31 => 
                                        Join1 (fun k_12 h_32 => guardP t23 true (Hp Try.prog false (binS .geq 3 (.tmp 26) (.const (.int .i64 0)) t26 (.int .i64 0)) k_12 h_32 ⟨⟩) (k_12 undef h_32) ⟨⟩ ⟨⟩) (fun t27 h_33 => 
                                          Hp Try.prog false (pickS t23 t27 (.bool false)) (fun t28 h_34 => 
                                            Join1 (fun k_13 h_35 => guardP t28 true (Hp Try.prog false (Instr.fieldAt 103 x2 2) k_13 h_35 ⟨⟩) (k_13 undef h_35) ⟨⟩ ⟨⟩) (fun t30 h_36 => 
                                              Join1 (fun k_14 h_37 => guardP t28 true (Hp Try.prog false (Instr.loadAt 3 t30) k_14 h_37 ⟨⟩) (k_14 undef h_37) ⟨⟩ ⟨⟩) (fun t31 h_38 => 
                                                Join1 (fun k_15 h_39 => guardP t28 true (Hp Try.prog false (binS .leq 3 (.tmp 31) (.const (.int .i64 1048576)) t31 (.int .i64 1048576)) k_15 h_39 ⟨⟩) (k_15 undef h_39) ⟨⟩ ⟨⟩) (fun t32 h_40 => 
                                                  Hp Try.prog false (pickS t28 t32 (.bool false)) (fun t33 h_41 => 
                                                    Join1 (fun k_16 h_42 => guardP t33 true (Hp Try.prog false (Instr.fieldAt 103 x2 2) k_16 h_42 ⟨⟩) (k_16 undef h_42) ⟨⟩ ⟨⟩) (fun t35 h_43 => 
                                                      Join1 (fun k_17 h_44 => guardP t33 true (Hp Try.prog false (Instr.loadAt 3 t35) k_17 h_44 ⟨⟩) (k_17 undef h_44) ⟨⟩ ⟨⟩) (fun t36 h_45 => 
                                                        Join1 (fun k_18 h_46 => guardP t33 true (Hp Try.prog false (binS .eql 3 (.tmp 36) (.const (.int .i64 0)) t36 (.int .i64 0)) k_18 h_46 ⟨⟩) (k_18 undef h_46) ⟨⟩ ⟨⟩) (fun t37 h_47 => 
                                                          Join1 (fun k_19 h_48 => guardP t33 true (k_19 t37 h_48) (k_19 undef h_48) ⟨⟩ ⟨⟩) (fun t38 h_49 => 
                                                            Join1 (fun k_20 h_50 => guardP t38 true (Hp Try.prog false (Instr.fieldAt 103 x2 1) k_20 h_50 ⟨⟩) (k_20 undef h_50) ⟨⟩ ⟨⟩) (fun t39 h_51 => 
                                                              Join1 (fun k_21 h_52 => guardP t38 true (Hp Try.prog false (Instr.loadAt 2 t39) k_21 h_52 ⟨⟩) (k_21 undef h_52) ⟨⟩ ⟨⟩) (fun t40 h_53 => 
                                                                Join1 (fun k_22 h_54 => guardP t38 true (Hp Try.prog false (binS .eql 2 (.tmp 40) (.const (.int .i64 0)) t40 (.int .i64 0)) k_22 h_54 ⟨⟩) (k_22 undef h_54) ⟨⟩ ⟨⟩) (fun t41 h_55 => 
                                                                  Join1 (fun k_23 h_56 => guardP t33 true (Hp Try.prog false (pickS t38 t41 (.bool false)) k_23 h_56 ⟨⟩) (k_23 undef h_56) ⟨⟩ ⟨⟩) (fun t42 h_57 => 
                                                                    Join1 (fun k_24 h_58 => guardP t33 true (k_24 t42 h_58) (k_24 undef h_58) ⟨⟩ ⟨⟩) (fun t43 h_59 => 
                                                                      Join1 (fun k_25 h_60 => guardP t43 false (Hp Try.prog false (Instr.fieldAt 103 x2 2) k_25 h_60 ⟨⟩) (k_25 undef h_60) ⟨⟩ ⟨⟩) (fun t44 h_61 => 
                                                                        Join1 (fun k_26 h_62 => guardP t43 false (Hp Try.prog false (Instr.loadAt 3 t44) k_26 h_62 ⟨⟩) (k_26 undef h_62) ⟨⟩ ⟨⟩) (fun t45 h_63 => 
                                                                          Join1 (fun k_27 h_64 => guardP t43 false (Hp Try.prog false (binS .gtr 3 (.tmp 45) (.const (.int .i64 0)) t45 (.int .i64 0)) k_27 h_64 ⟨⟩) (k_27 undef h_64) ⟨⟩ ⟨⟩) (fun t46 h_65 => 
                                                                            Join1 (fun k_28 h_66 => guardP t43 false (k_28 t46 h_66) (k_28 undef h_66) ⟨⟩ ⟨⟩) (fun t47 h_67 => 
                                                                              Join1 (fun k_29 h_68 => guardP t47 true (Hp Try.prog false (Instr.fieldAt 103 x2 1) k_29 h_68 ⟨⟩) (k_29 undef h_68) ⟨⟩ ⟨⟩) (fun t48 h_69 => 
                                                                                Join1 (fun k_30 h_70 => guardP t47 true (Hp Try.prog false (Instr.loadAt 2 t48) k_30 h_70 ⟨⟩) (k_30 undef h_70) ⟨⟩ ⟨⟩) (fun t49 h_71 => 
                                                                                  Join1 (fun k_31 h_72 => guardP t47 true (k_31 bits1 h_72) (k_31 undef h_72) ⟨⟩ ⟨⟩) (fun t50 h_73 => 
                                                                                    Join1 (fun k_32 h_74 => guardP t47 true (CallsH Try.prog 94 #[t49, t50] h_74 k_32 ⟨⟩) (k_32 undef h_74) ⟨⟩ ⟨⟩) (fun t51 h_75 => 
                                                                                      Join1 (fun k_33 h_76 => guardP t43 false (Hp Try.prog false (pickS t47 t51 (.bool false)) k_33 h_76 ⟨⟩) (k_33 undef h_76) ⟨⟩ ⟨⟩) (fun t52 h_77 => 
                                                                                        Join1 (fun k_34 h_78 => guardP t33 true (Hp Try.prog false (pickS t43 (.bool true) t52) k_34 h_78 ⟨⟩) (k_34 undef h_78) ⟨⟩ ⟨⟩) (fun t53 h_79 => 
                                                                                          Hp Try.prog false (pickS t33 t53 (.bool false)) (fun t54 h_80 => 
                                                                                            R t54 h_80) h_79 ⟨⟩) h_77 ⟨⟩ ⟨⟩) h_75 ⟨⟩ ⟨⟩) h_73 ⟨⟩ ⟨⟩) h_71 ⟨⟩ ⟨⟩) h_69 ⟨⟩ ⟨⟩) h_67 ⟨⟩ ⟨⟩) h_65 ⟨⟩ ⟨⟩) h_63 ⟨⟩ ⟨⟩) h_61 ⟨⟩ ⟨⟩) h_59 ⟨⟩ ⟨⟩) h_57 ⟨⟩ ⟨⟩) h_55 ⟨⟩ ⟨⟩) h_53 ⟨⟩ ⟨⟩) h_51 ⟨⟩ ⟨⟩) h_49 ⟨⟩ ⟨⟩) h_47 ⟨⟩ ⟨⟩) h_45 ⟨⟩ ⟨⟩) h_43 ⟨⟩ ⟨⟩) h_41 ⟨⟩ ⟨⟩) h_40 ⟨⟩) h_38 ⟨⟩ ⟨⟩) h_36 ⟨⟩ ⟨⟩) h_34 ⟨⟩ ⟨⟩) h_33 ⟨⟩) h_31 ⟨⟩ ⟨⟩) h_29 ⟨⟩ ⟨⟩) h_27 ⟨⟩ ⟨⟩) h_26 ⟨⟩) h_24 ⟨⟩ ⟨⟩) h_22 ⟨⟩ ⟨⟩) h_20 ⟨⟩ ⟨⟩) h_18 ⟨⟩ ⟨⟩) h_17 ⟨⟩) h_15 ⟨⟩ ⟨⟩) h_13 ⟨⟩ ⟨⟩) h_11 ⟨⟩ ⟨⟩) h_10 ⟨⟩) h_8 ⟨⟩ ⟨⟩) h_6 ⟨⟩ ⟨⟩) h_4 ⟨⟩ ⟨⟩) ⟨⟩) h_2 ⟨⟩) h_1 ⟨⟩) h ⟨⟩

theorem n82_calls {x0 bits1 : Value} {R : Value → Heap → Prop} {h : Heap} (H : n82 x0 bits1 R h) : CallsH Try.prog 82 #[x0, bits1] h R ⟨⟩ :=
  callsH_of_eq Try.follow .l Try.func82 (by kernel_rfl) (by kernel_rfl) (by kernel_rfl) H

/-- palimpsest/tables.snapBytes -/
def n83 (x0 : Value) (R : Value → Heap → Prop) (h : Heap) : Prop :=
  Hp Try.prog false (Instr.box 103 x0) (fun x1 h_1 => 
    JoinN 1 (fun (k : Value → Heap → Prop) h_2 =>
      Hp Try.prog true (Instr.fieldAt 103 x1 0) (fun t3 _ => 
        Hp Try.prog true (Instr.loadAt 9 t3) (fun t4 _ => 
          Hp Try.prog true (Builtin.len_ #[9] 3 #[t4]) (fun t5 _ => 
            Hp Try.prog true (Instr.fieldAt 103 x1 0) (fun t7 _ => 
              Hp Try.prog true (Instr.loadAt 9 t7) (fun t8 _ => 
                Hp Try.prog true (Instr.fieldAt 103 x1 1) (fun t10 _ => 
                  Hp Try.prog true (Instr.loadAt 2 t10) (fun t11 _ => 
                    Hp Try.prog true (Instr.fieldAt 103 x1 2) (fun t13 _ => 
                      Hp Try.prog true (Instr.loadAt 3 t13) (fun t14 _ => 
                        Hp Try.prog true (Instr.fieldAt 103 x1 3) (fun t16 _ => 
                          Hp Try.prog true (Instr.loadAt 2 t16) (fun t17 _ => 
                            ((
                              CallsH Try.prog 95 #[t5, (.int .i64 1)] h_2 (fun t6 h_3 => Hp Try.prog true (Instr.loadAt 2 t16) (fun u _ => u = t17) h_3 ⟨⟩ ∧ Hp Try.prog true (Instr.loadAt 3 t13) (fun u _ => u = t14) h_3 ⟨⟩ ∧ Hp Try.prog true (Instr.loadAt 2 t10) (fun u _ => u = t11) h_3 ⟨⟩ ∧ Hp Try.prog true (Instr.loadAt 9 t7) (fun u _ => u = t8) h_3 ⟨⟩ ∧ 
                                ((
                                  Hp Try.prog false (convert 9 39 t8) (fun t9 h_4 => Hp Try.prog true (Instr.loadAt 2 t16) (fun u _ => u = t17) h_4 ⟨⟩ ∧ Hp Try.prog true (Instr.loadAt 3 t13) (fun u _ => u = t14) h_4 ⟨⟩ ∧ Hp Try.prog true (Instr.loadAt 2 t10) (fun u _ => u = t11) h_4 ⟨⟩ ∧ Hp Try.prog true (Instr.loadAt 9 t3) (fun u _ => u = t4) h_4 ⟨⟩ ∧ 
                                    CallsH Try.prog 95 #[t11, (.int .i64 8)] h_4 (fun t12 h_5 => Hp Try.prog true (Instr.loadAt 2 t16) (fun u _ => u = t17) h_5 ⟨⟩ ∧ Hp Try.prog true (Instr.loadAt 3 t13) (fun u _ => u = t14) h_5 ⟨⟩ ∧ Hp Try.prog true (Instr.loadAt 9 t7) (fun u _ => u = t8) h_5 ⟨⟩ ∧ 
                                      CallsH Try.prog 95 #[t14, (.int .i64 4)] h_5 (fun t15 h_6 => Hp Try.prog true (Instr.loadAt 2 t16) (fun u _ => u = t17) h_6 ⟨⟩ ∧ Hp Try.prog true (Instr.loadAt 9 t7) (fun u _ => u = t8) h_6 ⟨⟩ ∧ 
                                        CallsH Try.prog 95 #[t17, (.int .i64 8)] h_6 (fun t18 h_7 => Hp Try.prog true (Instr.loadAt 9 t7) (fun u _ => u = t8) h_7 ⟨⟩ ∧ 
                                          Hp Try.prog false (Instr.buildSlice 57 5 #[(0, t6), (1, t9), (2, t12), (3, t15), (4, t18)]) (fun t19 h_8 => 
                                            CallsH Try.prog 32 #[t19] h_8 (fun t20 h_9 => 
                                              k t20 h_9) ⟨⟩) h_7 ⟨⟩) ⟨⟩) ⟨⟩) ⟨⟩) h_3 ⟨⟩) ∧ (
                                  CallsH Try.prog 95 #[t11, (.int .i64 8)] h_3 (fun t12_1 h_10 => Hp Try.prog true (Instr.loadAt 2 t16) (fun u _ => u = t17) h_10 ⟨⟩ ∧ Hp Try.prog true (Instr.loadAt 3 t13) (fun u _ => u = t14) h_10 ⟨⟩ ∧ Hp Try.prog true (Instr.loadAt 9 t7) (fun u _ => u = t8) h_10 ⟨⟩ ∧ 
                                    ((
                                      Hp Try.prog false (convert 9 39 t8) (fun t9_1 h_11 => Hp Try.prog true (Instr.loadAt 2 t16) (fun u _ => u = t17) h_11 ⟨⟩ ∧ Hp Try.prog true (Instr.loadAt 3 t13) (fun u _ => u = t14) h_11 ⟨⟩ ∧ Hp Try.prog true (Instr.loadAt 2 t10) (fun u _ => u = t11) h_11 ⟨⟩ ∧ Hp Try.prog true (Instr.loadAt 9 t3) (fun u _ => u = t4) h_11 ⟨⟩ ∧ 
                                        CallsH Try.prog 95 #[t14, (.int .i64 4)] h_11 (fun t15_1 h_12 => Hp Try.prog true (Instr.loadAt 2 t16) (fun u _ => u = t17) h_12 ⟨⟩ ∧ Hp Try.prog true (Instr.loadAt 9 t7) (fun u _ => u = t8) h_12 ⟨⟩ ∧ 
                                          CallsH Try.prog 95 #[t17, (.int .i64 8)] h_12 (fun t18_1 h_13 => Hp Try.prog true (Instr.loadAt 9 t7) (fun u _ => u = t8) h_13 ⟨⟩ ∧ 
                                            Hp Try.prog false (Instr.buildSlice 57 5 #[(0, t6), (1, t9_1), (2, t12_1), (3, t15_1), (4, t18_1)]) (fun t19_1 h_14 => 
                                              CallsH Try.prog 32 #[t19_1] h_14 (fun t20_1 h_15 => 
                                                k t20_1 h_15) ⟨⟩) h_13 ⟨⟩) ⟨⟩) ⟨⟩) h_10 ⟨⟩) ∧ (
                                      CallsH Try.prog 95 #[t14, (.int .i64 4)] h_10 (fun t15_2 h_16 => Hp Try.prog true (Instr.loadAt 2 t16) (fun u _ => u = t17) h_16 ⟨⟩ ∧ Hp Try.prog true (Instr.loadAt 9 t7) (fun u _ => u = t8) h_16 ⟨⟩ ∧ 
                                        ((
                                          Hp Try.prog false (convert 9 39 t8) (fun t9_2 h_17 => Hp Try.prog true (Instr.loadAt 2 t16) (fun u _ => u = t17) h_17 ⟨⟩ ∧ Hp Try.prog true (Instr.loadAt 3 t13) (fun u _ => u = t14) h_17 ⟨⟩ ∧ Hp Try.prog true (Instr.loadAt 2 t10) (fun u _ => u = t11) h_17 ⟨⟩ ∧ Hp Try.prog true (Instr.loadAt 9 t3) (fun u _ => u = t4) h_17 ⟨⟩ ∧ 
                                            CallsH Try.prog 95 #[t17, (.int .i64 8)] h_17 (fun t18_2 h_18 => Hp Try.prog true (Instr.loadAt 9 t7) (fun u _ => u = t8) h_18 ⟨⟩ ∧ 
                                              Hp Try.prog false (Instr.buildSlice 57 5 #[(0, t6), (1, t9_2), (2, t12_1), (3, t15_2), (4, t18_2)]) (fun t19_2 h_19 => 
                                                CallsH Try.prog 32 #[t19_2] h_19 (fun t20_2 h_20 => 
                                                  k t20_2 h_20) ⟨⟩) h_18 ⟨⟩) ⟨⟩) h_16 ⟨⟩) ∧ (
                                          CallsH Try.prog 95 #[t17, (.int .i64 8)] h_16 (fun t18_3 h_21 => Hp Try.prog true (Instr.loadAt 9 t7) (fun u _ => u = t8) h_21 ⟨⟩ ∧ 
                                            Hp Try.prog false (convert 9 39 t8) (fun t9_3 h_22 => Hp Try.prog true (Instr.loadAt 2 t16) (fun u _ => u = t17) h_22 ⟨⟩ ∧ Hp Try.prog true (Instr.loadAt 3 t13) (fun u _ => u = t14) h_22 ⟨⟩ ∧ Hp Try.prog true (Instr.loadAt 2 t10) (fun u _ => u = t11) h_22 ⟨⟩ ∧ Hp Try.prog true (Instr.loadAt 9 t3) (fun u _ => u = t4) h_22 ⟨⟩ ∧ 
                                              Hp Try.prog false (Instr.buildSlice 57 5 #[(0, t6), (1, t9_3), (2, t12_1), (3, t15_2), (4, t18_3)]) (fun t19_3 h_23 => 
                                                CallsH Try.prog 32 #[t19_3] h_23 (fun t20_3 h_24 => 
                                                  k t20_3 h_24) ⟨⟩) h_22 ⟨⟩) h_21 ⟨⟩) ⟨⟩))) ⟨⟩))) ⟨⟩))) ⟨⟩) ∧ (
                              Hp Try.prog false (convert 9 39 t8) (fun t9_4 h_25 => Hp Try.prog true (Instr.loadAt 2 t16) (fun u _ => u = t17) h_25 ⟨⟩ ∧ Hp Try.prog true (Instr.loadAt 3 t13) (fun u _ => u = t14) h_25 ⟨⟩ ∧ Hp Try.prog true (Instr.loadAt 2 t10) (fun u _ => u = t11) h_25 ⟨⟩ ∧ Hp Try.prog true (Instr.loadAt 9 t3) (fun u _ => u = t4) h_25 ⟨⟩ ∧ 
                                CallsH Try.prog 95 #[t5, (.int .i64 1)] h_25 (fun t6_1 h_26 => Hp Try.prog true (Instr.loadAt 2 t16) (fun u _ => u = t17) h_26 ⟨⟩ ∧ Hp Try.prog true (Instr.loadAt 3 t13) (fun u _ => u = t14) h_26 ⟨⟩ ∧ Hp Try.prog true (Instr.loadAt 2 t10) (fun u _ => u = t11) h_26 ⟨⟩ ∧ Hp Try.prog true (Instr.loadAt 9 t7) (fun u _ => u = t8) h_26 ⟨⟩ ∧ 
                                  CallsH Try.prog 95 #[t11, (.int .i64 8)] h_26 (fun t12_2 h_27 => Hp Try.prog true (Instr.loadAt 2 t16) (fun u _ => u = t17) h_27 ⟨⟩ ∧ Hp Try.prog true (Instr.loadAt 3 t13) (fun u _ => u = t14) h_27 ⟨⟩ ∧ Hp Try.prog true (Instr.loadAt 9 t7) (fun u _ => u = t8) h_27 ⟨⟩ ∧ 
                                    CallsH Try.prog 95 #[t14, (.int .i64 4)] h_27 (fun t15_3 h_28 => Hp Try.prog true (Instr.loadAt 2 t16) (fun u _ => u = t17) h_28 ⟨⟩ ∧ Hp Try.prog true (Instr.loadAt 9 t7) (fun u _ => u = t8) h_28 ⟨⟩ ∧ 
                                      CallsH Try.prog 95 #[t17, (.int .i64 8)] h_28 (fun t18_4 h_29 => Hp Try.prog true (Instr.loadAt 9 t7) (fun u _ => u = t8) h_29 ⟨⟩ ∧ 
                                        Hp Try.prog false (Instr.buildSlice 57 5 #[(0, t6_1), (1, t9_4), (2, t12_2), (3, t15_3), (4, t18_4)]) (fun t19_4 h_30 => 
                                          CallsH Try.prog 32 #[t19_4] h_30 (fun t20_4 h_31 => 
                                            k t20_4 h_31) ⟨⟩) h_29 ⟨⟩) ⟨⟩) ⟨⟩) ⟨⟩) ⟨⟩) h_2 ⟨⟩))) h_2 ⟨⟩) #[] ⟨⟩) h_2 ⟨⟩) #[] ⟨⟩) h_2 ⟨⟩) #[] ⟨⟩) h_2 ⟨⟩) #[] ⟨⟩) #[] ⟨⟩) h_2 ⟨⟩) #[] ⟨⟩)
      (fun t2 h_32 =>
      R t2 h_32) h_1 ⟨⟩ ⟨⟩) h ⟨⟩

theorem n83_calls {x0 : Value} {R : Value → Heap → Prop} {h : Heap} (H : n83 x0 R h) : CallsH Try.prog 83 #[x0] h R ⟨⟩ :=
  callsH_of_eq Try.follow (.n none .l (.n (some [3]) .l .l)) Try.func83 (by kernel_rfl) (by kernel_rfl) (by kernel_rfl) H

/-- palimpsest/palimpsestref11.MaySnap -/
def n84 (x0 bits1 : Value) (R : Value → Heap → Prop) (h : Heap) : Prop :=
  Hp Try.prog false (Instr.box 103 x0) (fun x2 h_1 => 
    Hp Try.prog false (Instr.fieldAt 103 x2 2) (fun t6 h_2 => 
      Hp Try.prog false (Instr.loadAt 3 t6) (fun t7 h_3 => 
        Hp Try.prog false (binS .eql 3 (.tmp 7) (.const (.int .i64 0)) t7 (.int .i64 0)) (fun t8 h_4 => 
          Join1 (fun k h_5 => guardP t8 true (Hp Try.prog false (Instr.fieldAt 103 x2 1) k h_5 ⟨⟩) (k undef h_5) ⟨⟩ ⟨⟩) (fun t10 h_6 => 
            Join1 (fun k_1 h_7 => guardP t8 true (Hp Try.prog false (Instr.loadAt 2 t10) k_1 h_7 ⟨⟩) (k_1 undef h_7) ⟨⟩ ⟨⟩) (fun t11 h_8 => 
              Join1 (fun k_2 h_9 => guardP t8 true (Hp Try.prog false (binS .eql 2 (.tmp 11) (.const (.int .i64 0)) t11 (.int .i64 0)) k_2 h_9 ⟨⟩) (k_2 undef h_9) ⟨⟩ ⟨⟩) (fun t12 h_10 => 
                Hp Try.prog false (pickS t8 t12 (.bool false)) (fun t13 h_11 => 
                  Join1 (fun k_3 h_12 => guardP t13 false (Hp Try.prog false (Instr.fieldAt 103 x2 2) k_3 h_12 ⟨⟩) (k_3 undef h_12) ⟨⟩ ⟨⟩) (fun t15 h_13 => 
                    Join1 (fun k_4 h_14 => guardP t13 false (Hp Try.prog false (Instr.loadAt 3 t15) k_4 h_14 ⟨⟩) (k_4 undef h_14) ⟨⟩ ⟨⟩) (fun t16 h_15 => 
                      Join1 (fun k_5 h_16 => guardP t13 false (Hp Try.prog false (binS .gtr 3 (.tmp 16) (.const (.int .i64 0)) t16 (.int .i64 0)) k_5 h_16 ⟨⟩) (k_5 undef h_16) ⟨⟩ ⟨⟩) (fun t17 h_17 => 
                        Join1 (fun k_6 h_18 => guardP t13 false (k_6 t17 h_18) (k_6 undef h_18) ⟨⟩ ⟨⟩) (fun t18 h_19 => 
                          Join1 (fun k_7 h_20 => guardP t18 true (Hp Try.prog false (Instr.fieldAt 103 x2 1) k_7 h_20 ⟨⟩) (k_7 undef h_20) ⟨⟩ ⟨⟩) (fun t19 h_21 => 
                            Join1 (fun k_8 h_22 => guardP t18 true (Hp Try.prog false (Instr.loadAt 2 t19) k_8 h_22 ⟨⟩) (k_8 undef h_22) ⟨⟩ ⟨⟩) (fun t20 h_23 => 
                              Join1 (fun k_9 h_24 => guardP t18 true (k_9 bits1 h_24) (k_9 undef h_24) ⟨⟩ ⟨⟩) (fun t21 h_25 => 
                                Join1 (fun k_10 h_26 => guardP t18 true (CallsH Try.prog 65 #[t20, t21] h_26 k_10 ⟨⟩) (k_10 undef h_26) ⟨⟩ ⟨⟩) (fun t22 h_27 => 
                                  Join1 (fun k_11 h_28 => guardP t13 false (Hp Try.prog false (pickS t18 t22 (.bool false)) k_11 h_28 ⟨⟩) (k_11 undef h_28) ⟨⟩ ⟨⟩) (fun t23 h_29 => 
                                    Hp Try.prog false (pickS t13 (.bool true) t23) (fun t24 h_30 => 
                                      Hp Try.prog false (Instr.fieldAt 103 x2 0) (fun t25 h_31 => 
                                        Hp Try.prog false (Instr.loadAt 9 t25) (fun t26 h_32 => 
                                          CallsH Try.prog 96 #[t26] h_32 (fun t27 h_33 => 
                                            Join1 (fun k_12 h_34 => guardP t27 true (k_12 t24 h_34) (k_12 undef h_34) ⟨⟩ ⟨⟩) (fun t29 h_35 => 
                                              Hp Try.prog false (pickS t27 t29 (.bool false)) (fun t30 h_36 => 
                                                Join1 (fun k_13 h_37 => guardP t30 true (Hp Try.prog false (Instr.fieldAt 103 x2 2) k_13 h_37 ⟨⟩) (k_13 undef h_37) ⟨⟩ ⟨⟩) (fun t32 h_38 => 
                                                  Join1 (fun k_14 h_39 => guardP t30 true (Hp Try.prog false (Instr.loadAt 3 t32) k_14 h_39 ⟨⟩) (k_14 undef h_39) ⟨⟩ ⟨⟩) (fun t33 h_40 => 
                                                    Join1 (fun k_15 h_41 => guardP t30 true (Hp Try.prog false (binS .geq 3 (.tmp 33) (.const (.int .i64 0)) t33 (.int .i64 0)) k_15 h_41 ⟨⟩) (k_15 undef h_41) ⟨⟩ ⟨⟩) (fun t34 h_42 => 
                                                      Hp Try.prog false (pickS t30 t34 (.bool false)) (fun t35 h_43 => 
                                                        Join1 (fun k_16 h_44 => guardP t35 true (Hp Try.prog false (Instr.fieldAt 103 x2 2) k_16 h_44 ⟨⟩) (k_16 undef h_44) ⟨⟩ ⟨⟩) (fun t37 h_45 => 
                                                          Join1 (fun k_17 h_46 => guardP t35 true (Hp Try.prog false (Instr.loadAt 3 t37) k_17 h_46 ⟨⟩) (k_17 undef h_46) ⟨⟩ ⟨⟩) (fun t38 h_47 => 
                                                            Join1 (fun k_18 h_48 => guardP t35 true (Hp Try.prog false (binS .leq 3 (.tmp 38) (.const (.int .i64 1048576)) t38 (.int .i64 1048576)) k_18 h_48 ⟨⟩) (k_18 undef h_48) ⟨⟩ ⟨⟩) (fun t39 h_49 => 
                                                              Hp Try.prog false (pickS t35 t39 (.bool false)) (fun t40 h_50 => 
                                                                Join1 (fun k_19 h_51 => guardP t40 true (Hp Try.prog false (Instr.fieldAt 103 x2 3) k_19 h_51 ⟨⟩) (k_19 undef h_51) ⟨⟩ ⟨⟩) (fun t42 h_52 => 
                                                                  Join1 (fun k_20 h_53 => guardP t40 true (Hp Try.prog false (Instr.loadAt 2 t42) k_20 h_53 ⟨⟩) (k_20 undef h_53) ⟨⟩ ⟨⟩) (fun t43 h_54 => 
                                                                    Join1 (fun k_21 h_55 => guardP t40 true (Hp Try.prog false (binS .geq 2 (.tmp 43) (.const (.int .i64 0)) t43 (.int .i64 0)) k_21 h_55 ⟨⟩) (k_21 undef h_55) ⟨⟩ ⟨⟩) (fun t44 h_56 => 
                                                                      Hp Try.prog false (pickS t40 t44 (.bool false)) (fun t45 h_57 => 
                                                                        Join1 (fun k_22 h_58 => guardP t45 true (Hp Try.prog false (Instr.fieldAt 103 x2 3) k_22 h_58 ⟨⟩) (k_22 undef h_58) ⟨⟩ ⟨⟩) (fun t47 h_59 => 
                                                                          Join1 (fun k_23 h_60 => guardP t45 true (Hp Try.prog false (Instr.loadAt 2 t47) k_23 h_60 ⟨⟩) (k_23 undef h_60) ⟨⟩ ⟨⟩) (fun t48 h_61 => 
                                                                            Join1 (fun k_24 h_62 => guardP t45 true (Hp Try.prog false (binS .leq 2 (.tmp 48) (.const (.int .i64 67108864)) t48 (.int .i64 67108864)) k_24 h_62 ⟨⟩) (k_24 undef h_62) ⟨⟩ ⟨⟩) (fun t49 h_63 => 
                                                                              Hp Try.prog false (pickS t45 t49 (.bool false)) (fun t50 h_64 => 
                                                                                Join1 (fun k_25 h_65 => guardP t50 true (Hp Try.prog false (Instr.fieldAt 103 x2 3) k_25 h_65 ⟨⟩) (k_25 undef h_65) ⟨⟩ ⟨⟩) (fun t52 h_66 => 
                                                                                  Join1 (fun k_26 h_67 => guardP t50 true (Hp Try.prog false (Instr.loadAt 2 t52) k_26 h_67 ⟨⟩) (k_26 undef h_67) ⟨⟩ ⟨⟩) (fun t53 h_68 => 
                                                                                    Join1 (fun k_27 h_69 => guardP t50 true (Hp Try.prog false (binS .rem 2 (.tmp 53) (.const (.int .i64 512)) t53 (.int .i64 512)) k_27 h_69 ⟨⟩) (k_27 undef h_69) ⟨⟩ ⟨⟩) (fun t54 h_70 => 
                                                                                      Join1 (fun k_28 h_71 => guardP t50 true (Hp Try.prog false (binS .eql 2 (.tmp 54) (.const (.int .i64 0)) t54 (.int .i64 0)) k_28 h_71 ⟨⟩) (k_28 undef h_71) ⟨⟩ ⟨⟩) (fun t55 h_72 => 
                                                                                        Hp Try.prog false (pickS t50 t55 (.bool false)) (fun t56 h_73 => 
                                                                                          R t56 h_73) h_72 ⟨⟩) h_70 ⟨⟩ ⟨⟩) h_68 ⟨⟩ ⟨⟩) h_66 ⟨⟩ ⟨⟩) h_64 ⟨⟩ ⟨⟩) h_63 ⟨⟩) h_61 ⟨⟩ ⟨⟩) h_59 ⟨⟩ ⟨⟩) h_57 ⟨⟩ ⟨⟩) h_56 ⟨⟩) h_54 ⟨⟩ ⟨⟩) h_52 ⟨⟩ ⟨⟩) h_50 ⟨⟩ ⟨⟩) h_49 ⟨⟩) h_47 ⟨⟩ ⟨⟩) h_45 ⟨⟩ ⟨⟩) h_43 ⟨⟩ ⟨⟩) h_42 ⟨⟩) h_40 ⟨⟩ ⟨⟩) h_38 ⟨⟩ ⟨⟩) h_36 ⟨⟩ ⟨⟩) h_35 ⟨⟩) h_33 ⟨⟩ ⟨⟩) ⟨⟩) h_31 ⟨⟩) h_30 ⟨⟩) h_29 ⟨⟩) h_27 ⟨⟩ ⟨⟩) h_25 ⟨⟩ ⟨⟩) h_23 ⟨⟩ ⟨⟩) h_21 ⟨⟩ ⟨⟩) h_19 ⟨⟩ ⟨⟩) h_17 ⟨⟩ ⟨⟩) h_15 ⟨⟩ ⟨⟩) h_13 ⟨⟩ ⟨⟩) h_11 ⟨⟩ ⟨⟩) h_10 ⟨⟩) h_8 ⟨⟩ ⟨⟩) h_6 ⟨⟩ ⟨⟩) h_4 ⟨⟩ ⟨⟩) h_3 ⟨⟩) h_2 ⟨⟩) h_1 ⟨⟩) h ⟨⟩

theorem n84_calls {x0 bits1 : Value} {R : Value → Heap → Prop} {h : Heap} (H : n84 x0 bits1 R h) : CallsH Try.prog 84 #[x0, bits1] h R ⟨⟩ :=
  callsH_of_eq Try.follow .l Try.func84 (by kernel_rfl) (by kernel_rfl) (by kernel_rfl) H

/-- palimpsest/palimpsestref11.named -/
def n85 (s0 : Value) (R : Value → Heap → Prop) (h : Heap) : Prop :=
  Hp Try.prog false (Builtin.len_ #[9] 3 #[s0]) (fun t4 h_1 => 
    Hp Try.prog false (convert 3 5 t4) (fun t5 h_2 => 
      Hp Try.prog false (Instr.buildSlice 39 1 #[(0, t5)]) (fun t6 h_3 => 
        Hp Try.prog false (Builtin.append_ #[39, 9] 39 #[t6, s0]) (fun t8 h_4 => 
          R t8 h_4) h_3 ⟨⟩) h_2 ⟨⟩) h_1 ⟨⟩) h ⟨⟩

theorem n85_calls {s0 : Value} {R : Value → Heap → Prop} {h : Heap} (H : n85 s0 R h) : CallsH Try.prog 85 #[s0] h R ⟨⟩ :=
  callsH_of_eq Try.follow .l Try.func85 (by kernel_rfl) (by kernel_rfl) (by kernel_rfl) H

/-- palimpsest/tables.read[palimpsest/api.Snap] -/
def n86 (bits0 n1 b2 one3 all4 : Value) (R : Value → Heap → Prop) (h : Heap) : Prop :=
  Hp Try.prog false (binS .lss 3 (.tmp 16) (.const (.int .i64 9)) bits0 (.int .i64 9)) (fun t17 h_1 => 
    Join1 (fun k h_2 => guardP t17 false (k bits0 h_2) (k undef h_2) ⟨⟩ ⟨⟩) (fun t19 h_3 => 
      Join1 (fun k_1 h_4 => guardP t17 false (Hp Try.prog false (binS .gtr 3 (.tmp 19) (.const (.int .i64 16)) t19 (.int .i64 16)) k_1 h_4 ⟨⟩) (k_1 undef h_4) ⟨⟩ ⟨⟩) (fun t20 h_5 => 
        Hp Try.prog false (pickS t17 (.bool true) t20) (fun t21 h_6 => 
          Join1 (fun k_2 h_7 => guardP t21 false (k_2 n1 h_7) (k_2 undef h_7) ⟨⟩ ⟨⟩) (fun t23 h_8 => 
            Join1 (fun k_3 h_9 => guardP t21 false (Hp Try.prog false (binS .lss 3 (.tmp 23) (.const (.int .i64 0)) t23 (.int .i64 0)) k_3 h_9 ⟨⟩) (k_3 undef h_9) ⟨⟩ ⟨⟩) (fun t24 h_10 => 
              Hp Try.prog false (pickS t21 (.bool true) t24) (fun t25 h_11 => 
                CondP t25 (
                  R (.tuple #[(.slice none 0 0), (.int .i64 2)]) h_11) (
                  Hp Try.prog false (Instr.build 149 #[(0, b2), (2, (.bool true))]) (fun t27 h_12 => 
                    Hp Try.prog false (Instr.box 149 t27) (fun t28 h_13 => 
                      JoinN 1 (fun (k_4 : Value → Heap → Prop) h_14 =>
                        JoinN 1 (fun (k_5 : Value → Heap → Prop) h_15 =>
                          LoopC 2 (fun (X : Value → Value → Heap → Prop) => fun out13 t30 h_16 =>
                            Hp Try.prog false (binS .lss 3 (.tmp 30) (.tmp 29) t30 n1) (fun t31 h_17 => 
                              CondP t31 (
                                InvokeH Try.prog one3 #[t28] h_17 (fun t35 h_18 => 
                                  Hp Try.prog false (Instr.buildSlice 101 1 #[(0, t35)]) (fun t36 h_19 => 
                                    Hp Try.prog false (Builtin.append_ #[101, 101] 101 #[out13, t36]) (fun t37 h_20 => 
                                      Hp Try.prog false (nilS t28) (fun t39 h_21 => 
                                        Hp Try.prog false (Instr.fieldAt 149 t39 2) (fun t40 h_22 => 
                                          Hp Try.prog false (Instr.loadAt 4 t40) (fun t41 h_23 => 
                                            Hp Try.prog false (Op.unary .not t41) (fun t42 h_24 => 
                                              CondP t42 (
                                                k_5 t37 h_24) (
                                                Hp Try.prog false (binS .add 3 (.tmp 30) (.const (.int .i64 1)) t30 (.int .i64 1)) (fun t43 h_25 => 
                                                  X t37 t43 h_25) h_24 ⟨⟩) ⟨⟩ ⟨⟩) h_23 ⟨⟩) h_22 ⟨⟩) h_21 ⟨⟩) h_20 ⟨⟩) h_19 ⟨⟩) h_18 ⟨⟩) ⟨⟩) (
                                k_5 out13 h_17) ⟨⟩ ⟨⟩) h_16 ⟨⟩) [(.slice none 0 0), (.int .i64 0)] h_15 ⟨⟩)
                          (fun out13_1 h_26 =>
                          k_4 out13_1 h_26) h_14 ⟨⟩ ⟨⟩)
                        (fun out13_2 h_27 =>
                        InvokeH Try.prog all4 #[out13_2] h_27 (fun t47 h_28 => 
                          Hp Try.prog false (Instr.extract t47 0) (fun t48 h_29 => 
                            Hp Try.prog false (Instr.extract t47 1) (fun t49 h_30 => 
                              Hp Try.prog false (nilS t28) (fun t51 h_31 => 
                                Hp Try.prog false (Instr.fieldAt 149 t51 2) (fun t52 h_32 => 
                                  Hp Try.prog false (Instr.loadAt 4 t52) (fun t53 h_33 => 
                                    Hp Try.prog false (Op.unary .not t53) (fun t54 h_34 => 
                                      Join1 (fun k_6 h_35 => guardP t54 false (k_6 t49 h_35) (k_6 undef h_35) ⟨⟩ ⟨⟩) (fun t56 h_36 => 
                                        Join1 (fun k_7 h_37 => guardP t54 false (Hp Try.prog false (binS .neq 27 (.tmp 56) (.const (.int .i64 0)) t56 (.int .i64 0)) k_7 h_37 ⟨⟩) (k_7 undef h_37) ⟨⟩ ⟨⟩) (fun t57 h_38 => 
                                          Hp Try.prog false (pickS t54 (.bool true) t57) (fun t58 h_39 => 
                                            Join1 (fun k_8 h_40 => guardP t58 false (k_8 t48 h_40) (k_8 undef h_40) ⟨⟩ ⟨⟩) (fun t60 h_41 => 
                                              Join1 (fun k_9 h_42 => guardP t58 false (k_9 b2 h_42) (k_9 undef h_42) ⟨⟩ ⟨⟩) (fun t61 h_43 => 
                                                Join1 (fun k_10 h_44 => guardP t58 false (CallsH Try.prog 97 #[t60, t61] h_44 k_10 ⟨⟩) (k_10 undef h_44) ⟨⟩ ⟨⟩) (fun t62 h_45 => 
                                                  Join1 (fun k_11 h_46 => guardP t58 false (Hp Try.prog false (Op.unary .not t62) k_11 h_46 ⟨⟩) (k_11 undef h_46) ⟨⟩ ⟨⟩) (fun t63 h_47 => 
                                                    Hp Try.prog false (pickS t58 (.bool true) t63) (fun t64 h_48 => 
                                                      CondP t64 (
                                                        R (.tuple #[(.slice none 0 0), (.int .i64 210)]) h_48) (
                                                        R (.tuple #[out13_2, (.int .i64 0)]) h_48) ⟨⟩ ⟨⟩) h_47 ⟨⟩) h_45 ⟨⟩ ⟨⟩) h_43 ⟨⟩ ⟨⟩) h_41 ⟨⟩ ⟨⟩) h_39 ⟨⟩ ⟨⟩) h_38 ⟨⟩) h_36 ⟨⟩ ⟨⟩) h_34 ⟨⟩ ⟨⟩) h_33 ⟨⟩) h_32 ⟨⟩) h_31 ⟨⟩) h_30 ⟨⟩) h_29 ⟨⟩) h_28 ⟨⟩) ⟨⟩) h_13 ⟨⟩ ⟨⟩) h_12 ⟨⟩) h_11 ⟨⟩) ⟨⟩ ⟨⟩) h_10 ⟨⟩) h_8 ⟨⟩ ⟨⟩) h_6 ⟨⟩ ⟨⟩) h_5 ⟨⟩) h_3 ⟨⟩ ⟨⟩) h_1 ⟨⟩ ⟨⟩) h ⟨⟩

theorem n86_calls {bits0 n1 b2 one3 all4 : Value} {R : Value → Heap → Prop} {h : Heap} (H : n86 bits0 n1 b2 one3 all4 R h) : CallsH Try.prog 86 #[bits0, n1, b2, one3, all4] h R ⟨⟩ :=
  callsH_of_eq Try.follow (.n none .l (.n none (.n none .l (.n none .l (.n none .l (.n none .l (.n (some [14]) (.n none .l (.n (some [14]) (.n (some [14, 31]) .l .l) .l)) .l))))) .l)) Try.func86 (by kernel_rfl) (by kernel_rfl) (by kernel_rfl) H

/-- palimpsest/tables.readSnap -/
def n87 (r0 : Value) (R : Value → Heap → Prop) (h : Heap) : Prop :=
  Hp Try.prog false (Instr.alloc 103 true undef) (fun t2 h_1 => 
    CallsH Try.prog 98 #[r0] h_1 (fun t5 h_2 => 
      Hp Try.prog false (Instr.build 103 #[(0, t5)]) (fun t6 h_3 => 
        Hp Try.prog false (Instr.alloc 103 true undef) (fun x3 h_4 => 
          Hp Try.prog false (storeS 103 x3 t6) (fun _ h_5 => 
            CallsH Try.prog 99 #[r0, (.int .i64 8)] h_5 (fun t8 h_6 => 
              CallsH Try.prog 99 #[r0, (.int .i64 4)] h_6 (fun t10 h_7 => 
                CallsH Try.prog 99 #[r0, (.int .i64 8)] h_7 (fun t12 h_8 => 
                  Hp Try.prog false (Instr.fieldAt 103 x3 1) (fun t13 h_9 => 
                    Hp Try.prog false (storeS 2 t13 t8) (fun _ h_10 => 
                      Hp Try.prog false (Instr.fieldAt 103 x3 2) (fun t14 h_11 => 
                        Hp Try.prog false (storeS 3 t14 t10) (fun _ h_12 => 
                          Hp Try.prog false (Instr.fieldAt 103 x3 3) (fun t15 h_13 => 
                            Hp Try.prog false (storeS 2 t15 t12) (fun _ h_14 => 
                              Hp Try.prog false (Instr.loadAt 103 x3) (fun t16 h_15 => 
                                Hp Try.prog false (storeS 103 t2 t16) (fun _ h_16 => 
                                  Hp Try.prog true (loadCell 103 t2) (fun r _ =>
                                    R r h_16) h_16 ⟨⟩) h_15 ⟨⟩) h_14 ⟨⟩) h_13 ⟨⟩) h_12 ⟨⟩) h_11 ⟨⟩) h_10 ⟨⟩) h_9 ⟨⟩) h_8 ⟨⟩) ⟨⟩) ⟨⟩) ⟨⟩) h_4 ⟨⟩) h_3 ⟨⟩) h_2 ⟨⟩) ⟨⟩) h ⟨⟩

theorem n87_calls {r0 : Value} {R : Value → Heap → Prop} {h : Heap} (H : n87 r0 R h) : CallsH Try.prog 87 #[r0] h R ⟨⟩ :=
  callsH_of_eq Try.follow .l Try.func87 (by kernel_rfl) (by kernel_rfl) (by kernel_rfl) H

/-- palimpsest/tables.ReadSnaps$1 -/
def n88 (l0 t1 : Value) (R : Value → Heap → Prop) (h : Heap) : Prop :=
  Hp Try.prog false (Instr.loadAt 3 t1) (fun t5 h_1 => 
    CallsH Try.prog 58 #[t5, l0] h_1 (fun t7 h_2 => 
      Hp Try.prog false (Instr.extract t7 0) (fun t8 h_3 => 
        Hp Try.prog false (Instr.extract t7 1) (fun t9 h_4 => 
          R (.tuple #[t8, t9]) h_4) h_3 ⟨⟩) h_2 ⟨⟩) ⟨⟩) h ⟨⟩

theorem n88_calls {l0 t1 : Value} {R : Value → Heap → Prop} {h : Heap} (H : n88 l0 t1 R h) : CallsH Try.prog 88 #[l0, t1] h R ⟨⟩ :=
  callsH_of_eq Try.follow .l Try.func88 (by kernel_rfl) (by kernel_rfl) (by kernel_rfl) H

/-- slices.IndexFunc[[]palimpsest/api.Snap,palimpsest/api.Snap] -/
def n89 (s0 f1 : Value) (R : Value → Heap → Prop) (h : Heap) : Prop :=
  Hp Try.prog false (Builtin.len_ #[101] 3 #[s0]) (fun t7 h_1 => 
    LoopC 1 (fun (X : Value → Heap → Prop) => fun t8 h_2 =>
      Hp Try.prog false (binS .lss 3 (.tmp 8) (.tmp 7) t8 t7) (fun t9 h_3 => 
        CondP t9 (
          Hp Try.prog false (Instr.indexAt 101 s0 t8) (fun t14 h_4 => 
            Hp Try.prog false (Instr.loadAt 103 t14) (fun t15 h_5 => 
              InvokeH Try.prog f1 #[t15] h_5 (fun t16 h_6 => 
                CondP t16 (
                  R t8 h_6) (
                  Hp Try.prog false (binS .add 3 (.tmp 8) (.const (.int .i64 1)) t8 (.int .i64 1)) (fun t18 h_7 => 
                    X t18 h_7) h_6 ⟨⟩) ⟨⟩ ⟨⟩) ⟨⟩) h_4 ⟨⟩) h_3 ⟨⟩) (
          R (.int .i64 (-1)) h_3) ⟨⟩ ⟨⟩) h_2 ⟨⟩) [(.int .i64 0)] h_1 ⟨⟩) h ⟨⟩

theorem n89_calls {s0 f1 : Value} {R : Value → Heap → Prop} {h : Heap} (H : n89 s0 f1 R h) : CallsH Try.prog 89 #[s0, f1] h R ⟨⟩ :=
  callsH_of_eq Try.follow (.n none .l (.n none (.n none .l (.n none (.n (some [9]) .l .l) .l)) .l)) Try.func89 (by kernel_rfl) (by kernel_rfl) (by kernel_rfl) H

/-- palimpsest/tables.FindSnap$1 -/
def n90 (x0 t1 : Value) (R : Value → Heap → Prop) (h : Heap) : Prop :=
  Hp Try.prog false (Instr.box 103 x0) (fun x2 h_1 => 
    Hp Try.prog false (Instr.fieldAt 103 x2 0) (fun t4 h_2 => 
      Hp Try.prog false (Instr.loadAt 9 t4) (fun t5 h_3 => 
        Hp Try.prog false (Instr.loadAt 9 t1) (fun t6 h_4 => 
          Hp Try.prog false (binS .eql 9 (.tmp 5) (.tmp 6) t5 t6) (fun t7 h_5 => 
            R t7 h_5) h_4 ⟨⟩) h_3 ⟨⟩) h_2 ⟨⟩) h_1 ⟨⟩) h ⟨⟩

theorem n90_calls {x0 t1 : Value} {R : Value → Heap → Prop} {h : Heap} (H : n90 x0 t1 R h) : CallsH Try.prog 90 #[x0, t1] h R ⟨⟩ :=
  callsH_of_eq Try.follow .l Try.func90 (by kernel_rfl) (by kernel_rfl) (by kernel_rfl) H

/-- slices.IndexFunc[[]palimpsest/api.Row,palimpsest/api.Row] -/
def n91 (s0 f1 : Value) (R : Value → Heap → Prop) (h : Heap) : Prop :=
  Hp Try.prog false (Builtin.len_ #[111] 3 #[s0]) (fun t7 h_1 => 
    LoopC 1 (fun (X : Value → Heap → Prop) => fun t8 h_2 =>
      Hp Try.prog false (binS .lss 3 (.tmp 8) (.tmp 7) t8 t7) (fun t9 h_3 => 
        CondP t9 (
          Hp Try.prog false (Instr.indexAt 111 s0 t8) (fun t14 h_4 => 
            Hp Try.prog false (Instr.loadAt 116 t14) (fun t15 h_5 => 
              InvokeH Try.prog f1 #[t15] h_5 (fun t16 h_6 => 
                CondP t16 (
                  R t8 h_6) (
                  Hp Try.prog false (binS .add 3 (.tmp 8) (.const (.int .i64 1)) t8 (.int .i64 1)) (fun t18 h_7 => 
                    X t18 h_7) h_6 ⟨⟩) ⟨⟩ ⟨⟩) ⟨⟩) h_4 ⟨⟩) h_3 ⟨⟩) (
          R (.int .i64 (-1)) h_3) ⟨⟩ ⟨⟩) h_2 ⟨⟩) [(.int .i64 0)] h_1 ⟨⟩) h ⟨⟩

theorem n91_calls {s0 f1 : Value} {R : Value → Heap → Prop} {h : Heap} (H : n91 s0 f1 R h) : CallsH Try.prog 91 #[s0, f1] h R ⟨⟩ :=
  callsH_of_eq Try.follow (.n none .l (.n none (.n none .l (.n none (.n (some [9]) .l .l) .l)) .l)) Try.func91 (by kernel_rfl) (by kernel_rfl) (by kernel_rfl) H

/-- palimpsest/tables.FindRow$1 -/
def n92 (x0 t1 : Value) (R : Value → Heap → Prop) (h : Heap) : Prop :=
  Hp Try.prog false (Instr.box 116 x0) (fun x2 h_1 => 
    Hp Try.prog false (Instr.fieldAt 116 x2 0) (fun t4 h_2 => 
      Hp Try.prog false (Instr.loadAt 9 t4) (fun t5 h_3 => 
        Hp Try.prog false (Instr.loadAt 9 t1) (fun t6 h_4 => 
          Hp Try.prog false (binS .eql 9 (.tmp 5) (.tmp 6) t5 t6) (fun t7 h_5 => 
            R t7 h_5) h_4 ⟨⟩) h_3 ⟨⟩) h_2 ⟨⟩) h_1 ⟨⟩) h ⟨⟩

theorem n92_calls {x0 t1 : Value} {R : Value → Heap → Prop} {h : Heap} (H : n92 x0 t1 R h) : CallsH Try.prog 92 #[x0, t1] h R ⟨⟩ :=
  callsH_of_eq Try.follow .l Try.func92 (by kernel_rfl) (by kernel_rfl) (by kernel_rfl) H

/-- palimpsest/tables.named -/
def n93 (s0 : Value) (R : Value → Heap → Prop) (h : Heap) : Prop :=
  Hp Try.prog false (Builtin.len_ #[9] 3 #[s0]) (fun t4 h_1 => 
    Hp Try.prog false (binS .geq 3 (.tmp 4) (.const (.int .i64 1)) t4 (.int .i64 1)) (fun t5 h_2 => 
      Join1 (fun k h_3 => guardP t5 true (k s0 h_3) (k undef h_3) ⟨⟩ ⟨⟩) (fun t7 h_4 => 
        Join1 (fun k_1 h_5 => guardP t5 true (Hp Try.prog false (Builtin.len_ #[9] 3 #[t7]) k_1 h_5 ⟨⟩) (k_1 undef h_5) ⟨⟩ ⟨⟩) (fun t8 h_6 => 
          Join1 (fun k_2 h_7 => guardP t5 true (Hp Try.prog false (binS .leq 3 (.tmp 8) (.const (.int .i64 64)) t8 (.int .i64 64)) k_2 h_7 ⟨⟩) (k_2 undef h_7) ⟨⟩ ⟨⟩) (fun t9 h_8 => 
            Hp Try.prog false (pickS t5 t9 (.bool false)) (fun t10 h_9 => 
              Join1 (fun k_3 h_10 => guardP t10 true (k_3 s0 h_10) (k_3 undef h_10) ⟨⟩ ⟨⟩) (fun t12 h_11 => 
                Join1 (fun k_4 h_12 => guardP t10 true (CallsH Try.prog 100 #[t12, (str [0])] h_12 k_4 ⟨⟩) (k_4 undef h_12) ⟨⟩ ⟨⟩) (fun t13 h_13 => 
                  Join1 (fun k_5 h_14 => guardP t10 true (Hp Try.prog false (Op.unary .not t13) k_5 h_14 ⟨⟩) (k_5 undef h_14) ⟨⟩ ⟨⟩) (fun t14 h_15 => 
                    Hp Try.prog false (pickS t10 t14 (.bool false)) (fun t15 h_16 => 
                      R t15 h_16) h_15 ⟨⟩) h_13 ⟨⟩ ⟨⟩) h_11 ⟨⟩ ⟨⟩) h_9 ⟨⟩ ⟨⟩) h_8 ⟨⟩) h_6 ⟨⟩ ⟨⟩) h_4 ⟨⟩ ⟨⟩) h_2 ⟨⟩ ⟨⟩) h_1 ⟨⟩) h ⟨⟩

theorem n93_calls {s0 : Value} {R : Value → Heap → Prop} {h : Heap} (H : n93 s0 R h) : CallsH Try.prog 93 #[s0] h R ⟨⟩ :=
  callsH_of_eq Try.follow .l Try.func93 (by kernel_rfl) (by kernel_rfl) (by kernel_rfl) H

/-- palimpsest/tables.place -/
def n94 (at0 bits1 : Value) (R : Value → Heap → Prop) (h : Heap) : Prop :=
  Hp Try.prog false (binS .gtr 2 (.tmp 5) (.const (.int .i64 0)) at0 (.int .i64 0)) (fun t6 h_1 => 
    Join1 (fun k h_2 => guardP t6 true (k at0 h_2) (k undef h_2) ⟨⟩ ⟨⟩) (fun t8 h_3 => 
      Join1 (fun k_1 h_4 => guardP t6 true (Hp Try.prog false (binS .leq 2 (.tmp 8) (.const (.int .i64 268435456)) t8 (.int .i64 268435456)) k_1 h_4 ⟨⟩) (k_1 undef h_4) ⟨⟩ ⟨⟩) (fun t9 h_5 => 
        Hp Try.prog false (pickS t6 t9 (.bool false)) (fun t10 h_6 => 
          Join1 (fun k_2 h_7 => guardP t10 true (k_2 at0 h_7) (k_2 undef h_7) ⟨⟩ ⟨⟩) (fun t12 h_8 => 
            Join1 (fun k_3 h_9 => guardP t10 true (k_3 bits1 h_9) (k_3 undef h_9) ⟨⟩ ⟨⟩) (fun t13 h_10 => 
              Join1 (fun k_4 h_11 => guardP t10 true (Hp Try.prog false (binS .shl 2 (.const (.int .i64 1)) (.tmp 13) (.int .i64 1) t13) k_4 h_11 ⟨⟩) (k_4 undef h_11) ⟨⟩ ⟨⟩) (fun t14 h_12 => 
                Join1 (fun k_5 h_13 => guardP t10 true (Hp Try.prog false (binS .rem 2 (.tmp 12) (.tmp 14) t12 t14) k_5 h_13 ⟨⟩) (k_5 undef h_13) ⟨⟩ ⟨⟩) (fun t15 h_14 => 
                  Join1 (fun k_6 h_15 => guardP t10 true (Hp Try.prog false (binS .eql 2 (.tmp 15) (.const (.int .i64 0)) t15 (.int .i64 0)) k_6 h_15 ⟨⟩) (k_6 undef h_15) ⟨⟩ ⟨⟩) (fun t16 h_16 => 
                    Hp Try.prog false (pickS t10 t16 (.bool false)) (fun t17 h_17 => 
                      R t17 h_17) h_16 ⟨⟩) h_14 ⟨⟩ ⟨⟩) h_12 ⟨⟩ ⟨⟩) h_10 ⟨⟩ ⟨⟩) h_8 ⟨⟩ ⟨⟩) h_6 ⟨⟩ ⟨⟩) h_5 ⟨⟩) h_3 ⟨⟩ ⟨⟩) h_1 ⟨⟩ ⟨⟩) h ⟨⟩

theorem n94_calls {at0 bits1 : Value} {R : Value → Heap → Prop} {h : Heap} (H : n94 at0 bits1 R h) : CallsH Try.prog 94 #[at0, bits1] h R ⟨⟩ :=
  callsH_of_eq Try.follow .l Try.func94 (by kernel_rfl) (by kernel_rfl) (by kernel_rfl) H

/-- palimpsest/tables.number -/
def n95 (x0 n1 : Value) (R : Value → Heap → Prop) (h : Heap) : Prop :=
  Hp Try.prog false (Instr.makeSlice 39 n1 n1) (fun t7 h_1 => 
    Hp Try.prog false (convert 2 25 x0) (fun t11 h_2 => 
      CallsH Try.prog 27 #[t7, (.int .i64 0), n1, t11] h_2 (fun t12 h_3 => 
        R t7 h_3) ⟨⟩) h_1 ⟨⟩) h ⟨⟩

theorem n95_calls {x0 n1 : Value} {R : Value → Heap → Prop} {h : Heap} (H : n95 x0 n1 R h) : CallsH Try.prog 95 #[x0, n1] h R ⟨⟩ :=
  callsH_of_eq Try.follow .l Try.func95 (by kernel_rfl) (by kernel_rfl) (by kernel_rfl) H

/-- palimpsest/palimpsestref11.Named -/
def n96 (s0 : Value) (R : Value → Heap → Prop) (h : Heap) : Prop :=
  LoopC 1 (fun (X : Value → Heap → Prop) => fun i3 h_1 =>
    Hp Try.prog false (Builtin.len_ #[9] 3 #[s0]) (fun t6 h_2 => 
      Hp Try.prog false (binS .lss 3 (.tmp 4) (.tmp 6) i3 t6) (fun t7 h_3 => 
        CondP t7 (
          Hp Try.prog false (Instr.index 9 s0 i3) (fun t12 h_4 => 
            Hp Try.prog false (binS .eql 5 (.tmp 12) (.const (.int .u8 0)) t12 (.int .u8 0)) (fun t13 h_5 => 
              CondP t13 (
                R (.bool false) h_5) (
                Hp Try.prog false (binS .add 3 (.tmp 8) (.const (.int .i64 1)) i3 (.int .i64 1)) (fun t9 h_6 => 
                  X t9 h_6) h_5 ⟨⟩) ⟨⟩ ⟨⟩) h_4 ⟨⟩) h_3 ⟨⟩) (
          Hp Try.prog false (Builtin.len_ #[9] 3 #[s0]) (fun t15 h_7 => 
            Hp Try.prog false (binS .geq 3 (.tmp 15) (.const (.int .i64 1)) t15 (.int .i64 1)) (fun t16 h_8 => 
              Join1 (fun k h_9 => guardP t16 true (k s0 h_9) (k undef h_9) ⟨⟩ ⟨⟩) (fun t18 h_10 => 
                Join1 (fun k_1 h_11 => guardP t16 true (Hp Try.prog false (Builtin.len_ #[9] 3 #[t18]) k_1 h_11 ⟨⟩) (k_1 undef h_11) ⟨⟩ ⟨⟩) (fun t19 h_12 => 
                  Join1 (fun k_2 h_13 => guardP t16 true (Hp Try.prog false (binS .leq 3 (.tmp 19) (.const (.int .i64 64)) t19 (.int .i64 64)) k_2 h_13 ⟨⟩) (k_2 undef h_13) ⟨⟩ ⟨⟩) (fun t20 h_14 => 
                    Hp Try.prog false (pickS t16 t20 (.bool false)) (fun t21 h_15 => 
                      R t21 h_15) h_14 ⟨⟩) h_12 ⟨⟩ ⟨⟩) h_10 ⟨⟩ ⟨⟩) h_8 ⟨⟩ ⟨⟩) h_7 ⟨⟩) h_3 ⟨⟩) ⟨⟩ ⟨⟩) h_2 ⟨⟩) h_1 ⟨⟩) [(.int .i64 0)] h ⟨⟩

theorem n96_calls {s0 : Value} {R : Value → Heap → Prop} {h : Heap} (H : n96 s0 R h) : CallsH Try.prog 96 #[s0] h R ⟨⟩ :=
  callsH_of_eq Try.follow (.n none .l (.n none (.n none .l (.n none (.n (some [4]) .l .l) .l)) .l)) Try.func96 (by kernel_rfl) (by kernel_rfl) (by kernel_rfl) H

/-- slices.Equal[[]byte,byte] -/
def n97 (s10 s21 : Value) (R : Value → Heap → Prop) (h : Heap) : Prop :=
  Hp Try.prog false (Builtin.len_ #[39] 3 #[s10]) (fun t7 h_1 => 
    Hp Try.prog false (Builtin.len_ #[39] 3 #[s21]) (fun t9 h_2 => 
      Hp Try.prog false (binS .neq 3 (.tmp 7) (.tmp 9) t7 t9) (fun t10 h_3 => 
        CondP t10 (
          R (.bool false) h_3) (
          Hp Try.prog false (Builtin.len_ #[39] 3 #[s10]) (fun t12 h_4 => 
            LoopC 1 (fun (X : Value → Heap → Prop) => fun t13 h_5 =>
              Hp Try.prog false (binS .lss 3 (.tmp 13) (.tmp 12) t13 t12) (fun t14 h_6 => 
                CondP t14 (
                  Hp Try.prog true (Instr.indexAt 39 s10 t13) (fun t18 _ => 
                    Hp Try.prog true (Instr.loadAt 5 t18) (fun t19 _ => 
                      Hp Try.prog true (Instr.indexAt 39 s21 t13) (fun t22 _ => 
                        Hp Try.prog true (Instr.loadAt 5 t22) (fun t23 _ => 
                          Hp Try.prog true (binS .neq 5 (.tmp 19) (.tmp 23) t19 t23) (fun t24 _ => 
                            CondP t24 (
                              R (.bool false) h_6) (
                              Hp Try.prog false (binS .add 3 (.tmp 13) (.const (.int .i64 1)) t13 (.int .i64 1)) (fun t25 h_7 => 
                                X t25 h_7) h_6 ⟨⟩) ⟨⟩ ⟨⟩) #[] ⟨⟩) h_6 ⟨⟩) #[] ⟨⟩) h_6 ⟨⟩) #[] ⟨⟩) (
                  R (.bool true) h_6) ⟨⟩ ⟨⟩) h_5 ⟨⟩) [(.int .i64 0)] h_4 ⟨⟩) h_3 ⟨⟩) ⟨⟩ ⟨⟩) h_2 ⟨⟩) h_1 ⟨⟩) h ⟨⟩

theorem n97_calls {s10 s21 : Value} {R : Value → Heap → Prop} {h : Heap} (H : n97 s10 s21 R h) : CallsH Try.prog 97 #[s10, s21] h R ⟨⟩ :=
  callsH_of_eq Try.follow (.n none .l (.n none .l (.n none (.n none .l (.n none (.n (some [14]) .l .l) .l)) .l))) Try.func97 (by kernel_rfl) (by kernel_rfl) (by kernel_rfl) H

/-- (*palimpsest/tables.reader).name -/
def n98 (r0 : Value) (R : Value → Heap → Prop) (h : Heap) : Prop :=
  CallsH Try.prog 99 #[r0, (.int .i64 1)] h (fun t6 h_1 => 
    Hp Try.prog true (nilS r0) (fun t8 _ => 
      Hp Try.prog true (Instr.fieldAt 149 t8 2) (fun t9 _ => 
        Hp Try.prog true (Instr.loadAt 4 t9) (fun t10 _ => 
          Hp Try.prog true (Op.unary .not t10) (fun t11 _ => 
            Join1 (fun k h_2 => guardP t11 false (k t6 h_2) (k undef h_2) ⟨⟩ ⟨⟩) (fun t13 _ => 
              Join1 (fun k_1 h_3 => guardP t11 false (k_1 r0 h_3) (k_1 undef h_3) ⟨⟩ ⟨⟩) (fun t14 _ => 
                Join1 (fun k_2 h_4 => guardP t11 false (Hp Try.prog true (nilS t14) k_2 h_4 ⟨⟩) (k_2 undef h_4) ⟨⟩ ⟨⟩) (fun t15 _ => 
                  Join1 (fun k_3 h_5 => guardP t11 false (Hp Try.prog true (Instr.fieldAt 149 t15 0) k_3 h_5 ⟨⟩) (k_3 undef h_5) ⟨⟩ ⟨⟩) (fun t16 _ => 
                    Join1 (fun k_4 h_6 => guardP t11 false (Hp Try.prog true (Instr.loadAt 39 t16) k_4 h_6 ⟨⟩) (k_4 undef h_6) ⟨⟩ ⟨⟩) (fun t17 _ => 
                      Join1 (fun k_5 h_7 => guardP t11 false (Hp Try.prog true (Builtin.len_ #[39] 3 #[t17]) k_5 h_7 ⟨⟩) (k_5 undef h_7) ⟨⟩ ⟨⟩) (fun t18 _ => 
                        Join1 (fun k_6 h_8 => guardP t11 false (k_6 r0 h_8) (k_6 undef h_8) ⟨⟩ ⟨⟩) (fun t19 _ => 
                          Join1 (fun k_7 h_9 => guardP t11 false (Hp Try.prog true (nilS t19) k_7 h_9 ⟨⟩) (k_7 undef h_9) ⟨⟩ ⟨⟩) (fun t20 _ => 
                            Join1 (fun k_8 h_10 => guardP t11 false (Hp Try.prog true (Instr.fieldAt 149 t20 1) k_8 h_10 ⟨⟩) (k_8 undef h_10) ⟨⟩ ⟨⟩) (fun t21 _ => 
                              Join1 (fun k_9 h_11 => guardP t11 false (Hp Try.prog true (Instr.loadAt 3 t21) k_9 h_11 ⟨⟩) (k_9 undef h_11) ⟨⟩ ⟨⟩) (fun t22 _ => 
                                Join1 (fun k_10 h_12 => guardP t11 false (Hp Try.prog true (binS .sub 3 (.tmp 18) (.tmp 22) t18 t22) k_10 h_12 ⟨⟩) (k_10 undef h_12) ⟨⟩ ⟨⟩) (fun t23 _ => 
                                  Join1 (fun k_11 h_13 => guardP t11 false (Hp Try.prog true (binS .gtr 3 (.tmp 13) (.tmp 23) t13 t23) k_11 h_13 ⟨⟩) (k_11 undef h_13) ⟨⟩ ⟨⟩) (fun t24 _ => 
                                    Hp Try.prog true (pickS t11 (.bool true) t24) (fun t25 _ => 
                                      CondP t25 (
                                        Hp Try.prog false (nilS r0) (fun t27 h_14 => 
                                          Hp Try.prog false (Instr.fieldAt 149 t27 2) (fun t28 h_15 => 
                                            Hp Try.prog false (storeS 4 t28 (.bool false)) (fun _ h_16 => 
                                              R (str []) h_16) h_15 ⟨⟩) h_14 ⟨⟩) h_1 ⟨⟩) (
                                        Hp Try.prog true (nilS r0) (fun t30 _ => 
                                          Hp Try.prog true (Instr.fieldAt 149 t30 0) (fun t31 _ => 
                                            Hp Try.prog true (Instr.loadAt 39 t31) (fun t32 _ => 
                                              Hp Try.prog true (nilS r0) (fun t34 _ => 
                                                Hp Try.prog true (Instr.fieldAt 149 t34 1) (fun t35 _ => 
                                                  Hp Try.prog true (Instr.loadAt 3 t35) (fun t36 _ => 
                                                    Hp Try.prog true (nilS r0) (fun t38 _ => 
                                                      Hp Try.prog true (Instr.fieldAt 149 t38 1) (fun t39 _ => 
                                                        Hp Try.prog true (Instr.loadAt 3 t39) (fun t40 _ => 
                                                          Hp Try.prog true (binS .add 3 (.tmp 40) (.tmp 41) t40 t6) (fun t42 _ => 
                                                            Hp Try.prog true (Instr.sliceAt 39 t32 (some t36) (some t42) none) (fun t43 _ => 
                                                              Hp Try.prog true (convert 39 9 t43) (fun t44 _ => 
                                                                Hp Try.prog false (nilS r0) (fun t46 h_17 => 
                                                                  Hp Try.prog false (Instr.fieldAt 149 t46 1) (fun t47 h_18 => 
                                                                    Hp Try.prog false (Instr.loadAt 3 t47) (fun t48 h_19 => 
                                                                      Hp Try.prog false (binS .add 3 (.tmp 48) (.tmp 49) t48 t6) (fun t50 h_20 => 
                                                                        Hp Try.prog false (nilS r0) (fun t51 h_21 => 
                                                                          Hp Try.prog false (Instr.fieldAt 149 t51 1) (fun t52 h_22 => 
                                                                            Hp Try.prog false (storeS 3 t52 t50) (fun _ h_23 => 
                                                                              R t44 h_23) h_22 ⟨⟩) h_21 ⟨⟩) h_20 ⟨⟩) h_19 ⟨⟩) h_18 ⟨⟩) h_17 ⟨⟩) h_1 ⟨⟩) h_1 ⟨⟩) #[] ⟨⟩) #[] ⟨⟩) h_1 ⟨⟩) #[] ⟨⟩) #[] ⟨⟩) h_1 ⟨⟩) #[] ⟨⟩) #[] ⟨⟩) h_1 ⟨⟩) #[] ⟨⟩) #[] ⟨⟩) ⟨⟩ ⟨⟩) #[] ⟨⟩) #[] ⟨⟩ ⟨⟩) #[] ⟨⟩ ⟨⟩) h_1 ⟨⟩ ⟨⟩) #[] ⟨⟩ ⟨⟩) #[] ⟨⟩ ⟨⟩) #[] ⟨⟩ ⟨⟩) #[] ⟨⟩ ⟨⟩) h_1 ⟨⟩ ⟨⟩) #[] ⟨⟩ ⟨⟩) #[] ⟨⟩ ⟨⟩) #[] ⟨⟩ ⟨⟩) #[] ⟨⟩ ⟨⟩) #[] ⟨⟩) h_1 ⟨⟩) #[] ⟨⟩) #[] ⟨⟩) ⟨⟩

theorem n98_calls {r0 : Value} {R : Value → Heap → Prop} {h : Heap} (H : n98 r0 R h) : CallsH Try.prog 98 #[r0] h R ⟨⟩ :=
  callsH_of_eq Try.follow .l Try.func98 (by kernel_rfl) (by kernel_rfl) (by kernel_rfl) H

/-- (*palimpsest/tables.reader).number -/
def n99 (r0 n1 : Value) (R : Value → Heap → Prop) (h : Heap) : Prop :=
  Hp Try.prog true (nilS r0) (fun t9 _ => 
    Hp Try.prog true (Instr.fieldAt 149 t9 0) (fun t10 _ => 
      Hp Try.prog true (Instr.loadAt 39 t10) (fun t11 _ => 
        Hp Try.prog true (nilS r0) (fun t13 _ => 
          Hp Try.prog true (Instr.fieldAt 149 t13 1) (fun t14 _ => 
            Hp Try.prog true (Instr.loadAt 3 t14) (fun t15 _ => 
              CallsH Try.prog 24 #[t11, t15, n1] h (fun t17 h_1 => 
                Hp Try.prog true (Instr.extract t17 0) (fun t18 _ => 
                  Hp Try.prog true (Instr.extract t17 1) (fun t19 _ => 
                    Hp Try.prog false (nilS r0) (fun t21 h_2 => 
                      Hp Try.prog false (Instr.fieldAt 149 t21 1) (fun t22 h_3 => 
                        Hp Try.prog false (Instr.loadAt 3 t22) (fun t23 h_4 => 
                          Hp Try.prog false (binS .add 3 (.tmp 23) (.tmp 24) t23 n1) (fun t25 h_5 => 
                            Hp Try.prog false (nilS r0) (fun t26 h_6 => 
                              Hp Try.prog false (Instr.fieldAt 149 t26 1) (fun t27 h_7 => 
                                Hp Try.prog false (storeS 3 t27 t25) (fun _ h_8 => 
                                  Hp Try.prog false (nilS r0) (fun t30 h_9 => 
                                    Hp Try.prog false (Instr.fieldAt 149 t30 2) (fun t31 h_10 => 
                                      Hp Try.prog false (Instr.loadAt 4 t31) (fun t32 h_11 => 
                                        Join1 (fun k h_12 => guardP t32 true (k t19 h_12) (k undef h_12) ⟨⟩ ⟨⟩) (fun t34 h_13 => 
                                          Join1 (fun k_1 h_14 => guardP t32 true (Hp Try.prog false (binS .eql 27 (.tmp 34) (.const (.int .i64 0)) t34 (.int .i64 0)) k_1 h_14 ⟨⟩) (k_1 undef h_14) ⟨⟩ ⟨⟩) (fun t35 h_15 => 
                                            Hp Try.prog false (pickS t32 t35 (.bool false)) (fun t36 h_16 => 
                                              Join1 (fun k_2 h_17 => guardP t36 true (k_2 t18 h_17) (k_2 undef h_17) ⟨⟩ ⟨⟩) (fun t38 h_18 => 
                                                Join1 (fun k_3 h_19 => guardP t36 true (Hp Try.prog false (binS .lss 25 (.tmp 38) (.const (.int .u64 4611686018427387904)) t38 (.int .u64 4611686018427387904)) k_3 h_19 ⟨⟩) (k_3 undef h_19) ⟨⟩ ⟨⟩) (fun t39 h_20 => 
                                                  Hp Try.prog false (pickS t36 t39 (.bool false)) (fun t40 h_21 => 
                                                    Hp Try.prog false (nilS r0) (fun t41 h_22 => 
                                                      Hp Try.prog false (Instr.fieldAt 149 t41 2) (fun t42 h_23 => 
                                                        Hp Try.prog false (storeS 4 t42 t40) (fun _ h_24 => 
                                                          Hp Try.prog false (convert 25 2 t18) (fun t44 h_25 => 
                                                            R t44 h_25) h_24 ⟨⟩) h_23 ⟨⟩) h_22 ⟨⟩) h_21 ⟨⟩) h_20 ⟨⟩) h_18 ⟨⟩ ⟨⟩) h_16 ⟨⟩ ⟨⟩) h_15 ⟨⟩) h_13 ⟨⟩ ⟨⟩) h_11 ⟨⟩ ⟨⟩) h_10 ⟨⟩) h_9 ⟨⟩) h_8 ⟨⟩) h_7 ⟨⟩) h_6 ⟨⟩) h_5 ⟨⟩) h_4 ⟨⟩) h_3 ⟨⟩) h_2 ⟨⟩) h_1 ⟨⟩) #[] ⟨⟩) #[] ⟨⟩) ⟨⟩) h ⟨⟩) #[] ⟨⟩) #[] ⟨⟩) h ⟨⟩) #[] ⟨⟩) #[] ⟨⟩

theorem n99_calls {r0 n1 : Value} {R : Value → Heap → Prop} {h : Heap} (H : n99 r0 n1 R h) : CallsH Try.prog 99 #[r0, n1] h R ⟨⟩ :=
  callsH_of_eq Try.follow .l Try.func99 (by kernel_rfl) (by kernel_rfl) (by kernel_rfl) H

/-- strings.Contains -/
def n100 (s0 substr1 : Value) (R : Value → Heap → Prop) (h : Heap) : Prop :=
  CallsH Try.prog 101 #[s0, substr1] h (fun t7 h_1 => 
    Hp Try.prog false (binS .geq 3 (.tmp 7) (.const (.int .i64 0)) t7 (.int .i64 0)) (fun t8 h_2 => 
      R t8 h_2) h_1 ⟨⟩) ⟨⟩

theorem n100_calls {s0 substr1 : Value} {R : Value → Heap → Prop} {h : Heap} (H : n100 s0 substr1 R h) : CallsH Try.prog 100 #[s0, substr1] h R ⟨⟩ :=
  callsH_of_eq Try.follow .l Try.func100 (by kernel_rfl) (by kernel_rfl) (by kernel_rfl) H

/-- strings.Index -/
def n101 (s0 substr1 : Value) (R : Value → Heap → Prop) (h : Heap) : Prop :=
  CallsH Try.prog 102 #[s0, substr1] h (fun t7 h_1 => 
    R t7 h_1) ⟨⟩

theorem n101_calls {s0 substr1 : Value} {R : Value → Heap → Prop} {h : Heap} (H : n101 s0 substr1 R h) : CallsH Try.prog 101 #[s0, substr1] h R ⟨⟩ :=
  callsH_of_eq Try.follow .l Try.func101 (by kernel_rfl) (by kernel_rfl) (by kernel_rfl) H

/-- internal/stringslite.Index -/
def n102 (s0 substr1 : Value) (R : Value → Heap → Prop) (h : Heap) : Prop :=
  Hp Try.prog false (Builtin.len_ #[9] 3 #[substr1]) (fun t15 h_1 => 
    Hp Try.prog false (binS .eql 3 (.tmp 17) (.const (.int .i64 0)) t15 (.int .i64 0)) (fun t18 h_2 => 
      Join1 (fun k h_3 => guardP t18 false (k substr1 h_3) (k undef h_3) ⟨⟩ ⟨⟩) (fun t20 h_4 => 
        Join1 (fun k_1 h_5 => guardP t18 false (k_1 s0 h_5) (k_1 undef h_5) ⟨⟩ ⟨⟩) (fun t21 h_6 => 
          Join1 (fun k_2 h_7 => guardP t18 false (Hp Try.prog false (binS .eql 9 (.tmp 20) (.tmp 21) t20 t21) k_2 h_7 ⟨⟩) (k_2 undef h_7) ⟨⟩ ⟨⟩) (fun t22 h_8 => 
            Hp Try.prog false (pickS t18 (.bool true) t22) (fun t23 h_9 => 
              CondP t23 (
                R (.int .i64 0) h_9) (
                Hp Try.prog false (binS .eql 3 (.tmp 25) (.const (.int .i64 1)) t15 (.int .i64 1)) (fun t26 h_10 => 
                  CondP t26 (
                    Hp Try.prog false (Instr.index 9 substr1 (.int .i64 0)) (fun t29 h_11 => 
                      CallsH Try.prog 103 #[s0, t29] h_11 (fun t30 h_12 => 
                        R t30 h_12) ⟨⟩) h_10 ⟨⟩) (
                    Hp Try.prog false (Builtin.len_ #[9] 3 #[s0]) (fun t34 h_13 => 
                      Hp Try.prog false (binS .geq 3 (.tmp 32) (.tmp 34) t15 t34) (fun t35 h_14 => 
                        CondP t35 (
                          R (.int .i64 (-1)) h_14) (
                          Hp Try.prog false (Instr.loadAt 3 (.pointer (some ⟨0, 0, none⟩))) (fun t38 h_15 => 
                            Hp Try.prog false (binS .leq 3 (.tmp 37) (.tmp 38) t15 t38) (fun t39 h_16 => 
                              Join1 (fun k_3 h_17 => guardP t39 true (k_3 s0 h_17) (k_3 undef h_17) ⟨⟩ ⟨⟩) (fun t41 h_18 => 
                                Join1 (fun k_4 h_19 => guardP t39 true (Hp Try.prog false (Builtin.len_ #[9] 3 #[t41]) k_4 h_19 ⟨⟩) (k_4 undef h_19) ⟨⟩ ⟨⟩) (fun t42 h_20 => 
                                  Join1 (fun k_5 h_21 => guardP t39 true (Hp Try.prog false (binS .leq 3 (.tmp 42) (.const (.int .i64 64)) t42 (.int .i64 64)) k_5 h_21 ⟨⟩) (k_5 undef h_21) ⟨⟩ ⟨⟩) (fun t43 h_22 => 
                                    Hp Try.prog false (pickS t39 t43 (.bool false)) (fun t44 h_23 => 
                                      CondP t44 (
                                        ExtH Try.prog 104 #[s0, substr1] h_23 (fun t47 h_24 => 
                                          R t47 h_24) ⟨⟩) (
                                        Hp Try.prog false (Instr.index 9 substr1 (.int .i64 0)) (fun t49 h_25 => 
                                          Hp Try.prog false (Instr.index 9 substr1 (.int .i64 1)) (fun t51 h_26 => 
                                            Hp Try.prog false (Builtin.len_ #[9] 3 #[s0]) (fun t53 h_27 => 
                                              Hp Try.prog false (binS .sub 3 (.tmp 53) (.tmp 54) t53 t15) (fun t55 h_28 => 
                                                Hp Try.prog false (binS .add 3 (.tmp 55) (.const (.int .i64 1)) t55 (.int .i64 1)) (fun t56 h_29 => 
                                                  LoopC 2 (fun (X : Value → Value → Heap → Prop) => fun i8 fails10 h_30 =>
                                                    Hp Try.prog false (binS .lss 3 (.tmp 57) (.tmp 58) i8 t56) (fun t59 h_31 => 
                                                      CondP t59 (
                                                        JoinN 1 (fun (k_6 : Value → Heap → Prop) h_32 =>
                                                          Hp Try.prog false (Instr.index 9 s0 i8) (fun t62 h_33 => 
                                                            Hp Try.prog false (binS .neq 5 (.tmp 62) (.tmp 63) t62 t49) (fun t64 h_34 => 
                                                              CondP t64 (
                                                                Hp Try.prog false (binS .add 3 (.tmp 66) (.const (.int .i64 1)) i8 (.int .i64 1)) (fun t67 h_35 => 
                                                                  Hp Try.prog false (Instr.sliceAt 9 s0 (some t67) (some t56) none) (fun t69 h_36 => 
                                                                    CallsH Try.prog 103 #[t69, t49] h_36 (fun t71 h_37 => 
                                                                      Hp Try.prog false (binS .lss 3 (.tmp 72) (.const (.int .i64 0)) t71 (.int .i64 0)) (fun t73 h_38 => 
                                                                        CondP t73 (
                                                                          R (.int .i64 (-1)) h_38) (
                                                                          Hp Try.prog false (binS .add 3 (.tmp 75) (.const (.int .i64 1)) t71 (.int .i64 1)) (fun t76 h_39 => 
                                                                            Hp Try.prog false (binS .add 3 (.tmp 74) (.tmp 76) i8 t76) (fun t77 h_40 => 
                                                                              k_6 t77 h_40) h_39 ⟨⟩) h_38 ⟨⟩) ⟨⟩ ⟨⟩) h_37 ⟨⟩) ⟨⟩) h_35 ⟨⟩) h_34 ⟨⟩) (
                                                                k_6 i8 h_34) ⟨⟩ ⟨⟩) h_33 ⟨⟩) h_32 ⟨⟩)
                                                          (fun i8_1 h_41 =>
                                                          Hp Try.prog false (binS .add 3 (.tmp 79) (.const (.int .i64 1)) i8_1 (.int .i64 1)) (fun t80 h_42 => 
                                                            Hp Try.prog false (Instr.index 9 s0 t80) (fun t81 h_43 => 
                                                              Hp Try.prog false (binS .eql 5 (.tmp 81) (.tmp 82) t81 t51) (fun t83 h_44 => 
                                                                Join1 (fun k_7 h_45 => guardP t83 true (k_7 s0 h_45) (k_7 undef h_45) ⟨⟩ ⟨⟩) (fun t85 h_46 => 
                                                                  Join1 (fun k_8 h_47 => guardP t83 true (k_8 i8_1 h_47) (k_8 undef h_47) ⟨⟩ ⟨⟩) (fun t86 h_48 => 
                                                                    Join1 (fun k_9 h_49 => guardP t83 true (k_9 i8_1 h_49) (k_9 undef h_49) ⟨⟩ ⟨⟩) (fun t87 h_50 => 
                                                                      Join1 (fun k_10 h_51 => guardP t83 true (k_10 t15 h_51) (k_10 undef h_51) ⟨⟩ ⟨⟩) (fun t88 h_52 => 
                                                                        Join1 (fun k_11 h_53 => guardP t83 true (Hp Try.prog false (binS .add 3 (.tmp 87) (.tmp 88) t87 t88) k_11 h_53 ⟨⟩) (k_11 undef h_53) ⟨⟩ ⟨⟩) (fun t89 h_54 => 
                                                                          Join1 (fun k_12 h_55 => guardP t83 true (Hp Try.prog false (Instr.sliceAt 9 t85 (some t86) (some t89) none) k_12 h_55 ⟨⟩) (k_12 undef h_55) ⟨⟩ ⟨⟩) (fun t90 h_56 => 
                                                                            Join1 (fun k_13 h_57 => guardP t83 true (k_13 substr1 h_57) (k_13 undef h_57) ⟨⟩ ⟨⟩) (fun t91 h_58 => 
                                                                              Join1 (fun k_14 h_59 => guardP t83 true (Hp Try.prog false (binS .eql 9 (.tmp 90) (.tmp 91) t90 t91) k_14 h_59 ⟨⟩) (k_14 undef h_59) ⟨⟩ ⟨⟩) (fun t92 h_60 => 
                                                                                Hp Try.prog false (pickS t83 t92 (.bool false)) (fun t93 h_61 => 
                                                                                  CondP t93 (
                                                                                    R i8_1 h_61) (
                                                                                    Hp Try.prog false (binS .add 3 (.tmp 95) (.const (.int .i64 1)) i8_1 (.int .i64 1)) (fun t96 h_62 => 
                                                                                      Hp Try.prog false (binS .add 3 (.tmp 97) (.const (.int .i64 1)) fails10 (.int .i64 1)) (fun t98 h_63 => 
                                                                                        Hp Try.prog false (Instr.loadAt 3 (.pointer (some ⟨0, 0, none⟩))) (fun t100 h_64 => 
                                                                                          Hp Try.prog false (binS .leq 3 (.tmp 99) (.tmp 100) t15 t100) (fun t101 h_65 => 
                                                                                            Join1 (fun k_15 h_66 => guardP t101 true (k_15 t98 h_66) (k_15 undef h_66) ⟨⟩ ⟨⟩) (fun t103 h_67 => 
                                                                                              Join1 (fun k_16 h_68 => guardP t101 true (k_16 t96 h_68) (k_16 undef h_68) ⟨⟩ ⟨⟩) (fun t104 h_69 => 
                                                                                                Join1 (fun k_17 h_70 => guardP t101 true (CallsH Try.prog 105 #[t104] h_70 k_17 ⟨⟩) (k_17 undef h_70) ⟨⟩ ⟨⟩) (fun t105 h_71 => 
                                                                                                  Join1 (fun k_18 h_72 => guardP t101 true (Hp Try.prog false (binS .gtr 3 (.tmp 103) (.tmp 105) t103 t105) k_18 h_72 ⟨⟩) (k_18 undef h_72) ⟨⟩ ⟨⟩) (fun t106 h_73 => 
                                                                                                    Hp Try.prog false (pickS t101 t106 (.bool false)) (fun t107 h_74 => 
                                                                                                      CondP t107 (
                                                                                                        Hp Try.prog false (Instr.sliceAt 9 s0 (some t96) none none) (fun t110 h_75 => 
                                                                                                          ExtH Try.prog 104 #[t110, substr1] h_75 (fun t112 h_76 => 
                                                                                                            Hp Try.prog false (binS .geq 3 (.tmp 113) (.const (.int .i64 0)) t112 (.int .i64 0)) (fun t114 h_77 => 
                                                                                                              CondP t114 (
                                                                                                                Hp Try.prog false (binS .add 3 (.tmp 115) (.tmp 116) t112 t96) (fun t117 h_78 => 
                                                                                                                  R t117 h_78) h_77 ⟨⟩) (
                                                                                                                R (.int .i64 (-1)) h_77) ⟨⟩ ⟨⟩) h_76 ⟨⟩) ⟨⟩) h_74 ⟨⟩) (
                                                                                                        Hp Try.prog false (Instr.loadAt 3 (.pointer (some ⟨0, 0, none⟩))) (fun t119 h_79 => 
                                                                                                          Hp Try.prog false (binS .gtr 3 (.tmp 118) (.tmp 119) t15 t119) (fun t120 h_80 => 
                                                                                                            Join1 (fun k_19 h_81 => guardP t120 true (k_19 t98 h_81) (k_19 undef h_81) ⟨⟩ ⟨⟩) (fun t122 h_82 => 
                                                                                                              Join1 (fun k_20 h_83 => guardP t120 true (k_20 t96 h_83) (k_20 undef h_83) ⟨⟩ ⟨⟩) (fun t123 h_84 => 
                                                                                                                Join1 (fun k_21 h_85 => guardP t120 true (Hp Try.prog false (binS .shr 3 (.tmp 123) (.const (.int .u64 4)) t123 (.int .u64 4)) k_21 h_85 ⟨⟩) (k_21 undef h_85) ⟨⟩ ⟨⟩) (fun t124 h_86 => 
                                                                                                                  Join1 (fun k_22 h_87 => guardP t120 true (Hp Try.prog false (binS .add 3 (.const (.int .i64 4)) (.tmp 124) (.int .i64 4) t124) k_22 h_87 ⟨⟩) (k_22 undef h_87) ⟨⟩ ⟨⟩) (fun t125 h_88 => 
                                                                                                                    Join1 (fun k_23 h_89 => guardP t120 true (Hp Try.prog false (binS .geq 3 (.tmp 122) (.tmp 125) t122 t125) k_23 h_89 ⟨⟩) (k_23 undef h_89) ⟨⟩ ⟨⟩) (fun t126 h_90 => 
                                                                                                                      Hp Try.prog false (pickS t120 t126 (.bool false)) (fun t127 h_91 => 
                                                                                                                        Join1 (fun k_24 h_92 => guardP t127 true (k_24 t96 h_92) (k_24 undef h_92) ⟨⟩ ⟨⟩) (fun t129 h_93 => 
                                                                                                                          Join1 (fun k_25 h_94 => guardP t127 true (k_25 t56 h_94) (k_25 undef h_94) ⟨⟩ ⟨⟩) (fun t130 h_95 => 
                                                                                                                            Join1 (fun k_26 h_96 => guardP t127 true (Hp Try.prog false (binS .lss 3 (.tmp 129) (.tmp 130) t129 t130) k_26 h_96 ⟨⟩) (k_26 undef h_96) ⟨⟩ ⟨⟩) (fun t131 h_97 => 
                                                                                                                              Hp Try.prog false (pickS t127 t131 (.bool false)) (fun t132 h_98 => 
                                                                                                                                CondP t132 (
                                                                                                                                  Hp Try.prog false (Instr.sliceAt 9 s0 (some t96) none none) (fun t135 h_99 => 
                                                                                                                                    CallsH Try.prog 106 #[t135, substr1] h_99 (fun t137 h_100 => 
                                                                                                                                      Hp Try.prog false (binS .lss 3 (.tmp 138) (.const (.int .i64 0)) t137 (.int .i64 0)) (fun t139 h_101 => 
                                                                                                                                        CondP t139 (
                                                                                                                                          R (.int .i64 (-1)) h_101) (
                                                                                                                                          Hp Try.prog false (binS .add 3 (.tmp 140) (.tmp 141) t96 t137) (fun t142 h_102 => 
                                                                                                                                            R t142 h_102) h_101 ⟨⟩) ⟨⟩ ⟨⟩) h_100 ⟨⟩) ⟨⟩) h_98 ⟨⟩) (
                                                                                                                                  X t96 t98 h_98) ⟨⟩ ⟨⟩) h_97 ⟨⟩) h_95 ⟨⟩ ⟨⟩) h_93 ⟨⟩ ⟨⟩) h_91 ⟨⟩ ⟨⟩) h_90 ⟨⟩) h_88 ⟨⟩ ⟨⟩) h_86 ⟨⟩ ⟨⟩) h_84 ⟨⟩ ⟨⟩) h_82 ⟨⟩ ⟨⟩) h_80 ⟨⟩ ⟨⟩) h_79 ⟨⟩) h_74 ⟨⟩) ⟨⟩ ⟨⟩) h_73 ⟨⟩) h_71 ⟨⟩ ⟨⟩) h_69 ⟨⟩ ⟨⟩) h_67 ⟨⟩ ⟨⟩) h_65 ⟨⟩ ⟨⟩) h_64 ⟨⟩) h_63 ⟨⟩) h_62 ⟨⟩) h_61 ⟨⟩) ⟨⟩ ⟨⟩) h_60 ⟨⟩) h_58 ⟨⟩ ⟨⟩) h_56 ⟨⟩ ⟨⟩) h_54 ⟨⟩ ⟨⟩) h_52 ⟨⟩ ⟨⟩) h_50 ⟨⟩ ⟨⟩) h_48 ⟨⟩ ⟨⟩) h_46 ⟨⟩ ⟨⟩) h_44 ⟨⟩ ⟨⟩) h_43 ⟨⟩) h_42 ⟨⟩) h_41 ⟨⟩) h_31 ⟨⟩ ⟨⟩) (
                                                        R (.int .i64 (-1)) h_31) ⟨⟩ ⟨⟩) h_30 ⟨⟩) [(.int .i64 0), (.int .i64 0)] h_29 ⟨⟩) h_28 ⟨⟩) h_27 ⟨⟩) h_26 ⟨⟩) h_25 ⟨⟩) h_23 ⟨⟩) ⟨⟩ ⟨⟩) h_22 ⟨⟩) h_20 ⟨⟩ ⟨⟩) h_18 ⟨⟩ ⟨⟩) h_16 ⟨⟩ ⟨⟩) h_15 ⟨⟩) h_14 ⟨⟩) ⟨⟩ ⟨⟩) h_13 ⟨⟩) h_10 ⟨⟩) ⟨⟩ ⟨⟩) h_9 ⟨⟩) ⟨⟩ ⟨⟩) h_8 ⟨⟩) h_6 ⟨⟩ ⟨⟩) h_4 ⟨⟩ ⟨⟩) h_2 ⟨⟩ ⟨⟩) h_1 ⟨⟩) h ⟨⟩

theorem n102_calls {s0 substr1 : Value} {R : Value → Heap → Prop} {h : Heap} (H : n102 s0 substr1 R h) : CallsH Try.prog 102 #[s0, substr1] h R ⟨⟩ :=
  callsH_of_eq Try.follow (.n none .l (.n none .l (.n none .l (.n none .l (.n none .l (.n none .l (.n none .l (.n none .l (.n none (.n none (.n (some [9, 11]) (.n none .l (.n none (.n (some [9]) .l .l) .l)) .l) .l) .l))))))))) Try.func102 (by kernel_rfl) (by kernel_rfl) (by kernel_rfl) H

/-- internal/stringslite.IndexByte -/
def n103 (s0 c1 : Value) (R : Value → Heap → Prop) (h : Heap) : Prop :=
  ExtH Try.prog 107 #[s0, c1] h (fun t7 h_1 => 
    R t7 h_1) ⟨⟩

theorem n103_calls {s0 c1 : Value} {R : Value → Heap → Prop} {h : Heap} (H : n103 s0 c1 R h) : CallsH Try.prog 103 #[s0, c1] h R ⟨⟩ :=
  callsH_of_eq Try.follow .l Try.func103 (by kernel_rfl) (by kernel_rfl) (by kernel_rfl) H

/-- internal/bytealg.Cutover -/
def n105 (n0 : Value) (R : Value → Heap → Prop) (h : Heap) : Prop :=
  Hp Try.prog false (binS .add 3 (.tmp 3) (.const (.int .i64 16)) n0 (.int .i64 16)) (fun t4 h_1 => 
    Hp Try.prog false (binS .quo 3 (.tmp 4) (.const (.int .i64 8)) t4 (.int .i64 8)) (fun t5 h_2 => 
      R t5 h_2) h_1 ⟨⟩) h ⟨⟩

theorem n105_calls {n0 : Value} {R : Value → Heap → Prop} {h : Heap} (H : n105 n0 R h) : CallsH Try.prog 105 #[n0] h R ⟨⟩ :=
  callsH_of_eq Try.follow .l Try.func105 (by kernel_rfl) (by kernel_rfl) (by kernel_rfl) H

/-- internal/bytealg.IndexRabinKarp[string] -/
def n106 (s0 sep1 : Value) (R : Value → Heap → Prop) (h : Heap) : Prop :=
  CallsH Try.prog 108 #[sep1] h (fun t13 h_1 => 
    Hp Try.prog false (Instr.extract t13 0) (fun t14 h_2 => 
      Hp Try.prog false (Instr.extract t13 1) (fun t15 h_3 => 
        Hp Try.prog false (Builtin.len_ #[9] 3 #[sep1]) (fun t17 h_4 => 
          LoopC 2 (fun (X : Value → Value → Heap → Prop) => fun h8 i9 h_5 =>
            Hp Try.prog false (binS .lss 3 (.tmp 18) (.tmp 19) i9 t17) (fun t20 h_6 => 
              CondP t20 (
                Hp Try.prog false (binS .mul 155 (.tmp 23) (.const (.int .u32 16777619)) h8 (.int .u32 16777619)) (fun t24 h_7 => 
                  Hp Try.prog false (Instr.index 9 s0 i9) (fun t27 h_8 => 
                    Hp Try.prog false (convert 5 155 t27) (fun t28 h_9 => 
                      Hp Try.prog false (binS .add 155 (.tmp 24) (.tmp 28) t24 t28) (fun t29 h_10 => 
                        Hp Try.prog false (binS .add 3 (.tmp 21) (.const (.int .i64 1)) i9 (.int .i64 1)) (fun t22 h_11 => 
                          X t29 t22 h_11) h_10 ⟨⟩) h_9 ⟨⟩) h_8 ⟨⟩) h_7 ⟨⟩) h_6 ⟨⟩) (
                Hp Try.prog false (binS .eql 155 (.tmp 30) (.tmp 31) h8 t14) (fun t32 h_12 => 
                  Join1 (fun k h_13 => guardP t32 true (k s0 h_13) (k undef h_13) ⟨⟩ ⟨⟩) (fun t34 h_14 => 
                    Join1 (fun k_1 h_15 => guardP t32 true (k_1 t17 h_15) (k_1 undef h_15) ⟨⟩ ⟨⟩) (fun t35 h_16 => 
                      Join1 (fun k_2 h_17 => guardP t32 true (Hp Try.prog false (Instr.sliceAt 9 t34 none (some t35) none) k_2 h_17 ⟨⟩) (k_2 undef h_17) ⟨⟩ ⟨⟩) (fun t36 h_18 => 
                        Join1 (fun k_3 h_19 => guardP t32 true (k_3 sep1 h_19) (k_3 undef h_19) ⟨⟩ ⟨⟩) (fun t37 h_20 => 
                          Join1 (fun k_4 h_21 => guardP t32 true (Hp Try.prog false (binS .eql 9 (.tmp 36) (.tmp 37) t36 t37) k_4 h_21 ⟨⟩) (k_4 undef h_21) ⟨⟩ ⟨⟩) (fun t38 h_22 => 
                            Hp Try.prog false (pickS t32 t38 (.bool false)) (fun t39 h_23 => 
                              CondP t39 (
                                R (.int .i64 0) h_23) (
                                LoopC 2 (fun (X_1 : Value → Value → Heap → Prop) => fun h8_1 i10 h_24 =>
                                  Hp Try.prog false (Builtin.len_ #[9] 3 #[s0]) (fun t43 h_25 => 
                                    Hp Try.prog false (binS .lss 3 (.tmp 41) (.tmp 43) i10 t43) (fun t44 h_26 => 
                                      CondP t44 (
                                        Hp Try.prog false (binS .mul 155 (.tmp 45) (.const (.int .u32 16777619)) h8_1 (.int .u32 16777619)) (fun t46 h_27 => 
                                          Hp Try.prog false (Instr.index 9 s0 i10) (fun t50 h_28 => 
                                            Hp Try.prog false (convert 5 155 t50) (fun t51 h_29 => 
                                              Hp Try.prog false (binS .add 155 (.tmp 47) (.tmp 51) t46 t51) (fun t52 h_30 => 
                                                Hp Try.prog false (binS .sub 3 (.tmp 56) (.tmp 57) i10 t17) (fun t58 h_31 => 
                                                  Hp Try.prog false (Instr.index 9 s0 t58) (fun t59 h_32 => 
                                                    Hp Try.prog false (convert 5 155 t59) (fun t60 h_33 => 
                                                      Hp Try.prog false (binS .mul 155 (.tmp 54) (.tmp 60) t15 t60) (fun t61 h_34 => 
                                                        Hp Try.prog false (binS .sub 155 (.tmp 53) (.tmp 61) t52 t61) (fun t62 h_35 => 
                                                          Hp Try.prog false (binS .add 3 (.tmp 63) (.const (.int .i64 1)) i10 (.int .i64 1)) (fun t64 h_36 => 
                                                            Hp Try.prog false (binS .eql 155 (.tmp 65) (.tmp 66) t62 t14) (fun t67 h_37 => 
                                                              Join1 (fun k_5 h_38 => guardP t67 true (k_5 s0 h_38) (k_5 undef h_38) ⟨⟩ ⟨⟩) (fun t69 h_39 => 
                                                                Join1 (fun k_6 h_40 => guardP t67 true (k_6 t64 h_40) (k_6 undef h_40) ⟨⟩ ⟨⟩) (fun t70 h_41 => 
                                                                  Join1 (fun k_7 h_42 => guardP t67 true (k_7 t17 h_42) (k_7 undef h_42) ⟨⟩ ⟨⟩) (fun t71 h_43 => 
                                                                    Join1 (fun k_8 h_44 => guardP t67 true (Hp Try.prog false (binS .sub 3 (.tmp 70) (.tmp 71) t70 t71) k_8 h_44 ⟨⟩) (k_8 undef h_44) ⟨⟩ ⟨⟩) (fun t72 h_45 => 
                                                                      Join1 (fun k_9 h_46 => guardP t67 true (k_9 t64 h_46) (k_9 undef h_46) ⟨⟩ ⟨⟩) (fun t73 h_47 => 
                                                                        Join1 (fun k_10 h_48 => guardP t67 true (Hp Try.prog false (Instr.sliceAt 9 t69 (some t72) (some t73) none) k_10 h_48 ⟨⟩) (k_10 undef h_48) ⟨⟩ ⟨⟩) (fun t74 h_49 => 
                                                                          Join1 (fun k_11 h_50 => guardP t67 true (k_11 sep1 h_50) (k_11 undef h_50) ⟨⟩ ⟨⟩) (fun t75 h_51 => 
                                                                            Join1 (fun k_12 h_52 => guardP t67 true (Hp Try.prog false (binS .eql 9 (.tmp 74) (.tmp 75) t74 t75) k_12 h_52 ⟨⟩) (k_12 undef h_52) ⟨⟩ ⟨⟩) (fun t76 h_53 => 
                                                                              Hp Try.prog false (pickS t67 t76 (.bool false)) (fun t77 h_54 => 
                                                                                CondP t77 (
                                                                                  Hp Try.prog false (binS .sub 3 (.tmp 78) (.tmp 79) t64 t17) (fun t80 h_55 => 
                                                                                    R t80 h_55) h_54 ⟨⟩) (
                                                                                  X_1 t62 t64 h_54) ⟨⟩ ⟨⟩) h_53 ⟨⟩) h_51 ⟨⟩ ⟨⟩) h_49 ⟨⟩ ⟨⟩) h_47 ⟨⟩ ⟨⟩) h_45 ⟨⟩ ⟨⟩) h_43 ⟨⟩ ⟨⟩) h_41 ⟨⟩ ⟨⟩) h_39 ⟨⟩ ⟨⟩) h_37 ⟨⟩ ⟨⟩) h_36 ⟨⟩) h_35 ⟨⟩) h_34 ⟨⟩) h_33 ⟨⟩) h_32 ⟨⟩) h_31 ⟨⟩) h_30 ⟨⟩) h_29 ⟨⟩) h_28 ⟨⟩) h_27 ⟨⟩) h_26 ⟨⟩) (
                                        R (.int .i64 (-1)) h_26) ⟨⟩ ⟨⟩) h_25 ⟨⟩) h_24 ⟨⟩) [h8, t17] h_23 ⟨⟩) ⟨⟩ ⟨⟩) h_22 ⟨⟩) h_20 ⟨⟩ ⟨⟩) h_18 ⟨⟩ ⟨⟩) h_16 ⟨⟩ ⟨⟩) h_14 ⟨⟩ ⟨⟩) h_12 ⟨⟩ ⟨⟩) h_6 ⟨⟩) ⟨⟩ ⟨⟩) h_5 ⟨⟩) [(.int .u32 0), (.int .i64 0)] h_4 ⟨⟩) h_3 ⟨⟩) h_2 ⟨⟩) h_1 ⟨⟩) ⟨⟩

theorem n106_calls {s0 sep1 : Value} {R : Value → Heap → Prop} {h : Heap} (H : n106 s0 sep1 R h) : CallsH Try.prog 106 #[s0, sep1] h R ⟨⟩ :=
  callsH_of_eq Try.follow (.n none .l (.n none .l (.n none .l (.n none .l (.n none (.n none .l (.n none (.n (some [9, 10]) .l .l) .l)) (.n none .l (.n none (.n none .l (.n none (.n (some [9, 11]) .l .l) .l)) .l))))))) Try.func106 (by kernel_rfl) (by kernel_rfl) (by kernel_rfl) H

/-- internal/bytealg.hashStr[string] -/
def n108 (sep0 : Value) (R : Value → Heap → Prop) (h : Heap) : Prop :=
  LoopC 2 (fun (X : Value → Value → Heap → Prop) => fun hash4 i5 h_1 =>
    Hp Try.prog false (Builtin.len_ #[9] 3 #[sep0]) (fun t11 h_2 => 
      Hp Try.prog false (binS .lss 3 (.tmp 9) (.tmp 11) i5 t11) (fun t12 h_3 => 
        CondP t12 (
          Hp Try.prog false (binS .mul 155 (.tmp 15) (.const (.int .u32 16777619)) hash4 (.int .u32 16777619)) (fun t16 h_4 => 
            Hp Try.prog false (Instr.index 9 sep0 i5) (fun t19 h_5 => 
              Hp Try.prog false (convert 5 155 t19) (fun t20 h_6 => 
                Hp Try.prog false (binS .add 155 (.tmp 16) (.tmp 20) t16 t20) (fun t21 h_7 => 
                  Hp Try.prog false (binS .add 3 (.tmp 13) (.const (.int .i64 1)) i5 (.int .i64 1)) (fun t14 h_8 => 
                    X t21 t14 h_8) h_7 ⟨⟩) h_6 ⟨⟩) h_5 ⟨⟩) h_4 ⟨⟩) h_3 ⟨⟩) (
          Hp Try.prog false (Builtin.len_ #[9] 3 #[sep0]) (fun t23 h_9 => 
            LoopC 3 (fun (X_1 : Value → Value → Value → Heap → Prop) => fun pow6 sq7 i8 h_10 =>
              Hp Try.prog false (binS .gtr 3 (.tmp 24) (.const (.int .i64 0)) i8 (.int .i64 0)) (fun t25 h_11 => 
                CondP t25 (
                  JoinN 1 (fun (k : Value → Heap → Prop) h_12 =>
                    Hp Try.prog false (binS .and 3 (.tmp 28) (.const (.int .i64 1)) i8 (.int .i64 1)) (fun t29 h_13 => 
                      Hp Try.prog false (binS .neq 3 (.tmp 29) (.const (.int .i64 0)) t29 (.int .i64 0)) (fun t30 h_14 => 
                        CondP t30 (
                          Hp Try.prog false (binS .mul 155 (.tmp 31) (.tmp 32) pow6 sq7) (fun t33 h_15 => 
                            k t33 h_15) h_14 ⟨⟩) (
                          k pow6 h_14) ⟨⟩ ⟨⟩) h_13 ⟨⟩) h_12 ⟨⟩)
                    (fun pow6_1 h_16 =>
                    Hp Try.prog false (binS .mul 155 (.tmp 34) (.tmp 35) sq7 sq7) (fun t36 h_17 => 
                      Hp Try.prog false (binS .shr 3 (.tmp 26) (.const (.int .u64 1)) i8 (.int .u64 1)) (fun t27 h_18 => 
                        X_1 pow6_1 t36 t27 h_18) h_17 ⟨⟩) h_16 ⟨⟩) h_11 ⟨⟩ ⟨⟩) (
                  R (.tuple #[hash4, pow6]) h_11) ⟨⟩ ⟨⟩) h_10 ⟨⟩) [(.int .u32 1), (.int .u32 16777619), t23] h_9 ⟨⟩) h_3 ⟨⟩) ⟨⟩ ⟨⟩) h_2 ⟨⟩) h_1 ⟨⟩) [(.int .u32 0), (.int .i64 0)] h ⟨⟩

theorem n108_calls {sep0 : Value} {R : Value → Heap → Prop} {h : Heap} (H : n108 sep0 R h) : CallsH Try.prog 108 #[sep0] h R ⟨⟩ :=
  callsH_of_eq Try.follow (.n none .l (.n none .l (.n none (.n none .l (.n none (.n (some [5, 6]) .l .l) .l)) (.n none .l (.n none (.n none .l (.n none (.n (some [7, 8, 9]) (.n none .l (.n none (.n none (.n (some [7]) .l .l) .l) .l)) .l) .l)) .l))))) Try.func108 (by kernel_rfl) (by kernel_rfl) (by kernel_rfl) H

end Go.Proofs.Ytmppolccfjfoaaa

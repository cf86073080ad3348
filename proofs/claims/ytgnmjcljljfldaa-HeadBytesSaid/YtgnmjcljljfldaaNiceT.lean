/- Printed by wip/tools/gen.py: the condition of each function, and that a call meets it. -/
import Derived.Test.YtgnmjcljljfldaaVcFun
import Derived.Test.YtgnmjcljljfldaaProg
import Derived.Test.YtgnmjcljljfldaaNiceW
set_option maxRecDepth 100000
set_option linter.unusedVariables false
namespace Go.Proofs.Ytgnmjcljljfldaa
open Go.Vc

/-- palimpsest/palimpsestlaw11.TablesRows -/
def n3 (bits0 l1 : Value) (R : Value → Heap → Prop) (h : Heap) : Prop :=
  Hp Try.prog false (Builtin.len_ #[22] 3 #[l1]) (fun t13 h_1 => 
    Hp Try.prog false (binS .gtr 3 (.tmp 13) (.const (.int .i64 100)) t13 (.int .i64 100)) (fun t14 h_2 => 
      CondP t14 (
        CallsH Try.prog 8 #[] h_2 (fun t15 h_3 => 
          R t15 h_3) ⟨⟩) (
        Hp Try.prog false (Builtin.append_ #[22, 22] 22 #[(.slice none 0 0), l1]) (fun t17 h_4 => 
          Hp Try.prog false (Instr.build 25 #[(0, (str [122, 122]))]) (fun t18 h_5 => 
            Hp Try.prog false (Instr.buildSlice 22 1 #[(0, t18)]) (fun t19 h_6 => 
              Hp Try.prog false (Builtin.append_ #[22, 22] 22 #[t17, t19]) (fun t20 h_7 => 
                Hp Try.prog false (Builtin.len_ #[22] 3 #[l1]) (fun t22 h_8 => 
                  Hp Try.prog false (Instr.sliceAt 22 t20 none (some t22) none) (fun t23 h_9 => 
                    CallsH Try.prog 9 #[bits0, t23] h_9 (fun t27 h_10 => 
                      Hp Try.prog false (Instr.extract t27 0) (fun t28 h_11 => 
                        Hp Try.prog false (Instr.extract t27 1) (fun t29 h_12 => 
                          CallsH Try.prog 10 #[bits0, l1] h_12 (fun t33 h_13 => 
                            Hp Try.prog false (Instr.extract t33 0) (fun t34 h_14 => 
                              Hp Try.prog false (Instr.extract t33 1) (fun t35 h_15 => 
                                Hp Try.prog false (convert 26 9 t28) (fun t37 h_16 => 
                                  Hp Try.prog false (convert 26 9 t34) (fun t39 h_17 => 
                                    Hp Try.prog false (binS .neq 9 (.tmp 37) (.tmp 39) t37 t39) (fun t40 h_18 => 
                                      Join1 (fun k h_19 => guardP t40 false (k t29 h_19) (k undef h_19) ⟨⟩ ⟨⟩) (fun t42 h_20 => 
                                        Join1 (fun k_1 h_21 => guardP t40 false (k_1 t35 h_21) (k_1 undef h_21) ⟨⟩ ⟨⟩) (fun t43 h_22 => 
                                          Join1 (fun k_2 h_23 => guardP t40 false (Hp Try.prog false (binS .neq 3 (.tmp 42) (.tmp 43) t42 t43) k_2 h_23 ⟨⟩) (k_2 undef h_23) ⟨⟩ ⟨⟩) (fun t44 h_24 => 
                                            Hp Try.prog false (pickS t40 (.bool true) t44) (fun t45 h_25 => 
                                              Join1 (fun k_3 h_26 => guardP t45 false (k_3 t23 h_26) (k_3 undef h_26) ⟨⟩ ⟨⟩) (fun t47 h_27 => 
                                                Join1 (fun k_4 h_28 => guardP t45 false (k_4 l1 h_28) (k_4 undef h_28) ⟨⟩ ⟨⟩) (fun t48 h_29 => 
                                                  Join1 (fun k_5 h_30 => guardP t45 false (CallsH Try.prog 11 #[t47, t48] h_30 k_5 ⟨⟩) (k_5 undef h_30) ⟨⟩ ⟨⟩) (fun t49 h_31 => 
                                                    Join1 (fun k_6 h_32 => guardP t45 false (Hp Try.prog false (Op.unary .not t49) k_6 h_32 ⟨⟩) (k_6 undef h_32) ⟨⟩ ⟨⟩) (fun t50 h_33 => 
                                                      Hp Try.prog false (pickS t45 (.bool true) t50) (fun t51 h_34 => 
                                                        Join1 (fun k_7 h_35 => guardP t51 false (k_7 t23 h_35) (k_7 undef h_35) ⟨⟩ ⟨⟩) (fun t53 h_36 => 
                                                          Join1 (fun k_8 h_37 => guardP t51 false (k_8 l1 h_37) (k_8 undef h_37) ⟨⟩ ⟨⟩) (fun t54 h_38 => 
                                                            Join1 (fun k_9 h_39 => guardP t51 false (Hp Try.prog false (Builtin.len_ #[22] 3 #[t54]) k_9 h_39 ⟨⟩) (k_9 undef h_39) ⟨⟩ ⟨⟩) (fun t55 h_40 => 
                                                              Join1 (fun k_10 h_41 => guardP t51 false (Hp Try.prog false (binS .add 3 (.tmp 55) (.const (.int .i64 1)) t55 (.int .i64 1)) k_10 h_41 ⟨⟩) (k_10 undef h_41) ⟨⟩ ⟨⟩) (fun t56 h_42 => 
                                                                Join1 (fun k_11 h_43 => guardP t51 false (Hp Try.prog false (Instr.sliceAt 22 t53 none (some t56) none) k_11 h_43 ⟨⟩) (k_11 undef h_43) ⟨⟩ ⟨⟩) (fun t57 h_44 => 
                                                                  Join1 (fun k_12 h_45 => guardP t51 false (k_12 l1 h_45) (k_12 undef h_45) ⟨⟩ ⟨⟩) (fun t58 h_46 => 
                                                                    Join1 (fun k_13 h_47 => guardP t51 false (Hp Try.prog false (Builtin.len_ #[22] 3 #[t58]) k_13 h_47 ⟨⟩) (k_13 undef h_47) ⟨⟩ ⟨⟩) (fun t59 h_48 => 
                                                                      Join1 (fun k_14 h_49 => guardP t51 false (Hp Try.prog false (Instr.indexAt 22 t57 t59) k_14 h_49 ⟨⟩) (k_14 undef h_49) ⟨⟩ ⟨⟩) (fun t60 h_50 => 
                                                                        Join1 (fun k_15 h_51 => guardP t51 false (Hp Try.prog false (Instr.fieldAt 25 t60 0) k_15 h_51 ⟨⟩) (k_15 undef h_51) ⟨⟩ ⟨⟩) (fun t61 h_52 => 
                                                                          Join1 (fun k_16 h_53 => guardP t51 false (Hp Try.prog false (Instr.loadAt 9 t61) k_16 h_53 ⟨⟩) (k_16 undef h_53) ⟨⟩ ⟨⟩) (fun t62 h_54 => 
                                                                            Join1 (fun k_17 h_55 => guardP t51 false (Hp Try.prog false (binS .neq 9 (.tmp 62) (.const (str [122, 122])) t62 (str [122, 122])) k_17 h_55 ⟨⟩) (k_17 undef h_55) ⟨⟩ ⟨⟩) (fun t63 h_56 => 
                                                                              Hp Try.prog false (pickS t51 (.bool true) t63) (fun t64 h_57 => 
                                                                                CondP t64 (
                                                                                  R (.bool false) h_57) (
                                                                                  Hp Try.prog false (binS .neq 27 (.tmp 65) (.const (.int .i64 0)) t29 (.int .i64 0)) (fun t66 h_58 => 
                                                                                    CondP t66 (
                                                                                      CallsH Try.prog 8 #[] h_58 (fun t67 h_59 => 
                                                                                        R t67 h_59) ⟨⟩) (
                                                                                      Hp Try.prog false (Builtin.len_ #[22] 3 #[l1]) (fun t72 h_60 => 
                                                                                        CallsH Try.prog 12 #[bits0, t28, t72] h_60 (fun t73 h_61 => 
                                                                                          Hp Try.prog false (Instr.extract t73 0) (fun t74 h_62 => 
                                                                                            Hp Try.prog false (Instr.extract t73 1) (fun t75 h_63 => 
                                                                                              Hp Try.prog false (binS .eql 27 (.tmp 76) (.const (.int .i64 0)) t75 (.int .i64 0)) (fun t77 h_64 => 
                                                                                                Join1 (fun k_18 h_65 => guardP t77 true (k_18 t74 h_65) (k_18 undef h_65) ⟨⟩ ⟨⟩) (fun t79 h_66 => 
                                                                                                  Join1 (fun k_19 h_67 => guardP t77 true (k_19 l1 h_67) (k_19 undef h_67) ⟨⟩ ⟨⟩) (fun t80 h_68 => 
                                                                                                    Join1 (fun k_20 h_69 => guardP t77 true (CallsH Try.prog 11 #[t79, t80] h_69 k_20 ⟨⟩) (k_20 undef h_69) ⟨⟩ ⟨⟩) (fun t81 h_70 => 
                                                                                                      Hp Try.prog false (pickS t77 t81 (.bool false)) (fun t82 h_71 => 
                                                                                                        Join1 (fun k_21 h_72 => guardP t82 true (CallsH Try.prog 8 #[] h_72 k_21 ⟨⟩) (k_21 undef h_72) ⟨⟩ ⟨⟩) (fun t84 h_73 => 
                                                                                                          Hp Try.prog false (pickS t82 t84 (.bool false)) (fun t85 h_74 => 
                                                                                                            R t85 h_74) h_73 ⟨⟩) h_71 ⟨⟩ ⟨⟩) h_70 ⟨⟩) h_68 ⟨⟩ ⟨⟩) h_66 ⟨⟩ ⟨⟩) h_64 ⟨⟩ ⟨⟩) h_63 ⟨⟩) h_62 ⟨⟩) h_61 ⟨⟩) ⟨⟩) h_58 ⟨⟩) ⟨⟩ ⟨⟩) h_57 ⟨⟩) ⟨⟩ ⟨⟩) h_56 ⟨⟩) h_54 ⟨⟩ ⟨⟩) h_52 ⟨⟩ ⟨⟩) h_50 ⟨⟩ ⟨⟩) h_48 ⟨⟩ ⟨⟩) h_46 ⟨⟩ ⟨⟩) h_44 ⟨⟩ ⟨⟩) h_42 ⟨⟩ ⟨⟩) h_40 ⟨⟩ ⟨⟩) h_38 ⟨⟩ ⟨⟩) h_36 ⟨⟩ ⟨⟩) h_34 ⟨⟩ ⟨⟩) h_33 ⟨⟩) h_31 ⟨⟩ ⟨⟩) h_29 ⟨⟩ ⟨⟩) h_27 ⟨⟩ ⟨⟩) h_25 ⟨⟩ ⟨⟩) h_24 ⟨⟩) h_22 ⟨⟩ ⟨⟩) h_20 ⟨⟩ ⟨⟩) h_18 ⟨⟩ ⟨⟩) h_17 ⟨⟩) h_16 ⟨⟩) h_15 ⟨⟩) h_14 ⟨⟩) h_13 ⟨⟩) ⟨⟩) h_11 ⟨⟩) h_10 ⟨⟩) ⟨⟩) h_8 ⟨⟩) h_7 ⟨⟩) h_6 ⟨⟩) h_5 ⟨⟩) h_4 ⟨⟩) h_2 ⟨⟩) ⟨⟩ ⟨⟩) h_1 ⟨⟩) h ⟨⟩

theorem n3_calls {bits0 l1 : Value} {R : Value → Heap → Prop} {h : Heap} (H : n3 bits0 l1 R h) : CallsH Try.prog 3 #[bits0, l1] h R ⟨⟩ :=
  callsH_of_eq Try.follow .l Try.func3 (by kernel_rfl) (by kernel_rfl) (by kernel_rfl) H

/-- palimpsest/palimpsestlaw11.TablesRead -/
def n4 (bits0 b1 n2 : Value) (R : Value → Heap → Prop) (h : Heap) : Prop :=
  Hp Try.prog false (Builtin.len_ #[26] 3 #[b1]) (fun t17 h_1 => 
    Hp Try.prog false (binS .gtr 3 (.tmp 17) (.const (.int .i64 20000)) t17 (.int .i64 20000)) (fun t18 h_2 => 
      CondP t18 (
        CallsH Try.prog 8 #[] h_2 (fun t19 h_3 => 
          R t19 h_3) ⟨⟩) (
        Hp Try.prog false (Builtin.append_ #[26, 26] 26 #[(.slice none 0 0), b1]) (fun t21 h_4 => 
          Hp Try.prog false (Instr.buildSlice 26 1 #[(0, (.int .u8 77))]) (fun t22 h_5 => 
            Hp Try.prog false (Builtin.append_ #[26, 26] 26 #[t21, t22]) (fun t23 h_6 => 
              Hp Try.prog false (Builtin.len_ #[26] 3 #[b1]) (fun t25 h_7 => 
                Hp Try.prog false (Instr.sliceAt 26 t23 none (some t25) none) (fun t26 h_8 => 
                  CallsH Try.prog 13 #[bits0, t26, n2] h_8 (fun t31 h_9 => 
                    Hp Try.prog false (Instr.extract t31 0) (fun t32 h_10 => 
                      Hp Try.prog false (Instr.extract t31 1) (fun t33 h_11 => 
                        CallsH Try.prog 12 #[bits0, t26, n2] h_11 (fun t38 h_12 => 
                          Hp Try.prog false (Instr.extract t38 0) (fun t39 h_13 => 
                            Hp Try.prog false (Instr.extract t38 1) (fun t40 h_14 => 
                              Hp Try.prog false (convert 26 9 t26) (fun t42 h_15 => 
                                Hp Try.prog false (convert 26 9 b1) (fun t44 h_16 => 
                                  Hp Try.prog false (binS .neq 9 (.tmp 42) (.tmp 44) t42 t44) (fun t45 h_17 => 
                                    Join1 (fun k h_18 => guardP t45 false (k t26 h_18) (k undef h_18) ⟨⟩ ⟨⟩) (fun t47 h_19 => 
                                      Join1 (fun k_1 h_20 => guardP t45 false (k_1 b1 h_20) (k_1 undef h_20) ⟨⟩ ⟨⟩) (fun t48 h_21 => 
                                        Join1 (fun k_2 h_22 => guardP t45 false (Hp Try.prog false (Builtin.len_ #[26] 3 #[t48]) k_2 h_22 ⟨⟩) (k_2 undef h_22) ⟨⟩ ⟨⟩) (fun t49 h_23 => 
                                          Join1 (fun k_3 h_24 => guardP t45 false (Hp Try.prog false (binS .add 3 (.tmp 49) (.const (.int .i64 1)) t49 (.int .i64 1)) k_3 h_24 ⟨⟩) (k_3 undef h_24) ⟨⟩ ⟨⟩) (fun t50 h_25 => 
                                            Join1 (fun k_4 h_26 => guardP t45 false (Hp Try.prog false (Instr.sliceAt 26 t47 none (some t50) none) k_4 h_26 ⟨⟩) (k_4 undef h_26) ⟨⟩ ⟨⟩) (fun t51 h_27 => 
                                              Join1 (fun k_5 h_28 => guardP t45 false (k_5 b1 h_28) (k_5 undef h_28) ⟨⟩ ⟨⟩) (fun t52 h_29 => 
                                                Join1 (fun k_6 h_30 => guardP t45 false (Hp Try.prog false (Builtin.len_ #[26] 3 #[t52]) k_6 h_30 ⟨⟩) (k_6 undef h_30) ⟨⟩ ⟨⟩) (fun t53 h_31 => 
                                                  Join1 (fun k_7 h_32 => guardP t45 false (Hp Try.prog false (Instr.indexAt 26 t51 t53) k_7 h_32 ⟨⟩) (k_7 undef h_32) ⟨⟩ ⟨⟩) (fun t54 h_33 => 
                                                    Join1 (fun k_8 h_34 => guardP t45 false (Hp Try.prog false (Instr.loadAt 5 t54) k_8 h_34 ⟨⟩) (k_8 undef h_34) ⟨⟩ ⟨⟩) (fun t55 h_35 => 
                                                      Join1 (fun k_9 h_36 => guardP t45 false (Hp Try.prog false (binS .neq 5 (.tmp 55) (.const (.int .u8 77)) t55 (.int .u8 77)) k_9 h_36 ⟨⟩) (k_9 undef h_36) ⟨⟩ ⟨⟩) (fun t56 h_37 => 
                                                        Hp Try.prog false (pickS t45 (.bool true) t56) (fun t57 h_38 => 
                                                          CondP t57 (
                                                            R (.bool false) h_38) (
                                                            Hp Try.prog false (binS .lss 3 (.tmp 58) (.const (.int .i64 9)) bits0 (.int .i64 9)) (fun t59 h_39 => 
                                                              Join1 (fun k_10 h_40 => guardP t59 false (k_10 bits0 h_40) (k_10 undef h_40) ⟨⟩ ⟨⟩) (fun t61 h_41 => 
                                                                Join1 (fun k_11 h_42 => guardP t59 false (Hp Try.prog false (binS .gtr 3 (.tmp 61) (.const (.int .i64 16)) t61 (.int .i64 16)) k_11 h_42 ⟨⟩) (k_11 undef h_42) ⟨⟩ ⟨⟩) (fun t62 h_43 => 
                                                                  Hp Try.prog false (pickS t59 (.bool true) t62) (fun t63 h_44 => 
                                                                    Join1 (fun k_12 h_45 => guardP t63 false (k_12 n2 h_45) (k_12 undef h_45) ⟨⟩ ⟨⟩) (fun t65 h_46 => 
                                                                      Join1 (fun k_13 h_47 => guardP t63 false (Hp Try.prog false (binS .lss 3 (.tmp 65) (.const (.int .i64 0)) t65 (.int .i64 0)) k_13 h_47 ⟨⟩) (k_13 undef h_47) ⟨⟩ ⟨⟩) (fun t66 h_48 => 
                                                                        Hp Try.prog false (pickS t63 (.bool true) t66) (fun t67 h_49 => 
                                                                          CondP t67 (
                                                                            Hp Try.prog false (Builtin.len_ #[36] 3 #[t32]) (fun t69 h_50 => 
                                                                              Hp Try.prog false (binS .eql 3 (.tmp 69) (.const (.int .i64 0)) t69 (.int .i64 0)) (fun t70 h_51 => 
                                                                                Join1 (fun k_14 h_52 => guardP t70 true (k_14 t33 h_52) (k_14 undef h_52) ⟨⟩ ⟨⟩) (fun t72 h_53 => 
                                                                                  Join1 (fun k_15 h_54 => guardP t70 true (Hp Try.prog false (binS .eql 27 (.tmp 72) (.const (.int .i64 2)) t72 (.int .i64 2)) k_15 h_54 ⟨⟩) (k_15 undef h_54) ⟨⟩ ⟨⟩) (fun t73 h_55 => 
                                                                                    Hp Try.prog false (pickS t70 t73 (.bool false)) (fun t74 h_56 => 
                                                                                      Join1 (fun k_16 h_57 => guardP t74 true (k_16 t39 h_57) (k_16 undef h_57) ⟨⟩ ⟨⟩) (fun t76 h_58 => 
                                                                                        Join1 (fun k_17 h_59 => guardP t74 true (Hp Try.prog false (Builtin.len_ #[22] 3 #[t76]) k_17 h_59 ⟨⟩) (k_17 undef h_59) ⟨⟩ ⟨⟩) (fun t77 h_60 => 
                                                                                          Join1 (fun k_18 h_61 => guardP t74 true (Hp Try.prog false (binS .eql 3 (.tmp 77) (.const (.int .i64 0)) t77 (.int .i64 0)) k_18 h_61 ⟨⟩) (k_18 undef h_61) ⟨⟩ ⟨⟩) (fun t78 h_62 => 
                                                                                            Hp Try.prog false (pickS t74 t78 (.bool false)) (fun t79 h_63 => 
                                                                                              Join1 (fun k_19 h_64 => guardP t79 true (k_19 t40 h_64) (k_19 undef h_64) ⟨⟩ ⟨⟩) (fun t81 h_65 => 
                                                                                                Join1 (fun k_20 h_66 => guardP t79 true (Hp Try.prog false (binS .eql 27 (.tmp 81) (.const (.int .i64 2)) t81 (.int .i64 2)) k_20 h_66 ⟨⟩) (k_20 undef h_66) ⟨⟩ ⟨⟩) (fun t82 h_67 => 
                                                                                                  Hp Try.prog false (pickS t79 t82 (.bool false)) (fun t83 h_68 => 
                                                                                                    Join1 (fun k_21 h_69 => guardP t83 true (CallsH Try.prog 8 #[] h_69 k_21 ⟨⟩) (k_21 undef h_69) ⟨⟩ ⟨⟩) (fun t85 h_70 => 
                                                                                                      Hp Try.prog false (pickS t83 t85 (.bool false)) (fun t86 h_71 => 
                                                                                                        R t86 h_71) h_70 ⟨⟩) h_68 ⟨⟩ ⟨⟩) h_67 ⟨⟩) h_65 ⟨⟩ ⟨⟩) h_63 ⟨⟩ ⟨⟩) h_62 ⟨⟩) h_60 ⟨⟩ ⟨⟩) h_58 ⟨⟩ ⟨⟩) h_56 ⟨⟩ ⟨⟩) h_55 ⟨⟩) h_53 ⟨⟩ ⟨⟩) h_51 ⟨⟩ ⟨⟩) h_50 ⟨⟩) h_49 ⟨⟩) (
                                                                            CallsH Try.prog 14 #[bits0, b1, n2] h_49 (fun t91 h_72 => 
                                                                              Hp Try.prog false (Instr.extract t91 0) (fun t92 h_73 => 
                                                                                Hp Try.prog false (Instr.extract t91 1) (fun t93 h_74 => 
                                                                                  CallsH Try.prog 15 #[bits0, b1, n2] h_74 (fun t98 h_75 => 
                                                                                    Hp Try.prog false (Instr.extract t98 0) (fun t99 h_76 => 
                                                                                      Hp Try.prog false (Instr.extract t98 1) (fun t100 h_77 => 
                                                                                        Join1 (fun k_22 h_78 => guardP t93 true (k_22 t33 h_78) (k_22 undef h_78) ⟨⟩ ⟨⟩) (fun t103 h_79 => 
                                                                                          Join1 (fun k_23 h_80 => guardP t93 true (Hp Try.prog false (binS .neq 27 (.tmp 103) (.const (.int .i64 0)) t103 (.int .i64 0)) k_23 h_80 ⟨⟩) (k_23 undef h_80) ⟨⟩ ⟨⟩) (fun t104 h_81 => 
                                                                                            Join1 (fun k_24 h_82 => guardP t93 true (k_24 t104 h_82) (k_24 undef h_82) ⟨⟩ ⟨⟩) (fun t105 h_83 => 
                                                                                              Join1 (fun k_25 h_84 => guardP t105 false (k_25 t32 h_84) (k_25 undef h_84) ⟨⟩ ⟨⟩) (fun t106 h_85 => 
                                                                                                Join1 (fun k_26 h_86 => guardP t105 false (k_26 t92 h_86) (k_26 undef h_86) ⟨⟩ ⟨⟩) (fun t107 h_87 => 
                                                                                                  Join1 (fun k_27 h_88 => guardP t105 false (CallsH Try.prog 16 #[t106, t107] h_88 k_27 ⟨⟩) (k_27 undef h_88) ⟨⟩ ⟨⟩) (fun t108 h_89 => 
                                                                                                    Join1 (fun k_28 h_90 => guardP t105 false (Hp Try.prog false (Op.unary .not t108) k_28 h_90 ⟨⟩) (k_28 undef h_90) ⟨⟩ ⟨⟩) (fun t109 h_91 => 
                                                                                                      Join1 (fun k_29 h_92 => guardP t93 true (Hp Try.prog false (pickS t105 (.bool true) t109) k_29 h_92 ⟨⟩) (k_29 undef h_92) ⟨⟩ ⟨⟩) (fun t110 h_93 => 
                                                                                                        Hp Try.prog false (pickS t93 t110 (.bool false)) (fun t111 h_94 => 
                                                                                                          Join1 (fun k_30 h_95 => guardP t111 false (k_30 t93 h_95) (k_30 undef h_95) ⟨⟩ ⟨⟩) (fun t113 h_96 => 
                                                                                                            Join1 (fun k_31 h_97 => guardP t111 false (Hp Try.prog false (Op.unary .not t113) k_31 h_97 ⟨⟩) (k_31 undef h_97) ⟨⟩ ⟨⟩) (fun t114 h_98 => 
                                                                                                              Join1 (fun k_32 h_99 => guardP t111 false (k_32 t114 h_99) (k_32 undef h_99) ⟨⟩ ⟨⟩) (fun t115 h_100 => 
                                                                                                                Join1 (fun k_33 h_101 => guardP t115 true (k_33 t33 h_101) (k_33 undef h_101) ⟨⟩ ⟨⟩) (fun t116 h_102 => 
                                                                                                                  Join1 (fun k_34 h_103 => guardP t115 true (Hp Try.prog false (binS .neq 27 (.tmp 116) (.const (.int .i64 210)) t116 (.int .i64 210)) k_34 h_103 ⟨⟩) (k_34 undef h_103) ⟨⟩ ⟨⟩) (fun t117 h_104 => 
                                                                                                                    Join1 (fun k_35 h_105 => guardP t115 true (k_35 t117 h_105) (k_35 undef h_105) ⟨⟩ ⟨⟩) (fun t118 h_106 => 
                                                                                                                      Join1 (fun k_36 h_107 => guardP t118 false (k_36 t32 h_107) (k_36 undef h_107) ⟨⟩ ⟨⟩) (fun t119 h_108 => 
                                                                                                                        Join1 (fun k_37 h_109 => guardP t118 false (Hp Try.prog false (Builtin.len_ #[36] 3 #[t119]) k_37 h_109 ⟨⟩) (k_37 undef h_109) ⟨⟩ ⟨⟩) (fun t120 h_110 => 
                                                                                                                          Join1 (fun k_38 h_111 => guardP t118 false (Hp Try.prog false (binS .neq 3 (.tmp 120) (.const (.int .i64 0)) t120 (.int .i64 0)) k_38 h_111 ⟨⟩) (k_38 undef h_111) ⟨⟩ ⟨⟩) (fun t121 h_112 => 
                                                                                                                            Join1 (fun k_39 h_113 => guardP t115 true (Hp Try.prog false (pickS t118 (.bool true) t121) k_39 h_113 ⟨⟩) (k_39 undef h_113) ⟨⟩ ⟨⟩) (fun t122 h_114 => 
                                                                                                                              Join1 (fun k_40 h_115 => guardP t111 false (Hp Try.prog false (pickS t115 t122 (.bool false)) k_40 h_115 ⟨⟩) (k_40 undef h_115) ⟨⟩ ⟨⟩) (fun t123 h_116 => 
                                                                                                                                Hp Try.prog false (pickS t111 (.bool true) t123) (fun t124 h_117 => 
                                                                                                                                  CondP t124 (
                                                                                                                                    R (.bool false) h_117) (
                                                                                                                                    Join1 (fun k_41 h_118 => guardP t100 true (k_41 t40 h_118) (k_41 undef h_118) ⟨⟩ ⟨⟩) (fun t127 h_119 => 
                                                                                                                                      Join1 (fun k_42 h_120 => guardP t100 true (Hp Try.prog false (binS .eql 27 (.tmp 127) (.const (.int .i64 0)) t127 (.int .i64 0)) k_42 h_120 ⟨⟩) (k_42 undef h_120) ⟨⟩ ⟨⟩) (fun t128 h_121 => 
                                                                                                                                        Hp Try.prog false (pickS t100 t128 (.bool false)) (fun t129 h_122 => 
                                                                                                                                          Join1 (fun k_43 h_123 => guardP t129 true (k_43 t39 h_123) (k_43 undef h_123) ⟨⟩ ⟨⟩) (fun t131 h_124 => 
                                                                                                                                            Join1 (fun k_44 h_125 => guardP t129 true (k_44 t99 h_125) (k_44 undef h_125) ⟨⟩ ⟨⟩) (fun t132 h_126 => 
                                                                                                                                              Join1 (fun k_45 h_127 => guardP t129 true (CallsH Try.prog 11 #[t131, t132] h_127 k_45 ⟨⟩) (k_45 undef h_127) ⟨⟩ ⟨⟩) (fun t133 h_128 => 
                                                                                                                                                Hp Try.prog false (pickS t129 t133 (.bool false)) (fun t134 h_129 => 
                                                                                                                                                  Join1 (fun k_46 h_130 => guardP t134 false (k_46 t100 h_130) (k_46 undef h_130) ⟨⟩ ⟨⟩) (fun t136 h_131 => 
                                                                                                                                                    Join1 (fun k_47 h_132 => guardP t134 false (Hp Try.prog false (Op.unary .not t136) k_47 h_132 ⟨⟩) (k_47 undef h_132) ⟨⟩ ⟨⟩) (fun t137 h_133 => 
                                                                                                                                                      Join1 (fun k_48 h_134 => guardP t134 false (k_48 t137 h_134) (k_48 undef h_134) ⟨⟩ ⟨⟩) (fun t138 h_135 => 
                                                                                                                                                        Join1 (fun k_49 h_136 => guardP t138 true (k_49 t40 h_136) (k_49 undef h_136) ⟨⟩ ⟨⟩) (fun t139 h_137 => 
                                                                                                                                                          Join1 (fun k_50 h_138 => guardP t138 true (Hp Try.prog false (binS .eql 27 (.tmp 139) (.const (.int .i64 210)) t139 (.int .i64 210)) k_50 h_138 ⟨⟩) (k_50 undef h_138) ⟨⟩ ⟨⟩) (fun t140 h_139 => 
                                                                                                                                                            Join1 (fun k_51 h_140 => guardP t134 false (Hp Try.prog false (pickS t138 t140 (.bool false)) k_51 h_140 ⟨⟩) (k_51 undef h_140) ⟨⟩ ⟨⟩) (fun t141 h_141 => 
                                                                                                                                                              Join1 (fun k_52 h_142 => guardP t134 false (k_52 t141 h_142) (k_52 undef h_142) ⟨⟩ ⟨⟩) (fun t142 h_143 => 
                                                                                                                                                                Join1 (fun k_53 h_144 => guardP t142 true (k_53 t39 h_144) (k_53 undef h_144) ⟨⟩ ⟨⟩) (fun t143 h_145 => 
                                                                                                                                                                  Join1 (fun k_54 h_146 => guardP t142 true (Hp Try.prog false (Builtin.len_ #[22] 3 #[t143]) k_54 h_146 ⟨⟩) (k_54 undef h_146) ⟨⟩ ⟨⟩) (fun t144 h_147 => 
                                                                                                                                                                    Join1 (fun k_55 h_148 => guardP t142 true (Hp Try.prog false (binS .eql 3 (.tmp 144) (.const (.int .i64 0)) t144 (.int .i64 0)) k_55 h_148 ⟨⟩) (k_55 undef h_148) ⟨⟩ ⟨⟩) (fun t145 h_149 => 
                                                                                                                                                                      Join1 (fun k_56 h_150 => guardP t134 false (Hp Try.prog false (pickS t142 t145 (.bool false)) k_56 h_150 ⟨⟩) (k_56 undef h_150) ⟨⟩ ⟨⟩) (fun t146 h_151 => 
                                                                                                                                                                        Hp Try.prog false (pickS t134 (.bool true) t146) (fun t147 h_152 => 
                                                                                                                                                                          Join1 (fun k_57 h_153 => guardP t147 true (CallsH Try.prog 8 #[] h_153 k_57 ⟨⟩) (k_57 undef h_153) ⟨⟩ ⟨⟩) (fun t149 h_154 => 
                                                                                                                                                                            Hp Try.prog false (pickS t147 t149 (.bool false)) (fun t150 h_155 => 
                                                                                                                                                                              R t150 h_155) h_154 ⟨⟩) h_152 ⟨⟩ ⟨⟩) h_151 ⟨⟩) h_149 ⟨⟩ ⟨⟩) h_147 ⟨⟩ ⟨⟩) h_145 ⟨⟩ ⟨⟩) h_143 ⟨⟩ ⟨⟩) h_141 ⟨⟩ ⟨⟩) h_139 ⟨⟩ ⟨⟩) h_137 ⟨⟩ ⟨⟩) h_135 ⟨⟩ ⟨⟩) h_133 ⟨⟩ ⟨⟩) h_131 ⟨⟩ ⟨⟩) h_129 ⟨⟩ ⟨⟩) h_128 ⟨⟩) h_126 ⟨⟩ ⟨⟩) h_124 ⟨⟩ ⟨⟩) h_122 ⟨⟩ ⟨⟩) h_121 ⟨⟩) h_119 ⟨⟩ ⟨⟩) h_117 ⟨⟩ ⟨⟩) ⟨⟩ ⟨⟩) h_116 ⟨⟩) h_114 ⟨⟩ ⟨⟩) h_112 ⟨⟩ ⟨⟩) h_110 ⟨⟩ ⟨⟩) h_108 ⟨⟩ ⟨⟩) h_106 ⟨⟩ ⟨⟩) h_104 ⟨⟩ ⟨⟩) h_102 ⟨⟩ ⟨⟩) h_100 ⟨⟩ ⟨⟩) h_98 ⟨⟩ ⟨⟩) h_96 ⟨⟩ ⟨⟩) h_94 ⟨⟩ ⟨⟩) h_93 ⟨⟩) h_91 ⟨⟩ ⟨⟩) h_89 ⟨⟩ ⟨⟩) h_87 ⟨⟩ ⟨⟩) h_85 ⟨⟩ ⟨⟩) h_83 ⟨⟩ ⟨⟩) h_81 ⟨⟩ ⟨⟩) h_79 ⟨⟩ ⟨⟩) h_77 ⟨⟩ ⟨⟩) h_76 ⟨⟩) h_75 ⟨⟩) ⟨⟩) h_73 ⟨⟩) h_72 ⟨⟩) ⟨⟩) ⟨⟩ ⟨⟩) h_48 ⟨⟩) h_46 ⟨⟩ ⟨⟩) h_44 ⟨⟩ ⟨⟩) h_43 ⟨⟩) h_41 ⟨⟩ ⟨⟩) h_39 ⟨⟩ ⟨⟩) h_38 ⟨⟩) ⟨⟩ ⟨⟩) h_37 ⟨⟩) h_35 ⟨⟩ ⟨⟩) h_33 ⟨⟩ ⟨⟩) h_31 ⟨⟩ ⟨⟩) h_29 ⟨⟩ ⟨⟩) h_27 ⟨⟩ ⟨⟩) h_25 ⟨⟩ ⟨⟩) h_23 ⟨⟩ ⟨⟩) h_21 ⟨⟩ ⟨⟩) h_19 ⟨⟩ ⟨⟩) h_17 ⟨⟩ ⟨⟩) h_16 ⟨⟩) h_15 ⟨⟩) h_14 ⟨⟩) h_13 ⟨⟩) h_12 ⟨⟩) ⟨⟩) h_10 ⟨⟩) h_9 ⟨⟩) ⟨⟩) h_7 ⟨⟩) h_6 ⟨⟩) h_5 ⟨⟩) h_4 ⟨⟩) h_2 ⟨⟩) ⟨⟩ ⟨⟩) h_1 ⟨⟩) h ⟨⟩

theorem n4_calls {bits0 b1 n2 : Value} {R : Value → Heap → Prop} {h : Heap} (H : n4 bits0 b1 n2 R h) : CallsH Try.prog 4 #[bits0, b1, n2] h R ⟨⟩ :=
  callsH_of_eq Try.follow .l Try.func4 (by kernel_rfl) (by kernel_rfl) (by kernel_rfl) H

/-- palimpsest/palimpsestlaw11.known -/
def n8 (R : Value → Heap → Prop) (h : Heap) : Prop :=
  Hp Try.prog false (Instr.build 61 #[(0, (str [97])), (1, (.int .i64 1024)), (2, (.int .i64 1)), (3, (.int .i64 512))]) (fun t8 h_1 => 
    Hp Try.prog false (Instr.alloc 61 true undef) (fun x1 h_2 => 
      Hp Try.prog false (storeS 61 x1 t8) (fun _ h_3 => 
        Hp Try.prog false (Instr.loadAt 61 x1) (fun t10 h_4 => 
          Hp Try.prog false (Instr.buildSlice 36 1 #[(0, t10)]) (fun t11 h_5 => 
            CallsH Try.prog 31 #[(.int .i64 9), t11] h_5 (fun t12 h_6 => 
              Hp Try.prog false (Instr.extract t12 0) (fun t13 h_7 => 
                Hp Try.prog false (Instr.extract t12 1) (fun t14 h_8 => 
                  CallsH Try.prog 13 #[(.int .i64 9), t13, (.int .i64 1)] h_8 (fun t17 h_9 => 
                    Hp Try.prog false (Instr.extract t17 0) (fun t18 h_10 => 
                      Hp Try.prog false (Instr.extract t17 1) (fun t19 h_11 => 
                        CallsH Try.prog 13 #[(.int .i64 9), t13, (.int .i64 2)] h_11 (fun t22 h_12 => 
                          Hp Try.prog false (Instr.extract t22 0) (fun t23 h_13 => 
                            Hp Try.prog false (Instr.extract t22 1) (fun t24 h_14 => 
                              Hp Try.prog true (binS .eql 27 (.tmp 25) (.const (.int .i64 0)) t14 (.int .i64 0)) (fun t26 _ => 
                                Join1 (fun k h_15 => guardP t26 true (k t13 h_15) (k undef h_15) ⟨⟩ ⟨⟩) (fun t28 _ => 
                                  Join1 (fun k_1 h_16 => guardP t26 true (Hp Try.prog true (Builtin.len_ #[26] 3 #[t28]) k_1 h_16 ⟨⟩) (k_1 undef h_16) ⟨⟩ ⟨⟩) (fun t29 _ => 
                                    Join1 (fun k_2 h_17 => guardP t26 true (Hp Try.prog true (binS .eql 3 (.tmp 29) (.const (.int .i64 22)) t29 (.int .i64 22)) k_2 h_17 ⟨⟩) (k_2 undef h_17) ⟨⟩ ⟨⟩) (fun t30 _ => 
                                      Hp Try.prog true (pickS t26 t30 (.bool false)) (fun t31 _ => 
                                        Join1 (fun k_3 h_18 => guardP t31 true (k_3 t13 h_18) (k_3 undef h_18) ⟨⟩ ⟨⟩) (fun t33 _ => 
                                          Join1 (fun k_4 h_19 => guardP t31 true (Hp Try.prog true (Instr.indexAt 26 t33 (.int .i64 0)) k_4 h_19 ⟨⟩) (k_4 undef h_19) ⟨⟩ ⟨⟩) (fun t34 _ => 
                                            Join1 (fun k_5 h_20 => guardP t31 true (Hp Try.prog true (Instr.loadAt 5 t34) k_5 h_20 ⟨⟩) (k_5 undef h_20) ⟨⟩ ⟨⟩) (fun t35 _ => 
                                              Join1 (fun k_6 h_21 => guardP t31 true (Hp Try.prog true (binS .eql 5 (.tmp 35) (.const (.int .u8 1)) t35 (.int .u8 1)) k_6 h_21 ⟨⟩) (k_6 undef h_21) ⟨⟩ ⟨⟩) (fun t36 _ => 
                                                Hp Try.prog true (pickS t31 t36 (.bool false)) (fun t37 _ => 
                                                  Join1 (fun k_7 h_22 => guardP t37 true (k_7 t13 h_22) (k_7 undef h_22) ⟨⟩ ⟨⟩) (fun t39 _ => 
                                                    Join1 (fun k_8 h_23 => guardP t37 true (Hp Try.prog true (Instr.indexAt 26 t39 (.int .i64 1)) k_8 h_23 ⟨⟩) (k_8 undef h_23) ⟨⟩ ⟨⟩) (fun t40 _ => 
                                                      Join1 (fun k_9 h_24 => guardP t37 true (Hp Try.prog true (Instr.loadAt 5 t40) k_9 h_24 ⟨⟩) (k_9 undef h_24) ⟨⟩ ⟨⟩) (fun t41 _ => 
                                                        Join1 (fun k_10 h_25 => guardP t37 true (Hp Try.prog true (binS .eql 5 (.tmp 41) (.const (.int .u8 97)) t41 (.int .u8 97)) k_10 h_25 ⟨⟩) (k_10 undef h_25) ⟨⟩ ⟨⟩) (fun t42 _ => 
                                                          Hp Try.prog true (pickS t37 t42 (.bool false)) (fun t43 _ => 
                                                            Join1 (fun k_11 h_26 => guardP t43 true (k_11 t19 h_26) (k_11 undef h_26) ⟨⟩ ⟨⟩) (fun t45 _ => 
                                                              Join1 (fun k_12 h_27 => guardP t43 true (Hp Try.prog true (binS .eql 27 (.tmp 45) (.const (.int .i64 0)) t45 (.int .i64 0)) k_12 h_27 ⟨⟩) (k_12 undef h_27) ⟨⟩ ⟨⟩) (fun t46 _ => 
                                                                Hp Try.prog true (pickS t43 t46 (.bool false)) (fun t47 _ => 
                                                                  Join1 (fun k_13 h_28 => guardP t47 true (k_13 t18 h_28) (k_13 undef h_28) ⟨⟩ ⟨⟩) (fun t49 _ => 
                                                                    Join1 (fun k_14 h_29 => guardP t47 true (Hp Try.prog true (Builtin.len_ #[36] 3 #[t49]) k_14 h_29 ⟨⟩) (k_14 undef h_29) ⟨⟩ ⟨⟩) (fun t50 _ => 
                                                                      Join1 (fun k_15 h_30 => guardP t47 true (Hp Try.prog true (binS .eql 3 (.tmp 50) (.const (.int .i64 1)) t50 (.int .i64 1)) k_15 h_30 ⟨⟩) (k_15 undef h_30) ⟨⟩ ⟨⟩) (fun t51 _ => 
                                                                        Hp Try.prog true (pickS t47 t51 (.bool false)) (fun t52 _ => 
                                                                          Join1 (fun k_16 h_31 => guardP t52 true (k_16 t18 h_31) (k_16 undef h_31) ⟨⟩ ⟨⟩) (fun t54 _ => 
                                                                            Join1 (fun k_17 h_32 => guardP t52 true (Hp Try.prog true (Instr.indexAt 36 t54 (.int .i64 0)) k_17 h_32 ⟨⟩) (k_17 undef h_32) ⟨⟩ ⟨⟩) (fun t55 _ => 
                                                                              Join1 (fun k_18 h_33 => guardP t52 true (Hp Try.prog true (Instr.loadAt 61 t55) k_18 h_33 ⟨⟩) (k_18 undef h_33) ⟨⟩ ⟨⟩) (fun t56 _ => 
                                                                                Join1 (fun k_19 h_34 => guardP t52 true (Hp Try.prog true (Instr.loadAt 61 x1) k_19 h_34 ⟨⟩) (k_19 undef h_34) ⟨⟩ ⟨⟩) (fun t57 _ => 
                                                                                  Join1 (fun k_20 h_35 => guardP t52 true (Hp Try.prog true (binS .eql 61 (.tmp 56) (.tmp 57) t56 t57) k_20 h_35 ⟨⟩) (k_20 undef h_35) ⟨⟩ ⟨⟩) (fun t58 _ => 
                                                                                    Hp Try.prog true (pickS t52 t58 (.bool false)) (fun t59 _ => 
                                                                                      Join1 (fun k_21 h_36 => guardP t59 true (k_21 t24 h_36) (k_21 undef h_36) ⟨⟩ ⟨⟩) (fun t61 _ => 
                                                                                        Join1 (fun k_22 h_37 => guardP t59 true (Hp Try.prog true (binS .eql 27 (.tmp 61) (.const (.int .i64 210)) t61 (.int .i64 210)) k_22 h_37 ⟨⟩) (k_22 undef h_37) ⟨⟩ ⟨⟩) (fun t62 _ => 
                                                                                          Hp Try.prog true (pickS t59 t62 (.bool false)) (fun t63 _ => 
                                                                                            R t63 h_14) #[] ⟨⟩) #[] ⟨⟩ ⟨⟩) #[] ⟨⟩ ⟨⟩) #[] ⟨⟩) #[] ⟨⟩ ⟨⟩) h_14 ⟨⟩ ⟨⟩) h_14 ⟨⟩ ⟨⟩) #[] ⟨⟩ ⟨⟩) #[] ⟨⟩ ⟨⟩) #[] ⟨⟩) #[] ⟨⟩ ⟨⟩) #[] ⟨⟩ ⟨⟩) #[] ⟨⟩ ⟨⟩) #[] ⟨⟩) #[] ⟨⟩ ⟨⟩) #[] ⟨⟩ ⟨⟩) #[] ⟨⟩) #[] ⟨⟩ ⟨⟩) h_14 ⟨⟩ ⟨⟩) #[] ⟨⟩ ⟨⟩) #[] ⟨⟩ ⟨⟩) #[] ⟨⟩) #[] ⟨⟩ ⟨⟩) h_14 ⟨⟩ ⟨⟩) #[] ⟨⟩ ⟨⟩) #[] ⟨⟩ ⟨⟩) #[] ⟨⟩) #[] ⟨⟩ ⟨⟩) #[] ⟨⟩ ⟨⟩) #[] ⟨⟩ ⟨⟩) #[] ⟨⟩) h_13 ⟨⟩) h_12 ⟨⟩) ⟨⟩) h_10 ⟨⟩) h_9 ⟨⟩) ⟨⟩) h_7 ⟨⟩) h_6 ⟨⟩) ⟨⟩) h_4 ⟨⟩) h_3 ⟨⟩) h_2 ⟨⟩) h_1 ⟨⟩) h ⟨⟩

theorem n8_calls {R : Value → Heap → Prop} {h : Heap} (H : n8  R h) : CallsH Try.prog 8 #[] h R ⟨⟩ :=
  callsH_of_eq Try.follow .l Try.func8 (by kernel_rfl) (by kernel_rfl) (by kernel_rfl) H

/-- palimpsest/tables.Rows -/
def n9 (bits0 l1 : Value) (R : Value → Heap → Prop) (h : Heap) : Prop :=
  CallsH Try.prog 32 #[bits0, (.int .i64 64), l1, (.func (.func 33) #[] #[]), (.func (.func 34) #[] #[]), (.func (.func 35) #[] #[])] h (fun t8 h_1 => 
    Hp Try.prog false (Instr.extract t8 0) (fun t9 h_2 => 
      Hp Try.prog false (Instr.extract t8 1) (fun t10 h_3 => 
        R (.tuple #[t9, t10]) h_3) h_2 ⟨⟩) h_1 ⟨⟩) ⟨⟩

theorem n9_calls {bits0 l1 : Value} {R : Value → Heap → Prop} {h : Heap} (H : n9 bits0 l1 R h) : CallsH Try.prog 9 #[bits0, l1] h R ⟨⟩ :=
  callsH_of_eq Try.follow .l Try.func9 (by kernel_rfl) (by kernel_rfl) (by kernel_rfl) H

/-- palimpsest/palimpsestref11.Rows -/
def n10 (bits0 l1 : Value) (R : Value → Heap → Prop) (h : Heap) : Prop :=
  Hp Try.prog false (binS .lss 3 (.tmp 9) (.const (.int .i64 9)) bits0 (.int .i64 9)) (fun t10 h_1 => 
    Join1 (fun k h_2 => guardP t10 false (k bits0 h_2) (k undef h_2) ⟨⟩ ⟨⟩) (fun t12 h_3 => 
      Join1 (fun k_1 h_4 => guardP t10 false (Hp Try.prog false (binS .gtr 3 (.tmp 12) (.const (.int .i64 16)) t12 (.int .i64 16)) k_1 h_4 ⟨⟩) (k_1 undef h_4) ⟨⟩ ⟨⟩) (fun t13 h_5 => 
        Hp Try.prog false (pickS t10 (.bool true) t13) (fun t14 h_6 => 
          CondP t14 (
            R (.tuple #[(.slice none 0 0), (.int .i64 2)]) h_6) (
            LoopC 2 (fun (X : Value → Value → Heap → Prop) => fun out6 i7 h_7 =>
              Hp Try.prog false (Builtin.len_ #[22] 3 #[l1]) (fun t17 h_8 => 
                Hp Try.prog false (binS .lss 3 (.tmp 15) (.tmp 17) i7 t17) (fun t18 h_9 => 
                  CondP t18 (
                    Hp Try.prog false (Instr.indexAt 22 l1 i7) (fun t23 h_10 => 
                      Hp Try.prog false (Instr.loadAt 25 t23) (fun t24 h_11 => 
                        CallsH Try.prog 36 #[t24, bits0] h_11 (fun t26 h_12 => 
                          Hp Try.prog false (Op.unary .not t26) (fun t27 h_13 => 
                            CondP t27 (
                              R (.tuple #[(.slice none 0 0), (.int .i64 2)]) h_13) (
                              LoopC 1 (fun (X_1 : Value → Heap → Prop) => fun k8 h_14 =>
                                Hp Try.prog false (binS .lss 3 (.tmp 28) (.tmp 29) k8 i7) (fun t30 h_15 => 
                                  CondP t30 (
                                    Hp Try.prog true (Instr.indexAt 22 l1 k8) (fun t35 _ => 
                                      Hp Try.prog true (Instr.fieldAt 25 t35 0) (fun t36 _ => 
                                        Hp Try.prog true (Instr.loadAt 9 t36) (fun t37 _ => 
                                          Hp Try.prog true (Instr.indexAt 22 l1 i7) (fun t40 _ => 
                                            Hp Try.prog true (Instr.fieldAt 25 t40 0) (fun t41 _ => 
                                              Hp Try.prog true (Instr.loadAt 9 t41) (fun t42 _ => 
                                                Hp Try.prog true (binS .eql 9 (.tmp 37) (.tmp 42) t37 t42) (fun t43 _ => 
                                                  CondP t43 (
                                                    R (.tuple #[(.slice none 0 0), (.int .i64 2)]) h_15) (
                                                    Hp Try.prog false (binS .add 3 (.tmp 31) (.const (.int .i64 1)) k8 (.int .i64 1)) (fun t32 h_16 => 
                                                      X_1 t32 h_16) h_15 ⟨⟩) ⟨⟩ ⟨⟩) #[] ⟨⟩) h_15 ⟨⟩) #[] ⟨⟩) #[] ⟨⟩) h_15 ⟨⟩) #[] ⟨⟩) #[] ⟨⟩) (
                                    Hp Try.prog false (Instr.indexAt 22 l1 i7) (fun t47 h_17 => 
                                      Hp Try.prog false (Instr.fieldAt 25 t47 0) (fun t48 h_18 => 
                                        Hp Try.prog false (Instr.loadAt 9 t48) (fun t49 h_19 => 
                                          CallsH Try.prog 37 #[t49] h_19 (fun t50 h_20 => 
                                            Hp Try.prog false (Builtin.append_ #[26, 26] 26 #[out6, t50]) (fun t51 h_21 => 
                                              Hp Try.prog true (Instr.indexAt 22 l1 i7) (fun t55 _ => 
                                                Hp Try.prog true (Instr.fieldAt 25 t55 1) (fun t56 _ => 
                                                  Hp Try.prog true (Instr.loadAt 3 t56) (fun t57 _ => 
                                                    Hp Try.prog true (convert 3 5 t57) (fun t58 _ => 
                                                      Hp Try.prog true (Instr.indexAt 22 l1 i7) (fun t61 _ => 
                                                        Hp Try.prog true (Instr.fieldAt 25 t61 2) (fun t62 _ => 
                                                          Hp Try.prog true (Instr.loadAt 3 t62) (fun t63 _ => 
                                                            Hp Try.prog true (convert 3 5 t63) (fun t64 _ => 
                                                              Hp Try.prog false (Instr.buildSlice 26 2 #[(0, t58), (1, t64)]) (fun t65 h_22 => 
                                                                Hp Try.prog false (Builtin.append_ #[26, 26] 26 #[t51, t65]) (fun t66 h_23 => 
                                                                  Hp Try.prog false (Instr.indexAt 22 l1 i7) (fun t70 h_24 => 
                                                                    Hp Try.prog false (Instr.fieldAt 25 t70 3) (fun t71 h_25 => 
                                                                      Hp Try.prog false (Instr.loadAt 2 t71) (fun t72 h_26 => 
                                                                        Hp Try.prog false (convert 2 45 t72) (fun t73 h_27 => 
                                                                          CallsH Try.prog 38 #[t73, (.int .i64 8)] h_27 (fun t74 h_28 => 
                                                                            Hp Try.prog false (Builtin.append_ #[26, 26] 26 #[t66, t74]) (fun t75 h_29 => 
                                                                              Hp Try.prog false (Instr.indexAt 22 l1 i7) (fun t79 h_30 => 
                                                                                Hp Try.prog false (Instr.fieldAt 25 t79 4) (fun t80 h_31 => 
                                                                                  Hp Try.prog false (Instr.loadAt 3 t80) (fun t81 h_32 => 
                                                                                    Hp Try.prog false (convert 3 45 t81) (fun t82 h_33 => 
                                                                                      CallsH Try.prog 38 #[t82, (.int .i64 4)] h_33 (fun t83 h_34 => 
                                                                                        Hp Try.prog false (Builtin.append_ #[26, 26] 26 #[t75, t83]) (fun t84 h_35 => 
                                                                                          Hp Try.prog false (binS .add 3 (.tmp 19) (.const (.int .i64 1)) i7 (.int .i64 1)) (fun t20 h_36 => 
                                                                                            X t84 t20 h_36) h_35 ⟨⟩) h_34 ⟨⟩) ⟨⟩) h_32 ⟨⟩) h_31 ⟨⟩) h_30 ⟨⟩) h_29 ⟨⟩) h_28 ⟨⟩) ⟨⟩) h_26 ⟨⟩) h_25 ⟨⟩) h_24 ⟨⟩) h_23 ⟨⟩) h_22 ⟨⟩) h_21 ⟨⟩) #[] ⟨⟩) h_21 ⟨⟩) #[] ⟨⟩) #[] ⟨⟩) #[] ⟨⟩) h_21 ⟨⟩) #[] ⟨⟩) #[] ⟨⟩) h_20 ⟨⟩) ⟨⟩) h_18 ⟨⟩) h_17 ⟨⟩) h_15 ⟨⟩) ⟨⟩ ⟨⟩) h_14 ⟨⟩) [(.int .i64 0)] h_13 ⟨⟩) ⟨⟩ ⟨⟩) h_12 ⟨⟩) ⟨⟩) h_10 ⟨⟩) h_9 ⟨⟩) (
                    Hp Try.prog false (Builtin.len_ #[22] 3 #[l1]) (fun t86 h_37 => 
                      Hp Try.prog false (binS .gtr 3 (.tmp 86) (.const (.int .i64 64)) t86 (.int .i64 64)) (fun t87 h_38 => 
                        CondP t87 (
                          R (.tuple #[(.slice none 0 0), (.int .i64 3)]) h_38) (
                          R (.tuple #[out6, (.int .i64 0)]) h_38) ⟨⟩ ⟨⟩) h_37 ⟨⟩) h_9 ⟨⟩) ⟨⟩ ⟨⟩) h_8 ⟨⟩) h_7 ⟨⟩) [(.slice none 0 0), (.int .i64 0)] h_6 ⟨⟩) ⟨⟩ ⟨⟩) h_5 ⟨⟩) h_3 ⟨⟩ ⟨⟩) h_1 ⟨⟩ ⟨⟩) h ⟨⟩

theorem n10_calls {bits0 l1 : Value} {R : Value → Heap → Prop} {h : Heap} (H : n10 bits0 l1 R h) : CallsH Try.prog 10 #[bits0, l1] h R ⟨⟩ :=
  callsH_of_eq Try.follow (.n none .l (.n none .l (.n none .l (.n none (.n none .l (.n none (.n (some [7, 8]) (.n none .l (.n none (.n none (.n none .l (.n none (.n none .l (.n none (.n (some [9]) .l .l) .l)) .l)) .l) .l)) .l) .l)) .l)))) Try.func10 (by kernel_rfl) (by kernel_rfl) (by kernel_rfl) H

/-- palimpsest/palimpsestlaw11.sameRows -/
def n11 (a0 b1 : Value) (R : Value → Heap → Prop) (h : Heap) : Prop :=
  Hp Try.prog false (Builtin.len_ #[22] 3 #[a0]) (fun t7 h_1 => 
    Hp Try.prog false (Builtin.len_ #[22] 3 #[b1]) (fun t9 h_2 => 
      Hp Try.prog false (binS .neq 3 (.tmp 7) (.tmp 9) t7 t9) (fun t10 h_3 => 
        CondP t10 (
          R (.bool false) h_3) (
          LoopC 1 (fun (X : Value → Heap → Prop) => fun i5 h_4 =>
            Hp Try.prog false (Builtin.len_ #[22] 3 #[a0]) (fun t13 h_5 => 
              Hp Try.prog false (binS .lss 3 (.tmp 11) (.tmp 13) i5 t13) (fun t14 h_6 => 
                CondP t14 (
                  Hp Try.prog true (Instr.indexAt 22 a0 i5) (fun t19 _ => 
                    Hp Try.prog true (Instr.loadAt 25 t19) (fun t20 _ => 
                      Hp Try.prog true (Instr.indexAt 22 b1 i5) (fun t23 _ => 
                        Hp Try.prog true (Instr.loadAt 25 t23) (fun t24 _ => 
                          Hp Try.prog true (binS .neq 25 (.tmp 20) (.tmp 24) t20 t24) (fun t25 _ => 
                            CondP t25 (
                              R (.bool false) h_6) (
                              Hp Try.prog false (binS .add 3 (.tmp 15) (.const (.int .i64 1)) i5 (.int .i64 1)) (fun t16 h_7 => 
                                X t16 h_7) h_6 ⟨⟩) ⟨⟩ ⟨⟩) #[] ⟨⟩) h_6 ⟨⟩) #[] ⟨⟩) h_6 ⟨⟩) #[] ⟨⟩) (
                  R (.bool true) h_6) ⟨⟩ ⟨⟩) h_5 ⟨⟩) h_4 ⟨⟩) [(.int .i64 0)] h_3 ⟨⟩) ⟨⟩ ⟨⟩) h_2 ⟨⟩) h_1 ⟨⟩) h ⟨⟩

theorem n11_calls {a0 b1 : Value} {R : Value → Heap → Prop} {h : Heap} (H : n11 a0 b1 R h) : CallsH Try.prog 11 #[a0, b1] h R ⟨⟩ :=
  callsH_of_eq Try.follow (.n none .l (.n none .l (.n none (.n none .l (.n none (.n (some [6]) .l .l) .l)) .l))) Try.func11 (by kernel_rfl) (by kernel_rfl) (by kernel_rfl) H

/-- palimpsest/tables.ReadRows -/
def n12 (bits0 b1 n2 : Value) (R : Value → Heap → Prop) (h : Heap) : Prop :=
  Hp Try.prog false (Instr.box 3 bits0) (fun bits3 h_1 => 
    Hp Try.prog false (Instr.loadAt 3 bits3) (fun t8 h_2 => 
      Hp Try.prog false (pure (.func (.func 41) #[] #[bits3])) (fun t11 h_3 => 
        CallsH Try.prog 39 #[t8, n2, b1, (.func (.func 40) #[] #[]), t11] h_3 (fun t12 h_4 => 
          Hp Try.prog false (Instr.extract t12 0) (fun t13 h_5 => 
            Hp Try.prog false (Instr.extract t12 1) (fun t14 h_6 => 
              R (.tuple #[t13, t14]) h_6) h_5 ⟨⟩) h_4 ⟨⟩) ⟨⟩) h_2 ⟨⟩) h_1 ⟨⟩) h ⟨⟩

theorem n12_calls {bits0 b1 n2 : Value} {R : Value → Heap → Prop} {h : Heap} (H : n12 bits0 b1 n2 R h) : CallsH Try.prog 12 #[bits0, b1, n2] h R ⟨⟩ :=
  callsH_of_eq Try.follow .l Try.func12 (by kernel_rfl) (by kernel_rfl) (by kernel_rfl) H

/-- palimpsest/tables.ReadSnaps -/
def n13 (bits0 b1 n2 : Value) (R : Value → Heap → Prop) (h : Heap) : Prop :=
  Hp Try.prog false (Instr.box 3 bits0) (fun bits3 h_1 => 
    Hp Try.prog false (Instr.loadAt 3 bits3) (fun t8 h_2 => 
      Hp Try.prog false (pure (.func (.func 44) #[] #[bits3])) (fun t11 h_3 => 
        CallsH Try.prog 42 #[t8, n2, b1, (.func (.func 43) #[] #[]), t11] h_3 (fun t12 h_4 => 
          Hp Try.prog false (Instr.extract t12 0) (fun t13 h_5 => 
            Hp Try.prog false (Instr.extract t12 1) (fun t14 h_6 => 
              R (.tuple #[t13, t14]) h_6) h_5 ⟨⟩) h_4 ⟨⟩) ⟨⟩) h_2 ⟨⟩) h_1 ⟨⟩) h ⟨⟩

theorem n13_calls {bits0 b1 n2 : Value} {R : Value → Heap → Prop} {h : Heap} (H : n13 bits0 b1 n2 R h) : CallsH Try.prog 13 #[bits0, b1, n2] h R ⟨⟩ :=
  callsH_of_eq Try.follow .l Try.func13 (by kernel_rfl) (by kernel_rfl) (by kernel_rfl) H

/-- palimpsest/palimpsestref11.ReadSnaps -/
def n14 (bits0 b1 n2 : Value) (R : Value → Heap → Prop) (h : Heap) : Prop :=
  LoopC 3 (fun (X : Value → Value → Value → Heap → Prop) => fun l8 rest9 i10 h_1 =>
    Hp Try.prog false (binS .lss 3 (.tmp 18) (.tmp 19) i10 n2) (fun t20 h_2 => 
      CondP t20 (
        Hp Try.prog false (Builtin.len_ #[26] 3 #[rest9]) (fun t24 h_3 => 
          Hp Try.prog false (binS .lss 3 (.tmp 24) (.const (.int .i64 1)) t24 (.int .i64 1)) (fun t25 h_4 => 
            Join1 (fun k h_5 => guardP t25 false (k rest9 h_5) (k undef h_5) ⟨⟩ ⟨⟩) (fun t27 h_6 => 
              Join1 (fun k_1 h_7 => guardP t25 false (Hp Try.prog false (Builtin.len_ #[26] 3 #[t27]) k_1 h_7 ⟨⟩) (k_1 undef h_7) ⟨⟩ ⟨⟩) (fun t28 h_8 => 
                Join1 (fun k_2 h_9 => guardP t25 false (k_2 rest9 h_9) (k_2 undef h_9) ⟨⟩ ⟨⟩) (fun t29 h_10 => 
                  Join1 (fun k_3 h_11 => guardP t25 false (Hp Try.prog false (Instr.indexAt 26 t29 (.int .i64 0)) k_3 h_11 ⟨⟩) (k_3 undef h_11) ⟨⟩ ⟨⟩) (fun t30 h_12 => 
                    Join1 (fun k_4 h_13 => guardP t25 false (Hp Try.prog false (Instr.loadAt 5 t30) k_4 h_13 ⟨⟩) (k_4 undef h_13) ⟨⟩ ⟨⟩) (fun t31 h_14 => 
                      Join1 (fun k_5 h_15 => guardP t25 false (Hp Try.prog false (convert 5 3 t31) k_5 h_15 ⟨⟩) (k_5 undef h_15) ⟨⟩ ⟨⟩) (fun t32 h_16 => 
                        Join1 (fun k_6 h_17 => guardP t25 false (Hp Try.prog false (binS .add 3 (.const (.int .i64 1)) (.tmp 32) (.int .i64 1) t32) k_6 h_17 ⟨⟩) (k_6 undef h_17) ⟨⟩ ⟨⟩) (fun t33 h_18 => 
                          Join1 (fun k_7 h_19 => guardP t25 false (Hp Try.prog false (binS .add 3 (.tmp 33) (.const (.int .i64 20)) t33 (.int .i64 20)) k_7 h_19 ⟨⟩) (k_7 undef h_19) ⟨⟩ ⟨⟩) (fun t34 h_20 => 
                            Join1 (fun k_8 h_21 => guardP t25 false (Hp Try.prog false (binS .lss 3 (.tmp 28) (.tmp 34) t28 t34) k_8 h_21 ⟨⟩) (k_8 undef h_21) ⟨⟩ ⟨⟩) (fun t35 h_22 => 
                              Hp Try.prog false (pickS t25 (.bool true) t35) (fun t36 h_23 => 
                                CondP t36 (
                                  R (.tuple #[(.slice none 0 0), (.bool false)]) h_23) (
                                  Hp Try.prog false (Instr.indexAt 26 rest9 (.int .i64 0)) (fun t38 h_24 => 
                                    Hp Try.prog false (Instr.loadAt 5 t38) (fun t39 h_25 => 
                                      Hp Try.prog false (convert 5 3 t39) (fun t40 h_26 => 
                                        Hp Try.prog false (Instr.sliceAt 26 rest9 (some (.int .i64 1)) none none) (fun t43 h_27 => 
                                          CallsH Try.prog 45 #[t43, t40] h_27 (fun t45 h_28 => 
                                            Hp Try.prog false (Instr.extract t45 0) (fun t46 h_29 => 
                                              Hp Try.prog false (Instr.extract t45 1) (fun t47 h_30 => 
                                                Hp Try.prog false (Instr.extract t45 2) (fun t48 h_31 => 
                                                  Hp Try.prog true (convert 26 9 t46) (fun t51 _ => 
                                                    Hp Try.prog true (Instr.sliceAt 26 t47 none (some (.int .i64 8)) none) (fun t53 _ => 
                                                      Hp Try.prog true (Instr.sliceAt 26 t47 (some (.int .i64 8)) (some (.int .i64 12)) none) (fun t56 _ => 
                                                        Hp Try.prog true (Instr.sliceAt 26 t47 (some (.int .i64 12)) (some (.int .i64 20)) none) (fun t59 _ => 
                                                          CallsH Try.prog 46 #[t53] h_31 (fun t54 h_32 => Hp Try.prog true (convert 26 9 t46) (fun u _ => u = t51) h_32 ⟨⟩ ∧ 
                                                            CallsH Try.prog 46 #[t56] h_32 (fun t57 h_33 => Hp Try.prog true (convert 26 9 t46) (fun u _ => u = t51) h_33 ⟨⟩ ∧ 
                                                              CallsH Try.prog 46 #[t59] h_33 (fun t60 h_34 => Hp Try.prog true (convert 26 9 t46) (fun u _ => u = t51) h_34 ⟨⟩ ∧ 
                                                                Hp Try.prog true (Instr.build 61 #[(0, t51), (1, t54), (2, t57), (3, t60)]) (fun t61 _ => 
                                                                  Hp Try.prog false (Instr.buildSlice 36 1 #[(0, t61)]) (fun t62 h_35 => 
                                                                    Hp Try.prog false (Builtin.append_ #[36, 36] 36 #[l8, t62]) (fun t63 h_36 => 
                                                                      Hp Try.prog false (Instr.sliceAt 26 t47 (some (.int .i64 20)) none none) (fun t65 h_37 => 
                                                                        Hp Try.prog false (binS .add 3 (.tmp 21) (.const (.int .i64 1)) i10 (.int .i64 1)) (fun t22 h_38 => 
                                                                          X t63 t65 t22 h_38) h_37 ⟨⟩) h_36 ⟨⟩) h_35 ⟨⟩) h_34 ⟨⟩) #[] ⟨⟩) ⟨⟩) ⟨⟩) ⟨⟩) #[] ⟨⟩) #[] ⟨⟩) #[] ⟨⟩) h_31 ⟨⟩) h_30 ⟨⟩) h_29 ⟨⟩) h_28 ⟨⟩) ⟨⟩) h_26 ⟨⟩) h_25 ⟨⟩) h_24 ⟨⟩) h_23 ⟨⟩) ⟨⟩ ⟨⟩) h_22 ⟨⟩) h_20 ⟨⟩ ⟨⟩) h_18 ⟨⟩ ⟨⟩) h_16 ⟨⟩ ⟨⟩) h_14 ⟨⟩ ⟨⟩) h_12 ⟨⟩ ⟨⟩) h_10 ⟨⟩ ⟨⟩) h_8 ⟨⟩ ⟨⟩) h_6 ⟨⟩ ⟨⟩) h_4 ⟨⟩ ⟨⟩) h_3 ⟨⟩) h_2 ⟨⟩) (
        CallsH Try.prog 47 #[bits0, l8] h_2 (fun t69 h_39 => 
          Hp Try.prog false (Instr.extract t69 0) (fun t70 h_40 => 
            Hp Try.prog false (Instr.extract t69 1) (fun t71 h_41 => 
              Hp Try.prog false (binS .neq 3 (.tmp 72) (.const (.int .i64 0)) t71 (.int .i64 0)) (fun t73 h_42 => 
                Join1 (fun k_9 h_43 => guardP t73 false (k_9 t70 h_43) (k_9 undef h_43) ⟨⟩ ⟨⟩) (fun t75 h_44 => 
                  Join1 (fun k_10 h_45 => guardP t73 false (Hp Try.prog false (convert 26 9 t75) k_10 h_45 ⟨⟩) (k_10 undef h_45) ⟨⟩ ⟨⟩) (fun t76 h_46 => 
                    Join1 (fun k_11 h_47 => guardP t73 false (k_11 b1 h_47) (k_11 undef h_47) ⟨⟩ ⟨⟩) (fun t77 h_48 => 
                      Join1 (fun k_12 h_49 => guardP t73 false (Hp Try.prog false (convert 26 9 t77) k_12 h_49 ⟨⟩) (k_12 undef h_49) ⟨⟩ ⟨⟩) (fun t78 h_50 => 
                        Join1 (fun k_13 h_51 => guardP t73 false (Hp Try.prog false (binS .neq 9 (.tmp 76) (.tmp 78) t76 t78) k_13 h_51 ⟨⟩) (k_13 undef h_51) ⟨⟩ ⟨⟩) (fun t79 h_52 => 
                          Hp Try.prog false (pickS t73 (.bool true) t79) (fun t80 h_53 => 
                            CondP t80 (
                              R (.tuple #[(.slice none 0 0), (.bool false)]) h_53) (
                              R (.tuple #[l8, (.bool true)]) h_53) ⟨⟩ ⟨⟩) h_52 ⟨⟩) h_50 ⟨⟩ ⟨⟩) h_48 ⟨⟩ ⟨⟩) h_46 ⟨⟩ ⟨⟩) h_44 ⟨⟩ ⟨⟩) h_42 ⟨⟩ ⟨⟩) h_41 ⟨⟩) h_40 ⟨⟩) h_39 ⟨⟩) ⟨⟩) ⟨⟩ ⟨⟩) h_1 ⟨⟩) [(.slice none 0 0), b1, (.int .i64 0)] h ⟨⟩

theorem n14_calls {bits0 b1 n2 : Value} {R : Value → Heap → Prop} {h : Heap} (H : n14 bits0 b1 n2 R h) : CallsH Try.prog 14 #[bits0, b1, n2] h R ⟨⟩ :=
  callsH_of_eq Try.follow (.n none .l (.n none .l (.n none .l (.n none (.n none .l (.n none (.n (some [9, 10, 11]) .l .l) .l)) .l)))) Try.func14 (by kernel_rfl) (by kernel_rfl) (by kernel_rfl) H

/-- palimpsest/palimpsestref11.ReadRows -/
def n15 (bits0 b1 n2 : Value) (R : Value → Heap → Prop) (h : Heap) : Prop :=
  LoopC 3 (fun (X : Value → Value → Value → Heap → Prop) => fun l8 rest9 i10 h_1 =>
    Hp Try.prog false (binS .lss 3 (.tmp 18) (.tmp 19) i10 n2) (fun t20 h_2 => 
      CondP t20 (
        Hp Try.prog false (Builtin.len_ #[26] 3 #[rest9]) (fun t24 h_3 => 
          Hp Try.prog false (binS .lss 3 (.tmp 24) (.const (.int .i64 1)) t24 (.int .i64 1)) (fun t25 h_4 => 
            Join1 (fun k h_5 => guardP t25 false (k rest9 h_5) (k undef h_5) ⟨⟩ ⟨⟩) (fun t27 h_6 => 
              Join1 (fun k_1 h_7 => guardP t25 false (Hp Try.prog false (Builtin.len_ #[26] 3 #[t27]) k_1 h_7 ⟨⟩) (k_1 undef h_7) ⟨⟩ ⟨⟩) (fun t28 h_8 => 
                Join1 (fun k_2 h_9 => guardP t25 false (k_2 rest9 h_9) (k_2 undef h_9) ⟨⟩ ⟨⟩) (fun t29 h_10 => 
                  Join1 (fun k_3 h_11 => guardP t25 false (Hp Try.prog false (Instr.indexAt 26 t29 (.int .i64 0)) k_3 h_11 ⟨⟩) (k_3 undef h_11) ⟨⟩ ⟨⟩) (fun t30 h_12 => 
                    Join1 (fun k_4 h_13 => guardP t25 false (Hp Try.prog false (Instr.loadAt 5 t30) k_4 h_13 ⟨⟩) (k_4 undef h_13) ⟨⟩ ⟨⟩) (fun t31 h_14 => 
                      Join1 (fun k_5 h_15 => guardP t25 false (Hp Try.prog false (convert 5 3 t31) k_5 h_15 ⟨⟩) (k_5 undef h_15) ⟨⟩ ⟨⟩) (fun t32 h_16 => 
                        Join1 (fun k_6 h_17 => guardP t25 false (Hp Try.prog false (binS .add 3 (.const (.int .i64 1)) (.tmp 32) (.int .i64 1) t32) k_6 h_17 ⟨⟩) (k_6 undef h_17) ⟨⟩ ⟨⟩) (fun t33 h_18 => 
                          Join1 (fun k_7 h_19 => guardP t25 false (Hp Try.prog false (binS .add 3 (.tmp 33) (.const (.int .i64 14)) t33 (.int .i64 14)) k_7 h_19 ⟨⟩) (k_7 undef h_19) ⟨⟩ ⟨⟩) (fun t34 h_20 => 
                            Join1 (fun k_8 h_21 => guardP t25 false (Hp Try.prog false (binS .lss 3 (.tmp 28) (.tmp 34) t28 t34) k_8 h_21 ⟨⟩) (k_8 undef h_21) ⟨⟩ ⟨⟩) (fun t35 h_22 => 
                              Hp Try.prog false (pickS t25 (.bool true) t35) (fun t36 h_23 => 
                                CondP t36 (
                                  R (.tuple #[(.slice none 0 0), (.bool false)]) h_23) (
                                  Hp Try.prog false (Instr.indexAt 26 rest9 (.int .i64 0)) (fun t38 h_24 => 
                                    Hp Try.prog false (Instr.loadAt 5 t38) (fun t39 h_25 => 
                                      Hp Try.prog false (convert 5 3 t39) (fun t40 h_26 => 
                                        Hp Try.prog false (Instr.sliceAt 26 rest9 (some (.int .i64 1)) none none) (fun t43 h_27 => 
                                          CallsH Try.prog 45 #[t43, t40] h_27 (fun t45 h_28 => 
                                            Hp Try.prog false (Instr.extract t45 0) (fun t46 h_29 => 
                                              Hp Try.prog false (Instr.extract t45 1) (fun t47 h_30 => 
                                                Hp Try.prog false (Instr.extract t45 2) (fun t48 h_31 => 
                                                  Hp Try.prog true (convert 26 9 t46) (fun t51 _ => 
                                                    Hp Try.prog true (Instr.indexAt 26 t47 (.int .i64 0)) (fun t53 _ => 
                                                      Hp Try.prog true (Instr.loadAt 5 t53) (fun t54 _ => 
                                                        Hp Try.prog true (convert 5 3 t54) (fun t55 _ => 
                                                          Hp Try.prog true (Instr.indexAt 26 t47 (.int .i64 1)) (fun t57 _ => 
                                                            Hp Try.prog true (Instr.loadAt 5 t57) (fun t58 _ => 
                                                              Hp Try.prog true (convert 5 3 t58) (fun t59 _ => 
                                                                Hp Try.prog true (Instr.sliceAt 26 t47 (some (.int .i64 2)) (some (.int .i64 10)) none) (fun t61 _ => 
                                                                  Hp Try.prog true (Instr.sliceAt 26 t47 (some (.int .i64 10)) (some (.int .i64 14)) none) (fun t64 _ => 
                                                                    CallsH Try.prog 46 #[t61] h_31 (fun t62 h_32 => Hp Try.prog true (Instr.loadAt 5 t57) (fun u _ => u = t58) h_32 ⟨⟩ ∧ Hp Try.prog true (Instr.loadAt 5 t53) (fun u _ => u = t54) h_32 ⟨⟩ ∧ Hp Try.prog true (convert 26 9 t46) (fun u _ => u = t51) h_32 ⟨⟩ ∧ 
                                                                      CallsH Try.prog 46 #[t64] h_32 (fun t65 h_33 => Hp Try.prog true (Instr.loadAt 5 t57) (fun u _ => u = t58) h_33 ⟨⟩ ∧ Hp Try.prog true (Instr.loadAt 5 t53) (fun u _ => u = t54) h_33 ⟨⟩ ∧ Hp Try.prog true (convert 26 9 t46) (fun u _ => u = t51) h_33 ⟨⟩ ∧ 
                                                                        Hp Try.prog true (Instr.build 25 #[(0, t51), (1, t55), (2, t59), (3, t62), (4, t65)]) (fun t66 _ => 
                                                                          Hp Try.prog false (Instr.buildSlice 22 1 #[(0, t66)]) (fun t67 h_34 => 
                                                                            Hp Try.prog false (Builtin.append_ #[22, 22] 22 #[l8, t67]) (fun t68 h_35 => 
                                                                              Hp Try.prog false (Instr.sliceAt 26 t47 (some (.int .i64 14)) none none) (fun t70 h_36 => 
                                                                                Hp Try.prog false (binS .add 3 (.tmp 21) (.const (.int .i64 1)) i10 (.int .i64 1)) (fun t22 h_37 => 
                                                                                  X t68 t70 t22 h_37) h_36 ⟨⟩) h_35 ⟨⟩) h_34 ⟨⟩) h_33 ⟨⟩) #[] ⟨⟩) ⟨⟩) ⟨⟩) #[] ⟨⟩) #[] ⟨⟩) #[] ⟨⟩) h_31 ⟨⟩) #[] ⟨⟩) #[] ⟨⟩) h_31 ⟨⟩) #[] ⟨⟩) h_31 ⟨⟩) h_30 ⟨⟩) h_29 ⟨⟩) h_28 ⟨⟩) ⟨⟩) h_26 ⟨⟩) h_25 ⟨⟩) h_24 ⟨⟩) h_23 ⟨⟩) ⟨⟩ ⟨⟩) h_22 ⟨⟩) h_20 ⟨⟩ ⟨⟩) h_18 ⟨⟩ ⟨⟩) h_16 ⟨⟩ ⟨⟩) h_14 ⟨⟩ ⟨⟩) h_12 ⟨⟩ ⟨⟩) h_10 ⟨⟩ ⟨⟩) h_8 ⟨⟩ ⟨⟩) h_6 ⟨⟩ ⟨⟩) h_4 ⟨⟩ ⟨⟩) h_3 ⟨⟩) h_2 ⟨⟩) (
        CallsH Try.prog 10 #[bits0, l8] h_2 (fun t74 h_38 => 
          Hp Try.prog false (Instr.extract t74 0) (fun t75 h_39 => 
            Hp Try.prog false (Instr.extract t74 1) (fun t76 h_40 => 
              Hp Try.prog false (binS .neq 3 (.tmp 77) (.const (.int .i64 0)) t76 (.int .i64 0)) (fun t78 h_41 => 
                Join1 (fun k_9 h_42 => guardP t78 false (k_9 t75 h_42) (k_9 undef h_42) ⟨⟩ ⟨⟩) (fun t80 h_43 => 
                  Join1 (fun k_10 h_44 => guardP t78 false (Hp Try.prog false (convert 26 9 t80) k_10 h_44 ⟨⟩) (k_10 undef h_44) ⟨⟩ ⟨⟩) (fun t81 h_45 => 
                    Join1 (fun k_11 h_46 => guardP t78 false (k_11 b1 h_46) (k_11 undef h_46) ⟨⟩ ⟨⟩) (fun t82 h_47 => 
                      Join1 (fun k_12 h_48 => guardP t78 false (Hp Try.prog false (convert 26 9 t82) k_12 h_48 ⟨⟩) (k_12 undef h_48) ⟨⟩ ⟨⟩) (fun t83 h_49 => 
                        Join1 (fun k_13 h_50 => guardP t78 false (Hp Try.prog false (binS .neq 9 (.tmp 81) (.tmp 83) t81 t83) k_13 h_50 ⟨⟩) (k_13 undef h_50) ⟨⟩ ⟨⟩) (fun t84 h_51 => 
                          Hp Try.prog false (pickS t78 (.bool true) t84) (fun t85 h_52 => 
                            CondP t85 (
                              R (.tuple #[(.slice none 0 0), (.bool false)]) h_52) (
                              R (.tuple #[l8, (.bool true)]) h_52) ⟨⟩ ⟨⟩) h_51 ⟨⟩) h_49 ⟨⟩ ⟨⟩) h_47 ⟨⟩ ⟨⟩) h_45 ⟨⟩ ⟨⟩) h_43 ⟨⟩ ⟨⟩) h_41 ⟨⟩ ⟨⟩) h_40 ⟨⟩) h_39 ⟨⟩) h_38 ⟨⟩) ⟨⟩) ⟨⟩ ⟨⟩) h_1 ⟨⟩) [(.slice none 0 0), b1, (.int .i64 0)] h ⟨⟩

theorem n15_calls {bits0 b1 n2 : Value} {R : Value → Heap → Prop} {h : Heap} (H : n15 bits0 b1 n2 R h) : CallsH Try.prog 15 #[bits0, b1, n2] h R ⟨⟩ :=
  callsH_of_eq Try.follow (.n none .l (.n none .l (.n none .l (.n none (.n none .l (.n none (.n (some [9, 10, 11]) .l .l) .l)) .l)))) Try.func15 (by kernel_rfl) (by kernel_rfl) (by kernel_rfl) H

/-- palimpsest/palimpsestlaw11.sameSnaps -/
def n16 (a0 b1 : Value) (R : Value → Heap → Prop) (h : Heap) : Prop :=
  Hp Try.prog false (Builtin.len_ #[36] 3 #[a0]) (fun t7 h_1 => 
    Hp Try.prog false (Builtin.len_ #[36] 3 #[b1]) (fun t9 h_2 => 
      Hp Try.prog false (binS .neq 3 (.tmp 7) (.tmp 9) t7 t9) (fun t10 h_3 => 
        CondP t10 (
          R (.bool false) h_3) (
          LoopC 1 (fun (X : Value → Heap → Prop) => fun i5 h_4 =>
            Hp Try.prog false (Builtin.len_ #[36] 3 #[a0]) (fun t13 h_5 => 
              Hp Try.prog false (binS .lss 3 (.tmp 11) (.tmp 13) i5 t13) (fun t14 h_6 => 
                CondP t14 (
                  Hp Try.prog true (Instr.indexAt 36 a0 i5) (fun t19 _ => 
                    Hp Try.prog true (Instr.loadAt 61 t19) (fun t20 _ => 
                      Hp Try.prog true (Instr.indexAt 36 b1 i5) (fun t23 _ => 
                        Hp Try.prog true (Instr.loadAt 61 t23) (fun t24 _ => 
                          Hp Try.prog true (binS .neq 61 (.tmp 20) (.tmp 24) t20 t24) (fun t25 _ => 
                            CondP t25 (
                              R (.bool false) h_6) (
                              Hp Try.prog false (binS .add 3 (.tmp 15) (.const (.int .i64 1)) i5 (.int .i64 1)) (fun t16 h_7 => 
                                X t16 h_7) h_6 ⟨⟩) ⟨⟩ ⟨⟩) #[] ⟨⟩) h_6 ⟨⟩) #[] ⟨⟩) h_6 ⟨⟩) #[] ⟨⟩) (
                  R (.bool true) h_6) ⟨⟩ ⟨⟩) h_5 ⟨⟩) h_4 ⟨⟩) [(.int .i64 0)] h_3 ⟨⟩) ⟨⟩ ⟨⟩) h_2 ⟨⟩) h_1 ⟨⟩) h ⟨⟩

theorem n16_calls {a0 b1 : Value} {R : Value → Heap → Prop} {h : Heap} (H : n16 a0 b1 R h) : CallsH Try.prog 16 #[a0, b1] h R ⟨⟩ :=
  callsH_of_eq Try.follow (.n none .l (.n none .l (.n none (.n none .l (.n none (.n (some [6]) .l .l) .l)) .l))) Try.func16 (by kernel_rfl) (by kernel_rfl) (by kernel_rfl) H

/-- palimpsest/tables.Snaps -/
def n31 (bits0 l1 : Value) (R : Value → Heap → Prop) (h : Heap) : Prop :=
  CallsH Try.prog 71 #[bits0, (.int .i64 64), l1, (.func (.func 72) #[] #[]), (.func (.func 73) #[] #[]), (.func (.func 74) #[] #[])] h (fun t8 h_1 => 
    Hp Try.prog false (Instr.extract t8 0) (fun t9 h_2 => 
      Hp Try.prog false (Instr.extract t8 1) (fun t10 h_3 => 
        R (.tuple #[t9, t10]) h_3) h_2 ⟨⟩) h_1 ⟨⟩) ⟨⟩

theorem n31_calls {bits0 l1 : Value} {R : Value → Heap → Prop} {h : Heap} (H : n31 bits0 l1 R h) : CallsH Try.prog 31 #[bits0, l1] h R ⟨⟩ :=
  callsH_of_eq Try.follow .l Try.func31 (by kernel_rfl) (by kernel_rfl) (by kernel_rfl) H

/-- palimpsest/tables.put[palimpsest/api.Row] -/
def n32 (bits0 most1 l2 name3 may4 bytes5 : Value) (R : Value → Heap → Prop) (h : Heap) : Prop :=
  Hp Try.prog false (binS .lss 3 (.tmp 20) (.const (.int .i64 9)) bits0 (.int .i64 9)) (fun t21 h_1 => 
    Join1 (fun k h_2 => guardP t21 false (k bits0 h_2) (k undef h_2) ⟨⟩ ⟨⟩) (fun t23 h_3 => 
      Join1 (fun k_1 h_4 => guardP t21 false (Hp Try.prog false (binS .gtr 3 (.tmp 23) (.const (.int .i64 16)) t23 (.int .i64 16)) k_1 h_4 ⟨⟩) (k_1 undef h_4) ⟨⟩ ⟨⟩) (fun t24 h_5 => 
        Hp Try.prog false (pickS t21 (.bool true) t24) (fun t25 h_6 => 
          CondP t25 (
            R (.tuple #[(.slice none 0 0), (.int .i64 2)]) h_6) (
            Hp Try.prog false (Instr.makeMap 107 none) (fun t26 h_7 => 
              Hp Try.prog false (Builtin.len_ #[22] 3 #[l2]) (fun t28 h_8 => 
                LoopC 1 (fun (X : Value → Heap → Prop) => fun t29 h_9 =>
                  Hp Try.prog false (binS .lss 3 (.tmp 29) (.tmp 28) t29 t28) (fun t30 h_10 => 
                    CondP t30 (
                      Hp Try.prog false (Instr.indexAt 22 l2 t29) (fun t31 h_11 => 
                        Hp Try.prog false (Instr.loadAt 25 t31) (fun t32 h_12 => 
                          Hp Try.prog false (Instr.alloc 25 true undef) (fun x17 h_13 => 
                            Hp Try.prog false (storeS 25 x17 t32) (fun _ h_14 => 
                              Hp Try.prog false (Instr.loadAt 25 x17) (fun t35 h_15 => 
                                InvokeH Try.prog name3 #[t35] h_15 (fun t36 h_16 => 
                                  Hp Try.prog false (Instr.lookup 107 t26 t36 false) (fun t37 h_17 => 
                                    Hp Try.prog false (binS .add 3 (.tmp 37) (.const (.int .i64 1)) t37 (.int .i64 1)) (fun t38 h_18 => 
                                      Hp Try.prog false (unitS (Instr.mapUpdate 107 t26 t36 t38)) (fun _ h_19 => 
                                        Hp Try.prog false (Instr.loadAt 25 x17) (fun t40 h_20 => 
                                          InvokeH Try.prog may4 #[t40, bits0] h_20 (fun t42 h_21 => 
                                            Hp Try.prog false (Op.unary .not t42) (fun t43 h_22 => 
                                              Join1 (fun k_2 h_23 => guardP t43 false (k_2 t26 h_23) (k_2 undef h_23) ⟨⟩ ⟨⟩) (fun t45 h_24 => 
                                                Join1 (fun k_3 h_25 => guardP t43 false (k_3 name3 h_25) (k_3 undef h_25) ⟨⟩ ⟨⟩) (fun t46 h_26 => 
                                                  Join1 (fun k_4 h_27 => guardP t43 false (Hp Try.prog false (Instr.loadAt 25 x17) k_4 h_27 ⟨⟩) (k_4 undef h_27) ⟨⟩ ⟨⟩) (fun t47 h_28 => 
                                                    Join1 (fun k_5 h_29 => guardP t43 false (InvokeH Try.prog t46 #[t47] h_29 k_5 ⟨⟩) (k_5 undef h_29) ⟨⟩ ⟨⟩) (fun t48 h_30 => 
                                                      Join1 (fun k_6 h_31 => guardP t43 false (Hp Try.prog false (Instr.lookup 107 t45 t48 false) k_6 h_31 ⟨⟩) (k_6 undef h_31) ⟨⟩ ⟨⟩) (fun t49 h_32 => 
                                                        Join1 (fun k_7 h_33 => guardP t43 false (Hp Try.prog false (binS .gtr 3 (.tmp 49) (.const (.int .i64 1)) t49 (.int .i64 1)) k_7 h_33 ⟨⟩) (k_7 undef h_33) ⟨⟩ ⟨⟩) (fun t50 h_34 => 
                                                          Hp Try.prog false (pickS t43 (.bool true) t50) (fun t51 h_35 => 
                                                            CondP t51 (
                                                              R (.tuple #[(.slice none 0 0), (.int .i64 2)]) h_35) (
                                                              Hp Try.prog false (binS .add 3 (.tmp 29) (.const (.int .i64 1)) t29 (.int .i64 1)) (fun t52 h_36 => 
                                                                X t52 h_36) h_35 ⟨⟩) ⟨⟩ ⟨⟩) h_34 ⟨⟩) h_32 ⟨⟩ ⟨⟩) h_30 ⟨⟩ ⟨⟩) h_28 ⟨⟩ ⟨⟩) h_26 ⟨⟩ ⟨⟩) h_24 ⟨⟩ ⟨⟩) h_22 ⟨⟩ ⟨⟩) h_21 ⟨⟩) ⟨⟩) h_19 ⟨⟩) h_18 ⟨⟩) h_17 ⟨⟩) h_16 ⟨⟩) ⟨⟩) h_14 ⟨⟩) h_13 ⟨⟩) h_12 ⟨⟩) h_11 ⟨⟩) h_10 ⟨⟩) (
                      Hp Try.prog false (Builtin.len_ #[22] 3 #[l2]) (fun t54 h_37 => 
                        Hp Try.prog false (binS .gtr 3 (.tmp 54) (.tmp 55) t54 most1) (fun t56 h_38 => 
                          CondP t56 (
                            R (.tuple #[(.slice none 0 0), (.int .i64 3)]) h_38) (
                            Hp Try.prog false (Builtin.len_ #[22] 3 #[l2]) (fun t58 h_39 => 
                              LoopC 2 (fun (X_1 : Value → Value → Heap → Prop) => fun out15 t59 h_40 =>
                                Hp Try.prog false (binS .lss 3 (.tmp 59) (.tmp 58) t59 t58) (fun t60 h_41 => 
                                  CondP t60 (
                                    Hp Try.prog false (Instr.indexAt 22 l2 t59) (fun t61 h_42 => 
                                      Hp Try.prog false (Instr.loadAt 25 t61) (fun t62 h_43 => 
                                        Hp Try.prog false (Instr.alloc 25 true undef) (fun x19 h_44 => 
                                          Hp Try.prog false (storeS 25 x19 t62) (fun _ h_45 => 
                                            Hp Try.prog false (Instr.loadAt 25 x19) (fun t65 h_46 => 
                                              InvokeH Try.prog bytes5 #[t65] h_46 (fun t66 h_47 => 
                                                Hp Try.prog false (Builtin.append_ #[26, 26] 26 #[out15, t66]) (fun t67 h_48 => 
                                                  Hp Try.prog false (binS .add 3 (.tmp 59) (.const (.int .i64 1)) t59 (.int .i64 1)) (fun t68 h_49 => 
                                                    X_1 t67 t68 h_49) h_48 ⟨⟩) h_47 ⟨⟩) ⟨⟩) h_45 ⟨⟩) h_44 ⟨⟩) h_43 ⟨⟩) h_42 ⟨⟩) h_41 ⟨⟩) (
                                    R (.tuple #[out15, (.int .i64 0)]) h_41) ⟨⟩ ⟨⟩) h_40 ⟨⟩) [(.slice none 0 0), (.int .i64 0)] h_39 ⟨⟩) h_38 ⟨⟩) ⟨⟩ ⟨⟩) h_37 ⟨⟩) h_10 ⟨⟩) ⟨⟩ ⟨⟩) h_9 ⟨⟩) [(.int .i64 0)] h_8 ⟨⟩) h_7 ⟨⟩) h_6 ⟨⟩) ⟨⟩ ⟨⟩) h_5 ⟨⟩) h_3 ⟨⟩ ⟨⟩) h_1 ⟨⟩ ⟨⟩) h ⟨⟩

theorem n32_calls {bits0 most1 l2 name3 may4 bytes5 : Value} {R : Value → Heap → Prop} {h : Heap} (H : n32 bits0 most1 l2 name3 may4 bytes5 R h) : CallsH Try.prog 32 #[bits0, most1, l2, name3, may4, bytes5] h R ⟨⟩ :=
  callsH_of_eq Try.follow (.n none .l (.n none .l (.n none .l (.n none .l (.n none (.n none .l (.n none (.n (some [30]) .l .l) .l)) (.n none .l (.n none (.n none .l (.n none (.n (some [16, 60]) .l .l) .l)) .l))))))) Try.func32 (by kernel_rfl) (by kernel_rfl) (by kernel_rfl) H

/-- palimpsest/tables.Rows$1 -/
def n33 (x0 : Value) (R : Value → Heap → Prop) (h : Heap) : Prop :=
  Hp Try.prog false (Instr.box 25 x0) (fun x1 h_1 => 
    Hp Try.prog false (Instr.fieldAt 25 x1 0) (fun t3 h_2 => 
      Hp Try.prog false (Instr.loadAt 9 t3) (fun t4 h_3 => 
        R t4 h_3) h_2 ⟨⟩) h_1 ⟨⟩) h ⟨⟩

theorem n33_calls {x0 : Value} {R : Value → Heap → Prop} {h : Heap} (H : n33 x0 R h) : CallsH Try.prog 33 #[x0] h R ⟨⟩ :=
  callsH_of_eq Try.follow .l Try.func33 (by kernel_rfl) (by kernel_rfl) (by kernel_rfl) H

/-- palimpsest/tables.row -/
def n34 (x0 bits1 : Value) (R : Value → Heap → Prop) (h : Heap) : Prop :=
  Hp Try.prog false (Instr.box 25 x0) (fun x2 h_1 => 
    Hp Try.prog false (Instr.fieldAt 25 x2 0) (fun t5 h_2 => 
      Hp Try.prog false (Instr.loadAt 9 t5) (fun t6 h_3 => 
        CallsH Try.prog 75 #[t6] h_3 (fun t7 h_4 => 
          Join1 (fun k h_5 => guardP t7 true (Hp Try.prog false (Instr.fieldAt 25 x2 1) k h_5 ⟨⟩) (k undef h_5) ⟨⟩ ⟨⟩) (fun t9 h_6 => 
            Join1 (fun k_1 h_7 => guardP t7 true (Hp Try.prog false (Instr.loadAt 3 t9) k_1 h_7 ⟨⟩) (k_1 undef h_7) ⟨⟩ ⟨⟩) (fun t10 h_8 => 
              Join1 (fun k_2 h_9 => guardP t7 true (Hp Try.prog false (binS .geq 3 (.tmp 10) (.const (.int .i64 9)) t10 (.int .i64 9)) k_2 h_9 ⟨⟩) (k_2 undef h_9) ⟨⟩ ⟨⟩) (fun t11 h_10 => 
                Hp Try.prog false (pickS t7 t11 (.bool false)) (fun t12 h_11 => 
                  Join1 (fun k_3 h_12 => guardP t12 true (Hp Try.prog false (Instr.fieldAt 25 x2 1) k_3 h_12 ⟨⟩) (k_3 undef h_12) ⟨⟩ ⟨⟩) (fun t14 h_13 => 
                    Join1 (fun k_4 h_14 => guardP t12 true (Hp Try.prog false (Instr.loadAt 3 t14) k_4 h_14 ⟨⟩) (k_4 undef h_14) ⟨⟩ ⟨⟩) (fun t15 h_15 => 
                      Join1 (fun k_5 h_16 => guardP t12 true (Hp Try.prog false (binS .leq 3 (.tmp 15) (.const (.int .i64 31)) t15 (.int .i64 31)) k_5 h_16 ⟨⟩) (k_5 undef h_16) ⟨⟩ ⟨⟩) (fun t16 h_17 => 
                        Hp Try.prog false (pickS t12 t16 (.bool false)) (fun t17 h_18 => 
                          Join1 (fun k_6 h_19 => guardP t17 true (Hp Try.prog false (Instr.fieldAt 25 x2 2) k_6 h_19 ⟨⟩) (k_6 undef h_19) ⟨⟩ ⟨⟩) (fun t19 h_20 => 
                            Join1 (fun k_7 h_21 => guardP t17 true (Hp Try.prog false (Instr.loadAt 3 t19) k_7 h_21 ⟨⟩) (k_7 undef h_21) ⟨⟩ ⟨⟩) (fun t20 h_22 => 
                              Join1 (fun k_8 h_23 => guardP t17 true (Hp Try.prog false (binS .geq 3 (.tmp 20) (.const (.int .i64 0)) t20 (.int .i64 0)) k_8 h_23 ⟨⟩) (k_8 undef h_23) ⟨⟩ ⟨⟩) (fun t21 h_24 => 
                                Hp Try.prog false (pickS t17 t21 (.bool false)) (fun t22 h_25 => 
                                  Join1 (fun k_9 h_26 => guardP t22 true (Hp Try.prog false (Instr.fieldAt 25 x2 2) k_9 h_26 ⟨⟩) (k_9 undef h_26) ⟨⟩ ⟨⟩) (fun t24 h_27 => 
                                    Join1 (fun k_10 h_28 => guardP t22 true (Hp Try.prog false (Instr.loadAt 3 t24) k_10 h_28 ⟨⟩) (k_10 undef h_28) ⟨⟩ ⟨⟩) (fun t25 h_29 => 
                                      Join1 (fun k_11 h_30 => guardP t22 true (Hp Try.prog false (binS .leq 3 (.tmp 25) (.const (.int .i64 3)) t25 (.int .i64 3)) k_11 h_30 ⟨⟩) (k_11 undef h_30) ⟨⟩ ⟨⟩) (fun t26 h_31 => 
                                        Hp Try.prog false (pickS t22 t26 (.bool false)) (fun t27 h_32 => 
                                          Join1 (fun k_12 h_33 => guardP t27 true (Hp Try.prog false (Instr.fieldAt 25 x2 3) k_12 h_33 ⟨⟩) (k_12 undef h_33) ⟨⟩ ⟨⟩) (fun t29 h_34 => 
                                            Join1 (fun k_13 h_35 => guardP t27 true (Hp Try.prog false (Instr.loadAt 2 t29) k_13 h_35 ⟨⟩) (k_13 undef h_35) ⟨⟩ ⟨⟩) (fun t30 h_36 => 
                                              Join1 (fun k_14 h_37 => guardP t27 true (Hp Try.prog false (binS .eql 2 (.tmp 30) (.const (.int .i64 0)) t30 (.int .i64 0)) k_14 h_37 ⟨⟩) (k_14 undef h_37) ⟨⟩ ⟨⟩) (fun t31 h_38 => 
                                                Join1 (fun k_15 h_39 => guardP t27 true (k_15 t31 h_39) (k_15 undef h_39) ⟨⟩ ⟨⟩) (fun t32 h_40 => 
                                                  Join1 (fun k_16 h_41 => guardP t32 true (Hp Try.prog false (Instr.fieldAt 25 x2 4) k_16 h_41 ⟨⟩) (k_16 undef h_41) ⟨⟩ ⟨⟩) (fun t33 h_42 => 
                                                    Join1 (fun k_17 h_43 => guardP t32 true (Hp Try.prog false (Instr.loadAt 3 t33) k_17 h_43 ⟨⟩) (k_17 undef h_43) ⟨⟩ ⟨⟩) (fun t34 h_44 => 
                                                      Join1 (fun k_18 h_45 => guardP t32 true (Hp Try.prog false (binS .eql 3 (.tmp 34) (.const (.int .i64 0)) t34 (.int .i64 0)) k_18 h_45 ⟨⟩) (k_18 undef h_45) ⟨⟩ ⟨⟩) (fun t35 h_46 => 
                                                        Join1 (fun k_19 h_47 => guardP t27 true (Hp Try.prog false (pickS t32 t35 (.bool false)) k_19 h_47 ⟨⟩) (k_19 undef h_47) ⟨⟩ ⟨⟩) (fun t36 h_48 => 
                                                          Join1 (fun k_20 h_49 => guardP t27 true (k_20 t36 h_49) (k_20 undef h_49) ⟨⟩ ⟨⟩) (fun t37 h_50 => 
                                                            Join1 (fun k_21 h_51 => guardP t37 false (Hp Try.prog false (Instr.fieldAt 25 x2 3) k_21 h_51 ⟨⟩) (k_21 undef h_51) ⟨⟩ ⟨⟩) (fun t38 h_52 => 
                                                              Join1 (fun k_22 h_53 => guardP t37 false (Hp Try.prog false (Instr.loadAt 2 t38) k_22 h_53 ⟨⟩) (k_22 undef h_53) ⟨⟩ ⟨⟩) (fun t39 h_54 => 
                                                                Join1 (fun k_23 h_55 => guardP t37 false (k_23 bits1 h_55) (k_23 undef h_55) ⟨⟩ ⟨⟩) (fun t40 h_56 => 
                                                                  Join1 (fun k_24 h_57 => guardP t37 false (CallsH Try.prog 76 #[t39, t40] h_57 k_24 ⟨⟩) (k_24 undef h_57) ⟨⟩ ⟨⟩) (fun t41 h_58 => 
                                                                    Join1 (fun k_25 h_59 => guardP t37 false (k_25 t41 h_59) (k_25 undef h_59) ⟨⟩ ⟨⟩) (fun t42 h_60 => 
                                                                      Join1 (fun k_26 h_61 => guardP t42 true (Hp Try.prog false (Instr.fieldAt 25 x2 4) k_26 h_61 ⟨⟩) (k_26 undef h_61) ⟨⟩ ⟨⟩) (fun t43 h_62 => 
                                                                        Join1 (fun k_27 h_63 => guardP t42 true (Hp Try.prog false (Instr.loadAt 3 t43) k_27 h_63 ⟨⟩) (k_27 undef h_63) ⟨⟩ ⟨⟩) (fun t44 h_64 => 
                                                                          Join1 (fun k_28 h_65 => guardP t42 true (Hp Try.prog false (binS .geq 3 (.tmp 44) (.const (.int .i64 1)) t44 (.int .i64 1)) k_28 h_65 ⟨⟩) (k_28 undef h_65) ⟨⟩ ⟨⟩) (fun t45 h_66 => 
                                                                            Join1 (fun k_29 h_67 => guardP t37 false (Hp Try.prog false (pickS t42 t45 (.bool false)) k_29 h_67 ⟨⟩) (k_29 undef h_67) ⟨⟩ ⟨⟩) (fun t46 h_68 => 
                                                                              Join1 (fun k_30 h_69 => guardP t37 false (k_30 t46 h_69) (k_30 undef h_69) ⟨⟩ ⟨⟩) (fun t47 h_70 => 
                                                                                Join1 (fun k_31 h_71 => guardP t47 true (Hp Try.prog false (Instr.fieldAt 25 x2 4) k_31 h_71 ⟨⟩) (k_31 undef h_71) ⟨⟩ ⟨⟩) (fun t48 h_72 => 
                                                                                  Join1 (fun k_32 h_73 => guardP t47 true (Hp Try.prog false (Instr.loadAt 3 t48) k_32 h_73 ⟨⟩) (k_32 undef h_73) ⟨⟩ ⟨⟩) (fun t49 h_74 => 
                                                                                    Join1 (fun k_33 h_75 => guardP t47 true (Hp Try.prog false (binS .leq 3 (.tmp 49) (.const (.int .i64 16777216)) t49 (.int .i64 16777216)) k_33 h_75 ⟨⟩) (k_33 undef h_75) ⟨⟩ ⟨⟩) (fun t50 h_76 => 
                                                                                      Join1 (fun k_34 h_77 => guardP t37 false (Hp Try.prog false (pickS t47 t50 (.bool false)) k_34 h_77 ⟨⟩) (k_34 undef h_77) ⟨⟩ ⟨⟩) (fun t51 h_78 => 
                                                                                        Join1 (fun k_35 h_79 => guardP t27 true (Hp Try.prog false (pickS t37 (.bool true) t51) k_35 h_79 ⟨⟩) (k_35 undef h_79) ⟨⟩ ⟨⟩) (fun t52 h_80 => 
                                                                                          Hp Try.prog false (pickS t27 t52 (.bool false)) (fun t53 h_81 => 
                                                                                            R t53 h_81) h_80 ⟨⟩) h_78 ⟨⟩ ⟨⟩) h_76 ⟨⟩ ⟨⟩) h_74 ⟨⟩ ⟨⟩) h_72 ⟨⟩ ⟨⟩) h_70 ⟨⟩ ⟨⟩) h_68 ⟨⟩ ⟨⟩) h_66 ⟨⟩ ⟨⟩) h_64 ⟨⟩ ⟨⟩) h_62 ⟨⟩ ⟨⟩) h_60 ⟨⟩ ⟨⟩) h_58 ⟨⟩ ⟨⟩) h_56 ⟨⟩ ⟨⟩) h_54 ⟨⟩ ⟨⟩) h_52 ⟨⟩ ⟨⟩) h_50 ⟨⟩ ⟨⟩) h_48 ⟨⟩ ⟨⟩) h_46 ⟨⟩ ⟨⟩) h_44 ⟨⟩ ⟨⟩) h_42 ⟨⟩ ⟨⟩) h_40 ⟨⟩ ⟨⟩) h_38 ⟨⟩ ⟨⟩) h_36 ⟨⟩ ⟨⟩) h_34 ⟨⟩ ⟨⟩) h_32 ⟨⟩ ⟨⟩) h_31 ⟨⟩) h_29 ⟨⟩ ⟨⟩) h_27 ⟨⟩ ⟨⟩) h_25 ⟨⟩ ⟨⟩) h_24 ⟨⟩) h_22 ⟨⟩ ⟨⟩) h_20 ⟨⟩ ⟨⟩) h_18 ⟨⟩ ⟨⟩) h_17 ⟨⟩) h_15 ⟨⟩ ⟨⟩) h_13 ⟨⟩ ⟨⟩) h_11 ⟨⟩ ⟨⟩) h_10 ⟨⟩) h_8 ⟨⟩ ⟨⟩) h_6 ⟨⟩ ⟨⟩) h_4 ⟨⟩ ⟨⟩) ⟨⟩) h_2 ⟨⟩) h_1 ⟨⟩) h ⟨⟩

theorem n34_calls {x0 bits1 : Value} {R : Value → Heap → Prop} {h : Heap} (H : n34 x0 bits1 R h) : CallsH Try.prog 34 #[x0, bits1] h R ⟨⟩ :=
  callsH_of_eq Try.follow .l Try.func34 (by kernel_rfl) (by kernel_rfl) (by kernel_rfl) H

/-- palimpsest/tables.rowBytes -/
def n35 (x0 : Value) (R : Value → Heap → Prop) (h : Heap) : Prop :=
  Hp Try.prog false (Instr.box 25 x0) (fun x1 h_1 => 
    JoinN 1 (fun (k : Value → Heap → Prop) h_2 =>
      Hp Try.prog true (Instr.fieldAt 25 x1 0) (fun t3 _ => 
        Hp Try.prog true (Instr.loadAt 9 t3) (fun t4 _ => 
          Hp Try.prog true (Builtin.len_ #[9] 3 #[t4]) (fun t5 _ => 
            Hp Try.prog true (Instr.fieldAt 25 x1 0) (fun t7 _ => 
              Hp Try.prog true (Instr.loadAt 9 t7) (fun t8 _ => 
                Hp Try.prog true (Instr.fieldAt 25 x1 1) (fun t10 _ => 
                  Hp Try.prog true (Instr.loadAt 3 t10) (fun t11 _ => 
                    Hp Try.prog true (Instr.fieldAt 25 x1 2) (fun t13 _ => 
                      Hp Try.prog true (Instr.loadAt 3 t13) (fun t14 _ => 
                        Hp Try.prog true (Instr.fieldAt 25 x1 3) (fun t16 _ => 
                          Hp Try.prog true (Instr.loadAt 2 t16) (fun t17 _ => 
                            Hp Try.prog true (Instr.fieldAt 25 x1 4) (fun t19 _ => 
                              Hp Try.prog true (Instr.loadAt 3 t19) (fun t20 _ => 
                                ((
                                  CallsH Try.prog 78 #[t5, (.int .i64 1)] h_2 (fun t6 h_3 => Hp Try.prog true (Instr.loadAt 3 t19) (fun u _ => u = t20) h_3 ⟨⟩ ∧ Hp Try.prog true (Instr.loadAt 2 t16) (fun u _ => u = t17) h_3 ⟨⟩ ∧ Hp Try.prog true (Instr.loadAt 3 t13) (fun u _ => u = t14) h_3 ⟨⟩ ∧ Hp Try.prog true (Instr.loadAt 3 t10) (fun u _ => u = t11) h_3 ⟨⟩ ∧ Hp Try.prog true (Instr.loadAt 9 t7) (fun u _ => u = t8) h_3 ⟨⟩ ∧ 
                                    ((
                                      Hp Try.prog false (convert 9 26 t8) (fun t9 h_4 => Hp Try.prog true (Instr.loadAt 3 t19) (fun u _ => u = t20) h_4 ⟨⟩ ∧ Hp Try.prog true (Instr.loadAt 2 t16) (fun u _ => u = t17) h_4 ⟨⟩ ∧ Hp Try.prog true (Instr.loadAt 3 t13) (fun u _ => u = t14) h_4 ⟨⟩ ∧ Hp Try.prog true (Instr.loadAt 3 t10) (fun u _ => u = t11) h_4 ⟨⟩ ∧ Hp Try.prog true (Instr.loadAt 9 t3) (fun u _ => u = t4) h_4 ⟨⟩ ∧ 
                                        CallsH Try.prog 78 #[t11, (.int .i64 1)] h_4 (fun t12 h_5 => Hp Try.prog true (Instr.loadAt 3 t19) (fun u _ => u = t20) h_5 ⟨⟩ ∧ Hp Try.prog true (Instr.loadAt 2 t16) (fun u _ => u = t17) h_5 ⟨⟩ ∧ Hp Try.prog true (Instr.loadAt 3 t13) (fun u _ => u = t14) h_5 ⟨⟩ ∧ Hp Try.prog true (Instr.loadAt 9 t7) (fun u _ => u = t8) h_5 ⟨⟩ ∧ 
                                          CallsH Try.prog 78 #[t14, (.int .i64 1)] h_5 (fun t15 h_6 => Hp Try.prog true (Instr.loadAt 3 t19) (fun u _ => u = t20) h_6 ⟨⟩ ∧ Hp Try.prog true (Instr.loadAt 2 t16) (fun u _ => u = t17) h_6 ⟨⟩ ∧ Hp Try.prog true (Instr.loadAt 9 t7) (fun u _ => u = t8) h_6 ⟨⟩ ∧ 
                                            CallsH Try.prog 78 #[t17, (.int .i64 8)] h_6 (fun t18 h_7 => Hp Try.prog true (Instr.loadAt 3 t19) (fun u _ => u = t20) h_7 ⟨⟩ ∧ Hp Try.prog true (Instr.loadAt 9 t7) (fun u _ => u = t8) h_7 ⟨⟩ ∧ 
                                              CallsH Try.prog 78 #[t20, (.int .i64 4)] h_7 (fun t21 h_8 => Hp Try.prog true (Instr.loadAt 9 t7) (fun u _ => u = t8) h_8 ⟨⟩ ∧ 
                                                Hp Try.prog false (Instr.buildSlice 121 6 #[(0, t6), (1, t9), (2, t12), (3, t15), (4, t18), (5, t21)]) (fun t22 h_9 => 
                                                  CallsH Try.prog 77 #[t22] h_9 (fun t23 h_10 => 
                                                    k t23 h_10) ⟨⟩) h_8 ⟨⟩) ⟨⟩) ⟨⟩) ⟨⟩) ⟨⟩) h_3 ⟨⟩) ∧ (
                                      CallsH Try.prog 78 #[t11, (.int .i64 1)] h_3 (fun t12_1 h_11 => Hp Try.prog true (Instr.loadAt 3 t19) (fun u _ => u = t20) h_11 ⟨⟩ ∧ Hp Try.prog true (Instr.loadAt 2 t16) (fun u _ => u = t17) h_11 ⟨⟩ ∧ Hp Try.prog true (Instr.loadAt 3 t13) (fun u _ => u = t14) h_11 ⟨⟩ ∧ Hp Try.prog true (Instr.loadAt 9 t7) (fun u _ => u = t8) h_11 ⟨⟩ ∧ 
                                        ((
                                          Hp Try.prog false (convert 9 26 t8) (fun t9_1 h_12 => Hp Try.prog true (Instr.loadAt 3 t19) (fun u _ => u = t20) h_12 ⟨⟩ ∧ Hp Try.prog true (Instr.loadAt 2 t16) (fun u _ => u = t17) h_12 ⟨⟩ ∧ Hp Try.prog true (Instr.loadAt 3 t13) (fun u _ => u = t14) h_12 ⟨⟩ ∧ Hp Try.prog true (Instr.loadAt 3 t10) (fun u _ => u = t11) h_12 ⟨⟩ ∧ Hp Try.prog true (Instr.loadAt 9 t3) (fun u _ => u = t4) h_12 ⟨⟩ ∧ 
                                            CallsH Try.prog 78 #[t14, (.int .i64 1)] h_12 (fun t15_1 h_13 => Hp Try.prog true (Instr.loadAt 3 t19) (fun u _ => u = t20) h_13 ⟨⟩ ∧ Hp Try.prog true (Instr.loadAt 2 t16) (fun u _ => u = t17) h_13 ⟨⟩ ∧ Hp Try.prog true (Instr.loadAt 9 t7) (fun u _ => u = t8) h_13 ⟨⟩ ∧ 
                                              CallsH Try.prog 78 #[t17, (.int .i64 8)] h_13 (fun t18_1 h_14 => Hp Try.prog true (Instr.loadAt 3 t19) (fun u _ => u = t20) h_14 ⟨⟩ ∧ Hp Try.prog true (Instr.loadAt 9 t7) (fun u _ => u = t8) h_14 ⟨⟩ ∧ 
                                                CallsH Try.prog 78 #[t20, (.int .i64 4)] h_14 (fun t21_1 h_15 => Hp Try.prog true (Instr.loadAt 9 t7) (fun u _ => u = t8) h_15 ⟨⟩ ∧ 
                                                  Hp Try.prog false (Instr.buildSlice 121 6 #[(0, t6), (1, t9_1), (2, t12_1), (3, t15_1), (4, t18_1), (5, t21_1)]) (fun t22_1 h_16 => 
                                                    CallsH Try.prog 77 #[t22_1] h_16 (fun t23_1 h_17 => 
                                                      k t23_1 h_17) ⟨⟩) h_15 ⟨⟩) ⟨⟩) ⟨⟩) ⟨⟩) h_11 ⟨⟩) ∧ (
                                          CallsH Try.prog 78 #[t14, (.int .i64 1)] h_11 (fun t15_2 h_18 => Hp Try.prog true (Instr.loadAt 3 t19) (fun u _ => u = t20) h_18 ⟨⟩ ∧ Hp Try.prog true (Instr.loadAt 2 t16) (fun u _ => u = t17) h_18 ⟨⟩ ∧ Hp Try.prog true (Instr.loadAt 9 t7) (fun u _ => u = t8) h_18 ⟨⟩ ∧ 
                                            ((
                                              Hp Try.prog false (convert 9 26 t8) (fun t9_2 h_19 => Hp Try.prog true (Instr.loadAt 3 t19) (fun u _ => u = t20) h_19 ⟨⟩ ∧ Hp Try.prog true (Instr.loadAt 2 t16) (fun u _ => u = t17) h_19 ⟨⟩ ∧ Hp Try.prog true (Instr.loadAt 3 t13) (fun u _ => u = t14) h_19 ⟨⟩ ∧ Hp Try.prog true (Instr.loadAt 3 t10) (fun u _ => u = t11) h_19 ⟨⟩ ∧ Hp Try.prog true (Instr.loadAt 9 t3) (fun u _ => u = t4) h_19 ⟨⟩ ∧ 
                                                CallsH Try.prog 78 #[t17, (.int .i64 8)] h_19 (fun t18_2 h_20 => Hp Try.prog true (Instr.loadAt 3 t19) (fun u _ => u = t20) h_20 ⟨⟩ ∧ Hp Try.prog true (Instr.loadAt 9 t7) (fun u _ => u = t8) h_20 ⟨⟩ ∧ 
                                                  CallsH Try.prog 78 #[t20, (.int .i64 4)] h_20 (fun t21_2 h_21 => Hp Try.prog true (Instr.loadAt 9 t7) (fun u _ => u = t8) h_21 ⟨⟩ ∧ 
                                                    Hp Try.prog false (Instr.buildSlice 121 6 #[(0, t6), (1, t9_2), (2, t12_1), (3, t15_2), (4, t18_2), (5, t21_2)]) (fun t22_2 h_22 => 
                                                      CallsH Try.prog 77 #[t22_2] h_22 (fun t23_2 h_23 => 
                                                        k t23_2 h_23) ⟨⟩) h_21 ⟨⟩) ⟨⟩) ⟨⟩) h_18 ⟨⟩) ∧ (
                                              CallsH Try.prog 78 #[t17, (.int .i64 8)] h_18 (fun t18_3 h_24 => Hp Try.prog true (Instr.loadAt 3 t19) (fun u _ => u = t20) h_24 ⟨⟩ ∧ Hp Try.prog true (Instr.loadAt 9 t7) (fun u _ => u = t8) h_24 ⟨⟩ ∧ 
                                                ((
                                                  Hp Try.prog false (convert 9 26 t8) (fun t9_3 h_25 => Hp Try.prog true (Instr.loadAt 3 t19) (fun u _ => u = t20) h_25 ⟨⟩ ∧ Hp Try.prog true (Instr.loadAt 2 t16) (fun u _ => u = t17) h_25 ⟨⟩ ∧ Hp Try.prog true (Instr.loadAt 3 t13) (fun u _ => u = t14) h_25 ⟨⟩ ∧ Hp Try.prog true (Instr.loadAt 3 t10) (fun u _ => u = t11) h_25 ⟨⟩ ∧ Hp Try.prog true (Instr.loadAt 9 t3) (fun u _ => u = t4) h_25 ⟨⟩ ∧ 
                                                    CallsH Try.prog 78 #[t20, (.int .i64 4)] h_25 (fun t21_3 h_26 => Hp Try.prog true (Instr.loadAt 9 t7) (fun u _ => u = t8) h_26 ⟨⟩ ∧ 
                                                      Hp Try.prog false (Instr.buildSlice 121 6 #[(0, t6), (1, t9_3), (2, t12_1), (3, t15_2), (4, t18_3), (5, t21_3)]) (fun t22_3 h_27 => 
                                                        CallsH Try.prog 77 #[t22_3] h_27 (fun t23_3 h_28 => 
                                                          k t23_3 h_28) ⟨⟩) h_26 ⟨⟩) ⟨⟩) h_24 ⟨⟩) ∧ (
                                                  CallsH Try.prog 78 #[t20, (.int .i64 4)] h_24 (fun t21_4 h_29 => Hp Try.prog true (Instr.loadAt 9 t7) (fun u _ => u = t8) h_29 ⟨⟩ ∧ 
                                                    Hp Try.prog false (convert 9 26 t8) (fun t9_4 h_30 => Hp Try.prog true (Instr.loadAt 3 t19) (fun u _ => u = t20) h_30 ⟨⟩ ∧ Hp Try.prog true (Instr.loadAt 2 t16) (fun u _ => u = t17) h_30 ⟨⟩ ∧ Hp Try.prog true (Instr.loadAt 3 t13) (fun u _ => u = t14) h_30 ⟨⟩ ∧ Hp Try.prog true (Instr.loadAt 3 t10) (fun u _ => u = t11) h_30 ⟨⟩ ∧ Hp Try.prog true (Instr.loadAt 9 t3) (fun u _ => u = t4) h_30 ⟨⟩ ∧ 
                                                      Hp Try.prog false (Instr.buildSlice 121 6 #[(0, t6), (1, t9_4), (2, t12_1), (3, t15_2), (4, t18_3), (5, t21_4)]) (fun t22_4 h_31 => 
                                                        CallsH Try.prog 77 #[t22_4] h_31 (fun t23_4 h_32 => 
                                                          k t23_4 h_32) ⟨⟩) h_30 ⟨⟩) h_29 ⟨⟩) ⟨⟩))) ⟨⟩))) ⟨⟩))) ⟨⟩))) ⟨⟩) ∧ (
                                  Hp Try.prog false (convert 9 26 t8) (fun t9_5 h_33 => Hp Try.prog true (Instr.loadAt 3 t19) (fun u _ => u = t20) h_33 ⟨⟩ ∧ Hp Try.prog true (Instr.loadAt 2 t16) (fun u _ => u = t17) h_33 ⟨⟩ ∧ Hp Try.prog true (Instr.loadAt 3 t13) (fun u _ => u = t14) h_33 ⟨⟩ ∧ Hp Try.prog true (Instr.loadAt 3 t10) (fun u _ => u = t11) h_33 ⟨⟩ ∧ Hp Try.prog true (Instr.loadAt 9 t3) (fun u _ => u = t4) h_33 ⟨⟩ ∧ 
                                    CallsH Try.prog 78 #[t5, (.int .i64 1)] h_33 (fun t6_1 h_34 => Hp Try.prog true (Instr.loadAt 3 t19) (fun u _ => u = t20) h_34 ⟨⟩ ∧ Hp Try.prog true (Instr.loadAt 2 t16) (fun u _ => u = t17) h_34 ⟨⟩ ∧ Hp Try.prog true (Instr.loadAt 3 t13) (fun u _ => u = t14) h_34 ⟨⟩ ∧ Hp Try.prog true (Instr.loadAt 3 t10) (fun u _ => u = t11) h_34 ⟨⟩ ∧ Hp Try.prog true (Instr.loadAt 9 t7) (fun u _ => u = t8) h_34 ⟨⟩ ∧ 
                                      CallsH Try.prog 78 #[t11, (.int .i64 1)] h_34 (fun t12_2 h_35 => Hp Try.prog true (Instr.loadAt 3 t19) (fun u _ => u = t20) h_35 ⟨⟩ ∧ Hp Try.prog true (Instr.loadAt 2 t16) (fun u _ => u = t17) h_35 ⟨⟩ ∧ Hp Try.prog true (Instr.loadAt 3 t13) (fun u _ => u = t14) h_35 ⟨⟩ ∧ Hp Try.prog true (Instr.loadAt 9 t7) (fun u _ => u = t8) h_35 ⟨⟩ ∧ 
                                        CallsH Try.prog 78 #[t14, (.int .i64 1)] h_35 (fun t15_3 h_36 => Hp Try.prog true (Instr.loadAt 3 t19) (fun u _ => u = t20) h_36 ⟨⟩ ∧ Hp Try.prog true (Instr.loadAt 2 t16) (fun u _ => u = t17) h_36 ⟨⟩ ∧ Hp Try.prog true (Instr.loadAt 9 t7) (fun u _ => u = t8) h_36 ⟨⟩ ∧ 
                                          CallsH Try.prog 78 #[t17, (.int .i64 8)] h_36 (fun t18_4 h_37 => Hp Try.prog true (Instr.loadAt 3 t19) (fun u _ => u = t20) h_37 ⟨⟩ ∧ Hp Try.prog true (Instr.loadAt 9 t7) (fun u _ => u = t8) h_37 ⟨⟩ ∧ 
                                            CallsH Try.prog 78 #[t20, (.int .i64 4)] h_37 (fun t21_5 h_38 => Hp Try.prog true (Instr.loadAt 9 t7) (fun u _ => u = t8) h_38 ⟨⟩ ∧ 
                                              Hp Try.prog false (Instr.buildSlice 121 6 #[(0, t6_1), (1, t9_5), (2, t12_2), (3, t15_3), (4, t18_4), (5, t21_5)]) (fun t22_5 h_39 => 
                                                CallsH Try.prog 77 #[t22_5] h_39 (fun t23_5 h_40 => 
                                                  k t23_5 h_40) ⟨⟩) h_38 ⟨⟩) ⟨⟩) ⟨⟩) ⟨⟩) ⟨⟩) ⟨⟩) h_2 ⟨⟩))) h_2 ⟨⟩) #[] ⟨⟩) h_2 ⟨⟩) #[] ⟨⟩) h_2 ⟨⟩) #[] ⟨⟩) h_2 ⟨⟩) #[] ⟨⟩) h_2 ⟨⟩) #[] ⟨⟩) #[] ⟨⟩) h_2 ⟨⟩) #[] ⟨⟩)
      (fun t2 h_41 =>
      R t2 h_41) h_1 ⟨⟩ ⟨⟩) h ⟨⟩

theorem n35_calls {x0 : Value} {R : Value → Heap → Prop} {h : Heap} (H : n35 x0 R h) : CallsH Try.prog 35 #[x0] h R ⟨⟩ :=
  callsH_of_eq Try.follow (.n none .l (.n (some [3]) .l .l)) Try.func35 (by kernel_rfl) (by kernel_rfl) (by kernel_rfl) H

/-- palimpsest/palimpsestref11.MayRow -/
def n36 (x0 bits1 : Value) (R : Value → Heap → Prop) (h : Heap) : Prop :=
  Hp Try.prog false (Instr.box 25 x0) (fun x2 h_1 => 
    Hp Try.prog false (Instr.fieldAt 25 x2 3) (fun t6 h_2 => 
      Hp Try.prog false (Instr.loadAt 2 t6) (fun t7 h_3 => 
        Hp Try.prog false (binS .eql 2 (.tmp 7) (.const (.int .i64 0)) t7 (.int .i64 0)) (fun t8 h_4 => 
          Join1 (fun k h_5 => guardP t8 true (Hp Try.prog false (Instr.fieldAt 25 x2 4) k h_5 ⟨⟩) (k undef h_5) ⟨⟩ ⟨⟩) (fun t10 h_6 => 
            Join1 (fun k_1 h_7 => guardP t8 true (Hp Try.prog false (Instr.loadAt 3 t10) k_1 h_7 ⟨⟩) (k_1 undef h_7) ⟨⟩ ⟨⟩) (fun t11 h_8 => 
              Join1 (fun k_2 h_9 => guardP t8 true (Hp Try.prog false (binS .eql 3 (.tmp 11) (.const (.int .i64 0)) t11 (.int .i64 0)) k_2 h_9 ⟨⟩) (k_2 undef h_9) ⟨⟩ ⟨⟩) (fun t12 h_10 => 
                Hp Try.prog false (pickS t8 t12 (.bool false)) (fun t13 h_11 => 
                  Join1 (fun k_3 h_12 => guardP t13 false (Hp Try.prog false (Instr.fieldAt 25 x2 3) k_3 h_12 ⟨⟩) (k_3 undef h_12) ⟨⟩ ⟨⟩) (fun t15 h_13 => 
                    Join1 (fun k_4 h_14 => guardP t13 false (Hp Try.prog false (Instr.loadAt 2 t15) k_4 h_14 ⟨⟩) (k_4 undef h_14) ⟨⟩ ⟨⟩) (fun t16 h_15 => 
                      Join1 (fun k_5 h_16 => guardP t13 false (k_5 bits1 h_16) (k_5 undef h_16) ⟨⟩ ⟨⟩) (fun t17 h_17 => 
                        Join1 (fun k_6 h_18 => guardP t13 false (CallsH Try.prog 62 #[t16, t17] h_18 k_6 ⟨⟩) (k_6 undef h_18) ⟨⟩ ⟨⟩) (fun t18 h_19 => 
                          Join1 (fun k_7 h_20 => guardP t13 false (k_7 t18 h_20) (k_7 undef h_20) ⟨⟩ ⟨⟩) (fun t19 h_21 => 
                            Join1 (fun k_8 h_22 => guardP t19 true (Hp Try.prog false (Instr.fieldAt 25 x2 4) k_8 h_22 ⟨⟩) (k_8 undef h_22) ⟨⟩ ⟨⟩) (fun t20 h_23 => 
                              Join1 (fun k_9 h_24 => guardP t19 true (Hp Try.prog false (Instr.loadAt 3 t20) k_9 h_24 ⟨⟩) (k_9 undef h_24) ⟨⟩ ⟨⟩) (fun t21 h_25 => 
                                Join1 (fun k_10 h_26 => guardP t19 true (Hp Try.prog false (binS .geq 3 (.tmp 21) (.const (.int .i64 1)) t21 (.int .i64 1)) k_10 h_26 ⟨⟩) (k_10 undef h_26) ⟨⟩ ⟨⟩) (fun t22 h_27 => 
                                  Join1 (fun k_11 h_28 => guardP t13 false (Hp Try.prog false (pickS t19 t22 (.bool false)) k_11 h_28 ⟨⟩) (k_11 undef h_28) ⟨⟩ ⟨⟩) (fun t23 h_29 => 
                                    Join1 (fun k_12 h_30 => guardP t13 false (k_12 t23 h_30) (k_12 undef h_30) ⟨⟩ ⟨⟩) (fun t24 h_31 => 
                                      Join1 (fun k_13 h_32 => guardP t24 true (Hp Try.prog false (Instr.fieldAt 25 x2 4) k_13 h_32 ⟨⟩) (k_13 undef h_32) ⟨⟩ ⟨⟩) (fun t25 h_33 => 
                                        Join1 (fun k_14 h_34 => guardP t24 true (Hp Try.prog false (Instr.loadAt 3 t25) k_14 h_34 ⟨⟩) (k_14 undef h_34) ⟨⟩ ⟨⟩) (fun t26 h_35 => 
                                          Join1 (fun k_15 h_36 => guardP t24 true (Hp Try.prog false (binS .leq 3 (.tmp 26) (.const (.int .i64 16777216)) t26 (.int .i64 16777216)) k_15 h_36 ⟨⟩) (k_15 undef h_36) ⟨⟩ ⟨⟩) (fun t27 h_37 => 
                                            Join1 (fun k_16 h_38 => guardP t13 false (Hp Try.prog false (pickS t24 t27 (.bool false)) k_16 h_38 ⟨⟩) (k_16 undef h_38) ⟨⟩ ⟨⟩) (fun t28 h_39 => 
                                              Hp Try.prog false (pickS t13 (.bool true) t28) (fun t29 h_40 => 
                                                Hp Try.prog false (Instr.fieldAt 25 x2 0) (fun t30 h_41 => 
                                                  Hp Try.prog false (Instr.loadAt 9 t30) (fun t31 h_42 => 
                                                    CallsH Try.prog 79 #[t31] h_42 (fun t32 h_43 => 
                                                      Join1 (fun k_17 h_44 => guardP t32 true (k_17 t29 h_44) (k_17 undef h_44) ⟨⟩ ⟨⟩) (fun t34 h_45 => 
                                                        Hp Try.prog false (pickS t32 t34 (.bool false)) (fun t35 h_46 => 
                                                          Join1 (fun k_18 h_47 => guardP t35 true (Hp Try.prog false (Instr.fieldAt 25 x2 1) k_18 h_47 ⟨⟩) (k_18 undef h_47) ⟨⟩ ⟨⟩) (fun t37 h_48 => 
                                                            Join1 (fun k_19 h_49 => guardP t35 true (Hp Try.prog false (Instr.loadAt 3 t37) k_19 h_49 ⟨⟩) (k_19 undef h_49) ⟨⟩ ⟨⟩) (fun t38 h_50 => 
                                                              Join1 (fun k_20 h_51 => guardP t35 true (Hp Try.prog false (binS .geq 3 (.tmp 38) (.const (.int .i64 9)) t38 (.int .i64 9)) k_20 h_51 ⟨⟩) (k_20 undef h_51) ⟨⟩ ⟨⟩) (fun t39 h_52 => 
                                                                Hp Try.prog false (pickS t35 t39 (.bool false)) (fun t40 h_53 => 
                                                                  Join1 (fun k_21 h_54 => guardP t40 true (Hp Try.prog false (Instr.fieldAt 25 x2 1) k_21 h_54 ⟨⟩) (k_21 undef h_54) ⟨⟩ ⟨⟩) (fun t42 h_55 => 
                                                                    Join1 (fun k_22 h_56 => guardP t40 true (Hp Try.prog false (Instr.loadAt 3 t42) k_22 h_56 ⟨⟩) (k_22 undef h_56) ⟨⟩ ⟨⟩) (fun t43 h_57 => 
                                                                      Join1 (fun k_23 h_58 => guardP t40 true (Hp Try.prog false (binS .leq 3 (.tmp 43) (.const (.int .i64 31)) t43 (.int .i64 31)) k_23 h_58 ⟨⟩) (k_23 undef h_58) ⟨⟩ ⟨⟩) (fun t44 h_59 => 
                                                                        Hp Try.prog false (pickS t40 t44 (.bool false)) (fun t45 h_60 => 
                                                                          Join1 (fun k_24 h_61 => guardP t45 true (Hp Try.prog false (Instr.fieldAt 25 x2 2) k_24 h_61 ⟨⟩) (k_24 undef h_61) ⟨⟩ ⟨⟩) (fun t47 h_62 => 
                                                                            Join1 (fun k_25 h_63 => guardP t45 true (Hp Try.prog false (Instr.loadAt 3 t47) k_25 h_63 ⟨⟩) (k_25 undef h_63) ⟨⟩ ⟨⟩) (fun t48 h_64 => 
                                                                              Join1 (fun k_26 h_65 => guardP t45 true (Hp Try.prog false (binS .geq 3 (.tmp 48) (.const (.int .i64 0)) t48 (.int .i64 0)) k_26 h_65 ⟨⟩) (k_26 undef h_65) ⟨⟩ ⟨⟩) (fun t49 h_66 => 
                                                                                Hp Try.prog false (pickS t45 t49 (.bool false)) (fun t50 h_67 => 
                                                                                  Join1 (fun k_27 h_68 => guardP t50 true (Hp Try.prog false (Instr.fieldAt 25 x2 2) k_27 h_68 ⟨⟩) (k_27 undef h_68) ⟨⟩ ⟨⟩) (fun t52 h_69 => 
                                                                                    Join1 (fun k_28 h_70 => guardP t50 true (Hp Try.prog false (Instr.loadAt 3 t52) k_28 h_70 ⟨⟩) (k_28 undef h_70) ⟨⟩ ⟨⟩) (fun t53 h_71 => 
                                                                                      Join1 (fun k_29 h_72 => guardP t50 true (Hp Try.prog false (binS .leq 3 (.tmp 53) (.const (.int .i64 3)) t53 (.int .i64 3)) k_29 h_72 ⟨⟩) (k_29 undef h_72) ⟨⟩ ⟨⟩) (fun t54 h_73 => 
                                                                                        Hp Try.prog false (pickS t50 t54 (.bool false)) (fun t55 h_74 => 
                                                                                          R t55 h_74) h_73 ⟨⟩) h_71 ⟨⟩ ⟨⟩) h_69 ⟨⟩ ⟨⟩) h_67 ⟨⟩ ⟨⟩) h_66 ⟨⟩) h_64 ⟨⟩ ⟨⟩) h_62 ⟨⟩ ⟨⟩) h_60 ⟨⟩ ⟨⟩) h_59 ⟨⟩) h_57 ⟨⟩ ⟨⟩) h_55 ⟨⟩ ⟨⟩) h_53 ⟨⟩ ⟨⟩) h_52 ⟨⟩) h_50 ⟨⟩ ⟨⟩) h_48 ⟨⟩ ⟨⟩) h_46 ⟨⟩ ⟨⟩) h_45 ⟨⟩) h_43 ⟨⟩ ⟨⟩) ⟨⟩) h_41 ⟨⟩) h_40 ⟨⟩) h_39 ⟨⟩) h_37 ⟨⟩ ⟨⟩) h_35 ⟨⟩ ⟨⟩) h_33 ⟨⟩ ⟨⟩) h_31 ⟨⟩ ⟨⟩) h_29 ⟨⟩ ⟨⟩) h_27 ⟨⟩ ⟨⟩) h_25 ⟨⟩ ⟨⟩) h_23 ⟨⟩ ⟨⟩) h_21 ⟨⟩ ⟨⟩) h_19 ⟨⟩ ⟨⟩) h_17 ⟨⟩ ⟨⟩) h_15 ⟨⟩ ⟨⟩) h_13 ⟨⟩ ⟨⟩) h_11 ⟨⟩ ⟨⟩) h_10 ⟨⟩) h_8 ⟨⟩ ⟨⟩) h_6 ⟨⟩ ⟨⟩) h_4 ⟨⟩ ⟨⟩) h_3 ⟨⟩) h_2 ⟨⟩) h_1 ⟨⟩) h ⟨⟩

theorem n36_calls {x0 bits1 : Value} {R : Value → Heap → Prop} {h : Heap} (H : n36 x0 bits1 R h) : CallsH Try.prog 36 #[x0, bits1] h R ⟨⟩ :=
  callsH_of_eq Try.follow .l Try.func36 (by kernel_rfl) (by kernel_rfl) (by kernel_rfl) H

/-- palimpsest/palimpsestref11.named -/
def n37 (s0 : Value) (R : Value → Heap → Prop) (h : Heap) : Prop :=
  Hp Try.prog false (Builtin.len_ #[9] 3 #[s0]) (fun t4 h_1 => 
    Hp Try.prog false (convert 3 5 t4) (fun t5 h_2 => 
      Hp Try.prog false (Instr.buildSlice 26 1 #[(0, t5)]) (fun t6 h_3 => 
        Hp Try.prog false (Builtin.append_ #[26, 9] 26 #[t6, s0]) (fun t8 h_4 => 
          R t8 h_4) h_3 ⟨⟩) h_2 ⟨⟩) h_1 ⟨⟩) h ⟨⟩

theorem n37_calls {s0 : Value} {R : Value → Heap → Prop} {h : Heap} (H : n37 s0 R h) : CallsH Try.prog 37 #[s0] h R ⟨⟩ :=
  callsH_of_eq Try.follow .l Try.func37 (by kernel_rfl) (by kernel_rfl) (by kernel_rfl) H

/-- palimpsest/tables.read[palimpsest/api.Row] -/
def n39 (bits0 n1 b2 one3 all4 : Value) (R : Value → Heap → Prop) (h : Heap) : Prop :=
  Hp Try.prog false (binS .lss 3 (.tmp 16) (.const (.int .i64 9)) bits0 (.int .i64 9)) (fun t17 h_1 => 
    Join1 (fun k h_2 => guardP t17 false (k bits0 h_2) (k undef h_2) ⟨⟩ ⟨⟩) (fun t19 h_3 => 
      Join1 (fun k_1 h_4 => guardP t17 false (Hp Try.prog false (binS .gtr 3 (.tmp 19) (.const (.int .i64 16)) t19 (.int .i64 16)) k_1 h_4 ⟨⟩) (k_1 undef h_4) ⟨⟩ ⟨⟩) (fun t20 h_5 => 
        Hp Try.prog false (pickS t17 (.bool true) t20) (fun t21 h_6 => 
          Join1 (fun k_2 h_7 => guardP t21 false (k_2 n1 h_7) (k_2 undef h_7) ⟨⟩ ⟨⟩) (fun t23 h_8 => 
            Join1 (fun k_3 h_9 => guardP t21 false (Hp Try.prog false (binS .lss 3 (.tmp 23) (.const (.int .i64 0)) t23 (.int .i64 0)) k_3 h_9 ⟨⟩) (k_3 undef h_9) ⟨⟩ ⟨⟩) (fun t24 h_10 => 
              Hp Try.prog false (pickS t21 (.bool true) t24) (fun t25 h_11 => 
                CondP t25 (
                  R (.tuple #[(.slice none 0 0), (.int .i64 2)]) h_11) (
                  Hp Try.prog false (Instr.build 113 #[(0, b2), (2, (.bool true))]) (fun t27 h_12 => 
                    Hp Try.prog false (Instr.box 113 t27) (fun t28 h_13 => 
                      JoinN 1 (fun (k_4 : Value → Heap → Prop) h_14 =>
                        JoinN 1 (fun (k_5 : Value → Heap → Prop) h_15 =>
                          LoopC 2 (fun (X : Value → Value → Heap → Prop) => fun out13 t30 h_16 =>
                            Hp Try.prog false (binS .lss 3 (.tmp 30) (.tmp 29) t30 n1) (fun t31 h_17 => 
                              CondP t31 (
                                InvokeH Try.prog one3 #[t28] h_17 (fun t35 h_18 => 
                                  Hp Try.prog false (Instr.buildSlice 22 1 #[(0, t35)]) (fun t36 h_19 => 
                                    Hp Try.prog false (Builtin.append_ #[22, 22] 22 #[out13, t36]) (fun t37 h_20 => 
                                      Hp Try.prog false (nilS t28) (fun t39 h_21 => 
                                        Hp Try.prog false (Instr.fieldAt 113 t39 2) (fun t40 h_22 => 
                                          Hp Try.prog false (Instr.loadAt 4 t40) (fun t41 h_23 => 
                                            Hp Try.prog false (Op.unary .not t41) (fun t42 h_24 => 
                                              CondP t42 (
                                                k_5 t37 h_24) (
                                                Hp Try.prog false (binS .add 3 (.tmp 30) (.const (.int .i64 1)) t30 (.int .i64 1)) (fun t43 h_25 => 
                                                  X t37 t43 h_25) h_24 ⟨⟩) ⟨⟩ ⟨⟩) h_23 ⟨⟩) h_22 ⟨⟩) h_21 ⟨⟩) h_20 ⟨⟩) h_19 ⟨⟩) h_18 ⟨⟩) ⟨⟩) (
                                k_5 out13 h_17) ⟨⟩ ⟨⟩) h_16 ⟨⟩) [(.slice none 0 0), (.int .i64 0)] h_15 ⟨⟩)
                          (fun out13_1 h_26 =>
                          k_4 out13_1 h_26) h_14 ⟨⟩ ⟨⟩)
                        (fun out13_2 h_27 =>
                        InvokeH Try.prog all4 #[out13_2] h_27 (fun t47 h_28 => 
                          Hp Try.prog false (Instr.extract t47 0) (fun t48 h_29 => 
                            Hp Try.prog false (Instr.extract t47 1) (fun t49 h_30 => 
                              Hp Try.prog false (nilS t28) (fun t51 h_31 => 
                                Hp Try.prog false (Instr.fieldAt 113 t51 2) (fun t52 h_32 => 
                                  Hp Try.prog false (Instr.loadAt 4 t52) (fun t53 h_33 => 
                                    Hp Try.prog false (Op.unary .not t53) (fun t54 h_34 => 
                                      Join1 (fun k_6 h_35 => guardP t54 false (k_6 t49 h_35) (k_6 undef h_35) ⟨⟩ ⟨⟩) (fun t56 h_36 => 
                                        Join1 (fun k_7 h_37 => guardP t54 false (Hp Try.prog false (binS .neq 27 (.tmp 56) (.const (.int .i64 0)) t56 (.int .i64 0)) k_7 h_37 ⟨⟩) (k_7 undef h_37) ⟨⟩ ⟨⟩) (fun t57 h_38 => 
                                          Hp Try.prog false (pickS t54 (.bool true) t57) (fun t58 h_39 => 
                                            Join1 (fun k_8 h_40 => guardP t58 false (k_8 t48 h_40) (k_8 undef h_40) ⟨⟩ ⟨⟩) (fun t60 h_41 => 
                                              Join1 (fun k_9 h_42 => guardP t58 false (k_9 b2 h_42) (k_9 undef h_42) ⟨⟩ ⟨⟩) (fun t61 h_43 => 
                                                Join1 (fun k_10 h_44 => guardP t58 false (CallsH Try.prog 80 #[t60, t61] h_44 k_10 ⟨⟩) (k_10 undef h_44) ⟨⟩ ⟨⟩) (fun t62 h_45 => 
                                                  Join1 (fun k_11 h_46 => guardP t58 false (Hp Try.prog false (Op.unary .not t62) k_11 h_46 ⟨⟩) (k_11 undef h_46) ⟨⟩ ⟨⟩) (fun t63 h_47 => 
                                                    Hp Try.prog false (pickS t58 (.bool true) t63) (fun t64 h_48 => 
                                                      CondP t64 (
                                                        R (.tuple #[(.slice none 0 0), (.int .i64 210)]) h_48) (
                                                        R (.tuple #[out13_2, (.int .i64 0)]) h_48) ⟨⟩ ⟨⟩) h_47 ⟨⟩) h_45 ⟨⟩ ⟨⟩) h_43 ⟨⟩ ⟨⟩) h_41 ⟨⟩ ⟨⟩) h_39 ⟨⟩ ⟨⟩) h_38 ⟨⟩) h_36 ⟨⟩ ⟨⟩) h_34 ⟨⟩ ⟨⟩) h_33 ⟨⟩) h_32 ⟨⟩) h_31 ⟨⟩) h_30 ⟨⟩) h_29 ⟨⟩) h_28 ⟨⟩) ⟨⟩) h_13 ⟨⟩ ⟨⟩) h_12 ⟨⟩) h_11 ⟨⟩) ⟨⟩ ⟨⟩) h_10 ⟨⟩) h_8 ⟨⟩ ⟨⟩) h_6 ⟨⟩ ⟨⟩) h_5 ⟨⟩) h_3 ⟨⟩ ⟨⟩) h_1 ⟨⟩ ⟨⟩) h ⟨⟩

theorem n39_calls {bits0 n1 b2 one3 all4 : Value} {R : Value → Heap → Prop} {h : Heap} (H : n39 bits0 n1 b2 one3 all4 R h) : CallsH Try.prog 39 #[bits0, n1, b2, one3, all4] h R ⟨⟩ :=
  callsH_of_eq Try.follow (.n none .l (.n none (.n none .l (.n none .l (.n none .l (.n none .l (.n (some [14]) (.n none .l (.n (some [14]) (.n (some [14, 31]) .l .l) .l)) .l))))) .l)) Try.func39 (by kernel_rfl) (by kernel_rfl) (by kernel_rfl) H

/-- palimpsest/tables.readRow -/
def n40 (r0 : Value) (R : Value → Heap → Prop) (h : Heap) : Prop :=
  Hp Try.prog false (Instr.alloc 25 true undef) (fun t2 h_1 => 
    CallsH Try.prog 81 #[r0] h_1 (fun t5 h_2 => 
      Hp Try.prog false (Instr.build 25 #[(0, t5)]) (fun t6 h_3 => 
        Hp Try.prog false (Instr.alloc 25 true undef) (fun x3 h_4 => 
          Hp Try.prog false (storeS 25 x3 t6) (fun _ h_5 => 
            CallsH Try.prog 82 #[r0, (.int .i64 1)] h_5 (fun t8 h_6 => 
              CallsH Try.prog 82 #[r0, (.int .i64 1)] h_6 (fun t10 h_7 => 
                CallsH Try.prog 82 #[r0, (.int .i64 8)] h_7 (fun t12 h_8 => 
                  CallsH Try.prog 82 #[r0, (.int .i64 4)] h_8 (fun t14 h_9 => 
                    Hp Try.prog false (Instr.fieldAt 25 x3 1) (fun t15 h_10 => 
                      Hp Try.prog false (storeS 3 t15 t8) (fun _ h_11 => 
                        Hp Try.prog false (Instr.fieldAt 25 x3 2) (fun t16 h_12 => 
                          Hp Try.prog false (storeS 3 t16 t10) (fun _ h_13 => 
                            Hp Try.prog false (Instr.fieldAt 25 x3 3) (fun t17 h_14 => 
                              Hp Try.prog false (storeS 2 t17 t12) (fun _ h_15 => 
                                Hp Try.prog false (Instr.fieldAt 25 x3 4) (fun t18 h_16 => 
                                  Hp Try.prog false (storeS 3 t18 t14) (fun _ h_17 => 
                                    Hp Try.prog false (Instr.loadAt 25 x3) (fun t19 h_18 => 
                                      Hp Try.prog false (storeS 25 t2 t19) (fun _ h_19 => 
                                        Hp Try.prog true (loadCell 25 t2) (fun r _ =>
                                          R r h_19) h_19 ⟨⟩) h_18 ⟨⟩) h_17 ⟨⟩) h_16 ⟨⟩) h_15 ⟨⟩) h_14 ⟨⟩) h_13 ⟨⟩) h_12 ⟨⟩) h_11 ⟨⟩) h_10 ⟨⟩) h_9 ⟨⟩) ⟨⟩) ⟨⟩) ⟨⟩) ⟨⟩) h_4 ⟨⟩) h_3 ⟨⟩) h_2 ⟨⟩) ⟨⟩) h ⟨⟩

theorem n40_calls {r0 : Value} {R : Value → Heap → Prop} {h : Heap} (H : n40 r0 R h) : CallsH Try.prog 40 #[r0] h R ⟨⟩ :=
  callsH_of_eq Try.follow .l Try.func40 (by kernel_rfl) (by kernel_rfl) (by kernel_rfl) H

/-- palimpsest/tables.ReadRows$1 -/
def n41 (l0 t1 : Value) (R : Value → Heap → Prop) (h : Heap) : Prop :=
  Hp Try.prog false (Instr.loadAt 3 t1) (fun t5 h_1 => 
    CallsH Try.prog 9 #[t5, l0] h_1 (fun t7 h_2 => 
      Hp Try.prog false (Instr.extract t7 0) (fun t8 h_3 => 
        Hp Try.prog false (Instr.extract t7 1) (fun t9 h_4 => 
          R (.tuple #[t8, t9]) h_4) h_3 ⟨⟩) h_2 ⟨⟩) ⟨⟩) h ⟨⟩

theorem n41_calls {l0 t1 : Value} {R : Value → Heap → Prop} {h : Heap} (H : n41 l0 t1 R h) : CallsH Try.prog 41 #[l0, t1] h R ⟨⟩ :=
  callsH_of_eq Try.follow .l Try.func41 (by kernel_rfl) (by kernel_rfl) (by kernel_rfl) H

/-- palimpsest/tables.read[palimpsest/api.Snap] -/
def n42 (bits0 n1 b2 one3 all4 : Value) (R : Value → Heap → Prop) (h : Heap) : Prop :=
  Hp Try.prog false (binS .lss 3 (.tmp 16) (.const (.int .i64 9)) bits0 (.int .i64 9)) (fun t17 h_1 => 
    Join1 (fun k h_2 => guardP t17 false (k bits0 h_2) (k undef h_2) ⟨⟩ ⟨⟩) (fun t19 h_3 => 
      Join1 (fun k_1 h_4 => guardP t17 false (Hp Try.prog false (binS .gtr 3 (.tmp 19) (.const (.int .i64 16)) t19 (.int .i64 16)) k_1 h_4 ⟨⟩) (k_1 undef h_4) ⟨⟩ ⟨⟩) (fun t20 h_5 => 
        Hp Try.prog false (pickS t17 (.bool true) t20) (fun t21 h_6 => 
          Join1 (fun k_2 h_7 => guardP t21 false (k_2 n1 h_7) (k_2 undef h_7) ⟨⟩ ⟨⟩) (fun t23 h_8 => 
            Join1 (fun k_3 h_9 => guardP t21 false (Hp Try.prog false (binS .lss 3 (.tmp 23) (.const (.int .i64 0)) t23 (.int .i64 0)) k_3 h_9 ⟨⟩) (k_3 undef h_9) ⟨⟩ ⟨⟩) (fun t24 h_10 => 
              Hp Try.prog false (pickS t21 (.bool true) t24) (fun t25 h_11 => 
                CondP t25 (
                  R (.tuple #[(.slice none 0 0), (.int .i64 2)]) h_11) (
                  Hp Try.prog false (Instr.build 113 #[(0, b2), (2, (.bool true))]) (fun t27 h_12 => 
                    Hp Try.prog false (Instr.box 113 t27) (fun t28 h_13 => 
                      JoinN 1 (fun (k_4 : Value → Heap → Prop) h_14 =>
                        JoinN 1 (fun (k_5 : Value → Heap → Prop) h_15 =>
                          LoopC 2 (fun (X : Value → Value → Heap → Prop) => fun out13 t30 h_16 =>
                            Hp Try.prog false (binS .lss 3 (.tmp 30) (.tmp 29) t30 n1) (fun t31 h_17 => 
                              CondP t31 (
                                InvokeH Try.prog one3 #[t28] h_17 (fun t35 h_18 => 
                                  Hp Try.prog false (Instr.buildSlice 36 1 #[(0, t35)]) (fun t36 h_19 => 
                                    Hp Try.prog false (Builtin.append_ #[36, 36] 36 #[out13, t36]) (fun t37 h_20 => 
                                      Hp Try.prog false (nilS t28) (fun t39 h_21 => 
                                        Hp Try.prog false (Instr.fieldAt 113 t39 2) (fun t40 h_22 => 
                                          Hp Try.prog false (Instr.loadAt 4 t40) (fun t41 h_23 => 
                                            Hp Try.prog false (Op.unary .not t41) (fun t42 h_24 => 
                                              CondP t42 (
                                                k_5 t37 h_24) (
                                                Hp Try.prog false (binS .add 3 (.tmp 30) (.const (.int .i64 1)) t30 (.int .i64 1)) (fun t43 h_25 => 
                                                  X t37 t43 h_25) h_24 ⟨⟩) ⟨⟩ ⟨⟩) h_23 ⟨⟩) h_22 ⟨⟩) h_21 ⟨⟩) h_20 ⟨⟩) h_19 ⟨⟩) h_18 ⟨⟩) ⟨⟩) (
                                k_5 out13 h_17) ⟨⟩ ⟨⟩) h_16 ⟨⟩) [(.slice none 0 0), (.int .i64 0)] h_15 ⟨⟩)
                          (fun out13_1 h_26 =>
                          k_4 out13_1 h_26) h_14 ⟨⟩ ⟨⟩)
                        (fun out13_2 h_27 =>
                        InvokeH Try.prog all4 #[out13_2] h_27 (fun t47 h_28 => 
                          Hp Try.prog false (Instr.extract t47 0) (fun t48 h_29 => 
                            Hp Try.prog false (Instr.extract t47 1) (fun t49 h_30 => 
                              Hp Try.prog false (nilS t28) (fun t51 h_31 => 
                                Hp Try.prog false (Instr.fieldAt 113 t51 2) (fun t52 h_32 => 
                                  Hp Try.prog false (Instr.loadAt 4 t52) (fun t53 h_33 => 
                                    Hp Try.prog false (Op.unary .not t53) (fun t54 h_34 => 
                                      Join1 (fun k_6 h_35 => guardP t54 false (k_6 t49 h_35) (k_6 undef h_35) ⟨⟩ ⟨⟩) (fun t56 h_36 => 
                                        Join1 (fun k_7 h_37 => guardP t54 false (Hp Try.prog false (binS .neq 27 (.tmp 56) (.const (.int .i64 0)) t56 (.int .i64 0)) k_7 h_37 ⟨⟩) (k_7 undef h_37) ⟨⟩ ⟨⟩) (fun t57 h_38 => 
                                          Hp Try.prog false (pickS t54 (.bool true) t57) (fun t58 h_39 => 
                                            Join1 (fun k_8 h_40 => guardP t58 false (k_8 t48 h_40) (k_8 undef h_40) ⟨⟩ ⟨⟩) (fun t60 h_41 => 
                                              Join1 (fun k_9 h_42 => guardP t58 false (k_9 b2 h_42) (k_9 undef h_42) ⟨⟩ ⟨⟩) (fun t61 h_43 => 
                                                Join1 (fun k_10 h_44 => guardP t58 false (CallsH Try.prog 80 #[t60, t61] h_44 k_10 ⟨⟩) (k_10 undef h_44) ⟨⟩ ⟨⟩) (fun t62 h_45 => 
                                                  Join1 (fun k_11 h_46 => guardP t58 false (Hp Try.prog false (Op.unary .not t62) k_11 h_46 ⟨⟩) (k_11 undef h_46) ⟨⟩ ⟨⟩) (fun t63 h_47 => 
                                                    Hp Try.prog false (pickS t58 (.bool true) t63) (fun t64 h_48 => 
                                                      CondP t64 (
                                                        R (.tuple #[(.slice none 0 0), (.int .i64 210)]) h_48) (
                                                        R (.tuple #[out13_2, (.int .i64 0)]) h_48) ⟨⟩ ⟨⟩) h_47 ⟨⟩) h_45 ⟨⟩ ⟨⟩) h_43 ⟨⟩ ⟨⟩) h_41 ⟨⟩ ⟨⟩) h_39 ⟨⟩ ⟨⟩) h_38 ⟨⟩) h_36 ⟨⟩ ⟨⟩) h_34 ⟨⟩ ⟨⟩) h_33 ⟨⟩) h_32 ⟨⟩) h_31 ⟨⟩) h_30 ⟨⟩) h_29 ⟨⟩) h_28 ⟨⟩) ⟨⟩) h_13 ⟨⟩ ⟨⟩) h_12 ⟨⟩) h_11 ⟨⟩) ⟨⟩ ⟨⟩) h_10 ⟨⟩) h_8 ⟨⟩ ⟨⟩) h_6 ⟨⟩ ⟨⟩) h_5 ⟨⟩) h_3 ⟨⟩ ⟨⟩) h_1 ⟨⟩ ⟨⟩) h ⟨⟩

theorem n42_calls {bits0 n1 b2 one3 all4 : Value} {R : Value → Heap → Prop} {h : Heap} (H : n42 bits0 n1 b2 one3 all4 R h) : CallsH Try.prog 42 #[bits0, n1, b2, one3, all4] h R ⟨⟩ :=
  callsH_of_eq Try.follow (.n none .l (.n none (.n none .l (.n none .l (.n none .l (.n none .l (.n (some [14]) (.n none .l (.n (some [14]) (.n (some [14, 31]) .l .l) .l)) .l))))) .l)) Try.func42 (by kernel_rfl) (by kernel_rfl) (by kernel_rfl) H

/-- palimpsest/tables.readSnap -/
def n43 (r0 : Value) (R : Value → Heap → Prop) (h : Heap) : Prop :=
  Hp Try.prog false (Instr.alloc 61 true undef) (fun t2 h_1 => 
    CallsH Try.prog 81 #[r0] h_1 (fun t5 h_2 => 
      Hp Try.prog false (Instr.build 61 #[(0, t5)]) (fun t6 h_3 => 
        Hp Try.prog false (Instr.alloc 61 true undef) (fun x3 h_4 => 
          Hp Try.prog false (storeS 61 x3 t6) (fun _ h_5 => 
            CallsH Try.prog 82 #[r0, (.int .i64 8)] h_5 (fun t8 h_6 => 
              CallsH Try.prog 82 #[r0, (.int .i64 4)] h_6 (fun t10 h_7 => 
                CallsH Try.prog 82 #[r0, (.int .i64 8)] h_7 (fun t12 h_8 => 
                  Hp Try.prog false (Instr.fieldAt 61 x3 1) (fun t13 h_9 => 
                    Hp Try.prog false (storeS 2 t13 t8) (fun _ h_10 => 
                      Hp Try.prog false (Instr.fieldAt 61 x3 2) (fun t14 h_11 => 
                        Hp Try.prog false (storeS 3 t14 t10) (fun _ h_12 => 
                          Hp Try.prog false (Instr.fieldAt 61 x3 3) (fun t15 h_13 => 
                            Hp Try.prog false (storeS 2 t15 t12) (fun _ h_14 => 
                              Hp Try.prog false (Instr.loadAt 61 x3) (fun t16 h_15 => 
                                Hp Try.prog false (storeS 61 t2 t16) (fun _ h_16 => 
                                  Hp Try.prog true (loadCell 61 t2) (fun r _ =>
                                    R r h_16) h_16 ⟨⟩) h_15 ⟨⟩) h_14 ⟨⟩) h_13 ⟨⟩) h_12 ⟨⟩) h_11 ⟨⟩) h_10 ⟨⟩) h_9 ⟨⟩) h_8 ⟨⟩) ⟨⟩) ⟨⟩) ⟨⟩) h_4 ⟨⟩) h_3 ⟨⟩) h_2 ⟨⟩) ⟨⟩) h ⟨⟩

theorem n43_calls {r0 : Value} {R : Value → Heap → Prop} {h : Heap} (H : n43 r0 R h) : CallsH Try.prog 43 #[r0] h R ⟨⟩ :=
  callsH_of_eq Try.follow .l Try.func43 (by kernel_rfl) (by kernel_rfl) (by kernel_rfl) H

/-- palimpsest/tables.ReadSnaps$1 -/
def n44 (l0 t1 : Value) (R : Value → Heap → Prop) (h : Heap) : Prop :=
  Hp Try.prog false (Instr.loadAt 3 t1) (fun t5 h_1 => 
    CallsH Try.prog 31 #[t5, l0] h_1 (fun t7 h_2 => 
      Hp Try.prog false (Instr.extract t7 0) (fun t8 h_3 => 
        Hp Try.prog false (Instr.extract t7 1) (fun t9 h_4 => 
          R (.tuple #[t8, t9]) h_4) h_3 ⟨⟩) h_2 ⟨⟩) ⟨⟩) h ⟨⟩

theorem n44_calls {l0 t1 : Value} {R : Value → Heap → Prop} {h : Heap} (H : n44 l0 t1 R h) : CallsH Try.prog 44 #[l0, t1] h R ⟨⟩ :=
  callsH_of_eq Try.follow .l Try.func44 (by kernel_rfl) (by kernel_rfl) (by kernel_rfl) H

/-- palimpsest/palimpsestref11.Snaps -/
def n47 (bits0 l1 : Value) (R : Value → Heap → Prop) (h : Heap) : Prop :=
  Hp Try.prog false (binS .lss 3 (.tmp 9) (.const (.int .i64 9)) bits0 (.int .i64 9)) (fun t10 h_1 => 
    Join1 (fun k h_2 => guardP t10 false (k bits0 h_2) (k undef h_2) ⟨⟩ ⟨⟩) (fun t12 h_3 => 
      Join1 (fun k_1 h_4 => guardP t10 false (Hp Try.prog false (binS .gtr 3 (.tmp 12) (.const (.int .i64 16)) t12 (.int .i64 16)) k_1 h_4 ⟨⟩) (k_1 undef h_4) ⟨⟩ ⟨⟩) (fun t13 h_5 => 
        Hp Try.prog false (pickS t10 (.bool true) t13) (fun t14 h_6 => 
          CondP t14 (
            R (.tuple #[(.slice none 0 0), (.int .i64 2)]) h_6) (
            LoopC 2 (fun (X : Value → Value → Heap → Prop) => fun out6 i7 h_7 =>
              Hp Try.prog false (Builtin.len_ #[36] 3 #[l1]) (fun t17 h_8 => 
                Hp Try.prog false (binS .lss 3 (.tmp 15) (.tmp 17) i7 t17) (fun t18 h_9 => 
                  CondP t18 (
                    Hp Try.prog false (Instr.indexAt 36 l1 i7) (fun t23 h_10 => 
                      Hp Try.prog false (Instr.loadAt 61 t23) (fun t24 h_11 => 
                        CallsH Try.prog 83 #[t24, bits0] h_11 (fun t26 h_12 => 
                          Hp Try.prog false (Op.unary .not t26) (fun t27 h_13 => 
                            CondP t27 (
                              R (.tuple #[(.slice none 0 0), (.int .i64 2)]) h_13) (
                              LoopC 1 (fun (X_1 : Value → Heap → Prop) => fun k8 h_14 =>
                                Hp Try.prog false (binS .lss 3 (.tmp 28) (.tmp 29) k8 i7) (fun t30 h_15 => 
                                  CondP t30 (
                                    Hp Try.prog true (Instr.indexAt 36 l1 k8) (fun t35 _ => 
                                      Hp Try.prog true (Instr.fieldAt 61 t35 0) (fun t36 _ => 
                                        Hp Try.prog true (Instr.loadAt 9 t36) (fun t37 _ => 
                                          Hp Try.prog true (Instr.indexAt 36 l1 i7) (fun t40 _ => 
                                            Hp Try.prog true (Instr.fieldAt 61 t40 0) (fun t41 _ => 
                                              Hp Try.prog true (Instr.loadAt 9 t41) (fun t42 _ => 
                                                Hp Try.prog true (binS .eql 9 (.tmp 37) (.tmp 42) t37 t42) (fun t43 _ => 
                                                  CondP t43 (
                                                    R (.tuple #[(.slice none 0 0), (.int .i64 2)]) h_15) (
                                                    Hp Try.prog false (binS .add 3 (.tmp 31) (.const (.int .i64 1)) k8 (.int .i64 1)) (fun t32 h_16 => 
                                                      X_1 t32 h_16) h_15 ⟨⟩) ⟨⟩ ⟨⟩) #[] ⟨⟩) h_15 ⟨⟩) #[] ⟨⟩) #[] ⟨⟩) h_15 ⟨⟩) #[] ⟨⟩) #[] ⟨⟩) (
                                    Hp Try.prog false (Instr.indexAt 36 l1 i7) (fun t47 h_17 => 
                                      Hp Try.prog false (Instr.fieldAt 61 t47 0) (fun t48 h_18 => 
                                        Hp Try.prog false (Instr.loadAt 9 t48) (fun t49 h_19 => 
                                          CallsH Try.prog 37 #[t49] h_19 (fun t50 h_20 => 
                                            Hp Try.prog false (Builtin.append_ #[26, 26] 26 #[out6, t50]) (fun t51 h_21 => 
                                              Hp Try.prog false (Instr.indexAt 36 l1 i7) (fun t55 h_22 => 
                                                Hp Try.prog false (Instr.fieldAt 61 t55 1) (fun t56 h_23 => 
                                                  Hp Try.prog false (Instr.loadAt 2 t56) (fun t57 h_24 => 
                                                    Hp Try.prog false (convert 2 45 t57) (fun t58 h_25 => 
                                                      CallsH Try.prog 38 #[t58, (.int .i64 8)] h_25 (fun t59 h_26 => 
                                                        Hp Try.prog false (Builtin.append_ #[26, 26] 26 #[t51, t59]) (fun t60 h_27 => 
                                                          Hp Try.prog false (Instr.indexAt 36 l1 i7) (fun t64 h_28 => 
                                                            Hp Try.prog false (Instr.fieldAt 61 t64 2) (fun t65 h_29 => 
                                                              Hp Try.prog false (Instr.loadAt 3 t65) (fun t66 h_30 => 
                                                                Hp Try.prog false (convert 3 45 t66) (fun t67 h_31 => 
                                                                  CallsH Try.prog 38 #[t67, (.int .i64 4)] h_31 (fun t68 h_32 => 
                                                                    Hp Try.prog false (Builtin.append_ #[26, 26] 26 #[t60, t68]) (fun t69 h_33 => 
                                                                      Hp Try.prog false (Instr.indexAt 36 l1 i7) (fun t73 h_34 => 
                                                                        Hp Try.prog false (Instr.fieldAt 61 t73 3) (fun t74 h_35 => 
                                                                          Hp Try.prog false (Instr.loadAt 2 t74) (fun t75 h_36 => 
                                                                            Hp Try.prog false (convert 2 45 t75) (fun t76 h_37 => 
                                                                              CallsH Try.prog 38 #[t76, (.int .i64 8)] h_37 (fun t77 h_38 => 
                                                                                Hp Try.prog false (Builtin.append_ #[26, 26] 26 #[t69, t77]) (fun t78 h_39 => 
                                                                                  Hp Try.prog false (binS .add 3 (.tmp 19) (.const (.int .i64 1)) i7 (.int .i64 1)) (fun t20 h_40 => 
                                                                                    X t78 t20 h_40) h_39 ⟨⟩) h_38 ⟨⟩) ⟨⟩) h_36 ⟨⟩) h_35 ⟨⟩) h_34 ⟨⟩) h_33 ⟨⟩) h_32 ⟨⟩) ⟨⟩) h_30 ⟨⟩) h_29 ⟨⟩) h_28 ⟨⟩) h_27 ⟨⟩) h_26 ⟨⟩) ⟨⟩) h_24 ⟨⟩) h_23 ⟨⟩) h_22 ⟨⟩) h_21 ⟨⟩) h_20 ⟨⟩) ⟨⟩) h_18 ⟨⟩) h_17 ⟨⟩) h_15 ⟨⟩) ⟨⟩ ⟨⟩) h_14 ⟨⟩) [(.int .i64 0)] h_13 ⟨⟩) ⟨⟩ ⟨⟩) h_12 ⟨⟩) ⟨⟩) h_10 ⟨⟩) h_9 ⟨⟩) (
                    Hp Try.prog false (Builtin.len_ #[36] 3 #[l1]) (fun t80 h_41 => 
                      Hp Try.prog false (binS .gtr 3 (.tmp 80) (.const (.int .i64 64)) t80 (.int .i64 64)) (fun t81 h_42 => 
                        CondP t81 (
                          R (.tuple #[(.slice none 0 0), (.int .i64 3)]) h_42) (
                          R (.tuple #[out6, (.int .i64 0)]) h_42) ⟨⟩ ⟨⟩) h_41 ⟨⟩) h_9 ⟨⟩) ⟨⟩ ⟨⟩) h_8 ⟨⟩) h_7 ⟨⟩) [(.slice none 0 0), (.int .i64 0)] h_6 ⟨⟩) ⟨⟩ ⟨⟩) h_5 ⟨⟩) h_3 ⟨⟩ ⟨⟩) h_1 ⟨⟩ ⟨⟩) h ⟨⟩

theorem n47_calls {bits0 l1 : Value} {R : Value → Heap → Prop} {h : Heap} (H : n47 bits0 l1 R h) : CallsH Try.prog 47 #[bits0, l1] h R ⟨⟩ :=
  callsH_of_eq Try.follow (.n none .l (.n none .l (.n none .l (.n none (.n none .l (.n none (.n (some [7, 8]) (.n none .l (.n none (.n none (.n none .l (.n none (.n none .l (.n none (.n (some [9]) .l .l) .l)) .l)) .l) .l)) .l) .l)) .l)))) Try.func47 (by kernel_rfl) (by kernel_rfl) (by kernel_rfl) H

/-- palimpsest/tables.put[palimpsest/api.Snap] -/
def n71 (bits0 most1 l2 name3 may4 bytes5 : Value) (R : Value → Heap → Prop) (h : Heap) : Prop :=
  Hp Try.prog false (binS .lss 3 (.tmp 20) (.const (.int .i64 9)) bits0 (.int .i64 9)) (fun t21 h_1 => 
    Join1 (fun k h_2 => guardP t21 false (k bits0 h_2) (k undef h_2) ⟨⟩ ⟨⟩) (fun t23 h_3 => 
      Join1 (fun k_1 h_4 => guardP t21 false (Hp Try.prog false (binS .gtr 3 (.tmp 23) (.const (.int .i64 16)) t23 (.int .i64 16)) k_1 h_4 ⟨⟩) (k_1 undef h_4) ⟨⟩ ⟨⟩) (fun t24 h_5 => 
        Hp Try.prog false (pickS t21 (.bool true) t24) (fun t25 h_6 => 
          CondP t25 (
            R (.tuple #[(.slice none 0 0), (.int .i64 2)]) h_6) (
            Hp Try.prog false (Instr.makeMap 107 none) (fun t26 h_7 => 
              Hp Try.prog false (Builtin.len_ #[36] 3 #[l2]) (fun t28 h_8 => 
                LoopC 1 (fun (X : Value → Heap → Prop) => fun t29 h_9 =>
                  Hp Try.prog false (binS .lss 3 (.tmp 29) (.tmp 28) t29 t28) (fun t30 h_10 => 
                    CondP t30 (
                      Hp Try.prog false (Instr.indexAt 36 l2 t29) (fun t31 h_11 => 
                        Hp Try.prog false (Instr.loadAt 61 t31) (fun t32 h_12 => 
                          Hp Try.prog false (Instr.alloc 61 true undef) (fun x17 h_13 => 
                            Hp Try.prog false (storeS 61 x17 t32) (fun _ h_14 => 
                              Hp Try.prog false (Instr.loadAt 61 x17) (fun t35 h_15 => 
                                InvokeH Try.prog name3 #[t35] h_15 (fun t36 h_16 => 
                                  Hp Try.prog false (Instr.lookup 107 t26 t36 false) (fun t37 h_17 => 
                                    Hp Try.prog false (binS .add 3 (.tmp 37) (.const (.int .i64 1)) t37 (.int .i64 1)) (fun t38 h_18 => 
                                      Hp Try.prog false (unitS (Instr.mapUpdate 107 t26 t36 t38)) (fun _ h_19 => 
                                        Hp Try.prog false (Instr.loadAt 61 x17) (fun t40 h_20 => 
                                          InvokeH Try.prog may4 #[t40, bits0] h_20 (fun t42 h_21 => 
                                            Hp Try.prog false (Op.unary .not t42) (fun t43 h_22 => 
                                              Join1 (fun k_2 h_23 => guardP t43 false (k_2 t26 h_23) (k_2 undef h_23) ⟨⟩ ⟨⟩) (fun t45 h_24 => 
                                                Join1 (fun k_3 h_25 => guardP t43 false (k_3 name3 h_25) (k_3 undef h_25) ⟨⟩ ⟨⟩) (fun t46 h_26 => 
                                                  Join1 (fun k_4 h_27 => guardP t43 false (Hp Try.prog false (Instr.loadAt 61 x17) k_4 h_27 ⟨⟩) (k_4 undef h_27) ⟨⟩ ⟨⟩) (fun t47 h_28 => 
                                                    Join1 (fun k_5 h_29 => guardP t43 false (InvokeH Try.prog t46 #[t47] h_29 k_5 ⟨⟩) (k_5 undef h_29) ⟨⟩ ⟨⟩) (fun t48 h_30 => 
                                                      Join1 (fun k_6 h_31 => guardP t43 false (Hp Try.prog false (Instr.lookup 107 t45 t48 false) k_6 h_31 ⟨⟩) (k_6 undef h_31) ⟨⟩ ⟨⟩) (fun t49 h_32 => 
                                                        Join1 (fun k_7 h_33 => guardP t43 false (Hp Try.prog false (binS .gtr 3 (.tmp 49) (.const (.int .i64 1)) t49 (.int .i64 1)) k_7 h_33 ⟨⟩) (k_7 undef h_33) ⟨⟩ ⟨⟩) (fun t50 h_34 => 
                                                          Hp Try.prog false (pickS t43 (.bool true) t50) (fun t51 h_35 => 
                                                            CondP t51 (
                                                              R (.tuple #[(.slice none 0 0), (.int .i64 2)]) h_35) (
                                                              Hp Try.prog false (binS .add 3 (.tmp 29) (.const (.int .i64 1)) t29 (.int .i64 1)) (fun t52 h_36 => 
                                                                X t52 h_36) h_35 ⟨⟩) ⟨⟩ ⟨⟩) h_34 ⟨⟩) h_32 ⟨⟩ ⟨⟩) h_30 ⟨⟩ ⟨⟩) h_28 ⟨⟩ ⟨⟩) h_26 ⟨⟩ ⟨⟩) h_24 ⟨⟩ ⟨⟩) h_22 ⟨⟩ ⟨⟩) h_21 ⟨⟩) ⟨⟩) h_19 ⟨⟩) h_18 ⟨⟩) h_17 ⟨⟩) h_16 ⟨⟩) ⟨⟩) h_14 ⟨⟩) h_13 ⟨⟩) h_12 ⟨⟩) h_11 ⟨⟩) h_10 ⟨⟩) (
                      Hp Try.prog false (Builtin.len_ #[36] 3 #[l2]) (fun t54 h_37 => 
                        Hp Try.prog false (binS .gtr 3 (.tmp 54) (.tmp 55) t54 most1) (fun t56 h_38 => 
                          CondP t56 (
                            R (.tuple #[(.slice none 0 0), (.int .i64 3)]) h_38) (
                            Hp Try.prog false (Builtin.len_ #[36] 3 #[l2]) (fun t58 h_39 => 
                              LoopC 2 (fun (X_1 : Value → Value → Heap → Prop) => fun out15 t59 h_40 =>
                                Hp Try.prog false (binS .lss 3 (.tmp 59) (.tmp 58) t59 t58) (fun t60 h_41 => 
                                  CondP t60 (
                                    Hp Try.prog false (Instr.indexAt 36 l2 t59) (fun t61 h_42 => 
                                      Hp Try.prog false (Instr.loadAt 61 t61) (fun t62 h_43 => 
                                        Hp Try.prog false (Instr.alloc 61 true undef) (fun x19 h_44 => 
                                          Hp Try.prog false (storeS 61 x19 t62) (fun _ h_45 => 
                                            Hp Try.prog false (Instr.loadAt 61 x19) (fun t65 h_46 => 
                                              InvokeH Try.prog bytes5 #[t65] h_46 (fun t66 h_47 => 
                                                Hp Try.prog false (Builtin.append_ #[26, 26] 26 #[out15, t66]) (fun t67 h_48 => 
                                                  Hp Try.prog false (binS .add 3 (.tmp 59) (.const (.int .i64 1)) t59 (.int .i64 1)) (fun t68 h_49 => 
                                                    X_1 t67 t68 h_49) h_48 ⟨⟩) h_47 ⟨⟩) ⟨⟩) h_45 ⟨⟩) h_44 ⟨⟩) h_43 ⟨⟩) h_42 ⟨⟩) h_41 ⟨⟩) (
                                    R (.tuple #[out15, (.int .i64 0)]) h_41) ⟨⟩ ⟨⟩) h_40 ⟨⟩) [(.slice none 0 0), (.int .i64 0)] h_39 ⟨⟩) h_38 ⟨⟩) ⟨⟩ ⟨⟩) h_37 ⟨⟩) h_10 ⟨⟩) ⟨⟩ ⟨⟩) h_9 ⟨⟩) [(.int .i64 0)] h_8 ⟨⟩) h_7 ⟨⟩) h_6 ⟨⟩) ⟨⟩ ⟨⟩) h_5 ⟨⟩) h_3 ⟨⟩ ⟨⟩) h_1 ⟨⟩ ⟨⟩) h ⟨⟩

theorem n71_calls {bits0 most1 l2 name3 may4 bytes5 : Value} {R : Value → Heap → Prop} {h : Heap} (H : n71 bits0 most1 l2 name3 may4 bytes5 R h) : CallsH Try.prog 71 #[bits0, most1, l2, name3, may4, bytes5] h R ⟨⟩ :=
  callsH_of_eq Try.follow (.n none .l (.n none .l (.n none .l (.n none .l (.n none (.n none .l (.n none (.n (some [30]) .l .l) .l)) (.n none .l (.n none (.n none .l (.n none (.n (some [16, 60]) .l .l) .l)) .l))))))) Try.func71 (by kernel_rfl) (by kernel_rfl) (by kernel_rfl) H

/-- palimpsest/tables.Snaps$1 -/
def n72 (x0 : Value) (R : Value → Heap → Prop) (h : Heap) : Prop :=
  Hp Try.prog false (Instr.box 61 x0) (fun x1 h_1 => 
    Hp Try.prog false (Instr.fieldAt 61 x1 0) (fun t3 h_2 => 
      Hp Try.prog false (Instr.loadAt 9 t3) (fun t4 h_3 => 
        R t4 h_3) h_2 ⟨⟩) h_1 ⟨⟩) h ⟨⟩

theorem n72_calls {x0 : Value} {R : Value → Heap → Prop} {h : Heap} (H : n72 x0 R h) : CallsH Try.prog 72 #[x0] h R ⟨⟩ :=
  callsH_of_eq Try.follow .l Try.func72 (by kernel_rfl) (by kernel_rfl) (by kernel_rfl) H

/-- palimpsest/tables.snap -/
def n73 (x0 bits1 : Value) (R : Value → Heap → Prop) (h : Heap) : Prop :=
  Hp Try.prog false (Instr.box 61 x0) (fun x2 h_1 => 
    Hp Try.prog false (Instr.fieldAt 61 x2 0) (fun t5 h_2 => 
      Hp Try.prog false (Instr.loadAt 9 t5) (fun t6 h_3 => 
        CallsH Try.prog 75 #[t6] h_3 (fun t7 h_4 => 
          Join1 (fun k h_5 => guardP t7 true (Hp Try.prog false (Instr.fieldAt 61 x2 3) k h_5 ⟨⟩) (k undef h_5) ⟨⟩ ⟨⟩) (fun t9 h_6 => 
            Join1 (fun k_1 h_7 => guardP t7 true (Hp Try.prog false (Instr.loadAt 2 t9) k_1 h_7 ⟨⟩) (k_1 undef h_7) ⟨⟩ ⟨⟩) (fun t10 h_8 => 
              Join1 (fun k_2 h_9 => guardP t7 true (Hp Try.prog false (binS .geq 2 (.tmp 10) (.const (.int .i64 0)) t10 (.int .i64 0)) k_2 h_9 ⟨⟩) (k_2 undef h_9) ⟨⟩ ⟨⟩) (fun t11 h_10 => 
                Hp Try.prog false (pickS t7 t11 (.bool false)) (fun t12 h_11 => 
                  Join1 (fun k_3 h_12 => guardP t12 true (Hp Try.prog false (Instr.fieldAt 61 x2 3) k_3 h_12 ⟨⟩) (k_3 undef h_12) ⟨⟩ ⟨⟩) (fun t14 h_13 => 
                    Join1 (fun k_4 h_14 => guardP t12 true (Hp Try.prog false (Instr.loadAt 2 t14) k_4 h_14 ⟨⟩) (k_4 undef h_14) ⟨⟩ ⟨⟩) (fun t15 h_15 => 
                      Join1 (fun k_5 h_16 => guardP t12 true (Hp Try.prog false (binS .leq 2 (.tmp 15) (.const (.int .i64 67108864)) t15 (.int .i64 67108864)) k_5 h_16 ⟨⟩) (k_5 undef h_16) ⟨⟩ ⟨⟩) (fun t16 h_17 => 
                        Hp Try.prog false (pickS t12 t16 (.bool false)) (fun t17 h_18 => 
                          Join1 (fun k_6 h_19 => guardP t17 true (Hp Try.prog false (Instr.fieldAt 61 x2 3) k_6 h_19 ⟨⟩) (k_6 undef h_19) ⟨⟩ ⟨⟩) (fun t19 h_20 => 
                            Join1 (fun k_7 h_21 => guardP t17 true (Hp Try.prog false (Instr.loadAt 2 t19) k_7 h_21 ⟨⟩) (k_7 undef h_21) ⟨⟩ ⟨⟩) (fun t20 h_22 => 
                              Join1 (fun k_8 h_23 => guardP t17 true (Hp Try.prog false (binS .rem 2 (.tmp 20) (.const (.int .i64 512)) t20 (.int .i64 512)) k_8 h_23 ⟨⟩) (k_8 undef h_23) ⟨⟩ ⟨⟩) (fun t21 h_24 => 
                                Join1 (fun k_9 h_25 => guardP t17 true (Hp Try.prog false (binS .eql 2 (.tmp 21) (.const (.int .i64 0)) t21 (.int .i64 0)) k_9 h_25 ⟨⟩) (k_9 undef h_25) ⟨⟩ ⟨⟩) (fun t22 h_26 => 
                                  Hp Try.prog false (pickS t17 t22 (.bool false)) (fun t23 h_27 => 
                                    Join1 (fun k_10 h_28 => guardP t23 true (Hp Try.prog false (Instr.fieldAt 61 x2 2) k_10 h_28 ⟨⟩) (k_10 undef h_28) ⟨⟩ ⟨⟩) (fun t25 h_29 => 
                                      Join1 (fun k_11 h_30 => guardP t23 true (Hp Try.prog false (Instr.loadAt 3 t25) k_11 h_30 ⟨⟩) (k_11 undef h_30) ⟨⟩ ⟨⟩) (fun t26 h_31 => 
                                        Join1 (fun k_12 h_32 => guardP t23 true (Hp Try.prog false (binS .geq 3 (.tmp 26) (.const (.int .i64 0)) t26 (.int .i64 0)) k_12 h_32 ⟨⟩) (k_12 undef h_32) ⟨⟩ ⟨⟩) (fun t27 h_33 => 
                                          Hp Try.prog false (pickS t23 t27 (.bool false)) (fun t28 h_34 => 
                                            Join1 (fun k_13 h_35 => guardP t28 true (Hp Try.prog false (Instr.fieldAt 61 x2 2) k_13 h_35 ⟨⟩) (k_13 undef h_35) ⟨⟩ ⟨⟩) (fun t30 h_36 => 
                                              Join1 (fun k_14 h_37 => guardP t28 true (Hp Try.prog false (Instr.loadAt 3 t30) k_14 h_37 ⟨⟩) (k_14 undef h_37) ⟨⟩ ⟨⟩) (fun t31 h_38 => 
                                                Join1 (fun k_15 h_39 => guardP t28 true (Hp Try.prog false (binS .leq 3 (.tmp 31) (.const (.int .i64 1048576)) t31 (.int .i64 1048576)) k_15 h_39 ⟨⟩) (k_15 undef h_39) ⟨⟩ ⟨⟩) (fun t32 h_40 => 
                                                  Hp Try.prog false (pickS t28 t32 (.bool false)) (fun t33 h_41 => 
                                                    Join1 (fun k_16 h_42 => guardP t33 true (Hp Try.prog false (Instr.fieldAt 61 x2 2) k_16 h_42 ⟨⟩) (k_16 undef h_42) ⟨⟩ ⟨⟩) (fun t35 h_43 => 
                                                      Join1 (fun k_17 h_44 => guardP t33 true (Hp Try.prog false (Instr.loadAt 3 t35) k_17 h_44 ⟨⟩) (k_17 undef h_44) ⟨⟩ ⟨⟩) (fun t36 h_45 => 
                                                        Join1 (fun k_18 h_46 => guardP t33 true (Hp Try.prog false (binS .eql 3 (.tmp 36) (.const (.int .i64 0)) t36 (.int .i64 0)) k_18 h_46 ⟨⟩) (k_18 undef h_46) ⟨⟩ ⟨⟩) (fun t37 h_47 => 
                                                          Join1 (fun k_19 h_48 => guardP t33 true (k_19 t37 h_48) (k_19 undef h_48) ⟨⟩ ⟨⟩) (fun t38 h_49 => 
                                                            Join1 (fun k_20 h_50 => guardP t38 true (Hp Try.prog false (Instr.fieldAt 61 x2 1) k_20 h_50 ⟨⟩) (k_20 undef h_50) ⟨⟩ ⟨⟩) (fun t39 h_51 => 
                                                              Join1 (fun k_21 h_52 => guardP t38 true (Hp Try.prog false (Instr.loadAt 2 t39) k_21 h_52 ⟨⟩) (k_21 undef h_52) ⟨⟩ ⟨⟩) (fun t40 h_53 => 
                                                                Join1 (fun k_22 h_54 => guardP t38 true (Hp Try.prog false (binS .eql 2 (.tmp 40) (.const (.int .i64 0)) t40 (.int .i64 0)) k_22 h_54 ⟨⟩) (k_22 undef h_54) ⟨⟩ ⟨⟩) (fun t41 h_55 => 
                                                                  Join1 (fun k_23 h_56 => guardP t33 true (Hp Try.prog false (pickS t38 t41 (.bool false)) k_23 h_56 ⟨⟩) (k_23 undef h_56) ⟨⟩ ⟨⟩) (fun t42 h_57 => 
                                                                    Join1 (fun k_24 h_58 => guardP t33 true (k_24 t42 h_58) (k_24 undef h_58) ⟨⟩ ⟨⟩) (fun t43 h_59 => 
                                                                      Join1 (fun k_25 h_60 => guardP t43 false (Hp Try.prog false (Instr.fieldAt 61 x2 2) k_25 h_60 ⟨⟩) (k_25 undef h_60) ⟨⟩ ⟨⟩) (fun t44 h_61 => 
                                                                        Join1 (fun k_26 h_62 => guardP t43 false (Hp Try.prog false (Instr.loadAt 3 t44) k_26 h_62 ⟨⟩) (k_26 undef h_62) ⟨⟩ ⟨⟩) (fun t45 h_63 => 
                                                                          Join1 (fun k_27 h_64 => guardP t43 false (Hp Try.prog false (binS .gtr 3 (.tmp 45) (.const (.int .i64 0)) t45 (.int .i64 0)) k_27 h_64 ⟨⟩) (k_27 undef h_64) ⟨⟩ ⟨⟩) (fun t46 h_65 => 
                                                                            Join1 (fun k_28 h_66 => guardP t43 false (k_28 t46 h_66) (k_28 undef h_66) ⟨⟩ ⟨⟩) (fun t47 h_67 => 
                                                                              Join1 (fun k_29 h_68 => guardP t47 true (Hp Try.prog false (Instr.fieldAt 61 x2 1) k_29 h_68 ⟨⟩) (k_29 undef h_68) ⟨⟩ ⟨⟩) (fun t48 h_69 => 
                                                                                Join1 (fun k_30 h_70 => guardP t47 true (Hp Try.prog false (Instr.loadAt 2 t48) k_30 h_70 ⟨⟩) (k_30 undef h_70) ⟨⟩ ⟨⟩) (fun t49 h_71 => 
                                                                                  Join1 (fun k_31 h_72 => guardP t47 true (k_31 bits1 h_72) (k_31 undef h_72) ⟨⟩ ⟨⟩) (fun t50 h_73 => 
                                                                                    Join1 (fun k_32 h_74 => guardP t47 true (CallsH Try.prog 76 #[t49, t50] h_74 k_32 ⟨⟩) (k_32 undef h_74) ⟨⟩ ⟨⟩) (fun t51 h_75 => 
                                                                                      Join1 (fun k_33 h_76 => guardP t43 false (Hp Try.prog false (pickS t47 t51 (.bool false)) k_33 h_76 ⟨⟩) (k_33 undef h_76) ⟨⟩ ⟨⟩) (fun t52 h_77 => 
                                                                                        Join1 (fun k_34 h_78 => guardP t33 true (Hp Try.prog false (pickS t43 (.bool true) t52) k_34 h_78 ⟨⟩) (k_34 undef h_78) ⟨⟩ ⟨⟩) (fun t53 h_79 => 
                                                                                          Hp Try.prog false (pickS t33 t53 (.bool false)) (fun t54 h_80 => 
                                                                                            R t54 h_80) h_79 ⟨⟩) h_77 ⟨⟩ ⟨⟩) h_75 ⟨⟩ ⟨⟩) h_73 ⟨⟩ ⟨⟩) h_71 ⟨⟩ ⟨⟩) h_69 ⟨⟩ ⟨⟩) h_67 ⟨⟩ ⟨⟩) h_65 ⟨⟩ ⟨⟩) h_63 ⟨⟩ ⟨⟩) h_61 ⟨⟩ ⟨⟩) h_59 ⟨⟩ ⟨⟩) h_57 ⟨⟩ ⟨⟩) h_55 ⟨⟩ ⟨⟩) h_53 ⟨⟩ ⟨⟩) h_51 ⟨⟩ ⟨⟩) h_49 ⟨⟩ ⟨⟩) h_47 ⟨⟩ ⟨⟩) h_45 ⟨⟩ ⟨⟩) h_43 ⟨⟩ ⟨⟩) h_41 ⟨⟩ ⟨⟩) h_40 ⟨⟩) h_38 ⟨⟩ ⟨⟩) h_36 ⟨⟩ ⟨⟩) h_34 ⟨⟩ ⟨⟩) h_33 ⟨⟩) h_31 ⟨⟩ ⟨⟩) h_29 ⟨⟩ ⟨⟩) h_27 ⟨⟩ ⟨⟩) h_26 ⟨⟩) h_24 ⟨⟩ ⟨⟩) h_22 ⟨⟩ ⟨⟩) h_20 ⟨⟩ ⟨⟩) h_18 ⟨⟩ ⟨⟩) h_17 ⟨⟩) h_15 ⟨⟩ ⟨⟩) h_13 ⟨⟩ ⟨⟩) h_11 ⟨⟩ ⟨⟩) h_10 ⟨⟩) h_8 ⟨⟩ ⟨⟩) h_6 ⟨⟩ ⟨⟩) h_4 ⟨⟩ ⟨⟩) ⟨⟩) h_2 ⟨⟩) h_1 ⟨⟩) h ⟨⟩

theorem n73_calls {x0 bits1 : Value} {R : Value → Heap → Prop} {h : Heap} (H : n73 x0 bits1 R h) : CallsH Try.prog 73 #[x0, bits1] h R ⟨⟩ :=
  callsH_of_eq Try.follow .l Try.func73 (by kernel_rfl) (by kernel_rfl) (by kernel_rfl) H

/-- palimpsest/tables.snapBytes -/
def n74 (x0 : Value) (R : Value → Heap → Prop) (h : Heap) : Prop :=
  Hp Try.prog false (Instr.box 61 x0) (fun x1 h_1 => 
    JoinN 1 (fun (k : Value → Heap → Prop) h_2 =>
      Hp Try.prog true (Instr.fieldAt 61 x1 0) (fun t3 _ => 
        Hp Try.prog true (Instr.loadAt 9 t3) (fun t4 _ => 
          Hp Try.prog true (Builtin.len_ #[9] 3 #[t4]) (fun t5 _ => 
            Hp Try.prog true (Instr.fieldAt 61 x1 0) (fun t7 _ => 
              Hp Try.prog true (Instr.loadAt 9 t7) (fun t8 _ => 
                Hp Try.prog true (Instr.fieldAt 61 x1 1) (fun t10 _ => 
                  Hp Try.prog true (Instr.loadAt 2 t10) (fun t11 _ => 
                    Hp Try.prog true (Instr.fieldAt 61 x1 2) (fun t13 _ => 
                      Hp Try.prog true (Instr.loadAt 3 t13) (fun t14 _ => 
                        Hp Try.prog true (Instr.fieldAt 61 x1 3) (fun t16 _ => 
                          Hp Try.prog true (Instr.loadAt 2 t16) (fun t17 _ => 
                            ((
                              CallsH Try.prog 78 #[t5, (.int .i64 1)] h_2 (fun t6 h_3 => Hp Try.prog true (Instr.loadAt 2 t16) (fun u _ => u = t17) h_3 ⟨⟩ ∧ Hp Try.prog true (Instr.loadAt 3 t13) (fun u _ => u = t14) h_3 ⟨⟩ ∧ Hp Try.prog true (Instr.loadAt 2 t10) (fun u _ => u = t11) h_3 ⟨⟩ ∧ Hp Try.prog true (Instr.loadAt 9 t7) (fun u _ => u = t8) h_3 ⟨⟩ ∧ 
                                ((
                                  Hp Try.prog false (convert 9 26 t8) (fun t9 h_4 => Hp Try.prog true (Instr.loadAt 2 t16) (fun u _ => u = t17) h_4 ⟨⟩ ∧ Hp Try.prog true (Instr.loadAt 3 t13) (fun u _ => u = t14) h_4 ⟨⟩ ∧ Hp Try.prog true (Instr.loadAt 2 t10) (fun u _ => u = t11) h_4 ⟨⟩ ∧ Hp Try.prog true (Instr.loadAt 9 t3) (fun u _ => u = t4) h_4 ⟨⟩ ∧ 
                                    CallsH Try.prog 78 #[t11, (.int .i64 8)] h_4 (fun t12 h_5 => Hp Try.prog true (Instr.loadAt 2 t16) (fun u _ => u = t17) h_5 ⟨⟩ ∧ Hp Try.prog true (Instr.loadAt 3 t13) (fun u _ => u = t14) h_5 ⟨⟩ ∧ Hp Try.prog true (Instr.loadAt 9 t7) (fun u _ => u = t8) h_5 ⟨⟩ ∧ 
                                      CallsH Try.prog 78 #[t14, (.int .i64 4)] h_5 (fun t15 h_6 => Hp Try.prog true (Instr.loadAt 2 t16) (fun u _ => u = t17) h_6 ⟨⟩ ∧ Hp Try.prog true (Instr.loadAt 9 t7) (fun u _ => u = t8) h_6 ⟨⟩ ∧ 
                                        CallsH Try.prog 78 #[t17, (.int .i64 8)] h_6 (fun t18 h_7 => Hp Try.prog true (Instr.loadAt 9 t7) (fun u _ => u = t8) h_7 ⟨⟩ ∧ 
                                          Hp Try.prog false (Instr.buildSlice 121 5 #[(0, t6), (1, t9), (2, t12), (3, t15), (4, t18)]) (fun t19 h_8 => 
                                            CallsH Try.prog 77 #[t19] h_8 (fun t20 h_9 => 
                                              k t20 h_9) ⟨⟩) h_7 ⟨⟩) ⟨⟩) ⟨⟩) ⟨⟩) h_3 ⟨⟩) ∧ (
                                  CallsH Try.prog 78 #[t11, (.int .i64 8)] h_3 (fun t12_1 h_10 => Hp Try.prog true (Instr.loadAt 2 t16) (fun u _ => u = t17) h_10 ⟨⟩ ∧ Hp Try.prog true (Instr.loadAt 3 t13) (fun u _ => u = t14) h_10 ⟨⟩ ∧ Hp Try.prog true (Instr.loadAt 9 t7) (fun u _ => u = t8) h_10 ⟨⟩ ∧ 
                                    ((
                                      Hp Try.prog false (convert 9 26 t8) (fun t9_1 h_11 => Hp Try.prog true (Instr.loadAt 2 t16) (fun u _ => u = t17) h_11 ⟨⟩ ∧ Hp Try.prog true (Instr.loadAt 3 t13) (fun u _ => u = t14) h_11 ⟨⟩ ∧ Hp Try.prog true (Instr.loadAt 2 t10) (fun u _ => u = t11) h_11 ⟨⟩ ∧ Hp Try.prog true (Instr.loadAt 9 t3) (fun u _ => u = t4) h_11 ⟨⟩ ∧ 
                                        CallsH Try.prog 78 #[t14, (.int .i64 4)] h_11 (fun t15_1 h_12 => Hp Try.prog true (Instr.loadAt 2 t16) (fun u _ => u = t17) h_12 ⟨⟩ ∧ Hp Try.prog true (Instr.loadAt 9 t7) (fun u _ => u = t8) h_12 ⟨⟩ ∧ 
                                          CallsH Try.prog 78 #[t17, (.int .i64 8)] h_12 (fun t18_1 h_13 => Hp Try.prog true (Instr.loadAt 9 t7) (fun u _ => u = t8) h_13 ⟨⟩ ∧ 
                                            Hp Try.prog false (Instr.buildSlice 121 5 #[(0, t6), (1, t9_1), (2, t12_1), (3, t15_1), (4, t18_1)]) (fun t19_1 h_14 => 
                                              CallsH Try.prog 77 #[t19_1] h_14 (fun t20_1 h_15 => 
                                                k t20_1 h_15) ⟨⟩) h_13 ⟨⟩) ⟨⟩) ⟨⟩) h_10 ⟨⟩) ∧ (
                                      CallsH Try.prog 78 #[t14, (.int .i64 4)] h_10 (fun t15_2 h_16 => Hp Try.prog true (Instr.loadAt 2 t16) (fun u _ => u = t17) h_16 ⟨⟩ ∧ Hp Try.prog true (Instr.loadAt 9 t7) (fun u _ => u = t8) h_16 ⟨⟩ ∧ 
                                        ((
                                          Hp Try.prog false (convert 9 26 t8) (fun t9_2 h_17 => Hp Try.prog true (Instr.loadAt 2 t16) (fun u _ => u = t17) h_17 ⟨⟩ ∧ Hp Try.prog true (Instr.loadAt 3 t13) (fun u _ => u = t14) h_17 ⟨⟩ ∧ Hp Try.prog true (Instr.loadAt 2 t10) (fun u _ => u = t11) h_17 ⟨⟩ ∧ Hp Try.prog true (Instr.loadAt 9 t3) (fun u _ => u = t4) h_17 ⟨⟩ ∧ 
                                            CallsH Try.prog 78 #[t17, (.int .i64 8)] h_17 (fun t18_2 h_18 => Hp Try.prog true (Instr.loadAt 9 t7) (fun u _ => u = t8) h_18 ⟨⟩ ∧ 
                                              Hp Try.prog false (Instr.buildSlice 121 5 #[(0, t6), (1, t9_2), (2, t12_1), (3, t15_2), (4, t18_2)]) (fun t19_2 h_19 => 
                                                CallsH Try.prog 77 #[t19_2] h_19 (fun t20_2 h_20 => 
                                                  k t20_2 h_20) ⟨⟩) h_18 ⟨⟩) ⟨⟩) h_16 ⟨⟩) ∧ (
                                          CallsH Try.prog 78 #[t17, (.int .i64 8)] h_16 (fun t18_3 h_21 => Hp Try.prog true (Instr.loadAt 9 t7) (fun u _ => u = t8) h_21 ⟨⟩ ∧ 
                                            Hp Try.prog false (convert 9 26 t8) (fun t9_3 h_22 => Hp Try.prog true (Instr.loadAt 2 t16) (fun u _ => u = t17) h_22 ⟨⟩ ∧ Hp Try.prog true (Instr.loadAt 3 t13) (fun u _ => u = t14) h_22 ⟨⟩ ∧ Hp Try.prog true (Instr.loadAt 2 t10) (fun u _ => u = t11) h_22 ⟨⟩ ∧ Hp Try.prog true (Instr.loadAt 9 t3) (fun u _ => u = t4) h_22 ⟨⟩ ∧ 
                                              Hp Try.prog false (Instr.buildSlice 121 5 #[(0, t6), (1, t9_3), (2, t12_1), (3, t15_2), (4, t18_3)]) (fun t19_3 h_23 => 
                                                CallsH Try.prog 77 #[t19_3] h_23 (fun t20_3 h_24 => 
                                                  k t20_3 h_24) ⟨⟩) h_22 ⟨⟩) h_21 ⟨⟩) ⟨⟩))) ⟨⟩))) ⟨⟩))) ⟨⟩) ∧ (
                              Hp Try.prog false (convert 9 26 t8) (fun t9_4 h_25 => Hp Try.prog true (Instr.loadAt 2 t16) (fun u _ => u = t17) h_25 ⟨⟩ ∧ Hp Try.prog true (Instr.loadAt 3 t13) (fun u _ => u = t14) h_25 ⟨⟩ ∧ Hp Try.prog true (Instr.loadAt 2 t10) (fun u _ => u = t11) h_25 ⟨⟩ ∧ Hp Try.prog true (Instr.loadAt 9 t3) (fun u _ => u = t4) h_25 ⟨⟩ ∧ 
                                CallsH Try.prog 78 #[t5, (.int .i64 1)] h_25 (fun t6_1 h_26 => Hp Try.prog true (Instr.loadAt 2 t16) (fun u _ => u = t17) h_26 ⟨⟩ ∧ Hp Try.prog true (Instr.loadAt 3 t13) (fun u _ => u = t14) h_26 ⟨⟩ ∧ Hp Try.prog true (Instr.loadAt 2 t10) (fun u _ => u = t11) h_26 ⟨⟩ ∧ Hp Try.prog true (Instr.loadAt 9 t7) (fun u _ => u = t8) h_26 ⟨⟩ ∧ 
                                  CallsH Try.prog 78 #[t11, (.int .i64 8)] h_26 (fun t12_2 h_27 => Hp Try.prog true (Instr.loadAt 2 t16) (fun u _ => u = t17) h_27 ⟨⟩ ∧ Hp Try.prog true (Instr.loadAt 3 t13) (fun u _ => u = t14) h_27 ⟨⟩ ∧ Hp Try.prog true (Instr.loadAt 9 t7) (fun u _ => u = t8) h_27 ⟨⟩ ∧ 
                                    CallsH Try.prog 78 #[t14, (.int .i64 4)] h_27 (fun t15_3 h_28 => Hp Try.prog true (Instr.loadAt 2 t16) (fun u _ => u = t17) h_28 ⟨⟩ ∧ Hp Try.prog true (Instr.loadAt 9 t7) (fun u _ => u = t8) h_28 ⟨⟩ ∧ 
                                      CallsH Try.prog 78 #[t17, (.int .i64 8)] h_28 (fun t18_4 h_29 => Hp Try.prog true (Instr.loadAt 9 t7) (fun u _ => u = t8) h_29 ⟨⟩ ∧ 
                                        Hp Try.prog false (Instr.buildSlice 121 5 #[(0, t6_1), (1, t9_4), (2, t12_2), (3, t15_3), (4, t18_4)]) (fun t19_4 h_30 => 
                                          CallsH Try.prog 77 #[t19_4] h_30 (fun t20_4 h_31 => 
                                            k t20_4 h_31) ⟨⟩) h_29 ⟨⟩) ⟨⟩) ⟨⟩) ⟨⟩) ⟨⟩) h_2 ⟨⟩))) h_2 ⟨⟩) #[] ⟨⟩) h_2 ⟨⟩) #[] ⟨⟩) h_2 ⟨⟩) #[] ⟨⟩) h_2 ⟨⟩) #[] ⟨⟩) #[] ⟨⟩) h_2 ⟨⟩) #[] ⟨⟩)
      (fun t2 h_32 =>
      R t2 h_32) h_1 ⟨⟩ ⟨⟩) h ⟨⟩

theorem n74_calls {x0 : Value} {R : Value → Heap → Prop} {h : Heap} (H : n74 x0 R h) : CallsH Try.prog 74 #[x0] h R ⟨⟩ :=
  callsH_of_eq Try.follow (.n none .l (.n (some [3]) .l .l)) Try.func74 (by kernel_rfl) (by kernel_rfl) (by kernel_rfl) H

/-- palimpsest/tables.named -/
def n75 (s0 : Value) (R : Value → Heap → Prop) (h : Heap) : Prop :=
  Hp Try.prog false (Builtin.len_ #[9] 3 #[s0]) (fun t4 h_1 => 
    Hp Try.prog false (binS .geq 3 (.tmp 4) (.const (.int .i64 1)) t4 (.int .i64 1)) (fun t5 h_2 => 
      Join1 (fun k h_3 => guardP t5 true (k s0 h_3) (k undef h_3) ⟨⟩ ⟨⟩) (fun t7 h_4 => 
        Join1 (fun k_1 h_5 => guardP t5 true (Hp Try.prog false (Builtin.len_ #[9] 3 #[t7]) k_1 h_5 ⟨⟩) (k_1 undef h_5) ⟨⟩ ⟨⟩) (fun t8 h_6 => 
          Join1 (fun k_2 h_7 => guardP t5 true (Hp Try.prog false (binS .leq 3 (.tmp 8) (.const (.int .i64 64)) t8 (.int .i64 64)) k_2 h_7 ⟨⟩) (k_2 undef h_7) ⟨⟩ ⟨⟩) (fun t9 h_8 => 
            Hp Try.prog false (pickS t5 t9 (.bool false)) (fun t10 h_9 => 
              Join1 (fun k_3 h_10 => guardP t10 true (k_3 s0 h_10) (k_3 undef h_10) ⟨⟩ ⟨⟩) (fun t12 h_11 => 
                Join1 (fun k_4 h_12 => guardP t10 true (CallsH Try.prog 61 #[t12, (str [0])] h_12 k_4 ⟨⟩) (k_4 undef h_12) ⟨⟩ ⟨⟩) (fun t13 h_13 => 
                  Join1 (fun k_5 h_14 => guardP t10 true (Hp Try.prog false (Op.unary .not t13) k_5 h_14 ⟨⟩) (k_5 undef h_14) ⟨⟩ ⟨⟩) (fun t14 h_15 => 
                    Hp Try.prog false (pickS t10 t14 (.bool false)) (fun t15 h_16 => 
                      R t15 h_16) h_15 ⟨⟩) h_13 ⟨⟩ ⟨⟩) h_11 ⟨⟩ ⟨⟩) h_9 ⟨⟩ ⟨⟩) h_8 ⟨⟩) h_6 ⟨⟩ ⟨⟩) h_4 ⟨⟩ ⟨⟩) h_2 ⟨⟩ ⟨⟩) h_1 ⟨⟩) h ⟨⟩

theorem n75_calls {s0 : Value} {R : Value → Heap → Prop} {h : Heap} (H : n75 s0 R h) : CallsH Try.prog 75 #[s0] h R ⟨⟩ :=
  callsH_of_eq Try.follow .l Try.func75 (by kernel_rfl) (by kernel_rfl) (by kernel_rfl) H

/-- palimpsest/tables.place -/
def n76 (at0 bits1 : Value) (R : Value → Heap → Prop) (h : Heap) : Prop :=
  Hp Try.prog false (binS .gtr 2 (.tmp 5) (.const (.int .i64 0)) at0 (.int .i64 0)) (fun t6 h_1 => 
    Join1 (fun k h_2 => guardP t6 true (k at0 h_2) (k undef h_2) ⟨⟩ ⟨⟩) (fun t8 h_3 => 
      Join1 (fun k_1 h_4 => guardP t6 true (Hp Try.prog false (binS .leq 2 (.tmp 8) (.const (.int .i64 268435456)) t8 (.int .i64 268435456)) k_1 h_4 ⟨⟩) (k_1 undef h_4) ⟨⟩ ⟨⟩) (fun t9 h_5 => 
        Hp Try.prog false (pickS t6 t9 (.bool false)) (fun t10 h_6 => 
          Join1 (fun k_2 h_7 => guardP t10 true (k_2 at0 h_7) (k_2 undef h_7) ⟨⟩ ⟨⟩) (fun t12 h_8 => 
            Join1 (fun k_3 h_9 => guardP t10 true (k_3 bits1 h_9) (k_3 undef h_9) ⟨⟩ ⟨⟩) (fun t13 h_10 => 
              Join1 (fun k_4 h_11 => guardP t10 true (Hp Try.prog false (binS .shl 2 (.const (.int .i64 1)) (.tmp 13) (.int .i64 1) t13) k_4 h_11 ⟨⟩) (k_4 undef h_11) ⟨⟩ ⟨⟩) (fun t14 h_12 => 
                Join1 (fun k_5 h_13 => guardP t10 true (Hp Try.prog false (binS .rem 2 (.tmp 12) (.tmp 14) t12 t14) k_5 h_13 ⟨⟩) (k_5 undef h_13) ⟨⟩ ⟨⟩) (fun t15 h_14 => 
                  Join1 (fun k_6 h_15 => guardP t10 true (Hp Try.prog false (binS .eql 2 (.tmp 15) (.const (.int .i64 0)) t15 (.int .i64 0)) k_6 h_15 ⟨⟩) (k_6 undef h_15) ⟨⟩ ⟨⟩) (fun t16 h_16 => 
                    Hp Try.prog false (pickS t10 t16 (.bool false)) (fun t17 h_17 => 
                      R t17 h_17) h_16 ⟨⟩) h_14 ⟨⟩ ⟨⟩) h_12 ⟨⟩ ⟨⟩) h_10 ⟨⟩ ⟨⟩) h_8 ⟨⟩ ⟨⟩) h_6 ⟨⟩ ⟨⟩) h_5 ⟨⟩) h_3 ⟨⟩ ⟨⟩) h_1 ⟨⟩ ⟨⟩) h ⟨⟩

theorem n76_calls {at0 bits1 : Value} {R : Value → Heap → Prop} {h : Heap} (H : n76 at0 bits1 R h) : CallsH Try.prog 76 #[at0, bits1] h R ⟨⟩ :=
  callsH_of_eq Try.follow .l Try.func76 (by kernel_rfl) (by kernel_rfl) (by kernel_rfl) H

/-- palimpsest/tables.number -/
def n78 (x0 n1 : Value) (R : Value → Heap → Prop) (h : Heap) : Prop :=
  Hp Try.prog false (Instr.makeSlice 26 n1 n1) (fun t7 h_1 => 
    Hp Try.prog false (convert 2 45 x0) (fun t11 h_2 => 
      CallsH Try.prog 56 #[t7, (.int .i64 0), n1, t11] h_2 (fun t12 h_3 => 
        R t7 h_3) ⟨⟩) h_1 ⟨⟩) h ⟨⟩

theorem n78_calls {x0 n1 : Value} {R : Value → Heap → Prop} {h : Heap} (H : n78 x0 n1 R h) : CallsH Try.prog 78 #[x0, n1] h R ⟨⟩ :=
  callsH_of_eq Try.follow .l Try.func78 (by kernel_rfl) (by kernel_rfl) (by kernel_rfl) H

/-- palimpsest/palimpsestref11.Named -/
def n79 (s0 : Value) (R : Value → Heap → Prop) (h : Heap) : Prop :=
  LoopC 1 (fun (X : Value → Heap → Prop) => fun i3 h_1 =>
    Hp Try.prog false (Builtin.len_ #[9] 3 #[s0]) (fun t6 h_2 => 
      Hp Try.prog false (binS .lss 3 (.tmp 4) (.tmp 6) i3 t6) (fun t7 h_3 => 
        CondP t7 (
          Hp Try.prog false (Instr.index 9 s0 i3) (fun t12 h_4 => 
            Hp Try.prog false (binS .eql 5 (.tmp 12) (.const (.int .u8 0)) t12 (.int .u8 0)) (fun t13 h_5 => 
              CondP t13 (
                R (.bool false) h_5) (
                Hp Try.prog false (binS .add 3 (.tmp 8) (.const (.int .i64 1)) i3 (.int .i64 1)) (fun t9 h_6 => 
                  X t9 h_6) h_5 ⟨⟩) ⟨⟩ ⟨⟩) h_4 ⟨⟩) h_3 ⟨⟩) (
          Hp Try.prog false (Builtin.len_ #[9] 3 #[s0]) (fun t15 h_7 => 
            Hp Try.prog false (binS .geq 3 (.tmp 15) (.const (.int .i64 1)) t15 (.int .i64 1)) (fun t16 h_8 => 
              Join1 (fun k h_9 => guardP t16 true (k s0 h_9) (k undef h_9) ⟨⟩ ⟨⟩) (fun t18 h_10 => 
                Join1 (fun k_1 h_11 => guardP t16 true (Hp Try.prog false (Builtin.len_ #[9] 3 #[t18]) k_1 h_11 ⟨⟩) (k_1 undef h_11) ⟨⟩ ⟨⟩) (fun t19 h_12 => 
                  Join1 (fun k_2 h_13 => guardP t16 true (Hp Try.prog false (binS .leq 3 (.tmp 19) (.const (.int .i64 64)) t19 (.int .i64 64)) k_2 h_13 ⟨⟩) (k_2 undef h_13) ⟨⟩ ⟨⟩) (fun t20 h_14 => 
                    Hp Try.prog false (pickS t16 t20 (.bool false)) (fun t21 h_15 => 
                      R t21 h_15) h_14 ⟨⟩) h_12 ⟨⟩ ⟨⟩) h_10 ⟨⟩ ⟨⟩) h_8 ⟨⟩ ⟨⟩) h_7 ⟨⟩) h_3 ⟨⟩) ⟨⟩ ⟨⟩) h_2 ⟨⟩) h_1 ⟨⟩) [(.int .i64 0)] h ⟨⟩

theorem n79_calls {s0 : Value} {R : Value → Heap → Prop} {h : Heap} (H : n79 s0 R h) : CallsH Try.prog 79 #[s0] h R ⟨⟩ :=
  callsH_of_eq Try.follow (.n none .l (.n none (.n none .l (.n none (.n (some [4]) .l .l) .l)) .l)) Try.func79 (by kernel_rfl) (by kernel_rfl) (by kernel_rfl) H

/-- slices.Equal[[]byte,byte] -/
def n80 (s10 s21 : Value) (R : Value → Heap → Prop) (h : Heap) : Prop :=
  Hp Try.prog false (Builtin.len_ #[26] 3 #[s10]) (fun t7 h_1 => 
    Hp Try.prog false (Builtin.len_ #[26] 3 #[s21]) (fun t9 h_2 => 
      Hp Try.prog false (binS .neq 3 (.tmp 7) (.tmp 9) t7 t9) (fun t10 h_3 => 
        CondP t10 (
          R (.bool false) h_3) (
          Hp Try.prog false (Builtin.len_ #[26] 3 #[s10]) (fun t12 h_4 => 
            LoopC 1 (fun (X : Value → Heap → Prop) => fun t13 h_5 =>
              Hp Try.prog false (binS .lss 3 (.tmp 13) (.tmp 12) t13 t12) (fun t14 h_6 => 
                CondP t14 (
                  Hp Try.prog true (Instr.indexAt 26 s10 t13) (fun t18 _ => 
                    Hp Try.prog true (Instr.loadAt 5 t18) (fun t19 _ => 
                      Hp Try.prog true (Instr.indexAt 26 s21 t13) (fun t22 _ => 
                        Hp Try.prog true (Instr.loadAt 5 t22) (fun t23 _ => 
                          Hp Try.prog true (binS .neq 5 (.tmp 19) (.tmp 23) t19 t23) (fun t24 _ => 
                            CondP t24 (
                              R (.bool false) h_6) (
                              Hp Try.prog false (binS .add 3 (.tmp 13) (.const (.int .i64 1)) t13 (.int .i64 1)) (fun t25 h_7 => 
                                X t25 h_7) h_6 ⟨⟩) ⟨⟩ ⟨⟩) #[] ⟨⟩) h_6 ⟨⟩) #[] ⟨⟩) h_6 ⟨⟩) #[] ⟨⟩) (
                  R (.bool true) h_6) ⟨⟩ ⟨⟩) h_5 ⟨⟩) [(.int .i64 0)] h_4 ⟨⟩) h_3 ⟨⟩) ⟨⟩ ⟨⟩) h_2 ⟨⟩) h_1 ⟨⟩) h ⟨⟩

theorem n80_calls {s10 s21 : Value} {R : Value → Heap → Prop} {h : Heap} (H : n80 s10 s21 R h) : CallsH Try.prog 80 #[s10, s21] h R ⟨⟩ :=
  callsH_of_eq Try.follow (.n none .l (.n none .l (.n none (.n none .l (.n none (.n (some [14]) .l .l) .l)) .l))) Try.func80 (by kernel_rfl) (by kernel_rfl) (by kernel_rfl) H

/-- (*palimpsest/tables.reader).name -/
def n81 (r0 : Value) (R : Value → Heap → Prop) (h : Heap) : Prop :=
  CallsH Try.prog 82 #[r0, (.int .i64 1)] h (fun t6 h_1 => 
    Hp Try.prog true (nilS r0) (fun t8 _ => 
      Hp Try.prog true (Instr.fieldAt 113 t8 2) (fun t9 _ => 
        Hp Try.prog true (Instr.loadAt 4 t9) (fun t10 _ => 
          Hp Try.prog true (Op.unary .not t10) (fun t11 _ => 
            Join1 (fun k h_2 => guardP t11 false (k t6 h_2) (k undef h_2) ⟨⟩ ⟨⟩) (fun t13 _ => 
              Join1 (fun k_1 h_3 => guardP t11 false (k_1 r0 h_3) (k_1 undef h_3) ⟨⟩ ⟨⟩) (fun t14 _ => 
                Join1 (fun k_2 h_4 => guardP t11 false (Hp Try.prog true (nilS t14) k_2 h_4 ⟨⟩) (k_2 undef h_4) ⟨⟩ ⟨⟩) (fun t15 _ => 
                  Join1 (fun k_3 h_5 => guardP t11 false (Hp Try.prog true (Instr.fieldAt 113 t15 0) k_3 h_5 ⟨⟩) (k_3 undef h_5) ⟨⟩ ⟨⟩) (fun t16 _ => 
                    Join1 (fun k_4 h_6 => guardP t11 false (Hp Try.prog true (Instr.loadAt 26 t16) k_4 h_6 ⟨⟩) (k_4 undef h_6) ⟨⟩ ⟨⟩) (fun t17 _ => 
                      Join1 (fun k_5 h_7 => guardP t11 false (Hp Try.prog true (Builtin.len_ #[26] 3 #[t17]) k_5 h_7 ⟨⟩) (k_5 undef h_7) ⟨⟩ ⟨⟩) (fun t18 _ => 
                        Join1 (fun k_6 h_8 => guardP t11 false (k_6 r0 h_8) (k_6 undef h_8) ⟨⟩ ⟨⟩) (fun t19 _ => 
                          Join1 (fun k_7 h_9 => guardP t11 false (Hp Try.prog true (nilS t19) k_7 h_9 ⟨⟩) (k_7 undef h_9) ⟨⟩ ⟨⟩) (fun t20 _ => 
                            Join1 (fun k_8 h_10 => guardP t11 false (Hp Try.prog true (Instr.fieldAt 113 t20 1) k_8 h_10 ⟨⟩) (k_8 undef h_10) ⟨⟩ ⟨⟩) (fun t21 _ => 
                              Join1 (fun k_9 h_11 => guardP t11 false (Hp Try.prog true (Instr.loadAt 3 t21) k_9 h_11 ⟨⟩) (k_9 undef h_11) ⟨⟩ ⟨⟩) (fun t22 _ => 
                                Join1 (fun k_10 h_12 => guardP t11 false (Hp Try.prog true (binS .sub 3 (.tmp 18) (.tmp 22) t18 t22) k_10 h_12 ⟨⟩) (k_10 undef h_12) ⟨⟩ ⟨⟩) (fun t23 _ => 
                                  Join1 (fun k_11 h_13 => guardP t11 false (Hp Try.prog true (binS .gtr 3 (.tmp 13) (.tmp 23) t13 t23) k_11 h_13 ⟨⟩) (k_11 undef h_13) ⟨⟩ ⟨⟩) (fun t24 _ => 
                                    Hp Try.prog true (pickS t11 (.bool true) t24) (fun t25 _ => 
                                      CondP t25 (
                                        Hp Try.prog false (nilS r0) (fun t27 h_14 => 
                                          Hp Try.prog false (Instr.fieldAt 113 t27 2) (fun t28 h_15 => 
                                            Hp Try.prog false (storeS 4 t28 (.bool false)) (fun _ h_16 => 
                                              R (str []) h_16) h_15 ⟨⟩) h_14 ⟨⟩) h_1 ⟨⟩) (
                                        Hp Try.prog true (nilS r0) (fun t30 _ => 
                                          Hp Try.prog true (Instr.fieldAt 113 t30 0) (fun t31 _ => 
                                            Hp Try.prog true (Instr.loadAt 26 t31) (fun t32 _ => 
                                              Hp Try.prog true (nilS r0) (fun t34 _ => 
                                                Hp Try.prog true (Instr.fieldAt 113 t34 1) (fun t35 _ => 
                                                  Hp Try.prog true (Instr.loadAt 3 t35) (fun t36 _ => 
                                                    Hp Try.prog true (nilS r0) (fun t38 _ => 
                                                      Hp Try.prog true (Instr.fieldAt 113 t38 1) (fun t39 _ => 
                                                        Hp Try.prog true (Instr.loadAt 3 t39) (fun t40 _ => 
                                                          Hp Try.prog true (binS .add 3 (.tmp 40) (.tmp 41) t40 t6) (fun t42 _ => 
                                                            Hp Try.prog true (Instr.sliceAt 26 t32 (some t36) (some t42) none) (fun t43 _ => 
                                                              Hp Try.prog true (convert 26 9 t43) (fun t44 _ => 
                                                                Hp Try.prog false (nilS r0) (fun t46 h_17 => 
                                                                  Hp Try.prog false (Instr.fieldAt 113 t46 1) (fun t47 h_18 => 
                                                                    Hp Try.prog false (Instr.loadAt 3 t47) (fun t48 h_19 => 
                                                                      Hp Try.prog false (binS .add 3 (.tmp 48) (.tmp 49) t48 t6) (fun t50 h_20 => 
                                                                        Hp Try.prog false (nilS r0) (fun t51 h_21 => 
                                                                          Hp Try.prog false (Instr.fieldAt 113 t51 1) (fun t52 h_22 => 
                                                                            Hp Try.prog false (storeS 3 t52 t50) (fun _ h_23 => 
                                                                              R t44 h_23) h_22 ⟨⟩) h_21 ⟨⟩) h_20 ⟨⟩) h_19 ⟨⟩) h_18 ⟨⟩) h_17 ⟨⟩) h_1 ⟨⟩) h_1 ⟨⟩) #[] ⟨⟩) #[] ⟨⟩) h_1 ⟨⟩) #[] ⟨⟩) #[] ⟨⟩) h_1 ⟨⟩) #[] ⟨⟩) #[] ⟨⟩) h_1 ⟨⟩) #[] ⟨⟩) #[] ⟨⟩) ⟨⟩ ⟨⟩) #[] ⟨⟩) #[] ⟨⟩ ⟨⟩) #[] ⟨⟩ ⟨⟩) h_1 ⟨⟩ ⟨⟩) #[] ⟨⟩ ⟨⟩) #[] ⟨⟩ ⟨⟩) #[] ⟨⟩ ⟨⟩) #[] ⟨⟩ ⟨⟩) h_1 ⟨⟩ ⟨⟩) #[] ⟨⟩ ⟨⟩) #[] ⟨⟩ ⟨⟩) #[] ⟨⟩ ⟨⟩) #[] ⟨⟩ ⟨⟩) #[] ⟨⟩) h_1 ⟨⟩) #[] ⟨⟩) #[] ⟨⟩) ⟨⟩

theorem n81_calls {r0 : Value} {R : Value → Heap → Prop} {h : Heap} (H : n81 r0 R h) : CallsH Try.prog 81 #[r0] h R ⟨⟩ :=
  callsH_of_eq Try.follow .l Try.func81 (by kernel_rfl) (by kernel_rfl) (by kernel_rfl) H

/-- (*palimpsest/tables.reader).number -/
def n82 (r0 n1 : Value) (R : Value → Heap → Prop) (h : Heap) : Prop :=
  Hp Try.prog true (nilS r0) (fun t9 _ => 
    Hp Try.prog true (Instr.fieldAt 113 t9 0) (fun t10 _ => 
      Hp Try.prog true (Instr.loadAt 26 t10) (fun t11 _ => 
        Hp Try.prog true (nilS r0) (fun t13 _ => 
          Hp Try.prog true (Instr.fieldAt 113 t13 1) (fun t14 _ => 
            Hp Try.prog true (Instr.loadAt 3 t14) (fun t15 _ => 
              CallsH Try.prog 50 #[t11, t15, n1] h (fun t17 h_1 => 
                Hp Try.prog true (Instr.extract t17 0) (fun t18 _ => 
                  Hp Try.prog true (Instr.extract t17 1) (fun t19 _ => 
                    Hp Try.prog false (nilS r0) (fun t21 h_2 => 
                      Hp Try.prog false (Instr.fieldAt 113 t21 1) (fun t22 h_3 => 
                        Hp Try.prog false (Instr.loadAt 3 t22) (fun t23 h_4 => 
                          Hp Try.prog false (binS .add 3 (.tmp 23) (.tmp 24) t23 n1) (fun t25 h_5 => 
                            Hp Try.prog false (nilS r0) (fun t26 h_6 => 
                              Hp Try.prog false (Instr.fieldAt 113 t26 1) (fun t27 h_7 => 
                                Hp Try.prog false (storeS 3 t27 t25) (fun _ h_8 => 
                                  Hp Try.prog false (nilS r0) (fun t30 h_9 => 
                                    Hp Try.prog false (Instr.fieldAt 113 t30 2) (fun t31 h_10 => 
                                      Hp Try.prog false (Instr.loadAt 4 t31) (fun t32 h_11 => 
                                        Join1 (fun k h_12 => guardP t32 true (k t19 h_12) (k undef h_12) ⟨⟩ ⟨⟩) (fun t34 h_13 => 
                                          Join1 (fun k_1 h_14 => guardP t32 true (Hp Try.prog false (binS .eql 27 (.tmp 34) (.const (.int .i64 0)) t34 (.int .i64 0)) k_1 h_14 ⟨⟩) (k_1 undef h_14) ⟨⟩ ⟨⟩) (fun t35 h_15 => 
                                            Hp Try.prog false (pickS t32 t35 (.bool false)) (fun t36 h_16 => 
                                              Join1 (fun k_2 h_17 => guardP t36 true (k_2 t18 h_17) (k_2 undef h_17) ⟨⟩ ⟨⟩) (fun t38 h_18 => 
                                                Join1 (fun k_3 h_19 => guardP t36 true (Hp Try.prog false (binS .lss 45 (.tmp 38) (.const (.int .u64 4611686018427387904)) t38 (.int .u64 4611686018427387904)) k_3 h_19 ⟨⟩) (k_3 undef h_19) ⟨⟩ ⟨⟩) (fun t39 h_20 => 
                                                  Hp Try.prog false (pickS t36 t39 (.bool false)) (fun t40 h_21 => 
                                                    Hp Try.prog false (nilS r0) (fun t41 h_22 => 
                                                      Hp Try.prog false (Instr.fieldAt 113 t41 2) (fun t42 h_23 => 
                                                        Hp Try.prog false (storeS 4 t42 t40) (fun _ h_24 => 
                                                          Hp Try.prog false (convert 45 2 t18) (fun t44 h_25 => 
                                                            R t44 h_25) h_24 ⟨⟩) h_23 ⟨⟩) h_22 ⟨⟩) h_21 ⟨⟩) h_20 ⟨⟩) h_18 ⟨⟩ ⟨⟩) h_16 ⟨⟩ ⟨⟩) h_15 ⟨⟩) h_13 ⟨⟩ ⟨⟩) h_11 ⟨⟩ ⟨⟩) h_10 ⟨⟩) h_9 ⟨⟩) h_8 ⟨⟩) h_7 ⟨⟩) h_6 ⟨⟩) h_5 ⟨⟩) h_4 ⟨⟩) h_3 ⟨⟩) h_2 ⟨⟩) h_1 ⟨⟩) #[] ⟨⟩) #[] ⟨⟩) ⟨⟩) h ⟨⟩) #[] ⟨⟩) #[] ⟨⟩) h ⟨⟩) #[] ⟨⟩) #[] ⟨⟩

theorem n82_calls {r0 n1 : Value} {R : Value → Heap → Prop} {h : Heap} (H : n82 r0 n1 R h) : CallsH Try.prog 82 #[r0, n1] h R ⟨⟩ :=
  callsH_of_eq Try.follow .l Try.func82 (by kernel_rfl) (by kernel_rfl) (by kernel_rfl) H

/-- palimpsest/palimpsestref11.MaySnap -/
def n83 (x0 bits1 : Value) (R : Value → Heap → Prop) (h : Heap) : Prop :=
  Hp Try.prog false (Instr.box 61 x0) (fun x2 h_1 => 
    Hp Try.prog false (Instr.fieldAt 61 x2 2) (fun t6 h_2 => 
      Hp Try.prog false (Instr.loadAt 3 t6) (fun t7 h_3 => 
        Hp Try.prog false (binS .eql 3 (.tmp 7) (.const (.int .i64 0)) t7 (.int .i64 0)) (fun t8 h_4 => 
          Join1 (fun k h_5 => guardP t8 true (Hp Try.prog false (Instr.fieldAt 61 x2 1) k h_5 ⟨⟩) (k undef h_5) ⟨⟩ ⟨⟩) (fun t10 h_6 => 
            Join1 (fun k_1 h_7 => guardP t8 true (Hp Try.prog false (Instr.loadAt 2 t10) k_1 h_7 ⟨⟩) (k_1 undef h_7) ⟨⟩ ⟨⟩) (fun t11 h_8 => 
              Join1 (fun k_2 h_9 => guardP t8 true (Hp Try.prog false (binS .eql 2 (.tmp 11) (.const (.int .i64 0)) t11 (.int .i64 0)) k_2 h_9 ⟨⟩) (k_2 undef h_9) ⟨⟩ ⟨⟩) (fun t12 h_10 => 
                Hp Try.prog false (pickS t8 t12 (.bool false)) (fun t13 h_11 => 
                  Join1 (fun k_3 h_12 => guardP t13 false (Hp Try.prog false (Instr.fieldAt 61 x2 2) k_3 h_12 ⟨⟩) (k_3 undef h_12) ⟨⟩ ⟨⟩) (fun t15 h_13 => 
                    Join1 (fun k_4 h_14 => guardP t13 false (Hp Try.prog false (Instr.loadAt 3 t15) k_4 h_14 ⟨⟩) (k_4 undef h_14) ⟨⟩ ⟨⟩) (fun t16 h_15 => 
                      Join1 (fun k_5 h_16 => guardP t13 false (Hp Try.prog false (binS .gtr 3 (.tmp 16) (.const (.int .i64 0)) t16 (.int .i64 0)) k_5 h_16 ⟨⟩) (k_5 undef h_16) ⟨⟩ ⟨⟩) (fun t17 h_17 => 
                        Join1 (fun k_6 h_18 => guardP t13 false (k_6 t17 h_18) (k_6 undef h_18) ⟨⟩ ⟨⟩) (fun t18 h_19 => 
                          Join1 (fun k_7 h_20 => guardP t18 true (Hp Try.prog false (Instr.fieldAt 61 x2 1) k_7 h_20 ⟨⟩) (k_7 undef h_20) ⟨⟩ ⟨⟩) (fun t19 h_21 => 
                            Join1 (fun k_8 h_22 => guardP t18 true (Hp Try.prog false (Instr.loadAt 2 t19) k_8 h_22 ⟨⟩) (k_8 undef h_22) ⟨⟩ ⟨⟩) (fun t20 h_23 => 
                              Join1 (fun k_9 h_24 => guardP t18 true (k_9 bits1 h_24) (k_9 undef h_24) ⟨⟩ ⟨⟩) (fun t21 h_25 => 
                                Join1 (fun k_10 h_26 => guardP t18 true (CallsH Try.prog 62 #[t20, t21] h_26 k_10 ⟨⟩) (k_10 undef h_26) ⟨⟩ ⟨⟩) (fun t22 h_27 => 
                                  Join1 (fun k_11 h_28 => guardP t13 false (Hp Try.prog false (pickS t18 t22 (.bool false)) k_11 h_28 ⟨⟩) (k_11 undef h_28) ⟨⟩ ⟨⟩) (fun t23 h_29 => 
                                    Hp Try.prog false (pickS t13 (.bool true) t23) (fun t24 h_30 => 
                                      Hp Try.prog false (Instr.fieldAt 61 x2 0) (fun t25 h_31 => 
                                        Hp Try.prog false (Instr.loadAt 9 t25) (fun t26 h_32 => 
                                          CallsH Try.prog 79 #[t26] h_32 (fun t27 h_33 => 
                                            Join1 (fun k_12 h_34 => guardP t27 true (k_12 t24 h_34) (k_12 undef h_34) ⟨⟩ ⟨⟩) (fun t29 h_35 => 
                                              Hp Try.prog false (pickS t27 t29 (.bool false)) (fun t30 h_36 => 
                                                Join1 (fun k_13 h_37 => guardP t30 true (Hp Try.prog false (Instr.fieldAt 61 x2 2) k_13 h_37 ⟨⟩) (k_13 undef h_37) ⟨⟩ ⟨⟩) (fun t32 h_38 => 
                                                  Join1 (fun k_14 h_39 => guardP t30 true (Hp Try.prog false (Instr.loadAt 3 t32) k_14 h_39 ⟨⟩) (k_14 undef h_39) ⟨⟩ ⟨⟩) (fun t33 h_40 => 
                                                    Join1 (fun k_15 h_41 => guardP t30 true (Hp Try.prog false (binS .geq 3 (.tmp 33) (.const (.int .i64 0)) t33 (.int .i64 0)) k_15 h_41 ⟨⟩) (k_15 undef h_41) ⟨⟩ ⟨⟩) (fun t34 h_42 => 
                                                      Hp Try.prog false (pickS t30 t34 (.bool false)) (fun t35 h_43 => 
                                                        Join1 (fun k_16 h_44 => guardP t35 true (Hp Try.prog false (Instr.fieldAt 61 x2 2) k_16 h_44 ⟨⟩) (k_16 undef h_44) ⟨⟩ ⟨⟩) (fun t37 h_45 => 
                                                          Join1 (fun k_17 h_46 => guardP t35 true (Hp Try.prog false (Instr.loadAt 3 t37) k_17 h_46 ⟨⟩) (k_17 undef h_46) ⟨⟩ ⟨⟩) (fun t38 h_47 => 
                                                            Join1 (fun k_18 h_48 => guardP t35 true (Hp Try.prog false (binS .leq 3 (.tmp 38) (.const (.int .i64 1048576)) t38 (.int .i64 1048576)) k_18 h_48 ⟨⟩) (k_18 undef h_48) ⟨⟩ ⟨⟩) (fun t39 h_49 => 
                                                              Hp Try.prog false (pickS t35 t39 (.bool false)) (fun t40 h_50 => 
                                                                Join1 (fun k_19 h_51 => guardP t40 true (Hp Try.prog false (Instr.fieldAt 61 x2 3) k_19 h_51 ⟨⟩) (k_19 undef h_51) ⟨⟩ ⟨⟩) (fun t42 h_52 => 
                                                                  Join1 (fun k_20 h_53 => guardP t40 true (Hp Try.prog false (Instr.loadAt 2 t42) k_20 h_53 ⟨⟩) (k_20 undef h_53) ⟨⟩ ⟨⟩) (fun t43 h_54 => 
                                                                    Join1 (fun k_21 h_55 => guardP t40 true (Hp Try.prog false (binS .geq 2 (.tmp 43) (.const (.int .i64 0)) t43 (.int .i64 0)) k_21 h_55 ⟨⟩) (k_21 undef h_55) ⟨⟩ ⟨⟩) (fun t44 h_56 => 
                                                                      Hp Try.prog false (pickS t40 t44 (.bool false)) (fun t45 h_57 => 
                                                                        Join1 (fun k_22 h_58 => guardP t45 true (Hp Try.prog false (Instr.fieldAt 61 x2 3) k_22 h_58 ⟨⟩) (k_22 undef h_58) ⟨⟩ ⟨⟩) (fun t47 h_59 => 
                                                                          Join1 (fun k_23 h_60 => guardP t45 true (Hp Try.prog false (Instr.loadAt 2 t47) k_23 h_60 ⟨⟩) (k_23 undef h_60) ⟨⟩ ⟨⟩) (fun t48 h_61 => 
                                                                            Join1 (fun k_24 h_62 => guardP t45 true (Hp Try.prog false (binS .leq 2 (.tmp 48) (.const (.int .i64 67108864)) t48 (.int .i64 67108864)) k_24 h_62 ⟨⟩) (k_24 undef h_62) ⟨⟩ ⟨⟩) (fun t49 h_63 => 
                                                                              Hp Try.prog false (pickS t45 t49 (.bool false)) (fun t50 h_64 => 
                                                                                Join1 (fun k_25 h_65 => guardP t50 true (Hp Try.prog false (Instr.fieldAt 61 x2 3) k_25 h_65 ⟨⟩) (k_25 undef h_65) ⟨⟩ ⟨⟩) (fun t52 h_66 => 
                                                                                  Join1 (fun k_26 h_67 => guardP t50 true (Hp Try.prog false (Instr.loadAt 2 t52) k_26 h_67 ⟨⟩) (k_26 undef h_67) ⟨⟩ ⟨⟩) (fun t53 h_68 => 
                                                                                    Join1 (fun k_27 h_69 => guardP t50 true (Hp Try.prog false (binS .rem 2 (.tmp 53) (.const (.int .i64 512)) t53 (.int .i64 512)) k_27 h_69 ⟨⟩) (k_27 undef h_69) ⟨⟩ ⟨⟩) (fun t54 h_70 => 
                                                                                      Join1 (fun k_28 h_71 => guardP t50 true (Hp Try.prog false (binS .eql 2 (.tmp 54) (.const (.int .i64 0)) t54 (.int .i64 0)) k_28 h_71 ⟨⟩) (k_28 undef h_71) ⟨⟩ ⟨⟩) (fun t55 h_72 => 
                                                                                        Hp Try.prog false (pickS t50 t55 (.bool false)) (fun t56 h_73 => 
                                                                                          R t56 h_73) h_72 ⟨⟩) h_70 ⟨⟩ ⟨⟩) h_68 ⟨⟩ ⟨⟩) h_66 ⟨⟩ ⟨⟩) h_64 ⟨⟩ ⟨⟩) h_63 ⟨⟩) h_61 ⟨⟩ ⟨⟩) h_59 ⟨⟩ ⟨⟩) h_57 ⟨⟩ ⟨⟩) h_56 ⟨⟩) h_54 ⟨⟩ ⟨⟩) h_52 ⟨⟩ ⟨⟩) h_50 ⟨⟩ ⟨⟩) h_49 ⟨⟩) h_47 ⟨⟩ ⟨⟩) h_45 ⟨⟩ ⟨⟩) h_43 ⟨⟩ ⟨⟩) h_42 ⟨⟩) h_40 ⟨⟩ ⟨⟩) h_38 ⟨⟩ ⟨⟩) h_36 ⟨⟩ ⟨⟩) h_35 ⟨⟩) h_33 ⟨⟩ ⟨⟩) ⟨⟩) h_31 ⟨⟩) h_30 ⟨⟩) h_29 ⟨⟩) h_27 ⟨⟩ ⟨⟩) h_25 ⟨⟩ ⟨⟩) h_23 ⟨⟩ ⟨⟩) h_21 ⟨⟩ ⟨⟩) h_19 ⟨⟩ ⟨⟩) h_17 ⟨⟩ ⟨⟩) h_15 ⟨⟩ ⟨⟩) h_13 ⟨⟩ ⟨⟩) h_11 ⟨⟩ ⟨⟩) h_10 ⟨⟩) h_8 ⟨⟩ ⟨⟩) h_6 ⟨⟩ ⟨⟩) h_4 ⟨⟩ ⟨⟩) h_3 ⟨⟩) h_2 ⟨⟩) h_1 ⟨⟩) h ⟨⟩

theorem n83_calls {x0 bits1 : Value} {R : Value → Heap → Prop} {h : Heap} (H : n83 x0 bits1 R h) : CallsH Try.prog 83 #[x0, bits1] h R ⟨⟩ :=
  callsH_of_eq Try.follow .l Try.func83 (by kernel_rfl) (by kernel_rfl) (by kernel_rfl) H

end Go.Proofs.Ytgnmjcljljfldaa

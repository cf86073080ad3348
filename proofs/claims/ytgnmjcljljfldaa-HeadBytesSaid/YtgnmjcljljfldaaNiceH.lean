/- Printed by wip/tools/gen.py: the condition of each function, and that a call meets it. -/
import Derived.Test.YtgnmjcljljfldaaVcFun
import Derived.Test.YtgnmjcljljfldaaProg
import Derived.Test.YtgnmjcljljfldaaNiceW
set_option maxRecDepth 100000
set_option linter.unusedVariables false
namespace Go.Proofs.Ytgnmjcljljfldaa
open Go.Vc

/-- palimpsest/palimpsestlaw08.HeadRead -/
def n5 (b0 : Value) (R : Value → Heap → Prop) (h : Heap) : Prop :=
  Hp Try.prog false (Builtin.len_ #[26] 3 #[b0]) (fun t11 h_1 => 
    Hp Try.prog false (binS .gtr 3 (.tmp 11) (.const (.int .i64 5000)) t11 (.int .i64 5000)) (fun t12 h_2 => 
      CondP t12 (
        CallsH Try.prog 17 #[] h_2 (fun t13 h_3 => 
          R t13 h_3) ⟨⟩) (
        Hp Try.prog false (Builtin.append_ #[26, 26] 26 #[(.slice none 0 0), b0]) (fun t15 h_4 => 
          Hp Try.prog false (Instr.buildSlice 26 1 #[(0, (.int .u8 77))]) (fun t16 h_5 => 
            Hp Try.prog false (Builtin.append_ #[26, 26] 26 #[t15, t16]) (fun t17 h_6 => 
              Hp Try.prog false (Builtin.len_ #[26] 3 #[b0]) (fun t19 h_7 => 
                Hp Try.prog false (Instr.sliceAt 26 t17 none (some t19) none) (fun t20 h_8 => 
                  CallsH Try.prog 18 #[t20] h_8 (fun t23 h_9 => 
                    Hp Try.prog false (Instr.extract t23 0) (fun t24 h_10 => 
                      Hp Try.prog false (Instr.extract t23 1) (fun t25 h_11 => 
                        Hp Try.prog false (Instr.alloc 47 true undef) (fun h4 h_12 => 
                          Hp Try.prog false (storeS 47 h4 t24) (fun _ h_13 => 
                            CallsH Try.prog 19 #[b0] h_13 (fun t28 h_14 => 
                              Hp Try.prog false (Instr.extract t28 0) (fun t29 h_15 => 
                                Hp Try.prog false (Instr.extract t28 1) (fun t30 h_16 => 
                                  Hp Try.prog false (Instr.alloc 47 true undef) (fun want6 h_17 => 
                                    Hp Try.prog false (storeS 47 want6 t29) (fun _ h_18 => 
                                      Hp Try.prog false (convert 26 9 t20) (fun t32 h_19 => 
                                        Hp Try.prog false (convert 26 9 b0) (fun t34 h_20 => 
                                          Hp Try.prog false (binS .neq 9 (.tmp 32) (.tmp 34) t32 t34) (fun t35 h_21 => 
                                            Join1 (fun k h_22 => guardP t35 false (k t20 h_22) (k undef h_22) ⟨⟩ ⟨⟩) (fun t37 h_23 => 
                                              Join1 (fun k_1 h_24 => guardP t35 false (k_1 b0 h_24) (k_1 undef h_24) ⟨⟩ ⟨⟩) (fun t38 h_25 => 
                                                Join1 (fun k_2 h_26 => guardP t35 false (Hp Try.prog false (Builtin.len_ #[26] 3 #[t38]) k_2 h_26 ⟨⟩) (k_2 undef h_26) ⟨⟩ ⟨⟩) (fun t39 h_27 => 
                                                  Join1 (fun k_3 h_28 => guardP t35 false (Hp Try.prog false (binS .add 3 (.tmp 39) (.const (.int .i64 1)) t39 (.int .i64 1)) k_3 h_28 ⟨⟩) (k_3 undef h_28) ⟨⟩ ⟨⟩) (fun t40 h_29 => 
                                                    Join1 (fun k_4 h_30 => guardP t35 false (Hp Try.prog false (Instr.sliceAt 26 t37 none (some t40) none) k_4 h_30 ⟨⟩) (k_4 undef h_30) ⟨⟩ ⟨⟩) (fun t41 h_31 => 
                                                      Join1 (fun k_5 h_32 => guardP t35 false (k_5 b0 h_32) (k_5 undef h_32) ⟨⟩ ⟨⟩) (fun t42 h_33 => 
                                                        Join1 (fun k_6 h_34 => guardP t35 false (Hp Try.prog false (Builtin.len_ #[26] 3 #[t42]) k_6 h_34 ⟨⟩) (k_6 undef h_34) ⟨⟩ ⟨⟩) (fun t43 h_35 => 
                                                          Join1 (fun k_7 h_36 => guardP t35 false (Hp Try.prog false (Instr.indexAt 26 t41 t43) k_7 h_36 ⟨⟩) (k_7 undef h_36) ⟨⟩ ⟨⟩) (fun t44 h_37 => 
                                                            Join1 (fun k_8 h_38 => guardP t35 false (Hp Try.prog false (Instr.loadAt 5 t44) k_8 h_38 ⟨⟩) (k_8 undef h_38) ⟨⟩ ⟨⟩) (fun t45 h_39 => 
                                                              Join1 (fun k_9 h_40 => guardP t35 false (Hp Try.prog false (binS .neq 5 (.tmp 45) (.const (.int .u8 77)) t45 (.int .u8 77)) k_9 h_40 ⟨⟩) (k_9 undef h_40) ⟨⟩ ⟨⟩) (fun t46 h_41 => 
                                                                Hp Try.prog false (pickS t35 (.bool true) t46) (fun t47 h_42 => 
                                                                  CondP t47 (
                                                                    R (.bool false) h_42) (
                                                                    Hp Try.prog false (Op.unary .not t30) (fun t49 h_43 => 
                                                                      CondP t49 (
                                                                        Hp Try.prog false (Instr.loadAt 47 h4) (fun t50 h_44 => 
                                                                          Hp Try.prog false (Instr.build 47 #[]) (fun t51 h_45 => 
                                                                            Hp Try.prog false (binS .eql 47 (.tmp 50) (.tmp 51) t50 t51) (fun t52 h_46 => 
                                                                              Join1 (fun k_10 h_47 => guardP t52 true (k_10 t25 h_47) (k_10 undef h_47) ⟨⟩ ⟨⟩) (fun t54 h_48 => 
                                                                                Join1 (fun k_11 h_49 => guardP t52 true (Hp Try.prog false (binS .eql 27 (.tmp 54) (.const (.int .i64 180)) t54 (.int .i64 180)) k_11 h_49 ⟨⟩) (k_11 undef h_49) ⟨⟩ ⟨⟩) (fun t55 h_50 => 
                                                                                  Hp Try.prog false (pickS t52 t55 (.bool false)) (fun t56 h_51 => 
                                                                                    Join1 (fun k_12 h_52 => guardP t56 true (CallsH Try.prog 17 #[] h_52 k_12 ⟨⟩) (k_12 undef h_52) ⟨⟩ ⟨⟩) (fun t58 h_53 => 
                                                                                      Hp Try.prog false (pickS t56 t58 (.bool false)) (fun t59 h_54 => 
                                                                                        R t59 h_54) h_53 ⟨⟩) h_51 ⟨⟩ ⟨⟩) h_50 ⟨⟩) h_48 ⟨⟩ ⟨⟩) h_46 ⟨⟩ ⟨⟩) h_45 ⟨⟩) h_44 ⟨⟩) h_43 ⟨⟩) (
                                                                        Hp Try.prog false (Instr.loadAt 47 h4) (fun t61 h_55 => 
                                                                          CallsH Try.prog 20 #[t61] h_55 (fun t62 h_56 => 
                                                                            Hp Try.prog false (Instr.extract t62 0) (fun t63 h_57 => 
                                                                              Hp Try.prog false (Instr.extract t62 1) (fun t64 h_58 => 
                                                                                Hp Try.prog true (Instr.loadAt 47 h4) (fun t65 _ => 
                                                                                  Hp Try.prog true (Instr.loadAt 47 want6) (fun t66 _ => 
                                                                                    Hp Try.prog true (binS .eql 47 (.tmp 65) (.tmp 66) t65 t66) (fun t67 _ => 
                                                                                      Join1 (fun k_13 h_59 => guardP t67 true (k_13 t25 h_59) (k_13 undef h_59) ⟨⟩ ⟨⟩) (fun t69 _ => 
                                                                                        Join1 (fun k_14 h_60 => guardP t67 true (Hp Try.prog true (binS .eql 27 (.tmp 69) (.const (.int .i64 0)) t69 (.int .i64 0)) k_14 h_60 ⟨⟩) (k_14 undef h_60) ⟨⟩ ⟨⟩) (fun t70 _ => 
                                                                                          Hp Try.prog true (pickS t67 t70 (.bool false)) (fun t71 _ => 
                                                                                            Join1 (fun k_15 h_61 => guardP t71 true (k_15 t64 h_61) (k_15 undef h_61) ⟨⟩ ⟨⟩) (fun t73 _ => 
                                                                                              Join1 (fun k_16 h_62 => guardP t71 true (Hp Try.prog true (binS .eql 27 (.tmp 73) (.const (.int .i64 0)) t73 (.int .i64 0)) k_16 h_62 ⟨⟩) (k_16 undef h_62) ⟨⟩ ⟨⟩) (fun t74 _ => 
                                                                                                Hp Try.prog true (pickS t71 t74 (.bool false)) (fun t75 _ => 
                                                                                                  Join1 (fun k_17 h_63 => guardP t75 true (k_17 t63 h_63) (k_17 undef h_63) ⟨⟩ ⟨⟩) (fun t77 _ => 
                                                                                                    Join1 (fun k_18 h_64 => guardP t75 true (Hp Try.prog true (convert 26 9 t77) k_18 h_64 ⟨⟩) (k_18 undef h_64) ⟨⟩ ⟨⟩) (fun t78 _ => 
                                                                                                      Join1 (fun k_19 h_65 => guardP t75 true (k_19 b0 h_65) (k_19 undef h_65) ⟨⟩ ⟨⟩) (fun t79 _ => 
                                                                                                        Join1 (fun k_20 h_66 => guardP t75 true (Hp Try.prog true (Instr.sliceAt 26 t79 none (some (.int .i64 512)) none) k_20 h_66 ⟨⟩) (k_20 undef h_66) ⟨⟩ ⟨⟩) (fun t80 _ => 
                                                                                                          Join1 (fun k_21 h_67 => guardP t75 true (Hp Try.prog true (convert 26 9 t80) k_21 h_67 ⟨⟩) (k_21 undef h_67) ⟨⟩ ⟨⟩) (fun t81 _ => 
                                                                                                            Join1 (fun k_22 h_68 => guardP t75 true (Hp Try.prog true (binS .eql 9 (.tmp 78) (.tmp 81) t78 t81) k_22 h_68 ⟨⟩) (k_22 undef h_68) ⟨⟩ ⟨⟩) (fun t82 _ => 
                                                                                                              Hp Try.prog true (pickS t75 t82 (.bool false)) (fun t83 _ => 
                                                                                                                Join1 (fun k_23 h_69 => guardP t83 true (CallsH Try.prog 17 #[] h_69 k_23 ⟨⟩) (k_23 undef h_69) ⟨⟩ ⟨⟩) (fun t85 h_70 => 
                                                                                                                  Hp Try.prog true (pickS t83 t85 (.bool false)) (fun t86 _ => 
                                                                                                                    R t86 h_70) #[] ⟨⟩) h_58 ⟨⟩ ⟨⟩) #[] ⟨⟩) #[] ⟨⟩ ⟨⟩) h_58 ⟨⟩ ⟨⟩) #[] ⟨⟩ ⟨⟩) #[] ⟨⟩ ⟨⟩) h_58 ⟨⟩ ⟨⟩) #[] ⟨⟩ ⟨⟩) #[] ⟨⟩) #[] ⟨⟩ ⟨⟩) #[] ⟨⟩ ⟨⟩) #[] ⟨⟩) #[] ⟨⟩ ⟨⟩) #[] ⟨⟩ ⟨⟩) #[] ⟨⟩) h_58 ⟨⟩) h_58 ⟨⟩) h_57 ⟨⟩) h_56 ⟨⟩) ⟨⟩) h_43 ⟨⟩) ⟨⟩ ⟨⟩) h_42 ⟨⟩) ⟨⟩ ⟨⟩) h_41 ⟨⟩) h_39 ⟨⟩ ⟨⟩) h_37 ⟨⟩ ⟨⟩) h_35 ⟨⟩ ⟨⟩) h_33 ⟨⟩ ⟨⟩) h_31 ⟨⟩ ⟨⟩) h_29 ⟨⟩ ⟨⟩) h_27 ⟨⟩ ⟨⟩) h_25 ⟨⟩ ⟨⟩) h_23 ⟨⟩ ⟨⟩) h_21 ⟨⟩ ⟨⟩) h_20 ⟨⟩) h_19 ⟨⟩) h_18 ⟨⟩) h_17 ⟨⟩) h_16 ⟨⟩) h_15 ⟨⟩) h_14 ⟨⟩) ⟨⟩) h_12 ⟨⟩) h_11 ⟨⟩) h_10 ⟨⟩) h_9 ⟨⟩) ⟨⟩) h_7 ⟨⟩) h_6 ⟨⟩) h_5 ⟨⟩) h_4 ⟨⟩) h_2 ⟨⟩) ⟨⟩ ⟨⟩) h_1 ⟨⟩) h ⟨⟩

theorem n5_calls {b0 : Value} {R : Value → Heap → Prop} {h : Heap} (H : n5 b0 R h) : CallsH Try.prog 5 #[b0] h R ⟨⟩ :=
  callsH_of_eq Try.follow .l Try.func5 (by kernel_rfl) (by kernel_rfl) (by kernel_rfl) H

/-- palimpsest/palimpsestlaw08.HeadApart -/
def n6 (a0 b1 : Value) (R : Value → Heap → Prop) (h : Heap) : Prop :=
  Hp Try.prog false (Instr.box 47 a0) (fun a2 h_1 => 
    Hp Try.prog false (Instr.box 47 b1) (fun b3 h_2 => 
      Hp Try.prog false (Instr.fieldAt 47 a2 14) (fun t9 h_3 => 
        Hp Try.prog false (Instr.loadAt 9 t9) (fun t10 h_4 => 
          Hp Try.prog false (Builtin.len_ #[9] 3 #[t10]) (fun t11 h_5 => 
            Hp Try.prog false (binS .gtr 3 (.tmp 11) (.const (.int .i64 1000)) t11 (.int .i64 1000)) (fun t12 h_6 => 
              Join1 (fun k h_7 => guardP t12 false (Hp Try.prog false (Instr.fieldAt 47 b3 14) k h_7 ⟨⟩) (k undef h_7) ⟨⟩ ⟨⟩) (fun t14 h_8 => 
                Join1 (fun k_1 h_9 => guardP t12 false (Hp Try.prog false (Instr.loadAt 9 t14) k_1 h_9 ⟨⟩) (k_1 undef h_9) ⟨⟩ ⟨⟩) (fun t15 h_10 => 
                  Join1 (fun k_2 h_11 => guardP t12 false (Hp Try.prog false (Builtin.len_ #[9] 3 #[t15]) k_2 h_11 ⟨⟩) (k_2 undef h_11) ⟨⟩ ⟨⟩) (fun t16 h_12 => 
                    Join1 (fun k_3 h_13 => guardP t12 false (Hp Try.prog false (binS .gtr 3 (.tmp 16) (.const (.int .i64 1000)) t16 (.int .i64 1000)) k_3 h_13 ⟨⟩) (k_3 undef h_13) ⟨⟩ ⟨⟩) (fun t17 h_14 => 
                      Hp Try.prog false (pickS t12 (.bool true) t17) (fun t18 h_15 => 
                        CondP t18 (
                          CallsH Try.prog 17 #[] h_15 (fun t19 h_16 => 
                            R t19 h_16) ⟨⟩) (
                          Hp Try.prog false (Instr.loadAt 47 a2) (fun t21 h_17 => 
                            CallsH Try.prog 20 #[t21] h_17 (fun t22 h_18 => 
                              Hp Try.prog false (Instr.extract t22 0) (fun t23 h_19 => 
                                Hp Try.prog false (Instr.extract t22 1) (fun t24 h_20 => 
                                  Hp Try.prog false (Instr.loadAt 47 b3) (fun t26 h_21 => 
                                    CallsH Try.prog 20 #[t26] h_21 (fun t27 h_22 => 
                                      Hp Try.prog false (Instr.extract t27 0) (fun t28 h_23 => 
                                        Hp Try.prog false (Instr.extract t27 1) (fun t29 h_24 => 
                                          Hp Try.prog false (binS .neq 27 (.tmp 30) (.const (.int .i64 0)) t24 (.int .i64 0)) (fun t31 h_25 => 
                                            Join1 (fun k_4 h_26 => guardP t31 false (k_4 t29 h_26) (k_4 undef h_26) ⟨⟩ ⟨⟩) (fun t33 h_27 => 
                                              Join1 (fun k_5 h_28 => guardP t31 false (Hp Try.prog false (binS .neq 27 (.tmp 33) (.const (.int .i64 0)) t33 (.int .i64 0)) k_5 h_28 ⟨⟩) (k_5 undef h_28) ⟨⟩ ⟨⟩) (fun t34 h_29 => 
                                                Hp Try.prog false (pickS t31 (.bool true) t34) (fun t35 h_30 => 
                                                  CondP t35 (
                                                    Hp Try.prog false (binS .neq 27 (.tmp 36) (.const (.int .i64 0)) t24 (.int .i64 0)) (fun t37 h_31 => 
                                                      Hp Try.prog false (Instr.loadAt 47 a2) (fun t38 h_32 => 
                                                        CallsH Try.prog 21 #[t38] h_32 (fun t39 h_33 => 
                                                          Hp Try.prog false (binS .neq 27 (.tmp 39) (.const (.int .i64 0)) t39 (.int .i64 0)) (fun t40 h_34 => 
                                                            Hp Try.prog false (binS .eql 4 (.tmp 37) (.tmp 40) t37 t40) (fun t41 h_35 => 
                                                              Join1 (fun k_6 h_36 => guardP t41 true (k_6 t29 h_36) (k_6 undef h_36) ⟨⟩ ⟨⟩) (fun t43 h_37 => 
                                                                Join1 (fun k_7 h_38 => guardP t41 true (Hp Try.prog false (binS .neq 27 (.tmp 43) (.const (.int .i64 0)) t43 (.int .i64 0)) k_7 h_38 ⟨⟩) (k_7 undef h_38) ⟨⟩ ⟨⟩) (fun t44 h_39 => 
                                                                  Join1 (fun k_8 h_40 => guardP t41 true (Hp Try.prog false (Instr.loadAt 47 b3) k_8 h_40 ⟨⟩) (k_8 undef h_40) ⟨⟩ ⟨⟩) (fun t45 h_41 => 
                                                                    Join1 (fun k_9 h_42 => guardP t41 true (CallsH Try.prog 21 #[t45] h_42 k_9 ⟨⟩) (k_9 undef h_42) ⟨⟩ ⟨⟩) (fun t46 h_43 => 
                                                                      Join1 (fun k_10 h_44 => guardP t41 true (Hp Try.prog false (binS .neq 27 (.tmp 46) (.const (.int .i64 0)) t46 (.int .i64 0)) k_10 h_44 ⟨⟩) (k_10 undef h_44) ⟨⟩ ⟨⟩) (fun t47 h_45 => 
                                                                        Join1 (fun k_11 h_46 => guardP t41 true (Hp Try.prog false (binS .eql 4 (.tmp 44) (.tmp 47) t44 t47) k_11 h_46 ⟨⟩) (k_11 undef h_46) ⟨⟩ ⟨⟩) (fun t48 h_47 => 
                                                                          Hp Try.prog false (pickS t41 t48 (.bool false)) (fun t49 h_48 => 
                                                                            Join1 (fun k_12 h_49 => guardP t49 true (CallsH Try.prog 17 #[] h_49 k_12 ⟨⟩) (k_12 undef h_49) ⟨⟩ ⟨⟩) (fun t51 h_50 => 
                                                                              Hp Try.prog false (pickS t49 t51 (.bool false)) (fun t52 h_51 => 
                                                                                R t52 h_51) h_50 ⟨⟩) h_48 ⟨⟩ ⟨⟩) h_47 ⟨⟩) h_45 ⟨⟩ ⟨⟩) h_43 ⟨⟩ ⟨⟩) h_41 ⟨⟩ ⟨⟩) h_39 ⟨⟩ ⟨⟩) h_37 ⟨⟩ ⟨⟩) h_35 ⟨⟩ ⟨⟩) h_34 ⟨⟩) h_33 ⟨⟩) ⟨⟩) h_31 ⟨⟩) h_30 ⟨⟩) (
                                                    Hp Try.prog true (convert 26 9 t23) (fun t54 _ => 
                                                      Hp Try.prog true (convert 26 9 t28) (fun t56 _ => 
                                                        Hp Try.prog true (binS .eql 9 (.tmp 54) (.tmp 56) t54 t56) (fun t57 _ => 
                                                          Hp Try.prog true (Instr.loadAt 47 a2) (fun t58 _ => 
                                                            Hp Try.prog true (Instr.loadAt 47 b3) (fun t59 _ => 
                                                              Hp Try.prog true (binS .eql 47 (.tmp 58) (.tmp 59) t58 t59) (fun t60 _ => 
                                                                Hp Try.prog true (binS .eql 4 (.tmp 57) (.tmp 60) t57 t60) (fun t61 _ => 
                                                                  Join1 (fun k_13 h_52 => guardP t61 true (CallsH Try.prog 17 #[] h_52 k_13 ⟨⟩) (k_13 undef h_52) ⟨⟩ ⟨⟩) (fun t63 h_53 => 
                                                                    Hp Try.prog true (pickS t61 t63 (.bool false)) (fun t64 _ => 
                                                                      R t64 h_53) #[] ⟨⟩) h_30 ⟨⟩ ⟨⟩) #[] ⟨⟩) #[] ⟨⟩) h_30 ⟨⟩) h_30 ⟨⟩) #[] ⟨⟩) h_30 ⟨⟩) h_30 ⟨⟩) ⟨⟩ ⟨⟩) h_29 ⟨⟩) h_27 ⟨⟩ ⟨⟩) h_25 ⟨⟩ ⟨⟩) h_24 ⟨⟩) h_23 ⟨⟩) h_22 ⟨⟩) ⟨⟩) h_20 ⟨⟩) h_19 ⟨⟩) h_18 ⟨⟩) ⟨⟩) h_15 ⟨⟩) ⟨⟩ ⟨⟩) h_14 ⟨⟩) h_12 ⟨⟩ ⟨⟩) h_10 ⟨⟩ ⟨⟩) h_8 ⟨⟩ ⟨⟩) h_6 ⟨⟩ ⟨⟩) h_5 ⟨⟩) h_4 ⟨⟩) h_3 ⟨⟩) h_2 ⟨⟩) h_1 ⟨⟩) h ⟨⟩

theorem n6_calls {a0 b1 : Value} {R : Value → Heap → Prop} {h : Heap} (H : n6 a0 b1 R h) : CallsH Try.prog 6 #[a0, b1] h R ⟨⟩ :=
  callsH_of_eq Try.follow .l Try.func6 (by kernel_rfl) (by kernel_rfl) (by kernel_rfl) H

/-- palimpsest/palimpsestlaw08.HeadBytes -/
def n7 (h0 : Value) (R : Value → Heap → Prop) (h : Heap) : Prop :=
  Hp Try.prog false (Instr.box 47 h0) (fun h1 h_1 => 
    Hp Try.prog false (Instr.fieldAt 47 h1 14) (fun t9 h_2 => 
      Hp Try.prog false (Instr.loadAt 9 t9) (fun t10 h_3 => 
        Hp Try.prog false (Builtin.len_ #[9] 3 #[t10]) (fun t11 h_4 => 
          Hp Try.prog false (binS .gtr 3 (.tmp 11) (.const (.int .i64 1000)) t11 (.int .i64 1000)) (fun t12 h_5 => 
            CondP t12 (
              CallsH Try.prog 17 #[] h_5 (fun t13 h_6 => 
                R t13 h_6) ⟨⟩) (
              Hp Try.prog false (Instr.loadAt 47 h1) (fun t15 h_7 => 
                CallsH Try.prog 20 #[t15] h_7 (fun t16 h_8 => 
                  Hp Try.prog false (Instr.extract t16 0) (fun t17 h_9 => 
                    Hp Try.prog false (Instr.extract t16 1) (fun t18 h_10 => 
                      Hp Try.prog false (Instr.loadAt 47 h1) (fun t19 h_11 => 
                        CallsH Try.prog 22 #[t19] h_11 (fun t20 h_12 => 
                          Hp Try.prog false (Op.unary .not t20) (fun t22 h_13 => 
                            CondP t22 (
                              Hp Try.prog false (Instr.loadAt 47 h1) (fun t23 h_14 => 
                                CallsH Try.prog 21 #[t23] h_14 (fun t24 h_15 => 
                                  Hp Try.prog false (binS .eql 27 (.tmp 24) (.const (.int .i64 2)) t24 (.int .i64 2)) (fun t25 h_16 => 
                                    Join1 (fun k h_17 => guardP t25 true (k t17 h_17) (k undef h_17) ⟨⟩ ⟨⟩) (fun t27 h_18 => 
                                      Join1 (fun k_1 h_19 => guardP t25 true (Hp Try.prog false (Builtin.len_ #[26] 3 #[t27]) k_1 h_19 ⟨⟩) (k_1 undef h_19) ⟨⟩ ⟨⟩) (fun t28 h_20 => 
                                        Join1 (fun k_2 h_21 => guardP t25 true (Hp Try.prog false (binS .eql 3 (.tmp 28) (.const (.int .i64 0)) t28 (.int .i64 0)) k_2 h_21 ⟨⟩) (k_2 undef h_21) ⟨⟩ ⟨⟩) (fun t29 h_22 => 
                                          Hp Try.prog false (pickS t25 t29 (.bool false)) (fun t30 h_23 => 
                                            Join1 (fun k_3 h_24 => guardP t30 true (k_3 t18 h_24) (k_3 undef h_24) ⟨⟩ ⟨⟩) (fun t32 h_25 => 
                                              Join1 (fun k_4 h_26 => guardP t30 true (Hp Try.prog false (binS .eql 27 (.tmp 32) (.const (.int .i64 2)) t32 (.int .i64 2)) k_4 h_26 ⟨⟩) (k_4 undef h_26) ⟨⟩ ⟨⟩) (fun t33 h_27 => 
                                                Hp Try.prog false (pickS t30 t33 (.bool false)) (fun t34 h_28 => 
                                                  Join1 (fun k_5 h_29 => guardP t34 true (Hp Try.prog false (Instr.loadAt 47 h1) k_5 h_29 ⟨⟩) (k_5 undef h_29) ⟨⟩ ⟨⟩) (fun t36 h_30 => 
                                                    Join1 (fun k_6 h_31 => guardP t34 true (CallsH Try.prog 23 #[t36] h_31 k_6 ⟨⟩) (k_6 undef h_31) ⟨⟩ ⟨⟩) (fun t37 h_32 => 
                                                      Join1 (fun k_7 h_33 => guardP t34 true (Hp Try.prog false (binS .eql 2 (.tmp 37) (.const (.int .i64 0)) t37 (.int .i64 0)) k_7 h_33 ⟨⟩) (k_7 undef h_33) ⟨⟩ ⟨⟩) (fun t38 h_34 => 
                                                        Hp Try.prog false (pickS t34 t38 (.bool false)) (fun t39 h_35 => 
                                                          Join1 (fun k_8 h_36 => guardP t39 true (Hp Try.prog false (Instr.loadAt 47 h1) k_8 h_36 ⟨⟩) (k_8 undef h_36) ⟨⟩ ⟨⟩) (fun t41 h_37 => 
                                                            Join1 (fun k_9 h_38 => guardP t39 true (CallsH Try.prog 24 #[t41] h_38 k_9 ⟨⟩) (k_9 undef h_38) ⟨⟩ ⟨⟩) (fun t42 h_39 => 
                                                              Join1 (fun k_10 h_40 => guardP t39 true (Hp Try.prog false (binS .eql 2 (.tmp 42) (.const (.int .i64 0)) t42 (.int .i64 0)) k_10 h_40 ⟨⟩) (k_10 undef h_40) ⟨⟩ ⟨⟩) (fun t43 h_41 => 
                                                                Hp Try.prog false (pickS t39 t43 (.bool false)) (fun t44 h_42 => 
                                                                  Join1 (fun k_11 h_43 => guardP t44 true (Hp Try.prog false (Instr.loadAt 47 h1) k_11 h_43 ⟨⟩) (k_11 undef h_43) ⟨⟩ ⟨⟩) (fun t46 h_44 => 
                                                                    Join1 (fun k_12 h_45 => guardP t44 true (CallsH Try.prog 25 #[t46] h_45 k_12 ⟨⟩) (k_12 undef h_45) ⟨⟩ ⟨⟩) (fun t47 h_46 => 
                                                                      Join1 (fun k_13 h_47 => guardP t44 true (Hp Try.prog false (binS .eql 2 (.tmp 47) (.const (.int .i64 0)) t47 (.int .i64 0)) k_13 h_47 ⟨⟩) (k_13 undef h_47) ⟨⟩ ⟨⟩) (fun t48 h_48 => 
                                                                        Hp Try.prog false (pickS t44 t48 (.bool false)) (fun t49 h_49 => 
                                                                          Join1 (fun k_14 h_50 => guardP t49 true (Hp Try.prog false (Instr.loadAt 47 h1) k_14 h_50 ⟨⟩) (k_14 undef h_50) ⟨⟩ ⟨⟩) (fun t51 h_51 => 
                                                                            Join1 (fun k_15 h_52 => guardP t49 true (CallsH Try.prog 26 #[t51] h_52 k_15 ⟨⟩) (k_15 undef h_52) ⟨⟩ ⟨⟩) (fun t52 h_53 => 
                                                                              Join1 (fun k_16 h_54 => guardP t49 true (Hp Try.prog false (binS .eql 2 (.tmp 52) (.const (.int .i64 0)) t52 (.int .i64 0)) k_16 h_54 ⟨⟩) (k_16 undef h_54) ⟨⟩ ⟨⟩) (fun t53 h_55 => 
                                                                                Hp Try.prog false (pickS t49 t53 (.bool false)) (fun t54 h_56 => 
                                                                                  Join1 (fun k_17 h_57 => guardP t54 true (CallsH Try.prog 17 #[] h_57 k_17 ⟨⟩) (k_17 undef h_57) ⟨⟩ ⟨⟩) (fun t56 h_58 => 
                                                                                    Hp Try.prog false (pickS t54 t56 (.bool false)) (fun t57 h_59 => 
                                                                                      R t57 h_59) h_58 ⟨⟩) h_56 ⟨⟩ ⟨⟩) h_55 ⟨⟩) h_53 ⟨⟩ ⟨⟩) h_51 ⟨⟩ ⟨⟩) h_49 ⟨⟩ ⟨⟩) h_48 ⟨⟩) h_46 ⟨⟩ ⟨⟩) h_44 ⟨⟩ ⟨⟩) h_42 ⟨⟩ ⟨⟩) h_41 ⟨⟩) h_39 ⟨⟩ ⟨⟩) h_37 ⟨⟩ ⟨⟩) h_35 ⟨⟩ ⟨⟩) h_34 ⟨⟩) h_32 ⟨⟩ ⟨⟩) h_30 ⟨⟩ ⟨⟩) h_28 ⟨⟩ ⟨⟩) h_27 ⟨⟩) h_25 ⟨⟩ ⟨⟩) h_23 ⟨⟩ ⟨⟩) h_22 ⟨⟩) h_20 ⟨⟩ ⟨⟩) h_18 ⟨⟩ ⟨⟩) h_16 ⟨⟩ ⟨⟩) h_15 ⟨⟩) ⟨⟩) h_13 ⟨⟩) (
                              Hp Try.prog true (Instr.loadAt 47 h1) (fun t58 _ => 
                                CallsH Try.prog 21 #[t58] h_13 (fun t59 h_60 => 
                                  Hp Try.prog true (binS .neq 27 (.tmp 59) (.const (.int .i64 0)) t59 (.int .i64 0)) (fun t60 _ => 
                                    Join1 (fun k_18 h_61 => guardP t60 false (k_18 t18 h_61) (k_18 undef h_61) ⟨⟩ ⟨⟩) (fun t62 _ => 
                                      Join1 (fun k_19 h_62 => guardP t60 false (Hp Try.prog true (binS .neq 27 (.tmp 62) (.const (.int .i64 0)) t62 (.int .i64 0)) k_19 h_62 ⟨⟩) (k_19 undef h_62) ⟨⟩ ⟨⟩) (fun t63 _ => 
                                        Hp Try.prog true (pickS t60 (.bool true) t63) (fun t64 _ => 
                                          Join1 (fun k_20 h_63 => guardP t64 false (k_20 t17 h_63) (k_20 undef h_63) ⟨⟩ ⟨⟩) (fun t66 _ => 
                                            Join1 (fun k_21 h_64 => guardP t64 false (Hp Try.prog true (convert 26 9 t66) k_21 h_64 ⟨⟩) (k_21 undef h_64) ⟨⟩ ⟨⟩) (fun t67 _ => 
                                              Join1 (fun k_22 h_65 => guardP t64 false (Hp Try.prog true (Instr.loadAt 47 h1) k_22 h_65 ⟨⟩) (k_22 undef h_65) ⟨⟩ ⟨⟩) (fun t68 _ => 
                                                Join1 (fun k_23 h_66 => guardP t64 false (CallsH Try.prog 27 #[t68] h_66 k_23 ⟨⟩) (k_23 undef h_66) ⟨⟩ ⟨⟩) (fun t69 h_67 => Join1 (fun k h => guardP t64 false (Hp Try.prog true (convert 26 9 t66) k h ⟨⟩) (k undef h) ⟨⟩ ⟨⟩) (fun u _ => u = t67) h_67 ⟨⟩ ⟨⟩ ∧ 
                                                  Join1 (fun k_24 h_68 => guardP t64 false (Hp Try.prog true (convert 26 9 t69) k_24 h_68 ⟨⟩) (k_24 undef h_68) ⟨⟩ ⟨⟩) (fun t70 _ => 
                                                    Join1 (fun k_25 h_69 => guardP t64 false (Hp Try.prog true (binS .neq 9 (.tmp 67) (.tmp 70) t67 t70) k_25 h_69 ⟨⟩) (k_25 undef h_69) ⟨⟩ ⟨⟩) (fun t71 _ => 
                                                      Hp Try.prog true (pickS t64 (.bool true) t71) (fun t72 _ => 
                                                        CondP t72 (
                                                          R (.bool false) h_67) (
                                                          Hp Try.prog false (Instr.buildSlice 26 3 #[(0, (.int .u8 1)), (1, (.int .u8 2)), (2, (.int .u8 3))]) (fun t75 h_70 => 
                                                            Hp Try.prog false (Builtin.append_ #[26, 26] 26 #[t17, t75]) (fun t76 h_71 => 
                                                              CallsH Try.prog 18 #[t76] h_71 (fun t77 h_72 => 
                                                                Hp Try.prog false (Instr.extract t77 0) (fun t78 h_73 => 
                                                                  Hp Try.prog false (Instr.extract t77 1) (fun t79 h_74 => 
                                                                    Hp Try.prog false (Instr.alloc 47 true undef) (fun x6 h_75 => 
                                                                      Hp Try.prog false (storeS 47 x6 t78) (fun _ h_76 => 
                                                                        Hp Try.prog false (Instr.fieldAt 47 h1 0) (fun t80 h_77 => 
                                                                          Hp Try.prog false (Instr.loadAt 3 t80) (fun t81 h_78 => 
                                                                            CallsH Try.prog 28 #[t81] h_78 (fun t82 h_79 => 
                                                                              Hp Try.prog true (Instr.loadAt 47 x6) (fun t83 _ => 
                                                                                Hp Try.prog true (Instr.loadAt 47 h1) (fun t84 _ => 
                                                                                  Hp Try.prog true (binS .eql 47 (.tmp 83) (.tmp 84) t83 t84) (fun t85 _ => 
                                                                                    Join1 (fun k_26 h_80 => guardP t85 true (k_26 t79 h_80) (k_26 undef h_80) ⟨⟩ ⟨⟩) (fun t87 _ => 
                                                                                      Join1 (fun k_27 h_81 => guardP t85 true (Hp Try.prog true (binS .eql 27 (.tmp 87) (.const (.int .i64 0)) t87 (.int .i64 0)) k_27 h_81 ⟨⟩) (k_27 undef h_81) ⟨⟩ ⟨⟩) (fun t88 _ => 
                                                                                        Hp Try.prog true (pickS t85 t88 (.bool false)) (fun t89 _ => 
                                                                                          Join1 (fun k_28 h_82 => guardP t89 true (Hp Try.prog true (Instr.loadAt 47 h1) k_28 h_82 ⟨⟩) (k_28 undef h_82) ⟨⟩ ⟨⟩) (fun t91 _ => 
                                                                                            Join1 (fun k_29 h_83 => guardP t89 true (k_29 t82 h_83) (k_29 undef h_83) ⟨⟩ ⟨⟩) (fun t93 _ => 
                                                                                              Join1 (fun k_30 h_84 => guardP t89 true (CallsH Try.prog 23 #[t91] h_84 k_30 ⟨⟩) (k_30 undef h_84) ⟨⟩ ⟨⟩) (fun t92 h_85 => 
                                                                                                Join1 (fun k_31 h_86 => guardP t89 true (Hp Try.prog true (binS .eql 2 (.tmp 92) (.tmp 93) t92 t93) k_31 h_86 ⟨⟩) (k_31 undef h_86) ⟨⟩ ⟨⟩) (fun t94 _ => 
                                                                                                  Hp Try.prog true (pickS t89 t94 (.bool false)) (fun t95 _ => 
                                                                                                    Join1 (fun k_32 h_87 => guardP t95 true (Hp Try.prog true (Instr.loadAt 47 h1) k_32 h_87 ⟨⟩) (k_32 undef h_87) ⟨⟩ ⟨⟩) (fun t97 _ => 
                                                                                                      Join1 (fun k_33 h_88 => guardP t95 true (k_33 t82 h_88) (k_33 undef h_88) ⟨⟩ ⟨⟩) (fun t99 _ => 
                                                                                                        Join1 (fun k_34 h_89 => guardP t95 true (Hp Try.prog true (binS .quo 2 (.tmp 99) (.const (.int .i64 8)) t99 (.int .i64 8)) k_34 h_89 ⟨⟩) (k_34 undef h_89) ⟨⟩ ⟨⟩) (fun t100 _ => 
                                                                                                          Join1 (fun k_35 h_90 => guardP t95 true (CallsH Try.prog 24 #[t97] h_90 k_35 ⟨⟩) (k_35 undef h_90) ⟨⟩ ⟨⟩) (fun t98 h_91 => 
                                                                                                            Join1 (fun k_36 h_92 => guardP t95 true (Hp Try.prog true (binS .eql 2 (.tmp 98) (.tmp 100) t98 t100) k_36 h_92 ⟨⟩) (k_36 undef h_92) ⟨⟩ ⟨⟩) (fun t101 _ => 
                                                                                                              Hp Try.prog true (pickS t95 t101 (.bool false)) (fun t102 _ => 
                                                                                                                Join1 (fun k_37 h_93 => guardP t102 true (Hp Try.prog true (Instr.loadAt 47 h1) k_37 h_93 ⟨⟩) (k_37 undef h_93) ⟨⟩ ⟨⟩) (fun t104 _ => 
                                                                                                                  Join1 (fun k_38 h_94 => guardP t102 true (Hp Try.prog true (Instr.loadAt 47 h1) k_38 h_94 ⟨⟩) (k_38 undef h_94) ⟨⟩ ⟨⟩) (fun t106 _ => 
                                                                                                                    Join1 (fun k_39 h_95 => guardP t102 true (CallsH Try.prog 25 #[t104] h_95 k_39 ⟨⟩) (k_39 undef h_95) ⟨⟩ ⟨⟩) (fun t105 h_96 => Join1 (fun k h => guardP t102 true (Hp Try.prog true (Instr.loadAt 47 h1) k h ⟨⟩) (k undef h) ⟨⟩ ⟨⟩) (fun u _ => u = t106) h_96 ⟨⟩ ⟨⟩ ∧ 
                                                                                                                      Join1 (fun k_40 h_97 => guardP t102 true (CallsH Try.prog 29 #[t106] h_97 k_40 ⟨⟩) (k_40 undef h_97) ⟨⟩ ⟨⟩) (fun t107 h_98 => 
                                                                                                                        Join1 (fun k_41 h_99 => guardP t102 true (Hp Try.prog true (binS .eql 2 (.tmp 105) (.tmp 107) t105 t107) k_41 h_99 ⟨⟩) (k_41 undef h_99) ⟨⟩ ⟨⟩) (fun t108 _ => 
                                                                                                                          Hp Try.prog true (pickS t102 t108 (.bool false)) (fun t109 _ => 
                                                                                                                            Join1 (fun k_42 h_100 => guardP t109 true (Hp Try.prog true (Instr.loadAt 47 h1) k_42 h_100 ⟨⟩) (k_42 undef h_100) ⟨⟩ ⟨⟩) (fun t111 _ => 
                                                                                                                              Join1 (fun k_43 h_101 => guardP t109 true (Hp Try.prog true (Instr.loadAt 47 h1) k_43 h_101 ⟨⟩) (k_43 undef h_101) ⟨⟩ ⟨⟩) (fun t113 _ => 
                                                                                                                                Join1 (fun k_44 h_102 => guardP t109 true (CallsH Try.prog 26 #[t111] h_102 k_44 ⟨⟩) (k_44 undef h_102) ⟨⟩ ⟨⟩) (fun t112 h_103 => Join1 (fun k h => guardP t109 true (Hp Try.prog true (Instr.loadAt 47 h1) k h ⟨⟩) (k undef h) ⟨⟩ ⟨⟩) (fun u _ => u = t113) h_103 ⟨⟩ ⟨⟩ ∧ 
                                                                                                                                  Join1 (fun k_45 h_104 => guardP t109 true (CallsH Try.prog 30 #[t113] h_104 k_45 ⟨⟩) (k_45 undef h_104) ⟨⟩ ⟨⟩) (fun t114 h_105 => 
                                                                                                                                    Join1 (fun k_46 h_106 => guardP t109 true (Hp Try.prog true (binS .eql 2 (.tmp 112) (.tmp 114) t112 t114) k_46 h_106 ⟨⟩) (k_46 undef h_106) ⟨⟩ ⟨⟩) (fun t115 _ => 
                                                                                                                                      Hp Try.prog true (pickS t109 t115 (.bool false)) (fun t116 _ => 
                                                                                                                                        Join1 (fun k_47 h_107 => guardP t116 true (CallsH Try.prog 17 #[] h_107 k_47 ⟨⟩) (k_47 undef h_107) ⟨⟩ ⟨⟩) (fun t118 h_108 => 
                                                                                                                                          Hp Try.prog true (pickS t116 t118 (.bool false)) (fun t119 _ => 
                                                                                                                                            R t119 h_108) #[] ⟨⟩) h_105 ⟨⟩ ⟨⟩) #[] ⟨⟩) #[] ⟨⟩ ⟨⟩) h_103 ⟨⟩ ⟨⟩) h_98 ⟨⟩ ⟨⟩) h_98 ⟨⟩ ⟨⟩) h_98 ⟨⟩ ⟨⟩) #[] ⟨⟩) #[] ⟨⟩ ⟨⟩) h_96 ⟨⟩ ⟨⟩) h_91 ⟨⟩ ⟨⟩) h_91 ⟨⟩ ⟨⟩) h_91 ⟨⟩ ⟨⟩) #[] ⟨⟩) #[] ⟨⟩ ⟨⟩) h_85 ⟨⟩ ⟨⟩) #[] ⟨⟩ ⟨⟩) #[] ⟨⟩ ⟨⟩) h_85 ⟨⟩ ⟨⟩) #[] ⟨⟩) #[] ⟨⟩ ⟨⟩) h_79 ⟨⟩ ⟨⟩) #[] ⟨⟩ ⟨⟩) h_79 ⟨⟩ ⟨⟩) #[] ⟨⟩) #[] ⟨⟩ ⟨⟩) #[] ⟨⟩ ⟨⟩) #[] ⟨⟩) h_79 ⟨⟩) h_79 ⟨⟩) ⟨⟩) h_77 ⟨⟩) h_76 ⟨⟩) h_75 ⟨⟩) h_74 ⟨⟩) h_73 ⟨⟩) h_72 ⟨⟩) ⟨⟩) h_70 ⟨⟩) h_67 ⟨⟩) ⟨⟩ ⟨⟩) #[] ⟨⟩) #[] ⟨⟩ ⟨⟩) h_67 ⟨⟩ ⟨⟩) h_60 ⟨⟩ ⟨⟩) h_60 ⟨⟩ ⟨⟩) h_60 ⟨⟩ ⟨⟩) #[] ⟨⟩ ⟨⟩) #[] ⟨⟩) #[] ⟨⟩ ⟨⟩) #[] ⟨⟩ ⟨⟩) #[] ⟨⟩) ⟨⟩) h_13 ⟨⟩) ⟨⟩ ⟨⟩) h_12 ⟨⟩) ⟨⟩) h_10 ⟨⟩) h_9 ⟨⟩) h_8 ⟨⟩) ⟨⟩) h_5 ⟨⟩) ⟨⟩ ⟨⟩) h_4 ⟨⟩) h_3 ⟨⟩) h_2 ⟨⟩) h_1 ⟨⟩) h ⟨⟩

theorem n7_calls {h0 : Value} {R : Value → Heap → Prop} {h : Heap} (H : n7 h0 R h) : CallsH Try.prog 7 #[h0] h R ⟨⟩ :=
  callsH_of_eq Try.follow .l Try.func7 (by kernel_rfl) (by kernel_rfl) (by kernel_rfl) H

/-- palimpsest/palimpsestlaw08.known -/
def n17 (R : Value → Heap → Prop) (h : Heap) : Prop :=
  CallsH Try.prog 48 #[] h (fun t6 h_1 => 
    CallsH Try.prog 20 #[t6] h_1 (fun t7 h_2 => 
      Hp Try.prog false (Instr.extract t7 0) (fun t8 h_3 => 
        Hp Try.prog false (Instr.extract t7 1) (fun t9 h_4 => 
          CallsH Try.prog 18 #[t8] h_4 (fun t12 h_5 => 
            Hp Try.prog false (Instr.extract t12 0) (fun t13 h_6 => 
              Hp Try.prog false (Instr.extract t12 1) (fun t14 h_7 => 
                Hp Try.prog false (Instr.alloc 47 true undef) (fun h3 h_8 => 
                  Hp Try.prog false (storeS 47 h3 t13) (fun _ h_9 => 
                    Hp Try.prog true (binS .eql 27 (.tmp 15) (.const (.int .i64 0)) t9 (.int .i64 0)) (fun t16 _ => 
                      Join1 (fun k h_10 => guardP t16 true (k t8 h_10) (k undef h_10) ⟨⟩ ⟨⟩) (fun t18 _ => 
                        Join1 (fun k_1 h_11 => guardP t16 true (Hp Try.prog true (Builtin.len_ #[26] 3 #[t18]) k_1 h_11 ⟨⟩) (k_1 undef h_11) ⟨⟩ ⟨⟩) (fun t19 _ => 
                          Join1 (fun k_2 h_12 => guardP t16 true (Hp Try.prog true (binS .eql 3 (.tmp 19) (.const (.int .i64 512)) t19 (.int .i64 512)) k_2 h_12 ⟨⟩) (k_2 undef h_12) ⟨⟩ ⟨⟩) (fun t20 _ => 
                            Hp Try.prog true (pickS t16 t20 (.bool false)) (fun t21 _ => 
                              Join1 (fun k_3 h_13 => guardP t21 true (k_3 t8 h_13) (k_3 undef h_13) ⟨⟩ ⟨⟩) (fun t23 _ => 
                                Join1 (fun k_4 h_14 => guardP t21 true (Hp Try.prog true (Instr.sliceAt 26 t23 none (some (.int .i64 4)) none) k_4 h_14 ⟨⟩) (k_4 undef h_14) ⟨⟩ ⟨⟩) (fun t24 _ => 
                                  Join1 (fun k_5 h_15 => guardP t21 true (Hp Try.prog true (convert 26 9 t24) k_5 h_15 ⟨⟩) (k_5 undef h_15) ⟨⟩ ⟨⟩) (fun t25 _ => 
                                    Join1 (fun k_6 h_16 => guardP t21 true (Hp Try.prog true (binS .eql 9 (.tmp 25) (.const (str [80, 65, 76, 49])) t25 (str [80, 65, 76, 49])) k_6 h_16 ⟨⟩) (k_6 undef h_16) ⟨⟩ ⟨⟩) (fun t26 _ => 
                                      Hp Try.prog true (pickS t21 t26 (.bool false)) (fun t27 _ => 
                                        Join1 (fun k_7 h_17 => guardP t27 true (k_7 t14 h_17) (k_7 undef h_17) ⟨⟩ ⟨⟩) (fun t29 _ => 
                                          Join1 (fun k_8 h_18 => guardP t27 true (Hp Try.prog true (binS .eql 27 (.tmp 29) (.const (.int .i64 0)) t29 (.int .i64 0)) k_8 h_18 ⟨⟩) (k_8 undef h_18) ⟨⟩ ⟨⟩) (fun t30 _ => 
                                            Hp Try.prog true (pickS t27 t30 (.bool false)) (fun t31 _ => 
                                              Join1 (fun k_9 h_19 => guardP t31 true (Hp Try.prog true (Instr.loadAt 47 h3) k_9 h_19 ⟨⟩) (k_9 undef h_19) ⟨⟩ ⟨⟩) (fun t33 _ => 
                                                Join1 (fun k_10 h_20 => guardP t31 true (CallsH Try.prog 48 #[] h_20 k_10 ⟨⟩) (k_10 undef h_20) ⟨⟩ ⟨⟩) (fun t34 h_21 => Join1 (fun k h => guardP t31 true (Hp Try.prog true (Instr.loadAt 47 h3) k h ⟨⟩) (k undef h) ⟨⟩ ⟨⟩) (fun u _ => u = t33) h_21 ⟨⟩ ⟨⟩ ∧ 
                                                  Join1 (fun k_11 h_22 => guardP t31 true (Hp Try.prog true (binS .eql 47 (.tmp 33) (.tmp 34) t33 t34) k_11 h_22 ⟨⟩) (k_11 undef h_22) ⟨⟩ ⟨⟩) (fun t35 _ => 
                                                    Hp Try.prog true (pickS t31 t35 (.bool false)) (fun t36 _ => 
                                                      Join1 (fun k_12 h_23 => guardP t36 true (Hp Try.prog true (Instr.loadAt 47 h3) k_12 h_23 ⟨⟩) (k_12 undef h_23) ⟨⟩ ⟨⟩) (fun t38 _ => 
                                                        Join1 (fun k_13 h_24 => guardP t36 true (CallsH Try.prog 25 #[t38] h_24 k_13 ⟨⟩) (k_13 undef h_24) ⟨⟩ ⟨⟩) (fun t39 h_25 => 
                                                          Join1 (fun k_14 h_26 => guardP t36 true (Hp Try.prog true (binS .eql 2 (.tmp 39) (.const (.int .i64 2)) t39 (.int .i64 2)) k_14 h_26 ⟨⟩) (k_14 undef h_26) ⟨⟩ ⟨⟩) (fun t40 _ => 
                                                            Hp Try.prog true (pickS t36 t40 (.bool false)) (fun t41 _ => 
                                                              Join1 (fun k_15 h_27 => guardP t41 true (Hp Try.prog true (Instr.loadAt 47 h3) k_15 h_27 ⟨⟩) (k_15 undef h_27) ⟨⟩ ⟨⟩) (fun t43 _ => 
                                                                Join1 (fun k_16 h_28 => guardP t41 true (CallsH Try.prog 26 #[t43] h_28 k_16 ⟨⟩) (k_16 undef h_28) ⟨⟩ ⟨⟩) (fun t44 h_29 => 
                                                                  Join1 (fun k_17 h_30 => guardP t41 true (Hp Try.prog true (binS .eql 2 (.tmp 44) (.const (.int .i64 1)) t44 (.int .i64 1)) k_17 h_30 ⟨⟩) (k_17 undef h_30) ⟨⟩ ⟨⟩) (fun t45 _ => 
                                                                    Hp Try.prog true (pickS t41 t45 (.bool false)) (fun t46 _ => 
                                                                      R t46 h_29) #[] ⟨⟩) #[] ⟨⟩ ⟨⟩) h_25 ⟨⟩ ⟨⟩) h_25 ⟨⟩ ⟨⟩) #[] ⟨⟩) #[] ⟨⟩ ⟨⟩) h_21 ⟨⟩ ⟨⟩) h_21 ⟨⟩ ⟨⟩) #[] ⟨⟩) #[] ⟨⟩ ⟨⟩) h_9 ⟨⟩ ⟨⟩) h_9 ⟨⟩ ⟨⟩) #[] ⟨⟩) #[] ⟨⟩ ⟨⟩) #[] ⟨⟩ ⟨⟩) #[] ⟨⟩) #[] ⟨⟩ ⟨⟩) h_9 ⟨⟩ ⟨⟩) #[] ⟨⟩ ⟨⟩) #[] ⟨⟩ ⟨⟩) #[] ⟨⟩) #[] ⟨⟩ ⟨⟩) #[] ⟨⟩ ⟨⟩) #[] ⟨⟩ ⟨⟩) #[] ⟨⟩) h_8 ⟨⟩) h_7 ⟨⟩) h_6 ⟨⟩) h_5 ⟨⟩) ⟨⟩) h_3 ⟨⟩) h_2 ⟨⟩) ⟨⟩) ⟨⟩

theorem n17_calls {R : Value → Heap → Prop} {h : Heap} (H : n17  R h) : CallsH Try.prog 17 #[] h R ⟨⟩ :=
  callsH_of_eq Try.follow .l Try.func17 (by kernel_rfl) (by kernel_rfl) (by kernel_rfl) H

/-- palimpsest/head.Read -/
def n18 (b0 : Value) (R : Value → Heap → Prop) (h : Heap) : Prop :=
  Hp Try.prog false (Instr.box 26 b0) (fun b1 h_1 => 
    Hp Try.prog false (Instr.alloc 47 true undef) (fun t2 h_2 => 
      Hp Try.prog false (Instr.loadAt 26 b1) (fun t10 h_3 => 
        Hp Try.prog false (Builtin.len_ #[26] 3 #[t10]) (fun t11 h_4 => 
          Hp Try.prog false (binS .lss 3 (.tmp 11) (.const (.int .i64 512)) t11 (.int .i64 512)) (fun t12 h_5 => 
            CondP t12 (
              Hp Try.prog false (Instr.build 47 #[]) (fun t13 h_6 => 
                Hp Try.prog false (storeS 47 t2 t13) (fun _ h_7 => 
                  Hp Try.prog true (loadCell 47 t2) (fun r _ =>
                    R (.tuple #[r, (.int .i64 180)]) h_7) h_7 ⟨⟩) h_6 ⟨⟩) h_5 ⟨⟩) (
              Hp Try.prog false (Instr.loadAt 26 b1) (fun t14 h_8 => 
                Hp Try.prog false (Instr.sliceAt 26 t14 none (some (.int .i64 512)) none) (fun t15 h_9 => 
                  Hp Try.prog false (storeS 26 b1 t15) (fun _ h_10 => 
                    Hp Try.prog false (pure (.func (.func 49) #[] #[b1])) (fun t16 h_11 => 
                      InvokeH Try.prog t16 #[(.int .i64 4), (.int .i64 4)] h_11 (fun t18 h_12 => 
                        InvokeH Try.prog t16 #[(.int .i64 8), (.int .i64 8)] h_12 (fun t20 h_13 => 
                          Hp Try.prog false (convert 2 45 t20) (fun t21 h_14 => 
                            InvokeH Try.prog t16 #[(.int .i64 16), (.int .i64 8)] h_14 (fun t23 h_15 => 
                              InvokeH Try.prog t16 #[(.int .i64 24), (.int .i64 8)] h_15 (fun t25 h_16 => 
                                InvokeH Try.prog t16 #[(.int .i64 32), (.int .i64 4)] h_16 (fun t27 h_17 => 
                                  InvokeH Try.prog t16 #[(.int .i64 36), (.int .i64 4)] h_17 (fun t29 h_18 => 
                                    InvokeH Try.prog t16 #[(.int .i64 40), (.int .i64 8)] h_18 (fun t31 h_19 => 
                                      InvokeH Try.prog t16 #[(.int .i64 48), (.int .i64 4)] h_19 (fun t33 h_20 => 
                                        InvokeH Try.prog t16 #[(.int .i64 52), (.int .i64 4)] h_20 (fun t35 h_21 => 
                                          InvokeH Try.prog t16 #[(.int .i64 56), (.int .i64 8)] h_21 (fun t37 h_22 => 
                                            InvokeH Try.prog t16 #[(.int .i64 64), (.int .i64 4)] h_22 (fun t39 h_23 => 
                                              InvokeH Try.prog t16 #[(.int .i64 68), (.int .i64 4)] h_23 (fun t41 h_24 => 
                                                InvokeH Try.prog t16 #[(.int .i64 72), (.int .i64 8)] h_24 (fun t43 h_25 => 
                                                  InvokeH Try.prog t16 #[(.int .i64 80), (.int .i64 4)] h_25 (fun t45 h_26 => 
                                                    Hp Try.prog false (Instr.build 47 #[(0, t18), (1, t21), (2, t23), (3, t25), (4, t27), (5, t29), (6, t31), (7, t33), (8, t35), (9, t37), (10, t39), (11, t41), (12, t43), (13, t45)]) (fun t46 h_27 => 
                                                      Hp Try.prog false (Instr.alloc 47 true undef) (fun h5 h_28 => 
                                                        Hp Try.prog false (storeS 47 h5 t46) (fun _ h_29 => 
                                                          Hp Try.prog false (Instr.loadAt 26 b1) (fun t48 h_30 => 
                                                            CallsH Try.prog 51 #[t48, (.int .i64 84), (.int .i64 64)] h_30 (fun t49 h_31 => 
                                                              Hp Try.prog false (Instr.extract t49 0) (fun t50 h_32 => 
                                                                Hp Try.prog false (Instr.extract t49 1) (fun t51 h_33 => 
                                                                  Hp Try.prog false (Instr.fieldAt 47 h5 14) (fun t53 h_34 => 
                                                                    Hp Try.prog false (storeS 9 t53 t50) (fun _ h_35 => 
                                                                      Hp Try.prog false (Instr.loadAt 47 h5) (fun t55 h_36 => 
                                                                        CallsH Try.prog 20 #[t55] h_36 (fun t56 h_37 => 
                                                                          Hp Try.prog false (Instr.extract t56 0) (fun t57 h_38 => 
                                                                            Hp Try.prog false (Instr.extract t56 1) (fun t58 h_39 => 
                                                                              Hp Try.prog false (binS .neq 27 (.tmp 59) (.const (.int .i64 0)) t51 (.int .i64 0)) (fun t60 h_40 => 
                                                                                Join1 (fun k h_41 => guardP t60 false (k t58 h_41) (k undef h_41) ⟨⟩ ⟨⟩) (fun t62 h_42 => 
                                                                                  Join1 (fun k_1 h_43 => guardP t60 false (Hp Try.prog false (binS .neq 27 (.tmp 62) (.const (.int .i64 0)) t62 (.int .i64 0)) k_1 h_43 ⟨⟩) (k_1 undef h_43) ⟨⟩ ⟨⟩) (fun t63 h_44 => 
                                                                                    Hp Try.prog false (pickS t60 (.bool true) t63) (fun t64 h_45 => 
                                                                                      Join1 (fun k_2 h_46 => guardP t64 false (k_2 t57 h_46) (k_2 undef h_46) ⟨⟩ ⟨⟩) (fun t66 h_47 => 
                                                                                        Join1 (fun k_3 h_48 => guardP t64 false (Hp Try.prog false (Instr.loadAt 26 b1) k_3 h_48 ⟨⟩) (k_3 undef h_48) ⟨⟩ ⟨⟩) (fun t67 h_49 => 
                                                                                          Join1 (fun k_4 h_50 => guardP t64 false (CallsH Try.prog 52 #[t66, t67] h_50 k_4 ⟨⟩) (k_4 undef h_50) ⟨⟩ ⟨⟩) (fun t68 h_51 => 
                                                                                            Join1 (fun k_5 h_52 => guardP t64 false (Hp Try.prog false (Op.unary .not t68) k_5 h_52 ⟨⟩) (k_5 undef h_52) ⟨⟩ ⟨⟩) (fun t69 h_53 => 
                                                                                              Hp Try.prog false (pickS t64 (.bool true) t69) (fun t70 h_54 => 
                                                                                                CondP t70 (
                                                                                                  Hp Try.prog false (Instr.build 47 #[]) (fun t71 h_55 => 
                                                                                                    Hp Try.prog false (storeS 47 t2 t71) (fun _ h_56 => 
                                                                                                      Hp Try.prog true (loadCell 47 t2) (fun r_1 _ =>
                                                                                                        R (.tuple #[r_1, (.int .i64 180)]) h_56) h_56 ⟨⟩) h_55 ⟨⟩) h_54 ⟨⟩) (
                                                                                                  Hp Try.prog false (Instr.loadAt 47 h5) (fun t72 h_57 => 
                                                                                                    Hp Try.prog false (storeS 47 t2 t72) (fun _ h_58 => 
                                                                                                      Hp Try.prog true (loadCell 47 t2) (fun r_2 _ =>
                                                                                                        R (.tuple #[r_2, (.int .i64 0)]) h_58) h_58 ⟨⟩) h_57 ⟨⟩) h_54 ⟨⟩) ⟨⟩ ⟨⟩) h_53 ⟨⟩) h_51 ⟨⟩ ⟨⟩) h_49 ⟨⟩ ⟨⟩) h_47 ⟨⟩ ⟨⟩) h_45 ⟨⟩ ⟨⟩) h_44 ⟨⟩) h_42 ⟨⟩ ⟨⟩) h_40 ⟨⟩ ⟨⟩) h_39 ⟨⟩) h_38 ⟨⟩) h_37 ⟨⟩) ⟨⟩) h_35 ⟨⟩) h_34 ⟨⟩) h_33 ⟨⟩) h_32 ⟨⟩) h_31 ⟨⟩) ⟨⟩) h_29 ⟨⟩) h_28 ⟨⟩) h_27 ⟨⟩) h_26 ⟨⟩) ⟨⟩) ⟨⟩) ⟨⟩) ⟨⟩) ⟨⟩) ⟨⟩) ⟨⟩) ⟨⟩) ⟨⟩) ⟨⟩) ⟨⟩) ⟨⟩) h_13 ⟨⟩) ⟨⟩) ⟨⟩) h_10 ⟨⟩) h_9 ⟨⟩) h_8 ⟨⟩) h_5 ⟨⟩) ⟨⟩ ⟨⟩) h_4 ⟨⟩) h_3 ⟨⟩) h_2 ⟨⟩) h_1 ⟨⟩) h ⟨⟩

theorem n18_calls {b0 : Value} {R : Value → Heap → Prop} {h : Heap} (H : n18 b0 R h) : CallsH Try.prog 18 #[b0] h R ⟨⟩ :=
  callsH_of_eq Try.follow .l Try.func18 (by kernel_rfl) (by kernel_rfl) (by kernel_rfl) H

/-- palimpsest/palimpsestref08.Read -/
def n19 (b0 : Value) (R : Value → Heap → Prop) (h : Heap) : Prop :=
  Hp Try.prog false (Instr.alloc 47 true undef) (fun t2 h_1 => 
    Hp Try.prog false (Builtin.len_ #[26] 3 #[b0]) (fun t8 h_2 => 
      Hp Try.prog false (binS .lss 3 (.tmp 8) (.const (.int .i64 512)) t8 (.int .i64 512)) (fun t9 h_3 => 
        CondP t9 (
          Hp Try.prog false (Instr.build 47 #[]) (fun t10 h_4 => 
            Hp Try.prog false (storeS 47 t2 t10) (fun _ h_5 => 
              Hp Try.prog true (loadCell 47 t2) (fun r _ =>
                R (.tuple #[r, (.bool false)]) h_5) h_5 ⟨⟩) h_4 ⟨⟩) h_3 ⟨⟩) (
          CallsH Try.prog 53 #[b0, (.int .i64 84), (.int .i64 4)] h_3 (fun t12 h_6 => 
            Hp Try.prog false (binS .gtr 2 (.tmp 13) (.const (.int .i64 64)) t12 (.int .i64 64)) (fun t14 h_7 => 
              CondP t14 (
                Hp Try.prog false (Instr.build 47 #[]) (fun t15 h_8 => 
                  Hp Try.prog false (storeS 47 t2 t15) (fun _ h_9 => 
                    Hp Try.prog true (loadCell 47 t2) (fun r_1 _ =>
                      R (.tuple #[r_1, (.bool false)]) h_9) h_9 ⟨⟩) h_8 ⟨⟩) h_7 ⟨⟩) (
                JoinN 1 (fun (k : Value → Heap → Prop) h_10 =>
                  Hp Try.prog true (Instr.sliceAt 26 b0 (some (.int .i64 8)) (some (.int .i64 16)) none) (fun t19 _ => 
                    Hp Try.prog true (binS .add 2 (.const (.int .i64 88)) (.tmp 46) (.int .i64 88) t12) (fun t47 _ => 
                      Hp Try.prog true (Instr.sliceAt 26 b0 (some (.int .i64 88)) (some t47) none) (fun t48 _ => 
                        Hp Try.prog true (convert 26 9 t48) (fun t49 _ => 
                          ((
                            CallsH Try.prog 53 #[b0, (.int .i64 4), (.int .i64 4)] h_10 (fun t17 h_11 => Hp Try.prog true (convert 26 9 t48) (fun u _ => u = t49) h_11 ⟨⟩ ∧ 
                              ((
                                CallsH Try.prog 54 #[t19] h_11 (fun t20 h_12 => Hp Try.prog true (convert 26 9 t48) (fun u _ => u = t49) h_12 ⟨⟩ ∧ 
                                  ((
                                    CallsH Try.prog 53 #[b0, (.int .i64 16), (.int .i64 8)] h_12 (fun t22 h_13 => Hp Try.prog true (convert 26 9 t48) (fun u _ => u = t49) h_13 ⟨⟩ ∧ 
                                      ((
                                        CallsH Try.prog 53 #[b0, (.int .i64 24), (.int .i64 8)] h_13 (fun t24 h_14 => Hp Try.prog true (convert 26 9 t48) (fun u _ => u = t49) h_14 ⟨⟩ ∧ 
                                          ((
                                            CallsH Try.prog 53 #[b0, (.int .i64 32), (.int .i64 4)] h_14 (fun t26 h_15 => Hp Try.prog true (convert 26 9 t48) (fun u _ => u = t49) h_15 ⟨⟩ ∧ 
                                              ((
                                                CallsH Try.prog 53 #[b0, (.int .i64 36), (.int .i64 4)] h_15 (fun t28 h_16 => Hp Try.prog true (convert 26 9 t48) (fun u _ => u = t49) h_16 ⟨⟩ ∧ 
                                                  ((
                                                    CallsH Try.prog 53 #[b0, (.int .i64 40), (.int .i64 8)] h_16 (fun t30 h_17 => Hp Try.prog true (convert 26 9 t48) (fun u _ => u = t49) h_17 ⟨⟩ ∧ 
                                                      ((
                                                        CallsH Try.prog 53 #[b0, (.int .i64 48), (.int .i64 4)] h_17 (fun t32 h_18 => Hp Try.prog true (convert 26 9 t48) (fun u _ => u = t49) h_18 ⟨⟩ ∧ 
                                                          ((
                                                            CallsH Try.prog 53 #[b0, (.int .i64 52), (.int .i64 4)] h_18 (fun t34 h_19 => Hp Try.prog true (convert 26 9 t48) (fun u _ => u = t49) h_19 ⟨⟩ ∧ 
                                                              ((
                                                                CallsH Try.prog 53 #[b0, (.int .i64 56), (.int .i64 8)] h_19 (fun t36 h_20 => Hp Try.prog true (convert 26 9 t48) (fun u _ => u = t49) h_20 ⟨⟩ ∧ 
                                                                  ((
                                                                    CallsH Try.prog 53 #[b0, (.int .i64 64), (.int .i64 4)] h_20 (fun t38 h_21 => Hp Try.prog true (convert 26 9 t48) (fun u _ => u = t49) h_21 ⟨⟩ ∧ 
                                                                      ((
                                                                        CallsH Try.prog 53 #[b0, (.int .i64 68), (.int .i64 4)] h_21 (fun t40 h_22 => Hp Try.prog true (convert 26 9 t48) (fun u _ => u = t49) h_22 ⟨⟩ ∧ 
                                                                          ((
                                                                            CallsH Try.prog 53 #[b0, (.int .i64 72), (.int .i64 8)] h_22 (fun t42 h_23 => Hp Try.prog true (convert 26 9 t48) (fun u _ => u = t49) h_23 ⟨⟩ ∧ 
                                                                              ((
                                                                                CallsH Try.prog 53 #[b0, (.int .i64 80), (.int .i64 4)] h_23 (fun t44 h_24 => Hp Try.prog true (convert 26 9 t48) (fun u _ => u = t49) h_24 ⟨⟩ ∧ 
                                                                                  Hp Try.prog true (Instr.build 47 #[(0, t17), (1, t20), (2, t22), (3, t24), (4, t26), (5, t28), (6, t30), (7, t32), (8, t34), (9, t36), (10, t38), (11, t40), (12, t42), (13, t44), (14, t49)]) (fun t50 _ => 
                                                                                    Hp Try.prog false (Instr.alloc 47 true undef) (fun h5 h_25 => Hp Try.prog true (convert 26 9 t48) (fun u _ => u = t49) h_25 ⟨⟩ ∧ 
                                                                                      Hp Try.prog false (storeS 47 h5 t50) (fun _ h_26 => 
                                                                                        k h5 h_26) h_25 ⟨⟩) h_24 ⟨⟩) #[] ⟨⟩) ⟨⟩) ∧ (
                                                                                Hp Try.prog false (Instr.alloc 47 true undef) (fun h5_1 h_27 => Hp Try.prog true (convert 26 9 t48) (fun u _ => u = t49) h_27 ⟨⟩ ∧ 
                                                                                  CallsH Try.prog 53 #[b0, (.int .i64 80), (.int .i64 4)] h_27 (fun t44_1 h_28 => Hp Try.prog true (convert 26 9 t48) (fun u _ => u = t49) h_28 ⟨⟩ ∧ 
                                                                                    Hp Try.prog true (Instr.build 47 #[(0, t17), (1, t20), (2, t22), (3, t24), (4, t26), (5, t28), (6, t30), (7, t32), (8, t34), (9, t36), (10, t38), (11, t40), (12, t42), (13, t44_1), (14, t49)]) (fun t50_1 _ => 
                                                                                      Hp Try.prog false (storeS 47 h5_1 t50_1) (fun _ h_29 => 
                                                                                        k h5_1 h_29) h_28 ⟨⟩) #[] ⟨⟩) ⟨⟩) h_23 ⟨⟩))) ⟨⟩) ∧ (
                                                                            Hp Try.prog false (Instr.alloc 47 true undef) (fun h5_2 h_30 => Hp Try.prog true (convert 26 9 t48) (fun u _ => u = t49) h_30 ⟨⟩ ∧ 
                                                                              CallsH Try.prog 53 #[b0, (.int .i64 72), (.int .i64 8)] h_30 (fun t42_1 h_31 => Hp Try.prog true (convert 26 9 t48) (fun u _ => u = t49) h_31 ⟨⟩ ∧ 
                                                                                CallsH Try.prog 53 #[b0, (.int .i64 80), (.int .i64 4)] h_31 (fun t44_2 h_32 => Hp Try.prog true (convert 26 9 t48) (fun u _ => u = t49) h_32 ⟨⟩ ∧ 
                                                                                  Hp Try.prog true (Instr.build 47 #[(0, t17), (1, t20), (2, t22), (3, t24), (4, t26), (5, t28), (6, t30), (7, t32), (8, t34), (9, t36), (10, t38), (11, t40), (12, t42_1), (13, t44_2), (14, t49)]) (fun t50_2 _ => 
                                                                                    Hp Try.prog false (storeS 47 h5_2 t50_2) (fun _ h_33 => 
                                                                                      k h5_2 h_33) h_32 ⟨⟩) #[] ⟨⟩) ⟨⟩) ⟨⟩) h_22 ⟨⟩))) ⟨⟩) ∧ (
                                                                        Hp Try.prog false (Instr.alloc 47 true undef) (fun h5_3 h_34 => Hp Try.prog true (convert 26 9 t48) (fun u _ => u = t49) h_34 ⟨⟩ ∧ 
                                                                          CallsH Try.prog 53 #[b0, (.int .i64 68), (.int .i64 4)] h_34 (fun t40_1 h_35 => Hp Try.prog true (convert 26 9 t48) (fun u _ => u = t49) h_35 ⟨⟩ ∧ 
                                                                            CallsH Try.prog 53 #[b0, (.int .i64 72), (.int .i64 8)] h_35 (fun t42_2 h_36 => Hp Try.prog true (convert 26 9 t48) (fun u _ => u = t49) h_36 ⟨⟩ ∧ 
                                                                              CallsH Try.prog 53 #[b0, (.int .i64 80), (.int .i64 4)] h_36 (fun t44_3 h_37 => Hp Try.prog true (convert 26 9 t48) (fun u _ => u = t49) h_37 ⟨⟩ ∧ 
                                                                                Hp Try.prog true (Instr.build 47 #[(0, t17), (1, t20), (2, t22), (3, t24), (4, t26), (5, t28), (6, t30), (7, t32), (8, t34), (9, t36), (10, t38), (11, t40_1), (12, t42_2), (13, t44_3), (14, t49)]) (fun t50_3 _ => 
                                                                                  Hp Try.prog false (storeS 47 h5_3 t50_3) (fun _ h_38 => 
                                                                                    k h5_3 h_38) h_37 ⟨⟩) #[] ⟨⟩) ⟨⟩) ⟨⟩) ⟨⟩) h_21 ⟨⟩))) ⟨⟩) ∧ (
                                                                    Hp Try.prog false (Instr.alloc 47 true undef) (fun h5_4 h_39 => Hp Try.prog true (convert 26 9 t48) (fun u _ => u = t49) h_39 ⟨⟩ ∧ 
                                                                      CallsH Try.prog 53 #[b0, (.int .i64 64), (.int .i64 4)] h_39 (fun t38_1 h_40 => Hp Try.prog true (convert 26 9 t48) (fun u _ => u = t49) h_40 ⟨⟩ ∧ 
                                                                        CallsH Try.prog 53 #[b0, (.int .i64 68), (.int .i64 4)] h_40 (fun t40_2 h_41 => Hp Try.prog true (convert 26 9 t48) (fun u _ => u = t49) h_41 ⟨⟩ ∧ 
                                                                          CallsH Try.prog 53 #[b0, (.int .i64 72), (.int .i64 8)] h_41 (fun t42_3 h_42 => Hp Try.prog true (convert 26 9 t48) (fun u _ => u = t49) h_42 ⟨⟩ ∧ 
                                                                            CallsH Try.prog 53 #[b0, (.int .i64 80), (.int .i64 4)] h_42 (fun t44_4 h_43 => Hp Try.prog true (convert 26 9 t48) (fun u _ => u = t49) h_43 ⟨⟩ ∧ 
                                                                              Hp Try.prog true (Instr.build 47 #[(0, t17), (1, t20), (2, t22), (3, t24), (4, t26), (5, t28), (6, t30), (7, t32), (8, t34), (9, t36), (10, t38_1), (11, t40_2), (12, t42_3), (13, t44_4), (14, t49)]) (fun t50_4 _ => 
                                                                                Hp Try.prog false (storeS 47 h5_4 t50_4) (fun _ h_44 => 
                                                                                  k h5_4 h_44) h_43 ⟨⟩) #[] ⟨⟩) ⟨⟩) ⟨⟩) ⟨⟩) ⟨⟩) h_20 ⟨⟩))) ⟨⟩) ∧ (
                                                                Hp Try.prog false (Instr.alloc 47 true undef) (fun h5_5 h_45 => Hp Try.prog true (convert 26 9 t48) (fun u _ => u = t49) h_45 ⟨⟩ ∧ 
                                                                  CallsH Try.prog 53 #[b0, (.int .i64 56), (.int .i64 8)] h_45 (fun t36_1 h_46 => Hp Try.prog true (convert 26 9 t48) (fun u _ => u = t49) h_46 ⟨⟩ ∧ 
                                                                    CallsH Try.prog 53 #[b0, (.int .i64 64), (.int .i64 4)] h_46 (fun t38_2 h_47 => Hp Try.prog true (convert 26 9 t48) (fun u _ => u = t49) h_47 ⟨⟩ ∧ 
                                                                      CallsH Try.prog 53 #[b0, (.int .i64 68), (.int .i64 4)] h_47 (fun t40_3 h_48 => Hp Try.prog true (convert 26 9 t48) (fun u _ => u = t49) h_48 ⟨⟩ ∧ 
                                                                        CallsH Try.prog 53 #[b0, (.int .i64 72), (.int .i64 8)] h_48 (fun t42_4 h_49 => Hp Try.prog true (convert 26 9 t48) (fun u _ => u = t49) h_49 ⟨⟩ ∧ 
                                                                          CallsH Try.prog 53 #[b0, (.int .i64 80), (.int .i64 4)] h_49 (fun t44_5 h_50 => Hp Try.prog true (convert 26 9 t48) (fun u _ => u = t49) h_50 ⟨⟩ ∧ 
                                                                            Hp Try.prog true (Instr.build 47 #[(0, t17), (1, t20), (2, t22), (3, t24), (4, t26), (5, t28), (6, t30), (7, t32), (8, t34), (9, t36_1), (10, t38_2), (11, t40_3), (12, t42_4), (13, t44_5), (14, t49)]) (fun t50_5 _ => 
                                                                              Hp Try.prog false (storeS 47 h5_5 t50_5) (fun _ h_51 => 
                                                                                k h5_5 h_51) h_50 ⟨⟩) #[] ⟨⟩) ⟨⟩) ⟨⟩) ⟨⟩) ⟨⟩) ⟨⟩) h_19 ⟨⟩))) ⟨⟩) ∧ (
                                                            Hp Try.prog false (Instr.alloc 47 true undef) (fun h5_6 h_52 => Hp Try.prog true (convert 26 9 t48) (fun u _ => u = t49) h_52 ⟨⟩ ∧ 
                                                              CallsH Try.prog 53 #[b0, (.int .i64 52), (.int .i64 4)] h_52 (fun t34_1 h_53 => Hp Try.prog true (convert 26 9 t48) (fun u _ => u = t49) h_53 ⟨⟩ ∧ 
                                                                CallsH Try.prog 53 #[b0, (.int .i64 56), (.int .i64 8)] h_53 (fun t36_2 h_54 => Hp Try.prog true (convert 26 9 t48) (fun u _ => u = t49) h_54 ⟨⟩ ∧ 
                                                                  CallsH Try.prog 53 #[b0, (.int .i64 64), (.int .i64 4)] h_54 (fun t38_3 h_55 => Hp Try.prog true (convert 26 9 t48) (fun u _ => u = t49) h_55 ⟨⟩ ∧ 
                                                                    CallsH Try.prog 53 #[b0, (.int .i64 68), (.int .i64 4)] h_55 (fun t40_4 h_56 => Hp Try.prog true (convert 26 9 t48) (fun u _ => u = t49) h_56 ⟨⟩ ∧ 
                                                                      CallsH Try.prog 53 #[b0, (.int .i64 72), (.int .i64 8)] h_56 (fun t42_5 h_57 => Hp Try.prog true (convert 26 9 t48) (fun u _ => u = t49) h_57 ⟨⟩ ∧ 
                                                                        CallsH Try.prog 53 #[b0, (.int .i64 80), (.int .i64 4)] h_57 (fun t44_6 h_58 => Hp Try.prog true (convert 26 9 t48) (fun u _ => u = t49) h_58 ⟨⟩ ∧ 
                                                                          Hp Try.prog true (Instr.build 47 #[(0, t17), (1, t20), (2, t22), (3, t24), (4, t26), (5, t28), (6, t30), (7, t32), (8, t34_1), (9, t36_2), (10, t38_3), (11, t40_4), (12, t42_5), (13, t44_6), (14, t49)]) (fun t50_6 _ => 
                                                                            Hp Try.prog false (storeS 47 h5_6 t50_6) (fun _ h_59 => 
                                                                              k h5_6 h_59) h_58 ⟨⟩) #[] ⟨⟩) ⟨⟩) ⟨⟩) ⟨⟩) ⟨⟩) ⟨⟩) ⟨⟩) h_18 ⟨⟩))) ⟨⟩) ∧ (
                                                        Hp Try.prog false (Instr.alloc 47 true undef) (fun h5_7 h_60 => Hp Try.prog true (convert 26 9 t48) (fun u _ => u = t49) h_60 ⟨⟩ ∧ 
                                                          CallsH Try.prog 53 #[b0, (.int .i64 48), (.int .i64 4)] h_60 (fun t32_1 h_61 => Hp Try.prog true (convert 26 9 t48) (fun u _ => u = t49) h_61 ⟨⟩ ∧ 
                                                            CallsH Try.prog 53 #[b0, (.int .i64 52), (.int .i64 4)] h_61 (fun t34_2 h_62 => Hp Try.prog true (convert 26 9 t48) (fun u _ => u = t49) h_62 ⟨⟩ ∧ 
                                                              CallsH Try.prog 53 #[b0, (.int .i64 56), (.int .i64 8)] h_62 (fun t36_3 h_63 => Hp Try.prog true (convert 26 9 t48) (fun u _ => u = t49) h_63 ⟨⟩ ∧ 
                                                                CallsH Try.prog 53 #[b0, (.int .i64 64), (.int .i64 4)] h_63 (fun t38_4 h_64 => Hp Try.prog true (convert 26 9 t48) (fun u _ => u = t49) h_64 ⟨⟩ ∧ 
                                                                  CallsH Try.prog 53 #[b0, (.int .i64 68), (.int .i64 4)] h_64 (fun t40_5 h_65 => Hp Try.prog true (convert 26 9 t48) (fun u _ => u = t49) h_65 ⟨⟩ ∧ 
                                                                    CallsH Try.prog 53 #[b0, (.int .i64 72), (.int .i64 8)] h_65 (fun t42_6 h_66 => Hp Try.prog true (convert 26 9 t48) (fun u _ => u = t49) h_66 ⟨⟩ ∧ 
                                                                      CallsH Try.prog 53 #[b0, (.int .i64 80), (.int .i64 4)] h_66 (fun t44_7 h_67 => Hp Try.prog true (convert 26 9 t48) (fun u _ => u = t49) h_67 ⟨⟩ ∧ 
                                                                        Hp Try.prog true (Instr.build 47 #[(0, t17), (1, t20), (2, t22), (3, t24), (4, t26), (5, t28), (6, t30), (7, t32_1), (8, t34_2), (9, t36_3), (10, t38_4), (11, t40_5), (12, t42_6), (13, t44_7), (14, t49)]) (fun t50_7 _ => 
                                                                          Hp Try.prog false (storeS 47 h5_7 t50_7) (fun _ h_68 => 
                                                                            k h5_7 h_68) h_67 ⟨⟩) #[] ⟨⟩) ⟨⟩) ⟨⟩) ⟨⟩) ⟨⟩) ⟨⟩) ⟨⟩) ⟨⟩) h_17 ⟨⟩))) ⟨⟩) ∧ (
                                                    Hp Try.prog false (Instr.alloc 47 true undef) (fun h5_8 h_69 => Hp Try.prog true (convert 26 9 t48) (fun u _ => u = t49) h_69 ⟨⟩ ∧ 
                                                      CallsH Try.prog 53 #[b0, (.int .i64 40), (.int .i64 8)] h_69 (fun t30_1 h_70 => Hp Try.prog true (convert 26 9 t48) (fun u _ => u = t49) h_70 ⟨⟩ ∧ 
                                                        CallsH Try.prog 53 #[b0, (.int .i64 48), (.int .i64 4)] h_70 (fun t32_2 h_71 => Hp Try.prog true (convert 26 9 t48) (fun u _ => u = t49) h_71 ⟨⟩ ∧ 
                                                          CallsH Try.prog 53 #[b0, (.int .i64 52), (.int .i64 4)] h_71 (fun t34_3 h_72 => Hp Try.prog true (convert 26 9 t48) (fun u _ => u = t49) h_72 ⟨⟩ ∧ 
                                                            CallsH Try.prog 53 #[b0, (.int .i64 56), (.int .i64 8)] h_72 (fun t36_4 h_73 => Hp Try.prog true (convert 26 9 t48) (fun u _ => u = t49) h_73 ⟨⟩ ∧ 
                                                              CallsH Try.prog 53 #[b0, (.int .i64 64), (.int .i64 4)] h_73 (fun t38_5 h_74 => Hp Try.prog true (convert 26 9 t48) (fun u _ => u = t49) h_74 ⟨⟩ ∧ 
                                                                CallsH Try.prog 53 #[b0, (.int .i64 68), (.int .i64 4)] h_74 (fun t40_6 h_75 => Hp Try.prog true (convert 26 9 t48) (fun u _ => u = t49) h_75 ⟨⟩ ∧ 
                                                                  CallsH Try.prog 53 #[b0, (.int .i64 72), (.int .i64 8)] h_75 (fun t42_7 h_76 => Hp Try.prog true (convert 26 9 t48) (fun u _ => u = t49) h_76 ⟨⟩ ∧ 
                                                                    CallsH Try.prog 53 #[b0, (.int .i64 80), (.int .i64 4)] h_76 (fun t44_8 h_77 => Hp Try.prog true (convert 26 9 t48) (fun u _ => u = t49) h_77 ⟨⟩ ∧ 
                                                                      Hp Try.prog true (Instr.build 47 #[(0, t17), (1, t20), (2, t22), (3, t24), (4, t26), (5, t28), (6, t30_1), (7, t32_2), (8, t34_3), (9, t36_4), (10, t38_5), (11, t40_6), (12, t42_7), (13, t44_8), (14, t49)]) (fun t50_8 _ => 
                                                                        Hp Try.prog false (storeS 47 h5_8 t50_8) (fun _ h_78 => 
                                                                          k h5_8 h_78) h_77 ⟨⟩) #[] ⟨⟩) ⟨⟩) ⟨⟩) ⟨⟩) ⟨⟩) ⟨⟩) ⟨⟩) ⟨⟩) ⟨⟩) h_16 ⟨⟩))) ⟨⟩) ∧ (
                                                Hp Try.prog false (Instr.alloc 47 true undef) (fun h5_9 h_79 => Hp Try.prog true (convert 26 9 t48) (fun u _ => u = t49) h_79 ⟨⟩ ∧ 
                                                  CallsH Try.prog 53 #[b0, (.int .i64 36), (.int .i64 4)] h_79 (fun t28_1 h_80 => Hp Try.prog true (convert 26 9 t48) (fun u _ => u = t49) h_80 ⟨⟩ ∧ 
                                                    CallsH Try.prog 53 #[b0, (.int .i64 40), (.int .i64 8)] h_80 (fun t30_2 h_81 => Hp Try.prog true (convert 26 9 t48) (fun u _ => u = t49) h_81 ⟨⟩ ∧ 
                                                      CallsH Try.prog 53 #[b0, (.int .i64 48), (.int .i64 4)] h_81 (fun t32_3 h_82 => Hp Try.prog true (convert 26 9 t48) (fun u _ => u = t49) h_82 ⟨⟩ ∧ 
                                                        CallsH Try.prog 53 #[b0, (.int .i64 52), (.int .i64 4)] h_82 (fun t34_4 h_83 => Hp Try.prog true (convert 26 9 t48) (fun u _ => u = t49) h_83 ⟨⟩ ∧ 
                                                          CallsH Try.prog 53 #[b0, (.int .i64 56), (.int .i64 8)] h_83 (fun t36_5 h_84 => Hp Try.prog true (convert 26 9 t48) (fun u _ => u = t49) h_84 ⟨⟩ ∧ 
                                                            CallsH Try.prog 53 #[b0, (.int .i64 64), (.int .i64 4)] h_84 (fun t38_6 h_85 => Hp Try.prog true (convert 26 9 t48) (fun u _ => u = t49) h_85 ⟨⟩ ∧ 
                                                              CallsH Try.prog 53 #[b0, (.int .i64 68), (.int .i64 4)] h_85 (fun t40_7 h_86 => Hp Try.prog true (convert 26 9 t48) (fun u _ => u = t49) h_86 ⟨⟩ ∧ 
                                                                CallsH Try.prog 53 #[b0, (.int .i64 72), (.int .i64 8)] h_86 (fun t42_8 h_87 => Hp Try.prog true (convert 26 9 t48) (fun u _ => u = t49) h_87 ⟨⟩ ∧ 
                                                                  CallsH Try.prog 53 #[b0, (.int .i64 80), (.int .i64 4)] h_87 (fun t44_9 h_88 => Hp Try.prog true (convert 26 9 t48) (fun u _ => u = t49) h_88 ⟨⟩ ∧ 
                                                                    Hp Try.prog true (Instr.build 47 #[(0, t17), (1, t20), (2, t22), (3, t24), (4, t26), (5, t28_1), (6, t30_2), (7, t32_3), (8, t34_4), (9, t36_5), (10, t38_6), (11, t40_7), (12, t42_8), (13, t44_9), (14, t49)]) (fun t50_9 _ => 
                                                                      Hp Try.prog false (storeS 47 h5_9 t50_9) (fun _ h_89 => 
                                                                        k h5_9 h_89) h_88 ⟨⟩) #[] ⟨⟩) ⟨⟩) ⟨⟩) ⟨⟩) ⟨⟩) ⟨⟩) ⟨⟩) ⟨⟩) ⟨⟩) ⟨⟩) h_15 ⟨⟩))) ⟨⟩) ∧ (
                                            Hp Try.prog false (Instr.alloc 47 true undef) (fun h5_10 h_90 => Hp Try.prog true (convert 26 9 t48) (fun u _ => u = t49) h_90 ⟨⟩ ∧ 
                                              CallsH Try.prog 53 #[b0, (.int .i64 32), (.int .i64 4)] h_90 (fun t26_1 h_91 => Hp Try.prog true (convert 26 9 t48) (fun u _ => u = t49) h_91 ⟨⟩ ∧ 
                                                CallsH Try.prog 53 #[b0, (.int .i64 36), (.int .i64 4)] h_91 (fun t28_2 h_92 => Hp Try.prog true (convert 26 9 t48) (fun u _ => u = t49) h_92 ⟨⟩ ∧ 
                                                  CallsH Try.prog 53 #[b0, (.int .i64 40), (.int .i64 8)] h_92 (fun t30_3 h_93 => Hp Try.prog true (convert 26 9 t48) (fun u _ => u = t49) h_93 ⟨⟩ ∧ 
                                                    CallsH Try.prog 53 #[b0, (.int .i64 48), (.int .i64 4)] h_93 (fun t32_4 h_94 => Hp Try.prog true (convert 26 9 t48) (fun u _ => u = t49) h_94 ⟨⟩ ∧ 
                                                      CallsH Try.prog 53 #[b0, (.int .i64 52), (.int .i64 4)] h_94 (fun t34_5 h_95 => Hp Try.prog true (convert 26 9 t48) (fun u _ => u = t49) h_95 ⟨⟩ ∧ 
                                                        CallsH Try.prog 53 #[b0, (.int .i64 56), (.int .i64 8)] h_95 (fun t36_6 h_96 => Hp Try.prog true (convert 26 9 t48) (fun u _ => u = t49) h_96 ⟨⟩ ∧ 
                                                          CallsH Try.prog 53 #[b0, (.int .i64 64), (.int .i64 4)] h_96 (fun t38_7 h_97 => Hp Try.prog true (convert 26 9 t48) (fun u _ => u = t49) h_97 ⟨⟩ ∧ 
                                                            CallsH Try.prog 53 #[b0, (.int .i64 68), (.int .i64 4)] h_97 (fun t40_8 h_98 => Hp Try.prog true (convert 26 9 t48) (fun u _ => u = t49) h_98 ⟨⟩ ∧ 
                                                              CallsH Try.prog 53 #[b0, (.int .i64 72), (.int .i64 8)] h_98 (fun t42_9 h_99 => Hp Try.prog true (convert 26 9 t48) (fun u _ => u = t49) h_99 ⟨⟩ ∧ 
                                                                CallsH Try.prog 53 #[b0, (.int .i64 80), (.int .i64 4)] h_99 (fun t44_10 h_100 => Hp Try.prog true (convert 26 9 t48) (fun u _ => u = t49) h_100 ⟨⟩ ∧ 
                                                                  Hp Try.prog true (Instr.build 47 #[(0, t17), (1, t20), (2, t22), (3, t24), (4, t26_1), (5, t28_2), (6, t30_3), (7, t32_4), (8, t34_5), (9, t36_6), (10, t38_7), (11, t40_8), (12, t42_9), (13, t44_10), (14, t49)]) (fun t50_10 _ => 
                                                                    Hp Try.prog false (storeS 47 h5_10 t50_10) (fun _ h_101 => 
                                                                      k h5_10 h_101) h_100 ⟨⟩) #[] ⟨⟩) ⟨⟩) ⟨⟩) ⟨⟩) ⟨⟩) ⟨⟩) ⟨⟩) ⟨⟩) ⟨⟩) ⟨⟩) ⟨⟩) h_14 ⟨⟩))) ⟨⟩) ∧ (
                                        Hp Try.prog false (Instr.alloc 47 true undef) (fun h5_11 h_102 => Hp Try.prog true (convert 26 9 t48) (fun u _ => u = t49) h_102 ⟨⟩ ∧ 
                                          CallsH Try.prog 53 #[b0, (.int .i64 24), (.int .i64 8)] h_102 (fun t24_1 h_103 => Hp Try.prog true (convert 26 9 t48) (fun u _ => u = t49) h_103 ⟨⟩ ∧ 
                                            CallsH Try.prog 53 #[b0, (.int .i64 32), (.int .i64 4)] h_103 (fun t26_2 h_104 => Hp Try.prog true (convert 26 9 t48) (fun u _ => u = t49) h_104 ⟨⟩ ∧ 
                                              CallsH Try.prog 53 #[b0, (.int .i64 36), (.int .i64 4)] h_104 (fun t28_3 h_105 => Hp Try.prog true (convert 26 9 t48) (fun u _ => u = t49) h_105 ⟨⟩ ∧ 
                                                CallsH Try.prog 53 #[b0, (.int .i64 40), (.int .i64 8)] h_105 (fun t30_4 h_106 => Hp Try.prog true (convert 26 9 t48) (fun u _ => u = t49) h_106 ⟨⟩ ∧ 
                                                  CallsH Try.prog 53 #[b0, (.int .i64 48), (.int .i64 4)] h_106 (fun t32_5 h_107 => Hp Try.prog true (convert 26 9 t48) (fun u _ => u = t49) h_107 ⟨⟩ ∧ 
                                                    CallsH Try.prog 53 #[b0, (.int .i64 52), (.int .i64 4)] h_107 (fun t34_6 h_108 => Hp Try.prog true (convert 26 9 t48) (fun u _ => u = t49) h_108 ⟨⟩ ∧ 
                                                      CallsH Try.prog 53 #[b0, (.int .i64 56), (.int .i64 8)] h_108 (fun t36_7 h_109 => Hp Try.prog true (convert 26 9 t48) (fun u _ => u = t49) h_109 ⟨⟩ ∧ 
                                                        CallsH Try.prog 53 #[b0, (.int .i64 64), (.int .i64 4)] h_109 (fun t38_8 h_110 => Hp Try.prog true (convert 26 9 t48) (fun u _ => u = t49) h_110 ⟨⟩ ∧ 
                                                          CallsH Try.prog 53 #[b0, (.int .i64 68), (.int .i64 4)] h_110 (fun t40_9 h_111 => Hp Try.prog true (convert 26 9 t48) (fun u _ => u = t49) h_111 ⟨⟩ ∧ 
                                                            CallsH Try.prog 53 #[b0, (.int .i64 72), (.int .i64 8)] h_111 (fun t42_10 h_112 => Hp Try.prog true (convert 26 9 t48) (fun u _ => u = t49) h_112 ⟨⟩ ∧ 
                                                              CallsH Try.prog 53 #[b0, (.int .i64 80), (.int .i64 4)] h_112 (fun t44_11 h_113 => Hp Try.prog true (convert 26 9 t48) (fun u _ => u = t49) h_113 ⟨⟩ ∧ 
                                                                Hp Try.prog true (Instr.build 47 #[(0, t17), (1, t20), (2, t22), (3, t24_1), (4, t26_2), (5, t28_3), (6, t30_4), (7, t32_5), (8, t34_6), (9, t36_7), (10, t38_8), (11, t40_9), (12, t42_10), (13, t44_11), (14, t49)]) (fun t50_11 _ => 
                                                                  Hp Try.prog false (storeS 47 h5_11 t50_11) (fun _ h_114 => 
                                                                    k h5_11 h_114) h_113 ⟨⟩) #[] ⟨⟩) ⟨⟩) ⟨⟩) ⟨⟩) ⟨⟩) ⟨⟩) ⟨⟩) ⟨⟩) ⟨⟩) ⟨⟩) ⟨⟩) ⟨⟩) h_13 ⟨⟩))) ⟨⟩) ∧ (
                                    Hp Try.prog false (Instr.alloc 47 true undef) (fun h5_12 h_115 => Hp Try.prog true (convert 26 9 t48) (fun u _ => u = t49) h_115 ⟨⟩ ∧ 
                                      CallsH Try.prog 53 #[b0, (.int .i64 16), (.int .i64 8)] h_115 (fun t22_1 h_116 => Hp Try.prog true (convert 26 9 t48) (fun u _ => u = t49) h_116 ⟨⟩ ∧ 
                                        CallsH Try.prog 53 #[b0, (.int .i64 24), (.int .i64 8)] h_116 (fun t24_2 h_117 => Hp Try.prog true (convert 26 9 t48) (fun u _ => u = t49) h_117 ⟨⟩ ∧ 
                                          CallsH Try.prog 53 #[b0, (.int .i64 32), (.int .i64 4)] h_117 (fun t26_3 h_118 => Hp Try.prog true (convert 26 9 t48) (fun u _ => u = t49) h_118 ⟨⟩ ∧ 
                                            CallsH Try.prog 53 #[b0, (.int .i64 36), (.int .i64 4)] h_118 (fun t28_4 h_119 => Hp Try.prog true (convert 26 9 t48) (fun u _ => u = t49) h_119 ⟨⟩ ∧ 
                                              CallsH Try.prog 53 #[b0, (.int .i64 40), (.int .i64 8)] h_119 (fun t30_5 h_120 => Hp Try.prog true (convert 26 9 t48) (fun u _ => u = t49) h_120 ⟨⟩ ∧ 
                                                CallsH Try.prog 53 #[b0, (.int .i64 48), (.int .i64 4)] h_120 (fun t32_6 h_121 => Hp Try.prog true (convert 26 9 t48) (fun u _ => u = t49) h_121 ⟨⟩ ∧ 
                                                  CallsH Try.prog 53 #[b0, (.int .i64 52), (.int .i64 4)] h_121 (fun t34_7 h_122 => Hp Try.prog true (convert 26 9 t48) (fun u _ => u = t49) h_122 ⟨⟩ ∧ 
                                                    CallsH Try.prog 53 #[b0, (.int .i64 56), (.int .i64 8)] h_122 (fun t36_8 h_123 => Hp Try.prog true (convert 26 9 t48) (fun u _ => u = t49) h_123 ⟨⟩ ∧ 
                                                      CallsH Try.prog 53 #[b0, (.int .i64 64), (.int .i64 4)] h_123 (fun t38_9 h_124 => Hp Try.prog true (convert 26 9 t48) (fun u _ => u = t49) h_124 ⟨⟩ ∧ 
                                                        CallsH Try.prog 53 #[b0, (.int .i64 68), (.int .i64 4)] h_124 (fun t40_10 h_125 => Hp Try.prog true (convert 26 9 t48) (fun u _ => u = t49) h_125 ⟨⟩ ∧ 
                                                          CallsH Try.prog 53 #[b0, (.int .i64 72), (.int .i64 8)] h_125 (fun t42_11 h_126 => Hp Try.prog true (convert 26 9 t48) (fun u _ => u = t49) h_126 ⟨⟩ ∧ 
                                                            CallsH Try.prog 53 #[b0, (.int .i64 80), (.int .i64 4)] h_126 (fun t44_12 h_127 => Hp Try.prog true (convert 26 9 t48) (fun u _ => u = t49) h_127 ⟨⟩ ∧ 
                                                              Hp Try.prog true (Instr.build 47 #[(0, t17), (1, t20), (2, t22_1), (3, t24_2), (4, t26_3), (5, t28_4), (6, t30_5), (7, t32_6), (8, t34_7), (9, t36_8), (10, t38_9), (11, t40_10), (12, t42_11), (13, t44_12), (14, t49)]) (fun t50_12 _ => 
                                                                Hp Try.prog false (storeS 47 h5_12 t50_12) (fun _ h_128 => 
                                                                  k h5_12 h_128) h_127 ⟨⟩) #[] ⟨⟩) ⟨⟩) ⟨⟩) ⟨⟩) ⟨⟩) ⟨⟩) ⟨⟩) ⟨⟩) ⟨⟩) ⟨⟩) ⟨⟩) ⟨⟩) ⟨⟩) h_12 ⟨⟩))) ⟨⟩) ∧ (
                                Hp Try.prog false (Instr.alloc 47 true undef) (fun h5_13 h_129 => Hp Try.prog true (convert 26 9 t48) (fun u _ => u = t49) h_129 ⟨⟩ ∧ 
                                  CallsH Try.prog 54 #[t19] h_129 (fun t20_1 h_130 => Hp Try.prog true (convert 26 9 t48) (fun u _ => u = t49) h_130 ⟨⟩ ∧ 
                                    CallsH Try.prog 53 #[b0, (.int .i64 16), (.int .i64 8)] h_130 (fun t22_2 h_131 => Hp Try.prog true (convert 26 9 t48) (fun u _ => u = t49) h_131 ⟨⟩ ∧ 
                                      CallsH Try.prog 53 #[b0, (.int .i64 24), (.int .i64 8)] h_131 (fun t24_3 h_132 => Hp Try.prog true (convert 26 9 t48) (fun u _ => u = t49) h_132 ⟨⟩ ∧ 
                                        CallsH Try.prog 53 #[b0, (.int .i64 32), (.int .i64 4)] h_132 (fun t26_4 h_133 => Hp Try.prog true (convert 26 9 t48) (fun u _ => u = t49) h_133 ⟨⟩ ∧ 
                                          CallsH Try.prog 53 #[b0, (.int .i64 36), (.int .i64 4)] h_133 (fun t28_5 h_134 => Hp Try.prog true (convert 26 9 t48) (fun u _ => u = t49) h_134 ⟨⟩ ∧ 
                                            CallsH Try.prog 53 #[b0, (.int .i64 40), (.int .i64 8)] h_134 (fun t30_6 h_135 => Hp Try.prog true (convert 26 9 t48) (fun u _ => u = t49) h_135 ⟨⟩ ∧ 
                                              CallsH Try.prog 53 #[b0, (.int .i64 48), (.int .i64 4)] h_135 (fun t32_7 h_136 => Hp Try.prog true (convert 26 9 t48) (fun u _ => u = t49) h_136 ⟨⟩ ∧ 
                                                CallsH Try.prog 53 #[b0, (.int .i64 52), (.int .i64 4)] h_136 (fun t34_8 h_137 => Hp Try.prog true (convert 26 9 t48) (fun u _ => u = t49) h_137 ⟨⟩ ∧ 
                                                  CallsH Try.prog 53 #[b0, (.int .i64 56), (.int .i64 8)] h_137 (fun t36_9 h_138 => Hp Try.prog true (convert 26 9 t48) (fun u _ => u = t49) h_138 ⟨⟩ ∧ 
                                                    CallsH Try.prog 53 #[b0, (.int .i64 64), (.int .i64 4)] h_138 (fun t38_10 h_139 => Hp Try.prog true (convert 26 9 t48) (fun u _ => u = t49) h_139 ⟨⟩ ∧ 
                                                      CallsH Try.prog 53 #[b0, (.int .i64 68), (.int .i64 4)] h_139 (fun t40_11 h_140 => Hp Try.prog true (convert 26 9 t48) (fun u _ => u = t49) h_140 ⟨⟩ ∧ 
                                                        CallsH Try.prog 53 #[b0, (.int .i64 72), (.int .i64 8)] h_140 (fun t42_12 h_141 => Hp Try.prog true (convert 26 9 t48) (fun u _ => u = t49) h_141 ⟨⟩ ∧ 
                                                          CallsH Try.prog 53 #[b0, (.int .i64 80), (.int .i64 4)] h_141 (fun t44_13 h_142 => Hp Try.prog true (convert 26 9 t48) (fun u _ => u = t49) h_142 ⟨⟩ ∧ 
                                                            Hp Try.prog true (Instr.build 47 #[(0, t17), (1, t20_1), (2, t22_2), (3, t24_3), (4, t26_4), (5, t28_5), (6, t30_6), (7, t32_7), (8, t34_8), (9, t36_9), (10, t38_10), (11, t40_11), (12, t42_12), (13, t44_13), (14, t49)]) (fun t50_13 _ => 
                                                              Hp Try.prog false (storeS 47 h5_13 t50_13) (fun _ h_143 => 
                                                                k h5_13 h_143) h_142 ⟨⟩) #[] ⟨⟩) ⟨⟩) ⟨⟩) ⟨⟩) ⟨⟩) ⟨⟩) ⟨⟩) ⟨⟩) ⟨⟩) ⟨⟩) ⟨⟩) ⟨⟩) ⟨⟩) ⟨⟩) h_11 ⟨⟩))) ⟨⟩) ∧ (
                            Hp Try.prog false (Instr.alloc 47 true undef) (fun h5_14 h_144 => Hp Try.prog true (convert 26 9 t48) (fun u _ => u = t49) h_144 ⟨⟩ ∧ 
                              CallsH Try.prog 53 #[b0, (.int .i64 4), (.int .i64 4)] h_144 (fun t17_1 h_145 => Hp Try.prog true (convert 26 9 t48) (fun u _ => u = t49) h_145 ⟨⟩ ∧ 
                                CallsH Try.prog 54 #[t19] h_145 (fun t20_2 h_146 => Hp Try.prog true (convert 26 9 t48) (fun u _ => u = t49) h_146 ⟨⟩ ∧ 
                                  CallsH Try.prog 53 #[b0, (.int .i64 16), (.int .i64 8)] h_146 (fun t22_3 h_147 => Hp Try.prog true (convert 26 9 t48) (fun u _ => u = t49) h_147 ⟨⟩ ∧ 
                                    CallsH Try.prog 53 #[b0, (.int .i64 24), (.int .i64 8)] h_147 (fun t24_4 h_148 => Hp Try.prog true (convert 26 9 t48) (fun u _ => u = t49) h_148 ⟨⟩ ∧ 
                                      CallsH Try.prog 53 #[b0, (.int .i64 32), (.int .i64 4)] h_148 (fun t26_5 h_149 => Hp Try.prog true (convert 26 9 t48) (fun u _ => u = t49) h_149 ⟨⟩ ∧ 
                                        CallsH Try.prog 53 #[b0, (.int .i64 36), (.int .i64 4)] h_149 (fun t28_6 h_150 => Hp Try.prog true (convert 26 9 t48) (fun u _ => u = t49) h_150 ⟨⟩ ∧ 
                                          CallsH Try.prog 53 #[b0, (.int .i64 40), (.int .i64 8)] h_150 (fun t30_7 h_151 => Hp Try.prog true (convert 26 9 t48) (fun u _ => u = t49) h_151 ⟨⟩ ∧ 
                                            CallsH Try.prog 53 #[b0, (.int .i64 48), (.int .i64 4)] h_151 (fun t32_8 h_152 => Hp Try.prog true (convert 26 9 t48) (fun u _ => u = t49) h_152 ⟨⟩ ∧ 
                                              CallsH Try.prog 53 #[b0, (.int .i64 52), (.int .i64 4)] h_152 (fun t34_9 h_153 => Hp Try.prog true (convert 26 9 t48) (fun u _ => u = t49) h_153 ⟨⟩ ∧ 
                                                CallsH Try.prog 53 #[b0, (.int .i64 56), (.int .i64 8)] h_153 (fun t36_10 h_154 => Hp Try.prog true (convert 26 9 t48) (fun u _ => u = t49) h_154 ⟨⟩ ∧ 
                                                  CallsH Try.prog 53 #[b0, (.int .i64 64), (.int .i64 4)] h_154 (fun t38_11 h_155 => Hp Try.prog true (convert 26 9 t48) (fun u _ => u = t49) h_155 ⟨⟩ ∧ 
                                                    CallsH Try.prog 53 #[b0, (.int .i64 68), (.int .i64 4)] h_155 (fun t40_12 h_156 => Hp Try.prog true (convert 26 9 t48) (fun u _ => u = t49) h_156 ⟨⟩ ∧ 
                                                      CallsH Try.prog 53 #[b0, (.int .i64 72), (.int .i64 8)] h_156 (fun t42_13 h_157 => Hp Try.prog true (convert 26 9 t48) (fun u _ => u = t49) h_157 ⟨⟩ ∧ 
                                                        CallsH Try.prog 53 #[b0, (.int .i64 80), (.int .i64 4)] h_157 (fun t44_14 h_158 => Hp Try.prog true (convert 26 9 t48) (fun u _ => u = t49) h_158 ⟨⟩ ∧ 
                                                          Hp Try.prog true (Instr.build 47 #[(0, t17_1), (1, t20_2), (2, t22_3), (3, t24_4), (4, t26_5), (5, t28_6), (6, t30_7), (7, t32_8), (8, t34_9), (9, t36_10), (10, t38_11), (11, t40_12), (12, t42_13), (13, t44_14), (14, t49)]) (fun t50_14 _ => 
                                                            Hp Try.prog false (storeS 47 h5_14 t50_14) (fun _ h_159 => 
                                                              k h5_14 h_159) h_158 ⟨⟩) #[] ⟨⟩) ⟨⟩) ⟨⟩) ⟨⟩) ⟨⟩) ⟨⟩) ⟨⟩) ⟨⟩) ⟨⟩) ⟨⟩) ⟨⟩) ⟨⟩) ⟨⟩) ⟨⟩) ⟨⟩) h_10 ⟨⟩))) h_10 ⟨⟩) #[] ⟨⟩) #[] ⟨⟩) #[] ⟨⟩)
                  (fun h5_15 h_160 =>
                  Hp Try.prog false (Instr.loadAt 47 h5_15) (fun t51 h_161 => 
                    CallsH Try.prog 22 #[t51] h_161 (fun t52 h_162 => 
                      Hp Try.prog true (Op.unary .not t52) (fun t54 _ => 
                        Join1 (fun k_1 h_163 => guardP t54 false (Hp Try.prog true (Instr.loadAt 47 h5_15) k_1 h_163 ⟨⟩) (k_1 undef h_163) ⟨⟩ ⟨⟩) (fun t56 _ => 
                          Join1 (fun k_2 h_164 => guardP t54 false (k_2 b0 h_164) (k_2 undef h_164) ⟨⟩ ⟨⟩) (fun t59 _ => 
                            Join1 (fun k_3 h_165 => guardP t54 false (Hp Try.prog true (Instr.sliceAt 26 t59 none (some (.int .i64 512)) none) k_3 h_165 ⟨⟩) (k_3 undef h_165) ⟨⟩ ⟨⟩) (fun t60 _ => 
                              Join1 (fun k_4 h_166 => guardP t54 false (Hp Try.prog true (convert 26 9 t60) k_4 h_166 ⟨⟩) (k_4 undef h_166) ⟨⟩ ⟨⟩) (fun t61 _ => 
                                Join1 (fun k_5 h_167 => guardP t54 false (CallsH Try.prog 27 #[t56] h_167 k_5 ⟨⟩) (k_5 undef h_167) ⟨⟩ ⟨⟩) (fun t57 h_168 => Join1 (fun k h => guardP t54 false (Hp Try.prog true (convert 26 9 t60) k h ⟨⟩) (k undef h) ⟨⟩ ⟨⟩) (fun u _ => u = t61) h_168 ⟨⟩ ⟨⟩ ∧ 
                                  Join1 (fun k_6 h_169 => guardP t54 false (Hp Try.prog true (convert 26 9 t57) k_6 h_169 ⟨⟩) (k_6 undef h_169) ⟨⟩ ⟨⟩) (fun t58 _ => 
                                    Join1 (fun k_7 h_170 => guardP t54 false (Hp Try.prog true (binS .neq 9 (.tmp 58) (.tmp 61) t58 t61) k_7 h_170 ⟨⟩) (k_7 undef h_170) ⟨⟩ ⟨⟩) (fun t62 _ => 
                                      Hp Try.prog true (pickS t54 (.bool true) t62) (fun t63 _ => 
                                        CondP t63 (
                                          Hp Try.prog false (Instr.build 47 #[]) (fun t64 h_171 => 
                                            Hp Try.prog false (storeS 47 t2 t64) (fun _ h_172 => 
                                              Hp Try.prog true (loadCell 47 t2) (fun r_2 _ =>
                                                R (.tuple #[r_2, (.bool false)]) h_172) h_172 ⟨⟩) h_171 ⟨⟩) h_168 ⟨⟩) (
                                          Hp Try.prog false (Instr.loadAt 47 h5_15) (fun t65 h_173 => 
                                            Hp Try.prog false (storeS 47 t2 t65) (fun _ h_174 => 
                                              Hp Try.prog true (loadCell 47 t2) (fun r_3 _ =>
                                                R (.tuple #[r_3, (.bool true)]) h_174) h_174 ⟨⟩) h_173 ⟨⟩) h_168 ⟨⟩) ⟨⟩ ⟨⟩) #[] ⟨⟩) #[] ⟨⟩ ⟨⟩) h_168 ⟨⟩ ⟨⟩) h_162 ⟨⟩ ⟨⟩) h_162 ⟨⟩ ⟨⟩) #[] ⟨⟩ ⟨⟩) #[] ⟨⟩ ⟨⟩) h_162 ⟨⟩ ⟨⟩) #[] ⟨⟩) ⟨⟩) h_160 ⟨⟩) h_7 ⟨⟩ ⟨⟩) ⟨⟩ ⟨⟩) h_6 ⟨⟩) ⟨⟩) ⟨⟩ ⟨⟩) h_2 ⟨⟩) h_1 ⟨⟩) h ⟨⟩

theorem n19_calls {b0 : Value} {R : Value → Heap → Prop} {h : Heap} (H : n19 b0 R h) : CallsH Try.prog 19 #[b0] h R ⟨⟩ :=
  callsH_of_eq Try.follow (.n none .l (.n none .l (.n none .l (.n none .l (.n (some [6]) .l .l))))) Try.func19 (by kernel_rfl) (by kernel_rfl) (by kernel_rfl) H

/-- palimpsest/head.Bytes -/
def n20 (h0 : Value) (R : Value → Heap → Prop) (h : Heap) : Prop :=
  Hp Try.prog false (Instr.box 47 h0) (fun h1 h_1 => 
    Hp Try.prog false (Instr.loadAt 47 h1) (fun t7 h_2 => 
      CallsH Try.prog 21 #[t7] h_2 (fun t8 h_3 => 
        Hp Try.prog false (binS .neq 27 (.tmp 8) (.const (.int .i64 0)) t8 (.int .i64 0)) (fun t9 h_4 => 
          CondP t9 (
            R (.tuple #[(.slice none 0 0), (.int .i64 2)]) h_4) (
            Hp Try.prog false (Instr.makeSlice 26 (.int .i64 512) (.int .i64 512)) (fun t10 h_5 => 
              Hp Try.prog false (Builtin.copy_ #[26, 9] 3 #[t10, (str [80, 65, 76, 49])]) (fun t12 h_6 => 
                Hp Try.prog false (Instr.loadAt 47 h1) (fun t13 h_7 => 
                  CallsH Try.prog 55 #[t13] h_7 (fun t14 h_8 => 
                    Hp Try.prog false (Builtin.len_ #[88] 3 #[t14]) (fun t15 h_9 => 
                      LoopC 1 (fun (X : Value → Heap → Prop) => fun t16 h_10 =>
                        Hp Try.prog false (binS .lss 3 (.tmp 16) (.tmp 15) t16 t15) (fun t17 h_11 => 
                          CondP t17 (
                            Hp Try.prog false (Instr.indexAt 88 t14 t16) (fun t18 h_12 => 
                              Hp Try.prog false (Instr.loadAt 91 t18) (fun t19 h_13 => 
                                Hp Try.prog false (Instr.alloc 91 true undef) (fun f6 h_14 => 
                                  Hp Try.prog false (storeS 91 f6 t19) (fun _ h_15 => 
                                    Hp Try.prog false (Instr.fieldAt 91 f6 0) (fun t21 h_16 => 
                                      Hp Try.prog false (Instr.loadAt 3 t21) (fun t22 h_17 => 
                                        Hp Try.prog false (Instr.fieldAt 91 f6 1) (fun t23 h_18 => 
                                          Hp Try.prog false (Instr.loadAt 3 t23) (fun t24 h_19 => 
                                            Hp Try.prog false (Instr.fieldAt 91 f6 2) (fun t25 h_20 => 
                                              Hp Try.prog false (Instr.loadAt 45 t25) (fun t26 h_21 => 
                                                CallsH Try.prog 56 #[t10, t22, t24, t26] h_21 (fun t27 h_22 => 
                                                  Hp Try.prog false (binS .add 3 (.tmp 16) (.const (.int .i64 1)) t16 (.int .i64 1)) (fun t28 h_23 => 
                                                    X t28 h_23) h_22 ⟨⟩) ⟨⟩) h_20 ⟨⟩) h_19 ⟨⟩) h_18 ⟨⟩) h_17 ⟨⟩) h_16 ⟨⟩) h_15 ⟨⟩) h_14 ⟨⟩) h_13 ⟨⟩) h_12 ⟨⟩) h_11 ⟨⟩) (
                            Hp Try.prog false (Instr.fieldAt 47 h1 14) (fun t30 h_24 => 
                              Hp Try.prog false (Instr.loadAt 9 t30) (fun t31 h_25 => 
                                CallsH Try.prog 57 #[t10, (.int .i64 84), (.int .i64 64), t31] h_25 (fun t32 h_26 => 
                                  R (.tuple #[t10, (.int .i64 0)]) h_26) ⟨⟩) h_24 ⟨⟩) h_11 ⟨⟩) ⟨⟩ ⟨⟩) h_10 ⟨⟩) [(.int .i64 0)] h_9 ⟨⟩) h_8 ⟨⟩) ⟨⟩) h_6 ⟨⟩) h_5 ⟨⟩) h_4 ⟨⟩) ⟨⟩ ⟨⟩) h_3 ⟨⟩) ⟨⟩) h_1 ⟨⟩) h ⟨⟩

theorem n20_calls {h0 : Value} {R : Value → Heap → Prop} {h : Heap} (H : n20 h0 R h) : CallsH Try.prog 20 #[h0] h R ⟨⟩ :=
  callsH_of_eq Try.follow (.n none .l (.n none .l (.n none .l (.n none .l (.n none (.n none .l (.n none (.n (some [17]) .l .l) .l)) .l))))) Try.func20 (by kernel_rfl) (by kernel_rfl) (by kernel_rfl) H

/-- palimpsest/head.Check -/
def n21 (h0 : Value) (R : Value → Heap → Prop) (h : Heap) : Prop :=
  Hp Try.prog false (Instr.box 47 h0) (fun h1 h_1 => 
    Hp Try.prog false (Instr.fieldAt 47 h1 0) (fun t9 h_2 => 
      Hp Try.prog false (Instr.loadAt 3 t9) (fun t10 h_3 => 
        Hp Try.prog false (binS .lss 3 (.tmp 10) (.const (.int .i64 9)) t10 (.int .i64 9)) (fun t11 h_4 => 
          Join1 (fun k h_5 => guardP t11 false (Hp Try.prog false (Instr.fieldAt 47 h1 0) k h_5 ⟨⟩) (k undef h_5) ⟨⟩ ⟨⟩) (fun t13 h_6 => 
            Join1 (fun k_1 h_7 => guardP t11 false (Hp Try.prog false (Instr.loadAt 3 t13) k_1 h_7 ⟨⟩) (k_1 undef h_7) ⟨⟩ ⟨⟩) (fun t14 h_8 => 
              Join1 (fun k_2 h_9 => guardP t11 false (Hp Try.prog false (binS .gtr 3 (.tmp 14) (.const (.int .i64 16)) t14 (.int .i64 16)) k_2 h_9 ⟨⟩) (k_2 undef h_9) ⟨⟩ ⟨⟩) (fun t15 h_10 => 
                Hp Try.prog false (pickS t11 (.bool true) t15) (fun t16 h_11 => 
                  Join1 (fun k_3 h_12 => guardP t16 false (Hp Try.prog false (Instr.fieldAt 47 h1 1) k_3 h_12 ⟨⟩) (k_3 undef h_12) ⟨⟩ ⟨⟩) (fun t18 h_13 => 
                    Join1 (fun k_4 h_14 => guardP t16 false (Hp Try.prog false (Instr.loadAt 45 t18) k_4 h_14 ⟨⟩) (k_4 undef h_14) ⟨⟩ ⟨⟩) (fun t19 h_15 => 
                      Join1 (fun k_5 h_16 => guardP t16 false (Hp Try.prog false (binS .gtr 45 (.tmp 19) (.const (.int .u64 1)) t19 (.int .u64 1)) k_5 h_16 ⟨⟩) (k_5 undef h_16) ⟨⟩ ⟨⟩) (fun t20 h_17 => 
                        Hp Try.prog false (pickS t16 (.bool true) t20) (fun t21 h_18 => 
                          Join1 (fun k_6 h_19 => guardP t21 false (Hp Try.prog false (Instr.fieldAt 47 h1 2) k_6 h_19 ⟨⟩) (k_6 undef h_19) ⟨⟩ ⟨⟩) (fun t23 h_20 => 
                            Join1 (fun k_7 h_21 => guardP t21 false (Hp Try.prog false (Instr.loadAt 2 t23) k_7 h_21 ⟨⟩) (k_7 undef h_21) ⟨⟩ ⟨⟩) (fun t24 h_22 => 
                              Join1 (fun k_8 h_23 => guardP t21 false (Hp Try.prog false (binS .lss 2 (.tmp 24) (.const (.int .i64 0)) t24 (.int .i64 0)) k_8 h_23 ⟨⟩) (k_8 undef h_23) ⟨⟩ ⟨⟩) (fun t25 h_24 => 
                                Hp Try.prog false (pickS t21 (.bool true) t25) (fun t26 h_25 => 
                                  Join1 (fun k_9 h_26 => guardP t26 false (Hp Try.prog false (Instr.fieldAt 47 h1 2) k_9 h_26 ⟨⟩) (k_9 undef h_26) ⟨⟩ ⟨⟩) (fun t28 h_27 => 
                                    Join1 (fun k_10 h_28 => guardP t26 false (Hp Try.prog false (Instr.loadAt 2 t28) k_10 h_28 ⟨⟩) (k_10 undef h_28) ⟨⟩ ⟨⟩) (fun t29 h_29 => 
                                      Join1 (fun k_11 h_30 => guardP t26 false (Hp Try.prog false (binS .gtr 2 (.tmp 29) (.const (.int .i64 67108864)) t29 (.int .i64 67108864)) k_11 h_30 ⟨⟩) (k_11 undef h_30) ⟨⟩ ⟨⟩) (fun t30 h_31 => 
                                        Hp Try.prog false (pickS t26 (.bool true) t30) (fun t31 h_32 => 
                                          Join1 (fun k_12 h_33 => guardP t31 false (Hp Try.prog false (Instr.fieldAt 47 h1 2) k_12 h_33 ⟨⟩) (k_12 undef h_33) ⟨⟩ ⟨⟩) (fun t33 h_34 => 
                                            Join1 (fun k_13 h_35 => guardP t31 false (Hp Try.prog false (Instr.loadAt 2 t33) k_13 h_35 ⟨⟩) (k_13 undef h_35) ⟨⟩ ⟨⟩) (fun t34 h_36 => 
                                              Join1 (fun k_14 h_37 => guardP t31 false (Hp Try.prog false (binS .rem 2 (.tmp 34) (.const (.int .i64 512)) t34 (.int .i64 512)) k_14 h_37 ⟨⟩) (k_14 undef h_37) ⟨⟩ ⟨⟩) (fun t35 h_38 => 
                                                Join1 (fun k_15 h_39 => guardP t31 false (Hp Try.prog false (binS .neq 2 (.tmp 35) (.const (.int .i64 0)) t35 (.int .i64 0)) k_15 h_39 ⟨⟩) (k_15 undef h_39) ⟨⟩ ⟨⟩) (fun t36 h_40 => 
                                                  Hp Try.prog false (pickS t31 (.bool true) t36) (fun t37 h_41 => 
                                                    CondP t37 (
                                                      R (.int .i64 2) h_41) (
                                                      Hp Try.prog false (Instr.fieldAt 47 h1 0) (fun t38 h_42 => 
                                                        Hp Try.prog false (Instr.loadAt 3 t38) (fun t39 h_43 => 
                                                          Hp Try.prog false (binS .shl 2 (.const (.int .i64 1)) (.tmp 39) (.int .i64 1) t39) (fun t40 h_44 => 
                                                            Hp Try.prog false (Instr.alloc 2 true undef) (fun c3 h_45 => 
                                                              Hp Try.prog false (storeS 2 c3 t40) (fun _ h_46 => 
                                                                Hp Try.prog false (pure (.func (.func 58) #[] #[c3])) (fun t41 h_47 => 
                                                                  Hp Try.prog false (Instr.alloc 94 true undef) (fun place4 h_48 => 
                                                                    Hp Try.prog false (storeS 94 place4 t41) (fun _ h_49 => 
                                                                      Hp Try.prog false (pure (.func (.func 59) #[] #[place4])) (fun t42 h_50 => 
                                                                        JoinN 1 (fun (k_16 : Value → Heap → Prop) h_51 =>
                                                                          Hp Try.prog true (Instr.fieldAt 47 h1 4) (fun t43 _ => 
                                                                            Hp Try.prog true (Instr.loadAt 3 t43) (fun t44 _ => 
                                                                              Hp Try.prog true (binS .geq 3 (.tmp 44) (.const (.int .i64 0)) t44 (.int .i64 0)) (fun t45 _ => 
                                                                                Join1 (fun k_17 h_52 => guardP t45 true (Hp Try.prog true (Instr.fieldAt 47 h1 4) k_17 h_52 ⟨⟩) (k_17 undef h_52) ⟨⟩ ⟨⟩) (fun t47 _ => 
                                                                                  Join1 (fun k_18 h_53 => guardP t45 true (Hp Try.prog true (Instr.loadAt 3 t47) k_18 h_53 ⟨⟩) (k_18 undef h_53) ⟨⟩ ⟨⟩) (fun t48 _ => 
                                                                                    Join1 (fun k_19 h_54 => guardP t45 true (Hp Try.prog true (binS .leq 3 (.tmp 48) (.const (.int .i64 1048576)) t48 (.int .i64 1048576)) k_19 h_54 ⟨⟩) (k_19 undef h_54) ⟨⟩ ⟨⟩) (fun t49 _ => 
                                                                                      Hp Try.prog true (pickS t45 t49 (.bool false)) (fun t50 _ => 
                                                                                        Join1 (fun k_20 h_55 => guardP t50 true (Hp Try.prog true (Instr.fieldAt 47 h1 4) k_20 h_55 ⟨⟩) (k_20 undef h_55) ⟨⟩ ⟨⟩) (fun t52 _ => 
                                                                                          Join1 (fun k_21 h_56 => guardP t50 true (Hp Try.prog true (Instr.loadAt 3 t52) k_21 h_56 ⟨⟩) (k_21 undef h_56) ⟨⟩ ⟨⟩) (fun t53 _ => 
                                                                                            Join1 (fun k_22 h_57 => guardP t50 true (Hp Try.prog true (Instr.loadAt 47 h1) k_22 h_57 ⟨⟩) (k_22 undef h_57) ⟨⟩ ⟨⟩) (fun t54 _ => 
                                                                                              Hp Try.prog true (Instr.fieldAt 47 h1 4) (fun t58 _ => 
                                                                                                Hp Try.prog true (Instr.loadAt 3 t58) (fun t59 _ => 
                                                                                                  Hp Try.prog true (binS .eql 3 (.tmp 59) (.const (.int .i64 0)) t59 (.int .i64 0)) (fun t60 _ => 
                                                                                                    Hp Try.prog true (Instr.fieldAt 47 h1 5) (fun t77 _ => 
                                                                                                      Hp Try.prog true (Instr.loadAt 3 t77) (fun t78 _ => 
                                                                                                        Hp Try.prog true (binS .geq 3 (.tmp 78) (.const (.int .i64 0)) t78 (.int .i64 0)) (fun t79 _ => 
                                                                                                          Hp Try.prog true (Instr.loadAt 94 place4) (fun t85 _ => 
                                                                                                            Hp Try.prog true (Instr.fieldAt 47 h1 6) (fun t86 _ => 
                                                                                                              Hp Try.prog true (Instr.loadAt 2 t86) (fun t87 _ => 
                                                                                                                Hp Try.prog true (Instr.fieldAt 47 h1 8) (fun t100 _ => 
                                                                                                                  Hp Try.prog true (Instr.loadAt 3 t100) (fun t101 _ => 
                                                                                                                    Hp Try.prog true (Instr.fieldAt 47 h1 9) (fun t102 _ => 
                                                                                                                      Hp Try.prog true (Instr.loadAt 2 t102) (fun t103 _ => 
                                                                                                                        Hp Try.prog true (Instr.fieldAt 47 h1 10) (fun t104 _ => 
                                                                                                                          Hp Try.prog true (Instr.loadAt 3 t104) (fun t105 _ => 
                                                                                                                            Hp Try.prog true (Instr.fieldAt 47 h1 11) (fun t108 _ => 
                                                                                                                              Hp Try.prog true (Instr.loadAt 3 t108) (fun t109 _ => 
                                                                                                                                Hp Try.prog true (Instr.fieldAt 47 h1 12) (fun t110 _ => 
                                                                                                                                  Hp Try.prog true (Instr.loadAt 2 t110) (fun t111 _ => 
                                                                                                                                    Hp Try.prog true (Instr.fieldAt 47 h1 13) (fun t112 _ => 
                                                                                                                                      Hp Try.prog true (Instr.loadAt 3 t112) (fun t113 _ => 
                                                                                                                                        Hp Try.prog true (Instr.fieldAt 47 h1 14) (fun t115 _ => 
                                                                                                                                          Hp Try.prog true (Instr.loadAt 9 t115) (fun t116 _ => 
                                                                                                                                            Hp Try.prog true (Builtin.len_ #[9] 3 #[t116]) (fun t117 _ => 
                                                                                                                                              Hp Try.prog true (binS .leq 3 (.tmp 117) (.const (.int .i64 64)) t117 (.int .i64 64)) (fun t118 _ => 
                                                                                                                                                Join1 (fun k_23 h_58 => guardP t50 true (CallsH Try.prog 60 #[t54] h_58 k_23 ⟨⟩) (k_23 undef h_58) ⟨⟩ ⟨⟩) (fun t55 h_59 => Hp Try.prog true (Instr.loadAt 9 t115) (fun u _ => u = t116) h_59 ⟨⟩ ∧ Hp Try.prog true (Instr.loadAt 3 t112) (fun u _ => u = t113) h_59 ⟨⟩ ∧ Hp Try.prog true (Instr.loadAt 2 t110) (fun u _ => u = t111) h_59 ⟨⟩ ∧ Hp Try.prog true (Instr.loadAt 3 t108) (fun u _ => u = t109) h_59 ⟨⟩ ∧ Hp Try.prog true (Instr.loadAt 3 t104) (fun u _ => u = t105) h_59 ⟨⟩ ∧ Hp Try.prog true (Instr.loadAt 2 t102) (fun u _ => u = t103) h_59 ⟨⟩ ∧ Hp Try.prog true (Instr.loadAt 3 t100) (fun u _ => u = t101) h_59 ⟨⟩ ∧ Hp Try.prog true (Instr.loadAt 2 t86) (fun u _ => u = t87) h_59 ⟨⟩ ∧ Hp Try.prog true (Instr.loadAt 94 place4) (fun u _ => u = t85) h_59 ⟨⟩ ∧ Hp Try.prog true (Instr.loadAt 3 t77) (fun u _ => u = t78) h_59 ⟨⟩ ∧ Hp Try.prog true (Instr.loadAt 3 t58) (fun u _ => u = t59) h_59 ⟨⟩ ∧ Join1 (fun k h => guardP t50 true (Hp Try.prog true (Instr.loadAt 3 t52) k h ⟨⟩) (k undef h) ⟨⟩ ⟨⟩) (fun u _ => u = t53) h_59 ⟨⟩ ⟨⟩ ∧ 
                                                                                                                                                  Join1 (fun k_24 h_60 => guardP t50 true (Hp Try.prog true (binS .geq 2 (.tmp 53) (.tmp 55) t53 t55) k_24 h_60 ⟨⟩) (k_24 undef h_60) ⟨⟩ ⟨⟩) (fun t56 _ => 
                                                                                                                                                    Hp Try.prog true (pickS t50 t56 (.bool false)) (fun t57 _ => 
                                                                                                                                                      Join1 (fun k_25 h_61 => guardP t60 true (Hp Try.prog true (Instr.fieldAt 47 h1 3) k_25 h_61 ⟨⟩) (k_25 undef h_61) ⟨⟩ ⟨⟩) (fun t62 _ => 
                                                                                                                                                        Join1 (fun k_26 h_62 => guardP t60 true (Hp Try.prog true (Instr.loadAt 2 t62) k_26 h_62 ⟨⟩) (k_26 undef h_62) ⟨⟩ ⟨⟩) (fun t63 _ => 
                                                                                                                                                          Join1 (fun k_27 h_63 => guardP t60 true (Hp Try.prog true (binS .eql 2 (.tmp 63) (.const (.int .i64 0)) t63 (.int .i64 0)) k_27 h_63 ⟨⟩) (k_27 undef h_63) ⟨⟩ ⟨⟩) (fun t64 _ => 
                                                                                                                                                            Hp Try.prog true (pickS t60 t64 (.bool false)) (fun t65 _ => 
                                                                                                                                                              Join1 (fun k_28 h_64 => guardP t65 false (Hp Try.prog true (Instr.fieldAt 47 h1 4) k_28 h_64 ⟨⟩) (k_28 undef h_64) ⟨⟩ ⟨⟩) (fun t67 _ => 
                                                                                                                                                                Join1 (fun k_29 h_65 => guardP t65 false (Hp Try.prog true (Instr.loadAt 3 t67) k_29 h_65 ⟨⟩) (k_29 undef h_65) ⟨⟩ ⟨⟩) (fun t68 _ => 
                                                                                                                                                                  Join1 (fun k_30 h_66 => guardP t65 false (Hp Try.prog true (binS .gtr 3 (.tmp 68) (.const (.int .i64 0)) t68 (.int .i64 0)) k_30 h_66 ⟨⟩) (k_30 undef h_66) ⟨⟩ ⟨⟩) (fun t69 _ => 
                                                                                                                                                                    Join1 (fun k_31 h_67 => guardP t65 false (k_31 t69 h_67) (k_31 undef h_67) ⟨⟩ ⟨⟩) (fun t70 _ => 
                                                                                                                                                                      Join1 (fun k_32 h_68 => guardP t70 true (Hp Try.prog true (Instr.loadAt 94 place4) k_32 h_68 ⟨⟩) (k_32 undef h_68) ⟨⟩ ⟨⟩) (fun t71 _ => 
                                                                                                                                                                        Join1 (fun k_33 h_69 => guardP t70 true (Hp Try.prog true (Instr.fieldAt 47 h1 3) k_33 h_69 ⟨⟩) (k_33 undef h_69) ⟨⟩ ⟨⟩) (fun t72 _ => 
                                                                                                                                                                          Join1 (fun k_34 h_70 => guardP t70 true (Hp Try.prog true (Instr.loadAt 2 t72) k_34 h_70 ⟨⟩) (k_34 undef h_70) ⟨⟩ ⟨⟩) (fun t73 _ => 
                                                                                                                                                                            Join1 (fun k_35 h_71 => guardP t70 true (InvokeH Try.prog t71 #[t73] h_71 k_35 ⟨⟩) (k_35 undef h_71) ⟨⟩ ⟨⟩) (fun t74 h_72 => Hp Try.prog true (Instr.loadAt 9 t115) (fun u _ => u = t116) h_72 ⟨⟩ ∧ Hp Try.prog true (Instr.loadAt 3 t112) (fun u _ => u = t113) h_72 ⟨⟩ ∧ Hp Try.prog true (Instr.loadAt 2 t110) (fun u _ => u = t111) h_72 ⟨⟩ ∧ Hp Try.prog true (Instr.loadAt 3 t108) (fun u _ => u = t109) h_72 ⟨⟩ ∧ Hp Try.prog true (Instr.loadAt 3 t104) (fun u _ => u = t105) h_72 ⟨⟩ ∧ Hp Try.prog true (Instr.loadAt 2 t102) (fun u _ => u = t103) h_72 ⟨⟩ ∧ Hp Try.prog true (Instr.loadAt 3 t100) (fun u _ => u = t101) h_72 ⟨⟩ ∧ Hp Try.prog true (Instr.loadAt 2 t86) (fun u _ => u = t87) h_72 ⟨⟩ ∧ Hp Try.prog true (Instr.loadAt 94 place4) (fun u _ => u = t85) h_72 ⟨⟩ ∧ Hp Try.prog true (Instr.loadAt 3 t77) (fun u _ => u = t78) h_72 ⟨⟩ ∧ Join1 (fun k h => guardP t50 true (Hp Try.prog true (Instr.loadAt 3 t52) k h ⟨⟩) (k undef h) ⟨⟩ ⟨⟩) (fun u _ => u = t53) h_72 ⟨⟩ ⟨⟩ ∧ 
                                                                                                                                                                              Join1 (fun k_36 h_73 => guardP t65 false (Hp Try.prog true (pickS t70 t74 (.bool false)) k_36 h_73 ⟨⟩) (k_36 undef h_73) ⟨⟩ ⟨⟩) (fun t75 _ => 
                                                                                                                                                                                Hp Try.prog true (pickS t65 (.bool true) t75) (fun t76 _ => 
                                                                                                                                                                                  Join1 (fun k_37 h_74 => guardP t79 true (Hp Try.prog true (Instr.fieldAt 47 h1 5) k_37 h_74 ⟨⟩) (k_37 undef h_74) ⟨⟩ ⟨⟩) (fun t81 _ => 
                                                                                                                                                                                    Join1 (fun k_38 h_75 => guardP t79 true (Hp Try.prog true (Instr.loadAt 3 t81) k_38 h_75 ⟨⟩) (k_38 undef h_75) ⟨⟩ ⟨⟩) (fun t82 _ => 
                                                                                                                                                                                      Join1 (fun k_39 h_76 => guardP t79 true (Hp Try.prog true (binS .leq 3 (.tmp 82) (.const (.int .i64 6)) t82 (.int .i64 6)) k_39 h_76 ⟨⟩) (k_39 undef h_76) ⟨⟩ ⟨⟩) (fun t83 _ => 
                                                                                                                                                                                        Hp Try.prog true (pickS t79 t83 (.bool false)) (fun t84 _ => 
                                                                                                                                                                                          InvokeH Try.prog t85 #[t87] h_72 (fun t88 h_77 => Join1 (fun k h => guardP t79 true (Hp Try.prog true (Instr.loadAt 3 t81) k h ⟨⟩) (k undef h) ⟨⟩ ⟨⟩) (fun u _ => u = t82) h_77 ⟨⟩ ⟨⟩ ∧ Hp Try.prog true (Instr.loadAt 9 t115) (fun u _ => u = t116) h_77 ⟨⟩ ∧ Hp Try.prog true (Instr.loadAt 3 t112) (fun u _ => u = t113) h_77 ⟨⟩ ∧ Hp Try.prog true (Instr.loadAt 2 t110) (fun u _ => u = t111) h_77 ⟨⟩ ∧ Hp Try.prog true (Instr.loadAt 3 t108) (fun u _ => u = t109) h_77 ⟨⟩ ∧ Hp Try.prog true (Instr.loadAt 3 t104) (fun u _ => u = t105) h_77 ⟨⟩ ∧ Hp Try.prog true (Instr.loadAt 2 t102) (fun u _ => u = t103) h_77 ⟨⟩ ∧ Hp Try.prog true (Instr.loadAt 3 t100) (fun u _ => u = t101) h_77 ⟨⟩ ∧ Join1 (fun k h => guardP t50 true (Hp Try.prog true (Instr.loadAt 3 t52) k h ⟨⟩) (k undef h) ⟨⟩ ⟨⟩) (fun u _ => u = t53) h_77 ⟨⟩ ⟨⟩ ∧ 
                                                                                                                                                                                            Join1 (fun k_40 h_78 => guardP t88 true (Hp Try.prog true (Instr.fieldAt 47 h1 7) k_40 h_78 ⟨⟩) (k_40 undef h_78) ⟨⟩ ⟨⟩) (fun t90 _ => 
                                                                                                                                                                                              Join1 (fun k_41 h_79 => guardP t88 true (Hp Try.prog true (Instr.loadAt 3 t90) k_41 h_79 ⟨⟩) (k_41 undef h_79) ⟨⟩ ⟨⟩) (fun t91 _ => 
                                                                                                                                                                                                Join1 (fun k_42 h_80 => guardP t88 true (Hp Try.prog true (binS .geq 3 (.tmp 91) (.const (.int .i64 1)) t91 (.int .i64 1)) k_42 h_80 ⟨⟩) (k_42 undef h_80) ⟨⟩ ⟨⟩) (fun t92 _ => 
                                                                                                                                                                                                  Hp Try.prog true (pickS t88 t92 (.bool false)) (fun t93 _ => 
                                                                                                                                                                                                    Join1 (fun k_43 h_81 => guardP t93 true (Hp Try.prog true (Instr.fieldAt 47 h1 7) k_43 h_81 ⟨⟩) (k_43 undef h_81) ⟨⟩ ⟨⟩) (fun t95 _ => 
                                                                                                                                                                                                      Join1 (fun k_44 h_82 => guardP t93 true (Hp Try.prog true (Instr.loadAt 3 t95) k_44 h_82 ⟨⟩) (k_44 undef h_82) ⟨⟩ ⟨⟩) (fun t96 _ => 
                                                                                                                                                                                                        Join1 (fun k_45 h_83 => guardP t93 true (Hp Try.prog true (binS .leq 3 (.tmp 96) (.const (.int .i64 65536)) t96 (.int .i64 65536)) k_45 h_83 ⟨⟩) (k_45 undef h_83) ⟨⟩ ⟨⟩) (fun t97 _ => 
                                                                                                                                                                                                          Hp Try.prog true (pickS t93 t97 (.bool false)) (fun t98 _ => 
                                                                                                                                                                                                            InvokeH Try.prog t42 #[t101, (.int .i64 64), t103, t105] h_77 (fun t106 h_84 => Join1 (fun k h => guardP t93 true (Hp Try.prog true (Instr.loadAt 3 t95) k h ⟨⟩) (k undef h) ⟨⟩ ⟨⟩) (fun u _ => u = t96) h_84 ⟨⟩ ⟨⟩ ∧ Join1 (fun k h => guardP t79 true (Hp Try.prog true (Instr.loadAt 3 t81) k h ⟨⟩) (k undef h) ⟨⟩ ⟨⟩) (fun u _ => u = t82) h_84 ⟨⟩ ⟨⟩ ∧ Hp Try.prog true (Instr.loadAt 9 t115) (fun u _ => u = t116) h_84 ⟨⟩ ∧ Hp Try.prog true (Instr.loadAt 3 t112) (fun u _ => u = t113) h_84 ⟨⟩ ∧ Hp Try.prog true (Instr.loadAt 2 t110) (fun u _ => u = t111) h_84 ⟨⟩ ∧ Hp Try.prog true (Instr.loadAt 3 t108) (fun u _ => u = t109) h_84 ⟨⟩ ∧ Join1 (fun k h => guardP t50 true (Hp Try.prog true (Instr.loadAt 3 t52) k h ⟨⟩) (k undef h) ⟨⟩ ⟨⟩) (fun u _ => u = t53) h_84 ⟨⟩ ⟨⟩ ∧ 
                                                                                                                                                                                                              InvokeH Try.prog t42 #[t109, (.int .i64 64), t111, t113] h_84 (fun t114 h_85 => Join1 (fun k h => guardP t93 true (Hp Try.prog true (Instr.loadAt 3 t95) k h ⟨⟩) (k undef h) ⟨⟩ ⟨⟩) (fun u _ => u = t96) h_85 ⟨⟩ ⟨⟩ ∧ Join1 (fun k h => guardP t79 true (Hp Try.prog true (Instr.loadAt 3 t81) k h ⟨⟩) (k undef h) ⟨⟩ ⟨⟩) (fun u _ => u = t82) h_85 ⟨⟩ ⟨⟩ ∧ Hp Try.prog true (Instr.loadAt 9 t115) (fun u _ => u = t116) h_85 ⟨⟩ ∧ Join1 (fun k h => guardP t50 true (Hp Try.prog true (Instr.loadAt 3 t52) k h ⟨⟩) (k undef h) ⟨⟩ ⟨⟩) (fun u _ => u = t53) h_85 ⟨⟩ ⟨⟩ ∧ 
                                                                                                                                                                                                                Join1 (fun k_46 h_86 => guardP t118 true (Hp Try.prog true (Instr.fieldAt 47 h1 14) k_46 h_86 ⟨⟩) (k_46 undef h_86) ⟨⟩ ⟨⟩) (fun t120 _ => 
                                                                                                                                                                                                                  Join1 (fun k_47 h_87 => guardP t118 true (Hp Try.prog true (Instr.loadAt 9 t120) k_47 h_87 ⟨⟩) (k_47 undef h_87) ⟨⟩ ⟨⟩) (fun t121 _ => 
                                                                                                                                                                                                                    Join1 (fun k_48 h_88 => guardP t118 true (CallsH Try.prog 61 #[t121, (str [0])] h_88 k_48 ⟨⟩) (k_48 undef h_88) ⟨⟩ ⟨⟩) (fun t122 h_89 => Join1 (fun k h => guardP t93 true (Hp Try.prog true (Instr.loadAt 3 t95) k h ⟨⟩) (k undef h) ⟨⟩ ⟨⟩) (fun u _ => u = t96) h_89 ⟨⟩ ⟨⟩ ∧ Join1 (fun k h => guardP t79 true (Hp Try.prog true (Instr.loadAt 3 t81) k h ⟨⟩) (k undef h) ⟨⟩ ⟨⟩) (fun u _ => u = t82) h_89 ⟨⟩ ⟨⟩ ∧ Join1 (fun k h => guardP t50 true (Hp Try.prog true (Instr.loadAt 3 t52) k h ⟨⟩) (k undef h) ⟨⟩ ⟨⟩) (fun u _ => u = t53) h_89 ⟨⟩ ⟨⟩ ∧ 
                                                                                                                                                                                                                      Join1 (fun k_49 h_90 => guardP t118 true (Hp Try.prog true (Op.unary .not t122) k_49 h_90 ⟨⟩) (k_49 undef h_90) ⟨⟩ ⟨⟩) (fun t123 _ => 
                                                                                                                                                                                                                        Hp Try.prog true (pickS t118 t123 (.bool false)) (fun t124 _ => 
                                                                                                                                                                                                                          Hp Try.prog false (Instr.buildSlice 97 7 #[(0, t57), (1, t76), (2, t84), (3, t98), (4, t106), (5, t114), (6, t124)]) (fun t125 h_91 => 
                                                                                                                                                                                                                            Hp Try.prog true (Builtin.len_ #[97] 3 #[t125]) (fun t126 _ => 
                                                                                                                                                                                                                              JoinN 1 (fun (k_50 : Value → Heap → Prop) h_92 =>
                                                                                                                                                                                                                                LoopC 2 (fun (X : Value → Value → Heap → Prop) => fun ok6 t127 h_93 =>
                                                                                                                                                                                                                                  Hp Try.prog false (binS .lss 3 (.tmp 127) (.tmp 126) t127 t126) (fun t128 h_94 => 
                                                                                                                                                                                                                                    CondP t128 (
                                                                                                                                                                                                                                      Hp Try.prog false (Instr.indexAt 97 t125 t127) (fun t129 h_95 => 
                                                                                                                                                                                                                                        Hp Try.prog false (Instr.loadAt 4 t129) (fun t130 h_96 => 
                                                                                                                                                                                                                                          Hp Try.prog false (Op.unary .not t130) (fun t132 h_97 => 
                                                                                                                                                                                                                                            CondP t132 (
                                                                                                                                                                                                                                              k_50 (.bool false) h_97) (
                                                                                                                                                                                                                                              Hp Try.prog false (binS .add 3 (.tmp 127) (.const (.int .i64 1)) t127 (.int .i64 1)) (fun t133 h_98 => 
                                                                                                                                                                                                                                                X ok6 t133 h_98) h_97 ⟨⟩) ⟨⟩ ⟨⟩) h_96 ⟨⟩) h_95 ⟨⟩) h_94 ⟨⟩) (
                                                                                                                                                                                                                                      k_50 ok6 h_94) ⟨⟩ ⟨⟩) h_93 ⟨⟩) [(.bool true), (.int .i64 0)] h_92 ⟨⟩)
                                                                                                                                                                                                                                (fun ok6_1 h_99 =>
                                                                                                                                                                                                                                k_16 ok6_1 h_99) h_91 ⟨⟩ ⟨⟩) #[] ⟨⟩) h_89 ⟨⟩) #[] ⟨⟩) #[] ⟨⟩ ⟨⟩) h_85 ⟨⟩ ⟨⟩) h_85 ⟨⟩ ⟨⟩) #[] ⟨⟩ ⟨⟩) ⟨⟩) ⟨⟩) #[] ⟨⟩) #[] ⟨⟩ ⟨⟩) h_77 ⟨⟩ ⟨⟩) #[] ⟨⟩ ⟨⟩) #[] ⟨⟩) #[] ⟨⟩ ⟨⟩) h_77 ⟨⟩ ⟨⟩) #[] ⟨⟩ ⟨⟩) ⟨⟩) #[] ⟨⟩) #[] ⟨⟩ ⟨⟩) h_72 ⟨⟩ ⟨⟩) #[] ⟨⟩ ⟨⟩) #[] ⟨⟩) #[] ⟨⟩ ⟨⟩) h_59 ⟨⟩ ⟨⟩) h_59 ⟨⟩ ⟨⟩) #[] ⟨⟩ ⟨⟩) h_59 ⟨⟩ ⟨⟩) #[] ⟨⟩ ⟨⟩) #[] ⟨⟩ ⟨⟩) h_59 ⟨⟩ ⟨⟩) #[] ⟨⟩ ⟨⟩) #[] ⟨⟩) #[] ⟨⟩ ⟨⟩) h_59 ⟨⟩ ⟨⟩) #[] ⟨⟩ ⟨⟩) #[] ⟨⟩) #[] ⟨⟩ ⟨⟩) h_51 ⟨⟩ ⟨⟩) #[] ⟨⟩) #[] ⟨⟩) h_51 ⟨⟩) #[] ⟨⟩) h_51 ⟨⟩) #[] ⟨⟩) h_51 ⟨⟩) #[] ⟨⟩) h_51 ⟨⟩) #[] ⟨⟩) h_51 ⟨⟩) #[] ⟨⟩) h_51 ⟨⟩) #[] ⟨⟩) h_51 ⟨⟩) #[] ⟨⟩) h_51 ⟨⟩) #[] ⟨⟩) h_51 ⟨⟩) #[] ⟨⟩) h_51 ⟨⟩) #[] ⟨⟩) #[] ⟨⟩) h_51 ⟨⟩) #[] ⟨⟩) h_51 ⟨⟩ ⟨⟩) h_51 ⟨⟩ ⟨⟩) #[] ⟨⟩ ⟨⟩) #[] ⟨⟩) #[] ⟨⟩ ⟨⟩) h_51 ⟨⟩ ⟨⟩) #[] ⟨⟩ ⟨⟩) #[] ⟨⟩) h_51 ⟨⟩) #[] ⟨⟩)
                                                                          (fun ok6_2 h_100 =>
                                                                          Hp Try.prog false (Op.unary .not ok6_2) (fun t135 h_101 => 
                                                                            CondP t135 (
                                                                              R (.int .i64 2) h_101) (
                                                                              R (.int .i64 0) h_101) ⟨⟩ ⟨⟩) h_100 ⟨⟩) h_50 ⟨⟩ ⟨⟩) h_49 ⟨⟩) h_48 ⟨⟩) h_47 ⟨⟩) h_46 ⟨⟩) h_45 ⟨⟩) h_44 ⟨⟩) h_43 ⟨⟩) h_42 ⟨⟩) h_41 ⟨⟩) ⟨⟩ ⟨⟩) h_40 ⟨⟩) h_38 ⟨⟩ ⟨⟩) h_36 ⟨⟩ ⟨⟩) h_34 ⟨⟩ ⟨⟩) h_32 ⟨⟩ ⟨⟩) h_31 ⟨⟩) h_29 ⟨⟩ ⟨⟩) h_27 ⟨⟩ ⟨⟩) h_25 ⟨⟩ ⟨⟩) h_24 ⟨⟩) h_22 ⟨⟩ ⟨⟩) h_20 ⟨⟩ ⟨⟩) h_18 ⟨⟩ ⟨⟩) h_17 ⟨⟩) h_15 ⟨⟩ ⟨⟩) h_13 ⟨⟩ ⟨⟩) h_11 ⟨⟩ ⟨⟩) h_10 ⟨⟩) h_8 ⟨⟩ ⟨⟩) h_6 ⟨⟩ ⟨⟩) h_4 ⟨⟩ ⟨⟩) h_3 ⟨⟩) h_2 ⟨⟩) h_1 ⟨⟩) h ⟨⟩

theorem n21_calls {h0 : Value} {R : Value → Heap → Prop} {h : Heap} (H : n21 h0 R h) : CallsH Try.prog 21 #[h0] h R ⟨⟩ :=
  callsH_of_eq Try.follow (.n none .l (.n none (.n none .l (.n none .l (.n none .l (.n none .l (.n none .l (.n none .l (.n (some [7]) (.n none .l (.n (some [7]) (.n (some [7, 128]) .l .l) .l)) .l))))))) .l)) Try.func21 (by kernel_rfl) (by kernel_rfl) (by kernel_rfl) H

/-- palimpsest/palimpsestref08.May -/
def n22 (h0 : Value) (R : Value → Heap → Prop) (h : Heap) : Prop :=
  Hp Try.prog false (Instr.box 47 h0) (fun h1 h_1 => 
    Hp Try.prog false (Instr.fieldAt 47 h1 0) (fun t6 h_2 => 
      Hp Try.prog false (Instr.loadAt 3 t6) (fun t7 h_3 => 
        Hp Try.prog false (binS .lss 3 (.tmp 7) (.const (.int .i64 9)) t7 (.int .i64 9)) (fun t8 h_4 => 
          Join1 (fun k h_5 => guardP t8 false (Hp Try.prog false (Instr.fieldAt 47 h1 0) k h_5 ⟨⟩) (k undef h_5) ⟨⟩ ⟨⟩) (fun t10 h_6 => 
            Join1 (fun k_1 h_7 => guardP t8 false (Hp Try.prog false (Instr.loadAt 3 t10) k_1 h_7 ⟨⟩) (k_1 undef h_7) ⟨⟩ ⟨⟩) (fun t11 h_8 => 
              Join1 (fun k_2 h_9 => guardP t8 false (Hp Try.prog false (binS .gtr 3 (.tmp 11) (.const (.int .i64 16)) t11 (.int .i64 16)) k_2 h_9 ⟨⟩) (k_2 undef h_9) ⟨⟩ ⟨⟩) (fun t12 h_10 => 
                Hp Try.prog false (pickS t8 (.bool true) t12) (fun t13 h_11 => 
                  Join1 (fun k_3 h_12 => guardP t13 false (Hp Try.prog false (Instr.fieldAt 47 h1 1) k_3 h_12 ⟨⟩) (k_3 undef h_12) ⟨⟩ ⟨⟩) (fun t15 h_13 => 
                    Join1 (fun k_4 h_14 => guardP t13 false (Hp Try.prog false (Instr.loadAt 45 t15) k_4 h_14 ⟨⟩) (k_4 undef h_14) ⟨⟩ ⟨⟩) (fun t16 h_15 => 
                      Join1 (fun k_5 h_16 => guardP t13 false (Hp Try.prog false (binS .gtr 45 (.tmp 16) (.const (.int .u64 1)) t16 (.int .u64 1)) k_5 h_16 ⟨⟩) (k_5 undef h_16) ⟨⟩ ⟨⟩) (fun t17 h_17 => 
                        Hp Try.prog false (pickS t13 (.bool true) t17) (fun t18 h_18 => 
                          Join1 (fun k_6 h_19 => guardP t18 false (Hp Try.prog false (Instr.fieldAt 47 h1 2) k_6 h_19 ⟨⟩) (k_6 undef h_19) ⟨⟩ ⟨⟩) (fun t20 h_20 => 
                            Join1 (fun k_7 h_21 => guardP t18 false (Hp Try.prog false (Instr.loadAt 2 t20) k_7 h_21 ⟨⟩) (k_7 undef h_21) ⟨⟩ ⟨⟩) (fun t21 h_22 => 
                              Join1 (fun k_8 h_23 => guardP t18 false (Hp Try.prog false (binS .lss 2 (.tmp 21) (.const (.int .i64 0)) t21 (.int .i64 0)) k_8 h_23 ⟨⟩) (k_8 undef h_23) ⟨⟩ ⟨⟩) (fun t22 h_24 => 
                                Hp Try.prog false (pickS t18 (.bool true) t22) (fun t23 h_25 => 
                                  Join1 (fun k_9 h_26 => guardP t23 false (Hp Try.prog false (Instr.fieldAt 47 h1 2) k_9 h_26 ⟨⟩) (k_9 undef h_26) ⟨⟩ ⟨⟩) (fun t25 h_27 => 
                                    Join1 (fun k_10 h_28 => guardP t23 false (Hp Try.prog false (Instr.loadAt 2 t25) k_10 h_28 ⟨⟩) (k_10 undef h_28) ⟨⟩ ⟨⟩) (fun t26 h_29 => 
                                      Join1 (fun k_11 h_30 => guardP t23 false (Hp Try.prog false (binS .gtr 2 (.tmp 26) (.const (.int .i64 67108864)) t26 (.int .i64 67108864)) k_11 h_30 ⟨⟩) (k_11 undef h_30) ⟨⟩ ⟨⟩) (fun t27 h_31 => 
                                        Hp Try.prog false (pickS t23 (.bool true) t27) (fun t28 h_32 => 
                                          Join1 (fun k_12 h_33 => guardP t28 false (Hp Try.prog false (Instr.fieldAt 47 h1 2) k_12 h_33 ⟨⟩) (k_12 undef h_33) ⟨⟩ ⟨⟩) (fun t30 h_34 => 
                                            Join1 (fun k_13 h_35 => guardP t28 false (Hp Try.prog false (Instr.loadAt 2 t30) k_13 h_35 ⟨⟩) (k_13 undef h_35) ⟨⟩ ⟨⟩) (fun t31 h_36 => 
                                              Join1 (fun k_14 h_37 => guardP t28 false (Hp Try.prog false (binS .rem 2 (.tmp 31) (.const (.int .i64 512)) t31 (.int .i64 512)) k_14 h_37 ⟨⟩) (k_14 undef h_37) ⟨⟩ ⟨⟩) (fun t32 h_38 => 
                                                Join1 (fun k_15 h_39 => guardP t28 false (Hp Try.prog false (binS .neq 2 (.tmp 32) (.const (.int .i64 0)) t32 (.int .i64 0)) k_15 h_39 ⟨⟩) (k_15 undef h_39) ⟨⟩ ⟨⟩) (fun t33 h_40 => 
                                                  Hp Try.prog false (pickS t28 (.bool true) t33) (fun t34 h_41 => 
                                                    CondP t34 (
                                                      R (.bool false) h_41) (
                                                      Hp Try.prog true (Instr.fieldAt 47 h1 4) (fun t35 _ => 
                                                        Hp Try.prog true (Instr.loadAt 3 t35) (fun t36 _ => 
                                                          Hp Try.prog true (binS .lss 3 (.tmp 36) (.const (.int .i64 0)) t36 (.int .i64 0)) (fun t37 _ => 
                                                            Join1 (fun k_16 h_42 => guardP t37 false (Hp Try.prog true (Instr.fieldAt 47 h1 4) k_16 h_42 ⟨⟩) (k_16 undef h_42) ⟨⟩ ⟨⟩) (fun t39 _ => 
                                                              Join1 (fun k_17 h_43 => guardP t37 false (Hp Try.prog true (Instr.loadAt 3 t39) k_17 h_43 ⟨⟩) (k_17 undef h_43) ⟨⟩ ⟨⟩) (fun t40 _ => 
                                                                Join1 (fun k_18 h_44 => guardP t37 false (Hp Try.prog true (binS .gtr 3 (.tmp 40) (.const (.int .i64 1048576)) t40 (.int .i64 1048576)) k_18 h_44 ⟨⟩) (k_18 undef h_44) ⟨⟩ ⟨⟩) (fun t41 _ => 
                                                                  Hp Try.prog true (pickS t37 (.bool true) t41) (fun t42 _ => 
                                                                    Join1 (fun k_19 h_45 => guardP t42 false (Hp Try.prog true (Instr.fieldAt 47 h1 4) k_19 h_45 ⟨⟩) (k_19 undef h_45) ⟨⟩ ⟨⟩) (fun t44 _ => 
                                                                      Join1 (fun k_20 h_46 => guardP t42 false (Hp Try.prog true (Instr.loadAt 3 t44) k_20 h_46 ⟨⟩) (k_20 undef h_46) ⟨⟩ ⟨⟩) (fun t45 _ => 
                                                                        Join1 (fun k_21 h_47 => guardP t42 false (Hp Try.prog true (Instr.loadAt 47 h1) k_21 h_47 ⟨⟩) (k_21 undef h_47) ⟨⟩ ⟨⟩) (fun t46 _ => 
                                                                          Join1 (fun k_22 h_48 => guardP t42 false (CallsH Try.prog 30 #[t46] h_48 k_22 ⟨⟩) (k_22 undef h_48) ⟨⟩ ⟨⟩) (fun t47 h_49 => Join1 (fun k h => guardP t42 false (Hp Try.prog true (Instr.loadAt 3 t44) k h ⟨⟩) (k undef h) ⟨⟩ ⟨⟩) (fun u _ => u = t45) h_49 ⟨⟩ ⟨⟩ ∧ 
                                                                            Join1 (fun k_23 h_50 => guardP t42 false (Hp Try.prog true (binS .lss 2 (.tmp 45) (.tmp 47) t45 t47) k_23 h_50 ⟨⟩) (k_23 undef h_50) ⟨⟩ ⟨⟩) (fun t48 _ => 
                                                                              Hp Try.prog true (pickS t42 (.bool true) t48) (fun t49 _ => 
                                                                                Join1 (fun k_24 h_51 => guardP t49 false (Hp Try.prog true (Instr.fieldAt 47 h1 5) k_24 h_51 ⟨⟩) (k_24 undef h_51) ⟨⟩ ⟨⟩) (fun t51 _ => 
                                                                                  Join1 (fun k_25 h_52 => guardP t49 false (Hp Try.prog true (Instr.loadAt 3 t51) k_25 h_52 ⟨⟩) (k_25 undef h_52) ⟨⟩ ⟨⟩) (fun t52 _ => 
                                                                                    Join1 (fun k_26 h_53 => guardP t49 false (Hp Try.prog true (binS .lss 3 (.tmp 52) (.const (.int .i64 0)) t52 (.int .i64 0)) k_26 h_53 ⟨⟩) (k_26 undef h_53) ⟨⟩ ⟨⟩) (fun t53 _ => 
                                                                                      Hp Try.prog true (pickS t49 (.bool true) t53) (fun t54 _ => 
                                                                                        Join1 (fun k_27 h_54 => guardP t54 false (Hp Try.prog true (Instr.fieldAt 47 h1 5) k_27 h_54 ⟨⟩) (k_27 undef h_54) ⟨⟩ ⟨⟩) (fun t56 _ => 
                                                                                          Join1 (fun k_28 h_55 => guardP t54 false (Hp Try.prog true (Instr.loadAt 3 t56) k_28 h_55 ⟨⟩) (k_28 undef h_55) ⟨⟩ ⟨⟩) (fun t57 _ => 
                                                                                            Join1 (fun k_29 h_56 => guardP t54 false (Hp Try.prog true (binS .gtr 3 (.tmp 57) (.const (.int .i64 6)) t57 (.int .i64 6)) k_29 h_56 ⟨⟩) (k_29 undef h_56) ⟨⟩ ⟨⟩) (fun t58 _ => 
                                                                                              Hp Try.prog true (pickS t54 (.bool true) t58) (fun t59 _ => 
                                                                                                Join1 (fun k_30 h_57 => guardP t59 false (Hp Try.prog true (Instr.fieldAt 47 h1 7) k_30 h_57 ⟨⟩) (k_30 undef h_57) ⟨⟩ ⟨⟩) (fun t61 _ => 
                                                                                                  Join1 (fun k_31 h_58 => guardP t59 false (Hp Try.prog true (Instr.loadAt 3 t61) k_31 h_58 ⟨⟩) (k_31 undef h_58) ⟨⟩ ⟨⟩) (fun t62 _ => 
                                                                                                    Join1 (fun k_32 h_59 => guardP t59 false (Hp Try.prog true (binS .lss 3 (.tmp 62) (.const (.int .i64 1)) t62 (.int .i64 1)) k_32 h_59 ⟨⟩) (k_32 undef h_59) ⟨⟩ ⟨⟩) (fun t63 _ => 
                                                                                                      Hp Try.prog true (pickS t59 (.bool true) t63) (fun t64 _ => 
                                                                                                        Join1 (fun k_33 h_60 => guardP t64 false (Hp Try.prog true (Instr.fieldAt 47 h1 7) k_33 h_60 ⟨⟩) (k_33 undef h_60) ⟨⟩ ⟨⟩) (fun t66 _ => 
                                                                                                          Join1 (fun k_34 h_61 => guardP t64 false (Hp Try.prog true (Instr.loadAt 3 t66) k_34 h_61 ⟨⟩) (k_34 undef h_61) ⟨⟩ ⟨⟩) (fun t67 _ => 
                                                                                                            Join1 (fun k_35 h_62 => guardP t64 false (Hp Try.prog true (binS .gtr 3 (.tmp 67) (.const (.int .i64 65536)) t67 (.int .i64 65536)) k_35 h_62 ⟨⟩) (k_35 undef h_62) ⟨⟩ ⟨⟩) (fun t68 _ => 
                                                                                                              Hp Try.prog true (pickS t64 (.bool true) t68) (fun t69 _ => 
                                                                                                                CondP t69 (
                                                                                                                  R (.bool false) h_49) (
                                                                                                                  Hp Try.prog false (Instr.fieldAt 47 h1 4) (fun t70 h_63 => 
                                                                                                                    Hp Try.prog false (Instr.loadAt 3 t70) (fun t71 h_64 => 
                                                                                                                      Hp Try.prog false (binS .eql 3 (.tmp 71) (.const (.int .i64 0)) t71 (.int .i64 0)) (fun t72 h_65 => 
                                                                                                                        Join1 (fun k_36 h_66 => guardP t72 true (Hp Try.prog false (Instr.fieldAt 47 h1 3) k_36 h_66 ⟨⟩) (k_36 undef h_66) ⟨⟩ ⟨⟩) (fun t74 h_67 => 
                                                                                                                          Join1 (fun k_37 h_68 => guardP t72 true (Hp Try.prog false (Instr.loadAt 2 t74) k_37 h_68 ⟨⟩) (k_37 undef h_68) ⟨⟩ ⟨⟩) (fun t75 h_69 => 
                                                                                                                            Join1 (fun k_38 h_70 => guardP t72 true (Hp Try.prog false (binS .neq 2 (.tmp 75) (.const (.int .i64 0)) t75 (.int .i64 0)) k_38 h_70 ⟨⟩) (k_38 undef h_70) ⟨⟩ ⟨⟩) (fun t76 h_71 => 
                                                                                                                              Hp Try.prog false (pickS t72 t76 (.bool false)) (fun t77 h_72 => 
                                                                                                                                Join1 (fun k_39 h_73 => guardP t77 false (Hp Try.prog false (Instr.fieldAt 47 h1 4) k_39 h_73 ⟨⟩) (k_39 undef h_73) ⟨⟩ ⟨⟩) (fun t79 h_74 => 
                                                                                                                                  Join1 (fun k_40 h_75 => guardP t77 false (Hp Try.prog false (Instr.loadAt 3 t79) k_40 h_75 ⟨⟩) (k_40 undef h_75) ⟨⟩ ⟨⟩) (fun t80 h_76 => 
                                                                                                                                    Join1 (fun k_41 h_77 => guardP t77 false (Hp Try.prog false (binS .gtr 3 (.tmp 80) (.const (.int .i64 0)) t80 (.int .i64 0)) k_41 h_77 ⟨⟩) (k_41 undef h_77) ⟨⟩ ⟨⟩) (fun t81 h_78 => 
                                                                                                                                      Join1 (fun k_42 h_79 => guardP t77 false (k_42 t81 h_79) (k_42 undef h_79) ⟨⟩ ⟨⟩) (fun t82 h_80 => 
                                                                                                                                        Join1 (fun k_43 h_81 => guardP t82 true (Hp Try.prog false (Instr.fieldAt 47 h1 3) k_43 h_81 ⟨⟩) (k_43 undef h_81) ⟨⟩ ⟨⟩) (fun t83 h_82 => 
                                                                                                                                          Join1 (fun k_44 h_83 => guardP t82 true (Hp Try.prog false (Instr.loadAt 2 t83) k_44 h_83 ⟨⟩) (k_44 undef h_83) ⟨⟩ ⟨⟩) (fun t84 h_84 => 
                                                                                                                                            Join1 (fun k_45 h_85 => guardP t82 true (Hp Try.prog false (Instr.fieldAt 47 h1 0) k_45 h_85 ⟨⟩) (k_45 undef h_85) ⟨⟩ ⟨⟩) (fun t85 h_86 => 
                                                                                                                                              Join1 (fun k_46 h_87 => guardP t82 true (Hp Try.prog false (Instr.loadAt 3 t85) k_46 h_87 ⟨⟩) (k_46 undef h_87) ⟨⟩ ⟨⟩) (fun t86 h_88 => 
                                                                                                                                                Join1 (fun k_47 h_89 => guardP t82 true (CallsH Try.prog 62 #[t84, t86] h_89 k_47 ⟨⟩) (k_47 undef h_89) ⟨⟩ ⟨⟩) (fun t87 h_90 => 
                                                                                                                                                  Join1 (fun k_48 h_91 => guardP t82 true (Hp Try.prog false (Op.unary .not t87) k_48 h_91 ⟨⟩) (k_48 undef h_91) ⟨⟩ ⟨⟩) (fun t88 h_92 => 
                                                                                                                                                    Join1 (fun k_49 h_93 => guardP t77 false (Hp Try.prog false (pickS t82 t88 (.bool false)) k_49 h_93 ⟨⟩) (k_49 undef h_93) ⟨⟩ ⟨⟩) (fun t89 h_94 => 
                                                                                                                                                      Hp Try.prog false (pickS t77 (.bool true) t89) (fun t90 h_95 => 
                                                                                                                                                        Join1 (fun k_50 h_96 => guardP t90 false (Hp Try.prog false (Instr.fieldAt 47 h1 6) k_50 h_96 ⟨⟩) (k_50 undef h_96) ⟨⟩ ⟨⟩) (fun t92 h_97 => 
                                                                                                                                                          Join1 (fun k_51 h_98 => guardP t90 false (Hp Try.prog false (Instr.loadAt 2 t92) k_51 h_98 ⟨⟩) (k_51 undef h_98) ⟨⟩ ⟨⟩) (fun t93 h_99 => 
                                                                                                                                                            Join1 (fun k_52 h_100 => guardP t90 false (Hp Try.prog false (Instr.fieldAt 47 h1 0) k_52 h_100 ⟨⟩) (k_52 undef h_100) ⟨⟩ ⟨⟩) (fun t94 h_101 => 
                                                                                                                                                              Join1 (fun k_53 h_102 => guardP t90 false (Hp Try.prog false (Instr.loadAt 3 t94) k_53 h_102 ⟨⟩) (k_53 undef h_102) ⟨⟩ ⟨⟩) (fun t95 h_103 => 
                                                                                                                                                                Join1 (fun k_54 h_104 => guardP t90 false (CallsH Try.prog 62 #[t93, t95] h_104 k_54 ⟨⟩) (k_54 undef h_104) ⟨⟩ ⟨⟩) (fun t96 h_105 => 
                                                                                                                                                                  Join1 (fun k_55 h_106 => guardP t90 false (Hp Try.prog false (Op.unary .not t96) k_55 h_106 ⟨⟩) (k_55 undef h_106) ⟨⟩ ⟨⟩) (fun t97 h_107 => 
                                                                                                                                                                    Hp Try.prog false (pickS t90 (.bool true) t97) (fun t98 h_108 => 
                                                                                                                                                                      CondP t98 (
                                                                                                                                                                        R (.bool false) h_108) (
                                                                                                                                                                        Hp Try.prog false (Instr.fieldAt 47 h1 8) (fun t99 h_109 => 
                                                                                                                                                                          Hp Try.prog false (Instr.loadAt 3 t99) (fun t100 h_110 => 
                                                                                                                                                                            Hp Try.prog false (Instr.fieldAt 47 h1 9) (fun t101 h_111 => 
                                                                                                                                                                              Hp Try.prog false (Instr.loadAt 2 t101) (fun t102 h_112 => 
                                                                                                                                                                                Hp Try.prog false (Instr.fieldAt 47 h1 10) (fun t103 h_113 => 
                                                                                                                                                                                  Hp Try.prog false (Instr.loadAt 3 t103) (fun t104 h_114 => 
                                                                                                                                                                                    Hp Try.prog false (Instr.fieldAt 47 h1 0) (fun t105 h_115 => 
                                                                                                                                                                                      Hp Try.prog false (Instr.loadAt 3 t105) (fun t106 h_116 => 
                                                                                                                                                                                        CallsH Try.prog 63 #[t100, t102, t104, t106] h_116 (fun t107 h_117 => 
                                                                                                                                                                                          Hp Try.prog false (Instr.fieldAt 47 h1 11) (fun t108 h_118 => 
                                                                                                                                                                                            Hp Try.prog false (Instr.loadAt 3 t108) (fun t109 h_119 => 
                                                                                                                                                                                              Hp Try.prog false (Instr.fieldAt 47 h1 12) (fun t110 h_120 => 
                                                                                                                                                                                                Hp Try.prog false (Instr.loadAt 2 t110) (fun t111 h_121 => 
                                                                                                                                                                                                  Hp Try.prog false (Instr.fieldAt 47 h1 13) (fun t112 h_122 => 
                                                                                                                                                                                                    Hp Try.prog false (Instr.loadAt 3 t112) (fun t113 h_123 => 
                                                                                                                                                                                                      Hp Try.prog false (Instr.fieldAt 47 h1 0) (fun t114 h_124 => 
                                                                                                                                                                                                        Hp Try.prog false (Instr.loadAt 3 t114) (fun t115 h_125 => 
                                                                                                                                                                                                          CallsH Try.prog 63 #[t109, t111, t113, t115] h_125 (fun t116 h_126 => 
                                                                                                                                                                                                            LoopC 1 (fun (X : Value → Heap → Prop) => fun i5 h_127 =>
                                                                                                                                                                                                              Hp Try.prog false (Instr.fieldAt 47 h1 14) (fun t118 h_128 => 
                                                                                                                                                                                                                Hp Try.prog false (Instr.loadAt 9 t118) (fun t119 h_129 => 
                                                                                                                                                                                                                  Hp Try.prog false (Builtin.len_ #[9] 3 #[t119]) (fun t120 h_130 => 
                                                                                                                                                                                                                    Hp Try.prog false (binS .lss 3 (.tmp 117) (.tmp 120) i5 t120) (fun t121 h_131 => 
                                                                                                                                                                                                                      CondP t121 (
                                                                                                                                                                                                                        Hp Try.prog false (Instr.fieldAt 47 h1 14) (fun t124 h_132 => 
                                                                                                                                                                                                                          Hp Try.prog false (Instr.loadAt 9 t124) (fun t125 h_133 => 
                                                                                                                                                                                                                            Hp Try.prog false (Instr.index 9 t125 i5) (fun t127 h_134 => 
                                                                                                                                                                                                                              Hp Try.prog false (binS .eql 5 (.tmp 127) (.const (.int .u8 0)) t127 (.int .u8 0)) (fun t128 h_135 => 
                                                                                                                                                                                                                                CondP t128 (
                                                                                                                                                                                                                                  R (.bool false) h_135) (
                                                                                                                                                                                                                                  Hp Try.prog false (binS .add 3 (.tmp 122) (.const (.int .i64 1)) i5 (.int .i64 1)) (fun t123 h_136 => 
                                                                                                                                                                                                                                    X t123 h_136) h_135 ⟨⟩) ⟨⟩ ⟨⟩) h_134 ⟨⟩) h_133 ⟨⟩) h_132 ⟨⟩) h_131 ⟨⟩) (
                                                                                                                                                                                                                        Join1 (fun k_56 h_137 => guardP t107 true (k_56 t116 h_137) (k_56 undef h_137) ⟨⟩ ⟨⟩) (fun t131 h_138 => 
                                                                                                                                                                                                                          Hp Try.prog false (pickS t107 t131 (.bool false)) (fun t132 h_139 => 
                                                                                                                                                                                                                            Join1 (fun k_57 h_140 => guardP t132 true (Hp Try.prog false (Instr.fieldAt 47 h1 14) k_57 h_140 ⟨⟩) (k_57 undef h_140) ⟨⟩ ⟨⟩) (fun t134 h_141 => 
                                                                                                                                                                                                                              Join1 (fun k_58 h_142 => guardP t132 true (Hp Try.prog false (Instr.loadAt 9 t134) k_58 h_142 ⟨⟩) (k_58 undef h_142) ⟨⟩ ⟨⟩) (fun t135 h_143 => 
                                                                                                                                                                                                                                Join1 (fun k_59 h_144 => guardP t132 true (Hp Try.prog false (Builtin.len_ #[9] 3 #[t135]) k_59 h_144 ⟨⟩) (k_59 undef h_144) ⟨⟩ ⟨⟩) (fun t136 h_145 => 
                                                                                                                                                                                                                                  Join1 (fun k_60 h_146 => guardP t132 true (Hp Try.prog false (binS .leq 3 (.tmp 136) (.const (.int .i64 64)) t136 (.int .i64 64)) k_60 h_146 ⟨⟩) (k_60 undef h_146) ⟨⟩ ⟨⟩) (fun t137 h_147 => 
                                                                                                                                                                                                                                    Hp Try.prog false (pickS t132 t137 (.bool false)) (fun t138 h_148 => 
                                                                                                                                                                                                                                      R t138 h_148) h_147 ⟨⟩) h_145 ⟨⟩ ⟨⟩) h_143 ⟨⟩ ⟨⟩) h_141 ⟨⟩ ⟨⟩) h_139 ⟨⟩ ⟨⟩) h_138 ⟨⟩) h_131 ⟨⟩ ⟨⟩) ⟨⟩ ⟨⟩) h_130 ⟨⟩) h_129 ⟨⟩) h_128 ⟨⟩) h_127 ⟨⟩) [(.int .i64 0)] h_126 ⟨⟩) ⟨⟩) h_124 ⟨⟩) h_123 ⟨⟩) h_122 ⟨⟩) h_121 ⟨⟩) h_120 ⟨⟩) h_119 ⟨⟩) h_118 ⟨⟩) h_117 ⟨⟩) ⟨⟩) h_115 ⟨⟩) h_114 ⟨⟩) h_113 ⟨⟩) h_112 ⟨⟩) h_111 ⟨⟩) h_110 ⟨⟩) h_109 ⟨⟩) h_108 ⟨⟩) ⟨⟩ ⟨⟩) h_107 ⟨⟩) h_105 ⟨⟩ ⟨⟩) h_103 ⟨⟩ ⟨⟩) h_101 ⟨⟩ ⟨⟩) h_99 ⟨⟩ ⟨⟩) h_97 ⟨⟩ ⟨⟩) h_95 ⟨⟩ ⟨⟩) h_94 ⟨⟩) h_92 ⟨⟩ ⟨⟩) h_90 ⟨⟩ ⟨⟩) h_88 ⟨⟩ ⟨⟩) h_86 ⟨⟩ ⟨⟩) h_84 ⟨⟩ ⟨⟩) h_82 ⟨⟩ ⟨⟩) h_80 ⟨⟩ ⟨⟩) h_78 ⟨⟩ ⟨⟩) h_76 ⟨⟩ ⟨⟩) h_74 ⟨⟩ ⟨⟩) h_72 ⟨⟩ ⟨⟩) h_71 ⟨⟩) h_69 ⟨⟩ ⟨⟩) h_67 ⟨⟩ ⟨⟩) h_65 ⟨⟩ ⟨⟩) h_64 ⟨⟩) h_63 ⟨⟩) h_49 ⟨⟩) ⟨⟩ ⟨⟩) #[] ⟨⟩) #[] ⟨⟩ ⟨⟩) h_49 ⟨⟩ ⟨⟩) #[] ⟨⟩ ⟨⟩) #[] ⟨⟩) #[] ⟨⟩ ⟨⟩) h_49 ⟨⟩ ⟨⟩) #[] ⟨⟩ ⟨⟩) #[] ⟨⟩) #[] ⟨⟩ ⟨⟩) h_49 ⟨⟩ ⟨⟩) #[] ⟨⟩ ⟨⟩) #[] ⟨⟩) #[] ⟨⟩ ⟨⟩) h_49 ⟨⟩ ⟨⟩) #[] ⟨⟩ ⟨⟩) #[] ⟨⟩) #[] ⟨⟩ ⟨⟩) h_41 ⟨⟩ ⟨⟩) h_41 ⟨⟩ ⟨⟩) h_41 ⟨⟩ ⟨⟩) #[] ⟨⟩ ⟨⟩) #[] ⟨⟩) #[] ⟨⟩ ⟨⟩) h_41 ⟨⟩ ⟨⟩) #[] ⟨⟩ ⟨⟩) #[] ⟨⟩) h_41 ⟨⟩) #[] ⟨⟩) ⟨⟩ ⟨⟩) h_40 ⟨⟩) h_38 ⟨⟩ ⟨⟩) h_36 ⟨⟩ ⟨⟩) h_34 ⟨⟩ ⟨⟩) h_32 ⟨⟩ ⟨⟩) h_31 ⟨⟩) h_29 ⟨⟩ ⟨⟩) h_27 ⟨⟩ ⟨⟩) h_25 ⟨⟩ ⟨⟩) h_24 ⟨⟩) h_22 ⟨⟩ ⟨⟩) h_20 ⟨⟩ ⟨⟩) h_18 ⟨⟩ ⟨⟩) h_17 ⟨⟩) h_15 ⟨⟩ ⟨⟩) h_13 ⟨⟩ ⟨⟩) h_11 ⟨⟩ ⟨⟩) h_10 ⟨⟩) h_8 ⟨⟩ ⟨⟩) h_6 ⟨⟩ ⟨⟩) h_4 ⟨⟩ ⟨⟩) h_3 ⟨⟩) h_2 ⟨⟩) h_1 ⟨⟩) h ⟨⟩

theorem n22_calls {h0 : Value} {R : Value → Heap → Prop} {h : Heap} (H : n22 h0 R h) : CallsH Try.prog 22 #[h0] h R ⟨⟩ :=
  callsH_of_eq Try.follow (.n none .l (.n none .l (.n none .l (.n none .l (.n none .l (.n none .l (.n none (.n none .l (.n none (.n (some [6]) .l .l) .l)) .l))))))) Try.func22 (by kernel_rfl) (by kernel_rfl) (by kernel_rfl) H

/-- palimpsest/head.Cluster -/
def n23 (h0 : Value) (R : Value → Heap → Prop) (h : Heap) : Prop :=
  Hp Try.prog false (Instr.box 47 h0) (fun h1 h_1 => 
    Hp Try.prog false (Instr.loadAt 47 h1) (fun t3 h_2 => 
      CallsH Try.prog 64 #[t3, (.func (.func 65) #[] #[])] h_2 (fun t4 h_3 => 
        R t4 h_3) ⟨⟩) h_1 ⟨⟩) h ⟨⟩

theorem n23_calls {h0 : Value} {R : Value → Heap → Prop} {h : Heap} (H : n23 h0 R h) : CallsH Try.prog 23 #[h0] h R ⟨⟩ :=
  callsH_of_eq Try.follow .l Try.func23 (by kernel_rfl) (by kernel_rfl) (by kernel_rfl) H

/-- palimpsest/head.Entries -/
def n24 (h0 : Value) (R : Value → Heap → Prop) (h : Heap) : Prop :=
  Hp Try.prog false (Instr.box 47 h0) (fun h1 h_1 => 
    Hp Try.prog false (Instr.loadAt 47 h1) (fun t3 h_2 => 
      CallsH Try.prog 64 #[t3, (.func (.func 66) #[] #[])] h_2 (fun t4 h_3 => 
        R t4 h_3) ⟨⟩) h_1 ⟨⟩) h ⟨⟩

theorem n24_calls {h0 : Value} {R : Value → Heap → Prop} {h : Heap} (H : n24 h0 R h) : CallsH Try.prog 24 #[h0] h R ⟨⟩ :=
  callsH_of_eq Try.follow .l Try.func24 (by kernel_rfl) (by kernel_rfl) (by kernel_rfl) H

/-- palimpsest/head.Guest -/
def n25 (h0 : Value) (R : Value → Heap → Prop) (h : Heap) : Prop :=
  Hp Try.prog false (Instr.box 47 h0) (fun h1 h_1 => 
    Hp Try.prog false (Instr.loadAt 47 h1) (fun t3 h_2 => 
      Hp Try.prog false (pure (.func (.func 67) #[] #[h1])) (fun t4 h_3 => 
        CallsH Try.prog 64 #[t3, t4] h_3 (fun t5 h_4 => 
          R t5 h_4) ⟨⟩) h_2 ⟨⟩) h_1 ⟨⟩) h ⟨⟩

theorem n25_calls {h0 : Value} {R : Value → Heap → Prop} {h : Heap} (H : n25 h0 R h) : CallsH Try.prog 25 #[h0] h R ⟨⟩ :=
  callsH_of_eq Try.follow .l Try.func25 (by kernel_rfl) (by kernel_rfl) (by kernel_rfl) H

/-- palimpsest/head.Tables -/
def n26 (h0 : Value) (R : Value → Heap → Prop) (h : Heap) : Prop :=
  Hp Try.prog false (Instr.box 47 h0) (fun h1 h_1 => 
    Hp Try.prog false (Instr.loadAt 47 h1) (fun t3 h_2 => 
      Hp Try.prog false (pure (.func (.func 69) #[] #[h1])) (fun t4 h_3 => 
        CallsH Try.prog 64 #[t3, t4] h_3 (fun t5 h_4 => 
          R t5 h_4) ⟨⟩) h_2 ⟨⟩) h_1 ⟨⟩) h ⟨⟩

theorem n26_calls {h0 : Value} {R : Value → Heap → Prop} {h : Heap} (H : n26 h0 R h) : CallsH Try.prog 26 #[h0] h R ⟨⟩ :=
  callsH_of_eq Try.follow .l Try.func26 (by kernel_rfl) (by kernel_rfl) (by kernel_rfl) H

/-- palimpsest/palimpsestref08.Bytes -/
def n27 (h0 : Value) (R : Value → Heap → Prop) (h : Heap) : Prop :=
  Hp Try.prog false (Instr.box 47 h0) (fun h1 h_1 => 
    Hp Try.prog false (Instr.buildSlice 26 4 #[(0, (.int .u8 80)), (1, (.int .u8 65)), (2, (.int .u8 76)), (3, (.int .u8 49))]) (fun t4 h_2 => 
      Hp Try.prog false (convert 26 26 t4) (fun t5 h_3 => 
        Hp Try.prog false (Instr.fieldAt 47 h1 0) (fun t7 h_4 => 
          Hp Try.prog false (Instr.loadAt 3 t7) (fun t8 h_5 => 
            Hp Try.prog false (convert 3 45 t8) (fun t9 h_6 => 
              CallsH Try.prog 38 #[t9, (.int .i64 4)] h_6 (fun t10 h_7 => 
                Hp Try.prog false (Builtin.append_ #[26, 26] 26 #[t5, t10]) (fun t11 h_8 => 
                  Hp Try.prog false (Instr.fieldAt 47 h1 1) (fun t13 h_9 => 
                    Hp Try.prog false (Instr.loadAt 45 t13) (fun t14 h_10 => 
                      CallsH Try.prog 38 #[t14, (.int .i64 8)] h_10 (fun t15 h_11 => 
                        Hp Try.prog false (Builtin.append_ #[26, 26] 26 #[t11, t15]) (fun t16 h_12 => 
                          Hp Try.prog false (Instr.fieldAt 47 h1 2) (fun t18 h_13 => 
                            Hp Try.prog false (Instr.loadAt 2 t18) (fun t19 h_14 => 
                              Hp Try.prog false (convert 2 45 t19) (fun t20 h_15 => 
                                CallsH Try.prog 38 #[t20, (.int .i64 8)] h_15 (fun t21 h_16 => 
                                  Hp Try.prog false (Builtin.append_ #[26, 26] 26 #[t16, t21]) (fun t22 h_17 => 
                                    Hp Try.prog false (Instr.fieldAt 47 h1 3) (fun t24 h_18 => 
                                      Hp Try.prog false (Instr.loadAt 2 t24) (fun t25 h_19 => 
                                        Hp Try.prog false (convert 2 45 t25) (fun t26 h_20 => 
                                          CallsH Try.prog 38 #[t26, (.int .i64 8)] h_20 (fun t27 h_21 => 
                                            Hp Try.prog false (Builtin.append_ #[26, 26] 26 #[t22, t27]) (fun t28 h_22 => 
                                              Hp Try.prog false (Instr.fieldAt 47 h1 4) (fun t30 h_23 => 
                                                Hp Try.prog false (Instr.loadAt 3 t30) (fun t31 h_24 => 
                                                  Hp Try.prog false (convert 3 45 t31) (fun t32 h_25 => 
                                                    CallsH Try.prog 38 #[t32, (.int .i64 4)] h_25 (fun t33 h_26 => 
                                                      Hp Try.prog false (Builtin.append_ #[26, 26] 26 #[t28, t33]) (fun t34 h_27 => 
                                                        Hp Try.prog false (Instr.fieldAt 47 h1 5) (fun t36 h_28 => 
                                                          Hp Try.prog false (Instr.loadAt 3 t36) (fun t37 h_29 => 
                                                            Hp Try.prog false (convert 3 45 t37) (fun t38 h_30 => 
                                                              CallsH Try.prog 38 #[t38, (.int .i64 4)] h_30 (fun t39 h_31 => 
                                                                Hp Try.prog false (Builtin.append_ #[26, 26] 26 #[t34, t39]) (fun t40 h_32 => 
                                                                  Hp Try.prog false (Instr.fieldAt 47 h1 6) (fun t42 h_33 => 
                                                                    Hp Try.prog false (Instr.loadAt 2 t42) (fun t43 h_34 => 
                                                                      Hp Try.prog false (convert 2 45 t43) (fun t44 h_35 => 
                                                                        CallsH Try.prog 38 #[t44, (.int .i64 8)] h_35 (fun t45 h_36 => 
                                                                          Hp Try.prog false (Builtin.append_ #[26, 26] 26 #[t40, t45]) (fun t46 h_37 => 
                                                                            Hp Try.prog false (Instr.fieldAt 47 h1 7) (fun t48 h_38 => 
                                                                              Hp Try.prog false (Instr.loadAt 3 t48) (fun t49 h_39 => 
                                                                                Hp Try.prog false (convert 3 45 t49) (fun t50 h_40 => 
                                                                                  CallsH Try.prog 38 #[t50, (.int .i64 4)] h_40 (fun t51 h_41 => 
                                                                                    Hp Try.prog false (Builtin.append_ #[26, 26] 26 #[t46, t51]) (fun t52 h_42 => 
                                                                                      Hp Try.prog false (Instr.fieldAt 47 h1 8) (fun t54 h_43 => 
                                                                                        Hp Try.prog false (Instr.loadAt 3 t54) (fun t55 h_44 => 
                                                                                          Hp Try.prog false (convert 3 45 t55) (fun t56 h_45 => 
                                                                                            CallsH Try.prog 38 #[t56, (.int .i64 4)] h_45 (fun t57 h_46 => 
                                                                                              Hp Try.prog false (Builtin.append_ #[26, 26] 26 #[t52, t57]) (fun t58 h_47 => 
                                                                                                Hp Try.prog false (Instr.fieldAt 47 h1 9) (fun t60 h_48 => 
                                                                                                  Hp Try.prog false (Instr.loadAt 2 t60) (fun t61 h_49 => 
                                                                                                    Hp Try.prog false (convert 2 45 t61) (fun t62 h_50 => 
                                                                                                      CallsH Try.prog 38 #[t62, (.int .i64 8)] h_50 (fun t63 h_51 => 
                                                                                                        Hp Try.prog false (Builtin.append_ #[26, 26] 26 #[t58, t63]) (fun t64 h_52 => 
                                                                                                          Hp Try.prog false (Instr.fieldAt 47 h1 10) (fun t66 h_53 => 
                                                                                                            Hp Try.prog false (Instr.loadAt 3 t66) (fun t67 h_54 => 
                                                                                                              Hp Try.prog false (convert 3 45 t67) (fun t68 h_55 => 
                                                                                                                CallsH Try.prog 38 #[t68, (.int .i64 4)] h_55 (fun t69 h_56 => 
                                                                                                                  Hp Try.prog false (Builtin.append_ #[26, 26] 26 #[t64, t69]) (fun t70 h_57 => 
                                                                                                                    Hp Try.prog false (Instr.fieldAt 47 h1 11) (fun t72 h_58 => 
                                                                                                                      Hp Try.prog false (Instr.loadAt 3 t72) (fun t73 h_59 => 
                                                                                                                        Hp Try.prog false (convert 3 45 t73) (fun t74 h_60 => 
                                                                                                                          CallsH Try.prog 38 #[t74, (.int .i64 4)] h_60 (fun t75 h_61 => 
                                                                                                                            Hp Try.prog false (Builtin.append_ #[26, 26] 26 #[t70, t75]) (fun t76 h_62 => 
                                                                                                                              Hp Try.prog false (Instr.fieldAt 47 h1 12) (fun t78 h_63 => 
                                                                                                                                Hp Try.prog false (Instr.loadAt 2 t78) (fun t79 h_64 => 
                                                                                                                                  Hp Try.prog false (convert 2 45 t79) (fun t80 h_65 => 
                                                                                                                                    CallsH Try.prog 38 #[t80, (.int .i64 8)] h_65 (fun t81 h_66 => 
                                                                                                                                      Hp Try.prog false (Builtin.append_ #[26, 26] 26 #[t76, t81]) (fun t82 h_67 => 
                                                                                                                                        Hp Try.prog false (Instr.fieldAt 47 h1 13) (fun t84 h_68 => 
                                                                                                                                          Hp Try.prog false (Instr.loadAt 3 t84) (fun t85 h_69 => 
                                                                                                                                            Hp Try.prog false (convert 3 45 t85) (fun t86 h_70 => 
                                                                                                                                              CallsH Try.prog 38 #[t86, (.int .i64 4)] h_70 (fun t87 h_71 => 
                                                                                                                                                Hp Try.prog false (Builtin.append_ #[26, 26] 26 #[t82, t87]) (fun t88 h_72 => 
                                                                                                                                                  Hp Try.prog false (Instr.fieldAt 47 h1 14) (fun t90 h_73 => 
                                                                                                                                                    Hp Try.prog false (Instr.loadAt 9 t90) (fun t91 h_74 => 
                                                                                                                                                      Hp Try.prog false (Builtin.len_ #[9] 3 #[t91]) (fun t92 h_75 => 
                                                                                                                                                        Hp Try.prog false (convert 3 45 t92) (fun t93 h_76 => 
                                                                                                                                                          CallsH Try.prog 38 #[t93, (.int .i64 4)] h_76 (fun t94 h_77 => 
                                                                                                                                                            Hp Try.prog false (Builtin.append_ #[26, 26] 26 #[t88, t94]) (fun t95 h_78 => 
                                                                                                                                                              Hp Try.prog false (Instr.fieldAt 47 h1 14) (fun t97 h_79 => 
                                                                                                                                                                Hp Try.prog false (Instr.loadAt 9 t97) (fun t98 h_80 => 
                                                                                                                                                                  Hp Try.prog false (Builtin.append_ #[26, 9] 26 #[t95, t98]) (fun t99 h_81 => 
                                                                                                                                                                    LoopC 1 (fun (X : Value → Heap → Prop) => fun out3 h_82 =>
                                                                                                                                                                      Hp Try.prog false (Builtin.len_ #[26] 3 #[out3]) (fun t101 h_83 => 
                                                                                                                                                                        Hp Try.prog false (binS .lss 3 (.tmp 101) (.const (.int .i64 512)) t101 (.int .i64 512)) (fun t102 h_84 => 
                                                                                                                                                                          CondP t102 (
                                                                                                                                                                            Hp Try.prog false (Instr.buildSlice 26 1 #[(0, (.int .u8 0))]) (fun t104 h_85 => 
                                                                                                                                                                              Hp Try.prog false (Builtin.append_ #[26, 26] 26 #[out3, t104]) (fun t105 h_86 => 
                                                                                                                                                                                X t105 h_86) h_85 ⟨⟩) h_84 ⟨⟩) (
                                                                                                                                                                            R out3 h_84) ⟨⟩ ⟨⟩) h_83 ⟨⟩) h_82 ⟨⟩) [t99] h_81 ⟨⟩) h_80 ⟨⟩) h_79 ⟨⟩) h_78 ⟨⟩) h_77 ⟨⟩) ⟨⟩) h_75 ⟨⟩) h_74 ⟨⟩) h_73 ⟨⟩) h_72 ⟨⟩) h_71 ⟨⟩) ⟨⟩) h_69 ⟨⟩) h_68 ⟨⟩) h_67 ⟨⟩) h_66 ⟨⟩) ⟨⟩) h_64 ⟨⟩) h_63 ⟨⟩) h_62 ⟨⟩) h_61 ⟨⟩) ⟨⟩) h_59 ⟨⟩) h_58 ⟨⟩) h_57 ⟨⟩) h_56 ⟨⟩) ⟨⟩) h_54 ⟨⟩) h_53 ⟨⟩) h_52 ⟨⟩) h_51 ⟨⟩) ⟨⟩) h_49 ⟨⟩) h_48 ⟨⟩) h_47 ⟨⟩) h_46 ⟨⟩) ⟨⟩) h_44 ⟨⟩) h_43 ⟨⟩) h_42 ⟨⟩) h_41 ⟨⟩) ⟨⟩) h_39 ⟨⟩) h_38 ⟨⟩) h_37 ⟨⟩) h_36 ⟨⟩) ⟨⟩) h_34 ⟨⟩) h_33 ⟨⟩) h_32 ⟨⟩) h_31 ⟨⟩) ⟨⟩) h_29 ⟨⟩) h_28 ⟨⟩) h_27 ⟨⟩) h_26 ⟨⟩) ⟨⟩) h_24 ⟨⟩) h_23 ⟨⟩) h_22 ⟨⟩) h_21 ⟨⟩) ⟨⟩) h_19 ⟨⟩) h_18 ⟨⟩) h_17 ⟨⟩) h_16 ⟨⟩) ⟨⟩) h_14 ⟨⟩) h_13 ⟨⟩) h_12 ⟨⟩) h_11 ⟨⟩) ⟨⟩) h_9 ⟨⟩) h_8 ⟨⟩) h_7 ⟨⟩) ⟨⟩) h_5 ⟨⟩) h_4 ⟨⟩) h_3 ⟨⟩) h_2 ⟨⟩) h_1 ⟨⟩) h ⟨⟩

theorem n27_calls {h0 : Value} {R : Value → Heap → Prop} {h : Heap} (H : n27 h0 R h) : CallsH Try.prog 27 #[h0] h R ⟨⟩ :=
  callsH_of_eq Try.follow (.n none .l (.n none .l (.n none .l (.n none .l (.n none .l (.n none .l (.n none .l (.n none .l (.n none .l (.n none .l (.n none .l (.n none .l (.n none .l (.n none .l (.n none .l (.n none .l (.n none .l (.n none .l (.n none (.n none (.n (some [4]) .l .l) .l) .l))))))))))))))))))) Try.func27 (by kernel_rfl) (by kernel_rfl) (by kernel_rfl) H

/-- palimpsest/palimpsestref08.Guest -/
def n29 (h0 : Value) (R : Value → Heap → Prop) (h : Heap) : Prop :=
  Hp Try.prog false (Instr.box 47 h0) (fun h1 h_1 => 
    Hp Try.prog true (Instr.fieldAt 47 h1 2) (fun t3 _ => 
      Hp Try.prog true (Instr.loadAt 2 t3) (fun t4 _ => 
        Hp Try.prog true (Instr.fieldAt 47 h1 0) (fun t5 _ => 
          Hp Try.prog true (Instr.loadAt 3 t5) (fun t6 _ => 
            CallsH Try.prog 28 #[t6] h_1 (fun t7 h_2 => Hp Try.prog true (Instr.loadAt 2 t3) (fun u _ => u = t4) h_2 ⟨⟩ ∧ 
              CallsH Try.prog 70 #[t4, t7] h_2 (fun t8 h_3 => 
                R t8 h_3) ⟨⟩) ⟨⟩) h_1 ⟨⟩) #[] ⟨⟩) h_1 ⟨⟩) #[] ⟨⟩) h ⟨⟩

theorem n29_calls {h0 : Value} {R : Value → Heap → Prop} {h : Heap} (H : n29 h0 R h) : CallsH Try.prog 29 #[h0] h R ⟨⟩ :=
  callsH_of_eq Try.follow .l Try.func29 (by kernel_rfl) (by kernel_rfl) (by kernel_rfl) H

/-- palimpsest/palimpsestref08.Tables -/
def n30 (h0 : Value) (R : Value → Heap → Prop) (h : Heap) : Prop :=
  Hp Try.prog false (Instr.box 47 h0) (fun h1 h_1 => 
    Hp Try.prog true (Instr.loadAt 47 h1) (fun t3 _ => 
      Hp Try.prog true (Instr.fieldAt 47 h1 0) (fun t5 _ => 
        Hp Try.prog true (Instr.loadAt 3 t5) (fun t6 _ => 
          CallsH Try.prog 29 #[t3] h_1 (fun t4 h_2 => Hp Try.prog true (Instr.loadAt 3 t5) (fun u _ => u = t6) h_2 ⟨⟩ ∧ 
            CallsH Try.prog 28 #[t6] h_2 (fun t7 h_3 => 
              Hp Try.prog true (binS .quo 2 (.tmp 7) (.const (.int .i64 8)) t7 (.int .i64 8)) (fun t8 _ => 
                CallsH Try.prog 70 #[t4, t8] h_3 (fun t9 h_4 => 
                  R t9 h_4) ⟨⟩) #[] ⟨⟩) ⟨⟩) ⟨⟩) h_1 ⟨⟩) #[] ⟨⟩) h_1 ⟨⟩) h ⟨⟩

theorem n30_calls {h0 : Value} {R : Value → Heap → Prop} {h : Heap} (H : n30 h0 R h) : CallsH Try.prog 30 #[h0] h R ⟨⟩ :=
  callsH_of_eq Try.follow .l Try.func30 (by kernel_rfl) (by kernel_rfl) (by kernel_rfl) H

/-- palimpsest/palimpsestlaw08.some -/
def n48 (R : Value → Heap → Prop) (h : Heap) : Prop :=
  Hp Try.prog false (Instr.alloc 47 true undef) (fun t0 h_1 => 
    Hp Try.prog false (Instr.build 47 #[(0, (.int .i64 9)), (2, (.int .i64 1024)), (3, (.int .i64 1024)), (4, (.int .i64 1)), (5, (.int .i64 4)), (6, (.int .i64 512)), (7, (.int .i64 1))]) (fun t1 h_2 => 
      Hp Try.prog false (storeS 47 t0 t1) (fun _ h_3 => 
        Hp Try.prog true (loadCell 47 t0) (fun r _ =>
          R r h_3) h_3 ⟨⟩) h_2 ⟨⟩) h_1 ⟨⟩) h ⟨⟩

theorem n48_calls {R : Value → Heap → Prop} {h : Heap} (H : n48  R h) : CallsH Try.prog 48 #[] h R ⟨⟩ :=
  callsH_of_eq Try.follow .l Try.func48 (by kernel_rfl) (by kernel_rfl) (by kernel_rfl) H

/-- palimpsest/head.Read$1 -/
def n49 (at0 n1 t2 : Value) (R : Value → Heap → Prop) (h : Heap) : Prop :=
  Hp Try.prog false (Instr.loadAt 26 t2) (fun t9 h_1 => 
    CallsH Try.prog 50 #[t9, at0, n1] h_1 (fun t12 h_2 => 
      Hp Try.prog false (Instr.extract t12 0) (fun t13 h_3 => 
        Hp Try.prog false (Instr.extract t12 1) (fun t14 h_4 => 
          Hp Try.prog false (convert 45 2 t13) (fun t16 h_5 => 
            R t16 h_5) h_4 ⟨⟩) h_3 ⟨⟩) h_2 ⟨⟩) ⟨⟩) h ⟨⟩

theorem n49_calls {at0 n1 t2 : Value} {R : Value → Heap → Prop} {h : Heap} (H : n49 at0 n1 t2 R h) : CallsH Try.prog 49 #[at0, n1, t2] h R ⟨⟩ :=
  callsH_of_eq Try.follow .l Try.func49 (by kernel_rfl) (by kernel_rfl) (by kernel_rfl) H

/-- palimpsest/head.fields -/
def n55 (h0 : Value) (R : Value → Heap → Prop) (h : Heap) : Prop :=
  Hp Try.prog false (Instr.box 47 h0) (fun h1 h_1 => 
    Hp Try.prog false (Instr.fieldAt 47 h1 0) (fun t3 h_2 => 
      Hp Try.prog false (Instr.loadAt 3 t3) (fun t4 h_3 => 
        Hp Try.prog false (convert 3 45 t4) (fun t5 h_4 => 
          Hp Try.prog false (Instr.build 91 #[(0, (.int .i64 4)), (1, (.int .i64 4)), (2, t5)]) (fun t6 h_5 => 
            Hp Try.prog false (Instr.fieldAt 47 h1 1) (fun t7 h_6 => 
              Hp Try.prog false (Instr.loadAt 45 t7) (fun t8 h_7 => 
                Hp Try.prog false (Instr.build 91 #[(0, (.int .i64 8)), (1, (.int .i64 8)), (2, t8)]) (fun t9 h_8 => 
                  Hp Try.prog false (Instr.fieldAt 47 h1 2) (fun t10 h_9 => 
                    Hp Try.prog false (Instr.loadAt 2 t10) (fun t11 h_10 => 
                      Hp Try.prog false (convert 2 45 t11) (fun t12 h_11 => 
                        Hp Try.prog false (Instr.build 91 #[(0, (.int .i64 16)), (1, (.int .i64 8)), (2, t12)]) (fun t13 h_12 => 
                          Hp Try.prog false (Instr.fieldAt 47 h1 3) (fun t14 h_13 => 
                            Hp Try.prog false (Instr.loadAt 2 t14) (fun t15 h_14 => 
                              Hp Try.prog false (convert 2 45 t15) (fun t16 h_15 => 
                                Hp Try.prog false (Instr.build 91 #[(0, (.int .i64 24)), (1, (.int .i64 8)), (2, t16)]) (fun t17 h_16 => 
                                  Hp Try.prog false (Instr.fieldAt 47 h1 4) (fun t18 h_17 => 
                                    Hp Try.prog false (Instr.loadAt 3 t18) (fun t19 h_18 => 
                                      Hp Try.prog false (convert 3 45 t19) (fun t20 h_19 => 
                                        Hp Try.prog false (Instr.build 91 #[(0, (.int .i64 32)), (1, (.int .i64 4)), (2, t20)]) (fun t21 h_20 => 
                                          Hp Try.prog false (Instr.fieldAt 47 h1 5) (fun t22 h_21 => 
                                            Hp Try.prog false (Instr.loadAt 3 t22) (fun t23 h_22 => 
                                              Hp Try.prog false (convert 3 45 t23) (fun t24 h_23 => 
                                                Hp Try.prog false (Instr.build 91 #[(0, (.int .i64 36)), (1, (.int .i64 4)), (2, t24)]) (fun t25 h_24 => 
                                                  Hp Try.prog false (Instr.fieldAt 47 h1 6) (fun t26 h_25 => 
                                                    Hp Try.prog false (Instr.loadAt 2 t26) (fun t27 h_26 => 
                                                      Hp Try.prog false (convert 2 45 t27) (fun t28 h_27 => 
                                                        Hp Try.prog false (Instr.build 91 #[(0, (.int .i64 40)), (1, (.int .i64 8)), (2, t28)]) (fun t29 h_28 => 
                                                          Hp Try.prog false (Instr.fieldAt 47 h1 7) (fun t30 h_29 => 
                                                            Hp Try.prog false (Instr.loadAt 3 t30) (fun t31 h_30 => 
                                                              Hp Try.prog false (convert 3 45 t31) (fun t32 h_31 => 
                                                                Hp Try.prog false (Instr.build 91 #[(0, (.int .i64 48)), (1, (.int .i64 4)), (2, t32)]) (fun t33 h_32 => 
                                                                  Hp Try.prog false (Instr.fieldAt 47 h1 8) (fun t34 h_33 => 
                                                                    Hp Try.prog false (Instr.loadAt 3 t34) (fun t35 h_34 => 
                                                                      Hp Try.prog false (convert 3 45 t35) (fun t36 h_35 => 
                                                                        Hp Try.prog false (Instr.build 91 #[(0, (.int .i64 52)), (1, (.int .i64 4)), (2, t36)]) (fun t37 h_36 => 
                                                                          Hp Try.prog false (Instr.fieldAt 47 h1 9) (fun t38 h_37 => 
                                                                            Hp Try.prog false (Instr.loadAt 2 t38) (fun t39 h_38 => 
                                                                              Hp Try.prog false (convert 2 45 t39) (fun t40 h_39 => 
                                                                                Hp Try.prog false (Instr.build 91 #[(0, (.int .i64 56)), (1, (.int .i64 8)), (2, t40)]) (fun t41 h_40 => 
                                                                                  Hp Try.prog false (Instr.fieldAt 47 h1 10) (fun t42 h_41 => 
                                                                                    Hp Try.prog false (Instr.loadAt 3 t42) (fun t43 h_42 => 
                                                                                      Hp Try.prog false (convert 3 45 t43) (fun t44 h_43 => 
                                                                                        Hp Try.prog false (Instr.build 91 #[(0, (.int .i64 64)), (1, (.int .i64 4)), (2, t44)]) (fun t45 h_44 => 
                                                                                          Hp Try.prog false (Instr.fieldAt 47 h1 11) (fun t46 h_45 => 
                                                                                            Hp Try.prog false (Instr.loadAt 3 t46) (fun t47 h_46 => 
                                                                                              Hp Try.prog false (convert 3 45 t47) (fun t48 h_47 => 
                                                                                                Hp Try.prog false (Instr.build 91 #[(0, (.int .i64 68)), (1, (.int .i64 4)), (2, t48)]) (fun t49 h_48 => 
                                                                                                  Hp Try.prog false (Instr.fieldAt 47 h1 12) (fun t50 h_49 => 
                                                                                                    Hp Try.prog false (Instr.loadAt 2 t50) (fun t51 h_50 => 
                                                                                                      Hp Try.prog false (convert 2 45 t51) (fun t52 h_51 => 
                                                                                                        Hp Try.prog false (Instr.build 91 #[(0, (.int .i64 72)), (1, (.int .i64 8)), (2, t52)]) (fun t53 h_52 => 
                                                                                                          Hp Try.prog false (Instr.fieldAt 47 h1 13) (fun t54 h_53 => 
                                                                                                            Hp Try.prog false (Instr.loadAt 3 t54) (fun t55 h_54 => 
                                                                                                              Hp Try.prog false (convert 3 45 t55) (fun t56 h_55 => 
                                                                                                                Hp Try.prog false (Instr.build 91 #[(0, (.int .i64 80)), (1, (.int .i64 4)), (2, t56)]) (fun t57 h_56 => 
                                                                                                                  Hp Try.prog false (Instr.buildSlice 88 14 #[(0, t6), (1, t9), (2, t13), (3, t17), (4, t21), (5, t25), (6, t29), (7, t33), (8, t37), (9, t41), (10, t45), (11, t49), (12, t53), (13, t57)]) (fun t58 h_57 => 
                                                                                                                    R t58 h_57) h_56 ⟨⟩) h_55 ⟨⟩) h_54 ⟨⟩) h_53 ⟨⟩) h_52 ⟨⟩) h_51 ⟨⟩) h_50 ⟨⟩) h_49 ⟨⟩) h_48 ⟨⟩) h_47 ⟨⟩) h_46 ⟨⟩) h_45 ⟨⟩) h_44 ⟨⟩) h_43 ⟨⟩) h_42 ⟨⟩) h_41 ⟨⟩) h_40 ⟨⟩) h_39 ⟨⟩) h_38 ⟨⟩) h_37 ⟨⟩) h_36 ⟨⟩) h_35 ⟨⟩) h_34 ⟨⟩) h_33 ⟨⟩) h_32 ⟨⟩) h_31 ⟨⟩) h_30 ⟨⟩) h_29 ⟨⟩) h_28 ⟨⟩) h_27 ⟨⟩) h_26 ⟨⟩) h_25 ⟨⟩) h_24 ⟨⟩) h_23 ⟨⟩) h_22 ⟨⟩) h_21 ⟨⟩) h_20 ⟨⟩) h_19 ⟨⟩) h_18 ⟨⟩) h_17 ⟨⟩) h_16 ⟨⟩) h_15 ⟨⟩) h_14 ⟨⟩) h_13 ⟨⟩) h_12 ⟨⟩) h_11 ⟨⟩) h_10 ⟨⟩) h_9 ⟨⟩) h_8 ⟨⟩) h_7 ⟨⟩) h_6 ⟨⟩) h_5 ⟨⟩) h_4 ⟨⟩) h_3 ⟨⟩) h_2 ⟨⟩) h_1 ⟨⟩) h ⟨⟩

theorem n55_calls {h0 : Value} {R : Value → Heap → Prop} {h : Heap} (H : n55 h0 R h) : CallsH Try.prog 55 #[h0] h R ⟨⟩ :=
  callsH_of_eq Try.follow .l Try.func55 (by kernel_rfl) (by kernel_rfl) (by kernel_rfl) H

/-- palimpsest/head.Check$1 -/
def n58 (at0 t1 : Value) (R : Value → Heap → Prop) (h : Heap) : Prop :=
  Hp Try.prog false (binS .gtr 2 (.tmp 4) (.const (.int .i64 0)) at0 (.int .i64 0)) (fun t5 h_1 => 
    Join1 (fun k h_2 => guardP t5 true (k at0 h_2) (k undef h_2) ⟨⟩ ⟨⟩) (fun t7 h_3 => 
      Join1 (fun k_1 h_4 => guardP t5 true (Hp Try.prog false (binS .leq 2 (.tmp 7) (.const (.int .i64 268435456)) t7 (.int .i64 268435456)) k_1 h_4 ⟨⟩) (k_1 undef h_4) ⟨⟩ ⟨⟩) (fun t8 h_5 => 
        Hp Try.prog false (pickS t5 t8 (.bool false)) (fun t9 h_6 => 
          Join1 (fun k_2 h_7 => guardP t9 true (k_2 at0 h_7) (k_2 undef h_7) ⟨⟩ ⟨⟩) (fun t11 h_8 => 
            Join1 (fun k_3 h_9 => guardP t9 true (Hp Try.prog false (Instr.loadAt 2 t1) k_3 h_9 ⟨⟩) (k_3 undef h_9) ⟨⟩ ⟨⟩) (fun t12 h_10 => 
              Join1 (fun k_4 h_11 => guardP t9 true (Hp Try.prog false (binS .rem 2 (.tmp 11) (.tmp 12) t11 t12) k_4 h_11 ⟨⟩) (k_4 undef h_11) ⟨⟩ ⟨⟩) (fun t13 h_12 => 
                Join1 (fun k_5 h_13 => guardP t9 true (Hp Try.prog false (binS .eql 2 (.tmp 13) (.const (.int .i64 0)) t13 (.int .i64 0)) k_5 h_13 ⟨⟩) (k_5 undef h_13) ⟨⟩ ⟨⟩) (fun t14 h_14 => 
                  Hp Try.prog false (pickS t9 t14 (.bool false)) (fun t15 h_15 => 
                    R t15 h_15) h_14 ⟨⟩) h_12 ⟨⟩ ⟨⟩) h_10 ⟨⟩ ⟨⟩) h_8 ⟨⟩ ⟨⟩) h_6 ⟨⟩ ⟨⟩) h_5 ⟨⟩) h_3 ⟨⟩ ⟨⟩) h_1 ⟨⟩ ⟨⟩) h ⟨⟩

theorem n58_calls {at0 t1 : Value} {R : Value → Heap → Prop} {h : Heap} (H : n58 at0 t1 R h) : CallsH Try.prog 58 #[at0, t1] h R ⟨⟩ :=
  callsH_of_eq Try.follow .l Try.func58 (by kernel_rfl) (by kernel_rfl) (by kernel_rfl) H

/-- palimpsest/head.Check$2 -/
def n59 (n0 most1 at2 long3 t4 : Value) (R : Value → Heap → Prop) (h : Heap) : Prop :=
  Hp Try.prog false (binS .eql 3 (.tmp 10) (.const (.int .i64 0)) n0 (.int .i64 0)) (fun t11 h_1 => 
    CondP t11 (
      Hp Try.prog false (binS .eql 2 (.tmp 12) (.const (.int .i64 0)) at2 (.int .i64 0)) (fun t13 h_2 => 
        Join1 (fun k h_3 => guardP t13 true (k long3 h_3) (k undef h_3) ⟨⟩ ⟨⟩) (fun t15 h_4 => 
          Join1 (fun k_1 h_5 => guardP t13 true (Hp Try.prog false (binS .eql 3 (.tmp 15) (.const (.int .i64 0)) t15 (.int .i64 0)) k_1 h_5 ⟨⟩) (k_1 undef h_5) ⟨⟩ ⟨⟩) (fun t16 h_6 => 
            Hp Try.prog false (pickS t13 t16 (.bool false)) (fun t17 h_7 => 
              R t17 h_7) h_6 ⟨⟩) h_4 ⟨⟩ ⟨⟩) h_2 ⟨⟩ ⟨⟩) h_1 ⟨⟩) (
      Hp Try.prog false (binS .gtr 3 (.tmp 18) (.const (.int .i64 0)) n0 (.int .i64 0)) (fun t19 h_8 => 
        Join1 (fun k_2 h_9 => guardP t19 true (k_2 n0 h_9) (k_2 undef h_9) ⟨⟩ ⟨⟩) (fun t21 h_10 => 
          Join1 (fun k_3 h_11 => guardP t19 true (k_3 most1 h_11) (k_3 undef h_11) ⟨⟩ ⟨⟩) (fun t22 h_12 => 
            Join1 (fun k_4 h_13 => guardP t19 true (Hp Try.prog false (binS .leq 3 (.tmp 21) (.tmp 22) t21 t22) k_4 h_13 ⟨⟩) (k_4 undef h_13) ⟨⟩ ⟨⟩) (fun t23 h_14 => 
              Hp Try.prog false (pickS t19 t23 (.bool false)) (fun t24 h_15 => 
                Join1 (fun k_5 h_16 => guardP t24 true (Hp Try.prog false (Instr.loadAt 94 t4) k_5 h_16 ⟨⟩) (k_5 undef h_16) ⟨⟩ ⟨⟩) (fun t26 h_17 => 
                  Join1 (fun k_6 h_18 => guardP t24 true (k_6 at2 h_18) (k_6 undef h_18) ⟨⟩ ⟨⟩) (fun t27 h_19 => 
                    Join1 (fun k_7 h_20 => guardP t24 true (InvokeH Try.prog t26 #[t27] h_20 k_7 ⟨⟩) (k_7 undef h_20) ⟨⟩ ⟨⟩) (fun t28 h_21 => 
                      Hp Try.prog false (pickS t24 t28 (.bool false)) (fun t29 h_22 => 
                        Join1 (fun k_8 h_23 => guardP t29 true (k_8 long3 h_23) (k_8 undef h_23) ⟨⟩ ⟨⟩) (fun t31 h_24 => 
                          Join1 (fun k_9 h_25 => guardP t29 true (Hp Try.prog false (binS .geq 3 (.tmp 31) (.const (.int .i64 1)) t31 (.int .i64 1)) k_9 h_25 ⟨⟩) (k_9 undef h_25) ⟨⟩ ⟨⟩) (fun t32 h_26 => 
                            Hp Try.prog false (pickS t29 t32 (.bool false)) (fun t33 h_27 => 
                              Join1 (fun k_10 h_28 => guardP t33 true (k_10 long3 h_28) (k_10 undef h_28) ⟨⟩ ⟨⟩) (fun t35 h_29 => 
                                Join1 (fun k_11 h_30 => guardP t33 true (Hp Try.prog false (binS .leq 3 (.tmp 35) (.const (.int .i64 65536)) t35 (.int .i64 65536)) k_11 h_30 ⟨⟩) (k_11 undef h_30) ⟨⟩ ⟨⟩) (fun t36 h_31 => 
                                  Hp Try.prog false (pickS t33 t36 (.bool false)) (fun t37 h_32 => 
                                    R t37 h_32) h_31 ⟨⟩) h_29 ⟨⟩ ⟨⟩) h_27 ⟨⟩ ⟨⟩) h_26 ⟨⟩) h_24 ⟨⟩ ⟨⟩) h_22 ⟨⟩ ⟨⟩) h_21 ⟨⟩) h_19 ⟨⟩ ⟨⟩) h_17 ⟨⟩ ⟨⟩) h_15 ⟨⟩ ⟨⟩) h_14 ⟨⟩) h_12 ⟨⟩ ⟨⟩) h_10 ⟨⟩ ⟨⟩) h_8 ⟨⟩ ⟨⟩) h_1 ⟨⟩) ⟨⟩ ⟨⟩) h ⟨⟩

theorem n59_calls {n0 most1 at2 long3 t4 : Value} {R : Value → Heap → Prop} {h : Heap} (H : n59 n0 most1 at2 long3 t4 R h) : CallsH Try.prog 59 #[n0, most1, at2, long3, t4] h R ⟨⟩ :=
  callsH_of_eq Try.follow .l Try.func59 (by kernel_rfl) (by kernel_rfl) (by kernel_rfl) H

/-- palimpsest/head.tables -/
def n60 (h0 : Value) (R : Value → Heap → Prop) (h : Heap) : Prop :=
  Hp Try.prog false (Instr.box 47 h0) (fun h1 h_1 => 
    Hp Try.prog false (Instr.fieldAt 47 h1 0) (fun t4 h_2 => 
      Hp Try.prog false (Instr.loadAt 3 t4) (fun t5 h_3 => 
        Hp Try.prog false (binS .shl 2 (.const (.int .i64 1)) (.tmp 5) (.int .i64 1) t5) (fun t6 h_4 => 
          Hp Try.prog false (Instr.fieldAt 47 h1 2) (fun t7 h_5 => 
            Hp Try.prog false (Instr.loadAt 2 t7) (fun t8 h_6 => 
              CallsH Try.prog 68 #[t8, t6] h_6 (fun t10 h_7 => 
                Hp Try.prog false (binS .quo 2 (.tmp 11) (.const (.int .i64 8)) t6 (.int .i64 8)) (fun t12 h_8 => 
                  CallsH Try.prog 68 #[t10, t12] h_8 (fun t13 h_9 => 
                    R t13 h_9) ⟨⟩) h_7 ⟨⟩) ⟨⟩) h_5 ⟨⟩) h_4 ⟨⟩) h_3 ⟨⟩) h_2 ⟨⟩) h_1 ⟨⟩) h ⟨⟩

theorem n60_calls {h0 : Value} {R : Value → Heap → Prop} {h : Heap} (H : n60 h0 R h) : CallsH Try.prog 60 #[h0] h R ⟨⟩ :=
  callsH_of_eq Try.follow .l Try.func60 (by kernel_rfl) (by kernel_rfl) (by kernel_rfl) H

/-- palimpsest/palimpsestref08.list -/
def n63 (n0 at1 long2 bits3 : Value) (R : Value → Heap → Prop) (h : Heap) : Prop :=
  Hp Try.prog false (binS .eql 3 (.tmp 9) (.const (.int .i64 0)) n0 (.int .i64 0)) (fun t10 h_1 => 
    CondP t10 (
      Hp Try.prog false (binS .eql 2 (.tmp 11) (.const (.int .i64 0)) at1 (.int .i64 0)) (fun t12 h_2 => 
        Join1 (fun k h_3 => guardP t12 true (k long2 h_3) (k undef h_3) ⟨⟩ ⟨⟩) (fun t14 h_4 => 
          Join1 (fun k_1 h_5 => guardP t12 true (Hp Try.prog false (binS .eql 3 (.tmp 14) (.const (.int .i64 0)) t14 (.int .i64 0)) k_1 h_5 ⟨⟩) (k_1 undef h_5) ⟨⟩ ⟨⟩) (fun t15 h_6 => 
            Hp Try.prog false (pickS t12 t15 (.bool false)) (fun t16 h_7 => 
              R t16 h_7) h_6 ⟨⟩) h_4 ⟨⟩ ⟨⟩) h_2 ⟨⟩ ⟨⟩) h_1 ⟨⟩) (
      Hp Try.prog false (binS .gtr 3 (.tmp 17) (.const (.int .i64 0)) n0 (.int .i64 0)) (fun t18 h_8 => 
        Join1 (fun k_2 h_9 => guardP t18 true (k_2 n0 h_9) (k_2 undef h_9) ⟨⟩ ⟨⟩) (fun t20 h_10 => 
          Join1 (fun k_3 h_11 => guardP t18 true (Hp Try.prog false (binS .leq 3 (.tmp 20) (.const (.int .i64 64)) t20 (.int .i64 64)) k_3 h_11 ⟨⟩) (k_3 undef h_11) ⟨⟩ ⟨⟩) (fun t21 h_12 => 
            Hp Try.prog false (pickS t18 t21 (.bool false)) (fun t22 h_13 => 
              Join1 (fun k_4 h_14 => guardP t22 true (k_4 at1 h_14) (k_4 undef h_14) ⟨⟩ ⟨⟩) (fun t24 h_15 => 
                Join1 (fun k_5 h_16 => guardP t22 true (k_5 bits3 h_16) (k_5 undef h_16) ⟨⟩ ⟨⟩) (fun t25 h_17 => 
                  Join1 (fun k_6 h_18 => guardP t22 true (CallsH Try.prog 62 #[t24, t25] h_18 k_6 ⟨⟩) (k_6 undef h_18) ⟨⟩ ⟨⟩) (fun t26 h_19 => 
                    Hp Try.prog false (pickS t22 t26 (.bool false)) (fun t27 h_20 => 
                      Join1 (fun k_7 h_21 => guardP t27 true (k_7 long2 h_21) (k_7 undef h_21) ⟨⟩ ⟨⟩) (fun t29 h_22 => 
                        Join1 (fun k_8 h_23 => guardP t27 true (Hp Try.prog false (binS .geq 3 (.tmp 29) (.const (.int .i64 1)) t29 (.int .i64 1)) k_8 h_23 ⟨⟩) (k_8 undef h_23) ⟨⟩ ⟨⟩) (fun t30 h_24 => 
                          Hp Try.prog false (pickS t27 t30 (.bool false)) (fun t31 h_25 => 
                            Join1 (fun k_9 h_26 => guardP t31 true (k_9 long2 h_26) (k_9 undef h_26) ⟨⟩ ⟨⟩) (fun t33 h_27 => 
                              Join1 (fun k_10 h_28 => guardP t31 true (Hp Try.prog false (binS .leq 3 (.tmp 33) (.const (.int .i64 65536)) t33 (.int .i64 65536)) k_10 h_28 ⟨⟩) (k_10 undef h_28) ⟨⟩ ⟨⟩) (fun t34 h_29 => 
                                Hp Try.prog false (pickS t31 t34 (.bool false)) (fun t35 h_30 => 
                                  R t35 h_30) h_29 ⟨⟩) h_27 ⟨⟩ ⟨⟩) h_25 ⟨⟩ ⟨⟩) h_24 ⟨⟩) h_22 ⟨⟩ ⟨⟩) h_20 ⟨⟩ ⟨⟩) h_19 ⟨⟩) h_17 ⟨⟩ ⟨⟩) h_15 ⟨⟩ ⟨⟩) h_13 ⟨⟩ ⟨⟩) h_12 ⟨⟩) h_10 ⟨⟩ ⟨⟩) h_8 ⟨⟩ ⟨⟩) h_1 ⟨⟩) ⟨⟩ ⟨⟩) h ⟨⟩

theorem n63_calls {n0 at1 long2 bits3 : Value} {R : Value → Heap → Prop} {h : Heap} (H : n63 n0 at1 long2 bits3 R h) : CallsH Try.prog 63 #[n0, at1, long2, bits3] h R ⟨⟩ :=
  callsH_of_eq Try.follow .l Try.func63 (by kernel_rfl) (by kernel_rfl) (by kernel_rfl) H

/-- palimpsest/head.asked -/
def n64 (h0 tell1 : Value) (R : Value → Heap → Prop) (h : Heap) : Prop :=
  Hp Try.prog false (Instr.box 47 h0) (fun h2 h_1 => 
    Hp Try.prog false (Instr.loadAt 47 h2) (fun t5 h_2 => 
      CallsH Try.prog 21 #[t5] h_2 (fun t6 h_3 => 
        Hp Try.prog false (binS .neq 27 (.tmp 6) (.const (.int .i64 0)) t6 (.int .i64 0)) (fun t7 h_4 => 
          CondP t7 (
            R (.int .i64 0) h_4) (
            Hp Try.prog false (Instr.fieldAt 47 h2 0) (fun t9 h_5 => 
              Hp Try.prog false (Instr.loadAt 3 t9) (fun t10 h_6 => 
                Hp Try.prog false (binS .shl 2 (.const (.int .i64 1)) (.tmp 10) (.int .i64 1) t10) (fun t11 h_7 => 
                  InvokeH Try.prog tell1 #[t11] h_7 (fun t12 h_8 => 
                    R t12 h_8) ⟨⟩) h_6 ⟨⟩) h_5 ⟨⟩) h_4 ⟨⟩) ⟨⟩ ⟨⟩) h_3 ⟨⟩) ⟨⟩) h_1 ⟨⟩) h ⟨⟩

theorem n64_calls {h0 tell1 : Value} {R : Value → Heap → Prop} {h : Heap} (H : n64 h0 tell1 R h) : CallsH Try.prog 64 #[h0, tell1] h R ⟨⟩ :=
  callsH_of_eq Try.follow .l Try.func64 (by kernel_rfl) (by kernel_rfl) (by kernel_rfl) H

/-- palimpsest/head.Cluster$1 -/
def n65 (c0 : Value) (R : Value → Heap → Prop) (h : Heap) : Prop :=
  R c0 h

theorem n65_calls {c0 : Value} {R : Value → Heap → Prop} {h : Heap} (H : n65 c0 R h) : CallsH Try.prog 65 #[c0] h R ⟨⟩ :=
  callsH_of_eq Try.follow .l Try.func65 (by kernel_rfl) (by kernel_rfl) (by kernel_rfl) H

/-- palimpsest/head.Entries$1 -/
def n66 (c0 : Value) (R : Value → Heap → Prop) (h : Heap) : Prop :=
  Hp Try.prog false (binS .quo 2 (.tmp 3) (.const (.int .i64 8)) c0 (.int .i64 8)) (fun t4 h_1 => 
    R t4 h_1) h ⟨⟩

theorem n66_calls {c0 : Value} {R : Value → Heap → Prop} {h : Heap} (H : n66 c0 R h) : CallsH Try.prog 66 #[c0] h R ⟨⟩ :=
  callsH_of_eq Try.follow .l Try.func66 (by kernel_rfl) (by kernel_rfl) (by kernel_rfl) H

/-- palimpsest/head.Guest$1 -/
def n67 (c0 t1 : Value) (R : Value → Heap → Prop) (h : Heap) : Prop :=
  Hp Try.prog false (Instr.fieldAt 47 t1 2) (fun t4 h_1 => 
    Hp Try.prog false (Instr.loadAt 2 t4) (fun t5 h_2 => 
      CallsH Try.prog 68 #[t5, c0] h_2 (fun t7 h_3 => 
        R t7 h_3) ⟨⟩) h_1 ⟨⟩) h ⟨⟩

theorem n67_calls {c0 t1 : Value} {R : Value → Heap → Prop} {h : Heap} (H : n67 c0 t1 R h) : CallsH Try.prog 67 #[c0, t1] h R ⟨⟩ :=
  callsH_of_eq Try.follow .l Try.func67 (by kernel_rfl) (by kernel_rfl) (by kernel_rfl) H

/-- palimpsest/head.Tables$1 -/
def n69 (t0 t1 : Value) (R : Value → Heap → Prop) (h : Heap) : Prop :=
  Hp Try.prog false (Instr.loadAt 47 t1) (fun t4 h_1 => 
    CallsH Try.prog 60 #[t4] h_1 (fun t5 h_2 => 
      R t5 h_2) ⟨⟩) h ⟨⟩

theorem n69_calls {t0 t1 : Value} {R : Value → Heap → Prop} {h : Heap} (H : n69 t0 t1 R h) : CallsH Try.prog 69 #[t0, t1] h R ⟨⟩ :=
  callsH_of_eq Try.follow .l Try.func69 (by kernel_rfl) (by kernel_rfl) (by kernel_rfl) H

end Go.Proofs.Ytgnmjcljljfldaa

/- Printed by /tmp/tools2/facts.py. -/
import Derived.Test.YtdccfkffabngjaaGreatVcMulti
import Derived.Test.YtdccfkffabngjaaGreatProg
set_option maxRecDepth 100000
set_option linter.unusedVariables false
set_option linter.unusedSimpArgs false
namespace Go.Proofs.YtdccfkffabngjaaGreat
open Go.Vc

variable {q:Bool}{a:Addr}{x y:Operand}{K:VP}{h:Heap}
open Go.Instr Go.Builtin
abbrev vf(t i j:Nat):Prop:=∀{q:Bool} {a:Addr} {K:VP} {h:Heap},Hp Tryz.prog q (fieldAt t (.pointer (some a)) i) K h ⟨⟩↔K (.pointer (some (a.add j))) h
abbrev vl(t:Nat):Prop:=∀{q:Bool} {a:Addr} {K:VP} {h:Heap},Hp Tryz.prog q (loadAt t (.pointer (some a))) K h ⟨⟩↔LoadP (hcell h a) (fun v=>K v h) ⟨⟩
abbrev vn(t:Nat):Prop:=∀{q:Bool} {a:Option Addr} {n c:Nat} {K:VP} {h:Heap},Hp Tryz.prog q (len_ #[t] 3 #[.slice a n c]) K h ⟨⟩↔K (.int .i64 n) h
@[simp] theorem Tryz.fd70_0:vf 70 0 0:=Hp_field kR
@[simp] theorem Tryz.ld23:Hp Tryz.prog q (loadAt 23 (.pointer (some a))) K h ⟨⟩↔loadsP h a 0 4 fun vs=>K (.agg vs.toArray) h:=Hp_loadAgg kR kR
@[simp] theorem Tryz.fd70_1:vf 70 1 4:=Hp_field kR
@[simp] theorem Tryz.ld67:vl 67:=Hp_load kR
@[simp] theorem Tryz.fd70_2:vf 70 2 5:=Hp_field kR
@[simp] theorem Tryz.ld24:vl 24:=Hp_load kR
@[simp] theorem Tryz.fd70_3:vf 70 3 6:=Hp_field kR
@[simp] theorem Tryz.ld68:vl 68:=Hp_load kR
@[simp] theorem Tryz.al23:Hp Tryz.prog false (alloc 23 true undef) K h ⟨⟩↔ValT h.size (fun b=>K (.pointer (some ⟨b,0,none⟩)) (h.push (.cells #[(.int .i64 0),(.int .i64 0),(.int .i64 0),(.int .i64 0)] 23))) ⟨⟩:=Hp_allocZ (z:=(.agg #[(.int .i64 0),(.int .i64 0),(.int .i64 0),(.int .i64 0)])) kR
@[simp] theorem Tryz.st23{x1:Int}{x2:Int}{x3:Int}{x4:Int}:Hp Tryz.prog false (storeS 23 (.pointer (some a)) (.agg #[(.int .i64 x1),(.int .i64 x2),(.int .i64 x3),(.int .i64 x4)])) K h ⟨⟩↔storesP a 0 [(.int .i64 x1),(.int .i64 x2),(.int .i64 x3),(.int .i64 x4)] (K undef) h:=Hp_storeAgg kR (by simp[one,str])
@[simp] theorem Tryz.len67:vn 67:=Hp_iff.trans (iff_of_eq kR)
@[simp] theorem Tryz.len68:vn 68:=Hp_iff.trans (iff_of_eq kR)
@[simp] theorem Tryz.fd23_0:vf 23 0 0:=Hp_field kR
@[simp] theorem Tryz.ld3:vl 3:=Hp_load kR
@[simp] theorem Tryz.len24:vn 24:=Hp_iff.trans (iff_of_eq kR)
@[simp] theorem Tryz.ix24{len cap:Nat}{k:IntKind}{n:Int}(n0:0<=n)(n1:n<len):Hp Tryz.prog q (indexAt 24 (.slice (some a) len cap) (.int k n)) K h ⟨⟩↔ValT n.toNat (fun j=>K (.pointer (some (elt a (j*4)))) h) ⟨⟩:=Hp_indexAtS kR n0 n1
@[simp] theorem Tryz.ld37:Hp Tryz.prog q (loadAt 37 (.pointer (some a))) K h ⟨⟩↔loadsP h a 0 4 fun vs=>K (.agg vs.toArray) h:=Hp_loadAgg kR kR
@[simp] theorem Tryz.al37:Hp Tryz.prog false (alloc 37 true undef) K h ⟨⟩↔ValT h.size (fun b=>K (.pointer (some ⟨b,0,none⟩)) (h.push (.cells #[(.int .i64 0),(.int .i64 0),(.int .i64 0),(.int .i64 0)] 37))) ⟨⟩:=Hp_allocZ (z:=(.agg #[(.int .i64 0),(.int .i64 0),(.int .i64 0),(.int .i64 0)])) kR
@[simp] theorem Tryz.st37{x1:Int}{x2:Int}{x3:Int}{x4:Int}:Hp Tryz.prog false (storeS 37 (.pointer (some a)) (.agg #[(.int .i64 x1),(.int .i64 x2),(.int .i64 x3),(.int .i64 x4)])) K h ⟨⟩↔storesP a 0 [(.int .i64 x1),(.int .i64 x2),(.int .i64 x3),(.int .i64 x4)] (K undef) h:=Hp_storeAgg kR (by simp[one,str])
@[simp] theorem Tryz.fd37_0:vf 37 0 0:=Hp_field kR
@[simp] theorem Tryz.fd37_1:vf 37 1 1:=Hp_field kR
@[simp] theorem Tryz.bd42_0_1{x1:Int}{x2:Int}:Hp Tryz.prog q (build 42 #[(0,(.int .i64 x1)),(1,(.int .i64 x2))]) K h ⟨⟩↔K (.agg #[(.int .i64 x1),(.int .i64 x2)]) h:=Hp_iff.trans (iff_of_eq kR)
@[simp] theorem Tryz.bs35_1_0{x1:Int}{x2:Int}:Hp Tryz.prog false (buildSlice 35 1 #[(0,.agg #[(.int .i64 x1),(.int .i64 x2)])]) K h ⟨⟩↔ValT h.size (fun b=>K (.slice (some ⟨b,0,none⟩) 1 1) (h.push (.cells (List.toArray [(.int .i64 x1),(.int .i64 x2)]) 42))) ⟨⟩:=Hp_newT kR
@[simp] theorem Tryz.len35:vn 35:=Hp_iff.trans (iff_of_eq kR)
@[simp] theorem Tryz.ix35{len cap:Nat}{k:IntKind}{n:Int}(n0:0<=n)(n1:n<len):Hp Tryz.prog q (indexAt 35 (.slice (some a) len cap) (.int k n)) K h ⟨⟩↔ValT n.toNat (fun j=>K (.pointer (some (elt a (j*2)))) h) ⟨⟩:=Hp_indexAtS kR n0 n1
@[simp] theorem Tryz.fd42_0:vf 42 0 0:=Hp_field kR
@[simp] theorem Tryz.ld2:vl 2:=Hp_load kR
@[simp] theorem Tryz.bs47_1_0{x1:Int}:Hp Tryz.prog false (buildSlice 47 1 #[(0,(.int .i64 x1))]) K h ⟨⟩↔ValT h.size (fun b=>K (.slice (some ⟨b,0,none⟩) 1 1) (h.push (.cells (List.toArray [(.int .i64 x1)]) 2))) ⟨⟩:=Hp_newT kR
@[simp] theorem Tryz.fd23_3:vf 23 3 3:=Hp_field kR
@[simp] theorem Tryz.fd37_2:vf 37 2 2:=Hp_field kR
@[simp] theorem Tryz.bd23_0_1_2_3{x1:Int}{x2:Int}{x3:Int}{x4:Int}:Hp Tryz.prog q (build 23 #[(0,(.int .i64 x1)),(1,(.int .i64 x2)),(2,(.int .i64 x3)),(3,(.int .i64 x4))]) K h ⟨⟩↔K (.agg #[(.int .i64 x1),(.int .i64 x2),(.int .i64 x3),(.int .i64 x4)]) h:=Hp_iff.trans (iff_of_eq kR)
@[simp] theorem Tryz.fd23_1:vf 23 1 1:=Hp_field kR
@[simp] theorem Tryz.fd23_2:vf 23 2 2:=Hp_field kR
@[simp] theorem Tryz.al84:Hp Tryz.prog false (alloc 84 true undef) K h ⟨⟩↔ValT h.size (fun b=>K (.pointer (some ⟨b,0,none⟩)) (h.push (.cells #[(.int .i64 0),(.int .u64 0),(.int .i64 0),(.int .i64 0),(.int .i64 0),(.int .i64 0),(.int .i64 0),(.int .i64 0),(.int .i64 0),(.int .i64 0),(.int .i64 0),(.int .i64 0),(.int .i64 0),(.int .i64 0),(str [])] 84))) ⟨⟩:=Hp_allocZ (z:=(.agg #[(.int .i64 0),(.int .u64 0),(.int .i64 0),(.int .i64 0),(.int .i64 0),(.int .i64 0),(.int .i64 0),(.int .i64 0),(.int .i64 0),(.int .i64 0),(.int .i64 0),(.int .i64 0),(.int .i64 0),(.int .i64 0),(str [])])) kR
@[simp] theorem Tryz.st84{x1:Int}{x2:Int}{x3:Int}{x4:Int}{x5:Int}{x6:Int}{x7:Int}{x8:Int}{x9:Int}{x10:Int}{x11:Int}{x12:Int}{x13:Int}{x14:Int}{x15:List UInt8}:Hp Tryz.prog false (storeS 84 (.pointer (some a)) (.agg #[(.int .i64 x1),(.int .u64 x2),(.int .i64 x3),(.int .i64 x4),(.int .i64 x5),(.int .i64 x6),(.int .i64 x7),(.int .i64 x8),(.int .i64 x9),(.int .i64 x10),(.int .i64 x11),(.int .i64 x12),(.int .i64 x13),(.int .i64 x14),(str x15)])) K h ⟨⟩↔storesP a 0 [(.int .i64 x1),(.int .u64 x2),(.int .i64 x3),(.int .i64 x4),(.int .i64 x5),(.int .i64 x6),(.int .i64 x7),(.int .i64 x8),(.int .i64 x9),(.int .i64 x10),(.int .i64 x11),(.int .i64 x12),(.int .i64 x13),(.int .i64 x14),(str x15)] (K undef) h:=Hp_storeAgg kR (by simp[one,str])
@[simp] theorem Tryz.ld84:Hp Tryz.prog q (loadAt 84 (.pointer (some a))) K h ⟨⟩↔loadsP h a 0 15 fun vs=>K (.agg vs.toArray) h:=Hp_loadAgg kR kR
@[simp] theorem Tryz.fd84_5:vf 84 5 5:=Hp_field kR
@[simp] theorem Tryz.bd89_0_1_2_3_4{x1:Option Addr}{x2:List UInt8}{x3:Int}{x4:Int}{x5:Int}{x6:Int}{x7:Int}{x8:Int}{x9:Int}{x10:Int}{x11:Int}{x12:Int}{x13:Int}{x14:Int}{x15:Int}{x16:Int}{x17:List UInt8}{x18:Int}{x19:Int}:Hp Tryz.prog q (build 89 #[(0,(.pointer x1)),(1,(str x2)),(2,.agg #[(.int .i64 x3),(.int .u64 x4),(.int .i64 x5),(.int .i64 x6),(.int .i64 x7),(.int .i64 x8),(.int .i64 x9),(.int .i64 x10),(.int .i64 x11),(.int .i64 x12),(.int .i64 x13),(.int .i64 x14),(.int .i64 x15),(.int .i64 x16),(str x17)]),(3,(.int .i64 x18)),(4,(.int .i64 x19))]) K h ⟨⟩↔K (.agg #[(.pointer x1),(str x2),(.int .i64 x3),(.int .u64 x4),(.int .i64 x5),(.int .i64 x6),(.int .i64 x7),(.int .i64 x8),(.int .i64 x9),(.int .i64 x10),(.int .i64 x11),(.int .i64 x12),(.int .i64 x13),(.int .i64 x14),(.int .i64 x15),(.int .i64 x16),(str x17),(.int .i64 x18),(.int .i64 x19)]) h:=Hp_iff.trans (iff_of_eq kR)
@[simp] theorem Tryz.fd97_2:vf 97 2 2:=Hp_field kR
@[simp] theorem Tryz.ld52:vl 52:=Hp_load kR
@[simp] theorem Tryz.len52:vn 52:=Hp_iff.trans (iff_of_eq kR)
@[simp] theorem Tryz.ld30:vl 30:=Hp_load kR
@[simp] theorem Tryz.fd89_0:vf 89 0 0:=Hp_field kR
@[simp] theorem Tryz.ld27:vl 27:=Hp_load kR
@[simp] theorem Tryz.fd89_1:vf 89 1 1:=Hp_field kR
@[simp] theorem Tryz.ld9:vl 9:=Hp_load kR
@[simp] theorem Tryz.al2:Hp Tryz.prog false (alloc 2 true undef) K h ⟨⟩↔ValT h.size (fun b=>K (.pointer (some ⟨b,0,none⟩)) (h.push (.cells #[(.int .i64 0)] 2))) ⟨⟩:=Hp_allocZ (z:=(.int .i64 0)) kR
@[simp] theorem Tryz.st2{x1:Int}:Hp Tryz.prog false (storeS 2 (.pointer (some a)) (.int .i64 x1)) K h ⟨⟩↔StoreP (hcell h a) (hfrozen h a) (K undef (hset h a (.int .i64 x1))) ⟨⟩:=Hp_store kR rfl
@[simp] theorem Tryz.al47:Hp Tryz.prog false (alloc 47 true undef) K h ⟨⟩↔ValT h.size (fun b=>K (.pointer (some ⟨b,0,none⟩)) (h.push (.cells #[(.slice none 0 0)] 47))) ⟨⟩:=Hp_allocZ (z:=(.slice none 0 0)) kR
@[simp] theorem Tryz.ld47:vl 47:=Hp_load kR
@[simp] theorem Tryz.st47{x1:Option Addr}{x2:Nat}{x3:Nat}:Hp Tryz.prog false (storeS 47 (.pointer (some a)) (.slice x1 x2 x3)) K h ⟨⟩↔StoreP (hcell h a) (hfrozen h a) (K undef (hset h a (.slice x1 x2 x3))) ⟨⟩:=Hp_store kR rfl
@[simp] theorem Tryz.len100:vn 100:=Hp_iff.trans (iff_of_eq kR)
@[simp] theorem Tryz.ix100{len cap:Nat}{k:IntKind}{n:Int}(n0:0<=n)(n1:n<len):Hp Tryz.prog q (indexAt 100 (.slice (some a) len cap) (.int k n)) K h ⟨⟩↔ValT n.toNat (fun j=>K (.pointer (some (elt a j))) h) ⟨⟩:=Hp_indexAt1 kR n0 n1
@[simp] theorem Tryz.ld99:vl 99:=Hp_load kR
@[simp] theorem Tryz.fd89_3:vf 89 3 17:=Hp_field kR
@[simp] theorem Tryz.fd89_4:vf 89 4 18:=Hp_field kR
@[simp] theorem Tryz.eqlN52_0{n c:Nat}:Hp Tryz.prog q (binS .eql 52 x y (.slice none n c) (.slice none 0 0)) K h ⟨⟩↔K (.bool true) h:=Hp_eqlNil (b:=true) kR
@[simp] theorem Tryz.eqlN52_1{n c:Nat}:Hp Tryz.prog q (binS .eql 52 x y (.slice (some a) n c) (.slice none 0 0)) K h ⟨⟩↔K (.bool false) h:=Hp_eqlNil (b:=false) kR
@[simp] theorem Tryz.fd89_2:vf 89 2 2:=Hp_field kR
@[simp] theorem Tryz.len47:vn 47:=Hp_iff.trans (iff_of_eq kR)
@[simp] theorem Tryz.ix47{len cap:Nat}{k:IntKind}{n:Int}(n0:0<=n)(n1:n<len):Hp Tryz.prog q (indexAt 47 (.slice (some a) len cap) (.int k n)) K h ⟨⟩↔ValT n.toNat (fun j=>K (.pointer (some (elt a j))) h) ⟨⟩:=Hp_indexAt1 kR n0 n1
theorem Tryz.cvw2_44{k:IntKind}{n:Int}:Hp Tryz.prog q (convert 2 44 (.int k n)) K h ⟨⟩↔ValI (IntKind.u64.wrap n) (fun n=>K (.int .u64 n) h) ⟨⟩:=Hp_convInt (d:=.int .i64) kR kR
@[simp] theorem Tryz.cv2_44{k:IntKind}{n:Int}(h0:0<=n)(h1:n<18446744073709551616):Hp Tryz.prog q (convert 2 44 (.int k n)) K h ⟨⟩↔K (.int .u64 n) h:=by rw[Tryz.cvw2_44,ValI_iff,wrap_u64 h0 h1]
@[simp] theorem Tryz.fd84_0:vf 84 0 0:=Hp_field kR
@[simp] theorem Tryz.fd84_6:vf 84 6 6:=Hp_field kR
@[simp] theorem Tryz.fd84_7:vf 84 7 7:=Hp_field kR
@[simp] theorem Tryz.slc52_11{len cap:Nat}{k k':IntKind}{lo hi:Int}(h0:0<=lo)(h1:lo<=hi)(h2:hi<=cap):Hp Tryz.prog q (sliceAt 52 (.slice (some a) len cap) (some (.int k lo)) (some (.int k' hi)) none) K h ⟨⟩↔ValT lo.toNat (fun l=>ValT hi.toNat (fun r=>K (.slice (some (sub a l cap)) (r-l) (cap-l)) h) ⟨⟩) ⟨⟩:=Hp_slcLH kR h0 h1 h2
@[simp] theorem Tryz.slcn52_11{k k':IntKind}{lo hi:Int}(h0:lo=0)(h1:hi=0):Hp Tryz.prog q (sliceAt 52 (.slice none 0 0) (some (.int k lo)) (some (.int k' hi)) none) K h ⟨⟩↔K (.slice none 0 0) h:=Hp_sliceNil (s:=1) kR rfl rfl h0 h1
theorem Tryz.cvw44_2{k:IntKind}{n:Int}:Hp Tryz.prog q (convert 44 2 (.int k n)) K h ⟨⟩↔ValI (IntKind.i64.wrap n) (fun n=>K (.int .i64 n) h) ⟨⟩:=Hp_convInt (d:=.int .u64) kR kR
@[simp] theorem Tryz.cv44_2{k:IntKind}{n:Int}(h0 : -9223372036854775808<=n)(h1:n<9223372036854775808):Hp Tryz.prog q (convert 44 2 (.int k n)) K h ⟨⟩↔K (.int .i64 n) h:=by rw[Tryz.cvw44_2,ValI_iff,wrap_i64 h0 h1]
@[simp] theorem Tryz.al63:Hp Tryz.prog false (alloc 63 true undef) K h ⟨⟩↔ValT h.size (fun b=>K (.pointer (some ⟨b,0,none⟩)) (h.push (.cells #[(.slice none 0 0),(.bool false),(.int .i64 0),(.int .i64 0),(.int .i64 0),(.int .i64 0),(.int .i64 0)] 63))) ⟨⟩:=Hp_allocZ (z:=(.agg #[(.slice none 0 0),(.bool false),(.int .i64 0),(.int .i64 0),(.int .i64 0),(.int .i64 0),(.int .i64 0)])) kR
@[simp] theorem Tryz.st63{x1:Option Addr}{x2:Nat}{x3:Nat}{x4:Bool}{x5:Int}{x6:Int}{x7:Int}{x8:Int}{x9:Int}:Hp Tryz.prog false (storeS 63 (.pointer (some a)) (.agg #[(.slice x1 x2 x3),(.bool x4),(.int .i64 x5),(.int .i64 x6),(.int .i64 x7),(.int .i64 x8),(.int .i64 x9)])) K h ⟨⟩↔storesP a 0 [(.slice x1 x2 x3),(.bool x4),(.int .i64 x5),(.int .i64 x6),(.int .i64 x7),(.int .i64 x8),(.int .i64 x9)] (K undef) h:=Hp_storeAgg kR (by simp[one,str])
@[simp] theorem Tryz.fd63_1:vf 63 1 1:=Hp_field kR
@[simp] theorem Tryz.ld4:vl 4:=Hp_load kR
@[simp] theorem Tryz.fd42_1:vf 42 1 1:=Hp_field kR
@[simp] theorem Tryz.fd130_4:vf 130 4 18:=Hp_field kR
@[simp] theorem Tryz.fd63_2:vf 63 2 2:=Hp_field kR
@[simp] theorem Tryz.fd63_3:vf 63 3 3:=Hp_field kR
@[simp] theorem Tryz.fd130_1:vf 130 1 1:=Hp_field kR
@[simp] theorem Tryz.fd130_3:vf 130 3 17:=Hp_field kR
@[simp] theorem Tryz.ld61:vl 61:=Hp_load kR
@[simp] theorem Tryz.bd134_0_1_2_3{x1:Int}{x2:Int}{x3:Int}{x4:Int}:Hp Tryz.prog q (build 134 #[(0,(.int .i64 x1)),(1,(.int .i64 x2)),(2,(.int .u64 x3)),(3,(.int .u64 x4))]) K h ⟨⟩↔K (.agg #[(.int .i64 x1),(.int .i64 x2),(.int .u64 x3),(.int .u64 x4)]) h:=Hp_iff.trans (iff_of_eq kR)
@[simp] theorem Tryz.bs61_1_0{x1:Int}{x2:Int}{x3:Int}{x4:Int}:Hp Tryz.prog false (buildSlice 61 1 #[(0,.agg #[(.int .i64 x1),(.int .i64 x2),(.int .u64 x3),(.int .u64 x4)])]) K h ⟨⟩↔ValT h.size (fun b=>K (.slice (some ⟨b,0,none⟩) 1 1) (h.push (.cells (List.toArray [(.int .i64 x1),(.int .i64 x2),(.int .u64 x3),(.int .u64 x4)]) 134))) ⟨⟩:=Hp_newT kR
@[simp] theorem Tryz.st61{x1:Option Addr}{x2:Nat}{x3:Nat}:Hp Tryz.prog false (storeS 61 (.pointer (some a)) (.slice x1 x2 x3)) K h ⟨⟩↔StoreP (hcell h a) (hfrozen h a) (K undef (hset h a (.slice x1 x2 x3))) ⟨⟩:=Hp_store kR rfl
@[simp] theorem Tryz.len61:vn 61:=Hp_iff.trans (iff_of_eq kR)
@[simp] theorem Tryz.fd63_0:vf 63 0 0:=Hp_field kR
@[simp] theorem Tryz.ix61{len cap:Nat}{k:IntKind}{n:Int}(n0:0<=n)(n1:n<len):Hp Tryz.prog q (indexAt 61 (.slice (some a) len cap) (.int k n)) K h ⟨⟩↔ValT n.toNat (fun j=>K (.pointer (some (elt a (j*4)))) h) ⟨⟩:=Hp_indexAtS kR n0 n1
@[simp] theorem Tryz.ld134:Hp Tryz.prog q (loadAt 134 (.pointer (some a))) K h ⟨⟩↔loadsP h a 0 4 fun vs=>K (.agg vs.toArray) h:=Hp_loadAgg kR kR
@[simp] theorem Tryz.fd134_0:vf 134 0 0:=Hp_field kR
@[simp] theorem Tryz.ld132:vl 132:=Hp_load kR
@[simp] theorem Tryz.st4{x1:Bool}:Hp Tryz.prog false (storeS 4 (.pointer (some a)) (.bool x1)) K h ⟨⟩↔StoreP (hcell h a) (hfrozen h a) (K undef (hset h a (.bool x1))) ⟨⟩:=Hp_store kR rfl
@[simp] theorem Tryz.ld63:Hp Tryz.prog q (loadAt 63 (.pointer (some a))) K h ⟨⟩↔loadsP h a 0 7 fun vs=>K (.agg vs.toArray) h:=Hp_loadAgg kR kR
@[simp] theorem Tryz.ix67{len cap:Nat}{k:IntKind}{n:Int}(n0:0<=n)(n1:n<len):Hp Tryz.prog q (indexAt 67 (.slice (some a) len cap) (.int k n)) K h ⟨⟩↔ValT n.toNat (fun j=>K (.pointer (some (elt a (j*2)))) h) ⟨⟩:=Hp_indexAtS kR n0 n1
@[simp] theorem Tryz.fd139_0:vf 139 0 0:=Hp_field kR
@[simp] theorem Tryz.ld137:vl 137:=Hp_load kR
@[simp] theorem Tryz.bd144_0{x1:Option Nat}:Hp Tryz.prog q (build 144 #[(0,(.map x1))]) K h ⟨⟩↔K (.agg #[(.map x1),(.slice none 0 0),(.int .i64 0)]) h:=Hp_iff.trans (iff_of_eq kR)
@[simp] theorem Tryz.len120:vn 120:=Hp_iff.trans (iff_of_eq kR)
@[simp] theorem Tryz.ix120{len cap:Nat}{k:IntKind}{n:Int}(n0:0<=n)(n1:n<len):Hp Tryz.prog q (indexAt 120 (.slice (some a) len cap) (.int k n)) K h ⟨⟩↔ValT n.toNat (fun j=>K (.pointer (some (elt a j))) h) ⟨⟩:=Hp_indexAt1 kR n0 n1
@[simp] theorem Tryz.fd144_0:vf 144 0 0:=Hp_field kR
@[simp] theorem Tryz.ld142:vl 142:=Hp_load kR
@[simp] theorem Tryz.fd97_0:vf 97 0 0:=Hp_field kR
@[simp] theorem Tryz.fd97_1:vf 97 1 1:=Hp_field kR
@[simp] theorem Tryz.ld95:vl 95:=Hp_load kR
@[simp] theorem Tryz.len95:vn 95:=Hp_iff.trans (iff_of_eq kR)
@[simp] theorem Tryz.ix95{len cap:Nat}{k:IntKind}{n:Int}(n0:0<=n)(n1:n<len):Hp Tryz.prog q (indexAt 95 (.slice (some a) len cap) (.int k n)) K h ⟨⟩↔ValT n.toNat (fun j=>K (.pointer (some (elt a (j*2)))) h) ⟨⟩:=Hp_indexAtS kR n0 n1
@[simp] theorem Tryz.ld146:Hp Tryz.prog q (loadAt 146 (.pointer (some a))) K h ⟨⟩↔loadsP h a 0 2 fun vs=>K (.agg vs.toArray) h:=Hp_loadAgg kR kR
@[simp] theorem Tryz.al146:Hp Tryz.prog false (alloc 146 true undef) K h ⟨⟩↔ValT h.size (fun b=>K (.pointer (some ⟨b,0,none⟩)) (h.push (.cells #[(.int .i64 0),(.slice none 0 0)] 146))) ⟨⟩:=Hp_allocZ (z:=(.agg #[(.int .i64 0),(.slice none 0 0)])) kR
@[simp] theorem Tryz.st146{x1:Int}{x2:Option Addr}{x3:Nat}{x4:Nat}:Hp Tryz.prog false (storeS 146 (.pointer (some a)) (.agg #[(.int .i64 x1),(.slice x2 x3 x4)])) K h ⟨⟩↔storesP a 0 [(.int .i64 x1),(.slice x2 x3 x4)] (K undef) h:=Hp_storeAgg kR (by simp[one,str])
@[simp] theorem Tryz.fd146_0:vf 146 0 0:=Hp_field kR
@[simp] theorem Tryz.slc52_10{len cap:Nat}{k:IntKind}{lo:Int}(h0:0<=lo)(h1:lo<=len)(hc:len<=cap):Hp Tryz.prog q (sliceAt 52 (.slice (some a) len cap) (some (.int k lo)) none none) K h ⟨⟩↔ValT lo.toNat (fun l=>K (.slice (some (sub a l cap)) (len-l) (cap-l)) h) ⟨⟩:=Hp_slcLN kR h0 h1 hc
@[simp] theorem Tryz.slcn52_10{k k':IntKind}{lo hi:Int}(h0:lo=0):Hp Tryz.prog q (sliceAt 52 (.slice none 0 0) (some (.int k lo)) none none) K h ⟨⟩↔K (.slice none 0 0) h:=Hp_sliceNil (s:=1) kR rfl rfl h0 rfl
@[simp] theorem Tryz.fd146_1:vf 146 1 1:=Hp_field kR
@[simp] theorem Tryz.bd97_0_2{x1:Option Addr}{x2:Nat}{x3:Nat}{x4:Option Addr}{x5:Nat}{x6:Nat}:Hp Tryz.prog q (build 97 #[(0,(.slice x1 x2 x3)),(2,(.slice x4 x5 x6))]) K h ⟨⟩↔K (.agg #[(.slice x1 x2 x3),(.slice none 0 0),(.slice x4 x5 x6)]) h:=Hp_iff.trans (iff_of_eq kR)
@[simp] theorem Tryz.bd84_0_5_2_6_7_14{x1:Int}{x2:Int}{x3:Int}{x4:Int}{x5:Int}{x6:List UInt8}:Hp Tryz.prog q (build 84 #[(0,(.int .i64 x1)),(5,(.int .i64 x2)),(2,(.int .i64 x3)),(6,(.int .i64 x4)),(7,(.int .i64 x5)),(14,(str x6))]) K h ⟨⟩↔K (.agg #[(.int .i64 x1),(.int .u64 0),(.int .i64 x3),(.int .i64 0),(.int .i64 0),(.int .i64 x2),(.int .i64 x4),(.int .i64 x5),(.int .i64 0),(.int .i64 0),(.int .i64 0),(.int .i64 0),(.int .i64 0),(.int .i64 0),(str x6)]) h:=Hp_iff.trans (iff_of_eq kR)
@[simp] theorem Tryz.fd84_4:vf 84 4 4:=Hp_field kR
@[simp] theorem Tryz.st3{x1:Int}:Hp Tryz.prog false (storeS 3 (.pointer (some a)) (.int .i64 x1)) K h ⟨⟩↔StoreP (hcell h a) (hfrozen h a) (K undef (hset h a (.int .i64 x1))) ⟨⟩:=Hp_store kR rfl
@[simp] theorem Tryz.fd84_3:vf 84 3 3:=Hp_field kR
@[simp] theorem Tryz.mk52{n c:Int}(n0:0<=n)(nc:n<=c)(hc:c*1<=281474976710656):Hp Tryz.prog false (makeSlice 52 (.int .i64 n) (.int .i64 c)) K h ⟨⟩↔ValT n.toNat (fun n=>ValT c.toNat (fun c=>K (.slice (some ⟨h.size,0,none⟩) n c) (h.push (.cells (List.replicate c (.int .u8 0)).toArray 5))) ⟨⟩) ⟨⟩:=Hp_make (s:=1) kR kR rfl rfl n0 nc hc omg
@[simp] theorem Tryz.bd144_0_1{x1:Option Nat}{x2:Option Addr}{x3:Nat}{x4:Nat}:Hp Tryz.prog q (build 144 #[(0,(.map x1)),(1,(.slice x2 x3 x4))]) K h ⟨⟩↔K (.agg #[(.map x1),(.slice x2 x3 x4),(.int .i64 0)]) h:=Hp_iff.trans (iff_of_eq kR)
@[simp] theorem Tryz.bd97_:Hp Tryz.prog q (build 97 #[]) K h ⟨⟩↔K (.agg #[(.slice none 0 0),(.slice none 0 0),(.slice none 0 0)]) h:=Hp_iff.trans (iff_of_eq kR)
@[simp] theorem Tryz.slc52_01{len cap:Nat}{k':IntKind}{hi:Int}(h1:0<=hi)(h2:hi<=cap):Hp Tryz.prog q (sliceAt 52 (.slice (some a) len cap) none (some (.int k' hi)) none) K h ⟨⟩↔ValT hi.toNat (fun r=>K (.slice (some a) r cap) h) ⟨⟩:=Hp_slcNH kR h1 h2
@[simp] theorem Tryz.bd146_0_1{x1:Int}{x2:Option Addr}{x3:Nat}{x4:Nat}:Hp Tryz.prog q (build 146 #[(0,(.int .i64 x1)),(1,(.slice x2 x3 x4))]) K h ⟨⟩↔K (.agg #[(.int .i64 x1),(.slice x2 x3 x4)]) h:=Hp_iff.trans (iff_of_eq kR)
@[simp] theorem Tryz.bs95_1_0{x1:Int}{x2:Option Addr}{x3:Nat}{x4:Nat}:Hp Tryz.prog false (buildSlice 95 1 #[(0,.agg #[(.int .i64 x1),(.slice x2 x3 x4)])]) K h ⟨⟩↔ValT h.size (fun b=>K (.slice (some ⟨b,0,none⟩) 1 1) (h.push (.cells (List.toArray [(.int .i64 x1),(.slice x2 x3 x4)]) 146))) ⟨⟩:=Hp_newT kR
@[simp] theorem Tryz.st95{x1:Option Addr}{x2:Nat}{x3:Nat}:Hp Tryz.prog false (storeS 95 (.pointer (some a)) (.slice x1 x2 x3)) K h ⟨⟩↔StoreP (hcell h a) (hfrozen h a) (K undef (hset h a (.slice x1 x2 x3))) ⟨⟩:=Hp_store kR rfl
@[simp] theorem Tryz.slcn95_10{k k':IntKind}{lo hi:Int}(h0:lo=0):Hp Tryz.prog q (sliceAt 95 (.slice none 0 0) (some (.int k lo)) none none) K h ⟨⟩↔K (.slice none 0 0) h:=Hp_sliceNil (s:=2) kR rfl rfl h0 rfl
@[simp] theorem Tryz.fd144_1:vf 144 1 1:=Hp_field kR
@[simp] theorem Tryz.st67{x1:Option Addr}{x2:Nat}{x3:Nat}:Hp Tryz.prog false (storeS 67 (.pointer (some a)) (.slice x1 x2 x3)) K h ⟨⟩↔StoreP (hcell h a) (hfrozen h a) (K undef (hset h a (.slice x1 x2 x3))) ⟨⟩:=Hp_store kR rfl
@[simp] theorem Tryz.bd84_:Hp Tryz.prog q (build 84 #[]) K h ⟨⟩↔K (.agg #[(.int .i64 0),(.int .u64 0),(.int .i64 0),(.int .i64 0),(.int .i64 0),(.int .i64 0),(.int .i64 0),(.int .i64 0),(.int .i64 0),(.int .i64 0),(.int .i64 0),(.int .i64 0),(.int .i64 0),(.int .i64 0),(str [])]) h:=Hp_iff.trans (iff_of_eq kR)
@[simp] theorem Tryz.st52{x1:Option Addr}{x2:Nat}{x3:Nat}:Hp Tryz.prog false (storeS 52 (.pointer (some a)) (.slice x1 x2 x3)) K h ⟨⟩↔StoreP (hcell h a) (hfrozen h a) (K undef (hset h a (.slice x1 x2 x3))) ⟨⟩:=Hp_store kR rfl
@[simp] theorem Tryz.bd84_0_1_2_3_4_5_6_7_8_9_10_11_12_13{x1:Int}{x2:Int}{x3:Int}{x4:Int}{x5:Int}{x6:Int}{x7:Int}{x8:Int}{x9:Int}{x10:Int}{x11:Int}{x12:Int}{x13:Int}{x14:Int}:Hp Tryz.prog q (build 84 #[(0,(.int .i64 x1)),(1,(.int .u64 x2)),(2,(.int .i64 x3)),(3,(.int .i64 x4)),(4,(.int .i64 x5)),(5,(.int .i64 x6)),(6,(.int .i64 x7)),(7,(.int .i64 x8)),(8,(.int .i64 x9)),(9,(.int .i64 x10)),(10,(.int .i64 x11)),(11,(.int .i64 x12)),(12,(.int .i64 x13)),(13,(.int .i64 x14))]) K h ⟨⟩↔K (.agg #[(.int .i64 x1),(.int .u64 x2),(.int .i64 x3),(.int .i64 x4),(.int .i64 x5),(.int .i64 x6),(.int .i64 x7),(.int .i64 x8),(.int .i64 x9),(.int .i64 x10),(.int .i64 x11),(.int .i64 x12),(.int .i64 x13),(.int .i64 x14),(str [])]) h:=Hp_iff.trans (iff_of_eq kR)
@[simp] theorem Tryz.fd84_14:vf 84 14 14:=Hp_field kR
@[simp] theorem Tryz.st9{x1:List UInt8}:Hp Tryz.prog false (storeS 9 (.pointer (some a)) (str x1)) K h ⟨⟩↔StoreP (hcell h a) (hfrozen h a) (K undef (hset h a (str x1))) ⟨⟩:=Hp_store kR rfl
@[simp] theorem Tryz.eqlN30_1:Hp Tryz.prog q (binS .eql 30 x y (.pointer (some a)) (.pointer none)) K h ⟨⟩↔K (.bool false) h:=Hp_eqlNil (b:=false) kR
@[simp] theorem Tryz.eqlN27_0:Hp Tryz.prog q (binS .eql 27 x y (.pointer none) (.pointer none)) K h ⟨⟩↔K (.bool true) h:=Hp_eqlNil (b:=true) kR
@[simp] theorem Tryz.eqlN27_1:Hp Tryz.prog q (binS .eql 27 x y (.pointer (some a)) (.pointer none)) K h ⟨⟩↔K (.bool false) h:=Hp_eqlNil (b:=false) kR
@[simp] theorem Tryz.neqN52_0{n c:Nat}:Hp Tryz.prog q (binS .neq 52 x y (.slice none n c) (.slice none 0 0)) K h ⟨⟩↔K (.bool false) h:=Hp_neqNil (b:=true) kR
@[simp] theorem Tryz.neqN52_1{n c:Nat}:Hp Tryz.prog q (binS .neq 52 x y (.slice (some a) n c) (.slice none 0 0)) K h ⟨⟩↔K (.bool true) h:=Hp_neqNil (b:=false) kR
@[simp] theorem Tryz.al52:Hp Tryz.prog false (alloc 52 true undef) K h ⟨⟩↔ValT h.size (fun b=>K (.pointer (some ⟨b,0,none⟩)) (h.push (.cells #[(.slice none 0 0)] 52))) ⟨⟩:=Hp_allocZ (z:=(.slice none 0 0)) kR
@[simp] theorem Tryz.bs52_0_:Hp Tryz.prog false (buildSlice 52 0 #[]) K h ⟨⟩↔ValT h.size (fun b=>K (.slice (some ⟨b,0,none⟩) 0 0) (h.push (.cells (List.toArray []) 5))) ⟨⟩:=Hp_newT kR
theorem Tryz.cv52_9{v:Value}{l:List UInt8}(hb:Bytes h v l):Hp Tryz.prog q (convert 52 9 v) K h ⟨⟩↔K (str l) h:=Hp_bytesStr (e:=5) kR kR kR hb
@[simp] theorem Tryz.bd84_0_1_2_3_4_5_6_7_8_9_10_11_12_13_14{x1:Int}{x2:Int}{x3:Int}{x4:Int}{x5:Int}{x6:Int}{x7:Int}{x8:Int}{x9:Int}{x10:Int}{x11:Int}{x12:Int}{x13:Int}{x14:Int}{x15:List UInt8}:Hp Tryz.prog q (build 84 #[(0,(.int .i64 x1)),(1,(.int .u64 x2)),(2,(.int .i64 x3)),(3,(.int .i64 x4)),(4,(.int .i64 x5)),(5,(.int .i64 x6)),(6,(.int .i64 x7)),(7,(.int .i64 x8)),(8,(.int .i64 x9)),(9,(.int .i64 x10)),(10,(.int .i64 x11)),(11,(.int .i64 x12)),(12,(.int .i64 x13)),(13,(.int .i64 x14)),(14,(str x15))]) K h ⟨⟩↔K (.agg #[(.int .i64 x1),(.int .u64 x2),(.int .i64 x3),(.int .i64 x4),(.int .i64 x5),(.int .i64 x6),(.int .i64 x7),(.int .i64 x8),(.int .i64 x9),(.int .i64 x10),(.int .i64 x11),(.int .i64 x12),(.int .i64 x13),(.int .i64 x14),(str x15)]) h:=Hp_iff.trans (iff_of_eq kR)
@[simp] theorem Tryz.ix52{len cap:Nat}{k:IntKind}{n:Int}(n0:0<=n)(n1:n<len):Hp Tryz.prog q (indexAt 52 (.slice (some a) len cap) (.int k n)) K h ⟨⟩↔ValT n.toNat (fun j=>K (.pointer (some (elt a j))) h) ⟨⟩:=Hp_indexAt1 kR n0 n1
@[simp] theorem Tryz.ld5:vl 5:=Hp_load kR
@[simp] theorem Tryz.cvB5_44{b:UInt8}:Hp Tryz.prog q (convert 5 44 (byteV b)) K h ⟨⟩↔K (.int .u64 b.toNat) h:=Hp_convB (d:=.int .u8) kR kR sM
theorem Tryz.cvw5_44{k:IntKind}{n:Int}:Hp Tryz.prog q (convert 5 44 (.int k n)) K h ⟨⟩↔ValI (IntKind.u64.wrap n) (fun n=>K (.int .u64 n) h) ⟨⟩:=Hp_convInt (d:=.int .u8) kR kR
@[simp] theorem Tryz.cv5_44{k:IntKind}{n:Int}(h0:0<=n)(h1:n<18446744073709551616):Hp Tryz.prog q (convert 5 44 (.int k n)) K h ⟨⟩↔K (.int .u64 n) h:=by rw[Tryz.cvw5_44,ValI_iff,wrap_u64 h0 h1]
@[simp] theorem Tryz.bd183_0_1{x1:Int}{x2:Int}:Hp Tryz.prog q (build 183 #[(0,(.int .i64 x1)),(1,(.int .i64 x2))]) K h ⟨⟩↔K (.agg #[(.int .i64 x1),(.int .i64 x2)]) h:=Hp_iff.trans (iff_of_eq kR)
@[simp] theorem Tryz.bs128_1_0{x1:Int}{x2:Int}:Hp Tryz.prog false (buildSlice 128 1 #[(0,.agg #[(.int .i64 x1),(.int .i64 x2)])]) K h ⟨⟩↔ValT h.size (fun b=>K (.slice (some ⟨b,0,none⟩) 1 1) (h.push (.cells (List.toArray [(.int .i64 x1),(.int .i64 x2)]) 183))) ⟨⟩:=Hp_newT kR
@[simp] theorem Tryz.bd130_0_1_2{x1:Option Addr}{x2:Nat}{x3:Nat}{x4:Int}{x5:Int}{x6:Int}{x7:Int}{x8:Int}{x9:Int}{x10:Int}{x11:Int}{x12:Int}{x13:Int}{x14:Int}{x15:Int}{x16:Int}{x17:Int}{x18:List UInt8}{x19:Option Addr}{x20:Nat}{x21:Nat}:Hp Tryz.prog q (build 130 #[(0,(.slice x1 x2 x3)),(1,.agg #[(.int .i64 x4),(.int .u64 x5),(.int .i64 x6),(.int .i64 x7),(.int .i64 x8),(.int .i64 x9),(.int .i64 x10),(.int .i64 x11),(.int .i64 x12),(.int .i64 x13),(.int .i64 x14),(.int .i64 x15),(.int .i64 x16),(.int .i64 x17),(str x18)]),(2,(.slice x19 x20 x21))]) K h ⟨⟩↔K (.agg #[(.slice x1 x2 x3),(.int .i64 x4),(.int .u64 x5),(.int .i64 x6),(.int .i64 x7),(.int .i64 x8),(.int .i64 x9),(.int .i64 x10),(.int .i64 x11),(.int .i64 x12),(.int .i64 x13),(.int .i64 x14),(.int .i64 x15),(.int .i64 x16),(.int .i64 x17),(str x18),(.slice x19 x20 x21),(.slice none 0 0),(.slice none 0 0),(.bool false),(.int .i64 0),(.int .i64 0),(.int .i64 0),(.int .i64 0),(.int .i64 0),(.bool false),(.slice none 0 0)]) h:=Hp_iff.trans (iff_of_eq kR)
@[simp] theorem Tryz.fd130_5:vf 130 5 25:=Hp_field kR
@[simp] theorem Tryz.fd130_0:vf 130 0 0:=Hp_field kR
@[simp] theorem Tryz.fd130_2:vf 130 2 16:=Hp_field kR
@[simp] theorem Tryz.ld128:vl 128:=Hp_load kR
@[simp] theorem Tryz.len128:vn 128:=Hp_iff.trans (iff_of_eq kR)
@[simp] theorem Tryz.ix128{len cap:Nat}{k:IntKind}{n:Int}(n0:0<=n)(n1:n<len):Hp Tryz.prog q (indexAt 128 (.slice (some a) len cap) (.int k n)) K h ⟨⟩↔ValT n.toNat (fun j=>K (.pointer (some (elt a (j*2)))) h) ⟨⟩:=Hp_indexAtS kR n0 n1
@[simp] theorem Tryz.fd183_0:vf 183 0 0:=Hp_field kR
@[simp] theorem Tryz.fd130_6:vf 130 6 26:=Hp_field kR
@[simp] theorem Tryz.fd183_1:vf 183 1 1:=Hp_field kR
@[simp] theorem Tryz.fd134_1:vf 134 1 1:=Hp_field kR
@[simp] theorem Tryz.slcn61_10{k k':IntKind}{lo hi:Int}(h0:lo=0):Hp Tryz.prog q (sliceAt 61 (.slice none 0 0) (some (.int k lo)) none none) K h ⟨⟩↔K (.slice none 0 0) h:=Hp_sliceNil (s:=4) kR rfl rfl h0 rfl
@[simp] theorem Tryz.eqlN142_1{a:Nat}:Hp Tryz.prog q (binS .eql 142 x y (.map (some a)) (.map none)) K h ⟨⟩↔K (.bool false) h:=Hp_eqlNil (b:=false) kR
@[simp] theorem Tryz.ix68{len cap:Nat}{k:IntKind}{n:Int}(n0:0<=n)(n1:n<len):Hp Tryz.prog q (indexAt 68 (.slice (some a) len cap) (.int k n)) K h ⟨⟩↔ValT n.toNat (fun j=>K (.pointer (some (elt a j))) h) ⟨⟩:=Hp_indexAt1 kR n0 n1
@[simp] theorem Tryz.slc68_10{len cap:Nat}{k:IntKind}{lo:Int}(h0:0<=lo)(h1:lo<=len)(hc:len<=cap):Hp Tryz.prog q (sliceAt 68 (.slice (some a) len cap) (some (.int k lo)) none none) K h ⟨⟩↔ValT lo.toNat (fun l=>K (.slice (some (sub a l cap)) (len-l) (cap-l)) h) ⟨⟩:=Hp_slcLN kR h0 h1 hc
@[simp] theorem Tryz.slcn68_10{k k':IntKind}{lo hi:Int}(h0:lo=0):Hp Tryz.prog q (sliceAt 68 (.slice none 0 0) (some (.int k lo)) none none) K h ⟨⟩↔K (.slice none 0 0) h:=Hp_sliceNil (s:=1) kR rfl rfl h0 rfl
@[simp] theorem Tryz.st68{x1:Option Addr}{x2:Nat}{x3:Nat}:Hp Tryz.prog false (storeS 68 (.pointer (some a)) (.slice x1 x2 x3)) K h ⟨⟩↔StoreP (hcell h a) (hfrozen h a) (K undef (hset h a (.slice x1 x2 x3))) ⟨⟩:=Hp_store kR rfl
@[simp] theorem Tryz.fd84_1:vf 84 1 1:=Hp_field kR
@[simp] theorem Tryz.ld44:vl 44:=Hp_load kR
@[simp] theorem Tryz.fd84_2:vf 84 2 2:=Hp_field kR
@[simp] theorem Tryz.fd84_8:vf 84 8 8:=Hp_field kR
@[simp] theorem Tryz.fd84_9:vf 84 9 9:=Hp_field kR
@[simp] theorem Tryz.fd84_10:vf 84 10 10:=Hp_field kR
@[simp] theorem Tryz.fd84_11:vf 84 11 11:=Hp_field kR
@[simp] theorem Tryz.fd84_12:vf 84 12 12:=Hp_field kR
@[simp] theorem Tryz.fd84_13:vf 84 13 13:=Hp_field kR
@[simp] theorem Tryz.len9{l:List UInt8}:Hp Tryz.prog q (len_ #[9] 3 #[str l]) K h ⟨⟩↔K (.int .i64 l.length) h:=Hp_iff.trans (iff_of_eq kR)
@[simp] theorem Tryz.ix9{l:List UInt8}{k:IntKind}{n:Int}(n0:0<=n)(n1:n<l.length):Hp Tryz.prog q (index 9 (str l) (.int k n)) K h ⟨⟩↔ValT n.toNat (fun j=>K (byteV (l.getD j 0)) h) ⟨⟩:=Hp_ixStr kR n0 n1
@[simp] theorem Tryz.bs52_4_0_1_2_3{x1:Int}{x2:Int}{x3:Int}{x4:Int}:Hp Tryz.prog false (buildSlice 52 4 #[(0,(.int .u8 x1)),(1,(.int .u8 x2)),(2,(.int .u8 x3)),(3,(.int .u8 x4))]) K h ⟨⟩↔ValT h.size (fun b=>K (.slice (some ⟨b,0,none⟩) 4 4) (h.push (.cells (List.toArray [(.int .u8 x1),(.int .u8 x2),(.int .u8 x3),(.int .u8 x4)]) 5))) ⟨⟩:=Hp_newT kR
theorem Tryz.cvw3_44{k:IntKind}{n:Int}:Hp Tryz.prog q (convert 3 44 (.int k n)) K h ⟨⟩↔ValI (IntKind.u64.wrap n) (fun n=>K (.int .u64 n) h) ⟨⟩:=Hp_convInt (d:=.int .i64) kR kR
@[simp] theorem Tryz.cv3_44{k:IntKind}{n:Int}(h0:0<=n)(h1:n<18446744073709551616):Hp Tryz.prog q (convert 3 44 (.int k n)) K h ⟨⟩↔K (.int .u64 n) h:=by rw[Tryz.cvw3_44,ValI_iff,wrap_u64 h0 h1]
@[simp] theorem Tryz.bs52_1_0{x1:Int}:Hp Tryz.prog false (buildSlice 52 1 #[(0,(.int .u8 x1))]) K h ⟨⟩↔ValT h.size (fun b=>K (.slice (some ⟨b,0,none⟩) 1 1) (h.push (.cells (List.toArray [(.int .u8 x1)]) 5))) ⟨⟩:=Hp_newT kR
theorem Tryz.cvw44_5{k:IntKind}{n:Int}:Hp Tryz.prog q (convert 44 5 (.int k n)) K h ⟨⟩↔ValI (IntKind.u8.wrap n) (fun n=>K (.int .u8 n) h) ⟨⟩:=Hp_convInt (d:=.int .u64) kR kR
@[simp] theorem Tryz.cv44_5{k:IntKind}{n:Int}(h0:0<=n)(h1:n<256):Hp Tryz.prog q (convert 44 5 (.int k n)) K h ⟨⟩↔K (.int .u8 n) h:=by rw[Tryz.cvw44_5,ValI_iff,wrap_u8 h0 h1]
@[simp] theorem Tryz.st5{x1:Int}:Hp Tryz.prog false (storeS 5 (.pointer (some a)) (.int .u8 x1)) K h ⟨⟩↔StoreP (hcell h a) (hfrozen h a) (K undef (hset h a (.int .u8 x1))) ⟨⟩:=Hp_store kR rfl
@[simp] theorem Tryz.eqlN67_0{n c:Nat}:Hp Tryz.prog q (binS .eql 67 x y (.slice none n c) (.slice none 0 0)) K h ⟨⟩↔K (.bool true) h:=Hp_eqlNil (b:=true) kR
@[simp] theorem Tryz.eqlN67_1{n c:Nat}:Hp Tryz.prog q (binS .eql 67 x y (.slice (some a) n c) (.slice none 0 0)) K h ⟨⟩↔K (.bool false) h:=Hp_eqlNil (b:=false) kR
@[simp] theorem Tryz.bs67_0_:Hp Tryz.prog false (buildSlice 67 0 #[]) K h ⟨⟩↔ValT h.size (fun b=>K (.slice (some ⟨b,0,none⟩) 0 0) (h.push (.cells (List.toArray []) 139))) ⟨⟩:=Hp_newT kR
-- theorem Tryz.cv9_52 {l:List UInt8}:Hp Tryz.prog false (convert 9 52 (str l)) K h ⟨⟩↔∀cap,l.length<=cap->K (.slice (some ⟨h.size,0,none⟩) l.length cap) (strBlock h 5 l cap):=Hp_strBytes (e:=5) kR kR
@[simp] theorem Tryz.fd144_2:vf 144 2 2:=Hp_field kR
@[simp] theorem Tryz.ld139:Hp Tryz.prog q (loadAt 139 (.pointer (some a))) K h ⟨⟩↔loadsP h a 0 2 fun vs=>K (.agg vs.toArray) h:=Hp_loadAgg kR kR
@[simp] theorem Tryz.al139:Hp Tryz.prog false (alloc 139 true undef) K h ⟨⟩↔ValT h.size (fun b=>K (.pointer (some ⟨b,0,none⟩)) (h.push (.cells #[(.int .i64 0),(.int .i64 0)] 139))) ⟨⟩:=Hp_allocZ (z:=(.agg #[(.int .i64 0),(.int .i64 0)])) kR
@[simp] theorem Tryz.st139{x1:Int}{x2:Int}:Hp Tryz.prog false (storeS 139 (.pointer (some a)) (.agg #[(.int .i64 x1),(.int .i64 x2)])) K h ⟨⟩↔storesP a 0 [(.int .i64 x1),(.int .i64 x2)] (K undef) h:=Hp_storeAgg kR (by simp[one,str])
@[simp] theorem Tryz.slc67_10{len cap:Nat}{k:IntKind}{lo:Int}(h0:0<=lo)(h1:lo<=len)(hc:len<=cap):Hp Tryz.prog q (sliceAt 67 (.slice (some a) len cap) (some (.int k lo)) none none) K h ⟨⟩↔ValT lo.toNat (fun l=>K (.slice (some (subS 2 a l cap)) (len-l) (cap-l)) h) ⟨⟩:=Hp_slsLN kR h0 h1 hc
@[simp] theorem Tryz.slcn67_10{k k':IntKind}{lo hi:Int}(h0:lo=0):Hp Tryz.prog q (sliceAt 67 (.slice none 0 0) (some (.int k lo)) none none) K h ⟨⟩↔K (.slice none 0 0) h:=Hp_sliceNil (s:=2) kR rfl rfl h0 rfl
@[simp] theorem Tryz.fd139_1:vf 139 1 1:=Hp_field kR
@[simp] theorem Tryz.eqlN95_0{n c:Nat}:Hp Tryz.prog q (binS .eql 95 x y (.slice none n c) (.slice none 0 0)) K h ⟨⟩↔K (.bool true) h:=Hp_eqlNil (b:=true) kR
@[simp] theorem Tryz.eqlN95_1{n c:Nat}:Hp Tryz.prog q (binS .eql 95 x y (.slice (some a) n c) (.slice none 0 0)) K h ⟨⟩↔K (.bool false) h:=Hp_eqlNil (b:=false) kR
@[simp] theorem Tryz.bs95_0_:Hp Tryz.prog false (buildSlice 95 0 #[]) K h ⟨⟩↔ValT h.size (fun b=>K (.slice (some ⟨b,0,none⟩) 0 0) (h.push (.cells (List.toArray []) 146))) ⟨⟩:=Hp_newT kR
theorem Tryz.cvw44_3{k:IntKind}{n:Int}:Hp Tryz.prog q (convert 44 3 (.int k n)) K h ⟨⟩↔ValI (IntKind.i64.wrap n) (fun n=>K (.int .i64 n) h) ⟨⟩:=Hp_convInt (d:=.int .u64) kR kR
@[simp] theorem Tryz.cv44_3{k:IntKind}{n:Int}(h0 : -9223372036854775808<=n)(h1:n<9223372036854775808):Hp Tryz.prog q (convert 44 3 (.int k n)) K h ⟨⟩↔K (.int .i64 n) h:=by rw[Tryz.cvw44_3,ValI_iff,wrap_i64 h0 h1]
@[simp] theorem Tryz.len197:vn 197:=Hp_iff.trans (iff_of_eq kR)
@[simp] theorem Tryz.ix197{len cap:Nat}{k:IntKind}{n:Int}(n0:0<=n)(n1:n<len):Hp Tryz.prog q (indexAt 197 (.slice (some a) len cap) (.int k n)) K h ⟨⟩↔ValT n.toNat (fun j=>K (.pointer (some (elt a (j*3)))) h) ⟨⟩:=Hp_indexAtS kR n0 n1
@[simp] theorem Tryz.ld200:Hp Tryz.prog q (loadAt 200 (.pointer (some a))) K h ⟨⟩↔loadsP h a 0 3 fun vs=>K (.agg vs.toArray) h:=Hp_loadAgg kR kR
@[simp] theorem Tryz.al200:Hp Tryz.prog false (alloc 200 true undef) K h ⟨⟩↔ValT h.size (fun b=>K (.pointer (some ⟨b,0,none⟩)) (h.push (.cells #[(.int .i64 0),(.int .i64 0),(.int .u64 0)] 200))) ⟨⟩:=Hp_allocZ (z:=(.agg #[(.int .i64 0),(.int .i64 0),(.int .u64 0)])) kR
@[simp] theorem Tryz.st200{x1:Int}{x2:Int}{x3:Int}:Hp Tryz.prog false (storeS 200 (.pointer (some a)) (.agg #[(.int .i64 x1),(.int .i64 x2),(.int .u64 x3)])) K h ⟨⟩↔storesP a 0 [(.int .i64 x1),(.int .i64 x2),(.int .u64 x3)] (K undef) h:=Hp_storeAgg kR (by simp[one,str])
@[simp] theorem Tryz.fd200_0:vf 200 0 0:=Hp_field kR
@[simp] theorem Tryz.fd200_1:vf 200 1 1:=Hp_field kR
@[simp] theorem Tryz.fd200_2:vf 200 2 2:=Hp_field kR
theorem Tryz.cvw3_192{k:IntKind}{n:Int}:Hp Tryz.prog q (convert 3 192 (.int k n)) K h ⟨⟩↔ValI (IntKind.u64.wrap n) (fun n=>K (.int .u64 n) h) ⟨⟩:=Hp_convInt (d:=.int .i64) kR kR
@[simp] theorem Tryz.cv3_192{k:IntKind}{n:Int}(h0:0<=n)(h1:n<18446744073709551616):Hp Tryz.prog q (convert 3 192 (.int k n)) K h ⟨⟩↔K (.int .u64 n) h:=by rw[Tryz.cvw3_192,ValI_iff,wrap_u64 h0 h1]
@[simp] theorem Tryz.ld104:vl 104:=Hp_load kR
@[simp] theorem Tryz.bd206_0_1_2_3_4_5_6{x1:Int}{x2:Int}{x3:Int}{x4:Int}{x5:Int}{x6:Int}{x7:Int}:Hp Tryz.prog q (build 206 #[(0,(.int .i64 x1)),(1,(.int .i64 x2)),(2,(.int .i64 x3)),(3,(.int .i64 x4)),(4,(.int .i64 x5)),(5,(.int .i64 x6)),(6,(.int .i64 x7))]) K h ⟨⟩↔K (.agg #[(.int .i64 x1),(.int .i64 x2),(.int .i64 x3),(.int .i64 x4),(.int .i64 x5),(.int .i64 x6),(.int .i64 x7)]) h:=Hp_iff.trans (iff_of_eq kR)
@[simp] theorem Tryz.al206:Hp Tryz.prog false (alloc 206 true undef) K h ⟨⟩↔ValT h.size (fun b=>K (.pointer (some ⟨b,0,none⟩)) (h.push (.cells #[(.int .i64 0),(.int .i64 0),(.int .i64 0),(.int .i64 0),(.int .i64 0),(.int .i64 0),(.int .i64 0)] 206))) ⟨⟩:=Hp_allocZ (z:=(.agg #[(.int .i64 0),(.int .i64 0),(.int .i64 0),(.int .i64 0),(.int .i64 0),(.int .i64 0),(.int .i64 0)])) kR
@[simp] theorem Tryz.st206{x1:Int}{x2:Int}{x3:Int}{x4:Int}{x5:Int}{x6:Int}{x7:Int}:Hp Tryz.prog false (storeS 206 (.pointer (some a)) (.agg #[(.int .i64 x1),(.int .i64 x2),(.int .i64 x3),(.int .i64 x4),(.int .i64 x5),(.int .i64 x6),(.int .i64 x7)])) K h ⟨⟩↔storesP a 0 [(.int .i64 x1),(.int .i64 x2),(.int .i64 x3),(.int .i64 x4),(.int .i64 x5),(.int .i64 x6),(.int .i64 x7)] (K undef) h:=Hp_storeAgg kR (by simp[one,str])
@[simp] theorem Tryz.ix206{k:IntKind}{n:Int}(n0:0<=n)(n1:n<7):Hp Tryz.prog q (indexAt 206 (.pointer (some a)) (.int k n)) K h ⟨⟩↔ValT n.toNat (fun j=>K (.pointer (some (a.add (j*1)))) h) ⟨⟩:=Hp_indexArr (len:=7) kR n0 (by simpa using n1)
@[simp] theorem Tryz.ld110:vl 110:=Hp_load kR
@[simp] theorem Tryz.al169:Hp Tryz.prog false (alloc 169 true undef) K h ⟨⟩↔ValT h.size (fun b=>K (.pointer (some ⟨b,0,none⟩)) (h.push (.cells #[.nilFunc] 169))) ⟨⟩:=Hp_allocZ (z:=.nilFunc) kR
theorem Tryz.st169{v:Value}(hv:one v=true):Hp Tryz.prog false (storeS 169 (.pointer (some a)) v) K h ⟨⟩↔StoreP (hcell h a) (hfrozen h a) (K undef (hset h a v)) ⟨⟩:=Hp_store kR hv
@[simp] theorem Tryz.ld169:vl 169:=Hp_load kR
@[simp] theorem Tryz.bs225_7_0_1_2_3_4_5_6{x1:Bool}{x2:Bool}{x3:Bool}{x4:Bool}{x5:Bool}{x6:Bool}{x7:Bool}:Hp Tryz.prog false (buildSlice 225 7 #[(0,(.bool x1)),(1,(.bool x2)),(2,(.bool x3)),(3,(.bool x4)),(4,(.bool x5)),(5,(.bool x6)),(6,(.bool x7))]) K h ⟨⟩↔ValT h.size (fun b=>K (.slice (some ⟨b,0,none⟩) 7 7) (h.push (.cells (List.toArray [(.bool x1),(.bool x2),(.bool x3),(.bool x4),(.bool x5),(.bool x6),(.bool x7)]) 4))) ⟨⟩:=Hp_newT kR
@[simp] theorem Tryz.len225:vn 225:=Hp_iff.trans (iff_of_eq kR)
@[simp] theorem Tryz.ix225{len cap:Nat}{k:IntKind}{n:Int}(n0:0<=n)(n1:n<len):Hp Tryz.prog q (indexAt 225 (.slice (some a) len cap) (.int k n)) K h ⟨⟩↔ValT n.toNat (fun j=>K (.pointer (some (elt a j))) h) ⟨⟩:=Hp_indexAt1 kR n0 n1
@[simp] theorem Tryz.bd200_0_1_2{x1:Int}{x2:Int}{x3:Int}:Hp Tryz.prog q (build 200 #[(0,(.int .i64 x1)),(1,(.int .i64 x2)),(2,(.int .u64 x3))]) K h ⟨⟩↔K (.agg #[(.int .i64 x1),(.int .i64 x2),(.int .u64 x3)]) h:=Hp_iff.trans (iff_of_eq kR)
@[simp] theorem Tryz.bs197_14_0_1_2_3_4_5_6_7_8_9_10_11_12_13{x1:Int}{x2:Int}{x3:Int}{x4:Int}{x5:Int}{x6:Int}{x7:Int}{x8:Int}{x9:Int}{x10:Int}{x11:Int}{x12:Int}{x13:Int}{x14:Int}{x15:Int}{x16:Int}{x17:Int}{x18:Int}{x19:Int}{x20:Int}{x21:Int}{x22:Int}{x23:Int}{x24:Int}{x25:Int}{x26:Int}{x27:Int}{x28:Int}{x29:Int}{x30:Int}{x31:Int}{x32:Int}{x33:Int}{x34:Int}{x35:Int}{x36:Int}{x37:Int}{x38:Int}{x39:Int}{x40:Int}{x41:Int}{x42:Int}:Hp Tryz.prog false (buildSlice 197 14 #[(0,.agg #[(.int .i64 x1),(.int .i64 x2),(.int .u64 x3)]),(1,.agg #[(.int .i64 x4),(.int .i64 x5),(.int .u64 x6)]),(2,.agg #[(.int .i64 x7),(.int .i64 x8),(.int .u64 x9)]),(3,.agg #[(.int .i64 x10),(.int .i64 x11),(.int .u64 x12)]),(4,.agg #[(.int .i64 x13),(.int .i64 x14),(.int .u64 x15)]),(5,.agg #[(.int .i64 x16),(.int .i64 x17),(.int .u64 x18)]),(6,.agg #[(.int .i64 x19),(.int .i64 x20),(.int .u64 x21)]),(7,.agg #[(.int .i64 x22),(.int .i64 x23),(.int .u64 x24)]),(8,.agg #[(.int .i64 x25),(.int .i64 x26),(.int .u64 x27)]),(9,.agg #[(.int .i64 x28),(.int .i64 x29),(.int .u64 x30)]),(10,.agg #[(.int .i64 x31),(.int .i64 x32),(.int .u64 x33)]),(11,.agg #[(.int .i64 x34),(.int .i64 x35),(.int .u64 x36)]),(12,.agg #[(.int .i64 x37),(.int .i64 x38),(.int .u64 x39)]),(13,.agg #[(.int .i64 x40),(.int .i64 x41),(.int .u64 x42)])]) K h ⟨⟩↔ValT h.size (fun b=>K (.slice (some ⟨b,0,none⟩) 14 14) (h.push (.cells (List.toArray [(.int .i64 x1),(.int .i64 x2),(.int .u64 x3),(.int .i64 x4),(.int .i64 x5),(.int .u64 x6),(.int .i64 x7),(.int .i64 x8),(.int .u64 x9),(.int .i64 x10),(.int .i64 x11),(.int .u64 x12),(.int .i64 x13),(.int .i64 x14),(.int .u64 x15),(.int .i64 x16),(.int .i64 x17),(.int .u64 x18),(.int .i64 x19),(.int .i64 x20),(.int .u64 x21),(.int .i64 x22),(.int .i64 x23),(.int .u64 x24),(.int .i64 x25),(.int .i64 x26),(.int .u64 x27),(.int .i64 x28),(.int .i64 x29),(.int .u64 x30),(.int .i64 x31),(.int .i64 x32),(.int .u64 x33),(.int .i64 x34),(.int .i64 x35),(.int .u64 x36),(.int .i64 x37),(.int .i64 x38),(.int .u64 x39),(.int .i64 x40),(.int .i64 x41),(.int .u64 x42)]) 200))) ⟨⟩:=Hp_newT kR
@[simp] theorem Tryz.st128{x1:Option Addr}{x2:Nat}{x3:Nat}:Hp Tryz.prog false (storeS 128 (.pointer (some a)) (.slice x1 x2 x3)) K h ⟨⟩↔StoreP (hcell h a) (hfrozen h a) (K undef (hset h a (.slice x1 x2 x3))) ⟨⟩:=Hp_store kR rfl
theorem Tryz.cvw3_253{k:IntKind}{n:Int}:Hp Tryz.prog q (convert 3 253 (.int k n)) K h ⟨⟩↔ValI (IntKind.u64.wrap n) (fun n=>K (.int .u64 n) h) ⟨⟩:=Hp_convInt (d:=.int .i64) kR kR
@[simp] theorem Tryz.cv3_253{k:IntKind}{n:Int}(h0:0<=n)(h1:n<18446744073709551616):Hp Tryz.prog q (convert 3 253 (.int k n)) K h ⟨⟩↔K (.int .u64 n) h:=by rw[Tryz.cvw3_253,ValI_iff,wrap_u64 h0 h1]
@[simp] theorem Tryz.al253:Hp Tryz.prog false (alloc 253 true undef) K h ⟨⟩↔ValT h.size (fun b=>K (.pointer (some ⟨b,0,none⟩)) (h.push (.cells #[(.int .u64 0)] 253))) ⟨⟩:=Hp_allocZ (z:=(.int .u64 0)) kR
@[simp] theorem Tryz.st253{x1:Int}:Hp Tryz.prog false (storeS 253 (.pointer (some a)) (.int .u64 x1)) K h ⟨⟩↔StoreP (hcell h a) (hfrozen h a) (K undef (hset h a (.int .u64 x1))) ⟨⟩:=Hp_store kR rfl
theorem Tryz.cvw192_3{k:IntKind}{n:Int}:Hp Tryz.prog q (convert 192 3 (.int k n)) K h ⟨⟩↔ValI (IntKind.i64.wrap n) (fun n=>K (.int .i64 n) h) ⟨⟩:=Hp_convInt (d:=.int .u64) kR kR
@[simp] theorem Tryz.cv192_3{k:IntKind}{n:Int}(h0 : -9223372036854775808<=n)(h1:n<9223372036854775808):Hp Tryz.prog q (convert 192 3 (.int k n)) K h ⟨⟩↔K (.int .i64 n) h:=by rw[Tryz.cvw192_3,ValI_iff,wrap_i64 h0 h1]
@[simp] theorem Tryz.al3:Hp Tryz.prog false (alloc 3 true undef) K h ⟨⟩↔ValT h.size (fun b=>K (.pointer (some ⟨b,0,none⟩)) (h.push (.cells #[(.int .i64 0)] 3))) ⟨⟩:=Hp_allocZ (z:=(.int .i64 0)) kR
@[simp] theorem Tryz.cvB5_3{b:UInt8}:Hp Tryz.prog q (convert 5 3 (byteV b)) K h ⟨⟩↔K (.int .i64 b.toNat) h:=Hp_convB (d:=.int .u8) kR kR sM
@[simp] theorem Tryz.ld120:vl 120:=Hp_load kR
@[simp] theorem Tryz.bs120_1_0{x1:List UInt8}:Hp Tryz.prog false (buildSlice 120 1 #[(0,(str x1))]) K h ⟨⟩↔ValT h.size (fun b=>K (.slice (some ⟨b,0,none⟩) 1 1) (h.push (.cells (List.toArray [(str x1)]) 9))) ⟨⟩:=Hp_newT kR
@[simp] theorem Tryz.st120{x1:Option Addr}{x2:Nat}{x3:Nat}:Hp Tryz.prog false (storeS 120 (.pointer (some a)) (.slice x1 x2 x3)) K h ⟨⟩↔StoreP (hcell h a) (hfrozen h a) (K undef (hset h a (.slice x1 x2 x3))) ⟨⟩:=Hp_store kR rfl
@[simp] theorem Tryz.ld253:vl 253:=Hp_load kR
end Go.Proofs.YtdccfkffabngjaaGreat

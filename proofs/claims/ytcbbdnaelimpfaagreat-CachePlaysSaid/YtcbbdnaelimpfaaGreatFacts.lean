/- Printed by /tmp/tools2/facts.py. -/
import Derived.Test.YtcbbdnaelimpfaaGreatVcMulti
import Derived.Test.YtcbbdnaelimpfaaGreatProg
set_option maxRecDepth 100000
set_option linter.unusedVariables false
set_option linter.unusedSimpArgs false
namespace Go.Proofs.YtcbbdnaelimpfaaGreat
open Go.Vc

variable {q:Bool} {a:Addr} {x y:Operand} {K:VP} {h:Heap}
open Go.Instr Go.Builtin
@[simp] theorem Tryz.ld61:Hp Tryz.prog q (loadAt 61 (.pointer (some a))) K h ⟨⟩↔loadsP h a 0 5 fun vs=>K (.agg vs.toArray) h:=Hp_loadAgg kR kR
@[simp] theorem Tryz.fd61_0:Hp Tryz.prog q (fieldAt 61 (.pointer (some a)) 0) K h ⟨⟩↔K (.pointer (some (a.add 0))) h:=Hp_field kR
@[simp] theorem Tryz.ld2:Hp Tryz.prog q (loadAt 2 (.pointer (some a))) K h ⟨⟩↔LoadP (hcell h a) (fun v=>K v h) ⟨⟩:=Hp_load kR
@[simp] theorem Tryz.fd61_1:Hp Tryz.prog q (fieldAt 61 (.pointer (some a)) 1) K h ⟨⟩↔K (.pointer (some (a.add 1))) h:=Hp_field kR
@[simp] theorem Tryz.ld48:Hp Tryz.prog q (loadAt 48 (.pointer (some a))) K h ⟨⟩↔LoadP (hcell h a) (fun v=>K v h) ⟨⟩:=Hp_load kR
@[simp] theorem Tryz.eqlN26_0:Hp Tryz.prog q (binS .eql 26 x y (.pointer none) (.pointer none)) K h ⟨⟩↔K (.bool true) h:=Hp_eqlNil (b:=true) kR
@[simp] theorem Tryz.eqlN26_1:Hp Tryz.prog q (binS .eql 26 x y (.pointer (some a)) (.pointer none)) K h ⟨⟩↔K (.bool false) h:=Hp_eqlNil (b:=false) kR
@[simp] theorem Tryz.bs48_0_:Hp Tryz.prog false (buildSlice 48 0 #[]) K h ⟨⟩↔ValT h.size (fun b=>K (.slice (some ⟨b,0,none⟩) 0 0) (h.push (.cells (List.toArray []) 118))) ⟨⟩:=Hp_newT kR
@[simp] theorem Tryz.fd68_1:Hp Tryz.prog q (fieldAt 68 (.pointer (some a)) 1) K h ⟨⟩↔K (.pointer (some (a.add 1))) h:=Hp_field kR
@[simp] theorem Tryz.st48 {x1:Option Addr} {x2:Nat} {x3:Nat}:Hp Tryz.prog false (storeS 48 (.pointer (some a)) (.slice x1 x2 x3)) K h ⟨⟩↔StoreP (hcell h a) (hfrozen h a) (K undef (hset h a (.slice x1 x2 x3))) ⟨⟩:=Hp_store kR rfl
@[simp] theorem Tryz.fd61_2:Hp Tryz.prog q (fieldAt 61 (.pointer (some a)) 2) K h ⟨⟩↔K (.pointer (some (a.add 2))) h:=Hp_field kR
@[simp] theorem Tryz.ld3:Hp Tryz.prog q (loadAt 3 (.pointer (some a))) K h ⟨⟩↔LoadP (hcell h a) (fun v=>K v h) ⟨⟩:=Hp_load kR
@[simp] theorem Tryz.fd61_3:Hp Tryz.prog q (fieldAt 61 (.pointer (some a)) 3) K h ⟨⟩↔K (.pointer (some (a.add 3))) h:=Hp_field kR
@[simp] theorem Tryz.eqlN28_0:Hp Tryz.prog q (binS .eql 28 x y (.pointer none) (.pointer none)) K h ⟨⟩↔K (.bool true) h:=Hp_eqlNil (b:=true) kR
@[simp] theorem Tryz.eqlN28_1:Hp Tryz.prog q (binS .eql 28 x y (.pointer (some a)) (.pointer none)) K h ⟨⟩↔K (.bool false) h:=Hp_eqlNil (b:=false) kR
@[simp] theorem Tryz.bd73_0_1_2 {x1:Option Addr} {x2:Option Addr} {x3:Option Addr}:Hp Tryz.prog q (build 73 #[(0,(.pointer x1)),(1,(.pointer x2)),(2,(.pointer x3))]) K h ⟨⟩↔K (.agg #[(.pointer x1),(.pointer x2),(.pointer x3)]) h:=Hp_iff.trans (iff_of_eq kR)
@[simp] theorem Tryz.al73:Hp Tryz.prog false (alloc 73 true undef) K h ⟨⟩↔ValT h.size (fun b=>K (.pointer (some ⟨b,0,none⟩)) (h.push (.cells #[(.pointer none),(.pointer none),(.pointer none)] 73))) ⟨⟩:=Hp_allocZ (z:=(.agg #[(.pointer none),(.pointer none),(.pointer none)])) kR
@[simp] theorem Tryz.st73 {x1:Option Addr} {x2:Option Addr} {x3:Option Addr}:Hp Tryz.prog false (storeS 73 (.pointer (some a)) (.agg #[(.pointer x1),(.pointer x2),(.pointer x3)])) K h ⟨⟩↔storesP a 0 [(.pointer x1),(.pointer x2),(.pointer x3)] (K undef) h:=Hp_storeAgg kR (by simp [one,str])
@[simp] theorem Tryz.fd61_4:Hp Tryz.prog q (fieldAt 61 (.pointer (some a)) 4) K h ⟨⟩↔K (.pointer (some (a.add 4))) h:=Hp_field kR
@[simp] theorem Tryz.ld22:Hp Tryz.prog q (loadAt 22 (.pointer (some a))) K h ⟨⟩↔LoadP (hcell h a) (fun v=>K v h) ⟨⟩:=Hp_load kR
@[simp] theorem Tryz.len22 {a:Option Addr} {n c:Nat}:Hp Tryz.prog q (len_ #[22] 3 #[.slice a n c]) K h ⟨⟩↔K (.int .i64 n) h:=Hp_iff.trans (iff_of_eq kR)
@[simp] theorem Tryz.ld73:Hp Tryz.prog q (loadAt 73 (.pointer (some a))) K h ⟨⟩↔loadsP h a 0 3 fun vs=>K (.agg vs.toArray) h:=Hp_loadAgg kR kR
@[simp] theorem Tryz.ix22 {len cap:Nat} {k:IntKind} {n:Int} (n0:0≤n) (n1:n<len):Hp Tryz.prog q (indexAt 22 (.slice (some a) len cap) (.int k n)) K h ⟨⟩↔ValT n.toNat (fun j=>K (.pointer (some (elt a (j*6)))) h) ⟨⟩:=Hp_indexAtS kR n0 n1
@[simp] theorem Tryz.ld35:Hp Tryz.prog q (loadAt 35 (.pointer (some a))) K h ⟨⟩↔loadsP h a 0 6 fun vs=>K (.agg vs.toArray) h:=Hp_loadAgg kR kR
@[simp] theorem Tryz.eqlN78_1 {a:Fn} {b c:Array Value}:Hp Tryz.prog q (binS .eql 78 x y (.func a b c) (.nilFunc)) K h ⟨⟩↔K (.bool false) h:=Hp_eqlNil (b:=false) kR
@[simp] theorem Tryz.bs33_1_0 {x1:Int}:Hp Tryz.prog false (buildSlice 33 1 #[(0,(.int .u8 x1))]) K h ⟨⟩↔ValT h.size (fun b=>K (.slice (some ⟨b,0,none⟩) 1 1) (h.push (.cells (List.toArray [(.int .u8 x1)]) 5))) ⟨⟩:=Hp_newT kR
@[simp] theorem Tryz.al81:Hp Tryz.prog false (alloc 81 true undef) K h ⟨⟩↔ValT h.size (fun b=>K (.pointer (some ⟨b,0,none⟩)) (h.push (.cells #[(.int .i64 0),(.int .i64 0),(.int .i64 0),(.int .i64 0)] 81))) ⟨⟩:=Hp_allocZ (z:=(.agg #[(.int .i64 0),(.int .i64 0),(.int .i64 0),(.int .i64 0)])) kR
@[simp] theorem Tryz.st81 {x1:Int} {x2:Int} {x3:Int} {x4:Int}:Hp Tryz.prog false (storeS 81 (.pointer (some a)) (.agg #[(.int .i64 x1),(.int .i64 x2),(.int .i64 x3),(.int .i64 x4)])) K h ⟨⟩↔storesP a 0 [(.int .i64 x1),(.int .i64 x2),(.int .i64 x3),(.int .i64 x4)] (K undef) h:=Hp_storeAgg kR (by simp [one,str])
@[simp] theorem Tryz.len33 {a:Option Addr} {n c:Nat}:Hp Tryz.prog q (len_ #[33] 3 #[.slice a n c]) K h ⟨⟩↔K (.int .i64 n) h:=Hp_iff.trans (iff_of_eq kR)
@[simp] theorem Tryz.ix33 {len cap:Nat} {k:IntKind} {n:Int} (n0:0≤n) (n1:n<len):Hp Tryz.prog q (indexAt 33 (.slice (some a) len cap) (.int k n)) K h ⟨⟩↔ValT n.toNat (fun j=>K (.pointer (some (elt a j))) h) ⟨⟩:=Hp_indexAt1 kR n0 n1
@[simp] theorem Tryz.ld5:Hp Tryz.prog q (loadAt 5 (.pointer (some a))) K h ⟨⟩↔LoadP (hcell h a) (fun v=>K v h) ⟨⟩:=Hp_load kR
@[simp] theorem Tryz.ld81:Hp Tryz.prog q (loadAt 81 (.pointer (some a))) K h ⟨⟩↔loadsP h a 0 4 fun vs=>K (.agg vs.toArray) h:=Hp_loadAgg kR kR
@[simp] theorem Tryz.bd81_1_2_3 {x1:Int} {x2:Int} {x3:Int}:Hp Tryz.prog q (build 81 #[(1,(.int .i64 x1)),(2,(.int .i64 x2)),(3,(.int .i64 x3))]) K h ⟨⟩↔K (.agg #[(.int .i64 0),(.int .i64 x1),(.int .i64 x2),(.int .i64 x3)]) h:=Hp_iff.trans (iff_of_eq kR)
@[simp] theorem Tryz.eql81 {x1:Int} {x2:Int} {x3:Int} {x4:Int} {x5:Int} {x6:Int} {x7:Int} {x8:Int}:Hp Tryz.prog q (binS .eql 81 x y (.agg #[(.int .i64 x1),(.int .i64 x2),(.int .i64 x3),(.int .i64 x4)]) (.agg #[(.int .i64 x5),(.int .i64 x6),(.int .i64 x7),(.int .i64 x8)])) K h ⟨⟩↔Split ([decide (x1=x5),decide (x2=x6),decide (x3=x7),decide (x4=x8)].all id=true) (K (.bool true) h) (K (.bool false) h) ⟨⟩ ⟨⟩:=Hp_eqlT (bs:=[decide (x1=x5),decide (x2=x6),decide (x3=x7),decide (x4=x8)]) kR
@[simp] theorem Tryz.bd93_0_1_2_3_4_5_6 {x1:Option Addr} {x2:List UInt8} {x3:Int} {x4:Int} {x5:Option Nat} {x6:Option Nat} {x7:Option Nat}:Hp Tryz.prog q (build 93 #[(0,(.pointer x1)),(1,(str x2)),(2,(.int .i64 x3)),(3,(.int .i64 x4)),(4,(.map x5)),(5,(.map x6)),(6,(.map x7))]) K h ⟨⟩↔K (.agg #[(.pointer x1),(str x2),(.int .i64 x3),(.int .i64 x4),(.map x5),(.map x6),(.map x7),(.int .i64 0),(.int .i64 0),(.int .i64 0),(.int .i64 0),(.int .i64 0)]) h:=Hp_iff.trans (iff_of_eq kR)
@[simp] theorem Tryz.fd99_1:Hp Tryz.prog q (fieldAt 99 (.pointer (some a)) 1) K h ⟨⟩↔K (.pointer (some (a.add 1))) h:=Hp_field kR
@[simp] theorem Tryz.ld33:Hp Tryz.prog q (loadAt 33 (.pointer (some a))) K h ⟨⟩↔LoadP (hcell h a) (fun v=>K v h) ⟨⟩:=Hp_load kR
@[simp] theorem Tryz.slc33_11 {len cap:Nat} {k k':IntKind} {lo hi:Int} (h0:0≤lo) (h1:lo≤hi) (h2:hi≤cap):Hp Tryz.prog q (sliceAt 33 (.slice (some a) len cap) (some (.int k lo)) (some (.int k' hi)) none) K h ⟨⟩↔ValT lo.toNat (fun l=>ValT hi.toNat (fun r=>K (.slice (some (sub a l cap)) (r-l) (cap-l)) h) ⟨⟩) ⟨⟩:=Hp_slcLH kR h0 h1 h2
@[simp] theorem Tryz.slc33_10 {len cap:Nat} {k:IntKind} {lo:Int} (h0:0≤lo) (h1:lo≤len) (hc:len≤cap):Hp Tryz.prog q (sliceAt 33 (.slice (some a) len cap) (some (.int k lo)) none none) K h ⟨⟩↔ValT lo.toNat (fun l=>K (.slice (some (sub a l cap)) (len-l) (cap-l)) h) ⟨⟩:=Hp_slcLN kR h0 h1 hc
@[simp] theorem Tryz.slcn33_10 {k k':IntKind} {lo hi:Int} (h0:lo=0):Hp Tryz.prog q (sliceAt 33 (.slice none 0 0) (some (.int k lo)) none none) K h ⟨⟩↔K (.slice none 0 0) h:=Hp_sliceNil (s:=1) kR rfl rfl h0 rfl
@[simp] theorem Tryz.fd99_2:Hp Tryz.prog q (fieldAt 99 (.pointer (some a)) 2) K h ⟨⟩↔K (.pointer (some (a.add 2))) h:=Hp_field kR
@[simp] theorem Tryz.ld4:Hp Tryz.prog q (loadAt 4 (.pointer (some a))) K h ⟨⟩↔LoadP (hcell h a) (fun v=>K v h) ⟨⟩:=Hp_load kR
@[simp] theorem Tryz.st4 {x1:Bool}:Hp Tryz.prog false (storeS 4 (.pointer (some a)) (.bool x1)) K h ⟨⟩↔StoreP (hcell h a) (hfrozen h a) (K undef (hset h a (.bool x1))) ⟨⟩:=Hp_store kR rfl
@[simp] theorem Tryz.fd93_6:Hp Tryz.prog q (fieldAt 93 (.pointer (some a)) 6) K h ⟨⟩↔K (.pointer (some (a.add 6))) h:=Hp_field kR
@[simp] theorem Tryz.ld91:Hp Tryz.prog q (loadAt 91 (.pointer (some a))) K h ⟨⟩↔LoadP (hcell h a) (fun v=>K v h) ⟨⟩:=Hp_load kR
@[simp] theorem Tryz.eqlN90_0:Hp Tryz.prog q (binS .eql 90 x y (.map none) (.map none)) K h ⟨⟩↔K (.bool true) h:=Hp_eqlNil (b:=true) kR
@[simp] theorem Tryz.eqlN90_1 {a:Nat}:Hp Tryz.prog q (binS .eql 90 x y (.map (some a)) (.map none)) K h ⟨⟩↔K (.bool false) h:=Hp_eqlNil (b:=false) kR
@[simp] theorem Tryz.fd93_4:Hp Tryz.prog q (fieldAt 93 (.pointer (some a)) 4) K h ⟨⟩↔K (.pointer (some (a.add 4))) h:=Hp_field kR
@[simp] theorem Tryz.ld88:Hp Tryz.prog q (loadAt 88 (.pointer (some a))) K h ⟨⟩↔LoadP (hcell h a) (fun v=>K v h) ⟨⟩:=Hp_load kR
@[simp] theorem Tryz.eqlN94_0:Hp Tryz.prog q (binS .eql 94 x y (.pointer none) (.pointer none)) K h ⟨⟩↔K (.bool true) h:=Hp_eqlNil (b:=true) kR
@[simp] theorem Tryz.eqlN94_1:Hp Tryz.prog q (binS .eql 94 x y (.pointer (some a)) (.pointer none)) K h ⟨⟩↔K (.bool false) h:=Hp_eqlNil (b:=false) kR
@[simp] theorem Tryz.len102 {a:Option Addr} {n c:Nat}:Hp Tryz.prog q (len_ #[102] 3 #[.slice a n c]) K h ⟨⟩↔K (.int .i64 n) h:=Hp_iff.trans (iff_of_eq kR)
@[simp] theorem Tryz.ix102 {len cap:Nat} {k:IntKind} {n:Int} (n0:0≤n) (n1:n<len):Hp Tryz.prog q (indexAt 102 (.slice (some a) len cap) (.int k n)) K h ⟨⟩↔ValT n.toNat (fun j=>K (.pointer (some (elt a j))) h) ⟨⟩:=Hp_indexAt1 kR n0 n1
@[simp] theorem Tryz.fd115_2:Hp Tryz.prog q (fieldAt 115 (.pointer (some a)) 2) K h ⟨⟩↔K (.pointer (some (a.add 2))) h:=Hp_field kR
@[simp] theorem Tryz.slc33_01 {len cap:Nat} {k':IntKind} {hi:Int} (h1:0≤hi) (h2:hi≤cap):Hp Tryz.prog q (sliceAt 33 (.slice (some a) len cap) none (some (.int k' hi)) none) K h ⟨⟩↔ValT hi.toNat (fun r=>K (.slice (some a) r cap) h) ⟨⟩:=Hp_slcNH kR h1 h2
@[simp] theorem Tryz.len48 {a:Option Addr} {n c:Nat}:Hp Tryz.prog q (len_ #[48] 3 #[.slice a n c]) K h ⟨⟩↔K (.int .i64 n) h:=Hp_iff.trans (iff_of_eq kR)
@[simp] theorem Tryz.ix48 {len cap:Nat} {k:IntKind} {n:Int} (n0:0≤n) (n1:n<len):Hp Tryz.prog q (indexAt 48 (.slice (some a) len cap) (.int k n)) K h ⟨⟩↔ValT n.toNat (fun j=>K (.pointer (some (elt a (j*2)))) h) ⟨⟩:=Hp_indexAtS kR n0 n1
@[simp] theorem Tryz.fd118_0:Hp Tryz.prog q (fieldAt 118 (.pointer (some a)) 0) K h ⟨⟩↔K (.pointer (some (a.add 0))) h:=Hp_field kR
@[simp] theorem Tryz.ld116:Hp Tryz.prog q (loadAt 116 (.pointer (some a))) K h ⟨⟩↔LoadP (hcell h a) (fun v=>K v h) ⟨⟩:=Hp_load kR
@[simp] theorem Tryz.al35:Hp Tryz.prog false (alloc 35 true undef) K h ⟨⟩↔ValT h.size (fun b=>K (.pointer (some ⟨b,0,none⟩)) (h.push (.cells #[(.int .i64 0),(.int .i64 0),(.int .i64 0),(.int .i64 0),(.int .i64 0),(.slice none 0 0)] 35))) ⟨⟩:=Hp_allocZ (z:=(.agg #[(.int .i64 0),(.int .i64 0),(.int .i64 0),(.int .i64 0),(.int .i64 0),(.slice none 0 0)])) kR
@[simp] theorem Tryz.st35 {x1:Int} {x2:Int} {x3:Int} {x4:Int} {x5:Int} {x6:Option Addr} {x7:Nat} {x8:Nat}:Hp Tryz.prog false (storeS 35 (.pointer (some a)) (.agg #[(.int .i64 x1),(.int .i64 x2),(.int .i64 x3),(.int .i64 x4),(.int .i64 x5),(.slice x6 x7 x8)])) K h ⟨⟩↔storesP a 0 [(.int .i64 x1),(.int .i64 x2),(.int .i64 x3),(.int .i64 x4),(.int .i64 x5),(.slice x6 x7 x8)] (K undef) h:=Hp_storeAgg kR (by simp [one,str])
@[simp] theorem Tryz.fd35_3:Hp Tryz.prog q (fieldAt 35 (.pointer (some a)) 3) K h ⟨⟩↔K (.pointer (some (a.add 3))) h:=Hp_field kR
@[simp] theorem Tryz.fd35_5:Hp Tryz.prog q (fieldAt 35 (.pointer (some a)) 5) K h ⟨⟩↔K (.pointer (some (a.add 5))) h:=Hp_field kR
@[simp] theorem Tryz.bd68_1 {x1:Option Addr} {x2:Nat} {x3:Nat}:Hp Tryz.prog q (build 68 #[(1,(.slice x1 x2 x3))]) K h ⟨⟩↔K (.agg #[(.slice none 0 0),(.slice x1 x2 x3),(.int .i64 0)]) h:=Hp_iff.trans (iff_of_eq kR)
@[simp] theorem Tryz.fd68_0:Hp Tryz.prog q (fieldAt 68 (.pointer (some a)) 0) K h ⟨⟩↔K (.pointer (some (a.add 0))) h:=Hp_field kR
@[simp] theorem Tryz.ld66:Hp Tryz.prog q (loadAt 66 (.pointer (some a))) K h ⟨⟩↔LoadP (hcell h a) (fun v=>K v h) ⟨⟩:=Hp_load kR
@[simp] theorem Tryz.len66 {a:Option Addr} {n c:Nat}:Hp Tryz.prog q (len_ #[66] 3 #[.slice a n c]) K h ⟨⟩↔K (.int .i64 n) h:=Hp_iff.trans (iff_of_eq kR)
@[simp] theorem Tryz.ix66 {len cap:Nat} {k:IntKind} {n:Int} (n0:0≤n) (n1:n<len):Hp Tryz.prog q (indexAt 66 (.slice (some a) len cap) (.int k n)) K h ⟨⟩↔ValT n.toNat (fun j=>K (.pointer (some (elt a (j*3)))) h) ⟨⟩:=Hp_indexAtS kR n0 n1
@[simp] theorem Tryz.fd129_0:Hp Tryz.prog q (fieldAt 129 (.pointer (some a)) 0) K h ⟨⟩↔K (.pointer (some (a.add 0))) h:=Hp_field kR
@[simp] theorem Tryz.ld9:Hp Tryz.prog q (loadAt 9 (.pointer (some a))) K h ⟨⟩↔LoadP (hcell h a) (fun v=>K v h) ⟨⟩:=Hp_load kR
@[simp] theorem Tryz.slc66_01 {len cap:Nat} {k':IntKind} {hi:Int} (h1:0≤hi) (h2:hi≤cap):Hp Tryz.prog q (sliceAt 66 (.slice (some a) len cap) none (some (.int k' hi)) none) K h ⟨⟩↔ValT hi.toNat (fun r=>K (.slice (some a) r cap) h) ⟨⟩:=Hp_slsNH (s:=3) kR h1 h2
@[simp] theorem Tryz.bd129_0 {x1:List UInt8}:Hp Tryz.prog q (build 129 #[(0,(str x1))]) K h ⟨⟩↔K (.agg #[(str x1),(str []),(.slice none 0 0)]) h:=Hp_iff.trans (iff_of_eq kR)
@[simp] theorem Tryz.bs66_1_0 {x1:List UInt8} {x2:List UInt8} {x3:Option Addr} {x4:Nat} {x5:Nat}:Hp Tryz.prog false (buildSlice 66 1 #[(0,.agg #[(str x1),(str x2),(.slice x3 x4 x5)])]) K h ⟨⟩↔ValT h.size (fun b=>K (.slice (some ⟨b,0,none⟩) 1 1) (h.push (.cells (List.toArray [(str x1),(str x2),(.slice x3 x4 x5)]) 129))) ⟨⟩:=Hp_newT kR
@[simp] theorem Tryz.slc66_10 {len cap:Nat} {k:IntKind} {lo:Int} (h0:0≤lo) (h1:lo≤len) (hc:len≤cap):Hp Tryz.prog q (sliceAt 66 (.slice (some a) len cap) (some (.int k lo)) none none) K h ⟨⟩↔ValT lo.toNat (fun l=>K (.slice (some (subS 3 a l cap)) (len-l) (cap-l)) h) ⟨⟩:=Hp_slsLN kR h0 h1 hc
@[simp] theorem Tryz.slcn66_10 {k k':IntKind} {lo hi:Int} (h0:lo=0):Hp Tryz.prog q (sliceAt 66 (.slice none 0 0) (some (.int k lo)) none none) K h ⟨⟩↔K (.slice none 0 0) h:=Hp_sliceNil (s:=3) kR rfl rfl h0 rfl
@[simp] theorem Tryz.st66 {x1:Option Addr} {x2:Nat} {x3:Nat}:Hp Tryz.prog false (storeS 66 (.pointer (some a)) (.slice x1 x2 x3)) K h ⟨⟩↔StoreP (hcell h a) (hfrozen h a) (K undef (hset h a (.slice x1 x2 x3))) ⟨⟩:=Hp_store kR rfl
@[simp] theorem Tryz.ld129:Hp Tryz.prog q (loadAt 129 (.pointer (some a))) K h ⟨⟩↔loadsP h a 0 3 fun vs=>K (.agg vs.toArray) h:=Hp_loadAgg kR kR
@[simp] theorem Tryz.al129:Hp Tryz.prog false (alloc 129 true undef) K h ⟨⟩↔ValT h.size (fun b=>K (.pointer (some ⟨b,0,none⟩)) (h.push (.cells #[(str []),(str []),(.slice none 0 0)] 129))) ⟨⟩:=Hp_allocZ (z:=(.agg #[(str []),(str []),(.slice none 0 0)])) kR
@[simp] theorem Tryz.st129 {x1:List UInt8} {x2:List UInt8} {x3:Option Addr} {x4:Nat} {x5:Nat}:Hp Tryz.prog false (storeS 129 (.pointer (some a)) (.agg #[(str x1),(str x2),(.slice x3 x4 x5)])) K h ⟨⟩↔storesP a 0 [(str x1),(str x2),(.slice x3 x4 x5)] (K undef) h:=Hp_storeAgg kR (by simp [one,str])
@[simp] theorem Tryz.fd129_1:Hp Tryz.prog q (fieldAt 129 (.pointer (some a)) 1) K h ⟨⟩↔K (.pointer (some (a.add 1))) h:=Hp_field kR
@[simp] theorem Tryz.len9 {l:List UInt8}:Hp Tryz.prog q (len_ #[9] 3 #[str l]) K h ⟨⟩↔K (.int .i64 l.length) h:=Hp_iff.trans (iff_of_eq kR)
@[simp] theorem Tryz.slcs9_01 {l:List UInt8} {k:IntKind} {hi:Int} (h0:0≤hi) (h1:hi≤l.length):Hp Tryz.prog q (sliceAt 9 (str l) none (some (.int k hi)) none) K h ⟨⟩↔ValT hi.toNat (fun b=>K (str (l.take b)) h) ⟨⟩:=Hp_slcStrH kR h0 h1
@[simp] theorem Tryz.st9 {x1:List UInt8}:Hp Tryz.prog false (storeS 9 (.pointer (some a)) (str x1)) K h ⟨⟩↔StoreP (hcell h a) (hfrozen h a) (K undef (hset h a (str x1))) ⟨⟩:=Hp_store kR rfl
@[simp] theorem Tryz.fd129_2:Hp Tryz.prog q (fieldAt 129 (.pointer (some a)) 2) K h ⟨⟩↔K (.pointer (some (a.add 2))) h:=Hp_field kR
@[simp] theorem Tryz.ld127:Hp Tryz.prog q (loadAt 127 (.pointer (some a))) K h ⟨⟩↔LoadP (hcell h a) (fun v=>K v h) ⟨⟩:=Hp_load kR
@[simp] theorem Tryz.len127 {a:Option Addr} {n c:Nat}:Hp Tryz.prog q (len_ #[127] 3 #[.slice a n c]) K h ⟨⟩↔K (.int .i64 n) h:=Hp_iff.trans (iff_of_eq kR)
@[simp] theorem Tryz.ix127 {len cap:Nat} {k:IntKind} {n:Int} (n0:0≤n) (n1:n<len):Hp Tryz.prog q (indexAt 127 (.slice (some a) len cap) (.int k n)) K h ⟨⟩↔ValT n.toNat (fun j=>K (.pointer (some (elt a (j*2)))) h) ⟨⟩:=Hp_indexAtS kR n0 n1
@[simp] theorem Tryz.fd132_0:Hp Tryz.prog q (fieldAt 132 (.pointer (some a)) 0) K h ⟨⟩↔K (.pointer (some (a.add 0))) h:=Hp_field kR
@[simp] theorem Tryz.fd132_1:Hp Tryz.prog q (fieldAt 132 (.pointer (some a)) 1) K h ⟨⟩↔K (.pointer (some (a.add 1))) h:=Hp_field kR
@[simp] theorem Tryz.bd132_0_1 {x1:Int} {x2:List UInt8}:Hp Tryz.prog q (build 132 #[(0,(.int .i64 x1)),(1,(str x2))]) K h ⟨⟩↔K (.agg #[(.int .i64 x1),(str x2)]) h:=Hp_iff.trans (iff_of_eq kR)
@[simp] theorem Tryz.bs127_1_0 {x1:Int} {x2:List UInt8}:Hp Tryz.prog false (buildSlice 127 1 #[(0,.agg #[(.int .i64 x1),(str x2)])]) K h ⟨⟩↔ValT h.size (fun b=>K (.slice (some ⟨b,0,none⟩) 1 1) (h.push (.cells (List.toArray [(.int .i64 x1),(str x2)]) 132))) ⟨⟩:=Hp_newT kR
@[simp] theorem Tryz.st127 {x1:Option Addr} {x2:Nat} {x3:Nat}:Hp Tryz.prog false (storeS 127 (.pointer (some a)) (.slice x1 x2 x3)) K h ⟨⟩↔StoreP (hcell h a) (hfrozen h a) (K undef (hset h a (.slice x1 x2 x3))) ⟨⟩:=Hp_store kR rfl
@[simp] theorem Tryz.bd139_0_1_2_3 {x1:Option Addr} {x2:List UInt8} {x3:Int} {x4:Int}:Hp Tryz.prog q (build 139 #[(0,(.pointer x1)),(1,(str x2)),(2,(.int .i64 x3)),(3,(.int .i64 x4))]) K h ⟨⟩↔K (.agg #[(.pointer x1),(str x2),(.int .i64 x3),(.int .i64 x4),(.slice none 0 0),(.slice none 0 0),(.slice none 0 0),(.int .i64 0),(.int .i64 0),(.int .i64 0),(.int .i64 0),(.int .i64 0)]) h:=Hp_iff.trans (iff_of_eq kR)
@[simp] theorem Tryz.fd35_0:Hp Tryz.prog q (fieldAt 35 (.pointer (some a)) 0) K h ⟨⟩↔K (.pointer (some (a.add 0))) h:=Hp_field kR
@[simp] theorem Tryz.fd73_1:Hp Tryz.prog q (fieldAt 73 (.pointer (some a)) 1) K h ⟨⟩↔K (.pointer (some (a.add 1))) h:=Hp_field kR
@[simp] theorem Tryz.ld28:Hp Tryz.prog q (loadAt 28 (.pointer (some a))) K h ⟨⟩↔LoadP (hcell h a) (fun v=>K v h) ⟨⟩:=Hp_load kR
@[simp] theorem Tryz.fd35_1:Hp Tryz.prog q (fieldAt 35 (.pointer (some a)) 1) K h ⟨⟩↔K (.pointer (some (a.add 1))) h:=Hp_field kR
@[simp] theorem Tryz.fd35_2:Hp Tryz.prog q (fieldAt 35 (.pointer (some a)) 2) K h ⟨⟩↔K (.pointer (some (a.add 2))) h:=Hp_field kR
@[simp] theorem Tryz.fd73_2:Hp Tryz.prog q (fieldAt 73 (.pointer (some a)) 2) K h ⟨⟩↔K (.pointer (some (a.add 2))) h:=Hp_field kR
@[simp] theorem Tryz.ld69:Hp Tryz.prog q (loadAt 69 (.pointer (some a))) K h ⟨⟩↔LoadP (hcell h a) (fun v=>K v h) ⟨⟩:=Hp_load kR
@[simp] theorem Tryz.st5 {x1:Int}:Hp Tryz.prog false (storeS 5 (.pointer (some a)) (.int .u8 x1)) K h ⟨⟩↔StoreP (hcell h a) (hfrozen h a) (K undef (hset h a (.int .u8 x1))) ⟨⟩:=Hp_store kR rfl
@[simp] theorem Tryz.bs33_0_:Hp Tryz.prog false (buildSlice 33 0 #[]) K h ⟨⟩↔ValT h.size (fun b=>K (.slice (some ⟨b,0,none⟩) 0 0) (h.push (.cells (List.toArray []) 5))) ⟨⟩:=Hp_newT kR
@[simp] theorem Tryz.fd35_4:Hp Tryz.prog q (fieldAt 35 (.pointer (some a)) 4) K h ⟨⟩↔K (.pointer (some (a.add 4))) h:=Hp_field kR
@[simp] theorem Tryz.fd73_0:Hp Tryz.prog q (fieldAt 73 (.pointer (some a)) 0) K h ⟨⟩↔K (.pointer (some (a.add 0))) h:=Hp_field kR
@[simp] theorem Tryz.ld26:Hp Tryz.prog q (loadAt 26 (.pointer (some a))) K h ⟨⟩↔LoadP (hcell h a) (fun v=>K v h) ⟨⟩:=Hp_load kR
@[simp] theorem Tryz.fd139_0:Hp Tryz.prog q (fieldAt 139 (.pointer (some a)) 0) K h ⟨⟩↔K (.pointer (some (a.add 0))) h:=Hp_field kR
@[simp] theorem Tryz.ld62:Hp Tryz.prog q (loadAt 62 (.pointer (some a))) K h ⟨⟩↔LoadP (hcell h a) (fun v=>K v h) ⟨⟩:=Hp_load kR
@[simp] theorem Tryz.al4:Hp Tryz.prog false (alloc 4 true undef) K h ⟨⟩↔ValT h.size (fun b=>K (.pointer (some ⟨b,0,none⟩)) (h.push (.cells #[(.bool false)] 4))) ⟨⟩:=Hp_allocZ (z:=(.bool false)) kR
@[simp] theorem Tryz.fd139_4:Hp Tryz.prog q (fieldAt 139 (.pointer (some a)) 4) K h ⟨⟩↔K (.pointer (some (a.add 4))) h:=Hp_field kR
@[simp] theorem Tryz.ld136:Hp Tryz.prog q (loadAt 136 (.pointer (some a))) K h ⟨⟩↔LoadP (hcell h a) (fun v=>K v h) ⟨⟩:=Hp_load kR
@[simp] theorem Tryz.fd139_8:Hp Tryz.prog q (fieldAt 139 (.pointer (some a)) 8) K h ⟨⟩↔K (.pointer (some (a.add 8))) h:=Hp_field kR
@[simp] theorem Tryz.neq81 {x1:Int} {x2:Int} {x3:Int} {x4:Int} {x5:Int} {x6:Int} {x7:Int} {x8:Int}:Hp Tryz.prog q (binS .neq 81 x y (.agg #[(.int .i64 x1),(.int .i64 x2),(.int .i64 x3),(.int .i64 x4)]) (.agg #[(.int .i64 x5),(.int .i64 x6),(.int .i64 x7),(.int .i64 x8)])) K h ⟨⟩↔Split ([decide (x1=x5),decide (x2=x6),decide (x3=x7),decide (x4=x8)].all id=true) (K (.bool false) h) (K (.bool true) h) ⟨⟩ ⟨⟩:=Hp_neqT (bs:=[decide (x1=x5),decide (x2=x6),decide (x3=x7),decide (x4=x8)]) kR
@[simp] theorem Tryz.al121:Hp Tryz.prog false (alloc 121 true undef) K h ⟨⟩↔ValT h.size (fun b=>K (.pointer (some ⟨b,0,none⟩)) (h.push (.cells #[(.bool false),(.bool false),(.slice none 0 0)] 121))) ⟨⟩:=Hp_allocZ (z:=(.agg #[(.bool false),(.bool false),(.slice none 0 0)])) kR
@[simp] theorem Tryz.st121 {x1:Bool} {x2:Bool} {x3:Option Addr} {x4:Nat} {x5:Nat}:Hp Tryz.prog false (storeS 121 (.pointer (some a)) (.agg #[(.bool x1),(.bool x2),(.slice x3 x4 x5)])) K h ⟨⟩↔storesP a 0 [(.bool x1),(.bool x2),(.slice x3 x4 x5)] (K undef) h:=Hp_storeAgg kR (by simp [one,str])
@[simp] theorem Tryz.fd121_0:Hp Tryz.prog q (fieldAt 121 (.pointer (some a)) 0) K h ⟨⟩↔K (.pointer (some (a.add 0))) h:=Hp_field kR
@[simp] theorem Tryz.neqB4 {a b:Bool}:Hp Tryz.prog q (binS .neq 4 x y (.bool a) (.bool b)) K h ⟨⟩↔Split (a=b) (K (.bool false) h) (K (.bool true) h) ⟨⟩ ⟨⟩:=Hp_neqBool (by cases a<;>kernel_rfl)
@[simp] theorem Tryz.fd121_1:Hp Tryz.prog q (fieldAt 121 (.pointer (some a)) 1) K h ⟨⟩↔K (.pointer (some (a.add 1))) h:=Hp_field kR
@[simp] theorem Tryz.fd121_2:Hp Tryz.prog q (fieldAt 121 (.pointer (some a)) 2) K h ⟨⟩↔K (.pointer (some (a.add 2))) h:=Hp_field kR
@[simp] theorem Tryz.ld102:Hp Tryz.prog q (loadAt 102 (.pointer (some a))) K h ⟨⟩↔LoadP (hcell h a) (fun v=>K v h) ⟨⟩:=Hp_load kR
@[simp] theorem Tryz.fd68_2:Hp Tryz.prog q (fieldAt 68 (.pointer (some a)) 2) K h ⟨⟩↔K (.pointer (some (a.add 2))) h:=Hp_field kR
@[simp] theorem Tryz.al3:Hp Tryz.prog false (alloc 3 true undef) K h ⟨⟩↔ValT h.size (fun b=>K (.pointer (some ⟨b,0,none⟩)) (h.push (.cells #[(.int .i64 0)] 3))) ⟨⟩:=Hp_allocZ (z:=(.int .i64 0)) kR
@[simp] theorem Tryz.st3 {x1:Int}:Hp Tryz.prog false (storeS 3 (.pointer (some a)) (.int .i64 x1)) K h ⟨⟩↔StoreP (hcell h a) (hfrozen h a) (K undef (hset h a (.int .i64 x1))) ⟨⟩:=Hp_store kR rfl
@[simp] theorem Tryz.eqlN108_1 {a:Fn} {b c:Array Value}:Hp Tryz.prog q (binS .eql 108 x y (.func a b c) (.nilFunc)) K h ⟨⟩↔K (.bool false) h:=Hp_eqlNil (b:=false) kR
@[simp] theorem Tryz.al150:Hp Tryz.prog false (alloc 150 true undef) K h ⟨⟩↔ValT h.size (fun b=>K (.pointer (some ⟨b,0,none⟩)) (h.push (.cells #[(.int .i64 0),(.int .i64 0)] 150))) ⟨⟩:=Hp_allocZ (z:=(.agg #[(.int .i64 0),(.int .i64 0)])) kR
@[simp] theorem Tryz.st150 {x1:Int} {x2:Int}:Hp Tryz.prog false (storeS 150 (.pointer (some a)) (.agg #[(.int .i64 x1),(.int .i64 x2)])) K h ⟨⟩↔storesP a 0 [(.int .i64 x1),(.int .i64 x2)] (K undef) h:=Hp_storeAgg kR (by simp [one,str])
@[simp] theorem Tryz.fd150_0:Hp Tryz.prog q (fieldAt 150 (.pointer (some a)) 0) K h ⟨⟩↔K (.pointer (some (a.add 0))) h:=Hp_field kR
@[simp] theorem Tryz.fd150_1:Hp Tryz.prog q (fieldAt 150 (.pointer (some a)) 1) K h ⟨⟩↔K (.pointer (some (a.add 1))) h:=Hp_field kR
@[simp] theorem Tryz.neqN28_0:Hp Tryz.prog q (binS .neq 28 x y (.pointer none) (.pointer none)) K h ⟨⟩↔K (.bool false) h:=Hp_neqNil (b:=true) kR
@[simp] theorem Tryz.bd93_:Hp Tryz.prog q (build 93 #[]) K h ⟨⟩↔K (.agg #[(.pointer none),(str []),(.int .i64 0),(.int .i64 0),(.map none),(.map none),(.map none),(.int .i64 0),(.int .i64 0),(.int .i64 0),(.int .i64 0),(.int .i64 0)]) h:=Hp_iff.trans (iff_of_eq kR)
@[simp] theorem Tryz.bs151_2_0_1 {x1:Option Addr} {x2:Option Addr}:Hp Tryz.prog false (buildSlice 151 2 #[(0,(.pointer x1)),(1,(.pointer x2))]) K h ⟨⟩↔ValT h.size (fun b=>K (.slice (some ⟨b,0,none⟩) 2 2) (h.push (.cells (List.toArray [(.pointer x1),(.pointer x2)]) 28))) ⟨⟩:=Hp_newT kR
@[simp] theorem Tryz.len151 {a:Option Addr} {n c:Nat}:Hp Tryz.prog q (len_ #[151] 3 #[.slice a n c]) K h ⟨⟩↔K (.int .i64 n) h:=Hp_iff.trans (iff_of_eq kR)
@[simp] theorem Tryz.ix151 {len cap:Nat} {k:IntKind} {n:Int} (n0:0≤n) (n1:n<len):Hp Tryz.prog q (indexAt 151 (.slice (some a) len cap) (.int k n)) K h ⟨⟩↔ValT n.toNat (fun j=>K (.pointer (some (elt a j))) h) ⟨⟩:=Hp_indexAt1 kR n0 n1
@[simp] theorem Tryz.bd81_:Hp Tryz.prog q (build 81 #[]) K h ⟨⟩↔K (.agg #[(.int .i64 0),(.int .i64 0),(.int .i64 0),(.int .i64 0)]) h:=Hp_iff.trans (iff_of_eq kR)
@[simp] theorem Tryz.fd93_8:Hp Tryz.prog q (fieldAt 93 (.pointer (some a)) 8) K h ⟨⟩↔K (.pointer (some (a.add 8))) h:=Hp_field kR
@[simp] theorem Tryz.bd156_0_1 {x1:Option Nat} {x2:Option Addr} {x3:Nat} {x4:Nat}:Hp Tryz.prog q (build 156 #[(0,(.map x1)),(1,(.slice x2 x3 x4))]) K h ⟨⟩↔K (.agg #[(.map x1),(.slice x2 x3 x4),(.int .i64 0)]) h:=Hp_iff.trans (iff_of_eq kR)
@[simp] theorem Tryz.fd156_0:Hp Tryz.prog q (fieldAt 156 (.pointer (some a)) 0) K h ⟨⟩↔K (.pointer (some (a.add 0))) h:=Hp_field kR
@[simp] theorem Tryz.ld153:Hp Tryz.prog q (loadAt 153 (.pointer (some a))) K h ⟨⟩↔LoadP (hcell h a) (fun v=>K v h) ⟨⟩:=Hp_load kR
@[simp] theorem Tryz.bd115_:Hp Tryz.prog q (build 115 #[]) K h ⟨⟩↔K (.agg #[(.slice none 0 0),(.slice none 0 0),(.slice none 0 0)]) h:=Hp_iff.trans (iff_of_eq kR)
@[simp] theorem Tryz.fd115_0:Hp Tryz.prog q (fieldAt 115 (.pointer (some a)) 0) K h ⟨⟩↔K (.pointer (some (a.add 0))) h:=Hp_field kR
@[simp] theorem Tryz.st33 {x1:Option Addr} {x2:Nat} {x3:Nat}:Hp Tryz.prog false (storeS 33 (.pointer (some a)) (.slice x1 x2 x3)) K h ⟨⟩↔StoreP (hcell h a) (hfrozen h a) (K undef (hset h a (.slice x1 x2 x3))) ⟨⟩:=Hp_store kR rfl
@[simp] theorem Tryz.fd115_1:Hp Tryz.prog q (fieldAt 115 (.pointer (some a)) 1) K h ⟨⟩↔K (.pointer (some (a.add 1))) h:=Hp_field kR
@[simp] theorem Tryz.ld113:Hp Tryz.prog q (loadAt 113 (.pointer (some a))) K h ⟨⟩↔LoadP (hcell h a) (fun v=>K v h) ⟨⟩:=Hp_load kR
@[simp] theorem Tryz.len113 {a:Option Addr} {n c:Nat}:Hp Tryz.prog q (len_ #[113] 3 #[.slice a n c]) K h ⟨⟩↔K (.int .i64 n) h:=Hp_iff.trans (iff_of_eq kR)
@[simp] theorem Tryz.ix113 {len cap:Nat} {k:IntKind} {n:Int} (n0:0≤n) (n1:n<len):Hp Tryz.prog q (indexAt 113 (.slice (some a) len cap) (.int k n)) K h ⟨⟩↔ValT n.toNat (fun j=>K (.pointer (some (elt a (j*2)))) h) ⟨⟩:=Hp_indexAtS kR n0 n1
@[simp] theorem Tryz.ld162:Hp Tryz.prog q (loadAt 162 (.pointer (some a))) K h ⟨⟩↔loadsP h a 0 2 fun vs=>K (.agg vs.toArray) h:=Hp_loadAgg kR kR
@[simp] theorem Tryz.al162:Hp Tryz.prog false (alloc 162 true undef) K h ⟨⟩↔ValT h.size (fun b=>K (.pointer (some ⟨b,0,none⟩)) (h.push (.cells #[(.int .i64 0),(.slice none 0 0)] 162))) ⟨⟩:=Hp_allocZ (z:=(.agg #[(.int .i64 0),(.slice none 0 0)])) kR
@[simp] theorem Tryz.st162 {x1:Int} {x2:Option Addr} {x3:Nat} {x4:Nat}:Hp Tryz.prog false (storeS 162 (.pointer (some a)) (.agg #[(.int .i64 x1),(.slice x2 x3 x4)])) K h ⟨⟩↔storesP a 0 [(.int .i64 x1),(.slice x2 x3 x4)] (K undef) h:=Hp_storeAgg kR (by simp [one,str])
@[simp] theorem Tryz.fd162_0:Hp Tryz.prog q (fieldAt 162 (.pointer (some a)) 0) K h ⟨⟩↔K (.pointer (some (a.add 0))) h:=Hp_field kR
@[simp] theorem Tryz.fd162_1:Hp Tryz.prog q (fieldAt 162 (.pointer (some a)) 1) K h ⟨⟩↔K (.pointer (some (a.add 1))) h:=Hp_field kR
@[simp] theorem Tryz.bs113_1_0 {x1:Int} {x2:Option Addr} {x3:Nat} {x4:Nat}:Hp Tryz.prog false (buildSlice 113 1 #[(0,.agg #[(.int .i64 x1),(.slice x2 x3 x4)])]) K h ⟨⟩↔ValT h.size (fun b=>K (.slice (some ⟨b,0,none⟩) 1 1) (h.push (.cells (List.toArray [(.int .i64 x1),(.slice x2 x3 x4)]) 162))) ⟨⟩:=Hp_newT kR
@[simp] theorem Tryz.st113 {x1:Option Addr} {x2:Nat} {x3:Nat}:Hp Tryz.prog false (storeS 113 (.pointer (some a)) (.slice x1 x2 x3)) K h ⟨⟩↔StoreP (hcell h a) (hfrozen h a) (K undef (hset h a (.slice x1 x2 x3))) ⟨⟩:=Hp_store kR rfl
@[simp] theorem Tryz.fd156_1:Hp Tryz.prog q (fieldAt 156 (.pointer (some a)) 1) K h ⟨⟩↔K (.pointer (some (a.add 1))) h:=Hp_field kR
@[simp] theorem Tryz.fd93_2:Hp Tryz.prog q (fieldAt 93 (.pointer (some a)) 2) K h ⟨⟩↔K (.pointer (some (a.add 2))) h:=Hp_field kR
@[simp] theorem Tryz.fd93_0:Hp Tryz.prog q (fieldAt 93 (.pointer (some a)) 0) K h ⟨⟩↔K (.pointer (some (a.add 0))) h:=Hp_field kR
@[simp] theorem Tryz.fd93_1:Hp Tryz.prog q (fieldAt 93 (.pointer (some a)) 1) K h ⟨⟩↔K (.pointer (some (a.add 1))) h:=Hp_field kR
@[simp] theorem Tryz.mk33 {n c:Int} (n0:0≤n) (nc:n≤c) (hc:c*1≤281474976710656):Hp Tryz.prog false (makeSlice 33 (.int .i64 n) (.int .i64 c)) K h ⟨⟩↔ValT n.toNat (fun n=>ValT c.toNat (fun c=>K (.slice (some ⟨h.size,0,none⟩) n c) (h.push (.cells (List.replicate c (.int .u8 0)).toArray 5))) ⟨⟩) ⟨⟩:=Hp_make (s:=1) kR kR rfl rfl n0 nc hc omg
@[simp] theorem Tryz.bd99_0_1 {x1:Int} {x2:Option Addr} {x3:Nat} {x4:Nat}:Hp Tryz.prog q (build 99 #[(0,(.int .i64 x1)),(1,(.slice x2 x3 x4))]) K h ⟨⟩↔K (.agg #[(.int .i64 x1),(.slice x2 x3 x4),(.bool false),(.int .i64 0)]) h:=Hp_iff.trans (iff_of_eq kR)
@[simp] theorem Tryz.fd81_1:Hp Tryz.prog q (fieldAt 81 (.pointer (some a)) 1) K h ⟨⟩↔K (.pointer (some (a.add 1))) h:=Hp_field kR
@[simp] theorem Tryz.fd81_0:Hp Tryz.prog q (fieldAt 81 (.pointer (some a)) 0) K h ⟨⟩↔K (.pointer (some (a.add 0))) h:=Hp_field kR
@[simp] theorem Tryz.fd93_7:Hp Tryz.prog q (fieldAt 93 (.pointer (some a)) 7) K h ⟨⟩↔K (.pointer (some (a.add 7))) h:=Hp_field kR
@[simp] theorem Tryz.fd99_3:Hp Tryz.prog q (fieldAt 99 (.pointer (some a)) 3) K h ⟨⟩↔K (.pointer (some (a.add 3))) h:=Hp_field kR
@[simp] theorem Tryz.eqlN33_0 {n c:Nat}:Hp Tryz.prog q (binS .eql 33 x y (.slice none n c) (.slice none 0 0)) K h ⟨⟩↔K (.bool true) h:=Hp_eqlNil (b:=true) kR
@[simp] theorem Tryz.eqlN33_1 {n c:Nat}:Hp Tryz.prog q (binS .eql 33 x y (.slice (some a) n c) (.slice none 0 0)) K h ⟨⟩↔K (.bool false) h:=Hp_eqlNil (b:=false) kR
@[simp] theorem Tryz.al90:Hp Tryz.prog false (alloc 90 true undef) K h ⟨⟩↔ValT h.size (fun b=>K (.pointer (some ⟨b,0,none⟩)) (h.push (.cells #[(.map none)] 90))) ⟨⟩:=Hp_allocZ (z:=(.map none)) kR
@[simp] theorem Tryz.st90 {x1:Option Nat}:Hp Tryz.prog false (storeS 90 (.pointer (some a)) (.map x1)) K h ⟨⟩↔StoreP (hcell h a) (hfrozen h a) (K undef (hset h a (.map x1))) ⟨⟩:=Hp_store kR rfl
@[simp] theorem Tryz.al101:Hp Tryz.prog false (alloc 101 true undef) K h ⟨⟩↔ValT h.size (fun b=>K (.pointer (some ⟨b,0,none⟩)) (h.push (.cells #[.nilFunc] 101))) ⟨⟩:=Hp_allocZ (z := .nilFunc) kR
@[simp] theorem Tryz.ld101:Hp Tryz.prog q (loadAt 101 (.pointer (some a))) K h ⟨⟩↔LoadP (hcell h a) (fun v=>K v h) ⟨⟩:=Hp_load kR
@[simp] theorem Tryz.neqN94_0:Hp Tryz.prog q (binS .neq 94 x y (.pointer none) (.pointer none)) K h ⟨⟩↔K (.bool false) h:=Hp_neqNil (b:=true) kR
@[simp] theorem Tryz.neqN94_1:Hp Tryz.prog q (binS .neq 94 x y (.pointer (some a)) (.pointer none)) K h ⟨⟩↔K (.bool true) h:=Hp_neqNil (b:=false) kR
@[simp] theorem Tryz.fd93_5:Hp Tryz.prog q (fieldAt 93 (.pointer (some a)) 5) K h ⟨⟩↔K (.pointer (some (a.add 5))) h:=Hp_field kR
@[simp] theorem Tryz.ld90:Hp Tryz.prog q (loadAt 90 (.pointer (some a))) K h ⟨⟩↔LoadP (hcell h a) (fun v=>K v h) ⟨⟩:=Hp_load kR
@[simp] theorem Tryz.fd81_2:Hp Tryz.prog q (fieldAt 81 (.pointer (some a)) 2) K h ⟨⟩↔K (.pointer (some (a.add 2))) h:=Hp_field kR
@[simp] theorem Tryz.fd81_3:Hp Tryz.prog q (fieldAt 81 (.pointer (some a)) 3) K h ⟨⟩↔K (.pointer (some (a.add 3))) h:=Hp_field kR
@[simp] theorem Tryz.bd150_0_1 {x1:Int} {x2:Int}:Hp Tryz.prog q (build 150 #[(0,(.int .i64 x1)),(1,(.int .i64 x2))]) K h ⟨⟩↔K (.agg #[(.int .i64 x1),(.int .i64 x2)]) h:=Hp_iff.trans (iff_of_eq kR)
@[simp] theorem Tryz.bs170_1_0 {x1:Int} {x2:Int}:Hp Tryz.prog false (buildSlice 170 1 #[(0,.agg #[(.int .i64 x1),(.int .i64 x2)])]) K h ⟨⟩↔ValT h.size (fun b=>K (.slice (some ⟨b,0,none⟩) 1 1) (h.push (.cells (List.toArray [(.int .i64 x1),(.int .i64 x2)]) 150))) ⟨⟩:=Hp_newT kR
@[simp] theorem Tryz.bd121_:Hp Tryz.prog q (build 121 #[]) K h ⟨⟩↔K (.agg #[(.bool false),(.bool false),(.slice none 0 0)]) h:=Hp_iff.trans (iff_of_eq kR)
@[simp] theorem Tryz.bd121_0_1_2 {x1:Bool} {x2:Bool} {x3:Option Addr} {x4:Nat} {x5:Nat}:Hp Tryz.prog q (build 121 #[(0,(.bool x1)),(1,(.bool x2)),(2,(.slice x3 x4 x5))]) K h ⟨⟩↔K (.agg #[(.bool x1),(.bool x2),(.slice x3 x4 x5)]) h:=Hp_iff.trans (iff_of_eq kR)
@[simp] theorem Tryz.ld121:Hp Tryz.prog q (loadAt 121 (.pointer (some a))) K h ⟨⟩↔loadsP h a 0 3 fun vs=>K (.agg vs.toArray) h:=Hp_loadAgg kR kR
@[simp] theorem Tryz.ld118:Hp Tryz.prog q (loadAt 118 (.pointer (some a))) K h ⟨⟩↔loadsP h a 0 2 fun vs=>K (.agg vs.toArray) h:=Hp_loadAgg kR kR
@[simp] theorem Tryz.al118:Hp Tryz.prog false (alloc 118 true undef) K h ⟨⟩↔ValT h.size (fun b=>K (.pointer (some ⟨b,0,none⟩)) (h.push (.cells #[(.int .i64 0),(.int .i64 0)] 118))) ⟨⟩:=Hp_allocZ (z:=(.agg #[(.int .i64 0),(.int .i64 0)])) kR
@[simp] theorem Tryz.st118 {x1:Int} {x2:Int}:Hp Tryz.prog false (storeS 118 (.pointer (some a)) (.agg #[(.int .i64 x1),(.int .i64 x2)])) K h ⟨⟩↔storesP a 0 [(.int .i64 x1),(.int .i64 x2)] (K undef) h:=Hp_storeAgg kR (by simp [one,str])
@[simp] theorem Tryz.slc48_10 {len cap:Nat} {k:IntKind} {lo:Int} (h0:0≤lo) (h1:lo≤len) (hc:len≤cap):Hp Tryz.prog q (sliceAt 48 (.slice (some a) len cap) (some (.int k lo)) none none) K h ⟨⟩↔ValT lo.toNat (fun l=>K (.slice (some (subS 2 a l cap)) (len-l) (cap-l)) h) ⟨⟩:=Hp_slsLN kR h0 h1 hc
@[simp] theorem Tryz.slcn48_10 {k k':IntKind} {lo hi:Int} (h0:lo=0):Hp Tryz.prog q (sliceAt 48 (.slice none 0 0) (some (.int k lo)) none none) K h ⟨⟩↔K (.slice none 0 0) h:=Hp_sliceNil (s:=2) kR rfl rfl h0 rfl
@[simp] theorem Tryz.fd118_1:Hp Tryz.prog q (fieldAt 118 (.pointer (some a)) 1) K h ⟨⟩↔K (.pointer (some (a.add 1))) h:=Hp_field kR
@[simp] theorem Tryz.ix9 {l:List UInt8} {k:IntKind} {n:Int} (n0:0≤n) (n1:n<l.length):Hp Tryz.prog q (index 9 (str l) (.int k n)) K h ⟨⟩↔ValT n.toNat (fun j=>K (byteV (l.getD j 0)) h) ⟨⟩:=Hp_ixStr kR n0 n1
@[simp] theorem Tryz.slcs9_11 {l:List UInt8} {k k':IntKind} {lo hi:Int} (h0:0≤lo) (h1:lo≤hi) (h2:hi≤l.length):Hp Tryz.prog q (sliceAt 9 (str l) (some (.int k lo)) (some (.int k' hi)) none) K h ⟨⟩↔ValT lo.toNat (fun a=>ValT hi.toNat (fun b=>K (str ((l.take b).drop a)) h) ⟨⟩) ⟨⟩:=Hp_slcStr kR h0 h1 h2
-- theorem Tryz.cv9_33 {l:List UInt8}:Hp Tryz.prog false (convert 9 33 (str l)) K h ⟨⟩↔∀cap,l.length≤cap→K (.slice (some ⟨h.size,0,none⟩) l.length cap) (strBlock h 5 l cap):=Hp_strBytes (e:=5) kR kR
@[simp] theorem Tryz.fd139_2:Hp Tryz.prog q (fieldAt 139 (.pointer (some a)) 2) K h ⟨⟩↔K (.pointer (some (a.add 2))) h:=Hp_field kR
@[simp] theorem Tryz.ix136 {len cap:Nat} {k:IntKind} {n:Int} (n0:0≤n) (n1:n<len):Hp Tryz.prog q (indexAt 136 (.slice (some a) len cap) (.int k n)) K h ⟨⟩↔ValT n.toNat (fun j=>K (.pointer (some (elt a (j*4)))) h) ⟨⟩:=Hp_indexAtS kR n0 n1
@[simp] theorem Tryz.fd178_1:Hp Tryz.prog q (fieldAt 178 (.pointer (some a)) 1) K h ⟨⟩↔K (.pointer (some (a.add 1))) h:=Hp_field kR
@[simp] theorem Tryz.fd178_2:Hp Tryz.prog q (fieldAt 178 (.pointer (some a)) 2) K h ⟨⟩↔K (.pointer (some (a.add 2))) h:=Hp_field kR
@[simp] theorem Tryz.bs137_0_:Hp Tryz.prog false (buildSlice 137 0 #[]) K h ⟨⟩↔ValT h.size (fun b=>K (.slice (some ⟨b,0,none⟩) 0 0) (h.push (.cells (List.toArray []) 181))) ⟨⟩:=Hp_newT kR
@[simp] theorem Tryz.fd139_6:Hp Tryz.prog q (fieldAt 139 (.pointer (some a)) 6) K h ⟨⟩↔K (.pointer (some (a.add 6))) h:=Hp_field kR
@[simp] theorem Tryz.ld137:Hp Tryz.prog q (loadAt 137 (.pointer (some a))) K h ⟨⟩↔LoadP (hcell h a) (fun v=>K v h) ⟨⟩:=Hp_load kR
@[simp] theorem Tryz.bd181_0_1 {x1:Int} {x2:Int}:Hp Tryz.prog q (build 181 #[(0,(.int .i64 x1)),(1,(.int .i64 x2))]) K h ⟨⟩↔K (.agg #[(.int .i64 x1),(.int .i64 x2)]) h:=Hp_iff.trans (iff_of_eq kR)
@[simp] theorem Tryz.bs137_1_0 {x1:Int} {x2:Int}:Hp Tryz.prog false (buildSlice 137 1 #[(0,.agg #[(.int .i64 x1),(.int .i64 x2)])]) K h ⟨⟩↔ValT h.size (fun b=>K (.slice (some ⟨b,0,none⟩) 1 1) (h.push (.cells (List.toArray [(.int .i64 x1),(.int .i64 x2)]) 181))) ⟨⟩:=Hp_newT kR
@[simp] theorem Tryz.st137 {x1:Option Addr} {x2:Nat} {x3:Nat}:Hp Tryz.prog false (storeS 137 (.pointer (some a)) (.slice x1 x2 x3)) K h ⟨⟩↔StoreP (hcell h a) (hfrozen h a) (K undef (hset h a (.slice x1 x2 x3))) ⟨⟩:=Hp_store kR rfl
@[simp] theorem Tryz.len136 {a:Option Addr} {n c:Nat}:Hp Tryz.prog q (len_ #[136] 3 #[.slice a n c]) K h ⟨⟩↔K (.int .i64 n) h:=Hp_iff.trans (iff_of_eq kR)
@[simp] theorem Tryz.fd178_0:Hp Tryz.prog q (fieldAt 178 (.pointer (some a)) 0) K h ⟨⟩↔K (.pointer (some (a.add 0))) h:=Hp_field kR
@[simp] theorem Tryz.bs136_0_:Hp Tryz.prog false (buildSlice 136 0 #[]) K h ⟨⟩↔ValT h.size (fun b=>K (.slice (some ⟨b,0,none⟩) 0 0) (h.push (.cells (List.toArray []) 178))) ⟨⟩:=Hp_newT kR
@[simp] theorem Tryz.slc136_01 {len cap:Nat} {k':IntKind} {hi:Int} (h1:0≤hi) (h2:hi≤cap):Hp Tryz.prog q (sliceAt 136 (.slice (some a) len cap) none (some (.int k' hi)) none) K h ⟨⟩↔ValT hi.toNat (fun r=>K (.slice (some a) r cap) h) ⟨⟩:=Hp_slsNH (s:=4) kR h1 h2
@[simp] theorem Tryz.slc136_10 {len cap:Nat} {k:IntKind} {lo:Int} (h0:0≤lo) (h1:lo≤len) (hc:len≤cap):Hp Tryz.prog q (sliceAt 136 (.slice (some a) len cap) (some (.int k lo)) none none) K h ⟨⟩↔ValT lo.toNat (fun l=>K (.slice (some (subS 4 a l cap)) (len-l) (cap-l)) h) ⟨⟩:=Hp_slsLN kR h0 h1 hc
@[simp] theorem Tryz.slcn136_10 {k k':IntKind} {lo hi:Int} (h0:lo=0):Hp Tryz.prog q (sliceAt 136 (.slice none 0 0) (some (.int k lo)) none none) K h ⟨⟩↔K (.slice none 0 0) h:=Hp_sliceNil (s:=4) kR rfl rfl h0 rfl
@[simp] theorem Tryz.st136 {x1:Option Addr} {x2:Nat} {x3:Nat}:Hp Tryz.prog false (storeS 136 (.pointer (some a)) (.slice x1 x2 x3)) K h ⟨⟩↔StoreP (hcell h a) (hfrozen h a) (K undef (hset h a (.slice x1 x2 x3))) ⟨⟩:=Hp_store kR rfl
@[simp] theorem Tryz.fd139_5:Hp Tryz.prog q (fieldAt 139 (.pointer (some a)) 5) K h ⟨⟩↔K (.pointer (some (a.add 5))) h:=Hp_field kR
@[simp] theorem Tryz.fd156_2:Hp Tryz.prog q (fieldAt 156 (.pointer (some a)) 2) K h ⟨⟩↔K (.pointer (some (a.add 2))) h:=Hp_field kR
@[simp] theorem Tryz.eqlN48_0 {n c:Nat}:Hp Tryz.prog q (binS .eql 48 x y (.slice none n c) (.slice none 0 0)) K h ⟨⟩↔K (.bool true) h:=Hp_eqlNil (b:=true) kR
@[simp] theorem Tryz.eqlN48_1 {n c:Nat}:Hp Tryz.prog q (binS .eql 48 x y (.slice (some a) n c) (.slice none 0 0)) K h ⟨⟩↔K (.bool false) h:=Hp_eqlNil (b:=false) kR
@[simp] theorem Tryz.eqlN153_1 {a:Nat}:Hp Tryz.prog q (binS .eql 153 x y (.map (some a)) (.map none)) K h ⟨⟩↔K (.bool false) h:=Hp_eqlNil (b:=false) kR
@[simp] theorem Tryz.fd93_3:Hp Tryz.prog q (fieldAt 93 (.pointer (some a)) 3) K h ⟨⟩↔K (.pointer (some (a.add 3))) h:=Hp_field kR
@[simp] theorem Tryz.al188:Hp Tryz.prog false (alloc 188 true undef) K h ⟨⟩↔ValT h.size (fun b=>K (.pointer (some ⟨b,0,none⟩)) (h.push (.cells #[(.slice none 0 0)] 188))) ⟨⟩:=Hp_allocZ (z:=(.slice none 0 0)) kR
@[simp] theorem Tryz.ld188:Hp Tryz.prog q (loadAt 188 (.pointer (some a))) K h ⟨⟩↔LoadP (hcell h a) (fun v=>K v h) ⟨⟩:=Hp_load kR
@[simp] theorem Tryz.bs188_1_0 {x1:Option Addr}:Hp Tryz.prog false (buildSlice 188 1 #[(0,(.pointer x1))]) K h ⟨⟩↔ValT h.size (fun b=>K (.slice (some ⟨b,0,none⟩) 1 1) (h.push (.cells (List.toArray [(.pointer x1)]) 94))) ⟨⟩:=Hp_newT kR
@[simp] theorem Tryz.st188 {x1:Option Addr} {x2:Nat} {x3:Nat}:Hp Tryz.prog false (storeS 188 (.pointer (some a)) (.slice x1 x2 x3)) K h ⟨⟩↔StoreP (hcell h a) (hfrozen h a) (K undef (hset h a (.slice x1 x2 x3))) ⟨⟩:=Hp_store kR rfl
@[simp] theorem Tryz.fd99_0:Hp Tryz.prog q (fieldAt 99 (.pointer (some a)) 0) K h ⟨⟩↔K (.pointer (some (a.add 0))) h:=Hp_field kR
@[simp] theorem Tryz.bs102_1_0 {x1:Int}:Hp Tryz.prog false (buildSlice 102 1 #[(0,(.int .i64 x1))]) K h ⟨⟩↔ValT h.size (fun b=>K (.slice (some ⟨b,0,none⟩) 1 1) (h.push (.cells (List.toArray [(.int .i64 x1)]) 2))) ⟨⟩:=Hp_newT kR
@[simp] theorem Tryz.bd162_0_1 {x1:Int} {x2:Option Addr} {x3:Nat} {x4:Nat}:Hp Tryz.prog q (build 162 #[(0,(.int .i64 x1)),(1,(.slice x2 x3 x4))]) K h ⟨⟩↔K (.agg #[(.int .i64 x1),(.slice x2 x3 x4)]) h:=Hp_iff.trans (iff_of_eq kR)
theorem Tryz.cvw3_195 {k:IntKind} {n:Int}:Hp Tryz.prog q (convert 3 195 (.int k n)) K h ⟨⟩↔ValI (IntKind.u64.wrap n) (fun n=>K (.int .u64 n) h) ⟨⟩:=Hp_convInt (d := .int .i64) kR kR
@[simp] theorem Tryz.cv3_195 {k:IntKind} {n:Int} (h0:0≤n) (h1:n<18446744073709551616):Hp Tryz.prog q (convert 3 195 (.int k n)) K h ⟨⟩↔K (.int .u64 n) h:=by rw [Tryz.cvw3_195,ValI_iff,wrap_u64 h0 h1]
@[simp] theorem Tryz.slcn113_10 {k k':IntKind} {lo hi:Int} (h0:lo=0):Hp Tryz.prog q (sliceAt 113 (.slice none 0 0) (some (.int k lo)) none none) K h ⟨⟩↔K (.slice none 0 0) h:=Hp_sliceNil (s:=2) kR rfl rfl h0 rfl
@[simp] theorem Tryz.fd139_1:Hp Tryz.prog q (fieldAt 139 (.pointer (some a)) 1) K h ⟨⟩↔K (.pointer (some (a.add 1))) h:=Hp_field kR
@[simp] theorem Tryz.bd178_0_1 {x1:Int} {x2:Option Addr} {x3:Nat} {x4:Nat}:Hp Tryz.prog q (build 178 #[(0,(.int .i64 x1)),(1,(.slice x2 x3 x4))]) K h ⟨⟩↔K (.agg #[(.int .i64 x1),(.slice x2 x3 x4),(.bool false),(.int .i64 0)]) h:=Hp_iff.trans (iff_of_eq kR)
@[simp] theorem Tryz.bs136_1_0 {x1:Int} {x2:Option Addr} {x3:Nat} {x4:Nat} {x5:Bool} {x6:Int}:Hp Tryz.prog false (buildSlice 136 1 #[(0,.agg #[(.int .i64 x1),(.slice x2 x3 x4),(.bool x5),(.int .i64 x6)])]) K h ⟨⟩↔ValT h.size (fun b=>K (.slice (some ⟨b,0,none⟩) 1 1) (h.push (.cells (List.toArray [(.int .i64 x1),(.slice x2 x3 x4),(.bool x5),(.int .i64 x6)]) 178))) ⟨⟩:=Hp_newT kR
@[simp] theorem Tryz.fd139_7:Hp Tryz.prog q (fieldAt 139 (.pointer (some a)) 7) K h ⟨⟩↔K (.pointer (some (a.add 7))) h:=Hp_field kR
@[simp] theorem Tryz.fd178_3:Hp Tryz.prog q (fieldAt 178 (.pointer (some a)) 3) K h ⟨⟩↔K (.pointer (some (a.add 3))) h:=Hp_field kR
@[simp] theorem Tryz.st102 {x1:Option Addr} {x2:Nat} {x3:Nat}:Hp Tryz.prog false (storeS 102 (.pointer (some a)) (.slice x1 x2 x3)) K h ⟨⟩↔StoreP (hcell h a) (hfrozen h a) (K undef (hset h a (.slice x1 x2 x3))) ⟨⟩:=Hp_store kR rfl
@[simp] theorem Tryz.len137 {a:Option Addr} {n c:Nat}:Hp Tryz.prog q (len_ #[137] 3 #[.slice a n c]) K h ⟨⟩↔K (.int .i64 n) h:=Hp_iff.trans (iff_of_eq kR)
@[simp] theorem Tryz.ix137 {len cap:Nat} {k:IntKind} {n:Int} (n0:0≤n) (n1:n<len):Hp Tryz.prog q (indexAt 137 (.slice (some a) len cap) (.int k n)) K h ⟨⟩↔ValT n.toNat (fun j=>K (.pointer (some (elt a (j*2)))) h) ⟨⟩:=Hp_indexAtS kR n0 n1
@[simp] theorem Tryz.fd181_0:Hp Tryz.prog q (fieldAt 181 (.pointer (some a)) 0) K h ⟨⟩↔K (.pointer (some (a.add 0))) h:=Hp_field kR
@[simp] theorem Tryz.ld181:Hp Tryz.prog q (loadAt 181 (.pointer (some a))) K h ⟨⟩↔loadsP h a 0 2 fun vs=>K (.agg vs.toArray) h:=Hp_loadAgg kR kR
@[simp] theorem Tryz.fd181_1:Hp Tryz.prog q (fieldAt 181 (.pointer (some a)) 1) K h ⟨⟩↔K (.pointer (some (a.add 1))) h:=Hp_field kR
@[simp] theorem Tryz.al181:Hp Tryz.prog false (alloc 181 true undef) K h ⟨⟩↔ValT h.size (fun b=>K (.pointer (some ⟨b,0,none⟩)) (h.push (.cells #[(.int .i64 0),(.int .i64 0)] 181))) ⟨⟩:=Hp_allocZ (z:=(.agg #[(.int .i64 0),(.int .i64 0)])) kR
@[simp] theorem Tryz.st181 {x1:Int} {x2:Int}:Hp Tryz.prog false (storeS 181 (.pointer (some a)) (.agg #[(.int .i64 x1),(.int .i64 x2)])) K h ⟨⟩↔storesP a 0 [(.int .i64 x1),(.int .i64 x2)] (K undef) h:=Hp_storeAgg kR (by simp [one,str])
@[simp] theorem Tryz.slcs9_10 {l:List UInt8} {k:IntKind} {lo:Int} (h0:0≤lo) (h1:lo≤l.length):Hp Tryz.prog q (sliceAt 9 (str l) (some (.int k lo)) none none) K h ⟨⟩↔ValT lo.toNat (fun a=>K (str (l.drop a)) h) ⟨⟩:=Hp_slcStrL kR h0 h1
@[simp] theorem Tryz.eqlN113_0 {n c:Nat}:Hp Tryz.prog q (binS .eql 113 x y (.slice none n c) (.slice none 0 0)) K h ⟨⟩↔K (.bool true) h:=Hp_eqlNil (b:=true) kR
@[simp] theorem Tryz.eqlN113_1 {n c:Nat}:Hp Tryz.prog q (binS .eql 113 x y (.slice (some a) n c) (.slice none 0 0)) K h ⟨⟩↔K (.bool false) h:=Hp_eqlNil (b:=false) kR
@[simp] theorem Tryz.bs113_0_:Hp Tryz.prog false (buildSlice 113 0 #[]) K h ⟨⟩↔ValT h.size (fun b=>K (.slice (some ⟨b,0,none⟩) 0 0) (h.push (.cells (List.toArray []) 162))) ⟨⟩:=Hp_newT kR
@[simp] theorem Tryz.ld170:Hp Tryz.prog q (loadAt 170 (.pointer (some a))) K h ⟨⟩↔LoadP (hcell h a) (fun v=>K v h) ⟨⟩:=Hp_load kR
@[simp] theorem Tryz.len170 {a:Option Addr} {n c:Nat}:Hp Tryz.prog q (len_ #[170] 3 #[.slice a n c]) K h ⟨⟩↔K (.int .i64 n) h:=Hp_iff.trans (iff_of_eq kR)
@[simp] theorem Tryz.ix170 {len cap:Nat} {k:IntKind} {n:Int} (n0:0≤n) (n1:n<len):Hp Tryz.prog q (indexAt 170 (.slice (some a) len cap) (.int k n)) K h ⟨⟩↔ValT n.toNat (fun j=>K (.pointer (some (elt a (j*2)))) h) ⟨⟩:=Hp_indexAtS kR n0 n1
@[simp] theorem Tryz.ld150:Hp Tryz.prog q (loadAt 150 (.pointer (some a))) K h ⟨⟩↔loadsP h a 0 2 fun vs=>K (.agg vs.toArray) h:=Hp_loadAgg kR kR
@[simp] theorem Tryz.fd139_3:Hp Tryz.prog q (fieldAt 139 (.pointer (some a)) 3) K h ⟨⟩↔K (.pointer (some (a.add 3))) h:=Hp_field kR
@[simp] theorem Tryz.slc102_01 {len cap:Nat} {k':IntKind} {hi:Int} (h1:0≤hi) (h2:hi≤cap):Hp Tryz.prog q (sliceAt 102 (.slice (some a) len cap) none (some (.int k' hi)) none) K h ⟨⟩↔ValT hi.toNat (fun r=>K (.slice (some a) r cap) h) ⟨⟩:=Hp_slcNH kR h1 h2
@[simp] theorem Tryz.slcn102_10 {k k':IntKind} {lo hi:Int} (h0:lo=0):Hp Tryz.prog q (sliceAt 102 (.slice none 0 0) (some (.int k lo)) none none) K h ⟨⟩↔K (.slice none 0 0) h:=Hp_sliceNil (s:=1) kR rfl rfl h0 rfl
@[simp] theorem Tryz.slcn127_10 {k k':IntKind} {lo hi:Int} (h0:lo=0):Hp Tryz.prog q (sliceAt 127 (.slice none 0 0) (some (.int k lo)) none none) K h ⟨⟩↔K (.slice none 0 0) h:=Hp_sliceNil (s:=2) kR rfl rfl h0 rfl
@[simp] theorem Tryz.st2 {x1:Int}:Hp Tryz.prog false (storeS 2 (.pointer (some a)) (.int .i64 x1)) K h ⟨⟩↔StoreP (hcell h a) (hfrozen h a) (K undef (hset h a (.int .i64 x1))) ⟨⟩:=Hp_store kR rfl
theorem Tryz.cvw3_223 {k:IntKind} {n:Int}:Hp Tryz.prog q (convert 3 223 (.int k n)) K h ⟨⟩↔ValI (IntKind.u64.wrap n) (fun n=>K (.int .u64 n) h) ⟨⟩:=Hp_convInt (d := .int .i64) kR kR
@[simp] theorem Tryz.cv3_223 {k:IntKind} {n:Int} (h0:0≤n) (h1:n<18446744073709551616):Hp Tryz.prog q (convert 3 223 (.int k n)) K h ⟨⟩↔K (.int .u64 n) h:=by rw [Tryz.cvw3_223,ValI_iff,wrap_u64 h0 h1]
@[simp] theorem Tryz.al223:Hp Tryz.prog false (alloc 223 true undef) K h ⟨⟩↔ValT h.size (fun b=>K (.pointer (some ⟨b,0,none⟩)) (h.push (.cells #[(.int .u64 0)] 223))) ⟨⟩:=Hp_allocZ (z:=(.int .u64 0)) kR
@[simp] theorem Tryz.st223 {x1:Int}:Hp Tryz.prog false (storeS 223 (.pointer (some a)) (.int .u64 x1)) K h ⟨⟩↔StoreP (hcell h a) (hfrozen h a) (K undef (hset h a (.int .u64 x1))) ⟨⟩:=Hp_store kR rfl
theorem Tryz.cvw195_3 {k:IntKind} {n:Int}:Hp Tryz.prog q (convert 195 3 (.int k n)) K h ⟨⟩↔ValI (IntKind.i64.wrap n) (fun n=>K (.int .i64 n) h) ⟨⟩:=Hp_convInt (d := .int .u64) kR kR
@[simp] theorem Tryz.cv195_3 {k:IntKind} {n:Int} (h0 : -9223372036854775808≤n) (h1:n<9223372036854775808):Hp Tryz.prog q (convert 195 3 (.int k n)) K h ⟨⟩↔K (.int .i64 n) h:=by rw [Tryz.cvw195_3,ValI_iff,wrap_i64 h0 h1]
@[simp] theorem Tryz.cvB5_3 {b:UInt8}:Hp Tryz.prog q (convert 5 3 (byteV b)) K h ⟨⟩↔K (.int .i64 b.toNat) h:=Hp_convB (d := .int .u8) kR kR sM
theorem Tryz.cvw219_5 {k:IntKind} {n:Int}:Hp Tryz.prog q (convert 219 5 (.int k n)) K h ⟨⟩↔ValI (IntKind.u8.wrap n) (fun n=>K (.int .u8 n) h) ⟨⟩:=Hp_convInt (d := .int .u64) kR kR
@[simp] theorem Tryz.cv219_5 {k:IntKind} {n:Int} (h0:0≤n) (h1:n<256):Hp Tryz.prog q (convert 219 5 (.int k n)) K h ⟨⟩↔K (.int .u8 n) h:=by rw [Tryz.cvw219_5,ValI_iff,wrap_u8 h0 h1]
@[simp] theorem Tryz.ld223:Hp Tryz.prog q (loadAt 223 (.pointer (some a))) K h ⟨⟩↔LoadP (hcell h a) (fun v=>K v h) ⟨⟩:=Hp_load kR
@[simp] theorem Tryz.len188 {a:Option Addr} {n c:Nat}:Hp Tryz.prog q (len_ #[188] 3 #[.slice a n c]) K h ⟨⟩↔K (.int .i64 n) h:=Hp_iff.trans (iff_of_eq kR)
@[simp] theorem Tryz.ix188 {len cap:Nat} {k:IntKind} {n:Int} (n0:0≤n) (n1:n<len):Hp Tryz.prog q (indexAt 188 (.slice (some a) len cap) (.int k n)) K h ⟨⟩↔ValT n.toNat (fun j=>K (.pointer (some (elt a j))) h) ⟨⟩:=Hp_indexAt1 kR n0 n1
@[simp] theorem Tryz.ld94:Hp Tryz.prog q (loadAt 94 (.pointer (some a))) K h ⟨⟩↔LoadP (hcell h a) (fun v=>K v h) ⟨⟩:=Hp_load kR
@[simp] theorem Tryz.st94 {x1:Option Addr}:Hp Tryz.prog false (storeS 94 (.pointer (some a)) (.pointer x1)) K h ⟨⟩↔StoreP (hcell h a) (hfrozen h a) (K undef (hset h a (.pointer x1))) ⟨⟩:=Hp_store kR rfl
@[simp] theorem Tryz.slc188_01 {len cap:Nat} {k':IntKind} {hi:Int} (h1:0≤hi) (h2:hi≤cap):Hp Tryz.prog q (sliceAt 188 (.slice (some a) len cap) none (some (.int k' hi)) none) K h ⟨⟩↔ValT hi.toNat (fun r=>K (.slice (some a) r cap) h) ⟨⟩:=Hp_slcNH kR h1 h2
end Go.Proofs.YtcbbdnaelimpfaaGreat

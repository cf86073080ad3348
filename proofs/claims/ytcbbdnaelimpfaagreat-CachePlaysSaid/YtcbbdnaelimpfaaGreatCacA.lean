/- Cache: what it holds,and where; whether a page is open. Cache: those that a page waits for,rising. Cache: who is neither dirty nor pending is let be. Cache,plainly: flushed,written back. Cache,over its store,in memory: what changes; flushed. Cache: a page written back. Cache: a page written back. Cache: a page written back,behind those that it waits for. Cache: the heap of pages,and its methods. Cache: one page is let go. Cache: one page is let go,if there is no room. -/
import Derived.Test.YtcbbdnaelimpfaaGreatStoB
import Derived.Test.YtcbbdnaelimpfaaGreatKeysL
import Derived.Test.YtcbbdnaelimpfaaGreatStoA
import Derived.Test.YtcbbdnaelimpfaaGreatHeapG
set_option linter.unusedSimpArgs false
set_option linter.unusedVariables false
namespace Go.Proofs.YtcbbdnaelimpfaaGreat
open Go.Vc
variable {K:VP} {h:Heap}

def cT:Nat:=93
def pgT:Nat:=99
abbrev ik:Int→Value := .int .i64
theorem ik_inj (a b:Int) (h:ik a=ik b):a=b:=by injection h
structure Pge where
 n:Int
 D:List UInt8
 d:Bool
 u:Nat
 pb:Nat
 bb:Nat
structure Wt where
 n:Int
 qs:List Int
 b:Nat
structure Ca where
 sp:Nat
 bits:Nat
 room:Nat
 P:List Pge
 km:Nat
 pend:List Int
 pm:Nat
 W:List Wt
 wm:Nat
 clock:Nat
 hits:Nat
 loads:Nat
 backs:Nat
 flushes:Nat
def fN:List UInt8:=[102]
theorem okN_f:okName fN:=by refine ⟨by decide,by decide,by decide⟩
def Pge.sl (x:Pge):Value := .slice (some ⟨x.bb,0,none⟩) x.D.length x.D.length
def Pge.cells (x:Pge):Array Value := #[.int .i64 x.n,x.sl,.bool x.d,.int .i64 x.u]
def Ca.cells (c:Ca):Array Value := #[ptrV c.sp,str fN,.int .i64 c.bits,.int .i64 c.room,.map (some c.km),.map (some c.pm),.map (some c.wm),.int .i64 c.clock,.int .i64 c.hits,.int .i64 c.loads,.int .i64 c.backs,.int .i64 c.flushes]
def Ca.keptL (c:Ca):List (Int×Value):=c.P.map fun x=>(x.n,ptrV x.pb)
def Ca.pendL (c:Ca):List (Int×Value):=c.pend.map fun n=>(n,.bool true)
def Ca.waitL (c:Ca):List (Int×Value):=c.W.map fun w=>(w.n,.map (some w.b))
def Wt.L (w:Wt):List (Int×Value):=w.qs.map fun n=>(n,.bool true)
def Ca.foot (c:Ca) (o b:Nat):Prop:=b=o∨b=c.km∨b=c.pm∨b=c.wm∨(∃w∈c.W,b=w.b)∨(∃x∈c.P,b=x.pb)∨(∃x∈c.P,b=x.bb)
structure Ca.ok (c:Ca):Prop where
 b0:9≤c.bits
 b1:c.bits≤16
 r0:1≤c.room
 r1:c.room≤1024
 few:c.P.length≤c.room
 len:∀x∈c.P,x.D.length=2^c.bits
 num:∀x∈c.P,0≤x.n∧x.n*((2^c.bits:Nat):Int)<268435456
 clk:c.clock<1000000
 hit:c.hits≤1000000
 load:c.loads≤1000000
 wfew:c.W.length<10000
 qfew:∀w∈c.W,w.qs.length<10000
 pbs:(c.P.map (·.pb)).Nodup
 bbs:(c.P.map (·.bb)).Nodup
 m1:c.km≠c.pm
 m2:c.km≠c.wm
 m3:c.pm≠c.wm
 m4:∀w∈c.W,w.b≠c.km∧w.b≠c.pm∧w.b≠c.wm
 m5:(c.W.map (·.b)).Nodup
structure CoAt (h:Heap) (o:Nat) (c:Ca):Prop where
 cells:h[o]? = some (.cells c.cells cT)
 kept:MapK ik h c.km c.keptL
 pg:∀x∈c.P,h[x.pb]? = some (.cells x.cells pgT)
 pend:MapK ik h c.pm c.pendL
 wait:MapK ik h c.wm c.waitL
 sets:∀w∈c.W,MapK ik h w.b w.L
 by_:∀x∈c.P,OwnG bT 1 h x.sl (x.D.map byteV)
 ok:c.ok
theorem Ca.ok.pos {c:Ca} (a:c.ok) {x:Pge} (hx:x∈c.P):0<x.D.length:=by rw [a.len x hx]; exact Nat.pow_pos dM
theorem CoAt.blk {x:Pge}:blkG x.sl=some x.bb∨x.D.length=0:=by
 unfold Pge.sl
 cases hx:x.D.length with
 | zero=>exact .inr rfl
 | succ n=>exact .inl rfl
theorem CoAt.blk_ {c:Ca} (a:c.ok) {x:Pge} (hx:x∈c.P):blkG x.sl=some x.bb:=CoAt.blk.resolve_right (by have:=a.pos hx; omega)
theorem CoAt.blkv {x:Pge} {b:Nat} (hb:blkV x.sl=some b):b=x.bb:=by
 unfold Pge.sl at hb
 exact (Option.some.inj hb).symm
theorem CoAt.bby {o:Nat} {c:Ca} (a:CoAt h o c) {x:Pge} (hx:x∈c.P):∃arr,h[x.bb]? = some (.cells arr bT):=(a.by_ x hx).tag (CoAt.blk_ a.ok hx)
theorem CoAt.mod {S:Nat→Prop} {h':Heap} {o:Nat} {c:Ca} (a:CoAt h o c) (m:Mod S h h') (hS:∀b,c.foot o b→¬S b):CoAt h' o c where
 cells:=(m.block _ (get_some_lt a.cells) (hS _ (.inl rfl))).trans a.cells
 kept:=a.kept.mod m (hS _ (.inr (.inl rfl)))
 pg:=fun x hx=>(m.block _ (get_some_lt (a.pg x hx)) (hS _ (.inr (.inr (.inr (.inr (.inr (.inl ⟨x,hx,rfl⟩)))))))).trans (a.pg x hx)
 pend:=a.pend.mod m (hS _ (.inr (.inr (.inl rfl))))
 wait:=a.wait.mod m (hS _ (.inr (.inr (.inr (.inl rfl)))))
 sets:=fun w hw=>(a.sets w hw).mod m (hS _ (.inr (.inr (.inr (.inr (.inl ⟨w,hw,rfl⟩))))))
 by_:=fun x hx=>(a.by_ x hx).mod m (fun b hb=>by
  rw [CoAt.blk_ a.ok hx] at hb
  cases hb
  exact hS _ (.inr (.inr (.inr (.inr (.inr (.inr ⟨x,hx,rfl⟩)))))))
 ok:=a.ok
theorem CoAt.ext {h':Heap} {o:Nat} {c:Ca} (a:CoAt h o c) (e:Ext h h'):CoAt h' o c:=a.mod (S:=fun _=>False) (.of_ext e) (fun _ _ x=>x)
theorem CoAt.lt {o:Nat} {c:Ca} (a:CoAt h o c) {b:Nat} (hb:c.foot o b):b<h.size:=by
 rcases hb with rfl|rfl|rfl|rfl|⟨w,hw,rfl⟩|⟨x,hx,rfl⟩|⟨x,hx,rfl⟩
 ·exact get_some_lt a.cells
 ·exact a.kept.lt
 ·exact a.pend.lt
 ·exact a.wait.lt
 ·exact (a.sets w hw).lt
 ·exact get_some_lt (a.pg x hx)
 ·obtain ⟨arr,ha⟩:=a.bby hx; exact get_some_lt ha

theorem keptKey:KeyT Tryz.prog 88 Int ik:=KeyT.int kR
theorem setKey:KeyT Tryz.prog 90 Int ik:=KeyT.int kR
theorem waitKey:KeyT Tryz.prog 91 Int ik:=KeyT.int kR

def Ca.get (c:Ca) (n:Int):Option Pge:=c.P.find? fun x=>decide (x.n=n)
theorem get_mem {c:Ca} {n:Int} {x:Pge} (hg:c.get n=some x):x∈c.P∧x.n=n:=by
 unfold Ca.get at hg
 exact ⟨List.mem_of_find?_eq_some hg,by simpa using List.find?_some hg⟩
theorem get_none_ {c:Ca} {n:Int} (hg:c.get n=none):∀x∈c.P,x.n≠n:=fun x hx e=>by
 unfold Ca.get at hg
 have:=List.find?_eq_none.1 hg x hx
 simp [e] at this
theorem look_kept {n:Int}:∀l:List Pge,look2 n (l.map fun x=>(x.n,ptrV x.pb))=(l.find? fun x=>decide (x.n=n)).map fun x=>ptrV x.pb
 | []=>rfl
 | x::F=>by
  rw [List.map_cons,look2,List.find?_cons]
  by_cases e:x.n=n
  ·simp [e]
  ·simp only [e,decide_false]
   rw [if_neg (Ne.symm e),look_kept F]
theorem look_true {n:Int}:∀l:List Int,(look2 n (l.map fun n=>(n,Value.bool true))).getD (.bool false) = .bool (decide (n∈l))
 | []=>by simp [look2]
 | x::F=>by
  rw [List.map_cons,look2]
  by_cases e:n=x
  ·simp [e]
  ·have:=look_true (n:=n) F
   rw [if_neg e,this]
   simp [e]
def Ca.dirty (c:Ca) (n:Int):Bool:=match c.get n with|some x=>x.d|none=>false
def Ca.opn (c:Ca) (n:Int):Bool:=c.dirty n || decide (n∈c.pend)

section
variable {o:Nat} {c:Ca} (hc:h[o]? = some (.cells c.cells cT))
include hc
theorem ce0:hcell h ⟨o,0,none⟩=some (.pointer (some ⟨c.sp,0,none⟩)):=cellOf hc rfl
theorem ce1:hcell h ⟨o,1,none⟩=some (str fN):=cellOf hc rfl
theorem ce2:hcell h ⟨o,2,none⟩=some (.int .i64 c.bits):=cellOf hc rfl
theorem ce3:hcell h ⟨o,3,none⟩=some (.int .i64 c.room):=cellOf hc rfl
theorem ce4:hcell h ⟨o,4,none⟩=some (.map (some c.km)):=cellOf hc rfl
theorem ce5:hcell h ⟨o,5,none⟩=some (.map (some c.pm)):=cellOf hc rfl
theorem ce6:hcell h ⟨o,6,none⟩=some (.map (some c.wm)):=cellOf hc rfl
theorem ce7:hcell h ⟨o,7,none⟩=some (.int .i64 c.clock):=cellOf hc rfl
theorem ce8:hcell h ⟨o,8,none⟩=some (.int .i64 c.hits):=cellOf hc rfl
theorem ce9:hcell h ⟨o,9,none⟩=some (.int .i64 c.loads):=cellOf hc rfl
theorem ce10:hcell h ⟨o,10,none⟩=some (.int .i64 c.backs):=cellOf hc rfl
theorem ce11:hcell h ⟨o,11,none⟩=some (.int .i64 c.flushes):=cellOf hc rfl
theorem ceF (i:Nat):hfrozen h ⟨o,i,none⟩=false:=frzOf hc
end
section
variable {x:Pge} (hc:h[x.pb]? = some (.cells x.cells pgT))
include hc
theorem pc0:hcell h ⟨x.pb,0,none⟩=some (.int .i64 x.n):=cellOf hc rfl
theorem pc1:hcell h ⟨x.pb,1,none⟩=some (.slice (some ⟨x.bb,0,none⟩) x.D.length x.D.length):=cellOf hc rfl
theorem pc2:hcell h ⟨x.pb,2,none⟩=some (.bool x.d):=cellOf hc rfl
theorem pc3:hcell h ⟨x.pb,3,none⟩=some (.int .i64 x.u):=cellOf hc rfl
theorem pcF (i:Nat):hfrozen h ⟨x.pb,i,none⟩=false:=frzOf hc
end

theorem shrP {bits:Nat} (hb:bits≤16):0<2^bits∧2^bits≤65536:=⟨Nat.pow_pos dM,Nat.le_trans (Nat.pow_le_pow_right dM hb) dM⟩
def askE (bits:Nat) (n:Int):Int:=if n<0∨(268435456:Int)/((2^bits:Nat):Int)≤n then 2 else 0
set_option maxHeartbeats 1000000 in
theorem ask_c {o:Nat} {c:Ca} {n:Int} (hc:h[o]? = some (.cells c.cells cT)) (hb:c.bits≤16) (H:K (.int .i64 (askE c.bits n)) h):CallsH Tryz.prog 41 #[ptrV o,.int .i64 n] h K ⟨⟩:=by
 refine n41_calls ?_
 unfold n41 ptrV; try delta vF vG vC vD vJ vV vk vt
 have c0:=ce0 hc
 have c2:=ce2 hc
 obtain ⟨W,hW⟩:∃W,2^c.bits=W:=⟨_,rfl⟩
 obtain ⟨w0,w1⟩:=shrP hb
 rw [hW] at w0 w1
 unfold askE at H
 rw [hW] at H
 have hs:=fun (q:Bool) (tt:Nat) (o1 o2:Go.Operand) (g:Heap) (K:VP)=>Hp_shrW (P:=Tryz.prog) (q:=q) (t:=tt) (x:=o1) (y:=o2) (k' := .i64) (K:=K) (h:=g) (a:=268435456) hW omg omg
 by_cases h0:n<0
 ·rw [if_pos (.inl h0)] at H
  simp (disch:=omega) [c0,c2,h0]
  exact H
 ·by_cases h1:(268435456:Int)/(W:Int)≤n
  ·rw [if_pos (.inr h1)] at H
   simp (disch:=omega) [c0,c2,h0,hs,h1]
   exact H
  ·rw [if_neg (fun e=>e.elim h0 h1)] at H
   simp (disch:=omega) [c0,c2,h0,hs,h1]
   exact H
theorem ask_ok {bits:Nat} {n:Int} (hb:bits≤16) (h:askE bits n=0):0≤n∧n*((2^bits:Nat):Int)<268435456:=by
 obtain ⟨w0,w1⟩:=shrP hb
 unfold askE at h
 split at h
 ·cases h
 ·rename_i h1
  refine ⟨by omega,?_⟩
  have h2:n<(268435456:Int)/((2^bits:Nat):Int):=by omega
  exact (Int.lt_ediv_iff_mul_lt omg ⟨((2^(28-bits):Nat):Int),by rw [←Int.natCast_mul,←Nat.pow_add,show bits+(28-bits)=28 by omega]; rfl⟩).1 h2
set_option maxHeartbeats 1000000 in
theorem open_c0 {o:Nat} {c:Ca} {n:Int} (hc:h[o]? = some (.cells c.cells cT)) (hk:MapK ik h c.km c.keptL) (hpg:∀x∈c.P,h[x.pb]? = some (.cells x.cells pgT)) (hpd:MapK ik h c.pm c.pendL) (H:K (.bool (c.opn n)) h):CallsH Tryz.prog 43 #[ptrV o,.int .i64 n] h K ⟨⟩:=by
 refine n43_calls ?_
 unfold n43 ptrV; try delta vF vG vC vD vJ vV vk vt
 have c4:=ce4 hc
 have c5:=ce5 hc
 have lk:look2 n c.keptL=(c.get n).map fun x=>ptrV x.pb:=look_kept c.P
 have lp:(look2 n c.pendL).getD (.bool false) = .bool (decide (n∈c.pend)):=look_true c.pend
 unfold Ca.opn Ca.dirty at H
 simp (disch:=omega) [c4]
 rw [Hp_lookup keptKey (z := .pointer none) kR hk,lk]
 cases hg:c.get n with
 | none =>
  rw [hg] at H
  dsimp only at H
  simp (disch:=omega) [c5]
  rw [Hp_lookup setKey (z := .bool false) kR hpd,lp]
  simp (disch:=omega)
  simpa using H
 | some x =>
  rw [hg] at H
  dsimp only at H
  have q2:=pc2 (hpg x (get_mem hg).1)
  simp (disch:=omega) [ptrV,q2]
  cases hd:x.d with
  | true =>
   rw [hd] at H
   simp (disch:=omega)
   simpa using H
  | false =>
   rw [hd] at H
   simp (disch:=omega) [c5]
   rw [Hp_lookup setKey (z := .bool false) kR hpd,lp]
   simp (disch:=omega)
   simpa using H
theorem open_c {o:Nat} {c:Ca} {n:Int} (a:CoAt h o c) (H:K (.bool (c.opn n)) h):CallsH Tryz.prog 43 #[ptrV o,.int .i64 n] h K ⟨⟩:=open_c0 a.cells a.kept a.pg a.pend H
end Go.Proofs.YtcbbdnaelimpfaaGreat
set_option linter.unusedSimpArgs false
set_option linter.unusedVariables false
namespace Go.Proofs.YtcbbdnaelimpfaaGreat
open Go.Vc
variable {K:VP} {h:Heap}

theorem Hp_rangeNil {P:Program} {t:Go.TypeId} (ht:isMapB P t=true) (H:∀h',Ext h h'→h'[h.size]? = some (.mapIter none 0 #[] 0)→h'.size=h.size+1→K (.pointer (some ⟨h.size,0,none⟩)) h'):Hp P false (Instr.range t (.map none)) K h ⟨⟩:=by
 obtain ⟨kt,et,hu⟩:=isMapB_spec ht
 rw [Hp_iff]
 unfold Instr.range
 rw [hp_bind',hp_underlying hu]
 simp only
 rw [hp_bind',hp_pure,hp_bind']
 show _∧_
 refine ⟨rfl,?_⟩
 show K _ _
 exact H _ (push_ext (.refl _)) sM sM
theorem Hp_nextNil {P:Program} {q:Bool} {it c d:Nat} {s:Array Nat} {ty:Go.TypeId} (hi:h[it]? = some (.mapIter none c s d)):Hp P q (Instr.next (.pointer (some ⟨it,0,none⟩)) false ty) K h ⟨⟩↔K (.tuple #[.bool false]) h:=by
 rw [Hp_iff]
 unfold Instr.next
 simp only
 rw [hp_bind',hp_getIter hi]
 exact Iff.rfl

def Ca.ws (c:Ca) (n:Int):List Int:=match c.W.find? (fun w=>decide (w.n=n)) with|some w=>w.qs|none=>[]
def Ca.beh (c:Ca) (n:Int):List Int:=((c.ws n).filter c.opn).mergeSort (fun a b=>decide (a≤b))
theorem beh_perm (c:Ca) (n:Int):(c.beh n).Perm ((c.ws n).filter c.opn):=List.mergeSort_perm _ _
theorem beh_mem {c:Ca} {n q:Int}:q∈c.beh n↔q∈c.ws n∧c.opn q=true:=by rw [(beh_perm c n).mem_iff,List.mem_filter]
theorem beh_sorted (c:Ca) (n:Int):(c.beh n).Pairwise (· ≤ ·):=by
 have:=List.pairwise_mergeSort (le:=fun a b:Int=>decide (a≤b)) (fun a b c h1 h2=>by simp at *; omega) (fun a b=>by simp; omega) ((c.ws n).filter c.opn)
 exact this.imp fun h=>by simpa using h
theorem sorted_int:∀{L M:List Int},L.Perm M→L.Pairwise (· ≤ ·)→M.Pairwise (· ≤ ·)→L=M:=fun hp h1 h2=>hp.eq_of_pairwise (fun a b _ _ h3 h4=>by omega) h1 h2
theorem look_wait {n:Int}:∀l:List Wt,look2 n (l.map fun w=>(w.n,Value.map (some w.b)))=(l.find? fun w=>decide (w.n=n)).map fun w=>Value.map (some w.b)
 | []=>rfl
 | x::F=>by
  rw [List.map_cons,look2,List.find?_cons]
  by_cases e:x.n=n
  ·simp [e]
  ·simp only [e,decide_false]
   rw [if_neg (Ne.symm e),look_wait F]
set_option maxHeartbeats 2000000 in
theorem behind_c {o:Nat} {c:Ca} {n:Int} (a:CoAt h o c)
 (H:∀h' v,Ext h h'→OwnT i6T 1 h' v ((c.beh n).map ik)→(∀b,blkV v=some b→h.size≤b)→K v h'):CallsH Tryz.prog 82 #[ptrV o,.int .i64 n] h K ⟨⟩:=by
 refine n82_calls ?_
 unfold n82; try delta vF vG vC vD vJ vV vk vt
 have c6:=ce6 a.cells
 have lk:look2 n c.waitL=(c.W.find? fun w=>decide (w.n=n)).map fun w=>Value.map (some w.b):=look_wait c.W
 have fin:∀h1 v (L:List Int),Ext h h1→OwnT i6T 1 h1 v (L.map ik)→(∀b,blkV v=some b→h.size≤b)→L.Perm ((c.ws n).filter c.opn)→L.length<100000 →
  CallsH Tryz.prog 85 #[v] h1 (fun _ h_16=>K v h_16) ⟨⟩:=by
  intro h1 v L e1 ov fv hp hl
  refine sortL64_c ov hl fun h2 L' q1 q2 o2 m2 => ?_
  have:L'=c.beh n:=sorted_int (q1.trans (hp.trans (beh_perm c n).symm)) q2 (beh_sorted c n)
  rw [this] at o2
  exact H h2 v (m2.ext_from e1 (fun b hb e=>by have:=fv b e; omega)) o2 fv
 unfold ptrV
 simp (disch:=omega) [c6]
 rw [Hp_lookup waitKey (z := .map none) kR a.wait,lk]
 cases hw:c.W.find? (fun w=>decide (w.n=n)) with
 | none =>
  simp (disch:=omega)
  refine Hp_rangeNil kR fun h1 e1 i1 z1 => ?_
  refine loopX1 (α:=Unit) (fun _ => .slice none 0 0) (fun _ g=>g=h1) (fun _=>0) () rfl rfl ?_
  rintro-g rfl X hX
  rw [Hp_nextNil i1]
  simp (disch:=omega)
  refine fin g _ [] e1 .nil (fun b hb=>by cases hb) ?_ dM
  unfold Ca.ws; rw [hw]; exact .refl _
 | some w =>
  have hwm:w∈c.W:=List.mem_of_find?_eq_some hw
  have hws:c.ws n=w.qs:=by unfold Ca.ws; rw [hw]
  have hql:=a.ok.qfew w hwm
  simp (disch:=omega)
  refine Hp_rangeM kR (a.sets w hwm) fun h1 e1 it1 z1 => ?_
  refine loopMap1 (α:=Value) id (fun I v g=>Ext h g∧OwnT i6T 1 g v (((I.filterMap (fun i=>w.qs[i]?)).filter c.opn).map ik)∧(∀b,blkV v=some b→h.size<b)) (.slice none 0 0) it1 rfl ⟨e1,.nil,fun b hb=>by cases hb⟩ ?_
  rintro I v g hI hn hlt ⟨eg,ov,fv⟩ X hX
  have hwl:w.L.length=w.qs.length:=by unfold Wt.L; simp
  have hIl:=nodup_len hn hlt
  refine Hp_next hI (fun i hi hiI g' m' hI' => ?_) (fun hall => ?_)
  ·have hgi:w.L[i]=(w.qs[i]'omg,.bool true):=by
    have:w.L[i]? = some (w.qs[i]'omg,.bool true):=by unfold Wt.L; rw [List.getElem?_map,List.getElem?_eq_getElem omg]; rfl
    exact Option.some.inj ((List.getElem?_eq_getElem hi).symm.trans this)
   have eg':Ext h g':=m'.ext_from eg (fun b hb e=>by omega)
   have ov':=ov.mod m' (fun b hb e=>by have:=fv b hb; omega)
   simp (disch:=omega)
   refine JoinN.mk ?_
   rw [Hp_entry hI' hi]
   simp (disch:=omega) [hgi]
   rw [show (.pointer (some ⟨o,0,none⟩):Value)=ptrV o from rfl]
   refine open_c (a.ext eg') ?_
   have hf:(I++[i]).filterMap (fun i=>w.qs[i]?)=I.filterMap (fun i=>w.qs[i]?)++[w.qs[i]'omg]:=by
    rw [List.filterMap_append]
    congr 1
    rw [List.filterMap_cons,List.getElem?_eq_getElem omg]
    rfl
   cases hop:c.opn (w.qs[i]'omg) with
   | false =>
    simp (disch:=omega)
    refine hX i v g' hiI hi hI' ⟨eg',?_,fv⟩
    rw [hf,List.filter_append,List.filter_cons_of_neg (by simp [hop]),List.filter_nil,List.append_nil]
    exact ov'
   | true =>
    obtain ⟨va,vn,vc,rfl,hvn,-,-⟩:=ov.form omg
    simp (disch:=omega)
    have hkl:((I.filterMap (fun i=>w.qs[i]?)).filter c.opn).length≤I.length:=Nat.le_trans (List.length_filter_le _ _) (List.length_filterMap_le _ _)
    refine Hp_appP (e:=i6T) (by_:=8) kR kR ov' rfl (by rw [List.length_map]; omega) omg fun v' h3 o3 m3 f3 => ?_
    have hmz:=m'.size
    have hgz:=eg.size
    refine hX i v' h3 hiI hi (hI'.mod m3 (fun e=>by have:=fv _ e; omega) (fun e=>by have:=fv _ e; have:=(a.sets w hwm).lt; omega)) ⟨m3.ext_from eg' (fun b hb e=>by have:=fv b e; omega),?_,fun b hb=>(f3 b hb).elim (fv b) (fun e=>by obtain ⟨_,_,_,_,_,_,k6,_⟩:=hI'; have:=get_some_lt k6; omega)⟩
    rw [hf,List.filter_append,List.filter_cons_of_pos (by simp [hop]),List.filter_nil,List.map_append]
    exact o3
  ·simp (disch:=omega)
   have hp:I.Perm (List.range w.qs.length):=by
    refine (List.perm_ext_iff_of_nodup hn List.nodup_range).2 fun i=>⟨fun hi => ?_,fun hi=>hall i (by simp at hi; omega)⟩
    have:=hlt i hi
    simp; omega
   have h2:=hp.filterMap (fun i=>w.qs[i]?)
   rw [range_filterL] at h2
   refine fin g v _ eg ov (fun b hb=>by have:=fv b hb; omega) ?_ ?_
   ·rw [hws]; exact h2.filter _
   ·have hkl:((I.filterMap (fun i=>w.qs[i]?)).filter c.opn).length≤I.length:=Nat.le_trans (List.length_filter_le _ _) (List.length_filterMap_le _ _)
    omega
end Go.Proofs.YtcbbdnaelimpfaaGreat
set_option linter.unusedSimpArgs false
set_option linter.unusedVariables false
namespace Go.Proofs.YtcbbdnaelimpfaaGreat
open Go.Vc
variable {K:VP} {h:Heap}

theorem delS_c {m:Nat} {l:List (Int×Value)} {f:Value} {d:Int→Value→Bool} (hm:MapK ik h m l) (hl:l.length<1000000)
 (hf:∀p∈l,∀(g:Heap) (K:VP),Mod (fun b=>b=m∨h.size≤b) h g→(∀g',Ext g g'→K (.bool (d p.1 p.2)) g')→InvokeH Tryz.prog f #[ik p.1,p.2] g K ⟨⟩)
 (H:∀h',MapK ik h' m (l.filter (fun p => !d p.1 p.2))→Mod (· = m) h h'→K (.tuple #[]) h'):CallsH Tryz.prog 94 #[.map (some m),f] h K ⟨⟩:=by
 refine n94_calls ?_
 unfold n94; try delta vF vG vC vD vJ vV vk vt
 refine Hp_rangeD kR hm fun h1 e1 i1 z1 => ?_
 have hml:=hm.lt
 have hnd:=hm.nodup
 refine loopMapD (fun l' T g=>l'=l.filter (fun p => !(decide (p.1∈T)&&d p.1 p.2))∧Mod (fun b=>b=m∨h.size≤b) h g) i1 ⟨by rw [List.filter_eq_self.2]; intro p hp; simp,.of_ext e1⟩ ?_
 rintro l' T g it ⟨hl',mg⟩ X hX
 refine Hp_nextD ik_inj it (fun i hi hiT g2 m2 it2 => ?_) (fun hall => ?_)
 ·have hmem':l'[i]∈l':=List.getElem_mem hi
  have hmem:l'[i]∈l:=by
   have h3:l'[i]∈l.filter (fun p => !(decide (p.1∈T)&&d p.1 p.2)):=by rw [←hl']; exact hmem'
   exact (List.mem_filter.1 h3).1
  have mg2:Mod (fun b=>b=m∨h.size≤b) h g2:=mg.trans m2 (fun b hb e=>by have e':b=h.size:=e; omega)
  simp (disch:=omega)
  refine JoinN.mk ?_
  rw [Hp_entryD it2 hi rfl]
  simp (disch:=omega)
  obtain ⟨p0,hp0⟩:∃p0,p0=l'[i]:=⟨_,rfl⟩
  rw [←hp0] at hmem hmem' hiT it2 ⊢
  refine hf p0 hmem g2 _ mg2 fun g3 e3 => ?_
  have it3:=it2.ext e3
  have hlen:leftD l' (T++[p0.1])<leftD l' T:=leftD_next hmem' hiT
  have hfil:∀p∈l,(!(decide (p.1∈T++[p0.1])&&d p.1 p.2))=((!(decide (p.1∈T)&&d p.1 p.2)) && !(decide (p.1=p0.1)&&d p.1 p.2)):=fun p hp=>by
   by_cases h1:p.1∈T
   ·cases d p.1 p.2<;>simp [h1]
   ·by_cases h2:p.1=p0.1
    ·cases d p.1 p.2<;>simp [h1,h2]
    ·cases d p.1 p.2<;>simp [h1,h2]
  have mg3:Mod (fun b=>b=m∨h.size≤b) h g3:=mg2.extIn e3
  have uniq:∀p∈l,p.1=p0.1→p=p0:=fun p hp he=>by
   have h1:=(look2_some hnd).2 hp
   have h2:=(look2_some hnd).2 hmem
   rw [he,h2] at h1
   exact Prod.ext he (Option.some.inj h1).symm
  cases hd:d p0.1 p0.2 with
  | false =>
   simp (disch:=omega)
   refine hX l' (T++[p0.1]) g3 it3 ⟨?_,mg3⟩ hlen
   rw [List.filter_congr hfil]
   conv=>lhs; rw [hl']
   apply List.filter_congr
   intro p hp
   by_cases h2:p.1=p0.1
   ·rw [uniq p hp h2,hd]; simp
   ·simp [h2]
  | true =>
   simp (disch:=omega)
   refine Hp_deleteD setKey it3 fun g4 it4 m4 => ?_
   refine hX (del p0.1 l') (T++[p0.1]) g4 it4 ⟨?_,mg3.trans m4 (fun b _ e => .inl e)⟩ (Nat.lt_of_le_of_lt leftD_del hlen)
   rw [filter_del (p:=fun _ _=>true) it3.map.nodup hmem']
   conv=>lhs; rw [hl']
   rw [List.filter_congr hfil,List.filter_filter]
   apply List.filter_congr
   intro p hp
   by_cases h2:p.1=p0.1
   ·rw [uniq p hp h2,hd]; simp
   ·simp [h2]
 ·simp (disch:=omega)
  have e:l.filter (fun p => !d p.1 p.2)=l':=by
   rw [hl']
   apply List.filter_congr
   intro p hp
   by_cases h1:p.1∈T
   ·simp [h1]
   ·by_cases h2:d p.1 p.2=true
    ·exfalso
     have hp':p∈l':=by rw [hl',List.mem_filter]; exact ⟨hp,by simp [h1]⟩
     exact h1 (hall p hp')
    ·simp [h2]
  rw [←e] at it
  refine H g it.map (⟨mg.size,fun b hb hn=>mg.block b hb (fun e=>e.elim hn omg)⟩)

theorem neC {m b:Nat} {l:List (Int×Value)} {arr:Array Value} {t:Nat} (a:MapK ik h m l) (hb:h[b]? = some (.cells arr t)):b≠m:=fun e=>by
 obtain ⟨es,cl,hm⟩:=mapCell a
 rw [←e,hb] at hm; cases hm
theorem CoAt.oM {o m:Nat} {c:Ca} {l:List (Int×Value)} (a:CoAt h o c) (hm:MapK ik h m l):o≠m∧(∀x∈c.P,x.pb≠m)∧(∀x∈c.P,x.bb≠m) :=
 ⟨neC hm a.cells,fun x hx=>neC hm (a.pg x hx),fun x hx=>by obtain ⟨arr,ha⟩:=a.bby hx; exact neC hm ha⟩
theorem cT_ne:cT≠pgT∧cT≠bT∧pgT≠bT∧cT≠sT∧cT≠aT∧cT≠fT∧cT≠pT∧pgT≠sT∧pgT≠aT∧pgT≠fT∧pgT≠pT:=by decide
theorem get_ne {b d:Nat} {a1 a2:Array Value} {t1 t2:Nat} (h1:h[b]? = some (.cells a1 t1)) (h2:h[d]? = some (.cells a2 t2)) (ht:t1≠t2):b≠d:=fun e=>by
 rw [e,h2] at h1; cases h1; exact ht rfl
theorem nodup_ix {α β:Type} {f:α→β} {l:List α} (hn:(l.map f).Nodup) {i j:Nat} (hi:i<l.length) (hj:j<l.length) (he:f l[i]=f l[j]):i=j:=by
 have hp:=List.pairwise_iff_getElem.1 hn
 rcases Nat.lt_trichotomy i j with h|h|h
 ·exact absurd (by rw [List.getElem_map,List.getElem_map]; exact he) (hp i j (by simpa using hi) (by simpa using hj) h)
 ·exact h
 ·exact absurd (by rw [List.getElem_map,List.getElem_map]; exact he.symm) (hp j i (by simpa using hj) (by simpa using hi) h)
theorem nodup_in {α β:Type} {f:α→β} {l:List α} (hn:(l.map f).Nodup) {x y:α} (hx:x∈l) (hy:y∈l) (he:f x=f y):x=y:=by
 obtain ⟨i,hi,rfl⟩:=List.getElem_of_mem hx
 obtain ⟨j,hj,rfl⟩:=List.getElem_of_mem hy
 have:=nodup_ix hn hi hj he
 subst this; rfl

theorem CoAt.setW {o:Nat} {c:Ca} {h':Heap} (a:CoAt h o c) {i:Nat} (hi:i<c.W.length) {qs:List Int} (hq:qs.length<10000) (hm:MapK ik h' c.W[i].b (qs.map fun n=>(n,.bool true))) (m:Mod (· = c.W[i].b) h h') :
 CoAt h' o { c with W:=c.W.set i { c.W[i] with qs:=qs } }:=by
 have hwm:c.W[i]∈c.W:=List.getElem_mem hi
 obtain ⟨o1,o2,o3⟩:=a.oM (a.sets _ hwm)
 obtain ⟨k1,k2,k3⟩:=a.ok.m4 _ hwm
 have hb:(c.W.set i { c.W[i] with qs:=qs }).map (·.b)=c.W.map (·.b):=by
  apply List.ext_getElem sM
  intro j h1 h2
  simp only [List.getElem_map,List.getElem_set]
  split
  ·rename_i e; subst e; rfl
  ·rfl
 have hn:(c.W.set i { c.W[i] with qs:=qs }).map (fun w=>(w.n,Value.map (some w.b)))=c.W.map (fun w=>(w.n,Value.map (some w.b))):=by
  apply List.ext_getElem sM
  intro j h1 h2
  simp only [List.getElem_map,List.getElem_set]
  split
  ·rename_i e; subst e; rfl
  ·rfl
 have hmem:∀w∈c.W.set i { c.W[i] with qs:=qs },w={ c.W[i] with qs:=qs }∨(w∈c.W∧w.b≠c.W[i].b):=fun w hw=>by
  obtain ⟨j,hj,rfl⟩:=List.getElem_of_mem hw
  rw [List.getElem_set]
  split
  ·exact .inl rfl
  ·rename_i e
   have hj':j<c.W.length:=by simpa using hj
   exact .inr ⟨List.getElem_mem hj',fun he=>e (nodup_ix a.ok.m5 hj' hi he).symm⟩
 refine ⟨(m.block _ (get_some_lt a.cells) o1).trans a.cells,a.kept.mod m k1.symm,fun x hx=>(m.block _ (get_some_lt (a.pg x hx)) (o2 x hx)).trans (a.pg x hx),a.pend.mod m k2.symm,?_,fun w hw => ?_,fun x hx=>(a.by_ x hx).mod m (fun b hb => ?_),?_⟩
 ·show MapK ik h' c.wm (List.map _ _)
  rw [hn]
  exact a.wait.mod m k3.symm
 ·rcases hmem w hw with rfl|⟨h1,h2⟩
  ·exact hm
  ·exact (a.sets w h1).mod m h2
 ·rw [CoAt.blk_ a.ok hx] at hb
  cases hb
  exact o3 x hx
 ·refine { a.ok with wfew := ?_,qfew:=fun w hw => ?_,m4:=fun w hw => ?_,m5 := ?_ }
  ·show (c.W.set _ _).length<_
   rw [List.length_set]; exact a.ok.wfew
  ·rcases hmem w hw with rfl|⟨h1,h2⟩
   ·exact hq
   ·exact a.ok.qfew w h1
  ·rcases hmem w hw with rfl|⟨h1,h2⟩
   ·exact a.ok.m4 c.W[i] hwm
   ·exact a.ok.m4 w h1
  ·show ((c.W.set _ _).map (·.b)).Nodup
   rw [hb]; exact a.ok.m5
def Ca.stl (c:Ca) (I:List Nat):Ca:={ c with W:=c.W.mapIdx fun i w=>if i∈I then { w with qs:=w.qs.filter c.opn } else w }
def Ca.settle (c:Ca):Ca:={ c with W:=c.W.map fun w=>{ w with qs:=w.qs.filter c.opn } }
theorem stl_nil (c:Ca):c.stl []=c:=by
 unfold Ca.stl
 have:(c.W.mapIdx fun i w=>if i∈([]:List Nat) then { w with qs:=w.qs.filter c.opn } else w)=c.W:=by
  apply List.ext_getElem sM
  intro j h1 h2
  simp
 rw [this]
theorem stl_all {c:Ca} {I:List Nat} (hI:∀i,i<c.W.length→i∈I):c.stl I=c.settle:=by
 unfold Ca.stl Ca.settle
 congr 1
 apply List.ext_getElem sM
 intro j h1 h2
 have:j<c.W.length:=by simpa using h1
 simp [hI j this]
theorem stl_snoc {c:Ca} {I:List Nat} {i:Nat} (hi:i<c.W.length) (hiI:i∉I):∃hi':i<(c.stl I).W.length,(c.stl I).W[i]=c.W[i]∧c.stl (I++[i])={ c.stl I with W:=(c.stl I).W.set i { (c.stl I).W[i] with qs:=c.W[i].qs.filter c.opn } }:=by
 have hl:(c.stl I).W.length=c.W.length:=by unfold Ca.stl; simp
 have hg:∀j (hj:j<(c.stl I).W.length),(c.stl I).W[j]=if j∈I then { c.W[j]'omg with qs:=(c.W[j]'omg).qs.filter c.opn } else c.W[j]'omg:=fun j hj=>by
  show (c.W.mapIdx _)[j]'(by simpa [Ca.stl] using hj)=_
  rw [List.getElem_mapIdx]
 have hi0:(c.stl I).W[i]'omg=c.W[i]:=by rw [hg,if_neg hiI]
 refine ⟨by omega,hi0,?_⟩
 rw [hi0]
 show { c with W:=_ }={ c with W:=_ }
 congr 1
 apply List.ext_getElem (by simp [Ca.stl])
 intro j h1 h2
 have hj:j<c.W.length:=by simpa using h1
 rw [List.getElem_set]
 by_cases e:i=j
 ·subst e
  simp
 ·rw [if_neg e,hg]
  simp [Ne.symm e]
theorem settle_opn (c:Ca) (n:Int):c.settle.opn n=c.opn n:=rfl
set_option maxHeartbeats 2000000 in
theorem settle_c {o:Nat} {c:Ca} (a:CoAt h o c) (H:∀h',CoAt h' o c.settle→Mod (fun b=>∃w∈c.W,b=w.b) h h'→K (.tuple #[]) h'):CallsH Tryz.prog 54 #[ptrV o] h K ⟨⟩:=by
 refine n54_calls ?_
 unfold n54; try delta vF vG vC vD vJ vV vk vt
 unfold ptrV
 have hol:=get_some_lt a.cells
 have hon:¬o=h.size:=by omega
 have c6:=ce6 a.cells
 simp (disch:=omega) [c6,hon]
 refine (⟨_,rfl⟩:∃f,f=h.push (.cells #[.pointer (some ⟨o,0,none⟩)] 28)).elim fun h1 eh1 => ?_
 have e1:Ext h h1:=by rw [eh1]; exact extS
 have z1:h1.size=h.size+1:=by rw [eh1]; simp
 have q1:h1[h.size]? = some (.cells #[ptrV o] 28):=by rw [eh1]; exact get_pushed rfl
 rw [←eh1]
 clear eh1
 have a1:=a.ext e1
 refine Hp_rangeM kR a1.wait fun h2 e2 it2 z2 => ?_
 refine loopMap0 (fun I g=>CoAt g o (c.stl I)∧Mod (fun b=>∃w∈c.W,b=w.b) h g∧g[h.size]? = some (.cells #[ptrV o] 28)) it2 ⟨by rw [stl_nil]; exact a1.ext e2,.of_ext (e1.trans e2),(e2.block _ omg).trans q1⟩ ?_
 rintro I g hI hn hlt ⟨ag,mg,qg⟩ X hX
 have hwl:c.waitL.length=c.W.length:=by unfold Ca.waitL; simp
 refine Hp_next hI (fun i hi hiI g' m' hI' => ?_) (fun hall => ?_)
 ·have hi':i<c.W.length:=by omega
  obtain ⟨hi2,hs1,hs2⟩:=stl_snoc hi' hiI
  have hgi:c.waitL[i]=(c.W[i].n,.map (some c.W[i].b)):=by
   have:c.waitL[i]? = some (c.W[i].n,.map (some c.W[i].b)):=by unfold Ca.waitL; rw [List.getElem?_map,List.getElem?_eq_getElem hi']; rfl
   exact Option.some.inj ((List.getElem?_eq_getElem hi).symm.trans this)
  have hwm:c.W[i]∈c.W:=List.getElem_mem hi'
  have hgz:=mg.size
  have agl:=fun b hb=>ag.lt (b:=b) hb
  have hit:∀b,(c.stl I).foot o b→b<h1.size∨True:=fun _ _ => .inr trivial
  have itx:∃x1 x2 x3 x4,g[h1.size]? = some (.mapIter x1 x2 x3 x4):=by obtain ⟨_,_,_,_,_,_,m6,_,_⟩:=hI; exact ⟨_,_,_,_,m6⟩
  have nit:∀b,(c.stl I).foot o b→b≠h1.size:=fun b hb e=>by
   obtain ⟨x1,x2,x3,x4,hx⟩:=itx
   rw [←e] at hx
   rcases hb with rfl|rfl|rfl|rfl|⟨w,hw,rfl⟩|⟨x,hx',rfl⟩|⟨x,hx',rfl⟩
   ·rw [ag.cells] at hx; cases hx
   ·obtain ⟨es,cl,hm⟩:=mapCell ag.kept; rw [hm] at hx; cases hx
   ·obtain ⟨es,cl,hm⟩:=mapCell ag.pend; rw [hm] at hx; cases hx
   ·obtain ⟨es,cl,hm⟩:=mapCell ag.wait; rw [hm] at hx; cases hx
   ·obtain ⟨es,cl,hm⟩:=mapCell (ag.sets w hw); rw [hm] at hx; cases hx
   ·rw [ag.pg x hx'] at hx; cases hx
   ·obtain ⟨arr,ha⟩:=ag.bby hx'; rw [ha] at hx; cases hx
  have ag':=ag.mod m' nit
  have qg':=(m'.block h.size (get_some_lt qg) omg).trans qg
  simp (disch:=omega)
  rw [Hp_entry hI' hi]
  simp (disch:=omega) [hgi]
  have hmk:MapK ik g' c.W[i].b c.W[i].L:=by
   have:=ag'.sets (c.stl I).W[i] (List.getElem_mem hi2)
   rw [hs1] at this; exact this
  refine delS_c (l:=c.W[i].L) (d:=fun n _ => !c.opn n) hmk (by unfold Wt.L; have:=a.ok.qfew _ hwm; simp; omega) (fun p hp g1 K1 m1 hk => ?_) fun h5 mp5 m5 => ?_
  ·refine InvokeH_func kR ?_
   show CallsH Tryz.prog 95 #[ik p.1,p.2,.pointer (some ⟨h.size,0,none⟩)] g1 K1 ⟨⟩
   refine n95_calls ?_
   unfold n95; try delta vF vG vC vD vJ vV vk vt
   have hgz':=m'.size
   have mS:Mod (· = c.W[i].b) g' g1∨True := .inr trivial
   have hbx:h.size≠c.W[i].b:=neC hmk qg'
   obtain ⟨o1,o2,o3⟩:=ag'.oM hmk
   obtain ⟨k1,k2,k3⟩:=a.ok.m4 _ hwm
   have nb:∀b,b<g'.size→b≠c.W[i].b→¬(b=c.W[i].b∨g'.size≤b):=fun b h1 h2 e=>e.elim h2 omg
   have q2:=(m1.block h.size (get_some_lt qg') (nb _ (get_some_lt qg') hbx)).trans qg'
   have r0:=cellOf (i:=0) q2 rfl
   unfold ptrV at r0
   simp (disch:=omega) [r0]
   rw [show (.pointer (some ⟨o,0,none⟩):Value)=ptrV o from rfl]
   refine open_c0 (c:=c.stl I) ((m1.block _ (get_some_lt ag'.cells) (nb _ (get_some_lt ag'.cells) o1)).trans ag'.cells) (ag'.kept.mod m1 (nb _ ag'.kept.lt k1.symm)) (fun x hx=>(m1.block _ (get_some_lt (ag'.pg x hx)) (nb _ (get_some_lt (ag'.pg x hx)) (o2 x hx))).trans (ag'.pg x hx)) (ag'.pend.mod m1 (nb _ ag'.pend.lt k2.symm)) ?_
   simp (disch:=omega)
   exact hk g1 (.refl _)
  ·have hid:(c.W[i].L.filter fun p => !(fun n _ => !c.opn n) p.1 p.2)=((c.W[i].qs.filter c.opn).map fun n=>(n,Value.bool true)):=by
    unfold Wt.L
    rw [List.filter_map]
    congr 1
    apply List.filter_congr
    intro x _
    simp
   rw [hid] at mp5
   have sW:=ag'.setW hi2 (qs:=c.W[i].qs.filter c.opn) (Nat.lt_of_le_of_lt (List.length_filter_le _ _) (a.ok.qfew _ hwm)) (by rw [hs1]; exact mp5) (by rw [hs1]; exact m5)
   rw [←hs2] at sW
   have hgz':=m'.size
   refine hX i h5 hiI hi (hI'.mod m5 (fun e => ?_) (fun e=>(a.ok.m4 _ hwm).2.2 e.symm)) ⟨sW,(mg.trans m' (fun b hb e=>by omega)).trans m5 (fun b hb e=>⟨_,hwm,e⟩),?_⟩
   ·obtain ⟨x1,x2,x3,x4,hx⟩:=itx
    obtain ⟨es,cl,hm⟩:=mapCell (ag.sets (c.stl I).W[i] (List.getElem_mem hi2))
    rw [hs1,←e,hx] at hm; cases hm
   ·exact (m5.block h.size (get_some_lt qg') (neC hmk qg')).trans qg'
 ·simp (disch:=omega)
  rw [stl_all (fun i hi=>hall i omg)] at ag
  exact H g ag mg
end Go.Proofs.YtcbbdnaelimpfaaGreat
set_option linter.unusedSimpArgs false
set_option linter.unusedVariables false
namespace Go.Proofs.YtcbbdnaelimpfaaGreat
open Go.Vc

structure Ps where
 f:Option Fl
 fates:List (Int×Int)
 steps:Nat
def Ps.write (p:Ps) (k:Nat) (b:List UInt8):Ps×Int :=
 match p.f with
 | none=>(p,7)
 | some f=>(⟨some (f.writes (went (fateE p.fates) (fateK p.fates) (cutP k b))),p.fates.tail,p.steps+1⟩,fateE p.fates)
def Ps.flush (p:Ps):Ps×Int :=
 match p.f with
 | none=>(p,7)
 | some f=>(⟨some (f.flush (wentN (fateE p.fates) (fateK p.fates) f.ps.length)),p.fates.tail,p.steps+1⟩,fateE p.fates)
abbrev Cx:=Ca×Ps
def Ca.flushed (c:Ca):Ca:=({ c with flushes:=c.flushes+1,pend:=[] }:Ca).settle
def flushP (x:Cx):Cx×Int:=if x.2.flush.2=0 then ((x.1.flushed,x.2.flush.1),0) else ((x.1,x.2.flush.1),x.2.flush.2)
def Pge.clean (n:Int) (x:Pge):Pge:=if x.n=n then { x with d:=false } else x
def Ca.cleaned (c:Ca) (n:Int):Ca:={ c with P:=c.P.map (Pge.clean n),pend:=if n∈c.pend then c.pend else c.pend++[n],W:=c.W.filter fun w => !decide (w.n=n),backs:=c.backs+1 }
def Ca.place (c:Ca) (n:Int):Nat:=n.toNat*2^c.bits
def writeP (x:Cx) (n:Int) (D:List UInt8):Cx×Int:=if (x.2.write (x.1.place n) D).2=0 then ((x.1.cleaned n,(x.2.write (x.1.place n) D).1),0) else ((x.1,(x.2.write (x.1.place n) D).1),(x.2.write (x.1.place n) D).2)
def runL {X:Type} (g:Int→X→X×Int):List Int→X→X×Int
 | [],x=>(x,0)
 | q::l,x=>if (g q x).2=0 then runL g l (g q x).1 else g q x
def backF (n:Int) (r:Cx×Int):Cx×Int:=if r.2=0 then (if r.1.1.beh n=[] then r else flushP r.1) else r
def backW (n:Int) (r:Cx×Int):Cx×Int:=if r.2=0 then (match r.1.1.get n with|some g=>writeP r.1 n g.D|none=>r) else r
def backP:Nat→Int→Cx→Cx×Int
 | 0,_,x=>(x,1)
 | f+1,n,x=>if x.1.dirty n=true then backW n (backF n (runL (backP f) (x.1.beh n) x)) else (x,0)

/-! ### Steps -/
inductive Mic:Cx→Cx→Prop
 | flush (x:Cx):Mic x (flushP x).1
 | write (x:Cx) (n:Int) (g:Pge):x.1.get n=some g→g.d=true→x.1.beh n=[]→Mic x (writeP x n g.D).1
inductive Mics:Cx→Cx→Prop
 | refl (x:Cx):Mics x x
 | tail {x y z:Cx}:Mics x y→Mic y z→Mics x z
theorem Mics.trans {x y z:Cx} (h:Mics x y) (k:Mics y z):Mics x z:=by
 induction k with
 | refl=>exact h
 | tail _ m ih=>exact .tail ih m
theorem flush_get (c:Ca) (n:Int):c.flushed.get n=c.get n:=rfl
theorem flush_dirty (c:Ca) (n:Int):c.flushed.dirty n=c.dirty n:=rfl
theorem clean_n (n:Int) (x:Pge):(x.clean n).n=x.n:=by unfold Pge.clean; split<;>rfl
theorem clean_get (c:Ca) (n m:Int):(c.cleaned n).get m=(c.get m).map (Pge.clean n):=by
 unfold Ca.get Ca.cleaned
 dsimp only
 rw [List.find?_map]
 congr 2
 funext x
 simp [clean_n]
theorem clean_dirty (c:Ca) (n m:Int):(c.cleaned n).dirty m=if m=n then false else c.dirty m:=by
 unfold Ca.dirty
 rw [clean_get]
 cases hg:c.get m with
 | none=>simp
 | some g =>
  have hm:=(get_mem hg).2
  simp only [Option.map_some]
  unfold Pge.clean
  rw [hm]
  split<;>rfl
theorem settle_ws (c:Ca) (n:Int):c.settle.ws n=(c.ws n).filter c.opn:=by
 unfold Ca.ws Ca.settle
 dsimp only
 rw [List.find?_map]
 have:((fun w:Wt=>decide (w.n=n))∘fun w:Wt=>{ w with qs:=w.qs.filter c.opn })=fun w=>decide (w.n=n):=by funext w; rfl
 rw [this]
 cases c.W.find? (fun w=>decide (w.n=n))<;>rfl
theorem flushed_ws (c:Ca) (n:Int):c.flushed.ws n=(c.ws n).filter fun q=>c.dirty q:=by
 unfold Ca.flushed
 rw [settle_ws]
 show (c.ws n).filter _=_
 apply List.filter_congr
 intro q _
 show (c.dirty q || decide (q∈([]:List Int)))=_
 simp
theorem find_filter {n m:Int}:∀l:List Wt,(l.filter fun w => !decide (w.n=n)).find? (fun w=>decide (w.n=m))=if m=n then none else l.find? fun w=>decide (w.n=m)
 | []=>by simp
 | w::l=>by
  by_cases h:w.n=n
  ·rw [List.filter_cons_of_neg (by simp [h]),find_filter l,List.find?_cons]
   by_cases h2:m=n
   ·simp [h2]
   ·rw [if_neg h2,if_neg h2]
    simp [h,Ne.symm h2]
  ·rw [List.filter_cons_of_pos (by simp [h]),List.find?_cons,List.find?_cons,find_filter l]
   by_cases h2:m=n
   ·rw [if_pos h2,if_pos h2]
    subst h2
    simp [h]
   ·rw [if_neg h2,if_neg h2]
theorem cleaned_ws (c:Ca) (n m:Int):(c.cleaned n).ws m=if m=n then [] else c.ws m:=by
 unfold Ca.ws Ca.cleaned
 dsimp only
 rw [find_filter]
 by_cases h:m=n
 ·rw [if_pos h,if_pos h]
 ·rw [if_neg h,if_neg h]

def Ca.dN (c:Ca):Nat:=(c.P.filter fun x=>x.d).length
theorem cnt_map {α:Type} {p:α→Bool} {f:α→α}:∀(l:List α),(∀x∈l,p (f x)=true→p x=true)→((l.map f).filter p).length≤(l.filter p).length
 | [],_=>by simp
 | x::l,h=>by
  have ih:=cnt_map l (fun y hy=>h y (List.mem_cons_of_mem _ hy))
  rw [List.map_cons]
  by_cases h1:p (f x)=true
  ·rw [List.filter_cons_of_pos h1,List.filter_cons_of_pos (h x List.mem_cons_self h1)]; simp only [List.length_cons]; omega
  ·rw [List.filter_cons_of_neg h1]
   by_cases h2:p x=true
   ·rw [List.filter_cons_of_pos h2]; simp only [List.length_cons]; omega
   ·rw [List.filter_cons_of_neg h2]; exact ih
theorem cnt_map_lt {α:Type} {p:α→Bool} {f:α→α} {x:α}:∀(l:List α),(∀x∈l,p (f x)=true→p x=true)→x∈l→p x=true→p (f x)=false→((l.map f).filter p).length<(l.filter p).length
 | [],_,hx,_,_=>by cases hx
 | y::l,h,hx,h1,h2=>by
  have hl:=fun z hz=>h z (List.mem_cons_of_mem (y) hz)
  have le:=cnt_map l hl
  rw [List.map_cons]
  rcases List.mem_cons.1 hx with rfl|hx
  ·rw [List.filter_cons_of_neg (by simp [h2]),List.filter_cons_of_pos h1]; simp only [List.length_cons]; omega
  ·have ih:=cnt_map_lt l hl hx h1 h2
   by_cases h3:p (f y)=true
   ·rw [List.filter_cons_of_pos h3,List.filter_cons_of_pos (h y List.mem_cons_self h3)]; simp only [List.length_cons]; omega
   ·rw [List.filter_cons_of_neg h3]
    by_cases h4:p y=true
    ·rw [List.filter_cons_of_pos h4]; simp only [List.length_cons]; omega
    ·rw [List.filter_cons_of_neg h4]; exact ih
theorem clean_dN_lt {c:Ca} {n:Int} {g:Pge} (hg:c.get n=some g) (hd:g.d=true):(c.cleaned n).dN+1≤c.dN:=by
 obtain ⟨h1,h2⟩:=get_mem hg
 unfold Ca.dN Ca.cleaned
 refine cnt_map_lt c.P (fun x _ hx => ?_) h1 hd (by unfold Pge.clean; rw [if_pos h2])
 unfold Pge.clean at hx
 split at hx
 ·cases hx
 ·exact hx
theorem flushed_dN (c:Ca):c.flushed.dN=c.dN:=rfl
theorem dirty_get {c:Ca} {n:Int} (h:c.dirty n=true):∃g,c.get n=some g∧g.d=true:=by
 unfold Ca.dirty at h
 cases hg:c.get n with
 | none=>rw [hg] at h; cases h
 | some g=>rw [hg] at h; exact ⟨g,rfl,h⟩
theorem flush_steps (p:Ps):p.flush.1.steps≤p.steps+1:=by unfold Ps.flush; cases p.f<;>simp
theorem write_steps (p:Ps) (k:Nat) (b:List UInt8):(p.write k b).1.steps≤p.steps+1:=by unfold Ps.write; cases p.f<;>simp

structure Less (c c':Ca):Prop where
 ws:∀m q,q∈c'.ws m→q∈c.ws m
 dirty:∀m,c'.dirty m=true→c.dirty m=true
 shape:c'.P.map (fun x=>{ x with d:=false })=c.P.map (fun x=>({ x with d:=false }:Pge))
 bits:c'.bits=c.bits
theorem Less.refl (c:Ca):Less c c:=⟨fun _ _ h=>h,fun _ h=>h,rfl,rfl⟩
theorem Less.trans {a b c:Ca} (h:Less a b) (k:Less b c):Less a c:=⟨fun m q e=>h.ws m q (k.ws m q e),fun m e=>h.dirty m (k.dirty m e),k.shape.trans h.shape,k.bits.trans h.bits⟩
theorem flushed_less (c:Ca):Less c c.flushed:=by
 refine ⟨fun m q h => ?_,fun m h=>h,rfl,rfl⟩
 rw [flushed_ws] at h
 exact (List.mem_filter.1 h).1
theorem cleaned_less (c:Ca) (n:Int):Less c (c.cleaned n):=by
 refine ⟨fun m q h => ?_,fun m h => ?_,?_,rfl⟩
 ·rw [cleaned_ws] at h
  split at h
  ·cases h
  ·exact h
 ·rw [clean_dirty] at h
  split at h
  ·cases h
  ·exact h
 ·show (c.P.map _).map _=_
  rw [List.map_map]
  apply List.map_congr_left
  intro x _
  show ({ (x.clean n) with d:=false }:Pge)=_
  unfold Pge.clean
  split<;>rfl
theorem flushP_less (x:Cx):Less x.1 (flushP x).1.1:=by
 unfold flushP
 split
 ·exact flushed_less _
 ·exact .refl _
theorem writeP_less (x:Cx) (n:Int) (D:List UInt8):Less x.1 (writeP x n D).1.1:=by
 unfold writeP
 split
 ·exact cleaned_less _ _
 ·exact .refl _
theorem Mic.less {x y:Cx} (m:Mic x y):Less x.1 y.1:=by
 cases m with
 | flush=>exact flushP_less _
 | write=>exact writeP_less _ _ _
theorem Mics.less {x y:Cx} (m:Mics x y):Less x.1 y.1:=by
 induction m with
 | refl=>exact .refl _
 | tail _ m ih=>exact ih.trans m.less

def Ranks (rk:Int→Nat) (c:Ca):Prop:=∀m q,q∈c.ws m→rk q<rk m
theorem Ranks.less {rk:Int→Nat} {c c':Ca} (h:Ranks rk c) (l:Less c c'):Ranks rk c':=fun m q e=>h m q (l.ws m q e)
structure Ran (rk:Int→Nat) (k:Nat) (x:Cx) (r:Cx×Int):Prop where
 mics:Mics x r.1
 keep:∀m,k≤rk m→r.1.1.dirty m=x.1.dirty m
 st0:r.2=0→r.1.2.steps+2*r.1.1.dN≤x.2.steps+2*x.1.dN
 st2:r.1.2.steps+2*r.1.1.dN≤x.2.steps+2*x.1.dN+2
theorem Ran.refl {rk:Int→Nat} {k:Nat} (x:Cx) (e:Int):Ran rk k x (x,e):=⟨.refl _,fun _ _=>rfl,fun _=>Nat.le_refl _,Nat.le_add_right _ _⟩
theorem run_spec {rk:Int→Nat} {k:Nat} {g:Int→Cx→Cx×Int} (hg:∀q x,rk q<k→Ranks rk x.1→Ran rk (rk q+1) x (g q x)∧((g q x).2=0→(g q x).1.1.dirty q=false)) :
 ∀(l:List Int) (x:Cx),(∀q∈l,rk q<k)→Ranks rk x.1→Ran rk k x (runL g l x)∧((runL g l x).2=0→∀q∈l,(runL g l x).1.1.dirty q=false)
 | [],x,_,_=>⟨.refl x 0,fun _ q hq=>by cases hq⟩
 | q::l,x,hl,hr=>by
  have hq:=hl q List.mem_cons_self
  obtain ⟨a,b⟩:=hg q x hq hr
  unfold runL
  by_cases h0:(g q x).2=0
  ·rw [if_pos h0]
   obtain ⟨c,d⟩:=run_spec hg l (g q x).1 (fun q hq=>hl q (List.mem_cons_of_mem _ hq)) (hr.less a.mics.less)
   refine ⟨⟨a.mics.trans c.mics,fun m hm=>(c.keep m hm).trans (a.keep m omg),fun h=>Nat.le_trans (c.st0 h) (a.st0 h0),Nat.le_trans c.st2 (by have:=a.st0 h0; omega)⟩,fun h q' hq' => ?_⟩
   rcases List.mem_cons.1 hq' with rfl|hq'
   ·have:=c.mics.less.dirty q'
    cases hd:(runL g l (g q' x).1).1.1.dirty q' with
    | false=>rfl
    | true=>rw [b h0] at this; exact absurd (this hd) dM
   ·exact d h q' hq'
  ·rw [if_neg h0]
   exact ⟨⟨a.mics,fun m hm=>a.keep m omg,a.st0,a.st2⟩,fun h=>absurd h h0⟩
theorem flushP_steps (x:Cx):(flushP x).1.2.steps+2*(flushP x).1.1.dN≤x.2.steps+2*x.1.dN+1:=by
 have:=flush_steps x.2
 unfold flushP
 split
 ·show x.2.flush.1.steps+2*x.1.flushed.dN≤_
  rw [flushed_dN]; omega
 ·show x.2.flush.1.steps+2*x.1.dN≤_
  omega
theorem flushP_dirty (x:Cx) (m:Int):(flushP x).1.1.dirty m=x.1.dirty m:=by unfold flushP; split<;>rfl
theorem flushP_ok {x:Cx} (h:(flushP x).2=0):(flushP x).1.1=x.1.flushed:=by
 unfold flushP at h ⊢
 split
 ·rfl
 ·rename_i h1; rw [if_neg h1] at h; exact absurd h h1
theorem writeP_steps {x:Cx} {n:Int} {D:List UInt8}:(writeP x n D).1.2.steps≤x.2.steps+1:=by
 have:=write_steps x.2 (x.1.place n) D
 unfold writeP
 split<;>exact this
theorem writeP_ok {x:Cx} {n:Int} {D:List UInt8} (h:(writeP x n D).2=0):(writeP x n D).1.1=x.1.cleaned n:=by
 unfold writeP at h ⊢
 split
 ·rfl
 ·rename_i h1; rw [if_neg h1] at h; exact absurd h h1
theorem writeP_bad {x:Cx} {n:Int} {D:List UInt8} (h:(writeP x n D).2≠0):(writeP x n D).1.1=x.1:=by
 unfold writeP at h ⊢
 split
 ·rename_i h1; rw [if_pos h1] at h; exact absurd rfl h
 ·rfl
theorem backW_spec {rk:Int→Nat} {n:Int} {x:Cx} {r:Cx×Int} (hd:x.1.dirty n=true) (hr:Ranks rk x.1) (a:Ran rk (rk n) x r) (b:r.2=0→∀q∈x.1.beh n,r.1.1.dirty q=false) :
 Ran rk (rk n+1) x (backW n (backF n r))∧((backW n (backF n r)).2=0→(backW n (backF n r)).1.1.dirty n=false):=by
 by_cases h0:r.2=0
 ·have hdr:r.1.1.dirty n=true:=(a.keep n (Nat.le_refl _)).trans hd
  have hb0:=b h0
  have hs0:=a.st0 h0
  -- behind the flush
  have key:∀r2:Cx×Int,backF n r=r2→Mics x r2.1∧(∀m,r2.1.1.dirty m=r.1.1.dirty m)∧r2.1.2.steps+2*r2.1.1.dN≤x.2.steps+2*x.1.dN+1∧(r2.2=0→r2.1.1.beh n=[]):=by
   rintro r2 rfl
   unfold backF
   rw [if_pos h0]
   by_cases h1:r.1.1.beh n=[]
   ·rw [if_pos h1]
    exact ⟨a.mics,fun _=>rfl,by omega,fun _=>h1⟩
   ·rw [if_neg h1]
    refine ⟨a.mics.tail (.flush _),flushP_dirty _,by have:=flushP_steps r.1; omega,fun h => ?_⟩
    rw [flushP_ok h]
    have hn:∀q,q∉r.1.1.flushed.beh n:=fun q hq=>by
     rw [beh_mem] at hq
     obtain ⟨h2,h3⟩:=hq
     rw [flushed_ws] at h2
     obtain ⟨h4,h5⟩:=List.mem_filter.1 h2
     have h5':r.1.1.dirty q=true:=h5
     have h6:=a.mics.less.dirty q h5'
     have h7:=a.mics.less.ws n q h4
     have:=hb0 q (beh_mem.2 ⟨h7,by unfold Ca.opn; rw [h6]; rfl⟩)
     rw [this] at h5'; cases h5'
    exact List.eq_nil_iff_forall_not_mem.2 hn
  obtain ⟨k1,k2,k3,k4⟩:=key _ rfl
  generalize backF n r=r2 at k1 k2 k3 k4 ⊢
  unfold backW
  by_cases h2:r2.2=0
  ·rw [if_pos h2]
   obtain ⟨g,hg,hgd⟩:=dirty_get ((k2 n).trans hdr)
   rw [hg]
   dsimp only
   have mic:Mic r2.1 (writeP r2.1 n g.D).1 := .write _ n g hg hgd (k4 h2)
   have hst:=writeP_steps (x:=r2.1) (n:=n) (D:=g.D)
   by_cases h3:(writeP r2.1 n g.D).2=0
   ·have hok:=writeP_ok h3
    have hlt:=clean_dN_lt hg hgd
    rw [hok]
    refine ⟨⟨k1.tail mic,fun m hm => ?_,fun _ => ?_,?_⟩,fun _ => ?_⟩
    ·rw [hok,clean_dirty,if_neg (by rintro rfl; omega),k2 m]
     exact a.keep m omg
    ·rw [hok]; omega
    ·rw [hok]; omega
    ·rw [clean_dirty,if_pos rfl]
   ·have hbad:=writeP_bad h3
    refine ⟨⟨k1.tail mic,fun m hm => ?_,fun h=>absurd h h3,?_⟩,fun h=>absurd h h3⟩
    ·rw [hbad,k2 m]; exact a.keep m omg
    ·rw [hbad]; omega
  ·rw [if_neg h2]
   refine ⟨⟨k1,fun m hm=>(k2 m).trans (a.keep m omg),fun h=>absurd h h2,by omega⟩,fun h=>absurd h h2⟩
 ·unfold backW backF
  rw [if_neg h0,if_neg h0]
  exact ⟨⟨a.mics,fun m hm=>a.keep m omg,a.st0,a.st2⟩,fun h=>absurd h h0⟩
theorem back_spec {rk:Int→Nat}:∀(f:Nat) (n:Int) (x:Cx),rk n<f→Ranks rk x.1→Ran rk (rk n+1) x (backP f n x)∧((backP f n x).2=0→(backP f n x).1.1.dirty n=false)
 | 0,n,x,h,_=>absurd h omg
 | f+1,n,x,hf,hr=>by
  unfold backP
  by_cases hd:x.1.dirty n=true
  ·rw [if_pos hd]
   have hl:∀q∈x.1.beh n,rk q<rk n:=fun q hq=>hr n q (beh_mem.1 hq).1
   obtain ⟨a,b⟩:=run_spec (k:=rk n) (g:=backP f) (fun q y hq hy=>back_spec f q y omg hy) (x.1.beh n) x hl hr
   exact backW_spec hd hr a b
  ·rw [if_neg hd]
   exact ⟨.refl x 0,fun _=>by simpa using hd⟩
end Go.Proofs.YtcbbdnaelimpfaaGreat
set_option linter.unusedSimpArgs false
set_option linter.unusedVariables false
namespace Go.Proofs.YtcbbdnaelimpfaaGreat
open Go.Vc
variable {K:VP} {h:Heap}

structure CAt (h:Heap) (o:Nat) (c:Ca) (s:St):Prop where
 co:CoAt h o c
 st:StAt h c.sp s
 ap:∀b,c.foot o b→¬s.foot c.sp b
 np:∀y∈s.F,∀q∈y.qs,∀b,blkV q.2=some b→¬c.foot o b
 bk:c.backs≤s.steps
 fl:c.flushes≤s.steps
def Ft (o:Nat) (c:Ca) (s:St) (b:Nat):Prop:=c.foot o b∨s.foot c.sp b
theorem CAt.lt {o b:Nat} {c:Ca} {s:St} (a:CAt h o c s) (hb:Ft o c s b):b<h.size:=hb.elim a.co.lt a.st.lt
theorem CAt.mod {S:Nat→Prop} {h':Heap} {o:Nat} {c:Ca} {s:St} (a:CAt h o c s) (m:Mod S h h') (h1:∀b,Ft o c s b→¬S b) (h2:∀y∈s.F,∀q∈y.qs,∀b,blkV q.2=some b→¬S b):CAt h' o c s :=
 ⟨a.co.mod m (fun b hb=>h1 b (.inl hb)),a.st.mod m (fun b hb=>h1 b (.inr hb)) h2,a.ap,a.np,a.bk,a.fl⟩
theorem CAt.ext {h':Heap} {o:Nat} {c:Ca} {s:St} (a:CAt h o c s) (e:Ext h h'):CAt h' o c s:=a.mod (S:=fun _=>False) (.of_ext e) (fun _ _ x=>x) (fun _ _ _ _ _ _ x=>x)
structure CUpd (h h':Heap) (o:Nat) (c:Ca) (s:St) (c':Ca) (s':St):Prop where
 at_:CAt h' o c' s'
 mod:Mod (Ft o c s) h h'
 foot:∀b,Ft o c' s' b→Ft o c s b∨h.size≤b
 pcs:∀y∈s'.F,∀q∈y.qs,∀b,blkV q.2=some b→(∃y∈s.F,∃q∈y.qs,blkV q.2=some b)∨h.size≤b
theorem CUpd.refl {o:Nat} {c:Ca} {s:St} (a:CAt h o c s):CUpd h h o c s c s:=⟨a,.refl _ _,fun _ h => .inl h,fun y hy q hq b e => .inl ⟨y,hy,q,hq,e⟩⟩
theorem CUpd.trans {h1 h2:Heap} {o:Nat} {c c1 c2:Ca} {s s1 s2:St} (u:CUpd h h1 o c s c1 s1) (v:CUpd h1 h2 o c1 s1 c2 s2):CUpd h h2 o c s c2 s2:=by
 have hs:=u.mod.size
 refine ⟨v.at_,u.mod.trans v.mod (fun b hb hy=>(u.foot b hy).resolve_right omg),fun b hb => ?_,fun y hy q hq b e=>(v.pcs y hy q hq b e).elim (fun ⟨y1,hy1,q1,hq1,e1⟩=>u.pcs y1 hy1 q1 hq1 b e1) (fun e => .inr omg)⟩
 rcases v.foot b hb with h3|h3
 ·exact u.foot b h3
 ·exact .inr omg
theorem CUpd.ext {h1 h2:Heap} {o:Nat} {c c1:Ca} {s s1:St} (u:CUpd h h1 o c s c1 s1) (e:Ext h1 h2):CUpd h h2 o c s c1 s1:=⟨u.at_.ext e,u.mod.extIn e,u.foot,u.pcs⟩
theorem CUpd.from_ {h0 h1:Heap} {o:Nat} {c c1:Ca} {s s1:St} (e:Ext h0 h) (u:CUpd h h1 o c s c1 s1):CUpd h0 h1 o c s c1 s1:=by
 have hs:=e.size
 exact ⟨u.at_,((Mod.of_ext e).trans u.mod (fun _ _ h=>h)),fun b hb=>(u.foot b hb).imp id (fun h=>by omega),fun y hy q hq b e=>(u.pcs y hy q hq b e).imp id (fun h=>by omega)⟩
theorem CAt.store {o:Nat} {c:Ca} {s s':St} {h':Heap} (a:CAt h o c s) (u:SUpd h h' c.sp s s') (hp:∀y∈s'.F,∀q∈y.qs,∀b,blkV q.2=some b→(∃y∈s.F,∃q∈y.qs,blkV q.2=some b)∨h.size≤b) (hs:s.steps≤s'.steps):CUpd h h' o c s c s' :=
 ⟨⟨a.co.mod u.mod a.ap,u.st,fun b hb hb'=>(u.foot b hb').elim (a.ap b hb) (fun e=>by have:=a.co.lt hb; omega),
  fun y hy q hq b hb e=>(hp y hy q hq b hb).elim (fun ⟨y0,h1,q0,h2,h3⟩=>a.np y0 h1 q0 h2 b h3 e) (fun e2=>by have:=a.co.lt e; omega),Nat.le_trans a.bk hs,Nat.le_trans a.fl hs⟩,
  u.mod.mono (fun b _ e => .inr e),fun b hb=>hb.elim (fun e => .inl (.inl e)) (fun e=>(u.foot b e).imp .inr id),hp⟩
theorem CAt.core {o:Nat} {c c':Ca} {s:St} {h':Heap} (a:CAt h o c s) (co:CoAt h' o c') (m:Mod (c.foot o) h h') (hsp:c'.sp=c.sp) (hf:∀b,c'.foot o b→c.foot o b∨h.size≤b) (h1:c'.backs≤s.steps) (h2:c'.flushes≤s.steps):CUpd h h' o c s c' s:=by
 refine ⟨⟨co,?_,fun b hb => ?_,fun y hy q hq b hb e => ?_,h1,h2⟩,m.mono (fun b _ e => .inl e),fun b hb => ?_,fun y hy q hq b e => .inl ⟨y,hy,q,hq,e⟩⟩
 ·rw [hsp]
  exact a.st.mod m (fun b hb e=>a.ap b e hb) a.np
 ·rw [hsp]
  exact (hf b hb).elim (a.ap b) (fun e e2=>by have:=a.st.lt e2; omega)
 ·rcases hf b e with e|e
  ·exact a.np y hy q hq b hb e
  ·have:=(a.st.fl y hy).plt hq hb; omega
 ·rcases hb with hb|hb
  ·exact (hf b hb).imp .inl id
  ·rw [hsp] at hb; exact .inl (.inr hb)

theorem CoAt.cnt {o:Nat} {c:Ca} {h':Heap} {k a b d e:Nat} (A:CoAt h o c) (hc:h'[o]? = some (.cells { c with clock:=k,hits:=a,loads:=b,backs:=d,flushes:=e }.cells cT)) (m:Mod (· = o) h h') (ok:Ca.ok { c with clock:=k,hits:=a,loads:=b,backs:=d,flushes:=e }):CoAt h' o { c with clock:=k,hits:=a,loads:=b,backs:=d,flushes:=e } :=
 ⟨hc,A.kept.mod m (A.oM A.kept).1.symm,fun x hx=>(m.block _ (get_some_lt (A.pg x hx)) (get_ne (A.pg x hx) A.cells cT_ne.1.symm)).trans (A.pg x hx),A.pend.mod m (A.oM A.pend).1.symm,A.wait.mod m (A.oM A.wait).1.symm,fun w hw=>(A.sets w hw).mod m (A.oM (A.sets w hw)).1.symm,
  fun x hx=>(A.by_ x hx).mod m (fun b hb=>(A.by_ x hx).ne hb A.cells cT_ne.2.1.symm),ok⟩
theorem CoAt.pendU {o:Nat} {c:Ca} {h':Heap} {l:List Int} (A:CoAt h o c) (hm:MapK ik h' c.pm (l.map fun n=>(n,.bool true))) (m:Mod (· = c.pm) h h'):CoAt h' o { c with pend:=l }:=by
 obtain ⟨o1,o2,o3⟩:=A.oM A.pend
 exact ⟨(m.block _ (get_some_lt A.cells) o1).trans A.cells,A.kept.mod m A.ok.m1,fun x hx=>(m.block _ (get_some_lt (A.pg x hx)) (o2 x hx)).trans (A.pg x hx),hm,A.wait.mod m A.ok.m3.symm,fun w hw=>(A.sets w hw).mod m (A.ok.m4 w hw).2.1,
  fun x hx=>(A.by_ x hx).mod m (fun b hb=>by rw [CoAt.blk_ A.ok hx] at hb; cases hb; exact o3 x hx),{ A.ok with }⟩
theorem CoAt.pageU {o:Nat} {c:Ca} {h':Heap} {x:Pge} {f:Pge→Pge} (A:CoAt h o c) (hx:x∈c.P) (hf:∀y∈c.P,y.n≠x.n→f y=y) (hb:∀y∈c.P,(f y).n=y.n∧(f y).pb=y.pb∧(f y).bb=y.bb) (hc:h'[x.pb]? = some (.cells (f x).cells pgT))
 (hby:OwnG bT 1 h' (f x).sl ((f x).D.map byteV)) (m:Mod (fun b=>b=x.pb∨b=x.bb) h h') (ok:Ca.ok { c with P:=c.P.map f }):CoAt h' o { c with P:=c.P.map f }:=by
 have px:=A.pg x hx
 obtain ⟨arr,bx⟩:=A.bby hx
 have hk:(c.P.map f).map (fun x=>(x.n,ptrV x.pb))=c.P.map (fun x=>(x.n,ptrV x.pb)):=by
  rw [List.map_map]
  apply List.map_congr_left
  intro y hy
  obtain ⟨h1,h2,_⟩:=hb y hy
  simp [h1,h2]
 have hnn:(c.P.map (·.n)).Nodup:=by
  have:=A.kept.nodup
  unfold Ca.keptL at this
  rw [List.map_map] at this
  exact this
 have nm:∀{mm:Nat} {l:List (Int×Value)},MapK ik h mm l→¬(mm=x.pb∨mm=x.bb):=fun hm e=>by
  obtain ⟨o1,o2,o3⟩:=A.oM hm
  exact e.elim (fun e=>o2 x hx e.symm) (fun e=>o3 x hx e.symm)
 have hy:∀y∈c.P,y.n≠x.n→y.pb≠x.pb∧y.bb≠x.bb∧y.pb≠x.bb∧y.bb≠x.pb:=fun y hy hne=>by
  refine ⟨fun e=>hne (by rw [nodup_in A.ok.pbs hy hx e]),fun e=>hne (by rw [nodup_in A.ok.bbs hy hx e]),get_ne (A.pg y hy) bx cT_ne.2.2.1,?_⟩
  obtain ⟨ay,by_⟩:=A.bby hy
  exact get_ne by_ px cT_ne.2.2.1.symm
 refine ⟨(m.block _ (get_some_lt A.cells) (fun e=>e.elim (get_ne A.cells px cT_ne.1) (get_ne A.cells bx cT_ne.2.1))).trans A.cells,?_,fun z hz => ?_,A.pend.mod m (nm A.pend),A.wait.mod m (nm A.wait),fun w hw=>(A.sets w hw).mod m (nm (A.sets w hw)),fun z hz => ?_,ok⟩
 ·show MapK ik h' c.km (List.map _ _)
  rw [hk]
  exact A.kept.mod m (nm A.kept)
 ·obtain ⟨y,hy1,rfl⟩:=List.mem_map.1 hz
  by_cases e:y.n=x.n
  ·have:=nodup_in hnn hy1 hx e
   rw [this,(hb x hx).2.1]; exact hc
  ·rw [hf y hy1 e]
   obtain ⟨h1,h2,h3,h4⟩:=hy y hy1 e
   exact (m.block _ (get_some_lt (A.pg y hy1)) (fun e=>e.elim h1 h3)).trans (A.pg y hy1)
 ·obtain ⟨y,hy1,rfl⟩:=List.mem_map.1 hz
  by_cases e:y.n=x.n
  ·have:=nodup_in hnn hy1 hx e
   rw [this]; exact hby
  ·rw [hf y hy1 e]
   obtain ⟨h1,h2,h3,h4⟩:=hy y hy1 e
   exact (A.by_ y hy1).mod m (fun b hb e=>by rw [CoAt.blk_ A.ok hy1] at hb; cases hb; exact e.elim h4 h2)
theorem CoAt.waitU {o:Nat} {c:Ca} {h':Heap} {p:Wt→Bool} (A:CoAt h o c) (hm:MapK ik h' c.wm ((c.W.filter p).map fun w=>(w.n,.map (some w.b)))) (m:Mod (· = c.wm) h h'):CoAt h' o { c with W:=c.W.filter p }:=by
 obtain ⟨o1,o2,o3⟩:=A.oM A.wait
 have hs:∀w∈c.W.filter p,w∈c.W:=fun w hw=>(List.mem_filter.1 hw).1
 refine ⟨(m.block _ (get_some_lt A.cells) o1).trans A.cells,A.kept.mod m A.ok.m2,fun x hx=>(m.block _ (get_some_lt (A.pg x hx)) (o2 x hx)).trans (A.pg x hx),A.pend.mod m A.ok.m3,hm,fun w hw=>(A.sets w (hs w hw)).mod m (A.ok.m4 w (hs w hw)).2.2,
  fun x hx=>(A.by_ x hx).mod m (fun b hb=>by rw [CoAt.blk_ A.ok hx] at hb; cases hb; exact o3 x hx),{ A.ok with wfew:=Nat.lt_of_le_of_lt (List.length_filter_le _ _) A.ok.wfew,qfew:=fun w hw=>A.ok.qfew w (hs w hw),m4:=fun w hw=>A.ok.m4 w (hs w hw),m5 := ?_ }⟩
 exact A.ok.m5.sublist (List.filter_sublist.map _)
def PsAt (s:St) (p:Ps):Prop:=s.fates=p.fates∧s.steps=p.steps∧match p.f with|none=>s.F=[]|some f=>∃x,s.F=[x]∧x.f=f∧x.name=fN
theorem PsAt.get {s:St} {p:Ps} (a:PsAt s p):(s.get fN).map (·.f)=p.f:=by
 obtain ⟨-,-,h3⟩:=a
 cases hf:p.f with
 | none=>rw [hf] at h3; unfold St.get; rw [h3]; rfl
 | some f =>
  rw [hf] at h3
  obtain ⟨x,h1,h2,h4⟩:=h3
  unfold St.get
  rw [h1,List.find?_cons]
  simp [h4,h2]
theorem PsAt.none_ {s:St} {p:Ps} (a:PsAt s p) (h:p.f=none):s.get fN=none:=by
 have:=a.get; rw [h] at this
 cases hg:s.get fN with
 | none=>rfl
 | some x=>rw [hg] at this; cases this
theorem PsAt.some_ {s:St} {p:Ps} {f:Fl} (a:PsAt s p) (h:p.f=some f):∃x,s.F=[x]∧x.f=f∧x.name=fN∧s.get fN=some x:=by
 obtain ⟨-,-,h3⟩:=a
 rw [h] at h3
 obtain ⟨x,h1,h2,h4⟩:=h3
 refine ⟨x,h1,h2,h4,?_⟩
 unfold St.get
 rw [h1,List.find?_cons]; simp [h4]
theorem one_split {α:Type} {x y:α} {A B:List α} (h:[x]=A++y::B):A=[]∧B=[]∧y=x:=by
 cases A with
 | nil=>simp at h; exact ⟨rfl,h.2,h.1.symm⟩
 | cons a A=>simp at h

def isOk (e:Int):Bool:=decide (e=0)
set_option maxHeartbeats 2000000 in
theorem flush_c {o:Nat} {c:Ca} {s:St} {p:Ps} (a:CAt h o c s) (ps:PsAt s p) (hs:s.steps+1<1000000)
 (H:∀h' s',CUpd h h' o c s (flushP (c,p)).1.1 s'→PsAt s' (flushP (c,p)).1.2→K (.int .i64 (flushP (c,p)).2) h'):CallsH Tryz.prog 47 #[ptrV o] h K ⟨⟩:=by
 refine n47_calls ?_
 unfold n47; try delta vF vG vC vD vJ vV vk vt
 have c0:=ce0 a.co.cells
 have c1:=ce1 a.co.cells
 unfold ptrV
 simp (disch:=omega) [c0,c1]
 rw [show (.pointer (some ⟨c.sp,0,none⟩):Value)=ptrV c.sp from rfl]
 unfold flushP Ps.flush at H
 refine Flush_c2 a.st dM hs (fun h1 e1 hne => ?_) (fun h1 A B x x' fv hF hn hn' hf hpc u => ?_)
 ·have hpn:p.f=none:=by
   cases hf:p.f with
   | none=>rfl
   | some f =>
    obtain ⟨x,-,-,-,hg⟩:=ps.some_ hf
    unfold fErr at hne
    rw [if_pos okN_f,hg] at hne
    exact absurd rfl hne
  have hv:fErr s fN=7:=by unfold fErr; rw [if_pos okN_f,ps.none_ hpn]
  rw [hpn] at H
  dsimp only at H
  rw [if_neg dM] at H
  rw [hv]
  refine JoinN.mk ?_
  simp (disch:=omega)
  exact H h1 s ((CUpd.refl a).ext e1) ps
 ·obtain ⟨f,hpf⟩:∃f,p.f=some f:=by
   cases hf:p.f with
   | none=>have:=ps.2.2; rw [hf] at this; rw [this] at hF; simp at hF
   | some f=>exact ⟨f,rfl⟩
  obtain ⟨y,hy1,hy2,hy3,hy4⟩:=ps.some_ hpf
  rw [hy1] at hF
  obtain ⟨rfl,rfl,rfl⟩:=one_split hF
  rw [hpf] at H
  dsimp only at H
  rw [←ps.1] at H
  have u1:CUpd h h1 o c s c { s.stepped fv with F:=[x'] }:=by
   refine a.store u (fun y hy q hq b hb => ?_) (Nat.le_succ _)
   have hy':y=x':=by simpa using hy
   rw [hy'] at hq
   rcases hpc q hq b hb with ⟨q0,h2,h3⟩|h2
   ·exact .inl ⟨x,by rw [hy1]; simp,q0,h2,h3⟩
   ·exact .inr h2
  have ps1:PsAt { s.stepped fv with F:=[x'] } ⟨some (f.flush (wentN (fateE s.fates) (fateK s.fates) f.ps.length)),s.fates.tail,p.steps+1⟩:=by
   refine ⟨rfl,by show s.steps+1=p.steps+1; rw [ps.2.1],x',rfl,?_,hn'.trans hy3⟩
   rw [hf,hy2]
  refine JoinN.mk ?_
  by_cases h0:fateE s.fates=0
  ·rw [if_pos h0] at H
   rw [h0] at *
   have d11:=ce11 u1.at_.co.cells
   have f11:=ceF u1.at_.co.cells 11
   have d5:=ce5 u1.at_.co.cells
   have hfl:=a.fl
   have hst:=a.st.stp
   simp (disch:=omega) [d11,f11,d5]
   have hcast:((c.flushes:Int)+1)=((c.flushes+1:Nat):Int):=by omega
   rw [hcast]
   refine (⟨_,rfl⟩:∃g,g=hset h1 ⟨o,11,none⟩ (.int .i64 ((c.flushes+1:Nat):Int))).elim fun h2 eh2 => ?_
   rw [←eh2]
   have m2:Mod (· = o) h1 h2:=by rw [eh2]; exact Mod.set h1 ⟨o,11,none⟩ _
   have k2:CoAt h2 o { c with clock:=c.clock,hits:=c.hits,loads:=c.loads,backs:=c.backs,flushes:=c.flushes+1 }:=by
    refine u1.at_.co.cnt ?_ m2 { u1.at_.co.ok with }
    rw [eh2]; exact obj_set u1.at_.co.cells
   clear eh2
   refine Hp_clearM kR k2.pend fun h3 mp3 m3 => ?_
   have k3:=k2.pendU (l:=[]) mp3 m3
   rw [show (.pointer (some ⟨o,0,none⟩):Value)=ptrV o from rfl]
   refine settle_c k3 fun h4 k4 m4 => ?_
   have hco:CUpd h1 h4 o c { s.stepped fv with F:=[x'] } c.flushed { s.stepped fv with F:=[x'] }:=by
    refine u1.at_.core k4 ?_ rfl (fun b hb => .inl ?_) (Nat.le_trans a.bk (Nat.le_succ _)) ?_
    ·refine ((m2.mono (fun b _ e => .inl e)).trans m3 (fun b _ e => .inr (.inr (.inl e)))).trans m4 (fun b _ e => ?_)
     obtain ⟨w,hw,e⟩:=e
     exact .inr (.inr (.inr (.inr (.inl ⟨w,hw,e⟩))))
    ·rcases hb with e|e|e|e|⟨w,hw,e⟩|e|e
     ·exact .inl e
     ·exact .inr (.inl e)
     ·exact .inr (.inr (.inl e))
     ·exact .inr (.inr (.inr (.inl e)))
     ·obtain ⟨w0,hw0,rfl⟩:=List.mem_map.1 hw
      exact .inr (.inr (.inr (.inr (.inl ⟨w0,hw0,e⟩))))
     ·exact .inr (.inr (.inr (.inr (.inr (.inl e)))))
     ·exact .inr (.inr (.inr (.inr (.inr (.inr e)))))
    ·show c.flushes+1≤s.steps+1
     omega
   exact H h4 _ (u1.trans hco) ps1
  ·rw [if_neg h0] at H
   simp (disch:=omega) [h0]
   exact H h1 _ u1 ps1
end Go.Proofs.YtcbbdnaelimpfaaGreat
set_option linter.unusedSimpArgs false
set_option linter.unusedVariables false
namespace Go.Proofs.YtcbbdnaelimpfaaGreat
open Go.Vc
variable {K:VP} {h:Heap}

theorem Less.get {c c':Ca} (l:Less c c') {n:Int} {x:Pge} (hg:c.get n=some x):∃x',c'.get n=some x'∧({ x' with d:=false }:Pge)={ x with d:=false }:=by
 have key:∀A B:List Pge,B.map (fun x=>({ x with d:=false }:Pge))=A.map (fun x=>({ x with d:=false }:Pge))→A.find? (fun x=>decide (x.n=n))=some x→∃x',B.find? (fun x=>decide (x.n=n))=some x'∧({ x' with d:=false }:Pge)={ x with d:=false }:=by
  intro A
  induction A with
  | nil=>intro B _ h; simp at h
  | cons a A ih =>
   intro B hB hA
   cases B with
   | nil=>simp at hB
   | cons b B =>
    simp only [List.map_cons,List.cons.injEq] at hB
    have hn:b.n=a.n:=by
     have:=congrArg Pge.n hB.1
     exact this
    rw [List.find?_cons] at hA
    by_cases e:a.n=n
    ·simp only [e,decide_true] at hA
     have:a=x:=by simpa using hA
     subst this
     exact ⟨b,by rw [List.find?_cons]; simp [hn,e],hB.1⟩
    ·simp only [e,decide_false] at hA
     obtain ⟨x',h1,h2⟩:=ih B hB.2 hA
     exact ⟨x',by rw [List.find?_cons]; simp only [hn,e,decide_false]; exact h1,h2⟩
 exact key c.P c'.P l.shape hg
theorem upd_true {n:Int}:∀l:List Int,upd n (Value.bool true) (l.map fun n=>(n,Value.bool true))=(if n∈l then l else l++[n]).map fun n=>(n,Value.bool true)
 | []=>rfl
 | a::l=>by
  rw [List.map_cons]
  unfold upd
  by_cases e:n=a
  ·subst e; simp
  ·rw [if_neg e,upd_true l]
   by_cases h:n∈l
   ·rw [if_pos h,if_pos (List.mem_cons_of_mem _ h)]; rfl
   ·rw [if_neg h,if_neg (by simp [e,h])]; rfl
theorem del_key {α:Type} {k:α→Int} {v:α→Value} {n:Int}:∀l:List α,(l.map k).Nodup→del n (l.map fun w=>(k w,v w))=(l.filter fun w => !decide (k w=n)).map fun w=>(k w,v w)
 | [],_=>rfl
 | a::l,hn=>by
  simp only [List.map_cons,List.nodup_cons] at hn
  rw [List.map_cons]
  unfold del
  by_cases e:n=k a
  ·rw [if_pos e,List.filter_cons_of_neg (by simp [e])]
   have:l.filter (fun w => !decide (k w=n))=l:=by
    rw [List.filter_eq_self]
    intro w hw
    have:k w≠n:=fun e2=>hn.1 (by rw [←e,←e2]; exact List.mem_map_of_mem hw)
    simpa using this
   rw [this]
  ·rw [if_neg e,List.filter_cons_of_pos (by simpa using fun e2=>e e2.symm),List.map_cons,del_key l hn.2]
theorem ok_pages {c:Ca} {f:Pge→Pge} (a:c.ok) (hf:∀y∈c.P,(f y).n=y.n∧(f y).pb=y.pb∧(f y).bb=y.bb∧(f y).u=y.u∧(f y).D.length=y.D.length):Ca.ok { c with P:=c.P.map f }:=by
 have mapEq:∀{β:Type} (g:Pge→β),(∀y∈c.P,g (f y)=g y)→(c.P.map f).map g=c.P.map g:=fun g hg=>by
  rw [List.map_map]
  exact List.map_congr_left hg
 have mem:∀x∈c.P.map f,∃y∈c.P,f y=x:=fun x hx=>List.mem_map.1 hx
 refine { a with few := ?_,len:=fun x hx => ?_,num:=fun x hx => ?_,pbs := ?_,bbs := ?_ }
 ·show (c.P.map f).length≤_
  rw [List.length_map]; exact a.few
 ·obtain ⟨y,hy,rfl⟩:=mem x hx
  rw [(hf y hy).2.2.2.2]; exact a.len y hy
 ·obtain ⟨y,hy,rfl⟩:=mem x hx
  rw [(hf y hy).1]; exact a.num y hy
 ·show ((c.P.map f).map (·.pb)).Nodup
  rw [mapEq _ (fun y hy=>(hf y hy).2.1)]; exact a.pbs
 ·show ((c.P.map f).map (·.bb)).Nodup
  rw [mapEq _ (fun y hy=>(hf y hy).2.2.1)]; exact a.bbs
theorem clean_same (n:Int) (y:Pge):(y.clean n).n=y.n∧(y.clean n).pb=y.pb∧(y.clean n).bb=y.bb∧(y.clean n).u=y.u∧(y.clean n).D.length=y.D.length:=by
 unfold Pge.clean; split<;>exact ⟨rfl,rfl,rfl,rfl,rfl⟩
theorem pow_split {b:Nat} (hb:b≤16) {n:Int} (h:n*((2^b:Nat):Int)<268435456):n*((2^b:Nat):Int)+((2^b:Nat):Int)≤268435456:=by
 have e:((2^(28-b):Nat):Int)*((2^b:Nat):Int)=268435456:=by rw [←Int.natCast_mul,←Nat.pow_add,show 28-b+b=28 by omega]; rfl
 have hW:(0:Int)<((2^b:Nat):Int):=by have:=(shrP hb).1; omega
 rw [←e] at h ⊢
 have h1:n<((2^(28-b):Nat):Int):=Int.lt_of_mul_lt_mul_right h (Int.le_of_lt hW)
 have h2:n+1≤((2^(28-b):Nat):Int):=h1
 have h3:=Int.mul_le_mul_of_nonneg_right h2 (Int.le_of_lt hW)
 rw [Int.add_mul,Int.one_mul] at h3
 exact h3
theorem foot_clean {o:Nat} {c:Ca} {n:Int} {b:Nat} (hb:(c.cleaned n).foot o b):c.foot o b:=by
 rcases hb with e|e|e|e|⟨w,hw,e⟩|⟨x,hx,e⟩|⟨x,hx,e⟩
 ·exact .inl e
 ·exact .inr (.inl e)
 ·exact .inr (.inr (.inl e))
 ·exact .inr (.inr (.inr (.inl e)))
 ·exact .inr (.inr (.inr (.inr (.inl ⟨w,(List.mem_filter.1 hw).1,e⟩))))
 ·obtain ⟨y,hy,rfl⟩:=List.mem_map.1 hx
  exact .inr (.inr (.inr (.inr (.inr (.inl ⟨y,hy,e.trans (clean_same n y).2.1⟩)))))
 ·obtain ⟨y,hy,rfl⟩:=List.mem_map.1 hx
  exact .inr (.inr (.inr (.inr (.inr (.inr ⟨y,hy,e.trans (clean_same n y).2.2.1⟩)))))
end Go.Proofs.YtcbbdnaelimpfaaGreat
set_option linter.unusedSimpArgs false
set_option linter.unusedVariables false
namespace Go.Proofs.YtcbbdnaelimpfaaGreat
open Go.Vc
variable {K:VP} {h:Heap}

theorem wErr_ok {s:St} {p:Ps} {k:Int} {b:List UInt8} (ps:PsAt s p) (h0:0≤k) (h1:k+b.length≤268435456):wErr s fN k b=if p.f.isSome then 0 else 7:=by
 unfold wErr
 rw [if_pos okN_f]
 cases hf:p.f with
 | none=>rw [ps.none_ hf]; rfl
 | some f =>
  obtain ⟨x,-,-,-,hg⟩:=ps.some_ hf
  rw [hg]
  dsimp only
  rw [if_neg omg,if_neg omg]
  rfl
set_option maxHeartbeats 4000000 in
theorem write_part {o:Nat} {c:Ca} {s:St} {p:Ps} {n:Int} {x:Pge} (a:CAt h o c s) (ps:PsAt s p) (hg:c.get n=some x) (hs:s.steps+1<1000000)
 (H:∀h' s',CUpd h h' o c s (writeP (c,p) n x.D).1.1 s'→PsAt s' (writeP (c,p) n x.D).1.2→K (.int .i64 (writeP (c,p) n x.D).2) h') :
 CallsH Tryz.prog 83 #[ptrV c.sp,str fN,.int .i64 (n*((2^c.bits:Nat):Int)),x.sl] h (fun t72 h_34 =>
  Hp Tryz.prog false (binS .neq 29 (.tmp 73) (.const (.int .i64 0)) t72 (.int .i64 0)) (fun t74 h_35=>CondP t74 (K t72 h_35)
   (Hp Tryz.prog false (nilS (ptrV x.pb)) (fun t77 h_36=>Hp Tryz.prog false (Instr.fieldAt 99 t77 2) (fun t78 h_37=>Hp Tryz.prog false (storeS 4 t78 (.bool false)) (fun _ h_38 =>
    Hp Tryz.prog false (nilS (ptrV o)) (fun t80 h_39=>Hp Tryz.prog false (Instr.fieldAt 93 t80 5) (fun t81 h_40=>Hp Tryz.prog false (Instr.loadAt 90 t81) (fun t82 h_41=>Hp Tryz.prog false (unitS (Instr.mapUpdate 90 t82 (.int .i64 n) (.bool true))) (fun _ h_42 =>
    Hp Tryz.prog false (nilS (ptrV o)) (fun t85 h_43=>Hp Tryz.prog false (Instr.fieldAt 93 t85 6) (fun t86 h_44=>Hp Tryz.prog false (Instr.loadAt 91 t86) (fun t87 h_45=>Hp Tryz.prog false (Builtin.delete_ #[91,2] 0 #[t87,.int .i64 n]) (fun _ h_46 =>
    Hp Tryz.prog false (nilS (ptrV o)) (fun t90 h_47=>Hp Tryz.prog false (Instr.fieldAt 93 t90 8) (fun t91 h_48=>Hp Tryz.prog false (Instr.fieldAt 81 t91 2) (fun t92 h_49=>Hp Tryz.prog false (Instr.loadAt 3 t92) (fun t93 h_50=>Hp Tryz.prog false (binS .add 3 (.tmp 93) (.const (.int .i64 1)) t93 (.int .i64 1)) (fun t94 h_51 =>
    Hp Tryz.prog false (nilS (ptrV o)) (fun t95 h_52=>Hp Tryz.prog false (Instr.fieldAt 93 t95 8) (fun t96 h_53=>Hp Tryz.prog false (Instr.fieldAt 81 t96 2) (fun t97 h_54=>Hp Tryz.prog false (storeS 3 t97 t94) (fun _ h_55=>K (.int .i64 0) h_55) h_54 ⟨⟩) h_53 ⟨⟩) h_52 ⟨⟩) h_51 ⟨⟩) h_50 ⟨⟩) h_49 ⟨⟩) h_48 ⟨⟩) h_47 ⟨⟩) h_46 ⟨⟩) h_45 ⟨⟩) h_44 ⟨⟩) h_43 ⟨⟩) h_42 ⟨⟩) h_41 ⟨⟩) h_40 ⟨⟩) h_39 ⟨⟩) h_38 ⟨⟩) h_37 ⟨⟩) h_36 ⟨⟩) h_35 ⟨⟩) ⟨⟩ ⟨⟩) h_34 ⟨⟩) ⟨⟩:=by
 obtain ⟨hx,hxn⟩:=get_mem hg
 have hnum:=a.co.ok.num x hx
 rw [hxn] at hnum
 have hlen:=a.co.ok.len x hx
 have hb1:=a.co.ok.b1
 have hps:=pow_split hb1 hnum.2
 obtain ⟨W,hW⟩:∃W,2^c.bits=W:=⟨_,rfl⟩
 obtain ⟨w0,w1⟩:=shrP hb1
 obtain ⟨N,rfl⟩:=Int.eq_ofNat_of_zero_le hnum.1
 have hk:((N:Nat):Int)*((2^c.bits:Nat):Int)=((N*2^c.bits:Nat):Int):=by rw [Int.natCast_mul]
 have hpl:c.place (N:Int)=N*2^c.bits:=by unfold Ca.place; rw [Int.toNat_natCast]
 unfold writeP Ps.write at H
 rw [hpl] at H
 rw [hk] at hps ⊢
 obtain ⟨PL,hPL⟩:∃PL,N*2^c.bits=PL:=⟨_,rfl⟩
 rw [hPL] at hps H ⊢
 rw [hW] at hps w0 w1 hlen
 have hfoot:c.foot o x.bb := .inr (.inr (.inr (.inr (.inr (.inr ⟨x,hx,rfl⟩)))))
 have hwe:=wErr_ok (b:=x.D) ps (k:=(PL:Int)) omg (by rw [hlen]; exact hps)
 refine Write_c2 a.st dM (a.co.by_ x hx).bytes omg (fun _ b hb => ?_) omg omg hs (fun h1 e1 hne => ?_) (fun h1 A B y y' fv hF hn h0 hle hn' hf hpc u => ?_)
 ·rw [CoAt.blkv hb]
  exact a.ap _ hfoot
 ·rw [hwe] at hne ⊢
  cases hpf:p.f with
  | some f=>rw [hpf] at hne; exact absurd rfl hne
  | none =>
   rw [hpf] at H
   dsimp only at H
   rw [if_neg dM] at H
   simp (disch:=omega)
   exact H h1 s ((CUpd.refl a).ext e1) ps
 ·obtain ⟨f,hpf⟩:∃f,p.f=some f:=by
   cases hf:p.f with
   | none=>have:=ps.2.2; rw [hf] at this; rw [this] at hF; simp at hF
   | some f=>exact ⟨f,rfl⟩
  obtain ⟨z,hy1,hy2,hy3,hy4⟩:=ps.some_ hpf
  rw [hy1] at hF
  obtain ⟨rfl,rfl,rfl⟩:=one_split hF
  rw [hpf] at H
  dsimp only at H
  rw [←ps.1] at H
  rw [Int.toNat_natCast] at hf
  have u1:CUpd h h1 o c s c { s.stepped fv with F:=[y'] }:=by
   refine a.store u (fun w hw q hq b hb => ?_) (Nat.le_succ _)
   have hy':w=y':=by simpa using hw
   rw [hy'] at hq
   rcases hpc q hq b hb with ⟨q0,h2,h3⟩|h2
   ·exact .inl ⟨y,by rw [hy1]; simp,q0,h2,h3⟩
   ·exact .inr h2
  have ps1:PsAt { s.stepped fv with F:=[y'] } ⟨some (f.writes (went (fateE s.fates) (fateK s.fates) (cutP PL x.D))),s.fates.tail,p.steps+1⟩:=by
   refine ⟨rfl,by show s.steps+1=p.steps+1; rw [ps.2.1],y',rfl,?_,hn'.trans hy3⟩
   rw [hf,hy2]
  by_cases h0:fateE s.fates=0
  ·rw [if_pos h0] at H
   rw [h0] at *
   have d5:=ce5 u1.at_.co.cells
   have d6:=ce6 u1.at_.co.cells
   have d10:=ce10 u1.at_.co.cells
   have hbk:=a.bk
   have hst:=a.st.stp
   have px:=u1.at_.co.pg x hx
   have pf:=pcF px 2
   have p2:=pc2 px
   have hox:¬x.pb=o:=fun e=>get_ne px u1.at_.co.cells cT_ne.1.symm e
   have hox':¬o=x.pb:=fun e=>hox e.symm
   unfold ptrV
   simp (disch:=omega) [pf,p2,d5,d6,d10,hox,hox']
   refine (⟨_,rfl⟩:∃g,g=hset h1 ⟨x.pb,2,none⟩ (.bool false)).elim fun h2 eh2 => ?_
   rw [←eh2]
   have m2:Mod (· = x.pb) h1 h2:=by rw [eh2]; exact Mod.set h1 ⟨x.pb,2,none⟩ _
   have k2:CoAt h2 o { c with P:=c.P.map (Pge.clean N) }:=by
    refine u1.at_.co.pageU (x:=x) (f:=Pge.clean N) hx (fun y _ hy => ?_) (fun y _ => ?_) ?_ ?_ (m2.mono (fun b _ e => .inl e)) (ok_pages a.co.ok (fun y _=>clean_same _ y))
    ·unfold Pge.clean; rw [if_neg (by rw [hxn] at hy; exact hy)]
    ·exact ⟨(clean_same _ y).1,(clean_same _ y).2.1,(clean_same _ y).2.2.1⟩
    ·rw [eh2]
     have:x.clean N={ x with d:=false }:=by unfold Pge.clean; rw [if_pos hxn]
     rw [this]
     exact obj_set px
    ·have:x.clean N={ x with d:=false }:=by unfold Pge.clean; rw [if_pos hxn]
     rw [this]
     refine (u1.at_.co.by_ x hx).mod m2 (fun b hb e => ?_)
     exact (u1.at_.co.by_ x hx).ne hb px cT_ne.2.2.1.symm e
   clear eh2
   refine Hp_mapUpdate setKey k2.pend fun h3 mp3 m3 => ?_
   have mp3':MapK ik h3 c.pm ((if (N:Int)∈c.pend then c.pend else c.pend++[(N:Int)]).map fun n=>(n,Value.bool true)):=by
    rw [←upd_true]; exact mp3
   have k3:=k2.pendU mp3' m3
   have r6:=ce6 k3.cells
   simp (disch:=omega) [r6]
   refine Hp_delete waitKey k3.wait fun h4 mp4 m4 => ?_
   have hwn:(c.W.map (·.n)).Nodup:=by
    have:=k3.wait.nodup
    unfold Ca.waitL at this
    rw [List.map_map] at this
    exact this
   have mp4':MapK ik h4 c.wm ((c.W.filter fun w => !decide (w.n=(N:Int))).map fun w=>(w.n,Value.map (some w.b))):=by
    rw [←del_key (k:=fun w:Wt=>w.n) (v:=fun w:Wt=>Value.map (some w.b)) c.W hwn]; exact mp4
   have k4:=k3.waitU mp4' m4
   have r10:=ce10 k4.cells
   have f10:=ceF k4.cells 10
   dsimp only at r10
   simp (disch:=omega) [r10,f10]
   have hcast:((c.backs:Int)+1)=((c.backs+1:Nat):Int):=by omega
   rw [hcast]
   refine (⟨_,rfl⟩:∃g,g=hset h4 ⟨o,10,none⟩ (.int .i64 ((c.backs+1:Nat):Int))).elim fun h5 eh5 => ?_
   rw [←eh5]
   have m5:Mod (· = o) h4 h5:=by rw [eh5]; exact Mod.set h4 ⟨o,10,none⟩ _
   have k5:=k4.cnt (k:=c.clock) (a:=c.hits) (b:=c.loads) (d:=c.backs+1) (e:=c.flushes) (h':=h5) (by rw [eh5]; exact obj_set k4.cells) m5 { k4.ok with }
   have hco:CUpd h1 h5 o c { s.stepped fv with F:=[y'] } (c.cleaned N) { s.stepped fv with F:=[y'] }:=by
    refine u1.at_.core k5 ?_ rfl (fun b hb => .inl (foot_clean hb)) ?_ (Nat.le_trans a.fl (Nat.le_succ _))
    ·refine (((m2.mono (fun b _ e => ?_)).trans m3 (fun b _ e => .inr (.inr (.inl e)))).trans m4 (fun b _ e => .inr (.inr (.inr (.inl e))))).trans m5 (fun b _ e => .inl e)
     exact .inr (.inr (.inr (.inr (.inr (.inl ⟨x,hx,e⟩)))))
    ·show c.backs+1≤s.steps+1
     omega
   exact H h5 _ (u1.trans hco) ps1
  ·rw [if_neg h0] at H
   simp (disch:=omega) [h0]
   exact H h1 _ u1 ps1
end Go.Proofs.YtcbbdnaelimpfaaGreat
set_option linter.unusedSimpArgs false
set_option linter.unusedVariables false
namespace Go.Proofs.YtcbbdnaelimpfaaGreat
open Go.Vc
variable {K:VP} {h:Heap}

theorem run_drop {X:Type} {g:Int→X→X×Int} {l:List Int} {i:Nat} (hi:i<l.length) (x:X):runL g (l.drop i) x=if (g l[i] x).2=0 then runL g (l.drop (i+1)) (g l[i] x).1 else g l[i] x:=by
 rw [List.drop_eq_getElem_cons hi]; rfl
theorem backF_bad {n:Int} {r:Cx×Int} (h:r.2≠0):backF n r=r:=by unfold backF; rw [if_neg h]
theorem backW_bad {n:Int} {r:Cx×Int} (h:r.2≠0):backW n r=r:=by unfold backW; rw [if_neg h]
set_option maxHeartbeats 4000000 in
theorem back_c {rk:Int→Nat}:∀(f:Nat) (n:Int) {K:VP} {h:Heap} {o:Nat} {c:Ca} {s:St} {p:Ps},rk n<f→Ranks rk c→CAt h o c s→PsAt s p→s.steps+2*c.dN+4<1000000 →
 (∀h' s',CUpd h h' o c s (backP f n (c,p)).1.1 s'→PsAt s' (backP f n (c,p)).1.2→K (.int .i64 (backP f n (c,p)).2) h')→CallsH Tryz.prog 44 #[ptrV o,.int .i64 n] h K ⟨⟩
 | 0,n,K,h,o,c,s,p,hf,_,_,_,_,_=>absurd hf omg
 | f+1,n,K,h,o,c,s,p,hf,hr,a,ps,hs,H=>by
  refine n44_calls ?_
  unfold n44; try delta vF vG vC vD vJ vV vk vt
  have c4:=ce4 a.co.cells
  have lk:look2 n c.keptL=(c.get n).map fun x=>ptrV x.pb:=look_kept c.P
  unfold ptrV
  simp (disch:=omega) [c4]
  rw [Hp_lookup keptKey (z := .pointer none) kR a.co.kept,lk]
  unfold backP at H
  cases hg:c.get n with
  | none =>
   have hd:c.dirty n=false:=by unfold Ca.dirty; rw [hg]
   rw [if_neg (by rw [hd]; decide)] at H
   simp (disch:=omega)
   exact H h s (.refl a) ps
  | some x =>
   have hx:=(get_mem hg).1
   have p2:=pc2 (a.co.pg x hx)
   simp (disch:=omega) [ptrV,p2]
   cases hd:x.d with
   | false =>
    have hd':c.dirty n=false:=by unfold Ca.dirty; rw [hg]; exact hd
    rw [if_neg (by rw [hd']; decide)] at H
    simp (disch:=omega)
    exact H h s (.refl a) ps
   | true =>
    have hd':c.dirty n=true:=by unfold Ca.dirty; rw [hg]; exact hd
    rw [if_pos hd'] at H
    simp (disch:=omega)
    rw [show (.pointer (some ⟨o,0,none⟩):Value)=ptrV o from rfl,show (.pointer (some ⟨x.pb,0,none⟩):Value)=ptrV x.pb from rfl]
    refine behind_c a.co fun h1 v e1 ov fv => ?_
    have hl:∀q∈c.beh n,rk q<rk n:=fun q hq=>hr n q (beh_mem.1 hq).1
    have spec:=run_spec (k:=rk n) (g:=backP f) (fun q y hq hy=>back_spec f q y omg hy) (c.beh n) (c,p) hl hr
    generalize hlq:c.beh n=l at *
    have hll:l.length<100000:=by
     have h2:(c.beh n).length≤(c.ws n).length:=by rw [(beh_perm c n).length_eq]; exact List.length_filter_le _ _
     rw [hlq] at h2
     have h3:(c.ws n).length<100000:=by
      unfold Ca.ws
      cases hw:c.W.find? (fun w=>decide (w.n=n)) with
      | none=>simp
      | some w=>have:=a.co.ok.qfew w (List.mem_of_find?_eq_some hw); dsimp only; omega
     omega
    obtain ⟨va,vn,vc,rfl,hvn,hvc,hva⟩:=ov.form dM
    have hvn':vn=l.length:=by simpa using hvn.symm
    subst hvn'
    have nf:∀b,blkV (.slice va l.length vc)=some b→b<h1.size∧¬Ft o c s b:=fun b hb=>⟨ov.lt hb,fun e=>by have:=a.lt e; have:=fv b hb; omega⟩
    simp (disch:=omega)
    refine loopX1 (α:=Nat×Ca×Ps×St) (fun z => .int .i64 z.1) (fun z g=>z.1≤l.length∧CUpd h1 g o c s z.2.1 z.2.2.2∧PsAt z.2.2.2 z.2.2.1∧runL (backP f) l (c,p)=runL (backP f) (l.drop z.1) (z.2.1,z.2.2.1)∧Ranks rk z.2.1∧z.2.2.2.steps+2*z.2.1.dN+4<1000000) (fun z=>l.length-z.1) (0,c,p,s) rfl ⟨Nat.zero_le _,.refl (a.ext e1),ps,rfl,hr,hs⟩ ?_
    rintro ⟨i,c1,p1,s1⟩ g ⟨hi,u1,ps1,hrun,hr1,hs1⟩ X hX
    dsimp only at hi u1 ps1 hrun hr1 hs1 ⊢
    by_cases hil:i<l.length
    ·obtain ⟨b,rfl⟩:=hva (by intro e; have:=congrArg List.length e; rw [List.length_map] at this; simp only [List.length_nil] at this; omega)
     have og:OwnT i6T 1 g (.slice (some ⟨b,0,none⟩) l.length vc) (l.map ik):=ov.mod u1.mod (fun b hb=>(nf b hb).2)
     have ce:=(og.elt (i:=i) (by simpa using hil)).1
     rw [List.getElem_map] at ce
     simp (disch:=omega) [ce]
     refine InvokeH_f1k1 kR ?_
     obtain ⟨sp1,-⟩:=back_spec (rk:=rk) f l[i] (c1,p1) (by have:=hl l[i] (List.getElem_mem hil); omega) hr1
     refine back_c (rk:=rk) f l[i] (by have:=hl l[i] (List.getElem_mem hil); omega) hr1 u1.at_ ps1 hs1 fun h2 s2 u2 ps2 => ?_
     rw [run_drop hil] at hrun
     generalize backP f l[i] (c1,p1)=R at *
     obtain ⟨⟨c2,p2⟩,e⟩:=R
     dsimp only at *
     by_cases h0:e=0
     ·rw [if_pos h0] at hrun
      simp (disch:=omega) [h0]
      refine hX (i+1,c2,p2,s2) _ h2 sM ⟨by omega,u1.trans u2,ps2,hrun,hr1.less sp1.mics.less,?_⟩ (by dsimp only; omega)
      have:=sp1.st0 h0
      have q1:=ps1.2.1
      have q2:=ps2.2.1
      dsimp only at *
      omega
     ·rw [if_neg h0] at hrun
      rw [hrun,backF_bad h0,backW_bad h0] at H
      simp (disch:=omega) [h0]
      exact H h2 s2 (((u1.trans u2).from_ e1)) ps2
    ·obtain rfl:i=l.length:=by omega
     rw [List.drop_length] at hrun
     have hrun:runL (backP f) l (c,p)=((c1,p1),0):=hrun
     rw [hrun] at H spec
     obtain ⟨sp1,sp2⟩:=spec
     have hd1:c1.dirty n=true:=(sp1.keep n (Nat.le_refl _)).trans hd'
     simp (disch:=omega)
     refine JoinN_in0 (fun g'=>∃c2 s2 p2,CUpd h g' o c s c2 s2∧PsAt s2 p2∧backF n ((c1,p1),0)=((c2,p2),0)∧Less c c2∧s2.steps+1<1000000) (fun kk hkk => ?_) (fun g' hg' => ?_)
     ·refine behind_c u1.at_.co fun h2 v2 e2 ov2 fv2 => ?_
      obtain ⟨wa,wn,wc,rfl,hwn,-,-⟩:=ov2.form dM
      have hwn':wn=(c1.beh n).length:=by simpa using hwn.symm
      subst hwn'
      by_cases hb:c1.beh n=[]
      ·rw [hb]
       simp (disch:=omega)
       refine hkk h2 ⟨c1,s1,p1,(u1.from_ e1).ext e2,ps1,?_,sp1.mics.less,by omega⟩
       unfold backF
       rw [if_pos rfl,if_pos hb]
      ·have hbl:0<(c1.beh n).length:=List.length_pos_iff.2 hb
       simp (disch:=omega)
       refine flush_c (u1.at_.ext e2) ps1 omg fun h3 s3 u3 ps3 => ?_
       have hfs:=flushP_steps (c1,p1)
       have hfl:=flushP_less (c1,p1)
       have hbf:backF n ((c1,p1),0)=flushP (c1,p1):=by unfold backF; rw [if_pos rfl,if_neg hb]
       rw [hbf] at H
       generalize flushP (c1,p1)=R at *
       obtain ⟨⟨c2,p2⟩,e⟩:=R
       dsimp only at *
       have ua:=((u1.from_ e1).ext e2).trans u3
       by_cases h0:e=0
       ·simp (disch:=omega) [h0]
        refine hkk h3 ⟨c2,s3,p2,ua,ps3,hbf.trans (by rw [h0]),sp1.mics.less.trans hfl,?_⟩
        have q1:=ps1.2.1
        have q2:=ps3.2.1
        omega
       ·rw [backW_bad h0] at H
        simp (disch:=omega) [h0]
        exact H h3 s3 ua ps3
     ·obtain ⟨c2,s2,p2,u2,ps2,hbf,hls,hs2⟩:=hg'
      rw [hbf] at H
      obtain ⟨x2,hg2,hx2⟩:=hls.get hg
      have hpb:x2.pb=x.pb:=by
       have:=congrArg Pge.pb hx2
       exact this
      have d0:=ce0 u2.at_.co.cells
      have d1:=ce1 u2.at_.co.cells
      have d2:=ce2 u2.at_.co.cells
      have hx2m:=(get_mem hg2).1
      have q1:=pc1 (u2.at_.co.pg x2 hx2m)
      rw [hpb] at q1
      obtain ⟨W,hW⟩:∃W,2^c2.bits=W:=⟨_,rfl⟩
      have hnum:=u2.at_.co.ok.num x2 hx2m
      rw [(get_mem hg2).2] at hnum
      obtain ⟨w0,w1⟩:=shrP u2.at_.co.ok.b1
      have hb1:=u2.at_.co.ok.b1
      have hs:=fun (q:Bool) (tt:Nat) (o1 o2:Go.Operand) (g:Heap) (K:VP)=>Hp_shlW (P:=Tryz.prog) (q:=q) (t:=tt) (x:=o1) (y:=o2) (k' := .i64) (K:=K) (h:=g) (a:=n) hW omg hnum.1 (by rw [←hW]; omega)
      unfold ptrV
      simp (disch:=omega) [d0,d1,d2,q1,hs]
      have hbw:backW n ((c2,p2),0)=writeP (c2,p2) n x2.D:=by unfold backW; rw [if_pos rfl]; dsimp only; rw [hg2]
      rw [hbw] at H
      have:=write_part (K:=K) u2.at_ ps2 hg2 hs2 (fun h' s' u ps=>H h' s' (u2.trans u) ps)
      rw [hW] at this
      rw [hpb] at this
      exact this
end Go.Proofs.YtcbbdnaelimpfaaGreat
set_option linter.unusedSimpArgs false
set_option linter.unusedVariables false
namespace Go.Proofs.YtcbbdnaelimpfaaGreat
open Go.Vc Go.Sort
variable {K:VP} {h:Heap}

section
variable {ε:Type} [Inhabited ε] {lt:ε→ε→Bool} {S:Heap→List ε→Prop} {hv:Value} {E:List ε}
set_option maxHeartbeats 1000000 in
theorem hinit_c (I:HI lt S hv) (hw:SWO lt) (s:S h E) (H:∀h' E',S h' E'→E'.Perm E→HOkE lt E' E'.length 0→K (.tuple #[]) h'):CallsH Tryz.prog 112 #[hv] h K ⟨⟩:=by
 refine n112_calls ?_
 unfold n112; try delta vF vG vC vD vJ vV vk vt
 have hfew:=I.few s
 refine I.len s ?_
 obtain ⟨n,hn⟩:∃n,n=E.length:=⟨_,rfl⟩
 rw [←hn] at hfew ⊢
 have e1:((n:Int)/2-1)=(((n/2:Nat):Int)-1):=by omega
 simp (disch:=omega)
 first|rw [e1]|skip
 refine loopX1 (α:=Nat×List ε) (fun a => .int .i64 ((a.1:Int)-1)) (fun a g=>S g a.2∧a.2.Perm E∧HOkE lt a.2 n a.1∧a.1≤n/2) (fun a=>a.1) (n/2,E) sM ⟨s,.refl _,fun k k0 kn hk=>by omega,Nat.le_refl _⟩ ?_
 rintro ⟨i,E1⟩ g ⟨s1,hp,ho,hi⟩ X hX
 dsimp only at s1 hp ho hi hX ⊢
 have hl:=hp.length_eq
 cases i with
 | zero =>
  simp (disch:=omega)
  exact H g E1 s1 hp (by rw [hl,←hn]; exact ho)
 | succ i =>
  have e2:(((i+1:Nat):Int)-1)=(i:Int):=by omega
  rw [e2]
  simp (disch:=omega)
  refine hdown_c I hw (i0:=i) (lo:=i) (n:=n) s1 omg (ho.down) (Nat.le_refl _) omg fun E2 b h2 s2 hp2 _ ho2 => ?_
  simp (disch:=omega)
  exact hX (i,E2) _ h2 rfl ⟨s2,hp2.trans hp,ho2,by omega⟩ sM
end

def orT:Nat:=188
def ppT:Nat:=94
instance:Inhabited Pge:=⟨⟨0,[],false,0,0,0⟩⟩
def ltP (x y:Pge):Bool:=if x.d=y.d then decide (x.u<y.u) else !x.d
theorem swo_ltP:SWO ltP:=by
 refine ⟨fun x => ?_,fun x y z => ?_,fun x y z => ?_⟩<;>unfold ltP
 ·simp
 ·cases x.d<;>cases y.d<;>cases z.d<;>simp<;>omega
 ·cases x.d<;>cases y.d<;>cases z.d<;>simp<;>omega
def orV (q:Nat):Value := .iface 190 (.pointer (some ⟨q,0,none⟩))
def rowP (E:List Pge):List Value:=E.map fun x=>ptrV x.pb
structure OrS (h0:Heap) (q:Nat) (h:Heap) (E:List Pge):Prop where
 ext:Ext h0 h
 q0:h0.size≤q
 row:∃v,h[q]? = some (.cells #[v] orT)∧OwnT ppT 1 h v (rowP E)∧(∀b,blkV v=some b→h0.size≤b)
 pg:∀x∈E,h0[x.pb]? = some (.cells x.cells pgT)
 few:E.length<100000
theorem OLen {q : Nat} {v : Value} (hv : hcell h ⟨q, 0, none⟩ = some v) (H : CallsH Tryz.prog 182 #[v] h K ⟨⟩) : MethodH Tryz.prog (orV q) "Len" #[] h K ⟨⟩ := by
 refine ⟨?_⟩
 have e : methodP Tryz.prog (orV q) "Len" #[] h K = hp Tryz.prog false (load ⟨q, 0, none⟩) (fun v h' => CallsH Tryz.prog 182 #[v] h' K ⟨⟩) h := by kernel_rfl
 rw [e,hp_load,hv]
 simpa using H
theorem OLess {q : Nat} {v x y : Value} (hv : hcell h ⟨q, 0, none⟩ = some v) (H : CallsH Tryz.prog 183 #[v, x, y] h K ⟨⟩) : MethodH Tryz.prog (orV q) "Less" #[x, y] h K ⟨⟩ := by
 refine ⟨?_⟩
 have e : methodP Tryz.prog (orV q) "Less" #[x, y] h K = hp Tryz.prog false (load ⟨q, 0, none⟩) (fun v h' => CallsH Tryz.prog 183 #[v, x, y] h' K ⟨⟩) h := by kernel_rfl
 rw [e,hp_load,hv]
 simpa using H
theorem OSwap {q : Nat} {v x y : Value} (hv : hcell h ⟨q, 0, none⟩ = some v) (H : CallsH Tryz.prog 184 #[v, x, y] h K ⟨⟩) : MethodH Tryz.prog (orV q) "Swap" #[x, y] h K ⟨⟩ := by
 refine ⟨?_⟩
 have e : methodP Tryz.prog (orV q) "Swap" #[x, y] h K = hp Tryz.prog false (load ⟨q, 0, none⟩) (fun v h' => CallsH Tryz.prog 184 #[v, x, y] h' K ⟨⟩) h := by kernel_rfl
 rw [e,hp_load,hv]
 simpa using H
theorem OPop {q : Nat} (H : CallsH Tryz.prog 185 #[.pointer (some ⟨q, 0, none⟩)] h K ⟨⟩) : MethodH Tryz.prog (orV q) "Pop" #[] h K ⟨⟩ := by
 refine ⟨?_⟩
 have e : methodP Tryz.prog (orV q) "Pop" #[] h K = CallsH Tryz.prog 185 #[.pointer (some ⟨q, 0, none⟩)] h K ⟨⟩ := by kernel_rfl
 rw [e]; exact H
theorem rowP_len (E:List Pge):(rowP E).length=E.length:=by simp [rowP]
theorem OrS.form {h0:Heap} {q:Nat} {E:List Pge} (s:OrS h0 q h E):∃a c,h[q]? = some (.cells #[.slice a E.length c] orT)∧OwnT ppT 1 h (.slice a E.length c) (rowP E)∧E.length≤c∧(∀b,blkV (.slice a E.length c)=some b→h0.size≤b)∧(E≠[]→∃b,a=some ⟨b,0,none⟩):=by
 obtain ⟨v,h1,h2,h3⟩:=s.row
 obtain ⟨a,n,c,rfl,hn,hc,hne⟩:=h2.form omg
 have:n=E.length:=by rw [rowP_len] at hn; omega
 subst this
 exact ⟨a,c,h1,h2,hc,h3,fun hE=>hne (by simpa [rowP] using hE)⟩
theorem OrS.cell {h0:Heap} {q i:Nat} {E:List Pge} (s:OrS h0 q h E) (hi:i<E.length):∃b c,h[q]? = some (.cells #[.slice (some ⟨b,0,none⟩) E.length c] orT)∧OwnT ppT 1 h (.slice (some ⟨b,0,none⟩) E.length c) (rowP E)∧E.length≤c∧h0.size≤b∧b<h.size∧∀j (hj:j<E.length),hcell h (elt ⟨b,0,none⟩ j)=some (.pointer (some ⟨(E[j]).pb,0,none⟩))∧hfrozen h (elt ⟨b,0,none⟩ j)=false:=by
 obtain ⟨a,c,h1,h2,h3,h4,h5⟩:=s.form
 obtain ⟨b,rfl⟩:=h5 (fun e=>by subst e; simp at hi)
 have hbk:blkV (.slice (some ⟨b,0,none⟩) E.length c)=some b:=by
  cases c with
  | zero=>omega
  | succ c=>cases hE:E.length with
   | zero=>omega
   | succ m=>rfl
 refine ⟨b,c,h1,h2,h3,h4 b hbk,h2.lt hbk,fun j hj => ?_⟩
 have:=h2.elt (i:=j) (by rw [rowP_len]; exact hj)
 exact ⟨this.1.trans (by simp [rowP,ptrV]),this.2⟩
theorem ppT_ne:ppT≠orT∧ppT≠pgT:=by decide
theorem OrS.page {h0:Heap} {q i:Nat} {E:List Pge} (s:OrS h0 q h E) (hi:i<E.length):h[(E[i]).pb]? = some (.cells (E[i]).cells pgT):=by
 have h1:=s.pg _ (List.getElem_mem hi)
 exact (s.ext.block _ (get_some_lt h1)).trans h1
theorem less_m {h0:Heap} {q i j:Nat} {E:List Pge} {v:Value} (s:OrS h0 q h E) (hv:h[q]? = some (.cells #[v] orT)) (hi:i<E.length) (hj:j<E.length) (H:K (.bool (ltP E[i] E[j])) h):CallsH Tryz.prog 183 #[v,.int .i64 i,.int .i64 j] h K ⟨⟩:=by
 obtain ⟨b,c,h1,h2,h3,h4,h5,h6⟩:=s.cell hi
 have:v = .slice (some ⟨b,0,none⟩) E.length c:=by rw [hv] at h1; cases h1; rfl
 subst this
 refine n183_calls ?_
 unfold n183; try delta vF vG vC vD vJ vV vk vt
 have ci:=(h6 i hi).1
 have cj:=(h6 j hj).1
 have di:=pc2 (s.page hi)
 have dj:=pc2 (s.page hj)
 have ui:=pc3 (s.page hi)
 have uj:=pc3 (s.page hj)
 simp (disch:=omega) [ci,cj,di,dj]
 unfold ltP at H
 by_cases e:(E[i]).d=(E[j]).d
 ·rw [if_pos e] at H
  simp (disch:=omega) [ci,cj,ui,uj,e]
  refine Split.mk (fun e => ?_) (fun e => ?_)
  ·rw [decide_eq_true omg] at H; exact H
  ·rw [decide_eq_false omg] at H; exact H
 ·rw [if_neg e] at H
  simp (disch:=omega) [ci,cj,di,dj,e]
  exact H
end Go.Proofs.YtcbbdnaelimpfaaGreat
set_option linter.unusedSimpArgs false
set_option linter.unusedVariables false
namespace Go.Proofs.YtcbbdnaelimpfaaGreat
open Go.Vc Go.Sort
variable {K:VP} {h:Heap}

theorem swap_m {h0:Heap} {q i j:Nat} {E:List Pge} {v:Value} (s:OrS h0 q h E) (hv:h[q]? = some (.cells #[v] orT)) (hi:i<E.length) (hj:j<E.length) (H:∀h',OrS h0 q h' (swapE E i j)→K (.tuple #[]) h'):CallsH Tryz.prog 184 #[v,.int .i64 i,.int .i64 j] h K ⟨⟩:=by
 obtain ⟨b,c,h1,h2,h3,h4,h5,h6⟩:=s.cell hi
 have:v = .slice (some ⟨b,0,none⟩) E.length c:=by rw [hv] at h1; cases h1; rfl
 subst this
 refine n184_calls ?_
 unfold n184; try delta vF vG vC vD vJ vV vk vt
 obtain ⟨ci,fi⟩:=h6 i hi
 obtain ⟨cj,fj⟩:=h6 j hj
 have r1:=h2.setE (i:=i) (by rw [rowP_len]; exact hi) (u := .pointer (some ⟨E[j].pb,0,none⟩))
 have cj2:=r1.elt (i:=j) (by rw [List.length_set,rowP_len]; exact hj)
 have r2:=r1.setE (i:=j) (by rw [List.length_set,rowP_len]; exact hj) (u := .pointer (some ⟨E[i].pb,0,none⟩))
 simp (disch:=omega) [ci,fi,cj,fj,cj2.1,cj2.2]
 have hE:((rowP E).set i (.pointer (some ⟨E[j].pb,0,none⟩))).set j (.pointer (some ⟨E[i].pb,0,none⟩))=rowP (swapE E i j):=by
  unfold swapE
  rw [atE_get hi,atE_get hj]
  simp [rowP,ptrV,List.map_set]
 rw [hE] at r2
 have hbk:∀d,blkV (.slice (some ⟨b,0,none⟩) E.length c)=some d→d=b:=fun d hd=>by
  cases c with
  | zero=>omega
  | succ c=>cases hE:E.length with
   | zero=>omega
   | succ m=>rw [hE] at hd; exact (Option.some.inj hd).symm
 have hbq:b≠q:=fun e=>by
  have hb:blkV (.slice (some ⟨b,0,none⟩) E.length c)=some b:=by
   cases c with
   | zero=>omega
   | succ c=>cases hE:E.length with
    | zero=>omega
    | succ m=>rfl
  exact h2.ne hb h1 ppT_ne.1 e
 have m:Mod (· = b) h (hset (hset h (elt ⟨b,0,none⟩ i) (.pointer (some ⟨E[j].pb,0,none⟩))) (elt ⟨b,0,none⟩ j) (.pointer (some ⟨E[i].pb,0,none⟩))):=by
  refine Mod.setIn (Mod.setIn (Mod.refl _ _) (.inl ?_)) (.inl ?_)<;>simp
 refine H _ ⟨m.ext_from s.ext (fun d hd e=>by omega),s.q0,⟨_,(m.block q (get_some_lt h1) (Ne.symm hbq)).trans h1,r2,fun d hd=>by rw [hbk d hd]; exact h4⟩,fun x hx=>s.pg x ((swapE_perm hi hj).mem_iff.1 hx),by rw [swapE_len]; exact s.few⟩
theorem pop_m {h0:Heap} {q:Nat} {E:List Pge} {x:Pge} (s:OrS h0 q h (E++[x])) (H:∀h',Ext h0 h'→K (.iface ppT (ptrV x.pb)) h'):CallsH Tryz.prog 185 #[.pointer (some ⟨q,0,none⟩)] h K ⟨⟩:=by
 obtain ⟨b,c,h1,h2,h3,h4,h5,h6⟩:=s.cell (i:=E.length) sM
 obtain ⟨ci,fi⟩:=h6 E.length sM
 have hl:(E++[x]).length=E.length+1:=by simp
 have hx:((E++[x])[E.length]'sM).pb=x.pb:=by simp
 rw [hx] at ci
 rw [hl] at h1 h3
 refine n185_calls ?_
 unfold n185; try delta vF vG vC vD vJ vV vk vt
 have c0:=cellOf (i:=0) h1 rfl
 have f0:=frzOf (i:=0) h1
 have hfew:=s.few
 rw [hl] at hfew
 simp (disch:=omega) [c0,f0,ci,Hp_mkIface (P:=Tryz.prog) (t:=94) kR]
 refine H _ ((Mod.set h ⟨q,0,none⟩ _).ext_from s.ext (fun d hd e => ?_))
 have e':d=q:=e
 have:=s.q0
 omega
theorem hi_c (h0:Heap) (q:Nat):HI ltP (OrS h0 q) (orV q) where
 few:=fun s=>s.few
 len:=fun {h E K} s H=>by
  obtain ⟨a,c,h1,h2,h3,h4,h5⟩:=s.form
  refine OLen (cellOf (i:=0) h1 rfl) ?_
  refine n182_calls ?_
  unfold n182; try delta vF vG vC vD vJ vV vk vt
  have:=s.few
  simp (disch:=omega)
  exact H
 less:=fun {h E K i j} s hi hj H=>by
  obtain ⟨a,c,h1,h2,h3,h4,h5⟩:=s.form
  refine OLess (cellOf (i:=0) h1 rfl) (less_m s h1 hi hj ?_)
  rw [atE_get hi,atE_get hj] at H
  exact H
 swap:=fun {h E K i j} s hi hj H=>by
  obtain ⟨a,c,h1,h2,h3,h4,h5⟩:=s.form
  exact OSwap (cellOf (i:=0) h1 rfl) (swap_m s h1 hi hj H)

def Ca.victim (c:Ca):Option Pge:=c.P.find? fun x=>c.P.all fun y => !ltP y x
theorem victim_eq {c:Ca} (us:(c.P.map (·.u)).Nodup) {x:Pge} (hx:x∈c.P) (hm:∀y∈c.P,ltP y x=false):c.victim=some x:=by
 unfold Ca.victim
 cases hf:c.P.find? (fun x=>c.P.all fun y => !ltP y x) with
 | none =>
  have:=List.find?_eq_none.1 hf x hx
  simp only [List.all_eq_true,Bool.not_eq_true'] at this
  exact absurd hm this
 | some z =>
  have hz:=List.mem_of_find?_eq_some hf
  have h1:=List.find?_some hf
  simp only [List.all_eq_true,Bool.not_eq_true'] at h1
  have h2:=h1 x hx
  have h3:=hm z hz
  have:z.u=x.u:=by
   unfold ltP at h2 h3
   by_cases e:x.d=z.d
   ·rw [if_pos e] at h2
    rw [if_pos e.symm] at h3
    simp at h2 h3
    omega
   ·rw [if_neg e] at h2
    rw [if_neg (Ne.symm e)] at h3
    exfalso
    cases hxd:x.d<;>cases hzd:z.d<;>simp [hxd,hzd] at h2 h3 e
  rw [nodup_in us hz hx this]
def Ca.dropP (c:Ca) (n:Int):Ca:={ c with P:=c.P.filter fun x => !decide (x.n=n) }
def freeP (f:Nat) (x:Cx):Cx×Int:=if x.1.P.length<x.1.room then (x,0) else
 match x.1.victim with
 | none=>(x,1)
 | some g=>if (backP f g.n x).2=0 then (((backP f g.n x).1.1.dropP g.n,(backP f g.n x).1.2),0) else backP f g.n x
end Go.Proofs.YtcbbdnaelimpfaaGreat
set_option linter.unusedSimpArgs false
set_option linter.unusedVariables false
namespace Go.Proofs.YtcbbdnaelimpfaaGreat
open Go.Vc Go.Sort
variable {K:VP} {h:Heap}

theorem foot_drop {o:Nat} {c:Ca} {n:Int} {b:Nat} (hb:(c.dropP n).foot o b):c.foot o b:=by
 rcases hb with e|e|e|e|e|⟨x,hx,e⟩|⟨x,hx,e⟩
 ·exact .inl e
 ·exact .inr (.inl e)
 ·exact .inr (.inr (.inl e))
 ·exact .inr (.inr (.inr (.inl e)))
 ·exact .inr (.inr (.inr (.inr (.inl e))))
 ·exact .inr (.inr (.inr (.inr (.inr (.inl ⟨x,(List.mem_filter.1 hx).1,e⟩)))))
 ·exact .inr (.inr (.inr (.inr (.inr (.inr ⟨x,(List.mem_filter.1 hx).1,e⟩)))))
theorem ok_drop {c:Ca} (a:c.ok) (n:Int):(c.dropP n).ok:=by
 have hs:∀x∈c.P.filter (fun x => !decide (x.n=n)),x∈c.P:=fun x hx=>(List.mem_filter.1 hx).1
 have sb:(c.P.filter (fun x => !decide (x.n=n))).Sublist c.P:=List.filter_sublist
 exact { a with few:=Nat.le_trans (List.length_filter_le _ _) a.few,len:=fun x hx=>a.len x (hs x hx),num:=fun x hx=>a.num x (hs x hx),pbs:=a.pbs.sublist (sb.map _),bbs:=a.bbs.sublist (sb.map _) }
theorem CoAt.dropU {o:Nat} {c:Ca} {h':Heap} {n:Int} (A:CoAt h o c) (hm:MapK ik h' c.km (del n c.keptL)) (m:Mod (· = c.km) h h'):CoAt h' o (c.dropP n):=by
 obtain ⟨o1,o2,o3⟩:=A.oM A.kept
 have hs:∀x∈c.P.filter (fun x => !decide (x.n=n)),x∈c.P:=fun x hx=>(List.mem_filter.1 hx).1
 have hnn:(c.P.map (·.n)).Nodup:=by
  have:=A.kept.nodup
  unfold Ca.keptL at this
  rw [List.map_map] at this
  exact this
 refine ⟨(m.block _ (get_some_lt A.cells) o1).trans A.cells,?_,fun x hx=>(m.block _ (get_some_lt (A.pg x (hs x hx))) (o2 x (hs x hx))).trans (A.pg x (hs x hx)),A.pend.mod m A.ok.m1.symm,A.wait.mod m A.ok.m2.symm,fun w hw=>(A.sets w hw).mod m (A.ok.m4 w hw).1,
  fun x hx=>(A.by_ x (hs x hx)).mod m (fun b hb=>by rw [CoAt.blk_ A.ok (hs x hx)] at hb; cases hb; exact o3 x (hs x hx)),ok_drop A.ok n⟩
 have:=del_key (k:=fun x:Pge=>x.n) (v:=fun x:Pge=>ptrV x.pb) (n:=n) c.P hnn
 show MapK ik h' c.km (List.map _ (c.P.filter fun x => !decide (x.n=n)))
 rw [←this]
 exact hm
set_option maxHeartbeats 4000000 in
theorem free_c {rk:Int→Nat} {f:Nat} {o:Nat} {c:Ca} {s:St} {p:Ps} (hf:∀n,rk n<f) (hr:Ranks rk c) (us:(c.P.map (·.u)).Nodup) (a:CAt h o c s) (ps:PsAt s p) (hs:s.steps+2*c.dN+4<1000000)
 (H:∀h' s',CUpd h h' o c s (freeP f (c,p)).1.1 s'→PsAt s' (freeP f (c,p)).1.2→K (.int .i64 (freeP f (c,p)).2) h'):CallsH Tryz.prog 80 #[ptrV o] h K ⟨⟩:=by
 refine n80_calls ?_
 unfold n80; try delta vF vG vC vD vJ vV vk vt
 have c3:=ce3 a.co.cells
 have c4:=ce4 a.co.cells
 have hr1:=a.co.ok.r1
 have hfw:=a.co.ok.few
 have hkl:c.keptL.length=c.P.length:=by unfold Ca.keptL; simp
 have hlen:=fun (q:Bool) (ty:Nat) (g:Heap) (K:VP) (hm:MapK ik g c.km c.keptL)=>Hp_lenMap (P:=Tryz.prog) (q:=q) (t:=88) (ty:=ty) (K:=K) hm kR
 have hol:=get_some_lt a.co.cells
 have hoq:¬o=h.size:=by omega
 unfold freeP at H
 dsimp only at H
 unfold ptrV
 simp (disch:=omega) [c3,c4,Hp_lenMap (P:=Tryz.prog) (t:=88) a.co.kept kR,hkl]
 by_cases hroom:c.P.length<c.room
 ·rw [if_pos hroom] at H
  simp (disch:=omega) [hroom]
  exact H h s (.refl a) ps
 rw [if_neg hroom] at H
 have hr0:=a.co.ok.r0
 simp (disch:=omega) [hroom,c4,hoq]
 refine (⟨_,rfl⟩:∃g,g=h.push (.cells #[.slice none 0 0] 188)).elim fun h1 eh1 => ?_
 have e1:Ext h h1:=by rw [eh1]; exact extS
 have z1:h1.size=h.size+1:=by rw [eh1]; simp
 have q1:h1[h.size]? = some (.cells #[.slice none 0 0] orT):=by rw [eh1]; exact get_pushed rfl
 rw [←eh1]
 clear eh1
 refine Hp_rangeM kR (a.co.kept.ext e1) fun h2 e2 it2 z2 => ?_
 have hlc:(c.P.length:Int)<100000:=by omega
 refine loopMap0 (fun I g=>Ext h g∧∃v,g[h.size]? = some (.cells #[v] orT)∧OwnT ppT 1 g v (rowP (I.filterMap (fun i=>c.P[i]?)))∧(∀b,blkV v=some b→h.size<b)) it2 ⟨e1.trans e2,_,(e2.block _ omg).trans q1,.nil,fun b hb=>by cases hb⟩ ?_
 rintro I g hI hn hlt ⟨eg,v,gv,ov,fv⟩ X hX
 have hIl:=nodup_len hn hlt
 have hkm:c.km<h.size:=a.co.kept.lt
 have itx:∃x1 x2 x3 x4,g[h1.size]? = some (.mapIter x1 x2 x3 x4):=by obtain ⟨_,_,_,_,_,_,m6,_,_⟩:=hI; exact ⟨_,_,_,_,m6⟩
 refine Hp_next hI (fun i hi hiI g' m' hI' => ?_) (fun hall => ?_)
 ·have hi':i<c.P.length:=by omega
  have hgi:c.keptL[i]=(c.P[i].n,ptrV c.P[i].pb):=by
   have:c.keptL[i]? = some (c.P[i].n,ptrV c.P[i].pb):=by unfold Ca.keptL; rw [List.getElem?_map,List.getElem?_eq_getElem hi']; rfl
   exact Option.some.inj ((List.getElem?_eq_getElem hi).symm.trans this)
  have eg':Ext h g':=m'.ext_from eg (fun b hb e=>by omega)
  have gv':=(m'.block h.size (get_some_lt gv) omg).trans gv
  have hit:∀b,blkV v=some b→b≠h1.size:=fun b hb e=>by
   obtain ⟨x1,x2,x3,x4,hx⟩:=itx
   obtain ⟨arr,ha⟩:=ov.tag hb
   rw [e,hx] at ha; cases ha
  have ov':=ov.mod m' (fun b hb e=>hit b hb e)
  have k0:=cellOf (i:=0) gv' rfl
  obtain ⟨va,vn,vc,rfl,hvn,-,-⟩:=ov.form omg
  have hkl2:(I.filterMap (fun i=>c.P[i]?)).length≤I.length:=List.length_filterMap_le _ _
  simp (disch:=omega)
  rw [Hp_entry hI' hi]
  simp (disch:=omega) [hgi,k0,ptrV]
  refine Hp_appP (e:=ppT) (by_:=8) kR kR ov' (by rfl) (by rw [rowP_len]; omega) omg fun v' h3 o3 m3 f3 => ?_
  have hvq:∀b,blkV (.slice va vn vc)=some b→b≠h.size:=fun b hb=>by have:=fv b hb; omega
  have gv3:=(m3.block h.size (get_some_lt gv') (fun e=>hvq _ e rfl)).trans gv'
  have f0:=frzOf (i:=0) gv3
  have k3:=cellOf (i:=0) gv3 rfl
  obtain ⟨wa,wn,wc,rfl,-,-,-⟩:=o3.form omg
  simp (disch:=omega) [f0,k3]
  have m4:Mod (· = h.size) h3 (hset h3 ⟨h.size,0,none⟩ (.slice wa wn wc)):=Mod.set h3 ⟨h.size,0,none⟩ _
  have e3:Ext h h3:=m3.ext_from eg' (fun b hb e=>by have:=fv b e; omega)
  have hgl:=get_some_lt gv'
  refine hX i _ hiI hi ((hI'.mod m3 (fun e=>hit _ e rfl) (fun e=>by have:=fv _ e; omega)).mod m4 (fun e=>by omega) (fun e=>by omega)) ⟨m4.ext_from e3 (fun b hb e=>by omega),.slice wa wn wc,obj_set gv3,?_,fun b hb=>(f3 b hb).elim (fv b) (fun e=>by omega)⟩
  have hfm:(I++[i]).filterMap (fun i=>c.P[i]?)=I.filterMap (fun i=>c.P[i]?)++[c.P[i]]:=by
   rw [List.filterMap_append]
   congr 1
   rw [List.filterMap_cons,List.getElem?_eq_getElem hi']
   rfl
  rw [hfm]
  have hrow:rowP (I.filterMap (fun i=>c.P[i]?)++[c.P[i]])=rowP (I.filterMap (fun i=>c.P[i]?))++[ptrV c.P[i].pb]:=by unfold rowP; simp
  rw [hrow]
  exact o3.mod m4 (fun b hb e=>o3.ne hb gv3 ppT_ne.1 e)
 ·have hperm:(I.filterMap (fun i=>c.P[i]?)).Perm c.P:=by
   have hp:I.Perm (List.range c.P.length):=by
    refine (List.perm_ext_iff_of_nodup hn List.nodup_range).2 fun i=>⟨fun hi => ?_,fun hi=>hall i (by simp at hi; omega)⟩
    have:=hlt i hi
    simp; omega
   have h2:=hp.filterMap (fun i=>c.P[i]?)
   rw [range_filterL] at h2
   exact h2
  have hl2:=hperm.length_eq
  generalize I.filterMap (fun i=>c.P[i]?)=E0 at ov hperm hl2
  have os:OrS h h.size g E0:=⟨eg,Nat.le_refl _,⟨v,gv,ov,fun b hb=>by have:=fv b hb; omega⟩,fun x hx=>a.co.pg x (hperm.mem_iff.1 hx),by omega⟩
  simp (disch:=omega) [Hp_mkIface (P:=Tryz.prog) (t:=190) kR]
  refine hinit_c (hi_c h h.size) swo_ltP os fun h3 E1 s3 p3 ho3 => ?_
  simp (disch:=omega) [Hp_mkIface (P:=Tryz.prog) (t:=190) kR]
  refine hpop_c (hi_c h h.size) swo_ltP s3 (fun e => ?_) ho3 fun h4 x E2 s4 p4 hx4 hmin ho4 => ?_
  ·rw [e] at p3
   have:=p3.length_eq
   simp at this; omega
  refine OPop (pop_m s4 fun h5 e5 => ?_)
  have hx:x∈c.P:=hperm.mem_iff.1 (p3.mem_iff.1 (p4.mem_iff.1 sM))
  have hvic:c.victim=some x:=victim_eq us hx (fun y hy=>hmin y (p3.mem_iff.2 (hperm.mem_iff.2 hy)))
  rw [hvic] at H
  dsimp only at H
  have d0:=pc0 ((a.ext e5).co.pg x hx)
  unfold ppT ptrV
  simp (disch:=omega) [Hp_assert (P:=Tryz.prog) (t:=94) kR,d0]
  rw [show (.pointer (some ⟨o,0,none⟩):Value)=ptrV o from rfl]
  refine back_c (rk:=rk) f x.n (hf _) hr (a.ext e5) ps hs fun h6 s6 u6 ps6 => ?_
  obtain ⟨sp1,-⟩:=back_spec (rk:=rk) f x.n (c,p) (hf _) hr
  obtain ⟨x',hg',hx'⟩:=sp1.mics.less.get (n:=x.n) (x:=x) (by
   have hnn:(c.P.map (·.n)).Nodup:=by
    have:=a.co.kept.nodup
    unfold Ca.keptL at this
    rw [List.map_map] at this
    exact this
   unfold Ca.get
   cases hf:c.P.find? (fun y=>decide (y.n=x.n)) with
   | none=>have:=List.find?_eq_none.1 hf x hx; simp at this
   | some z =>
    have h1:=List.mem_of_find?_eq_some hf
    have h2:=List.find?_some hf
    rw [nodup_in hnn h1 hx (by simpa using h2)])
  generalize backP f x.n (c,p)=R at *
  obtain ⟨⟨c6,p6⟩,e⟩:=R
  dsimp only at *
  by_cases h0:e=0
  ·rw [if_pos h0] at H
   have hpb:x'.pb=x.pb:=by
    have:=congrArg Pge.pb hx'
    exact this
   have r0:=pc0 (u6.at_.co.pg x' (get_mem hg').1)
   rw [hpb,(get_mem hg').2] at r0
   have r4:=ce4 u6.at_.co.cells
   unfold ptrV
   simp (disch:=omega) [h0,r0,r4]
   refine Hp_delete keptKey u6.at_.co.kept fun h7 mp7 m7 => ?_
   have k7:=u6.at_.co.dropU mp7 m7
   have hco:CUpd h6 h7 o c6 s6 (c6.dropP x.n) s6:=u6.at_.core k7 (m7.mono (fun b _ e => .inr (.inl e))) rfl (fun b hb => .inl (foot_drop hb)) u6.at_.bk u6.at_.fl
   exact H h7 s6 ((u6.from_ e5).trans hco) ps6
  ·rw [if_neg h0] at H
   simp (disch:=omega) [h0]
   exact H h6 s6 (u6.from_ e5) ps6
end Go.Proofs.YtcbbdnaelimpfaaGreat

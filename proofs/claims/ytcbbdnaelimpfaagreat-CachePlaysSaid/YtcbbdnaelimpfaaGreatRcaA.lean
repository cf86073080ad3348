/- The document's cache: what it holds,and where; a page is found; is it open? The document's cache: a number put into a rising list; for whom a page waits; who is let be. The document's cache: for whom a page waits; who is let be. -/
import Derived.Test.YtcbbdnaelimpfaaGreatCacD
import Derived.Test.YtcbbdnaelimpfaaGreatVcFull
set_option linter.unusedSimpArgs false
set_option linter.unusedVariables false
namespace Go.Proofs.YtcbbdnaelimpfaaGreat
open Go.Vc
variable {K:VP} {h:Heap}

def rcT:Nat:=139
def rgT:Nat:=178
def rwT:Nat:=181
structure Rp where
 n:Int
 D:List UInt8
 d:Bool
 u:Nat
 bv:Value
def rgV (x:Rp):List Value:=[.int .i64 x.n,x.bv,.bool x.d,.int .i64 x.u]
def rwV2 (w:Int×Int):List Value:=[.int .i64 w.1,.int .i64 w.2]
structure Rc where
 q:Nat
 bits:Nat
 room:Nat
 L:List Rp
 N:List Int
 W:List (Int×Int)
 lv:Value
 nv:Value
 wv:Value
 clock:Nat
 hits:Nat
 loads:Nat
 backs:Nat
 flushes:Nat
def Rc.cells (c:Rc):Array Value := #[ptrV c.q,str fN,.int .i64 c.bits,.int .i64 c.room,c.lv,c.nv,c.wv,.int .i64 c.clock,.int .i64 c.hits,.int .i64 c.loads,.int .i64 c.backs,.int .i64 c.flushes]
structure Rc.ok (c:Rc):Prop where
 lf:c.L.length≤2000
 nf:c.N.length≤2000000
 wf:c.W.length≤2000000
 ap:c.L.Pairwise fun x y=>∀b,blkG x.bv=some b→blkG y.bv≠some b
 sort:c.L.Pairwise fun x y=>x.n<y.n
structure RcM (h:Heap) (o:Nat) (c:Rc):Prop where
 cells:h[o]? = some (.cells c.cells rcT)
 L:OwnG rgT 4 h c.lv (c.L.flatMap rgV)
 by_:∀x∈c.L,OwnG bT 1 h x.bv (x.D.map byteV)
 N:OwnG i6T 1 h c.nv (c.N.map ik)
 W:OwnG rwT 2 h c.wv (c.W.flatMap rwV2)
 ok:c.ok
def Rc.foot (o:Nat) (c:Rc) (b:Nat):Prop:=b=o∨blkG c.lv=some b∨blkG c.nv=some b∨blkG c.wv=some b∨∃x∈c.L,blkG x.bv=some b
theorem rc_ne:rcT≠rgT∧rcT≠rwT∧rcT≠i6T∧rcT≠bT∧rgT≠rwT∧rgT≠i6T∧rgT≠bT∧rwT≠i6T∧rwT≠bT∧i6T≠bT:=by decide
theorem RcM.mod {S:Nat→Prop} {h':Heap} {o:Nat} {c:Rc} (a:RcM h o c) (m:Mod S h h') (hS:∀b,c.foot o b→¬S b):RcM h' o c :=
 ⟨(m.block _ (get_some_lt a.cells) (hS _ (.inl rfl))).trans a.cells,a.L.mod m (fun b hb=>hS b (.inr (.inl hb))),fun x hx=>(a.by_ x hx).mod m (fun b hb=>hS b (.inr (.inr (.inr (.inr ⟨x,hx,hb⟩))))),a.N.mod m (fun b hb=>hS b (.inr (.inr (.inl hb)))),a.W.mod m (fun b hb=>hS b (.inr (.inr (.inr (.inl hb))))),a.ok⟩
theorem RcM.ext {h':Heap} {o:Nat} {c:Rc} (a:RcM h o c) (e:Ext h h'):RcM h' o c:=a.mod (S:=fun _=>False) (.of_ext e) (fun _ _ x=>x)
theorem RcM.lt {o b:Nat} {c:Rc} (a:RcM h o c) (hb:c.foot o b):b<h.size:=by
 rcases hb with rfl|hb|hb|hb|⟨x,hx,hb⟩
 ·exact get_some_lt a.cells
 ·exact a.L.lt hb
 ·exact a.N.lt hb
 ·exact a.W.lt hb
 ·exact (a.by_ x hx).lt hb
theorem RcM.cell {o i:Nat} {v:Value} {c c':Rc} (a:RcM h o c) (hc:c'.cells=c.cells.setIfInBounds i v) (hL:OwnG rgT 4 h c'.lv (c'.L.flatMap rgV)) (hb:∀x∈c'.L,OwnG bT 1 h x.bv (x.D.map byteV)) (hN:OwnG i6T 1 h c'.nv (c'.N.map ik)) (hW:OwnG rwT 2 h c'.wv (c'.W.flatMap rwV2)) (ok:c'.ok):RcM (hset h ⟨o,i,none⟩ v) o c':=by
 have m:=Mod.set h ⟨o,i,none⟩ v
 obtain ⟨n1,n2,n3,n4,-⟩:=rc_ne
 refine ⟨by rw [hc]; exact obj_set a.cells,hL.mod m (fun b e=>hL.ne e a.cells n1.symm),fun x hx=>(hb x hx).mod m (fun b e=>(hb x hx).ne e a.cells n4.symm),hN.mod m (fun b e=>hN.ne e a.cells n3.symm),hW.mod m (fun b e=>hW.ne e a.cells n2.symm),ok⟩
section
variable {o:Nat} {c:Rc} (hc:h[o]? = some (.cells c.cells rcT))
include hc
theorem rc0:hcell h ⟨o,0,none⟩=some (.pointer (some ⟨c.q,0,none⟩)):=cellOf hc rfl
theorem rc1:hcell h ⟨o,1,none⟩=some (str fN):=cellOf hc rfl
theorem rc2:hcell h ⟨o,2,none⟩=some (.int .i64 c.bits):=cellOf hc rfl
theorem rc3:hcell h ⟨o,3,none⟩=some (.int .i64 c.room):=cellOf hc rfl
theorem rc4:hcell h ⟨o,4,none⟩=some c.lv:=cellOf hc rfl
theorem rc5:hcell h ⟨o,5,none⟩=some c.nv:=cellOf hc rfl
theorem rc6:hcell h ⟨o,6,none⟩=some c.wv:=cellOf hc rfl
theorem rc7:hcell h ⟨o,7,none⟩=some (.int .i64 c.clock):=cellOf hc rfl
theorem rc8:hcell h ⟨o,8,none⟩=some (.int .i64 c.hits):=cellOf hc rfl
theorem rc9:hcell h ⟨o,9,none⟩=some (.int .i64 c.loads):=cellOf hc rfl
theorem rc10:hcell h ⟨o,10,none⟩=some (.int .i64 c.backs):=cellOf hc rfl
theorem rc11:hcell h ⟨o,11,none⟩=some (.int .i64 c.flushes):=cellOf hc rfl
theorem rcF (i:Nat):hfrozen h ⟨o,i,none⟩=false:=frzOf hc
end
theorem rgV_len:∀l:List Rp,(l.flatMap rgV).length=l.length*4
 | []=>rfl
 | r::l=>by rw [List.flatMap_cons,List.length_append,rgV_len l,List.length_cons]; show 4+_=_; omega
theorem rwV2_len:∀l:List (Int×Int),(l.flatMap rwV2).length=l.length*2
 | []=>rfl
 | r::l=>by rw [List.flatMap_cons,List.length_append,rwV2_len l,List.length_cons]; show 2+_=_; omega
theorem rgV_get:∀(l:List Rp) (i k:Nat) (hi:i<l.length) (hk:k<4),(l.flatMap rgV)[i*4+k]? = (rgV l[i])[k]?
 | r::l,0,k,_,hk=>by
  rw [List.flatMap_cons,List.getElem?_append_left (by show _<4; omega)]
  simp
 | r::l,i+1,k,hi,hk=>by
  rw [List.flatMap_cons,List.getElem?_append_right (by show 4≤_; omega)]
  show (l.flatMap rgV)[(i+1)*4+k-4]? = _
  rw [show (i+1)*4+k-4=i*4+k by omega,rgV_get l i k (by simpa using hi) hk]
  simp
theorem rwV2_get:∀(l:List (Int×Int)) (i k:Nat) (hi:i<l.length) (hk:k<2),(l.flatMap rwV2)[i*2+k]? = (rwV2 l[i])[k]?
 | r::l,0,k,_,hk=>by
  rw [List.flatMap_cons,List.getElem?_append_left (by show _<2; omega)]
  simp
 | r::l,i+1,k,hi,hk=>by
  rw [List.flatMap_cons,List.getElem?_append_right (by show 2≤_; omega)]
  show (l.flatMap rwV2)[(i+1)*2+k-2]? = _
  rw [show (i+1)*2+k-2=i*2+k by omega,rwV2_get l i k (by simpa using hi) hk]
  simp
theorem RcM.lform {o:Nat} {c:Rc} (a:RcM h o c):∃s k,c.lv = .slice s c.L.length k∧c.L.length≤k:=by
 obtain ⟨fa,fn,fc,hv,hl,hc,-⟩:=a.L.form
 rw [rgV_len] at hl
 obtain rfl:fn=c.L.length:=by omega
 exact ⟨fa,fc,hv,hc⟩
theorem RcM.wform {o:Nat} {c:Rc} (a:RcM h o c):∃s k,c.wv = .slice s c.W.length k∧c.W.length≤k:=by
 obtain ⟨fa,fn,fc,hv,hl,hc,-⟩:=a.W.form
 rw [rwV2_len] at hl
 obtain rfl:fn=c.W.length:=by omega
 exact ⟨fa,fc,hv,hc⟩
theorem RcM.pg {o:Nat} {c:Rc} (a:RcM h o c) {i:Nat} (hi:i<c.L.length):∃b t k,c.lv = .slice (some ⟨b,t,none⟩) c.L.length k∧c.L.length≤k∧(hcell h (elt ⟨b,t,none⟩ (i*4))=some (.int .i64 c.L[i].n)∧hcell h (elt ⟨b,t,none⟩ (i*4+1))=some c.L[i].bv∧hcell h (elt ⟨b,t,none⟩ (i*4+2))=some (.bool c.L[i].d)∧hcell h (elt ⟨b,t,none⟩ (i*4+3))=some (.int .i64 c.L[i].u)) ∧
 (∀k,k<4→hfrozen h (elt ⟨b,t,none⟩ (i*4+k))=false):=by
 obtain ⟨fa,fn,fc,hv,hl,hc,hne⟩:=a.L.form
 have hl':=rgV_len c.L
 rw [hl'] at hl
 obtain rfl:fn=c.L.length:=by omega
 obtain ⟨b,t,rfl⟩:=hne (fun e=>by rw [e] at hl'; simp at hl'; omega)
 have o1:=a.L
 rw [hv] at o1
 have key:∀k (hk:k<4),hcell h (elt ⟨b,t,none⟩ (i*4+k))=(rgV c.L[i])[k]? := fun k hk=>by
  have hlt:i*4+k<(c.L.flatMap rgV).length:=by omega
  rw [(o1.cell hlt).1,←List.getElem?_eq_getElem hlt,rgV_get c.L i k hi hk]
 exact ⟨b,t,fc,hv,hc,⟨key 0 omg,key 1 omg,key 2 omg,key 3 omg⟩,fun k hk=>(o1.cell (i:=i*4+k) omg).2⟩
theorem RcM.wt {o:Nat} {c:Rc} (a:RcM h o c) {i:Nat} (hi:i<c.W.length):∃ad k,c.wv = .slice (some ad) c.W.length k∧c.W.length≤k∧hcell h (elt ad (i*2))=some (.int .i64 c.W[i].1)∧hcell h (elt ad (i*2+1))=some (.int .i64 c.W[i].2):=by
 obtain ⟨fa,fn,fc,hv,hl,hc,hne⟩:=a.W.form
 have hl':=rwV2_len c.W
 rw [hl'] at hl
 obtain rfl:fn=c.W.length:=by omega
 obtain ⟨b,t,rfl⟩:=hne (fun e=>by rw [e] at hl'; simp at hl'; omega)
 have o1:=a.W
 rw [hv] at o1
 have key:∀k (hk:k<2),hcell h (elt ⟨b,t,none⟩ (i*2+k))=(rwV2 c.W[i])[k]? := fun k hk=>by
  have hlt:i*2+k<(c.W.flatMap rwV2).length:=by omega
  rw [(o1.cell hlt).1,←List.getElem?_eq_getElem hlt,rwV2_get c.W i k hi hk]
 exact ⟨_,fc,hv,hc,key 0 omg,key 1 omg⟩
def Rc.ix (c:Rc) (n:Int):Int:=match c.L.findIdx? fun x=>decide (x.n=n) with|some i=>(i:Int)|none => -1
theorem ix_some {c:Rc} {n:Int} {i:Nat} (hi:i<c.L.length) (hn:c.L[i].n=n) (hlt:∀j (hj:j<c.L.length),j<i→c.L[j].n≠n):c.ix n=i:=by
 unfold Rc.ix
 rw [show c.L.findIdx? (fun x=>decide (x.n=n))=some i from List.findIdx?_eq_some_iff_getElem.2 ⟨hi,by simpa using hn,fun j hj=>by simpa using hlt j omg hj⟩]
theorem ix_none {c:Rc} {n:Int} (h:∀x∈c.L,x.n≠n):c.ix n = -1:=by
 unfold Rc.ix
 rw [show c.L.findIdx? (fun x=>decide (x.n=n))=none from List.findIdx?_eq_none_iff.2 (fun x hx=>by simpa using h x hx)]
theorem ix_cases (c:Rc) (n:Int):(c.ix n = -1∧∀x∈c.L,x.n≠n)∨∃i,∃hi:i<c.L.length,c.ix n=i∧c.L[i].n=n:=by
 unfold Rc.ix
 cases hf:c.L.findIdx? (fun x=>decide (x.n=n)) with
 | none=>exact .inl ⟨rfl,fun x hx=>by simpa using List.findIdx?_eq_none_iff.1 hf x hx⟩
 | some i =>
  obtain ⟨hi,h1,-⟩:=List.findIdx?_eq_some_iff_getElem.1 hf
  exact .inr ⟨i,hi,rfl,by simpa using h1⟩
def Rc.dirty (c:Rc) (n:Int):Bool:=match c.L.find? fun x=>decide (x.n=n) with|some x=>x.d|none=>false
def Rc.opn (c:Rc) (n:Int):Bool:=c.dirty n || decide (n∈c.N)
theorem dirty_ix {c:Rc} (s:c.ok) {i:Nat} (hi:i<c.L.length):c.dirty c.L[i].n=c.L[i].d:=by
 unfold Rc.dirty
 have:c.L.find? (fun x=>decide (x.n=c.L[i].n))=some c.L[i]:=by
  rw [List.find?_eq_some_iff_getElem]
  refine ⟨by simp,i,hi,rfl,fun j hj => ?_⟩
  have:=List.pairwise_iff_getElem.1 s.sort j i omg hi hj
  simp; omega
 rw [this]
theorem dirty_none {c:Rc} {n:Int} (h:∀x∈c.L,x.n≠n):c.dirty n=false:=by
 unfold Rc.dirty
 rw [List.find?_eq_none.2 (fun x hx=>by simpa using h x hx)]
set_option maxHeartbeats 1000000 in
theorem cfind_c {o:Nat} {c:Rc} {n:Int} (a:RcM h o c) (H:K (.int .i64 (c.ix n)) h):CallsH Tryz.prog 100 #[ptrV o,.int .i64 n] h K ⟨⟩:=by
 refine n100_calls ?_
 unfold n100 ptrV; try delta vF vG vC vD vJ vV vk vt
 have c4:=rc4 a.cells
 obtain ⟨s,k,hv,hk⟩:=a.lform
 rw [hv] at c4
 have hlf:=a.ok.lf
 refine loopX1 (α:=Nat) (fun i => .int .i64 i) (fun i g=>g=h∧i≤c.L.length∧∀j (hj:j<c.L.length),j<i→c.L[j].n≠n) (fun i=>c.L.length-i) 0 rfl ⟨rfl,Nat.zero_le _,fun j _ hj=>by omega⟩ ?_
 rintro i g ⟨rfl,hi,hlt⟩ X hX
 by_cases hil:i<c.L.length
 ·obtain ⟨b,t,k',hv',-,⟨q0,-⟩,-⟩:=a.pg hil
  rw [hv] at hv'
  injection hv' with h1 _ h3
  subst h1
  by_cases hn:c.L[i].n=n
  ·rw [ix_some hil hn hlt] at H
   simp (disch:=omega) [c4,q0,hn]
   exact H
  ·simp (disch:=omega) [c4,q0,hn]
   refine hX (i+1) _ _ sM ⟨rfl,by omega,fun j hj hji => ?_⟩ omg
   by_cases e:j=i
   ·subst e; exact hn
   ·exact hlt j hj omg
 ·rw [ix_none (fun x hx=>by
   obtain ⟨j,hj,rfl⟩:=List.getElem_of_mem hx
   exact hlt j hj omg)] at H
  simp (disch:=omega) [c4]
  exact H
theorem in_c {v:Value} {l:List Int} {n:Int} (ov:OwnG i6T 1 h v (l.map ik)) (hl:l.length<1000000000) (H:K (.bool (decide (n∈l))) h):CallsH Tryz.prog 105 #[v,.int .i64 n] h K ⟨⟩:=by
 refine n105_calls ?_
 unfold n105; try delta vF vG vC vD vJ vV vk vt
 obtain ⟨va,vn,vc,rfl,hvn,hvc,hne⟩:=ov.form
 obtain rfl:vn=l.length:=by rw [List.length_map] at hvn; omega
 refine loopX1 (α:=Nat) (fun i => .int .i64 i) (fun i g=>g=h∧i≤l.length∧∀j (hj:j<l.length),j<i→l[j]≠n) (fun i=>l.length-i) 0 rfl ⟨rfl,Nat.zero_le _,fun j _ hj=>by omega⟩ ?_
 rintro i g ⟨rfl,hi,hlt⟩ X hX
 by_cases hil:i<l.length
 ·obtain ⟨b,t,rfl⟩:=hne (by intro e; rw [List.map_eq_nil_iff.1 e] at hil; cases hil)
  have q0:=(ov.cell (i:=i) (by rw [List.length_map]; exact hil)).1
  rw [List.getElem_map] at q0
  by_cases hn:l[i]=n
  ·rw [decide_eq_true (hn▸List.getElem_mem hil)] at H
   simp (disch:=omega) [q0,hn]
   exact H
  ·simp (disch:=omega) [q0,hn]
   refine hX (i+1) _ _ sM ⟨rfl,by omega,fun j hj hji => ?_⟩ omg
   by_cases e:j=i
   ·subst e; exact hn
   ·exact hlt j hj omg
 ·rw [decide_eq_false (fun hm=>by
   obtain ⟨j,hj,e⟩:=List.getElem_of_mem hm
   exact hlt j hj omg e)] at H
  simp (disch:=omega)
  exact H
set_option maxHeartbeats 1000000 in
theorem ropen_c {o:Nat} {c:Rc} {n:Int} (a:RcM h o c) (H:K (.bool (c.opn n)) h):CallsH Tryz.prog 99 #[ptrV o,.int .i64 n] h K ⟨⟩:=by
 refine n99_calls ?_
 unfold n99; try delta vF vG vC vD vJ vV vk vt
 have c4:=rc4 a.cells
 have c5:=rc5 a.cells
 obtain ⟨s,k,hv,hk⟩:=a.lform
 rw [hv] at c4
 have hlf:=a.ok.lf
 have hnf:=a.ok.nf
 refine cfind_c a ?_
 unfold Rc.opn at H
 have hin:=fun K' (H':K' (.bool (decide (n∈c.N))) h)=>in_c (K:=K') a.N omg H'
 rcases ix_cases c n with ⟨hx,hno⟩|⟨i,hi,hx,hn⟩
 ·rw [dirty_none hno] at H
  unfold ptrV
  simp (disch:=omega) [hx,c5]
  refine hin _ ?_
  simp (disch:=omega)
  simpa using H
 ·obtain ⟨b,t,k',hv',hk',⟨q0,q1,q2,q3⟩,-⟩:=a.pg hi
  rw [hv] at hv'
  injection hv' with h1 _ h3
  subst h1
  have hd:=dirty_ix a.ok hi
  rw [hn] at hd
  rw [hd] at H
  cases hdd:c.L[i].d with
  | true =>
   rw [hdd] at q2 H
   unfold ptrV
   simp (disch:=omega) [hx,c4,q2]
   simpa using H
  | false =>
   rw [hdd] at q2 H
   unfold ptrV
   simp (disch:=omega) [hx,c4,c5,q2]
   refine hin _ ?_
   simp (disch:=omega)
   simpa using H
end Go.Proofs.YtcbbdnaelimpfaaGreat
set_option linter.unusedSimpArgs false
set_option linter.unusedVariables false
namespace Go.Proofs.YtcbbdnaelimpfaaGreat
open Go.Vc
variable {K:VP} {h:Heap}

def PutIn (l:List Int) (x:Int) (l':List Int):Prop:=∃k,k≤l.length∧(∀j (hj:j<l.length),k≤j→x<l[j])∧(∀hk:0<k,∀hl:k-1<l.length,l[k-1]≤x)∧l'=l.take k++x::l.drop k
theorem PutIn.mem {l l':List Int} {x:Int} (p:PutIn l x l') {q:Int}:q∈l'↔q∈l∨q=x:=by
 obtain ⟨k,-,-,-,rfl⟩:=p
 rw [List.mem_append,List.mem_cons]
 constructor
 ·rintro (e|e|e)
  ·exact .inl (List.mem_of_mem_take e)
  ·exact .inr e
  ·exact .inl (List.mem_of_mem_drop e)
 ·rintro (e|e)
  ·rw [←List.take_append_drop k l] at e
   rcases List.mem_append.1 e with e|e
   ·exact .inl e
   ·exact .inr (.inr e)
  ·exact .inr (.inl e)
theorem PutIn.len {l l':List Int} {x:Int} (p:PutIn l x l'):l'.length=l.length+1:=by
 obtain ⟨k,hk,-,-,rfl⟩:=p
 rw [List.length_append,List.length_cons,List.length_take,List.length_drop]; omega
theorem PutIn.sort {l l':List Int} {x:Int} (p:PutIn l x l') (s:l.Pairwise (· < ·)) (hx:x∉l):l'.Pairwise (· < ·):=by
 obtain ⟨k,hk,h1,h2,rfl⟩:=p
 have hs:=List.pairwise_iff_getElem.1 s
 rw [List.pairwise_append]
 refine ⟨s.sublist (List.take_sublist k l),?_,fun a ha b hb => ?_⟩
 ·rw [List.pairwise_cons]
  refine ⟨fun b hb => ?_,s.sublist (List.drop_sublist k l)⟩
  obtain ⟨j,hj,rfl⟩:=List.getElem_of_mem hb
  rw [List.getElem_drop]
  rw [List.length_drop] at hj
  exact h1 (k+j) omg omg
 ·obtain ⟨i,hi,rfl⟩:=List.getElem_of_mem ha
  rw [List.length_take] at hi
  rw [List.getElem_take]
  have hkl:k-1<l.length:=by omega
  have hlt:l[i]<x:=by
   have h3:=h2 omg hkl
   have h4:l[k-1]≠x:=fun e=>hx (e▸List.getElem_mem hkl)
   by_cases e:i=k-1
   ·subst e; omega
   ·have:=hs i (k-1) omg hkl omg
    omega
  rcases List.mem_cons.1 hb with rfl|hb
  ·exact hlt
  ·obtain ⟨j,hj,rfl⟩:=List.getElem_of_mem hb
   rw [List.getElem_drop]
   rw [List.length_drop] at hj
   exact hs i (k+j) omg omg omg
set_option maxHeartbeats 4000000 in
theorem with_c {v:Value} {l:List Int} {x:Int} (ov:OwnG i6T 1 h v (l.map ik)) (few:l.length<10000000) (H:∀h' v' l',Ext h h'→PutIn l x l'→OwnG i6T 1 h' v' (l'.map ik)→(∀b,blkG v'=some b→h.size≤b)→K v' h'):CallsH Tryz.prog 125 #[v,.int .i64 x] h K ⟨⟩:=by
 refine n125_calls ?_
 unfold n125; try delta vF vG vC vD vJ vV vk vt
 obtain ⟨va,vn,vc,rfl,hvn,hvc,hne⟩:=ov.form
 obtain rfl:vn=l.length:=by rw [List.length_map] at hvn; omega
 simp (disch:=omega)
 refine loopX1 (α:=Nat) (fun i => .int .i64 i) (fun i g=>g=h∧i≤l.length∧∀j (hj:j<l.length),i≤j→x<l[j]) (fun i=>i) l.length rfl ⟨rfl,Nat.le_refl _,fun j hj hji=>by omega⟩ ?_
 rintro i g ⟨rfl,hi,hgt⟩ X hX
 have fin:(∀hk:0<i,∀hl:i-1<l.length,l[i-1]≤x)→Hp Tryz.prog false (Builtin.append_ #[102,102] 102 #[.slice none 0 0,.slice va i vc]) (fun t26 h_22=>Hp Tryz.prog false (Instr.buildSlice 102 1 #[(0,.int .i64 x)]) (fun t28 h_23=>Hp Tryz.prog false (Builtin.append_ #[102,102] 102 #[t26,t28]) (fun t29 h_24=>Hp Tryz.prog false (Instr.sliceAt 102 (.slice va l.length vc) (some (.int .i64 i)) none none) (fun t33 h_25=>Hp Tryz.prog false (Builtin.append_ #[102,102] 102 #[t29,t33]) (fun t34 h_26=>K t34 h_26) h_25 ⟨⟩) h_24 ⟨⟩) h_23 ⟨⟩) h_22 ⟨⟩) g ⟨⟩:=fun hle=>by
  have o1:=ov.cut (hi:=i) (mx:=vc) omg (Nat.le_refl _) hi
  rw [Nat.mul_one,←List.map_take] at o1
  have l1:((l.take i).map ik).length=i:=by rw [List.length_map,List.length_take]; omega
  refine Hp_appendG (e:=i6T) (s:=1) (by_:=8) (n:=0) (k:=i) kR kR OwnG.nil sM omg o1.src (by intro u hu; obtain ⟨y,-,rfl⟩:=List.mem_map.1 hu; rfl) omg omg fun v1 h1 q1 m1 b1 _ => ?_
  have e1:Ext g h1:=m1.ext_from (.refl _) (fun b hb e=>by cases e)
  have f1:∀b,blkG v1=some b→g.size≤b:=fun b hb=>(b1 b hb).elim (fun e=>by cases e) id
  rw [List.nil_append] at q1
  simp (disch:=omega)
  refine (⟨_,rfl⟩:∃G,G=h1.push (.cells #[.int .i64 x] i6T)).elim fun h2 eh2 => ?_
  have e2:Ext h1 h2:=by rw [eh2]; exact extS
  have sx:Src 1 h2 (.slice (some ⟨h1.size,0,none⟩) 1 1) 1 [ik x]:=by rw [eh2]; exact Src_new (vs:=[ik x]) rfl
  rw [show h1.push (.cells #[.int .i64 x] 2)=h2 from eh2.symm]
  clear eh2
  refine Hp_appendG (e:=i6T) (s:=1) (by_:=8) (n:=i) (k:=1) kR kR (q1.ext e2) (by rw [l1]; omega) omg sx (by simp [one,ik]) omg omg fun v3 h3 q3 m3 b3 _ => ?_
  have z1:=e1.size
  have z2:=e2.size
  have e3:Ext g h3:=m3.ext_from (e1.trans e2) (fun b hb e=>by have:=f1 b e; omega)
  have f3:∀b,blkG v3=some b→g.size≤b:=fun b hb=>(b3 b hb).elim (f1 b) (fun e=>by omega)
  rw [Hp_slgLN (s:=1) kR omg omg omg,ValT_iff,Int.toNat_natCast]
  have o4:=(ov.dropO (lo:=i) hi).ext e3
  rw [Nat.mul_one,←List.map_drop] at o4
  have l4:((l.take i).map ik++[ik x]).length=i+1:=by rw [List.length_append,l1]; rfl
  refine Hp_appendG (e:=i6T) (s:=1) (by_:=8) (n:=i+1) (k:=l.length-i) kR kR q3 (by rw [l4]; omega) omg o4.src (by intro u hu; obtain ⟨y,-,rfl⟩:=List.mem_map.1 hu; rfl) omg omg fun v5 h5 q5 m5 b5 _ => ?_
  have z3:=e3.size
  refine H h5 v5 _ (m5.ext_from e3 (fun b hb e=>by have:=f3 b e; omega)) ⟨i,hi,hgt,hle,rfl⟩ ?_ (fun b hb=>(b5 b hb).elim (f3 b) (fun e=>by omega))
  rw [List.map_append,List.map_cons]
  rw [List.append_assoc] at q5
  exact q5
 by_cases h0:0<i
 ·obtain ⟨m,rfl⟩:∃m,i=m+1:=⟨i-1,by omega⟩
  have hil:m<l.length:=hi
  obtain ⟨b,t,rfl⟩:=hne (by intro e; rw [List.map_eq_nil_iff.1 e] at hil; cases hil)
  have q0:=(ov.cell (i:=m) (by rw [List.length_map]; exact hil)).1
  rw [List.getElem_map] at q0
  have hidx:(((m+1:Nat):Int)-1).toNat=m:=by clear hgt fin; omega
  have hidx2:(((m+1:Nat):Int)-1)=(m:Int):=by clear hgt fin; omega
  obtain ⟨y,hy⟩:∃y,l[m]=y:=⟨_,rfl⟩
  rw [hy] at q0
  by_cases hx:x<y
  ·simp (disch:=omega) [q0,hx]
   refine hX m _ _ rfl ⟨rfl,by omega,fun j hj hji => ?_⟩ omg
   by_cases e:j=m
   ·subst e; rw [hy]; exact hx
   ·exact hgt j hj omg
  ·have hf:=fin (fun _ _=>by show l[m]≤x; rw [hy]; omega)
   simp (disch:=omega) [q0,hx]
   exact hf
 ·have hf:=fin (fun hk=>by omega)
  simp (disch:=omega) [h0]
  rw [Hp_slgNH (s:=1) kR omg omg,ValT_iff,Int.toNat_natCast]
  exact hf
end Go.Proofs.YtcbbdnaelimpfaaGreat
set_option linter.unusedSimpArgs false
set_option linter.unusedVariables false
namespace Go.Proofs.YtcbbdnaelimpfaaGreat
open Go.Vc
variable {K:VP} {h:Heap}

structure Rc.For (c:Rc) (n:Int) (l:List Int):Prop where
 sort:l.Pairwise (· < ·)
 mem:∀q,q∈l↔(n,q)∈c.W∧c.opn q=true
 len:l.length≤c.W.length
theorem take_mem {w:Int×Int} {W:List (Int×Int)} {i:Nat} (hi:i<W.length):w∈W.take (i+1)↔w∈W.take i∨w=W[i]:=by
 rw [List.take_succ_eq_append_getElem hi,List.mem_append]; simp
theorem put2 {b:Nat} {t:Go.TypeId} {c0 c1 v0 v1:Value} (hb:h[b]? = some (.cells #[c0,c1] t)):(hset (hset h ⟨b,0,none⟩ v0) ⟨b,1,none⟩ v1)[b]? = some (.cells #[v0,v1] t):=by
 have h0:=obj_set (i:=0) (v:=v0) hb
 exact obj_set (i:=1) (v:=v1) h0
theorem put2_ext {g:Heap} {b:Nat} {v0 v1:Value} (e:Ext g h) (hb:g.size≤b):Ext g (hset (hset h ⟨b,0,none⟩ v0) ⟨b,1,none⟩ v1):=hset_ext (hset_ext e hb) hb
set_option maxHeartbeats 4000000 in
theorem For_c {o:Nat} {c:Rc} {n:Int} (a:RcM h o c) (H:∀h' v l,Ext h h'→c.For n l→OwnG i6T 1 h' v (l.map ik)→(∀b,blkG v=some b→h.size≤b)→K v h'):CallsH Tryz.prog 106 #[ptrV o,.int .i64 n] h K ⟨⟩:=by
 refine n106_calls ?_
 unfold n106 ptrV; try delta vF vG vC vD vJ vV vk vt
 have hwf:=a.ok.wf
 refine loopX2 (α:=Nat×Value×List Int) (fun z=>z.2.1) (fun z => .int .i64 z.1) (fun z g=>z.1≤c.W.length∧Ext h g∧OwnG i6T 1 g z.2.1 (z.2.2.map ik)∧(∀b,blkG z.2.1=some b→h.size≤b)∧z.2.2.Pairwise (· < ·)∧(∀q,q∈z.2.2↔(n,q)∈c.W.take z.1∧c.opn q=true)∧z.2.2.length≤z.1) (fun z=>c.W.length-z.1) (0,.slice none 0 0,[]) ⟨rfl,rfl⟩ ⟨Nat.zero_le _,.refl _,OwnG.nil,(fun b hb=>by cases hb),.nil,(fun q=>by simp),Nat.le_refl _⟩ ?_
 rintro ⟨i,u,l⟩ g ⟨hi,e,ou,fu,sl,ml,ll⟩ X hX
 dsimp only at hi e ou fu sl ml ll ⊢
 have ag:=a.ext e
 have c6:=rc6 ag.cells
 obtain ⟨s,k,hv,hk⟩:=a.wform
 rw [hv] at c6
 by_cases hil:i<c.W.length
 ·obtain ⟨ad,k',hv',-,q0,q1⟩:=ag.wt hil
  rw [hv] at hv'
  injection hv' with h1 _ h3
  subst h1
  simp (disch:=omega) [c6,q0,q1]
  refine JoinN.mk (JoinN.mk ?_)
  simp (disch:=omega) [c6,q0,q1]
  generalize hg1:hset _ (⟨g.size,1,none⟩:Addr) _=g1
  have e1:Ext g g1:=by rw [←hg1]; exact put2_ext extS (Nat.le_refl _)
  have y1:g1[g.size]? = some (.cells #[.int .i64 c.W[i].1,.int .i64 c.W[i].2] rwT):=by rw [←hg1]; exact put2 (get_pushed rfl)
  clear hg1
  have w0:=cellOf (i:=0) y1 rfl
  have w1:=cellOf (i:=1) y1 rfl
  have htk:=fun w:Int×Int=>take_mem (w:=w) hil
  obtain ⟨w,hw⟩:∃w,c.W[i]=w:=⟨_,rfl⟩
  rw [hw] at w0 w1
  simp only [hw] at htk
  have a1:=ag.ext e1
  have skip:((n,w.2)∈c.W.take i∨w.1≠n∨c.opn w.2=false)→∀g',Ext g1 g'→X u (.int .i64 ((i:Int)+1)) g':=fun hs g' e'=>by
   refine hX (i+1,u,l) _ _ _ rfl sM ⟨by dsimp only; omega,e.trans (e1.trans e'),(ou.ext e1).ext e',fu,sl,fun q => ?_,by dsimp only; omega⟩ (by dsimp only; omega)
   dsimp only
   rw [ml q,htk]
   constructor
   ·exact fun ⟨h1,h2⟩=>⟨.inl h1,h2⟩
   ·rintro ⟨h1|h1,h2⟩
    ·exact ⟨h1,h2⟩
    ·rcases hs with h3|h3|h3
     ·have:q=w.2:=by rw [←h1]
      rw [this]; exact ⟨h3,by rw [←this]; exact h2⟩
     ·exact absurd (by rw [←h1]) h3
     ·have:q=w.2:=by rw [←h1]
      rw [←this,h2] at h3; cases h3
  by_cases hn:w.1=n
  ·simp (disch:=omega) [w0,w1,hw,hn]
   rw [show (.pointer (some ⟨o,0,none⟩):Value)=ptrV o from rfl]
   refine ropen_c a1 ?_
   cases ho:c.opn w.2 with
   | false =>
    simp (disch:=omega)
    exact skip (.inr (.inr ho)) g1 (.refl _)
   | true =>
    simp (disch:=omega) [w1]
    refine in_c (ou.ext e1) omg ?_
    by_cases hm:w.2∈l
    ·rw [decide_eq_true hm]
     simp (disch:=omega)
     exact skip (.inl ((ml w.2).1 hm).1) g1 (.refl _)
    ·rw [decide_eq_false hm]
     simp (disch:=omega) [w1]
     refine with_c (ou.ext e1) omg fun g2 v2 l2 e2 p2 o2 f2 => ?_
     simp (disch:=omega)
     have z1:=e1.size
     have z0:=e.size
     refine hX (i+1,v2,l2) _ _ _ rfl sM ⟨by dsimp only; omega,e.trans (e1.trans e2),o2,fun b hb=>by have:=f2 b hb; omega,p2.sort sl hm,fun q => ?_,by dsimp only; rw [p2.len]; omega⟩ (by dsimp only; omega)
     dsimp only
     rw [p2.mem,ml q,htk]
     constructor
     ·rintro (⟨h1,h2⟩|rfl)
      ·exact ⟨.inl h1,h2⟩
      ·exact ⟨.inr (by rw [←hn]),ho⟩
     ·rintro ⟨h1|h1,h2⟩
      ·exact .inl ⟨h1,h2⟩
      ·exact .inr (by rw [←h1])
  ·simp (disch:=omega) [w0,w1,hw,hn]
   exact skip (.inr (.inl hn)) g1 (.refl _)
 ·obtain rfl:i=c.W.length:=by omega
  rw [List.take_length] at ml
  simp (disch:=omega) [c6]
  exact H _ _ _ e ⟨sl,ml,ll⟩ ou fu
theorem filt_take {W:List (Int×Int)} {p:Int×Int→Bool} {i:Nat} (hi:i<W.length):(W.take (i+1)).filter p=(W.take i).filter p++(if p W[i]=true then [W[i]] else []):=by
 rw [List.take_succ_eq_append_getElem hi,List.filter_append]
 congr 1
 by_cases h:p W[i]=true
 ·rw [List.filter_cons_of_pos h,if_pos h]; rfl
 ·rw [List.filter_cons_of_neg h,if_neg h]; rfl
theorem rwV2_one (l:List (Int×Int)):∀u∈l.flatMap rwV2,one u=true:=fun u hu=>by
 obtain ⟨x,-,hu⟩:=List.mem_flatMap.1 hu
 unfold rwV2 at hu
 simp at hu
 rcases hu with rfl|rfl<;>rfl
theorem wt_src {g:Heap} {w:Int×Int}:Src 2 (g.push (.cells #[.int .i64 w.1,.int .i64 w.2] rwT)) (.slice (some ⟨g.size,0,none⟩) 1 1) 1 (rwV2 w):=Src_new (vs:=rwV2 w) rfl
theorem RcM.setW {o:Nat} {c:Rc} {W':List (Int×Int)} {v:Value} (a:RcM h o c) (ow:OwnG rwT 2 h v (W'.flatMap rwV2)) (few:W'.length≤2000000):RcM (hset h ⟨o,6,none⟩ v) o { c with W:=W',wv:=v } :=
 a.cell (c':={ c with W:=W',wv:=v }) rfl a.L a.by_ a.N ow ⟨a.ok.lf,a.ok.nf,few,a.ok.ap,a.ok.sort⟩
structure RcU (h h':Heap) (o:Nat) (c c':Rc):Prop where
 at_:RcM h' o c'
 mod:Mod (c.foot o) h h'
 foot:∀b,c'.foot o b→c.foot o b∨h.size≤b
 wl:c'.W.length≤c.W.length
theorem RcU.cell {o i:Nat} {v:Value} {g:Heap} {c c':Rc} (a:RcM h o c) (e:Ext h g) (A:RcM (hset g ⟨o,i,none⟩ v) o c') (hf:∀b,c'.foot o b→c.foot o b∨h.size≤b) (hw:c'.W.length≤c.W.length:=by first|exact Nat.le_refl _|exact List.length_filter_le _ _):RcU h (hset g ⟨o,i,none⟩ v) o c c' :=
 ⟨A,Mod.setIn (.of_ext e) (.inl (.inl rfl)),hf,hw⟩
set_option maxHeartbeats 4000000 in
theorem less_c {o:Nat} {c:Rc} {n:Int} (a:RcM h o c) (H:∀h' v,RcU h h' o c { c with W:=c.W.filter (fun w => !decide (w.1=n)),wv:=v }→K (.tuple #[]) h'):CallsH Tryz.prog 103 #[ptrV o,.int .i64 n] h K ⟨⟩:=by
 refine n103_calls ?_
 unfold n103 ptrV; try delta vF vG vC vD vJ vV vk vt
 have hwf:=a.ok.wf
 refine loopX2 (α:=Nat×Value) (fun z=>z.2) (fun z => .int .i64 z.1) (fun z g=>z.1≤c.W.length∧Ext h g∧OwnG rwT 2 g z.2 (((c.W.take z.1).filter (fun w => !decide (w.1=n))).flatMap rwV2)∧(∀b,blkG z.2=some b→h.size≤b)) (fun z=>c.W.length-z.1) (0,.slice none 0 0) ⟨rfl,rfl⟩ ⟨Nat.zero_le _,.refl _,OwnG.nil,(fun b hb=>by cases hb)⟩ ?_
 rintro ⟨i,u⟩ g ⟨hi,e,ou,fu⟩ X hX
 dsimp only at hi e ou fu ⊢
 have ag:=a.ext e
 have c6:=rc6 ag.cells
 have f6:=rcF ag.cells 6
 obtain ⟨s,k,hv,hk⟩:=a.wform
 rw [hv] at c6
 have hfl:((c.W.take i).filter (fun w => !decide (w.1=n))).length≤i:=Nat.le_trans (List.length_filter_le _ _) (by rw [List.length_take]; omega)
 by_cases hil:i<c.W.length
 ·obtain ⟨ad,k',hv',-,q0,q1⟩:=ag.wt hil
  rw [hv] at hv'
  injection hv' with h1 _ h3
  subst h1
  obtain ⟨w,hw⟩:∃w,c.W[i]=w:=⟨_,rfl⟩
  rw [hw] at q0 q1
  simp (disch:=omega) [c6,q0,q1]
  refine JoinN.mk (JoinN.mk ?_)
  by_cases hn:w.1=n
  ·simp (disch:=omega) [c6,q0,q1,hn]
   refine hX (i+1,u) _ _ _ rfl sM ⟨by dsimp only; omega,e,?_,fu⟩ (by dsimp only; omega)
   dsimp only
   rw [filt_take hil,hw,if_neg (by simp [hn]),List.append_nil]
   exact ou
  ·simp (disch:=omega) [c6,q0,q1,hn]
   have hcond:=hn
   have zz:=e.size
   obtain ⟨ua,un,uc,rfl,hun,huc,-⟩:=ou.form
   have hun':un=((c.W.take i).filter (fun w => !decide (w.1=n))).length:=by rw [rwV2_len] at hun; omega
   refine (⟨_,rfl⟩:∃G,G=Array.push g (.cells #[.int .i64 w.1,.int .i64 w.2] rwT)).elim fun G eG => ?_
   have eg:Ext g G:=by rw [eG]; exact extS
   have sx:Src 2 G (.slice (some ⟨Array.size g,0,none⟩) 1 1) 1 (rwV2 w):=by rw [eG]; exact wt_src
   rw [show Array.push g (.cells #[.int .i64 w.1,.int .i64 w.2] 181)=G from eG.symm]
   clear eG
   have hzz:=eg.size
   refine Hp_appendG (e:=rwT) (s:=2) (by_:=16) (n:=un) (k:=1) kR kR (ou.ext eg) hun omg sx (by simp [rwV2,one]) omg omg fun v' h' o' m' b' _ => ?_
   have hcat:((c.W.take i).filter (fun w => !decide (w.1=n))).flatMap rwV2++rwV2 w=((c.W.take (i+1)).filter (fun w => !decide (w.1=n))).flatMap rwV2:=by
    rw [filt_take hil,hw,if_pos (by simpa using hcond),List.flatMap_append]; simp
   rw [hcat] at o'
   simp (disch:=omega)
   exact hX (i+1,v') _ _ _ rfl sM ⟨by dsimp only; omega,m'.ext_from (e.trans eg) (fun b hb e2=>by have:=fu b e2; omega),o',fun b hb=>(b' b hb).elim (fu b) (fun e2=>by omega)⟩ (by dsimp only; omega)
 ·obtain rfl:i=c.W.length:=by omega
  rw [List.take_length] at ou hfl
  obtain ⟨ua,un,uc,rfl,-,-,-⟩:=ou.form
  simp (disch:=omega) [c6,f6]
  have aS:=ag.setW ou omg
  refine H _ _ (RcU.cell a e aS (fun b hb => ?_))
  rcases hb with rfl|hb|hb|hb|⟨x,hx,hb⟩
  ·exact .inl (.inl rfl)
  ·exact .inl (.inr (.inl hb))
  ·exact .inl (.inr (.inr (.inl hb)))
  ·exact .inr (fu b hb)
  ·exact .inl (.inr (.inr (.inr (.inr ⟨x,hx,hb⟩))))
set_option maxHeartbeats 4000000 in
theorem rsettle_c {o:Nat} {c:Rc} (a:RcM h o c) (H:∀h' v,RcU h h' o c { c with W:=c.W.filter (fun w=>c.opn w.2),wv:=v }→K (.tuple #[]) h'):CallsH Tryz.prog 104 #[ptrV o] h K ⟨⟩:=by
 refine n104_calls ?_
 unfold n104 ptrV; try delta vF vG vC vD vJ vV vk vt
 have hwf:=a.ok.wf
 refine loopX2 (α:=Nat×Value) (fun z=>z.2) (fun z => .int .i64 z.1) (fun z g=>z.1≤c.W.length∧Ext h g∧OwnG rwT 2 g z.2 (((c.W.take z.1).filter (fun w=>c.opn w.2)).flatMap rwV2)∧(∀b,blkG z.2=some b→h.size≤b)) (fun z=>c.W.length-z.1) (0,.slice none 0 0) ⟨rfl,rfl⟩ ⟨Nat.zero_le _,.refl _,OwnG.nil,(fun b hb=>by cases hb)⟩ ?_
 rintro ⟨i,u⟩ g ⟨hi,e,ou,fu⟩ X hX
 dsimp only at hi e ou fu ⊢
 have ag:=a.ext e
 have c6:=rc6 ag.cells
 have f6:=rcF ag.cells 6
 obtain ⟨s,k,hv,hk⟩:=a.wform
 rw [hv] at c6
 have hfl:((c.W.take i).filter (fun w=>c.opn w.2)).length≤i:=Nat.le_trans (List.length_filter_le _ _) (by rw [List.length_take]; omega)
 by_cases hil:i<c.W.length
 ·obtain ⟨ad,k',hv',-,q0,q1⟩:=ag.wt hil
  rw [hv] at hv'
  injection hv' with h1 _ h3
  subst h1
  obtain ⟨w,hw⟩:∃w,c.W[i]=w:=⟨_,rfl⟩
  rw [hw] at q0 q1
  simp (disch:=omega) [c6,q0,q1]
  refine JoinN.mk (JoinN.mk ?_)
  simp (disch:=omega) [c6,q0,q1]
  rw [show (.pointer (some ⟨o,0,none⟩):Value)=ptrV o from rfl]
  refine ropen_c ag ?_
  unfold ptrV
  cases hcond:c.opn w.2 with
  | false =>
   simp (disch:=omega)
   refine hX (i+1,u) _ _ _ rfl sM ⟨by dsimp only; omega,e,?_,fu⟩ (by dsimp only; omega)
   dsimp only
   rw [filt_take hil,hw,if_neg (by simp [hcond]),List.append_nil]
   exact ou
  | true =>
   simp (disch:=omega) [c6,q0,q1]
   have zz:=e.size
   obtain ⟨ua,un,uc,rfl,hun,huc,-⟩:=ou.form
   have hun':un=((c.W.take i).filter (fun w=>c.opn w.2)).length:=by rw [rwV2_len] at hun; omega
   refine (⟨_,rfl⟩:∃G,G=Array.push g (.cells #[.int .i64 w.1,.int .i64 w.2] rwT)).elim fun G eG => ?_
   have eg:Ext g G:=by rw [eG]; exact extS
   have sx:Src 2 G (.slice (some ⟨Array.size g,0,none⟩) 1 1) 1 (rwV2 w):=by rw [eG]; exact wt_src
   rw [show Array.push g (.cells #[.int .i64 w.1,.int .i64 w.2] 181)=G from eG.symm]
   clear eG
   have hzz:=eg.size
   refine Hp_appendG (e:=rwT) (s:=2) (by_:=16) (n:=un) (k:=1) kR kR (ou.ext eg) hun omg sx (by simp [rwV2,one]) omg omg fun v' h' o' m' b' _ => ?_
   have hcat:((c.W.take i).filter (fun w=>c.opn w.2)).flatMap rwV2++rwV2 w=((c.W.take (i+1)).filter (fun w=>c.opn w.2)).flatMap rwV2:=by
    rw [filt_take hil,hw,if_pos (by simpa using hcond),List.flatMap_append]; simp
   rw [hcat] at o'
   simp (disch:=omega)
   exact hX (i+1,v') _ _ _ rfl sM ⟨by dsimp only; omega,m'.ext_from (e.trans eg) (fun b hb e2=>by have:=fu b e2; omega),o',fun b hb=>(b' b hb).elim (fu b) (fun e2=>by omega)⟩ (by dsimp only; omega)
 ·obtain rfl:i=c.W.length:=by omega
  rw [List.take_length] at ou hfl
  obtain ⟨ua,un,uc,rfl,-,-,-⟩:=ou.form
  simp (disch:=omega) [c6,f6]
  have aS:=ag.setW ou omg
  refine H _ _ (RcU.cell a e aS (fun b hb => ?_))
  rcases hb with rfl|hb|hb|hb|⟨x,hx,hb⟩
  ·exact .inl (.inl rfl)
  ·exact .inl (.inr (.inl hb))
  ·exact .inl (.inr (.inr (.inl hb)))
  ·exact .inr (fu b hb)
  ·exact .inl (.inr (.inr (.inr (.inr ⟨x,hx,hb⟩))))
end Go.Proofs.YtcbbdnaelimpfaaGreat

/- The document's cache over its store; how it is as the plain one; flushed. The document's cache: a page is marked; what the steps keep. The document's cache: a page is written back. The document's cache: one is let go,if there is no room. The document's cache: a page is brought in,and used. The document's cache: a page is used. -/
import Derived.Test.YtcbbdnaelimpfaaGreatRvsA
set_option linter.unusedSimpArgs false
set_option linter.unusedVariables false
namespace Go.Proofs.YtcbbdnaelimpfaaGreat
open Go.Vc
variable {K:VP} {h:Heap}

structure RaM (h:Heap) (o:Nat) (r:Rc) (m:Rm) (p:Ps):Prop where
 c:RcM h o r
 s:RvM h r.q m p
def RaF (o:Nat) (r:Rc) (m:Rm) (b:Nat):Prop:=r.foot o b∨RvF r.q m b
theorem RcM.tag {o b:Nat} {r:Rc} (a:RcM h o r) (hb:r.foot o b):∃arr t,h[b]? = some (.cells arr t)∧(t=rcT∨t=rgT∨t=i6T∨t=rwT∨t=bT):=by
 rcases hb with rfl|hb|hb|hb|⟨x,hx,hb⟩
 ·exact ⟨_,_,a.cells,.inl rfl⟩
 ·obtain ⟨arr,h1⟩:=a.L.tag hb; exact ⟨arr,_,h1,.inr (.inl rfl)⟩
 ·obtain ⟨arr,h1⟩:=a.N.tag hb; exact ⟨arr,_,h1,.inr (.inr (.inl rfl))⟩
 ·obtain ⟨arr,h1⟩:=a.W.tag hb; exact ⟨arr,_,h1,.inr (.inr (.inr (.inl rfl)))⟩
 ·obtain ⟨arr,h1⟩:=(a.by_ x hx).tag hb; exact ⟨arr,_,h1,.inr (.inr (.inr (.inr rfl)))⟩
theorem RvM.tag {q b:Nat} {m:Rm} {p:Ps} (a:RvM h q m p) (hb:RvF q m b):∃arr t,h[b]? = some (.cells arr t)∧(t=rsT∨t=rfT∨t=aT∨t=rpT):=by
 rcases hb with rfl|hb|hb|hb
 ·exact ⟨_,_,a.cells,.inl rfl⟩
 ·obtain ⟨arr,h1⟩:=a.fs.tag hb; exact ⟨arr,_,h1,.inr (.inl rfl)⟩
 ·obtain ⟨arr,h1⟩:=a.fat.tag hb; exact ⟨arr,_,h1,.inr (.inr (.inl rfl))⟩
 ·cases hf:p.f with
  | none=>rw [a.pn hf] at hb; cases hb
  | some f=>obtain ⟨arr,h1⟩:=(a.ps f hf).tag hb; exact ⟨arr,_,h1,.inr (.inr (.inr rfl))⟩
theorem tags_ne:∀t t',(t=rcT∨t=rgT∨t=i6T∨t=rwT∨t=bT)→(t'=rsT∨t'=rfT∨t'=aT∨t'=rpT)→t≠t':=by
 rintro t t' (rfl|rfl|rfl|rfl|rfl) (rfl|rfl|rfl|rfl)<;>decide
theorem RaM.ne {o b:Nat} {r:Rc} {m:Rm} {p:Ps} (a:RaM h o r m p) (h1:r.foot o b) (h2:RvF r.q m b):False:=by
 obtain ⟨arr,t,e1,ht⟩:=a.c.tag h1
 obtain ⟨arr',t',e2,ht'⟩:=a.s.tag h2
 rw [e1] at e2
 cases e2
 exact tags_ne _ _ ht ht' rfl
theorem RaM.mod {S:Nat→Prop} {h':Heap} {o:Nat} {r:Rc} {m:Rm} {p:Ps} (a:RaM h o r m p) (d:Mod S h h') (hS:∀b,RaF o r m b→¬S b):RaM h' o r m p:=⟨a.c.mod d (fun b hb=>hS b (.inl hb)),a.s.mod d (fun b hb=>hS b (.inr hb))⟩
theorem RaM.ext {h':Heap} {o:Nat} {r:Rc} {m:Rm} {p:Ps} (a:RaM h o r m p) (e:Ext h h'):RaM h' o r m p:=⟨a.c.ext e,a.s.ext e⟩
theorem RaM.lt {o b:Nat} {r:Rc} {m:Rm} {p:Ps} (a:RaM h o r m p) (hb:RaF o r m b):b<h.size:=by
 rcases hb with hb|hb
 ·exact a.c.lt hb
 ·obtain ⟨arr,t,e2,-⟩:=a.s.tag hb; exact get_some_lt e2
structure RaU (h h':Heap) (o:Nat) (r:Rc) (m:Rm) (r':Rc) (m':Rm) (p':Ps):Prop where
 at_:RaM h' o r' m' p'
 mod:Mod (RaF o r m) h h'
 foot:∀b,RaF o r' m' b→RaF o r m b∨h.size≤b
 wl:r'.W.length≤r.W.length
theorem RaU.refl {o:Nat} {r:Rc} {m:Rm} {p:Ps} (a:RaM h o r m p):RaU h h o r m r m p:=⟨a,.refl _ _,fun _ h => .inl h,Nat.le_refl _⟩
theorem RaU.trans {h1 h2:Heap} {o:Nat} {r r1 r2:Rc} {m m1 m2:Rm} {p1 p2:Ps} (u:RaU h h1 o r m r1 m1 p1) (v:RaU h1 h2 o r1 m1 r2 m2 p2):RaU h h2 o r m r2 m2 p2:=by
 have hs:=u.mod.size
 refine ⟨v.at_,u.mod.trans v.mod (fun b hb hy=>(u.foot b hy).resolve_right omg),fun b hb => ?_,Nat.le_trans v.wl u.wl⟩
 rcases v.foot b hb with h3|h3
 ·exact u.foot b h3
 ·exact .inr omg
theorem RaU.ext {h1 h2:Heap} {o:Nat} {r r1:Rc} {m m1:Rm} {p1:Ps} (u:RaU h h1 o r m r1 m1 p1) (e:Ext h1 h2):RaU h h2 o r m r1 m1 p1:=⟨u.at_.ext e,u.mod.extIn e,u.foot,u.wl⟩
theorem RaU.from_ {h0 h1:Heap} {o:Nat} {r r1:Rc} {m m1:Rm} {p1:Ps} (e:Ext h0 h) (u:RaU h h1 o r m r1 m1 p1):RaU h0 h1 o r m r1 m1 p1:=by
 have hs:=e.size
 exact ⟨u.at_,(Mod.of_ext e).trans u.mod (fun _ _ h=>h),fun b hb=>(u.foot b hb).imp id (fun h=>by omega),u.wl⟩
theorem RcU.a {h':Heap} {o:Nat} {r r':Rc} {m:Rm} {p:Ps} (a:RaM h o r m p) (u:RcU h h' o r r') (hq:r'.q=r.q):RaU h h' o r m r' m p :=
 ⟨⟨u.at_,by rw [hq]; exact a.s.mod u.mod (fun b hb hF=>a.ne hF hb)⟩,u.mod.mono (fun b _ e => .inl e),fun b hb=>hb.elim (fun e=>(u.foot b e).imp .inl id) (fun e=>by rw [hq] at e; exact .inl (.inr e)),u.wl⟩
theorem RvU.a {h':Heap} {o:Nat} {r:Rc} {m m':Rm} {p p':Ps} (a:RaM h o r m p) (u:RvU h h' r.q m m' p'):RaU h h' o r m r m' p' :=
 ⟨⟨a.c.mod u.mod (fun b hb hF=>a.ne hb hF),u.at_⟩,u.mod.mono (fun b _ e => .inr e),fun b hb=>hb.elim (fun e => .inl (.inl e)) (fun e=>(u.foot b e).imp .inr id),Nat.le_refl _⟩
theorem RcM.num {o i:Nat} {k:Nat} {c c':Rc} (a:RcM h o c) (hc:c'.cells=c.cells.setIfInBounds i (.int .i64 k)) (hl:c'.L=c.L∧c'.N=c.N∧c'.W=c.W∧c'.lv=c.lv∧c'.nv=c.nv∧c'.wv=c.wv):RcU h (hset h ⟨o,i,none⟩ (.int .i64 k)) o c c':=by
 obtain ⟨h1,h2,h3,h4,h5,h6⟩:=hl
 refine RcU.cell a (.refl _) (a.cell hc (by rw [h1,h4]; exact a.L) (by rw [h1]; exact a.by_) (by rw [h2,h5]; exact a.N) (by rw [h3,h6]; exact a.W) ⟨by rw [h1]; exact a.ok.lf,by rw [h2]; exact a.ok.nf,by rw [h3]; exact a.ok.wf,by rw [h1]; exact a.ok.ap,by rw [h1]; exact a.ok.sort⟩) (fun b hb => .inl ?_) (by rw [h3]; exact Nat.le_refl _)
 unfold Rc.foot at hb ⊢
 rw [h1,h4,h5,h6] at hb
 exact hb
theorem RcM.setN0 {o:Nat} {c:Rc} (a:RcM h o c):RcU h (hset h ⟨o,5,none⟩ (.slice none 0 0)) o c { c with N:=[],nv := .slice none 0 0 }:=by
 refine RcU.cell a (.refl _) (a.cell (c':={ c with N:=[],nv := .slice none 0 0 }) rfl a.L a.by_ OwnG.nil a.W ⟨a.ok.lf,Nat.zero_le _,a.ok.wf,a.ok.ap,a.ok.sort⟩) (fun b hb => .inl ?_)
 rcases hb with hb|hb|hb|hb|hb
 ·exact .inl hb
 ·exact .inr (.inl hb)
 ·cases hb
 ·exact .inr (.inr (.inr (.inl hb)))
 ·exact .inr (.inr (.inr (.inr hb)))
def st1 (x:Rp):Int×List UInt8×Bool×Nat:=(x.n,x.D,x.d,x.u)
def st2 (x:Pge):Int×List UInt8×Bool×Nat:=(x.n,x.D,x.d,x.u)
structure Rel (r:Rc) (c:Ca):Prop where
 bits:r.bits=c.bits
 room:r.room=c.room
 clock:r.clock=c.clock
 hits:r.hits=c.hits
 loads:r.loads=c.loads
 backs:r.backs=c.backs
 flushes:r.flushes=c.flushes
 L:(r.L.map st1).Perm (c.P.map st2)
 N:∀q,q∈r.N↔q∈c.pend
 W:∀m q,(m,q)∈r.W↔q∈c.ws m
 nb:r.N.length≤r.backs
theorem Rel.len {r:Rc} {c:Ca} (a:Rel r c):r.L.length=c.P.length:=by have:=a.L.length_eq; simpa using this
theorem Rel.nums {r:Rc} {c:Ca} (a:Rel r c):(r.L.map (·.n)).Perm (c.P.map (·.n)):=by
 have:=a.L.map Prod.fst
 rw [List.map_map,List.map_map] at this
 exact this
theorem Rel.nd {r:Rc} {c:Ca} (a:Rel r c) (s:r.L.Pairwise fun x y=>x.n<y.n):(c.P.map (·.n)).Nodup:=by
 rw [←a.nums.nodup_iff]
 rw [List.nodup_iff_pairwise_ne,List.pairwise_map]
 exact s.imp (fun h=>by omega)
theorem Rel.get {r:Rc} {c:Ca} (a:Rel r c) (s:r.L.Pairwise fun x y=>x.n<y.n) {x:Rp} (hx:x∈r.L):∃g,c.get x.n=some g∧g.D=x.D∧g.d=x.d∧g.u=x.u:=by
 have:st1 x∈c.P.map st2:=a.L.mem_iff.1 (List.mem_map_of_mem hx)
 obtain ⟨g,hg,he⟩:=List.mem_map.1 this
 unfold st1 st2 at he
 simp only [Prod.mk.injEq] at he
 obtain ⟨e1,e2,e3,e4⟩:=he
 exact ⟨g,by rw [←e1]; exact get_of_mem (a.nd s) hg,e2,e3,e4⟩
theorem Rel.none_ {r:Rc} {c:Ca} (a:Rel r c) {n:Int} (hn:∀x∈r.L,x.n≠n):c.get n=none:=by
 cases hg:c.get n with
 | none=>rfl
 | some g =>
  obtain ⟨h1,h2⟩:=get_mem hg
  have:n∈r.L.map (·.n):=a.nums.mem_iff.2 (h2▸List.mem_map_of_mem h1)
  obtain ⟨x,hx,e⟩:=List.mem_map.1 this
  exact absurd e (hn x hx)
theorem Rel.dirty {r:Rc} {c:Ca} (a:Rel r c) (s:r.L.Pairwise fun x y=>x.n<y.n) (n:Int):r.dirty n=c.dirty n:=by
 unfold Rc.dirty
 cases hf:r.L.find? (fun x=>decide (x.n=n)) with
 | none =>
  have hn:∀x∈r.L,x.n≠n:=fun x hx=>by simpa using List.find?_eq_none.1 hf x hx
  unfold Ca.dirty
  rw [a.none_ hn]
 | some x =>
  have hx:=List.mem_of_find?_eq_some hf
  have hxn:x.n=n:=by simpa using List.find?_some hf
  obtain ⟨g,h1,-,h3,-⟩:=a.get s hx
  unfold Ca.dirty
  rw [←hxn,h1]
  exact h3.symm
theorem Rel.opn {r:Rc} {c:Ca} (a:Rel r c) (s:r.L.Pairwise fun x y=>x.n<y.n) (n:Int):r.opn n=c.opn n:=by
 unfold Rc.opn Ca.opn
 rw [a.dirty s]
 congr 1
 exact decide_eq_decide.2 (a.N n)
theorem sorted_eq:∀{a b:List Int},a.Pairwise (· < ·)→b.Pairwise (· < ·)→(∀x,x∈a↔x∈b)→a=b:=by
 intro a b ha hb h
 have na:a.Nodup:=by rw [List.nodup_iff_pairwise_ne]; exact ha.imp (fun h=>by omega)
 have nb:b.Nodup:=by rw [List.nodup_iff_pairwise_ne]; exact hb.imp (fun h=>by omega)
 refine List.Perm.eq_of_pairwise (le:=(· ≤ ·)) (fun a b _ _ h1 h2=>by omega) (ha.imp (fun h=>by omega)) (hb.imp (fun h=>by omega)) ((List.perm_ext_iff_of_nodup na nb).2 h)
def Nds (c:Ca):Prop:=∀n,(c.ws n).Nodup
theorem Rel.For {r:Rc} {c:Ca} (a:Rel r c) (s:r.L.Pairwise fun x y=>x.n<y.n) (nd:Nds c) {n:Int} {l:List Int} (f:r.For n l):l=c.beh n:=by
 have hb:(c.beh n).Nodup:=(beh_perm c n).nodup_iff.2 ((nd n).sublist List.filter_sublist)
 have hs:(c.beh n).Pairwise (· < ·):=by
  have h1:=beh_sorted c n
  rw [List.nodup_iff_pairwise_ne] at hb
  exact (h1.and hb).imp (fun h=>by omega)
 refine sorted_eq f.sort hs (fun q => ?_)
 rw [f.mem,beh_mem,a.W,a.opn s]
theorem Rel.settle {r:Rc} {c:Ca} (a:Rel r c) (s:r.L.Pairwise fun x y=>x.n<y.n) {v:Value}:Rel { r with W:=r.W.filter (fun w=>r.opn w.2),wv:=v } c.settle :=
 ⟨a.bits,a.room,a.clock,a.hits,a.loads,a.backs,a.flushes,a.L,a.N,fun m q=>by
  show (m,q)∈r.W.filter _↔_
  rw [settle_ws,List.mem_filter,List.mem_filter,a.W,a.opn s],a.nb⟩
set_option maxHeartbeats 4000000 in
theorem rflush_c {o:Nat} {r:Rc} {m:Rm} {p:Ps} {c:Ca} (a:RaM h o r m p) (R:Rel r c) (hs:p.steps+1<1000000) (hfl:r.flushes<1000000)
 (H:∀h' r' m',RaU h h' o r m r' m' (flushP (c,p)).1.2→Rel r' (flushP (c,p)).1.1→r'.q=r.q→K (.int .i64 (flushP (c,p)).2) h'):CallsH Tryz.prog 102 #[ptrV o] h K ⟨⟩:=by
 refine n102_calls ?_
 unfold n102; try delta vF vG vC vD vJ vV vk vt
 have c0:=rc0 a.c.cells
 have c1:=rc1 a.c.cells
 unfold ptrV
 simp (disch:=omega) [c0,c1]
 rw [show (.pointer (some ⟨r.q,0,none⟩):Value)=ptrV r.q from rfl]
 unfold flushP at H
 have hE : -9223372036854775808≤p.flush.2∧p.flush.2<9223372036854775808:=by
  unfold Ps.flush
  cases p.f with
  | none=>dsimp only; decide
  | some f=>exact fateE_rng p.fates
 refine rFlushF_c a.s hs fun h1 m1 u1 => ?_
 have U1:=u1.a a
 by_cases h0:p.flush.2=0
 ·rw [if_pos h0] at H
  rw [h0]
  have A1:=U1.at_
  have c11:=rc11 A1.c.cells
  have f11:=rcF A1.c.cells 11
  have f5:=rcF A1.c.cells 5
  have c5:=rc5 A1.c.cells
  refine JoinN.mk ?_
  have hcast:((r.flushes:Nat):Int)+1=((r.flushes+1:Nat):Int):=by omega
  simp (disch:=omega) [f5,c5,c11,f11]
  rw [hcast]
  have u2:=A1.c.setN0
  have U2:=U1.trans (u2.a A1 rfl)
  have A2:=U2.at_
  generalize hset h1 ⟨o,5,none⟩ (.slice none 0 0)=h2 at *
  have u3:=A2.c.num (i:=11) (k:=r.flushes+1) (c':={ r with N:=[],nv := .slice none 0 0,flushes:=r.flushes+1 }) rfl ⟨rfl,rfl,rfl,rfl,rfl,rfl⟩
  have U3:=U2.trans (u3.a A2 rfl)
  have A3:=U3.at_
  generalize hset h2 ⟨o,11,none⟩ (.int .i64 ((r.flushes+1:Nat):Int))=h3 at *
  rw [show (.pointer (some ⟨o,0,none⟩):Value)=ptrV o from rfl]
  have R3:Rel { r with N:=[],nv := .slice none 0 0,flushes:=r.flushes+1 } { c with flushes:=c.flushes+1,pend:=[] } :=
   ⟨R.bits,R.room,R.clock,R.hits,R.loads,R.backs,by show r.flushes+1=c.flushes+1; rw [R.flushes],R.L,fun q=>by simp,R.W,Nat.zero_le _⟩
  refine rsettle_c A3.c fun h4 v4 u4 => ?_
  have U4:=U3.trans (u4.a A3 rfl)
  exact H h4 _ m1 U4 (R3.settle A3.c.ok.sort) rfl
 ·rw [if_neg h0] at H
  refine JoinN.mk ?_
  simp (disch:=omega) [h0]
  exact H h1 r m1 U1 R rfl
end Go.Proofs.YtcbbdnaelimpfaaGreat
set_option linter.unusedSimpArgs false
set_option linter.unusedVariables false
namespace Go.Proofs.YtcbbdnaelimpfaaGreat
open Go.Vc
variable {K:VP} {h:Heap}

structure Pl (x:Cx):Prop where
 nds:Nds x.1
 num:∀g∈x.1.P,0≤g.n∧g.n*((2^x.1.bits:Nat):Int)<268435456
 len:∀g∈x.1.P,g.D.length=2^x.1.bits
 b1:x.1.bits≤16
 b0:9≤x.1.bits
 bk:x.1.backs≤x.2.steps
 fl:x.1.flushes≤x.2.steps
theorem Less.pg {c c':Ca} (l:Less c c') {g:Pge} (hg:g∈c'.P):∃y∈c.P,y.n=g.n∧y.D=g.D:=by
 have:=congrArg (List.map fun x:Pge=>(x.n,x.D)) l.shape
 rw [List.map_map,List.map_map] at this
 have hm:(g.n,g.D)∈c.P.map fun x=>(x.n,x.D):=by
  have h1:(g.n,g.D)∈c'.P.map fun x=>(x.n,x.D):=List.mem_map.2 ⟨g,hg,rfl⟩
  have e:(c'.P.map fun x=>(x.n,x.D))=c.P.map fun x=>(x.n,x.D):=this
  rw [e] at h1; exact h1
 obtain ⟨y,hy,he⟩:=List.mem_map.1 hm
 simp only [Prod.mk.injEq] at he
 exact ⟨y,hy,he.1,he.2⟩
theorem Mic.pl {x y:Cx} (m:Mic x y) (a:Pl x):Pl y:=by
 have hb:=m.less.bits
 have hnum:∀g∈y.1.P,0≤g.n∧g.n*((2^y.1.bits:Nat):Int)<268435456:=fun g hg=>by
  obtain ⟨z,hz,h1,-⟩:=m.less.pg hg
  rw [hb,←h1]; exact a.num z hz
 have hlen:∀g∈y.1.P,g.D.length=2^y.1.bits:=fun g hg=>by
  obtain ⟨z,hz,-,h1⟩:=m.less.pg hg
  rw [hb,←h1]; exact a.len z hz
 have hbk:=a.bk
 have hfl:=a.fl
 cases m with
 | flush =>
  refine ⟨fun n => ?_,hnum,hlen,by rw [hb]; exact a.b1,by rw [hb]; exact a.b0,?_,?_⟩
  ·unfold flushP
   split
   ·show (x.1.flushed.ws n).Nodup
    rw [flushed_ws]; exact (a.nds n).sublist List.filter_sublist
   ·exact a.nds n
  all_goals
   unfold flushP Ps.flush
   cases hf:x.2.f with
   | none =>
    dsimp only
    rw [if_neg dM]
    first|exact hbk|exact hfl
   | some f =>
    dsimp only
    split
    ·first|exact Nat.le_succ_of_le hbk|exact Nat.succ_le_succ hfl
    ·first|exact Nat.le_succ_of_le hbk|exact Nat.le_succ_of_le hfl
 | write n g h1 h2 h3 =>
  refine ⟨fun m => ?_,hnum,hlen,by rw [hb]; exact a.b1,by rw [hb]; exact a.b0,?_,?_⟩
  ·unfold writeP
   split
   ·show ((x.1.cleaned n).ws m).Nodup
    rw [cleaned_ws]
    split
    ·exact .nil
    ·exact a.nds m
   ·exact a.nds m
  all_goals
   unfold writeP Ps.write
   cases hf:x.2.f with
   | none =>
    dsimp only
    rw [if_neg dM]
    first|exact hbk|exact hfl
   | some f =>
    dsimp only
    split
    ·first|exact Nat.succ_le_succ hbk|exact Nat.le_succ_of_le hfl
    ·first|exact Nat.le_succ_of_le hbk|exact Nat.le_succ_of_le hfl
theorem Mics.pl {x y:Cx} (m:Mics x y) (a:Pl x):Pl y:=by
 induction m with
 | refl=>exact a
 | tail ms m ih=>exact m.pl ih

theorem rgV_set:∀(l:List Rp) (i k:Nat) (hi:i<l.length) (hk:k<4) (v:Value) (x':Rp),rgV x'=(rgV l[i]).set k v→(l.flatMap rgV).set (i*4+k) v=(l.set i x').flatMap rgV
 | x::l,0,k,_,hk,v,x',he=>by
  rw [List.flatMap_cons,List.set_append_left _ _ (by show _<4; omega),List.set_cons_zero,List.flatMap_cons]
  simp only [List.getElem_cons_zero] at he
  rw [he]; simp
 | x::l,i+1,k,hi,hk,v,x',he=>by
  rw [List.flatMap_cons,List.set_append_right _ _ (by show 4≤_; omega),List.set_cons_succ,List.flatMap_cons]
  show rgV x++(l.flatMap rgV).set ((i+1)*4+k-4) v=_
  rw [show (i+1)*4+k-4=i*4+k by omega,rgV_set l i k (by simpa using hi) hk v x' (by simpa using he)]
theorem RcM.setP {o i k:Nat} {c:Rc} {v:Value} {x':Rp} {b t kk:Nat} (a:RcM h o c) (hi:i<c.L.length) (hk:k<4) (hlv:c.lv = .slice (some ⟨b,t,none⟩) c.L.length kk) (hc:c.L.length≤kk) (he:rgV x'=(rgV c.L[i]).set k v) (hD:x'.D=c.L[i].D) (hbv:x'.bv=c.L[i].bv) (hn:x'.n=c.L[i].n) :
 RcU h (hset h (elt ⟨b,t,none⟩ (i*4+k)) v) o c { c with L:=c.L.set i x' }:=by
 have hlb:blkG c.lv=some b:=by
  rw [hlv]
  obtain ⟨k,rfl⟩:∃k,kk=k+1:=⟨kk-1,by omega⟩
  rfl
 obtain ⟨arr,hbt⟩:=a.L.tag hlb
 obtain ⟨n1,n2,n3,n4,n5,n6,n7,n8,n9,n10⟩:=rc_ne
 have m1:Mod (· = b) h (hset h (elt ⟨b,t,none⟩ (i*4+k)) v):=(Mod.set h (elt ⟨b,t,none⟩ (i*4+k)) v).mono (fun x _ e=>by
  have e':x=(elt (⟨b,t,none⟩:Addr) (i*4+k)).block:=e
  rw [elt_blk] at e'; exact e')
 have o1:=a.L
 rw [hlv] at o1
 have o2:=OwnG.set (u:=v) o1 (i:=i*4+k) (by rw [rgV_len]; omega)
 rw [rgV_set c.L i k hi hk v x' he] at o2
 have hmem:∀x∈c.L.set i x',∃y∈c.L,x.bv=y.bv∧x.D=y.D:=fun x hx=>by
  rcases List.mem_or_eq_of_mem_set hx with h1|h1
  ·exact ⟨x,h1,rfl,rfl⟩
  ·exact ⟨c.L[i],List.getElem_mem hi,by rw [h1,hbv],by rw [h1,hD]⟩
 have hget:∀j (hj:j<(c.L.set i x').length),∃hj':j<c.L.length,(c.L.set i x')[j].bv=c.L[j].bv∧(c.L.set i x')[j].n=c.L[j].n:=fun j hj=>by
  rw [List.length_set] at hj
  refine ⟨hj,?_⟩
  rw [List.getElem_set]
  split
  ·rename_i e; subst e; exact ⟨hbv,hn⟩
  ·exact ⟨rfl,rfl⟩
 refine ⟨⟨(m1.block _ (get_some_lt a.cells) (fun e=>by
  have e':o=b:=e
  have:=a.cells
  rw [e',hbt] at this; cases this)).trans a.cells,?_,fun x hx => ?_,a.N.mod m1 (fun x hx e=>a.N.ne hx hbt n6.symm e),a.W.mod m1 (fun x hx e=>a.W.ne hx hbt n5.symm e),⟨by rw [List.length_set]; exact a.ok.lf,a.ok.nf,a.ok.wf,?_,?_⟩⟩,m1.mono (fun x _ e => .inr (.inl (by rw [hlb,e]))),fun x hx => ?_,Nat.le_refl _⟩
 ·show OwnG rgT 4 _ c.lv _
  rw [hlv]; exact o2
 ·obtain ⟨y,hy,h1,h2⟩:=hmem x hx
  rw [h1,h2]
  exact (a.by_ y hy).mod m1 (fun z hz e=>(a.by_ y hy).ne hz hbt n7.symm e)
 ·rw [List.pairwise_iff_getElem]
  intro p q hp hq hpq
  obtain ⟨hp',e1,-⟩:=hget p hp
  obtain ⟨hq',e2,-⟩:=hget q hq
  rw [e1,e2]
  exact List.pairwise_iff_getElem.1 a.ok.ap p q hp' hq' hpq
 ·rw [List.pairwise_iff_getElem]
  intro p q hp hq hpq
  obtain ⟨hp',-,e1⟩:=hget p hp
  obtain ⟨hq',-,e2⟩:=hget q hq
  rw [e1,e2]
  exact List.pairwise_iff_getElem.1 a.ok.sort p q hp' hq' hpq
 ·rcases hx with hx|hx|hx|hx|⟨y,hy,hx⟩
  ·exact .inl (.inl hx)
  ·exact .inl (.inr (.inl hx))
  ·exact .inl (.inr (.inr (.inl hx)))
  ·exact .inl (.inr (.inr (.inr (.inl hx))))
  ·obtain ⟨z,hz,h1,-⟩:=hmem y hy
   exact .inl (.inr (.inr (.inr (.inr ⟨z,hz,by rw [←h1]; exact hx⟩))))
theorem RcM.setN {o:Nat} {c:Rc} {N':List Int} {v:Value} {g:Heap} (a:RcM h o c) (e:Ext h g) (on:OwnG i6T 1 g v (N'.map ik)) (few:N'.length≤2000000) (fr:∀b,blkG v=some b→h.size≤b):RcU h (hset g ⟨o,5,none⟩ v) o c { c with N:=N',nv:=v }:=by
 have ag:=a.ext e
 refine RcU.cell a e (ag.cell (c':={ c with N:=N',nv:=v }) rfl ag.L ag.by_ on ag.W ⟨a.ok.lf,few,a.ok.wf,a.ok.ap,a.ok.sort⟩) (fun b hb => ?_)
 rcases hb with hb|hb|hb|hb|hb
 ·exact .inl (.inl hb)
 ·exact .inl (.inr (.inl hb))
 ·exact .inr (fr b hb)
 ·exact .inl (.inr (.inr (.inr (.inl hb))))
 ·exact .inl (.inr (.inr (.inr (.inr hb))))
theorem set_map {L:List Rp} {i:Nat} {x':Rp} (hi:i<L.length) (s:L.Pairwise fun x y=>x.n<y.n) (F:Int×List UInt8×Bool×Nat→Int×List UInt8×Bool×Nat) (hF:F (st1 L[i])=st1 x') (hN:∀t,t.1≠L[i].n→F t=t):(L.set i x').map st1=(L.map st1).map F:=by
 apply List.ext_getElem sM
 intro j h1 h2
 simp only [List.getElem_map,List.getElem_set]
 split
 ·rename_i e; subst e; exact hF.symm
 ·rename_i e
  have hj:j<L.length:=by simpa using h2
  refine (hN _ ?_).symm
  show L[j].n≠L[i].n
  have hs:=List.pairwise_iff_getElem.1 s
  rcases Nat.lt_or_gt_of_ne e with h3|h3
  ·have:=hs i j hi hj h3; omega
  ·have:=hs j i hj hi h3; omega
theorem Rel.cleaned {r:Rc} {c:Ca} (a:Rel r c) (s:r.L.Pairwise fun x y=>x.n<y.n) {i:Nat} (hi:i<r.L.length) {N':List Int} {nv wv:Value} (hN:∀q,q∈N'↔q∈r.N∨q=r.L[i].n) (hl:N'.length≤r.N.length+1):Rel { r with L:=r.L.set i { r.L[i] with d:=false },N:=N',nv:=nv,W:=r.W.filter (fun w => !decide (w.1=r.L[i].n)),wv:=wv,backs:=r.backs+1 } (c.cleaned r.L[i].n):=by
 refine ⟨a.bits,a.room,a.clock,a.hits,a.loads,by show r.backs+1=c.backs+1; rw [a.backs],a.flushes,?_,fun q => ?_,fun m q => ?_,Nat.le_trans hl (Nat.succ_le_succ a.nb)⟩
 ·show ((r.L.set i _).map st1).Perm ((c.P.map (Pge.clean r.L[i].n)).map st2)
  obtain ⟨F,hF⟩:∃F:Int×List UInt8×Bool×Nat→Int×List UInt8×Bool×Nat,F=fun t=>if t.1=r.L[i].n then (t.1,t.2.1,false,t.2.2.2) else t:=⟨_,rfl⟩
  rw [set_map hi s F (by rw [hF]; simp [st1]) (fun t ht=>by rw [hF]; simp [ht])]
  have h2:(c.P.map (Pge.clean r.L[i].n)).map st2=(c.P.map st2).map F:=by
   rw [List.map_map,List.map_map]
   apply List.map_congr_left
   intro g _
   show st2 (g.clean _)=F (st2 g)
   rw [hF]
   unfold Pge.clean st2
   dsimp only
   split<;>rfl
  rw [h2]
  exact a.L.map F
 ·show q∈N'↔q∈(if r.L[i].n∈c.pend then c.pend else c.pend++[r.L[i].n])
  rw [hN,a.N]
  split
  ·rename_i h1
   exact ⟨fun h=>h.elim id (fun e=>e▸h1),.inl⟩
  ·rw [List.mem_append]; simp
 ·show (m,q)∈r.W.filter _↔q∈(c.cleaned r.L[i].n).ws m
  rw [cleaned_ws,List.mem_filter,a.W]
  by_cases e:m=r.L[i].n
  ·rw [if_pos e]; simp [e]
  ·rw [if_neg e]; simp [e]
theorem backP_clean {rk:Int→Nat} {f:Nat} {q:Int} {x:Cx} (hf:rk q<f) (hd:x.1.dirty q=false):backP f q x=(x,0):=by
 obtain ⟨f',rfl⟩:∃f',f=f'+1:=⟨f-1,by omega⟩
 unfold backP
 rw [if_neg (by rw [hd]; decide)]
end Go.Proofs.YtcbbdnaelimpfaaGreat
set_option linter.unusedSimpArgs false
set_option linter.unusedVariables false
namespace Go.Proofs.YtcbbdnaelimpfaaGreat
open Go.Vc
variable {K:VP} {h:Heap}

theorem Rel.ix {r:Rc} {c:Ca} (R:Rel r c) (s:r.ok) {n:Int} (hd:c.dirty n=true):∃i,∃hi:i<r.L.length,r.ix n=i∧r.L[i].n=n∧r.L[i].d=true∧∃g,c.get n=some g∧g.D=r.L[i].D:=by
 rcases ix_cases r n with ⟨-,hno⟩|⟨i,hi,h1,h2⟩
 ·rw [←R.dirty s.sort,dirty_none hno] at hd; cases hd
 ·obtain ⟨g,h3,h4,h5,-⟩:=R.get s.sort (List.getElem_mem hi)
  refine ⟨i,hi,h1,h2,?_,g,by rw [←h2]; exact h3,h4⟩
  rw [←R.dirty s.sort,←h2,dirty_ix s hi] at hd
  exact hd
set_option maxHeartbeats 8000000 in
theorem rback_c {rk:Int→Nat}:∀(f:Nat) (n:Int) {K:VP} {h:Heap} {o:Nat} {r:Rc} {m:Rm} {c:Ca} {p:Ps},rk n<f→Ranks rk c→RaM h o r m p→Rel r c→Pl (c,p)→c.dirty n=true→p.steps+2*c.dN+4<1000000 →
 (∀h' r' m',RaU h h' o r m r' m' (backP f n (c,p)).1.2→Rel r' (backP f n (c,p)).1.1→r'.q=r.q→K (.int .i64 (backP f n (c,p)).2) h')→CallsH Tryz.prog 101 #[ptrV o,.int .i64 n] h K ⟨⟩
 | 0,n,K,h,o,r,m,c,p,hf,_,_,_,_,_,_,_=>absurd hf omg
 | f+1,n,K,h,o,r,m,c,p,hf,hr,a,R,pl,hd,hs,H=>by
  refine n101_calls ?_
  unfold n101; try delta vF vG vC vD vJ vV vk vt
  unfold backP at H
  rw [if_pos hd] at H
  refine For_c a.c fun h1 v l e1 fl ov fv => ?_
  have hlb:=R.For a.c.ok.sort pl.nds fl
  have hl:∀q∈c.beh n,rk q<rk n:=fun q hq=>hr n q (beh_mem.1 hq).1
  have spec:=run_spec (k:=rk n) (g:=backP f) (fun q y hq hy=>back_spec f q y omg hy) (c.beh n) (c,p) hl hr
  rw [←hlb] at hl spec H
  have hll:l.length≤2000000:=Nat.le_trans fl.len a.c.ok.wf
  obtain ⟨va,vn,vc,rfl,hvn,hvc,hva⟩:=ov.form
  obtain rfl:vn=l.length:=by rw [List.length_map] at hvn; omega
  have nf:∀b,blkG (.slice va l.length vc)=some b→b<h1.size∧¬RaF o r m b:=fun b hb=>⟨ov.lt hb,fun e=>by have:=a.lt e; have:=fv b hb; omega⟩
  refine loopX1 (α:=Nat×Ca×Ps×Rc×Rm) (fun z => .int .i64 z.1) (fun z g=>z.1≤l.length∧RaU h1 g o r m z.2.2.2.1 z.2.2.2.2 z.2.2.1∧Rel z.2.2.2.1 z.2.1∧z.2.2.2.1.q=r.q∧Pl (z.2.1,z.2.2.1)∧runL (backP f) l (c,p)=runL (backP f) (l.drop z.1) (z.2.1,z.2.2.1)∧Ranks rk z.2.1∧z.2.2.1.steps+2*z.2.1.dN+4<1000000) (fun z=>l.length-z.1) (0,c,p,r,m) rfl ⟨Nat.zero_le _,.refl (a.ext e1),R,rfl,pl,rfl,hr,hs⟩ ?_
  rintro ⟨i,c1,p1,r1,m1⟩ g ⟨hi,u1,R1,q1,pl1,hrun,hr1,hs1⟩ X hX
  dsimp only at hi u1 R1 q1 pl1 hrun hr1 hs1 ⊢
  have A1:=u1.at_
  have hlf1:=A1.c.ok.lf
  by_cases hil:i<l.length
  ·have og:OwnG i6T 1 g (.slice va l.length vc) (l.map ik):=ov.mod u1.mod (fun b hb=>(nf b hb).2)
   obtain ⟨b,t,rfl⟩:=hva (by intro e; rw [List.map_eq_nil_iff.1 e] at hil; cases hil)
   have ce:=(og.cell (i:=i) (by rw [List.length_map]; exact hil)).1
   rw [List.getElem_map] at ce
   have hrq:rk l[i]<f:=by have:=hl l[i] (List.getElem_mem hil); omega
   obtain ⟨q,hq⟩:∃q,l[i]=q:=⟨_,rfl⟩
   rw [run_drop hil,hq] at hrun
   rw [hq] at ce hrq
   simp (disch:=omega) [ce]
   refine JoinN.mk (JoinN.mk ?_)
   simp (disch:=omega) [ce]
   refine cfind_c A1.c ?_
   have c4:=rc4 A1.c.cells
   obtain ⟨s,k,hv,hk⟩:=A1.c.lform
   rw [hv] at c4
   cases hdq:c1.dirty q with
   | false =>
    rw [backP_clean hrq hdq,if_pos rfl] at hrun
    have next:X (.int .i64 ((i:Int)+1)) g:=hX (i+1,c1,p1,r1,m1) _ g sM ⟨by dsimp only; omega,u1,R1,q1,pl1,hrun,hr1,hs1⟩ (by dsimp only; omega)
    rcases ix_cases r1 q with ⟨hx,hno⟩|⟨j,hj,hx,hn⟩
    ·simp (disch:=omega) [hx]
     exact next
    ·obtain ⟨b2,t2,k',hv',-,⟨-,-,q2,-⟩,-⟩:=A1.c.pg hj
     rw [hv] at hv'
     injection hv' with w1 _ w3
     subst w1
     have hdj:r1.L[j].d=false:=by rw [←dirty_ix A1.c.ok hj,hn,R1.dirty A1.c.ok.sort]; exact hdq
     rw [hdj] at q2
     unfold ptrV
     simp (disch:=omega) [hx,c4,q2]
     exact next
   | true =>
    obtain ⟨j,hj,hx,hn,hdj,-⟩:=R1.ix A1.c.ok hdq
    obtain ⟨b2,t2,k',hv',-,⟨-,-,q2,-⟩,-⟩:=A1.c.pg hj
    rw [hv] at hv'
    injection hv' with w1 _ w3
    subst w1
    rw [hdj] at q2
    unfold ptrV
    simp (disch:=omega) [hx,c4,q2,ce]
    rw [show (.pointer (some ⟨o,0,none⟩):Value)=ptrV o from rfl]
    obtain ⟨sp1,-⟩:=back_spec (rk:=rk) f q (c1,p1) hrq hr1
    refine rback_c (rk:=rk) f q hrq hr1 A1 R1 pl1 hdq hs1 fun h2 r2 m2 u2 R2 q2' => ?_
    have plb:=sp1.mics.pl pl1
    generalize backP f q (c1,p1)=S at *
    obtain ⟨⟨c2,p2⟩,e⟩:=S
    dsimp only at *
    by_cases h0:e=0
    ·rw [if_pos h0] at hrun
     simp (disch:=omega) [h0]
     refine hX (i+1,c2,p2,r2,m2) _ h2 sM ⟨by dsimp only; omega,u1.trans u2,R2,q2'.trans q1,plb,hrun,hr1.less sp1.mics.less,?_⟩ (by dsimp only; omega)
     have:=sp1.st0 h0
     dsimp only at *
     omega
    ·rw [if_neg h0] at hrun
     rw [hrun,backF_bad h0,backW_bad h0] at H
     simp (disch:=omega) [h0]
     exact H h2 r2 m2 ((u1.trans u2).from_ e1) R2 (q2'.trans q1)
  ·obtain rfl:i=l.length:=by omega
   rw [List.drop_length] at hrun
   have hrun:runL (backP f) l (c,p)=((c1,p1),0):=hrun
   rw [hrun] at H spec
   obtain ⟨sp1,sp2⟩:=spec
   have hd1:c1.dirty n=true:=(sp1.keep n (Nat.le_refl _)).trans hd
   simp (disch:=omega)
   refine JoinN_in0 (fun g'=>∃c2 p2 r2 m2,RaU h g' o r m r2 m2 p2∧Rel r2 c2∧r2.q=r.q∧Pl (c2,p2)∧c2.dirty n=true∧backF n ((c1,p1),0)=((c2,p2),0)∧p2.steps+1<1000000) (fun kk hkk => ?_) (fun g' hg' => ?_)
   ·refine For_c A1.c fun h2 v2 l2 e2 fl2 ov2 fv2 => ?_
    have hl2:=R1.For A1.c.ok.sort pl1.nds fl2
    obtain ⟨wa,wn,wc,rfl,hwn,-,-⟩:=ov2.form
    obtain rfl:wn=l2.length:=by rw [List.length_map] at hwn; omega
    have hll2:l2.length≤2000000:=Nat.le_trans fl2.len A1.c.ok.wf
    by_cases hb:c1.beh n=[]
    ·rw [hb] at hl2
     subst hl2
     simp (disch:=omega)
     refine hkk h2 ⟨c1,p1,r1,m1,(u1.from_ e1).ext e2,R1,q1,pl1,hd1,?_,by omega⟩
     unfold backF
     rw [if_pos rfl,if_pos hb]
    ·have hbl:0<l2.length:=by rw [hl2]; exact List.length_pos_iff.2 hb
     simp (disch:=omega)
     have hfl1:=pl1.fl
     dsimp only at hfl1
     refine rflush_c (A1.ext e2) R1 omg (by rw [R1.flushes]; omega) fun h3 r3 m3 u3 R3 q3 => ?_
     have hfs:=flushP_steps (c1,p1)
     have plf:=(Mic.flush (c1,p1)).pl pl1
     have hdf:=flushP_dirty (c1,p1) n
     have hbf:backF n ((c1,p1),0)=flushP (c1,p1):=by unfold backF; rw [if_pos rfl,if_neg hb]
     rw [hbf] at H
     generalize flushP (c1,p1)=S at *
     obtain ⟨⟨c2,p2⟩,e⟩:=S
     dsimp only at *
     have ua:=((u1.from_ e1).ext e2).trans u3
     by_cases h0:e=0
     ·simp (disch:=omega) [h0]
      exact hkk h3 ⟨c2,p2,r3,m3,ua,R3,q3.trans q1,plf,hdf.trans hd1,hbf.trans (by rw [h0]),by omega⟩
     ·rw [backW_bad h0] at H
      simp (disch:=omega) [h0]
      exact H h3 r3 m3 ua R3 (q3.trans q1)
   ·obtain ⟨c2,p2,r2,m2,u2,R2,q2,pl2,hd2,hbf,hs2⟩:=hg'
    rw [hbf] at H
    have A2:=u2.at_
    obtain ⟨j,hj,hx,hn,hdj,gg,hgg,hgD⟩:=R2.ix A2.c.ok hd2
    refine cfind_c A2.c ?_
    rw [hx]
    have c0:=rc0 A2.c.cells
    have c1':=rc1 A2.c.cells
    have c2':=rc2 A2.c.cells
    have c4:=rc4 A2.c.cells
    obtain ⟨b,t,k,hv,hk,⟨p0,pp1,pp2,-⟩,pfz⟩:=A2.c.pg hj
    rw [hv] at c4
    have hlf2:=A2.c.ok.lf
    have hgm:=get_mem hgg
    obtain ⟨hn0,hn1⟩:=pl2.num gg hgm.1
    have hlen:=pl2.len gg hgm.1
    dsimp only at hn0 hn1 hlen
    rw [hgm.2] at hn0 hn1
    have hbits:=R2.bits
    have hb16:=pl2.b1
    dsimp only at hb16
    obtain ⟨W,hW⟩:∃W,2^c2.bits=W:=⟨_,rfl⟩
    obtain ⟨w0,w1⟩:=shrP hb16
    have hW':2^r2.bits=W:=by rw [hbits]; exact hW
    rw [hW] at hn1 hlen w0 w1
    have hsl:=fun (q:Bool) (tt:Nat) (o1 o2:Go.Operand) (g:Heap) (K:VP)=>Hp_shlW (P:=Tryz.prog) (q:=q) (t:=tt) (x:=o1) (y:=o2) (k' := .i64) (K:=K) (h:=g) (a:=n) hW' omg hn0 omg
    have oby:=A2.c.by_ r2.L[j] (List.getElem_mem hj)
    obtain ⟨ya,yn,yc,hyv,hyl,hyc,hyne⟩:=oby.form
    have hDl:r2.L[j].D.length=W:=by rw [←hgD]; exact hlen
    have hfitN:=place_fit hb16 (n:=n) hn0 (by rw [hW]; exact hn1)
    rw [hW] at hfitN
    have hfootb:∀x,blkG r2.L[j].bv=some x→r2.foot o x:=fun x hx => .inr (.inr (.inr (.inr ⟨_,List.getElem_mem hj,hx⟩)))
    have hplace:n*(W:Int)=((n.toNat*W:Nat):Int):=by rw [Int.natCast_mul,Int.toNat_of_nonneg hn0]
    have hbw:backW n ((c2,p2),0)=writeP (c2,p2) n gg.D:=by unfold backW; rw [if_pos rfl]; dsimp only; rw [hgg]
    rw [hbw] at H
    unfold ptrV
    rw [hyv] at pp1
    simp (disch:=omega) [c0,c1',c2',c4,pp1,hsl]
    rw [show (.pointer (some ⟨r2.q,0,none⟩):Value)=ptrV r2.q from rfl,hplace,←hyv]
    have hne1:r2.L[j].D≠[]:=fun e=>by rw [e] at hDl; simp at hDl; omega
    have hblk:∀x,blkV r2.L[j].bv=some x→¬RvF r2.q m2 x:=fun x hxx hF=>by
     have hyn:0<yn:=by rw [List.length_map,Nat.mul_one] at hyl; omega
     obtain ⟨yb,yo,rfl⟩:=hyne (by simpa using hne1)
     rw [hyv] at hxx
     refine A2.ne (hfootb x ?_) hF
     rw [hyv]
     obtain ⟨kk,rfl⟩:∃kk,yc=kk+1:=⟨yc-1,by omega⟩
     exact hxx
    have hwp:(writeP (c2,p2) n gg.D).1.2=(p2.write (n.toNat*W) r2.L[j].D).1:=by
     unfold writeP Ca.place
     rw [hgD]
     dsimp only
     rw [hW]
     split<;>rfl
    have hwe:(writeP (c2,p2) n gg.D).2=(p2.write (n.toNat*W) r2.L[j].D).2:=by
     unfold writeP Ca.place
     rw [hgD]
     dsimp only
     rw [hW]
     split
     ·rename_i h0; exact h0.symm
     ·rfl
    have hwc:(writeP (c2,p2) n gg.D).1.1=if (p2.write (n.toNat*W) r2.L[j].D).2=0 then c2.cleaned n else c2:=by
     unfold writeP Ca.place
     rw [hgD]
     dsimp only
     rw [hW]
     split<;>rfl
    rw [hwp,hwe,hwc] at H
    have hE : -9223372036854775808≤(p2.write (n.toNat*W) r2.L[j].D).2∧(p2.write (n.toNat*W) r2.L[j].D).2<9223372036854775808:=by
     unfold Ps.write
     cases p2.f with
     | none=>dsimp only; decide
     | some f=>exact fateE_rng p2.fates
    refine rWriteF_c (b:=r2.L[j].D) A2.s oby.bytes omg omg hblk hs2 omg fun g3 m3 u3 => ?_
    have U3:=u2.trans (u3.a A2)
    have A3:=U3.at_
    generalize p2.write (n.toNat*W) r2.L[j].D=S at *
    obtain ⟨p3,e⟩:=S
    dsimp only at *
    by_cases h0:e=0
    ·rw [if_pos h0,h0] at H
     rw [h0]
     have c4:=rc4 A3.c.cells
     have c5:=rc5 A3.c.cells
     obtain ⟨b3,t3,k3,hv3,hk3,⟨-,-,pp2',-⟩,pfz3⟩:=A3.c.pg hj
     rw [hv3] at c4
     have pf2:=pfz3 2 omg
     simp (disch:=omega) [c4,pp2',pf2]
     have u4:=A3.c.setP (k:=2) (v := .bool false) (x':={ r2.L[j] with d:=false }) hj omg hv3 hk3 rfl rfl rfl rfl
     have U4:=U3.trans (u4.a A3 rfl)
     have A4:=U4.at_
     generalize hset g3 (elt ⟨b3,t3,none⟩ (j*4+2)) (.bool false)=g4 at *
     have hNf:=A4.c.ok.nf
     have hnb:=R2.nb
     have hbk2:=pl2.bk
     have hrb:=R2.backs
     dsimp only at hNf hbk2
     refine JoinN_in0 (fun G=>∃N' nv' ,RaU h G o r m { r2 with L:=r2.L.set j { r2.L[j] with d:=false },N:=N',nv:=nv' } m3 p3∧(∀q,q∈N'↔q∈r2.N∨q=n)∧N'.length≤r2.N.length+1) (fun kk hkk => ?_) (fun G hG => ?_)
     ·have c5:=rc5 A4.c.cells
      have f5:=rcF A4.c.cells 5
      dsimp only at c5
      simp (disch:=omega) [c5]
      refine in_c A4.c.N (by dsimp only; omega) ?_
      dsimp only
      by_cases hin:n∈r2.N
      ·rw [decide_eq_true hin]
       simp (disch:=omega)
       exact hkk g4 ⟨r2.N,r2.nv,U4,fun q=>⟨.inl,fun e=>e.elim id (fun e=>e▸hin)⟩,Nat.le_succ _⟩
      ·rw [decide_eq_false hin]
       simp (disch:=omega) [c5]
       refine with_c A4.c.N (by dsimp only; omega) fun g5 v5 l5 e5 p5 o5 f5' => ?_
       have f5:=rcF (A4.ext e5).c.cells 5
       have c5:=rc5 (A4.ext e5).c.cells
       obtain ⟨qa,qn,qc,rfl,-,-,-⟩:=o5.form
       simp (disch:=omega) [f5,c5]
       have u5:=A4.c.setN e5 o5 (by rw [p5.len]; dsimp only; omega) f5'
       exact hkk _ ⟨l5,_,U4.trans (u5.a A4 rfl),fun q=>p5.mem,by rw [p5.len]; exact Nat.le_refl _⟩
     ·obtain ⟨N',nv',U5,hN',hNl⟩:=hG
      have A5:=U5.at_
      rw [show (.pointer (some ⟨o,0,none⟩):Value)=ptrV o from rfl]
      refine less_c A5.c fun g6 v6 u6 => ?_
      have U6:=U5.trans (u6.a A5 rfl)
      have A6:=U6.at_
      have c10:=rc10 A6.c.cells
      have f10:=rcF A6.c.cells 10
      dsimp only at c10
      have hcast:((r2.backs:Nat):Int)+1=((r2.backs+1:Nat):Int):=by omega
      unfold ptrV
      simp (disch:=omega) [c10,f10]
      rw [hcast]
      have u7:=A6.c.num (i:=10) (k:=r2.backs+1) (c':={ r2 with L:=r2.L.set j { r2.L[j] with d:=false },N:=N',nv:=nv',W:=r2.W.filter (fun w => !decide (w.1=n)),wv:=v6,backs:=r2.backs+1 }) rfl ⟨rfl,rfl,rfl,rfl,rfl,rfl⟩
      have U7:=U6.trans (u7.a A6 rfl)
      have R7:=R2.cleaned (wv:=v6) (nv:=nv') (N':=N') A2.c.ok.sort hj (by rw [hn]; exact hN') hNl
      rw [hn] at R7
      exact H _ _ _ U7 R7 q2
    ·rw [if_neg h0] at H
     simp (disch:=omega) [h0]
     exact H g3 r2 m3 U3 R2 q2
end Go.Proofs.YtcbbdnaelimpfaaGreat
set_option linter.unusedSimpArgs false
set_option linter.unusedVariables false
namespace Go.Proofs.YtcbbdnaelimpfaaGreat
open Go.Vc
variable {K:VP} {h:Heap}

theorem sort_n {L:List Rp} (s:L.Pairwise fun x y=>x.n<y.n):(L.map (·.n)).Pairwise (· < ·):=by rw [List.pairwise_map]; exact s
theorem Rel.order {r r1:Rc} {c c1:Ca} (a:Rel r c) (a1:Rel r1 c1) (s:r.L.Pairwise fun x y=>x.n<y.n) (s1:r1.L.Pairwise fun x y=>x.n<y.n) (hn:c1.P.map (·.n)=c.P.map (·.n)):r1.L.map (·.n)=r.L.map (·.n) :=
 sorted_eq (sort_n s1) (sort_n s) (fun x=>by rw [a1.nums.mem_iff,a.nums.mem_iff,hn])
theorem erase_map {L:List Rp} {i:Nat} (hi:i<L.length) (s:L.Pairwise fun x y=>x.n<y.n):(L.take i++L.drop (i+1)).map st1=(L.map st1).filter fun t => !decide (t.1=L[i].n):=by
 have hs:=List.pairwise_iff_getElem.1 s
 have h1:L=L.take i++L[i]::L.drop (i+1):=by
  rw [←List.drop_eq_getElem_cons hi,List.take_append_drop]
 have hA:∀x∈L.take i,x.n≠L[i].n:=fun x hx=>by
  obtain ⟨j,hj,rfl⟩:=List.getElem_of_mem hx
  rw [List.length_take] at hj
  rw [List.getElem_take]
  have:=hs j i omg hi omg; omega
 have hB:∀x∈L.drop (i+1),x.n≠L[i].n:=fun x hx=>by
  obtain ⟨j,hj,rfl⟩:=List.getElem_of_mem hx
  rw [List.length_drop] at hj
  rw [List.getElem_drop]
  have:=hs i (i+1+j) hi omg omg; omega
 obtain ⟨n,hn⟩:∃n,L[i].n=n:=⟨_,rfl⟩
 rw [hn] at hA hB ⊢
 have key:∀A B:List Rp,(∀x∈A,x.n≠n)→(∀x∈B,x.n≠n)→∀y:Rp,y.n=n→(A++B).map st1=((A++y::B).map st1).filter fun t => !decide (t.1=n):=fun A B ha hb y hy=>by
  rw [List.map_append,List.map_append,List.map_cons,List.filter_append,List.filter_cons_of_neg (by simp [st1,hy])]
  rw [List.filter_eq_self.2 (fun t ht => ?_),List.filter_eq_self.2 (fun t ht => ?_)]
  ·obtain ⟨x,hx,rfl⟩:=List.mem_map.1 ht
   show (!decide (x.n=n))=true
   simp [hb x hx]
  ·obtain ⟨x,hx,rfl⟩:=List.mem_map.1 ht
   show (!decide (x.n=n))=true
   simp [ha x hx]
 have h2:=key (L.take i) (L.drop (i+1)) hA hB L[i] hn
 rw [←h1] at h2
 exact h2
theorem Rel.drop {r:Rc} {c:Ca} (a:Rel r c) (s:r.L.Pairwise fun x y=>x.n<y.n) {i:Nat} (hi:i<r.L.length) {lv:Value}:Rel { r with L:=r.L.take i++r.L.drop (i+1),lv:=lv } (c.dropP r.L[i].n):=by
 refine ⟨a.bits,a.room,a.clock,a.hits,a.loads,a.backs,a.flushes,?_,a.N,a.W,a.nb⟩
 show ((r.L.take i++r.L.drop (i+1)).map st1).Perm ((c.P.filter fun x => !decide (x.n=r.L[i].n)).map st2)
 rw [erase_map hi s]
 have:(c.P.filter fun x => !decide (x.n=r.L[i].n)).map st2=(c.P.map st2).filter fun t => !decide (t.1=r.L[i].n):=by
  rw [List.filter_map]; rfl
 rw [this]
 exact a.L.filter _
theorem Rel.victim {r:Rc} {c:Ca} (a:Rel r c) (s:r.L.Pairwise fun x y=>x.n<y.n) (us:(c.P.map (·.u)).Nodup) {i:Nat} (hi:i<r.L.length) (hm:∀j (hj:j<r.L.length),r.L[i].d=false∧(r.L[j].d=false→r.L[i].u≤r.L[j].u)∨(r.L[j].d=true∧r.L[i].d=true∧r.L[i].u≤r.L[j].u)):∃g,c.victim=some g∧g.n=r.L[i].n:=by
 have hx:st1 r.L[i]∈c.P.map st2:=a.L.mem_iff.1 (List.mem_map_of_mem (List.getElem_mem hi))
 obtain ⟨g,hg,he⟩:=List.mem_map.1 hx
 unfold st1 st2 at he
 simp only [Prod.mk.injEq] at he
 obtain ⟨e1,e2,e3,e4⟩:=he
 refine ⟨g,victim_eq us hg (fun y hy => ?_),e1⟩
 have hy2:st2 y∈r.L.map st1:=a.L.mem_iff.2 (List.mem_map_of_mem hy)
 obtain ⟨x,hx,hex⟩:=List.mem_map.1 hy2
 obtain ⟨j,hj,rfl⟩:=List.getElem_of_mem hx
 unfold st1 st2 at hex
 simp only [Prod.mk.injEq] at hex
 obtain ⟨f1,f2,f3,f4⟩:=hex
 have:=hm j hj
 rw [f3,f4,←e3,←e4] at this
 unfold ltP
 cases hyd:y.d<;>cases hgd:g.d<;>rw [hyd,hgd] at this<;>simp at this ⊢ <;> omega
theorem rgV_take:∀(l:List Rp) (i:Nat),(l.flatMap rgV).take (i*4)=(l.take i).flatMap rgV
 | [],i=>by simp
 | x::l,0=>by simp
 | x::l,i+1=>by
  rw [List.flatMap_cons,List.take_succ_cons,List.flatMap_cons,←rgV_take l i,show (i+1)*4=(rgV x).length+i*4 by show _=4+_; omega,List.take_length_add_append]
theorem rgV_drop:∀(l:List Rp) (i:Nat),(l.flatMap rgV).drop (i*4)=(l.drop i).flatMap rgV
 | [],i=>by simp
 | x::l,0=>by simp
 | x::l,i+1=>by
  rw [List.flatMap_cons,List.drop_succ_cons,←rgV_drop l i,show (i+1)*4=(rgV x).length+i*4 by show _=4+_; omega,List.drop_length_add_append]
theorem RcM.rgOne {o:Nat} {c:Rc} (a:RcM h o c) {l:List Rp} (hl:∀x∈l,x∈c.L):∀u∈l.flatMap rgV,one u=true:=fun u hu=>by
 obtain ⟨x,hx,hu⟩:=List.mem_flatMap.1 hu
 obtain ⟨va,vn,vc,hv,-⟩:=(a.by_ x (hl x hx)).form
 unfold rgV at hu
 rw [hv] at hu
 simp at hu
 rcases hu with rfl|rfl|rfl|rfl<;>rfl
theorem RcM.setL {o:Nat} {c:Rc} {L':List Rp} {v:Value} {g:Heap} (a:RcM h o c) (e:Ext h g) (ol:OwnG rgT 4 g v (L'.flatMap rgV)) (hb:∀x∈L',x∈c.L∨(OwnG bT 1 g x.bv (x.D.map byteV)∧∀b,blkG x.bv=some b→h.size≤b)) (few:L'.length≤2000) (ap:L'.Pairwise fun x y=>∀b,blkG x.bv=some b→blkG y.bv≠some b) (so:L'.Pairwise fun x y=>x.n<y.n) (fr:∀b,blkG v=some b→h.size≤b):RcU h (hset g ⟨o,4,none⟩ v) o c { c with L:=L',lv:=v }:=by
 have ag:=a.ext e
 refine RcU.cell a e (ag.cell (c':={ c with L:=L',lv:=v }) rfl ol (fun x hx=>(hb x hx).elim (fun h1=>ag.by_ x h1) (fun h1=>h1.1)) ag.N ag.W ⟨few,a.ok.nf,a.ok.wf,ap,so⟩) (fun b hb' => ?_)
 rcases hb' with hb'|hb'|hb'|hb'|⟨x,hx,hb'⟩
 ·exact .inl (.inl hb')
 ·exact .inr (fr b hb')
 ·exact .inl (.inr (.inr (.inl hb')))
 ·exact .inl (.inr (.inr (.inr (.inl hb'))))
 ·rcases hb x hx with h1|⟨-,h1⟩
  ·exact .inl (.inr (.inr (.inr (.inr ⟨x,h1,hb'⟩))))
  ·exact .inr (h1 b hb')
theorem erase_sub {L:List Rp} {i:Nat}:(L.take i++L.drop (i+1)).Sublist L:=by
 have h1:(L.take i++L.drop (i+1)).Sublist (L.take i++L.drop i):=by
  refine List.Sublist.append (List.Sublist.refl _) ?_
  rw [←List.drop_drop]
  exact List.drop_sublist 1 _
 rw [List.take_append_drop] at h1
 exact h1
def bI:Option Nat→Int
 | none => -1
 | some b=>(b:Nat)
def Best (L:List Rp) (i:Nat):Option Nat→Prop
 | none=>∀j (hj:j<L.length),j<i→L[j].d=true
 | some b=>b<i∧∃hb:b<L.length,L[b].d=false∧∀j (hj:j<L.length),j<i→L[j].d=false→L[b].u≤L[j].u
set_option maxHeartbeats 8000000 in
theorem rroom_c {rk:Int→Nat} {f:Nat} {o:Nat} {r:Rc} {m:Rm} {c:Ca} {p:Ps} (hf:∀n,rk n<f) (hr:Ranks rk c) (a:RaM h o r m p) (R:Rel r c) (pl:Pl (c,p)) (us:(c.P.map (·.u)).Nodup) (hr1:1≤c.room) (hr2:c.room≤1024) (hck:∀x∈c.P,x.u<1000001) (hs:p.steps+2*c.dN+4<1000000)
 (H:∀h' r' m',RaU h h' o r m r' m' (freeP f (c,p)).1.2→Rel r' (freeP f (c,p)).1.1→r'.q=r.q→K (.int .i64 (freeP f (c,p)).2) h'):CallsH Tryz.prog 123 #[ptrV o] h K ⟨⟩:=by
 refine n123_calls ?_
 unfold n123 ptrV; try delta vF vG vC vD vJ vV vk vt
 have c4:=rc4 a.c.cells
 have c3:=rc3 a.c.cells
 obtain ⟨s,k,hv,hk⟩:=a.c.lform
 rw [hv] at c4
 have hlf:=a.c.ok.lf
 have hlen:=R.len
 have hroom:=R.room
 unfold freeP at H
 dsimp only at H
 by_cases hlt:c.P.length<c.room
 ·rw [if_pos hlt] at H
  simp (disch:=omega) [c3,c4]
  exact H h r m (.refl a) R rfl
 rw [if_neg hlt] at H
 have hpos:0<r.L.length:=by omega
 simp (disch:=omega) [c3,c4]
 have hu:∀j (hj:j<r.L.length),r.L[j].u<1000001:=fun j hj=>by
  obtain ⟨g,h1,-,-,h4⟩:=R.get a.c.ok.sort (List.getElem_mem hj)
  rw [←h4]; exact hck g (get_mem h1).1
 refine loopX2 (α:=Option Nat×Nat) (fun z => .int .i64 (bI z.1)) (fun z => .int .i64 z.2) (fun z g=>g=h∧z.2≤r.L.length∧Best r.L z.2 z.1) (fun z=>r.L.length-z.2) (none,0) ⟨rfl,rfl⟩ ⟨rfl,Nat.zero_le _,fun j hj h0=>absurd h0 omg⟩ ?_
 rintro ⟨best,i⟩ g ⟨rfl,hi,hB⟩ X hX
 dsimp only at hi hB ⊢
 by_cases hil:i<r.L.length
 ·obtain ⟨b,t,k',hv',-,⟨-,-,q2,q3⟩,-⟩:=a.c.pg hil
  rw [hv] at hv'
  injection hv' with h1 _ h3
  subst h1
  have hui:=hu i hil
  simp (disch:=omega) [c4]
  refine JoinN.mk (JoinN.mk ?_)
  cases hd:r.L[i].d with
  | true =>
   rw [hd] at q2
   simp (disch:=omega) [c4,q2]
   refine hX (best,i+1) _ _ _ rfl sM ⟨rfl,by dsimp only; omega,?_⟩ (by dsimp only; omega)
   cases best with
   | none =>
    intro j hj hji
    by_cases e:j=i
    ·subst e; exact hd
    ·exact hB j hj omg
   | some b0 =>
    obtain ⟨h1,h2,h3,h4⟩:=hB
    refine ⟨by omega,h2,h3,fun j hj hji hjd => ?_⟩
    by_cases e:j=i
    ·subst e; rw [hd] at hjd; cases hjd
    ·exact h4 j hj omg hjd
  | false =>
   rw [hd] at q2
   cases best with
   | none =>
    unfold bI
    simp (disch:=omega) [c4,q2,q3]
    refine hX (some i,i+1) _ _ _ rfl sM ⟨rfl,by dsimp only; omega,⟨by omega,hil,hd,fun j hj hji hjd => ?_⟩⟩ (by dsimp only; omega)
    by_cases e:j=i
    ·subst e; exact Nat.le_refl _
    ·rw [hB j hj omg] at hjd; cases hjd
   | some b0 =>
    obtain ⟨h1,h2,h3,h4⟩:=hB
    obtain ⟨b',t',k'',hv'',-,⟨-,-,-,w3⟩,-⟩:=a.c.pg h2
    rw [hv] at hv''
    injection hv'' with e1 _ e3
    injection e1 with e1
    injection e1 with e1 e2
    subst e1 e2
    have hub:=hu b0 h2
    obtain ⟨ui,hui'⟩:∃u,r.L[i].u=u:=⟨_,rfl⟩
    obtain ⟨ub,hub'⟩:∃u,r.L[b0].u=u:=⟨_,rfl⟩
    rw [hui'] at q3 hui
    rw [hub'] at w3 hub
    unfold bI
    by_cases hlt2:ui<ub
    ·simp (disch:=omega) [c4,q2,q3,w3]
     refine hX (some i,i+1) _ _ _ rfl sM ⟨rfl,by dsimp only; omega,⟨by omega,hil,hd,fun j hj hji hjd => ?_⟩⟩ (by dsimp only; omega)
     by_cases e:j=i
     ·subst e; exact Nat.le_refl _
     ·have:=h4 j hj omg hjd
      omega
    ·simp (disch:=omega) [c4,q2,q3,w3]
     refine hX (some b0,i+1) _ _ _ rfl sM ⟨rfl,by dsimp only; omega,⟨by omega,h2,h3,fun j hj hji hjd => ?_⟩⟩ (by dsimp only; omega)
     by_cases e:j=i
     ·subst e; omega
     ·exact h4 j hj omg hjd
 ·obtain rfl:i=r.L.length:=by omega
  simp (disch:=omega) [c4]
  refine JoinN_in1 (fun v G=>∃b c1 p1 r1 m1 g1,v = .int .i64 (b:Nat)∧RaU g G o r m r1 m1 p1∧Rel r1 c1∧r1.q=r.q∧(∃hb:b<r1.L.length,g1.n=r1.L[b].n)∧c.victim=some g1∧backP f g1.n (c,p)=((c1,p1),0)) (fun kk hkk => ?_) (fun v G hG => ?_)
  ·cases best with
   | some b0 =>
    obtain ⟨h1,h2,h3,h4⟩:=hB
    obtain ⟨g1,hv1,hv2⟩:=R.victim a.c.ok.sort us h2 (fun j hj => .inl ⟨h3,h4 j hj hj⟩)
    have hdf:c.dirty g1.n=false:=by rw [hv2,←R.dirty a.c.ok.sort,dirty_ix a.c.ok h2]; exact h3
    unfold bI
    simp (disch:=omega)
    exact hkk _ _ ⟨b0,c,p,r,m,g1,rfl,.refl a,R,rfl,⟨h2,hv2⟩,hv1,backP_clean (hf _) hdf⟩
   | none =>
    unfold bI
    simp (disch:=omega)
    refine loopX2 (α:=Nat×Nat) (fun z => .int .i64 z.1) (fun z => .int .i64 z.2) (fun z g'=>g'=g∧z.2≤r.L.length∧z.1<z.2∧∃hb:z.1<r.L.length,∀j (hj:j<r.L.length),j<z.2→r.L[z.1].u≤r.L[j].u) (fun z=>r.L.length-z.2) (0,1) ⟨rfl,rfl⟩ ⟨rfl,by dsimp only; omega,by dsimp only; omega,hpos,fun j hj hj1=>by
     dsimp only at hj1 ⊢
     obtain rfl:j=0:=by omega
     exact Nat.le_refl _⟩ ?_
    rintro ⟨b0,i⟩ g' ⟨rfl,hi,hbi,h2,hmin⟩ X hX
    dsimp only at hi hbi h2 hmin ⊢
    obtain ⟨b',t',k'',hv'',-,⟨w0,-,-,w3⟩,-⟩:=a.c.pg h2
    rw [hv] at hv''
    injection hv'' with e1 _ e3
    subst e1
    have hub:=hu b0 h2
    by_cases hil:i<r.L.length
    ·obtain ⟨b,t,k',hv',-,⟨-,-,-,q3⟩,-⟩:=a.c.pg hil
     rw [hv] at hv'
     injection hv' with h1 _ h3
     injection h1 with h1
     injection h1 with h1 h1'
     subst h1 h1'
     have hui:=hu i hil
     obtain ⟨ui,hui'⟩:∃u,r.L[i].u=u:=⟨_,rfl⟩
     obtain ⟨ub,hub'⟩:∃u,r.L[b0].u=u:=⟨_,rfl⟩
     rw [hui'] at q3 hui
     rw [hub'] at w3 hub
     simp (disch:=omega) [c4]
     refine JoinN.mk (JoinN.mk ?_)
     by_cases hlt2:ui<ub
     ·simp (disch:=omega) [c4,q3,w3]
      refine hX (i,i+1) _ _ _ rfl sM ⟨rfl,by dsimp only; omega,by dsimp only; omega,hil,fun j hj hji => ?_⟩ (by dsimp only; omega)
      dsimp only at hji ⊢
      by_cases e:j=i
      ·subst e; exact Nat.le_refl _
      ·have:=hmin j hj omg
       omega
     ·simp (disch:=omega) [c4,q3,w3]
      refine hX (b0,i+1) _ _ _ rfl sM ⟨rfl,by dsimp only; omega,by dsimp only; omega,h2,fun j hj hji => ?_⟩ (by dsimp only; omega)
      dsimp only at hji ⊢
      by_cases e:j=i
      ·subst e; omega
      ·exact hmin j hj omg
    ·obtain rfl:i=r.L.length:=by omega
     simp (disch:=omega) [c4,w0]
     rw [show (.pointer (some ⟨o,0,none⟩):Value)=ptrV o from rfl]
     have hall:∀j (hj:j<r.L.length),r.L[j].d=true:=fun j hj=>hB j hj hj
     obtain ⟨g1,hv1,hv2⟩:=R.victim a.c.ok.sort us h2 (fun j hj => .inr ⟨hall j hj,hall b0 h2,hmin j hj hj⟩)
     have hdt:c.dirty r.L[b0].n=true:=by rw [←R.dirty a.c.ok.sort,dirty_ix a.c.ok h2]; exact hall b0 h2
     rw [hv1] at H
     dsimp only at H
     obtain ⟨sp,-⟩:=back_spec (rk:=rk) f r.L[b0].n (c,p) (hf _) hr
     refine rback_c (rk:=rk) f r.L[b0].n (hf _) hr a R pl hdt hs fun g2 r2 m2 u2 R2 q2 => ?_
     rw [hv2] at H
     have hnm:=sp.mics.less.map (fun x=>x.n) (fun _=>rfl)
     generalize hS:backP f r.L[b0].n (c,p)=S at *
     obtain ⟨⟨c2,p2⟩,e⟩:=S
     dsimp only at *
     have hord:=R.order R2 a.c.ok.sort u2.at_.c.ok.sort hnm
     have hl2:r2.L.length=r.L.length:=by have:=congrArg List.length hord; simpa using this
     have hnb:(r2.L[b0]'omg).n=r.L[b0].n:=by
      have h1:(r2.L.map (·.n))[b0]? = (r.L.map (·.n))[b0]? := by rw [hord]
      rw [List.getElem?_map,List.getElem?_map,List.getElem?_eq_getElem omg,List.getElem?_eq_getElem h2] at h1
      simpa using h1
     by_cases h0:e=0
     ·simp (disch:=omega) [h0]
      exact hkk _ _ ⟨b0,c2,p2,r2,m2,g1,rfl,u2,R2,q2,⟨by omega,by rw [hv2,hnb]⟩,hv1,by rw [hv2,hS,h0]⟩
     ·rw [if_neg h0] at H
      simp (disch:=omega) [h0]
      exact H g2 r2 m2 u2 R2 q2
  ·obtain ⟨b,c1,p1,r1,m1,g1,rfl,u1,R1,q1,⟨hb,hgn⟩,hvic,hbk⟩:=hG
   rw [hvic] at H
   dsimp only at H
   rw [hbk,if_pos rfl] at H
   dsimp only at H
   have A1:=u1.at_
   have d4:=rc4 A1.c.cells
   obtain ⟨s1,k1,hv1,hk1⟩:=A1.c.lform
   rw [hv1] at d4
   have hl1:=A1.c.ok.lf
   have oL:=A1.c.L
   rw [hv1] at oL
   have hGo:¬o=G.size:=by have:=get_some_lt A1.c.cells; omega
   simp (disch:=omega) [d4,hGo,Hp_slgNH (P:=Tryz.prog) (t:=136) (s:=4) kR,Hp_slgLN (P:=Tryz.prog) (t:=136) (s:=4) kR]
   have eG:Ext G (Array.push G (.cells #[] 178)):=extS
   have zG:(Array.push G (.cells #[] 178)).size=G.size+1:=by simp
   generalize Array.push G (.cells #[] 178)=G0 at *
   have src0:=((oL.ext eG).cut (hi:=b) (mx:=k1) omg (Nat.le_refl _) omg).src
   rw [rgV_take] at src0
   have hone:∀l:List Rp,(∀x∈l,x∈r1.L)→∀u∈l.flatMap rgV,one u=true:=fun l hl=>A1.c.rgOne hl
   refine Hp_appendG (e:=rgT) (s:=4) (by_:=48) (n:=0) (k:=b) kR kR OwnG.nil rfl omg src0 (hone _ (fun x hx=>List.mem_of_mem_take hx)) omg omg fun v3 h3 o3 m3 b3 _ => ?_
   have e3:Ext G h3:=m3.ext_from eG (fun b hb e=>by cases e)
   have f3:∀x,blkG v3=some x→G.size≤x:=fun x hx=>(b3 x hx).elim (fun e=>by cases e) (fun e=>by omega)
   have d43:=hcell_ext e3 d4
   rw [List.nil_append] at o3
   have src1:=((oL.ext e3).dropO (lo:=b+1) omg).src
   rw [rgV_drop] at src1
   have hbl:(r1.L.take b).length=b:=by rw [List.length_take]; omega
   refine ⟨by simp (disch:=omega) [d43],?_⟩
   refine Hp_appendG (e:=rgT) (s:=4) (by_:=48) (n:=b) (k:=r1.L.length-(b+1)) kR kR o3 (by rw [rgV_len,hbl]) omg src1 (hone _ (fun x hx=>List.mem_of_mem_drop hx)) omg omg fun v4 h4 o4 m4 b4 _ => ?_
   have hz3:=e3.size
   have e4:Ext G h4:=m4.ext_from e3 (fun x hx e=>by have:=f3 x e; omega)
   have f4:∀x,blkG v4=some x→G.size≤x:=fun x hx=>(b4 x hx).elim (f3 x) (fun e=>by omega)
   rw [←List.flatMap_append] at o4
   have d44:=hcell_ext e4 d4
   have fz4:=rcF (A1.c.ext e4).cells 4
   obtain ⟨va,vn,vc,rfl,-,-,-⟩:=o4.form
   simp (disch:=omega) [d44,fz4]
   have hsub:=erase_sub (L:=r1.L) (i:=b)
   have u5:=A1.c.setL e4 o4 (fun x hx => .inl (hsub.subset hx)) (Nat.le_trans hsub.length_le hl1) (A1.c.ok.ap.sublist hsub) (A1.c.ok.sort.sublist hsub) f4
   have R5:=R1.drop (lv := .slice va vn vc) A1.c.ok.sort hb
   rw [←hgn] at R5
   exact H _ _ _ (u1.trans (u5.a A1 rfl)) R5 q1
end Go.Proofs.YtcbbdnaelimpfaaGreat
set_option linter.unusedSimpArgs false
set_option linter.unusedVariables false
namespace Go.Proofs.YtcbbdnaelimpfaaGreat
open Go.Vc
variable {K:VP} {h:Heap}

theorem Rel.hit {r:Rc} {c:Ca} (a:Rel r c):Rel { r with hits:=r.hits+1 } c.hit1 :=
 ⟨a.bits,a.room,a.clock,by show r.hits+1=c.hits+1; rw [a.hits],a.loads,a.backs,a.flushes,a.L,a.N,a.W,a.nb⟩
theorem Rel.touched {r:Rc} {c:Ca} (a:Rel r c) (s:r.L.Pairwise fun x y=>x.n<y.n) {i:Nat} (hi:i<r.L.length):Rel { r with L:=r.L.set i { r.L[i] with u:=r.clock+1 },clock:=r.clock+1 } (c.touched r.L[i].n):=by
 refine ⟨a.bits,a.room,by show r.clock+1=c.clock+1; rw [a.clock],a.hits,a.loads,a.backs,a.flushes,?_,a.N,a.W,a.nb⟩
 show ((r.L.set i _).map st1).Perm ((c.P.map (Pge.touch r.L[i].n (c.clock+1))).map st2)
 obtain ⟨F,hF⟩:∃F:Int×List UInt8×Bool×Nat→Int×List UInt8×Bool×Nat,F=fun t=>if t.1=r.L[i].n then (t.1,t.2.1,t.2.2.1,r.clock+1) else t:=⟨_,rfl⟩
 rw [set_map hi s F (by rw [hF]; simp [st1]) (fun t ht=>by rw [hF]; simp [ht])]
 have h2:(c.P.map (Pge.touch r.L[i].n (c.clock+1))).map st2=(c.P.map st2).map F:=by
  rw [List.map_map,List.map_map]
  apply List.map_congr_left
  intro g _
  show st2 (g.touch _ _)=F (st2 g)
  rw [hF,a.clock]
  unfold Pge.touch st2
  dsimp only
  split<;>rfl
 rw [h2]
 exact a.L.map F
theorem Rel.insert {r:Rc} {c:Ca} {g:Pge} {x:Rp} {k:Nat} {lv:Value} (a:Rel r c) (hx:st1 x=st2 g):Rel { r with L:=r.L.take k++x::r.L.drop k,lv:=lv,loads:=r.loads+1 } (c.added g):=by
 refine ⟨a.bits,a.room,a.clock,a.hits,by show r.loads+1=c.loads+1; rw [a.loads],a.backs,a.flushes,?_,a.N,a.W,a.nb⟩
 show ((r.L.take k++x::r.L.drop k).map st1).Perm ((c.P++[g]).map st2)
 rw [List.map_append,List.map_cons,List.map_append,List.map_cons,List.map_nil,←hx]
 have h1:((r.L.take k).map st1++st1 x::(r.L.drop k).map st1).Perm (st1 x::((r.L.take k).map st1++(r.L.drop k).map st1)):=List.perm_middle
 refine h1.trans ?_
 rw [←List.map_append,List.take_append_drop]
 exact (List.Perm.cons _ a.L).trans (List.perm_append_singleton _ _).symm
theorem insert_sort {L:List Rp} {x:Rp} {k:Nat} (hk:k≤L.length) (s:L.Pairwise fun x y=>x.n<y.n) (h1:∀j (hj:j<L.length),j<k→L[j].n<x.n) (h2:∀hj:k<L.length,x.n<L[k].n):(L.take k++x::L.drop k).Pairwise fun x y=>x.n<y.n:=by
 have hs:=List.pairwise_iff_getElem.1 s
 have hdrop:∀y∈L.drop k,x.n<y.n:=fun y hy=>by
  obtain ⟨j,hj,rfl⟩:=List.getElem_of_mem hy
  rw [List.length_drop] at hj
  rw [List.getElem_drop]
  have h3:=h2 omg
  rcases Nat.eq_zero_or_pos j with e|e
  ·subst e; exact h3
  ·have:=hs k (k+j) omg omg omg; omega
 have htake:∀y∈L.take k,y.n<x.n:=fun y hy=>by
  obtain ⟨j,hj,rfl⟩:=List.getElem_of_mem hy
  rw [List.length_take] at hj
  rw [List.getElem_take]
  exact h1 j omg omg
 rw [List.pairwise_append,List.pairwise_cons]
 refine ⟨s.sublist (List.take_sublist k L),⟨hdrop,s.sublist (List.drop_sublist k L)⟩,fun a ha b hb => ?_⟩
 have h3:=htake a ha
 rcases List.mem_cons.1 hb with rfl|hb
 ·exact h3
 ·have:=hdrop b hb; omega
theorem Mic.file {x y:Cx} (m:Mic x y) (h:∃f,x.2.f=some f):∃f,y.2.f=some f:=by
 obtain ⟨f,hf⟩:=h
 cases m with
 | flush =>
  have hp:(flushP x).1.2=x.2.flush.1:=by unfold flushP; split<;>rfl
  rw [hp]; unfold Ps.flush; rw [hf]; exact ⟨_,rfl⟩
 | write n g h1 h2 h3 =>
  have hp:(writeP x n g.D).1.2=(x.2.write (x.1.place n) g.D).1:=by unfold writeP; split<;>rfl
  rw [hp]; unfold Ps.write; rw [hf]; exact ⟨_,rfl⟩
theorem Mics.file {x y:Cx} (m:Mics x y) (h:∃f,x.2.f=some f):∃f,y.2.f=some f:=by
 induction m with
 | refl=>exact h
 | tail ms m ih=>exact m.file ih
end Go.Proofs.YtcbbdnaelimpfaaGreat
set_option linter.unusedSimpArgs false
set_option linter.unusedVariables false
namespace Go.Proofs.YtcbbdnaelimpfaaGreat
open Go.Vc
variable {K:VP} {h:Heap}

set_option maxHeartbeats 16000000 in
theorem ruse_c {rk:Int→Nat} {f:Nat} {o:Nat} {r:Rc} {m:Rm} {c:Ca} {p:Ps} {n:Int} {pb bb:Nat} (hf:∀n,rk n<f) (hr:Ranks rk c) (a:RaM h o r m p) (R:Rel r c) (pl:Pl (c,p)) (inv:Inv c) (hr1:1≤c.room) (hr2:c.room≤1024) (hb1:c.bits≤16) (hPr:c.P.length≤c.room) (hclk:c.clock+1<1000000) (hs:p.steps+2*c.dN+4<1000000) (hn0:0≤n) (hn1:n*((2^c.bits:Nat):Int)<268435456)
 (H0:∀h' r' m',(useP f n pb bb (c,p)).2≠0→RaU h h' o r m r' m' (useP f n pb bb (c,p)).1.2→Rel r' (useP f n pb bb (c,p)).1.1→r'.q=r.q→K (.tuple #[.int .i64 0,.int .i64 (useP f n pb bb (c,p)).2]) h')
 (H1:∀h' r' m' i,(useP f n pb bb (c,p)).2=0→∀hi:i<r'.L.length,r'.L[i].n=n→RaU h h' o r m r' m' (useP f n pb bb (c,p)).1.2→Rel r' (useP f n pb bb (c,p)).1.1→r'.q=r.q→K (.tuple #[.int .i64 (i:Nat),.int .i64 0]) h') :
 CallsH Tryz.prog 97 #[ptrV o,.int .i64 n] h K ⟨⟩:=by
 refine n97_calls ?_
 unfold n97; try delta vF vG vC vD vJ vV vk vt
 have c0:=rc0 a.c.cells
 have c1:=rc1 a.c.cells
 have hci:=inv.hit
 have hcl:=inv.load
 have hRh:=R.hits
 have hRl:=R.loads
 have hRc:=R.clock
 unfold ptrV
 simp (disch:=omega) [c0,c1]
 rw [show (.pointer (some ⟨r.q,0,none⟩):Value)=ptrV r.q from rfl]
 refine rReadF_c a.s dM dM dM dM (fun hpf => ?_) (fun h1 f1 e1 hpf hbad => ?_) (fun h1 f1 v1 e1 hpf _ _ _ _ _ => ?_)
 ·have hu:useP f n pb bb (c,p)=((c,p),7):=by unfold useP; rw [hpf]
  rw [hu] at H0
  simp (disch:=omega)
  exact H0 h r m (fun e=>by cases e) (.refl a) R rfl
 ·exfalso; omega
 simp (disch:=omega)
 refine JoinN_in0 (fun G=>∃r2 m2 c2 p2,RaU h G o r m r2 m2 p2∧Rel r2 c2∧r2.q=r.q∧(∃i,∃hi:i<r2.L.length,r2.L[i].n=n)∧useP f n pb bb (c,p)=((c2.touched n,p2),0)∧r2.clock=c.clock) (fun kk hkk => ?_) (fun G hG => ?_)
 ·have a1:=a.ext e1
  rw [show (.pointer (some ⟨o,0,none⟩):Value)=ptrV o from rfl]
  refine cfind_c a1.c ?_
  rcases ix_cases r n with ⟨hx,hno⟩|⟨i,hi,hx,hn⟩
  ·have hg:=R.none_ hno
   have hfu:useP f n pb bb (c,p)=if (freeP f (c,p)).2=0 then ((((freeP f (c,p)).1.1.added (newPg (freeP f (c,p)).1.2 c.bits n pb bb)).touched n,(freeP f (c,p)).1.2),0) else freeP f (c,p):=by unfold useP; dsimp only; rw [hpf,hg]
   unfold ptrV
   simp (disch:=omega) [hx]
   rw [show (.pointer (some ⟨o,0,none⟩):Value)=ptrV o from rfl]
   refine rroom_c (rk:=rk) hf hr a1 R pl inv.us hr1 hr2 (fun x hx=>by have:=inv.used x hx; omega) hs fun h2 r2 m2 u2 R2 q2 => ?_
   have U2:=RaU.from_ e1 u2
   have hrm:=freeP_room (x:=(c,p)) hf hr hPr
   obtain ⟨inv6,same6,bits6,rk6⟩:=freeP_inv (x:=(c,p)) hf hr inv
   have get6:=freeP_get (x:=(c,p)) hf hr hg
   have fil6:∃fl,(freeP f (c,p)).1.2.f=some fl:=by
    obtain ⟨y,ms,h1,-⟩:=freeP_spec hf (c,p) hr
    rw [h1]; exact ms.file ⟨_,hpf⟩
   generalize freeP f (c,p)=S at *
   obtain ⟨⟨c6,p6⟩,e⟩:=S
   dsimp only at *
   by_cases h0:e=0
   ·rw [if_pos h0] at hfu
    obtain ⟨fl,hfl⟩:=fil6
    have A2:=U2.at_
    have hb2:r2.bits=c.bits:=by rw [R2.bits,bits6]
    obtain ⟨W,hW⟩:∃W,2^c.bits=W:=⟨_,rfl⟩
    have hW1:1≤W:=by rw [←hW]; exact Nat.one_le_two_pow
    have hW2:W≤65536:=by
     rw [←hW]
     calc 2^c.bits≤2^16:=Nat.pow_le_pow_right omg hb1
      _=65536:=by decide
    rw [hW] at hn1
    obtain ⟨N,hN⟩:=Int.eq_ofNat_of_zero_le hn0
    have hpl:n*(W:Int)=((N*W:Nat):Int):=by rw [hN,Int.natCast_mul]
    obtain ⟨PL,hPL⟩:∃PL,N*W=PL:=⟨_,rfl⟩
    rw [hPL] at hpl
    have hPb:PL<268435456:=by omega
    have hs1:=fun (q:Bool) (tt:Nat) (o1 o2:Go.Operand) (g:Heap) (K:VP)=>Hp_shlW (P:=Tryz.prog) (q:=q) (t:=tt) (x:=o1) (y:=o2) (k' := .i64) (K:=K) (h:=g) (a:=1) hW omg omg omg
    have hs2:=fun (q:Bool) (tt:Nat) (o1 o2:Go.Operand) (g:Heap) (K:VP)=>Hp_shlW (P:=Tryz.prog) (q:=q) (t:=tt) (x:=o1) (y:=o2) (k' := .i64) (K:=K) (h:=g) (a:=n) hW omg hn0 (by rw [hpl]; omega)
    have hfill:fillP p6 c.bits n=Vc.over (zeros W) 0 ((fl.now.drop PL).take W):=by
     unfold fillP
     rw [hfl,hW,hN,Int.toNat_natCast,hPL]
    have d0:=rc0 A2.c.cells
    have d1:=rc1 A2.c.cells
    have d2:=rc2 A2.c.cells
    rw [hb2] at d2
    have n1:¬o=h2.size:=by have:=get_some_lt A2.c.cells; omega
    unfold ptrV
    simp (disch:=omega) [h0,d0,d1,d2,hs1,hs2,n1,hpl]
    refine (⟨_,rfl⟩:∃h3,h3=(h2.push (.cells (Array.replicate W (.int .u8 0)) 5))).elim fun h3 eh3 => ?_
    have e3:Ext h2 h3:=by rw [eh3]; exact extS
    have z3:h3.size=h2.size+1:=by rw [eh3]; simp
    have qB:OwnG bT 1 h3 (.slice (some ⟨h2.size,0,none⟩) W W) ((zeros W).map byteV):=by
     obtain ⟨W1,rfl⟩:∃W1,W=W1+1:=⟨W-1,by omega⟩
     refine .inr ⟨h2.size,0,W1+1,W1,[],[],rfl,by simp [zeros],Nat.le_refl _,rfl,?_,by simp [zeros]⟩
     rw [eh3,get_pushed rfl]
     simp only [List.nil_append,List.append_nil,zeros,List.map_replicate,←List.toArray_replicate]; rfl
    rw [←eh3]
    clear eh3
    have a3:=A2.ext e3
    rw [show (.pointer (some ⟨r2.q,0,none⟩):Value)=ptrV r2.q from rfl]
    have hno2:∀x∈r2.L,x.n≠n:=fun x hx e=>by
     obtain ⟨g,hg2,-⟩:=R2.get A2.c.ok.sort hx
     rw [e,get6] at hg2; cases hg2
    have hlt2:r2.L.length<1024:=by have:=R2.len; have:=hrm h0; omega
    have i64c:inv6.load=inv6.load:=rfl
    have hcl6:=inv6.load
    have hck6:=same6.clock
    have hR2l:=R2.loads
    have hR2c:=R2.clock
    refine rReadF_c a3.s omg omg omg omg (fun hn6 => ?_) (fun h4 f4 e4 hf4 hbad => ?_) (fun h4 f4 v4 e4 hf4 hk0 hk1 _ ov4 fv4 => ?_)
    ·exfalso; rw [hn6] at hfl; cases hfl
    ·rw [hfl] at hf4
     cases hf4
     simp (disch:=omega)
     refine JoinN_in0 (fun G=>Mod (· = h2.size) h3 G∧OwnG bT 1 G (.slice (some ⟨h2.size,0,none⟩) W W) ((fillP p6 c.bits n).map byteV)) (fun kk1 hkk1 => ?_) (fun G hG9 => ?_)
     ·simp (disch:=omega)
      refine hkk1 h4 ⟨Mod.of_ext e4,?_⟩
      rw [hfill,List.drop_eq_nil_of_le omg,List.take_nil,show Vc.over (zeros W) 0 []=zeros W by simp [Vc.over]]
      exact qB.ext e4
     ·skip
      obtain ⟨mG,oG⟩:=hG9
      have eG:Ext h2 G:=mG.ext_from e3 (fun b hb e=>by omega)
      have AG:=A2.ext eG
      have c4:=rc4 AG.c.cells
      obtain ⟨s2,k2,hv2,hk2⟩:=AG.c.lform
      have c4':=c4
      rw [hv2] at c4'
      have hl2:=AG.c.ok.lf
      refine loopX1 (α:=Nat) (fun i => .int .i64 i) (fun i g=>g=G∧i≤r2.L.length∧∀j (hj:j<r2.L.length),j<i→r2.L[j].n<n) (fun i=>r2.L.length-i) 0 rfl ⟨rfl,Nat.zero_le _,fun j _ hj=>by omega⟩ ?_
      rintro i g ⟨rfl,hi,hlo⟩ X hX
      by_cases hil:i<r2.L.length
      ·obtain ⟨b,t,k',hv',-,⟨w0,-,-,-⟩,-⟩:=AG.c.pg hil
       rw [hv2] at hv'
       injection hv' with e1' e2' e3'
       subst e1'
       obtain ⟨y,hy⟩:∃y,r2.L[i].n=y:=⟨_,rfl⟩
       rw [hy] at w0
       by_cases hyn:y<n
       ·simp (disch:=omega) [c4',w0,hyn]
        refine hX (i+1) _ _ sM ⟨rfl,by omega,fun j hj hji => ?_⟩ omg
        by_cases e:j=i
        ·subst e; rw [hy]; exact hyn
        ·exact hlo j hj omg
       ·have hup:∀hj:i<r2.L.length,n<r2.L[i].n:=fun hj=>by
         have:=hno2 _ (List.getElem_mem hil)
         rw [hy] at this ⊢
         omega
        simp (disch:=omega) [c4',w0,hyn]
        (try rw [Hp_slgNH (s:=4) kR omg omg,ValT_iff,Int.toNat_natCast])
        have oLG:=AG.c.L
        rw [hv2] at oLG
        have src0:=(oLG.cut (hi:=i) (mx:=k2) omg (Nat.le_refl _) omg).src
        rw [rgV_take] at src0
        have hone:∀l:List Rp,(∀x∈l,x∈r2.L)→∀u∈l.flatMap rgV,one u=true:=fun l hl=>AG.c.rgOne hl
        refine Hp_appendG (e:=rgT) (s:=4) (by_:=48) (n:=0) (k:=i) kR kR OwnG.nil rfl omg src0 (hone _ (fun x hx=>List.mem_of_mem_take hx)) omg omg fun v4 h4 o4 m4 b4 _ => ?_
        have e4:Ext g h4:=m4.ext_from (.refl _) (fun b hb e=>by cases e)
        have f4:∀b,blkG v4=some b→g.size≤b:=fun b hb=>(b4 b hb).elim (fun e=>by cases e) id
        rw [List.nil_append] at o4
        have hbl:(r2.L.take i).length=i:=by rw [List.length_take]; omega
        simp (disch:=omega)
        refine (⟨_,rfl⟩:∃h5,h5=h4.push (.cells #[.int .i64 n,.slice (some ⟨h2.size,0,none⟩) W W,.bool false,.int .i64 0] rgT)).elim fun h5 eh5 => ?_
        have e5:Ext h4 h5:=by rw [eh5]; exact extS
        have sx:Src 4 h5 (.slice (some ⟨h4.size,0,none⟩) 1 1) 1 [.int .i64 n,.slice (some ⟨h2.size,0,none⟩) W W,.bool false,.int .i64 0]:=by rw [eh5]; exact Src_new (vs:=[.int .i64 n,.slice (some ⟨h2.size,0,none⟩) W W,.bool false,.int .i64 0]) rfl
        rw [show h4.push (.cells #[.int .i64 n,.slice (some ⟨h2.size,0,none⟩) W W,.bool false,.int .i64 0] 178)=h5 from eh5.symm]
        clear eh5
        have hz4:=e4.size
        have hz5:=e5.size
        refine Hp_appendG (e:=rgT) (s:=4) (by_:=48) (n:=i) (k:=1) kR kR (o4.ext e5) (by rw [rgV_len,hbl]) omg sx (by simp [one]) omg omg fun v6 h6 o6 m6 b6 _ => ?_
        have e6:Ext g h6:=m6.ext_from (e4.trans e5) (fun b hb e=>by have:=f4 b e; omega)
        have f6:∀b,blkG v6=some b→g.size≤b:=fun b hb=>(b6 b hb).elim (f4 b) (fun e=>by omega)
        have hz6:=e6.size
        have c46:=hcell_ext e6 c4
        rw [hv2] at c46
        simp (disch:=omega) [c46]
        (try rw [Hp_slgLN (s:=4) kR omg omg omg,ValT_iff,Int.toNat_natCast])
        have src1:=((oLG.ext e6).dropO (lo:=i) omg).src
        rw [rgV_drop] at src1
        (try rw [subO_some] at src1)
        refine Hp_appendG (e:=rgT) (s:=4) (by_:=48) (n:=i+1) (k:=r2.L.length-i) kR kR o6 (by rw [List.length_append,rgV_len,hbl]; simp; omega) omg src1 (hone _ (fun x hx=>List.mem_of_mem_drop hx)) omg omg fun v7 h7 o7 m7 b7 _ => ?_
        have e7:Ext g h7:=m7.ext_from e6 (fun b hb e=>by have:=f6 b e; omega)
        have f7:∀b,blkG v7=some b→g.size≤b:=fun b hb=>(b7 b hb).elim (f6 b) (fun e=>by omega)
        have ol7:OwnG rgT 4 h7 v7 ((r2.L.take i++(⟨n,fillP p6 c.bits n,false,0,.slice (some ⟨h2.size,0,none⟩) W W⟩:Rp)::r2.L.drop i).flatMap rgV):=by
         rw [List.flatMap_append,List.flatMap_cons]
         rw [List.append_assoc] at o7
         exact o7
        have A7:=AG.ext e7
        have c47:=rc4 A7.c.cells
        have f47:=rcF A7.c.cells 4
        obtain ⟨va,vn,vc,rfl,-,-,-⟩:=o7.form
        have zG:=eG.size
        have hper:(r2.L.take i++(⟨n,fillP p6 c.bits n,false,0,.slice (some ⟨h2.size,0,none⟩) W W⟩:Rp)::r2.L.drop i).Perm ((⟨n,fillP p6 c.bits n,false,0,.slice (some ⟨h2.size,0,none⟩) W W⟩:Rp)::r2.L):=by
         have:=List.perm_middle (a:=(⟨n,fillP p6 c.bits n,false,0,.slice (some ⟨h2.size,0,none⟩) W W⟩:Rp)) (l₁:=r2.L.take i) (l₂:=r2.L.drop i)
         rw [List.take_append_drop] at this
         exact this
        obtain ⟨W1,hW1'⟩:∃W1,W=W1+1:=⟨W-1,by omega⟩
        have hblk:blkG (.slice (some ⟨h2.size,0,none⟩) W W)=some h2.size:=by rw [hW1']; rfl
        have u8:=A2.c.setL (eG.trans e7) ol7 (fun x hx=>by
         rcases List.mem_cons.1 (hper.mem_iff.1 hx) with rfl|hx
         ·refine .inr ⟨oG.ext e7,fun b hb => ?_⟩
          have hb':blkG (.slice (some ⟨h2.size,0,none⟩) W W)=some b:=hb
          rw [hblk] at hb'
          cases hb'
          exact Nat.le_refl _
         ·exact .inl hx) (by rw [hper.length_eq,List.length_cons]; omega) (by
          refine (hper.pairwise_iff (fun {x y} h b h1 h2=>h b h2 h1)).2 (List.pairwise_cons.2 ⟨fun y hy b hb hb2 => ?_,A2.c.ok.ap⟩)
          have hb':blkG (.slice (some ⟨h2.size,0,none⟩) W W)=some b:=hb
          rw [hblk] at hb'
          cases hb'
          exact absurd ((A2.c.by_ y hy).lt hb2) (Nat.lt_irrefl _)) (insert_sort hi A2.c.ok.sort hlo hup) (fun b hb=>by have:=f7 b hb; omega)
        have U8:=U2.trans (u8.a A2 rfl)
        have A8:=U8.at_
        have c98:=rc9 A8.c.cells
        have f98:=rcF A8.c.cells 9
        have hcast:((r2.loads:Nat):Int)+1=((r2.loads+1:Nat):Int):=by omega
        have c97:=rc9 A7.c.cells
        have f97:=rcF A7.c.cells 9
        simp (disch:=omega) [c47,f47,c97,f97]
        rw [hcast]
        have u9:=A8.c.num (i:=9) (k:=r2.loads+1) (c':={ r2 with L:=r2.L.take i++(⟨n,fillP p6 c.bits n,false,0,.slice (some ⟨h2.size,0,none⟩) W W⟩:Rp)::r2.L.drop i,lv := .slice va vn vc,loads:=r2.loads+1 }) rfl ⟨rfl,rfl,rfl,rfl,rfl,rfl⟩
        refine hkk _ ⟨_,m2,c6.added (newPg p6 c.bits n pb bb),p6,U8.trans (u9.a A8 rfl),R2.insert (x:=(⟨n,fillP p6 c.bits n,false,0,.slice (some ⟨h2.size,0,none⟩) W W⟩:Rp)) (k:=i) rfl,q2,⟨i,?_,?_⟩,?_,?_⟩
        ·rw [hper.length_eq,List.length_cons]; omega
        ·dsimp only
         rw [List.getElem_append_right (by rw [hbl]; exact Nat.le_refl i)]
         simp [hbl]
        ·rw [hfu]
        ·show r2.clock=c.clock
         omega
      ·have hup:∀hj:i<r2.L.length,n<r2.L[i].n:=fun hj=>absurd hj hil
       simp (disch:=omega) [c4']
       (try rw [Hp_slgNH (s:=4) kR omg omg,ValT_iff,Int.toNat_natCast])
       have oLG:=AG.c.L
       rw [hv2] at oLG
       have src0:=(oLG.cut (hi:=i) (mx:=k2) omg (Nat.le_refl _) omg).src
       rw [rgV_take] at src0
       have hone:∀l:List Rp,(∀x∈l,x∈r2.L)→∀u∈l.flatMap rgV,one u=true:=fun l hl=>AG.c.rgOne hl
       refine Hp_appendG (e:=rgT) (s:=4) (by_:=48) (n:=0) (k:=i) kR kR OwnG.nil rfl omg src0 (hone _ (fun x hx=>List.mem_of_mem_take hx)) omg omg fun v4 h4 o4 m4 b4 _ => ?_
       have e4:Ext g h4:=m4.ext_from (.refl _) (fun b hb e=>by cases e)
       have f4:∀b,blkG v4=some b→g.size≤b:=fun b hb=>(b4 b hb).elim (fun e=>by cases e) id
       rw [List.nil_append] at o4
       have hbl:(r2.L.take i).length=i:=by rw [List.length_take]; omega
       simp (disch:=omega)
       refine (⟨_,rfl⟩:∃h5,h5=h4.push (.cells #[.int .i64 n,.slice (some ⟨h2.size,0,none⟩) W W,.bool false,.int .i64 0] rgT)).elim fun h5 eh5 => ?_
       have e5:Ext h4 h5:=by rw [eh5]; exact extS
       have sx:Src 4 h5 (.slice (some ⟨h4.size,0,none⟩) 1 1) 1 [.int .i64 n,.slice (some ⟨h2.size,0,none⟩) W W,.bool false,.int .i64 0]:=by rw [eh5]; exact Src_new (vs:=[.int .i64 n,.slice (some ⟨h2.size,0,none⟩) W W,.bool false,.int .i64 0]) rfl
       rw [show h4.push (.cells #[.int .i64 n,.slice (some ⟨h2.size,0,none⟩) W W,.bool false,.int .i64 0] 178)=h5 from eh5.symm]
       clear eh5
       have hz4:=e4.size
       have hz5:=e5.size
       refine Hp_appendG (e:=rgT) (s:=4) (by_:=48) (n:=i) (k:=1) kR kR (o4.ext e5) (by rw [rgV_len,hbl]) omg sx (by simp [one]) omg omg fun v6 h6 o6 m6 b6 _ => ?_
       have e6:Ext g h6:=m6.ext_from (e4.trans e5) (fun b hb e=>by have:=f4 b e; omega)
       have f6:∀b,blkG v6=some b→g.size≤b:=fun b hb=>(b6 b hb).elim (f4 b) (fun e=>by omega)
       have hz6:=e6.size
       have c46:=hcell_ext e6 c4
       rw [hv2] at c46
       simp (disch:=omega) [c46]
       (try rw [Hp_slgLN (s:=4) kR omg omg omg,ValT_iff,Int.toNat_natCast])
       have src1:=((oLG.ext e6).dropO (lo:=i) omg).src
       rw [rgV_drop] at src1
       (try rw [subO_some] at src1)
       refine Hp_appendG (e:=rgT) (s:=4) (by_:=48) (n:=i+1) (k:=r2.L.length-i) kR kR o6 (by rw [List.length_append,rgV_len,hbl]; simp; omega) omg src1 (hone _ (fun x hx=>List.mem_of_mem_drop hx)) omg omg fun v7 h7 o7 m7 b7 _ => ?_
       have e7:Ext g h7:=m7.ext_from e6 (fun b hb e=>by have:=f6 b e; omega)
       have f7:∀b,blkG v7=some b→g.size≤b:=fun b hb=>(b7 b hb).elim (f6 b) (fun e=>by omega)
       have ol7:OwnG rgT 4 h7 v7 ((r2.L.take i++(⟨n,fillP p6 c.bits n,false,0,.slice (some ⟨h2.size,0,none⟩) W W⟩:Rp)::r2.L.drop i).flatMap rgV):=by
        rw [List.flatMap_append,List.flatMap_cons]
        rw [List.append_assoc] at o7
        exact o7
       have A7:=AG.ext e7
       have c47:=rc4 A7.c.cells
       have f47:=rcF A7.c.cells 4
       obtain ⟨va,vn,vc,rfl,-,-,-⟩:=o7.form
       have zG:=eG.size
       have hper:(r2.L.take i++(⟨n,fillP p6 c.bits n,false,0,.slice (some ⟨h2.size,0,none⟩) W W⟩:Rp)::r2.L.drop i).Perm ((⟨n,fillP p6 c.bits n,false,0,.slice (some ⟨h2.size,0,none⟩) W W⟩:Rp)::r2.L):=by
        have:=List.perm_middle (a:=(⟨n,fillP p6 c.bits n,false,0,.slice (some ⟨h2.size,0,none⟩) W W⟩:Rp)) (l₁:=r2.L.take i) (l₂:=r2.L.drop i)
        rw [List.take_append_drop] at this
        exact this
       obtain ⟨W1,hW1'⟩:∃W1,W=W1+1:=⟨W-1,by omega⟩
       have hblk:blkG (.slice (some ⟨h2.size,0,none⟩) W W)=some h2.size:=by rw [hW1']; rfl
       have u8:=A2.c.setL (eG.trans e7) ol7 (fun x hx=>by
        rcases List.mem_cons.1 (hper.mem_iff.1 hx) with rfl|hx
        ·refine .inr ⟨oG.ext e7,fun b hb => ?_⟩
         have hb':blkG (.slice (some ⟨h2.size,0,none⟩) W W)=some b:=hb
         rw [hblk] at hb'
         cases hb'
         exact Nat.le_refl _
        ·exact .inl hx) (by rw [hper.length_eq,List.length_cons]; omega) (by
         refine (hper.pairwise_iff (fun {x y} h b h1 h2=>h b h2 h1)).2 (List.pairwise_cons.2 ⟨fun y hy b hb hb2 => ?_,A2.c.ok.ap⟩)
         have hb':blkG (.slice (some ⟨h2.size,0,none⟩) W W)=some b:=hb
         rw [hblk] at hb'
         cases hb'
         exact absurd ((A2.c.by_ y hy).lt hb2) (Nat.lt_irrefl _)) (insert_sort hi A2.c.ok.sort hlo hup) (fun b hb=>by have:=f7 b hb; omega)
       have U8:=U2.trans (u8.a A2 rfl)
       have A8:=U8.at_
       have c98:=rc9 A8.c.cells
       have f98:=rcF A8.c.cells 9
       have hcast:((r2.loads:Nat):Int)+1=((r2.loads+1:Nat):Int):=by omega
       have c97:=rc9 A7.c.cells
       have f97:=rcF A7.c.cells 9
       simp (disch:=omega) [c47,f47,c97,f97]
       rw [hcast]
       have u9:=A8.c.num (i:=9) (k:=r2.loads+1) (c':={ r2 with L:=r2.L.take i++(⟨n,fillP p6 c.bits n,false,0,.slice (some ⟨h2.size,0,none⟩) W W⟩:Rp)::r2.L.drop i,lv := .slice va vn vc,loads:=r2.loads+1 }) rfl ⟨rfl,rfl,rfl,rfl,rfl,rfl⟩
       refine hkk _ ⟨_,m2,c6.added (newPg p6 c.bits n pb bb),p6,U8.trans (u9.a A8 rfl),R2.insert (x:=(⟨n,fillP p6 c.bits n,false,0,.slice (some ⟨h2.size,0,none⟩) W W⟩:Rp)) (k:=i) rfl,q2,⟨i,?_,?_⟩,?_,?_⟩
       ·rw [hper.length_eq,List.length_cons]; omega
       ·dsimp only
        rw [List.getElem_append_right (by rw [hbl]; exact Nat.le_refl i)]
        simp [hbl]
       ·rw [hfu]
       ·show r2.clock=c.clock
        omega
    ·rw [hfl] at hf4
     cases hf4
     simp (disch:=omega)
     refine JoinN_in0 (fun G=>Mod (· = h2.size) h3 G∧OwnG bT 1 G (.slice (some ⟨h2.size,0,none⟩) W W) ((fillP p6 c.bits n).map byteV)) (fun kk1 hkk1 => ?_) (fun G hG9 => ?_)
     ·simp (disch:=omega)
      have hcp:=fun (K:VP)=>Hp_copyG (P:=Tryz.prog) (t:=33) (t2:=33) (e:=bT) (lo:=0) (m:=W) (c':=W) (K:=K) (h:=h4) (a:=⟨h2.size,0,none⟩) (n:=W) (c:=W) (x:=v4) kR (qB.ext e4) omg ov4
      simp only [sub_zero] at hcp
      refine hcp _ fun h5 o5 m5 => ?_
      refine hkk1 h5 ⟨(Mod.of_ext e4).trans m5 (fun b _ e => ?_),?_⟩
      ·obtain ⟨W1,hW1⟩:∃W1,W=W1+1:=⟨W-1,by omega⟩
       rw [hW1] at e
       exact (Option.some.inj e).symm
      ·rw [hfill]
       have htk:((fl.now.drop PL).take W).take W=(fl.now.drop PL).take W:=by rw [List.take_take,Nat.min_self]
       rw [Int.toNat_natCast,Int.toNat_natCast,htk] at o5
       exact o5
     ·skip
      obtain ⟨mG,oG⟩:=hG9
      have eG:Ext h2 G:=mG.ext_from e3 (fun b hb e=>by omega)
      have AG:=A2.ext eG
      have c4:=rc4 AG.c.cells
      obtain ⟨s2,k2,hv2,hk2⟩:=AG.c.lform
      have c4':=c4
      rw [hv2] at c4'
      have hl2:=AG.c.ok.lf
      refine loopX1 (α:=Nat) (fun i => .int .i64 i) (fun i g=>g=G∧i≤r2.L.length∧∀j (hj:j<r2.L.length),j<i→r2.L[j].n<n) (fun i=>r2.L.length-i) 0 rfl ⟨rfl,Nat.zero_le _,fun j _ hj=>by omega⟩ ?_
      rintro i g ⟨rfl,hi,hlo⟩ X hX
      by_cases hil:i<r2.L.length
      ·obtain ⟨b,t,k',hv',-,⟨w0,-,-,-⟩,-⟩:=AG.c.pg hil
       rw [hv2] at hv'
       injection hv' with e1' e2' e3'
       subst e1'
       obtain ⟨y,hy⟩:∃y,r2.L[i].n=y:=⟨_,rfl⟩
       rw [hy] at w0
       by_cases hyn:y<n
       ·simp (disch:=omega) [c4',w0,hyn]
        refine hX (i+1) _ _ sM ⟨rfl,by omega,fun j hj hji => ?_⟩ omg
        by_cases e:j=i
        ·subst e; rw [hy]; exact hyn
        ·exact hlo j hj omg
       ·have hup:∀hj:i<r2.L.length,n<r2.L[i].n:=fun hj=>by
         have:=hno2 _ (List.getElem_mem hil)
         rw [hy] at this ⊢
         omega
        simp (disch:=omega) [c4',w0,hyn]
        (try rw [Hp_slgNH (s:=4) kR omg omg,ValT_iff,Int.toNat_natCast])
        have oLG:=AG.c.L
        rw [hv2] at oLG
        have src0:=(oLG.cut (hi:=i) (mx:=k2) omg (Nat.le_refl _) omg).src
        rw [rgV_take] at src0
        have hone:∀l:List Rp,(∀x∈l,x∈r2.L)→∀u∈l.flatMap rgV,one u=true:=fun l hl=>AG.c.rgOne hl
        refine Hp_appendG (e:=rgT) (s:=4) (by_:=48) (n:=0) (k:=i) kR kR OwnG.nil rfl omg src0 (hone _ (fun x hx=>List.mem_of_mem_take hx)) omg omg fun v4 h4 o4 m4 b4 _ => ?_
        have e4:Ext g h4:=m4.ext_from (.refl _) (fun b hb e=>by cases e)
        have f4:∀b,blkG v4=some b→g.size≤b:=fun b hb=>(b4 b hb).elim (fun e=>by cases e) id
        rw [List.nil_append] at o4
        have hbl:(r2.L.take i).length=i:=by rw [List.length_take]; omega
        simp (disch:=omega)
        refine (⟨_,rfl⟩:∃h5,h5=h4.push (.cells #[.int .i64 n,.slice (some ⟨h2.size,0,none⟩) W W,.bool false,.int .i64 0] rgT)).elim fun h5 eh5 => ?_
        have e5:Ext h4 h5:=by rw [eh5]; exact extS
        have sx:Src 4 h5 (.slice (some ⟨h4.size,0,none⟩) 1 1) 1 [.int .i64 n,.slice (some ⟨h2.size,0,none⟩) W W,.bool false,.int .i64 0]:=by rw [eh5]; exact Src_new (vs:=[.int .i64 n,.slice (some ⟨h2.size,0,none⟩) W W,.bool false,.int .i64 0]) rfl
        rw [show h4.push (.cells #[.int .i64 n,.slice (some ⟨h2.size,0,none⟩) W W,.bool false,.int .i64 0] 178)=h5 from eh5.symm]
        clear eh5
        have hz4:=e4.size
        have hz5:=e5.size
        refine Hp_appendG (e:=rgT) (s:=4) (by_:=48) (n:=i) (k:=1) kR kR (o4.ext e5) (by rw [rgV_len,hbl]) omg sx (by simp [one]) omg omg fun v6 h6 o6 m6 b6 _ => ?_
        have e6:Ext g h6:=m6.ext_from (e4.trans e5) (fun b hb e=>by have:=f4 b e; omega)
        have f6:∀b,blkG v6=some b→g.size≤b:=fun b hb=>(b6 b hb).elim (f4 b) (fun e=>by omega)
        have hz6:=e6.size
        have c46:=hcell_ext e6 c4
        rw [hv2] at c46
        simp (disch:=omega) [c46]
        (try rw [Hp_slgLN (s:=4) kR omg omg omg,ValT_iff,Int.toNat_natCast])
        have src1:=((oLG.ext e6).dropO (lo:=i) omg).src
        rw [rgV_drop] at src1
        (try rw [subO_some] at src1)
        refine Hp_appendG (e:=rgT) (s:=4) (by_:=48) (n:=i+1) (k:=r2.L.length-i) kR kR o6 (by rw [List.length_append,rgV_len,hbl]; simp; omega) omg src1 (hone _ (fun x hx=>List.mem_of_mem_drop hx)) omg omg fun v7 h7 o7 m7 b7 _ => ?_
        have e7:Ext g h7:=m7.ext_from e6 (fun b hb e=>by have:=f6 b e; omega)
        have f7:∀b,blkG v7=some b→g.size≤b:=fun b hb=>(b7 b hb).elim (f6 b) (fun e=>by omega)
        have ol7:OwnG rgT 4 h7 v7 ((r2.L.take i++(⟨n,fillP p6 c.bits n,false,0,.slice (some ⟨h2.size,0,none⟩) W W⟩:Rp)::r2.L.drop i).flatMap rgV):=by
         rw [List.flatMap_append,List.flatMap_cons]
         rw [List.append_assoc] at o7
         exact o7
        have A7:=AG.ext e7
        have c47:=rc4 A7.c.cells
        have f47:=rcF A7.c.cells 4
        obtain ⟨va,vn,vc,rfl,-,-,-⟩:=o7.form
        have zG:=eG.size
        have hper:(r2.L.take i++(⟨n,fillP p6 c.bits n,false,0,.slice (some ⟨h2.size,0,none⟩) W W⟩:Rp)::r2.L.drop i).Perm ((⟨n,fillP p6 c.bits n,false,0,.slice (some ⟨h2.size,0,none⟩) W W⟩:Rp)::r2.L):=by
         have:=List.perm_middle (a:=(⟨n,fillP p6 c.bits n,false,0,.slice (some ⟨h2.size,0,none⟩) W W⟩:Rp)) (l₁:=r2.L.take i) (l₂:=r2.L.drop i)
         rw [List.take_append_drop] at this
         exact this
        obtain ⟨W1,hW1'⟩:∃W1,W=W1+1:=⟨W-1,by omega⟩
        have hblk:blkG (.slice (some ⟨h2.size,0,none⟩) W W)=some h2.size:=by rw [hW1']; rfl
        have u8:=A2.c.setL (eG.trans e7) ol7 (fun x hx=>by
         rcases List.mem_cons.1 (hper.mem_iff.1 hx) with rfl|hx
         ·refine .inr ⟨oG.ext e7,fun b hb => ?_⟩
          have hb':blkG (.slice (some ⟨h2.size,0,none⟩) W W)=some b:=hb
          rw [hblk] at hb'
          cases hb'
          exact Nat.le_refl _
         ·exact .inl hx) (by rw [hper.length_eq,List.length_cons]; omega) (by
          refine (hper.pairwise_iff (fun {x y} h b h1 h2=>h b h2 h1)).2 (List.pairwise_cons.2 ⟨fun y hy b hb hb2 => ?_,A2.c.ok.ap⟩)
          have hb':blkG (.slice (some ⟨h2.size,0,none⟩) W W)=some b:=hb
          rw [hblk] at hb'
          cases hb'
          exact absurd ((A2.c.by_ y hy).lt hb2) (Nat.lt_irrefl _)) (insert_sort hi A2.c.ok.sort hlo hup) (fun b hb=>by have:=f7 b hb; omega)
        have U8:=U2.trans (u8.a A2 rfl)
        have A8:=U8.at_
        have c98:=rc9 A8.c.cells
        have f98:=rcF A8.c.cells 9
        have hcast:((r2.loads:Nat):Int)+1=((r2.loads+1:Nat):Int):=by omega
        have c97:=rc9 A7.c.cells
        have f97:=rcF A7.c.cells 9
        simp (disch:=omega) [c47,f47,c97,f97]
        rw [hcast]
        have u9:=A8.c.num (i:=9) (k:=r2.loads+1) (c':={ r2 with L:=r2.L.take i++(⟨n,fillP p6 c.bits n,false,0,.slice (some ⟨h2.size,0,none⟩) W W⟩:Rp)::r2.L.drop i,lv := .slice va vn vc,loads:=r2.loads+1 }) rfl ⟨rfl,rfl,rfl,rfl,rfl,rfl⟩
        refine hkk _ ⟨_,m2,c6.added (newPg p6 c.bits n pb bb),p6,U8.trans (u9.a A8 rfl),R2.insert (x:=(⟨n,fillP p6 c.bits n,false,0,.slice (some ⟨h2.size,0,none⟩) W W⟩:Rp)) (k:=i) rfl,q2,⟨i,?_,?_⟩,?_,?_⟩
        ·rw [hper.length_eq,List.length_cons]; omega
        ·dsimp only
         rw [List.getElem_append_right (by rw [hbl]; exact Nat.le_refl i)]
         simp [hbl]
        ·rw [hfu]
        ·show r2.clock=c.clock
         omega
      ·have hup:∀hj:i<r2.L.length,n<r2.L[i].n:=fun hj=>absurd hj hil
       simp (disch:=omega) [c4']
       (try rw [Hp_slgNH (s:=4) kR omg omg,ValT_iff,Int.toNat_natCast])
       have oLG:=AG.c.L
       rw [hv2] at oLG
       have src0:=(oLG.cut (hi:=i) (mx:=k2) omg (Nat.le_refl _) omg).src
       rw [rgV_take] at src0
       have hone:∀l:List Rp,(∀x∈l,x∈r2.L)→∀u∈l.flatMap rgV,one u=true:=fun l hl=>AG.c.rgOne hl
       refine Hp_appendG (e:=rgT) (s:=4) (by_:=48) (n:=0) (k:=i) kR kR OwnG.nil rfl omg src0 (hone _ (fun x hx=>List.mem_of_mem_take hx)) omg omg fun v4 h4 o4 m4 b4 _ => ?_
       have e4:Ext g h4:=m4.ext_from (.refl _) (fun b hb e=>by cases e)
       have f4:∀b,blkG v4=some b→g.size≤b:=fun b hb=>(b4 b hb).elim (fun e=>by cases e) id
       rw [List.nil_append] at o4
       have hbl:(r2.L.take i).length=i:=by rw [List.length_take]; omega
       simp (disch:=omega)
       refine (⟨_,rfl⟩:∃h5,h5=h4.push (.cells #[.int .i64 n,.slice (some ⟨h2.size,0,none⟩) W W,.bool false,.int .i64 0] rgT)).elim fun h5 eh5 => ?_
       have e5:Ext h4 h5:=by rw [eh5]; exact extS
       have sx:Src 4 h5 (.slice (some ⟨h4.size,0,none⟩) 1 1) 1 [.int .i64 n,.slice (some ⟨h2.size,0,none⟩) W W,.bool false,.int .i64 0]:=by rw [eh5]; exact Src_new (vs:=[.int .i64 n,.slice (some ⟨h2.size,0,none⟩) W W,.bool false,.int .i64 0]) rfl
       rw [show h4.push (.cells #[.int .i64 n,.slice (some ⟨h2.size,0,none⟩) W W,.bool false,.int .i64 0] 178)=h5 from eh5.symm]
       clear eh5
       have hz4:=e4.size
       have hz5:=e5.size
       refine Hp_appendG (e:=rgT) (s:=4) (by_:=48) (n:=i) (k:=1) kR kR (o4.ext e5) (by rw [rgV_len,hbl]) omg sx (by simp [one]) omg omg fun v6 h6 o6 m6 b6 _ => ?_
       have e6:Ext g h6:=m6.ext_from (e4.trans e5) (fun b hb e=>by have:=f4 b e; omega)
       have f6:∀b,blkG v6=some b→g.size≤b:=fun b hb=>(b6 b hb).elim (f4 b) (fun e=>by omega)
       have hz6:=e6.size
       have c46:=hcell_ext e6 c4
       rw [hv2] at c46
       simp (disch:=omega) [c46]
       (try rw [Hp_slgLN (s:=4) kR omg omg omg,ValT_iff,Int.toNat_natCast])
       have src1:=((oLG.ext e6).dropO (lo:=i) omg).src
       rw [rgV_drop] at src1
       (try rw [subO_some] at src1)
       refine Hp_appendG (e:=rgT) (s:=4) (by_:=48) (n:=i+1) (k:=r2.L.length-i) kR kR o6 (by rw [List.length_append,rgV_len,hbl]; simp; omega) omg src1 (hone _ (fun x hx=>List.mem_of_mem_drop hx)) omg omg fun v7 h7 o7 m7 b7 _ => ?_
       have e7:Ext g h7:=m7.ext_from e6 (fun b hb e=>by have:=f6 b e; omega)
       have f7:∀b,blkG v7=some b→g.size≤b:=fun b hb=>(b7 b hb).elim (f6 b) (fun e=>by omega)
       have ol7:OwnG rgT 4 h7 v7 ((r2.L.take i++(⟨n,fillP p6 c.bits n,false,0,.slice (some ⟨h2.size,0,none⟩) W W⟩:Rp)::r2.L.drop i).flatMap rgV):=by
        rw [List.flatMap_append,List.flatMap_cons]
        rw [List.append_assoc] at o7
        exact o7
       have A7:=AG.ext e7
       have c47:=rc4 A7.c.cells
       have f47:=rcF A7.c.cells 4
       obtain ⟨va,vn,vc,rfl,-,-,-⟩:=o7.form
       have zG:=eG.size
       have hper:(r2.L.take i++(⟨n,fillP p6 c.bits n,false,0,.slice (some ⟨h2.size,0,none⟩) W W⟩:Rp)::r2.L.drop i).Perm ((⟨n,fillP p6 c.bits n,false,0,.slice (some ⟨h2.size,0,none⟩) W W⟩:Rp)::r2.L):=by
        have:=List.perm_middle (a:=(⟨n,fillP p6 c.bits n,false,0,.slice (some ⟨h2.size,0,none⟩) W W⟩:Rp)) (l₁:=r2.L.take i) (l₂:=r2.L.drop i)
        rw [List.take_append_drop] at this
        exact this
       obtain ⟨W1,hW1'⟩:∃W1,W=W1+1:=⟨W-1,by omega⟩
       have hblk:blkG (.slice (some ⟨h2.size,0,none⟩) W W)=some h2.size:=by rw [hW1']; rfl
       have u8:=A2.c.setL (eG.trans e7) ol7 (fun x hx=>by
        rcases List.mem_cons.1 (hper.mem_iff.1 hx) with rfl|hx
        ·refine .inr ⟨oG.ext e7,fun b hb => ?_⟩
         have hb':blkG (.slice (some ⟨h2.size,0,none⟩) W W)=some b:=hb
         rw [hblk] at hb'
         cases hb'
         exact Nat.le_refl _
        ·exact .inl hx) (by rw [hper.length_eq,List.length_cons]; omega) (by
         refine (hper.pairwise_iff (fun {x y} h b h1 h2=>h b h2 h1)).2 (List.pairwise_cons.2 ⟨fun y hy b hb hb2 => ?_,A2.c.ok.ap⟩)
         have hb':blkG (.slice (some ⟨h2.size,0,none⟩) W W)=some b:=hb
         rw [hblk] at hb'
         cases hb'
         exact absurd ((A2.c.by_ y hy).lt hb2) (Nat.lt_irrefl _)) (insert_sort hi A2.c.ok.sort hlo hup) (fun b hb=>by have:=f7 b hb; omega)
       have U8:=U2.trans (u8.a A2 rfl)
       have A8:=U8.at_
       have c98:=rc9 A8.c.cells
       have f98:=rcF A8.c.cells 9
       have hcast:((r2.loads:Nat):Int)+1=((r2.loads+1:Nat):Int):=by omega
       have c97:=rc9 A7.c.cells
       have f97:=rcF A7.c.cells 9
       simp (disch:=omega) [c47,f47,c97,f97]
       rw [hcast]
       have u9:=A8.c.num (i:=9) (k:=r2.loads+1) (c':={ r2 with L:=r2.L.take i++(⟨n,fillP p6 c.bits n,false,0,.slice (some ⟨h2.size,0,none⟩) W W⟩:Rp)::r2.L.drop i,lv := .slice va vn vc,loads:=r2.loads+1 }) rfl ⟨rfl,rfl,rfl,rfl,rfl,rfl⟩
       refine hkk _ ⟨_,m2,c6.added (newPg p6 c.bits n pb bb),p6,U8.trans (u9.a A8 rfl),R2.insert (x:=(⟨n,fillP p6 c.bits n,false,0,.slice (some ⟨h2.size,0,none⟩) W W⟩:Rp)) (k:=i) rfl,q2,⟨i,?_,?_⟩,?_,?_⟩
       ·rw [hper.length_eq,List.length_cons]; omega
       ·dsimp only
        rw [List.getElem_append_right (by rw [hbl]; exact Nat.le_refl i)]
        simp [hbl]
       ·rw [hfu]
       ·show r2.clock=c.clock
        omega
   ·rw [if_neg h0] at hfu
    rw [hfu] at H0
    simp (disch:=omega) [h0]
    exact H0 h2 r2 m2 h0 U2 R2 q2
  ·obtain ⟨g,hg,-⟩:=R.get a.c.ok.sort (List.getElem_mem hi)
   rw [hn] at hg
   have c8:=rc8 a1.c.cells
   have f8:=rcF a1.c.cells 8
   have hcast:((r.hits:Nat):Int)+1=((r.hits+1:Nat):Int):=by omega
   unfold ptrV
   simp (disch:=omega) [hx,c8,f8]
   rw [hcast]
   have u2:=a1.c.num (i:=8) (k:=r.hits+1) (c':={ r with hits:=r.hits+1 }) rfl ⟨rfl,rfl,rfl,rfl,rfl,rfl⟩
   refine hkk _ ⟨{ r with hits:=r.hits+1 },m,c.hit1,p,((RaU.refl a).ext e1).trans (u2.a a1 rfl),R.hit,rfl,⟨i,hi,hn⟩,?_,hRc⟩
   unfold useP
   rw [hpf]
   dsimp only
   rw [hg]
 ·obtain ⟨r2,m2,c2,p2,U2,R2,q2,⟨i,hi,hin⟩,hu,hck2⟩:=hG
  rw [hu] at H1
  dsimp only at H1
  have A2:=U2.at_
  rw [show (.pointer (some ⟨o,0,none⟩):Value)=ptrV o from rfl]
  refine cfind_c A2.c ?_
  have hix:r2.ix n=i:=by
   rcases ix_cases r2 n with ⟨-,hno⟩|⟨j,hj,hx,hn⟩
   ·exact absurd hin (hno _ (List.getElem_mem hi))
   ·rw [hx]
    have hs:=List.pairwise_iff_getElem.1 A2.c.ok.sort
    congr 1
    rcases Nat.lt_trichotomy i j with h3|h3|h3
    ·have:=hs i j hi hj h3; omega
    ·exact h3.symm
    ·have:=hs j i hj hi h3; omega
  rw [hix]
  have c7:=rc7 A2.c.cells
  have f7:=rcF A2.c.cells 7
  have hlf:=A2.c.ok.lf
  have hcast:((r2.clock:Nat):Int)+1=((r2.clock+1:Nat):Int):=by omega
  have u3:=A2.c.num (i:=7) (k:=r2.clock+1) (c':={ r2 with clock:=r2.clock+1 }) rfl ⟨rfl,rfl,rfl,rfl,rfl,rfl⟩
  have U3:=U2.trans (u3.a A2 rfl)
  have A3:=U3.at_
  obtain ⟨b,t,k,hv,hk,⟨-,-,-,w3⟩,pfz⟩:=A2.c.pg (i:=i) hi
  have c4:=rc4 A2.c.cells
  rw [hv] at c4
  have hbo:b≠o:=by
   have hlb:blkG r2.lv=some b:=by
    rw [hv]
    obtain ⟨k',rfl⟩:∃k',k=k'+1:=⟨k-1,by omega⟩
    rfl
   exact A2.c.L.ne hlb A2.c.cells rc_ne.1.symm
  have hob:=Ne.symm hbo
  have hoe:((⟨o,7,none⟩:Addr)=elt ⟨b,t,none⟩ (i*4+3))=False:=eq_false fun e=>hob (congrArg Addr.block e)
  have pf3:=pfz 3 omg
  unfold ptrV
  simp (disch:=omega) [c7,f7,c4,w3,pf3,hbo,hob,hoe]
  rw [hcast]
  have u4:=A3.c.setP (k:=3) (v := .int .i64 ((r2.clock+1:Nat):Int)) (x':={ r2.L[i] with u:=r2.clock+1 }) hi omg hv hk rfl rfl rfl rfl
  have R4:=R2.touched A2.c.ok.sort hi
  rw [hin] at R4
  refine H1 _ _ m2 i rfl (by dsimp only; rw [List.length_set]; exact hi) ?_ (U3.trans (u4.a A3 rfl)) R4 q2
  dsimp only
  rw [List.getElem_set_self]
  exact hin
end Go.Proofs.YtcbbdnaelimpfaaGreat

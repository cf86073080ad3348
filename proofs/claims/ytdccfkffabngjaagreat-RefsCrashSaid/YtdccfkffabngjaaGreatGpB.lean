/- Lemmas: what the functions do. -/
import Derived.Test.YtdccfkffabngjaaGreatGpA
import Derived.Test.YtdccfkffabngjaaGreatNice
import Derived.Test.YtdccfkffabngjaaGreatFacts
set_option linter.unusedSimpArgs false
set_option linter.unusedVariables false
set_option maxRecDepth 20000
namespace Go.Proofs.YtdccfkffabngjaaGreat
open Go.Vc
section
variable {K:VP}{h:Heap}
def St.pb(s:St)(b:Nat):Prop:=∃y∈s.F,∃q∈y.qs,blkV q.2=some b
structure SUpd (h h':Heap) (p:Nat) (s s':St):Prop where
 st:StAt h' p s'
 mod:Mod (s.foot p) h h'
 foot:∀b,s'.foot p b->s.foot p b\/h.size<=b
 pcs:∀b,s'.pb b->s.pb b\/h.size<=b
theorem SUpd.refl{p:Nat}{s:St}(a:StAt h p s):SUpd h h p s s:=⟨a,.refl _ _,fun _ h=>.inl h,fun _ h=>.inl h⟩
theorem SUpd.trans{h1 h2:Heap}{p:Nat}{x y z:St}(u:SUpd h h1 p x y)(v:SUpd h1 h2 p y z):SUpd h h2 p x z:=by
 have hs:=u.mod.size
 refine⟨v.st,u.mod.trans v.mod (fun b hb hy=>(u.foot b hy).resolve_right omg),fun b hb=>?_,fun b hb=>(v.pcs b hb).elim (u.pcs b) (fun e=>.inr omg)⟩
 rcases v.foot b hb with h3|h3
 ·exact u.foot b h3
 ·exact .inr omg
theorem SUpd.ext{h1 h2:Heap}{p:Nat}{x y:St}(u:SUpd h h1 p x y)(e:Ext h1 h2):SUpd h h2 p x y:=⟨u.st.ext e,u.mod.extIn e,u.foot,u.pcs⟩
theorem SUpd.from_{h0 h1:Heap}{p:Nat}{x y:St}(e:Ext h0 h)(u:SUpd h h1 p x y):SUpd h0 h1 p x y:=by
 have hs:=e.size
 exact⟨u.st,((Mod.of_ext e).trans u.mod (fun _ _ h=>h)),fun b hb=>(u.foot b hb).imp id (fun h=>by omega),fun b hb=>(u.pcs b hb).imp id (fun h=>by omega)⟩
theorem StAt.own_{p:Nat}{s:St}{h':Heap}{fv:Value}{fs:List (Int×Int)}{n:Nat}(a:StAt h p s)(m:Mod (fun b=>b=p\/blkG s.fv=some b) h h')(hc:h'[p]? = some (.cells #[.map (some s.m),fv,.int .i64 n] sT))(hf:OwnG aT 2 h' fv (fs.flatMap faV))
 (hb:∀b,blkG fv=some b->blkG s.fv=some b\/h.size<=b) (hn:n<1000000) (hm:s.steps<=n) (hl:fs.length<1000000000) (hk:∀f∈fs,f.2<9223372036854775808):SUpd h h' p s { s with fates:=fs,steps:=n,fv:=fv }:=by
 have hmn:s.m≠p:=fun e=>by
  obtain⟨es,cl,hm⟩:=mapCell a.map
  rw[e,a.cells]at hm;cases hm
 have hop:∀x∈s.F,∀b,x.own b->¬(b=p\/blkG s.fv=some b):=fun x hx b hb e=>e.elim (Fh.ne (a.fl x hx) hb a.cells sT_ne) (fun e=>by
  obtain⟨arr,ha⟩:=a.fat.tag e
  exact Fh.ne (a.fl x hx) hb ha aT_ne rfl)
 have hqp:∀x∈s.F,∀q∈x.qs,∀b,blkV q.2=some b->¬(b=p\/blkG s.fv=some b):=fun x hx q hq b hb e=>a.psep x hx q hq b hb (e.elim .inl (fun e=>.inr (.inr (.inl e))))
 have hmf:blkG s.fv≠some s.m:=fun e=>by
  obtain⟨es,cl,hm⟩:=mapCell a.map
  exact a.fat.neM e hm rfl
 have foot:∀b,St.foot { s with fates:=fs,steps:=n,fv:=fv } p b->s.foot p b\/h.size<=b:=by
  rintro b (e|e|e|e)
  ·exact .inl (.inl e)
  ·exact .inl (.inr (.inl e))
  ·exact (hb b e).imp (fun e=>.inr (.inr (.inl e))) id
  ·exact .inl (.inr (.inr (.inr e)))
 refine⟨⟨hc,a.map.mod m (fun e=>e.elim hmn hmf),fun x hx=>(a.fl x hx).mod m (hop x hx) (hqp x hx),a.sep,fun x hx q hq b hb e=>?_,hf,a.names,a.few,hn,hl,hk,fun x hx=>Nat.le_trans (a.pfew x hx) (Nat.mul_le_mul_right _ hm)⟩,m.mono (fun b _ e=>e.elim .inl (fun e=>.inr (.inr (.inl e)))),foot,fun b hb=>.inl hb⟩
 exact (foot b e).elim (a.psep x hx q hq b hb) (fun e=>by have:=(a.fl x hx).plt hq hb;omega)
def St.stepped(s:St)(fv:Value):St:={ s with steps:=s.steps+1,fates:=s.fates.tail,fv:=fv }
set_option maxHeartbeats 1000000 in
theorem step_c{p:Nat}{s:St}(a:StAt h p s)(hs:s.steps+1<1000000)(H:∀h' fv,SUpd h h' p s (s.stepped fv)->K (.tuple #[.int .i64 (fateE s.fates),.int .i64 (fateK s.fates)]) h') :
 CallsH Tryz.prog 81 #[ptrV p] h K ⟨⟩:=by
 refine n81_calls ?_
 unfold n81 ptrV;try delta vF vG vC vD vJ vV vk vt
 have hpl:=get_some_lt a.cells
 have c2:=cellOf (i:=2) a.cells rfl
 have f2:=frzOf (i:=2) a.cells
 obtain⟨fa,fn,fc,hfv,hfl,hfc,hfne⟩:=a.fat.form
 have hcl:=a.cells
 have hfat:=a.fat
 have hfp:∀b,blkG s.fv=some b->b≠p:=fun b hb=>a.fat.ne hb a.cells aT_sT
 have hw1:(((s.steps:Nat):Int)+1)=((s.steps+1:Nat):Int):=by omega
 have hfk:=a.fatk
 rw[hfv]at hcl hfat
 cases hft:s.fates with
 | nil =>
  have hn0:fn=0:=by rw[hft]at hfl;simp at hfl;omega
  subst hn0
  have d1:=cellOf (i:=1) hcl rfl
  simp(disch:=omega)[c2,f2,d1]
  rw[hft]at H
  refine H _ s.fv ?_
  have hE:s.stepped s.fv={ s with fates:=[],steps:=s.steps+1,fv:=s.fv }:=by unfold St.stepped;rw[hft];rfl
  rw[hE]
  refine a.own_ ((Mod.set h ⟨p,2,none⟩ _).mono (fun b _ e=>.inl e)) ?_ ?_ (fun b hb=>.inl hb) hs (Nat.le_succ _) sM (fun f hf=>by cases hf)
  ·rw[hw1];exact obj_set a.cells
  ·have:=a.fat.mod (Mod.set h ⟨p,2,none⟩ (.int .i64 ((s.steps:Int)+1))) (fun b hb e=>hfp b hb e)
   rw[hft]at this;exact this
 | cons f t =>
  obtain⟨k,n⟩:=f
  have hfa:∀l:List (Int×Int),(l.flatMap faV).length=l.length*2:=fun l=>by induction l with|nil=>rfl|cons f l ih=>rw[List.flatMap_cons,List.length_append,ih];simp[faV];omega
  have hn1:fn=t.length+1:=by rw[hft,hfa]at hfl;simp at hfl;omega
  subst hn1
  obtain⟨b0,o0,rfl⟩:=hfne (by rw[hft];simp[faV])
  rw[hft]at hfat hfk
  simp only[List.length_cons]at hfk
  have d1:=cellOf (i:=1) hcl rfl
  have f1:=frzOf (i:=1) hcl
  have hb0':blkG s.fv=some b0:=by rw[hfv];cases fc with|zero=>omega|succ c=>rfl
  have hbp:b0≠p:=hfp b0 hb0'
  have hpb:=Ne.symm hbp
  have hb0:b0<h.size:=a.fat.lt hb0'
  have g0:=(hfat.cell (i:=0) (by simp[faV])).1
  have g1:=(hfat.cell (i:=1) (by simp[faV])).1
  have w0:(List.flatMap faV ((k,n)::t))[0]'(by simp[faV]) = .int .i64 k:=by simp[faV]
  have w1:(List.flatMap faV ((k,n)::t))[1]'(by simp[faV]) = .int .i64 n:=by simp[faV]
  rw[w0,elt_mk]at g0
  rw[w1,elt_mk]at g1
  simp only[Nat.add_zero]at g0
  simp(disch:=omega)[c2,f2,d1,f1,g0,g1,hbp,hpb]
  have fin:∀fx,fx=hset (hset (hset ((hset h ⟨p,2,none⟩ (.int .i64 ((s.steps:Int)+1))).push (.cells #[.int .i64 0,.int .i64 0] 139)) ⟨h.size,0,none⟩ (.int .i64 k)) ⟨h.size,1,none⟩ (.int .i64 n)) ⟨p,1,none⟩ (.slice (some (subS 2 ⟨b0,o0,none⟩ 1 fc)) t.length (fc-1)) ->
   K (.tuple #[.int .i64 (fateE s.fates),.int .i64 (fateK s.fates)]) fx:=by
   intro fx ex
   refine H fx (.slice (some (subS 2 ⟨b0,o0,none⟩ 1 fc)) t.length (fc-1)) ?_
   have hE:s.stepped (.slice (some (subS 2 ⟨b0,o0,none⟩ 1 fc)) t.length (fc-1))={ s with fates:=t,steps:=s.steps+1,fv:=.slice (some (subS 2 ⟨b0,o0,none⟩ 1 fc)) t.length (fc-1) }:=by unfold St.stepped;rw[hft];rfl
   rw[hE]
   have m:Mod (· = p) h fx:=by rw[ex];exact modS
   have dr:=hfat.drop (lo:=1) omg
   have e1:(List.flatMap faV ((k,n)::t)).drop (1*2)=t.flatMap faV:=by simp[faV]
   rw[e1,Nat.add_sub_cancel]at dr
   refine a.own_ (m.mono (fun b _ e=>.inl e)) ?_ (dr.mod m (fun b hb e=>hfp b ?_ e)) (fun b hb=>.inl ?_) hs (Nat.le_succ _) omg (fun f hf=>a.fok f (by rw[hft];exact List.mem_cons_of_mem _ hf))
   ·rw[ex]
    refine (obj_set (arr := #[.map (some s.m),s.fv,.int .i64 (s.steps+1:Nat)]) (t:=sT) (i:=1) ?_).trans rfl
    refine (get_hset' omg).trans ((get_hset' omg).trans ((get_push (by simp;omega)).trans ?_))
    rw[hw1]
    exact obj_set a.cells
   ·rw[hfv];exact blk_drop (n:=t.length+1) hb
   ·rw[hfv];exact blk_drop (n:=t.length+1) hb
  clear H
  refine JoinN.mk ?_
  simp(disch:=omega)
  refine JoinN.mk ?_
  rw[hft]at fin
  simp only[fateE,fateK]at fin
  by_cases k1:k=1
  ·subst k1
   simp(disch:=omega)
   exact fin _ rfl
  ·by_cases k2:k=2
   ·subst k2
    simp(disch:=omega)
    exact fin _ rfl
   ·rw[if_neg k1,if_neg k2]at fin
    simp(disch:=omega)[k1,k2]
    exact fin _ rfl
end
section
variable {K:VP}{h:Heap}
theorem piece_upd{x:Fh}{h2 h3 h5:Heap}{k:Nat}{b:List UInt8}{w pv':Value}(a:FlAt h x)(hp:Pc.ok ⟨k,b⟩)(hk:k+b.length<=x.last.length)(e2:Ext h h2)(hw:Bytes h2 w b)(hwn:∀c,blkV w=some c->h.size<=c)
 (o3:OwnG pT 2 h3 pv' ((x.qs++[((⟨k,b⟩:Pc),w)]).flatMap pcV)) (m3:Mod (fun c=>blkG x.pv=some c) h2 h3) (f3:∀c,blkG pv'=some c->blkG x.pv=some c\/h2.size<=c)
 (o5:OwnG bT 1 h5 x.nv ((over x.f.now k b).map byteV)) (m5:Mod (fun c=>blkG x.nv=some c) (hset h3 ⟨x.b,1,none⟩ pv') h5):Upd h h5 x { x with qs:=x.qs++[(⟨k,b⟩,w)],pv:=pv' }:=by
 have z2:=e2.size
 have z3:=m3.size
 have z5:=m5.size
 rw[hset_size]at z5
 have hb:=get_some_lt a.cells
 have hxb:∀c,blkG x.nv=some c->c≠x.b:=fun c hc=>a.now.ne hc a.cells bT_fT
 have hlb:∀c,blkG x.lv=some c->c≠x.b:=fun c hc=>a.last.ne hc a.cells bT_fT
 have hpb:∀c,blkG x.pv=some c->c≠x.b:=fun c hc=>a.ps.ne hc a.cells pT_fT
 have hwl:∀c,blkV w=some c->c<h2.size:=fun c hc=>hw.lt hc (fun e=>by have:=hp.pos;rw[e]at this;simp at this)
 have m:Mod x.own h h5:=by
  have m4:Mod x.own h (hset h3 ⟨x.b,1,none⟩ pv'):=Mod.setIn ((Mod.of_ext e2).trans m3 (fun c _ e=>.inr (.inr (.inl e)))) (.inl (.inl rfl))
  exact m4.trans m5 (fun c _ e=>.inr (.inr (.inr e)))
 have c3:=(m3.block x.b omg (fun e=>hpb _ e rfl)).trans ((e2.block _ hb).trans a.cells)
 have own':∀c,({ x with qs:=x.qs++[(⟨k,b⟩,w)],pv:=pv' }:Fh).own c->x.own c\/h.size<=c:=by
  rintro c (e|e|e|e)
  ·exact .inl (.inl e)
  ·exact .inl (.inr (.inl e))
  ·exact (f3 c e).imp (fun e=>.inr (.inr (.inl e))) (fun e=>by omega)
  ·exact .inl (.inr (.inr (.inr e)))
 have hpn:∀c,blkG pv'=some c->blkG x.nv≠some c:=fun c hc e=>by
  rcases f3 c hc with e1|e1
  ·obtain⟨arr,ha⟩:=a.ps.tag e1
   exact a.now.ne e ha bT_pT rfl
  ·have:=a.now.lt e;omega
 have hpx:∀c,blkG pv'=some c->c≠x.b:=fun c hc=>o3.ne hc c3 pT_fT
 have own1:∀c,blkV w=some c->¬({ x with qs:=x.qs++[(⟨k,b⟩,w)],pv:=pv' }:Fh).own c:=by
  rintro c hc (e|e|e|e)
  ·have:=hwn c hc;have e':c=x.b:=e;omega
  ·have:=hwn c hc;have:=a.last.lt e;omega
  ·have h1:=hwn c hc
   have h2:=hwl c hc
   rcases f3 c e with e1|e1
   ·have:=a.ps.lt e1;omega
   ·omega
  ·have:=hwn c hc;have:=a.now.lt e;omega
 have hnw:({ x with qs:=x.qs++[(⟨k,b⟩,w)],pv:=pv' }:Fh).f=x.f.add ⟨k,b⟩:=by
  unfold Fh.f Fl.add
  dsimp only
  rw[growL_same hk,List.map_append];rfl
 have ok':({ x with qs:=x.qs++[(⟨k,b⟩,w)],pv:=pv' }:Fh).f.ok:=by
  rw[hnw]
  exact a.ok.add hp (by have:=a.ok.few;show k+b.length<=_;have:x.f.last.length=x.last.length:=rfl;omega)
 refine⟨⟨?_,?_,?_,?_,?_,ok',a.ne,?_⟩,m,own',?_,rfl,rfl⟩
 ·exact (m5.block x.b (by rw[hset_size];omega) (fun e=>hxb _ e rfl)).trans (obj_set c3)
 ·refine a.last.mod (S:=fun c=>blkG x.nv=some c\/blkG x.pv=some c\/c=x.b) (Mod.trans (Mod.setIn ((Mod.of_ext e2).trans m3 (fun c _ e=>.inr (.inl e))) (.inl (.inr (.inr rfl)))) m5 (fun c _ e=>.inl e)) (fun c hc=>?_)
  rintro (e|e|e)
  ·exact a.ne c hc e
  ·obtain⟨arr,ha⟩:=a.ps.tag e
   exact a.last.ne hc ha bT_pT rfl
  ·exact hlb c hc e
 ·rw[hnw,a.ok.now_add,growL_same (by rw[a.len];exact hk)]
  exact o5
 ·exact (o3.mod (Mod.set h3 ⟨x.b,1,none⟩ pv') (fun c hc e=>hpx c hc e)).mod m5 (fun c hc e=>hpn c hc e)
 ·intro q hq
  rcases List.mem_append.1 hq with hq|hq
  ·exact (a.bs q hq).mod m (a.ap q hq)
  ·simp at hq;subst hq
   refine hw.mod (S:=fun c=>blkG x.nv=some c\/blkG x.pv=some c\/c=x.b) (Mod.trans (Mod.setIn (m3.mono (fun c _ e=>.inr (.inl e))) (.inl (.inr (.inr rfl)))) m5 (fun c _ e=>.inl e)) (fun c hc=>?_)
   have:=hwn c hc
   rintro (e|e|e)
   ·have:=a.now.lt e;omega
   ·have:=a.ps.lt e;omega
   ·omega
 ·intro q hq c hc
  rcases List.mem_append.1 hq with hq|hq
  ·exact fun e=>(own' c e).elim (a.ap q hq c hc) (fun e=>by have:=a.plt hq hc;omega)
  ·simp at hq;subst hq
   exact own1 c hc
 ·intro q hq c hc
  rcases List.mem_append.1 hq with hq|hq
  ·exact .inl ⟨q,hq,hc⟩
  ·simp at hq;subst hq
   exact .inr (hwn c hc)
end
section
variable {K:VP}{h:Heap}
theorem StAt.put{p:Nat}{s:St}{A B:List Fh}{x x':Fh}{h':Heap}(a:StAt h p s)(hF:s.F=A++x::B)(u:Upd h h' x x')(hqq:x'.qs.length<=s.steps*1000000):SUpd h h' p s { s with F:=A++x'::B }:=by
 have hx:x∈s.F:=by rw[hF];simp
 have hs:=u.mod.size
 have ax:=a.fl x hx
 have sep:=a.sep
 rw[hF,List.pairwise_append,List.pairwise_cons]at sep
 obtain⟨sA,⟨sx,sB⟩,sAB⟩:=sep
 have mem:∀y∈A++x'::B,y=x'\/(y∈s.F/\∀b,y.own b->¬x.own b):=by
  intro y hy
  rcases List.mem_append.1 hy with hy|hy
  ·exact .inr ⟨by rw[hF];exact List.mem_append_left _ hy,fun b hb=>sAB y hy x List.mem_cons_self b hb⟩
  ·rcases List.mem_cons.1 hy with hy|hy
   ·exact .inl hy
   ·exact .inr ⟨by rw[hF];exact List.mem_append_right _ (List.mem_cons_of_mem _ hy),fun b hb hc=>sx y hy b hc hb⟩
 have pne:∀b,x.own b->b≠p:=fun b hb=>Fh.ne ax hb a.cells sT_ne
 have mne:∀b,x.own b->b≠s.m:=fun b hb=>by
  obtain⟨es,cl,hm⟩:=mapCell a.map
  exact Fh.neM ax hb hm
 have fne:∀b,blkG s.fv=some b->¬x.own b:=fun b hb hc=>by
  obtain⟨arr,ha⟩:=a.fat.tag hb
  exact Fh.ne ax hc ha aT_ne rfl
 have foot:∀b,St.foot { s with F:=A++x'::B } p b->s.foot p b\/h.size<=b:=by
  rintro b (e|e|e|⟨y,hy,e⟩)
  ·exact .inl (.inl e)
  ·exact .inl (.inr (.inl e))
  ·exact .inl (.inr (.inr (.inl e)))
  ·rcases mem y hy with rfl|⟨hy,-⟩
   ·exact (u.own b e).imp (fun e=>.inr (.inr (.inr ⟨x,hx,e⟩))) id
   ·exact .inl (.inr (.inr (.inr ⟨y,hy,e⟩)))
 have keys:St.keys { s with F:=A++x'::B }=s.keys:=by
  unfold St.keys
  rw[hF]
  simp only[List.map_append,List.map_cons,u.b,u.name]
 refine⟨⟨?_,?_,fun y hy=>?_,?_,fun y hy q hq b hb e=>?_,?_,fun y hy=>?_,?_,a.stp,a.fatk,a.fok,fun y hy=>?_⟩,u.mod.mono (fun b _ e=>.inr (.inr (.inr ⟨x,hx,e⟩))),foot,fun b ⟨y,hy,q,hq,e⟩=>(mem y hy).elim (fun h=>by subst h;exact (u.pcs q hq b e).imp (fun ⟨q0,h1,h2⟩=>⟨x,hx,q0,h1,h2⟩) id) (fun h=>.inl ⟨y,h.1,q,hq,e⟩)⟩
 ·exact (u.mod.block p (get_some_lt a.cells) (fun e=>pne _ e rfl)).trans a.cells
 ·rw[keys];exact a.map.mod u.mod (fun e=>mne _ e rfl)
 ·rcases mem y hy with rfl|⟨hy,hd⟩
  ·exact u.fl
  ·exact (a.fl y hy).mod u.mod hd (fun q hq b hb e=>a.psep y hy q hq b hb (.inr (.inr (.inr ⟨x,hx,e⟩))))
 ·have old:∀y∈s.F,(∀b,y.own b->¬x.own b)->∀b,y.own b->¬x'.own b:=fun y hy hd b hb e=>(u.own b e).elim (hd b hb) (fun e=>by have:=(a.fl y hy).lt hb;omega)
  rw[List.pairwise_append,List.pairwise_cons]
  refine⟨sA,⟨fun y hy b hb hc=>?_,sB⟩,fun y hy z hz=>?_⟩
  ·exact old y (by rw[hF];exact List.mem_append_right _ (List.mem_cons_of_mem _ hy)) (fun b hb hc=>sx y hy b hc hb) b hc hb
  ·rcases List.mem_cons.1 hz with rfl|hz
   ·exact old y (by rw[hF];exact List.mem_append_left _ hy) (fun b hb=>sAB y hy x List.mem_cons_self b hb)
   ·exact sAB y hy z (List.mem_cons_of_mem _ hz)
 ·rcases mem y hy with rfl|⟨hy,-⟩
  ·rcases u.pcs q hq b hb with ⟨q0,h0,h1⟩|h1
   ·exact (foot b e).elim (a.psep x hx q0 h0 b h1) (fun e=>by have:=ax.plt h0 h1;omega)
   ·rcases e with e|e|e|⟨z,hz,e⟩
    ·have:=get_some_lt a.cells;have e':b=p:=e;omega
    ·have:=a.map.lt;have e':b=s.m:=e;omega
    ·have:=a.fat.lt e;omega
    ·rcases mem z hz with rfl|⟨hz,-⟩
     ·exact u.fl.ap q hq b hb e
     ·have:=(a.fl z hz).lt e;omega
  ·exact (foot b e).elim (a.psep y hy q hq b hb) (fun e=>by have:=(a.fl y hy).plt hq hb;omega)
 ·exact a.fat.mod u.mod fne
 ·rcases mem y hy with rfl|⟨hy,-⟩
  ·rw[u.name];exact a.names x hx
  ·exact a.names y hy
 ·have:=a.few
  rw[hF]at this
  simpa using this
 ·rcases mem y hy with rfl|⟨hy,-⟩
  ·exact hqq
  ·exact a.pfew y hy
theorem get_split{s:St}{l:List UInt8}{x:Fh}(hg:s.get l=some x):∃A B,s.F=A++x::B/\x.name=l:=by
 obtain⟨A,B,h1⟩:=List.append_of_mem (List.mem_of_find?_eq_some hg)
 exact⟨A,B,h1,by simpa using List.find?_some hg⟩
theorem find_c3{p:Nat}{s:St}{l:List UInt8}(a:StAt h p s)(hl:l.length<9223372036854775808)(H2:∀h',Ext h h'->¬okName l->K (.tuple #[.pointer none,.int .i64 2]) h')(H7:∀h',Ext h h'->okName l->s.get l=none->K (.tuple #[.pointer none,.int .i64 7]) h')
 (H0:∀h' A B x,Ext h h'->okName l->s.get l=some x->s.F=A++x::B->x.name=l->K (.tuple #[ptrV x.b,.int .i64 0]) h'):CallsH Tryz.prog 38 #[ptrV p,str l] h K ⟨⟩:=by
 refine find_c a hl fun h' e=>?_
 unfold findV
 by_cases ho:okName l
 ·rw[if_pos ho]
  cases hg:s.get l with
  | none=>exact H7 h' e ho hg
  | some x =>
   obtain⟨A,B,h1,h2⟩:=get_split hg
   exact H0 h' A B x e ho hg h1 h2
 ·rw[if_neg ho]
  exact H2 h' e ho
end
section
variable {K:VP}{h:Heap}
theorem Upd.make{x:Fh}{h':Heap}{last:List UInt8}{qs:List (Pc×Value)}{lv pv nv:Value}(a:FlAt h x)(m:Mod x.own h h')(cells:h'[x.b]? = some (.cells #[lv,pv,nv] fT))
 (ol:OwnG bT 1 h' lv (last.map byteV)) (on:OwnG bT 1 h' nv ((layAll last (qs.map (·.1))).map byteV)) (op:OwnG pT 2 h' pv (qs.flatMap pcV)) (ok:Fl.ok ⟨x.name,last,qs.map (·.1)⟩)
 (hl:∀c,blkG lv=some c->blkG x.lv=some c\/h.size<=c) (hp:∀c,blkG pv=some c->blkG x.pv=some c\/h.size<=c) (hn:∀c,blkG nv=some c->blkG x.nv=some c\/h.size<=c) (ne:∀c,blkG lv=some c->blkG nv≠some c)
 (hq:∀q∈qs,Bytes h q.2 q.1.b/\∃q0∈x.qs,blkV q.2=blkV q0.2):Upd h h' x ⟨x.name,last,qs,x.b,lv,pv,nv⟩:=by
 have own':∀c,Fh.own ⟨x.name,last,qs,x.b,lv,pv,nv⟩ c->x.own c\/h.size<=c:=by
  rintro c (e|e|e|e)
  ·exact .inl (.inl e)
  ·exact (hl c e).imp (fun e=>.inr (.inl e)) id
  ·exact (hp c e).imp (fun e=>.inr (.inr (.inl e))) id
  ·exact (hn c e).imp (fun e=>.inr (.inr (.inr e))) id
 have old:∀q∈qs,∀c,blkV q.2=some c->c<h.size/\¬x.own c:=fun q hq' c hc=>by
  obtain⟨-,q0,h0,h1⟩:=hq q hq'
  rw[h1]at hc
  exact⟨a.plt h0 hc,a.ap q0 h0 c hc⟩
 refine⟨⟨cells,ol,on,op,fun q hq'=>(hq q hq').1.mod m (fun c hc=>(old q hq' c hc).2),ok,ne,fun q hq' c hc e=>?_⟩,m,own',fun q hq' c hc=>?_,rfl,rfl⟩
 ·have:=old q hq' c hc
  exact (own' c e).elim this.2 (fun e=>by omega)
 ·obtain⟨-,q0,h0,h1⟩:=hq q hq'
  exact .inl ⟨q0,h0,h1▸hc⟩
theorem pcV_len(l:List (Pc×Value)):(l.flatMap pcV).length=l.length*2:=by
 induction l with|nil=>rfl|cons f l ih=>rw[List.flatMap_cons,List.length_append,ih];simp[pcV];omega
theorem pcV_get:∀(l:List (Pc×Value)) (i:Nat) (hi:i<l.length),(l.flatMap pcV)[i*2]? = some (.int .i64 (l[i].1.at_:Nat))/\(l.flatMap pcV)[i*2+1]? = some l[i].2
 | q::l,0,_=>by simp[pcV]
 | q::l,i+1,hi=>by
  have:=pcV_get l i (by simpa using hi)
  rw[List.flatMap_cons]
  have e1:(i+1)*2=(pcV q).length+i*2:=by simp[pcV];omega
  rw[e1,List.getElem?_append_right omg,List.getElem?_append_right omg,Nat.add_sub_cancel_left,show (pcV q).length+i*2+1-(pcV q).length=i*2+1 by omega]
  simpa using this
theorem piece_cell{v:Value}{qs:List (Pc×Value)}{n c:Nat}{a:Addr}(o:OwnG pT 2 h (.slice (some a) n c) (qs.flatMap pcV)){i:Nat}(hi:i<qs.length) :
 hcell h (elt a (i*2))=some (.int .i64 (qs[i].1.at_:Nat))/\hcell h (elt a (i*2+1))=some qs[i].2:=by
 obtain⟨h1,h2⟩:=pcV_get qs i hi
 have hl:=pcV_len qs
 have c1:=(o.cell (i:=i*2) omg).1
 have c2:=(o.cell (i:=i*2+1) omg).1
 rw[List.getElem?_eq_getElem omg]at h1 h2
 rw[c1,c2]
 exact⟨h1,h2⟩
theorem pcV_drop:∀(l:List (Pc×Value)) (i:Nat),(l.flatMap pcV).drop (i*2)=(l.drop i).flatMap pcV
 | l,0=>by simp
 | [],i+1=>by simp
 | q::l,i+1=>by
  rw[List.flatMap_cons,List.drop_succ_cons,<-pcV_drop l i,show (i+1)*2=(pcV q).length+i*2 by simp[pcV];omega,List.drop_append]
  simp
theorem pcV_one{l:List (Pc×Value)}(h1:∀q∈l,one q.2=true):∀u∈l.flatMap pcV,one u=true:=by
 intro u hu
 obtain⟨q,hq,hu⟩:=List.mem_flatMap.1 hu
 simp[pcV]at hu
 rcases hu with rfl|rfl
 ·rfl
 ·exact h1 q hq
def fErr(s:St)(l:List UInt8):Int:=if okName l then (match s.get l with|none=>7|some _=>0) else 2
set_option maxHeartbeats 4000000 in
theorem Flush_c2{p:Nat}{s:St}{l:List UInt8}(a:StAt h p s)(hl:l.length<9223372036854775808)(hs:s.steps+1<1000000)
 (He:∀h',Ext h h'->fErr s l≠0->K (.int .i64 (fErr s l)) h')
 (Hw:∀h' A B x x' fv,s.F=A++x::B->x.name=l->x'.name=x.name->x'.f=x.f.flush (wentN (fateE s.fates) (fateK s.fates) x.f.ps.length)->(∀q∈x'.qs,∀b,blkV q.2=some b->(∃q0∈x.qs,blkV q0.2=some b)\/h.size<=b)->SUpd h h' p s { s.stepped fv with F:=A++x'::B }->K (.int .i64 (fateE s.fates)) h') :
 CallsH Tryz.prog 31 #[ptrV p,str l] h K ⟨⟩:=by
 refine n31_calls ?_
 unfold n31;try delta vF vG vC vD vJ vV vk vt
 unfold fErr at He
 refine find_c3 a hl (fun h1 e1 ho=>?_) (fun h1 e1 ho hg=>?_) (fun h1 A B x e1 ho hg hF hn=>?_)
 ·simp(disch:=omega)
  have:=He h1 e1
  rw[if_neg ho]at this
  exact this dM
 ·simp(disch:=omega)
  have:=He h1 e1
  rw[if_pos ho,hg]at this
  exact this sM
 clear He
 have hx:x∈s.F:=by rw[hF];simp
 have a1:=a.ext e1
 simp(disch:=omega)
 refine step_c a1 hs fun h2 fv u2=>?_
 have hpf:=a.pfew x hx
 have hst0:=a.stp
 have hfl:=u2.st.fl x (by show x∈s.F;exact hx)
 have c1:=cellOf (i:=1) hfl.cells rfl
 obtain⟨pa,pn,pc,hpv,hpl,hpc,hpne⟩:=hfl.ps.form
 rw[pcV_len]at hpl
 have hpn:pn=x.qs.length:=by omega
 subst hpn
 have c1':hcell h2 ⟨x.b,1,none⟩=some (.slice pa x.qs.length pc):=hpv▸c1
 generalize hE:fateE s.fates=E at *
 have hK0:0<=fateK s.fates:=by
  unfold fateK
  split
  ·omega
  ·split<;>omega
 unfold ptrV
 simp(disch:=omega)[c1']
 obtain⟨n,hnd⟩:∃n,n=wentN E (fateK s.fates) x.qs.length:=⟨_,rfl⟩
 refine JoinN_in1 (fun v g=>v = .int .i64 (n:Int)/\h2=g) (fun kk hkk=>?_) (fun v g hv=>?_)
 ·by_cases hE0:E=0
  ·simp(disch:=omega)[hE0]
   exact hkk _ _ ⟨by rw[hnd];unfold wentN;rw[if_pos hE0],rfl⟩
  ·simp(disch:=omega)[hE0]
   refine hkk _ _ ⟨by rw[hnd];unfold wentN;rw[if_neg hE0];congr 1;split<;>omega,rfl⟩
 obtain⟨rfl,rfl⟩:=hv
 have hnq:n<=x.qs.length:=by rw[hnd];unfold wentN;split<;>omega
 simp(disch:=omega)[c1',Hp_slgNH (P:=Tryz.prog) (t:=95) (s:=2) kR]
 have c0:=cellOf (i:=0) hfl.cells rfl
 have hxl:=get_some_lt hfl.cells
 have hlx:∀c,blkG x.lv=some c->c≠x.b:=fun c hc=>hfl.last.ne hc hfl.cells bT_fT
 have hlp:∀c,blkG x.lv=some c->blkG x.pv≠some c:=fun c hc e=>by
  obtain⟨arr,ha⟩:=hfl.ps.tag e
  exact hfl.last.ne hc ha bT_pT rfl
 have hql:∀q∈x.qs,∀c,blkV q.2=some c->blkG x.lv≠some c:=fun q hq c hc e=>hfl.ap q hq c hc (.inr (.inl e))
 refine loopX1 (α:=Nat) (fun i=>.int .i64 i) (fun i g=>i<=n/\Mod (fun c=>blkG x.lv=some c) h2 g/\OwnG bT 1 g x.lv ((layAll x.last ((x.qs.map (·.1)).take i)).map byteV)) (fun i=>n-i) 0 rfl ⟨Nat.zero_le _,.refl _ _,hfl.last⟩ ?_
 rintro i g ⟨hi,mg,og⟩ X hX
 have celg:=(mg.block x.b hxl (fun e=>hlx _ e rfl)).trans hfl.cells
 have d0:=cellOf (i:=0) celg rfl
 have d1:=cellOf (i:=1) celg rfl
 by_cases hin:i<n
 ·have hiq:i<x.qs.length:=by omega
  obtain⟨pb,po,rfl⟩:=hpne (by intro e;have:=pcV_len x.qs;rw[e]at this;simp at this;omega)
  have pg:OwnG pT 2 g (.slice (some ⟨pb,po,none⟩) x.qs.length pc) (x.qs.flatMap pcV):=hpv▸hfl.ps.mod mg (fun c hc e=>hlp c e hc)
  obtain⟨p1,p2⟩:=piece_cell (v:=x.pv) pg hiq
  have hqm:x.qs[i]∈x.qs:=List.getElem_mem hiq
  have hqb:Bytes g x.qs[i].2 x.qs[i].1.b:=(hfl.bs _ hqm).mod mg (fun c hc e=>hql _ hqm c hc e)
  obtain⟨qa,qc,hqv⟩:=hqb.form
  obtain⟨qok,qfit⟩:=hfl.ok.pc x.qs[i].1 (List.mem_map_of_mem hqm)
  have qfit:x.qs[i].1.at_+x.qs[i].1.b.length<=x.last.length:=qfit
  have qpos:=qok.pos
  rw[hqv]at p2
  obtain⟨la,ln,lc,hlv,hll,hlc,hlne⟩:=og.form
  have hlen:(layAll x.last ((x.qs.map (·.1)).take i)).length=x.last.length:=layAll_len fun p hp=>(hfl.ok.pc p (List.mem_of_mem_take hp)).2
  have hln:ln=x.last.length:=by simp[hlen]at hll;omega
  subst hln
  obtain⟨lb,lo,rfl⟩:=hlne (by intro e;rw[e]at hll;simp at hll;omega)
  have d0':hcell g ⟨x.b,0,none⟩=some (.slice (some ⟨lb,lo,none⟩) x.last.length lc):=hlv▸d0
  have hxg:=get_some_lt celg
  have hxn:¬x.b=g.size:=by omega
  rw[hlv]at og
  simp(disch:=omega)[p1,p2,d0',hxn]
  have hEx:Ext g (hset (hset (g.push (.cells #[.int .i64 0,.slice none 0 0] 146)) ⟨g.size,0,none⟩ (.int .i64 x.qs[i].1.at_)) ⟨g.size,1,none⟩ (.slice qa x.qs[i].1.b.length qc)):=extS
  refine (⟨_,rfl⟩:∃f,f=(hset (hset (g.push (.cells #[.int .i64 0,.slice none 0 0] 146)) ⟨g.size,0,none⟩ (.int .i64 x.qs[i].1.at_)) ⟨g.size,1,none⟩ (.slice qa x.qs[i].1.b.length qc))).elim fun g' eg=>?_
  rw[<-eg]at hEx ⊢
  clear eg
  rw[hqv]at hqb
  refine Hp_copyG (e:=bT) (lo:=x.qs[i].1.at_) (m:=x.last.length-x.qs[i].1.at_) kR (og.ext hEx) omg (hqb.ext hEx) fun g5 o5 m5=>?_
  simp(disch:=omega)
  refine hX (i+1) _ _ sM ⟨by omega,?_,?_⟩ omg
  ·rw[<-hlv]at m5
   exact (mg.extIn hEx).trans m5 (fun c _ e=>e)
  ·rw[layAll_take (by simpa using hiq),hlv]
   have ht:x.qs[i].1.b.take (x.last.length-x.qs[i].1.at_)=x.qs[i].1.b:=List.take_of_length_le omg
   rw[ht]at o5
   simpa[layP]using o5
 ·obtain rfl:i=n:=by omega
  have d1':hcell g ⟨x.b,1,none⟩=some (.slice pa x.qs.length pc):=hpv▸d1
  have pg:OwnG pT 2 g (.slice pa x.qs.length pc) (x.qs.flatMap pcV):=hpv▸hfl.ps.mod mg (fun c hc e=>hlp c e hc)
  simp(disch:=omega)[d1',Hp_slgLN (P:=Tryz.prog) (t:=95) (s:=2) kR]
  have dr:=pg.dropO (lo:=i) hnq
  have ed:(x.qs.flatMap pcV).drop (i*2)=(x.qs.drop i).flatMap pcV:=pcV_drop _ _
  rw[ed]at dr
  refine pclone_c dr.src ⟨_,_,rfl⟩ (fun u hu=>?_) omg fun v' g2 e2 ov wf wf2=>?_
  ·refine pcV_one (fun q hq=>?_) u hu
   obtain⟨oa,oc,he⟩:=(hfl.bs q (List.mem_of_mem_drop hq)).form
   rw[he];rfl
  have cel2:=(e2.block _ (get_some_lt celg)).trans celg
  have k1:=cellOf (i:=1) cel2 rfl
  have f1:=frzOf (i:=1) cel2
  obtain⟨va,vn,vc,rfl,-,-,-⟩:=ov.form
  simp(disch:=omega)[k1,f1]
  have hgz:=mg.size
  have hqn:(x.qs.drop i).map (·.1)=x.f.ps.drop i:=by rw[List.map_drop];rfl
  have okf:=hfl.ok.flush i
  have hvx:∀c,blkG (.slice va vn vc)=some c->c≠x.b:=fun c hc=>ov.ne hc cel2 pT_fT
  have m3:Mod (fun c=>blkG x.lv=some c\/c=x.b) h2 (hset g2 ⟨x.b,1,none⟩ (.slice va vn vc)):=Mod.setIn ((mg.mono (fun c _ e=>.inl e)).extIn e2) (.inl (.inr rfl))
  refine Hw _ A B x ⟨x.name,layAll x.last (x.f.ps.take i),x.qs.drop i,x.b,x.lv,.slice va vn vc,x.nv⟩ fv hF hn rfl ?_ (fun q hq b hb=>.inl ⟨q,List.mem_of_mem_drop hq,hb⟩) ?_
  ·show (⟨x.name,layAll x.last (x.f.ps.take i),(x.qs.drop i).map (·.1)⟩:Fl)=_
   have:wentN E (fateK s.fates) x.f.ps.length=i:=by rw[hnd];simp[Fh.f]
   rw[this,hqn];rfl
  ·have hFs:(s.stepped fv).F=A++x::B:=hF
   refine (u2.from_ e1).trans (u2.st.put hFs (Upd.make hfl (m3.mono (fun c _ e=>e.elim (fun e=>.inr (.inl e)) .inl)) (obj_set cel2) ?_ ?_ ?_ ?_ ?_ ?_ ?_ hfl.ne ?_) ?_)
   ·exact (og.ext e2).mod (Mod.set _ _ _) (fun c hc e=>hlx c hc e)
   ·have hnw:layAll (layAll x.last (x.f.ps.take i)) ((x.qs.drop i).map (·.1))=x.f.now:=by rw[hqn];exact now_flush x.f i
    rw[hnw]
    refine hfl.now.mod m3 (fun c hc e=>?_)
    rcases e with e|e
    ·exact hfl.ne c e hc
    ·exact hfl.now.ne hc hfl.cells bT_fT e
   ·exact ov.mod (Mod.set _ _ _) (fun c hc e=>hvx c hc e)
   ·rw[hqn];exact okf
   ·exact fun c hc=>.inl hc
   ·exact fun c hc=>.inr (by have:=wf c hc;omega)
   ·exact fun c hc=>.inl hc
   ·exact fun q hq=>⟨hfl.bs q (List.mem_of_mem_drop hq),q,List.mem_of_mem_drop hq,rfl⟩
   ·show (x.qs.drop i).length<=(s.steps+1)*1000000
    rw[List.length_drop];omega
theorem Flush_c{p:Nat}{s:St}{l:List UInt8}(a:StAt h p s)(hl:l.length<9223372036854775808)(hs:s.steps+1<1000000)
 (He:∀h',Ext h h'->fErr s l≠0->K (.int .i64 (fErr s l)) h')
 (Hw:∀h' A B x x' fv,s.F=A++x::B->x.name=l->x'.name=x.name->x'.f=x.f.flush (wentN (fateE s.fates) (fateK s.fates) x.f.ps.length)->SUpd h h' p s { s.stepped fv with F:=A++x'::B }->K (.int .i64 (fateE s.fates)) h') :
 CallsH Tryz.prog 31 #[ptrV p,str l] h K ⟨⟩ :=
 Flush_c2 a hl hs He fun h' A B x x' fv a1 a2 a3 a4 _ u=>Hw h' A B x x' fv a1 a2 a3 a4 u
end
section
variable {K:VP}{h:Heap}
def cutW(w:Value)(m:Nat):Value:=match w with | .slice a _ c=>.slice a m c|v=>v
def cutQ(n:Nat)(q:Pc×Value):Option (Pc×Value):=if q.1.at_<n then some (⟨q.1.at_,q.1.b.take (n-q.1.at_)⟩,cutW q.2 (min q.1.b.length (n-q.1.at_))) else none
theorem cutQ_map(n:Nat):∀qs:List (Pc×Value),(qs.filterMap (cutQ n)).map (·.1)=(qs.map (·.1)).filterMap (cutPc n)
 | []=>rfl
 | q::qs=>by
  rw[List.filterMap_cons,List.map_cons,List.filterMap_cons]
  unfold cutQ cutPc
  split
  ·rename_i h1
   split at h1
   ·cases h1
   ·rename_i h2;simp only[h2,if_false];exact cutQ_map n qs
  ·rename_i x h1
   split at h1
   ·rename_i h2;cases h1;simp only[h2,if_true];rw[List.map_cons];congr 1;exact cutQ_map n qs
   ·cases h1
theorem cutQ_mem{n:Nat}{qs:List (Pc×Value)}{q:Pc×Value}(hq:q∈qs.filterMap (cutQ n)):∃q0∈qs,q0.1.at_<n/\q=(⟨q0.1.at_,q0.1.b.take (n-q0.1.at_)⟩,cutW q0.2 (min q0.1.b.length (n-q0.1.at_))):=by
 obtain⟨q0,h0,h1⟩:=List.mem_filterMap.1 hq
 unfold cutQ at h1
 split at h1
 ·cases h1;exact⟨q0,h0,by assumption,rfl⟩
 ·cases h1
theorem cutW_blk{w:Value}{m:Nat}:blkV (cutW w m)=blkV w:=by
 cases w with
 | slice a n c=>cases a<;>rfl
 | _=>rfl
theorem Bytes.cut{w:Value}{b:List UInt8}{m:Nat}(hB:Bytes h w b):Bytes h (cutW w (min b.length m)) (b.take m):=by
 rcases hB with ⟨rfl,rfl⟩|⟨a,c,rfl,hc,hA⟩
 ·exact .inl ⟨by simp[cutW],by simp⟩
 ·refine .inr ⟨a,c,by simp[cutW,Nat.min_comm],by simp;omega,?_⟩
  have:=hA.part 0 (min b.length m) c omg omg hc
  rw[sub_zero,List.drop_zero]at this
  have e:b.take (min b.length m)=b.take m:=by
   rcases Nat.le_total b.length m with h1|h1
   ·rw[Nat.min_eq_left h1,List.take_length,List.take_of_length_le h1]
   ·rw[Nat.min_eq_right h1]
  rw[e]at this;exact this
def rErr(s:St)(l:List UInt8)(n:Int):Int:=if okName l then (match s.get l with|none=>7|some _=>if n<0 then 4 else if 268435456<n then 6 else 0) else 2
set_option maxHeartbeats 4000000 in
theorem Resize_c{p:Nat}{s:St}{l:List UInt8}{n:Int}(a:StAt h p s)(hl:l.length<9223372036854775808)(hs:s.steps+1<1000000)(n0 : -9223372036854775808<=n)(n1:n<9223372036854775808)
 (He:∀h',Ext h h'->rErr s l n≠0->K (.int .i64 (rErr s l n)) h')
 (Hf:∀h' fv,fateE s.fates≠0->SUpd h h' p s (s.stepped fv)->K (.int .i64 (fateE s.fates)) h')
 (Hw:∀h' A B x x' fv,fateE s.fates=0->s.F=A++x::B->x.name=l->0<=n->n<=268435456->x'.name=x.name->x'.f=x.f.size n.toNat->SUpd h h' p s { s.stepped fv with F:=A++x'::B }->K (.int .i64 0) h') :
 CallsH Tryz.prog 57 #[ptrV p,str l,.int .i64 n] h K ⟨⟩:=by
 refine n57_calls ?_
 unfold n57;try delta vF vG vC vD vJ vV vk vt
 unfold rErr at He
 refine find_c3 a hl (fun h1 e1 ho=>?_) (fun h1 e1 ho hg=>?_) (fun h1 A B x e1 ho hg hF hn=>?_)
 ·simp(disch:=omega)
  have:=He h1 e1
  rw[if_neg ho]at this
  exact this dM
 ·simp(disch:=omega)
  have:=He h1 e1
  rw[if_pos ho,hg]at this
  exact this sM
 have He:=He h1 e1
 rw[if_pos ho,hg]at He
 dsimp only at He
 have hx:x∈s.F:=by rw[hF];simp
 have a1:=a.ext e1
 by_cases hn0:n<0
 ·rw[if_pos hn0]at He
  simp(disch:=omega)[hn0]
  exact He dM
 rw[if_neg hn0]at He
 by_cases hn1:268435456<n
 ·rw[if_pos hn1]at He
  simp(disch:=omega)[hn0,hn1]
  exact He dM
 clear He
 simp(disch:=omega)[hn0,hn1]
 refine step_c a1 hs fun h2 fv u2=>?_
 by_cases hE:fateE s.fates=0
 case neg =>
  simp(disch:=omega)[hE]
  exact Hf _ fv hE (u2.from_ e1)
 obtain⟨n,rfl⟩:=Int.eq_ofNat_of_zero_le (Int.not_lt.1 hn0)
 simp(disch:=omega)[hE]
 have hpf:=a.pfew x hx
 have hst0:=a.stp
 have hfl:=u2.st.fl x (by show x∈s.F;exact hx)
 refine grow_c hfl (n:=n) omg fun g1 lv nv u1=>?_
 have hf1:=u1.fl
 have c0:=cellOf (i:=0) hf1.cells rfl
 have c1:=cellOf (i:=1) hf1.cells rfl
 have c2:=cellOf (i:=2) hf1.cells rfl
 have z0:=frzOf (i:=0) hf1.cells
 have z1:=frzOf (i:=1) hf1.cells
 have z2:=frzOf (i:=2) hf1.cells
 obtain⟨la,ln,lc,hlv,hll,hlc,-⟩:=hf1.last.form
 obtain⟨na,nn,nc,hnv,hnl,hnc,-⟩:=hf1.now.form
 obtain⟨pa,pn,pc,hpv,hpl,hpc,hpne⟩:=hf1.ps.form
 have hlv:lv = .slice la ln lc:=hlv
 have hnv:nv = .slice na nn nc:=hnv
 have hpv:x.pv = .slice pa pn pc:=hpv
 have e5:(Fh.f { x with last:=growL x.last n,lv:=lv,nv:=nv }).now=growL x.f.now n:=hfl.ok.now_grow n
 rw[e5]at hnl
 have hln:ln=max x.last.length n:=by have:=growL_len x.last n;simp at hll;omega
 have hnn:nn=max x.last.length n:=by have:=growL_len x.f.now n;rw[hfl.len]at this;simp at hnl;omega
 have c0':hcell g1 ⟨x.b,0,none⟩=some (.slice la ln lc):=hlv▸c0
 have c1':hcell g1 ⟨x.b,1,none⟩=some (.slice pa pn pc):=hpv▸c1
 have c2':hcell g1 ⟨x.b,2,none⟩=some (.slice na nn nc):=hnv▸c2
 rw[pcV_len]at hpl
 obtain rfl:pn=x.qs.length:=by have:pn*2=x.qs.length*2:=hpl.symm;omega
 have sm:=fun (P:Program)=>@Hp_slcM Tryz.prog
 unfold ptrV
 simp(disch:=omega)[c0',c1',c2',z0,z1,z2,Hp_slcM (P:=Tryz.prog) (t:=52) (s:=1) kR]
 have hxg:=get_some_lt hf1.cells
 have cel1:g1[x.b]? = some (.cells #[.slice la ln lc,.slice pa x.qs.length pc,.slice na nn nc] fT):=by
  have:=hf1.cells
  dsimp only at this
  rw[this,hlv,hpv,hnv]
 have cel3:=obj_set (i:=0) (v:=.slice la n n) (obj_set (i:=2) (v:=.slice na n n) cel1)
 have m3:Mod (· = x.b) g1 (hset (hset g1 ⟨x.b,2,none⟩ (.slice na n n)) ⟨x.b,0,none⟩ (.slice la n n)):=modS
 refine (⟨_,rfl⟩:∃f,f=hset (hset g1 ⟨x.b,2,none⟩ (.slice na n n)) ⟨x.b,0,none⟩ (.slice la n n)).elim fun h3 eh3=>?_
 rw[<-eh3]at cel3 m3 ⊢
 clear eh3
 have hz3:=m3.size
 have hx3:=get_some_lt cel3
 have ol:OwnG bT 1 h3 (.slice la n n) (((growL x.last n).take n).map byteV):=by
  have:=hf1.last
  dsimp only at this
  rw[hlv]at this
  have t:=(this.cut (hi:=n) (mx:=n) (Nat.le_refl _) omg omg).mod m3 (fun c hc e=>this.ne (blk_cut (n:=ln) (by omega:n<=lc) hc) cel1 bT_fT e)
  rw[Nat.mul_one,<-List.map_take]at t
  exact t
 have on:OwnG bT 1 h3 (.slice na n n) (((growL x.f.now n).take n).map byteV):=by
  have:=hf1.now
  rw[e5]at this
  dsimp only at this
  rw[hnv]at this
  have t:=(this.cut (hi:=n) (mx:=n) (Nat.le_refl _) omg omg).mod m3 (fun c hc e=>this.ne (blk_cut (n:=nn) (by omega:n<=nc) hc) cel1 bT_fT e)
  rw[Nat.mul_one,<-List.map_take]at t
  exact t
 have op:OwnG pT 2 h3 (.slice pa x.qs.length pc) (x.qs.flatMap pcV):=by
  have:=hf1.ps
  dsimp only at this
  rw[hpv]at this
  exact this.mod m3 (fun c hc e=>this.ne hc cel1 pT_fT e)
 refine loopX2 (α:=Nat×Value) (fun a=>a.2) (fun a=>.int .i64 a.1) (fun a g=>a.1<=x.qs.length/\Ext h3 g/\OwnG pT 2 g a.2 (((x.qs.take a.1).filterMap (cutQ n)).flatMap pcV)/\∀c,blkG a.2=some c->h3.size<=c) (fun a=>x.qs.length-a.1) (0,.slice none 0 0) ⟨rfl,rfl⟩ ⟨Nat.zero_le _,.refl _,.nil,fun c hc=>by cases hc⟩ ?_
 rintro⟨i,sv⟩ g ⟨hi,eg,os,hb⟩ X hX
 dsimp only at hi os hb hX ⊢
 have celg:=(eg.block x.b hx3).trans cel3
 by_cases hiq:i<x.qs.length
 ·obtain⟨pb,po,rfl⟩:=hpne (by intro e;have:=pcV_len x.qs;dsimp only at e;rw[e]at this;simp at this;omega)
  have pg:=op.ext eg
  obtain⟨p1,p2⟩:=piece_cell (v:=x.pv) pg hiq
  have hqm:x.qs[i]∈x.qs:=List.getElem_mem hiq
  obtain⟨qa,qc,hqv⟩:=(hf1.bs _ hqm).form
  have hqc:=(hf1.bs _ hqm)
  rw[hqv]at hqc
  obtain⟨qok,qfit⟩:=hfl.ok.pc x.qs[i].1 (List.mem_map_of_mem hqm)
  have qpos:=qok.pos
  obtain⟨qad,rfl,-,hqcap,-⟩:=hqc.at qpos
  have qfit:x.qs[i].1.at_+x.qs[i].1.b.length<=x.last.length:=qfit
  have hfew:x.last.length<=268435456:=hfl.ok.few
  rw[hqv]at p2
  have ht:(x.qs.take (i+1)).filterMap (cutQ n)=(x.qs.take i).filterMap (cutQ n)++(cutQ n x.qs[i]).toList:=by
   rw[List.take_succ_eq_append_getElem hiq,List.filterMap_append]
   cases e:cutQ n x.qs[i]<;>simp[List.filterMap_cons,e]
  simp(disch:=omega)
  refine JoinN.mk ?_
  refine JoinN.mk ?_
  by_cases hat:x.qs[i].1.at_<n
  ·have hcq:cutQ n x.qs[i]=some (⟨x.qs[i].1.at_,x.qs[i].1.b.take (n-x.qs[i].1.at_)⟩,.slice (some qad) (min x.qs[i].1.b.length (n-x.qs[i].1.at_)) qc):=by
    unfold cutQ
    rw[if_pos hat,hqv];rfl
   have hmn:(if (n:Int)-(x.qs[i].1.at_:Int)<(x.qs[i].1.b.length:Int) then (n:Int)-(x.qs[i].1.at_:Int) else (x.qs[i].1.b.length:Int))=((min x.qs[i].1.b.length (n-x.qs[i].1.at_):Nat):Int):=by split<;>omega
   simp(disch:=omega)[p1,p2,hat,hmn]
   rw[hcq]at ht
   have hE1:∀o:Obj,Ext g (((hset (hset (hset (g.push (.cells #[.int .i64 0,.slice none 0 0] 146)) ⟨g.size,0,none⟩ (.int .i64 x.qs[i].1.at_)) ⟨g.size,1,none⟩ (.slice (some qad) x.qs[i].1.b.length qc)) ⟨g.size,1,none⟩ (.slice (some qad) (min x.qs[i].1.b.length (n-x.qs[i].1.at_)) qc))).push o):=fun o=>extS
   have hlk:((x.qs.take i).filterMap (cutQ n)).length<=1000000000000:=by
    have:=List.length_filterMap_le (cutQ n) (x.qs.take i)
    have:=List.length_take_le i x.qs
    omega
   refine Hp_appendG (e:=pT) (s:=2) (by_:=32) (n:=((x.qs.take i).filterMap (cutQ n)).length) (k:=1) (news:=[.int .i64 x.qs[i].1.at_,.slice (some qad) (min x.qs[i].1.b.length (n-x.qs[i].1.at_)) qc]) kR kR (os.ext (hE1 _)) (pcV_len _) omg
    (.inr (.inl ⟨_,1,rfl,rfl,Seg_new sM⟩)) (by simp[one]) omg omg fun sv' g5 o5 m5 f5 _=>?_
   simp(disch:=omega)
   have hgz:=eg.size
   refine hX (i+1,sv') _ _ _ rfl sM ⟨hiq,m5.ext_from (eg.trans (hE1 _)) (fun c hc e=>by have:=hb c e;omega),?_,fun c hc=>(f5 c hc).elim (hb c) (fun e=>by simp at e;omega)⟩ (by dsimp only;omega)
   dsimp only
   rw[ht]
   simpa[pcV]using o5
  ·have hcq:cutQ n x.qs[i]=none:=by unfold cutQ;rw[if_neg hat]
   simp(disch:=omega)[p1,p2,hat]
   rw[hcq]at ht
   simp at ht
   refine hX (i+1,sv) _ _ _ rfl sM ⟨hiq,eg.trans extS,?_,hb⟩ (by dsimp only;omega)
   dsimp only
   rw[ht]
   exact os.ext extS
 ·obtain rfl:i=x.qs.length:=by omega
  have f1:=frzOf (i:=1) celg
  have k1:=cellOf (i:=1) celg rfl
  obtain⟨sa,sn,sc,rfl,-,-,-⟩:=os.form
  simp(disch:=omega)[k1,f1]
  rw[List.take_length]at os
  have hsx:∀c,blkG (.slice sa sn sc)=some c->c≠x.b:=fun c hc=>by have:=hb c hc;omega
  have m4:Mod (fun c=>c=x.b) g1 (hset g ⟨x.b,1,none⟩ (.slice sa sn sc)):=Mod.setIn (m3.extIn eg) (.inl rfl)
  have mset:=Mod.set g ⟨x.b,1,none⟩ (.slice sa sn sc)
  have hux:∀c,blkG (.slice la n n)=some c->blkG lv=some c:=fun c hc=>by rw[hlv];exact blk_cut (n:=ln) (by omega:n<=lc) hc
  have hun:∀c,blkG (.slice na n n)=some c->blkG nv=some c:=fun c hc=>by rw[hnv];exact blk_cut (n:=nn) (by omega:n<=nc) hc
  have osz:=x.f.size n
  have oks:=hfl.ok.size (n:=n) omg
  have nws:=hfl.ok.now_size n
  have uz:=Upd.make (last:=(growL x.last n).take n) (qs:=x.qs.filterMap (cutQ n)) (lv:=.slice la n n) (pv:=.slice sa sn sc) (nv:=.slice na n n) hf1 (m4.mono (fun c _ e=>.inl e)) (obj_set celg)
   ((ol.ext eg).mod mset (fun c hc e=>?_)) ?_ (os.mod mset (fun c hc e=>hsx c hc e)) ?_ (fun c hc=>.inl (hux c hc)) (fun c hc=>.inr (by have:=hb c hc;omega)) (fun c hc=>.inl (hun c hc)) (fun c hc e=>hf1.ne c (hux c hc) (hun c e)) ?_
  ·refine Hw _ A B x ⟨x.name,(growL x.last n).take n,x.qs.filterMap (cutQ n),x.b,.slice la n n,.slice sa sn sc,.slice na n n⟩ fv hE hF hn omg omg rfl ?_ ((u2.from_ e1).trans (u2.st.put (show (s.stepped fv).F=A++x::B from hF) (u1.trans uz) ?_))
   ·show (⟨x.name,(growL x.last n).take n,(x.qs.filterMap (cutQ n)).map (·.1)⟩:Fl)=_
    rw[cutQ_map,Int.toNat_natCast];rfl
   ·show (x.qs.filterMap (cutQ n)).length<=(s.steps+1)*1000000
    have:=List.length_filterMap_le (cutQ n) x.qs
    omega
  ·exact hf1.last.ne (hux c hc) hf1.cells bT_fT e
  ·have e6:layAll ((growL x.last n).take n) ((x.qs.filterMap (cutQ n)).map (·.1))=(growL x.f.now n).take n:=by
    rw[<-nws];show _=layAll _ _;rw[cutQ_map];rfl
   rw[e6]
   exact (on.ext eg).mod mset (fun c hc e=>hf1.now.ne (hun c hc) hf1.cells bT_fT e)
  ·rw[cutQ_map];exact oks
  ·intro q hq
   obtain⟨q0,h0,h1,rfl⟩:=cutQ_mem hq
   exact⟨Bytes.cut (hf1.bs q0 h0),q0,h0,cutW_blk⟩
end
section
variable {K:VP}{h:Heap}
structure Fas (h:Heap) (v:Value) (fs:List (Int×Int)):Prop where
 src:Src 2 h v fs.length (fs.flatMap faV)
 form:∃a c,v = .slice a fs.length c/\fs.length<=c
 few:fs.length<9223372036854775808
 ok:∀f∈fs,-9223372036854775808<=f.1/\f.1<9223372036854775808 /\ -9223372036854775808<=f.2/\f.2<9223372036854775808
theorem Fas.ext{h':Heap}{v:Value}{fs:List (Int×Int)}(a:Fas h v fs)(e:Ext h h'):Fas h' v fs:=⟨a.src.ext e,a.form,a.few,a.ok⟩
theorem faV_len(l:List (Int×Int)):(l.flatMap faV).length=l.length*2:=by
 induction l with|nil=>rfl|cons f l ih=>rw[List.flatMap_cons,List.length_append,ih];simp[faV];omega
theorem faV_get:∀(l:List (Int×Int)) (i:Nat) (hi:i<l.length),(l.flatMap faV)[i*2]? = some (.int .i64 l[i].1)/\(l.flatMap faV)[i*2+1]? = some (.int .i64 l[i].2)
 | q::l,0,_=>by simp[faV]
 | q::l,i+1,hi=>by
  have:=faV_get l i (by simpa using hi)
  rw[List.flatMap_cons]
  have e1:(i+1)*2=(faV q).length+i*2:=by simp[faV];omega
  rw[e1,List.getElem?_append_right omg,List.getElem?_append_right omg,Nat.add_sub_cancel_left,show (faV q).length+i*2+1-(faV q).length=i*2+1 by omega]
  simpa using this
theorem faV_one(l:List (Int×Int)):∀u∈l.flatMap faV,one u=true:=by
 intro u hu
 obtain⟨q,hq,hu⟩:=List.mem_flatMap.1 hu
 simp[faV]at hu
 rcases hu with rfl|rfl<;>rfl
theorem Fas.cell{v:Value}{fs:List (Int×Int)}(a:Fas h v fs){i:Nat}(hi:i<fs.length):∃ad c,v = .slice (some ad) fs.length c/\fs.length<=c/\hcell h (elt ad (i*2))=some (.int .i64 fs[i].1)/\hcell h (elt ad (i*2+1))=some (.int .i64 fs[i].2):=by
 obtain⟨a0,c,rfl,hc⟩:=a.form
 obtain⟨h1,h2⟩:=faV_get fs i hi
 have hl:=faV_len fs
 rcases a.src with ⟨e,e2,e3⟩|⟨ad,c',e,e2,hs⟩|⟨l,e,-⟩
 ·omega
 ·cases e
  rw[List.getElem?_eq_getElem omg]at h1 h2
  exact⟨ad,c,rfl,hc,(hs _ omg).trans h1,(hs _ omg).trans h2⟩
 ·cases e
def rightF(f:Int×Int):Bool:=decide (0<=f.1)&&decide (f.1<=2)
theorem bad_c{f:Int×Int}(h0 : -9223372036854775808<=f.1/\f.1<9223372036854775808 /\ -9223372036854775808<=f.2/\f.2<9223372036854775808)(H:∀h',Ext h h'->K (.bool (!rightF f)) h'):InvokeH Tryz.prog (.func (.func 123) #[] #[]) #[.agg #[.int .i64 f.1,.int .i64 f.2]] h K ⟨⟩:=by
 refine InvokeH_f1 kR ?_
 refine n123_calls ?_
 unfold n123;try delta vF vG vC vD vJ vV vk vt
 unfold rightF at H
 by_cases h1:f.1<0
 ·have:decide (0<=f.1)=false:=decide_eq_false omg
  rw[this]at H
  simp(disch:=omega)[h1]
  exact H _ extS
 ·have:decide (0<=f.1)=true:=decide_eq_true omg
  rw[this]at H
  by_cases h2:2<f.1
  ·have:decide (f.1<=2)=false:=decide_eq_false omg
   rw[this]at H
   simp(disch:=omega)[h1,h2]
   exact H _ extS
  ·have:decide (f.1<=2)=true:=decide_eq_true omg
   rw[this]at H
   simp(disch:=omega)[h1,h2]
   exact H _ extS
theorem right_c{v:Value}{fs:List (Int×Int)}(a:Fas h v fs)(H:∀h',Ext h h'->K (.bool (fs.all rightF)) h'):CallsH Tryz.prog 78 #[v] h K ⟨⟩:=by
 refine n78_calls ?_
 unfold n78;try delta vF vG vC vD vJ vV vk vt
 refine n122_calls ?_
 unfold n122;try delta vF vG vC vD vJ vV vk vt
 refine n145_calls ?_
 unfold n145;try delta vF vG vC vD vJ vV vk vt
 obtain⟨a0,c,rfl,hc⟩:=a.form
 have hfew:=a.few
 simp(disch:=omega)
 refine loopX1 (α:=Nat) (fun i=>.int .i64 i) (fun i g=>i<=fs.length/\Ext h g/\∀j (hj:j<fs.length),j<i->rightF fs[j]=true) (fun i=>fs.length-i) 0 rfl ⟨Nat.zero_le _,.refl _,fun j _ hj=>by omega⟩ ?_
 rintro i g ⟨hi,eg,hr⟩ X hX
 by_cases hin:i<fs.length
 ·obtain⟨ad,c',hv,-,q1,q2⟩:=(a.ext eg).cell hin
  cases hv
  simp(disch:=omega)[q1,q2]
  refine bad_c (f:=fs[i]) (a.ok _ (List.getElem_mem hin)) fun g' e'=>?_
  cases hb:rightF fs[i]with
  | true =>
   simp(disch:=omega)
   refine hX (i+1) _ _ sM ⟨hin,eg.trans e',fun j hj hji=>?_⟩ omg
   by_cases e:j=i
   ·subst e;exact hb
   ·exact hr j hj omg
  | false =>
   have:fs.all rightF=false:=by
    rw[List.all_eq_false]
    exact⟨fs[i],List.getElem_mem hin,by rw[hb];decide⟩
   rw[this]at H
   simp(disch:=omega)
   exact H _ (eg.trans e')
 ·obtain rfl:i=fs.length:=by omega
  have:fs.all rightF=true:=by
   rw[List.all_eq_true]
   intro f hf
   obtain⟨j,hj,rfl⟩:=List.getElem_of_mem hf
   exact hr j hj hj
  rw[this]at H
  simp(disch:=omega)
  exact H _ eg
set_option maxHeartbeats 1000000 in
theorem New_c{v:Value}{fs:List (Int×Int)}(a:Fas h v fs)(hnf:fs.length<1000000)(H1:∀h',Ext h h'->fs.all rightF=false->K (.tuple #[.pointer none,.int .i64 2]) h')
 (H0:∀h' p s,Ext h h'->fs.all rightF=true->s.F=[]->s.fates=fs->s.steps=0->h.size<=p->(∀b,s.foot p b->h.size<=b)->StAt h' p s->K (.tuple #[ptrV p,.int .i64 0]) h'):CallsH Tryz.prog 28 #[v] h K ⟨⟩:=by
 refine n28_calls ?_
 unfold n28;try delta vF vG vC vD vJ vV vk vt
 refine right_c a fun h1 e1=>?_
 cases hr:fs.all rightF with
 | false =>
  simp(disch:=omega)
  exact H1 h1 e1 hr
 | true =>
  simp(disch:=omega)
  rw[Hp_makeMap]
  simp(disch:=omega)
  have hfew:=a.few
  have e2:Ext h1 (h1.push (.map #[] 0)):=extS
  obtain⟨a0,c0,hv,hc⟩:=a.form
  refine fclone_c ((a.ext e1).ext e2).src ⟨a0,c0,hv⟩ (faV_one _) omg fun v' h3 e3 o3 w3 w3'=>?_
  obtain⟨fa,fn,fc,rfl,-,-,-⟩:=o3.form
  simp(disch:=omega)
  have hz1:=e1.size
  have hz3:=e3.size
  have hm0:(h1.push (.map #[] 0)).size=h1.size+1:=by simp
  have e4:Ext h3 (h3.push (.cells #[.map (some h1.size),.slice fa fn fc,.int .i64 0] sT)):=extS
  have hmk:MapK str (h1.push (.map #[] 0)) h1.size ([]:List (List UInt8×Value)):=MapK.new rfl
  have foot:∀b,St.foot ⟨[],fs,0,h1.size,.slice fa fn fc⟩ h3.size b->h.size<=b:=by
   rintro b (e|e|e|⟨x,hx,-⟩)
   ·have e':b=h3.size:=e;omega
   ·have e':b=h1.size:=e;omega
   ·have:=w3 b e;omega
   ·cases hx
  refine H0 _ h3.size ⟨[],fs,0,h1.size,.slice fa fn fc⟩ (e1.trans (e2.trans (e3.trans e4))) hr rfl rfl rfl omg foot ?_
  exact⟨get_pushed rfl,(hmk.ext e3).ext e4,fun x hx=>(by cases hx),.nil,fun x hx=>(by cases hx),o3.ext e4,fun x hx=>(by cases hx),Nat.zero_le _,Nat.zero_lt_of_lt (show 0<1000000 by decide),by show fs.length<_;omega,fun f hf=>(a.ok f hf).2.2.2,fun x hx=>(by cases hx)⟩
theorem Feed_c{p:Nat}{s:St}{v:Value}{fs:List (Int×Int)}(a:StAt h p s)(hf:Fas h v fs)(hl:s.fates.length+fs.length<1000000000)
 (H1:∀h',Ext h h'->fs.all rightF=false->K (.int .i64 2) h')
 (H0:∀h' fv,fs.all rightF=true->SUpd h h' p s { s with fates:=s.fates++fs,fv:=fv }->K (.int .i64 0) h'):CallsH Tryz.prog 32 #[ptrV p,v] h K ⟨⟩:=by
 refine n32_calls ?_
 unfold n32;try delta vF vG vC vD vJ vV vk vt
 refine none_c a.cells ?_
 simp(disch:=omega)
 refine right_c hf fun h1 e1=>?_
 cases hr:fs.all rightF with
 | false =>
  simp(disch:=omega)
  exact H1 h1 e1 hr
 | true =>
  have a1:=a.ext e1
  have c1:=cellOf (i:=1) a1.cells rfl
  obtain⟨fa,fn,fc,hfv,hfl,hfc,-⟩:=a1.fat.form
  rw[faV_len]at hfl
  obtain rfl:fn=s.fates.length:=by omega
  have c1':hcell h1 ⟨p,1,none⟩=some (.slice fa s.fates.length fc):=hfv▸c1
  obtain⟨a0,c0,hv,hc⟩:=hf.form
  have hsrc:=(hf.ext e1).src
  have hfew:=hf.few
  have of:=a1.fat
  rw[hfv]at of
  unfold ptrV
  simp(disch:=omega)[c1']
  refine Hp_appendG (e:=aT) (s:=2) (by_:=16) (n:=s.fates.length) (k:=fs.length) (news:=fs.flatMap faV) kR kR of (faV_len _) omg hsrc (faV_one _) omg omg fun fv' h2 o2 m2 f2 _=>?_
  obtain⟨ga,gn,gc,rfl,-,-,-⟩:=o2.form
  have hfp:∀b,blkG s.fv=some b->b≠p:=fun b hb=>a1.fat.ne hb a1.cells aT_sT
  have cel2:=(m2.block p (get_some_lt a1.cells) (fun e=>hfp _ (by rw[hfv];exact e) rfl)).trans a1.cells
  have k1:=cellOf (i:=1) cel2 rfl
  have f1:=frzOf (i:=1) cel2
  have hz:=m2.size
  have hgp:∀b,blkG (.slice ga gn gc)=some b->b≠p:=fun b hb=>o2.ne hb cel2 aT_sT
  simp(disch:=omega)[k1,f1]
  refine H0 _ (.slice ga gn gc) hr (SUpd.from_ e1 (a1.own_ (Mod.setIn (m2.mono (fun b _ e=>.inr (by rw[hfv];exact e))) (.inl (.inl rfl))) (obj_set cel2) (by rw[List.flatMap_append];exact o2.mod (Mod.set _ _ _) (fun b hb e=>hgp b hb e)) (fun b hb=>(f2 b hb).imp (fun e=>by rw[hfv];exact e) id) a1.stp (Nat.le_refl _) (by rw[List.length_append];exact hl) (fun f hf'=>?_)))
  rcases List.mem_append.1 hf' with e|e
  ·exact a.fok f e
  ·exact (hf.ok f e).2.2.2
end
section
variable {K:VP}{h:Heap}
def newFh(l:List UInt8)(b:Nat):Fh:=⟨l,[],[],b,.slice none 0 0,.slice none 0 0,.slice none 0 0⟩
theorem get_none{s:St}{l:List UInt8}(hg:s.get l=none):∀x∈s.F,x.name≠l:=fun x hx e=>by
 have:=List.find?_eq_none.1 hg x hx
 simp[e]at this
theorem upd_new{κ:Type}[DecidableEq κ]{k:κ}{v:Value}:∀{l:List (κ×Value)},(∀p∈l,p.1≠k)->upd k v l=l++[(k,v)]
 | [],_=>rfl
 | (j,w)::l,h=>by
  have:=h (j,w) List.mem_cons_self
  rw[upd,if_neg (fun e=>this e.symm),upd_new (fun p hp=>h p (List.mem_cons_of_mem _ hp))];rfl
theorem StAt.addF{p:Nat}{s:St}{l:List UInt8}{h1 h2:Heap}(a:StAt h p s)(hl:okName l)(hg:s.get l=none)(hf:s.F.length<256)(e1:Ext h h1)(hb:h1[h.size]? = some (.cells #[.slice none 0 0,.slice none 0 0,.slice none 0 0] fT))
 (hm:MapK str h2 s.m (upd l (ptrV h.size) s.keys)) (m:Mod (· = s.m) h1 h2):SUpd h h2 p s { s with F:=s.F++[newFh l h.size] }:=by
 have z1:=e1.size
 have hb1:=get_some_lt hb
 have hml:=a.map.lt
 have hmn:p≠s.m:=fun e=>by
  obtain⟨es,cl,hm⟩:=mapCell a.map
  rw[<-e,a.cells]at hm;cases hm
 have hk:upd l (ptrV h.size) s.keys=St.keys { s with F:=s.F++[newFh l h.size] }:=by
  rw[upd_new]
  ·unfold St.keys;simp[newFh]
  ·intro q hq
   unfold St.keys at hq
   obtain⟨x,hx,rfl⟩:=List.mem_map.1 hq
   exact get_none hg x hx
 have mm:Mod (· = s.m) h h2:=(Mod.of_ext e1).trans m (fun _ _ e=>e)
 have hom:∀x∈s.F,∀b,x.own b->b≠s.m:=fun x hx b hb e=>by
  obtain⟨es,cl,hm⟩:=mapCell a.map
  exact Fh.neM (a.fl x hx) hb hm e
 have hqm:∀x∈s.F,∀q∈x.qs,∀b,blkV q.2=some b->b≠s.m:=fun x hx q hq b hb e=>a.psep x hx q hq b hb (.inr (.inl e))
 have hfm:∀b,blkG s.fv=some b->b≠s.m:=fun b hb=>by
  obtain⟨es,cl,hm⟩:=mapCell a.map
  exact a.fat.neM hb hm
 have nown:∀b,(newFh l h.size).own b->b=h.size:=by
  rintro b (e|e|e|e)
  ·exact e
  ·cases e
  ·cases e
  ·cases e
 have foot:∀b,St.foot { s with F:=s.F++[newFh l h.size] } p b->s.foot p b\/h.size<=b:=by
  rintro b (e|e|e|⟨x,hx,e⟩)
  ·exact .inl (.inl e)
  ·exact .inl (.inr (.inl e))
  ·exact .inl (.inr (.inr (.inl e)))
  ·rcases List.mem_append.1 hx with hx|hx
   ·exact .inl (.inr (.inr (.inr ⟨x,hx,e⟩)))
   ·simp at hx;subst hx
    exact .inr (by have:=nown b e;omega)
 have hnew:FlAt h2 (newFh l h.size):=by
  refine⟨(m.block _ hb1 (fun e=>by have e':h.size=s.m:=e;omega)).trans hb,.nil,.nil,.nil,fun q hq=>(by cases hq),⟨by show 0<=_;decide,fun q hq=>(by cases hq)⟩,fun b hb=>(by cases hb),fun q hq=>(by cases hq)⟩
 refine⟨⟨(mm.block p (get_some_lt a.cells) hmn).trans a.cells,hk▸hm,fun x hx=>?_,?_,fun x hx q hq b hb e=>?_,a.fat.mod mm hfm,fun x hx=>?_,?_,a.stp,a.fatk,a.fok,fun x hx=>?_⟩,mm.mono (fun b _ e=>.inr (.inl e)),foot,fun b ⟨y,hy,q,hq,e⟩=>(List.mem_append.1 hy).elim (fun h=>.inl ⟨y,h,q,hq,e⟩) (fun h=>by simp at h;subst h;cases hq)⟩
 ·rcases List.mem_append.1 hx with hx|hx
  ·exact (a.fl x hx).mod mm (hom x hx) (hqm x hx)
  ·simp at hx;subst hx;exact hnew
 ·rw[List.pairwise_append]
  refine⟨a.sep,List.pairwise_singleton _ _,fun x hx y hy b hb hc=>?_⟩
  simp at hy;subst hy
  have:=nown b hc
  have:=(a.fl x hx).lt hb
  omega
 ·rcases List.mem_append.1 hx with hx|hx
  ·exact (foot b e).elim (a.psep x hx q hq b hb) (fun e=>by have:=(a.fl x hx).plt hq hb;omega)
  ·simp at hx;subst hx;cases hq
 ·rcases List.mem_append.1 hx with hx|hx
  ·exact a.names x hx
  ·simp at hx;subst hx;exact hl
 ·show (s.F++[_]).length<=256
  simp;omega
 ·rcases List.mem_append.1 hx with hx|hx
  ·exact a.pfew x hx
  ·simp at hx;subst hx;exact Nat.zero_le _
def cErr(s:St)(l:List UInt8):Int:=if okName l then (match s.get l with|some _=>8|none=>if 256<=s.F.length then 6 else 0) else 2
set_option maxHeartbeats 1000000 in
theorem Create_c{p:Nat}{s:St}{l:List UInt8}(a:StAt h p s)(hl:l.length<9223372036854775808)(hs:s.steps+1<1000000)
 (He:∀h',Ext h h'->cErr s l≠0->K (.int .i64 (cErr s l)) h')
 (Hf:∀h' fv,cErr s l=0->fateE s.fates≠0->SUpd h h' p s (s.stepped fv)->K (.int .i64 (fateE s.fates)) h')
 (Hw:∀h' fv b,fateE s.fates=0->okName l->s.get l=none->s.F.length<256->SUpd h h' p s { s.stepped fv with F:=s.F++[newFh l b] }->K (.int .i64 0) h') :
 CallsH Tryz.prog 29 #[ptrV p,str l] h K ⟨⟩:=by
 refine n29_calls ?_
 unfold n29;try delta vF vG vC vD vJ vV vk vt
 refine asked_c a.cells hl fun h1 e1=>?_
 have He:=He h1 e1
 by_cases ho:okName l
 case neg =>
  unfold cErr at He
  rw[if_neg ho]at He ⊢
  simp(disch:=omega)
  exact He dM
 have a1:=a.ext e1
 have c0:=cellOf (i:=0) a1.cells rfl
 have lk:=look_keys (l:=l) s.F
 have hm:=a1.map
 unfold St.keys at hm
 rw[if_pos ho]
 unfold ptrV
 simp(disch:=omega)[c0]
 rw[Hp_lookup storeKey (z:=.pointer none) kR hm,lk]
 unfold cErr at He Hf
 rw[if_pos ho]at He Hf
 cases hg:s.F.find? (fun x=>decide (x.name=l)) with
 | some x =>
  have hg':s.get l=some x:=hg
  rw[hg']at He
  simp(disch:=omega)[ptrV]
  exact He sM
 | none =>
  have hg':s.get l=none:=hg
  rw[hg']at He Hf
  dsimp only at He Hf
  simp(disch:=omega)[c0]
  rw[Hp_lenMap hm kR]
  have hlen:(s.F.map fun x=>(x.name,ptrV x.b)).length=s.F.length:=List.length_map _
  by_cases hf:256<=s.F.length
  ·rw[if_pos hf]at He
   simp(disch:=omega)[hf]
   exact He dM
  ·rw[if_neg hf]at Hf
   simp(disch:=omega)[hf]
   refine step_c a1 hs fun h2 fv u2=>?_
   by_cases hE:fateE s.fates=0
   case neg =>
    simp(disch:=omega)[hE]
    exact Hf _ fv rfl hE (u2.from_ e1)
   have d0:=cellOf (i:=0) u2.st.cells rfl
   have d0':hcell h2 ⟨p,0,none⟩=some (.map (some s.m)):=d0
   simp(disch:=omega)[hE,d0']
   have e3:Ext h2 (h2.push (.cells #[.slice none 0 0,.slice none 0 0,.slice none 0 0] fT)):=extS
   refine Hp_mapUpdate storeKey (u2.st.map.ext e3) fun h4 m4 md=>?_
   have ux:=u2.st.addF (l:=l) ho hg' (by show s.F.length<256;omega) e3 (get_pushed rfl) m4 md
   exact Hw _ fv h2.size hE ho hg' omg ((u2.from_ e1).trans ux)
end
section
variable {K:VP}{h:Heap}
theorem Size_c{p:Nat}{s:St}{l:List UInt8}(a:StAt h p s)(hl:l.length<9223372036854775808)(He:∀h',Ext h h'->fErr s l≠0->K (.tuple #[.int .i64 0,.int .i64 (fErr s l)]) h')
 (Hw:∀h' x,Ext h h'->x∈s.F->x.name=l->K (.tuple #[.int .i64 x.last.length,.int .i64 0]) h'):CallsH Tryz.prog 11 #[ptrV p,str l] h K ⟨⟩:=by
 refine n11_calls ?_
 unfold n11;try delta vF vG vC vD vJ vV vk vt
 unfold fErr at He
 refine find_c3 a hl (fun h1 e1 ho=>?_) (fun h1 e1 ho hg=>?_) (fun h1 A B x e1 ho hg hF hn=>?_)
 ·simp(disch:=omega)
  have:=He h1 e1
  rw[if_neg ho]at this
  exact this dM
 ·simp(disch:=omega)
  have:=He h1 e1
  rw[if_pos ho,hg]at this
  exact this sM
 have hx:x∈s.F:=by rw[hF];simp
 have hfl:=(a.ext e1).fl x hx
 have c2:=cellOf (i:=2) hfl.cells rfl
 obtain⟨na,nn,nc,hnv,hnl,hnc,-⟩:=hfl.now.form
 have hlen:=hfl.len
 obtain rfl:nn=x.last.length:=by simp[hlen]at hnl;omega
 have c2':hcell h1 ⟨x.b,2,none⟩=some (.slice na x.last.length nc):=hnv▸c2
 have hfew:x.last.length<=268435456:=hfl.ok.few
 unfold ptrV
 simp(disch:=omega)[c2']
 exact Hw h1 x e1 hx hn
def rdErr(s:St)(l:List UInt8)(k n:Int):Int:=if okName l then (match s.get l with|none=>7|some x=>if k<0\/(x.last.length:Int)<k\/n<0 then 4 else 0) else 2
set_option maxHeartbeats 1000000 in
theorem Read_cT{p:Nat}{s:St}{l:List UInt8}{k n:Int}(a:StAt h p s)(hl:l.length<9223372036854775808)(k0 : -9223372036854775808<=k)(k1:k<9223372036854775808)(n0 : -9223372036854775808<=n)(n1:n<9223372036854775808)
 (He:∀h',Ext h h'->rdErr s l k n≠0->K (.tuple #[.slice none 0 0,.int .i64 (rdErr s l k n)]) h')
 (Hw:∀h' x v,Ext h h'->x∈s.F->s.get l=some x->0<=k->k<=x.last.length->0<=n->OwnT bT 1 h' v (((x.f.now.drop k.toNat).take n.toNat).map byteV)->(∀b,blkV v=some b->h.size<=b)->K (.tuple #[v,.int .i64 0]) h'):CallsH Tryz.prog 33 #[ptrV p,str l,.int .i64 k,.int .i64 n] h K ⟨⟩:=by
 refine n33_calls ?_
 unfold n33;try delta vF vG vC vD vJ vV vk vt
 unfold rdErr at He
 refine find_c3 a hl (fun h1 e1 ho=>?_) (fun h1 e1 ho hg=>?_) (fun h1 A B x e1 ho hg hF hn=>?_)
 ·simp(disch:=omega)
  have:=He h1 e1
  rw[if_neg ho]at this
  exact this dM
 ·simp(disch:=omega)
  have:=He h1 e1
  rw[if_pos ho,hg]at this
  exact this sM
 have He:=He h1 e1
 rw[if_pos ho,hg]at He
 dsimp only at He
 have hx:x∈s.F:=by rw[hF];simp
 have hfl:=(a.ext e1).fl x hx
 have c2:=cellOf (i:=2) hfl.cells rfl
 obtain⟨na,nn,nc,hnv,hnl,hnc,-⟩:=hfl.now.form
 have hlen:=hfl.len
 obtain rfl:nn=x.last.length:=by simp[hlen]at hnl;omega
 have c2':hcell h1 ⟨x.b,2,none⟩=some (.slice na x.last.length nc):=hnv▸c2
 have hfew:x.last.length<=268435456:=hfl.ok.few
 unfold ptrV
 by_cases hk:k<0
 ·rw[if_pos (.inl hk)]at He
  simp(disch:=omega)[hk]
  exact He dM
 by_cases hk2:(x.last.length:Int)<k
 ·rw[if_pos (.inr (.inl hk2))]at He
  simp(disch:=omega)[hk,hk2,c2']
  exact He dM
 by_cases hn0:n<0
 ·rw[if_pos (.inr (.inr hn0))]at He
  simp(disch:=omega)[hk,hk2,c2',hn0]
  exact He dM
 clear He
 have on:=hfl.now
 rw[hnv]at on
 have od:=on.dropO (lo:=k.toNat) omg
 have hmn:(if ((x.last.length-k.toNat:Nat):Int)<n then ((x.last.length-k.toNat:Nat):Int) else n)=((min n.toNat (x.last.length-k.toNat):Nat):Int):=by split<;>omega
 simp(disch:=omega)[hk,hk2,c2',hn0,Hp_slgLN (P:=Tryz.prog) (t:=52) (s:=1) kR,Hp_slgNH (P:=Tryz.prog) (t:=52) (s:=1) kR,hmn]
 have oc:=od.cut (hi:=min n.toNat (x.last.length-k.toNat)) (mx:=nc-k.toNat) omg (Nat.le_refl _) omg
 have hz1:=e1.size
 have ev:((x.f.now.map byteV).drop (k.toNat*1)).take (min n.toNat (x.last.length-k.toNat)*1)=((x.f.now.drop k.toNat).take n.toNat).map byteV:=by
  rw[Nat.mul_one,Nat.mul_one,<-List.map_drop,<-List.map_take]
  congr 1
  rcases Nat.le_total n.toNat (x.last.length-k.toNat) with h|h
  ·rw[Nat.min_eq_left h]
  ·rw[Nat.min_eq_right h,List.take_of_length_le (by rw[List.length_drop];omega),List.take_of_length_le (by rw[List.length_drop];omega)]
 rw[ev]at oc
 refine bcloneT_c oc.src ⟨_,_,rfl⟩ (one_bytes _) omg fun v' h2 e2 o2 w2'=>?_
 exact Hw h2 x v' (e1.trans e2) hx hg omg omg omg o2 (fun b hb=>by have:=w2' b hb;omega)
end
section
variable {K:VP}{h:Heap}
def wErr(s:St)(l:List UInt8)(k:Int)(b:List UInt8):Int :=
 if okName l then (match s.get l with|none=>7|some _=>if k<0 then 4 else if b≠[]/\268435456<k+b.length then 6 else 0) else 2
set_option maxHeartbeats 4000000 in
theorem Write_c2{p:Nat}{s:St}{l b:List UInt8}{k:Int}{v:Value}(a:StAt h p s)(hl:l.length<9223372036854775808)(hB:Bytes h v b)(hbl:b.length<=268435456)(hv:b≠[]->∀c,blkV v=some c->¬s.foot p c)
 (k0 : -9223372036854775808<=k) (k1:k<9223372036854775808) (hs:s.steps+1<1000000)
 (He:∀h',Ext h h'->wErr s l k b≠0->K (.int .i64 (wErr s l k b)) h')
 (Hw:∀h' A B x x' fv,s.F=A++x::B->x.name=l->0<=k->(b≠[]->k+b.length<=268435456)->x'.name=x.name->x'.f=x.f.writes (went (fateE s.fates) (fateK s.fates) (cutP k.toNat b))->(∀q∈x'.qs,∀b,blkV q.2=some b->(∃q0∈x.qs,blkV q0.2=some b)\/h.size<=b)->SUpd h h' p s { s.stepped fv with F:=A++x'::B }->K (.int .i64 (fateE s.fates)) h') :
 CallsH Tryz.prog 30 #[ptrV p,str l,.int .i64 k,v] h K ⟨⟩:=by
 refine n30_calls ?_
 unfold n30;try delta vF vG vC vD vJ vV vk vt
 unfold wErr at He
 refine find_c3 a hl (fun h1 e1 ho=>?_) (fun h1 e1 ho hg=>?_) (fun h1 A B x e1 ho hg hF hn=>?_)
 ·simp(disch:=omega)
  have:=He h1 e1
  rw[if_neg ho]at this
  exact this dM
 ·simp(disch:=omega)
  have:=He h1 e1
  rw[if_pos ho,hg]at this
  exact this sM
 have He:=He h1 e1
 rw[if_pos ho,hg]at He
 dsimp only at He
 have hx:x∈s.F:=by rw[hF];simp
 obtain⟨va,vc,rfl⟩:=hB.form
 by_cases hk0:k<0
 ·rw[if_pos hk0]at He
  simp(disch:=omega)[hk0]
  exact He dM
 rw[if_neg hk0]at He
 simp(disch:=omega)[hk0]
 have a1:=a.ext e1
 have hFx:A++x::B=s.F:=hF.symm
 by_cases hb:b=[]
 ·subst hb
  simp(disch:=omega)
  refine step_c a1 hs fun h2 fv u2=>?_
  simp(disch:=omega)
  refine loopX3 (α:=Unit) (fun _=>.int .i64 k) (fun _=>.slice va 0 vc) (fun _=>.int .i64 (fateK s.fates)) (fun _ g=>g=h2) (fun _=>0) () ⟨rfl,rfl,rfl⟩ rfl ?_
  rintro _ g rfl X hX
  simp(disch:=omega)
  refine Hw _ A B x x fv hF hn omg (fun e=>absurd rfl e) rfl ?_ (fun q hq b hb=>.inl ⟨q,hq,hb⟩) ?_
  ·rw[cutP_nil];unfold went;split<;>simp[Fl.writes]
  ·have:(s.stepped fv).F=A++x::B:=hF
   rw[<-this]
   exact u2.from_ e1
 have hbl0:0<b.length:=List.length_pos_iff.2 hb
 by_cases hbig:268435456<k+b.length
 ·rw[if_pos ⟨hb,hbig⟩]at He
  by_cases hk2:268435456<k
  ·simp(disch:=omega)[hk2]
   exact He dM
  ·simp(disch:=omega)[hk2]
   exact He dM
 clear He
 simp(disch:=omega)
 refine step_c a1 hs fun h2 fv u2=>?_
 simp(disch:=omega)
 have hpf:=a.pfew x hx
 have hst0:=a.stp
 have hfl:=u2.st.fl x (by show x∈s.F;exact hx)
 have hB2:=(hB.ext e1).modX u2.mod (fun c hc hcb _=>hv hc c hcb)
 have hvlt:∀c,blkV (.slice va b.length vc)=some c->c<h2.size/\¬x.own c:=fun c hc=>⟨hB2.lt hc hb,fun e=>hv hb c hc (.inr (.inr (.inr ⟨x,hx,e⟩)))⟩
 obtain⟨k,rfl⟩:=Int.eq_ofNat_of_zero_le (Int.not_lt.1 hk0)
 have hcf:=cutP_few b.length (k:=k) (b:=b) (Nat.le_refl _)
 generalize hE:fateE s.fates=E at *
 have hK0:0<=fateK s.fates/\fateK s.fates<9223372036854775808:=by
  unfold fateK
  split
  ·omega
  ·rename_i n t hf
   have:=a.fok (_,n) (by rw[hf];exact List.mem_cons_self)
   dsimp only at this
   split<;>omega
 refine loopX3 (α:=Nat×List UInt8×Value×Int×Fh) (fun a=>.int .i64 a.1) (fun a=>a.2.2.1) (fun a=>.int .i64 a.2.2.2.1)
  (fun a g=>Upd h2 g x a.2.2.2.2/\Bytes g a.2.2.1 a.2.1/\(a.2.1≠[]->∀c,blkV a.2.2.1=some c->c<h2.size/\¬x.own c)/\a.1+a.2.1.length<=268435456/\a.2.2.2.2.qs.length+(cutP a.1 a.2.1).length<=x.qs.length+(cutP k b).length /\ -(a.1:Int)<=a.2.2.2.1/\a.2.2.2.1<9223372036854775808/\a.2.2.2.2.f.writes (went E a.2.2.2.1 (cutP a.1 a.2.1))=x.f.writes (went E (fateK s.fates) (cutP k b)))
  (fun a=>a.2.1.length) (k,b,.slice va b.length vc,fateK s.fates,x) ⟨rfl,rfl,rfl⟩ ⟨.refl hfl,hB2,fun _=>hvlt,by dsimp only;omega,by dsimp only;omega,by dsimp only;omega,by dsimp only;omega,rfl⟩ ?_
 rintro⟨k',b',v',kp,x'⟩ g ⟨u,hb',hvl,hlen,hqs,hp0,hp1,heq⟩ X hX
 dsimp only at u hb' hvl hlen hqs hp0 hp1 heq hX ⊢
 obtain⟨ua,uc,rfl⟩:=hb'.form
 have done:x'.f=x.f.writes (went E (fateK s.fates) (cutP k b))->K (.int .i64 E) g:=fun hd=>by
  refine Hw g A B x x' fv hF hn omg (fun _=>by omega) u.name ?_ (fun q hq b hb=>(u.pcs q hq b hb).imp id (fun e=>by have:=e1.size;have:=u2.mod.size;omega)) ?_
  ·rw[Int.toNat_natCast];exact hd
  ·have hFs:(s.stepped fv).F=A++x::B:=hF
   exact (u2.from_ e1).trans (u2.st.put hFs u (by show _<=(s.steps+1)*1000000;omega))
 have ex:b'=[]\/(E≠0/\kp<=0)->x'.f=x.f.writes (went E (fateK s.fates) (cutP k b)):=by
  intro hh
  rw[<-heq]
  have:went E kp (cutP k' b')=[]:=by
   unfold went
   rcases hh with rfl|⟨h1,h2⟩
   ·rw[cutP_nil];split<;>simp
   ·rw[if_neg h1,show kp.toNat=0 by omega];simp
  rw[this];rfl
 by_cases hbe:b'=[]
 ·subst hbe
  simp(disch:=omega)
  exact done (ex (.inl rfl))
 have hbl':0<b'.length:=List.length_pos_iff.2 hbe
 by_cases hst:E≠0/\kp<=0
 ·simp(disch:=omega)[hst.1]
  exact done (ex (.inr hst))
 clear done ex
 have hgo:E=0\/0<kp:=by omega
 have hxb:x'.b=x.b:=u.b
 obtain⟨n,hnd⟩:∃n,n=min b'.length (512-k'%512):=⟨_,rfl⟩
 have hmn:(if (512:Int)-(k':Int)%512<(b'.length:Int) then 512-(k':Int)%512 else (b'.length:Int))=(n:Int):=by rw[hnd];split<;>omega
 have hn1:1<=n/\n<=b'.length/\n<=512-k'%512/\k'+n<=268435456:=by omega
 have hsum:(k':Int)+(n:Int)=((k'+n:Nat):Int):=by omega
 obtain⟨ad,rfl,-,huc,hA⟩:=hb'.at hbl'
 have hcut:=cutP_cons (k:=k') hbe
 rw[<-hnd]at hcut
 have hcl:=congrArg List.length hcut
 rw[List.length_cons]at hcl
 by_cases hE0:E=0
 ·simp(disch:=omega)[hE0]
  simp only[hmn,hsum]
  rw[<-hxb]
  refine grow_c u.fl (n:=k'+n) omg fun g1 lv nv u1=>?_
  have c1:=cellOf (i:=1) u1.fl.cells rfl
  unfold ptrV
  simp(disch:=omega)[c1,hmn]
  have hB1:Bytes g1 (.slice (some ad) b'.length uc) b':=hb'.mod u1.mod (fun c hc e=>(u.own c e).elim (hvl hbe c hc).2 (fun e=>by have:=(hvl hbe c hc).1;omega))
  obtain⟨-,-,hA1⟩:True/\True/\At g1 ad b':=by
   rcases hB1 with ⟨e,-⟩|⟨a',c',e,-,h3⟩
   ·cases e
   ·cases e;exact⟨trivial,trivial,h3⟩
  have hAt:=hA1.part 0 n uc omg omg huc
  rw[sub_zero,List.drop_zero]at hAt
  have hbn:Bytes g1 (.slice (some ad) n uc) (b'.take n):=.inr ⟨ad,uc,by congr 1;simp;omega,by simp;omega,hAt⟩
  have hsrc:=Src.of_bytes hbn
  rw[show (b'.take n).length=n by simp;omega]at hsrc
  refine bclone_c hsrc ⟨_,_,rfl⟩ (one_bytes _) omg fun w g2 e2 ow wf wf2=>?_
  have c2:=cellOf (i:=1) ((u1.fl.ext e2).cells) rfl
  have hxl:=get_some_lt (u1.fl.ext e2).cells
  obtain⟨wa,wn,wc,rfl,-,-,-⟩:=ow.form
  obtain⟨pa,pn,pc,hpv,hpl,hpc,-⟩:=u1.fl.ps.form
  have hpv1:x'.pv = .slice pa pn pc:=hpv
  have o2:=u1.fl.ps.ext e2
  have hbw:Bytes g2 (.slice wa wn wc) (b'.take n):=ow.bytes
  dsimp only at o2 hpl
  have hxl':x'.b<g2.size:=hxl
  have hxn:¬x'.b=g2.size:=by omega
  have c2':hcell g2 ⟨x'.b,1,none⟩=some (.slice pa pn pc):=hpv▸c2
  simp(disch:=omega)[c2',hpv1,hxn]
  have hql:(x'.qs.flatMap pcV).length=x'.qs.length*2:=by
   have:∀l:List (Pc×Value),(l.flatMap pcV).length=l.length*2:=fun l=>by induction l with|nil=>rfl|cons f l ih=>rw[List.flatMap_cons,List.length_append,ih];simp[pcV];omega
   exact this _
  have hpn:pn=x'.qs.length:=by omega
  have hqn:x'.qs.length<=1000000000000:=by omega
  have e3:Ext g2 (g2.push (.cells #[.int .i64 k',.slice wa wn wc] pT)):=extS
  have o2':=o2.ext e3
  have hpv':x'.pv = .slice pa pn pc:=hpv1
  rw[hpv1]at o2'
  refine Hp_appendG (e:=pT) (s:=2) (by_:=32) (n:=pn) (k:=1) (news:=[.int .i64 k',.slice wa wn wc]) kR kR o2' hpl omg (Src_new (vs:=[.int .i64 k',.slice wa wn wc]) rfl) (by simp[one]) omg omg fun pv' g3 o3 m3 f3 _=>?_
  obtain⟨pa',pn',pc',rfl,hpl',hpc',-⟩:=o3.form
  have hxpb:∀c,blkG (.slice pa pn pc)=some c->c≠x'.b:=fun c hc=>u1.fl.ps.ne (by dsimp only;rw[hpv1];exact hc) u1.fl.cells pT_fT
  have cel2:=(u1.fl.ext (e2.trans e3)).cells
  have cel3:=(m3.block x'.b (get_some_lt cel2) (fun e=>hxpb _ e rfl)).trans cel2
  have d1:=cellOf (i:=1) cel3 rfl
  have d2:=cellOf (i:=2) cel3 rfl
  have dz:=frzOf (i:=1) cel3
  obtain⟨na,nn,nc,hnv,hnl,hnc,hnne⟩:=u1.fl.now.form
  have hnv1:nv = .slice na nn nc:=hnv
  have hnow:(growL x'.f.now (k'+n)).length=nn:=by
   have e5:(Fh.f { x' with last:=growL x'.last (k'+n),lv:=lv,nv:=nv }).now=growL x'.f.now (k'+n):=u.fl.ok.now_grow (k'+n)
   rw[e5]at hnl
   simpa using hnl
  have hnn:nn=max x'.f.now.length (k'+n):=by rw[<-hnow,growL_len]
  obtain⟨nb,no,rfl⟩:=hnne (by intro e;rw[e]at hnl;simp at hnl;omega)
  have d1':hcell g3 ⟨x'.b,1,none⟩=some (.slice pa pn pc):=hpv▸d1
  have d2':hcell g3 ⟨x'.b,2,none⟩=some (.slice (some ⟨nb,no,none⟩) nn nc):=hnv1▸d2
  have u3:=u.trans u1
  have had:∀c,blkV (.slice (some ad) n uc)=some c->c<g1.size/\¬Fh.own { x' with last:=growL x'.last (k'+n),lv:=lv,nv:=nv } c:=fun c hc=>by
   have h1:=hvl hbe c hc
   have h2:=u3.mod.size
   exact⟨by omega,fun e=>(u3.own c e).elim h1.2 (fun e=>by omega)⟩
  have hb4:Bytes (hset g3 ⟨x'.b,1,none⟩ (.slice pa' pn' pc')) (.slice (some ad) n uc) (b'.take n):=by
   refine hbn.mod (S:=Fh.own { x' with last:=growL x'.last (k'+n),lv:=lv,nv:=nv }) (Mod.setIn ((Mod.of_ext (e2.trans e3)).trans m3 (fun c _ e=>.inr (.inr (.inl (by dsimp only;rw[hpv1];exact e))))) (.inl (.inl rfl))) (fun c hc=>(had c hc).2)
  have o4:OwnG bT 1 (hset g3 ⟨x'.b,1,none⟩ (.slice pa' pn' pc')) (.slice (some ⟨nb,no,none⟩) nn nc) ((growL x'.f.now (k'+n)).map byteV):=by
   have e5:(Fh.f { x' with last:=growL x'.last (k'+n),lv:=lv,nv:=nv }).now=growL x'.f.now (k'+n):=u.fl.ok.now_grow (k'+n)
   have on:=u1.fl.now
   rw[e5]at on
   have hz:=e3.size
   refine hnv1▸on.mod (S:=fun c=>blkG (.slice pa pn pc)=some c\/c=x'.b) (Mod.setIn ((Mod.of_ext (e2.trans e3)).trans m3 (fun c _ e=>.inl e)) (.inl (.inr rfl))) (fun c hc=>?_)
   rintro (e|e)
   ·obtain⟨arr,ha⟩:=u1.fl.ps.tag (b:=c) (by dsimp only;rw[hpv1];exact e)
    exact on.ne hc ha bT_pT rfl
   ·exact on.ne hc u1.fl.cells bT_fT e
  simp(disch:=omega)[d1',d2',dz,hmn]
  refine Hp_copyG (lo:=k') (m:=nn-k') (e:=bT) kR o4 omg hb4 fun g5 o5 m5=>?_
  simp(disch:=omega)[hmn]
  have htk:(b'.take n).take (nn-k')=b'.take n:=List.take_of_length_le (by simp;omega)
  rw[htk]at o5
  have hlb:(b'.take n).length=n:=by simp;omega
  have hz3:=e3.size
  have hpo:Pc.ok ⟨k',b'.take n⟩:=⟨by rw[hlb];omega,by rw[hlb];show k'%512+n<=512;omega⟩
  have up:Upd g1 g5 { x' with last:=growL x'.last (k'+n),lv:=lv,nv:=nv } ({ x' with last:=growL x'.last (k'+n),lv:=lv,nv:=nv,qs:=x'.qs++[(⟨k',b'.take n⟩,.slice wa wn wc)],pv:=.slice pa' pn' pc' }:Fh):=by
   refine piece_upd (k:=k') (b:=b'.take n) (w:=.slice wa wn wc) (pv':=.slice pa' pn' pc') (h2:=g2) (h3:=g3) u1.fl hpo ?_ e2 hbw wf2 ?_ ?_ ?_ ?_ ?_
   ·rw[hlb];show k'+n<=(growL x'.last (k'+n)).length;rw[growL_len];omega
   ·simpa[pcV]using o3
   ·refine (Mod.of_ext e3).trans m3 (fun c _ e=>?_)
    show blkG x'.pv=some c
    rw[hpv1];exact e
   ·intro c hc
    rcases f3 c hc with e|e
    ·left;show blkG x'.pv=some c;rw[hpv1];exact e
    ·right;exact Nat.le_trans hz3 e
   ·show OwnG bT 1 g5 nv _
    have e5:(Fh.f { x' with last:=growL x'.last (k'+n),lv:=lv,nv:=nv }).now=growL x'.f.now (k'+n):=u.fl.ok.now_grow (k'+n)
    rw[e5,hnv1]
    exact o5
   ·refine m5.mono (fun c _ e=>?_)
    show blkG nv=some c
    rw[hnv1];exact e
  have uu:=u3.trans up
  have hadb:∀c,blkV (.slice (some (sub ad n uc)) (b'.length-n) (uc-n))=some c->c<h2.size/\¬x.own c:=fun c hc=>hvl hbe c (by simpa[blkV]using hc)
  have hbd:Bytes g5 (.slice (some (sub ad n uc)) (b'.length-n) (uc-n)) (b'.drop n):=by
   have hp:=hA.part n b'.length uc omg omg huc
   rw[List.take_length]at hp
   have hg:Bytes g (.slice (some (sub ad n uc)) (b'.length-n) (uc-n)) (b'.drop n):=.inr ⟨_,_,by congr 1;simp,by simp;omega,hp⟩
   refine hg.mod (u1.trans up).mod (fun c hc e=>?_)
   have h1:=hadb c hc
   exact (u.own c e).elim h1.2 (fun e=>by omega)
  refine hX (k'+n,b'.drop n,.slice (some (sub ad n uc)) (b'.length-n) (uc-n),kp-1,({ x' with last:=growL x'.last (k'+n),lv:=lv,nv:=nv,qs:=x'.qs++[(⟨k',b'.take n⟩,.slice wa wn wc)],pv:=.slice pa' pn' pc' }:Fh)) _ _ _ _ sM rfl rfl ⟨uu,hbd,fun _=>hadb,?_,?_,?_,?_,?_⟩ ?_
  ·simp;omega
  ·dsimp only;rw[List.length_append,List.length_singleton];omega
  ·simp;omega
  ·simp;omega
  ·dsimp only
   rw[<-heq,hcut,went_cons hgo]
   show Fl.writes _ _=Fl.writes (x'.f.add _) _
   congr 1
   unfold Fh.f Fl.add
   dsimp only
   rw[hlb,List.map_append];rfl
  ·simp;omega
 ·simp(disch:=omega)[hE0]
  simp only[hmn,hsum]
  rw[<-hxb]
  refine grow_c u.fl (n:=k'+n) omg fun g1 lv nv u1=>?_
  have c1:=cellOf (i:=1) u1.fl.cells rfl
  unfold ptrV
  simp(disch:=omega)[c1,hmn]
  have hB1:Bytes g1 (.slice (some ad) b'.length uc) b':=hb'.mod u1.mod (fun c hc e=>(u.own c e).elim (hvl hbe c hc).2 (fun e=>by have:=(hvl hbe c hc).1;omega))
  obtain⟨-,-,hA1⟩:True/\True/\At g1 ad b':=by
   rcases hB1 with ⟨e,-⟩|⟨a',c',e,-,h3⟩
   ·cases e
   ·cases e;exact⟨trivial,trivial,h3⟩
  have hAt:=hA1.part 0 n uc omg omg huc
  rw[sub_zero,List.drop_zero]at hAt
  have hbn:Bytes g1 (.slice (some ad) n uc) (b'.take n):=.inr ⟨ad,uc,by congr 1;simp;omega,by simp;omega,hAt⟩
  have hsrc:=Src.of_bytes hbn
  rw[show (b'.take n).length=n by simp;omega]at hsrc
  refine bclone_c hsrc ⟨_,_,rfl⟩ (one_bytes _) omg fun w g2 e2 ow wf wf2=>?_
  have c2:=cellOf (i:=1) ((u1.fl.ext e2).cells) rfl
  have hxl:=get_some_lt (u1.fl.ext e2).cells
  obtain⟨wa,wn,wc,rfl,-,-,-⟩:=ow.form
  obtain⟨pa,pn,pc,hpv,hpl,hpc,-⟩:=u1.fl.ps.form
  have hpv1:x'.pv = .slice pa pn pc:=hpv
  have o2:=u1.fl.ps.ext e2
  have hbw:Bytes g2 (.slice wa wn wc) (b'.take n):=ow.bytes
  dsimp only at o2 hpl
  have hxl':x'.b<g2.size:=hxl
  have hxn:¬x'.b=g2.size:=by omega
  have c2':hcell g2 ⟨x'.b,1,none⟩=some (.slice pa pn pc):=hpv▸c2
  simp(disch:=omega)[c2',hpv1,hxn]
  have hql:(x'.qs.flatMap pcV).length=x'.qs.length*2:=by
   have:∀l:List (Pc×Value),(l.flatMap pcV).length=l.length*2:=fun l=>by induction l with|nil=>rfl|cons f l ih=>rw[List.flatMap_cons,List.length_append,ih];simp[pcV];omega
   exact this _
  have hpn:pn=x'.qs.length:=by omega
  have hqn:x'.qs.length<=1000000000000:=by omega
  have e3:Ext g2 (g2.push (.cells #[.int .i64 k',.slice wa wn wc] pT)):=extS
  have o2':=o2.ext e3
  have hpv':x'.pv = .slice pa pn pc:=hpv1
  rw[hpv1]at o2'
  refine Hp_appendG (e:=pT) (s:=2) (by_:=32) (n:=pn) (k:=1) (news:=[.int .i64 k',.slice wa wn wc]) kR kR o2' hpl omg (Src_new (vs:=[.int .i64 k',.slice wa wn wc]) rfl) (by simp[one]) omg omg fun pv' g3 o3 m3 f3 _=>?_
  obtain⟨pa',pn',pc',rfl,hpl',hpc',-⟩:=o3.form
  have hxpb:∀c,blkG (.slice pa pn pc)=some c->c≠x'.b:=fun c hc=>u1.fl.ps.ne (by dsimp only;rw[hpv1];exact hc) u1.fl.cells pT_fT
  have cel2:=(u1.fl.ext (e2.trans e3)).cells
  have cel3:=(m3.block x'.b (get_some_lt cel2) (fun e=>hxpb _ e rfl)).trans cel2
  have d1:=cellOf (i:=1) cel3 rfl
  have d2:=cellOf (i:=2) cel3 rfl
  have dz:=frzOf (i:=1) cel3
  obtain⟨na,nn,nc,hnv,hnl,hnc,hnne⟩:=u1.fl.now.form
  have hnv1:nv = .slice na nn nc:=hnv
  have hnow:(growL x'.f.now (k'+n)).length=nn:=by
   have e5:(Fh.f { x' with last:=growL x'.last (k'+n),lv:=lv,nv:=nv }).now=growL x'.f.now (k'+n):=u.fl.ok.now_grow (k'+n)
   rw[e5]at hnl
   simpa using hnl
  have hnn:nn=max x'.f.now.length (k'+n):=by rw[<-hnow,growL_len]
  obtain⟨nb,no,rfl⟩:=hnne (by intro e;rw[e]at hnl;simp at hnl;omega)
  have d1':hcell g3 ⟨x'.b,1,none⟩=some (.slice pa pn pc):=hpv▸d1
  have d2':hcell g3 ⟨x'.b,2,none⟩=some (.slice (some ⟨nb,no,none⟩) nn nc):=hnv1▸d2
  have u3:=u.trans u1
  have had:∀c,blkV (.slice (some ad) n uc)=some c->c<g1.size/\¬Fh.own { x' with last:=growL x'.last (k'+n),lv:=lv,nv:=nv } c:=fun c hc=>by
   have h1:=hvl hbe c hc
   have h2:=u3.mod.size
   exact⟨by omega,fun e=>(u3.own c e).elim h1.2 (fun e=>by omega)⟩
  have hb4:Bytes (hset g3 ⟨x'.b,1,none⟩ (.slice pa' pn' pc')) (.slice (some ad) n uc) (b'.take n):=by
   refine hbn.mod (S:=Fh.own { x' with last:=growL x'.last (k'+n),lv:=lv,nv:=nv }) (Mod.setIn ((Mod.of_ext (e2.trans e3)).trans m3 (fun c _ e=>.inr (.inr (.inl (by dsimp only;rw[hpv1];exact e))))) (.inl (.inl rfl))) (fun c hc=>(had c hc).2)
  have o4:OwnG bT 1 (hset g3 ⟨x'.b,1,none⟩ (.slice pa' pn' pc')) (.slice (some ⟨nb,no,none⟩) nn nc) ((growL x'.f.now (k'+n)).map byteV):=by
   have e5:(Fh.f { x' with last:=growL x'.last (k'+n),lv:=lv,nv:=nv }).now=growL x'.f.now (k'+n):=u.fl.ok.now_grow (k'+n)
   have on:=u1.fl.now
   rw[e5]at on
   have hz:=e3.size
   refine hnv1▸on.mod (S:=fun c=>blkG (.slice pa pn pc)=some c\/c=x'.b) (Mod.setIn ((Mod.of_ext (e2.trans e3)).trans m3 (fun c _ e=>.inl e)) (.inl (.inr rfl))) (fun c hc=>?_)
   rintro (e|e)
   ·obtain⟨arr,ha⟩:=u1.fl.ps.tag (b:=c) (by dsimp only;rw[hpv1];exact e)
    exact on.ne hc ha bT_pT rfl
   ·exact on.ne hc u1.fl.cells bT_fT e
  simp(disch:=omega)[d1',d2',dz,hmn]
  refine Hp_copyG (lo:=k') (m:=nn-k') (e:=bT) kR o4 omg hb4 fun g5 o5 m5=>?_
  simp(disch:=omega)[hmn]
  have htk:(b'.take n).take (nn-k')=b'.take n:=List.take_of_length_le (by simp;omega)
  rw[htk]at o5
  have hlb:(b'.take n).length=n:=by simp;omega
  have hz3:=e3.size
  have hpo:Pc.ok ⟨k',b'.take n⟩:=⟨by rw[hlb];omega,by rw[hlb];show k'%512+n<=512;omega⟩
  have up:Upd g1 g5 { x' with last:=growL x'.last (k'+n),lv:=lv,nv:=nv } ({ x' with last:=growL x'.last (k'+n),lv:=lv,nv:=nv,qs:=x'.qs++[(⟨k',b'.take n⟩,.slice wa wn wc)],pv:=.slice pa' pn' pc' }:Fh):=by
   refine piece_upd (k:=k') (b:=b'.take n) (w:=.slice wa wn wc) (pv':=.slice pa' pn' pc') (h2:=g2) (h3:=g3) u1.fl hpo ?_ e2 hbw wf2 ?_ ?_ ?_ ?_ ?_
   ·rw[hlb];show k'+n<=(growL x'.last (k'+n)).length;rw[growL_len];omega
   ·simpa[pcV]using o3
   ·refine (Mod.of_ext e3).trans m3 (fun c _ e=>?_)
    show blkG x'.pv=some c
    rw[hpv1];exact e
   ·intro c hc
    rcases f3 c hc with e|e
    ·left;show blkG x'.pv=some c;rw[hpv1];exact e
    ·right;exact Nat.le_trans hz3 e
   ·show OwnG bT 1 g5 nv _
    have e5:(Fh.f { x' with last:=growL x'.last (k'+n),lv:=lv,nv:=nv }).now=growL x'.f.now (k'+n):=u.fl.ok.now_grow (k'+n)
    rw[e5,hnv1]
    exact o5
   ·refine m5.mono (fun c _ e=>?_)
    show blkG nv=some c
    rw[hnv1];exact e
  have uu:=u3.trans up
  have hadb:∀c,blkV (.slice (some (sub ad n uc)) (b'.length-n) (uc-n))=some c->c<h2.size/\¬x.own c:=fun c hc=>hvl hbe c (by simpa[blkV]using hc)
  have hbd:Bytes g5 (.slice (some (sub ad n uc)) (b'.length-n) (uc-n)) (b'.drop n):=by
   have hp:=hA.part n b'.length uc omg omg huc
   rw[List.take_length]at hp
   have hg:Bytes g (.slice (some (sub ad n uc)) (b'.length-n) (uc-n)) (b'.drop n):=.inr ⟨_,_,by congr 1;simp,by simp;omega,hp⟩
   refine hg.mod (u1.trans up).mod (fun c hc e=>?_)
   have h1:=hadb c hc
   exact (u.own c e).elim h1.2 (fun e=>by omega)
  refine hX (k'+n,b'.drop n,.slice (some (sub ad n uc)) (b'.length-n) (uc-n),kp-1,({ x' with last:=growL x'.last (k'+n),lv:=lv,nv:=nv,qs:=x'.qs++[(⟨k',b'.take n⟩,.slice wa wn wc)],pv:=.slice pa' pn' pc' }:Fh)) _ _ _ _ sM rfl rfl ⟨uu,hbd,fun _=>hadb,?_,?_,?_,?_,?_⟩ ?_
  ·simp;omega
  ·dsimp only;rw[List.length_append,List.length_singleton];omega
  ·simp;omega
  ·simp;omega
  ·dsimp only
   rw[<-heq,hcut,went_cons hgo]
   show Fl.writes _ _=Fl.writes (x'.f.add _) _
   congr 1
   unfold Fh.f Fl.add
   dsimp only
   rw[hlb,List.map_append];rfl
  ·simp;omega
theorem Write_c{p:Nat}{s:St}{l b:List UInt8}{k:Int}{v:Value}(a:StAt h p s)(hl:l.length<9223372036854775808)(hB:Bytes h v b)(hbl:b.length<=268435456)(hv:b≠[]->∀c,blkV v=some c->¬s.foot p c)
 (k0 : -9223372036854775808<=k) (k1:k<9223372036854775808) (hs:s.steps+1<1000000)
 (He:∀h',Ext h h'->wErr s l k b≠0->K (.int .i64 (wErr s l k b)) h')
 (Hw:∀h' A B x x' fv,s.F=A++x::B->x.name=l->0<=k->(b≠[]->k+b.length<=268435456)->x'.name=x.name->x'.f=x.f.writes (went (fateE s.fates) (fateK s.fates) (cutP k.toNat b))->SUpd h h' p s { s.stepped fv with F:=A++x'::B }->K (.int .i64 (fateE s.fates)) h') :
 CallsH Tryz.prog 30 #[ptrV p,str l,.int .i64 k,v] h K ⟨⟩ :=
 Write_c2 a hl hB hbl hv k0 k1 hs He fun h' A B x x' fv a1 a2 a3 a4 a5 a6 _ u=>Hw h' A B x x' fv a1 a2 a3 a4 a5 a6 u
end
section
open Go.Vc Go.Sort
section
variable {α:Type}[Inhabited α]{K:VP}{h0 h:Heap}{b n c:Nat}{val:α->Value}{d:Array α}{f:Value}{cm:α->α->Int}
set_option maxHeartbeats 1000000 in
theorem insS_c{x y:Nat}(hf:LessOk Tryz.prog 185 val cm)(hone:∀x,one (val x)=true)(s:SA 9 b n c val h0 h d)(hn:n<100000)(hxy:x<=y)(hy:y<=n)(H:∀h',SA 9 b n c val h0 h' (insertionSort (ltC cm) d x y)->K (.tuple #[]) h') :
 CallsH Tryz.prog 179 #[slV b n c,.int .i64 x,.int .i64 y] h K ⟨⟩:=by
 refine n179_calls ?_
 unfold n179 slV;try delta vF vG vC vD vJ vV vk vt
 have st:=fun a x K h=>Hp_store (P:=Tryz.prog) (t:=9) (a:=a) (v:=val x) (K:=K) (h:=h) kR (hone x)
 simp(disch:=omega)
 refine loopX1 (α:=Nat×Array α) (fun a=>.int .i64 a.1) (fun a g=>SA 9 b n c val h0 g a.2/\x<a.1/\insOuter (ltC cm) x y a.1 a.2=insertionSort (ltC cm) d x y) (fun a=>y-a.1) (x+1,d) sM ⟨s,by simp,rfl⟩ ?_
 rintro⟨i,d1⟩ g ⟨s1,hi,ht⟩ X hX
 dsimp only at s1 hi ht hX ⊢
 rw[insOuter]at ht
 by_cases hiy:i<y
 ·rw[if_pos hiy]at ht
  simp(disch:=omega)
  refine loopX1 (α:=Nat×Array α) (fun a=>.int .i64 a.1) (fun a g=>SA 9 b n c val h0 g a.2/\a.1<=i/\insInner (ltC cm) x a.1 a.2=insInner (ltC cm) x i d1) (fun a=>a.1) (i,d1) rfl ⟨s1,Nat.le_refl _,rfl⟩ ?_
  rintro⟨j,d2⟩ g2 ⟨s2,hj,ht2⟩ X2 hX2
  dsimp only at s2 hj ht2 hX2 ⊢
  by_cases hjx:x<j
  ·obtain⟨k,rfl⟩:∃k,j=k+1:=⟨j-1,by omega⟩
   have r1:=s2.get (i:=k+1) omg
   have r2:=s2.get (i:=k) omg
   obtain⟨⟨u,wu⟩,wf⟩:=s2.get2 (i:=k+1) (j:=k) omg omg (val d2[k]!)
   rw[insInner]at ht2
   simp(disch:=omega)[r1.1,r2.1]
   refine hf _ _ _ _ ?_
   by_cases hl:cm d2[k+1]! d2[k]! < 0
   ·have hlt:ltC cm d2[k+1]! d2[k]! = true:=decide_eq_true hl
    rw[hlt]at ht2
    simp[hjx]at ht2
    simp(disch:=omega)[hl,r1.1,r1.2,r2.1,r2.2,wu,wf,st]
    exact hX2 (k,swp d2 (k+1) k) _ _ sM ⟨s2.swap omg omg,by dsimp only;omega,ht2⟩ (by dsimp only;omega)
   ·have hlt:ltC cm d2[k+1]! d2[k]! = false:=decide_eq_false hl
    rw[hlt]at ht2
    simp at ht2
    simp(disch:=omega)[hl]
    exact hX (i+1,d2) _ _ sM ⟨s2,by dsimp only;omega,by dsimp only;rw[ht2];exact ht⟩ (by dsimp only;omega)
  ·have ht3:d2=insInner (ltC cm) x i d1:=by
    rw[<-ht2]
    cases j with
    | zero=>rw[insInner]
    | succ j=>rw[insInner,if_neg];simp;omega
   simp(disch:=omega)
   exact hX (i+1,d2) _ _ sM ⟨s2,by dsimp only;omega,by dsimp only;rw[ht3];exact ht⟩ (by dsimp only;omega)
 ·rw[if_neg hiy]at ht
  simp(disch:=omega)
  rw[<-ht]at H
  exact H _ s1
set_option maxHeartbeats 1000000 in
theorem insL_c{x y:Nat}(hf:LessOk Tryz.prog 157 val cm)(hone:∀x,one (val x)=true)(s:SA 2 b n c val h0 h d)(hn:n<100000)(hxy:x<=y)(hy:y<=n)(H:∀h',SA 2 b n c val h0 h' (insertionSort (ltC cm) d x y)->K (.tuple #[]) h') :
 CallsH Tryz.prog 151 #[slV b n c,.int .i64 x,.int .i64 y] h K ⟨⟩:=by
 refine n151_calls ?_
 unfold n151 slV;try delta vF vG vC vD vJ vV vk vt
 have st:=fun a x K h=>Hp_store (P:=Tryz.prog) (t:=2) (a:=a) (v:=val x) (K:=K) (h:=h) kR (hone x)
 simp(disch:=omega)
 refine loopX1 (α:=Nat×Array α) (fun a=>.int .i64 a.1) (fun a g=>SA 2 b n c val h0 g a.2/\x<a.1/\insOuter (ltC cm) x y a.1 a.2=insertionSort (ltC cm) d x y) (fun a=>y-a.1) (x+1,d) sM ⟨s,by simp,rfl⟩ ?_
 rintro⟨i,d1⟩ g ⟨s1,hi,ht⟩ X hX
 dsimp only at s1 hi ht hX ⊢
 rw[insOuter]at ht
 by_cases hiy:i<y
 ·rw[if_pos hiy]at ht
  simp(disch:=omega)
  refine loopX1 (α:=Nat×Array α) (fun a=>.int .i64 a.1) (fun a g=>SA 2 b n c val h0 g a.2/\a.1<=i/\insInner (ltC cm) x a.1 a.2=insInner (ltC cm) x i d1) (fun a=>a.1) (i,d1) rfl ⟨s1,Nat.le_refl _,rfl⟩ ?_
  rintro⟨j,d2⟩ g2 ⟨s2,hj,ht2⟩ X2 hX2
  dsimp only at s2 hj ht2 hX2 ⊢
  by_cases hjx:x<j
  ·obtain⟨k,rfl⟩:∃k,j=k+1:=⟨j-1,by omega⟩
   have r1:=s2.get (i:=k+1) omg
   have r2:=s2.get (i:=k) omg
   obtain⟨⟨u,wu⟩,wf⟩:=s2.get2 (i:=k+1) (j:=k) omg omg (val d2[k]!)
   rw[insInner]at ht2
   simp(disch:=omega)[r1.1,r2.1]
   refine hf _ _ _ _ ?_
   by_cases hl:cm d2[k+1]! d2[k]! < 0
   ·have hlt:ltC cm d2[k+1]! d2[k]! = true:=decide_eq_true hl
    rw[hlt]at ht2
    simp[hjx]at ht2
    simp(disch:=omega)[hl,r1.1,r1.2,r2.1,r2.2,wu,wf,st]
    exact hX2 (k,swp d2 (k+1) k) _ _ sM ⟨s2.swap omg omg,by dsimp only;omega,ht2⟩ (by dsimp only;omega)
   ·have hlt:ltC cm d2[k+1]! d2[k]! = false:=decide_eq_false hl
    rw[hlt]at ht2
    simp at ht2
    simp(disch:=omega)[hl]
    exact hX (i+1,d2) _ _ sM ⟨s2,by dsimp only;omega,by dsimp only;rw[ht2];exact ht⟩ (by dsimp only;omega)
  ·have ht3:d2=insInner (ltC cm) x i d1:=by
    rw[<-ht2]
    cases j with
    | zero=>rw[insInner]
    | succ j=>rw[insInner,if_neg];simp;omega
   simp(disch:=omega)
   exact hX (i+1,d2) _ _ sM ⟨s2,by dsimp only;omega,by dsimp only;rw[ht3];exact ht⟩ (by dsimp only;omega)
 ·rw[if_neg hiy]at ht
  simp(disch:=omega)
  rw[<-ht]at H
  exact H _ s1
end
end
section
open Go.Vc Go.Sort
section
variable {α:Type}[Inhabited α]{K:VP}{h0 h:Heap}{b n c:Nat}{val:α->Value}{d:Array α}{f:Value}{cm:α->α->Int}
set_option maxHeartbeats 1000000 in
theorem siftS_c{lo hi first:Nat}(hf:LessOk Tryz.prog 185 val cm)(hone:∀x,one (val x)=true)(s:SA 9 b n c val h0 h d)(hn:n<100000)(hh:hi<=n)(hfi:first+hi<=n)(H:∀h',SA 9 b n c val h0 h' (siftDown (ltC cm) hi first lo d)->K (.tuple #[]) h')(hlo:lo<100000) :
 CallsH Tryz.prog 196 #[slV b n c,.int .i64 lo,.int .i64 hi,.int .i64 first] h K ⟨⟩:=by
 refine n196_calls ?_
 unfold n196 slV;try delta vF vG vC vD vJ vV vk vt
 have st:=fun a x K h=>Hp_store (P:=Tryz.prog) (t:=9) (a:=a) (v:=val x) (K:=K) (h:=h) kR (hone x)
 refine loopX1 (α:=Nat×Array α) (fun a=>.int .i64 a.1) (fun a g=>SA 9 b n c val h0 g a.2/\a.1<100000/\siftDown (ltC cm) hi first a.1 a.2=siftDown (ltC cm) hi first lo d) (fun a=>hi-a.1) (lo,d) rfl ⟨s,hlo,rfl⟩ ?_
 rintro⟨r,d1⟩ g ⟨s1,hr,ht⟩ X hX
 dsimp only at s1 hr ht hX ⊢
 rw[siftDown]at ht
 obtain⟨m,hm⟩:∃m,m=2*r+1:=⟨_,rfl⟩
 have e1:2*(r:Int)+1=(m:Int):=by omega
 by_cases hc:2*r+1>=hi
 ·rw[dif_pos hc]at ht
  simp(disch:=omega)[e1]
  rw[<-ht]at H
  exact H _ s1
 ·rw[dif_neg hc]at ht
  simp(disch:=omega)[e1]
  have rr:=s1.get (i:=first+r) omg
  have rm:=s1.get (i:=first+m) omg
  refine JoinN_in1 (fun w g'=>g'=g/\∃ch:Nat,w = .int .i64 ch/\ch<hi/\r<ch/\(if (!ltC cm d1[first+r]! d1[first+ch]!)=true then d1 else siftDown (ltC cm) hi first ch (swp d1 (first+r) (first+ch)))=siftDown (ltC cm) hi first lo d) (fun k4 hk4=>?_) (fun w g' hw=>?_)
  ·by_cases h2:m+1<hi
   ·have rm1:=s1.get (i:=first+m+1) omg
    have e2:((first:Int)+(m:Int)+1).toNat=first+m+1:=by omega
    simp(disch:=omega)[rm.1,rm1.1,e2]
    refine hf _ _ _ _ ?_
    by_cases hl:cm d1[first+m]! d1[first+m+1]! < 0
    ·have hlt:ltC cm d1[first+m]! d1[first+m+1]! = true:=decide_eq_true hl
     simp(disch:=omega)[hl]
     refine hk4 _ _ ⟨rfl,m+1,by simp,by omega,by omega,?_⟩
     rw[if_pos (by rw[<-hm,hlt];simp;omega)]at ht
     have:2*r+2=m+1:=by omega
     rw[this,dif_pos omg]at ht
     exact ht
    ·have hlt:ltC cm d1[first+m]! d1[first+m+1]! = false:=decide_eq_false hl
     simp(disch:=omega)[hl]
     refine hk4 _ _ ⟨rfl,m,rfl,by omega,by omega,?_⟩
     rw[if_neg (by rw[<-hm,hlt];simp),<-hm]at ht
     exact ht
   ·simp(disch:=omega)
    refine hk4 _ _ ⟨rfl,m,rfl,by omega,by omega,?_⟩
    rw[if_neg (by simp;omega),<-hm]at ht
    exact ht
  ·obtain⟨rfl,ch,rfl,hch,hrc,ht2⟩:=hw
   have rc:=s1.get (i:=first+ch) omg
   obtain⟨⟨u,wu⟩,wf⟩:=s1.get2 (i:=first+r) (j:=first+ch) omg omg (val d1[first+ch]!)
   simp(disch:=omega)[rr.1,rc.1]
   refine hf _ _ _ _ ?_
   by_cases hl:cm d1[first+r]! d1[first+ch]! < 0
   ·have hlt:ltC cm d1[first+r]! d1[first+ch]! = true:=decide_eq_true hl
    rw[hlt]at ht2
    simp at ht2
    simp(disch:=omega)[hl,rr.1,rr.2,rc.1,rc.2,wu,wf,st]
    exact hX (ch,swp d1 (first+r) (first+ch)) _ _ rfl ⟨s1.swap omg omg,by dsimp only;omega,ht2⟩ (by dsimp only;omega)
   ·have hlt:ltC cm d1[first+r]! d1[first+ch]! = false:=decide_eq_false hl
    rw[hlt]at ht2
    simp at ht2
    simp(disch:=omega)[hl]
    rw[<-ht2]at H
    exact H _ s1
set_option maxHeartbeats 1000000 in
theorem siftL_c{lo hi first:Nat}(hf:LessOk Tryz.prog 157 val cm)(hone:∀x,one (val x)=true)(s:SA 2 b n c val h0 h d)(hn:n<100000)(hh:hi<=n)(hfi:first+hi<=n)(H:∀h',SA 2 b n c val h0 h' (siftDown (ltC cm) hi first lo d)->K (.tuple #[]) h')(hlo:lo<100000) :
 CallsH Tryz.prog 173 #[slV b n c,.int .i64 lo,.int .i64 hi,.int .i64 first] h K ⟨⟩:=by
 refine n173_calls ?_
 unfold n173 slV;try delta vF vG vC vD vJ vV vk vt
 have st:=fun a x K h=>Hp_store (P:=Tryz.prog) (t:=2) (a:=a) (v:=val x) (K:=K) (h:=h) kR (hone x)
 refine loopX1 (α:=Nat×Array α) (fun a=>.int .i64 a.1) (fun a g=>SA 2 b n c val h0 g a.2/\a.1<100000/\siftDown (ltC cm) hi first a.1 a.2=siftDown (ltC cm) hi first lo d) (fun a=>hi-a.1) (lo,d) rfl ⟨s,hlo,rfl⟩ ?_
 rintro⟨r,d1⟩ g ⟨s1,hr,ht⟩ X hX
 dsimp only at s1 hr ht hX ⊢
 rw[siftDown]at ht
 obtain⟨m,hm⟩:∃m,m=2*r+1:=⟨_,rfl⟩
 have e1:2*(r:Int)+1=(m:Int):=by omega
 by_cases hc:2*r+1>=hi
 ·rw[dif_pos hc]at ht
  simp(disch:=omega)[e1]
  rw[<-ht]at H
  exact H _ s1
 ·rw[dif_neg hc]at ht
  simp(disch:=omega)[e1]
  have rr:=s1.get (i:=first+r) omg
  have rm:=s1.get (i:=first+m) omg
  refine JoinN_in1 (fun w g'=>g'=g/\∃ch:Nat,w = .int .i64 ch/\ch<hi/\r<ch/\(if (!ltC cm d1[first+r]! d1[first+ch]!)=true then d1 else siftDown (ltC cm) hi first ch (swp d1 (first+r) (first+ch)))=siftDown (ltC cm) hi first lo d) (fun k4 hk4=>?_) (fun w g' hw=>?_)
  ·by_cases h2:m+1<hi
   ·have rm1:=s1.get (i:=first+m+1) omg
    have e2:((first:Int)+(m:Int)+1).toNat=first+m+1:=by omega
    simp(disch:=omega)[rm.1,rm1.1,e2]
    refine hf _ _ _ _ ?_
    by_cases hl:cm d1[first+m]! d1[first+m+1]! < 0
    ·have hlt:ltC cm d1[first+m]! d1[first+m+1]! = true:=decide_eq_true hl
     simp(disch:=omega)[hl]
     refine hk4 _ _ ⟨rfl,m+1,by simp,by omega,by omega,?_⟩
     rw[if_pos (by rw[<-hm,hlt];simp;omega)]at ht
     have:2*r+2=m+1:=by omega
     rw[this,dif_pos omg]at ht
     exact ht
    ·have hlt:ltC cm d1[first+m]! d1[first+m+1]! = false:=decide_eq_false hl
     simp(disch:=omega)[hl]
     refine hk4 _ _ ⟨rfl,m,rfl,by omega,by omega,?_⟩
     rw[if_neg (by rw[<-hm,hlt];simp),<-hm]at ht
     exact ht
   ·simp(disch:=omega)
    refine hk4 _ _ ⟨rfl,m,rfl,by omega,by omega,?_⟩
    rw[if_neg (by simp;omega),<-hm]at ht
    exact ht
  ·obtain⟨rfl,ch,rfl,hch,hrc,ht2⟩:=hw
   have rc:=s1.get (i:=first+ch) omg
   obtain⟨⟨u,wu⟩,wf⟩:=s1.get2 (i:=first+r) (j:=first+ch) omg omg (val d1[first+ch]!)
   simp(disch:=omega)[rr.1,rc.1]
   refine hf _ _ _ _ ?_
   by_cases hl:cm d1[first+r]! d1[first+ch]! < 0
   ·have hlt:ltC cm d1[first+r]! d1[first+ch]! = true:=decide_eq_true hl
    rw[hlt]at ht2
    simp at ht2
    simp(disch:=omega)[hl,rr.1,rr.2,rc.1,rc.2,wu,wf,st]
    exact hX (ch,swp d1 (first+r) (first+ch)) _ _ rfl ⟨s1.swap omg omg,by dsimp only;omega,ht2⟩ (by dsimp only;omega)
   ·have hlt:ltC cm d1[first+r]! d1[first+ch]! = false:=decide_eq_false hl
    rw[hlt]at ht2
    simp at ht2
    simp(disch:=omega)[hl]
    rw[<-ht2]at H
    exact H _ s1
end
end
section
open Go.Vc Go.Sort
section
variable {α:Type}[Inhabited α]{K:VP}{h0 h:Heap}{b n c:Nat}{val:α->Value}{d:Array α}{f:Value}{cm:α->α->Int}
set_option maxHeartbeats 1000000 in
theorem heapS_c{x y:Nat}(hf:LessOk Tryz.prog 185 val cm)(hone:∀x,one (val x)=true)(s:SA 9 b n c val h0 h d)(hn:n<100000)(hxy:x<y)(hy:y<=n)(H:∀h',SA 9 b n c val h0 h' (heapSort (ltC cm) d x y)->K (.tuple #[]) h') :
 CallsH Tryz.prog 180 #[slV b n c,.int .i64 x,.int .i64 y] h K ⟨⟩:=by
 refine n180_calls ?_
 unfold n180;try delta vF vG vC vD vJ vV vk vt
 have st:=fun a x K h=>Hp_store (P:=Tryz.prog) (t:=9) (a:=a) (v:=val x) (K:=K) (h:=h) kR (hone x)
 obtain⟨m,rfl⟩:∃m,y=x+m:=⟨y-x,by omega⟩
 unfold heapSort at H
 rw[Nat.add_sub_cancel_left]at H
 have em:((x+m:Nat):Int)-(x:Int)=(m:Int):=by omega
 simp(disch:=omega) only[em,Hp_sub_i64,Hp_quo_i64,ValI_iff]
 refine loopX1 (α:=Nat×Array α) (fun a=>.int .i64 ((a.1:Int)-1)) (fun a g=>SA 9 b n c val h0 g a.2/\a.1<=m/\heapBuild (ltC cm) m x a.1 a.2=heapBuild (ltC cm) m x ((m-1)/2+1) d) (fun a=>a.1) ((m-1)/2+1,d) (by congr 1;omega) ⟨s,by dsimp only;omega,rfl⟩ ?_
 rintro⟨k,d1⟩ g ⟨s1,hk,ht⟩ X hX
 dsimp only at s1 hk ht hX ⊢
 cases k with
 | zero =>
  rw[heapBuild]at ht
  rw[<-ht]at H
  simp(disch:=omega)
  refine loopX1 (α:=Nat×Array α) (fun a=>.int .i64 ((a.1:Int)-1)) (fun a g=>SA 9 b n c val h0 g a.2/\a.1<=m/\heapPop (ltC cm) x a.1 a.2=heapPop (ltC cm) x m d1) (fun a=>a.1) (m,d1) (by congr 1) ⟨s1,Nat.le_refl _,rfl⟩ ?_
  rintro⟨k,d2⟩ g ⟨s2,hk,ht⟩ X hX
  dsimp only at s2 hk ht hX ⊢
  cases k with
  | zero =>
   rw[heapPop]at ht
   rw[<-ht]at H
   simp(disch:=omega)
   exact H _ s2
  | succ k =>
   rw[heapPop]at ht
   have wi:=s2.get (i:=x) omg
   have wj:=s2.get (i:=x+k) omg
   obtain⟨⟨wu,wwu⟩,wwf⟩:=s2.get2 (i:=x) (j:=x+k) omg omg (val d2[x+k]!)
   unfold slV
   simp(disch:=omega)[wi.1,wi.2,wj.1,wj.2,wwu,wwf,st]
   refine siftS_c (lo:=0) (hi:=k) (first:=x) hf hone (s2.swap omg omg) hn omg omg (fun g' s3=>?_) omg
   simp(disch:=omega)
   exact hX (k,_) _ _ rfl ⟨s3,by dsimp only;omega,ht⟩ (by dsimp only;omega)
 | succ k =>
  rw[heapBuild]at ht
  simp(disch:=omega)
  refine siftS_c (lo:=k) (hi:=m) (first:=x) hf hone s1 hn omg omg (fun g' s3=>?_) omg
  simp(disch:=omega)
  exact hX (k,_) _ _ rfl ⟨s3,by dsimp only;omega,ht⟩ (by dsimp only;omega)
set_option maxHeartbeats 1000000 in
theorem heapL_c{x y:Nat}(hf:LessOk Tryz.prog 157 val cm)(hone:∀x,one (val x)=true)(s:SA 2 b n c val h0 h d)(hn:n<100000)(hxy:x<y)(hy:y<=n)(H:∀h',SA 2 b n c val h0 h' (heapSort (ltC cm) d x y)->K (.tuple #[]) h') :
 CallsH Tryz.prog 152 #[slV b n c,.int .i64 x,.int .i64 y] h K ⟨⟩:=by
 refine n152_calls ?_
 unfold n152;try delta vF vG vC vD vJ vV vk vt
 have st:=fun a x K h=>Hp_store (P:=Tryz.prog) (t:=2) (a:=a) (v:=val x) (K:=K) (h:=h) kR (hone x)
 obtain⟨m,rfl⟩:∃m,y=x+m:=⟨y-x,by omega⟩
 unfold heapSort at H
 rw[Nat.add_sub_cancel_left]at H
 have em:((x+m:Nat):Int)-(x:Int)=(m:Int):=by omega
 simp(disch:=omega) only[em,Hp_sub_i64,Hp_quo_i64,ValI_iff]
 refine loopX1 (α:=Nat×Array α) (fun a=>.int .i64 ((a.1:Int)-1)) (fun a g=>SA 2 b n c val h0 g a.2/\a.1<=m/\heapBuild (ltC cm) m x a.1 a.2=heapBuild (ltC cm) m x ((m-1)/2+1) d) (fun a=>a.1) ((m-1)/2+1,d) (by congr 1;omega) ⟨s,by dsimp only;omega,rfl⟩ ?_
 rintro⟨k,d1⟩ g ⟨s1,hk,ht⟩ X hX
 dsimp only at s1 hk ht hX ⊢
 cases k with
 | zero =>
  rw[heapBuild]at ht
  rw[<-ht]at H
  simp(disch:=omega)
  refine loopX1 (α:=Nat×Array α) (fun a=>.int .i64 ((a.1:Int)-1)) (fun a g=>SA 2 b n c val h0 g a.2/\a.1<=m/\heapPop (ltC cm) x a.1 a.2=heapPop (ltC cm) x m d1) (fun a=>a.1) (m,d1) (by congr 1) ⟨s1,Nat.le_refl _,rfl⟩ ?_
  rintro⟨k,d2⟩ g ⟨s2,hk,ht⟩ X hX
  dsimp only at s2 hk ht hX ⊢
  cases k with
  | zero =>
   rw[heapPop]at ht
   rw[<-ht]at H
   simp(disch:=omega)
   exact H _ s2
  | succ k =>
   rw[heapPop]at ht
   have wi:=s2.get (i:=x) omg
   have wj:=s2.get (i:=x+k) omg
   obtain⟨⟨wu,wwu⟩,wwf⟩:=s2.get2 (i:=x) (j:=x+k) omg omg (val d2[x+k]!)
   unfold slV
   simp(disch:=omega)[wi.1,wi.2,wj.1,wj.2,wwu,wwf,st]
   refine siftL_c (lo:=0) (hi:=k) (first:=x) hf hone (s2.swap omg omg) hn omg omg (fun g' s3=>?_) omg
   simp(disch:=omega)
   exact hX (k,_) _ _ rfl ⟨s3,by dsimp only;omega,ht⟩ (by dsimp only;omega)
 | succ k =>
  rw[heapBuild]at ht
  simp(disch:=omega)
  refine siftL_c (lo:=k) (hi:=m) (first:=x) hf hone s1 hn omg omg (fun g' s3=>?_) omg
  simp(disch:=omega)
  exact hX (k,_) _ _ rfl ⟨s3,by dsimp only;omega,ht⟩ (by dsimp only;omega)
set_option maxHeartbeats 1000000 in
theorem revS_c{x y:Nat}(hf:LessOk Tryz.prog 185 val cm)(hone:∀x,one (val x)=true)(s:SA 9 b n c val h0 h d)(hn:n<100000)(hxy:x<y)(hy:y<=n)(H:∀h',SA 9 b n c val h0 h' (reverseRange d x y)->K (.tuple #[]) h') :
 CallsH Tryz.prog 183 #[slV b n c,.int .i64 x,.int .i64 y] h K ⟨⟩:=by
 refine n183_calls ?_
 unfold n183;try delta vF vG vC vD vJ vV vk vt
 have st:=fun a x K h=>Hp_store (P:=Tryz.prog) (t:=9) (a:=a) (v:=val x) (K:=K) (h:=h) kR (hone x)
 unfold reverseRange at H
 simp(disch:=omega)
 refine loopX2 (α:=Nat×Nat×Array α) (fun a=>.int .i64 a.1) (fun a=>.int .i64 a.2.1) (fun a g=>SA 9 b n c val h0 g a.2.2/\a.2.1<n/\a.1<=n/\reverseLoop a.1 a.2.1 a.2.2=reverseLoop x (y-1) d) (fun a=>a.2.1-a.1) (x,y-1,d) ⟨rfl,by dsimp only;congr 1;omega⟩ ⟨s,by dsimp only;omega,by dsimp only;omega,rfl⟩ ?_
 rintro⟨i,j,d1⟩ g ⟨s1,hj,hi,ht⟩ X hX
 dsimp only at s1 hj hi ht hX ⊢
 rw[reverseLoop]at ht
 by_cases hij:i<j
 ·rw[if_pos hij]at ht
  obtain⟨k,rfl⟩:∃k,j=k+1:=⟨j-1,by omega⟩
  have wi:=s1.get (i:=i) omg
  have wj:=s1.get (i:=k+1) omg
  obtain⟨⟨wu,wwu⟩,wwf⟩:=s1.get2 (i:=i) (j:=k+1) omg omg (val d1[k+1]!)
  unfold slV
  simp(disch:=omega)[wi.1,wi.2,wj.1,wj.2,wwu,wwf,st]
  exact hX (i+1,k,_) _ _ _ sM sM ⟨s1.swap omg omg,by dsimp only;omega,by dsimp only;omega,ht⟩ (by dsimp only;omega)
 ·rw[if_neg hij]at ht
  simp(disch:=omega)
  rw[<-ht]at H
  exact H _ s1
set_option maxHeartbeats 1000000 in
theorem revL_c{x y:Nat}(hf:LessOk Tryz.prog 157 val cm)(hone:∀x,one (val x)=true)(s:SA 2 b n c val h0 h d)(hn:n<100000)(hxy:x<y)(hy:y<=n)(H:∀h',SA 2 b n c val h0 h' (reverseRange d x y)->K (.tuple #[]) h') :
 CallsH Tryz.prog 155 #[slV b n c,.int .i64 x,.int .i64 y] h K ⟨⟩:=by
 refine n155_calls ?_
 unfold n155;try delta vF vG vC vD vJ vV vk vt
 have st:=fun a x K h=>Hp_store (P:=Tryz.prog) (t:=2) (a:=a) (v:=val x) (K:=K) (h:=h) kR (hone x)
 unfold reverseRange at H
 simp(disch:=omega)
 refine loopX2 (α:=Nat×Nat×Array α) (fun a=>.int .i64 a.1) (fun a=>.int .i64 a.2.1) (fun a g=>SA 2 b n c val h0 g a.2.2/\a.2.1<n/\a.1<=n/\reverseLoop a.1 a.2.1 a.2.2=reverseLoop x (y-1) d) (fun a=>a.2.1-a.1) (x,y-1,d) ⟨rfl,by dsimp only;congr 1;omega⟩ ⟨s,by dsimp only;omega,by dsimp only;omega,rfl⟩ ?_
 rintro⟨i,j,d1⟩ g ⟨s1,hj,hi,ht⟩ X hX
 dsimp only at s1 hj hi ht hX ⊢
 rw[reverseLoop]at ht
 by_cases hij:i<j
 ·rw[if_pos hij]at ht
  obtain⟨k,rfl⟩:∃k,j=k+1:=⟨j-1,by omega⟩
  have wi:=s1.get (i:=i) omg
  have wj:=s1.get (i:=k+1) omg
  obtain⟨⟨wu,wwu⟩,wwf⟩:=s1.get2 (i:=i) (j:=k+1) omg omg (val d1[k+1]!)
  unfold slV
  simp(disch:=omega)[wi.1,wi.2,wj.1,wj.2,wwu,wwf,st]
  exact hX (i+1,k,_) _ _ _ sM sM ⟨s1.swap omg omg,by dsimp only;omega,by dsimp only;omega,ht⟩ (by dsimp only;omega)
 ·rw[if_neg hij]at ht
  simp(disch:=omega)
  rw[<-ht]at H
  exact H _ s1
end
end
end Go.Proofs.YtdccfkffabngjaaGreat

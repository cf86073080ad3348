/- The document's store of one file,with fates: its file is found; a step. The document's store of one file: a step. The document's store of one file: flushed. The document's store of one file: written. The document's store of one file: read; made,removed. The document's store of one file: made,removed,sized; a new store. The document's store of one file: a new one,of a size. -/
import Derived.Test.YtcbbdnaelimpfaaGreatRcaA
import Derived.Test.YtcbbdnaelimpfaaGreatRfsA
set_option linter.unusedSimpArgs false
set_option linter.unusedVariables false
namespace Go.Proofs.YtcbbdnaelimpfaaGreat
open Go.Vc
variable {K:VP} {h:Heap}

structure Rm where
 sv:Value
 fv:Value
 pv:Value
def fRow (m:Rm) (p:Ps):List Value:=match p.f with|none=>[]|some f=>[str fN,str f.last,m.pv]
structure RvM (h:Heap) (q:Nat) (m:Rm) (p:Ps):Prop where
 cells:h[q]? = some (.cells #[m.sv,m.fv,.int .i64 p.steps] rsT)
 fs:OwnG rfT 3 h m.sv (fRow m p)
 ps:∀f,p.f=some f→OwnG rpT 2 h m.pv (f.ps.flatMap rpV)
 fat:OwnG aT 2 h m.fv (p.fates.flatMap faV)
 name:∀f,p.f=some f→f.name=fN
 ok:POk p
 stp:p.steps<1000000
 pfew:∀f,p.f=some f→f.ps.length≤p.steps*1000000
 ffew:p.fates.length≤1000
 fok:∀f∈p.fates,i64 f.1∧i64 f.2
 pn:p.f=none→blkG m.pv=none
def RvF (q:Nat) (m:Rm) (b:Nat):Prop:=b=q∨blkG m.sv=some b∨blkG m.fv=some b∨blkG m.pv=some b
structure RvU (h h':Heap) (q:Nat) (m m':Rm) (p':Ps):Prop where
 at_:RvM h' q m' p'
 mod:Mod (RvF q m) h h'
 foot:∀b,RvF q m' b→RvF q m b∨h.size≤b
theorem RvM.mod {S:Nat→Prop} {h':Heap} {q:Nat} {m:Rm} {p:Ps} (a:RvM h q m p) (d:Mod S h h') (hS:∀b,RvF q m b→¬S b):RvM h' q m p :=
 ⟨(d.block _ (get_some_lt a.cells) (hS _ (.inl rfl))).trans a.cells,a.fs.mod d (fun b hb=>hS b (.inr (.inl hb))),fun f hf=>(a.ps f hf).mod d (fun b hb=>hS b (.inr (.inr (.inr hb)))),a.fat.mod d (fun b hb=>hS b (.inr (.inr (.inl hb)))),a.name,a.ok,a.stp,a.pfew,a.ffew,a.fok,a.pn⟩
theorem RvM.ext {h':Heap} {q:Nat} {m:Rm} {p:Ps} (a:RvM h q m p) (e:Ext h h'):RvM h' q m p:=a.mod (S:=fun _=>False) (.of_ext e) (fun _ _ x=>x)
theorem RvU.refl {q:Nat} {m:Rm} {p:Ps} (a:RvM h q m p):RvU h h q m m p:=⟨a,.refl _ _,fun _ h => .inl h⟩
theorem RvU.trans {h1 h2:Heap} {q:Nat} {m m1 m2:Rm} {p1 p2:Ps} (u:RvU h h1 q m m1 p1) (v:RvU h1 h2 q m1 m2 p2):RvU h h2 q m m2 p2:=by
 have hs:=u.mod.size
 refine ⟨v.at_,u.mod.trans v.mod (fun b hb hy=>(u.foot b hy).resolve_right omg),fun b hb => ?_⟩
 rcases v.foot b hb with h3|h3
 ·exact u.foot b h3
 ·exact .inr omg
theorem rv_ne:rsT≠rfT∧rsT≠aT∧rsT≠rpT∧rfT≠aT∧rfT≠rpT∧aT≠rpT:=by decide
theorem RvM.row {q:Nat} {m:Rm} {p:Ps} {f:Fl} (a:RvM h q m p) (hf:p.f=some f):∃b o c,m.sv = .slice (some ⟨b,o,none⟩) 1 c∧1≤c∧b<h.size∧hcell h ⟨b,o,none⟩=some (str fN)∧hcell h ⟨b,o+1,none⟩=some (str f.last)∧hcell h ⟨b,o+2,none⟩=some m.pv∧(∀k,k<3→hfrozen h ⟨b,o+k,none⟩=false)∧OwnG rfT 3 h (.slice (some ⟨b,o,none⟩) 1 c) [str fN,str f.last,m.pv]:=by
 have o1:=a.fs
 unfold fRow at o1
 rw [hf] at o1
 dsimp only at o1
 obtain ⟨fa,fn,fc,hv,hl,hc,hne⟩:=o1.form
 obtain rfl:fn=1:=by simp at hl; omega
 obtain ⟨b,o,rfl⟩:=hne sM
 have hlt:=o1
 rw [hv] at o1
 have c0:=o1.cell (i:=0) sM
 have c1:=o1.cell (i:=1) sM
 have c2:=o1.cell (i:=2) sM
 rw [elt_mk] at c0 c1 c2
 refine ⟨b,o,fc,hv,hc,?_,c0.1,c1.1,c2.1,fun k hk => ?_,o1⟩
 ·obtain ⟨k,rfl⟩:∃k,fc=k+1:=⟨fc-1,by omega⟩
  exact o1.lt rfl
 ·have:k=0∨k=1∨k=2:=by omega
  rcases this with rfl|rfl|rfl
  ·exact c0.2
  ·exact c1.2
  ·exact c2.2
theorem RvM.norow {q:Nat} {m:Rm} {p:Ps} (a:RvM h q m p) (hf:p.f=none):∃x c,m.sv = .slice x 0 c:=by
 have o1:=a.fs
 unfold fRow at o1
 rw [hf] at o1
 dsimp only at o1
 obtain ⟨fa,fn,fc,hv,hl,hc,hne⟩:=o1.form
 obtain rfl:fn=0:=by simp at hl; omega
 exact ⟨fa,fc,hv⟩
set_option maxHeartbeats 1000000 in
theorem rfindF_c {q:Nat} {m:Rm} {p:Ps} (a:RvM h q m p) (H0:p.f=none→K (.tuple #[.int .i64 0,.int .i64 7]) h) (H1:∀f,p.f=some f→K (.tuple #[.int .i64 0,.int .i64 0]) h):CallsH Tryz.prog 55 #[ptrV q,str fN] h K ⟨⟩:=by
 refine n55_calls ?_
 unfold n55 ptrV; try delta vF vG vC vD vJ vV vk vt
 have d0:hcell h ⟨q,0,none⟩=some m.sv:=cellOf a.cells rfl
 refine Named_c dM ?_
 rw [decide_eq_true okN_f]
 simp (disch:=omega)
 cases hf:p.f with
 | none =>
  obtain ⟨x,c,hsv⟩:=a.norow hf
  rw [hsv] at d0
  refine loopX1 (α:=Nat) (fun i => .int .i64 i) (fun i g=>i=0∧g=h) (fun i=>0) 0 rfl ⟨rfl,rfl⟩ ?_
  rintro i g ⟨rfl,rfl⟩ X hX
  simp (disch:=omega) [d0]
  exact H0 hf
 | some f =>
  obtain ⟨b,o,c,hsv,hc,-,c0,c1,c2,-,-⟩:=a.row hf
  rw [hsv] at d0
  refine loopX1 (α:=Nat) (fun i => .int .i64 i) (fun i g=>i=0∧g=h) (fun i=>0) 0 rfl ⟨rfl,rfl⟩ ?_
  rintro i g ⟨rfl,rfl⟩ X hX
  simp (disch:=omega) [d0,c0]
  exact H1 f hf
end Go.Proofs.YtcbbdnaelimpfaaGreat
set_option linter.unusedSimpArgs false
set_option linter.unusedVariables false
namespace Go.Proofs.YtcbbdnaelimpfaaGreat
open Go.Vc
variable {K:VP} {h:Heap}

theorem faV_len2 (l:List (Int×Int)):(l.flatMap faV).length=l.length*2:=by
 induction l with|nil=>rfl|cons f l ih=>rw [List.flatMap_cons,List.length_append,ih]; simp [faV]; omega
def Ps.stepped (p:Ps):Ps:={ p with fates:=p.fates.tail,steps:=p.steps+1 }
theorem RvM.cell {q:Nat} {m m':Rm} {p p':Ps} {g:Heap} {i:Nat} {v:Value} (a:RvM h q m p) (e:Ext h g) (hc : #[m'.sv,m'.fv,.int .i64 p'.steps]=(#[m.sv,m.fv,.int .i64 p.steps]:Array Value).setIfInBounds i v) (hf:OwnG rfT 3 g m'.sv (fRow m' p')) (hp:∀f,p'.f=some f→OwnG rpT 2 g m'.pv (f.ps.flatMap rpV)) (ha:OwnG aT 2 g m'.fv (p'.fates.flatMap faV))
 (hn:∀f,p'.f=some f→f.name=fN) (ok:POk p') (stp:p'.steps<1000000) (pf:∀f,p'.f=some f→f.ps.length≤p'.steps*1000000) (ff:p'.fates.length≤1000) (fo:∀f∈p'.fates,i64 f.1∧i64 f.2) (pn:p'.f=none→blkG m'.pv=none) (ft:∀b,RvF q m' b→RvF q m b∨h.size≤b):RvU h (hset g ⟨q,i,none⟩ v) q m m' p':=by
 have m1:=Mod.set g ⟨q,i,none⟩ v
 obtain ⟨n1,n2,n3,-⟩:=rv_ne
 have ag:=(a.ext e).cells
 have hlt:=get_some_lt a.cells
 refine ⟨⟨?_,hf.mod m1 (fun b hb e2=>hf.ne hb ag n1.symm e2),fun f hf'=>(hp f hf').mod m1 (fun b hb e2=>(hp f hf').ne hb ag n3.symm e2),ha.mod m1 (fun b hb e2=>ha.ne hb ag n2.symm e2),hn,ok,stp,pf,ff,fo,pn⟩,Mod.setIn (.of_ext e) (.inl (.inl rfl)),ft⟩
 rw [hc]; exact obj_set ag
set_option maxHeartbeats 4000000 in
theorem rstepF_c {q:Nat} {m:Rm} {p:Ps} (a:RvM h q m p) (hs:p.steps+1<1000000)
 (H:∀h' fv' (kv:Int),RvU h h' q m { m with fv:=fv' } p.stepped→(fateE p.fates≠0→kv=fateK p.fates)→0≤kv→kv<9223372036854775808→K (.tuple #[.int .i64 (fateE p.fates),.int .i64 kv]) h'):CallsH Tryz.prog 56 #[ptrV q] h K ⟨⟩:=by
 refine n56_calls ?_
 unfold n56 ptrV; try delta vF vG vC vD vJ vV vk vt
 have d2:hcell h ⟨q,2,none⟩=some (.int .i64 p.steps):=cellOf a.cells rfl
 have f2:hfrozen h ⟨q,2,none⟩=false:=frzOf a.cells
 have f1:hfrozen h ⟨q,1,none⟩=false:=frzOf a.cells
 have d1:hcell h ⟨q,1,none⟩=some m.fv:=cellOf a.cells rfl
 have hql:=get_some_lt a.cells
 obtain ⟨fa,fn,fc,hfv,hfl,hfc,hfne⟩:=a.fat.form
 rw [faV_len2] at hfl
 obtain rfl:fn=p.fates.length:=by omega
 have hff:=a.ffew
 rw [hfv] at d1
 have hst:((p.steps:Nat):Int)+1=((p.steps+1:Nat):Int):=by omega
 have u1:RvU h (hset h ⟨q,2,none⟩ (.int .i64 ((p.steps+1:Nat):Int))) q m m { p with steps:=p.steps+1 } :=
  a.cell (m':=m) (p':={ p with steps:=p.steps+1 }) (.refl _) rfl a.fs a.ps a.fat a.name a.ok hs (fun f hf=>Nat.le_trans (a.pfew f hf) (Nat.mul_le_mul_right _ (Nat.le_succ _))) hff a.fok a.pn (fun _ h => .inl h)
 cases hft:p.fates with
 | nil =>
  rw [hft] at d1
  simp (disch:=omega) [d1,d2,f2]
  rw [hst]
  have hE:p.stepped={ p with steps:=p.steps+1 }:=by unfold Ps.stepped; rw [hft]; cases p; simp at hft; subst hft; rfl
  have:=H _ m.fv 0 (by rw [hE]; exact u1) (fun e=>absurd (by rw [hft]; rfl) e) dM dM
  rw [hft] at this
  exact this
 | cons x t =>
  obtain ⟨k,n⟩:=x
  rw [hft] at d1 hfc hff
  simp only [List.length_cons] at hfc hff
  obtain ⟨fb,fo,rfl⟩:=hfne (by rw [hft]; simp [faV])
  have a1:=u1.at_
  have o1:=a.fat
  rw [hfv,hft] at o1
  have c0:=(o1.cell (i:=0) (by simp [faV])).1
  have c1:=(o1.cell (i:=1) (by simp [faV])).1
  rw [elt_mk] at c0 c1
  have g0:hcell h ⟨fb,fo,none⟩=some (.int .i64 k):=by rw [←Nat.add_zero fo]; exact c0.trans (by simp [faV])
  have g1:hcell h ⟨fb,fo+1,none⟩=some (.int .i64 n):=c1.trans (by simp [faV])
  have hfb:blkG m.fv=some fb:=by
   rw [hfv,hft]
   obtain ⟨k,rfl⟩:∃k,fc=k+1:=⟨fc-1,by omega⟩
   rfl
  have hfq:fb≠q:=a.fat.ne hfb a.cells rv_ne.2.1.symm
  have hfq':=Ne.symm hfq
  have hfl:=a.fat.lt hfb
  obtain ⟨⟨k0,k1⟩,n0,n1⟩:=a.fok (k,n) (by rw [hft]; simp)
  dsimp only at k0 k1 n0 n1
  simp only [List.length_cons] at d1
  simp (disch:=omega) [d1,d2,f1,f2,g0,g1,hfq,hfq']
  rw [hst]
  have k1':(hset h ⟨q,2,none⟩ (.int .i64 ((p.steps+1:Nat):Int))).size=h.size:=hset_size ..
  generalize hg1:hset h ⟨q,2,none⟩ (.int .i64 ((p.steps+1:Nat):Int))=g1' at *
  clear hg1
  rw [←k1']
  generalize hg2:hset _ (⟨g1'.size,1,none⟩:Addr) _=g2
  have e2:Ext g1' g2:=by rw [←hg2]; exact put2_ext extS (Nat.le_refl _)
  have y2:g2[g1'.size]? = some (.cells #[.int .i64 k,.int .i64 n] aT):=by rw [←hg2]; exact put2 (get_pushed rfl)
  clear hg2
  have a2:=a1.ext e2
  have hE:p.stepped={ p with fates:=t,steps:=p.steps+1 }:=by unfold Ps.stepped; rw [hft]; rfl
  have o2:=(a1.fat.ext e2)
  dsimp only at o2
  rw [hfv,hft] at o2
  simp only [List.length_cons] at o2
  have o3:=o2.dropO (lo:=1) omg
  have hdr:(((k,n)::t).flatMap faV).drop (1*2)=t.flatMap faV:=by simp [faV]
  rw [hdr,subO_some,Nat.add_sub_cancel] at o3
  obtain ⟨xa,hxa⟩:∃xa,subS 2 (⟨fb,fo,none⟩:Addr) 1 fc=xa:=⟨_,rfl⟩
  have hxb:xa.block=fb:=by rw [←hxa]; unfold subS; split<;>simp
  rw [hxa] at o3 ⊢
  clear hxa
  have hql2:=get_some_lt a1.cells
  have u2:RvU g1' (hset g2 ⟨q,1,none⟩ (.slice (some xa) t.length (fc-1))) q m { m with fv := .slice (some xa) t.length (fc-1) } { p with fates:=t,steps:=p.steps+1 }:=by
   refine a1.cell (m':={ m with fv := .slice (some xa) t.length (fc-1) }) (p':={ p with fates:=t,steps:=p.steps+1 }) e2 rfl (a1.fs.ext e2) (fun f hf=>(a1.ps f hf).ext e2) o3 a.name a.ok hs (fun f hf=>Nat.le_trans (a.pfew f hf) (Nat.mul_le_mul_right _ (Nat.le_succ _))) (by show t.length≤1000; omega) (fun f hf=>a.fok f (by rw [hft]; exact List.mem_cons_of_mem _ hf)) a.pn (fun b hb => ?_)
   rcases hb with hb|hb|hb|hb
   ·exact .inl (.inl hb)
   ·exact .inl (.inr (.inl hb))
   ·refine .inl (.inr (.inr (.inl ?_)))
    rw [hfb]
    revert hb
    cases hcc:fc-1 with
    | zero=>intro hb; cases hb
    | succ c' =>
     intro hb
     have:some xa.block=some b:=hb
     rw [hxb] at this; exact this
   ·exact .inl (.inr (.inr (.inr hb)))
  have U:RvU h _ q m _ _:=u1.trans u2
  rw [hft,hE] at H
  have hG1:hfrozen g2 ⟨q,1,none⟩=false:=frzOf a2.cells
  have hG2:hcell g2 ⟨q,1,none⟩=some m.fv:=cellOf a2.cells rfl
  have hqz:¬q=g1'.size:=by omega
  have hqz':¬g1'.size=q:=by omega
  have v0:=cellOf (i:=0) y2 rfl
  have v1:=cellOf (i:=1) y2 rfl
  have hfe:fateE ((k,n)::t)=if k=1 then 5 else if k=2 then 6 else 0:=rfl
  rw [hfe] at H
  by_cases hk1:k=1
  ·rw [if_pos hk1] at H
   rw [hk1] at v0
   simp (disch:=omega) [hG1,hG2,hqz,hqz',v0,v1,Hp_max2]
   exact H _ _ _ U (fun _=>rfl) (by split<;>omega) (by split<;>omega)
  ·by_cases hk2:k=2
   ·rw [if_neg hk1,if_pos hk2] at H
    rw [hk2] at v0
    simp (disch:=omega) [hG1,hG2,hqz,hqz',v0,v1,Hp_max2]
    exact H _ _ _ U (fun _=>rfl) (by split<;>omega) (by split<;>omega)
   ·rw [if_neg hk1,if_neg hk2] at H
    simp (disch:=omega) [hG1,hG2,hqz,hqz',v0,v1,hk1,hk2]
    exact H _ _ 0 U (fun e=>absurd rfl e) dM dM
end Go.Proofs.YtcbbdnaelimpfaaGreat
set_option linter.unusedSimpArgs false
set_option linter.unusedVariables false
namespace Go.Proofs.YtcbbdnaelimpfaaGreat
open Go.Vc
variable {K:VP} {h:Heap}

theorem RvM.put3 {q:Nat} {m:Rm} {p:Ps} {f f':Fl} {b o c:Nat} {v:Value} {g:Heap} (a:RvM h q m p) (e:Ext h g) (hf:p.f=some f) (hsv:m.sv = .slice (some ⟨b,o,none⟩) 1 c) (hc:1≤c) (hn:f'.name=fN) (ok:f'.ok) (hl:f'.ps.length≤p.steps*1000000) (hp:OwnG rpT 2 g v (f'.ps.flatMap rpV)) (hv:∀b,blkG v=some b→blkG m.pv=some b∨h.size≤b) :
 RvU h (hset (hset (hset g ⟨b,o,none⟩ (str fN)) ⟨b,o+1,none⟩ (str f'.last)) ⟨b,o+2,none⟩ v) q m { m with pv:=v } { p with f:=some f' }:=by
 obtain ⟨n1,n2,n3,n4,n5,n6⟩:=rv_ne
 have hbs:blkG m.sv=some b:=by
  rw [hsv]
  obtain ⟨k,rfl⟩:∃k,c=k+1:=⟨c-1,by omega⟩
  rfl
 obtain ⟨arr,hbt⟩:=(a.fs.ext e).tag hbs
 have hqt:=(a.ext e).cells
 have o1:=a.fs.ext e
 unfold fRow at o1
 rw [hf,hsv] at o1
 dsimp only at o1
 have m1:Mod (· = b) g (hset (hset (hset g ⟨b,o,none⟩ (str fN)) ⟨b,o+1,none⟩ (str f'.last)) ⟨b,o+2,none⟩ v) :=
  ((Mod.set g ⟨b,o,none⟩ (str fN)).trans (Mod.set _ ⟨b,o+1,none⟩ (str f'.last)) (fun _ _ e=>e)).trans (Mod.set _ ⟨b,o+2,none⟩ v) (fun _ _ e=>e)
 have s1:=OwnG.set (u:=str fN) o1 (i:=0) sM
 have s2:=OwnG.set (u:=str f'.last) s1 (i:=1) sM
 have s3:=OwnG.set (u:=v) s2 (i:=2) sM
 rw [elt_mk] at s1 s2 s3
 rw [elt_mk] at s2 s3
 rw [elt_mk] at s3
 have s3':OwnG rfT 3 (hset (hset (hset g ⟨b,o,none⟩ (str fN)) ⟨b,o+1,none⟩ (str f'.last)) ⟨b,o+2,none⟩ v) (.slice (some ⟨b,o,none⟩) 1 c) [str fN,str f'.last,v]:=s3
 refine ⟨⟨?_,?_,fun x hx => ?_,?_,fun x hx => ?_,fun x hx => ?_,a.stp,fun x hx => ?_,a.ffew,a.fok,fun e=>by cases e⟩,?_,fun x hx => ?_⟩
 ·exact (m1.block _ (get_some_lt hqt) (fun e2=>by
   have e3:q=b:=e2
   rw [e3] at hqt; rw [hqt] at hbt; cases hbt)).trans hqt
 ·show OwnG rfT 3 _ m.sv _
  rw [hsv]
  exact s3'
 ·cases hx
  exact hp.mod m1 (fun x hx e2=>hp.ne hx hbt n5.symm e2)
 ·exact (a.fat.ext e).mod m1 (fun x hx e2=>(a.fat.ext e).ne hx hbt n4.symm e2)
 ·cases hx; exact hn
 ·cases hx; exact ok
 ·cases hx; exact hl
 ·refine ⟨Nat.le_trans e.size m1.size,fun x hx hn => ?_⟩
  rw [m1.block x (Nat.lt_of_lt_of_le hx e.size) (fun e2=>hn (.inr (.inl (by rw [hbs,e2])))),e.block x hx]
 ·rcases hx with hx|hx|hx|hx
  ·exact .inl (.inl hx)
  ·exact .inl (.inr (.inl hx))
  ·exact .inl (.inr (.inr (.inl hx)))
  ·exact (hv x hx).imp (fun e => .inr (.inr (.inr e))) id
set_option maxHeartbeats 4000000 in
theorem rFlushF_c {q:Nat} {m:Rm} {p:Ps} (a:RvM h q m p) (hs:p.steps+1<1000000) (H:∀h' m',RvU h h' q m m' p.flush.1→K (.int .i64 p.flush.2) h'):CallsH Tryz.prog 126 #[ptrV q,str fN] h K ⟨⟩:=by
 refine n126_calls ?_
 unfold n126; try delta vF vG vC vD vJ vV vk vt
 refine rfindF_c a (fun hf => ?_) (fun f hf => ?_)
 ·have h1:p.flush=(p,7):=by unfold Ps.flush; rw [hf]
  rw [h1] at H
  simp (disch:=omega)
  exact H h m (.refl a)
 have h1:p.flush=({ p.stepped with f:=some (f.flush (wentN (fateE p.fates) (fateK p.fates) f.ps.length)) },fateE p.fates):=by unfold Ps.flush; rw [hf]; rfl
 rw [h1] at H
 dsimp only at H
 simp (disch:=omega)
 refine rstepF_c a hs fun h2 fv' kv u2 hkv kv0 kv1 => ?_
 have a2:=u2.at_
 have hf2:p.stepped.f=some f:=hf
 obtain ⟨b,o,c,hsv,hsc,hbl,r0,r1,r2,g0,oro⟩:=a2.row hf2
 have d0:hcell h2 ⟨q,0,none⟩=some (.slice (some ⟨b,o,none⟩) 1 c):=hsv▸cellOf (i:=0) a2.cells rfl
 have ox:=a2.ps f hf2
 dsimp only at r2 ox hsv
 obtain ⟨pa,pn,pc,hpv,hpl,hpc,hpne⟩:=ox.form
 rw [rpV_len] at hpl
 obtain rfl:pn=f.ps.length:=by omega
 have hpf:=a.pfew f hf
 have hst:=a.stp
 have hok:=a.ok f hf
 rw [hpv] at r2 ox
 have g00:=g0 0 omg
 have g01:=g0 1 omg
 have g02:=g0 2 omg
 rw [Nat.add_zero] at g00
 unfold ptrV
 simp (disch:=omega) [d0,r0,r1,r2]
 generalize hg3:hset _ (⟨h2.size,2,none⟩:Addr) _=g3
 have e3:Ext h2 g3:=by rw [←hg3]; exact put3_ext extS (Nat.le_refl _)
 have q3:g3[h2.size]? = some (.cells #[str fN,str f.last,.slice pa f.ps.length pc] rfT):=by rw [←hg3]; exact put3 (get_pushed rfl)
 clear hg3
 obtain ⟨N,hN⟩:∃N,N=wentN (fateE p.fates) (fateK p.fates) f.ps.length:=⟨_,rfl⟩
 have hNl:N≤f.ps.length:=by rw [hN]; unfold wentN; split<;>omega
 rw [←hN] at H
 have hfE : -9223372036854775808≤fateE p.fates∧fateE p.fates<9223372036854775808:=by
  unfold fateE
  split
  ·decide
  ·split
   ·decide
   ·split<;>decide
 refine JoinN_in1 (fun v g=>v = .int .i64 (N:Nat)∧g3=g) (fun kk hkk => ?_) (fun v g hv => ?_)
 ·by_cases h0:fateE p.fates=0
  ·simp (disch:=omega) [h0]
   refine hkk _ _ ⟨?_,rfl⟩
   rw [hN]; unfold wentN; rw [if_pos h0]
  ·have hk:=hkv h0
   simp (disch:=omega) [h0,Hp_min2]
   refine hkk _ _ ⟨?_,rfl⟩
   rw [hN,←hk]
   unfold wentN
   rw [if_neg h0]
   congr 1
   split<;>omega
 obtain ⟨rfl,rfl⟩:=hv
 have hlay:∀i,(layAll f.last (f.ps.take i)).length=f.last.length:=fun i=>layAll_len fun q hq=>(hok.pc q (List.mem_of_mem_take hq)).2
 have hlast:=hok.few
 refine loopX1 (α:=Nat) (fun i => .int .i64 i) (fun i g=>i≤N∧Ext h2 g∧g[h2.size]? = some (.cells #[str fN,str (layAll f.last (f.ps.take i)),.slice pa f.ps.length pc] rfT)) (fun i=>N-i) 0 rfl ⟨Nat.zero_le _,e3,by rw [List.take_zero]; exact q3⟩ ?_
 rintro i g ⟨hi,eg,qg⟩ X hX
 have q1:=cellOf (i:=1) qg rfl
 have q2:=cellOf (i:=2) qg rfl
 have q0:=cellOf (i:=0) qg rfl
 have s1:=frzOf (i:=1) qg
 have s2:=frzOf (i:=2) qg
 have hxl:=get_some_lt qg
 by_cases hil:i<N
 ·have hil':i<f.ps.length:=by omega
  obtain ⟨ad',rfl,-,-,w0,w1⟩:=rp_cell (ox.ext eg) hil'
  have hqk:=hok.pc _ (List.getElem_mem hil')
  have hfit:f.ps[i].at_+f.ps[i].b.length≤f.last.length:=hqk.2
  have hli:=hlay i
  simp (disch:=omega) [q1,q2,w0,w1]
  refine over_c omg omg ?_
  simp (disch:=omega) [q1,s1]
  refine hX (i+1) _ _ sM ⟨hil,hset_ext eg sM,?_⟩ omg
  rw [layAll_take hil']
  exact obj_set qg
 ·obtain rfl:i=N:=by omega
  simp (disch:=omega) [q1,q2,Hp_slgLN (P:=Tryz.prog) (t:=127) (s:=2) kR]
  have src:=((ox.ext eg).dropO (lo:=i) hNl).src
  rw [rpV_drop] at src
  refine Hp_appendG (e:=rpT) (s:=2) (by_:=24) (n:=0) (k:=f.ps.length-i) kR kR OwnG.nil rfl omg src (rpV_one _) omg omg fun v1 h3 o3 m3 f3 _ => ?_
  have e3':Ext g h3:=m3.ext_from (.refl _) (fun b hb e=>by cases e)
  rw [List.nil_append] at o3
  obtain ⟨va,vn,vc,rfl,hvn,-,-⟩:=o3.form
  have q3':=(e3'.block _ hxl).trans qg
  have w2:=cellOf (i:=2) q3' rfl
  have w0:=cellOf (i:=0) q3' rfl
  have w1:=cellOf (i:=1) q3' rfl
  have s2:=frzOf (i:=2) q3'
  have E3:=eg.trans e3'
  have a3:=a2.ext E3
  obtain ⟨b2,o2,c2,hsv2,-,-,u0,u1,u2',t0,-⟩:=a3.row hf2
  have d3:hcell h3 ⟨q,0,none⟩=some (.slice (some ⟨b,o,none⟩) 1 c):=hsv▸cellOf (i:=0) a3.cells rfl
  dsimp only at hsv2
  rw [hsv] at hsv2
  cases hsv2
  have hxb:¬b=h2.size:=by omega
  have hbx:¬h2.size=b:=by omega
  have t00:=t0 0 omg
  have t01:=t0 1 omg
  have t02:=t0 2 omg
  rw [Nat.add_zero] at t00
  have hz2:=E3.size
  simp (disch:=omega) [w0,w1,w2,s2,d3,t00,t01,t02,u0,u1,u2',hxb,hbx]
  have e4:Ext h2 (hset h3 ⟨h2.size,2,none⟩ (.slice va vn vc)):=hset_ext E3 sM
  have o4:OwnG rpT 2 (hset h3 ⟨h2.size,2,none⟩ (.slice va vn vc)) (.slice va vn vc) ((f.flush i).ps.flatMap rpV) :=
   o3.mod (Mod.set h3 ⟨h2.size,2,none⟩ (.slice va vn vc)) (fun b hb e=>o3.ne hb q3' dM e)
  have z2:=eg.size
  have u5:=a2.put3 (f':=f.flush i) (v := .slice va vn vc) e4 hf2 hsv hsc (a.name f hf) (hok.flush i) (by
   show (f.ps.drop i).length≤(p.steps+1)*1000000
   rw [List.length_drop]; omega) o4 (fun x hx => .inr ((f3 x hx).elim (fun e=>by cases e) (fun e=>by omega)))
  exact H _ _ (u2.trans u5)
end Go.Proofs.YtcbbdnaelimpfaaGreat
set_option linter.unusedSimpArgs false
set_option linter.unusedVariables false
namespace Go.Proofs.YtcbbdnaelimpfaaGreat
open Go.Vc
variable {K:VP} {h:Heap}

theorem fateE_rng (l:List (Int×Int)) : -9223372036854775808≤fateE l∧fateE l<9223372036854775808:=by
 unfold fateE
 split
 ·decide
 ·split
  ·decide
  ·split<;>decide
structure WrI (h0 g:Heap) (z:Nat) (fl:Fl) (b:List UInt8) (k:Nat) (E kv:Int) (pa:Option Addr) (pc:Nat) (x:Nat×Nat×Value×List Pc):Prop where
 f:x.1≤b.length
 dn:x.2.1≤x.1
 Q:x.2.2.2.length=x.2.1
 cut:x.2.2.2++cutP (k+x.1) (b.drop x.1)=cutP k b
 keep:E≠0→(x.2.1:Int)≤kv
 last:(fl.writes x.2.2.2).last=if x.1=0 then fl.last else growL fl.last (k+x.1)
 ext:Ext h0 g
 obj:g[z]? = some (.cells #[str fN,str fl.last,.slice pa fl.ps.length pc] rfT)
 own:OwnG rpT 2 g x.2.2.1 ((fl.ps++x.2.2.2).flatMap rpV)
 fr:∀c,blkG x.2.2.1=some c→z<c
theorem WrI.goes {h0 g:Heap} {z:Nat} {fl:Fl} {b:List UInt8} {k:Nat} {E kv:Int} {pa:Option Addr} {pc:Nat} {x:Nat×Nat×Value×List Pc} (I:WrI h0 g z fl b k E kv pa pc x) (he:x.1=b.length∨(E≠0∧kv≤x.2.1)):x.2.2.2=went E kv (cutP k b):=by
 have hc:=I.cut
 have hQ:=I.Q
 unfold went
 rcases he with he|⟨he,hk⟩
 ·rw [he,List.drop_length,cutP_nil,List.append_nil] at hc
  split
  ·exact hc
  ·rename_i h0
   have:=I.keep h0
   rw [←hc,List.take_of_length_le omg]
 ·have:=I.keep he
  rw [if_neg he,←hc,List.take_left' omg]
set_option maxHeartbeats 8000000 in
theorem rWriteF_c {q:Nat} {m:Rm} {p:Ps} {b:List UInt8} {k:Nat} {v:Value} (a:RvM h q m p) (hB:Bytes h v b) (hb0:0<b.length) (hbl:k+b.length≤268435456) (hv:∀c,blkV v=some c→¬RvF q m c) (hs:p.steps+1<1000000) (hbs:b.length≤900000)
 (H:∀h' m',RvU h h' q m m' (p.write k b).1→K (.int .i64 (p.write k b).2) h'):CallsH Tryz.prog 124 #[ptrV q,str fN,.int .i64 k,v] h K ⟨⟩:=by
 refine n124_calls ?_
 unfold n124; try delta vF vG vC vD vJ vV vk vt
 obtain ⟨ba,bc,rfl⟩:=hB.form
 have hbn:b≠[]:=List.length_pos_iff.1 hb0
 refine rfindF_c a (fun hf => ?_) (fun f hf => ?_)
 ·have h1:p.write k b=(p,7):=by unfold Ps.write; rw [hf]
  rw [h1] at H
  simp (disch:=omega)
  exact H h m (.refl a)
 have h1:p.write k b=({ p.stepped with f:=some (f.writes (went (fateE p.fates) (fateK p.fates) (cutP k b))) },fateE p.fates):=by unfold Ps.write; rw [hf]; rfl
 rw [h1] at H
 dsimp only at H
 simp (disch:=omega)
 refine rstepF_c a hs fun h2 fv' kv u2 hkv kv0 kv1 => ?_
 have a2:=u2.at_
 have hf2:p.stepped.f=some f:=hf
 obtain ⟨bb,o,c,hsv,hsc,hbb,r0,r1,r2,g0,oro⟩:=a2.row hf2
 have d0:hcell h2 ⟨q,0,none⟩=some (.slice (some ⟨bb,o,none⟩) 1 c):=hsv▸cellOf (i:=0) a2.cells rfl
 have ox:=a2.ps f hf2
 dsimp only at r2 ox hsv
 obtain ⟨pa,pn,pc,hpv,hpl,hpc,hpne⟩:=ox.form
 rw [rpV_len] at hpl
 obtain rfl:pn=f.ps.length:=by omega
 have hpf:=a.pfew f hf
 have hst:=a.stp
 have hok:=a.ok f hf
 have hlast:=hok.few
 rw [hpv] at r2 ox
 obtain ⟨hE1,hE2⟩:=fateE_rng p.fates
 have hgo:went (fateE p.fates) (fateK p.fates) (cutP k b)=went (fateE p.fates) kv (cutP k b):=by
  unfold went
  split
  ·rfl
  ·rename_i h0; rw [hkv h0]
 rw [hgo] at H
 generalize fateE p.fates=E at *
 unfold ptrV
 simp (disch:=omega) [d0,r0,r1,r2]
 generalize hg3:hset _ (⟨h2.size,2,none⟩:Addr) _=g3
 have e3:Ext h2 g3:=by rw [←hg3]; exact put3_ext extS (Nat.le_refl _)
 have q3:g3[h2.size]? = some (.cells #[str fN,str f.last,.slice pa f.ps.length pc] rfT):=by rw [←hg3]; exact put3 (get_pushed rfl)
 clear hg3
 have hvb:∀c,blkV (.slice ba b.length bc)=some c→c<h2.size:=fun c hc=>by have:=hB.lt hc hbn; have:=u2.mod.size; omega
 have hB2:Bytes h2 (.slice ba b.length bc) b:=hB.modX u2.mod (fun c _ hcb _=>hv c hcb)
 have z3:=e3.size
 have q3l:=get_some_lt q3
 have q32:=cellOf (i:=2) q3 rfl
 refine Hp_appendG (e:=rpT) (s:=2) (by_:=24) (n:=0) (k:=f.ps.length) kR kR OwnG.nil rfl omg (ox.ext e3).src (rpV_one _) omg omg fun v1 h3 o3 m3 f3 _ => ?_
 have e3':Ext g3 h3:=m3.ext_from (.refl _) (fun b hb e=>by cases e)
 rw [List.nil_append] at o3
 have q3':=(e3'.block _ q3l).trans q3
 refine loopX3 (α:=Nat×Nat×Value×List Pc) (fun a=>a.2.2.1) (fun a => .int .i64 a.2.1) (fun a => .int .i64 a.1) (fun x g=>WrI h2 g h2.size f b k E kv pa pc x) (fun x=>b.length-x.1) (0,0,v1,[]) ⟨rfl,rfl,rfl⟩ ⟨Nat.zero_le _,Nat.le_refl _,rfl,by simp,fun _=>kv0,rfl,e3.trans e3',q3',by rw [List.append_nil]; exact o3,fun c hc=>(f3 c hc).elim (fun e=>by cases e) (fun e=>by omega)⟩ ?_
 rintro ⟨fr,dn,pv,Q⟩ g I X hX
 have hfr:=I.f
 have hdn:=I.dn
 have hQ:=I.Q
 have qg:=I.obj
 have og:=I.own
 have hcut:=I.cut
 dsimp only at hfr hdn hQ og hcut ⊢
 have hlastw:=I.last
 have eg:=I.ext
 have fg:=I.fr
 have hkeep:=I.keep
 dsimp only at hlastw fg hkeep
 have hpfl:(f.ps++Q).length=f.ps.length+Q.length:=List.length_append
 by_cases hil:fr<b.length
 ·by_cases h0:E=0
  ·have hlt:E≠0→(dn:Int)<kv:=fun e=>absurd h0 e
   simp (disch:=omega) [h0]
   have hdr:b.drop fr≠[]:=fun e=>by
    have:=congrArg List.length e
    rw [List.length_drop] at this; simp at this; omega
   have hcc:=cutP_cons (k:=k+fr) hdr
   rw [List.length_drop] at hcc
   obtain ⟨n,hnd⟩:∃n,n=min (b.length-fr) (512-(k+fr)%512):=⟨_,rfl⟩
   rw [←hnd] at hcc
   have hn1:1≤n∧n≤b.length-fr∧n≤512-(k+fr)%512:=by omega
   have hmn:(if (512:Int)-((k:Int)+(fr:Int))%512<(b.length:Int)-(fr:Int) then 512-((k:Int)+(fr:Int))%512 else (b.length:Int)-(fr:Int))=(n:Int):=by rw [hnd]; split<;>omega
   have hBg:=hB2.ext eg
   obtain ⟨ad,hba,-,hbc,hA⟩:=hBg.at omg
   have hba:ba=some ad:=by cases hba; rfl
   subst hba
   have hpt:=hA.part fr (fr+n) bc omg omg hbc
   have hpb:(b.take (fr+n)).drop fr=(b.drop fr).take n:=by rw [List.drop_take]; congr 1; omega
   rw [hpb] at hpt
   have hln:((b.drop fr).take n).length=n:=by rw [List.length_take,List.length_drop]; omega
   have hbn2:Bytes g (.slice (some (sub ad fr bc)) n (bc-fr)) ((b.drop fr).take n) := .inr ⟨_,_,by rw [hln],by omega,hpt⟩
   have hk9:(k:Int)+(fr:Int)=((k+fr:Nat):Int):=by omega
   simp (disch:=omega) [hmn]
   refine (Hp_bytesStr (e:=bT) kR kR kR hbn2).2 ?_
   simp (disch:=omega)
   have e4:Ext g (g.push (.cells #[.int .i64 (k+fr:Nat),str ((b.drop fr).take n)] rpT)):=extS
   rw [hk9]
   refine Hp_appendG (e:=rpT) (s:=2) (by_:=24) (n:=f.ps.length+Q.length) (k:=1) (news:=[.int .i64 (k+fr:Nat),str ((b.drop fr).take n)]) kR kR (og.ext e4) (by rw [rpV_len,hpfl]) omg (Src_new (vs:=[.int .i64 (k+fr:Nat),str ((b.drop fr).take n)]) rfl) (by simp [one,str]) omg omg fun v2 h5 o5 m5 f5 _ => ?_
   simp (disch:=omega)
   have hg4:=e4.size
   have hgl:=get_some_lt qg
   have e5:Ext h2 h5:=m5.ext_from (eg.trans e4) (fun c hc e=>by have:=fg c e; omega)
   refine hX (fr+n,dn+1,v2,Q++[⟨k+fr,(b.drop fr).take n⟩]) _ _ _ _ rfl sM (by simp [hmn]) ⟨by dsimp only; omega,by dsimp only; omega,by dsimp only; rw [List.length_append,hQ]; rfl,?_,fun he => ?_,?_,e5,(m5.block h2.size (Nat.lt_of_lt_of_le hgl hg4) (fun e=>by have:=fg _ e; omega)).trans ((e4.block _ hgl).trans qg),?_,fun c hc=>(f5 c hc).elim (fg c) (fun e=>by have e':=Nat.le_trans hg4 e; omega)⟩ (by dsimp only; omega)
   ·dsimp only
    rw [List.append_assoc]
    rw [hcc,List.drop_drop] at hcut
    rw [←hcut,Nat.add_assoc]; rfl
   ·dsimp only
    have:=hkeep he
    have:=hlt he
    omega
   ·dsimp only
    have hw:f.writes (Q++[⟨k+fr,(b.drop fr).take n⟩])=(f.writes Q).add ⟨k+fr,(b.drop fr).take n⟩:=by unfold Fl.writes; rw [List.foldl_append]; rfl
    rw [hw,if_neg omg]
    show growL (f.writes Q).last (k+fr+((b.drop fr).take n).length)=_
    rw [hln,hlastw]
    by_cases h0:fr=0
    ·rw [if_pos h0]; congr 1; omega
    ·rw [if_neg h0,growL_twice omg]; congr 1; omega
   ·dsimp only
    rw [←List.append_assoc,List.flatMap_append]
    simpa [rpV] using o5
  ·by_cases hdk:(dn:Int)<kv
   ·have hlt:E≠0→(dn:Int)<kv:=fun e=>hdk
    simp (disch:=omega) [h0,hdk]
    have hdr:b.drop fr≠[]:=fun e=>by
     have:=congrArg List.length e
     rw [List.length_drop] at this; simp at this; omega
    have hcc:=cutP_cons (k:=k+fr) hdr
    rw [List.length_drop] at hcc
    obtain ⟨n,hnd⟩:∃n,n=min (b.length-fr) (512-(k+fr)%512):=⟨_,rfl⟩
    rw [←hnd] at hcc
    have hn1:1≤n∧n≤b.length-fr∧n≤512-(k+fr)%512:=by omega
    have hmn:(if (512:Int)-((k:Int)+(fr:Int))%512<(b.length:Int)-(fr:Int) then 512-((k:Int)+(fr:Int))%512 else (b.length:Int)-(fr:Int))=(n:Int):=by rw [hnd]; split<;>omega
    have hBg:=hB2.ext eg
    obtain ⟨ad,hba,-,hbc,hA⟩:=hBg.at omg
    have hba:ba=some ad:=by cases hba; rfl
    subst hba
    have hpt:=hA.part fr (fr+n) bc omg omg hbc
    have hpb:(b.take (fr+n)).drop fr=(b.drop fr).take n:=by rw [List.drop_take]; congr 1; omega
    rw [hpb] at hpt
    have hln:((b.drop fr).take n).length=n:=by rw [List.length_take,List.length_drop]; omega
    have hbn2:Bytes g (.slice (some (sub ad fr bc)) n (bc-fr)) ((b.drop fr).take n) := .inr ⟨_,_,by rw [hln],by omega,hpt⟩
    have hk9:(k:Int)+(fr:Int)=((k+fr:Nat):Int):=by omega
    simp (disch:=omega) [hmn]
    refine (Hp_bytesStr (e:=bT) kR kR kR hbn2).2 ?_
    simp (disch:=omega)
    have e4:Ext g (g.push (.cells #[.int .i64 (k+fr:Nat),str ((b.drop fr).take n)] rpT)):=extS
    rw [hk9]
    refine Hp_appendG (e:=rpT) (s:=2) (by_:=24) (n:=f.ps.length+Q.length) (k:=1) (news:=[.int .i64 (k+fr:Nat),str ((b.drop fr).take n)]) kR kR (og.ext e4) (by rw [rpV_len,hpfl]) omg (Src_new (vs:=[.int .i64 (k+fr:Nat),str ((b.drop fr).take n)]) rfl) (by simp [one,str]) omg omg fun v2 h5 o5 m5 f5 _ => ?_
    simp (disch:=omega)
    have hg4:=e4.size
    have hgl:=get_some_lt qg
    have e5:Ext h2 h5:=m5.ext_from (eg.trans e4) (fun c hc e=>by have:=fg c e; omega)
    refine hX (fr+n,dn+1,v2,Q++[⟨k+fr,(b.drop fr).take n⟩]) _ _ _ _ rfl sM (by simp [hmn]) ⟨by dsimp only; omega,by dsimp only; omega,by dsimp only; rw [List.length_append,hQ]; rfl,?_,fun he => ?_,?_,e5,(m5.block h2.size (Nat.lt_of_lt_of_le hgl hg4) (fun e=>by have:=fg _ e; omega)).trans ((e4.block _ hgl).trans qg),?_,fun c hc=>(f5 c hc).elim (fg c) (fun e=>by have e':=Nat.le_trans hg4 e; omega)⟩ (by dsimp only; omega)
    ·dsimp only
     rw [List.append_assoc]
     rw [hcc,List.drop_drop] at hcut
     rw [←hcut,Nat.add_assoc]; rfl
    ·dsimp only
     have:=hkeep he
     have:=hlt he
     omega
    ·dsimp only
     have hw:f.writes (Q++[⟨k+fr,(b.drop fr).take n⟩])=(f.writes Q).add ⟨k+fr,(b.drop fr).take n⟩:=by unfold Fl.writes; rw [List.foldl_append]; rfl
     rw [hw,if_neg omg]
     show growL (f.writes Q).last (k+fr+((b.drop fr).take n).length)=_
     rw [hln,hlastw]
     by_cases h0:fr=0
     ·rw [if_pos h0]; congr 1; omega
     ·rw [if_neg h0,growL_twice omg]; congr 1; omega
    ·dsimp only
     rw [←List.append_assoc,List.flatMap_append]
     simpa [rpV] using o5
   ·have hfin:fr=b.length∨(E≠0∧kv≤dn) := .inr ⟨h0,by omega⟩
    simp (disch:=omega) [h0,hdk]
    have hw:=I.goes hfin
    dsimp only at hw
    have q2:=cellOf (i:=2) qg rfl
    have s2:=frzOf (i:=2) qg
    obtain ⟨va,vn,vc,rfl,-,-,-⟩:=og.form
    simp (disch:=omega) [q2,s2]
    refine (⟨_,rfl⟩:∃G,G=hset g ⟨h2.size,2,none⟩ (.slice va vn vc)).elim fun g6 eg6 => ?_
    have e6:Ext h2 g6:=by rw [eg6]; exact hset_ext eg sM
    have qg6:g6[h2.size]? = some (.cells #[str fN,str f.last,.slice va vn vc] rfT):=by rw [eg6]; exact obj_set qg
    have og6:OwnG rpT 2 g6 (.slice va vn vc) ((f.ps++Q).flatMap rpV):=by
     rw [eg6]
     exact og.mod (Mod.set g ⟨h2.size,2,none⟩ (.slice va vn vc)) (fun c hc e=>by have e':c=h2.size:=e; have:=fg c hc; omega)
    rw [←eg6]
    clear eg6
    refine JoinN_in0 (fun g'=>Ext h2 g'∧g'[h2.size]? = some (.cells #[str fN,str (f.writes Q).last,.slice va vn vc] rfT)∧OwnG rpT 2 g' (.slice va vn vc) ((f.writes Q).ps.flatMap rpV)) (fun kk hkk => ?_) (fun g' hg' => ?_)
    ·by_cases hf0:fr=0
     ·have hq6:g6[h2.size]? = some (.cells #[str fN,str (f.writes Q).last,.slice va vn vc] rfT):=by rw [hlastw,if_pos hf0]; exact qg6
      first
      | (exfalso; omega)
      | (simp (disch:=omega) [hf0]; exact hkk _ ⟨e6,hq6,by rw [writes_ps]; exact og6⟩)
     ·have q1:=cellOf (i:=1) qg6 rfl
      have hzl:(zeros (k+fr-f.last.length)).length=k+fr-f.last.length:=zeros_len _
      simp (disch:=omega) [q1]
      refine noughts_c omg omg fun g7 e7 => ?_
      have qg7:=(e7.block _ (get_some_lt qg6)).trans qg6
      have q1:=cellOf (i:=1) qg7 rfl
      have s1:=frzOf (i:=1) qg7
      have hnt:((k:Int)+(fr:Int)-(f.last.length:Int)).toNat=k+fr-f.last.length:=by omega
      simp (disch:=omega) [q1,s1]
      try rw [hnt]
      rw [Hp_addStr omg]
      simp (disch:=omega) [q1,s1]
      have hgr:f.last++zeros (k+fr-f.last.length)=(f.writes Q).last:=by rw [hlastw,if_neg hf0]; rfl
      rw [hgr]
      refine hkk _ ⟨hset_ext (e6.trans e7) sM,obj_set qg7,?_⟩
      rw [writes_ps]
      exact (og6.ext e7).mod (Mod.set g7 ⟨h2.size,1,none⟩ _) (fun c hc e=>by have e':c=h2.size:=e; have:=fg c hc; omega)
    ·obtain ⟨e7,q7,o7⟩:=hg'
     have w0:=cellOf (i:=0) q7 rfl
     have w1:=cellOf (i:=1) q7 rfl
     have w2:=cellOf (i:=2) q7 rfl
     have a7:=a2.ext e7
     obtain ⟨b2,o2,c2,hsv2,-,-,u0,u1,u2',t0,-⟩:=a7.row hf2
     have d3:hcell g' ⟨q,0,none⟩=some (.slice (some ⟨bb,o,none⟩) 1 c):=hsv▸cellOf (i:=0) a7.cells rfl
     dsimp only at hsv2
     rw [hsv] at hsv2
     cases hsv2
     have t00:=t0 0 omg
     have t01:=t0 1 omg
     have t02:=t0 2 omg
     rw [Nat.add_zero] at t00
     have hxb:¬bb=h2.size:=by omega
     have hbx:¬h2.size=bb:=by omega
     simp (disch:=omega) [w0,w1,w2,d3,t00,t01,t02,u0,u1,u2',hxb,hbx]
     have hsub:∀x∈Q,x.ok∧x.at_+x.b.length≤268435456:=fun x hx=>by
      have h9:=cutP_ok b.length (Nat.le_refl _) x (went_sub x (hw▸hx))
      exact ⟨h9.1,by omega⟩
     have u8:=a2.put3 (f':=f.writes Q) (v := .slice va vn vc) e7 hf2 hsv hsc (by rw [writes_name]; exact a.name f hf) (hok.writes hsub) (by
      rw [writes_ps,List.length_append]
      show _≤(p.steps+1)*1000000
      omega) o7 (fun x hx => .inr (by have:=fg x hx; omega))
     rw [←hw] at H
     exact H _ _ (u2.trans u8)
 ·have hfin:fr=b.length∨(E≠0∧kv≤dn) := .inl omg
  simp (disch:=omega)
  have hw:=I.goes hfin
  dsimp only at hw
  have q2:=cellOf (i:=2) qg rfl
  have s2:=frzOf (i:=2) qg
  obtain ⟨va,vn,vc,rfl,-,-,-⟩:=og.form
  simp (disch:=omega) [q2,s2]
  refine (⟨_,rfl⟩:∃G,G=hset g ⟨h2.size,2,none⟩ (.slice va vn vc)).elim fun g6 eg6 => ?_
  have e6:Ext h2 g6:=by rw [eg6]; exact hset_ext eg sM
  have qg6:g6[h2.size]? = some (.cells #[str fN,str f.last,.slice va vn vc] rfT):=by rw [eg6]; exact obj_set qg
  have og6:OwnG rpT 2 g6 (.slice va vn vc) ((f.ps++Q).flatMap rpV):=by
   rw [eg6]
   exact og.mod (Mod.set g ⟨h2.size,2,none⟩ (.slice va vn vc)) (fun c hc e=>by have e':c=h2.size:=e; have:=fg c hc; omega)
  rw [←eg6]
  clear eg6
  refine JoinN_in0 (fun g'=>Ext h2 g'∧g'[h2.size]? = some (.cells #[str fN,str (f.writes Q).last,.slice va vn vc] rfT)∧OwnG rpT 2 g' (.slice va vn vc) ((f.writes Q).ps.flatMap rpV)) (fun kk hkk => ?_) (fun g' hg' => ?_)
  ·by_cases hf0:fr=0
   ·have hq6:g6[h2.size]? = some (.cells #[str fN,str (f.writes Q).last,.slice va vn vc] rfT):=by rw [hlastw,if_pos hf0]; exact qg6
    first
    | (exfalso; omega)
    | (simp (disch:=omega) [hf0]; exact hkk _ ⟨e6,hq6,by rw [writes_ps]; exact og6⟩)
   ·have q1:=cellOf (i:=1) qg6 rfl
    have hzl:(zeros (k+fr-f.last.length)).length=k+fr-f.last.length:=zeros_len _
    simp (disch:=omega) [q1]
    refine noughts_c omg omg fun g7 e7 => ?_
    have qg7:=(e7.block _ (get_some_lt qg6)).trans qg6
    have q1:=cellOf (i:=1) qg7 rfl
    have s1:=frzOf (i:=1) qg7
    have hnt:((k:Int)+(fr:Int)-(f.last.length:Int)).toNat=k+fr-f.last.length:=by omega
    simp (disch:=omega) [q1,s1]
    try rw [hnt]
    rw [Hp_addStr omg]
    simp (disch:=omega) [q1,s1]
    have hgr:f.last++zeros (k+fr-f.last.length)=(f.writes Q).last:=by rw [hlastw,if_neg hf0]; rfl
    rw [hgr]
    refine hkk _ ⟨hset_ext (e6.trans e7) sM,obj_set qg7,?_⟩
    rw [writes_ps]
    exact (og6.ext e7).mod (Mod.set g7 ⟨h2.size,1,none⟩ _) (fun c hc e=>by have e':c=h2.size:=e; have:=fg c hc; omega)
  ·obtain ⟨e7,q7,o7⟩:=hg'
   have w0:=cellOf (i:=0) q7 rfl
   have w1:=cellOf (i:=1) q7 rfl
   have w2:=cellOf (i:=2) q7 rfl
   have a7:=a2.ext e7
   obtain ⟨b2,o2,c2,hsv2,-,-,u0,u1,u2',t0,-⟩:=a7.row hf2
   have d3:hcell g' ⟨q,0,none⟩=some (.slice (some ⟨bb,o,none⟩) 1 c):=hsv▸cellOf (i:=0) a7.cells rfl
   dsimp only at hsv2
   rw [hsv] at hsv2
   cases hsv2
   have t00:=t0 0 omg
   have t01:=t0 1 omg
   have t02:=t0 2 omg
   rw [Nat.add_zero] at t00
   have hxb:¬bb=h2.size:=by omega
   have hbx:¬h2.size=bb:=by omega
   simp (disch:=omega) [w0,w1,w2,d3,t00,t01,t02,u0,u1,u2',hxb,hbx]
   have hsub:∀x∈Q,x.ok∧x.at_+x.b.length≤268435456:=fun x hx=>by
    have h9:=cutP_ok b.length (Nat.le_refl _) x (went_sub x (hw▸hx))
    exact ⟨h9.1,by omega⟩
   have u8:=a2.put3 (f':=f.writes Q) (v := .slice va vn vc) e7 hf2 hsv hsc (by rw [writes_name]; exact a.name f hf) (hok.writes hsub) (by
    rw [writes_ps,List.length_append]
    show _≤(p.steps+1)*1000000
    omega) o7 (fun x hx => .inr (by have:=fg x hx; omega))
   rw [←hw] at H
   exact H _ _ (u2.trans u8)
end Go.Proofs.YtcbbdnaelimpfaaGreat
set_option linter.unusedSimpArgs false
set_option linter.unusedVariables false
namespace Go.Proofs.YtcbbdnaelimpfaaGreat
open Go.Vc
variable {K:VP} {h:Heap}

theorem Now_c {f:Fl} {v:Value} (ov:OwnG rpT 2 h v (f.ps.flatMap rpV)) (ok:f.ok) (few:f.ps.length<10000000000000) (H:∀h',Ext h h'→K (str f.now) h'):CallsH Tryz.prog 72 #[.agg #[str fN,str f.last,v]] h K ⟨⟩:=by
 refine n72_calls ?_
 unfold n72; try delta vF vG vC vD vJ vV vk vt
 obtain ⟨pa,pn,pc,rfl,hpl,hpc,hpne⟩:=ov.form
 rw [rpV_len] at hpl
 obtain rfl:pn=f.ps.length:=by omega
 have hlay:∀i,(layAll f.last (f.ps.take i)).length=f.last.length:=fun i=>layAll_len fun q hq=>(ok.pc q (List.mem_of_mem_take hq)).2
 have hlast:=ok.few
 have hbox:∀(K:VP),Hp Tryz.prog false (Instr.box rfT (.agg #[str fN,str f.last,.slice pa f.ps.length pc])) K h ⟨⟩↔K (.pointer (some ⟨h.size,0,none⟩)) (h.push (.cells #[str fN,str f.last,.slice pa f.ps.length pc] rfT)):=fun K=>by
  simp (disch:=omega) [rfT]
 rw [show Instr.box 129=Instr.box rfT from rfl,hbox]
 refine (⟨_,rfl⟩:∃G,G=h.push (.cells #[str fN,str f.last,.slice pa f.ps.length pc] rfT)).elim fun g0 eg0 => ?_
 have e0:Ext h g0:=by rw [eg0]; exact extS
 have q0:g0[h.size]? = some (.cells #[str fN,str f.last,.slice pa f.ps.length pc] rfT):=by rw [eg0]; exact get_pushed rfl
 rw [←eg0]
 clear eg0
 have q1:=cellOf (i:=1) q0 rfl
 have q2:=cellOf (i:=2) q0 rfl
 simp (disch:=omega) [q1]
 refine loopX2 (α:=Nat) (fun i=>str (layAll f.last (f.ps.take i))) (fun i => .int .i64 i) (fun i g=>i≤f.ps.length∧g=g0) (fun i=>f.ps.length-i) 0 ⟨by rw [List.take_zero]; rfl,rfl⟩ ⟨Nat.zero_le _,rfl⟩ ?_
 rintro i g ⟨hi,rfl⟩ X hX
 by_cases hil:i<f.ps.length
 ·obtain ⟨ad',rfl,-,-,w0,w1⟩:=rp_cell (ov.ext e0) hil
  have hqk:=ok.pc _ (List.getElem_mem hil)
  have hfit:f.ps[i].at_+f.ps[i].b.length≤f.last.length:=hqk.2
  have hli:=hlay i
  simp (disch:=omega) [q2,w0,w1]
  refine over_c omg omg ?_
  simp (disch:=omega)
  refine hX (i+1) _ _ _ ?_ sM ⟨hil,rfl⟩ omg
  rw [layAll_take hil]; rfl
 ·obtain rfl:i=f.ps.length:=by omega
  have:=H g e0
  unfold Fl.now at this
  rw [List.take_length]
  simp (disch:=omega) [q2]
  exact this
set_option maxHeartbeats 4000000 in
theorem rReadF_c {q:Nat} {m:Rm} {p:Ps} {k n:Int} (a:RvM h q m p) (k0 : -9223372036854775808≤k) (k1:k<9223372036854775808) (n0 : -9223372036854775808≤n) (n1:n<9223372036854775808)
 (H7:p.f=none→K (.tuple #[.slice none 0 0,.int .i64 7]) h)
 (H4:∀h' f,Ext h h'→p.f=some f→(k<0∨(f.now.length:Int)<k∨n<0)→K (.tuple #[.slice none 0 0,.int .i64 4]) h')
 (H0:∀h' f v,Ext h h'→p.f=some f→0≤k→k≤f.now.length→0≤n→Bytes h' v ((f.now.drop k.toNat).take n.toNat)→(∀b,blkV v=some b→h.size≤b)→K (.tuple #[v,.int .i64 0]) h') :
 CallsH Tryz.prog 59 #[ptrV q,str fN,.int .i64 k,.int .i64 n] h K ⟨⟩:=by
 refine n59_calls ?_
 unfold n59; try delta vF vG vC vD vJ vV vk vt
 refine rfindF_c a (fun hf => ?_) (fun f hf => ?_)
 ·simp (disch:=omega)
  exact H7 hf
 obtain ⟨b,o,c,hsv,hsc,hbl,r0,r1,r2,g0,oro⟩:=a.row hf
 have d0:hcell h ⟨q,0,none⟩=some (.slice (some ⟨b,o,none⟩) 1 c):=hsv▸cellOf (i:=0) a.cells rfl
 have ox:=a.ps f hf
 obtain ⟨pa,pn,pc,hpv,hpl,hpc,hpne⟩:=ox.form
 rw [hpv] at r2 ox
 have hok:=a.ok f hf
 have hnl:=hok.now_len
 have hlast:=hok.few
 have hpf:=a.pfew f hf
 have hst:=a.stp
 unfold ptrV
 simp (disch:=omega) [d0,r0,r1,r2]
 refine Now_c ox hok omg fun h1 e1 => ?_
 by_cases hk0:k<0
 ·simp (disch:=omega) [hk0]
  exact H4 h1 f e1 hf (.inl hk0)
 by_cases hk1:(f.now.length:Int)<k
 ·simp (disch:=omega) [hk0,hk1]
  exact H4 h1 f e1 hf (.inr (.inl hk1))
 by_cases hn0:n<0
 ·simp (disch:=omega) [hk0,hk1,hn0]
  exact H4 h1 f e1 hf (.inr (.inr hn0))
 simp (disch:=omega) [hk0,hk1,hn0,Hp_min2]
 have hkn:k≤f.now.length:=by omega
 have hlst:List.drop k.toNat (List.take (k+if (f.now.length:Int)-k<n then (f.now.length:Int)-k else n).toNat f.now)=(f.now.drop k.toNat).take n.toNat:=by
  rw [List.take_drop]
  split
  ·rw [List.take_of_length_le omg,List.take_of_length_le omg]
  ·congr 2; omega
 rw [hlst]
 have hll:((f.now.drop k.toNat).take n.toNat).length≤f.now.length:=by rw [List.length_take,List.length_drop]; omega
 refine Hp_strBytes (e:=bT) kR kR kR omg (fun v' h' oS e2 fv _ => ?_)
 have z1:=e1.size
 exact H0 h' f v' (e1.trans e2) hf omg hkn omg oS.bytes (fun b hb=>by have:=fv b hb; omega)
end Go.Proofs.YtcbbdnaelimpfaaGreat
set_option linter.unusedSimpArgs false
set_option linter.unusedVariables false
namespace Go.Proofs.YtcbbdnaelimpfaaGreat
open Go.Vc
variable {K:VP} {h:Heap}

def Ps.create (p:Ps):Ps×Int:=match p.f with
 | some _=>(p,8)
 | none=>if fateE p.fates=0 then ({ p.stepped with f:=some ⟨fN,[],[]⟩ },0) else (p.stepped,fateE p.fates)
def Ps.remove (p:Ps):Ps×Int:=match p.f with
 | none=>(p,7)
 | some _=>if fateE p.fates=0 then ({ p.stepped with f:=none },0) else (p.stepped,fateE p.fates)
set_option maxHeartbeats 4000000 in
theorem rRemoveF_c {q:Nat} {m:Rm} {p:Ps} (a:RvM h q m p) (hs:p.steps+1<1000000) (H:∀h' m',RvU h h' q m m' p.remove.1→K (.int .i64 p.remove.2) h'):CallsH Tryz.prog 67 #[ptrV q,str fN] h K ⟨⟩:=by
 refine n67_calls ?_
 unfold n67; try delta vF vG vC vD vJ vV vk vt
 refine rfindF_c a (fun hf => ?_) (fun f hf => ?_)
 ·have h1:p.remove=(p,7):=by unfold Ps.remove; rw [hf]
  rw [h1] at H
  simp (disch:=omega)
  exact H h m (.refl a)
 obtain ⟨hE1,hE2⟩:=fateE_rng p.fates
 simp (disch:=omega)
 refine rstepF_c a hs fun h2 fv' kv u2 hkv kv0 kv1 => ?_
 have a2:=u2.at_
 by_cases h0:fateE p.fates=0
 ·have h1:p.remove=({ p.stepped with f:=none },0):=by unfold Ps.remove; rw [hf]; dsimp only; rw [if_pos h0]
  rw [h1] at H
  dsimp only at H
  have hf2:p.stepped.f=some f:=hf
  obtain ⟨b,o,c,hsv,hsc,hbl,r0,r1,r2,g0,oro⟩:=a2.row hf2
  dsimp only at hsv
  have d0:hcell h2 ⟨q,0,none⟩=some (.slice (some ⟨b,o,none⟩) 1 c):=hsv▸cellOf (i:=0) a2.cells rfl
  have f0:hfrozen h2 ⟨q,0,none⟩=false:=frzOf a2.cells
  unfold ptrV
  simp (disch:=omega) [h0,d0]
  have src0:=(oro.cut (hi:=0) (mx:=c) omg (Nat.le_refl _) omg).src
  rw [Nat.zero_mul,List.take_zero] at src0
  refine Hp_appendG (e:=rfT) (s:=3) (by_:=56) (n:=0) (k:=0) kR kR OwnG.nil rfl omg src0 sM omg omg fun v3 h3 o3 m3 b3 _ => ?_
  have e3:Ext h2 h3:=m3.ext_from (.refl _) (fun b hb e=>by cases e)
  have a3:=a2.ext e3
  have d3:hcell h3 ⟨q,0,none⟩=some (.slice (some ⟨b,o,none⟩) 1 c):=hcell_ext e3 d0
  simp (disch:=omega) [d3]
  have src1:=((oro.ext e3).dropO (lo:=1) omg).src
  rw [subO_some] at src1
  refine Hp_appendG (e:=rfT) (s:=3) (by_:=56) (n:=0) (k:=0) kR kR o3 rfl omg src1 sM omg omg fun v4 h4 o4 m4 b4 _ => ?_
  have hz3:=e3.size
  have f3:∀b,blkG v3=some b→h2.size≤b:=fun b hb=>(b3 b hb).elim (fun e=>by cases e) id
  have e4:Ext h2 h4:=m4.ext_from e3 (fun b hb e=>by have:=f3 b e; omega)
  have f4:hfrozen h4 ⟨q,0,none⟩=false:=frzOf (a2.ext e4).cells
  have d4:hcell h4 ⟨q,0,none⟩=some (.slice (some ⟨b,o,none⟩) 1 c):=hcell_ext e4 d0
  obtain ⟨va,vn,vc,rfl,-,-,-⟩:=o4.form
  simp (disch:=omega) [d4,f4]
  have u5:=a2.cell (m':={ sv := .slice va vn vc,fv:=fv',pv := .slice none 0 0 }) (p':={ p.stepped with f:=none }) (i:=0) e4 rfl o4 (fun f hf=>by cases hf) (a2.fat.ext e4) (fun f hf=>by cases hf) (fun f hf=>by cases hf) a2.stp (fun f hf=>by cases hf) a2.ffew a2.fok (fun _=>rfl) (fun x hx => ?_)
  ·exact H _ _ (u2.trans u5)
  ·rcases hx with hx|hx|hx|hx
   ·exact .inl (.inl hx)
   ·exact .inr ((b4 x hx).elim (f3 x) (fun e=>by omega))
   ·exact .inl (.inr (.inr (.inl hx)))
   ·cases hx
 ·have h1:p.remove=(p.stepped,fateE p.fates):=by unfold Ps.remove; rw [hf]; dsimp only; rw [if_neg h0]
  rw [h1] at H
  simp (disch:=omega) [h0]
  exact H h2 _ u2
set_option maxHeartbeats 4000000 in
theorem rCreateF_c {q:Nat} {m:Rm} {p:Ps} (a:RvM h q m p) (hs:p.steps+1<1000000) (H:∀h' m',RvU h h' q m m' p.create.1→K (.int .i64 p.create.2) h'):CallsH Tryz.prog 27 #[ptrV q,str fN] h K ⟨⟩:=by
 refine n27_calls ?_
 unfold n27; try delta vF vG vC vD vJ vV vk vt
 refine rfindF_c a (fun hf => ?_) (fun f hf => ?_)
 ·obtain ⟨hE1,hE2⟩:=fateE_rng p.fates
  have d0:hcell h ⟨q,0,none⟩=some m.sv:=cellOf a.cells rfl
  obtain ⟨sx,sc,hsv⟩:=a.norow hf
  rw [hsv] at d0
  unfold ptrV
  simp (disch:=omega) [d0]
  rw [show (.pointer (some ⟨q,0,none⟩):Value)=ptrV q from rfl]
  refine rstepF_c a hs fun h2 fv' kv u2 hkv kv0 kv1 => ?_
  have a2:=u2.at_
  by_cases h0:fateE p.fates=0
  ·have h1:p.create=({ p.stepped with f:=some ⟨fN,[],[]⟩ },0):=by unfold Ps.create; rw [hf]; dsimp only; rw [if_pos h0]
   rw [h1] at H
   dsimp only at H
   have d0:hcell h2 ⟨q,0,none⟩=some (.slice sx 0 sc):=by have:=cellOf (i:=0) a2.cells rfl; rw [this]; exact congrArg some hsv
   have f0:hfrozen h2 ⟨q,0,none⟩=false:=frzOf a2.cells
   unfold ptrV
   simp (disch:=omega) [h0]
   refine loopX1 (α:=Nat) (fun i => .int .i64 i) (fun i g=>i=0∧g=h2) (fun i=>0) 0 rfl ⟨rfl,rfl⟩ ?_
   rintro i g ⟨rfl,rfl⟩ X hX
   simp (disch:=omega) [d0]
   have o0:=a2.fs
   unfold fRow at o0
   have hf2:p.stepped.f=none:=hf
   rw [hf2] at o0
   dsimp only at o0
   rw [hsv] at o0
   obtain ⟨sa0,sn0,sc0,hsf,-,hsl,-⟩:=o0.form
   injection hsf with hs1 hs2 hs3
   subst hs3
   rw [Hp_slgNH (s:=3) kR omg omg,ValT_iff]
   have src0:=(o0.cut (hi:=0) (mx:=sc) omg (Nat.le_refl _) omg).src
   rw [Nat.zero_mul,List.take_zero] at src0
   refine Hp_appendG (e:=rfT) (s:=3) (by_:=56) (n:=0) (k:=0) kR kR OwnG.nil rfl omg src0 sM omg omg fun v3 h3 o3 m3 b3 _ => ?_
   have e3:Ext g h3:=m3.ext_from (.refl _) (fun b hb e=>by cases e)
   simp (disch:=omega)
   refine (⟨_,rfl⟩:∃G,G=h3.push (.cells #[str fN,str [],.slice none 0 0] rfT)).elim fun h4 eh4 => ?_
   have e4:Ext h3 h4:=by rw [eh4]; exact extS
   have sx:Src 3 h4 (.slice (some ⟨h3.size,0,none⟩) 1 1) 1 [str fN,str [],.slice none 0 0]:=by rw [eh4]; exact Src_new (vs:=[str fN,str [],.slice none 0 0]) rfl
   rw [show h3.push (.cells #[str fN,str [],.slice none 0 0] 129)=h4 from eh4.symm]
   clear eh4
   have hz3:=e3.size
   have hz4:=e4.size
   have f3:∀b,blkG v3=some b→g.size≤b:=fun b hb=>(b3 b hb).elim (fun e=>by cases e) id
   refine Hp_appendG (e:=rfT) (s:=3) (by_:=56) (n:=0) (k:=1) kR kR (o3.ext e4) rfl omg sx (by simp [one,str]) omg omg fun v5 h5 o5 m5 b5 _ => ?_
   have e5:Ext g h5:=m5.ext_from (e3.trans e4) (fun b hb e=>by have:=f3 b e; omega)
   have f5:∀b,blkG v5=some b→g.size≤b:=fun b hb=>(b5 b hb).elim (f3 b) (fun e=>by omega)
   have d5:=hcell_ext e5 d0
   simp (disch:=omega) [d5]
   rw [Hp_slgLN (s:=3) kR omg omg omg,ValT_iff]
   have src1:=((o0.ext e5).dropO (lo:=0) omg).src
   refine Hp_appendG (e:=rfT) (s:=3) (by_:=56) (n:=1) (k:=0) kR kR o5 rfl omg src1 sM omg omg fun v6 h6 o6 m6 b6 _ => ?_
   have hz5:=e5.size
   have e6:Ext g h6:=m6.ext_from e5 (fun b hb e=>by have:=f5 b e; omega)
   have d6:=hcell_ext e6 d0
   have f6:hfrozen h6 ⟨q,0,none⟩=false:=frzOf (a2.ext e6).cells
   obtain ⟨va,vn,vc,rfl,-,-,-⟩:=o6.form
   simp (disch:=omega) [d6,f6]
   have u7:=a2.cell (m':={ sv := .slice va vn vc,fv:=fv',pv := .slice none 0 0 }) (p':={ p.stepped with f:=some ⟨fN,[],[]⟩ }) (i:=0) e6 rfl o6 (fun f hf=>by cases hf; exact OwnG.nil) (a2.fat.ext e6) (fun f hf=>by cases hf; rfl) (fun f hf=>by cases hf; exact ⟨by decide,fun x hx=>by cases hx⟩) a2.stp (fun f hf=>by cases hf; exact Nat.zero_le _) a2.ffew a2.fok (fun e=>by cases e) (fun x hx => ?_)
   ·exact H _ _ (u2.trans u7)
   ·rcases hx with hx|hx|hx|hx
    ·exact .inl (.inl hx)
    ·exact .inr ((b6 x hx).elim (f5 x) (fun e=>by omega))
    ·exact .inl (.inr (.inr (.inl hx)))
    ·cases hx
  ·have h1:p.create=(p.stepped,fateE p.fates):=by unfold Ps.create; rw [hf]; dsimp only; rw [if_neg h0]
   rw [h1] at H
   simp (disch:=omega) [h0]
   exact H h2 _ u2
 ·have h1:p.create=(p,8):=by unfold Ps.create; rw [hf]
  rw [h1] at H
  simp (disch:=omega)
  exact H h m (.refl a)
end Go.Proofs.YtcbbdnaelimpfaaGreat
set_option linter.unusedSimpArgs false
set_option linter.unusedVariables false
namespace Go.Proofs.YtcbbdnaelimpfaaGreat
open Go.Vc
variable {K:VP} {h:Heap}

theorem rvNew_c (H:∀h' q m,Ext h h'→RvM h' q m ⟨none,[],0⟩→(∀b,RvF q m b→h.size≤b)→K (ptrV q) h'):CallsH Tryz.prog 26 #[.slice none 0 0] h K ⟨⟩:=by
 refine n26_calls ?_
 unfold n26; try delta vF vG vC vD vJ vV vk vt
 have src0:Src 2 h (.slice none 0 0) 0 []:=(OwnG.nil (e:=aT) (s:=2) (h:=h) (a:=none)).src
 refine Hp_appendG (e:=aT) (s:=2) (by_:=16) (n:=0) (k:=0) kR kR OwnG.nil rfl omg src0 sM omg omg fun v3 h3 o3 m3 b3 _ => ?_
 have e3:Ext h h3:=m3.ext_from (.refl _) (fun b hb e=>by cases e)
 have f3:∀b,blkG v3=some b→h.size≤b:=fun b hb=>(b3 b hb).elim (fun e=>by cases e) id
 obtain ⟨va,vn,vc,rfl,-,-,-⟩:=o3.form
 simp (disch:=omega)
 refine (⟨_,rfl⟩:∃G,G=h3.push (.cells #[.slice none 0 0,.slice va vn vc,.int .i64 0] rsT)).elim fun h4 eh4 => ?_
 have e4:Ext h3 h4:=by rw [eh4]; exact extS
 have q4:h4[h3.size]? = some (.cells #[.slice none 0 0,.slice va vn vc,.int .i64 0] rsT):=by rw [eh4]; exact get_pushed rfl
 rw [show h3.push (.cells #[.slice none 0 0,.slice va vn vc,.int .i64 0] 68)=h4 from eh4.symm]
 clear eh4
 have hz:=e3.size
 refine H h4 h3.size ⟨.slice none 0 0,.slice va vn vc,.slice none 0 0⟩ (e3.trans e4) ⟨q4,OwnG.nil,(fun f hf=>by cases hf),o3.ext e4,(fun f hf=>by cases hf),(fun f hf=>by cases hf),by decide,(fun f hf=>by cases hf),by decide,(fun f hf=>by cases hf),fun _=>rfl⟩ (fun b hb => ?_)
 rcases hb with hb|hb|hb|hb
 ·omega
 ·cases hb
 ·exact f3 b hb
 ·cases hb
set_option maxHeartbeats 4000000 in
theorem rResizeF_c {q:Nat} {m:Rm} {p:Ps} {n:Nat} (a:RvM h q m p) (hf:p.f=some ⟨fN,[],[]⟩) (hfa:p.fates=[]) (hs:p.steps+1<1000000) (hn:n≤268435456) (H:∀h' m',RvU h h' q m m' ⟨some (fl0 n),[],p.steps+1⟩→K (.int .i64 0) h'):CallsH Tryz.prog 28 #[ptrV q,str fN,.int .i64 n] h K ⟨⟩:=by
 refine n28_calls ?_
 unfold n28; try delta vF vG vC vD vJ vV vk vt
 refine rfindF_c a (fun hf'=>by rw [hf] at hf'; cases hf') (fun f hf' => ?_)
 obtain rfl:f=⟨fN,[],[]⟩:=by rw [hf] at hf'; exact (Option.some.inj hf').symm
 simp (disch:=omega)
 refine rstepF_c a hs fun h2 fv' kv u2 hkv kv0 kv1 => ?_
 have hE:fateE p.fates=0:=by rw [hfa]; rfl
 rw [hE]
 have a2:=u2.at_
 have hf2:p.stepped.f=some ⟨fN,[],[]⟩:=hf
 obtain ⟨b,o,c,hsv,hsc,hbl,r0,r1,r2,g0,oro⟩:=a2.row hf2
 dsimp only at hsv r1 r2
 have d0:hcell h2 ⟨q,0,none⟩=some (.slice (some ⟨b,o,none⟩) 1 c):=hsv▸cellOf (i:=0) a2.cells rfl
 have ox:=a2.ps _ hf2
 obtain ⟨pa,pn,pc,hpv,hpl,hpc,hpne⟩:=ox.form
 obtain rfl:pn=0:=by simp at hpl; omega
 dsimp only at hpv ox
 rw [hpv] at r2 ox
 unfold ptrV
 simp (disch:=omega) [d0,r0,r1,r2]
 generalize hg3:hset _ (⟨h2.size,2,none⟩:Addr) _=g3
 have e3:Ext h2 g3:=by rw [←hg3]; exact put3_ext extS (Nat.le_refl _)
 have q3:g3[h2.size]? = some (.cells #[str fN,str [],.slice pa 0 pc] rfT):=by rw [←hg3]; exact put3 (get_pushed rfl)
 clear hg3
 refine noughts_c omg omg fun g4 e4 => ?_
 rw [Int.toNat_natCast]
 have q4:=(e4.block _ (get_some_lt q3)).trans q3
 have w1:=cellOf (i:=1) q4 rfl
 have s1:=frzOf (i:=1) q4
 have hzl:(zeros n).length=n:=zeros_len n
 simp (disch:=omega) [w1,s1]
 rw [Hp_addStr (by simp; omega),List.nil_append]
 have htk:(zeros n).take n=zeros n:=List.take_of_length_le omg
 simp (disch:=omega) [w1,s1,htk]
 have q5:(hset g4 ⟨h2.size,1,none⟩ (str (zeros n)))[h2.size]? = some (.cells #[str fN,str (zeros n),.slice pa 0 pc] rfT):=obj_set q4
 have e5:Ext h2 (hset g4 ⟨h2.size,1,none⟩ (str (zeros n))):=hset_ext (e3.trans e4) sM
 generalize hset g4 ⟨h2.size,1,none⟩ (str (zeros n))=g5 at *
 have v2:=cellOf (i:=2) q5 rfl
 have v0:=cellOf (i:=0) q5 rfl
 have v1:=cellOf (i:=1) q5 rfl
 have t2:=frzOf (i:=2) q5
 refine loopX2 (α:=Nat) (fun _ => .slice none 0 0) (fun i => .int .i64 i) (fun i g=>i=0∧g=g5) (fun i=>0) 0 ⟨rfl,rfl⟩ ⟨rfl,rfl⟩ ?_
 rintro i g ⟨rfl,rfl⟩ X hX
 have a5:=a2.ext e5
 obtain ⟨b2,o2,c2,hsv2,-,-,u0,u1,u2',t0,-⟩:=a5.row hf2
 have d3:hcell g ⟨q,0,none⟩=some (.slice (some ⟨b,o,none⟩) 1 c):=hsv▸cellOf (i:=0) a5.cells rfl
 dsimp only at hsv2
 rw [hsv] at hsv2
 cases hsv2
 have hxb:¬b=h2.size:=by omega
 have hbx:¬h2.size=b:=by omega
 have t00:=t0 0 omg
 have t01:=t0 1 omg
 have t02:=t0 2 omg
 rw [Nat.add_zero] at t00
 have hqs:¬q=h2.size:=by have:=get_some_lt a2.cells; omega
 have hqs':¬h2.size=q:=by omega
 simp (disch:=omega) [v0,v1,v2,t2,d3,t00,t01,t02,u0,u1,u2',hxb,hbx,hqs,hqs']
 have e6:Ext h2 (hset g ⟨h2.size,2,none⟩ (.slice none 0 0)):=hset_ext e5 sM
 have u5:=a2.put3 (f':=fl0 n) (v := .slice none 0 0) e6 hf2 hsv hsc rfl ⟨by show (zeros n).length≤_; omega,fun x hx=>by cases hx⟩ (Nat.zero_le _) OwnG.nil (fun x hx=>by cases hx)
 have hps:p.stepped=⟨p.f,[],p.steps+1⟩:=by unfold Ps.stepped; rw [hfa]; rfl
 have u6:=u2.trans u5
 rw [hps] at u6
 exact H _ _ u6
end Go.Proofs.YtcbbdnaelimpfaaGreat

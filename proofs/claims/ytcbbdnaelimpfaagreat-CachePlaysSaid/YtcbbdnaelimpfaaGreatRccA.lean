/- The document's cache: a page is read,and written. The document's cache: a page is written back; all of them; one is dropped. The document's cache: the state of a page; who waits for whom. The document's cache: one page is to wait for another; a cache is made. -/
import Derived.Test.YtcbbdnaelimpfaaGreatRcbA
set_option linter.unusedSimpArgs false
set_option linter.unusedVariables false
namespace Go.Proofs.YtcbbdnaelimpfaaGreat
open Go.Vc
variable {K:VP} {h:Heap}

set_option maxHeartbeats 1000000 in
theorem may_c {o:Nat} {c:Rc} {n:Int} (a:RcM h o c) (hb:c.bits≤16) (H:K (.bool (decide (askE c.bits n=0))) h):CallsH Tryz.prog 96 #[ptrV o,.int .i64 n] h K ⟨⟩:=by
 refine n96_calls ?_
 unfold n96 ptrV; try delta vF vG vC vD vJ vV vk vt
 have c2:=rc2 a.cells
 obtain ⟨W,hW⟩:∃W,2^c.bits=W:=⟨_,rfl⟩
 obtain ⟨w0,w1⟩:=shrP hb
 rw [hW] at w0 w1
 unfold askE at H
 rw [hW] at H
 have hs:=fun (q:Bool) (tt:Nat) (o1 o2:Go.Operand) (g:Heap) (K:VP)=>Hp_shrW (P:=Tryz.prog) (q:=q) (t:=tt) (x:=o1) (y:=o2) (k' := .i64) (K:=K) (h:=g) (a:=268435456) hW omg omg
 by_cases h0:n<0
 ·rw [if_pos (.inl h0)] at H
  simp (disch:=omega) [c2,h0]
  exact H
 ·by_cases h1:(268435456:Int)/(W:Int)≤n
  ·rw [if_pos (.inr h1)] at H
   simp (disch:=omega) [c2,h0,hs,h1]
   exact H
  ·rw [if_neg (fun e=>e.elim h0 h1)] at H
   simp (disch:=omega) [c2,h0,hs,h1]
   exact H
theorem useE_cases (bits:Nat) (n at_ k:Int):(askE bits n≠0∧useE bits n at_ k≠0)∨(askE bits n=0∧(at_<0∨k<0∨((2^bits:Nat):Int)<at_∨((2^bits:Nat):Int)-at_<k)∧useE bits n at_ k≠0)∨(askE bits n=0∧0≤at_∧0≤k∧at_≤((2^bits:Nat):Int)∧k≤((2^bits:Nat):Int)-at_∧useE bits n at_ k=0):=by
 unfold useE
 by_cases h1:askE bits n≠0
 ·rw [if_pos h1]; exact .inl ⟨h1,by decide⟩
 ·rw [if_neg h1]
  have h1:askE bits n=0:=Decidable.not_not.1 h1
  by_cases h2:at_<0∨k<0∨((2^bits:Nat):Int)<at_∨((2^bits:Nat):Int)-at_<k
  ·rw [if_pos h2]; exact .inr (.inl ⟨h1,h2,by decide⟩)
  ·rw [if_neg h2]
   simp only [not_or,Int.not_lt] at h2
   exact .inr (.inr ⟨h1,h2.1,h2.2.1,h2.2.2.1,h2.2.2.2,rfl⟩)
set_option maxHeartbeats 16000000 in
theorem qRead_c {rk:Int→Nat} {f:Nat} {o:Nat} {r:Rc} {m:Rm} {c:Ca} {p:Ps} {n at_ k:Int} {pb bb:Nat} (hf:∀n,rk n<f) (hr:Ranks rk c) (a:RaM h o r m p) (R:Rel r c) (pl:Pl (c,p)) (inv:Inv c) (hr1:1≤c.room) (hr2:c.room≤1024) (hb1:c.bits≤16) (hPr:c.P.length≤c.room) (hclk:c.clock+1<1000000) (hs:p.steps+2*c.dN+4<1000000)
 (a0 : -9223372036854775808≤at_) (a1:at_<9223372036854775808) (k0 : -9223372036854775808≤k) (k1:k<9223372036854775808)
 (hD:useE c.bits n at_ k=0→(useP f n pb bb (c,p)).2=0→∀g,(useP f n pb bb (c,p)).1.1.get n=some g→g.D.length=2^c.bits)
 (H2:useE c.bits n at_ k≠0→K (.tuple #[.slice none 0 0,.int .i64 2]) h)
 (He:∀h' r' m',useE c.bits n at_ k=0→(useP f n pb bb (c,p)).2≠0→RaU h h' o r m r' m' (useP f n pb bb (c,p)).1.2→Rel r' (useP f n pb bb (c,p)).1.1→r'.q=r.q→K (.tuple #[.slice none 0 0,.int .i64 (useP f n pb bb (c,p)).2]) h')
 (Hw:∀h' r' m' g v,useE c.bits n at_ k=0→(useP f n pb bb (c,p)).2=0→RaU h h' o r m r' m' (useP f n pb bb (c,p)).1.2→Rel r' (useP f n pb bb (c,p)).1.1→r'.q=r.q→(useP f n pb bb (c,p)).1.1.get n=some g→OwnG bT 1 h' v (((g.D.drop at_.toNat).take k.toNat).map byteV)→(∀b,blkG v=some b→h.size≤b∧¬RaF o r' m' b)→K (.tuple #[v,.int .i64 0]) h') :
 CallsH Tryz.prog 60 #[ptrV o,.int .i64 n,.int .i64 at_,.int .i64 k] h K ⟨⟩:=by
 refine n60_calls ?_
 unfold n60; try delta vF vG vC vD vJ vV vk vt
 have hbr:=R.bits
 have c2:=rc2 a.c.cells
 rw [hbr] at c2
 refine may_c a.c omg ?_
 rw [hbr]
 obtain ⟨W,hW⟩:∃W,2^c.bits=W:=⟨_,rfl⟩
 have hW1:1≤W:=by rw [←hW]; exact Nat.one_le_two_pow
 have hW2:W≤65536:=by
  rw [←hW]
  calc 2^c.bits≤2^16:=Nat.pow_le_pow_right omg hb1
   _=65536:=by decide
 have hs1:=fun (q:Bool) (tt:Nat) (o1 o2:Go.Operand) (g:Heap) (K:VP)=>Hp_shlW (P:=Tryz.prog) (q:=q) (t:=tt) (x:=o1) (y:=o2) (k' := .i64) (K:=K) (h:=g) (a:=1) hW omg omg omg
 unfold ptrV
 rcases useE_cases c.bits n at_ k with ⟨h1,h2⟩|⟨h1,h3,h2⟩|⟨h1,h3,h4,h5,h6,h2⟩
 ·rw [decide_eq_false h1]
  simp (disch:=omega)
  exact H2 h2
 ·rw [decide_eq_true h1]
  have H2:=H2 h2
  rw [hW] at h3
  by_cases e1:at_<0
  ·simp (disch:=omega) [e1]
   exact H2
  by_cases e2:k<0
  ·simp (disch:=omega) [e1,e2]
   exact H2
  by_cases e3:(W:Int)<at_
  ·simp (disch:=omega) [e1,e2,c2,hs1,e3]
   exact H2
  have e4:(W:Int)-at_<k:=by omega
  simp (disch:=omega) [e1,e2,c2,hs1,e3,e4]
  exact H2
 ·rw [decide_eq_true h1]
  rw [hW] at h5 h6
  obtain ⟨n0,n1⟩:=ask_ok hb1 h1
  simp (disch:=omega) [c2,hs1]
  rw [show (.pointer (some ⟨o,0,none⟩):Value)=ptrV o from rfl]
  refine ruse_c (rk:=rk) (pb:=pb) (bb:=bb) hf hr a R pl inv hr1 hr2 hb1 hPr hclk hs n0 n1 (fun h7 r7 m7 hne U R7 q7 => ?_) (fun h7 r7 m7 i hok hi hin U R7 q7 => ?_)
  ·simp (disch:=omega) [hne]
   exact He h7 r7 m7 h2 hne U R7 q7
  ·have A7:=U.at_
   obtain ⟨b,t,kk,hv,hk,⟨w0,w1,w2,w3⟩,pfz⟩:=A7.c.pg (i:=i) hi
   have c4:=rc4 A7.c.cells
   rw [hv] at c4
   have hl7:=A7.c.ok.lf
   obtain ⟨g,hg,hgD,-,-⟩:=R7.get A7.c.ok.sort (List.getElem_mem hi)
   rw [hin] at hg
   have hlen:=hD h2 hok g hg
   rw [hW,hgD] at hlen
   have on:=A7.c.by_ _ (List.getElem_mem hi)
   obtain ⟨sa,sn,sc,hbv,hsn,hsc,hsne⟩:=on.form
   rw [List.length_map] at hsn
   rw [hbv] at w1 on
   obtain ⟨A,rfl⟩:=Int.eq_ofNat_of_zero_le h3
   obtain ⟨B,rfl⟩:=Int.eq_ofNat_of_zero_le h4
   obtain ⟨sb,so,rfl⟩:=hsne (fun e=>by
    have h0:=congrArg List.length e
    rw [List.length_map,hlen,List.length_nil] at h0
    omega)
   have hon:¬o=h7.size:=by have:=get_some_lt A7.c.cells; omega
   have hbn:¬b=h7.size:=by
    have hlb:blkG r7.lv=some b:=by
     rw [hv]
     obtain ⟨k',rfl⟩:∃k',kk=k'+1:=⟨kk-1,by omega⟩
     rfl
    have:=A7.c.L.lt hlb
    omega
   unfold ptrV
   simp (disch:=omega) [c4,w1,hon,hbn]
   have eP:Ext h7 (Array.push h7 (.cells #[] 5)):=extS
   have zP:(Array.push h7 (.cells #[] 5)).size=h7.size+1:=by simp
   generalize Array.push h7 (.cells #[] 5)=h8 at *
   have on8:=on.ext eP
   have od:=(on8.drop (lo:=A) omg).cut (hi:=B) (mx:=sc-A) omg omg omg
   rw [subS_one,Nat.mul_one,Nat.mul_one,←List.map_drop,←List.map_take] at od
   have o0:OwnG bT 1 h8 (.slice (some ⟨h7.size,0,none⟩) 0 0) [] := .inl ⟨_,rfl,rfl⟩
   refine Hp_appendG (e:=bT) (s:=1) (by_:=1) (n:=0) (k:=B) kR kR o0 rfl omg od.src (one_bytes _) omg omg fun v h9 o9 m9 f9 _ => ?_
   rw [List.nil_append,←hgD] at o9
   have e9:Ext h7 h9:=m9.ext_from eP (fun b hb e=>by cases e)
   have hz:=U.mod.size
   exact Hw h9 r7 m7 g v h2 hok (U.ext e9) R7 q7 hg (by rw [Int.toNat_natCast,Int.toNat_natCast]; exact o9) (fun b hb=>(f9 b hb).elim (fun e=>by cases e) (fun e=>⟨by omega,fun e'=>by have:=A7.lt e'; omega⟩))
theorem rgV_setD:∀(l:List Rp) (i:Nat) (hi:i<l.length) (D:List UInt8),(l.set i { l[i] with D:=D }).flatMap rgV=l.flatMap rgV
 | x::l,0,_,D=>rfl
 | x::l,i+1,hi,D=>by
  show rgV x++(l.set i { l[i]'(by simpa using hi) with D:=D }).flatMap rgV=rgV x++l.flatMap rgV
  rw [rgV_setD l i (by simpa using hi) D]
theorem RcM.bytes {o i:Nat} {c:Rc} {g:Heap} {D':List UInt8} (a:RcM h o c) (hi:i<c.L.length) (m:Mod (fun b=>blkG c.L[i].bv=some b) h g) (ob:OwnG bT 1 g c.L[i].bv (D'.map byteV)):RcU h g o c { c with L:=c.L.set i { c.L[i] with D:=D' } }:=by
 have oi:=a.by_ _ (List.getElem_mem hi)
 obtain ⟨n1,n2,n3,n4,n5,n6,n7,n8,n9,n10⟩:=rc_ne
 have hget:∀j (hj:j<(c.L.set i { c.L[i] with D:=D' }).length),∃hj':j<c.L.length,(c.L.set i { c.L[i] with D:=D' })[j].bv=c.L[j].bv∧(c.L.set i { c.L[i] with D:=D' })[j].n=c.L[j].n:=fun j hj=>by
  rw [List.length_set] at hj
  refine ⟨hj,?_⟩
  rw [List.getElem_set]
  split
  ·rename_i e; subst e; exact ⟨rfl,rfl⟩
  ·exact ⟨rfl,rfl⟩
 have hne:∀{e s:Nat} {v:Value} {vs:List Value},OwnG e s h v vs→e≠bT→∀b,blkG v=some b→¬blkG c.L[i].bv=some b:=fun {e s v vs} ov hne b hb hb2=>by
  obtain ⟨arr,h1⟩:=oi.tag hb2
  exact ov.ne hb h1 hne rfl
 refine ⟨⟨(m.block _ (get_some_lt a.cells) (fun e => ?_)).trans a.cells,?_,fun x hx => ?_,a.N.mod m (hne a.N n10),a.W.mod m (hne a.W n9),⟨by rw [List.length_set]; exact a.ok.lf,a.ok.nf,a.ok.wf,?_,?_⟩⟩,m.mono (fun b _ e => .inr (.inr (.inr (.inr ⟨_,List.getElem_mem hi,e⟩)))),fun b hb => .inl ?_,Nat.le_refl _⟩
 ·obtain ⟨arr,h1⟩:=oi.tag e
  have:=a.cells
  rw [h1] at this
  cases this
 ·show OwnG rgT 4 _ c.lv _
  rw [rgV_setD]
  exact a.L.mod m (hne a.L n7)
 ·obtain ⟨j,hj,rfl⟩:=List.getElem_of_mem hx
  have hj':j<c.L.length:=by simpa using hj
  dsimp only
  rw [List.getElem_set]
  split
  ·exact ob
  ·rename_i e
   refine (a.by_ _ (List.getElem_mem hj')).mod m (fun b hb hb2 => ?_)
   have hap:=List.pairwise_iff_getElem.1 a.ok.ap
   rcases Nat.lt_or_gt_of_ne e with h3|h3
   ·exact hap i j hi hj' h3 b hb2 hb
   ·exact hap j i hj' hi h3 b hb hb2
 ·rw [List.pairwise_iff_getElem]
  intro p q hp hq hpq
  obtain ⟨hp',e1,-⟩:=hget p hp
  obtain ⟨hq',e2,-⟩:=hget q hq
  rw [e1,e2]
  exact List.pairwise_iff_getElem.1 a.ok.ap p q hp' hq' hpq
 ·rw [List.pairwise_iff_getElem]
  intro p q hp hq hpq
  obtain ⟨hp',-,e1⟩:=hget p hp
  obtain ⟨hq',-,e2⟩:=hget q hq
  rw [e1,e2]
  exact List.pairwise_iff_getElem.1 a.ok.sort p q hp' hq' hpq
 ·rcases hb with hb|hb|hb|hb|⟨x,hx,hb⟩
  ·exact .inl hb
  ·exact .inr (.inl hb)
  ·exact .inr (.inr (.inl hb))
  ·exact .inr (.inr (.inr (.inl hb)))
  ·obtain ⟨j,hj,rfl⟩:=List.getElem_of_mem hx
   obtain ⟨hj',e1,-⟩:=hget j hj
   dsimp only at hb
   rw [e1] at hb
   exact .inr (.inr (.inr (.inr ⟨_,List.getElem_mem hj',hb⟩)))
theorem Rel.wrote {r:Rc} {c:Ca} (a:Rel r c) (s:r.L.Pairwise fun x y=>x.n<y.n) {i k:Nat} {b:List UInt8} (hi:i<r.L.length):Rel { r with L:=r.L.set i { r.L[i] with D:=Vc.over r.L[i].D k b,d:=r.L[i].d || decide (0<b.length) } } (c.wrote r.L[i].n k b):=by
 refine ⟨a.bits,a.room,a.clock,a.hits,a.loads,a.backs,a.flushes,?_,a.N,a.W,a.nb⟩
 show ((r.L.set i _).map st1).Perm ((c.P.map (Pge.put r.L[i].n k b)).map st2)
 obtain ⟨F,hF⟩:∃F:Int×List UInt8×Bool×Nat→Int×List UInt8×Bool×Nat,F=fun t=>if t.1=r.L[i].n then (t.1,Vc.over t.2.1 k b,t.2.2.1 || decide (0<b.length),t.2.2.2) else t:=⟨_,rfl⟩
 rw [set_map hi s F (by rw [hF]; simp [st1]) (fun t ht=>by rw [hF]; simp [ht])]
 have h2:(c.P.map (Pge.put r.L[i].n k b)).map st2=(c.P.map st2).map F:=by
  rw [List.map_map,List.map_map]
  apply List.map_congr_left
  intro g _
  show st2 (g.put _ _ _)=F (st2 g)
  rw [hF]
  unfold Pge.put st2
  dsimp only
  split<;>rfl
 rw [h2]
 exact a.L.map F
set_option maxHeartbeats 16000000 in
theorem qWrite_c {rk:Int→Nat} {f:Nat} {o:Nat} {r:Rc} {m:Rm} {c:Ca} {p:Ps} {n at_:Int} {v:Value} {b:List UInt8} {pb bb:Nat} (hf:∀n,rk n<f) (hr:Ranks rk c) (a:RaM h o r m p) (R:Rel r c) (pl:Pl (c,p)) (inv:Inv c) (hr1:1≤c.room) (hr2:c.room≤1024) (hb1:c.bits≤16) (hPr:c.P.length≤c.room) (hclk:c.clock+1<1000000) (hs:p.steps+2*c.dN+4<1000000)
 (a0 : -9223372036854775808≤at_) (a1:at_<9223372036854775808) (hB:Bytes h v b) (hbl:b.length<9223372036854775808) (hv:∀d,b≠[]→blkV v=some d→d<h.size→¬RaF o r m d)
 (hD:useE c.bits n at_ b.length=0→(useP f n pb bb (c,p)).2=0→∀g,(useP f n pb bb (c,p)).1.1.get n=some g→g.D.length=2^c.bits)
 (H2:useE c.bits n at_ b.length≠0→K (.int .i64 2) h)
 (He:∀h' r' m',useE c.bits n at_ b.length=0→(useP f n pb bb (c,p)).2≠0→RaU h h' o r m r' m' (useP f n pb bb (c,p)).1.2→Rel r' (useP f n pb bb (c,p)).1.1→r'.q=r.q→K (.int .i64 (useP f n pb bb (c,p)).2) h')
 (Hw:∀h' r' m',useE c.bits n at_ b.length=0→(useP f n pb bb (c,p)).2=0→RaU h h' o r m r' m' (useP f n pb bb (c,p)).1.2→Rel r' ((useP f n pb bb (c,p)).1.1.wrote n at_.toNat b)→r'.q=r.q→K (.int .i64 0) h') :
 CallsH Tryz.prog 61 #[ptrV o,.int .i64 n,.int .i64 at_,v] h K ⟨⟩:=by
 refine n61_calls ?_
 unfold n61; try delta vF vG vC vD vJ vV vk vt
 obtain ⟨va,vc,rfl⟩:=hB.form
 have hbr:=R.bits
 have c2:=rc2 a.c.cells
 rw [hbr] at c2
 refine may_c a.c omg ?_
 rw [hbr]
 obtain ⟨W,hW⟩:∃W,2^c.bits=W:=⟨_,rfl⟩
 have hW1:1≤W:=by rw [←hW]; exact Nat.one_le_two_pow
 have hW2:W≤65536:=by
  rw [←hW]
  calc 2^c.bits≤2^16:=Nat.pow_le_pow_right omg hb1
   _=65536:=by decide
 have hs1:=fun (q:Bool) (tt:Nat) (o1 o2:Go.Operand) (g:Heap) (K:VP)=>Hp_shlW (P:=Tryz.prog) (q:=q) (t:=tt) (x:=o1) (y:=o2) (k' := .i64) (K:=K) (h:=g) (a:=1) hW omg omg omg
 unfold ptrV
 rcases useE_cases c.bits n at_ b.length with ⟨h1,h2⟩|⟨h1,h3,h2⟩|⟨h1,h3,h4,h5,h6,h2⟩
 ·rw [decide_eq_false h1]
  simp (disch:=omega)
  exact H2 h2
 ·rw [decide_eq_true h1]
  have H2:=H2 h2
  rw [hW] at h3
  by_cases e1:at_<0
  ·simp (disch:=omega) [e1]
   exact H2
  by_cases e3:(W:Int)<at_
  ·simp (disch:=omega) [e1,c2,hs1,e3]
   exact H2
  have e4:(W:Int)-at_<b.length:=by omega
  simp (disch:=omega) [e1,c2,hs1,e3,e4]
  exact H2
 ·rw [decide_eq_true h1]
  rw [hW] at h5 h6
  obtain ⟨n0,n1⟩:=ask_ok hb1 h1
  simp (disch:=omega) [c2,hs1]
  rw [show (.pointer (some ⟨o,0,none⟩):Value)=ptrV o from rfl]
  refine ruse_c (rk:=rk) (pb:=pb) (bb:=bb) hf hr a R pl inv hr1 hr2 hb1 hPr hclk hs n0 n1 (fun h7 r7 m7 hne U R7 q7 => ?_) (fun h7 r7 m7 i hok hi hin U R7 q7 => ?_)
  ·simp (disch:=omega) [hne]
   exact He h7 r7 m7 h2 hne U R7 q7
  ·have A7:=U.at_
   obtain ⟨b2,t,kk,hlv,hk,⟨w0,w1,w2,w3⟩,pfz⟩:=A7.c.pg (i:=i) hi
   have c4:=rc4 A7.c.cells
   rw [hlv] at c4
   have hl7:=A7.c.ok.lf
   obtain ⟨g,hg,hgD,-,-⟩:=R7.get A7.c.ok.sort (List.getElem_mem hi)
   rw [hin] at hg
   have hlen:=hD h2 hok g hg
   rw [hW,hgD] at hlen
   have on:=A7.c.by_ _ (List.getElem_mem hi)
   obtain ⟨sa,sn,sc,hbv,hsn,hsc,hsne⟩:=on.form
   rw [List.length_map] at hsn
   rw [hbv] at w1 on
   obtain ⟨A,rfl⟩:=Int.eq_ofNat_of_zero_le h3
   obtain ⟨sb,so,rfl⟩:=hsne (fun e=>by
    have h0:=congrArg List.length e
    rw [List.length_map,hlen,List.length_nil] at h0
    omega)
   have hB1:Bytes h7 (.slice va b.length vc) b:=hB.modX U.mod hv
   unfold ptrV
   simp (disch:=omega) [c4,w1]
   refine Hp_copyG (e:=bT) (lo:=A) (m:=sn-A) kR on omg hB1 fun h8 o8 m8 => ?_
   have htk:b.take (sn-A)=b:=List.take_of_length_le omg
   rw [htk] at o8
   have u8:=A7.c.bytes (g:=h8) hi (by rw [hbv]; exact m8) (by rw [hbv]; exact o8)
   have U8:=U.trans (u8.a A7 rfl)
   have A8:=U8.at_
   have hi8:i<(r7.L.set i { r7.L[i] with D:=Vc.over r7.L[i].D A b }).length:=by rw [List.length_set]; exact hi
   obtain ⟨b3,t3,k3,hlv3,hk3,⟨-,-,x2,-⟩,pf8⟩:=A8.c.pg (i:=i) hi8
   dsimp only at hlv3 x2
   rw [List.length_set] at hlv3
   rw [hlv] at hlv3
   injection hlv3 with e1 e2 e3
   injection e1 with e1
   injection e1 with e1 e4
   subst e1 e4 e3
   rw [List.getElem_set_self] at x2
   dsimp only at x2
   have pf2:=pf8 2 omg
   have d4:=rc4 A8.c.cells
   dsimp only at d4
   rw [hlv] at d4
   have hr8:({ r7 with L:=r7.L.set i { r7.L[i] with D:=Vc.over r7.L[i].D A b } }:Rc).L[i]'hi8={ r7.L[i] with D:=Vc.over r7.L[i].D A b }:=List.getElem_set_self ..
   have fin:∀d',d'=(r7.L[i].d || decide (0<b.length))→K (.int .i64 0) (hset h8 (elt ⟨b2,t,none⟩ (i*4+2)) (.bool d')):=fun d' hd'=>by
    have u9:=A8.c.setP (k:=2) (v := .bool d') (x':={ r7.L[i] with D:=Vc.over r7.L[i].D A b,d:=d' }) hi8 omg (by dsimp only; rw [hlv,List.length_set]) (by dsimp only; rw [List.length_set]; exact hk) (by rw [hr8]; rfl) (by rw [hr8]) (by rw [hr8]) (by rw [hr8])
    have R9:=R7.wrote (k:=A) (b:=b) A7.c.ok.sort hi
    rw [hin] at R9
    have U9:=U8.trans (u9.a A8 rfl)
    have hL:({ r7 with L:=(r7.L.set i { r7.L[i] with D:=Vc.over r7.L[i].D A b }).set i { r7.L[i] with D:=Vc.over r7.L[i].D A b,d:=d' } }:Rc)={ r7 with L:=r7.L.set i { r7.L[i] with D:=Vc.over r7.L[i].D A b,d:=r7.L[i].d || decide (0<b.length) } }:=by
     rw [List.set_set,hd']
    have U9':RaU h (hset h8 (elt ⟨b2,t,none⟩ (i*4+2)) (.bool d')) o r m { r7 with L:=(r7.L.set i { r7.L[i] with D:=Vc.over r7.L[i].D A b }).set i { r7.L[i] with D:=Vc.over r7.L[i].D A b,d:=d' } } m7 (useP f n pb bb (c,p)).1.2:=U9
    rw [hL] at U9'
    refine Hw _ _ m7 h2 hok U9' ?_ q7
    rw [Int.toNat_natCast]
    exact R9
   cases hgd:r7.L[i].d with
   | true =>
    rw [hgd] at x2 fin
    simp (disch:=omega) [d4,x2,pf2]
    exact fin _ rfl
   | false =>
    rw [hgd] at x2 fin
    rw [Bool.false_or] at fin
    simp (disch:=omega) [d4,x2,pf2]
    refine Split.mk (fun e => ?_) (fun e => ?_)
    ·simp (disch:=omega) [d4,x2,pf2]
     exact fin _ (by rw [decide_eq_true e])
    ·simp (disch:=omega) [d4,x2,pf2]
     exact fin _ (by rw [decide_eq_false e])
end Go.Proofs.YtcbbdnaelimpfaaGreat
set_option linter.unusedSimpArgs false
set_option linter.unusedVariables false
namespace Go.Proofs.YtcbbdnaelimpfaaGreat
open Go.Vc
variable {K:VP} {h:Heap}

set_option maxHeartbeats 4000000 in
theorem qBack_c {rk:Int→Nat} {f:Nat} {o:Nat} {r:Rc} {m:Rm} {c:Ca} {p:Ps} {n:Int} (hf:∀n,rk n<f) (hr:Ranks rk c) (a:RaM h o r m p) (R:Rel r c) (pl:Pl (c,p)) (hs:p.steps+2*c.dN+4<1000000)
 (H:∀h' r' m',RaU h h' o r m r' m' (backC f n (c,p)).1.2→Rel r' (backC f n (c,p)).1.1→r'.q=r.q→K (.int .i64 (backC f n (c,p)).2) h'):CallsH Tryz.prog 63 #[ptrV o,.int .i64 n] h K ⟨⟩:=by
 refine n63_calls ?_
 unfold n63; try delta vF vG vC vD vJ vV vk vt
 have hbr:=R.bits
 have hb1:=pl.b1
 dsimp only at hb1
 refine may_c a.c omg ?_
 rw [hbr]
 unfold backC at H
 dsimp only at H
 by_cases hask:askE c.bits n=0
 ·rw [if_pos hask] at H
  rw [decide_eq_true hask]
  simp (disch:=omega)
  refine cfind_c a.c ?_
  have c4:=rc4 a.c.cells
  rcases ix_cases r n with ⟨hx,hno⟩|⟨i,hi,hx,hn⟩
  ·rw [R.none_ hno] at H
   dsimp only at H
   simp (disch:=omega) [hx]
   exact H h r m (.refl a) R rfl
  ·obtain ⟨b,t,kk,hlv,hk,⟨w0,w1,w2,w3⟩,pfz⟩:=a.c.pg (i:=i) hi
   rw [hlv] at c4
   have hlf:=a.c.ok.lf
   obtain ⟨g,hg,-,hgd,-⟩:=R.get a.c.ok.sort (List.getElem_mem hi)
   rw [hn] at hg
   rw [hg] at H
   dsimp only at H
   have hdd:c.dirty n=r.L[i].d:=by unfold Ca.dirty; rw [hg]; exact hgd
   unfold ptrV
   cases hd:r.L[i].d with
   | false =>
    rw [hd] at w2 hdd
    rw [backP_clean (hf _) hdd] at H
    simp (disch:=omega) [hx,c4,w2]
    exact H h r m (.refl a) R rfl
   | true =>
    rw [hd] at w2 hdd
    simp (disch:=omega) [hx,c4,w2]
    rw [show (.pointer (some ⟨o,0,none⟩):Value)=ptrV o from rfl]
    refine rback_c (rk:=rk) f n (hf _) hr a R pl hdd hs fun h' r' m' u R' q' => ?_
    exact H h' r' m' u R' q'
 ·rw [if_neg hask] at H
  rw [decide_eq_false hask]
  simp (disch:=omega)
  exact H h r m (.refl a) R rfl
set_option maxHeartbeats 4000000 in
theorem qFlush_c {rk:Int→Nat} {f:Nat} {o:Nat} {r:Rc} {m:Rm} {c:Ca} {p:Ps} (hf:∀n,rk n<f) (hr:Ranks rk c) (a:RaM h o r m p) (R:Rel r c) (pl:Pl (c,p)) (hs:p.steps+2*c.dN+4<1000000)
 (H:∀h' r' m',RaU h h' o r m r' m' (flushC f (c,p)).1.2→Rel r' (flushC f (c,p)).1.1→r'.q=r.q→K (.int .i64 (flushC f (c,p)).2) h'):CallsH Tryz.prog 64 #[ptrV o] h K ⟨⟩:=by
 refine n64_calls ?_
 unfold n64 ptrV; try delta vF vG vC vD vJ vV vk vt
 have hnl:c.nums=r.L.map (·.n):=by
  refine sorted_eq ?_ (sort_n a.c.ok.sort) fun x=>by rw [(nums_perm c).mem_iff,R.nums.mem_iff]
  have h1:=nums_sorted c
  have h2:c.nums.Nodup:=(nums_perm c).nodup_iff.2 (R.nd a.c.ok.sort)
  rw [List.nodup_iff_pairwise_ne] at h2
  exact (h1.and h2).imp (fun h=>by omega)
 unfold flushC at H
 dsimp only at H
 refine loopX1 (α:=Nat×Ca×Ps×Rc×Rm) (fun z => .int .i64 z.1) (fun z g=>z.1≤r.L.length∧RaU h g o r m z.2.2.2.1 z.2.2.2.2 z.2.2.1∧Rel z.2.2.2.1 z.2.1∧z.2.2.2.1.q=r.q∧Pl (z.2.1,z.2.2.1)∧runL (backP f) c.nums (c,p)=runL (backP f) (c.nums.drop z.1) (z.2.1,z.2.2.1)∧Ranks rk z.2.1∧z.2.2.1.steps+2*z.2.1.dN+4<1000000∧z.2.2.2.1.L.map (·.n)=r.L.map (·.n)) (fun z=>r.L.length-z.1) (0,c,p,r,m) rfl ⟨Nat.zero_le _,.refl a,R,rfl,pl,rfl,hr,hs,rfl⟩ ?_
 rintro ⟨i,c1,p1,r1,m1⟩ g ⟨hi,u1,R1,q1,pl1,hrun,hr1,hs1,hn1⟩ X hX
 dsimp only at hi u1 R1 q1 pl1 hrun hr1 hs1 hn1 ⊢
 have A1:=u1.at_
 have hl1:r1.L.length=r.L.length:=by have:=congrArg List.length hn1; simpa using this
 have c4:=rc4 A1.c.cells
 have hlf1:=A1.c.ok.lf
 by_cases hil:i<r.L.length
 ·have hi1:i<r1.L.length:=by omega
  obtain ⟨b,t,kk,hlv,hk,⟨w0,w1,w2,w3⟩,pfz⟩:=A1.c.pg (i:=i) hi1
  rw [hlv] at c4
  have hin:i<c.nums.length:=by rw [hnl,List.length_map]; exact hil
  have hnn:c.nums[i]=r1.L[i].n:=by
   have e1:(r1.L.map (·.n))[i]? = c.nums[i]? := by rw [hn1,hnl]
   rw [List.getElem?_map,List.getElem?_eq_getElem hi1,List.getElem?_eq_getElem hin] at e1
   simpa using e1.symm
  rw [run_drop hin,hnn] at hrun
  obtain ⟨y,hy⟩:∃y,r1.L[i].n=y:=⟨_,rfl⟩
  have hdd:c1.dirty y=r1.L[i].d:=by rw [←hy,←R1.dirty A1.c.ok.sort,dirty_ix A1.c.ok hi1]
  rw [hy] at w0 hrun
  simp (disch:=omega) [c4,w2]
  refine JoinN.mk (JoinN.mk ?_)
  cases hd:r1.L[i].d with
  | false =>
   rw [hd] at w2 hdd
   rw [backP_clean (hf _) hdd,if_pos rfl] at hrun
   simp (disch:=omega) [c4,w2]
   exact hX (i+1,c1,p1,r1,m1) _ g sM ⟨by omega,u1,R1,q1,pl1,hrun,hr1,hs1,hn1⟩ (by dsimp only; omega)
  | true =>
   rw [hd] at w2 hdd
   simp (disch:=omega) [c4,w2,w0]
   rw [show (.pointer (some ⟨o,0,none⟩):Value)=ptrV o from rfl]
   obtain ⟨sp1,-⟩:=back_spec (rk:=rk) f y (c1,p1) (hf _) hr1
   refine rback_c (rk:=rk) f y (hf _) hr1 A1 R1 pl1 hdd hs1 fun h2 r2 m2 u2 R2 q2 => ?_
   have pl2:=sp1.mics.pl pl1
   have hnm:=sp1.mics.less.map (fun x=>x.n) (fun _=>rfl)
   generalize hS:backP f y (c1,p1)=S at *
   obtain ⟨⟨c2,p2⟩,e⟩:=S
   dsimp only at *
   have hord:=R1.order R2 A1.c.ok.sort u2.at_.c.ok.sort hnm
   by_cases h0:e=0
   ·rw [if_pos h0] at hrun
    simp (disch:=omega) [h0]
    refine hX (i+1,c2,p2,r2,m2) _ _ sM ⟨by omega,u1.trans u2,R2,q2.trans q1,pl2,hrun,hr1.less sp1.mics.less,?_,hord.trans hn1⟩ (by dsimp only; omega)
    have:=sp1.st0 h0
    dsimp only at *
    omega
   ·rw [if_neg h0] at hrun
    rw [hrun] at H
    rw [if_neg h0] at H
    simp (disch:=omega) [h0]
    exact H h2 r2 m2 (u1.trans u2) R2 (q2.trans q1)
 ·obtain rfl:i=r.L.length:=by omega
  rw [List.drop_eq_nil_of_le (by rw [hnl,List.length_map]; exact Nat.le_refl _)] at hrun
  have hrun:runL (backP f) c.nums (c,p)=((c1,p1),0):=hrun
  rw [hrun] at H
  rw [if_pos rfl] at H
  obtain ⟨s1,k1,hv1,hk1⟩:=A1.c.lform
  rw [hv1] at c4
  simp (disch:=omega) [c4,hl1]
  rw [show (.pointer (some ⟨o,0,none⟩):Value)=ptrV o from rfl]
  have hfl:=pl1.fl
  have hfr:=R1.flushes
  dsimp only at hfl
  refine rflush_c A1 R1 omg omg fun h3 r3 m3 u3 R3 q3 => ?_
  exact H h3 r3 m3 (u1.trans u3) R3 (q3.trans q1)
theorem Rel.forget {r:Rc} {c:Ca} (a:Rel r c) {n:Int} {wv:Value}:Rel { r with W:=r.W.filter (fun w => !decide (w.1=n)),wv:=wv } { c with W:=c.W.filter fun w => !decide (w.n=n) }:=by
 refine ⟨a.bits,a.room,a.clock,a.hits,a.loads,a.backs,a.flushes,a.L,a.N,fun m q => ?_,a.nb⟩
 show (m,q)∈r.W.filter _↔q∈(c.cleaned n).ws m
 rw [cleaned_ws,List.mem_filter,a.W]
 by_cases e:m=n
 ·rw [if_pos e]; simp [e]
 ·rw [if_neg e]; simp [e]
set_option maxHeartbeats 8000000 in
theorem qDrop_c {o:Nat} {r:Rc} {m:Rm} {c:Ca} {p:Ps} {n:Int} (a:RaM h o r m p) (R:Rel r c) (hb1:c.bits≤16)
 (H:∀h' r' c' e,(c',e)=(if askE c.bits n=0 then (match c.get n with|none=>(c,(7:Int))|some _=>(dropC n c,0)) else (c,2))→RaU h h' o r m r' m p→Rel r' c'→r'.q=r.q→K (.int .i64 e) h'):CallsH Tryz.prog 65 #[ptrV o,.int .i64 n] h K ⟨⟩:=by
 refine n65_calls ?_
 unfold n65; try delta vF vG vC vD vJ vV vk vt
 have hbr:=R.bits
 refine may_c a.c omg ?_
 rw [hbr]
 by_cases hask:askE c.bits n=0
 ·rw [if_pos hask] at H
  rw [decide_eq_true hask]
  simp (disch:=omega)
  refine cfind_c a.c ?_
  have c4:=rc4 a.c.cells
  rcases ix_cases r n with ⟨hx,hno⟩|⟨i,hi,hx,hn⟩
  ·rw [R.none_ hno] at H
   dsimp only at H
   simp (disch:=omega) [hx]
   exact H h r _ _ rfl (.refl a) R rfl
  ·obtain ⟨s1,k1,hv1,hk1⟩:=a.c.lform
   have d4:=c4
   rw [hv1] at d4
   have hlf:=a.c.ok.lf
   obtain ⟨g,hg,-,-,-⟩:=R.get a.c.ok.sort (List.getElem_mem hi)
   rw [hn] at hg
   rw [hg] at H
   dsimp only at H
   have oL:=a.c.L
   rw [hv1] at oL
   have hGo:¬o=h.size:=by have:=get_some_lt a.c.cells; omega
   unfold ptrV
   simp (disch:=omega) [hx,d4,hGo,Hp_slgNH (P:=Tryz.prog) (t:=136) (s:=4) kR,Hp_slgLN (P:=Tryz.prog) (t:=136) (s:=4) kR]
   have eG:Ext h (Array.push h (.cells #[] 178)):=extS
   have zG:(Array.push h (.cells #[] 178)).size=h.size+1:=by simp
   generalize Array.push h (.cells #[] 178)=G0 at *
   have src0:=((oL.ext eG).cut (hi:=i) (mx:=k1) omg (Nat.le_refl _) omg).src
   rw [rgV_take] at src0
   have hone:∀l:List Rp,(∀x∈l,x∈r.L)→∀u∈l.flatMap rgV,one u=true:=fun l hl=>a.c.rgOne hl
   have o0:OwnG rgT 4 G0 (.slice (some ⟨h.size,0,none⟩) 0 0) [] := .inl ⟨_,rfl,rfl⟩
   refine Hp_appendG (e:=rgT) (s:=4) (by_:=48) (n:=0) (k:=i) kR kR o0 rfl omg src0 (hone _ (fun x hx=>List.mem_of_mem_take hx)) omg omg fun v3 h3 o3 m3 b3 _ => ?_
   have e3:Ext h h3:=m3.ext_from eG (fun b hb e=>by cases e)
   have f3:∀x,blkG v3=some x→h.size≤x:=fun x hx=>(b3 x hx).elim (fun e=>by cases e) (fun e=>by omega)
   have d43:=hcell_ext e3 d4
   rw [List.nil_append] at o3
   have src1:=((oL.ext e3).dropO (lo:=i+1) omg).src
   rw [rgV_drop] at src1
   have hbl:(r.L.take i).length=i:=by rw [List.length_take]; omega
   refine ⟨by simp (disch:=omega) [d43],?_⟩
   refine Hp_appendG (e:=rgT) (s:=4) (by_:=48) (n:=i) (k:=r.L.length-(i+1)) kR kR o3 (by rw [rgV_len,hbl]) omg src1 (hone _ (fun x hx=>List.mem_of_mem_drop hx)) omg omg fun v4 h4 o4 m4 b4 _ => ?_
   have hz3:=e3.size
   have e4:Ext h h4:=m4.ext_from e3 (fun x hx e=>by have:=f3 x e; omega)
   have f4:∀x,blkG v4=some x→h.size≤x:=fun x hx=>(b4 x hx).elim (f3 x) (fun e=>by omega)
   rw [←List.flatMap_append] at o4
   have d44:=hcell_ext e4 d4
   have fz4:=rcF (a.c.ext e4).cells 4
   obtain ⟨va,vn,vc,rfl,-,-,-⟩:=o4.form
   simp (disch:=omega) [d44,fz4]
   have hsub:=erase_sub (L:=r.L) (i:=i)
   have u5:=a.c.setL e4 o4 (fun x hx => .inl (hsub.subset hx)) (Nat.le_trans hsub.length_le hlf) (a.c.ok.ap.sublist hsub) (a.c.ok.sort.sublist hsub) f4
   have R5:=R.drop (lv := .slice va vn vc) a.c.ok.sort hi
   rw [hn] at R5
   have U5:=u5.a a rfl
   have A5:=U5.at_
   rw [show (.pointer (some ⟨o,0,none⟩):Value)=ptrV o from rfl]
   refine less_c A5.c fun h6 v6 u6 => ?_
   have U6:=U5.trans (u6.a A5 rfl)
   have A6:=U6.at_
   have R6:=R5.forget (n:=n) (wv:=v6)
   refine rsettle_c A6.c fun h7 v7 u7 => ?_
   have U7:=U6.trans (u7.a A6 rfl)
   exact H _ _ _ _ rfl U7 (R6.settle A6.c.ok.sort) rfl
 ·rw [if_neg hask] at H
  rw [decide_eq_false hask]
  simp (disch:=omega)
  exact H h r _ _ rfl (.refl a) R rfl
end Go.Proofs.YtcbbdnaelimpfaaGreat
set_option linter.unusedSimpArgs false
set_option linter.unusedVariables false
namespace Go.Proofs.YtcbbdnaelimpfaaGreat
open Go.Vc
variable {K:VP} {h:Heap}

set_option maxHeartbeats 4000000 in
theorem qState_c {o:Nat} {r:Rc} {c:Ca} {n:Int} (a:RcM h o r) (R:Rel r c) (nd:Nds c) (hb1:c.bits≤16)
 (H2:∀h',askE c.bits n≠0→Ext h h'→K (.tuple #[.agg #[.bool false,.bool false,.slice none 0 0],.int .i64 2]) h')
 (H:∀h' v,askE c.bits n=0→Ext h h'→OwnG i6T 1 h' v ((c.beh n).map ik)→(∀b,blkG v=some b→h.size≤b)→K (.tuple #[.agg #[.bool (c.dirty n),.bool (decide (n∈c.pend)),v],.int .i64 0]) h') :
 CallsH Tryz.prog 69 #[ptrV o,.int .i64 n] h K ⟨⟩:=by
 refine n69_calls ?_
 unfold n69; try delta vF vG vC vD vJ vV vk vt
 simp (disch:=omega)
 refine (⟨_,rfl⟩:∃g,g=h.push (.cells #[.bool false,.bool false,.slice none 0 0] 121)).elim fun h1 eh1 => ?_
 have e1:Ext h h1:=by rw [eh1]; exact extS
 have z1:h1.size=h.size+1:=by rw [eh1]; simp
 have hs:h1[h.size]? = some (.cells #[.bool false,.bool false,.slice none 0 0] 121):=by rw [eh1]; exact get_pushed rfl
 rw [show h.push (.cells #[.bool false,.bool false,.slice none 0 0] 121)=h1 from eh1.symm]
 clear eh1
 have a1:=a.ext e1
 have hbr:=R.bits
 refine may_c a1 omg ?_
 rw [hbr]
 by_cases hask:askE c.bits n=0
 ·rw [decide_eq_true hask]
  simp (disch:=omega)
  refine cfind_c a1 ?_
  have c4:=rc4 a1.cells
  have c5:=rc5 a1.cells
  have hnf:=a1.ok.nf
  have hmem:decide (n∈r.N)=decide (n∈c.pend):=decide_eq_decide.2 (R.N n)
  have hin:=fun K' (H':K' (.bool (decide (n∈r.N))) h1)=>in_c (K:=K') a1.N omg H'
  have st:∀(h2:Heap) (d:Bool) (v:Value),Ext h1 h2→(∀b,blkG v=some b→h.size≤b)→OwnG i6T 1 h2 v ((c.beh n).map ik)→d=c.dirty n →
   ∀h3,h3=hset (hset (hset h2 ⟨h.size,0,none⟩ (.bool d)) ⟨h.size,1,none⟩ (.bool (decide (n∈c.pend)))) ⟨h.size,2,none⟩ v→K (.tuple #[.agg #[.bool d,.bool (decide (n∈c.pend)),v],.int .i64 0]) h3:=by
   intro h2 d v e2 fv ov hd h3 eh3
   have m3:Mod (· = h.size) h2 h3:=by rw [eh3]; exact modS
   have q2:=(e2.block _ (get_some_lt hs)).trans hs
   have:=H h3 v hask (m3.ext_from (e1.trans e2) (fun b hb e=>by omega)) (ov.mod m3 (fun b hb e=>ov.ne hb q2 dM e)) fv
   rw [hd]; exact this
  rcases ix_cases r n with ⟨hx,hno⟩|⟨i,hi,hx,hn⟩
  ·have hd:false=c.dirty n:=by unfold Ca.dirty; rw [R.none_ hno]
   unfold ptrV
   simp (disch:=omega) [hx,c5]
   refine hin _ ?_
   simp (disch:=omega) [c4]
   refine For_c a1 fun h2 v l e2 fl ov fv => ?_
   have hlb:=R.For a.ok.sort nd fl
   rw [hlb] at ov
   have a2:=a1.ext e2
   have c42:=hcell_ext e2 c4
   have q2:=(e2.block _ (get_some_lt hs)).trans hs
   have k0:=cellOf (i:=0) q2 rfl
   have k1:=cellOf (i:=1) q2 rfl
   have k2:=cellOf (i:=2) q2 rfl
   have kf0:=frzOf (i:=0) q2
   have kf1:=frzOf (i:=1) q2
   have kf2:=frzOf (i:=2) q2
   obtain ⟨va,vn,vc,rfl,-,-,-⟩:=ov.form
   rw [hmem]
   simp (disch:=omega) [k0,k1,k2,kf0,kf1,kf2]
   exact st h2 false _ e2 (fun b hb=>by have:=fv b hb; omega) ov hd _ rfl
  ·obtain ⟨b,t,kk,hlv,hk,⟨w0,w1,w2,w3⟩,pfz⟩:=a1.pg (i:=i) hi
   have hlf:=a1.ok.lf
   rw [hlv] at c4
   have hel:(⟨b,(elt (⟨b,t,none⟩:Addr) (i*4)).off+2,none⟩:Addr)=elt ⟨b,t,none⟩ (i*4+2):=by
    unfold elt Addr.add
    simp [Nat.add_assoc]
    split<;>simp<;>omega
   obtain ⟨g,hg,-,hgd,-⟩:=R.get a.ok.sort (List.getElem_mem hi)
   rw [hn] at hg
   have hd:r.L[i].d=c.dirty n:=by unfold Ca.dirty; rw [hg]; exact hgd.symm
   unfold ptrV
   simp (disch:=omega) [hx,c4,c5,w2]
   refine hin _ ?_
   simp (disch:=omega) [c4,w2,hel]
   refine For_c a1 fun h2 v l e2 fl ov fv => ?_
   have hlb:=R.For a.ok.sort nd fl
   rw [hlb] at ov
   have a2:=a1.ext e2
   have c42:=hcell_ext e2 c4
   have q2:=(e2.block _ (get_some_lt hs)).trans hs
   have k0:=cellOf (i:=0) q2 rfl
   have k1:=cellOf (i:=1) q2 rfl
   have k2:=cellOf (i:=2) q2 rfl
   have kf0:=frzOf (i:=0) q2
   have kf1:=frzOf (i:=1) q2
   have kf2:=frzOf (i:=2) q2
   obtain ⟨va,vn,vc,rfl,-,-,-⟩:=ov.form
   have w22:=hcell_ext e2 w2
   rw [hmem]
   simp (disch:=omega) [k0,k1,k2,kf0,kf1,kf2,c42,w22,hel]
   exact st h2 _ _ e2 (fun b hb=>by have:=fv b hb; omega) ov hd _ rfl
 ·rw [decide_eq_false hask]
  have k0:=cellOf (i:=0) hs rfl
  have k1:=cellOf (i:=1) hs rfl
  have k2:=cellOf (i:=2) hs rfl
  have kf0:=frzOf (i:=0) hs
  have kf1:=frzOf (i:=1) hs
  have kf2:=frzOf (i:=2) hs
  simp (disch:=omega) [k0,k1,k2,kf0,kf1,kf2]
  refine H2 _ hask (Mod.ext_from (S:=(· = h.size)) e1 (modS) (fun b hb e => ?_))
  have e':b=h.size:=e
  omega
def wF (c:Ca) (t:Int):Nat→Int→Bool
 | 0,x=>(c.beh x).any fun q=>decide (q=t)
 | k+1,x=>(c.beh x).any fun q=>decide (q=t) || wF c t k q
theorem wF_sound {c:Ca} {t:Int}:∀(k:Nat) (x:Int),wF c t k x=true→Reach c t x
 | 0,x,h=>by
  obtain ⟨q,hq,e⟩:=List.any_eq_true.1 h
  exact .one (of_decide_eq_true e▸hq)
 | k+1,x,h=>by
  obtain ⟨q,hq,e⟩:=List.any_eq_true.1 h
  rcases Bool.or_eq_true_iff.1 e with e|e
  ·exact .one (of_decide_eq_true e▸hq)
  ·exact .more hq (wF_sound k q e)
def muW (rk:Int→Nat) (c:Ca) (x:Int):Nat:=c.W.countP fun w=>decide (rk w.n≤rk x)
theorem muW_pos {rk:Int→Nat} {c:Ca} {x q:Int} (h:q∈c.beh x):0<muW rk c x:=by
 have h1:=(beh_mem.1 h).1
 unfold Ca.ws at h1
 cases hf:c.W.find? (fun w=>decide (w.n=x)) with
 | none=>rw [hf] at h1; cases h1
 | some w =>
  have hw:=List.mem_of_find?_eq_some hf
  have hn:w.n=x:=by simpa using List.find?_some hf
  unfold muW
  rw [List.countP_pos_iff]
  exact ⟨w,hw,by rw [hn]; simp⟩
theorem muW_lt {rk:Int→Nat} {c:Ca} (hr:Ranks rk c) {x q:Int} (h:q∈c.beh x):muW rk c q<muW rk c x:=by
 have h1:=(beh_mem.1 h).1
 have h2:=hr x q h1
 unfold Ca.ws at h1
 cases hf:c.W.find? (fun w=>decide (w.n=x)) with
 | none=>rw [hf] at h1; cases h1
 | some w =>
  have hw:=List.mem_of_find?_eq_some hf
  have hn:w.n=x:=by simpa using List.find?_some hf
  unfold muW
  obtain ⟨l1,l2,e⟩:=List.append_of_mem hw
  rw [e,List.countP_append,List.countP_append,List.countP_cons,List.countP_cons,hn]
  have i1:l1.countP (fun w=>decide (rk w.n≤rk q))≤l1.countP (fun w=>decide (rk w.n≤rk x)):=List.countP_mono_left (fun y _ h=>by simp at h ⊢; omega)
  have i2:l2.countP (fun w=>decide (rk w.n≤rk q))≤l2.countP (fun w=>decide (rk w.n≤rk x)):=List.countP_mono_left (fun y _ h=>by simp at h ⊢; omega)
  rw [if_neg (by simp; omega),if_pos sM]
  omega
theorem wF_full {rk:Int→Nat} {c:Ca} (hr:Ranks rk c) {t:Int}:∀(k:Nat) (x:Int),Reach c t x→muW rk c x≤k+1→wF c t k x=true
 | 0,x,h,hm=>by
  cases h with
  | one h1=>exact List.any_eq_true.2 ⟨t,h1,by simp⟩
  | more h1 h2 =>
   rename_i y
   have e1:=muW_lt hr h1
   have e2:0<muW rk c y:=by
    cases h2 with
    | one h3=>exact muW_pos h3
    | more h3 _=>exact muW_pos h3
   omega
 | k+1,x,h,hm=>by
  cases h with
  | one h1=>exact List.any_eq_true.2 ⟨t,h1,by simp⟩
  | more h1 h2 =>
   rename_i y
   have e1:=muW_lt hr h1
   exact List.any_eq_true.2 ⟨y,h1,by rw [wF_full hr k y h2 omg,Bool.or_true]⟩
theorem wF_iff {rk:Int→Nat} {c:Ca} (hr:Ranks rk c) {t x:Int} {k:Nat} (hk:c.W.length≤k+1):wF c t k x=true↔Reach c t x :=
 ⟨wF_sound k x,fun h=>wF_full hr k x h (Nat.le_trans List.countP_le_length hk)⟩
set_option maxHeartbeats 4000000 in
theorem waits_c {t:Int}:∀(k:Nat) (x:Int) {K:VP} {h:Heap} {o:Nat} {r:Rc} {c:Ca},RcM h o r→Rel r c→Nds c→k≤60→(∀h',Ext h h'→K (.bool (wF c t k x)) h')→CallsH Tryz.prog 98 #[ptrV o,.int .i64 x,.int .i64 t,.int .i64 k] h K ⟨⟩:=by
 intro k
 induction k with
 | zero =>
  intro x K h o r c a R nd hk H
  refine n98_calls ?_
  unfold n98; try delta vF vG vC vD vJ vV vk vt
  refine For_c a fun h1 v l e1 fl ov fv => ?_
  have hlb:=R.For a.ok.sort nd fl
  have hll:l.length≤2000000:=Nat.le_trans fl.len a.ok.wf
  obtain ⟨va,vn,vc,rfl,hvn,hvc,hva⟩:=ov.form
  obtain rfl:vn=l.length:=by rw [List.length_map] at hvn; omega
  unfold wF at H
  rw [←hlb] at H
  refine loopX1 (α:=Nat) (fun i => .int .i64 i) (fun i g=>g=h1∧i≤l.length∧∀j (hj:j<l.length),j<i→l[j]≠t) (fun i=>l.length-i) 0 rfl ⟨rfl,Nat.zero_le _,fun j _ hj=>by omega⟩ ?_
  rintro i g ⟨rfl,hi,hlt⟩ X hX
  by_cases hil:i<l.length
  ·obtain ⟨b,tt,rfl⟩:=hva (by intro e; rw [List.map_eq_nil_iff.1 e] at hil; cases hil)
   have ce:=(ov.cell (i:=i) (by rw [List.length_map]; exact hil)).1
   rw [List.getElem_map] at ce
   obtain ⟨q,hq⟩:∃q,l[i]=q:=⟨_,rfl⟩
   rw [hq] at ce
   by_cases hqt:q=t
   ·rw [List.any_eq_true.2 ⟨l[i],List.getElem_mem hil,by rw [hq]; simp [hqt]⟩] at H
    simp (disch:=omega) [ce,hqt]
    exact H g e1
   ·simp (disch:=omega) [ce,hqt]
    refine hX (i+1) _ _ sM ⟨rfl,by omega,fun j hj hji => ?_⟩ omg
    by_cases e:j=i
    ·subst e; rw [hq]; exact hqt
    ·exact hlt j hj omg
  ·have:(l.any fun q=>decide (q=t))=false:=by
    rw [List.any_eq_false]
    intro y hy
    obtain ⟨j,hj,rfl⟩:=List.getElem_of_mem hy
    have:=hlt j hj omg
    simpa using this
   rw [this] at H
   simp (disch:=omega)
   exact H g e1
 | succ k ih =>
  intro x K h o r c a R nd hk H
  refine n98_calls ?_
  unfold n98; try delta vF vG vC vD vJ vV vk vt
  refine For_c a fun h1 v l e1 fl ov fv => ?_
  have hlb:=R.For a.ok.sort nd fl
  have hll:l.length≤2000000:=Nat.le_trans fl.len a.ok.wf
  obtain ⟨va,vn,vc,rfl,hvn,hvc,hva⟩:=ov.form
  obtain rfl:vn=l.length:=by rw [List.length_map] at hvn; omega
  unfold wF at H
  rw [←hlb] at H
  have hk1:(((k+1:Nat):Int)-1)=(k:Int):=by omega
  refine loopX1 (α:=Nat) (fun i => .int .i64 i) (fun i g=>Ext h1 g∧i≤l.length∧∀j (hj:j<l.length),j<i→(decide (l[j]=t) || wF c t k l[j])=false) (fun i=>l.length-i) 0 rfl ⟨.refl _,Nat.zero_le _,fun j _ hj=>by omega⟩ ?_
  rintro i g ⟨eg,hi,hlt⟩ X hX
  by_cases hil:i<l.length
  ·obtain ⟨b,tt,rfl⟩:=hva (by intro e; rw [List.map_eq_nil_iff.1 e] at hil; cases hil)
   have ce:=((ov.ext eg).cell (i:=i) (by rw [List.length_map]; exact hil)).1
   rw [List.getElem_map] at ce
   obtain ⟨q,hq⟩:∃q,l[i]=q:=⟨_,rfl⟩
   rw [hq] at ce
   by_cases hqt:q=t
   ·rw [List.any_eq_true.2 ⟨l[i],List.getElem_mem hil,by rw [hq]; simp [hqt]⟩] at H
    simp (disch:=omega) [ce,hqt]
    exact H g (e1.trans eg)
   ·simp (disch:=omega) [ce,hqt,hk1]
    refine ih q ((a.ext e1).ext eg) R nd omg fun h2 e2 => ?_
    cases hw:wF c t k q with
    | true =>
     rw [List.any_eq_true.2 ⟨l[i],List.getElem_mem hil,by rw [hq,hw,Bool.or_true]⟩] at H
     simp (disch:=omega)
     exact H h2 ((e1.trans eg).trans e2)
    | false =>
     simp (disch:=omega)
     refine hX (i+1) _ _ sM ⟨eg.trans e2,by omega,fun j hj hji => ?_⟩ omg
     by_cases e:j=i
     ·subst e; rw [hq,hw]; simp [hqt]
     ·exact hlt j hj omg
  ·have:(l.any fun q=>decide (q=t) || wF c t k q)=false:=by
    rw [List.any_eq_false]
    intro y hy
    obtain ⟨j,hj,rfl⟩:=List.getElem_of_mem hy
    rw [hlt j hj omg]
    decide
   rw [this] at H
   simp (disch:=omega)
   exact H g (e1.trans eg)
end Go.Proofs.YtcbbdnaelimpfaaGreat
set_option linter.unusedSimpArgs false
set_option linter.unusedVariables false
namespace Go.Proofs.YtcbbdnaelimpfaaGreat
open Go.Vc
variable {K:VP} {h:Heap}

set_option maxHeartbeats 8000000 in
theorem qAfter_c {rk:Int→Nat} {o:Nat} {r:Rc} {m:Rm} {c:Ca} {p:Ps} {n t:Int} (hr:Ranks rk c) (a:RaM h o r m p) (R:Rel r c) (nd:Nds c) (hb1:c.bits≤16) (hW:c.W.length≤61) (hwl:r.W.length<1000000)
 (H2:(askE c.bits n≠0∨askE c.bits t≠0)→K (.int .i64 2) h)
 (H240:∀h',askE c.bits n=0→askE c.bits t=0→(n=t∨Reach c n t)→Ext h h'→K (.int .i64 240) h')
 (H0:∀h',askE c.bits n=0→askE c.bits t=0→¬(n=t∨Reach c n t)→c.opn t=false→Ext h h'→K (.int .i64 0) h')
 (Hw:∀h' v,askE c.bits n=0→askE c.bits t=0→¬(n=t∨Reach c n t)→c.opn t=true→RaM h' o { r with W:=r.W++[(n,t)],wv:=v } m p→Mod (RaF o r m) h h'→(∀b,RaF o { r with W:=r.W++[(n,t)],wv:=v } m b→RaF o r m b∨h.size≤b)→K (.int .i64 0) h') :
 CallsH Tryz.prog 62 #[ptrV o,.int .i64 n,.int .i64 t] h K ⟨⟩:=by
 refine n62_calls ?_
 unfold n62; try delta vF vG vC vD vJ vV vk vt
 have hbr:=R.bits
 refine may_c a.c omg ?_
 rw [hbr]
 by_cases hask:askE c.bits n≠0
 ·rw [decide_eq_false hask]
  simp (disch:=omega)
  exact H2 (.inl hask)
 have hask:askE c.bits n=0:=Classical.not_not.1 hask
 rw [decide_eq_true hask]
 simp (disch:=omega)
 refine may_c a.c omg ?_
 rw [hbr]
 by_cases hask2:askE c.bits t≠0
 ·rw [decide_eq_false hask2]
  simp (disch:=omega)
  exact H2 (.inr hask2)
 have hask2:askE c.bits t=0:=Classical.not_not.1 hask2
 rw [decide_eq_true hask2]
 by_cases hnt:n=t
 ·simp (disch:=omega) [hnt]
  exact H240 h hask hask2 (.inl hnt) (.refl _)
 simp (disch:=omega) [hnt]
 refine waits_c (t:=n) 60 t a.c R nd (Nat.le_refl _) fun h1 e1 => ?_
 have hre:wF c n 60 t=true↔Reach c n t:=wF_iff hr hW
 cases hwf:wF c n 60 t with
 | true =>
  simp (disch:=omega)
  exact H240 h1 hask hask2 (.inr (hre.1 hwf)) e1
 | false =>
  have hno:¬(n=t∨Reach c n t):=fun e=>e.elim hnt (fun e=>by rw [hre.2 e] at hwf; cases hwf)
  have a1:=a.ext e1
  simp (disch:=omega)
  refine JoinN.mk ?_
  refine ropen_c a1.c ?_
  rw [R.opn a.c.ok.sort]
  cases hop:c.opn t with
  | false =>
   simp (disch:=omega)
   exact H0 h1 hask hask2 hno hop e1
  | true =>
   have c6:=rc6 a1.c.cells
   obtain ⟨s1,k1,hv1,hk1⟩:=a1.c.wform
   rw [hv1] at c6
   have oW:=a1.c.W
   rw [hv1] at oW
   have hon:¬o=h1.size:=by have:=get_some_lt a1.c.cells; omega
   unfold ptrV
   simp (disch:=omega) [c6,hon]
   have eG:Ext h1 (Array.push h1 (.cells #[] 181)):=extS
   have zG:(Array.push h1 (.cells #[] 181)).size=h1.size+1:=by simp
   generalize Array.push h1 (.cells #[] 181)=G0 at *
   have o0:OwnG rwT 2 G0 (.slice (some ⟨h1.size,0,none⟩) 0 0) [] := .inl ⟨_,rfl,rfl⟩
   refine Hp_appendG (e:=rwT) (s:=2) (by_:=16) (n:=0) (k:=r.W.length) kR kR o0 rfl omg (oW.ext eG).src (rwV2_one _) omg omg fun v3 h3 o3 m3 b3 _ => ?_
   have e3:Ext h1 h3:=m3.ext_from eG (fun b hb e=>by cases e)
   have f3:∀x,blkG v3=some x→h1.size≤x:=fun x hx=>(b3 x hx).elim (fun e=>by cases e) (fun e=>by omega)
   rw [List.nil_append] at o3
   simp (disch:=omega)
   refine (⟨_,rfl⟩:∃G,G=Array.push h3 (.cells #[.int .i64 n,.int .i64 t] rwT)).elim fun G eG2 => ?_
   have eg:Ext h3 G:=by rw [eG2]; exact extS
   have sx:Src 2 G (.slice (some ⟨Array.size h3,0,none⟩) 1 1) 1 (rwV2 (n,t)):=by rw [eG2]; exact wt_src
   rw [show Array.push h3 (.cells #[.int .i64 n,.int .i64 t] 181)=G from eG2.symm]
   clear eG2
   have hz3:=e3.size
   have hzg:=eg.size
   refine Hp_appendG (e:=rwT) (s:=2) (by_:=16) (n:=r.W.length) (k:=1) kR kR (o3.ext eg) (rwV2_len _) omg sx (by simp [rwV2,one]) omg omg fun v4 h4 o4 m4 b4 _ => ?_
   have e4:Ext h1 h4:=m4.ext_from (e3.trans eg) (fun x hx e=>by have:=f3 x e; omega)
   have f4:∀x,blkG v4=some x→h1.size≤x:=fun x hx=>(b4 x hx).elim (f3 x) (fun e=>by omega)
   have o5:OwnG rwT 2 h4 v4 ((r.W++[(n,t)]).flatMap rwV2):=by
    rw [List.flatMap_append]
    have e:[(n,t)].flatMap rwV2=rwV2 (n,t):=by simp
    rw [e]; exact o4
   have A4:=a1.ext e4
   have c64:=rc6 A4.c.cells
   have f64:=rcF A4.c.cells 6
   obtain ⟨va,vn,vc,rfl,-,-,-⟩:=o4.form
   simp (disch:=omega) [c64,f64]
   have A5:=A4.c.setW o5 (by rw [List.length_append]; simp; omega)
   have mS:=Mod.set h4 ⟨o,6,none⟩ (.slice va vn vc)
   refine Hw _ (.slice va vn vc) hask hask2 hno hop ⟨A5,A4.s.mod mS (fun b hb e=>A4.ne (.inl e) hb)⟩ ((Mod.of_ext (e1.trans e4)).trans mS (fun b _ e => .inl (.inl e))) (fun b hb => ?_)
   have hz1:=e1.size
   rcases hb with (hb|hb|hb|hb|hb)|hb
   ·exact .inl (.inl (.inl hb))
   ·exact .inl (.inl (.inr (.inl hb)))
   ·exact .inl (.inl (.inr (.inr (.inl hb))))
   ·exact .inr (by have:=f4 b hb; omega)
   ·exact .inl (.inl (.inr (.inr (.inr (.inr hb)))))
   ·exact .inl (.inr hb)
theorem Rel.more {r:Rc} {c c':Ca} {n t:Int} {k:Nat} {v:Value} (a:Rel r c) (w:Waited c c' n t k):Rel { r with W:=r.W++[(n,t)],wv:=v } c':=by
 have hs:=w.same
 refine ⟨by rw [hs]; exact a.bits,by rw [hs]; exact a.room,by rw [hs]; exact a.clock,by rw [hs]; exact a.hits,by rw [hs]; exact a.loads,by rw [hs]; exact a.backs,by rw [hs]; exact a.flushes,by rw [hs]; exact a.L,by rw [hs]; exact a.N,fun m q => ?_,a.nb⟩
 show (m,q)∈r.W++[(n,t)]↔_
 rw [w.ws,List.mem_append,List.mem_singleton,a.W,Prod.mk.injEq]
end Go.Proofs.YtcbbdnaelimpfaaGreat

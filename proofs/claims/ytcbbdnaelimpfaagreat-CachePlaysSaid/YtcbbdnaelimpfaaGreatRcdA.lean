/- The program's cache and the document's,side by side. Helpers of the law: are lists of numbers the same; are the pages those that are kept? The law's look at both caches. One call of the law,to both caches. One call of the law,to both caches: the step. A cache that is none,and one of nothing: what each call answers. The law's job: is it beyond what is worked out; the document's cache is made. -/
import Derived.Test.YtcbbdnaelimpfaaGreatRccA
import Derived.Test.YtcbbdnaelimpfaaGreatCacD
import Derived.Test.YtcbbdnaelimpfaaGreatStoC
import Derived.Test.YtcbbdnaelimpfaaGreatCnt
set_option linter.unusedSimpArgs false
set_option linter.unusedVariables false
namespace Go.Proofs.YtcbbdnaelimpfaaGreat
open Go.Vc
variable {K:VP} {h:Heap}

structure Sl (h:Heap) (o j:Nat) (c:Ca) (s:St) (p:Ps):Prop where
 at_:CAt h o c s
 ps:PsAt s p
 wf:Wf j c
 bud:p.steps+2*c.dN≤4*j+2
 clk:c.clock≤j
theorem Sl.ext {h':Heap} {o j:Nat} {c:Ca} {s:St} {p:Ps} (a:Sl h o j c s p) (e:Ext h h'):Sl h' o j c s p:=⟨a.at_.ext e,a.ps,a.wf,a.bud,a.clk⟩
theorem Wf.mono {j k:Nat} {c:Ca} (a:Wf j c) (e:j≤k):Wf k c:=⟨a.inv,a.opn,a.acyc,a.lim.mono e⟩
theorem Sl.mono {o j k:Nat} {c:Ca} {s:St} {p:Ps} (a:Sl h o j c s p) (e:j≤k):Sl h o k c s p:=⟨a.at_,a.ps,a.wf.mono e,by have:=a.bud; omega,Nat.le_trans a.clk e⟩
theorem Sl.modZ {o j:Nat} {c:Ca} {s:St} {p:Ps} {Z:Nat→Prop} {h':Heap} (S:Sl h o j c s p) (a:Bar o c s Z) (m:Mod Z h h'):Sl h' o j c s p :=
 ⟨S.at_.mod m (fun b hb e=>a.ft b e hb) (fun y hy q hq b hb e=>a.pc y hy q hq b hb e),S.ps,S.wf,S.bud,S.clk⟩
theorem wsn_nodup {o:Nat} {c:Ca} (A:CoAt h o c):Nds c:=fun n=>ws_nodup A n
theorem Sl.pl {o j:Nat} {c:Ca} {s:St} {p:Ps} (S:Sl h o j c s p):Pl (c,p):=by
 have hst:=S.ps.2.1
 have ok:=S.at_.co.ok
 exact ⟨wsn_nodup S.at_.co,ok.num,ok.len,ok.b1,ok.b0,by have:=S.at_.bk; dsimp only; omega,by have:=S.at_.fl; dsimp only; omega⟩
theorem Sl.use {h':Heap} {o j:Nat} {c:Ca} {s s':St} {p:Ps} {rk:Int→Nat} {f:Nat} {n:Int} {pb bb:Nat} (S:Sl h o j c s p) (hf:∀n,rk n<f) (hr:Ranks rk c) (u:CUpd h h' o c s (useP f n pb bb (c,p)).1.1 s') (ps:PsAt s' (useP f n pb bb (c,p)).1.2):Sl h' o (j+1) (useP f n pb bb (c,p)).1.1 s' (useP f n pb bb (c,p)).1.2:=by
 have b2:=useP_bud (x:=(c,p)) hf hr (n:=n) (pb:=pb) (bb:=bb)
 have b3:=useP_clk (x:=(c,p)) hf hr S.wf.inv (n:=n) (pb:=pb) (bb:=bb)
 have w:=useP_wf (x:=(c,p)) hf hr S.wf (nums_nodup S.at_.co) (n:=n) (pb:=pb) (bb:=bb)
 have hbd:=S.bud
 have hck:=S.clk
 dsimp only at b2 b3
 exact ⟨u.at_,ps,w.mono (Nat.le_succ _),by omega,by omega⟩
theorem Sl.wrote {h':Heap} {o j:Nat} {c:Ca} {s s':St} {p:Ps} {rk:Int→Nat} {f k:Nat} {n:Int} {pb bb:Nat} {b:List UInt8} (S:Sl h o j c s p) (hf:∀n,rk n<f) (hr:Ranks rk c) (u:CUpd h h' o c s ((useP f n pb bb (c,p)).1.1.wrote n k b) s') (ps:PsAt s' (useP f n pb bb (c,p)).1.2):Sl h' o (j+1) ((useP f n pb bb (c,p)).1.1.wrote n k b) s' (useP f n pb bb (c,p)).1.2:=by
 have b2:=useP_bud (x:=(c,p)) hf hr (n:=n) (pb:=pb) (bb:=bb)
 have b3:=useP_clk (x:=(c,p)) hf hr S.wf.inv (n:=n) (pb:=pb) (bb:=bb)
 have w:=(useP_wf (x:=(c,p)) hf hr S.wf (nums_nodup S.at_.co) (n:=n) (pb:=pb) (bb:=bb)).wrote n k b
 have hnd:((useP f n pb bb (c,p)).1.1.P.map (·.n)).Nodup:=by
  have h1:=nums_nodup u.at_.co
  have h2:((useP f n pb bb (c,p)).1.1.wrote n k b).P.map (·.n)=(useP f n pb bb (c,p)).1.1.P.map (·.n):=by
   show ((useP f n pb bb (c,p)).1.1.P.map (Pge.put n k b)).map (·.n)=_
   rw [List.map_map]
   apply List.map_congr_left
   intro x _
   simp only [Function.comp]
   unfold Pge.put; split<;>rfl
  rw [h2] at h1; exact h1
 have hdn:=wrote_dN (n:=n) (k:=k) (b:=b) hnd
 have hbd:=S.bud
 have hck:=S.clk
 dsimp only at b2 b3
 exact ⟨u.at_,ps,w.mono (Nat.le_succ _),by omega,by show (useP f n pb bb (c,p)).1.1.clock≤j+1; omega⟩
theorem Sl.mics {h':Heap} {o j:Nat} {c:Ca} {s s':St} {p:Ps} {y:Cx} (S:Sl h o j c s p) (m:Mics (c,p) y) (a:CAt h' o y.1 s') (ps:PsAt s' y.2) (hb:y.2.steps+2*y.1.dN≤p.steps+2*c.dN+4):Sl h' o (j+1) y.1 s' y.2:=by
 have w:=m.wf (x:=(c,p)) S.wf
 have hc:y.1.clock=c.clock:=m.same.clock
 have:=S.bud
 have:=S.clk
 exact ⟨a,ps,w.mono (Nat.le_succ _),by omega,by omega⟩
theorem Sl.waited {h':Heap} {o j:Nat} {c c':Ca} {s:St} {p:Ps} {n t:Int} (S:Sl h o j c s p) (a3:¬(n=t∨Reach c n t)) (a4:c.opn t=true) (u:CUpd h h' o c s c' s) (w:Waited c c' n t j):Sl h' o (j+1) c' s p:=by
 have hs:=w.same
 have hP:c'.P=c.P:=by rw [hs]
 have hk:c'.clock=c.clock:=by rw [hs]
 have hd:c'.dN=c.dN:=by unfold Ca.dN; rw [hP]
 have:=S.bud
 have:=S.clk
 exact ⟨u.at_,S.ps,S.wf.waited w a3 a4,by omega,by omega⟩
theorem Sl.drop {h':Heap} {o j:Nat} {c:Ca} {s:St} {p:Ps} {n:Int} (S:Sl h o j c s p) (u:CUpd h h' o c s (dropC n c) s):Sl h' o (j+1) (dropC n c) s p:=by
 have hd:(dropC n c).dN≤c.dN:=drop_dN c n
 have hk:(dropC n c).clock=c.clock:=rfl
 have:=S.bud
 have:=S.clk
 exact ⟨u.at_,S.ps,S.wf.dropC.mono (Nat.le_succ _),by omega,by omega⟩
theorem Bar.newA {o:Nat} {c:Ca} {s:St} (S:CAt h o c s) {Z:Nat→Prop} (hZ:∀b,Z b→h.size≤b):Bar o c s Z :=
 ⟨fun b hb hF=>by have:=S.lt hF; have:=hZ b hb; omega,fun y hy q hq b hb e=>by have:=(S.st.fl y hy).plt hq hb; have:=hZ b e; omega⟩
structure Bs where
 h:Heap
 w:Nat
 ob:Obj
structure Two (h0:Bs) (h:Heap) (o sp q t j:Nat) (c:Ca) (s:St) (p:Ps) (r:Rc) (m:Rm):Prop where
 S:Sl h o j c s p
 sp:c.sp=sp
 fr:Fr h0.h h o c s
 A:RaM h q r m p
 t:r.q=t
 R:Rel r c
 bar:Bar o c s (RaF q r m)
 low:∀b,RaF q r m b→h0.h.size≤b
 wl:r.W.length≤j
 wb:h[h0.w]? = some h0.ob
 wB:Bar o c s (fun b=>b=h0.w)
 wR:∀b,RaF q r m b→b≠h0.w
theorem Two.ext {h0:Bs} {h':Heap} {o sp q t j:Nat} {c:Ca} {s:St} {p:Ps} {r:Rc} {m:Rm} (T:Two h0 h o sp q t j c s p r m) (e:Ext h h'):Two h0 h' o sp q t j c s p r m :=
 ⟨T.S.ext e,T.sp,T.fr.go e,T.A.ext e,T.t,T.R,T.bar,T.low,T.wl,(e.block _ (get_some_lt T.wb)).trans T.wb,T.wB,T.wR⟩
theorem Two.mono {h0:Bs} {o sp q t j k:Nat} {c:Ca} {s:St} {p:Ps} {r:Rc} {m:Rm} (T:Two h0 h o sp q t j c s p r m) (e:j≤k):Two h0 h o sp q t k c s p r m :=
 ⟨T.S.mono e,T.sp,T.fr,T.A,T.t,T.R,T.bar,T.low,Nat.le_trans T.wl e,T.wb,T.wB,T.wR⟩
structure Mid (h0:Bs) (h:Heap) (o q:Nat) (c:Ca) (s:St) (p:Ps) (r:Rc) (m:Rm):Prop where
 fr:Fr h0.h h o c s
 A:RaM h q r m p
 bar:Bar o c s (RaF q r m)
 wb:h[h0.w]? = some h0.ob
 wB:Bar o c s (fun b=>b=h0.w)
 wR:∀b,RaF q r m b→b≠h0.w
theorem Two.mid {h0:Bs} {h':Heap} {o sp q t j:Nat} {c c':Ca} {s s':St} {p:Ps} {r:Rc} {m:Rm} (T:Two h0 h o sp q t j c s p r m) (u:CUpd h h' o c s c' s'):Mid h0 h' o q c' s' p r m :=
 ⟨T.fr.upd u,T.A.mod u.mod (fun b hb hF=>T.bar.ft b hb hF),T.bar.upd u (fun b hb=>T.A.lt hb),(u.mod.block _ (get_some_lt T.wb) (T.wB.ft _ rfl)).trans T.wb,T.wB.upd u (fun b hb=>by rw [hb]; exact get_some_lt T.wb),T.wR⟩
theorem Mid.modZ {h0:Bs} {h':Heap} {o q:Nat} {c:Ca} {s:St} {p:Ps} {r:Rc} {m:Rm} {Z:Nat→Prop} (M:Mid h0 h o q c s p r m) (d:Mod Z h h') (hz:∀b,Z b→h0.h.size≤b) (hn:∀b,RaF q r m b→¬Z b) (hw:¬Z h0.w):Mid h0 h' o q c s p r m:=⟨M.fr.modZ d hz,M.A.mod d hn,M.bar,(d.block _ (get_some_lt M.wb) hw).trans M.wb,M.wB,M.wR⟩
theorem Mid.done {h0:Bs} {h':Heap} {o q sp t j:Nat} {c:Ca} {s:St} {p p':Ps} {r r':Rc} {m m':Rm} (M:Mid h0 h o q c s p r m) (S:Sl h o j c s p') (v:RaU h h' q r m r' m' p') (R:Rel r' c) (hsp:c.sp=sp) (ht:r'.q=t) (low:∀b,RaF q r m b→h0.h.size≤b) (wl:r.W.length≤j):Two h0 h' o sp q t j c s p' r' m':=by
 have hz:=M.fr.ext.size
 refine ⟨S.modZ M.bar v.mod,hsp,M.fr.modZ v.mod low,v.at_,ht,R,?_,fun b hb=>(v.foot b hb).elim (low b) (fun e=>by omega),Nat.le_trans v.wl wl,(v.mod.block _ (get_some_lt M.wb) (fun hF=>M.wR _ hF rfl)).trans M.wb,M.wB,fun b hb=>(v.foot b hb).elim (M.wR b) (fun e e2=>by have:=get_some_lt M.wb; omega)⟩
 exact (M.bar.or (Bar.newA S.at_ (Z:=fun b=>h.size≤b) (fun b hb=>hb))).mono (fun b hb=>v.foot b hb)
theorem Two.modZ {h0:Bs} {h':Heap} {o sp q t j:Nat} {c:Ca} {s:St} {p:Ps} {r:Rc} {m:Rm} {Z:Nat→Prop} (T:Two h0 h o sp q t j c s p r m) (a:Bar o c s Z) (d:Mod Z h h') (hz:∀b,Z b→h0.h.size≤b) (hn:∀b,RaF q r m b→¬Z b) (hw:¬Z h0.w):Two h0 h' o sp q t j c s p r m :=
 ⟨T.S.modZ a d,T.sp,T.fr.modZ d hz,T.A.mod d hn,T.t,T.R,T.bar,T.low,T.wl,(d.block _ (get_some_lt T.wb) hw).trans T.wb,T.wB,T.wR⟩
end Go.Proofs.YtcbbdnaelimpfaaGreat
set_option linter.unusedSimpArgs false
set_option linter.unusedVariables false
namespace Go.Proofs.YtcbbdnaelimpfaaGreat
open Go.Vc Go.Sort
variable {K:VP} {h:Heap}

set_option maxHeartbeats 1000000 in
theorem ints_c {v w:Value} {l:List Int} (hv:OwnG i6T 1 h v (l.map ik)) (hw:OwnG i6T 1 h w (l.map ik)) (few:l.length<100000000) (H:K (.bool true) h):CallsH Tryz.prog 70 #[v,w] h K ⟨⟩:=by
 refine n70_calls ?_
 unfold n70; try delta vF vG vC vD vJ vV vk vt
 obtain ⟨va,vn,vc,rfl,hvn,hvc,hva⟩:=hv.form
 obtain ⟨wa,wn,wc,rfl,hwn,hwc,hwa⟩:=hw.form
 rw [List.length_map] at hvn hwn
 obtain rfl:vn=l.length:=by omega
 obtain rfl:wn=l.length:=by omega
 simp (disch:=omega)
 refine loopX1 (α:=Nat) (fun i => .int .i64 i) (fun i g=>g=h∧i≤l.length) (fun i=>l.length-i) 0 rfl ⟨rfl,Nat.zero_le _⟩ ?_
 rintro i g ⟨rfl,hi⟩ X hX
 by_cases hil:i<l.length
 ·obtain ⟨b,t,rfl⟩:=hva (by intro e; rw [List.map_eq_nil_iff.1 e] at hil; cases hil)
  obtain ⟨b',t',rfl⟩:=hwa (by intro e; rw [List.map_eq_nil_iff.1 e] at hil; cases hil)
  have c1:=(hv.cell (i:=i) (by rw [List.length_map]; exact hil)).1
  have c2:=(hw.cell (i:=i) (by rw [List.length_map]; exact hil)).1
  rw [List.getElem_map] at c1 c2
  simp (disch:=omega) [c1,c2]
  exact hX (i+1) _ _ sM ⟨rfl,by omega⟩ omg
 ·obtain rfl:i=l.length:=by omega
  simp (disch:=omega)
  exact H
theorem pgL {lv:Value} {L:List Rp} (ol:OwnG rgT 4 h lv (L.flatMap rgV)) {i:Nat} (hi:i<L.length):∃b t k,lv = .slice (some ⟨b,t,none⟩) L.length k∧L.length≤k∧hcell h (elt ⟨b,t,none⟩ (i*4))=some (.int .i64 L[i].n):=by
 obtain ⟨fa,fn,fc,hv,hl,hc,hne⟩:=ol.form
 have hl':=rgV_len L
 rw [hl'] at hl
 obtain rfl:fn=L.length:=by omega
 obtain ⟨b,t,rfl⟩:=hne (fun e=>by rw [e] at hl'; simp at hl'; omega)
 rw [hv] at ol
 have hlt:i*4+0<(L.flatMap rgV).length:=by omega
 have h1:=(ol.cell hlt).1
 rw [←List.getElem?_eq_getElem hlt,rgV_get L i 0 hi omg] at h1
 exact ⟨b,t,fc,hv,hc,h1⟩
set_option maxHeartbeats 8000000 in
theorem pages_c {lv:Value} {L:List Rp} {ns:List Int} {sb:Nat} {sv:Value} {leave:Int} (ol:OwnG rgT 4 h lv (L.flatMap rgV)) (few:L.length≤2000) (nq:Nsq h sb sv ns) (hns:ns=L.map (·.n)) (hl:leave=0∨leave=1) (H:∀h',Ext h h'→K (.bool true) h'):CallsH Tryz.prog 68 #[nsqV sb,lv,.int .i64 leave] h K ⟨⟩:=by
 refine n68_calls ?_
 unfold n68; try delta vF vG vC vD vJ vV vk vt
 obtain ⟨la,ln,lc,rfl,hln,hlc,-⟩:=ol.form
 have hl':=rgV_len L
 obtain rfl:ln=L.length:=by omega
 unfold nsqV
 simp (disch:=omega)
 generalize hg6:hset _ (⟨h.size+1+1+1,0,none⟩:Addr) _=g6
 have e6:Ext h g6:=by rw [←hg6]; exact hset_ext extS (by dsimp only; omega)
 have a6:g6[h.size]? = some (.cells #[.slice la L.length lc] 136):=by
  rw [←hg6,(Mod.set _ _ _).block _ (by simp<;>omega) (by dsimp only; omega),get_push (by simp<;>omega),get_push (by simp<;>omega),get_push sM,get_pushed rfl]
 have b6:g6[h.size+1]? = some (.cells #[.int .i64 leave] 3):=by
  rw [←hg6,(Mod.set _ _ _).block _ (by simp<;>omega) (by dsimp only; omega),get_push (by simp<;>omega),get_push sM,get_pushed sM]
 have c6:g6[h.size+1+1]? = some (.cells #[.bool false] 4):=by
  rw [←hg6,(Mod.set _ _ _).block _ sM (by dsimp only; omega),get_push sM,get_pushed sM]
 have d6:g6[h.size+1+1+1]? = some (.cells #[.int .i64 0] 3):=by rw [←hg6]; exact obj_set (get_pushed sM)
 clear hg6
 have nq6:=nq.ext e6
 have ol6:=ol.ext e6
 have z6:=e6.size
 have hA6:=get_some_lt a6
 have hD6:=get_some_lt d6
 have hnl:ns.length=L.length:=by rw [hns,List.length_map]
 have hsb:=get_some_lt nq.cell
 have hbl:∀b,blkG (.slice la L.length lc)=some b→b<h.size:=fun b hb=>ol.lt hb
 refine JoinN.mk (JoinN.mk ?_)
 refine RangeN nq6 omg (fun i g=>Mod (· = h.size+1+1+1) g6 g∧g6.size+2≤g.size∧g[g6.size]? = some (.deferred (some []))∧g[h.size+1+1+1]? = some (.cells #[.int .i64 i] 3)) (fun g=>Mod (fun b=>b=h.size+1+1∨b=h.size+1+1+1) g6 g∧g6.size+2≤g.size∧g[g6.size]? = some (.deferred (some []))∧g[h.size+1+1]? = some (.cells #[.bool true] 4)) (fun g e z d=>⟨.of_ext e,by omega,d,(e.block _ hD6).trans d6⟩) (fun i g g' ⟨m,a,b,c⟩ e=>⟨Mod.extIn m e,by have:=e.size; omega,(e.block _ (get_some_lt b)).trans b,(e.block _ (get_some_lt c)).trans c⟩) (fun i g ⟨m,_,_,_⟩=>nq6.mod m ?_ ?_) ?_ ?_ ?_
 ·omega
 ·intro b hb e
  have:=nq.row.lt hb
  omega
 ·rintro i hi g oR oB J X ⟨m1,m2,m3,m4⟩ l1 hoR hoB hX' hJ
  have hiL:i<L.length:=by omega
  have hni:ns[i]=L[i].n:=by simp [hns]
  have hgv:getV [ik ns[i]] 0 = .int .i64 L[i].n:=by rw [hni]; rfl
  refine ⟨l1,?_⟩
  have mB:=Mod.put g (g6.size+1) oB
  have lB:(g.setIfInBounds (g6.size+1) oB)[g6.size+1]? = some oB:=get_put (get_some_lt l1)
  generalize g.setIfInBounds (g6.size+1) oB=gB at *
  have zB:=mB.size
  have m12:Mod (fun b=>b=h.size+1+1+1∨b=g6.size+1) g6 gB:=(m1.mono (fun b _ e=>Or.inl e)).trans mB (fun b _ e=>Or.inr e)
  have n4:=(mB.block _ (get_some_lt m4) omg).trans m4
  have a4:=(m12.block _ hA6 omg).trans a6
  have b4:=(m12.block _ (get_some_lt b6) omg).trans b6
  have c4:=(m12.block _ (get_some_lt c6) omg).trans c6
  have d1:=(mB.block _ (get_some_lt m3) omg).trans m3
  have ol4:=ol6.mod m12 (fun b hb e=>by have:=hbl b hb; omega)
  obtain ⟨pb,pt,pk,hpv,-,pn⟩:=pgL ol4 hiL
  injection hpv with h1 _ h3
  subst h1
  have qA:=cellOf (i:=0) a4 rfl
  have qB:=cellOf (i:=0) b4 rfl
  have qD:=cellOf (i:=0) n4 rfl
  have qC:=cellOf (i:=0) c4 rfl
  have fD:=frzOf (i:=0) n4
  have fC:=frzOf (i:=0) c4
  have mC:=Mod.set gB ⟨h.size+1+1+1,0,none⟩ (.int .i64 ((i:Int)+1))
  have n5:(hset gB ⟨h.size+1+1+1,0,none⟩ (.int .i64 ((i:Int)+1)))[h.size+1+1+1]? = some (.cells #[.int .i64 ((i+1:Nat):Int)] 3):=obj_set n4
  have c5:=(mC.block _ (get_some_lt c4) (by dsimp only; omega)).trans c4
  have zC:=mC.size
  have lC:=(mC.block _ (get_some_lt lB) (by dsimp only; omega)).trans lB
  have d2:=(mC.block _ (get_some_lt d1) (by dsimp only; omega)).trans d1
  have m13:Mod (fun b=>b=h.size+1+1+1∨b=g6.size+1) g6 (hset gB ⟨h.size+1+1+1,0,none⟩ (.int .i64 ((i:Int)+1))):=m12.trans mC (fun b _ e=>Or.inl e)
  by_cases hlv:leave=(i:Int)+1
  ·simp (disch:=omega) [hgv,qA,qB,qD,qC,fD,fC,pn,hlv]
   generalize hset gB ⟨h.size+1+1+1,0,none⟩ (.int .i64 ((i:Int)+1))=gC at *
   have mE:=Mod.set gC ⟨h.size+1+1,0,none⟩ (.bool true)
   have c7:(hset gC ⟨h.size+1+1,0,none⟩ (.bool true))[h.size+1+1]? = some (.cells #[.bool true] 4):=obj_set c5
   have lE:=(mE.block _ (get_some_lt lC) (by dsimp only; omega)).trans lC
   have d3:=(mE.block _ (get_some_lt d2) (by dsimp only; omega)).trans d2
   have zE:=mE.size
   exact hJ _ ⟨((m13.mono (fun b _ e=>e.elim (fun e=>Or.inl (Or.inr e)) Or.inr)).trans mE (fun b _ e=>Or.inl (Or.inl e))).mono (S:=fun b=>(b=h.size+1+1∨b=h.size+1+1+1)∨b=g6.size+1) (fun b hb e=>Or.resolve_right e omg),by omega,d3,c7⟩ lE
  ·simp (disch:=omega) [hgv,qA,qB,qD,qC,fD,fC,pn,Ne.symm hlv,hlv]
   refine ⟨by first|exact lC|exact (Array.getElem?_eq_some_iff.1 lC).2,?_⟩
   generalize hset gB ⟨h.size+1+1+1,0,none⟩ (.int .i64 ((i:Int)+1))=gC at *
   have mD:=Mod.put gC (g6.size+1) oR
   have lD:(gC.setIfInBounds (g6.size+1) oR)[g6.size+1]? = some oR:=get_put (get_some_lt lC)
   generalize gC.setIfInBounds (g6.size+1) oR=gD at *
   have zD:=mD.size
   have d3:=(mD.block _ (get_some_lt d2) omg).trans d2
   exact hX' gD ⟨(m13.trans mD (fun b _ e=>Or.inr e)).mono (fun b hb e=>Or.resolve_right e omg),by omega,d3,(mD.block _ (get_some_lt n5) omg).trans n5⟩ lD
 ·rintro g oE oR ⟨m1,m2,m3,m4⟩ l1 hoR
  have mE:=Mod.put g (g6.size+1) oE
  generalize g.setIfInBounds (g6.size+1) oE=gE at *
  have zE:=mE.size
  have m12:Mod (fun b=>b=h.size+1+1+1∨b=g6.size+1) g6 gE:=(m1.mono (fun b _ e=>Or.inl e)).trans mE (fun b _ e=>Or.inr e)
  have n4:=(mE.block _ (get_some_lt m4) omg).trans m4
  have a4:=(m12.block _ hA6 omg).trans a6
  have c4:=(m12.block _ (get_some_lt c6) omg).trans c6
  have d4:=(mE.block _ (get_some_lt m3) omg).trans m3
  have qA:=cellOf (i:=0) a4 rfl
  have qD:=cellOf (i:=0) n4 rfl
  have qC:=cellOf (i:=0) c4 rfl
  have fC:=frzOf (i:=0) c4
  simp (disch:=omega) [qA,qD,qC,fC,hnl]
  have mF:=Mod.set gE ⟨h.size+1+1,0,none⟩ (.bool true)
  have c7:(hset gE ⟨h.size+1+1,0,none⟩ (.bool true))[h.size+1+1]? = some (.cells #[.bool true] 4):=obj_set c4
  have d5:=(mF.block _ (get_some_lt d4) (by dsimp only; omega)).trans d4
  generalize hset gE ⟨h.size+1+1,0,none⟩ (.bool true)=gF at *
  refine RetD_one' d5 ?_
  have mG:=Mod.put gF g6.size (.deferred none)
  have c8:=(mG.block _ (get_some_lt c7) omg).trans c7
  generalize gF.setIfInBounds g6.size (.deferred none)=gG at *
  have qC8:=cellOf (i:=0) c8 rfl
  simp (disch:=omega) [qC8]
  have mAll:Mod (fun b=>h.size≤b) g6 gG:=((m12.mono (T:=fun b=>h.size≤b) (fun b _ e=>by omega)).trans mF (fun b _ e=>by have e':b=h.size+1+1:=e; omega)).trans mG (fun b _ e=>by have e':b=g6.size:=e; omega)
  exact H _ (mAll.ext_from e6 (fun b hb e=>by have e':h.size≤b:=e; omega))
 ·rintro g oE oR ⟨m1,m2,m3,m4⟩ l1 hoR
  have mE:=Mod.put g (g6.size+1) oE
  generalize g.setIfInBounds (g6.size+1) oE=gE at *
  have zE:=mE.size
  have c7:=(mE.block _ (get_some_lt m4) (by have:=get_some_lt m4; omega)).trans m4
  have d5:=(mE.block _ (get_some_lt m3) omg).trans m3
  refine RetD_one' d5 ?_
  have mG:=Mod.put gE g6.size (.deferred none)
  have c8:=(mG.block _ (get_some_lt c7) omg).trans c7
  generalize gE.setIfInBounds g6.size (.deferred none)=gG at *
  have qC8:=cellOf (i:=0) c8 rfl
  simp (disch:=omega) [qC8]
  have mAll:Mod (fun b=>h.size≤b) g6 gG:=((m1.mono (T:=fun b=>h.size≤b) (fun b _ e=>by omega)).trans mE (fun b _ e=>by have e':b=g6.size+1:=e; omega)).trans mG (fun b _ e=>by have e':b=g6.size:=e; omega)
  exact H _ (mAll.ext_from e6 (fun b hb e=>by have e':h.size≤b:=e; omega))
end Go.Proofs.YtcbbdnaelimpfaaGreat
set_option linter.unusedSimpArgs false
set_option linter.unusedVariables false
namespace Go.Proofs.YtcbbdnaelimpfaaGreat
open Go.Vc Go.Sort
variable {K:VP} {h:Heap}

theorem ppL_get {ps:List Pc} {j:Nat} (h1:j<(ppL ps).length) (h2:j<ps.length):(ppL ps)[j]=((ps[j].at_:Int),(ps[j].b.length:Int)):=by simp [ppL]
def ovT:Nat:=73
set_option maxRecDepth 20000 in
set_option maxHeartbeats 16000000 in
theorem as_c {h0:Bs} {o sp q t j:Nat} {c:Ca} {s:St} {p:Ps} {r:Rc} {m:Rm} (T:Two h0 h o sp q t j c s p r m) (H:∀h',Ext h h'→K (.bool true) h'):CallsH Tryz.prog 31 #[.agg #[ptrV sp,ptrV o,ptrV q]] h K ⟨⟩:=by
 refine n31_calls ?_
 unfold n31; try delta vF vG vC vD vJ vV vk vt
 have hnl:c.nums=r.L.map (·.n):=by
  refine sorted_eq ?_ (sort_n T.A.c.ok.sort) fun x=>by rw [(nums_perm c).mem_iff,T.R.nums.mem_iff]
  have h1:=nums_sorted c
  have h2:c.nums.Nodup:=(nums_perm c).nodup_iff.2 (T.R.nd T.A.c.ok.sort)
  rw [List.nodup_iff_pairwise_ne] at h2
  exact (h1.and h2).imp (fun h=>by omega)
 unfold ptrV
 simp (disch:=omega)
 refine (⟨_,rfl⟩:∃G,G=(h.push (.cells #[ptrV sp,ptrV o,ptrV q] ovT)).push (.cells #[.bool false] 4)).elim fun h1 eh1 => ?_
 have e1:Ext h h1:=by rw [eh1]; exact extS
 have z1:h1.size=h.size+2:=by rw [eh1]; simp
 have x1:h1[h.size]? = some (.cells #[ptrV sp,ptrV o,ptrV q] ovT):=by rw [eh1,get_push sM,get_pushed rfl]
 have y1:h1[h.size+1]? = some (.cells #[.bool false] 4):=by rw [eh1]; exact get_pushed sM
 unfold ptrV ovT at eh1
 rw [←eh1]
 clear eh1
 have T1:=T.ext e1
 have o1:=cellOf (i:=1) x1 rfl
 have o2:=cellOf (i:=2) x1 rfl
 have o0:=cellOf (i:=0) x1 rfl
 unfold ptrV at o0 o1 o2
 rw [show (.pointer (some ⟨o,0,none⟩):Value)=ptrV o from rfl]
 refine Pages_c T1.S.at_.co fun h2 sb sv e2 nq hsb fsb => ?_
 rw [hnl] at nq
 have T2:=T1.ext e2
 have hlf:=T2.A.c.ok.lf
 have p2:=hcell_ext e2 o2
 have d2:=rc4 T2.A.c.cells
 obtain ⟨la,lk,hlv,hlk⟩:=T2.A.c.lform
 have oL:=T2.A.c.L
 simp (disch:=omega) [p2,d2]
 refine pages_c oL hlf nq rfl (.inr rfl) fun h3 e3 => ?_
 have T3:=T2.ext e3
 have p3:=hcell_ext e3 p2
 have d3:=hcell_ext e3 d2
 simp (disch:=omega) [p3,d3]
 refine pages_c (oL.ext e3) hlf (nq.ext e3) rfl (.inl rfl) fun h4 e4 => ?_
 have T4:=T3.ext e4
 have q1:=hcell_ext e4 (hcell_ext e3 (hcell_ext e2 o1))
 have p4:=hcell_ext e4 p3
 have c8:=rc8 T4.A.c.cells
 have c9:=rc9 T4.A.c.cells
 have c10:=rc10 T4.A.c.cells
 have c11:=rc11 T4.A.c.cells
 simp (disch:=omega) [q1,p4,c8,c9,c10,c11]
 rw [show (.pointer (some ⟨o,0,none⟩):Value)=ptrV o from rfl]
 refine Counts_c T4.S.at_.co fun h5 e5 => ?_
 have T5:=T4.ext e5
 have p5:=hcell_ext e5 p4
 have q5:=hcell_ext e5 q1
 have c8:=hcell_ext e5 c8
 have c9:=hcell_ext e5 c9
 have c10:=hcell_ext e5 c10
 have c11:=hcell_ext e5 c11
 have E5:=e1.trans (e2.trans (e3.trans (e4.trans e5)))
 have x5:=(e5.block _ (by have:=(e2.trans (e3.trans e4)).size; omega)).trans (((e2.trans (e3.trans e4)).block _ omg).trans x1)
 have y5:=((e2.trans (e3.trans (e4.trans e5))).block _ omg).trans y1
 rw [T.R.hits,T.R.loads,T.R.backs,T.R.flushes] at *
 simp (disch:=omega) [p5,c8,c9,c10,c11]
 refine loopX1 (α:=Nat) (fun i => .int .i64 i) (fun i g=>i≤12∧Ext h5 g) (fun i=>12-i) 0 rfl ⟨Nat.zero_le _,.refl _⟩ ?_
 rintro i g ⟨hi,eg⟩ X hX
 have Tg:=T5.ext eg
 have xg:=(eg.block _ (get_some_lt x5)).trans x5
 have yg:=(eg.block _ (get_some_lt y5)).trans y5
 have r1:=cellOf (i:=1) xg rfl
 have r2:=cellOf (i:=2) xg rfl
 unfold ptrV at r1 r2
 by_cases hi12:i<12
 ·have hask:askE c.bits (i:Int)=0:=by
   obtain ⟨w0,w1⟩:=shrP (T.S.at_.co.ok.b1)
   unfold askE
   generalize 2^c.bits=W at *
   have:(12:Int)≤268435456/(W:Int):=Int.le_ediv_of_mul_le omg omg
   rw [if_neg omg]
  simp (disch:=omega) [r1]
  rw [show (.pointer (some ⟨o,0,none⟩):Value)=ptrV o from rfl]
  refine State_c Tg.S.at_.co (fun g1 hne _=>absurd hask hne) fun g1 v1 _ e6 ov1 fv1 => ?_
  obtain ⟨va,vn,vc,rfl,-,-,-⟩:=ov1.form dM
  have r21:=hcell_ext e6 r2
  have z6:=e6.size
  have hng:¬h.size=g1.size:=by have:=get_some_lt xg; omega
  simp (disch:=omega) [r21,hng]
  generalize hg2:hset _ (⟨g1.size,2,none⟩:Addr) _=g2
  have e7:Ext g1 g2:=by rw [←hg2]; exact put3_ext extS (Nat.le_refl _)
  have k2:g2[g1.size]? = some (.cells #[.bool (c.dirty i),.bool (decide ((i:Int)∈c.pend)),.slice va vn vc] 121):=by rw [←hg2]; exact put3 (get_pushed rfl)
  clear hg2
  have T2':=(Tg.ext e6).ext e7
  rw [show (.pointer (some ⟨q,0,none⟩):Value)=ptrV q from rfl]
  refine qState_c T2'.A.c T2'.R (wsn_nodup T2'.S.at_.co) T.S.at_.co.ok.b1 (fun g3 hne _=>absurd hask hne) fun g3 w1 _ e8 ow1 fw1 => ?_
  obtain ⟨wa,wn,wc,rfl,hwn,-,-⟩:=ow1.form
  have k3:=(e8.block _ (get_some_lt k2)).trans k2
  have z7:=e7.size
  have z8:=e8.size
  have hk2:=get_some_lt k2
  have hng2:¬g1.size=g3.size:=by omega
  have hng3:¬g3.size=g1.size:=by omega
  have u0:=cellOf (i:=0) k3 rfl
  have u1:=cellOf (i:=1) k3 rfl
  have u2:=cellOf (i:=2) k3 rfl
  simp (disch:=omega) [hng2,hng3,u0,u1,u2]
  generalize hg4:hset _ (⟨g3.size,2,none⟩:Addr) _=g4
  have e9:Ext g3 g4:=by rw [←hg4]; exact put3_ext extS (Nat.le_refl _)
  clear hg4
  have hbl:(c.beh i).length<100000000:=by
   have h1:=(beh_perm c i).length_eq
   have h2:((c.ws i).filter c.opn).length≤(c.ws i).length:=List.length_filter_le _ _
   have h3:(c.ws i).length<10000:=by
    unfold Ca.ws
    cases hw:c.W.find? (fun w=>decide (w.n=(i:Int))) with
    | none=>exact Nat.zero_lt_succ _
    | some w=>exact T.S.at_.co.ok.qfew w (List.mem_of_find?_eq_some hw)
   omega
  refine ints_c ((((ov1.g.ext e7).ext e8).ext e9)) (ow1.ext e9) hbl ?_
  simp (disch:=omega)
  refine num_c ?_
  simp (disch:=omega)
  exact hX (i+1) _ _ sM ⟨by omega,(eg.trans e6).trans (e7.trans (e8.trans e9))⟩ omg
 ·obtain rfl:i=12:=by omega
  have r0:=cellOf (i:=0) xg rfl
  unfold ptrV at r0
  have r0':=r0
  simp (disch:=omega) [r0]
  rw [show (.pointer (some ⟨sp,0,none⟩):Value)=ptrV sp from rfl]
  have hst:=T.S.ps.2.1
  have hfa:=T.S.ps.1
  have hbud:=T.S.bud
  have st:∀{G:Heap},Ext g G→StAt G sp s:=fun {G} e=>by have:=(Tg.ext e).S.at_.st; rw [T.sp] at this; exact this
  refine Steps_c (st (.refl _)) ?_
  have d0:=rc0 Tg.A.c.cells
  have v0:hcell g ⟨r.q,0,none⟩=some m.sv:=cellOf Tg.A.s.cells rfl
  have v1:hcell g ⟨r.q,1,none⟩=some m.fv:=cellOf Tg.A.s.cells rfl
  have v2:hcell g ⟨r.q,2,none⟩=some (.int .i64 p.steps):=cellOf Tg.A.s.cells rfl
  obtain ⟨fa,fn,fc,hfv,hfl,hfc,-⟩:=Tg.A.s.fat.form
  rw [faV_len] at hfl
  obtain rfl:fn=p.fates.length:=by omega
  rw [hfv] at v1
  rw [hst,hfa]
  have hff:=Tg.A.s.ffew
  simp (disch:=omega) [r0,r2,d0,v1,v2]
  rw [show (.pointer (some ⟨sp,0,none⟩):Value)=ptrV sp from rfl]
  have y1':=cellOf (i:=0) yg rfl
  have yf:=frzOf (i:=0) yg
  have fin:∀(G:Heap),Ext g G→K (.bool true) (hset G ⟨h.size+1,0,none⟩ (.bool true)):=fun G eG=>H _ ((Mod.set G ⟨h.size+1,0,none⟩ (.bool true)).ext_from (E5.trans (eg.trans eG)) (fun b hb e=>by have e':b=h.size+1:=e; omega))
  cases hpf:p.f with
  | none =>
   have hF:s.F=[]:=by have:=T.S.ps.2.2; rw [hpf] at this; exact this
   obtain ⟨sx,sc,hsv⟩:=Tg.A.s.norow hpf
   rw [hsv] at v0
   have hfe:fErr s fN=7:=by rw [fErr_ok T.S.ps,hpf]; rfl
   refine Size_c (st (.refl _)) dM (fun g1 e1' _ => ?_) (fun g1 x e1' hx _ => ?_)
   ·rw [show fErr s [102]=7 from hfe]
    have a2:=hcell_ext e1' r2
    have a0:=hcell_ext e1' d0
    have av:=hcell_ext e1' v0
    have ay:=hcell_ext e1' y1'
    have ayf:=frzOf (i:=0) ((e1'.block _ (get_some_lt yg)).trans yg)
    simp (disch:=omega) [a2,a0,av]
    refine num_c ?_
    simp (disch:=omega) [ay,ayf]
    refine RetD_nil ?_
    simp (disch:=omega) [ay,ayf]
    exact fin _ e1'
   ·rw [hF] at hx; cases hx
  | some f =>
   obtain ⟨xf,xf1,xf2,xf3,xf4⟩:=T.S.ps.some_ hpf
   obtain ⟨fb,fo,fk,hsv,hk1,hfb,f0,f1,f2,-,-⟩:=Tg.A.s.row hpf
   rw [hsv] at v0
   have ox:=Tg.A.s.ps f hpf
   obtain ⟨pa,pn,pc,hpv,hpl,hpc,hpne⟩:=ox.form
   rw [rpV_len] at hpl
   obtain rfl:pn=f.ps.length:=by omega
   rw [hpv] at f2 ox
   have hpfew:=Tg.A.s.pfew f hpf
   have hok:=Tg.A.s.ok f hpf
   have hnlen:=hok.now_len
   have hfew:=hok.few
   have hfe:fErr s fN=0:=by rw [fErr_ok T.S.ps,hpf]; rfl
   refine Size_c (st (.refl _)) dM (fun g1 e1' hne=>absurd hfe hne) (fun g1 x e1' hx _ => ?_)
   have hxl:=(ps_size T.S.ps hpf hx).2.1
   rw [hxl]
   have a2:=hcell_ext e1' r2
   have a0:=hcell_ext e1' d0
   have av:=hcell_ext e1' v0
   have ar:=hcell_ext e1' r0'
   have b0:=hcell_ext e1' f0
   have b1:=hcell_ext e1' f1
   have b2:=hcell_ext e1' f2
   have z1':=e1'.size
   have hn1:¬fb=g1.size:=by omega
   have hn2:¬h.size=g1.size:=by have:=get_some_lt xg; omega
   simp (disch:=omega) [a2,a0,av,b0,b1,b2,hn1,hn2,ar]
   generalize hg2:hset _ (⟨g1.size,2,none⟩:Addr) _=g2
   have e2':Ext g1 g2:=by rw [←hg2]; exact put3_ext extS (Nat.le_refl _)
   have k2:g2[g1.size]? = some (.cells #[str fN,str f.last,.slice pa f.ps.length pc] 129):=by rw [←hg2]; exact put3 (get_pushed rfl)
   clear hg2
   rw [show (.pointer (some ⟨sp,0,none⟩):Value)=ptrV sp from rfl]
   have hrd:rdErr s fN 0 (f.last.length:Nat)=0:=by
    unfold rdErr
    rw [if_pos okN_f,xf4]
    dsimp only
    rw [if_neg omg]
   refine Read_c (st (e1'.trans e2')) dM dM dM omg omg (fun g3 _ hne=>absurd hrd hne) (fun g3 x3 v3 e3' hx3 _ _ _ _ ov3 fv3 _ => ?_)
   have hxf:=(ps_size T.S.ps hpf hx3).1
   rw [hxf,show ((0:Int)).toNat=0 from rfl,Int.toNat_natCast,List.drop_zero,List.take_of_length_le omg] at ov3
   have bV:=ov3.bytes
   have cv1:∀(q:Bool) (K0:VP),Hp Tryz.prog q (convert 33 9 v3) K0 g3 ⟨⟩↔K0 (str f.now) g3:=fun q K0=>Hp_bytesStr (e:=5) kR kR kR bV
   simp (disch:=omega)
   refine num_c ?_
   simp (disch:=omega)
   refine num_c ?_
   have k3:=(e3'.block _ (get_some_lt k2)).trans k2
   have u0:=cellOf (i:=0) k3 rfl
   have u1:=cellOf (i:=1) k3 rfl
   have u2:=cellOf (i:=2) k3 rfl
   simp (disch:=omega) [cv1,u0,u1,u2]
   have hstp:=Tg.A.s.stp
   refine Now_c (ox.ext ((e1'.trans e2').trans e3')) hok omg fun g4 e4' => ?_
   have cv2:∀(q:Bool) (K0:VP),Hp Tryz.prog q (convert 33 9 v3) K0 g4 ⟨⟩↔K0 (str f.now) g4:=fun q K0=>Hp_bytesStr (e:=5) kR kR kR (ov3.ext e4').bytes
   have E4:=(e1'.trans e2').trans (e3'.trans e4')
   have r04:=hcell_ext E4 r0'
   simp (disch:=omega) [cv2,r04]
   rw [show (.pointer (some ⟨sp,0,none⟩):Value)=ptrV sp from rfl]
   refine Pieces_c (st E4) dM fun g5 psb psv e5' psq hpsb fpsv => ?_
   have hps:ppL (s.psOf [102])=ppL f.ps:=by
    have:s.psOf fN=f.ps:=by unfold St.psOf; rw [if_pos okN_f,xf4]; show xf.f.ps=_; rw [xf2]
    exact congrArg ppL this
   rw [hps] at psq
   have k5:=((e4'.trans e5').block _ (get_some_lt k3)).trans k3
   have E5':=E4.trans e5'
   have y5':=(E5'.block _ (get_some_lt yg)).trans yg
   unfold seqV
   simp (disch:=omega)
   generalize hg6:hset _ (⟨g5.size,0,none⟩:Addr) _=g6
   have e6:Ext g5 g6:=by rw [←hg6]; exact hset_ext extS (Nat.le_refl _)
   have n6:g6[g5.size]? = some (.cells #[.int .i64 0] 3):=by rw [←hg6]; exact obj_set (get_pushed rfl)
   clear hg6
   have z6:=e6.size
   have hn6:=get_some_lt n6
   have k6:=(e6.block _ (get_some_lt k5)).trans k5
   have y6:=(e6.block _ (get_some_lt y5')).trans y5'
   have psq6:=psq.ext e6
   have ox6:=ox.ext ((((e1'.trans e2').trans e3').trans e4').trans (e5'.trans e6))
   have z4':=e4'.size
   have z5':=e5'.size
   have z3':=e3'.size
   have z2':=e2'.size
   have hk5:=get_some_lt k2
   have hy5:=get_some_lt yg
   have hox:=fun b (hb:blkG (.slice pa f.ps.length pc)=some b)=>ox.lt hb
   have hll:(ppL f.ps).length=f.ps.length:=by unfold ppL; rw [List.length_map]
   refine JoinN.mk (JoinN.mk ?_)
   refine RangeP psq6 (fun j g=>Mod (· = g5.size) g6 g∧g[g5.size]? = some (.cells #[.int .i64 j] 3)) (fun g e _=>⟨.of_ext e,(e.block _ hn6).trans n6⟩) (fun j g g' ⟨a,b⟩ e=>⟨Mod.extIn a e,(e.block _ (get_some_lt b)).trans b⟩) (fun j hj g oR oB J X' ⟨m1,m2⟩ hgz hgd hgl hoR hoB hX' => ?_) (fun g oE ⟨m1,m2⟩ hd hlt hlo => ?_)
   ·have hjp:j<f.ps.length:=by omega
    have hLj:(ppL f.ps)[j]=((f.ps[j].at_:Int),(f.ps[j].b.length:Int)):=ppL_get hj hjp
    have hqk:=hok.pc _ (List.getElem_mem hjp)
    have hfit:f.ps[j].at_+f.ps[j].b.length≤f.last.length:=hqk.2
    simp (disch:=omega) [getV,hLj]
    generalize hgP:hset _ (⟨g.size,1,none⟩:Addr) _=gP
    have eP:Ext g gP:=by rw [←hgP]; exact put2_ext extS (Nat.le_refl _)
    have kP:gP[g.size]? = some (.cells #[.int .i64 (f.ps[j].at_:Nat),.int .i64 (f.ps[j].b.length:Nat)] 150):=by rw [←hgP]; exact put2 (get_pushed rfl)
    clear hgP
    have gL:=(eP.block _ (get_some_lt hgl)).trans hgl
    refine ⟨by first|exact gL|exact (Array.getElem?_eq_some_iff.1 gL).2,?_⟩
    have mB:=Mod.put gP (g6.size+1) oB
    have gLB:(gP.setIfInBounds (g6.size+1) oB)[g6.size+1]? = some oB:=get_put (get_some_lt gL)
    generalize gP.setIfInBounds (g6.size+1) oB=gB at *
    have zP:=eP.size
    have zB:=mB.size
    have m12:Mod (fun b=>b=g5.size∨b=g6.size+1) g6 gB:=((Mod.extIn m1 eP).mono (fun b _ e=>Or.inl e)).trans mB (fun b _ e=>Or.inr e)
    have nB:=(mB.block _ (by have:=get_some_lt m2; omega) omg).trans ((eP.block _ (get_some_lt m2)).trans m2)
    have kB:=(m12.block _ (get_some_lt k6) omg).trans k6
    have pB:=(mB.block _ (get_some_lt kP) omg).trans kP
    have oxB:=ox6.mod m12 (fun b hb e=>by have:=hox b hb; omega)
    obtain ⟨ad',rfl,-,-,w0,w1⟩:=rp_cell oxB hjp
    have i0:=cellOf (i:=0) nB rfl
    have if0:=frzOf (i:=0) nB
    have j2:=cellOf (i:=2) kB rfl
    have p0:=cellOf (i:=0) pB rfl
    have p1:=cellOf (i:=1) pB rfl
    simp (disch:=omega) [i0,if0,j2,p0,p1,w0,w1]
    have n7:(hset gB ⟨g5.size,0,none⟩ (.int .i64 ((j:Int)+1)))[g5.size]? = some (.cells #[.int .i64 ((j+1:Nat):Int)] 3):=obj_set nB
    have mC:=Mod.set gB ⟨g5.size,0,none⟩ (.int .i64 ((j:Int)+1))
    have lC:=(mC.block _ (get_some_lt gLB) (by dsimp only; omega)).trans gLB
    have hn7:=get_some_lt n7
    generalize hset gB ⟨g5.size,0,none⟩ (.int .i64 ((j:Int)+1))=gC at *
    refine ⟨lC,?_⟩
    have mD:=Mod.put gC (g6.size+1) oR
    have lD:(gC.setIfInBounds (g6.size+1) oR)[g6.size+1]? = some oR:=get_put (get_some_lt lC)
    generalize gC.setIfInBounds (g6.size+1) oR=gD at *
    have hsbl:=get_some_lt psq.cell
    have m13:Mod (fun b=>b=g5.size∨b=g6.size+1) g6 gD:=(m12.trans mC (fun b _ e=>Or.inl e)).trans mD (fun b _ e=>Or.inr e)
    have m2D:Mod (fun b=>b=g5.size∨b=g6.size+1) g gD:=((((Mod.of_ext eP).mono (fun b _ e=>False.elim e)).trans mB (fun b _ e=>Or.inr e)).trans mC (fun b _ e=>Or.inl e)).trans mD (fun b _ e=>Or.inr e)
    exact hX' gD (fun b=>b=g5.size∨b=g6.size+1) ⟨m13.mono (fun b hb e=>Or.resolve_right e omg),(mD.block _ hn7 omg).trans n7⟩ lD m2D omg omg (fun b hb e=>by have:=psq.row.lt hb; omega)
   ·have mE:=Mod.put g (g6.size+1) oE
    have zg:=m1.size
    have d1:=(mE.block _ (get_some_lt hd) omg).trans hd
    generalize g.setIfInBounds (g6.size+1) oE=gE at *
    have m12:Mod (fun b=>b=g5.size∨b=g6.size+1) g6 gE:=(m1.mono (fun b _ e=>Or.inl e)).trans mE (fun b _ e=>Or.inr e)
    have nE:=(mE.block _ (get_some_lt m2) omg).trans m2
    have kE:=(m12.block _ (get_some_lt k6) omg).trans k6
    have yE:=(m12.block _ (get_some_lt y6) omg).trans y6
    have i0:=cellOf (i:=0) nE rfl
    have j2:=cellOf (i:=2) kE rfl
    have y0:=cellOf (i:=0) yE rfl
    have yf0:=frzOf (i:=0) yE
    simp (disch:=omega) [i0,j2,y0,yf0,hll]
    have y7:(hset gE ⟨h.size+1,0,none⟩ (.bool true))[h.size+1]? = some (.cells #[.bool true] 4):=obj_set yE
    have mF:=Mod.set gE ⟨h.size+1,0,none⟩ (.bool true)
    have d2:=(mF.block _ (get_some_lt d1) (by dsimp only; omega)).trans d1
    generalize hset gE ⟨h.size+1,0,none⟩ (.bool true)=gF at *
    refine RetD_one' d2 ?_
    have mG:=Mod.put gF g6.size (.deferred none)
    have y8:=(mG.block _ (get_some_lt y7) omg).trans y7
    generalize gF.setIfInBounds g6.size (.deferred none)=gG at *
    have y9:=cellOf (i:=0) y8 rfl
    simp (disch:=omega) [y9]
    have mAll:Mod (fun b=>h.size+1≤b) g6 gG:=((m12.mono (T:=fun b=>h.size+1≤b) (fun b _ e=>by omega)).trans mF (fun b _ e=>by have e':b=h.size+1:=e; omega)).trans mG (fun b _ e=>by have e':b=g6.size:=e; omega)
    exact H _ (mAll.ext_from (E5.trans ((eg.trans E5').trans e6)) (fun b hb e=>by have e':h.size+1≤b:=e; omega))
end Go.Proofs.YtcbbdnaelimpfaaGreat
set_option linter.unusedSimpArgs false
set_option linter.unusedVariables false
namespace Go.Proofs.YtcbbdnaelimpfaaGreat
open Go.Vc Go.Sort
variable {K:VP} {h:Heap}

set_option maxHeartbeats 4000000 in
theorem cRead_y {rk:Int→Nat} {f:Nat} {o:Nat} {c:Ca} {s:St} {p:Ps} {n at_ k:Int} (hf:∀n,rk n<f) (hr:Ranks rk c) (inv:Inv c) (a:CAt h o c s) (ps:PsAt s p) (hs:s.steps+2*c.dN+4<1000000) (hclk:c.clock+1<1000000)
 (a0 : -9223372036854775808≤at_) (a1:at_<9223372036854775808) (k0 : -9223372036854775808≤k) (k1:k<9223372036854775808)
 (H2:useE c.bits n at_ k≠0→K (.tuple #[.slice none 0 0,.int .i64 2]) h)
 (He:∀h' s',useE c.bits n at_ k=0→(useP f n 0 0 (c,p)).2≠0→CUpd h h' o c s (useP f n 0 0 (c,p)).1.1 s'→PsAt s' (useP f n 0 0 (c,p)).1.2→K (.tuple #[.slice none 0 0,.int .i64 (useP f n 0 0 (c,p)).2]) h')
 (Hw:∀h' s' pb bb g v,useE c.bits n at_ k=0→(useP f n pb bb (c,p)).2=0→CUpd h h' o c s (useP f n pb bb (c,p)).1.1 s'→PsAt s' (useP f n pb bb (c,p)).1.2→(useP f n pb bb (c,p)).1.1.get n=some g →
  OwnG bT 1 h' v (((g.D.drop at_.toNat).take k.toNat).map byteV)→(∀b,blkG v=some b→h.size≤b)→Bar o (useP f n pb bb (c,p)).1.1 s' (fun b=>blkG v=some b)→K (.tuple #[v,.int .i64 0]) h') :
 CallsH Tryz.prog 12 #[ptrV o,.int .i64 n,.int .i64 at_,.int .i64 k] h K ⟨⟩:=by
 refine n12_calls ?_
 unfold n12; try delta vF vG vC vD vJ vV vk vt
 refine use_c (rk:=rk) hf hr inv a ps hs hclk a0 a1 k0 k1 (fun h0 => ?_) (fun h1 s1 h0 hne u ps1 => ?_) (fun h1 s1 pb bb g h0 hok u ps1 hg => ?_)
 ·simp (disch:=omega)
  exact H2 h0
 ·simp (disch:=omega) [hne]
  exact He h1 s1 h0 hne u ps1
 ·obtain ⟨r0,r1,r2,-⟩:=useE_ok h0
  have hw16:=(shrP a.co.ok.b1).2
  obtain ⟨A,rfl⟩:=Int.eq_ofNat_of_zero_le r0
  obtain ⟨B,rfl⟩:=Int.eq_ofNat_of_zero_le r1
  have hgm:=(get_mem hg).1
  have hlen:=u.at_.co.ok.len g hgm
  have q1:=pc1 (u.at_.co.pg g hgm)
  have hbb:(useP f n pb bb (c,p)).1.1.bits=c.bits:=(useP_bits (x:=(c,p)) hf hr inv).1
  rw [hbb] at hlen
  have on:=u.at_.co.by_ g hgm
  unfold Pge.sl at on
  have hsm:A+B≤g.D.length:=by omega
  have hsl:g.D.length≤65536:=by omega
  unfold ptrV
  simp (disch:=omega) [q1]
  have od:=(on.drop (lo:=A) omg).cut (hi:=B) (mx:=g.D.length-A) omg omg omg
  rw [subS_one,Nat.mul_one,Nat.mul_one,←List.map_drop,←List.map_take] at od
  refine uclone_c od.src ⟨_,_,rfl⟩ (one_bytes _) omg fun v h2 e2 o2 f2 _ => ?_
  have hz:=u.mod.size
  refine Hw h2 s1 pb bb g v h0 hok (u.ext e2) ps1 hg (by rw [Int.toNat_natCast,Int.toNat_natCast]; exact o2) (fun b hb=>by have:=f2 b hb; omega) (Bar.newA u.at_ (fun b hb=>f2 b hb))
set_option maxHeartbeats 1000000 in
theorem turn_step {i n c:Nat} {a:Option Addr} {l:List UInt8} {g:Heap} (o:OwnG bT 1 g (.slice a n c) (l.map byteV)) (hi:i<l.length):∃ad,a=some ad∧hcell g (elt ad i)=some (byteV l[i])∧hfrozen g (elt ad i)=false∧OwnG bT 1 (hset g (elt ad i) (byteV (l[i] ^^^ 255))) (.slice a n c) ((l.set i (l[i] ^^^ 255)).map byteV)∧Mod (fun b=>blkG (.slice a n c)=some b) g (hset g (elt ad i) (byteV (l[i] ^^^ 255))):=by
 obtain ⟨va,vn,vc,hv,hvn,hvc,hne⟩:=o.form
 cases hv
 obtain ⟨b,t,rfl⟩:=hne (by intro e; rw [List.map_eq_nil_iff.1 e] at hi; cases hi)
 have hlt:i<(l.map byteV).length:=by rw [List.length_map]; exact hi
 obtain ⟨h1,h2⟩:=o.cell hlt
 rw [List.getElem_map] at h1
 rw [List.length_map] at hvn
 refine ⟨_,rfl,h1,h2,?_,?_⟩
 ·have o2:=OwnG.set (u:=byteV (l[i] ^^^ 255)) o (i:=i) hlt
  rw [List.map_set]; exact o2
 ·obtain ⟨c',rfl⟩:∃c',c=c'+1:=⟨c-1,by omega⟩
  exact (Mod.set g (elt ⟨b,t,none⟩ i) _).mono (fun x _ e=>by
   have e':x=(elt (⟨b,t,none⟩:Addr) i).block:=e
   rw [elt_blk] at e'
   rw [e']; rfl)
theorem Mid.doneX {h0:Bs} {h':Heap} {o q sp t j:Nat} {c:Ca} {s:St} {p p':Ps} {r r':Rc} {m m':Rm} (M:Mid h0 h o q c s p r m) (S:Sl h o j c s p') (at_:RaM h' q r' m' p') (mod:Mod (RaF q r m) h h') (foot:∀b,RaF q r' m' b→RaF q r m b∨h.size≤b) (R:Rel r' c) (hsp:c.sp=sp) (ht:r'.q=t) (low:∀b,RaF q r m b→h0.h.size≤b) (wl:r'.W.length≤j):Two h0 h' o sp q t j c s p' r' m':=by
 have hz:=M.fr.ext.size
 refine ⟨S.modZ M.bar mod,hsp,M.fr.modZ mod low,at_,ht,R,?_,fun b hb=>(foot b hb).elim (low b) (fun e=>by omega),wl,(mod.block _ (get_some_lt M.wb) (fun hF=>M.wR _ hF rfl)).trans M.wb,M.wB,fun b hb=>(foot b hb).elim (M.wR b) (fun e e2=>by have:=get_some_lt M.wb; omega)⟩
 exact (M.bar.or (Bar.newA S.at_ (Z:=fun b=>h.size≤b) (fun b hb=>hb))).mono (fun b hb=>foot b hb)
theorem pRemove_c {o sp:Nat} {c:Ca} {s:St} {p:Ps} (a:CAt h o c s) (hsp:c.sp=sp) (ps:PsAt s p) (hs:s.steps+1<1000000) (H:∀h' s',CUpd h h' o c s c s'→PsAt s' p.remove.1→K (.int .i64 p.remove.2) h'):CallsH Tryz.prog 66 #[ptrV sp,str fN] h K ⟨⟩:=by
 subst hsp
 have hfe:=fErr_ok ps
 unfold Ps.remove at H
 refine Remove_c a.st dM hs (fun h1 e1 hne => ?_) (fun h1 fv h0 hE u => ?_) (fun h1 A B x fv hE hF hn u => ?_)
 ·cases hf:p.f with
  | some f=>rw [hf] at hfe; exact absurd hfe hne
  | none =>
   rw [hf] at hfe H
   rw [hfe]
   exact H h1 s ((CUpd.refl a).ext e1) ps
 ·cases hf:p.f with
  | none=>rw [hf,h0] at hfe; exact absurd hfe dM
  | some f =>
   rw [hf] at H
   dsimp only at H
   rw [←ps.1,if_neg hE] at H
   refine H h1 _ (a.store u (fun y hy q hq b hb => .inl ⟨y,hy,q,hq,hb⟩) (Nat.le_succ _)) ?_
   have h3:=ps.2.2
   rw [hf] at h3
   refine ⟨congrArg List.tail ps.1,congrArg (· + 1) ps.2.1,?_⟩
   show match p.f with|none=>_|some f=>_
   rw [hf]; exact h3
 ·cases hf:p.f with
  | none =>
   have h3:=ps.2.2
   rw [hf] at h3
   have h3:s.F=[]:=h3
   rw [h3] at hF
   cases A<;>cases hF
  | some f =>
   obtain ⟨y,y1,y2,y3,y4⟩:=ps.some_ hf
   rw [y1] at hF
   obtain ⟨rfl,rfl,-⟩:=one_split hF
   rw [hf] at H
   dsimp only at H
   rw [←ps.1,if_pos hE] at H
   exact H h1 _ (a.store u (fun y hy=>by cases hy) (Nat.le_succ _)) ⟨congrArg List.tail ps.1,congrArg (· + 1) ps.2.1,rfl⟩
theorem pCreate_c {o sp:Nat} {c:Ca} {s:St} {p:Ps} (a:CAt h o c s) (hsp:c.sp=sp) (ps:PsAt s p) (hs:s.steps+1<1000000) (H:∀h' s',CUpd h h' o c s c s'→PsAt s' p.create.1→K (.int .i64 p.create.2) h'):CallsH Tryz.prog 36 #[ptrV sp,str fN] h K ⟨⟩:=by
 subst hsp
 have hce:cErr s fN=if p.f.isSome then 8 else 0:=by
  unfold cErr
  rw [if_pos okN_f]
  cases hf:p.f with
  | none =>
   have h3:=ps.2.2
   rw [hf] at h3
   have h3:s.F=[]:=h3
   rw [ps.none_ hf,h3]; rfl
  | some f =>
   obtain ⟨y,y1,y2,y3,y4⟩:=ps.some_ hf
   rw [y4]; rfl
 unfold Ps.create at H
 refine Create_c a.st dM hs (fun h1 e1 hne => ?_) (fun h1 fv h0 hE u => ?_) (fun h1 fv b hE _ hg _ u => ?_)
 ·cases hf:p.f with
  | none=>rw [hf] at hce; exact absurd hce hne
  | some f =>
   rw [hf] at hce H
   rw [hce]
   exact H h1 s ((CUpd.refl a).ext e1) ps
 ·cases hf:p.f with
  | some f=>rw [hf,h0] at hce; exact absurd hce sM
  | none =>
   rw [hf] at H
   dsimp only at H
   rw [←ps.1,if_neg hE] at H
   refine H h1 _ (a.store u (fun y hy q hq b hb => .inl ⟨y,hy,q,hq,hb⟩) (Nat.le_succ _)) ?_
   have h3:=ps.2.2
   rw [hf] at h3
   refine ⟨congrArg List.tail ps.1,congrArg (· + 1) ps.2.1,?_⟩
   show match p.f with|none=>_|some f=>_
   rw [hf]; exact h3
 ·cases hf:p.f with
  | some f =>
   obtain ⟨y,y1,y2,y3,y4⟩:=ps.some_ hf
   rw [y4] at hg; cases hg
  | none =>
   have h3:=ps.2.2
   rw [hf] at h3
   have h3:s.F=[]:=h3
   rw [hf] at H
   dsimp only at H
   rw [←ps.1,if_pos hE] at H
   refine H h1 _ (a.store u (fun y hy q hq => ?_) (Nat.le_succ _)) ⟨congrArg List.tail ps.1,congrArg (· + 1) ps.2.1,newFh fN b,by show s.F++_=_; rw [h3]; rfl,rfl,rfl⟩
   dsimp only at hy
   rw [h3] at hy
   have:y=newFh fN b:=by simpa using hy
   rw [this] at hq; cases hq
theorem Sl.file {h':Heap} {o j:Nat} {c:Ca} {s s':St} {p p':Ps} (S:Sl h o j c s p) (u:CAt h' o c s') (ps:PsAt s' p') (hb:p'.steps≤p.steps+4):Sl h' o (j+1) c s' p':=by
 have:=S.bud
 have:=S.clk
 exact ⟨u,ps,S.wf.mono (Nat.le_succ _),by omega,by omega⟩
theorem remove_steps (p:Ps):p.remove.1.steps≤p.steps+1:=by
 unfold Ps.remove Ps.stepped
 cases p.f with
 | none=>exact Nat.le_succ _
 | some f=>dsimp only; split<;>exact Nat.le_refl _
theorem create_steps (p:Ps):p.create.1.steps≤p.steps+1:=by
 unfold Ps.create Ps.stepped
 cases p.f with
 | some f=>exact Nat.le_succ _
 | none=>dsimp only; split<;>exact Nat.le_refl _
theorem useP_len {rk:Int→Nat} {f:Nat} {n:Int} {pb bb:Nat} (hf:∀n,rk n<f) {x:Cx} (hr:Ranks rk x.1) (pl:∀g∈x.1.P,g.D.length=2^x.1.bits):∀g∈(useP f n pb bb x).1.1.P,g.D.length=2^x.1.bits:=by
 have hfree:∀g∈(freeP f x).1.1.P,g.D.length=2^x.1.bits:=by
  obtain ⟨y,ms,-,h2⟩:=freeP_spec hf x hr
  have hy:∀g∈y.1.P,g.D.length=2^x.1.bits:=fun g hg=>by
   obtain ⟨z,hz,-,hD⟩:=ms.less.pg hg
   rw [←hD]; exact pl z hz
  rcases h2 with h2|⟨g1,-,-,-,h2⟩
  ·rw [h2]; exact hy
  ·rw [h2]
   exact fun g hg=>hy g (List.mem_filter.1 hg).1
 have htouch:∀(c:Ca),(∀g∈c.P,g.D.length=2^x.1.bits)→∀g∈(c.touched n).P,g.D.length=2^x.1.bits:=fun c hc g hg=>by
  obtain ⟨y,hy,rfl⟩:=List.mem_map.1 hg
  have:(y.touch n (c.clock+1)).D=y.D:=by unfold Pge.touch; split<;>rfl
  rw [this]; exact hc y hy
 unfold useP
 cases x.2.f with
 | none=>exact pl
 | some fl =>
  dsimp only
  cases x.1.get n with
  | some g=>exact htouch _ pl
  | none =>
   dsimp only
   split
   ·refine htouch _ (fun g hg => ?_)
    rcases List.mem_append.1 hg with hg|hg
    ·exact hfree g hg
    ·rw [List.mem_singleton.1 hg]
     exact fill_len _ _ _
   ·exact hfree
end Go.Proofs.YtcbbdnaelimpfaaGreat
set_option linter.unusedSimpArgs false
set_option linter.unusedVariables false
namespace Go.Proofs.YtcbbdnaelimpfaaGreat
open Go.Vc Go.Sort
variable {K:VP} {h:Heap}

def stepT:Nat:=35
structure Tz where
 c:Ca
 s:St
 p:Ps
 r:Rc
 m:Rm
def TwoZ (h0:Bs) (h:Heap) (o sp q t j:Nat) (z:Tz):Prop:=Two h0 h o sp q t j z.c z.s z.p z.r z.m
set_option maxHeartbeats 16000000 in
theorem both_c {h0:Bs} {o sp q t j:Nat} {z:Tz} {x:Sc} {va:Option Addr} {vc:Nat} (T:TwoZ h0 h o sp q t j z) (hj:j≤50) (hx:ScOk h0.h x) (hxv:x.bv = .slice va x.b.length vc) (hxb:x.b.length≤5000)
 (H:∀h' z',TwoZ h0 h' o sp q t (j+1) z'→K (.bool true) h'):CallsH Tryz.prog 30 #[.agg #[ptrV sp,ptrV o,ptrV q],.agg #[.int .i64 x.kind,.int .i64 x.at_,.int .i64 x.n,.int .i64 x.page,.int .i64 x.other,.slice va x.b.length vc]] h K ⟨⟩:=by
 refine n30_calls ?_
 unfold n30; try delta vF vG vC vD vJ vV vk vt
 obtain ⟨c,s,p,r,m⟩:=z
 have T:Two h0 h o sp q t j c s p r m:=T
 unfold ptrV
 simp (disch:=omega)
 refine (⟨_,rfl⟩:∃G,G=(h.push (.cells #[ptrV sp,ptrV o,ptrV q] ovT)).push (.cells #[.int .i64 x.kind,.int .i64 x.at_,.int .i64 x.n,.int .i64 x.page,.int .i64 x.other,.slice va x.b.length vc] stepT)).elim fun h1 eh1 => ?_
 have e1:Ext h h1:=by rw [eh1]; exact extS
 have z1:h1.size=h.size+2:=by rw [eh1]; simp
 have x1:h1[h.size]? = some (.cells #[ptrV sp,ptrV o,ptrV q] ovT):=by rw [eh1,get_push sM,get_pushed rfl]
 have y1:h1[h.size+1]? = some (.cells #[.int .i64 x.kind,.int .i64 x.at_,.int .i64 x.n,.int .i64 x.page,.int .i64 x.other,.slice va x.b.length vc] stepT):=by rw [eh1]; exact get_pushed sM
 unfold ptrV ovT stepT at eh1
 rw [←eh1]
 clear eh1
 have T1:=T.ext e1
 have o0:=cellOf (i:=0) x1 rfl
 have o1:=cellOf (i:=1) x1 rfl
 have o2:=cellOf (i:=2) x1 rfl
 have w0:=cellOf (i:=0) y1 rfl
 have w1:=cellOf (i:=1) y1 rfl
 have w2:=cellOf (i:=2) y1 rfl
 have w3:=cellOf (i:=3) y1 rfl
 have w4:=cellOf (i:=4) y1 rfl
 have w5:=cellOf (i:=5) y1 rfl
 unfold ptrV at o0 o1 o2
 have hk1:=hx.kind
 have hk2:=hx.at_
 have hk3:=hx.n
 have hk4:=hx.page
 have hk5:=hx.other
 unfold i64 at hk1 hk2 hk3 hk4 hk5
 refine JoinN.mk ?_
 simp (disch:=omega) [w0]
 refine JoinN.mk ?_
 have ok:=T1.S.at_.co.ok
 have hst:=T1.S.ps.2.1
 have hbud:=T1.S.bud
 have hclk:=T1.S.clk
 obtain ⟨rk,f,hf,hr⟩:=T1.S.wf.acyc
 have pl:=T1.S.pl
 have hoo:(.pointer (some ⟨o,0,none⟩):Value)=ptrV o:=rfl
 have hqq:(.pointer (some ⟨q,0,none⟩):Value)=ptrV q:=rfl
 have hss:(.pointer (some ⟨sp,0,none⟩):Value)=ptrV sp:=rfl
 have hRlt:∀b,RaF q r m b→b<h1.size:=fun b hb=>T1.A.lt hb
 have hzh:=T1.fr.ext.size
 -- the boxes stay while the two change
 have keep:∀{G:Heap} {k:Nat} {oB:Obj},h.size≤k→h1[k]? = some oB→Mod (Ft o c s) h1 G→G[k]? = some oB:=fun {G k oB} hk hb d=>(d.block _ (get_some_lt hb) (fun hF=>by have:=T.S.at_.lt hF; omega)).trans hb
 have keep2:∀{g G:Heap} {k:Nat} {oB:Obj},h.size≤k→k<h1.size→g[k]? = some oB→Mod (RaF q r m) g G→G[k]? = some oB:=fun {g G k oB} hk hk2 hb d=>(d.block _ (get_some_lt hb) (fun hF=>by have:=T.A.lt hF; omega)).trans hb
 have cvN:∀(g:Heap) (q:Bool) (K0:VP),Hp Tryz.prog q (convert 33 9 (.slice none 0 0)) K0 g ⟨⟩↔K0 (str []) g:=fun g q K0=>Hp_bytesStr (e:=5) kR kR kR (OwnG.bytes (OwnG.nil (e:=bT) (s:=1)))
 by_cases k0:x.kind=0
 ·simp (disch:=omega) [w0,w1,w2,w3,o1,k0]
  rw [hoo]
  refine cRead_y (rk:=rk) hf hr T1.S.wf.inv T1.S.at_ T1.S.ps omg omg hk2.1 hk2.2 hk3.1 hk3.2 (fun hne => ?_) (fun h2 s2 h0' hne u ps => ?_) (fun h2 s2 pb bb g v h0' hok u ps hg ov fv bz => ?_)
  ·simp (disch:=omega) [w0,w1,w2,w3,o2]
   rw [hqq]
   refine qRead_c (rk:=rk) (pb:=0) (bb:=0) hf hr T1.A T1.R pl T1.S.wf.inv ok.r0 ok.r1 ok.b1 ok.few omg omg hk2.1 hk2.2 hk3.1 hk3.2 (fun e=>absurd e hne) (fun _ => ?_) (fun h3 r3 m3 h0'=>absurd h0' hne) (fun h3 r3 m3 g v h0'=>absurd h0' hne)
   simp (disch:=omega) [cvN]
   refine num_c ?_
   simp (disch:=omega)
   refine loopX1 (α:=Nat) (fun i => .int .i64 i) (fun i g=>i=0∧TwoZ h0 g o sp q t (j+1) ⟨c,s,p,r,m⟩) (fun i=>0) 0 rfl ⟨rfl,(T1.mono (Nat.le_succ _))⟩ ?_
   rintro i g ⟨rfl,TE⟩ X hX
   simp (disch:=omega)
   exact H _ _ TE
  ·have y2:=keep omg y1 u.mod
   have x2:=keep omg x1 u.mod
   have M:=T1.mid u
   have S2:=T1.S.use hf hr u ps
   have w1:=cellOf (i:=1) y2 rfl
   have w2:=cellOf (i:=2) y2 rfl
   have w3:=cellOf (i:=3) y2 rfl
   have o2:=cellOf (i:=2) x2 rfl
   unfold ptrV at o2
   simp (disch:=omega) [w1,w2,w3,o2]
   rw [hqq]
   refine qRead_c (rk:=rk) (pb:=0) (bb:=0) hf hr M.A T1.R pl T1.S.wf.inv ok.r0 ok.r1 ok.b1 ok.few omg omg hk2.1 hk2.2 hk3.1 hk3.2 (fun _ e=>absurd e hne) (fun e=>absurd h0' e) (fun h3 r3 m3 _ _ U R3 q3 => ?_) (fun h3 r3 m3 g v _ e=>absurd e hne)
   have D:=M.done S2 U R3 ((useP_bits (x:=(c,p)) hf hr T1.S.wf.inv (n:=x.page) (pb:=0) (bb:=0)).2.2.1.trans T1.sp) (q3.trans T1.t) T1.low (Nat.le_succ_of_le T1.wl)
   simp (disch:=omega) [cvN]
   refine num_c ?_
   simp (disch:=omega)
   refine loopX1 (α:=Nat) (fun i => .int .i64 i) (fun i g=>i=0∧TwoZ h0 g o sp q t (j+1) ⟨_,s2,_,r3,m3⟩) (fun i=>0) 0 rfl ⟨rfl,D⟩ ?_
   rintro i g ⟨rfl,TE⟩ X hX
   simp (disch:=omega)
   exact H _ _ TE
  ·have y2:=keep omg y1 u.mod
   have x2:=keep omg x1 u.mod
   have M:=T1.mid u
   have S2:=T1.S.use hf hr u ps
   have w1:=cellOf (i:=1) y2 rfl
   have w2:=cellOf (i:=2) y2 rfl
   have w3:=cellOf (i:=3) y2 rfl
   have o2:=cellOf (i:=2) x2 rfl
   unfold ptrV at o2
   simp (disch:=omega) [w1,w2,w3,o2]
   rw [hqq]
   have hlen:∀g',(useP f x.page pb bb (c,p)).1.1.get x.page=some g'→g'.D.length=2^c.bits:=fun g' hg'=>by
    have h3:=u.at_.co.ok.len g' (get_mem hg').1
    rw [(useP_bits (x:=(c,p)) hf hr T1.S.wf.inv (n:=x.page) (pb:=pb) (bb:=bb)).1] at h3
    exact h3
   refine qRead_c (rk:=rk) (pb:=pb) (bb:=bb) hf hr M.A T1.R pl T1.S.wf.inv ok.r0 ok.r1 ok.b1 ok.few omg omg hk2.1 hk2.2 hk3.1 hk3.2 (fun _ _=>hlen) (fun e=>absurd h0' e) (fun h3 r3 m3 _ e=>absurd hok e) (fun h3 r3 m3 g' v' _ _ U R3 q3 hg' ov' _ => ?_)
   rw [hg] at hg'
   cases hg'
   have D:=M.done S2 U R3 ((useP_bits (x:=(c,p)) hf hr T1.S.wf.inv (n:=x.page) (pb:=pb) (bb:=bb)).2.2.1.trans T1.sp) (q3.trans T1.t) T1.low (Nat.le_succ_of_le T1.wl)
   have hvn:∀b,RaF q r m b→blkG v≠some b:=fun b hb e=>by have:=hRlt b hb; have:=fv b e; omega
   have ov3:=ov.mod U.mod (fun b hb hF=>hvn b hF hb)
   have hll:((g.D.drop x.at_.toNat).take x.n.toNat).length≤65536:=by
    have h5:=hlen g hg
    have h6:2^c.bits≤2^16:=Nat.pow_le_pow_right omg ok.b1
    have h7:2^16=65536:=by decide
    rw [List.length_take,List.length_drop]; omega
   have hlo:=fun b (hb:blkG v=some b)=>ov.lt hb
   generalize (g.D.drop x.at_.toNat).take x.n.toNat=l0 at *
   have cv1:∀(q:Bool) (K0:VP),Hp Tryz.prog q (convert 33 9 v) K0 h3 ⟨⟩↔K0 (str l0) h3:=fun q K0=>Hp_bytesStr (e:=5) kR kR kR ov3.bytes
   have cv2:∀(q:Bool) (K0:VP),Hp Tryz.prog q (convert 33 9 v') K0 h3 ⟨⟩↔K0 (str l0) h3:=fun q K0=>Hp_bytesStr (e:=5) kR kR kR ov'.bytes
   simp (disch:=omega) [cv1,cv2]
   refine num_c ?_
   simp (disch:=omega)
   obtain ⟨va2,vn2,vc2,rfl,hvn2,-,-⟩:=ov3.form
   obtain rfl:vn2=l0.length:=by rw [List.length_map] at hvn2; omega
   refine loopX1 (α:=Nat×List UInt8) (fun z => .int .i64 z.1) (fun z g=>z.2.length=l0.length∧OwnG bT 1 g (.slice va2 l0.length vc2) (z.2.map byteV)∧Mod (fun b=>blkG (.slice va2 l0.length vc2)=some b) h3 g∧z.1≤l0.length) (fun z=>l0.length-z.1) (0,l0) rfl ⟨rfl,ov3,.refl _ _,Nat.zero_le _⟩ ?_
   rintro ⟨i,l⟩ g2 ⟨hl,og,mg,hi⟩ X hX
   dsimp only at hl og mg hi ⊢
   by_cases hib:i<l0.length
   ·obtain ⟨ad,hcv,ce,cf,og2,mg2⟩:=turn_step og (i:=i) omg
    cases hcv
    simp (disch:=omega) [ce,cf,Hp_xorB]
    unfold byteV at ce ⊢
    simp (disch:=omega) [ce,cf]
    refine hX (i+1,l.set i (l[i] ^^^ 255)) (.int .i64 ((i:Int)+1)) _ sM ⟨by simpa using hl,og2,mg.trans mg2 (fun b _ e=>e),by omega⟩ (by dsimp only; omega)
   ·obtain rfl:i=l0.length:=by omega
    simp (disch:=omega)
    exact H _ ⟨_,s2,_,r3,m3⟩ (D.modZ bz mg (fun b hb=>by have:=fv b hb; omega) (fun b hb e=>by
     rcases U.foot b hb with h4|h4
     ·exact hvn b h4 e
     ·have:=hlo b e; omega) (fun e=>by have:=fv _ e; have:=get_some_lt T1.wb; omega))
 simp (disch:=omega) [k0]
 refine JoinN_in1 (fun v G=>G=h1∧v = .bool (decide (x.kind=1∨x.kind=2∨x.kind=3))) (fun k1 hk1 => ?_) (fun v G hG => ?_)
 ·by_cases e1:x.kind=1
  ·simp (disch:=omega) [e1]
   exact hk1 _ _ ⟨rfl,by simp [e1]⟩
  ·by_cases e2:x.kind=2
   ·simp (disch:=omega) [e1,e2]
    exact hk1 _ _ ⟨rfl,by simp [e2]⟩
   ·by_cases e3:x.kind=3
    ·simp (disch:=omega) [e1,e2,e3]
     exact hk1 _ _ ⟨rfl,by simp [e3]⟩
    ·simp (disch:=omega) [e1,e2,e3]
     exact hk1 _ _ ⟨rfl,by simp [e1,e2,e3]⟩
 rw [hG.1,hG.2]
 clear hG
 by_cases k1:x.kind=1∨x.kind=2∨x.kind=3
 ·rw [decide_eq_true k1]
  simp (disch:=omega) [w1,w5]
  have hbB:=hx.b.ext T1.fr.ext
  rw [hxv] at hbB
  refine JoinN_in1 (fun v G=>Ext h1 G∧∃b t c,v = .slice (some ⟨b,t,none⟩) x.b.length c∧x.b.length+1≤c∧OwnG bT 1 G (.slice (some ⟨b,t,none⟩) (x.b.length+1) c) ((x.b++[165]).map byteV)∧h1.size≤b) (fun kk hkk => ?_) (fun v G hG => ?_)
  ·have hn1:¬h.size+1=h1.size:=by omega
   have hn2:¬h.size+1=h1.size+1:=by omega
   simp (disch:=omega) [w5,hn1,hn2]
   refine ⟨⟨?_,?_⟩,?_⟩
   ·have eE:Ext h1 (h1.push (.cells #[] 5)):=extS
    have o00:OwnG bT 1 (h1.push (.cells #[] 5)) (.slice (some ⟨h1.size,0,none⟩) 0 0) [] := .inl ⟨_,rfl,rfl⟩
    have z00:=(eE).size
    refine Hp_appendG (e:=bT) (s:=1) (by_:=1) (n:=0) (k:=x.b.length) (news:=x.b.map byteV) kR kR o00 rfl omg (Src.of_bytes (hbB.ext eE)) (one_bytes _) (by simp<;>omega) omg fun v3 g3 o3 m3 f3 _ => ?_
    have e3:Ext h1 g3:=m3.ext_from eE (fun b hb e=>by cases e)
    have f3':∀b,blkG v3=some b→h1.size≤b:=fun b hb=>(f3 b hb).elim (fun e=>by cases e) (fun e=>by omega)
    rw [List.nil_append] at o3
    have w53:=hcell_ext e3 w5
    have z3:=e3.size
    have hn3:¬h.size+1=g3.size:=by omega
    simp (disch:=omega) [w53,hn3]
    have eS:Ext g3 (g3.push (.cells #[.int .u8 165] 5)):=extS
    have sx:Src 1 (g3.push (.cells #[.int .u8 165] 5)) (.slice (some ⟨g3.size,0,none⟩) 1 1) 1 [byteV 165]:=Src_new (vs:=[byteV 165]) rfl
    have z03:=(eS).size
    refine Hp_appendG (e:=bT) (s:=1) (by_:=1) (n:=x.b.length) (k:=1) kR kR (o3.ext eS) sM omg sx (by simp [one,byteV]) omg omg fun v4 g4 o4 m4 f4 _ => ?_
    have e4:Ext h1 g4:=m4.ext_from (e3.trans eS) (fun b hb e=>by have:=f3' b e; omega)
    have f4':∀b,blkG v4=some b→h1.size≤b:=fun b hb=>(f4 b hb).elim (f3' b) (fun e=>by omega)
    have w54:=hcell_ext e4 w5
    have o5:OwnG bT 1 g4 v4 ((x.b++[165]).map byteV):=by rw [List.map_append]; exact o4
    obtain ⟨ya,yn,yc,rfl,hyn,hyc,hya⟩:=o5.form
    obtain rfl:yn=x.b.length+1:=by simp at hyn; omega
    obtain ⟨yb,yt,rfl⟩:=hya sM
    simp (disch:=omega) [w54]
    refine hkk _ _ ⟨e4,yb,yt,yc,rfl,hyc,o5,f4' yb ?_⟩
    obtain ⟨yc',rfl⟩:∃c',yc=c'+1:=⟨yc-1,by omega⟩
    rfl
   ·have eE:Ext h1 ((h1.push (.cells #[] 5)).push (.cells #[.int .u8 165] 5)):=extS
    have sx:Src 1 ((h1.push (.cells #[] 5)).push (.cells #[.int .u8 165] 5)) (.slice (some ⟨h1.size+1,0,none⟩) 1 1) 1 [byteV 165]:=by
     have:=Src_new (h:=h1.push (.cells #[] 5)) (e:=5) (s:=1) (n:=1) (vs:=[byteV 165]) rfl
     rw [Array.size_push] at this
     exact this
    generalize (h1.push (.cells #[] 5)).push (.cells #[.int .u8 165] 5)=gS at *
    have o00:OwnG bT 1 gS (.slice (some ⟨h1.size,0,none⟩) 0 0) [] := .inl ⟨_,rfl,rfl⟩
    have z00:=(eE).size
    refine Hp_appendG (e:=bT) (s:=1) (by_:=1) (n:=0) (k:=x.b.length) (news:=x.b.map byteV) kR kR o00 rfl omg (Src.of_bytes (hbB.ext eE)) (one_bytes _) (by simp<;>omega) omg fun v3 g3 o3 m3 f3 _ => ?_
    have e3:Ext h1 g3:=m3.ext_from eE (fun b hb e=>by cases e)
    have f3':∀b,blkG v3=some b→h1.size≤b:=fun b hb=>(f3 b hb).elim (fun e=>by cases e) (fun e=>by omega)
    rw [List.nil_append] at o3
    have w53:=hcell_ext e3 w5
    have z3:=e3.size
    simp (disch:=omega) [w53]
    have eR:Ext g3 g3 := .refl _
    have sx3:=sx.ext (m3.ext_from (.refl _) (fun b hb e=>by cases e))
    have z03:=(eR).size
    refine Hp_appendG (e:=bT) (s:=1) (by_:=1) (n:=x.b.length) (k:=1) kR kR (o3.ext eR) sM omg sx3 (by simp [one,byteV]) omg omg fun v4 g4 o4 m4 f4 _ => ?_
    have e4:Ext h1 g4:=m4.ext_from (e3.trans eR) (fun b hb e=>by have:=f3' b e; omega)
    have f4':∀b,blkG v4=some b→h1.size≤b:=fun b hb=>(f4 b hb).elim (f3' b) (fun e=>by omega)
    have w54:=hcell_ext e4 w5
    have o5:OwnG bT 1 g4 v4 ((x.b++[165]).map byteV):=by rw [List.map_append]; exact o4
    obtain ⟨ya,yn,yc,rfl,hyn,hyc,hya⟩:=o5.form
    obtain rfl:yn=x.b.length+1:=by simp at hyn; omega
    obtain ⟨yb,yt,rfl⟩:=hya sM
    simp (disch:=omega) [w54]
    refine hkk _ _ ⟨e4,yb,yt,yc,rfl,hyc,o5,f4' yb ?_⟩
    obtain ⟨yc',rfl⟩:∃c',yc=c'+1:=⟨yc-1,by omega⟩
    rfl
   ·have eE:Ext h1 ((h1.push (.cells #[.int .u8 165] 5)).push (.cells #[] 5)):=extS
    have sx:Src 1 ((h1.push (.cells #[.int .u8 165] 5)).push (.cells #[] 5)) (.slice (some ⟨h1.size,0,none⟩) 1 1) 1 [byteV 165] :=
     Src.ext (h:=h1.push (.cells #[.int .u8 165] 5)) (Src_new (h:=h1) (e:=5) (s:=1) (n:=1) (vs:=[byteV 165]) rfl) extS
    generalize (h1.push (.cells #[.int .u8 165] 5)).push (.cells #[] 5)=gS at *
    have o00:OwnG bT 1 gS (.slice (some ⟨h1.size+1,0,none⟩) 0 0) [] := .inl ⟨_,rfl,rfl⟩
    have z00:=(eE).size
    refine Hp_appendG (e:=bT) (s:=1) (by_:=1) (n:=0) (k:=x.b.length) (news:=x.b.map byteV) kR kR o00 rfl omg (Src.of_bytes (hbB.ext eE)) (one_bytes _) (by simp<;>omega) omg fun v3 g3 o3 m3 f3 _ => ?_
    have e3:Ext h1 g3:=m3.ext_from eE (fun b hb e=>by cases e)
    have f3':∀b,blkG v3=some b→h1.size≤b:=fun b hb=>(f3 b hb).elim (fun e=>by cases e) (fun e=>by omega)
    rw [List.nil_append] at o3
    have w53:=hcell_ext e3 w5
    have z3:=e3.size
    simp (disch:=omega) [w53]
    have eR:Ext g3 g3 := .refl _
    have sx3:=sx.ext (m3.ext_from (.refl _) (fun b hb e=>by cases e))
    have z03:=(eR).size
    refine Hp_appendG (e:=bT) (s:=1) (by_:=1) (n:=x.b.length) (k:=1) kR kR (o3.ext eR) sM omg sx3 (by simp [one,byteV]) omg omg fun v4 g4 o4 m4 f4 _ => ?_
    have e4:Ext h1 g4:=m4.ext_from (e3.trans eR) (fun b hb e=>by have:=f3' b e; omega)
    have f4':∀b,blkG v4=some b→h1.size≤b:=fun b hb=>(f4 b hb).elim (f3' b) (fun e=>by omega)
    have w54:=hcell_ext e4 w5
    have o5:OwnG bT 1 g4 v4 ((x.b++[165]).map byteV):=by rw [List.map_append]; exact o4
    obtain ⟨ya,yn,yc,rfl,hyn,hyc,hya⟩:=o5.form
    obtain rfl:yn=x.b.length+1:=by simp at hyn; omega
    obtain ⟨yb,yt,rfl⟩:=hya sM
    simp (disch:=omega) [w54]
    refine hkk _ _ ⟨e4,yb,yt,yc,rfl,hyc,o5,f4' yb ?_⟩
    obtain ⟨yc',rfl⟩:∃c',yc=c'+1:=⟨yc-1,by omega⟩
    rfl
  ·obtain ⟨eG,yb,yt,yc,rfl,hyc,oM,hyb⟩:=hG
   have TG:=T1.ext eG
   have hzG:=eG.size
   obtain ⟨yc',hyc'⟩:∃c',yc=c'+1:=⟨yc-1,by omega⟩
   have hblk:∀{k b:Nat},blkG (.slice (some ⟨yb,yt,none⟩) k yc)=some b→b=yb:=fun {k b} hb=>by
    rw [hyc'] at hb
    exact (Option.some.inj hb).symm
   have hblk2:∀{k b:Nat},blkV (.slice (some ⟨yb,yt,none⟩) k yc)=some b→b=yb:=fun {k b} hb=>by
    rw [hyc'] at hb
    exact (Option.some.inj hb).symm
   have hybG:yb<G.size:=oM.lt (by rw [hyc']; rfl)
   have oN:OwnG bT 1 G (.slice (some ⟨yb,yt,none⟩) x.b.length yc) (x.b.map byteV):=by
    have:=oM.cut (hi:=x.b.length) (mx:=yc) omg (Nat.le_refl _) omg
    rw [Nat.mul_one,←List.map_take,List.take_left'  rfl] at this
    exact this
   have bz0:Bar o c s (fun b=>b=yb):=Bar.newA T1.S.at_ (fun b hb=>by omega)
   have w1:=hcell_ext eG w1
   have w3:=hcell_ext eG w3
   have o1:=hcell_ext eG o1
   simp (disch:=omega) [w1,w3,o1]
   rw [hoo]
   have hbl:=hx.bl
   have nF:∀b,b=yb→¬Ft o c s b:=fun b hb hF=>by have:=T1.S.at_.lt hF; omega
   refine cWrite_x (rk:=rk) hf hr TG.S.wf.inv TG.S.at_ TG.S.ps omg omg hk2.1 hk2.2 oN.bytes hbl (fun d _ hd _=>nF d (hblk2 hd)) (fun hne => ?_) (fun h2 s2 h0' hne u ps => ?_) (fun h2 s2 pb bb h0' hok u ps => ?_)
   ·have M:Mid h0 G o q c s p r m:=⟨TG.fr,TG.A,TG.bar,TG.wb,TG.wB,TG.wR⟩
    have d2:Mod (Ft o c s) G G := .refl _ _
    have y2:=keep omg y1 ((Mod.of_ext eG).trans d2 (fun _ _ h=>h))
    have x2:=keep omg x1 ((Mod.of_ext eG).trans d2 (fun _ _ h=>h))
    have w5:=cellOf (i:=5) y2 rfl
    have oM2:=oM.mod d2 (fun b hb hF=>nF b (hblk hb) hF)
    have oN2:=oN.mod d2 (fun b hb hF=>nF b (hblk hb) hF)
    have bB2:Bytes G (.slice va x.b.length vc) x.b:=by have:=hx.b.ext (M).fr.ext; rw [hxv] at this; exact this
    have cv1:∀(q:Bool) (K0:VP),Hp Tryz.prog q (convert 33 9 (.slice (some ⟨yb,yt,none⟩) x.b.length yc)) K0 G ⟨⟩↔K0 (str x.b) G:=fun q K0=>Hp_bytesStr (e:=5) kR kR kR oN2.bytes
    have cv2:∀(q:Bool) (K0:VP),Hp Tryz.prog q (convert 33 9 (.slice va x.b.length vc)) K0 G ⟨⟩↔K0 (str x.b) G:=fun q K0=>Hp_bytesStr (e:=5) kR kR kR bB2
    have cl:hcell G (elt ⟨yb,yt,none⟩ x.b.length)=some (.int .u8 165):=by
     have:=(oM2.cell (i:=x.b.length) sM).1
     rw [List.getElem_map] at this
     simpa [byteV] using this
    simp (disch:=omega) [w5,cv1,cv2,cl]
    refine loopX1 (α:=Nat×List UInt8) (fun z => .int .i64 z.1) (fun z g=>z.2.length=x.b.length∧OwnG bT 1 g (.slice (some ⟨yb,yt,none⟩) x.b.length yc) (z.2.map byteV)∧Mod (fun b=>blkG (.slice (some ⟨yb,yt,none⟩) x.b.length yc)=some b) G g∧z.1≤x.b.length) (fun z=>x.b.length-z.1) (0,x.b) rfl ⟨rfl,oN2,.refl _ _,Nat.zero_le _⟩ ?_
    rintro ⟨i,l⟩ g2 ⟨hl,og,mg,hi⟩ X hX
    dsimp only at hl og mg hi ⊢
    by_cases hib:i<x.b.length
    ·obtain ⟨ad,hcv,ce,cf,og2,mg2⟩:=turn_step og (i:=i) omg
     cases hcv
     simp (disch:=omega) [ce,cf,Hp_xorB]
     unfold byteV at ce ⊢
     simp (disch:=omega) [ce,cf]
     refine hX (i+1,l.set i (l[i] ^^^ 255)) (.int .i64 ((i:Int)+1)) _ sM ⟨by simpa using hl,og2,mg.trans mg2 (fun b _ e=>e),by omega⟩ (by dsimp only; omega)
    ·obtain rfl:i=x.b.length:=by omega
     simp (disch:=omega)
     have mg':Mod (fun b=>b=yb) G g2:=mg.mono (fun b _ e=>hblk e)
     have M3:=(M).modZ mg' (fun b hb=>by have hb:b=yb:=hb; omega) (fun b hb e=>by have:=T1.A.lt hb; omega) (fun e=>by have e':h0.w=yb:=e; have:=get_some_lt T1.wb; omega)
     have S3:=(TG.S).modZ bz0 mg'
     have hzz:=(M).fr.ext.size
     have y3:=(mg'.block _ (get_some_lt y2) omg).trans y2
     have x3:=(mg'.block _ (get_some_lt x2) omg).trans x2
     have w1:=cellOf (i:=1) y3 rfl
     have w3:=cellOf (i:=3) y3 rfl
     have w5:=cellOf (i:=5) y3 rfl
     have o2:=cellOf (i:=2) x3 rfl
     unfold ptrV at o2
     have bB3:Bytes g2 (.slice va x.b.length vc) x.b:=by have:=hx.b.ext M3.fr.ext; rw [hxv] at this; exact this
     have hv3:∀d,x.b≠[]→blkV (.slice va x.b.length vc)=some d→d<g2.size→¬RaF q r m d:=fun d hne hd _ hF=>by
      have h4:=T1.low d hF
      have h5:=(hxv▸hx.b).lt hd hne
      omega
     simp (disch:=omega) [w1,w3,w5,o2]
     refine num_c ?_
     simp (disch:=omega) [w1,w3,w5,o2]
     rw [hqq]
     refine qWrite_c (rk:=rk) (pb:=0) (bb:=0) hf hr M3.A T1.R pl T1.S.wf.inv ok.r0 ok.r1 ok.b1 ok.few omg omg hk2.1 hk2.2 bB3 hbl hv3 (fun e=>absurd e hne) (fun _ => ?_) (fun h3 r3 m3 h0'=>absurd h0' hne) (fun h3 r3 m3 h0'=>absurd h0' hne)
     simp (disch:=omega)
     exact H _ ⟨c,s,p,r,m⟩ (M3.doneX (S3.mono (Nat.le_succ _)) M3.A (.refl _ _) (fun _ h => .inl h) T1.R T1.sp T1.t T1.low (Nat.le_succ_of_le T1.wl))
   ·have M:=TG.mid u
    have S2:=TG.S.use hf hr u ps
    have bz2:=bz0.upd u (fun b hb=>by omega)
    have y2:=keep omg y1 ((Mod.of_ext eG).trans u.mod (fun _ _ h=>h))
    have x2:=keep omg x1 ((Mod.of_ext eG).trans u.mod (fun _ _ h=>h))
    have w5:=cellOf (i:=5) y2 rfl
    have oM2:=oM.mod u.mod (fun b hb hF=>nF b (hblk hb) hF)
    have oN2:=oN.mod u.mod (fun b hb hF=>nF b (hblk hb) hF)
    have bB2:Bytes h2 (.slice va x.b.length vc) x.b:=by have:=hx.b.ext (M).fr.ext; rw [hxv] at this; exact this
    have cv1:∀(q:Bool) (K0:VP),Hp Tryz.prog q (convert 33 9 (.slice (some ⟨yb,yt,none⟩) x.b.length yc)) K0 h2 ⟨⟩↔K0 (str x.b) h2:=fun q K0=>Hp_bytesStr (e:=5) kR kR kR oN2.bytes
    have cv2:∀(q:Bool) (K0:VP),Hp Tryz.prog q (convert 33 9 (.slice va x.b.length vc)) K0 h2 ⟨⟩↔K0 (str x.b) h2:=fun q K0=>Hp_bytesStr (e:=5) kR kR kR bB2
    have cl:hcell h2 (elt ⟨yb,yt,none⟩ x.b.length)=some (.int .u8 165):=by
     have:=(oM2.cell (i:=x.b.length) sM).1
     rw [List.getElem_map] at this
     simpa [byteV] using this
    simp (disch:=omega) [w5,cv1,cv2,cl]
    refine loopX1 (α:=Nat×List UInt8) (fun z => .int .i64 z.1) (fun z g=>z.2.length=x.b.length∧OwnG bT 1 g (.slice (some ⟨yb,yt,none⟩) x.b.length yc) (z.2.map byteV)∧Mod (fun b=>blkG (.slice (some ⟨yb,yt,none⟩) x.b.length yc)=some b) h2 g∧z.1≤x.b.length) (fun z=>x.b.length-z.1) (0,x.b) rfl ⟨rfl,oN2,.refl _ _,Nat.zero_le _⟩ ?_
    rintro ⟨i,l⟩ g2 ⟨hl,og,mg,hi⟩ X hX
    dsimp only at hl og mg hi ⊢
    by_cases hib:i<x.b.length
    ·obtain ⟨ad,hcv,ce,cf,og2,mg2⟩:=turn_step og (i:=i) omg
     cases hcv
     simp (disch:=omega) [ce,cf,Hp_xorB]
     unfold byteV at ce ⊢
     simp (disch:=omega) [ce,cf]
     refine hX (i+1,l.set i (l[i] ^^^ 255)) (.int .i64 ((i:Int)+1)) _ sM ⟨by simpa using hl,og2,mg.trans mg2 (fun b _ e=>e),by omega⟩ (by dsimp only; omega)
    ·obtain rfl:i=x.b.length:=by omega
     simp (disch:=omega)
     have mg':Mod (fun b=>b=yb) h2 g2:=mg.mono (fun b _ e=>hblk e)
     have M3:=(M).modZ mg' (fun b hb=>by have hb:b=yb:=hb; omega) (fun b hb e=>by have:=T1.A.lt hb; omega) (fun e=>by have e':h0.w=yb:=e; have:=get_some_lt T1.wb; omega)
     have S3:=(S2).modZ bz2 mg'
     have hzz:=(M).fr.ext.size
     have y3:=(mg'.block _ (get_some_lt y2) omg).trans y2
     have x3:=(mg'.block _ (get_some_lt x2) omg).trans x2
     have w1:=cellOf (i:=1) y3 rfl
     have w3:=cellOf (i:=3) y3 rfl
     have w5:=cellOf (i:=5) y3 rfl
     have o2:=cellOf (i:=2) x3 rfl
     unfold ptrV at o2
     have bB3:Bytes g2 (.slice va x.b.length vc) x.b:=by have:=hx.b.ext M3.fr.ext; rw [hxv] at this; exact this
     have hv3:∀d,x.b≠[]→blkV (.slice va x.b.length vc)=some d→d<g2.size→¬RaF q r m d:=fun d hne hd _ hF=>by
      have h4:=T1.low d hF
      have h5:=(hxv▸hx.b).lt hd hne
      omega
     simp (disch:=omega) [w1,w3,w5,o2]
     refine num_c ?_
     simp (disch:=omega) [w1,w3,w5,o2]
     rw [hqq]
     refine qWrite_c (rk:=rk) (pb:=0) (bb:=0) hf hr M3.A T1.R pl T1.S.wf.inv ok.r0 ok.r1 ok.b1 ok.few omg omg hk2.1 hk2.2 bB3 hbl hv3 (fun _ e=>absurd e hne) (fun e=>absurd h0' e) (fun h3 r3 m3 _ _ U R3 q3 => ?_) (fun h3 r3 m3 _ e=>absurd e hne)
     simp (disch:=omega)
     exact H _ ⟨_,s2,_,r3,m3⟩ (M3.done S3 U R3 ((useP_bits (x:=(c,p)) hf hr T1.S.wf.inv (n:=x.page) (pb:=0) (bb:=0)).2.2.1.trans T1.sp) (q3.trans T1.t) T1.low (Nat.le_succ_of_le T1.wl))
   ·have M:=TG.mid u
    have S2:=TG.S.wrote hf hr u ps
    have bz2:=bz0.upd u (fun b hb=>by omega)
    have y2:=keep omg y1 ((Mod.of_ext eG).trans u.mod (fun _ _ h=>h))
    have x2:=keep omg x1 ((Mod.of_ext eG).trans u.mod (fun _ _ h=>h))
    have w5:=cellOf (i:=5) y2 rfl
    have oM2:=oM.mod u.mod (fun b hb hF=>nF b (hblk hb) hF)
    have oN2:=oN.mod u.mod (fun b hb hF=>nF b (hblk hb) hF)
    have bB2:Bytes h2 (.slice va x.b.length vc) x.b:=by have:=hx.b.ext (M).fr.ext; rw [hxv] at this; exact this
    have cv1:∀(q:Bool) (K0:VP),Hp Tryz.prog q (convert 33 9 (.slice (some ⟨yb,yt,none⟩) x.b.length yc)) K0 h2 ⟨⟩↔K0 (str x.b) h2:=fun q K0=>Hp_bytesStr (e:=5) kR kR kR oN2.bytes
    have cv2:∀(q:Bool) (K0:VP),Hp Tryz.prog q (convert 33 9 (.slice va x.b.length vc)) K0 h2 ⟨⟩↔K0 (str x.b) h2:=fun q K0=>Hp_bytesStr (e:=5) kR kR kR bB2
    have cl:hcell h2 (elt ⟨yb,yt,none⟩ x.b.length)=some (.int .u8 165):=by
     have:=(oM2.cell (i:=x.b.length) sM).1
     rw [List.getElem_map] at this
     simpa [byteV] using this
    simp (disch:=omega) [w5,cv1,cv2,cl]
    have hlen:∀g',(useP f x.page pb bb (c,p)).1.1.get x.page=some g'→g'.D.length=2^c.bits:=fun g' hg'=>by
     exact useP_len hf hr (x:=(c,p)) ok.len g' (get_mem hg').1
    refine loopX1 (α:=Nat×List UInt8) (fun z => .int .i64 z.1) (fun z g=>z.2.length=x.b.length∧OwnG bT 1 g (.slice (some ⟨yb,yt,none⟩) x.b.length yc) (z.2.map byteV)∧Mod (fun b=>blkG (.slice (some ⟨yb,yt,none⟩) x.b.length yc)=some b) h2 g∧z.1≤x.b.length) (fun z=>x.b.length-z.1) (0,x.b) rfl ⟨rfl,oN2,.refl _ _,Nat.zero_le _⟩ ?_
    rintro ⟨i,l⟩ g2 ⟨hl,og,mg,hi⟩ X hX
    dsimp only at hl og mg hi ⊢
    by_cases hib:i<x.b.length
    ·obtain ⟨ad,hcv,ce,cf,og2,mg2⟩:=turn_step og (i:=i) omg
     cases hcv
     simp (disch:=omega) [ce,cf,Hp_xorB]
     unfold byteV at ce ⊢
     simp (disch:=omega) [ce,cf]
     refine hX (i+1,l.set i (l[i] ^^^ 255)) (.int .i64 ((i:Int)+1)) _ sM ⟨by simpa using hl,og2,mg.trans mg2 (fun b _ e=>e),by omega⟩ (by dsimp only; omega)
    ·obtain rfl:i=x.b.length:=by omega
     simp (disch:=omega)
     have mg':Mod (fun b=>b=yb) h2 g2:=mg.mono (fun b _ e=>hblk e)
     have M3:=(M).modZ mg' (fun b hb=>by have hb:b=yb:=hb; omega) (fun b hb e=>by have:=T1.A.lt hb; omega) (fun e=>by have e':h0.w=yb:=e; have:=get_some_lt T1.wb; omega)
     have S3:=(S2).modZ bz2 mg'
     have hzz:=(M).fr.ext.size
     have y3:=(mg'.block _ (get_some_lt y2) omg).trans y2
     have x3:=(mg'.block _ (get_some_lt x2) omg).trans x2
     have w1:=cellOf (i:=1) y3 rfl
     have w3:=cellOf (i:=3) y3 rfl
     have w5:=cellOf (i:=5) y3 rfl
     have o2:=cellOf (i:=2) x3 rfl
     unfold ptrV at o2
     have bB3:Bytes g2 (.slice va x.b.length vc) x.b:=by have:=hx.b.ext M3.fr.ext; rw [hxv] at this; exact this
     have hv3:∀d,x.b≠[]→blkV (.slice va x.b.length vc)=some d→d<g2.size→¬RaF q r m d:=fun d hne hd _ hF=>by
      have h4:=T1.low d hF
      have h5:=(hxv▸hx.b).lt hd hne
      omega
     simp (disch:=omega) [w1,w3,w5,o2]
     refine num_c ?_
     simp (disch:=omega) [w1,w3,w5,o2]
     rw [hqq]
     refine qWrite_c (rk:=rk) (pb:=pb) (bb:=bb) hf hr M3.A T1.R pl T1.S.wf.inv ok.r0 ok.r1 ok.b1 ok.few omg omg hk2.1 hk2.2 bB3 hbl hv3 (fun _ _=>hlen) (fun e=>absurd h0' e) (fun h3 r3 m3 _ e=>absurd hok e) (fun h3 r3 m3 _ _ U R3 q3 => ?_)
     simp (disch:=omega)
     exact H _ ⟨_,s2,_,r3,m3⟩ (M3.done S3 U R3 ((useP_bits (x:=(c,p)) hf hr T1.S.wf.inv (n:=x.page) (pb:=pb) (bb:=bb)).2.2.1.trans T1.sp) (q3.trans T1.t) T1.low (Nat.le_succ_of_le T1.wl))
 rw [decide_eq_false k1]
 simp (disch:=omega)
 refine JoinN_in1 (fun v G=>G=h1∧v = .bool (decide (x.kind=4∨x.kind=5))) (fun k1 hk1 => ?_) (fun v G hG => ?_)
 ·by_cases e1:x.kind=4
  ·simp (disch:=omega) [e1]
   exact hk1 _ _ ⟨rfl,by simp [e1]⟩
  ·by_cases e2:x.kind=5
   ·simp (disch:=omega) [e1,e2]
    exact hk1 _ _ ⟨rfl,by simp [e2]⟩
   ·simp (disch:=omega) [e1,e2]
    exact hk1 _ _ ⟨rfl,by simp [e1,e2]⟩
 rw [hG.1,hG.2]
 clear hG
 by_cases k2:x.kind=4∨x.kind=5
 ·rw [decide_eq_true k2]
  simp (disch:=omega) [w3,w4,o1,o2]
  rw [hoo]
  have hWl:=T1.S.wf.lim.1
  have hwl:=T1.wl
  have nd:=wsn_nodup T1.S.at_.co
  refine cAfter_c (k:=j) hr T1.S.at_ T1.S.wf.lim omg (fun he => ?_) (fun h2 a1 a2 hR e2 => ?_) (fun h2 a1 a2 hno hop e2 => ?_) (fun h2 c2 a1 a2 hno hop u W2 => ?_)
  ·simp (disch:=omega) [w3,w4,o2]
   refine num_c ?_
   simp (disch:=omega) [w3,w4,o2]
   rw [hqq]
   refine qAfter_c hr T1.A T1.R nd ok.b1 omg omg (fun _ => ?_) (fun h3 a1 a2 => ?_) (fun h3 a1 a2 => ?_) (fun h3 v a1 a2 => ?_)
   ·simp (disch:=omega)
    exact H _ ⟨c,s,p,r,m⟩ (T1.mono (Nat.le_succ _))
   all_goals exact (he.elim (fun e=>e a1) (fun e=>e a2)).elim
  ·skip
   have y2:=keep omg y1 (Mod.of_ext e2 (S:=Ft o c s))
   have x2:=keep omg x1 (Mod.of_ext e2 (S:=Ft o c s))
   have w1:=cellOf (i:=1) y2 rfl
   have w2:=cellOf (i:=2) y2 rfl
   have w3:=cellOf (i:=3) y2 rfl
   have w4:=cellOf (i:=4) y2 rfl
   have o2:=cellOf (i:=2) x2 rfl
   unfold ptrV at o2
   have T2:=T1.ext e2
   simp (disch:=omega) [w3,w4,o2]
   refine num_c ?_
   simp (disch:=omega) [w3,w4,o2]
   rw [hqq]
   refine qAfter_c hr T2.A T2.R nd ok.b1 omg omg (fun he=>(he.elim (fun e=>e a1) (fun e=>e a2)).elim) (fun h3 _ _ _ e3 => ?_) (fun h3 _ _ hno=>absurd hR hno) (fun h3 v _ _ hno=>absurd hR hno)
   simp (disch:=omega)
   exact H _ ⟨c,s,p,r,m⟩ ((T2.ext e3).mono (Nat.le_succ _))
  ·skip
   have y2:=keep omg y1 (Mod.of_ext e2 (S:=Ft o c s))
   have x2:=keep omg x1 (Mod.of_ext e2 (S:=Ft o c s))
   have w1:=cellOf (i:=1) y2 rfl
   have w2:=cellOf (i:=2) y2 rfl
   have w3:=cellOf (i:=3) y2 rfl
   have w4:=cellOf (i:=4) y2 rfl
   have o2:=cellOf (i:=2) x2 rfl
   unfold ptrV at o2
   have T2:=T1.ext e2
   simp (disch:=omega) [w3,w4,o2]
   refine num_c ?_
   simp (disch:=omega) [w3,w4,o2]
   rw [hqq]
   refine qAfter_c hr T2.A T2.R nd ok.b1 omg omg (fun he=>(he.elim (fun e=>e a1) (fun e=>e a2)).elim) (fun h3 _ _ hR=>absurd hR hno) (fun h3 _ _ _ _ e3 => ?_) (fun h3 v _ _ _ hop'=>by rw [hop] at hop'; cases hop')
   simp (disch:=omega)
   exact H _ ⟨c,s,p,r,m⟩ ((T2.ext e3).mono (Nat.le_succ _))
  ·skip
   have y2:=keep omg y1 u.mod
   have x2:=keep omg x1 u.mod
   have w1:=cellOf (i:=1) y2 rfl
   have w2:=cellOf (i:=2) y2 rfl
   have w3:=cellOf (i:=3) y2 rfl
   have w4:=cellOf (i:=4) y2 rfl
   have o2:=cellOf (i:=2) x2 rfl
   unfold ptrV at o2
   have M:=T1.mid u
   simp (disch:=omega) [w3,w4,o2]
   refine num_c ?_
   simp (disch:=omega) [w3,w4,o2]
   rw [hqq]
   refine qAfter_c hr M.A T1.R nd ok.b1 omg omg (fun he=>(he.elim (fun e=>e a1) (fun e=>e a2)).elim) (fun h3 _ _ hR=>absurd hR hno) (fun h3 _ _ _ hop'=>by rw [hop] at hop'; cases hop') (fun h3 v _ _ _ _ A3 d3 f3 => ?_)
   simp (disch:=omega)
   exact H _ ⟨c2,s,p,{ r with W:=r.W++[(x.page,x.other)],wv:=v },m⟩ (M.doneX (T1.S.waited hno hop u W2) A3 d3 f3 (T1.R.more W2) (by rw [W2.same]; exact T1.sp) T1.t T1.low (by dsimp only; rw [List.length_append]; exact Nat.succ_le_succ T1.wl))
 rw [decide_eq_false k2]
 simp (disch:=omega)
 by_cases k6:x.kind=6
 ·simp (disch:=omega) [k6,w3,o1,o2]
  rw [hoo]
  refine cBack_c (rk:=rk) hf hr T1.S.at_ T1.S.ps omg fun h2 s2 u ps => ?_
  have y2:=keep omg y1 u.mod
  have x2:=keep omg x1 u.mod
  have w1:=cellOf (i:=1) y2 rfl
  have w2:=cellOf (i:=2) y2 rfl
  have w3:=cellOf (i:=3) y2 rfl
  have w4:=cellOf (i:=4) y2 rfl
  have o2:=cellOf (i:=2) x2 rfl
  unfold ptrV at o2
  have M:=T1.mid u
  obtain ⟨mi,hb,-⟩:=backC_mics (x:=(c,p)) hf hr (n:=x.page)
  have S2:=T1.S.mics mi u.at_ ps (by dsimp only at hb; omega)
  simp (disch:=omega) [w3,o2]
  refine num_c ?_
  simp (disch:=omega) [w3,o2]
  rw [hqq]
  refine qBack_c (rk:=rk) hf hr M.A T1.R pl omg fun h3 r3 m3 U R3 q3 => ?_
  simp (disch:=omega)
  exact H _ ⟨_,s2,_,r3,m3⟩ (M.done S2 U R3 (mi.same.sp.trans T1.sp) (q3.trans T1.t) T1.low (Nat.le_succ_of_le T1.wl))
 by_cases k7:x.kind=7
 ·simp (disch:=omega) [k7,o1,o2]
  rw [hoo]
  refine cFlush_c (rk:=rk) hf hr T1.S.at_ T1.S.ps omg fun h2 s2 u ps => ?_
  have y2:=keep omg y1 u.mod
  have x2:=keep omg x1 u.mod
  have w1:=cellOf (i:=1) y2 rfl
  have w2:=cellOf (i:=2) y2 rfl
  have w3:=cellOf (i:=3) y2 rfl
  have w4:=cellOf (i:=4) y2 rfl
  have o2:=cellOf (i:=2) x2 rfl
  unfold ptrV at o2
  have M:=T1.mid u
  obtain ⟨mi,hb⟩:=flushC_mics (x:=(c,p)) hf hr
  have S2:=T1.S.mics mi u.at_ ps (by dsimp only at hb; omega)
  simp (disch:=omega) [o2]
  refine num_c ?_
  simp (disch:=omega) [o2]
  rw [hqq]
  refine qFlush_c (rk:=rk) hf hr M.A T1.R pl omg fun h3 r3 m3 U R3 q3 => ?_
  simp (disch:=omega)
  exact H _ ⟨_,s2,_,r3,m3⟩ (M.done S2 U R3 (mi.same.sp.trans T1.sp) (q3.trans T1.t) T1.low (Nat.le_succ_of_le T1.wl))
 by_cases k8:x.kind=8
 ·simp (disch:=omega) [k8,w3,o1,o2]
  rw [hoo]
  refine cDrop_c T1.S.at_ fun h2 c2 e he u => ?_
  have y2:=keep omg y1 u.mod
  have x2:=keep omg x1 u.mod
  have w1:=cellOf (i:=1) y2 rfl
  have w2:=cellOf (i:=2) y2 rfl
  have w3:=cellOf (i:=3) y2 rfl
  have w4:=cellOf (i:=4) y2 rfl
  have o2:=cellOf (i:=2) x2 rfl
  unfold ptrV at o2
  have M:=T1.mid u
  simp (disch:=omega) [w3,o2]
  refine num_c ?_
  simp (disch:=omega) [w3,o2]
  rw [hqq]
  refine qDrop_c M.A T1.R ok.b1 fun h3 r3 c3 e3 he3 U R3 q3 => ?_
  have hce:(c3,e3)=(c2,e):=he3.trans he.symm
  cases hce
  simp (disch:=omega)
  have S2:Sl h2 o (j+1) c2 s p∧c2.sp=c.sp:=by
   by_cases hask:askE c.bits x.page=0
   ·rw [if_pos hask] at he
    cases hg:c.get x.page with
    | none=>rw [hg] at he; cases he; exact ⟨⟨u.at_,T1.S.ps,T1.S.wf.mono (Nat.le_succ _),by omega,by omega⟩,rfl⟩
    | some g=>rw [hg] at he; cases he; exact ⟨T1.S.drop u,rfl⟩
   ·rw [if_neg hask] at he
    cases he; exact ⟨⟨u.at_,T1.S.ps,T1.S.wf.mono (Nat.le_succ _),by omega,by omega⟩,rfl⟩
  exact H _ ⟨_,s,_,r3,m⟩ (M.done S2.1 U R3 (S2.2.trans T1.sp) (q3.trans T1.t) T1.low (Nat.le_succ_of_le T1.wl))
 by_cases k9:x.kind=9
 ·simp (disch:=omega) [k9,o0]
  rw [hss,show str [102]=str fN from rfl]
  have hrs:=remove_steps p
  refine pRemove_c T1.S.at_ T1.sp T1.S.ps omg fun h2 s2 u ps2 => ?_
  have y2:=keep omg y1 u.mod
  have x2:=keep omg x1 u.mod
  have w1:=cellOf (i:=1) y2 rfl
  have w2:=cellOf (i:=2) y2 rfl
  have w3:=cellOf (i:=3) y2 rfl
  have w4:=cellOf (i:=4) y2 rfl
  have o2:=cellOf (i:=2) x2 rfl
  unfold ptrV at o2
  have M:=T1.mid u
  have S2:=T1.S.file u.at_ ps2 omg
  have d0:=rc0 M.A.c.cells
  refine num_c ?_
  by_cases e7:p.remove.2=7
  ·rw [e7]
   simp (disch:=omega) [o2,d0]
   rw [show (.pointer (some ⟨r.q,0,none⟩):Value)=ptrV r.q from rfl]
   refine rRemoveF_c M.A.s omg fun h3 m3 u3 => ?_
   have U3:=u3.a M.A
   have D:=M.done S2 U3 T1.R T1.sp T1.t T1.low (Nat.le_succ_of_le T1.wl)
   rw [e7]
   have y3:=keep2 omg omg y2 U3.mod
   have x3:=keep2 omg omg x2 U3.mod
   have o0:=cellOf (i:=0) x3 rfl
   have o2:=cellOf (i:=2) x3 rfl
   unfold ptrV at o0 o2
   have d0:=rc0 D.A.c.cells
   simp (disch:=omega) [o0,o2,d0]
   rw [hss]
   have hst2:=D.S.ps.2.1
   have hbud2:=D.S.bud
   have hcs:=create_steps p.remove.1
   refine pCreate_c D.S.at_ D.sp D.S.ps omg fun h4 s4 u4 ps4 => ?_
   have M4:=D.mid u4
   have S4:=T1.S.file u4.at_ ps4 omg
   have hD4:∀{k:Nat} {oB:Obj},h.size≤k→k<h1.size→h3[k]? = some oB→h4[k]? = some oB:=fun {k oB} hk hk2 hb=>(u4.mod.block _ (get_some_lt hb) (fun hF=>by
    rcases u.foot _ hF with e|e
    ·have:=T.S.at_.lt e; omega
    ·have:=u.mod.size; omega)).trans hb
   have x4:=hD4 omg omg x3
   have o2:=cellOf (i:=2) x4 rfl
   unfold ptrV at o2
   have d0:=rc0 M4.A.c.cells
   simp (disch:=omega) [o2,d0]
   refine num_c ?_
   simp (disch:=omega) [o2,d0]
   rw [show (.pointer (some ⟨r.q,0,none⟩):Value)=ptrV r.q from rfl]
   refine rCreateF_c M4.A.s omg fun h5 m5 u5 => ?_
   have U5:=u5.a M4.A
   simp (disch:=omega)
   exact H _ ⟨c,s4,_,r,m5⟩ (M4.done S4 U5 T1.R T1.sp T1.t D.low (Nat.le_succ_of_le T1.wl))
  ·simp (disch:=omega) [e7,o2,d0]
   rw [show (.pointer (some ⟨r.q,0,none⟩):Value)=ptrV r.q from rfl]
   refine rRemoveF_c M.A.s omg fun h3 m3 u3 => ?_
   have U3:=u3.a M.A
   exact H _ ⟨c,s2,_,r,m3⟩ (M.done S2 U3 T1.R T1.sp T1.t T1.low (Nat.le_succ_of_le T1.wl))
 ·simp (disch:=omega) [k6,k7,k8,k9]
  exact H _ ⟨c,s,p,r,m⟩ (T1.mono (Nat.le_succ _))
end Go.Proofs.YtcbbdnaelimpfaaGreat
set_option linter.unusedSimpArgs false
set_option linter.unusedVariables false
namespace Go.Proofs.YtcbbdnaelimpfaaGreat
open Go.Vc Go.Sort
variable {K:VP} {h:Heap}

set_option maxHeartbeats 2000000 in
theorem appNil_c {b:Nat} (hb:h[b]? = some (.cells #[.map none] 88)) (H:∀h',Ext h h'→K (.slice none 0 0) h') :
 CallsH Tryz.prog 114 #[.slice none 0 0,.func (.func 86) #[] #[ptrV b]] h K ⟨⟩:=by
 refine n114_calls ?_
 unfold n114; try delta vF vG vC vD vJ vV vk vt
 simp (disch:=omega)
 refine JoinN_in1 (fun D g=>D=consD (h.size+1) (.tuple #[])∧g[h.size+1]? = some (.deferred (some []))∧Ext h g∧g[h.size]? = some (.cells #[.slice none 0 0] l6T)) (fun kk hkk => ?_) (fun D g hD => ?_)
 ·refine JoinN.mk ?_
  have hbl:=get_some_lt hb
  refine (⟨_,rfl⟩:∃g,g=h.push (.cells #[.slice none 0 0] l6T)).elim fun h0 eh0 => ?_
  have e0:Ext h h0:=by rw [eh0]; exact extS
  have z0:h0.size=h.size+1:=by rw [eh0]; simp
  have q0:h0[h.size]? = some (.cells #[.slice none 0 0] l6T):=by rw [eh0]; exact get_pushed rfl
  rw [show h.push (.cells #[.slice none 0 0] 102)=h0 from eh0.symm]
  clear eh0
  refine RangeC_none rfl fun oR oB oE oX oF Kp hoR hoB hrd hN hR hX => ?_
  refine (⟨_,rfl⟩:∃g,g=(h0.push (.deferred (some []))).push oR).elim fun h1 eh1 => ?_
  have e1:Ext h0 h1:=by rw [eh1]; exact extS
  have z1:h1.size=h.size+3:=by rw [eh1]; simp [z0]
  have rD:h1[h.size+1]? = some (.deferred (some [])):=by rw [eh1,get_push (by simp; omega),get_pushed omg]
  have rL:h1[h.size+2]? = some oR:=by rw [eh1,get_pushed (by simp; omega)]
  rw [←eh1]
  clear eh1
  rw [z0] at hrd hN ⊢
  refine InvokeH_k1 kR ?_
  refine n86_calls ?_
  unfold n86 ptrV; try delta vF vG vC vD vJ vV vk vt
  have c0:=cellL (i:=0) (((e0.trans e1).block b hbl).trans hb) rfl
  simp (disch:=omega) [c0]
  refine Hp_rangeNil kR fun h2 e2 hit hs2 => ?_
  refine loopA0 (α:=Unit) (fun _ g=>g=h2) (fun _=>0) () rfl ?_
  rintro _ g rfl
  have q2:=(e2.block h.size omg).trans ((e1.block h.size omg).trans q0)
  have rD2:=(e2.block _ omg).trans rD
  have rL2:=(e2.block _ omg).trans rL
  rw [Hp_nextNil hit]
  simp (disch:=omega)
  refine hN _ _ rL2 ?_
  dsimp only
  have hl2:=get_some_lt rL2
  exact hkk _ _ ⟨rfl,(get_putne omg).trans rD2,Mod.ext_from ((e0.trans e1).trans e2) (Mod.put _ _ _) (fun b hb e=>by omega),(get_putne omg).trans q2⟩
 ·obtain ⟨rfl,hd,eg,hv⟩:=hD
  have c0:=cellL (i:=0) hv rfl
  simp (disch:=omega) [c0]
  refine RetD_one' hd ?_
  have md:=Mod.put g (h.size+1) (.deferred none)
  exact H _ (md.ext_from eg (fun b hb e=>by omega))
def Cno (h:Heap) (v:Value):Prop:=v = .pointer none∨∃o,v=ptrV o∧h[o]? = some (.cells #[.pointer none,str [],.int .i64 0,.int .i64 0,.map none,.map none,.map none,.int .i64 0,.int .i64 0,.int .i64 0,.int .i64 0,.int .i64 0] cT)
theorem Cno.ext {h':Heap} {v:Value} (a:Cno h v) (e:Ext h h'):Cno h' v:=a.imp id (fun ⟨o,h1,h2⟩=>⟨o,h1,(e.block _ (get_some_lt h2)).trans h2⟩)
theorem ask0_c {v:Value} {n:Int} (a:Cno h v) (H:K (.int .i64 1) h):CallsH Tryz.prog 41 #[v,.int .i64 n] h K ⟨⟩:=by
 refine n41_calls ?_
 unfold n41; try delta vF vG vC vD vJ vV vk vt
 rcases a with rfl|⟨o,rfl,ho⟩
 ·simp (disch:=omega)
  exact H
 ·have c0:=cellOf (i:=0) ho rfl
  unfold ptrV
  simp (disch:=omega) [c0]
  exact H
theorem pages0_c {v:Value} (a:Cno h v) (H:∀h' sb,Ext h h'→Nsq h' sb (.slice none 0 0) []→K (nsqV sb) h'):CallsH Tryz.prog 33 #[v] h K ⟨⟩:=by
 refine n33_calls ?_
 unfold n33; try delta vF vG vC vD vJ vV vk vt
 rcases a with rfl|⟨o,rfl,ho⟩
 ·simp (disch:=omega)
  refine n73_calls ?_
  unfold n73; try delta vF vG vC vD vJ vV vk vt
  simp (disch:=omega)
  exact H _ h.size extS ⟨get_pushed rfl,.nil⟩
 ·have c4:=cellOf (i:=4) ho rfl
  unfold ptrV
  simp (disch:=omega) [c4]
  refine n46_calls ?_
  unfold n46; try delta vF vG vC vD vJ vV vk vt
  simp (disch:=omega)
  refine n45_calls ?_
  unfold n45; try delta vF vG vC vD vJ vV vk vt
  refine n84_calls ?_
  unfold n84; try delta vF vG vC vD vJ vV vk vt
  rw [show (.pointer (some ⟨h.size,0,none⟩):Value)=ptrV h.size from rfl]
  refine appNil_c (get_pushed rfl) fun h2 e2 => ?_
  refine sortL64_c (l:=[]) .nil dM fun h3 L' p3 s3 o3 m3 => ?_
  refine n73_calls ?_
  unfold n73; try delta vF vG vC vD vJ vV vk vt
  simp (disch:=omega)
  have e3:Ext h h3:=m3.ext_from (Ext.trans (extS:Ext h (h.push (.cells #[.map none] 88))) e2) (fun b hb e=>by cases e)
  exact H _ h3.size (e3.trans extS) ⟨get_pushed rfl,.nil⟩
theorem counts0_c {v:Value} (a:Cno h v) (H:∀h',Ext h h'→K (.agg #[.int .i64 0,.int .i64 0,.int .i64 0,.int .i64 0]) h'):CallsH Tryz.prog 34 #[v] h K ⟨⟩:=by
 refine n34_calls ?_
 unfold n34; try delta vF vG vC vD vJ vV vk vt
 rcases a with rfl|⟨o,rfl,ho⟩
 ·simp (disch:=omega)
  exact H _ extS
 ·have hol:=get_some_lt ho
  have hon:¬o=h.size:=by omega
  have d8:=cellOf (i:=8) ho rfl
  have d9:=cellOf (i:=9) ho rfl
  have d10:=cellOf (i:=10) ho rfl
  have d11:=cellOf (i:=11) ho rfl
  unfold ptrV
  simp (disch:=omega) [hon,d8,d9,d10,d11]
  exact H _ extS
theorem state0_c {v:Value} {n:Int} (a:Cno h v) (H:∀h',Ext h h'→K (.tuple #[.agg #[.bool false,.bool false,.slice none 0 0],.int .i64 1]) h'):CallsH Tryz.prog 53 #[v,.int .i64 n] h K ⟨⟩:=by
 refine n53_calls ?_
 unfold n53; try delta vF vG vC vD vJ vV vk vt
 simp (disch:=omega)
 refine ask0_c (a.ext extS) ?_
 simp (disch:=omega)
 exact H _ (put3_ext extS (Nat.le_refl _))
theorem read0_c {v:Value} {n a k:Int} (z:Cno h v) (H:K (.tuple #[.slice none 0 0,.int .i64 1]) h):CallsH Tryz.prog 12 #[v,.int .i64 n,.int .i64 a,.int .i64 k] h K ⟨⟩:=by
 refine n12_calls ?_
 unfold n12; try delta vF vG vC vD vJ vV vk vt
 refine n39_calls ?_
 unfold n39; try delta vF vG vC vD vJ vV vk vt
 refine ask0_c z ?_
 simp (disch:=omega)
 exact H
theorem write0_c {v w:Value} {n a:Int} {c:Nat} {ad:Option Addr} (z:Cno h v) (hw:w = .slice ad 0 c) (H:K (.int .i64 1) h):CallsH Tryz.prog 13 #[v,.int .i64 n,.int .i64 a,w] h K ⟨⟩:=by
 subst hw
 refine n13_calls ?_
 unfold n13; try delta vF vG vC vD vJ vV vk vt
 simp (disch:=omega)
 refine n39_calls ?_
 unfold n39; try delta vF vG vC vD vJ vV vk vt
 refine ask0_c z ?_
 simp (disch:=omega)
 exact H
theorem after0_c {v:Value} {n t:Int} (z:Cno h v) (H:K (.int .i64 1) h):CallsH Tryz.prog 14 #[v,.int .i64 n,.int .i64 t] h K ⟨⟩:=by
 refine n14_calls ?_
 unfold n14; try delta vF vG vC vD vJ vV vk vt
 refine ask0_c z ?_
 simp (disch:=omega)
 exact H
theorem back0_c {v:Value} {n:Int} (z:Cno h v) (H:K (.int .i64 1) h):CallsH Tryz.prog 15 #[v,.int .i64 n] h K ⟨⟩:=by
 refine n15_calls ?_
 unfold n15; try delta vF vG vC vD vJ vV vk vt
 refine ask0_c z ?_
 simp (disch:=omega)
 exact H
theorem flush0_c {v:Value} (z:Cno h v) (H:K (.int .i64 1) h):CallsH Tryz.prog 16 #[v] h K ⟨⟩:=by
 refine n16_calls ?_
 unfold n16; try delta vF vG vC vD vJ vV vk vt
 refine ask0_c z ?_
 simp (disch:=omega)
 exact H
theorem drop0_c {v:Value} {n:Int} (z:Cno h v) (H:K (.int .i64 1) h):CallsH Tryz.prog 24 #[v,.int .i64 n] h K ⟨⟩:=by
 refine n24_calls ?_
 unfold n24; try delta vF vG vC vD vJ vV vk vt
 refine ask0_c z ?_
 simp (disch:=omega)
 exact H
theorem cNewE_c {sp:Nat} {s:St} {bits room:Int} {l:List UInt8} (a:StAt h sp s) (hl:l.length<9223372036854775808)
 (H2:(bits<9∨16<bits∨room<1∨1024<room)→K (.tuple #[.pointer none,.int .i64 2]) h)
 (He:∀h',Ext h h'→¬(bits<9∨16<bits∨room<1∨1024<room)→fErr s l≠0→K (.tuple #[.pointer none,.int .i64 (fErr s l)]) h')
 (hno:(bits<9∨16<bits∨room<1∨1024<room)∨∀x∈s.F,x.name≠l) :
 CallsH Tryz.prog 10 #[ptrV sp,str l,.int .i64 bits,.int .i64 room] h K ⟨⟩:=by
 refine n10_calls ?_
 unfold n10 ptrV; try delta vF vG vC vD vJ vV vk vt
 by_cases b1:bits<9
 ·simp (disch:=omega) [b1]
  exact H2 (.inl b1)
 by_cases b2:16<bits
 ·simp (disch:=omega) [b1,b2]
  exact H2 (.inr (.inl b2))
 by_cases b3:room<1
 ·simp (disch:=omega) [b1,b2,b3]
  exact H2 (.inr (.inr (.inl b3)))
 by_cases b4:1024<room
 ·simp (disch:=omega) [b1,b2,b3,b4]
  exact H2 (.inr (.inr (.inr b4)))
 have hb:¬(bits<9∨16<bits∨room<1∨1024<room):=by omega
 simp (disch:=omega) [b1,b2,b3,b4]
 rw [show (.pointer (some ⟨sp,0,none⟩):Value)=ptrV sp from rfl]
 refine Size_c a hl (fun h1 e1 hne => ?_) (fun h1 x e1 hx hxn => ?_)
 ·simp (disch:=omega) [hne]
  exact He h1 e1 hb hne
 ·exfalso
  exact hno.resolve_left hb x hx hxn
theorem cNewN_c {l:List UInt8} {bits room:Int} (H:K (.tuple #[.pointer none,.int .i64 1]) h):CallsH Tryz.prog 10 #[.pointer none,str l,.int .i64 bits,.int .i64 room] h K ⟨⟩:=by
 refine n10_calls ?_
 unfold n10; try delta vF vG vC vD vJ vV vk vt
 simp (disch:=omega)
 exact H
set_option maxHeartbeats 8000000 in
theorem nothing_c {h0:Bs} {o sp q t j:Nat} {c:Ca} {s:St} {p:Ps} {r:Rc} {m:Rm} (T:Two h0 h o sp q t j c s p r m) (H:∀h',Ext h h'→K (.bool true) h'):CallsH Tryz.prog 32 #[ptrV sp] h K ⟨⟩:=by
 refine n32_calls ?_
 unfold n32; try delta vF vG vC vD vJ vV vk vt
 have st:∀{G:Heap},Ext h G→StAt G sp s:=fun {G} e=>by have:=(T.ext e).S.at_.st; rw [T.sp] at this; exact this
 have hnm:∀x∈s.F,x.name=fN:=fun x hx=>by
  cases hf:p.f with
  | none =>
   have h3:=T.S.ps.2.2
   rw [hf] at h3
   have h3:s.F=[]:=h3
   rw [h3] at hx; cases hx
  | some f =>
   obtain ⟨y,y1,y2,y3,y4⟩:=T.S.ps.some_ hf
   rw [y1] at hx
   rw [List.mem_singleton.1 hx]; exact y3
 have hg:fErr s [103]=7:=by
  have hn:s.get [103]=none:=by
   cases hf:p.f with
   | none =>
    have h3:=T.S.ps.2.2
    rw [hf] at h3
    have h3:s.F=[]:=h3
    unfold St.get; rw [h3]; rfl
   | some f =>
    obtain ⟨y,y1,y2,y3,y4⟩:=T.S.ps.some_ hf
    unfold St.get
    rw [y1,List.find?_cons]
    simp [y3,fN]
  unfold fErr
  rw [if_pos dM,hn]
 have he:fErr s []=2:=by unfold fErr; rw [if_neg dM]
 refine cNewN_c ?_
 simp (disch:=omega)
 refine cNewE_c (st (.refl _)) dM (fun hb=>by omega) (fun h1 e1 _ _ => ?_) (.inr (fun x hx e=>by rw [hnm x hx] at e; exact absurd e dM))
 rw [hg]
 simp (disch:=omega)
 refine cNewE_c (l:=[]) (st e1) dM (fun hb=>by omega) (fun h2 e2 _ _ => ?_) (.inr (fun x hx e=>by rw [hnm x hx] at e; exact absurd e dM))
 rw [he]
 simp (disch:=omega)
 refine num_c ?_
 simp (disch:=omega)
 refine num_c ?_
 simp (disch:=omega)
 refine num_c ?_
 simp (disch:=omega)
 refine (⟨_,rfl⟩:∃G,G=(h2.push (.cells #[.pointer none,str [],.int .i64 0,.int .i64 0,.map none,.map none,.map none,.int .i64 0,.int .i64 0,.int .i64 0,.int .i64 0,.int .i64 0] cT)).push (.cells #[.pointer none,.pointer (some ⟨h2.size,0,none⟩)] 28)).elim fun G eG => ?_
 have eg:Ext h2 G:=by rw [eG]; exact extS
 have hz:G[h2.size]? = some (.cells #[.pointer none,str [],.int .i64 0,.int .i64 0,.map none,.map none,.map none,.int .i64 0,.int .i64 0,.int .i64 0,.int .i64 0,.int .i64 0] cT):=by rw [eG,get_push sM,get_pushed rfl]
 have hsl:G[h2.size+1]? = some (.cells #[.pointer none,.pointer (some ⟨h2.size,0,none⟩)] 28):=by rw [eG]; exact get_pushed sM
 unfold cT at eG
 rw [show (h2.push _).push _=G from eG.symm]
 clear eG
 refine loopX1 (α:=Nat) (fun i => .int .i64 i) (fun i g=>i≤2∧Ext G g) (fun i=>2-i) 0 rfl ⟨Nat.zero_le _,.refl _⟩ ?_
 rintro i g ⟨hi,e⟩ X hX
 by_cases hi2:i<2
 ·have hc:∃v,hcell g (elt ⟨h2.size+1,0,none⟩ i)=some v∧Cno g v:=by
   have hsg:=(e.block _ (get_some_lt hsl)).trans hsl
   have hzg:=(e.block _ (get_some_lt hz)).trans hz
   have hi':i=0∨i=1:=by omega
   rcases hi' with rfl|rfl
   ·exact ⟨_,cellOf (i:=0) hsg rfl,.inl rfl⟩
   ·exact ⟨_,cellOf (i:=1) hsg rfl,.inr ⟨h2.size,rfl,hzg⟩⟩
  obtain ⟨v,hcv,cn⟩:=hc
  have hvp:(∃a,v = .pointer a):=cn.elim (fun e=>⟨_,e⟩) (fun ⟨o,e,_⟩=>⟨_,e⟩)
  obtain ⟨va,rfl⟩:=hvp
  simp (disch:=omega) [hcv]
  refine read0_c cn ?_
  simp (disch:=omega)
  refine state0_c cn fun g1 e1 => ?_
  have cn1:=cn.ext e1
  simp (disch:=omega)
  generalize hg2:hset _ (⟨g1.size,2,none⟩:Addr) _=g2
  have e2:Ext g1 g2:=by rw [←hg2]; exact put3_ext extS (Nat.le_refl _)
  have k2:g2[g1.size]? = some (.cells #[.bool false,.bool false,.slice none 0 0] 121):=by rw [←hg2]; exact put3 (get_pushed rfl)
  clear hg2
  have cn2:=cn1.ext e2
  have u0:=cellOf (i:=0) k2 rfl
  have u1:=cellOf (i:=1) k2 rfl
  have u2:=cellOf (i:=2) k2 rfl
  refine num_c ?_
  simp (disch:=omega)
  refine write0_c cn2 rfl ?_
  simp (disch:=omega)
  refine num_c ?_
  simp (disch:=omega)
  refine after0_c cn2 ?_
  simp (disch:=omega)
  refine num_c ?_
  simp (disch:=omega)
  refine back0_c cn2 ?_
  simp (disch:=omega)
  refine num_c ?_
  simp (disch:=omega)
  refine flush0_c cn2 ?_
  simp (disch:=omega)
  refine num_c ?_
  simp (disch:=omega)
  refine drop0_c cn2 ?_
  simp (disch:=omega)
  refine num_c ?_
  simp (disch:=omega) [u0,u1,u2]
  refine num_c ?_
  simp (disch:=omega)
  refine pages0_c cn2 fun g3 sb e3 nq => ?_
  simp (disch:=omega)
  refine pages_c (L:=[]) OwnG.nil (Nat.zero_le _) nq rfl (.inl rfl) fun g4 e4 => ?_
  simp (disch:=omega)
  refine counts0_c ((cn2.ext e3).ext e4) fun g5 e5 => ?_
  simp (disch:=omega)
  exact hX (i+1) _ _ sM ⟨by omega,((e.trans e1).trans (e2.trans e3)).trans (e4.trans e5)⟩ omg
 ·obtain rfl:i=2:=by omega
  simp (disch:=omega)
  exact H _ (((e1.trans e2).trans eg).trans e)
end Go.Proofs.YtcbbdnaelimpfaaGreat
set_option linter.unusedSimpArgs false
set_option linter.unusedVariables false
namespace Go.Proofs.YtcbbdnaelimpfaaGreat
open Go.Vc Go.Sort
variable {K:VP} {h:Heap}

def jobT:Nat:=61
structure Near (size bits room:Int) (fs:List (Int×Int)) (xs:List Sc):Prop where
 l40:xs.length≤40
 s0:0≤size
 s1:size≤50000
 f60:fs.length≤60
 right:fs.all rightF=true
 bits:bits≤12∨16<bits
 b:∀x∈xs,x.b.length≤5000
set_option maxHeartbeats 8000000 in
theorem far_c {size bits room:Int} {u v:Value} {fs:List (Int×Int)} {xs:List Sc} (hf:Fas h u fs) (hx:Scs h v xs) (H1:∀h',Ext h h'→K (.bool true) h') (H0:∀h',Ext h h'→Near size bits room fs xs→K (.bool false) h') :
 CallsH Tryz.prog 25 #[.agg #[.int .i64 size,u,.int .i64 bits,.int .i64 room,v]] h K ⟨⟩:=by
 refine n25_calls ?_
 unfold n25; try delta vF vG vC vD vJ vV vk vt
 obtain ⟨va,vc,rfl⟩:=hx.form
 obtain ⟨fa,fc,rfl,hfc⟩:=hf.form
 have hlen:=hx.len
 have hfl:=hf.few
 refine (⟨_,rfl⟩:∃G,G=h.push (.cells #[.int .i64 size,.slice fa fs.length fc,.int .i64 bits,.int .i64 room,.slice va xs.length vc] jobT)).elim fun G eG => ?_
 have eg:Ext h G:=by rw [eG]; exact extS
 have x0:G[h.size]? = some (.cells #[.int .i64 size,.slice fa fs.length fc,.int .i64 bits,.int .i64 room,.slice va xs.length vc] jobT):=by rw [eG]; exact get_pushed rfl
 have hbox:∀(K:VP),Hp Tryz.prog false (Instr.box jobT (.agg #[.int .i64 size,.slice fa fs.length fc,.int .i64 bits,.int .i64 room,.slice va xs.length vc])) K h ⟨⟩↔K (.pointer (some ⟨h.size,0,none⟩)) G:=fun K=>by
  rw [eG]
  simp (disch:=omega) [jobT]
 have zg:G.size=h.size+1:=by rw [eG]; simp
 clear eG
 rw [show Instr.box 61=Instr.box jobT from rfl,hbox]
 have c0:=cellOf (i:=0) x0 rfl
 have c1:=cellOf (i:=1) x0 rfl
 have c2:=cellOf (i:=2) x0 rfl
 have c4:=cellOf (i:=4) x0 rfl
 by_cases h1:40<xs.length
 ·simp (disch:=omega) [c0,c1,c2,c4,h1]
  exact H1 _ eg
 by_cases h2:size<0
 ·simp (disch:=omega) [c0,c1,c2,c4,h1,h2]
  exact H1 _ eg
 by_cases h3:50000<size
 ·simp (disch:=omega) [c0,c1,c2,c4,h1,h2,h3]
  exact H1 _ eg
 by_cases h4:60<fs.length
 ·simp (disch:=omega) [c0,c1,c2,c4,h1,h2,h3,h4]
  exact H1 _ eg
 simp (disch:=omega) [c0,c1,c2,c4,h1,h2,h3,h4]
 refine refRight_c (hf.ext eg) ?_
 cases hr:fs.all rightF with
 | false =>
  simp (disch:=omega)
  exact H1 _ eg
 | true =>
 by_cases h5:12<bits
 ·by_cases h6:bits≤16
  ·simp (disch:=omega) [c2,h5,h6]
   exact H1 _ eg
  ·simp (disch:=omega) [c2,h5,h6]
   refine loopX1 (α:=Nat) (fun i => .int .i64 i) (fun i g=>i≤xs.length∧Ext G g∧∀j (hj:j<xs.length),j<i→xs[j].b.length≤5000) (fun i=>xs.length-i) 0 rfl ⟨Nat.zero_le _,.refl _,fun j hj h0=>absurd h0 omg⟩ ?_
   rintro i g ⟨hi,e,hok⟩ X hX
   have xg:=(e.block _ (get_some_lt x0)).trans x0
   have c4:=cellOf (i:=4) xg rfl
   by_cases hil:i<xs.length
   ·obtain ⟨ad,c',hv,k0,k1,k2,k3,k4,k5⟩:=((hx.ext eg).ext e).cell hil
    injection hv with hv1 _ hv3
    subst hv1
    have hxo:=((hx.ext eg).ext e).ok xs[i] (List.getElem_mem hil)
    obtain ⟨ba,bc,hbv⟩:=hxo.b.form
    rw [hbv] at k5
    have hbl:=hxo.bl
    simp (disch:=omega) [c4,k0,k1,k2,k3,k4,k5]
    generalize hgy:hset _ (⟨g.size,5,none⟩:Addr) _=gy
    have ey:Ext g gy:=by rw [←hgy]; exact put6_ext extS (Nat.le_refl _)
    have yy:gy[g.size]? = some (.cells #[.int .i64 xs[i].kind,.int .i64 xs[i].at_,.int .i64 xs[i].n,.int .i64 xs[i].page,.int .i64 xs[i].other,.slice ba xs[i].b.length bc] 35):=by rw [←hgy]; exact put6 (get_pushed rfl)
    clear hgy
    have y3:=cellOf (i:=3) yy rfl
    have y5:=cellOf (i:=5) yy rfl
    have done:5000<xs[i].b.length∨(12≤xs[i].page∧xs[i].page<268435456)∨¬5000<xs[i].b.length:=by omega
    by_cases h8:12≤xs[i].page
    ·by_cases h9:xs[i].page<268435456
     ·simp (disch:=omega) [y3,y5,h8,h9]
      exact H1 _ ((eg.trans e).trans ey)
     ·by_cases h10:5000<xs[i].b.length
      ·simp (disch:=omega) [y3,y5,h8,h9,h10]
       exact H1 _ ((eg.trans e).trans ey)
      ·simp (disch:=omega) [y3,y5,h8,h9,h10]
       refine hX (i+1) _ _ sM ⟨by omega,e.trans ey,fun j hj hji => ?_⟩ omg
       by_cases ej:j=i
       ·subst ej; omega
       ·exact hok j hj omg
    ·by_cases h10:5000<xs[i].b.length
     ·simp (disch:=omega) [y3,y5,h8,h10]
      exact H1 _ ((eg.trans e).trans ey)
     ·simp (disch:=omega) [y3,y5,h8,h10]
      refine hX (i+1) _ _ sM ⟨by omega,e.trans ey,fun j hj hji => ?_⟩ omg
      by_cases ej:j=i
      ·subst ej; omega
      ·exact hok j hj omg
   ·obtain rfl:i=xs.length:=by omega
    simp (disch:=omega) [c4]
    refine H0 g (eg.trans e) ⟨by omega,by omega,by omega,by omega,hr,by omega,fun x hx => ?_⟩
    obtain ⟨j,hj,rfl⟩:=List.getElem_of_mem hx
    exact hok j hj hj
 ·simp (disch:=omega) [c2,h5]
  refine loopX1 (α:=Nat) (fun i => .int .i64 i) (fun i g=>i≤xs.length∧Ext G g∧∀j (hj:j<xs.length),j<i→xs[j].b.length≤5000) (fun i=>xs.length-i) 0 rfl ⟨Nat.zero_le _,.refl _,fun j hj h0=>absurd h0 omg⟩ ?_
  rintro i g ⟨hi,e,hok⟩ X hX
  have xg:=(e.block _ (get_some_lt x0)).trans x0
  have c4:=cellOf (i:=4) xg rfl
  by_cases hil:i<xs.length
  ·obtain ⟨ad,c',hv,k0,k1,k2,k3,k4,k5⟩:=((hx.ext eg).ext e).cell hil
   injection hv with hv1 _ hv3
   subst hv1
   have hxo:=((hx.ext eg).ext e).ok xs[i] (List.getElem_mem hil)
   obtain ⟨ba,bc,hbv⟩:=hxo.b.form
   rw [hbv] at k5
   have hbl:=hxo.bl
   simp (disch:=omega) [c4,k0,k1,k2,k3,k4,k5]
   generalize hgy:hset _ (⟨g.size,5,none⟩:Addr) _=gy
   have ey:Ext g gy:=by rw [←hgy]; exact put6_ext extS (Nat.le_refl _)
   have yy:gy[g.size]? = some (.cells #[.int .i64 xs[i].kind,.int .i64 xs[i].at_,.int .i64 xs[i].n,.int .i64 xs[i].page,.int .i64 xs[i].other,.slice ba xs[i].b.length bc] 35):=by rw [←hgy]; exact put6 (get_pushed rfl)
   clear hgy
   have y3:=cellOf (i:=3) yy rfl
   have y5:=cellOf (i:=5) yy rfl
   have done:5000<xs[i].b.length∨(12≤xs[i].page∧xs[i].page<268435456)∨¬5000<xs[i].b.length:=by omega
   by_cases h8:12≤xs[i].page
   ·by_cases h9:xs[i].page<268435456
    ·simp (disch:=omega) [y3,y5,h8,h9]
     exact H1 _ ((eg.trans e).trans ey)
    ·by_cases h10:5000<xs[i].b.length
     ·simp (disch:=omega) [y3,y5,h8,h9,h10]
      exact H1 _ ((eg.trans e).trans ey)
     ·simp (disch:=omega) [y3,y5,h8,h9,h10]
      refine hX (i+1) _ _ sM ⟨by omega,e.trans ey,fun j hj hji => ?_⟩ omg
      by_cases ej:j=i
      ·subst ej; omega
      ·exact hok j hj omg
   ·by_cases h10:5000<xs[i].b.length
    ·simp (disch:=omega) [y3,y5,h8,h10]
     exact H1 _ ((eg.trans e).trans ey)
    ·simp (disch:=omega) [y3,y5,h8,h10]
     refine hX (i+1) _ _ sM ⟨by omega,e.trans ey,fun j hj hji => ?_⟩ omg
     by_cases ej:j=i
     ·subst ej; omega
     ·exact hok j hj omg
  ·obtain rfl:i=xs.length:=by omega
   simp (disch:=omega) [c4]
   refine H0 g (eg.trans e) ⟨by omega,by omega,by omega,by omega,hr,by omega,fun x hx => ?_⟩
   obtain ⟨j,hj,rfl⟩:=List.getElem_of_mem hx
   exact hok j hj hj
theorem qNew_c {t:Nat} {m:Rm} {p:Ps} {f:Fl} {bits room:Int} (a:RvM h t m p) (hf:p.f=some f)
 (H2:(bits<9∨16<bits∨room<1∨1024<room)→K (.tuple #[.pointer none,.int .i64 2]) h)
 (H:∀h' q,Ext h h'→(9≤bits∧bits≤16∧1≤room∧room≤1024)→h'[q]? = some (.cells (Rc.cells ⟨t,bits.toNat,room.toNat,[],[],[],.slice none 0 0,.slice none 0 0,.slice none 0 0,0,0,0,0,0⟩) rcT)→h.size≤q→K (.tuple #[ptrV q,.int .i64 0]) h') :
 CallsH Tryz.prog 29 #[ptrV t,str fN,.int .i64 bits,.int .i64 room] h K ⟨⟩:=by
 refine n29_calls ?_
 unfold n29; try delta vF vG vC vD vJ vV vk vt
 by_cases b1:bits<9
 ·simp (disch:=omega) [b1]
  exact H2 (.inl b1)
 by_cases b2:16<bits
 ·simp (disch:=omega) [b1,b2]
  exact H2 (.inr (.inl b2))
 by_cases b3:room<1
 ·simp (disch:=omega) [b1,b2,b3]
  exact H2 (.inr (.inr (.inl b3)))
 by_cases b4:1024<room
 ·simp (disch:=omega) [b1,b2,b3,b4]
  exact H2 (.inr (.inr (.inr b4)))
 simp (disch:=omega) [b1,b2,b3,b4]
 refine Named_c dM ?_
 rw [decide_eq_true okN_f]
 simp (disch:=omega)
 refine rReadF_c a dM dM dM dM (fun hn=>by rw [hf] at hn; cases hn) (fun h1 f1 e1 hf1 hbad => ?_) (fun h1 f1 v e1 hf1 _ _ _ _ _ => ?_)
 ·exfalso; omega
 ·obtain ⟨B,rfl⟩:=Int.eq_ofNat_of_zero_le (show 0≤bits by omega)
  obtain ⟨R,rfl⟩:=Int.eq_ofNat_of_zero_le (show 0≤room by omega)
  unfold ptrV
  simp (disch:=omega)
  have hz:=e1.size
  refine H _ h1.size (e1.trans extS) ⟨by omega,by omega,by omega,by omega⟩ ?_ hz
  rw [Int.toNat_natCast,Int.toNat_natCast]
  exact get_pushed rfl
theorem RvM.fates {q:Nat} {m:Rm} {p:Ps} {g:Heap} {v:Value} {fs:List (Int×Int)} (a:RvM h q m p) (e:Ext h g) (ov:OwnG aT 2 g v (fs.flatMap faV)) (hl:fs.length≤1000) (ho:∀f∈fs,i64 f.1∧i64 f.2) (hv:∀b,blkG v=some b→h.size≤b):RvU h (hset g ⟨q,1,none⟩ v) q m { m with fv:=v } { p with fates:=fs }:=by
 have ag:=a.ext e
 refine a.cell (m':={ m with fv:=v }) (p':={ p with fates:=fs }) (i:=1) e rfl ?_ ag.ps ov a.name a.ok a.stp a.pfew hl ho a.pn (fun b hb => ?_)
 ·exact ag.fs
 ·rcases hb with hb|hb|hb|hb
  ·exact .inl (.inl hb)
  ·exact .inl (.inr (.inl hb))
  ·exact .inr (hv b hb)
  ·exact .inl (.inr (.inr (.inr hb)))
end Go.Proofs.YtcbbdnaelimpfaaGreat

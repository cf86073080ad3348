/- What is proved: the law palimpsestlaw14.CachePlays returns true for every input,and its arguments read as they did. No conditions. -/
import Derived.Test.YtcbbdnaelimpfaaGreatRows
import Derived.Test.YtcbbdnaelimpfaaGreatRcdA
import Derived.Test.YtcbbdnaelimpfaaGreatOpen
import Derived.Test.YtcbbdnaelimpfaaGreatClose
set_option linter.unusedSimpArgs false
set_option linter.unusedVariables false
namespace Go.Proofs.YtcbbdnaelimpfaaGreat
open Go.Vc Go.Sort
variable {K:VP} {h:Heap}

section
open Go Go.ChangeShapes Go.WideShapes Go.ChangeAt Go.RowKit Go.Deep
set_option maxRecDepth 100000 in
theorem open_job {H:Type} {enc:TypeId×Value→H} {w:World} {base:Nat} {sp:Nat→Bool} {held:Bool} {v:Value} {r:Go.Reach} {b0:Nat} {ps:List MemPlace} {d:DataW H} (hval:Value.okWide Tryz.prog w r b0 61 v) (hd:DataW.Trod enc Tryz.prog w base sp held 61 v d ps) :
 ∃(size bits room:Int) (u2 u1:Value) (xs:List Sc) (fs:List (Int×Int)),v = .agg #[.int .i64 size,u2,.int .i64 bits,.int .i64 room,u1]∧Scs w.heap u1 xs∧Fas w.heap u2 fs:=by
 obtain ⟨cs,rfl,hl,hL⟩:=Laid.topFlds (L:=[(2,0,1),(48,1,1),(3,2,1),(3,3,1),(22,4,1)]) (n:=5) kR kR hval hd
 obtain ⟨c0,c1,c2,c3,c4,rfl⟩:=len5 hl
 obtain ⟨n0,hn0,-⟩:=(hL 0 _ _ _ rfl).int (k := .i64) kR
 obtain rfl:c0 = .int .i64 n0:=by simpa using hn0
 obtain ⟨u2,fs,hu2,hf⟩:=laid_fates (hL 1 _ _ _ rfl)
 obtain rfl:c1=u2:=by simpa using hu2
 obtain ⟨n2,hn2,-⟩:=(hL 2 _ _ _ rfl).int (k := .i64) kR
 obtain rfl:c2 = .int .i64 n2:=by simpa using hn2
 obtain ⟨n3,hn3,-⟩:=(hL 3 _ _ _ rfl).int (k := .i64) kR
 obtain rfl:c3 = .int .i64 n3:=by simpa using hn3
 obtain ⟨u,xs,hu,hx⟩:=laid_scs (hL 4 _ _ _ rfl)
 obtain rfl:c4=u:=by simpa using hu
 exact ⟨n0,n2,n3,c1,c4,xs,fs,rfl,hx,hf⟩
end
set_option maxHeartbeats 16000000 in
theorem CachePlays_c {size bits room:Int} {u1 u2:Value} {xs:List Sc} {fs:List (Int×Int)} (hx:Scs h u1 xs) (hf:Fas h u2 fs) (H:∀h',Ext h h'→K (.bool true) h'):CallsH Tryz.prog 6 #[.agg #[.int .i64 size,u2,.int .i64 bits,.int .i64 room,u1]] h K ⟨⟩:=by
 refine n6_calls ?_
 unfold n6; try delta vF vG vC vD vJ vV vk vt
 obtain ⟨xa,xc,rfl⟩:=hx.form
 obtain ⟨fa,fc,rfl,hfc⟩:=hf.form
 have hxl:=hx.len
 have hfl:=hf.few
 have works:∀g,Ext h g→CallsH Tryz.prog 8 #[] g K ⟨⟩:=fun g e=>works_c fun g' e'=>H _ (e.trans e')
 refine (⟨_,rfl⟩:∃G,G=h.push (.cells #[.int .i64 size,.slice fa fs.length fc,.int .i64 bits,.int .i64 room,.slice xa xs.length xc] jobT)).elim fun h0 eh0 => ?_
 have e0:Ext h h0:=by rw [eh0]; exact extS
 have x0:h0[h.size]? = some (.cells #[.int .i64 size,.slice fa fs.length fc,.int .i64 bits,.int .i64 room,.slice xa xs.length xc] jobT):=by rw [eh0]; exact get_pushed rfl
 have z0:h0.size=h.size+1:=by rw [eh0]; simp
 have hx0l:=get_some_lt x0
 have cx0:=cellOf (i:=0) x0 rfl
 have cx1:=cellOf (i:=1) x0 rfl
 have cx2:=cellOf (i:=2) x0 rfl
 have cx3:=cellOf (i:=3) x0 rfl
 have cx4:=cellOf (i:=4) x0 rfl
 have hbox:∀(K:VP),Hp Tryz.prog false (Instr.box jobT (.agg #[.int .i64 size,.slice fa fs.length fc,.int .i64 bits,.int .i64 room,.slice xa xs.length xc])) K h ⟨⟩↔K (.pointer (some ⟨h.size,0,none⟩)) h0:=fun K=>by
  rw [eh0]
  simp (disch:=omega) [jobT]
 clear eh0
 rw [show Instr.box 61=Instr.box jobT from rfl,hbox]
 simp (disch:=omega) [cx0,cx1,cx2,cx3,cx4]
 refine far_c (hf.ext e0) (hx.ext e0) (fun h1 e1 => ?_) (fun h1 e1 near => ?_)
 ·simp (disch:=omega)
  exact works _ (e0.trans e1)
 obtain ⟨l40,s0,s1,f60,hright,hbits,hbs⟩:=near
 obtain ⟨N,rfl⟩:=Int.eq_ofNat_of_zero_le s0
 have x1:=(e1.block _ hx0l).trans x0
 have cy0:=cellOf (i:=0) x1 rfl
 have cy1:=cellOf (i:=1) x1 rfl
 simp (disch:=omega) [cy0,cy1]
 refine file_c (n:=N) omg ((hf.ext e0).ext e1) omg (fun h2 e2 hr'=>by rw [hright] at hr'; cases hr') (fun h2 sp s e2 _ st ps fo qs => ?_)
 have hsp:ptrV sp = .pointer (some ⟨sp,0,none⟩):=rfl
 simp (disch:=omega) [hsp]
 refine rvNew_c fun h3 t m3 e3 v3 lo3 => ?_
 have ht:ptrV t = .pointer (some ⟨t,0,none⟩):=rfl
 refine rCreateF_c v3 dM fun h4 m4 u4 => ?_
 have hc1:(⟨none,[],0⟩:Ps).create=(⟨some ⟨fN,[],[]⟩,[],1⟩,0):=rfl
 rw [hc1] at u4 ⊢
 have hz2:=e2.size
 have hz3:=e3.size
 have hz4:=u4.mod.size
 have lo4:∀b,RvF t m4 b→h2.size≤b:=fun b hb=>(u4.foot b hb).elim (lo3 b) (fun e=>by omega)
 have E14:Ext h2 h4:=u4.mod.ext_from e3 (fun b hb e=>by have:=lo3 b e; omega)
 have x4:=(E14.block _ (by have:=get_some_lt x1; omega)).trans ((e2.block _ (get_some_lt x1)).trans x1)
 have cz0:=cellOf (i:=0) x4 rfl
 simp (disch:=omega) [cz0,ht]
 rw [←ht]
 refine rResizeF_c u4.at_ rfl rfl dM omg fun h5 m5 u5 => ?_
 have hz5:=u5.mod.size
 have lo5:∀b,RvF t m5 b→h2.size≤b:=fun b hb=>(u5.foot b hb).elim (lo4 b) (fun e=>by omega)
 have E15:Ext h2 h5:=u5.mod.ext_from E14 (fun b hb e=>by have:=lo4 b e; omega)
 have x5:=(E15.block _ (by have:=get_some_lt x1; omega)).trans ((e2.block _ (get_some_lt x1)).trans x1)
 have ca1:=cellOf (i:=1) x5 rfl
 have hhs:¬h.size=h5.size:=by have:=get_some_lt x5; omega
 simp (disch:=omega) [ca1,hhs]
 have eG:Ext h5 (Array.push h5 (.cells #[] 118)):=extS
 have zG:(Array.push h5 (.cells #[] 118)).size=h5.size+1:=by simp
 generalize Array.push h5 (.cells #[] 118)=G0 at *
 have o0:OwnG aT 2 G0 (.slice (some ⟨h5.size,0,none⟩) 0 0) [] := .inl ⟨_,rfl,rfl⟩
 have Ehf:Ext h G0:=(e0.trans e1).trans ((e2.trans E15).trans eG)
 refine Hp_appendG (e:=aT) (s:=2) (by_:=16) (n:=0) (k:=fs.length) (news:=fs.flatMap faV) kR kR o0 rfl omg (hf.ext Ehf).src (faV_one _) omg omg fun v6 h6 o6 m6 b6 _ => ?_
 have e6:Ext h5 h6:=m6.ext_from eG (fun b hb e=>by cases e)
 have f6:∀b,blkG v6=some b→h5.size≤b:=fun b hb=>(b6 b hb).elim (fun e=>by cases e) (fun e=>by omega)
 rw [List.nil_append] at o6
 have v5:=u5.at_.ext e6
 have ct1:hcell h6 ⟨t,1,none⟩=some m5.fv:=cellOf v5.cells rfl
 have ft1:hfrozen h6 ⟨t,1,none⟩=false:=frzOf v5.cells
 obtain ⟨wa,wn,wc,rfl,-,-,-⟩:=o6.form
 have x6:=(e6.block _ (get_some_lt x5)).trans x5
 have cb2:=cellOf (i:=2) x6 rfl
 have cb3:=cellOf (i:=3) x6 rfl
 obtain ⟨ga,gn,gc,hgv,-,-,-⟩:=v5.fat.form
 rw [hgv] at ct1
 have hth:¬t=h.size:=by
  intro e
  have:=lo5 t (.inl rfl)
  have:=get_some_lt x1
  omega
 have hth':¬h.size=t:=fun e=>hth e.symm
 unfold ptrV
 simp (disch:=omega) [ct1,ft1,cb2,cb3,hth,hth']
 have u7:=u5.at_.fates e6 o6 omg (fun f hf'=>by have:=hf.ok f hf'; exact ⟨⟨this.1,this.2.1⟩,⟨this.2.2.1,this.2.2.2⟩⟩) f6
 generalize hset h6 ⟨t,1,none⟩ (.slice wa wn wc)=h7 at *
 have hz7:=u7.mod.size
 have lo7:∀b,RvF t { m5 with fv := .slice wa wn wc } b→h2.size≤b:=fun b hb=>(u7.foot b hb).elim (lo5 b) (fun e=>by omega)
 have E17:Ext h2 h7:=u7.mod.ext_from E15 (fun b hb e=>by have:=lo5 b e; omega)
 have v7:=u7.at_
 have st7:=st.ext E17
 have x7:=(E17.block _ (by have:=get_some_lt x1; omega)).trans ((e2.block _ (get_some_lt x1)).trans x1)
 have hfN:str [102]=str fN:=rfl
 rw [←hsp,hfN]
 by_cases bad:bits<9∨16<bits∨room<1∨1024<room
 ·refine cNewE_c st7 dM (fun _ => ?_) (fun _ _ hn=>absurd bad hn) (.inl bad)
  have cb2:=cellOf (i:=2) x7 rfl
  have cb3:=cellOf (i:=3) x7 rfl
  simp (disch:=omega) [cb2,cb3]
  rw [←ht]
  refine qNew_c v7 rfl (fun _ => ?_) (fun _ _ _ hok=>absurd bad omg)
  simp (disch:=omega)
  refine num_c ?_
  simp (disch:=omega)
  have Eh7:Ext h h7:=(e0.trans e1).trans (e2.trans E17)
  refine works_c fun g' e' => ?_
  simp (disch:=omega)
  exact H _ (Eh7.trans e')
 obtain ⟨B,rfl⟩:=Int.eq_ofNat_of_zero_le (show (0:Int)≤bits by omega)
 obtain ⟨R,rfl⟩:=Int.eq_ofNat_of_zero_le (show (0:Int)≤room by omega)
 refine cNew_c (bits:=B) (room:=R) st7 ps rfl omg omg omg omg fun h8 o km pm wm e8 a8 ho fo8 => ?_
 have x8:=(e8.block _ (get_some_lt x7)).trans x7
 have cb2:=cellOf (i:=2) x8 rfl
 have cb3:=cellOf (i:=3) x8 rfl
 have hoo:ptrV o = .pointer (some ⟨o,0,none⟩):=rfl
 simp (disch:=omega) [cb2,cb3,hoo]
 rw [←ht]
 refine qNew_c (v7.ext e8) rfl (fun hb=>absurd hb bad) (fun h9 q e9 _ rq hq => ?_)
 rw [Int.toNat_natCast,Int.toNat_natCast] at rq
 have hqq:ptrV q = .pointer (some ⟨q,0,none⟩):=rfl
 simp (disch:=omega) [hqq,hsp]
 generalize hg10:hset _ (⟨h9.size,2,none⟩:Addr) _=g
 have e10:Ext h9 g:=by rw [←hg10]; exact put3_ext extS (Nat.le_refl _)
 have k10:g[h9.size]? = some (.cells #[ptrV sp,ptrV o,ptrV q] ovT):=by rw [←hg10]; exact put3 (get_pushed rfl)
 clear hg10
 have hz8:=e8.size
 have hz9:=e9.size
 have hz10:=e10.size
 have x9:=(e9.block _ (get_some_lt x8)).trans x8
 refine num_c ?_
 simp (disch:=omega)
 have v10:=((v7.ext e8).ext e9).ext e10
 have rq10:=(e10.block _ (get_some_lt rq)).trans rq
 have hlt7:∀b,RvF t { m5 with fv := .slice wa wn wc } b→b<h7.size:=fun b hb=>by
  obtain ⟨arr,tt,h3,-⟩:=v7.tag hb
  exact get_some_lt h3
 have hfst:∀b,s.foot sp b→b<h2.size:=fun b hb=>st.lt hb
 have hRaF:∀b,RaF q ⟨t,B,R,[],[],[],.slice none 0 0,.slice none 0 0,.slice none 0 0,0,0,0,0,0⟩ { m5 with fv := .slice wa wn wc } b→b=q∨(h2.size≤b∧b<h7.size):=fun b hb=>by
  rcases hb with hb|hb
  ·rcases hb with hb|hb|hb|hb|⟨y,hy,-⟩
   ·exact .inl hb
   ·cases hb
   ·cases hb
   ·cases hb
   ·cases hy
  ·exact .inr ⟨lo7 b hb,hlt7 b hb⟩
 have hFt:∀b,Ft o (newC sp B R km pm wm) s b→b<h2.size∨(h7.size≤b∧b<h8.size):=fun b hb=>by
  rcases hb with hb|hb
  ·exact .inr ⟨fo8 b hb,a8.co.lt hb⟩
  ·exact .inl (hfst b hb)
 have hpcs:∀y∈s.F,∀qq∈y.qs,False:=fun y hy qq hqq=>by rw [qs y hy] at hqq; cases hqq
 have T0:Two ⟨h1,h9.size,.cells #[ptrV sp,ptrV o,ptrV q] ovT⟩ g o sp q t 0 (newC sp B R km pm wm) s ⟨some (fl0 N),fs,2⟩ ⟨t,B,R,[],[],[],.slice none 0 0,.slice none 0 0,.slice none 0 0,0,0,0,0,0⟩ { m5 with fv := .slice wa wn wc }:=by
  refine ⟨⟨(a8.ext e9).ext e10,ps,wf_new sp B R km pm wm,Nat.le_refl 2,Nat.le_refl _⟩,rfl,⟨(((e2.trans E17).trans e8).trans e9).trans e10,fun b hb => ?_⟩,⟨⟨rq10,OwnG.nil,(fun x hx=>by cases hx),OwnG.nil,OwnG.nil,⟨Nat.zero_le _,Nat.zero_le _,Nat.zero_le _,.nil,.nil⟩⟩,v10⟩,rfl,⟨rfl,rfl,rfl,rfl,rfl,rfl,rfl,.refl _,fun _=>Iff.rfl,(fun m q=>⟨fun h=>(by cases h),fun h=>(by cases h)⟩),Nat.le_refl _⟩,⟨fun b hb hF => ?_,fun y hy qq hqq=>(hpcs y hy qq hqq).elim⟩,fun b hb => ?_,Nat.le_refl _,k10,⟨fun b hb hF => ?_,fun y hy qq hqq=>(hpcs y hy qq hqq).elim⟩,fun b hb e => ?_⟩
  ·show h1.size≤b
   rcases hb with hb|hb
   ·have:=fo8 b hb; omega
   ·exact fo b hb
  ·rcases hRaF b hb with e|⟨e1',e2'⟩<;>rcases hFt b hF with e3'|⟨e3',e4'⟩<;>omega
  ·show h1.size≤b
   rcases hRaF b hb with e|⟨e1',e2'⟩<;>omega
  ·have hb':b=h9.size:=hb
   rcases hFt b hF with e3'|⟨e3',e4'⟩<;>omega
  ·have e':b=h9.size:=e
   have hql:=get_some_lt rq
   rcases hRaF b hb with e3'|⟨e3',e4'⟩<;>omega
 refine loopX1 (α:=Nat×Tz) (fun z => .int .i64 z.1) (fun z g=>z.1≤xs.length∧TwoZ ⟨h1,h9.size,.cells #[ptrV sp,ptrV o,ptrV q] ovT⟩ g o sp q t z.1 z.2) (fun z=>xs.length-z.1) (0,⟨_,s,_,_,_⟩) rfl ⟨Nat.zero_le _,T0⟩ ?_
 rintro ⟨i,z⟩ g' ⟨hi,T⟩ X hX
 dsimp only at hi T ⊢
 have xg:=(T.fr.ext.block _ (get_some_lt x1)).trans x1
 have cg4:=cellOf (i:=4) xg rfl
 have k1:=cellOf (i:=0) T.wb rfl
 have k2:=cellOf (i:=1) T.wb rfl
 have k3:=cellOf (i:=2) T.wb rfl
 by_cases hil:i<xs.length
 ·obtain ⟨ad,c',hv,q0,q1,q2,q3,q4,q5⟩:=(((hx.ext e0).ext e1).ext T.fr.ext).cell hil
  injection hv with hv1 _ hv3
  subst hv1
  have hxo:=((hx.ext e0).ext e1).ok xs[i] (List.getElem_mem hil)
  obtain ⟨ba,bc,hbv⟩:=hxo.b.form
  rw [hbv] at q5
  have hb5:=hbs xs[i] (List.getElem_mem hil)
  simp (disch:=omega) [cg4,hil,k1,k2,k3,q0,q1,q2,q3,q4,q5]
  refine both_c T omg hxo hbv hb5 fun g2 z2 T2 => ?_
  have k1:=cellOf (i:=0) T2.wb rfl
  have k2:=cellOf (i:=1) T2.wb rfl
  have k3:=cellOf (i:=2) T2.wb rfl
  simp (disch:=omega) [k1,k2,k3]
  refine as_c T2 fun g3 e3 => ?_
  simp (disch:=omega)
  exact hX (i+1,z2) _ _ sM ⟨by dsimp only; omega,T2.ext e3⟩ (by dsimp only; omega)
 ·have hie:i=xs.length:=by omega
  simp (disch:=omega) [cg4,hie]
  refine nothing_c T fun g2 e2 => ?_
  simp (disch:=omega)
  refine works_c fun g3 e3 => ?_
  simp (disch:=omega)
  exact H _ ((((e0.trans e1).trans T.fr.ext).trans e2).trans e3)
end Go.Proofs.YtcbbdnaelimpfaaGreat
namespace Go.Proofs.YtcbbdnaelimpfaaGreat.cachePlays
open Go.ChangeShapes Go.WideShapes Go.ChangeAt Go.RowKit Go.Joins Go.Vc

theorem own:ownKnob Tryz.prog.godebug=none:=by kernel_rfl
theorem laidOut:laidOutB Tryz.prog=true:=by kernel_rfl

set_option maxRecDepth 100000 in
set_option maxHeartbeats 1000000 in
theorem lifted (os:Os) (started:os.Started) (H:Type) (enc:TypeId×Value→H) :
 ReturnsInHanded {} Tryz.checked os 6 .any (Rows.cachePlaysSpec.pre6 enc Tryz.prog Tryz.f6 Rows.cachePlaysRow.domain false) (Rows.cachePlaysSpec.post enc Tryz.prog Tryz.f6 false true false false):=by
 refine returnsInHanded_of_change (C:=Tryz.checked) own started kR Tryz.func6
  (ChangeSpec.witness6 (enc:=enc) (C:=Tryz.checked) false ⟨#[],#[.agg #[.int .i64 0,.slice none 0 0,.int .i64 0,.int .i64 0,.slice none 0 0]],[]⟩ 8 kR kR kR kR) ?_
 intro W base args ds gs before hval0 hW hcnd _
 have hval:∀(j:Nat) t v,Tryz.f6.params[j]? = some t→args[j]? = some v→Value.okWide Tryz.prog W .any base t v:=hval0
 have hW':=hW
 obtain ⟨p,q,hA0,hV,rfl,hfz,hnd⟩:=hW
 have hA:DataW.TrodAll enc Tryz.prog W 0 (fun _=>true) true Tryz.f6.params.toList args.toList ds p:=hA0
 rw [Tryz.params6] at hA hval
 obtain ⟨v0,vs0,d0,ds0,p0,q0,hargs,rfl,rfl,h0,r0⟩:=trodAll_cons hA
 obtain ⟨rfl,rfl,rfl⟩:=trodAll_nil r0
 obtain rfl:args = #[v0]:=by cases args; simp_all
 obtain ⟨size,bits,room,u2,u1,xs,fs,rfl,hx,hf⟩:=open_job (hval 0 61 v0 rfl rfl) h0
 refine ((CachePlays_c (h:=W.heap) hx hf (K:=fun v h'=>v = .bool true∧Ext W.heap h') (fun h' e=>⟨rfl,e⟩)).out W rfl).mono fun e W' ⟨v,he,hs,hv,hx⟩ => ?_
 exact ⟨v,he,hv▸law_post laidOut kR rfl (tb:=4) kR kR hW' (fun hg=>by rw [hg]; rfl) (below_of hs hx)⟩

theorem proved:Rows.CachePlaysSaid :=
 OpenClaim.holds_of_wide 6 Tryz.f6 rfl rfl rfl rfl rfl rfl rfl ⟨rfl,rfl,rfl,rfl,rfl⟩ rfl rfl rfl rfl rfl kR Tryz.func6 kR
  (of_decide_eq_true kR) (by unfold Func.isWrapper; first|(rw [if_pos (by decide +kernel)]; kernel_rfl)|(rw [if_neg (by decide +kernel)]; exact ⟨rfl,rfl⟩))
  (fun os started H enc _=>lifted os started H enc)
end Go.Proofs.YtcbbdnaelimpfaaGreat.cachePlays

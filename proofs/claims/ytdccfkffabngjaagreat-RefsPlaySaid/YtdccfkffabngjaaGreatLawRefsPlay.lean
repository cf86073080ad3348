/- What is proved: the law palimpsestlaw16.RefsPlay returns true for every input,and its arguments read as they did. No conditions. -/
import Derived.Test.YtdccfkffabngjaaGreatRows
import Derived.Test.YtdccfkffabngjaaGreatGpI
import Derived.Test.YtdccfkffabngjaaGreatOpen
import Derived.Test.YtdccfkffabngjaaGreatClose
set_option linter.unusedSimpArgs false
set_option linter.unusedVariables false
set_option maxRecDepth 20000
namespace Go.Proofs.YtdccfkffabngjaaGreat
open Go.Vc
variable {K:VP} {h:Heap}

set_option maxHeartbeats 32000000 in
theorem RefsPlay_c {bits order long size:Int} {v:Value} {xs:List Rp} (rb:i64 bits) (ro:i64 order) (rl:i64 long) (rs:i64 size) (hx:Rps h v xs) (H:∀h',Ext h h'→K (.bool true) h') :
 CallsH Tryz.prog 3 #[imgV bits order long size,v] h K ⟨⟩:=by
 refine n3_calls ?_
 unfold n3 imgV; try delta vF vG vC vD vJ vV vk vt
 unfold i64 at rb ro rl rs
 have knows:∀g,Ext h g→CallsH Tryz.prog 7 #[] g K ⟨⟩:=fun g e=>known_c fun g' e'=>H _ (e.trans e')
 obtain ⟨xa,xc,rfl⟩:=hx.form
 have hxl:=hx.len
 simp (disch:=omega)
 rw [show (Value.agg #[.int .i64 bits,.int .i64 order,.int .i64 long,.int .i64 size])=imgV bits order long size from rfl]
 obtain ⟨h1,hh1⟩:∃X,X=h.push (.cells #[.int .i64 bits,.int .i64 order,.int .i64 long,.int .i64 size] 23):=⟨_,rfl⟩
 have e1:Ext h h1:=by rw [hh1]; exact extS
 have k1:h1[h.size]? = some (.cells #[.int .i64 bits,.int .i64 order,.int .i64 long,.int .i64 size] 23):=by rw [hh1]; exact get_pushed rfl
 rw [←hh1]
 clear hh1
 have hl1:=get_some_lt k1
 have hx1:=hx.ext e1
 refine vast_c hx1 (fun h2 e2 _ => ?_) (fun h2 e2 hv => ?_)
 ·simp (disch:=omega)
  exact knows _ (e1.trans e2)
 have hx60:xs.length≤60:=Nat.not_lt.1 fun hh=>hv (.inl hh)
 have hb12:bits≤12:=Int.not_lt.1 fun hh=>hv (.inr (.inl omg))
 have hsz:size≤262144:=Int.not_lt.1 fun hh=>hv (.inr (.inr (.inl omg)))
 have hxn:∀y∈xs,y.n≤200∧(y.kind=7→y.at_≤4194304):=fun y hy=>⟨Int.not_lt.1 fun hh=>hv (.inr (.inr (.inr ⟨y,hy,.inl omg⟩))),fun h7=>Int.not_lt.1 fun hh=>hv (.inr (.inr (.inr ⟨y,hy,.inr ⟨h7,by omega⟩⟩)))⟩
 clear hv
 have k2:=(e2.block _ hl1).trans k1
 have hl2:=get_some_lt k2
 have d0:=cellOf (i:=0) k2 rfl
 have d1:=cellOf (i:=1) k2 rfl
 have d2:=cellOf (i:=2) k2 rfl
 have d3:=cellOf (i:=3) k2 rfl
 simp (disch:=omega) [d0,d1,d2,d3]
 rw [show (Value.agg #[.int .i64 bits,.int .i64 order,.int .i64 long,.int .i64 size])=imgV bits order long size from rfl]
 refine made_c (fs:=[]) rb ro rs rl ⟨.inl ⟨rfl,rfl,rfl⟩,⟨none,0,rfl,Nat.le_refl _⟩,by decide,fun f hf=>by cases hf⟩ dM rfl (fun h3 e3 _ => ?_) fun b o L h3 sp s hb ho hL hok kk hd e3 a3 f3 foot3 => ?_
 ·simp (disch:=omega)
  exact knows _ ((e1.trans e2).trans e3)
 subst hb ho hL
 obtain ⟨g,hg⟩:∃g,layG b o L size=g:=⟨_,rfl⟩
 obtain ⟨x,hxx⟩:∃x,layH b o L size=x:=⟨_,rfl⟩
 rw [hg] at kk
 rw [hg,hxx] at hd f3
 have gb:g.b=b:=by rw [←hg]; rfl
 have go:g.o=o:=by rw [←hg]; rfl
 have gL:g.L=L:=by rw [←hg]; rfl
 have gb12:g.b≤12:=by omega
 obtain ⟨I,La⟩:=laid_img kk hd
 obtain ⟨B,hB⟩:∃B,g.laidB x=B:=⟨_,rfl⟩
 rw [hB] at I La f3
 have hfew:=I.few
 obtain ⟨q,hq,hq1,hq2⟩:=kk.c512
 have hlen:=La.len
 have hne:B≠[]:=fun e=>by
  have:g.c≤g.u*g.c:=Nat.le_mul_of_pos_left _ (by have:=kk.u0; omega)
  rw [e,List.length_nil] at hlen; omega
 obtain ⟨p,hp⟩:∃p:Fs,⟨(mdF B).f,[],3⟩=p:=⟨_,rfl⟩
 have pn:p.f.now=B:=by rw [←hp]; exact mdF_now hfew hne
 have pf:p.fates=[]:=by rw [←hp]
 have ps:p.steps=3:=by rw [←hp]
 rw [hp] at f3
 rw [←pn] at I La
 simp (disch:=omega)
 rw [show str [97]=str nA from rfl]
 refine gOpen_c a3 f3 kk hd I fun h4 r e4 hr ra4 => ?_
 have k4:=((e4.block _ (by have:=e3.size; omega)).trans ((e3.block _ hl2).trans k2))
 have c0:=cellOf (i:=0) k4 rfl
 have c1:=cellOf (i:=1) k4 rfl
 have c2:=cellOf (i:=2) k4 rfl
 have hw:IntKind.i64.wrap (2^b)=((g.c:Nat):Int):=by
  unfold Gm.c
  rw [gb,Int.natCast_pow]
  refine wrap_i64 ?_ ?_
  all_goals have:=clus (b:=b) (by have:=hok.1; omega) omg; rw [Int.toNat_natCast] at this; omega
 obtain ⟨LC,hLC⟩:∃X,g.L*g.c=X:=⟨_,rfl⟩
 have hrl:=kk.room_lt
 have hLC':((L:Nat):Int)*((g.c:Nat):Int)=((LC:Nat):Int):=by rw [←hLC,Int.natCast_mul,gL]
 rw [hLC] at hrl
 simp (disch:=omega) [c0,c1,c2,Hp_shl,IntKind.bits,hw,hLC',ptrV]
 rw [show ((b:Nat):Int)=((g.b:Nat):Int) by rw [gb],show ((o:Nat):Int)=((g.o:Nat):Int) by rw [go]]
 refine Per_c kk ?_
 have hR:((LC:Nat):Int)/8*((g.n:Nat):Int)=((g.room:Nat):Int):=by
  have:=kk.room_eq
  rw [←Int.natCast_mul,hLC] at this
  exact this
 have hR2:((LC:Nat):Int)/8≤327680:=by omega
 simp (disch:=omega) [c2,hR]
 rw [show (Value.pointer (some ⟨sp,0,none⟩))=ptrV sp from rfl,show (Value.pointer (some ⟨r,0,none⟩))=ptrV r from rfl]
 have z1:=e1.size
 have z2:=e2.size
 have z3:=e3.size
 have z4:=e4.size
 have P0:PlAt h1 h4 g x r sp (.slice none 0 0) [] s p 0:=⟨ra4,I,pf,by rw [ps]; omega,Mine.nil _ _,OwnG.nil,Nat.le_refl _,(e2.trans e3).trans e4,fun b hb=>by have:=foot3 b hb; omega,fun b hb=>by cases hb⟩
 have hx4:=(hx1.ext ((e2.trans e3).trans e4))
 refine loopA3 (α:=(Nat×Nat×Value)×List (Nat×Nat)×St×Fs) (fun z=>ptrV z.1.2.1) (fun z=>z.1.2.2) (fun z => .int .i64 (z.1.1:Nat)) (fun z G=>z.1.1≤xs.length∧PlAt h1 G g x z.1.2.1 sp z.1.2.2 z.2.1 z.2.2.1 z.2.2.2 z.1.1) (fun z=>xs.length-z.1.1) ((0,r,.slice none 0 0),[],s,p) ⟨rfl,rfl,rfl⟩ ⟨Nat.zero_le _,P0⟩ ?_
 clear P0
 rintro ⟨⟨i,r,mv⟩,M,s,p⟩ G ⟨hi,P⟩
 dsimp only at hi P ⊢
 by_cases hil:i<xs.length
 ·have hlt:((i:Nat):Int)<((xs.length:Nat):Int):=by omega
  obtain ⟨ya,yc,hv,q0,q1,q2,q3⟩:=(hx1.ext P.ext).cell hil
  injection hv with hv1 hv2 hv3
  subst hv1 hv3
  have hy:=hxn _ (List.getElem_mem hil)
  have hyo:=hx.ok _ (List.getElem_mem hil)
  obtain ⟨Y,hY⟩:∃Y,xs[i]=Y:=⟨_,rfl⟩
  rw [hY] at q0 q1 q2 q3 hy hyo
  simp (disch:=omega) [hlt,q0,q1,q2,q3]
  obtain ⟨G1,hG1⟩:∃X,X=hset (hset (hset (hset (Array.push G (Obj.cells #[.int .i64 0,.int .i64 0,.int .i64 0,.int .i64 0] 37)) ⟨G.size,0,none⟩ (.int .i64 Y.kind)) ⟨G.size,1,none⟩ (.int .i64 Y.n)) ⟨G.size,2,none⟩ (.int .i64 Y.at_)) ⟨G.size,3,none⟩ (.int .i64 Y.by_):=⟨_,rfl⟩
  have eG1:Ext G G1:=by rw [hG1]; exact extS
  have kT:G1[G.size]? = some (.cells #[.int .i64 Y.kind,.int .i64 Y.n,.int .i64 Y.at_,.int .i64 Y.by_] 37):=by rw [hG1]; exact obj_set (obj_set (obj_set (obj_set (get_pushed rfl))))
  rw [←hG1]
  clear hG1
  have hlT:=get_some_lt kT
  have P1:=P.exts eG1
  refine sSize_c P1.ra.st P1.ra.fs fun G2 e2 => ?_
  have P2:=P1.exts e2
  have kT2:=(e2.block _ hlT).trans kT
  have t0:=cellOf (i:=0) kT2 rfl
  have t1:=cellOf (i:=1) kT2 rfl
  have t2:=cellOf (i:=2) kT2 rfl
  have t3:=cellOf (i:=3) kT2 rfl
  simp (disch:=omega)
  refine JoinN_in2 (fun rv mv' G'=>∃r' M' s' p',rv=ptrV r'∧PlAt h1 G' g x r' sp mv' M' s' p' (i+1)) (fun kk1 hkk => ?_) (fun rv mv' G' hG => ?_)
  ·have stay:∀G',Ext G2 G'→kk1 (ptrV r) mv G':=fun G' e=>hkk _ _ _ ⟨r,M,s,p,rfl,(P2.exts e).mono omg⟩
   simp (disch:=omega) [t0]
   refine JoinN.mk ?_
   have hnf:∀b,s.foot sp b→b<G.size:=fun b hb=>P.ra.st.lt hb
   by_cases y1:Y.kind=1
   ·simp (disch:=omega) [y1,t1]
    by_cases n1:Y.n<1
    ·refine gAllocA_c P2.ra.rg hyo.n (.inl n1) fun G3 e3 => ?_
     have t1':=hcell_ext e3 t1
     simp (disch:=omega) [t1',n1]
     exact stay G3 e3
    ·obtain ⟨nn,hnn⟩:=Int.eq_ofNat_of_zero_le (show 0≤Y.n by omega)
     rw [hnn] at t1 n1 hy ⊢
     refine pAlloc_c (nn:=nn) P2 gb12 omg omg omg (fun G3 e3 => ?_) (fun G3 s3 p3 st P3 m3 mn3 ap3 st1 fit3 => ?_)
     ·have t1':=hcell_ext e3 t1
      simp (disch:=omega) [t1',n1]
      have P3:=P2.exts e3
      refine sSize_c P3.ra.st P3.ra.fs fun G4 e4 => ?_
      simp (disch:=omega)
      exact stay _ (e3.trans e4)
     ·have kT3:=(m3.block _ (get_some_lt kT2) (fun e=>by have:=hnf _ e; omega)).trans kT2
      have t1':=cellOf (i:=1) kT3 rfl
      rw [hnn] at t1'
      obtain ⟨Q,hQ⟩:∃Q,st*g.c=Q:=⟨_,rfl⟩
      rw [hQ]
      simp (disch:=omega) [t1',n1]
      refine sSize_c P3.ra.st P3.ra.fs fun G4 e4 => ?_
      have P4:=P3.exts e4
      have t1'':=hcell_ext e4 t1'
      have hfok:=P4.ra.fok
      have hnl:=hfok.now_len
      have hfw:=hfok.few
      rw [hnl] at fit3
      have hQ0:¬((Q:Nat):Int)=0:=by
       have:g.c≤st*g.c:=Nat.le_mul_of_pos_left _ st1
       omega
      simp (disch:=omega) [t1'',hQ0]
      obtain ⟨G5,hG5⟩:∃X,X=hset (hset (G4.push (.cells #[.int .i64 0,.int .i64 0] 42)) ⟨G4.size,0,none⟩ (.int .i64 (Q:Nat))) ⟨G4.size,1,none⟩ (.int .i64 (nn:Nat)):=⟨_,rfl⟩
      have e5:Ext G4 G5:=by rw [hG5]; exact extS
      have k5:G5[G4.size]? = some (.cells #[.int .i64 (Q:Nat),.int .i64 (nn:Nat)] 42):=by rw [hG5]; exact obj_set (obj_set (get_pushed rfl))
      rw [←hG5]
      clear hG5
      have P5:=P4.exts e5
      refine apart_c (r:=(st,nn)) hQ kk P5.mem (by have:=P4.few; omega) ⟨st1,by omega,by omega⟩ omg hfw (fun q hq=>⟨(P4.mine.ok q hq).2.2.2,(P4.mine.ok q hq).2.2.1⟩) ap3 fun G6 e6 => ?_
      have k6:=(e6.block _ (get_some_lt k5)).trans k5
      have u0:=cellOf (i:=0) k6 rfl
      have u1:=cellOf (i:=1) k6 rfl
      simp (disch:=omega) [u0,u1]
      obtain ⟨G7,hG7⟩:∃X,X=G6.push (.cells #[.int .i64 (Q:Nat),.int .i64 (nn:Nat)] 42):=⟨_,rfl⟩
      have e7:Ext G6 G7:=by rw [hG7]; exact extS
      have k7:G7[G6.size]? = some (.cells #[.int .i64 (Q:Nat),.int .i64 (nn:Nat)] 42):=by rw [hG7]; exact get_pushed rfl
      rw [←hG7]
      clear hG7
      have P7:=(P5.exts e6).exts e7
      refine appMn (r:=(st,nn)) P7.mem (by have:=P7.few; omega) (by rw [show ((st,nn):Nat×Nat).1*g.c=Q from hQ]; exact k7) fun mv8 G8 o8 m8 b8 => ?_
      exact hkk _ _ _ ⟨r,M++[(st,nn)],s3,p3,rfl,P7.list m8 o8 b8 mn3 (by have:=P.few; rw [List.length_append,List.length_singleton]; omega) (Nat.le_refl _)⟩
   simp (disch:=omega) [y1]
   refine JoinN.mk ?_
   by_cases y2:Y.kind=2
   ·simp (disch:=omega) [y2]
    obtain ⟨ma,mc,hmv,hmc⟩:=P2.mem.form
    have hMf:=P2.few
    by_cases hM0:M.length=0
    ·have hM0':((M.length:Nat):Int)=0:=by omega
     simp (disch:=omega) [hmv,hM0',y2]
     rw [←hmv]
     exact stay G2 (.refl _)
    by_cases hN0:Y.n<0
    ·have hM0':¬((M.length:Nat):Int)=0:=by omega
     simp (disch:=omega) [hmv,hM0',t1,hN0,y2]
     rw [←hmv]
     exact stay G2 (.refl _)
    have hM0':¬((M.length:Nat):Int)=0:=by omega
    obtain ⟨N,hN⟩:=Int.eq_ofNat_of_zero_le (Int.not_lt.1 hN0)
    obtain ⟨R,hR⟩:∃R,N%M.length=R:=⟨_,rfl⟩
    have hRl:R<M.length:=by rw [←hR]; exact Nat.mod_lt _ omg
    have hrem:Y.n%((M.length:Nat):Int)=((R:Nat):Int):=by rw [hN,←hR,Int.natCast_emod]
    obtain ⟨J,hJ⟩:∃J,M.length-1-R=J:=⟨_,rfl⟩
    have hidx:((M.length:Nat):Int)-1-((R:Nat):Int)=((J:Nat):Int):=by omega
    have hJl:J<M.length:=by omega
    obtain ⟨ma',mc',hmv',-,w0,w1⟩:=P2.mem.cell hJl
    rw [hmv] at hmv'
    injection hmv' with hmv1 hmv2 hmv3
    subst hmv1 hmv3
    have hmem:=List.getElem_mem hJl
    have hrok:=P2.mine.ok _ hmem
    have hfirst:inR M[J] M[J].1:=⟨Nat.le_refl _,by omega⟩
    have hone:=P2.mine.one hmem hfirst
    have hlt64:g.cnt p.f.now M[J].1<2^64:=Nat.lt_of_lt_of_le (g.cnt_lt _ _) (Nat.pow_le_pow_right omg kk.w64.2)
    obtain ⟨PL,hPL⟩:∃P,M[J].1*g.c=P:=⟨_,rfl⟩
    obtain ⟨W,hW⟩:∃W,g.cnt p.f.now M[J].1=W:=⟨_,rfl⟩
    obtain ⟨St,hSt⟩:∃S,M[J].1=S:=⟨_,rfl⟩
    obtain ⟨Nn,hNn⟩:∃S,M[J].2=S:=⟨_,rfl⟩
    have hPb:PL≤171798691840*65536:=by rw [←hPL]; exact Nat.mul_le_mul omg omg
    have hPd:((PL:Nat):Int)/((g.c:Nat):Int)=((St:Nat):Int):=by rw [←Int.natCast_ediv,←hPL,Nat.mul_div_cancel _ omg,hSt]
    rw [hPL] at w0
    rw [hNn] at w1
    rw [hW] at hone hlt64
    simp (disch:=omega) [hmv,hM0',t1,hN0,hrem,hidx,w0,w1,y2]
    obtain ⟨G3,hG3⟩:∃X,X=hset (hset (G2.push (.cells #[.int .i64 0,.int .i64 0] 42)) ⟨G2.size,0,none⟩ (.int .i64 (PL:Nat))) ⟨G2.size,1,none⟩ (.int .i64 (Nn:Nat)):=⟨_,rfl⟩
    have e3:Ext G2 G3:=by rw [hG3]; exact extS
    have k3:G3[G2.size]? = some (.cells #[.int .i64 (PL:Nat),.int .i64 (Nn:Nat)] 42):=by rw [hG3]; exact obj_set (obj_set (get_pushed rfl))
    have z3:=get_some_lt k3
    have zz2:=e2.size
    have zz1:=eG1.size
    have u0:=cellOf (i:=0) k3 rfl
    rw [←hG3]
    clear hG3
    have P3:=P2.exts e3
    simp (disch:=omega) [u0,hPd]
    refine gCount_c P3.ra P3.img (fun G4 e4 hno=>absurd ⟨by omega,by omega⟩ hno) (fun G4 e4 _ _ => ?_)
    rw [Int.toNat_natCast,←hSt,hW]
    have P4:=P3.exts e4
    have k4:=(e4.block _ z3).trans k3
    have v0:=cellOf (i:=0) k4 rfl
    have v1:=cellOf (i:=1) k4 rfl
    have kT4:=((e3.trans e4).block _ (get_some_lt kT2)).trans kT2
    have s0:=cellOf (i:=0) kT4 rfl
    have s1:=cellOf (i:=1) kT4 rfl
    have s3:=cellOf (i:=3) kT4 rfl
    have z4:=e4.size
    simp (disch:=omega) [s0,y2,v0,v1]
    rw [←hNn]
    refine pFree_c P4 gb12 omg hJl (by rw [hPL]) fun G5 s5 p5 u5 f5 hs5 hn5 R5 => ?_
    obtain ⟨mr1,mr2,mr3⟩:=P4.mine.rose kk hJl R5
    obtain ⟨W5,hW5⟩:∃W,g.cnt p5.f.now M[J].1=W:=⟨_,rfl⟩
    rw [hW5,hW] at mr1
    have ra5:=P4.ra.upd u5 f5
    have k5:=(u5.mod.block _ (get_some_lt k4) (fun e=>by have:=hnf _ e; omega)).trans k4
    have r0:=cellOf (i:=0) k5 rfl
    have hsub:((W:Nat):Int)-1=((W5:Nat):Int):=by omega
    simp (disch:=omega) [r0,hPd]
    refine gCount_c ra5 R5.img (fun G6 e6 hno=>absurd ⟨by omega,by omega⟩ hno) (fun G6 e6 _ _ => ?_)
    rw [Int.toNat_natCast,←hSt,hW5]
    by_cases hW0:W5=0
    ·have hW0':((W5:Nat):Int)=0:=by omega
     simp (disch:=omega) [hsub,hW0']
     have m6:=(P4.memU u5).ext e6
     rw [hmv] at m6
     rw [hmv]
     have hJ0:(0:Int)≤((J:Nat):Int):=by omega
     have hJ1:((J:Nat):Int)≤((mc:Nat):Int):=by omega
     rw [Hp_slgNH (s:=2) kR hJ0 hJ1,ValT_iff,Int.toNat_natCast]
     have hJ2:((J:Nat):Int)+1=((J+1:Nat):Int):=by omega
     simp (disch:=omega)
     refine cutMn m6 omg hmc hJl fun mv7 G7 e7 o7 b7 => ?_
     exact hkk _ _ _ ⟨r,M.take J++M.drop (J+1),s5,p5,rfl,P4.cut u5 f5 R5.img hn5 hs5 (e6.trans e7) o7 (fun b hb=>by have:=b7 b hb; have:=e6.size; omega) mr3 (by rw [List.length_append,List.length_take,List.length_drop]; omega)⟩
    ·have hW0':¬((W5:Nat):Int)=0:=by omega
     simp (disch:=omega) [hsub,hW0']
     exact hkk _ _ _ ⟨r,M,s5,p5,rfl,(P4.upd u5 f5 R5.img hn5 hs5 (mr2 (by rw [hW5]; exact hW0)) omg).exts e6⟩
   by_cases y3:Y.kind=3
   ·simp (disch:=omega) [y2,y3]
    have y32:¬(3:Int)=2:=by decide
    obtain ⟨ma,mc,hmv,hmc⟩:=P2.mem.form
    have hMf:=P2.few
    by_cases hM0:M.length=0
    ·have hM0':((M.length:Nat):Int)=0:=by omega
     simp (disch:=omega) [hmv,hM0',y3,y32]
     rw [←hmv]
     exact stay G2 (.refl _)
    by_cases hN0:Y.n<0
    ·have hM0':¬((M.length:Nat):Int)=0:=by omega
     simp (disch:=omega) [hmv,hM0',t1,hN0,y3,y32]
     rw [←hmv]
     exact stay G2 (.refl _)
    have hM0':¬((M.length:Nat):Int)=0:=by omega
    obtain ⟨N,hN⟩:=Int.eq_ofNat_of_zero_le (Int.not_lt.1 hN0)
    obtain ⟨R,hR⟩:∃R,N%M.length=R:=⟨_,rfl⟩
    have hRl:R<M.length:=by rw [←hR]; exact Nat.mod_lt _ omg
    have hrem:Y.n%((M.length:Nat):Int)=((R:Nat):Int):=by rw [hN,←hR,Int.natCast_emod]
    obtain ⟨J,hJ⟩:∃J,M.length-1-R=J:=⟨_,rfl⟩
    have hidx:((M.length:Nat):Int)-1-((R:Nat):Int)=((J:Nat):Int):=by omega
    have hJl:J<M.length:=by omega
    obtain ⟨ma',mc',hmv',-,w0,w1⟩:=P2.mem.cell hJl
    rw [hmv] at hmv'
    injection hmv' with hmv1 hmv2 hmv3
    subst hmv1 hmv3
    have hmem:=List.getElem_mem hJl
    have hrok:=P2.mine.ok _ hmem
    have hfirst:inR M[J] M[J].1:=⟨Nat.le_refl _,by omega⟩
    have hone:=P2.mine.one hmem hfirst
    have hlt64:g.cnt p.f.now M[J].1<2^64:=Nat.lt_of_lt_of_le (g.cnt_lt _ _) (Nat.pow_le_pow_right omg kk.w64.2)
    obtain ⟨PL,hPL⟩:∃P,M[J].1*g.c=P:=⟨_,rfl⟩
    obtain ⟨W,hW⟩:∃W,g.cnt p.f.now M[J].1=W:=⟨_,rfl⟩
    obtain ⟨St,hSt⟩:∃S,M[J].1=S:=⟨_,rfl⟩
    obtain ⟨Nn,hNn⟩:∃S,M[J].2=S:=⟨_,rfl⟩
    have hPb:PL≤171798691840*65536:=by rw [←hPL]; exact Nat.mul_le_mul omg omg
    have hPd:((PL:Nat):Int)/((g.c:Nat):Int)=((St:Nat):Int):=by rw [←Int.natCast_ediv,←hPL,Nat.mul_div_cancel _ omg,hSt]
    rw [hPL] at w0
    rw [hNn] at w1
    rw [hW] at hone hlt64
    simp (disch:=omega) [hmv,hM0',t1,hN0,hrem,hidx,w0,w1,y3,y32]
    obtain ⟨G3,hG3⟩:∃X,X=hset (hset (G2.push (.cells #[.int .i64 0,.int .i64 0] 42)) ⟨G2.size,0,none⟩ (.int .i64 (PL:Nat))) ⟨G2.size,1,none⟩ (.int .i64 (Nn:Nat)):=⟨_,rfl⟩
    have e3:Ext G2 G3:=by rw [hG3]; exact extS
    have k3:G3[G2.size]? = some (.cells #[.int .i64 (PL:Nat),.int .i64 (Nn:Nat)] 42):=by rw [hG3]; exact obj_set (obj_set (get_pushed rfl))
    have z3:=get_some_lt k3
    have zz2:=e2.size
    have zz1:=eG1.size
    have u0:=cellOf (i:=0) k3 rfl
    rw [←hG3]
    clear hG3
    have P3:=P2.exts e3
    simp (disch:=omega) [u0,hPd]
    refine gCount_c P3.ra P3.img (fun G4 e4 hno=>absurd ⟨by omega,by omega⟩ hno) (fun G4 e4 _ _ => ?_)
    rw [Int.toNat_natCast,←hSt,hW]
    have P4:=P3.exts e4
    have k4:=(e4.block _ z3).trans k3
    have v0:=cellOf (i:=0) k4 rfl
    have v1:=cellOf (i:=1) k4 rfl
    have kT4:=((e3.trans e4).block _ (get_some_lt kT2)).trans kT2
    have s0:=cellOf (i:=0) kT4 rfl
    have s1:=cellOf (i:=1) kT4 rfl
    have s3:=cellOf (i:=3) kT4 rfl
    have z4:=e4.size
    simp (disch:=omega) [s0,y3]
    refine loopX2 (α:=Nat×Value) (fun z=>z.2) (fun z => .int .i64 z.1) (fun z G=>z.1≤Nn∧Ext G4 G∧OwnG i6T 1 G z.2 ((runL M[J].1 z.1).map ik)∧∀b,blkG z.2=some b→G4.size≤b) (fun z=>Nn-z.1) (0,.slice none 0 0) ⟨rfl,rfl⟩ ⟨Nat.zero_le _,.refl _,OwnG.nil,fun b hb=>by cases hb⟩ ?_
    rintro ⟨j,cv⟩ GX ⟨hj,eX,ov,fv⟩ X hX
    dsimp only at hj eX ov fv hX ⊢
    have kX:=(eX.block _ (get_some_lt k4)).trans k4
    have x0:=cellOf (i:=0) kX rfl
    have x1:=cellOf (i:=1) kX rfl
    have zX:=eX.size
    by_cases hjn:j<Nn
    ·have hlt:((j:Nat):Int)<((Nn:Nat):Int):=by omega
     simp (disch:=omega) [x0,x1,hlt,hPd]
     obtain ⟨g1,hg1⟩:∃X,X=GX.push (.cells #[.int .i64 ((St:Int)+(j:Int))] 2):=⟨_,rfl⟩
     have e5:Ext GX g1:=by rw [hg1]; exact extS
     have sx:Src 1 g1 (.slice (some ⟨GX.size,0,none⟩) 1 1) 1 [ik ((St:Int)+(j:Int))]:=by rw [hg1]; exact Src_new (vs:=[ik ((St:Int)+(j:Int))]) rfl
     rw [←hg1]
     clear hg1
     have z5:=e5.size
     refine Hp_appendG (e:=i6T) (s:=1) (by_:=8) (n:=j) (k:=1) kR kR (ov.ext e5) (by rw [List.length_map,runL_len,Nat.mul_one]) omg sx (by intro u hu; rw [List.mem_singleton.1 hu]; rfl) omg omg fun v' h' o' m' b' _ => ?_
     simp (disch:=omega)
     refine hX (j+1,v') _ _ _ rfl sM ⟨by omega,m'.ext_from (eX.trans e5) (fun b hb he=>by have:=fv b he; omega),?_,fun b hb=>(b' b hb).elim (fv b) (fun he=>by omega)⟩ (by dsimp only; omega)
     dsimp only
     rw [runL_succ,List.map_append,hSt]
     rw [hSt] at o'
     exact o'
    ·obtain rfl:j=Nn:=by omega
     have hlt:¬((j:Nat):Int)<((j:Nat):Int):=by omega
     have P4:=P4.exts eX
     have k4:=kX
     have kT4:=(eX.block _ (get_some_lt kT4)).trans kT4
     have s3:=cellOf (i:=3) kT4 rfl
     simp (disch:=omega) [x1,hlt,s3]
     rw [←hNn] at ov
     obtain ⟨va,vn,vc,rfl,-,-,-⟩:=ov.form
     refine pAdd_c P4 gb12 omg hyo.by_ hJl ov (fun G5 e5 b1 b2 => ?_) (fun G5 e5 b1 => ?_) (fun G5 s5 p5 hby u5 f5 hs5 hn5 R5 => ?_)
     ·have k5:=(e5.block _ (get_some_lt k4)).trans k4
      have r0:=cellOf (i:=0) k5 rfl
      have P5:=P4.exts e5
      simp (disch:=omega) [r0,hPd]
      refine gCount_c P5.ra P5.img (fun G6 e6 hno=>absurd ⟨by omega,by omega⟩ hno) (fun G6 e6 _ _ => ?_)
      rw [Int.toNat_natCast,←hSt,hW]
      have w3:=hcell_ext (e5.trans e6) s3
      simp (disch:=omega) [w3,b1,b2]
      exact hkk _ _ _ ⟨r,M,s,p,rfl,(P5.exts e6).mono omg⟩
     ·have k5:=(e5.block _ (get_some_lt k4)).trans k4
      have r0:=cellOf (i:=0) k5 rfl
      have P5:=P4.exts e5
      simp (disch:=omega) [r0,hPd]
      refine gCount_c P5.ra P5.img (fun G6 e6 hno=>absurd ⟨by omega,by omega⟩ hno) (fun G6 e6 _ _ => ?_)
      rw [Int.toNat_natCast,←hSt,hW]
      have w3:=hcell_ext (e5.trans e6) s3
      rw [b1] at w3
      have hW0:¬((W:Nat):Int)=0:=by omega
      simp (disch:=omega) [w3]
      refine JoinN.mk ?_
      simp (disch:=omega) [hW0]
      exact hkk _ _ _ ⟨r,M,s,p,rfl,(P5.exts e6).mono omg⟩
     ·skip
      obtain ⟨mr1,mr2,mr3⟩:=P4.mine.rose kk hJl R5
      obtain ⟨W5,hW5⟩:∃W,g.cnt p5.f.now M[J].1=W:=⟨_,rfl⟩
      rw [hW5,hW] at mr1
      have ra5:=P4.ra.upd u5 f5
      have k5:=(u5.mod.block _ (get_some_lt k4) (fun e=>by have:=hnf _ e; omega)).trans k4
      have r0:=cellOf (i:=0) k5 rfl
      have kT5:=(u5.mod.block _ (get_some_lt kT4) (fun e=>by have:=hnf _ e; omega)).trans kT4
      have w3:=cellOf (i:=3) kT5 rfl
      have hlt5:W5<2^64:=by rw [←hW5]; exact Nat.lt_of_lt_of_le (g.cnt_lt _ _) (Nat.pow_le_pow_right omg kk.w64.2)
      simp (disch:=omega) [r0,hPd]
      refine gCount_c ra5 R5.img (fun G6 e6 hno=>absurd ⟨by omega,by omega⟩ hno) (fun G6 e6 _ _ => ?_)
      rw [Int.toNat_natCast,←hSt,hW5]
      have w3':=hcell_ext e6 w3
      rcases hby with b1|b1
      ·rw [b1] at w3' mr1
       have hsub:((W:Nat):Int)+1=((W5:Nat):Int):=by omega
       have hW0':¬((W5:Nat):Int)=0:=by omega
       simp (disch:=omega) [w3',hsub]
       refine JoinN.mk ?_
       simp (disch:=omega) [hW0']
       exact hkk _ _ _ ⟨r,M,s5,p5,rfl,(P4.upd u5 f5 R5.img hn5 hs5 (mr2 (by rw [hW5]; omega)) omg).exts e6⟩
      ·rw [b1] at w3' mr1
       have hsub:((W:Nat):Int)-1=((W5:Nat):Int):=by omega
       by_cases hW0:W5=0
       ·have hW0':((W5:Nat):Int)=0:=by omega
        simp (disch:=omega) [w3',hsub]
        refine JoinN.mk ?_
        simp (disch:=omega) [hW0']
        have m6:=(P4.memU u5).ext e6
        rw [hmv] at m6
        rw [hmv]
        have hJ0:(0:Int)≤((J:Nat):Int):=by omega
        have hJ1:((J:Nat):Int)≤((mc:Nat):Int):=by omega
        rw [Hp_slgNH (s:=2) kR hJ0 hJ1,ValT_iff,Int.toNat_natCast]
        have hJ2:((J:Nat):Int)+1=((J+1:Nat):Int):=by omega
        simp (disch:=omega)
        refine cutMn m6 omg hmc hJl fun mv7 G7 e7 o7 b7 => ?_
        exact hkk _ _ _ ⟨r,M.take J++M.drop (J+1),s5,p5,rfl,P4.cut u5 f5 R5.img hn5 hs5 (e6.trans e7) o7 (fun b hb=>by have:=b7 b hb; have:=e6.size; omega) mr3 (by rw [List.length_append,List.length_take,List.length_drop]; omega)⟩
       ·have hW0':¬((W5:Nat):Int)=0:=by omega
        simp (disch:=omega) [w3',hsub]
        refine JoinN.mk ?_
        simp (disch:=omega) [hW0']
        exact hkk _ _ _ ⟨r,M,s5,p5,rfl,(P4.upd u5 f5 R5.img hn5 hs5 (mr2 (by rw [hW5]; exact hW0)) omg).exts e6⟩
   by_cases y4:Y.kind=4
   ·simp (disch:=omega) [y4,t2]
    refine gCount_c P2.ra P2.img (fun G3 e3 hno => ?_) (fun G3 e3 k0 kr => ?_)
    ·have t2':=hcell_ext e3 t2
     by_cases a0:Y.at_<0
     ·simp (disch:=omega) [t2',a0]
      exact stay _ e3
     ·have a1:Y.at_≥((g.room:Nat):Int):=by omega
      simp (disch:=omega) [t2',a0,a1]
      exact stay _ e3
    ·have t2':=hcell_ext e3 t2
     have a0:¬Y.at_<0:=by omega
     have a1:¬Y.at_≥((g.room:Nat):Int):=by omega
     simp (disch:=omega) [t2',a0,a1]
     have P3:=P2.exts e3
     refine lBytes_c P3.ra.st P3.ra.fs fun G4 v4 e4 o4 b4 => ?_
     have t2'':=hcell_ext e4 t2'
     refine ⟨by simp (disch:=omega) [t2''],?_⟩
     refine rCount_c kk hd P3.img o4.g.bytes omg (fun G5 e5 hno=>absurd ⟨k0,kr⟩ hno) (fun G5 e5 _ _ => ?_)
     simp (disch:=omega)
     exact stay _ ((e3.trans e4).trans e5)
   by_cases y5:Y.kind=5
   ·have y5':¬(5:Int)=2∧¬(5:Int)=3∧¬(5:Int)=4:=by decide
    by_cases a0:Y.at_≥0∧Y.at_%((g.c:Nat):Int)=0
    ·have a00:=a0.1
     have a01:=a0.2
     simp (disch:=omega) [y5,t1,t2,a00,a01]
     exact stay _ (.refl _)
    ·have hfr:Y.at_<0∨¬Y.at_%((g.c:Nat):Int)=0:=by
      rcases Classical.em (Y.at_<0) with h|h
      ·exact .inl h
      ·exact .inr fun e=>a0 ⟨by omega,e⟩
     have tail5:∀G3:Heap,Ext G2 G3→True:=fun _ _=>trivial
     by_cases a1:Y.at_≥0
     ·have a2:¬Y.at_%((g.c:Nat):Int)=0:=fun e=>a0 ⟨a1,e⟩
      simp (disch:=omega) [y5,t1,t2,a1,a2]
      by_cases n1:Y.n<1
      ·refine gFreeA_c P2.ra.rg (.inl n1) ?_
       simp (disch:=omega) [t1,n1]
       exact stay _ (.refl _)
      ·refine gFreeR_c P2.ra.rg kk omg hyo.at_.1 hfr ?_
       have n2:Y.n≥1:=by omega
       simp (disch:=omega) [t1,n1,n2]
       exact stay _ (.refl _)
     ·simp (disch:=omega) [y5,t1,t2,a1]
      by_cases n1:Y.n<1
      ·refine gFreeA_c P2.ra.rg (.inl n1) ?_
       simp (disch:=omega) [t1,n1]
       exact stay _ (.refl _)
      ·refine gFreeR_c P2.ra.rg kk omg hyo.at_.1 hfr ?_
       have n2:Y.n≥1:=by omega
       simp (disch:=omega) [t1,n1,n2]
       exact stay _ (.refl _)
   by_cases y6:Y.kind=6
   ·simp (disch:=omega) [y1,y2,y3,y4,y5,y6]
    refine gOpen_c P2.ra.st P2.ra.fs kk hd P2.img fun G3 r' e3 hr' ra' => ?_
    simp (disch:=omega) [ptrV]
    exact hkk _ _ _ ⟨r',M,s,p,rfl,(P2.open_ e3 ra' hr').mono omg⟩
   by_cases y7:Y.kind=7
   ·simp (disch:=omega) [y7,t2]
    refine pGrow_c P2 gb12 omg hyo.at_.1 (hy.2 y7) fun G3 s3 p3 P3 m3 g1 g2 => ?_
    have kT3:=(m3.block _ (get_some_lt kT2) (fun e=>by have:=hnf _ e; omega)).trans kT2
    have t2':=cellOf (i:=2) kT3 rfl
    refine sSize_c P3.ra.st P3.ra.fs fun G4 e4 => ?_
    have t2'':=hcell_ext e4 t2'
    have hnl:=P3.ra.fok.now_len
    have hnl0:=P2.ra.fok.now_len
    rw [hnl] at g1 g2
    rw [hnl0] at g2
    have l1:¬((p3.f.last.length:Nat):Int)<Y.at_:=by omega
    have l2:¬((p3.f.last.length:Nat):Int)<((p.f.last.length:Nat):Int):=by omega
    have l3:((p3.f.last.length:Nat):Int)%((g.c:Nat):Int)=0:=by
     have:=P3.img.mod
     rw [hnl] at this
     rw [←Int.natCast_emod,this]; rfl
    simp (disch:=omega) [t2'',l1,l2,l3]
    exact hkk _ _ _ ⟨r,M,s3,p3,rfl,P3.exts e4⟩
   simp (disch:=omega) [y1,y2,y3,y4,y5,y6,y7]
   exact stay G2 (.refl _)
  ·obtain ⟨r',M',s',p',rfl,P'⟩:=hG
   refine gRoom_c P'.ra.rg kk hd ?_
   simp (disch:=omega)
   refine lBytes_c P'.ra.st P'.ra.fs fun h5 v5 e5 o5 b5 => ?_
   simp (disch:=omega)
   refine sound_c kk hd P'.img o5.g.bytes (P'.mem.ext e5) (by have:=P'.few; omega) (fun r hr=>⟨(P'.mine.ok r hr).2.2.2,fun k hk=>P'.mine.one hr hk⟩) fun h6 e6 => ?_
   simp (disch:=omega)
   exact ⟨i+1,r',rfl,by simp,⟨by omega,M',s',p',P'.exts (e5.trans e6)⟩,by omega⟩
 ·have hie:¬((i:Nat):Int)<((xs.length:Nat):Int):=by omega
  simp (disch:=omega) [hie]
  refine knows _ (e1.trans P.ext)
end Go.Proofs.YtdccfkffabngjaaGreat
namespace Go.Proofs.YtdccfkffabngjaaGreat.refsPlay
open Go.ChangeShapes Go.WideShapes Go.ChangeAt Go.RowKit Go.Joins Go.Vc

theorem own:ownKnob Tryz.prog.godebug=none:=by kernel_rfl
theorem laidOut:laidOutB Tryz.prog=true:=by kernel_rfl

set_option maxRecDepth 100000 in
set_option maxHeartbeats 1000000 in
theorem lifted (os:Os) (started:os.Started) (H:Type) (enc:TypeId×Value→H) :
 ReturnsInHanded {} Tryz.checked os 3 .any (Rows.refsPlaySpec.pre6 enc Tryz.prog Tryz.f3 Rows.refsPlayRow.domain false) (Rows.refsPlaySpec.post enc Tryz.prog Tryz.f3 false true false false):=by
 refine returnsInHanded_of_change (C:=Tryz.checked) own started kR Tryz.func3
  (ChangeSpec.witness6 (enc:=enc) (C:=Tryz.checked) false ⟨#[],#[.agg #[.int .i64 0,.int .i64 0,.int .i64 0,.int .i64 0],.slice none 0 0],[]⟩ 8 kR kR kR kR) ?_
 intro W base args ds gs before hval0 hW hcnd _
 have hval:∀(j:Nat) t v,Tryz.f3.params[j]? = some t→args[j]? = some v→Value.okWide Tryz.prog W .any base t v:=hval0
 have hW':=hW
 obtain ⟨p,q,hA0,hV,rfl,hfz,hnd⟩:=hW
 have hA:DataW.TrodAll enc Tryz.prog W 0 (fun _=>true) true Tryz.f3.params.toList args.toList ds p:=hA0
 rw [Tryz.params3] at hA hval
 obtain ⟨v0,vs0,d0,ds0,p0,q0,hargs,rfl,rfl,h0,r0⟩:=trodAll_cons hA
 obtain ⟨v1,vs1,d1,ds1,p1,q1,rfl,rfl,rfl,h1,r1⟩:=trodAll_cons r0
 obtain ⟨rfl,rfl,rfl⟩:=trodAll_nil r1
 obtain rfl:args = #[v0,v1]:=by cases args; simp_all
 obtain ⟨bits,order,long,size,rfl,rb,ro,rl,rs⟩:=open_img4 (hval 0 23 v0 rfl rfl) h0
 obtain ⟨xs,hx⟩:=open_rps (hval 1 24 v1 rfl rfl) h1
 refine ((RefsPlay_c (h:=W.heap) rb ro rl rs hx (K:=fun v h'=>v = .bool true∧Ext W.heap h') (fun h' e=>⟨rfl,e⟩)).out W rfl).mono fun e W' ⟨v,he,hs,hv,hx⟩ => ?_
 exact ⟨v,he,hv▸law_post laidOut kR rfl (tb:=4) kR kR hW' (fun hg=>by rw [hg]; rfl) (below_of hs hx)⟩

theorem proved:Rows.RefsPlaySaid :=
 OpenClaim.holds_of_wide 3 Tryz.f3 rfl rfl rfl rfl rfl rfl rfl ⟨rfl,rfl,rfl,rfl,rfl⟩ rfl rfl rfl rfl rfl kR Tryz.func3 kR
  (of_decide_eq_true kR) (by unfold Func.isWrapper; first|(rw [if_pos (by decide +kernel)]; kernel_rfl)|(rw [if_neg (by decide +kernel)]; exact ⟨rfl,rfl⟩))
  (fun os started H enc _=>lifted os started H enc)
end Go.Proofs.YtdccfkffabngjaaGreat.refsPlay

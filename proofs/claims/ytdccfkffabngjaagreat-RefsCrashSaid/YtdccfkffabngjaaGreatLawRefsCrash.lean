/- What is proved: the law palimpsestlaw16.RefsCrash returns true for every input,and its arguments read as they did. No conditions. -/
import Derived.Test.YtdccfkffabngjaaGreatRows
import Derived.Test.YtdccfkffabngjaaGreatGpJ
import Derived.Test.YtdccfkffabngjaaGreatOpen
import Derived.Test.YtdccfkffabngjaaGreatClose
set_option linter.unusedSimpArgs false
set_option linter.unusedVariables false
set_option maxRecDepth 20000
namespace Go.Proofs.YtdccfkffabngjaaGreat
open Go.Vc
variable {K:VP}{h:Heap}

section
open Go Go.ChangeShapes Go.WideShapes Go.ChangeAt Go.RowKit Go.Deep
theorem len7c{l:List Value}(h:l.length=7):∃a b c d e f g,l=[a,b,c,d,e,f,g]:=by
 match l,h with
 | [a,b,c,d,e,f,g],_=>exact⟨a,b,c,d,e,f,g,rfl⟩
set_option maxRecDepth 100000 in
theorem open_crash{H:Type}{enc:TypeId×Value->H}{w:World}{base:Nat}{sp:Nat->Bool}{held:Bool}{v:Value}{r:Go.Reach}{b0:Nat}{ps:List MemPlace}{d:DataW H}(hval:Value.okWide Tryz.prog w r b0 70 v)(hd:DataW.Trod enc Tryz.prog w base sp held 70 v d ps) :
 ∃(bits order long size:Int) (u1 u2 u3:Value) (fs:List (Int×Int)) (xs:List Rp) (ks:List Int),v = .agg #[.int .i64 bits,.int .i64 order,.int .i64 long,.int .i64 size,u1,u2,u3]/\i64 bits/\i64 order/\i64 long/\i64 size/\Fas w.heap u1 fs/\Rps w.heap u2 xs/\Its w.heap u3 ks:=by
 obtain⟨cs,rfl,hl,hL⟩:=Laid.topFlds (L:=[(23,0,4),(67,4,1),(24,5,1),(68,6,1)]) (n:=7) kR kR hval hd
 obtain⟨c0,c1,c2,c3,c4,c5,c6,rfl⟩:=len7c hl
 obtain⟨n0,n1,n2,n3,hn,r0,r1,r2,r3⟩:=laid_img4 (hL 0 _ _ _ rfl)
 obtain⟨rfl,rfl,rfl,rfl⟩:c0 = .int .i64 n0/\c1 = .int .i64 n1/\c2 = .int .i64 n2/\c3 = .int .i64 n3:=by simpa using hn
 obtain⟨u1,fs,hu1,hf⟩:=laid_fates (hL 1 _ _ _ rfl)
 obtain rfl:c4=u1:=by simpa using hu1
 obtain⟨u2,xs,hu2,hx⟩:=laid_rps (hL 2 _ _ _ rfl)
 obtain rfl:c5=u2:=by simpa using hu2
 obtain⟨u3,ks,hu3,hk⟩:=laid_ints (hL 3 _ _ _ rfl)
 obtain rfl:c6=u3:=by simpa using hu3
 exact⟨n0,n1,n2,n3,c4,c5,c6,fs,xs,ks,rfl,r0,r1,r2,r3,hf,hx,hk⟩
end
set_option maxHeartbeats 32000000 in
theorem RefsCrash_c{bits order long size:Int}{u1 u2 u3:Value}{fs:List (Int×Int)}{xs:List Rp}{ks:List Int}(rb:i64 bits)(ro:i64 order)(rl:i64 long)(rs:i64 size)(hf:Fas h u1 fs)(hx:Rps h u2 xs)(hk:Its h u3 ks)(H:∀h',Ext h h'->K (.bool true) h') :
 CallsH Tryz.prog 5 #[.agg #[.int .i64 bits,.int .i64 order,.int .i64 long,.int .i64 size,u1,u2,u3]] h K ⟨⟩:=by
 refine n5_calls ?_
 unfold n5;try delta vF vG vC vD vJ vV vk vt
 unfold i64 at rb ro rl rs
 have knows:∀g,Ext h g->CallsH Tryz.prog 7 #[] g K ⟨⟩:=fun g e=>known_c fun g' e'=>H _ (e.trans e')
 obtain⟨xa,xc,rfl⟩:=hx.form
 obtain⟨fa,fc,rfl,hfc⟩:=hf.form
 obtain⟨ka,kc,rfl,hkc⟩:=hk.form
 have hxl:=hx.len
 have hfl:=hf.few
 have hkl:=hk.few
 simp(disch:=omega)
 rw[show (Value.agg #[.int .i64 bits,.int .i64 order,.int .i64 long,.int .i64 size])=imgV bits order long size from rfl]
 obtain⟨h1,hh1⟩:∃X,X=hset (hset (hset (hset ((Array.push h (Obj.cells #[.int .i64 bits,.int .i64 order,.int .i64 long,.int .i64 size,.slice fa fs.length fc,.slice xa xs.length xc,.slice ka ks.length kc] 70)).push (Obj.cells #[.int .i64 0,.int .i64 0,.int .i64 0,.int .i64 0] 23)) ⟨h.size+1,0,none⟩ (.int .i64 bits)) ⟨h.size+1,1,none⟩ (.int .i64 order)) ⟨h.size+1,2,none⟩ (.int .i64 long)) ⟨h.size+1,3,none⟩ (.int .i64 size):=⟨_,rfl⟩
 have e1:Ext h h1:=by rw[hh1];exact extS
 have k1:h1[h.size+1]? = some (.cells #[.int .i64 bits,.int .i64 order,.int .i64 long,.int .i64 size] 23):=by rw[hh1];exact obj_set (obj_set (obj_set (obj_set (get_pushed sM))))
 rw[<-hh1]
 clear hh1
 have hl1:=get_some_lt k1
 have hx1:=hx.ext e1
 refine vast_c hx1 (fun h2 e2 _=>?_) (fun h2 e2 hv=>?_)
 ·simp(disch:=omega)
  exact knows _ (e1.trans e2)
 have e12:=e1.trans e2
 by_cases c1:fs.length>60
 ·have c1':((fs.length:Nat):Int)>60:=by omega
  simp(disch:=omega)[c1']
  exact knows _ e12
 have c1':¬((fs.length:Nat):Int)>60:=by omega
 by_cases c2:ks.length>300
 ·have c2':((ks.length:Nat):Int)>300:=by omega
  simp(disch:=omega)[c1',c2']
  exact knows _ e12
 have c2':¬((ks.length:Nat):Int)>300:=by omega
 simp(disch:=omega)[c1',c2']
 have hf2:=hf.ext e12
 refine refRight_c hf2 ?_
 cases hright:fs.all rightF with
 | false =>
  simp(disch:=omega)
  exact knows _ e12
 | true =>
 have hx60:xs.length<=60:=Nat.not_lt.1 fun hh=>hv (.inl hh)
 have hb12:bits<=12:=Int.not_lt.1 fun hh=>hv (.inr (.inl omg))
 have hxn:∀y∈xs,y.n<=200:=fun y hy=>Int.not_lt.1 fun hh=>hv (.inr (.inr (.inr ⟨y,hy,.inl omg⟩)))
 clear hv
 have k2:=(e2.block _ hl1).trans k1
 have hl2:=get_some_lt k2
 have d0:=cellOf (i:=0) k2 rfl
 have d1:=cellOf (i:=1) k2 rfl
 have d2:=cellOf (i:=2) k2 rfl
 have d3:=cellOf (i:=3) k2 rfl
 simp(disch:=omega)[d0,d1,d2,d3]
 rw[show (Value.agg #[.int .i64 bits,.int .i64 order,.int .i64 long,.int .i64 size])=imgV bits order long size from rfl]
 refine made_c (fs:=fs) rb ro rs rl hf2 omg hright (fun h3 e3 _=>?_) fun b o L h3 sp s hb ho hL hok kk hd e3 a3 f3 foot3=>?_
 ·simp(disch:=omega)
  exact knows _ (e12.trans e3)
 subst hb ho hL
 obtain⟨g,hg⟩:∃g,layG b o L size=g:=⟨_,rfl⟩
 obtain⟨x,hxx⟩:∃x,layH b o L size=x:=⟨_,rfl⟩
 rw[hg]at kk
 rw[hg,hxx]at hd f3
 have gb:g.b=b:=by rw[<-hg];rfl
 have gb12:g.b<=12:=by omega
 obtain⟨I,La⟩:=laid_img kk hd
 obtain⟨B,hB⟩:∃B,g.laidB x=B:=⟨_,rfl⟩
 rw[hB]at I La f3
 have hfew:=I.few
 obtain⟨q,hq,hq1,hq2⟩:=kk.c512
 have hlen:=La.len
 have hne:B≠[]:=fun e=>by
  have:g.c<=g.u*g.c:=Nat.le_mul_of_pos_left _ (by have:=kk.u0;omega)
  rw[e,List.length_nil]at hlen;omega
 obtain⟨p,hp⟩:∃p:Fs,⟨(mdF B).f,fs,3⟩=p:=⟨_,rfl⟩
 have pn:p.f.now=B:=by rw[<-hp];exact mdF_now hfew hne
 have pps:p.f.ps=[]:=by rw[<-hp];exact mdF_ps B
 have pok:p.f.ok:=by rw[<-hp];exact mdF_ok hfew
 have ps:p.steps=3:=by rw[<-hp]
 rw[hp]at f3
 rw[<-pn]at I La
 simp(disch:=omega)
 rw[show str [97]=str nA from rfl]
 refine gOpen_c a3 f3 kk hd I fun h4 r e4 hr ra4=>?_
 have k4:=((e4.block _ (by have:=e3.size;omega)).trans ((e3.block _ hl2).trans k2))
 have c0:=cellOf (i:=0) k4 rfl
 have hw:IntKind.i64.wrap (2^b)=((g.c:Nat):Int):=by
  unfold Gm.c
  rw[gb,Int.natCast_pow]
  refine wrap_i64 ?_ ?_
  all_goals have:=clus (b:=b) (by have:=hok.1;omega) omg;rw[Int.toNat_natCast]at this;omega
 have hrl:=kk.room_lt
 simp(disch:=omega)[c0,Hp_shl,IntKind.bits,hw]
 have z1:=e1.size
 have z2:=e2.size
 have z3:=e3.size
 have z4:=e4.size
 have P0:CrAt h1 h4 g x r sp (.slice none 0 0) [] s p 0:=⟨ra4,CI.all pok I (fun r hr=>by cases hr) pps,by rw[ps];omega,fun r hr=>(by cases hr),OwnG.nil,Nat.le_refl _,(e2.trans e3).trans e4,fun b hb=>by have:=foot3 b hb;omega,fun b hb=>by cases hb⟩
 refine JoinN_in1 (fun mv G=>∃M s p,CrAt h1 G g x r sp mv M s p 61) (fun kk9 hkk9=>JoinN.mk ?_) (fun mv G hG=>?_)
 ·refine loopA2 (α:=(Nat×Value)×List (Nat×Nat)×St×Fs) (fun z=>z.1.2) (fun z=>.int .i64 (z.1.1:Nat)) (fun z G=>z.1.1<=xs.length/\CrAt h1 G g x r sp z.1.2 z.2.1 z.2.2.1 z.2.2.2 z.1.1) (fun z=>xs.length-z.1.1) ((0,.slice none 0 0),[],s,p) ⟨rfl,rfl⟩ ⟨Nat.zero_le _,P0⟩ ?_
  clear P0
  rintro⟨⟨i,mv⟩,M,s,p⟩ G ⟨hi,P⟩
  dsimp only at hi P ⊢
  by_cases hil:i<xs.length
  ·have hlt:((i:Nat):Int)<((xs.length:Nat):Int):=by omega
   obtain⟨ya,yc,hv,q0,q1,q2,q3⟩:=(hx1.ext P.ext).cell hil
   injection hv with hv1 hv2 hv3
   subst hv1 hv3
   have hy:=hxn _ (List.getElem_mem hil)
   have hyo:=hx.ok _ (List.getElem_mem hil)
   obtain⟨Y,hY⟩:∃Y,xs[i]=Y:=⟨_,rfl⟩
   rw[hY]at q0 q1 q2 q3 hy hyo
   simp(disch:=omega)[hlt,q0,q1,q2,q3]
   obtain⟨G1,hG1⟩:∃X,X=hset (hset (hset (hset (Array.push G (Obj.cells #[.int .i64 0,.int .i64 0,.int .i64 0,.int .i64 0] 37)) ⟨G.size,0,none⟩ (.int .i64 Y.kind)) ⟨G.size,1,none⟩ (.int .i64 Y.n)) ⟨G.size,2,none⟩ (.int .i64 Y.at_)) ⟨G.size,3,none⟩ (.int .i64 Y.by_):=⟨_,rfl⟩
   have eG1:Ext G G1:=by rw[hG1];exact extS
   have kT:G1[G.size]? = some (.cells #[.int .i64 Y.kind,.int .i64 Y.n,.int .i64 Y.at_,.int .i64 Y.by_] 37):=by rw[hG1];exact obj_set (obj_set (obj_set (obj_set (get_pushed rfl))))
   rw[<-hG1]
   clear hG1
   have hlT:=get_some_lt kT
   have P1:=P.exts eG1
   have t0:=cellOf (i:=0) kT rfl
   have t1:=cellOf (i:=1) kT rfl
   have hnf:∀b,s.foot sp b->b<G.size:=fun b hb=>P.ra.st.lt hb
   refine JoinN_in2 (fun mv' f G'=>∃M' s' p' e,f = .int .i64 e/\CrAt h1 G' g x r sp mv' M' s' p' (i+1)) (fun kk1 hkk=>?_) (fun mv' f G' hG=>?_)
   ·by_cases y1:Y.kind=1
    ·by_cases n1:Y.n>=1
     ·obtain⟨nn,hnn⟩:=Int.eq_ofNat_of_zero_le (show 0<=Y.n by omega)
      rw[hnn]at t1 n1 hy
      simp(disch:=omega)[t0,t1,y1,n1]
      refine cAlloc_c (nn:=nn) P1 gb12 omg omg omg (fun G3 e P3 e3 e0=>?_) (fun G3 s3 p3 e P3 m3 e0=>?_) (fun G3 s3 p3 st P3 m3 c3 fit3=>?_)
      ·simp(disch:=omega)[e0]
       exact hkk _ _ _ ⟨M,s,p,e,rfl,P3.mono omg⟩
      ·simp(disch:=omega)[e0]
       exact hkk _ _ _ ⟨M,s3,p3,e,rfl,P3⟩
      ·have kT3:=(m3.block _ hlT (fun e=>by have:=hnf _ e;omega)).trans kT
       have t1':=cellOf (i:=1) kT3 rfl
       rw[hnn]at t1'
       obtain⟨Q,hQ⟩:∃Q,st*g.c=Q:=⟨_,rfl⟩
       rw[hQ]
       simp(disch:=omega)[t1']
       obtain⟨G4,hG4⟩:∃X,X=G3.push (.cells #[.int .i64 (Q:Nat),.int .i64 (nn:Nat)] 42):=⟨_,rfl⟩
       have e4:Ext G3 G4:=by rw[hG4];exact extS
       have k4:G4[G3.size]? = some (.cells #[.int .i64 (Q:Nat),.int .i64 (nn:Nat)] 42):=by rw[hG4];exact get_pushed rfl
       rw[<-hG4]
       clear hG4
       have P4:=P3.exts e4
       have hfP:=P.few
       refine appMn (r:=(st,nn)) P4.mem omg (by rw[show ((st,nn):Nat×Nat).1*g.c=Q from hQ];exact k4) fun mv8 G8 o8 m8 b8=>?_
       exact hkk _ _ _ ⟨M++[(st,nn)],s3,p3,0,rfl,P4.list m8 o8 b8 c3 (fun r hr=>(List.mem_append.1 hr).elim (P4.rm r) (fun hr=>by obtain rfl:=List.mem_singleton.1 hr;exact⟨by omega,by omega,fit3⟩)) (by rw[List.length_append,List.length_singleton];omega) (Nat.le_refl _)⟩
     ·have n1':¬Y.n>=1:=n1
      by_cases hM0:M.length=0
      ·obtain⟨ma,mc,hmv,hmc⟩:=P1.mem.form
       have hM0':¬((M.length:Nat):Int)>0:=by omega
       simp(disch:=omega)[t0,t1,hmv,hM0',y1,n1']
       rw[<-hmv]
       exact hkk _ _ _ ⟨M,s,p,0,rfl,P1.mono omg⟩
      ·have hMf:=P1.few
       have hM0':((M.length:Nat):Int)>0:=by omega
       obtain⟨J,hJ⟩:∃J,M.length-1=J:=⟨_,rfl⟩
       have hJl:J<M.length:=by omega
       have hidx:((M.length:Nat):Int)-1=((J:Nat):Int):=by omega
       obtain⟨ma,mc,hmv,hmc,w0,w1⟩:=P1.mem.cell hJl
       have hrm:=P1.rm _ (List.getElem_mem hJl)
       obtain⟨PL,hPL⟩:∃P,M[J].1*g.c=P:=⟨_,rfl⟩
       have hPb:PL<=171798691840*65536:=by rw[<-hPL];exact Nat.mul_le_mul omg omg
       have hPd:((PL:Nat):Int)/((g.c:Nat):Int)=((M[J].1:Nat):Int):=by rw[<-Int.natCast_ediv,<-hPL,Nat.mul_div_cancel _ omg]
       rw[hPL]at w0
       simp(disch:=omega)[t0,t1,hmv,hM0',hidx,w0,hPd,y1,n1']
       obtain⟨G2,hG2⟩:∃X,X=G1.push (.cells #[.int .i64 (M[J].1:Nat)] 2):=⟨_,rfl⟩
       have e2':Ext G1 G2:=by rw[hG2];exact extS
       have k2':G2[G1.size]? = some (.cells #[.int .i64 (M[J].1:Nat)] 2):=by rw[hG2];exact get_pushed rfl
       rw[<-hG2]
       clear hG2
       have P2:=P1.exts e2'
       refine cAdd_c P2 gb12 omg hJl (OwnT.g (.inr ⟨G1.size,1,1,[],rfl,rfl,Nat.le_refl _,k2',rfl⟩)) fun G3 s3 p3 e P3 _=>?_
       exact hkk _ _ _ ⟨M,s3,p3,e,rfl,P3⟩
    ·skip
     by_cases hM0:M.length=0
     ·obtain⟨ma,mc,hmv,hmc⟩:=P1.mem.form
      have hM0':¬((M.length:Nat):Int)>0:=by omega
      simp(disch:=omega)[t0,t1,hmv,hM0',y1]
      rw[<-hmv]
      exact hkk _ _ _ ⟨M,s,p,0,rfl,P1.mono omg⟩
     ·have hMf:=P1.few
      have hM0':((M.length:Nat):Int)>0:=by omega
      obtain⟨J,hJ⟩:∃J,M.length-1=J:=⟨_,rfl⟩
      have hJl:J<M.length:=by omega
      have hidx:((M.length:Nat):Int)-1=((J:Nat):Int):=by omega
      obtain⟨ma,mc,hmv,hmc,w0,w1⟩:=P1.mem.cell hJl
      have hrm:=P1.rm _ (List.getElem_mem hJl)
      obtain⟨PL,hPL⟩:∃P,M[J].1*g.c=P:=⟨_,rfl⟩
      have hPb:PL<=171798691840*65536:=by rw[<-hPL];exact Nat.mul_le_mul omg omg
      have hPd:((PL:Nat):Int)/((g.c:Nat):Int)=((M[J].1:Nat):Int):=by rw[<-Int.natCast_ediv,<-hPL,Nat.mul_div_cancel _ omg]
      rw[hPL]at w0
      simp(disch:=omega)[t0,t1,hmv,hM0',hidx,w0,hPd,y1]
      obtain⟨G2,hG2⟩:∃X,X=G1.push (.cells #[.int .i64 (M[J].1:Nat)] 2):=⟨_,rfl⟩
      have e2':Ext G1 G2:=by rw[hG2];exact extS
      have k2':G2[G1.size]? = some (.cells #[.int .i64 (M[J].1:Nat)] 2):=by rw[hG2];exact get_pushed rfl
      rw[<-hG2]
      clear hG2
      have P2:=P1.exts e2'
      refine cAdd_c P2 gb12 omg hJl (OwnT.g (.inr ⟨G1.size,1,1,[],rfl,rfl,Nat.le_refl _,k2',rfl⟩)) fun G3 s3 p3 e P3 _=>?_
      exact hkk _ _ _ ⟨M,s3,p3,e,rfl,P3⟩
   ·obtain⟨M',s',p',e,rfl,P'⟩:=hG
    by_cases h5:e=5
    ·simp(disch:=omega)[h5]
     exact hkk9 _ _ ⟨M',s',p',P'.mono omg⟩
    ·simp(disch:=omega)[h5]
     exact⟨i+1,by simp,⟨by omega,M',s',p',P'⟩,by omega⟩
  ·have hlt:¬((i:Nat):Int)<((xs.length:Nat):Int):=by omega
   simp(disch:=omega)[hlt]
   exact hkk9 _ _ ⟨M,s,p,P.mono omg⟩
 ·obtain⟨M,s,p,P⟩:=hG
  have E:=e1.trans P.ext
  refine Crash_c P.ra.st (hk.ext E) (fun h5 e5 _=>?_) (fun h5 o5 s' L e5 _ hp _ st' hF hfa hst ho hfoot=>?_)
  ·simp(disch:=omega)
   exact knows _ (E.trans e5)
  obtain⟨y,y1,y2,y3,y4⟩:=P.ra.fs.get
  rw[y1,List.map_singleton,y3]at hp
  obtain rfl:L=[nA]:=List.perm_singleton.1 hp
  have hflo:s.flOf nA=p.f:=by unfold St.flOf;rw[y4];exact y2
  rw[List.map_singleton,hflo]at hF
  have fs':FsAt s' ⟨p.f.crash ks,[],0⟩:=by
   obtain⟨x',hx',hx2⟩:=List.map_eq_singleton_iff.1 (show s'.F.map Fh.f=[p.f.crash ks] from hF)
   refine⟨hfa,hst,x',hx',hx2,?_⟩
   have:x'.f.name=nA:=by rw[hx2];show p.f.name=nA;rw[<-y2];exact y3
   exact this
  simp(disch:=omega)
  refine lBytes_c (P.ra.st.ext e5) P.ra.fs fun h6 v6 e6 o6 b6=>?_
  refine sound_c kk hd P.ci.img o6.g.bytes (P.mem.ext (e5.trans e6)) (by have:=P.few;omega) (fun r hr=>⟨(P.rm r hr).2.2,fun k hk=>(P.ci.mine r hr k hk).2⟩) fun h7 e7=>?_
  simp(disch:=omega)
  refine lBytes_c (st'.ext (e6.trans e7)) fs' fun h8 v8 e8 o8 b8=>?_
  have C:=P.ci.crash ks
  have hnow:(p.f.crash ks).now=(p.f.crash ks).last:=rfl
  simp(disch:=omega)
  refine sound_c kk hd (B:=(p.f.crash ks).now) C.img o8.g.bytes (P.mem.ext (((e5.trans e6).trans e7).trans e8)) (by have:=P.few;omega) (fun r hr=>⟨(P.rm r hr).2.2,fun k hk=>(C.mine r hr k hk).2⟩) fun h9 e9=>?_
  simp(disch:=omega)
  refine known_c fun h10 e10=>?_
  simp(disch:=omega)
  exact H _ ((((((E.trans e5).trans e6).trans e7).trans e8).trans e9).trans e10)
end Go.Proofs.YtdccfkffabngjaaGreat
namespace Go.Proofs.YtdccfkffabngjaaGreat.refsCrash
open Go.ChangeShapes Go.WideShapes Go.ChangeAt Go.RowKit Go.Joins Go.Vc

theorem own:ownKnob Tryz.prog.godebug=none:=by kernel_rfl
theorem laidOut:laidOutB Tryz.prog=true:=by kernel_rfl

set_option maxRecDepth 100000 in
set_option maxHeartbeats 1000000 in
theorem lifted(os:Os)(started:os.Started)(H:Type)(enc:TypeId×Value->H) :
 ReturnsInHanded {} Tryz.checked os 5 .any (Rows.refsCrashSpec.pre6 enc Tryz.prog Tryz.f5 Rows.refsCrashRow.domain false) (Rows.refsCrashSpec.post enc Tryz.prog Tryz.f5 false true false false):=by
 refine returnsInHanded_of_change (C:=Tryz.checked) own started kR Tryz.func5
  (ChangeSpec.witness6 (enc:=enc) (C:=Tryz.checked) false ⟨#[],#[.agg #[.int .i64 0,.int .i64 0,.int .i64 0,.int .i64 0,.slice none 0 0,.slice none 0 0,.slice none 0 0]],[]⟩ 8 kR kR kR kR) ?_
 intro W base args ds gs before hval0 hW hcnd _
 have hval:∀(j:Nat) t v,Tryz.f5.params[j]? = some t->args[j]? = some v->Value.okWide Tryz.prog W .any base t v:=hval0
 have hW':=hW
 obtain⟨p,q,hA0,hV,rfl,hfz,hnd⟩:=hW
 have hA:DataW.TrodAll enc Tryz.prog W 0 (fun _=>true) true Tryz.f5.params.toList args.toList ds p:=hA0
 rw[Tryz.params5]at hA hval
 obtain⟨v0,vs0,d0,ds0,p0,q0,hargs,rfl,rfl,h0,r0⟩:=trodAll_cons hA
 obtain⟨rfl,rfl,rfl⟩:=trodAll_nil r0
 obtain rfl:args = #[v0]:=by cases args;simp_all
 obtain⟨bits,order,long,size,u1,u2,u3,fs,xs,ks,rfl,rb,ro,rl,rs,hf,hx,hk⟩:=open_crash (hval 0 70 v0 rfl rfl) h0
 refine ((RefsCrash_c (h:=W.heap) rb ro rl rs hf hx hk (K:=fun v h'=>v = .bool true/\Ext W.heap h') (fun h' e=>⟨rfl,e⟩)).out W rfl).mono fun e W' ⟨v,he,hs,hv,hx⟩=>?_
 exact⟨v,he,hv▸law_post laidOut kR rfl (tb:=4) kR kR hW' (fun hg=>by rw[hg];rfl) (below_of hs hx)⟩

theorem proved:Rows.RefsCrashSaid :=
 OpenClaim.holds_of_wide 5 Tryz.f5 rfl rfl rfl rfl rfl rfl rfl ⟨rfl,rfl,rfl,rfl,rfl⟩ rfl rfl rfl rfl rfl kR Tryz.func5 kR
  (of_decide_eq_true kR) (by unfold Func.isWrapper;first|(rw[if_pos (by decide +kernel)];kernel_rfl)|(rw[if_neg (by decide +kernel)];exact⟨rfl,rfl⟩))
  (fun os started H enc _=>lifted os started H enc)
end Go.Proofs.YtdccfkffabngjaaGreat.refsCrash

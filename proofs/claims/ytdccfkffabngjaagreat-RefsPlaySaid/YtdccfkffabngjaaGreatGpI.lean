/- Laying: an image,as the document lays it. Refs: a store with one image that is laid. Clusters,plainly: what a run that is taken,or given back,leaves where no step fails. Clusters,plainly: the runs that are ours. Refs: a run,taken and given back (law16.known). Store: how many pieces there are. Store: picks. Store: crashed. Store: the laws' calls. Refs: the laws' calls; what is more than is done here; a count told out of bytes. Refs: the runs that are ours,in memory. Refs: nothing is found but leaks,and what is ours has a count (law16.sound); blocks aside. Refs: a play: what stands behind each call. Refs: the laws' arguments opened. -/
import Derived.Test.YtdccfkffabngjaaGreatGpH
import Derived.Test.YtdccfkffabngjaaGreatGpB
import Derived.Test.YtdccfkffabngjaaGreatGpC
import Derived.Test.YtdccfkffabngjaaGreatOpen
set_option linter.unusedSimpArgs false
set_option linter.unusedVariables false
set_option maxRecDepth 20000
namespace Go.Proofs.YtdccfkffabngjaaGreat
open Go.Vc
variable {K:VP} {h:Heap}

set_option maxHeartbeats 8000000 in
theorem Lay_c {bits order size long:Int} (rb : -9223372036854775808≤bits∧bits<9223372036854775808) (ro : -9223372036854775808≤order∧order<9223372036854775808) (rs : -9223372036854775808≤size∧size<9223372036854775808) (rl : -9223372036854775808≤long∧long<9223372036854775808)
 (H0:∀h',Ext h h'→(∀b o L:Nat,bits=b→order=o→long=L→LayOk bits order size long→¬MayH (layH b o L size))→K (.tuple #[.slice none 0 0,.bool false]) h')
 (H1:∀(b o L:Nat) h' v,bits=b→order=o→long=L→LayOk bits order size long→(layG b o L size).ok→HdOk (layG b o L size) (layH b o L size)→Ext h h'→OwnS 1 h' v (((layG b o L size).laidB (layH b o L size)).map byteV)→(∀b,blkV v=some b→h.size≤b)→K (.tuple #[v,.bool true]) h') :
 CallsH Tryz.prog 27 #[.int .i64 bits,.int .i64 order,.int .i64 size,.int .i64 long,str []] h K ⟨⟩:=by
 refine n27_calls ?_
 unfold n27; try delta vF vG vC vD vJ vV vk vt
 by_cases c1:bits<9
 ·simp (disch:=omega) [c1]; exact H0 h (.refl _) (fun _ _ _ _ _ _ k _=>by unfold LayOk at k; omega)
 by_cases c2:bits>16
 ·simp (disch:=omega) [c1,c2]; exact H0 h (.refl _) (fun _ _ _ _ _ _ k _=>by unfold LayOk at k; omega)
 by_cases c3:order<0
 ·simp (disch:=omega) [c1,c2,c3]; exact H0 h (.refl _) (fun _ _ _ _ _ _ k _=>by unfold LayOk at k; omega)
 by_cases c4:order>6
 ·simp (disch:=omega) [c1,c2,c3,c4]; exact H0 h (.refl _) (fun _ _ _ _ _ _ k _=>by unfold LayOk at k; omega)
 by_cases c5:size<0
 ·simp (disch:=omega) [c1,c2,c3,c4,c5]; exact H0 h (.refl _) (fun _ _ _ _ _ _ k _=>by unfold LayOk at k; omega)
 by_cases c6:size>1048576
 ·simp (disch:=omega) [c1,c2,c3,c4,c5,c6]; exact H0 h (.refl _) (fun _ _ _ _ _ _ k _=>by unfold LayOk at k; omega)
 by_cases c7:¬size%512=0
 ·simp (disch:=omega) [c1,c2,c3,c4,c5,c6,c7]; exact H0 h (.refl _) (fun _ _ _ _ _ _ k _=>by unfold LayOk at k; omega)
 by_cases c8:long<1
 ·simp (disch:=omega) [c1,c2,c3,c4,c5,c6,c7,c8]; exact H0 h (.refl _) (fun _ _ _ _ _ _ k _=>by unfold LayOk at k; omega)
 by_cases c9:long>40
 ·simp (disch:=omega) [c1,c2,c3,c4,c5,c6,c7,c8,c9]; exact H0 h (.refl _) (fun _ _ _ _ _ _ k _=>by unfold LayOk at k; omega)
 have c7':=Classical.not_not.1 c7
 have hok:LayOk bits order size long:=⟨by omega,by omega,by omega,by omega,by omega,by omega,c7',by omega,by omega⟩
 simp (disch:=omega) [-Tryz.st84,-Tryz.ld84,-Tryz.al84,c1,c2,c3,c4,c5,c6,c7',c8,c9]
 clear c1 c2 c3 c4 c5 c6 c7 c7' c8 c9 rb ro rs rl
 obtain ⟨b,rfl⟩:=Int.eq_ofNat_of_zero_le (show 0≤bits by have:=hok.1; omega)
 obtain ⟨o,rfl⟩:=Int.eq_ofNat_of_zero_le (show 0≤order by exact hok.2.2.1)
 obtain ⟨L,rfl⟩:=Int.eq_ofNat_of_zero_le (show 0≤long by have:=hok.2.2.2.2.2.2.2.1; omega)
 replace H1:=fun h' v=>H1 b o L h' v rfl rfl rfl hok
 obtain ⟨b0,b1,-,o1,s0,s1,s5,L0,L1⟩:=hok
 have kk:(layG b o L size).ok:=layG_ok omg omg omg omg omg
 have hT:=layT_few (b:=b) (size:=size) omg omg s0 s1
 obtain ⟨g,hg⟩:∃g,layG b o L size=g:=⟨_,rfl⟩
 have hx0:MayH (layH b o L size)→HdOk g (layH b o L size):=fun m=>hg▸layH_ok omg omg s0 s1 m
 rw [hg] at kk H1
 have gb:g.b=b:=by rw [←hg]; rfl
 have go:g.o=o:=by rw [←hg]; rfl
 have gL:g.L=L:=by rw [←hg]; rfl
 have gc:g.c=2^b:=by rw [←hg]; rfl
 have gu:g.u=if layT b size=0 then L+2 else L+3:=by rw [←hg]; rfl
 obtain ⟨q,hq,hq1,hq2⟩:=kk.c512
 have hcc:(2:Int)^((b:Nat):Int).toNat=((g.c:Nat):Int):=by rw [Int.toNat_natCast,gc,Int.natCast_pow]; rfl
 refine Cluster_c omg omg ?_
 rw [hcc]
 simp (disch:=omega) [-Tryz.st84,-Tryz.ld84,-Tryz.al84]
 refine allocH fun h1 e1 w1 z1 => ?_
 refine storeH (x:=⟨(b:Nat),0,size,0,0,(o:Nat),(g.c:Nat),(L:Nat),0,0,0,0,0,0,[]⟩) w1 fun h2 m2 w2 => ?_
 have E2:Ext h h2:=m2.ext_from e1 (fun b hb he=>by omega)
 have z2:=m2.size
 obtain ⟨N1,hN1⟩:∃N,1+L=N:=⟨_,rfl⟩
 have hN1':(1:Int)+((L:Nat):Int)=((N1:Nat):Int):=by omega
 simp (disch:=omega) [-Tryz.st84,-Tryz.ld84,-Tryz.al84,hN1']
 rw [loadH w2.at]
 refine RTables_c (x:=⟨(b:Nat),0,size,0,0,(o:Nat),(g.c:Nat),(L:Nat),0,0,0,0,0,0,[]⟩) (by dsimp only; omega) (by dsimp only; omega) s0 (by dsimp only; omega) fun h3 e3 => ?_
 have hTx:Hd.tables ⟨(b:Nat),0,size,0,0,(o:Nat),(g.c:Nat),(L:Nat),0,0,0,0,0,0,[]⟩=layT b size:=by
  unfold Hd.tables Hd.guest layT
  dsimp only
  rw [Int.toNat_natCast]
 rw [hTx]
 clear hTx
 obtain ⟨T,hTT⟩:∃T,layT b size=T:=⟨_,rfl⟩
 rw [hTT] at hT gu ⊢
 refine setH4 (w2.ext e3) fun h4 m4 w4 => ?_
 have z3:=e3.size
 have E4:Ext h h4:=m4.ext_from (E2.trans e3) (fun b hb he=>by omega)
 have z4:=m4.size
 refine JoinN_in1 (fun v G=>v = .int .i64 (g.u-1:Nat)∧Ext h G∧HdW G h.size (layH b o L size)) (fun kk1 hkk1 => ?_) (fun v G hG => ?_)
 ·have d4:=w4.at.2.2.2.2.1
  simp (disch:=omega) [-Tryz.st84,-Tryz.ld84,-Tryz.al84,d4]
  by_cases hT0:T=0
  ·have hn:¬T>0:=by omega
   simp (disch:=omega) [-Tryz.st84,-Tryz.ld84,-Tryz.al84,hn]
   rw [if_pos hT0] at gu
   refine hkk1 _ _ ⟨?_,E4,?_⟩
   ·congr 1; omega
   ·unfold layH
    rw [hTT,if_pos hT0,←gc]
    exact w4
  ·have hn:T>0:=by omega
   rw [if_neg hT0] at gu
   obtain ⟨NC,hNC⟩:∃X,N1*g.c=X:=⟨_,rfl⟩
   have hNC':((N1:Nat):Int)*((g.c:Nat):Int)=((NC:Nat):Int):=by rw [←hNC,Int.natCast_mul]
   have hNC2:NC≤41*65536:=by rw [←hNC]; exact Nat.mul_le_mul omg omg
   simp (disch:=omega) [-Tryz.st84,-Tryz.ld84,-Tryz.al84,-Tryz.fd84_3,hn,hNC']
   refine setH3 w4 fun h5 m5 w5 => ?_
   have E5:Ext h h5:=m5.ext_from E4 (fun b hb he=>by omega)
   have d4:=w5.at.2.2.2.2.1
   simp (disch:=omega) [-Tryz.st84,-Tryz.ld84,-Tryz.al84,d4]
   refine Up_c omg omg omg omg ?_
   have hup:upQ (8*T) ((g.c:Nat):Int)=1:=by
    rw [show 8*T=(((8*T).toNat:Nat):Int) by omega]
    exact upQ_one omg omg
   rw [hup]
   simp (disch:=omega) [-Tryz.st84,-Tryz.ld84,-Tryz.al84]
   refine hkk1 _ _ ⟨?_,E5,?_⟩
   ·congr 1; omega
   ·unfold layH
    rw [hTT,if_neg hT0,←gc,hN1,hNC]
    exact w5
 ·obtain ⟨rfl,E5,w5⟩:=hG
  clear e1 w1 z1 m2 w2 E2 z2 e3 z3 m4 w4 E4 z4
  obtain ⟨U,hU⟩:∃U,g.u-1=U:=⟨_,rfl⟩
  have hu0:=kk.u0
  have hu1:=kk.u1
  rw [hU]
  rw [show ((b:Nat):Int)=((g.b:Nat):Int) by rw [gb],show ((o:Nat):Int)=((g.o:Nat):Int) by rw [go]]
  refine Per_c kk ?_
  have hn:=kk.n64
  refine loop1 (fun v H=>v = .int .i64 1∧H=G) (fun _ _=>0) ⟨rfl,rfl⟩ ?_
  rintro v H ⟨rfl,rfl⟩
  have hlt:¬((1:Int)*((g.n:Nat):Int)<((U:Nat):Int)+1):=by omega
  simp (disch:=omega) [-Tryz.st84,-Tryz.ld84,-Tryz.al84,hlt]
  rw [loadH w5.at]
  refine May_c (show (0:Nat)<9223372036854775808 by decide) (fun h6 e6 hM => ?_) (fun h6 e6 hM => ?_)
  ·have hd:=hx0 hM
   have w6:=w5.ext e6
   have E6:=E5.trans e6
   clear E5 w5 e6
   obtain ⟨LC,hLC⟩:∃X,L*g.c=X:=⟨_,rfl⟩
   have hLC':((L:Nat):Int)*((g.c:Nat):Int)=((LC:Nat):Int):=by rw [←hLC,Int.natCast_mul]
   have hLC1:g.c≤LC:=by rw [←hLC]; exact Nat.le_mul_of_pos_left _ omg
   have hLC2:LC≤41*65536:=by rw [←hLC]; exact Nat.mul_le_mul omg omg
   have hgt:¬(1:Int)>((LC:Nat):Int)/8:=by omega
   obtain ⟨UC,hUC⟩:∃X,g.u*g.c=X:=⟨_,rfl⟩
   have hU1:((U:Nat):Int)+1=((g.u:Nat):Int):=by omega
   have hUC':((g.u:Nat):Int)*((g.c:Nat):Int)=((UC:Nat):Int):=by rw [←hUC,Int.natCast_mul]
   have hUC2:UC≤43*65536:=by rw [←hUC]; exact Nat.mul_le_mul omg omg
   simp (disch:=omega) [-Tryz.st84,-Tryz.ld84,-Tryz.al84,-Tryz.mk52,hU1,hLC',hgt,hUC']
   refine zeros_c omg fun h7 e7 o7 => ?_
   have w7:=w6.ext e7
   have E7:=E6.trans e7
   rw [loadH w7.at]
   refine RBytes_c hM fun v8 h8 e8 b8 => ?_
   have hh:(hdB (layH b o L size)).length=512:=hdB_len hM
   have hUg:g.c+(U*g.c)=UC:=by rw [←hUC,show g.u=U+1 by omega,Nat.add_mul,Nat.one_mul,Nat.add_comm]
   refine rOver_c (k:=0) (o7.bytes.ext e8) b8 (by rw [zeros_len]; omega) (by rw [zeros_len]; omega) (by rw [zeros_len]; omega) fun v9 h9 e9 o9 f9 => ?_
   have z6:=E6.size
   have z7:=e7.size
   have z8:=e8.size
   have w9:=(w7.ext e8).ext e9
   have E9:=(E7.trans e8).trans e9
   obtain ⟨x,hx⟩:∃x,layH b o L size=x:=⟨_,rfl⟩
   have hxc:x.counts=((g.c:Nat):Int):=by rw [←hx]; unfold layH; rw [gc]
   rw [hx] at hd w9 o9 hh H1
   replace f9:∀b,blkV v9=some b→h.size≤b:=fun b hb=>by have:=f9 b hb; omega
   clear w7 w6 o7 e7 e8 e9 b8 E7 E6 z6 z7 z8
   obtain ⟨BB,hBB⟩:∃BB:Nat→List UInt8,BB=fun j=>if j=0 then Vc.over (zeros UC) 0 (hdB x) else g.laidB x:=⟨_,rfl⟩
   have hB0:BB 0=Vc.over (zeros UC) 0 (hdB x):=by rw [hBB]; rfl
   have hB1:BB 1=g.laidB x:=by rw [hBB]; rfl
   refine loop2 (fun v i H=>∃j:Nat,j≤1∧i = .int .i64 (j:Nat)∧Ext h H∧HdW H h.size x∧OwnS 1 H v ((BB j).map byteV)∧∀b,blkV v=some b→h.size≤b) (fun v i _=>match i with | .int _ n=>(1-n).toNat|_=>0) ⟨0,by omega,rfl,E9,w9,by rw [hB0]; exact o9,f9⟩ ?_
   clear o9 w9 E9 f9
   rintro v i H ⟨j,hj,rfl,E10,w10,o10,f10⟩
   by_cases hj1:j=1
   ·subst hj1
    have hl:¬((1:Nat):Int)<1:=by omega
    simp (disch:=omega) [-Tryz.st84,-Tryz.ld84,-Tryz.al84,hl]
    rw [hB1] at o10
    exact H1 _ _ kk hd E10 o10 f10
   ·obtain rfl:j=0:=by omega
    have d6:=w10.at.2.2.2.2.2.2.1
    rw [hxc] at d6
    obtain ⟨P,hP⟩:∃X,U*g.c=X:=⟨_,rfl⟩
    have hP':((U:Nat):Int)*((g.c:Nat):Int)=((P:Nat):Int):=by rw [←hP,Int.natCast_mul]
    rw [hP] at hUg
    simp (disch:=omega) [-Tryz.st84,-Tryz.ld84,-Tryz.al84,-Tryz.mk52,d6,hP',Tryz.cvw2_44]
    refine Number_c (x:=P) omg omg fun v11 h11 o11 e11 f11 => ?_
    have hcP:g.c≤P:=by rw [←hP]; exact Nat.le_mul_of_pos_left _ omg
    have d6':=hcell_ext e11 d6
    refine ⟨by simp (disch:=omega) [d6'],?_⟩
    clear d6' d6
    have l0:(BB 0).length=UC:=by rw [hB0,over_len (by rw [hh,zeros_len]; omega),zeros_len]
    have h8':(leB 8 P).length=8:=leB_length 8 _
    rw [show (8:Int).toNat=8 from rfl] at o11
    refine rOver_c (k:=g.c) (o10.bytes.ext e11) o11.bytes omg (by rw [h8']; omega) omg fun v12 h12 e12 o12 f12 => ?_
    refine zeros_c omg fun h13 e13 o13 => ?_
    have z10:=E10.size
    have z11:=e11.size
    have z12:=e12.size
    have z13:=e13.size
    have E13:=((E10.trans e11).trans e12).trans e13
    have w13:=((w10.ext e11).ext e12).ext e13
    replace o12:=o12.ext e13
    simp (disch:=omega) [-Tryz.st84,-Tryz.ld84,-Tryz.al84,-Tryz.mk52]
    obtain ⟨v13,hv13⟩:∃v,v=Value.slice (some ⟨h12.size,0,none⟩) g.c g.c:=⟨_,rfl⟩
    rw [←hv13] at o13 ⊢
    refine loop2 (fun v i H=>∃j:Nat,j≤g.u∧i = .int .i64 (j:Nat)∧Ext h13 H∧OwnS 1 H v ((g.ones j).map byteV)) (fun v i _=>match i with | .int _ n=>(g.u-n).toNat|_=>0) ⟨0,by omega,rfl,.refl _,o13⟩ ?_
    rintro v14 i h14 ⟨j,hj,rfl,e14,o14⟩
    by_cases hju:j<g.u
    ·have hl1:((j:Nat):Int)<((U:Nat):Int)+1:=by omega
     have hl2:((j:Nat):Int)<((g.n:Nat):Int):=by omega
     simp (disch:=omega) [hl1,hl2]
     have hw:=kk.wd_w
     have hw6:=kk.w64
     have hnw:=kk.nw
     have hjw:j*g.w+g.w≤8*(g.ones j).length:=by
      rw [g.ones_len,←hnw,←Nat.succ_mul]
      exact Nat.mul_le_mul_right _ omg
     refine With_c (n:=j) (x:=1) o14.bytes (by rw [g.ones_len]; omega) (by rw [hw]; omega) (by rw [hw]; exact hjw) dM fun v15 h15 o15 e15 f15 => ?_
     rw [hw] at o15
     simp (disch:=omega)
     exact ⟨⟨j+1,by omega,by omega,e14.trans e15,o15⟩,by omega⟩
    ·have hjU:j=g.u:=by omega
     have hl1:¬((j:Nat):Int)<((U:Nat):Int)+1:=by omega
     simp (disch:=omega) [hl1,hP']
     have l12:(Vc.over (BB 0) g.c (leB 8 P)).length=UC:=by rw [over_len (by rw [h8']; omega),l0]
     rw [hjU] at o14
     refine rOver_c (k:=P) (o12.bytes.ext e14) o14.bytes omg (by rw [g.ones_len]; omega) omg fun v16 h16 e16 o16 f16 => ?_
     simp (disch:=omega)
     have z14:=e14.size
     refine ⟨1,by omega,rfl,(E13.trans e14).trans e16,(w13.ext e14).ext e16,?_,fun b hb=>by have:=f16 b hb; omega⟩
     have:BB 1=Vc.over (Vc.over (BB 0) g.c (leB 8 P)) P (g.ones g.u):=by
      rw [hB1,hB0]; unfold Gm.laidB
      rw [hU,hP,hUC]
     rw [this]; exact o16
  ·simp (disch:=omega) [-Tryz.st84,-Tryz.ld84,-Tryz.al84]
   exact H0 _ (E5.trans e6) (fun b' o' L' e1 e2 e3 _=>by rw [←Int.ofNat.inj e1,←Int.ofNat.inj e2,←Int.ofNat.inj e3]; exact hM)
end Go.Proofs.YtdccfkffabngjaaGreat
set_option linter.unusedSimpArgs false
set_option linter.unusedVariables false
set_option maxRecDepth 20000
namespace Go.Proofs.YtdccfkffabngjaaGreat
open Go.Vc
variable {K:VP} {h:Heap}

def imgV (bits order long size:Int):Value := .agg #[.int .i64 bits,.int .i64 order,.int .i64 long,.int .i64 size]
def mdF (B:List UInt8):Fs:=((⟨⟨nA,[],[]⟩,[],1⟩:Fs).write 0 B).flush
theorem mdF_ok {B:List UInt8} (h:B.length≤268435456):(mdF B).f.ok:=Fs.flush_ok (Fs.write_ok (p:=⟨⟨nA,[],[]⟩,[],1⟩) ⟨by decide,fun p hp=>by cases hp⟩ omg)
theorem mdF_now {B:List UInt8} (h:B.length≤268435456) (hB:B≠[]):(mdF B).f.now=B:=by
 unfold mdF
 rw [Fs.flush_now,Fs.write_now (p:=⟨⟨nA,[],[]⟩,[],1⟩) ⟨by decide,fun p hp=>by cases hp⟩ rfl omg hB]
 show Vc.over (growL [] (0+B.length)) 0 B=B
 have hl:=growL_len [] (0+B.length)
 simp only [List.length_nil] at hl
 have:=part_is (B:=growL [] (0+B.length)) (x:=B) (k:=0) omg
 have h2:(Vc.over (growL [] (0+B.length)) 0 B).length=B.length:=by rw [over_len omg,hl]; omega
 unfold part at this
 rw [List.drop_zero,List.take_of_length_le omg] at this
 exact this
set_option maxHeartbeats 4000000 in
theorem made_c {bits order long size:Int} {fv:Value} {fs:List (Int×Int)} (rb : -9223372036854775808≤bits∧bits<9223372036854775808) (ro : -9223372036854775808≤order∧order<9223372036854775808) (rs : -9223372036854775808≤size∧size<9223372036854775808) (rl : -9223372036854775808≤long∧long<9223372036854775808)
 (hf:Fas h fv fs) (hfl:fs.length<100000) (hr:fs.all rightF=true)
 (H0:∀h',Ext h h'→(∀b o L:Nat,bits=b→order=o→long=L→LayOk bits order size long→¬MayH (layH b o L size))→K (.tuple #[.pointer none,.bool false]) h')
 (H1:∀(b o L:Nat) h' sp s,bits=b→order=o→long=L→LayOk bits order size long→(layG b o L size).ok→HdOk (layG b o L size) (layH b o L size)→Ext h h'→StAt h' sp s→FsAt s ⟨(mdF ((layG b o L size).laidB (layH b o L size))).f,fs,3⟩→(∀b,s.foot sp b→h.size≤b)→K (.tuple #[ptrV sp,.bool true]) h') :
 CallsH Tryz.prog 8 #[imgV bits order long size,fv] h K ⟨⟩:=by
 refine n8_calls ?_
 unfold n8 imgV; try delta vF vG vC vD vJ vV vk vt
 simp (disch:=omega)
 refine (⟨_,rfl⟩:∃g,g=h.push (.cells #[.int .i64 bits,.int .i64 order,.int .i64 long,.int .i64 size] 23)).elim fun h1 eh1 => ?_
 have e1:Ext h h1:=by rw [eh1]; exact extS
 rw [←eh1]
 clear eh1
 refine Lay_c rb ro rs rl (fun h2 e2 hno => ?_) (fun b o L h2 v hb ho hL hok kk hd e2 ov fv2 => ?_)
 ·simp (disch:=omega)
  exact H0 _ (e1.trans e2) hno
 ·simp (disch:=omega)
  obtain ⟨g,hg⟩:∃g,layG b o L size=g:=⟨_,rfl⟩
  obtain ⟨x,hx⟩:∃x,layH b o L size=x:=⟨_,rfl⟩
  have H1':=H1 b o L
  rw [hg] at kk
  rw [hg,hx] at hd ov H1'
  obtain ⟨I,La⟩:=laid_img kk hd
  obtain ⟨B,hB⟩:∃B,g.laidB x=B:=⟨_,rfl⟩
  rw [hB] at ov I La H1'
  have hfew:=I.few
  have hne:B≠[]:=fun e=>by
   have:=I.len
   have:=Nat.mul_le_mul kk.u0 (Nat.le_refl g.c)
   obtain ⟨q,hq,hq1,-⟩:=kk.c512
   rw [e,List.length_nil] at *
   have:g.c≤g.u*g.c:=Nat.le_mul_of_pos_left _ (by have:=kk.u0; omega)
   omega
  refine New_c (fs:=[]) ⟨.inl ⟨rfl,rfl,rfl⟩,⟨none,0,rfl,Nat.le_refl _⟩,by decide,fun f hf=>by cases hf⟩ dM (fun h3 e3 hr3=>absurd hr3 dM) (fun h3 sp s e3 _ hF hfa hst hsp hfoot a3 => ?_)
  simp (disch:=omega)
  have hc0:cErr s nA=0:=by
   unfold cErr St.get
   rw [if_pos okN_A,hF]; rfl
  rw [show str [97]=str nA from rfl]
  refine Create_c a3 dM (by rw [hst]; decide) (fun h4 e4 hne4=>absurd hc0 hne4) (fun h4 fv4 _ hne4 _=>by rw [hfa] at hne4; exact absurd rfl hne4) (fun h4 fv4 b4 _ _ _ _ u4 => ?_)
  have f4:FsAt { s.stepped fv4 with F:=s.F++[newFh nA b4] } ⟨⟨nA,[],[]⟩,[],1⟩:=⟨by show s.fates.tail=[]; rw [hfa]; rfl,by show s.steps+1=1; rw [hst],newFh nA b4,by show s.F++_=_; rw [hF]; rfl,rfl,rfl⟩
  obtain ⟨s4,hs4⟩:∃s4,{ s.stepped fv4 with F:=s.F++[newFh nA b4] }=s4:=⟨_,rfl⟩
  rw [hs4] at u4 f4
  clear hs4
  have hz2:=e2.size
  have hz3:=e3.size
  have hz4:=u4.mod.size
  have foot4:∀c,s4.foot sp c→h2.size≤c:=fun c hc=>(u4.foot c hc).elim (hfoot c) (fun x=>by omega)
  have e24:Ext h2 h4:=u4.mod.ext_from e3 (fun b hb hs=>by have:=hfoot b hs; omega)
  have ov4:Bytes h4 v B:=ov.bytes.ext e24
  refine sWrite_c (k:=0) u4.st f4 ov4 hfew (fun _ c hc hs=>by have:=foot4 c hs; have:=ov.lt hc; omega) omg omg dM fun h5 s5 u5 f5 => ?_
  refine sFlush_c u5.st f5 (by show (2:Nat)+1<1000000; omega) fun h6 s6 u6 f6 => ?_
  have z1:=e1.size
  have z5:=u5.mod.size
  have foot5:∀c,s5.foot sp c→h2.size≤c:=fun c hc=>(u5.foot c hc).elim (foot4 c) (fun x=>by omega)
  have e25:Ext h2 h5:=u5.mod.ext_from e24 (fun b hb hs=>by have:=foot4 b hs; omega)
  have z6:=u6.mod.size
  have foot6:∀c,s6.foot sp c→h2.size≤c:=fun c hc=>(u6.foot c hc).elim (foot5 c) (fun x=>by omega)
  have e26:Ext h2 h6:=u6.mod.ext_from e25 (fun b hb hs=>by have:=foot5 b hs; omega)
  have E6:=(e1.trans e2).trans e26
  have hfa6:s6.fates=[]:=f6.1
  refine Feed_c u6.st (hf.ext E6) (by rw [hfa6]; simp; omega) (fun h7 e7 hr7=>by rw [hr] at hr7; cases hr7) (fun h7 fv7 _ u7 => ?_)
  have E7:Ext h h7:=u7.mod.ext_from E6 (fun b hb hs=>by have:=foot6 b hs; omega)
  refine H1' h7 sp _ hb ho hL hok kk hd E7 u7.st ⟨?_,f6.2.1,f6.2.2⟩ (fun c hc=>(u7.foot c hc).elim (fun x=>by have:=foot6 c x; omega) (fun x=>by omega))
  show s6.fates++fs=fs
  rw [hfa6]; rfl
end Go.Proofs.YtdccfkffabngjaaGreat
set_option linter.unusedSimpArgs false
set_option linter.unusedVariables false
namespace Go.Proofs.YtdccfkffabngjaaGreat
open Go.Vc

structure Calm (p p':Fs) (n:Nat):Prop where
 ok:p'.f.ok
 stp:p'.steps≤p.steps+n
 nil:p'.fates=[]
structure Took (g:Gm) (x:Hd) (st nn:Nat) (B B':List UInt8):Prop where
 img:Img g x B'
 len:B.length≤B'.length
 fit:(st+nn)*g.c≤B'.length
 wd:∀j,j<g.m→g.word B j≠0→g.word B' j=g.word B j
 wdr:∀k,st≤k→k<st+nn→g.word B' (k/g.n)≠0
 inn:∀k,st≤k→k<st+nn→g.cnt B' k=1
 out:∀k,k/g.n<g.m→¬(st≤k∧k<st+nn)→g.cnt B' k=g.cnt B k∨g.cnt B k=0∧g.cnt B' k=1∧k%g.n=0∧g.word B (k/g.n)=0
theorem took_of {g:Gm} {x:Hd} {p p':Fs} {st nn:Nat} {e:Int} (kk:g.ok) (o:p.f.ok) (I:Img g x p.f.now) (hn:p.fates=[]) (hr:st+nn≤g.room) (hfr:g.frees p.f.now st nn) (hf:(st+nn)*g.c≤268435456) (A:AEnd g st nn p p' e) :
 e=0∧Calm p p' (nn*(5+g.c/512)+2)∧p'.f.ps=[]∧Took g x st nn p.f.now p'.f.now:=by
 have h0:(growF g ((st+nn)*g.c) p).2=0:=growF_nil hn
 obtain ⟨I1,w1,c1,l1,l1'⟩:=grow_run kk o I hf h0
 have S1:Stp1 p (growF g ((st+nn)*g.c) p).1 1:=growF_stp kk o (by rw [up_id kk]; exact hf)
 rcases A with ⟨h1,h2⟩|⟨ks,bs,-,Q,h1⟩
 ·rw [h2] at h0; exact absurd h0 h1
 obtain ⟨S2,z2,A2⟩:=Q.all kk S1.ok I1
 have hn1:=S1.nil hn
 have hz:=z2 hn1
 rw [runL_len] at S2
 rcases h1 with ⟨h1,h2⟩|⟨-,h2,h3⟩
 ·rw [h2] at hz; exact absurd hz h1
 obtain ⟨D,hD,Af⟩:=A2 hz
 generalize (growF g ((st+nn)*g.c) p).1=p1 at *
 generalize hp2:(addF g 1 (cntZ (runL st nn)) ks bs p1).1=p2 at *
 have hn2:=S2.nil hn1
 have e2:=e_nil hn2
 subst h2
 refine ⟨h3.trans e2,⟨Fs.flush_ok S2.ok,?_,tail_nil hn2⟩,Fs.flush_ps e2,?_⟩
 ·have:=S1.stp; have:=S2.stp
  show p2.steps+1≤_; omega
 rw [Fs.flush_now]
 have hin:∀k,st≤k→k<st+nn→k/g.n<g.m:=fun k hk1 hk2=>by
  have:k<g.room:=by omega
  rw [Nat.div_lt_iff_lt_mul (by have:=kk.n64; omega)]; exact this
 have hD1:∀k,st≤k→k<st+nn→k/g.n∈D:=fun k hk1 hk2=>(hD _).2 ((Q.bmem _).2 ⟨k,(Q.mem k).2 (runL_mem.2 ⟨hk1,hk2⟩),rfl⟩)
 refine ⟨Af.img,Nat.le_trans l1' Af.len,Nat.le_trans l1 Af.len,fun j hj hw => ?_,fun k hk1 hk2=>Af.wd1 _ (hin k hk1 hk2) (hD1 k hk1 hk2),fun k hk1 hk2 => ?_,fun k hk hout => ?_⟩
 ·have hw1:g.word p1.f.now j≠0:=by rw [w1 j hj]; exact hw
  by_cases hjD:j∈D
  ·rw [(Af.img.wi j hj (Af.wd1 j hj hjD)).1,←(I.wi j hj hw).1]
  ·rw [Af.wd0 j hj hjD,w1 j hj]
 ·have hm:=hin k hk1 hk2
  have h1:=Af.cnt k hm
  obtain ⟨f1,f2⟩:=hfr k hk1 hk2
  rw [if_pos (hD1 k hk1 hk2),if_pos ((Q.mem k).2 (runL_mem.2 ⟨hk1,hk2⟩)),runL_cnt,if_pos ⟨hk1,hk2⟩] at h1
  unfold Gm.base at h1
  rw [w1 _ hm,if_neg f2,c1 k hm,f1] at h1
  omega
 ·have h1:=Af.cnt k hk
  have hks:k∉ks:=fun hh=>hout (runL_mem.1 ((Q.mem k).1 hh))
  rw [if_neg hks] at h1
  rw [c1 k hk] at h1
  split at h1
  ·unfold Gm.base at h1
   rw [w1 _ hk] at h1
   split at h1
   ·rename_i hb
    right
    have h4:g.cnt p.f.now k=0:=by unfold Gm.cnt; rw [if_pos hb.1]
    exact ⟨h4,by omega,hb.2,hb.1⟩
   ·left; rw [c1 k hk] at h1; omega
  ·left; omega
theorem Took.unheld {g:Gm} {x:Hd} {st nn:Nat} {B B':List UInt8} (kk:g.ok) (I:Img g x B) (T:Took g x st nn B B') (hfr:g.frees B st nn) (hr:st+nn≤g.room) {k:Nat} (h1:st≤k) (h2:k<st+nn):¬g.hold B' k:=fun hh=>by
 obtain ⟨f1,f2⟩:=hfr k h1 h2
 rcases hh with hh|⟨i,hi0,him,hiw,rfl⟩
 ·have:=I.cov k (.inl hh); omega
 ·obtain ⟨q1,q2⟩:=cl_div kk hi0
  by_cases hw:g.word B i=0
  ·exact f2 ⟨by rw [q1]; exact hw,q2⟩
  ·have:=I.cov _ (.inr ⟨i,hi0,him,hw,rfl⟩); omega
structure Gave (g:Gm) (x:Hd) (st nn:Nat) (B B':List UInt8):Prop where
 img:Img g x B'
 len:B.length≤B'.length
 wd:∀j,j<g.m→(g.word B' j=0↔g.word B j=0)
 cnt:∀k,k/g.n<g.m→g.cnt B k=g.cnt B' k+if st≤k∧k<st+nn then 1 else 0
theorem gave_of {g:Gm} {x:Hd} {p:Fs} {st nn:Nat} {ks bs:List Nat} (kk:g.ok) (o:p.f.ok) (I:Img g x p.f.now) (hn:p.fates=[]) (Q:Asked g (-1) (runL st nn) p.f.now ks bs) :
 (addF g (-1) (cntZ (runL st nn)) ks bs p).2=0∧Calm p (addF g (-1) (cntZ (runL st nn)) ks bs p).1 (nn*(5+g.c/512))∧Gave g x st nn p.f.now (addF g (-1) (cntZ (runL st nn)) ks bs p).1.f.now:=by
 obtain ⟨S,z,A⟩:=Q.all kk o I
 have hz:=z hn
 rw [runL_len] at S
 obtain ⟨D,hD,Af⟩:=A hz
 generalize (addF g (-1) (cntZ (runL st nn)) ks bs p).1=p1 at *
 have hcnt:∀k∈ks,1≤g.cnt p.f.now k:=fun k hk=>by
  have:=(Q.ad.fit k hk).1
  rw [runL_cnt,if_pos (runL_mem.1 ((Q.mem k).1 hk))] at this
  omega
 have hDw:∀j∈D,g.word p.f.now j≠0:=fun j hj=>by
  obtain ⟨k,hk,rfl⟩:=(Q.bmem j).1 ((hD j).1 hj)
  intro h0
  have:=hcnt k hk
  unfold Gm.cnt at this
  rw [if_pos h0] at this; omega
 refine ⟨hz,⟨S.ok,S.stp,S.nil hn⟩,⟨Af.img,Af.len,fun j hj => ?_,fun k hk => ?_⟩⟩
 ·by_cases hjD:j∈D
  ·exact ⟨fun h=>absurd h (Af.wd1 j hj hjD),fun h=>absurd h (hDw j hjD)⟩
  ·rw [Af.wd0 j hj hjD]
 ·have h1:=Af.cnt k hk
  by_cases hks:k∈ks
  ·have hr:=runL_mem.1 ((Q.mem k).1 hks)
   have hkD:k/g.n∈D:=(hD _).2 ((Q.bmem _).2 ⟨k,hks,rfl⟩)
   rw [if_pos hkD,if_pos hks,runL_cnt,if_pos hr] at h1
   unfold Gm.base at h1
   rw [if_neg (fun hh=>hDw _ hkD hh.1)] at h1
   rw [if_pos hr]; omega
  ·have hr:¬(st≤k∧k<st+nn):=fun hh=>hks ((Q.mem k).2 (runL_mem.2 hh))
   rw [if_neg hks] at h1
   rw [if_neg hr]
   split at h1
   ·rename_i hkD
    unfold Gm.base at h1
    rw [if_neg (fun hh=>hDw _ hkD hh.1)] at h1
    omega
   ·omega
theorem hold_same {g:Gm} {B B':List UInt8} (hw:∀j,j<g.m→(g.word B' j=0↔g.word B j=0)) {k:Nat} (hh:g.hold B' k):g.hold B k :=
 hh.imp id fun ⟨i,h1,h2,h3,h4⟩=>⟨i,h1,h2,fun e=>h3 ((hw i h2).2 e),h4⟩
theorem gHold_le {H:List Nat} {b:Nat}:∀a,a≤b→(∀k∈H,k+1≤b)→H.foldl (fun a k=>max a (k+1)) a≤b:=by
 induction H with
 | nil=>intro a ha _; exact ha
 | cons k H ih =>
  intro a ha hH
  exact ih (max a (k+1)) (by have:=hH k List.mem_cons_self; omega) (fun j hj=>hH j (List.mem_cons_of_mem _ hj))
theorem gBlk_le {n b:Nat} {Bk:List Nat} {a:Nat} (ha:a≤b):∀j,(∀i,i<j→Bk.getD i 0≠0→(i+1)*n≤b)→gBlk n a Bk j≤b
 | 0,_=>ha
 | j+1,h=>by
  have ih:=gBlk_le (n:=n) (Bk:=Bk) ha j (fun i hi=>h i omg)
  unfold gBlk at ih ⊢
  rw [List.range_succ,List.foldl_append,List.foldl_cons,List.foldl_nil]
  split
  ·exact ih
  ·rename_i hne
   have:=h j omg hne
   omega
theorem endG_le {g:Gm} {B:List UInt8} (kk:g.ok):g.endG B≤g.room:=by
 have hn:=kk.n64
 unfold Gm.endG Gm.grt
 refine gBlk_le (gHold_le 0 (Nat.zero_le _) fun k hk => ?_) _ (fun i hi _ => ?_)
 ·have h1:=kk.hold_lt (allH_hold kk hk)
  rw [Nat.div_lt_iff_lt_mul omg] at h1
  exact h1
 ·rw [List.length_map,List.length_range] at hi
  exact Nat.mul_le_mul_right _ hi
end Go.Proofs.YtdccfkffabngjaaGreat
set_option linter.unusedSimpArgs false
set_option linter.unusedVariables false
namespace Go.Proofs.YtdccfkffabngjaaGreat
open Go.Vc

def inR (r:Nat×Nat) (k:Nat):Prop:=r.1≤k∧k<r.1+r.2
def apartR (a b:Nat×Nat):Prop:=a.1+a.2≤b.1∨b.1+b.2≤a.1
structure Mine (g:Gm) (B:List UInt8) (M:List (Nat×Nat)):Prop where
 ok:∀r∈M,1≤r.1∧1≤r.2∧r.2≤200∧r.1+r.2≤g.room
 cnt:∀r∈M,∃v,1≤v∧∀k,inR r k→g.cnt B k=v
 unh:∀r∈M,∀k,inR r k→¬g.hold B k
 ap:M.Pairwise apartR
theorem Mine.nil (g:Gm) (B:List UInt8):Mine g B []:=⟨fun r h=>(by cases h),fun r h=>(by cases h),fun r h=>(by cases h),.nil⟩
theorem Mine.one {g:Gm} {B:List UInt8} {M:List (Nat×Nat)} (a:Mine g B M) {r:Nat×Nat} (hr:r∈M) {k:Nat} (hk:inR r k):1≤g.cnt B k:=by
 obtain ⟨v,hv,hc⟩:=a.cnt r hr
 rw [hc k hk]; exact hv
theorem Mine.first {g:Gm} {B:List UInt8} {M:List (Nat×Nat)} (a:Mine g B M) {r:Nat×Nat} (hr:r∈M) {k:Nat} (hk:inR r k):g.cnt B k=g.cnt B r.1:=by
 obtain ⟨v,hv,hc⟩:=a.cnt r hr
 have:=(a.ok r hr).2.1
 rw [hc k hk,hc r.1 ⟨Nat.le_refl _,by omega⟩]
theorem Mine.lt {g:Gm} {B:List UInt8} {M:List (Nat×Nat)} (kk:g.ok) (a:Mine g B M) {r:Nat×Nat} (hr:r∈M) {k:Nat} (hk:inR r k):k/g.n<g.m:=by
 have h1:=(a.ok r hr).2.2.2
 have:k<g.room:=by have:=hk.2; omega
 rw [Nat.div_lt_iff_lt_mul (by have:=kk.n64; omega)]; exact this
theorem Mine.word {g:Gm} {B:List UInt8} {M:List (Nat×Nat)} (a:Mine g B M) {r:Nat×Nat} (hr:r∈M) {k:Nat} (hk:inR r k):g.word B (k/g.n)≠0:=fun e=>by
 have:=a.one hr hk
 unfold Gm.cnt at this
 rw [if_pos e] at this; omega
theorem hold_new {g:Gm} {x:Hd} {B B':List UInt8} {k:Nat} (kk:g.ok) (hh:g.hold B' k):g.hold B k∨g.cnt B k=0:=by
 rcases hh with hh|⟨i,hi0,him,hiw,rfl⟩
 ·exact .inl (.inl hh)
 ·by_cases hw:g.word B i=0
  ·right
   unfold Gm.cnt
   rw [(cl_div kk hi0).1,if_pos hw]
  ·exact .inl (.inr ⟨i,hi0,him,hw,rfl⟩)
theorem Mine.keep {g:Gm} {x:Hd} {B B':List UInt8} {M:List (Nat×Nat)} (kk:g.ok) (a:Mine g B M) (hc:∀r∈M,∀k,inR r k→g.cnt B' k=g.cnt B k):Mine g B' M:=by
 refine ⟨a.ok,fun r hr => ?_,fun r hr k hk hh => ?_,a.ap⟩
 ·obtain ⟨v,hv,h1⟩:=a.cnt r hr
  exact ⟨v,hv,fun k hk=>by rw [hc r hr k hk,h1 k hk]⟩
 ·rcases hold_new (x:=x) (B:=B) kk hh with h|h
  ·exact a.unh r hr k hk h
  ·have:=a.one hr hk; omega
theorem Mine.took {g:Gm} {x:Hd} {st nn:Nat} {B B':List UInt8} {M:List (Nat×Nat)} (kk:g.ok) (I:Img g x B) (a:Mine g B M) (T:Took g x st nn B B') (hfr:g.frees B st nn) (hr:st+nn≤g.room) (h1:1≤st) (n1:1≤nn) (n2:nn≤200) :
 Mine g B' (M++[(st,nn)])∧∀r∈M,apartR r (st,nn):=by
 have hno:∀r∈M,∀k,inR r k→¬(st≤k∧k<st+nn):=fun r hr k hk hh=>by
  have:=a.one hr hk
  have:=(hfr k hh.1 hh.2).1; omega
 have hap:∀r∈M,apartR r (st,nn):=fun r hr=>by
  have h2:=(a.ok r hr).2.1
  by_cases h3:r.1≤st
  ·by_cases h4:r.1+r.2≤st
   ·exact .inl h4
   ·exact absurd ⟨Nat.le_refl _,by omega⟩ (hno r hr st ⟨h3,by omega⟩)
  ·by_cases h4:st+nn≤r.1
   ·exact .inr h4
   ·exact absurd ⟨by omega,by omega⟩ (hno r hr r.1 ⟨Nat.le_refl _,by omega⟩)
 have b:=a.keep (x:=x) (B':=B') kk fun r hr k hk=>by
  rcases T.out k (a.lt kk hr hk) (hno r hr k hk) with h|⟨h,-⟩
  ·exact h
  ·have:=a.one hr hk; omega
 refine ⟨⟨fun r hr => ?_,fun r hr => ?_,fun r hr k hk => ?_,?_⟩,hap⟩
 ·rcases List.mem_append.1 hr with hr|hr
  ·exact a.ok r hr
  ·rw [List.mem_singleton.1 hr]; exact ⟨h1,n1,n2,by assumption⟩
 ·rcases List.mem_append.1 hr with hr|hr
  ·exact b.cnt r hr
  ·rw [List.mem_singleton.1 hr]; exact ⟨1,Nat.le_refl _,fun k hk=>T.inn k hk.1 hk.2⟩
 ·rcases List.mem_append.1 hr with hr|hr
  ·exact b.unh r hr k hk
  ·rw [List.mem_singleton.1 hr] at hk
   exact T.unheld kk I hfr (by assumption) hk.1 hk.2
 ·rw [List.pairwise_append]
  exact ⟨a.ap,List.pairwise_singleton _ _,fun r hr s hs=>by rw [List.mem_singleton.1 hs]; exact hap r hr⟩
structure Rose (g:Gm) (x:Hd) (by_:Int) (st nn:Nat) (B B':List UInt8):Prop where
 img:Img g x B'
 wd:∀j,j<g.m→(g.word B' j=0↔g.word B j=0)
 cnt:∀k,k/g.n<g.m→((g.cnt B' k:Nat):Int)=((g.cnt B k:Nat):Int)+if st≤k∧k<st+nn then by_ else 0
theorem rose_of {g:Gm} {x:Hd} {p:Fs} {by_:Int} {st nn:Nat} {ks bs:List Nat} (kk:g.ok) (o:p.f.ok) (I:Img g x p.f.now) (hn:p.fates=[]) (Q:Asked g by_ (runL st nn) p.f.now ks bs) (hc:∀k,st≤k→k<st+nn→1≤g.cnt p.f.now k) :
 (addF g by_ (cntZ (runL st nn)) ks bs p).2=0∧Calm p (addF g by_ (cntZ (runL st nn)) ks bs p).1 (nn*(5+g.c/512))∧Rose g x by_ st nn p.f.now (addF g by_ (cntZ (runL st nn)) ks bs p).1.f.now:=by
 obtain ⟨S,z,A⟩:=Q.all kk o I
 have hz:=z hn
 rw [runL_len] at S
 obtain ⟨D,hD,Af⟩:=A hz
 generalize (addF g by_ (cntZ (runL st nn)) ks bs p).1=p1 at *
 have hDw:∀j∈D,g.word p.f.now j≠0:=fun j hj=>by
  obtain ⟨k,hk,rfl⟩:=(Q.bmem j).1 ((hD j).1 hj)
  intro h0
  have hr:=runL_mem.1 ((Q.mem k).1 hk)
  have:=hc k hr.1 hr.2
  unfold Gm.cnt at this
  rw [if_pos h0] at this; omega
 refine ⟨hz,⟨S.ok,S.stp,S.nil hn⟩,⟨Af.img,fun j hj => ?_,fun k hk => ?_⟩⟩
 ·by_cases hjD:j∈D
  ·exact ⟨fun h=>absurd h (Af.wd1 j hj hjD),fun h=>absurd h (hDw j hjD)⟩
  ·rw [Af.wd0 j hj hjD]
 ·have h1:=Af.cnt k hk
  by_cases hks:k∈ks
  ·have hr:=runL_mem.1 ((Q.mem k).1 hks)
   have hkD:k/g.n∈D:=(hD _).2 ((Q.bmem _).2 ⟨k,hks,rfl⟩)
   rw [if_pos hkD,if_pos hks,runL_cnt,if_pos hr] at h1
   unfold Gm.base at h1
   rw [if_neg (fun hh=>hDw _ hkD hh.1)] at h1
   rw [if_pos hr,h1]; simp
  ·have hr:¬(st≤k∧k<st+nn):=fun hh=>hks ((Q.mem k).2 (runL_mem.2 hh))
   rw [if_neg hks] at h1
   rw [if_neg hr]
   split at h1
   ·rename_i hkD
    unfold Gm.base at h1
    rw [if_neg (fun hh=>hDw _ hkD hh.1)] at h1
    omega
   ·omega
theorem apart_in {M:List (Nat×Nat)} (h:M.Pairwise apartR) (hp:∀r∈M,1≤r.2) {i j:Nat} (hi:i<M.length) (hj:j<M.length) (hne:i≠j) {k:Nat} (h1:inR M[i] k):¬inR M[j] k:=fun h2=>by
 have key:∀a b:Nat×Nat,apartR a b→inR a k→inR b k→False:=fun a b hab ha hb=>by
  unfold apartR at hab; unfold inR at ha hb; omega
 rcases Nat.lt_or_gt_of_ne hne with h3|h3
 ·exact key _ _ (List.pairwise_iff_getElem.1 h i j hi hj h3) h1 h2
 ·exact key _ _ (List.pairwise_iff_getElem.1 h j i hj hi h3) h2 h1
theorem mem_erase {M:List (Nat×Nat)} {i:Nat} {r:Nat×Nat} (h:r∈M.take i++M.drop (i+1)):∃j,∃hj:j<M.length,j≠i∧r=M[j]:=by
 rcases List.mem_append.1 h with h|h
 ·obtain ⟨j,hj,rfl⟩:=List.getElem_of_mem h
  rw [List.length_take] at hj
  exact ⟨j,by omega,by omega,List.getElem_take⟩
 ·obtain ⟨j,hj,rfl⟩:=List.getElem_of_mem h
  rw [List.length_drop] at hj
  exact ⟨i+1+j,by omega,by omega,List.getElem_drop⟩
theorem Mine.rose {g:Gm} {x:Hd} {by_:Int} {B B':List UInt8} {M:List (Nat×Nat)} (kk:g.ok) (a:Mine g B M) {i:Nat} (hi:i<M.length) (R:Rose g x by_ M[i].1 M[i].2 B B') :
 ((g.cnt B' M[i].1:Nat):Int)=((g.cnt B M[i].1:Nat):Int)+by_∧(g.cnt B' M[i].1≠0→Mine g B' M)∧Mine g B' (M.take i++M.drop (i+1)):=by
 have hmem:=List.getElem_mem hi
 have hok:=a.ok _ hmem
 have hp:∀r∈M,1≤r.2:=fun r hr=>(a.ok r hr).2.1
 have hin:∀k,inR M[i] k→((g.cnt B' k:Nat):Int)=((g.cnt B k:Nat):Int)+by_:=fun k hk=>by
  have:=R.cnt k (a.lt kk hmem hk)
  rw [if_pos (show M[i].1≤k∧k<M[i].1+M[i].2 from hk)] at this; exact this
 have hout:∀k,k/g.n<g.m→¬inR M[i] k→g.cnt B' k=g.cnt B k:=fun k hk hn=>by
  have:=R.cnt k hk
  rw [if_neg (show ¬(M[i].1≤k∧k<M[i].1+M[i].2) from hn)] at this; omega
 have hunh:∀r∈M,∀k,inR r k→¬g.hold B' k:=fun r hr k hk hh=>a.unh r hr k hk (hold_same R.wd hh)
 have hf:inR M[i] M[i].1:=⟨Nat.le_refl _,by omega⟩
 have hother:∀(j:Nat) (hj:j<M.length),j≠i→∃v,1≤v∧∀k,inR M[j] k→g.cnt B' k=v:=fun j hj hne=>by
  obtain ⟨v,hv,h1⟩:=a.cnt _ (List.getElem_mem hj)
  exact ⟨v,hv,fun k hk=>by rw [hout k (a.lt kk (List.getElem_mem hj) hk) (apart_in a.ap hp hj hi hne hk),h1 k hk]⟩
 refine ⟨hin _ hf,fun hne=>⟨a.ok,fun r hr => ?_,hunh,a.ap⟩,⟨fun r hr => ?_,fun r hr => ?_,fun r hr => ?_,?_⟩⟩
 ·obtain ⟨j,hj,rfl⟩:=List.getElem_of_mem hr
  by_cases e:j=i
  ·subst e
   refine ⟨g.cnt B' M[j].1,by omega,fun k hk => ?_⟩
   have h1:=hin k hk
   have h2:=hin _ hf
   rw [a.first hmem hk] at h1
   omega
  ·exact hother j hj e
 ·obtain ⟨j,hj,-,rfl⟩:=mem_erase hr
  exact a.ok _ (List.getElem_mem hj)
 ·obtain ⟨j,hj,hne,rfl⟩:=mem_erase hr
  exact hother j hj hne
 ·obtain ⟨j,hj,hne,rfl⟩:=mem_erase hr
  exact hunh _ (List.getElem_mem hj)
 ·have hs:(M.take i++M.drop (i+1)).Sublist M:=by
   conv=>rhs; rw [←List.take_append_drop i M]
   exact List.Sublist.append (List.Sublist.refl _) (by rw [show i+1=i+1 from rfl,←List.drop_drop]; exact List.drop_sublist _ _)
  exact a.ap.sublist hs
end Go.Proofs.YtdccfkffabngjaaGreat
set_option linter.unusedSimpArgs false
set_option linter.unusedVariables false
set_option maxRecDepth 20000
namespace Go.Proofs.YtdccfkffabngjaaGreat
open Go.Vc
variable {K:VP} {h:Heap}

theorem openNil_c {l:List UInt8} (H:K (.tuple #[.pointer none,.int .i64 1]) h):CallsH Tryz.prog 9 #[.pointer none,str l] h K ⟨⟩:=by
 refine n9_calls ?_
 unfold n9; try delta vF vG vC vD vJ vV vk vt
 refine n33_calls ?_
 unfold n33; try delta vF vG vC vD vJ vV vk vt
 refine n38_calls ?_
 unfold n38; try delta vF vG vC vD vJ vV vk vt
 refine n80_calls ?_
 unfold n80; try delta vF vG vC vD vJ vV vk vt
 refine none_nil ?_
 simp (disch:=omega)
 exact H
def gK:Gm:=layG 9 4 1 1024
theorem gK_c:gK.c=512:=by decide
theorem gK_n:gK.n=256:=by decide
theorem gK_u:gK.u=4:=by decide
theorem gK_room:gK.room=16384:=by decide
theorem hK_may:MayH (layH 9 4 1 1024):=of_decide_eq_true kR
set_option maxHeartbeats 4000000 in
theorem known_c (H:∀h',Ext h h'→K (.bool true) h'):CallsH Tryz.prog 7 #[] h K ⟨⟩:=by
 refine n7_calls ?_
 unfold n7; try delta vF vG vC vD vJ vV vk vt
 simp (disch:=omega)
 rw [show (Value.agg #[.int .i64 9,.int .i64 4,.int .i64 1,.int .i64 1024])=imgV 9 4 1 1024 from rfl]
 refine made_c (fs:=[]) dM dM dM dM ⟨.inl ⟨rfl,rfl,rfl⟩,⟨none,0,rfl,Nat.le_refl _⟩,by decide,fun f hf=>by cases hf⟩ dM rfl (fun h1 e1 hno=>absurd hK_may (hno 9 4 1 rfl rfl rfl (by unfold LayOk; decide))) fun b o L h1 sp s hb ho hL _ kk hd e1 a1 f1 foot1 => ?_
 obtain rfl:b=9:=by omega
 obtain rfl:o=4:=by omega
 obtain rfl:L=1:=by omega
 have hg:layG 9 4 1 1024=gK:=rfl
 rw [hg] at kk hd f1
 obtain ⟨x,hx⟩:∃x,layH ((9:Nat)) ((4:Nat)) ((1:Nat)) 1024=x:=⟨_,rfl⟩
 rw [hx] at hd f1
 obtain ⟨I,La⟩:=laid_img kk hd
 obtain ⟨B,hB⟩:∃B,gK.laidB x=B:=⟨_,rfl⟩
 rw [hB] at I La f1
 have hfew:=I.few
 have hc:=gK_c
 have hn:=gK_n
 have hu:=gK_u
 have hroom:=gK_room
 have hlen:=La.len
 have hne:B≠[]:=fun e=>by rw [e,hc,hu] at hlen; cases hlen
 obtain ⟨p,hp⟩:∃p:Fs,⟨(mdF B).f,[],3⟩=p:=⟨_,rfl⟩
 have pn:p.f.now=B:=by rw [←hp]; exact mdF_now hfew hne
 have pf:p.fates=[]:=by rw [←hp]
 have ps:p.steps=3:=by rw [←hp]
 rw [hp] at f1
 rw [←pn] at I La
 simp (disch:=omega)
 rw [show str [97]=str nA from rfl]
 refine gOpen_c a1 f1 kk hd I fun h2 r e2 hr ra2 => ?_
 simp (disch:=omega)
 refine gAlloc_c (nn:=2) ra2 I omg omg (by rw [hc,ps]; decide) (fun h3 e3 hno => ?_) (fun h3 s3 p3 e st u3 f3 st1 st2 fr3 fit3 A3 => ?_)
 ·exfalso
  have:=hno 4 omg omg (fun q h1 h2 => ?_)
  ·omega
  ·have hq:=La.cnt q omg
   rw [if_neg omg] at hq
   exact ⟨hq,fun hh=>by rw [Nat.div_eq_of_lt omg] at hh; exact I.w0 hh.1⟩
 obtain ⟨rfl,C3,-,T3⟩:=took_of kk ra2.fok I pf st2 fr3 fit3 A3
 have ra3:=ra2.upd u3 f3
 have hdv:((st*gK.c:Nat):Int)/512=((st:Nat):Int):=by rw [hc]; omega
 have hmd:((st*gK.c:Nat):Int)%512=0:=by rw [hc]; omega
 have hpos:0<((st*gK.c:Nat):Int):=by rw [hc]; omega
 have hun:=fun k h1 h2=>T3.unheld kk I fr3 st2 (k:=k) h1 h2
 obtain ⟨P,hP⟩:∃P,((st*gK.c:Nat):Int)=P:=⟨_,rfl⟩
 have hPb:P≤268435456:=by rw [←hP]; omega
 rw [if_pos rfl]
 rw [hP] at hdv hmd hpos ⊢
 simp (disch:=omega) [hdv]
 refine gCount_c ra3 T3.img (fun h4 e4 hno=>absurd ⟨by omega,by omega⟩ hno) (fun h4 e4 _ _ => ?_)
 rw [Int.toNat_natCast,T3.inn st omg omg]
 have ra4:=ra3.ext e4
 simp (disch:=omega)
 refine gFree_c (st:=st) (nn:=2) ra4 T3.img omg omg hP.symm omg (fun k h1 h2 hh=>absurd hh (hun k h1 h2)) (by have:=C3.stp; rw [hc] at *; omega) (fun h5 e5 hno => ?_) (fun h5 e5 _ hk => ?_) (fun h5 s5 ks bs Q u5 f5 => ?_)
 ·exfalso
  refine hno fun k hk => ?_
  have:=runL_memI.1 hk
  omega
 ·exfalso
  obtain ⟨k,h1,h2,h3⟩:=hk
  have:=T3.inn k h1 h2
  omega
 obtain ⟨z5,C5,G5⟩:=gave_of kk ra4.fok T3.img C3.nil Q
 have ra5:=ra4.upd u5 f5
 rw [z5]
 obtain ⟨p5,hp5⟩:∃p5,(addF gK (-1) (cntZ (runL st 2)) ks bs p3).1=p5:=⟨_,rfl⟩
 rw [hp5] at G5 C5 f5 ra5
 simp (disch:=omega) [hdv]
 refine gCount_c ra5 G5.img (fun h6 e6 hno=>absurd ⟨by omega,by omega⟩ hno) (fun h6 e6 _ _ => ?_)
 have hst:st/gK.n<gK.m:=by
  have:st<gK.room:=by omega
  rw [Nat.div_lt_iff_lt_mul omg]; exact this
 have h0:=G5.cnt st hst
 rw [if_pos ⟨Nat.le_refl _,by omega⟩,T3.inn st omg omg] at h0
 rw [Int.toNat_natCast,show gK.cnt p5.f.now st=0 by omega]
 simp (disch:=omega)
 refine openNil_c ?_
 simp (disch:=omega) [hpos,hmd]
 have z1:=e1.size
 have z2:=e2.size
 have z3:=u3.mod.size
 have z4:=e4.size
 have E3:Ext h h3:=u3.mod.ext_from (e1.trans e2) (fun b hb hs=>by have:=foot1 b hs; omega)
 have E5:Ext h h5:=u5.mod.ext_from (E3.trans e4) (fun b hb hs=>by have:=(u3.foot b hs).elim (foot1 b) (fun x=>by omega); omega)
 exact H _ (E5.trans e6)
end Go.Proofs.YtdccfkffabngjaaGreat
set_option linter.unusedSimpArgs false
set_option linter.unusedVariables false
namespace Go.Proofs.YtdccfkffabngjaaGreat
open Go.Vc
variable {K:VP} {h:Heap}

def St.pend (s:St):Nat:=(s.F.map fun x=>x.f.ps.length).sum
end Go.Proofs.YtdccfkffabngjaaGreat
set_option linter.unusedSimpArgs false
set_option linter.unusedVariables false
namespace Go.Proofs.YtdccfkffabngjaaGreat
open Go.Vc
variable {K:VP} {h:Heap}

def inV (n:Int):Value := .int .i64 n
structure Its (h:Heap) (v:Value) (l:List Int):Prop where
 src:Src 1 h v l.length (l.map inV)
 form:∃a c,v = .slice a l.length c∧l.length≤c
 few:l.length<9223372036854775808
 ok:∀n∈l,-9223372036854775808≤n∧n<9223372036854775808
def pickB:List Int→Bool
 | []=>false
 | k::_=>decide (k%2=1)
def isT:Nat:=68
end Go.Proofs.YtdccfkffabngjaaGreat
set_option linter.unusedSimpArgs false
set_option linter.unusedVariables false
namespace Go.Proofs.YtdccfkffabngjaaGreat
open Go.Vc
variable {K:VP} {h:Heap}

def St.flOf (s:St) (n:List UInt8):Fl:=match s.get n with|some x=>x.f|none=>⟨n,[],[]⟩
def npc (fs:List Fl):Nat:=(fs.map fun f=>f.ps.length).sum
end Go.Proofs.YtdccfkffabngjaaGreat
set_option linter.unusedSimpArgs false
set_option linter.unusedVariables false
namespace Go.Proofs.YtdccfkffabngjaaGreat
open Go.Vc
variable {K:VP} {h:Heap}

def i64 (n:Int):Prop := -9223372036854775808≤n∧n<9223372036854775808
structure Stp where
 kind:Int
 n:Int
 at_:Int
 name:List UInt8
 bv:Value
 fv:Value
 pv:Value
 b:List UInt8
 fs:List (Int×Int)
 pl:List Int
def Stp.cells (x:Stp):List Value:=[.int .i64 x.kind,.int .i64 x.n,.int .i64 x.at_,str x.name,x.bv,x.fv,x.pv]
structure StpOk (h:Heap) (x:Stp):Prop where
 kind:i64 x.kind
 n:i64 x.n
 at_:i64 x.at_
 name:x.name.length<9223372036854775808
 b:Bytes h x.bv x.b
 bl:x.b.length<9223372036854775808
 fs:Fas h x.fv x.fs
 pl:Its h x.pv x.pl
structure Sps (h:Heap) (v:Value) (xs:List Stp):Prop where
 slc:Slc 7 h v (fun us x=>us=x.cells) xs
 ok:∀x∈xs,StpOk h x
 len:xs.length<9223372036854775808
theorem slc_ext {α:Type} {s:Nat} {h':Heap} {v:Value} {R:List Value→α→Prop} {xs:List α} (a:Slc s h v R xs) (e:Ext h h'):Slc s h' v R xs:=by
 rcases a with a|⟨a,c,h1,h2,h3⟩
 ·exact .inl a
 ·refine .inr ⟨a,c,h1,h2,fun i hi => ?_⟩
  obtain ⟨us,h4,h5,h6⟩:=h3 i hi
  exact ⟨us,h4,h5.ext e,h6⟩
section
open Go Go.ChangeShapes Go.WideShapes Go.ChangeAt Go.RowKit Go.Deep
variable {H:Type} {enc:TypeId×Value→H} {w:World} {base:Nat} {sp:Nat→Bool} {held:Bool}
theorem i64_of {n:Int} (h:IntKind.i64.min≤n∧n≤IntKind.i64.max):i64 n:=by
 have h1:IntKind.i64.min = -9223372036854775808:=by decide
 have h2:IntKind.i64.max=9223372036854775807:=by decide
 unfold i64; omega
theorem max63 {n:Nat} (h:n≤maxLen):n<9223372036854775808:=Nat.lt_of_le_of_lt h dM
theorem slc_ok {α:Type} {s:Nat} {h:Heap} {v:Value} {R:List Value→α→Prop} {q:α→Prop} {f:α→List Value} {xs:List α} (a:Slc s h v R xs) (hR:∀us x,R us x→us=f x∧q x):Slc s h v (fun us x=>us=f x) xs∧∀x∈xs,q x:=by
 rcases a with ⟨rfl,rfl⟩|⟨a,c,rfl,h2,h3⟩
 ·exact ⟨.inl ⟨rfl,rfl⟩,fun x hx=>by cases hx⟩
 ·refine ⟨.inr ⟨a,c,rfl,h2,fun i hi => ?_⟩,fun x hx => ?_⟩
  ·obtain ⟨us,h4,h5,h6⟩:=h3 i hi
   exact ⟨us,h4,h5,(hR _ _ h6).1⟩
  ·obtain ⟨i,hi,rfl⟩:=List.getElem_of_mem hx
   obtain ⟨us,h4,h5,h6⟩:=h3 i hi
   exact (hR _ _ h6).2
end
end Go.Proofs.YtdccfkffabngjaaGreat
set_option linter.unusedSimpArgs false
set_option linter.unusedVariables false
set_option maxRecDepth 20000
namespace Go.Proofs.YtdccfkffabngjaaGreat
open Go.Vc
variable {K:VP} {h:Heap}

structure Rp where
 kind:Int
 n:Int
 at_:Int
 by_:Int
def Rp.cells (x:Rp):List Value:=[.int .i64 x.kind,.int .i64 x.n,.int .i64 x.at_,.int .i64 x.by_]
structure RpOk (x:Rp):Prop where
 kind:i64 x.kind
 n:i64 x.n
 at_:i64 x.at_
 by_:i64 x.by_
structure Rps (h:Heap) (v:Value) (xs:List Rp):Prop where
 slc:Slc 4 h v (fun us x=>us=x.cells) xs
 ok:∀x∈xs,RpOk x
 len:xs.length<9223372036854775808
theorem Rps.ext {h':Heap} {v:Value} {xs:List Rp} (a:Rps h v xs) (e:Ext h h'):Rps h' v xs:=⟨slc_ext a.slc e,a.ok,a.len⟩
theorem Rps.form {v:Value} {xs:List Rp} (a:Rps h v xs):∃o c,v = .slice o xs.length c:=Slc.form a.slc
theorem Rps.cell {v:Value} {xs:List Rp} (s:Rps h v xs) {i:Nat} (hi:i<xs.length):∃a c,v = .slice (some a) xs.length c∧hcell h (elt a (i*4))=some (.int .i64 xs[i].kind)∧hcell h (elt a (i*4+1))=some (.int .i64 xs[i].n) ∧
 hcell h (elt a (i*4+2))=some (.int .i64 xs[i].at_)∧hcell h (elt a (i*4+3))=some (.int .i64 xs[i].by_):=by
 rcases s.slc with ⟨h1,rfl⟩|⟨a,c,h1,h2,h3⟩
 ·cases hi
 ·obtain ⟨us,-,h5,rfl⟩:=h3 i hi
  have:=fun j hj=>h5 j hj
  unfold Rp.cells at this
  have e0:=this 0 sM
  have e1:=this 1 sM
  have e2:=this 2 sM
  have e3:=this 3 sM
  rw [elt_elt] at e0 e1 e2 e3
  exact ⟨a,c,h1,e0,e1,e2,e3⟩
def Vast (bits size:Int) (xs:List Rp):Prop:=xs.length>60∨bits>12∨size>262144∨∃x∈xs,x.n>200∨x.kind=7∧x.at_>4194304
set_option maxHeartbeats 2000000 in
theorem vast_c {bits order long size:Int} {v:Value} {xs:List Rp} (hx:Rps h v xs)
 (HT:∀h',Ext h h'→Vast bits size xs→K (.bool true) h') (HF:∀h',Ext h h'→¬Vast bits size xs→K (.bool false) h') :
 CallsH Tryz.prog 6 #[imgV bits order long size,v] h K ⟨⟩:=by
 refine n6_calls ?_
 unfold n6 imgV; try delta vF vG vC vD vJ vV vk vt
 obtain ⟨xa,xc,rfl⟩:=hx.form
 have hl:=hx.len
 simp (disch:=omega)
 refine (⟨_,rfl⟩:∃g,g=h.push (.cells #[.int .i64 bits,.int .i64 order,.int .i64 long,.int .i64 size] 23)).elim fun h1 eh1 => ?_
 have e1:Ext h h1:=by rw [eh1]; exact extS
 have k1:h1[h.size]? = some (.cells #[.int .i64 bits,.int .i64 order,.int .i64 long,.int .i64 size] 23):=by rw [eh1]; exact get_pushed rfl
 rw [←eh1]
 clear eh1
 have d0:=cellOf (i:=0) k1 rfl
 have d3:=cellOf (i:=3) k1 rfl
 by_cases c1:((xs.length:Nat):Int)>60
 ·simp (disch:=omega) [c1]
  exact HT h1 e1 (.inl omg)
 by_cases c2:bits>12
 ·simp (disch:=omega) [c1,c2,d0]
  exact HT h1 e1 (.inr (.inl c2))
 by_cases c3:size>262144
 ·simp (disch:=omega) [c1,c2,c3,d0,d3]
  exact HT h1 e1 (.inr (.inr (.inl c3)))
 simp (disch:=omega) [c1,c2,c3,d0,d3]
 have hx1:=hx.ext e1
 refine loopA1 (α:=Nat) (fun i => .int .i64 (i:Nat)) (fun i g=>g=h1∧i≤xs.length∧∀j (hj:j<xs.length),j<i→xs[j].n≤200∧(xs[j].kind=7→xs[j].at_≤4194304)) (fun i=>xs.length-i) 0 rfl ⟨rfl,Nat.zero_le _,fun j hj h0=>absurd h0 omg⟩ ?_
 rintro i g ⟨rfl,hi,hno⟩
 by_cases hil:i<xs.length
 ·obtain ⟨a,c,hv,q0,q1,q2,-⟩:=hx1.cell hil
  cases hv
  have hlt:((i:Nat):Int)<((xs.length:Nat):Int):=by omega
  by_cases t1:xs[i].n>200
  ·simp (disch:=omega) [hlt,q0,q1,q2,t1]
   exact HT g e1 (.inr (.inr (.inr ⟨_,List.getElem_mem hil,.inl t1⟩)))
  by_cases t2:xs[i].kind=7
  ·by_cases t3:xs[i].at_>4194304
   ·simp (disch:=omega) [hlt,q0,q1,q2,t1,t2,t3]
    exact HT g e1 (.inr (.inr (.inr ⟨_,List.getElem_mem hil,.inr ⟨t2,t3⟩⟩)))
   ·simp (disch:=omega) [hlt,q0,q1,q2,t1,t2,t3]
    refine ⟨i+1,by simp,⟨by omega,fun j hj hji => ?_⟩,by omega⟩
    by_cases e:j=i
    ·subst e; exact ⟨by omega,fun _=>by omega⟩
    ·exact hno j hj omg
  ·simp (disch:=omega) [hlt,q0,q1,q2,t1,t2]
   refine ⟨i+1,by simp,⟨by omega,fun j hj hji => ?_⟩,by omega⟩
   by_cases e:j=i
   ·subst e; exact ⟨by omega,fun h1=>absurd h1 t2⟩
   ·exact hno j hj omg
 ·have hlt:¬((i:Nat):Int)<((xs.length:Nat):Int):=by omega
  simp (disch:=omega) [hlt]
  refine HF g e1 ?_
  rintro (h1|h1|h1|⟨x,hx,h1⟩)
  ·omega
  ·exact c2 h1
  ·exact c3 h1
  ·obtain ⟨j,hj,rfl⟩:=List.getElem_of_mem hx
   have:=hno j hj omg; omega
def Gm.toldN (g:Gm) (B:List UInt8) (k:Int):Nat:=if 0≤k∧k<g.room then g.cnt B k.toNat else 0
end Go.Proofs.YtdccfkffabngjaaGreat
set_option linter.unusedSimpArgs false
set_option linter.unusedVariables false
set_option maxRecDepth 20000
namespace Go.Proofs.YtdccfkffabngjaaGreat
open Go.Vc
variable {K:VP} {h:Heap}

def mnT:Nat:=42
def rnV (c:Nat) (r:Nat×Nat):List Value:=[.int .i64 (r.1*c:Nat),.int .i64 (r.2:Nat)]
theorem rnF_len (c:Nat):∀l:List (Nat×Nat),(l.flatMap (rnV c)).length=l.length*2
 | []=>rfl
 | f::l=>by rw [List.flatMap_cons,List.length_append,rnF_len c l]; simp [rnV]; omega
theorem rnF_get (c:Nat):∀(l:List (Nat×Nat)) (i k:Nat) (hi:i<l.length) (hk:k<2),(l.flatMap (rnV c))[i*2+k]? = (rnV c l[i])[k]?
 | r::l,0,k,_,hk=>by
  rw [List.flatMap_cons,List.getElem?_append_left (by simp [rnV]; omega)]
  simp
 | r::l,i+1,k,hi,hk=>by
  rw [List.flatMap_cons,List.getElem?_append_right (by simp [rnV]; omega),show (rnV c r).length=2 from rfl,show (i+1)*2+k-2=i*2+k by omega,rnF_get c l i k (by simpa using hi) hk]
  simp
theorem rnF_one (c:Nat) (l:List (Nat×Nat)):∀u∈l.flatMap (rnV c),one u=true:=fun u hu=>by
 obtain ⟨e,-,he⟩:=List.mem_flatMap.1 hu
 unfold rnV at he
 simp at he
 rcases he with rfl|rfl<;>rfl
theorem rnF_take (c:Nat) (l:List (Nat×Nat)) (i:Nat) (hi:i≤l.length):(l.flatMap (rnV c)).take (i*2)=(l.take i).flatMap (rnV c):=by
 conv=>lhs; rw [←List.take_append_drop i l,List.flatMap_append]
 have:((l.take i).flatMap (rnV c)).length=i*2:=by rw [rnF_len,List.length_take]; omega
 rw [←this,List.take_left]
theorem rnF_drop (c:Nat) (l:List (Nat×Nat)) (i:Nat) (hi:i≤l.length):(l.flatMap (rnV c)).drop (i*2)=(l.drop i).flatMap (rnV c):=by
 conv=>lhs; rw [←List.take_append_drop i l,List.flatMap_append]
 have:((l.take i).flatMap (rnV c)).length=i*2:=by rw [rnF_len,List.length_take]; omega
 rw [←this,List.drop_left]
def MnAt (h:Heap) (c:Nat) (v:Value) (M:List (Nat×Nat)):Prop:=OwnG mnT 2 h v (M.flatMap (rnV c))
theorem MnAt.form {c:Nat} {v:Value} {M:List (Nat×Nat)} (o:MnAt h c v M):∃a cp,v = .slice a M.length cp∧M.length≤cp:=by
 obtain ⟨a,n,cp,rfl,h1,h2,-⟩:=OwnG.form o
 rw [rnF_len] at h1
 have:n=M.length:=by omega
 subst this
 exact ⟨a,cp,rfl,h2⟩
theorem MnAt.cell {c:Nat} {v:Value} {M:List (Nat×Nat)} (o:MnAt h c v M) {i:Nat} (hi:i<M.length):∃a cp,v = .slice (some a) M.length cp∧M.length≤cp∧hcell h (elt a (i*2))=some (.int .i64 (M[i].1*c:Nat))∧hcell h (elt a (i*2+1))=some (.int .i64 (M[i].2:Nat)):=by
 obtain ⟨a,n,cp,rfl,h1,h2,h3⟩:=OwnG.form o
 rw [rnF_len] at h1
 have:n=M.length:=by omega
 subst this
 obtain ⟨b,of,rfl⟩:=h3 (fun e=>by have:=congrArg List.length e; rw [rnF_len,List.length_nil] at this; omega)
 have key:∀k (hk:k<2),hcell h (elt ⟨b,of,none⟩ (i*2+k))=(rnV c M[i])[k]? := fun k hk=>by
  have hlt:i*2+k<(M.flatMap (rnV c)).length:=by rw [rnF_len]; omega
  rw [(OwnG.cell o hlt).1,←List.getElem?_eq_getElem hlt,rnF_get c M i k hi hk]
 exact ⟨_,cp,rfl,h2,key 0 omg,key 1 omg⟩
theorem MnAt.ext {h':Heap} {c:Nat} {v:Value} {M:List (Nat×Nat)} (o:MnAt h c v M) (e:Ext h h'):MnAt h' c v M:=OwnG.ext o e
theorem appMn {c m:Nat} {v:Value} {M:List (Nat×Nat)} {r:Nat×Nat} {x:Heap} (o:MnAt x c v M) (hM:M.length<1000000) (hk:x[m]? = some (.cells #[.int .i64 (r.1*c:Nat),.int .i64 (r.2:Nat)] mnT))
 (H:∀v' h',MnAt h' c v' (M++[r])→Mod (fun b=>blkG v=some b) x h'→(∀b,blkG v'=some b→blkG v=some b∨x.size≤b)→K v' h') :
 Hp Tryz.prog false (Go.Builtin.append_ #[35,35] 35 #[v,.slice (some ⟨m,0,none⟩) 1 1]) K x ⟨⟩:=by
 refine Hp_appendG (e:=mnT) (s:=2) (by_:=16) (n:=M.length) (k:=1) (news:=rnV c r) kR kR o (rnF_len c M) omg (.inr (.inl ⟨_,_,rfl,rfl,?_⟩)) (by simp [rnV,one]) omg omg fun v' h' o' m' b' _=>H v' h' ?_ m' b'
 ·intro i hi
  have hi2:i<2:=hi
  have:i=0∨i=1:=by omega
  rcases this with rfl|rfl
  ·rw [elt_mk]; exact cellOf (i:=0) hk rfl
  ·rw [elt_mk]; exact cellOf (i:=1) hk rfl
 ·unfold MnAt
  rw [List.flatMap_append]
  simpa using o'
theorem cutMn {c i:Nat} {a:Addr} {cp:Nat} {M:List (Nat×Nat)} (o:MnAt h c (.slice (some a) M.length cp) M) (hM:M.length<1000000) (hc:M.length≤cp) (hi:i<M.length)
 (H:∀v' h',Ext h h'→MnAt h' c v' (M.take i++M.drop (i+1))→(∀b,blkG v'=some b→h.size≤b)→K v' h') :
 Hp Tryz.prog false (Go.Builtin.append_ #[35,35] 35 #[.slice none 0 0,.slice (some a) i cp]) (fun v1 h1=>Hp Tryz.prog false (Go.Builtin.append_ #[35,35] 35 #[v1,.slice (some (subS 2 a (i+1) cp)) (M.length-(i+1)) (cp-(i+1))]) K h1 ⟨⟩) h ⟨⟩:=by
 have c1:=OwnG.cut o (hi:=i) (mx:=cp) omg (Nat.le_refl _) omg
 rw [rnF_take c M i omg] at c1
 have c2:=OwnG.drop o (lo:=i+1) omg
 rw [rnF_drop c M (i+1) omg] at c2
 refine Hp_appendG (e:=mnT) (s:=2) (by_:=16) (n:=0) (k:=i) kR kR OwnG.nil rfl omg c1.src (rnF_one c _) omg omg fun v1 h1 o1 m1 b1 _ => ?_
 have e1:Ext h h1:=m1.ext_from (.refl _) (fun b hb e=>by cases e)
 have z1:=e1.size
 have g1:∀b,blkG v1=some b→h.size≤b:=fun b hb=>(b1 b hb).elim (fun e=>by cases e) id
 refine Hp_appendG (e:=mnT) (s:=2) (by_:=16) (n:=i) (k:=M.length-(i+1)) kR kR o1 (by rw [List.nil_append,rnF_len,List.length_take]; omega) omg (c2.src.ext e1) (rnF_one c _) omg omg fun v2 h2 o2 m2 b2 _ => ?_
 refine H v2 h2 (m2.ext_from e1 (fun b hb e=>by have:=g1 b e; omega)) ?_ (fun b hb=>(b2 b hb).elim (g1 b) (fun e=>by omega))
 unfold MnAt
 rw [List.flatMap_append]
 simpa using o2
theorem apart_c {g:Gm} {v:Value} {M:List (Nat×Nat)} {r:Nat×Nat} {P size:Nat} (hP:r.1*g.c=P) (kk:g.ok) (o:MnAt h g.c v M) (hM:M.length<1000000) (hr:1≤r.1∧1≤r.2∧r.2≤200) (hs:(r.1+r.2)*g.c≤size) (hsz:size≤268435456) (hMr:∀q∈M,q.1+q.2≤g.room∧q.2≤200) (hap:∀q∈M,apartR q r)
 (H:∀h',Ext h h'→K (.bool true) h') :
 CallsH Tryz.prog 13 #[.agg #[.int .i64 (P:Nat),.int .i64 (r.2:Nat)],v,.int .i64 (g.c:Nat),.int .i64 (size:Nat)] h K ⟨⟩:=by
 refine n13_calls ?_
 unfold n13; try delta vF vG vC vD vJ vV vk vt
 obtain ⟨q,hq,hq1,hq2⟩:=kk.c512
 have hrl:=kk.room_lt
 obtain ⟨Q,hQ⟩:∃P,r.2*g.c=P:=⟨_,rfl⟩
 rw [Nat.add_mul,hP,hQ] at hs
 have hQ':((r.2:Nat):Int)*((g.c:Nat):Int)=((Q:Nat):Int):=by rw [←hQ,Int.natCast_mul]
 have hP0:¬((P:Nat):Int)≤0:=by
  have:g.c≤r.1*g.c:=Nat.le_mul_of_pos_left _ hr.1
  omega
 have hPm:((P:Nat):Int)%((g.c:Nat):Int)=0:=by rw [←Int.natCast_emod,←hP,Nat.mul_mod_left]; rfl
 have hgt:¬((P:Nat):Int)+((Q:Nat):Int)>((size:Nat):Int):=by omega
 simp (disch:=omega) [hQ',hP0,hPm,hgt]
 obtain ⟨h1,hh1⟩:∃X,X=h.push (.cells #[.int .i64 (P:Nat),.int .i64 (r.2:Nat)] 42):=⟨_,rfl⟩
 have e1:Ext h h1:=by rw [hh1]; exact extS
 have k1:h1[h.size]? = some (.cells #[.int .i64 (P:Nat),.int .i64 (r.2:Nat)] 42):=by rw [hh1]; exact get_pushed rfl
 rw [show h.push _=h1 from hh1.symm]
 clear hh1
 have d0:=cellOf (i:=0) k1 rfl
 have d1:=cellOf (i:=1) k1 rfl
 have o1:=o.ext e1
 obtain ⟨a,cp,rfl,hcp⟩:=o.form
 refine loopA1 (α:=Nat) (fun i => .int .i64 (i:Nat)) (fun i G=>G=h1∧i≤M.length) (fun i=>M.length-i) 0 rfl ⟨rfl,Nat.zero_le _⟩ ?_
 rintro i G ⟨rfl,hi⟩
 by_cases hil:i<M.length
 ·obtain ⟨a1,cp1,hv,-,q0,q1⟩:=o1.cell hil
  injection hv with hv1 hv2 hv3
  subst hv1 hv3
  have hlt:((i:Nat):Int)<((M.length:Nat):Int):=by omega
  have hmem:=List.getElem_mem hil
  have h1':=hMr _ hmem
  have h2':=hap _ hmem
  obtain ⟨S,hS⟩:∃S,M[i]=S:=⟨_,rfl⟩
  rw [hS] at q0 q1 h1' h2'
  obtain ⟨P2,hP2⟩:∃P,S.1*g.c=P:=⟨_,rfl⟩
  obtain ⟨Q2,hQ2⟩:∃P,S.2*g.c=P:=⟨_,rfl⟩
  have hb2:P2+Q2≤171798691840*65536:=by
   rw [←hP2,←hQ2,←Nat.add_mul]; exact Nat.mul_le_mul omg omg
  have hQ2':((S.2:Nat):Int)*((g.c:Nat):Int)=((Q2:Nat):Int):=by rw [←hQ2,Int.natCast_mul]
  rw [hP2] at q0
  by_cases hlt2:((P:Nat):Int)<((P2:Nat):Int)+((Q2:Nat):Int)
  ·have hge:¬((P2:Nat):Int)<((P:Nat):Int)+((Q:Nat):Int):=by
    rcases h2' with h3|h3
    ·have:=Nat.mul_le_mul_right g.c h3
     rw [Nat.add_mul,hP2,hQ2,hP] at this; omega
    ·have:=Nat.mul_le_mul_right g.c h3
     rw [Nat.add_mul,hP2,hQ,hP] at this; omega
   simp (disch:=omega) [hlt,d0,q0,q1,hQ2',hlt2,hge]
   exact ⟨i+1,by simp,by omega,by omega⟩
  ·simp (disch:=omega) [hlt,d0,q0,q1,hQ2',hlt2]
   exact ⟨i+1,by simp,by omega,by omega⟩
 ·have hlt:¬((i:Nat):Int)<((M.length:Nat):Int):=by omega
  simp (disch:=omega) [hlt]
  exact H G e1
end Go.Proofs.YtdccfkffabngjaaGreat
set_option linter.unusedSimpArgs false
set_option linter.unusedVariables false
set_option maxRecDepth 20000
namespace Go.Proofs.YtdccfkffabngjaaGreat
open Go.Vc
variable {K:VP} {h:Heap}

set_option maxHeartbeats 2000000 in
theorem sound_c {g:Gm} {x:Hd} {B:List UInt8} {v mv:Value} {M:List (Nat×Nat)} (kk:g.ok) (hd:HdOk g x) (I:Img g x B) (hB:Bytes h v B) (o:MnAt h g.c mv M) (hM:M.length<1000000) (hr:∀r∈M,r.1+r.2≤g.room∧∀k,inR r k→1≤g.cnt B k)
 (H:∀h',Ext h h'→K (.bool true) h') :
 CallsH Tryz.prog 21 #[v,mv,.int .i64 (g.c:Nat)] h K ⟨⟩:=by
 refine n21_calls ?_
 unfold n21; try delta vF vG vC vD vJ vV vk vt
 obtain ⟨q,hq,hq1,hq2⟩:=kk.c512
 have hrl:=kk.room_lt
 refine rBytes15_c kk hd I hB (Nat.le_trans (endG_le kk) hrl.1) fun h1 rv cl he e1 orv => ?_
 obtain ⟨ra,rn,rc,rfl,-,-,-⟩:=orv.form
 simp (disch:=omega)
 obtain ⟨h2,hh2⟩:∃X,X=hset (hset (hset (hset (hset (hset (hset (h1.push (.cells #[.slice none 0 0,.bool false,.int .i64 0,.int .i64 0,.int .i64 0,.int .i64 0,.int .i64 0] 63)) ⟨h1.size,0,none⟩ (.slice ra rn rc)) ⟨h1.size,1,none⟩ (.bool false)) ⟨h1.size,2,none⟩ (.int .i64 cl)) ⟨h1.size,3,none⟩ (.int .i64 he)) ⟨h1.size,4,none⟩ (.int .i64 0)) ⟨h1.size,5,none⟩ (.int .i64 0)) ⟨h1.size,6,none⟩ (.int .i64 0):=⟨_,rfl⟩
 have e2:Ext h1 h2:=by rw [hh2]; exact extS
 rw [←hh2]
 clear hh2
 have e12:=e1.trans e2
 obtain ⟨a,cp,rfl,hcp⟩:=o.form
 refine loopA1 (α:=Nat) (fun i => .int .i64 (i:Nat)) (fun i G=>Ext h2 G∧i≤M.length) (fun i=>M.length-i) 0 rfl ⟨.refl _,Nat.zero_le _⟩ ?_
 rintro i G ⟨eG,hi⟩
 by_cases hil:i<M.length
 ·have hlt:((i:Nat):Int)<((M.length:Nat):Int):=by omega
  simp (disch:=omega) [hlt]
  obtain ⟨h3,h4⟩:=hr _ (List.getElem_mem hil)
  refine loopA1 (α:=Nat) (fun k => .int .i64 (k:Nat)) (fun k G2=>Ext G G2∧k≤M[i].2) (fun k=>M[i].2-k) 0 rfl ⟨.refl _,Nat.zero_le _⟩ ?_
  rintro k G2 ⟨eG2,hk⟩
  have E2:=(e12.trans eG).trans eG2
  obtain ⟨a1,cp1,hv,-,q0,q1⟩:=(o.ext E2).cell hil
  injection hv with hv1 hv2 hv3
  subst hv1 hv3
  obtain ⟨S,hS⟩:∃S,M[i]=S:=⟨_,rfl⟩
  rw [hS] at q0 q1 h3 h4 hk ⊢
  obtain ⟨P,hP⟩:∃P,S.1*g.c=P:=⟨_,rfl⟩
  have hPb:P≤171798691840*65536:=by rw [←hP]; exact Nat.mul_le_mul omg omg
  have hPd:((P:Nat):Int)/((g.c:Nat):Int)=((S.1:Nat):Int):=by rw [←Int.natCast_ediv,←hP,Nat.mul_div_cancel _ omg]
  rw [hP] at q0
  by_cases hkl:k<S.2
  ·have hlt2:((k:Nat):Int)<((S.2:Nat):Int):=by omega
   simp (disch:=omega) [q0,q1,hlt2,hPd]
   refine rCount_c kk hd I (hB.ext E2) omg (fun h5 e5 hno=>absurd ⟨by omega,by omega⟩ hno) (fun h5 e5 _ _ => ?_)
   have h6:=h4 (S.1+k) ⟨by omega,by omega⟩
   rw [show (((S.1:Nat):Int)+((k:Nat):Int)).toNat=S.1+k by omega]
   have hc64:g.cnt B (S.1+k)<2^64:=Nat.lt_of_lt_of_le (g.cnt_lt B _) (Nat.pow_le_pow_right omg kk.w64.2)
   obtain ⟨C,hC⟩:∃C,g.cnt B (S.1+k)=C:=⟨_,rfl⟩
   rw [hC] at h6 hc64 ⊢
   have hlt3:¬((C:Nat):Int)<1:=by omega
   simp (disch:=omega) [hlt3]
   exact ⟨k+1,by simp,⟨eG2.trans e5,by omega⟩,by omega⟩
  ·have hlt2:¬((k:Nat):Int)<((S.2:Nat):Int):=by omega
   simp (disch:=omega) [q0,q1,hlt2]
   exact ⟨i+1,by simp,⟨eG.trans eG2,by omega⟩,by omega⟩
 ·have hlt:¬((i:Nat):Int)<((M.length:Nat):Int):=by omega
  simp (disch:=omega) [hlt]
  exact H G (e12.trans eG)
def Aside (s:St) (sp b:Nat):Prop:=¬s.foot sp b∧¬s.pb b
theorem Aside.upd {h':Heap} {sp b:Nat} {s s':St} (a:Aside s sp b) (u:SUpd h h' sp s s') (hb:b<h.size):Aside s' sp b :=
 ⟨fun e=>(u.foot b e).elim a.1 (fun e=>by omega),fun e=>(u.pcs b e).elim a.2 (fun e=>by omega)⟩
theorem Aside.new {sp b:Nat} {s:St} (a:StAt h sp s) (hb:h.size≤b):Aside s sp b :=
 ⟨fun e=>by have:=a.lt e; omega,fun ⟨y,hy,q,hq,e⟩=>by have:=(a.fl y hy).plt hq e; omega⟩
theorem RA.side {Z:Nat→Prop} {h':Heap} {o sp:Nat} {g:Gm} {x:Hd} {s:St} {p:Fs} (a:RA h o sp g x s p) (m:Mod Z h h') (hZ:∀b,Z b→Aside s sp b∧b≠o):RA h' o sp g x s p :=
 ⟨a.rg.mod m (fun e=>(hZ o e).2 rfl),a.st.mod m (fun b hb e=>(hZ b e).1.1 hb) (fun y hy q hq b hb e=>(hZ b e).1.2 ⟨y,hy,q,hq,hb⟩),a.fs,a.nf,a.ok,a.hd⟩
end Go.Proofs.YtdccfkffabngjaaGreat
set_option linter.unusedSimpArgs false
set_option linter.unusedVariables false
namespace Go.Proofs.YtdccfkffabngjaaGreat
open Go.Vc
variable {K:VP} {h:Heap}

structure PlAt (h0 h:Heap) (g:Gm) (x:Hd) (o sp:Nat) (mv:Value) (M:List (Nat×Nat)) (s:St) (p:Fs) (n:Nat):Prop where
 ra:RA h o sp g x s p
 img:Img g x p.f.now
 nil:p.fates=[]
 stp:p.steps≤3+n*3000
 mine:Mine g p.f.now M
 mem:MnAt h g.c mv M
 few:M.length≤n
 ext:Ext h0 h
 foot:∀b,s.foot sp b→h0.size≤b
 mb:∀b,blkG mv=some b→h0.size≤b∧Aside s sp b∧b≠o
variable {h0:Heap} {g:Gm} {x:Hd} {o sp:Nat} {mv:Value} {M:List (Nat×Nat)} {s:St} {p:Fs} {n:Nat}
theorem PlAt.exts {h':Heap} (a:PlAt h0 h g x o sp mv M s p n) (e:Ext h h'):PlAt h0 h' g x o sp mv M s p n :=
 ⟨a.ra.ext e,a.img,a.nil,a.stp,a.mine,a.mem.ext e,a.few,a.ext.trans e,a.foot,a.mb⟩
theorem PlAt.mono {n':Nat} (a:PlAt h0 h g x o sp mv M s p n) (hn:n≤n'):PlAt h0 h g x o sp mv M s p n' :=
 ⟨a.ra,a.img,a.nil,Nat.le_trans a.stp omg,a.mine,a.mem,Nat.le_trans a.few hn,a.ext,a.foot,a.mb⟩
theorem PlAt.upd {h':Heap} {s':St} {p':Fs} {n':Nat} (a:PlAt h0 h g x o sp mv M s p n) (u:SUpd h h' sp s s') (f:FsAt s' p') (I:Img g x p'.f.now) (hnil:p'.fates=[]) (hs:p'.steps≤3+n'*3000) (hm:Mine g p'.f.now M) (hn:n≤n'):PlAt h0 h' g x o sp mv M s' p' n':=by
 have z0:=a.ext.size
 exact ⟨a.ra.upd u f,I,hnil,hs,hm,OwnG.mod a.mem u.mod (fun b hb=>(a.mb b hb).2.1.1),Nat.le_trans a.few hn,u.mod.ext_from a.ext (fun b hb e=>by have:=a.foot b e; omega),
  fun b hb=>(u.foot b hb).elim (a.foot b) (fun e=>by omega),fun b hb=>⟨(a.mb b hb).1,(a.mb b hb).2.1.upd u (OwnG.lt a.mem hb),(a.mb b hb).2.2⟩⟩
theorem PlAt.list {h':Heap} {mv':Value} {M':List (Nat×Nat)} {n':Nat} (a:PlAt h0 h g x o sp mv M s p n) (m:Mod (fun b=>blkG mv=some b) h h') (o':MnAt h' g.c mv' M') (hb:∀b,blkG mv'=some b→blkG mv=some b∨h.size≤b) (hm:Mine g p.f.now M') (hf:M'.length≤n') (hn:n≤n'):PlAt h0 h' g x o sp mv' M' s p n':=by
 have z0:=a.ext.size
 have hro:=get_some_lt a.ra.rg
 exact ⟨a.ra.side m (fun b e=>(a.mb b e).2),a.img,a.nil,Nat.le_trans a.stp omg,hm,o',hf,m.ext_from a.ext (fun b hb e=>by have:=(a.mb b e).1; omega),a.foot,
  fun b e=>(hb b e).elim (a.mb b) (fun e=>⟨by omega,Aside.new a.ra.st e,by omega⟩)⟩
theorem PlAt.memU {h':Heap} {s':St} (a:PlAt h0 h g x o sp mv M s p n) (u:SUpd h h' sp s s'):MnAt h' g.c mv M:=OwnG.mod a.mem u.mod (fun b hb=>(a.mb b hb).2.1.1)
theorem PlAt.cut {h' h'':Heap} {s':St} {p':Fs} {mv':Value} {M':List (Nat×Nat)} {n':Nat} (a:PlAt h0 h g x o sp mv M s p n) (u:SUpd h h' sp s s') (f:FsAt s' p') (I:Img g x p'.f.now) (hnil:p'.fates=[]) (hs:p'.steps≤3+n'*3000) (e:Ext h' h'') (o':MnAt h'' g.c mv' M') (hb:∀b,blkG mv'=some b→h'.size≤b) (hm:Mine g p'.f.now M') (hf:M'.length≤n'):PlAt h0 h'' g x o sp mv' M' s' p' n':=by
 have z0:=a.ext.size
 have z1:=u.mod.size
 have hro:=get_some_lt a.ra.rg
 exact ⟨(a.ra.upd u f).ext e,I,hnil,hs,hm,o',hf,(u.mod.ext_from a.ext (fun b hb e=>by have:=a.foot b e; omega)).trans e,
  fun b hb=>(u.foot b hb).elim (a.foot b) (fun e=>by omega),fun b e=>⟨by have:=hb b e; omega,Aside.new u.st (hb b e),by have:=hb b e; omega⟩⟩
theorem PlAt.open_ {h':Heap} {o':Nat} (a:PlAt h0 h g x o sp mv M s p n) (e:Ext h h') (r:RA h' o' sp g x s p) (ho:h.size≤o'):PlAt h0 h' g x o' sp mv M s p n :=
 ⟨r,a.img,a.nil,a.stp,a.mine,a.mem.ext e,a.few,a.ext.trans e,a.foot,fun b hb=>⟨(a.mb b hb).1,(a.mb b hb).2.1,by have:=OwnG.lt a.mem hb; omega⟩⟩
theorem Gm.ok.c8 {g:Gm} (kk:g.ok) (hb:g.b≤12):g.c/512≤8:=by
 have:g.c≤2^12:=by unfold Gm.c; exact Nat.pow_le_pow_right omg omg
 omega
theorem pAdd_c {by_:Int} {i:Nat} {va:Option Addr} {vn vc:Nat} (a:PlAt h0 h g x o sp mv M s p n) (hg:g.b≤12) (hn:n≤100) (hb : -9223372036854775808≤by_∧by_<9223372036854775808) (hi:i<M.length) (ov:OwnG i6T 1 h (.slice va vn vc) ((runL M[i].1 M[i].2).map ik))
 (H2:∀h',Ext h h'→by_≠1→by_ ≠ -1→K (.int .i64 2) h')
 (H6:∀h',Ext h h'→by_=1→K (.int .i64 6) h')
 (H:∀h' s' p',(by_=1∨by_ = -1)→SUpd h h' sp s s'→FsAt s' p'→p'.steps≤3+(n+1)*3000→p'.fates=[]→Rose g x by_ M[i].1 M[i].2 p.f.now p'.f.now→K (.int .i64 0) h') :
 CallsH Tryz.prog 15 #[ptrV o,.int .i64 by_,.slice va vn vc] h K ⟨⟩:=by
 have kk:=a.ra.ok
 have hmem:=List.getElem_mem hi
 have hok:=a.mine.ok _ hmem
 have hc8:=kk.c8 hg
 have hst:=a.stp
 have hrl:=kk.room_lt
 have hin:∀k:Nat,(k:Int)∈runL M[i].1 M[i].2→inR M[i] k:=fun k hk=>runL_mem.1 hk
 have hInr:Inr g (runL M[i].1 M[i].2):=fun k hk=>by
  have:=runL_memI.1 hk
  omega
 have hs1:M[i].2*(5+g.c/512)≤200*13:=Nat.mul_le_mul hok.2.2.1 omg
 refine gAdd_c a.ra a.img hb ov (by rw [runL_len]; omega) (fun k hk=>by have:=runL_memI.1 hk; omega) (fun _ _ k hk hw=>absurd hw (a.mine.word hmem (hin k hk))) (fun _ k hk hh=>absurd hh (a.mine.unh _ hmem k (hin k hk))) (by rw [runL_len]; omega) H2 (fun h' e' _ hno=>absurd hInr hno) (fun h' e' _ _ hex => ?_) (fun h' e' h1 _ _=>H6 h' e' h1) (fun h' s' ks bs Q u f => ?_)
 ·exfalso
  obtain ⟨k,hk,hlt⟩:=hex
  have h1:=a.mine.one hmem (hin k hk)
  rw [runL_cnt,if_pos (runL_mem.1 hk)] at hlt
  omega
 ·obtain ⟨z,C,R⟩:=rose_of kk a.ra.fok a.img a.nil Q (fun k h1 h2=>a.mine.one hmem ⟨h1,h2⟩)
  rw [z]
  exact H h' s' _ Q.by1 u f (by have:=C.stp; omega) C.nil R
theorem pFree_c {i:Nat} (a:PlAt h0 h g x o sp mv M s p n) (hg:g.b≤12) (hn:n≤100) (hi:i<M.length) {place:Int} (hpl:place=(M[i].1*g.c:Nat))
 (H:∀h' s' p',SUpd h h' sp s s'→FsAt s' p'→p'.steps≤3+(n+1)*3000→p'.fates=[]→Rose g x (-1) M[i].1 M[i].2 p.f.now p'.f.now→K (.int .i64 0) h') :
 CallsH Tryz.prog 16 #[ptrV o,.int .i64 place,.int .i64 (M[i].2:Nat)] h K ⟨⟩:=by
 have kk:=a.ra.ok
 have hmem:=List.getElem_mem hi
 have hok:=a.mine.ok _ hmem
 have hc8:=kk.c8 hg
 have hst:=a.stp
 have hrl:=kk.room_lt
 have hs1:M[i].2*(5+g.c/512)≤200*13:=Nat.mul_le_mul hok.2.2.1 omg
 refine gFree_c (st:=M[i].1) (nn:=M[i].2) a.ra a.img hok.2.1 omg hpl omg (fun k h1 h2 hh=>absurd hh (a.mine.unh _ hmem k ⟨h1,h2⟩)) omg (fun h' e' hno => ?_) (fun h' e' _ hex => ?_) (fun h' s' ks bs Q u f => ?_)
 ·exfalso
  refine hno fun k hk => ?_
  have:=runL_memI.1 hk
  omega
 ·exfalso
  obtain ⟨k,h1,h2,h3⟩:=hex
  have:=a.mine.one hmem (k:=k) ⟨h1,h2⟩
  omega
 ·obtain ⟨z,C,R⟩:=rose_of kk a.ra.fok a.img a.nil Q (fun k h1 h2=>a.mine.one hmem ⟨h1,h2⟩)
  rw [z]
  exact H h' s' _ u f (by have:=C.stp; omega) C.nil R
theorem pGrow_c {t:Int} (a:PlAt h0 h g x o sp mv M s p n) (hg:g.b≤12) (hn:n≤100) (t0 : -9223372036854775808≤t) (t1:t≤4194304)
 (H:∀h' s' p',PlAt h0 h' g x o sp mv M s' p' (n+1)→Mod (s.foot sp) h h'→t≤p'.f.now.length→p.f.now.length≤p'.f.now.length→K (.int .i64 0) h') :
 CallsH Tryz.prog 19 #[ptrV o,.int .i64 t] h K ⟨⟩:=by
 have kk:=a.ra.ok
 have hst:=a.stp
 obtain ⟨q,hq,hq1,hq2⟩:=kk.c512
 obtain ⟨m1,m2,m3⟩:=up_mul kk t.toNat
 have hle:(t.toNat+g.c-1)/g.c*g.c≤268435456:=by omega
 refine gGrow_c a.ra omg t0 hle fun h' s' u f => ?_
 have hz:(growF g t.toNat p).2=0:=growF_nil a.nil
 have S:=growF_stp (g:=g) kk a.ra.fok hle
 have hnow:=growF_now kk a.ra.fok hz
 rw [hz]
 obtain ⟨U,hU⟩:∃U,(t.toNat+g.c-1)/g.c*g.c=U:=⟨_,rfl⟩
 rw [hU] at hle hnow m1 m2 m3
 generalize (growF g t.toNat p).1=p' at *
 have hstp:=S.stp
 by_cases hlt:t.toNat≤p.f.now.length
 ·rw [if_pos hlt,growL_same (Nat.zero_le _)] at hnow
  exact H h' s' p' (a.upd u f (by rw [hnow]; exact a.img) (S.nil a.nil) omg (by rw [hnow]; exact a.mine) omg) u.mod (by rw [hnow]; omega) (by rw [hnow]; exact Nat.le_refl _)
 ·rw [if_neg hlt] at hnow
  obtain ⟨I1,-,c1⟩:=a.img.grown kk hle m3
  have hl:=growL_len p.f.now U
  exact H h' s' p' (a.upd u f (by rw [hnow]; exact I1) (S.nil a.nil) omg (by rw [hnow]; exact a.mine.keep (x:=x) kk fun r hr k hk=>c1 k (a.mine.lt kk hr hk)) omg) u.mod (by rw [hnow,hl]; omega) (by rw [hnow,hl]; omega)
theorem pAlloc_c {nn:Nat} (a:PlAt h0 h g x o sp mv M s p n) (hg:g.b≤12) (hn:n≤100) (n1:1≤nn) (n2:nn≤200)
 (H6:∀h',Ext h h'→K (.tuple #[.int .i64 0,.int .i64 6]) h')
 (H:∀h' s' p' st,PlAt h0 h' g x o sp mv M s' p' (n+1)→Mod (s.foot sp) h h'→Mine g p'.f.now (M++[(st,nn)])→(∀r∈M,apartR r (st,nn))→1≤st→(st+nn)*g.c≤p'.f.now.length→K (.tuple #[.int .i64 (st*g.c:Nat),.int .i64 0]) h') :
 CallsH Tryz.prog 12 #[ptrV o,.int .i64 (nn:Nat)] h K ⟨⟩:=by
 have kk:=a.ra.ok
 have hc8:=kk.c8 hg
 have hst:=a.stp
 have hs1:nn*(5+g.c/512)≤200*13:=Nat.mul_le_mul n2 omg
 refine gAlloc_c (nn:=nn) a.ra a.img n1 omg omg (fun h' e' _=>H6 h' e') (fun h' s' p' e st u f st1 st2 fr fit A => ?_)
 obtain ⟨rfl,C,-,T⟩:=took_of kk a.ra.fok a.img a.nil st2 fr fit A
 obtain ⟨m1,m2⟩:=a.mine.took kk a.img T fr st2 st1 n1 n2
 rw [if_pos rfl]
 have b:=a.upd (n':=n+1) u f T.img C.nil (by have:=C.stp; omega) (a.mine.keep (x:=x) kk fun r hr k hk => ?_) omg
 ·exact H h' s' p' st b u.mod m1 m2 st1 T.fit
 ·have h1:=a.mine.one hr hk
  have hout:¬(st≤k∧k<st+nn):=fun hh=>by have:=(fr k hh.1 hh.2).1; omega
  rcases T.out k (a.mine.lt kk hr hk) hout with h2|⟨h2,-⟩
  ·exact h2
  ·omega
end Go.Proofs.YtdccfkffabngjaaGreat
set_option linter.unusedSimpArgs false
set_option linter.unusedVariables false
namespace Go.Proofs.YtdccfkffabngjaaGreat
open Go.Vc
open Go Go.ChangeShapes Go.WideShapes Go.ChangeAt Go.RowKit Go.Deep
variable {H:Type} {enc:TypeId×Value→H} {w:World} {base:Nat} {sp:Nat→Bool} {held:Bool}
theorem len4r {l:List Value} (h:l.length=4):∃a b c d,l=[a,b,c,d]:=by
 match l,h with
 | [a,b,c,d],_=>exact ⟨a,b,c,d,rfl⟩
set_option maxRecDepth 100000 in
theorem laid_rp {cs:List Value} (h:Go.Vc.Laid enc Tryz.prog w base sp held 37 cs):∃x:Rp,cs=x.cells∧RpOk x:=by
 obtain ⟨hl,hM⟩:=h.flds (L:=[(3,0,1),(3,1,1),(2,2,1),(2,3,1)]) (n:=4) kR kR
 obtain ⟨c0,c1,c2,c3,rfl⟩:=len4r hl
 obtain ⟨n0,hn0,r0⟩:=(hM 0 _ _ _ rfl).int (k := .i64) kR
 obtain rfl:c0 = .int .i64 n0:=by simpa using hn0
 obtain ⟨n1,hn1,r1⟩:=(hM 1 _ _ _ rfl).int (k := .i64) kR
 obtain rfl:c1 = .int .i64 n1:=by simpa using hn1
 obtain ⟨n2,hn2,r2⟩:=(hM 2 _ _ _ rfl).int (k := .i64) kR
 obtain rfl:c2 = .int .i64 n2:=by simpa using hn2
 obtain ⟨n3,hn3,r3⟩:=(hM 3 _ _ _ rfl).int (k := .i64) kR
 obtain rfl:c3 = .int .i64 n3:=by simpa using hn3
 exact ⟨⟨n0,n1,n2,n3⟩,rfl,i64_of r0,i64_of r1,i64_of r2,i64_of r3⟩
set_option maxRecDepth 100000 in
theorem laid_rps {cs:List Value} (h:Go.Vc.Laid enc Tryz.prog w base sp held 24 cs):∃(v:Value) (xs:List Rp),cs=[v]∧Rps w.heap v xs:=by
 obtain ⟨v,xs,rfl,hs,hl⟩:=h.slice (e:=37) (R:=fun us (x:Rp)=>us=x.cells∧RpOk x) kR (fun us hu=>laid_rp hu)
 have hc:Program.cellsOf Tryz.prog 37=4:=by kernel_rfl
 rw [hc] at hs
 obtain ⟨s1,s2⟩:=slc_ok (f:=Rp.cells) hs (fun us x hx=>hx)
 exact ⟨v,xs,rfl,s1,s2,max63 hl⟩
set_option maxRecDepth 100000 in
theorem open_img4 {v:Value} {r:Go.Reach} {b0:Nat} {ps:List MemPlace} {d:DataW H} (hval:Value.okWide Tryz.prog w r b0 23 v) (hd:DataW.Trod enc Tryz.prog w base sp held 23 v d ps) :
 ∃b o l s:Int,v=imgV b o l s∧i64 b∧i64 o∧i64 l∧i64 s:=by
 obtain ⟨cs,rfl,hl,hL⟩:=Laid.topFlds (L:=[(3,0,1),(3,1,1),(3,2,1),(2,3,1)]) (n:=4) kR kR hval hd
 obtain ⟨c0,c1,c2,c3,rfl⟩:=len4r hl
 obtain ⟨n0,hn0,r0⟩:=(hL 0 _ _ _ rfl).int (k := .i64) kR
 obtain rfl:c0 = .int .i64 n0:=by simpa using hn0
 obtain ⟨n1,hn1,r1⟩:=(hL 1 _ _ _ rfl).int (k := .i64) kR
 obtain rfl:c1 = .int .i64 n1:=by simpa using hn1
 obtain ⟨n2,hn2,r2⟩:=(hL 2 _ _ _ rfl).int (k := .i64) kR
 obtain rfl:c2 = .int .i64 n2:=by simpa using hn2
 obtain ⟨n3,hn3,r3⟩:=(hL 3 _ _ _ rfl).int (k := .i64) kR
 obtain rfl:c3 = .int .i64 n3:=by simpa using hn3
 exact ⟨n0,n1,n2,n3,rfl,i64_of r0,i64_of r1,i64_of r2,i64_of r3⟩
set_option maxRecDepth 100000 in
theorem open_rps {v:Value} {r:Go.Reach} {b0:Nat} {ps:List MemPlace} {d:DataW H} (hval:Value.okWide Tryz.prog w r b0 24 v) (hd:DataW.Trod enc Tryz.prog w base sp held 24 v d ps):∃xs:List Rp,Rps w.heap v xs:=by
 obtain ⟨v',xs,hv,hs⟩:=laid_rps (Go.Vc.Laid.top hval hd kR)
 obtain rfl:v=v':=by simpa using hv
 exact ⟨xs,hs⟩
end Go.Proofs.YtdccfkffabngjaaGreat

/- Lemmas: what the functions do. -/
import Derived.Test.YtdccfkffabngjaaGreatGpG
import Derived.Test.YtdccfkffabngjaaGreatGpF
import Derived.Test.YtdccfkffabngjaaGreatGpE
import Derived.Test.YtdccfkffabngjaaGreatFacts
import Derived.Test.YtdccfkffabngjaaGreatCnt
import Derived.Test.YtdccfkffabngjaaGreatGpD
set_option linter.unusedSimpArgs false
set_option linter.unusedVariables false
set_option maxRecDepth 20000
namespace Go.Proofs.YtdccfkffabngjaaGreat
open Go.Vc
section
variable {K:VP}{h:Heap}
def AStage(g:Gm)(st nn:Nat)(p:Fs):Nat->Fs->Prop
 | 0,p1=>p1=p
 | 1,p1=>(growF g ((st+nn)*g.c) p).2=0/\p1=(growF g ((st+nn)*g.c) p).1
 | n+2,p1=>∃ks bs,(growF g ((st+nn)*g.c) p).2=0/\Asked g 1 (runL st nn) (growF g ((st+nn)*g.c) p).1.f.now ks bs/\(addF g 1 (cntZ (runL st nn)) ks bs (growF g ((st+nn)*g.c) p).1).2=0 /\
  ((n=0/\p1=(addF g 1 (cntZ (runL st nn)) ks bs (growF g ((st+nn)*g.c) p).1).1)\/(n=1/\(addF g 1 (cntZ (runL st nn)) ks bs (growF g ((st+nn)*g.c) p).1).1.e=0/\p1=(addF g 1 (cntZ (runL st nn)) ks bs (growF g ((st+nn)*g.c) p).1).1.flush))
def AEnd(g:Gm)(st nn:Nat)(p:Fs)(p':Fs)(e:Int):Prop :=
 (e≠0/\(growF g ((st+nn)*g.c) p)=(p',e)) \/
 (∃ks bs,(growF g ((st+nn)*g.c) p).2=0/\Asked g 1 (runL st nn) (growF g ((st+nn)*g.c) p).1.f.now ks bs /\
  ((e≠0/\addF g 1 (cntZ (runL st nn)) ks bs (growF g ((st+nn)*g.c) p).1=(p',e)) \/
   ((addF g 1 (cntZ (runL st nn)) ks bs (growF g ((st+nn)*g.c) p).1).2=0/\p'=(addF g 1 (cntZ (runL st nn)) ks bs (growF g ((st+nn)*g.c) p).1).1.flush/\e=(addF g 1 (cntZ (runL st nn)) ks bs (growF g ((st+nn)*g.c) p).1).1.e)))
theorem up_id{g:Gm}(k:g.ok)(a:Nat):(a*g.c+g.c-1)/g.c*g.c=a*g.c:=by
 obtain⟨q,hq,h1,-⟩:=k.c512
 have h:(a*g.c+g.c-1)/g.c=a:=by
  rw[show a*g.c+g.c-1=g.c*a+(g.c-1) by rw[Nat.mul_comm];omega,Nat.mul_add_div omg,Nat.div_eq_of_lt omg,Nat.add_zero]
 rw[h]
theorem grow_run{g:Gm}{x:Hd}{p:Fs}(k:g.ok)(o:p.f.ok)(I:Img g x p.f.now){t:Nat}(hf:t*g.c<=268435456)(he:(growF g (t*g.c) p).2=0) :
 Img g x (growF g (t*g.c) p).1.f.now/\(∀j,j<g.m->g.word (growF g (t*g.c) p).1.f.now j=g.word p.f.now j)/\(∀j,j/g.n<g.m->g.cnt (growF g (t*g.c) p).1.f.now j=g.cnt p.f.now j)/\t*g.c<=(growF g (t*g.c) p).1.f.now.length/\p.f.now.length<=(growF g (t*g.c) p).1.f.now.length:=by
 rw[growF_now k o he,up_id k]
 split
 ·rename_i hle
  rw[growL_same (Nat.zero_le _)]
  exact⟨I,fun _ _=>rfl,fun _ _=>rfl,hle,Nat.le_refl _⟩
 ·obtain⟨I1,w1,c1⟩:=I.grown k hf (Nat.mul_mod_left t g.c)
  have hl:=growL_len p.f.now (t*g.c)
  exact⟨I1,w1,c1,by rw[hl];omega,by rw[hl];omega⟩
theorem frees_room{g:Gm}{x:Hd}{B:List UInt8}(kk:g.ok)(I:Img g x B){st nn:Nat}(hr:st+nn<=g.room)(hfr:g.frees B st nn)(hf:(st+nn)*g.c<=268435456){k:Nat}(h1:st<=k)(h2:k<st+nn)(hw:g.word B (k/g.n)=0):g.pl (k/g.n)+g.c<=268435456/\k%g.n≠0:=by
 have hn:=kk.n64
 have hk0:k%g.n≠0:=fun e=>(hfr k h1 h2).2 ⟨hw,e⟩
 refine⟨?_,hk0⟩
 have hi0:k/g.n≠0:=fun e=>by rw[e]at hw;exact I.w0 hw
 have hdm:=Nat.div_add_mod k g.n
 unfold Gm.pl Gm.cl
 rw[if_neg hi0]
 have h3:k/g.n*g.n+1<=st+nn:=by rw[Nat.mul_comm];omega
 have:=Nat.mul_le_mul_right g.c h3
 rw[Nat.add_mul,Nat.one_mul]at this
 omega
set_option maxHeartbeats 8000000 in
theorem gAlloc_c{o sp:Nat}{g:Gm}{x:Hd}{s:St}{p:Fs}{nn:Nat}(a:RA h o sp g x s p)(I:Img g x p.f.now)(n1:1<=nn)(n2:nn<=1000)(hs:p.steps+nn*(5+g.c/512)+4<1000000)
 (H6:∀h',Ext h h'->(∀st,1<=st->st+nn<=g.room->g.frees p.f.now st nn->268435456<(st+nn)*g.c)->K (.tuple #[.int .i64 0,.int .i64 6]) h')
 (H:∀h' s' p' e st,SUpd h h' sp s s'->FsAt s' p'->1<=st->st+nn<=g.room->g.frees p.f.now st nn->(st+nn)*g.c<=268435456->AEnd g st nn p p' e->K (.tuple #[.int .i64 (if e=0 then ((st*g.c:Nat):Int) else 0),.int .i64 e]) h') :
 CallsH Tryz.prog 12 #[ptrV o,.int .i64 (nn:Nat)] h K ⟨⟩:=by
 refine n12_calls ?_
 unfold n12;try delta vF vG vC vD vJ vV vk vt
 unfold ptrV
 simp(disch:=omega)
 obtain⟨h1,hh1⟩:∃X,X=(h.push (.cells #[.pointer (some ⟨o,0,none⟩)] 30)).push (.cells #[.int .i64 (nn:Nat)] 3):=⟨_,rfl⟩
 have e1:Ext h h1:=by rw[hh1];exact extS
 have z1:h1.size=h.size+2:=by rw[hh1];simp
 have k0:h1[h.size]? = some (.cells #[.pointer (some ⟨o,0,none⟩)] 30):=by rw[hh1];exact gtP
 have k1:h1[h.size+1]? = some (.cells #[.int .i64 (nn:Nat)] 3):=by rw[hh1];exact gtP
 rw[<-hh1]
 clear hh1
 rw[show (.pointer (some ⟨o,0,none⟩):Value)=ptrV o from rfl]
 have a1:=a.ext e1
 refine gNone_c a1.rg ?_
 have d0:=cellOf (i:=0) k0 rfl
 have d1:=cellOf (i:=0) k1 rfl
 have c0:=cellOf (i:=0) a1.rg rfl
 have c1:=cellOf (i:=1) a1.rg rfl
 unfold ptrV at c0
 simp(disch:=omega)[d0,d1,c0,c1]
 rw[show (.pointer (some ⟨sp,0,none⟩):Value)=ptrV sp from rfl]
 refine sSize_c a1.st a1.fs fun h2 e2=>?_
 have a2:=a1.ext e2
 have d0:=hcell_ext e2 d0
 have d1:=hcell_ext e2 d1
 simp(disch:=omega)[d0,d1]
 rw[show (.pointer (some ⟨o,0,none⟩):Value)=ptrV o from rfl]
 refine gRun_c a2 I n1 omg (fun h3 e3 hfull=>?_) (fun h3 st e3 st1 sr hfr hfit=>?_)
 ·have hst:=e3.size
  simp(disch:=omega)
  exact H6 _ ((e1.trans (e2.trans e3)).trans extS) hfull
 have k0:=((e2.trans e3).block _ (get_some_lt k0)).trans k0
 have k1:=((e2.trans e3).block _ (get_some_lt k1)).trans k1
 have a3:=a2.ext e3
 have hz2:=e2.size
 have hz3:=e3.size
 have hrl:=a.ok.room_lt
 clear d0 d1
 have d1:=cellOf (i:=0) k1 rfl
 have hne1:¬h.size+1=h3.size/\¬h.size+1=h3.size+1:=by omega
 simp(disch:=omega)[d1,hne1.1,hne1.2]
 obtain⟨h4,hh4⟩:∃X,X=(hset (h3.push (.cells #[.int .i64 0] 2)) ⟨h3.size,0,none⟩ (.int .i64 (st:Nat))).push (.cells #[.slice none 0 0] 47):=⟨_,rfl⟩
 have e4:Ext h3 h4:=by rw[hh4];exact extS
 have z4:h4.size=h3.size+2:=by rw[hh4];simp
 have k2:h4[h3.size]? = some (.cells #[.int .i64 (st:Nat)] 2):=by rw[hh4,get_push sM];exact obj_set (get_pushed rfl)
 have k3:h4[h3.size+1]? = some (.cells #[.slice none 0 0] 47):=by rw[hh4];exact get_pushed sM
 rw[show Array.push _ _=h4 from hh4.symm]
 clear hh4 hne1 d1
 have k0:=(e4.block _ (get_some_lt k0)).trans k0
 have k1:=(e4.block _ (get_some_lt k1)).trans k1
 have a4:=a3.ext e4
 refine loopX1 (α:=Nat×Value) (fun z=>.int .i64 z.1) (fun z G=>z.1<=nn/\Mod (· = h3.size+1) h4 G/\G[h3.size+1]? = some (.cells #[z.2] 47)/\OwnG i6T 1 G z.2 ((runL st z.1).map ik)/\∀b,blkG z.2=some b->h4.size<=b) (fun z=>nn-z.1) (0,.slice none 0 0) rfl ⟨Nat.zero_le _,.refl _ _,k3,OwnG.nil,fun b hb=>by cases hb⟩ ?_
 rintro⟨j,v⟩ G ⟨hj,mG,kv,ov,fv⟩ X hX
 dsimp only at hj mG kv ov fv hX ⊢
 have hzG:=mG.size
 have dv:=cellOf (i:=0) kv rfl
 have q2:=(mG.block h3.size omg omg).trans k2
 have d2:=cellOf (i:=0) q2 rfl
 obtain⟨va,vn,vc,rfl,hvl,hvc,-⟩:=ov.form
 have hvn:vn=j:=by rw[List.length_map,runL_len]at hvl;omega
 subst hvn
 by_cases hjn:vn<nn
 ·have hnG:¬h3.size=G.size:=by omega
  simp(disch:=omega)[dv,d2]
  obtain⟨g1,hg1⟩:∃X,X=G.push (.cells #[.int .i64 ((st:Int)+(vn:Int))] 2):=⟨_,rfl⟩
  have e1':Ext G g1:=by rw[hg1];exact extS
  have sx:Src 1 g1 (.slice (some ⟨G.size,0,none⟩) 1 1) 1 [ik ((st:Int)+(vn:Int))]:=by rw[hg1];exact Src_new (vs:=[ik ((st:Int)+(vn:Int))]) rfl
  rw[<-hg1]
  clear hg1
  have hz1:=e1'.size
  refine Hp_appendG (e:=i6T) (s:=1) (by_:=8) (n:=vn) (k:=1) kR kR (ov.ext e1') (by rw[List.length_map,runL_len,Nat.mul_one]) omg sx (by intro u hu;rw[List.mem_singleton.1 hu];rfl) omg omg fun v' h' o' m' b' _=>?_
  have hz':=m'.size
  have kv':=(m'.block (h3.size+1) omg (fun e=>by have:=fv _ e;omega)).trans ((e1'.block _ (get_some_lt kv)).trans kv)
  have dv':=cellOf (i:=0) kv' rfl
  have fz':=frzOf (i:=0) kv'
  obtain⟨va',vn',vc',rfl,-,-,-⟩:=o'.form
  simp(disch:=omega)[dv',fz']
  obtain⟨g3,hg3⟩:∃X,X=hset h' ⟨h3.size+1,0,none⟩ (.slice va' vn' vc'):=⟨_,rfl⟩
  have m3:Mod (· = h3.size+1) h' g3:=by rw[hg3];exact Mod.set h' ⟨h3.size+1,0,none⟩ _
  have k3':g3[h3.size+1]? = some (.cells #[.slice va' vn' vc'] 47):=by rw[hg3];exact obj_set kv'
  rw[<-hg3]
  clear hg3
  have hbl:∀b,blkG (.slice va' vn' vc')=some b->h4.size<=b:=fun b hb=>(b' b hb).elim (fv b) (fun he=>by omega)
  have hz3':=m3.size
  have m4:Mod (· = h3.size+1) h4 g3:=⟨by omega,fun b hb hne=>(m3.block b omg hne).trans ((m'.block b omg (fun e=>by have:=fv b e;omega)).trans ((e1'.block b omg).trans (mG.block b hb hne)))⟩
  refine hX (vn+1,.slice va' vn' vc') _ _ sM ⟨by omega,m4,k3',?_,hbl⟩ (by dsimp only;omega)
  dsimp only
  rw[runL_succ,List.map_append]
  exact o'.mod m3 (fun b hb he=>by have:=hbl b hb;omega)
 ·obtain rfl:vn=nn:=by omega
  simp(disch:=omega)
  rw[bsF3]
  simp(disch:=omega)
  obtain⟨fs3,hfs3⟩:∃a,a = #[(.func (.func 41) #[] #[.pointer (some ⟨h.size,0,none⟩),.pointer (some ⟨h3.size,0,none⟩),.pointer (some ⟨h.size+1,0,none⟩)]:Value),
   .func (.func 42) #[] #[.pointer (some ⟨h.size,0,none⟩),.pointer (some ⟨h3.size+1,0,none⟩)],
   .func (.func 43) #[] #[.pointer (some ⟨h.size,0,none⟩)]]:=⟨_,rfl⟩
  rw[<-hfs3]
  obtain⟨h8,hh8⟩:∃X,X=G.push (.cells fs3 99):=⟨_,rfl⟩
  have e8:Ext G h8:=by rw[hh8];exact extS
  have k8:h8[G.size]? = some (.cells fs3 99):=by rw[hh8];exact get_pushed rfl
  have z8:h8.size=G.size+1:=by rw[hh8];simp
  rw[<-hh8]
  clear hh8 d2 dv
  have E8:Ext h h8:=(mG.ext_from ((e1.trans (e2.trans e3)).trans e4) (fun b hb he=>by omega)).trans e8
  have a8:=a.ext E8
  have kk:∀b,b<h4.size->b≠h3.size+1->h8[b]? = h4[b]? := fun b hb hne=>(e8.block b omg).trans (mG.block b hb hne)
  have k0:=(kk _ omg omg).trans k0
  have k1:=(kk _ omg omg).trans k1
  have k2:=(kk _ omg omg).trans k2
  have kv:=(e8.block _ (get_some_lt kv)).trans kv
  have ov:=ov.ext e8
  have nfoot:∀b,h.size<=b->¬s.foot sp b:=fun b hb e=>by have:=a.st.lt e;omega
  refine loopX1 (α:=Nat×St×Fs) (fun z=>.int .i64 z.1) (fun z G=>z.1<=3/\SUpd h8 G sp s z.2.1/\FsAt z.2.1 z.2.2/\AStage g st vn p z.1 z.2.2) (fun z=>3-z.1) (0,s,p) rfl ⟨Nat.zero_le _,.refl a8.st,a.fs,rfl⟩ ?_
  rintro⟨j,s1,p1⟩ G2 ⟨hj3,u,f1,hsg⟩ X hX
  dsimp only at hj3 u f1 hsg hX ⊢
  have aG:=a8.upd u f1
  have kp:∀b,h.size<=b->b<h8.size->G2[b]? = h8[b]? := fun b hb hl=>u.mod.block b hl (nfoot b hb)
  have k8:=(kp _ omg omg).trans k8
  have d0:=cellOf (i:=0) ((kp _ omg (get_some_lt k0)).trans k0) rfl
  have d1:=cellOf (i:=0) ((kp _ omg (get_some_lt k1)).trans k1) rfl
  have d2:=cellOf (i:=0) ((kp _ omg (get_some_lt k2)).trans k2) rfl
  have dv:=cellOf (i:=0) ((kp _ omg (get_some_lt kv)).trans kv) rfl
  have r0:=cellOf (i:=0) aG.rg rfl
  have r1:=cellOf (i:=1) aG.rg rfl
  have r17:=cellOf (i:=17) aG.rg rfl
  unfold ptrV at r0
  have cellj:∀n (hn:n<fs3.size),hcell G2 (elt ⟨G.size,0,none⟩ n)=some fs3[n]:=fun n hn=>by
   rw[elt_mk,Nat.zero_add];exact cellOf k8 (Array.getElem?_eq_getElem hn)
  have hs5:fs3.size=3:=by rw[hfs3];rfl
  obtain⟨TT,hTT⟩:∃T,(st+vn)*g.c=T:=⟨_,rfl⟩
  have hsum:((st:Nat):Int)+((vn:Nat):Int)=((st+vn:Nat):Int):=by omega
  obtain⟨BN,hBN⟩:∃B,st+vn=B:=⟨_,rfl⟩
  have hmul:((BN:Nat):Int)*((g.c:Nat):Int)=((TT:Nat):Int):=by rw[<-hTT,<-hBN,Int.natCast_mul]
  rw[hBN]at hsum
  rw[hTT]at hfit
  have hupi:=up_id a.ok (st+vn)
  rw[hTT]at hupi
  have gst:=growF_stp a.ok a.fok (n:=TT) (by rw[hupi];exact hfit)
  have hgr:=fun he=>grow_run (t:=st+vn) a.ok a.fok I (by rw[hTT];exact hfit) he
  have fin:∀G' s' p' e,SUpd G2 G' sp s1 s'->FsAt s' p'->e≠0->AEnd g st vn p p' e->K (.tuple #[.int .i64 0,.int .i64 e]) G':=fun G' s' p' e u' f' he hend=>by
   have:=H G' s' p' e st ((u.trans u').from_ E8) f' st1 sr hfr (by rw[hTT];exact hfit) hend
   rw[if_neg he]at this
   exact this
  rcases Nat.lt_or_ge j 3 with hj5|hj5
  ·have hcj:=cellj j omg
   have hlt:((j:Nat):Int)<3:=by omega
   simp(disch:=omega)[hcj]
   have h012:j=0\/j=1\/j=2:=by omega
   rcases h012 with rfl|rfl|rfl
   ·obtain rfl:p1=p:=hsg
    rw[show fs3[0]'omg = .func (.func 41) #[] #[.pointer (some ⟨h.size,0,none⟩),.pointer (some ⟨h3.size,0,none⟩),.pointer (some ⟨h.size+1,0,none⟩)] by simp only[hfs3];rfl]
    refine invC3 kR ?_
    refine n41_calls ?_
    unfold n41;try delta vF vG vC vD vJ vV vk vt
    simp(disch:=omega)[d0,d1,d2,r17,hsum,hmul]
    rw[show (.pointer (some ⟨o,0,none⟩):Value)=ptrV o from rfl]
    refine gGrow_c aG omg omg (by rw[Int.toNat_natCast,hupi];exact hfit) fun G5 s2 u2 f2=>?_
    rw[Int.toNat_natCast,<-hTT]at f2 ⊢
    by_cases he0:(growF g ((st+vn)*g.c) p1).2=0
    ·rw[he0]
     simp(disch:=omega)
     exact hX (1,s2,_) _ _ rfl ⟨by omega,u.trans u2,f2,he0,rfl⟩ (by dsimp only;omega)
    ·simp(disch:=omega)[he0]
     exact fin G5 s2 _ _ u2 f2 he0 (.inl ⟨he0,rfl⟩)
   ·obtain⟨he0,hp1⟩:=hsg
    have he0':=he0
    rw[hTT]at he0'
    obtain⟨I1,w1,c1,l1,l2⟩:=hgr he0
    rw[<-hp1]at I1 w1 c1
    rw[<-hTT]at gst
    have hst1:=gst.stp
    rw[<-hp1]at hst1
    rw[show fs3[1]'omg = .func (.func 42) #[] #[.pointer (some ⟨h.size,0,none⟩),.pointer (some ⟨h3.size+1,0,none⟩)] by simp only[hfs3];rfl]
    refine invC2 kR ?_
    refine n42_calls ?_
    unfold n42;try delta vF vG vC vD vJ vV vk vt
    simp(disch:=omega)[d0,dv]
    rw[show (.pointer (some ⟨o,0,none⟩):Value)=ptrV o from rfl]
    have ov2:OwnG i6T 1 G2 (.slice va vn vc) ((runL st vn).map ik):=ov.mod u.mod (fun b hb=>nfoot b (by have:=fv b hb;omega))
    have hkin:∀k,st<=k->k<st+vn->k/g.n<g.m:=fun k h1 h2=>by
     have:=a.ok.n64
     rw[Nat.div_lt_iff_lt_mul omg]
     have:k<g.room:=by omega
     exact this
    refine gAdd_c aG I1 omg ov2 (by rw[runL_len];exact n2) (fun k hk=>by have:=runL_memI.1 hk;omega) (fun _ _ k hk hw=>?_) (fun e1=>absurd e1 dM) (by rw[runL_len];omega) (fun h' e' h1 _=>absurd rfl h1) (fun h' e' _ hno=>absurd ?_ hno) (fun h' e' h1=>absurd h1 dM) (fun h' e' _ _ hex=>?_) (fun h' s' ks bs Q u2 f2=>?_)
    ·have hk':=runL_mem.1 hk
     rw[w1 _ (hkin k hk'.1 hk'.2)]at hw
     exact frees_room a.ok I sr hfr (by rw[hTT];exact hfit) hk'.1 hk'.2 hw
    ·intro k hk
     have:=runL_memI.1 hk
     omega
    ·exfalso
     obtain⟨k,hk,hle⟩:=hex
     have hk':=runL_mem.1 hk
     rw[c1 k (hkin k hk'.1 hk'.2),(hfr k hk'.1 hk'.2).1,runL_cnt,if_pos hk']at hle
     have:2^1<=2^g.w:=Nat.pow_le_pow_right omg a.ok.w64.1
     omega
    ·rw[hp1]at f2 Q ⊢
     by_cases he1:(addF g 1 (cntZ (runL st vn)) ks bs (growF g ((st+vn)*g.c) p).1).2=0
     ·rw[he1]
      simp(disch:=omega)
      exact hX (2,s',_) _ _ rfl ⟨by omega,u.trans u2,f2,ks,bs,he0,Q,he1,.inl ⟨rfl,rfl⟩⟩ (by dsimp only;omega)
     ·simp(disch:=omega)[he1]
      exact fin h' s' _ _ u2 f2 he1 (.inr ⟨ks,bs,he0,Q,.inl ⟨he1,rfl⟩⟩)
   ·obtain⟨ks,bs,he0,Q,he1,hor⟩:=hsg
    have hp1:=hor.resolve_right (fun h=>absurd h.1 dM) |>.2
    rw[show fs3[2]'omg = .func (.func 43) #[] #[.pointer (some ⟨h.size,0,none⟩)] by simp only[hfs3];rfl]
    refine invC1 kR ?_
    refine n43_calls ?_
    unfold n43;try delta vF vG vC vD vJ vV vk vt
    simp(disch:=omega)[d0,r0,r1]
    rw[show (.pointer (some ⟨sp,0,none⟩):Value)=ptrV sp from rfl]
    have hstp:p1.steps+1<1000000:=by
     obtain⟨I1,-,-,-,-⟩:=hgr he0
     rw[<-hTT]at gst
     have h1:=(Q.all a.ok gst.ok I1).1.stp
     have h2:=gst.stp
     rw[runL_len]at h1
     rw[hp1]
     omega
    refine sFlush_c aG.st f1 hstp fun G5 s2 u2 f2=>?_
    by_cases he2:p1.e=0
    ·rw[he2]
     simp(disch:=omega)
     exact hX (3,s2,_) _ _ rfl ⟨by omega,u.trans u2,f2,ks,bs,he0,Q,he1,.inr ⟨rfl,by rw[<-hp1];exact he2,by show p1.flush=_;rw[<-hp1]⟩⟩ (by dsimp only;omega)
    ·simp(disch:=omega)[he2]
     exact fin G5 s2 _ _ u2 f2 he2 (.inr ⟨ks,bs,he0,Q,.inr ⟨he1,by rw[<-hp1],by rw[<-hp1]⟩⟩)
  ·obtain rfl:j=3:=by omega
   obtain⟨ks,bs,he0,Q,he1,hor⟩:=hsg
   obtain⟨-,he2,hp1⟩:=hor.resolve_left (fun h=>absurd h.1 dM)
   obtain⟨SC,hSC⟩:∃S,st*g.c=S:=⟨_,rfl⟩
   have hSCm:((st:Nat):Int)*((g.c:Nat):Int)=((SC:Nat):Int):=by rw[<-hSC,Int.natCast_mul]
   have hSCl:SC<=TT:=by rw[<-hSC,<-hTT];exact Nat.mul_le_mul_right _ omg
   simp(disch:=omega)[d0,d2,r17,hSCm]
   have:=H G2 s1 p1 0 st (u.from_ E8) f1 st1 sr hfr (by rw[hTT];exact hfit) (.inr ⟨ks,bs,he0,Q,.inr ⟨he1,hp1,he2.symm⟩⟩)
   rw[if_pos rfl,hSC]at this
   exact this
end
section
variable {K:VP}{h:Heap}
set_option maxHeartbeats 4000000 in
theorem gOpen_c{sp:Nat}{g:Gm}{x:Hd}{s:St}{p:Fs}(a:StAt h sp s)(f:FsAt s p)(kk:g.ok)(hd:HdOk g x)(I:Img g x p.f.now)
 (H:∀h' o,Ext h h'->h.size<=o->RA h' o sp g x s p->K (.tuple #[ptrV o,.int .i64 0]) h'):CallsH Tryz.prog 9 #[ptrV sp,str nA] h K ⟨⟩:=by
 refine n9_calls ?_
 unfold n9;try delta vF vG vC vD vJ vV vk vt
 have ho:=f.ok a
 have hl:=ho.now_len
 obtain⟨q,hq,hq1,hq2⟩:=kk.c512
 have h0:=I.word_fit kk (i:=0) (by have:=kk.m0;omega)
 refine sRead_c a f omg omg omg omg fun h1 v e1 ov fv=>?_
 have hpl:(part p.f.now 0 512).length=512:=part_len omg
 have ov':OwnT bT 1 h1 v ((part p.f.now 0 512).map byteV):=ov
 simp(disch:=omega)
 refine HRead_c ov'.g.bytes (by rw[hpl];decide) (fun h2 y e2 _ hM hy=>?_) (fun h2 e2 hno=>absurd ⟨by rw[hpl];decide,x,hd.may,by rw[List.take_of_length_le (by rw[hpl];decide),I.head]⟩ hno)
 rw[List.take_of_length_le (by rw[hpl];decide),I.head]at hy
 obtain rfl:y=x:=hdB_inj hM hd.may hy
 have hMA:=hM.1
 obtain⟨b0,b1,-⟩:=hMA
 have hc:=clus b0 b1
 have hbits:=hd.bits
 have hord:=hd.order
 have ho6:=kk.o1
 have hcc:(2:Int)^y.bits.toNat=((g.c:Nat):Int):=by rw[hbits,Int.toNat_natCast];unfold Gm.c;rw[Int.natCast_pow];rfl
 simp(disch:=omega)[-Tryz.st84,-Tryz.ld84,-Tryz.al84]
 refine allocH fun h3 e3 hw3 z3=>?_
 refine storeH (x:=y) hw3 fun h4 m4 hw4=>?_
 have hz2:=e2.size
 have z4:=m4.size
 have E4:Ext h h4:=m4.ext_from (e1.trans (e2.trans e3)) (fun b hb he=>by have:=e1.size;omega)
 simp(disch:=omega)[-Tryz.st84,-Tryz.ld84]
 rw[loadH hw4.at]
 refine ClusterH_c (fun h5 e5 _=>?_) (fun h5 e5 hno=>absurd hM hno)
 have hw5:=hw4.at.ext e5
 rw[hcc,loadH hw5]
 have d5:=hw5.2.2.2.2.2.1
 rw[hord]at d5
 obtain⟨C8,hC8⟩:∃C,8*g.c=C:=⟨_,rfl⟩
 have hC8':(8:Int)*((g.c:Nat):Int)=((C8:Nat):Int):=by omega
 have hshr:C8/2^g.o=g.n:=by
  rw[<-hC8,<-kk.nw]
  exact Nat.mul_div_cancel _ (Nat.pow_pos omg)
 unfold Hd.val Hd.cells
 simp(disch:=omega)[d5,hC8']
 obtain⟨WW,hWW⟩:∃W,g.w=W:=⟨_,rfl⟩
 have hw2:2^g.o=WW:=hWW
 rw[hw2]at hshr
 have hdiv:((C8:Nat):Int)/((WW:Nat):Int)=((g.n:Nat):Int):=by rw[<-Int.natCast_ediv,hshr]
 have hnn:=kk.n64
 rw[Hp_shrW hw2 omg omg,ValI_iff,hdiv]
 unfold ptrV
 simp(disch:=omega)
 obtain⟨h6,hh6⟩:∃X,X=h5.push (.cells #[ptrV sp,str nA,.int .i64 y.bits,.int .u64 y.flags,.int .i64 y.size,.int .i64 y.l1,.int .i64 y.l1len,.int .i64 y.order,.int .i64 y.counts,.int .i64 y.clen,.int .i64 y.snaps,.int .i64 y.sat,.int .i64 y.slen,.int .i64 y.maps,.int .i64 y.mat,.int .i64 y.mlen,str y.back,.int .i64 (g.c:Nat),.int .i64 (g.n:Nat)] 89):=⟨_,rfl⟩
 have e6:Ext h5 h6:=by rw[hh6];exact extS
 have rg:RgAt h6 h5.size sp g y:=by rw[hh6];exact get_pushed rfl
 have hz5:=e5.size
 have E6:=(E4.trans e5).trans e6
 have hz1:=e1.size
 have hz3:=e3.size
 refine (fun hh=>?_:K (.tuple #[ptrV h5.size,.int .i64 0]) h6->_) (H h6 h5.size E6 omg ⟨rg,a.ext E6,f,fun e=>by have:=a.lt e;omega,kk,hd⟩)
 rw[hh6]at hh
 exact hh
end
section
variable {K:VP}{h:Heap}
theorem cvSame{L:List UInt8}(hl:0<L.length)(H:∀h',OwnS 1 h' (.slice (some ⟨h.size,0,none⟩) L.length L.length) (L.map byteV)->Ext h h'->K (.slice (some ⟨h.size,0,none⟩) L.length L.length) h') :
 Hp Tryz.prog false (convert 52 52 (.slice (some ⟨h.size,0,none⟩) L.length L.length)) K (h.push (.cells (L.map byteV).toArray 5)) ⟨⟩:=by
 have ht:Tryz.prog.underlying 52=some (.slice 5):=by kernel_rfl
 have he:Tryz.prog.underlying 5=some (.int .u8):=by kernel_rfl
 rw[Hp_iff]
 unfold convert
 rw[hp_bind',hp_underlying ht,hp_bind',hp_underlying ht]
 simp only
 rw[hp_bind',hp_underlying he]
 simp only[beq_self_eq_true]
 unfold markStringish
 rw[hp_bind',hp_bind']
 show _/\_
 refine⟨rfl,?_⟩
 have hsh:hshape (h.push (.cells (L.map byteV).toArray 5)) h.size=some (5,L.length):=by
  unfold hshape
  simp
 simp only[hsh]
 show _/\_
 refine⟨rfl,?_⟩
 have hfz:hfreeze (h.push (.cells (L.map byteV).toArray 5)) ⟨h.size,L.length,none⟩ 1=h.push (.cells (L.map byteV).toArray 5 (L.length,L.length+1)):=by
  unfold hfreeze
  apply Array.ext_getElem?
  intro j
  rw[if_neg dM,Array.getElem?_modify,Array.getElem?_push,Array.getElem?_push]
  by_cases e:j=h.size
  ·subst e;simp
  ·simp[e,Ne.symm e]
 show K _ (hfreeze _ ⟨h.size,L.length,none⟩ 1)
 rw[hfz]
 exact H _ (.inr ⟨h.size,L.length,L.length,[],5,(L.length,L.length+1),rfl,by simp,Nat.le_refl _,by simp,by simp,fun i hi hh=>by simp at hh hi;omega⟩) (push_ext (.refl _))
theorem acc_appS{h1 h2:Heap}{u:Value}{L m:List UInt8}(a:Acc h h1 u L)(e:Ext h1 h2)(hl:L.length+m.length<1000000000)(H:∀u' h3,Acc h h3 u' (L++m)->K u' h3) :
 Hp Tryz.prog false (Builtin.append_ #[52,9] 52 #[u,str m]) K h2 ⟨⟩:=by
 refine Hp_appStr (e:=5) kR kR (a.own.ext e) omg fun v4 h4 hO4 hM4 hF4 _=>?_
 have z1:=a.ext.size
 have z2:=e.size
 exact H _ _ ⟨hM4.ext_from (a.ext.trans e) (fun b hb hb'=>by have:=a.blk b hb';omega),hO4,fun b hb=>(hF4 b hb).elim (a.blk b) (fun x=>by omega)⟩
set_option maxHeartbeats 4000000 in
theorem RBytes_c{x:Hd}(m:MayH x)(H:∀v h',Ext h h'->Bytes h' v (hdB x)->K v h'):CallsH Tryz.prog 75 #[x.val] h K ⟨⟩:=by
 have b:=m.bd
 obtain⟨bits,flags,size,l1,l1len,order,counts,clen,snaps,sat,slen,maps,mat,mlen,back⟩:=x
 dsimp only at b
 obtain⟨bits,rfl⟩:=Int.eq_ofNat_of_zero_le (show 0<=bits by omega)
 obtain⟨size,rfl⟩:=Int.eq_ofNat_of_zero_le (show 0<=size by omega)
 obtain⟨l1,rfl⟩:=Int.eq_ofNat_of_zero_le (show 0<=l1 by omega)
 obtain⟨l1len,rfl⟩:=Int.eq_ofNat_of_zero_le (show 0<=l1len by omega)
 obtain⟨order,rfl⟩:=Int.eq_ofNat_of_zero_le (show 0<=order by omega)
 obtain⟨counts,rfl⟩:=Int.eq_ofNat_of_zero_le (show 0<=counts by omega)
 obtain⟨clen,rfl⟩:=Int.eq_ofNat_of_zero_le (show 0<=clen by omega)
 obtain⟨snaps,rfl⟩:=Int.eq_ofNat_of_zero_le (show 0<=snaps by omega)
 obtain⟨sat,rfl⟩:=Int.eq_ofNat_of_zero_le (show 0<=sat by omega)
 obtain⟨slen,rfl⟩:=Int.eq_ofNat_of_zero_le (show 0<=slen by omega)
 obtain⟨maps,rfl⟩:=Int.eq_ofNat_of_zero_le (show 0<=maps by omega)
 obtain⟨mat,rfl⟩:=Int.eq_ofNat_of_zero_le (show 0<=mat by omega)
 obtain⟨mlen,rfl⟩:=Int.eq_ofNat_of_zero_le (show 0<=mlen by omega)
 refine n75_calls ?_
 unfold n75;try delta vF vG vC vD vJ vV vk vt
 rw[boxH]
 have hA:=HdAt.new (h:=h) ⟨(bits:Nat),flags,(size:Nat),(l1:Nat),(l1len:Nat),(order:Nat),(counts:Nat),(clen:Nat),(snaps:Nat),(sat:Nat),(slen:Nat),(maps:Nat),(mat:Nat),(mlen:Nat),back⟩
 have e1:Ext h (h.push (.cells (Hd.cells ⟨(bits:Nat),flags,(size:Nat),(l1:Nat),(l1len:Nat),(order:Nat),(counts:Nat),(clen:Nat),(snaps:Nat),(sat:Nat),(slen:Nat),(maps:Nat),(mat:Nat),(mlen:Nat),back⟩).toArray 84)):=extS
 generalize h.push (.cells (Hd.cells ⟨(bits:Nat),flags,(size:Nat),(l1:Nat),(l1len:Nat),(order:Nat),(counts:Nat),(clen:Nat),(snaps:Nat),(sat:Nat),(slen:Nat),(maps:Nat),(mat:Nat),(mlen:Nat),back⟩).toArray 84)=g at *
 unfold HdAt at hA
 dsimp only at hA
 obtain⟨a0,a1,a2,a3,a4,a5,a6,a7,a8,a9,a10,a11,a12,a13,a14⟩:=hA
 simp(disch:=omega)
 refine cvSame (h:=g) (L:=[80,65,76,49]) sM fun h0 hO e2=>?_
 have A0:Acc g h0 (.slice (some ⟨g.size,0,none⟩) 4 4) [80,65,76,49]:=⟨e2,hO,fun b hb=>by simp[blkV]at hb;omega⟩
 have c0:=hcell_ext A0.ext a0
 simp(disch:=omega)[c0]
 refine Number_c (x:=bits) omg omg fun v0 h00 hO0 e0' _=>?_
 refine acc_app A0 e0' hO0.bytes sM fun u1 g1 A1=>?_
 have c1:=hcell_ext A1.ext a1
 simp(disch:=omega)[c1]
 refine Number_c (x:=flags) omg omg fun v1 h1 hO1 e1' _=>?_
 refine acc_app A1 e1' hO1.bytes sM fun u2 g2 A2=>?_
 have c2:=hcell_ext A2.ext a2
 simp(disch:=omega)[c2]
 refine Number_c (x:=size) omg omg fun v2 h2 hO2 e2' _=>?_
 refine acc_app A2 e2' hO2.bytes sM fun u3 g3 A3=>?_
 have c3:=hcell_ext A3.ext a3
 simp(disch:=omega)[c3]
 refine Number_c (x:=l1) omg omg fun v3 h3 hO3 e3' _=>?_
 refine acc_app A3 e3' hO3.bytes sM fun u4 g4 A4=>?_
 have c4:=hcell_ext A4.ext a4
 simp(disch:=omega)[c4]
 refine Number_c (x:=l1len) omg omg fun v4 h4 hO4 e4' _=>?_
 refine acc_app A4 e4' hO4.bytes sM fun u5 g5 A5=>?_
 have c5:=hcell_ext A5.ext a5
 simp(disch:=omega)[c5]
 refine Number_c (x:=order) omg omg fun v5 h5 hO5 e5' _=>?_
 refine acc_app A5 e5' hO5.bytes sM fun u6 g6 A6=>?_
 have c6:=hcell_ext A6.ext a6
 simp(disch:=omega)[c6]
 refine Number_c (x:=counts) omg omg fun v6 h6 hO6 e6' _=>?_
 refine acc_app A6 e6' hO6.bytes sM fun u7 g7 A7=>?_
 have c7:=hcell_ext A7.ext a7
 simp(disch:=omega)[c7]
 refine Number_c (x:=clen) omg omg fun v7 h7 hO7 e7' _=>?_
 refine acc_app A7 e7' hO7.bytes sM fun u8 g8 A8=>?_
 have c8:=hcell_ext A8.ext a8
 simp(disch:=omega)[c8]
 refine Number_c (x:=snaps) omg omg fun v8 h8 hO8 e8' _=>?_
 refine acc_app A8 e8' hO8.bytes sM fun u9 g9 A9=>?_
 have c9:=hcell_ext A9.ext a9
 simp(disch:=omega)[c9]
 refine Number_c (x:=sat) omg omg fun v9 h9 hO9 e9' _=>?_
 refine acc_app A9 e9' hO9.bytes sM fun u10 g10 A10=>?_
 have c10:=hcell_ext A10.ext a10
 simp(disch:=omega)[c10]
 refine Number_c (x:=slen) omg omg fun v10 h10 hO10 e10' _=>?_
 refine acc_app A10 e10' hO10.bytes sM fun u11 g11 A11=>?_
 have c11:=hcell_ext A11.ext a11
 simp(disch:=omega)[c11]
 refine Number_c (x:=maps) omg omg fun v11 h11 hO11 e11' _=>?_
 refine acc_app A11 e11' hO11.bytes sM fun u12 g12 A12=>?_
 have c12:=hcell_ext A12.ext a12
 simp(disch:=omega)[c12]
 refine Number_c (x:=mat) omg omg fun v12 h12 hO12 e12' _=>?_
 refine acc_app A12 e12' hO12.bytes sM fun u13 g13 A13=>?_
 have c13:=hcell_ext A13.ext a13
 simp(disch:=omega)[c13]
 refine Number_c (x:=mlen) omg omg fun v13 h13 hO13 e13' _=>?_
 refine acc_app A13 e13' hO13.bytes sM fun u14 g14 A14=>?_
 have c14:=hcell_ext A14.ext a14
 simp(disch:=omega)[c14]
 refine Number_c (x:=back.length) omg omg fun v14 h14 hO14 e14' _=>?_
 refine acc_app A14 e14' hO14.bytes sM fun u15 g15 A15=>?_
 have c15:=hcell_ext A15.ext a14
 simp(disch:=omega)[c15]
 have hbl:=b.2.2.2.2
 refine acc_appS A15 (.refl _) (by simp;omega) fun u16 g16 A16=>?_
 generalize hL:((([80,65,76,49]++leB (4:Int).toNat bits++leB (8:Int).toNat flags++leB (8:Int).toNat size++leB (8:Int).toNat l1++leB (4:Int).toNat l1len++leB (4:Int).toNat order++leB (8:Int).toNat counts++leB (4:Int).toNat clen++leB (4:Int).toNat snaps++leB (8:Int).toNat sat++leB (4:Int).toNat slen++leB (4:Int).toNat maps++leB (8:Int).toNat mat++leB (4:Int).toNat mlen++leB (4:Int).toNat back.length)++back:List UInt8))=L at A16
 have hLl:L.length=88+back.length:=by rw[<-hL];simp;omega
 refine loopA1 (fun a:Value×Nat=>a.1) (fun a h'=>88+back.length+a.2<=512/\Acc g h' a.1 (L++List.replicate a.2 0)) (fun a=>512-(88+back.length+a.2)) (u16,0) rfl ⟨by simp;omega,by simpa using A16⟩ ?_
 rintro⟨u,k⟩ h5 ⟨hk,A5⟩
 dsimp only at hk A5
 have hB5:=A5.own.bytes
 obtain⟨o,c,rfl⟩:=hB5.form
 by_cases hkk:88+back.length+k=512
 ·have hk2:¬(L.length:Int)+k<512:=by omega
  simp(disch:=omega)[hk2]
  have hfin:L++List.replicate k 0=hdB ⟨(bits:Nat),flags,(size:Nat),(l1:Nat),(l1len:Nat),(order:Nat),(counts:Nat),(clen:Nat),(snaps:Nat),(sat:Nat),(slen:Nat),(maps:Nat),(mat:Nat),(mlen:Nat),back⟩:=by
   rw[<-hL]
   obtain rfl:k=(64-back.length)+360:=by omega
   unfold hdB hdP hdF fieldB
   rw[<-List.replicate_append_replicate]
   generalize List.replicate 360 (0:UInt8)=Z
   simp
  refine H _ _ (e1.trans A5.ext) ?_
  rw[<-hfin]
  simpa using hB5
 ·have hk2:(L.length:Int)+k<512:=by omega
  simp(disch:=omega)[hk2]
  have hO6:OwnS 1 (h5.push (.cells #[.int .u8 0] 5)) (.slice (some ⟨h5.size,0,none⟩) 1 1) (([0]:List UInt8).map byteV):=OwnS_new (vs:=([0]:List UInt8).map byteV) rfl rfl
  have hlen:(L++List.replicate k (0:UInt8)).length=L.length+k:=by simp
  rw[hlen]at A5
  refine acc_app A5 (h2:=h5.push (.cells #[.int .u8 0] 5)) extS hO6.bytes (by rw[hlen];simp;omega) fun u7 h7 A7=>?_
  refine⟨(u7,k+1),rfl,⟨by dsimp only;omega,?_⟩,by dsimp only;omega⟩
  rw[List.append_assoc,<-List.replicate_succ']at A7
  exact A7
end
section
variable {K:VP}{h:Heap}
def numR(l:List UInt8)(p n:Nat):Int:=if 4611686018427387904<leN ((l.drop p).take n) then -1 else leN ((l.drop p).take n)
theorem RNum_c{g:Heap}{v:Value}{l:List UInt8}{p n:Nat}(hB:Bytes g v l)(e:Ext g h)(hl:l.length<1000000000)(hn:n<=8)(h0:0<n)(hp:p+n<=l.length)(H:K (.int .i64 (numR l p n)) h):CallsH Tryz.prog 110 #[v,.int .i64 p,.int .i64 n] h K ⟨⟩:=by
 obtain⟨u,hu,su⟩:=slB2 hB omg p (p+n) omg omg omg
 refine n110_calls ?_
 unfold n110;try delta vF vG vC vD vJ vV vk vt
 simp(disch:=omega)[su]
 have e1:(l.take ((p:Int)+n).toNat).drop (p:Int).toNat=(l.drop p).take n:=by
  rw[show ((p:Int)+n).toNat=p+n by omega,Int.toNat_natCast,List.drop_take,Nat.add_sub_cancel_left]
 rw[e1]at hu
 refine Value_c (hu.ext e) (by simp;omega) ?_
 have hx:=leN_lt8 (l:=(l.drop p).take n) (by simp;omega)
 unfold numR at H
 generalize leN ((l.drop p).take n)=z at *
 by_cases hz:4611686018427387904<z
 ·rw[if_pos hz]at H
  simp(disch:=omega)
  exact H
 ·rw[if_neg hz]at H
  simp(disch:=omega)[Tryz.cvw44_2]
  exact H
def hdR(l:List UInt8):Hd:=⟨numR l 4 4,leN ((l.drop 8).take 8),numR l 16 8,numR l 24 8,numR l 32 4,numR l 36 4,numR l 40 8,numR l 48 4,numR l 52 4,numR l 56 8,numR l 64 4,numR l 68 4,numR l 72 8,numR l 80 4,(l.drop 88).take (leN ((l.drop 84).take 4))⟩
theorem numR_of{l A C:List UInt8}{n x p:Nat}(hl:l=A++(leB n x++C))(hp:A.length=p)(hx:x<256^n):leN ((l.drop p).take n)=x:=by
 subst hl hp
 rw[List.drop_left,List.take_left' sM,leN_leB,Nat.mod_eq_of_lt hx]
theorem hdB_num{x:Hd}(m:MayH x){j:Nat}(hj:j<14):leN (((hdB x).drop (hdAt[j]'hj)).take ((hdF x)[j]'hj).1)=((hdF x)[j]'hj).2:=by
 obtain⟨C,hC⟩:=hdB_split (x:=x) hj
 have hok:=hdF_ok m j hj
 refine numR_of hC (hdP_len hj) ?_
 rcases hok.2.1 with e|e
 ·rw[e,show (256:Nat)^4=4294967296 by decide];omega
 ·rw[e,show (256:Nat)^8=18446744073709551616 by decide];omega
theorem hdB_back{x:Hd}(m:MayH x):leN (((hdB x).drop 84).take 4)=x.back.length/\((hdB x).drop 88).take x.back.length=x.back:=by
 have hbl:=m.bd.2.2.2.2
 have e:hdB x=hdP x 14++(leB 4 x.back.length++(x.back++(List.replicate (64-x.back.length) 0++List.replicate 360 0))):=by
  unfold hdB fieldB
  simp only[List.append_assoc]
 refine⟨numR_of e hdP_14 (by rw[show (256:Nat)^4=4294967296 by decide];omega),?_⟩
 rw[e,<-List.append_assoc,List.drop_left' (by rw[List.length_append,hdP_14,leB_length]),List.take_left]
theorem numR_eq{l:List UInt8}{p n x:Nat}{z:Int}(h:leN ((l.drop p).take n)=x)(hx:x<=268435456)(hz:(x:Int)=z):numR l p n=z:=by
 unfold numR
 rw[h,if_neg omg,hz]
set_option maxHeartbeats 1000000 in
theorem hdR_hdB{x:Hd}(m:MayH x):hdR (hdB x)=x:=by
 have b:=m.bd
 have t_bits:((x.bits.toNat:Nat):Int)=x.bits:=Int.toNat_of_nonneg omg
 have t_size:((x.size.toNat:Nat):Int)=x.size:=Int.toNat_of_nonneg omg
 have t_l1:((x.l1.toNat:Nat):Int)=x.l1:=Int.toNat_of_nonneg omg
 have t_l1len:((x.l1len.toNat:Nat):Int)=x.l1len:=Int.toNat_of_nonneg omg
 have t_order:((x.order.toNat:Nat):Int)=x.order:=Int.toNat_of_nonneg omg
 have t_counts:((x.counts.toNat:Nat):Int)=x.counts:=Int.toNat_of_nonneg omg
 have t_clen:((x.clen.toNat:Nat):Int)=x.clen:=Int.toNat_of_nonneg omg
 have t_snaps:((x.snaps.toNat:Nat):Int)=x.snaps:=Int.toNat_of_nonneg omg
 have t_sat:((x.sat.toNat:Nat):Int)=x.sat:=Int.toNat_of_nonneg omg
 have t_slen:((x.slen.toNat:Nat):Int)=x.slen:=Int.toNat_of_nonneg omg
 have t_maps:((x.maps.toNat:Nat):Int)=x.maps:=Int.toNat_of_nonneg omg
 have t_mat:((x.mat.toNat:Nat):Int)=x.mat:=Int.toNat_of_nonneg omg
 have t_mlen:((x.mlen.toNat:Nat):Int)=x.mlen:=Int.toNat_of_nonneg omg
 have g:∀j (hj:j<14),leN (((hdB x).drop (hdAt[j]'hj)).take ((hdF x)[j]'hj).1)=((hdF x)[j]'hj).2:=fun j hj=>hdB_num m hj
 have gb:=fun j hj=>(hdF_ok m j hj).2.2
 have hb:=hdB_back m
 generalize hdB x=L at g hb ⊢
 have g0:=g 0 dM
 have k0:=gb 0 dM
 have g1:=g 1 dM
 have k1:=gb 1 dM
 have g2:=g 2 dM
 have k2:=gb 2 dM
 have g3:=g 3 dM
 have k3:=gb 3 dM
 have g4:=g 4 dM
 have k4:=gb 4 dM
 have g5:=g 5 dM
 have k5:=gb 5 dM
 have g6:=g 6 dM
 have k6:=gb 6 dM
 have g7:=g 7 dM
 have k7:=gb 7 dM
 have g8:=g 8 dM
 have k8:=gb 8 dM
 have g9:=g 9 dM
 have k9:=gb 9 dM
 have g10:=g 10 dM
 have k10:=gb 10 dM
 have g11:=g 11 dM
 have k11:=gb 11 dM
 have g12:=g 12 dM
 have k12:=gb 12 dM
 have g13:=g 13 dM
 have k13:=gb 13 dM
 simp only[hdAt,hdF,List.getElem_cons_zero,List.getElem_cons_succ]at g0 k0 g1 k1 g2 k2 g3 k3 g4 k4 g5 k5 g6 k6 g7 k7 g8 k8 g9 k9 g10 k10 g11 k11 g12 k12 g13 k13
 unfold hdR
 rw[hb.1,hb.2,g1]
 rw[numR_eq g0 k0 t_bits]
 rw[numR_eq g2 k2 t_size]
 rw[numR_eq g3 k3 t_l1]
 rw[numR_eq g4 k4 t_l1len]
 rw[numR_eq g5 k5 t_order]
 rw[numR_eq g6 k6 t_counts]
 rw[numR_eq g7 k7 t_clen]
 rw[numR_eq g8 k8 t_snaps]
 rw[numR_eq g9 k9 t_sat]
 rw[numR_eq g10 k10 t_slen]
 rw[numR_eq g11 k11 t_maps]
 rw[numR_eq g12 k12 t_mat]
 rw[numR_eq g13 k13 t_mlen]
end
section
variable {K:VP}{h:Heap}
theorem tk512{l:List UInt8}{p n:Nat}(hp:p+n<=512):((l.take 512).drop p).take n=(l.drop p).take n:=by
 rw[List.drop_take,List.take_take]
 congr 1;omega
theorem hdR_512{l:List UInt8}(hn:leN ((l.drop 84).take 4)<=64):hdR (l.take 512)=hdR l:=by
 unfold hdR numR
 rw[tk512 (p:=84) (n:=4) omg,tk512 (p:=88) (n:=leN ((l.drop 84).take 4)) omg]
 rw[tk512 (p:=4) (n:=4) omg,tk512 (p:=8) (n:=8) omg,tk512 (p:=16) (n:=8) omg,tk512 (p:=24) (n:=8) omg,tk512 (p:=32) (n:=4) omg,tk512 (p:=36) (n:=4) omg,tk512 (p:=40) (n:=8) omg,tk512 (p:=48) (n:=4) omg,tk512 (p:=52) (n:=4) omg,tk512 (p:=56) (n:=8) omg,tk512 (p:=64) (n:=4) omg,tk512 (p:=68) (n:=4) omg,tk512 (p:=72) (n:=8) omg,tk512 (p:=80) (n:=4) omg]
set_option maxHeartbeats 8000000 in
theorem RRead_c{v:Value}{l:List UInt8}(hB:Bytes h v l)(hl:l.length<1000000000)
 (ht:∀h' x,Ext h h'->512<=l.length->MayH x->hdB x=l.take 512->K (.tuple #[x.val,.bool true]) h') (hf:∀h',Ext h h'->¬IsHd l->K (.tuple #[Hd0.val,.bool false]) h') :
 CallsH Tryz.prog 54 #[v] h K ⟨⟩:=by
 obtain⟨o,q0,rfl⟩:=hB.form
 refine n54_calls ?_
 unfold n54;try delta vF vG vC vD vJ vV vk vt
 refine allocH fun g e0 hz zg=>?_
 have hz:HdW g h.size Hd0:=hz
 by_cases h512:l.length<512
 ·skip
  simp(disch:=omega)[-Tryz.st84,-Tryz.ld84,-Tryz.al84]
  refine storeH (x:=Hd0) hz fun g6 m6 hw6=>?_
  rw[loadCellH hw6.at]
  exact hf _ (m6.ext_from (e0) (fun b hb e=>by omega)) (fun i=>by have:=i.1;omega)
 have hBg:=hB.ext e0
 simp(disch:=omega)[-Tryz.st84,-Tryz.ld84,-Tryz.al84]
 refine RNum_c (p:=84) (n:=4) hBg (.refl _) hl omg omg omg ?_
 obtain⟨n84,hn84⟩:∃n,leN ((l.drop 84).take 4)=n:=⟨_,rfl⟩
 have hnb:n84<4294967296:=by
  have:=leN_lt ((l.drop 84).take 4)
  rw[List.length_take,List.length_drop,Nat.min_eq_left omg,show (256:Nat)^4=4294967296 by decide]at this
  omega
 have hnr:numR l 84 4=n84:=by
  unfold numR
  rw[hn84,if_neg omg]
 rw[hnr]
 by_cases h64:64<n84
 ·have hno:¬IsHd l:=fun i=>by
   obtain⟨-,x,hx,hxl⟩:=i
   have h1:=(hdB_back hx).1
   rw[hxl,tk512 omg,hn84]at h1
   have:=hx.bd.2.2.2.2
   omega
  have h64':(64:Int)<n84:=by omega
  simp(disch:=omega)[-Tryz.st84,-Tryz.ld84,-Tryz.al84,h64']
  refine storeH (x:=Hd0) hz fun g6 m6 hw6=>?_
  rw[loadCellH hw6.at]
  exact hf _ (m6.ext_from (e0) (fun b hb e=>by omega)) (hno)
 have h64':¬(64:Int)<n84:=by omega
 obtain⟨u8,hu8,su8⟩:=slB2 hBg omg 8 16 omg omg omg
 obtain⟨u9,hu9,su9⟩:=slB2 hBg omg 88 (88+n84) omg omg omg
 have hu8':Bytes g u8 ((l.drop 8).take 8):=by
  have:(l.take (16:Int).toNat).drop (8:Int).toNat=(l.drop 8).take 8:=by rw[List.drop_take];rfl
  rw[<-this];exact hu8
 have hu9':Bytes g u9 ((l.drop 88).take n84):=by
  have:(l.take (88+(n84:Int)).toNat).drop (88:Int).toNat=(l.drop 88).take n84:=by
   rw[show (88+(n84:Int)).toNat=88+n84 by omega,show (88:Int).toNat=88 from rfl,List.drop_take,Nat.add_sub_cancel_left]
  rw[<-this];exact hu9
 simp(disch:=omega)[-Tryz.st84,-Tryz.ld84,-Tryz.al84,h64']
 have hX:(⟨numR l 4 4,leN ((l.drop 8).take 8),numR l 16 8,numR l 24 8,numR l 32 4,numR l 36 4,numR l 40 8,numR l 48 4,numR l 52 4,numR l 56 8,numR l 64 4,numR l 68 4,numR l 72 8,numR l 80 4,(l.drop 88).take n84⟩:Hd)=hdR l:=by unfold hdR;rw[hn84]
 refine JoinN_in1 (fun w g'=>w = .pointer (some ⟨g.size,0,none⟩)/\HdW g' g.size ⟨numR l 4 4,leN ((l.drop 8).take 8),numR l 16 8,numR l 24 8,numR l 32 4,numR l 36 4,numR l 40 8,numR l 48 4,numR l 52 4,numR l 56 8,numR l 64 4,numR l 68 4,numR l 72 8,numR l 80 4,(l.drop 88).take n84⟩/\Ext g g') (fun kk hkk=>?_) (fun w g' hx=>?_)
 ·have cvg:=fun q K=>Tryz.cv52_9 (q:=q) (K:=K) hu9'
  have cv2:=fun q K=>Tryz.cv52_9 (q:=q) (K:=K) hu9'
  simp(disch:=omega)[-Tryz.st84,-Tryz.ld84,-Tryz.al84,su8,su9,cvg]
  repeat' (first|(refine And.intro ?_ ?_)|(refine RNum_c (p:=4) (n:=4) hBg (by first|exact Ext.refl _|assumption) hl omg omg omg ?_;(try simp(disch:=omega)[-Tryz.st84,-Tryz.ld84,-Tryz.al84,cvg,cv2]))|(refine RNum_c (p:=16) (n:=8) hBg (by first|exact Ext.refl _|assumption) hl omg omg omg ?_;(try simp(disch:=omega)[-Tryz.st84,-Tryz.ld84,-Tryz.al84,cvg,cv2]))|(refine RNum_c (p:=24) (n:=8) hBg (by first|exact Ext.refl _|assumption) hl omg omg omg ?_;(try simp(disch:=omega)[-Tryz.st84,-Tryz.ld84,-Tryz.al84,cvg,cv2]))|(refine RNum_c (p:=32) (n:=4) hBg (by first|exact Ext.refl _|assumption) hl omg omg omg ?_;(try simp(disch:=omega)[-Tryz.st84,-Tryz.ld84,-Tryz.al84,cvg,cv2]))|(refine RNum_c (p:=36) (n:=4) hBg (by first|exact Ext.refl _|assumption) hl omg omg omg ?_;(try simp(disch:=omega)[-Tryz.st84,-Tryz.ld84,-Tryz.al84,cvg,cv2]))|(refine RNum_c (p:=40) (n:=8) hBg (by first|exact Ext.refl _|assumption) hl omg omg omg ?_;(try simp(disch:=omega)[-Tryz.st84,-Tryz.ld84,-Tryz.al84,cvg,cv2]))|(refine RNum_c (p:=48) (n:=4) hBg (by first|exact Ext.refl _|assumption) hl omg omg omg ?_;(try simp(disch:=omega)[-Tryz.st84,-Tryz.ld84,-Tryz.al84,cvg,cv2]))|(refine RNum_c (p:=52) (n:=4) hBg (by first|exact Ext.refl _|assumption) hl omg omg omg ?_;(try simp(disch:=omega)[-Tryz.st84,-Tryz.ld84,-Tryz.al84,cvg,cv2]))|(refine RNum_c (p:=56) (n:=8) hBg (by first|exact Ext.refl _|assumption) hl omg omg omg ?_;(try simp(disch:=omega)[-Tryz.st84,-Tryz.ld84,-Tryz.al84,cvg,cv2]))|(refine RNum_c (p:=64) (n:=4) hBg (by first|exact Ext.refl _|assumption) hl omg omg omg ?_;(try simp(disch:=omega)[-Tryz.st84,-Tryz.ld84,-Tryz.al84,cvg,cv2]))|(refine RNum_c (p:=68) (n:=4) hBg (by first|exact Ext.refl _|assumption) hl omg omg omg ?_;(try simp(disch:=omega)[-Tryz.st84,-Tryz.ld84,-Tryz.al84,cvg,cv2]))|(refine RNum_c (p:=72) (n:=8) hBg (by first|exact Ext.refl _|assumption) hl omg omg omg ?_;(try simp(disch:=omega)[-Tryz.st84,-Tryz.ld84,-Tryz.al84,cvg,cv2]))|(refine RNum_c (p:=80) (n:=4) hBg (by first|exact Ext.refl _|assumption) hl omg omg omg ?_;(try simp(disch:=omega)[-Tryz.st84,-Tryz.ld84,-Tryz.al84,cvg,cv2]))|(refine Value_c (hu8'.ext (by first|exact Ext.refl _|assumption)) (by simp;omega) ?_;(try simp(disch:=omega)[-Tryz.st84,-Tryz.ld84,-Tryz.al84,cvg,cv2]))|(refine allocH fun g2 e2 hz2 zg2=>?_;have cv2:=fun q K=>Tryz.cv52_9 (q:=q) (K:=K) (hu9'.ext e2);(try simp(disch:=omega)[-Tryz.st84,-Tryz.ld84,-Tryz.al84,cvg,cv2]))|(refine storeH (x:=⟨numR l 4 4,leN ((l.drop 8).take 8),numR l 16 8,numR l 24 8,numR l 32 4,numR l 36 4,numR l 40 8,numR l 48 4,numR l 52 4,numR l 56 8,numR l 64 4,numR l 68 4,numR l 72 8,numR l 80 4,(l.drop 88).take n84⟩) hz2 fun g3 m3 hw3=>?_;exact hkk _ _ ⟨rfl,hw3,m3.ext_from e2 (fun b hb e=>by omega)⟩))
 ·obtain⟨rfl,hw,e5⟩:=hx
  rw[hX]at hw
  have hno:∀x,MayH x->hdB x=l.take 512->x=hdR l:=fun x hx hxl=>by
   rw[<-hdR_512 omg,<-hxl,hdR_hdB hx]
  have hT:Bytes g' (.slice o l.length q0) l:=hBg.ext e5
  rw[loadH hw.at]
  refine May_c (x:=hdR l) (by show ((l.drop 88).take _).length<_;rw[List.length_take,List.length_drop];omega) (fun h6 e6 hM=>?_) (fun h6 e6 hM=>?_)
  ·obtain⟨u,hu,su⟩:=slB0 (hT.ext e6) omg 512 omg omg
   have hw6:=hw.ext e6
   have hz6:=hz.ext (e5.trans e6)
   have E6:=e0.trans (e5.trans e6)
   have lx:=fun q K=>loadH (q:=q) (K:=K) hw6.at
   have cu:=fun q K=>Tryz.cv52_9 (q:=q) (K:=K) hu
   simp(disch:=omega)[-Tryz.st84,-Tryz.ld84,-Tryz.al84,lx,su,cu]
   refine RBytes_c hM fun vv h7 e7 hB7=>?_
   have cu7:=fun q K=>Tryz.cv52_9 (q:=q) (K:=K) (hu.ext e7)
   have c7:=fun q K=>Tryz.cv52_9 (q:=q) (K:=K) hB7
   have hw7:=hw6.ext e7
   have hz7:=hz6.ext e7
   have lx7:=fun q K=>loadH (q:=q) (K:=K) hw7.at
   have E7:=E6.trans e7
   by_cases he:hdB (hdR l)=l.take 512
   ·simp(disch:=omega)[-Tryz.st84,-Tryz.ld84,-Tryz.al84,lx7,cu7,c7,he]
    refine storeH (x:=hdR l) hz7 fun g8 m8 hw8=>?_
    rw[loadCellH hw8.at]
    exact ht _ _ (m8.ext_from E7 (fun b hb e=>by omega)) omg hM he
   ·simp(disch:=omega)[-Tryz.st84,-Tryz.ld84,-Tryz.al84,lx7,cu7,c7,he]
    refine storeH (x:=Hd0) hz7 fun g6 m6 hw6=>?_
    rw[loadCellH hw6.at]
    exact hf _ (m6.ext_from (E7) (fun b hb e=>by omega)) (fun i=>i.2.elim fun x hx=>he (by rw[<-hno x hx.1 hx.2];exact hx.2))
  ·have hz6:=hz.ext (e5.trans e6)
   have E6:=e0.trans (e5.trans e6)
   simp(disch:=omega)[-Tryz.st84,-Tryz.ld84,-Tryz.al84]
   refine storeH (x:=Hd0) hz6 fun g6 m6 hw6=>?_
   rw[loadCellH hw6.at]
   exact hf _ (m6.ext_from (E6) (fun b hb e=>by omega)) (fun i=>i.2.elim fun x hx=>hM (by rw[<-hno x hx.1 hx.2];exact hx.1))
end
section
variable {K:VP}{h:Heap}
end
section
variable {K:VP}{h:Heap}
end
section
variable {K:VP}{h:Heap}
theorem bPart2{ad:Addr}{n c:Nat}{l:List UInt8}(hB:Bytes h (.slice (some ad) n c) l){i m:Nat}(hi:i+m<=l.length)(hm:0<m) :
 Bytes h (.slice (some (sub ad i c)) m (c-i)) (part l i m):=by
 obtain⟨a,e,hn,hc,hA⟩:=hB.at omg
 cases e
 refine .inr ⟨sub ad i c,c-i,?_,?_,?_⟩
 ·rw[part_len hi]
 ·rw[part_len hi];omega
 ·have:=hA.part i (i+m) c omg hi hc
  unfold part
  rw[show (l.drop i).take m=(l.take (i+m)).drop i by rw[List.drop_take];congr 1;omega]
  exact this
theorem lBytes_c{sp:Nat}{s:St}{p:Fs}(a:StAt h sp s)(f:FsAt s p)(H:∀h' v,Ext h h'->OwnT bT 1 h' v (p.f.now.map byteV)->(∀b,blkV v=some b->h.size<=b)->K v h') :
 CallsH Tryz.prog 18 #[ptrV sp] h K ⟨⟩:=by
 refine n18_calls ?_
 unfold n18;try delta vF vG vC vD vJ vV vk vt
 have ho:=f.ok a
 have hl:=ho.now_len
 have hf:=ho.few
 rw[show str [97]=str nA from rfl]
 refine sRead_c a f omg omg omg omg fun h1 v e1 ov fv=>?_
 simp(disch:=omega)
 have:(p.f.now.drop (0:Int).toNat).take (268435456:Int).toNat=p.f.now:=by
  rw[show (0:Int).toNat=0 from rfl,show (268435456:Int).toNat=268435456 from rfl,List.drop_zero,List.take_of_length_le omg]
 rw[this]at ov
 exact H h1 v e1 ov fv
theorem Per_c{g:Gm}(kk:g.ok)(H:K (.int .i64 (g.n:Nat)) h):CallsH Tryz.prog 10 #[.int .i64 (g.b:Nat),.int .i64 (g.o:Nat)] h K ⟨⟩:=by
 refine n10_calls ?_
 unfold n10;try delta vF vG vC vD vJ vV vk vt
 have h0:=kk.b0
 have h1:=kk.b1
 refine Cluster_c omg omg ?_
 have hcc:(2:Int)^((g.b:Nat):Int).toNat=((g.c:Nat):Int):=by rw[Int.toNat_natCast];unfold Gm.c;rw[Int.natCast_pow];rfl
 rw[hcc]
 obtain⟨q,hq,hq1,hq2⟩:=kk.c512
 obtain⟨C8,hC8⟩:∃C,8*g.c=C:=⟨_,rfl⟩
 have hC8':(8:Int)*((g.c:Nat):Int)=((C8:Nat):Int):=by omega
 simp(disch:=omega)[hC8']
 refine RefWidth_c ?_
 rw[kk.wd_w]
 have hw:=kk.w64
 have hdiv:((C8:Nat):Int)/((g.w:Nat):Int)=((g.n:Nat):Int):=by
  rw[<-Int.natCast_ediv,<-hC8,<-kk.nw,Nat.mul_div_cancel _ omg]
 simp(disch:=omega)[hdiv]
 exact H
set_option maxHeartbeats 8000000 in
theorem rCount_c{g:Gm}{x:Hd}{B:List UInt8}{v:Value}{k:Int}(kk:g.ok)(hd:HdOk g x)(I:Img g x B)(hB:Bytes h v B)(hk0 : -9223372036854775808<=k/\k<9223372036854775808)
 (H0:∀h',Ext h h'->¬(0<=k/\k<g.room)->K (.tuple #[.int .u64 0,.bool false]) h')
 (H1:∀h',Ext h h'->0<=k->k<g.room->K (.tuple #[.int .u64 (g.cnt B k.toNat:Nat),.bool true]) h') :
 CallsH Tryz.prog 17 #[v,.int .i64 k] h K ⟨⟩:=by
 refine n17_calls ?_
 unfold n17;try delta vF vG vC vD vJ vV vk vt
 have hfew:=I.few
 refine RRead_c hB omg (fun h1 y e1 h512 hM hy=>?_) (fun h1 e1 hno=>?_)
 ·have hhead:B.take 512=hdB x:=by have:=I.head;unfold part at this;rw[List.drop_zero]at this;exact this
  rw[hhead]at hy
  obtain rfl:y=x:=hdB_inj hM hd.may hy
  simp(disch:=omega)[-Tryz.st84,-Tryz.ld84,-Tryz.al84]
  refine allocH fun h3 e3 hw3 z3=>?_
  refine storeH (x:=y) hw3 fun h4 m4 hw4=>?_
  have hz1:=e1.size
  have z4:=m4.size
  have E4:Ext h h4:=m4.ext_from (e1.trans e3) (fun b hb he=>by omega)
  have hA:=hw4.at
  by_cases hkn:k<0
  ·simp(disch:=omega)[hkn]
   exact H0 h4 E4 omg
  have d0:=hA.1
  have d5:=hA.2.2.2.2.2.1
  have d6:=hA.2.2.2.2.2.2.1
  have d7:=hA.2.2.2.2.2.2.2.1
  rw[hd.bits]at d0
  rw[hd.order]at d5
  rw[hd.counts]at d6
  rw[hd.clen]at d7
  have hb0:=kk.b0
  have hb1:=kk.b1
  have hnn:=kk.n64
  have hrl:=kk.room_lt
  obtain⟨k,rfl⟩:=Int.eq_ofNat_of_zero_le (Int.not_lt.1 hkn)
  have hcc:(2:Int)^((g.b:Nat):Int).toNat=((g.c:Nat):Int):=by rw[Int.toNat_natCast];unfold Gm.c;rw[Int.natCast_pow];rfl
  simp(disch:=omega)[hkn,d0]
  refine Cluster_c omg omg ?_
  rw[hcc]
  simp(disch:=omega)[d0,d5]
  refine Per_c kk ?_
  obtain⟨D,hD⟩:∃D,k/g.n=D:=⟨_,rfl⟩
  obtain⟨M,hM'⟩:∃M,k%g.n=M:=⟨_,rfl⟩
  have hkd:((k:Nat):Int)/((g.n:Nat):Int)=((D:Nat):Int):=by rw[<-hD];exact (Int.natCast_ediv _ _).symm
  have hkm:((k:Nat):Int)%((g.n:Nat):Int)=((M:Nat):Int):=by rw[<-hM'];exact (Int.natCast_emod _ _).symm
  have hDk:D<=k:=by rw[<-hD];exact Nat.div_le_self _ _
  obtain⟨LC,hLC⟩:∃L,g.L*g.c=L:=⟨_,rfl⟩
  have hLC':((g.L:Nat):Int)*((g.c:Nat):Int)=((LC:Nat):Int):=by rw[<-hLC,Int.natCast_mul]
  have hm8:=kk.m8
  rw[hLC]at hm8 hrl
  have hLC8:((LC:Nat):Int)/8=((g.m:Nat):Int):=by omega
  obtain⟨AD,hAD⟩:∃A,g.c+8*D=A:=⟨_,rfl⟩
  have hAD':((g.c:Nat):Int)+8*((D:Nat):Int)=((AD:Nat):Int):=by omega
  have hDb:D<=k/64:=by rw[<-hD];exact Nat.div_le_div_left hnn.1 omg
  have hroom:(D<g.m↔k<g.room):=by
   rw[<-hD,Nat.div_lt_iff_lt_mul omg];exact Iff.rfl
  by_cases hDm:¬D<g.m
  ·have hge:((D:Nat):Int)>=((g.m:Nat):Int):=by omega
   simp(disch:=omega)[d6,d7,hkd,hAD',hLC',hLC8,hge]
   exact H0 h4 E4 (fun hh=>hDm (hroom.2 omg))
  replace hDm:=Classical.not_not.1 hDm
  have hkr:=hroom.1 hDm
  have hnge:¬((D:Nat):Int)>=((g.m:Nat):Int):=by omega
  have hwf:=I.word_fit kk hDm
  rw[hAD]at hwf
  obtain⟨vo,vc,rfl⟩:=hB.form
  obtain⟨va,rfl,-,hvc,hvA⟩:=hB.at omg
  have hB4:=hB.ext E4
  have hcnt:g.cnt B k=if g.word B D=0 then 0 else Vc.cnt (g.blk B D) g.w M:=by unfold Gm.cnt;rw[hD,hM']
  rw[Int.toNat_natCast,hcnt]at H1
  have hMn:M<g.n:=by rw[<-hM'];exact Nat.mod_lt _ omg
  have hA1:((AD:Nat):Int)+8=((AD+8:Nat):Int):=by omega
  have hA2:(((AD:Nat):Int)+8).toNat-AD=8:=by omega
  have hngt:¬((AD:Nat):Int)>((B.length:Nat):Int)-8:=by omega
  simp(disch:=omega)[d6,d7,hkd,hAD',hLC',hLC8,hnge,hngt,hA2]
  refine Value_c (bPart2 hB4 (i:=AD) (m:=8) omg omg) (by rw[part_len omg];decide) ?_
  have hwd:leN (part B AD 8)=g.word B D:=by rw[<-hAD];rfl
  rw[hwd]
  by_cases hw:g.word B D=0
  ·rw[if_pos hw]at H1
   rw[hw]
   simp(disch:=omega)
   exact H1 h4 E4 omg omg
  ·rw[if_neg hw]at H1
   obtain⟨hp,hle⟩:=I.wi D hDm hw
   have hbl:=blk_len I hDm hw
   rw[<-hp]at hle
   have hblk:g.blk B D=part B (g.word B D) g.c:=by unfold Gm.blk;rw[hp]
   rw[hblk]at H1 hbl
   generalize g.word B D=W at *
   have hsum:((W:Nat):Int)+((g.c:Nat):Int)=((W+g.c:Nat):Int):=by omega
   have hs2:(((W+g.c:Nat):Int)).toNat-W=g.c:=by omega
   obtain⟨q,hq,hq1,hq2⟩:=kk.c512
   have hngt2:¬((W:Nat):Int)>((B.length:Nat):Int)-((g.c:Nat):Int):=by omega
   have hw0:¬((W:Nat):Int)=0:=by omega
   obtain⟨WC,hWC⟩:∃X,W+g.c=X:=⟨_,rfl⟩
   rw[hWC]at hsum hs2 hle
   have hs3:WC-W=g.c:=by omega
   simp(disch:=omega)[hw0,hngt2,hsum,d5,hkm,hs3]
   have hin:=kk.in_block hMn
   have hwd2:=kk.wd_w
   have hw64:=kk.w64
   refine RefAt_c (o:=((g.o:Nat):Int)) (n:=M) (bPart2 hB4 (i:=W) (m:=g.c) omg omg) (by rw[hbl];omega) (by rw[hwd2];omega) (by rw[hwd2,hbl];exact hin) ?_
   rw[hwd2]
   exact H1 h4 E4 omg omg
 ·refine absurd (show IsHd B from ⟨?_,x,hd.may,?_⟩) hno
  ·obtain⟨q,hq,hq1,hq2⟩:=kk.c512
   have:=I.word_fit kk (i:=0) (by have:=kk.m0;omega)
   omega
  ·have:=I.head;unfold part at this;rw[List.drop_zero]at this;exact this.symm
end
section
variable {K:VP}{h:Heap}
theorem ext_modN{S:Nat->Prop}{h1 h2:Heap}(e:Ext h h1)(m:Mod S h1 h2)(hS:∀b,S b->h.size<=b):Ext h h2:=m.ext_from e (fun b hb hs=>by have:=hS b hs;omega)
theorem rOver_c{k:Nat}{v w:Value}{l m:List UInt8}(hB:Bytes h v l)(hx:Bytes h w m)(hl:l.length<1000000000)(hk:k+m.length<=l.length)(h0:0<l.length)
 (H:∀v' h',Ext h h'->OwnS 1 h' v' ((over l k m).map byteV)->(∀b,blkV v'=some b->h.size<=b)->K v' h') :
 CallsH Tryz.prog 74 #[v,.int .i64 (k:Nat),w] h K ⟨⟩:=by
 refine n74_calls ?_
 unfold n74;try delta vF vG vC vD vJ vV vk vt
 obtain⟨o,c,rfl⟩:=hB.form
 obtain⟨a,rfl,-,hq,hAt⟩:=hB.at h0
 have hP1:Bytes h (.slice (some a) k c) (l.take k):=by
  have hp:=hAt.part 0 k c omg omg hq
  rw[sub_zero,List.drop_zero]at hp
  exact .inr ⟨_,_,by congr 1;simp;omega,by simp;omega,hp⟩
 have hP2:Bytes h (.slice (some (sub a (k+m.length) c)) (l.length-(k+m.length)) (c-(k+m.length))) (l.drop (k+m.length)):=by
  have hp:=hAt.part (k+m.length) l.length c omg omg hq
  rw[List.take_length]at hp
  exact .inr ⟨_,_,by congr 1;simp,by simp;omega,hp⟩
 have hn1:((k:Nat):Int).toNat=k:=Int.toNat_natCast k
 obtain⟨wo,wc,rfl⟩:=hx.form
 refine (Hp_slcNH kR omg omg).2 ?_
 rw[hn1,ValT_iff]
 refine Hp_appB (e:=5) (l:=[]) kR kR .nil hP1 (by simp;omega) fun v1 h1 o1 m1 f1 _=>?_
 have e1:Ext h h1:=m1.ext (fun b _ e=>by cases e)
 have g1:∀b,blkV v1=some b->h.size<=b:=fun b hb=>(f1 b hb).resolve_left (by rintro⟨⟩)
 simp only[List.nil_append]at o1
 have ll1:(l.take k).length=k:=by simp;omega
 refine Hp_appB (e:=5) (l:=l.take k) kR kR o1 (hx.ext e1) (by rw[ll1];omega) fun v2 h2 o2 m2 f2 _=>?_
 have e2:Ext h h2:=ext_modN e1 m2 g1
 have s1:=e1.size
 have g2:∀b,blkV v2=some b->h.size<=b:=fun b hb=>(f2 b hb).elim (g1 b) (fun x=>by omega)
 obtain⟨E,hE⟩:∃E,k+m.length=E:=⟨_,rfl⟩
 have hkm:((k:Nat):Int)+((m.length:Nat):Int)=((E:Nat):Int):=by omega
 simp(disch:=omega)[hkm]
 rw[hE]at hP2 hk
 refine Hp_appB (e:=5) (l:=l.take k++m) kR kR o2 (hP2.ext e2) (by rw[List.length_append,ll1,List.length_drop];omega) fun v3 h3 o3 m3 f3 _=>?_
 have e3:Ext h h3:=ext_modN e2 m3 g2
 have s2:=e2.size
 subst hE
 exact H v3 h3 e3 o3 (fun b hb=>(f3 b hb).elim (g2 b) (fun x=>by omega))
end
section
variable {K:VP}{h:Heap}
def wkT:Nat:=130
def hoT:Nat:=183
def fiT:Nat:=134
def hoV(k:Nat):List Value:=[.int .i64 (k:Nat),.int .i64 1]
def fiV(f:Nat×Nat×Nat):List Value:=[.int .i64 7,.int .i64 (f.1:Nat),.int .u64 (f.2.1:Nat),.int .u64 (f.2.2:Nat)]
structure Wk where
 bv:Value
 hv:Value
 fv:Value
 rv:Value
 kv:Value
 br:Bool
 cl:Int
 hd:Int
 act:Bool
def Wk.cells(W:Wk)(x:Hd):Array Value :=
 #[W.bv,.int .i64 x.bits,.int .u64 x.flags,.int .i64 x.size,.int .i64 x.l1,.int .i64 x.l1len,.int .i64 x.order,.int .i64 x.counts,.int .i64 x.clen,.int .i64 x.snaps,.int .i64 x.sat,.int .i64 x.slen,.int .i64 x.maps,.int .i64 x.mat,.int .i64 x.mlen,str x.back,
  W.hv,W.fv,W.rv,.bool W.br,.int .i64 W.cl,.int .i64 W.hd,.int .i64 0,.int .i64 0,.int .i64 0,.bool W.act,W.kv]
structure WkAt (g0 h:Heap) (w:Nat) (x:Hd) (W:Wk) (B:List UInt8) (H:List Nat) (F R:List (Nat×Nat×Nat)) (Bk:List Nat):Prop where
 ext:Ext g0 h
 c:h[w]? = some (.cells (W.cells x) wkT)
 b:Bytes g0 W.bv B
 hh:OwnG hoT 2 h W.hv (H.flatMap hoV)
 ff:OwnG fiT 4 h W.fv (F.flatMap fiV)
 rr:OwnG fiT 4 h W.rv (R.flatMap fiV)
 kk:OwnG i6T 1 h W.kv (Bk.map fun k=>.int .i64 (k:Nat))
 nw:g0.size<=w
 nh:∀b,blkG W.hv=some b->g0.size<=b
 nf:∀b,blkG W.fv=some b->g0.size<=b
 nr:∀b,blkG W.rv=some b->g0.size<=b
 nk:∀b,blkG W.kv=some b->g0.size<=b
 rf:∀b,blkG W.rv=some b->blkG W.fv≠some b
variable {g0:Heap}{w:Nat}{x:Hd}{W:Wk}{B:List UInt8}{H:List Nat}{F R:List (Nat×Nat×Nat)}{Bk:List Nat}
theorem WkAt.ext'{h':Heap}(a:WkAt g0 h w x W B H F R Bk)(e:Ext h h'):WkAt g0 h' w x W B H F R Bk :=
 ⟨a.ext.trans e,(e.block _ (get_some_lt a.c)).trans a.c,a.b,a.hh.ext e,a.ff.ext e,a.rr.ext e,a.kk.ext e,a.nw,a.nh,a.nf,a.nr,a.nk,a.rf⟩
theorem WkAt.bytes(a:WkAt g0 h w x W B H F R Bk):Bytes h W.bv B:=a.b.ext a.ext
theorem own_ne{e s e' s':Nat}{v v':Value}{vs vs':List Value}(o:OwnG e s h v vs)(o':OwnG e' s' h v' vs')(hne:e≠e'){b:Nat}(h1:blkG v=some b):blkG v'≠some b:=fun h2=>by
 obtain⟨arr,ha⟩:=o'.tag h2
 exact o.ne h1 ha hne rfl
theorem own_nw(a:WkAt g0 h w x W B H F R Bk){e s:Nat}{v:Value}{vs:List Value}(o:OwnG e s h v vs)(hne:e≠wkT){b:Nat}(h1:blkG v=some b):b≠w:=o.ne h1 a.c hne
theorem WkAt.set{i:Nat}{v:Value}{W':Wk}{h1:Heap}{S:Nat->Prop}{H':List Nat}{F' R':List (Nat×Nat×Nat)}{Bk':List Nat}(a:WkAt g0 h w x W B H F R Bk)(m:Mod S h h1)(hS:∀b,b<h.size->S b->g0.size<=b/\b≠w)(hc:(W.cells x).setIfInBounds i v=W'.cells x)(hb:W'.bv=W.bv)
 (hh:OwnG hoT 2 h1 W'.hv (H'.flatMap hoV)) (ff:OwnG fiT 4 h1 W'.fv (F'.flatMap fiV)) (rr:OwnG fiT 4 h1 W'.rv (R'.flatMap fiV)) (kk:OwnG i6T 1 h1 W'.kv (Bk'.map fun k=>.int .i64 (k:Nat)))
 (nh:∀b,blkG W'.hv=some b->g0.size<=b) (nf:∀b,blkG W'.fv=some b->g0.size<=b) (nr:∀b,blkG W'.rv=some b->g0.size<=b) (nk:∀b,blkG W'.kv=some b->g0.size<=b) (rf:∀b,blkG W'.rv=some b->blkG W'.fv≠some b) :
 WkAt g0 (hset h1 ⟨w,i,none⟩ v) w x W' B H' F' R' Bk':=by
 have hw:=get_some_lt a.c
 have c1:h1[w]? = some (.cells (W.cells x) wkT):=(m.block w hw (fun hs=>(hS w hw hs).2 rfl)).trans a.c
 have m2:=Mod.set h1 ⟨w,i,none⟩ v
 have E1:Ext g0 h1:=m.ext_from a.ext (fun b hb1 hs=>by have:=(hS b (by have:=a.ext.size;omega) hs).1;omega)
 have hnw:∀{e s:Nat} {u:Value} {us:List Value},OwnG e s h1 u us->e≠wkT->∀b,blkG u=some b->¬b=w:=fun o hne b hb=>o.ne hb c1 hne
 refine⟨m2.ext_from E1 (fun b hb1 e=>by have h2:b=w:=e;have:=a.nw;omega),?_,hb▸a.b,hh.mod m2 (hnw hh dM),ff.mod m2 (hnw ff dM),rr.mod m2 (hnw rr dM),kk.mod m2 (hnw kk dM),a.nw,nh,nf,nr,nk,rf⟩
 rw[<-hc]
 exact obj_set c1
theorem WkAt.num{i:Nat}{v:Value}{W':Wk}(a:WkAt g0 h w x W B H F R Bk)(hc:(W.cells x).setIfInBounds i v=W'.cells x)(hs:W'.bv=W.bv/\W'.hv=W.hv/\W'.fv=W.fv/\W'.rv=W.rv/\W'.kv=W.kv):WkAt g0 (hset h ⟨w,i,none⟩ v) w x W' B H F R Bk:=by
 obtain⟨h1,h2,h3,h4,h5⟩:=hs
 exact a.set (S:=fun _=>False) (.refl _ _) (fun _ _ h=>h.elim) hc h1 (h2▸a.hh) (h3▸a.ff) (h4▸a.rr) (h5▸a.kk) (h2▸a.nh) (h3▸a.nf) (h4▸a.nr) (h5▸a.nk) (by rw[h3,h4];exact a.rf)
theorem WkAt.putH{v':Value}{h1:Heap}{k:Nat}(a:WkAt g0 h w x W B H F R Bk)(o:OwnG hoT 2 h1 v' (H.flatMap hoV++hoV k))(m:Mod (fun b=>blkG W.hv=some b) h h1)(hb:∀b,blkG v'=some b->blkG W.hv=some b\/h.size<=b) :
 WkAt g0 (hset h1 ⟨w,16,none⟩ v') w x { W with hv:=v' } B (H++[k]) F R Bk:=by
 have he:=a.ext.size
 refine a.set m (fun b _ hs=>⟨a.nh b hs,own_nw a a.hh dM hs⟩) rfl rfl (by rw[List.flatMap_append];simpa using o) (a.ff.mod m (fun b hb hs=>own_ne a.hh a.ff dM hs hb)) (a.rr.mod m (fun b hb hs=>own_ne a.hh a.rr dM hs hb)) (a.kk.mod m (fun b hb hs=>own_ne a.hh a.kk dM hs hb))
  (fun b h1=>(hb b h1).elim (a.nh b) (fun h=>by omega)) a.nf a.nr a.nk a.rf
theorem WkAt.putF{v':Value}{h1:Heap}{f:Nat×Nat×Nat}(a:WkAt g0 h w x W B H F [] Bk)(hr:blkG W.rv=none)(o:OwnG fiT 4 h1 v' (F.flatMap fiV++fiV f))(m:Mod (fun b=>blkG W.fv=some b) h h1)(hb:∀b,blkG v'=some b->blkG W.fv=some b\/h.size<=b) :
 WkAt g0 (hset h1 ⟨w,17,none⟩ v') w x { W with fv:=v' } B H (F++[f]) [] Bk:=by
 have he:=a.ext.size
 refine a.set m (fun b _ hs=>⟨a.nf b hs,own_nw a a.ff dM hs⟩) rfl rfl (a.hh.mod m (fun b hb hs=>own_ne a.ff a.hh dM hs hb)) (by rw[List.flatMap_append];simpa using o) (a.rr.mod m (fun b hb hs=>by rw[hr]at hb;cases hb)) (a.kk.mod m (fun b hb hs=>own_ne a.ff a.kk dM hs hb))
  a.nh (fun b h1=>(hb b h1).elim (a.nf b) (fun h=>by omega)) a.nr a.nk (fun b h1=>by rw[hr]at h1;cases h1)
theorem WkAt.putK{v':Value}{h1:Heap}{k:Nat}(a:WkAt g0 h w x W B H F R Bk)(o:OwnG i6T 1 h1 v' ((Bk.map fun k=>.int .i64 (k:Nat))++[.int .i64 (k:Nat)]))(m:Mod (fun b=>blkG W.kv=some b) h h1)(hb:∀b,blkG v'=some b->blkG W.kv=some b\/h.size<=b) :
 WkAt g0 (hset h1 ⟨w,26,none⟩ v') w x { W with kv:=v' } B H F R (Bk++[k]):=by
 have he:=a.ext.size
 refine a.set m (fun b _ hs=>⟨a.nk b hs,own_nw a a.kk dM hs⟩) rfl rfl (a.hh.mod m (fun b hb hs=>own_ne a.kk a.hh dM hs hb)) (a.ff.mod m (fun b hb hs=>own_ne a.kk a.ff dM hs hb)) (a.rr.mod m (fun b hb hs=>own_ne a.kk a.rr dM hs hb)) (by rw[List.map_append];simpa using o)
  a.nh a.nf a.nr (fun b h1=>(hb b h1).elim (a.nk b) (fun h=>by omega)) a.rf
theorem WkAt.putR{v':Value}{h1:Heap}{R':List (Nat×Nat×Nat)}(a:WkAt g0 h w x W B H F R Bk)(e:Ext h h1)(o:OwnG fiT 4 h1 v' (R'.flatMap fiV))(hb:∀b,blkG v'=some b->h.size<=b) :
 WkAt g0 (hset h1 ⟨w,18,none⟩ v') w x { W with rv:=v' } B H F R' Bk:=by
 have he:=a.ext.size
 refine a.set (S:=fun _=>False) (.of_ext e) (fun _ _ h=>h.elim) rfl rfl (a.hh.ext e) (a.ff.ext e) o (a.kk.ext e) a.nh a.nf (fun b h1=>by have:=hb b h1;omega) a.nk (fun b h1 h2=>by have:=hb b h1;have:=a.ff.lt h2;omega)
end
section
variable {K:VP}{h:Heap}{g0:Heap}{w:Nat}{x:Hd}{W:Wk}{B:List UInt8}{H:List Nat}{F R:List (Nat×Nat×Nat)}{Bk:List Nat}{g:Gm}
theorem wClu_c(kk:g.ok)(hd:HdOk g x)(a:WkAt g0 h w x W B H F R Bk)(hK:K (.int .i64 (g.c:Nat)) h):CallsH Tryz.prog 117 #[ptrV w] h K ⟨⟩:=by
 refine n117_calls ?_
 unfold n117;try delta vF vG vC vD vJ vV vk vt
 have c1:hcell h ⟨w,1,none⟩=some (.int .i64 x.bits):=cellOf (i:=1) a.c rfl
 rw[hd.bits]at c1
 have h0:=kk.b0
 have h1:=kk.b1
 have hcc:(2:Int)^((g.b:Nat):Int).toNat=((g.c:Nat):Int):=by rw[Int.toNat_natCast];unfold Gm.c;rw[Int.natCast_pow];rfl
 unfold ptrV
 simp(disch:=omega)[c1]
 refine Cluster_c omg omg ?_
 rw[hcc]
 exact hK
theorem wAll_c(kk:g.ok)(hd:HdOk g x)(a:WkAt g0 h w x W B H F R Bk)(hfew:B.length<=268435456)(hK:K (.int .i64 (B.length/g.c:Nat)) h):CallsH Tryz.prog 61 #[ptrV w] h K ⟨⟩:=by
 refine n61_calls ?_
 unfold n61;try delta vF vG vC vD vJ vV vk vt
 have c0:hcell h ⟨w,0,none⟩=some W.bv:=cellOf (i:=0) a.c rfl
 obtain⟨vo,vc,hv⟩:=a.bytes.form
 rw[hv]at c0
 obtain⟨q,hq,hq1,hq2⟩:=kk.c512
 unfold ptrV
 simp(disch:=omega)[c0]
 rw[show (.pointer (some ⟨w,0,none⟩):Value)=ptrV w from rfl]
 refine wClu_c kk hd a ?_
 have hdiv:((B.length:Nat):Int)/((g.c:Nat):Int)=((B.length/g.c:Nat):Int):=(Int.natCast_ediv _ _).symm
 obtain⟨A,hA⟩:∃A,B.length/g.c=A:=⟨_,rfl⟩
 have hal2:B.length/g.c<=B.length:=Nat.div_le_self _ _
 rw[hA]at hdiv hK hal2
 unfold ptrV
 simp(disch:=omega)[c0,hdiv]
 exact hK
theorem wIn_c(kk:g.ok)(hd:HdOk g x)(a:WkAt g0 h w x W B H F R Bk){cl u PL:Nat}{n:Int}(hPL:cl*g.c=PL)(h1:1<=cl)(hu:upQ n ((g.c:Nat):Int)=(u:Nat))(hn:0<=n/\n<=1000000000)(hf:(cl+u)*g.c<=B.length)(hu1:1<=u)(hfew:B.length<=268435456)(hK:K (.bool true) h) :
 CallsH Tryz.prog 164 #[ptrV w,.int .i64 (PL:Nat),.int .i64 n] h K ⟨⟩:=by
 refine n164_calls ?_
 unfold n164;try delta vF vG vC vD vJ vV vk vt
 obtain⟨q,hq,hq1,hq2⟩:=kk.c512
 refine wClu_c kk hd a ?_
 have hall:cl+u<=B.length/g.c:=(Nat.le_div_iff_mul_le omg).2 hf
 have hal2:B.length/g.c<=B.length:=Nat.div_le_self _ _
 obtain⟨A,hA⟩:∃A,B.length/g.c=A:=⟨_,rfl⟩
 rw[hA]at hall hal2
 have hAll:=fun (K:VP) (hK:K (.int .i64 (A:Nat)) h)=>wAll_c (K:=K) kk hd a hfew (by rw[hA];exact hK)
 have hPle:cl*g.c<=(cl+u)*g.c:=Nat.mul_le_mul_right _ omg
 have hPge:1*g.c<=cl*g.c:=Nat.mul_le_mul_right _ h1
 have hmod:((cl*g.c:Nat):Int)%((g.c:Nat):Int)=0:=by rw[<-Int.natCast_emod,Nat.mul_mod_left];rfl
 have hdiv:((cl*g.c:Nat):Int)/((g.c:Nat):Int)=((cl:Nat):Int):=by rw[<-Int.natCast_ediv,Nat.mul_div_cancel _ omg]
 rw[hPL]at hPle hPge hmod hdiv
 simp(disch:=omega)[hmod,hdiv]
 refine hAll _ ?_
 simp(disch:=omega)
 refine Up_c hn.1 omg omg omg ?_
 rw[hu]
 simp(disch:=omega)
 refine hAll _ ?_
 simp(disch:=omega)
 exact hK
set_option maxHeartbeats 2000000 in
theorem wRun_c(kk:g.ok)(hd:HdOk g x)(a:WkAt g0 h w x W B H F R Bk){cl u PL:Nat}{n wh:Int}(hPL:cl*g.c=PL)(h1:1<=cl)(hu:upQ n ((g.c:Nat):Int)=(u:Nat))(hn:0<=n/\n<=1000000000)(hf:(cl+u)*g.c<=B.length)(hu1:1<=u)(hfew:B.length<=268435456)(hHl:H.length+u<=1000000)
 (hK:∀h' hv',WkAt g0 h' w x { W with hv:=hv' } B (H++(List.range u).map (cl + ·)) F R Bk->K (.bool true) h') :
 CallsH Tryz.prog 139 #[ptrV w,.int .i64 (PL:Nat),.int .i64 n,.int .i64 1,.int .i64 wh] h K ⟨⟩:=by
 refine n139_calls ?_
 unfold n139;try delta vF vG vC vD vJ vV vk vt
 refine wIn_c kk hd a hPL h1 hu hn hf hu1 hfew ?_
 simp(disch:=omega)
 refine wClu_c kk hd a ?_
 obtain⟨q,hq,hq1,hq2⟩:=kk.c512
 have hall:cl+u<=B.length/g.c:=(Nat.le_div_iff_mul_le omg).2 hf
 have hal2:B.length/g.c<=B.length:=Nat.div_le_self _ _
 have hdiv:((cl*g.c:Nat):Int)/((g.c:Nat):Int)=((cl:Nat):Int):=by rw[<-Int.natCast_ediv,Nat.mul_div_cancel _ omg]
 have hPle:cl*g.c<=(cl+u)*g.c:=Nat.mul_le_mul_right _ omg
 rw[hPL]at hdiv hPle
 simp(disch:=omega)[hdiv]
 refine loopX1 (α:=Nat×Value) (fun z=>.int .i64 ((cl:Int)+(z.1:Int))) (fun z G=>z.1<=u/\WkAt g0 G w x { W with hv:=z.2 } B (H++(List.range z.1).map (cl + ·)) F R Bk) (fun z=>u-z.1) (0,W.hv) sM ⟨Nat.zero_le _,by simpa using a⟩ ?_
 rintro⟨j,v⟩ G ⟨hj,aG⟩ X hX
 dsimp only at hj aG hX ⊢
 simp(disch:=omega)[hdiv]
 refine Up_c hn.1 omg omg omg ?_
 rw[hu]
 by_cases hju:j<u
 ·have hlt:((cl:Nat):Int)+((j:Nat):Int)<((cl:Nat):Int)+((u:Nat):Int):=by omega
  have c16:=cellOf (i:=16) aG.c rfl
  obtain⟨va,vn,vc,hv,hvl,hvc,-⟩:=aG.hh.form
  have hlen:∀l:List Nat,(l.flatMap hoV).length=l.length*2:=fun l=>by induction l with|nil=>rfl|cons f l ih=>rw[List.flatMap_cons,List.length_append,ih];simp[hoV];omega
  rw[hlen,List.length_append,List.length_map,List.length_range]at hvl
  have hv:v = .slice va vn vc:=hv
  subst hv
  have hwG:=get_some_lt aG.c
  have hwne:¬w=G.size:=by omega
  obtain⟨KK,hKK⟩:∃k,cl+j=k:=⟨_,rfl⟩
  have hcj:((cl:Nat):Int)+((j:Nat):Int)=((KK:Nat):Int):=by omega
  unfold ptrV
  have c16':hcell G ⟨w,16,none⟩=some (.slice va vn vc):=c16
  simp(disch:=omega)[hlt,c16',hwne]
  obtain⟨g1,hg1⟩:∃X,X=G.push (.cells #[.int .i64 ((cl:Int)+(j:Int)),.int .i64 1] 183):=⟨_,rfl⟩
  have e1:Ext G g1:=by rw[hg1];exact extS
  have sx:Src 2 g1 (.slice (some ⟨G.size,0,none⟩) 1 1) 1 (hoV KK):=by
   unfold hoV
   rw[hg1,<-hcj]
   exact Src_new (vs:=[.int .i64 ((cl:Int)+(j:Int)),.int .i64 1]) rfl
  rw[<-hg1]
  clear hg1
  have hz1:=e1.size
  have a1:=aG.ext' e1
  refine Hp_appendG (e:=hoT) (s:=2) (by_:=16) (n:=vn) (k:=1) kR kR a1.hh (by rw[hlen,List.length_append,List.length_map,List.length_range];omega) omg sx (by simp[hoV,one]) omg omg fun v' h' o' m' b' _=>?_
  have k2:=(m'.block w omg (fun e=>own_nw a1 a1.hh dM e rfl)).trans a1.c
  have d16:=cellOf (i:=16) k2 rfl
  have f16:=frzOf (i:=16) k2
  obtain⟨va',vn',vc',rfl,-,-,-⟩:=o'.form
  simp(disch:=omega)[d16,f16]
  have a3:=a1.putH o' m' b'
  refine hX (j+1,.slice va' vn' vc') _ _ (by dsimp only;first|rfl|(congr 1;omega)|congr 1) ⟨by omega,?_⟩ (by dsimp only;omega)
  have hl2:H++(List.range (j+1)).map (cl + ·)=H++(List.range j).map (cl + ·)++[KK]:=by
   rw[List.range_succ,List.map_append,List.append_assoc,<-hKK];rfl
  dsimp only
  rw[hl2]
  exact a3
 ·obtain rfl:j=u:=by omega
  simp(disch:=omega)
  exact hK G v aG
theorem wNum_c(a:WkAt g0 h w x W B H F R Bk){at_:Nat}(hat:at_+8<=B.length)(hfew:B.length<=268435456)(hs:leN (part B at_ 8)<9223372036854775808)(hK:K (.int .i64 (leN (part B at_ 8):Nat)) h) :
 CallsH Tryz.prog 140 #[ptrV w,.int .i64 (at_:Nat)] h K ⟨⟩:=by
 refine n140_calls ?_
 unfold n140;try delta vF vG vC vD vJ vV vk vt
 have c0:hcell h ⟨w,0,none⟩=some W.bv:=cellOf (i:=0) a.c rfl
 obtain⟨vo,vc,hv⟩:=a.bytes.form
 have hB:=a.bytes
 rw[hv]at c0 hB
 obtain⟨ad,rfl,-,hvc,hA⟩:=hB.at omg
 refine loopX2 (α:=Nat) (fun z=>.int .u64 (leN ((B.drop (at_+z)).take (8-z)):Nat)) (fun z=>.int .i64 ((z:Int)-1)) (fun z G=>G=h/\z<=8) (fun z=>z) 8 ⟨by simp[leN],rfl⟩ ⟨rfl,Nat.le_refl _⟩ ?_
 rintro k G ⟨rfl,hk8⟩ X hX
 unfold ptrV
 by_cases hk0:k=0
 ·subst hk0
  simp(disch:=omega)
  have:leN ((B.drop (at_+0)).take (8-0))=leN (part B at_ 8):=rfl
  simp only[Nat.add_zero,Nat.sub_zero]at this
  rw[this]
  simp(disch:=omega)
  exact hK
 ·obtain⟨m,rfl⟩:∃m,k=m+1:=⟨k-1,by omega⟩
  have hst:=leN_step (l:=B) (p:=at_) (n:=8) (k:=m+1) omg hk8 omg
  have hb:=leN_lt ((B.drop (at_+(m+1))).take (8-(m+1)))
  have hb7:leN ((B.drop (at_+(m+1))).take (8-(m+1)))<72057594037927936:=Nat.lt_of_lt_of_le hb (Nat.pow_le_pow_right (n:=256) omg (show _<=7 by simp;omega))
  have hA':=hA (at_+m) omg
  have hbb:=byte_lt (B[at_+m]'omg)
  simp only[Nat.add_sub_cancel]at hst
  have hX':=hX m
  generalize leN ((B.drop (at_+(m+1))).take (8-(m+1)))=Y at *
  generalize B[at_+m]'omg=b at *
  unfold byteV at hA'
  have hAD:((at_:Nat):Int)+((m:Nat):Int)=((at_+m:Nat):Int):=by omega
  obtain⟨AD,hADe⟩:∃A,at_+m=A:=⟨_,rfl⟩
  rw[hADe]at hAD hA'
  simp(disch:=omega)[c0,hAD,hA']
  refine hX' _ _ _ ?_ rfl ⟨rfl,by omega⟩ omg
  rw[hst]
  congr 1
  omega
end
section
variable {K:VP}{h:Heap}{g0:Heap}{w:Nat}{x:Hd}{W:Wk}{B:List UInt8}{H:List Nat}{F R:List (Nat×Nat×Nat)}{Bk:List Nat}{g:Gm}
theorem upQ_mul{c u:Nat}(hc:1<=c):upQ ((u*c:Nat):Int) ((c:Nat):Int)=(u:Nat):=by
 unfold upQ
 have h1:((u*c:Nat):Int)+((c:Nat):Int)-1=((u*c+c-1:Nat):Int):=by omega
 rw[h1,<-Int.natCast_ediv]
 congr 1
 rw[show u*c+c-1=c*u+(c-1) by rw[Nat.mul_comm];omega,Nat.mul_add_div omg,Nat.div_eq_of_lt omg,Nat.add_zero]
theorem upQ_one{c n:Nat}(hn:1<=n)(h:n<=c):upQ ((n:Nat):Int) ((c:Nat):Int)=1:=by
 unfold upQ
 have h1:((n:Nat):Int)+((c:Nat):Int)-1=((n+c-1:Nat):Int):=by omega
 rw[h1,<-Int.natCast_ediv]
 have:(n+c-1)/c=1:=by
  rw[show n+c-1=c*1+(n-1) by omega,Nat.mul_add_div omg,Nat.div_eq_of_lt omg]
 rw[this];rfl
def Gm.blkH(g:Gm)(B:List UInt8)(j:Nat):List Nat:=((List.range j).filter fun i=>decide (g.word B i≠0)).map g.cl
theorem Gm.blkH_succ(g:Gm)(B:List UInt8)(j:Nat):g.blkH B (j+1)=g.blkH B j++(if g.word B j=0 then [] else [g.cl j]):=by
 unfold Gm.blkH
 rw[List.range_succ,List.filter_append,List.map_append]
 congr 1
 by_cases hw:g.word B j=0
 ·rw[if_pos hw];simp[hw]
 ·rw[if_neg hw];simp[hw]
theorem Gm.blkH_len(g:Gm)(B:List UInt8)(j:Nat):(g.blkH B j).length<=j:=by
 unfold Gm.blkH
 rw[List.length_map]
 refine Nat.le_trans (List.length_filter_le _ _) ?_
 rw[List.length_range];exact Nat.le_refl _
set_option maxHeartbeats 4000000 in
theorem wCounts_c(kk:g.ok)(hd:HdOk g x)(I:Img g x B)(a:WkAt g0 h w x W B [0] F R [])
 (hK:∀h' hv' kv',WkAt g0 h' w x { W with hv:=hv',kv:=kv' } B ([0]++(List.range g.L).map (1 + ·)++g.blkH B g.m) F R ((List.range g.m).map (g.word B))->K (.tuple #[]) h') :
 CallsH Tryz.prog 114 #[ptrV w] h K ⟨⟩:=by
 refine n114_calls ?_
 unfold n114;try delta vF vG vC vD vJ vV vk vt
 obtain⟨q,hq,hq1,hq2⟩:=kk.c512
 have hrl:=kk.room_lt
 have hm8:=kk.m8
 have hfew:=I.few
 have hL0:=kk.L0
 have hL1:=kk.L1
 have hu0:=kk.u0
 have c8:hcell h ⟨w,8,none⟩=some (.int .i64 x.clen):=cellOf (i:=8) a.c rfl
 have c7:hcell h ⟨w,7,none⟩=some (.int .i64 x.counts):=cellOf (i:=7) a.c rfl
 rw[hd.clen]at c8
 rw[hd.counts]at c7
 obtain⟨LC,hLC⟩:∃L,g.L*g.c=L:=⟨_,rfl⟩
 have hLC':((g.L:Nat):Int)*((g.c:Nat):Int)=((LC:Nat):Int):=by rw[<-hLC,Int.natCast_mul]
 have hup:=upQ_mul (u:=g.L) (c:=g.c) omg
 have hlen:=I.len
 have hlen2:(1+g.L)*g.c<=g.u*g.c:=Nat.mul_le_mul_right _ omg
 rw[hLC]at hup hm8 hrl
 unfold ptrV
 simp(disch:=omega)[c8]
 rw[show (.pointer (some ⟨w,0,none⟩):Value)=ptrV w from rfl]
 refine wClu_c kk hd a ?_
 unfold ptrV
 simp(disch:=omega)[c8,c7,hLC']
 rw[show (.pointer (some ⟨w,0,none⟩):Value)=ptrV w from rfl]
 refine wRun_c (cl:=1) (u:=g.L) kk hd a (by rw[Nat.one_mul]) (Nat.le_refl _) hup omg omg omg hfew (by simp;omega) fun h1 hv1 a1=>?_
 have hm':((LC:Nat):Int)/8=((g.m:Nat):Int):=by omega
 simp(disch:=omega)
 refine loopX1 (α:=Nat×Value×Value) (fun z=>.int .i64 z.1) (fun z G=>z.1<=g.m/\WkAt g0 G w x { W with hv:=z.2.1,kv:=z.2.2 } B ([0]++(List.range g.L).map (1 + ·)++g.blkH B z.1) F R ((List.range z.1).map (g.word B))) (fun z=>g.m-z.1) (0,hv1,W.kv) rfl ⟨Nat.zero_le _,by simpa[Gm.blkH]using a1⟩ ?_
 rintro⟨i,hv2,kv2⟩ G ⟨hi,aG⟩ X hX
 dsimp only at hi aG hX ⊢
 by_cases him:i<g.m
 ·have d7:hcell G ⟨w,7,none⟩=some (.int .i64 x.counts):=cellOf (i:=7) aG.c rfl
  rw[hd.counts]at d7
  have hwf:=I.word_fit kk him
  obtain⟨AD,hAD⟩:∃A,g.c+8*i=A:=⟨_,rfl⟩
  have hAD':((g.c:Nat):Int)+8*((i:Nat):Int)=((AD:Nat):Int):=by omega
  rw[hAD]at hwf
  have hwd:leN (part B AD 8)=g.word B i:=by rw[<-hAD];rfl
  have hwl:g.word B i<=268435456:=by
   by_cases hw:g.word B i=0
   ·omega
   ·have:=(I.wi i him hw);omega
  have hbl:=g.blkH_len B i
  unfold ptrV
  simp(disch:=omega)[hm',d7,hAD']
  rw[show (.pointer (some ⟨w,0,none⟩):Value)=ptrV w from rfl]
  refine wNum_c aG hwf hfew (by rw[hwd];omega) ?_
  rw[hwd]
  refine JoinN.mk ?_
  by_cases hw:g.word B i=0
  ·rw[hw]
   simp(disch:=omega)
   obtain⟨GX,hGX⟩:∃z,z=G:=⟨_,rfl⟩
   rw[<-hGX]at aG ⊢
   have e26:hcell GX ⟨w,26,none⟩=some kv2:=cellOf (i:=26) aG.c rfl
   obtain⟨va,vn,vc,hkv,hvl,hvc,-⟩:=aG.kk.form
   have hkv:kv2 = .slice va vn vc:=hkv
   subst hkv
   rw[List.length_map,List.length_map,List.length_range]at hvl
   have hwG:=get_some_lt aG.c
   have hwne:¬w=GX.size:=by omega
   unfold ptrV
   simp(disch:=omega)[e26,hwne]
   obtain⟨g1,hg1⟩:∃X,X=GX.push (.cells #[.int .i64 0] 2):=⟨_,rfl⟩
   have e1:Ext GX g1:=by rw[hg1];exact extS
   have sx:Src 1 g1 (.slice (some ⟨GX.size,0,none⟩) 1 1) 1 [.int .i64 0]:=by rw[hg1];exact Src_new (vs:=[.int .i64 0]) rfl
   rw[<-hg1]
   clear hg1
   have hz1:=e1.size
   have a1:=aG.ext' e1
   refine Hp_appendG (e:=i6T) (s:=1) (by_:=8) (n:=vn) (k:=1) kR kR a1.kk (by rw[List.length_map,List.length_map,List.length_range];omega) omg sx (by intro u hu;rw[List.mem_singleton.1 hu];rfl) omg omg fun v' h' o' m' b' _=>?_
   have k2:=(m'.block w omg (fun e=>own_nw a1 a1.kk dM e rfl)).trans a1.c
   have d26:=cellOf (i:=26) k2 rfl
   have f26:=frzOf (i:=26) k2
   obtain⟨va',vn',vc',rfl,-,-,-⟩:=o'.form
   simp(disch:=omega)[d26,f26]
   have a3:=a1.putK o' m' b'
   have hBk:(List.range (i+1)).map (g.word B)=(List.range i).map (g.word B)++[g.word B i]:=by rw[List.range_succ,List.map_append];rfl
   have hHk:=g.blkH_succ B i
   rw[if_pos hw,List.append_nil]at hHk
   refine hX (i+1,hv2,.slice va' vn' vc') _ _ sM ⟨by omega,?_⟩ (by dsimp only;omega)
   dsimp only
   rw[hBk,hHk,hw]
   exact a3
  ·obtain⟨hp,hle⟩:=I.wi i him hw
   have hw':¬((g.word B i:Nat):Int)=0:=by omega
   have hpl:g.cl i*g.c=g.word B i:=hp.symm
   have hcl1:1<=g.cl i:=by
    by_cases e:i=0
    ·rw[e];unfold Gm.cl;rw[if_pos rfl];omega
    ·have:=kk.cl_u e;omega
   have hfit:(g.cl i+1)*g.c<=B.length:=by rw[Nat.add_mul,Nat.one_mul];exact hle
   have hup1:=upQ_mul (u:=1) (c:=g.c) omg
   rw[Nat.one_mul]at hup1
   obtain⟨WD,hWD⟩:∃W,g.word B i=W:=⟨_,rfl⟩
   rw[hWD]at hw' hpl hwl ⊢
   unfold ptrV
   simp(disch:=omega)[hw',d7,hAD']
   rw[show (.pointer (some ⟨w,0,none⟩):Value)=ptrV w from rfl]
   refine wClu_c kk hd aG ?_
   unfold ptrV
   simp(disch:=omega)[hw',d7,hAD']
   rw[show (.pointer (some ⟨w,0,none⟩):Value)=ptrV w from rfl]
   refine wRun_c (cl:=g.cl i) (u:=1) kk hd aG hpl hcl1 hup1 omg hfit (Nat.le_refl _) hfew (by simp;omega) fun GX hvX aX=>?_
   simp(disch:=omega)
   rw[<-hWD]
   have e26:hcell GX ⟨w,26,none⟩=some kv2:=cellOf (i:=26) aX.c rfl
   obtain⟨va,vn,vc,hkv,hvl,hvc,-⟩:=aX.kk.form
   have hkv:kv2 = .slice va vn vc:=hkv
   subst hkv
   rw[List.length_map,List.length_map,List.length_range]at hvl
   have hwG:=get_some_lt aX.c
   have hwne:¬w=GX.size:=by omega
   unfold ptrV
   simp(disch:=omega)[e26,hwne]
   obtain⟨g1,hg1⟩:∃X,X=GX.push (.cells #[.int .i64 (g.word B i:Nat)] 2):=⟨_,rfl⟩
   have e1:Ext GX g1:=by rw[hg1];exact extS
   have sx:Src 1 g1 (.slice (some ⟨GX.size,0,none⟩) 1 1) 1 [.int .i64 (g.word B i:Nat)]:=by rw[hg1];exact Src_new (vs:=[.int .i64 (g.word B i:Nat)]) rfl
   rw[<-hg1]
   clear hg1
   have hz1:=e1.size
   have a1:=aX.ext' e1
   refine Hp_appendG (e:=i6T) (s:=1) (by_:=8) (n:=vn) (k:=1) kR kR a1.kk (by rw[List.length_map,List.length_map,List.length_range];omega) omg sx (by intro u hu;rw[List.mem_singleton.1 hu];rfl) omg omg fun v' h' o' m' b' _=>?_
   have k2:=(m'.block w omg (fun e=>own_nw a1 a1.kk dM e rfl)).trans a1.c
   have d26:=cellOf (i:=26) k2 rfl
   have f26:=frzOf (i:=26) k2
   obtain⟨va',vn',vc',rfl,-,-,-⟩:=o'.form
   simp(disch:=omega)[d26,f26]
   have a3:=a1.putK o' m' b'
   have hBk:(List.range (i+1)).map (g.word B)=(List.range i).map (g.word B)++[g.word B i]:=by rw[List.range_succ,List.map_append];rfl
   have hHk:=g.blkH_succ B i
   rw[if_neg hw]at hHk
   refine hX (i+1,hvX,.slice va' vn' vc') _ _ sM ⟨by omega,?_⟩ (by dsimp only;omega)
   dsimp only
   rw[hBk,hHk,<-List.append_assoc]
   exact a3
 ·obtain rfl:i=g.m:=by omega
  simp(disch:=omega)[hm']
  exact hK G hv2 kv2 aG
def Gm.l1H(g:Gm):List Nat:=if g.u=g.L+2 then [] else [1+g.L]
theorem part_zeros{n a m:Nat}(h:a+m<=n):part (zeros n) a m=zeros m:=by
 unfold part zeros
 rw[List.drop_replicate,List.take_replicate]
 congr 1;omega
set_option maxHeartbeats 2000000 in
theorem wTree_c(kk:g.ok)(hd:HdOk g x)(I:Img g x B)(a:WkAt g0 h w x W B H F R Bk)(hHl:H.length<=900000)
 (hK:∀h' hv',WkAt g0 h' w x { W with hv:=hv' } B (H++g.l1H) F R Bk->K (.tuple #[]) h') :
 CallsH Tryz.prog 115 #[ptrV w,.int .i64 x.l1,.int .i64 x.l1len,.int .i64 24] h K ⟨⟩:=by
 refine n115_calls ?_
 unfold n115;try delta vF vG vC vD vJ vV vk vt
 rcases hd.l1 with ⟨hu,h0⟩|⟨hu,hl1,hn1,hn8⟩
 ·rw[h0]
  simp(disch:=omega)
  refine hK h W.hv ?_
  unfold Gm.l1H
  rw[if_pos hu,List.append_nil]
  exact a
 obtain⟨q,hq,hq1,hq2⟩:=kk.c512
 have hfew:=I.few
 have hlen:=I.len
 have hL1:=kk.L1
 have hz:=I.l1
 have hu2:g.u-2-g.L=1:=by omega
 rw[hu2,Nat.one_mul]at hz
 obtain⟨N,hN⟩:∃N:Nat,x.l1len=(N:Nat):=Int.eq_ofNat_of_zero_le omg
 rw[hN]at hn1 hn8 ⊢
 rw[hl1]
 have hup:=upQ_one (n:=8*N) (c:=g.c) omg omg
 have h8:(8:Int)*((N:Nat):Int)=((8*N:Nat):Int):=by omega
 have hN0:¬((N:Nat):Int)=0:=by omega
 obtain⟨N8,hN8⟩:∃M,8*N=M:=⟨_,rfl⟩
 rw[hN8]at hup h8
 have hend:(1+g.L+1)*g.c<=g.u*g.c:=Nat.mul_le_mul_right _ omg
 obtain⟨PL,hPL⟩:∃P,(1+g.L)*g.c=P:=⟨_,rfl⟩
 have hend2:PL+g.c<=B.length:=by
  have:(1+g.L+1)*g.c=PL+g.c:=by rw[Nat.add_mul,hPL,Nat.one_mul]
  omega
 rw[hPL]at hz ⊢
 simp(disch:=omega)[hN0,h8]
 refine wRun_c (cl:=1+g.L) (u:=1) kk hd a hPL omg hup omg omg (Nat.le_refl _) hfew omg fun h1 hv1 a1=>?_
 have hl:H++(List.range 1).map (1+g.L + ·)=H++g.l1H:=by
  unfold Gm.l1H
  rw[if_neg omg];rfl
 rw[hl]at a1
 simp(disch:=omega)
 refine loopX1 (α:=Nat) (fun z=>.int .i64 z) (fun z G=>z<=N/\G=h1) (fun z=>N-z) 0 rfl ⟨Nat.zero_le _,rfl⟩ ?_
 rintro i G ⟨hi,rfl⟩ X hX
 by_cases hiN:i<N
 ·obtain⟨AD,hAD⟩:∃A,PL+8*i=A:=⟨_,rfl⟩
  have hAD':((PL:Nat):Int)+8*((i:Nat):Int)=((AD:Nat):Int):=by omega
  have hwd:leN (part B AD 8)=0:=by
   have:=part_part B (a:=PL) (m:=g.c) (x:=8*i) (y:=8) omg
   rw[hz,part_zeros omg,hAD]at this
   rw[<-this,leN_zeros]
  simp(disch:=omega)
  refine JoinN.mk (JoinN.mk ?_)
  simp(disch:=omega)[hAD']
  refine wNum_c a1 omg hfew (by rw[hwd];decide) ?_
  rw[hwd]
  simp(disch:=omega)
  exact hX (i+1) _ _ sM ⟨by omega,rfl⟩ omg
 ·obtain rfl:i=N:=by omega
  simp(disch:=omega)
  exact hK G hv1 a1
theorem wLists_c(hd:HdOk g x)(a:WkAt g0 h w x W B H F R Bk)(hK:K (.tuple #[]) h):CallsH Tryz.prog 116 #[ptrV w] h K ⟨⟩:=by
 refine n116_calls ?_
 unfold n116;try delta vF vG vC vD vJ vV vk vt
 have c9:hcell h ⟨w,9,none⟩=some (.int .i64 x.snaps):=cellOf (i:=9) a.c rfl
 have c12:hcell h ⟨w,12,none⟩=some (.int .i64 x.maps):=cellOf (i:=12) a.c rfl
 rw[hd.snaps]at c9
 rw[hd.maps]at c12
 unfold ptrV
 refine JoinN.mk ?_
 simp(disch:=omega)[c9,c12]
 exact hK
end
section
variable {K:VP}{h:Heap}{x:Hd}{B:List UInt8}{g:Gm}
def Gm.allH(g:Gm)(B:List UInt8):List Nat:=[0]++(List.range g.L).map (1 + ·)++g.blkH B g.m++g.l1H
set_option maxHeartbeats 4000000 in
theorem goes_c{v:Value}(kk:g.ok)(hd:HdOk g x)(I:Img g x B)(hB:Bytes h v B)
 (hK:∀g0 h' w W,Ext h g0->WkAt g0 h' w x W B (g.allH B) [] [] ((List.range g.m).map (g.word B))->W.rv = .slice none 0 0->W.br=false->W.hd=0->W.act=false->K (.tuple #[ptrV w,.int .i64 0]) h') :
 CallsH Tryz.prog 60 #[v] h K ⟨⟩:=by
 refine n60_calls ?_
 unfold n60;try delta vF vG vC vD vJ vV vk vt
 have hfew:=I.few
 have hhead:B.take 512=hdB x:=by have:=I.head;unfold part at this;rw[List.drop_zero]at this;exact this
 refine RRead_c hB omg (fun h1 y e1 h512 hM hy=>?_) (fun h1 e1 hno=>?_)
 ·rw[hhead]at hy
  obtain rfl:y=x:=hdB_inj hM hd.may hy
  simp(disch:=omega)[-Tryz.st84,-Tryz.ld84,-Tryz.al84]
  refine allocH fun h3 e3 hw3 z3=>?_
  refine storeH (x:=y) hw3 fun g0 m4 hw4=>?_
  have hz1:=e1.size
  have z4:=m4.size
  have E0:Ext h g0:=m4.ext_from (e1.trans e3) (fun b hb he=>by omega)
  have hA:=hw4.at
  simp(disch:=omega)[-Tryz.st84,-Tryz.ld84]
  rw[loadH hA]
  have hBl:=I.few
  obtain⟨vo,vc,rfl⟩:=hB.form
  unfold Hd.val Hd.cells
  simp(disch:=omega)
  obtain⟨W0,hW0⟩:∃W:Wk,W=⟨.slice vo B.length vc,.slice (some ⟨g0.size,0,none⟩) 1 1,.slice none 0 0,.slice none 0 0,.slice none 0 0,false,0,0,false⟩:=⟨_,rfl⟩
  obtain⟨h5,hh5⟩:∃X,X=(g0.push (.cells #[.int .i64 0,.int .i64 1] 183)).push (.cells (W0.cells y) 130):=⟨_,rfl⟩
  have a5:WkAt g0 h5 (g0.size+1) y W0 B [0] [] [] []:=by
   have e5:Ext g0 h5:=by rw[hh5];exact extS
   refine⟨e5,by rw[hh5];exact get_pushed sM,by rw[hW0];exact hB.ext E0,?_,by rw[hW0];exact .nil,by rw[hW0];exact .nil,by rw[hW0];exact .nil,by omega,?_,?_,?_,?_,?_⟩
   ·rw[hW0]
    refine .inr ⟨g0.size,0,1,0,[],[],rfl,rfl,Nat.le_refl _,rfl,?_,by decide⟩
    rw[hh5,get_push sM,get_pushed rfl];rfl
   ·rw[hW0];intro b hb;cases hb;exact Nat.le_refl _
   ·rw[hW0];intro b hb;cases hb
   ·rw[hW0];intro b hb;cases hb
   ·rw[hW0];intro b hb;cases hb
   ·rw[hW0];intro b hb;cases hb
  have hW0c:=hW0
  subst hW0c
  unfold Wk.cells at hh5
  rw[show Array.push _ _=h5 from hh5.symm,show (.pointer (some ⟨g0.size+1,0,none⟩):Value)=ptrV (g0.size+1) from rfl]
  clear hh5
  refine wCounts_c kk hd I a5 fun h6 hv6 kv6 a6=>?_
  have c25:=cellOf (i:=25) a6.c rfl
  have f25:=frzOf (i:=25) a6.c
  unfold ptrV
  simp(disch:=omega)[c25,f25]
  have a7:=a6.num (i:=25) (v:=.bool true) (W':=⟨.slice vo B.length vc,hv6,.slice none 0 0,.slice none 0 0,kv6,false,0,0,true⟩) rfl ⟨rfl,rfl,rfl,rfl,rfl⟩
  generalize hg7:hset h6 ⟨g0.size+1,25,none⟩ (.bool true)=h7 at *
  have hA7:=hA.ext a7.ext
  have hA6:=hA.ext a6.ext
  have p3:=hA6.2.2.2.1
  have p4:=hA6.2.2.2.2.1
  have d3:=hA7.2.2.2.1
  have d4:=hA7.2.2.2.2.1
  simp(disch:=omega)[d3,d4,p3,p4]
  rw[show (.pointer (some ⟨g0.size+1,0,none⟩):Value)=ptrV (g0.size+1) from rfl]
  have hbl:=g.blkH_len B g.m
  have hrl:=kk.room_lt
  have hm8:=kk.m8
  have hL1:=kk.L1
  refine wTree_c kk hd I a7 (by simp;omega) fun h8 hv8 a8=>?_
  have e25:=cellOf (i:=25) a8.c rfl
  have g25:=frzOf (i:=25) a8.c
  unfold ptrV
  simp(disch:=omega)[e25,g25]
  have a9:=a8.num (i:=25) (v:=.bool false) (W':=⟨.slice vo B.length vc,hv8,.slice none 0 0,.slice none 0 0,kv6,false,0,0,false⟩) rfl ⟨rfl,rfl,rfl,rfl,rfl⟩
  rw[show (.pointer (some ⟨g0.size+1,0,none⟩):Value)=ptrV (g0.size+1) from rfl]
  refine wLists_c hd a9 ?_
  exact hK g0 _ _ _ E0 a9 rfl rfl rfl rfl
 ·refine absurd (show IsHd B from ⟨?_,x,hd.may,hhead.symm⟩) hno
  obtain⟨q,hq,hq1,hq2⟩:=kk.c512
  have:=I.word_fit kk (i:=0) (by have:=kk.m0;omega)
  omega
end
section
variable {K:VP}{h:Heap}{g0:Heap}{w:Nat}{x:Hd}{W:Wk}{B:List UInt8}{H:List Nat}{F R:List (Nat×Nat×Nat)}{g:Gm}
def Gm.cntX(g:Gm)(B:List UInt8)(k:Nat):Nat:=if k/g.n<g.m then g.cnt B k else 0
theorem bkV_get{Bk:List Nat}{i:Nat}(hi:i<(Bk.map fun k=>(.int .i64 (k:Nat):Value)).length):(Bk.map fun k=>(.int .i64 (k:Nat):Value))[i] = .int .i64 (Bk[i]'(by simpa using hi):Nat):=List.getElem_map _
set_option maxHeartbeats 4000000 in
theorem wCount_c(kk:g.ok)(hd:HdOk g x)(I:Img g x B)(a:WkAt g0 h w x W B H F R ((List.range g.m).map (g.word B))){k:Nat}(hk:k<=171798691840)
 (hK:K (.int .u64 (g.cntX B k:Nat)) h):CallsH Tryz.prog 64 #[ptrV w,.int .i64 (k:Nat)] h K ⟨⟩:=by
 refine n64_calls ?_
 unfold n64;try delta vF vG vC vD vJ vV vk vt
 obtain⟨q,hq,hq1,hq2⟩:=kk.c512
 have hrl:=kk.room_lt
 have hm8:=kk.m8
 have hnn:=kk.n64
 have hw64:=kk.w64
 have c6:hcell h ⟨w,6,none⟩=some (.int .i64 x.order):=cellOf (i:=6) a.c rfl
 have c0:hcell h ⟨w,0,none⟩=some W.bv:=cellOf (i:=0) a.c rfl
 have c26:hcell h ⟨w,26,none⟩=some W.kv:=cellOf (i:=26) a.c rfl
 rw[hd.order]at c6
 have hB:=a.bytes
 obtain⟨vo,vc,hbv⟩:=hB.form
 rw[hbv]at c0 hB
 obtain⟨ka,kn,kc,hkv,hkl,hkc,hkb⟩:=a.kk.form
 have hkk:=a.kk
 rw[hkv]at c26 hkk
 have hkn:kn=g.m:=by rw[List.length_map,List.length_map,List.length_range]at hkl;omega
 subst hkn
 obtain⟨C8,hC8⟩:∃C,8*g.c=C:=⟨_,rfl⟩
 have hC8':(8:Int)*((g.c:Nat):Int)=((C8:Nat):Int):=by omega
 have hdiv8:((C8:Nat):Int)/((g.w:Nat):Int)=((g.n:Nat):Int):=by
  rw[<-Int.natCast_ediv,<-hC8,<-kk.nw,Nat.mul_div_cancel _ omg]
 obtain⟨D,hD⟩:∃D,k/g.n=D:=⟨_,rfl⟩
 obtain⟨M,hM'⟩:∃M,k%g.n=M:=⟨_,rfl⟩
 have hkd:((k:Nat):Int)/((g.n:Nat):Int)=((D:Nat):Int):=by rw[<-hD];exact (Int.natCast_ediv _ _).symm
 have hkm:((k:Nat):Int)%((g.n:Nat):Int)=((M:Nat):Int):=by rw[<-hM'];exact (Int.natCast_emod _ _).symm
 have hDk:D<=k:=by rw[<-hD];exact Nat.div_le_self _ _
 have hMn:M<g.n:=by rw[<-hM'];exact Nat.mod_lt _ omg
 have hcx:g.cntX B k=if D<g.m then (if g.word B D=0 then 0 else Vc.cnt (g.blk B D) g.w M) else 0:=by
  unfold Gm.cntX Gm.cnt;rw[hD,hM']
 rw[hcx]at hK
 unfold ptrV
 simp(disch:=omega)[c6]
 rw[show (.pointer (some ⟨w,0,none⟩):Value)=ptrV w from rfl]
 refine wClu_c kk hd a ?_
 unfold ptrV
 simp(disch:=omega)[c6,hC8']
 refine RefWidth_c ?_
 rw[kk.wd_w]
 by_cases hDm:¬D<g.m
 ·rw[if_neg hDm]at hK
  have hge:((D:Nat):Int)>=((g.m:Nat):Int):=by omega
  simp(disch:=omega)[hdiv8,hkd,c26,hge]
  exact hK
 replace hDm:=Classical.not_not.1 hDm
 rw[if_pos hDm]at hK
 have hnge:¬((D:Nat):Int)>=((g.m:Nat):Int):=by omega
 obtain⟨kb,ko,rfl⟩:=hkb (fun e=>by have:=congrArg List.length e;rw[List.length_map,List.length_map,List.length_range]at this;simp at this;omega)
 have hcell:=(hkk.cell (i:=D) (by rw[List.length_map,List.length_map,List.length_range];exact hDm)).1
 rw[bkV_get,List.getElem_map,List.getElem_range]at hcell
 by_cases hw:g.word B D=0
 ·rw[if_pos hw]at hK
  rw[hw]at hcell
  simp(disch:=omega)[hdiv8,hkd,c26,hnge,hcell]
  exact hK
 ·rw[if_neg hw]at hK
  obtain⟨hp,hle⟩:=I.wi D hDm hw
  have hbl:=blk_len I hDm hw
  rw[<-hp]at hle
  have hblk:g.blk B D=part B (g.word B D) g.c:=by unfold Gm.blk;rw[hp]
  rw[hblk]at hK hbl
  have hfew:=I.few
  generalize g.word B D=WD at *
  have hw0:¬((WD:Nat):Int)=0:=by omega
  obtain⟨WC,hWC⟩:∃X,WD+g.c=X:=⟨_,rfl⟩
  have hsum:((WD:Nat):Int)+((g.c:Nat):Int)=((WC:Nat):Int):=by omega
  have hs3:WC-WD=g.c:=by omega
  rw[hWC]at hle
  simp(disch:=omega)[hdiv8,hkd,c26,hnge,hcell,hw0,c0,c6,hkm]
  rw[show (.pointer (some ⟨w,0,none⟩):Value)=ptrV w from rfl]
  refine wClu_c kk hd a ?_
  obtain⟨va,rfl,-,hvc,hvA⟩:=hB.at omg
  unfold ptrV
  simp(disch:=omega)[c0,c6,hsum,hs3]
  have hin:=kk.in_block hMn
  have hwd2:=kk.wd_w
  refine RefAt_c (o:=((g.o:Nat):Int)) (n:=M) (bPart2 hB (i:=WD) (m:=g.c) omg omg) (by rw[hbl];omega) (by rw[hwd2];omega) (by rw[hwd2,hbl];exact hin) ?_
  rw[hwd2]
  exact hK
theorem hoF_len:∀l:List Nat,(l.flatMap hoV).length=l.length*2
 | []=>rfl
 | f::l=>by rw[List.flatMap_cons,List.length_append,hoF_len l];simp[hoV];omega
theorem hoF_get:∀(l:List Nat) (i k:Nat) (hi:i<l.length) (hk:k<2),(l.flatMap hoV)[i*2+k]? = (hoV l[i])[k]?
 | r::l,0,k,_,hk=>by
  rw[List.flatMap_cons,List.getElem?_append_left (by simp[hoV];omega)]
  simp
 | r::l,i+1,k,hi,hk=>by
  rw[List.flatMap_cons,List.getElem?_append_right (by simp[hoV];omega),show (hoV r).length=2 from rfl,show (i+1)*2+k-2=i*2+k by omega,hoF_get l i k (by simpa using hi) hk]
  simp
theorem ho_cell{a:Addr}{n c:Nat}{l:List Nat}(o:OwnG hoT 2 h (.slice (some a) n c) (l.flatMap hoV)){i:Nat}(hi:i<l.length) :
 hcell h (elt a (i*2))=some (.int .i64 (l[i]:Nat))/\hcell h (elt a (i*2+1))=some (.int .i64 1):=by
 have key:∀k (hk:k<2),hcell h (elt a (i*2+k))=(hoV l[i])[k]? := fun k hk=>by
  have hlt:i*2+k<(l.flatMap hoV).length:=by rw[hoF_len];omega
  rw[(o.cell hlt).1,<-List.getElem?_eq_getElem hlt,hoF_get l i k hi hk]
 exact⟨key 0 omg,key 1 omg⟩
theorem count_take{H:List Nat}(hn:H.Nodup){i:Nat}(hi:i<H.length):(H.take i).count H[i]=0:=by
 refine List.count_eq_zero_of_not_mem fun h=>?_
 obtain⟨t,ht,he⟩:=List.mem_iff_getElem.1 h
 rw[List.getElem_take]at he
 rw[List.length_take]at ht
 exact List.pairwise_iff_getElem.1 hn t i omg hi omg he
set_option maxHeartbeats 2000000 in
theorem wHeld_c{Bk:List Nat}(a:WkAt g0 h w x W B H F R Bk)(hn:H.Nodup)(hHl:H.length<=1000000){k:Nat}
 (hK:K (.tuple #[.int .u64 (H.count k:Nat),.bool true]) h):CallsH Tryz.prog 63 #[ptrV w,.int .i64 (k:Nat)] h K ⟨⟩:=by
 refine n63_calls ?_
 unfold n63;try delta vF vG vC vD vJ vV vk vt
 have c16:hcell h ⟨w,16,none⟩=some W.hv:=cellOf (i:=16) a.c rfl
 obtain⟨va,vn,vc,hv,hvl,hvc,hvb⟩:=a.hh.form
 have hh:=a.hh
 rw[hv]at c16 hh
 have hvn:vn=H.length:=by rw[hoF_len]at hvl;omega
 subst hvn
 refine loopX4 (α:=Nat) (fun i=>.int .u64 ((H.take i).count k:Nat)) (fun i=>.int .i64 (if (H.take i).count k=0 then 0 else 1)) (fun _=>.bool true) (fun i=>.int .i64 i) (fun i G=>G=h/\i<=H.length) (fun i=>H.length-i) 0 ⟨rfl,rfl,rfl,rfl⟩ ⟨rfl,Nat.zero_le _⟩ ?_
 rintro i G ⟨rfl,hi⟩ X hX
 unfold ptrV
 by_cases hil:i<H.length
 ·obtain⟨ab,ao,rfl⟩:=hvb (fun e=>by have:=congrArg List.length e;rw[hoF_len]at this;simp at this;omega)
  obtain⟨q0,q1⟩:=ho_cell hh hil
  have htk:H.take (i+1)=H.take i++[H[i]]:=List.take_succ_eq_append_getElem hil
  have hct:=count_take hn hil
  have hstep:=hX (i+1)
  rw[htk,List.count_append]at hstep
  obtain⟨E,hE⟩:∃E,H[i]=E:=⟨_,rfl⟩
  rw[hE]at q0 hct hstep
  simp(disch:=omega)[c16]
  refine JoinN.mk (JoinN.mk ?_)
  by_cases hEk:E=k
  ·subst hEk
   rw[hct]at hstep ⊢
   simp(disch:=omega)[c16,q0,q1]
   refine hstep _ _ _ _ _ ?_ ?_ rfl ?_ ⟨rfl,by omega⟩ omg
   ·simp
   ·simp
   ·simp
  ·have hEk':¬((E:Nat):Int)=((k:Nat):Int):=by omega
   have h0:[E].count k=0:=List.count_eq_zero_of_not_mem (by simpa using fun e=>hEk e.symm)
   rw[h0,Nat.add_zero]at hstep
   simp(disch:=omega)[c16,q0,hEk']
   exact hstep _ _ _ _ _ rfl rfl rfl sM ⟨rfl,by omega⟩ omg
 ·obtain rfl:i=H.length:=by omega
  rw[List.take_length]
  simp(disch:=omega)[c16]
  exact hK
def gHold(H:List Nat):Nat:=H.foldl (fun a k=>max a (k+1)) 0
def gBlk(n a:Nat)(Bk:List Nat)(j:Nat):Nat:=(List.range j).foldl (fun a i=>if Bk.getD i 0=0 then a else max a ((i+1)*n)) a
def Gm.grt(g:Gm)(H Bk:List Nat):Nat:=gBlk g.n (gHold H) Bk Bk.length
set_option maxHeartbeats 4000000 in
theorem wGrt_c{Bk:List Nat}(kk:g.ok)(hd:HdOk g x)(a:WkAt g0 h w x W B H F R Bk)(hH:∀k∈H,k<=171798691840)(hHl:H.length<=1000000)(hBl:Bk.length<=327680)
 (hK:K (.int .i64 (g.grt H Bk:Nat)) h):CallsH Tryz.prog 62 #[ptrV w] h K ⟨⟩:=by
 refine n62_calls ?_
 unfold n62;try delta vF vG vC vD vJ vV vk vt
 obtain⟨q,hq,hq1,hq2⟩:=kk.c512
 have hnn:=kk.n64
 have hw64:=kk.w64
 have c16:hcell h ⟨w,16,none⟩=some W.hv:=cellOf (i:=16) a.c rfl
 obtain⟨va,vn,vc,hv,hvl,hvc,hvb⟩:=a.hh.form
 have hh:=a.hh
 rw[hv]at c16 hh
 have hvn:vn=H.length:=by rw[hoF_len]at hvl;omega
 subst hvn
 have c6:hcell h ⟨w,6,none⟩=some (.int .i64 x.order):=cellOf (i:=6) a.c rfl
 have c26:hcell h ⟨w,26,none⟩=some W.kv:=cellOf (i:=26) a.c rfl
 rw[hd.order]at c6
 obtain⟨ka,kn,kc,hkv,hkl,hkc,hkb⟩:=a.kk.form
 have hkk:=a.kk
 rw[hkv]at c26 hkk
 have hkn:kn=Bk.length:=by rw[List.length_map]at hkl;omega
 subst hkn
 refine loopX2 (α:=Nat) (fun i=>.int .i64 (gHold (H.take i):Nat)) (fun i=>.int .i64 i) (fun i G=>G=h/\i<=H.length/\gHold (H.take i)<=171798691841) (fun i=>H.length-i) 0 ⟨rfl,rfl⟩ ⟨rfl,Nat.zero_le _,by simp[gHold]⟩ ?_
 rintro i G ⟨rfl,hi,hgl⟩ X hX
 unfold ptrV
 by_cases hil:i<H.length
 ·obtain⟨ab,ao,rfl⟩:=hvb (fun e=>by have:=congrArg List.length e;rw[hoF_len]at this;simp at this;omega)
  obtain⟨q0,q1⟩:=ho_cell hh hil
  have htk:H.take (i+1)=H.take i++[H[i]]:=List.take_succ_eq_append_getElem hil
  have hk1:=hH _ (List.getElem_mem hil)
  have hstep:=hX (i+1)
  have hgs:gHold (H.take (i+1))=max (gHold (H.take i)) (H[i]+1):=by rw[htk];unfold gHold;rw[List.foldl_append];rfl
  rw[hgs]at hstep
  obtain⟨E,hE⟩:∃E,H[i]=E:=⟨_,rfl⟩
  rw[hE]at q0 hk1 hstep
  generalize gHold (H.take i)=A at *
  simp(disch:=omega)[c16,q0,Hp_max2]
  refine hstep _ _ _ ?_ sM ⟨rfl,by omega,by omega⟩ omg
  congr 1
  split<;>omega
 ·obtain rfl:i=H.length:=by omega
  rw[List.take_length]at hgl ⊢
  simp(disch:=omega)[c16,c6]
  rw[show (.pointer (some ⟨w,0,none⟩):Value)=ptrV w from rfl]
  refine wClu_c kk hd a ?_
  obtain⟨C8,hC8⟩:∃C,8*g.c=C:=⟨_,rfl⟩
  have hC8':(8:Int)*((g.c:Nat):Int)=((C8:Nat):Int):=by omega
  have hdiv8:((C8:Nat):Int)/((g.w:Nat):Int)=((g.n:Nat):Int):=by
   rw[<-Int.natCast_ediv,<-hC8,<-kk.nw,Nat.mul_div_cancel _ omg]
  unfold ptrV
  simp(disch:=omega)[c6,hC8']
  refine RefWidth_c ?_
  rw[kk.wd_w]
  simp(disch:=omega)[hdiv8]
  refine loopX2 (α:=Nat) (fun i=>.int .i64 (gBlk g.n (gHold H) Bk i:Nat)) (fun i=>.int .i64 i) (fun i G2=>G2=G/\i<=Bk.length/\gBlk g.n (gHold H) Bk i<=171798691841) (fun i=>Bk.length-i) 0 ⟨rfl,rfl⟩ ⟨rfl,Nat.zero_le _,hgl⟩ ?_
  rintro i G2 ⟨rfl,hi,hgb⟩ X2 hX2
  by_cases hil:i<Bk.length
  ·obtain⟨kb,ko,rfl⟩:=hkb (fun e=>by rw[List.map_eq_nil_iff]at e;rw[e]at hil;exact absurd hil (Nat.not_lt_zero _))
   have hcell:=(hkk.cell (i:=i) (by rw[List.length_map];exact hil)).1
   rw[bkV_get]at hcell
   have hgs:gBlk g.n (gHold H) Bk (i+1)=if Bk[i]=0 then gBlk g.n (gHold H) Bk i else max (gBlk g.n (gHold H) Bk i) ((i+1)*g.n):=by
    have hgd:Bk.getD i 0=Bk[i]:=by rw[List.getD_eq_getElem?_getD,List.getElem?_eq_getElem hil];rfl
    unfold gBlk
    rw[List.range_succ,List.foldl_append,List.foldl_cons,List.foldl_nil,hgd]
   have hstep:=hX2 (i+1)
   rw[hgs]at hstep
   obtain⟨E,hE⟩:∃E,Bk[i]=E:=⟨_,rfl⟩
   rw[hE]at hcell hstep
   generalize gBlk g.n (gHold H) Bk i=A at *
   obtain⟨MM,hMM⟩:∃M,(i+1)*g.n=M:=⟨_,rfl⟩
   have hMb:MM<=327680*524288:=by rw[<-hMM];exact Nat.mul_le_mul omg hnn.2
   have hMi:((i:Nat):Int)+1=((i+1:Nat):Int):=by omega
   have hMi2:(((i:Nat):Int)+1)*((g.n:Nat):Int)=((MM:Nat):Int):=by rw[hMi,<-Int.natCast_mul,hMM]
   rw[hMM]at hstep
   simp(disch:=omega)[c26]
   refine JoinN.mk (JoinN.mk ?_)
   by_cases hE0:E=0
   ·subst hE0
    rw[if_pos rfl]at hstep
    simp(disch:=omega)[c26,hcell]
    exact hstep _ _ _ rfl sM ⟨rfl,by omega,hgb⟩ omg
   ·have hE0':¬((E:Nat):Int)=0:=by omega
    rw[if_neg hE0]at hstep
    simp(disch:=omega)[c26,hcell,hE0',hMi2,Hp_max2]
    refine hstep _ _ _ ?_ sM ⟨rfl,by omega,by omega⟩ omg
    congr 1
    split<;>omega
  ·obtain rfl:i=Bk.length:=by omega
   simp(disch:=omega)[c26]
   exact hK
end
end Go.Proofs.YtdccfkffabngjaaGreat

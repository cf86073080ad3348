/- Clusters: counts are added to. Clusters: a run of free ones is looked for. Clusters: a run is given back. Clusters: a run is taken. Clusters: an image's counts are opened. Heads: the reference's bytes. Heads: the reference's reading. -/
import Derived.Test.YtdccfkffabngjaaGreatGpF
import Derived.Test.YtdccfkffabngjaaGreatGpD
set_option linter.unusedSimpArgs false
set_option linter.unusedVariables false
set_option maxRecDepth 20000
namespace Go.Proofs.YtdccfkffabngjaaGreat
open Go.Vc
variable {K:VP} {h:Heap}

theorem look_t {m:Nat} {L:List (Int×Value)} {l:List Int} {q:Bool} {k:Int} (hm:MapK ik h m L) (t:Tally l L):Hp Tryz.prog q (Instr.lookup 104 (.map (some m)) (.int .i64 k) false) K h ⟨⟩↔K (.int .i64 (l.count k:Nat)) h:=by
 rw [show (.int .i64 k:Value)=ik k from rfl,Hp_lookup timesKey (z := .int .i64 0) kR hm,if_neg dM,t.get]
theorem look_b {m:Nat} {L:List (Int×Value)} {l:List Int} {q:Bool} {k:Int} (hm:MapK ik h m L) (t:Tally l L):Hp Tryz.prog q (Instr.lookup 110 (.map (some m)) (.int .i64 k) false) K h ⟨⟩↔K (.int .i64 (l.count k:Nat)) h:=by
 rw [show (.int .i64 k:Value)=ik k from rfl,Hp_lookup blocksKey (z := .int .i64 0) kR hm,if_neg dM,t.get]
theorem gWrite2_c {o sp:Nat} {g:Gm} {x:Hd} {s:St} {p:Fs} {at_ n Q b1 o1 c1 b2 o2 c2:Nat} {was is:List UInt8} (hn:n=512*Q) (a:RA h o sp g x s p) (hwl:was.length=n) (hil:is.length=n)
 (hW:Bytes h (.slice (some ⟨b1,o1,none⟩) n c1) was) (hI:Bytes h (.slice (some ⟨b2,o2,none⟩) n c2) is) (n1:¬s.foot sp b1) (n2:¬s.foot sp b2) (l1:b1<h.size) (l2:b2<h.size) (hs:p.steps+Q<1000000) (hf:at_+n≤268435456)
 (H:∀h' s',SUpd h h' sp s s'→FsAt s' (wrF at_ was is Q 0 p).1→K (.int .i64 (wrF at_ was is Q 0 p).2) h') :
 CallsH Tryz.prog 53 #[ptrV o,.int .i64 (at_:Nat),.slice (some ⟨b1,o1,none⟩) n c1,.slice (some ⟨b2,o2,none⟩) n c2] h K ⟨⟩:=by
 subst hn
 exact gWrite_c a hwl hil hW hI n1 n2 l1 l2 hs hf H
theorem gCAdd_c {g:Gm} (kk:g.ok) {B cc j:Nat} {v:Int} {l:List UInt8} (hO:OwnS 1 h (.slice (some ⟨B,0,none⟩) g.c cc) (l.map byteV)) (hl:l.length=g.c) (hj:j<g.n) (hv : -9223372036854775808≤v∧v<9223372036854775808)
 (f0:0≤((Vc.cnt l g.w j:Nat):Int)+v) (f1:((Vc.cnt l g.w j:Nat):Int)+v<(2^g.w:Nat))
 (H:∀h' r,Mod (· = B) h h'→OwnS 1 h' (.slice (some ⟨B,0,none⟩) g.c cc) ((setC l g.w j (((Vc.cnt l g.w j:Nat):Int)+v).toNat).map byteV)→K r h') :
 CallsH Tryz.prog 52 #[.slice (some ⟨B,0,none⟩) g.c cc,.int .i64 (g.o:Nat),.int .i64 (j:Nat),.int .i64 v] h K ⟨⟩:=by
 obtain ⟨n,hn⟩:∃n,g.c=n:=⟨_,rfl⟩
 have ha:=kk.ask0 hj
 have hg:=kk.getC_ hl hj
 have hw:=kk.wd_w
 rw [hn] at hO hl ha ⊢
 rw [hn] at H
 subst hl
 have hO':OwnS 1 h (.slice (some ⟨B,0,none⟩) l.length cc) ((l++[]).map byteV):=by rw [List.append_nil]; exact hO
 have he:addCE l ((g.o:Nat):Int) ((j:Nat):Int) v=0:=by
  unfold addCE
  rw [ha,if_pos rfl,hg,hw,if_pos ⟨f0,f1⟩]
 refine CAdd_c hO' (by have:=kk.room_lt; omega) hv (fun h1 e1 hne=>absurd he hne) (fun h1 h2 e1 _ _ _ _ o2 m2 => ?_)
 rw [hg,hw,Int.toNat_natCast,List.append_nil] at o2
 exact H h2 _ ((Mod.of_ext e1).trans m2 (fun _ _ h=>h)) o2
set_option maxHeartbeats 16000000 in
theorem gAdd_c {o sp:Nat} {g:Gm} {x:Hd} {s:St} {p:Fs} {by_:Int} {cl:List Int} {va:Option Addr} {vn vc:Nat} (a:RA h o sp g x s p) (I:Img g x p.f.now) (hb : -9223372036854775808≤by_∧by_<9223372036854775808) (ov:OwnG i6T 1 h (.slice va vn vc) (cl.map ik)) (hcl:cl.length≤1000)
 (hci:∀k∈cl,-9223372036854775808≤k∧k<9223372036854775808) (hroom:by_=1→Inr g cl→∀k:Nat,(k:Int)∈cl→g.word p.f.now (k/g.n)=0→g.pl (k/g.n)+g.c≤268435456∧k%g.n≠0) (hcov:by_ = -1→∀k:Nat,(k:Int)∈cl→g.hold p.f.now k→cntZ cl k<g.cnt p.f.now k)
 (hs:p.steps+cl.length*(5+g.c/512)+1<1000000)
 (H2:∀h',Ext h h'→by_≠1→by_ ≠ -1→K (.int .i64 2) h')
 (H4:∀h',Ext h h'→(by_=1∨by_ = -1)→¬Inr g cl→K (.int .i64 4) h')
 (H9:∀h',Ext h h'→by_ = -1→Inr g cl→(∃k:Nat,(k:Int)∈cl∧g.cnt p.f.now k<cntZ cl k)→K (.int .i64 9) h')
 (H6:∀h',Ext h h'→by_=1→Inr g cl→(∃k:Nat,(k:Int)∈cl∧2^g.w≤g.cnt p.f.now k+cntZ cl k)→K (.int .i64 6) h')
 (H:∀h' s' ks bs,Asked g by_ cl p.f.now ks bs→SUpd h h' sp s s'→FsAt s' (addF g by_ (cntZ cl) ks bs p).1→K (.int .i64 (addF g by_ (cntZ cl) ks bs p).2) h') :
 CallsH Tryz.prog 15 #[ptrV o,.int .i64 by_,.slice va vn vc] h K ⟨⟩:=by
 refine n15_calls ?_
 unfold n15; try delta vF vG vC vD vJ vV vk vt
 refine gNone_c a.rg ?_
 by_cases hby:¬(by_=1∨by_ = -1)
 ·have h1:¬by_=1:=fun e=>hby (.inl e)
  have h2:¬by_ = -1:=fun e=>hby (.inr e)
  simp (disch:=omega) [h1,h2]
  exact H2 h (.refl h) h1 h2
 replace hby:=Classical.not_not.1 hby
 have c0:=cellOf (i:=0) a.rg rfl
 have c1:=cellOf (i:=1) a.rg rfl
 have hbb:(by_=1∨¬by_=1∧by_ = -1):=by omega
 have hvn:vn=cl.length:=by
  obtain ⟨a1,n1,c1,e,hl,-,-⟩:=ov.form
  injection e with e1 e2 e3
  rw [List.length_map] at hl; omega
 subst hvn
 unfold ptrV at c0 ⊢
 have hnn:=a.ok.n64
 have hrl:=a.ok.room_lt
 rcases hbb with rfl|⟨-,rfl⟩
 ·skip
  simp (disch:=omega) [c0,c1]
  rw [show (.pointer (some ⟨sp,0,none⟩):Value)=ptrV sp from rfl,show (.pointer (some ⟨o,0,none⟩):Value)=ptrV o from rfl]
  refine sSize_c a.st a.fs fun h1 e1 => ?_
  have a1:=a.ext e1
  simp (disch:=omega)
  rw [Hp_makeMap]
  simp (disch:=omega)
  obtain ⟨h2,hh2⟩:∃X,X=h1.push (.map #[] 0):=⟨_,rfl⟩
  have e2:Ext h1 h2:=by rw [hh2]; exact extS
  have hm0:MapK ik h2 h1.size []:=by rw [hh2]; exact MapK.new rfl
  rw [←hh2]
  clear hh2
  refine loopX1 (α:=Nat×List (Int×Value)) (fun z => .int .i64 z.1) (fun z G=>z.1≤cl.length∧Mod (· = h1.size) h2 G∧MapK ik G h1.size z.2∧Tally (cl.take z.1) z.2∧∀k∈cl.take z.1,0≤k∧k<g.room) (fun z=>cl.length-z.1) (0,[]) rfl ⟨Nat.zero_le _,.refl _ _,hm0,.nil,fun k hk=>by cases hk⟩ ?_
  rintro ⟨j,L⟩ G ⟨hj,mG,hm,ht,hin⟩ X hX
  dsimp only at hj mG hm ht hin hX ⊢
  have eG:Ext h1 G:=mG.ext_from e2 (fun b hb e=>by omega)
  have aG:=a1.ext eG
  by_cases hjl:j<cl.length
  ·obtain ⟨b,o2,rfl⟩:∃b o2,va=some ⟨b,o2,none⟩:=by
    obtain ⟨a2,n2,c2,e,-,-,hne⟩:=ov.form
    injection e with e1 _ _
    obtain ⟨b,o2,hh⟩:=hne (fun e=>by rw [List.map_eq_nil_iff] at e; rw [e] at hjl; exact absurd hjl (Nat.not_lt_zero _))
    exact ⟨b,o2,e1.trans hh⟩
   have hc:=((ov.ext (e1.trans eG)).cell (i:=j) (by rw [List.length_map]; exact hjl)).1
   rw [List.getElem_map] at hc
   have hmem:=List.getElem_mem hjl
   have hki:=hci _ hmem
   have htk:cl.take (j+1)=cl.take j++[cl[j]]:=List.take_succ_eq_append_getElem hjl
   have hcle:(cl.take j).length≤cl.length:=by rw [List.length_take]; omega
   obtain ⟨k,hk⟩:∃k,cl[j]=k:=⟨_,rfl⟩
   rw [hk] at hc hmem hki htk
   have hc:hcell G (elt ⟨b,o2,none⟩ j)=some (.int .i64 k):=hc
   have hct:(cl.take j).count k≤(cl.take j).length:=List.count_le_length
   by_cases k0:k<0
   ·simp (disch:=omega) [hc,k0]
    exact H4 G (e1.trans eG) (.inl rfl) (fun hh=>by have:=(hh k hmem).1; omega)
   simp (disch:=omega) [hc,k0]
   refine gRoom_c aG.rg a.ok a.hd ?_
   by_cases k1:¬k<g.room
   ·simp (disch:=omega) [k0,k1]
    exact H4 G (e1.trans eG) (.inl rfl) (fun hh=>k1 (hh k hmem).2)
   replace k1:=Classical.not_not.1 k1
   have hsn:(((cl.take j).count k:Nat):Int)+1=(((cl.take j).count k+1:Nat):Int):=by omega
   obtain ⟨CT,hCT⟩:∃C,(cl.take j).count k=C:=⟨_,rfl⟩
   rw [hCT] at hsn hct
   have hlk:=fun (q:Bool) (K:VP)=>look_t (K:=K) (q:=q) (k:=k) hm ht
   simp only [hCT] at hlk
   have k1':¬k≥g.room:=by omega
   simp (disch:=omega) [k0,k1,k1',hlk]
   refine Hp_mapUpdate timesKey (k:=k) hm fun G2 hm2 m2 => ?_
   simp (disch:=omega)
   have ht2:=ht.snoc k
   rw [hCT,←htk] at ht2
   rw [hsn] at hm2
   refine hX (j+1,_) _ _ sM ⟨by omega,mG.trans m2 (fun _ _ h=>h),hm2,ht2,fun q hq => ?_⟩ (by dsimp only; omega)
   rw [htk] at hq
   rcases List.mem_append.1 hq with hq|hq
   ·exact hin q hq
   ·rw [List.mem_singleton.1 hq]; omega
  obtain rfl:j=cl.length:=by omega
  rw [List.take_length] at ht hin
  simp (disch:=omega)
  refine keysKeyN_c fun g1 f1 hk1 => ?_
  refine sortedKeyN_c hk1 (hm.ext f1) (by have:=ht.few; omega) fun g2 v2 ks f2 hp2 hs2 o2 fr2 => ?_
  have hmemk:∀k,k∈ks↔k∈cl:=fun k=>by rw [hp2.mem_iff]; exact ht.mem k
  have hndk:ks.Nodup:=hp2.nodup_iff.2 hm.nodup
  have hkl:ks.length≤cl.length:=by have:=hp2.length_eq; rw [List.length_map] at this; have:=ht.few; omega
  have hkin:∀k∈ks,0≤k∧k<g.room:=fun k hk=>hin k ((hmemk k).1 hk)
  have hinr:Inr g cl:=hin
  have a2:=aG.ext (f1.trans f2)
  have hm2:=hm.ext (f1.trans f2)
  have c7:=cellOf (i:=7) a2.rg rfl
  rw [a.hd.order] at c7
  unfold ptrV
  simp (disch:=omega) [c7]
  rw [show (.pointer (some ⟨o,0,none⟩):Value)=ptrV o from rfl]
  refine Most_c fun g3 f3 => ?_
  have hw64:=a.ok.w64
  rw [a.ok.wd_w,if_neg omg]
  have a3:=a2.ext f3
  have hm3:=hm2.ext f3
  have o3:=o2.ext f3
  have E3:Ext h g3:=e1.trans (eG.trans (f1.trans (f2.trans f3)))
  obtain ⟨TOP,hTOP⟩:∃T,2^g.w-1=T:=⟨_,rfl⟩
  have htop:TOP<18446744073709551616∧TOP+1=2^g.w:=by
   have h1:2^g.w≤2^64:=Nat.pow_le_pow_right omg hw64.2
   have h2:1≤2^g.w:=Nat.one_le_two_pow
   have h3:(2:Nat)^64=18446744073709551616:=by decide
   omega
  rw [hTOP]
  obtain ⟨va2,vn2,vc2,rfl,hvl2,hvc2,hvb2⟩:=o3.g.form
  have hvn2:vn2=ks.length:=by rw [List.length_map] at hvl2; omega
  subst hvn2
  have hkcell:∀G,Ext g3 G→∀j (hj:j<ks.length),∃b o2,va2=some ⟨b,o2,none⟩∧hcell G (elt ⟨b,o2,none⟩ j)=some (.int .i64 ks[j]):=fun G eG j hj=>by
   obtain ⟨b,ob,rfl⟩:=hvb2 (fun e=>by rw [List.map_eq_nil_iff] at e; rw [e] at hj; exact absurd hj (Nat.not_lt_zero _))
   refine ⟨b,ob,rfl,?_⟩
   have:=((o3.ext eG).g.cell (i:=j) (by rw [List.length_map]; exact hj)).1
   rw [List.getElem_map] at this
   exact this
  have hctl:∀k:Int,cl.count k≤cl.length:=fun k=>List.count_le_length
  simp (disch:=omega)
  refine loopX2 (α:=Nat×Bool) (fun z => .bool z.2) (fun z => .int .i64 z.1) (fun z G=>z.1≤ks.length∧Ext g3 G∧(z.2=true↔∃i,∃hi:i<ks.length,i<z.1∧2^g.w≤g.cnt p.f.now (ks[i]).toNat+cl.count ks[i])) (fun z=>ks.length-z.1) (0,false) ⟨rfl,rfl⟩ ⟨Nat.zero_le _,.refl _,?_⟩ ?_
  ·constructor
   ·intro hh; cases hh
   ·rintro ⟨i,_,hi,_⟩; omega
  rintro ⟨j,full⟩ G2 ⟨hj,eG2,hfu⟩ X hX
  dsimp only at hj eG2 hfu hX ⊢
  by_cases hjl:j<ks.length
  ·obtain ⟨b,ob,rfl,hc⟩:=hkcell G2 eG2 j hjl
   have hkj:=hkin _ (List.getElem_mem hjl)
   obtain ⟨k,hk⟩:∃k,ks[j]=k:=⟨_,rfl⟩
   rw [hk] at hc hkj
   simp (disch:=omega) [hc]
   refine gCount_c (a3.ext eG2) I (fun g4 e4 hno=>absurd hkj hno) (fun g4 e4 _ _ => ?_)
   have hct:=hctl k
   have hm4:=hm3.ext (eG2.trans e4)
   obtain ⟨CN,hCN⟩:∃C,g.cnt p.f.now k.toNat=C:=⟨_,rfl⟩
   have hcn:CN<2^g.w:=by
    rw [←hCN]; unfold Gm.cnt
    split
    ·exact Nat.pow_pos omg
    ·exact cnt_lt _ _ _
   rw [hCN]
   obtain ⟨CT,hCT⟩:∃C,cl.count k=C:=⟨_,rfl⟩
   rw [hCT] at hct
   have hlk:=fun (q:Bool) (K:VP)=>look_t (K:=K) (q:=q) (k:=k) hm4 ht
   simp only [hCT] at hlk
   have step:∀f2:Bool,(f2=true↔full=true∨2^g.w≤CN+CT)→X (.bool f2) (.int .i64 ((j:Int)+1)) g4:=fun f2 hf2=>by
    refine hX (j+1,f2) _ _ _ rfl sM ⟨by omega,eG2.trans e4,?_⟩ (by dsimp only; omega)
    rw [hf2,hfu]
    constructor
    ·rintro (⟨i,hi,h1,h2⟩|h2)
     ·exact ⟨i,hi,by omega,h2⟩
     ·exact ⟨j,hjl,by omega,by rw [hk,hCN,hCT]; exact h2⟩
    ·rintro ⟨i,hi,h1,h2⟩
     by_cases e:i=j
     ·subst e
      rw [hk,hCN,hCT] at h2
      exact .inr h2
     ·exact .inl ⟨i,hi,by omega,h2⟩
   cases full with
   | true =>
    simp (disch:=omega)
    exact step true sM
   | false =>
    by_cases hle:2^g.w≤CN+CT
    ·have hlt:((TOP:Nat):Int)-(CN:Int)<(CT:Int):=by omega
     simp (disch:=omega) [hlk,hlt]
     exact step true (by simp [hle])
    ·have hlt:¬((TOP:Nat):Int)-(CN:Int)<(CT:Int):=by omega
     simp (disch:=omega) [hlk,hlt]
     exact step false (by simp; omega)
  obtain rfl:j=ks.length:=by omega
  simp (disch:=omega)
  have hall:∃hh:full=true∨full=false,True:=⟨by cases full<;>simp,trivial⟩
  rcases hall with ⟨rfl|rfl,-⟩
  ·obtain ⟨i,hi,-,hle⟩:=hfu.1 rfl
   have hki:=hkin _ (List.getElem_mem hi)
   have hmi:=(hmemk _).1 (List.getElem_mem hi)
   simp (disch:=omega)
   refine H6 G2 (E3.trans eG2) rfl hinr ⟨(ks[i]).toNat,?_,?_⟩
   ·rw [Int.toNat_of_nonneg hki.1]; exact hmi
   ·unfold cntZ; rw [Int.toNat_of_nonneg hki.1]; exact hle
  have hfit:∀i (hi:i<ks.length),g.cnt p.f.now (ks[i]).toNat+cl.count ks[i]<2^g.w:=fun i hi=>by
   refine Nat.not_le.1 fun hle => ?_
   exact absurd (hfu.2 ⟨i,hi,hi,hle⟩) sM
  simp (disch:=omega)
  have hfit1:(1:Int)=1→∀k∈ks,g.cnt p.f.now k.toNat+cl.count k<2^g.w:=fun _ k hk=>by
   obtain ⟨i,hi,rfl⟩:=List.mem_iff_getElem.1 hk
   exact hfit i hi
  rw [Hp_makeMap]
  simp (disch:=omega)
  have a4:=a3.ext eG2
  obtain ⟨h5,hh5⟩:∃X,X=G2.push (.map #[] 0):=⟨_,rfl⟩
  have e5:Ext G2 h5:=by rw [hh5]; exact extS
  have hmb:MapK ik h5 G2.size []:=by rw [hh5]; exact MapK.new rfl
  rw [←hh5]
  clear hh5
  refine loopX1 (α:=Nat×List (Int×Value)) (fun z => .int .i64 z.1) (fun z G=>z.1≤ks.length∧Mod (· = G2.size) h5 G∧MapK ik G G2.size z.2∧Tally ((ks.take z.1).map (· / (g.n:Int))) z.2) (fun z=>ks.length-z.1) (0,[]) rfl ⟨Nat.zero_le _,.refl _ _,hmb,.nil⟩ ?_
  rintro ⟨j,L2⟩ G3 ⟨hj,mG3,hmb,htb⟩ X hX
  dsimp only at hj mG3 hmb htb hX ⊢
  have eG3:Ext G2 G3:=mG3.ext_from e5 (fun b hb e=>by omega)
  have a5:=a4.ext eG3
  by_cases hjl:j<ks.length
  ·obtain ⟨b,ob,rfl,hc⟩:=hkcell G3 (eG2.trans eG3) j hjl
   have hkj:=hkin _ (List.getElem_mem hjl)
   have htk:ks.take (j+1)=ks.take j++[ks[j]]:=List.take_succ_eq_append_getElem hjl
   obtain ⟨k,hk⟩:∃k,ks[j]=k:=⟨_,rfl⟩
   rw [hk] at hc hkj htk
   have c18:=cellOf (i:=18) a5.rg rfl
   obtain ⟨KD,hKD⟩:∃D,k/((g.n:Nat):Int)=D:=⟨_,rfl⟩
   obtain ⟨CT,hCT⟩:∃C,((ks.take j).map (· / (g.n:Int))).count KD=C:=⟨_,rfl⟩
   have hct:CT≤ks.length:=by
    rw [←hCT]
    refine Nat.le_trans List.count_le_length ?_
    rw [List.length_map,List.length_take]; omega
   have hlk:=fun (q:Bool) (K:VP)=>look_b (K:=K) (q:=q) (k:=KD) hmb htb
   simp only [hCT] at hlk
   unfold ptrV
   simp (disch:=omega) [hc,c18,hKD,hlk]
   refine Hp_mapUpdate blocksKey (k:=KD) hmb fun G4 hm4 m4 => ?_
   simp (disch:=omega)
   have ht2:=htb.snoc KD
   rw [hCT,show (ks.take j).map (· / (g.n:Int))++[KD]=(ks.take (j+1)).map (· / (g.n:Int)) by rw [htk,List.map_append,List.map_singleton,hKD]] at ht2
   rw [show ((CT:Nat):Int)+1=((CT+1:Nat):Int) by omega] at hm4
   exact hX (j+1,_) _ _ sM ⟨by omega,mG3.trans m4 (fun _ _ h=>h),hm4,ht2⟩ (by dsimp only; omega)
  obtain rfl:j=ks.length:=by omega
  rw [List.take_length] at htb
  simp (disch:=omega)
  refine keysKeyI_c fun g6 f6 hk6 => ?_
  refine sortedKeyI_c hk6 (hmb.ext f6) (by have:=htb.few; rw [List.length_map] at this; omega) fun g7 v7 bs f7 hp7 hs7 o7 fr7 => ?_
  have hmemb:∀i,i∈bs↔∃k∈ks,k/((g.n:Nat):Int)=i:=fun i=>by
   rw [hp7.mem_iff,htb.mem,List.mem_map]
  have hndb:bs.Nodup:=hp7.nodup_iff.2 hmb.nodup
  have hbl:bs.length≤cl.length:=by have:=hp7.length_eq; rw [List.length_map] at this; have:=htb.few; rw [List.length_map] at this; omega
  have a7:=a5.ext (f6.trans f7)
  have eK7:=eG2.trans (eG3.trans (f6.trans f7))
  have hm7:=hm3.ext eK7
  have E7:=E3.trans eK7
  obtain ⟨va7,vn7,vc7,rfl,hvl7,hvc7,hvb7⟩:=o7.g.form
  have hvn7:vn7=bs.length:=by rw [List.length_map] at hvl7; omega
  subst hvn7
  have hbcell:∀j (hj:j<bs.length),∃b ob,va7=some ⟨b,ob,none⟩∧hcell g7 (elt ⟨b,ob,none⟩ j)=some (.int .i64 bs[j]):=fun j hj=>by
   obtain ⟨b,ob,rfl⟩:=hvb7 (fun e=>by rw [List.map_eq_nil_iff] at e; rw [e] at hj; exact absurd hj (Nat.not_lt_zero _))
   refine ⟨b,ob,rfl,?_⟩
   have:=(o7.g.cell (i:=j) (by rw [List.length_map]; exact hj)).1
   rw [List.getElem_map] at this
   exact this
  have hkcell7:∀j (hj:j<ks.length),∃b ob,va2=some ⟨b,ob,none⟩∧hcell g7 (elt ⟨b,ob,none⟩ j)=some (.int .i64 ks[j]):=fun j hj=>hkcell g7 eK7 j hj
  simp (disch:=omega)
  obtain ⟨Q,hb0⟩:=asked_of a.ok I hby hinr hmemk hndk hs2 hmemb hndb hs7 hfit1 (fun e=>absurd e dM) hroom hcov
  have Ad:=Q.ad
  have nfoot:∀b,h.size≤b→¬s.foot sp b:=fun b hb e=>by have:=a.st.lt e; omega
  have hsz1:=e1.size
  have hszG:=eG.size
  have hsz7:=f7.size
  have hsz6:=f6.size
  have hszG3:=eG3.size
  have hszG2:=eG2.size
  have hszf3:=f3.size
  have hszf2:=f2.size
  have hszf1:=f1.size
  obtain ⟨KS,hKS⟩:∃l,l=ks.map Int.toNat:=⟨_,rfl⟩
  obtain ⟨BS,hBS⟩:∃l,l=bs.map Int.toNat:=⟨_,rfl⟩
  rw [←hKS,←hBS] at Q
  rw [←hKS] at Ad
  have hBl:BS.length=bs.length:=by rw [hBS,List.length_map]
  have hKl:KS.length=ks.length:=by rw [hKS,List.length_map]
  obtain ⟨q,hq,hq1,hq2⟩:=a.ok.c512
  obtain ⟨W,hW⟩:∃W,5+g.c/512=W:=⟨_,rfl⟩
  have hWmul:bs.length*W≤cl.length*W:=Nat.mul_le_mul_right _ hbl
  rw [hW] at hs
  refine loopX1 (α:=Nat×St×Fs×List Nat) (fun z => .int .i64 z.1) (fun z G=>z.1≤bs.length∧SUpd g7 G sp s z.2.1∧FsAt z.2.1 z.2.2.1∧z.2.2.1.f.ok∧After g x 1 (cntZ cl) KS p.f.now z.2.2.2 z.2.2.1.f.now∧(∀i,i∈z.2.2.2↔i∈BS.take z.1)∧addF g 1 (cntZ cl) KS (BS.drop z.1) z.2.2.1=addF g 1 (cntZ cl) KS BS p∧z.2.2.1.steps≤p.steps+z.1*W) (fun z=>bs.length-z.1) (0,s,p,[]) rfl ⟨Nat.zero_le _,.refl a7.st,a.fs,a.fok,.zero I,fun i=>by simp,rfl,Nat.le_add_right _ _⟩ ?_
  rintro ⟨j,s1,p1,D⟩ G ⟨hj,u,f1',ok1,A1,hD,he,hst⟩ X hX
  dsimp only at hj u f1' ok1 A1 hD he hst hX ⊢
  have aG:=a7.upd u f1'
  by_cases hjl:¬j<bs.length
  ·obtain rfl:j=bs.length:=by omega
   simp (disch:=omega)
   rw [←hBl,List.drop_length] at he
   have he2:addF g 1 (cntZ cl) KS BS p=(p1,0):=he.symm
   have:=H G s1 KS BS Q (u.from_ E7)
   rw [he2] at this
   exact this f1'
  replace hjl:=Classical.not_not.1 hjl
  have hkeep:∀b,h.size≤b→b<g7.size→G[b]? = g7[b]? := fun b hb hl=>u.mod.block b hl (nfoot b hb)
  obtain ⟨b7,ob7,rfl,hcb⟩:=hbcell j hjl
  have hb7:g6.size≤b7:=fr7 b7 rfl
  have hb7l:b7<g7.size:=by simpa using hcell_lt hcb
  have hcbG:hcell G (elt ⟨b7,ob7,none⟩ j)=some (.int .i64 bs[j]):=(u.mod.cell (by simpa using hb7l) (by simpa using nfoot b7 omg)).trans hcb
  have hbj0:=hb0 _ (List.getElem_mem hjl)
  have hBj:BS[j]'omg=(bs[j]).toNat:=by simp only [hBS,List.getElem_map]
  obtain ⟨i,hi⟩:∃i,(bs[j]).toNat=i:=⟨_,rfl⟩
  have hii:bs[j]=((i:Nat):Int):=by omega
  rw [hii] at hcbG
  rw [hi] at hBj
  have hBmem:i∈BS:=hBj▸List.getElem_mem omg
  obtain ⟨q0,hq0,hq0i⟩:=(Q.bmem i).1 hBmem
  have him:i<g.m:=hq0i▸Ad.lt q0 hq0
  have hiD:i∉D:=fun hh=>by
   obtain ⟨t,ht,he⟩:=List.mem_iff_getElem.1 ((hD i).1 hh)
   rw [List.getElem_take] at he
   rw [List.length_take] at ht
   have:=List.pairwise_iff_getElem.1 Q.bnd t j omg omg omg
   exact this (he.trans hBj.symm)
  have hdrop:BS.drop j=i::BS.drop (j+1):=by
   rw [List.drop_eq_getElem_cons omg,hBj]
  have htake:BS.take (j+1)=BS.take j++[i]:=by
   rw [List.take_succ_eq_append_getElem omg,hBj]
  rw [hdrop] at he
  have hbm:j*W+W≤bs.length*W:=by
   have:=Nat.mul_le_mul_right W (show j+1≤bs.length from hjl)
   rw [Nat.add_mul,Nat.one_mul] at this; exact this
  simp (disch:=omega)
  refine JoinN.mk (JoinN.mk ?_)
  simp (disch:=omega) [hcbG]
  have hstp1:=aG.st.stp
  have bwd:=A1.wd0 i him hiD
  have hfB:g.word p.f.now i=0→g.pl i+g.c≤268435456:=fun h=>hq0i▸(Ad.room q0 hq0 (by rw [hq0i]; exact h)).1
  refine gTable_c aG A1.img him (fun G6 e6 hw => ?_) (fun G6 bb cc e6 hw ob hbb hcc => ?_)
  ·skip
   have hwB:g.word p.f.now i=0:=by rw [←bwd]; exact hw
   have hfit0:=hfB hwB
   have hgB:getB g i p1=mkF g i p1:=by unfold getB; rw [if_pos hw]
   have hmk:=mkF_stp a.ok ok1 him hfit0
   have aG6:=aG.ext e6
   simp (disch:=omega)
   refine JoinN.mk ?_
   simp (disch:=omega)
   refine gMake_c aG6 A1.img him hw hfit0 omg fun GX s2 u2 f2 => ?_
   by_cases hm0:(mkF g i p1).2=0
   ·rw [hm0]
    have M:Mid g x 1 (cntZ cl) KS p.f.now D i (mkF g i p1).1.f.now:=by
     have:=getB_mid a.ok ok1 A1 him hiD hfB (by rw [hgB]; exact hm0)
     rw [hgB] at this
     exact this
    have he3:seqF (putBk g 1 (cntZ cl) KS i::(BS.drop (j+1)).map (stepB g 1 (cntZ cl) KS)) (mkF g i p1).1=addF g 1 (cntZ cl) KS BS p:=by
     rw [←he]
     unfold addF
     rw [List.map_cons]
     have hsb:stepB g 1 (cntZ cl) KS i p1=putBk g 1 (cntZ cl) KS i (mkF g i p1).1:=by
      unfold stepB
      rw [seqF_two (by rw [hgB]; exact hm0),hgB]
     rw [seqF,seqF,hsb]
    have aX:=aG6.upd u2 f2
    have uX:=u.trans (u2.from_ e6)
    have ok2:=hmk.1.ok
    have hst2:=hmk.1.stp
    have hpst:p1.steps≤p.steps+j*W:=hst
    generalize (mkF g i p1).1=p2 at *
    clear hwB hfit0 aG6 hgB hmk hm0 f2
    simp (disch:=omega)
    refine gTable_c aX M.img him (fun _ _ hw2=>absurd hw2 M.wi) (fun G6 bb cc e6 _ ob hbb hcc => ?_)
    simp (disch:=omega)
    have hblk:=blk_len M.img him M.wi
    have hbb7:g7.size≤bb:=by have:=uX.mod.size; omega
    have hbf:¬s2.foot sp bb:=fun e=>by have:=aX.st.lt e; omega
    refine sclone_c (n:=g.c) ob.g.src ⟨_,_,rfl⟩ (one_bytes _) (by have:=a.ok.room_lt; omega) fun vw g8 e8 ow fw fw2 => ?_
    have ob8:=(ob.ext e8).own
    have hbb8:bb<G6.size:=by
     obtain ⟨arr,ha⟩:=ob.tag (b:=bb) rfl
     exact get_some_lt ha
    have hsz8:=e8.size
    have hsz6:=e6.size
    have hstX:=aX.st.stp
    simp (disch:=omega)
    refine loopX1 (α:=Nat) (fun z => .int .i64 z) (fun z G=>z≤ks.length∧Mod (· = bb) g8 G∧OwnS 1 G (.slice (some ⟨bb,0,none⟩) g.c cc) ((addB g 1 (cntZ cl) i (KS.take z) (g.blk p2.f.now i)).map byteV)) (fun z=>ks.length-z) 0 rfl ⟨Nat.zero_le _,.refl _ _,ob8⟩ ?_
    rintro j2 G9 ⟨hj2,m9,o9⟩ X2 hX2
    have eX9:Ext GX G9:=m9.ext_from (e6.trans e8) (fun b hb e=>Nat.lt_irrefl _ (Nat.lt_of_lt_of_le hb (by rw [e]; exact hbb)))
    have a9:=aX.ext eX9
    by_cases hj2l:j2<ks.length
    ·obtain ⟨bk,obk,rfl,hck⟩:=hkcell7 j2 hj2l
     have hbk7:bk<g7.size:=by simpa using hcell_lt hck
     have hbkh:h.size≤bk:=by have:=fr2 bk rfl; omega
     have hck9:hcell G9 (elt ⟨bk,obk,none⟩ j2)=some (.int .i64 ks[j2]):=(hcell_ext eX9 ((uX.mod.cell (by simpa using hbk7) (by simpa using nfoot bk hbkh)).trans hck))
     have hm9:MapK ik G9 h1.size L:=(hm7.mod uX.mod (nfoot h1.size omg)).ext eX9
     have hkin2:=hkin _ (List.getElem_mem hj2l)
     have hKj:KS[j2]'omg=(ks[j2]).toNat:=by simp only [hKS,List.getElem_map]
     have hKtk:KS.take (j2+1)=KS.take j2++[KS[j2]'omg]:=List.take_succ_eq_append_getElem omg
     obtain ⟨k,hk⟩:∃k,(ks[j2]).toNat=k:=⟨_,rfl⟩
     have hkk:ks[j2]=((k:Nat):Int):=by omega
     rw [hkk] at hck9
     rw [hk] at hKj
     have c7:=cellOf (i:=7) a9.rg rfl
     have c18:=cellOf (i:=18) a9.rg rfl
     rw [a.hd.order] at c7
     obtain ⟨DD,hDD⟩:∃D,k/g.n=D:=⟨_,rfl⟩
     obtain ⟨MM,hMM⟩:∃M,k%g.n=M:=⟨_,rfl⟩
     have hMn:MM<g.n:=by rw [←hMM]; exact Nat.mod_lt _ omg
     have hkd:((k:Nat):Int)/((g.n:Nat):Int)=((DD:Nat):Int):=by rw [←hDD]; exact (Int.natCast_ediv _ _).symm
     have hkm:((k:Nat):Int)%((g.n:Nat):Int)=((MM:Nat):Int):=by rw [←hMM]; exact (Int.natCast_emod _ _).symm
     have hkroom:((k:Nat):Int)<g.room:=by omega
     simp (disch:=omega)
     refine JoinN.mk (JoinN.mk ?_)
     unfold ptrV
     simp (disch:=omega) [hck9,c18,hkd]
     by_cases hDi:DD=i
     ·have hDi':((DD:Nat):Int)=((i:Nat):Int):=by omega
      obtain ⟨CT,hCT⟩:∃C,cl.count ((k:Nat):Int)=C:=⟨_,rfl⟩
      have hlk:=fun (q:Bool) (K:VP)=>look_t (K:=K) (q:=q) (k:=((k:Nat):Int)) hm9 ht
      simp only [hCT] at hlk
      have hct:=hctl ((k:Nat):Int)
      rw [hCT] at hct
      simp (disch:=omega) [hDi',c7,c18,hkm,hlk]
      have hturn:=M.turn a.ok Ad him hiD (j:=j2) omg (by rw [hKj,hDD]; exact hDi)
      rw [hKj,hMM] at hturn
      have hfk:=Ad.fit k (hKj▸List.getElem_mem omg)
      have hcz:cntZ cl k=CT:=hCT
      rw [hcz] at hfk
      have hal:(addB g 1 (cntZ cl) i (KS.take j2) (g.blk p2.f.now i)).length=g.c:=by rw [addB_len]; exact hblk
      refine gCAdd_c a.ok o9 hal hMn omg (by rw [hturn]; omega) (by rw [hturn]; omega) fun G10 r10 m10 o10 => ?_
      simp (disch:=omega)
      refine hX2 (j2+1) _ _ sM ⟨by omega,m9.trans m10 (fun _ _ h=>h),?_⟩ omg
      rw [hKtk,addB_snoc,hKj,hDD,if_pos hDi,hMM,hcz]
      simpa using o10
     ·have hDi':¬((DD:Nat):Int)=((i:Nat):Int):=by omega
      simp (disch:=omega) [hDi']
      refine hX2 (j2+1) _ _ sM ⟨by omega,m9,?_⟩ omg
      rw [hKtk,addB_snoc,hKj,hDD,if_neg hDi]
      exact o9
    ·obtain rfl:j2=ks.length:=by omega
     rw [←hKl,List.take_length] at o9
     simp (disch:=omega)
     have hple:=(M.img.wi i him M.wi).2
     have hple2:=M.img.few
     have hPs:=putBk_stp (by_:=1) (T:=cntZ cl) (ks:=KS) a.ok ok2 M.img him M.wi
     obtain ⟨wa,wn,wc,rfl,hwl,hwc,hwb⟩:=ow.form
     have hwn:wn=g.c:=by rw [List.length_map,hblk] at hwl; omega
     subst hwn
     obtain ⟨wb,wo,rfl⟩:=hwb (fun e=>by have:=congrArg List.length e; rw [List.length_map,hblk] at this; simp at this; omega)
     have hwbn:blkV (.slice (some ⟨wb,wo,none⟩) g.c wc)=some wb:=rfl
     have hwb8:=fw2 wb hwbn
     have hwbl:wb<g8.size:=ow.bytes.lt hwbn (fun e=>by rw [e] at hblk; simp at hblk; omega)
     have hbw9:Bytes G9 (.slice (some ⟨wb,wo,none⟩) g.c wc) (g.blk p2.f.now i):=ow.bytes.mod m9 (fun b hb e=>by rw [hwbn] at hb; cases hb; omega)
     have hsz9:=m9.size
     refine gWrite2_c (Q:=g.c/512) a.ok.c_div.symm a9 hblk (by rw [addB_len]; exact hblk) hbw9 o9.bytes (fun e=>by have:=aX.st.lt e; omega) hbf omg omg omg omg fun G11 s3 u3 f3 => ?_
     have f3':FsAt s3 (putBk g 1 (cntZ cl) KS i p2).1:=f3
     have hE:(wrF (g.pl i) (g.blk p2.f.now i) (addB g 1 (cntZ cl) i KS (g.blk p2.f.now i)) (g.c/512) 0 p2).2=(putBk g 1 (cntZ cl) KS i p2).2:=rfl
     rw [hE]
     have u9:=uX.trans (u3.from_ eX9)
     by_cases he0:(putBk g 1 (cntZ cl) KS i p2).2=0
     ·rw [he0]
      rw [seqF_cons he0] at he3
      simp (disch:=omega)
      refine hX (j+1,s3,(putBk g 1 (cntZ cl) KS i p2).1,i::D) _ _ sM ⟨by dsimp only; omega,u9,f3',hPs.1.ok,putBk_after a.ok Ad ok2 him hiD M he0,fun i2 => ?_,he3,?_⟩ (by dsimp only; omega)
      ·dsimp only
       rw [htake,List.mem_cons,List.mem_append,List.mem_singleton,hD]
       constructor
       ·rintro (h|h)
        ·exact .inr h
        ·exact .inl h
       ·rintro (h|h)
        ·exact .inr h
        ·exact .inl h
      ·have:=hPs.1.stp
       dsimp only
       rw [Nat.add_mul,Nat.one_mul]
       omega
     ·rw [seqF_err he0] at he3
      simp (disch:=omega) [he0]
      have:=H G11 s3 KS BS Q (u9.from_ E7)
      rw [←he3] at this
      exact this f3'
   ·simp (disch:=omega) [hm0]
    have heF:addF g 1 (cntZ cl) KS BS p=mkF g i p1:=by
     rw [←he]
     unfold addF
     rw [List.map_cons]
     have hsb:stepB g 1 (cntZ cl) KS i p1=mkF g i p1:=by
      unfold stepB
      rw [seqF_err (by rw [hgB]; exact hm0),hgB]
     rw [seqF_err (by rw [hsb]; exact hm0),hsb]
    have:=H GX s2 KS BS Q ((u.trans (u2.from_ e6)).from_ E7)
    rw [heF] at this
    exact this f2
  ·have uX:=u
   have ok2:=ok1
   have he3:seqF (putBk g 1 (cntZ cl) KS i::(BS.drop (j+1)).map (stepB g 1 (cntZ cl) KS)) p1=addF g 1 (cntZ cl) KS BS p:=by
    rw [←he]
    unfold addF
    rw [List.map_cons]
    have hsb:stepB g 1 (cntZ cl) KS i p1=putBk g 1 (cntZ cl) KS i p1:=by
     unfold stepB
     have:getB g i p1=(p1,0):=by unfold getB; rw [if_neg hw]
     rw [seqF_two (by rw [this]),this]
    rw [seqF,seqF,hsb]
   have M:Mid g x 1 (cntZ cl) KS p.f.now D i p1.f.now:=by
    have h1:getB g i p1=(p1,0):=by unfold getB; rw [if_neg hw]
    have:=getB_mid a.ok ok1 A1 him hiD hfB (by rw [h1])
    rw [h1] at this
    exact this
   have aX:=aG
   have hpst:p1.steps≤p.steps+j*W:=hst
   obtain ⟨GX,hGX⟩:∃z,z=G:=⟨_,rfl⟩
   obtain ⟨s2,hs2e⟩:∃z,z=s1:=⟨_,rfl⟩
   obtain ⟨p2,hp2e⟩:∃z,z=p1:=⟨_,rfl⟩
   rw [←hs2e,←hGX] at uX
   rw [←hs2e,←hp2e,←hGX] at aX
   rw [←hGX] at e6 hbb
   rw [←hp2e] at ok2 he3 M ob
   have hst2:p2.steps≤p1.steps+5:=by rw [hp2e]; omega
   simp (disch:=omega)
   refine JoinN.mk ?_
   simp (disch:=omega)
   have hblk:=blk_len M.img him M.wi
   have hbb7:g7.size≤bb:=by have:=uX.mod.size; omega
   have hbf:¬s2.foot sp bb:=fun e=>by have:=aX.st.lt e; omega
   refine sclone_c (n:=g.c) ob.g.src ⟨_,_,rfl⟩ (one_bytes _) (by have:=a.ok.room_lt; omega) fun vw g8 e8 ow fw fw2 => ?_
   have ob8:=(ob.ext e8).own
   have hbb8:bb<G6.size:=by
    obtain ⟨arr,ha⟩:=ob.tag (b:=bb) rfl
    exact get_some_lt ha
   have hsz8:=e8.size
   have hsz6:=e6.size
   have hstX:=aX.st.stp
   simp (disch:=omega)
   refine loopX1 (α:=Nat) (fun z => .int .i64 z) (fun z G=>z≤ks.length∧Mod (· = bb) g8 G∧OwnS 1 G (.slice (some ⟨bb,0,none⟩) g.c cc) ((addB g 1 (cntZ cl) i (KS.take z) (g.blk p2.f.now i)).map byteV)) (fun z=>ks.length-z) 0 rfl ⟨Nat.zero_le _,.refl _ _,ob8⟩ ?_
   rintro j2 G9 ⟨hj2,m9,o9⟩ X2 hX2
   have eX9:Ext GX G9:=m9.ext_from (e6.trans e8) (fun b hb e=>Nat.lt_irrefl _ (Nat.lt_of_lt_of_le hb (by rw [e]; exact hbb)))
   have a9:=aX.ext eX9
   by_cases hj2l:j2<ks.length
   ·obtain ⟨bk,obk,rfl,hck⟩:=hkcell7 j2 hj2l
    have hbk7:bk<g7.size:=by simpa using hcell_lt hck
    have hbkh:h.size≤bk:=by have:=fr2 bk rfl; omega
    have hck9:hcell G9 (elt ⟨bk,obk,none⟩ j2)=some (.int .i64 ks[j2]):=(hcell_ext eX9 ((uX.mod.cell (by simpa using hbk7) (by simpa using nfoot bk hbkh)).trans hck))
    have hm9:MapK ik G9 h1.size L:=(hm7.mod uX.mod (nfoot h1.size omg)).ext eX9
    have hkin2:=hkin _ (List.getElem_mem hj2l)
    have hKj:KS[j2]'omg=(ks[j2]).toNat:=by simp only [hKS,List.getElem_map]
    have hKtk:KS.take (j2+1)=KS.take j2++[KS[j2]'omg]:=List.take_succ_eq_append_getElem omg
    obtain ⟨k,hk⟩:∃k,(ks[j2]).toNat=k:=⟨_,rfl⟩
    have hkk:ks[j2]=((k:Nat):Int):=by omega
    rw [hkk] at hck9
    rw [hk] at hKj
    have c7:=cellOf (i:=7) a9.rg rfl
    have c18:=cellOf (i:=18) a9.rg rfl
    rw [a.hd.order] at c7
    obtain ⟨DD,hDD⟩:∃D,k/g.n=D:=⟨_,rfl⟩
    obtain ⟨MM,hMM⟩:∃M,k%g.n=M:=⟨_,rfl⟩
    have hMn:MM<g.n:=by rw [←hMM]; exact Nat.mod_lt _ omg
    have hkd:((k:Nat):Int)/((g.n:Nat):Int)=((DD:Nat):Int):=by rw [←hDD]; exact (Int.natCast_ediv _ _).symm
    have hkm:((k:Nat):Int)%((g.n:Nat):Int)=((MM:Nat):Int):=by rw [←hMM]; exact (Int.natCast_emod _ _).symm
    have hkroom:((k:Nat):Int)<g.room:=by omega
    simp (disch:=omega)
    refine JoinN.mk (JoinN.mk ?_)
    unfold ptrV
    simp (disch:=omega) [hck9,c18,hkd]
    by_cases hDi:DD=i
    ·have hDi':((DD:Nat):Int)=((i:Nat):Int):=by omega
     obtain ⟨CT,hCT⟩:∃C,cl.count ((k:Nat):Int)=C:=⟨_,rfl⟩
     have hlk:=fun (q:Bool) (K:VP)=>look_t (K:=K) (q:=q) (k:=((k:Nat):Int)) hm9 ht
     simp only [hCT] at hlk
     have hct:=hctl ((k:Nat):Int)
     rw [hCT] at hct
     simp (disch:=omega) [hDi',c7,c18,hkm,hlk]
     have hturn:=M.turn a.ok Ad him hiD (j:=j2) omg (by rw [hKj,hDD]; exact hDi)
     rw [hKj,hMM] at hturn
     have hfk:=Ad.fit k (hKj▸List.getElem_mem omg)
     have hcz:cntZ cl k=CT:=hCT
     rw [hcz] at hfk
     have hal:(addB g 1 (cntZ cl) i (KS.take j2) (g.blk p2.f.now i)).length=g.c:=by rw [addB_len]; exact hblk
     refine gCAdd_c a.ok o9 hal hMn omg (by rw [hturn]; omega) (by rw [hturn]; omega) fun G10 r10 m10 o10 => ?_
     simp (disch:=omega)
     refine hX2 (j2+1) _ _ sM ⟨by omega,m9.trans m10 (fun _ _ h=>h),?_⟩ omg
     rw [hKtk,addB_snoc,hKj,hDD,if_pos hDi,hMM,hcz]
     simpa using o10
    ·have hDi':¬((DD:Nat):Int)=((i:Nat):Int):=by omega
     simp (disch:=omega) [hDi']
     refine hX2 (j2+1) _ _ sM ⟨by omega,m9,?_⟩ omg
     rw [hKtk,addB_snoc,hKj,hDD,if_neg hDi]
     exact o9
   ·obtain rfl:j2=ks.length:=by omega
    rw [←hKl,List.take_length] at o9
    simp (disch:=omega)
    have hple:=(M.img.wi i him M.wi).2
    have hple2:=M.img.few
    have hPs:=putBk_stp (by_:=1) (T:=cntZ cl) (ks:=KS) a.ok ok2 M.img him M.wi
    obtain ⟨wa,wn,wc,rfl,hwl,hwc,hwb⟩:=ow.form
    have hwn:wn=g.c:=by rw [List.length_map,hblk] at hwl; omega
    subst hwn
    obtain ⟨wb,wo,rfl⟩:=hwb (fun e=>by have:=congrArg List.length e; rw [List.length_map,hblk] at this; simp at this; omega)
    have hwbn:blkV (.slice (some ⟨wb,wo,none⟩) g.c wc)=some wb:=rfl
    have hwb8:=fw2 wb hwbn
    have hwbl:wb<g8.size:=ow.bytes.lt hwbn (fun e=>by rw [e] at hblk; simp at hblk; omega)
    have hbw9:Bytes G9 (.slice (some ⟨wb,wo,none⟩) g.c wc) (g.blk p2.f.now i):=ow.bytes.mod m9 (fun b hb e=>by rw [hwbn] at hb; cases hb; omega)
    have hsz9:=m9.size
    refine gWrite2_c (Q:=g.c/512) a.ok.c_div.symm a9 hblk (by rw [addB_len]; exact hblk) hbw9 o9.bytes (fun e=>by have:=aX.st.lt e; omega) hbf omg omg omg omg fun G11 s3 u3 f3 => ?_
    have f3':FsAt s3 (putBk g 1 (cntZ cl) KS i p2).1:=f3
    have hE:(wrF (g.pl i) (g.blk p2.f.now i) (addB g 1 (cntZ cl) i KS (g.blk p2.f.now i)) (g.c/512) 0 p2).2=(putBk g 1 (cntZ cl) KS i p2).2:=rfl
    rw [hE]
    have u9:=uX.trans (u3.from_ eX9)
    by_cases he0:(putBk g 1 (cntZ cl) KS i p2).2=0
    ·rw [he0]
     rw [seqF_cons he0] at he3
     simp (disch:=omega)
     refine hX (j+1,s3,(putBk g 1 (cntZ cl) KS i p2).1,i::D) _ _ sM ⟨by dsimp only; omega,u9,f3',hPs.1.ok,putBk_after a.ok Ad ok2 him hiD M he0,fun i2 => ?_,he3,?_⟩ (by dsimp only; omega)
     ·dsimp only
      rw [htake,List.mem_cons,List.mem_append,List.mem_singleton,hD]
      constructor
      ·rintro (h|h)
       ·exact .inr h
       ·exact .inl h
      ·rintro (h|h)
       ·exact .inr h
       ·exact .inl h
     ·have:=hPs.1.stp
      dsimp only
      rw [Nat.add_mul,Nat.one_mul]
      omega
    ·rw [seqF_err he0] at he3
     simp (disch:=omega) [he0]
     have:=H G11 s3 KS BS Q (u9.from_ E7)
     rw [←he3] at this
     exact this f3'
 ·skip
  simp (disch:=omega) [c0,c1]
  rw [show (.pointer (some ⟨sp,0,none⟩):Value)=ptrV sp from rfl,show (.pointer (some ⟨o,0,none⟩):Value)=ptrV o from rfl]
  refine sSize_c a.st a.fs fun h1 e1 => ?_
  have a1:=a.ext e1
  simp (disch:=omega)
  rw [Hp_makeMap]
  simp (disch:=omega)
  obtain ⟨h2,hh2⟩:∃X,X=h1.push (.map #[] 0):=⟨_,rfl⟩
  have e2:Ext h1 h2:=by rw [hh2]; exact extS
  have hm0:MapK ik h2 h1.size []:=by rw [hh2]; exact MapK.new rfl
  rw [←hh2]
  clear hh2
  refine loopX1 (α:=Nat×List (Int×Value)) (fun z => .int .i64 z.1) (fun z G=>z.1≤cl.length∧Mod (· = h1.size) h2 G∧MapK ik G h1.size z.2∧Tally (cl.take z.1) z.2∧∀k∈cl.take z.1,0≤k∧k<g.room) (fun z=>cl.length-z.1) (0,[]) rfl ⟨Nat.zero_le _,.refl _ _,hm0,.nil,fun k hk=>by cases hk⟩ ?_
  rintro ⟨j,L⟩ G ⟨hj,mG,hm,ht,hin⟩ X hX
  dsimp only at hj mG hm ht hin hX ⊢
  have eG:Ext h1 G:=mG.ext_from e2 (fun b hb e=>by omega)
  have aG:=a1.ext eG
  by_cases hjl:j<cl.length
  ·obtain ⟨b,o2,rfl⟩:∃b o2,va=some ⟨b,o2,none⟩:=by
    obtain ⟨a2,n2,c2,e,-,-,hne⟩:=ov.form
    injection e with e1 _ _
    obtain ⟨b,o2,hh⟩:=hne (fun e=>by rw [List.map_eq_nil_iff] at e; rw [e] at hjl; exact absurd hjl (Nat.not_lt_zero _))
    exact ⟨b,o2,e1.trans hh⟩
   have hc:=((ov.ext (e1.trans eG)).cell (i:=j) (by rw [List.length_map]; exact hjl)).1
   rw [List.getElem_map] at hc
   have hmem:=List.getElem_mem hjl
   have hki:=hci _ hmem
   have htk:cl.take (j+1)=cl.take j++[cl[j]]:=List.take_succ_eq_append_getElem hjl
   have hcle:(cl.take j).length≤cl.length:=by rw [List.length_take]; omega
   obtain ⟨k,hk⟩:∃k,cl[j]=k:=⟨_,rfl⟩
   rw [hk] at hc hmem hki htk
   have hc:hcell G (elt ⟨b,o2,none⟩ j)=some (.int .i64 k):=hc
   have hct:(cl.take j).count k≤(cl.take j).length:=List.count_le_length
   by_cases k0:k<0
   ·simp (disch:=omega) [hc,k0]
    exact H4 G (e1.trans eG) (.inr rfl) (fun hh=>by have:=(hh k hmem).1; omega)
   simp (disch:=omega) [hc,k0]
   refine gRoom_c aG.rg a.ok a.hd ?_
   by_cases k1:¬k<g.room
   ·simp (disch:=omega) [k0,k1]
    exact H4 G (e1.trans eG) (.inr rfl) (fun hh=>k1 (hh k hmem).2)
   replace k1:=Classical.not_not.1 k1
   have hsn:(((cl.take j).count k:Nat):Int)+1=(((cl.take j).count k+1:Nat):Int):=by omega
   obtain ⟨CT,hCT⟩:∃C,(cl.take j).count k=C:=⟨_,rfl⟩
   rw [hCT] at hsn hct
   have hlk:=fun (q:Bool) (K:VP)=>look_t (K:=K) (q:=q) (k:=k) hm ht
   simp only [hCT] at hlk
   have k1':¬k≥g.room:=by omega
   simp (disch:=omega) [k0,k1,k1',hlk]
   refine Hp_mapUpdate timesKey (k:=k) hm fun G2 hm2 m2 => ?_
   simp (disch:=omega)
   have ht2:=ht.snoc k
   rw [hCT,←htk] at ht2
   rw [hsn] at hm2
   refine hX (j+1,_) _ _ sM ⟨by omega,mG.trans m2 (fun _ _ h=>h),hm2,ht2,fun q hq => ?_⟩ (by dsimp only; omega)
   rw [htk] at hq
   rcases List.mem_append.1 hq with hq|hq
   ·exact hin q hq
   ·rw [List.mem_singleton.1 hq]; omega
  obtain rfl:j=cl.length:=by omega
  rw [List.take_length] at ht hin
  simp (disch:=omega)
  refine keysKeyN_c fun g1 f1 hk1 => ?_
  refine sortedKeyN_c hk1 (hm.ext f1) (by have:=ht.few; omega) fun g2 v2 ks f2 hp2 hs2 o2 fr2 => ?_
  have hmemk:∀k,k∈ks↔k∈cl:=fun k=>by rw [hp2.mem_iff]; exact ht.mem k
  have hndk:ks.Nodup:=hp2.nodup_iff.2 hm.nodup
  have hkl:ks.length≤cl.length:=by have:=hp2.length_eq; rw [List.length_map] at this; have:=ht.few; omega
  have hkin:∀k∈ks,0≤k∧k<g.room:=fun k hk=>hin k ((hmemk k).1 hk)
  have hinr:Inr g cl:=hin
  have a2:=aG.ext (f1.trans f2)
  have hm2:=hm.ext (f1.trans f2)
  have c7:=cellOf (i:=7) a2.rg rfl
  rw [a.hd.order] at c7
  unfold ptrV
  simp (disch:=omega) [c7]
  rw [show (.pointer (some ⟨o,0,none⟩):Value)=ptrV o from rfl]
  refine Most_c fun g3 f3 => ?_
  have hw64:=a.ok.w64
  rw [a.ok.wd_w,if_neg omg]
  have a3:=a2.ext f3
  have hm3:=hm2.ext f3
  have o3:=o2.ext f3
  have E3:Ext h g3:=e1.trans (eG.trans (f1.trans (f2.trans f3)))
  obtain ⟨TOP,hTOP⟩:∃T,2^g.w-1=T:=⟨_,rfl⟩
  have htop:TOP<18446744073709551616∧TOP+1=2^g.w:=by
   have h1:2^g.w≤2^64:=Nat.pow_le_pow_right omg hw64.2
   have h2:1≤2^g.w:=Nat.one_le_two_pow
   have h3:(2:Nat)^64=18446744073709551616:=by decide
   omega
  rw [hTOP]
  obtain ⟨va2,vn2,vc2,rfl,hvl2,hvc2,hvb2⟩:=o3.g.form
  have hvn2:vn2=ks.length:=by rw [List.length_map] at hvl2; omega
  subst hvn2
  have hkcell:∀G,Ext g3 G→∀j (hj:j<ks.length),∃b o2,va2=some ⟨b,o2,none⟩∧hcell G (elt ⟨b,o2,none⟩ j)=some (.int .i64 ks[j]):=fun G eG j hj=>by
   obtain ⟨b,ob,rfl⟩:=hvb2 (fun e=>by rw [List.map_eq_nil_iff] at e; rw [e] at hj; exact absurd hj (Nat.not_lt_zero _))
   refine ⟨b,ob,rfl,?_⟩
   have:=((o3.ext eG).g.cell (i:=j) (by rw [List.length_map]; exact hj)).1
   rw [List.getElem_map] at this
   exact this
  have hctl:∀k:Int,cl.count k≤cl.length:=fun k=>List.count_le_length
  simp (disch:=omega)
  refine loopX2 (α:=Nat) (fun _ => .bool false) (fun z => .int .i64 z) (fun z G=>z≤ks.length∧Ext g3 G∧∀i (hi:i<ks.length),i<z→cl.count ks[i]≤g.cnt p.f.now (ks[i]).toNat) (fun z=>ks.length-z) 0 ⟨rfl,rfl⟩ ⟨Nat.zero_le _,.refl _,fun i _ hi=>by omega⟩ ?_
  rintro j G2 ⟨hj,eG2,hfu⟩ X hX
  by_cases hjl:j<ks.length
  ·obtain ⟨b,ob,rfl,hc⟩:=hkcell G2 eG2 j hjl
   have hmj:=(hmemk _).1 (List.getElem_mem hjl)
   have hkj:=hkin _ (List.getElem_mem hjl)
   obtain ⟨k,hk⟩:∃k,ks[j]=k:=⟨_,rfl⟩
   rw [hk] at hc hkj hmj
   simp (disch:=omega) [hc]
   refine gCount_c (a3.ext eG2) I (fun g4 e4 hno=>absurd hkj hno) (fun g4 e4 _ _ => ?_)
   have hct:=hctl k
   have hm4:=hm3.ext (eG2.trans e4)
   obtain ⟨CN,hCN⟩:∃C,g.cnt p.f.now k.toNat=C:=⟨_,rfl⟩
   have hcn:CN<2^g.w:=by rw [←hCN]; exact Gm.cnt_lt _ _
   rw [hCN]
   obtain ⟨CT,hCT⟩:∃C,cl.count k=C:=⟨_,rfl⟩
   rw [hCT] at hct
   have hlk:=fun (q:Bool) (K:VP)=>look_t (K:=K) (q:=q) (k:=k) hm4 ht
   simp only [hCT] at hlk
   by_cases hle:CN<CT
   ·simp (disch:=omega) [hlk,hle]
    refine H9 g4 (E3.trans (eG2.trans e4)) rfl hinr ⟨k.toNat,?_,?_⟩
    ·rw [Int.toNat_of_nonneg hkj.1]; exact hmj
    ·unfold cntZ; rw [Int.toNat_of_nonneg hkj.1,hCN,hCT]; exact hle
   ·simp (disch:=omega) [hlk,hle]
    refine hX (j+1) _ _ _ rfl sM ⟨by omega,eG2.trans e4,fun i hi hij => ?_⟩ omg
    by_cases e:i=j
    ·subst e
     rw [hk,hCN,hCT]; omega
    ·exact hfu i hi omg
  obtain rfl:j=ks.length:=by omega
  have hfit2:(-1:Int) = -1→∀k∈ks,cl.count k≤g.cnt p.f.now k.toNat:=fun _ k hk=>by
   obtain ⟨i,hi,rfl⟩:=List.mem_iff_getElem.1 hk
   exact hfu i hi hi
  simp (disch:=omega)
  rw [Hp_makeMap]
  simp (disch:=omega)
  have a4:=a3.ext eG2
  obtain ⟨h5,hh5⟩:∃X,X=G2.push (.map #[] 0):=⟨_,rfl⟩
  have e5:Ext G2 h5:=by rw [hh5]; exact extS
  have hmb:MapK ik h5 G2.size []:=by rw [hh5]; exact MapK.new rfl
  rw [←hh5]
  clear hh5
  refine loopX1 (α:=Nat×List (Int×Value)) (fun z => .int .i64 z.1) (fun z G=>z.1≤ks.length∧Mod (· = G2.size) h5 G∧MapK ik G G2.size z.2∧Tally ((ks.take z.1).map (· / (g.n:Int))) z.2) (fun z=>ks.length-z.1) (0,[]) rfl ⟨Nat.zero_le _,.refl _ _,hmb,.nil⟩ ?_
  rintro ⟨j,L2⟩ G3 ⟨hj,mG3,hmb,htb⟩ X hX
  dsimp only at hj mG3 hmb htb hX ⊢
  have eG3:Ext G2 G3:=mG3.ext_from e5 (fun b hb e=>by omega)
  have a5:=a4.ext eG3
  by_cases hjl:j<ks.length
  ·obtain ⟨b,ob,rfl,hc⟩:=hkcell G3 (eG2.trans eG3) j hjl
   have hkj:=hkin _ (List.getElem_mem hjl)
   have htk:ks.take (j+1)=ks.take j++[ks[j]]:=List.take_succ_eq_append_getElem hjl
   obtain ⟨k,hk⟩:∃k,ks[j]=k:=⟨_,rfl⟩
   rw [hk] at hc hkj htk
   have c18:=cellOf (i:=18) a5.rg rfl
   obtain ⟨KD,hKD⟩:∃D,k/((g.n:Nat):Int)=D:=⟨_,rfl⟩
   obtain ⟨CT,hCT⟩:∃C,((ks.take j).map (· / (g.n:Int))).count KD=C:=⟨_,rfl⟩
   have hct:CT≤ks.length:=by
    rw [←hCT]
    refine Nat.le_trans List.count_le_length ?_
    rw [List.length_map,List.length_take]; omega
   have hlk:=fun (q:Bool) (K:VP)=>look_b (K:=K) (q:=q) (k:=KD) hmb htb
   simp only [hCT] at hlk
   unfold ptrV
   simp (disch:=omega) [hc,c18,hKD,hlk]
   refine Hp_mapUpdate blocksKey (k:=KD) hmb fun G4 hm4 m4 => ?_
   simp (disch:=omega)
   have ht2:=htb.snoc KD
   rw [hCT,show (ks.take j).map (· / (g.n:Int))++[KD]=(ks.take (j+1)).map (· / (g.n:Int)) by rw [htk,List.map_append,List.map_singleton,hKD]] at ht2
   rw [show ((CT:Nat):Int)+1=((CT+1:Nat):Int) by omega] at hm4
   exact hX (j+1,_) _ _ sM ⟨by omega,mG3.trans m4 (fun _ _ h=>h),hm4,ht2⟩ (by dsimp only; omega)
  obtain rfl:j=ks.length:=by omega
  rw [List.take_length] at htb
  simp (disch:=omega)
  refine keysKeyI_c fun g6 f6 hk6 => ?_
  refine sortedKeyI_c hk6 (hmb.ext f6) (by have:=htb.few; rw [List.length_map] at this; omega) fun g7 v7 bs f7 hp7 hs7 o7 fr7 => ?_
  have hmemb:∀i,i∈bs↔∃k∈ks,k/((g.n:Nat):Int)=i:=fun i=>by
   rw [hp7.mem_iff,htb.mem,List.mem_map]
  have hndb:bs.Nodup:=hp7.nodup_iff.2 hmb.nodup
  have hbl:bs.length≤cl.length:=by have:=hp7.length_eq; rw [List.length_map] at this; have:=htb.few; rw [List.length_map] at this; omega
  have a7:=a5.ext (f6.trans f7)
  have eK7:=eG2.trans (eG3.trans (f6.trans f7))
  have hm7:=hm3.ext eK7
  have E7:=E3.trans eK7
  obtain ⟨va7,vn7,vc7,rfl,hvl7,hvc7,hvb7⟩:=o7.g.form
  have hvn7:vn7=bs.length:=by rw [List.length_map] at hvl7; omega
  subst hvn7
  have hbcell:∀j (hj:j<bs.length),∃b ob,va7=some ⟨b,ob,none⟩∧hcell g7 (elt ⟨b,ob,none⟩ j)=some (.int .i64 bs[j]):=fun j hj=>by
   obtain ⟨b,ob,rfl⟩:=hvb7 (fun e=>by rw [List.map_eq_nil_iff] at e; rw [e] at hj; exact absurd hj (Nat.not_lt_zero _))
   refine ⟨b,ob,rfl,?_⟩
   have:=(o7.g.cell (i:=j) (by rw [List.length_map]; exact hj)).1
   rw [List.getElem_map] at this
   exact this
  have hkcell7:∀j (hj:j<ks.length),∃b ob,va2=some ⟨b,ob,none⟩∧hcell g7 (elt ⟨b,ob,none⟩ j)=some (.int .i64 ks[j]):=fun j hj=>hkcell g7 eK7 j hj
  simp (disch:=omega)
  obtain ⟨Q,hb0⟩:=asked_of a.ok I hby hinr hmemk hndk hs2 hmemb hndb hs7 (fun e=>absurd e dM) hfit2 hroom hcov
  have Ad:=Q.ad
  have nfoot:∀b,h.size≤b→¬s.foot sp b:=fun b hb e=>by have:=a.st.lt e; omega
  have hsz1:=e1.size
  have hszG:=eG.size
  have hsz7:=f7.size
  have hsz6:=f6.size
  have hszG3:=eG3.size
  have hszG2:=eG2.size
  have hszf3:=f3.size
  have hszf2:=f2.size
  have hszf1:=f1.size
  obtain ⟨KS,hKS⟩:∃l,l=ks.map Int.toNat:=⟨_,rfl⟩
  obtain ⟨BS,hBS⟩:∃l,l=bs.map Int.toNat:=⟨_,rfl⟩
  rw [←hKS,←hBS] at Q
  rw [←hKS] at Ad
  have hBl:BS.length=bs.length:=by rw [hBS,List.length_map]
  have hKl:KS.length=ks.length:=by rw [hKS,List.length_map]
  obtain ⟨q,hq,hq1,hq2⟩:=a.ok.c512
  obtain ⟨W,hW⟩:∃W,5+g.c/512=W:=⟨_,rfl⟩
  have hWmul:bs.length*W≤cl.length*W:=Nat.mul_le_mul_right _ hbl
  rw [hW] at hs
  refine loopX1 (α:=Nat×St×Fs×List Nat) (fun z => .int .i64 z.1) (fun z G=>z.1≤bs.length∧SUpd g7 G sp s z.2.1∧FsAt z.2.1 z.2.2.1∧z.2.2.1.f.ok∧After g x (-1) (cntZ cl) KS p.f.now z.2.2.2 z.2.2.1.f.now∧(∀i,i∈z.2.2.2↔i∈BS.take z.1)∧addF g (-1) (cntZ cl) KS (BS.drop z.1) z.2.2.1=addF g (-1) (cntZ cl) KS BS p∧z.2.2.1.steps≤p.steps+z.1*W) (fun z=>bs.length-z.1) (0,s,p,[]) rfl ⟨Nat.zero_le _,.refl a7.st,a.fs,a.fok,.zero I,fun i=>by simp,rfl,Nat.le_add_right _ _⟩ ?_
  rintro ⟨j,s1,p1,D⟩ G ⟨hj,u,f1',ok1,A1,hD,he,hst⟩ X hX
  dsimp only at hj u f1' ok1 A1 hD he hst hX ⊢
  have aG:=a7.upd u f1'
  by_cases hjl:¬j<bs.length
  ·obtain rfl:j=bs.length:=by omega
   simp (disch:=omega)
   rw [←hBl,List.drop_length] at he
   have he2:addF g (-1) (cntZ cl) KS BS p=(p1,0):=he.symm
   have:=H G s1 KS BS Q (u.from_ E7)
   rw [he2] at this
   exact this f1'
  replace hjl:=Classical.not_not.1 hjl
  have hkeep:∀b,h.size≤b→b<g7.size→G[b]? = g7[b]? := fun b hb hl=>u.mod.block b hl (nfoot b hb)
  obtain ⟨b7,ob7,rfl,hcb⟩:=hbcell j hjl
  have hb7:g6.size≤b7:=fr7 b7 rfl
  have hb7l:b7<g7.size:=by simpa using hcell_lt hcb
  have hcbG:hcell G (elt ⟨b7,ob7,none⟩ j)=some (.int .i64 bs[j]):=(u.mod.cell (by simpa using hb7l) (by simpa using nfoot b7 omg)).trans hcb
  have hbj0:=hb0 _ (List.getElem_mem hjl)
  have hBj:BS[j]'omg=(bs[j]).toNat:=by simp only [hBS,List.getElem_map]
  obtain ⟨i,hi⟩:∃i,(bs[j]).toNat=i:=⟨_,rfl⟩
  have hii:bs[j]=((i:Nat):Int):=by omega
  rw [hii] at hcbG
  rw [hi] at hBj
  have hBmem:i∈BS:=hBj▸List.getElem_mem omg
  obtain ⟨q0,hq0,hq0i⟩:=(Q.bmem i).1 hBmem
  have him:i<g.m:=hq0i▸Ad.lt q0 hq0
  have hiD:i∉D:=fun hh=>by
   obtain ⟨t,ht,he⟩:=List.mem_iff_getElem.1 ((hD i).1 hh)
   rw [List.getElem_take] at he
   rw [List.length_take] at ht
   have:=List.pairwise_iff_getElem.1 Q.bnd t j omg omg omg
   exact this (he.trans hBj.symm)
  have hdrop:BS.drop j=i::BS.drop (j+1):=by
   rw [List.drop_eq_getElem_cons omg,hBj]
  have htake:BS.take (j+1)=BS.take j++[i]:=by
   rw [List.take_succ_eq_append_getElem omg,hBj]
  rw [hdrop] at he
  have hbm:j*W+W≤bs.length*W:=by
   have:=Nat.mul_le_mul_right W (show j+1≤bs.length from hjl)
   rw [Nat.add_mul,Nat.one_mul] at this; exact this
  simp (disch:=omega)
  refine JoinN.mk (JoinN.mk ?_)
  simp (disch:=omega) [hcbG]
  have hstp1:=aG.st.stp
  have bwd:=A1.wd0 i him hiD
  have hfB:g.word p.f.now i=0→g.pl i+g.c≤268435456:=fun h=>hq0i▸(Ad.room q0 hq0 (by rw [hq0i]; exact h)).1
  refine gTable_c aG A1.img him (fun G6 e6 hw => ?_) (fun G6 bb cc e6 hw ob hbb hcc => ?_)
  ·skip
   exfalso
   have h1:=(Ad.fit q0 hq0).1
   have h2:g.cnt p.f.now q0=0:=by unfold Gm.cnt; rw [if_pos (by rw [hq0i,←bwd]; exact hw)]
   have h3:0<cntZ cl q0:=List.count_pos_iff.2 ((Q.mem q0).1 hq0)
   rw [h2] at h1
   omega
  ·have uX:=u
   have ok2:=ok1
   have he3:seqF (putBk g (-1) (cntZ cl) KS i::(BS.drop (j+1)).map (stepB g (-1) (cntZ cl) KS)) p1=addF g (-1) (cntZ cl) KS BS p:=by
    rw [←he]
    unfold addF
    rw [List.map_cons]
    have hsb:stepB g (-1) (cntZ cl) KS i p1=putBk g (-1) (cntZ cl) KS i p1:=by
     unfold stepB
     have:getB g i p1=(p1,0):=by unfold getB; rw [if_neg hw]
     rw [seqF_two (by rw [this]),this]
    rw [seqF,seqF,hsb]
   have M:Mid g x (-1) (cntZ cl) KS p.f.now D i p1.f.now:=by
    have h1:getB g i p1=(p1,0):=by unfold getB; rw [if_neg hw]
    have:=getB_mid a.ok ok1 A1 him hiD hfB (by rw [h1])
    rw [h1] at this
    exact this
   have aX:=aG
   have hpst:p1.steps≤p.steps+j*W:=hst
   obtain ⟨GX,hGX⟩:∃z,z=G:=⟨_,rfl⟩
   obtain ⟨s2,hs2e⟩:∃z,z=s1:=⟨_,rfl⟩
   obtain ⟨p2,hp2e⟩:∃z,z=p1:=⟨_,rfl⟩
   rw [←hs2e,←hGX] at uX
   rw [←hs2e,←hp2e,←hGX] at aX
   rw [←hGX] at e6 hbb
   rw [←hp2e] at ok2 he3 M ob
   have hst2:p2.steps≤p1.steps+5:=by rw [hp2e]; omega
   simp (disch:=omega)
   refine JoinN.mk ?_
   simp (disch:=omega)
   have hblk:=blk_len M.img him M.wi
   have hbb7:g7.size≤bb:=by have:=uX.mod.size; omega
   have hbf:¬s2.foot sp bb:=fun e=>by have:=aX.st.lt e; omega
   refine sclone_c (n:=g.c) ob.g.src ⟨_,_,rfl⟩ (one_bytes _) (by have:=a.ok.room_lt; omega) fun vw g8 e8 ow fw fw2 => ?_
   have ob8:=(ob.ext e8).own
   have hbb8:bb<G6.size:=by
    obtain ⟨arr,ha⟩:=ob.tag (b:=bb) rfl
    exact get_some_lt ha
   have hsz8:=e8.size
   have hsz6:=e6.size
   have hstX:=aX.st.stp
   simp (disch:=omega)
   refine loopX1 (α:=Nat) (fun z => .int .i64 z) (fun z G=>z≤ks.length∧Mod (· = bb) g8 G∧OwnS 1 G (.slice (some ⟨bb,0,none⟩) g.c cc) ((addB g (-1) (cntZ cl) i (KS.take z) (g.blk p2.f.now i)).map byteV)) (fun z=>ks.length-z) 0 rfl ⟨Nat.zero_le _,.refl _ _,ob8⟩ ?_
   rintro j2 G9 ⟨hj2,m9,o9⟩ X2 hX2
   have eX9:Ext GX G9:=m9.ext_from (e6.trans e8) (fun b hb e=>Nat.lt_irrefl _ (Nat.lt_of_lt_of_le hb (by rw [e]; exact hbb)))
   have a9:=aX.ext eX9
   by_cases hj2l:j2<ks.length
   ·obtain ⟨bk,obk,rfl,hck⟩:=hkcell7 j2 hj2l
    have hbk7:bk<g7.size:=by simpa using hcell_lt hck
    have hbkh:h.size≤bk:=by have:=fr2 bk rfl; omega
    have hck9:hcell G9 (elt ⟨bk,obk,none⟩ j2)=some (.int .i64 ks[j2]):=(hcell_ext eX9 ((uX.mod.cell (by simpa using hbk7) (by simpa using nfoot bk hbkh)).trans hck))
    have hm9:MapK ik G9 h1.size L:=(hm7.mod uX.mod (nfoot h1.size omg)).ext eX9
    have hkin2:=hkin _ (List.getElem_mem hj2l)
    have hKj:KS[j2]'omg=(ks[j2]).toNat:=by simp only [hKS,List.getElem_map]
    have hKtk:KS.take (j2+1)=KS.take j2++[KS[j2]'omg]:=List.take_succ_eq_append_getElem omg
    obtain ⟨k,hk⟩:∃k,(ks[j2]).toNat=k:=⟨_,rfl⟩
    have hkk:ks[j2]=((k:Nat):Int):=by omega
    rw [hkk] at hck9
    rw [hk] at hKj
    have c7:=cellOf (i:=7) a9.rg rfl
    have c18:=cellOf (i:=18) a9.rg rfl
    rw [a.hd.order] at c7
    obtain ⟨DD,hDD⟩:∃D,k/g.n=D:=⟨_,rfl⟩
    obtain ⟨MM,hMM⟩:∃M,k%g.n=M:=⟨_,rfl⟩
    have hMn:MM<g.n:=by rw [←hMM]; exact Nat.mod_lt _ omg
    have hkd:((k:Nat):Int)/((g.n:Nat):Int)=((DD:Nat):Int):=by rw [←hDD]; exact (Int.natCast_ediv _ _).symm
    have hkm:((k:Nat):Int)%((g.n:Nat):Int)=((MM:Nat):Int):=by rw [←hMM]; exact (Int.natCast_emod _ _).symm
    have hkroom:((k:Nat):Int)<g.room:=by omega
    simp (disch:=omega)
    refine JoinN.mk (JoinN.mk ?_)
    unfold ptrV
    simp (disch:=omega) [hck9,c18,hkd]
    by_cases hDi:DD=i
    ·have hDi':((DD:Nat):Int)=((i:Nat):Int):=by omega
     obtain ⟨CT,hCT⟩:∃C,cl.count ((k:Nat):Int)=C:=⟨_,rfl⟩
     have hlk:=fun (q:Bool) (K:VP)=>look_t (K:=K) (q:=q) (k:=((k:Nat):Int)) hm9 ht
     simp only [hCT] at hlk
     have hct:=hctl ((k:Nat):Int)
     rw [hCT] at hct
     simp (disch:=omega) [hDi',c7,c18,hkm,hlk]
     have hturn:=M.turn a.ok Ad him hiD (j:=j2) omg (by rw [hKj,hDD]; exact hDi)
     rw [hKj,hMM] at hturn
     have hfk:=Ad.fit k (hKj▸List.getElem_mem omg)
     have hcz:cntZ cl k=CT:=hCT
     rw [hcz] at hfk
     have hal:(addB g (-1) (cntZ cl) i (KS.take j2) (g.blk p2.f.now i)).length=g.c:=by rw [addB_len]; exact hblk
     refine gCAdd_c a.ok o9 hal hMn omg (by rw [hturn]; omega) (by rw [hturn]; omega) fun G10 r10 m10 o10 => ?_
     simp (disch:=omega)
     refine hX2 (j2+1) _ _ sM ⟨by omega,m9.trans m10 (fun _ _ h=>h),?_⟩ omg
     rw [hKtk,addB_snoc,hKj,hDD,if_pos hDi,hMM,hcz]
     simpa using o10
    ·have hDi':¬((DD:Nat):Int)=((i:Nat):Int):=by omega
     simp (disch:=omega) [hDi']
     refine hX2 (j2+1) _ _ sM ⟨by omega,m9,?_⟩ omg
     rw [hKtk,addB_snoc,hKj,hDD,if_neg hDi]
     exact o9
   ·obtain rfl:j2=ks.length:=by omega
    rw [←hKl,List.take_length] at o9
    simp (disch:=omega)
    have hple:=(M.img.wi i him M.wi).2
    have hple2:=M.img.few
    have hPs:=putBk_stp (by_:=(-1)) (T:=cntZ cl) (ks:=KS) a.ok ok2 M.img him M.wi
    obtain ⟨wa,wn,wc,rfl,hwl,hwc,hwb⟩:=ow.form
    have hwn:wn=g.c:=by rw [List.length_map,hblk] at hwl; omega
    subst hwn
    obtain ⟨wb,wo,rfl⟩:=hwb (fun e=>by have:=congrArg List.length e; rw [List.length_map,hblk] at this; simp at this; omega)
    have hwbn:blkV (.slice (some ⟨wb,wo,none⟩) g.c wc)=some wb:=rfl
    have hwb8:=fw2 wb hwbn
    have hwbl:wb<g8.size:=ow.bytes.lt hwbn (fun e=>by rw [e] at hblk; simp at hblk; omega)
    have hbw9:Bytes G9 (.slice (some ⟨wb,wo,none⟩) g.c wc) (g.blk p2.f.now i):=ow.bytes.mod m9 (fun b hb e=>by rw [hwbn] at hb; cases hb; omega)
    have hsz9:=m9.size
    refine gWrite2_c (Q:=g.c/512) a.ok.c_div.symm a9 hblk (by rw [addB_len]; exact hblk) hbw9 o9.bytes (fun e=>by have:=aX.st.lt e; omega) hbf omg omg omg omg fun G11 s3 u3 f3 => ?_
    have f3':FsAt s3 (putBk g (-1) (cntZ cl) KS i p2).1:=f3
    have hE:(wrF (g.pl i) (g.blk p2.f.now i) (addB g (-1) (cntZ cl) i KS (g.blk p2.f.now i)) (g.c/512) 0 p2).2=(putBk g (-1) (cntZ cl) KS i p2).2:=rfl
    rw [hE]
    have u9:=uX.trans (u3.from_ eX9)
    by_cases he0:(putBk g (-1) (cntZ cl) KS i p2).2=0
    ·rw [he0]
     rw [seqF_cons he0] at he3
     simp (disch:=omega)
     refine hX (j+1,s3,(putBk g (-1) (cntZ cl) KS i p2).1,i::D) _ _ sM ⟨by dsimp only; omega,u9,f3',hPs.1.ok,putBk_after a.ok Ad ok2 him hiD M he0,fun i2 => ?_,he3,?_⟩ (by dsimp only; omega)
     ·dsimp only
      rw [htake,List.mem_cons,List.mem_append,List.mem_singleton,hD]
      constructor
      ·rintro (h|h)
       ·exact .inr h
       ·exact .inl h
      ·rintro (h|h)
       ·exact .inr h
       ·exact .inl h
     ·have:=hPs.1.stp
      dsimp only
      rw [Nat.add_mul,Nat.one_mul]
      omega
    ·rw [seqF_err he0] at he3
     simp (disch:=omega) [he0]
     have:=H G11 s3 KS BS Q (u9.from_ E7)
     rw [←he3] at this
     exact this f3'
end Go.Proofs.YtdccfkffabngjaaGreat
set_option linter.unusedSimpArgs false
set_option linter.unusedVariables false
set_option maxRecDepth 20000
namespace Go.Proofs.YtdccfkffabngjaaGreat
open Go.Vc
variable {K:VP} {h:Heap}

def Gm.free (g:Gm) (B:List UInt8) (q:Nat):Prop:=g.cnt B q=0∧¬(g.word B (q/g.n)=0∧q%g.n=0)
def Gm.frees (g:Gm) (B:List UInt8) (st nn:Nat):Prop:=∀q,st≤q→q<st+nn→g.free B q
structure Seek (g:Gm) (B:List UInt8) (nn c bg:Nat):Prop where
 b1:1≤bg
 le:bg≤max 1 c
 fr:∀q,bg≤q→q<c→g.free B q
 few:c<bg+nn
 bad:bg=1∨¬g.free B (bg-1)
 no:∀st,1≤st→st+nn≤c→¬g.frees B st nn
theorem Seek.zero {g:Gm} {B:List UInt8} {nn:Nat} (h:1≤nn):Seek g B nn 0 1:=⟨Nat.le_refl _,by omega,fun q _ h=>by omega,by omega,.inl rfl,fun st h1 h2=>by omega⟩
theorem Seek.skip0 {g:Gm} {B:List UInt8} {nn:Nat} (h:1≤nn) (s:Seek g B nn 0 1):Seek g B nn 1 1:=⟨Nat.le_refl _,by omega,fun q _ h=>by omega,by omega,.inl rfl,fun st h1 h2=>by omega⟩
theorem Seek.hit {g:Gm} {B:List UInt8} {nn c bg:Nat} (h:1≤nn) (s:Seek g B nn c bg) (hf:¬g.free B c) (hc:1≤c):Seek g B nn (c+1) (c+1) :=
 ⟨by omega,by omega,fun q h1 h2=>by omega,by omega,.inr (by rw [Nat.add_sub_cancel]; exact hf),fun st h1 h2 hh=>by
  by_cases e:st+nn≤c
  ·exact s.no st h1 e hh
  ·exact hf (hh c omg omg)⟩
theorem Seek.go {g:Gm} {B:List UInt8} {nn c bg:Nat} (s:Seek g B nn c bg) (hf:g.free B c) (hc:1≤c) (hn:c+1<bg+nn):Seek g B nn (c+1) bg :=
 ⟨s.b1,by have:=s.le; omega,fun q h1 h2=>by
  by_cases e:q=c
  ·rw [e]; exact hf
  ·exact s.fr q h1 omg,hn,s.bad,fun st h1 h2 hh=>by
  by_cases e:st+nn≤c
  ·exact s.no st h1 e hh
  ·rcases s.bad with hb|hb
   ·omega
   ·exact hb (hh (bg-1) omg (by have:=s.le; omega))⟩
structure Found (g:Gm) (B:List UInt8) (nn bg:Nat):Prop where
 b1:1≤bg
 le:bg≤g.room+1
 yes:bg+nn≤g.room→g.frees B bg nn
 first:∀st,1≤st→st+nn≤g.room→g.frees B st nn→bg≤st∧bg+nn≤g.room
theorem Seek.found {g:Gm} {B:List UInt8} {nn c bg:Nat} (s:Seek g B nn c bg) (hf:g.free B c) (hc:1≤c) (hn:c+1=bg+nn) (hr:c<g.room):Found g B nn bg :=
 ⟨s.b1,by have:=s.le; omega,fun _ q h1 h2=>by
  by_cases e:q=c
  ·rw [e]; exact hf
  ·exact s.fr q h1 omg,fun st h1 h2 hh=>⟨by
  refine Nat.le_of_not_lt fun hlt => ?_
  exact s.no st h1 omg hh,by omega⟩⟩
theorem Seek.ends {g:Gm} {B:List UInt8} {nn bg:Nat} (s:Seek g B nn g.room bg):Found g B nn bg :=
 ⟨s.b1,by have:=s.le; omega,fun h=>by have:=s.few; omega,fun st h1 h2 hh=>absurd hh (s.no st h1 h2)⟩
set_option maxHeartbeats 8000000 in
theorem gRun_c {o sp:Nat} {g:Gm} {x:Hd} {s:St} {p:Fs} {nn:Nat} (a:RA h o sp g x s p) (I:Img g x p.f.now) (n1:1≤nn) (n2:nn≤1048576)
 (H6:∀h',Ext h h'→(∀st,1≤st→st+nn≤g.room→g.frees p.f.now st nn→268435456<(st+nn)*g.c)→K (.tuple #[.int .i64 0,.int .i64 6]) h')
 (H:∀h' st,Ext h h'→1≤st→st+nn≤g.room→g.frees p.f.now st nn→(st+nn)*g.c≤268435456→K (.tuple #[.int .i64 (st:Nat),.int .i64 0]) h') :
 CallsH Tryz.prog 40 #[ptrV o,.int .i64 (nn:Nat)] h K ⟨⟩:=by
 refine n40_calls ?_
 unfold n40; try delta vF vG vC vD vJ vV vk vt
 refine gRoom_c a.rg a.ok a.hd ?_
 have hrl:=a.ok.room_lt
 have hnn:=a.ok.n64
 have hm0:=a.ok.m0
 have hm8:8*g.m≤2621440:=by rw [a.ok.m8]; exact hrl.2.1
 have hrm:g.room=g.m*g.n:=rfl
 have hdiv:((g.room:Nat):Int)/((g.n:Nat):Int)=((g.m:Nat):Int):=by
  rw [hrm,←Int.natCast_ediv,Nat.mul_div_cancel _ omg]
 have c18:=cellOf (i:=18) a.rg rfl
 have c17:=cellOf (i:=17) a.rg rfl
 simp (disch:=omega)
 refine JoinN_in1 (fun v G=>∃bg,v = .int .i64 (bg:Nat)∧Ext h G∧Found g p.f.now nn bg) (fun kk hkk=>JoinN.mk ?_) (fun v G hG => ?_)
 ·refine loopX2 (α:=Nat×Nat) (fun z => .int .i64 z.1) (fun z => .int .i64 z.2) (fun z G=>z.2≤g.m∧Ext h G∧Seek g p.f.now nn (z.2*g.n) z.1) (fun z=>g.m-z.2) (1,0) ⟨rfl,rfl⟩ ⟨Nat.zero_le _,.refl _,by rw [Nat.zero_mul]; exact .zero n1⟩ ?_
  rintro ⟨bg,i⟩ G ⟨hi,eG,sk⟩ X hX
  dsimp only at hi eG sk hX ⊢
  have aG:=a.ext eG
  have d18:=cellOf (i:=18) aG.rg rfl
  unfold ptrV
  by_cases him:¬i<g.m
  ·obtain rfl:i=g.m:=by omega
   rw [←hrm] at sk
   simp (disch:=omega) [d18,hdiv]
   exact hkk _ _ ⟨bg,rfl,eG,sk.ends⟩
  replace him:=Classical.not_not.1 him
  simp (disch:=omega) [d18,hdiv]
  refine InvokeH_f1k1 kR ?_
  obtain ⟨IN,hIN⟩:∃IN,i*g.n=IN:=⟨_,rfl⟩
  have hINi:((i:Nat):Int)*((g.n:Nat):Int)=((IN:Nat):Int):=by rw [←hIN,Int.natCast_mul]
  have hnext:(i+1)*g.n=IN+g.n:=by rw [Nat.add_mul,Nat.one_mul,hIN]
  have hle:=Nat.mul_le_mul_right g.n (show i+1≤g.m from him)
  rw [hnext,←hrm] at hle
  rw [hIN] at sk
  have qd:∀k,k<g.n→(IN+k)/g.n=i∧(IN+k)%g.n=k:=fun k hk=>by
   rw [←hIN,Nat.mul_comm i g.n]
   exact ⟨by rw [Nat.mul_add_div omg,Nat.div_eq_of_lt hk,Nat.add_zero],by rw [Nat.mul_add_mod,Nat.mod_eq_of_lt hk]⟩
  rw [show (.pointer (some ⟨o,0,none⟩):Value)=ptrV o from rfl]
  refine gTable_c aG I him (fun G1 e1 hw => ?_) (fun G1 bb cc e1 hw ob hbb hcc => ?_)
  ·simp (disch:=omega)
   have d18':=cellOf (i:=18) (aG.ext e1).rg rfl
   unfold ptrV
   simp (disch:=omega) [d18']
   refine loopX2 (α:=Nat×Nat) (fun z => .int .i64 z.1) (fun z => .int .i64 z.2) (fun z G=>z.2≤g.n∧Ext G1 G∧Seek g p.f.now nn (IN+z.2) z.1) (fun z=>g.n-z.2) (bg,0) ⟨rfl,rfl⟩ ⟨Nat.zero_le _,.refl _,sk⟩ ?_
   rintro ⟨b2,k⟩ G2 ⟨hk,e2,sk2⟩ X2 hX2
   dsimp only at hk e2 sk2 hX2 ⊢
   have a2:=(aG.ext e1).ext e2
   have f18:=cellOf (i:=18) a2.rg rfl
   have f7:=cellOf (i:=7) a2.rg rfl
   rw [a.hd.order] at f7
   have hb1:=sk2.b1
   have hb2:=sk2.le
   have hb3:=sk2.few
   have hmx:max 1 (IN+k)≤IN+k+1:=by omega
   by_cases hkn:¬k<g.n
   ·obtain rfl:k=g.n:=by omega
    rw [←hnext] at sk2
    simp (disch:=omega)
    exact hX (b2,i+1) _ _ _ rfl sM ⟨by omega,eG.trans (e1.trans e2),sk2⟩ (by dsimp only; omega)
   replace hkn:=Classical.not_not.1 hkn
   obtain ⟨hq1,hq2⟩:=qd k hkn
   have hIk:((IN:Nat):Int)+((k:Nat):Int)=((IN+k:Nat):Int):=by omega
   obtain ⟨CL,hCL⟩:∃CL,IN+k=CL:=⟨_,rfl⟩
   rw [hCL] at hIk hb2 hb3 sk2 hmx hq1 hq2
   simp (disch:=omega)
   refine JoinN.mk (JoinN.mk ?_)
   simp (disch:=omega) [f18,hINi,hIk]
   have next:∀b3:Nat,∀G3,Ext G2 G3→Seek g p.f.now nn (CL+1) b3→X2 (.int .i64 (b3:Nat)) (.int .i64 ((k:Int)+1)) G3:=fun b3 G3 e3 sk3 =>
    hX2 (b3,k+1) _ _ _ rfl sM ⟨by omega,e2.trans e3,by show Seek g p.f.now nn (IN+(k+1)) b3; rw [←Nat.add_assoc,hCL]; exact sk3⟩ (by dsimp only; omega)
   by_cases hc0:CL=0
   ·have hc0':((CL:Nat):Int)=0:=by omega
    have hb21:b2=1:=by omega
    simp (disch:=omega) [hc0']
    refine next b2 G2 (.refl _) ?_
    rw [hc0] at sk2 ⊢
    rw [hb21] at sk2 ⊢
    exact sk2.skip0 n1
   have hc0':¬((CL:Nat):Int)=0:=by omega
   have hCLr:CL<g.room:=by omega
   simp (disch:=omega) [hc0']
   refine JoinN.mk ?_
   simp (disch:=omega)
   have hcz:g.cnt p.f.now CL=0:=by unfold Gm.cnt; rw [hq1,if_pos hw]
   by_cases hk0:k=0
   ·have hk0':((k:Nat):Int)=0:=by omega
    simp (disch:=omega) [hk0']
    have hnf:¬g.free p.f.now CL:=fun h=>h.2 ⟨by rw [hq1]; exact hw,by rw [hq2]; exact hk0⟩
    have:=next (CL+1) _ (.refl _) (sk2.hit n1 hnf omg)
    rw [show (((CL+1:Nat)):Int)=(CL:Int)+1 by omega] at this
    rw [hk0'] at this
    exact this
   ·have hk0':¬((k:Nat):Int)=0:=by omega
    have hfr:g.free p.f.now CL:=⟨hcz,fun h=>hk0 (by rw [←hq2]; exact h.2)⟩
    simp (disch:=omega) [hk0']
    by_cases hfin:CL+1=b2+nn
    ·have hfin':((CL:Nat):Int)-(b2:Int)+1=(nn:Int):=by omega
     simp (disch:=omega) [hfin']
     exact hkk _ _ ⟨b2,rfl,eG.trans (e1.trans (e2.trans (.refl _))),sk2.found hfr omg hfin hCLr⟩
    ·have hfin':¬((CL:Nat):Int)-(b2:Int)+1=(nn:Int):=by omega
     simp (disch:=omega) [hfin']
     exact next b2 _ (.refl _) (sk2.go hfr omg omg)
  ·simp (disch:=omega)
   have d18':=cellOf (i:=18) (aG.ext e1).rg rfl
   unfold ptrV
   simp (disch:=omega) [d18']
   refine loopX2 (α:=Nat×Nat) (fun z => .int .i64 z.1) (fun z => .int .i64 z.2) (fun z G=>z.2≤g.n∧Ext G1 G∧Seek g p.f.now nn (IN+z.2) z.1) (fun z=>g.n-z.2) (bg,0) ⟨rfl,rfl⟩ ⟨Nat.zero_le _,.refl _,sk⟩ ?_
   rintro ⟨b2,k⟩ G2 ⟨hk,e2,sk2⟩ X2 hX2
   dsimp only at hk e2 sk2 hX2 ⊢
   have a2:=(aG.ext e1).ext e2
   have f18:=cellOf (i:=18) a2.rg rfl
   have f7:=cellOf (i:=7) a2.rg rfl
   rw [a.hd.order] at f7
   have hb1:=sk2.b1
   have hb2:=sk2.le
   have hb3:=sk2.few
   have hmx:max 1 (IN+k)≤IN+k+1:=by omega
   by_cases hkn:¬k<g.n
   ·obtain rfl:k=g.n:=by omega
    rw [←hnext] at sk2
    simp (disch:=omega)
    exact hX (b2,i+1) _ _ _ rfl sM ⟨by omega,eG.trans (e1.trans e2),sk2⟩ (by dsimp only; omega)
   replace hkn:=Classical.not_not.1 hkn
   obtain ⟨hq1,hq2⟩:=qd k hkn
   have hIk:((IN:Nat):Int)+((k:Nat):Int)=((IN+k:Nat):Int):=by omega
   obtain ⟨CL,hCL⟩:∃CL,IN+k=CL:=⟨_,rfl⟩
   rw [hCL] at hIk hb2 hb3 sk2 hmx hq1 hq2
   simp (disch:=omega)
   refine JoinN.mk (JoinN.mk ?_)
   simp (disch:=omega) [f18,hINi,hIk]
   have next:∀b3:Nat,∀G3,Ext G2 G3→Seek g p.f.now nn (CL+1) b3→X2 (.int .i64 (b3:Nat)) (.int .i64 ((k:Int)+1)) G3:=fun b3 G3 e3 sk3 =>
    hX2 (b3,k+1) _ _ _ rfl sM ⟨by omega,e2.trans e3,by show Seek g p.f.now nn (IN+(k+1)) b3; rw [←Nat.add_assoc,hCL]; exact sk3⟩ (by dsimp only; omega)
   by_cases hc0:CL=0
   ·have hc0':((CL:Nat):Int)=0:=by omega
    have hb21:b2=1:=by omega
    simp (disch:=omega) [hc0']
    refine next b2 G2 (.refl _) ?_
    rw [hc0] at sk2 ⊢
    rw [hb21] at sk2 ⊢
    exact sk2.skip0 n1
   have hc0':¬((CL:Nat):Int)=0:=by omega
   have hCLr:CL<g.room:=by omega
   simp (disch:=omega) [hc0',f7]
   refine JoinN.mk ?_
   have hbl:=blk_len I him hw
   simp (disch:=omega) [f7]
   refine CGet_c (ob.ext e2).g.bytes (by rw [hbl]; omega) fun G3 e3 => ?_
   rw [a.ok.getC_ hbl hkn]
   have hcq:g.cnt p.f.now CL=Vc.cnt (g.blk p.f.now i) g.w k:=by unfold Gm.cnt; rw [hq1,hq2,if_neg hw]
   rw [←hcq]
   by_cases hx:g.cnt p.f.now CL=0
   ·have hfr:g.free p.f.now CL:=⟨hx,fun h=>hw (by rw [←hq1]; exact h.1)⟩
    rw [hx]
    simp (disch:=omega)
    by_cases hfin:CL+1=b2+nn
    ·have hfin':((CL:Nat):Int)-(b2:Int)+1=(nn:Int):=by omega
     simp (disch:=omega) [hfin']
     exact hkk _ _ ⟨b2,rfl,eG.trans (e1.trans (e2.trans e3)),sk2.found hfr omg hfin hCLr⟩
    ·have hfin':¬((CL:Nat):Int)-(b2:Int)+1=(nn:Int):=by omega
     simp (disch:=omega) [hfin']
     exact next b2 _ e3 (sk2.go hfr omg omg)
   ·have hnf:¬g.free p.f.now CL:=fun h=>hx h.1
    have hx':¬((g.cnt p.f.now CL:Nat):Int)=0:=by omega
    simp (disch:=omega) [hx']
    have:=next (CL+1) _ e3 (sk2.hit n1 hnf omg)
    rw [show (((CL+1:Nat)):Int)=(CL:Int)+1 by omega] at this
    exact this
 ·obtain ⟨bg,rfl,eG,fd⟩:=hG
  have aG:=a.ext eG
  have d17:=cellOf (i:=17) aG.rg rfl
  have hb1:=fd.le
  obtain ⟨TT,hTT⟩:∃T,(bg+nn)*g.c=T:=⟨_,rfl⟩
  have hsum:((bg:Nat):Int)+((nn:Nat):Int)=((bg+nn:Nat):Int):=by omega
  have hmul:((bg+nn:Nat):Int)*((g.c:Nat):Int)=((TT:Nat):Int):=by rw [←hTT,Int.natCast_mul]
  obtain ⟨BN,hBN⟩:∃B,bg+nn=B:=⟨_,rfl⟩
  rw [hBN] at hsum hmul
  have hTl:TT≤(171798691840+1048577)*65536:=by
   rw [←hTT]; exact Nat.mul_le_mul omg hrl.2.2
  unfold ptrV
  by_cases hgt:g.room<BN
  ·have hgt':((BN:Nat):Int)>((g.room:Nat):Int):=by omega
   simp (disch:=omega) [hsum,hgt']
   refine H6 G eG fun st h1 h2 h3 => ?_
   have:=(fd.first st h1 h2 h3).2
   omega
  ·have hgt':¬((BN:Nat):Int)>((g.room:Nat):Int):=by omega
   by_cases hbig:268435456<TT
   ·have hbig':((TT:Nat):Int)>268435456:=by omega
    simp (disch:=omega) [hsum,hgt',d17,hmul,hbig']
    refine H6 G eG fun st h1 h2 h3 => ?_
    have h4:=(fd.first st h1 h2 h3).1
    have:(bg+nn)*g.c≤(st+nn)*g.c:=Nat.mul_le_mul_right _ omg
    omega
   ·have hbig':¬((TT:Nat):Int)>268435456:=by omega
    simp (disch:=omega) [hsum,hgt',d17,hmul,hbig']
    exact H G bg eG fd.b1 omg (fd.yes omg) omg
end Go.Proofs.YtdccfkffabngjaaGreat
set_option linter.unusedSimpArgs false
set_option linter.unusedVariables false
set_option maxRecDepth 20000
namespace Go.Proofs.YtdccfkffabngjaaGreat
open Go.Vc
variable {K:VP} {h:Heap}

def runL (st nn:Nat):List Int:=(List.range nn).map fun j=>((st+j:Nat):Int)
theorem runL_len (st nn:Nat):(runL st nn).length=nn:=by unfold runL; rw [List.length_map,List.length_range]
theorem runL_succ (st nn:Nat):runL st (nn+1)=runL st nn++[((st+nn:Nat):Int)]:=by unfold runL; rw [List.range_succ,List.map_append]; rfl
theorem runL_mem {st nn:Nat} {k:Nat}:(k:Int)∈runL st nn↔st≤k∧k<st+nn:=by
 unfold runL
 rw [List.mem_map]
 constructor
 ·rintro ⟨j,hj,he⟩
  have:=List.mem_range.1 hj
  omega
 ·rintro ⟨h1,h2⟩
  exact ⟨k-st,List.mem_range.2 omg,by omega⟩
theorem runL_memI {st nn:Nat} {k:Int}:k∈runL st nn↔0≤k∧st≤k.toNat∧k.toNat<st+nn:=by
 constructor
 ·intro h
  have h0:0≤k:=by
   unfold runL at h
   obtain ⟨j,-,he⟩:=List.mem_map.1 h
   omega
  refine ⟨h0,?_⟩
  rw [←runL_mem,Int.toNat_of_nonneg h0]; exact h
 ·rintro ⟨h0,h1⟩
  have:=runL_mem.2 h1
  rw [Int.toNat_of_nonneg h0] at this
  exact this
theorem runL_nodup (st nn:Nat):(runL st nn).Nodup:=by
 unfold runL
 refine List.pairwise_map.2 (List.nodup_range.imp fun {a b} hne e=>hne omg)
theorem runL_cnt {st nn k:Nat}:cntZ (runL st nn) k=if st≤k∧k<st+nn then 1 else 0:=by
 unfold cntZ
 rw [List.Nodup.count (runL_nodup st nn)]
 by_cases hk:st≤k∧k<st+nn
 ·rw [if_pos hk,if_pos (runL_mem.2 hk)]
 ·rw [if_neg hk,if_neg (fun h=>hk (runL_mem.1 h))]
theorem gFreeA_c {o sp:Nat} {g:Gm} {x:Hd} {n place:Int} (rg:RgAt h o sp g x) (hn:n<1∨1048576<n) (H:K (.int .i64 2) h) :
 CallsH Tryz.prog 16 #[ptrV o,.int .i64 place,.int .i64 n] h K ⟨⟩:=by
 refine n16_calls ?_
 unfold n16; try delta vF vG vC vD vJ vV vk vt
 refine gNone_c rg ?_
 by_cases h1:n<1
 ·simp (disch:=omega) [h1]
  exact H
 ·have h2:n>1048576:=by omega
  simp (disch:=omega) [h1,h2]
  exact H
theorem gFreeR_c {o sp:Nat} {g:Gm} {x:Hd} {n place:Int} (rg:RgAt h o sp g x) (k:g.ok) (hn:¬(n<1∨1048576<n)) (hp0 : -9223372036854775808≤place) (hp:place<0∨¬place%(g.c:Nat)=0) (H:K (.int .i64 4) h) :
 CallsH Tryz.prog 16 #[ptrV o,.int .i64 place,.int .i64 n] h K ⟨⟩:=by
 refine n16_calls ?_
 unfold n16; try delta vF vG vC vD vJ vV vk vt
 refine gNone_c rg ?_
 have h1:¬n<1:=by omega
 have h2:¬n>1048576:=by omega
 have c17:=cellOf (i:=17) rg rfl
 obtain ⟨q,hq,hq1,hq2⟩:=k.c512
 unfold ptrV
 by_cases p0:place<0
 ·simp (disch:=omega) [h1,h2,p0]
  exact H
 ·have hp:=hp.resolve_left p0
  simp (disch:=omega) [h1,h2,p0,c17,hp]
  exact H
set_option maxHeartbeats 4000000 in
theorem gFree_c {o sp:Nat} {g:Gm} {x:Hd} {s:St} {p:Fs} {st nn:Nat} {place:Int} (a:RA h o sp g x s p) (I:Img g x p.f.now) (n1:1≤nn) (n2:nn≤1000) (hpl:place=((st*g.c:Nat):Int)) (hst:st≤171798691840) (hcov:∀k:Nat,st≤k→k<st+nn→g.hold p.f.now k→1<g.cnt p.f.now k)
 (hs:p.steps+nn*(5+g.c/512)+1<1000000)
 (H4:∀h',Ext h h'→¬Inr g (runL st nn)→K (.int .i64 4) h')
 (H9:∀h',Ext h h'→Inr g (runL st nn)→(∃k:Nat,st≤k∧k<st+nn∧g.cnt p.f.now k=0)→K (.int .i64 9) h')
 (H:∀h' s' ks bs,Asked g (-1) (runL st nn) p.f.now ks bs→SUpd h h' sp s s'→FsAt s' (addF g (-1) (cntZ (runL st nn)) ks bs p).1→K (.int .i64 (addF g (-1) (cntZ (runL st nn)) ks bs p).2) h') :
 CallsH Tryz.prog 16 #[ptrV o,.int .i64 place,.int .i64 (nn:Nat)] h K ⟨⟩:=by
 refine n16_calls ?_
 unfold n16; try delta vF vG vC vD vJ vV vk vt
 refine gNone_c a.rg ?_
 obtain ⟨q,hq,hq1,hq2⟩:=a.ok.c512
 have c17:=cellOf (i:=17) a.rg rfl
 obtain ⟨PL,hPL⟩:∃P,st*g.c=P:=⟨_,rfl⟩
 have hPb:PL≤171798691840*65536:=by rw [←hPL]; exact Nat.mul_le_mul hst omg
 rw [hPL] at hpl
 subst hpl
 have hmod:((PL:Nat):Int)%((g.c:Nat):Int)=0:=by
  rw [←Int.natCast_emod,←hPL,Nat.mul_mod_left]; rfl
 have hdiv:((PL:Nat):Int)/((g.c:Nat):Int)=((st:Nat):Int):=by
  rw [←Int.natCast_ediv,←hPL,Nat.mul_div_cancel _ omg]
 unfold ptrV
 simp (disch:=omega) [c17,hmod]
 refine loopX2 (α:=Nat×Value) (fun z=>z.2) (fun z => .int .i64 z.1) (fun z G=>z.1≤nn∧Ext h G∧OwnG i6T 1 G z.2 ((runL st z.1).map ik)∧∀b,blkG z.2=some b→h.size≤b) (fun z=>nn-z.1) (0,.slice none 0 0) ⟨rfl,rfl⟩ ⟨Nat.zero_le _,.refl _,OwnG.nil,fun b hb=>by cases hb⟩ ?_
 rintro ⟨j,v⟩ G ⟨hj,e,ov,fv⟩ X hX
 dsimp only at hj e ov fv hX ⊢
 have aG:=a.ext e
 by_cases hjn:j<nn
 ·have d17:=cellOf (i:=17) aG.rg rfl
  simp (disch:=omega) [d17,hdiv]
  obtain ⟨g1,hg1⟩:∃X,X=G.push (.cells #[.int .i64 ((st:Int)+(j:Int))] 2):=⟨_,rfl⟩
  have e1:Ext G g1:=by rw [hg1]; exact extS
  have sx:Src 1 g1 (.slice (some ⟨G.size,0,none⟩) 1 1) 1 [ik ((st:Int)+(j:Int))]:=by rw [hg1]; exact Src_new (vs:=[ik ((st:Int)+(j:Int))]) rfl
  rw [←hg1]
  clear hg1
  have hz1:=e1.size
  have hz:=e.size
  refine Hp_appendG (e:=i6T) (s:=1) (by_:=8) (n:=j) (k:=1) kR kR (ov.ext e1) (by rw [List.length_map,runL_len,Nat.mul_one]) omg sx (by intro u hu; rw [List.mem_singleton.1 hu]; rfl) omg omg fun v' h' o' m' b' _ => ?_
  simp (disch:=omega)
  refine hX (j+1,v') _ _ _ rfl sM ⟨by omega,m'.ext_from (e.trans e1) (fun b hb he=>by have:=fv b he; omega),?_,fun b hb=>(b' b hb).elim (fv b) (fun he=>by omega)⟩ (by dsimp only; omega)
  dsimp only
  rw [runL_succ,List.map_append]
  exact o'
 ·obtain rfl:j=nn:=by omega
  simp (disch:=omega)
  obtain ⟨va,vn,vc,rfl,-,-,-⟩:=ov.form
  rw [show (.pointer (some ⟨o,0,none⟩):Value)=ptrV o from rfl]
  refine gAdd_c aG I omg ov (by rw [runL_len]; exact n2) (fun k hk=>by have:=runL_memI.1 hk; omega) (fun e1=>absurd e1 dM) (fun _ k hk hh => ?_) (by rw [runL_len]; exact hs) (fun h' e' h1 h2=>absurd rfl h2) (fun h' e' _ hno=>H4 h' (e.trans e') hno) (fun h' e' _ hin hex => ?_) (fun h' e' h1=>absurd h1 dM) (fun h' s' ks bs Q u f=>H h' s' ks bs Q (u.from_ e) f)
  ·have hk':=runL_mem.1 hk
   rw [runL_cnt,if_pos hk']
   exact hcov k hk'.1 hk'.2 hh
  ·obtain ⟨k,hk,hlt⟩:=hex
   have hk':=runL_mem.1 hk
   rw [runL_cnt,if_pos hk'] at hlt
   exact H9 h' (e.trans e') hin ⟨k,hk'.1,hk'.2,by omega⟩
end Go.Proofs.YtdccfkffabngjaaGreat
set_option linter.unusedSimpArgs false
set_option linter.unusedVariables false
set_option maxRecDepth 20000
namespace Go.Proofs.YtdccfkffabngjaaGreat
open Go.Vc
variable {K:VP} {h:Heap}

def AStage (g:Gm) (st nn:Nat) (p:Fs):Nat→Fs→Prop
 | 0,p1=>p1=p
 | 1,p1=>(growF g ((st+nn)*g.c) p).2=0∧p1=(growF g ((st+nn)*g.c) p).1
 | n+2,p1=>∃ks bs,(growF g ((st+nn)*g.c) p).2=0∧Asked g 1 (runL st nn) (growF g ((st+nn)*g.c) p).1.f.now ks bs∧(addF g 1 (cntZ (runL st nn)) ks bs (growF g ((st+nn)*g.c) p).1).2=0 ∧
  ((n=0∧p1=(addF g 1 (cntZ (runL st nn)) ks bs (growF g ((st+nn)*g.c) p).1).1)∨(n=1∧(addF g 1 (cntZ (runL st nn)) ks bs (growF g ((st+nn)*g.c) p).1).1.e=0∧p1=(addF g 1 (cntZ (runL st nn)) ks bs (growF g ((st+nn)*g.c) p).1).1.flush))
def AEnd (g:Gm) (st nn:Nat) (p:Fs) (p':Fs) (e:Int):Prop :=
 (e≠0∧(growF g ((st+nn)*g.c) p)=(p',e)) ∨
 (∃ks bs,(growF g ((st+nn)*g.c) p).2=0∧Asked g 1 (runL st nn) (growF g ((st+nn)*g.c) p).1.f.now ks bs ∧
  ((e≠0∧addF g 1 (cntZ (runL st nn)) ks bs (growF g ((st+nn)*g.c) p).1=(p',e)) ∨
   ((addF g 1 (cntZ (runL st nn)) ks bs (growF g ((st+nn)*g.c) p).1).2=0∧p'=(addF g 1 (cntZ (runL st nn)) ks bs (growF g ((st+nn)*g.c) p).1).1.flush∧e=(addF g 1 (cntZ (runL st nn)) ks bs (growF g ((st+nn)*g.c) p).1).1.e)))
theorem up_id {g:Gm} (k:g.ok) (a:Nat):(a*g.c+g.c-1)/g.c*g.c=a*g.c:=by
 obtain ⟨q,hq,h1,-⟩:=k.c512
 have h:(a*g.c+g.c-1)/g.c=a:=by
  rw [show a*g.c+g.c-1=g.c*a+(g.c-1) by rw [Nat.mul_comm]; omega,Nat.mul_add_div omg,Nat.div_eq_of_lt omg,Nat.add_zero]
 rw [h]
theorem grow_run {g:Gm} {x:Hd} {p:Fs} (k:g.ok) (o:p.f.ok) (I:Img g x p.f.now) {t:Nat} (hf:t*g.c≤268435456) (he:(growF g (t*g.c) p).2=0) :
 Img g x (growF g (t*g.c) p).1.f.now∧(∀j,j<g.m→g.word (growF g (t*g.c) p).1.f.now j=g.word p.f.now j)∧(∀j,j/g.n<g.m→g.cnt (growF g (t*g.c) p).1.f.now j=g.cnt p.f.now j)∧t*g.c≤(growF g (t*g.c) p).1.f.now.length∧p.f.now.length≤(growF g (t*g.c) p).1.f.now.length:=by
 rw [growF_now k o he,up_id k]
 split
 ·rename_i hle
  rw [growL_same (Nat.zero_le _)]
  exact ⟨I,fun _ _=>rfl,fun _ _=>rfl,hle,Nat.le_refl _⟩
 ·obtain ⟨I1,w1,c1⟩:=I.grown k hf (Nat.mul_mod_left t g.c)
  have hl:=growL_len p.f.now (t*g.c)
  exact ⟨I1,w1,c1,by rw [hl]; omega,by rw [hl]; omega⟩
theorem frees_room {g:Gm} {x:Hd} {B:List UInt8} (kk:g.ok) (I:Img g x B) {st nn:Nat} (hr:st+nn≤g.room) (hfr:g.frees B st nn) (hf:(st+nn)*g.c≤268435456) {k:Nat} (h1:st≤k) (h2:k<st+nn) (hw:g.word B (k/g.n)=0):g.pl (k/g.n)+g.c≤268435456∧k%g.n≠0:=by
 have hn:=kk.n64
 have hk0:k%g.n≠0:=fun e=>(hfr k h1 h2).2 ⟨hw,e⟩
 refine ⟨?_,hk0⟩
 have hi0:k/g.n≠0:=fun e=>by rw [e] at hw; exact I.w0 hw
 have hdm:=Nat.div_add_mod k g.n
 unfold Gm.pl Gm.cl
 rw [if_neg hi0]
 have h3:k/g.n*g.n+1≤st+nn:=by rw [Nat.mul_comm]; omega
 have:=Nat.mul_le_mul_right g.c h3
 rw [Nat.add_mul,Nat.one_mul] at this
 omega
theorem gAllocA_c {o sp:Nat} {g:Gm} {x:Hd} {n:Int} (rg:RgAt h o sp g x) (hn0 : -9223372036854775808≤n∧n<9223372036854775808) (hn:n<1∨1048576<n) (H:∀h',Ext h h'→K (.tuple #[.int .i64 0,.int .i64 2]) h') :
 CallsH Tryz.prog 12 #[ptrV o,.int .i64 n] h K ⟨⟩:=by
 refine n12_calls ?_
 unfold n12; try delta vF vG vC vD vJ vV vk vt
 unfold ptrV
 simp (disch:=omega)
 obtain ⟨h1,hh1⟩:∃X,X=(h.push (.cells #[.pointer (some ⟨o,0,none⟩)] 30)).push (.cells #[.int .i64 n] 3):=⟨_,rfl⟩
 have e1:Ext h h1:=by rw [hh1]; exact extS
 have k1:h1[h.size+1]? = some (.cells #[.int .i64 n] 3):=by rw [hh1]; exact gtP
 rw [←hh1]
 clear hh1
 rw [show (.pointer (some ⟨o,0,none⟩):Value)=ptrV o from rfl]
 refine gNone_c (rg.ext e1) ?_
 have d1:=cellOf (i:=0) k1 rfl
 by_cases hl:n<1
 ·simp (disch:=omega) [d1,hl]
  exact H h1 e1
 ·have h2:n>1048576:=by omega
  simp (disch:=omega) [d1,hl,h2]
  exact H h1 e1
set_option maxHeartbeats 8000000 in
theorem gAlloc_c {o sp:Nat} {g:Gm} {x:Hd} {s:St} {p:Fs} {nn:Nat} (a:RA h o sp g x s p) (I:Img g x p.f.now) (n1:1≤nn) (n2:nn≤1000) (hs:p.steps+nn*(5+g.c/512)+4<1000000)
 (H6:∀h',Ext h h'→(∀st,1≤st→st+nn≤g.room→g.frees p.f.now st nn→268435456<(st+nn)*g.c)→K (.tuple #[.int .i64 0,.int .i64 6]) h')
 (H:∀h' s' p' e st,SUpd h h' sp s s'→FsAt s' p'→1≤st→st+nn≤g.room→g.frees p.f.now st nn→(st+nn)*g.c≤268435456→AEnd g st nn p p' e→K (.tuple #[.int .i64 (if e=0 then ((st*g.c:Nat):Int) else 0),.int .i64 e]) h') :
 CallsH Tryz.prog 12 #[ptrV o,.int .i64 (nn:Nat)] h K ⟨⟩:=by
 refine n12_calls ?_
 unfold n12; try delta vF vG vC vD vJ vV vk vt
 unfold ptrV
 simp (disch:=omega)
 obtain ⟨h1,hh1⟩:∃X,X=(h.push (.cells #[.pointer (some ⟨o,0,none⟩)] 30)).push (.cells #[.int .i64 (nn:Nat)] 3):=⟨_,rfl⟩
 have e1:Ext h h1:=by rw [hh1]; exact extS
 have z1:h1.size=h.size+2:=by rw [hh1]; simp
 have k0:h1[h.size]? = some (.cells #[.pointer (some ⟨o,0,none⟩)] 30):=by rw [hh1]; exact gtP
 have k1:h1[h.size+1]? = some (.cells #[.int .i64 (nn:Nat)] 3):=by rw [hh1]; exact gtP
 rw [←hh1]
 clear hh1
 rw [show (.pointer (some ⟨o,0,none⟩):Value)=ptrV o from rfl]
 have a1:=a.ext e1
 refine gNone_c a1.rg ?_
 have d0:=cellOf (i:=0) k0 rfl
 have d1:=cellOf (i:=0) k1 rfl
 have c0:=cellOf (i:=0) a1.rg rfl
 have c1:=cellOf (i:=1) a1.rg rfl
 unfold ptrV at c0
 simp (disch:=omega) [d0,d1,c0,c1]
 rw [show (.pointer (some ⟨sp,0,none⟩):Value)=ptrV sp from rfl]
 refine sSize_c a1.st a1.fs fun h2 e2 => ?_
 have a2:=a1.ext e2
 have d0:=hcell_ext e2 d0
 have d1:=hcell_ext e2 d1
 simp (disch:=omega) [d0,d1]
 rw [show (.pointer (some ⟨o,0,none⟩):Value)=ptrV o from rfl]
 refine gRun_c a2 I n1 omg (fun h3 e3 hfull => ?_) (fun h3 st e3 st1 sr hfr hfit => ?_)
 ·have hst:=e3.size
  simp (disch:=omega)
  exact H6 _ ((e1.trans (e2.trans e3)).trans extS) hfull
 have k0:=((e2.trans e3).block _ (get_some_lt k0)).trans k0
 have k1:=((e2.trans e3).block _ (get_some_lt k1)).trans k1
 have a3:=a2.ext e3
 have hz2:=e2.size
 have hz3:=e3.size
 have hrl:=a.ok.room_lt
 clear d0 d1
 have d1:=cellOf (i:=0) k1 rfl
 have hne1:¬h.size+1=h3.size∧¬h.size+1=h3.size+1:=by omega
 simp (disch:=omega) [d1,hne1.1,hne1.2]
 obtain ⟨h4,hh4⟩:∃X,X=(hset (h3.push (.cells #[.int .i64 0] 2)) ⟨h3.size,0,none⟩ (.int .i64 (st:Nat))).push (.cells #[.slice none 0 0] 47):=⟨_,rfl⟩
 have e4:Ext h3 h4:=by rw [hh4]; exact extS
 have z4:h4.size=h3.size+2:=by rw [hh4]; simp
 have k2:h4[h3.size]? = some (.cells #[.int .i64 (st:Nat)] 2):=by rw [hh4,get_push sM]; exact obj_set (get_pushed rfl)
 have k3:h4[h3.size+1]? = some (.cells #[.slice none 0 0] 47):=by rw [hh4]; exact get_pushed sM
 rw [show Array.push _ _=h4 from hh4.symm]
 clear hh4 hne1 d1
 have k0:=(e4.block _ (get_some_lt k0)).trans k0
 have k1:=(e4.block _ (get_some_lt k1)).trans k1
 have a4:=a3.ext e4
 refine loopX1 (α:=Nat×Value) (fun z => .int .i64 z.1) (fun z G=>z.1≤nn∧Mod (· = h3.size+1) h4 G∧G[h3.size+1]? = some (.cells #[z.2] 47)∧OwnG i6T 1 G z.2 ((runL st z.1).map ik)∧∀b,blkG z.2=some b→h4.size≤b) (fun z=>nn-z.1) (0,.slice none 0 0) rfl ⟨Nat.zero_le _,.refl _ _,k3,OwnG.nil,fun b hb=>by cases hb⟩ ?_
 rintro ⟨j,v⟩ G ⟨hj,mG,kv,ov,fv⟩ X hX
 dsimp only at hj mG kv ov fv hX ⊢
 have hzG:=mG.size
 have dv:=cellOf (i:=0) kv rfl
 have q2:=(mG.block h3.size omg omg).trans k2
 have d2:=cellOf (i:=0) q2 rfl
 obtain ⟨va,vn,vc,rfl,hvl,hvc,-⟩:=ov.form
 have hvn:vn=j:=by rw [List.length_map,runL_len] at hvl; omega
 subst hvn
 by_cases hjn:vn<nn
 ·have hnG:¬h3.size=G.size:=by omega
  simp (disch:=omega) [dv,d2]
  obtain ⟨g1,hg1⟩:∃X,X=G.push (.cells #[.int .i64 ((st:Int)+(vn:Int))] 2):=⟨_,rfl⟩
  have e1':Ext G g1:=by rw [hg1]; exact extS
  have sx:Src 1 g1 (.slice (some ⟨G.size,0,none⟩) 1 1) 1 [ik ((st:Int)+(vn:Int))]:=by rw [hg1]; exact Src_new (vs:=[ik ((st:Int)+(vn:Int))]) rfl
  rw [←hg1]
  clear hg1
  have hz1:=e1'.size
  refine Hp_appendG (e:=i6T) (s:=1) (by_:=8) (n:=vn) (k:=1) kR kR (ov.ext e1') (by rw [List.length_map,runL_len,Nat.mul_one]) omg sx (by intro u hu; rw [List.mem_singleton.1 hu]; rfl) omg omg fun v' h' o' m' b' _ => ?_
  have hz':=m'.size
  have kv':=(m'.block (h3.size+1) omg (fun e=>by have:=fv _ e; omega)).trans ((e1'.block _ (get_some_lt kv)).trans kv)
  have dv':=cellOf (i:=0) kv' rfl
  have fz':=frzOf (i:=0) kv'
  obtain ⟨va',vn',vc',rfl,-,-,-⟩:=o'.form
  simp (disch:=omega) [dv',fz']
  obtain ⟨g3,hg3⟩:∃X,X=hset h' ⟨h3.size+1,0,none⟩ (.slice va' vn' vc'):=⟨_,rfl⟩
  have m3:Mod (· = h3.size+1) h' g3:=by rw [hg3]; exact Mod.set h' ⟨h3.size+1,0,none⟩ _
  have k3':g3[h3.size+1]? = some (.cells #[.slice va' vn' vc'] 47):=by rw [hg3]; exact obj_set kv'
  rw [←hg3]
  clear hg3
  have hbl:∀b,blkG (.slice va' vn' vc')=some b→h4.size≤b:=fun b hb=>(b' b hb).elim (fv b) (fun he=>by omega)
  have hz3':=m3.size
  have m4:Mod (· = h3.size+1) h4 g3:=⟨by omega,fun b hb hne=>(m3.block b omg hne).trans ((m'.block b omg (fun e=>by have:=fv b e; omega)).trans ((e1'.block b omg).trans (mG.block b hb hne)))⟩
  refine hX (vn+1,.slice va' vn' vc') _ _ sM ⟨by omega,m4,k3',?_,hbl⟩ (by dsimp only; omega)
  dsimp only
  rw [runL_succ,List.map_append]
  exact o'.mod m3 (fun b hb he=>by have:=hbl b hb; omega)
 ·obtain rfl:vn=nn:=by omega
  simp (disch:=omega)
  rw [bsF3]
  simp (disch:=omega)
  obtain ⟨fs3,hfs3⟩:∃a,a = #[(.func (.func 41) #[] #[.pointer (some ⟨h.size,0,none⟩),.pointer (some ⟨h3.size,0,none⟩),.pointer (some ⟨h.size+1,0,none⟩)]:Value),
   .func (.func 42) #[] #[.pointer (some ⟨h.size,0,none⟩),.pointer (some ⟨h3.size+1,0,none⟩)],
   .func (.func 43) #[] #[.pointer (some ⟨h.size,0,none⟩)]]:=⟨_,rfl⟩
  rw [←hfs3]
  obtain ⟨h8,hh8⟩:∃X,X=G.push (.cells fs3 99):=⟨_,rfl⟩
  have e8:Ext G h8:=by rw [hh8]; exact extS
  have k8:h8[G.size]? = some (.cells fs3 99):=by rw [hh8]; exact get_pushed rfl
  have z8:h8.size=G.size+1:=by rw [hh8]; simp
  rw [←hh8]
  clear hh8 d2 dv
  have E8:Ext h h8:=(mG.ext_from ((e1.trans (e2.trans e3)).trans e4) (fun b hb he=>by omega)).trans e8
  have a8:=a.ext E8
  have kk:∀b,b<h4.size→b≠h3.size+1→h8[b]? = h4[b]? := fun b hb hne=>(e8.block b omg).trans (mG.block b hb hne)
  have k0:=(kk _ omg omg).trans k0
  have k1:=(kk _ omg omg).trans k1
  have k2:=(kk _ omg omg).trans k2
  have kv:=(e8.block _ (get_some_lt kv)).trans kv
  have ov:=ov.ext e8
  have nfoot:∀b,h.size≤b→¬s.foot sp b:=fun b hb e=>by have:=a.st.lt e; omega
  refine loopX1 (α:=Nat×St×Fs) (fun z => .int .i64 z.1) (fun z G=>z.1≤3∧SUpd h8 G sp s z.2.1∧FsAt z.2.1 z.2.2∧AStage g st vn p z.1 z.2.2) (fun z=>3-z.1) (0,s,p) rfl ⟨Nat.zero_le _,.refl a8.st,a.fs,rfl⟩ ?_
  rintro ⟨j,s1,p1⟩ G2 ⟨hj3,u,f1,hsg⟩ X hX
  dsimp only at hj3 u f1 hsg hX ⊢
  have aG:=a8.upd u f1
  have kp:∀b,h.size≤b→b<h8.size→G2[b]? = h8[b]? := fun b hb hl=>u.mod.block b hl (nfoot b hb)
  have k8:=(kp _ omg omg).trans k8
  have d0:=cellOf (i:=0) ((kp _ omg (get_some_lt k0)).trans k0) rfl
  have d1:=cellOf (i:=0) ((kp _ omg (get_some_lt k1)).trans k1) rfl
  have d2:=cellOf (i:=0) ((kp _ omg (get_some_lt k2)).trans k2) rfl
  have dv:=cellOf (i:=0) ((kp _ omg (get_some_lt kv)).trans kv) rfl
  have r0:=cellOf (i:=0) aG.rg rfl
  have r1:=cellOf (i:=1) aG.rg rfl
  have r17:=cellOf (i:=17) aG.rg rfl
  unfold ptrV at r0
  have cellj:∀n (hn:n<fs3.size),hcell G2 (elt ⟨G.size,0,none⟩ n)=some fs3[n]:=fun n hn=>by
   rw [elt_mk,Nat.zero_add]; exact cellOf k8 (Array.getElem?_eq_getElem hn)
  have hs5:fs3.size=3:=by rw [hfs3]; rfl
  obtain ⟨TT,hTT⟩:∃T,(st+vn)*g.c=T:=⟨_,rfl⟩
  have hsum:((st:Nat):Int)+((vn:Nat):Int)=((st+vn:Nat):Int):=by omega
  obtain ⟨BN,hBN⟩:∃B,st+vn=B:=⟨_,rfl⟩
  have hmul:((BN:Nat):Int)*((g.c:Nat):Int)=((TT:Nat):Int):=by rw [←hTT,←hBN,Int.natCast_mul]
  rw [hBN] at hsum
  rw [hTT] at hfit
  have hupi:=up_id a.ok (st+vn)
  rw [hTT] at hupi
  have gst:=growF_stp a.ok a.fok (n:=TT) (by rw [hupi]; exact hfit)
  have hgr:=fun he=>grow_run (t:=st+vn) a.ok a.fok I (by rw [hTT]; exact hfit) he
  have fin:∀G' s' p' e,SUpd G2 G' sp s1 s'→FsAt s' p'→e≠0→AEnd g st vn p p' e→K (.tuple #[.int .i64 0,.int .i64 e]) G':=fun G' s' p' e u' f' he hend=>by
   have:=H G' s' p' e st ((u.trans u').from_ E8) f' st1 sr hfr (by rw [hTT]; exact hfit) hend
   rw [if_neg he] at this
   exact this
  rcases Nat.lt_or_ge j 3 with hj5|hj5
  ·have hcj:=cellj j omg
   have hlt:((j:Nat):Int)<3:=by omega
   simp (disch:=omega) [hcj]
   have h012:j=0∨j=1∨j=2:=by omega
   rcases h012 with rfl|rfl|rfl
   ·obtain rfl:p1=p:=hsg
    rw [show fs3[0]'omg = .func (.func 41) #[] #[.pointer (some ⟨h.size,0,none⟩),.pointer (some ⟨h3.size,0,none⟩),.pointer (some ⟨h.size+1,0,none⟩)] by simp only [hfs3]; rfl]
    refine invC3 kR ?_
    refine n41_calls ?_
    unfold n41; try delta vF vG vC vD vJ vV vk vt
    simp (disch:=omega) [d0,d1,d2,r17,hsum,hmul]
    rw [show (.pointer (some ⟨o,0,none⟩):Value)=ptrV o from rfl]
    refine gGrow_c aG omg omg (by rw [Int.toNat_natCast,hupi]; exact hfit) fun G5 s2 u2 f2 => ?_
    rw [Int.toNat_natCast,←hTT] at f2 ⊢
    by_cases he0:(growF g ((st+vn)*g.c) p1).2=0
    ·rw [he0]
     simp (disch:=omega)
     exact hX (1,s2,_) _ _ rfl ⟨by omega,u.trans u2,f2,he0,rfl⟩ (by dsimp only; omega)
    ·simp (disch:=omega) [he0]
     exact fin G5 s2 _ _ u2 f2 he0 (.inl ⟨he0,rfl⟩)
   ·obtain ⟨he0,hp1⟩:=hsg
    have he0':=he0
    rw [hTT] at he0'
    obtain ⟨I1,w1,c1,l1,l2⟩:=hgr he0
    rw [←hp1] at I1 w1 c1
    rw [←hTT] at gst
    have hst1:=gst.stp
    rw [←hp1] at hst1
    rw [show fs3[1]'omg = .func (.func 42) #[] #[.pointer (some ⟨h.size,0,none⟩),.pointer (some ⟨h3.size+1,0,none⟩)] by simp only [hfs3]; rfl]
    refine invC2 kR ?_
    refine n42_calls ?_
    unfold n42; try delta vF vG vC vD vJ vV vk vt
    simp (disch:=omega) [d0,dv]
    rw [show (.pointer (some ⟨o,0,none⟩):Value)=ptrV o from rfl]
    have ov2:OwnG i6T 1 G2 (.slice va vn vc) ((runL st vn).map ik):=ov.mod u.mod (fun b hb=>nfoot b (by have:=fv b hb; omega))
    have hkin:∀k,st≤k→k<st+vn→k/g.n<g.m:=fun k h1 h2=>by
     have:=a.ok.n64
     rw [Nat.div_lt_iff_lt_mul omg]
     have:k<g.room:=by omega
     exact this
    refine gAdd_c aG I1 omg ov2 (by rw [runL_len]; exact n2) (fun k hk=>by have:=runL_memI.1 hk; omega) (fun _ _ k hk hw => ?_) (fun e1=>absurd e1 dM) (by rw [runL_len]; omega) (fun h' e' h1 _=>absurd rfl h1) (fun h' e' _ hno=>absurd ?_ hno) (fun h' e' h1=>absurd h1 dM) (fun h' e' _ _ hex => ?_) (fun h' s' ks bs Q u2 f2 => ?_)
    ·have hk':=runL_mem.1 hk
     rw [w1 _ (hkin k hk'.1 hk'.2)] at hw
     exact frees_room a.ok I sr hfr (by rw [hTT]; exact hfit) hk'.1 hk'.2 hw
    ·intro k hk
     have:=runL_memI.1 hk
     omega
    ·exfalso
     obtain ⟨k,hk,hle⟩:=hex
     have hk':=runL_mem.1 hk
     rw [c1 k (hkin k hk'.1 hk'.2),(hfr k hk'.1 hk'.2).1,runL_cnt,if_pos hk'] at hle
     have:2^1≤2^g.w:=Nat.pow_le_pow_right omg a.ok.w64.1
     omega
    ·rw [hp1] at f2 Q ⊢
     by_cases he1:(addF g 1 (cntZ (runL st vn)) ks bs (growF g ((st+vn)*g.c) p).1).2=0
     ·rw [he1]
      simp (disch:=omega)
      exact hX (2,s',_) _ _ rfl ⟨by omega,u.trans u2,f2,ks,bs,he0,Q,he1,.inl ⟨rfl,rfl⟩⟩ (by dsimp only; omega)
     ·simp (disch:=omega) [he1]
      exact fin h' s' _ _ u2 f2 he1 (.inr ⟨ks,bs,he0,Q,.inl ⟨he1,rfl⟩⟩)
   ·obtain ⟨ks,bs,he0,Q,he1,hor⟩:=hsg
    have hp1:=hor.resolve_right (fun h=>absurd h.1 dM) |>.2
    rw [show fs3[2]'omg = .func (.func 43) #[] #[.pointer (some ⟨h.size,0,none⟩)] by simp only [hfs3]; rfl]
    refine invC1 kR ?_
    refine n43_calls ?_
    unfold n43; try delta vF vG vC vD vJ vV vk vt
    simp (disch:=omega) [d0,r0,r1]
    rw [show (.pointer (some ⟨sp,0,none⟩):Value)=ptrV sp from rfl]
    have hstp:p1.steps+1<1000000:=by
     obtain ⟨I1,-,-,-,-⟩:=hgr he0
     rw [←hTT] at gst
     have h1:=(Q.all a.ok gst.ok I1).1.stp
     have h2:=gst.stp
     rw [runL_len] at h1
     rw [hp1]
     omega
    refine sFlush_c aG.st f1 hstp fun G5 s2 u2 f2 => ?_
    by_cases he2:p1.e=0
    ·rw [he2]
     simp (disch:=omega)
     exact hX (3,s2,_) _ _ rfl ⟨by omega,u.trans u2,f2,ks,bs,he0,Q,he1,.inr ⟨rfl,by rw [←hp1]; exact he2,by show p1.flush=_; rw [←hp1]⟩⟩ (by dsimp only; omega)
    ·simp (disch:=omega) [he2]
     exact fin G5 s2 _ _ u2 f2 he2 (.inr ⟨ks,bs,he0,Q,.inr ⟨he1,by rw [←hp1],by rw [←hp1]⟩⟩)
  ·obtain rfl:j=3:=by omega
   obtain ⟨ks,bs,he0,Q,he1,hor⟩:=hsg
   obtain ⟨-,he2,hp1⟩:=hor.resolve_left (fun h=>absurd h.1 dM)
   obtain ⟨SC,hSC⟩:∃S,st*g.c=S:=⟨_,rfl⟩
   have hSCm:((st:Nat):Int)*((g.c:Nat):Int)=((SC:Nat):Int):=by rw [←hSC,Int.natCast_mul]
   have hSCl:SC≤TT:=by rw [←hSC,←hTT]; exact Nat.mul_le_mul_right _ omg
   simp (disch:=omega) [d0,d2,r17,hSCm]
   have:=H G2 s1 p1 0 st (u.from_ E8) f1 st1 sr hfr (by rw [hTT]; exact hfit) (.inr ⟨ks,bs,he0,Q,.inr ⟨he1,hp1,he2.symm⟩⟩)
   rw [if_pos rfl,hSC] at this
   exact this
end Go.Proofs.YtdccfkffabngjaaGreat
set_option linter.unusedSimpArgs false
set_option linter.unusedVariables false
set_option maxRecDepth 20000
namespace Go.Proofs.YtdccfkffabngjaaGreat
open Go.Vc
variable {K:VP} {h:Heap}

set_option maxHeartbeats 4000000 in
theorem gOpen_c {sp:Nat} {g:Gm} {x:Hd} {s:St} {p:Fs} (a:StAt h sp s) (f:FsAt s p) (kk:g.ok) (hd:HdOk g x) (I:Img g x p.f.now)
 (H:∀h' o,Ext h h'→h.size≤o→RA h' o sp g x s p→K (.tuple #[ptrV o,.int .i64 0]) h'):CallsH Tryz.prog 9 #[ptrV sp,str nA] h K ⟨⟩:=by
 refine n9_calls ?_
 unfold n9; try delta vF vG vC vD vJ vV vk vt
 have ho:=f.ok a
 have hl:=ho.now_len
 obtain ⟨q,hq,hq1,hq2⟩:=kk.c512
 have h0:=I.word_fit kk (i:=0) (by have:=kk.m0; omega)
 refine sRead_c a f omg omg omg omg fun h1 v e1 ov fv => ?_
 have hpl:(part p.f.now 0 512).length=512:=part_len omg
 have ov':OwnT bT 1 h1 v ((part p.f.now 0 512).map byteV):=ov
 simp (disch:=omega)
 refine HRead_c ov'.g.bytes (by rw [hpl]; decide) (fun h2 y e2 _ hM hy => ?_) (fun h2 e2 hno=>absurd ⟨by rw [hpl]; decide,x,hd.may,by rw [List.take_of_length_le (by rw [hpl]; decide),I.head]⟩ hno)
 rw [List.take_of_length_le (by rw [hpl]; decide),I.head] at hy
 obtain rfl:y=x:=hdB_inj hM hd.may hy
 have hMA:=hM.1
 obtain ⟨b0,b1,-⟩:=hMA
 have hc:=clus b0 b1
 have hbits:=hd.bits
 have hord:=hd.order
 have ho6:=kk.o1
 have hcc:(2:Int)^y.bits.toNat=((g.c:Nat):Int):=by rw [hbits,Int.toNat_natCast]; unfold Gm.c; rw [Int.natCast_pow]; rfl
 simp (disch:=omega) [-Tryz.st84,-Tryz.ld84,-Tryz.al84]
 refine allocH fun h3 e3 hw3 z3 => ?_
 refine storeH (x:=y) hw3 fun h4 m4 hw4 => ?_
 have hz2:=e2.size
 have z4:=m4.size
 have E4:Ext h h4:=m4.ext_from (e1.trans (e2.trans e3)) (fun b hb he=>by have:=e1.size; omega)
 simp (disch:=omega) [-Tryz.st84,-Tryz.ld84]
 rw [loadH hw4.at]
 refine ClusterH_c (fun h5 e5 _ => ?_) (fun h5 e5 hno=>absurd hM hno)
 have hw5:=hw4.at.ext e5
 rw [hcc,loadH hw5]
 have d5:=hw5.2.2.2.2.2.1
 rw [hord] at d5
 obtain ⟨C8,hC8⟩:∃C,8*g.c=C:=⟨_,rfl⟩
 have hC8':(8:Int)*((g.c:Nat):Int)=((C8:Nat):Int):=by omega
 have hshr:C8/2^g.o=g.n:=by
  rw [←hC8,←kk.nw]
  exact Nat.mul_div_cancel _ (Nat.pow_pos omg)
 unfold Hd.val Hd.cells
 simp (disch:=omega) [d5,hC8']
 obtain ⟨WW,hWW⟩:∃W,g.w=W:=⟨_,rfl⟩
 have hw2:2^g.o=WW:=hWW
 rw [hw2] at hshr
 have hdiv:((C8:Nat):Int)/((WW:Nat):Int)=((g.n:Nat):Int):=by rw [←Int.natCast_ediv,hshr]
 have hnn:=kk.n64
 rw [Hp_shrW hw2 omg omg,ValI_iff,hdiv]
 unfold ptrV
 simp (disch:=omega)
 obtain ⟨h6,hh6⟩:∃X,X=h5.push (.cells #[ptrV sp,str nA,.int .i64 y.bits,.int .u64 y.flags,.int .i64 y.size,.int .i64 y.l1,.int .i64 y.l1len,.int .i64 y.order,.int .i64 y.counts,.int .i64 y.clen,.int .i64 y.snaps,.int .i64 y.sat,.int .i64 y.slen,.int .i64 y.maps,.int .i64 y.mat,.int .i64 y.mlen,str y.back,.int .i64 (g.c:Nat),.int .i64 (g.n:Nat)] 89):=⟨_,rfl⟩
 have e6:Ext h5 h6:=by rw [hh6]; exact extS
 have rg:RgAt h6 h5.size sp g y:=by rw [hh6]; exact get_pushed rfl
 have hz5:=e5.size
 have E6:=(E4.trans e5).trans e6
 have hz1:=e1.size
 have hz3:=e3.size
 refine (fun hh => ?_:K (.tuple #[ptrV h5.size,.int .i64 0]) h6→_) (H h6 h5.size E6 omg ⟨rg,a.ext E6,f,fun e=>by have:=a.lt e; omega,kk,hd⟩)
 rw [hh6] at hh
 exact hh
end Go.Proofs.YtdccfkffabngjaaGreat
set_option linter.unusedSimpArgs false
set_option linter.unusedVariables false
set_option maxRecDepth 20000
namespace Go.Proofs.YtdccfkffabngjaaGreat
open Go.Vc
variable {K:VP} {h:Heap}

theorem cvSame {L:List UInt8} (hl:0<L.length) (H:∀h',OwnS 1 h' (.slice (some ⟨h.size,0,none⟩) L.length L.length) (L.map byteV)→Ext h h'→K (.slice (some ⟨h.size,0,none⟩) L.length L.length) h') :
 Hp Tryz.prog false (convert 52 52 (.slice (some ⟨h.size,0,none⟩) L.length L.length)) K (h.push (.cells (L.map byteV).toArray 5)) ⟨⟩:=by
 have ht:Tryz.prog.underlying 52=some (.slice 5):=by kernel_rfl
 have he:Tryz.prog.underlying 5=some (.int .u8):=by kernel_rfl
 rw [Hp_iff]
 unfold convert
 rw [hp_bind',hp_underlying ht,hp_bind',hp_underlying ht]
 simp only
 rw [hp_bind',hp_underlying he]
 simp only [beq_self_eq_true]
 unfold markStringish
 rw [hp_bind',hp_bind']
 show _∧_
 refine ⟨rfl,?_⟩
 have hsh:hshape (h.push (.cells (L.map byteV).toArray 5)) h.size=some (5,L.length):=by
  unfold hshape
  simp
 simp only [hsh]
 show _∧_
 refine ⟨rfl,?_⟩
 have hfz:hfreeze (h.push (.cells (L.map byteV).toArray 5)) ⟨h.size,L.length,none⟩ 1=h.push (.cells (L.map byteV).toArray 5 (L.length,L.length+1)):=by
  unfold hfreeze
  apply Array.ext_getElem?
  intro j
  rw [if_neg dM,Array.getElem?_modify,Array.getElem?_push,Array.getElem?_push]
  by_cases e:j=h.size
  ·subst e; simp
  ·simp [e,Ne.symm e]
 show K _ (hfreeze _ ⟨h.size,L.length,none⟩ 1)
 rw [hfz]
 exact H _ (.inr ⟨h.size,L.length,L.length,[],5,(L.length,L.length+1),rfl,by simp,Nat.le_refl _,by simp,by simp,fun i hi hh=>by simp at hh hi; omega⟩) (push_ext (.refl _))
theorem acc_appS {h1 h2:Heap} {u:Value} {L m:List UInt8} (a:Acc h h1 u L) (e:Ext h1 h2) (hl:L.length+m.length<1000000000) (H:∀u' h3,Acc h h3 u' (L++m)→K u' h3) :
 Hp Tryz.prog false (Builtin.append_ #[52,9] 52 #[u,str m]) K h2 ⟨⟩:=by
 refine Hp_appStr (e:=5) kR kR (a.own.ext e) omg fun v4 h4 hO4 hM4 hF4 _ => ?_
 have z1:=a.ext.size
 have z2:=e.size
 exact H _ _ ⟨hM4.ext_from (a.ext.trans e) (fun b hb hb'=>by have:=a.blk b hb'; omega),hO4,fun b hb=>(hF4 b hb).elim (a.blk b) (fun x=>by omega)⟩
set_option maxHeartbeats 4000000 in
theorem RBytes_c {x:Hd} (m:MayH x) (H:∀v h',Ext h h'→Bytes h' v (hdB x)→K v h'):CallsH Tryz.prog 75 #[x.val] h K ⟨⟩:=by
 have b:=m.bd
 obtain ⟨bits,flags,size,l1,l1len,order,counts,clen,snaps,sat,slen,maps,mat,mlen,back⟩:=x
 dsimp only at b
 obtain ⟨bits,rfl⟩:=Int.eq_ofNat_of_zero_le (show 0≤bits by omega)
 obtain ⟨size,rfl⟩:=Int.eq_ofNat_of_zero_le (show 0≤size by omega)
 obtain ⟨l1,rfl⟩:=Int.eq_ofNat_of_zero_le (show 0≤l1 by omega)
 obtain ⟨l1len,rfl⟩:=Int.eq_ofNat_of_zero_le (show 0≤l1len by omega)
 obtain ⟨order,rfl⟩:=Int.eq_ofNat_of_zero_le (show 0≤order by omega)
 obtain ⟨counts,rfl⟩:=Int.eq_ofNat_of_zero_le (show 0≤counts by omega)
 obtain ⟨clen,rfl⟩:=Int.eq_ofNat_of_zero_le (show 0≤clen by omega)
 obtain ⟨snaps,rfl⟩:=Int.eq_ofNat_of_zero_le (show 0≤snaps by omega)
 obtain ⟨sat,rfl⟩:=Int.eq_ofNat_of_zero_le (show 0≤sat by omega)
 obtain ⟨slen,rfl⟩:=Int.eq_ofNat_of_zero_le (show 0≤slen by omega)
 obtain ⟨maps,rfl⟩:=Int.eq_ofNat_of_zero_le (show 0≤maps by omega)
 obtain ⟨mat,rfl⟩:=Int.eq_ofNat_of_zero_le (show 0≤mat by omega)
 obtain ⟨mlen,rfl⟩:=Int.eq_ofNat_of_zero_le (show 0≤mlen by omega)
 refine n75_calls ?_
 unfold n75; try delta vF vG vC vD vJ vV vk vt
 rw [boxH]
 have hA:=HdAt.new (h:=h) ⟨(bits:Nat),flags,(size:Nat),(l1:Nat),(l1len:Nat),(order:Nat),(counts:Nat),(clen:Nat),(snaps:Nat),(sat:Nat),(slen:Nat),(maps:Nat),(mat:Nat),(mlen:Nat),back⟩
 have e1:Ext h (h.push (.cells (Hd.cells ⟨(bits:Nat),flags,(size:Nat),(l1:Nat),(l1len:Nat),(order:Nat),(counts:Nat),(clen:Nat),(snaps:Nat),(sat:Nat),(slen:Nat),(maps:Nat),(mat:Nat),(mlen:Nat),back⟩).toArray 84)):=extS
 generalize h.push (.cells (Hd.cells ⟨(bits:Nat),flags,(size:Nat),(l1:Nat),(l1len:Nat),(order:Nat),(counts:Nat),(clen:Nat),(snaps:Nat),(sat:Nat),(slen:Nat),(maps:Nat),(mat:Nat),(mlen:Nat),back⟩).toArray 84)=g at *
 unfold HdAt at hA
 dsimp only at hA
 obtain ⟨a0,a1,a2,a3,a4,a5,a6,a7,a8,a9,a10,a11,a12,a13,a14⟩:=hA
 simp (disch:=omega)
 refine cvSame (h:=g) (L:=[80,65,76,49]) sM fun h0 hO e2 => ?_
 have A0:Acc g h0 (.slice (some ⟨g.size,0,none⟩) 4 4) [80,65,76,49]:=⟨e2,hO,fun b hb=>by simp [blkV] at hb; omega⟩
 have c0:=hcell_ext A0.ext a0
 simp (disch:=omega) [c0]
 refine Number_c (x:=bits) omg omg fun v0 h00 hO0 e0' _ => ?_
 refine acc_app A0 e0' hO0.bytes sM fun u1 g1 A1 => ?_
 have c1:=hcell_ext A1.ext a1
 simp (disch:=omega) [c1]
 refine Number_c (x:=flags) omg omg fun v1 h1 hO1 e1' _ => ?_
 refine acc_app A1 e1' hO1.bytes sM fun u2 g2 A2 => ?_
 have c2:=hcell_ext A2.ext a2
 simp (disch:=omega) [c2]
 refine Number_c (x:=size) omg omg fun v2 h2 hO2 e2' _ => ?_
 refine acc_app A2 e2' hO2.bytes sM fun u3 g3 A3 => ?_
 have c3:=hcell_ext A3.ext a3
 simp (disch:=omega) [c3]
 refine Number_c (x:=l1) omg omg fun v3 h3 hO3 e3' _ => ?_
 refine acc_app A3 e3' hO3.bytes sM fun u4 g4 A4 => ?_
 have c4:=hcell_ext A4.ext a4
 simp (disch:=omega) [c4]
 refine Number_c (x:=l1len) omg omg fun v4 h4 hO4 e4' _ => ?_
 refine acc_app A4 e4' hO4.bytes sM fun u5 g5 A5 => ?_
 have c5:=hcell_ext A5.ext a5
 simp (disch:=omega) [c5]
 refine Number_c (x:=order) omg omg fun v5 h5 hO5 e5' _ => ?_
 refine acc_app A5 e5' hO5.bytes sM fun u6 g6 A6 => ?_
 have c6:=hcell_ext A6.ext a6
 simp (disch:=omega) [c6]
 refine Number_c (x:=counts) omg omg fun v6 h6 hO6 e6' _ => ?_
 refine acc_app A6 e6' hO6.bytes sM fun u7 g7 A7 => ?_
 have c7:=hcell_ext A7.ext a7
 simp (disch:=omega) [c7]
 refine Number_c (x:=clen) omg omg fun v7 h7 hO7 e7' _ => ?_
 refine acc_app A7 e7' hO7.bytes sM fun u8 g8 A8 => ?_
 have c8:=hcell_ext A8.ext a8
 simp (disch:=omega) [c8]
 refine Number_c (x:=snaps) omg omg fun v8 h8 hO8 e8' _ => ?_
 refine acc_app A8 e8' hO8.bytes sM fun u9 g9 A9 => ?_
 have c9:=hcell_ext A9.ext a9
 simp (disch:=omega) [c9]
 refine Number_c (x:=sat) omg omg fun v9 h9 hO9 e9' _ => ?_
 refine acc_app A9 e9' hO9.bytes sM fun u10 g10 A10 => ?_
 have c10:=hcell_ext A10.ext a10
 simp (disch:=omega) [c10]
 refine Number_c (x:=slen) omg omg fun v10 h10 hO10 e10' _ => ?_
 refine acc_app A10 e10' hO10.bytes sM fun u11 g11 A11 => ?_
 have c11:=hcell_ext A11.ext a11
 simp (disch:=omega) [c11]
 refine Number_c (x:=maps) omg omg fun v11 h11 hO11 e11' _ => ?_
 refine acc_app A11 e11' hO11.bytes sM fun u12 g12 A12 => ?_
 have c12:=hcell_ext A12.ext a12
 simp (disch:=omega) [c12]
 refine Number_c (x:=mat) omg omg fun v12 h12 hO12 e12' _ => ?_
 refine acc_app A12 e12' hO12.bytes sM fun u13 g13 A13 => ?_
 have c13:=hcell_ext A13.ext a13
 simp (disch:=omega) [c13]
 refine Number_c (x:=mlen) omg omg fun v13 h13 hO13 e13' _ => ?_
 refine acc_app A13 e13' hO13.bytes sM fun u14 g14 A14 => ?_
 have c14:=hcell_ext A14.ext a14
 simp (disch:=omega) [c14]
 refine Number_c (x:=back.length) omg omg fun v14 h14 hO14 e14' _ => ?_
 refine acc_app A14 e14' hO14.bytes sM fun u15 g15 A15 => ?_
 have c15:=hcell_ext A15.ext a14
 simp (disch:=omega) [c15]
 have hbl:=b.2.2.2.2
 refine acc_appS A15 (.refl _) (by simp; omega) fun u16 g16 A16 => ?_
 generalize hL:((([80,65,76,49]++leB (4:Int).toNat bits++leB (8:Int).toNat flags++leB (8:Int).toNat size++leB (8:Int).toNat l1++leB (4:Int).toNat l1len++leB (4:Int).toNat order++leB (8:Int).toNat counts++leB (4:Int).toNat clen++leB (4:Int).toNat snaps++leB (8:Int).toNat sat++leB (4:Int).toNat slen++leB (4:Int).toNat maps++leB (8:Int).toNat mat++leB (4:Int).toNat mlen++leB (4:Int).toNat back.length)++back:List UInt8))=L at A16
 have hLl:L.length=88+back.length:=by rw [←hL]; simp; omega
 refine loopA1 (fun a:Value×Nat=>a.1) (fun a h'=>88+back.length+a.2≤512∧Acc g h' a.1 (L++List.replicate a.2 0)) (fun a=>512-(88+back.length+a.2)) (u16,0) rfl ⟨by simp; omega,by simpa using A16⟩ ?_
 rintro ⟨u,k⟩ h5 ⟨hk,A5⟩
 dsimp only at hk A5
 have hB5:=A5.own.bytes
 obtain ⟨o,c,rfl⟩:=hB5.form
 by_cases hkk:88+back.length+k=512
 ·have hk2:¬(L.length:Int)+k<512:=by omega
  simp (disch:=omega) [hk2]
  have hfin:L++List.replicate k 0=hdB ⟨(bits:Nat),flags,(size:Nat),(l1:Nat),(l1len:Nat),(order:Nat),(counts:Nat),(clen:Nat),(snaps:Nat),(sat:Nat),(slen:Nat),(maps:Nat),(mat:Nat),(mlen:Nat),back⟩:=by
   rw [←hL]
   obtain rfl:k=(64-back.length)+360:=by omega
   unfold hdB hdP hdF fieldB
   rw [←List.replicate_append_replicate]
   generalize List.replicate 360 (0:UInt8)=Z
   simp
  refine H _ _ (e1.trans A5.ext) ?_
  rw [←hfin]
  simpa using hB5
 ·have hk2:(L.length:Int)+k<512:=by omega
  simp (disch:=omega) [hk2]
  have hO6:OwnS 1 (h5.push (.cells #[.int .u8 0] 5)) (.slice (some ⟨h5.size,0,none⟩) 1 1) (([0]:List UInt8).map byteV):=OwnS_new (vs:=([0]:List UInt8).map byteV) rfl rfl
  have hlen:(L++List.replicate k (0:UInt8)).length=L.length+k:=by simp
  rw [hlen] at A5
  refine acc_app A5 (h2:=h5.push (.cells #[.int .u8 0] 5)) extS hO6.bytes (by rw [hlen]; simp; omega) fun u7 h7 A7 => ?_
  refine ⟨(u7,k+1),rfl,⟨by dsimp only; omega,?_⟩,by dsimp only; omega⟩
  rw [List.append_assoc,←List.replicate_succ'] at A7
  exact A7
end Go.Proofs.YtdccfkffabngjaaGreat
set_option linter.unusedSimpArgs false
set_option linter.unusedVariables false
set_option maxRecDepth 20000
namespace Go.Proofs.YtdccfkffabngjaaGreat
open Go.Vc
variable {K:VP} {h:Heap}

def numR (l:List UInt8) (p n:Nat):Int:=if 4611686018427387904<leN ((l.drop p).take n) then -1 else leN ((l.drop p).take n)
theorem RNum_c {g:Heap} {v:Value} {l:List UInt8} {p n:Nat} (hB:Bytes g v l) (e:Ext g h) (hl:l.length<1000000000) (hn:n≤8) (h0:0<n) (hp:p+n≤l.length) (H:K (.int .i64 (numR l p n)) h):CallsH Tryz.prog 110 #[v,.int .i64 p,.int .i64 n] h K ⟨⟩:=by
 obtain ⟨u,hu,su⟩:=slB2 hB omg p (p+n) omg omg omg
 refine n110_calls ?_
 unfold n110; try delta vF vG vC vD vJ vV vk vt
 simp (disch:=omega) [su]
 have e1:(l.take ((p:Int)+n).toNat).drop (p:Int).toNat=(l.drop p).take n:=by
  rw [show ((p:Int)+n).toNat=p+n by omega,Int.toNat_natCast,List.drop_take,Nat.add_sub_cancel_left]
 rw [e1] at hu
 refine Value_c (hu.ext e) (by simp; omega) ?_
 have hx:=leN_lt8 (l:=(l.drop p).take n) (by simp; omega)
 unfold numR at H
 generalize leN ((l.drop p).take n)=z at *
 by_cases hz:4611686018427387904<z
 ·rw [if_pos hz] at H
  simp (disch:=omega)
  exact H
 ·rw [if_neg hz] at H
  simp (disch:=omega) [Tryz.cvw44_2]
  exact H
def hdR (l:List UInt8):Hd:=⟨numR l 4 4,leN ((l.drop 8).take 8),numR l 16 8,numR l 24 8,numR l 32 4,numR l 36 4,numR l 40 8,numR l 48 4,numR l 52 4,numR l 56 8,numR l 64 4,numR l 68 4,numR l 72 8,numR l 80 4,(l.drop 88).take (leN ((l.drop 84).take 4))⟩
theorem numR_of {l A C:List UInt8} {n x p:Nat} (hl:l=A++(leB n x++C)) (hp:A.length=p) (hx:x<256^n):leN ((l.drop p).take n)=x:=by
 subst hl hp
 rw [List.drop_left,List.take_left' sM,leN_leB,Nat.mod_eq_of_lt hx]
theorem hdB_num {x:Hd} (m:MayH x) {j:Nat} (hj:j<14):leN (((hdB x).drop (hdAt[j]'hj)).take ((hdF x)[j]'hj).1)=((hdF x)[j]'hj).2:=by
 obtain ⟨C,hC⟩:=hdB_split (x:=x) hj
 have hok:=hdF_ok m j hj
 refine numR_of hC (hdP_len hj) ?_
 rcases hok.2.1 with e|e
 ·rw [e,show (256:Nat)^4=4294967296 by decide]; omega
 ·rw [e,show (256:Nat)^8=18446744073709551616 by decide]; omega
theorem hdB_back {x:Hd} (m:MayH x):leN (((hdB x).drop 84).take 4)=x.back.length∧((hdB x).drop 88).take x.back.length=x.back:=by
 have hbl:=m.bd.2.2.2.2
 have e:hdB x=hdP x 14++(leB 4 x.back.length++(x.back++(List.replicate (64-x.back.length) 0++List.replicate 360 0))):=by
  unfold hdB fieldB
  simp only [List.append_assoc]
 refine ⟨numR_of e hdP_14 (by rw [show (256:Nat)^4=4294967296 by decide]; omega),?_⟩
 rw [e,←List.append_assoc,List.drop_left' (by rw [List.length_append,hdP_14,leB_length]),List.take_left]
theorem numR_eq {l:List UInt8} {p n x:Nat} {z:Int} (h:leN ((l.drop p).take n)=x) (hx:x≤268435456) (hz:(x:Int)=z):numR l p n=z:=by
 unfold numR
 rw [h,if_neg omg,hz]
set_option maxHeartbeats 1000000 in
theorem hdR_hdB {x:Hd} (m:MayH x):hdR (hdB x)=x:=by
 have b:=m.bd
 have t_bits:((x.bits.toNat:Nat):Int)=x.bits:=Int.toNat_of_nonneg omg
 have t_size:((x.size.toNat:Nat):Int)=x.size:=Int.toNat_of_nonneg omg
 have t_l1:((x.l1.toNat:Nat):Int)=x.l1:=Int.toNat_of_nonneg omg
 have t_l1len:((x.l1len.toNat:Nat):Int)=x.l1len:=Int.toNat_of_nonneg omg
 have t_order:((x.order.toNat:Nat):Int)=x.order:=Int.toNat_of_nonneg omg
 have t_counts:((x.counts.toNat:Nat):Int)=x.counts:=Int.toNat_of_nonneg omg
 have t_clen:((x.clen.toNat:Nat):Int)=x.clen:=Int.toNat_of_nonneg omg
 have t_snaps:((x.snaps.toNat:Nat):Int)=x.snaps:=Int.toNat_of_nonneg omg
 have t_sat:((x.sat.toNat:Nat):Int)=x.sat:=Int.toNat_of_nonneg omg
 have t_slen:((x.slen.toNat:Nat):Int)=x.slen:=Int.toNat_of_nonneg omg
 have t_maps:((x.maps.toNat:Nat):Int)=x.maps:=Int.toNat_of_nonneg omg
 have t_mat:((x.mat.toNat:Nat):Int)=x.mat:=Int.toNat_of_nonneg omg
 have t_mlen:((x.mlen.toNat:Nat):Int)=x.mlen:=Int.toNat_of_nonneg omg
 have g:∀j (hj:j<14),leN (((hdB x).drop (hdAt[j]'hj)).take ((hdF x)[j]'hj).1)=((hdF x)[j]'hj).2:=fun j hj=>hdB_num m hj
 have gb:=fun j hj=>(hdF_ok m j hj).2.2
 have hb:=hdB_back m
 generalize hdB x=L at g hb ⊢
 have g0:=g 0 dM
 have k0:=gb 0 dM
 have g1:=g 1 dM
 have k1:=gb 1 dM
 have g2:=g 2 dM
 have k2:=gb 2 dM
 have g3:=g 3 dM
 have k3:=gb 3 dM
 have g4:=g 4 dM
 have k4:=gb 4 dM
 have g5:=g 5 dM
 have k5:=gb 5 dM
 have g6:=g 6 dM
 have k6:=gb 6 dM
 have g7:=g 7 dM
 have k7:=gb 7 dM
 have g8:=g 8 dM
 have k8:=gb 8 dM
 have g9:=g 9 dM
 have k9:=gb 9 dM
 have g10:=g 10 dM
 have k10:=gb 10 dM
 have g11:=g 11 dM
 have k11:=gb 11 dM
 have g12:=g 12 dM
 have k12:=gb 12 dM
 have g13:=g 13 dM
 have k13:=gb 13 dM
 simp only [hdAt,hdF,List.getElem_cons_zero,List.getElem_cons_succ] at g0 k0 g1 k1 g2 k2 g3 k3 g4 k4 g5 k5 g6 k6 g7 k7 g8 k8 g9 k9 g10 k10 g11 k11 g12 k12 g13 k13
 unfold hdR
 rw [hb.1,hb.2,g1]
 rw [numR_eq g0 k0 t_bits]
 rw [numR_eq g2 k2 t_size]
 rw [numR_eq g3 k3 t_l1]
 rw [numR_eq g4 k4 t_l1len]
 rw [numR_eq g5 k5 t_order]
 rw [numR_eq g6 k6 t_counts]
 rw [numR_eq g7 k7 t_clen]
 rw [numR_eq g8 k8 t_snaps]
 rw [numR_eq g9 k9 t_sat]
 rw [numR_eq g10 k10 t_slen]
 rw [numR_eq g11 k11 t_maps]
 rw [numR_eq g12 k12 t_mat]
 rw [numR_eq g13 k13 t_mlen]
end Go.Proofs.YtdccfkffabngjaaGreat

/- What is proved: the law palimpsestlaw16.RefsGive returns true for every input,and its arguments read as they did. No conditions. -/
import Derived.Test.YtdccfkffabngjaaGreatRows
import Derived.Test.YtdccfkffabngjaaGreatGpI
import Derived.Test.YtdccfkffabngjaaGreatOpen
import Derived.Test.YtdccfkffabngjaaGreatClose
set_option linter.unusedSimpArgs false
set_option linter.unusedVariables false
set_option maxRecDepth 20000
namespace Go.Proofs.YtdccfkffabngjaaGreat
open Go.Vc
variable {K:VP} {h:Heap}

section
open Go Go.ChangeShapes Go.WideShapes Go.ChangeAt Go.RowKit Go.Deep
theorem len7 {l:List Value} (h:l.length=7):∃a b c d e f g,l=[a,b,c,d,e,f,g]:=by
 match l,h with
 | [a,b,c,d,e,f,g],_=>exact ⟨a,b,c,d,e,f,g,rfl⟩
set_option maxRecDepth 100000 in
theorem open_given {H:Type} {enc:TypeId×Value→H} {w:World} {base:Nat} {sp:Nat→Bool} {held:Bool} {v:Value} {r:Go.Reach} {b0:Nat} {ps:List MemPlace} {d:DataW H} (hval:Value.okWide Tryz.prog w r b0 58 v) (hd:DataW.Trod enc Tryz.prog w base sp held 58 v d ps) :
 ∃(bits order long size n fr lg:Int),v = .agg #[.int .i64 bits,.int .i64 order,.int .i64 long,.int .i64 size,.int .i64 n,.int .i64 fr,.int .i64 lg]∧i64 bits∧i64 order∧i64 long∧i64 size∧i64 n∧i64 fr∧i64 lg:=by
 obtain ⟨cs,rfl,hl,hL⟩:=Laid.topFlds (L:=[(23,0,4),(3,4,1),(3,5,1),(3,6,1)]) (n:=7) kR kR hval hd
 obtain ⟨c0,c1,c2,c3,c4,c5,c6,rfl⟩:=len7 hl
 obtain ⟨-,hM⟩:=(hL 0 _ _ _ rfl).flds (L:=[(3,0,1),(3,1,1),(3,2,1),(2,3,1)]) (n:=4) kR kR
 obtain ⟨n0,hn0,r0⟩:=(hM 0 _ _ _ rfl).int (k := .i64) kR
 obtain rfl:c0 = .int .i64 n0:=by simpa using hn0
 obtain ⟨n1,hn1,r1⟩:=(hM 1 _ _ _ rfl).int (k := .i64) kR
 obtain rfl:c1 = .int .i64 n1:=by simpa using hn1
 obtain ⟨n2,hn2,r2⟩:=(hM 2 _ _ _ rfl).int (k := .i64) kR
 obtain rfl:c2 = .int .i64 n2:=by simpa using hn2
 obtain ⟨n3,hn3,r3⟩:=(hM 3 _ _ _ rfl).int (k := .i64) kR
 obtain rfl:c3 = .int .i64 n3:=by simpa using hn3
 obtain ⟨n4,hn4,r4⟩:=(hL 1 _ _ _ rfl).int (k := .i64) kR
 obtain rfl:c4 = .int .i64 n4:=by simpa using hn4
 obtain ⟨n5,hn5,r5⟩:=(hL 2 _ _ _ rfl).int (k := .i64) kR
 obtain rfl:c5 = .int .i64 n5:=by simpa using hn5
 obtain ⟨n6,hn6,r6⟩:=(hL 3 _ _ _ rfl).int (k := .i64) kR
 obtain rfl:c6 = .int .i64 n6:=by simpa using hn6
 exact ⟨n0,n1,n2,n3,n4,n5,n6,rfl,i64_of r0,i64_of r1,i64_of r2,i64_of r3,i64_of r4,i64_of r5,i64_of r6⟩
end
set_option maxHeartbeats 16000000 in
theorem RefsGive_c {bits order long size n fr lg:Int} (rb:i64 bits) (ro:i64 order) (rl:i64 long) (rs:i64 size) (rn:i64 n) (rf:i64 fr) (rg:i64 lg) (H:∀h',Ext h h'→K (.bool true) h') :
 CallsH Tryz.prog 4 #[.agg #[.int .i64 bits,.int .i64 order,.int .i64 long,.int .i64 size,.int .i64 n,.int .i64 fr,.int .i64 lg]] h K ⟨⟩:=by
 refine n4_calls ?_
 unfold n4; try delta vF vG vC vD vJ vV vk vt
 unfold i64 at rb ro rl rs rn rf rg
 have knows:∀g,Ext h g→CallsH Tryz.prog 7 #[] g K ⟨⟩:=fun g e=>known_c fun g' e'=>H _ (e.trans e')
 simp (disch:=omega)
 rw [show (Value.agg #[.int .i64 bits,.int .i64 order,.int .i64 long,.int .i64 size])=imgV bits order long size from rfl]
 obtain ⟨h1,hh1⟩:∃X,X=hset (hset (hset (hset ((Array.push h (Obj.cells #[.int .i64 bits,.int .i64 order,.int .i64 long,.int .i64 size,.int .i64 n,.int .i64 fr,.int .i64 lg] 58)).push (Obj.cells #[.int .i64 0,.int .i64 0,.int .i64 0,.int .i64 0] 23)) ⟨h.size+1,0,none⟩ (.int .i64 bits)) ⟨h.size+1,1,none⟩ (.int .i64 order)) ⟨h.size+1,2,none⟩ (.int .i64 long)) ⟨h.size+1,3,none⟩ (.int .i64 size):=⟨_,rfl⟩
 have e1:Ext h h1:=by rw [hh1]; exact extS
 have k1:h1[h.size+1]? = some (.cells #[.int .i64 bits,.int .i64 order,.int .i64 long,.int .i64 size] 23):=by rw [hh1]; exact obj_set (obj_set (obj_set (obj_set (get_pushed sM))))
 rw [←hh1]
 clear hh1
 have hl1:=get_some_lt k1
 refine made_c (fs:=[]) rb ro rs rl ⟨.inl ⟨rfl,rfl,rfl⟩,⟨none,0,rfl,Nat.le_refl _⟩,by decide,fun f hf=>by cases hf⟩ dM rfl (fun h2 e2 _ => ?_) fun b o L h2 sp s hb ho hL hok kk hd e2 a2 f2 foot2 => ?_
 ·have k2:=(e2.block _ hl1).trans k1
  have d0:=cellOf (i:=0) k2 rfl
  have d1:=cellOf (i:=1) k2 rfl
  have d2:=cellOf (i:=2) k2 rfl
  have d3:=cellOf (i:=3) k2 rfl
  simp (disch:=omega) [d0,d1,d2,d3]
  rw [show (Value.agg #[.int .i64 bits,.int .i64 order,.int .i64 long,.int .i64 size])=imgV bits order long size from rfl]
  refine vast_c .nil (fun h3 e3 _ => ?_) (fun h3 e3 hv => ?_)
  ·simp (disch:=omega)
   exact knows _ ((e1.trans e2).trans e3)
  by_cases c1:n<1
  ·simp (disch:=omega) [c1]
   exact knows _ ((e1.trans e2).trans e3)
  by_cases c2:n>200
  ·simp (disch:=omega) [c1,c2]
   exact knows _ ((e1.trans e2).trans e3)
  by_cases c3:fr<0
  ·simp (disch:=omega) [c1,c2,c3]
   exact knows _ ((e1.trans e2).trans e3)
  by_cases c4:fr≥n
  ·simp (disch:=omega) [c1,c2,c3,c4]
   exact knows _ ((e1.trans e2).trans e3)
  by_cases c5:lg<1
  ·simp (disch:=omega) [c1,c2,c3,c4,c5]
   exact knows _ ((e1.trans e2).trans e3)
  by_cases c6:lg>n-fr
  ·simp (disch:=omega) [c1,c2,c3,c4,c5,c6]
   exact knows _ ((e1.trans e2).trans e3)
  simp (disch:=omega) [c1,c2,c3,c4,c5,c6]
  exact knows _ ((e1.trans e2).trans e3)
 ·have k2:=(e2.block _ hl1).trans k1
  have d0:=cellOf (i:=0) k2 rfl
  have d1:=cellOf (i:=1) k2 rfl
  have d2:=cellOf (i:=2) k2 rfl
  have d3:=cellOf (i:=3) k2 rfl
  simp (disch:=omega) [d0,d1,d2,d3]
  rw [show (Value.agg #[.int .i64 bits,.int .i64 order,.int .i64 long,.int .i64 size])=imgV bits order long size from rfl]
  refine vast_c .nil (fun h3 e3 _ => ?_) (fun h3 e3 hv => ?_)
  ·simp (disch:=omega)
   exact knows _ ((e1.trans e2).trans e3)
  by_cases c1:n<1
  ·simp (disch:=omega) [c1]
   exact knows _ ((e1.trans e2).trans e3)
  by_cases c2:n>200
  ·simp (disch:=omega) [c1,c2]
   exact knows _ ((e1.trans e2).trans e3)
  by_cases c3:fr<0
  ·simp (disch:=omega) [c1,c2,c3]
   exact knows _ ((e1.trans e2).trans e3)
  by_cases c4:fr≥n
  ·simp (disch:=omega) [c1,c2,c3,c4]
   exact knows _ ((e1.trans e2).trans e3)
  by_cases c5:lg<1
  ·simp (disch:=omega) [c1,c2,c3,c4,c5]
   exact knows _ ((e1.trans e2).trans e3)
  by_cases c6:lg>n-fr
  ·simp (disch:=omega) [c1,c2,c3,c4,c5,c6]
   exact knows _ ((e1.trans e2).trans e3)
  simp (disch:=omega) [c1,c2,c3,c4,c5,c6]
  have hb12:bits≤12:=Int.not_lt.1 fun hh=>hv (.inr (.inl omg))
  clear hv
  obtain ⟨n,rfl⟩:=Int.eq_ofNat_of_zero_le (show 0≤n by omega)
  obtain ⟨fr,rfl⟩:=Int.eq_ofNat_of_zero_le (show 0≤fr by omega)
  obtain ⟨lg,rfl⟩:=Int.eq_ofNat_of_zero_le (show 0≤lg by omega)
  subst hb ho hL
  obtain ⟨g,hg⟩:∃g,layG b o L size=g:=⟨_,rfl⟩
  obtain ⟨x,hx⟩:∃x,layH b o L size=x:=⟨_,rfl⟩
  rw [hg] at kk
  rw [hg,hx] at hd f2
  have gb:g.b=b:=by rw [←hg]; rfl
  obtain ⟨I,La⟩:=laid_img kk hd
  obtain ⟨B,hB⟩:∃B,g.laidB x=B:=⟨_,rfl⟩
  rw [hB] at I La f2
  have hfew:=I.few
  obtain ⟨q,hq,hq1,hq2⟩:=kk.c512
  have hlen:=La.len
  have hne:B≠[]:=fun e=>by
   have:g.c≤g.u*g.c:=Nat.le_mul_of_pos_left _ (by have:=kk.u0; omega)
   rw [e,List.length_nil] at hlen; omega
  obtain ⟨p,hp⟩:∃p:Fs,⟨(mdF B).f,[],3⟩=p:=⟨_,rfl⟩
  have pn:p.f.now=B:=by rw [←hp]; exact mdF_now hfew hne
  have pf:p.fates=[]:=by rw [←hp]
  have ps:p.steps=3:=by rw [←hp]
  rw [hp] at f2
  rw [←pn] at I La
  have hc8:g.c/512≤8:=by
   have:g.c≤2^12:=by unfold Gm.c; exact Nat.pow_le_pow_right omg omg
   omega
  have hn13:n*(5+g.c/512)≤200*13:=Nat.mul_le_mul omg omg
  rw [show str [97]=str nA from rfl]
  refine gOpen_c (a2.ext e3) f2 kk hd I fun h4 r e4 hr ra4 => ?_
  have E4:=((e1.trans e2).trans e3).trans e4
  simp (disch:=omega)
  refine gAlloc_c (nn:=n) ra4 I omg omg omg (fun h5 e5 _ => ?_) (fun h5 s5 p5 e st u5 f5 st1 st2 fr5 fit5 A5 => ?_)
  ·simp (disch:=omega)
   exact knows _ (E4.trans e5)
  obtain ⟨rfl,C5,ps5,T5⟩:=took_of kk ra4.fok I pf st2 fr5 fit5 A5
  have z1:=e1.size
  have z2:=e2.size
  have z3:=e3.size
  have z4:=e4.size
  have z5:=u5.mod.size
  have E5:Ext h h5:=u5.mod.ext_from E4 (fun b hb hs=>by have:=foot2 b hs; omega)
  have foot5:∀c,s5.foot sp c→h1.size≤c:=fun c hc=>(u5.foot c hc).elim (foot2 c) (fun x=>by omega)
  have ra5:=ra4.upd u5 f5
  have k5:=(u5.mod.block _ omg (fun hs=>by have:=foot2 _ hs; omega)).trans ((e4.block _ omg).trans ((e3.block _ omg).trans k2))
  have d5:=cellOf (i:=0) k5 rfl
  have hw:IntKind.i64.wrap (2^b)=((g.c:Nat):Int):=by
   unfold Gm.c
   rw [gb,Int.natCast_pow]
   refine wrap_i64 ?_ ?_
   all_goals have:=clus (b:=b) (by have:=hok.1; omega) omg; rw [Int.toNat_natCast] at this; omega
  clear d0 d1 d2 d3 k1 k2
  obtain ⟨P,hP⟩:∃P,st*g.c=P:=⟨_,rfl⟩
  have hfit:P+n*g.c=(st+n)*g.c:=by rw [←hP,Nat.add_mul]
  rw [if_pos rfl,hP]
  simp (disch:=omega) [d5,Hp_shl,IntKind.bits,hw]
  refine lBytes_c ra5.st ra5.fs fun h6 v6 e6 o6 b6 => ?_
  obtain ⟨B5,hB5⟩:∃B,p5.f.now=B:=⟨_,rfl⟩
  rw [hB5] at o6 T5
  have b6':=o6.g.bytes
  obtain ⟨w6,cp6,rfl⟩:=b6'.form
  have ra6:=ra5.ext e6
  have E6:=E5.trans e6
  have hPpos:¬((P:Nat):Int)≤0:=by
   have:g.c≤st*g.c:=Nat.le_mul_of_pos_left _ st1
   omega
  have hPm:((P:Nat):Int)%((g.c:Nat):Int)=0:=by rw [←Int.natCast_emod,←hP,Nat.mul_mod_left]; rfl
  have hPd:((P:Nat):Int)/((g.c:Nat):Int)=((st:Nat):Int):=by rw [←Int.natCast_ediv,←hP,Nat.mul_div_cancel _ omg]
  obtain ⟨LD,hLD⟩:∃D,B5.length/g.c=D:=⟨_,rfl⟩
  have hLD':((B5.length:Nat):Int)/((g.c:Nat):Int)=((LD:Nat):Int):=by rw [←Int.natCast_ediv,hLD]
  have hLDn:st+n≤LD:=by rw [←hLD,Nat.le_div_iff_mul_le omg]; exact T5.fit
  have hfew5:=T5.img.few
  have hLDb:LD≤B5.length:=by rw [←hLD]; exact Nat.div_le_self _ _
  simp (disch:=omega) [hPpos,hPm]
  refine Pending_c ra6.st fun h7 e7 => ?_
  have hpend:s5.pend=0:=by
   obtain ⟨x,hx1,hx2,-,-⟩:=ra6.fs.get
   unfold St.pend
   rw [hx1,List.map_cons,List.map_nil,hx2,ps5]; rfl
  rw [hpend]
  have hgt:¬((st:Nat):Int)+((n:Nat):Int)>((LD:Nat):Int):=by omega
  simp (disch:=omega) [hPd,hLD',hgt]
  have hroom:st+n≤g.room:=st2
  have hrl:=kk.room_lt
  have hin:∀k,st≤k→k<st+n→k/g.n<g.m:=fun k hk1 hk2=>by
   have:k<g.room:=by omega
   rw [Nat.div_lt_iff_lt_mul (by have:=kk.n64; omega)]; exact this
  have hun:=fun k h1 h2=>T5.unheld kk I fr5 st2 (k:=k) h1 h2
  have ra7:=ra6.ext e7
  have E7:=E6.trans e7
  have e67:=e6.trans e7
  have b7':=b6'.ext e7
  have htold:∀(B:List UInt8) (k:Nat),k<n→g.toldN B (((st:Nat):Int)+((k:Nat):Int))=g.cnt B (st+k):=fun B k hk=>by
   unfold Gm.toldN
   rw [if_pos ⟨by omega,by omega⟩]; congr 1
  refine loopA1 (α:=Nat) (fun k => .int .i64 (k:Nat)) (fun k G=>k≤n∧Ext h7 G) (fun k=>n-k) 0 rfl ⟨Nat.zero_le _,.refl _⟩ ?_
  rintro k G ⟨hk,eG⟩
  by_cases hkn:k<n
  ·have hlt:((k:Nat):Int)<((n:Nat):Int):=by omega
   simp (disch:=omega) [hlt,hPd]
   refine told_c kk hd T5.img (b7'.ext eG) omg fun G2 eG2 => ?_
   rw [htold B5 k hkn,T5.inn _ omg omg]
   simp (disch:=omega)
   exact ⟨k+1,by simp,⟨by omega,eG.trans eG2⟩,by omega⟩
  have hlt:¬((k:Nat):Int)<((n:Nat):Int):=by omega
  obtain ⟨FC,hFC⟩:∃X,fr*g.c=X:=⟨_,rfl⟩
  have hFC':((fr:Nat):Int)*((g.c:Nat):Int)=((FC:Nat):Int):=by rw [←hFC,Int.natCast_mul]
  have hFCb:FC≤n*g.c:=by rw [←hFC]; exact Nat.mul_le_mul_right _ omg
  have hplace:(st+fr)*g.c=P+FC:=by rw [Nat.add_mul,hP,hFC]
  simp (disch:=omega) [hlt,hFC']
  have raG:=ra7.ext eG
  have EG:=E7.trans eG
  have bG:=b7'.ext eG
  have hIG:Img g x p5.f.now:=by rw [hB5]; exact T5.img
  refine gFree_c (st:=st+fr) (nn:=lg) raG hIG omg omg (by rw [hplace]; omega) omg (fun k h1 h2 hh=>absurd (by rw [hB5] at hh; exact hh) (hun k omg omg)) (by have:=C5.stp; have:lg*(5+g.c/512)≤200*13:=Nat.mul_le_mul omg omg; omega) (fun h8 e8 hno => ?_) (fun h8 e8 _ hk => ?_) (fun h8 s8 ks bs Q u8 f8 => ?_)
  ·exfalso
   refine hno fun k hk => ?_
   have:=runL_memI.1 hk
   omega
  ·exfalso
   obtain ⟨k,h1,h2,h3⟩:=hk
   rw [hB5] at h3
   have:=T5.inn k omg omg
   omega
  obtain ⟨z8,C8,G8⟩:=gave_of kk raG.fok hIG C5.nil Q
  have ra8:=raG.upd u8 f8
  rw [z8]
  obtain ⟨p8,hp8⟩:∃p8,(addF g (-1) (cntZ (runL (st+fr) lg)) ks bs p5).1=p8:=⟨_,rfl⟩
  rw [hp8] at G8 C8 f8 ra8
  rw [hB5] at G8
  have zG:=eG.size
  have z6:=e6.size
  have z7:=e7.size
  have E8:Ext h h8:=u8.mod.ext_from EG (fun b hb hs=>by have:=foot5 b hs; omega)
  simp (disch:=omega)
  refine lBytes_c ra8.st ra8.fs fun h9 v9 e9 o9 b9 => ?_
  obtain ⟨B8,hB8⟩:∃B,p8.f.now=B:=⟨_,rfl⟩
  rw [hB8] at o9 G8
  have b9':=o9.g.bytes
  obtain ⟨w9,cp9,rfl⟩:=b9'.form
  have ra9:=ra8.ext e9
  have E9:=E8.trans e9
  have hcnt8:∀k,k<n→g.cnt B8 (st+k)=if fr≤k∧k<fr+lg then 0 else 1:=fun k hk=>by
   have h1:=G8.cnt (st+k) (hin _ omg omg)
   rw [T5.inn _ omg omg] at h1
   by_cases hg:fr≤k∧k<fr+lg
   ·rw [if_pos omg] at h1
    rw [if_pos hg]; omega
   ·rw [if_neg omg] at h1
    rw [if_neg hg]; omega
  refine loopA1 (α:=Nat) (fun k => .int .i64 (k:Nat)) (fun k G=>k≤n∧Ext h9 G) (fun k=>n-k) 0 rfl ⟨Nat.zero_le _,.refl _⟩ ?_
  clear hkn hlt hk
  rintro k G9 ⟨hk,eG9⟩
  by_cases hkn:k<n
  ·have hlt:((k:Nat):Int)<((n:Nat):Int):=by omega
   by_cases hg1:fr≤k
   ·have hg1':((k:Nat):Int)≥((fr:Nat):Int):=by omega
    by_cases hg2:k<fr+lg
    ·have hg2':((k:Nat):Int)<((fr:Nat):Int)+((lg:Nat):Int):=by omega
     simp (disch:=omega) [hlt,hPd,hg1',hg2']
     refine told_c kk hd G8.img (b9'.ext eG9) omg fun G2 eG2 => ?_
     rw [htold B8 k hkn,hcnt8 k hkn,if_pos ⟨hg1,hg2⟩]
     simp (disch:=omega)
     exact ⟨k+1,by simp,⟨by omega,eG9.trans eG2⟩,by omega⟩
    ·have hg2':¬((k:Nat):Int)<((fr:Nat):Int)+((lg:Nat):Int):=by omega
     simp (disch:=omega) [hlt,hPd,hg1',hg2']
     refine told_c kk hd G8.img (b9'.ext eG9) omg fun G2 eG2 => ?_
     rw [htold B8 k hkn,hcnt8 k hkn,if_neg (fun hh=>hg2 hh.2)]
     simp (disch:=omega)
     exact ⟨k+1,by simp,⟨by omega,eG9.trans eG2⟩,by omega⟩
   ·have hg1':¬((k:Nat):Int)≥((fr:Nat):Int):=by omega
    simp (disch:=omega) [hlt,hPd,hg1']
    refine told_c kk hd G8.img (b9'.ext eG9) omg fun G2 eG2 => ?_
    rw [htold B8 k hkn,hcnt8 k hkn,if_neg (fun hh=>hg1 hh.1)]
    simp (disch:=omega)
    exact ⟨k+1,by simp,⟨by omega,eG9.trans eG2⟩,by omega⟩
  have hlt:¬((k:Nat):Int)<((n:Nat):Int):=by omega
  simp (disch:=omega) [hlt]
  have raH:=ra9.ext eG9
  have EH:=E9.trans eG9
  have bH:=b9'.ext eG9
  have hIH:Img g x p8.f.now:=by rw [hB8]; exact G8.img
  have hz0:g.cnt B8 (st+fr)=0:=by rw [hcnt8 fr omg,if_pos ⟨Nat.le_refl _,by omega⟩]
  have hunH:∀k,st≤k→k<st+n→¬g.hold B8 k:=fun k h1 h2 hh=>hun k h1 h2 (hold_same G8.wd hh)
  refine gFree_c (st:=st) (nn:=n) raH hIH omg omg (by rw [hP]) omg (fun k h1 h2 hh=>absurd (by rw [hB8] at hh; exact hh) (hunH k omg omg)) (by have:=C5.stp; have:=C8.stp; have:lg*(5+g.c/512)≤200*13:=Nat.mul_le_mul omg omg; omega) (fun h10 e10 hno => ?_) (fun h10 e10 _ _ => ?_) (fun h10 s10 ks2 bs2 Q2 u10 f10 => ?_)
  ·exfalso
   refine hno fun k hk => ?_
   have:=runL_memI.1 hk
   omega
  ·have raI:=raH.ext e10
   have bI:=bH.ext e10
   have cv1:=fun q K=>Tryz.cv52_9 (q:=q) (K:=K) bI
   simp (disch:=omega) [cv1]
   refine lBytes_c raI.st raI.fs fun h11 v11 e11 o11 f11 => ?_
   rw [hB8] at o11
   have bJ:=bI.ext e11
   have EJ:=(EH.trans e10).trans e11
   have cv2:=fun q K=>Tryz.cv52_9 (q:=q) (K:=K) bJ
   have cv3:=fun q K=>Tryz.cv52_9 (q:=q) (K:=K) o11.g.bytes
   simp (disch:=omega) [cv2,cv3]
   refine rBytes15_c kk hd G8.img bJ (Nat.le_trans (endG_le kk) kk.room_lt.1) fun h12 rv cl he e12 orv => ?_
   have hlk:=leak_ge (fr:=fr) (lg:=lg) kk st2 omg (fun k h1 h2 h3=>by
    have:=hcnt8 (k-st) omg
    rw [show st+(k-st)=k by omega,if_neg (fun hh=>h3 ⟨by omega,by omega⟩)] at this
    exact this) hunH
   obtain ⟨ra,rn,rc,rfl,hrl1,hrl2,-⟩:=orv.form
   rw [fiF_len] at hrl1
   have hrn:rn=(leakF g B8 (g.endG B8)).length:=by omega
   have hge:((rn:Nat):Int)≥((n:Nat):Int)-((lg:Nat):Int):=by omega
   have hK:=knows
   simp (disch:=omega) [hge]
   refine known_c fun h13 e13 => ?_
   simp (disch:=omega)
   refine H _ (((EJ.trans e12).trans ?_).trans e13)
   exact extS
  ·exfalso
   have:=(Q2.ad.fit (st+fr) ((Q2.mem _).2 (runL_mem.2 ⟨by omega,by omega⟩))).1
   rw [hB8,hz0,runL_cnt,if_pos ⟨by omega,by omega⟩] at this
   omega
end Go.Proofs.YtdccfkffabngjaaGreat
namespace Go.Proofs.YtdccfkffabngjaaGreat.refsGive
open Go.ChangeShapes Go.WideShapes Go.ChangeAt Go.RowKit Go.Joins Go.Vc

theorem own:ownKnob Tryz.prog.godebug=none:=by kernel_rfl
theorem laidOut:laidOutB Tryz.prog=true:=by kernel_rfl

set_option maxRecDepth 100000 in
set_option maxHeartbeats 1000000 in
theorem lifted (os:Os) (started:os.Started) (H:Type) (enc:TypeId×Value→H) :
 ReturnsInHanded {} Tryz.checked os 4 .any (Rows.refsGiveSpec.pre6 enc Tryz.prog Tryz.f4 Rows.refsGiveRow.domain false) (Rows.refsGiveSpec.post enc Tryz.prog Tryz.f4 false true false false):=by
 refine returnsInHanded_of_change (C:=Tryz.checked) own started kR Tryz.func4
  (ChangeSpec.witness6 (enc:=enc) (C:=Tryz.checked) false ⟨#[],#[.agg #[.int .i64 0,.int .i64 0,.int .i64 0,.int .i64 0,.int .i64 0,.int .i64 0,.int .i64 0]],[]⟩ 8 kR kR kR kR) ?_
 intro W base args ds gs before hval0 hW hcnd _
 have hval:∀(j:Nat) t v,Tryz.f4.params[j]? = some t→args[j]? = some v→Value.okWide Tryz.prog W .any base t v:=hval0
 have hW':=hW
 obtain ⟨p,q,hA0,hV,rfl,hfz,hnd⟩:=hW
 have hA:DataW.TrodAll enc Tryz.prog W 0 (fun _=>true) true Tryz.f4.params.toList args.toList ds p:=hA0
 rw [Tryz.params4] at hA hval
 obtain ⟨v0,vs0,d0,ds0,p0,q0,hargs,rfl,rfl,h0,r0⟩:=trodAll_cons hA
 obtain ⟨rfl,rfl,rfl⟩:=trodAll_nil r0
 obtain rfl:args = #[v0]:=by cases args; simp_all
 obtain ⟨bits,order,long,size,n,fr,lg,rfl,rb,ro,rl,rs,rn,rf,rg⟩:=open_given (hval 0 58 v0 rfl rfl) h0
 refine ((RefsGive_c (h:=W.heap) rb ro rl rs rn rf rg (K:=fun v h'=>v = .bool true∧Ext W.heap h') (fun h' e=>⟨rfl,e⟩)).out W rfl).mono fun e W' ⟨v,he,hs,hv,hx⟩ => ?_
 exact ⟨v,he,hv▸law_post laidOut kR rfl (tb:=4) kR kR hW' (fun hg=>by rw [hg]; rfl) (below_of hs hx)⟩

theorem proved:Rows.RefsGiveSaid :=
 OpenClaim.holds_of_wide 4 Tryz.f4 rfl rfl rfl rfl rfl rfl rfl ⟨rfl,rfl,rfl,rfl,rfl⟩ rfl rfl rfl rfl rfl kR Tryz.func4 kR
  (of_decide_eq_true kR) (by unfold Func.isWrapper; first|(rw [if_pos (by decide +kernel)]; kernel_rfl)|(rw [if_neg (by decide +kernel)]; exact ⟨rfl,rfl⟩))
  (fun os started H enc _=>lifted os started H enc)
end Go.Proofs.YtdccfkffabngjaaGreat.refsGive

/- Tables: what is read off a list's bytes. Tables: a list is read. Heads: the reference's word on what may be; what is asked of a head. Heads: a head's bytes. Heads: the program's bytes. Clusters,plainly: how an image lies: its words,its blocks,its counts. Clusters,plainly: an image grows; a missing block is made. Clusters,plainly: what a write,a flush,a change of size leave to be read; the changed sectors of a block. Clusters,plainly: a missing block is made,step by step; counts are added to,block by block. Clusters,plainly: blocks are added to,one behind another. Clusters,plainly: all blocks are added to. A text is read as it was written. Tables: the reference's reading of snapshots. Heads: what bytes say. -/
import Derived.Test.YtdccfkffabngjaaGreatGpD
import Derived.Test.YtdccfkffabngjaaGreatGpC
set_option linter.unusedSimpArgs false
set_option linter.unusedVariables false
set_option maxRecDepth 20000
namespace Go.Proofs.YtdccfkffabngjaaGreat
open Go.Vc
variable {K:VP} {h:Heap}

def OwnSn (h:Heap) (v:Value) (xs:List Sn):Prop:=OwnS 4 h v (xs.flatMap Sn.cells)
@[simp] theorem Sn.cells_len (x:Sn):x.cells.length=4:=rfl
def rdN (l:List UInt8):Nat→List Sn×Nat×Bool
 | 0=>([],0,true)
 | i+1=>((rdN l i).1++[(snapV l (rdN l i).2.1 (rdN l i).2.2).1],(snapV l (rdN l i).2.1 (rdN l i).2.2).2)
open Classical in
noncomputable def readR (l:List UInt8) (n b:Int):List Sn×Int :=
 if ¬(9≤b∧b≤16)∨n<0 then ([],2) else if hx:∃ys:List Sn,(ys.length:Int)=n∧putR ys b=(l,0) then (hx.choose,0) else ([],210)
end Go.Proofs.YtdccfkffabngjaaGreat
set_option linter.unusedSimpArgs false
set_option linter.unusedVariables false
namespace Go.Proofs.YtdccfkffabngjaaGreat
open Go.Vc
variable {K:VP} {h:Heap}

end Go.Proofs.YtdccfkffabngjaaGreat
set_option linter.unusedSimpArgs false
set_option linter.unusedVariables false
set_option maxRecDepth 20000
namespace Go.Proofs.YtdccfkffabngjaaGreat
open Go.Vc
variable {K:VP} {h:Heap}

theorem RListB_c {n p l b:Int} {B:Bool} (hB:B=decide (ListOk n p l b)) (h0:9≤b) (h1:b≤16) (H:K (.bool B) h):CallsH Tryz.prog 121 #[.int .i64 n,.int .i64 p,.int .i64 l,.int .i64 b] h K ⟨⟩:=RList_c h0 h1 (hB▸H)
set_option maxHeartbeats 4000000 in
theorem May_c {x:Hd} (hbl:x.back.length<9223372036854775808) (ht:∀h',Ext h h'→MayH x→K (.bool true) h') (hf:∀h',Ext h h'→¬MayH x→K (.bool false) h'):CallsH Tryz.prog 73 #[x.val] h K ⟨⟩:=by
 refine n73_calls ?_
 unfold n73; try delta vF vG vC vD vJ vV vk vt
 rw [boxH]
 have hA:=HdAt.new (h:=h) x
 have e1:Ext h (h.push (.cells x.cells.toArray 84)):=extS
 generalize h.push (.cells x.cells.toArray 84)=g at *
 obtain ⟨b0,b1,b2,b3,b4,b5,b6,b7,b8,b9,b10,b11,b12,b13,b14⟩:=id hA
 have E2:=e1
 by_cases c1:x.bits<9
 ·skip
  simp (disch:=omega) [b0,b1,b2,b3,b4,b5,b6,b7,b8,b9,b10,b11,b12,b13,b14,c1]
  exact hf _ E2 (fun m=>by have:=m.1.1; omega)
 by_cases c2:16<x.bits
 ·skip
  simp (disch:=omega) [b0,b1,b2,b3,b4,b5,b6,b7,b8,b9,b10,b11,b12,b13,b14,c1,c2]
  exact hf _ E2 (fun m=>by have:=m.1.2.1; omega)
 by_cases c3:1<x.flags
 ·skip
  simp (disch:=omega) [b0,b1,b2,b3,b4,b5,b6,b7,b8,b9,b10,b11,b12,b13,b14,c1,c2,c3]
  exact hf _ E2 (fun m=>by have:=m.1.2.2.1; omega)
 by_cases c4:x.size<0
 ·skip
  simp (disch:=omega) [b0,b1,b2,b3,b4,b5,b6,b7,b8,b9,b10,b11,b12,b13,b14,c1,c2,c3,c4]
  exact hf _ E2 (fun m=>by have:=m.1.2.2.2.1; omega)
 by_cases c5:67108864<x.size
 ·skip
  simp (disch:=omega) [b0,b1,b2,b3,b4,b5,b6,b7,b8,b9,b10,b11,b12,b13,b14,c1,c2,c3,c4,c5]
  exact hf _ E2 (fun m=>by have:=m.1.2.2.2.2.1; omega)
 by_cases c6:x.size%512=0
 case neg =>
  simp (disch:=omega) [b0,b1,b2,b3,b4,b5,b6,b7,b8,b9,b10,b11,b12,b13,b14,c1,c2,c3,c4,c5,c6]
  exact hf _ E2 (fun m=>c6 m.1.2.2.2.2.2)
 have hMA:MayA x:=⟨by omega,by omega,by omega,by omega,by omega,c6⟩
 have h0:9≤x.bits:=by omega
 have h1:x.bits≤16:=by omega
 by_cases l0:x.l1len<0
 ·skip
  simp (disch:=omega) [b0,b1,b2,b3,b4,b5,b6,b7,b8,b9,b10,b11,b12,b13,b14,c1,c2,c3,c4,c5,c6,l0]
  exact hf _ E2 (fun m=>by have:=m.2.1.1; omega)
 by_cases l2:1048576<x.l1len
 ·skip
  simp (disch:=omega) [b0,b1,b2,b3,b4,b5,b6,b7,b8,b9,b10,b11,b12,b13,b14,c1,c2,c3,c4,c5,c6,l0,l2]
  exact hf _ E2 (fun m=>by have:=m.2.1.2.1; omega)
 simp (disch:=omega) [b0,b1,b2,b3,b4,b5,b6,b7,b8,b9,b10,b11,b12,b13,b14,c6,loadH hA]
 refine RTables_c h0 h1 omg omg fun h2 e2 => ?_
 replace hA:=hA.ext e2
 replace E2:=e1.trans e2
 clear b0 b1 b2 b3 b4 b5 b6 b7 b8 b9 b10 b11 b12 b13 b14
 obtain ⟨b0,b1,b2,b3,b4,b5,b6,b7,b8,b9,b10,b11,b12,b13,b14⟩:=id hA
 by_cases lt:x.l1len<x.tables
 ·skip
  simp (disch:=omega) [b0,b1,b2,b3,b4,b5,b6,b7,b8,b9,b10,b11,b12,b13,b14,lt]
  exact hf _ E2 (fun m=>by have:=m.2.1.2.2; omega)
 by_cases o0:x.order<0
 ·skip
  simp (disch:=omega) [b0,b1,b2,b3,b4,b5,b6,b7,b8,b9,b10,b11,b12,b13,b14,lt,o0]
  exact hf _ E2 (fun m=>by have:=m.2.2.2.1.1; omega)
 by_cases o6:6<x.order
 ·skip
  simp (disch:=omega) [b0,b1,b2,b3,b4,b5,b6,b7,b8,b9,b10,b11,b12,b13,b14,lt,o0,o6]
  exact hf _ E2 (fun m=>by have:=m.2.2.2.1.2; omega)
 by_cases k0:x.clen<1
 ·skip
  simp (disch:=omega) [b0,b1,b2,b3,b4,b5,b6,b7,b8,b9,b10,b11,b12,b13,b14,lt,o0,o6,k0]
  exact hf _ E2 (fun m=>by have:=m.2.2.2.2.1.2.1; omega)
 by_cases k6:65536<x.clen
 ·skip
  simp (disch:=omega) [b0,b1,b2,b3,b4,b5,b6,b7,b8,b9,b10,b11,b12,b13,b14,lt,o0,o6,k0,k6]
  exact hf _ E2 (fun m=>by have:=m.2.2.2.2.1.2.2; omega)
 by_cases lz:x.l1len=0
 ·by_cases l1z:x.l1=0
  ·skip
   simp (disch:=omega) [b0,b1,b2,b3,b4,b5,b6,b7,b8,b9,b10,b11,b12,b13,b14,lt,o0,o6,k0,k6,lz,l1z]
   refine Place_c h0 h1 (fun pc => ?_) (fun pc => ?_)
   ·have pc:PlaceOk x.counts x.bits:=pc
    simp (disch:=omega) [b0,b1,b2,b3,b4,b5,b6,b7,b8,b9,b10,b11,b12,b13,b14]
    obtain ⟨B1,hB1⟩:∃B,B=decide (ListOk x.snaps x.sat x.slen x.bits):=⟨_,rfl⟩
    obtain ⟨B2,hB2⟩:∃B,B=decide (ListOk x.maps x.mat x.mlen x.bits):=⟨_,rfl⟩
    refine RListB_c hB1 h0 h1 ?_
    simp (disch:=omega) [b0,b1,b2,b3,b4,b5,b6,b7,b8,b9,b10,b11,b12,b13,b14]
    refine RListB_c hB2 h0 h1 ?_
    refine loopA1 (fun k:Nat => .int .i64 k) (fun k h'=>h'=h2∧k≤x.back.length∧∀j (hj:j<x.back.length),j<k→x.back[j]≠0) (fun k=>x.back.length-k) 0 rfl ⟨rfl,by omega,fun j _ hj=>by omega⟩ ?_
    rintro k h' ⟨rfl,hk,hno⟩
    by_cases hkn:k=x.back.length
    ·have hz0:(0:UInt8)∉x.back:=fun hm=>by
      obtain ⟨j,hj,he⟩:=List.mem_iff_getElem.1 hm
      exact hno j hj omg he
     cases B1
     case false =>
      simp (disch:=omega) [b0,b1,b2,b3,b4,b5,b6,b7,b8,b9,b10,b11,b12,b13,b14,hkn]
      exact hf _ E2 (fun m=>of_decide_eq_false hB1.symm m.2.2.2.2.2.1)
     case true =>
      have ls1:=of_decide_eq_true hB1.symm
      cases B2
      case false =>
       simp (disch:=omega) [b0,b1,b2,b3,b4,b5,b6,b7,b8,b9,b10,b11,b12,b13,b14,hkn]
       exact hf _ E2 (fun m=>of_decide_eq_false hB2.symm m.2.2.2.2.2.2.1)
      case true =>
       have ls2:=of_decide_eq_true hB2.symm
       by_cases bl:x.back.length≤64
       ·simp (disch:=omega) [b14,hkn]
        exact ht _ E2 ⟨hMA,⟨by omega,by omega,by omega⟩,by first|exact .inl ⟨by omega,by omega⟩|exact .inr ⟨by omega,pl⟩,⟨by omega,by omega⟩,⟨pc,by omega,by omega⟩,ls1,ls2,bl,hz0⟩
       ·skip
        simp (disch:=omega) [b0,b1,b2,b3,b4,b5,b6,b7,b8,b9,b10,b11,b12,b13,b14,hkn,bl]
        exact hf _ E2 (fun m=>bl m.2.2.2.2.2.2.2.1)
    ·have hkl:k<x.back.length:=by omega
     by_cases hz:x.back[k]=0
     ·have hz':((x.back[k]).toNat:Int)=0:=by rw [hz]; rfl
      simp (disch:=omega) [b0,b1,b2,b3,b4,b5,b6,b7,b8,b9,b10,b11,b12,b13,b14,hkl,hz',hz]
      exact hf _ E2 (fun m=>m.2.2.2.2.2.2.2.2 (hz▸List.getElem_mem hkl))
     ·have hz':¬((x.back[k]).toNat:Int)=0:=fun e=>hz (UInt8.toNat_inj.1 (by simpa using e))
      simp (disch:=omega) [b14,hkl,hz',hz]
      refine ⟨k+1,by simp,⟨by omega,fun j hj hjk => ?_⟩,by omega⟩
      by_cases e:j=k
      ·subst e; exact hz
      ·exact hno j hj omg
   ·have pc:¬PlaceOk x.counts x.bits:=pc
    simp (disch:=omega) [b0,b1,b2,b3,b4,b5,b6,b7,b8,b9,b10,b11,b12,b13,b14]
    exact hf _ E2 (fun m=>pc m.2.2.2.2.1.1)
  ·skip
   simp (disch:=omega) [b0,b1,b2,b3,b4,b5,b6,b7,b8,b9,b10,b11,b12,b13,b14,lt,o0,o6,k0,k6,lz,l1z]
   exact hf _ E2 (fun m=>by have:=m.2.2.1; omega)
 ·simp (disch:=omega) [b0,b1,b2,b3,b4,b5,b6,b7,b8,b9,b10,b11,b12,b13,b14,lt,o0,o6,k0,k6,lz]
  refine Place_c h0 h1 (fun pl => ?_) (fun pl => ?_)
  ·have pl:PlaceOk x.l1 x.bits:=pl
   simp (disch:=omega) [b0,b1,b2,b3,b4,b5,b6,b7,b8,b9,b10,b11,b12,b13,b14,lz]
   refine Place_c h0 h1 (fun pc => ?_) (fun pc => ?_)
   ·have pc:PlaceOk x.counts x.bits:=pc
    simp (disch:=omega) [b0,b1,b2,b3,b4,b5,b6,b7,b8,b9,b10,b11,b12,b13,b14]
    obtain ⟨B1,hB1⟩:∃B,B=decide (ListOk x.snaps x.sat x.slen x.bits):=⟨_,rfl⟩
    obtain ⟨B2,hB2⟩:∃B,B=decide (ListOk x.maps x.mat x.mlen x.bits):=⟨_,rfl⟩
    refine RListB_c hB1 h0 h1 ?_
    simp (disch:=omega) [b0,b1,b2,b3,b4,b5,b6,b7,b8,b9,b10,b11,b12,b13,b14]
    refine RListB_c hB2 h0 h1 ?_
    refine loopA1 (fun k:Nat => .int .i64 k) (fun k h'=>h'=h2∧k≤x.back.length∧∀j (hj:j<x.back.length),j<k→x.back[j]≠0) (fun k=>x.back.length-k) 0 rfl ⟨rfl,by omega,fun j _ hj=>by omega⟩ ?_
    rintro k h' ⟨rfl,hk,hno⟩
    by_cases hkn:k=x.back.length
    ·have hz0:(0:UInt8)∉x.back:=fun hm=>by
      obtain ⟨j,hj,he⟩:=List.mem_iff_getElem.1 hm
      exact hno j hj omg he
     cases B1
     case false =>
      simp (disch:=omega) [b0,b1,b2,b3,b4,b5,b6,b7,b8,b9,b10,b11,b12,b13,b14,hkn]
      exact hf _ E2 (fun m=>of_decide_eq_false hB1.symm m.2.2.2.2.2.1)
     case true =>
      have ls1:=of_decide_eq_true hB1.symm
      cases B2
      case false =>
       simp (disch:=omega) [b0,b1,b2,b3,b4,b5,b6,b7,b8,b9,b10,b11,b12,b13,b14,hkn]
       exact hf _ E2 (fun m=>of_decide_eq_false hB2.symm m.2.2.2.2.2.2.1)
      case true =>
       have ls2:=of_decide_eq_true hB2.symm
       by_cases bl:x.back.length≤64
       ·simp (disch:=omega) [b14,hkn]
        exact ht _ E2 ⟨hMA,⟨by omega,by omega,by omega⟩,by first|exact .inl ⟨by omega,by omega⟩|exact .inr ⟨by omega,pl⟩,⟨by omega,by omega⟩,⟨pc,by omega,by omega⟩,ls1,ls2,bl,hz0⟩
       ·skip
        simp (disch:=omega) [b0,b1,b2,b3,b4,b5,b6,b7,b8,b9,b10,b11,b12,b13,b14,hkn,bl]
        exact hf _ E2 (fun m=>bl m.2.2.2.2.2.2.2.1)
    ·have hkl:k<x.back.length:=by omega
     by_cases hz:x.back[k]=0
     ·have hz':((x.back[k]).toNat:Int)=0:=by rw [hz]; rfl
      simp (disch:=omega) [b0,b1,b2,b3,b4,b5,b6,b7,b8,b9,b10,b11,b12,b13,b14,hkl,hz',hz]
      exact hf _ E2 (fun m=>m.2.2.2.2.2.2.2.2 (hz▸List.getElem_mem hkl))
     ·have hz':¬((x.back[k]).toNat:Int)=0:=fun e=>hz (UInt8.toNat_inj.1 (by simpa using e))
      simp (disch:=omega) [b14,hkl,hz',hz]
      refine ⟨k+1,by simp,⟨by omega,fun j hj hjk => ?_⟩,by omega⟩
      by_cases e:j=k
      ·subst e; exact hz
      ·exact hno j hj omg
   ·have pc:¬PlaceOk x.counts x.bits:=pc
    simp (disch:=omega) [b0,b1,b2,b3,b4,b5,b6,b7,b8,b9,b10,b11,b12,b13,b14]
    exact hf _ E2 (fun m=>pc m.2.2.2.2.1.1)
  ·have pl:¬PlaceOk x.l1 x.bits:=pl
   simp (disch:=omega) [b0,b1,b2,b3,b4,b5,b6,b7,b8,b9,b10,b11,b12,b13,b14,lz]
   exact hf _ E2 (fun m=>m.2.2.1.elim (fun e=>lz e.1) (fun e=>pl e.2))

theorem hdAsked_c {x:Hd} {f:Value} {r:Int} (hv:MayH x→∀h',Ext h h'→(∀g,Ext h' g→K (.int .i64 r) g)→InvokeH Tryz.prog f #[.int .i64 (2^x.bits.toNat)] h' K ⟨⟩) (ht:∀h',Ext h h'→MayH x→K (.int .i64 r) h') (hf:∀h',Ext h h'→¬MayH x→K (.int .i64 0) h') :
 CallsH Tryz.prog 89 #[x.val,f] h K ⟨⟩:=by
 refine n89_calls ?_
 unfold n89; try delta vF vG vC vD vJ vV vk vt
 rw [boxH]
 have hA:=HdAt.new (h:=h) x
 have e1:Ext h (h.push (.cells x.cells.toArray 84)):=extS
 generalize h.push (.cells x.cells.toArray 84)=g at *
 rw [loadH hA]
 refine Check_c (fun h2 e2 hM => ?_) (fun h2 e2 hM => ?_)
 ·have hA2:=hA.ext e2
  obtain ⟨h0,h1,-⟩:=hM.1
  have hc:=clus h0 h1
  have hw:IntKind.i64.wrap (2^x.bits.toNat)=2^x.bits.toNat:=wrap_i64 omg omg
  simp (disch:=omega) [hA2.1,Hp_shl,IntKind.bits,hw]
  exact hv hM _ (e1.trans e2) (fun g' e=>ht _ ((e1.trans e2).trans e) hM)
 ·simp (disch:=omega)
  exact hf _ (e1.trans e2) hM
theorem ClusterH_c {x:Hd} (ht:∀h',Ext h h'→MayH x→K (.int .i64 (2^x.bits.toNat)) h') (hf:∀h',Ext h h'→¬MayH x→K (.int .i64 0) h'):CallsH Tryz.prog 35 #[x.val] h K ⟨⟩:=by
 refine n35_calls ?_
 unfold n35; try delta vF vG vC vD vJ vV vk vt
 rw [boxH]
 have hA:=HdAt.new (h:=h) x
 have e1:Ext h (h.push (.cells x.cells.toArray 84)):=extS
 generalize h.push (.cells x.cells.toArray 84)=g at *
 rw [loadH hA]
 try simp (disch:=omega)
 refine hdAsked_c (r:=2^x.bits.toNat) (fun hM h2 e2 H => ?_) (fun h2 e2 hM=>ht _ (e1.trans e2) hM) (fun h2 e2 hM=>hf _ (e1.trans e2) hM)
 have hA2:=hA.ext e2
 obtain ⟨h0,h1,-,s0,s1,-⟩:=hM.1
 have hc:=clus h0 h1
 refine InvokeH_f1 kR ?_
 refine n90_calls ?_
 unfold n90; try delta vF vG vC vD vJ vV vk vt
 exact H _ (.refl _)
end Go.Proofs.YtdccfkffabngjaaGreat
set_option linter.unusedSimpArgs false
set_option linter.unusedVariables false
set_option maxRecDepth 20000
namespace Go.Proofs.YtdccfkffabngjaaGreat
open Go.Vc
variable {K:VP} {h:Heap}

theorem MayH.bd {x:Hd} (m:MayH x):(0≤x.bits∧x.bits≤16∧x.flags≤1∧0≤x.size∧x.size≤268435456∧0≤x.l1∧x.l1≤268435456∧0≤x.l1len∧x.l1len≤268435456∧0≤x.order∧x.order≤6) ∧
 (0≤x.counts∧x.counts≤268435456∧0≤x.clen∧x.clen≤65536)∧(0≤x.snaps∧x.snaps≤64∧0≤x.sat∧x.sat≤268435456∧0≤x.slen∧x.slen≤65536)∧(0≤x.maps∧x.maps≤64∧0≤x.mat∧x.mat≤268435456∧0≤x.mlen∧x.mlen≤65536)∧x.back.length≤64:=by
 obtain ⟨⟨h0,h1,f1,s0,s1,s2⟩,⟨l0,l1,l2⟩,hl1,⟨o0,o1⟩,⟨⟨p0,p1,-⟩,c0,c1⟩,ls,lm,bl,-⟩:=m
 have e1:0≤x.l1∧x.l1≤268435456:=by rcases hl1 with h|⟨-,h⟩; omega; exact ⟨by have:=h.1; omega,h.2.1⟩
 have e2:0≤x.snaps∧x.snaps≤64∧0≤x.sat∧x.sat≤268435456∧0≤x.slen∧x.slen≤65536:=by rcases ls with h|⟨h1,h2,h3,h4,h5⟩; omega; have:=h3.1; have:=h3.2.1; omega
 have e3:0≤x.maps∧x.maps≤64∧0≤x.mat∧x.mat≤268435456∧0≤x.mlen∧x.mlen≤65536:=by rcases lm with h|⟨h1,h2,h3,h4,h5⟩; omega; have:=h3.1; have:=h3.2.1; omega
 exact ⟨by omega,by omega,e2,e3,bl⟩

def hdF (x:Hd):List (Nat×Nat):=[(4,x.bits.toNat),(8,x.flags),(8,x.size.toNat),(8,x.l1.toNat),(4,x.l1len.toNat),(4,x.order.toNat),(8,x.counts.toNat),(4,x.clen.toNat),(4,x.snaps.toNat),(8,x.sat.toNat),(4,x.slen.toNat),(4,x.maps.toNat),(8,x.mat.toNat),(4,x.mlen.toNat)]
def hdAt:List Nat:=[4,8,16,24,32,36,40,48,52,56,64,68,72,80]
def hdP (x:Hd) (j:Nat):List UInt8:=[80,65,76,49]++((hdF x).take j).flatMap fun p=>leB p.1 p.2
def hdB (x:Hd):List UInt8:=hdP x 14++(fieldB 64 x.back++List.replicate 360 0)
theorem hdP_succ {x:Hd} {j:Nat} (hj:j<(hdF x).length):hdP x (j+1)=hdP x j++leB (hdF x)[j].1 (hdF x)[j].2:=by
 unfold hdP
 rw [List.take_succ_eq_append_getElem hj,List.flatMap_append]
 simp
theorem hdP_len {x:Hd} {j:Nat} (hj:j<14):(hdP x j).length=hdAt[j]'hj:=by
 have:j=0∨j=1∨j=2∨j=3∨j=4∨j=5∨j=6∨j=7∨j=8∨j=9∨j=10∨j=11∨j=12∨j=13:=by omega
 rcases this with rfl|rfl|rfl|rfl|rfl|rfl|rfl|rfl|rfl|rfl|rfl|rfl|rfl|rfl<;>simp [hdP,hdF,hdAt]
theorem hdP_14 {x:Hd}:(hdP x 14).length=84:=by simp [hdP,hdF]
theorem hdF_ok {x:Hd} (m:MayH x):∀j (hj:j<14),((hdF x)[j]'hj).1+(hdAt[j]'hj)≤84∧(((hdF x)[j]'hj).1=4∨((hdF x)[j]'hj).1=8)∧((hdF x)[j]'hj).2≤268435456:=by
 intro j hj
 have b:=m.bd
 have:j=0∨j=1∨j=2∨j=3∨j=4∨j=5∨j=6∨j=7∨j=8∨j=9∨j=10∨j=11∨j=12∨j=13:=by omega
 rcases this with rfl|rfl|rfl|rfl|rfl|rfl|rfl|rfl|rfl|rfl|rfl|rfl|rfl|rfl<;>(simp [hdF,hdAt]; omega)
theorem over_zeros {A M:List UInt8} {n m:Nat} (hM:M.length=n):over (A++List.replicate (n+m) (0:UInt8)) A.length M=(A++M)++List.replicate m 0:=by
 unfold over
 rw [List.take_left,hM,List.drop_append]
 simp
theorem hdB_len {x:Hd} (m:MayH x):(hdB x).length=512:=by
 have:=m.bd.2.2.2.2
 unfold hdB
 simp only [List.length_append,List.length_replicate,hdP_14,fieldB_length this]

theorem fields_c {x:Hd} (m:MayH x) (H:∀B h',Ext h h'→(∀j (hj:j<14),hcell h' (elt ⟨B,0,none⟩ (j*3))=some (.int .i64 (hdAt[j]'hj:Nat))∧hcell h' (elt ⟨B,0,none⟩ (j*3+1))=some (.int .i64 ((hdF x)[j]'hj).1)∧hcell h' (elt ⟨B,0,none⟩ (j*3+2))=some (.int .u64 ((hdF x)[j]'hj).2)) →
 h.size≤B→B<h'.size→K (.slice (some ⟨B,0,none⟩) 14 14) h'):CallsH Tryz.prog 129 #[x.val] h K ⟨⟩:=by
 have b:=m.bd
 refine n129_calls ?_
 unfold n129; try delta vF vG vC vD vJ vV vk vt
 rw [boxH]
 have hA:=HdAt.new (h:=h) x
 have e1:Ext h (h.push (.cells x.cells.toArray 84)):=extS
 generalize h.push (.cells x.cells.toArray 84)=g at *
 obtain ⟨b0,b1,b2,b3,b4,b5,b6,b7,b8,b9,b10,b11,b12,b13,b14⟩:=hA
 simp (disch:=omega) [b0,b1,b2,b3,b4,b5,b6,b7,b8,b9,b10,b11,b12,b13,b14]
 have ez:=e1.size
 refine H g.size _ (e1.trans extS) (fun j hj => ?_) omg sM
 simp only [elt_mk]
 have:j=0∨j=1∨j=2∨j=3∨j=4∨j=5∨j=6∨j=7∨j=8∨j=9∨j=10∨j=11∨j=12∨j=13:=by omega
 rcases this with rfl|rfl|rfl|rfl|rfl|rfl|rfl|rfl|rfl|rfl|rfl|rfl|rfl|rfl<;>(refine ⟨?_,?_,?_⟩<;>(simp [hdF,hdAt]<;>omega))
end Go.Proofs.YtdccfkffabngjaaGreat
set_option linter.unusedSimpArgs false
set_option linter.unusedVariables false
set_option maxRecDepth 20000
namespace Go.Proofs.YtdccfkffabngjaaGreat
open Go.Vc
variable {K:VP} {h:Heap}

theorem Hp_copyS {P:Program} {t t2 n c k B:Nat} {L m:List UInt8} (ht:slS P t 1=true) (hO:OwnS 1 h (.slice (some ⟨B,0,none⟩) n c) (L.map byteV)) (hk:k≤L.length)
 (H:∀h',OwnS 1 h' (.slice (some ⟨B,0,none⟩) n c) ((over L 0 (m.take k)).map byteV)→Mod (· = B) h h'→K (.int .i64 (min m.length k:Nat)) h') :
 Hp P false (Builtin.copy_ #[t,t2] 3 #[.slice (some ⟨B,0,none⟩) k c,str m]) K h ⟨⟩:=by
 have hs:=hO.seg
 simp only [List.length_map,Nat.mul_one] at hs
 refine Hp_copy ht (Src.str (l:=m)) (one_bytes m) (fun i hi => ?_) (fun i hi=>hO.free omg) ?_
 ·rw [hs.2.2 i (by simp; omega)]; rfl
 ·have:=hO.write (k:=0) (new:=(m.map byteV).take k) (by simp; omega)
  rw [←List.map_take,←over_map] at this
  rw [←List.map_take]
  exact H _ this (Mod.write ⟨B,0,none⟩ _ _ _)

theorem own0 (n:Nat):OwnS 1 (h.push (.cells (Array.replicate n (Value.int .u8 0)) 5)) (.slice (some ⟨h.size,0,none⟩) n n) ((List.replicate n (0:UInt8)).map byteV):=by
 have hO:OwnS 1 (h.push (.cells ((List.replicate n (0:UInt8)).map byteV).toArray 5)) (.slice (some ⟨h.size,0,none⟩) n n) ((List.replicate n (0:UInt8)).map byteV):=OwnS_new rfl sM
 have hz:((List.replicate n (0:UInt8)).map byteV).toArray=Array.replicate n (Value.int .u8 0):=by simp [byteV]
 rw [hz] at hO
 exact hO
theorem cell_mod {S:Nat→Prop} {h':Heap} {a:Addr} {v:Value} (c:hcell h a=some v) (m:Mod S h h') (hS:¬S a.block):hcell h' a=some v:=by
 rw [m.cell (hcell_lt c) hS]; exact c

set_option maxHeartbeats 4000000 in
theorem HBytes_c {x:Hd} (ht:∀v h',Ext h h'→OwnS 1 h' v ((hdB x).map byteV)→(∀b,blkV v=some b→h.size≤b)→MayH x→K (.tuple #[v,.int .i64 0]) h') (hf:∀h',Ext h h'→¬MayH x→K (.tuple #[.slice none 0 0,.int .i64 2]) h') :
 CallsH Tryz.prog 87 #[x.val] h K ⟨⟩:=by
 refine n87_calls ?_
 unfold n87; try delta vF vG vC vD vJ vV vk vt
 rw [boxH]
 have hA:=HdAt.new (h:=h) x
 have e1:Ext h (h.push (.cells x.cells.toArray 84)):=extS
 have z1:h.size<(h.push (.cells x.cells.toArray 84)).size:=by simp
 generalize h.push (.cells x.cells.toArray 84)=g at *
 rw [loadH hA]
 refine Check_c (fun h2 e2 hM => ?_) (fun h2 e2 hM => ?_)
 case refine_2 =>
  simp (disch:=omega)
  exact hf _ (e1.trans e2) hM
 have hA2:=hA.ext e2
 have E2:=e1.trans e2
 have zz2:=e2.size
 simp (disch:=omega)
 have hO:=own0 (h:=h2) 512
 have hA3:HdAt (h2.push (.cells (Array.replicate 512 (Value.int .u8 0)) 5)) h.size x:=hA2.ext extS
 have e3:Ext h2 (h2.push (.cells (Array.replicate 512 (Value.int .u8 0)) 5)):=extS
 have z3:(h2.push (.cells (Array.replicate 512 (Value.int .u8 0)) 5)).size=h2.size+1:=by simp
 generalize h2.push (.cells (Array.replicate 512 (Value.int .u8 0)) 5)=g3 at *
 refine Hp_copyS kR hO (Nat.le_of_eq (List.length_replicate ..).symm) fun h4 hO4 m4 => ?_
 have hA4:HdAt h4 h.size x:=by
  obtain ⟨b0,b1,b2,b3,b4,b5,b6,b7,b8,b9,b10,b11,b12,b13,b14⟩:=hA3
  have ne:¬h.size=h2.size:=by omega
  exact ⟨cell_mod b0 m4 ne,cell_mod b1 m4 ne,cell_mod b2 m4 ne,cell_mod b3 m4 ne,cell_mod b4 m4 ne,cell_mod b5 m4 ne,cell_mod b6 m4 ne,cell_mod b7 m4 ne,cell_mod b8 m4 ne,cell_mod b9 m4 ne,cell_mod b10 m4 ne,cell_mod b11 m4 ne,cell_mod b12 m4 ne,cell_mod b13 m4 ne,cell_mod b14 m4 ne⟩
 have E4:Ext h h4:=m4.ext_from (E2.trans e3) (fun b hb e=>by omega)
 have hL0:over (List.replicate 512 (0:UInt8)) 0 (List.take 512 [80,65,76,49])=hdP x 0++List.replicate (512-(hdP x 0).length) 0:=by
  show over ([]++List.replicate (4+508) (0:UInt8)) ([]:List UInt8).length [80,65,76,49]=_
  rw [over_zeros (A:=[]) (M:=[80,65,76,49]) (n:=4) (m:=508) rfl]
  rfl
 rw [hL0] at hO4
 have z4:=m4.size
 rw [loadH hA4]
 refine fields_c hM fun B h5 e5 hF hB1 hB2 => ?_
 have E5:=E4.trans e5
 have hO5:=hO4.ext e5
 have hA5:=hA4.ext e5
 simp (disch:=omega)
 refine loopA1 (fun j:Nat => .int .i64 j) (fun j h'=>j≤14∧Mod (· = h2.size) h5 h'∧OwnS 1 h' (.slice (some ⟨h2.size,0,none⟩) 512 512) ((hdP x j++List.replicate (512-(hdP x j).length) 0).map byteV)) (fun j=>14-j) 0 rfl ⟨by omega,Mod.refl _ _,hO5⟩ ?_
 rintro j h6 ⟨hj,m6,hO6⟩
 by_cases hj14:j=14
 ·subst hj14
  have b14:=cell_mod hA5.2.2.2.2.2.2.2.2.2.2.2.2.2.2 m6 (by show ¬h.size=h2.size; omega)
  simp (disch:=omega) [b14]
  have hbl:=hM.bd.2.2.2.2
  have hlen:(hdP x 14++List.replicate (512-(hdP x 14).length) (0:UInt8)).length=512:=by rw [List.length_append,List.length_replicate,hdP_14]
  have hE:setTextE (512:Nat) 84 64 x.back=0:=by
   have hF0:fieldE (512:Nat) 84 64=0:=by unfold fieldE; rw [if_neg omg,if_pos omg]
   unfold setTextE
   rw [if_neg (by rw [hF0]; simp),if_neg omg]
  refine SetTextO_c hO6 omg omg (fun e=>absurd hE e) (fun h7 _ hO7 m7 _ _ => ?_)
  try simp (disch:=omega)
  have hB:over (hdP x 14++List.replicate (512-(hdP x 14).length) (0:UInt8)) (84:Int).toNat (fieldB (64:Int).toNat x.back)=hdB x:=by
   have:=over_zeros (A:=hdP x 14) (M:=fieldB 64 x.back) (n:=68) (m:=360) (by rw [fieldB_length hbl])
   rw [hdP_14] at this ⊢
   unfold hdB
   rw [←List.append_assoc]
   exact this
  rw [hB] at hO7
  exact ht _ _ ((m6.trans m7 (fun b _ e=>e)).ext_from E5 (fun b hb e=>by omega)) hO7 (fun b hb=>by simp [blkV] at hb; omega) hM
 ·have hj':j<14:=by omega
  obtain ⟨c0,c1,c2⟩:=hF j hj'
  have c0:=cell_mod c0 m6 (by simp; omega)
  have c1:=cell_mod c1 m6 (by simp; omega)
  have c2:=cell_mod c2 m6 (by simp; omega)
  simp (disch:=omega) [c0,c1,c2]
  have hok:=hdF_ok hM j hj'
  have hlen:(hdP x j++List.replicate (512-(hdP x j).length) (0:UInt8)).length=512:=by rw [List.length_append,List.length_replicate,hdP_len hj']; omega
  have hs:=hdP_succ (x:=x) (j:=j) hj'
  have hpl:=hdP_len (x:=x) hj'
  generalize (hdF x)[j]=F at *
  obtain ⟨n,v⟩:=F
  generalize hdAt[j]=p at *
  dsimp only at hok hs ⊢
  have eS:Ext h6 (hset (hset (hset (Array.push h6 (Obj.cells #[Value.int IntKind.i64 0,Value.int IntKind.i64 0,Value.int IntKind.u64 0] 200)) { block:=Array.size h6,off:=0 } (Value.int IntKind.i64 p)) { block:=Array.size h6,off:=1 } (Value.int IntKind.i64 n)) { block:=Array.size h6,off:=2 } (Value.int IntKind.u64 v)):=extS
  generalize hset (hset (hset (Array.push h6 (Obj.cells #[Value.int IntKind.i64 0,Value.int IntKind.i64 0,Value.int IntKind.u64 0] 200)) { block:=Array.size h6,off:=0 } (Value.int IntKind.i64 p)) { block:=Array.size h6,off:=1 } (Value.int IntKind.i64 n)) { block:=Array.size h6,off:=2 } (Value.int IntKind.u64 v)=g6 at *
  have hpw:v<256^n:=by
   rcases hok.2.1 with e|e
   ·rw [e,show (256:Nat)^4=4294967296 by decide]; omega
   ·rw [e,show (256:Nat)^8=18446744073709551616 by decide]; omega
  have hE:setE (512:Nat) p n v=0:=by
   unfold setE
   rw [if_neg omg,if_pos omg,Int.toNat_natCast,if_neg omg]
  refine SetO_c (hO6.ext eS) omg omg omg (fun e=>absurd hE e) (fun h7 _ hO7 m7 _ => ?_)
  simp (disch:=omega)
  refine ⟨j+1,by simp,⟨by omega,(m6.trans (Mod.of_ext eS) (fun b _ e=>e)).trans m7 (fun b _ e=>e),?_⟩,by omega⟩
  have hB:over (hdP x j++List.replicate (512-(hdP x j).length) (0:UInt8)) (p:Int).toNat (leB (n:Int).toNat v)=hdP x (j+1)++List.replicate (512-(hdP x (j+1)).length) 0:=by
   have:=over_zeros (A:=hdP x j) (M:=leB n v) (n:=n) (m:=512-p-n) sM
   rw [hs,List.length_append,leB_length,hpl,Int.toNat_natCast,Int.toNat_natCast]
   rw [hpl,show n+(512-p-n)=512-p by omega] at this
   rw [show 512-(p+n)=512-p-n by omega]
   exact this
  rw [hB,List.map_append,List.map_replicate] at hO7
  exact hO7
end Go.Proofs.YtdccfkffabngjaaGreat
set_option linter.unusedSimpArgs false
set_option linter.unusedVariables false
namespace Go.Proofs.YtdccfkffabngjaaGreat
open Go.Vc

/-! ### Parts of bytes -/
def part (B:List UInt8) (a m:Nat):List UInt8:=(B.drop a).take m
theorem part_len {B:List UInt8} {a m:Nat} (h:a+m≤B.length):(part B a m).length=m:=by unfold part; rw [List.length_take,List.length_drop]; omega
theorem part_get (B:List UInt8) (a m i:Nat):(part B a m)[i]? = if i<m then B[a+i]? else none:=by
 unfold part; rw [List.getElem?_take,List.getElem?_drop]
theorem part_out {B x:List UInt8} {k a m:Nat} (hk:k+x.length≤B.length) (h:a+m≤k∨k+x.length≤a):part (over B k x) a m=part B a m:=by
 refine List.ext_getElem? fun i => ?_
 rw [part_get,part_get]
 split
 ·rw [over_get? hk]
  rcases h with h|h
  ·rw [if_pos omg]
  ·rw [if_neg omg,if_neg omg]
 ·rfl
theorem part_in {B x:List UInt8} {k a m:Nat} (hk:k+x.length≤B.length) (h1:a≤k) (h2:k+x.length≤a+m) (h3:a+m≤B.length):part (over B k x) a m=over (part B a m) (k-a) x:=by
 have hp:(k-a)+x.length≤(part B a m).length:=by rw [part_len h3]; omega
 refine List.ext_getElem? fun i => ?_
 rw [part_get,over_get? hk,over_get? hp,part_get]
 by_cases hi:i<m
 ·rw [if_pos hi,if_pos hi]
  by_cases h4:a+i<k
  ·have h4':i<k-a:=by omega
   rw [if_pos h4,if_pos h4']
  ·have h4':¬i<k-a:=by omega
   rw [if_neg h4,if_neg h4']
   by_cases h5:a+i<k+x.length
   ·have h5':i<k-a+x.length:=by omega
    rw [if_pos h5,if_pos h5']
    congr 1; omega
   ·have h5':¬i<k-a+x.length:=by omega
    rw [if_neg h5,if_neg h5']
 ·have h4':¬i<k-a:=by omega
  have h5':¬i<k-a+x.length:=by omega
  rw [if_neg hi,if_neg hi,if_neg h4',if_neg h5']
theorem part_is {B x:List UInt8} {k:Nat} (hk:k+x.length≤B.length):part (over B k x) k x.length=x:=by
 refine List.ext_getElem? fun i => ?_
 rw [part_get,over_get? hk]
 by_cases hi:i<x.length
 ·rw [if_pos hi,if_neg omg,if_pos omg,Nat.add_sub_cancel_left]
 ·rw [if_neg hi,List.getElem?_eq_none omg]
theorem part_part (B:List UInt8) {a m x y:Nat} (h:x+y≤m):part (part B a m) x y=part B (a+x) y:=by
 refine List.ext_getElem? fun i => ?_
 rw [part_get,part_get,part_get]
 by_cases hi:i<y
 ·rw [if_pos hi,if_pos hi,if_pos omg]; congr 1; omega
 ·rw [if_neg hi,if_neg hi]
theorem part_grow {B:List UInt8} {n a m:Nat} (h:a+m≤B.length):part (growL B n) a m=part B a m:=by
 refine List.ext_getElem? fun i => ?_
 rw [part_get,part_get]
 split
 ·unfold growL; rw [List.getElem?_append_left omg]
 ·rfl
theorem over_part {B x:List UInt8} {k:Nat} (hk:k+x.length≤B.length):over B k (part B k x.length)=B:=by
 have hl:=part_len hk
 refine List.ext_getElem? fun i => ?_
 rw [over_get? (by rw [hl]; exact hk),hl,part_get]
 split
 ·rfl
 ·rename_i h1
  split
  ·rw [if_pos omg]; congr 1; omega
  ·rfl

/-! ### How an image lies -/
structure Gm where
 b:Nat
 o:Nat
 L:Nat
 u:Nat
def Gm.c (g:Gm):Nat:=2^g.b
def Gm.w (g:Gm):Nat:=2^g.o
def Gm.n (g:Gm):Nat:=2^(g.b+3-g.o)
def Gm.m (g:Gm):Nat:=g.L*(g.c/8)
def Gm.room (g:Gm):Nat:=g.m*g.n
structure Gm.ok (g:Gm):Prop where
 b0:9≤g.b
 b1:g.b≤16
 o1:g.o≤6
 L0:1≤g.L
 L1:g.L≤40
 u0:g.L+2≤g.u
 u1:g.u≤g.L+3
theorem Gm.ok.c512 {g:Gm} (k:g.ok):∃q,g.c=512*q∧1≤q∧q≤128:=by
 have h0:=k.b0; have h1:=k.b1
 refine ⟨2^(g.b-9),?_,Nat.one_le_two_pow,?_⟩
 ·unfold Gm.c
  rw [show (512:Nat)=2^9 by decide,←Nat.pow_add]; congr 1; omega
 ·calc 2^(g.b-9)≤2^7:=Nat.pow_le_pow_right omg omg
   _=128:=by decide
theorem Gm.ok.n64 {g:Gm} (k:g.ok):64≤g.n∧g.n≤524288:=by
 have h0:=k.b0; have h1:=k.b1; have h2:=k.o1
 unfold Gm.n
 constructor
 ·calc 64=2^6:=by decide
   _≤_:=Nat.pow_le_pow_right omg omg
 ·calc _≤2^19:=Nat.pow_le_pow_right omg omg
   _=524288:=by decide
theorem Gm.ok.nw {g:Gm} (k:g.ok):g.n*g.w=8*g.c:=by
 have h0:=k.b0; have h2:=k.o1
 unfold Gm.n Gm.w Gm.c
 rw [←Nat.pow_add,show (8:Nat)=2^3 by decide,←Nat.pow_add]; congr 1; omega
theorem Gm.ok.w64 {g:Gm} (k:g.ok):1≤g.w∧g.w≤64:=by
 have h2:=k.o1
 refine ⟨Nat.one_le_two_pow,?_⟩
 calc g.w≤2^6:=Nat.pow_le_pow_right omg h2
  _=64:=by decide
theorem Gm.ok.m8 {g:Gm} (k:g.ok):8*g.m=g.L*g.c:=by
 obtain ⟨q,hq,-,-⟩:=k.c512
 unfold Gm.m
 rw [hq,show 512*q/8=64*q by omega,←Nat.mul_assoc,Nat.mul_comm 8,Nat.mul_assoc]
 congr 1; omega
theorem Gm.ok.m0 {g:Gm} (k:g.ok):64≤g.m:=by
 obtain ⟨q,hq,h1,-⟩:=k.c512
 have h2:=k.m8
 have:1*g.c≤g.L*g.c:=Nat.mul_le_mul_right _ k.L0
 omega
def Gm.cl (g:Gm) (i:Nat):Nat:=if i=0 then g.u-1 else i*g.n
def Gm.pl (g:Gm) (i:Nat):Nat:=g.cl i*g.c
theorem Gm.ok.cl_u {g:Gm} (k:g.ok) {i:Nat} (hi:i≠0):g.u<g.cl i:=by
 have:=k.n64; have:=k.u1; have:=k.L1
 unfold Gm.cl
 rw [if_neg hi]
 have:1*g.n≤i*g.n:=Nat.mul_le_mul_right _ omg
 omega
theorem Gm.ok.cl_inj {g:Gm} (k:g.ok) {i j:Nat} (h:g.cl i=g.cl j):i=j:=by
 have h0:=k.n64; have h1:=k.u0
 by_cases hi:i=0
 ·by_cases hj:j=0
  ·rw [hi,hj]
  ·have:=k.cl_u hj
   rw [←h,hi] at this
   unfold Gm.cl at this
   rw [if_pos rfl] at this; omega
 ·by_cases hj:j=0
  ·have:=k.cl_u hi
   rw [h,hj] at this
   unfold Gm.cl at this
   rw [if_pos rfl] at this; omega
  ·unfold Gm.cl at h
   rw [if_neg hi,if_neg hj] at h
   exact Nat.eq_of_mul_eq_mul_right omg h
theorem mul_apart {a b c:Nat} (h:a≠b):a*c+c≤b*c∨b*c+c≤a*c:=by
 rcases Nat.lt_or_gt_of_ne h with h|h
 ·left; have:=Nat.mul_le_mul_right c (show a+1≤b from h); rw [Nat.add_mul] at this; omega
 ·right; have:=Nat.mul_le_mul_right c (show b+1≤a from h); rw [Nat.add_mul] at this; omega
theorem Gm.ok.pl_apart {g:Gm} (k:g.ok) {i j:Nat} (h:i≠j):g.pl i+g.c≤g.pl j∨g.pl j+g.c≤g.pl i :=
 mul_apart fun e=>h (k.cl_inj e)
theorem Gm.ok.pl_far {g:Gm} (k:g.ok) (i:Nat):(g.u-1)*g.c≤g.pl i:=by
 refine Nat.mul_le_mul_right _ ?_
 by_cases hi:i=0
 ·rw [hi]; unfold Gm.cl; rw [if_pos rfl]; exact Nat.le_refl _
 ·have:=k.cl_u hi; omega
theorem Gm.ok.pl_tab {g:Gm} (k:g.ok) (i:Nat):g.c+g.L*g.c≤g.pl i:=by
 have h1:=k.pl_far i
 have:(1+g.L)*g.c≤(g.u-1)*g.c:=Nat.mul_le_mul_right _ (by have:=k.u0; omega)
 rw [Nat.add_mul,Nat.one_mul] at this
 omega
def Gm.word (g:Gm) (B:List UInt8) (i:Nat):Nat:=leN (part B (g.c+8*i) 8)
def Gm.blk (g:Gm) (B:List UInt8) (i:Nat):List UInt8:=part B (g.pl i) g.c
def Gm.cnt (g:Gm) (B:List UInt8) (k:Nat):Nat:=if g.word B (k/g.n)=0 then 0 else Vc.cnt (g.blk B (k/g.n)) g.w (k%g.n)
def Gm.hold (g:Gm) (B:List UInt8) (k:Nat):Prop:=k<g.u∨∃i,i≠0∧i<g.m∧g.word B i≠0∧k=g.cl i
structure Img (g:Gm) (x:Hd) (B:List UInt8):Prop where
 few:B.length≤268435456
 mod:B.length%g.c=0
 len:g.u*g.c≤B.length
 head:part B 0 512=hdB x
 w0:g.word B 0≠0
 wi:∀i,i<g.m→g.word B i≠0→g.word B i=g.pl i∧g.pl i+g.c≤B.length
 l1:part B ((1+g.L)*g.c) ((g.u-2-g.L)*g.c)=zeros ((g.u-2-g.L)*g.c)
 cov:∀k,g.hold B k→1≤g.cnt B k
theorem Gm.ok.word_at {g:Gm} (k:g.ok) {i:Nat} (hi:i<g.m):g.c+8*i+8≤g.c+g.L*g.c:=by have:=k.m8; omega
theorem Gm.ok.l1_at {g:Gm} (k:g.ok) (i:Nat):(1+g.L)*g.c+(g.u-2-g.L)*g.c≤g.pl i:=by
 have h1:=k.pl_far i
 have:=k.u0
 rw [←Nat.add_mul,show 1+g.L+(g.u-2-g.L)=g.u-1 by omega]
 exact h1
theorem Gm.ok.tab_l1 {g:Gm} (k:g.ok):g.c+g.L*g.c=(1+g.L)*g.c:=by rw [Nat.add_mul,Nat.one_mul]
theorem Img.block {g:Gm} {x:Hd} {B y:List UInt8} (I:Img g x B) (k:g.ok) {i q:Nat} (hi:i<g.m) (hw:g.word B i≠0) (hq:q+y.length≤g.c) :
 let B':=over B (g.pl i+q) y
 B'.length=B.length∧(∀j,j<g.m→g.word B' j=g.word B j)∧g.blk B' i=over (g.blk B i) q y∧(∀j,j<g.m→j≠i→g.word B j≠0→g.blk B' j=g.blk B j)∧((∀k,g.hold B k→k/g.n=i→1≤Vc.cnt (over (g.blk B i) q y) g.w (k%g.n))→(∀k,g.hold B k→k/g.n<g.m)→Img g x B'):=by
 intro B'
 obtain ⟨hp,hle⟩:=I.wi i hi hw
 have hk:g.pl i+q+y.length≤B.length:=by omega
 have hlen:B'.length=B.length:=over_len hk
 have htab:=k.pl_tab i
 have hl1:=k.l1_at i
 obtain ⟨c1,hc,hc1,-⟩:=k.c512
 have hword:∀j,j<g.m→g.word B' j=g.word B j:=fun j hj=>by
  unfold Gm.word
  rw [part_out hk (.inl (by have:=k.word_at hj; omega))]
 have hbi:g.blk B' i=over (g.blk B i) q y:=by
  unfold Gm.blk
  rw [part_in hk omg omg hle,Nat.add_sub_cancel_left]
 have hbj:∀j,j<g.m→j≠i→g.word B j≠0→g.blk B' j=g.blk B j:=fun j hj hne hwj=>by
  unfold Gm.blk
  exact part_out hk (by have:=k.pl_apart hne; omega)
 refine ⟨hlen,hword,hbi,hbj,fun hcov hlt => ?_⟩
 have hold:∀k',g.hold B' k'→g.hold B k':=fun k' hh=>hh.imp id (fun ⟨j,h1,h2,h3,h4⟩=>⟨j,h1,h2,by rw [←hword j h2]; exact h3,h4⟩)
 refine ⟨by rw [hlen]; exact I.few,by rw [hlen]; exact I.mod,by rw [hlen]; exact I.len,?_,?_,fun j hj hwj => ?_,?_,fun k' hk' => ?_⟩
 ·rw [part_out hk (.inl omg)]; exact I.head
 ·rw [hword 0 (by have:=k.m0; omega)]; exact I.w0
 ·rw [hword j hj] at hwj ⊢
  rw [hlen]; exact I.wi j hj hwj
 ·rw [part_out hk (.inl omg)]; exact I.l1
 ·have h1:=hold k' hk'
  have h2:=I.cov k' h1
  have hm:=hlt k' h1
  unfold Gm.cnt at h2 ⊢
  rw [hword _ hm]
  split at h2
  ·omega
  ·rename_i hne
   rw [if_neg hne]
   by_cases e:k'/g.n=i
   ·rw [e,hbi]; exact hcov k' h1 e
   ·rw [hbj _ hm e hne]; exact h2
theorem Gm.ok.hold_lt {g:Gm} (k:g.ok) {B:List UInt8} {j:Nat} (hj:g.hold B j):j/g.n<g.m:=by
 have h0:=k.n64; have h1:=k.u1; have h2:=k.L1; have h3:=k.m0
 rcases hj with h|⟨i,h4,h5,-,rfl⟩
 ·rw [Nat.div_eq_of_lt omg]; omega
 ·unfold Gm.cl
  rw [if_neg h4,Nat.mul_div_cancel _ omg]; exact h5
end Go.Proofs.YtdccfkffabngjaaGreat
set_option linter.unusedSimpArgs false
set_option linter.unusedVariables false
namespace Go.Proofs.YtdccfkffabngjaaGreat
open Go.Vc

theorem Img.word_fit {g:Gm} {x:Hd} {B:List UInt8} (I:Img g x B) (k:g.ok) {i:Nat} (hi:i<g.m):g.c+8*i+8≤B.length:=by
 have h1:=k.word_at hi
 have h2:=I.wi 0 (by have:=k.m0; omega) I.w0
 have h3:=k.pl_tab 0
 omega
theorem Img.grown {g:Gm} {x:Hd} {B:List UInt8} (I:Img g x B) (k:g.ok) {n:Nat} (hn:n≤268435456) (hm:n%g.c=0) :
 Img g x (growL B n)∧(∀j,j<g.m→g.word (growL B n) j=g.word B j)∧(∀j,j/g.n<g.m→g.cnt (growL B n) j=g.cnt B j):=by
 have hl:=growL_len B n
 have hword:∀j,j<g.m→g.word (growL B n) j=g.word B j:=fun j hj=>by
  unfold Gm.word
  rw [part_grow (I.word_fit k hj)]
 have hcnt:∀j,j/g.n<g.m→g.cnt (growL B n) j=g.cnt B j:=fun j hj=>by
  unfold Gm.cnt
  rw [hword _ hj]
  split
  ·rfl
  ·rename_i hw
   unfold Gm.blk
   rw [part_grow (I.wi _ hj hw).2]
 have hold:∀j,g.hold (growL B n) j→g.hold B j:=fun j hh=>hh.imp id (fun ⟨i,h1,h2,h3,h4⟩=>⟨i,h1,h2,by rw [←hword i h2]; exact h3,h4⟩)
 obtain ⟨c1,hc,hc1,-⟩:=k.c512
 have h0:=I.word_fit k (i:=0) (by have:=k.m0; omega)
 refine ⟨⟨by rw [hl]; have:=I.few; omega,?_,by rw [hl]; have:=I.len; omega,?_,?_,fun j hj hw => ?_,?_,fun j hj => ?_⟩,hword,hcnt⟩
 ·rw [hl]
  rcases Nat.le_total B.length n with h|h
  ·rw [Nat.max_eq_right h]; exact hm
  ·rw [Nat.max_eq_left h]; exact I.mod
 ·rw [part_grow omg]; exact I.head
 ·rw [hword 0 (by have:=k.m0; omega)]; exact I.w0
 ·rw [hword j hj] at hw ⊢
  have:=I.wi j hj hw
  exact ⟨this.1,by rw [hl]; omega⟩
 ·have h1:=k.l1_at 0
  have h2:=I.wi 0 (by have:=k.m0; omega) I.w0
  rw [part_grow omg]; exact I.l1
 ·have h1:=hold j hj
  rw [hcnt j (k.hold_lt h1)]
  exact I.cov j h1
def Gm.newB (g:Gm):List UInt8:=setC (zeros g.c) g.w 0 1
theorem Gm.newB_len (g:Gm):g.newB.length=g.c:=by unfold Gm.newB; rw [setC_length,zeros_len]
theorem leN_zeros (n:Nat):leN (zeros n)=0:=by
 unfold zeros
 induction n with
 | zero=>rfl
 | succ n ih=>rw [List.replicate_succ,leN,ih]; rfl
theorem cnt_zeros (n w i:Nat):cnt (zeros n) w i=0:=by unfold cnt; rw [leN_zeros]; simp
theorem Gm.ok.newB_cnt {g:Gm} (k:g.ok) (i:Nat):Vc.cnt g.newB g.w i=if i=0 then 1 else 0:=by
 unfold Gm.newB
 obtain ⟨h1,h2⟩:=k.w64
 obtain ⟨q,hq,hq1,-⟩:=k.c512
 rw [cnt_setC (by rw [zeros_len]; omega),cnt_zeros]
 split
 ·rw [Nat.mod_eq_of_lt (Nat.one_lt_two_pow omg)]
 ·rfl
def Gm.mkB (g:Gm) (B:List UInt8) (i:Nat):List UInt8:=over (over (growL B (g.pl i+g.c)) (g.pl i) g.newB) (g.c+8*i) (leB 8 (g.pl i))
theorem Gm.pl_mod (g:Gm) (i:Nat):(g.pl i+g.c)%g.c=0:=by unfold Gm.pl; rw [Nat.add_mod_right,Nat.mul_mod_left]
theorem Img.mk1 {g:Gm} {x:Hd} {B y:List UInt8} (I:Img g x B) (k:g.ok) {i:Nat} (hi:i<g.m) (hw:g.word B i=0) (hf:g.pl i+g.c≤B.length) (hy:y.length≤g.c) :
 Img g x (over B (g.pl i) y)∧(∀j,j<g.m→g.word (over B (g.pl i) y) j=g.word B j)∧(∀j,j/g.n<g.m→g.cnt (over B (g.pl i) y) j=g.cnt B j):=by
 have hk:g.pl i+y.length≤B.length:=by omega
 have hlen:(over B (g.pl i) y).length=B.length:=over_len hk
 have htab:=k.pl_tab i
 have hl1:=k.l1_at i
 obtain ⟨c1,hc,hc1,-⟩:=k.c512
 have hword:∀j,j<g.m→g.word (over B (g.pl i) y) j=g.word B j:=fun j hj=>by
  unfold Gm.word
  rw [part_out hk (.inl (by have:=k.word_at hj; omega))]
 have hcnt:∀j,j/g.n<g.m→g.cnt (over B (g.pl i) y) j=g.cnt B j:=fun j hj=>by
  unfold Gm.cnt
  rw [hword _ hj]
  split
  ·rfl
  ·rename_i hwj
   unfold Gm.blk
   rw [part_out hk]
   have:=k.pl_apart (i:=j/g.n) (j:=i) (fun e=>hwj (by rw [e]; exact hw))
   omega
 have hold:∀j,g.hold (over B (g.pl i) y) j→g.hold B j:=fun j hh=>hh.imp id (fun ⟨i,h1,h2,h3,h4⟩=>⟨i,h1,h2,by rw [←hword i h2]; exact h3,h4⟩)
 refine ⟨⟨by rw [hlen]; exact I.few,by rw [hlen]; exact I.mod,by rw [hlen]; exact I.len,?_,?_,fun j hj hwj => ?_,?_,fun j hj => ?_⟩,hword,hcnt⟩
 ·rw [part_out hk (.inl omg)]; exact I.head
 ·rw [hword 0 (by have:=k.m0; omega)]; exact I.w0
 ·rw [hword j hj] at hwj ⊢
  rw [hlen]; exact I.wi j hj hwj
 ·rw [part_out hk (.inl omg)]; exact I.l1
 ·have h1:=hold j hj
  rw [hcnt j (k.hold_lt h1)]
  exact I.cov j h1
theorem leN_leB8 {x:Nat} (h:x<18446744073709551616):leN (leB 8 x)=x:=by
 rw [leN_leB]; exact Nat.mod_eq_of_lt (by simpa using h)
theorem Img.mk2 {g:Gm} {x:Hd} {B:List UInt8} (I:Img g x B) (k:g.ok) {i:Nat} (hi:i<g.m) (hw:g.word B i=0) (hf:g.pl i+g.c≤B.length) (hb:g.blk B i=g.newB) :
 let B':=over B (g.c+8*i) (leB 8 (g.pl i))
 Img g x B'∧g.word B' i=g.pl i∧(∀j,j<g.m→j≠i→g.word B' j=g.word B j)∧(∀j,j/g.n<g.m→g.cnt B' j=if j=g.cl i then 1 else g.cnt B j)∧B'.length=B.length:=by
 intro B'
 have h8:(leB 8 (g.pl i)).length=8:=leB_length 8 _
 have hk:g.c+8*i+(leB 8 (g.pl i)).length≤B.length:=by rw [h8]; exact I.word_fit k hi
 have hlen:B'.length=B.length:=over_len hk
 have hi0:i≠0:=fun e=>I.w0 (e▸hw)
 have hfew:=I.few
 obtain ⟨c1,hc,hc1,-⟩:=k.c512
 have hwi:g.word B' i=g.pl i:=by
  unfold Gm.word
  have:=part_is hk
  rw [h8] at this
  rw [this,leN_leB8 omg]
 have hwj:∀j,j<g.m→j≠i→g.word B' j=g.word B j:=fun j hj hne=>by
  unfold Gm.word
  rw [part_out hk (by rw [h8]; omega)]
 have hpos:0<g.pl i:=by have:=k.pl_tab i; omega
 have hblk:∀j,j<g.m→g.blk B' j=g.blk B j:=fun j hj=>by
  unfold Gm.blk
  exact part_out hk (.inr (by rw [h8]; have:=k.word_at hi; have:=k.pl_tab j; omega))
 have hn:=k.n64
 have hcl:g.cl i/g.n=i∧g.cl i%g.n=0:=by
  unfold Gm.cl; rw [if_neg hi0]
  exact ⟨Nat.mul_div_cancel _ omg,Nat.mul_mod_left _ _⟩
 have hcnt:∀j,j/g.n<g.m→g.cnt B' j=if j=g.cl i then 1 else g.cnt B j:=fun j hj=>by
  unfold Gm.cnt
  by_cases e:j/g.n=i
  ·rw [e,hwi,if_neg omg,hblk i hi,hb,k.newB_cnt,hw,if_pos rfl]
   have hdm:=Nat.div_add_mod j g.n
   rw [e] at hdm
   have hcl2:=Nat.div_add_mod (g.cl i) g.n
   rw [hcl.1,hcl.2] at hcl2
   by_cases e2:j%g.n=0
   ·rw [if_pos e2,if_pos omg]
   ·rw [if_neg e2,if_neg omg]
  ·have hne:¬j=g.cl i:=fun h=>e (by rw [h]; exact hcl.1)
   rw [hwj _ hj e,hblk _ hj,if_neg hne]
 have hold:∀j,g.hold B' j→g.hold B j∨j=g.cl i:=fun j hh=>by
  rcases hh with h|⟨q,h1,h2,h3,h4⟩
  ·exact .inl (.inl h)
  ·by_cases e:q=i
   ·right; rw [h4,e]
   ·left; exact .inr ⟨q,h1,h2,by rw [←hwj q h2 e]; exact h3,h4⟩
 have htab:=k.tab_l1
 refine ⟨⟨by rw [hlen]; exact I.few,by rw [hlen]; exact I.mod,by rw [hlen]; exact I.len,?_,?_,fun j hj hw' => ?_,?_,fun j hj => ?_⟩,hwi,hwj,hcnt,hlen⟩
 ·rw [part_out hk (.inl omg)]; exact I.head
 ·rw [hwj 0 (by have:=k.m0; omega) (Ne.symm hi0)]; exact I.w0
 ·rw [hlen]
  by_cases e:j=i
  ·rw [e]; exact ⟨hwi,hf⟩
  ·rw [hwj j hj e] at hw' ⊢
   exact I.wi j hj hw'
 ·rw [part_out hk (.inr (by rw [h8]; have:=k.word_at hi; omega))]; exact I.l1
 ·rcases hold j hj with h1|rfl
  ·rw [hcnt j (k.hold_lt h1)]
   split
   ·exact Nat.le_refl _
   ·exact I.cov j h1
  ·rw [hcnt _ (by rw [hcl.1]; exact hi),if_pos rfl]
   exact Nat.le_refl _
theorem Img.made {g:Gm} {x:Hd} {B:List UInt8} (I:Img g x B) (k:g.ok) {i:Nat} (hi:i<g.m) (hw:g.word B i=0) (hf:g.pl i+g.c≤268435456) :
 Img g x (g.mkB B i)∧g.word (g.mkB B i) i=g.pl i∧(∀j,j<g.m→j≠i→g.word (g.mkB B i) j=g.word B j)∧(∀j,j/g.n<g.m→g.cnt (g.mkB B i) j=if j=g.cl i then 1 else g.cnt B j)∧(g.mkB B i).length=max B.length (g.pl i+g.c):=by
 obtain ⟨I1,w1,c1⟩:=I.grown k hf (g.pl_mod i)
 have hl:=growL_len B (g.pl i+g.c)
 obtain ⟨I2,w2,c2⟩:=I1.mk1 (y:=g.newB) k hi (by rw [w1 i hi]; exact hw) omg (by rw [g.newB_len]; exact Nat.le_refl _)
 have hl2:(over (growL B (g.pl i+g.c)) (g.pl i) g.newB).length=(growL B (g.pl i+g.c)).length:=over_len (by rw [g.newB_len]; omega)
 obtain ⟨I3,w3,w4,c3,l3⟩:=I2.mk2 k hi (by rw [w2 i hi,w1 i hi]; exact hw) omg (by
  unfold Gm.blk
  have:=part_is (B:=growL B (g.pl i+g.c)) (x:=g.newB) (k:=g.pl i) (by rw [g.newB_len]; omega)
  rw [g.newB_len] at this; exact this)
 refine ⟨I3,w3,fun j hj hne => ?_,fun j hj => ?_,?_⟩
 ·show g.word (over _ _ _) j=_
  rw [w4 j hj hne,w2 j hj,w1 j hj]
 ·show g.cnt (over _ _ _) j=_
  rw [c3 j hj,c2 j hj,c1 j hj]
 ·show (over _ _ _).length=_
  rw [l3,hl2,hl]
end Go.Proofs.YtdccfkffabngjaaGreat
set_option linter.unusedSimpArgs false
set_option linter.unusedVariables false
namespace Go.Proofs.YtdccfkffabngjaaGreat
open Go.Vc

theorem growL_get (l:List UInt8) (n i:Nat):(growL l n)[i]? = if i<l.length then l[i]? else if i<n then some 0 else none:=by
 unfold growL zeros
 rw [List.getElem?_append]
 split
 ·rfl
 ·rw [List.getElem?_replicate]
  split
  ·rw [if_pos omg]
  ·rw [if_neg omg]
theorem writes_now:∀(n:Nat) {k:Nat} {b:List UInt8} {f:Fl},b.length≤n→f.ok→k+b.length≤268435456→b≠[]→(f.writes (cutP k b)).now=over (growL f.now (k+b.length)) k b
 | 0,k,b,f,hn,ok,hf,hb=>absurd (List.length_eq_zero_iff.1 omg) hb
 | n+1,k,b,f,hn,ok,hf,hb=>by
  have hl:0<b.length:=List.length_pos_iff.2 hb
  obtain ⟨m,hm⟩:∃m,m=min b.length (512-k%512):=⟨_,rfl⟩
  have hm1:1≤m∧m≤b.length∧m≤512-k%512:=by omega
  rw [cutP_cons hb,←hm]
  have ht:(b.take m).length=m:=by rw [List.length_take]; omega
  have okp:Pc.ok ⟨k,b.take m⟩:=⟨by rw [ht]; omega,by show k%512+(b.take m).length≤512; rw [ht]; omega⟩
  have ok1:(f.add ⟨k,b.take m⟩).ok:=ok.add okp (by show k+(b.take m).length≤_; rw [ht]; omega)
  have h1:(f.add ⟨k,b.take m⟩).now=over (growL f.now (k+m)) k (b.take m):=by
   have:=ok.now_add ⟨k,b.take m⟩
   rw [this]
   show over (growL f.now (k+(b.take m).length)) k (b.take m)=_
   rw [ht]
  show ((f.add ⟨k,b.take m⟩).writes (cutP (k+m) (b.drop m))).now=_
  have hg:=growL_len f.now (k+m)
  have hg2:=growL_len f.now (k+b.length)
  by_cases hd:b.drop m=[]
  ·have hml:m=b.length:=by have:=List.length_drop (l:=b) (i:=m); rw [hd,List.length_nil] at this; omega
   rw [hd,cutP_nil]
   show (f.add ⟨k,b.take m⟩).now=_
   rw [h1,hml,List.take_length]
  ·have hdl:(b.drop m).length=b.length-m:=List.length_drop
   rw [writes_now n (by rw [hdl]; omega) ok1 (by rw [hdl]; omega) hd,h1,hdl,show k+m+(b.length-m)=k+b.length by omega]
   have hov:(over (growL f.now (k+m)) k (b.take m)).length=(growL f.now (k+m)).length:=over_len (by rw [ht,hg]; omega)
   have hg3:=growL_len (over (growL f.now (k+m)) k (b.take m)) (k+b.length)
   refine List.ext_getElem? fun i => ?_
   rw [over_get? (by rw [hdl,hg3]; omega),growL_get,hov,hg,over_get? (by rw [ht,hg]; omega),ht,growL_get,over_get? (by rw [hg2]; omega),growL_get,hdl]
   rw [List.getElem?_take,List.getElem?_drop]
   (repeat' split)<;>first|rfl|omega|(congr 1; omega)
theorem Fs.write_ok {p:Fs} (o:p.f.ok) {k:Nat} {b:List UInt8} (h:k+b.length≤268435456):(p.write k b).f.ok:=by
 refine o.writes fun q hq => ?_
 have hq':q∈cutP k b:=by
  unfold went at hq
  split at hq
  ·exact hq
  ·exact List.mem_of_mem_take hq
 have:=cutP_ok b.length (Nat.le_refl _) q hq'
 exact ⟨this.1,by omega⟩
theorem Fs.write_now {p:Fs} (o:p.f.ok) (e:p.e=0) {k:Nat} {b:List UInt8} (h:k+b.length≤268435456) (hb:b≠[]):(p.write k b).f.now=over (growL p.f.now (k+b.length)) k b:=by
 show (p.f.writes (went (fateE p.fates) _ (cutP k b))).now=_
 have e':fateE p.fates=0:=e
 unfold went
 rw [if_pos e']
 exact writes_now b.length (Nat.le_refl _) o h hb
theorem Fs.write_in {p:Fs} (o:p.f.ok) (e:p.e=0) {k:Nat} {b:List UInt8} (h:k+b.length≤p.f.now.length) (hb:b≠[]):(p.write k b).f.now=over p.f.now k b:=by
 have h1:=o.few
 have h2:=o.now_len
 rw [Fs.write_now o e omg hb,growL_same h]
theorem Fs.flush_ok {p:Fs} (o:p.f.ok):p.flush.f.ok:=o.flush _
theorem Fs.flush_now (p:Fs):p.flush.f.now=p.f.now:=now_flush _ _
theorem Fs.flush_ps {p:Fs} (e:p.e=0):p.flush.f.ps=[]:=by
 have e':fateE p.fates=0:=e
 show p.f.ps.drop (wentN (fateE p.fates) (fateK p.fates) p.f.ps.length)=[]
 unfold wentN
 rw [if_pos e']
 exact List.drop_length
theorem Fs.size_ok {p:Fs} (o:p.f.ok) {n:Nat} (h:n≤268435456):(p.size n).f.ok:=by
 show (if fateE p.fates=0 then p.f.size n else p.f).ok
 split
 ·exact o.size h
 ·exact o
theorem Fs.size_now {p:Fs} (o:p.f.ok) (e:p.e=0) {n:Nat} (h:p.f.now.length≤n):(p.size n).f.now=growL p.f.now n:=by
 have e':fateE p.fates=0:=e
 show (if fateE p.fates=0 then p.f.size n else p.f).now=_
 rw [if_pos e',o.now_size,List.take_of_length_le (by rw [growL_len]; omega)]

def wrF (at_:Nat) (was is:List UInt8):Nat→Nat→Fs→Fs×Int
 | 0,_,p=>(p,0)
 | n+1,j,p=>if part is (512*j) 512=part was (512*j) 512 then wrF at_ was is n (j+1) p
  else if p.e≠0 then (p.write (at_+512*j) (part is (512*j) 512),p.e)
  else wrF at_ was is n (j+1) (p.write (at_+512*j) (part is (512*j) 512))
theorem wrF_same {at_:Nat} {was is:List UInt8} {n j:Nat} {p:Fs} (h:part is (512*j) 512=part was (512*j) 512):wrF at_ was is (n+1) j p=wrF at_ was is n (j+1) p:=by rw [wrF,if_pos h]
theorem wrF_err {at_:Nat} {was is:List UInt8} {n j:Nat} {p:Fs} (h:¬part is (512*j) 512=part was (512*j) 512) (e:p.e≠0):wrF at_ was is (n+1) j p=(p.write (at_+512*j) (part is (512*j) 512),p.e):=by rw [wrF,if_neg h,if_pos e]
theorem wrF_go {at_:Nat} {was is:List UInt8} {n j:Nat} {p:Fs} (h:¬part is (512*j) 512=part was (512*j) 512) (e:p.e=0):wrF at_ was is (n+1) j p=wrF at_ was is n (j+1) (p.write (at_+512*j) (part is (512*j) 512)):=by rw [wrF,if_neg h,if_neg (by rw [e]; simp)]
theorem wrF_ok {at_:Nat} {was is:List UInt8}:∀(n j:Nat) (p:Fs),p.f.ok→at_+512*(j+n)≤268435456→(wrF at_ was is n j p).1.f.ok∧(wrF at_ was is n j p).1.steps≤p.steps+n
 | 0,j,p,o,_=>⟨o,Nat.le_refl _⟩
 | n+1,j,p,o,hl=>by
  have hpl:(part is (512*j) 512).length≤512:=by unfold part; rw [List.length_take]; omega
  by_cases h:part is (512*j) 512=part was (512*j) 512
  ·rw [wrF_same h]
   have:=wrF_ok (at_:=at_) (was:=was) (is:=is) n (j+1) p o omg
   exact ⟨this.1,by omega⟩
  ·by_cases e:p.e=0
   ·rw [wrF_go h e]
    have:=wrF_ok (at_:=at_) (was:=was) (is:=is) n (j+1) _ (Fs.write_ok o (k:=at_+512*j) (b:=part is (512*j) 512) omg) omg
    have h2:(p.write (at_+512*j) (part is (512*j) 512)).steps=p.steps+1:=rfl
    exact ⟨this.1,by omega⟩
   ·rw [wrF_err h e]
    exact ⟨Fs.write_ok o omg,by show p.steps+1≤_; omega⟩
theorem wrF_calm {at_:Nat} {was is:List UInt8}:∀(n j:Nat) (p:Fs),p.fates=[]→(wrF at_ was is n j p).1.fates=[]∧(wrF at_ was is n j p).2=0
 | 0,j,p,o=>⟨o,rfl⟩
 | n+1,j,p,o=>by
  by_cases h:part is (512*j) 512=part was (512*j) 512
  ·rw [wrF_same h]; exact wrF_calm n (j+1) p o
  ·rw [wrF_go h (by unfold Fs.e; rw [o]; rfl)]
   exact wrF_calm n (j+1) _ (by show p.fates.tail=[]; rw [o]; rfl)
theorem wrF_now {at_:Nat} {was is:List UInt8} {Q:Nat} (hwl:was.length=512*Q) (hil:is.length=512*Q):∀(n j:Nat) (p:Fs),p.f.ok→j+n=Q→at_+512*Q≤p.f.now.length→part p.f.now at_ (512*Q)=is.take (512*j)++was.drop (512*j) →
 (wrF at_ was is n j p).2=0→(wrF at_ was is n j p).1.f.now=over p.f.now at_ is
 | 0,j,p,c,hj,hl,hp,_=>by
  show p.f.now=_
  rw [List.drop_eq_nil_of_le omg,List.append_nil,List.take_of_length_le omg] at hp
  have:=over_part (B:=p.f.now) (k:=at_) (x:=is) omg
  rw [hil,hp] at this
  exact this.symm
 | n+1,j,p,c,hj,hl,hp,hz=>by
  have hfew:=c.few
  have hnl:=c.now_len
  have pil:(part is (512*j) 512).length=512:=part_len omg
  by_cases he:part is (512*j) 512=part was (512*j) 512
  ·rw [wrF_same he] at hz ⊢
   refine wrF_now hwl hil n (j+1) p c omg hl ?_ hz
   rw [hp]
   have e1:is.take (512*(j+1))=is.take (512*j)++part is (512*j) 512:=by
    unfold part
    rw [show 512*(j+1)=512*j+512 by omega,List.take_add]
   have e2:was.drop (512*j)=part was (512*j) 512++was.drop (512*(j+1)):=by
    unfold part
    rw [show 512*(j+1)=512*j+512 by omega,←List.drop_drop,List.take_append_drop]
   rw [e1,e2,he,List.append_assoc]
  ·by_cases e:p.e=0
   ·rw [wrF_go he e] at hz ⊢
    have c1:=Fs.write_ok c (k:=at_+512*j) (b:=part is (512*j) 512) omg
    have n1:=Fs.write_in c e (k:=at_+512*j) (b:=part is (512*j) 512) omg (fun e=>by rw [e] at pil; cases pil)
    have hln:(p.write (at_+512*j) (part is (512*j) 512)).f.now.length=p.f.now.length:=by rw [n1]; exact over_len omg
    have h3:=wrF_now (at_:=at_) hwl hil n (j+1) _ c1 omg omg (by
     rw [n1,part_in omg omg omg hl,Nat.add_sub_cancel_left,hp]
     refine List.ext_getElem? fun i => ?_
     rw [over_get? (by rw [pil,List.length_append,List.length_take,List.length_drop]; omega),pil,part_get,List.getElem?_append,List.getElem?_append,List.length_take,List.length_take,List.getElem?_take,List.getElem?_take,List.getElem?_drop,List.getElem?_drop]
     (repeat' split)<;>first|rfl|omega|(congr 1; omega)) hz
    rw [h3,n1]
    refine List.ext_getElem? fun i => ?_
    rw [over_get? (by rw [over_len omg]; omega),over_get? omg,over_get? omg,pil]
    (repeat' split)<;>first|rfl|omega|(congr 1; omega)
   ·rw [wrF_err he e] at hz
    exact absurd hz e
end Go.Proofs.YtdccfkffabngjaaGreat
set_option linter.unusedSimpArgs false
set_option linter.unusedVariables false
namespace Go.Proofs.YtdccfkffabngjaaGreat
open Go.Vc

def growF (g:Gm) (n:Nat) (p:Fs):Fs×Int:=if n≤p.f.last.length then (p,0) else (p.size ((n+g.c-1)/g.c*g.c),p.e)
def seqF:List (Fs→Fs×Int)→Fs→Fs×Int
 | [],p=>(p,0)
 | s::l,p=>if (s p).2=0 then seqF l (s p).1 else s p
theorem seqF_cons {s:Fs→Fs×Int} {l:List (Fs→Fs×Int)} {p:Fs} (h:(s p).2=0):seqF (s::l) p=seqF l (s p).1:=by rw [seqF,if_pos h]
theorem seqF_err {s:Fs→Fs×Int} {l:List (Fs→Fs×Int)} {p:Fs} (h:(s p).2≠0):seqF (s::l) p=s p:=by rw [seqF,if_neg h]
def wrS (k:Nat) (b:List UInt8) (p:Fs):Fs×Int:=(p.write k b,p.e)
def flS (p:Fs):Fs×Int:=(p.flush,p.e)
def mkL (g:Gm) (i:Nat):List (Fs→Fs×Int):=[growF g (g.pl i+g.c),wrS (g.pl i) g.newB,flS,wrS (g.c+8*i) (leB 8 (g.pl i)),flS]
def mkF (g:Gm) (i:Nat):Fs→Fs×Int:=seqF (mkL g i)
theorem up_mul {g:Gm} (k:g.ok) (n:Nat):n≤(n+g.c-1)/g.c*g.c∧(n+g.c-1)/g.c*g.c<n+g.c∧(n+g.c-1)/g.c*g.c%g.c=0:=by
 obtain ⟨q,hq,h1,-⟩:=k.c512
 have hd:=Nat.div_add_mod (n+g.c-1) g.c
 have hm:=Nat.mod_lt (n+g.c-1) (show 0<g.c by omega)
 rw [Nat.mul_comm] at hd
 exact ⟨by omega,by omega,Nat.mul_mod_left _ _⟩
theorem up_same {g:Gm} (k:g.ok) (i:Nat):(g.pl i+g.c+g.c-1)/g.c*g.c=g.pl i+g.c:=by
 obtain ⟨q,hq,h1,-⟩:=k.c512
 have h:=up_mul k (g.pl i+g.c)
 have h2:=g.pl_mod i
 obtain ⟨a,ha⟩:∃a,(g.pl i+g.c+g.c-1)/g.c=a:=⟨_,rfl⟩
 rw [ha] at h ⊢
 have hb:g.pl i+g.c=(g.cl i+1)*g.c:=by unfold Gm.pl; rw [Nat.add_mul,Nat.one_mul]
 rw [hb] at h ⊢
 congr 1
 rcases Nat.lt_trichotomy a (g.cl i+1) with h3|h3|h3
 ·have:=Nat.mul_le_mul_right g.c (show a+1≤g.cl i+1 from h3); rw [Nat.add_mul] at this; omega
 ·exact h3
 ·have:=Nat.mul_le_mul_right g.c (show g.cl i+1+1≤a from h3); rw [Nat.add_mul (g.cl i+1) 1] at this; omega
structure Stp1 (p p':Fs) (n:Nat):Prop where
 ok:p'.f.ok
 stp:p'.steps≤p.steps+n
 nil:p.fates=[]→p'.fates=[]
theorem Stp1.trans {a b c:Fs} {m n:Nat} (x:Stp1 a b m) (y:Stp1 b c n):Stp1 a c (m+n):=⟨y.ok,by have:=x.stp; have:=y.stp; omega,fun h=>y.nil (x.nil h)⟩
theorem Stp1.mono {a b:Fs} {m n:Nat} (x:Stp1 a b m) (h:m≤n):Stp1 a b n:=⟨x.ok,by have:=x.stp; omega,x.nil⟩
theorem e_nil {p:Fs} (h:p.fates=[]):p.e=0:=by unfold Fs.e; rw [h]; rfl
theorem tail_nil {p:Fs} (h:p.fates=[]):p.fates.tail=[]:=by rw [h]; rfl
theorem wrS_stp {p:Fs} (o:p.f.ok) {k:Nat} {b:List UInt8} (h:k+b.length≤268435456):Stp1 p (wrS k b p).1 1:=⟨Fs.write_ok o h,Nat.le_refl _,tail_nil⟩
theorem flS_stp {p:Fs} (o:p.f.ok):Stp1 p (flS p).1 1:=⟨Fs.flush_ok o,Nat.le_refl _,tail_nil⟩
theorem growF_stp {g:Gm} (k:g.ok) {p:Fs} (o:p.f.ok) {n:Nat} (h:(n+g.c-1)/g.c*g.c≤268435456):Stp1 p (growF g n p).1 1:=by
 unfold growF
 split
 ·exact ⟨o,Nat.le_succ _,id⟩
 ·exact ⟨Fs.size_ok o h,Nat.le_refl _,tail_nil⟩
theorem growF_nil {g:Gm} {p:Fs} {n:Nat} (h:p.fates=[]):(growF g n p).2=0:=by
 unfold growF
 split
 ·rfl
 ·exact e_nil h
theorem growF_now {g:Gm} (k:g.ok) {p:Fs} (o:p.f.ok) {n:Nat} (h:(growF g n p).2=0):(growF g n p).1.f.now=growL p.f.now (if n≤p.f.now.length then 0 else (n+g.c-1)/g.c*g.c):=by
 have hl:=o.now_len
 have hu:=up_mul k n
 unfold growF at h ⊢
 split
 ·rename_i hle
  rw [hl,if_pos hle,growL_same (Nat.zero_le _)]
 ·rename_i hle
  rw [if_neg hle] at h
  rw [hl,if_neg hle]
  exact Fs.size_now o h omg
theorem mkF_stp {g:Gm} (k:g.ok) {p:Fs} (o:p.f.ok) {i:Nat} (hi:i<g.m) (hf:g.pl i+g.c≤268435456):Stp1 p (mkF g i p).1 5∧(p.fates=[]→(mkF g i p).2=0):=by
 have h8:(leB 8 (g.pl i)).length=8:=leB_length 8 _
 have hn:=g.newB_len
 have hw:=k.word_at hi
 have ht:=k.pl_tab i
 have s1:=growF_stp k o (n:=g.pl i+g.c) (by rw [up_same k]; exact hf)
 unfold mkF mkL
 by_cases e1:(growF g (g.pl i+g.c) p).2=0
 ·rw [seqF_cons e1]
  have s2:=wrS_stp s1.ok (k:=g.pl i) (b:=g.newB) (by rw [hn]; exact hf)
  by_cases e2:(wrS (g.pl i) g.newB (growF g (g.pl i+g.c) p).1).2=0
  ·rw [seqF_cons e2]
   have s3:=flS_stp s2.ok
   by_cases e3:(flS (wrS (g.pl i) g.newB (growF g (g.pl i+g.c) p).1).1).2=0
   ·rw [seqF_cons e3]
    have s4:=wrS_stp s3.ok (k:=g.c+8*i) (b:=leB 8 (g.pl i)) (by rw [h8]; omega)
    by_cases e4:(wrS (g.c+8*i) (leB 8 (g.pl i)) (flS (wrS (g.pl i) g.newB (growF g (g.pl i+g.c) p).1).1).1).2=0
    ·rw [seqF_cons e4]
     have s5:=flS_stp s4.ok
     have s:=(((s1.trans s2).trans s3).trans s4).trans s5
     by_cases e5:(flS (wrS (g.c+8*i) (leB 8 (g.pl i)) (flS (wrS (g.pl i) g.newB (growF g (g.pl i+g.c) p).1).1).1).1).2=0
     ·rw [seqF_cons e5]
      exact ⟨s,fun _=>rfl⟩
     ·rw [seqF_err e5]
      exact ⟨s,fun h=>absurd (e_nil (s4.nil (s3.nil (s2.nil (s1.nil h))))) e5⟩
    ·rw [seqF_err e4]
     exact ⟨(((s1.trans s2).trans s3).trans s4).mono omg,fun h=>absurd (e_nil (s3.nil (s2.nil (s1.nil h)))) e4⟩
   ·rw [seqF_err e3]
    exact ⟨((s1.trans s2).trans s3).mono omg,fun h=>absurd (e_nil (s2.nil (s1.nil h))) e3⟩
  ·rw [seqF_err e2]
   exact ⟨(s1.trans s2).mono omg,fun h=>absurd (e_nil (s1.nil h)) e2⟩
 ·rw [seqF_err e1]
  exact ⟨s1.mono omg,fun h=>absurd (growF_nil h) e1⟩
theorem mkF_now {g:Gm} {x:Hd} (k:g.ok) {p:Fs} (o:p.f.ok) (I:Img g x p.f.now) {i:Nat} (hi:i<g.m) (hf:g.pl i+g.c≤268435456) (h:(mkF g i p).2=0):(mkF g i p).1.f.now=g.mkB p.f.now i:=by
 have h8:(leB 8 (g.pl i)).length=8:=leB_length 8 _
 have hn:=g.newB_len
 have hw:=k.word_at hi
 have ht:=k.pl_tab i
 obtain ⟨c1,hc,hc1,-⟩:=k.c512
 have s1:=growF_stp k o (n:=g.pl i+g.c) (by rw [up_same k]; exact hf)
 unfold mkF mkL at h ⊢
 by_cases e1:¬((growF g (g.pl i+g.c) p).2=0)
 ·rw [seqF_err e1] at h; exact absurd h e1
 replace e1:=Classical.not_not.1 e1
 rw [seqF_cons e1] at h ⊢
 have n1:(growF g (g.pl i+g.c) p).1.f.now=growL p.f.now (g.pl i+g.c):=by
  rw [growF_now k o e1,up_same k]
  split
  ·rename_i hle
   rw [growL_same hle,growL_same (Nat.zero_le _)]
  ·rfl
 have l1:=growL_len p.f.now (g.pl i+g.c)
 rw [←n1] at l1
 generalize (growF g (g.pl i+g.c) p).1=p1 at *
 have s2:=wrS_stp s1.ok (k:=g.pl i) (b:=g.newB) (by rw [hn]; exact hf)
 by_cases e2:¬((wrS (g.pl i) g.newB p1).2=0)
 ·rw [seqF_err e2] at h; exact absurd h e2
 replace e2:=Classical.not_not.1 e2
 rw [seqF_cons e2] at h ⊢
 have n2:(wrS (g.pl i) g.newB p1).1.f.now=over p1.f.now (g.pl i) g.newB:=Fs.write_in s1.ok e2 (by rw [hn]; omega) (fun e=>by rw [e] at hn; simp at hn; omega)
 have l2:(over p1.f.now (g.pl i) g.newB).length=p1.f.now.length:=over_len (by rw [hn]; omega)
 rw [←n2] at l2
 generalize (wrS (g.pl i) g.newB p1).1=p2 at *
 have s3:=flS_stp s2.ok
 by_cases e3:¬((flS p2).2=0)
 ·rw [seqF_err e3] at h; exact absurd h e3
 replace e3:=Classical.not_not.1 e3
 rw [seqF_cons e3] at h ⊢
 have n3:(flS p2).1.f.now=p2.f.now:=Fs.flush_now p2
 generalize (flS p2).1=p3 at *
 by_cases e4:¬((wrS (g.c+8*i) (leB 8 (g.pl i)) p3).2=0)
 ·rw [seqF_err e4] at h; exact absurd h e4
 replace e4:=Classical.not_not.1 e4
 rw [seqF_cons e4] at h ⊢
 have n4:(wrS (g.c+8*i) (leB 8 (g.pl i)) p3).1.f.now=over p3.f.now (g.c+8*i) (leB 8 (g.pl i)):=Fs.write_in s3.ok e4 (by rw [h8,n3]; omega) (fun e=>by rw [e] at h8; cases h8)
 generalize (wrS (g.c+8*i) (leB 8 (g.pl i)) p3).1=p4 at *
 by_cases e5:¬((flS p4).2=0)
 ·rw [seqF_err e5] at h; exact absurd h e5
 replace e5:=Classical.not_not.1 e5
 rw [seqF_cons e5]
 show (flS p4).1.f.now=_
 have n5:(flS p4).1.f.now=p4.f.now:=Fs.flush_now p4
 rw [n5,n4,n3,n2,n1]
 rfl

def addB (g:Gm) (by_:Int) (T:Nat→Nat) (i:Nat) (ks:List Nat) (b:List UInt8):List UInt8 :=
 ks.foldl (fun b k=>if k/g.n=i then setC b g.w (k%g.n) (((cnt b g.w (k%g.n):Nat):Int)+by_*(T k:Nat)).toNat else b) b
theorem addB_cons {g:Gm} {by_:Int} {T:Nat→Nat} {i k:Nat} {ks:List Nat} {b:List UInt8}:addB g by_ T i (k::ks) b=addB g by_ T i ks (if k/g.n=i then setC b g.w (k%g.n) (((cnt b g.w (k%g.n):Nat):Int)+by_*(T k:Nat)).toNat else b):=rfl
theorem addB_len {g:Gm} {by_:Int} {T:Nat→Nat} {i:Nat}:∀(ks:List Nat) (b:List UInt8),(addB g by_ T i ks b).length=b.length
 | [],b=>rfl
 | k::ks,b=>by
  rw [addB_cons,addB_len ks]
  split
  ·rw [setC_length]
  ·rfl
theorem Gm.ok.in_block {g:Gm} (k:g.ok) {j:Nat} (hj:j<g.n):j*g.w+g.w≤8*g.c:=by
 have h1:=k.nw
 have h2:(j+1)*g.w≤g.n*g.w:=Nat.mul_le_mul_right _ hj
 rw [Nat.add_mul] at h2
 omega
theorem addB_cnt {g:Gm} (k:g.ok) {by_:Int} {T:Nat→Nat} {i:Nat}:∀(ks:List Nat) (b:List UInt8),ks.Nodup→b.length=g.c→(∀q∈ks,q/g.n=i→0≤((cnt b g.w (q%g.n):Nat):Int)+by_*(T q:Nat)∧((cnt b g.w (q%g.n):Nat):Int)+by_*(T q:Nat)<(2^g.w:Nat)) →
 ∀q,q/g.n=i→((cnt (addB g by_ T i ks b) g.w (q%g.n):Nat):Int)=((cnt b g.w (q%g.n):Nat):Int)+if q∈ks then by_*(T q:Nat) else 0
 | [],b,_,_,_,q,_=>by simp [addB]
 | k1::ks,b,hn,hl,hf,q,hq=>by
  have hnc:=List.nodup_cons.1 hn
  have hn0:0<g.n:=by have:=k.n64; omega
  rw [addB_cons]
  by_cases e:k1/g.n=i
  ·rw [if_pos e]
   have hfit:=hf k1 List.mem_cons_self e
   have hin:=k.in_block (Nat.mod_lt k1 hn0)
   obtain ⟨X,hX⟩:∃X,(((cnt b g.w (k1%g.n):Nat):Int)+by_*(T k1:Nat)).toNat=X:=⟨_,rfl⟩
   have hXi:((cnt b g.w (k1%g.n):Nat):Int)+by_*(T k1:Nat)=X:=by rw [←hX]; omega
   rw [hXi] at hfit
   rw [hX]
   have hXl:X<2^g.w:=by exact_mod_cast hfit.2
   have hc:∀j,cnt (setC b g.w (k1%g.n) X) g.w j=if j=k1%g.n then X else cnt b g.w j:=fun j=>by
    rw [cnt_setC (by rw [hl]; exact hin),Nat.mod_eq_of_lt hXl]
   have key:∀q',q'/g.n=i→(q'%g.n=k1%g.n↔q'=k1):=fun q' h'=>by
    constructor
    ·intro h2
     have a1:=Nat.div_add_mod q' g.n
     have a2:=Nat.div_add_mod k1 g.n
     rw [h',h2] at a1; rw [e] at a2; omega
    ·rintro rfl; rfl
   rw [addB_cnt k ks _ hnc.2 (by rw [setC_length]; exact hl) (fun q' hq' hi' => ?_) q hq,hc]
   ·by_cases e2:q=k1
    ·subst e2
     rw [if_pos rfl,if_neg hnc.1,if_pos List.mem_cons_self,hXi]; simp
    ·rw [if_neg (fun h=>e2 ((key q hq).1 h))]
     by_cases e3:q∈ks
     ·rw [if_pos e3,if_pos (List.mem_cons_of_mem _ e3)]
     ·rw [if_neg e3,if_neg (fun h=>(List.mem_cons.1 h).elim e2 e3)]
   ·rw [hc,if_neg (fun h=>hnc.1 ((key q' hi').1 h▸hq'))]
    exact hf q' (List.mem_cons_of_mem _ hq') hi'
  ·rw [if_neg e,addB_cnt k ks _ hnc.2 hl (fun q' hq' hi'=>hf q' (List.mem_cons_of_mem _ hq') hi') q hq]
   have e2:q≠k1:=fun h=>e (h▸hq)
   by_cases e3:q∈ks
   ·rw [if_pos e3,if_pos (List.mem_cons_of_mem _ e3)]
   ·rw [if_neg e3,if_neg (fun h=>(List.mem_cons.1 h).elim e2 e3)]
end Go.Proofs.YtdccfkffabngjaaGreat
set_option linter.unusedSimpArgs false
set_option linter.unusedVariables false
namespace Go.Proofs.YtdccfkffabngjaaGreat
open Go.Vc

def getB (g:Gm) (i:Nat) (p:Fs):Fs×Int:=if g.word p.f.now i=0 then mkF g i p else (p,0)
def putBk (g:Gm) (by_:Int) (T:Nat→Nat) (ks:List Nat) (i:Nat) (p:Fs):Fs×Int:=wrF (g.pl i) (g.blk p.f.now i) (addB g by_ T i ks (g.blk p.f.now i)) (g.c/512) 0 p
def stepB (g:Gm) (by_:Int) (T:Nat→Nat) (ks:List Nat) (i:Nat):Fs→Fs×Int:=seqF [getB g i,putBk g by_ T ks i]
def Gm.base (g:Gm) (B:List UInt8) (k:Nat):Nat:=if g.word B (k/g.n)=0∧k%g.n=0 then 1 else g.cnt B k
structure Adds (g:Gm) (by_:Int) (T:Nat→Nat) (ks:List Nat) (B:List UInt8):Prop where
 nd:ks.Nodup
 lt:∀k∈ks,k/g.n<g.m
 room:∀k∈ks,g.word B (k/g.n)=0→g.pl (k/g.n)+g.c≤268435456∧k%g.n≠0
 fit:∀k∈ks,0≤((g.cnt B k:Nat):Int)+by_*(T k:Nat)∧((g.cnt B k:Nat):Int)+by_*(T k:Nat)<(2^g.w:Nat)
 cov:∀k∈ks,g.hold B k→1≤((g.cnt B k:Nat):Int)+by_*(T k:Nat)
structure After (g:Gm) (x:Hd) (by_:Int) (T:Nat→Nat) (ks:List Nat) (B:List UInt8) (D:List Nat) (B':List UInt8):Prop where
 img:Img g x B'
 len:B.length≤B'.length
 wd0:∀j,j<g.m→j∉D→g.word B' j=g.word B j
 wd1:∀j,j<g.m→j∈D→g.word B' j≠0
 cnt:∀k,k/g.n<g.m→((g.cnt B' k:Nat):Int)=if k/g.n∈D then ((g.base B k:Nat):Int)+(if k∈ks then by_*(T k:Nat) else 0) else ((g.cnt B k:Nat):Int)
theorem After.zero {g:Gm} {x:Hd} {by_:Int} {T:Nat→Nat} {ks:List Nat} {B:List UInt8} (I:Img g x B):After g x by_ T ks B [] B :=
 ⟨I,Nat.le_refl _,fun _ _ _=>rfl,fun _ _ h=>(by cases h),fun _ _=>(by rw [if_neg (List.not_mem_nil)])⟩
structure Mid (g:Gm) (x:Hd) (by_:Int) (T:Nat→Nat) (ks:List Nat) (B:List UInt8) (D:List Nat) (i:Nat) (B':List UInt8):Prop where
 img:Img g x B'
 len:B.length≤B'.length
 wi:g.word B' i≠0
 wd0:∀j,j<g.m→j∉D→j≠i→g.word B' j=g.word B j
 wd1:∀j,j<g.m→j∈D→g.word B' j≠0
 cnt:∀k,k/g.n<g.m→((g.cnt B' k:Nat):Int)=if k/g.n∈D then ((g.base B k:Nat):Int)+(if k∈ks then by_*(T k:Nat) else 0) else if k/g.n=i then ((g.base B k:Nat):Int) else ((g.cnt B k:Nat):Int)
theorem cl_div {g:Gm} (k:g.ok) {i:Nat} (h:i≠0):g.cl i/g.n=i∧g.cl i%g.n=0:=by
 have:=k.n64
 unfold Gm.cl; rw [if_neg h]
 exact ⟨Nat.mul_div_cancel _ omg,Nat.mul_mod_left _ _⟩
theorem is_cl {g:Gm} (k:g.ok) {i q:Nat} (h:i≠0) (hq:q/g.n=i):q=g.cl i↔q%g.n=0:=by
 have h1:=cl_div k h
 have h2:=Nat.div_add_mod q g.n
 have h3:=Nat.div_add_mod (g.cl i) g.n
 rw [hq] at h2
 rw [h1.1,h1.2] at h3
 constructor
 ·intro e; rw [e]; exact h1.2
 ·intro e; omega
theorem getB_stp {g:Gm} (k:g.ok) {p:Fs} (o:p.f.ok) {i:Nat} (hi:i<g.m) (hf:g.word p.f.now i=0→g.pl i+g.c≤268435456):Stp1 p (getB g i p).1 5∧(p.fates=[]→(getB g i p).2=0):=by
 unfold getB
 split
 ·rename_i h
  exact mkF_stp k o hi (hf h)
 ·exact ⟨⟨o,Nat.le_add_right _ _,id⟩,fun _=>rfl⟩
theorem getB_mid {g:Gm} {x:Hd} (k:g.ok) {by_:Int} {T:Nat→Nat} {ks:List Nat} {B:List UInt8} {D:List Nat} {p:Fs} (o:p.f.ok) (A:After g x by_ T ks B D p.f.now) {i:Nat} (hi:i<g.m) (hD:i∉D)
 (hf:g.word B i=0→g.pl i+g.c≤268435456) (h:(getB g i p).2=0):Mid g x by_ T ks B D i (getB g i p).1.f.now:=by
 have hwi:=A.wd0 i hi hD
 have hc1:=fun q (hq:q/g.n=i)=>A.cnt q (by rw [hq]; exact hi)
 unfold getB at h ⊢
 split
 ·rename_i hw
  rw [if_pos hw] at h
  have hfit:=hf (by rw [←hwi]; exact hw)
  rw [mkF_now k o A.img hi hfit h]
  obtain ⟨I1,w1,w2,c1,l1⟩:=A.img.made k hi hw hfit
  have hi0:i≠0:=fun e=>A.img.w0 (e▸hw)
  have hpos:g.pl i≠0:=by
   have:=k.pl_tab i
   obtain ⟨c1,hc,hc1,-⟩:=k.c512
   omega
  refine ⟨I1,by rw [l1]; have:=A.len; omega,by rw [w1]; exact hpos,fun j hj h1 h2=>by rw [w2 j hj h2]; exact A.wd0 j hj h1,fun j hj h1=>by rw [w2 j hj (fun e=>hD (e▸h1))]; exact A.wd1 j hj h1,fun q hq => ?_⟩
  rw [c1 q hq]
  by_cases e:q/g.n=i
  ·have hnD:¬q/g.n∈D:=by rw [e]; exact hD
   rw [if_neg hnD,if_pos e]
   have hb:g.word B (q/g.n)=0:=by rw [e,←hwi]; exact hw
   have hz:g.cnt B q=0:=by unfold Gm.cnt; rw [if_pos hb]
   have hz2:g.cnt p.f.now q=0:=by unfold Gm.cnt; rw [e,if_pos hw]
   unfold Gm.base
   by_cases e2:q%g.n=0
   ·have h1:=(is_cl k hi0 e).2 e2
    have h2:g.word B (q/g.n)=0∧q%g.n=0:=⟨hb,e2⟩
    rw [if_pos h1,if_pos h2]
   ·have h1:¬q=g.cl i:=fun h=>e2 ((is_cl k hi0 e).1 h)
    have h2:¬(g.word B (q/g.n)=0∧q%g.n=0):=fun h=>e2 h.2
    rw [if_neg h1,if_neg h2,hz,hz2]
  ·have h1:¬q=g.cl i:=fun h=>e (by rw [h]; exact (cl_div k hi0).1)
   rw [if_neg h1,if_neg e]
   exact A.cnt q hq
 ·rename_i hw
  refine ⟨A.img,A.len,hw,fun j hj h1 _=>A.wd0 j hj h1,A.wd1,fun q hq => ?_⟩
  show ((g.cnt p.f.now q:Nat):Int)=_
  rw [A.cnt q hq]
  by_cases e:q/g.n=i
  ·have hnD:¬q/g.n∈D:=by rw [e]; exact hD
   have h2:¬(g.word B (q/g.n)=0∧q%g.n=0):=fun h=>hw (by rw [hwi,←e]; exact h.1)
   rw [if_neg hnD,if_neg hnD,if_pos e]
   unfold Gm.base
   rw [if_neg h2]
  ·by_cases hd:q/g.n∈D
   ·rw [if_pos hd,if_pos hd]
   ·rw [if_neg hd,if_neg hd,if_neg e]
theorem blk_len {g:Gm} {x:Hd} {B:List UInt8} (I:Img g x B) {i:Nat} (hi:i<g.m) (hw:g.word B i≠0):(g.blk B i).length=g.c:=part_len (I.wi i hi hw).2
theorem Gm.ok.c_div {g:Gm} (k:g.ok):512*(g.c/512)=g.c:=by
 obtain ⟨q,hq,h1,-⟩:=k.c512
 omega
theorem putBk_stp {g:Gm} {x:Hd} (k:g.ok) {by_:Int} {T:Nat→Nat} {ks:List Nat} {p:Fs} (o:p.f.ok) (I:Img g x p.f.now) {i:Nat} (hi:i<g.m) (hw:g.word p.f.now i≠0):Stp1 p (putBk g by_ T ks i p).1 (g.c/512)∧(p.fates=[]→(putBk g by_ T ks i p).2=0):=by
 have h1:=(I.wi i hi hw).2
 have h2:=I.few
 have h3:=k.c_div
 unfold putBk
 have:=wrF_ok (at_:=g.pl i) (was:=g.blk p.f.now i) (is:=addB g by_ T i ks (g.blk p.f.now i)) (g.c/512) 0 p o omg
 exact ⟨⟨this.1,this.2,fun h=>(wrF_calm _ _ p h).1⟩,fun h=>(wrF_calm _ _ p h).2⟩
theorem putBk_now {g:Gm} {x:Hd} (k:g.ok) {by_:Int} {T:Nat→Nat} {ks:List Nat} {p:Fs} (o:p.f.ok) (I:Img g x p.f.now) {i:Nat} (hi:i<g.m) (hw:g.word p.f.now i≠0) (h:(putBk g by_ T ks i p).2=0):(putBk g by_ T ks i p).1.f.now=over p.f.now (g.pl i) (addB g by_ T i ks (g.blk p.f.now i)):=by
 have h1:=(I.wi i hi hw).2
 have h3:=k.c_div
 have hl:=blk_len I hi hw
 unfold putBk at h ⊢
 exact wrF_now (Q:=g.c/512) (by rw [hl]; omega) (by rw [addB_len,hl]; omega) _ 0 p o omg omg (by rw [h3]; rfl) h
theorem putBk_after {g:Gm} {x:Hd} (k:g.ok) {by_:Int} {T:Nat→Nat} {ks:List Nat} {B:List UInt8} (Ad:Adds g by_ T ks B) {D:List Nat} {p:Fs} (o:p.f.ok) {i:Nat} (hi:i<g.m) (hD:i∉D) (M:Mid g x by_ T ks B D i p.f.now)
 (h:(putBk g by_ T ks i p).2=0):After g x by_ T ks B (i::D) (putBk g by_ T ks i p).1.f.now:=by
 rw [putBk_now k o M.img hi M.wi h]
 have hl:=blk_len M.img hi M.wi
 have hcb:∀q,q/g.n=i→cnt (g.blk p.f.now i) g.w (q%g.n)=g.base B q:=fun q hq=>by
  have:=M.cnt q (by rw [hq]; exact hi)
  rw [if_neg (by rw [hq]; exact hD),if_pos hq] at this
  have h2:g.cnt p.f.now q=g.base B q:=by exact_mod_cast this
  unfold Gm.cnt at h2
  rw [hq,if_neg M.wi] at h2
  exact h2
 have hbase:∀q,q∈ks→g.base B q=g.cnt B q:=fun q hq=>by
  unfold Gm.base
  rw [if_neg]
  rintro ⟨h1,h2⟩
  exact (Ad.room q hq h1).2 h2
 have hac:=addB_cnt k (by_:=by_) (T:=T) (i:=i) ks (g.blk p.f.now i) Ad.nd hl (fun q hq hqi=>by
  rw [hcb q hqi,hbase q hq]; exact Ad.fit q hq)
 have hin:=M.img.block (y:=addB g by_ T i ks (g.blk p.f.now i)) (q:=0) k hi M.wi (by rw [addB_len,hl]; omega)
 have hov:over (g.blk p.f.now i) 0 (addB g by_ T i ks (g.blk p.f.now i))=addB g by_ T i ks (g.blk p.f.now i):=by
  unfold over
  rw [List.take_zero,List.nil_append,addB_len,Nat.zero_add,List.drop_length,List.append_nil]
 rw [Nat.add_zero,hov] at hin
 obtain ⟨hlen,hword,hbi,hbj,himg⟩:=hin
 have hold:∀q,g.hold p.f.now q→q/g.n=i→g.hold B q∨(g.word B i=0∧q%g.n=0):=fun q hq hqi=>by
  rcases hq with h1|⟨j,h1,h2,h3,h4⟩
  ·exact .inl (.inl h1)
  ·have hj:j=i:=by rw [h4,(cl_div k h1).1] at hqi; exact hqi
   by_cases e:g.word B i=0
   ·right; exact ⟨e,by rw [h4]; exact (cl_div k h1).2⟩
   ·left; exact .inr ⟨j,h1,h2,by rw [hj]; exact e,h4⟩
 have I2:=himg (fun q hq hqi=>by
  have h1:=hac q hqi
  rw [hcb q hqi] at h1
  by_cases hk:q∈ks
  ·rw [if_pos hk,hbase q hk] at h1
   rcases hold q hq hqi with h2|⟨h2,h3⟩
   ·have:=Ad.cov q hk h2; omega
   ·exact absurd h3 (Ad.room q hk (by rw [hqi]; exact h2)).2
  ·rw [if_neg hk] at h1
   have:=M.img.cov q hq
   unfold Gm.cnt at this
   rw [hqi,if_neg M.wi,hcb q hqi] at this
   omega) (fun q hq=>k.hold_lt hq)
 refine ⟨I2,by rw [hlen]; exact M.len,fun j hj h1 => ?_,fun j hj h1 => ?_,fun q hq => ?_⟩
 ·rw [hword j hj]
  exact M.wd0 j hj (fun h=>h1 (List.mem_cons_of_mem _ h)) (fun e=>h1 (e▸List.mem_cons_self))
 ·rw [hword j hj]
  rcases List.mem_cons.1 h1 with rfl|h1
  ·exact M.wi
  ·exact M.wd1 j hj h1
 ·have hm:=M.cnt q hq
  by_cases e:q/g.n=i
  ·have h1:=hac q e
   rw [hcb q e] at h1
   rw [if_pos (by rw [e]; exact List.mem_cons_self)]
   unfold Gm.cnt
   rw [hword _ hq,e,if_neg M.wi,hbi]
   exact h1
  ·have hc:g.cnt (over p.f.now (g.pl i) (addB g by_ T i ks (g.blk p.f.now i))) q=g.cnt p.f.now q:=by
    unfold Gm.cnt
    rw [hword _ hq]
    split
    ·rfl
    ·rename_i hw; rw [hbj _ hq e hw]
   rw [hc,hm]
   by_cases e2:q/g.n∈D
   ·rw [if_pos e2,if_pos (List.mem_cons_of_mem _ e2)]
   ·rw [if_neg e2,if_neg e,if_neg (fun h=>(List.mem_cons.1 h).elim e e2)]
end Go.Proofs.YtdccfkffabngjaaGreat
set_option linter.unusedSimpArgs false
set_option linter.unusedVariables false
namespace Go.Proofs.YtdccfkffabngjaaGreat
open Go.Vc

theorem seqF_two {s t:Fs→Fs×Int} {p:Fs} (h:(s p).2=0):seqF [s,t] p=t (s p).1:=by
 rw [seqF_cons h,seqF]
 split
 ·rename_i h2
  rw [seqF]
  exact Prod.ext rfl h2.symm
 ·rfl
theorem stepB_all {g:Gm} {x:Hd} (k:g.ok) {by_:Int} {T:Nat→Nat} {ks:List Nat} {B:List UInt8} (Ad:Adds g by_ T ks B) {D:List Nat} {p:Fs} (o:p.f.ok) (A:After g x by_ T ks B D p.f.now) {i:Nat} (hi:i<g.m) (hD:i∉D) (hk:∃q∈ks,q/g.n=i) :
 Stp1 p (stepB g by_ T ks i p).1 (5+g.c/512)∧(p.fates=[]→(stepB g by_ T ks i p).2=0)∧((stepB g by_ T ks i p).2=0→After g x by_ T ks B (i::D) (stepB g by_ T ks i p).1.f.now):=by
 obtain ⟨q,hq,hqi⟩:=hk
 have hf:g.word B i=0→g.pl i+g.c≤268435456:=fun h=>hqi▸(Ad.room q hq (by rw [hqi]; exact h)).1
 have hf2:g.word p.f.now i=0→g.pl i+g.c≤268435456:=fun h=>hf (by rw [←A.wd0 i hi hD]; exact h)
 obtain ⟨s1,n1⟩:=getB_stp k o hi hf2
 unfold stepB
 by_cases e:(getB g i p).2=0
 ·have M:=getB_mid k o A hi hD hf e
  rw [seqF_two e]
  obtain ⟨s2,n2⟩:=putBk_stp (by_:=by_) (T:=T) (ks:=ks) k s1.ok M.img hi M.wi
  exact ⟨s1.trans s2,fun h=>n2 (s1.nil h),fun h=>putBk_after k Ad s1.ok hi hD M h⟩
 ·rw [seqF_err e]
  exact ⟨s1.mono omg,n1,fun h=>absurd h e⟩
def addF (g:Gm) (by_:Int) (T:Nat→Nat) (ks bs:List Nat):Fs→Fs×Int:=seqF (bs.map (stepB g by_ T ks))
theorem addF_all {g:Gm} {x:Hd} (k:g.ok) {by_:Int} {T:Nat→Nat} {ks:List Nat} {B:List UInt8} (Ad:Adds g by_ T ks B):∀(bs D:List Nat) (p:Fs),p.f.ok→After g x by_ T ks B D p.f.now→bs.Nodup→(∀i∈bs,i∉D∧i<g.m∧∃q∈ks,q/g.n=i) →
 Stp1 p (addF g by_ T ks bs p).1 (bs.length*(5+g.c/512))∧(p.fates=[]→(addF g by_ T ks bs p).2=0)∧((addF g by_ T ks bs p).2=0→∃D',(∀i,i∈D'↔i∈bs∨i∈D)∧After g x by_ T ks B D' (addF g by_ T ks bs p).1.f.now)
 | [],D,p,o,A,_,_=>⟨⟨o,by show p.steps≤_; omega,id⟩,fun _=>rfl,fun _=>⟨D,fun i=>by simp,A⟩⟩
 | i::bs,D,p,o,A,hn,hb=>by
  obtain ⟨h1,h2,h3⟩:=hb i List.mem_cons_self
  have hnc:=List.nodup_cons.1 hn
  obtain ⟨s1,n1,a1⟩:=stepB_all k Ad o A h2 h1 h3
  unfold addF
  rw [List.map_cons]
  by_cases e:(stepB g by_ T ks i p).2=0
  ·rw [seqF_cons e]
   obtain ⟨s2,n2,a2⟩:=addF_all k Ad bs (i::D) (stepB g by_ T ks i p).1 s1.ok (a1 e) hnc.2 (fun j hj=>by
    obtain ⟨h4,h5,h6⟩:=hb j (List.mem_cons_of_mem _ hj)
    exact ⟨fun h=>(List.mem_cons.1 h).elim (fun e=>hnc.1 (e▸hj)) h4,h5,h6⟩)
   have hs:=s1.trans s2
   refine ⟨hs.mono ?_,fun h=>n2 (s1.nil h),fun h => ?_⟩
   ·rw [List.length_cons,Nat.add_mul]; omega
   ·obtain ⟨D',h7,h8⟩:=a2 h
    refine ⟨D',fun j => ?_,h8⟩
    rw [h7 j,List.mem_cons,List.mem_cons]
    constructor
    ·rintro (h|h|h)
     ·exact .inl (.inr h)
     ·exact .inl (.inl h)
     ·exact .inr h
    ·rintro ((h|h)|h)
     ·exact .inr (.inl h)
     ·exact .inl h
     ·exact .inr (.inr h)
  ·rw [seqF_err e]
   refine ⟨s1.mono ?_,n1,fun h=>absurd h e⟩
   rw [List.length_cons,Nat.add_mul]; omega
end Go.Proofs.YtdccfkffabngjaaGreat
set_option linter.unusedSimpArgs false
set_option linter.unusedVariables false
namespace Go.Proofs.YtdccfkffabngjaaGreat
open Go.Vc
variable {K:VP} {h:Heap}

theorem allZ_replicate (n:Nat):allZ (List.replicate n 0)=true:=by simp [allZ]

theorem textR_over {l s:List UInt8} {p m:Int} (hE:setTextE l.length p m s=0):textR (over l p.toNat (fieldB m.toNat s)) p m=(s,0):=by
 unfold setTextE at hE
 split at hE
 ·omega
 ·rename_i hz
  have hz:fieldE l.length p m=0:=by simpa using hz
  split at hE
  ·omega
  ·rename_i hs
   have hb:=fieldE_zero hz
   obtain ⟨p',rfl⟩:=Int.eq_ofNat_of_zero_le hb.2.2.1
   obtain ⟨m',rfl⟩:=Int.eq_ofNat_of_zero_le hb.1
   simp only [Int.toNat_natCast]
   have hfl:=fieldB_length (m:=m') (s:=s) omg
   have hlen:(over l p' (fieldB m' s)).length=l.length:=over_length omg
   have hdrop:(over l p' (fieldB m' s)).drop p'=fieldB m' s++l.drop (p'+(4+m')):=by
    unfold over
    rw [List.append_assoc,List.drop_append,List.drop_eq_nil_of_le (by simp; omega)]
    simp only [List.length_take,Nat.min_eq_left (show p'≤l.length by omega),Nat.sub_self,List.drop_zero,List.nil_append,hfl]
   have h4:((over l p' (fieldB m' s)).drop p').take 4=leB 4 s.length:=by
    rw [hdrop]; unfold fieldB
    rw [List.append_assoc,List.take_append_of_le_length sM,List.take_of_length_le sM]
   have hn:leN (leB 4 s.length)=s.length:=by rw [leN_leB]; exact Nat.mod_eq_of_lt omg
   have htail:∀k,((over l p' (fieldB m' s)).take (p'+4+m')).drop (p'+k)=(fieldB m' s).drop k:=by
    intro k
    rw [←List.drop_drop,List.drop_take,hdrop,show p'+4+m'-p'=4+m' by omega,←hfl,List.take_left]
   unfold textR
   rw [hlen,hz]
   simp only [ne_eq,not_true_eq_false,if_false,Int.toNat_natCast,h4,hn]
   rw [if_neg omg]
   have h5:((over l p' (fieldB m' s)).take (p'+4+m')).drop (p'+4+s.length)=List.replicate (m'-s.length) 0:=by
    rw [show p'+4+s.length=p'+(4+s.length) by omega,htail]; unfold fieldB
    rw [List.drop_append,List.drop_eq_nil_of_le sM]
    simp
   rw [h5,allZ_replicate,if_pos rfl]
   have h6:((over l p' (fieldB m' s)).take (p'+4+s.length)).drop (p'+4)=s:=by
    rw [←List.drop_drop,List.drop_take,hdrop,show p'+4+s.length-p'=4+s.length by omega]
    unfold fieldB
    rw [List.append_assoc,List.append_assoc,List.take_append,List.take_of_length_le sM,List.drop_append,List.drop_eq_nil_of_le sM]
    simp
   rw [h6]
end Go.Proofs.YtdccfkffabngjaaGreat
set_option linter.unusedSimpArgs false
set_option linter.unusedVariables false
namespace Go.Proofs.YtdccfkffabngjaaGreat
open Go.Vc
variable {K:VP} {h:Heap}

theorem slB2 {v:Value} {l:List UInt8} (hB:Bytes h v l) (hl:0<l.length) (lo hi:Int) (h0:0≤lo) (h1:lo≤hi) (h2:hi≤l.length) :
 ∃u,Bytes h u ((l.take hi.toNat).drop lo.toNat)∧∀(q:Bool) (K:VP) (g:Heap),Hp Tryz.prog q (Instr.sliceAt 52 v (some (.int .i64 lo)) (some (.int .i64 hi)) none) K g ⟨⟩↔K u g:=by
 obtain ⟨o,c,rfl⟩:=hB.form
 obtain ⟨a,rfl,-,hc,hA⟩:=hB.at hl
 refine ⟨.slice (some (sub a lo.toNat c)) (hi.toNat-lo.toNat) (c-lo.toNat),.inr ⟨_,_,by congr 1; simp; omega,by simp; omega,hA.part lo.toNat hi.toNat c omg omg hc⟩,fun q K g => ?_⟩
 simp (disch:=omega)
theorem slB1 {v:Value} {l:List UInt8} (hB:Bytes h v l) (hl:0<l.length) (lo:Int) (h0:0≤lo) (h2:lo≤l.length) :
 ∃u,Bytes h u (l.drop lo.toNat)∧∀(q:Bool) (K:VP) (g:Heap),Hp Tryz.prog q (Instr.sliceAt 52 v (some (.int .i64 lo)) none none) K g ⟨⟩↔K u g:=by
 obtain ⟨o,c,rfl⟩:=hB.form
 obtain ⟨a,rfl,-,hc,hA⟩:=hB.at hl
 have hp:=hA.part lo.toNat l.length c omg omg hc
 rw [List.take_length] at hp
 refine ⟨.slice (some (sub a lo.toNat c)) (l.length-lo.toNat) (c-lo.toNat),.inr ⟨_,_,by congr 1; simp,by simp; omega,hp⟩,fun q K g => ?_⟩
 simp (disch:=omega)
theorem slB0 {v:Value} {l:List UInt8} (hB:Bytes h v l) (hl:0<l.length) (hi:Int) (h0:0≤hi) (h2:hi≤l.length) :
 ∃u,Bytes h u (l.take hi.toNat)∧∀(q:Bool) (K:VP) (g:Heap),Hp Tryz.prog q (Instr.sliceAt 52 v none (some (.int .i64 hi)) none) K g ⟨⟩↔K u g:=by
 obtain ⟨o,c,rfl⟩:=hB.form
 obtain ⟨a,rfl,-,hc,hA⟩:=hB.at hl
 have hp:=hA.part 0 hi.toNat c omg omg hc
 rw [sub_zero,List.drop_zero] at hp
 refine ⟨.slice (some a) hi.toNat c,.inr ⟨_,_,by congr 1; simp; omega,by simp; omega,hp⟩,fun q K g => ?_⟩
 simp (disch:=omega)

def num62 (l:List UInt8):Int:=if leN l<4611686018427387904 then leN l else -1
def refS:List UInt8→Option (Sn×List UInt8)
 | []=>none
 | c::t=>if t.length<c.toNat+20 then none else
  some (⟨t.take c.toNat,num62 ((t.drop c.toNat).take 8),num62 (((t.drop c.toNat).take 12).drop 8),num62 (((t.drop c.toNat).take 20).drop 12)⟩,(t.drop c.toNat).drop 20)
def refSN (l:List UInt8):Nat→Option (List Sn×List UInt8)
 | 0=>some ([],l)
 | i+1=>(refSN l i).bind fun a=>(refS a.2).map fun x=>(a.1++[x.1],x.2)
end Go.Proofs.YtdccfkffabngjaaGreat
set_option linter.unusedSimpArgs false
set_option linter.unusedVariables false
namespace Go.Proofs.YtdccfkffabngjaaGreat
open Go.Vc
variable {K:VP} {h:Heap}

theorem hdB_split {x:Hd} {j:Nat} (hj:j<14):∃C,hdB x=hdP x j++(leB ((hdF x)[j]'hj).1 ((hdF x)[j]'hj).2++C):=by
 have h1:=hdP_succ (x:=x) (j:=j) hj
 have h2:∃D,hdP x 14=hdP x (j+1)++D:=by
  refine ⟨((hdF x).drop (j+1)).flatMap fun p=>leB p.1 p.2,?_⟩
  unfold hdP
  rw [List.append_assoc,←List.flatMap_append,List.take_append_drop]
  rfl
 obtain ⟨D,hD⟩:=h2
 refine ⟨D++(fieldB 64 x.back++List.replicate 360 0),?_⟩
 unfold hdB
 rw [hD,h1]
 simp only [List.append_assoc]
theorem hdB_get {x:Hd} (m:MayH x) {j:Nat} (hj:j<14):getR (hdB x) (hdAt[j]'hj:Nat) ((hdF x)[j]'hj).1=(((hdF x)[j]'hj).2,0):=by
 obtain ⟨C,hC⟩:=hdB_split (x:=x) hj
 have hl:=hdB_len m
 have hok:=hdF_ok m j hj
 have hp:=hdP_len (x:=x) hj
 rw [getR_in omg omg,hC,←hp,List.drop_left,List.take_left' sM,leN_leB]
 have:(hdF x)[j].2<256^(hdF x)[j].1:=by
  rcases hok.2.1 with e|e
  ·rw [e,show (256:Nat)^4=4294967296 by decide]; omega
  ·rw [e,show (256:Nat)^8=18446744073709551616 by decide]; omega
 rw [Nat.mod_eq_of_lt this]
theorem hdB_text {x:Hd} (m:MayH x):textR (hdB x) 84 64=(x.back,0):=by
 have hbl:=m.bd.2.2.2.2
 have hlen:(hdP x 14++List.replicate (68+360) (0:UInt8)).length=512:=by rw [List.length_append,List.length_replicate,hdP_14]
 have hE:setTextE (hdP x 14++List.replicate (68+360) (0:UInt8)).length 84 64 x.back=0:=by
  rw [hlen]
  have hF0:fieldE (512:Nat) 84 64=0:=by unfold fieldE; rw [if_neg omg,if_pos omg]
  unfold setTextE
  rw [if_neg (by rw [hF0]; simp),if_neg omg]
 have h1:=textR_over hE
 have h2:=over_zeros (A:=hdP x 14) (M:=fieldB 64 x.back) (n:=68) (m:=360) (by rw [fieldB_length hbl])
 rw [hdP_14] at h2
 have h3:hdB x=hdP x 14++fieldB 64 x.back++List.replicate 360 0:=by unfold hdB; rw [List.append_assoc]
 rw [h3,←h2]
 exact h1
def gotI (l:List UInt8) (p n:Int):Int:=IntKind.i64.wrap (getR l p n).1
def hdD (l:List UInt8):Hd:=⟨gotI l 4 4,(IntKind.u64.wrap (gotI l 8 8)).toNat,gotI l 16 8,gotI l 24 8,gotI l 32 4,gotI l 36 4,gotI l 40 8,gotI l 48 4,gotI l 52 4,gotI l 56 8,gotI l 64 4,gotI l 68 4,gotI l 72 8,gotI l 80 4,(textR l 84 64).1⟩
theorem got_of {l:List UInt8} {p n:Int} {x:Nat} {e:Int} (h:getR l p n=(x,e)) (hx:x≤268435456):gotI l p n=x:=by
 unfold gotI
 rw [h]
 exact wrap_i64 omg omg
set_option maxHeartbeats 1000000 in
theorem hdD_hdB {x:Hd} (m:MayH x):hdD (hdB x)=x:=by
 have b:=m.bd
 have t_bits:((x.bits.toNat:Nat):Int)=x.bits:=Int.toNat_of_nonneg omg
 have t_size:((x.size.toNat:Nat):Int)=x.size:=Int.toNat_of_nonneg omg
 have t_l1:((x.l1.toNat:Nat):Int)=x.l1:=Int.toNat_of_nonneg omg
 have t_l1len:((x.l1len.toNat:Nat):Int)=x.l1len:=Int.toNat_of_nonneg omg
 have t_order:((x.order.toNat:Nat):Int)=x.order:=Int.toNat_of_nonneg omg
 have t_counts:((x.counts.toNat:Nat):Int)=x.counts:=Int.toNat_of_nonneg omg
 have t_clen:((x.clen.toNat:Nat):Int)=x.clen:=Int.toNat_of_nonneg omg
 have t_snaps:((x.snaps.toNat:Nat):Int)=x.snaps:=Int.toNat_of_nonneg omg
 have t_sat:((x.sat.toNat:Nat):Int)=x.sat:=Int.toNat_of_nonneg omg
 have t_slen:((x.slen.toNat:Nat):Int)=x.slen:=Int.toNat_of_nonneg omg
 have t_maps:((x.maps.toNat:Nat):Int)=x.maps:=Int.toNat_of_nonneg omg
 have t_mat:((x.mat.toNat:Nat):Int)=x.mat:=Int.toNat_of_nonneg omg
 have t_mlen:((x.mlen.toNat:Nat):Int)=x.mlen:=Int.toNat_of_nonneg omg
 have e1:(IntKind.u64.wrap (x.flags:Int)).toNat=x.flags:=by rw [wrap_u64 omg omg]; simp
 have g:∀j (hj:j<14),gotI (hdB x) (hdAt[j]'hj:Nat) ((hdF x)[j]'hj).1=((hdF x)[j]'hj).2:=fun j hj=>got_of (hdB_get m hj) (hdF_ok m j hj).2.2
 have ht:=hdB_text m
 generalize hdB x=L at g ht ⊢
 have g0:=g 0 dM
 have g1:=g 1 dM
 have g2:=g 2 dM
 have g3:=g 3 dM
 have g4:=g 4 dM
 have g5:=g 5 dM
 have g6:=g 6 dM
 have g7:=g 7 dM
 have g8:=g 8 dM
 have g9:=g 9 dM
 have g10:=g 10 dM
 have g11:=g 11 dM
 have g12:=g 12 dM
 have g13:=g 13 dM
 simp only [hdAt,hdF,List.getElem_cons_zero,List.getElem_cons_succ] at g0 g1 g2 g3 g4 g5 g6 g7 g8 g9 g10 g11 g12 g13
 unfold hdD
 rw [ht]
 have r0:gotI L 4 4=x.bits:=Eq.trans g0 t_bits
 have r2:gotI L 16 8=x.size:=Eq.trans g2 t_size
 have r3:gotI L 24 8=x.l1:=Eq.trans g3 t_l1
 have r4:gotI L 32 4=x.l1len:=Eq.trans g4 t_l1len
 have r5:gotI L 36 4=x.order:=Eq.trans g5 t_order
 have r6:gotI L 40 8=x.counts:=Eq.trans g6 t_counts
 have r7:gotI L 48 4=x.clen:=Eq.trans g7 t_clen
 have r8:gotI L 52 4=x.snaps:=Eq.trans g8 t_snaps
 have r9:gotI L 56 8=x.sat:=Eq.trans g9 t_sat
 have r10:gotI L 64 4=x.slen:=Eq.trans g10 t_slen
 have r11:gotI L 68 4=x.maps:=Eq.trans g11 t_maps
 have r12:gotI L 72 8=x.mat:=Eq.trans g12 t_mat
 have r13:gotI L 80 4=x.mlen:=Eq.trans g13 t_mlen
 have r1:(IntKind.u64.wrap (gotI L 8 8)).toNat=x.flags:=by rw [show gotI L 8 8=x.flags from g1]; exact e1
 rw [r0,r1,r2,r3,r4,r5,r6,r7,r8,r9,r10,r11,r12,r13]
theorem hdB_inj {x y:Hd} (m:MayH x) (m':MayH y) (e:hdB x=hdB y):x=y:=by
 rw [←hdD_hdB m,e,hdD_hdB m']
end Go.Proofs.YtdccfkffabngjaaGreat

/- Heads: the reference's reading,the walk. One's own copy of bytes,and one byte more. Counts: the reference's first run; what the chapter's rows say; all counts,one by one. Clusters: the file's bytes; a count,as the document tells it out of them. Laying: bytes with others at a place,as the document makes them. The document's check: the walk in memory; holds,finds,blocks put behind. The document's check: clusters within the file; a run is held; a number is read. The document's check: the counts' table,the L1 table,no lists. The document's check: the walk over an image. The document's check: a cluster's count,its holders; behind the last one. The document's check: a find behind all others. The document's check: an image's report. Laying,plainly: the bytes are an image whose counts are right. Laying: an image,as the document lays it. -/
import Derived.Test.YtdccfkffabngjaaGreatGpG
import Derived.Test.YtdccfkffabngjaaGreatFacts
import Derived.Test.YtdccfkffabngjaaGreatCnt
import Derived.Test.YtdccfkffabngjaaGreatGpD
import Derived.Test.YtdccfkffabngjaaGreatGpC
set_option linter.unusedSimpArgs false
set_option linter.unusedVariables false
set_option maxRecDepth 20000
namespace Go.Proofs.YtdccfkffabngjaaGreat
open Go.Vc
variable {K:VP} {h:Heap}

theorem tk512 {l:List UInt8} {p n:Nat} (hp:p+n≤512):((l.take 512).drop p).take n=(l.drop p).take n:=by
 rw [List.drop_take,List.take_take]
 congr 1; omega
theorem hdR_512 {l:List UInt8} (hn:leN ((l.drop 84).take 4)≤64):hdR (l.take 512)=hdR l:=by
 unfold hdR numR
 rw [tk512 (p:=84) (n:=4) omg,tk512 (p:=88) (n:=leN ((l.drop 84).take 4)) omg]
 rw [tk512 (p:=4) (n:=4) omg,tk512 (p:=8) (n:=8) omg,tk512 (p:=16) (n:=8) omg,tk512 (p:=24) (n:=8) omg,tk512 (p:=32) (n:=4) omg,tk512 (p:=36) (n:=4) omg,tk512 (p:=40) (n:=8) omg,tk512 (p:=48) (n:=4) omg,tk512 (p:=52) (n:=4) omg,tk512 (p:=56) (n:=8) omg,tk512 (p:=64) (n:=4) omg,tk512 (p:=68) (n:=4) omg,tk512 (p:=72) (n:=8) omg,tk512 (p:=80) (n:=4) omg]

set_option maxHeartbeats 8000000 in
theorem RRead_c {v:Value} {l:List UInt8} (hB:Bytes h v l) (hl:l.length<1000000000)
 (ht:∀h' x,Ext h h'→512≤l.length→MayH x→hdB x=l.take 512→K (.tuple #[x.val,.bool true]) h') (hf:∀h',Ext h h'→¬IsHd l→K (.tuple #[Hd0.val,.bool false]) h') :
 CallsH Tryz.prog 54 #[v] h K ⟨⟩:=by
 obtain ⟨o,q0,rfl⟩:=hB.form
 refine n54_calls ?_
 unfold n54; try delta vF vG vC vD vJ vV vk vt
 refine allocH fun g e0 hz zg => ?_
 have hz:HdW g h.size Hd0:=hz
 by_cases h512:l.length<512
 ·skip
  simp (disch:=omega) [-Tryz.st84,-Tryz.ld84,-Tryz.al84]
  refine storeH (x:=Hd0) hz fun g6 m6 hw6 => ?_
  rw [loadCellH hw6.at]
  exact hf _ (m6.ext_from (e0) (fun b hb e=>by omega)) (fun i=>by have:=i.1; omega)
 have hBg:=hB.ext e0
 simp (disch:=omega) [-Tryz.st84,-Tryz.ld84,-Tryz.al84]
 refine RNum_c (p:=84) (n:=4) hBg (.refl _) hl omg omg omg ?_
 obtain ⟨n84,hn84⟩:∃n,leN ((l.drop 84).take 4)=n:=⟨_,rfl⟩
 have hnb:n84<4294967296:=by
  have:=leN_lt ((l.drop 84).take 4)
  rw [List.length_take,List.length_drop,Nat.min_eq_left omg,show (256:Nat)^4=4294967296 by decide] at this
  omega
 have hnr:numR l 84 4=n84:=by
  unfold numR
  rw [hn84,if_neg omg]
 rw [hnr]
 by_cases h64:64<n84
 ·have hno:¬IsHd l:=fun i=>by
   obtain ⟨-,x,hx,hxl⟩:=i
   have h1:=(hdB_back hx).1
   rw [hxl,tk512 omg,hn84] at h1
   have:=hx.bd.2.2.2.2
   omega
  have h64':(64:Int)<n84:=by omega
  simp (disch:=omega) [-Tryz.st84,-Tryz.ld84,-Tryz.al84,h64']
  refine storeH (x:=Hd0) hz fun g6 m6 hw6 => ?_
  rw [loadCellH hw6.at]
  exact hf _ (m6.ext_from (e0) (fun b hb e=>by omega)) (hno)
 have h64':¬(64:Int)<n84:=by omega
 obtain ⟨u8,hu8,su8⟩:=slB2 hBg omg 8 16 omg omg omg
 obtain ⟨u9,hu9,su9⟩:=slB2 hBg omg 88 (88+n84) omg omg omg
 have hu8':Bytes g u8 ((l.drop 8).take 8):=by
  have:(l.take (16:Int).toNat).drop (8:Int).toNat=(l.drop 8).take 8:=by rw [List.drop_take]; rfl
  rw [←this]; exact hu8
 have hu9':Bytes g u9 ((l.drop 88).take n84):=by
  have:(l.take (88+(n84:Int)).toNat).drop (88:Int).toNat=(l.drop 88).take n84:=by
   rw [show (88+(n84:Int)).toNat=88+n84 by omega,show (88:Int).toNat=88 from rfl,List.drop_take,Nat.add_sub_cancel_left]
  rw [←this]; exact hu9
 simp (disch:=omega) [-Tryz.st84,-Tryz.ld84,-Tryz.al84,h64']
 have hX:(⟨numR l 4 4,leN ((l.drop 8).take 8),numR l 16 8,numR l 24 8,numR l 32 4,numR l 36 4,numR l 40 8,numR l 48 4,numR l 52 4,numR l 56 8,numR l 64 4,numR l 68 4,numR l 72 8,numR l 80 4,(l.drop 88).take n84⟩:Hd)=hdR l:=by unfold hdR; rw [hn84]
 refine JoinN_in1 (fun w g'=>w = .pointer (some ⟨g.size,0,none⟩)∧HdW g' g.size ⟨numR l 4 4,leN ((l.drop 8).take 8),numR l 16 8,numR l 24 8,numR l 32 4,numR l 36 4,numR l 40 8,numR l 48 4,numR l 52 4,numR l 56 8,numR l 64 4,numR l 68 4,numR l 72 8,numR l 80 4,(l.drop 88).take n84⟩∧Ext g g') (fun kk hkk => ?_) (fun w g' hx => ?_)
 ·have cvg:=fun q K=>Tryz.cv52_9 (q:=q) (K:=K) hu9'
  have cv2:=fun q K=>Tryz.cv52_9 (q:=q) (K:=K) hu9'
  simp (disch:=omega) [-Tryz.st84,-Tryz.ld84,-Tryz.al84,su8,su9,cvg]
  repeat' (first|(refine And.intro ?_ ?_)|(refine RNum_c (p:=4) (n:=4) hBg (by first|exact Ext.refl _|assumption) hl omg omg omg ?_; (try simp (disch:=omega) [-Tryz.st84,-Tryz.ld84,-Tryz.al84,cvg,cv2]))|(refine RNum_c (p:=16) (n:=8) hBg (by first|exact Ext.refl _|assumption) hl omg omg omg ?_; (try simp (disch:=omega) [-Tryz.st84,-Tryz.ld84,-Tryz.al84,cvg,cv2]))|(refine RNum_c (p:=24) (n:=8) hBg (by first|exact Ext.refl _|assumption) hl omg omg omg ?_; (try simp (disch:=omega) [-Tryz.st84,-Tryz.ld84,-Tryz.al84,cvg,cv2]))|(refine RNum_c (p:=32) (n:=4) hBg (by first|exact Ext.refl _|assumption) hl omg omg omg ?_; (try simp (disch:=omega) [-Tryz.st84,-Tryz.ld84,-Tryz.al84,cvg,cv2]))|(refine RNum_c (p:=36) (n:=4) hBg (by first|exact Ext.refl _|assumption) hl omg omg omg ?_; (try simp (disch:=omega) [-Tryz.st84,-Tryz.ld84,-Tryz.al84,cvg,cv2]))|(refine RNum_c (p:=40) (n:=8) hBg (by first|exact Ext.refl _|assumption) hl omg omg omg ?_; (try simp (disch:=omega) [-Tryz.st84,-Tryz.ld84,-Tryz.al84,cvg,cv2]))|(refine RNum_c (p:=48) (n:=4) hBg (by first|exact Ext.refl _|assumption) hl omg omg omg ?_; (try simp (disch:=omega) [-Tryz.st84,-Tryz.ld84,-Tryz.al84,cvg,cv2]))|(refine RNum_c (p:=52) (n:=4) hBg (by first|exact Ext.refl _|assumption) hl omg omg omg ?_; (try simp (disch:=omega) [-Tryz.st84,-Tryz.ld84,-Tryz.al84,cvg,cv2]))|(refine RNum_c (p:=56) (n:=8) hBg (by first|exact Ext.refl _|assumption) hl omg omg omg ?_; (try simp (disch:=omega) [-Tryz.st84,-Tryz.ld84,-Tryz.al84,cvg,cv2]))|(refine RNum_c (p:=64) (n:=4) hBg (by first|exact Ext.refl _|assumption) hl omg omg omg ?_; (try simp (disch:=omega) [-Tryz.st84,-Tryz.ld84,-Tryz.al84,cvg,cv2]))|(refine RNum_c (p:=68) (n:=4) hBg (by first|exact Ext.refl _|assumption) hl omg omg omg ?_; (try simp (disch:=omega) [-Tryz.st84,-Tryz.ld84,-Tryz.al84,cvg,cv2]))|(refine RNum_c (p:=72) (n:=8) hBg (by first|exact Ext.refl _|assumption) hl omg omg omg ?_; (try simp (disch:=omega) [-Tryz.st84,-Tryz.ld84,-Tryz.al84,cvg,cv2]))|(refine RNum_c (p:=80) (n:=4) hBg (by first|exact Ext.refl _|assumption) hl omg omg omg ?_; (try simp (disch:=omega) [-Tryz.st84,-Tryz.ld84,-Tryz.al84,cvg,cv2]))|(refine Value_c (hu8'.ext (by first|exact Ext.refl _|assumption)) (by simp; omega) ?_; (try simp (disch:=omega) [-Tryz.st84,-Tryz.ld84,-Tryz.al84,cvg,cv2]))|(refine allocH fun g2 e2 hz2 zg2 => ?_; have cv2:=fun q K=>Tryz.cv52_9 (q:=q) (K:=K) (hu9'.ext e2); (try simp (disch:=omega) [-Tryz.st84,-Tryz.ld84,-Tryz.al84,cvg,cv2]))|(refine storeH (x:=⟨numR l 4 4,leN ((l.drop 8).take 8),numR l 16 8,numR l 24 8,numR l 32 4,numR l 36 4,numR l 40 8,numR l 48 4,numR l 52 4,numR l 56 8,numR l 64 4,numR l 68 4,numR l 72 8,numR l 80 4,(l.drop 88).take n84⟩) hz2 fun g3 m3 hw3 => ?_; exact hkk _ _ ⟨rfl,hw3,m3.ext_from e2 (fun b hb e=>by omega)⟩))
 ·obtain ⟨rfl,hw,e5⟩:=hx
  rw [hX] at hw
  have hno:∀x,MayH x→hdB x=l.take 512→x=hdR l:=fun x hx hxl=>by
   rw [←hdR_512 omg,←hxl,hdR_hdB hx]
  have hT:Bytes g' (.slice o l.length q0) l:=hBg.ext e5
  rw [loadH hw.at]
  refine May_c (x:=hdR l) (by show ((l.drop 88).take _).length<_; rw [List.length_take,List.length_drop]; omega) (fun h6 e6 hM => ?_) (fun h6 e6 hM => ?_)
  ·obtain ⟨u,hu,su⟩:=slB0 (hT.ext e6) omg 512 omg omg
   have hw6:=hw.ext e6
   have hz6:=hz.ext (e5.trans e6)
   have E6:=e0.trans (e5.trans e6)
   have lx:=fun q K=>loadH (q:=q) (K:=K) hw6.at
   have cu:=fun q K=>Tryz.cv52_9 (q:=q) (K:=K) hu
   simp (disch:=omega) [-Tryz.st84,-Tryz.ld84,-Tryz.al84,lx,su,cu]
   refine RBytes_c hM fun vv h7 e7 hB7 => ?_
   have cu7:=fun q K=>Tryz.cv52_9 (q:=q) (K:=K) (hu.ext e7)
   have c7:=fun q K=>Tryz.cv52_9 (q:=q) (K:=K) hB7
   have hw7:=hw6.ext e7
   have hz7:=hz6.ext e7
   have lx7:=fun q K=>loadH (q:=q) (K:=K) hw7.at
   have E7:=E6.trans e7
   by_cases he:hdB (hdR l)=l.take 512
   ·simp (disch:=omega) [-Tryz.st84,-Tryz.ld84,-Tryz.al84,lx7,cu7,c7,he]
    refine storeH (x:=hdR l) hz7 fun g8 m8 hw8 => ?_
    rw [loadCellH hw8.at]
    exact ht _ _ (m8.ext_from E7 (fun b hb e=>by omega)) omg hM he
   ·simp (disch:=omega) [-Tryz.st84,-Tryz.ld84,-Tryz.al84,lx7,cu7,c7,he]
    refine storeH (x:=Hd0) hz7 fun g6 m6 hw6 => ?_
    rw [loadCellH hw6.at]
    exact hf _ (m6.ext_from (E7) (fun b hb e=>by omega)) (fun i=>i.2.elim fun x hx=>he (by rw [←hno x hx.1 hx.2]; exact hx.2))
  ·have hz6:=hz.ext (e5.trans e6)
   have E6:=e0.trans (e5.trans e6)
   simp (disch:=omega) [-Tryz.st84,-Tryz.ld84,-Tryz.al84]
   refine storeH (x:=Hd0) hz6 fun g6 m6 hw6 => ?_
   rw [loadCellH hw6.at]
   exact hf _ (m6.ext_from (E6) (fun b hb e=>by omega)) (fun i=>i.2.elim fun x hx=>hM (by rw [←hno x hx.1 hx.2]; exact hx.1))
end Go.Proofs.YtdccfkffabngjaaGreat
set_option linter.unusedSimpArgs false
set_option linter.unusedVariables false
namespace Go.Proofs.YtdccfkffabngjaaGreat
open Go.Vc
variable {K:VP} {h:Heap}

end Go.Proofs.YtdccfkffabngjaaGreat
set_option linter.unusedSimpArgs false
set_option linter.unusedVariables false
namespace Go.Proofs.YtdccfkffabngjaaGreat
open Go.Vc
variable {K:VP} {h:Heap}

end Go.Proofs.YtdccfkffabngjaaGreat
set_option linter.unusedSimpArgs false
set_option linter.unusedVariables false
set_option maxRecDepth 20000
namespace Go.Proofs.YtdccfkffabngjaaGreat
open Go.Vc
variable {K:VP} {h:Heap}

theorem bPart2 {ad:Addr} {n c:Nat} {l:List UInt8} (hB:Bytes h (.slice (some ad) n c) l) {i m:Nat} (hi:i+m≤l.length) (hm:0<m) :
 Bytes h (.slice (some (sub ad i c)) m (c-i)) (part l i m):=by
 obtain ⟨a,e,hn,hc,hA⟩:=hB.at omg
 cases e
 refine .inr ⟨sub ad i c,c-i,?_,?_,?_⟩
 ·rw [part_len hi]
 ·rw [part_len hi]; omega
 ·have:=hA.part i (i+m) c omg hi hc
  unfold part
  rw [show (l.drop i).take m=(l.take (i+m)).drop i by rw [List.drop_take]; congr 1; omega]
  exact this
theorem lBytes_c {sp:Nat} {s:St} {p:Fs} (a:StAt h sp s) (f:FsAt s p) (H:∀h' v,Ext h h'→OwnT bT 1 h' v (p.f.now.map byteV)→(∀b,blkV v=some b→h.size≤b)→K v h') :
 CallsH Tryz.prog 18 #[ptrV sp] h K ⟨⟩:=by
 refine n18_calls ?_
 unfold n18; try delta vF vG vC vD vJ vV vk vt
 have ho:=f.ok a
 have hl:=ho.now_len
 have hf:=ho.few
 rw [show str [97]=str nA from rfl]
 refine sRead_c a f omg omg omg omg fun h1 v e1 ov fv => ?_
 simp (disch:=omega)
 have:(p.f.now.drop (0:Int).toNat).take (268435456:Int).toNat=p.f.now:=by
  rw [show (0:Int).toNat=0 from rfl,show (268435456:Int).toNat=268435456 from rfl,List.drop_zero,List.take_of_length_le omg]
 rw [this] at ov
 exact H h1 v e1 ov fv
theorem Per_c {g:Gm} (kk:g.ok) (H:K (.int .i64 (g.n:Nat)) h):CallsH Tryz.prog 10 #[.int .i64 (g.b:Nat),.int .i64 (g.o:Nat)] h K ⟨⟩:=by
 refine n10_calls ?_
 unfold n10; try delta vF vG vC vD vJ vV vk vt
 have h0:=kk.b0
 have h1:=kk.b1
 refine Cluster_c omg omg ?_
 have hcc:(2:Int)^((g.b:Nat):Int).toNat=((g.c:Nat):Int):=by rw [Int.toNat_natCast]; unfold Gm.c; rw [Int.natCast_pow]; rfl
 rw [hcc]
 obtain ⟨q,hq,hq1,hq2⟩:=kk.c512
 obtain ⟨C8,hC8⟩:∃C,8*g.c=C:=⟨_,rfl⟩
 have hC8':(8:Int)*((g.c:Nat):Int)=((C8:Nat):Int):=by omega
 simp (disch:=omega) [hC8']
 refine RefWidth_c ?_
 rw [kk.wd_w]
 have hw:=kk.w64
 have hdiv:((C8:Nat):Int)/((g.w:Nat):Int)=((g.n:Nat):Int):=by
  rw [←Int.natCast_ediv,←hC8,←kk.nw,Nat.mul_div_cancel _ omg]
 simp (disch:=omega) [hdiv]
 exact H
set_option maxHeartbeats 8000000 in
theorem rCount_c {g:Gm} {x:Hd} {B:List UInt8} {v:Value} {k:Int} (kk:g.ok) (hd:HdOk g x) (I:Img g x B) (hB:Bytes h v B) (hk0 : -9223372036854775808≤k∧k<9223372036854775808)
 (H0:∀h',Ext h h'→¬(0≤k∧k<g.room)→K (.tuple #[.int .u64 0,.bool false]) h')
 (H1:∀h',Ext h h'→0≤k→k<g.room→K (.tuple #[.int .u64 (g.cnt B k.toNat:Nat),.bool true]) h') :
 CallsH Tryz.prog 17 #[v,.int .i64 k] h K ⟨⟩:=by
 refine n17_calls ?_
 unfold n17; try delta vF vG vC vD vJ vV vk vt
 have hfew:=I.few
 refine RRead_c hB omg (fun h1 y e1 h512 hM hy => ?_) (fun h1 e1 hno => ?_)
 ·have hhead:B.take 512=hdB x:=by have:=I.head; unfold part at this; rw [List.drop_zero] at this; exact this
  rw [hhead] at hy
  obtain rfl:y=x:=hdB_inj hM hd.may hy
  simp (disch:=omega) [-Tryz.st84,-Tryz.ld84,-Tryz.al84]
  refine allocH fun h3 e3 hw3 z3 => ?_
  refine storeH (x:=y) hw3 fun h4 m4 hw4 => ?_
  have hz1:=e1.size
  have z4:=m4.size
  have E4:Ext h h4:=m4.ext_from (e1.trans e3) (fun b hb he=>by omega)
  have hA:=hw4.at
  by_cases hkn:k<0
  ·simp (disch:=omega) [hkn]
   exact H0 h4 E4 omg
  have d0:=hA.1
  have d5:=hA.2.2.2.2.2.1
  have d6:=hA.2.2.2.2.2.2.1
  have d7:=hA.2.2.2.2.2.2.2.1
  rw [hd.bits] at d0
  rw [hd.order] at d5
  rw [hd.counts] at d6
  rw [hd.clen] at d7
  have hb0:=kk.b0
  have hb1:=kk.b1
  have hnn:=kk.n64
  have hrl:=kk.room_lt
  obtain ⟨k,rfl⟩:=Int.eq_ofNat_of_zero_le (Int.not_lt.1 hkn)
  have hcc:(2:Int)^((g.b:Nat):Int).toNat=((g.c:Nat):Int):=by rw [Int.toNat_natCast]; unfold Gm.c; rw [Int.natCast_pow]; rfl
  simp (disch:=omega) [hkn,d0]
  refine Cluster_c omg omg ?_
  rw [hcc]
  simp (disch:=omega) [d0,d5]
  refine Per_c kk ?_
  obtain ⟨D,hD⟩:∃D,k/g.n=D:=⟨_,rfl⟩
  obtain ⟨M,hM'⟩:∃M,k%g.n=M:=⟨_,rfl⟩
  have hkd:((k:Nat):Int)/((g.n:Nat):Int)=((D:Nat):Int):=by rw [←hD]; exact (Int.natCast_ediv _ _).symm
  have hkm:((k:Nat):Int)%((g.n:Nat):Int)=((M:Nat):Int):=by rw [←hM']; exact (Int.natCast_emod _ _).symm
  have hDk:D≤k:=by rw [←hD]; exact Nat.div_le_self _ _
  obtain ⟨LC,hLC⟩:∃L,g.L*g.c=L:=⟨_,rfl⟩
  have hLC':((g.L:Nat):Int)*((g.c:Nat):Int)=((LC:Nat):Int):=by rw [←hLC,Int.natCast_mul]
  have hm8:=kk.m8
  rw [hLC] at hm8 hrl
  have hLC8:((LC:Nat):Int)/8=((g.m:Nat):Int):=by omega
  obtain ⟨AD,hAD⟩:∃A,g.c+8*D=A:=⟨_,rfl⟩
  have hAD':((g.c:Nat):Int)+8*((D:Nat):Int)=((AD:Nat):Int):=by omega
  have hDb:D≤k/64:=by rw [←hD]; exact Nat.div_le_div_left hnn.1 omg
  have hroom:(D<g.m↔k<g.room):=by
   rw [←hD,Nat.div_lt_iff_lt_mul omg]; exact Iff.rfl
  by_cases hDm:¬D<g.m
  ·have hge:((D:Nat):Int)≥((g.m:Nat):Int):=by omega
   simp (disch:=omega) [d6,d7,hkd,hAD',hLC',hLC8,hge]
   exact H0 h4 E4 (fun hh=>hDm (hroom.2 omg))
  replace hDm:=Classical.not_not.1 hDm
  have hkr:=hroom.1 hDm
  have hnge:¬((D:Nat):Int)≥((g.m:Nat):Int):=by omega
  have hwf:=I.word_fit kk hDm
  rw [hAD] at hwf
  obtain ⟨vo,vc,rfl⟩:=hB.form
  obtain ⟨va,rfl,-,hvc,hvA⟩:=hB.at omg
  have hB4:=hB.ext E4
  have hcnt:g.cnt B k=if g.word B D=0 then 0 else Vc.cnt (g.blk B D) g.w M:=by unfold Gm.cnt; rw [hD,hM']
  rw [Int.toNat_natCast,hcnt] at H1
  have hMn:M<g.n:=by rw [←hM']; exact Nat.mod_lt _ omg
  have hA1:((AD:Nat):Int)+8=((AD+8:Nat):Int):=by omega
  have hA2:(((AD:Nat):Int)+8).toNat-AD=8:=by omega
  have hngt:¬((AD:Nat):Int)>((B.length:Nat):Int)-8:=by omega
  simp (disch:=omega) [d6,d7,hkd,hAD',hLC',hLC8,hnge,hngt,hA2]
  refine Value_c (bPart2 hB4 (i:=AD) (m:=8) omg omg) (by rw [part_len omg]; decide) ?_
  have hwd:leN (part B AD 8)=g.word B D:=by rw [←hAD]; rfl
  rw [hwd]
  by_cases hw:g.word B D=0
  ·rw [if_pos hw] at H1
   rw [hw]
   simp (disch:=omega)
   exact H1 h4 E4 omg omg
  ·rw [if_neg hw] at H1
   obtain ⟨hp,hle⟩:=I.wi D hDm hw
   have hbl:=blk_len I hDm hw
   rw [←hp] at hle
   have hblk:g.blk B D=part B (g.word B D) g.c:=by unfold Gm.blk; rw [hp]
   rw [hblk] at H1 hbl
   generalize g.word B D=W at *
   have hsum:((W:Nat):Int)+((g.c:Nat):Int)=((W+g.c:Nat):Int):=by omega
   have hs2:(((W+g.c:Nat):Int)).toNat-W=g.c:=by omega
   obtain ⟨q,hq,hq1,hq2⟩:=kk.c512
   have hngt2:¬((W:Nat):Int)>((B.length:Nat):Int)-((g.c:Nat):Int):=by omega
   have hw0:¬((W:Nat):Int)=0:=by omega
   obtain ⟨WC,hWC⟩:∃X,W+g.c=X:=⟨_,rfl⟩
   rw [hWC] at hsum hs2 hle
   have hs3:WC-W=g.c:=by omega
   simp (disch:=omega) [hw0,hngt2,hsum,d5,hkm,hs3]
   have hin:=kk.in_block hMn
   have hwd2:=kk.wd_w
   have hw64:=kk.w64
   refine RefAt_c (o:=((g.o:Nat):Int)) (n:=M) (bPart2 hB4 (i:=W) (m:=g.c) omg omg) (by rw [hbl]; omega) (by rw [hwd2]; omega) (by rw [hwd2,hbl]; exact hin) ?_
   rw [hwd2]
   exact H1 h4 E4 omg omg
 ·refine absurd (show IsHd B from ⟨?_,x,hd.may,?_⟩) hno
  ·obtain ⟨q,hq,hq1,hq2⟩:=kk.c512
   have:=I.word_fit kk (i:=0) (by have:=kk.m0; omega)
   omega
  ·have:=I.head; unfold part at this; rw [List.drop_zero] at this; exact this.symm
end Go.Proofs.YtdccfkffabngjaaGreat
set_option linter.unusedSimpArgs false
set_option linter.unusedVariables false
set_option maxRecDepth 20000
namespace Go.Proofs.YtdccfkffabngjaaGreat
open Go.Vc
variable {K:VP} {h:Heap}

theorem ext_modN {S:Nat→Prop} {h1 h2:Heap} (e:Ext h h1) (m:Mod S h1 h2) (hS:∀b,S b→h.size≤b):Ext h h2:=m.ext_from e (fun b hb hs=>by have:=hS b hs; omega)
theorem rOver_c {k:Nat} {v w:Value} {l m:List UInt8} (hB:Bytes h v l) (hx:Bytes h w m) (hl:l.length<1000000000) (hk:k+m.length≤l.length) (h0:0<l.length)
 (H:∀v' h',Ext h h'→OwnS 1 h' v' ((over l k m).map byteV)→(∀b,blkV v'=some b→h.size≤b)→K v' h') :
 CallsH Tryz.prog 74 #[v,.int .i64 (k:Nat),w] h K ⟨⟩:=by
 refine n74_calls ?_
 unfold n74; try delta vF vG vC vD vJ vV vk vt
 obtain ⟨o,c,rfl⟩:=hB.form
 obtain ⟨a,rfl,-,hq,hAt⟩:=hB.at h0
 have hP1:Bytes h (.slice (some a) k c) (l.take k):=by
  have hp:=hAt.part 0 k c omg omg hq
  rw [sub_zero,List.drop_zero] at hp
  exact .inr ⟨_,_,by congr 1; simp; omega,by simp; omega,hp⟩
 have hP2:Bytes h (.slice (some (sub a (k+m.length) c)) (l.length-(k+m.length)) (c-(k+m.length))) (l.drop (k+m.length)):=by
  have hp:=hAt.part (k+m.length) l.length c omg omg hq
  rw [List.take_length] at hp
  exact .inr ⟨_,_,by congr 1; simp,by simp; omega,hp⟩
 have hn1:((k:Nat):Int).toNat=k:=Int.toNat_natCast k
 obtain ⟨wo,wc,rfl⟩:=hx.form
 refine (Hp_slcNH kR omg omg).2 ?_
 rw [hn1,ValT_iff]
 refine Hp_appB (e:=5) (l:=[]) kR kR .nil hP1 (by simp; omega) fun v1 h1 o1 m1 f1 _ => ?_
 have e1:Ext h h1:=m1.ext (fun b _ e=>by cases e)
 have g1:∀b,blkV v1=some b→h.size≤b:=fun b hb=>(f1 b hb).resolve_left (by rintro ⟨⟩)
 simp only [List.nil_append] at o1
 have ll1:(l.take k).length=k:=by simp; omega
 refine Hp_appB (e:=5) (l:=l.take k) kR kR o1 (hx.ext e1) (by rw [ll1]; omega) fun v2 h2 o2 m2 f2 _ => ?_
 have e2:Ext h h2:=ext_modN e1 m2 g1
 have s1:=e1.size
 have g2:∀b,blkV v2=some b→h.size≤b:=fun b hb=>(f2 b hb).elim (g1 b) (fun x=>by omega)
 obtain ⟨E,hE⟩:∃E,k+m.length=E:=⟨_,rfl⟩
 have hkm:((k:Nat):Int)+((m.length:Nat):Int)=((E:Nat):Int):=by omega
 simp (disch:=omega) [hkm]
 rw [hE] at hP2 hk
 refine Hp_appB (e:=5) (l:=l.take k++m) kR kR o2 (hP2.ext e2) (by rw [List.length_append,ll1,List.length_drop]; omega) fun v3 h3 o3 m3 f3 _ => ?_
 have e3:Ext h h3:=ext_modN e2 m3 g2
 have s2:=e2.size
 subst hE
 exact H v3 h3 e3 o3 (fun b hb=>(f3 b hb).elim (g2 b) (fun x=>by omega))
end Go.Proofs.YtdccfkffabngjaaGreat
set_option linter.unusedSimpArgs false
set_option linter.unusedVariables false
namespace Go.Proofs.YtdccfkffabngjaaGreat
open Go.Vc
variable {K:VP} {h:Heap}

def wkT:Nat:=130
def hoT:Nat:=183
def fiT:Nat:=134
def hoV (k:Nat):List Value:=[.int .i64 (k:Nat),.int .i64 1]
def fiV (f:Nat×Nat×Nat):List Value:=[.int .i64 7,.int .i64 (f.1:Nat),.int .u64 (f.2.1:Nat),.int .u64 (f.2.2:Nat)]
structure Wk where
 bv:Value
 hv:Value
 fv:Value
 rv:Value
 kv:Value
 br:Bool
 cl:Int
 hd:Int
 act:Bool
def Wk.cells (W:Wk) (x:Hd):Array Value :=
 #[W.bv,.int .i64 x.bits,.int .u64 x.flags,.int .i64 x.size,.int .i64 x.l1,.int .i64 x.l1len,.int .i64 x.order,.int .i64 x.counts,.int .i64 x.clen,.int .i64 x.snaps,.int .i64 x.sat,.int .i64 x.slen,.int .i64 x.maps,.int .i64 x.mat,.int .i64 x.mlen,str x.back,
  W.hv,W.fv,W.rv,.bool W.br,.int .i64 W.cl,.int .i64 W.hd,.int .i64 0,.int .i64 0,.int .i64 0,.bool W.act,W.kv]
structure WkAt (g0 h:Heap) (w:Nat) (x:Hd) (W:Wk) (B:List UInt8) (H:List Nat) (F R:List (Nat×Nat×Nat)) (Bk:List Nat):Prop where
 ext:Ext g0 h
 c:h[w]? = some (.cells (W.cells x) wkT)
 b:Bytes g0 W.bv B
 hh:OwnG hoT 2 h W.hv (H.flatMap hoV)
 ff:OwnG fiT 4 h W.fv (F.flatMap fiV)
 rr:OwnG fiT 4 h W.rv (R.flatMap fiV)
 kk:OwnG i6T 1 h W.kv (Bk.map fun k => .int .i64 (k:Nat))
 nw:g0.size≤w
 nh:∀b,blkG W.hv=some b→g0.size≤b
 nf:∀b,blkG W.fv=some b→g0.size≤b
 nr:∀b,blkG W.rv=some b→g0.size≤b
 nk:∀b,blkG W.kv=some b→g0.size≤b
 rf:∀b,blkG W.rv=some b→blkG W.fv≠some b
variable {g0:Heap} {w:Nat} {x:Hd} {W:Wk} {B:List UInt8} {H:List Nat} {F R:List (Nat×Nat×Nat)} {Bk:List Nat}
theorem WkAt.ext' {h':Heap} (a:WkAt g0 h w x W B H F R Bk) (e:Ext h h'):WkAt g0 h' w x W B H F R Bk :=
 ⟨a.ext.trans e,(e.block _ (get_some_lt a.c)).trans a.c,a.b,a.hh.ext e,a.ff.ext e,a.rr.ext e,a.kk.ext e,a.nw,a.nh,a.nf,a.nr,a.nk,a.rf⟩
theorem WkAt.bytes (a:WkAt g0 h w x W B H F R Bk):Bytes h W.bv B:=a.b.ext a.ext
theorem own_ne {e s e' s':Nat} {v v':Value} {vs vs':List Value} (o:OwnG e s h v vs) (o':OwnG e' s' h v' vs') (hne:e≠e') {b:Nat} (h1:blkG v=some b):blkG v'≠some b:=fun h2=>by
 obtain ⟨arr,ha⟩:=o'.tag h2
 exact o.ne h1 ha hne rfl
theorem own_nw (a:WkAt g0 h w x W B H F R Bk) {e s:Nat} {v:Value} {vs:List Value} (o:OwnG e s h v vs) (hne:e≠wkT) {b:Nat} (h1:blkG v=some b):b≠w:=o.ne h1 a.c hne
theorem WkAt.set {i:Nat} {v:Value} {W':Wk} {h1:Heap} {S:Nat→Prop} {H':List Nat} {F' R':List (Nat×Nat×Nat)} {Bk':List Nat} (a:WkAt g0 h w x W B H F R Bk) (m:Mod S h h1) (hS:∀b,b<h.size→S b→g0.size≤b∧b≠w) (hc:(W.cells x).setIfInBounds i v=W'.cells x) (hb:W'.bv=W.bv)
 (hh:OwnG hoT 2 h1 W'.hv (H'.flatMap hoV)) (ff:OwnG fiT 4 h1 W'.fv (F'.flatMap fiV)) (rr:OwnG fiT 4 h1 W'.rv (R'.flatMap fiV)) (kk:OwnG i6T 1 h1 W'.kv (Bk'.map fun k => .int .i64 (k:Nat)))
 (nh:∀b,blkG W'.hv=some b→g0.size≤b) (nf:∀b,blkG W'.fv=some b→g0.size≤b) (nr:∀b,blkG W'.rv=some b→g0.size≤b) (nk:∀b,blkG W'.kv=some b→g0.size≤b) (rf:∀b,blkG W'.rv=some b→blkG W'.fv≠some b) :
 WkAt g0 (hset h1 ⟨w,i,none⟩ v) w x W' B H' F' R' Bk':=by
 have hw:=get_some_lt a.c
 have c1:h1[w]? = some (.cells (W.cells x) wkT):=(m.block w hw (fun hs=>(hS w hw hs).2 rfl)).trans a.c
 have m2:=Mod.set h1 ⟨w,i,none⟩ v
 have E1:Ext g0 h1:=m.ext_from a.ext (fun b hb1 hs=>by have:=(hS b (by have:=a.ext.size; omega) hs).1; omega)
 have hnw:∀{e s:Nat} {u:Value} {us:List Value},OwnG e s h1 u us→e≠wkT→∀b,blkG u=some b→¬b=w:=fun o hne b hb=>o.ne hb c1 hne
 refine ⟨m2.ext_from E1 (fun b hb1 e=>by have h2:b=w:=e; have:=a.nw; omega),?_,hb▸a.b,hh.mod m2 (hnw hh dM),ff.mod m2 (hnw ff dM),rr.mod m2 (hnw rr dM),kk.mod m2 (hnw kk dM),a.nw,nh,nf,nr,nk,rf⟩
 rw [←hc]
 exact obj_set c1
theorem WkAt.num {i:Nat} {v:Value} {W':Wk} (a:WkAt g0 h w x W B H F R Bk) (hc:(W.cells x).setIfInBounds i v=W'.cells x) (hs:W'.bv=W.bv∧W'.hv=W.hv∧W'.fv=W.fv∧W'.rv=W.rv∧W'.kv=W.kv):WkAt g0 (hset h ⟨w,i,none⟩ v) w x W' B H F R Bk:=by
 obtain ⟨h1,h2,h3,h4,h5⟩:=hs
 exact a.set (S:=fun _=>False) (.refl _ _) (fun _ _ h=>h.elim) hc h1 (h2▸a.hh) (h3▸a.ff) (h4▸a.rr) (h5▸a.kk) (h2▸a.nh) (h3▸a.nf) (h4▸a.nr) (h5▸a.nk) (by rw [h3,h4]; exact a.rf)
theorem WkAt.putH {v':Value} {h1:Heap} {k:Nat} (a:WkAt g0 h w x W B H F R Bk) (o:OwnG hoT 2 h1 v' (H.flatMap hoV++hoV k)) (m:Mod (fun b=>blkG W.hv=some b) h h1) (hb:∀b,blkG v'=some b→blkG W.hv=some b∨h.size≤b) :
 WkAt g0 (hset h1 ⟨w,16,none⟩ v') w x { W with hv:=v' } B (H++[k]) F R Bk:=by
 have he:=a.ext.size
 refine a.set m (fun b _ hs=>⟨a.nh b hs,own_nw a a.hh dM hs⟩) rfl rfl (by rw [List.flatMap_append]; simpa using o) (a.ff.mod m (fun b hb hs=>own_ne a.hh a.ff dM hs hb)) (a.rr.mod m (fun b hb hs=>own_ne a.hh a.rr dM hs hb)) (a.kk.mod m (fun b hb hs=>own_ne a.hh a.kk dM hs hb))
  (fun b h1=>(hb b h1).elim (a.nh b) (fun h=>by omega)) a.nf a.nr a.nk a.rf
theorem WkAt.putF {v':Value} {h1:Heap} {f:Nat×Nat×Nat} (a:WkAt g0 h w x W B H F [] Bk) (hr:blkG W.rv=none) (o:OwnG fiT 4 h1 v' (F.flatMap fiV++fiV f)) (m:Mod (fun b=>blkG W.fv=some b) h h1) (hb:∀b,blkG v'=some b→blkG W.fv=some b∨h.size≤b) :
 WkAt g0 (hset h1 ⟨w,17,none⟩ v') w x { W with fv:=v' } B H (F++[f]) [] Bk:=by
 have he:=a.ext.size
 refine a.set m (fun b _ hs=>⟨a.nf b hs,own_nw a a.ff dM hs⟩) rfl rfl (a.hh.mod m (fun b hb hs=>own_ne a.ff a.hh dM hs hb)) (by rw [List.flatMap_append]; simpa using o) (a.rr.mod m (fun b hb hs=>by rw [hr] at hb; cases hb)) (a.kk.mod m (fun b hb hs=>own_ne a.ff a.kk dM hs hb))
  a.nh (fun b h1=>(hb b h1).elim (a.nf b) (fun h=>by omega)) a.nr a.nk (fun b h1=>by rw [hr] at h1; cases h1)
theorem WkAt.putK {v':Value} {h1:Heap} {k:Nat} (a:WkAt g0 h w x W B H F R Bk) (o:OwnG i6T 1 h1 v' ((Bk.map fun k => .int .i64 (k:Nat))++[.int .i64 (k:Nat)])) (m:Mod (fun b=>blkG W.kv=some b) h h1) (hb:∀b,blkG v'=some b→blkG W.kv=some b∨h.size≤b) :
 WkAt g0 (hset h1 ⟨w,26,none⟩ v') w x { W with kv:=v' } B H F R (Bk++[k]):=by
 have he:=a.ext.size
 refine a.set m (fun b _ hs=>⟨a.nk b hs,own_nw a a.kk dM hs⟩) rfl rfl (a.hh.mod m (fun b hb hs=>own_ne a.kk a.hh dM hs hb)) (a.ff.mod m (fun b hb hs=>own_ne a.kk a.ff dM hs hb)) (a.rr.mod m (fun b hb hs=>own_ne a.kk a.rr dM hs hb)) (by rw [List.map_append]; simpa using o)
  a.nh a.nf a.nr (fun b h1=>(hb b h1).elim (a.nk b) (fun h=>by omega)) a.rf
theorem WkAt.putR {v':Value} {h1:Heap} {R':List (Nat×Nat×Nat)} (a:WkAt g0 h w x W B H F R Bk) (e:Ext h h1) (o:OwnG fiT 4 h1 v' (R'.flatMap fiV)) (hb:∀b,blkG v'=some b→h.size≤b) :
 WkAt g0 (hset h1 ⟨w,18,none⟩ v') w x { W with rv:=v' } B H F R' Bk:=by
 have he:=a.ext.size
 refine a.set (S:=fun _=>False) (.of_ext e) (fun _ _ h=>h.elim) rfl rfl (a.hh.ext e) (a.ff.ext e) o (a.kk.ext e) a.nh a.nf (fun b h1=>by have:=hb b h1; omega) a.nk (fun b h1 h2=>by have:=hb b h1; have:=a.ff.lt h2; omega)
end Go.Proofs.YtdccfkffabngjaaGreat
set_option linter.unusedSimpArgs false
set_option linter.unusedVariables false
set_option maxRecDepth 20000
namespace Go.Proofs.YtdccfkffabngjaaGreat
open Go.Vc
variable {K:VP} {h:Heap} {g0:Heap} {w:Nat} {x:Hd} {W:Wk} {B:List UInt8} {H:List Nat} {F R:List (Nat×Nat×Nat)} {Bk:List Nat} {g:Gm}

theorem wClu_c (kk:g.ok) (hd:HdOk g x) (a:WkAt g0 h w x W B H F R Bk) (hK:K (.int .i64 (g.c:Nat)) h):CallsH Tryz.prog 117 #[ptrV w] h K ⟨⟩:=by
 refine n117_calls ?_
 unfold n117; try delta vF vG vC vD vJ vV vk vt
 have c1:hcell h ⟨w,1,none⟩=some (.int .i64 x.bits):=cellOf (i:=1) a.c rfl
 rw [hd.bits] at c1
 have h0:=kk.b0
 have h1:=kk.b1
 have hcc:(2:Int)^((g.b:Nat):Int).toNat=((g.c:Nat):Int):=by rw [Int.toNat_natCast]; unfold Gm.c; rw [Int.natCast_pow]; rfl
 unfold ptrV
 simp (disch:=omega) [c1]
 refine Cluster_c omg omg ?_
 rw [hcc]
 exact hK
theorem wAll_c (kk:g.ok) (hd:HdOk g x) (a:WkAt g0 h w x W B H F R Bk) (hfew:B.length≤268435456) (hK:K (.int .i64 (B.length/g.c:Nat)) h):CallsH Tryz.prog 61 #[ptrV w] h K ⟨⟩:=by
 refine n61_calls ?_
 unfold n61; try delta vF vG vC vD vJ vV vk vt
 have c0:hcell h ⟨w,0,none⟩=some W.bv:=cellOf (i:=0) a.c rfl
 obtain ⟨vo,vc,hv⟩:=a.bytes.form
 rw [hv] at c0
 obtain ⟨q,hq,hq1,hq2⟩:=kk.c512
 unfold ptrV
 simp (disch:=omega) [c0]
 rw [show (.pointer (some ⟨w,0,none⟩):Value)=ptrV w from rfl]
 refine wClu_c kk hd a ?_
 have hdiv:((B.length:Nat):Int)/((g.c:Nat):Int)=((B.length/g.c:Nat):Int):=(Int.natCast_ediv _ _).symm
 obtain ⟨A,hA⟩:∃A,B.length/g.c=A:=⟨_,rfl⟩
 have hal2:B.length/g.c≤B.length:=Nat.div_le_self _ _
 rw [hA] at hdiv hK hal2
 unfold ptrV
 simp (disch:=omega) [c0,hdiv]
 exact hK
theorem wIn_c (kk:g.ok) (hd:HdOk g x) (a:WkAt g0 h w x W B H F R Bk) {cl u PL:Nat} {n:Int} (hPL:cl*g.c=PL) (h1:1≤cl) (hu:upQ n ((g.c:Nat):Int)=(u:Nat)) (hn:0≤n∧n≤1000000000) (hf:(cl+u)*g.c≤B.length) (hu1:1≤u) (hfew:B.length≤268435456) (hK:K (.bool true) h) :
 CallsH Tryz.prog 164 #[ptrV w,.int .i64 (PL:Nat),.int .i64 n] h K ⟨⟩:=by
 refine n164_calls ?_
 unfold n164; try delta vF vG vC vD vJ vV vk vt
 obtain ⟨q,hq,hq1,hq2⟩:=kk.c512
 refine wClu_c kk hd a ?_
 have hall:cl+u≤B.length/g.c:=(Nat.le_div_iff_mul_le omg).2 hf
 have hal2:B.length/g.c≤B.length:=Nat.div_le_self _ _
 obtain ⟨A,hA⟩:∃A,B.length/g.c=A:=⟨_,rfl⟩
 rw [hA] at hall hal2
 have hAll:=fun (K:VP) (hK:K (.int .i64 (A:Nat)) h)=>wAll_c (K:=K) kk hd a hfew (by rw [hA]; exact hK)
 have hPle:cl*g.c≤(cl+u)*g.c:=Nat.mul_le_mul_right _ omg
 have hPge:1*g.c≤cl*g.c:=Nat.mul_le_mul_right _ h1
 have hmod:((cl*g.c:Nat):Int)%((g.c:Nat):Int)=0:=by rw [←Int.natCast_emod,Nat.mul_mod_left]; rfl
 have hdiv:((cl*g.c:Nat):Int)/((g.c:Nat):Int)=((cl:Nat):Int):=by rw [←Int.natCast_ediv,Nat.mul_div_cancel _ omg]
 rw [hPL] at hPle hPge hmod hdiv
 simp (disch:=omega) [hmod,hdiv]
 refine hAll _ ?_
 simp (disch:=omega)
 refine Up_c hn.1 omg omg omg ?_
 rw [hu]
 simp (disch:=omega)
 refine hAll _ ?_
 simp (disch:=omega)
 exact hK
set_option maxHeartbeats 2000000 in
theorem wRun_c (kk:g.ok) (hd:HdOk g x) (a:WkAt g0 h w x W B H F R Bk) {cl u PL:Nat} {n wh:Int} (hPL:cl*g.c=PL) (h1:1≤cl) (hu:upQ n ((g.c:Nat):Int)=(u:Nat)) (hn:0≤n∧n≤1000000000) (hf:(cl+u)*g.c≤B.length) (hu1:1≤u) (hfew:B.length≤268435456) (hHl:H.length+u≤1000000)
 (hK:∀h' hv',WkAt g0 h' w x { W with hv:=hv' } B (H++(List.range u).map (cl + ·)) F R Bk→K (.bool true) h') :
 CallsH Tryz.prog 139 #[ptrV w,.int .i64 (PL:Nat),.int .i64 n,.int .i64 1,.int .i64 wh] h K ⟨⟩:=by
 refine n139_calls ?_
 unfold n139; try delta vF vG vC vD vJ vV vk vt
 refine wIn_c kk hd a hPL h1 hu hn hf hu1 hfew ?_
 simp (disch:=omega)
 refine wClu_c kk hd a ?_
 obtain ⟨q,hq,hq1,hq2⟩:=kk.c512
 have hall:cl+u≤B.length/g.c:=(Nat.le_div_iff_mul_le omg).2 hf
 have hal2:B.length/g.c≤B.length:=Nat.div_le_self _ _
 have hdiv:((cl*g.c:Nat):Int)/((g.c:Nat):Int)=((cl:Nat):Int):=by rw [←Int.natCast_ediv,Nat.mul_div_cancel _ omg]
 have hPle:cl*g.c≤(cl+u)*g.c:=Nat.mul_le_mul_right _ omg
 rw [hPL] at hdiv hPle
 simp (disch:=omega) [hdiv]
 refine loopX1 (α:=Nat×Value) (fun z => .int .i64 ((cl:Int)+(z.1:Int))) (fun z G=>z.1≤u∧WkAt g0 G w x { W with hv:=z.2 } B (H++(List.range z.1).map (cl + ·)) F R Bk) (fun z=>u-z.1) (0,W.hv) sM ⟨Nat.zero_le _,by simpa using a⟩ ?_
 rintro ⟨j,v⟩ G ⟨hj,aG⟩ X hX
 dsimp only at hj aG hX ⊢
 simp (disch:=omega) [hdiv]
 refine Up_c hn.1 omg omg omg ?_
 rw [hu]
 by_cases hju:j<u
 ·have hlt:((cl:Nat):Int)+((j:Nat):Int)<((cl:Nat):Int)+((u:Nat):Int):=by omega
  have c16:=cellOf (i:=16) aG.c rfl
  obtain ⟨va,vn,vc,hv,hvl,hvc,-⟩:=aG.hh.form
  have hlen:∀l:List Nat,(l.flatMap hoV).length=l.length*2:=fun l=>by induction l with|nil=>rfl|cons f l ih=>rw [List.flatMap_cons,List.length_append,ih]; simp [hoV]; omega
  rw [hlen,List.length_append,List.length_map,List.length_range] at hvl
  have hv:v = .slice va vn vc:=hv
  subst hv
  have hwG:=get_some_lt aG.c
  have hwne:¬w=G.size:=by omega
  obtain ⟨KK,hKK⟩:∃k,cl+j=k:=⟨_,rfl⟩
  have hcj:((cl:Nat):Int)+((j:Nat):Int)=((KK:Nat):Int):=by omega
  unfold ptrV
  have c16':hcell G ⟨w,16,none⟩=some (.slice va vn vc):=c16
  simp (disch:=omega) [hlt,c16',hwne]
  obtain ⟨g1,hg1⟩:∃X,X=G.push (.cells #[.int .i64 ((cl:Int)+(j:Int)),.int .i64 1] 183):=⟨_,rfl⟩
  have e1:Ext G g1:=by rw [hg1]; exact extS
  have sx:Src 2 g1 (.slice (some ⟨G.size,0,none⟩) 1 1) 1 (hoV KK):=by
   unfold hoV
   rw [hg1,←hcj]
   exact Src_new (vs:=[.int .i64 ((cl:Int)+(j:Int)),.int .i64 1]) rfl
  rw [←hg1]
  clear hg1
  have hz1:=e1.size
  have a1:=aG.ext' e1
  refine Hp_appendG (e:=hoT) (s:=2) (by_:=16) (n:=vn) (k:=1) kR kR a1.hh (by rw [hlen,List.length_append,List.length_map,List.length_range]; omega) omg sx (by simp [hoV,one]) omg omg fun v' h' o' m' b' _ => ?_
  have k2:=(m'.block w omg (fun e=>own_nw a1 a1.hh dM e rfl)).trans a1.c
  have d16:=cellOf (i:=16) k2 rfl
  have f16:=frzOf (i:=16) k2
  obtain ⟨va',vn',vc',rfl,-,-,-⟩:=o'.form
  simp (disch:=omega) [d16,f16]
  have a3:=a1.putH o' m' b'
  refine hX (j+1,.slice va' vn' vc') _ _ (by dsimp only; first|rfl|(congr 1; omega)|congr 1) ⟨by omega,?_⟩ (by dsimp only; omega)
  have hl2:H++(List.range (j+1)).map (cl + ·)=H++(List.range j).map (cl + ·)++[KK]:=by
   rw [List.range_succ,List.map_append,List.append_assoc,←hKK]; rfl
  dsimp only
  rw [hl2]
  exact a3
 ·obtain rfl:j=u:=by omega
  simp (disch:=omega)
  exact hK G v aG
theorem wNum_c (a:WkAt g0 h w x W B H F R Bk) {at_:Nat} (hat:at_+8≤B.length) (hfew:B.length≤268435456) (hs:leN (part B at_ 8)<9223372036854775808) (hK:K (.int .i64 (leN (part B at_ 8):Nat)) h) :
 CallsH Tryz.prog 140 #[ptrV w,.int .i64 (at_:Nat)] h K ⟨⟩:=by
 refine n140_calls ?_
 unfold n140; try delta vF vG vC vD vJ vV vk vt
 have c0:hcell h ⟨w,0,none⟩=some W.bv:=cellOf (i:=0) a.c rfl
 obtain ⟨vo,vc,hv⟩:=a.bytes.form
 have hB:=a.bytes
 rw [hv] at c0 hB
 obtain ⟨ad,rfl,-,hvc,hA⟩:=hB.at omg
 refine loopX2 (α:=Nat) (fun z => .int .u64 (leN ((B.drop (at_+z)).take (8-z)):Nat)) (fun z => .int .i64 ((z:Int)-1)) (fun z G=>G=h∧z≤8) (fun z=>z) 8 ⟨by simp [leN],rfl⟩ ⟨rfl,Nat.le_refl _⟩ ?_
 rintro k G ⟨rfl,hk8⟩ X hX
 unfold ptrV
 by_cases hk0:k=0
 ·subst hk0
  simp (disch:=omega)
  have:leN ((B.drop (at_+0)).take (8-0))=leN (part B at_ 8):=rfl
  simp only [Nat.add_zero,Nat.sub_zero] at this
  rw [this]
  simp (disch:=omega)
  exact hK
 ·obtain ⟨m,rfl⟩:∃m,k=m+1:=⟨k-1,by omega⟩
  have hst:=leN_step (l:=B) (p:=at_) (n:=8) (k:=m+1) omg hk8 omg
  have hb:=leN_lt ((B.drop (at_+(m+1))).take (8-(m+1)))
  have hb7:leN ((B.drop (at_+(m+1))).take (8-(m+1)))<72057594037927936:=Nat.lt_of_lt_of_le hb (Nat.pow_le_pow_right (n:=256) omg (show _≤7 by simp; omega))
  have hA':=hA (at_+m) omg
  have hbb:=byte_lt (B[at_+m]'omg)
  simp only [Nat.add_sub_cancel] at hst
  have hX':=hX m
  generalize leN ((B.drop (at_+(m+1))).take (8-(m+1)))=Y at *
  generalize B[at_+m]'omg=b at *
  unfold byteV at hA'
  have hAD:((at_:Nat):Int)+((m:Nat):Int)=((at_+m:Nat):Int):=by omega
  obtain ⟨AD,hADe⟩:∃A,at_+m=A:=⟨_,rfl⟩
  rw [hADe] at hAD hA'
  simp (disch:=omega) [c0,hAD,hA']
  refine hX' _ _ _ ?_ rfl ⟨rfl,by omega⟩ omg
  rw [hst]
  congr 1
  omega
end Go.Proofs.YtdccfkffabngjaaGreat
set_option linter.unusedSimpArgs false
set_option linter.unusedVariables false
set_option maxRecDepth 20000
namespace Go.Proofs.YtdccfkffabngjaaGreat
open Go.Vc
variable {K:VP} {h:Heap} {g0:Heap} {w:Nat} {x:Hd} {W:Wk} {B:List UInt8} {H:List Nat} {F R:List (Nat×Nat×Nat)} {Bk:List Nat} {g:Gm}

theorem upQ_mul {c u:Nat} (hc:1≤c):upQ ((u*c:Nat):Int) ((c:Nat):Int)=(u:Nat):=by
 unfold upQ
 have h1:((u*c:Nat):Int)+((c:Nat):Int)-1=((u*c+c-1:Nat):Int):=by omega
 rw [h1,←Int.natCast_ediv]
 congr 1
 rw [show u*c+c-1=c*u+(c-1) by rw [Nat.mul_comm]; omega,Nat.mul_add_div omg,Nat.div_eq_of_lt omg,Nat.add_zero]
theorem upQ_one {c n:Nat} (hn:1≤n) (h:n≤c):upQ ((n:Nat):Int) ((c:Nat):Int)=1:=by
 unfold upQ
 have h1:((n:Nat):Int)+((c:Nat):Int)-1=((n+c-1:Nat):Int):=by omega
 rw [h1,←Int.natCast_ediv]
 have:(n+c-1)/c=1:=by
  rw [show n+c-1=c*1+(n-1) by omega,Nat.mul_add_div omg,Nat.div_eq_of_lt omg]
 rw [this]; rfl
def Gm.blkH (g:Gm) (B:List UInt8) (j:Nat):List Nat:=((List.range j).filter fun i=>decide (g.word B i≠0)).map g.cl
theorem Gm.blkH_succ (g:Gm) (B:List UInt8) (j:Nat):g.blkH B (j+1)=g.blkH B j++(if g.word B j=0 then [] else [g.cl j]):=by
 unfold Gm.blkH
 rw [List.range_succ,List.filter_append,List.map_append]
 congr 1
 by_cases hw:g.word B j=0
 ·rw [if_pos hw]; simp [hw]
 ·rw [if_neg hw]; simp [hw]
theorem Gm.blkH_len (g:Gm) (B:List UInt8) (j:Nat):(g.blkH B j).length≤j:=by
 unfold Gm.blkH
 rw [List.length_map]
 refine Nat.le_trans (List.length_filter_le _ _) ?_
 rw [List.length_range]; exact Nat.le_refl _
set_option maxHeartbeats 4000000 in
theorem wCounts_c (kk:g.ok) (hd:HdOk g x) (I:Img g x B) (a:WkAt g0 h w x W B [0] F R [])
 (hK:∀h' hv' kv',WkAt g0 h' w x { W with hv:=hv',kv:=kv' } B ([0]++(List.range g.L).map (1 + ·)++g.blkH B g.m) F R ((List.range g.m).map (g.word B))→K (.tuple #[]) h') :
 CallsH Tryz.prog 114 #[ptrV w] h K ⟨⟩:=by
 refine n114_calls ?_
 unfold n114; try delta vF vG vC vD vJ vV vk vt
 obtain ⟨q,hq,hq1,hq2⟩:=kk.c512
 have hrl:=kk.room_lt
 have hm8:=kk.m8
 have hfew:=I.few
 have hL0:=kk.L0
 have hL1:=kk.L1
 have hu0:=kk.u0
 have c8:hcell h ⟨w,8,none⟩=some (.int .i64 x.clen):=cellOf (i:=8) a.c rfl
 have c7:hcell h ⟨w,7,none⟩=some (.int .i64 x.counts):=cellOf (i:=7) a.c rfl
 rw [hd.clen] at c8
 rw [hd.counts] at c7
 obtain ⟨LC,hLC⟩:∃L,g.L*g.c=L:=⟨_,rfl⟩
 have hLC':((g.L:Nat):Int)*((g.c:Nat):Int)=((LC:Nat):Int):=by rw [←hLC,Int.natCast_mul]
 have hup:=upQ_mul (u:=g.L) (c:=g.c) omg
 have hlen:=I.len
 have hlen2:(1+g.L)*g.c≤g.u*g.c:=Nat.mul_le_mul_right _ omg
 rw [hLC] at hup hm8 hrl
 unfold ptrV
 simp (disch:=omega) [c8]
 rw [show (.pointer (some ⟨w,0,none⟩):Value)=ptrV w from rfl]
 refine wClu_c kk hd a ?_
 unfold ptrV
 simp (disch:=omega) [c8,c7,hLC']
 rw [show (.pointer (some ⟨w,0,none⟩):Value)=ptrV w from rfl]
 refine wRun_c (cl:=1) (u:=g.L) kk hd a (by rw [Nat.one_mul]) (Nat.le_refl _) hup omg omg omg hfew (by simp; omega) fun h1 hv1 a1 => ?_
 have hm':((LC:Nat):Int)/8=((g.m:Nat):Int):=by omega
 simp (disch:=omega)
 refine loopX1 (α:=Nat×Value×Value) (fun z => .int .i64 z.1) (fun z G=>z.1≤g.m∧WkAt g0 G w x { W with hv:=z.2.1,kv:=z.2.2 } B ([0]++(List.range g.L).map (1 + ·)++g.blkH B z.1) F R ((List.range z.1).map (g.word B))) (fun z=>g.m-z.1) (0,hv1,W.kv) rfl ⟨Nat.zero_le _,by simpa [Gm.blkH] using a1⟩ ?_
 rintro ⟨i,hv2,kv2⟩ G ⟨hi,aG⟩ X hX
 dsimp only at hi aG hX ⊢
 by_cases him:i<g.m
 ·have d7:hcell G ⟨w,7,none⟩=some (.int .i64 x.counts):=cellOf (i:=7) aG.c rfl
  rw [hd.counts] at d7
  have hwf:=I.word_fit kk him
  obtain ⟨AD,hAD⟩:∃A,g.c+8*i=A:=⟨_,rfl⟩
  have hAD':((g.c:Nat):Int)+8*((i:Nat):Int)=((AD:Nat):Int):=by omega
  rw [hAD] at hwf
  have hwd:leN (part B AD 8)=g.word B i:=by rw [←hAD]; rfl
  have hwl:g.word B i≤268435456:=by
   by_cases hw:g.word B i=0
   ·omega
   ·have:=(I.wi i him hw); omega
  have hbl:=g.blkH_len B i
  unfold ptrV
  simp (disch:=omega) [hm',d7,hAD']
  rw [show (.pointer (some ⟨w,0,none⟩):Value)=ptrV w from rfl]
  refine wNum_c aG hwf hfew (by rw [hwd]; omega) ?_
  rw [hwd]
  refine JoinN.mk ?_
  by_cases hw:g.word B i=0
  ·rw [hw]
   simp (disch:=omega)
   obtain ⟨GX,hGX⟩:∃z,z=G:=⟨_,rfl⟩
   rw [←hGX] at aG ⊢
   have e26:hcell GX ⟨w,26,none⟩=some kv2:=cellOf (i:=26) aG.c rfl
   obtain ⟨va,vn,vc,hkv,hvl,hvc,-⟩:=aG.kk.form
   have hkv:kv2 = .slice va vn vc:=hkv
   subst hkv
   rw [List.length_map,List.length_map,List.length_range] at hvl
   have hwG:=get_some_lt aG.c
   have hwne:¬w=GX.size:=by omega
   unfold ptrV
   simp (disch:=omega) [e26,hwne]
   obtain ⟨g1,hg1⟩:∃X,X=GX.push (.cells #[.int .i64 0] 2):=⟨_,rfl⟩
   have e1:Ext GX g1:=by rw [hg1]; exact extS
   have sx:Src 1 g1 (.slice (some ⟨GX.size,0,none⟩) 1 1) 1 [.int .i64 0]:=by rw [hg1]; exact Src_new (vs:=[.int .i64 0]) rfl
   rw [←hg1]
   clear hg1
   have hz1:=e1.size
   have a1:=aG.ext' e1
   refine Hp_appendG (e:=i6T) (s:=1) (by_:=8) (n:=vn) (k:=1) kR kR a1.kk (by rw [List.length_map,List.length_map,List.length_range]; omega) omg sx (by intro u hu; rw [List.mem_singleton.1 hu]; rfl) omg omg fun v' h' o' m' b' _ => ?_
   have k2:=(m'.block w omg (fun e=>own_nw a1 a1.kk dM e rfl)).trans a1.c
   have d26:=cellOf (i:=26) k2 rfl
   have f26:=frzOf (i:=26) k2
   obtain ⟨va',vn',vc',rfl,-,-,-⟩:=o'.form
   simp (disch:=omega) [d26,f26]
   have a3:=a1.putK o' m' b'
   have hBk:(List.range (i+1)).map (g.word B)=(List.range i).map (g.word B)++[g.word B i]:=by rw [List.range_succ,List.map_append]; rfl
   have hHk:=g.blkH_succ B i
   rw [if_pos hw,List.append_nil] at hHk
   refine hX (i+1,hv2,.slice va' vn' vc') _ _ sM ⟨by omega,?_⟩ (by dsimp only; omega)
   dsimp only
   rw [hBk,hHk,hw]
   exact a3
  ·obtain ⟨hp,hle⟩:=I.wi i him hw
   have hw':¬((g.word B i:Nat):Int)=0:=by omega
   have hpl:g.cl i*g.c=g.word B i:=hp.symm
   have hcl1:1≤g.cl i:=by
    by_cases e:i=0
    ·rw [e]; unfold Gm.cl; rw [if_pos rfl]; omega
    ·have:=kk.cl_u e; omega
   have hfit:(g.cl i+1)*g.c≤B.length:=by rw [Nat.add_mul,Nat.one_mul]; exact hle
   have hup1:=upQ_mul (u:=1) (c:=g.c) omg
   rw [Nat.one_mul] at hup1
   obtain ⟨WD,hWD⟩:∃W,g.word B i=W:=⟨_,rfl⟩
   rw [hWD] at hw' hpl hwl ⊢
   unfold ptrV
   simp (disch:=omega) [hw',d7,hAD']
   rw [show (.pointer (some ⟨w,0,none⟩):Value)=ptrV w from rfl]
   refine wClu_c kk hd aG ?_
   unfold ptrV
   simp (disch:=omega) [hw',d7,hAD']
   rw [show (.pointer (some ⟨w,0,none⟩):Value)=ptrV w from rfl]
   refine wRun_c (cl:=g.cl i) (u:=1) kk hd aG hpl hcl1 hup1 omg hfit (Nat.le_refl _) hfew (by simp; omega) fun GX hvX aX => ?_
   simp (disch:=omega)
   rw [←hWD]
   have e26:hcell GX ⟨w,26,none⟩=some kv2:=cellOf (i:=26) aX.c rfl
   obtain ⟨va,vn,vc,hkv,hvl,hvc,-⟩:=aX.kk.form
   have hkv:kv2 = .slice va vn vc:=hkv
   subst hkv
   rw [List.length_map,List.length_map,List.length_range] at hvl
   have hwG:=get_some_lt aX.c
   have hwne:¬w=GX.size:=by omega
   unfold ptrV
   simp (disch:=omega) [e26,hwne]
   obtain ⟨g1,hg1⟩:∃X,X=GX.push (.cells #[.int .i64 (g.word B i:Nat)] 2):=⟨_,rfl⟩
   have e1:Ext GX g1:=by rw [hg1]; exact extS
   have sx:Src 1 g1 (.slice (some ⟨GX.size,0,none⟩) 1 1) 1 [.int .i64 (g.word B i:Nat)]:=by rw [hg1]; exact Src_new (vs:=[.int .i64 (g.word B i:Nat)]) rfl
   rw [←hg1]
   clear hg1
   have hz1:=e1.size
   have a1:=aX.ext' e1
   refine Hp_appendG (e:=i6T) (s:=1) (by_:=8) (n:=vn) (k:=1) kR kR a1.kk (by rw [List.length_map,List.length_map,List.length_range]; omega) omg sx (by intro u hu; rw [List.mem_singleton.1 hu]; rfl) omg omg fun v' h' o' m' b' _ => ?_
   have k2:=(m'.block w omg (fun e=>own_nw a1 a1.kk dM e rfl)).trans a1.c
   have d26:=cellOf (i:=26) k2 rfl
   have f26:=frzOf (i:=26) k2
   obtain ⟨va',vn',vc',rfl,-,-,-⟩:=o'.form
   simp (disch:=omega) [d26,f26]
   have a3:=a1.putK o' m' b'
   have hBk:(List.range (i+1)).map (g.word B)=(List.range i).map (g.word B)++[g.word B i]:=by rw [List.range_succ,List.map_append]; rfl
   have hHk:=g.blkH_succ B i
   rw [if_neg hw] at hHk
   refine hX (i+1,hvX,.slice va' vn' vc') _ _ sM ⟨by omega,?_⟩ (by dsimp only; omega)
   dsimp only
   rw [hBk,hHk,←List.append_assoc]
   exact a3
 ·obtain rfl:i=g.m:=by omega
  simp (disch:=omega) [hm']
  exact hK G hv2 kv2 aG
def Gm.l1H (g:Gm):List Nat:=if g.u=g.L+2 then [] else [1+g.L]
theorem part_zeros {n a m:Nat} (h:a+m≤n):part (zeros n) a m=zeros m:=by
 unfold part zeros
 rw [List.drop_replicate,List.take_replicate]
 congr 1; omega
set_option maxHeartbeats 2000000 in
theorem wTree_c (kk:g.ok) (hd:HdOk g x) (I:Img g x B) (a:WkAt g0 h w x W B H F R Bk) (hHl:H.length≤900000)
 (hK:∀h' hv',WkAt g0 h' w x { W with hv:=hv' } B (H++g.l1H) F R Bk→K (.tuple #[]) h') :
 CallsH Tryz.prog 115 #[ptrV w,.int .i64 x.l1,.int .i64 x.l1len,.int .i64 24] h K ⟨⟩:=by
 refine n115_calls ?_
 unfold n115; try delta vF vG vC vD vJ vV vk vt
 rcases hd.l1 with ⟨hu,h0⟩|⟨hu,hl1,hn1,hn8⟩
 ·rw [h0]
  simp (disch:=omega)
  refine hK h W.hv ?_
  unfold Gm.l1H
  rw [if_pos hu,List.append_nil]
  exact a
 obtain ⟨q,hq,hq1,hq2⟩:=kk.c512
 have hfew:=I.few
 have hlen:=I.len
 have hL1:=kk.L1
 have hz:=I.l1
 have hu2:g.u-2-g.L=1:=by omega
 rw [hu2,Nat.one_mul] at hz
 obtain ⟨N,hN⟩:∃N:Nat,x.l1len=(N:Nat):=Int.eq_ofNat_of_zero_le omg
 rw [hN] at hn1 hn8 ⊢
 rw [hl1]
 have hup:=upQ_one (n:=8*N) (c:=g.c) omg omg
 have h8:(8:Int)*((N:Nat):Int)=((8*N:Nat):Int):=by omega
 have hN0:¬((N:Nat):Int)=0:=by omega
 obtain ⟨N8,hN8⟩:∃M,8*N=M:=⟨_,rfl⟩
 rw [hN8] at hup h8
 have hend:(1+g.L+1)*g.c≤g.u*g.c:=Nat.mul_le_mul_right _ omg
 obtain ⟨PL,hPL⟩:∃P,(1+g.L)*g.c=P:=⟨_,rfl⟩
 have hend2:PL+g.c≤B.length:=by
  have:(1+g.L+1)*g.c=PL+g.c:=by rw [Nat.add_mul,hPL,Nat.one_mul]
  omega
 rw [hPL] at hz ⊢
 simp (disch:=omega) [hN0,h8]
 refine wRun_c (cl:=1+g.L) (u:=1) kk hd a hPL omg hup omg omg (Nat.le_refl _) hfew omg fun h1 hv1 a1 => ?_
 have hl:H++(List.range 1).map (1+g.L + ·)=H++g.l1H:=by
  unfold Gm.l1H
  rw [if_neg omg]; rfl
 rw [hl] at a1
 simp (disch:=omega)
 refine loopX1 (α:=Nat) (fun z => .int .i64 z) (fun z G=>z≤N∧G=h1) (fun z=>N-z) 0 rfl ⟨Nat.zero_le _,rfl⟩ ?_
 rintro i G ⟨hi,rfl⟩ X hX
 by_cases hiN:i<N
 ·obtain ⟨AD,hAD⟩:∃A,PL+8*i=A:=⟨_,rfl⟩
  have hAD':((PL:Nat):Int)+8*((i:Nat):Int)=((AD:Nat):Int):=by omega
  have hwd:leN (part B AD 8)=0:=by
   have:=part_part B (a:=PL) (m:=g.c) (x:=8*i) (y:=8) omg
   rw [hz,part_zeros omg,hAD] at this
   rw [←this,leN_zeros]
  simp (disch:=omega)
  refine JoinN.mk (JoinN.mk ?_)
  simp (disch:=omega) [hAD']
  refine wNum_c a1 omg hfew (by rw [hwd]; decide) ?_
  rw [hwd]
  simp (disch:=omega)
  exact hX (i+1) _ _ sM ⟨by omega,rfl⟩ omg
 ·obtain rfl:i=N:=by omega
  simp (disch:=omega)
  exact hK G hv1 a1
theorem wLists_c (hd:HdOk g x) (a:WkAt g0 h w x W B H F R Bk) (hK:K (.tuple #[]) h):CallsH Tryz.prog 116 #[ptrV w] h K ⟨⟩:=by
 refine n116_calls ?_
 unfold n116; try delta vF vG vC vD vJ vV vk vt
 have c9:hcell h ⟨w,9,none⟩=some (.int .i64 x.snaps):=cellOf (i:=9) a.c rfl
 have c12:hcell h ⟨w,12,none⟩=some (.int .i64 x.maps):=cellOf (i:=12) a.c rfl
 rw [hd.snaps] at c9
 rw [hd.maps] at c12
 unfold ptrV
 refine JoinN.mk ?_
 simp (disch:=omega) [c9,c12]
 exact hK
end Go.Proofs.YtdccfkffabngjaaGreat
set_option linter.unusedSimpArgs false
set_option linter.unusedVariables false
set_option maxRecDepth 20000
namespace Go.Proofs.YtdccfkffabngjaaGreat
open Go.Vc
variable {K:VP} {h:Heap} {x:Hd} {B:List UInt8} {g:Gm}

def Gm.allH (g:Gm) (B:List UInt8):List Nat:=[0]++(List.range g.L).map (1 + ·)++g.blkH B g.m++g.l1H
set_option maxHeartbeats 4000000 in
theorem goes_c {v:Value} (kk:g.ok) (hd:HdOk g x) (I:Img g x B) (hB:Bytes h v B)
 (hK:∀g0 h' w W,Ext h g0→WkAt g0 h' w x W B (g.allH B) [] [] ((List.range g.m).map (g.word B))→W.rv = .slice none 0 0→W.br=false→W.hd=0→W.act=false→K (.tuple #[ptrV w,.int .i64 0]) h') :
 CallsH Tryz.prog 60 #[v] h K ⟨⟩:=by
 refine n60_calls ?_
 unfold n60; try delta vF vG vC vD vJ vV vk vt
 have hfew:=I.few
 have hhead:B.take 512=hdB x:=by have:=I.head; unfold part at this; rw [List.drop_zero] at this; exact this
 refine RRead_c hB omg (fun h1 y e1 h512 hM hy => ?_) (fun h1 e1 hno => ?_)
 ·rw [hhead] at hy
  obtain rfl:y=x:=hdB_inj hM hd.may hy
  simp (disch:=omega) [-Tryz.st84,-Tryz.ld84,-Tryz.al84]
  refine allocH fun h3 e3 hw3 z3 => ?_
  refine storeH (x:=y) hw3 fun g0 m4 hw4 => ?_
  have hz1:=e1.size
  have z4:=m4.size
  have E0:Ext h g0:=m4.ext_from (e1.trans e3) (fun b hb he=>by omega)
  have hA:=hw4.at
  simp (disch:=omega) [-Tryz.st84,-Tryz.ld84]
  rw [loadH hA]
  have hBl:=I.few
  obtain ⟨vo,vc,rfl⟩:=hB.form
  unfold Hd.val Hd.cells
  simp (disch:=omega)
  obtain ⟨W0,hW0⟩:∃W:Wk,W=⟨.slice vo B.length vc,.slice (some ⟨g0.size,0,none⟩) 1 1,.slice none 0 0,.slice none 0 0,.slice none 0 0,false,0,0,false⟩:=⟨_,rfl⟩
  obtain ⟨h5,hh5⟩:∃X,X=(g0.push (.cells #[.int .i64 0,.int .i64 1] 183)).push (.cells (W0.cells y) 130):=⟨_,rfl⟩
  have a5:WkAt g0 h5 (g0.size+1) y W0 B [0] [] [] []:=by
   have e5:Ext g0 h5:=by rw [hh5]; exact extS
   refine ⟨e5,by rw [hh5]; exact get_pushed sM,by rw [hW0]; exact hB.ext E0,?_,by rw [hW0]; exact .nil,by rw [hW0]; exact .nil,by rw [hW0]; exact .nil,by omega,?_,?_,?_,?_,?_⟩
   ·rw [hW0]
    refine .inr ⟨g0.size,0,1,0,[],[],rfl,rfl,Nat.le_refl _,rfl,?_,by decide⟩
    rw [hh5,get_push sM,get_pushed rfl]; rfl
   ·rw [hW0]; intro b hb; cases hb; exact Nat.le_refl _
   ·rw [hW0]; intro b hb; cases hb
   ·rw [hW0]; intro b hb; cases hb
   ·rw [hW0]; intro b hb; cases hb
   ·rw [hW0]; intro b hb; cases hb
  have hW0c:=hW0
  subst hW0c
  unfold Wk.cells at hh5
  rw [show Array.push _ _=h5 from hh5.symm,show (.pointer (some ⟨g0.size+1,0,none⟩):Value)=ptrV (g0.size+1) from rfl]
  clear hh5
  refine wCounts_c kk hd I a5 fun h6 hv6 kv6 a6 => ?_
  have c25:=cellOf (i:=25) a6.c rfl
  have f25:=frzOf (i:=25) a6.c
  unfold ptrV
  simp (disch:=omega) [c25,f25]
  have a7:=a6.num (i:=25) (v := .bool true) (W':=⟨.slice vo B.length vc,hv6,.slice none 0 0,.slice none 0 0,kv6,false,0,0,true⟩) rfl ⟨rfl,rfl,rfl,rfl,rfl⟩
  generalize hg7:hset h6 ⟨g0.size+1,25,none⟩ (.bool true)=h7 at *
  have hA7:=hA.ext a7.ext
  have hA6:=hA.ext a6.ext
  have p3:=hA6.2.2.2.1
  have p4:=hA6.2.2.2.2.1
  have d3:=hA7.2.2.2.1
  have d4:=hA7.2.2.2.2.1
  simp (disch:=omega) [d3,d4,p3,p4]
  rw [show (.pointer (some ⟨g0.size+1,0,none⟩):Value)=ptrV (g0.size+1) from rfl]
  have hbl:=g.blkH_len B g.m
  have hrl:=kk.room_lt
  have hm8:=kk.m8
  have hL1:=kk.L1
  refine wTree_c kk hd I a7 (by simp; omega) fun h8 hv8 a8 => ?_
  have e25:=cellOf (i:=25) a8.c rfl
  have g25:=frzOf (i:=25) a8.c
  unfold ptrV
  simp (disch:=omega) [e25,g25]
  have a9:=a8.num (i:=25) (v := .bool false) (W':=⟨.slice vo B.length vc,hv8,.slice none 0 0,.slice none 0 0,kv6,false,0,0,false⟩) rfl ⟨rfl,rfl,rfl,rfl,rfl⟩
  rw [show (.pointer (some ⟨g0.size+1,0,none⟩):Value)=ptrV (g0.size+1) from rfl]
  refine wLists_c hd a9 ?_
  exact hK g0 _ _ _ E0 a9 rfl rfl rfl rfl
 ·refine absurd (show IsHd B from ⟨?_,x,hd.may,hhead.symm⟩) hno
  obtain ⟨q,hq,hq1,hq2⟩:=kk.c512
  have:=I.word_fit kk (i:=0) (by have:=kk.m0; omega)
  omega
end Go.Proofs.YtdccfkffabngjaaGreat
set_option linter.unusedSimpArgs false
set_option linter.unusedVariables false
set_option maxRecDepth 20000
namespace Go.Proofs.YtdccfkffabngjaaGreat
open Go.Vc
variable {K:VP} {h:Heap} {g0:Heap} {w:Nat} {x:Hd} {W:Wk} {B:List UInt8} {H:List Nat} {F R:List (Nat×Nat×Nat)} {g:Gm}

def Gm.cntX (g:Gm) (B:List UInt8) (k:Nat):Nat:=if k/g.n<g.m then g.cnt B k else 0
theorem bkV_get {Bk:List Nat} {i:Nat} (hi:i<(Bk.map fun k=>(.int .i64 (k:Nat):Value)).length):(Bk.map fun k=>(.int .i64 (k:Nat):Value))[i] = .int .i64 (Bk[i]'(by simpa using hi):Nat):=List.getElem_map _
set_option maxHeartbeats 4000000 in
theorem wCount_c (kk:g.ok) (hd:HdOk g x) (I:Img g x B) (a:WkAt g0 h w x W B H F R ((List.range g.m).map (g.word B))) {k:Nat} (hk:k≤171798691840)
 (hK:K (.int .u64 (g.cntX B k:Nat)) h):CallsH Tryz.prog 64 #[ptrV w,.int .i64 (k:Nat)] h K ⟨⟩:=by
 refine n64_calls ?_
 unfold n64; try delta vF vG vC vD vJ vV vk vt
 obtain ⟨q,hq,hq1,hq2⟩:=kk.c512
 have hrl:=kk.room_lt
 have hm8:=kk.m8
 have hnn:=kk.n64
 have hw64:=kk.w64
 have c6:hcell h ⟨w,6,none⟩=some (.int .i64 x.order):=cellOf (i:=6) a.c rfl
 have c0:hcell h ⟨w,0,none⟩=some W.bv:=cellOf (i:=0) a.c rfl
 have c26:hcell h ⟨w,26,none⟩=some W.kv:=cellOf (i:=26) a.c rfl
 rw [hd.order] at c6
 have hB:=a.bytes
 obtain ⟨vo,vc,hbv⟩:=hB.form
 rw [hbv] at c0 hB
 obtain ⟨ka,kn,kc,hkv,hkl,hkc,hkb⟩:=a.kk.form
 have hkk:=a.kk
 rw [hkv] at c26 hkk
 have hkn:kn=g.m:=by rw [List.length_map,List.length_map,List.length_range] at hkl; omega
 subst hkn
 obtain ⟨C8,hC8⟩:∃C,8*g.c=C:=⟨_,rfl⟩
 have hC8':(8:Int)*((g.c:Nat):Int)=((C8:Nat):Int):=by omega
 have hdiv8:((C8:Nat):Int)/((g.w:Nat):Int)=((g.n:Nat):Int):=by
  rw [←Int.natCast_ediv,←hC8,←kk.nw,Nat.mul_div_cancel _ omg]
 obtain ⟨D,hD⟩:∃D,k/g.n=D:=⟨_,rfl⟩
 obtain ⟨M,hM'⟩:∃M,k%g.n=M:=⟨_,rfl⟩
 have hkd:((k:Nat):Int)/((g.n:Nat):Int)=((D:Nat):Int):=by rw [←hD]; exact (Int.natCast_ediv _ _).symm
 have hkm:((k:Nat):Int)%((g.n:Nat):Int)=((M:Nat):Int):=by rw [←hM']; exact (Int.natCast_emod _ _).symm
 have hDk:D≤k:=by rw [←hD]; exact Nat.div_le_self _ _
 have hMn:M<g.n:=by rw [←hM']; exact Nat.mod_lt _ omg
 have hcx:g.cntX B k=if D<g.m then (if g.word B D=0 then 0 else Vc.cnt (g.blk B D) g.w M) else 0:=by
  unfold Gm.cntX Gm.cnt; rw [hD,hM']
 rw [hcx] at hK
 unfold ptrV
 simp (disch:=omega) [c6]
 rw [show (.pointer (some ⟨w,0,none⟩):Value)=ptrV w from rfl]
 refine wClu_c kk hd a ?_
 unfold ptrV
 simp (disch:=omega) [c6,hC8']
 refine RefWidth_c ?_
 rw [kk.wd_w]
 by_cases hDm:¬D<g.m
 ·rw [if_neg hDm] at hK
  have hge:((D:Nat):Int)≥((g.m:Nat):Int):=by omega
  simp (disch:=omega) [hdiv8,hkd,c26,hge]
  exact hK
 replace hDm:=Classical.not_not.1 hDm
 rw [if_pos hDm] at hK
 have hnge:¬((D:Nat):Int)≥((g.m:Nat):Int):=by omega
 obtain ⟨kb,ko,rfl⟩:=hkb (fun e=>by have:=congrArg List.length e; rw [List.length_map,List.length_map,List.length_range] at this; simp at this; omega)
 have hcell:=(hkk.cell (i:=D) (by rw [List.length_map,List.length_map,List.length_range]; exact hDm)).1
 rw [bkV_get,List.getElem_map,List.getElem_range] at hcell
 by_cases hw:g.word B D=0
 ·rw [if_pos hw] at hK
  rw [hw] at hcell
  simp (disch:=omega) [hdiv8,hkd,c26,hnge,hcell]
  exact hK
 ·rw [if_neg hw] at hK
  obtain ⟨hp,hle⟩:=I.wi D hDm hw
  have hbl:=blk_len I hDm hw
  rw [←hp] at hle
  have hblk:g.blk B D=part B (g.word B D) g.c:=by unfold Gm.blk; rw [hp]
  rw [hblk] at hK hbl
  have hfew:=I.few
  generalize g.word B D=WD at *
  have hw0:¬((WD:Nat):Int)=0:=by omega
  obtain ⟨WC,hWC⟩:∃X,WD+g.c=X:=⟨_,rfl⟩
  have hsum:((WD:Nat):Int)+((g.c:Nat):Int)=((WC:Nat):Int):=by omega
  have hs3:WC-WD=g.c:=by omega
  rw [hWC] at hle
  simp (disch:=omega) [hdiv8,hkd,c26,hnge,hcell,hw0,c0,c6,hkm]
  rw [show (.pointer (some ⟨w,0,none⟩):Value)=ptrV w from rfl]
  refine wClu_c kk hd a ?_
  obtain ⟨va,rfl,-,hvc,hvA⟩:=hB.at omg
  unfold ptrV
  simp (disch:=omega) [c0,c6,hsum,hs3]
  have hin:=kk.in_block hMn
  have hwd2:=kk.wd_w
  refine RefAt_c (o:=((g.o:Nat):Int)) (n:=M) (bPart2 hB (i:=WD) (m:=g.c) omg omg) (by rw [hbl]; omega) (by rw [hwd2]; omega) (by rw [hwd2,hbl]; exact hin) ?_
  rw [hwd2]
  exact hK
theorem hoF_len:∀l:List Nat,(l.flatMap hoV).length=l.length*2
 | []=>rfl
 | f::l=>by rw [List.flatMap_cons,List.length_append,hoF_len l]; simp [hoV]; omega
theorem hoF_get:∀(l:List Nat) (i k:Nat) (hi:i<l.length) (hk:k<2),(l.flatMap hoV)[i*2+k]? = (hoV l[i])[k]?
 | r::l,0,k,_,hk=>by
  rw [List.flatMap_cons,List.getElem?_append_left (by simp [hoV]; omega)]
  simp
 | r::l,i+1,k,hi,hk=>by
  rw [List.flatMap_cons,List.getElem?_append_right (by simp [hoV]; omega),show (hoV r).length=2 from rfl,show (i+1)*2+k-2=i*2+k by omega,hoF_get l i k (by simpa using hi) hk]
  simp
theorem ho_cell {a:Addr} {n c:Nat} {l:List Nat} (o:OwnG hoT 2 h (.slice (some a) n c) (l.flatMap hoV)) {i:Nat} (hi:i<l.length) :
 hcell h (elt a (i*2))=some (.int .i64 (l[i]:Nat))∧hcell h (elt a (i*2+1))=some (.int .i64 1):=by
 have key:∀k (hk:k<2),hcell h (elt a (i*2+k))=(hoV l[i])[k]? := fun k hk=>by
  have hlt:i*2+k<(l.flatMap hoV).length:=by rw [hoF_len]; omega
  rw [(o.cell hlt).1,←List.getElem?_eq_getElem hlt,hoF_get l i k hi hk]
 exact ⟨key 0 omg,key 1 omg⟩
theorem count_take {H:List Nat} (hn:H.Nodup) {i:Nat} (hi:i<H.length):(H.take i).count H[i]=0:=by
 refine List.count_eq_zero_of_not_mem fun h => ?_
 obtain ⟨t,ht,he⟩:=List.mem_iff_getElem.1 h
 rw [List.getElem_take] at he
 rw [List.length_take] at ht
 exact List.pairwise_iff_getElem.1 hn t i omg hi omg he
set_option maxHeartbeats 2000000 in
theorem wHeld_c {Bk:List Nat} (a:WkAt g0 h w x W B H F R Bk) (hn:H.Nodup) (hHl:H.length≤1000000) {k:Nat}
 (hK:K (.tuple #[.int .u64 (H.count k:Nat),.bool true]) h):CallsH Tryz.prog 63 #[ptrV w,.int .i64 (k:Nat)] h K ⟨⟩:=by
 refine n63_calls ?_
 unfold n63; try delta vF vG vC vD vJ vV vk vt
 have c16:hcell h ⟨w,16,none⟩=some W.hv:=cellOf (i:=16) a.c rfl
 obtain ⟨va,vn,vc,hv,hvl,hvc,hvb⟩:=a.hh.form
 have hh:=a.hh
 rw [hv] at c16 hh
 have hvn:vn=H.length:=by rw [hoF_len] at hvl; omega
 subst hvn
 refine loopX4 (α:=Nat) (fun i => .int .u64 ((H.take i).count k:Nat)) (fun i => .int .i64 (if (H.take i).count k=0 then 0 else 1)) (fun _ => .bool true) (fun i => .int .i64 i) (fun i G=>G=h∧i≤H.length) (fun i=>H.length-i) 0 ⟨rfl,rfl,rfl,rfl⟩ ⟨rfl,Nat.zero_le _⟩ ?_
 rintro i G ⟨rfl,hi⟩ X hX
 unfold ptrV
 by_cases hil:i<H.length
 ·obtain ⟨ab,ao,rfl⟩:=hvb (fun e=>by have:=congrArg List.length e; rw [hoF_len] at this; simp at this; omega)
  obtain ⟨q0,q1⟩:=ho_cell hh hil
  have htk:H.take (i+1)=H.take i++[H[i]]:=List.take_succ_eq_append_getElem hil
  have hct:=count_take hn hil
  have hstep:=hX (i+1)
  rw [htk,List.count_append] at hstep
  obtain ⟨E,hE⟩:∃E,H[i]=E:=⟨_,rfl⟩
  rw [hE] at q0 hct hstep
  simp (disch:=omega) [c16]
  refine JoinN.mk (JoinN.mk ?_)
  by_cases hEk:E=k
  ·subst hEk
   rw [hct] at hstep ⊢
   simp (disch:=omega) [c16,q0,q1]
   refine hstep _ _ _ _ _ ?_ ?_ rfl ?_ ⟨rfl,by omega⟩ omg
   ·simp
   ·simp
   ·simp
  ·have hEk':¬((E:Nat):Int)=((k:Nat):Int):=by omega
   have h0:[E].count k=0:=List.count_eq_zero_of_not_mem (by simpa using fun e=>hEk e.symm)
   rw [h0,Nat.add_zero] at hstep
   simp (disch:=omega) [c16,q0,hEk']
   exact hstep _ _ _ _ _ rfl rfl rfl sM ⟨rfl,by omega⟩ omg
 ·obtain rfl:i=H.length:=by omega
  rw [List.take_length]
  simp (disch:=omega) [c16]
  exact hK
def gHold (H:List Nat):Nat:=H.foldl (fun a k=>max a (k+1)) 0
def gBlk (n a:Nat) (Bk:List Nat) (j:Nat):Nat:=(List.range j).foldl (fun a i=>if Bk.getD i 0=0 then a else max a ((i+1)*n)) a
def Gm.grt (g:Gm) (H Bk:List Nat):Nat:=gBlk g.n (gHold H) Bk Bk.length
set_option maxHeartbeats 4000000 in
theorem wGrt_c {Bk:List Nat} (kk:g.ok) (hd:HdOk g x) (a:WkAt g0 h w x W B H F R Bk) (hH:∀k∈H,k≤171798691840) (hHl:H.length≤1000000) (hBl:Bk.length≤327680)
 (hK:K (.int .i64 (g.grt H Bk:Nat)) h):CallsH Tryz.prog 62 #[ptrV w] h K ⟨⟩:=by
 refine n62_calls ?_
 unfold n62; try delta vF vG vC vD vJ vV vk vt
 obtain ⟨q,hq,hq1,hq2⟩:=kk.c512
 have hnn:=kk.n64
 have hw64:=kk.w64
 have c16:hcell h ⟨w,16,none⟩=some W.hv:=cellOf (i:=16) a.c rfl
 obtain ⟨va,vn,vc,hv,hvl,hvc,hvb⟩:=a.hh.form
 have hh:=a.hh
 rw [hv] at c16 hh
 have hvn:vn=H.length:=by rw [hoF_len] at hvl; omega
 subst hvn
 have c6:hcell h ⟨w,6,none⟩=some (.int .i64 x.order):=cellOf (i:=6) a.c rfl
 have c26:hcell h ⟨w,26,none⟩=some W.kv:=cellOf (i:=26) a.c rfl
 rw [hd.order] at c6
 obtain ⟨ka,kn,kc,hkv,hkl,hkc,hkb⟩:=a.kk.form
 have hkk:=a.kk
 rw [hkv] at c26 hkk
 have hkn:kn=Bk.length:=by rw [List.length_map] at hkl; omega
 subst hkn
 refine loopX2 (α:=Nat) (fun i => .int .i64 (gHold (H.take i):Nat)) (fun i => .int .i64 i) (fun i G=>G=h∧i≤H.length∧gHold (H.take i)≤171798691841) (fun i=>H.length-i) 0 ⟨rfl,rfl⟩ ⟨rfl,Nat.zero_le _,by simp [gHold]⟩ ?_
 rintro i G ⟨rfl,hi,hgl⟩ X hX
 unfold ptrV
 by_cases hil:i<H.length
 ·obtain ⟨ab,ao,rfl⟩:=hvb (fun e=>by have:=congrArg List.length e; rw [hoF_len] at this; simp at this; omega)
  obtain ⟨q0,q1⟩:=ho_cell hh hil
  have htk:H.take (i+1)=H.take i++[H[i]]:=List.take_succ_eq_append_getElem hil
  have hk1:=hH _ (List.getElem_mem hil)
  have hstep:=hX (i+1)
  have hgs:gHold (H.take (i+1))=max (gHold (H.take i)) (H[i]+1):=by rw [htk]; unfold gHold; rw [List.foldl_append]; rfl
  rw [hgs] at hstep
  obtain ⟨E,hE⟩:∃E,H[i]=E:=⟨_,rfl⟩
  rw [hE] at q0 hk1 hstep
  generalize gHold (H.take i)=A at *
  simp (disch:=omega) [c16,q0,Hp_max2]
  refine hstep _ _ _ ?_ sM ⟨rfl,by omega,by omega⟩ omg
  congr 1
  split<;>omega
 ·obtain rfl:i=H.length:=by omega
  rw [List.take_length] at hgl ⊢
  simp (disch:=omega) [c16,c6]
  rw [show (.pointer (some ⟨w,0,none⟩):Value)=ptrV w from rfl]
  refine wClu_c kk hd a ?_
  obtain ⟨C8,hC8⟩:∃C,8*g.c=C:=⟨_,rfl⟩
  have hC8':(8:Int)*((g.c:Nat):Int)=((C8:Nat):Int):=by omega
  have hdiv8:((C8:Nat):Int)/((g.w:Nat):Int)=((g.n:Nat):Int):=by
   rw [←Int.natCast_ediv,←hC8,←kk.nw,Nat.mul_div_cancel _ omg]
  unfold ptrV
  simp (disch:=omega) [c6,hC8']
  refine RefWidth_c ?_
  rw [kk.wd_w]
  simp (disch:=omega) [hdiv8]
  refine loopX2 (α:=Nat) (fun i => .int .i64 (gBlk g.n (gHold H) Bk i:Nat)) (fun i => .int .i64 i) (fun i G2=>G2=G∧i≤Bk.length∧gBlk g.n (gHold H) Bk i≤171798691841) (fun i=>Bk.length-i) 0 ⟨rfl,rfl⟩ ⟨rfl,Nat.zero_le _,hgl⟩ ?_
  rintro i G2 ⟨rfl,hi,hgb⟩ X2 hX2
  by_cases hil:i<Bk.length
  ·obtain ⟨kb,ko,rfl⟩:=hkb (fun e=>by rw [List.map_eq_nil_iff] at e; rw [e] at hil; exact absurd hil (Nat.not_lt_zero _))
   have hcell:=(hkk.cell (i:=i) (by rw [List.length_map]; exact hil)).1
   rw [bkV_get] at hcell
   have hgs:gBlk g.n (gHold H) Bk (i+1)=if Bk[i]=0 then gBlk g.n (gHold H) Bk i else max (gBlk g.n (gHold H) Bk i) ((i+1)*g.n):=by
    have hgd:Bk.getD i 0=Bk[i]:=by rw [List.getD_eq_getElem?_getD,List.getElem?_eq_getElem hil]; rfl
    unfold gBlk
    rw [List.range_succ,List.foldl_append,List.foldl_cons,List.foldl_nil,hgd]
   have hstep:=hX2 (i+1)
   rw [hgs] at hstep
   obtain ⟨E,hE⟩:∃E,Bk[i]=E:=⟨_,rfl⟩
   rw [hE] at hcell hstep
   generalize gBlk g.n (gHold H) Bk i=A at *
   obtain ⟨MM,hMM⟩:∃M,(i+1)*g.n=M:=⟨_,rfl⟩
   have hMb:MM≤327680*524288:=by rw [←hMM]; exact Nat.mul_le_mul omg hnn.2
   have hMi:((i:Nat):Int)+1=((i+1:Nat):Int):=by omega
   have hMi2:(((i:Nat):Int)+1)*((g.n:Nat):Int)=((MM:Nat):Int):=by rw [hMi,←Int.natCast_mul,hMM]
   rw [hMM] at hstep
   simp (disch:=omega) [c26]
   refine JoinN.mk (JoinN.mk ?_)
   by_cases hE0:E=0
   ·subst hE0
    rw [if_pos rfl] at hstep
    simp (disch:=omega) [c26,hcell]
    exact hstep _ _ _ rfl sM ⟨rfl,by omega,hgb⟩ omg
   ·have hE0':¬((E:Nat):Int)=0:=by omega
    rw [if_neg hE0] at hstep
    simp (disch:=omega) [c26,hcell,hE0',hMi2,Hp_max2]
    refine hstep _ _ _ ?_ sM ⟨rfl,by omega,by omega⟩ omg
    congr 1
    split<;>omega
  ·obtain rfl:i=Bk.length:=by omega
   simp (disch:=omega) [c26]
   exact hK
end Go.Proofs.YtdccfkffabngjaaGreat
set_option linter.unusedSimpArgs false
set_option linter.unusedVariables false
set_option maxRecDepth 20000
namespace Go.Proofs.YtdccfkffabngjaaGreat
open Go.Vc
variable {K:VP} {h:Heap}

theorem fiF_len:∀l:List (Nat×Nat×Nat),(l.flatMap fiV).length=l.length*4
 | []=>rfl
 | f::l=>by rw [List.flatMap_cons,List.length_append,fiF_len l]; simp [fiV]; omega
theorem fiF_get:∀(l:List (Nat×Nat×Nat)) (i k:Nat) (hi:i<l.length) (hk:k<4),(l.flatMap fiV)[i*4+k]? = (fiV l[i])[k]?
 | r::l,0,k,_,hk=>by
  rw [List.flatMap_cons,List.getElem?_append_left (by simp [fiV]; omega)]
  simp
 | r::l,i+1,k,hi,hk=>by
  rw [List.flatMap_cons,List.getElem?_append_right (by simp [fiV]; omega),show (fiV r).length=4 from rfl,show (i+1)*4+k-4=i*4+k by omega,fiF_get l i k (by simpa using hi) hk]
  simp
theorem fi_cell {a:Addr} {n c:Nat} {l:List (Nat×Nat×Nat)} (o:OwnG fiT 4 h (.slice (some a) n c) (l.flatMap fiV)) {i:Nat} (hi:i<l.length) :
 hcell h (elt a (i*4))=some (.int .i64 7)∧hcell h (elt a (i*4+1))=some (.int .i64 (l[i].1:Nat))∧hcell h (elt a (i*4+2))=some (.int .u64 (l[i].2.1:Nat))∧hcell h (elt a (i*4+3))=some (.int .u64 (l[i].2.2:Nat)):=by
 have key:∀k (hk:k<4),hcell h (elt a (i*4+k))=(fiV l[i])[k]? := fun k hk=>by
  have hlt:i*4+k<(l.flatMap fiV).length:=by rw [fiF_len]; omega
  rw [(o.cell hlt).1,←List.getElem?_eq_getElem hlt,fiF_get l i k hi hk]
 exact ⟨key 0 omg,key 1 omg,key 2 omg,key 3 omg⟩
set_option maxHeartbeats 4000000 in
theorem with_c {a:Option Addr} {n c:Nat} {F:List (Nat×Nat×Nat)} {f:Nat×Nat×Nat} (o:OwnG fiT 4 h (.slice a n c) (F.flatMap fiV)) (hF:∀e∈F,e.1<f.1) (hFl:F.length≤200000000000)
 (hf:f.1<9223372036854775808)
 (hK:∀h' v',Ext h h'→OwnG fiT 4 h' v' ((F++[f]).flatMap fiV)→(∀b,blkG v'=some b→h.size≤b)→K v' h') :
 CallsH Tryz.prog 65 #[.slice a n c,.agg #[.int .i64 7,.int .i64 (f.1:Nat),.int .u64 (f.2.1:Nat),.int .u64 (f.2.2:Nat)]] h K ⟨⟩:=by
 refine n65_calls ?_
 unfold n65; try delta vF vG vC vD vJ vV vk vt
 have hn:n=F.length:=by
  obtain ⟨a1,n1,c1,e,hl,-,-⟩:=o.form
  injection e with e1 e2 e3
  rw [fiF_len] at hl; omega
 subst hn
 simp (disch:=omega)
 obtain ⟨h1,hh1⟩:∃X,X=h.push (.cells #[.int .i64 7,.int .i64 (f.1:Nat),.int .u64 (f.2.1:Nat),.int .u64 (f.2.2:Nat)] 134):=⟨_,rfl⟩
 have e1:Ext h h1:=by rw [hh1]; exact extS
 have k1:h1[h.size]? = some (.cells #[.int .i64 7,.int .i64 (f.1:Nat),.int .u64 (f.2.1:Nat),.int .u64 (f.2.2:Nat)] 134):=by rw [hh1]; exact get_pushed rfl
 rw [←hh1]
 clear hh1
 have o1:=o.ext e1
 have d0:=cellOf (i:=0) k1 rfl
 have d1:=cellOf (i:=1) k1 rfl
 have d2:=cellOf (i:=2) k1 rfl
 have d3:=cellOf (i:=3) k1 rfl
 refine loopX1 (α:=Unit) (fun _ => .int .i64 (F.length:Nat)) (fun _ G=>G=h1) (fun _=>0) () rfl rfl ?_
 rintro _ G rfl X hX
 obtain ⟨a0,n0,c0,hsl,-,hle,-⟩:=o1.form
 injection hsl with hs1 hs2 hs3
 subst hs1 hs3
 have hnc:F.length≤c:=by omega
 have hz1:=e1.size
 have srcT:Src 4 G (.slice a F.length c) F.length (F.flatMap fiV):=by
  have:=o1.src
  exact this
 have hone:∀l:List (Nat×Nat×Nat),∀u∈l.flatMap fiV,one u=true:=fun l u hu=>by
  obtain ⟨e,-,he⟩:=List.mem_flatMap.1 hu
  unfold fiV at he
  simp at he
  rcases he with rfl|rfl|rfl|rfl<;>rfl
 have hsx:∀G1:Heap,G1.size≥0→Src 4 (G1.push (.cells #[.int .i64 7,.int .i64 (f.1:Nat),.int .u64 (f.2.1:Nat),.int .u64 (f.2.2:Nat)] 134)) (.slice (some ⟨G1.size,0,none⟩) 1 1) 1 (fiV f):=fun G1 _=>Src_new (vs:=fiV f) rfl
 by_cases h0:F.length=0
 ·have h0':¬((F.length:Nat):Int)>0:=by omega
  simp (disch:=omega) [h0',d0,d1,d2,d3]
  refine JoinN_in1 (fun v G2=>Ext h G2∧OwnG fiT 4 G2 v ((F++[f]).flatMap fiV)∧∀b,blkG v=some b→h.size≤b) (fun kk hkk => ?_) (fun v G2 hG2 => ?_)
  ·rw [Hp_slgNH (s:=4) kR omg omg,ValT_iff,Int.toNat_natCast]
   simp (disch:=omega) [d0,d1,d2,d3]
   constructor
   ·refine Hp_appendG (e:=fiT) (s:=4) (by_:=32) (n:=0) (k:=F.length) kR kR OwnG.nil rfl omg srcT (hone F) omg omg fun v4 h4 o4 m4 b4 _ => ?_
    have e4:Ext G h4:=m4.ext_from (.refl _) (fun b hb e=>by cases e)
    have hz4:=e4.size
    have d0':=hcell_ext e4 d0
    have d1':=hcell_ext e4 d1
    have d2':=hcell_ext e4 d2
    have d3':=hcell_ext e4 d3
    have hb4:∀b,blkG v4=some b→G.size≤b:=fun b hb=>(b4 b hb).elim (fun e=>by cases e) id
    simp (disch:=omega) [d0',d1',d2',d3']
    have e5:Ext h4 (h4.push (.cells #[.int .i64 7,.int .i64 (f.1:Nat),.int .u64 (f.2.1:Nat),.int .u64 (f.2.2:Nat)] 134)):=extS
    have hz5:=e5.size
    refine Hp_appendG (e:=fiT) (s:=4) (by_:=32) (n:=F.length) (k:=1) kR kR (o4.ext e5) (by rw [List.nil_append,fiF_len]) omg (hsx h4 (Nat.zero_le _)) (by simp [fiV,one]) omg omg fun v6 h6 o6 m6 b6 _ => ?_
    refine hkk v6 h6 ⟨m6.ext_from ((e1.trans e4).trans e5) (fun b hb e=>by have:=hb4 b e; omega),by rw [List.flatMap_append]; simpa using o6,fun b hb=>(b6 b hb).elim (fun e=>by have:=hb4 b e; omega) (fun e=>by omega)⟩
   ·obtain ⟨g1,hg1⟩:∃X,X=G.push (.cells #[.int .i64 7,.int .i64 (f.1:Nat),.int .u64 (f.2.1:Nat),.int .u64 (f.2.2:Nat)] 134):=⟨_,rfl⟩
    have e3:Ext G g1:=by rw [hg1]; exact extS
    have sx:Src 4 g1 (.slice (some ⟨G.size,0,none⟩) 1 1) 1 (fiV f):=by rw [hg1]; exact hsx G (Nat.zero_le _)
    rw [←hg1]
    clear hg1
    have hz3:=e3.size
    refine Hp_appendG (e:=fiT) (s:=4) (by_:=32) (n:=0) (k:=F.length) kR kR OwnG.nil rfl omg (srcT.ext e3) (hone F) omg omg fun v4 h4 o4 m4 b4 _ => ?_
    have e4:Ext g1 h4:=m4.ext_from (.refl _) (fun b hb e=>by cases e)
    have hz4:=e4.size
    have d0':=hcell_ext (e3.trans e4) d0
    have d1':=hcell_ext (e3.trans e4) d1
    have d2':=hcell_ext (e3.trans e4) d2
    have d3':=hcell_ext (e3.trans e4) d3
    have hb4:∀b,blkG v4=some b→g1.size≤b:=fun b hb=>(b4 b hb).elim (fun e=>by cases e) id
    simp (disch:=omega) [d0',d1',d2',d3']
    refine Hp_appendG (e:=fiT) (s:=4) (by_:=32) (n:=F.length) (k:=1) kR kR o4 (by rw [List.nil_append,fiF_len]) omg (sx.ext e4) (by simp [fiV,one]) omg omg fun v6 h6 o6 m6 b6 _ => ?_
    refine hkk v6 h6 ⟨m6.ext_from ((e1.trans e3).trans e4) (fun b hb e=>by have:=hb4 b e; omega),by rw [List.flatMap_append]; simpa using o6,fun b hb=>(b6 b hb).elim (fun e=>by have:=hb4 b e; omega) (fun e=>by omega)⟩
  ·obtain ⟨eG2,oG2,bG2⟩:=hG2
   rw [Hp_slgLN (s:=4) kR omg omg omg,ValT_iff,Int.toNat_natCast]
   have od:=((o.ext eG2).dropO (lo:=F.length) omg).src
   have hdn:(F.flatMap fiV).drop (F.length*4)=[]:=by rw [←fiF_len,List.drop_length]
   rw [hdn,Nat.sub_self] at od
   rw [Nat.sub_self]
   refine Hp_appendG (e:=fiT) (s:=4) (by_:=32) (n:=F.length+1) (k:=0) kR kR oG2 (by rw [fiF_len,List.length_append]; rfl) omg od (fun u hu=>by cases hu) omg omg fun v6 h6 o6 m6 b6 _ => ?_
   have hz2:=eG2.size
   exact hK h6 v6 (m6.ext_from eG2 (fun b hb e=>by have:=bG2 b e; omega)) (by simpa using o6) (fun b hb=>(b6 b hb).elim (bG2 b) (fun e=>by omega))
 ·have h0':((F.length:Nat):Int)>0:=by omega
  obtain ⟨ab,ao,rfl⟩:∃b o,a=some ⟨b,o,none⟩:=by
   obtain ⟨a1,n1,c1,e,-,-,hne⟩:=o.form
   injection e with e1 _ _
   obtain ⟨b,o2,hh⟩:=hne (fun e=>by have:=congrArg List.length e; rw [fiF_len] at this; simp at this; omega)
   exact ⟨b,o2,e1.trans hh⟩
  obtain ⟨q0,q1,q2,q3⟩:=fi_cell o1 (i:=F.length-1) omg
  have hlt:=hF _ (List.getElem_mem (show F.length-1<F.length by omega))
  obtain ⟨E,hE⟩:∃E,F[F.length-1]'omg=E:=⟨_,rfl⟩
  rw [hE] at q1 hlt
  have hidx:((F.length:Nat):Int)-1=((F.length-1:Nat):Int):=by omega
  obtain ⟨LL,hLL⟩:∃L,F.length-1=L:=⟨_,rfl⟩
  rw [hLL] at hidx q1
  have hng:¬((E.1:Nat):Int)>((f.1:Nat):Int):=by omega
  have hne:¬((E.1:Nat):Int)=((f.1:Nat):Int):=by omega
  simp (disch:=omega) [h0',hidx,q1,d1,hng,hne]
  refine JoinN_in1 (fun v G2=>Ext h G2∧OwnG fiT 4 G2 v ((F++[f]).flatMap fiV)∧∀b,blkG v=some b→h.size≤b) (fun kk hkk => ?_) (fun v G2 hG2 => ?_)
  ·rw [Hp_slgNH (s:=4) kR omg omg,ValT_iff,Int.toNat_natCast]
   simp (disch:=omega) [d0,d1,d2,d3]
   constructor
   ·refine Hp_appendG (e:=fiT) (s:=4) (by_:=32) (n:=0) (k:=F.length) kR kR OwnG.nil rfl omg srcT (hone F) omg omg fun v4 h4 o4 m4 b4 _ => ?_
    have e4:Ext G h4:=m4.ext_from (.refl _) (fun b hb e=>by cases e)
    have hz4:=e4.size
    have d0':=hcell_ext e4 d0
    have d1':=hcell_ext e4 d1
    have d2':=hcell_ext e4 d2
    have d3':=hcell_ext e4 d3
    have hb4:∀b,blkG v4=some b→G.size≤b:=fun b hb=>(b4 b hb).elim (fun e=>by cases e) id
    simp (disch:=omega) [d0',d1',d2',d3']
    have e5:Ext h4 (h4.push (.cells #[.int .i64 7,.int .i64 (f.1:Nat),.int .u64 (f.2.1:Nat),.int .u64 (f.2.2:Nat)] 134)):=extS
    have hz5:=e5.size
    refine Hp_appendG (e:=fiT) (s:=4) (by_:=32) (n:=F.length) (k:=1) kR kR (o4.ext e5) (by rw [List.nil_append,fiF_len]) omg (hsx h4 (Nat.zero_le _)) (by simp [fiV,one]) omg omg fun v6 h6 o6 m6 b6 _ => ?_
    refine hkk v6 h6 ⟨m6.ext_from ((e1.trans e4).trans e5) (fun b hb e=>by have:=hb4 b e; omega),by rw [List.flatMap_append]; simpa using o6,fun b hb=>(b6 b hb).elim (fun e=>by have:=hb4 b e; omega) (fun e=>by omega)⟩
   ·obtain ⟨g1,hg1⟩:∃X,X=G.push (.cells #[.int .i64 7,.int .i64 (f.1:Nat),.int .u64 (f.2.1:Nat),.int .u64 (f.2.2:Nat)] 134):=⟨_,rfl⟩
    have e3:Ext G g1:=by rw [hg1]; exact extS
    have sx:Src 4 g1 (.slice (some ⟨G.size,0,none⟩) 1 1) 1 (fiV f):=by rw [hg1]; exact hsx G (Nat.zero_le _)
    rw [←hg1]
    clear hg1
    have hz3:=e3.size
    refine Hp_appendG (e:=fiT) (s:=4) (by_:=32) (n:=0) (k:=F.length) kR kR OwnG.nil rfl omg (srcT.ext e3) (hone F) omg omg fun v4 h4 o4 m4 b4 _ => ?_
    have e4:Ext g1 h4:=m4.ext_from (.refl _) (fun b hb e=>by cases e)
    have hz4:=e4.size
    have d0':=hcell_ext (e3.trans e4) d0
    have d1':=hcell_ext (e3.trans e4) d1
    have d2':=hcell_ext (e3.trans e4) d2
    have d3':=hcell_ext (e3.trans e4) d3
    have hb4:∀b,blkG v4=some b→g1.size≤b:=fun b hb=>(b4 b hb).elim (fun e=>by cases e) id
    simp (disch:=omega) [d0',d1',d2',d3']
    refine Hp_appendG (e:=fiT) (s:=4) (by_:=32) (n:=F.length) (k:=1) kR kR o4 (by rw [List.nil_append,fiF_len]) omg (sx.ext e4) (by simp [fiV,one]) omg omg fun v6 h6 o6 m6 b6 _ => ?_
    refine hkk v6 h6 ⟨m6.ext_from ((e1.trans e3).trans e4) (fun b hb e=>by have:=hb4 b e; omega),by rw [List.flatMap_append]; simpa using o6,fun b hb=>(b6 b hb).elim (fun e=>by have:=hb4 b e; omega) (fun e=>by omega)⟩
  ·obtain ⟨eG2,oG2,bG2⟩:=hG2
   rw [Hp_slgLN (s:=4) kR omg omg omg,ValT_iff,Int.toNat_natCast]
   have od:=((o.ext eG2).dropO (lo:=F.length) omg).src
   have hdn:(F.flatMap fiV).drop (F.length*4)=[]:=by rw [←fiF_len,List.drop_length]
   rw [hdn,Nat.sub_self] at od
   rw [Nat.sub_self]
   refine Hp_appendG (e:=fiT) (s:=4) (by_:=32) (n:=F.length+1) (k:=0) kR kR oG2 (by rw [fiF_len,List.length_append]; rfl) omg od (fun u hu=>by cases hu) omg omg fun v6 h6 o6 m6 b6 _ => ?_
   have hz2:=eG2.size
   exact hK h6 v6 (m6.ext_from eG2 (fun b hb e=>by have:=bG2 b e; omega)) (by simpa using o6) (fun b hb=>(b6 b hb).elim (bG2 b) (fun e=>by omega))
end Go.Proofs.YtdccfkffabngjaaGreat
set_option linter.unusedSimpArgs false
set_option linter.unusedVariables false
set_option maxRecDepth 20000
namespace Go.Proofs.YtdccfkffabngjaaGreat
open Go.Vc
variable {K:VP} {h:Heap} {x:Hd} {B:List UInt8} {g:Gm}

theorem blkH_mem {j k:Nat}:k∈g.blkH B j↔∃i,i<j∧g.word B i≠0∧g.cl i=k:=by
 unfold Gm.blkH
 rw [List.mem_map]
 constructor
 ·rintro ⟨i,hi,he⟩
  rw [List.mem_filter,List.mem_range] at hi
  exact ⟨i,hi.1,of_decide_eq_true hi.2,he⟩
 ·rintro ⟨i,h1,h2,h3⟩
  exact ⟨i,List.mem_filter.2 ⟨List.mem_range.2 h1,decide_eq_true h2⟩,h3⟩
theorem allH_hold (kk:g.ok) {k:Nat} (hk:k∈g.allH B):g.hold B k:=by
 have hu:=kk.u0
 have hu1:=kk.u1
 unfold Gm.allH at hk
 rw [List.mem_append,List.mem_append,List.mem_append] at hk
 rcases hk with ((h|h)|h)|h
 ·rw [List.mem_singleton.1 h]; exact .inl omg
 ·obtain ⟨j,hj,rfl⟩:=List.mem_map.1 h
  have:=List.mem_range.1 hj
  exact .inl omg
 ·obtain ⟨i,h1,h2,h3⟩:=blkH_mem.1 h
  by_cases e:i=0
  ·rw [e] at h3
   unfold Gm.cl at h3
   rw [if_pos rfl] at h3
   exact .inl omg
  ·exact .inr ⟨i,e,h1,h2,h3.symm⟩
 ·unfold Gm.l1H at h
  split at h
  ·cases h
  ·rw [List.mem_singleton.1 h]; exact .inl omg
theorem allH_nodup (kk:g.ok):(g.allH B).Nodup:=by
 have hu:=kk.u0
 have hu1:=kk.u1
 have hn:=kk.n64
 have hL:=kk.L1
 have hbl:∀k∈g.blkH B g.m,g.u-1≤k∧(k=g.u-1∨g.u<k):=fun k hk=>by
  obtain ⟨i,h1,h2,h3⟩:=blkH_mem.1 hk
  by_cases e:i=0
  ·rw [e] at h3; unfold Gm.cl at h3; rw [if_pos rfl] at h3; omega
  ·have:=kk.cl_u e; omega
 unfold Gm.allH
 refine List.nodup_append.2 ⟨List.nodup_append.2 ⟨List.nodup_append.2 ⟨by simp,List.pairwise_map.2 (List.nodup_range.imp fun {a b} h e=>h omg),?_⟩,?_,?_⟩,?_,?_⟩
 ·intro a ha b hb e
  rw [List.mem_singleton.1 ha] at e
  obtain ⟨j,hj,rfl⟩:=List.mem_map.1 hb
  omega
 ·unfold Gm.blkH
  exact List.pairwise_map.2 ((List.nodup_range.filter _).imp fun {a b} h e=>h (kk.cl_inj e))
 ·intro a ha b hb e
  have h2:=hbl b hb
  rcases List.mem_append.1 ha with h|h
  ·rw [List.mem_singleton.1 h] at e; omega
  ·obtain ⟨j,hj,rfl⟩:=List.mem_map.1 h
   have:=List.mem_range.1 hj
   omega
 ·unfold Gm.l1H; split<;>simp
 ·intro a ha b hb e
  unfold Gm.l1H at hb
  split at hb
  ·cases hb
  ·rename_i hne
   rw [List.mem_singleton.1 hb] at e
   rcases List.mem_append.1 ha with h|h
   ·rcases List.mem_append.1 h with h|h
    ·rw [List.mem_singleton.1 h] at e; omega
    ·obtain ⟨j,hj,rfl⟩:=List.mem_map.1 h
     have:=List.mem_range.1 hj
     omega
   ·have:=hbl a h; omega
theorem allH_le (kk:g.ok) (I:Img g x B) (k:Nat):(g.allH B).count k≤g.cntX B k:=by
 rw [List.Nodup.count (allH_nodup kk)]
 split
 ·rename_i hk
  have hh:=allH_hold kk hk
  unfold Gm.cntX
  rw [if_pos (kk.hold_lt hh)]
  exact I.cov k hh
 ·exact Nat.zero_le _
theorem allH_len (kk:g.ok):(g.allH B).length≤400000:=by
 have h1:=g.blkH_len B g.m
 have h2:=kk.m8
 have h3:=kk.room_lt
 have h4:=kk.L1
 have h5:g.l1H.length≤1:=by unfold Gm.l1H; split<;>simp
 unfold Gm.allH
 rw [List.length_append,List.length_append,List.length_append,List.length_map,List.length_range,List.length_singleton]
 omega
def leakF (g:Gm) (B:List UInt8) (k:Nat):List (Nat×Nat×Nat):=((List.range k).filter fun k=>decide ((g.allH B).count k<g.cntX B k)).map fun k=>(k*g.c,(g.allH B).count k,g.cntX B k)
theorem leakF_succ (g:Gm) (B:List UInt8) (k:Nat):leakF g B (k+1)=leakF g B k++(if (g.allH B).count k<g.cntX B k then [(k*g.c,(g.allH B).count k,g.cntX B k)] else []):=by
 unfold leakF
 rw [List.range_succ,List.filter_append,List.map_append]
 congr 1
 by_cases hw:(g.allH B).count k<g.cntX B k
 ·rw [if_pos hw]; simp [hw]
 ·rw [if_neg hw]; simp [hw]
theorem leakF_len (g:Gm) (B:List UInt8) (k:Nat):(leakF g B k).length≤k:=by
 unfold leakF
 rw [List.length_map]
 refine Nat.le_trans (List.length_filter_le _ _) ?_
 rw [List.length_range]; exact Nat.le_refl _
theorem leakF_sorted (kk:g.ok) (k:Nat):(leakF g B k).Pairwise fun a b=>a.1<b.1:=by
 obtain ⟨q,hq,h1,-⟩:=kk.c512
 unfold leakF
 refine List.pairwise_map.2 ((List.pairwise_lt_range.filter _).imp fun {a b} h => ?_)
 exact Nat.mul_lt_mul_of_pos_right h omg
def Gm.endG (g:Gm) (B:List UInt8):Nat:=g.grt (g.allH B) ((List.range g.m).map (g.word B))
set_option maxHeartbeats 8000000 in
theorem rBytes15_c {v:Value} (kk:g.ok) (hd:HdOk g x) (I:Img g x B) (hB:Bytes h v B) (hG:g.endG B≤171798691840)
 (hK:∀h' rv cl he,Ext h h'→OwnG fiT 4 h' rv ((leakF g B (g.endG B)).flatMap fiV)→K (.tuple #[.agg #[rv,.bool false,.int .i64 cl,.int .i64 he,.int .i64 0,.int .i64 0,.int .i64 0],.int .i64 0]) h') :
 CallsH Tryz.prog 24 #[v] h K ⟨⟩:=by
 refine n24_calls ?_
 unfold n24; try delta vF vG vC vD vJ vV vk vt
 have hfew:=I.few
 have hnd:=allH_nodup (B:=B) kk
 have hHl:=allH_len (B:=B) kk
 have hmm:((List.range g.m).map (g.word B)).length≤327680:=by
  have h2:=kk.m8
  have h3:=kk.room_lt
  rw [List.length_map,List.length_range]; omega
 have hHk:∀k∈g.allH B,k≤171798691840:=fun k hk=>by
  have h1:=kk.hold_lt (allH_hold kk hk)
  rw [Nat.div_lt_iff_lt_mul (by have:=kk.n64; omega)] at h1
  have h2:k<g.room:=h1
  have:=kk.room_lt
  omega
 simp (disch:=omega)
 obtain ⟨h1,hh1⟩:∃X,X=h.push (.cells #[.slice none 0 0,.bool false,.int .i64 0,.int .i64 0,.int .i64 0,.int .i64 0,.int .i64 0] 63):=⟨_,rfl⟩
 have e1:Ext h h1:=by rw [hh1]; exact extS
 have k1:h1[h.size]? = some (.cells #[.slice none 0 0,.bool false,.int .i64 0,.int .i64 0,.int .i64 0,.int .i64 0,.int .i64 0] 63):=by rw [hh1]; exact get_pushed rfl
 rw [←hh1]
 clear hh1
 refine goes_c kk hd I (hB.ext e1) fun g0 h2 w W E0 a2 hr0 hb0 hh0 ha0 => ?_
 simp (disch:=omega)
 refine wAll_c kk hd a2 hfew ?_
 have d20:=cellOf (i:=20) a2.c rfl
 have f20:=frzOf (i:=20) a2.c
 unfold ptrV
 simp (disch:=omega) [d20,f20]
 have a3:=a2.num (i:=20) (v := .int .i64 ((B.length/g.c:Nat):Int)) (W':={ W with cl:=((B.length/g.c:Nat):Int) }) rfl ⟨rfl,rfl,rfl,rfl,rfl⟩
 have hal:((B.length/g.c:Nat):Int)=((B.length:Nat):Int)/((g.c:Nat):Int):=Int.natCast_ediv _ _
 rw [hal] at a3
 generalize hg3:hset h2 ⟨w,20,none⟩ _=h3 at *
 obtain ⟨CL,hCL⟩:∃C,((B.length:Nat):Int)/((g.c:Nat):Int)=C:=⟨_,rfl⟩
 rw [hCL] at a3
 obtain ⟨q,hq,hq1,hq2⟩:=kk.c512
 have hb0':=kk.b0
 have hb1':=kk.b1
 have hcw:2^g.b=g.c:=rfl
 have hw0:∀{G:Heap} {W':Wk} {F R:List (Nat×Nat×Nat)},WkAt g0 G w x W' B (g.allH B) F R ((List.range g.m).map (g.word B))→w<G.size:=fun a=>get_some_lt a.c
 clear d20 f20 a2 hg3 hal
 refine loopX1 (α:=Nat×Wk) (fun z => .int .i64 z.1) (fun z G=>z.1≤g.endG B∧WkAt g0 G w x z.2 B (g.allH B) (leakF g B z.1) [] ((List.range g.m).map (g.word B))∧z.2.rv = .slice none 0 0∧z.2.br=false∧0≤z.2.hd∧z.2.hd≤z.1) (fun z=>g.endG B-z.1) (0,{ W with cl:=CL }) rfl ⟨Nat.zero_le _,a3,hr0,hb0,by dsimp only; rw [hh0]; decide,by dsimp only; rw [hh0]; decide⟩ ?_
 rintro ⟨k,W1⟩ G ⟨hk,aG,hr1,hb1,hd0,hd1⟩ X hX
 dsimp only at hk aG hr1 hb1 hd0 hd1 hX ⊢
 rw [show (.pointer (some ⟨w,0,none⟩):Value)=ptrV w from rfl]
 refine wGrt_c kk hd aG hHk omg hmm ?_
 rw [show g.grt (g.allH B) ((List.range g.m).map (g.word B))=g.endG B from rfl]
 by_cases hkE:k<g.endG B
 ·simp (disch:=omega)
  refine JoinN.mk (JoinN.mk ?_)
  refine wHeld_c aG hnd omg ?_
  have hle:=allH_le kk I k
  have hsucc:=leakF_succ g B k
  have hlen:=leakF_len g B k
  have hkC:k*g.c≤171798691840*65536:=Nat.mul_le_mul omg omg
  have hcnt1:(g.allH B).count k≤1:=by rw [List.Nodup.count hnd]; split<;>omega
  obtain ⟨AT,hAT⟩:∃A,k*g.c=A:=⟨_,rfl⟩
  rw [hAT] at hkC hsucc
  have hATi:((k:Nat):Int)*((g.c:Nat):Int)=((AT:Nat):Int):=by rw [←hAT,Int.natCast_mul]
  obtain ⟨HN,hHN⟩:∃n,(g.allH B).count k=n:=⟨_,rfl⟩
  rw [hHN] at hle hsucc hcnt1 ⊢
  have hshl:=fun (q:Bool) (o1 o2:Go.Operand) (G:Heap) (K:VP)=>Hp_shlW (P:=Tryz.prog) (q:=q) (t:=2) (x:=o1) (y:=o2) (k' := .i64) (K:=K) (h:=G) (a:=((k:Nat):Int)) hcw omg omg (by rw [hATi]; omega)
  have hnext:∀G' W',WkAt g0 G' w x W' B (g.allH B) (leakF g B (k+1)) [] ((List.range g.m).map (g.word B))→W'.rv = .slice none 0 0→W'.br=false→0≤W'.hd→W'.hd≤k+1→X (.int .i64 ((k:Int)+1)) G':=fun G' W' a' h1 h2 h3 h4 =>
   hX (k+1,W') _ _ sM ⟨by omega,a',h1,h2,h3,by dsimp only; omega⟩ (by dsimp only; omega)
  have c1G:hcell G ⟨w,1,none⟩=some (.int .i64 x.bits):=cellOf (i:=1) aG.c rfl
  rw [hd.bits] at c1G
  simp (disch:=omega)
  refine JoinN.mk ?_
  (try unfold ptrV)
  by_cases hH0:HN=0
  ·have hng0:¬((HN:Nat):Int)>0:=by omega
   simp (disch:=omega) [hng0,c1G,hshl,hATi]
   obtain ⟨GB,hGB⟩:∃z,z=G:=⟨_,rfl⟩
   obtain ⟨WB,hWB⟩:∃z,z=W1:=⟨_,rfl⟩
   have aB:=aG
   rw [←hGB,←hWB] at aB
   have hrB:=hr1
   have hbB:=hb1
   have hdB0:=hd0
   have hdB1:W1.hd≤(k:Int)+1:=by omega
   rw [←hWB] at hrB hbB hdB0 hdB1
   rw [←hGB]
   refine JoinN.mk ?_
   simp (disch:=omega)
   rw [show (.pointer (some ⟨w,0,none⟩):Value)=ptrV w from rfl]
   refine wCount_c kk hd I aB omg ?_
   obtain ⟨CX,hCX⟩:∃c,g.cntX B k=c:=⟨_,rfl⟩
   rw [hCX] at hle hsucc ⊢
   have hnl:¬((CX:Nat):Int)<((HN:Nat):Int):=by omega
   refine JoinN.mk ?_
   simp (disch:=omega) [hnl]
   by_cases hgt:HN<CX
   ·have hgt':((CX:Nat):Int)>((HN:Nat):Int):=by omega
    rw [if_pos hgt] at hsucc
    have c17:hcell GB ⟨w,17,none⟩=some WB.fv:=cellOf (i:=17) aB.c rfl
    obtain ⟨va,vn,vc,hfv,hvl,hvc,-⟩:=aB.ff.form
    rw [hfv] at c17
    rw [fiF_len] at hvl
    have hwG:=get_some_lt aB.c
    have hwne:¬w=GB.size:=by omega
    unfold ptrV
    simp (disch:=omega) [hgt',c17,hwne]
    obtain ⟨g1,hg1⟩:∃X,X=GB.push (.cells #[.int .i64 7,.int .i64 (AT:Nat),.int .u64 (HN:Nat),.int .u64 (CX:Nat)] 134):=⟨_,rfl⟩
    have e1':Ext GB g1:=by rw [hg1]; exact extS
    have sx:Src 4 g1 (.slice (some ⟨GB.size,0,none⟩) 1 1) 1 (fiV (AT,HN,CX)):=by rw [hg1]; exact Src_new (vs:=fiV (AT,HN,CX)) rfl
    rw [←hg1]
    clear hg1
    have hz1:=e1'.size
    have a1:=aB.ext' e1'
    have hff:=a1.ff
    rw [hfv] at hff
    refine Hp_appendG (e:=fiT) (s:=4) (by_:=32) (n:=vn) (k:=1) kR kR hff (by rw [fiF_len]; omega) omg sx (by simp [fiV,one]) omg omg fun v' h' o' m' b' _ => ?_
    rw [←hfv] at m' b'
    have k2:=(m'.block w omg (fun e=>own_nw a1 a1.ff dM e rfl)).trans a1.c
    have d17:=cellOf (i:=17) k2 rfl
    have f17:=frzOf (i:=17) k2
    obtain ⟨va',vn',vc',rfl,-,-,-⟩:=o'.form
    simp (disch:=omega) [d17,f17]
    have a4:=a1.putF (by rw [hrB]; rfl) o' m' b'
    rw [←hsucc] at a4
    exact hnext _ _ a4 hrB hbB hdB0 hdB1
   ·have hgt':¬((CX:Nat):Int)>((HN:Nat):Int):=by omega
    rw [if_neg hgt,List.append_nil] at hsucc
    simp (disch:=omega) [hgt']
    refine hnext GB WB ?_ hrB hbB hdB0 hdB1
    rw [hsucc]
    exact aB
  ·have hgt0:((HN:Nat):Int)>0:=by omega
   have d21:hcell G ⟨w,21,none⟩=some (.int .i64 W1.hd):=cellOf (i:=21) aG.c rfl
   have f21:=frzOf (i:=21) aG.c
   simp (disch:=omega) [hgt0,d21,f21,c1G,hshl,hATi]
   have aB:=aG.num (i:=21) (v := .int .i64 (W1.hd+1)) (W':={ W1 with hd:=W1.hd+1 }) rfl ⟨rfl,rfl,rfl,rfl,rfl⟩
   generalize hgB:hset G ⟨w,21,none⟩ _=GB at *
   obtain ⟨WB,hWB⟩:∃z,z=({ W1 with hd:=W1.hd+1 }:Wk):=⟨_,rfl⟩
   rw [←hWB] at aB
   have hrB:WB.rv = .slice none 0 0:=by rw [hWB]; exact hr1
   have hbB:WB.br=false:=by rw [hWB]; exact hb1
   have hdB0:0≤WB.hd:=by rw [hWB]; dsimp only; omega
   have hdB1:WB.hd≤(k:Int)+1:=by rw [hWB]; dsimp only; omega
   refine JoinN.mk ?_
   simp (disch:=omega)
   rw [show (.pointer (some ⟨w,0,none⟩):Value)=ptrV w from rfl]
   refine wCount_c kk hd I aB omg ?_
   obtain ⟨CX,hCX⟩:∃c,g.cntX B k=c:=⟨_,rfl⟩
   rw [hCX] at hle hsucc ⊢
   have hnl:¬((CX:Nat):Int)<((HN:Nat):Int):=by omega
   refine JoinN.mk ?_
   simp (disch:=omega) [hnl]
   by_cases hgt:HN<CX
   ·have hgt':((CX:Nat):Int)>((HN:Nat):Int):=by omega
    rw [if_pos hgt] at hsucc
    have c17:hcell GB ⟨w,17,none⟩=some WB.fv:=cellOf (i:=17) aB.c rfl
    obtain ⟨va,vn,vc,hfv,hvl,hvc,-⟩:=aB.ff.form
    rw [hfv] at c17
    rw [fiF_len] at hvl
    have hwG:=get_some_lt aB.c
    have hwne:¬w=GB.size:=by omega
    unfold ptrV
    simp (disch:=omega) [hgt',c17,hwne]
    obtain ⟨g1,hg1⟩:∃X,X=GB.push (.cells #[.int .i64 7,.int .i64 (AT:Nat),.int .u64 (HN:Nat),.int .u64 (CX:Nat)] 134):=⟨_,rfl⟩
    have e1':Ext GB g1:=by rw [hg1]; exact extS
    have sx:Src 4 g1 (.slice (some ⟨GB.size,0,none⟩) 1 1) 1 (fiV (AT,HN,CX)):=by rw [hg1]; exact Src_new (vs:=fiV (AT,HN,CX)) rfl
    rw [←hg1]
    clear hg1
    have hz1:=e1'.size
    have a1:=aB.ext' e1'
    have hff:=a1.ff
    rw [hfv] at hff
    refine Hp_appendG (e:=fiT) (s:=4) (by_:=32) (n:=vn) (k:=1) kR kR hff (by rw [fiF_len]; omega) omg sx (by simp [fiV,one]) omg omg fun v' h' o' m' b' _ => ?_
    rw [←hfv] at m' b'
    have k2:=(m'.block w omg (fun e=>own_nw a1 a1.ff dM e rfl)).trans a1.c
    have d17:=cellOf (i:=17) k2 rfl
    have f17:=frzOf (i:=17) k2
    obtain ⟨va',vn',vc',rfl,-,-,-⟩:=o'.form
    simp (disch:=omega) [d17,f17]
    have a4:=a1.putF (by rw [hrB]; rfl) o' m' b'
    rw [←hsucc] at a4
    exact hnext _ _ a4 hrB hbB hdB0 hdB1
   ·have hgt':¬((CX:Nat):Int)>((HN:Nat):Int):=by omega
    rw [if_neg hgt,List.append_nil] at hsucc
    simp (disch:=omega) [hgt']
    refine hnext GB WB ?_ hrB hbB hdB0 hdB1
    rw [hsucc]
    exact aB
 ·obtain rfl:k=g.endG B:=by omega
  simp (disch:=omega)
  obtain ⟨FF,hFF⟩:∃l,leakF g B (g.endG B)=l:=⟨_,rfl⟩
  have hFl:=leakF_len g B (g.endG B)
  have hFs:=leakF_sorted (B:=B) kk (g.endG B)
  have hFat:∀e∈leakF g B (g.endG B),e.1<9223372036854775808:=fun e he=>by
   unfold leakF at he
   obtain ⟨k,hk,rfl⟩:=List.mem_map.1 he
   have hk':=List.mem_range.1 (List.mem_filter.1 hk).1
   have:k*g.c≤171798691840*65536:=Nat.mul_le_mul omg omg
   dsimp only
   omega
  rw [hFF] at aG hFl hFs hFat hK
  have k1w:h.size<g0.size:=by have:=get_some_lt k1; have:=E0.size; omega
  refine loopX1 (α:=Nat×Wk) (fun z => .int .i64 z.1) (fun z G=>z.1≤FF.length∧WkAt g0 G w x z.2 B (g.allH B) FF (FF.take z.1) ((List.range g.m).map (g.word B))∧z.2.br=false) (fun z=>FF.length-z.1) (0,W1) rfl ⟨Nat.zero_le _,aG,hb1⟩ ?_
  rintro ⟨i,W2⟩ G2 ⟨hi,a5,hb2⟩ X2 hX2
  dsimp only at hi a5 hb2 hX2 ⊢
  have c17:hcell G2 ⟨w,17,none⟩=some W2.fv:=cellOf (i:=17) a5.c rfl
  have c18:hcell G2 ⟨w,18,none⟩=some W2.rv:=cellOf (i:=18) a5.c rfl
  obtain ⟨fa,fn,fc,hfv,hfl,hfc,hfb⟩:=a5.ff.form
  have hff:=a5.ff
  rw [hfv] at c17 hff
  have hfn:fn=FF.length:=by rw [fiF_len] at hfl; omega
  subst hfn
  obtain ⟨ra,rn,rc,hrv,-,-,-⟩:=a5.rr.form
  have hrr:=a5.rr
  rw [hrv] at c18 hrr
  by_cases hil:i<FF.length
  ·obtain ⟨ab,ao,rfl⟩:=hfb (fun e=>by have:=congrArg List.length e; rw [fiF_len] at this; simp at this; omega)
   obtain ⟨q0,q1,q2,q3⟩:=fi_cell hff hil
   have hat:=hFat _ (List.getElem_mem hil)
   have htk:FF.take (i+1)=FF.take i++[FF[i]]:=List.take_succ_eq_append_getElem hil
   have hlt:∀e∈FF.take i,e.1<(FF[i]).1:=fun e he=>by
    obtain ⟨t,ht,rfl⟩:=List.mem_iff_getElem.1 he
    rw [List.length_take] at ht
    rw [List.getElem_take]
    exact List.pairwise_iff_getElem.1 hFs t i omg hil omg
   obtain ⟨f,hf⟩:∃f,FF[i]=f:=⟨_,rfl⟩
   rw [hf] at q1 q2 q3 hat htk hlt
   unfold ptrV
   simp (disch:=omega) [c17,c18,q0,q1,q2,q3]
   refine with_c hrr hlt (by rw [List.length_take]; omega) hat fun h' v' e' o' b' => ?_
   have k2:=(e'.block _ (get_some_lt a5.c)).trans a5.c
   have p17:hcell h' ⟨w,17,none⟩=some W2.fv:=cellOf (i:=17) k2 rfl
   have p18:=cellOf (i:=18) k2 rfl
   have p19:hcell h' ⟨w,19,none⟩=some (.bool W2.br):=cellOf (i:=19) k2 rfl
   have f18:=frzOf (i:=18) k2
   have f19:=frzOf (i:=19) k2
   rw [hfv] at p17
   rw [hb2] at p19
   have q0':=hcell_ext e' q0
   have hwab:¬w=ab:=fun e=>own_nw a5 a5.ff dM (b:=ab) (by rw [hfv]; obtain ⟨c',rfl⟩:∃c',fc=c'+1:=⟨fc-1,by omega⟩; rfl) e.symm
   obtain ⟨va',vn',vc',rfl,-,-,-⟩:=o'.form
   have hwab2:¬ab=w:=fun e=>hwab e.symm
   have hadd:∀(j k:Nat) (u:Value) (G:Heap),hcell (hset G ⟨w,j,none⟩ u) (elt ⟨ab,ao,none⟩ k)=hcell G (elt ⟨ab,ao,none⟩ k):=fun j k u G=>by
    rw [elt_mk]; exact hcell_set_other (fun e=>hwab (congrArg Addr.block e))
   simp (disch:=omega) [p17,p18,p19,f18,f19,hadd,q0']
   have a6:=a5.putR e' o' b'
   have a7:=a6.num (i:=19) (v := .bool false) (W':={ W2 with rv := .slice va' vn' vc',br:=false }) rfl ⟨rfl,rfl,rfl,rfl,rfl⟩
   rw [←htk] at a7
   exact hX2 (i+1,{ W2 with rv := .slice va' vn' vc',br:=false }) _ _ sM ⟨by omega,a7,rfl⟩ (by dsimp only; omega)
  ·obtain rfl:i=FF.length:=by omega
   rw [List.take_length] at a5 hrr
   unfold ptrV
   have c19:hcell G2 ⟨w,19,none⟩=some (.bool W2.br):=cellOf (i:=19) a5.c rfl
   have c20:hcell G2 ⟨w,20,none⟩=some (.int .i64 W2.cl):=cellOf (i:=20) a5.c rfl
   have c21:hcell G2 ⟨w,21,none⟩=some (.int .i64 W2.hd):=cellOf (i:=21) a5.c rfl
   have c22:hcell G2 ⟨w,22,none⟩=some (.int .i64 0):=cellOf (i:=22) a5.c rfl
   have c23:hcell G2 ⟨w,23,none⟩=some (.int .i64 0):=cellOf (i:=23) a5.c rfl
   have c24:hcell G2 ⟨w,24,none⟩=some (.int .i64 0):=cellOf (i:=24) a5.c rfl
   rw [hb2] at c19
   have kT:=(a5.ext.block _ k1w).trans ((E0.block _ (get_some_lt k1)).trans k1)
   have t0:=cellOf (i:=0) kT rfl
   have t1:=cellOf (i:=1) kT rfl
   have t2:=cellOf (i:=2) kT rfl
   have t3:=cellOf (i:=3) kT rfl
   have t4:=cellOf (i:=4) kT rfl
   have t5:=cellOf (i:=5) kT rfl
   have t6:=cellOf (i:=6) kT rfl
   have z0:=frzOf (i:=0) kT
   have z1:=frzOf (i:=1) kT
   have z2:=frzOf (i:=2) kT
   have z3:=frzOf (i:=3) kT
   have z4:=frzOf (i:=4) kT
   have z5:=frzOf (i:=5) kT
   have z6:=frzOf (i:=6) kT
   simp (disch:=omega) [c17,c18,c19,c20,c21,c22,c23,c24,loadsP,t0,t1,t2,t3,t4,t5,t6,z0,z1,z2,z3,z4,z5,z6]
   have eG2:Ext h G2:=e1.trans (E0.trans a5.ext)
   have hzz:=e1.size
   refine hK _ _ _ _ extS ?_
   refine hrr.mod (S:=fun b=>b=h.size) modS (fun b hb e => ?_)
   have:=a5.nr b (by rw [hrv]; exact hb)
   omega
end Go.Proofs.YtdccfkffabngjaaGreat
set_option linter.unusedSimpArgs false
set_option linter.unusedVariables false
namespace Go.Proofs.YtdccfkffabngjaaGreat
open Go.Vc

def Gm.ones (g:Gm):Nat→List UInt8
 | 0=>zeros g.c
 | k+1=>setC (g.ones k) g.w k 1
theorem Gm.ones_len (g:Gm) (k:Nat):(g.ones k).length=g.c:=by
 induction k with
 | zero=>exact zeros_len _
 | succ k ih=>unfold Gm.ones; rw [setC_length,ih]
theorem Gm.ok.ones_cnt {g:Gm} (kk:g.ok) {k:Nat} (hk:k≤g.n) (j:Nat):Vc.cnt (g.ones k) g.w j=if j<k then 1 else 0:=by
 induction k with
 | zero=>rw [if_neg omg]; exact cnt_zeros _ _ _
 | succ k ih =>
  have hw:=kk.w64
  have hn:=kk.nw
  have h1:k*g.w+g.w≤8*(g.ones k).length:=by
   rw [g.ones_len,←hn,←Nat.succ_mul]
   exact Nat.mul_le_mul_right _ hk
  unfold Gm.ones
  rw [cnt_setC h1,ih omg]
  by_cases e:j=k
  ·rw [if_pos e,if_pos omg,Nat.mod_eq_of_lt (Nat.one_lt_two_pow omg)]
  ·rw [if_neg e]
   by_cases e2:j<k
   ·rw [if_pos e2,if_pos omg]
   ·rw [if_neg e2,if_neg omg]
def Gm.laidB (g:Gm) (x:Hd):List UInt8:=over (over (over (zeros (g.u*g.c)) 0 (hdB x)) g.c (leB 8 ((g.u-1)*g.c))) ((g.u-1)*g.c) (g.ones g.u)
structure Laid (g:Gm) (B:List UInt8):Prop where
 len:B.length=g.u*g.c
 wi:∀i,1≤i→i<g.m→g.word B i=0
 cnt:∀k,k<g.n→g.cnt B k=if k<g.u then 1 else 0
theorem laid_img {g:Gm} {x:Hd} (kk:g.ok) (hd:HdOk g x):Img g x (g.laidB x)∧Laid g (g.laidB x):=by
 obtain ⟨q,hq,hq1,hq2⟩:=kk.c512
 have hu0:=kk.u0
 have hu1:=kk.u1
 have hL1:=kk.L1
 have hn:=kk.n64
 have hh:(hdB x).length=512:=hdB_len hd.may
 have hz:(zeros (g.u*g.c)).length=g.u*g.c:=zeros_len _
 obtain ⟨P,hP⟩:∃P,(g.u-1)*g.c=P:=⟨_,rfl⟩
 obtain ⟨U,hU⟩:∃U,g.u*g.c=U:=⟨_,rfl⟩
 have hPU:P+g.c=U:=by
  rw [←hP,←hU,show g.u=(g.u-1)+1 by omega,Nat.add_sub_cancel,Nat.add_mul,Nat.one_mul]
 have hU2:U≤43*65536:=by rw [←hU]; exact Nat.mul_le_mul omg omg
 have hLP:g.c+g.L*g.c≤P:=by have:=kk.pl_tab 0; unfold Gm.pl Gm.cl at this; rw [if_pos rfl,hP] at this; exact this
 have hp0:g.pl 0=P:=by unfold Gm.pl Gm.cl; rw [if_pos rfl,hP]
 have h8:(leB 8 P).length=8:=leB_length 8 _
 unfold Gm.laidB
 rw [hP,hU]
 rw [hU] at hz
 obtain ⟨B1,e1⟩:∃B,over (zeros U) 0 (hdB x)=B:=⟨_,rfl⟩
 have k1:0+(hdB x).length≤(zeros U).length:=by rw [hh,hz]; omega
 have l1:B1.length=U:=by rw [←e1,over_len k1,hz]
 obtain ⟨B2,e2⟩:∃B,over B1 g.c (leB 8 P)=B:=⟨_,rfl⟩
 have k2:g.c+(leB 8 P).length≤B1.length:=by rw [h8,l1]; omega
 have l2:B2.length=U:=by rw [←e2,over_len k2,l1]
 have ho:=g.ones_len g.u
 have k3:P+(g.ones g.u).length≤B2.length:=by rw [ho,l2]; omega
 rw [e1,e2]
 obtain ⟨B3,e3⟩:∃B,over B2 P (g.ones g.u)=B:=⟨_,rfl⟩
 rw [e3]
 have l3:B3.length=U:=by rw [←e3,over_len k3,l2]
 have hm:=kk.m0
 have w0:g.word B3 0=P:=by
  unfold Gm.word
  rw [←e3,part_out k3 (.inl (by have:=kk.word_at (i:=0) omg; omega)),←e2]
  have:=part_is k2
  rw [h8] at this
  rw [show g.c+8*0=g.c by omega,this,leN_leB8 omg]
 have wi:∀i,1≤i→i<g.m→g.word B3 i=0:=fun i hi him=>by
  have:=kk.word_at him
  unfold Gm.word
  rw [←e3,part_out k3 (.inl omg),←e2,part_out k2 (.inr (by rw [h8]; omega)),←e1,part_out k1 (.inr (by rw [hh]; omega)),part_zeros omg,leN_zeros]
 have hb:g.blk B3 0=g.ones g.u:=by
  unfold Gm.blk
  have:=part_is k3
  rw [ho] at this
  rw [←e3,hp0,this]
 have hc:∀k,k<g.n→g.cnt B3 k=if k<g.u then 1 else 0:=fun k hk=>by
  unfold Gm.cnt
  rw [Nat.div_eq_of_lt hk,w0,if_neg omg,hb,Nat.mod_eq_of_lt hk,kk.ones_cnt omg]
 refine ⟨⟨by omega,?_,by rw [l3,hU]; exact Nat.le_refl _,?_,by rw [w0]; omega,fun i hi hw => ?_,?_,fun k hk => ?_⟩,⟨by rw [l3,hU],wi,hc⟩⟩
 ·rw [l3,←hU,Nat.mul_mod_left]
 ·have:=part_is k1
  rw [hh] at this
  rw [←e3,part_out k3 (.inl omg),←e2,part_out k2 (.inl omg),←e1,this]
 ·by_cases e:i=0
  ·rw [e,w0,hp0,l3]; exact ⟨rfl,by omega⟩
  ·exact absurd (wi i omg hi) hw
 ·have hl:=kk.l1_at 0
  rw [hp0] at hl
  have ht:=kk.tab_l1
  have:=kk.L0
  have hLc:g.c≤g.L*g.c:=Nat.le_mul_of_pos_left _ this
  rw [←e3,part_out k3 (.inl omg),←e2,part_out k2 (.inr (by rw [h8]; omega)),←e1,part_out k1 (.inr (by rw [hh]; omega)),part_zeros omg]
 ·rcases hk with hk|⟨i,h1,h2,h3,-⟩
  ·rw [hc k omg,if_pos hk]; exact Nat.le_refl _
  ·exact absurd (wi i omg h2) h3
end Go.Proofs.YtdccfkffabngjaaGreat
set_option linter.unusedSimpArgs false
set_option linter.unusedVariables false
namespace Go.Proofs.YtdccfkffabngjaaGreat
open Go.Vc
variable {K:VP} {h:Heap}

theorem zeros_c {n:Nat} (hn:n<1000000000) (H:∀h',Ext h h'→OwnS 1 h' (.slice (some ⟨h.size,0,none⟩) n n) ((zeros n).map byteV)→K (.slice (some ⟨h.size,0,none⟩) n n) h') :
 Hp Tryz.prog false (Instr.makeSlice 52 (.int .i64 (n:Nat)) (.int .i64 (n:Nat))) K h ⟨⟩:=by
 simp (disch:=omega)
 refine H _ extS (OwnT.own (e:=bT) (.inr ⟨h.size,n,n,[],rfl,by simp [zeros],Nat.le_refl _,?_,by simp [zeros]⟩))
 simp only [List.append_nil,zeros,List.map_replicate,←List.toArray_replicate]
 exact get_pushed rfl
theorem setH4 {b:Nat} {x:Hd} {v:Int} (a:HdW h b x) (H:∀h',Mod (· = b) h h'→HdW h' b { x with l1len:=v }→K undef h'):Hp Tryz.prog false (Instr.fieldAt 84 (.pointer (some ⟨b,0,none⟩)) 4) (fun p h1=>Hp Tryz.prog false (storeS 3 p (.int .i64 v)) K h1 ⟨⟩) h ⟨⟩:=by
 obtain ⟨d0,d1,d2,d3,d4,d5,d6,d7,d8,d9,d10,d11,d12,d13,d14⟩:=a
 have hlt:=d0.lt
 simp (disch:=omega) [d4.get,d4.free]
 refine H _ modS ?_
 refine ⟨?_,?_,?_,?_,?_,?_,?_,?_,?_,?_,?_,?_,?_,?_,?_⟩
 all_goals simp (disch:=omega) [Cel_iff,d0.get,d0.free,d1.get,d1.free,d2.get,d2.free,d3.get,d3.free,d4.get,d4.free,d5.get,d5.free,d6.get,d6.free,d7.get,d7.free,d8.get,d8.free,d9.get,d9.free,d10.get,d10.free,d11.get,d11.free,d12.get,d12.free,d13.get,d13.free,d14.get,d14.free]
theorem setH3 {b:Nat} {x:Hd} {v:Int} (a:HdW h b x) (H:∀h',Mod (· = b) h h'→HdW h' b { x with l1:=v }→K undef h'):Hp Tryz.prog false (Instr.fieldAt 84 (.pointer (some ⟨b,0,none⟩)) 3) (fun p h1=>Hp Tryz.prog false (storeS 2 p (.int .i64 v)) K h1 ⟨⟩) h ⟨⟩:=by
 obtain ⟨d0,d1,d2,d3,d4,d5,d6,d7,d8,d9,d10,d11,d12,d13,d14⟩:=a
 have hlt:=d0.lt
 simp (disch:=omega) [d3.get,d3.free]
 refine H _ modS ?_
 refine ⟨?_,?_,?_,?_,?_,?_,?_,?_,?_,?_,?_,?_,?_,?_,?_⟩
 all_goals simp (disch:=omega) [Cel_iff,d0.get,d0.free,d1.get,d1.free,d2.get,d2.free,d3.get,d3.free,d4.get,d4.free,d5.get,d5.free,d6.get,d6.free,d7.get,d7.free,d8.get,d8.free,d9.get,d9.free,d10.get,d10.free,d11.get,d11.free,d12.get,d12.free,d13.get,d13.free,d14.get,d14.free]
def LayOk (bits order size long:Int):Prop:=9≤bits∧bits≤16∧0≤order∧order≤6∧0≤size∧size≤1048576∧size%512=0∧1≤long∧long≤40
def layT (b:Nat) (size:Int):Int:=upQ (upQ size (2^b)) (2^b/8)
theorem layT_few {b:Nat} {size:Int} (b0:9≤b) (b1:b≤16) (s0:0≤size) (s1:size≤1048576):0≤layT b size∧8*layT b size≤512:=by
 have:b=9∨b=10∨b=11∨b=12∨b=13∨b=14∨b=15∨b=16:=by omega
 rcases this with rfl|rfl|rfl|rfl|rfl|rfl|rfl|rfl<;>(unfold layT upQ; simp; omega)
def layG (b o L:Nat) (size:Int):Gm:=⟨b,o,L,if layT b size=0 then L+2 else L+3⟩
def layH (b o L:Nat) (size:Int):Hd:=⟨b,0,size,if layT b size=0 then 0 else ((1+L)*2^b:Nat),layT b size,o,(2^b:Nat),L,0,0,0,0,0,0,[]⟩
theorem layG_ok {b o L:Nat} {size:Int} (b0:9≤b) (b1:b≤16) (o1:o≤6) (L0:1≤L) (L1:L≤40):(layG b o L size).ok:=by
 refine ⟨b0,b1,o1,L0,L1,?_,?_⟩<;>(show _≤_; unfold layG; dsimp only; split<;>omega)
theorem layH_ok {b o L:Nat} {size:Int} (b0:9≤b) (b1:b≤16) (s0:0≤size) (s1:size≤1048576) (m:MayH (layH b o L size)):HdOk (layG b o L size) (layH b o L size):=by
 refine ⟨m,rfl,rfl,rfl,rfl,?_,rfl,rfl⟩
 have ht:=layT_few b0 b1 s0 s1
 unfold layG layH
 dsimp only
 by_cases e:layT b size=0
 ·left; rw [if_pos e]; exact ⟨rfl,e⟩
 ·right
  rw [if_neg e,if_neg e]
  refine ⟨rfl,rfl,by omega,?_⟩
  have:(512:Nat)≤2^b:=by
   calc 512=2^9:=by decide
    _≤_:=Nat.pow_le_pow_right omg b0
  show 8*layT b size≤((2^b:Nat):Int)
  omega
end Go.Proofs.YtdccfkffabngjaaGreat

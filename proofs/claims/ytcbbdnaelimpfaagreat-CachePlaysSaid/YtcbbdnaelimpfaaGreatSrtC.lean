/- Sorting: the pivot. Sorting: words of 64 bits; the length of a number in bits. Sorting: lengths in bits; patterns broken. -/
import Derived.Test.YtcbbdnaelimpfaaGreatSrtB
import Derived.Test.YtcbbdnaelimpfaaGreatSrtK
set_option linter.unusedSimpArgs false
set_option linter.unusedVariables false
namespace Go.Proofs.YtcbbdnaelimpfaaGreat
open Go.Vc Go.Sort

section
variable {α:Type} [Inhabited α] {K:VP} {h0 h:Heap} {b n c:Nat} {val:α→Value} {d:Array α} {f:Value} {cm:α→α→Int}

def Sw (h:Heap) (q:Nat) (w:Nat):Prop:=h[q]? = some (.cells #[.int .i64 w] 3)
theorem ord2_bd {i j w m:Nat} (hi:i<m) (hj:j<m):(order2 (ltC cm) d i j w).1<m∧(order2 (ltC cm) d i j w).2.1<m∧(order2 (ltC cm) d i j w).2.2≤w+1:=by
 unfold order2
 split
 ·exact ⟨hj,hi,Nat.le_refl _⟩
 ·exact ⟨hi,hj,Nat.le_succ _⟩
theorem med_bd {i j k w m:Nat} (hi:i<m) (hj:j<m) (hk:k<m):(median (ltC cm) d i j k w).1<m∧(median (ltC cm) d i j k w).2≤w+3:=by
 unfold median
 have b1:=ord2_bd (cm:=cm) (d:=d) (w:=w) hi hj
 have b2:=ord2_bd (cm:=cm) (d:=d) (w:=(order2 (ltC cm) d i j w).2.2) b1.2.1 hk
 have b3:=ord2_bd (cm:=cm) (d:=d) (w:=(order2 (ltC cm) d (order2 (ltC cm) d i j w).2.1 k (order2 (ltC cm) d i j w).2.2).2.2) b1.1 b2.1
 exact ⟨b3.2.1,by dsimp only; omega⟩
def hintV:Hint→Int
 | .unknown=>0
 | .increasing=>1
 | .decreasing=>2

set_option maxHeartbeats 1000000 in
theorem ord2L_c {i j q w:Nat} (hf:LessOk Tryz.prog 136 val cm) (s:SA 2 b n c val h0 h d) (hq:q≠b) (hz:h0.size≤q) (hw:Sw h q w) (hwb:w<1000) (hn:n<100000) (hi:i<n) (hj:j<n)
 (H:∀h',SA 2 b n c val h0 h' d→Sw h' q (order2 (ltC cm) d i j w).2.2→K (.tuple #[.int .i64 (order2 (ltC cm) d i j w).1,.int .i64 (order2 (ltC cm) d i j w).2.1]) h') :
 CallsH Tryz.prog 158 #[slV b n c,.int .i64 i,.int .i64 j,.pointer (some ⟨q,0,none⟩)] h K ⟨⟩:=by
 refine n158_calls ?_
 unfold n158 slV; try delta vF vG vC vD vJ vV vk vt
 have ri:=s.get hi
 have rj:=s.get hj
 simp (disch:=omega) [ri.1,rj.1]
 refine hf _ _ _ _ ?_
 unfold order2 at H
 by_cases hl:cm d[j]! d[i]! < 0
 ·have hlt:ltC cm d[j]! d[i]! = true:=decide_eq_true hl
  rw [if_pos hlt] at H
  have hc:hcell h ⟨q,0,none⟩=some (.int .i64 w):=by unfold hcell; unfold Sw at hw; simp [hw]
  have hfz:hfrozen h ⟨q,0,none⟩=false:=by unfold hfrozen; unfold Sw at hw; simp [hw]
  simp (disch:=omega) [hl,hc,hfz]
  refine H _ (s.side hq hz) ?_
  unfold Sw at hw ⊢
  rw [hset_of_block hw,get_put (get_some_lt hw)]
  simp
 ·have hlt:¬ltC cm d[j]! d[i]! = true:=by rw [show ltC cm d[j]! d[i]! = false from decide_eq_false hl]; simp
  rw [if_neg hlt] at H
  simp (disch:=omega) [hl]
  exact H _ s hw
theorem medL_c {i j k q w:Nat} (hf:LessOk Tryz.prog 136 val cm) (s:SA 2 b n c val h0 h d) (hq:q≠b) (hz:h0.size≤q) (hw:Sw h q w) (hwb:w<900) (hn:n<100000) (hi:i<n) (hj:j<n) (hk:k<n)
 (H:∀h',SA 2 b n c val h0 h' d→Sw h' q (median (ltC cm) d i j k w).2→K (.int .i64 (median (ltC cm) d i j k w).1) h') :
 CallsH Tryz.prog 147 #[slV b n c,.int .i64 i,.int .i64 j,.int .i64 k,.pointer (some ⟨q,0,none⟩)] h K ⟨⟩:=by
 refine n147_calls ?_
 unfold n147; try delta vF vG vC vD vJ vV vk vt
 have b1:=ord2_bd (cm:=cm) (d:=d) (w:=w) hi hj
 have b2:=ord2_bd (cm:=cm) (d:=d) (w:=(order2 (ltC cm) d i j w).2.2) b1.2.1 hk
 refine ord2L_c hf s hq hz hw omg hn hi hj fun g1 s1 w1 => ?_
 simp (disch:=omega)
 refine ord2L_c hf s1 hq hz w1 omg hn b1.2.1 hk fun g2 s2 w2 => ?_
 simp (disch:=omega)
 refine ord2L_c hf s2 hq hz w2 omg hn b1.1 b2.1 fun g3 s3 w3 => ?_
 simp (disch:=omega)
 exact H _ s3 w3
theorem mdAL_c {i q w:Nat} (hf:LessOk Tryz.prog 136 val cm) (s:SA 2 b n c val h0 h d) (hq:q≠b) (hz:h0.size≤q) (hw:Sw h q w) (hwb:w<900) (hn:n<100000) (hi0:0<i) (hi:i+1<n)
 (H:∀h',SA 2 b n c val h0 h' d→Sw h' q (medianAdjacent (ltC cm) d i w).2→K (.int .i64 (medianAdjacent (ltC cm) d i w).1) h') :
 CallsH Tryz.prog 146 #[slV b n c,.int .i64 i,.pointer (some ⟨q,0,none⟩)] h K ⟨⟩:=by
 refine n146_calls ?_
 unfold n146; try delta vF vG vC vD vJ vV vk vt
 obtain ⟨m,rfl⟩:∃m,i=m+1:=⟨i-1,by omega⟩
 simp (disch:=omega)
 refine medL_c (i:=m) (j:=m+1) (k:=m+1+1) hf s hq hz hw hwb hn omg omg omg fun g s1 w1 => ?_
 exact H g s1 w1
set_option maxHeartbeats 1000000 in
theorem pivL_c {x y:Nat} (hf:LessOk Tryz.prog 136 val cm) (s:SA 2 b n c val h0 h d) (hn:n<100000) (hxy:x<y) (hy:y≤n)
 (H:∀h',SA 2 b n c val h0 h' d→K (.tuple #[.int .i64 (choosePivot (ltC cm) d x y).1,.int .i64 (hintV (choosePivot (ltC cm) d x y).2)]) h') :
 CallsH Tryz.prog 133 #[slV b n c,.int .i64 x,.int .i64 y] h K ⟨⟩:=by
 refine n133_calls ?_
 unfold n133; try delta vF vG vC vD vJ vV vk vt
 obtain ⟨l,rfl⟩:∃l,y=x+l:=⟨y-x,by omega⟩
 have em:((x+l:Nat):Int)-(x:Int)=(l:Int):=by omega
 have hb:=s.lt
 have hzz:h0.size≤h.size:=s.mod.size
 have wq:Sw (h.push (.cells #[.int .i64 0] 3)) h.size 0:=get_pushed rfl
 have sq:=s.pushed (o := .cells #[.int .i64 0] 3)
 simp (disch:=omega) only [em,Hp_sub_i64,ValI_iff]
 simp (disch:=omega)
 have e1:(x:Int)+(l:Int)/4=((x+l/4*1:Nat):Int):=by omega
 have e2:(x:Int)+(l:Int)/4*2=((x+l/4*2:Nat):Int):=by omega
 have e3:(x:Int)+(l:Int)/4*3=((x+l/4*3:Nat):Int):=by omega
 rw [e1,e2,e3]
 generalize hg:h.push (.cells #[.int .i64 0] 3)=g0 at wq sq ⊢
 have hcp:choosePivot (ltC cm) d x (x+l)=(fun r:Nat×Nat=>(r.1,if r.2=0 then Hint.increasing else if r.2=12 then Hint.decreasing else Hint.unknown)) (if l≥8 then (if l≥50 then
  median (ltC cm) d (medianAdjacent (ltC cm) d (x+l/4*1) 0).1 (medianAdjacent (ltC cm) d (x+l/4*2) (medianAdjacent (ltC cm) d (x+l/4*1) 0).2).1 (medianAdjacent (ltC cm) d (x+l/4*3) (medianAdjacent (ltC cm) d (x+l/4*2) (medianAdjacent (ltC cm) d (x+l/4*1) 0).2).2).1 (medianAdjacent (ltC cm) d (x+l/4*3) (medianAdjacent (ltC cm) d (x+l/4*2) (medianAdjacent (ltC cm) d (x+l/4*1) 0).2).2).2
  else median (ltC cm) d (x+l/4*1) (x+l/4*2) (x+l/4*3) 0) else (x+l/4*2,0)):=by
  unfold choosePivot
  rw [Nat.add_sub_cancel_left]
 generalize choosePivot (ltC cm) d x (x+l)=R at hcp H
 have hi1:8≤l→0<x+l/4*1∧x+l/4*1+1<n:=fun _=>by omega
 have hi2:8≤l→0<x+l/4*2∧x+l/4*2+1<n:=fun _=>by omega
 have hi3:8≤l→0<x+l/4*3∧x+l/4*3+1<n:=fun _=>by omega
 have hi2':x+l/4*2<n:=by omega
 generalize x+l/4*1=i1 at hcp hi1 ⊢
 generalize x+l/4*2=i2 at hcp hi2 hi2' ⊢
 generalize x+l/4*3=i3 at hcp hi3 ⊢
 have hqb:h.size≠b:=by omega
 refine JoinN_in1 (fun w g=>∃pv sw:Nat,w = .int .i64 pv∧SA 2 b n c val h0 g d∧Sw g h.size sw∧sw<1000∧(fun r:Nat×Nat=>(r.1,if r.2=0 then Hint.increasing else if r.2=12 then Hint.decreasing else Hint.unknown)) (pv,sw)=R) (fun kk hkk => ?_) (fun w g hw => ?_)
 ·by_cases h8:8≤l
  ·rw [if_pos h8] at hcp
   simp (disch:=omega)
   have q1:=hi1 h8
   have q2:=hi2 h8
   have q3:=hi3 h8
   refine JoinN_in3 (fun w1 w2 w3 g=>∃a1 a2 a3 sw:Nat,w1 = .int .i64 a1∧w2 = .int .i64 a2∧w3 = .int .i64 a3∧a1<n∧a2<n∧a3<n∧SA 2 b n c val h0 g d∧Sw g h.size sw∧sw<500∧(fun r:Nat×Nat=>(r.1,if r.2=0 then Hint.increasing else if r.2=12 then Hint.decreasing else Hint.unknown)) (median (ltC cm) d a1 a2 a3 sw)=R) (fun k3 hk3 => ?_) (fun w1 w2 w3 g hw => ?_)
   ·by_cases h50:50≤l
    ·rw [if_pos h50] at hcp
     simp (disch:=omega)
     have b1:=med_bd (cm:=cm) (d:=d) (w:=0) (m:=n) (show i1-1<n by omega) (show i1<n by omega) (show i1+1<n by omega)
     have b2:=med_bd (cm:=cm) (d:=d) (w:=(medianAdjacent (ltC cm) d i1 0).2) (m:=n) (show i2-1<n by omega) (show i2<n by omega) (show i2+1<n by omega)
     have b3:=med_bd (cm:=cm) (d:=d) (w:=(medianAdjacent (ltC cm) d i2 (medianAdjacent (ltC cm) d i1 0).2).2) (m:=n) (show i3-1<n by omega) (show i3<n by omega) (show i3+1<n by omega)
     have b1':(medianAdjacent (ltC cm) d i1 0).1<n∧(medianAdjacent (ltC cm) d i1 0).2≤0+3:=b1
     have b2':(medianAdjacent (ltC cm) d i2 (medianAdjacent (ltC cm) d i1 0).2).1<n∧(medianAdjacent (ltC cm) d i2 (medianAdjacent (ltC cm) d i1 0).2).2≤(medianAdjacent (ltC cm) d i1 0).2+3:=b2
     have b3':(medianAdjacent (ltC cm) d i3 (medianAdjacent (ltC cm) d i2 (medianAdjacent (ltC cm) d i1 0).2).2).1<n∧(medianAdjacent (ltC cm) d i3 (medianAdjacent (ltC cm) d i2 (medianAdjacent (ltC cm) d i1 0).2).2).2≤(medianAdjacent (ltC cm) d i2 (medianAdjacent (ltC cm) d i1 0).2).2+3:=b3
     refine mdAL_c hf sq hqb hzz wq omg hn q1.1 q1.2 fun g1 s1 w1 => ?_
     refine mdAL_c hf s1 hqb hzz w1 omg hn q2.1 q2.2 fun g2 s2 w2 => ?_
     refine mdAL_c hf s2 hqb hzz w2 omg hn q3.1 q3.2 fun g3 s3 w3 => ?_
     exact hk3 _ _ _ _ ⟨_,_,_,_,rfl,rfl,rfl,b1'.1,b2'.1,b3'.1,s3,w3,by omega,hcp.symm⟩
    ·rw [if_neg h50] at hcp
     simp (disch:=omega)
     exact hk3 _ _ _ _ ⟨_,_,_,_,rfl,rfl,rfl,by omega,by omega,by omega,sq,wq,by omega,hcp.symm⟩
   ·obtain ⟨a1,a2,a3,sw,rfl,rfl,rfl,h1,h2,h3,s1,w1,hsw,he⟩:=hw
    have bb:=med_bd (cm:=cm) (d:=d) (w:=sw) h1 h2 h3
    refine medL_c hf s1 hqb hzz w1 omg hn h1 h2 h3 fun g2 s2 w2 => ?_
    exact hkk _ _ ⟨_,_,rfl,s2,w2,by omega,he⟩
  ·rw [if_neg h8] at hcp
   simp (disch:=omega)
   exact hkk _ _ ⟨i2,0,rfl,sq,wq,by omega,hcp.symm⟩
 ·obtain ⟨pv,sw,rfl,s1,w1,hsw,he⟩:=hw
  rw [←he] at H
  have hc:hcell g ⟨h.size,0,none⟩=some (.int .i64 sw):=by unfold hcell; unfold Sw at w1; simp [w1]
  simp (disch:=omega) [hc]
  dsimp only at H
  by_cases z0:sw=0
  ·rw [if_pos z0] at H
   simp (disch:=omega) [z0]
   exact H _ s1
  ·rw [if_neg z0] at H
   simp (disch:=omega)
   by_cases z1:sw=12
   ·rw [if_pos z1] at H
    simp (disch:=omega) [z1]
    exact H _ s1
   ·rw [if_neg z1] at H
    simp (disch:=omega)
    exact H _ s1
end
end Go.Proofs.YtcbbdnaelimpfaaGreat
namespace Go.Vc
open Go Go.Sort
set_option linter.unusedSimpArgs false
set_option linter.unusedVariables false
section
variable {P:Program} {q:Bool} {K:VP} {h:Heap}
theorem u64_lt (r:UInt64):r.toNat<18446744073709551616:=r.toNat_lt
def w64 (r:UInt64):Value := .int .u64 (r.toNat:Int)
theorem w64_one (r:UInt64):one (w64 r)=true:=rfl
theorem Hp_shl13 {t:TypeId} {x y:Operand} {k':IntKind} {r:UInt64}:Hp P q (binS .shl t x y (w64 r) (.int k' 13)) K h ⟨⟩↔K (w64 (r <<< 13)) h:=by
 unfold w64
 rw [Hp_shl_u64 omg omg,ValI_iff]
 have:IntKind.u64.wrap ((r.toNat:Int)*2^(13:Int).toNat)=((r <<< 13).toNat:Int):=by
  have h1:(r <<< 13).toNat=r.toNat*8192%18446744073709551616:=by
   rw [UInt64.toNat_shiftLeft,Nat.shiftLeft_eq]; rfl
  rw [h1]
  unfold IntKind.wrap
  simp [IntKind.signed,IntKind.bits]
 rw [this]
theorem Hp_shl17 {t:TypeId} {x y:Operand} {k':IntKind} {r:UInt64}:Hp P q (binS .shl t x y (w64 r) (.int k' 17)) K h ⟨⟩↔K (w64 (r <<< 17)) h:=by
 unfold w64
 rw [Hp_shl_u64 omg omg,ValI_iff]
 have:IntKind.u64.wrap ((r.toNat:Int)*2^(17:Int).toNat)=((r <<< 17).toNat:Int):=by
  have h1:(r <<< 17).toNat=r.toNat*131072%18446744073709551616:=by
   rw [UInt64.toNat_shiftLeft,Nat.shiftLeft_eq]; rfl
  rw [h1]
  unfold IntKind.wrap
  simp [IntKind.signed,IntKind.bits]
 rw [this]
theorem Hp_shr7 {t:TypeId} {x y:Operand} {k':IntKind} {r:UInt64}:Hp P q (binS .shr t x y (w64 r) (.int k' 7)) K h ⟨⟩↔K (w64 (r >>> 7)) h:=by
 unfold w64
 rw [Hp_shr_u64 omg omg,ValI_iff]
 have:((r.toNat:Int)/(2:Int)^(7:Int).toNat)=((r >>> 7).toNat:Int):=by
  have h1:(r >>> 7).toNat=r.toNat/128:=by
   rw [UInt64.toNat_shiftRight,Nat.shiftRight_eq_div_pow]; rfl
  rw [h1]
  simp
 rw [this]
theorem Hp_xorU {t:TypeId} {x y:Operand} {r s:UInt64}:Hp P q (binS .xor t x y (w64 r) (w64 s)) K h ⟨⟩↔K (w64 (r ^^^ s)) h:=by
 unfold w64
 rw [Hp_xor,ValI_iff]
 have:IntKind.u64.wrap ((BitVec.ofInt IntKind.u64.bits (r.toNat:Int) ^^^ BitVec.ofInt IntKind.u64.bits (s.toNat:Int)).toNat:Int)=((r ^^^ s).toNat:Int):=by
  have h0:=u64_lt (r ^^^ s)
  rw [UInt64.toNat_xor] at h0 ⊢
  show IntKind.u64.wrap (((BitVec.ofNat 64 r.toNat ^^^ BitVec.ofNat 64 s.toNat:BitVec 64).toNat:Nat):Int)=_
  rw [BitVec.toNat_xor,BitVec.toNat_ofNat,BitVec.toNat_ofNat,Nat.mod_eq_of_lt (u64_lt r),Nat.mod_eq_of_lt (u64_lt s)]
  unfold IntKind.wrap
  simp [IntKind.signed,IntKind.bits]
  omega
 rw [this]

theorem bitsLen_half {n:Nat} (hn:0<n):bitsLen n=bitsLen (n/2)+1:=by
 unfold bitsLen
 rw [if_neg omg]
 by_cases h2:n<2
 ·have:n=1:=by omega
  subst this; rfl
 ·rw [if_neg omg,Nat.log2_def n,if_pos omg]
theorem bitsLen_256 {n:Nat} (hn:256≤n):bitsLen n=bitsLen (n/256)+8:=by
 rw [bitsLen_half (n:=n) omg,bitsLen_half (n:=n/2) omg,bitsLen_half (n:=n/2/2) omg,bitsLen_half (n:=n/2/2/2) omg,bitsLen_half (n:=n/2/2/2/2) omg,
  bitsLen_half (n:=n/2/2/2/2/2) omg,bitsLen_half (n:=n/2/2/2/2/2/2) omg,bitsLen_half (n:=n/2/2/2/2/2/2/2) omg]
 rw [show n/2/2/2/2/2/2/2/2=n/256 by omega]
theorem bitsLen_65536 {n:Nat} (hn:65536≤n):bitsLen n=bitsLen (n/65536)+16:=by
 rw [bitsLen_256 omg,bitsLen_256 (n:=n/256) omg,Nat.div_div_eq_div_mul]
theorem bitsLen_pow {n:Nat} (hn:0<n):2^bitsLen n≤2*n∧n<2^bitsLen n:=by
 unfold bitsLen
 rw [if_neg omg,Nat.pow_succ]
 have h1:=Nat.log2_self_le (n:=n) omg
 have h2:=Nat.lt_log2_self (n:=n)
 rw [Nat.pow_succ] at h2
 omega
theorem bitsLen_le {n:Nat} (hn:n<16777216):bitsLen n≤24:=by
 rcases Nat.eq_zero_or_pos n with h|h
 ·subst h; decide
 ·have:=(bitsLen_pow h).1
  refine Nat.le_of_not_lt fun hlt => ?_
  have h3:2^25≤2^bitsLen n:=Nat.pow_le_pow_right omg hlt
  have:(2:Nat)^25=33554432:=by decide
  omega
end
end Go.Vc
set_option linter.unusedSimpArgs false
set_option linter.unusedVariables false
namespace Go.Proofs.YtcbbdnaelimpfaaGreat
open Go.Vc Go.Sort

section
variable {α:Type} [Inhabited α] {K:VP} {h0 h:Heap} {b n c:Nat} {val:α→Value} {d:Array α} {f:Value} {cm:α→α→Int}

def bitTab:List UInt8:=[0,1,2,2,3,3,3,3,4,4,4,4,4,4,4,4,5,5,5,5,5,5,5,5,5,5,5,5,5,5,5,5,6,6,6,6,6,6,6,6,6,6,6,6,6,6,6,6,6,6,6,6,6,6,6,6,6,6,6,6,6,6,6,6,7,7,7,7,7,7,7,7,7,7,7,7,7,7,7,7,7,7,7,7,7,7,7,7,7,7,7,7,7,7,7,7,7,7,7,7,7,7,7,7,7,7,7,7,7,7,7,7,7,7,7,7,7,7,7,7,7,7,7,7,7,7,7,7,8,8,8,8,8,8,8,8,8,8,8,8,8,8,8,8,8,8,8,8,8,8,8,8,8,8,8,8,8,8,8,8,8,8,8,8,8,8,8,8,8,8,8,8,8,8,8,8,8,8,8,8,8,8,8,8,8,8,8,8,8,8,8,8,8,8,8,8,8,8,8,8,8,8,8,8,8,8,8,8,8,8,8,8,8,8,8,8,8,8,8,8,8,8,8,8,8,8,8,8,8,8,8,8,8,8,8,8,8,8,8,8,8,8,8,8,8,8,8,8,8,8,8,8,8,8,8,8]
theorem bitTab_ok:(List.range 256).all (fun v=>decide (bitTab[v]? = some (UInt8.ofNat (bitsLen v))))=true:=by kernel_rfl
theorem bitTab_get {v:Nat} (hv:v<256):bitTab[v]? = some (UInt8.ofNat (bitsLen v)):=by
 have:=List.all_eq_true.1 bitTab_ok v (by simpa using hv)
 simpa using this
theorem bitsLen_small {v:Nat} (hv:v<256):bitsLen v<9:=by
 rcases Nat.eq_zero_or_pos v with h|h
 ·subst h; decide
 ·have:=(bitsLen_pow h).1
  refine Nat.lt_of_not_le fun hlt => ?_
  have h3:2^9≤2^bitsLen v:=Nat.pow_le_pow_right omg hlt
  have:(2:Nat)^9=512:=by decide
  omega
set_option maxRecDepth 20000 in
set_option maxHeartbeats 1000000 in
theorem len64_c {n:Nat} (hn:n<16777216) (H:K (.int .i64 (bitsLen n)) h):CallsH Tryz.prog 140 #[.int .u64 n] h K ⟨⟩:=by
 refine n140_calls ?_
 unfold n140; try delta vF vG vC vD vJ vV vk vt
 rw [show ([0,1,2,2,3,3,3,3,4,4,4,4,4,4,4,4,5,5,5,5,5,5,5,5,5,5,5,5,5,5,5,5,6,6,6,6,6,6,6,6,6,6,6,6,6,6,6,6,6,6,6,6,6,6,6,6,6,6,6,6,6,6,6,6,7,7,7,7,7,7,7,7,7,7,7,7,7,7,7,7,7,7,7,7,7,7,7,7,7,7,7,7,7,7,7,7,7,7,7,7,7,7,7,7,7,7,7,7,7,7,7,7,7,7,7,7,7,7,7,7,7,7,7,7,7,7,7,7,8,8,8,8,8,8,8,8,8,8,8,8,8,8,8,8,8,8,8,8,8,8,8,8,8,8,8,8,8,8,8,8,8,8,8,8,8,8,8,8,8,8,8,8,8,8,8,8,8,8,8,8,8,8,8,8,8,8,8,8,8,8,8,8,8,8,8,8,8,8,8,8,8,8,8,8,8,8,8,8,8,8,8,8,8,8,8,8,8,8,8,8,8,8,8,8,8,8,8,8,8,8,8,8,8,8,8,8,8,8,8,8,8,8,8,8,8,8,8,8,8,8,8,8,8,8,8,8]:List UInt8)=bitTab from rfl]
 generalize hT:bitTab=BT
 have fin:∀{z:Int},z=(bitsLen n:Int)→K (.int .i64 z) h:=fun e=>by rw [e]; exact H
 by_cases h1:n<65536
 ·refine JoinN.mk ?_
  simp (disch:=omega)
  refine JoinN.mk ?_
  simp (disch:=omega)
  by_cases h2:n<256
  ·have hx:=bitTab_get h2
   have hb:=bitsLen_small h2
   rw [hT] at hx
   refine JoinN.mk ?_
   simp (disch:=omega)
   have e:((n:Int)%256).toNat=n:=by omega
   refine (Hp_indexStr (l:=BT) (b:=UInt8.ofNat (bitsLen n)) kR omg (by first|exact hx|(rw [e]; exact hx))).2 ?_
   simp (disch:=omega)
   exact fin omg
  ·have hx:=bitTab_get (show n/256<256 by omega)
   have hb:=bitsLen_small (show n/256<256 by omega)
   have hl:=bitsLen_256 (show 256≤n by omega)
   rw [hT] at hx
   refine JoinN.mk ?_
   simp (disch:=omega) [Hp_shr_u64]
   have e:((n:Int)/256%256).toNat=n/256:=by omega
   refine (Hp_indexStr (l:=BT) (b:=UInt8.ofNat (bitsLen (n/256))) kR omg (by first|exact hx|(rw [e]; exact hx))).2 ?_
   simp (disch:=omega)
   exact fin omg
 ·refine JoinN.mk ?_
  simp (disch:=omega)
  refine JoinN.mk ?_
  simp (disch:=omega) [Hp_shr_u64]
  have hx:=bitTab_get (show n/65536<256 by omega)
  have hb:=bitsLen_small (show n/65536<256 by omega)
  have hl:=bitsLen_65536 (show 65536≤n by omega)
  rw [hT] at hx
  refine JoinN.mk ?_
  simp (disch:=omega)
  have e:((n:Int)/65536%256).toNat=n/65536:=by omega
  refine (Hp_indexStr (l:=BT) (b:=UInt8.ofNat (bitsLen (n/65536))) kR omg (by first|exact hx|(rw [e]; exact hx))).2 ?_
  simp (disch:=omega)
  exact fin omg
theorem len_c {n:Nat} (hn:n<16777216) (H:K (.int .i64 (bitsLen n)) h):CallsH Tryz.prog 116 #[.int .u64 n] h K ⟨⟩:=by
 refine n116_calls ?_
 unfold n116; try delta vF vG vC vD vJ vV vk vt
 simp (disch:=omega)
 exact len64_c hn H
theorem npow_c {n:Nat} (hn:n<16777216) (H:K (.int .u64 (2^bitsLen n:Nat)) h):CallsH Tryz.prog 144 #[.int .i64 n] h K ⟨⟩:=by
 refine n144_calls ?_
 unfold n144; try delta vF vG vC vD vJ vV vk vt
 have hb:=bitsLen_le hn
 have hpw:2^bitsLen n≤2^24:=Nat.pow_le_pow_right omg hb
 have h24:(2:Nat)^24=16777216:=by decide
 simp (disch:=omega)
 refine len_c hn ?_
 rw [Hp_shl_u64 omg omg,ValI_iff]
 have e:IntKind.u64.wrap (1*2^(bitsLen n:Int).toNat)=((2^bitsLen n:Nat):Int):=by
  have:(1:Int)*2^(bitsLen n:Int).toNat=((2^bitsLen n:Nat):Int):=by simp
  rw [this]
  generalize (2:Nat)^bitsLen n=M at hpw
  exact wrap_u64 omg omg
 rw [e]
 exact H
def Rw64 (h:Heap) (q:Nat) (r:UInt64):Prop:=h[q]? = some (.cells #[w64 r] 223)
theorem cell64 {g:Heap} {q:Nat} {r:UInt64} (hr:g[q]? = some (.cells #[w64 r] 223)):hcell g ⟨q,0,none⟩=some (w64 r):=by
 unfold hcell; simp [hr]
theorem frz64 {g:Heap} {q:Nat} {r:UInt64} (hr:g[q]? = some (.cells #[w64 r] 223)):hfrozen g ⟨q,0,none⟩=false:=by
 unfold hfrozen; simp [hr]
theorem set64 {g:Heap} {q:Nat} {r:UInt64} (hr:g[q]? = some (.cells #[w64 r] 223)) (r':UInt64):(hset g ⟨q,0,none⟩ (w64 r'))[q]? = some (.cells #[w64 r'] 223):=by
 rw [hset_of_block hr,get_put (get_some_lt hr)]
 simp
theorem next_c {q:Nat} {r:UInt64} (hr:Rw64 h q r) (H:∀h',Rw64 h' q (xorNext r)→Mod (· = q) h h'→K (w64 (xorNext r)) h'):CallsH Tryz.prog 145 #[.pointer (some ⟨q,0,none⟩)] h K ⟨⟩:=by
 refine n145_calls ?_
 unfold n145; try delta vF vG vC vD vJ vV vk vt
 have st:=fun a r K h=>Hp_store (P:=Tryz.prog) (t:=223) (a:=a) (v:=w64 r) (K:=K) (h:=h) kR (w64_one r)
 have c0:hcell h ⟨q,0,none⟩=some (w64 r):=cell64 hr
 have f0:hfrozen h ⟨q,0,none⟩=false:=frz64 hr
 obtain ⟨r1,e1⟩:∃r1,r1=r ^^^ (r <<< 13):=⟨_,rfl⟩
 obtain ⟨r2,e2⟩:∃r2,r2=r1 ^^^ (r1 >>> 7):=⟨_,rfl⟩
 obtain ⟨r3,e3⟩:∃r3,r3=r2 ^^^ (r2 <<< 17):=⟨_,rfl⟩
 have en:xorNext r=r3:=by rw [e3,e2,e1]; rfl
 rw [en] at H
 have w1:=set64 hr r1
 have w2:=set64 w1 r2
 have w3:=set64 w2 r3
 simp (disch:=omega) [c0,f0,Hp_shl13,Hp_xorU,←e1,st]
 have c1:=cell64 w1
 have f1:=frz64 w1
 have m1:Mod (· = q) h (hset h ⟨q,0,none⟩ (w64 r1)):=Mod.set h ⟨q,0,none⟩ _
 generalize hset h ⟨q,0,none⟩ (w64 r1)=g1 at w1 w2 w3 c1 f1 m1 ⊢
 simp (disch:=omega) [c1,f1,Hp_shr7,Hp_xorU,←e2,st]
 have c2:=cell64 w2
 have f2:=frz64 w2
 have m2:Mod (· = q) g1 (hset g1 ⟨q,0,none⟩ (w64 r2)):=Mod.set g1 ⟨q,0,none⟩ _
 generalize hset g1 ⟨q,0,none⟩ (w64 r2)=g2 at w2 w3 c2 f2 m2 ⊢
 simp (disch:=omega) [c2,f2,Hp_shl17,Hp_xorU,←e3,st]
 have c3:=cell64 w3
 have m3:Mod (· = q) g2 (hset g2 ⟨q,0,none⟩ (w64 r3)):=Mod.set g2 ⟨q,0,none⟩ _
 generalize hset g2 ⟨q,0,none⟩ (w64 r3)=g3 at w3 c3 m3 ⊢
 try simp (disch:=omega) [c3]
 exact H _ w3 ((m1.trans m2 (fun _ _ e=>e)).trans m3 (fun _ _ e=>e))
end
end Go.Proofs.YtcbbdnaelimpfaaGreat

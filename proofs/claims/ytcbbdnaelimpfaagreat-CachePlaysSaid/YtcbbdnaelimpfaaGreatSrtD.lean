/- Sorting: patterns broken. Sorting: pattern-defeating quicksort. Sorting: slices.Sort,slices.SortFunc. Sorting: strings,and numbers of 64 bits. -/
import Derived.Test.YtcbbdnaelimpfaaGreatSrtC
set_option linter.unusedSimpArgs false
set_option linter.unusedVariables false
namespace Go.Proofs.YtcbbdnaelimpfaaGreat
open Go.Vc Go.Sort

section
variable {α:Type} [Inhabited α] {K:VP} {h0 h:Heap} {b n c:Nat} {val:α→Value} {d:Array α} {f:Value} {cm:α→α→Int}

def brk (a l m:Nat):Nat→Nat→UInt64×Array α→UInt64×Array α
 | 0,_,st=>st
 | k+1,i,st=>brk a l m k (i+1) (breakStep a l m st i)
theorem brk_eq {x l:Nat} (h8:8≤l):breakPatterns d x (x+l)=(brk x l (2^bitsLen l) 3 (x+l/4*2-1) (UInt64.ofNat l,d)).2:=by
 unfold breakPatterns
 rw [Nat.add_sub_cancel_left]
 dsimp only
 rw [if_pos h8,show 1 <<< bitsLen l=2^bitsLen l by rw [Nat.shiftLeft_eq]; omega]
 rfl

set_option maxHeartbeats 2000000 in
theorem brkL_c {x y:Nat} (hone:∀x,one (val x)=true) (s:SA 2 b n c val h0 h d) (hn:n<100000) (hxy:x<y) (hy:y≤n) (H:∀h',SA 2 b n c val h0 h' (breakPatterns d x y)→K (.tuple #[]) h') :
 CallsH Tryz.prog 132 #[slV b n c,.int .i64 x,.int .i64 y] h K ⟨⟩:=by
 refine n132_calls ?_
 unfold n132; try delta vF vG vC vD vJ vV vk vt
 have st:=fun a x K h=>Hp_store (P:=Tryz.prog) (t:=2) (a:=a) (v:=val x) (K:=K) (h:=h) kR (hone x)
 obtain ⟨l,rfl⟩:∃l,y=x+l:=⟨y-x,by omega⟩
 have em:((x+l:Nat):Int)-(x:Int)=(l:Int):=by omega
 simp (disch:=omega) only [em,Hp_sub_i64,ValI_iff]
 by_cases h8:8≤l
 ·rw [brk_eq h8] at H
  have hb:=s.lt
  have hzz:h0.size≤h.size:=s.mod.size
  have hqb:h.size≠b:=by omega
  simp (disch:=omega)
  refine (fun key=>key _ ?_ ?_:(∀g0,SA 2 b n c val h0 g0 d→Rw64 g0 h.size (UInt64.ofNat l)→CallsH Tryz.prog 144 _ g0 _ ⟨⟩)→_) (fun g0 s0 r0 => ?_)
  ·exact s.pushed.side hqb hzz
  ·unfold Rw64
   have h1:(h.push (.cells #[.int .u64 0] 223))[h.size]? = some (.cells #[.int .u64 0] 223):=get_pushed rfl
   rw [hset_of_block h1,get_put (get_some_lt h1)]
   have:(UInt64.ofNat l).toNat=l:=by rw [UInt64.toNat_ofNat']; omega
   simp [w64,this]
  refine npow_c omg ?_
  have hM:=bitsLen_pow (show 0<l by omega)
  generalize (2:Nat)^bitsLen l=M at hM H ⊢
  obtain ⟨i0,hi0⟩:∃i0,i0=x+l/4*2-1:=⟨_,rfl⟩
  rw [←hi0] at H
  simp (disch:=omega)
  have ei:(x:Int)+(l:Int)/4*2-1=(i0:Int):=by omega
  rw [ei]
  refine loopX1 (α:=Nat×UInt64×Array α) (fun a => .int .i64 a.1) (fun a g=>SA 2 b n c val h0 g a.2.2∧Rw64 g h.size a.2.1∧i0≤a.1∧a.1≤i0+3∧brk x l M (i0+3-a.1) a.1 a.2=brk x l M 3 i0 (UInt64.ofNat l,d)) (fun a=>i0+3-a.1) (i0,UInt64.ofNat l,d) rfl ⟨s0,r0,Nat.le_refl _,by dsimp only; omega,by dsimp only; rw [Nat.add_sub_cancel_left]⟩ ?_
  rintro ⟨i,r,d1⟩ g ⟨s1,r1,hi,hi3,ht⟩ X hX
  dsimp only at s1 r1 hi hi3 ht hX ⊢
  by_cases hlt:i<i0+3
  ·obtain ⟨k,hk⟩:∃k,i0+3-i=k+1:=⟨i0+2-i,by omega⟩
   rw [hk,brk] at ht
   simp (disch:=omega)
   refine next_c r1 fun g2 r2 m2 => ?_
   have s2:SA 2 b n c val h0 g2 d1:=⟨s1.own.mod m2 (fun b' hb' e=>hqb (by cases hb'; exact e.symm)),s1.mod.trans m2 (fun z hz e=>absurd (show z=h.size from e) omg)⟩
   simp (disch:=omega)
   have hrl:=u64_lt (xorNext r)
   rw [show w64 (xorNext r) = .int .u64 ((xorNext r).toNat:Int) from rfl,Hp_and_u64 omg omg omg omg]
   have e2:(((xorNext r).toNat:Int).toNat &&& ((M:Int)-1).toNat:Nat)=(xorNext r).toNat &&& (M-1):=by
    rw [Int.toNat_natCast,show ((M:Int)-1).toNat=M-1 by omega]
   rw [e2]
   have ho:(xorNext r).toNat &&& (M-1)≤M-1:=Nat.and_le_right
   unfold breakStep at ht
   dsimp only at ht
   generalize (xorNext r).toNat &&& (M-1)=o at ho ht ⊢
   simp (disch:=omega)
   obtain ⟨oth,hoth⟩:∃oth,oth=if o≥l then o-l else o:=⟨_,rfl⟩
   rw [←hoth] at ht
   have hol:oth<l:=by rw [hoth]; split<;>omega
   refine JoinN_in1 (fun w g'=>g'=g2∧w = .int .i64 oth) (fun kk hkk => ?_) (fun w g' hw => ?_)
   ·by_cases hge:o≥l
    ·rw [if_pos hge] at hoth
     simp (disch:=omega)
     exact hkk _ _ ⟨rfl,by congr 1; omega⟩
    ·rw [if_neg hge] at hoth
     simp (disch:=omega)
     exact hkk _ _ ⟨rfl,by rw [hoth]⟩
   ·obtain ⟨rfl,rfl⟩:=hw
    have wi:=s2.get (i:=i) omg
    have wj:=s2.get (i:=x+oth) omg
    obtain ⟨⟨wu,wwu⟩,wwf⟩:=s2.get2 (i:=i) (j:=x+oth) omg omg (val d1[x+oth]!)
    unfold slV
    simp (disch:=omega) [wi.1,wi.2,wj.1,wj.2,wwu,wwf,st]
    have s3:=s2.swap (i:=i) (j:=x+oth) omg omg
    refine hX (i+1,xorNext r,_) _ _ sM ⟨s3,?_,by dsimp only; omega,by dsimp only; omega,by dsimp only; rw [show i0+3-(i+1)=k by omega]; exact ht⟩ (by dsimp only; omega)
    have m3:Mod (· = b) g' (hset (hset g' (elt ⟨b,0,none⟩ i) (val d1[x+oth]!)) (elt ⟨b,0,none⟩ (x+oth)) (val d1[i]!)):=Mod.setIn (Mod.setIn (Mod.refl _ _) (.inl sM)) (.inl sM)
    exact (m3.block _ (get_some_lt r2) hqb).trans r2
  ·have:i0+3-i=0:=by omega
   rw [this,brk] at ht
   rw [←ht] at H
   simp (disch:=omega)
   exact H _ s1
 ·have hbp:breakPatterns d x (x+l)=d:=by
   unfold breakPatterns
   rw [Nat.add_sub_cancel_left]
   exact if_neg h8
  rw [hbp] at H
  simp (disch:=omega)
  exact H _ s
end
end Go.Proofs.YtcbbdnaelimpfaaGreat
set_option linter.unusedSimpArgs false
set_option linter.unusedVariables false
namespace Go.Proofs.YtcbbdnaelimpfaaGreat
open Go.Vc Go.Sort

section
variable {α:Type} [Inhabited α] {K:VP} {h0 h:Heap} {b n c:Nat} {val:α→Value} {d:Array α} {f:Value} {cm:α→α→Int}

def pdqR (lt:α→α→Bool) (a b l1 pivot:Nat) (wb wp:Bool) (d3:Array α):Array α :=
 if a>0 && !lt d3[a-1]! d3[pivot]! then
  match partitionEqual lt d3 a b pivot with
  | (mid,d4)=>if _h:a<mid∧mid≤b then pdq lt d4 mid b l1 wb wp else d4
 else
  match partition lt d3 a b pivot with
  | (mid,alreadyPartitioned,d4) =>
   if _h:a≤mid∧mid<b then
    if mid-a<b-mid then
     pdq lt (pdq lt d4 a mid l1 true true) (mid+1) b l1 (decide (mid-a≥(b-a)/8)) alreadyPartitioned
    else
     pdq lt (pdq lt d4 (mid+1) b l1 true true) a mid l1 (decide (b-mid≥(b-a)/8)) alreadyPartitioned
   else d4
theorem pdq_step {lt:α→α→Bool} {d d1 d2:Array α} {a b limit l1 pivot:Nat} {wb wp:Bool} {cc:Nat×Hint} {hint:Hint} (h12:¬b-a≤12) (hl:¬limit=0) (e1:d1=if !wb then breakPatterns d a b else d) (e2:l1=if !wb then limit-1 else limit)
 (ec:cc=choosePivot lt d1 a b) (e3:d2=if cc.2 = .decreasing then reverseRange d1 a b else d1) (e4:pivot=if cc.2 = .decreasing then (b-1)-(cc.1-a) else cc.1) (e5:hint=if cc.2 = .decreasing then Hint.increasing else cc.2) :
 pdq lt d a b limit wb wp=(if (if wb&&wp&&decide (hint = .increasing) then partialInsertionSort lt d2 a b else (d2,false)).2=true then (if wb&&wp&&decide (hint = .increasing) then partialInsertionSort lt d2 a b else (d2,false)).1 else pdqR lt a b l1 pivot wb wp (if wb&&wp&&decide (hint = .increasing) then partialInsertionSort lt d2 a b else (d2,false)).1):=by
 rw [pdq,if_neg h12,if_neg hl]
 subst e1 e2 ec e3 e4 e5
 rfl

set_option maxHeartbeats 4000000 in
theorem pdqL_c (hf:LessOk Tryz.prog 136 val cm) (hone:∀x,one (val x)=true) (hn:n<100000):∀(N:Nat) {K:VP} {h:Heap} {d:Array α} {x y lim:Nat},y-x≤N→SA 2 b n c val h0 h d→x≤y→y≤n→lim<100000→(∀h',SA 2 b n c val h0 h' (pdq (ltC cm) d x y lim true true)→K (.tuple #[]) h') →
 CallsH Tryz.prog 115 #[slV b n c,.int .i64 x,.int .i64 y,.int .i64 lim] h K ⟨⟩:=by
 intro N
 induction N using Nat.strongRecOn with
 | _ N ih =>
 intro K h d x y lim hN s hxy hy hlim H
 refine n115_calls ?_
 unfold n115; try delta vF vG vC vD vJ vV vk vt
 refine loopX5 (α:=Nat×Nat×Nat×Bool×Bool×Array α) (fun a => .int .i64 a.1) (fun a => .int .i64 a.2.1) (fun a => .int .i64 a.2.2.1) (fun a => .bool a.2.2.2.1) (fun a => .bool a.2.2.2.2.1) (fun a g=>SA 2 b n c val h0 g a.2.2.2.2.2∧a.1≤a.2.1∧a.2.1≤n∧a.2.1-a.1≤N∧a.2.2.1<100000∧pdq (ltC cm) a.2.2.2.2.2 a.1 a.2.1 a.2.2.1 a.2.2.2.1 a.2.2.2.2.1=pdq (ltC cm) d x y lim true true) (fun a=>a.2.1-a.1) (x,y,lim,true,true,d) ⟨rfl,rfl,rfl,rfl,rfl⟩ ⟨s,hxy,hy,hN,hlim,rfl⟩ ?_
 generalize pdq (ltC cm) d x y lim true true=T at H ⊢
 clear s hxy hy hN hlim
 rintro ⟨x,y,lim,wb,wp,d⟩ g ⟨s,hxy,hy,hN,hlim,ht⟩ X hX
 dsimp only at s hxy hy hN hlim ht hX ⊢
 refine JoinN.mk ?_
 by_cases h12:y-x≤12
 ·simp (disch:=omega)
  rw [pdq,if_pos h12] at ht
  refine insL_c hf hone s hn hxy hy fun g1 s1 => ?_
  exact H _ (ht▸s1)
 ·by_cases hl0:lim=0
  ·simp (disch:=omega)
   rw [pdq,if_neg h12,if_pos hl0] at ht
   refine heapL_c hf hone s hn omg hy fun g1 s1 => ?_
   exact H _ (ht▸s1)
  ·obtain ⟨d1,e1⟩:∃d1,d1=if !wb then breakPatterns d x y else d:=⟨_,rfl⟩
   obtain ⟨l1,e2⟩:∃l1,l1=if !wb then lim-1 else lim:=⟨_,rfl⟩
   obtain ⟨cc,ec⟩:∃cc,cc=choosePivot (ltC cm) d1 x y:=⟨_,rfl⟩
   obtain ⟨d2,e3⟩:∃d2,d2=if cc.2 = .decreasing then reverseRange d1 x y else d1:=⟨_,rfl⟩
   obtain ⟨pv,e4⟩:∃pv,pv=if cc.2 = .decreasing then (y-1)-(cc.1-x) else cc.1:=⟨_,rfl⟩
   obtain ⟨hint,e5⟩:∃hint,hint=if cc.2 = .decreasing then Hint.increasing else cc.2:=⟨_,rfl⟩
   have ht2:=pdq_step (lt:=ltC cm) (wp:=wp) h12 hl0 e1 e2 ec e3 e4 e5
   rw [ht] at ht2
   clear ht
   have hcb:=choosePivot_holds (ltC cm) d1 x y omg
   rw [←ec] at hcb
   have hpx:x≤pv:=by rw [e4]; split<;>omega
   have hpy:pv<y:=by rw [e4]; split<;>omega
   have hl1:l1<100000:=by rw [e2]; split<;>omega
   simp (disch:=omega)
   refine JoinN_in1 (fun w g'=>w = .int .i64 l1∧SA 2 b n c val h0 g' d1) (fun kk hkk => ?_) (fun w g1 hw => ?_)
   ·cases wb with
    | true =>
     simp (disch:=omega)
     refine hkk _ _ ⟨?_,?_⟩
     ·rw [e2]; rfl
     ·rw [e1]; exact s
    | false =>
     simp (disch:=omega)
     refine brkL_c hone s hn omg hy fun g1 s1 => ?_
     simp (disch:=omega)
     refine hkk _ _ ⟨?_,?_⟩
     ·rw [e2]; simp; omega
     ·rw [e1]; exact s1
   ·obtain ⟨rfl,s1⟩:=hw
    refine pivL_c hf s1 hn omg hy fun g2 s2 => ?_
    rw [←ec]
    simp (disch:=omega)
    refine JoinN_in2 (fun w1 w2 g'=>w1 = .int .i64 pv∧w2 = .int .i64 (hintV hint)∧SA 2 b n c val h0 g' d2) (fun kk hkk => ?_) (fun w1 w2 g3 hw => ?_)
    ·by_cases hdc:cc.2 = .decreasing
     ·rw [if_pos hdc] at e3 e4 e5
      rw [hdc]
      simp (disch:=omega) [hintV]
      refine revL_c hf hone s2 hn omg hy fun g3 s3 => ?_
      simp (disch:=omega)
      refine hkk _ _ _ ⟨?_,?_,?_⟩
      ·rw [e4]; congr 1; omega
      ·rw [e5]; rfl
      ·rw [e3]; exact s3
     ·rw [if_neg hdc] at e3 e4 e5
      have h2:hintV cc.2≠2:=by
       intro e
       cases hcc:cc.2<;>rw [hcc] at e hdc<;>first|exact hdc rfl|(simp [hintV] at e)
      simp (disch:=omega) [h2]
      refine hkk _ _ _ ⟨?_,?_,?_⟩
      ·rw [e4]
      ·rw [e5]
      ·rw [e3]; exact s2
    ·obtain ⟨rfl,rfl,s3⟩:=hw
     refine JoinN_in0 (fun g'=>∃d3,SA 2 b n c val h0 g' d3∧T=pdqR (ltC cm) x y l1 pv wb wp d3) (fun kk hkk => ?_) (fun g5 hw => ?_)
     ·by_cases hb:(wb&&wp&&decide (hint = .increasing))=true
      ·rw [if_pos hb] at ht2
       simp at hb
       obtain ⟨⟨hb1,hb2⟩,hb3⟩:=hb
       rw [hb3,hb1,hb2]
       simp (disch:=omega) [hintV]
       refine partL_c hf hone s3 hn omg hy fun g4 s4 => ?_
       generalize partialInsertionSort (ltC cm) d2 x y=r at ht2 s4 ⊢
       obtain ⟨rd,rb⟩:=r
       cases rb with
       | true =>
        simp (disch:=omega)
        exact H _ (ht2▸s4)
       | false =>
        simp (disch:=omega)
        refine hkk _ ⟨rd,s4,?_⟩
        rw [ht2,hb1,hb2]
        rfl
      ·rw [if_neg hb] at ht2
       have hsk:kk g3:=hkk _ ⟨d2,s3,by rw [ht2]; rfl⟩
       cases wb with
       | false=>simp (disch:=omega); exact hsk
       | true =>
        cases wp with
        | false=>simp (disch:=omega); exact hsk
        | true =>
         have h1:hintV hint≠1:=by
          intro e
          cases hint<;>first|exact hb rfl|(simp [hintV] at e)
         simp (disch:=omega) [h1]
         exact hsk
     ·obtain ⟨d3,s5,ht3⟩:=hw
      clear ht2
      obtain ⟨mid0,ap0,d40,hpr⟩:∃m q z,partition (ltC cm) d3 x y pv=(m,q,z):=⟨_,_,_,rfl⟩
      have hR:¬(decide (x>0) && !ltC cm d3[x-1]! d3[pv]!)=true→T=(if x≤mid0∧mid0<y then (if mid0-x<y-mid0 then pdq (ltC cm) (pdq (ltC cm) d40 x mid0 l1 true true) (mid0+1) y l1 (decide (mid0-x≥(y-x)/8)) ap0 else pdq (ltC cm) (pdq (ltC cm) d40 (mid0+1) y l1 true true) x mid0 l1 (decide (y-mid0≥(y-x)/8)) ap0) else d40):=fun hc=>by
       rw [ht3]
       unfold pdqR
       rw [if_neg hc,hpr]
       rfl
      have hE:(decide (x>0) && !ltC cm d3[x-1]! d3[pv]!)=true→T=(match partitionEqual (ltC cm) d3 x y pv with|(mid,d4)=>if _h:x<mid∧mid≤y then pdq (ltC cm) d4 mid y l1 wb wp else d4):=fun hc=>by
       rw [ht3]
       unfold pdqR
       rw [if_pos hc]
      refine (fun key => ?main:(¬(decide (x>0) && !ltC cm d3[x-1]! d3[pv]!)=true→CallsH Tryz.prog 138 #[slV b n c,.int .i64 x,.int .i64 y,.int .i64 pv] g5 (?KK:VP) ⟨⟩)→_) (fun hc => ?rest)
      case' main =>
       by_cases hx0:0<x
       ·have s6:=s5
        have r1:=s5.get (i:=x-1) omg
        have r2:=s5.get (i:=pv) omg
        have ex:((x:Int)-1).toNat=x-1:=by omega
        unfold slV at key ⊢
        simp (disch:=omega) [r1.1,r2.1,ex]
        refine hf _ _ _ _ ?_
        by_cases hl:cm d3[x-1]! d3[pv]! < 0
        ·have hlt:ltC cm d3[x-1]! d3[pv]! = true:=decide_eq_true hl
         simp (disch:=omega) [hl]
         exact key (by rw [hlt]; simp)
        ·have hlt:ltC cm d3[x-1]! d3[pv]! = false:=decide_eq_false hl
         simp (disch:=omega) [hl]
         refine peqL_c (x:=x) hf hone s5 hn hpx hpy hy fun g7 mid s7 hm1 hm2 hm3 => ?_
         have hE2:=hE (by rw [hlt]; simp; omega)
         generalize partitionEqual (ltC cm) d3 x y pv=r at s7 hm1 hE2
         obtain ⟨md,d4⟩:=r
         dsimp only at s7 hm1 hE2
         rw [hm1] at hm2 hm3 ⊢
         rw [dif_pos ⟨hm2,hm3⟩] at hE2
         exact hX (md,y,l1,wb,wp,d4) _ _ _ _ _ _ rfl rfl rfl rfl rfl ⟨s7,hm3,hy,by dsimp only; omega,hl1,hE2.symm⟩ (by dsimp only; omega)
       ·simp (disch:=omega)
        exact key (by simp; omega)
      case' rest =>
       have ht4:=hR hc
       clear hE hR
       refine prtL_c hf hone s5 hn hpx hpy hy fun g7 mid ap s7 hm1 hm2 hm3 hm4 => ?_
       rw [hpr] at s7 hm1 hm2
       dsimp only at s7 hm1 hm2
       rw [hm1] at hm3 hm4 ⊢
       rw [hm2]
       rw [if_pos ⟨hm3,hm4⟩] at ht4
       simp (disch:=omega)
       refine Split.mk (fun hs => ?_) (fun hs => ?_)
       ·have hlr:mid0-x<y-mid0:=by omega
        rw [if_pos hlr] at ht4
        by_cases hq:mid0-x≥(y-x)/8
        ·rw [decide_eq_true hq] at ht4
         simp (disch:=omega)
         refine ih (mid0-x) omg (Nat.le_refl _) s7 hm3 omg hl1 fun g8 s8 => ?_
         simp (disch:=omega)
         exact hX (mid0+1,y,l1,true,ap0,_) _ _ _ _ _ _ sM rfl rfl rfl rfl ⟨s8,by dsimp only; omega,hy,by dsimp only; omega,hl1,ht4.symm⟩ (by dsimp only; omega)
        ·rw [decide_eq_false hq] at ht4
         simp (disch:=omega)
         refine ih (mid0-x) omg (Nat.le_refl _) s7 hm3 omg hl1 fun g8 s8 => ?_
         simp (disch:=omega)
         exact hX (mid0+1,y,l1,false,ap0,_) _ _ _ _ _ _ sM rfl rfl rfl rfl ⟨s8,by dsimp only; omega,hy,by dsimp only; omega,hl1,ht4.symm⟩ (by dsimp only; omega)
       ·have hlr:¬mid0-x<y-mid0:=by omega
        rw [if_neg hlr] at ht4
        by_cases hq:y-mid0≥(y-x)/8
        ·rw [decide_eq_true hq] at ht4
         simp (disch:=omega)
         refine ih (y-(mid0+1)) omg (x:=mid0+1) (Nat.le_refl _) s7 omg hy hl1 fun g8 s8 => ?_
         exact hX (x,mid0,l1,true,ap0,_) _ _ _ _ _ _ rfl rfl rfl rfl rfl ⟨s8,hm3,by dsimp only; omega,by dsimp only; omega,hl1,ht4.symm⟩ (by dsimp only; omega)
        ·rw [decide_eq_false hq] at ht4
         simp (disch:=omega)
         refine ih (y-(mid0+1)) omg (x:=mid0+1) (Nat.le_refl _) s7 omg hy hl1 fun g8 s8 => ?_
         exact hX (x,mid0,l1,false,ap0,_) _ _ _ _ _ _ rfl rfl rfl rfl rfl ⟨s8,hm3,by dsimp only; omega,by dsimp only; omega,hl1,ht4.symm⟩ (by dsimp only; omega)
end
end Go.Proofs.YtcbbdnaelimpfaaGreat
set_option linter.unusedSimpArgs false
set_option linter.unusedVariables false
namespace Go.Proofs.YtcbbdnaelimpfaaGreat
open Go.Vc Go.Sort

section
variable {α:Type} [Inhabited α] {K:VP} {h0 h:Heap} {b n c:Nat} {val:α→Value} {d:Array α} {f:Value} {cm:α→α→Int}

set_option linter.unusedSectionVars false
theorem SA.init {e:Nat} {L:List α} (o:OwnT e 1 h (.slice (some ⟨b,0,none⟩) n c) (L.map val)):SA e b n c val h h L.toArray:=⟨by simpa using o,.refl _ _⟩
def Ascend (lt:α→α→Bool) (L:List α):Prop:=L.Pairwise (fun x y=>lt y x=false)
theorem sorts {lt:α→α→Bool} (hw:SWO lt) (d:Array α) (lim:Nat):(pdq lt d 0 d.size lim true true).toList.Perm d.toList∧Ascend lt (pdq lt d 0 d.size lim true true).toList:=by
 obtain ⟨⟨h1,h2,h3⟩,h4⟩:=pdq_sorts lt hw d 0 d.size lim true true (Nat.zero_le _) (Nat.le_refl _) (.inl rfl)
 generalize pdq lt d 0 d.size lim true true=R at *
 constructor
 ·have e1:R.extract 0 d.size=R:=by rw [←h1]; simp
  have e2:d.extract 0 d.size=d:=by simp
  rw [e1,e2] at h3
  exact h3
 ·unfold Ascend
  rw [List.pairwise_iff_getElem]
  intro i j hi hj hij
  have:=h4 i j (Nat.zero_le _) hij (by simp at hj; omega)
  simp at hi hj
  rw [getB (d:=R) hi,getB (d:=R) hj] at this
  simpa using this

theorem sortL_c {L:List α} {v:Value} (hv:OwnT 2 1 h v (L.map val)) (hl:L.length<100000) (hf:LessOk Tryz.prog 136 val cm) (hone:∀x,one (val x)=true) (hw:SWO (ltC cm))
 (H:∀h' L',L'.Perm L→Ascend (ltC cm) L'→OwnT 2 1 h' v (L'.map val)→Mod (fun b=>blkV v=some b) h h'→K (.tuple #[]) h') :
 CallsH Tryz.prog 85 #[v] h K ⟨⟩:=by
 refine n85_calls ?_
 unfold n85; try delta vF vG vC vD vJ vV vk vt
 have hv0:=hv
 rcases hv with ⟨rfl,hL⟩|⟨b,n,c,rest,rfl,h1,h2,h3,h4⟩
 ·have hL':L=[]:=by simpa using hL
  have hk:=H h [] (by rw [hL']) .nil (.inl ⟨rfl,rfl⟩) (.refl _ _)
  simp (disch:=omega)
  refine len_c (n:=0) omg ?_
  refine n115_calls ?_
  unfold n115; try delta vF vG vC vD vJ vV vk vt
  refine loopX5 (fun _:Unit => .int .i64 0) (fun _ => .int .i64 0) (fun _ => .int .i64 0) (fun _ => .bool true) (fun _ => .bool true) (fun _ g=>g=h) (fun _=>0) () ⟨rfl,rfl,rfl,rfl,rfl⟩ rfl ?_
  rintro _ g rfl X hX
  refine JoinN.mk ?_
  simp (disch:=omega)
  refine n130_calls ?_
  unfold n130; try delta vF vG vC vD vJ vV vk vt
  simp (disch:=omega)
  refine loopX1 (fun _:Unit => .int .i64 1) (fun _ g'=>g'=g) (fun _=>0) () rfl rfl ?_
  rintro _ g rfl X2 hX2
  simp (disch:=omega)
  exact hk
 ·have hn:L.length=n:=by simpa using h1
  subst hn
  have s:=SA.init (val:=val) (L:=L) hv0
  have hbl:=bitsLen_le (show L.length<16777216 by omega)
  simp (disch:=omega)
  refine len_c (n:=L.length) omg ?_
  refine pdqL_c hf hone hl L.length (x:=0) (y:=L.length) (lim:=bitsLen L.length) omg s omg omg omg fun h' s' => ?_
  have hs:=sorts hw L.toArray (bitsLen L.length)
  rw [show L.toArray.size=L.length by simp] at hs
  exact H h' _ hs.1 hs.2 s'.own (s'.mod.mono (fun b' _ e=>by rw [e]; rfl))

end
end Go.Proofs.YtcbbdnaelimpfaaGreat
set_option linter.unusedSimpArgs false
set_option linter.unusedVariables false
namespace Go.Proofs.YtcbbdnaelimpfaaGreat
open Go.Vc Go.Sort

def cmS (x y:List UInt8):Int:=if Op.bytesLess x y=true then -1 else 0
section
variable {K:VP} {h:Heap}
theorem isNaNL_c {n:Int} (H:K (.bool false) h):CallsH Tryz.prog 148 #[.int .i64 n] h K ⟨⟩:=by
 refine n148_calls ?_
 unfold n148; try delta vF vG vC vD vJ vV vk vt
 simp (disch:=omega)
 exact H
theorem swo_subL:SWO (ltC (fun x y:Int=>x-y)):=by
 refine ⟨fun x => ?_,fun x y z => ?_,fun x y z => ?_⟩<;>unfold ltC
 ·simp
 ·simp; omega
 ·simp; omega
theorem lessL_ok:LessOk (α:=Int) Tryz.prog 136 (.int .i64) (fun x y=>x-y):=by
 intro x y g K H
 dsimp only at H
 refine n136_calls ?_
 unfold n136; try delta vF vG vC vD vJ vV vk vt
 refine isNaNL_c ?_
 simp (disch:=omega)
 by_cases e:x<y
 ·rw [decide_eq_true omg] at H
  simp (disch:=omega) [e]
  exact H
 ·rw [decide_eq_false omg] at H
  simp (disch:=omega) [e]
  exact H
theorem sortL64_c {l:List Int} {v:Value} (hv:OwnT 2 1 h v (l.map (.int .i64))) (hl:l.length<100000)
 (H:∀h' (l':List Int),l'.Perm l→l'.Pairwise (· ≤ ·)→OwnT 2 1 h' v (l'.map (.int .i64))→Mod (fun b=>blkV v=some b) h h'→K (.tuple #[]) h'):CallsH Tryz.prog 85 #[v] h K ⟨⟩:=by
 refine sortL_c (α:=Int) (val := .int .i64) (cm:=fun x y=>x-y) hv hl lessL_ok (fun _=>rfl) swo_subL fun h' l' a1 a2 a3 a4=>H h' l' a1 (a2.imp fun e => ?_) a3 a4
 unfold ltC at e
 have:=of_decide_eq_false e
 dsimp only at this
 omega
end
end Go.Proofs.YtcbbdnaelimpfaaGreat

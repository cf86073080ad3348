/- Sorting: part of an insertion. Sorting: partitions. Sorting: partition. -/
import Derived.Test.YtcbbdnaelimpfaaGreatSrtA
set_option linter.unusedSimpArgs false
set_option linter.unusedVariables false
namespace Go.Proofs.YtcbbdnaelimpfaaGreat
open Go.Vc Go.Sort

section
variable {α:Type} [Inhabited α] {K:VP} {h0 h:Heap} {b n c:Nat} {val:α→Value} {d:Array α} {f:Value} {cm:α→α→Int}

set_option maxHeartbeats 2000000 in
theorem partL_c {x y:Nat} (hf:LessOk Tryz.prog 136 val cm) (hone:∀x,one (val x)=true) (s:SA 2 b n c val h0 h d) (hn:n<100000) (hxy:x<y) (hy:y≤n) (H:∀h',SA 2 b n c val h0 h' (partialInsertionSort (ltC cm) d x y).1→K (.bool (partialInsertionSort (ltC cm) d x y).2) h') :
 CallsH Tryz.prog 135 #[slV b n c,.int .i64 x,.int .i64 y] h K ⟨⟩:=by
 refine n135_calls ?_
 unfold n135 slV; try delta vF vG vC vD vJ vV vk vt
 have st:=fun a x K h=>Hp_store (P:=Tryz.prog) (t:=2) (a:=a) (v:=val x) (K:=K) (h:=h) kR (hone x)
 unfold partialInsertionSort at H
 have fin:∀{r:Array α×Bool} {g:Heap},r=partialIns (ltC cm) x y 5 (x+1) d→SA 2 b n c val h0 g r.1→K (.bool r.2) g:=fun e s=>by
  rw [e] at s ⊢; exact H _ s
 clear H
 simp (disch:=omega)
 refine loopX2 (α:=Nat×Nat×Array α) (fun a => .int .i64 a.1) (fun a => .int .i64 a.2.1) (fun a g=>SA 2 b n c val h0 g a.2.2∧x<a.1∧a.1≤y∧a.2.1≤5∧partialIns (ltC cm) x y (5-a.2.1) a.1 a.2.2=partialIns (ltC cm) x y 5 (x+1) d) (fun a=>5-a.2.1) (x+1,0,d) ⟨by simp,rfl⟩ ⟨s,by dsimp only; omega,by dsimp only; omega,by dsimp only; omega,rfl⟩ ?_
 rintro ⟨i,t,d1⟩ g ⟨s1,hi,hiy,ht5,ht⟩ X hX
 dsimp only at s1 hi hiy ht5 ht hX ⊢
 by_cases h5:t<5
 ·obtain ⟨q,hq⟩:∃q,5-t=q+1:=⟨4-t,by omega⟩
  rw [hq,partialIns] at ht
  simp (disch:=omega)
  refine JoinN_in1 (fun w g'=>∃i' d',w = .int .i64 (i':Nat)∧SA 2 b n c val h0 g' d'∧x<i'∧i'≤y∧partialIns (ltC cm) x y q i' d'=partialIns (ltC cm) x y 5 (x+1) d) (fun k hk => ?_) (fun w g' hw => ?_)
  ·refine JoinN.mk ?_
   refine loopX1 (α:=Nat) (fun a => .int .i64 a) (fun a g'=>SA 2 b n c val h0 g' d1∧i≤a∧a≤y∧scanSorted (ltC cm) d1 y a=scanSorted (ltC cm) d1 y i) (fun a=>y-a) i rfl ⟨s1,Nat.le_refl _,hiy,rfl⟩ ?_
   rintro i2 g2 ⟨s2,hi2,hi2y,hsc⟩ X2 hX2
   rw [scanSorted] at hsc
   obtain ⟨i3,rfl⟩:∃i3,i2=i3+1:=⟨i2-1,by omega⟩
   by_cases hlt2:i3+1<y
   ·have r1:=s2.get (i:=i3+1) omg
    have r0:=s2.get (i:=i3) omg
    simp (disch:=omega) [r1.1,r0.1]
    refine hf _ _ _ _ ?_
    by_cases hl:cm d1[i3+1]! d1[i3]! < 0
    ·have hlt:ltC cm d1[i3+1]! d1[i3]! = true:=decide_eq_true hl
     rw [show i3+1-1=i3 by omega,hlt] at hsc
     simp at hsc
     rw [←hsc] at ht
     rw [if_neg omg] at ht
     simp (disch:=omega) [hl]
     by_cases h50:y-x<50
     ·rw [if_pos h50] at ht
      simp (disch:=omega)
      exact fin ht s2
     ·rw [if_neg h50] at ht
      rw [show i3+1-1=i3 by omega] at ht
      dsimp only at ht
      simp (disch:=omega)
      have wi:=s2.get (i:=i3+1) omg
      have wj:=s2.get (i:=i3) omg
      obtain ⟨⟨wu,wwu⟩,wwf⟩:=s2.get2 (i:=i3+1) (j:=i3) omg omg (val d1[i3]!)
      simp (disch:=omega) [wi.1,wi.2,wj.1,wj.2,wwu,wwf,st]
      have s3:=s2.swap (i:=i3+1) (j:=i3) omg omg
      refine JoinN_in0 (fun g'=>SA 2 b n c val h0 g' (if i3+1-x≥2 then shiftDown (ltC cm) i3 (swp d1 (i3+1) i3) else swp d1 (i3+1) i3)) (fun k6 hk6 => ?_) (fun g' s4 => ?_)
      ·by_cases h2:i3+1-x≥2
       ·rw [if_pos h2] at hk6
        simp (disch:=omega)
        refine JoinN.mk ?_
        refine loopX1 (α:=Nat×Array α) (fun a => .int .i64 a.1) (fun a g'=>SA 2 b n c val h0 g' a.2∧a.1≤n-1∧shiftDown (ltC cm) a.1 a.2=shiftDown (ltC cm) i3 (swp d1 (i3+1) i3)) (fun a=>a.1) (i3,swp d1 (i3+1) i3) sM ⟨s3,by dsimp only; omega,rfl⟩ ?_
        rintro ⟨j,d3⟩ g3 ⟨s5,hj,hsd⟩ X3 hX3
        dsimp only at s5 hj hsd hX3 ⊢
        cases j with
        | zero =>
         rw [shiftDown] at hsd
         simp (disch:=omega)
         exact hk6 _ (hsd▸s5)
        | succ j =>
         rw [shiftDown] at hsd
         have wi:=s5.get (i:=j+1) omg
         have wj:=s5.get (i:=j) omg
         obtain ⟨⟨wu,wwu⟩,wwf⟩:=s5.get2 (i:=j+1) (j:=j) omg omg (val d3[j]!)
         simp (disch:=omega) [wi.1,wj.1]
         refine hf _ _ _ _ ?_
         by_cases hl:cm d3[j+1]! d3[j]! < 0
         ·have hlt:ltC cm d3[j+1]! d3[j]! = true:=decide_eq_true hl
          rw [hlt] at hsd
          simp at hsd
          simp (disch:=omega) [hl,wi.1,wi.2,wj.1,wj.2,wwu,wwf,st]
          exact hX3 (j,_) _ _ sM ⟨s5.swap omg omg,by dsimp only; omega,hsd⟩ (by dsimp only; omega)
         ·have hlt:ltC cm d3[j+1]! d3[j]! = false:=decide_eq_false hl
          rw [hlt] at hsd
          simp at hsd
          simp (disch:=omega) [hl]
          exact hk6 _ (hsd▸s5)
       ·rw [if_neg h2] at hk6
        simp (disch:=omega)
        exact hk6 _ s3
      ·generalize (if i3+1-x≥2 then shiftDown (ltC cm) i3 (swp d1 (i3+1) i3) else swp d1 (i3+1) i3)=d4 at s4 ht
       by_cases h2:y-(i3+1)≥2
       ·rw [if_pos h2] at ht
        simp (disch:=omega)
        refine JoinN_in0 (fun g'=>SA 2 b n c val h0 g' (shiftUp (ltC cm) y (i3+1+1) d4)) (fun k7 hk7 => ?_) (fun g' s6 => ?_)
        ·refine loopX1 (α:=Nat×Array α) (fun a => .int .i64 (a.1+1:Nat)) (fun a g'=>SA 2 b n c val h0 g' a.2∧a.1≤n∧shiftUp (ltC cm) y (a.1+1) a.2=shiftUp (ltC cm) y (i3+1+1) d4) (fun a=>y-a.1) (i3+1,d4) sM ⟨s4,by dsimp only; omega,rfl⟩ ?_
         rintro ⟨j,d3⟩ g3 ⟨s5,hj,hsd⟩ X3 hX3
         dsimp only at s5 hj hsd hX3 ⊢
         rw [shiftUp] at hsd
         by_cases hjy:j+1<y
         ·rw [if_pos hjy,show j+1-1=j by omega] at hsd
          have wi:=s5.get (i:=j+1) omg
          have wj:=s5.get (i:=j) omg
          obtain ⟨⟨wu,wwu⟩,wwf⟩:=s5.get2 (i:=j+1) (j:=j) omg omg (val d3[j]!)
          simp (disch:=omega) [wi.1,wj.1]
          refine hf _ _ _ _ ?_
          by_cases hl:cm d3[j+1]! d3[j]! < 0
          ·have hlt:ltC cm d3[j+1]! d3[j]! = true:=decide_eq_true hl
           rw [hlt] at hsd
           simp at hsd
           simp (disch:=omega) [hl,wi.1,wi.2,wj.1,wj.2,wwu,wwf,st]
           exact hX3 (j+1,_) _ _ sM ⟨s5.swap omg omg,by dsimp only; omega,hsd⟩ (by dsimp only; omega)
          ·have hlt:ltC cm d3[j+1]! d3[j]! = false:=decide_eq_false hl
           rw [hlt] at hsd
           simp at hsd
           simp (disch:=omega) [hl]
           exact hk7 _ (hsd▸s5)
         ·rw [if_neg hjy] at hsd
          simp (disch:=omega)
          exact hk7 _ (hsd▸s5)
        ·exact hk _ _ ⟨i3+1,_,by simp,s6,by omega,by omega,ht⟩
       ·rw [if_neg h2] at ht
        simp (disch:=omega)
        exact hk _ _ ⟨i3+1,_,by simp,s4,by omega,by omega,ht⟩
    ·have hlt:ltC cm d1[i3+1]! d1[i3]! = false:=decide_eq_false hl
     rw [show i3+1-1=i3 by omega,hlt] at hsc
     simp [hlt2] at hsc
     simp (disch:=omega) [hl]
     exact hX2 (i3+1+1) _ _ sM ⟨s2,by omega,by omega,hsc⟩ omg
   ·rw [if_neg (by simp; omega)] at hsc
    rw [←hsc,if_pos omg] at ht
    have ey:((i3:Int)+1)=(y:Int):=by omega
    simp (disch:=omega) [ey]
    exact fin ht s2
  ·obtain ⟨i',d',rfl,s2,h1,h2,h3⟩:=hw
   simp (disch:=omega)
   exact hX (i',t+1,d') _ _ _ rfl sM ⟨s2,h1,h2,by dsimp only; omega,by dsimp only; rw [show 5-(t+1)=q by omega]; exact h3⟩ (by dsimp only; omega)
 ·have:5-t=0:=by omega
  rw [this,partialIns] at ht
  simp (disch:=omega)
  exact fin ht s1
end
end Go.Proofs.YtcbbdnaelimpfaaGreat
set_option linter.unusedSimpArgs false
set_option linter.unusedVariables false
namespace Go.Proofs.YtcbbdnaelimpfaaGreat
open Go.Vc Go.Sort

section
variable {α:Type} [Inhabited α] {K:VP} {h0 h:Heap} {b n c:Nat} {val:α→Value} {d:Array α} {f:Value} {cm:α→α→Int}
set_option maxHeartbeats 2000000 in
theorem peqL_c {x y p:Nat} (hf:LessOk Tryz.prog 136 val cm) (hone:∀x,one (val x)=true) (s:SA 2 b n c val h0 h d) (hn:n<100000) (hxp:x≤p) (hpy:p<y) (hy:y≤n) (H:∀h' (m:Nat),SA 2 b n c val h0 h' (partitionEqual (ltC cm) d x y p).2→m=(partitionEqual (ltC cm) d x y p).1→x<m→m≤y→K (.int .i64 m) h') :
 CallsH Tryz.prog 137 #[slV b n c,.int .i64 x,.int .i64 y,.int .i64 p] h K ⟨⟩:=by
 refine n137_calls ?_
 unfold n137 slV; try delta vF vG vC vD vJ vV vk vt
 have st:=fun a x K h=>Hp_store (P:=Tryz.prog) (t:=2) (a:=a) (v:=val x) (K:=K) (h:=h) kR (hone x)
 unfold partitionEqual at H
 have wi:=s.get (i:=x) omg
 have wj:=s.get (i:=p) omg
 obtain ⟨⟨wu,wwu⟩,wwf⟩:=s.get2 (i:=x) (j:=p) omg omg (val d[p]!)
 simp (disch:=omega) [wi.1,wi.2,wj.1,wj.2,wwu,wwf,st]
 have s1:=s.swap (i:=x) (j:=p) omg omg
 refine loopX2 (α:=Nat×Nat×Array α) (fun a => .int .i64 a.1) (fun a => .int .i64 a.2.1) (fun a g=>SA 2 b n c val h0 g a.2.2∧x<a.1∧a.1≤y∧a.2.1<y∧x≤a.2.1∧partEqLoop (ltC cm) x a.1 a.2.1 a.2.2=partEqLoop (ltC cm) x (x+1) (y-1) (swp d x p)) (fun a=>a.2.1+1-a.1) (x+1,y-1,swp d x p) ⟨by simp,by dsimp only; congr 1; omega⟩ ⟨s1,by dsimp only; omega,by dsimp only; omega,by dsimp only; omega,by dsimp only; omega,rfl⟩ ?_
 rintro ⟨i,j,d1⟩ g ⟨s1,hxi,hiy,hjy,hxj0,ht⟩ X hX
 dsimp only at s1 hxi hiy hjy hxj0 ht hX ⊢
 rw [partEqLoop_eq] at ht
 refine (fun key => ?main:(∀(i2:Nat) (g2:Heap),(SA 2 b n c val h0 g2 d1∧scanUp (fun z => !ltC cm d1[x]! z) d1 j i=i2∧i≤i2∧i2≤y)→(?R:Nat→Heap→Prop) i2 g2)→_) (fun i2 g2 hC => ?rest)
 case' main =>
  refine loopX1 (α:=Nat) (fun a => .int .i64 a) (fun a g'=>SA 2 b n c val h0 g' d1∧i≤a∧a≤y∧scanUp (fun z => !ltC cm d1[x]! z) d1 j a=scanUp (fun z => !ltC cm d1[x]! z) d1 j i) (fun a=>y-a) i (by first|rfl|simp) ⟨s1,Nat.le_refl _,by omega,rfl⟩ ?_
  rintro i2 g2 ⟨sx,hi2,hi2y,hsc⟩ X2 hX2
  rw [scanUp] at hsc
  by_cases hle:i2≤j
  ·have r1:=sx.get (i:=i2) omg
   have r0:=sx.get (i:=x) omg
   simp (disch:=omega) [r1.1,r0.1]
   refine hf _ _ _ _ ?_
   by_cases hl:cm d1[x]! d1[i2]! < 0
   ·have hlt:ltC cm d1[x]! d1[i2]! = true:=decide_eq_true hl
    rw [hlt] at hsc
    simp at hsc
    simp (disch:=omega) [hl]
    exact key i2 g2 ⟨sx,hsc.symm,hi2,hi2y⟩
   ·have hlt:ltC cm d1[x]! d1[i2]! = false:=decide_eq_false hl
    rw [hlt] at hsc
    simp [hle] at hsc
    simp (disch:=omega) [hl]
    exact hX2 (i2+1) _ _ sM ⟨sx,by omega,by omega,hsc⟩ omg
  ·rw [if_neg (by simp; omega)] at hsc
   simp (disch:=omega)
   exact key i2 g2 ⟨sx,hsc.symm,hi2,hi2y⟩
 case' rest =>
  obtain ⟨s2,hu,hi2,hi2y⟩:=hC
  refine loopX1 (α:=Nat) (fun a => .int .i64 a) (fun a g'=>SA 2 b n c val h0 g' d1∧a≤j∧x≤a∧scanDown (fun z=>ltC cm d1[x]! z) d1 i2 a=scanDown (fun z=>ltC cm d1[x]! z) d1 i2 j) (fun a=>a) j (by first|rfl|(congr 1; omega)) ⟨s2,Nat.le_refl _,by omega,rfl⟩ ?_
  rintro j2 g4 ⟨sx,hj2,hxj,hsc⟩ X2 hX2
  by_cases hle:i2≤j2
  ·obtain ⟨k,rfl⟩:∃k,j2=k+1:=⟨j2-1,by omega⟩
   rw [scanDown] at hsc
   have r1:=sx.get (i:=k+1) omg
   have r0:=sx.get (i:=x) omg
   simp (disch:=omega) [r1.1,r0.1]
   refine hf _ _ _ _ ?_
   by_cases hl:cm d1[x]! d1[k+1]! < 0
   ·have hlt:ltC cm d1[x]! d1[k+1]! = true:=decide_eq_true hl
    rw [hlt] at hsc
    simp [hle] at hsc
    simp (disch:=omega) [hl]
    exact hX2 k _ _ sM ⟨sx,by omega,by omega,hsc⟩ omg
   ·have hlt:ltC cm d1[x]! d1[k+1]! = false:=decide_eq_false hl
    rw [hlt] at hsc
    simp at hsc
    have hd:=hsc.symm
    rw [hu,hd,if_neg omg,Nat.add_sub_cancel] at ht
    have wi:=sx.get (i:=i2) omg
    have wj:=sx.get (i:=k+1) omg
    obtain ⟨⟨wu,wwu⟩,wwf⟩:=sx.get2 (i:=i2) (j:=k+1) omg omg (val d1[k+1]!)
    simp (disch:=omega) [hl,wi.1,wi.2,wj.1,wj.2,wwu,wwf,st]
    exact hX (i2+1,k,_) _ _ _ sM sM ⟨sx.swap omg omg,by dsimp only; omega,by dsimp only; omega,by dsimp only; omega,by dsimp only; omega,ht⟩ (by dsimp only; omega)
  ·have hsc':scanDown (fun z=>ltC cm d1[x]! z) d1 i2 j2=j2:=by
    cases j2 with
    | zero=>rw [scanDown]
    | succ k=>rw [scanDown,if_neg]; simp; omega
   rw [hsc'] at hsc
   have hd:=hsc.symm
   rw [hu,hd,if_pos omg] at ht
   simp (disch:=omega)
   rw [←ht] at H
   exact H g4 i2 sx rfl omg hi2y
end
end Go.Proofs.YtcbbdnaelimpfaaGreat
set_option linter.unusedSimpArgs false
set_option linter.unusedVariables false
namespace Go.Proofs.YtcbbdnaelimpfaaGreat
open Go.Vc Go.Sort

section
variable {α:Type} [Inhabited α] {K:VP} {h0 h:Heap} {b n c:Nat} {val:α→Value} {d:Array α} {f:Value} {cm:α→α→Int}
set_option maxHeartbeats 4000000 in
theorem prtL_c {x y p:Nat} (hf:LessOk Tryz.prog 136 val cm) (hone:∀x,one (val x)=true) (s:SA 2 b n c val h0 h d) (hn:n<100000) (hxp:x≤p) (hpy:p<y) (hy:y≤n) (H:∀h' (m:Nat) (q:Bool),SA 2 b n c val h0 h' (partition (ltC cm) d x y p).2.2→m=(partition (ltC cm) d x y p).1→q=(partition (ltC cm) d x y p).2.1→x≤m→m<y→K (.tuple #[.int .i64 m,.bool q]) h') :
 CallsH Tryz.prog 138 #[slV b n c,.int .i64 x,.int .i64 y,.int .i64 p] h K ⟨⟩:=by
 refine n138_calls ?_
 unfold n138 slV; try delta vF vG vC vD vJ vV vk vt
 have st:=fun a x K h=>Hp_store (P:=Tryz.prog) (t:=2) (a:=a) (v:=val x) (K:=K) (h:=h) kR (hone x)
 have wi:=s.get (i:=x) omg
 have wj:=s.get (i:=p) omg
 obtain ⟨⟨wu,wwu⟩,wwf⟩:=s.get2 (i:=x) (j:=p) omg omg (val d[p]!)
 simp (disch:=omega) [wi.1,wi.2,wj.1,wj.2,wwu,wwf,st]
 have s1:=s.swap (i:=x) (j:=p) omg omg
 have hp:partition (ltC cm) d x y p=(if scanUp (fun z=>ltC cm z (swp d x p)[x]!) (swp d x p) (y-1) (x+1)>scanDown (fun z => !ltC cm z (swp d x p)[x]!) (swp d x p) (scanUp (fun z=>ltC cm z (swp d x p)[x]!) (swp d x p) (y-1) (x+1)) (y-1) then (scanDown (fun z => !ltC cm z (swp d x p)[x]!) (swp d x p) (scanUp (fun z=>ltC cm z (swp d x p)[x]!) (swp d x p) (y-1) (x+1)) (y-1),true,swp (swp d x p) (scanDown (fun z => !ltC cm z (swp d x p)[x]!) (swp d x p) (scanUp (fun z=>ltC cm z (swp d x p)[x]!) (swp d x p) (y-1) (x+1)) (y-1)) x) else
  ((partLoop (ltC cm) x (scanUp (fun z=>ltC cm z (swp d x p)[x]!) (swp d x p) (y-1) (x+1)+1) (scanDown (fun z => !ltC cm z (swp d x p)[x]!) (swp d x p) (scanUp (fun z=>ltC cm z (swp d x p)[x]!) (swp d x p) (y-1) (x+1)) (y-1)-1) (swp (swp d x p) (scanUp (fun z=>ltC cm z (swp d x p)[x]!) (swp d x p) (y-1) (x+1)) (scanDown (fun z => !ltC cm z (swp d x p)[x]!) (swp d x p) (scanUp (fun z=>ltC cm z (swp d x p)[x]!) (swp d x p) (y-1) (x+1)) (y-1)))).1,false,
   swp (partLoop (ltC cm) x (scanUp (fun z=>ltC cm z (swp d x p)[x]!) (swp d x p) (y-1) (x+1)+1) (scanDown (fun z => !ltC cm z (swp d x p)[x]!) (swp d x p) (scanUp (fun z=>ltC cm z (swp d x p)[x]!) (swp d x p) (y-1) (x+1)) (y-1)-1) (swp (swp d x p) (scanUp (fun z=>ltC cm z (swp d x p)[x]!) (swp d x p) (y-1) (x+1)) (scanDown (fun z => !ltC cm z (swp d x p)[x]!) (swp d x p) (scanUp (fun z=>ltC cm z (swp d x p)[x]!) (swp d x p) (y-1) (x+1)) (y-1)))).2
    (partLoop (ltC cm) x (scanUp (fun z=>ltC cm z (swp d x p)[x]!) (swp d x p) (y-1) (x+1)+1) (scanDown (fun z => !ltC cm z (swp d x p)[x]!) (swp d x p) (scanUp (fun z=>ltC cm z (swp d x p)[x]!) (swp d x p) (y-1) (x+1)) (y-1)-1) (swp (swp d x p) (scanUp (fun z=>ltC cm z (swp d x p)[x]!) (swp d x p) (y-1) (x+1)) (scanDown (fun z => !ltC cm z (swp d x p)[x]!) (swp d x p) (scanUp (fun z=>ltC cm z (swp d x p)[x]!) (swp d x p) (y-1) (x+1)) (y-1)))).1 x)):=by
  unfold partition
  dsimp only
 generalize partition (ltC cm) d x y p=R at hp H
 generalize swp d x p=d1 at hp s1
 refine (fun key => ?main:(∀(i2:Nat) (g2:Heap),(SA 2 b n c val h0 g2 d1∧scanUp (fun z=>ltC cm z d1[x]!) d1 (y-1) (x+1)=i2∧(x+1)≤i2∧i2≤y)→(?R:Nat→Heap→Prop) i2 g2)→_) (fun i2 g2 hC => ?rest)
 case' main =>
  refine loopX1 (α:=Nat) (fun a => .int .i64 a) (fun a g'=>SA 2 b n c val h0 g' d1∧(x+1)≤a∧a≤y∧scanUp (fun z=>ltC cm z d1[x]!) d1 (y-1) a=scanUp (fun z=>ltC cm z d1[x]!) d1 (y-1) (x+1)) (fun a=>y-a) (x+1) (by first|rfl|simp) ⟨s1,Nat.le_refl _,by omega,rfl⟩ ?_
  rintro i2 g2 ⟨sx,hi2,hi2y,hsc⟩ X2 hX2
  rw [scanUp] at hsc
  by_cases hle:i2≤(y-1)
  ·have r1:=sx.get (i:=i2) omg
   have r0:=sx.get (i:=x) omg
   simp (disch:=omega) [r1.1,r0.1]
   refine hf _ _ _ _ ?_
   by_cases hl:cm d1[i2]! d1[x]! < 0
   ·have hlt:ltC cm d1[i2]! d1[x]! = true:=decide_eq_true hl
    rw [hlt] at hsc
    simp [hle] at hsc
    simp (disch:=omega) [hl]
    exact hX2 (i2+1) _ _ sM ⟨sx,by omega,by omega,hsc⟩ omg
   ·have hlt:ltC cm d1[i2]! d1[x]! = false:=decide_eq_false hl
    rw [hlt] at hsc
    simp at hsc
    simp (disch:=omega) [hl]
    exact key i2 g2 ⟨sx,hsc.symm,hi2,hi2y⟩
  ·rw [if_neg (by simp; omega)] at hsc
   simp (disch:=omega)
   exact key i2 g2 ⟨sx,hsc.symm,hi2,hi2y⟩
 case' rest =>
  obtain ⟨s2,hu,hi2,hi2y⟩:=hC
  refine loopX1 (α:=Nat) (fun a => .int .i64 a) (fun a g'=>SA 2 b n c val h0 g' d1∧a≤(y-1)∧x≤a∧scanDown (fun z => !ltC cm z d1[x]!) d1 i2 a=scanDown (fun z => !ltC cm z d1[x]!) d1 i2 (y-1)) (fun a=>a) (y-1) (by first|rfl|(congr 1; omega)) ⟨s2,Nat.le_refl _,by omega,rfl⟩ ?_
  rintro j2 g4 ⟨sx,hj2,hxj,hsc⟩ X2 hX2
  by_cases hle:i2≤j2
  ·obtain ⟨k,rfl⟩:∃k,j2=k+1:=⟨j2-1,by omega⟩
   rw [scanDown] at hsc
   have r1:=sx.get (i:=k+1) omg
   have r0:=sx.get (i:=x) omg
   simp (disch:=omega) [r1.1,r0.1]
   refine hf _ _ _ _ ?_
   by_cases hl:cm d1[k+1]! d1[x]! < 0
   ·have hlt:ltC cm d1[k+1]! d1[x]! = true:=decide_eq_true hl
    rw [hlt] at hsc
    simp at hsc
    have hd:=hsc.symm
    rw [hu,hd,if_neg omg,Nat.add_sub_cancel] at hp
    have wi:=sx.get (i:=i2) omg
    have wj:=sx.get (i:=k+1) omg
    obtain ⟨⟨wu,wwu⟩,wwf⟩:=sx.get2 (i:=i2) (j:=k+1) omg omg (val d1[k+1]!)
    simp (disch:=omega) [hl,wi.1,wi.2,wj.1,wj.2,wwu,wwf,st]
    have s9:=sx.swap (i:=i2) (j:=k+1) omg omg
    rw [hp] at H
    clear hp hX2 wwu wwf wi wj s2 sx r1 r0
    generalize swp d1 i2 (k+1)=d2 at H s9
    refine (⟨_,rfl⟩:∃PL,PL=partLoop (ltC cm) x (i2+1) k d2).elim fun PL hPL => ?_
    rw [←hPL] at H
    have H3:∀h' (m:Nat),SA 2 b n c val h0 h' (swp PL.2 m x)→m=PL.1→x≤m→m<y→K (.tuple #[.int .i64 m,.bool false]) h':=fun h' m a1 a2 a3 a4=>H h' m false (a2▸a1) a2 rfl a3 a4
    clear H
    refine loopX2 (α:=Nat×Nat×Array α) (fun a => .int .i64 a.1) (fun a => .int .i64 a.2.1) (fun a g=>SA 2 b n c val h0 g a.2.2∧x<a.1∧a.1≤y∧a.2.1<y∧x≤a.2.1∧partLoop (ltC cm) x a.1 a.2.1 a.2.2=PL) (fun a=>a.2.1+1-a.1) (i2+1,k,d2) ⟨by simp,by simp⟩ ⟨s9,by dsimp only; omega,by dsimp only; omega,by dsimp only; omega,by dsimp only; omega,hPL.symm⟩ ?_
    rintro ⟨i,j,d3⟩ g ⟨s3,hxi,hiy,hjy,hxj0,ht⟩ X hX
    dsimp only at s3 hxi hiy hjy hxj0 ht hX ⊢
    rw [partLoop_eq] at ht
    refine (fun key => ?main3:(∀(i2:Nat) (g2:Heap),(SA 2 b n c val h0 g2 d3∧scanUp (fun z=>ltC cm z d3[x]!) d3 j i=i2∧i≤i2∧i2≤y)→(?R3:Nat→Heap→Prop) i2 g2)→_) (fun i2 g2 hC => ?rest3)
    case' main3 =>
     refine loopX1 (α:=Nat) (fun a => .int .i64 a) (fun a g'=>SA 2 b n c val h0 g' d3∧i≤a∧a≤y∧scanUp (fun z=>ltC cm z d3[x]!) d3 j a=scanUp (fun z=>ltC cm z d3[x]!) d3 j i) (fun a=>y-a) i (by first|rfl|simp) ⟨s3,Nat.le_refl _,by omega,rfl⟩ ?_
     rintro i2 g2 ⟨sx,hi2,hi2y,hsc⟩ X2 hX2
     rw [scanUp] at hsc
     by_cases hle:i2≤j
     ·have r1:=sx.get (i:=i2) omg
      have r0:=sx.get (i:=x) omg
      simp (disch:=omega) [r1.1,r0.1]
      refine hf _ _ _ _ ?_
      by_cases hl:cm d3[i2]! d3[x]! < 0
      ·have hlt:ltC cm d3[i2]! d3[x]! = true:=decide_eq_true hl
       rw [hlt] at hsc
       simp [hle] at hsc
       simp (disch:=omega) [hl]
       exact hX2 (i2+1) _ _ sM ⟨sx,by omega,by omega,hsc⟩ omg
      ·have hlt:ltC cm d3[i2]! d3[x]! = false:=decide_eq_false hl
       rw [hlt] at hsc
       simp at hsc
       simp (disch:=omega) [hl]
       exact key i2 g2 ⟨sx,hsc.symm,hi2,hi2y⟩
     ·rw [if_neg (by simp; omega)] at hsc
      simp (disch:=omega)
      exact key i2 g2 ⟨sx,hsc.symm,hi2,hi2y⟩
    case' rest3 =>
     obtain ⟨s2,hu,hi2,hi2y⟩:=hC
     refine loopX1 (α:=Nat) (fun a => .int .i64 a) (fun a g'=>SA 2 b n c val h0 g' d3∧a≤j∧x≤a∧scanDown (fun z => !ltC cm z d3[x]!) d3 i2 a=scanDown (fun z => !ltC cm z d3[x]!) d3 i2 j) (fun a=>a) j (by first|rfl|(congr 1; omega)) ⟨s2,Nat.le_refl _,by omega,rfl⟩ ?_
     rintro j2 g4 ⟨sx,hj2,hxj,hsc⟩ X2 hX2
     by_cases hle:i2≤j2
     ·obtain ⟨k,rfl⟩:∃k,j2=k+1:=⟨j2-1,by omega⟩
      rw [scanDown] at hsc
      have r1:=sx.get (i:=k+1) omg
      have r0:=sx.get (i:=x) omg
      simp (disch:=omega) [r1.1,r0.1]
      refine hf _ _ _ _ ?_
      by_cases hl:cm d3[k+1]! d3[x]! < 0
      ·have hlt:ltC cm d3[k+1]! d3[x]! = true:=decide_eq_true hl
       rw [hlt] at hsc
       simp at hsc
       have hd:=hsc.symm
       rw [hu,hd,if_neg omg,Nat.add_sub_cancel] at ht
       have wi:=sx.get (i:=i2) omg
       have wj:=sx.get (i:=k+1) omg
       obtain ⟨⟨wu,wwu⟩,wwf⟩:=sx.get2 (i:=i2) (j:=k+1) omg omg (val d3[k+1]!)
       simp (disch:=omega) [hl,wi.1,wi.2,wj.1,wj.2,wwu,wwf,st]
       exact hX (i2+1,k,_) _ _ _ sM sM ⟨sx.swap omg omg,by dsimp only; omega,by dsimp only; omega,by dsimp only; omega,by dsimp only; omega,ht⟩ (by dsimp only; omega)
      ·have hlt:ltC cm d3[k+1]! d3[x]! = false:=decide_eq_false hl
       rw [hlt] at hsc
       simp [hle] at hsc
       simp (disch:=omega) [hl]
       exact hX2 k _ _ sM ⟨sx,by omega,by omega,hsc⟩ omg
     ·have hsc':scanDown (fun z => !ltC cm z d3[x]!) d3 i2 j2=j2:=by
       cases j2 with
       | zero=>rw [scanDown]
       | succ k=>rw [scanDown,if_neg]; simp; omega
      rw [hsc'] at hsc
      have hd:=hsc.symm
      rw [hu,hd,if_pos omg] at ht
      rw [←ht] at H3
      have wi:=sx.get (i:=j2) omg
      have wj:=sx.get (i:=x) omg
      obtain ⟨⟨wu,wwu⟩,wwf⟩:=sx.get2 (i:=j2) (j:=x) omg omg (val d3[x]!)
      simp (disch:=omega) [wi.1,wi.2,wj.1,wj.2,wwu,wwf,st]
      exact H3 _ j2 (sx.swap omg omg) rfl hxj omg
   ·have hlt:ltC cm d1[k+1]! d1[x]! = false:=decide_eq_false hl
    rw [hlt] at hsc
    simp [hle] at hsc
    simp (disch:=omega) [hl]
    exact hX2 k _ _ sM ⟨sx,by omega,by omega,hsc⟩ omg
  ·have hsc':scanDown (fun z => !ltC cm z d1[x]!) d1 i2 j2=j2:=by
    cases j2 with
    | zero=>rw [scanDown]
    | succ k=>rw [scanDown,if_neg]; simp; omega
   rw [hsc'] at hsc
   have hd:=hsc.symm
   rw [hu,hd,if_pos omg] at hp
   rw [hp] at H
   have wi:=sx.get (i:=j2) omg
   have wj:=sx.get (i:=x) omg
   obtain ⟨⟨wu,wwu⟩,wwf⟩:=sx.get2 (i:=j2) (j:=x) omg omg (val d1[x]!)
   simp (disch:=omega) [wi.1,wi.2,wj.1,wj.2,wwu,wwf,st]
   exact H _ j2 true (sx.swap omg omg) rfl rfl hxj omg
end
end Go.Proofs.YtcbbdnaelimpfaaGreat

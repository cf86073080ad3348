/- Lemmas: what the functions do. -/
import Derived.Test.YtdccfkffabngjaaGreatGpB
import Derived.Test.YtdccfkffabngjaaGreatGpA
set_option linter.unusedSimpArgs false
set_option linter.unusedVariables false
set_option maxRecDepth 20000
namespace Go.Proofs.YtdccfkffabngjaaGreat
open Go.Vc
section
open Go.Vc Go.Sort
section
variable {α:Type}[Inhabited α]{K:VP}{h0 h:Heap}{b n c:Nat}{val:α->Value}{d:Array α}{f:Value}{cm:α->α->Int}
set_option maxHeartbeats 2000000 in
theorem partS_c{x y:Nat}(hf:LessOk Tryz.prog 185 val cm)(hone:∀x,one (val x)=true)(s:SA 9 b n c val h0 h d)(hn:n<100000)(hxy:x<y)(hy:y<=n)(H:∀h',SA 9 b n c val h0 h' (partialInsertionSort (ltC cm) d x y).1->K (.bool (partialInsertionSort (ltC cm) d x y).2) h') :
 CallsH Tryz.prog 184 #[slV b n c,.int .i64 x,.int .i64 y] h K ⟨⟩:=by
 refine n184_calls ?_
 unfold n184 slV;try delta vF vG vC vD vJ vV vk vt
 have st:=fun a x K h=>Hp_store (P:=Tryz.prog) (t:=9) (a:=a) (v:=val x) (K:=K) (h:=h) kR (hone x)
 unfold partialInsertionSort at H
 have fin:∀{r:Array α×Bool} {g:Heap},r=partialIns (ltC cm) x y 5 (x+1) d->SA 9 b n c val h0 g r.1->K (.bool r.2) g:=fun e s=>by
  rw[e]at s ⊢;exact H _ s
 clear H
 simp(disch:=omega)
 refine loopX2 (α:=Nat×Nat×Array α) (fun a=>.int .i64 a.1) (fun a=>.int .i64 a.2.1) (fun a g=>SA 9 b n c val h0 g a.2.2/\x<a.1/\a.1<=y/\a.2.1<=5/\partialIns (ltC cm) x y (5-a.2.1) a.1 a.2.2=partialIns (ltC cm) x y 5 (x+1) d) (fun a=>5-a.2.1) (x+1,0,d) ⟨by simp,rfl⟩ ⟨s,by dsimp only;omega,by dsimp only;omega,by dsimp only;omega,rfl⟩ ?_
 rintro⟨i,t,d1⟩ g ⟨s1,hi,hiy,ht5,ht⟩ X hX
 dsimp only at s1 hi hiy ht5 ht hX ⊢
 by_cases h5:t<5
 ·obtain⟨q,hq⟩:∃q,5-t=q+1:=⟨4-t,by omega⟩
  rw[hq,partialIns]at ht
  simp(disch:=omega)
  refine JoinN_in1 (fun w g'=>∃i' d',w = .int .i64 (i':Nat)/\SA 9 b n c val h0 g' d'/\x<i'/\i'<=y/\partialIns (ltC cm) x y q i' d'=partialIns (ltC cm) x y 5 (x+1) d) (fun k hk=>?_) (fun w g' hw=>?_)
  ·refine JoinN.mk ?_
   refine loopX1 (α:=Nat) (fun a=>.int .i64 a) (fun a g'=>SA 9 b n c val h0 g' d1/\i<=a/\a<=y/\scanSorted (ltC cm) d1 y a=scanSorted (ltC cm) d1 y i) (fun a=>y-a) i rfl ⟨s1,Nat.le_refl _,hiy,rfl⟩ ?_
   rintro i2 g2 ⟨s2,hi2,hi2y,hsc⟩ X2 hX2
   rw[scanSorted]at hsc
   obtain⟨i3,rfl⟩:∃i3,i2=i3+1:=⟨i2-1,by omega⟩
   by_cases hlt2:i3+1<y
   ·have r1:=s2.get (i:=i3+1) omg
    have r0:=s2.get (i:=i3) omg
    simp(disch:=omega)[r1.1,r0.1]
    refine hf _ _ _ _ ?_
    by_cases hl:cm d1[i3+1]! d1[i3]! < 0
    ·have hlt:ltC cm d1[i3+1]! d1[i3]! = true:=decide_eq_true hl
     rw[show i3+1-1=i3 by omega,hlt]at hsc
     simp at hsc
     rw[<-hsc]at ht
     rw[if_neg omg]at ht
     simp(disch:=omega)[hl]
     by_cases h50:y-x<50
     ·rw[if_pos h50]at ht
      simp(disch:=omega)
      exact fin ht s2
     ·rw[if_neg h50]at ht
      rw[show i3+1-1=i3 by omega]at ht
      dsimp only at ht
      simp(disch:=omega)
      have wi:=s2.get (i:=i3+1) omg
      have wj:=s2.get (i:=i3) omg
      obtain⟨⟨wu,wwu⟩,wwf⟩:=s2.get2 (i:=i3+1) (j:=i3) omg omg (val d1[i3]!)
      simp(disch:=omega)[wi.1,wi.2,wj.1,wj.2,wwu,wwf,st]
      have s3:=s2.swap (i:=i3+1) (j:=i3) omg omg
      refine JoinN_in0 (fun g'=>SA 9 b n c val h0 g' (if i3+1-x>=2 then shiftDown (ltC cm) i3 (swp d1 (i3+1) i3) else swp d1 (i3+1) i3)) (fun k6 hk6=>?_) (fun g' s4=>?_)
      ·by_cases h2:i3+1-x>=2
       ·rw[if_pos h2]at hk6
        simp(disch:=omega)
        refine JoinN.mk ?_
        refine loopX1 (α:=Nat×Array α) (fun a=>.int .i64 a.1) (fun a g'=>SA 9 b n c val h0 g' a.2/\a.1<=n-1/\shiftDown (ltC cm) a.1 a.2=shiftDown (ltC cm) i3 (swp d1 (i3+1) i3)) (fun a=>a.1) (i3,swp d1 (i3+1) i3) sM ⟨s3,by dsimp only;omega,rfl⟩ ?_
        rintro⟨j,d3⟩ g3 ⟨s5,hj,hsd⟩ X3 hX3
        dsimp only at s5 hj hsd hX3 ⊢
        cases j with
        | zero =>
         rw[shiftDown]at hsd
         simp(disch:=omega)
         exact hk6 _ (hsd▸s5)
        | succ j =>
         rw[shiftDown]at hsd
         have wi:=s5.get (i:=j+1) omg
         have wj:=s5.get (i:=j) omg
         obtain⟨⟨wu,wwu⟩,wwf⟩:=s5.get2 (i:=j+1) (j:=j) omg omg (val d3[j]!)
         simp(disch:=omega)[wi.1,wj.1]
         refine hf _ _ _ _ ?_
         by_cases hl:cm d3[j+1]! d3[j]! < 0
         ·have hlt:ltC cm d3[j+1]! d3[j]! = true:=decide_eq_true hl
          rw[hlt]at hsd
          simp at hsd
          simp(disch:=omega)[hl,wi.1,wi.2,wj.1,wj.2,wwu,wwf,st]
          exact hX3 (j,_) _ _ sM ⟨s5.swap omg omg,by dsimp only;omega,hsd⟩ (by dsimp only;omega)
         ·have hlt:ltC cm d3[j+1]! d3[j]! = false:=decide_eq_false hl
          rw[hlt]at hsd
          simp at hsd
          simp(disch:=omega)[hl]
          exact hk6 _ (hsd▸s5)
       ·rw[if_neg h2]at hk6
        simp(disch:=omega)
        exact hk6 _ s3
      ·generalize (if i3+1-x>=2 then shiftDown (ltC cm) i3 (swp d1 (i3+1) i3) else swp d1 (i3+1) i3)=d4 at s4 ht
       by_cases h2:y-(i3+1)>=2
       ·rw[if_pos h2]at ht
        simp(disch:=omega)
        refine JoinN_in0 (fun g'=>SA 9 b n c val h0 g' (shiftUp (ltC cm) y (i3+1+1) d4)) (fun k7 hk7=>?_) (fun g' s6=>?_)
        ·refine loopX1 (α:=Nat×Array α) (fun a=>.int .i64 (a.1+1:Nat)) (fun a g'=>SA 9 b n c val h0 g' a.2/\a.1<=n/\shiftUp (ltC cm) y (a.1+1) a.2=shiftUp (ltC cm) y (i3+1+1) d4) (fun a=>y-a.1) (i3+1,d4) sM ⟨s4,by dsimp only;omega,rfl⟩ ?_
         rintro⟨j,d3⟩ g3 ⟨s5,hj,hsd⟩ X3 hX3
         dsimp only at s5 hj hsd hX3 ⊢
         rw[shiftUp]at hsd
         by_cases hjy:j+1<y
         ·rw[if_pos hjy,show j+1-1=j by omega]at hsd
          have wi:=s5.get (i:=j+1) omg
          have wj:=s5.get (i:=j) omg
          obtain⟨⟨wu,wwu⟩,wwf⟩:=s5.get2 (i:=j+1) (j:=j) omg omg (val d3[j]!)
          simp(disch:=omega)[wi.1,wj.1]
          refine hf _ _ _ _ ?_
          by_cases hl:cm d3[j+1]! d3[j]! < 0
          ·have hlt:ltC cm d3[j+1]! d3[j]! = true:=decide_eq_true hl
           rw[hlt]at hsd
           simp at hsd
           simp(disch:=omega)[hl,wi.1,wi.2,wj.1,wj.2,wwu,wwf,st]
           exact hX3 (j+1,_) _ _ sM ⟨s5.swap omg omg,by dsimp only;omega,hsd⟩ (by dsimp only;omega)
          ·have hlt:ltC cm d3[j+1]! d3[j]! = false:=decide_eq_false hl
           rw[hlt]at hsd
           simp at hsd
           simp(disch:=omega)[hl]
           exact hk7 _ (hsd▸s5)
         ·rw[if_neg hjy]at hsd
          simp(disch:=omega)
          exact hk7 _ (hsd▸s5)
        ·exact hk _ _ ⟨i3+1,_,by simp,s6,by omega,by omega,ht⟩
       ·rw[if_neg h2]at ht
        simp(disch:=omega)
        exact hk _ _ ⟨i3+1,_,by simp,s4,by omega,by omega,ht⟩
    ·have hlt:ltC cm d1[i3+1]! d1[i3]! = false:=decide_eq_false hl
     rw[show i3+1-1=i3 by omega,hlt]at hsc
     simp[hlt2]at hsc
     simp(disch:=omega)[hl]
     exact hX2 (i3+1+1) _ _ sM ⟨s2,by omega,by omega,hsc⟩ omg
   ·rw[if_neg (by simp;omega)]at hsc
    rw[<-hsc,if_pos omg]at ht
    have ey:((i3:Int)+1)=(y:Int):=by omega
    simp(disch:=omega)[ey]
    exact fin ht s2
  ·obtain⟨i',d',rfl,s2,h1,h2,h3⟩:=hw
   simp(disch:=omega)
   exact hX (i',t+1,d') _ _ _ rfl sM ⟨s2,h1,h2,by dsimp only;omega,by dsimp only;rw[show 5-(t+1)=q by omega];exact h3⟩ (by dsimp only;omega)
 ·have:5-t=0:=by omega
  rw[this,partialIns]at ht
  simp(disch:=omega)
  exact fin ht s1
set_option maxHeartbeats 2000000 in
theorem partL_c{x y:Nat}(hf:LessOk Tryz.prog 157 val cm)(hone:∀x,one (val x)=true)(s:SA 2 b n c val h0 h d)(hn:n<100000)(hxy:x<y)(hy:y<=n)(H:∀h',SA 2 b n c val h0 h' (partialInsertionSort (ltC cm) d x y).1->K (.bool (partialInsertionSort (ltC cm) d x y).2) h') :
 CallsH Tryz.prog 156 #[slV b n c,.int .i64 x,.int .i64 y] h K ⟨⟩:=by
 refine n156_calls ?_
 unfold n156 slV;try delta vF vG vC vD vJ vV vk vt
 have st:=fun a x K h=>Hp_store (P:=Tryz.prog) (t:=2) (a:=a) (v:=val x) (K:=K) (h:=h) kR (hone x)
 unfold partialInsertionSort at H
 have fin:∀{r:Array α×Bool} {g:Heap},r=partialIns (ltC cm) x y 5 (x+1) d->SA 2 b n c val h0 g r.1->K (.bool r.2) g:=fun e s=>by
  rw[e]at s ⊢;exact H _ s
 clear H
 simp(disch:=omega)
 refine loopX2 (α:=Nat×Nat×Array α) (fun a=>.int .i64 a.1) (fun a=>.int .i64 a.2.1) (fun a g=>SA 2 b n c val h0 g a.2.2/\x<a.1/\a.1<=y/\a.2.1<=5/\partialIns (ltC cm) x y (5-a.2.1) a.1 a.2.2=partialIns (ltC cm) x y 5 (x+1) d) (fun a=>5-a.2.1) (x+1,0,d) ⟨by simp,rfl⟩ ⟨s,by dsimp only;omega,by dsimp only;omega,by dsimp only;omega,rfl⟩ ?_
 rintro⟨i,t,d1⟩ g ⟨s1,hi,hiy,ht5,ht⟩ X hX
 dsimp only at s1 hi hiy ht5 ht hX ⊢
 by_cases h5:t<5
 ·obtain⟨q,hq⟩:∃q,5-t=q+1:=⟨4-t,by omega⟩
  rw[hq,partialIns]at ht
  simp(disch:=omega)
  refine JoinN_in1 (fun w g'=>∃i' d',w = .int .i64 (i':Nat)/\SA 2 b n c val h0 g' d'/\x<i'/\i'<=y/\partialIns (ltC cm) x y q i' d'=partialIns (ltC cm) x y 5 (x+1) d) (fun k hk=>?_) (fun w g' hw=>?_)
  ·refine JoinN.mk ?_
   refine loopX1 (α:=Nat) (fun a=>.int .i64 a) (fun a g'=>SA 2 b n c val h0 g' d1/\i<=a/\a<=y/\scanSorted (ltC cm) d1 y a=scanSorted (ltC cm) d1 y i) (fun a=>y-a) i rfl ⟨s1,Nat.le_refl _,hiy,rfl⟩ ?_
   rintro i2 g2 ⟨s2,hi2,hi2y,hsc⟩ X2 hX2
   rw[scanSorted]at hsc
   obtain⟨i3,rfl⟩:∃i3,i2=i3+1:=⟨i2-1,by omega⟩
   by_cases hlt2:i3+1<y
   ·have r1:=s2.get (i:=i3+1) omg
    have r0:=s2.get (i:=i3) omg
    simp(disch:=omega)[r1.1,r0.1]
    refine hf _ _ _ _ ?_
    by_cases hl:cm d1[i3+1]! d1[i3]! < 0
    ·have hlt:ltC cm d1[i3+1]! d1[i3]! = true:=decide_eq_true hl
     rw[show i3+1-1=i3 by omega,hlt]at hsc
     simp at hsc
     rw[<-hsc]at ht
     rw[if_neg omg]at ht
     simp(disch:=omega)[hl]
     by_cases h50:y-x<50
     ·rw[if_pos h50]at ht
      simp(disch:=omega)
      exact fin ht s2
     ·rw[if_neg h50]at ht
      rw[show i3+1-1=i3 by omega]at ht
      dsimp only at ht
      simp(disch:=omega)
      have wi:=s2.get (i:=i3+1) omg
      have wj:=s2.get (i:=i3) omg
      obtain⟨⟨wu,wwu⟩,wwf⟩:=s2.get2 (i:=i3+1) (j:=i3) omg omg (val d1[i3]!)
      simp(disch:=omega)[wi.1,wi.2,wj.1,wj.2,wwu,wwf,st]
      have s3:=s2.swap (i:=i3+1) (j:=i3) omg omg
      refine JoinN_in0 (fun g'=>SA 2 b n c val h0 g' (if i3+1-x>=2 then shiftDown (ltC cm) i3 (swp d1 (i3+1) i3) else swp d1 (i3+1) i3)) (fun k6 hk6=>?_) (fun g' s4=>?_)
      ·by_cases h2:i3+1-x>=2
       ·rw[if_pos h2]at hk6
        simp(disch:=omega)
        refine JoinN.mk ?_
        refine loopX1 (α:=Nat×Array α) (fun a=>.int .i64 a.1) (fun a g'=>SA 2 b n c val h0 g' a.2/\a.1<=n-1/\shiftDown (ltC cm) a.1 a.2=shiftDown (ltC cm) i3 (swp d1 (i3+1) i3)) (fun a=>a.1) (i3,swp d1 (i3+1) i3) sM ⟨s3,by dsimp only;omega,rfl⟩ ?_
        rintro⟨j,d3⟩ g3 ⟨s5,hj,hsd⟩ X3 hX3
        dsimp only at s5 hj hsd hX3 ⊢
        cases j with
        | zero =>
         rw[shiftDown]at hsd
         simp(disch:=omega)
         exact hk6 _ (hsd▸s5)
        | succ j =>
         rw[shiftDown]at hsd
         have wi:=s5.get (i:=j+1) omg
         have wj:=s5.get (i:=j) omg
         obtain⟨⟨wu,wwu⟩,wwf⟩:=s5.get2 (i:=j+1) (j:=j) omg omg (val d3[j]!)
         simp(disch:=omega)[wi.1,wj.1]
         refine hf _ _ _ _ ?_
         by_cases hl:cm d3[j+1]! d3[j]! < 0
         ·have hlt:ltC cm d3[j+1]! d3[j]! = true:=decide_eq_true hl
          rw[hlt]at hsd
          simp at hsd
          simp(disch:=omega)[hl,wi.1,wi.2,wj.1,wj.2,wwu,wwf,st]
          exact hX3 (j,_) _ _ sM ⟨s5.swap omg omg,by dsimp only;omega,hsd⟩ (by dsimp only;omega)
         ·have hlt:ltC cm d3[j+1]! d3[j]! = false:=decide_eq_false hl
          rw[hlt]at hsd
          simp at hsd
          simp(disch:=omega)[hl]
          exact hk6 _ (hsd▸s5)
       ·rw[if_neg h2]at hk6
        simp(disch:=omega)
        exact hk6 _ s3
      ·generalize (if i3+1-x>=2 then shiftDown (ltC cm) i3 (swp d1 (i3+1) i3) else swp d1 (i3+1) i3)=d4 at s4 ht
       by_cases h2:y-(i3+1)>=2
       ·rw[if_pos h2]at ht
        simp(disch:=omega)
        refine JoinN_in0 (fun g'=>SA 2 b n c val h0 g' (shiftUp (ltC cm) y (i3+1+1) d4)) (fun k7 hk7=>?_) (fun g' s6=>?_)
        ·refine loopX1 (α:=Nat×Array α) (fun a=>.int .i64 (a.1+1:Nat)) (fun a g'=>SA 2 b n c val h0 g' a.2/\a.1<=n/\shiftUp (ltC cm) y (a.1+1) a.2=shiftUp (ltC cm) y (i3+1+1) d4) (fun a=>y-a.1) (i3+1,d4) sM ⟨s4,by dsimp only;omega,rfl⟩ ?_
         rintro⟨j,d3⟩ g3 ⟨s5,hj,hsd⟩ X3 hX3
         dsimp only at s5 hj hsd hX3 ⊢
         rw[shiftUp]at hsd
         by_cases hjy:j+1<y
         ·rw[if_pos hjy,show j+1-1=j by omega]at hsd
          have wi:=s5.get (i:=j+1) omg
          have wj:=s5.get (i:=j) omg
          obtain⟨⟨wu,wwu⟩,wwf⟩:=s5.get2 (i:=j+1) (j:=j) omg omg (val d3[j]!)
          simp(disch:=omega)[wi.1,wj.1]
          refine hf _ _ _ _ ?_
          by_cases hl:cm d3[j+1]! d3[j]! < 0
          ·have hlt:ltC cm d3[j+1]! d3[j]! = true:=decide_eq_true hl
           rw[hlt]at hsd
           simp at hsd
           simp(disch:=omega)[hl,wi.1,wi.2,wj.1,wj.2,wwu,wwf,st]
           exact hX3 (j+1,_) _ _ sM ⟨s5.swap omg omg,by dsimp only;omega,hsd⟩ (by dsimp only;omega)
          ·have hlt:ltC cm d3[j+1]! d3[j]! = false:=decide_eq_false hl
           rw[hlt]at hsd
           simp at hsd
           simp(disch:=omega)[hl]
           exact hk7 _ (hsd▸s5)
         ·rw[if_neg hjy]at hsd
          simp(disch:=omega)
          exact hk7 _ (hsd▸s5)
        ·exact hk _ _ ⟨i3+1,_,by simp,s6,by omega,by omega,ht⟩
       ·rw[if_neg h2]at ht
        simp(disch:=omega)
        exact hk _ _ ⟨i3+1,_,by simp,s4,by omega,by omega,ht⟩
    ·have hlt:ltC cm d1[i3+1]! d1[i3]! = false:=decide_eq_false hl
     rw[show i3+1-1=i3 by omega,hlt]at hsc
     simp[hlt2]at hsc
     simp(disch:=omega)[hl]
     exact hX2 (i3+1+1) _ _ sM ⟨s2,by omega,by omega,hsc⟩ omg
   ·rw[if_neg (by simp;omega)]at hsc
    rw[<-hsc,if_pos omg]at ht
    have ey:((i3:Int)+1)=(y:Int):=by omega
    simp(disch:=omega)[ey]
    exact fin ht s2
  ·obtain⟨i',d',rfl,s2,h1,h2,h3⟩:=hw
   simp(disch:=omega)
   exact hX (i',t+1,d') _ _ _ rfl sM ⟨s2,h1,h2,by dsimp only;omega,by dsimp only;rw[show 5-(t+1)=q by omega];exact h3⟩ (by dsimp only;omega)
 ·have:5-t=0:=by omega
  rw[this,partialIns]at ht
  simp(disch:=omega)
  exact fin ht s1
end
end
section
open Go.Vc Go.Sort
section
variable {α:Type}[Inhabited α]{K:VP}{h0 h:Heap}{b n c:Nat}{val:α->Value}{d:Array α}{f:Value}{cm:α->α->Int}
set_option maxHeartbeats 2000000 in
theorem peqS_c{x y p:Nat}(hf:LessOk Tryz.prog 185 val cm)(hone:∀x,one (val x)=true)(s:SA 9 b n c val h0 h d)(hn:n<100000)(hxp:x<=p)(hpy:p<y)(hy:y<=n)(H:∀h' (m:Nat),SA 9 b n c val h0 h' (partitionEqual (ltC cm) d x y p).2->m=(partitionEqual (ltC cm) d x y p).1->x<m->m<=y->K (.int .i64 m) h') :
 CallsH Tryz.prog 186 #[slV b n c,.int .i64 x,.int .i64 y,.int .i64 p] h K ⟨⟩:=by
 refine n186_calls ?_
 unfold n186 slV;try delta vF vG vC vD vJ vV vk vt
 have st:=fun a x K h=>Hp_store (P:=Tryz.prog) (t:=9) (a:=a) (v:=val x) (K:=K) (h:=h) kR (hone x)
 unfold partitionEqual at H
 have wi:=s.get (i:=x) omg
 have wj:=s.get (i:=p) omg
 obtain⟨⟨wu,wwu⟩,wwf⟩:=s.get2 (i:=x) (j:=p) omg omg (val d[p]!)
 simp(disch:=omega)[wi.1,wi.2,wj.1,wj.2,wwu,wwf,st]
 have s1:=s.swap (i:=x) (j:=p) omg omg
 refine loopX2 (α:=Nat×Nat×Array α) (fun a=>.int .i64 a.1) (fun a=>.int .i64 a.2.1) (fun a g=>SA 9 b n c val h0 g a.2.2/\x<a.1/\a.1<=y/\a.2.1<y/\x<=a.2.1/\partEqLoop (ltC cm) x a.1 a.2.1 a.2.2=partEqLoop (ltC cm) x (x+1) (y-1) (swp d x p)) (fun a=>a.2.1+1-a.1) (x+1,y-1,swp d x p) ⟨by simp,by dsimp only;congr 1;omega⟩ ⟨s1,by dsimp only;omega,by dsimp only;omega,by dsimp only;omega,by dsimp only;omega,rfl⟩ ?_
 rintro⟨i,j,d1⟩ g ⟨s1,hxi,hiy,hjy,hxj0,ht⟩ X hX
 dsimp only at s1 hxi hiy hjy hxj0 ht hX ⊢
 rw[partEqLoop_eq]at ht
 refine (fun key=>?main:(∀(i2:Nat) (g2:Heap),(SA 9 b n c val h0 g2 d1/\scanUp (fun z => !ltC cm d1[x]! z) d1 j i=i2/\i<=i2/\i2<=y)->(?R:Nat->Heap->Prop) i2 g2)->_) (fun i2 g2 hC=>?rest)
 case' main =>
  refine loopX1 (α:=Nat) (fun a=>.int .i64 a) (fun a g'=>SA 9 b n c val h0 g' d1/\i<=a/\a<=y/\scanUp (fun z => !ltC cm d1[x]! z) d1 j a=scanUp (fun z => !ltC cm d1[x]! z) d1 j i) (fun a=>y-a) i (by first|rfl|simp) ⟨s1,Nat.le_refl _,by omega,rfl⟩ ?_
  rintro i2 g2 ⟨sx,hi2,hi2y,hsc⟩ X2 hX2
  rw[scanUp]at hsc
  by_cases hle:i2<=j
  ·have r1:=sx.get (i:=i2) omg
   have r0:=sx.get (i:=x) omg
   simp(disch:=omega)[r1.1,r0.1]
   refine hf _ _ _ _ ?_
   by_cases hl:cm d1[x]! d1[i2]! < 0
   ·have hlt:ltC cm d1[x]! d1[i2]! = true:=decide_eq_true hl
    rw[hlt]at hsc
    simp at hsc
    simp(disch:=omega)[hl]
    exact key i2 g2 ⟨sx,hsc.symm,hi2,hi2y⟩
   ·have hlt:ltC cm d1[x]! d1[i2]! = false:=decide_eq_false hl
    rw[hlt]at hsc
    simp[hle]at hsc
    simp(disch:=omega)[hl]
    exact hX2 (i2+1) _ _ sM ⟨sx,by omega,by omega,hsc⟩ omg
  ·rw[if_neg (by simp;omega)]at hsc
   simp(disch:=omega)
   exact key i2 g2 ⟨sx,hsc.symm,hi2,hi2y⟩
 case' rest =>
  obtain⟨s2,hu,hi2,hi2y⟩:=hC
  refine loopX1 (α:=Nat) (fun a=>.int .i64 a) (fun a g'=>SA 9 b n c val h0 g' d1/\a<=j/\x<=a/\scanDown (fun z=>ltC cm d1[x]! z) d1 i2 a=scanDown (fun z=>ltC cm d1[x]! z) d1 i2 j) (fun a=>a) j (by first|rfl|(congr 1;omega)) ⟨s2,Nat.le_refl _,by omega,rfl⟩ ?_
  rintro j2 g4 ⟨sx,hj2,hxj,hsc⟩ X2 hX2
  by_cases hle:i2<=j2
  ·obtain⟨k,rfl⟩:∃k,j2=k+1:=⟨j2-1,by omega⟩
   rw[scanDown]at hsc
   have r1:=sx.get (i:=k+1) omg
   have r0:=sx.get (i:=x) omg
   simp(disch:=omega)[r1.1,r0.1]
   refine hf _ _ _ _ ?_
   by_cases hl:cm d1[x]! d1[k+1]! < 0
   ·have hlt:ltC cm d1[x]! d1[k+1]! = true:=decide_eq_true hl
    rw[hlt]at hsc
    simp[hle]at hsc
    simp(disch:=omega)[hl]
    exact hX2 k _ _ sM ⟨sx,by omega,by omega,hsc⟩ omg
   ·have hlt:ltC cm d1[x]! d1[k+1]! = false:=decide_eq_false hl
    rw[hlt]at hsc
    simp at hsc
    have hd:=hsc.symm
    rw[hu,hd,if_neg omg,Nat.add_sub_cancel]at ht
    have wi:=sx.get (i:=i2) omg
    have wj:=sx.get (i:=k+1) omg
    obtain⟨⟨wu,wwu⟩,wwf⟩:=sx.get2 (i:=i2) (j:=k+1) omg omg (val d1[k+1]!)
    simp(disch:=omega)[hl,wi.1,wi.2,wj.1,wj.2,wwu,wwf,st]
    exact hX (i2+1,k,_) _ _ _ sM sM ⟨sx.swap omg omg,by dsimp only;omega,by dsimp only;omega,by dsimp only;omega,by dsimp only;omega,ht⟩ (by dsimp only;omega)
  ·have hsc':scanDown (fun z=>ltC cm d1[x]! z) d1 i2 j2=j2:=by
    cases j2 with
    | zero=>rw[scanDown]
    | succ k=>rw[scanDown,if_neg];simp;omega
   rw[hsc']at hsc
   have hd:=hsc.symm
   rw[hu,hd,if_pos omg]at ht
   simp(disch:=omega)
   rw[<-ht]at H
   exact H g4 i2 sx rfl omg hi2y
set_option maxHeartbeats 2000000 in
theorem peqL_c{x y p:Nat}(hf:LessOk Tryz.prog 157 val cm)(hone:∀x,one (val x)=true)(s:SA 2 b n c val h0 h d)(hn:n<100000)(hxp:x<=p)(hpy:p<y)(hy:y<=n)(H:∀h' (m:Nat),SA 2 b n c val h0 h' (partitionEqual (ltC cm) d x y p).2->m=(partitionEqual (ltC cm) d x y p).1->x<m->m<=y->K (.int .i64 m) h') :
 CallsH Tryz.prog 158 #[slV b n c,.int .i64 x,.int .i64 y,.int .i64 p] h K ⟨⟩:=by
 refine n158_calls ?_
 unfold n158 slV;try delta vF vG vC vD vJ vV vk vt
 have st:=fun a x K h=>Hp_store (P:=Tryz.prog) (t:=2) (a:=a) (v:=val x) (K:=K) (h:=h) kR (hone x)
 unfold partitionEqual at H
 have wi:=s.get (i:=x) omg
 have wj:=s.get (i:=p) omg
 obtain⟨⟨wu,wwu⟩,wwf⟩:=s.get2 (i:=x) (j:=p) omg omg (val d[p]!)
 simp(disch:=omega)[wi.1,wi.2,wj.1,wj.2,wwu,wwf,st]
 have s1:=s.swap (i:=x) (j:=p) omg omg
 refine loopX2 (α:=Nat×Nat×Array α) (fun a=>.int .i64 a.1) (fun a=>.int .i64 a.2.1) (fun a g=>SA 2 b n c val h0 g a.2.2/\x<a.1/\a.1<=y/\a.2.1<y/\x<=a.2.1/\partEqLoop (ltC cm) x a.1 a.2.1 a.2.2=partEqLoop (ltC cm) x (x+1) (y-1) (swp d x p)) (fun a=>a.2.1+1-a.1) (x+1,y-1,swp d x p) ⟨by simp,by dsimp only;congr 1;omega⟩ ⟨s1,by dsimp only;omega,by dsimp only;omega,by dsimp only;omega,by dsimp only;omega,rfl⟩ ?_
 rintro⟨i,j,d1⟩ g ⟨s1,hxi,hiy,hjy,hxj0,ht⟩ X hX
 dsimp only at s1 hxi hiy hjy hxj0 ht hX ⊢
 rw[partEqLoop_eq]at ht
 refine (fun key=>?main:(∀(i2:Nat) (g2:Heap),(SA 2 b n c val h0 g2 d1/\scanUp (fun z => !ltC cm d1[x]! z) d1 j i=i2/\i<=i2/\i2<=y)->(?R:Nat->Heap->Prop) i2 g2)->_) (fun i2 g2 hC=>?rest)
 case' main =>
  refine loopX1 (α:=Nat) (fun a=>.int .i64 a) (fun a g'=>SA 2 b n c val h0 g' d1/\i<=a/\a<=y/\scanUp (fun z => !ltC cm d1[x]! z) d1 j a=scanUp (fun z => !ltC cm d1[x]! z) d1 j i) (fun a=>y-a) i (by first|rfl|simp) ⟨s1,Nat.le_refl _,by omega,rfl⟩ ?_
  rintro i2 g2 ⟨sx,hi2,hi2y,hsc⟩ X2 hX2
  rw[scanUp]at hsc
  by_cases hle:i2<=j
  ·have r1:=sx.get (i:=i2) omg
   have r0:=sx.get (i:=x) omg
   simp(disch:=omega)[r1.1,r0.1]
   refine hf _ _ _ _ ?_
   by_cases hl:cm d1[x]! d1[i2]! < 0
   ·have hlt:ltC cm d1[x]! d1[i2]! = true:=decide_eq_true hl
    rw[hlt]at hsc
    simp at hsc
    simp(disch:=omega)[hl]
    exact key i2 g2 ⟨sx,hsc.symm,hi2,hi2y⟩
   ·have hlt:ltC cm d1[x]! d1[i2]! = false:=decide_eq_false hl
    rw[hlt]at hsc
    simp[hle]at hsc
    simp(disch:=omega)[hl]
    exact hX2 (i2+1) _ _ sM ⟨sx,by omega,by omega,hsc⟩ omg
  ·rw[if_neg (by simp;omega)]at hsc
   simp(disch:=omega)
   exact key i2 g2 ⟨sx,hsc.symm,hi2,hi2y⟩
 case' rest =>
  obtain⟨s2,hu,hi2,hi2y⟩:=hC
  refine loopX1 (α:=Nat) (fun a=>.int .i64 a) (fun a g'=>SA 2 b n c val h0 g' d1/\a<=j/\x<=a/\scanDown (fun z=>ltC cm d1[x]! z) d1 i2 a=scanDown (fun z=>ltC cm d1[x]! z) d1 i2 j) (fun a=>a) j (by first|rfl|(congr 1;omega)) ⟨s2,Nat.le_refl _,by omega,rfl⟩ ?_
  rintro j2 g4 ⟨sx,hj2,hxj,hsc⟩ X2 hX2
  by_cases hle:i2<=j2
  ·obtain⟨k,rfl⟩:∃k,j2=k+1:=⟨j2-1,by omega⟩
   rw[scanDown]at hsc
   have r1:=sx.get (i:=k+1) omg
   have r0:=sx.get (i:=x) omg
   simp(disch:=omega)[r1.1,r0.1]
   refine hf _ _ _ _ ?_
   by_cases hl:cm d1[x]! d1[k+1]! < 0
   ·have hlt:ltC cm d1[x]! d1[k+1]! = true:=decide_eq_true hl
    rw[hlt]at hsc
    simp[hle]at hsc
    simp(disch:=omega)[hl]
    exact hX2 k _ _ sM ⟨sx,by omega,by omega,hsc⟩ omg
   ·have hlt:ltC cm d1[x]! d1[k+1]! = false:=decide_eq_false hl
    rw[hlt]at hsc
    simp at hsc
    have hd:=hsc.symm
    rw[hu,hd,if_neg omg,Nat.add_sub_cancel]at ht
    have wi:=sx.get (i:=i2) omg
    have wj:=sx.get (i:=k+1) omg
    obtain⟨⟨wu,wwu⟩,wwf⟩:=sx.get2 (i:=i2) (j:=k+1) omg omg (val d1[k+1]!)
    simp(disch:=omega)[hl,wi.1,wi.2,wj.1,wj.2,wwu,wwf,st]
    exact hX (i2+1,k,_) _ _ _ sM sM ⟨sx.swap omg omg,by dsimp only;omega,by dsimp only;omega,by dsimp only;omega,by dsimp only;omega,ht⟩ (by dsimp only;omega)
  ·have hsc':scanDown (fun z=>ltC cm d1[x]! z) d1 i2 j2=j2:=by
    cases j2 with
    | zero=>rw[scanDown]
    | succ k=>rw[scanDown,if_neg];simp;omega
   rw[hsc']at hsc
   have hd:=hsc.symm
   rw[hu,hd,if_pos omg]at ht
   simp(disch:=omega)
   rw[<-ht]at H
   exact H g4 i2 sx rfl omg hi2y
end
end
section
open Go.Vc Go.Sort
section
variable {α:Type}[Inhabited α]{K:VP}{h0 h:Heap}{b n c:Nat}{val:α->Value}{d:Array α}{f:Value}{cm:α->α->Int}
set_option maxHeartbeats 4000000 in
theorem prtS_c{x y p:Nat}(hf:LessOk Tryz.prog 185 val cm)(hone:∀x,one (val x)=true)(s:SA 9 b n c val h0 h d)(hn:n<100000)(hxp:x<=p)(hpy:p<y)(hy:y<=n)(H:∀h' (m:Nat) (q:Bool),SA 9 b n c val h0 h' (partition (ltC cm) d x y p).2.2->m=(partition (ltC cm) d x y p).1->q=(partition (ltC cm) d x y p).2.1->x<=m->m<y->K (.tuple #[.int .i64 m,.bool q]) h') :
 CallsH Tryz.prog 187 #[slV b n c,.int .i64 x,.int .i64 y,.int .i64 p] h K ⟨⟩:=by
 refine n187_calls ?_
 unfold n187 slV;try delta vF vG vC vD vJ vV vk vt
 have st:=fun a x K h=>Hp_store (P:=Tryz.prog) (t:=9) (a:=a) (v:=val x) (K:=K) (h:=h) kR (hone x)
 have wi:=s.get (i:=x) omg
 have wj:=s.get (i:=p) omg
 obtain⟨⟨wu,wwu⟩,wwf⟩:=s.get2 (i:=x) (j:=p) omg omg (val d[p]!)
 simp(disch:=omega)[wi.1,wi.2,wj.1,wj.2,wwu,wwf,st]
 have s1:=s.swap (i:=x) (j:=p) omg omg
 have hp:partition (ltC cm) d x y p=(if scanUp (fun z=>ltC cm z (swp d x p)[x]!) (swp d x p) (y-1) (x+1)>scanDown (fun z => !ltC cm z (swp d x p)[x]!) (swp d x p) (scanUp (fun z=>ltC cm z (swp d x p)[x]!) (swp d x p) (y-1) (x+1)) (y-1) then (scanDown (fun z => !ltC cm z (swp d x p)[x]!) (swp d x p) (scanUp (fun z=>ltC cm z (swp d x p)[x]!) (swp d x p) (y-1) (x+1)) (y-1),true,swp (swp d x p) (scanDown (fun z => !ltC cm z (swp d x p)[x]!) (swp d x p) (scanUp (fun z=>ltC cm z (swp d x p)[x]!) (swp d x p) (y-1) (x+1)) (y-1)) x) else
  ((partLoop (ltC cm) x (scanUp (fun z=>ltC cm z (swp d x p)[x]!) (swp d x p) (y-1) (x+1)+1) (scanDown (fun z => !ltC cm z (swp d x p)[x]!) (swp d x p) (scanUp (fun z=>ltC cm z (swp d x p)[x]!) (swp d x p) (y-1) (x+1)) (y-1)-1) (swp (swp d x p) (scanUp (fun z=>ltC cm z (swp d x p)[x]!) (swp d x p) (y-1) (x+1)) (scanDown (fun z => !ltC cm z (swp d x p)[x]!) (swp d x p) (scanUp (fun z=>ltC cm z (swp d x p)[x]!) (swp d x p) (y-1) (x+1)) (y-1)))).1,false,
   swp (partLoop (ltC cm) x (scanUp (fun z=>ltC cm z (swp d x p)[x]!) (swp d x p) (y-1) (x+1)+1) (scanDown (fun z => !ltC cm z (swp d x p)[x]!) (swp d x p) (scanUp (fun z=>ltC cm z (swp d x p)[x]!) (swp d x p) (y-1) (x+1)) (y-1)-1) (swp (swp d x p) (scanUp (fun z=>ltC cm z (swp d x p)[x]!) (swp d x p) (y-1) (x+1)) (scanDown (fun z => !ltC cm z (swp d x p)[x]!) (swp d x p) (scanUp (fun z=>ltC cm z (swp d x p)[x]!) (swp d x p) (y-1) (x+1)) (y-1)))).2
    (partLoop (ltC cm) x (scanUp (fun z=>ltC cm z (swp d x p)[x]!) (swp d x p) (y-1) (x+1)+1) (scanDown (fun z => !ltC cm z (swp d x p)[x]!) (swp d x p) (scanUp (fun z=>ltC cm z (swp d x p)[x]!) (swp d x p) (y-1) (x+1)) (y-1)-1) (swp (swp d x p) (scanUp (fun z=>ltC cm z (swp d x p)[x]!) (swp d x p) (y-1) (x+1)) (scanDown (fun z => !ltC cm z (swp d x p)[x]!) (swp d x p) (scanUp (fun z=>ltC cm z (swp d x p)[x]!) (swp d x p) (y-1) (x+1)) (y-1)))).1 x)):=by
  unfold partition
  dsimp only
 generalize partition (ltC cm) d x y p=R at hp H
 generalize swp d x p=d1 at hp s1
 refine (fun key=>?main:(∀(i2:Nat) (g2:Heap),(SA 9 b n c val h0 g2 d1/\scanUp (fun z=>ltC cm z d1[x]!) d1 (y-1) (x+1)=i2/\(x+1)<=i2/\i2<=y)->(?R:Nat->Heap->Prop) i2 g2)->_) (fun i2 g2 hC=>?rest)
 case' main =>
  refine loopX1 (α:=Nat) (fun a=>.int .i64 a) (fun a g'=>SA 9 b n c val h0 g' d1/\(x+1)<=a/\a<=y/\scanUp (fun z=>ltC cm z d1[x]!) d1 (y-1) a=scanUp (fun z=>ltC cm z d1[x]!) d1 (y-1) (x+1)) (fun a=>y-a) (x+1) (by first|rfl|simp) ⟨s1,Nat.le_refl _,by omega,rfl⟩ ?_
  rintro i2 g2 ⟨sx,hi2,hi2y,hsc⟩ X2 hX2
  rw[scanUp]at hsc
  by_cases hle:i2<=(y-1)
  ·have r1:=sx.get (i:=i2) omg
   have r0:=sx.get (i:=x) omg
   simp(disch:=omega)[r1.1,r0.1]
   refine hf _ _ _ _ ?_
   by_cases hl:cm d1[i2]! d1[x]! < 0
   ·have hlt:ltC cm d1[i2]! d1[x]! = true:=decide_eq_true hl
    rw[hlt]at hsc
    simp[hle]at hsc
    simp(disch:=omega)[hl]
    exact hX2 (i2+1) _ _ sM ⟨sx,by omega,by omega,hsc⟩ omg
   ·have hlt:ltC cm d1[i2]! d1[x]! = false:=decide_eq_false hl
    rw[hlt]at hsc
    simp at hsc
    simp(disch:=omega)[hl]
    exact key i2 g2 ⟨sx,hsc.symm,hi2,hi2y⟩
  ·rw[if_neg (by simp;omega)]at hsc
   simp(disch:=omega)
   exact key i2 g2 ⟨sx,hsc.symm,hi2,hi2y⟩
 case' rest =>
  obtain⟨s2,hu,hi2,hi2y⟩:=hC
  refine loopX1 (α:=Nat) (fun a=>.int .i64 a) (fun a g'=>SA 9 b n c val h0 g' d1/\a<=(y-1)/\x<=a/\scanDown (fun z => !ltC cm z d1[x]!) d1 i2 a=scanDown (fun z => !ltC cm z d1[x]!) d1 i2 (y-1)) (fun a=>a) (y-1) (by first|rfl|(congr 1;omega)) ⟨s2,Nat.le_refl _,by omega,rfl⟩ ?_
  rintro j2 g4 ⟨sx,hj2,hxj,hsc⟩ X2 hX2
  by_cases hle:i2<=j2
  ·obtain⟨k,rfl⟩:∃k,j2=k+1:=⟨j2-1,by omega⟩
   rw[scanDown]at hsc
   have r1:=sx.get (i:=k+1) omg
   have r0:=sx.get (i:=x) omg
   simp(disch:=omega)[r1.1,r0.1]
   refine hf _ _ _ _ ?_
   by_cases hl:cm d1[k+1]! d1[x]! < 0
   ·have hlt:ltC cm d1[k+1]! d1[x]! = true:=decide_eq_true hl
    rw[hlt]at hsc
    simp at hsc
    have hd:=hsc.symm
    rw[hu,hd,if_neg omg,Nat.add_sub_cancel]at hp
    have wi:=sx.get (i:=i2) omg
    have wj:=sx.get (i:=k+1) omg
    obtain⟨⟨wu,wwu⟩,wwf⟩:=sx.get2 (i:=i2) (j:=k+1) omg omg (val d1[k+1]!)
    simp(disch:=omega)[hl,wi.1,wi.2,wj.1,wj.2,wwu,wwf,st]
    have s9:=sx.swap (i:=i2) (j:=k+1) omg omg
    rw[hp]at H
    clear hp hX2 wwu wwf wi wj s2 sx r1 r0
    generalize swp d1 i2 (k+1)=d2 at H s9
    refine (⟨_,rfl⟩:∃PL,PL=partLoop (ltC cm) x (i2+1) k d2).elim fun PL hPL=>?_
    rw[<-hPL]at H
    have H3:∀h' (m:Nat),SA 9 b n c val h0 h' (swp PL.2 m x)->m=PL.1->x<=m->m<y->K (.tuple #[.int .i64 m,.bool false]) h':=fun h' m a1 a2 a3 a4=>H h' m false (a2▸a1) a2 rfl a3 a4
    clear H
    refine loopX2 (α:=Nat×Nat×Array α) (fun a=>.int .i64 a.1) (fun a=>.int .i64 a.2.1) (fun a g=>SA 9 b n c val h0 g a.2.2/\x<a.1/\a.1<=y/\a.2.1<y/\x<=a.2.1/\partLoop (ltC cm) x a.1 a.2.1 a.2.2=PL) (fun a=>a.2.1+1-a.1) (i2+1,k,d2) ⟨by simp,by simp⟩ ⟨s9,by dsimp only;omega,by dsimp only;omega,by dsimp only;omega,by dsimp only;omega,hPL.symm⟩ ?_
    rintro⟨i,j,d3⟩ g ⟨s3,hxi,hiy,hjy,hxj0,ht⟩ X hX
    dsimp only at s3 hxi hiy hjy hxj0 ht hX ⊢
    rw[partLoop_eq]at ht
    refine (fun key=>?main3:(∀(i2:Nat) (g2:Heap),(SA 9 b n c val h0 g2 d3/\scanUp (fun z=>ltC cm z d3[x]!) d3 j i=i2/\i<=i2/\i2<=y)->(?R3:Nat->Heap->Prop) i2 g2)->_) (fun i2 g2 hC=>?rest3)
    case' main3 =>
     refine loopX1 (α:=Nat) (fun a=>.int .i64 a) (fun a g'=>SA 9 b n c val h0 g' d3/\i<=a/\a<=y/\scanUp (fun z=>ltC cm z d3[x]!) d3 j a=scanUp (fun z=>ltC cm z d3[x]!) d3 j i) (fun a=>y-a) i (by first|rfl|simp) ⟨s3,Nat.le_refl _,by omega,rfl⟩ ?_
     rintro i2 g2 ⟨sx,hi2,hi2y,hsc⟩ X2 hX2
     rw[scanUp]at hsc
     by_cases hle:i2<=j
     ·have r1:=sx.get (i:=i2) omg
      have r0:=sx.get (i:=x) omg
      simp(disch:=omega)[r1.1,r0.1]
      refine hf _ _ _ _ ?_
      by_cases hl:cm d3[i2]! d3[x]! < 0
      ·have hlt:ltC cm d3[i2]! d3[x]! = true:=decide_eq_true hl
       rw[hlt]at hsc
       simp[hle]at hsc
       simp(disch:=omega)[hl]
       exact hX2 (i2+1) _ _ sM ⟨sx,by omega,by omega,hsc⟩ omg
      ·have hlt:ltC cm d3[i2]! d3[x]! = false:=decide_eq_false hl
       rw[hlt]at hsc
       simp at hsc
       simp(disch:=omega)[hl]
       exact key i2 g2 ⟨sx,hsc.symm,hi2,hi2y⟩
     ·rw[if_neg (by simp;omega)]at hsc
      simp(disch:=omega)
      exact key i2 g2 ⟨sx,hsc.symm,hi2,hi2y⟩
    case' rest3 =>
     obtain⟨s2,hu,hi2,hi2y⟩:=hC
     refine loopX1 (α:=Nat) (fun a=>.int .i64 a) (fun a g'=>SA 9 b n c val h0 g' d3/\a<=j/\x<=a/\scanDown (fun z => !ltC cm z d3[x]!) d3 i2 a=scanDown (fun z => !ltC cm z d3[x]!) d3 i2 j) (fun a=>a) j (by first|rfl|(congr 1;omega)) ⟨s2,Nat.le_refl _,by omega,rfl⟩ ?_
     rintro j2 g4 ⟨sx,hj2,hxj,hsc⟩ X2 hX2
     by_cases hle:i2<=j2
     ·obtain⟨k,rfl⟩:∃k,j2=k+1:=⟨j2-1,by omega⟩
      rw[scanDown]at hsc
      have r1:=sx.get (i:=k+1) omg
      have r0:=sx.get (i:=x) omg
      simp(disch:=omega)[r1.1,r0.1]
      refine hf _ _ _ _ ?_
      by_cases hl:cm d3[k+1]! d3[x]! < 0
      ·have hlt:ltC cm d3[k+1]! d3[x]! = true:=decide_eq_true hl
       rw[hlt]at hsc
       simp at hsc
       have hd:=hsc.symm
       rw[hu,hd,if_neg omg,Nat.add_sub_cancel]at ht
       have wi:=sx.get (i:=i2) omg
       have wj:=sx.get (i:=k+1) omg
       obtain⟨⟨wu,wwu⟩,wwf⟩:=sx.get2 (i:=i2) (j:=k+1) omg omg (val d3[k+1]!)
       simp(disch:=omega)[hl,wi.1,wi.2,wj.1,wj.2,wwu,wwf,st]
       exact hX (i2+1,k,_) _ _ _ sM sM ⟨sx.swap omg omg,by dsimp only;omega,by dsimp only;omega,by dsimp only;omega,by dsimp only;omega,ht⟩ (by dsimp only;omega)
      ·have hlt:ltC cm d3[k+1]! d3[x]! = false:=decide_eq_false hl
       rw[hlt]at hsc
       simp[hle]at hsc
       simp(disch:=omega)[hl]
       exact hX2 k _ _ sM ⟨sx,by omega,by omega,hsc⟩ omg
     ·have hsc':scanDown (fun z => !ltC cm z d3[x]!) d3 i2 j2=j2:=by
       cases j2 with
       | zero=>rw[scanDown]
       | succ k=>rw[scanDown,if_neg];simp;omega
      rw[hsc']at hsc
      have hd:=hsc.symm
      rw[hu,hd,if_pos omg]at ht
      rw[<-ht]at H3
      have wi:=sx.get (i:=j2) omg
      have wj:=sx.get (i:=x) omg
      obtain⟨⟨wu,wwu⟩,wwf⟩:=sx.get2 (i:=j2) (j:=x) omg omg (val d3[x]!)
      simp(disch:=omega)[wi.1,wi.2,wj.1,wj.2,wwu,wwf,st]
      exact H3 _ j2 (sx.swap omg omg) rfl hxj omg
   ·have hlt:ltC cm d1[k+1]! d1[x]! = false:=decide_eq_false hl
    rw[hlt]at hsc
    simp[hle]at hsc
    simp(disch:=omega)[hl]
    exact hX2 k _ _ sM ⟨sx,by omega,by omega,hsc⟩ omg
  ·have hsc':scanDown (fun z => !ltC cm z d1[x]!) d1 i2 j2=j2:=by
    cases j2 with
    | zero=>rw[scanDown]
    | succ k=>rw[scanDown,if_neg];simp;omega
   rw[hsc']at hsc
   have hd:=hsc.symm
   rw[hu,hd,if_pos omg]at hp
   rw[hp]at H
   have wi:=sx.get (i:=j2) omg
   have wj:=sx.get (i:=x) omg
   obtain⟨⟨wu,wwu⟩,wwf⟩:=sx.get2 (i:=j2) (j:=x) omg omg (val d1[x]!)
   simp(disch:=omega)[wi.1,wi.2,wj.1,wj.2,wwu,wwf,st]
   exact H _ j2 true (sx.swap omg omg) rfl rfl hxj omg
set_option maxHeartbeats 4000000 in
theorem prtL_c{x y p:Nat}(hf:LessOk Tryz.prog 157 val cm)(hone:∀x,one (val x)=true)(s:SA 2 b n c val h0 h d)(hn:n<100000)(hxp:x<=p)(hpy:p<y)(hy:y<=n)(H:∀h' (m:Nat) (q:Bool),SA 2 b n c val h0 h' (partition (ltC cm) d x y p).2.2->m=(partition (ltC cm) d x y p).1->q=(partition (ltC cm) d x y p).2.1->x<=m->m<y->K (.tuple #[.int .i64 m,.bool q]) h') :
 CallsH Tryz.prog 159 #[slV b n c,.int .i64 x,.int .i64 y,.int .i64 p] h K ⟨⟩:=by
 refine n159_calls ?_
 unfold n159 slV;try delta vF vG vC vD vJ vV vk vt
 have st:=fun a x K h=>Hp_store (P:=Tryz.prog) (t:=2) (a:=a) (v:=val x) (K:=K) (h:=h) kR (hone x)
 have wi:=s.get (i:=x) omg
 have wj:=s.get (i:=p) omg
 obtain⟨⟨wu,wwu⟩,wwf⟩:=s.get2 (i:=x) (j:=p) omg omg (val d[p]!)
 simp(disch:=omega)[wi.1,wi.2,wj.1,wj.2,wwu,wwf,st]
 have s1:=s.swap (i:=x) (j:=p) omg omg
 have hp:partition (ltC cm) d x y p=(if scanUp (fun z=>ltC cm z (swp d x p)[x]!) (swp d x p) (y-1) (x+1)>scanDown (fun z => !ltC cm z (swp d x p)[x]!) (swp d x p) (scanUp (fun z=>ltC cm z (swp d x p)[x]!) (swp d x p) (y-1) (x+1)) (y-1) then (scanDown (fun z => !ltC cm z (swp d x p)[x]!) (swp d x p) (scanUp (fun z=>ltC cm z (swp d x p)[x]!) (swp d x p) (y-1) (x+1)) (y-1),true,swp (swp d x p) (scanDown (fun z => !ltC cm z (swp d x p)[x]!) (swp d x p) (scanUp (fun z=>ltC cm z (swp d x p)[x]!) (swp d x p) (y-1) (x+1)) (y-1)) x) else
  ((partLoop (ltC cm) x (scanUp (fun z=>ltC cm z (swp d x p)[x]!) (swp d x p) (y-1) (x+1)+1) (scanDown (fun z => !ltC cm z (swp d x p)[x]!) (swp d x p) (scanUp (fun z=>ltC cm z (swp d x p)[x]!) (swp d x p) (y-1) (x+1)) (y-1)-1) (swp (swp d x p) (scanUp (fun z=>ltC cm z (swp d x p)[x]!) (swp d x p) (y-1) (x+1)) (scanDown (fun z => !ltC cm z (swp d x p)[x]!) (swp d x p) (scanUp (fun z=>ltC cm z (swp d x p)[x]!) (swp d x p) (y-1) (x+1)) (y-1)))).1,false,
   swp (partLoop (ltC cm) x (scanUp (fun z=>ltC cm z (swp d x p)[x]!) (swp d x p) (y-1) (x+1)+1) (scanDown (fun z => !ltC cm z (swp d x p)[x]!) (swp d x p) (scanUp (fun z=>ltC cm z (swp d x p)[x]!) (swp d x p) (y-1) (x+1)) (y-1)-1) (swp (swp d x p) (scanUp (fun z=>ltC cm z (swp d x p)[x]!) (swp d x p) (y-1) (x+1)) (scanDown (fun z => !ltC cm z (swp d x p)[x]!) (swp d x p) (scanUp (fun z=>ltC cm z (swp d x p)[x]!) (swp d x p) (y-1) (x+1)) (y-1)))).2
    (partLoop (ltC cm) x (scanUp (fun z=>ltC cm z (swp d x p)[x]!) (swp d x p) (y-1) (x+1)+1) (scanDown (fun z => !ltC cm z (swp d x p)[x]!) (swp d x p) (scanUp (fun z=>ltC cm z (swp d x p)[x]!) (swp d x p) (y-1) (x+1)) (y-1)-1) (swp (swp d x p) (scanUp (fun z=>ltC cm z (swp d x p)[x]!) (swp d x p) (y-1) (x+1)) (scanDown (fun z => !ltC cm z (swp d x p)[x]!) (swp d x p) (scanUp (fun z=>ltC cm z (swp d x p)[x]!) (swp d x p) (y-1) (x+1)) (y-1)))).1 x)):=by
  unfold partition
  dsimp only
 generalize partition (ltC cm) d x y p=R at hp H
 generalize swp d x p=d1 at hp s1
 refine (fun key=>?main:(∀(i2:Nat) (g2:Heap),(SA 2 b n c val h0 g2 d1/\scanUp (fun z=>ltC cm z d1[x]!) d1 (y-1) (x+1)=i2/\(x+1)<=i2/\i2<=y)->(?R:Nat->Heap->Prop) i2 g2)->_) (fun i2 g2 hC=>?rest)
 case' main =>
  refine loopX1 (α:=Nat) (fun a=>.int .i64 a) (fun a g'=>SA 2 b n c val h0 g' d1/\(x+1)<=a/\a<=y/\scanUp (fun z=>ltC cm z d1[x]!) d1 (y-1) a=scanUp (fun z=>ltC cm z d1[x]!) d1 (y-1) (x+1)) (fun a=>y-a) (x+1) (by first|rfl|simp) ⟨s1,Nat.le_refl _,by omega,rfl⟩ ?_
  rintro i2 g2 ⟨sx,hi2,hi2y,hsc⟩ X2 hX2
  rw[scanUp]at hsc
  by_cases hle:i2<=(y-1)
  ·have r1:=sx.get (i:=i2) omg
   have r0:=sx.get (i:=x) omg
   simp(disch:=omega)[r1.1,r0.1]
   refine hf _ _ _ _ ?_
   by_cases hl:cm d1[i2]! d1[x]! < 0
   ·have hlt:ltC cm d1[i2]! d1[x]! = true:=decide_eq_true hl
    rw[hlt]at hsc
    simp[hle]at hsc
    simp(disch:=omega)[hl]
    exact hX2 (i2+1) _ _ sM ⟨sx,by omega,by omega,hsc⟩ omg
   ·have hlt:ltC cm d1[i2]! d1[x]! = false:=decide_eq_false hl
    rw[hlt]at hsc
    simp at hsc
    simp(disch:=omega)[hl]
    exact key i2 g2 ⟨sx,hsc.symm,hi2,hi2y⟩
  ·rw[if_neg (by simp;omega)]at hsc
   simp(disch:=omega)
   exact key i2 g2 ⟨sx,hsc.symm,hi2,hi2y⟩
 case' rest =>
  obtain⟨s2,hu,hi2,hi2y⟩:=hC
  refine loopX1 (α:=Nat) (fun a=>.int .i64 a) (fun a g'=>SA 2 b n c val h0 g' d1/\a<=(y-1)/\x<=a/\scanDown (fun z => !ltC cm z d1[x]!) d1 i2 a=scanDown (fun z => !ltC cm z d1[x]!) d1 i2 (y-1)) (fun a=>a) (y-1) (by first|rfl|(congr 1;omega)) ⟨s2,Nat.le_refl _,by omega,rfl⟩ ?_
  rintro j2 g4 ⟨sx,hj2,hxj,hsc⟩ X2 hX2
  by_cases hle:i2<=j2
  ·obtain⟨k,rfl⟩:∃k,j2=k+1:=⟨j2-1,by omega⟩
   rw[scanDown]at hsc
   have r1:=sx.get (i:=k+1) omg
   have r0:=sx.get (i:=x) omg
   simp(disch:=omega)[r1.1,r0.1]
   refine hf _ _ _ _ ?_
   by_cases hl:cm d1[k+1]! d1[x]! < 0
   ·have hlt:ltC cm d1[k+1]! d1[x]! = true:=decide_eq_true hl
    rw[hlt]at hsc
    simp at hsc
    have hd:=hsc.symm
    rw[hu,hd,if_neg omg,Nat.add_sub_cancel]at hp
    have wi:=sx.get (i:=i2) omg
    have wj:=sx.get (i:=k+1) omg
    obtain⟨⟨wu,wwu⟩,wwf⟩:=sx.get2 (i:=i2) (j:=k+1) omg omg (val d1[k+1]!)
    simp(disch:=omega)[hl,wi.1,wi.2,wj.1,wj.2,wwu,wwf,st]
    have s9:=sx.swap (i:=i2) (j:=k+1) omg omg
    rw[hp]at H
    clear hp hX2 wwu wwf wi wj s2 sx r1 r0
    generalize swp d1 i2 (k+1)=d2 at H s9
    refine (⟨_,rfl⟩:∃PL,PL=partLoop (ltC cm) x (i2+1) k d2).elim fun PL hPL=>?_
    rw[<-hPL]at H
    have H3:∀h' (m:Nat),SA 2 b n c val h0 h' (swp PL.2 m x)->m=PL.1->x<=m->m<y->K (.tuple #[.int .i64 m,.bool false]) h':=fun h' m a1 a2 a3 a4=>H h' m false (a2▸a1) a2 rfl a3 a4
    clear H
    refine loopX2 (α:=Nat×Nat×Array α) (fun a=>.int .i64 a.1) (fun a=>.int .i64 a.2.1) (fun a g=>SA 2 b n c val h0 g a.2.2/\x<a.1/\a.1<=y/\a.2.1<y/\x<=a.2.1/\partLoop (ltC cm) x a.1 a.2.1 a.2.2=PL) (fun a=>a.2.1+1-a.1) (i2+1,k,d2) ⟨by simp,by simp⟩ ⟨s9,by dsimp only;omega,by dsimp only;omega,by dsimp only;omega,by dsimp only;omega,hPL.symm⟩ ?_
    rintro⟨i,j,d3⟩ g ⟨s3,hxi,hiy,hjy,hxj0,ht⟩ X hX
    dsimp only at s3 hxi hiy hjy hxj0 ht hX ⊢
    rw[partLoop_eq]at ht
    refine (fun key=>?main3:(∀(i2:Nat) (g2:Heap),(SA 2 b n c val h0 g2 d3/\scanUp (fun z=>ltC cm z d3[x]!) d3 j i=i2/\i<=i2/\i2<=y)->(?R3:Nat->Heap->Prop) i2 g2)->_) (fun i2 g2 hC=>?rest3)
    case' main3 =>
     refine loopX1 (α:=Nat) (fun a=>.int .i64 a) (fun a g'=>SA 2 b n c val h0 g' d3/\i<=a/\a<=y/\scanUp (fun z=>ltC cm z d3[x]!) d3 j a=scanUp (fun z=>ltC cm z d3[x]!) d3 j i) (fun a=>y-a) i (by first|rfl|simp) ⟨s3,Nat.le_refl _,by omega,rfl⟩ ?_
     rintro i2 g2 ⟨sx,hi2,hi2y,hsc⟩ X2 hX2
     rw[scanUp]at hsc
     by_cases hle:i2<=j
     ·have r1:=sx.get (i:=i2) omg
      have r0:=sx.get (i:=x) omg
      simp(disch:=omega)[r1.1,r0.1]
      refine hf _ _ _ _ ?_
      by_cases hl:cm d3[i2]! d3[x]! < 0
      ·have hlt:ltC cm d3[i2]! d3[x]! = true:=decide_eq_true hl
       rw[hlt]at hsc
       simp[hle]at hsc
       simp(disch:=omega)[hl]
       exact hX2 (i2+1) _ _ sM ⟨sx,by omega,by omega,hsc⟩ omg
      ·have hlt:ltC cm d3[i2]! d3[x]! = false:=decide_eq_false hl
       rw[hlt]at hsc
       simp at hsc
       simp(disch:=omega)[hl]
       exact key i2 g2 ⟨sx,hsc.symm,hi2,hi2y⟩
     ·rw[if_neg (by simp;omega)]at hsc
      simp(disch:=omega)
      exact key i2 g2 ⟨sx,hsc.symm,hi2,hi2y⟩
    case' rest3 =>
     obtain⟨s2,hu,hi2,hi2y⟩:=hC
     refine loopX1 (α:=Nat) (fun a=>.int .i64 a) (fun a g'=>SA 2 b n c val h0 g' d3/\a<=j/\x<=a/\scanDown (fun z => !ltC cm z d3[x]!) d3 i2 a=scanDown (fun z => !ltC cm z d3[x]!) d3 i2 j) (fun a=>a) j (by first|rfl|(congr 1;omega)) ⟨s2,Nat.le_refl _,by omega,rfl⟩ ?_
     rintro j2 g4 ⟨sx,hj2,hxj,hsc⟩ X2 hX2
     by_cases hle:i2<=j2
     ·obtain⟨k,rfl⟩:∃k,j2=k+1:=⟨j2-1,by omega⟩
      rw[scanDown]at hsc
      have r1:=sx.get (i:=k+1) omg
      have r0:=sx.get (i:=x) omg
      simp(disch:=omega)[r1.1,r0.1]
      refine hf _ _ _ _ ?_
      by_cases hl:cm d3[k+1]! d3[x]! < 0
      ·have hlt:ltC cm d3[k+1]! d3[x]! = true:=decide_eq_true hl
       rw[hlt]at hsc
       simp at hsc
       have hd:=hsc.symm
       rw[hu,hd,if_neg omg,Nat.add_sub_cancel]at ht
       have wi:=sx.get (i:=i2) omg
       have wj:=sx.get (i:=k+1) omg
       obtain⟨⟨wu,wwu⟩,wwf⟩:=sx.get2 (i:=i2) (j:=k+1) omg omg (val d3[k+1]!)
       simp(disch:=omega)[hl,wi.1,wi.2,wj.1,wj.2,wwu,wwf,st]
       exact hX (i2+1,k,_) _ _ _ sM sM ⟨sx.swap omg omg,by dsimp only;omega,by dsimp only;omega,by dsimp only;omega,by dsimp only;omega,ht⟩ (by dsimp only;omega)
      ·have hlt:ltC cm d3[k+1]! d3[x]! = false:=decide_eq_false hl
       rw[hlt]at hsc
       simp[hle]at hsc
       simp(disch:=omega)[hl]
       exact hX2 k _ _ sM ⟨sx,by omega,by omega,hsc⟩ omg
     ·have hsc':scanDown (fun z => !ltC cm z d3[x]!) d3 i2 j2=j2:=by
       cases j2 with
       | zero=>rw[scanDown]
       | succ k=>rw[scanDown,if_neg];simp;omega
      rw[hsc']at hsc
      have hd:=hsc.symm
      rw[hu,hd,if_pos omg]at ht
      rw[<-ht]at H3
      have wi:=sx.get (i:=j2) omg
      have wj:=sx.get (i:=x) omg
      obtain⟨⟨wu,wwu⟩,wwf⟩:=sx.get2 (i:=j2) (j:=x) omg omg (val d3[x]!)
      simp(disch:=omega)[wi.1,wi.2,wj.1,wj.2,wwu,wwf,st]
      exact H3 _ j2 (sx.swap omg omg) rfl hxj omg
   ·have hlt:ltC cm d1[k+1]! d1[x]! = false:=decide_eq_false hl
    rw[hlt]at hsc
    simp[hle]at hsc
    simp(disch:=omega)[hl]
    exact hX2 k _ _ sM ⟨sx,by omega,by omega,hsc⟩ omg
  ·have hsc':scanDown (fun z => !ltC cm z d1[x]!) d1 i2 j2=j2:=by
    cases j2 with
    | zero=>rw[scanDown]
    | succ k=>rw[scanDown,if_neg];simp;omega
   rw[hsc']at hsc
   have hd:=hsc.symm
   rw[hu,hd,if_pos omg]at hp
   rw[hp]at H
   have wi:=sx.get (i:=j2) omg
   have wj:=sx.get (i:=x) omg
   obtain⟨⟨wu,wwu⟩,wwf⟩:=sx.get2 (i:=j2) (j:=x) omg omg (val d1[x]!)
   simp(disch:=omega)[wi.1,wi.2,wj.1,wj.2,wwu,wwf,st]
   exact H _ j2 true (sx.swap omg omg) rfl rfl hxj omg
end
end
section
open Go.Vc Go.Sort
section
variable {α:Type}[Inhabited α]{K:VP}{h0 h:Heap}{b n c:Nat}{val:α->Value}{d:Array α}{f:Value}{cm:α->α->Int}
def Sw(h:Heap)(q:Nat)(w:Nat):Prop:=h[q]? = some (.cells #[.int .i64 w] 3)
theorem ord2_bd{i j w m:Nat}(hi:i<m)(hj:j<m):(order2 (ltC cm) d i j w).1<m/\(order2 (ltC cm) d i j w).2.1<m/\(order2 (ltC cm) d i j w).2.2<=w+1:=by
 unfold order2
 split
 ·exact⟨hj,hi,Nat.le_refl _⟩
 ·exact⟨hi,hj,Nat.le_succ _⟩
theorem med_bd{i j k w m:Nat}(hi:i<m)(hj:j<m)(hk:k<m):(median (ltC cm) d i j k w).1<m/\(median (ltC cm) d i j k w).2<=w+3:=by
 unfold median
 have b1:=ord2_bd (cm:=cm) (d:=d) (w:=w) hi hj
 have b2:=ord2_bd (cm:=cm) (d:=d) (w:=(order2 (ltC cm) d i j w).2.2) b1.2.1 hk
 have b3:=ord2_bd (cm:=cm) (d:=d) (w:=(order2 (ltC cm) d (order2 (ltC cm) d i j w).2.1 k (order2 (ltC cm) d i j w).2.2).2.2) b1.1 b2.1
 exact⟨b3.2.1,by dsimp only;omega⟩
def hintV:Hint->Int
 | .unknown=>0
 | .increasing=>1
 | .decreasing=>2
set_option maxHeartbeats 1000000 in
theorem ord2S_c{i j q w:Nat}(hf:LessOk Tryz.prog 185 val cm)(s:SA 9 b n c val h0 h d)(hq:q≠b)(hz:h0.size<=q)(hw:Sw h q w)(hwb:w<1000)(hn:n<100000)(hi:i<n)(hj:j<n)
 (H:∀h',SA 9 b n c val h0 h' d->Sw h' q (order2 (ltC cm) d i j w).2.2->K (.tuple #[.int .i64 (order2 (ltC cm) d i j w).1,.int .i64 (order2 (ltC cm) d i j w).2.1]) h') :
 CallsH Tryz.prog 208 #[slV b n c,.int .i64 i,.int .i64 j,.pointer (some ⟨q,0,none⟩)] h K ⟨⟩:=by
 refine n208_calls ?_
 unfold n208 slV;try delta vF vG vC vD vJ vV vk vt
 have ri:=s.get hi
 have rj:=s.get hj
 simp(disch:=omega)[ri.1,rj.1]
 refine hf _ _ _ _ ?_
 unfold order2 at H
 by_cases hl:cm d[j]! d[i]! < 0
 ·have hlt:ltC cm d[j]! d[i]! = true:=decide_eq_true hl
  rw[if_pos hlt]at H
  have hc:hcell h ⟨q,0,none⟩=some (.int .i64 w):=by unfold hcell;unfold Sw at hw;simp[hw]
  have hfz:hfrozen h ⟨q,0,none⟩=false:=by unfold hfrozen;unfold Sw at hw;simp[hw]
  simp(disch:=omega)[hl,hc,hfz]
  refine H _ (s.side hq hz) ?_
  unfold Sw at hw ⊢
  rw[hset_of_block hw,get_put (get_some_lt hw)]
  simp
 ·have hlt:¬ltC cm d[j]! d[i]! = true:=by rw[show ltC cm d[j]! d[i]! = false from decide_eq_false hl];simp
  rw[if_neg hlt]at H
  simp(disch:=omega)[hl]
  exact H _ s hw
set_option maxHeartbeats 1000000 in
theorem ord2L_c{i j q w:Nat}(hf:LessOk Tryz.prog 157 val cm)(s:SA 2 b n c val h0 h d)(hq:q≠b)(hz:h0.size<=q)(hw:Sw h q w)(hwb:w<1000)(hn:n<100000)(hi:i<n)(hj:j<n)
 (H:∀h',SA 2 b n c val h0 h' d->Sw h' q (order2 (ltC cm) d i j w).2.2->K (.tuple #[.int .i64 (order2 (ltC cm) d i j w).1,.int .i64 (order2 (ltC cm) d i j w).2.1]) h') :
 CallsH Tryz.prog 195 #[slV b n c,.int .i64 i,.int .i64 j,.pointer (some ⟨q,0,none⟩)] h K ⟨⟩:=by
 refine n195_calls ?_
 unfold n195 slV;try delta vF vG vC vD vJ vV vk vt
 have ri:=s.get hi
 have rj:=s.get hj
 simp(disch:=omega)[ri.1,rj.1]
 refine hf _ _ _ _ ?_
 unfold order2 at H
 by_cases hl:cm d[j]! d[i]! < 0
 ·have hlt:ltC cm d[j]! d[i]! = true:=decide_eq_true hl
  rw[if_pos hlt]at H
  have hc:hcell h ⟨q,0,none⟩=some (.int .i64 w):=by unfold hcell;unfold Sw at hw;simp[hw]
  have hfz:hfrozen h ⟨q,0,none⟩=false:=by unfold hfrozen;unfold Sw at hw;simp[hw]
  simp(disch:=omega)[hl,hc,hfz]
  refine H _ (s.side hq hz) ?_
  unfold Sw at hw ⊢
  rw[hset_of_block hw,get_put (get_some_lt hw)]
  simp
 ·have hlt:¬ltC cm d[j]! d[i]! = true:=by rw[show ltC cm d[j]! d[i]! = false from decide_eq_false hl];simp
  rw[if_neg hlt]at H
  simp(disch:=omega)[hl]
  exact H _ s hw
theorem medS_c{i j k q w:Nat}(hf:LessOk Tryz.prog 185 val cm)(s:SA 9 b n c val h0 h d)(hq:q≠b)(hz:h0.size<=q)(hw:Sw h q w)(hwb:w<900)(hn:n<100000)(hi:i<n)(hj:j<n)(hk:k<n)
 (H:∀h',SA 9 b n c val h0 h' d->Sw h' q (median (ltC cm) d i j k w).2->K (.int .i64 (median (ltC cm) d i j k w).1) h') :
 CallsH Tryz.prog 198 #[slV b n c,.int .i64 i,.int .i64 j,.int .i64 k,.pointer (some ⟨q,0,none⟩)] h K ⟨⟩:=by
 refine n198_calls ?_
 unfold n198;try delta vF vG vC vD vJ vV vk vt
 have b1:=ord2_bd (cm:=cm) (d:=d) (w:=w) hi hj
 have b2:=ord2_bd (cm:=cm) (d:=d) (w:=(order2 (ltC cm) d i j w).2.2) b1.2.1 hk
 refine ord2S_c hf s hq hz hw omg hn hi hj fun g1 s1 w1=>?_
 simp(disch:=omega)
 refine ord2S_c hf s1 hq hz w1 omg hn b1.2.1 hk fun g2 s2 w2=>?_
 simp(disch:=omega)
 refine ord2S_c hf s2 hq hz w2 omg hn b1.1 b2.1 fun g3 s3 w3=>?_
 simp(disch:=omega)
 exact H _ s3 w3
theorem medL_c{i j k q w:Nat}(hf:LessOk Tryz.prog 157 val cm)(s:SA 2 b n c val h0 h d)(hq:q≠b)(hz:h0.size<=q)(hw:Sw h q w)(hwb:w<900)(hn:n<100000)(hi:i<n)(hj:j<n)(hk:k<n)
 (H:∀h',SA 2 b n c val h0 h' d->Sw h' q (median (ltC cm) d i j k w).2->K (.int .i64 (median (ltC cm) d i j k w).1) h') :
 CallsH Tryz.prog 177 #[slV b n c,.int .i64 i,.int .i64 j,.int .i64 k,.pointer (some ⟨q,0,none⟩)] h K ⟨⟩:=by
 refine n177_calls ?_
 unfold n177;try delta vF vG vC vD vJ vV vk vt
 have b1:=ord2_bd (cm:=cm) (d:=d) (w:=w) hi hj
 have b2:=ord2_bd (cm:=cm) (d:=d) (w:=(order2 (ltC cm) d i j w).2.2) b1.2.1 hk
 refine ord2L_c hf s hq hz hw omg hn hi hj fun g1 s1 w1=>?_
 simp(disch:=omega)
 refine ord2L_c hf s1 hq hz w1 omg hn b1.2.1 hk fun g2 s2 w2=>?_
 simp(disch:=omega)
 refine ord2L_c hf s2 hq hz w2 omg hn b1.1 b2.1 fun g3 s3 w3=>?_
 simp(disch:=omega)
 exact H _ s3 w3
theorem mdAS_c{i q w:Nat}(hf:LessOk Tryz.prog 185 val cm)(s:SA 9 b n c val h0 h d)(hq:q≠b)(hz:h0.size<=q)(hw:Sw h q w)(hwb:w<900)(hn:n<100000)(hi0:0<i)(hi:i+1<n)
 (H:∀h',SA 9 b n c val h0 h' d->Sw h' q (medianAdjacent (ltC cm) d i w).2->K (.int .i64 (medianAdjacent (ltC cm) d i w).1) h') :
 CallsH Tryz.prog 197 #[slV b n c,.int .i64 i,.pointer (some ⟨q,0,none⟩)] h K ⟨⟩:=by
 refine n197_calls ?_
 unfold n197;try delta vF vG vC vD vJ vV vk vt
 obtain⟨m,rfl⟩:∃m,i=m+1:=⟨i-1,by omega⟩
 simp(disch:=omega)
 refine medS_c (i:=m) (j:=m+1) (k:=m+1+1) hf s hq hz hw hwb hn omg omg omg fun g s1 w1=>?_
 exact H g s1 w1
theorem mdAL_c{i q w:Nat}(hf:LessOk Tryz.prog 157 val cm)(s:SA 2 b n c val h0 h d)(hq:q≠b)(hz:h0.size<=q)(hw:Sw h q w)(hwb:w<900)(hn:n<100000)(hi0:0<i)(hi:i+1<n)
 (H:∀h',SA 2 b n c val h0 h' d->Sw h' q (medianAdjacent (ltC cm) d i w).2->K (.int .i64 (medianAdjacent (ltC cm) d i w).1) h') :
 CallsH Tryz.prog 176 #[slV b n c,.int .i64 i,.pointer (some ⟨q,0,none⟩)] h K ⟨⟩:=by
 refine n176_calls ?_
 unfold n176;try delta vF vG vC vD vJ vV vk vt
 obtain⟨m,rfl⟩:∃m,i=m+1:=⟨i-1,by omega⟩
 simp(disch:=omega)
 refine medL_c (i:=m) (j:=m+1) (k:=m+1+1) hf s hq hz hw hwb hn omg omg omg fun g s1 w1=>?_
 exact H g s1 w1
set_option maxHeartbeats 1000000 in
theorem pivS_c{x y:Nat}(hf:LessOk Tryz.prog 185 val cm)(s:SA 9 b n c val h0 h d)(hn:n<100000)(hxy:x<y)(hy:y<=n)
 (H:∀h',SA 9 b n c val h0 h' d->K (.tuple #[.int .i64 (choosePivot (ltC cm) d x y).1,.int .i64 (hintV (choosePivot (ltC cm) d x y).2)]) h') :
 CallsH Tryz.prog 182 #[slV b n c,.int .i64 x,.int .i64 y] h K ⟨⟩:=by
 refine n182_calls ?_
 unfold n182;try delta vF vG vC vD vJ vV vk vt
 obtain⟨l,rfl⟩:∃l,y=x+l:=⟨y-x,by omega⟩
 have em:((x+l:Nat):Int)-(x:Int)=(l:Int):=by omega
 have hb:=s.lt
 have hzz:h0.size<=h.size:=s.mod.size
 have wq:Sw (h.push (.cells #[.int .i64 0] 3)) h.size 0:=get_pushed rfl
 have sq:=s.pushed (o:=.cells #[.int .i64 0] 3)
 simp(disch:=omega) only[em,Hp_sub_i64,ValI_iff]
 simp(disch:=omega)
 have e1:(x:Int)+(l:Int)/4=((x+l/4*1:Nat):Int):=by omega
 have e2:(x:Int)+(l:Int)/4*2=((x+l/4*2:Nat):Int):=by omega
 have e3:(x:Int)+(l:Int)/4*3=((x+l/4*3:Nat):Int):=by omega
 rw[e1,e2,e3]
 generalize hg:h.push (.cells #[.int .i64 0] 3)=g0 at wq sq ⊢
 have hcp:choosePivot (ltC cm) d x (x+l)=(fun r:Nat×Nat=>(r.1,if r.2=0 then Hint.increasing else if r.2=12 then Hint.decreasing else Hint.unknown)) (if l>=8 then (if l>=50 then
  median (ltC cm) d (medianAdjacent (ltC cm) d (x+l/4*1) 0).1 (medianAdjacent (ltC cm) d (x+l/4*2) (medianAdjacent (ltC cm) d (x+l/4*1) 0).2).1 (medianAdjacent (ltC cm) d (x+l/4*3) (medianAdjacent (ltC cm) d (x+l/4*2) (medianAdjacent (ltC cm) d (x+l/4*1) 0).2).2).1 (medianAdjacent (ltC cm) d (x+l/4*3) (medianAdjacent (ltC cm) d (x+l/4*2) (medianAdjacent (ltC cm) d (x+l/4*1) 0).2).2).2
  else median (ltC cm) d (x+l/4*1) (x+l/4*2) (x+l/4*3) 0) else (x+l/4*2,0)):=by
  unfold choosePivot
  rw[Nat.add_sub_cancel_left]
 generalize choosePivot (ltC cm) d x (x+l)=R at hcp H
 have hi1:8<=l->0<x+l/4*1/\x+l/4*1+1<n:=fun _=>by omega
 have hi2:8<=l->0<x+l/4*2/\x+l/4*2+1<n:=fun _=>by omega
 have hi3:8<=l->0<x+l/4*3/\x+l/4*3+1<n:=fun _=>by omega
 have hi2':x+l/4*2<n:=by omega
 generalize x+l/4*1=i1 at hcp hi1 ⊢
 generalize x+l/4*2=i2 at hcp hi2 hi2' ⊢
 generalize x+l/4*3=i3 at hcp hi3 ⊢
 have hqb:h.size≠b:=by omega
 refine JoinN_in1 (fun w g=>∃pv sw:Nat,w = .int .i64 pv/\SA 9 b n c val h0 g d/\Sw g h.size sw/\sw<1000/\(fun r:Nat×Nat=>(r.1,if r.2=0 then Hint.increasing else if r.2=12 then Hint.decreasing else Hint.unknown)) (pv,sw)=R) (fun kk hkk=>?_) (fun w g hw=>?_)
 ·by_cases h8:8<=l
  ·rw[if_pos h8]at hcp
   simp(disch:=omega)
   have q1:=hi1 h8
   have q2:=hi2 h8
   have q3:=hi3 h8
   refine JoinN_in3 (fun w1 w2 w3 g=>∃a1 a2 a3 sw:Nat,w1 = .int .i64 a1/\w2 = .int .i64 a2/\w3 = .int .i64 a3/\a1<n/\a2<n/\a3<n/\SA 9 b n c val h0 g d/\Sw g h.size sw/\sw<500/\(fun r:Nat×Nat=>(r.1,if r.2=0 then Hint.increasing else if r.2=12 then Hint.decreasing else Hint.unknown)) (median (ltC cm) d a1 a2 a3 sw)=R) (fun k3 hk3=>?_) (fun w1 w2 w3 g hw=>?_)
   ·by_cases h50:50<=l
    ·rw[if_pos h50]at hcp
     simp(disch:=omega)
     have b1:=med_bd (cm:=cm) (d:=d) (w:=0) (m:=n) (show i1-1<n by omega) (show i1<n by omega) (show i1+1<n by omega)
     have b2:=med_bd (cm:=cm) (d:=d) (w:=(medianAdjacent (ltC cm) d i1 0).2) (m:=n) (show i2-1<n by omega) (show i2<n by omega) (show i2+1<n by omega)
     have b3:=med_bd (cm:=cm) (d:=d) (w:=(medianAdjacent (ltC cm) d i2 (medianAdjacent (ltC cm) d i1 0).2).2) (m:=n) (show i3-1<n by omega) (show i3<n by omega) (show i3+1<n by omega)
     have b1':(medianAdjacent (ltC cm) d i1 0).1<n/\(medianAdjacent (ltC cm) d i1 0).2<=0+3:=b1
     have b2':(medianAdjacent (ltC cm) d i2 (medianAdjacent (ltC cm) d i1 0).2).1<n/\(medianAdjacent (ltC cm) d i2 (medianAdjacent (ltC cm) d i1 0).2).2<=(medianAdjacent (ltC cm) d i1 0).2+3:=b2
     have b3':(medianAdjacent (ltC cm) d i3 (medianAdjacent (ltC cm) d i2 (medianAdjacent (ltC cm) d i1 0).2).2).1<n/\(medianAdjacent (ltC cm) d i3 (medianAdjacent (ltC cm) d i2 (medianAdjacent (ltC cm) d i1 0).2).2).2<=(medianAdjacent (ltC cm) d i2 (medianAdjacent (ltC cm) d i1 0).2).2+3:=b3
     refine mdAS_c hf sq hqb hzz wq omg hn q1.1 q1.2 fun g1 s1 w1=>?_
     refine mdAS_c hf s1 hqb hzz w1 omg hn q2.1 q2.2 fun g2 s2 w2=>?_
     refine mdAS_c hf s2 hqb hzz w2 omg hn q3.1 q3.2 fun g3 s3 w3=>?_
     exact hk3 _ _ _ _ ⟨_,_,_,_,rfl,rfl,rfl,b1'.1,b2'.1,b3'.1,s3,w3,by omega,hcp.symm⟩
    ·rw[if_neg h50]at hcp
     simp(disch:=omega)
     exact hk3 _ _ _ _ ⟨_,_,_,_,rfl,rfl,rfl,by omega,by omega,by omega,sq,wq,by omega,hcp.symm⟩
   ·obtain⟨a1,a2,a3,sw,rfl,rfl,rfl,h1,h2,h3,s1,w1,hsw,he⟩:=hw
    have bb:=med_bd (cm:=cm) (d:=d) (w:=sw) h1 h2 h3
    refine medS_c hf s1 hqb hzz w1 omg hn h1 h2 h3 fun g2 s2 w2=>?_
    exact hkk _ _ ⟨_,_,rfl,s2,w2,by omega,he⟩
  ·rw[if_neg h8]at hcp
   simp(disch:=omega)
   exact hkk _ _ ⟨i2,0,rfl,sq,wq,by omega,hcp.symm⟩
 ·obtain⟨pv,sw,rfl,s1,w1,hsw,he⟩:=hw
  rw[<-he]at H
  have hc:hcell g ⟨h.size,0,none⟩=some (.int .i64 sw):=by unfold hcell;unfold Sw at w1;simp[w1]
  simp(disch:=omega)[hc]
  dsimp only at H
  by_cases z0:sw=0
  ·rw[if_pos z0]at H
   simp(disch:=omega)[z0]
   exact H _ s1
  ·rw[if_neg z0]at H
   simp(disch:=omega)
   by_cases z1:sw=12
   ·rw[if_pos z1]at H
    simp(disch:=omega)[z1]
    exact H _ s1
   ·rw[if_neg z1]at H
    simp(disch:=omega)
    exact H _ s1
set_option maxHeartbeats 1000000 in
theorem pivL_c{x y:Nat}(hf:LessOk Tryz.prog 157 val cm)(s:SA 2 b n c val h0 h d)(hn:n<100000)(hxy:x<y)(hy:y<=n)
 (H:∀h',SA 2 b n c val h0 h' d->K (.tuple #[.int .i64 (choosePivot (ltC cm) d x y).1,.int .i64 (hintV (choosePivot (ltC cm) d x y).2)]) h') :
 CallsH Tryz.prog 154 #[slV b n c,.int .i64 x,.int .i64 y] h K ⟨⟩:=by
 refine n154_calls ?_
 unfold n154;try delta vF vG vC vD vJ vV vk vt
 obtain⟨l,rfl⟩:∃l,y=x+l:=⟨y-x,by omega⟩
 have em:((x+l:Nat):Int)-(x:Int)=(l:Int):=by omega
 have hb:=s.lt
 have hzz:h0.size<=h.size:=s.mod.size
 have wq:Sw (h.push (.cells #[.int .i64 0] 3)) h.size 0:=get_pushed rfl
 have sq:=s.pushed (o:=.cells #[.int .i64 0] 3)
 simp(disch:=omega) only[em,Hp_sub_i64,ValI_iff]
 simp(disch:=omega)
 have e1:(x:Int)+(l:Int)/4=((x+l/4*1:Nat):Int):=by omega
 have e2:(x:Int)+(l:Int)/4*2=((x+l/4*2:Nat):Int):=by omega
 have e3:(x:Int)+(l:Int)/4*3=((x+l/4*3:Nat):Int):=by omega
 rw[e1,e2,e3]
 generalize hg:h.push (.cells #[.int .i64 0] 3)=g0 at wq sq ⊢
 have hcp:choosePivot (ltC cm) d x (x+l)=(fun r:Nat×Nat=>(r.1,if r.2=0 then Hint.increasing else if r.2=12 then Hint.decreasing else Hint.unknown)) (if l>=8 then (if l>=50 then
  median (ltC cm) d (medianAdjacent (ltC cm) d (x+l/4*1) 0).1 (medianAdjacent (ltC cm) d (x+l/4*2) (medianAdjacent (ltC cm) d (x+l/4*1) 0).2).1 (medianAdjacent (ltC cm) d (x+l/4*3) (medianAdjacent (ltC cm) d (x+l/4*2) (medianAdjacent (ltC cm) d (x+l/4*1) 0).2).2).1 (medianAdjacent (ltC cm) d (x+l/4*3) (medianAdjacent (ltC cm) d (x+l/4*2) (medianAdjacent (ltC cm) d (x+l/4*1) 0).2).2).2
  else median (ltC cm) d (x+l/4*1) (x+l/4*2) (x+l/4*3) 0) else (x+l/4*2,0)):=by
  unfold choosePivot
  rw[Nat.add_sub_cancel_left]
 generalize choosePivot (ltC cm) d x (x+l)=R at hcp H
 have hi1:8<=l->0<x+l/4*1/\x+l/4*1+1<n:=fun _=>by omega
 have hi2:8<=l->0<x+l/4*2/\x+l/4*2+1<n:=fun _=>by omega
 have hi3:8<=l->0<x+l/4*3/\x+l/4*3+1<n:=fun _=>by omega
 have hi2':x+l/4*2<n:=by omega
 generalize x+l/4*1=i1 at hcp hi1 ⊢
 generalize x+l/4*2=i2 at hcp hi2 hi2' ⊢
 generalize x+l/4*3=i3 at hcp hi3 ⊢
 have hqb:h.size≠b:=by omega
 refine JoinN_in1 (fun w g=>∃pv sw:Nat,w = .int .i64 pv/\SA 2 b n c val h0 g d/\Sw g h.size sw/\sw<1000/\(fun r:Nat×Nat=>(r.1,if r.2=0 then Hint.increasing else if r.2=12 then Hint.decreasing else Hint.unknown)) (pv,sw)=R) (fun kk hkk=>?_) (fun w g hw=>?_)
 ·by_cases h8:8<=l
  ·rw[if_pos h8]at hcp
   simp(disch:=omega)
   have q1:=hi1 h8
   have q2:=hi2 h8
   have q3:=hi3 h8
   refine JoinN_in3 (fun w1 w2 w3 g=>∃a1 a2 a3 sw:Nat,w1 = .int .i64 a1/\w2 = .int .i64 a2/\w3 = .int .i64 a3/\a1<n/\a2<n/\a3<n/\SA 2 b n c val h0 g d/\Sw g h.size sw/\sw<500/\(fun r:Nat×Nat=>(r.1,if r.2=0 then Hint.increasing else if r.2=12 then Hint.decreasing else Hint.unknown)) (median (ltC cm) d a1 a2 a3 sw)=R) (fun k3 hk3=>?_) (fun w1 w2 w3 g hw=>?_)
   ·by_cases h50:50<=l
    ·rw[if_pos h50]at hcp
     simp(disch:=omega)
     have b1:=med_bd (cm:=cm) (d:=d) (w:=0) (m:=n) (show i1-1<n by omega) (show i1<n by omega) (show i1+1<n by omega)
     have b2:=med_bd (cm:=cm) (d:=d) (w:=(medianAdjacent (ltC cm) d i1 0).2) (m:=n) (show i2-1<n by omega) (show i2<n by omega) (show i2+1<n by omega)
     have b3:=med_bd (cm:=cm) (d:=d) (w:=(medianAdjacent (ltC cm) d i2 (medianAdjacent (ltC cm) d i1 0).2).2) (m:=n) (show i3-1<n by omega) (show i3<n by omega) (show i3+1<n by omega)
     have b1':(medianAdjacent (ltC cm) d i1 0).1<n/\(medianAdjacent (ltC cm) d i1 0).2<=0+3:=b1
     have b2':(medianAdjacent (ltC cm) d i2 (medianAdjacent (ltC cm) d i1 0).2).1<n/\(medianAdjacent (ltC cm) d i2 (medianAdjacent (ltC cm) d i1 0).2).2<=(medianAdjacent (ltC cm) d i1 0).2+3:=b2
     have b3':(medianAdjacent (ltC cm) d i3 (medianAdjacent (ltC cm) d i2 (medianAdjacent (ltC cm) d i1 0).2).2).1<n/\(medianAdjacent (ltC cm) d i3 (medianAdjacent (ltC cm) d i2 (medianAdjacent (ltC cm) d i1 0).2).2).2<=(medianAdjacent (ltC cm) d i2 (medianAdjacent (ltC cm) d i1 0).2).2+3:=b3
     refine mdAL_c hf sq hqb hzz wq omg hn q1.1 q1.2 fun g1 s1 w1=>?_
     refine mdAL_c hf s1 hqb hzz w1 omg hn q2.1 q2.2 fun g2 s2 w2=>?_
     refine mdAL_c hf s2 hqb hzz w2 omg hn q3.1 q3.2 fun g3 s3 w3=>?_
     exact hk3 _ _ _ _ ⟨_,_,_,_,rfl,rfl,rfl,b1'.1,b2'.1,b3'.1,s3,w3,by omega,hcp.symm⟩
    ·rw[if_neg h50]at hcp
     simp(disch:=omega)
     exact hk3 _ _ _ _ ⟨_,_,_,_,rfl,rfl,rfl,by omega,by omega,by omega,sq,wq,by omega,hcp.symm⟩
   ·obtain⟨a1,a2,a3,sw,rfl,rfl,rfl,h1,h2,h3,s1,w1,hsw,he⟩:=hw
    have bb:=med_bd (cm:=cm) (d:=d) (w:=sw) h1 h2 h3
    refine medL_c hf s1 hqb hzz w1 omg hn h1 h2 h3 fun g2 s2 w2=>?_
    exact hkk _ _ ⟨_,_,rfl,s2,w2,by omega,he⟩
  ·rw[if_neg h8]at hcp
   simp(disch:=omega)
   exact hkk _ _ ⟨i2,0,rfl,sq,wq,by omega,hcp.symm⟩
 ·obtain⟨pv,sw,rfl,s1,w1,hsw,he⟩:=hw
  rw[<-he]at H
  have hc:hcell g ⟨h.size,0,none⟩=some (.int .i64 sw):=by unfold hcell;unfold Sw at w1;simp[w1]
  simp(disch:=omega)[hc]
  dsimp only at H
  by_cases z0:sw=0
  ·rw[if_pos z0]at H
   simp(disch:=omega)[z0]
   exact H _ s1
  ·rw[if_neg z0]at H
   simp(disch:=omega)
   by_cases z1:sw=12
   ·rw[if_pos z1]at H
    simp(disch:=omega)[z1]
    exact H _ s1
   ·rw[if_neg z1]at H
    simp(disch:=omega)
    exact H _ s1
end
end
end Go.Proofs.YtdccfkffabngjaaGreat
namespace Go.Vc
open Go Go.Sort
set_option linter.unusedSimpArgs false
set_option linter.unusedVariables false
section
variable {P:Program}{q:Bool}{K:VP}{h:Heap}
theorem u64_lt(r:UInt64):r.toNat<18446744073709551616:=r.toNat_lt
def w64(r:UInt64):Value:=.int .u64 (r.toNat:Int)
theorem w64_one(r:UInt64):one (w64 r)=true:=rfl
theorem Hp_shl13{t:TypeId}{x y:Operand}{k':IntKind}{r:UInt64}:Hp P q (binS .shl t x y (w64 r) (.int k' 13)) K h ⟨⟩↔K (w64 (r <<< 13)) h:=by
 unfold w64
 rw[Hp_shl_u64 omg omg,ValI_iff]
 have:IntKind.u64.wrap ((r.toNat:Int)*2^(13:Int).toNat)=((r <<< 13).toNat:Int):=by
  have h1:(r <<< 13).toNat=r.toNat*8192%18446744073709551616:=by
   rw[UInt64.toNat_shiftLeft,Nat.shiftLeft_eq];rfl
  rw[h1]
  unfold IntKind.wrap
  simp[IntKind.signed,IntKind.bits]
 rw[this]
theorem Hp_shl17{t:TypeId}{x y:Operand}{k':IntKind}{r:UInt64}:Hp P q (binS .shl t x y (w64 r) (.int k' 17)) K h ⟨⟩↔K (w64 (r <<< 17)) h:=by
 unfold w64
 rw[Hp_shl_u64 omg omg,ValI_iff]
 have:IntKind.u64.wrap ((r.toNat:Int)*2^(17:Int).toNat)=((r <<< 17).toNat:Int):=by
  have h1:(r <<< 17).toNat=r.toNat*131072%18446744073709551616:=by
   rw[UInt64.toNat_shiftLeft,Nat.shiftLeft_eq];rfl
  rw[h1]
  unfold IntKind.wrap
  simp[IntKind.signed,IntKind.bits]
 rw[this]
theorem Hp_shr7{t:TypeId}{x y:Operand}{k':IntKind}{r:UInt64}:Hp P q (binS .shr t x y (w64 r) (.int k' 7)) K h ⟨⟩↔K (w64 (r >>> 7)) h:=by
 unfold w64
 rw[Hp_shr_u64 omg omg,ValI_iff]
 have:((r.toNat:Int)/(2:Int)^(7:Int).toNat)=((r >>> 7).toNat:Int):=by
  have h1:(r >>> 7).toNat=r.toNat/128:=by
   rw[UInt64.toNat_shiftRight,Nat.shiftRight_eq_div_pow];rfl
  rw[h1]
  simp
 rw[this]
theorem Hp_xorU{t:TypeId}{x y:Operand}{r s:UInt64}:Hp P q (binS .xor t x y (w64 r) (w64 s)) K h ⟨⟩↔K (w64 (r ^^^ s)) h:=by
 unfold w64
 rw[Hp_xor,ValI_iff]
 have:IntKind.u64.wrap ((BitVec.ofInt IntKind.u64.bits (r.toNat:Int) ^^^ BitVec.ofInt IntKind.u64.bits (s.toNat:Int)).toNat:Int)=((r ^^^ s).toNat:Int):=by
  have h0:=u64_lt (r ^^^ s)
  rw[UInt64.toNat_xor]at h0 ⊢
  show IntKind.u64.wrap (((BitVec.ofNat 64 r.toNat ^^^ BitVec.ofNat 64 s.toNat:BitVec 64).toNat:Nat):Int)=_
  rw[BitVec.toNat_xor,BitVec.toNat_ofNat,BitVec.toNat_ofNat,Nat.mod_eq_of_lt (u64_lt r),Nat.mod_eq_of_lt (u64_lt s)]
  unfold IntKind.wrap
  simp[IntKind.signed,IntKind.bits]
  omega
 rw[this]
theorem bitsLen_half{n:Nat}(hn:0<n):bitsLen n=bitsLen (n/2)+1:=by
 unfold bitsLen
 rw[if_neg omg]
 by_cases h2:n<2
 ·have:n=1:=by omega
  subst this;rfl
 ·rw[if_neg omg,Nat.log2_def n,if_pos omg]
theorem bitsLen_256{n:Nat}(hn:256<=n):bitsLen n=bitsLen (n/256)+8:=by
 rw[bitsLen_half (n:=n) omg,bitsLen_half (n:=n/2) omg,bitsLen_half (n:=n/2/2) omg,bitsLen_half (n:=n/2/2/2) omg,bitsLen_half (n:=n/2/2/2/2) omg,
  bitsLen_half (n:=n/2/2/2/2/2) omg,bitsLen_half (n:=n/2/2/2/2/2/2) omg,bitsLen_half (n:=n/2/2/2/2/2/2/2) omg]
 rw[show n/2/2/2/2/2/2/2/2=n/256 by omega]
theorem bitsLen_65536{n:Nat}(hn:65536<=n):bitsLen n=bitsLen (n/65536)+16:=by
 rw[bitsLen_256 omg,bitsLen_256 (n:=n/256) omg,Nat.div_div_eq_div_mul]
theorem bitsLen_pow{n:Nat}(hn:0<n):2^bitsLen n<=2*n/\n<2^bitsLen n:=by
 unfold bitsLen
 rw[if_neg omg,Nat.pow_succ]
 have h1:=Nat.log2_self_le (n:=n) omg
 have h2:=Nat.lt_log2_self (n:=n)
 rw[Nat.pow_succ]at h2
 omega
theorem bitsLen_le{n:Nat}(hn:n<16777216):bitsLen n<=24:=by
 rcases Nat.eq_zero_or_pos n with h|h
 ·subst h;decide
 ·have:=(bitsLen_pow h).1
  refine Nat.le_of_not_lt fun hlt=>?_
  have h3:2^25<=2^bitsLen n:=Nat.pow_le_pow_right omg hlt
  have:(2:Nat)^25=33554432:=by decide
  omega
end
end Go.Vc
namespace Go.Proofs.YtdccfkffabngjaaGreat
open Go.Vc
section
open Go.Vc Go.Sort
section
variable {α:Type}[Inhabited α]{K:VP}{h0 h:Heap}{b n c:Nat}{val:α->Value}{d:Array α}{f:Value}{cm:α->α->Int}
def bitTab:List UInt8:=[0,1,2,2,3,3,3,3,4,4,4,4,4,4,4,4,5,5,5,5,5,5,5,5,5,5,5,5,5,5,5,5,6,6,6,6,6,6,6,6,6,6,6,6,6,6,6,6,6,6,6,6,6,6,6,6,6,6,6,6,6,6,6,6,7,7,7,7,7,7,7,7,7,7,7,7,7,7,7,7,7,7,7,7,7,7,7,7,7,7,7,7,7,7,7,7,7,7,7,7,7,7,7,7,7,7,7,7,7,7,7,7,7,7,7,7,7,7,7,7,7,7,7,7,7,7,7,7,8,8,8,8,8,8,8,8,8,8,8,8,8,8,8,8,8,8,8,8,8,8,8,8,8,8,8,8,8,8,8,8,8,8,8,8,8,8,8,8,8,8,8,8,8,8,8,8,8,8,8,8,8,8,8,8,8,8,8,8,8,8,8,8,8,8,8,8,8,8,8,8,8,8,8,8,8,8,8,8,8,8,8,8,8,8,8,8,8,8,8,8,8,8,8,8,8,8,8,8,8,8,8,8,8,8,8,8,8,8,8,8,8,8,8,8,8,8,8,8,8,8,8,8,8,8,8,8]
theorem bitTab_ok:(List.range 256).all (fun v=>decide (bitTab[v]? = some (UInt8.ofNat (bitsLen v))))=true:=by kernel_rfl
theorem bitTab_get{v:Nat}(hv:v<256):bitTab[v]? = some (UInt8.ofNat (bitsLen v)):=by
 have:=List.all_eq_true.1 bitTab_ok v (by simpa using hv)
 simpa using this
theorem bitsLen_small{v:Nat}(hv:v<256):bitsLen v<9:=by
 rcases Nat.eq_zero_or_pos v with h|h
 ·subst h;decide
 ·have:=(bitsLen_pow h).1
  refine Nat.lt_of_not_le fun hlt=>?_
  have h3:2^9<=2^bitsLen v:=Nat.pow_le_pow_right omg hlt
  have:(2:Nat)^9=512:=by decide
  omega
set_option maxRecDepth 20000 in
set_option maxHeartbeats 1000000 in
theorem len64_c{n:Nat}(hn:n<16777216)(H:K (.int .i64 (bitsLen n)) h):CallsH Tryz.prog 161 #[.int .u64 n] h K ⟨⟩:=by
 refine n161_calls ?_
 unfold n161;try delta vF vG vC vD vJ vV vk vt
 rw[show ([0,1,2,2,3,3,3,3,4,4,4,4,4,4,4,4,5,5,5,5,5,5,5,5,5,5,5,5,5,5,5,5,6,6,6,6,6,6,6,6,6,6,6,6,6,6,6,6,6,6,6,6,6,6,6,6,6,6,6,6,6,6,6,6,7,7,7,7,7,7,7,7,7,7,7,7,7,7,7,7,7,7,7,7,7,7,7,7,7,7,7,7,7,7,7,7,7,7,7,7,7,7,7,7,7,7,7,7,7,7,7,7,7,7,7,7,7,7,7,7,7,7,7,7,7,7,7,7,8,8,8,8,8,8,8,8,8,8,8,8,8,8,8,8,8,8,8,8,8,8,8,8,8,8,8,8,8,8,8,8,8,8,8,8,8,8,8,8,8,8,8,8,8,8,8,8,8,8,8,8,8,8,8,8,8,8,8,8,8,8,8,8,8,8,8,8,8,8,8,8,8,8,8,8,8,8,8,8,8,8,8,8,8,8,8,8,8,8,8,8,8,8,8,8,8,8,8,8,8,8,8,8,8,8,8,8,8,8,8,8,8,8,8,8,8,8,8,8,8,8,8,8,8,8,8,8]:List UInt8)=bitTab from rfl]
 generalize hT:bitTab=BT
 have fin:∀{z:Int},z=(bitsLen n:Int)->K (.int .i64 z) h:=fun e=>by rw[e];exact H
 by_cases h1:n<65536
 ·refine JoinN.mk ?_
  simp(disch:=omega)
  refine JoinN.mk ?_
  simp(disch:=omega)
  by_cases h2:n<256
  ·have hx:=bitTab_get h2
   have hb:=bitsLen_small h2
   rw[hT]at hx
   refine JoinN.mk ?_
   simp(disch:=omega)
   have e:((n:Int)%256).toNat=n:=by omega
   refine (Hp_indexStr (l:=BT) (b:=UInt8.ofNat (bitsLen n)) kR omg (by first|exact hx|(rw[e];exact hx))).2 ?_
   simp(disch:=omega)
   exact fin omg
  ·have hx:=bitTab_get (show n/256<256 by omega)
   have hb:=bitsLen_small (show n/256<256 by omega)
   have hl:=bitsLen_256 (show 256<=n by omega)
   rw[hT]at hx
   refine JoinN.mk ?_
   simp(disch:=omega)[Hp_shr_u64]
   have e:((n:Int)/256%256).toNat=n/256:=by omega
   refine (Hp_indexStr (l:=BT) (b:=UInt8.ofNat (bitsLen (n/256))) kR omg (by first|exact hx|(rw[e];exact hx))).2 ?_
   simp(disch:=omega)
   exact fin omg
 ·refine JoinN.mk ?_
  simp(disch:=omega)
  refine JoinN.mk ?_
  simp(disch:=omega)[Hp_shr_u64]
  have hx:=bitTab_get (show n/65536<256 by omega)
  have hb:=bitsLen_small (show n/65536<256 by omega)
  have hl:=bitsLen_65536 (show 65536<=n by omega)
  rw[hT]at hx
  refine JoinN.mk ?_
  simp(disch:=omega)
  have e:((n:Int)/65536%256).toNat=n/65536:=by omega
  refine (Hp_indexStr (l:=BT) (b:=UInt8.ofNat (bitsLen (n/65536))) kR omg (by first|exact hx|(rw[e];exact hx))).2 ?_
  simp(disch:=omega)
  exact fin omg
theorem len_c{n:Nat}(hn:n<16777216)(H:K (.int .i64 (bitsLen n)) h):CallsH Tryz.prog 134 #[.int .u64 n] h K ⟨⟩:=by
 refine n134_calls ?_
 unfold n134;try delta vF vG vC vD vJ vV vk vt
 simp(disch:=omega)
 exact len64_c hn H
theorem npow_c{n:Nat}(hn:n<16777216)(H:K (.int .u64 (2^bitsLen n:Nat)) h):CallsH Tryz.prog 174 #[.int .i64 n] h K ⟨⟩:=by
 refine n174_calls ?_
 unfold n174;try delta vF vG vC vD vJ vV vk vt
 have hb:=bitsLen_le hn
 have hpw:2^bitsLen n<=2^24:=Nat.pow_le_pow_right omg hb
 have h24:(2:Nat)^24=16777216:=by decide
 simp(disch:=omega)
 refine len_c hn ?_
 rw[Hp_shl_u64 omg omg,ValI_iff]
 have e:IntKind.u64.wrap (1*2^(bitsLen n:Int).toNat)=((2^bitsLen n:Nat):Int):=by
  have:(1:Int)*2^(bitsLen n:Int).toNat=((2^bitsLen n:Nat):Int):=by simp
  rw[this]
  generalize (2:Nat)^bitsLen n=M at hpw
  exact wrap_u64 omg omg
 rw[e]
 exact H
def Rw64(h:Heap)(q:Nat)(r:UInt64):Prop:=h[q]? = some (.cells #[w64 r] 253)
theorem cell64{g:Heap}{q:Nat}{r:UInt64}(hr:g[q]? = some (.cells #[w64 r] 253)):hcell g ⟨q,0,none⟩=some (w64 r):=by
 unfold hcell;simp[hr]
theorem frz64{g:Heap}{q:Nat}{r:UInt64}(hr:g[q]? = some (.cells #[w64 r] 253)):hfrozen g ⟨q,0,none⟩=false:=by
 unfold hfrozen;simp[hr]
theorem set64{g:Heap}{q:Nat}{r:UInt64}(hr:g[q]? = some (.cells #[w64 r] 253))(r':UInt64):(hset g ⟨q,0,none⟩ (w64 r'))[q]? = some (.cells #[w64 r'] 253):=by
 rw[hset_of_block hr,get_put (get_some_lt hr)]
 simp
theorem next_c{q:Nat}{r:UInt64}(hr:Rw64 h q r)(H:∀h',Rw64 h' q (xorNext r)->Mod (· = q) h h'->K (w64 (xorNext r)) h'):CallsH Tryz.prog 175 #[.pointer (some ⟨q,0,none⟩)] h K ⟨⟩:=by
 refine n175_calls ?_
 unfold n175;try delta vF vG vC vD vJ vV vk vt
 have st:=fun a r K h=>Hp_store (P:=Tryz.prog) (t:=253) (a:=a) (v:=w64 r) (K:=K) (h:=h) kR (w64_one r)
 have c0:hcell h ⟨q,0,none⟩=some (w64 r):=cell64 hr
 have f0:hfrozen h ⟨q,0,none⟩=false:=frz64 hr
 obtain⟨r1,e1⟩:∃r1,r1=r ^^^ (r <<< 13):=⟨_,rfl⟩
 obtain⟨r2,e2⟩:∃r2,r2=r1 ^^^ (r1 >>> 7):=⟨_,rfl⟩
 obtain⟨r3,e3⟩:∃r3,r3=r2 ^^^ (r2 <<< 17):=⟨_,rfl⟩
 have en:xorNext r=r3:=by rw[e3,e2,e1];rfl
 rw[en]at H
 have w1:=set64 hr r1
 have w2:=set64 w1 r2
 have w3:=set64 w2 r3
 simp(disch:=omega)[c0,f0,Hp_shl13,Hp_xorU,<-e1,st]
 have c1:=cell64 w1
 have f1:=frz64 w1
 have m1:Mod (· = q) h (hset h ⟨q,0,none⟩ (w64 r1)):=Mod.set h ⟨q,0,none⟩ _
 generalize hset h ⟨q,0,none⟩ (w64 r1)=g1 at w1 w2 w3 c1 f1 m1 ⊢
 simp(disch:=omega)[c1,f1,Hp_shr7,Hp_xorU,<-e2,st]
 have c2:=cell64 w2
 have f2:=frz64 w2
 have m2:Mod (· = q) g1 (hset g1 ⟨q,0,none⟩ (w64 r2)):=Mod.set g1 ⟨q,0,none⟩ _
 generalize hset g1 ⟨q,0,none⟩ (w64 r2)=g2 at w2 w3 c2 f2 m2 ⊢
 simp(disch:=omega)[c2,f2,Hp_shl17,Hp_xorU,<-e3,st]
 have c3:=cell64 w3
 have m3:Mod (· = q) g2 (hset g2 ⟨q,0,none⟩ (w64 r3)):=Mod.set g2 ⟨q,0,none⟩ _
 generalize hset g2 ⟨q,0,none⟩ (w64 r3)=g3 at w3 c3 m3 ⊢
 try simp(disch:=omega)[c3]
 exact H _ w3 ((m1.trans m2 (fun _ _ e=>e)).trans m3 (fun _ _ e=>e))
end
end
section
open Go.Vc Go.Sort
section
variable {α:Type}[Inhabited α]{K:VP}{h0 h:Heap}{b n c:Nat}{val:α->Value}{d:Array α}{f:Value}{cm:α->α->Int}
def brk(a l m:Nat):Nat->Nat->UInt64×Array α->UInt64×Array α
 | 0,_,st=>st
 | k+1,i,st=>brk a l m k (i+1) (breakStep a l m st i)
theorem brk_eq{x l:Nat}(h8:8<=l):breakPatterns d x (x+l)=(brk x l (2^bitsLen l) 3 (x+l/4*2-1) (UInt64.ofNat l,d)).2:=by
 unfold breakPatterns
 rw[Nat.add_sub_cancel_left]
 dsimp only
 rw[if_pos h8,show 1 <<< bitsLen l=2^bitsLen l by rw[Nat.shiftLeft_eq];omega]
 rfl
set_option maxHeartbeats 2000000 in
theorem brkS_c{x y:Nat}(hone:∀x,one (val x)=true)(s:SA 9 b n c val h0 h d)(hn:n<100000)(hxy:x<y)(hy:y<=n)(H:∀h',SA 9 b n c val h0 h' (breakPatterns d x y)->K (.tuple #[]) h') :
 CallsH Tryz.prog 181 #[slV b n c,.int .i64 x,.int .i64 y] h K ⟨⟩:=by
 refine n181_calls ?_
 unfold n181;try delta vF vG vC vD vJ vV vk vt
 have st:=fun a x K h=>Hp_store (P:=Tryz.prog) (t:=9) (a:=a) (v:=val x) (K:=K) (h:=h) kR (hone x)
 obtain⟨l,rfl⟩:∃l,y=x+l:=⟨y-x,by omega⟩
 have em:((x+l:Nat):Int)-(x:Int)=(l:Int):=by omega
 simp(disch:=omega) only[em,Hp_sub_i64,ValI_iff]
 by_cases h8:8<=l
 ·rw[brk_eq h8]at H
  have hb:=s.lt
  have hzz:h0.size<=h.size:=s.mod.size
  have hqb:h.size≠b:=by omega
  simp(disch:=omega)
  refine (fun key=>key _ ?_ ?_:(∀g0,SA 9 b n c val h0 g0 d->Rw64 g0 h.size (UInt64.ofNat l)->CallsH Tryz.prog 174 _ g0 _ ⟨⟩)->_) (fun g0 s0 r0=>?_)
  ·exact s.pushed.side hqb hzz
  ·unfold Rw64
   have h1:(h.push (.cells #[.int .u64 0] 253))[h.size]? = some (.cells #[.int .u64 0] 253):=get_pushed rfl
   rw[hset_of_block h1,get_put (get_some_lt h1)]
   have:(UInt64.ofNat l).toNat=l:=by rw[UInt64.toNat_ofNat'];omega
   simp[w64,this]
  refine npow_c omg ?_
  have hM:=bitsLen_pow (show 0<l by omega)
  generalize (2:Nat)^bitsLen l=M at hM H ⊢
  obtain⟨i0,hi0⟩:∃i0,i0=x+l/4*2-1:=⟨_,rfl⟩
  rw[<-hi0]at H
  simp(disch:=omega)
  have ei:(x:Int)+(l:Int)/4*2-1=(i0:Int):=by omega
  rw[ei]
  refine loopX1 (α:=Nat×UInt64×Array α) (fun a=>.int .i64 a.1) (fun a g=>SA 9 b n c val h0 g a.2.2/\Rw64 g h.size a.2.1/\i0<=a.1/\a.1<=i0+3/\brk x l M (i0+3-a.1) a.1 a.2=brk x l M 3 i0 (UInt64.ofNat l,d)) (fun a=>i0+3-a.1) (i0,UInt64.ofNat l,d) rfl ⟨s0,r0,Nat.le_refl _,by dsimp only;omega,by dsimp only;rw[Nat.add_sub_cancel_left]⟩ ?_
  rintro⟨i,r,d1⟩ g ⟨s1,r1,hi,hi3,ht⟩ X hX
  dsimp only at s1 r1 hi hi3 ht hX ⊢
  by_cases hlt:i<i0+3
  ·obtain⟨k,hk⟩:∃k,i0+3-i=k+1:=⟨i0+2-i,by omega⟩
   rw[hk,brk]at ht
   simp(disch:=omega)
   refine next_c r1 fun g2 r2 m2=>?_
   have s2:SA 9 b n c val h0 g2 d1:=⟨s1.own.mod m2 (fun b' hb' e=>hqb (by cases hb';exact e.symm)),s1.mod.trans m2 (fun z hz e=>absurd (show z=h.size from e) omg)⟩
   simp(disch:=omega)
   have hrl:=u64_lt (xorNext r)
   rw[show w64 (xorNext r) = .int .u64 ((xorNext r).toNat:Int) from rfl,Hp_and_u64 omg omg omg omg]
   have e2:(((xorNext r).toNat:Int).toNat &&& ((M:Int)-1).toNat:Nat)=(xorNext r).toNat &&& (M-1):=by
    rw[Int.toNat_natCast,show ((M:Int)-1).toNat=M-1 by omega]
   rw[e2]
   have ho:(xorNext r).toNat &&& (M-1)<=M-1:=Nat.and_le_right
   unfold breakStep at ht
   dsimp only at ht
   generalize (xorNext r).toNat &&& (M-1)=o at ho ht ⊢
   simp(disch:=omega)
   obtain⟨oth,hoth⟩:∃oth,oth=if o>=l then o-l else o:=⟨_,rfl⟩
   rw[<-hoth]at ht
   have hol:oth<l:=by rw[hoth];split<;>omega
   refine JoinN_in1 (fun w g'=>g'=g2/\w = .int .i64 oth) (fun kk hkk=>?_) (fun w g' hw=>?_)
   ·by_cases hge:o>=l
    ·rw[if_pos hge]at hoth
     simp(disch:=omega)
     exact hkk _ _ ⟨rfl,by congr 1;omega⟩
    ·rw[if_neg hge]at hoth
     simp(disch:=omega)
     exact hkk _ _ ⟨rfl,by rw[hoth]⟩
   ·obtain⟨rfl,rfl⟩:=hw
    have wi:=s2.get (i:=i) omg
    have wj:=s2.get (i:=x+oth) omg
    obtain⟨⟨wu,wwu⟩,wwf⟩:=s2.get2 (i:=i) (j:=x+oth) omg omg (val d1[x+oth]!)
    unfold slV
    simp(disch:=omega)[wi.1,wi.2,wj.1,wj.2,wwu,wwf,st]
    have s3:=s2.swap (i:=i) (j:=x+oth) omg omg
    refine hX (i+1,xorNext r,_) _ _ sM ⟨s3,?_,by dsimp only;omega,by dsimp only;omega,by dsimp only;rw[show i0+3-(i+1)=k by omega];exact ht⟩ (by dsimp only;omega)
    have m3:Mod (· = b) g' (hset (hset g' (elt ⟨b,0,none⟩ i) (val d1[x+oth]!)) (elt ⟨b,0,none⟩ (x+oth)) (val d1[i]!)):=Mod.setIn (Mod.setIn (Mod.refl _ _) (.inl sM)) (.inl sM)
    exact (m3.block _ (get_some_lt r2) hqb).trans r2
  ·have:i0+3-i=0:=by omega
   rw[this,brk]at ht
   rw[<-ht]at H
   simp(disch:=omega)
   exact H _ s1
 ·have hbp:breakPatterns d x (x+l)=d:=by
   unfold breakPatterns
   rw[Nat.add_sub_cancel_left]
   exact if_neg h8
  rw[hbp]at H
  simp(disch:=omega)
  exact H _ s
set_option maxHeartbeats 2000000 in
theorem brkL_c{x y:Nat}(hone:∀x,one (val x)=true)(s:SA 2 b n c val h0 h d)(hn:n<100000)(hxy:x<y)(hy:y<=n)(H:∀h',SA 2 b n c val h0 h' (breakPatterns d x y)->K (.tuple #[]) h') :
 CallsH Tryz.prog 153 #[slV b n c,.int .i64 x,.int .i64 y] h K ⟨⟩:=by
 refine n153_calls ?_
 unfold n153;try delta vF vG vC vD vJ vV vk vt
 have st:=fun a x K h=>Hp_store (P:=Tryz.prog) (t:=2) (a:=a) (v:=val x) (K:=K) (h:=h) kR (hone x)
 obtain⟨l,rfl⟩:∃l,y=x+l:=⟨y-x,by omega⟩
 have em:((x+l:Nat):Int)-(x:Int)=(l:Int):=by omega
 simp(disch:=omega) only[em,Hp_sub_i64,ValI_iff]
 by_cases h8:8<=l
 ·rw[brk_eq h8]at H
  have hb:=s.lt
  have hzz:h0.size<=h.size:=s.mod.size
  have hqb:h.size≠b:=by omega
  simp(disch:=omega)
  refine (fun key=>key _ ?_ ?_:(∀g0,SA 2 b n c val h0 g0 d->Rw64 g0 h.size (UInt64.ofNat l)->CallsH Tryz.prog 174 _ g0 _ ⟨⟩)->_) (fun g0 s0 r0=>?_)
  ·exact s.pushed.side hqb hzz
  ·unfold Rw64
   have h1:(h.push (.cells #[.int .u64 0] 253))[h.size]? = some (.cells #[.int .u64 0] 253):=get_pushed rfl
   rw[hset_of_block h1,get_put (get_some_lt h1)]
   have:(UInt64.ofNat l).toNat=l:=by rw[UInt64.toNat_ofNat'];omega
   simp[w64,this]
  refine npow_c omg ?_
  have hM:=bitsLen_pow (show 0<l by omega)
  generalize (2:Nat)^bitsLen l=M at hM H ⊢
  obtain⟨i0,hi0⟩:∃i0,i0=x+l/4*2-1:=⟨_,rfl⟩
  rw[<-hi0]at H
  simp(disch:=omega)
  have ei:(x:Int)+(l:Int)/4*2-1=(i0:Int):=by omega
  rw[ei]
  refine loopX1 (α:=Nat×UInt64×Array α) (fun a=>.int .i64 a.1) (fun a g=>SA 2 b n c val h0 g a.2.2/\Rw64 g h.size a.2.1/\i0<=a.1/\a.1<=i0+3/\brk x l M (i0+3-a.1) a.1 a.2=brk x l M 3 i0 (UInt64.ofNat l,d)) (fun a=>i0+3-a.1) (i0,UInt64.ofNat l,d) rfl ⟨s0,r0,Nat.le_refl _,by dsimp only;omega,by dsimp only;rw[Nat.add_sub_cancel_left]⟩ ?_
  rintro⟨i,r,d1⟩ g ⟨s1,r1,hi,hi3,ht⟩ X hX
  dsimp only at s1 r1 hi hi3 ht hX ⊢
  by_cases hlt:i<i0+3
  ·obtain⟨k,hk⟩:∃k,i0+3-i=k+1:=⟨i0+2-i,by omega⟩
   rw[hk,brk]at ht
   simp(disch:=omega)
   refine next_c r1 fun g2 r2 m2=>?_
   have s2:SA 2 b n c val h0 g2 d1:=⟨s1.own.mod m2 (fun b' hb' e=>hqb (by cases hb';exact e.symm)),s1.mod.trans m2 (fun z hz e=>absurd (show z=h.size from e) omg)⟩
   simp(disch:=omega)
   have hrl:=u64_lt (xorNext r)
   rw[show w64 (xorNext r) = .int .u64 ((xorNext r).toNat:Int) from rfl,Hp_and_u64 omg omg omg omg]
   have e2:(((xorNext r).toNat:Int).toNat &&& ((M:Int)-1).toNat:Nat)=(xorNext r).toNat &&& (M-1):=by
    rw[Int.toNat_natCast,show ((M:Int)-1).toNat=M-1 by omega]
   rw[e2]
   have ho:(xorNext r).toNat &&& (M-1)<=M-1:=Nat.and_le_right
   unfold breakStep at ht
   dsimp only at ht
   generalize (xorNext r).toNat &&& (M-1)=o at ho ht ⊢
   simp(disch:=omega)
   obtain⟨oth,hoth⟩:∃oth,oth=if o>=l then o-l else o:=⟨_,rfl⟩
   rw[<-hoth]at ht
   have hol:oth<l:=by rw[hoth];split<;>omega
   refine JoinN_in1 (fun w g'=>g'=g2/\w = .int .i64 oth) (fun kk hkk=>?_) (fun w g' hw=>?_)
   ·by_cases hge:o>=l
    ·rw[if_pos hge]at hoth
     simp(disch:=omega)
     exact hkk _ _ ⟨rfl,by congr 1;omega⟩
    ·rw[if_neg hge]at hoth
     simp(disch:=omega)
     exact hkk _ _ ⟨rfl,by rw[hoth]⟩
   ·obtain⟨rfl,rfl⟩:=hw
    have wi:=s2.get (i:=i) omg
    have wj:=s2.get (i:=x+oth) omg
    obtain⟨⟨wu,wwu⟩,wwf⟩:=s2.get2 (i:=i) (j:=x+oth) omg omg (val d1[x+oth]!)
    unfold slV
    simp(disch:=omega)[wi.1,wi.2,wj.1,wj.2,wwu,wwf,st]
    have s3:=s2.swap (i:=i) (j:=x+oth) omg omg
    refine hX (i+1,xorNext r,_) _ _ sM ⟨s3,?_,by dsimp only;omega,by dsimp only;omega,by dsimp only;rw[show i0+3-(i+1)=k by omega];exact ht⟩ (by dsimp only;omega)
    have m3:Mod (· = b) g' (hset (hset g' (elt ⟨b,0,none⟩ i) (val d1[x+oth]!)) (elt ⟨b,0,none⟩ (x+oth)) (val d1[i]!)):=Mod.setIn (Mod.setIn (Mod.refl _ _) (.inl sM)) (.inl sM)
    exact (m3.block _ (get_some_lt r2) hqb).trans r2
  ·have:i0+3-i=0:=by omega
   rw[this,brk]at ht
   rw[<-ht]at H
   simp(disch:=omega)
   exact H _ s1
 ·have hbp:breakPatterns d x (x+l)=d:=by
   unfold breakPatterns
   rw[Nat.add_sub_cancel_left]
   exact if_neg h8
  rw[hbp]at H
  simp(disch:=omega)
  exact H _ s
end
end
section
open Go.Vc Go.Sort
section
variable {α:Type}[Inhabited α]{K:VP}{h0 h:Heap}{b n c:Nat}{val:α->Value}{d:Array α}{f:Value}{cm:α->α->Int}
def pdqR(lt:α->α->Bool)(a b l1 pivot:Nat)(wb wp:Bool)(d3:Array α):Array α :=
 if a>0 && !lt d3[a-1]! d3[pivot]! then
  match partitionEqual lt d3 a b pivot with
  | (mid,d4)=>if _h:a<mid/\mid<=b then pdq lt d4 mid b l1 wb wp else d4
 else
  match partition lt d3 a b pivot with
  | (mid,alreadyPartitioned,d4) =>
   if _h:a<=mid/\mid<b then
    if mid-a<b-mid then
     pdq lt (pdq lt d4 a mid l1 true true) (mid+1) b l1 (decide (mid-a>=(b-a)/8)) alreadyPartitioned
    else
     pdq lt (pdq lt d4 (mid+1) b l1 true true) a mid l1 (decide (b-mid>=(b-a)/8)) alreadyPartitioned
   else d4
theorem pdq_step{lt:α->α->Bool}{d d1 d2:Array α}{a b limit l1 pivot:Nat}{wb wp:Bool}{cc:Nat×Hint}{hint:Hint}(h12:¬b-a<=12)(hl:¬limit=0)(e1:d1=if !wb then breakPatterns d a b else d)(e2:l1=if !wb then limit-1 else limit)
 (ec:cc=choosePivot lt d1 a b) (e3:d2=if cc.2 = .decreasing then reverseRange d1 a b else d1) (e4:pivot=if cc.2 = .decreasing then (b-1)-(cc.1-a) else cc.1) (e5:hint=if cc.2 = .decreasing then Hint.increasing else cc.2) :
 pdq lt d a b limit wb wp=(if (if wb&&wp&&decide (hint = .increasing) then partialInsertionSort lt d2 a b else (d2,false)).2=true then (if wb&&wp&&decide (hint = .increasing) then partialInsertionSort lt d2 a b else (d2,false)).1 else pdqR lt a b l1 pivot wb wp (if wb&&wp&&decide (hint = .increasing) then partialInsertionSort lt d2 a b else (d2,false)).1):=by
 rw[pdq,if_neg h12,if_neg hl]
 subst e1 e2 ec e3 e4 e5
 rfl
set_option maxHeartbeats 4000000 in
theorem pdqS_c(hf:LessOk Tryz.prog 185 val cm)(hone:∀x,one (val x)=true)(hn:n<100000):∀(N:Nat) {K:VP} {h:Heap} {d:Array α} {x y lim:Nat},y-x<=N->SA 9 b n c val h0 h d->x<=y->y<=n->lim<100000->(∀h',SA 9 b n c val h0 h' (pdq (ltC cm) d x y lim true true)->K (.tuple #[]) h') ->
 CallsH Tryz.prog 163 #[slV b n c,.int .i64 x,.int .i64 y,.int .i64 lim] h K ⟨⟩:=by
 intro N
 induction N using Nat.strongRecOn with
 | _ N ih =>
 intro K h d x y lim hN s hxy hy hlim H
 refine n163_calls ?_
 unfold n163;try delta vF vG vC vD vJ vV vk vt
 refine loopX5 (α:=Nat×Nat×Nat×Bool×Bool×Array α) (fun a=>.int .i64 a.1) (fun a=>.int .i64 a.2.1) (fun a=>.int .i64 a.2.2.1) (fun a=>.bool a.2.2.2.1) (fun a=>.bool a.2.2.2.2.1) (fun a g=>SA 9 b n c val h0 g a.2.2.2.2.2/\a.1<=a.2.1/\a.2.1<=n/\a.2.1-a.1<=N/\a.2.2.1<100000/\pdq (ltC cm) a.2.2.2.2.2 a.1 a.2.1 a.2.2.1 a.2.2.2.1 a.2.2.2.2.1=pdq (ltC cm) d x y lim true true) (fun a=>a.2.1-a.1) (x,y,lim,true,true,d) ⟨rfl,rfl,rfl,rfl,rfl⟩ ⟨s,hxy,hy,hN,hlim,rfl⟩ ?_
 generalize pdq (ltC cm) d x y lim true true=T at H ⊢
 clear s hxy hy hN hlim
 rintro⟨x,y,lim,wb,wp,d⟩ g ⟨s,hxy,hy,hN,hlim,ht⟩ X hX
 dsimp only at s hxy hy hN hlim ht hX ⊢
 refine JoinN.mk ?_
 by_cases h12:y-x<=12
 ·simp(disch:=omega)
  rw[pdq,if_pos h12]at ht
  refine insS_c hf hone s hn hxy hy fun g1 s1=>?_
  exact H _ (ht▸s1)
 ·by_cases hl0:lim=0
  ·simp(disch:=omega)
   rw[pdq,if_neg h12,if_pos hl0]at ht
   refine heapS_c hf hone s hn omg hy fun g1 s1=>?_
   exact H _ (ht▸s1)
  ·obtain⟨d1,e1⟩:∃d1,d1=if !wb then breakPatterns d x y else d:=⟨_,rfl⟩
   obtain⟨l1,e2⟩:∃l1,l1=if !wb then lim-1 else lim:=⟨_,rfl⟩
   obtain⟨cc,ec⟩:∃cc,cc=choosePivot (ltC cm) d1 x y:=⟨_,rfl⟩
   obtain⟨d2,e3⟩:∃d2,d2=if cc.2 = .decreasing then reverseRange d1 x y else d1:=⟨_,rfl⟩
   obtain⟨pv,e4⟩:∃pv,pv=if cc.2 = .decreasing then (y-1)-(cc.1-x) else cc.1:=⟨_,rfl⟩
   obtain⟨hint,e5⟩:∃hint,hint=if cc.2 = .decreasing then Hint.increasing else cc.2:=⟨_,rfl⟩
   have ht2:=pdq_step (lt:=ltC cm) (wp:=wp) h12 hl0 e1 e2 ec e3 e4 e5
   rw[ht]at ht2
   clear ht
   have hcb:=choosePivot_holds (ltC cm) d1 x y omg
   rw[<-ec]at hcb
   have hpx:x<=pv:=by rw[e4];split<;>omega
   have hpy:pv<y:=by rw[e4];split<;>omega
   have hl1:l1<100000:=by rw[e2];split<;>omega
   simp(disch:=omega)
   refine JoinN_in1 (fun w g'=>w = .int .i64 l1/\SA 9 b n c val h0 g' d1) (fun kk hkk=>?_) (fun w g1 hw=>?_)
   ·cases wb with
    | true =>
     simp(disch:=omega)
     refine hkk _ _ ⟨?_,?_⟩
     ·rw[e2];rfl
     ·rw[e1];exact s
    | false =>
     simp(disch:=omega)
     refine brkS_c hone s hn omg hy fun g1 s1=>?_
     simp(disch:=omega)
     refine hkk _ _ ⟨?_,?_⟩
     ·rw[e2];simp;omega
     ·rw[e1];exact s1
   ·obtain⟨rfl,s1⟩:=hw
    refine pivS_c hf s1 hn omg hy fun g2 s2=>?_
    rw[<-ec]
    simp(disch:=omega)
    refine JoinN_in2 (fun w1 w2 g'=>w1 = .int .i64 pv/\w2 = .int .i64 (hintV hint)/\SA 9 b n c val h0 g' d2) (fun kk hkk=>?_) (fun w1 w2 g3 hw=>?_)
    ·by_cases hdc:cc.2 = .decreasing
     ·rw[if_pos hdc]at e3 e4 e5
      rw[hdc]
      simp(disch:=omega)[hintV]
      refine revS_c hf hone s2 hn omg hy fun g3 s3=>?_
      simp(disch:=omega)
      refine hkk _ _ _ ⟨?_,?_,?_⟩
      ·rw[e4];congr 1;omega
      ·rw[e5];rfl
      ·rw[e3];exact s3
     ·rw[if_neg hdc]at e3 e4 e5
      have h2:hintV cc.2≠2:=by
       intro e
       cases hcc:cc.2<;>rw[hcc]at e hdc<;>first|exact hdc rfl|(simp[hintV]at e)
      simp(disch:=omega)[h2]
      refine hkk _ _ _ ⟨?_,?_,?_⟩
      ·rw[e4]
      ·rw[e5]
      ·rw[e3];exact s2
    ·obtain⟨rfl,rfl,s3⟩:=hw
     refine JoinN_in0 (fun g'=>∃d3,SA 9 b n c val h0 g' d3/\T=pdqR (ltC cm) x y l1 pv wb wp d3) (fun kk hkk=>?_) (fun g5 hw=>?_)
     ·by_cases hb:(wb&&wp&&decide (hint = .increasing))=true
      ·rw[if_pos hb]at ht2
       simp at hb
       obtain⟨⟨hb1,hb2⟩,hb3⟩:=hb
       rw[hb3,hb1,hb2]
       simp(disch:=omega)[hintV]
       refine partS_c hf hone s3 hn omg hy fun g4 s4=>?_
       generalize partialInsertionSort (ltC cm) d2 x y=r at ht2 s4 ⊢
       obtain⟨rd,rb⟩:=r
       cases rb with
       | true =>
        simp(disch:=omega)
        exact H _ (ht2▸s4)
       | false =>
        simp(disch:=omega)
        refine hkk _ ⟨rd,s4,?_⟩
        rw[ht2,hb1,hb2]
        rfl
      ·rw[if_neg hb]at ht2
       have hsk:kk g3:=hkk _ ⟨d2,s3,by rw[ht2];rfl⟩
       cases wb with
       | false=>simp(disch:=omega);exact hsk
       | true =>
        cases wp with
        | false=>simp(disch:=omega);exact hsk
        | true =>
         have h1:hintV hint≠1:=by
          intro e
          cases hint<;>first|exact hb rfl|(simp[hintV]at e)
         simp(disch:=omega)[h1]
         exact hsk
     ·obtain⟨d3,s5,ht3⟩:=hw
      clear ht2
      obtain⟨mid0,ap0,d40,hpr⟩:∃m q z,partition (ltC cm) d3 x y pv=(m,q,z):=⟨_,_,_,rfl⟩
      have hR:¬(decide (x>0) && !ltC cm d3[x-1]! d3[pv]!)=true->T=(if x<=mid0/\mid0<y then (if mid0-x<y-mid0 then pdq (ltC cm) (pdq (ltC cm) d40 x mid0 l1 true true) (mid0+1) y l1 (decide (mid0-x>=(y-x)/8)) ap0 else pdq (ltC cm) (pdq (ltC cm) d40 (mid0+1) y l1 true true) x mid0 l1 (decide (y-mid0>=(y-x)/8)) ap0) else d40):=fun hc=>by
       rw[ht3]
       unfold pdqR
       rw[if_neg hc,hpr]
       rfl
      have hE:(decide (x>0) && !ltC cm d3[x-1]! d3[pv]!)=true->T=(match partitionEqual (ltC cm) d3 x y pv with|(mid,d4)=>if _h:x<mid/\mid<=y then pdq (ltC cm) d4 mid y l1 wb wp else d4):=fun hc=>by
       rw[ht3]
       unfold pdqR
       rw[if_pos hc]
      refine (fun key=>?main:(¬(decide (x>0) && !ltC cm d3[x-1]! d3[pv]!)=true->CallsH Tryz.prog 187 #[slV b n c,.int .i64 x,.int .i64 y,.int .i64 pv] g5 (?KK:VP) ⟨⟩)->_) (fun hc=>?rest)
      case' main =>
       by_cases hx0:0<x
       ·have s6:=s5
        have r1:=s5.get (i:=x-1) omg
        have r2:=s5.get (i:=pv) omg
        have ex:((x:Int)-1).toNat=x-1:=by omega
        unfold slV at key ⊢
        simp(disch:=omega)[r1.1,r2.1,ex]
        refine hf _ _ _ _ ?_
        by_cases hl:cm d3[x-1]! d3[pv]! < 0
        ·have hlt:ltC cm d3[x-1]! d3[pv]! = true:=decide_eq_true hl
         simp(disch:=omega)[hl]
         exact key (by rw[hlt];simp)
        ·have hlt:ltC cm d3[x-1]! d3[pv]! = false:=decide_eq_false hl
         simp(disch:=omega)[hl]
         refine peqS_c (x:=x) hf hone s5 hn hpx hpy hy fun g7 mid s7 hm1 hm2 hm3=>?_
         have hE2:=hE (by rw[hlt];simp;omega)
         generalize partitionEqual (ltC cm) d3 x y pv=r at s7 hm1 hE2
         obtain⟨md,d4⟩:=r
         dsimp only at s7 hm1 hE2
         rw[hm1]at hm2 hm3 ⊢
         rw[dif_pos ⟨hm2,hm3⟩]at hE2
         exact hX (md,y,l1,wb,wp,d4) _ _ _ _ _ _ rfl rfl rfl rfl rfl ⟨s7,hm3,hy,by dsimp only;omega,hl1,hE2.symm⟩ (by dsimp only;omega)
       ·simp(disch:=omega)
        exact key (by simp;omega)
      case' rest =>
       have ht4:=hR hc
       clear hE hR
       refine prtS_c hf hone s5 hn hpx hpy hy fun g7 mid ap s7 hm1 hm2 hm3 hm4=>?_
       rw[hpr]at s7 hm1 hm2
       dsimp only at s7 hm1 hm2
       rw[hm1]at hm3 hm4 ⊢
       rw[hm2]
       rw[if_pos ⟨hm3,hm4⟩]at ht4
       simp(disch:=omega)
       refine Split.mk (fun hs=>?_) (fun hs=>?_)
       ·have hlr:mid0-x<y-mid0:=by omega
        rw[if_pos hlr]at ht4
        by_cases hq:mid0-x>=(y-x)/8
        ·rw[decide_eq_true hq]at ht4
         simp(disch:=omega)
         refine ih (mid0-x) omg (Nat.le_refl _) s7 hm3 omg hl1 fun g8 s8=>?_
         simp(disch:=omega)
         exact hX (mid0+1,y,l1,true,ap0,_) _ _ _ _ _ _ sM rfl rfl rfl rfl ⟨s8,by dsimp only;omega,hy,by dsimp only;omega,hl1,ht4.symm⟩ (by dsimp only;omega)
        ·rw[decide_eq_false hq]at ht4
         simp(disch:=omega)
         refine ih (mid0-x) omg (Nat.le_refl _) s7 hm3 omg hl1 fun g8 s8=>?_
         simp(disch:=omega)
         exact hX (mid0+1,y,l1,false,ap0,_) _ _ _ _ _ _ sM rfl rfl rfl rfl ⟨s8,by dsimp only;omega,hy,by dsimp only;omega,hl1,ht4.symm⟩ (by dsimp only;omega)
       ·have hlr:¬mid0-x<y-mid0:=by omega
        rw[if_neg hlr]at ht4
        by_cases hq:y-mid0>=(y-x)/8
        ·rw[decide_eq_true hq]at ht4
         simp(disch:=omega)
         refine ih (y-(mid0+1)) omg (x:=mid0+1) (Nat.le_refl _) s7 omg hy hl1 fun g8 s8=>?_
         exact hX (x,mid0,l1,true,ap0,_) _ _ _ _ _ _ rfl rfl rfl rfl rfl ⟨s8,hm3,by dsimp only;omega,by dsimp only;omega,hl1,ht4.symm⟩ (by dsimp only;omega)
        ·rw[decide_eq_false hq]at ht4
         simp(disch:=omega)
         refine ih (y-(mid0+1)) omg (x:=mid0+1) (Nat.le_refl _) s7 omg hy hl1 fun g8 s8=>?_
         exact hX (x,mid0,l1,false,ap0,_) _ _ _ _ _ _ rfl rfl rfl rfl rfl ⟨s8,hm3,by dsimp only;omega,by dsimp only;omega,hl1,ht4.symm⟩ (by dsimp only;omega)
set_option maxHeartbeats 4000000 in
theorem pdqL_c(hf:LessOk Tryz.prog 157 val cm)(hone:∀x,one (val x)=true)(hn:n<100000):∀(N:Nat) {K:VP} {h:Heap} {d:Array α} {x y lim:Nat},y-x<=N->SA 2 b n c val h0 h d->x<=y->y<=n->lim<100000->(∀h',SA 2 b n c val h0 h' (pdq (ltC cm) d x y lim true true)->K (.tuple #[]) h') ->
 CallsH Tryz.prog 133 #[slV b n c,.int .i64 x,.int .i64 y,.int .i64 lim] h K ⟨⟩:=by
 intro N
 induction N using Nat.strongRecOn with
 | _ N ih =>
 intro K h d x y lim hN s hxy hy hlim H
 refine n133_calls ?_
 unfold n133;try delta vF vG vC vD vJ vV vk vt
 refine loopX5 (α:=Nat×Nat×Nat×Bool×Bool×Array α) (fun a=>.int .i64 a.1) (fun a=>.int .i64 a.2.1) (fun a=>.int .i64 a.2.2.1) (fun a=>.bool a.2.2.2.1) (fun a=>.bool a.2.2.2.2.1) (fun a g=>SA 2 b n c val h0 g a.2.2.2.2.2/\a.1<=a.2.1/\a.2.1<=n/\a.2.1-a.1<=N/\a.2.2.1<100000/\pdq (ltC cm) a.2.2.2.2.2 a.1 a.2.1 a.2.2.1 a.2.2.2.1 a.2.2.2.2.1=pdq (ltC cm) d x y lim true true) (fun a=>a.2.1-a.1) (x,y,lim,true,true,d) ⟨rfl,rfl,rfl,rfl,rfl⟩ ⟨s,hxy,hy,hN,hlim,rfl⟩ ?_
 generalize pdq (ltC cm) d x y lim true true=T at H ⊢
 clear s hxy hy hN hlim
 rintro⟨x,y,lim,wb,wp,d⟩ g ⟨s,hxy,hy,hN,hlim,ht⟩ X hX
 dsimp only at s hxy hy hN hlim ht hX ⊢
 refine JoinN.mk ?_
 by_cases h12:y-x<=12
 ·simp(disch:=omega)
  rw[pdq,if_pos h12]at ht
  refine insL_c hf hone s hn hxy hy fun g1 s1=>?_
  exact H _ (ht▸s1)
 ·by_cases hl0:lim=0
  ·simp(disch:=omega)
   rw[pdq,if_neg h12,if_pos hl0]at ht
   refine heapL_c hf hone s hn omg hy fun g1 s1=>?_
   exact H _ (ht▸s1)
  ·obtain⟨d1,e1⟩:∃d1,d1=if !wb then breakPatterns d x y else d:=⟨_,rfl⟩
   obtain⟨l1,e2⟩:∃l1,l1=if !wb then lim-1 else lim:=⟨_,rfl⟩
   obtain⟨cc,ec⟩:∃cc,cc=choosePivot (ltC cm) d1 x y:=⟨_,rfl⟩
   obtain⟨d2,e3⟩:∃d2,d2=if cc.2 = .decreasing then reverseRange d1 x y else d1:=⟨_,rfl⟩
   obtain⟨pv,e4⟩:∃pv,pv=if cc.2 = .decreasing then (y-1)-(cc.1-x) else cc.1:=⟨_,rfl⟩
   obtain⟨hint,e5⟩:∃hint,hint=if cc.2 = .decreasing then Hint.increasing else cc.2:=⟨_,rfl⟩
   have ht2:=pdq_step (lt:=ltC cm) (wp:=wp) h12 hl0 e1 e2 ec e3 e4 e5
   rw[ht]at ht2
   clear ht
   have hcb:=choosePivot_holds (ltC cm) d1 x y omg
   rw[<-ec]at hcb
   have hpx:x<=pv:=by rw[e4];split<;>omega
   have hpy:pv<y:=by rw[e4];split<;>omega
   have hl1:l1<100000:=by rw[e2];split<;>omega
   simp(disch:=omega)
   refine JoinN_in1 (fun w g'=>w = .int .i64 l1/\SA 2 b n c val h0 g' d1) (fun kk hkk=>?_) (fun w g1 hw=>?_)
   ·cases wb with
    | true =>
     simp(disch:=omega)
     refine hkk _ _ ⟨?_,?_⟩
     ·rw[e2];rfl
     ·rw[e1];exact s
    | false =>
     simp(disch:=omega)
     refine brkL_c hone s hn omg hy fun g1 s1=>?_
     simp(disch:=omega)
     refine hkk _ _ ⟨?_,?_⟩
     ·rw[e2];simp;omega
     ·rw[e1];exact s1
   ·obtain⟨rfl,s1⟩:=hw
    refine pivL_c hf s1 hn omg hy fun g2 s2=>?_
    rw[<-ec]
    simp(disch:=omega)
    refine JoinN_in2 (fun w1 w2 g'=>w1 = .int .i64 pv/\w2 = .int .i64 (hintV hint)/\SA 2 b n c val h0 g' d2) (fun kk hkk=>?_) (fun w1 w2 g3 hw=>?_)
    ·by_cases hdc:cc.2 = .decreasing
     ·rw[if_pos hdc]at e3 e4 e5
      rw[hdc]
      simp(disch:=omega)[hintV]
      refine revL_c hf hone s2 hn omg hy fun g3 s3=>?_
      simp(disch:=omega)
      refine hkk _ _ _ ⟨?_,?_,?_⟩
      ·rw[e4];congr 1;omega
      ·rw[e5];rfl
      ·rw[e3];exact s3
     ·rw[if_neg hdc]at e3 e4 e5
      have h2:hintV cc.2≠2:=by
       intro e
       cases hcc:cc.2<;>rw[hcc]at e hdc<;>first|exact hdc rfl|(simp[hintV]at e)
      simp(disch:=omega)[h2]
      refine hkk _ _ _ ⟨?_,?_,?_⟩
      ·rw[e4]
      ·rw[e5]
      ·rw[e3];exact s2
    ·obtain⟨rfl,rfl,s3⟩:=hw
     refine JoinN_in0 (fun g'=>∃d3,SA 2 b n c val h0 g' d3/\T=pdqR (ltC cm) x y l1 pv wb wp d3) (fun kk hkk=>?_) (fun g5 hw=>?_)
     ·by_cases hb:(wb&&wp&&decide (hint = .increasing))=true
      ·rw[if_pos hb]at ht2
       simp at hb
       obtain⟨⟨hb1,hb2⟩,hb3⟩:=hb
       rw[hb3,hb1,hb2]
       simp(disch:=omega)[hintV]
       refine partL_c hf hone s3 hn omg hy fun g4 s4=>?_
       generalize partialInsertionSort (ltC cm) d2 x y=r at ht2 s4 ⊢
       obtain⟨rd,rb⟩:=r
       cases rb with
       | true =>
        simp(disch:=omega)
        exact H _ (ht2▸s4)
       | false =>
        simp(disch:=omega)
        refine hkk _ ⟨rd,s4,?_⟩
        rw[ht2,hb1,hb2]
        rfl
      ·rw[if_neg hb]at ht2
       have hsk:kk g3:=hkk _ ⟨d2,s3,by rw[ht2];rfl⟩
       cases wb with
       | false=>simp(disch:=omega);exact hsk
       | true =>
        cases wp with
        | false=>simp(disch:=omega);exact hsk
        | true =>
         have h1:hintV hint≠1:=by
          intro e
          cases hint<;>first|exact hb rfl|(simp[hintV]at e)
         simp(disch:=omega)[h1]
         exact hsk
     ·obtain⟨d3,s5,ht3⟩:=hw
      clear ht2
      obtain⟨mid0,ap0,d40,hpr⟩:∃m q z,partition (ltC cm) d3 x y pv=(m,q,z):=⟨_,_,_,rfl⟩
      have hR:¬(decide (x>0) && !ltC cm d3[x-1]! d3[pv]!)=true->T=(if x<=mid0/\mid0<y then (if mid0-x<y-mid0 then pdq (ltC cm) (pdq (ltC cm) d40 x mid0 l1 true true) (mid0+1) y l1 (decide (mid0-x>=(y-x)/8)) ap0 else pdq (ltC cm) (pdq (ltC cm) d40 (mid0+1) y l1 true true) x mid0 l1 (decide (y-mid0>=(y-x)/8)) ap0) else d40):=fun hc=>by
       rw[ht3]
       unfold pdqR
       rw[if_neg hc,hpr]
       rfl
      have hE:(decide (x>0) && !ltC cm d3[x-1]! d3[pv]!)=true->T=(match partitionEqual (ltC cm) d3 x y pv with|(mid,d4)=>if _h:x<mid/\mid<=y then pdq (ltC cm) d4 mid y l1 wb wp else d4):=fun hc=>by
       rw[ht3]
       unfold pdqR
       rw[if_pos hc]
      refine (fun key=>?main:(¬(decide (x>0) && !ltC cm d3[x-1]! d3[pv]!)=true->CallsH Tryz.prog 159 #[slV b n c,.int .i64 x,.int .i64 y,.int .i64 pv] g5 (?KK:VP) ⟨⟩)->_) (fun hc=>?rest)
      case' main =>
       by_cases hx0:0<x
       ·have s6:=s5
        have r1:=s5.get (i:=x-1) omg
        have r2:=s5.get (i:=pv) omg
        have ex:((x:Int)-1).toNat=x-1:=by omega
        unfold slV at key ⊢
        simp(disch:=omega)[r1.1,r2.1,ex]
        refine hf _ _ _ _ ?_
        by_cases hl:cm d3[x-1]! d3[pv]! < 0
        ·have hlt:ltC cm d3[x-1]! d3[pv]! = true:=decide_eq_true hl
         simp(disch:=omega)[hl]
         exact key (by rw[hlt];simp)
        ·have hlt:ltC cm d3[x-1]! d3[pv]! = false:=decide_eq_false hl
         simp(disch:=omega)[hl]
         refine peqL_c (x:=x) hf hone s5 hn hpx hpy hy fun g7 mid s7 hm1 hm2 hm3=>?_
         have hE2:=hE (by rw[hlt];simp;omega)
         generalize partitionEqual (ltC cm) d3 x y pv=r at s7 hm1 hE2
         obtain⟨md,d4⟩:=r
         dsimp only at s7 hm1 hE2
         rw[hm1]at hm2 hm3 ⊢
         rw[dif_pos ⟨hm2,hm3⟩]at hE2
         exact hX (md,y,l1,wb,wp,d4) _ _ _ _ _ _ rfl rfl rfl rfl rfl ⟨s7,hm3,hy,by dsimp only;omega,hl1,hE2.symm⟩ (by dsimp only;omega)
       ·simp(disch:=omega)
        exact key (by simp;omega)
      case' rest =>
       have ht4:=hR hc
       clear hE hR
       refine prtL_c hf hone s5 hn hpx hpy hy fun g7 mid ap s7 hm1 hm2 hm3 hm4=>?_
       rw[hpr]at s7 hm1 hm2
       dsimp only at s7 hm1 hm2
       rw[hm1]at hm3 hm4 ⊢
       rw[hm2]
       rw[if_pos ⟨hm3,hm4⟩]at ht4
       simp(disch:=omega)
       refine Split.mk (fun hs=>?_) (fun hs=>?_)
       ·have hlr:mid0-x<y-mid0:=by omega
        rw[if_pos hlr]at ht4
        by_cases hq:mid0-x>=(y-x)/8
        ·rw[decide_eq_true hq]at ht4
         simp(disch:=omega)
         refine ih (mid0-x) omg (Nat.le_refl _) s7 hm3 omg hl1 fun g8 s8=>?_
         simp(disch:=omega)
         exact hX (mid0+1,y,l1,true,ap0,_) _ _ _ _ _ _ sM rfl rfl rfl rfl ⟨s8,by dsimp only;omega,hy,by dsimp only;omega,hl1,ht4.symm⟩ (by dsimp only;omega)
        ·rw[decide_eq_false hq]at ht4
         simp(disch:=omega)
         refine ih (mid0-x) omg (Nat.le_refl _) s7 hm3 omg hl1 fun g8 s8=>?_
         simp(disch:=omega)
         exact hX (mid0+1,y,l1,false,ap0,_) _ _ _ _ _ _ sM rfl rfl rfl rfl ⟨s8,by dsimp only;omega,hy,by dsimp only;omega,hl1,ht4.symm⟩ (by dsimp only;omega)
       ·have hlr:¬mid0-x<y-mid0:=by omega
        rw[if_neg hlr]at ht4
        by_cases hq:y-mid0>=(y-x)/8
        ·rw[decide_eq_true hq]at ht4
         simp(disch:=omega)
         refine ih (y-(mid0+1)) omg (x:=mid0+1) (Nat.le_refl _) s7 omg hy hl1 fun g8 s8=>?_
         exact hX (x,mid0,l1,true,ap0,_) _ _ _ _ _ _ rfl rfl rfl rfl rfl ⟨s8,hm3,by dsimp only;omega,by dsimp only;omega,hl1,ht4.symm⟩ (by dsimp only;omega)
        ·rw[decide_eq_false hq]at ht4
         simp(disch:=omega)
         refine ih (y-(mid0+1)) omg (x:=mid0+1) (Nat.le_refl _) s7 omg hy hl1 fun g8 s8=>?_
         exact hX (x,mid0,l1,false,ap0,_) _ _ _ _ _ _ rfl rfl rfl rfl rfl ⟨s8,hm3,by dsimp only;omega,by dsimp only;omega,hl1,ht4.symm⟩ (by dsimp only;omega)
end
end
section
open Go.Vc Go.Sort
section
variable {α:Type}[Inhabited α]{K:VP}{h0 h:Heap}{b n c:Nat}{val:α->Value}{d:Array α}{f:Value}{cm:α->α->Int}
set_option linter.unusedSectionVars false
theorem SA.init{e:Nat}{L:List α}(o:OwnT e 1 h (.slice (some ⟨b,0,none⟩) n c) (L.map val)):SA e b n c val h h L.toArray:=⟨by simpa using o,.refl _ _⟩
def Ascend(lt:α->α->Bool)(L:List α):Prop:=L.Pairwise (fun x y=>lt y x=false)
theorem sorts{lt:α->α->Bool}(hw:SWO lt)(d:Array α)(lim:Nat):(pdq lt d 0 d.size lim true true).toList.Perm d.toList/\Ascend lt (pdq lt d 0 d.size lim true true).toList:=by
 obtain⟨⟨h1,h2,h3⟩,h4⟩:=pdq_sorts lt hw d 0 d.size lim true true (Nat.zero_le _) (Nat.le_refl _) (.inl rfl)
 generalize pdq lt d 0 d.size lim true true=R at *
 constructor
 ·have e1:R.extract 0 d.size=R:=by rw[<-h1];simp
  have e2:d.extract 0 d.size=d:=by simp
  rw[e1,e2]at h3
  exact h3
 ·unfold Ascend
  rw[List.pairwise_iff_getElem]
  intro i j hi hj hij
  have:=h4 i j (Nat.zero_le _) hij (by simp at hj;omega)
  simp at hi hj
  rw[getB (d:=R) hi,getB (d:=R) hj]at this
  simpa using this
theorem sortS_c{L:List α}{v:Value}(hv:OwnT 9 1 h v (L.map val))(hl:L.length<100000)(hf:LessOk Tryz.prog 185 val cm)(hone:∀x,one (val x)=true)(hw:SWO (ltC cm))
 (H:∀h' L',L'.Perm L->Ascend (ltC cm) L'->OwnT 9 1 h' v (L'.map val)->Mod (fun b=>blkV v=some b) h h'->K (.tuple #[]) h') :
 CallsH Tryz.prog 136 #[v] h K ⟨⟩:=by
 refine n136_calls ?_
 unfold n136;try delta vF vG vC vD vJ vV vk vt
 have hv0:=hv
 rcases hv with ⟨rfl,hL⟩|⟨b,n,c,rest,rfl,h1,h2,h3,h4⟩
 ·have hL':L=[]:=by simpa using hL
  have hk:=H h [] (by rw[hL']) .nil (.inl ⟨rfl,rfl⟩) (.refl _ _)
  simp(disch:=omega)
  refine len_c (n:=0) omg ?_
  refine n163_calls ?_
  unfold n163;try delta vF vG vC vD vJ vV vk vt
  refine loopX5 (fun _:Unit=>.int .i64 0) (fun _=>.int .i64 0) (fun _=>.int .i64 0) (fun _=>.bool true) (fun _=>.bool true) (fun _ g=>g=h) (fun _=>0) () ⟨rfl,rfl,rfl,rfl,rfl⟩ rfl ?_
  rintro _ g rfl X hX
  refine JoinN.mk ?_
  simp(disch:=omega)
  refine n179_calls ?_
  unfold n179;try delta vF vG vC vD vJ vV vk vt
  simp(disch:=omega)
  refine loopX1 (fun _:Unit=>.int .i64 1) (fun _ g'=>g'=g) (fun _=>0) () rfl rfl ?_
  rintro _ g rfl X2 hX2
  simp(disch:=omega)
  exact hk
 ·have hn:L.length=n:=by simpa using h1
  subst hn
  have s:=SA.init (val:=val) (L:=L) hv0
  have hbl:=bitsLen_le (show L.length<16777216 by omega)
  simp(disch:=omega)
  refine len_c (n:=L.length) omg ?_
  refine pdqS_c hf hone hl L.length (x:=0) (y:=L.length) (lim:=bitsLen L.length) omg s omg omg omg fun h' s'=>?_
  have hs:=sorts hw L.toArray (bitsLen L.length)
  rw[show L.toArray.size=L.length by simp]at hs
  exact H h' _ hs.1 hs.2 s'.own (s'.mod.mono (fun b' _ e=>by rw[e];rfl))
theorem sortL_c{L:List α}{v:Value}(hv:OwnT 2 1 h v (L.map val))(hl:L.length<100000)(hf:LessOk Tryz.prog 157 val cm)(hone:∀x,one (val x)=true)(hw:SWO (ltC cm))
 (H:∀h' L',L'.Perm L->Ascend (ltC cm) L'->OwnT 2 1 h' v (L'.map val)->Mod (fun b=>blkV v=some b) h h'->K (.tuple #[]) h') :
 CallsH Tryz.prog 96 #[v] h K ⟨⟩:=by
 refine n96_calls ?_
 unfold n96;try delta vF vG vC vD vJ vV vk vt
 have hv0:=hv
 rcases hv with ⟨rfl,hL⟩|⟨b,n,c,rest,rfl,h1,h2,h3,h4⟩
 ·have hL':L=[]:=by simpa using hL
  have hk:=H h [] (by rw[hL']) .nil (.inl ⟨rfl,rfl⟩) (.refl _ _)
  simp(disch:=omega)
  refine len_c (n:=0) omg ?_
  refine n133_calls ?_
  unfold n133;try delta vF vG vC vD vJ vV vk vt
  refine loopX5 (fun _:Unit=>.int .i64 0) (fun _=>.int .i64 0) (fun _=>.int .i64 0) (fun _=>.bool true) (fun _=>.bool true) (fun _ g=>g=h) (fun _=>0) () ⟨rfl,rfl,rfl,rfl,rfl⟩ rfl ?_
  rintro _ g rfl X hX
  refine JoinN.mk ?_
  simp(disch:=omega)
  refine n151_calls ?_
  unfold n151;try delta vF vG vC vD vJ vV vk vt
  simp(disch:=omega)
  refine loopX1 (fun _:Unit=>.int .i64 1) (fun _ g'=>g'=g) (fun _=>0) () rfl rfl ?_
  rintro _ g rfl X2 hX2
  simp(disch:=omega)
  exact hk
 ·have hn:L.length=n:=by simpa using h1
  subst hn
  have s:=SA.init (val:=val) (L:=L) hv0
  have hbl:=bitsLen_le (show L.length<16777216 by omega)
  simp(disch:=omega)
  refine len_c (n:=L.length) omg ?_
  refine pdqL_c hf hone hl L.length (x:=0) (y:=L.length) (lim:=bitsLen L.length) omg s omg omg omg fun h' s'=>?_
  have hs:=sorts hw L.toArray (bitsLen L.length)
  rw[show L.toArray.size=L.length by simp]at hs
  exact H h' _ hs.1 hs.2 s'.own (s'.mod.mono (fun b' _ e=>by rw[e];rfl))
end
end
end Go.Proofs.YtdccfkffabngjaaGreat

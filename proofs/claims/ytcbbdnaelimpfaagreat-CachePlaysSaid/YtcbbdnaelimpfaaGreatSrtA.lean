/- Sorting: insertion. Sorting: the heap. Sorting: by a heap; turned round. -/
import Derived.Test.YtcbbdnaelimpfaaGreatNice
import Derived.Test.YtcbbdnaelimpfaaGreatFacts
import Derived.Test.YtcbbdnaelimpfaaGreatSrtK
set_option linter.unusedSimpArgs false
set_option linter.unusedVariables false
namespace Go.Proofs.YtcbbdnaelimpfaaGreat
open Go.Vc Go.Sort

section
variable {α:Type} [Inhabited α] {K:VP} {h0 h:Heap} {b n c:Nat} {val:α→Value} {d:Array α} {f:Value} {cm:α→α→Int}

set_option maxHeartbeats 1000000 in
theorem insL_c {x y:Nat} (hf:LessOk Tryz.prog 136 val cm) (hone:∀x,one (val x)=true) (s:SA 2 b n c val h0 h d) (hn:n<100000) (hxy:x≤y) (hy:y≤n) (H:∀h',SA 2 b n c val h0 h' (insertionSort (ltC cm) d x y)→K (.tuple #[]) h') :
 CallsH Tryz.prog 130 #[slV b n c,.int .i64 x,.int .i64 y] h K ⟨⟩:=by
 refine n130_calls ?_
 unfold n130 slV; try delta vF vG vC vD vJ vV vk vt
 have st:=fun a x K h=>Hp_store (P:=Tryz.prog) (t:=2) (a:=a) (v:=val x) (K:=K) (h:=h) kR (hone x)
 simp (disch:=omega)
 refine loopX1 (α:=Nat×Array α) (fun a => .int .i64 a.1) (fun a g=>SA 2 b n c val h0 g a.2∧x<a.1∧insOuter (ltC cm) x y a.1 a.2=insertionSort (ltC cm) d x y) (fun a=>y-a.1) (x+1,d) sM ⟨s,by simp,rfl⟩ ?_
 rintro ⟨i,d1⟩ g ⟨s1,hi,ht⟩ X hX
 dsimp only at s1 hi ht hX ⊢
 rw [insOuter] at ht
 by_cases hiy:i<y
 ·rw [if_pos hiy] at ht
  simp (disch:=omega)
  refine loopX1 (α:=Nat×Array α) (fun a => .int .i64 a.1) (fun a g=>SA 2 b n c val h0 g a.2∧a.1≤i∧insInner (ltC cm) x a.1 a.2=insInner (ltC cm) x i d1) (fun a=>a.1) (i,d1) rfl ⟨s1,Nat.le_refl _,rfl⟩ ?_
  rintro ⟨j,d2⟩ g2 ⟨s2,hj,ht2⟩ X2 hX2
  dsimp only at s2 hj ht2 hX2 ⊢
  by_cases hjx:x<j
  ·obtain ⟨k,rfl⟩:∃k,j=k+1:=⟨j-1,by omega⟩
   have r1:=s2.get (i:=k+1) omg
   have r2:=s2.get (i:=k) omg
   obtain ⟨⟨u,wu⟩,wf⟩:=s2.get2 (i:=k+1) (j:=k) omg omg (val d2[k]!)
   rw [insInner] at ht2
   simp (disch:=omega) [r1.1,r2.1]
   refine hf _ _ _ _ ?_
   by_cases hl:cm d2[k+1]! d2[k]! < 0
   ·have hlt:ltC cm d2[k+1]! d2[k]! = true:=decide_eq_true hl
    rw [hlt] at ht2
    simp [hjx] at ht2
    simp (disch:=omega) [hl,r1.1,r1.2,r2.1,r2.2,wu,wf,st]
    exact hX2 (k,swp d2 (k+1) k) _ _ sM ⟨s2.swap omg omg,by dsimp only; omega,ht2⟩ (by dsimp only; omega)
   ·have hlt:ltC cm d2[k+1]! d2[k]! = false:=decide_eq_false hl
    rw [hlt] at ht2
    simp at ht2
    simp (disch:=omega) [hl]
    exact hX (i+1,d2) _ _ sM ⟨s2,by dsimp only; omega,by dsimp only; rw [ht2]; exact ht⟩ (by dsimp only; omega)
  ·have ht3:d2=insInner (ltC cm) x i d1:=by
    rw [←ht2]
    cases j with
    | zero=>rw [insInner]
    | succ j=>rw [insInner,if_neg]; simp; omega
   simp (disch:=omega)
   exact hX (i+1,d2) _ _ sM ⟨s2,by dsimp only; omega,by dsimp only; rw [ht3]; exact ht⟩ (by dsimp only; omega)
 ·rw [if_neg hiy] at ht
  simp (disch:=omega)
  rw [←ht] at H
  exact H _ s1
end
end Go.Proofs.YtcbbdnaelimpfaaGreat
set_option linter.unusedSimpArgs false
set_option linter.unusedVariables false
namespace Go.Proofs.YtcbbdnaelimpfaaGreat
open Go.Vc Go.Sort

section
variable {α:Type} [Inhabited α] {K:VP} {h0 h:Heap} {b n c:Nat} {val:α→Value} {d:Array α} {f:Value} {cm:α→α→Int}

set_option maxHeartbeats 1000000 in
theorem siftL_c {lo hi first:Nat} (hf:LessOk Tryz.prog 136 val cm) (hone:∀x,one (val x)=true) (s:SA 2 b n c val h0 h d) (hn:n<100000) (hh:hi≤n) (hfi:first+hi≤n) (H:∀h',SA 2 b n c val h0 h' (siftDown (ltC cm) hi first lo d)→K (.tuple #[]) h') (hlo:lo<100000) :
 CallsH Tryz.prog 143 #[slV b n c,.int .i64 lo,.int .i64 hi,.int .i64 first] h K ⟨⟩:=by
 refine n143_calls ?_
 unfold n143 slV; try delta vF vG vC vD vJ vV vk vt
 have st:=fun a x K h=>Hp_store (P:=Tryz.prog) (t:=2) (a:=a) (v:=val x) (K:=K) (h:=h) kR (hone x)
 refine loopX1 (α:=Nat×Array α) (fun a => .int .i64 a.1) (fun a g=>SA 2 b n c val h0 g a.2∧a.1<100000∧siftDown (ltC cm) hi first a.1 a.2=siftDown (ltC cm) hi first lo d) (fun a=>hi-a.1) (lo,d) rfl ⟨s,hlo,rfl⟩ ?_
 rintro ⟨r,d1⟩ g ⟨s1,hr,ht⟩ X hX
 dsimp only at s1 hr ht hX ⊢
 rw [siftDown] at ht
 obtain ⟨m,hm⟩:∃m,m=2*r+1:=⟨_,rfl⟩
 have e1:2*(r:Int)+1=(m:Int):=by omega
 by_cases hc:2*r+1≥hi
 ·rw [dif_pos hc] at ht
  simp (disch:=omega) [e1]
  rw [←ht] at H
  exact H _ s1
 ·rw [dif_neg hc] at ht
  simp (disch:=omega) [e1]
  have rr:=s1.get (i:=first+r) omg
  have rm:=s1.get (i:=first+m) omg
  refine JoinN_in1 (fun w g'=>g'=g∧∃ch:Nat,w = .int .i64 ch∧ch<hi∧r<ch∧(if (!ltC cm d1[first+r]! d1[first+ch]!)=true then d1 else siftDown (ltC cm) hi first ch (swp d1 (first+r) (first+ch)))=siftDown (ltC cm) hi first lo d) (fun k4 hk4 => ?_) (fun w g' hw => ?_)
  ·by_cases h2:m+1<hi
   ·have rm1:=s1.get (i:=first+m+1) omg
    have e2:((first:Int)+(m:Int)+1).toNat=first+m+1:=by omega
    simp (disch:=omega) [rm.1,rm1.1,e2]
    refine hf _ _ _ _ ?_
    by_cases hl:cm d1[first+m]! d1[first+m+1]! < 0
    ·have hlt:ltC cm d1[first+m]! d1[first+m+1]! = true:=decide_eq_true hl
     simp (disch:=omega) [hl]
     refine hk4 _ _ ⟨rfl,m+1,by simp,by omega,by omega,?_⟩
     rw [if_pos (by rw [←hm,hlt]; simp; omega)] at ht
     have:2*r+2=m+1:=by omega
     rw [this,dif_pos omg] at ht
     exact ht
    ·have hlt:ltC cm d1[first+m]! d1[first+m+1]! = false:=decide_eq_false hl
     simp (disch:=omega) [hl]
     refine hk4 _ _ ⟨rfl,m,rfl,by omega,by omega,?_⟩
     rw [if_neg (by rw [←hm,hlt]; simp),←hm] at ht
     exact ht
   ·simp (disch:=omega)
    refine hk4 _ _ ⟨rfl,m,rfl,by omega,by omega,?_⟩
    rw [if_neg (by simp; omega),←hm] at ht
    exact ht
  ·obtain ⟨rfl,ch,rfl,hch,hrc,ht2⟩:=hw
   have rc:=s1.get (i:=first+ch) omg
   obtain ⟨⟨u,wu⟩,wf⟩:=s1.get2 (i:=first+r) (j:=first+ch) omg omg (val d1[first+ch]!)
   simp (disch:=omega) [rr.1,rc.1]
   refine hf _ _ _ _ ?_
   by_cases hl:cm d1[first+r]! d1[first+ch]! < 0
   ·have hlt:ltC cm d1[first+r]! d1[first+ch]! = true:=decide_eq_true hl
    rw [hlt] at ht2
    simp at ht2
    simp (disch:=omega) [hl,rr.1,rr.2,rc.1,rc.2,wu,wf,st]
    exact hX (ch,swp d1 (first+r) (first+ch)) _ _ rfl ⟨s1.swap omg omg,by dsimp only; omega,ht2⟩ (by dsimp only; omega)
   ·have hlt:ltC cm d1[first+r]! d1[first+ch]! = false:=decide_eq_false hl
    rw [hlt] at ht2
    simp at ht2
    simp (disch:=omega) [hl]
    rw [←ht2] at H
    exact H _ s1
end
end Go.Proofs.YtcbbdnaelimpfaaGreat
set_option linter.unusedSimpArgs false
set_option linter.unusedVariables false
namespace Go.Proofs.YtcbbdnaelimpfaaGreat
open Go.Vc Go.Sort

section
variable {α:Type} [Inhabited α] {K:VP} {h0 h:Heap} {b n c:Nat} {val:α→Value} {d:Array α} {f:Value} {cm:α→α→Int}

set_option maxHeartbeats 1000000 in
theorem heapL_c {x y:Nat} (hf:LessOk Tryz.prog 136 val cm) (hone:∀x,one (val x)=true) (s:SA 2 b n c val h0 h d) (hn:n<100000) (hxy:x<y) (hy:y≤n) (H:∀h',SA 2 b n c val h0 h' (heapSort (ltC cm) d x y)→K (.tuple #[]) h') :
 CallsH Tryz.prog 131 #[slV b n c,.int .i64 x,.int .i64 y] h K ⟨⟩:=by
 refine n131_calls ?_
 unfold n131; try delta vF vG vC vD vJ vV vk vt
 have st:=fun a x K h=>Hp_store (P:=Tryz.prog) (t:=2) (a:=a) (v:=val x) (K:=K) (h:=h) kR (hone x)
 obtain ⟨m,rfl⟩:∃m,y=x+m:=⟨y-x,by omega⟩
 unfold heapSort at H
 rw [Nat.add_sub_cancel_left] at H
 have em:((x+m:Nat):Int)-(x:Int)=(m:Int):=by omega
 simp (disch:=omega) only [em,Hp_sub_i64,Hp_quo_i64,ValI_iff]
 refine loopX1 (α:=Nat×Array α) (fun a => .int .i64 ((a.1:Int)-1)) (fun a g=>SA 2 b n c val h0 g a.2∧a.1≤m∧heapBuild (ltC cm) m x a.1 a.2=heapBuild (ltC cm) m x ((m-1)/2+1) d) (fun a=>a.1) ((m-1)/2+1,d) (by congr 1; omega) ⟨s,by dsimp only; omega,rfl⟩ ?_
 rintro ⟨k,d1⟩ g ⟨s1,hk,ht⟩ X hX
 dsimp only at s1 hk ht hX ⊢
 cases k with
 | zero =>
  rw [heapBuild] at ht
  rw [←ht] at H
  simp (disch:=omega)
  refine loopX1 (α:=Nat×Array α) (fun a => .int .i64 ((a.1:Int)-1)) (fun a g=>SA 2 b n c val h0 g a.2∧a.1≤m∧heapPop (ltC cm) x a.1 a.2=heapPop (ltC cm) x m d1) (fun a=>a.1) (m,d1) (by congr 1) ⟨s1,Nat.le_refl _,rfl⟩ ?_
  rintro ⟨k,d2⟩ g ⟨s2,hk,ht⟩ X hX
  dsimp only at s2 hk ht hX ⊢
  cases k with
  | zero =>
   rw [heapPop] at ht
   rw [←ht] at H
   simp (disch:=omega)
   exact H _ s2
  | succ k =>
   rw [heapPop] at ht
   have wi:=s2.get (i:=x) omg
   have wj:=s2.get (i:=x+k) omg
   obtain ⟨⟨wu,wwu⟩,wwf⟩:=s2.get2 (i:=x) (j:=x+k) omg omg (val d2[x+k]!)
   unfold slV
   simp (disch:=omega) [wi.1,wi.2,wj.1,wj.2,wwu,wwf,st]
   refine siftL_c (lo:=0) (hi:=k) (first:=x) hf hone (s2.swap omg omg) hn omg omg (fun g' s3 => ?_) omg
   simp (disch:=omega)
   exact hX (k,_) _ _ rfl ⟨s3,by dsimp only; omega,ht⟩ (by dsimp only; omega)
 | succ k =>
  rw [heapBuild] at ht
  simp (disch:=omega)
  refine siftL_c (lo:=k) (hi:=m) (first:=x) hf hone s1 hn omg omg (fun g' s3 => ?_) omg
  simp (disch:=omega)
  exact hX (k,_) _ _ rfl ⟨s3,by dsimp only; omega,ht⟩ (by dsimp only; omega)

set_option maxHeartbeats 1000000 in
theorem revL_c {x y:Nat} (hf:LessOk Tryz.prog 136 val cm) (hone:∀x,one (val x)=true) (s:SA 2 b n c val h0 h d) (hn:n<100000) (hxy:x<y) (hy:y≤n) (H:∀h',SA 2 b n c val h0 h' (reverseRange d x y)→K (.tuple #[]) h') :
 CallsH Tryz.prog 134 #[slV b n c,.int .i64 x,.int .i64 y] h K ⟨⟩:=by
 refine n134_calls ?_
 unfold n134; try delta vF vG vC vD vJ vV vk vt
 have st:=fun a x K h=>Hp_store (P:=Tryz.prog) (t:=2) (a:=a) (v:=val x) (K:=K) (h:=h) kR (hone x)
 unfold reverseRange at H
 simp (disch:=omega)
 refine loopX2 (α:=Nat×Nat×Array α) (fun a => .int .i64 a.1) (fun a => .int .i64 a.2.1) (fun a g=>SA 2 b n c val h0 g a.2.2∧a.2.1<n∧a.1≤n∧reverseLoop a.1 a.2.1 a.2.2=reverseLoop x (y-1) d) (fun a=>a.2.1-a.1) (x,y-1,d) ⟨rfl,by dsimp only; congr 1; omega⟩ ⟨s,by dsimp only; omega,by dsimp only; omega,rfl⟩ ?_
 rintro ⟨i,j,d1⟩ g ⟨s1,hj,hi,ht⟩ X hX
 dsimp only at s1 hj hi ht hX ⊢
 rw [reverseLoop] at ht
 by_cases hij:i<j
 ·rw [if_pos hij] at ht
  obtain ⟨k,rfl⟩:∃k,j=k+1:=⟨j-1,by omega⟩
  have wi:=s1.get (i:=i) omg
  have wj:=s1.get (i:=k+1) omg
  obtain ⟨⟨wu,wwu⟩,wwf⟩:=s1.get2 (i:=i) (j:=k+1) omg omg (val d1[k+1]!)
  unfold slV
  simp (disch:=omega) [wi.1,wi.2,wj.1,wj.2,wwu,wwf,st]
  exact hX (i+1,k,_) _ _ _ sM sM ⟨s1.swap omg omg,by dsimp only; omega,by dsimp only; omega,ht⟩ (by dsimp only; omega)
 ·rw [if_neg hij] at ht
  simp (disch:=omega)
  rw [←ht] at H
  exact H _ s1
end
end Go.Proofs.YtcbbdnaelimpfaaGreat

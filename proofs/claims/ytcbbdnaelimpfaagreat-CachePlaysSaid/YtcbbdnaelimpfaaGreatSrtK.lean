/- Sorting: the elements of a slice of one's own,told as an array. -/
import Derived.Test.YtcbbdnaelimpfaaGreatVcTag
import Derived.Sort.AssemblyPlain
namespace Go.Vc
open Go Go.Sort
set_option linter.unusedSimpArgs false
set_option linter.unusedVariables false
set_option linter.unusedSectionVars false
section
variable {α:Type} [Inhabited α] {h0 h:Heap} {e b n c:Nat} {val:α→Value} {d:Array α}

structure SA (e b n c:Nat) (val:α→Value) (h0 h:Heap) (d:Array α):Prop where
 own:OwnT e 1 h (.slice (some ⟨b,0,none⟩) n c) (d.toList.map val)
 mod:Mod (· = b) h0 h
def slV (b n c:Nat):Value := .slice (some ⟨b,0,none⟩) n c
theorem SA.size (s:SA e b n c val h0 h d):d.size=n:=by
 rcases s.own with ⟨h1,-⟩|⟨b',n',c',rest,h1,h2,-⟩
 ·cases h1
 ·cases h1; simpa using h2
theorem getB {i:Nat} (hi:i<d.size):d[i]! = d[i]:=getElem!_pos d i hi
theorem SA.get (s:SA e b n c val h0 h d) {i:Nat} (hi:i<n):hcell h (elt ⟨b,0,none⟩ i)=some (val d[i]!)∧hfrozen h (elt ⟨b,0,none⟩ i)=false:=by
 have hz:=s.size
 have:=s.own.elt (i:=i) (by simp; omega)
 refine ⟨this.1.trans ?_,this.2⟩
 rw [getB omg]
 simp
theorem SA.swap (s:SA e b n c val h0 h d) {i j:Nat} (hi:i<n) (hj:j<n) :
 SA e b n c val h0 (hset (hset h (elt ⟨b,0,none⟩ i) (val d[j]!)) (elt ⟨b,0,none⟩ j) (val d[i]!)) (swp d i j):=by
 have hz:=s.size
 refine ⟨?_,Mod.setIn (Mod.setIn s.mod (.inl sM)) (.inl sM)⟩
 have r1:=s.own.setE (i:=i) (by simp; omega) (u:=val d[j]!)
 have r2:=r1.setE (i:=j) (by simp; omega) (u:=val d[i]!)
 have:((d.toList.map val).set i (val d[j]!)).set j (val d[i]!)=(swp d i j).toList.map val:=by
  unfold swp
  simp [List.map_set]
 rw [this] at r2
 exact r2
theorem SA.get2 (s:SA e b n c val h0 h d) {i j:Nat} (hi:i<n) (hj:j<n) (v:Value) :
 (∃u,hcell (hset h (elt ⟨b,0,none⟩ i) v) (elt ⟨b,0,none⟩ j)=some u)∧hfrozen (hset h (elt ⟨b,0,none⟩ i) v) (elt ⟨b,0,none⟩ j)=false:=by
 have hz:=s.size
 have r1:=s.own.setE (i:=i) (by simp; omega) (u:=v)
 have:=r1.elt (i:=j) (by simp; omega)
 exact ⟨⟨_,this.1⟩,this.2⟩
theorem SA.side {q:Nat} {v:Value} (s:SA e b n c val h0 h d) (hq:q≠b) (hz:h0.size≤q):SA e b n c val h0 (hset h ⟨q,0,none⟩ v) d :=
 ⟨s.own.mod (Mod.set h ⟨q,0,none⟩ v) (fun b' hb e=>by cases hb; exact hq e.symm),Mod.setIn s.mod (.inr hz)⟩
theorem SA.pushed {o:Obj} (s:SA e b n c val h0 h d):SA e b n c val h0 (h.push o) d :=
 ⟨s.own.ext (push_ext (.refl h)),Mod.pushIn s.mod⟩
theorem SA.lt (s:SA e b n c val h0 h d):b<h.size:=s.own.lt rfl

def CmpOk (P:Program) (f:Value) (b:Nat) (h0:Heap) (val:α→Value) (cm:α→α→Int):Prop :=
 ∀x y (g:Heap) (K:VP),Mod (· = b) h0 g→K (.int .i64 (cm x y)) g→InvokeH P f #[val x,val y] g K ⟨⟩
def LessOk (P:Program) (fn:FuncId) (val:α→Value) (cm:α→α→Int):Prop :=
 ∀x y (g:Heap) (K:VP),K (.bool (decide (cm x y<0))) g→CallsH P fn #[val x,val y] g K ⟨⟩
def ltC (cm:α→α→Int) (x y:α):Bool:=decide (cm x y<0)
theorem loopX1 {α:Type} {body:(VP)→VP} {v1:Value} {h:Heap} (f1:α→Value) (g:α→Heap→Prop) (μ:α→Nat) (a0:α) (hf:v1=f1 a0) (hg:g a0 h)
 (hb:∀a h,g a h→∀X:VP,(∀a' v1' h',v1'=f1 a'→g a' h'→μ a'<μ a→X v1' h')→body X (f1 a) h):LoopC 1 body [v1] h ⟨⟩:=by
 refine loopA1 f1 g μ a0 hf hg fun a h hga => ?_
 exact hb a h hga _ (fun a' v1' h' e1 h1 h2=>⟨a',e1,h1,h2⟩)
theorem loopX2 {α:Type} {body:(Value→VP)→Value→VP} {v1 v2:Value} {h:Heap} (f1 f2:α→Value) (g:α→Heap→Prop) (μ:α→Nat) (a0:α) (hf:v1=f1 a0∧v2=f2 a0) (hg:g a0 h)
 (hb:∀a h,g a h→∀X:Value→VP,(∀a' v1' v2' h',v1'=f1 a'→v2'=f2 a'→g a' h'→μ a'<μ a→X v1' v2' h')→body X (f1 a) (f2 a) h):LoopC 2 body [v1,v2] h ⟨⟩:=by
 refine loopA2 f1 f2 g μ a0 hf hg fun a h hga => ?_
 exact hb a h hga _ (fun a' v1' v2' h' e1 e2 h1 h2=>⟨a',e1,e2,h1,h2⟩)
theorem loopX3 {α:Type} {body:(Value→Value→VP)→Value→Value→VP} {v1 v2 v3:Value} {h:Heap} (f1 f2 f3:α→Value) (g:α→Heap→Prop) (μ:α→Nat) (a0:α) (hf:v1=f1 a0∧v2=f2 a0∧v3=f3 a0) (hg:g a0 h)
 (hb:∀a h,g a h→∀X:Value→Value→VP,(∀a' v1' v2' v3' h',v1'=f1 a'→v2'=f2 a'→v3'=f3 a'→g a' h'→μ a'<μ a→X v1' v2' v3' h')→body X (f1 a) (f2 a) (f3 a) h):LoopC 3 body [v1,v2,v3] h ⟨⟩:=by
 refine loopA3 f1 f2 f3 g μ a0 hf hg fun a h hga => ?_
 exact hb a h hga _ (fun a' v1' v2' v3' h' e1 e2 e3 h1 h2=>⟨a',e1,e2,e3,h1,h2⟩)
theorem loopX5 {α:Type} {body:(Value→Value→Value→Value→VP)→Value→Value→Value→Value→VP} {v1 v2 v3 v4 v5:Value} {h:Heap} (f1 f2 f3 f4 f5:α→Value) (g:α→Heap→Prop) (μ:α→Nat) (a0:α) (hf:v1=f1 a0∧v2=f2 a0∧v3=f3 a0∧v4=f4 a0∧v5=f5 a0) (hg:g a0 h)
 (hb:∀a h,g a h→∀X:Value→Value→Value→Value→VP,(∀a' v1' v2' v3' v4' v5' h',v1'=f1 a'→v2'=f2 a'→v3'=f3 a'→v4'=f4 a'→v5'=f5 a'→g a' h'→μ a'<μ a→X v1' v2' v3' v4' v5' h')→body X (f1 a) (f2 a) (f3 a) (f4 a) (f5 a) h):LoopC 5 body [v1,v2,v3,v4,v5] h ⟨⟩:=by
 refine loopA5 f1 f2 f3 f4 f5 g μ a0 hf hg fun a h hga => ?_
 exact hb a h hga _ (fun a' v1' v2' v3' v4' v5' h' e1 e2 e3 e4 e5 h1 h2=>⟨a',e1,e2,e3,e4,e5,h1,h2⟩)
end
end Go.Vc

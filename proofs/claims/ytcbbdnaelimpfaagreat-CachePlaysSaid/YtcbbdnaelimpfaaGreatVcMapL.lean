/- Loops that range over a map. -/
import Derived.Test.YtcbbdnaelimpfaaGreatVcTag
namespace Go.Vc
open Go
set_option linter.unusedSimpArgs false
set_option linter.unusedVariables false
set_option linter.unusedSectionVars false
section
variable {P:Program} {q:Bool} {K:VP} {h:Heap} {κ:Type} [DecidableEq κ] {kV:κ→Value}

theorem nodup_len {I:List Nat} {n:Nat} (hn:I.Nodup) (hI:∀i∈I,i<n):I.length≤n:=by
 have:=hn.length_le_of_subset (l₂:=List.range n) (fun i hi=>List.mem_range.2 (hI i hi))
 simpa using this
theorem nodup_snoc {I:List Nat} {i:Nat} (hn:I.Nodup) (hi:i∉I):(I++[i]).Nodup:=by
 rw [List.nodup_append]
 refine ⟨hn,by simp,fun a ha b hb e => ?_⟩
 simp at hb; subst hb; subst e; exact hi ha

def isMapB (P:Program) (t:TypeId):Bool:=match P.underlying t with|some (.map _ _)=>true|_=>false
theorem isMapB_spec {t:TypeId} (e:isMapB P t=true):∃kt et,P.underlying t=some (.map kt et):=by
 unfold isMapB at e
 split at e
 ·rename_i kt et hu; exact ⟨kt,et,hu⟩
 ·cases e
theorem Hp_rangeM {t:TypeId} {m:Nat} {l:List (κ×Value)} (ht:isMapB P t=true) (hm:MapK kV h m l)
 (H:∀h',Ext h h'→MapIt kV h' h.size m l []→h'.size=h.size+1→K (.pointer (some ⟨h.size,0,none⟩)) h'):Hp P false (Instr.range t (.map (some m))) K h ⟨⟩:=by
 obtain ⟨kt,et,hu⟩:=isMapB_spec ht
 exact Hp_range hu hm H
theorem Hp_clearM {t t':TypeId} {m:Nat} {l:List (κ×Value)} (ht:isMapB P t=true) (hm:MapK kV h m l) (H:∀h',MapK kV h' m ([]:List (κ×Value))→Mod (· = m) h h'→K (.tuple #[]) h'):Hp P false (Builtin.clear_ #[t] t' #[.map (some m)]) K h ⟨⟩:=by
 obtain ⟨kt,et,hu⟩:=isMapB_spec ht
 exact Hp_clearMap hu hm H
theorem snoc_fit {I:List Nat} {i n:Nat} (h2:I.Nodup) (h3:∀i∈I,i<n) (hi:i∉I) (hil:i<n):(I++[i]).Nodup∧(∀j∈I++[i],j<n)∧I.length+1≤n:=by
 have hn:=nodup_snoc h2 hi
 have hlt:∀j∈I++[i],j<n:=fun j hj=>by
  rcases List.mem_append.1 hj with x|x
  ·exact h3 j x
  ·simp at x; omega
 have hle:=nodup_len hn hlt
 simp at hle
 exact ⟨hn,hlt,hle⟩
theorem loopMap0 {body:(Heap→Prop)→Heap→Prop} {it m:Nat} {l:List (κ×Value)} (Φ:List Nat→Heap→Prop) (h0:MapIt kV h it m l []) (hΦ:Φ [] h)
 (hb:∀I h,MapIt kV h it m l I→I.Nodup→(∀i∈I,i<l.length)→Φ I h→∀X:Heap→Prop,(∀i h',i∉I→i<l.length→MapIt kV h' it m l (I++[i])→Φ (I++[i]) h'→X h')→body X h):LoopC 0 body [] h ⟨⟩:=by
 refine loopA0 (α:=List Nat) (fun I h=>MapIt kV h it m l I∧I.Nodup∧(∀i∈I,i<l.length)∧Φ I h) (fun I=>l.length-I.length) [] ⟨h0,by simp,by simp,hΦ⟩ ?_
 rintro I g ⟨h1,h2,h3,h4⟩
 refine hb I g h1 h2 h3 h4 _ (fun i h' hi hil hm hp => ?_)
 obtain ⟨a,b,c⟩:=snoc_fit h2 h3 hi hil
 exact ⟨I++[i],⟨hm,a,b,hp⟩,by simp; omega⟩
theorem loopMap1 {α:Type} {body:(VP)→VP} {it m:Nat} {l:List (κ×Value)} {v1:Value} (f1:α→Value) (Φ:List Nat→α→Heap→Prop) (a0:α) (h0:MapIt kV h it m l []) (hf:v1=f1 a0) (hΦ:Φ [] a0 h)
 (hb:∀I a h,MapIt kV h it m l I→I.Nodup→(∀i∈I,i<l.length)→Φ I a h→∀X:VP,(∀i a' h',i∉I→i<l.length→MapIt kV h' it m l (I++[i])→Φ (I++[i]) a' h'→X (f1 a') h')→body X (f1 a) h):LoopC 1 body [v1] h ⟨⟩:=by
 refine loopA1 (α:=List Nat×α) (fun p=>f1 p.2) (fun p h=>MapIt kV h it m l p.1∧p.1.Nodup∧(∀i∈p.1,i<l.length)∧Φ p.1 p.2 h) (fun p=>l.length-p.1.length) ([],a0) hf ⟨h0,by simp,by simp,hΦ⟩ ?_
 rintro ⟨I,a⟩ g ⟨h1,h2,h3,h4⟩
 refine hb I a g h1 h2 h3 h4 _ (fun i a' h' hi hil hm hp => ?_)
 obtain ⟨x,y,z⟩:=snoc_fit (I:=I) h2 h3 hi hil
 exact ⟨(I++[i],a'),rfl,⟨hm,x,y,hp⟩,by show l.length-(I++[i]).length<l.length-I.length; rw [List.length_append,List.length_singleton]; omega⟩
end
end Go.Vc

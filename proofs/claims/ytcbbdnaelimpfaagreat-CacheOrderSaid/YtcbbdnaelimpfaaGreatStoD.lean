/- Store: what the laws bar; scripts played. Store: a script played. Store: two pieces, of which one lasts. Store: what a crash leaves of a file. -/
import Derived.Test.YtcbbdnaelimpfaaGreatStoC
import Derived.Test.YtcbbdnaelimpfaaGreatStoA
set_option linter.unusedSimpArgs false
set_option linter.unusedVariables false
namespace Go.Proofs.YtcbbdnaelimpfaaGreat
open Go.Vc
variable {K : Value → Heap → Prop} {h : Heap}

def Lim6 (x : Stp) : Prop := x.b.length ≤ 3000 ∧ x.fs.length ≤ 60
end Go.Proofs.YtcbbdnaelimpfaaGreat
set_option linter.unusedSimpArgs false
set_option linter.unusedVariables false
namespace Go.Proofs.YtcbbdnaelimpfaaGreat
open Go.Vc
variable {K : Value → Heap → Prop} {h : Heap}

structure PI (o h : Heap) (p : Nat) (s : St) (n m : Nat) (c : Bool) : Prop where
  st : StAt h p s
  ext : Ext o h
  foot : ∀ b, s.foot p b → o.size ≤ b
  steps : s.steps ≤ n
  fat : s.fates.length ≤ m
  nil : c = true → s.fates = []
theorem PI.up {o h' : Heap} {p : Nat} {s s' : St} {n m n' m' : Nat} {c : Bool} (I : PI o h p s n m c) (u : SUpd h h' p s s') (h1 : s'.steps ≤ n') (h2 : s'.fates.length ≤ m') (h3 : c = true → s'.fates = []) : PI o h' p s' n' m' c :=
  ⟨u.st, u.mod.ext_from I.ext (fun b hb e => by have := I.foot b e; omega), fun b hb => (u.foot b hb).elim (I.foot b) (fun e => by have := I.ext.size; omega), h1, h2, h3⟩
theorem PI.of_ext {o h' : Heap} {p : Nat} {s : St} {n m n' m' : Nat} {c : Bool} (I : PI o h p s n m c) (e : Ext h h') (h1 : n ≤ n') (h2 : m ≤ m') : PI o h' p s n' m' c :=
  ⟨I.st.ext e, I.ext.trans e, I.foot, Nat.le_trans I.steps h1, Nat.le_trans I.fat h2, I.nil⟩
end Go.Proofs.YtcbbdnaelimpfaaGreat
set_option linter.unusedSimpArgs false
set_option linter.unusedVariables false
namespace Go.Proofs.YtcbbdnaelimpfaaGreat
open Go.Vc
variable {K : Value → Heap → Prop} {h : Heap}

theorem get_of {p : Nat} {s : St} (a : StAt h p s) {x : Fh} (hx : x ∈ s.F) {l : List UInt8} (hn : x.name = l) : s.get l = some x := hn ▸ (psOf_mem a hx).1
def wxyz : List UInt8 := [119, 120, 121, 122]
def kF : Fl := (⟨[97], [], []⟩ : Fl).writes (cutP 510 wxyz)
end Go.Proofs.YtcbbdnaelimpfaaGreat
set_option linter.unusedSimpArgs false
set_option linter.unusedVariables false
namespace Go.Proofs.YtcbbdnaelimpfaaGreat
open Go.Vc
variable {K : Value → Heap → Prop} {h : Heap}

theorem crashAll_mem : ∀ {fs : List Fl} {f : Fl} (ks : List Int), f ∈ fs → ∃ j, j + f.ps.length ≤ npc fs ∧ f.crash (ks.drop j) ∈ crashAll ks fs
  | g :: fs, f, ks, hf => by
    rcases List.mem_cons.1 hf with rfl | hf
    · exact ⟨0, by simp [npc], by rw [crashAll]; simp⟩
    · obtain ⟨j, h1, h2⟩ := crashAll_mem (ks.drop g.ps.length) hf
      refine ⟨g.ps.length + j, ?_, ?_⟩
      · simp only [npc, List.map_cons, List.sum_cons] at h1 ⊢; omega
      · rw [crashAll, ← List.drop_drop]; exact List.mem_cons_of_mem _ h2
theorem flOf_mem {p : Nat} {s : St} (a : StAt h p s) {x : Fh} (hx : x ∈ s.F) : s.flOf x.name = x.f := by unfold St.flOf; rw [get_of a hx rfl]
theorem npc_perm {p : Nat} {s : St} (a : StAt h p s) {L : List (List UInt8)} (hp : L.Perm (s.F.map (·.name))) : npc (L.map s.flOf) = s.pend := by
  rw [← pend_perm a hp]
  unfold npc
  rw [List.map_map]
  congr 1
  refine List.map_congr_left fun n hn => ?_
  obtain ⟨x, hx, rfl⟩ := List.mem_map.1 (hp.mem_iff.1 hn)
  show (s.flOf x.name).ps.length = _
  rw [flOf_mem a hx, (psOf_mem a hx).2]
theorem crash_file {g : Heap} {p p' : Nat} {s s' : St} {L : List (List UInt8)} {ks : List Int} (a : StAt h p s) (a' : StAt g p' s') (hp : L.Perm (s.F.map (·.name))) (hc : s'.F.map Fh.f = crashAll ks (L.map s.flOf)) {x : Fh} (hx : x ∈ s.F) :
    ∃ y ∈ s'.F, y.name = x.name ∧ ∃ j, j + x.f.ps.length ≤ s.pend ∧ y.f = x.f.crash (ks.drop j) := by
  have hm : x.f ∈ L.map s.flOf := List.mem_map.2 ⟨x.name, hp.mem_iff.2 (List.mem_map_of_mem hx), flOf_mem a hx⟩
  obtain ⟨j, h1, h2⟩ := crashAll_mem ks hm
  rw [← hc] at h2
  obtain ⟨y, hy, he⟩ := List.mem_map.1 h2
  refine ⟨y, hy, ?_, j, by rw [npc_perm a hp] at h1; exact h1, he⟩
  have : y.f.name = y.name := rfl
  rw [← this, he]; rfl
theorem crashAll_back : ∀ {fs : List Fl} {ks : List Int} {f : Fl}, f ∈ crashAll ks fs → ∃ g ∈ fs, ∃ j, f = g.crash (ks.drop j)
  | [], _, _, h => by cases h
  | g :: fs, ks, f, h => by
    rw [crashAll] at h
    rcases List.mem_cons.1 h with rfl | h
    · exact ⟨g, List.mem_cons_self, 0, by simp⟩
    · obtain ⟨g', h1, j, h2⟩ := crashAll_back h
      exact ⟨g', List.mem_cons_of_mem _ h1, g.ps.length + j, by rw [h2, List.drop_drop]⟩
theorem crash_back {p : Nat} {s s' : St} {L : List (List UInt8)} {ks : List Int} (a : StAt h p s) (hp : L.Perm (s.F.map (·.name))) (hc : s'.F.map Fh.f = crashAll ks (L.map s.flOf)) {y : Fh} (hy : y ∈ s'.F) :
    ∃ x ∈ s.F, y.name = x.name ∧ ∃ j, y.f = x.f.crash (ks.drop j) := by
  have : y.f ∈ crashAll ks (L.map s.flOf) := hc ▸ List.mem_map_of_mem hy
  obtain ⟨g, hg, j, he⟩ := crashAll_back this
  obtain ⟨n, hn, rfl⟩ := List.mem_map.1 hg
  obtain ⟨x, hx, rfl⟩ := List.mem_map.1 (hp.mem_iff.1 hn)
  rw [flOf_mem a hx] at he
  refine ⟨x, hx, ?_, j, he⟩
  have : y.f.name = y.name := rfl
  rw [← this, he]; rfl
theorem crash_same {x y : Fh} {ks : List Int} (hx : x.qs = []) (he : y.f = x.f.crash ks) : y.last = x.last ∧ y.qs = [] := by
  have h1 : y.f.last = y.last := rfl
  have h2 : y.f.ps = y.qs.map (·.1) := rfl
  have h3 : x.f.ps = [] := by show x.qs.map (·.1) = []; rw [hx]; rfl
  rw [he] at h1 h2
  constructor
  · rw [← h1]
    show layAll x.last (picked ks x.f.ps) = x.last
    rw [h3]
    have : picked ks ([] : List Pc) = [] := by cases ks <;> rfl
    rw [this]; rfl
  · exact List.map_eq_nil_iff.1 h2.symm
end Go.Proofs.YtcbbdnaelimpfaaGreat

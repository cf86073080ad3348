/- Store: what the laws bar; scripts played. Store: a script played. Store: two pieces, of which one lasts. Store: what a crash leaves of a file. -/
import Derived.Test.YtcbbdnaelimpfaaGreatStoC
import Derived.Test.YtcbbdnaelimpfaaGreatStoA
set_option linter.unusedSimpArgs false
set_option linter.unusedVariables false
namespace Go.Proofs.YtcbbdnaelimpfaaGreat
open Go.Vc
variable {K : Value → Heap → Prop} {h : Heap}

theorem refRight_c {v : Value} {fs : List (Int × Int)} (a : Fas h v fs) (H : K (.bool (fs.all rightF)) h) : CallsH Tryz.prog 21 #[v] h K ⟨⟩ := by
  refine n21_calls ?_
  unfold n21
  obtain ⟨a0, c, rfl, hc⟩ := a.form
  have hfew := a.few
  refine loopX1 (α := Nat) (fun i => .int .i64 i) (fun i g => i ≤ fs.length ∧ g = h ∧ ∀ j (hj : j < fs.length), j < i → rightF fs[j] = true) (fun i => fs.length - i) 0 rfl ⟨Nat.zero_le _, rfl, fun j _ hj => by omega⟩ ?_
  rintro i g ⟨hi, rfl, hr⟩ X hX
  by_cases hin : i < fs.length
  · obtain ⟨ad, c', hv, -, q1, q2⟩ := a.cell hin
    cases hv
    have no : rightF fs[i] = false → K (.bool false) g := fun hb => by
      have : fs.all rightF = false := by
        rw [List.all_eq_false]
        exact ⟨fs[i], List.getElem_mem hin, by rw [hb]; decide⟩
      rw [this] at H; exact H
    by_cases h1 : fs[i].1 < 0
    · simp (disch := omega) [q1, h1]
      exact no (by unfold rightF; rw [decide_eq_false (by omega)]; rfl)
    by_cases h2 : 2 < fs[i].1
    · simp (disch := omega) [q1, h1, h2]
      exact no (by unfold rightF; rw [decide_eq_false (show ¬ fs[i].1 ≤ 2 by omega)]; simp)
    · simp (disch := omega) [q1, h1, h2]
      refine hX (i + 1) _ _ (by simp) ⟨hin, rfl, fun j hj hji => ?_⟩ (by omega)
      by_cases e : j = i
      · subst e
        unfold rightF; simp; omega
      · exact hr j hj (by omega)
  · obtain rfl : i = fs.length := by omega
    have : fs.all rightF = true := by
      rw [List.all_eq_true]
      intro f hf
      obtain ⟨j, hj, rfl⟩ := List.getElem_of_mem hf
      exact hr j hj hj
    rw [this] at H
    simp (disch := omega)
    exact H

def Lim6 (x : Stp) : Prop := x.b.length ≤ 3000 ∧ x.fs.length ≤ 60
end Go.Proofs.YtcbbdnaelimpfaaGreat
set_option linter.unusedSimpArgs false
set_option linter.unusedVariables false
namespace Go.Proofs.YtcbbdnaelimpfaaGreat
open Go.Vc
variable {K : Value → Heap → Prop} {h : Heap}

structure PI (o h : Heap) (p : Nat) (s : St) (n m : Nat) (c : Bool) : Prop where
  st : StAt h p s
  ext : Ext o h
  foot : ∀ b, s.foot p b → o.size ≤ b
  steps : s.steps ≤ n
  fat : s.fates.length ≤ m
  nil : c = true → s.fates = []
theorem PI.up {o h' : Heap} {p : Nat} {s s' : St} {n m n' m' : Nat} {c : Bool} (I : PI o h p s n m c) (u : SUpd h h' p s s') (h1 : s'.steps ≤ n') (h2 : s'.fates.length ≤ m') (h3 : c = true → s'.fates = []) : PI o h' p s' n' m' c :=
  ⟨u.st, u.mod.ext_from I.ext (fun b hb e => by have := I.foot b e; omega), fun b hb => (u.foot b hb).elim (I.foot b) (fun e => by have := I.ext.size; omega), h1, h2, h3⟩
theorem PI.of_ext {o h' : Heap} {p : Nat} {s : St} {n m n' m' : Nat} {c : Bool} (I : PI o h p s n m c) (e : Ext h h') (h1 : n ≤ n') (h2 : m ≤ m') : PI o h' p s n' m' c :=
  ⟨I.st.ext e, I.ext.trans e, I.foot, Nat.le_trans I.steps h1, Nat.le_trans I.fat h2, I.nil⟩
end Go.Proofs.YtcbbdnaelimpfaaGreat
set_option linter.unusedSimpArgs false
set_option linter.unusedVariables false
namespace Go.Proofs.YtcbbdnaelimpfaaGreat
open Go.Vc
variable {K : Value → Heap → Prop} {h : Heap}

theorem get_of {p : Nat} {s : St} (a : StAt h p s) {x : Fh} (hx : x ∈ s.F) {l : List UInt8} (hn : x.name = l) : s.get l = some x := hn ▸ (psOf_mem a hx).1
def wxyz : List UInt8 := [119, 120, 121, 122]
def kF : Fl := (⟨[97], [], []⟩ : Fl).writes (cutP 510 wxyz)
end Go.Proofs.YtcbbdnaelimpfaaGreat
set_option linter.unusedSimpArgs false
set_option linter.unusedVariables false
namespace Go.Proofs.YtcbbdnaelimpfaaGreat
open Go.Vc
variable {K : Value → Heap → Prop} {h : Heap}

theorem crashAll_mem : ∀ {fs : List Fl} {f : Fl} (ks : List Int), f ∈ fs → ∃ j, j + f.ps.length ≤ npc fs ∧ f.crash (ks.drop j) ∈ crashAll ks fs
  | g :: fs, f, ks, hf => by
    rcases List.mem_cons.1 hf with rfl | hf
    · exact ⟨0, by simp [npc], by rw [crashAll]; simp⟩
    · obtain ⟨j, h1, h2⟩ := crashAll_mem (ks.drop g.ps.length) hf
      refine ⟨g.ps.length + j, ?_, ?_⟩
      · simp only [npc, List.map_cons, List.sum_cons] at h1 ⊢; omega
      · rw [crashAll, ← List.drop_drop]; exact List.mem_cons_of_mem _ h2
theorem flOf_mem {p : Nat} {s : St} (a : StAt h p s) {x : Fh} (hx : x ∈ s.F) : s.flOf x.name = x.f := by unfold St.flOf; rw [get_of a hx rfl]
theorem npc_perm {p : Nat} {s : St} (a : StAt h p s) {L : List (List UInt8)} (hp : L.Perm (s.F.map (·.name))) : npc (L.map s.flOf) = s.pend := by
  rw [← pend_perm a hp]
  unfold npc
  rw [List.map_map]
  congr 1
  refine List.map_congr_left fun n hn => ?_
  obtain ⟨x, hx, rfl⟩ := List.mem_map.1 (hp.mem_iff.1 hn)
  show (s.flOf x.name).ps.length = _
  rw [flOf_mem a hx, (psOf_mem a hx).2]
theorem crash_file {g : Heap} {p p' : Nat} {s s' : St} {L : List (List UInt8)} {ks : List Int} (a : StAt h p s) (a' : StAt g p' s') (hp : L.Perm (s.F.map (·.name))) (hc : s'.F.map Fh.f = crashAll ks (L.map s.flOf)) {x : Fh} (hx : x ∈ s.F) :
    ∃ y ∈ s'.F, y.name = x.name ∧ ∃ j, j + x.f.ps.length ≤ s.pend ∧ y.f = x.f.crash (ks.drop j) := by
  have hm : x.f ∈ L.map s.flOf := List.mem_map.2 ⟨x.name, hp.mem_iff.2 (List.mem_map_of_mem hx), flOf_mem a hx⟩
  obtain ⟨j, h1, h2⟩ := crashAll_mem ks hm
  rw [← hc] at h2
  obtain ⟨y, hy, he⟩ := List.mem_map.1 h2
  refine ⟨y, hy, ?_, j, by rw [npc_perm a hp] at h1; exact h1, he⟩
  have : y.f.name = y.name := rfl
  rw [← this, he]; rfl
theorem crash_len {x : Fh} (a : FlAt h x) (ks : List Int) : (x.f.crash ks).last.length = x.last.length := a.ok.crash_len ks
theorem crashAll_back : ∀ {fs : List Fl} {ks : List Int} {f : Fl}, f ∈ crashAll ks fs → ∃ g ∈ fs, ∃ j, f = g.crash (ks.drop j)
  | [], _, _, h => by cases h
  | g :: fs, ks, f, h => by
    rw [crashAll] at h
    rcases List.mem_cons.1 h with rfl | h
    · exact ⟨g, List.mem_cons_self, 0, by simp⟩
    · obtain ⟨g', h1, j, h2⟩ := crashAll_back h
      exact ⟨g', List.mem_cons_of_mem _ h1, g.ps.length + j, by rw [h2, List.drop_drop]⟩
theorem crashAll_len : ∀ (ks : List Int) (fs : List Fl), (crashAll ks fs).length = fs.length
  | _, [] => rfl
  | ks, f :: fs => by rw [crashAll, List.length_cons, crashAll_len, List.length_cons]
theorem crash_back {p : Nat} {s s' : St} {L : List (List UInt8)} {ks : List Int} (a : StAt h p s) (hp : L.Perm (s.F.map (·.name))) (hc : s'.F.map Fh.f = crashAll ks (L.map s.flOf)) {y : Fh} (hy : y ∈ s'.F) :
    ∃ x ∈ s.F, y.name = x.name ∧ ∃ j, y.f = x.f.crash (ks.drop j) := by
  have : y.f ∈ crashAll ks (L.map s.flOf) := hc ▸ List.mem_map_of_mem hy
  obtain ⟨g, hg, j, he⟩ := crashAll_back this
  obtain ⟨n, hn, rfl⟩ := List.mem_map.1 hg
  obtain ⟨x, hx, rfl⟩ := List.mem_map.1 (hp.mem_iff.1 hn)
  rw [flOf_mem a hx] at he
  refine ⟨x, hx, ?_, j, he⟩
  have : y.f.name = y.name := rfl
  rw [← this, he]; rfl
theorem crash_flen {s s' : St} {L : List (List UInt8)} {ks : List Int} (hp : L.Perm (s.F.map (·.name))) (hc : s'.F.map Fh.f = crashAll ks (L.map s.flOf)) : s'.F.length = s.F.length := by
  have h1 := congrArg List.length hc
  rw [List.length_map, crashAll_len, List.length_map, hp.length_eq, List.length_map] at h1
  exact h1
theorem crash_same {x y : Fh} {ks : List Int} (hx : x.qs = []) (he : y.f = x.f.crash ks) : y.last = x.last ∧ y.qs = [] := by
  have h1 : y.f.last = y.last := rfl
  have h2 : y.f.ps = y.qs.map (·.1) := rfl
  have h3 : x.f.ps = [] := by show x.qs.map (·.1) = []; rw [hx]; rfl
  rw [he] at h1 h2
  constructor
  · rw [← h1]
    show layAll x.last (picked ks x.f.ps) = x.last
    rw [h3]
    have : picked ks ([] : List Pc) = [] := by cases ks <;> rfl
    rw [this]; rfl
  · exact List.map_eq_nil_iff.1 h2.symm
end Go.Proofs.YtcbbdnaelimpfaaGreat

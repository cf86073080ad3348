/- Plain: numbers as bytes, the lowest first. -/
import Derived.Test.YtcbbdnaelimpfaaGreatVcRow
namespace Go.Vc
open Go
set_option linter.unusedSimpArgs false
set_option linter.unusedVariables false

theorem Bytes.form {h : Heap} {v : Value} {l : List UInt8} (b : Bytes h v l) : ∃ o c, v = .slice o l.length c := by
  rcases b with ⟨rfl, rfl⟩ | ⟨a, c, rfl, _, _⟩
  · exact ⟨none, 0, rfl⟩
  · exact ⟨some a, c, rfl⟩
theorem Bytes.at {h : Heap} {o : Option Addr} {n c : Nat} {l : List UInt8} (b : Bytes h (.slice o n c) l) (hl : 0 < l.length) : ∃ a, o = some a ∧ n = l.length ∧ l.length ≤ c ∧ At h a l := by
  rcases b with ⟨e, rfl⟩ | ⟨a, c', e, h2, h3⟩
  · simp at hl
  · cases e; exact ⟨a, rfl, rfl, h2, h3⟩

theorem OwnS.pre {h : Heap} {B n c k : Nat} {L : List UInt8} (o : OwnS 1 h (.slice (some ⟨B, 0, none⟩) n c) (L.map byteV)) (hk : k ≤ L.length) :
    Bytes h (.slice (some ⟨B, 0, none⟩) k c) (L.take k) ∧ (∀ a n' c', Value.slice (some ⟨B, 0, none⟩) k c = .slice (some a) n' c' → ∀ i, i < (L.take k).length → hfrozen h (elt a i) = false) := by
  have hs := o.seg
  simp only [List.length_map, Nat.mul_one] at hs
  constructor
  · refine .inr ⟨⟨B, 0, none⟩, c, by congr 1; simp; omega, by simp; omega, fun i hi => ?_⟩
    simp only [List.length_take] at hi
    have := hs.2.2 i (by simp; omega)
    simpa using this
  · rintro a n' c' e i hi
    cases e
    simp only [List.length_take] at hi
    exact o.free (by omega)

theorem one_bytes (l : List UInt8) : ∀ u ∈ l.map byteV, one u = true := by
  intro u hu
  obtain ⟨b, _, rfl⟩ := List.mem_map.1 hu
  rfl

def leN : List UInt8 → Nat
  | [] => 0
  | b :: l => b.toNat + 256 * leN l

def leB : Nat → Nat → List UInt8
  | 0, _ => []
  | n + 1, x => UInt8.ofNat (x % 256) :: leB n (x / 256)
@[simp] theorem leB_length : ∀ (n x : Nat), (leB n x).length = n
  | 0, _ => rfl
  | n + 1, x => by simp [leB, leB_length n]
end Go.Vc

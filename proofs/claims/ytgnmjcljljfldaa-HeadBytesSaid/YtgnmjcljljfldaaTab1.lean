/- Tables: names, places, single rows. -/
import Derived.Test.YtgnmjcljljfldaaNice
import Derived.Test.YtgnmjcljljfldaaFacts
import Derived.Test.YtgnmjcljljfldaaRef08
import Derived.Test.YtgnmjcljljfldaaWire4
import Derived.Test.YtgnmjcljljfldaaVcMap
import Derived.Test.YtgnmjcljljfldaaCnt
set_option linter.unusedSimpArgs false
set_option linter.unusedVariables false
namespace Go.Proofs.Ytgnmjcljljfldaa
open Go.Vc
variable {K : Value → Heap → Prop} {h : Heap}

/-- Where a byte stands first. -/
def idxB (l : List UInt8) (b : UInt8) : Int := match (List.range (ByteArray.mk ⟨l⟩).size).find? fun i => (ByteArray.mk ⟨l⟩)[i]! == b with | some i => i | none => -1
theorem idxB_nonneg {l : List UInt8} {b : UInt8} : 0 ≤ idxB l b ↔ b ∈ l := by
  have hg : ∀ i (hi : i < l.length), (ByteArray.mk ⟨l⟩)[i]! = l[i] := fun i hi => by
    rw [getElem!_pos (ByteArray.mk ⟨l⟩) i (by simpa using hi)]; rfl
  unfold idxB
  cases hf : (List.range (ByteArray.mk ⟨l⟩).size).find? fun i => (ByteArray.mk ⟨l⟩)[i]! == b with
  | none =>
    simp only
    rw [List.find?_eq_none] at hf
    constructor
    · intro h; omega
    · intro h
      obtain ⟨i, hi, rfl⟩ := List.mem_iff_getElem.1 h
      have := hf i (by simpa using hi)
      rw [hg i hi] at this
      simp at this
  | some i =>
    have h1 := List.find?_some hf
    have h2 := List.mem_of_find?_eq_some hf
    simp at h2
    rw [hg i h2] at h1
    simp only
    constructor
    · intro _; rw [← eq_of_beq h1]; exact List.getElem_mem _
    · intro _; omega
theorem IndexByteS_c {l : List UInt8} {b : UInt8} (H : K (.int .i64 (idxB l b)) h) : ExtH Try.prog 93 #[str l, byteV b] h K ⟨⟩ := by
  refine ⟨_, Go.Extern.BytealgIndexByte.indexByte, Try.func93, by kernel_rfl, by kernel_rfl, by kernel_rfl, by kernel_rfl, ?_⟩
  have e : Go.Extern.BytealgIndexByte.indexByte #[str l, byteV b] = (match (List.range (ByteArray.mk ⟨l⟩).size).find? fun i => (ByteArray.mk ⟨l⟩)[i]! == b with | some i => pure (goInt i) | none => pure (goInt (-1))) := by
    show (match (List.range (ByteArray.mk ⟨l⟩).size).find? fun i => (ByteArray.mk ⟨l⟩)[i]! == ((b.toNat : Int).toNat.toUInt8) with | some i => pure (goInt i) | none => pure (goInt (-1))) = _
    rw [show ((b.toNat : Int).toNat.toUInt8) = b by simp]
  rw [e]
  unfold idxB at H
  split <;> (rename_i hx; rw [hx] at H; exact H)

theorem Contains0_c {l : List UInt8} (H : K (.bool (decide ((0 : UInt8) ∈ l))) h) : CallsH Try.prog 61 #[str l, str [0]] h K ⟨⟩ := by
  refine n61_calls ?_
  unfold n61
  refine n87_calls ?_
  unfold n87
  refine n88_calls ?_
  unfold n88
  simp (disch := omega)
  refine Split.mk (fun he => ?_) (fun he => ?_)
  · simp (disch := omega)
    simpa [← he] using H
  simp (disch := first | omega | simp)
  refine n89_calls ?_
  unfold n89
  refine IndexByteS_c ?_
  by_cases h0 : (0 : UInt8) ∈ l
  · have := idxB_nonneg.2 h0
    simp (disch := omega)
    simpa [h0] using H
  · have : ¬ 0 ≤ idxB l 0 := fun h => h0 (idxB_nonneg.1 h)
    simp (disch := omega)
    simpa [h0] using H

/-- A name that may be. -/
def NameOk (l : List UInt8) : Prop := 1 ≤ l.length ∧ l.length ≤ 64 ∧ (0 : UInt8) ∉ l
instance (l : List UInt8) : Decidable (NameOk l) := by unfold NameOk; infer_instance
theorem named_c {l : List UInt8} (ht : NameOk l → K (.bool true) h) (hf : ¬ NameOk l → K (.bool false) h) : CallsH Try.prog 75 #[str l] h K ⟨⟩ := by
  refine n75_calls ?_
  unfold n75
  by_cases h1 : 1 ≤ l.length
  · by_cases h2 : l.length ≤ 64
    · simp (disch := omega)
      refine Contains0_c ?_
      by_cases h0 : (0 : UInt8) ∈ l
      · simp (disch := omega) [h0]
        exact hf fun n => n.2.2 h0
      · simp (disch := omega) [h0]
        exact ht ⟨h1, h2, h0⟩
    · simp (disch := omega)
      exact hf fun n => h2 n.2.1
  · simp (disch := omega)
    exact hf fun n => h1 n.1

/-- A place that may be. -/
def PlaceOk (p b : Int) : Prop := 0 < p ∧ p ≤ 268435456 ∧ p % 2 ^ b.toNat = 0
theorem place_c {p b : Int} (h0 : 9 ≤ b) (h1 : b ≤ 16) (ht : PlaceOk p b → K (.bool true) h) (hf : ¬ PlaceOk p b → K (.bool false) h) : CallsH Try.prog 76 #[.int .i64 p, .int .i64 b] h K ⟨⟩ := by
  have hc := clus h0 h1
  have hw : IntKind.i64.wrap (2 ^ b.toNat) = 2 ^ b.toNat := wrap_i64 (by omega) (by omega)
  unfold PlaceOk at ht hf
  refine n76_calls ?_
  unfold n76
  by_cases hp : 0 < p
  · by_cases hp2 : p ≤ 268435456
    · simp (disch := omega) [Hp_shl, IntKind.bits, hw]
      exact Split.mk (fun hm => by simpa using ht ⟨hp, hp2, hm⟩) (fun hm => by simpa using hf fun n => hm n.2.2)
    · simp (disch := omega) [hp2]
      exact hf fun n => hp2 n.2.1
  · simp (disch := omega) [hp]
    exact hf fun n => hp n.1
end Go.Proofs.Ytgnmjcljljfldaa

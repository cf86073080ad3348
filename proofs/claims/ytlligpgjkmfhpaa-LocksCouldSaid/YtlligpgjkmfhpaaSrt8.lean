/- Sorting: lengths in bits; patterns broken. -/
import Derived.Test.YtlligpgjkmfhpaaSrt7
import Derived.Test.YtlligpgjkmfhpaaSrtU
set_option linter.unusedSimpArgs false
set_option linter.unusedVariables false
namespace Go.Proofs.Ytlligpgjkmfhpaa
open Go.Vc Go.Sort

section
variable {α : Type} [Inhabited α] {K : Value → Heap → Prop} {h0 h : Heap} {b n c : Nat} {val : α → Value} {d : Array α} {f : Value} {cm : α → α → Int}

def bitTab : List UInt8 := [0, 1, 2, 2, 3, 3, 3, 3, 4, 4, 4, 4, 4, 4, 4, 4, 5, 5, 5, 5, 5, 5, 5, 5, 5, 5, 5, 5, 5, 5, 5, 5, 6, 6, 6, 6, 6, 6, 6, 6, 6, 6, 6, 6, 6, 6, 6, 6, 6, 6, 6, 6, 6, 6, 6, 6, 6, 6, 6, 6, 6, 6, 6, 6, 7, 7, 7, 7, 7, 7, 7, 7, 7, 7, 7, 7, 7, 7, 7, 7, 7, 7, 7, 7, 7, 7, 7, 7, 7, 7, 7, 7, 7, 7, 7, 7, 7, 7, 7, 7, 7, 7, 7, 7, 7, 7, 7, 7, 7, 7, 7, 7, 7, 7, 7, 7, 7, 7, 7, 7, 7, 7, 7, 7, 7, 7, 7, 7, 8, 8, 8, 8, 8, 8, 8, 8, 8, 8, 8, 8, 8, 8, 8, 8, 8, 8, 8, 8, 8, 8, 8, 8, 8, 8, 8, 8, 8, 8, 8, 8, 8, 8, 8, 8, 8, 8, 8, 8, 8, 8, 8, 8, 8, 8, 8, 8, 8, 8, 8, 8, 8, 8, 8, 8, 8, 8, 8, 8, 8, 8, 8, 8, 8, 8, 8, 8, 8, 8, 8, 8, 8, 8, 8, 8, 8, 8, 8, 8, 8, 8, 8, 8, 8, 8, 8, 8, 8, 8, 8, 8, 8, 8, 8, 8, 8, 8, 8, 8, 8, 8, 8, 8, 8, 8, 8, 8, 8, 8, 8, 8, 8, 8, 8, 8, 8, 8, 8, 8, 8, 8, 8, 8, 8, 8, 8, 8]
theorem bitTab_ok : (List.range 256).all (fun v => decide (bitTab[v]? = some (UInt8.ofNat (bitsLen v)))) = true := by kernel_rfl
theorem bitTab_get {v : Nat} (hv : v < 256) : bitTab[v]? = some (UInt8.ofNat (bitsLen v)) := by
  have := List.all_eq_true.1 bitTab_ok v (by simpa using hv)
  simpa using this
theorem bitsLen_small {v : Nat} (hv : v < 256) : bitsLen v < 9 := by
  rcases Nat.eq_zero_or_pos v with h | h
  · subst h; decide
  · have := (bitsLen_pow h).1
    refine Nat.lt_of_not_le fun hlt => ?_
    have h3 : 2 ^ 9 ≤ 2 ^ bitsLen v := Nat.pow_le_pow_right (by omega) hlt
    have : (2 : Nat) ^ 9 = 512 := by decide
    omega
set_option maxRecDepth 20000 in
set_option maxHeartbeats 1000000 in
theorem len64_c {n : Nat} (hn : n < 16777216) (H : K (.int .i64 (bitsLen n)) h) : CallsH Try.prog 67 #[.int .u64 n] h K ⟨⟩ := by
  refine n67_calls ?_
  unfold n67
  rw [show ([0, 1, 2, 2, 3, 3, 3, 3, 4, 4, 4, 4, 4, 4, 4, 4, 5, 5, 5, 5, 5, 5, 5, 5, 5, 5, 5, 5, 5, 5, 5, 5, 6, 6, 6, 6, 6, 6, 6, 6, 6, 6, 6, 6, 6, 6, 6, 6, 6, 6, 6, 6, 6, 6, 6, 6, 6, 6, 6, 6, 6, 6, 6, 6, 7, 7, 7, 7, 7, 7, 7, 7, 7, 7, 7, 7, 7, 7, 7, 7, 7, 7, 7, 7, 7, 7, 7, 7, 7, 7, 7, 7, 7, 7, 7, 7, 7, 7, 7, 7, 7, 7, 7, 7, 7, 7, 7, 7, 7, 7, 7, 7, 7, 7, 7, 7, 7, 7, 7, 7, 7, 7, 7, 7, 7, 7, 7, 7, 8, 8, 8, 8, 8, 8, 8, 8, 8, 8, 8, 8, 8, 8, 8, 8, 8, 8, 8, 8, 8, 8, 8, 8, 8, 8, 8, 8, 8, 8, 8, 8, 8, 8, 8, 8, 8, 8, 8, 8, 8, 8, 8, 8, 8, 8, 8, 8, 8, 8, 8, 8, 8, 8, 8, 8, 8, 8, 8, 8, 8, 8, 8, 8, 8, 8, 8, 8, 8, 8, 8, 8, 8, 8, 8, 8, 8, 8, 8, 8, 8, 8, 8, 8, 8, 8, 8, 8, 8, 8, 8, 8, 8, 8, 8, 8, 8, 8, 8, 8, 8, 8, 8, 8, 8, 8, 8, 8, 8, 8, 8, 8, 8, 8, 8, 8, 8, 8, 8, 8, 8, 8, 8, 8, 8, 8, 8, 8] : List UInt8) = bitTab from rfl]
  generalize hT : bitTab = BT
  have fin : ∀ {z : Int}, z = (bitsLen n : Int) → K (.int .i64 z) h := fun e => by rw [e]; exact H
  by_cases h1 : n < 65536
  · refine JoinN.mk ?_
    simp (disch := omega)
    refine JoinN.mk ?_
    simp (disch := omega)
    by_cases h2 : n < 256
    · have hx := bitTab_get h2
      have hb := bitsLen_small h2
      rw [hT] at hx
      refine JoinN.mk ?_
      simp (disch := omega)
      have e : ((n : Int) % 256).toNat = n := by omega
      refine (Hp_indexStr (l := BT) (b := UInt8.ofNat (bitsLen n)) (by kernel_rfl) (by omega) (by first | exact hx | (rw [e]; exact hx))).2 ?_
      simp (disch := omega)
      exact fin (by omega)
    · have hx := bitTab_get (show n / 256 < 256 by omega)
      have hb := bitsLen_small (show n / 256 < 256 by omega)
      have hl := bitsLen_256 (show 256 ≤ n by omega)
      rw [hT] at hx
      refine JoinN.mk ?_
      simp (disch := omega) [Hp_shr_u64]
      have e : ((n : Int) / 256 % 256).toNat = n / 256 := by omega
      refine (Hp_indexStr (l := BT) (b := UInt8.ofNat (bitsLen (n / 256))) (by kernel_rfl) (by omega) (by first | exact hx | (rw [e]; exact hx))).2 ?_
      simp (disch := omega)
      exact fin (by omega)
  · refine JoinN.mk ?_
    simp (disch := omega)
    refine JoinN.mk ?_
    simp (disch := omega) [Hp_shr_u64]
    have hx := bitTab_get (show n / 65536 < 256 by omega)
    have hb := bitsLen_small (show n / 65536 < 256 by omega)
    have hl := bitsLen_65536 (show 65536 ≤ n by omega)
    rw [hT] at hx
    refine JoinN.mk ?_
    simp (disch := omega)
    have e : ((n : Int) / 65536 % 256).toNat = n / 65536 := by omega
    refine (Hp_indexStr (l := BT) (b := UInt8.ofNat (bitsLen (n / 65536))) (by kernel_rfl) (by omega) (by first | exact hx | (rw [e]; exact hx))).2 ?_
    simp (disch := omega)
    exact fin (by omega)
theorem len_c {n : Nat} (hn : n < 16777216) (H : K (.int .i64 (bitsLen n)) h) : CallsH Try.prog 53 #[.int .u64 n] h K ⟨⟩ := by
  refine n53_calls ?_
  unfold n53
  simp (disch := omega)
  exact len64_c hn H
theorem npow_c {n : Nat} (hn : n < 16777216) (H : K (.int .u64 (2 ^ bitsLen n : Nat)) h) : CallsH Try.prog 71 #[.int .i64 n] h K ⟨⟩ := by
  refine n71_calls ?_
  unfold n71
  have hb := bitsLen_le hn
  have hpw : 2 ^ bitsLen n ≤ 2 ^ 24 := Nat.pow_le_pow_right (by omega) hb
  have h24 : (2 : Nat) ^ 24 = 16777216 := by decide
  simp (disch := omega)
  refine len_c hn ?_
  rw [Hp_shl_u64 (by omega) (by omega), ValI_iff]
  have e : IntKind.u64.wrap (1 * 2 ^ (bitsLen n : Int).toNat) = ((2 ^ bitsLen n : Nat) : Int) := by
    have : (1 : Int) * 2 ^ (bitsLen n : Int).toNat = ((2 ^ bitsLen n : Nat) : Int) := by simp
    rw [this]
    generalize (2 : Nat) ^ bitsLen n = M at hpw
    exact wrap_u64 (by omega) (by omega)
  rw [e]
  exact H
/-- A word in a cell of its own. -/
def Rw64 (h : Heap) (q : Nat) (r : UInt64) : Prop := h[q]? = some (.cells #[w64 r] 108)
theorem cell64 {g : Heap} {q : Nat} {r : UInt64} (hr : g[q]? = some (.cells #[w64 r] 108)) : hcell g ⟨q, 0, none⟩ = some (w64 r) := by
  unfold hcell; simp [hr]
theorem frz64 {g : Heap} {q : Nat} {r : UInt64} (hr : g[q]? = some (.cells #[w64 r] 108)) : hfrozen g ⟨q, 0, none⟩ = false := by
  unfold hfrozen; simp [hr]
theorem set64 {g : Heap} {q : Nat} {r : UInt64} (hr : g[q]? = some (.cells #[w64 r] 108)) (r' : UInt64) : (hset g ⟨q, 0, none⟩ (w64 r'))[q]? = some (.cells #[w64 r'] 108) := by
  rw [hset_of_block hr, get_put (get_some_lt hr)]
  simp
theorem next_c {q : Nat} {r : UInt64} (hr : Rw64 h q r) (H : ∀ h', Rw64 h' q (xorNext r) → Mod (· = q) h h' → K (w64 (xorNext r)) h') : CallsH Try.prog 72 #[.pointer (some ⟨q, 0, none⟩)] h K ⟨⟩ := by
  refine n72_calls ?_
  unfold n72
  have st := fun a r K h => Hp_store (P := Try.prog) (t := 108) (a := a) (v := w64 r) (K := K) (h := h) (by kernel_rfl) (w64_one r)
  have c0 : hcell h ⟨q, 0, none⟩ = some (w64 r) := cell64 hr
  have f0 : hfrozen h ⟨q, 0, none⟩ = false := frz64 hr
  obtain ⟨r1, e1⟩ : ∃ r1, r1 = r ^^^ (r <<< 13) := ⟨_, rfl⟩
  obtain ⟨r2, e2⟩ : ∃ r2, r2 = r1 ^^^ (r1 >>> 7) := ⟨_, rfl⟩
  obtain ⟨r3, e3⟩ : ∃ r3, r3 = r2 ^^^ (r2 <<< 17) := ⟨_, rfl⟩
  have en : xorNext r = r3 := by rw [e3, e2, e1]; rfl
  rw [en] at H
  have w1 := set64 hr r1
  have w2 := set64 w1 r2
  have w3 := set64 w2 r3
  simp (disch := omega) [c0, f0, Hp_shl13, Hp_xorU, ← e1, st]
  have c1 := cell64 w1
  have f1 := frz64 w1
  have m1 : Mod (· = q) h (hset h ⟨q, 0, none⟩ (w64 r1)) := Mod.set h ⟨q, 0, none⟩ _
  generalize hset h ⟨q, 0, none⟩ (w64 r1) = g1 at w1 w2 w3 c1 f1 m1 ⊢
  simp (disch := omega) [c1, f1, Hp_shr7, Hp_xorU, ← e2, st]
  have c2 := cell64 w2
  have f2 := frz64 w2
  have m2 : Mod (· = q) g1 (hset g1 ⟨q, 0, none⟩ (w64 r2)) := Mod.set g1 ⟨q, 0, none⟩ _
  generalize hset g1 ⟨q, 0, none⟩ (w64 r2) = g2 at w2 w3 c2 f2 m2 ⊢
  simp (disch := omega) [c2, f2, Hp_shl17, Hp_xorU, ← e3, st]
  have c3 := cell64 w3
  have m3 : Mod (· = q) g2 (hset g2 ⟨q, 0, none⟩ (w64 r3)) := Mod.set g2 ⟨q, 0, none⟩ _
  generalize hset g2 ⟨q, 0, none⟩ (w64 r3) = g3 at w3 c3 m3 ⊢
  try simp (disch := omega) [c3]
  exact H _ w3 ((m1.trans m2 (fun _ _ e => e)).trans m3 (fun _ _ e => e))
end
end Go.Proofs.Ytlligpgjkmfhpaa

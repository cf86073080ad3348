/- Counts: the reference's reading, and writing. -/
import Derived.Test.YtmppolccfjfoaaaCounts
set_option linter.unusedSimpArgs false
set_option linter.unusedVariables false
namespace Go.Proofs.Ytmppolccfjfoaaa
open Go.Vc
variable {K : Value → Heap → Prop} {h : Heap}

theorem wok_wd {o : Int} (hw : wd o ≠ 0) : wok (wd o) := wd_ok hw

theorem RefAt_c {o : Int} {n : Nat} {v : Value} {l : List UInt8} (hB : Bytes h v l) (hl : l.length < 1000000000) (hw : wd o ≠ 0) (hn : n * wd o + wd o ≤ 8 * l.length) (H : K (.int .u64 (cnt l (wd o) n)) h) :
    CallsH Try.prog 50 #[v, .int .i64 o, .int .i64 n] h K ⟨⟩ := by
  have hwp := wok_pos (wok_wd hw)
  obtain ⟨a, c, rfl⟩ := hB.form
  obtain ⟨a, rfl, -, hc, hA⟩ := hB.at (by omega)
  unfold cnt at H
  refine n50_calls ?_
  unfold n50
  refine RefWidth_c ?_
  generalize hwo : wd o = w at *
  generalize hp : n * w = p at *
  have hpi : (n : Int) * (w : Int) = p := by rw [← hp]; push_cast; rfl
  simp (disch := omega)
  obtain ⟨F, hF⟩ : ∃ F : Nat → Nat, ∀ k, F k = leN l / 2 ^ (p + k) % 2 ^ (w - k) := ⟨_, fun _ => rfl⟩
  refine loopA2 (fun k : Nat => .int .u64 (F k)) (fun k : Nat => .int .i64 ((k : Int) - 1)) (fun k h' => h' = h ∧ k ≤ w) (fun k => k) w ⟨by simp [hF, Nat.mod_one], by simp⟩ ⟨rfl, by omega⟩ ?_
  rintro k h' ⟨rfl, hk⟩
  by_cases hk0 : k = 0
  · subst hk0
    simp (disch := omega)
    rw [hF]
    simpa using H
  · have hst := cnt_step (leN l) (p + (k - 1)) (w - k)
    rw [show p + (k - 1) + 1 = p + k by omega, show w - k + 1 = w - (k - 1) by omega] at hst
    have hb := bit_of (l := l) (p := p + (k - 1)) (by omega)
    have hcell := hA ((p + (k - 1)) / 8) (by omega)
    have hbd := shr_bd (l[(p + (k - 1)) / 8]'(by omega)) ((p + (k - 1)) % 8)
    have t1 : (((p : Int) + (↑k - 1)) / 8).toNat = (p + (k - 1)) / 8 := by omega
    have t2 : (((p : Int) + (↑k - 1)) % 8).toNat = (p + (k - 1)) % 8 := by omega
    have h64 : leN l / 2 ^ (p + (k - 1)) % 2 ^ (w - (k - 1)) < 18446744073709551616 := Nat.lt_of_lt_of_le (Nat.mod_lt _ (Nat.pow_pos (by omega))) (Nat.pow_le_pow_right (show 0 < 2 by omega) (show w - (k - 1) ≤ 64 by omega))
    have hbI : ((l[(p + (k - 1)) / 8]'(by omega)).toNat : Int) / 2 ^ ((p + (k - 1)) % 8) % 2 = ((leN l / 2 ^ (p + (k - 1)) % 2 : Nat) : Int) := by rw [← hb]; push_cast; rfl
    rw [← hF, ← hF] at hst
    rw [← hF] at h64
    generalize hZ : leN l / 2 ^ (p + (k - 1)) % 2 = Z at *
    simp (disch := omega) [hpi, t1, t2, hcell, Hp_shrB, hbI]
    exact ⟨k - 1, by omega, by omega, by omega, by omega⟩

theorem set_app {l z : List UInt8} {k : Nat} {x : UInt8} (hk : k < l.length) : (l ++ z).set k x = l.set k x ++ z := by
  rw [List.set_append_left _ _ hk]
theorem get_app {l z : List UInt8} {k : Nat} (hk : k < l.length) : (l ++ z)[k]'(by simp; omega) = l[k] := List.getElem_append_left hk

theorem stB {a : Addr} {b : UInt8} {K : Value → Heap → Prop} {h : Heap} : Hp Try.prog false (storeS 5 (.pointer (some a)) (byteV b)) K h ⟨⟩ ↔ StoreP (hcell h a) (hfrozen h a) (K undef (hset h a (byteV b))) ⟨⟩ := Hp_store (by kernel_rfl) rfl

theorem small_is {l : List UInt8} {w n x : Nat} {b1 b2 : UInt8} (hs : w = 1 ∨ w = 2 ∨ w = 4) (hx : x < 2 ^ w) (hn : n * w + w ≤ 8 * l.length)
    (e1 : b1 = UInt8.ofNat ((l[n * w / 8]'(by omega)).toNat &&& (2 ^ 8 - ((2 ^ w - 1) * 2 ^ (n * w % 8) % 256 + 1)))) (e2 : b2 = UInt8.ofNat (b1.toNat ||| x * 2 ^ (n * w % 8) % 256)) :
    (l.set (n * w / 8) b1).set (n * w / 8) b2 = setC l w n x := by
  have hb := wok_small (n := n) hs
  have hm : n * w / 8 < l.length := by omega
  rw [List.set_set]
  refine setC_is (by simp) hn fun j hj => ?_
  rw [tb_set hm j hj, e2, e1]
  by_cases h : j / 8 = n * w / 8
  · rw [if_pos h, tb_lay hx (by omega)]
    by_cases h2 : n * w ≤ j ∧ j < n * w + w
    · rw [if_pos h2, if_pos (by omega)]; congr 1; omega
    · rw [if_neg h2, if_neg (by omega), tb_leN l j (by omega)]; simp only [h]
  · rw [if_neg h, if_neg (by omega)]

theorem over_set {α : Type} {l a : List α} {p : Nat} {b : α} (hp : p + a.length < l.length) : (over l p a).set (p + a.length) b = over l p (a ++ [b]) := by
  refine List.ext_getElem? fun i => ?_
  have hl := over_length (l := l) (new := a) (k := p) (by omega)
  rw [List.getElem?_set, hl, over_get? (by omega), over_get? (by simp; omega)]
  simp only [List.length_append, List.length_singleton]
  by_cases h1 : p + a.length = i
  · subst h1
    rw [if_pos rfl, if_pos hp, if_neg (by omega), if_pos (by omega), Nat.add_sub_cancel_left, List.getElem?_append_right (Nat.le_refl _)]; simp
  · rw [if_neg h1]
    by_cases h2 : i < p
    · rw [if_pos h2, if_pos h2]
    · rw [if_neg h2, if_neg h2]
      by_cases h3 : i < p + a.length
      · rw [if_pos h3, if_pos (by omega), List.getElem?_append_left (by omega)]
      · rw [if_neg h3, if_neg (by omega)]
theorem _root_.Go.Vc.Mod.setE (h : Heap) (B k : Nat) (v : Value) : Mod (· = B) h (hset h (elt ⟨B, 0, none⟩ k) v) := by
  have := Mod.set h (elt ⟨B, 0, none⟩ k) v
  simpa using this
theorem cset_c {B m c w n x : Nat} {l z : List UInt8} (hO : OwnS 1 h (.slice (some ⟨B, 0, none⟩) m c) ((l ++ z).map byteV)) (hl : l.length < 1000000000) (hw : wok w) (hn : n * w + w ≤ 8 * l.length) (hx : x < 2 ^ w)
    (H : ∀ h', OwnS 1 h' (.slice (some ⟨B, 0, none⟩) m c) ((setC l w n x ++ z).map byteV) → Mod (· = B) h h' → K (.tuple #[]) h') :
    CallsH Try.prog 77 #[.slice (some ⟨B, 0, none⟩) l.length c, .int .i64 w, .int .i64 n, .int .u64 x] h K ⟨⟩ := by
  rcases hw with hs | ⟨r, rfl, m1, m2⟩
  · have hm : n * w / 8 < l.length := by omega
    have hset := fun (x : UInt8) (l : List UInt8) (h) (hO : OwnS 1 h (.slice (some ⟨B, 0, none⟩) m c) ((l ++ z).map byteV)) (hm : n * w / 8 < l.length) => hO.set1 (x := x) (k := n * w / 8) (by simp; omega)
    obtain ⟨b1, hb1⟩ : ∃ b1, b1 = UInt8.ofNat ((l[n * w / 8]'(by omega)).toNat &&& (2 ^ 8 - ((2 ^ w - 1) * 2 ^ (n * w % 8) % 256 + 1))) := ⟨_, rfl⟩
    obtain ⟨b2, hb2⟩ : ∃ b2, b2 = UInt8.ofNat (b1.toNat ||| x * 2 ^ (n * w % 8) % 256) := ⟨_, rfl⟩
    have k1 := hset b1 l h hO hm
    rw [set_app hm] at k1
    simp only [get_app hm] at k1
    have k2 := hset b2 _ _ k1.2.2 (by simpa using hm)
    rw [set_app (by simpa using hm), small_is hs hx hn hb1 hb2] at k2
    simp only [get_app (show n * w / 8 < (l.set (n * w / 8) b1).length by simpa using hm), List.getElem_set_self] at k2
    have fin := H _ k2.2.2 ((Mod.setE _ _ _ _).trans (Mod.setE _ _ _ _) (fun _ _ e => e))
    clear hset
    refine n77_calls ?_
    unfold n77
    have cx : IntKind.u8.wrap (x : Int) = x := wrap_u8 (by omega) (by rcases hs with rfl | rfl | rfl <;> omega)
    rcases hs with rfl | rfl | rfl
    · simp only [Nat.mul_one] at k1 k2 hb1 hb2 fin
      have t1 : ((n : Int) / 8).toNat = n / 8 := by omega
      have t2 : ((n : Int) % 8).toNat = n % 8 := by omega
      have hM : (2 ^ 1 - 1) * 2 ^ (n % 8) % 256 < 256 := Nat.mod_lt _ (by omega)
      have hX : x * 2 ^ (n % 8) % 256 < 256 := Nat.mod_lt _ (by omega)
      simp (disch := omega) [t1, t2, k1.1, k1.2.1, k2.1, k2.2.1, Hp_shl_u8, Hp_andNotN (m := (2 : Int) ^ (n % 8) % 256) (b' := b1) (by rw [Int.natCast_emod, Int.natCast_mul, Int.natCast_pow]; first | rfl | simp) hM hb1, Hp_orN (m := (x : Int) * 2 ^ (n % 8) % 256) (b' := b2) (by rw [Int.natCast_emod, Int.natCast_mul, Int.natCast_pow]; rfl) hX hb2, stB, Try.cvw25_5, cx]
      exact fin
    · have t1 : ((n : Int) * 2 / 8).toNat = n * 2 / 8 := by omega
      have t2 : ((n : Int) * 2 % 8).toNat = n * 2 % 8 := by omega
      have hM : (2 ^ 2 - 1) * 2 ^ (n * 2 % 8) % 256 < 256 := Nat.mod_lt _ (by omega)
      have hX : x * 2 ^ (n * 2 % 8) % 256 < 256 := Nat.mod_lt _ (by omega)
      simp (disch := omega) [t1, t2, k1.1, k1.2.1, k2.1, k2.2.1, Hp_shl_u8, Hp_andNotN (m := 3 * (2 : Int) ^ (n * 2 % 8) % 256) (b' := b1) (by rw [Int.natCast_emod, Int.natCast_mul, Int.natCast_pow]; first | rfl | simp) hM hb1, Hp_orN (m := (x : Int) * 2 ^ (n * 2 % 8) % 256) (b' := b2) (by rw [Int.natCast_emod, Int.natCast_mul, Int.natCast_pow]; rfl) hX hb2, stB, Try.cvw25_5, cx]
      exact fin
    · have t1 : ((n : Int) * 4 / 8).toNat = n * 4 / 8 := by omega
      have t2 : ((n : Int) * 4 % 8).toNat = n * 4 % 8 := by omega
      have hM : (2 ^ 4 - 1) * 2 ^ (n * 4 % 8) % 256 < 256 := Nat.mod_lt _ (by omega)
      have hX : x * 2 ^ (n * 4 % 8) % 256 < 256 := Nat.mod_lt _ (by omega)
      simp (disch := omega) [t1, t2, k1.1, k1.2.1, k2.1, k2.2.1, Hp_shl_u8, Hp_andNotN (m := 15 * (2 : Int) ^ (n * 4 % 8) % 256) (b' := b1) (by rw [Int.natCast_emod, Int.natCast_mul, Int.natCast_pow]; first | rfl | simp) hM hb1, Hp_orN (m := (x : Int) * 2 ^ (n * 4 % 8) % 256) (b' := b2) (by rw [Int.natCast_emod, Int.natCast_mul, Int.natCast_pow]; rfl) hX hb2, stB, Try.cvw25_5, cx]
      exact fin
  · have hp : n * (8 * r) = 8 * (n * r) := by rw [Nat.mul_left_comm]
    generalize hpp : n * r = p at *
    have hpi : (n : Int) * (8 * (r : Int)) = 8 * p := by have := congrArg (Nat.cast (R := Int)) hp; push_cast at this; exact this
    obtain ⟨F, hF⟩ : ∃ F : Nat → Nat, ∀ k, F k = x / 256 ^ k := ⟨_, fun _ => rfl⟩
    have hFin : over l p (leB r x) = setC l (8 * r) n x := by
      refine setC_is (over_length (by simp; omega)) (by omega) fun j hj => ?_
      rw [tb_over (by omega) j hj, hp]
    have hx64 : x < 18446744073709551616 := Nat.lt_of_lt_of_le hx (Nat.pow_le_pow_right (show 0 < 2 by omega) (show 8 * r ≤ 64 by omega))
    have hm8 : ¬ ((8 * (r : Int)) < 8) := by omega
    refine n77_calls ?_
    unfold n77
    simp (disch := omega)
    refine loopA2 (fun k : Nat => .int .u64 (F k)) (fun k : Nat => .int .i64 k) (fun k h' => k ≤ r ∧ Mod (· = B) h h' ∧ OwnS 1 h' (.slice (some ⟨B, 0, none⟩) m c) ((over l p (leB k x) ++ z).map byteV)) (fun k => r - k) 0 ⟨by simp [hF], rfl⟩ ⟨by omega, Mod.refl _ _, by simpa [leB] using hO⟩ ?_
    rintro k h' ⟨hk, hM, hO'⟩
    by_cases hkr : k = r
    · subst hkr
      simp (disch := omega)
      exact H _ (hFin ▸ hO') hM
    · have hlen := over_length (l := l) (new := leB k x) (k := p) (by simp; omega)
      have k1 := hO'.set1 (x := UInt8.ofNat (F k % 256)) (k := p + k) (by simp; omega)
      rw [set_app (by omega)] at k1
      have e1 : (over l p (leB k x)).set (p + k) (UInt8.ofNat (F k % 256)) = over l p (leB (k + 1) x) := by
        rw [leB_snoc, ← hF]
        have := over_set (l := l) (a := leB k x) (p := p) (b := UInt8.ofNat (F k % 256)) (by simp; omega)
        rwa [leB_length] at this
      rw [e1] at k1
      have t1 : ((p : Int) + k).toNat = p + k := by omega
      have hFk : F k ≤ x := by rw [hF]; exact Nat.div_le_self _ _
      have hFs : F (k + 1) = F k / 256 := by rw [hF, hF, Nat.pow_succ, Nat.div_div_eq_div_mul]
      have hv : Value.int .u8 ((F k : Int) % 256) = byteV (UInt8.ofNat (F k % 256)) := by unfold byteV; simp
      simp (disch := omega) [hpi, k1.1, k1.2.1, Try.cvw25_5, wrap_u8_eq, stB, hv, Hp_shr_u64]
      exact ⟨k + 1, by rw [hFs, Int.natCast_ediv]; rfl, by simp, ⟨by omega, hM.trans (Mod.setE _ _ _ _) (fun _ _ e => e), by simpa using k1.2.2⟩, by omega⟩

theorem cset_c' {B m c w n x k : Nat} {l z : List UInt8} (hk : l.length = k) (hO : OwnS 1 h (.slice (some ⟨B, 0, none⟩) m c) ((l ++ z).map byteV)) (hl : l.length < 1000000000) (hw : wok w) (hn : n * w + w ≤ 8 * k) (hx : x < 2 ^ w)
    (H : ∀ h', OwnS 1 h' (.slice (some ⟨B, 0, none⟩) m c) ((setC l w n x ++ z).map byteV) → Mod (· = B) h h' → K (.tuple #[]) h') :
    CallsH Try.prog 77 #[.slice (some ⟨B, 0, none⟩) k c, .int .i64 w, .int .i64 n, .int .u64 x] h K ⟨⟩ := by
  subst hk
  exact cset_c hO hl hw hn hx H
end Go.Proofs.Ytmppolccfjfoaaa

/- Plain: numbers as bytes, the lowest first. -/
import Derived.Test.YtcbbdnaelimpfaaVcRow
namespace Go.Vc
open Go
set_option linter.unusedSimpArgs false
set_option linter.unusedVariables false

theorem Bytes.form {h : Heap} {v : Value} {l : List UInt8} (b : Bytes h v l) : ∃ o c, v = .slice o l.length c := by
  rcases b with ⟨rfl, rfl⟩ | ⟨a, c, rfl, _, _⟩
  · exact ⟨none, 0, rfl⟩
  · exact ⟨some a, c, rfl⟩
theorem Bytes.at {h : Heap} {o : Option Addr} {n c : Nat} {l : List UInt8} (b : Bytes h (.slice o n c) l) (hl : 0 < l.length) : ∃ a, o = some a ∧ n = l.length ∧ l.length ≤ c ∧ At h a l := by
  rcases b with ⟨e, rfl⟩ | ⟨a, c', e, h2, h3⟩
  · simp at hl
  · cases e; exact ⟨a, rfl, rfl, h2, h3⟩

theorem OwnS.freeB {v : Value} {l : List UInt8} {h : Heap} (o : OwnS 1 h v (l.map byteV)) : ∀ a n c, v = .slice (some a) n c → ∀ i, i < l.length → hfrozen h (elt a i) = false := by
  rintro a n c rfl i hi
  rcases o with ⟨o, _⟩ | ⟨b, n', c', rest, e, fz, o, h1, h2, h3, h4, h5⟩
  · cases o
  · cases o
    have ho : OwnS 1 h (.slice (some ⟨b, 0, none⟩) n c) (l.map byteV) := .inr ⟨b, n, c, rest, e, fz, rfl, h1, h2, h3, h4, h5⟩
    refine ho.free ?_
    simp at h1; omega

/-- The beginning of one's own slice. -/
theorem OwnS.pre {h : Heap} {B n c k : Nat} {L : List UInt8} (o : OwnS 1 h (.slice (some ⟨B, 0, none⟩) n c) (L.map byteV)) (hk : k ≤ L.length) :
    Bytes h (.slice (some ⟨B, 0, none⟩) k c) (L.take k) ∧ (∀ a n' c', Value.slice (some ⟨B, 0, none⟩) k c = .slice (some a) n' c' → ∀ i, i < (L.take k).length → hfrozen h (elt a i) = false) := by
  have hs := o.seg
  simp only [List.length_map, Nat.mul_one] at hs
  constructor
  · refine .inr ⟨⟨B, 0, none⟩, c, by congr 1; simp; omega, by simp; omega, fun i hi => ?_⟩
    simp only [List.length_take] at hi
    have := hs.2.2 i (by simp; omega)
    simpa using this
  · rintro a n' c' e i hi
    cases e
    simp only [List.length_take] at hi
    exact o.free (by omega)

theorem one_bytes (l : List UInt8) : ∀ u ∈ l.map byteV, one u = true := by
  intro u hu
  obtain ⟨b, _, rfl⟩ := List.mem_map.1 hu
  rfl

/-- append of bytes to bytes of one's own. -/
theorem Hp_appB {P : Program} {K : Value → Heap → Prop} {h : Heap} {t t2 e : Nat} {v x : Value} {l m : List UInt8} (ht : slT P t e 1 1 = true) (ht2 : notInt P t2 = true) (ho : OwnS 1 h v (l.map byteV)) (hx : Bytes h x m) (hB : l.length + m.length < 70368744177664)
    (H : ∀ v' h', OwnS 1 h' v' ((l ++ m).map byteV) → Mod (fun b => blkV v = some b) h h' → (∀ b, blkV v' = some b → blkV v = some b ∨ h.size ≤ b) → (m ≠ [] → ∃ b c, v' = .slice (some ⟨b, 0, none⟩) (l.length + m.length) c) → K v' h') :
    Hp P false (Builtin.append_ #[t, t2] t #[v, x]) K h ⟨⟩ :=
  Hp_append (n := l.length) (k := m.length) ht ht2 ho (by simp) (by omega) (Src.of_bytes hx) (one_bytes m) (by omega) (by omega)
    (fun v' h' h1 h2 h3 h4 => H v' h' (by rw [List.map_append]; exact h1) h2 h3 (fun hm => h4 (by simpa using hm)))
theorem Hp_appB1 {P : Program} {K : Value → Heap → Prop} {h : Heap} {t t2 e : Nat} {v x : Value} {l m : List UInt8} (ht : slT P t e 1 1 = true) (ht2 : notInt P t2 = true) (ho : OwnS 1 h v (l.map byteV)) (hx : Bytes h x m) (hB : l.length + m.length < 70368744177664) (hm : m ≠ [])
    (H : ∀ B c h', OwnS 1 h' (.slice (some ⟨B, 0, none⟩) (l.length + m.length) c) ((l ++ m).map byteV) → Mod (fun b => blkV v = some b) h h' → (blkV v = some B ∨ h.size ≤ B) → K (.slice (some ⟨B, 0, none⟩) (l.length + m.length) c) h') :
    Hp P false (Builtin.append_ #[t, t2] t #[v, x]) K h ⟨⟩ :=
  Hp_appB ht ht2 ho hx hB fun v' h' h1 h2 h3 h4 => by
    obtain ⟨B, c, rfl⟩ := h4 hm
    exact H B c h' h1 h2 (h3 B rfl)
theorem Hp_appStr {P : Program} {K : Value → Heap → Prop} {h : Heap} {t t2 e : Nat} {v : Value} {l m : List UInt8} (ht : slT P t e 1 1 = true) (ht2 : notInt P t2 = true) (ho : OwnS 1 h v (l.map byteV)) (hB : l.length + m.length < 70368744177664)
    (H : ∀ v' h', OwnS 1 h' v' ((l ++ m).map byteV) → Mod (fun b => blkV v = some b) h h' → (∀ b, blkV v' = some b → blkV v = some b ∨ h.size ≤ b) → (m ≠ [] → ∃ b c, v' = .slice (some ⟨b, 0, none⟩) (l.length + m.length) c) → K v' h') :
    Hp P false (Builtin.append_ #[t, t2] t #[v, str m]) K h ⟨⟩ :=
  Hp_append (n := l.length) (k := m.length) ht ht2 ho (by simp) (by omega) Src.str (one_bytes m) (by omega) (by omega)
    (fun v' h' h1 h2 h3 h4 => H v' h' (by rw [List.map_append]; exact h1) h2 h3 (fun hm => h4 (by simpa using hm)))

theorem Hp_appZB {P : Program} {K : Value → Heap → Prop} {h : Heap} {t t2 e k : Nat} {k' : IntKind} {v : Value} {l : List UInt8} (ht : slT P t e 1 1 = true) (ht2 : isInt P t2 = true) (hz : zeroOf P e = some (.int .u8 0)) (ho : OwnS 1 h v (l.map byteV)) (hB : l.length + k < 70368744177664)
    (H : ∀ v' h', OwnS 1 h' v' ((l ++ List.replicate k 0).map byteV) → Mod (fun b => blkV v = some b) h h' → (∀ b, blkV v' = some b → blkV v = some b ∨ h.size ≤ b) → K v' h') :
    Hp P false (Builtin.append_ #[t, t2] t #[v, .int k' (k : Int)]) K h ⟨⟩ :=
  Hp_appendZ (n := l.length) (k := k) (z := .int .u8 0) ht ht2 hz rfl rfl rfl ho (by simp) (by omega) (by omega) (by omega)
    (fun v' h' h1 h2 h3 h4 => H v' h' (by rw [List.map_append, List.map_replicate]; exact h1) h2 h3)

/-- copy into the beginning of one's own slice. -/
theorem Hp_copyB {P : Program} {K : Value → Heap → Prop} {h : Heap} {t t2 n c k B : Nat} {x : Value} {L m : List UInt8} (ht : slS P t 1 = true) (hO : OwnS 1 h (.slice (some ⟨B, 0, none⟩) n c) (L.map byteV)) (hk : k ≤ L.length) (hx : Bytes h x m)
    (H : ∀ h', OwnS 1 h' (.slice (some ⟨B, 0, none⟩) n c) ((over L 0 (m.take k)).map byteV) → Mod (· = B) h h' → K (.int .i64 (min m.length k : Nat)) h') :
    Hp P false (Builtin.copy_ #[t, t2] 3 #[.slice (some ⟨B, 0, none⟩) k c, x]) K h ⟨⟩ := by
  have hs := hO.seg
  simp only [List.length_map, Nat.mul_one] at hs
  refine Hp_copy ht (Src.of_bytes hx) (one_bytes m) (fun i hi => ?_) (fun i hi => hO.free (by omega)) ?_
  · rw [hs.2.2 i (by simp; omega)]; rfl
  · have := hO.write (k := 0) (new := (m.map byteV).take k) (by simp; omega)
    rw [← List.map_take, ← over_map] at this
    rw [← List.map_take]
    exact H _ this (Mod.write ⟨B, 0, none⟩ _ _ _)

/-- The number that bytes say. -/
def leN : List UInt8 → Nat
  | [] => 0
  | b :: l => b.toNat + 256 * leN l

theorem leN_lt : ∀ l : List UInt8, leN l < 256 ^ l.length
  | [] => by simp [leN]
  | b :: l => by
    have h1 := leN_lt l
    have h2 := b.toNat_lt
    simp only [leN, List.length_cons, Nat.pow_succ]
    omega
theorem leN_lt8 {l : List UInt8} (h : l.length ≤ 8) : leN l < 18446744073709551616 :=
  Nat.lt_of_lt_of_le (leN_lt l) (Nat.pow_le_pow_right (by omega) h)

/-- n bytes of a number. -/
def leB : Nat → Nat → List UInt8
  | 0, _ => []
  | n + 1, x => UInt8.ofNat (x % 256) :: leB n (x / 256)
@[simp] theorem leB_length : ∀ (n x : Nat), (leB n x).length = n
  | 0, _ => rfl
  | n + 1, x => by simp [leB, leB_length n]
theorem leN_leB : ∀ (n x : Nat), leN (leB n x) = x % 256 ^ n
  | 0, x => by simp [leN, leB, Nat.mod_one]
  | n + 1, x => by
    have : (UInt8.ofNat (x % 256)).toNat = x % 256 := by simp
    rw [leB, leN, leN_leB n, this, Nat.pow_succ, Nat.mul_comm (256 ^ n) 256, Nat.mod_mul]
theorem leB_leN : ∀ (l : List UInt8), leB l.length (leN l) = l
  | [] => rfl
  | b :: l => by
    have h2 := b.toNat_lt
    simp only [List.length_cons, leB, leN]
    rw [show (b.toNat + 256 * leN l) % 256 = b.toNat by omega, show (b.toNat + 256 * leN l) / 256 = leN l by omega, leB_leN l]
    simp

theorem leN_step {l : List UInt8} {p n k : Nat} (hk : 0 < k) (hkn : k ≤ n) (hl : p + n ≤ l.length) :
    leN ((l.drop (p + (k - 1))).take (n - (k - 1))) = (l[p + (k - 1)]'(by omega)).toNat + 256 * leN ((l.drop (p + k)).take (n - k)) := by
  rw [List.drop_eq_getElem_cons (show p + (k - 1) < l.length by omega), show n - (k - 1) = (n - k) + 1 by omega, List.take_succ_cons, leN, show p + (k - 1) + 1 = p + k by omega]

theorem leN_append (a b : List UInt8) : leN (a ++ b) = leN a + 256 ^ a.length * leN b := by
  induction a with
  | nil => simp [leN]
  | cons x a ih => simp only [List.cons_append, leN, ih, List.length_cons, Nat.pow_succ, Nat.mul_add]; rw [Nat.mul_comm (256 ^ a.length) 256, Nat.mul_assoc]; omega
theorem leB_snoc : ∀ (n x : Nat), leB (n + 1) x = leB n x ++ [UInt8.ofNat (x / 256 ^ n % 256)]
  | 0, x => by simp [leB]
  | n + 1, x => by
    rw [leB, leB_snoc n, leB, List.cons_append, Nat.div_div_eq_div_mul, Nat.pow_succ, Nat.mul_comm 256]
theorem leB_mod (n x : Nat) : leB n (x % 256 ^ n) = leB n x := by
  rw [← leN_leB]
  have := leB_leN (leB n x)
  rwa [leB_length] at this
end Go.Vc

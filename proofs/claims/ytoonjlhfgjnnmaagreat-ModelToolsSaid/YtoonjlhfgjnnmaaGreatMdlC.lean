/- Model: an image that may be changed; written to. Model: a new world; how deep a chain is; an image made. Model: an image made. Model: the call that makes an image. Model: two contents compared. -/
import Derived.Test.YtoonjlhfgjnnmaaGreatMdlB
set_option linter.unusedSimpArgs false
set_option linter.unusedVariables false
namespace Go.Proofs.YtoonjlhfgjnnmaaGreat
open Go.Vc
variable {K : Value → Heap → Prop} {h : Heap}

theorem whichN_c {w wm : Nat} {xs : List Im} {nm : List UInt8} (a : WdAt h w wm xs) (H : K (.tuple #[.pointer none, .int .i64 2]) h) : CallsH Tryz.prog 29 #[ptrV w, .bool false, str nm] h K ⟨⟩ := by
  refine n29_calls ?_
  unfold n29
  refine none_c a ?_
  simp (disch := omega)
  exact H
theorem free_c {w wm : Nat} {xs : List Im} {x : Im} {p m : Int} (a : WdAt h w wm xs) (hn : OkN x.nm) (hx : findI x.nm xs = some x) (hp : -9223372036854775808 ≤ p ∧ p < 9223372036854775808) (hm : 0 ≤ m ∧ m < 9223372036854775808) (hab : ∀ y ∈ xs, y.bk ≠ x.nm)
    (H0 : ∀ h', Ext h h' → ¬ (0 ≤ p ∧ p + m ≤ x.n) → K (.tuple #[.pointer none, .int .i64 4]) h') (H1 : ∀ h', Ext h h' → 0 ≤ p ∧ p + m ≤ x.n → K (.tuple #[ptrV x.b, .int .i64 0]) h') :
    CallsH Tryz.prog 34 #[ptrV w, .bool true, str x.nm, .int .i64 p, .int .i64 m] h K ⟨⟩ := by
  refine n34_calls ?_
  unfold n34
  have hxm := (findI_mem hx).1
  refine which_c a hn fun h1 e1 => ?_
  rw [hx]
  unfold ptrV
  simp (disch := omega)
  refine there_c ((a.ext e1).im x hxm) hp hm ?_
  by_cases hr : 0 ≤ p ∧ p + m ≤ (x.n : Int)
  · rw [decide_eq_true hr]
    simp (disch := omega)
    refine above_c (a.ext e1) hxm fun h2 n e2 hn hz => ?_
    obtain rfl : n = 0 := hz.2 hab
    simp (disch := omega)
    exact H1 h2 (e1.trans e2) hr
  · rw [decide_eq_false hr]
    simp (disch := omega)
    exact H0 h1 e1 hr
theorem freeN_c {w wm : Nat} {xs : List Im} {nm : List UInt8} {p m : Int} (a : WdAt h w wm xs) (H : K (.tuple #[.pointer none, .int .i64 2]) h) : CallsH Tryz.prog 34 #[ptrV w, .bool false, str nm, .int .i64 p, .int .i64 m] h K ⟨⟩ := by
  refine n34_calls ?_
  unfold n34
  refine whichN_c a ?_
  simp (disch := omega)
  exact H
/-- Of an image without bitmaps. -/
theorem touch0_c {x : Im} {p m : Value} (ax : ImAt h x) (hB : x.B = []) (H : K (.tuple #[]) h) : CallsH Tryz.prog 36 #[ptrV x.b, p, m] h K ⟨⟩ := by
  refine n36_calls ?_
  unfold n36 ptrV
  have hb := ax.bm
  rw [hB] at hb
  obtain ⟨va, vn, vc, hv, hvn, hvc, -⟩ := hb.form (by omega)
  have hvn0 : vn = 0 := by simp at hvn; omega
  subst hvn0
  have c6 := cellOf (i := 6) ax.cells rfl
  rw [hv] at c6
  simp (disch := omega) [c6]
  refine loopX1 (α := Unit) (fun _ => .int .i64 0) (fun _ g => g = h) (fun _ => 0) () rfl rfl ?_
  rintro - g rfl X hX
  simp (disch := omega)
  exact H
theorem Write_c {w wm : Nat} {xs : List Im} {x : Im} {p : Int} {vb : Value} {s : List UInt8} (a : WdAt h w wm xs) (hn : OkN x.nm) (hx : findI x.nm xs = some x) (hp : -9223372036854775808 ≤ p ∧ p < 9223372036854775808) (hab : ∀ y ∈ xs, y.bk ≠ x.nm) (hB : x.B = []) (bs : Bytes h vb s) (hsl : s.length < 9223372036854775808)
    (H0 : ∀ h' e, Ext h h' → e ≠ 0 → ¬ (s.length % 512 = 0 ∧ 0 ≤ p ∧ p + (s.length / 512 : Nat) ≤ x.n) → K (.int .i64 e) h')
    (H1 : ∀ x' h', s.length % 512 = 0 ∧ 0 ≤ p ∧ p + (s.length / 512 : Nat) ≤ x.n → Wrote xs x x' p.toNat (s.length / 512) s → WdAt h' w wm (setI x' xs) → Mod (· = x.m) h h' → K (.int .i64 0) h') :
    CallsH Tryz.prog 11 #[ptrV w, str x.nm, .int .i64 p, vb] h K ⟨⟩ := by
  refine n11_calls ?_
  unfold n11
  obtain ⟨va, vc, rfl⟩ : ∃ va vc, vb = .slice va s.length vc := by
    rcases bs with ⟨rfl, rfl⟩ | ⟨ad, c, rfl, -, -⟩
    · exact ⟨none, 0, rfl⟩
    · exact ⟨some ad, c, rfl⟩
  have hq : ((s.length : Nat) : Int) / 512 = ((s.length / 512 : Nat) : Int) := by omega
  have hr : ((s.length : Nat) : Int) % 512 = ((s.length % 512 : Nat) : Int) := by omega
  obtain ⟨m, hm⟩ : ∃ m, m = s.length / 512 := ⟨_, rfl⟩
  obtain ⟨r, hr2⟩ : ∃ r, r = s.length % 512 := ⟨_, rfl⟩
  rw [← hm] at hq H0 H1
  rw [← hr2] at hr H0 H1
  have hml : m < 9223372036854775808 := by omega
  by_cases hr0 : r = 0
  · have hr9 : ((s.length : Nat) : Int) % 512 = 0 := by omega
    simp (disch := omega) [hq, hr9]
    refine free_c a hn hx hp (by omega) hab (fun h1 e1 hno => ?_) (fun h1 e1 hin => ?_)
    · simp (disch := omega)
      exact H0 h1 4 e1 (by omega) (fun hh => hno hh.2)
    · unfold ptrV
      simp (disch := omega)
      obtain ⟨p', rfl⟩ := Int.eq_ofNat_of_zero_le hin.1
      refine lay_c (p := p') (m := m) (a.ext e1) hx (by omega) (bs.ext e1) (by omega) fun x' h2 hl a2 m2 => ?_
      obtain ⟨F, G, hx'⟩ := hl.same
      have hfx' := (hl.facts a.wl hx).2.1
      have ax' := a2.im x' (findI_mem hfx').1
      have hb' : x'.b = x.b := by rw [hx']
      rw [show (.pointer (some ⟨x.b, 0, none⟩) : Value) = ptrV x'.b by rw [hb']; rfl]
      refine touch0_c ax' (by rw [hx']; exact hB) ?_
      exact H1 x' h2 ⟨hr0, hin⟩ (by simpa using hl) a2 ((Mod.of_ext e1).trans m2 (fun _ _ e => e))
  · have hr9 : ¬ ((s.length : Nat) : Int) % 512 = 0 := by omega
    simp (disch := omega) [hq, hr9]
    refine freeN_c a ?_
    simp (disch := omega)
    exact H0 h 2 (.refl _) (by omega) (fun hh => hr0 hh.1)
end Go.Proofs.YtoonjlhfgjnnmaaGreat
set_option linter.unusedSimpArgs false
set_option linter.unusedVariables false
namespace Go.Proofs.YtoonjlhfgjnnmaaGreat
open Go.Vc
variable {K : Value → Heap → Prop} {h : Heap}

theorem New_c (H : ∀ w wm h', Ext h h' → WdAt h' w wm [] → h.size ≤ w → h.size ≤ wm → K (ptrV w) h') : CallsH Tryz.prog 25 #[] h K ⟨⟩ := by
  refine n25_calls ?_
  unfold n25
  rw [Hp_makeMap]
  simp (disch := omega)
  have e1 : Ext h (h.push (.map #[] 0)) := (by repeat' (first | (with_reducible exact Ext.refl _) | (with_reducible assumption) | (with_reducible refine push_ext ?_) | (with_reducible refine hset_ext ?_ ?_) | (with_reducible refine Ext.trans ?_ (by assumption)) | omega | (simp; done) | (simp; omega) | (refine Ext.size ?_) | (refine Nat.le_succ_of_le (Ext.size ?_))))
  have e2 : Ext (h.push (.map #[] 0)) ((h.push (.map #[] 0)).push (.cells #[.map (some h.size)] wdT)) := (by repeat' (first | (with_reducible exact Ext.refl _) | (with_reducible assumption) | (with_reducible refine push_ext ?_) | (with_reducible refine hset_ext ?_ ?_) | (with_reducible refine Ext.trans ?_ (by assumption)) | omega | (simp; done) | (simp; omega) | (refine Ext.size ?_) | (refine Nat.le_succ_of_le (Ext.size ?_))))
  refine H (h.size + 1) h.size _ (e1.trans e2) ⟨get_pushed (by simp), ⟨[], (MapK.new rfl).ext e2, fun nm => rfl⟩, ⟨by simp, by simp, trivial⟩, by simp, by simp, by simp, by simp, by simp⟩ (by omega) (Nat.le_refl _)
theorem deep_g {w wm n : Nat} {M : List (List UInt8 × Value)} {b : Bool} (seq : Nat → List UInt8) (hw : h[w]? = some (.cells #[.map (some wm)] wdT)) (hM : MapK str h wm M) (hn : n ≤ 9)
    (hs : ∀ i, n + i ≤ 8 → seq i ≠ [] → ∃ c, look2 (seq i) M = some (ptrV c) ∧ hcell h ⟨c, 1, none⟩ = some (str (seq (i + 1)))) (hb : b = true ↔ ∀ i, n + i ≤ 8 → seq i ≠ []) (H : K (.bool b) h) :
    CallsH Tryz.prog 52 #[ptrV w, str (seq 0), .int .i64 n] h K ⟨⟩ := by
  refine n52_calls ?_
  unfold n52 ptrV
  refine loopX2 (α := Nat) (fun i => str (seq i)) (fun i => .int .i64 ((n + i : Nat) : Int)) (fun i g => g = h ∧ n + i ≤ 9 ∧ ∀ j, j < i → seq j ≠ []) (fun i => 9 - (n + i)) 0 ⟨rfl, rfl⟩ ⟨rfl, by omega, by simp⟩ ?_
  rintro i g ⟨rfl, hi, hall⟩ X hX
  by_cases h1 : seq i = []
  · have hbf : n + i ≤ 8 → b = false := fun h9 => by
      cases hb' : b with
      | false => rfl
      | true => exact absurd h1 (hb.1 hb' i h9)
    have hbt : ¬ n + i ≤ 8 → b = true := fun h9 => hb.2 fun j hj => hall j (by omega)
    simp (disch := omega) [h1]
    by_cases h9 : n + i ≤ 8
    · rw [hbf h9] at H
      simp (disch := omega)
      exact H
    · rw [hbt h9] at H
      simp (disch := omega)
      exact H
  · by_cases h9 : n + i ≤ 8
    · obtain ⟨c, hc, hcell⟩ := hs i h9 h1
      have hlk := fun (q : Bool) (K : Value → Heap → Prop) => Hp_lookup (P := Tryz.prog) (q := q) (K := K) (k := seq i) (ok := false) imKey (z := .pointer none) (by kernel_rfl) hM
      rw [hc] at hlk
      unfold ptrV at hlk
      simp (disch := omega) [h1, h9, cellOf (i := 0) hw rfl, hlk, hcell]
      exact hX (i + 1) _ _ _ rfl (by simp; omega) ⟨rfl, by omega, fun j hj => by
        by_cases e : j = i
        · subst e; exact h1
        · exact hall j (by omega)⟩ (by omega)
    · have hbt : b = true := hb.2 fun j hj => hall j (by omega)
      rw [hbt] at H
      simp (disch := omega) [h1, h9]
      exact H
end Go.Proofs.YtoonjlhfgjnnmaaGreat
set_option linter.unusedSimpArgs false
set_option linter.unusedVariables false
namespace Go.Proofs.YtoonjlhfgjnnmaaGreat
open Go.Vc
variable {K : Value → Heap → Prop} {h : Heap}

/-- The backing of an image, its backing, and so on. -/
def bkOf (xs : List Im) (nm : List UInt8) : List UInt8 := match findI nm xs with | some y => y.bk | none => []
def seqX (xs : List Im) (nm : List UInt8) : Nat → List UInt8
  | 0 => nm
  | i + 1 => bkOf xs (seqX xs nm i)
theorem seqX_found {xs : List Im} (a : Wl xs) {nm : List UInt8} (hnm : nm = [] ∨ ∃ y, findI nm xs = some y) : ∀ i, seqX xs nm i = [] ∨ ∃ y, findI (seqX xs nm i) xs = some y
  | 0 => hnm
  | i + 1 => by
    show bkOf xs (seqX xs nm i) = [] ∨ ∃ y, findI (bkOf xs (seqX xs nm i)) xs = some y
    unfold bkOf
    cases hf : findI (seqX xs nm i) xs with
    | none => exact .inl rfl
    | some y => exact (chain_step (k := 0) a.nd a.ne a.ch hf).2.2
theorem deep_c {w wm n : Nat} {xs : List Im} {nm : List UInt8} {b : Bool} (a : WdAt h w wm xs) (hnm : nm = [] ∨ ∃ y, findI nm xs = some y) (hn : n ≤ 9) (hb : b = true ↔ ∀ i, n + i ≤ 8 → seqX xs nm i ≠ []) (H : K (.bool b) h) : CallsH Tryz.prog 52 #[ptrV w, str nm, .int .i64 n] h K ⟨⟩ := by
  obtain ⟨M, hM, hl⟩ := a.map
  refine deep_g (seqX xs nm) a.cells hM hn (fun i hi hne => ?_) hb H
  rcases seqX_found a.wl hnm i with h1 | ⟨y, hy⟩
  · exact absurd h1 hne
  · refine ⟨y.b, by rw [hl, hy]; rfl, ?_⟩
    have : seqX xs nm (i + 1) = y.bk := by
      show bkOf xs (seqX xs nm i) = _
      unfold bkOf; rw [hy]
    rw [this]
    exact cellOf (i := 1) (a.im y (findI_mem hy).1).cells rfl
def newI (nm bk : List UInt8) (n bits b m : Nat) : Im := ⟨nm, bk, n, bits, 2 ^ bits / 512, b, m, [], fun _ => [], .slice none 0 0, .slice none 0 0, [], [], []⟩
theorem pow_cs {bits : Nat} (hb : 9 ≤ bits) : 2 ^ bits = 2 ^ bits / 512 * 512 := by
  obtain ⟨k, rfl⟩ : ∃ k, bits = k + 9 := ⟨bits - 9, by omega⟩
  rw [Nat.pow_add, show (2 : Nat) ^ 9 = 512 from rfl, Nat.mul_div_cancel _ (by decide)]
theorem WdAt.cons {w wm n bits b m : Nat} {xs : List Im} {nm bk : List UInt8} {h' : Heap} (a : WdAt h w wm xs) (hn : OkN nm) (hnew : findI nm xs = none) (hsz : n ≤ 131072) (hbt : 9 ≤ bits ∧ bits ≤ 16) (hbk : bk = [] ∨ ∃ y, findI bk xs = some y) (hfew : xs.length < 100)
    (hb : h'[b]? = some (.cells #[str nm, str bk, .int .i64 ((n * 512 : Nat) : Int), .int .i64 bits, .map (some m), .slice none 0 0, .slice none 0 0] imT)) (hm : MapK ik h' m []) (hbf : h.size ≤ b) (hmf : h.size ≤ m)
    {M : List (List UInt8 × Value)} (hMM : MapK str h wm M) (hl : ∀ nm, look2 nm M = (findI nm xs).map (fun x => ptrV x.b)) (hM : MapK str h' wm (upd nm (ptrV b) M)) (md : Mod (· = wm) h h') : WdAt h' w wm (newI nm bk n bits b m :: xs) := by
  have hwl := get_some_lt a.cells
  have hwml := hMM.lt
  have hwne : w ≠ wm := fun e => by
    obtain ⟨es, cl, h1, _⟩ := hMM
    have := a.cells
    rw [e, h1] at this
    cases this
  have fx : ∀ c, footI (newI nm bk n bits b m) c → h.size ≤ c := fun c hc => by
    rcases hc with rfl | rfl | ⟨s, hs, -⟩ | ⟨y, hy, -⟩ | e | e
    · exact hbf
    · exact hmf
    · cases hs
    · cases hy
    · cases e
    · cases e
  have hbm : m ≠ b := fun e => by
    obtain ⟨es, cl, h1, _⟩ := hm
    rw [e, hb] at h1
    cases h1
  refine ⟨(md.block _ hwl hwne).trans a.cells, ⟨_, hM, fun k => ?_⟩, ⟨?_, fun y hy => ?_, hbk, a.wl.ch⟩, fun y hy => ?_, fun y hy z hz hne c hc hc2 => ?_, fun y hy => ?_, fun y hy => ?_, by simp; omega⟩
  · rw [look2_upd, hl]
    show _ = Option.map _ (if k = nm then some _ else findI k xs)
    by_cases e : k = nm
    · rw [if_pos e, if_pos e]; rfl
    · rw [if_neg e, if_neg e]
  · simp only [List.map_cons, List.nodup_cons]
    refine ⟨fun hmem => ?_, a.wl.nd⟩
    obtain ⟨y, hy, e⟩ := List.mem_map.1 hmem
    exact findI_none.1 hnew y hy e
  · rcases List.mem_cons.1 hy with rfl | hy
    · exact hn.ne
    · exact a.wl.ne y hy
  · rcases List.mem_cons.1 hy with rfl | hy
    · exact ⟨hb, ⟨hm, fun c v hv => (by cases hv), fun c v b hv => (by cases hv)⟩, hsz, hbt, pow_cs hbt.1, .nil, fun s hs => (by cases hs), .nil, fun b hb => (by cases hb), hbm, by simp [newI], fun b hb => (by cases hb)⟩
    · exact (a.im y hy).mod md (fun c hc e => (a.wf y hy).2 (e ▸ hc)) (fun c arr hc _ e => by
        obtain ⟨es, cl, h1, _⟩ := hMM
        have e' : c = wm := e
        rw [e', h1] at hc
        cases hc)
  · rcases List.mem_cons.1 hy with rfl | hy
    · rcases List.mem_cons.1 hz with rfl | hz
      · exact hne rfl
      · have := fx c hc
        have := (a.im z hz).lt hc2
        omega
    · rcases List.mem_cons.1 hz with rfl | hz
      · have := fx c hc2
        have := (a.im y hy).lt hc
        omega
      · exact a.ap y hy z hz hne c hc hc2
  · rcases List.mem_cons.1 hy with rfl | hy
    · exact ⟨fun hf => by have := fx _ hf; omega, fun hf => by have := fx _ hf; omega⟩
    · exact a.wf y hy
  · rcases List.mem_cons.1 hy with rfl | hy
    · exact hn.le
    · exact a.nm y hy
end Go.Proofs.YtoonjlhfgjnnmaaGreat
set_option linter.unusedSimpArgs false
set_option linter.unusedVariables false
namespace Go.Proofs.YtoonjlhfgjnnmaaGreat
open Go.Vc
variable {K : Value → Heap → Prop} {h : Heap}

set_option maxHeartbeats 1000000 in
theorem Create_c {w wm n bits : Nat} {xs : List Im} {nm bk : List UInt8} (a : WdAt h w wm xs) (hn : OkN nm) (hsz : n ≤ 131072) (hbt : 9 ≤ bits ∧ bits ≤ 16) (hnew : findI nm xs = none) (hbk : bk = [] ∨ (OkN bk ∧ ∃ y, findI bk xs = some y)) (hfew : xs.length < 100)
    (H1 : ∀ x h', x = newI nm bk n bits x.b x.m → (∃ i, 1 + i ≤ 8 ∧ seqX xs bk i = []) → WdAt h' w wm (x :: xs) → Mod (· = wm) h h' → h.size ≤ x.b → h.size ≤ x.m → K (.int .i64 0) h')
    (H2 : ∀ h', (∀ i, 1 + i ≤ 8 → seqX xs bk i ≠ []) → Ext h h' → K (.int .i64 350) h') :
    CallsH Tryz.prog 27 #[ptrV w, str nm, .int .i64 ((n * 512 : Nat) : Int), .int .i64 bits, str bk] h K ⟨⟩ := by
  have hsz' := fun (K : Value → Heap → Prop) (h : Heap) (H : K (.bool true) h) => sized_c (K := K) (h := h) hsz H
  obtain ⟨N, hN⟩ : ∃ N, N = n * 512 := ⟨_, rfl⟩
  have hNc : (n : Int) * 512 = (N : Int) := by omega
  have hNb : N ≤ 67108864 := by omega
  refine n27_calls ?_
  unfold n27
  refine none_c a ?_
  simp (disch := omega)
  have e1 : Ext h (h.push (.cells #[str nm] 9)) := (by repeat' (first | (with_reducible exact Ext.refl _) | (with_reducible assumption) | (with_reducible refine push_ext ?_) | (with_reducible refine hset_ext ?_ ?_) | (with_reducible refine Ext.trans ?_ (by assumption)) | omega | (simp; done) | (simp; omega) | (refine Ext.size ?_) | (refine Nat.le_succ_of_le (Ext.size ?_))))
  refine named_c hn (get_pushed rfl) fun h1 e1' => ?_
  have E1 := e1.trans e1'
  have a1 := a.ext E1
  simp (disch := omega)
  rw [← hN] at hsz'
  try rw [hNc]
  refine hsz' _ _ ?_
  simp (disch := omega)
  refine wide_c (by omega) ?_
  have hlk : ptrOf xs nm = .pointer none := by unfold ptrOf; rw [hnew]; rfl
  rcases hbk with hb0 | ⟨hokb, y, hy⟩
  · simp (disch := omega) [hb0]
    unfold ptrV
    simp (disch := omega) [cellOf (i := 0) a1.cells rfl, a1.look, hlk]
    have aG := a.ext E1
    have hlk : ptrOf xs nm = .pointer none := by unfold ptrOf; rw [hnew]; rfl
    by_cases hd : ∀ i, 1 + i ≤ 8 → seqX xs bk i ≠ []
    · refine deep_c (n := 1) (b := true) aG (.inl hb0) (by omega) (by simpa using hd) ?_
      simp (disch := omega)
      exact H2 _ hd E1
    · refine deep_c (n := 1) (b := false) aG (.inl hb0) (by omega) (by simpa using hd) ?_
      have hd' : ∃ i, 1 + i ≤ 8 ∧ seqX xs bk i = [] := by
        simp only [Classical.not_forall, Classical.not_not] at hd
        obtain ⟨i, h1, h2⟩ := hd
        exact ⟨i, h1, h2⟩
      simp (disch := omega) [cellOf (i := 0) aG.cells rfl]
      rw [Hp_makeMap]
      simp (disch := omega)
      refine (⟨_, rfl⟩ : ∃ f, f = (h1.push (.map #[] 0)).push (.cells #[str nm, str bk, .int .i64 N, .int .i64 bits, .map (some h1.size), .slice none 0 0, .slice none 0 0] imT)).elim fun g2 eg => ?_
      have e2 : Ext h1 g2 := by rw [eg]; exact (by repeat' (first | (with_reducible exact Ext.refl _) | (with_reducible assumption) | (with_reducible refine push_ext ?_) | (with_reducible refine hset_ext ?_ ?_) | (with_reducible refine Ext.trans ?_ (by assumption)) | omega | (simp; done) | (simp; omega) | (refine Ext.size ?_) | (refine Nat.le_succ_of_le (Ext.size ?_))))
      have hb2 : g2[h1.size + 1]? = some (.cells #[str nm, str bk, .int .i64 N, .int .i64 bits, .map (some h1.size), .slice none 0 0, .slice none 0 0] imT) := by rw [eg]; exact get_pushed (by simp)
      have hm2 : MapK ik g2 h1.size [] := by rw [eg]; exact (MapK.new rfl).ext (by repeat' (first | (with_reducible exact Ext.refl _) | (with_reducible assumption) | (with_reducible refine push_ext ?_) | (with_reducible refine hset_ext ?_ ?_) | (with_reducible refine Ext.trans ?_ (by assumption)) | omega | (simp; done) | (simp; omega) | (refine Ext.size ?_) | (refine Nat.le_succ_of_le (Ext.size ?_))))
      rw [show (h1.push (.map #[] 0)).push (.cells #[str nm, str bk, .int .i64 N, .int .i64 bits, .map (some h1.size), .slice none 0 0, .slice none 0 0] 72) = g2 from eg.symm]
      clear eg
      obtain ⟨M, hMM, hl⟩ := a.map
      refine Hp_mapUpdate imKey (hMM.ext (E1.trans e2)) fun g3 mp3 m3 => ?_
      have hsz2 := E1.size
      have hwml := hMM.lt
      have hcell := (m3.block _ (get_some_lt hb2) (by omega)).trans hb2
      rw [show (N : Int) = ((n * 512 : Nat) : Int) by rw [hN]] at hcell
      have M3 : Mod (· = wm) h g3 := (Mod.of_ext (E1.trans e2)).trans m3 (fun _ _ e => e)
      exact H1 (newI nm bk n bits (h1.size + 1) h1.size) g3 rfl hd' (a.cons hn hnew hsz hbt (.inl hb0) hfew hcell (hm2.mod m3 (by omega)) (by omega) (by omega) hMM hl mp3 M3) M3 (by unfold newI; dsimp only; omega) (by unfold newI; dsimp only; omega)
  · have hbne := hokb.ne
    simp (disch := omega) [hbne]
    have e2 : Ext h1 (h1.push (.cells #[str bk] 9)) := (by repeat' (first | (with_reducible exact Ext.refl _) | (with_reducible assumption) | (with_reducible refine push_ext ?_) | (with_reducible refine hset_ext ?_ ?_) | (with_reducible refine Ext.trans ?_ (by assumption)) | omega | (simp; done) | (simp; omega) | (refine Ext.size ?_) | (refine Nat.le_succ_of_le (Ext.size ?_))))
    refine named_c hokb (get_pushed rfl) fun h2 e2' => ?_
    have E2 := E1.trans (e2.trans e2')
    have a2 := a.ext E2
    have hlb : ptrOf xs bk = ptrV y.b := by unfold ptrOf; rw [hy]; rfl
    unfold ptrV at hlb ⊢
    simp (disch := omega) [hbne, cellOf (i := 0) a2.cells rfl, a2.look, hlk, hlb]
    have aG := a.ext E2
    have hlk : ptrOf xs nm = .pointer none := by unfold ptrOf; rw [hnew]; rfl
    by_cases hd : ∀ i, 1 + i ≤ 8 → seqX xs bk i ≠ []
    · refine deep_c (n := 1) (b := true) aG (.inr ⟨y, hy⟩) (by omega) (by simpa using hd) ?_
      simp (disch := omega)
      exact H2 _ hd E2
    · refine deep_c (n := 1) (b := false) aG (.inr ⟨y, hy⟩) (by omega) (by simpa using hd) ?_
      have hd' : ∃ i, 1 + i ≤ 8 ∧ seqX xs bk i = [] := by
        simp only [Classical.not_forall, Classical.not_not] at hd
        obtain ⟨i, h1, h2⟩ := hd
        exact ⟨i, h1, h2⟩
      simp (disch := omega) [cellOf (i := 0) aG.cells rfl]
      rw [Hp_makeMap]
      simp (disch := omega)
      refine (⟨_, rfl⟩ : ∃ f, f = (h2.push (.map #[] 0)).push (.cells #[str nm, str bk, .int .i64 N, .int .i64 bits, .map (some h2.size), .slice none 0 0, .slice none 0 0] imT)).elim fun g2 eg => ?_
      have e2 : Ext h2 g2 := by rw [eg]; exact (by repeat' (first | (with_reducible exact Ext.refl _) | (with_reducible assumption) | (with_reducible refine push_ext ?_) | (with_reducible refine hset_ext ?_ ?_) | (with_reducible refine Ext.trans ?_ (by assumption)) | omega | (simp; done) | (simp; omega) | (refine Ext.size ?_) | (refine Nat.le_succ_of_le (Ext.size ?_))))
      have hb2 : g2[h2.size + 1]? = some (.cells #[str nm, str bk, .int .i64 N, .int .i64 bits, .map (some h2.size), .slice none 0 0, .slice none 0 0] imT) := by rw [eg]; exact get_pushed (by simp)
      have hm2 : MapK ik g2 h2.size [] := by rw [eg]; exact (MapK.new rfl).ext (by repeat' (first | (with_reducible exact Ext.refl _) | (with_reducible assumption) | (with_reducible refine push_ext ?_) | (with_reducible refine hset_ext ?_ ?_) | (with_reducible refine Ext.trans ?_ (by assumption)) | omega | (simp; done) | (simp; omega) | (refine Ext.size ?_) | (refine Nat.le_succ_of_le (Ext.size ?_))))
      rw [show (h2.push (.map #[] 0)).push (.cells #[str nm, str bk, .int .i64 N, .int .i64 bits, .map (some h2.size), .slice none 0 0, .slice none 0 0] 72) = g2 from eg.symm]
      clear eg
      obtain ⟨M, hMM, hl⟩ := a.map
      refine Hp_mapUpdate imKey (hMM.ext (E2.trans e2)) fun g3 mp3 m3 => ?_
      have hsz2 := E2.size
      have hwml := hMM.lt
      have hcell := (m3.block _ (get_some_lt hb2) (by omega)).trans hb2
      rw [show (N : Int) = ((n * 512 : Nat) : Int) by rw [hN]] at hcell
      have M3 : Mod (· = wm) h g3 := (Mod.of_ext (E2.trans e2)).trans m3 (fun _ _ e => e)
      exact H1 (newI nm bk n bits (h2.size + 1) h2.size) g3 rfl hd' (a.cons hn hnew hsz hbt (.inr ⟨y, hy⟩) hfew hcell (hm2.mod m3 (by omega)) (by omega) (by omega) hMM hl mp3 M3) M3 (by unfold newI; dsimp only; omega) (by unfold newI; dsimp only; omega)
end Go.Proofs.YtoonjlhfgjnnmaaGreat
set_option linter.unusedSimpArgs false
set_option linter.unusedVariables false
namespace Go.Vc
open Go
/-- The whole of an array that is a variable. -/
theorem Hp_sliceArr {P : Program} {q : Bool} {K : Value → Heap → Prop} {h : Heap} {t n s : Nat} {a : Addr} (ht : arrS P t n s = true) (hn : 0 < n) : Hp P q (Instr.sliceAt t (.pointer (some a)) none none none) K h ⟨⟩ ↔ K (.slice (some a) n n) h := by
  obtain ⟨e, i, hu, hi, hs⟩ := arrS_spec ht
  rw [Hp_iff]
  unfold Instr.sliceAt
  rw [hp_bind', hp_underlying hu]
  simp only
  rw [show Instr.sureAddr (.pointer (some a)) = pure a from rfl, pure_bind, sliceBounds_eq rfl rfl (by simp [lowOf]) (by simp [lowOf, highOf]) (by simp [highOf]), hp_bind', hp_pure, hp_bind', hp_sizeOf hi, hs, hp_pure]
  simp [lowOf, highOf]
end Go.Vc
namespace Go.Proofs.YtoonjlhfgjnnmaaGreat
open Go.Vc
variable {K : Value → Heap → Prop} {h : Heap}

def arT : Nat := 91
theorem alloc_sector (H : ∀ h', OwnT arT 1 h' (.slice (some ⟨h.size, 0, none⟩) 512 512) (z512.map byteV) → Ext h h' → h'.size = h.size + 1 → K (.pointer (some ⟨h.size, 0, none⟩)) h') : Hp Tryz.prog false (Go.Instr.alloc 91 true undef) K h ⟨⟩ := by
  rw [Hp_allocZ (z := .agg (z512.map byteV).toArray) (by kernel_rfl)]
  refine ValT_iff.2 ?_
  refine H _ (.inr ⟨h.size, 512, 512, [], rfl, (List.length_map ..).trans z512_len, Nat.le_refl _, ?_, ?_⟩) (by repeat' (first | (with_reducible exact Ext.refl _) | (with_reducible assumption) | (with_reducible refine push_ext ?_) | (with_reducible refine hset_ext ?_ ?_) | (with_reducible refine Ext.trans ?_ (by assumption)) | omega | (simp; done) | (simp; omega) | (refine Ext.size ?_) | (refine Nat.le_succ_of_le (Ext.size ?_)))) (by simp)
  · rw [get_pushed rfl, List.append_nil]; rfl
  · rw [List.append_nil]; exact (List.length_map ..).trans z512_len
/-- The array's value. -/
theorem load_sector {q : Bool} {b : Nat} {L : List UInt8} (o : OwnT arT 1 h (.slice (some ⟨b, 0, none⟩) 512 512) (L.map byteV)) (hL : L.length = 512) : Hp Tryz.prog q (Go.Instr.loadAt 91 (.pointer (some ⟨b, 0, none⟩))) K h ⟨⟩ ↔ K (.agg (L.map byteV).toArray) h := by
  rw [Tryz.ld91]
  have hl : (L.map byteV).length = 512 := by rw [List.length_map]; exact hL
  have := loadsP_of (h := h) (a := ⟨b, 0, none⟩) (L.map byteV) 0 (fun vs => K (.agg vs.toArray) h) (fun j hj => by
    have := (o.cell hj).1
    by_cases h0 : j = 0
    · subst h0; simpa [Go.Addr.add] using this
    · simpa [Go.Addr.add, h0] using this)
  rw [hl] at this
  exact this
theorem over_all {L s : List UInt8} (h : s.length = L.length) : over L 0 s = s := by
  unfold over
  rw [List.take_zero, List.nil_append, Nat.zero_add, h, List.drop_length, List.append_nil]
theorem sector_arr {w wm k B e : Nat} {xs : List Im} {nm : List UInt8} {L : List UInt8} (a : WdAt h w wm xs) (o : OwnT e 1 h (.slice (some ⟨B, 0, none⟩) 512 512) (L.map byteV)) (hk : k < 131072)
    (H : ∀ h', OwnT e 1 h' (.slice (some ⟨B, 0, none⟩) 512 512) ((conts xs nm k).map byteV) → Mod (· = B) h h' → K (.tuple #[]) h') :
    CallsH Tryz.prog 44 #[ptrV w, .slice (some ⟨B, 0, none⟩) 512 512, ptrOf xs nm, .int .i64 k] h K ⟨⟩ := by
  have hsub : (⟨B, 0, none⟩ : Go.Addr) = sub ⟨B, 0, none⟩ 0 512 := by simp
  have hL : L.length = 512 := o.seg.1
  have key : CallsH Tryz.prog 44 #[ptrV w, .slice (some (sub ⟨B, 0, none⟩ 0 512)) 512 512, ptrOf xs nm, .int .i64 k] h K ⟨⟩ :=
    sector_c a o (lo := 0) (m := 512) (c' := 512) (by omega) (Nat.le_refl _) (Nat.le_refl _) hk fun h' o' m' => H h' (by rw [over_all (by rw [a.clen, hL])] at o'; exact o') m'
  rw [← hsub] at key
  exact key
set_option maxHeartbeats 1000000 in
theorem Compare_c {w wm : Nat} {xs : List Im} {x y : Im} (a : WdAt h w wm xs) (hnx : OkN x.nm) (hny : OkN y.nm) (hx : findI x.nm xs = some x) (hy : findI y.nm xs = some y)
    (HS : ∀ h', Ext h h' → (∀ k, k < max x.n y.n → conts xs x.nm k = conts xs y.nm k) → K (.tuple #[.int .i64 0, .bool true, .int .i64 0]) h')
    (HD : ∀ h' k, Ext h h' → k < max x.n y.n → conts xs x.nm k ≠ conts xs y.nm k → (∀ j, j < k → conts xs x.nm j = conts xs y.nm j) → K (.tuple #[.int .i64 k, .bool false, .int .i64 0]) h') :
    CallsH Tryz.prog 17 #[ptrV w, str x.nm, str y.nm] h K ⟨⟩ := by
  refine n17_calls ?_
  unfold n17
  simp (disch := omega)
  have e1 : Ext h (h.push (.cells #[str y.nm] 9)) := (by repeat' (first | (with_reducible exact Ext.refl _) | (with_reducible assumption) | (with_reducible refine push_ext ?_) | (with_reducible refine hset_ext ?_ ?_) | (with_reducible refine Ext.trans ?_ (by assumption)) | omega | (simp; done) | (simp; omega) | (refine Ext.size ?_) | (refine Nat.le_succ_of_le (Ext.size ?_))))
  refine named_c hny (get_pushed rfl) fun h1 e1' => ?_
  have E1 := e1.trans e1'
  refine which_c (a.ext E1) hnx fun h2 e2 => ?_
  rw [hx]
  unfold ptrV
  simp (disch := omega)
  refine which_c (a.ext (E1.trans e2)) hny fun h3 e3 => ?_
  rw [hy]
  unfold ptrV
  simp (disch := omega)
  refine alloc_sector fun h4 o4 e4 z4 => ?_
  refine alloc_sector fun h5 o5 e5 z5 => ?_
  have E3 := (E1.trans e2).trans e3
  have E5 := E3.trans (e4.trans e5)
  have a5 := a.ext E5
  have ax := a5.im x (findI_mem hx).1
  have ay := a5.im y (findI_mem hy).1
  have hpx : ptrOf xs x.nm = .pointer (some ⟨x.b, 0, none⟩) := by unfold ptrOf; rw [hx]; rfl
  have hpy : ptrOf xs y.nm = .pointer (some ⟨y.b, 0, none⟩) := by unfold ptrOf; rw [hy]; rfl
  have hnx' := ax.n
  have hny' := ay.n
  have c2 := cellOf (i := 2) ax.cells rfl
  have d2 := cellOf (i := 2) ay.cells rfl
  obtain ⟨X1, hX1⟩ : ∃ X1, X1 = x.n * 512 := ⟨_, rfl⟩
  obtain ⟨Y1, hY1⟩ : ∃ Y1, Y1 = y.n * 512 := ⟨_, rfl⟩
  rw [← hX1] at c2
  rw [← hY1] at d2
  obtain ⟨N, hN⟩ : ∃ N, N = max x.n y.n := ⟨_, rfl⟩
  rw [← hN] at HS HD
  have hNl : N ≤ 131072 := by omega
  have hmx : (if X1 < Y1 then (Y1 : Int) else (X1 : Int)) / 512 = (N : Int) := by split <;> omega
  simp (disch := omega) [c2, d2, Hp_max2, hmx]
  refine loopX1 (α := Nat × List UInt8 × List UInt8) (fun a => .int .i64 a.1) (fun a g => a.1 ≤ N ∧ Mod (fun b => b = h3.size ∨ b = h4.size) h5 g ∧ OwnT arT 1 g (.slice (some ⟨h3.size, 0, none⟩) 512 512) (a.2.1.map byteV) ∧ OwnT arT 1 g (.slice (some ⟨h4.size, 0, none⟩) 512 512) (a.2.2.map byteV) ∧ ∀ j, j < a.1 → conts xs x.nm j = conts xs y.nm j) (fun a => N - a.1) (0, z512, z512) rfl ⟨by simp, .refl _ _, o4.ext e5, o5, fun j hj => by simp at hj⟩ ?_
  rintro ⟨k, L1, L2⟩ g ⟨hk, mg, p1, q1, hall⟩ X hX
  dsimp only at hk mg p1 q1 hall hX ⊢
  have z3 := E3.size
  have EG : Ext h g := mg.ext_from E5 (fun b hb e => by omega)
  by_cases hkn : k < N
  · simp (disch := omega)
    rw [Hp_sliceArr (n := 512) (s := 1) (by kernel_rfl) (by omega)]
    rw [show (.pointer (some ⟨w, 0, none⟩) : Value) = ptrV w from rfl, ← hpx]
    refine sector_arr (a.ext EG) p1 (by omega) fun g2 p2 m2 => ?_
    have EG2 : Ext h g2 := m2.ext_from EG (fun b hb e => by have e' : b = h3.size := e; omega)
    have q2 := q1.mod m2 (fun b hb e => by have e' : b = h3.size := e; have hb' : h4.size = b := Option.some.inj hb; omega)
    rw [Hp_sliceArr (n := 512) (s := 1) (by kernel_rfl) (by omega), ← hpy]
    refine sector_arr (a.ext EG2) q2 (by omega) fun g3 q3 m3 => ?_
    have p3 := p2.mod m3 (fun b hb e => by have e' : b = h4.size := e; have hb' : h3.size = b := Option.some.inj hb; omega)
    have l1 := a.clen x.nm k
    have l2 := a.clen y.nm k
    rw [load_sector p3 l1, load_sector q3 l2, Hp_neqArr (n := 512) (by kernel_rfl) l1 l2]
    have mg3 : Mod (fun b => b = h3.size ∨ b = h4.size) h5 g3 := (mg.trans m2 (fun b _ e => .inl e)).trans m3 (fun b _ e => .inr e)
    have EG3 : Ext h g3 := mg3.ext_from E5 (fun b hb e => by omega)
    by_cases hq : conts xs x.nm k = conts xs y.nm k
    · simp (disch := omega) [hq]
      refine hX (k + 1, conts xs x.nm k, conts xs y.nm k) _ _ (by simp) ⟨hkn, mg3, p3, q3, fun j hj => ?_⟩ (by dsimp only; omega)
      by_cases e : j = k
      · subst e; exact hq
      · exact hall j (by dsimp only at hj; omega)
    · simp (disch := omega) [hq]
      exact HD g3 k EG3 hkn hq hall
  · obtain rfl : k = N := by omega
    simp (disch := omega)
    exact HS g EG hall
end Go.Proofs.YtoonjlhfgjnnmaaGreat

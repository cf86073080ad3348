/- Cache: going over the pages that are kept. Cache: the laws' calls. Cache: calls that are worked out. Cache, plainly: what is counted. Cache: bytes read through it, with all that holds between calls; where no page waits. Cache, for CacheRoom: what holds behind j calls where no step fails and nobody waits. -/
import Derived.Test.YtcbbdnaelimpfaaCacC
import Derived.Test.YtcbbdnaelimpfaaStoC
set_option linter.unusedSimpArgs false
set_option linter.unusedVariables false
namespace Go.Proofs.Ytcbbdnaelimpfaa
open Go.Vc Go.Sort
variable {K : Value → Heap → Prop} {h : Heap}

theorem Nsq.mod {S : Nat → Prop} {h' : Heap} {sb : Nat} {v : Value} {L : List Int} (a : Nsq h sb v L) (m : Mod S h h') (h1 : ¬ S sb) (h2 : ∀ b, blkV v = some b → ¬ S b) : Nsq h' sb v L :=
  ⟨(m.block _ (get_some_lt a.cell) h1).trans a.cell, a.row.mod m h2⟩
theorem Nsq.ext {h' : Heap} {sb : Nat} {v : Value} {L : List Int} (a : Nsq h sb v L) (e : Ext h h') : Nsq h' sb v L := a.mod (S := fun _ => False) (.of_ext e) (fun x => x) (fun _ _ x => x)
/-- The rule for `range` over these numbers. -/
theorem RangeN {D : Value} {B : Nat → List Value → ((Heap → Prop) → Heap → Prop) → (Heap → Prop) → (Code → Heap → Prop) → Heap → Prop} {aN aR : Value → Heap → Prop} {aE : Nat → Value → Heap → Prop} {sb : Nat} {v : Value} {L : List Int} (hs : Nsq h sb v L) (hfew : L.length < 1000000) (Φ : Nat → Heap → Prop) (Ψ : Heap → Prop)
    (h0 : ∀ g, Ext h g → g.size = h.size + 2 → g[h.size]? = some (.deferred (some [])) → Φ 0 g) (hst : ∀ i g g', Φ i g → Ext g g' → Φ i g') (hkeep : ∀ i g, Φ i g → Nsq g sb v L)
    (hround : ∀ i (hi : i < L.length) (g : Heap) (oR oB : Obj) (J : Code → Heap → Prop) (X : Heap → Prop), Φ i g → g[h.size + 1]? = some oR → isLoop oR = true → isLoop oB = true →
      (∀ g', Φ (i + 1) g' → g'[h.size + 1]? = some oR → X g') → (∀ g', Ψ g' → g'[h.size + 1]? = some oB → J .ret g') →
      B (h.size + 1) [ik L[i]] (fun k h1 => h1[h.size + 1]? = some oR ∧ k (h1.setIfInBounds (h.size + 1) oB)) (fun h4 => h4[h.size + 1]? = some oB ∧ X (h4.setIfInBounds (h.size + 1) oR)) J g)
    (hend : ∀ g oE oR, Φ L.length g → g[h.size + 1]? = some oR → isLoop oR = true → aN (consD h.size D) (g.setIfInBounds (h.size + 1) oE))
    (hret : ∀ g oE oR, Ψ g → g[h.size + 1]? = some oR → isLoop oR = true → aR (consD h.size D) (g.setIfInBounds (h.size + 1) oE)) :
    RangeC Try.prog none (nsqV sb) 1 D B aN aR aE h ⟨⟩ ⟨⟩ ⟨⟩ ⟨⟩ := by
  refine RangeC_none rfl fun oR oB oE oX oF Kp hoR hoB hrd hN hR hX => ?_
  refine InvokeH_k1 (by kernel_rfl) ?_
  refine (⟨_, rfl⟩ : ∃ g, g = (h.push (.deferred (some []))).push oR).elim fun g eg => ?_
  have zg : g.size = h.size + 2 := by simp [eg]
  have eg' : Ext h g := by rw [eg]; exact (by repeat' (first | (with_reducible exact Ext.refl _) | (with_reducible assumption) | (with_reducible refine push_ext ?_) | (with_reducible refine hset_ext ?_ ?_) | (with_reducible refine Ext.trans ?_ (by assumption)) | omega | (simp; done) | (simp; omega) | (refine Ext.size ?_) | (refine Nat.le_succ_of_le (Ext.size ?_))))
  have rD : g[h.size]? = some (.deferred (some [])) := by rw [eg, get_push (by simp), get_pushed rfl]
  have rL : g[h.size + 1]? = some oR := by rw [eg, get_pushed (by simp)]
  rw [← eg]
  have p0 := h0 g eg' zg rD
  have s1 := hs.ext eg'
  clear eg
  obtain ⟨va, vn, vc, rfl, hvl, hvc, hvne⟩ := hs.row.form (by omega)
  obtain rfl : vn = L.length := by simpa using hvl.symm
  have c1 := cellOf (i := 0) s1.cell rfl
  refine n48_calls ?_
  unfold n48 ptrV
  simp (disch := omega) [c1]
  refine loopX1 (α := Nat) (fun a => .int .i64 a) (fun i g' => i ≤ L.length ∧ Φ i g' ∧ g'[h.size + 1]? = some oR) (fun i => L.length - i) 0 rfl ⟨by omega, p0, rL⟩ ?_
  rintro i g' ⟨hi, hp, hl⟩ X hX'
  have hlt := get_some_lt hl
  by_cases hil : i < L.length
  · obtain ⟨b, rfl⟩ := hvne (by intro e; have := congrArg List.length e; rw [List.length_map] at this; simp only [List.length_nil] at this; omega)
    have q0 := ((hkeep _ _ hp).row.elt (i := i) (by simpa using hil)).1
    rw [List.getElem_map] at q0
    have inv : ∀ (g2 : Heap) (K0 : Value → Heap → Prop), Ext g' g2 → (∀ g3, Φ (i + 1) g3 → g3[h.size + 1]? = some oR → K0 (.bool true) g3) → (∀ g3, Ψ g3 → g3[h.size + 1]? = some oB → K0 (.bool false) (g3.setIfInBounds (h.size + 1) (oX .ret))) → InvokeH Try.prog (.func (.yield (h.size + 1)) #[] #[]) #[ik L[i]] g2 K0 ⟨⟩ := fun g2 K0 e2 hk hj =>
      hrd [ik L[i]] g2 K0 rfl ((e2.block _ hlt).trans hl) (hround i hil g2 oR oB _ (fun g3 => K0 (.bool true) g3) (hst _ _ _ hp e2) ((e2.block _ hlt).trans hl) hoR hoB hk (fun g3 hps hb => ⟨hb, hj g3 hps hb⟩))
    simp (disch := omega) [q0]
    refine inv g' _ (.refl _) (fun g3 p3 l3 => ?_) (fun g3 p3 l3 => ?_)
    · simp (disch := omega)
      exact hX' (i + 1) _ _ (by simp) ⟨by omega, p3, l3⟩ (by omega)
    · simp (disch := omega)
      have hb := get_some_lt l3
      refine hR _ _ (get_put hb) ?_
      rw [Array.setIfInBounds_setIfInBounds]
      exact hret g3 (oF .ret) oB p3 l3 hoB
  · have : i = L.length := by omega
    subst this
    simp (disch := omega)
    refine hN _ _ hl ?_
    exact hend g' oE oR hp hl hoR
end Go.Proofs.Ytcbbdnaelimpfaa
set_option linter.unusedSimpArgs false
set_option linter.unusedVariables false
namespace Go.Proofs.Ytcbbdnaelimpfaa
open Go.Vc
variable {K : Value → Heap → Prop} {h : Heap}

/-- A call of a script. -/
structure Sc where
  kind : Int
  at_ : Int
  n : Int
  page : Int
  other : Int
  bv : Value
  b : List UInt8
def Sc.cells (x : Sc) : List Value := [.int .i64 x.kind, .int .i64 x.at_, .int .i64 x.n, .int .i64 x.page, .int .i64 x.other, x.bv]
structure ScOk (h : Heap) (x : Sc) : Prop where
  kind : i64 x.kind
  at_ : i64 x.at_
  n : i64 x.n
  page : i64 x.page
  other : i64 x.other
  b : Bytes h x.bv x.b
  bl : x.b.length < 9223372036854775808
theorem ScOk.ext {h' : Heap} {x : Sc} (a : ScOk h x) (e : Ext h h') : ScOk h' x := ⟨a.kind, a.at_, a.n, a.page, a.other, a.b.ext e, a.bl⟩
structure Scs (h : Heap) (v : Value) (xs : List Sc) : Prop where
  slc : Slc 6 h v (fun us x => us = x.cells) xs
  ok : ∀ x ∈ xs, ScOk h x
  len : xs.length < 9223372036854775808
theorem Scs.ext {h' : Heap} {v : Value} {xs : List Sc} (a : Scs h v xs) (e : Ext h h') : Scs h' v xs := ⟨slc_ext a.slc e, fun x hx => (a.ok x hx).ext e, a.len⟩
theorem Scs.form {v : Value} {xs : List Sc} (a : Scs h v xs) : ∃ o c, v = .slice o xs.length c := Slc.form a.slc
theorem Scs.cell {v : Value} {xs : List Sc} (s : Scs h v xs) {i : Nat} (hi : i < xs.length) : ∃ a c, v = .slice (some a) xs.length c ∧ hcell h (elt a (i * 6)) = some (.int .i64 xs[i].kind) ∧ hcell h (elt a (i * 6 + 1)) = some (.int .i64 xs[i].at_) ∧
    hcell h (elt a (i * 6 + 2)) = some (.int .i64 xs[i].n) ∧ hcell h (elt a (i * 6 + 3)) = some (.int .i64 xs[i].page) ∧ hcell h (elt a (i * 6 + 4)) = some (.int .i64 xs[i].other) ∧ hcell h (elt a (i * 6 + 5)) = some xs[i].bv := by
  rcases s.slc with ⟨h1, rfl⟩ | ⟨a, c, h1, h2, h3⟩
  · cases hi
  · obtain ⟨us, -, h5, rfl⟩ := h3 i hi
    have := fun j hj => h5 j hj
    unfold Sc.cells at this
    have e0 := this 0 (by simp)
    have e1 := this 1 (by simp)
    have e2 := this 2 (by simp)
    have e3 := this 3 (by simp)
    have e4 := this 4 (by simp)
    have e5 := this 5 (by simp)
    rw [elt_elt] at e0 e1 e2 e3 e4 e5
    exact ⟨a, c, h1, e0, e1, e2, e3, e4, e5⟩
section
open Go Go.ChangeShapes Go.WideShapes Go.ChangeAt Go.RowKit Go.Deep
variable {H : Type} {enc : TypeId × Value → H} {w : World} {base : Nat} {sp : Nat → Bool} {held : Bool}
theorem len6 {l : List Value} (h : l.length = 6) : ∃ a b c d e f, l = [a, b, c, d, e, f] := by
  match l, h with
  | [a, b, c, d, e, f], _ => exact ⟨a, b, c, d, e, f, rfl⟩
theorem len4 {l : List Value} (h : l.length = 4) : ∃ a b c d, l = [a, b, c, d] := by
  match l, h with
  | [a, b, c, d], _ => exact ⟨a, b, c, d, rfl⟩
set_option maxRecDepth 100000 in
theorem laid_sc {cs : List Value} (h : Laid enc Try.prog w base sp held 52 cs) : ∃ x : Sc, cs = x.cells ∧ ScOk w.heap x := by
  obtain ⟨hl, hL⟩ := h.flds (L := [(3, 0, 1), (3, 1, 1), (3, 2, 1), (2, 3, 1), (2, 4, 1), (32, 5, 1)]) (n := 6) (by kernel_rfl) (by kernel_rfl)
  obtain ⟨c0, c1, c2, c3, c4, c5, rfl⟩ := len6 hl
  obtain ⟨n0, hn0, r0⟩ := (hL 0 _ _ _ rfl).int (k := .i64) (by kernel_rfl)
  obtain rfl : c0 = .int .i64 n0 := by simpa using hn0
  obtain ⟨n1, hn1, r1⟩ := (hL 1 _ _ _ rfl).int (k := .i64) (by kernel_rfl)
  obtain rfl : c1 = .int .i64 n1 := by simpa using hn1
  obtain ⟨n2, hn2, r2⟩ := (hL 2 _ _ _ rfl).int (k := .i64) (by kernel_rfl)
  obtain rfl : c2 = .int .i64 n2 := by simpa using hn2
  obtain ⟨n3, hn3, r3⟩ := (hL 3 _ _ _ rfl).int (k := .i64) (by kernel_rfl)
  obtain rfl : c3 = .int .i64 n3 := by simpa using hn3
  obtain ⟨n4, hn4, r4⟩ := (hL 4 _ _ _ rfl).int (k := .i64) (by kernel_rfl)
  obtain rfl : c4 = .int .i64 n4 := by simpa using hn4
  obtain ⟨v5, b5, hn5, hB5, r5⟩ := (hL 5 _ _ _ rfl).bytes (e := 5) (by kernel_rfl) (by kernel_rfl) (by kernel_rfl)
  obtain rfl : c5 = v5 := by simpa using hn5
  exact ⟨⟨n0, n1, n2, n3, n4, c5, b5⟩, rfl, i64_of r0, i64_of r1, i64_of r2, i64_of r3, i64_of r4, hB5, max63 r5⟩
set_option maxRecDepth 100000 in
theorem laid_scs {cs : List Value} (h : Laid enc Try.prog w base sp held 48 cs) : ∃ (v : Value) (xs : List Sc), cs = [v] ∧ Scs w.heap v xs := by
  obtain ⟨v, xs, rfl, hs, hl⟩ := h.slice (e := 52) (R := fun us (x : Sc) => us = x.cells ∧ ScOk w.heap x) (by kernel_rfl) (fun us hu => laid_sc hu)
  have hc : Program.cellsOf Try.prog 52 = 6 := by kernel_rfl
  rw [hc] at hs
  obtain ⟨s1, s2⟩ := slc_ok (f := Sc.cells) hs (fun us x hx => hx)
  exact ⟨v, xs, rfl, s1, s2, max63 hl⟩
end
end Go.Proofs.Ytcbbdnaelimpfaa
set_option linter.unusedSimpArgs false
set_option linter.unusedVariables false
namespace Go.Proofs.Ytcbbdnaelimpfaa
open Go.Vc
variable {K : Value → Heap → Prop} {h : Heap}

/-- What the law works out. -/
structure Fits (size bits room : Int) (xs : List Sc) : Prop where
  s0 : 0 ≤ size
  s1 : size ≤ 50000
  b0 : 9 ≤ bits
  b1 : bits ≤ 12
  r0 : 1 ≤ room
  r1 : room ≤ 20
  few : xs.length ≤ 60
  ok : ∀ x ∈ xs, x.page < 12 ∧ x.b.length ≤ 5000
set_option maxHeartbeats 4000000 in
theorem fits_c {size bits room : Int} {v : Value} {xs : List Sc} (hx : Scs h v xs) (H1 : ∀ h', Ext h h' → Fits size bits room xs → K (.bool true) h') (H0 : ∀ h', Ext h h' → K (.bool false) h') :
    CallsH Try.prog 15 #[.agg #[.int .i64 size, .int .i64 bits, .int .i64 room, v]] h K ⟨⟩ := by
  refine n15_calls ?_
  unfold n15
  obtain ⟨va, vc, rfl⟩ := hx.form
  have hlen := hx.len
  by_cases h1 : size < 0
  · simp (disch := omega) [h1]
    exact H0 _ (by repeat' (first | (with_reducible exact Ext.refl _) | (with_reducible assumption) | (with_reducible refine push_ext ?_) | (with_reducible refine hset_ext ?_ ?_) | (with_reducible refine Ext.trans ?_ (by assumption)) | omega | (simp; done) | (simp; omega) | (refine Ext.size ?_) | (refine Nat.le_succ_of_le (Ext.size ?_))))
  by_cases h2 : 50000 < size
  · simp (disch := omega) [h1, h2]
    exact H0 _ (by repeat' (first | (with_reducible exact Ext.refl _) | (with_reducible assumption) | (with_reducible refine push_ext ?_) | (with_reducible refine hset_ext ?_ ?_) | (with_reducible refine Ext.trans ?_ (by assumption)) | omega | (simp; done) | (simp; omega) | (refine Ext.size ?_) | (refine Nat.le_succ_of_le (Ext.size ?_))))
  by_cases h3 : bits < 9
  · simp (disch := omega) [h1, h2, h3]
    exact H0 _ (by repeat' (first | (with_reducible exact Ext.refl _) | (with_reducible assumption) | (with_reducible refine push_ext ?_) | (with_reducible refine hset_ext ?_ ?_) | (with_reducible refine Ext.trans ?_ (by assumption)) | omega | (simp; done) | (simp; omega) | (refine Ext.size ?_) | (refine Nat.le_succ_of_le (Ext.size ?_))))
  by_cases h4 : 12 < bits
  · simp (disch := omega) [h1, h2, h3, h4]
    exact H0 _ (by repeat' (first | (with_reducible exact Ext.refl _) | (with_reducible assumption) | (with_reducible refine push_ext ?_) | (with_reducible refine hset_ext ?_ ?_) | (with_reducible refine Ext.trans ?_ (by assumption)) | omega | (simp; done) | (simp; omega) | (refine Ext.size ?_) | (refine Nat.le_succ_of_le (Ext.size ?_))))
  by_cases h5 : room < 1
  · simp (disch := omega) [h1, h2, h3, h4, h5]
    exact H0 _ (by repeat' (first | (with_reducible exact Ext.refl _) | (with_reducible assumption) | (with_reducible refine push_ext ?_) | (with_reducible refine hset_ext ?_ ?_) | (with_reducible refine Ext.trans ?_ (by assumption)) | omega | (simp; done) | (simp; omega) | (refine Ext.size ?_) | (refine Nat.le_succ_of_le (Ext.size ?_))))
  by_cases h6 : 20 < room
  · simp (disch := omega) [h1, h2, h3, h4, h5, h6]
    exact H0 _ (by repeat' (first | (with_reducible exact Ext.refl _) | (with_reducible assumption) | (with_reducible refine push_ext ?_) | (with_reducible refine hset_ext ?_ ?_) | (with_reducible refine Ext.trans ?_ (by assumption)) | omega | (simp; done) | (simp; omega) | (refine Ext.size ?_) | (refine Nat.le_succ_of_le (Ext.size ?_))))
  by_cases h7 : 60 < xs.length
  · simp (disch := omega) [h1, h2, h3, h4, h5, h6, h7]
    exact H0 _ (by repeat' (first | (with_reducible exact Ext.refl _) | (with_reducible assumption) | (with_reducible refine push_ext ?_) | (with_reducible refine hset_ext ?_ ?_) | (with_reducible refine Ext.trans ?_ (by assumption)) | omega | (simp; done) | (simp; omega) | (refine Ext.size ?_) | (refine Nat.le_succ_of_le (Ext.size ?_))))
  simp (disch := omega) [h1, h2, h3, h4, h5, h6, h7]
  refine (⟨_, rfl⟩ : ∃ G, G = h.push (.cells #[.int .i64 size, .int .i64 bits, .int .i64 room, .slice va xs.length vc] 50)).elim fun G eG => ?_
  have eg : Ext h G := by rw [eG]; exact (by repeat' (first | (with_reducible exact Ext.refl _) | (with_reducible assumption) | (with_reducible refine push_ext ?_) | (with_reducible refine hset_ext ?_ ?_) | (with_reducible refine Ext.trans ?_ (by assumption)) | omega | (simp; done) | (simp; omega) | (refine Ext.size ?_) | (refine Nat.le_succ_of_le (Ext.size ?_))))
  have q3 : hcell G ⟨h.size, 3, none⟩ = some (.slice va xs.length vc) := by rw [eG]; simp
  first | rw [← eG] | skip
  refine loopX1 (α := Nat) (fun i => .int .i64 i) (fun i g => i ≤ xs.length ∧ Ext h g ∧ hcell g ⟨h.size, 3, none⟩ = some (.slice va xs.length vc) ∧ ∀ j (hj : j < xs.length), j < i → xs[j].page < 12 ∧ xs[j].b.length ≤ 5000) (fun i => xs.length - i) 0 rfl ⟨Nat.zero_le _, by first | exact eg | exact (by repeat' (first | (with_reducible exact Ext.refl _) | (with_reducible assumption) | (with_reducible refine push_ext ?_) | (with_reducible refine hset_ext ?_ ?_) | (with_reducible refine Ext.trans ?_ (by assumption)) | omega | (simp; done) | (simp; omega) | (refine Ext.size ?_) | (refine Nat.le_succ_of_le (Ext.size ?_)))), by first | exact q3 | simp, fun j hj h0 => absurd h0 (by omega)⟩ ?_
  rintro i g ⟨hi, e, hq, hok⟩ X hX
  by_cases hil : i < xs.length
  · obtain ⟨ad, c', hv, k0, k1, k2, k3, k4, k5⟩ := (hx.ext e).cell hil
    injection hv with hv1 _ hv3
    subst hv1
    have hxo := (hx.ext e).ok xs[i] (List.getElem_mem hil)
    obtain ⟨ba, bc, hbv⟩ := hxo.b.form
    rw [hbv] at k5
    have hbl := hxo.bl
    by_cases h8 : 12 ≤ xs[i].page
    · simp (disch := omega) [hq, k3, h8]
      exact H0 g e
    by_cases h9 : 5000 < xs[i].b.length
    · simp (disch := omega) [hq, k3, k5, h8, h9]
      exact H0 g e
    simp (disch := omega) [hq, k3, k5, h8, h9]
    refine hX (i + 1) (.int .i64 ((i : Int) + 1)) g (by simp) ⟨by omega, e, hq, fun j hj hji => ?_⟩ (by omega)
    by_cases ej : j = i
    · subst ej; exact ⟨by omega, by omega⟩
    · exact hok j hj (by omega)
  obtain rfl : i = xs.length := by omega
  simp (disch := omega) [hq]
  refine H1 g e ⟨by omega, by omega, by omega, by omega, by omega, by omega, by omega, fun x hx => ?_⟩
  obtain ⟨j, hj, rfl⟩ := List.getElem_of_mem hx
  exact hok j hj hj
end Go.Proofs.Ytcbbdnaelimpfaa
set_option linter.unusedSimpArgs false
set_option linter.unusedVariables false
namespace Go.Proofs.Ytcbbdnaelimpfaa
open Go.Vc Go.Sort

theorem drop_dN_eq {c : Ca} {n : Int} (nd : (c.P.map (·.n)).Nodup) (h : c.dirty n = false) : (c.dropP n).dN = c.dN := by
  unfold Ca.dN Ca.dropP
  dsimp only
  rw [List.filter_filter]
  congr 1
  apply List.filter_congr
  intro x hx
  by_cases e : x.n = n
  · have : x.d = false := by
      unfold Ca.dirty at h
      rw [← e, get_of_mem nd hx] at h
      exact h
    simp [this]
  · simp [e]
/-- What letting go and bringing in do to the counts. -/
theorem freeP_cnt {rk : Int → Nat} {f : Nat} (hf : ∀ n, rk n < f) {x : Cx} (hr : Ranks rk x.1) (nd : (x.1.P.map (·.n)).Nodup) : (freeP f x).1.1.backs + (freeP f x).1.1.dN = x.1.backs + x.1.dN ∧ (freeP f x).1.1.P.length ≤ x.1.P.length ∧ (∀ g ∈ (freeP f x).1.1.P, g.n ∈ x.1.P.map (·.n)) := by
  obtain ⟨y, m, -, h2⟩ := freeP_spec hf x hr
  have hc := m.cnt nd
  have hn : y.1.P.map (·.n) = x.1.P.map (·.n) := m.less.map _ (fun _ => rfl)
  have hl := congrArg List.length hn
  simp only [List.length_map] at hl
  rcases h2 with h2 | ⟨g, -, -, h3, h2⟩
  · rw [h2]
    exact ⟨hc, by omega, fun g hg => by rw [← hn]; exact List.mem_map_of_mem hg⟩
  · rw [h2]
    have nd2 : (y.1.P.map (·.n)).Nodup := by rw [hn]; exact nd
    refine ⟨?_, Nat.le_trans (List.length_filter_le _ _) (by omega), fun g' hg' => by rw [← hn]; exact List.mem_map_of_mem (List.mem_filter.1 hg').1⟩
    rw [drop_dN_eq nd2 h3]
    exact hc
theorem useP_cnt {rk : Int → Nat} {f : Nat} (hf : ∀ n, rk n < f) {x : Cx} (hr : Ranks rk x.1) (inv : Inv x.1) (nd : (x.1.P.map (·.n)).Nodup) {n : Int} {pb bb : Nat} (h0 : (useP f n pb bb x).2 = 0) :
    (useP f n pb bb x).1.1.backs + (useP f n pb bb x).1.1.dN = x.1.backs + x.1.dN ∧ (useP f n pb bb x).1.1.hits + (useP f n pb bb x).1.1.loads = x.1.hits + x.1.loads + 1 ∧ (x.1.P.length ≤ x.1.loads → (useP f n pb bb x).1.1.P.length ≤ (useP f n pb bb x).1.1.loads) ∧ (∀ g ∈ (useP f n pb bb x).1.1.P, g.n = n ∨ g.n ∈ x.1.P.map (·.n)) := by
  obtain ⟨c1, c2, c3⟩ := freeP_cnt hf hr nd
  have hs := (freeP_inv hf hr inv).2.1
  unfold useP at h0 ⊢
  cases hx : x.2.f with
  | none => rw [hx] at h0; exact absurd h0 (by show ¬ (7 : Int) = 0; decide)
  | some f0 =>
    rw [hx] at h0
    dsimp only at h0 ⊢
    cases hg : x.1.get n with
    | some g =>
      dsimp only
      refine ⟨?_, ?_, fun h => ?_, fun g hg => ?_⟩
      · rw [touched_dN]; rfl
      · show x.1.hits + 1 + x.1.loads = _; omega
      · show (x.1.P.map _).length ≤ x.1.loads; rw [List.length_map]; exact h
      · obtain ⟨y, hy, rfl⟩ := List.mem_map.1 hg
        exact .inr (by rw [(touch_same n _ y).1]; exact List.mem_map_of_mem hy)
    | none =>
      rw [hg] at h0
      dsimp only at h0 ⊢
      split
      · dsimp only
        refine ⟨?_, ?_, fun h => ?_, fun g hg => ?_⟩
        · rw [touched_dN, added_dN rfl]; exact c1
        · show (freeP f x).1.1.hits + ((freeP f x).1.1.loads + 1) = _
          rw [hs.hits, hs.loads]; omega
        · show (((freeP f x).1.1.P ++ [_]).map _).length ≤ (freeP f x).1.1.loads + 1
          rw [List.length_map, hs.loads]
          simp; omega
        · obtain ⟨y, hy, rfl⟩ := List.mem_map.1 hg
          rw [(touch_same n _ y).1]
          rcases List.mem_append.1 hy with h1 | h1
          · exact .inr (c3 y h1)
          · have : y = newPg (freeP f x).1.2 x.1.bits n pb bb := by simpa using h1
            rw [this]; exact .inl rfl
      · rename_i h1; rw [if_neg h1] at h0; exact absurd h0 h1
end Go.Proofs.Ytcbbdnaelimpfaa
set_option linter.unusedSimpArgs false
set_option linter.unusedVariables false
namespace Go.Proofs.Ytcbbdnaelimpfaa
open Go.Vc Go.Sort
variable {K : Value → Heap → Prop} {h : Heap}

/-- Bytes read through a cache. -/
theorem read_s {o j : Nat} {c : Ca} {s : St} {p : Ps} {n at_ k : Int} (S : Ses h o j c s p) (hj : j < 1000)
    (a0 : -9223372036854775808 ≤ at_) (a1 : at_ < 9223372036854775808) (k0 : -9223372036854775808 ≤ k) (k1 : k < 9223372036854775808)
    (H2 : useE c.bits n at_ k ≠ 0 → K (.tuple #[.slice none 0 0, .int .i64 2]) h)
    (He : ∀ h' s' f rk, (∀ n, rk n < f) → Ranks rk c → useE c.bits n at_ k = 0 → (useP f n 0 0 (c, p)).2 ≠ 0 → CUpd h h' o c s (useP f n 0 0 (c, p)).1.1 s' → Ses h' o (j + 1) (useP f n 0 0 (c, p)).1.1 s' (useP f n 0 0 (c, p)).1.2 → K (.tuple #[.slice none 0 0, .int .i64 (useP f n 0 0 (c, p)).2]) h')
    (Hw : ∀ h' s' f rk pb bb g v, (∀ n, rk n < f) → Ranks rk c → useE c.bits n at_ k = 0 → (useP f n pb bb (c, p)).2 = 0 → (useP f n pb bb (c, p)).1.1.get n = some g → CUpd h h' o c s (useP f n pb bb (c, p)).1.1 s' → Ses h' o (j + 1) (useP f n pb bb (c, p)).1.1 s' (useP f n pb bb (c, p)).1.2 →
      OwnG bT 1 h' v (((g.D.drop at_.toNat).take k.toNat).map byteV) → (∀ b, blkG v = some b → h.size ≤ b ∧ ¬ Ft o (useP f n pb bb (c, p)).1.1 s' b) → K (.tuple #[v, .int .i64 0]) h') :
    CallsH Try.prog 16 #[ptrV o, .int .i64 n, .int .i64 at_, .int .i64 k] h K ⟨⟩ := by
  obtain ⟨rk, f, hf, hr⟩ := S.wf.acyc
  have hst := S.ps.2.1
  have hbd := S.bud
  have hck := S.clk
  refine cRead_c (rk := rk) hf hr S.wf.inv S.at_ S.ps (by omega) (by omega) a0 a1 k0 k1 H2 (fun h' s' h0 hne u ps => ?_) (fun h' s' pb bb g v h0 hok u ps hg ov fv => ?_)
  all_goals obtain ⟨r0, r1, r2, r3⟩ := useE_ok h0
  · have hnum := ask_ok S.at_.co.ok.b1 r3
    have b2 := useP_bud (x := (c, p)) hf hr (n := n) (pb := 0) (bb := 0)
    have b3 := useP_clk (x := (c, p)) hf hr S.wf.inv (n := n) (pb := 0) (bb := 0)
    have w := useP_wf (x := (c, p)) hf hr S.wf S.coh.nd (n := n) (pb := 0) (bb := 0)
    obtain ⟨ch, -⟩ := useP_coh (x := (c, p)) hf hr S.coh S.wf.inv hnum (n := n) (pb := 0) (bb := 0)
    dsimp only at b2 b3
    exact He h' s' f rk hf hr h0 hne u ⟨u.at_, ps, ⟨w.inv, w.opn, w.acyc, w.lim.mono (Nat.le_succ _)⟩, ch, by omega, by omega⟩
  · have hnum := ask_ok S.at_.co.ok.b1 r3
    have b2 := useP_bud (x := (c, p)) hf hr (n := n) (pb := pb) (bb := bb)
    have b3 := useP_clk (x := (c, p)) hf hr S.wf.inv (n := n) (pb := pb) (bb := bb)
    have w := useP_wf (x := (c, p)) hf hr S.wf S.coh.nd (n := n) (pb := pb) (bb := bb)
    obtain ⟨ch, -⟩ := useP_coh (x := (c, p)) hf hr S.coh S.wf.inv hnum (n := n) (pb := pb) (bb := bb)
    dsimp only at b2 b3
    exact Hw h' s' f rk pb bb g v hf hr h0 hok hg u ⟨u.at_, ps, ⟨w.inv, w.opn, w.acyc, w.lim.mono (Nat.le_succ _)⟩, ch, by omega, by omega⟩ ov fv

/-- Nobody waits. -/
structure Calm (c c' : Ca) : Prop where
  W : c'.W = []
  flushes : c'.flushes = c.flushes
theorem writeP_calm {x : Cx} {n : Int} {D : List UInt8} (h : x.1.W = []) : Calm x.1 (writeP x n D).1.1 := by
  unfold writeP
  split
  · exact ⟨by show x.1.W.filter _ = []; rw [h]; rfl, rfl⟩
  · exact ⟨h, rfl⟩
theorem calm_beh {c : Ca} (h : c.W = []) (n : Int) : c.beh n = [] := by
  have hw : c.ws n = [] := by unfold Ca.ws; rw [h]; rfl
  exact List.eq_nil_iff_forall_not_mem.2 fun q hq => by rw [beh_mem, hw] at hq; cases hq.1
theorem backP_calm {x : Cx} (h : x.1.W = []) : ∀ (f : Nat) (n : Int), Calm x.1 (backP f n x).1.1
  | 0, n => ⟨h, rfl⟩
  | f + 1, n => by
    unfold backP
    split
    · rw [calm_beh h]
      have e1 : backF n (runL (backP f) [] x) = (x, 0) := by
        unfold backF runL
        rw [if_pos rfl, if_pos (calm_beh h n)]
      rw [e1]
      unfold backW
      rw [if_pos rfl]
      cases x.1.get n with
      | none => exact ⟨h, rfl⟩
      | some g => exact writeP_calm h
    · exact ⟨h, rfl⟩
theorem run_calm {f : Nat} : ∀ (l : List Int) {x : Cx}, x.1.W = [] → Calm x.1 (runL (backP f) l x).1.1
  | [], x, h => ⟨h, rfl⟩
  | q :: l, x, h => by
    have a := backP_calm h f q
    unfold runL
    split
    · have b := run_calm (f := f) l a.W
      exact ⟨b.W, b.flushes.trans a.flushes⟩
    · exact a
theorem freeP_calm {f : Nat} {x : Cx} (h : x.1.W = []) : Calm x.1 (freeP f x).1.1 := by
  unfold freeP
  split
  · exact ⟨h, rfl⟩
  · cases x.1.victim with
    | none => exact ⟨h, rfl⟩
    | some g =>
      dsimp only
      have a := backP_calm h f g.n
      split
      · exact ⟨a.W, a.flushes⟩
      · exact a
theorem useP_calm {f : Nat} {x : Cx} {n : Int} {pb bb : Nat} (h : x.1.W = []) : (useP f n pb bb x).1.1.W = [] := by
  have a := freeP_calm (f := f) h
  unfold useP
  cases x.2.f with
  | none => exact h
  | some f0 =>
    dsimp only
    cases x.1.get n with
    | some g => exact h
    | none =>
      dsimp only
      split
      · exact a.W
      · exact a.W
/-- All is flushed, where no step fails. -/
theorem flushC_okp {rk : Int → Nat} {f : Nat} {x : Cx} (hf : ∀ n, rk n < f) (hr : Ranks rk x.1) (o : Okp x.2) : (flushC f x).2 = 0 ∧ Okp (flushC f x).1.2 ∧ Mics x (runL (backP f) x.1.nums x).1 ∧ (flushC f x).1 = ((runL (backP f) x.1.nums x).1.1.flushed, (runL (backP f) x.1.nums x).1.2.flush.1) ∧ Okp (runL (backP f) x.1.nums x).1.2 ∧ (∀ g ∈ (runL (backP f) x.1.nums x).1.1.P, (runL (backP f) x.1.nums x).1.1.dirty g.n = false) := by
  obtain ⟨h1, h2, h3⟩ := run_okp (g := backP f) (I := fun y => Ranks rk y.1) x.1.nums x (fun q hq y hy ho => by
    obtain ⟨a, b⟩ := back_okp f q y (hf q) hy ho
    exact ⟨a, b, hy.less (back_spec (rk := rk) f q y (hf q) hy).1.mics.less⟩) hr o
  obtain ⟨sp, sd⟩ := run_spec (rk := rk) (k := f) (g := backP f) (fun q y hq hy => back_spec f q y hq hy) x.1.nums x (fun q _ => hf q) hr
  obtain ⟨k1, k2, k3⟩ := flushP_okp h2
  unfold flushC
  rw [if_pos h1]
  refine ⟨k1, k2, sp.mics, k3, h2, fun g hg => ?_⟩
  have hn : (runL (backP f) x.1.nums x).1.1.P.map (·.n) = x.1.P.map (·.n) := sp.mics.less.map _ (fun _ => rfl)
  have : g.n ∈ x.1.P.map (·.n) := by rw [← hn]; exact List.mem_map_of_mem hg
  exact sd h1 g.n ((nums_perm x.1).mem_iff.2 this)
theorem flushC_calm {f : Nat} {x : Cx} (h : x.1.W = []) (h0 : (flushC f x).1 = ((runL (backP f) x.1.nums x).1.1.flushed, (runL (backP f) x.1.nums x).1.2.flush.1)) : (flushC f x).1.1.W = [] ∧ (flushC f x).1.1.flushes = x.1.flushes + 1 := by
  obtain ⟨a, b⟩ := run_calm (f := f) x.1.nums h
  rw [h0]
  refine ⟨?_, ?_⟩
  · show ((runL (backP f) x.1.nums x).1.1.W.map _) = []
    rw [a]; rfl
  · show (runL (backP f) x.1.nums x).1.1.flushes + 1 = _
    rw [b]
theorem dN_le (c : Ca) : c.dN ≤ c.P.length := List.length_filter_le _ _
end Go.Proofs.Ytcbbdnaelimpfaa
set_option linter.unusedSimpArgs false
set_option linter.unusedVariables false
namespace Go.Proofs.Ytcbbdnaelimpfaa
open Go.Vc Go.Sort
variable {K : Value → Heap → Prop} {h : Heap}

/-- What is counted behind some calls. -/
structure Rk (c : Ca) (p : Ps) (room uses writes : Nat) : Prop where
  O : Okp p
  W : c.W = []
  room : c.room = room
  uses : c.hits + c.loads = uses
  writes : c.backs + c.dN ≤ writes
  loads : c.P.length ≤ c.loads
  pg : ∀ x ∈ c.P, x.n < 12
theorem Rk.use {c : Ca} {p : Ps} {room uses writes : Nat} (R : Rk c p room uses writes) {rk : Int → Nat} {f : Nat} (hf : ∀ n, rk n < f) (hr : Ranks rk c) (inv : Inv c) (nd : (c.P.map (·.n)).Nodup) (r1 : 1 ≤ c.room) {n : Int} {pb bb : Nat} (hn : n < 12) (h0 : (useP f n pb bb (c, p)).2 = 0) : Rk (useP f n pb bb (c, p)).1.1 (useP f n pb bb (c, p)).1.2 room (uses + 1) writes := by
  obtain ⟨a1, a2, a3, a4⟩ := useP_cnt (x := (c, p)) hf hr inv nd h0
  dsimp only at a1 a2 a3 a4
  obtain ⟨-, b2, -, -⟩ := useP_bits (x := (c, p)) (n := n) (pb := pb) (bb := bb) hf hr inv
  have h1 := R.uses
  have h2 := R.writes
  refine ⟨(useP_okp (x := (c, p)) hf hr r1 R.O).2, useP_calm R.W, b2.trans R.room, by omega, by omega, a3 R.loads, fun g hg => ?_⟩
  rcases a4 g hg with e | e
  · omega
  · obtain ⟨y, hy, hyn⟩ := List.mem_map.1 e
    rw [← hyn]; exact R.pg y hy
theorem Rk.wrote {c : Ca} {p : Ps} {room uses writes : Nat} (R : Rk c p room uses writes) (nd : (c.P.map (·.n)).Nodup) (n : Int) (k : Nat) (b : List UInt8) : Rk (c.wrote n k b) p room uses (writes + 1) := by
  have h2 := R.writes
  have h3 := wrote_dN (n := n) (k := k) (b := b) nd
  refine ⟨R.O, R.W, R.room, R.uses, ?_, ?_, fun g hg => ?_⟩
  · show c.backs + (c.wrote n k b).dN ≤ writes + 1
    omega
  · show (c.P.map _).length ≤ c.loads
    rw [List.length_map]; exact R.loads
  · obtain ⟨y, hy, rfl⟩ := List.mem_map.1 hg
    have : (y.put n k b).n = y.n := by unfold Pge.put; split <;> rfl
    rw [this]; exact R.pg y hy
theorem Rk.flush {c : Ca} {p : Ps} {room uses writes : Nat} (R : Rk c p room uses writes) {rk : Int → Nat} {f : Nat} (hf : ∀ n, rk n < f) (hr : Ranks rk c) (nd : (c.P.map (·.n)).Nodup) : (flushC f (c, p)).2 = 0 ∧ Rk (flushC f (c, p)).1.1 (flushC f (c, p)).1.2 room uses writes ∧ (flushC f (c, p)).1.1.flushes = c.flushes + 1 ∧ (flushC f (c, p)).1.1.backs + (flushC f (c, p)).1.1.dN = c.backs + c.dN := by
  obtain ⟨h0, hO, m, he, -, -⟩ := flushC_okp (x := (c, p)) hf hr R.O
  obtain ⟨w1, w2⟩ := flushC_calm (x := (c, p)) (f := f) R.W he
  have hc := m.cnt nd
  dsimp only at hc
  have m2 := (flushC_mics (x := (c, p)) hf hr).1
  have hs := m2.same
  have hn : (flushC f (c, p)).1.1.P.map (·.n) = c.P.map (·.n) := m2.less.map _ (fun _ => rfl)
  have hl := congrArg List.length hn
  simp only [List.length_map] at hl
  have hb : (flushC f (c, p)).1.1.backs + (flushC f (c, p)).1.1.dN = c.backs + c.dN := by
    rw [he]
    show (runL (backP f) c.nums (c, p)).1.1.backs + (runL (backP f) c.nums (c, p)).1.1.flushed.dN = _
    rw [flushed_dN]; exact hc
  have h1 := R.uses
  have h2 := R.writes
  have h3 := R.loads
  have h4 := hs.hits
  have h5 := hs.loads
  dsimp only at h4 h5
  refine ⟨h0, ⟨hO, w1, hs.room.trans R.room, by omega, by omega, by omega, fun g hg => ?_⟩, w2, hb⟩
  have : g.n ∈ c.P.map (·.n) := by rw [← hn]; exact List.mem_map_of_mem hg
  obtain ⟨y, hy, hyn⟩ := List.mem_map.1 this
  rw [← hyn]; exact R.pg y hy
/-- A struct of six cells is stored. -/
theorem put6 {b : Nat} {t : Go.TypeId} {c0 c1 c2 c3 c4 c5 v0 v1 v2 v3 v4 v5 : Value} (hb : h[b]? = some (.cells #[c0, c1, c2, c3, c4, c5] t)) :
    (hset (hset (hset (hset (hset (hset h ⟨b, 0, none⟩ v0) ⟨b, 1, none⟩ v1) ⟨b, 2, none⟩ v2) ⟨b, 3, none⟩ v3) ⟨b, 4, none⟩ v4) ⟨b, 5, none⟩ v5)[b]? = some (.cells #[v0, v1, v2, v3, v4, v5] t) := by
  have h0 := obj_set (i := 0) (v := v0) hb
  have h1 := obj_set (i := 1) (v := v1) h0
  have h2 := obj_set (i := 2) (v := v2) h1
  have h3 := obj_set (i := 3) (v := v3) h2
  have h4 := obj_set (i := 4) (v := v4) h3
  exact obj_set (i := 5) (v := v5) h4
/-- A struct of four cells is stored. -/
theorem put4 {b : Nat} {t : Go.TypeId} {c0 c1 c2 c3 v0 v1 v2 v3 : Value} (hb : h[b]? = some (.cells #[c0, c1, c2, c3] t)) :
    (hset (hset (hset (hset h ⟨b, 0, none⟩ v0) ⟨b, 1, none⟩ v1) ⟨b, 2, none⟩ v2) ⟨b, 3, none⟩ v3)[b]? = some (.cells #[v0, v1, v2, v3] t) := by
  have h0 := obj_set (i := 0) (v := v0) hb
  have h1 := obj_set (i := 1) (v := v1) h0
  have h2 := obj_set (i := 2) (v := v2) h1
  exact obj_set (i := 3) (v := v3) h2
theorem put4_ext {g : Heap} {b : Nat} {v0 v1 v2 v3 : Value} (e : Ext g h) (hb : g.size ≤ b) : Ext g (hset (hset (hset (hset h ⟨b, 0, none⟩ v0) ⟨b, 1, none⟩ v1) ⟨b, 2, none⟩ v2) ⟨b, 3, none⟩ v3) :=
  hset_ext (hset_ext (hset_ext (hset_ext e hb) hb) hb) hb
theorem put6_ext {g : Heap} {b : Nat} {v0 v1 v2 v3 v4 v5 : Value} (e : Ext g h) (hb : g.size ≤ b) : Ext g (hset (hset (hset (hset (hset (hset h ⟨b, 0, none⟩ v0) ⟨b, 1, none⟩ v1) ⟨b, 2, none⟩ v2) ⟨b, 3, none⟩ v3) ⟨b, 4, none⟩ v4) ⟨b, 5, none⟩ v5) :=
  hset_ext (hset_ext (hset_ext (hset_ext (hset_ext (hset_ext e hb) hb) hb) hb) hb) hb
section
open Go Go.ChangeShapes Go.WideShapes Go.ChangeAt Go.RowKit Go.Deep
set_option maxRecDepth 100000 in
theorem open_calls {H : Type} {enc : TypeId × Value → H} {w : World} {base : Nat} {sp : Nat → Bool} {held : Bool} {v : Value} {r : Go.Reach} {b0 : Nat} {ps : List MemPlace} {d : DataW H} (hval : Value.okWide Try.prog w r b0 50 v) (hd : DataW.Trod enc Try.prog w base sp held 50 v d ps) :
    ∃ (size bits room : Int) (u : Value) (xs : List Sc), v = .agg #[.int .i64 size, .int .i64 bits, .int .i64 room, u] ∧ Scs w.heap u xs := by
  obtain ⟨cs, rfl, hl, hL⟩ := Laid.topFlds (L := [(2, 0, 1), (3, 1, 1), (3, 2, 1), (48, 3, 1)]) (n := 4) (by kernel_rfl) (by kernel_rfl) hval hd
  obtain ⟨c0, c1, c2, c3, rfl⟩ := len4 hl
  obtain ⟨n0, hn0, -⟩ := (hL 0 _ _ _ rfl).int (k := .i64) (by kernel_rfl)
  obtain rfl : c0 = .int .i64 n0 := by simpa using hn0
  obtain ⟨n1, hn1, -⟩ := (hL 1 _ _ _ rfl).int (k := .i64) (by kernel_rfl)
  obtain rfl : c1 = .int .i64 n1 := by simpa using hn1
  obtain ⟨n2, hn2, -⟩ := (hL 2 _ _ _ rfl).int (k := .i64) (by kernel_rfl)
  obtain rfl : c2 = .int .i64 n2 := by simpa using hn2
  obtain ⟨u, xs, hu, hx⟩ := laid_scs (hL 3 _ _ _ rfl)
  obtain rfl : c3 = u := by simpa using hu
  exact ⟨n0, n1, n2, c3, xs, rfl, hx⟩
end
end Go.Proofs.Ytcbbdnaelimpfaa

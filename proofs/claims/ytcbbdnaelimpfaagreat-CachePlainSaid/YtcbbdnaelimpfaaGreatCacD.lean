/- Cache: going over the pages that are kept. Cache: the laws' calls. Cache: calls that are worked out. Cache, plainly: what is counted. Cache: bytes read through it, with all that holds between calls; where no page waits. Cache, for CacheRoom: what holds behind j calls where no step fails and nobody waits. Cache, for CachePlain: plain bytes that grow; how long a file comes to be. Cache, for CachePlain: what is read through it are plain bytes. -/
import Derived.Test.YtcbbdnaelimpfaaGreatCacC
import Derived.Test.YtcbbdnaelimpfaaGreatStoC
import Derived.Test.YtcbbdnaelimpfaaGreatVcFull
set_option linter.unusedSimpArgs false
set_option linter.unusedVariables false
namespace Go.Proofs.YtcbbdnaelimpfaaGreat
open Go.Vc Go.Sort
variable {K : Value → Heap → Prop} {h : Heap}

theorem Nsq.mod {S : Nat → Prop} {h' : Heap} {sb : Nat} {v : Value} {L : List Int} (a : Nsq h sb v L) (m : Mod S h h') (h1 : ¬ S sb) (h2 : ∀ b, blkV v = some b → ¬ S b) : Nsq h' sb v L :=
  ⟨(m.block _ (get_some_lt a.cell) h1).trans a.cell, a.row.mod m h2⟩
theorem Nsq.ext {h' : Heap} {sb : Nat} {v : Value} {L : List Int} (a : Nsq h sb v L) (e : Ext h h') : Nsq h' sb v L := a.mod (S := fun _ => False) (.of_ext e) (fun x => x) (fun _ _ x => x)
end Go.Proofs.YtcbbdnaelimpfaaGreat
set_option linter.unusedSimpArgs false
set_option linter.unusedVariables false
namespace Go.Proofs.YtcbbdnaelimpfaaGreat
open Go.Vc
variable {K : Value → Heap → Prop} {h : Heap}

structure Sc where
  kind : Int
  at_ : Int
  n : Int
  page : Int
  other : Int
  bv : Value
  b : List UInt8
def Sc.cells (x : Sc) : List Value := [.int .i64 x.kind, .int .i64 x.at_, .int .i64 x.n, .int .i64 x.page, .int .i64 x.other, x.bv]
structure ScOk (h : Heap) (x : Sc) : Prop where
  kind : i64 x.kind
  at_ : i64 x.at_
  n : i64 x.n
  page : i64 x.page
  other : i64 x.other
  b : Bytes h x.bv x.b
  bl : x.b.length < 9223372036854775808
theorem ScOk.ext {h' : Heap} {x : Sc} (a : ScOk h x) (e : Ext h h') : ScOk h' x := ⟨a.kind, a.at_, a.n, a.page, a.other, a.b.ext e, a.bl⟩
structure Scs (h : Heap) (v : Value) (xs : List Sc) : Prop where
  slc : Slc 6 h v (fun us x => us = x.cells) xs
  ok : ∀ x ∈ xs, ScOk h x
  len : xs.length < 9223372036854775808
theorem Scs.ext {h' : Heap} {v : Value} {xs : List Sc} (a : Scs h v xs) (e : Ext h h') : Scs h' v xs := ⟨slc_ext a.slc e, fun x hx => (a.ok x hx).ext e, a.len⟩
theorem Scs.form {v : Value} {xs : List Sc} (a : Scs h v xs) : ∃ o c, v = .slice o xs.length c := Slc.form a.slc
theorem Scs.cell {v : Value} {xs : List Sc} (s : Scs h v xs) {i : Nat} (hi : i < xs.length) : ∃ a c, v = .slice (some a) xs.length c ∧ hcell h (elt a (i * 6)) = some (.int .i64 xs[i].kind) ∧ hcell h (elt a (i * 6 + 1)) = some (.int .i64 xs[i].at_) ∧
    hcell h (elt a (i * 6 + 2)) = some (.int .i64 xs[i].n) ∧ hcell h (elt a (i * 6 + 3)) = some (.int .i64 xs[i].page) ∧ hcell h (elt a (i * 6 + 4)) = some (.int .i64 xs[i].other) ∧ hcell h (elt a (i * 6 + 5)) = some xs[i].bv := by
  rcases s.slc with ⟨h1, rfl⟩ | ⟨a, c, h1, h2, h3⟩
  · cases hi
  · obtain ⟨us, -, h5, rfl⟩ := h3 i hi
    have := fun j hj => h5 j hj
    unfold Sc.cells at this
    have e0 := this 0 (by simp)
    have e1 := this 1 (by simp)
    have e2 := this 2 (by simp)
    have e3 := this 3 (by simp)
    have e4 := this 4 (by simp)
    have e5 := this 5 (by simp)
    rw [elt_elt] at e0 e1 e2 e3 e4 e5
    exact ⟨a, c, h1, e0, e1, e2, e3, e4, e5⟩
section
open Go Go.ChangeShapes Go.WideShapes Go.ChangeAt Go.RowKit Go.Deep
variable {H : Type} {enc : TypeId × Value → H} {w : World} {base : Nat} {sp : Nat → Bool} {held : Bool}
theorem len6 {l : List Value} (h : l.length = 6) : ∃ a b c d e f, l = [a, b, c, d, e, f] := by
  match l, h with
  | [a, b, c, d, e, f], _ => exact ⟨a, b, c, d, e, f, rfl⟩
theorem len4 {l : List Value} (h : l.length = 4) : ∃ a b c d, l = [a, b, c, d] := by
  match l, h with
  | [a, b, c, d], _ => exact ⟨a, b, c, d, rfl⟩
set_option maxRecDepth 100000 in
theorem laid_sc {cs : List Value} (h : Laid enc Tryz.prog w base sp held 35 cs) : ∃ x : Sc, cs = x.cells ∧ ScOk w.heap x := by
  obtain ⟨hl, hL⟩ := h.flds (L := [(3, 0, 1), (3, 1, 1), (3, 2, 1), (2, 3, 1), (2, 4, 1), (33, 5, 1)]) (n := 6) (by kernel_rfl) (by kernel_rfl)
  obtain ⟨c0, c1, c2, c3, c4, c5, rfl⟩ := len6 hl
  obtain ⟨n0, hn0, r0⟩ := (hL 0 _ _ _ rfl).int (k := .i64) (by kernel_rfl)
  obtain rfl : c0 = .int .i64 n0 := by simpa using hn0
  obtain ⟨n1, hn1, r1⟩ := (hL 1 _ _ _ rfl).int (k := .i64) (by kernel_rfl)
  obtain rfl : c1 = .int .i64 n1 := by simpa using hn1
  obtain ⟨n2, hn2, r2⟩ := (hL 2 _ _ _ rfl).int (k := .i64) (by kernel_rfl)
  obtain rfl : c2 = .int .i64 n2 := by simpa using hn2
  obtain ⟨n3, hn3, r3⟩ := (hL 3 _ _ _ rfl).int (k := .i64) (by kernel_rfl)
  obtain rfl : c3 = .int .i64 n3 := by simpa using hn3
  obtain ⟨n4, hn4, r4⟩ := (hL 4 _ _ _ rfl).int (k := .i64) (by kernel_rfl)
  obtain rfl : c4 = .int .i64 n4 := by simpa using hn4
  obtain ⟨v5, b5, hn5, hB5, r5⟩ := (hL 5 _ _ _ rfl).bytes (e := 5) (by kernel_rfl) (by kernel_rfl) (by kernel_rfl)
  obtain rfl : c5 = v5 := by simpa using hn5
  exact ⟨⟨n0, n1, n2, n3, n4, c5, b5⟩, rfl, i64_of r0, i64_of r1, i64_of r2, i64_of r3, i64_of r4, hB5, max63 r5⟩
set_option maxRecDepth 100000 in
theorem laid_scs {cs : List Value} (h : Laid enc Tryz.prog w base sp held 22 cs) : ∃ (v : Value) (xs : List Sc), cs = [v] ∧ Scs w.heap v xs := by
  obtain ⟨v, xs, rfl, hs, hl⟩ := h.slice (e := 35) (R := fun us (x : Sc) => us = x.cells ∧ ScOk w.heap x) (by kernel_rfl) (fun us hu => laid_sc hu)
  have hc : Program.cellsOf Tryz.prog 35 = 6 := by kernel_rfl
  rw [hc] at hs
  obtain ⟨s1, s2⟩ := slc_ok (f := Sc.cells) hs (fun us x hx => hx)
  exact ⟨v, xs, rfl, s1, s2, max63 hl⟩
end
end Go.Proofs.YtcbbdnaelimpfaaGreat
set_option linter.unusedSimpArgs false
set_option linter.unusedVariables false
namespace Go.Proofs.YtcbbdnaelimpfaaGreat
open Go.Vc
variable {K : Value → Heap → Prop} {h : Heap}

structure Fits (size bits room : Int) (xs : List Sc) : Prop where
  s0 : 0 ≤ size
  s1 : size ≤ 50000
  b0 : 9 ≤ bits
  b1 : bits ≤ 12
  r0 : 1 ≤ room
  r1 : room ≤ 20
  few : xs.length ≤ 60
  ok : ∀ x ∈ xs, x.page < 12 ∧ x.b.length ≤ 5000
set_option maxHeartbeats 4000000 in
theorem fits_c {size bits room : Int} {v : Value} {xs : List Sc} (hx : Scs h v xs) (H1 : ∀ h', Ext h h' → Fits size bits room xs → K (.bool true) h') (H0 : ∀ h', Ext h h' → K (.bool false) h') :
    CallsH Tryz.prog 7 #[.agg #[.int .i64 size, .int .i64 bits, .int .i64 room, v]] h K ⟨⟩ := by
  refine n7_calls ?_
  unfold n7
  obtain ⟨va, vc, rfl⟩ := hx.form
  have hlen := hx.len
  by_cases h1 : size < 0
  · simp (disch := omega) [h1]
    exact H0 _ (by repeat' (first | (with_reducible exact Ext.refl _) | (with_reducible assumption) | (with_reducible refine push_ext ?_) | (with_reducible refine hset_ext ?_ ?_) | (with_reducible refine Ext.trans ?_ (by assumption)) | omega | (simp; done) | (simp; omega) | (refine Ext.size ?_) | (refine Nat.le_succ_of_le (Ext.size ?_))))
  by_cases h2 : 50000 < size
  · simp (disch := omega) [h1, h2]
    exact H0 _ (by repeat' (first | (with_reducible exact Ext.refl _) | (with_reducible assumption) | (with_reducible refine push_ext ?_) | (with_reducible refine hset_ext ?_ ?_) | (with_reducible refine Ext.trans ?_ (by assumption)) | omega | (simp; done) | (simp; omega) | (refine Ext.size ?_) | (refine Nat.le_succ_of_le (Ext.size ?_))))
  by_cases h3 : bits < 9
  · simp (disch := omega) [h1, h2, h3]
    exact H0 _ (by repeat' (first | (with_reducible exact Ext.refl _) | (with_reducible assumption) | (with_reducible refine push_ext ?_) | (with_reducible refine hset_ext ?_ ?_) | (with_reducible refine Ext.trans ?_ (by assumption)) | omega | (simp; done) | (simp; omega) | (refine Ext.size ?_) | (refine Nat.le_succ_of_le (Ext.size ?_))))
  by_cases h4 : 12 < bits
  · simp (disch := omega) [h1, h2, h3, h4]
    exact H0 _ (by repeat' (first | (with_reducible exact Ext.refl _) | (with_reducible assumption) | (with_reducible refine push_ext ?_) | (with_reducible refine hset_ext ?_ ?_) | (with_reducible refine Ext.trans ?_ (by assumption)) | omega | (simp; done) | (simp; omega) | (refine Ext.size ?_) | (refine Nat.le_succ_of_le (Ext.size ?_))))
  by_cases h5 : room < 1
  · simp (disch := omega) [h1, h2, h3, h4, h5]
    exact H0 _ (by repeat' (first | (with_reducible exact Ext.refl _) | (with_reducible assumption) | (with_reducible refine push_ext ?_) | (with_reducible refine hset_ext ?_ ?_) | (with_reducible refine Ext.trans ?_ (by assumption)) | omega | (simp; done) | (simp; omega) | (refine Ext.size ?_) | (refine Nat.le_succ_of_le (Ext.size ?_))))
  by_cases h6 : 20 < room
  · simp (disch := omega) [h1, h2, h3, h4, h5, h6]
    exact H0 _ (by repeat' (first | (with_reducible exact Ext.refl _) | (with_reducible assumption) | (with_reducible refine push_ext ?_) | (with_reducible refine hset_ext ?_ ?_) | (with_reducible refine Ext.trans ?_ (by assumption)) | omega | (simp; done) | (simp; omega) | (refine Ext.size ?_) | (refine Nat.le_succ_of_le (Ext.size ?_))))
  by_cases h7 : 60 < xs.length
  · simp (disch := omega) [h1, h2, h3, h4, h5, h6, h7]
    exact H0 _ (by repeat' (first | (with_reducible exact Ext.refl _) | (with_reducible assumption) | (with_reducible refine push_ext ?_) | (with_reducible refine hset_ext ?_ ?_) | (with_reducible refine Ext.trans ?_ (by assumption)) | omega | (simp; done) | (simp; omega) | (refine Ext.size ?_) | (refine Nat.le_succ_of_le (Ext.size ?_))))
  simp (disch := omega) [h1, h2, h3, h4, h5, h6, h7]
  refine (⟨_, rfl⟩ : ∃ G, G = h.push (.cells #[.int .i64 size, .int .i64 bits, .int .i64 room, .slice va xs.length vc] 24)).elim fun G eG => ?_
  have eg : Ext h G := by rw [eG]; exact (by repeat' (first | (with_reducible exact Ext.refl _) | (with_reducible assumption) | (with_reducible refine push_ext ?_) | (with_reducible refine hset_ext ?_ ?_) | (with_reducible refine Ext.trans ?_ (by assumption)) | omega | (simp; done) | (simp; omega) | (refine Ext.size ?_) | (refine Nat.le_succ_of_le (Ext.size ?_))))
  have q3 : hcell G ⟨h.size, 3, none⟩ = some (.slice va xs.length vc) := by rw [eG]; simp
  first | rw [← eG] | skip
  refine loopX1 (α := Nat) (fun i => .int .i64 i) (fun i g => i ≤ xs.length ∧ Ext h g ∧ hcell g ⟨h.size, 3, none⟩ = some (.slice va xs.length vc) ∧ ∀ j (hj : j < xs.length), j < i → xs[j].page < 12 ∧ xs[j].b.length ≤ 5000) (fun i => xs.length - i) 0 rfl ⟨Nat.zero_le _, by first | exact eg | exact (by repeat' (first | (with_reducible exact Ext.refl _) | (with_reducible assumption) | (with_reducible refine push_ext ?_) | (with_reducible refine hset_ext ?_ ?_) | (with_reducible refine Ext.trans ?_ (by assumption)) | omega | (simp; done) | (simp; omega) | (refine Ext.size ?_) | (refine Nat.le_succ_of_le (Ext.size ?_)))), by first | exact q3 | simp, fun j hj h0 => absurd h0 (by omega)⟩ ?_
  rintro i g ⟨hi, e, hq, hok⟩ X hX
  by_cases hil : i < xs.length
  · obtain ⟨ad, c', hv, k0, k1, k2, k3, k4, k5⟩ := (hx.ext e).cell hil
    injection hv with hv1 _ hv3
    subst hv1
    have hxo := (hx.ext e).ok xs[i] (List.getElem_mem hil)
    obtain ⟨ba, bc, hbv⟩ := hxo.b.form
    rw [hbv] at k5
    have hbl := hxo.bl
    by_cases h8 : 12 ≤ xs[i].page
    · simp (disch := omega) [hq, k3, h8]
      exact H0 g e
    by_cases h9 : 5000 < xs[i].b.length
    · simp (disch := omega) [hq, k3, k5, h8, h9]
      exact H0 g e
    simp (disch := omega) [hq, k3, k5, h8, h9]
    refine hX (i + 1) (.int .i64 ((i : Int) + 1)) g (by simp) ⟨by omega, e, hq, fun j hj hji => ?_⟩ (by omega)
    by_cases ej : j = i
    · subst ej; exact ⟨by omega, by omega⟩
    · exact hok j hj (by omega)
  obtain rfl : i = xs.length := by omega
  simp (disch := omega) [hq]
  refine H1 g e ⟨by omega, by omega, by omega, by omega, by omega, by omega, by omega, fun x hx => ?_⟩
  obtain ⟨j, hj, rfl⟩ := List.getElem_of_mem hx
  exact hok j hj hj
end Go.Proofs.YtcbbdnaelimpfaaGreat
set_option linter.unusedSimpArgs false
set_option linter.unusedVariables false
namespace Go.Proofs.YtcbbdnaelimpfaaGreat
open Go.Vc Go.Sort

theorem drop_dN_eq {c : Ca} {n : Int} (nd : (c.P.map (·.n)).Nodup) (h : c.dirty n = false) : (c.dropP n).dN = c.dN := by
  unfold Ca.dN Ca.dropP
  dsimp only
  rw [List.filter_filter]
  congr 1
  apply List.filter_congr
  intro x hx
  by_cases e : x.n = n
  · have : x.d = false := by
      unfold Ca.dirty at h
      rw [← e, get_of_mem nd hx] at h
      exact h
    simp [this]
  · simp [e]
theorem freeP_cnt {rk : Int → Nat} {f : Nat} (hf : ∀ n, rk n < f) {x : Cx} (hr : Ranks rk x.1) (nd : (x.1.P.map (·.n)).Nodup) : (freeP f x).1.1.backs + (freeP f x).1.1.dN = x.1.backs + x.1.dN ∧ (freeP f x).1.1.P.length ≤ x.1.P.length ∧ (∀ g ∈ (freeP f x).1.1.P, g.n ∈ x.1.P.map (·.n)) := by
  obtain ⟨y, m, -, h2⟩ := freeP_spec hf x hr
  have hc := m.cnt nd
  have hn : y.1.P.map (·.n) = x.1.P.map (·.n) := m.less.map _ (fun _ => rfl)
  have hl := congrArg List.length hn
  simp only [List.length_map] at hl
  rcases h2 with h2 | ⟨g, -, -, h3, h2⟩
  · rw [h2]
    exact ⟨hc, by omega, fun g hg => by rw [← hn]; exact List.mem_map_of_mem hg⟩
  · rw [h2]
    have nd2 : (y.1.P.map (·.n)).Nodup := by rw [hn]; exact nd
    refine ⟨?_, Nat.le_trans (List.length_filter_le _ _) (by omega), fun g' hg' => by rw [← hn]; exact List.mem_map_of_mem (List.mem_filter.1 hg').1⟩
    rw [drop_dN_eq nd2 h3]
    exact hc
theorem useP_cnt {rk : Int → Nat} {f : Nat} (hf : ∀ n, rk n < f) {x : Cx} (hr : Ranks rk x.1) (inv : Inv x.1) (nd : (x.1.P.map (·.n)).Nodup) {n : Int} {pb bb : Nat} (h0 : (useP f n pb bb x).2 = 0) :
    (useP f n pb bb x).1.1.backs + (useP f n pb bb x).1.1.dN = x.1.backs + x.1.dN ∧ (useP f n pb bb x).1.1.hits + (useP f n pb bb x).1.1.loads = x.1.hits + x.1.loads + 1 ∧ (x.1.P.length ≤ x.1.loads → (useP f n pb bb x).1.1.P.length ≤ (useP f n pb bb x).1.1.loads) ∧ (∀ g ∈ (useP f n pb bb x).1.1.P, g.n = n ∨ g.n ∈ x.1.P.map (·.n)) := by
  obtain ⟨c1, c2, c3⟩ := freeP_cnt hf hr nd
  have hs := (freeP_inv hf hr inv).2.1
  unfold useP at h0 ⊢
  cases hx : x.2.f with
  | none => rw [hx] at h0; exact absurd h0 (by show ¬ (7 : Int) = 0; decide)
  | some f0 =>
    rw [hx] at h0
    dsimp only at h0 ⊢
    cases hg : x.1.get n with
    | some g =>
      dsimp only
      refine ⟨?_, ?_, fun h => ?_, fun g hg => ?_⟩
      · rw [touched_dN]; rfl
      · show x.1.hits + 1 + x.1.loads = _; omega
      · show (x.1.P.map _).length ≤ x.1.loads; rw [List.length_map]; exact h
      · obtain ⟨y, hy, rfl⟩ := List.mem_map.1 hg
        exact .inr (by rw [(touch_same n _ y).1]; exact List.mem_map_of_mem hy)
    | none =>
      rw [hg] at h0
      dsimp only at h0 ⊢
      split
      · dsimp only
        refine ⟨?_, ?_, fun h => ?_, fun g hg => ?_⟩
        · rw [touched_dN, added_dN rfl]; exact c1
        · show (freeP f x).1.1.hits + ((freeP f x).1.1.loads + 1) = _
          rw [hs.hits, hs.loads]; omega
        · show (((freeP f x).1.1.P ++ [_]).map _).length ≤ (freeP f x).1.1.loads + 1
          rw [List.length_map, hs.loads]
          simp; omega
        · obtain ⟨y, hy, rfl⟩ := List.mem_map.1 hg
          rw [(touch_same n _ y).1]
          rcases List.mem_append.1 hy with h1 | h1
          · exact .inr (c3 y h1)
          · have : y = newPg (freeP f x).1.2 x.1.bits n pb bb := by simpa using h1
            rw [this]; exact .inl rfl
      · rename_i h1; rw [if_neg h1] at h0; exact absurd h0 h1
end Go.Proofs.YtcbbdnaelimpfaaGreat
set_option linter.unusedSimpArgs false
set_option linter.unusedVariables false
namespace Go.Proofs.YtcbbdnaelimpfaaGreat
open Go.Vc Go.Sort
variable {K : Value → Heap → Prop} {h : Heap}

theorem read_s {o j : Nat} {c : Ca} {s : St} {p : Ps} {n at_ k : Int} (S : Ses h o j c s p) (hj : j < 1000)
    (a0 : -9223372036854775808 ≤ at_) (a1 : at_ < 9223372036854775808) (k0 : -9223372036854775808 ≤ k) (k1 : k < 9223372036854775808)
    (H2 : useE c.bits n at_ k ≠ 0 → K (.tuple #[.slice none 0 0, .int .i64 2]) h)
    (He : ∀ h' s' f rk, (∀ n, rk n < f) → Ranks rk c → useE c.bits n at_ k = 0 → (useP f n 0 0 (c, p)).2 ≠ 0 → CUpd h h' o c s (useP f n 0 0 (c, p)).1.1 s' → Ses h' o (j + 1) (useP f n 0 0 (c, p)).1.1 s' (useP f n 0 0 (c, p)).1.2 → K (.tuple #[.slice none 0 0, .int .i64 (useP f n 0 0 (c, p)).2]) h')
    (Hw : ∀ h' s' f rk pb bb g v, (∀ n, rk n < f) → Ranks rk c → useE c.bits n at_ k = 0 → (useP f n pb bb (c, p)).2 = 0 → (useP f n pb bb (c, p)).1.1.get n = some g → CUpd h h' o c s (useP f n pb bb (c, p)).1.1 s' → Ses h' o (j + 1) (useP f n pb bb (c, p)).1.1 s' (useP f n pb bb (c, p)).1.2 →
      OwnG bT 1 h' v (((g.D.drop at_.toNat).take k.toNat).map byteV) → (∀ b, blkG v = some b → h.size ≤ b ∧ ¬ Ft o (useP f n pb bb (c, p)).1.1 s' b) → K (.tuple #[v, .int .i64 0]) h') :
    CallsH Tryz.prog 12 #[ptrV o, .int .i64 n, .int .i64 at_, .int .i64 k] h K ⟨⟩ := by
  obtain ⟨rk, f, hf, hr⟩ := S.wf.acyc
  have hst := S.ps.2.1
  have hbd := S.bud
  have hck := S.clk
  refine cRead_c (rk := rk) hf hr S.wf.inv S.at_ S.ps (by omega) (by omega) a0 a1 k0 k1 H2 (fun h' s' h0 hne u ps => ?_) (fun h' s' pb bb g v h0 hok u ps hg ov fv => ?_)
  all_goals obtain ⟨r0, r1, r2, r3⟩ := useE_ok h0
  · have hnum := ask_ok S.at_.co.ok.b1 r3
    have b2 := useP_bud (x := (c, p)) hf hr (n := n) (pb := 0) (bb := 0)
    have b3 := useP_clk (x := (c, p)) hf hr S.wf.inv (n := n) (pb := 0) (bb := 0)
    have w := useP_wf (x := (c, p)) hf hr S.wf S.coh.nd (n := n) (pb := 0) (bb := 0)
    obtain ⟨ch, -⟩ := useP_coh (x := (c, p)) hf hr S.coh S.wf.inv hnum (n := n) (pb := 0) (bb := 0)
    dsimp only at b2 b3
    exact He h' s' f rk hf hr h0 hne u ⟨u.at_, ps, ⟨w.inv, w.opn, w.acyc, w.lim.mono (Nat.le_succ _)⟩, ch, by omega, by omega⟩
  · have hnum := ask_ok S.at_.co.ok.b1 r3
    have b2 := useP_bud (x := (c, p)) hf hr (n := n) (pb := pb) (bb := bb)
    have b3 := useP_clk (x := (c, p)) hf hr S.wf.inv (n := n) (pb := pb) (bb := bb)
    have w := useP_wf (x := (c, p)) hf hr S.wf S.coh.nd (n := n) (pb := pb) (bb := bb)
    obtain ⟨ch, -⟩ := useP_coh (x := (c, p)) hf hr S.coh S.wf.inv hnum (n := n) (pb := pb) (bb := bb)
    dsimp only at b2 b3
    exact Hw h' s' f rk pb bb g v hf hr h0 hok hg u ⟨u.at_, ps, ⟨w.inv, w.opn, w.acyc, w.lim.mono (Nat.le_succ _)⟩, ch, by omega, by omega⟩ ov fv

structure Calm (c c' : Ca) : Prop where
  W : c'.W = []
  flushes : c'.flushes = c.flushes
theorem writeP_calm {x : Cx} {n : Int} {D : List UInt8} (h : x.1.W = []) : Calm x.1 (writeP x n D).1.1 := by
  unfold writeP
  split
  · exact ⟨by show x.1.W.filter _ = []; rw [h]; rfl, rfl⟩
  · exact ⟨h, rfl⟩
theorem calm_beh {c : Ca} (h : c.W = []) (n : Int) : c.beh n = [] := by
  have hw : c.ws n = [] := by unfold Ca.ws; rw [h]; rfl
  exact List.eq_nil_iff_forall_not_mem.2 fun q hq => by rw [beh_mem, hw] at hq; cases hq.1
theorem backP_calm {x : Cx} (h : x.1.W = []) : ∀ (f : Nat) (n : Int), Calm x.1 (backP f n x).1.1
  | 0, n => ⟨h, rfl⟩
  | f + 1, n => by
    unfold backP
    split
    · rw [calm_beh h]
      have e1 : backF n (runL (backP f) [] x) = (x, 0) := by
        unfold backF runL
        rw [if_pos rfl, if_pos (calm_beh h n)]
      rw [e1]
      unfold backW
      rw [if_pos rfl]
      cases x.1.get n with
      | none => exact ⟨h, rfl⟩
      | some g => exact writeP_calm h
    · exact ⟨h, rfl⟩
theorem run_calm {f : Nat} : ∀ (l : List Int) {x : Cx}, x.1.W = [] → Calm x.1 (runL (backP f) l x).1.1
  | [], x, h => ⟨h, rfl⟩
  | q :: l, x, h => by
    have a := backP_calm h f q
    unfold runL
    split
    · have b := run_calm (f := f) l a.W
      exact ⟨b.W, b.flushes.trans a.flushes⟩
    · exact a
theorem freeP_calm {f : Nat} {x : Cx} (h : x.1.W = []) : Calm x.1 (freeP f x).1.1 := by
  unfold freeP
  split
  · exact ⟨h, rfl⟩
  · cases x.1.victim with
    | none => exact ⟨h, rfl⟩
    | some g =>
      dsimp only
      have a := backP_calm h f g.n
      split
      · exact ⟨a.W, a.flushes⟩
      · exact a
theorem useP_calm {f : Nat} {x : Cx} {n : Int} {pb bb : Nat} (h : x.1.W = []) : (useP f n pb bb x).1.1.W = [] := by
  have a := freeP_calm (f := f) h
  unfold useP
  cases x.2.f with
  | none => exact h
  | some f0 =>
    dsimp only
    cases x.1.get n with
    | some g => exact h
    | none =>
      dsimp only
      split
      · exact a.W
      · exact a.W
theorem flushC_okp {rk : Int → Nat} {f : Nat} {x : Cx} (hf : ∀ n, rk n < f) (hr : Ranks rk x.1) (o : Okp x.2) : (flushC f x).2 = 0 ∧ Okp (flushC f x).1.2 ∧ Mics x (runL (backP f) x.1.nums x).1 ∧ (flushC f x).1 = ((runL (backP f) x.1.nums x).1.1.flushed, (runL (backP f) x.1.nums x).1.2.flush.1) ∧ Okp (runL (backP f) x.1.nums x).1.2 ∧ (∀ g ∈ (runL (backP f) x.1.nums x).1.1.P, (runL (backP f) x.1.nums x).1.1.dirty g.n = false) := by
  obtain ⟨h1, h2, h3⟩ := run_okp (g := backP f) (I := fun y => Ranks rk y.1) x.1.nums x (fun q hq y hy ho => by
    obtain ⟨a, b⟩ := back_okp f q y (hf q) hy ho
    exact ⟨a, b, hy.less (back_spec (rk := rk) f q y (hf q) hy).1.mics.less⟩) hr o
  obtain ⟨sp, sd⟩ := run_spec (rk := rk) (k := f) (g := backP f) (fun q y hq hy => back_spec f q y hq hy) x.1.nums x (fun q _ => hf q) hr
  obtain ⟨k1, k2, k3⟩ := flushP_okp h2
  unfold flushC
  rw [if_pos h1]
  refine ⟨k1, k2, sp.mics, k3, h2, fun g hg => ?_⟩
  have hn : (runL (backP f) x.1.nums x).1.1.P.map (·.n) = x.1.P.map (·.n) := sp.mics.less.map _ (fun _ => rfl)
  have : g.n ∈ x.1.P.map (·.n) := by rw [← hn]; exact List.mem_map_of_mem hg
  exact sd h1 g.n ((nums_perm x.1).mem_iff.2 this)
theorem flushC_calm {f : Nat} {x : Cx} (h : x.1.W = []) (h0 : (flushC f x).1 = ((runL (backP f) x.1.nums x).1.1.flushed, (runL (backP f) x.1.nums x).1.2.flush.1)) : (flushC f x).1.1.W = [] ∧ (flushC f x).1.1.flushes = x.1.flushes + 1 := by
  obtain ⟨a, b⟩ := run_calm (f := f) x.1.nums h
  rw [h0]
  refine ⟨?_, ?_⟩
  · show ((runL (backP f) x.1.nums x).1.1.W.map _) = []
    rw [a]; rfl
  · show (runL (backP f) x.1.nums x).1.1.flushes + 1 = _
    rw [b]
end Go.Proofs.YtcbbdnaelimpfaaGreat
set_option linter.unusedSimpArgs false
set_option linter.unusedVariables false
namespace Go.Proofs.YtcbbdnaelimpfaaGreat
open Go.Vc Go.Sort
variable {K : Value → Heap → Prop} {h : Heap}

structure Rk (c : Ca) (p : Ps) (room uses writes : Nat) : Prop where
  O : Okp p
  W : c.W = []
  room : c.room = room
  uses : c.hits + c.loads = uses
  writes : c.backs + c.dN ≤ writes
  loads : c.P.length ≤ c.loads
  pg : ∀ x ∈ c.P, x.n < 12
theorem Rk.use {c : Ca} {p : Ps} {room uses writes : Nat} (R : Rk c p room uses writes) {rk : Int → Nat} {f : Nat} (hf : ∀ n, rk n < f) (hr : Ranks rk c) (inv : Inv c) (nd : (c.P.map (·.n)).Nodup) (r1 : 1 ≤ c.room) {n : Int} {pb bb : Nat} (hn : n < 12) (h0 : (useP f n pb bb (c, p)).2 = 0) : Rk (useP f n pb bb (c, p)).1.1 (useP f n pb bb (c, p)).1.2 room (uses + 1) writes := by
  obtain ⟨a1, a2, a3, a4⟩ := useP_cnt (x := (c, p)) hf hr inv nd h0
  dsimp only at a1 a2 a3 a4
  obtain ⟨-, b2, -, -⟩ := useP_bits (x := (c, p)) (n := n) (pb := pb) (bb := bb) hf hr inv
  have h1 := R.uses
  have h2 := R.writes
  refine ⟨(useP_okp (x := (c, p)) hf hr r1 R.O).2, useP_calm R.W, b2.trans R.room, by omega, by omega, a3 R.loads, fun g hg => ?_⟩
  rcases a4 g hg with e | e
  · omega
  · obtain ⟨y, hy, hyn⟩ := List.mem_map.1 e
    rw [← hyn]; exact R.pg y hy
theorem Rk.wrote {c : Ca} {p : Ps} {room uses writes : Nat} (R : Rk c p room uses writes) (nd : (c.P.map (·.n)).Nodup) (n : Int) (k : Nat) (b : List UInt8) : Rk (c.wrote n k b) p room uses (writes + 1) := by
  have h2 := R.writes
  have h3 := wrote_dN (n := n) (k := k) (b := b) nd
  refine ⟨R.O, R.W, R.room, R.uses, ?_, ?_, fun g hg => ?_⟩
  · show c.backs + (c.wrote n k b).dN ≤ writes + 1
    omega
  · show (c.P.map _).length ≤ c.loads
    rw [List.length_map]; exact R.loads
  · obtain ⟨y, hy, rfl⟩ := List.mem_map.1 hg
    have : (y.put n k b).n = y.n := by unfold Pge.put; split <;> rfl
    rw [this]; exact R.pg y hy
theorem Rk.flush {c : Ca} {p : Ps} {room uses writes : Nat} (R : Rk c p room uses writes) {rk : Int → Nat} {f : Nat} (hf : ∀ n, rk n < f) (hr : Ranks rk c) (nd : (c.P.map (·.n)).Nodup) : (flushC f (c, p)).2 = 0 ∧ Rk (flushC f (c, p)).1.1 (flushC f (c, p)).1.2 room uses writes ∧ (flushC f (c, p)).1.1.flushes = c.flushes + 1 ∧ (flushC f (c, p)).1.1.backs + (flushC f (c, p)).1.1.dN = c.backs + c.dN := by
  obtain ⟨h0, hO, m, he, -, -⟩ := flushC_okp (x := (c, p)) hf hr R.O
  obtain ⟨w1, w2⟩ := flushC_calm (x := (c, p)) (f := f) R.W he
  have hc := m.cnt nd
  dsimp only at hc
  have m2 := (flushC_mics (x := (c, p)) hf hr).1
  have hs := m2.same
  have hn : (flushC f (c, p)).1.1.P.map (·.n) = c.P.map (·.n) := m2.less.map _ (fun _ => rfl)
  have hl := congrArg List.length hn
  simp only [List.length_map] at hl
  have hb : (flushC f (c, p)).1.1.backs + (flushC f (c, p)).1.1.dN = c.backs + c.dN := by
    rw [he]
    show (runL (backP f) c.nums (c, p)).1.1.backs + (runL (backP f) c.nums (c, p)).1.1.flushed.dN = _
    rw [flushed_dN]; exact hc
  have h1 := R.uses
  have h2 := R.writes
  have h3 := R.loads
  have h4 := hs.hits
  have h5 := hs.loads
  dsimp only at h4 h5
  refine ⟨h0, ⟨hO, w1, hs.room.trans R.room, by omega, by omega, by omega, fun g hg => ?_⟩, w2, hb⟩
  have : g.n ∈ c.P.map (·.n) := by rw [← hn]; exact List.mem_map_of_mem hg
  obtain ⟨y, hy, hyn⟩ := List.mem_map.1 this
  rw [← hyn]; exact R.pg y hy
theorem put6 {b : Nat} {t : Go.TypeId} {c0 c1 c2 c3 c4 c5 v0 v1 v2 v3 v4 v5 : Value} (hb : h[b]? = some (.cells #[c0, c1, c2, c3, c4, c5] t)) :
    (hset (hset (hset (hset (hset (hset h ⟨b, 0, none⟩ v0) ⟨b, 1, none⟩ v1) ⟨b, 2, none⟩ v2) ⟨b, 3, none⟩ v3) ⟨b, 4, none⟩ v4) ⟨b, 5, none⟩ v5)[b]? = some (.cells #[v0, v1, v2, v3, v4, v5] t) := by
  have h0 := obj_set (i := 0) (v := v0) hb
  have h1 := obj_set (i := 1) (v := v1) h0
  have h2 := obj_set (i := 2) (v := v2) h1
  have h3 := obj_set (i := 3) (v := v3) h2
  have h4 := obj_set (i := 4) (v := v4) h3
  exact obj_set (i := 5) (v := v5) h4
theorem put6_ext {g : Heap} {b : Nat} {v0 v1 v2 v3 v4 v5 : Value} (e : Ext g h) (hb : g.size ≤ b) : Ext g (hset (hset (hset (hset (hset (hset h ⟨b, 0, none⟩ v0) ⟨b, 1, none⟩ v1) ⟨b, 2, none⟩ v2) ⟨b, 3, none⟩ v3) ⟨b, 4, none⟩ v4) ⟨b, 5, none⟩ v5) :=
  hset_ext (hset_ext (hset_ext (hset_ext (hset_ext (hset_ext e hb) hb) hb) hb) hb) hb
section
open Go Go.ChangeShapes Go.WideShapes Go.ChangeAt Go.RowKit Go.Deep
set_option maxRecDepth 100000 in
theorem open_calls {H : Type} {enc : TypeId × Value → H} {w : World} {base : Nat} {sp : Nat → Bool} {held : Bool} {v : Value} {r : Go.Reach} {b0 : Nat} {ps : List MemPlace} {d : DataW H} (hval : Value.okWide Tryz.prog w r b0 24 v) (hd : DataW.Trod enc Tryz.prog w base sp held 24 v d ps) :
    ∃ (size bits room : Int) (u : Value) (xs : List Sc), v = .agg #[.int .i64 size, .int .i64 bits, .int .i64 room, u] ∧ Scs w.heap u xs := by
  obtain ⟨cs, rfl, hl, hL⟩ := Laid.topFlds (L := [(2, 0, 1), (3, 1, 1), (3, 2, 1), (22, 3, 1)]) (n := 4) (by kernel_rfl) (by kernel_rfl) hval hd
  obtain ⟨c0, c1, c2, c3, rfl⟩ := len4 hl
  obtain ⟨n0, hn0, -⟩ := (hL 0 _ _ _ rfl).int (k := .i64) (by kernel_rfl)
  obtain rfl : c0 = .int .i64 n0 := by simpa using hn0
  obtain ⟨n1, hn1, -⟩ := (hL 1 _ _ _ rfl).int (k := .i64) (by kernel_rfl)
  obtain rfl : c1 = .int .i64 n1 := by simpa using hn1
  obtain ⟨n2, hn2, -⟩ := (hL 2 _ _ _ rfl).int (k := .i64) (by kernel_rfl)
  obtain rfl : c2 = .int .i64 n2 := by simpa using hn2
  obtain ⟨u, xs, hu, hx⟩ := laid_scs (hL 3 _ _ _ rfl)
  obtain rfl : c3 = u := by simpa using hu
  exact ⟨n0, n1, n2, c3, xs, rfl, hx⟩
end
end Go.Proofs.YtcbbdnaelimpfaaGreat
set_option linter.unusedSimpArgs false
set_option linter.unusedVariables false
namespace Go.Proofs.YtcbbdnaelimpfaaGreat
open Go.Vc Go.Sort
variable {K : Value → Heap → Prop} {h : Heap}

theorem growL_one {l : List UInt8} {k : Nat} : growL l (l.length + k) ++ [0] = growL l (l.length + (k + 1)) := by
  unfold growL zeros
  rw [List.append_assoc]
  congr 1
  have e1 : l.length + k - l.length = k := by omega
  have e2 : l.length + (k + 1) - l.length = k + 1 := by omega
  rw [e1, e2, List.replicate_succ']
set_option maxHeartbeats 4000000 in
theorem grown_c {a : Option Addr} {cp : Nat} {l : List UInt8} {n : Int} {N m : Nat} (hm : m = l.length) (hnN : n.toNat = N) (ov : OwnG bT 1 h (.slice a m cp) (l.map byteV)) (hn0 : -9223372036854775808 ≤ n) (hn : n < 1000000000) (hl : l.length < 1000000000) (hcp : l.length ≤ cp)
    (H : ∀ h' v', Mod (fun b => blkG (.slice a m cp) = some b ∧ l.length < cp) h h' → OwnG bT 1 h' v' ((growL l N).map byteV) → (∀ b, blkG v' = some b → blkG (.slice a m cp) = some b ∨ h.size ≤ b) → K v' h') :
    CallsH Tryz.prog 20 #[.slice a m cp, .int .i64 n] h K ⟨⟩ := by
  subst hm
  refine n20_calls ?_
  unfold n20
  refine loopX1 (α := Nat × Value) (fun z => z.2) (fun z g => l.length + z.1 ≤ max l.length N ∧ Mod (fun b => blkG (.slice a l.length cp) = some b ∧ l.length < cp) h g ∧ OwnG bT 1 g z.2 ((growL l (l.length + z.1)).map byteV) ∧ ((z.1 = 0 ∧ z.2 = .slice a l.length cp) ∨ ∀ b, blkG z.2 = some b → (blkG (.slice a l.length cp) = some b ∧ l.length < cp) ∨ h.size ≤ b)) (fun z => N - z.1) (0, .slice a l.length cp) rfl ⟨by omega, .refl _ _, by rw [Nat.add_zero, growL_same (Nat.le_refl _)]; exact ov, .inl ⟨rfl, rfl⟩⟩ ?_
  rintro ⟨k, u⟩ g ⟨hk, m, ou, hb⟩ X hX
  dsimp only at hk ou hb m ⊢
  have hgl : (growL l (l.length + k)).length = l.length + k := by rw [growL_len]; omega
  obtain ⟨ua, un, uc, rfl, hun, huc, -⟩ := ou.form
  have hun' : un = l.length + k := by rw [List.length_map, hgl] at hun; omega
  subst hun'
  by_cases hlt : l.length + k < N
  · simp (disch := omega)
    refine (⟨_, rfl⟩ : ∃ g1, g1 = g.push (.cells #[.int .u8 0] bT)).elim fun g1 eg1 => ?_
    have e1 : Ext g g1 := by rw [eg1]; exact (by repeat' (first | (with_reducible exact Ext.refl _) | (with_reducible assumption) | (with_reducible refine push_ext ?_) | (with_reducible refine hset_ext ?_ ?_) | (with_reducible refine Ext.trans ?_ (by assumption)) | omega | (simp; done) | (simp; omega) | (refine Ext.size ?_) | (refine Nat.le_succ_of_le (Ext.size ?_))))
    have z1 : g1.size = g.size + 1 := by rw [eg1]; simp
    have sx : Src 1 g1 (.slice (some ⟨g.size, 0, none⟩) 1 1) 1 [byteV 0] := by rw [eg1]; exact Src_new (vs := [byteV 0]) rfl
    rw [show g.push (.cells #[.int .u8 0] 5) = g1 from eg1.symm]
    clear eg1
    have ou1 := ou.ext e1
    have m1 := m.extIn e1
    have zm := m.size
    have hcat : (growL l (l.length + k)).map byteV ++ [byteV 0] = (growL l (l.length + (k + 1))).map byteV := by
      rw [← growL_one, List.map_append]; rfl
    have go : ∀ v' h', OwnG bT 1 h' v' ((growL l (l.length + k)).map byteV ++ [byteV 0]) → Mod (fun b => blkG (.slice a l.length cp) = some b ∧ l.length < cp) h h' → (∀ b, blkG v' = some b → (blkG (.slice a l.length cp) = some b ∧ l.length < cp) ∨ h.size ≤ b) → X v' h' := fun v' h' o' m' b' => by
      rw [hcat] at o'
      exact hX (k + 1, v') _ _ rfl ⟨by dsimp only; omega, m', o', .inr b'⟩ (by dsimp only; omega)
    by_cases hfull : k = 0 ∧ l.length = cp
    · obtain ⟨rfl, hcpe⟩ := hfull
      have hu := hb
      rcases hb with ⟨-, h2⟩ | h2
      · injection h2 with h21 h22 h23
        subst h23
        refine Hp_appendF (e := bT) (s := 1) (by_ := 1) (n := l.length + 0) (k := 1) (by kernel_rfl) (by kernel_rfl) ou1.src (by omega) (by omega) sx (by omega) (by omega) fun v' h' o' e' b' _ => ?_
        exact go v' h' o' (m1.extIn e') (fun b hb => .inr (by have := b' b hb; omega))
      · refine Hp_appendG (e := bT) (s := 1) (by_ := 1) (n := l.length + 0) (k := 1) (by kernel_rfl) (by kernel_rfl) ou1 (by rw [List.length_map, hgl]; omega) (by omega) sx (by simp [one, byteV]) (by omega) (by omega) fun v' h' o' m' b' _ => ?_
        refine go v' h' o' (m1.trans m' fun b hb e => (h2 b e).resolve_right (by omega)) (fun b hb => (b' b hb).elim (h2 b) (fun e => .inr (by omega)))
    · have hall : ∀ b, blkG (.slice ua (l.length + k) uc) = some b → (blkG (.slice a l.length cp) = some b ∧ l.length < cp) ∨ h.size ≤ b := fun b e => by
        rcases hb with ⟨h1, h2⟩ | h2
        · rw [h2] at e
          exact .inl ⟨e, by omega⟩
        · exact h2 b e
      refine Hp_appendG (e := bT) (s := 1) (by_ := 1) (n := l.length + k) (k := 1) (by kernel_rfl) (by kernel_rfl) ou1 (by rw [List.length_map, hgl]; omega) (by omega) sx (by simp [one, byteV]) (by omega) (by omega) fun v' h' o' m' b' _ => ?_
      exact go v' h' o' (m1.trans m' fun b hb e => (hall b e).resolve_right (by omega)) (fun b hb => (b' b hb).elim (hall b) (fun e => .inr (by omega)))
  · simp (disch := omega)
    have hNk : growL l N = growL l (l.length + k) := by
      rcases Nat.lt_or_ge l.length N with e | e
      · rw [show N = l.length + k by omega]
      · have : k = 0 := by omega
        subst this
        rw [growL_same (by omega), growL_same (by omega)]
    exact H g _ m (by rw [hNk]; exact ou) (fun b e => by
      rcases hb with ⟨-, h2⟩ | h2
      · rw [h2] at e; exact .inl e
      · exact (h2 b e).imp (fun x => x.1) id)
end Go.Proofs.YtcbbdnaelimpfaaGreat
set_option linter.unusedSimpArgs false
set_option linter.unusedVariables false
namespace Go.Proofs.YtcbbdnaelimpfaaGreat
open Go.Vc Go.Sort
variable {K : Value → Heap → Prop} {h : Heap}

theorem writes_lenU {M : Nat} : ∀ (ps : List Pc) (f : Fl), f.last.length ≤ M → (∀ p ∈ ps, p.at_ + p.b.length ≤ M) → (f.writes ps).last.length ≤ M
  | [], f, h, _ => h
  | p :: ps, f, h, hp => by
    refine writes_lenU ps (f.add p) ?_ (fun q hq => hp q (List.mem_cons_of_mem _ hq))
    show (growL f.last _).length ≤ M
    have := hp p List.mem_cons_self
    rw [growL_len]; omega
theorem Mic.lenU {x y : Cx} {M : Nat} (m : Mic x y) (a : Coh x) (hM : ∀ g ∈ x.1.P, g.n.toNat * 2 ^ x.1.bits + 2 ^ x.1.bits ≤ M) (h : lenP x.2 ≤ M) : lenP y.2 ≤ M := by
  cases m with
  | flush =>
    have hp : (flushP x).1.2 = x.2.flush.1 := by unfold flushP; split <;> rfl
    rw [hp]
    unfold lenP Ps.flush at *
    cases hf : x.2.f with
    | none => rw [hf] at h; dsimp only; rw [hf]; exact h
    | some f =>
      rw [hf] at h
      dsimp only at h ⊢
      have : (f.flush (wentN (fateE x.2.fates) (fateK x.2.fates) f.ps.length)).last.length = f.last.length := layAll_len fun p hp => ((a.pok f hf).pc p (List.mem_of_mem_take hp)).2
      omega
  | write n g h1 h2 h3 =>
    have hp : (writeP x n g.D).1.2 = (x.2.write (x.1.place n) g.D).1 := by unfold writeP; split <;> rfl
    rw [hp]
    obtain ⟨g1, g2⟩ := get_mem h1
    have hl := a.len g g1
    have hm := hM g g1
    unfold lenP Ps.write at *
    cases hf : x.2.f with
    | none => rw [hf] at h; dsimp only; rw [hf]; exact h
    | some f =>
      rw [hf] at h
      dsimp only at h ⊢
      refine writes_lenU _ f h (fun p hp => ?_)
      obtain ⟨-, -, h6⟩ := cutP_ok _ (Nat.le_refl _) p (went_sub p hp)
      unfold Ca.place at h6
      rw [← g2] at h6
      omega
theorem Mics.lenU {x y : Cx} {M : Nat} (m : Mics x y) (a : Coh x) (hM : ∀ g ∈ x.1.P, g.n.toNat * 2 ^ x.1.bits + 2 ^ x.1.bits ≤ M) (h : lenP x.2 ≤ M) : lenP y.2 ≤ M := by
  induction m with
  | refl => exact h
  | tail ms m ih =>
    refine m.lenU (ms.coh a).1 (fun g hg => ?_) ih
    rw [ms.less.bits]
    have hn : _ = x.1.P.map (·.n) := ms.less.map _ (fun _ => rfl)
    have : g.n ∈ x.1.P.map (·.n) := by rw [← hn]; exact List.mem_map_of_mem hg
    obtain ⟨y, hy, hyn⟩ := List.mem_map.1 this
    rw [← hyn]; exact hM y hy
structure Pk (c : Ca) (p : Ps) (bits M sp : Nat) (L : List UInt8) : Prop where
  O : Okp p
  hs : c.sp = sp
  bi : c.bits = bits
  pg : ∀ x ∈ c.P, x.n < 12
  len : L.length = 12 * 2 ^ bits
  vw : ∀ n : Nat, n < 12 → ∀ i, i < 2 ^ bits → bt (view (c, p) n) i = bt L (n * 2 ^ bits + i)
  fl : lenP p ≤ M
theorem pg_fit {W n : Nat} (h : n < 12) : n * W + W ≤ 12 * W := by
  have : (n + 1) * W ≤ 12 * W := Nat.mul_le_mul_right _ h
  rw [Nat.add_mul, Nat.one_mul] at this; exact this
theorem Pk.hM {c : Ca} {p : Ps} {bits M sp : Nat} {L : List UInt8} (a : Pk c p bits M sp L) (num : ∀ g ∈ c.P, 0 ≤ g.n) (hM : 12 * 2 ^ bits ≤ M) : ∀ g ∈ c.P, g.n.toNat * 2 ^ c.bits + 2 ^ c.bits ≤ M := fun g hg => by
  have h1 := a.pg g hg
  have h2 := num g hg
  rw [a.bi]
  exact Nat.le_trans (pg_fit (by omega)) hM
theorem Mics.okp {x y : Cx} (m : Mics x y) (o : Okp x.2) : Okp y.2 := by
  induction m with
  | refl => exact o
  | tail ms m ih =>
    cases m with
    | flush => exact (flushP_okp ih).2.1
    | write n g h1 h2 h3 => exact (writeP_okp ih n g.D).2.1
theorem Pk.mics {c : Ca} {p : Ps} {bits M sp : Nat} {L : List UInt8} (a : Pk c p bits M sp L) (S : Coh (c, p)) (hM : 12 * 2 ^ bits ≤ M) {y : Cx} (m : Mics (c, p) y) : Pk y.1 y.2 bits M sp L := by
  have hn : y.1.P.map (·.n) = c.P.map (·.n) := m.less.map _ (fun _ => rfl)
  refine ⟨m.okp a.O, m.same.sp.trans a.hs, m.less.bits.trans a.bi, fun x hx => ?_, a.len, fun n hn i hi => ?_, m.lenU S (a.hM (fun g hg => (S.num g hg).1) hM) a.fl⟩
  · have : x.n ∈ c.P.map (·.n) := by rw [← hn]; exact List.mem_map_of_mem hx
    obtain ⟨y, hy, hyn⟩ := List.mem_map.1 this
    rw [← hyn]; exact a.pg y hy
  · rw [(m.coh S).2 n (by omega)]
    exact a.vw n hn i hi
theorem Pk.use {c : Ca} {p : Ps} {bits M sp : Nat} {L : List UInt8} (a : Pk c p bits M sp L) (S : Coh (c, p)) (inv : Inv c) (hM : 12 * 2 ^ bits ≤ M) (r1 : 1 ≤ c.room) {rk : Int → Nat} {f : Nat} (hf : ∀ n, rk n < f) (hr : Ranks rk c) {n : Int} {pb bb : Nat} (hn0 : 0 ≤ n) (hn : n < 12) (hnum : n * ((2 ^ c.bits : Nat) : Int) < 268435456) (h0 : (useP f n pb bb (c, p)).2 = 0) : Pk (useP f n pb bb (c, p)).1.1 (useP f n pb bb (c, p)).1.2 bits M sp L := by
  obtain ⟨-, -, -, a4⟩ := useP_cnt (x := (c, p)) hf hr inv S.nd h0
  dsimp only at a4
  obtain ⟨b1, -, b3, -⟩ := useP_bits (x := (c, p)) (n := n) (pb := pb) (bb := bb) hf hr inv
  obtain ⟨-, hv⟩ := useP_coh (x := (c, p)) hf hr S inv ⟨hn0, hnum⟩ (n := n) (pb := pb) (bb := bb)
  refine ⟨(useP_okp (x := (c, p)) hf hr r1 a.O).2, b3.trans a.hs, b1.trans a.bi, fun g hg => ?_, a.len, fun m hm i hi => ?_, ?_⟩
  · rcases a4 g hg with e | e
    · omega
    · obtain ⟨y, hy, hyn⟩ := List.mem_map.1 e
      rw [← hyn]; exact a.pg y hy
  · rw [hv m (by omega)]
    exact a.vw m hm i hi
  · obtain ⟨y, m, h1, -⟩ := freeP_spec hf (c, p) hr
    have h2 := m.lenU S (a.hM (fun g hg => (S.num g hg).1) hM) a.fl
    rw [← h1] at h2
    unfold useP
    cases hx : p.f with
    | none => dsimp only; exact a.fl
    | some f0 =>
      dsimp only
      cases c.get n with
      | some g => exact a.fl
      | none =>
        dsimp only
        split
        · exact h2
        · exact h2
theorem Pk.wrote {c : Ca} {p : Ps} {bits M sp : Nat} {L : List UInt8} (a : Pk c p bits M sp L) (S : Coh (c, p)) {n : Nat} {k : Nat} {b : List UInt8} {g : Pge} (hg : c.get (n : Int) = some g) (hn : n < 12) (hk : k + b.length ≤ 2 ^ bits) : Pk (c.wrote n k b) p bits M sp (Vc.over L (n * 2 ^ bits + k) b) := by
  have hfit := pg_fit (W := 2 ^ bits) hn
  have hl := a.len
  have hov : n * 2 ^ bits + k + b.length ≤ L.length := by omega
  obtain ⟨-, hv⟩ := wrote_coh (x := (c, p)) S hg (k := k) (b := b) (by dsimp only; rw [a.bi]; exact hk)
  refine ⟨a.O, a.hs, a.bi, fun x hx => ?_, by rw [Vc.over_length hov]; exact hl, fun m hm i hi => ?_, a.fl⟩
  · obtain ⟨y, hy, rfl⟩ := List.mem_map.1 hx
    have : (y.put n k b).n = y.n := by unfold Pge.put; split <;> rfl
    rw [this]; exact a.pg y hy
  · rw [hv]
    rw [bt_over hov]
    by_cases e : m = n
    · subst e
      rw [if_pos rfl]
      have hvl : k + b.length ≤ (view (c, p) (m : Int)).length := by
        unfold view
        dsimp only
        rw [hg]
        dsimp only
        rw [S.len g (get_mem hg).1]
        dsimp only
        rw [a.bi]; exact hk
      rw [bt_over hvl]
      by_cases h1 : k ≤ i ∧ i < k + b.length
      · rw [if_pos h1, if_pos (by omega)]
        congr 1; omega
      · rw [if_neg h1, if_neg (by omega)]
        exact a.vw m hm i hi
    · rw [if_neg (by omega)]
      have hap := place_apart (bits := bits) (n := (n : Int)) (m := (m : Int)) (by omega) (by omega) (by omega) hi
      simp only [Int.toNat_natCast] at hap
      rw [if_neg (by omega)]
      exact a.vw m hm i hi
theorem Pk.flush {c : Ca} {p : Ps} {bits M sp : Nat} {L : List UInt8} (a : Pk c p bits M sp L) (S : Coh (c, p)) (hM : 12 * 2 ^ bits ≤ M) {rk : Int → Nat} {f : Nat} (hf : ∀ n, rk n < f) (hr : Ranks rk c) : (flushC f (c, p)).2 = 0 ∧ lenP (flushC f (c, p)).1.2 ≤ M ∧ (∀ i, i < 12 * 2 ^ bits → bt (nowP (flushC f (c, p)).1.2) i = bt L i) ∧ ∃ fl, (flushC f (c, p)).1.2.f = some fl ∧ fl.ps = [] ∧ POk (flushC f (c, p)).1.2 := by
  obtain ⟨h0, hO, m, he, hO2, hd⟩ := flushC_okp (x := (c, p)) hf hr a.O
  have m2 := (flushC_mics (x := (c, p)) hf hr).1
  have a2 := a.mics S hM m
  have S2 := (m.coh S).1
  have a3 := a.mics S hM m2
  have S3 := (m2.coh S).1
  refine ⟨h0, a3.fl, fun i hi => ?_, ?_⟩
  · have hW : 0 < 2 ^ bits := Nat.pow_pos (by decide)
    have hdm := Nat.div_add_mod i (2 ^ bits)
    have hm1 := Nat.mod_lt i hW
    have hn12 : i / 2 ^ bits < 12 := (Nat.div_lt_iff_lt_mul hW).2 (by omega)
    generalize i / 2 ^ bits = n at *
    generalize i % 2 ^ bits = j at *
    have h1 := a2.vw n hn12 j hm1
    have hdirty : (runL (backP f) c.nums (c, p)).1.1.dirty (n : Int) = false := by
      cases hx : (runL (backP f) c.nums (c, p)).1.1.dirty (n : Int) with
      | false => rfl
      | true =>
        obtain ⟨g, hg, -⟩ := dirty_get hx
        obtain ⟨g1, g2⟩ := get_mem hg
        have := hd g g1
        rw [g2] at this
        dsimp only at this
        rw [hx] at this; cases this
    rw [view_clean S2 hdirty, a2.bi, fill_bt _ _ _ hm1] at h1
    have e2 : (flushC f (c, p)).1.2 = (runL (backP f) c.nums (c, p)).1.2.flush.1 := by rw [he]
    rw [e2, flush_now]
    simp only [Int.toNat_natCast] at h1
    rw [show i = n * 2 ^ bits + j by rw [Nat.mul_comm] at hdm; exact hdm.symm]
    exact h1
  · obtain ⟨fl, hfl⟩ := hO2.f
    have hfa := hO2.fates
    have e2 : (flushC f (c, p)).1.2 = (runL (backP f) c.nums (c, p)).1.2.flush.1 := by rw [he]
    rw [e2]
    refine ⟨fl.flush fl.ps.length, ?_, ?_, ?_⟩
    · unfold Ps.flush
      dsimp only at hfl hfa
      rw [hfl, hfa]
      rfl
    · show fl.ps.drop fl.ps.length = []
      simp
    · have := S3.pok
      rw [e2] at this
      exact this
end Go.Proofs.YtcbbdnaelimpfaaGreat

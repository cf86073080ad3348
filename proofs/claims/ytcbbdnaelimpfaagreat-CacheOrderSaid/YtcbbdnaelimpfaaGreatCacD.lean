/- Cache: going over the pages that are kept. Cache: the laws' calls. Cache: calls that are worked out. Cache, plainly: what is counted. Cache: bytes read through it, with all that holds between calls; where no page waits. Cache, for CacheRoom: what holds behind j calls where no step fails and nobody waits. Cache, for CachePlain: plain bytes that grow; how long a file comes to be. Cache, for CachePlain: what is read through it are plain bytes. Cache, for CacheOrder: what a crash can leave at a place; in what order pages come to lie there. Cache, for CacheOrder: all calls keep the order of pages. Cache, for CacheOrder: promises in memory; are all kept? -/
import Derived.Test.YtcbbdnaelimpfaaGreatCacC
import Derived.Test.YtcbbdnaelimpfaaGreatStoC
import Derived.Test.YtcbbdnaelimpfaaGreatVcFull
import Derived.Test.YtcbbdnaelimpfaaGreatStoD
set_option linter.unusedSimpArgs false
set_option linter.unusedVariables false
namespace Go.Proofs.YtcbbdnaelimpfaaGreat
open Go.Vc Go.Sort
variable {K : Value → Heap → Prop} {h : Heap}

theorem Nsq.mod {S : Nat → Prop} {h' : Heap} {sb : Nat} {v : Value} {L : List Int} (a : Nsq h sb v L) (m : Mod S h h') (h1 : ¬ S sb) (h2 : ∀ b, blkV v = some b → ¬ S b) : Nsq h' sb v L :=
  ⟨(m.block _ (get_some_lt a.cell) h1).trans a.cell, a.row.mod m h2⟩
theorem Nsq.ext {h' : Heap} {sb : Nat} {v : Value} {L : List Int} (a : Nsq h sb v L) (e : Ext h h') : Nsq h' sb v L := a.mod (S := fun _ => False) (.of_ext e) (fun x => x) (fun _ _ x => x)
end Go.Proofs.YtcbbdnaelimpfaaGreat
set_option linter.unusedSimpArgs false
set_option linter.unusedVariables false
namespace Go.Proofs.YtcbbdnaelimpfaaGreat
open Go.Vc
variable {K : Value → Heap → Prop} {h : Heap}

structure Sc where
  kind : Int
  at_ : Int
  n : Int
  page : Int
  other : Int
  bv : Value
  b : List UInt8
def Sc.cells (x : Sc) : List Value := [.int .i64 x.kind, .int .i64 x.at_, .int .i64 x.n, .int .i64 x.page, .int .i64 x.other, x.bv]
structure ScOk (h : Heap) (x : Sc) : Prop where
  kind : i64 x.kind
  at_ : i64 x.at_
  n : i64 x.n
  page : i64 x.page
  other : i64 x.other
  b : Bytes h x.bv x.b
  bl : x.b.length < 9223372036854775808
theorem ScOk.ext {h' : Heap} {x : Sc} (a : ScOk h x) (e : Ext h h') : ScOk h' x := ⟨a.kind, a.at_, a.n, a.page, a.other, a.b.ext e, a.bl⟩
structure Scs (h : Heap) (v : Value) (xs : List Sc) : Prop where
  slc : Slc 6 h v (fun us x => us = x.cells) xs
  ok : ∀ x ∈ xs, ScOk h x
  len : xs.length < 9223372036854775808
theorem Scs.ext {h' : Heap} {v : Value} {xs : List Sc} (a : Scs h v xs) (e : Ext h h') : Scs h' v xs := ⟨slc_ext a.slc e, fun x hx => (a.ok x hx).ext e, a.len⟩
theorem Scs.form {v : Value} {xs : List Sc} (a : Scs h v xs) : ∃ o c, v = .slice o xs.length c := Slc.form a.slc
theorem Scs.cell {v : Value} {xs : List Sc} (s : Scs h v xs) {i : Nat} (hi : i < xs.length) : ∃ a c, v = .slice (some a) xs.length c ∧ hcell h (elt a (i * 6)) = some (.int .i64 xs[i].kind) ∧ hcell h (elt a (i * 6 + 1)) = some (.int .i64 xs[i].at_) ∧
    hcell h (elt a (i * 6 + 2)) = some (.int .i64 xs[i].n) ∧ hcell h (elt a (i * 6 + 3)) = some (.int .i64 xs[i].page) ∧ hcell h (elt a (i * 6 + 4)) = some (.int .i64 xs[i].other) ∧ hcell h (elt a (i * 6 + 5)) = some xs[i].bv := by
  rcases s.slc with ⟨h1, rfl⟩ | ⟨a, c, h1, h2, h3⟩
  · cases hi
  · obtain ⟨us, -, h5, rfl⟩ := h3 i hi
    have := fun j hj => h5 j hj
    unfold Sc.cells at this
    have e0 := this 0 (by simp)
    have e1 := this 1 (by simp)
    have e2 := this 2 (by simp)
    have e3 := this 3 (by simp)
    have e4 := this 4 (by simp)
    have e5 := this 5 (by simp)
    rw [elt_elt] at e0 e1 e2 e3 e4 e5
    exact ⟨a, c, h1, e0, e1, e2, e3, e4, e5⟩
section
open Go Go.ChangeShapes Go.WideShapes Go.ChangeAt Go.RowKit Go.Deep
variable {H : Type} {enc : TypeId × Value → H} {w : World} {base : Nat} {sp : Nat → Bool} {held : Bool}
theorem len6 {l : List Value} (h : l.length = 6) : ∃ a b c d e f, l = [a, b, c, d, e, f] := by
  match l, h with
  | [a, b, c, d, e, f], _ => exact ⟨a, b, c, d, e, f, rfl⟩
theorem len4 {l : List Value} (h : l.length = 4) : ∃ a b c d, l = [a, b, c, d] := by
  match l, h with
  | [a, b, c, d], _ => exact ⟨a, b, c, d, rfl⟩
set_option maxRecDepth 100000 in
theorem laid_sc {cs : List Value} (h : Laid enc Tryz.prog w base sp held 35 cs) : ∃ x : Sc, cs = x.cells ∧ ScOk w.heap x := by
  obtain ⟨hl, hL⟩ := h.flds (L := [(3, 0, 1), (3, 1, 1), (3, 2, 1), (2, 3, 1), (2, 4, 1), (33, 5, 1)]) (n := 6) (by kernel_rfl) (by kernel_rfl)
  obtain ⟨c0, c1, c2, c3, c4, c5, rfl⟩ := len6 hl
  obtain ⟨n0, hn0, r0⟩ := (hL 0 _ _ _ rfl).int (k := .i64) (by kernel_rfl)
  obtain rfl : c0 = .int .i64 n0 := by simpa using hn0
  obtain ⟨n1, hn1, r1⟩ := (hL 1 _ _ _ rfl).int (k := .i64) (by kernel_rfl)
  obtain rfl : c1 = .int .i64 n1 := by simpa using hn1
  obtain ⟨n2, hn2, r2⟩ := (hL 2 _ _ _ rfl).int (k := .i64) (by kernel_rfl)
  obtain rfl : c2 = .int .i64 n2 := by simpa using hn2
  obtain ⟨n3, hn3, r3⟩ := (hL 3 _ _ _ rfl).int (k := .i64) (by kernel_rfl)
  obtain rfl : c3 = .int .i64 n3 := by simpa using hn3
  obtain ⟨n4, hn4, r4⟩ := (hL 4 _ _ _ rfl).int (k := .i64) (by kernel_rfl)
  obtain rfl : c4 = .int .i64 n4 := by simpa using hn4
  obtain ⟨v5, b5, hn5, hB5, r5⟩ := (hL 5 _ _ _ rfl).bytes (e := 5) (by kernel_rfl) (by kernel_rfl) (by kernel_rfl)
  obtain rfl : c5 = v5 := by simpa using hn5
  exact ⟨⟨n0, n1, n2, n3, n4, c5, b5⟩, rfl, i64_of r0, i64_of r1, i64_of r2, i64_of r3, i64_of r4, hB5, max63 r5⟩
set_option maxRecDepth 100000 in
theorem laid_scs {cs : List Value} (h : Laid enc Tryz.prog w base sp held 22 cs) : ∃ (v : Value) (xs : List Sc), cs = [v] ∧ Scs w.heap v xs := by
  obtain ⟨v, xs, rfl, hs, hl⟩ := h.slice (e := 35) (R := fun us (x : Sc) => us = x.cells ∧ ScOk w.heap x) (by kernel_rfl) (fun us hu => laid_sc hu)
  have hc : Program.cellsOf Tryz.prog 35 = 6 := by kernel_rfl
  rw [hc] at hs
  obtain ⟨s1, s2⟩ := slc_ok (f := Sc.cells) hs (fun us x hx => hx)
  exact ⟨v, xs, rfl, s1, s2, max63 hl⟩
end
end Go.Proofs.YtcbbdnaelimpfaaGreat
set_option linter.unusedSimpArgs false
set_option linter.unusedVariables false
namespace Go.Proofs.YtcbbdnaelimpfaaGreat
open Go.Vc
variable {K : Value → Heap → Prop} {h : Heap}

structure Fits (size bits room : Int) (xs : List Sc) : Prop where
  s0 : 0 ≤ size
  s1 : size ≤ 50000
  b0 : 9 ≤ bits
  b1 : bits ≤ 12
  r0 : 1 ≤ room
  r1 : room ≤ 20
  few : xs.length ≤ 60
  ok : ∀ x ∈ xs, x.page < 12 ∧ x.b.length ≤ 5000
end Go.Proofs.YtcbbdnaelimpfaaGreat
set_option linter.unusedSimpArgs false
set_option linter.unusedVariables false
namespace Go.Proofs.YtcbbdnaelimpfaaGreat
open Go.Vc Go.Sort

theorem drop_dN_eq {c : Ca} {n : Int} (nd : (c.P.map (·.n)).Nodup) (h : c.dirty n = false) : (c.dropP n).dN = c.dN := by
  unfold Ca.dN Ca.dropP
  dsimp only
  rw [List.filter_filter]
  congr 1
  apply List.filter_congr
  intro x hx
  by_cases e : x.n = n
  · have : x.d = false := by
      unfold Ca.dirty at h
      rw [← e, get_of_mem nd hx] at h
      exact h
    simp [this]
  · simp [e]
theorem freeP_cnt {rk : Int → Nat} {f : Nat} (hf : ∀ n, rk n < f) {x : Cx} (hr : Ranks rk x.1) (nd : (x.1.P.map (·.n)).Nodup) : (freeP f x).1.1.backs + (freeP f x).1.1.dN = x.1.backs + x.1.dN ∧ (freeP f x).1.1.P.length ≤ x.1.P.length ∧ (∀ g ∈ (freeP f x).1.1.P, g.n ∈ x.1.P.map (·.n)) := by
  obtain ⟨y, m, -, h2⟩ := freeP_spec hf x hr
  have hc := m.cnt nd
  have hn : y.1.P.map (·.n) = x.1.P.map (·.n) := m.less.map _ (fun _ => rfl)
  have hl := congrArg List.length hn
  simp only [List.length_map] at hl
  rcases h2 with h2 | ⟨g, -, -, h3, h2⟩
  · rw [h2]
    exact ⟨hc, by omega, fun g hg => by rw [← hn]; exact List.mem_map_of_mem hg⟩
  · rw [h2]
    have nd2 : (y.1.P.map (·.n)).Nodup := by rw [hn]; exact nd
    refine ⟨?_, Nat.le_trans (List.length_filter_le _ _) (by omega), fun g' hg' => by rw [← hn]; exact List.mem_map_of_mem (List.mem_filter.1 hg').1⟩
    rw [drop_dN_eq nd2 h3]
    exact hc
theorem useP_cnt {rk : Int → Nat} {f : Nat} (hf : ∀ n, rk n < f) {x : Cx} (hr : Ranks rk x.1) (inv : Inv x.1) (nd : (x.1.P.map (·.n)).Nodup) {n : Int} {pb bb : Nat} (h0 : (useP f n pb bb x).2 = 0) :
    (useP f n pb bb x).1.1.backs + (useP f n pb bb x).1.1.dN = x.1.backs + x.1.dN ∧ (useP f n pb bb x).1.1.hits + (useP f n pb bb x).1.1.loads = x.1.hits + x.1.loads + 1 ∧ (x.1.P.length ≤ x.1.loads → (useP f n pb bb x).1.1.P.length ≤ (useP f n pb bb x).1.1.loads) ∧ (∀ g ∈ (useP f n pb bb x).1.1.P, g.n = n ∨ g.n ∈ x.1.P.map (·.n)) := by
  obtain ⟨c1, c2, c3⟩ := freeP_cnt hf hr nd
  have hs := (freeP_inv hf hr inv).2.1
  unfold useP at h0 ⊢
  cases hx : x.2.f with
  | none => rw [hx] at h0; exact absurd h0 (by show ¬ (7 : Int) = 0; decide)
  | some f0 =>
    rw [hx] at h0
    dsimp only at h0 ⊢
    cases hg : x.1.get n with
    | some g =>
      dsimp only
      refine ⟨?_, ?_, fun h => ?_, fun g hg => ?_⟩
      · rw [touched_dN]; rfl
      · show x.1.hits + 1 + x.1.loads = _; omega
      · show (x.1.P.map _).length ≤ x.1.loads; rw [List.length_map]; exact h
      · obtain ⟨y, hy, rfl⟩ := List.mem_map.1 hg
        exact .inr (by rw [(touch_same n _ y).1]; exact List.mem_map_of_mem hy)
    | none =>
      rw [hg] at h0
      dsimp only at h0 ⊢
      split
      · dsimp only
        refine ⟨?_, ?_, fun h => ?_, fun g hg => ?_⟩
        · rw [touched_dN, added_dN rfl]; exact c1
        · show (freeP f x).1.1.hits + ((freeP f x).1.1.loads + 1) = _
          rw [hs.hits, hs.loads]; omega
        · show (((freeP f x).1.1.P ++ [_]).map _).length ≤ (freeP f x).1.1.loads + 1
          rw [List.length_map, hs.loads]
          simp; omega
        · obtain ⟨y, hy, rfl⟩ := List.mem_map.1 hg
          rw [(touch_same n _ y).1]
          rcases List.mem_append.1 hy with h1 | h1
          · exact .inr (c3 y h1)
          · have : y = newPg (freeP f x).1.2 x.1.bits n pb bb := by simpa using h1
            rw [this]; exact .inl rfl
      · rename_i h1; rw [if_neg h1] at h0; exact absurd h0 h1
end Go.Proofs.YtcbbdnaelimpfaaGreat
set_option linter.unusedSimpArgs false
set_option linter.unusedVariables false
namespace Go.Proofs.YtcbbdnaelimpfaaGreat
open Go.Vc Go.Sort
variable {K : Value → Heap → Prop} {h : Heap}

structure Calm (c c' : Ca) : Prop where
  W : c'.W = []
  flushes : c'.flushes = c.flushes
theorem writeP_calm {x : Cx} {n : Int} {D : List UInt8} (h : x.1.W = []) : Calm x.1 (writeP x n D).1.1 := by
  unfold writeP
  split
  · exact ⟨by show x.1.W.filter _ = []; rw [h]; rfl, rfl⟩
  · exact ⟨h, rfl⟩
theorem calm_beh {c : Ca} (h : c.W = []) (n : Int) : c.beh n = [] := by
  have hw : c.ws n = [] := by unfold Ca.ws; rw [h]; rfl
  exact List.eq_nil_iff_forall_not_mem.2 fun q hq => by rw [beh_mem, hw] at hq; cases hq.1
theorem backP_calm {x : Cx} (h : x.1.W = []) : ∀ (f : Nat) (n : Int), Calm x.1 (backP f n x).1.1
  | 0, n => ⟨h, rfl⟩
  | f + 1, n => by
    unfold backP
    split
    · rw [calm_beh h]
      have e1 : backF n (runL (backP f) [] x) = (x, 0) := by
        unfold backF runL
        rw [if_pos rfl, if_pos (calm_beh h n)]
      rw [e1]
      unfold backW
      rw [if_pos rfl]
      cases x.1.get n with
      | none => exact ⟨h, rfl⟩
      | some g => exact writeP_calm h
    · exact ⟨h, rfl⟩
theorem run_calm {f : Nat} : ∀ (l : List Int) {x : Cx}, x.1.W = [] → Calm x.1 (runL (backP f) l x).1.1
  | [], x, h => ⟨h, rfl⟩
  | q :: l, x, h => by
    have a := backP_calm h f q
    unfold runL
    split
    · have b := run_calm (f := f) l a.W
      exact ⟨b.W, b.flushes.trans a.flushes⟩
    · exact a
theorem freeP_calm {f : Nat} {x : Cx} (h : x.1.W = []) : Calm x.1 (freeP f x).1.1 := by
  unfold freeP
  split
  · exact ⟨h, rfl⟩
  · cases x.1.victim with
    | none => exact ⟨h, rfl⟩
    | some g =>
      dsimp only
      have a := backP_calm h f g.n
      split
      · exact ⟨a.W, a.flushes⟩
      · exact a
theorem useP_calm {f : Nat} {x : Cx} {n : Int} {pb bb : Nat} (h : x.1.W = []) : (useP f n pb bb x).1.1.W = [] := by
  have a := freeP_calm (f := f) h
  unfold useP
  cases x.2.f with
  | none => exact h
  | some f0 =>
    dsimp only
    cases x.1.get n with
    | some g => exact h
    | none =>
      dsimp only
      split
      · exact a.W
      · exact a.W
theorem flushC_okp {rk : Int → Nat} {f : Nat} {x : Cx} (hf : ∀ n, rk n < f) (hr : Ranks rk x.1) (o : Okp x.2) : (flushC f x).2 = 0 ∧ Okp (flushC f x).1.2 ∧ Mics x (runL (backP f) x.1.nums x).1 ∧ (flushC f x).1 = ((runL (backP f) x.1.nums x).1.1.flushed, (runL (backP f) x.1.nums x).1.2.flush.1) ∧ Okp (runL (backP f) x.1.nums x).1.2 ∧ (∀ g ∈ (runL (backP f) x.1.nums x).1.1.P, (runL (backP f) x.1.nums x).1.1.dirty g.n = false) := by
  obtain ⟨h1, h2, h3⟩ := run_okp (g := backP f) (I := fun y => Ranks rk y.1) x.1.nums x (fun q hq y hy ho => by
    obtain ⟨a, b⟩ := back_okp f q y (hf q) hy ho
    exact ⟨a, b, hy.less (back_spec (rk := rk) f q y (hf q) hy).1.mics.less⟩) hr o
  obtain ⟨sp, sd⟩ := run_spec (rk := rk) (k := f) (g := backP f) (fun q y hq hy => back_spec f q y hq hy) x.1.nums x (fun q _ => hf q) hr
  obtain ⟨k1, k2, k3⟩ := flushP_okp h2
  unfold flushC
  rw [if_pos h1]
  refine ⟨k1, k2, sp.mics, k3, h2, fun g hg => ?_⟩
  have hn : (runL (backP f) x.1.nums x).1.1.P.map (·.n) = x.1.P.map (·.n) := sp.mics.less.map _ (fun _ => rfl)
  have : g.n ∈ x.1.P.map (·.n) := by rw [← hn]; exact List.mem_map_of_mem hg
  exact sd h1 g.n ((nums_perm x.1).mem_iff.2 this)
theorem flushC_calm {f : Nat} {x : Cx} (h : x.1.W = []) (h0 : (flushC f x).1 = ((runL (backP f) x.1.nums x).1.1.flushed, (runL (backP f) x.1.nums x).1.2.flush.1)) : (flushC f x).1.1.W = [] ∧ (flushC f x).1.1.flushes = x.1.flushes + 1 := by
  obtain ⟨a, b⟩ := run_calm (f := f) x.1.nums h
  rw [h0]
  refine ⟨?_, ?_⟩
  · show ((runL (backP f) x.1.nums x).1.1.W.map _) = []
    rw [a]; rfl
  · show (runL (backP f) x.1.nums x).1.1.flushes + 1 = _
    rw [b]
end Go.Proofs.YtcbbdnaelimpfaaGreat
set_option linter.unusedSimpArgs false
set_option linter.unusedVariables false
namespace Go.Proofs.YtcbbdnaelimpfaaGreat
open Go.Vc Go.Sort
variable {K : Value → Heap → Prop} {h : Heap}

structure Rk (c : Ca) (p : Ps) (room uses writes : Nat) : Prop where
  O : Okp p
  W : c.W = []
  room : c.room = room
  uses : c.hits + c.loads = uses
  writes : c.backs + c.dN ≤ writes
  loads : c.P.length ≤ c.loads
  pg : ∀ x ∈ c.P, x.n < 12
theorem Rk.use {c : Ca} {p : Ps} {room uses writes : Nat} (R : Rk c p room uses writes) {rk : Int → Nat} {f : Nat} (hf : ∀ n, rk n < f) (hr : Ranks rk c) (inv : Inv c) (nd : (c.P.map (·.n)).Nodup) (r1 : 1 ≤ c.room) {n : Int} {pb bb : Nat} (hn : n < 12) (h0 : (useP f n pb bb (c, p)).2 = 0) : Rk (useP f n pb bb (c, p)).1.1 (useP f n pb bb (c, p)).1.2 room (uses + 1) writes := by
  obtain ⟨a1, a2, a3, a4⟩ := useP_cnt (x := (c, p)) hf hr inv nd h0
  dsimp only at a1 a2 a3 a4
  obtain ⟨-, b2, -, -⟩ := useP_bits (x := (c, p)) (n := n) (pb := pb) (bb := bb) hf hr inv
  have h1 := R.uses
  have h2 := R.writes
  refine ⟨(useP_okp (x := (c, p)) hf hr r1 R.O).2, useP_calm R.W, b2.trans R.room, by omega, by omega, a3 R.loads, fun g hg => ?_⟩
  rcases a4 g hg with e | e
  · omega
  · obtain ⟨y, hy, hyn⟩ := List.mem_map.1 e
    rw [← hyn]; exact R.pg y hy
theorem Rk.wrote {c : Ca} {p : Ps} {room uses writes : Nat} (R : Rk c p room uses writes) (nd : (c.P.map (·.n)).Nodup) (n : Int) (k : Nat) (b : List UInt8) : Rk (c.wrote n k b) p room uses (writes + 1) := by
  have h2 := R.writes
  have h3 := wrote_dN (n := n) (k := k) (b := b) nd
  refine ⟨R.O, R.W, R.room, R.uses, ?_, ?_, fun g hg => ?_⟩
  · show c.backs + (c.wrote n k b).dN ≤ writes + 1
    omega
  · show (c.P.map _).length ≤ c.loads
    rw [List.length_map]; exact R.loads
  · obtain ⟨y, hy, rfl⟩ := List.mem_map.1 hg
    have : (y.put n k b).n = y.n := by unfold Pge.put; split <;> rfl
    rw [this]; exact R.pg y hy
theorem Rk.flush {c : Ca} {p : Ps} {room uses writes : Nat} (R : Rk c p room uses writes) {rk : Int → Nat} {f : Nat} (hf : ∀ n, rk n < f) (hr : Ranks rk c) (nd : (c.P.map (·.n)).Nodup) : (flushC f (c, p)).2 = 0 ∧ Rk (flushC f (c, p)).1.1 (flushC f (c, p)).1.2 room uses writes ∧ (flushC f (c, p)).1.1.flushes = c.flushes + 1 ∧ (flushC f (c, p)).1.1.backs + (flushC f (c, p)).1.1.dN = c.backs + c.dN := by
  obtain ⟨h0, hO, m, he, -, -⟩ := flushC_okp (x := (c, p)) hf hr R.O
  obtain ⟨w1, w2⟩ := flushC_calm (x := (c, p)) (f := f) R.W he
  have hc := m.cnt nd
  dsimp only at hc
  have m2 := (flushC_mics (x := (c, p)) hf hr).1
  have hs := m2.same
  have hn : (flushC f (c, p)).1.1.P.map (·.n) = c.P.map (·.n) := m2.less.map _ (fun _ => rfl)
  have hl := congrArg List.length hn
  simp only [List.length_map] at hl
  have hb : (flushC f (c, p)).1.1.backs + (flushC f (c, p)).1.1.dN = c.backs + c.dN := by
    rw [he]
    show (runL (backP f) c.nums (c, p)).1.1.backs + (runL (backP f) c.nums (c, p)).1.1.flushed.dN = _
    rw [flushed_dN]; exact hc
  have h1 := R.uses
  have h2 := R.writes
  have h3 := R.loads
  have h4 := hs.hits
  have h5 := hs.loads
  dsimp only at h4 h5
  refine ⟨h0, ⟨hO, w1, hs.room.trans R.room, by omega, by omega, by omega, fun g hg => ?_⟩, w2, hb⟩
  have : g.n ∈ c.P.map (·.n) := by rw [← hn]; exact List.mem_map_of_mem hg
  obtain ⟨y, hy, hyn⟩ := List.mem_map.1 this
  rw [← hyn]; exact R.pg y hy
section
open Go Go.ChangeShapes Go.WideShapes Go.ChangeAt Go.RowKit Go.Deep
end
end Go.Proofs.YtcbbdnaelimpfaaGreat
set_option linter.unusedSimpArgs false
set_option linter.unusedVariables false
namespace Go.Proofs.YtcbbdnaelimpfaaGreat
open Go.Vc Go.Sort
variable {K : Value → Heap → Prop} {h : Heap}

end Go.Proofs.YtcbbdnaelimpfaaGreat
set_option linter.unusedSimpArgs false
set_option linter.unusedVariables false
namespace Go.Proofs.YtcbbdnaelimpfaaGreat
open Go.Vc Go.Sort
variable {K : Value → Heap → Prop} {h : Heap}

theorem writes_lenU {M : Nat} : ∀ (ps : List Pc) (f : Fl), f.last.length ≤ M → (∀ p ∈ ps, p.at_ + p.b.length ≤ M) → (f.writes ps).last.length ≤ M
  | [], f, h, _ => h
  | p :: ps, f, h, hp => by
    refine writes_lenU ps (f.add p) ?_ (fun q hq => hp q (List.mem_cons_of_mem _ hq))
    show (growL f.last _).length ≤ M
    have := hp p List.mem_cons_self
    rw [growL_len]; omega
theorem Mic.lenU {x y : Cx} {M : Nat} (m : Mic x y) (a : Coh x) (hM : ∀ g ∈ x.1.P, g.n.toNat * 2 ^ x.1.bits + 2 ^ x.1.bits ≤ M) (h : lenP x.2 ≤ M) : lenP y.2 ≤ M := by
  cases m with
  | flush =>
    have hp : (flushP x).1.2 = x.2.flush.1 := by unfold flushP; split <;> rfl
    rw [hp]
    unfold lenP Ps.flush at *
    cases hf : x.2.f with
    | none => rw [hf] at h; dsimp only; rw [hf]; exact h
    | some f =>
      rw [hf] at h
      dsimp only at h ⊢
      have : (f.flush (wentN (fateE x.2.fates) (fateK x.2.fates) f.ps.length)).last.length = f.last.length := layAll_len fun p hp => ((a.pok f hf).pc p (List.mem_of_mem_take hp)).2
      omega
  | write n g h1 h2 h3 =>
    have hp : (writeP x n g.D).1.2 = (x.2.write (x.1.place n) g.D).1 := by unfold writeP; split <;> rfl
    rw [hp]
    obtain ⟨g1, g2⟩ := get_mem h1
    have hl := a.len g g1
    have hm := hM g g1
    unfold lenP Ps.write at *
    cases hf : x.2.f with
    | none => rw [hf] at h; dsimp only; rw [hf]; exact h
    | some f =>
      rw [hf] at h
      dsimp only at h ⊢
      refine writes_lenU _ f h (fun p hp => ?_)
      obtain ⟨-, -, h6⟩ := cutP_ok _ (Nat.le_refl _) p (went_sub p hp)
      unfold Ca.place at h6
      rw [← g2] at h6
      omega
theorem Mics.lenU {x y : Cx} {M : Nat} (m : Mics x y) (a : Coh x) (hM : ∀ g ∈ x.1.P, g.n.toNat * 2 ^ x.1.bits + 2 ^ x.1.bits ≤ M) (h : lenP x.2 ≤ M) : lenP y.2 ≤ M := by
  induction m with
  | refl => exact h
  | tail ms m ih =>
    refine m.lenU (ms.coh a).1 (fun g hg => ?_) ih
    rw [ms.less.bits]
    have hn : _ = x.1.P.map (·.n) := ms.less.map _ (fun _ => rfl)
    have : g.n ∈ x.1.P.map (·.n) := by rw [← hn]; exact List.mem_map_of_mem hg
    obtain ⟨y, hy, hyn⟩ := List.mem_map.1 this
    rw [← hyn]; exact hM y hy
structure Pk (c : Ca) (p : Ps) (bits M sp : Nat) (L : List UInt8) : Prop where
  O : Okp p
  hs : c.sp = sp
  bi : c.bits = bits
  pg : ∀ x ∈ c.P, x.n < 12
  len : L.length = 12 * 2 ^ bits
  vw : ∀ n : Nat, n < 12 → ∀ i, i < 2 ^ bits → bt (view (c, p) n) i = bt L (n * 2 ^ bits + i)
  fl : lenP p ≤ M
theorem pg_fit {W n : Nat} (h : n < 12) : n * W + W ≤ 12 * W := by
  have : (n + 1) * W ≤ 12 * W := Nat.mul_le_mul_right _ h
  rw [Nat.add_mul, Nat.one_mul] at this; exact this
theorem Pk.hM {c : Ca} {p : Ps} {bits M sp : Nat} {L : List UInt8} (a : Pk c p bits M sp L) (num : ∀ g ∈ c.P, 0 ≤ g.n) (hM : 12 * 2 ^ bits ≤ M) : ∀ g ∈ c.P, g.n.toNat * 2 ^ c.bits + 2 ^ c.bits ≤ M := fun g hg => by
  have h1 := a.pg g hg
  have h2 := num g hg
  rw [a.bi]
  exact Nat.le_trans (pg_fit (by omega)) hM
theorem Mics.okp {x y : Cx} (m : Mics x y) (o : Okp x.2) : Okp y.2 := by
  induction m with
  | refl => exact o
  | tail ms m ih =>
    cases m with
    | flush => exact (flushP_okp ih).2.1
    | write n g h1 h2 h3 => exact (writeP_okp ih n g.D).2.1
theorem Pk.mics {c : Ca} {p : Ps} {bits M sp : Nat} {L : List UInt8} (a : Pk c p bits M sp L) (S : Coh (c, p)) (hM : 12 * 2 ^ bits ≤ M) {y : Cx} (m : Mics (c, p) y) : Pk y.1 y.2 bits M sp L := by
  have hn : y.1.P.map (·.n) = c.P.map (·.n) := m.less.map _ (fun _ => rfl)
  refine ⟨m.okp a.O, m.same.sp.trans a.hs, m.less.bits.trans a.bi, fun x hx => ?_, a.len, fun n hn i hi => ?_, m.lenU S (a.hM (fun g hg => (S.num g hg).1) hM) a.fl⟩
  · have : x.n ∈ c.P.map (·.n) := by rw [← hn]; exact List.mem_map_of_mem hx
    obtain ⟨y, hy, hyn⟩ := List.mem_map.1 this
    rw [← hyn]; exact a.pg y hy
  · rw [(m.coh S).2 n (by omega)]
    exact a.vw n hn i hi
theorem Pk.use {c : Ca} {p : Ps} {bits M sp : Nat} {L : List UInt8} (a : Pk c p bits M sp L) (S : Coh (c, p)) (inv : Inv c) (hM : 12 * 2 ^ bits ≤ M) (r1 : 1 ≤ c.room) {rk : Int → Nat} {f : Nat} (hf : ∀ n, rk n < f) (hr : Ranks rk c) {n : Int} {pb bb : Nat} (hn0 : 0 ≤ n) (hn : n < 12) (hnum : n * ((2 ^ c.bits : Nat) : Int) < 268435456) (h0 : (useP f n pb bb (c, p)).2 = 0) : Pk (useP f n pb bb (c, p)).1.1 (useP f n pb bb (c, p)).1.2 bits M sp L := by
  obtain ⟨-, -, -, a4⟩ := useP_cnt (x := (c, p)) hf hr inv S.nd h0
  dsimp only at a4
  obtain ⟨b1, -, b3, -⟩ := useP_bits (x := (c, p)) (n := n) (pb := pb) (bb := bb) hf hr inv
  obtain ⟨-, hv⟩ := useP_coh (x := (c, p)) hf hr S inv ⟨hn0, hnum⟩ (n := n) (pb := pb) (bb := bb)
  refine ⟨(useP_okp (x := (c, p)) hf hr r1 a.O).2, b3.trans a.hs, b1.trans a.bi, fun g hg => ?_, a.len, fun m hm i hi => ?_, ?_⟩
  · rcases a4 g hg with e | e
    · omega
    · obtain ⟨y, hy, hyn⟩ := List.mem_map.1 e
      rw [← hyn]; exact a.pg y hy
  · rw [hv m (by omega)]
    exact a.vw m hm i hi
  · obtain ⟨y, m, h1, -⟩ := freeP_spec hf (c, p) hr
    have h2 := m.lenU S (a.hM (fun g hg => (S.num g hg).1) hM) a.fl
    rw [← h1] at h2
    unfold useP
    cases hx : p.f with
    | none => dsimp only; exact a.fl
    | some f0 =>
      dsimp only
      cases c.get n with
      | some g => exact a.fl
      | none =>
        dsimp only
        split
        · exact h2
        · exact h2
theorem Pk.wrote {c : Ca} {p : Ps} {bits M sp : Nat} {L : List UInt8} (a : Pk c p bits M sp L) (S : Coh (c, p)) {n : Nat} {k : Nat} {b : List UInt8} {g : Pge} (hg : c.get (n : Int) = some g) (hn : n < 12) (hk : k + b.length ≤ 2 ^ bits) : Pk (c.wrote n k b) p bits M sp (Vc.over L (n * 2 ^ bits + k) b) := by
  have hfit := pg_fit (W := 2 ^ bits) hn
  have hl := a.len
  have hov : n * 2 ^ bits + k + b.length ≤ L.length := by omega
  obtain ⟨-, hv⟩ := wrote_coh (x := (c, p)) S hg (k := k) (b := b) (by dsimp only; rw [a.bi]; exact hk)
  refine ⟨a.O, a.hs, a.bi, fun x hx => ?_, by rw [Vc.over_length hov]; exact hl, fun m hm i hi => ?_, a.fl⟩
  · obtain ⟨y, hy, rfl⟩ := List.mem_map.1 hx
    have : (y.put n k b).n = y.n := by unfold Pge.put; split <;> rfl
    rw [this]; exact a.pg y hy
  · rw [hv]
    rw [bt_over hov]
    by_cases e : m = n
    · subst e
      rw [if_pos rfl]
      have hvl : k + b.length ≤ (view (c, p) (m : Int)).length := by
        unfold view
        dsimp only
        rw [hg]
        dsimp only
        rw [S.len g (get_mem hg).1]
        dsimp only
        rw [a.bi]; exact hk
      rw [bt_over hvl]
      by_cases h1 : k ≤ i ∧ i < k + b.length
      · rw [if_pos h1, if_pos (by omega)]
        congr 1; omega
      · rw [if_neg h1, if_neg (by omega)]
        exact a.vw m hm i hi
    · rw [if_neg (by omega)]
      have hap := place_apart (bits := bits) (n := (n : Int)) (m := (m : Int)) (by omega) (by omega) (by omega) hi
      simp only [Int.toNat_natCast] at hap
      rw [if_neg (by omega)]
      exact a.vw m hm i hi
theorem Pk.flush {c : Ca} {p : Ps} {bits M sp : Nat} {L : List UInt8} (a : Pk c p bits M sp L) (S : Coh (c, p)) (hM : 12 * 2 ^ bits ≤ M) {rk : Int → Nat} {f : Nat} (hf : ∀ n, rk n < f) (hr : Ranks rk c) : (flushC f (c, p)).2 = 0 ∧ lenP (flushC f (c, p)).1.2 ≤ M ∧ (∀ i, i < 12 * 2 ^ bits → bt (nowP (flushC f (c, p)).1.2) i = bt L i) ∧ ∃ fl, (flushC f (c, p)).1.2.f = some fl ∧ fl.ps = [] ∧ POk (flushC f (c, p)).1.2 := by
  obtain ⟨h0, hO, m, he, hO2, hd⟩ := flushC_okp (x := (c, p)) hf hr a.O
  have m2 := (flushC_mics (x := (c, p)) hf hr).1
  have a2 := a.mics S hM m
  have S2 := (m.coh S).1
  have a3 := a.mics S hM m2
  have S3 := (m2.coh S).1
  refine ⟨h0, a3.fl, fun i hi => ?_, ?_⟩
  · have hW : 0 < 2 ^ bits := Nat.pow_pos (by decide)
    have hdm := Nat.div_add_mod i (2 ^ bits)
    have hm1 := Nat.mod_lt i hW
    have hn12 : i / 2 ^ bits < 12 := (Nat.div_lt_iff_lt_mul hW).2 (by omega)
    generalize i / 2 ^ bits = n at *
    generalize i % 2 ^ bits = j at *
    have h1 := a2.vw n hn12 j hm1
    have hdirty : (runL (backP f) c.nums (c, p)).1.1.dirty (n : Int) = false := by
      cases hx : (runL (backP f) c.nums (c, p)).1.1.dirty (n : Int) with
      | false => rfl
      | true =>
        obtain ⟨g, hg, -⟩ := dirty_get hx
        obtain ⟨g1, g2⟩ := get_mem hg
        have := hd g g1
        rw [g2] at this
        dsimp only at this
        rw [hx] at this; cases this
    rw [view_clean S2 hdirty, a2.bi, fill_bt _ _ _ hm1] at h1
    have e2 : (flushC f (c, p)).1.2 = (runL (backP f) c.nums (c, p)).1.2.flush.1 := by rw [he]
    rw [e2, flush_now]
    simp only [Int.toNat_natCast] at h1
    rw [show i = n * 2 ^ bits + j by rw [Nat.mul_comm] at hdm; exact hdm.symm]
    exact h1
  · obtain ⟨fl, hfl⟩ := hO2.f
    have hfa := hO2.fates
    have e2 : (flushC f (c, p)).1.2 = (runL (backP f) c.nums (c, p)).1.2.flush.1 := by rw [he]
    rw [e2]
    refine ⟨fl.flush fl.ps.length, ?_, ?_, ?_⟩
    · unfold Ps.flush
      dsimp only at hfl hfa
      rw [hfl, hfa]
      rfl
    · show fl.ps.drop fl.ps.length = []
      simp
    · have := S3.pok
      rw [e2] at this
      exact this
end Go.Proofs.YtcbbdnaelimpfaaGreat
set_option linter.unusedSimpArgs false
set_option linter.unusedVariables false
namespace Go.Proofs.YtcbbdnaelimpfaaGreat
open Go.Vc Go.Sort
variable {K : Value → Heap → Prop} {h : Heap}

def PossF (f : Fl) (i : Nat) (v : UInt8) : Prop := v = bt f.last i ∨ ∃ p ∈ f.ps, (p.at_ ≤ i ∧ i < p.at_ + p.b.length) ∧ v = bt p.b (i - p.at_)
def Poss (p : Ps) (i : Nat) (v : UInt8) : Prop := ∃ f, p.f = some f ∧ PossF f i v
theorem lay_poss {i : Nat} : ∀ {ps : List Pc} {l : List UInt8}, (∀ p ∈ ps, p.fit l.length) → bt (layAll l ps) i = bt l i ∨ ∃ p ∈ ps, (p.at_ ≤ i ∧ i < p.at_ + p.b.length) ∧ bt (layAll l ps) i = bt p.b (i - p.at_)
  | [], l, _ => .inl rfl
  | p :: ps, l, h => by
    have hp : p.fit l.length := h p List.mem_cons_self
    have e : (layP l p).length = l.length := over_len hp
    rcases lay_poss (i := i) (ps := ps) (l := layP l p) (fun q hq => by rw [e]; exact h q (List.mem_cons_of_mem _ hq)) with h1 | ⟨q, hq, h1, h2⟩
    · rw [layAll_cons, h1]
      unfold layP
      rw [bt_over hp]
      split
      · rename_i h3
        exact .inr ⟨p, List.mem_cons_self, h3, rfl⟩
      · exact .inl rfl
    · exact .inr ⟨q, List.mem_cons_of_mem _ hq, h1, h2⟩
theorem crash_poss {f : Fl} (o : f.ok) (ks : List Int) (i : Nat) : PossF f i (bt (f.crash ks).last i) := by
  rcases lay_poss (i := i) (l := f.last) (ps := picked ks f.ps) (fun p hp => (o.pc p (picked_sub hp)).2) with h | ⟨p, hp, h1, h2⟩
  · exact .inl h
  · exact .inr ⟨p, picked_sub hp, h1, h2⟩
theorem flush_possF {f : Fl} (o : f.ok) {n i : Nat} {v : UInt8} (h : PossF (f.flush n) i v) : PossF f i v := by
  rcases h with h | ⟨p, hp, h1, h2⟩
  · have h : v = bt (layAll f.last (f.ps.take n)) i := h
    rcases lay_poss (i := i) (l := f.last) (ps := f.ps.take n) (fun p hp => (o.pc p (List.mem_of_mem_take hp)).2) with h3 | ⟨p, hp, h1, h2⟩
    · exact .inl (h.trans h3)
    · exact .inr ⟨p, List.mem_of_mem_take hp, h1, h.trans h2⟩
  · exact .inr ⟨p, List.mem_of_mem_drop hp, h1, h2⟩
theorem writes_poss {i : Nat} {v : UInt8} : ∀ {qs : List Pc} {f : Fl}, PossF (f.writes qs) i v → PossF f i v ∨ ∃ p ∈ qs, (p.at_ ≤ i ∧ i < p.at_ + p.b.length) ∧ v = bt p.b (i - p.at_)
  | [], f, h => .inl h
  | q :: qs, f, h => by
    rcases writes_poss (qs := qs) (f := f.add q) h with h | ⟨p, hp, h1, h2⟩
    · rcases h with h | ⟨p, hp, h1, h2⟩
      · have h : v = bt (growL f.last _) i := h
        rw [bt_grow] at h
        exact .inl (.inl h)
      · rcases List.mem_append.1 hp with hp | hp
        · exact .inl (.inr ⟨p, hp, h1, h2⟩)
        · have : p = q := by simpa using hp
          subst this
          exact .inr ⟨p, List.mem_cons_self, h1, h2⟩
    · exact .inr ⟨p, List.mem_cons_of_mem _ hp, h1, h2⟩
theorem flush_poss {p : Ps} (o : POk p) {i : Nat} {v : UInt8} (h : Poss p.flush.1 i v) : Poss p i v := by
  obtain ⟨f', hf', hv⟩ := h
  unfold Ps.flush at hf'
  cases hf : p.f with
  | none => rw [hf] at hf'; dsimp only at hf'; rw [hf] at hf'; cases hf'
  | some f =>
    rw [hf] at hf'
    cases hf'
    exact ⟨f, hf, flush_possF (o f hf) hv⟩
theorem flush_poss0 {p : Ps} (o : POk p) {i : Nat} {v : UInt8} (h0 : p.flush.2 = 0) (h : Poss p.flush.1 i v) : v = bt (nowP p) i := by
  obtain ⟨f', hf', hv⟩ := h
  unfold Ps.flush at hf' h0
  cases hf : p.f with
  | none => rw [hf] at hf'; dsimp only at hf'; rw [hf] at hf'; cases hf'
  | some f =>
    rw [hf] at hf' h0
    have h0 : fateE p.fates = 0 := h0
    cases hf'
    rw [h0] at hv
    have hps : (f.flush (wentN 0 (fateK p.fates) f.ps.length)).ps = [] := by
      show f.ps.drop (wentN 0 _ _) = []
      unfold wentN
      rw [if_pos rfl]; simp
    have hl : (f.flush (wentN 0 (fateK p.fates) f.ps.length)).last = f.now := by
      show layAll f.last (f.ps.take (wentN 0 _ _)) = _
      unfold wentN
      rw [if_pos rfl, List.take_length]; rfl
    unfold nowP
    rw [hf]
    rcases hv with hv | ⟨p, hp, -, -⟩
    · rw [hl] at hv; exact hv
    · rw [hps] at hp; cases hp
theorem cut_one {k : Nat} {b : List UInt8} (hk : k % 512 = 0) (hb : b.length = 512) : cutP k b = [⟨k, b⟩] := by
  have hne : b ≠ [] := fun e => by rw [e] at hb; cases hb
  rw [cutP_cons hne, hk, hb]
  have e1 : b.take (min 512 (512 - 0)) = b := List.take_of_length_le (by omega)
  have e2 : b.drop (min 512 (512 - 0)) = [] := List.drop_eq_nil_of_le (by omega)
  rw [e1, e2, cutP_nil]
theorem write_poss {p : Ps} {n m : Nat} {b : List UInt8} {v : UInt8} (hb : b.length = 512) (h : Poss (p.write (n * 512) b).1 (m * 512) v) : Poss p (m * 512) v ∨ (m = n ∧ v = bt b 0) := by
  obtain ⟨f', hf', hv⟩ := h
  unfold Ps.write at hf'
  cases hf : p.f with
  | none => rw [hf] at hf'; dsimp only at hf'; rw [hf] at hf'; cases hf'
  | some f =>
    rw [hf] at hf'
    cases hf'
    rcases writes_poss hv with h | ⟨q, hq, h1, h2⟩
    · exact .inl ⟨f, hf, h⟩
    · have hq := went_sub q hq
      rw [cut_one (by omega) hb] at hq
      have : q = ⟨n * 512, b⟩ := by simpa using hq
      subst this
      dsimp only at h1 h2
      rw [hb] at h1
      have : m = n := by omega
      subst this
      rw [Nat.sub_self] at h2
      exact .inr ⟨rfl, h2⟩
theorem write_file {p : Ps} {k : Nat} {b : List UInt8} (h : ∃ f, p.f = some f) : ∃ f, (p.write k b).1.f = some f := by
  obtain ⟨f, hf⟩ := h
  unfold Ps.write
  rw [hf]; exact ⟨_, rfl⟩
theorem flush_file {p : Ps} (h : ∃ f, p.f = some f) : ∃ f, p.flush.1.f = some f := by
  obtain ⟨f, hf⟩ := h
  unfold Ps.flush
  rw [hf]; exact ⟨_, rfl⟩

structure Pms where
  page : Nat
  other : Nat
  least : Nat
  need : Nat
def Pms.held (x : Cx) (r : Pms) : Prop := (∀ v, Poss x.2 (r.other * 512) v → r.need ≤ v.toNat) ∨ ((∀ v, Poss x.2 (r.page * 512) v → v.toNat < r.least) ∧ (r.other : Int) ∈ x.1.ws r.page)
structure Ord (x : Cx) (w : Nat → Nat) (l : List Pms) : Prop where
  b9 : x.1.bits = 9
  file : ∃ f, x.2.f = some f
  pg : ∀ g ∈ x.1.P, g.n < 8
  len : lenP x.2 = 4096
  vw : ∀ n : Nat, n < 8 → bt (view x n) 0 = UInt8.ofNat (w n)
  w200 : ∀ n : Nat, n < 8 → w n < 200
  up : ∀ n : Nat, n < 8 → ∀ v, Poss x.2 (n * 512) v → v.toNat ≤ w n
  fix : ∀ n : Nat, n < 8 → x.1.opn n = false → ∀ v, Poss x.2 (n * 512) v → v.toNat = w n
  prom : ∀ r ∈ l, r.page < 8 ∧ r.other < 8 ∧ r.need ≤ w r.other ∧ r.held x
theorem Ord.low {x : Cx} {w : Nat → Nat} {l : List Pms} (a : Ord x w l) (c : Coh x) : ∀ g ∈ x.1.P, g.n.toNat * 2 ^ x.1.bits + 2 ^ x.1.bits ≤ 4096 := fun g hg => by
  have h1 := a.pg g hg
  have h2 := (c.num g hg).1
  rw [a.b9]
  omega
theorem Ord.clean {x : Cx} {w : Nat → Nat} {l : List Pms} (a : Ord x w l) (c : Coh x) {n : Nat} (hn : n < 8) (hd : x.1.dirty n = false) : (bt (nowP x.2) (n * 512)).toNat = w n := by
  have h1 := a.vw n hn
  rw [view_clean c hd, a.b9, fill_bt _ _ _ (by decide)] at h1
  have h2 : (n : Int).toNat * 2 ^ 9 + 0 = n * 512 := by rw [Int.toNat_natCast]; omega
  rw [h2] at h1
  rw [h1, UInt8.toNat_ofNat']
  have := a.w200 n hn
  omega
theorem Mic.ord {x y : Cx} {w : Nat → Nat} {l : List Pms} (m : Mic x y) (c : Coh x) (a : Ord x w l) : Ord y w l := by
  have hv : ∀ n : Nat, n < 8 → bt (view y n) 0 = UInt8.ofNat (w n) := fun n hn => by
    rw [(m.coh c).2 n (by omega)]; exact a.vw n hn
  have hlen : lenP y.2 = 4096 := Nat.le_antisymm (m.lenU c (a.low c) (by rw [a.len]; exact Nat.le_refl _)) (by have := m.len c.pok; rw [a.len] at this; exact this)
  have hpg : ∀ g ∈ y.1.P, g.n < 8 := fun g hg => by
    have hn : y.1.P.map (·.n) = x.1.P.map (·.n) := m.less.map _ (fun _ => rfl)
    have : g.n ∈ x.1.P.map (·.n) := by rw [← hn]; exact List.mem_map_of_mem hg
    obtain ⟨z, hz, hzn⟩ := List.mem_map.1 this
    rw [← hzn]; exact a.pg z hz
  have hb := m.less.bits.trans a.b9
  cases m with
  | flush =>
    have hp : (flushP x).1.2 = x.2.flush.1 := by unfold flushP; split <;> rfl
    have sub : ∀ {i v}, Poss (flushP x).1.2 i v → Poss x.2 i v := fun h => by rw [hp] at h; exact flush_poss c.pok h
    by_cases h0 : x.2.flush.2 = 0
    · have hx : (flushP x).1 = (x.1.flushed, x.2.flush.1) := by unfold flushP; rw [if_pos h0]
      have all : ∀ n : Nat, n < 8 → x.1.dirty n = false → ∀ v, Poss (flushP x).1.2 (n * 512) v → v.toNat = w n := fun n hn hd v h => by
        rw [hp] at h
        rw [flush_poss0 c.pok h0 h]
        exact a.clean c hn hd
      refine ⟨hb, by rw [hp]; exact flush_file a.file, hpg, hlen, hv, a.w200, fun n hn v h => a.up n hn v (sub h), fun n hn ho v h => ?_, fun r hr => ?_⟩
      · refine all n hn ?_ v h
        rw [hx] at ho
        have ho : (x.1.dirty n || decide ((n : Int) ∈ ([] : List Int))) = false := ho
        simpa using ho
      · obtain ⟨r1, r2, r3, r4⟩ := a.prom r hr
        refine ⟨r1, r2, r3, ?_⟩
        rcases r4 with r4 | ⟨r4, r5⟩
        · exact .inl fun v h => r4 v (sub h)
        · cases hd : x.1.dirty r.other with
          | false => exact .inl fun v h => by rw [all r.other r2 hd v h]; exact r3
          | true =>
            refine .inr ⟨fun v h => r4 v (sub h), ?_⟩
            rw [hx]
            show (r.other : Int) ∈ x.1.flushed.ws r.page
            rw [flushed_ws]
            exact List.mem_filter.2 ⟨r5, hd⟩
    · have hx : (flushP x).1 = (x.1, x.2.flush.1) := by unfold flushP; rw [if_neg h0]
      refine ⟨hb, by rw [hp]; exact flush_file a.file, hpg, hlen, hv, a.w200, fun n hn v h => a.up n hn v (sub h), fun n hn ho v h => a.fix n hn (by rw [hx] at ho; exact ho) v (sub h), fun r hr => ?_⟩
      obtain ⟨r1, r2, r3, r4⟩ := a.prom r hr
      refine ⟨r1, r2, r3, ?_⟩
      rcases r4 with r4 | ⟨r4, r5⟩
      · exact .inl fun v h => r4 v (sub h)
      · exact .inr ⟨fun v h => r4 v (sub h), by rw [hx]; exact r5⟩
  | write n g h1 h2 h3 =>
    have hp : (writeP x n g.D).1.2 = (x.2.write (x.1.place n) g.D).1 := by unfold writeP; split <;> rfl
    obtain ⟨g1, g2⟩ := get_mem h1
    have hn0 := (c.num g g1).1
    have hn8 := a.pg g g1
    have hgl := c.len g g1
    rw [a.b9] at hgl
    obtain ⟨N, hN⟩ := Int.eq_ofNat_of_zero_le hn0
    rw [g2] at hN
    have hN8 : N < 8 := by rw [g2] at hn8; omega
    have hpl : x.1.place n = N * 512 := by unfold Ca.place; rw [a.b9, hN]; rfl
    have hD : bt g.D 0 = UInt8.ofNat (w N) := by
      have := a.vw N hN8
      unfold view at this
      rw [← hN] at this
      rw [h1] at this
      exact this
    have hDn : (bt g.D 0).toNat = w N := by rw [hD, UInt8.toNat_ofNat']; have := a.w200 N hN8; omega
    have sub : ∀ {m : Nat} {v}, Poss (writeP x n g.D).1.2 (m * 512) v → Poss x.2 (m * 512) v ∨ (m = N ∧ v.toNat = w N) := fun h => by
      rw [hp, hpl] at h
      rcases write_poss hgl h with h | ⟨h, h'⟩
      · exact .inl h
      · exact .inr ⟨h, by rw [h']; exact hDn⟩
    have opnN : (writeP x n g.D).1.1.opn N = true := by
      unfold writeP
      split
      · show ((x.1.cleaned n).dirty N || decide ((N : Int) ∈ (if n ∈ x.1.pend then x.1.pend else x.1.pend ++ [n]))) = true
        have : (N : Int) ∈ (if n ∈ x.1.pend then x.1.pend else x.1.pend ++ [n]) := by
          rw [hN]
          split
          · assumption
          · simp
        simp [this]
      · show x.1.opn N = true
        unfold Ca.opn Ca.dirty
        rw [← hN, h1]
        dsimp only
        rw [h2]; rfl
    have opnM : ∀ m : Nat, m ≠ N → (writeP x n g.D).1.1.opn m = x.1.opn m := fun m hm => by
      have hmn : (m : Int) ≠ n := by omega
      unfold writeP
      split
      · show ((x.1.cleaned n).dirty m || decide ((m : Int) ∈ (if n ∈ x.1.pend then x.1.pend else x.1.pend ++ [n]))) = _
        rw [clean_dirty, if_neg hmn]
        unfold Ca.opn
        congr 1
        rw [Bool.eq_iff_iff]
        split <;> simp [hmn]
      · rfl
    have wsM : ∀ m : Int, m ≠ n → (writeP x n g.D).1.1.ws m = x.1.ws m := fun m hm => by
      unfold writeP
      split
      · show (x.1.cleaned n).ws m = _
        rw [cleaned_ws, if_neg hm]
      · rfl
    refine ⟨hb, by rw [hp]; exact write_file a.file, hpg, hlen, hv, a.w200, fun m hm v h => ?_, fun m hm ho v h => ?_, fun r hr => ?_⟩
    · rcases sub h with h | ⟨h, h'⟩
      · exact a.up m hm v h
      · rw [h', h]; exact Nat.le_refl _
    · by_cases e : m = N
      · rw [e, opnN] at ho; cases ho
      · rw [opnM m e] at ho
        rcases sub h with h | ⟨h, -⟩
        · exact a.fix m hm ho v h
        · exact absurd h e
    · obtain ⟨r1, r2, r3, r4⟩ := a.prom r hr
      refine ⟨r1, r2, r3, ?_⟩
      have inA : (∀ v, Poss x.2 (r.other * 512) v → r.need ≤ v.toNat) → r.held (writeP x n g.D).1 := fun h4 => .inl fun v h => by
        rcases sub h with h | ⟨h, h'⟩
        · exact h4 v h
        · rw [h', ← h]; exact r3
      rcases r4 with r4 | ⟨r4, r5⟩
      · exact inA r4
      · by_cases e : r.page = N
        · refine inA fun v h => ?_
          have hbeh : (r.other : Int) ∉ x.1.beh n := by rw [h3]; exact List.not_mem_nil
          have hopn : x.1.opn r.other = false := by
            cases ho : x.1.opn r.other with
            | false => rfl
            | true => exact absurd (beh_mem.2 ⟨by rw [hN, ← e]; exact r5, ho⟩) hbeh
          rw [a.fix r.other r2 hopn v h]; exact r3
        · refine .inr ⟨fun v h => ?_, ?_⟩
          · rcases sub h with h | ⟨h, -⟩
            · exact r4 v h
            · exact absurd h e
          · rw [wsM _ (by omega)]; exact r5
theorem Mics.ord {x y : Cx} {w : Nat → Nat} {l : List Pms} (m : Mics x y) (c : Coh x) (a : Ord x w l) : Ord y w l := by
  induction m with
  | refl => exact a
  | tail ms m ih => exact m.ord (ms.coh c).1 ih
end Go.Proofs.YtcbbdnaelimpfaaGreat
set_option linter.unusedSimpArgs false
set_option linter.unusedVariables false
namespace Go.Proofs.YtcbbdnaelimpfaaGreat
open Go.Vc Go.Sort
variable {K : Value → Heap → Prop} {h : Heap}

theorem Ord.core {x : Cx} {w : Nat → Nat} {l : List Pms} {c' : Ca} (a : Ord x w l) (hb : c'.bits = x.1.bits) (hpg : ∀ g ∈ c'.P, g.n < 8) (ho : ∀ m : Nat, c'.opn m = x.1.opn m) (hw : ∀ m, c'.ws m = x.1.ws m) (hv : ∀ n : Nat, n < 8 → view (c', x.2) n = view x n) : Ord (c', x.2) w l :=
  ⟨hb.trans a.b9, a.file, hpg, a.len, fun n hn => by rw [hv n hn]; exact a.vw n hn, a.w200, a.up, fun n hn h => a.fix n hn (by rw [← ho n]; exact h), fun r hr => by
    obtain ⟨r1, r2, r3, r4⟩ := a.prom r hr
    refine ⟨r1, r2, r3, ?_⟩
    rcases r4 with r4 | ⟨r4, r5⟩
    · exact .inl r4
    · exact .inr ⟨r4, by rw [hw]; exact r5⟩⟩
theorem Ord.drop {x : Cx} {w : Nat → Nat} {l : List Pms} (a : Ord x w l) (c : Coh x) {n : Int} (h : x.1.dirty n = false) : Ord (x.1.dropP n, x.2) w l := by
  refine a.core rfl (fun g hg => a.pg g (List.mem_filter.1 hg).1) (fun m => ?_) (fun _ => rfl) (fun m hm => (c.drop h).2 m (by omega))
  unfold Ca.opn
  rw [drop_dirty]
  split
  · rename_i e; rw [e, h]; rfl
  · rfl
theorem freeP_ord {rk : Int → Nat} {f : Nat} (hf : ∀ n, rk n < f) {x : Cx} (hr : Ranks rk x.1) (c : Coh x) {w : Nat → Nat} {l : List Pms} (a : Ord x w l) : Ord (freeP f x).1 w l := by
  obtain ⟨y, m, h1, h2⟩ := freeP_spec hf x hr
  have ay := m.ord c a
  have cy := (m.coh c).1
  have he : (freeP f x).1 = ((freeP f x).1.1, (freeP f x).1.2) := rfl
  rw [he, h1]
  rcases h2 with h2 | ⟨g, -, -, h3, h2⟩
  · rw [h2]; exact ay
  · rw [h2]; exact ay.drop cy h3
theorem useP_ord {rk : Int → Nat} {f : Nat} (hf : ∀ n, rk n < f) {x : Cx} (hr : Ranks rk x.1) (c : Coh x) (inv : Inv x.1) {w : Nat → Nat} {l : List Pms} (a : Ord x w l) {n : Int} {pb bb : Nat} (h0 : 0 ≤ n) (h8 : n < 8) : Ord (useP f n pb bb x).1 w l := by
  have af := freeP_ord hf hr c a
  obtain ⟨cf, vf⟩ := freeP_coh hf hr c
  have gn := fun h => freeP_get (n := n) hf hr (x := x) h
  have hv := (useP_coh hf hr c inv (n := n) (pb := pb) (bb := bb) ⟨h0, by rw [a.b9]; omega⟩).2
  unfold useP at hv ⊢
  cases hx : x.2.f with
  | none => exact a
  | some f0 =>
    rw [hx] at hv
    dsimp only at hv ⊢
    cases hg : x.1.get n with
    | some g =>
      rw [hg] at hv
      dsimp only at hv ⊢
      refine a.core rfl (fun y hy => ?_) (fun m => ?_) (fun _ => rfl) (fun m hm => hv m (by omega))
      · obtain ⟨z, hz, rfl⟩ := List.mem_map.1 hy
        rw [(touch_same n _ z).1]; exact a.pg z hz
      · unfold Ca.opn
        rw [touch_dirty]; rfl
    | none =>
      rw [hg] at hv
      dsimp only at hv ⊢
      split
      · rename_i h1
        rw [if_pos h1] at hv
        refine af.core rfl (fun y hy => ?_) (fun m => ?_) (fun _ => rfl) (fun m hm => ?_)
        · obtain ⟨z, hz, rfl⟩ := List.mem_map.1 hy
          rw [(touch_same n _ z).1]
          rcases List.mem_append.1 hz with h | h
          · exact af.pg z h
          · have : z = newPg (freeP f x).1.2 x.1.bits n pb bb := by simpa using h
            rw [this]; exact h8
        · unfold Ca.opn
          have hnew : (newPg (freeP f x).1.2 x.1.bits n pb bb).n = n := rfl
          rw [touch_dirty, added_dirty (by rw [hnew]; exact gn hg) rfl]
          rfl
        · have h2 := hv m (by omega)
          have h3 := vf m (by omega)
          exact h2.trans h3.symm
      · exact af
theorem Ord.wrote {x : Cx} {w : Nat → Nat} {l : List Pms} (a : Ord x w l) (c : Coh x) {n : Nat} {g : Pge} (hg : x.1.get n = some g) (hn : n < 8) (hw : w n + 1 < 200) : Ord (x.1.wrote n 0 [UInt8.ofNat (w n + 1)], x.2) (fun m => if m = n then w n + 1 else w m) l := by
  obtain ⟨-, hv⟩ := wrote_coh c hg (k := 0) (b := [UInt8.ofNat (w n + 1)]) (by rw [a.b9]; show 0 + 1 ≤ 512; omega)
  have hle : ∀ m, w m ≤ (if m = n then w n + 1 else w m) := fun m => by split <;> (try subst_vars) <;> omega
  have hdn : (x.1.wrote n 0 [UInt8.ofNat (w n + 1)]).opn n = true := by
    unfold Ca.opn
    rw [put_dirty, hg]; simp
  have hdm : ∀ m : Nat, m ≠ n → (x.1.wrote n 0 [UInt8.ofNat (w n + 1)]).opn m = x.1.opn m := fun m hm => by
    unfold Ca.opn
    rw [put_dirty]
    have : ¬ (m : Int) = (n : Int) := by omega
    simp only [this, decide_false, Bool.false_and, Bool.or_false]
    rfl
  refine ⟨a.b9, a.file, fun y hy => ?_, a.len, fun m hm => ?_, fun m hm => ?_, fun m hm v h => Nat.le_trans (a.up m hm v h) (hle m), fun m hm ho v h => ?_, fun r hr => ?_⟩
  · obtain ⟨z, hz, rfl⟩ := List.mem_map.1 hy
    have : (z.put n 0 [UInt8.ofNat (w n + 1)]).n = z.n := by unfold Pge.put; split <;> rfl
    rw [this]; exact a.pg z hz
  · rw [hv]
    by_cases e : m = n
    · subst e
      have hvl : (view x (m : Int)).length = 512 := by
        unfold view
        rw [hg]
        dsimp only
        rw [c.len g (get_mem hg).1, a.b9]
      rw [if_pos rfl, if_pos rfl, bt_over (by rw [hvl]; show 0 + 1 ≤ 512; omega), if_pos (by simp)]
      rfl
    · rw [if_neg (by omega), if_neg e]
      exact a.vw m hm
  · split
    · exact hw
    · exact a.w200 m hm
  · by_cases e : m = n
    · rw [e] at ho
      dsimp only at ho
      rw [hdn] at ho; cases ho
    · dsimp only at ho ⊢
      rw [hdm m e] at ho
      rw [if_neg e]
      exact a.fix m hm ho v h
  · obtain ⟨r1, r2, r3, r4⟩ := a.prom r hr
    exact ⟨r1, r2, Nat.le_trans r3 (hle _), r4⟩
theorem Ord.waited {x : Cx} {w : Nat → Nat} {l : List Pms} {c' : Ca} {n t k : Nat} (a : Ord x w l) (hn : n < 8) (ht : t < 8) (W : Waited x.1 c' n t k) : Ord (c', x.2) w (l ++ [⟨n, t, w n + 1, w t⟩]) := by
  have hws := W.ws
  have hs := W.same
  have ho : ∀ m, c'.opn m = x.1.opn m := fun m => by rw [hs]; rfl
  refine ⟨by rw [hs]; exact a.b9, a.file, by rw [hs]; exact a.pg, a.len, by rw [hs]; exact a.vw, a.w200, a.up, fun m hm h => a.fix m hm (by rw [← ho]; exact h), fun r hr => ?_⟩
  rcases List.mem_append.1 hr with hr | hr
  · obtain ⟨r1, r2, r3, r4⟩ := a.prom r hr
    refine ⟨r1, r2, r3, ?_⟩
    rcases r4 with r4 | ⟨r4, r5⟩
    · exact .inl r4
    · exact .inr ⟨r4, (hws _ _).2 (.inl r5)⟩
  · have : r = ⟨n, t, w n + 1, w t⟩ := by simpa using hr
    subst this
    refine ⟨hn, ht, Nat.le_refl _, .inr ⟨fun v h => Nat.lt_succ_of_le (a.up n hn v h), (hws _ _).2 (.inr ⟨rfl, rfl⟩)⟩⟩
theorem Ord.kept {x : Cx} {w : Nat → Nat} {l : List Pms} {n t : Nat} (a : Ord x w l) (hn : n < 8) (ht : t < 8) (ho : x.1.opn t = false) : Ord x w (l ++ [⟨n, t, w n + 1, w t⟩]) := by
  refine ⟨a.b9, a.file, a.pg, a.len, a.vw, a.w200, a.up, a.fix, fun r hr => ?_⟩
  rcases List.mem_append.1 hr with hr | hr
  · exact a.prom r hr
  · have : r = ⟨n, t, w n + 1, w t⟩ := by simpa using hr
    subst this
    exact ⟨hn, ht, Nat.le_refl _, .inl fun v h => by rw [a.fix t ht ho v h]; exact Nat.le_refl _⟩
theorem Ord.crash {x : Cx} {w : Nat → Nat} {l : List Pms} {f : Fl} (a : Ord x w l) (hf : x.2.f = some f) (o : f.ok) (ks : List Int) : ∀ r ∈ l, r.least ≤ (bt (f.crash ks).last (r.page * 512)).toNat → r.need ≤ (bt (f.crash ks).last (r.other * 512)).toNat := fun r hr h => by
  obtain ⟨r1, r2, r3, r4⟩ := a.prom r hr
  rcases r4 with r4 | ⟨r4, -⟩
  · exact r4 _ ⟨f, hf, crash_poss o ks _⟩
  · have := r4 _ ⟨f, hf, crash_poss o ks _⟩
    omega
end Go.Proofs.YtcbbdnaelimpfaaGreat
set_option linter.unusedSimpArgs false
set_option linter.unusedVariables false
namespace Go.Proofs.YtcbbdnaelimpfaaGreat
open Go.Vc Go.Sort
variable {K : Value → Heap → Prop} {h : Heap}

def prT : Nat := 55
def inT : Nat := 3
def prV (r : Pms) : List Value := [.int .i64 (r.page : Nat), .int .i64 (r.other : Nat), .int .u8 (r.least : Nat), .int .u8 (r.need : Nat)]
theorem prV_len (r : Pms) : (prV r).length = 4 := rfl
theorem flat4_len : ∀ l : List Pms, (l.flatMap prV).length = l.length * 4
  | [] => rfl
  | r :: l => by rw [List.flatMap_cons, List.length_append, flat4_len l, prV_len, List.length_cons]; omega
theorem flat4_get : ∀ (l : List Pms) (i k : Nat) (hi : i < l.length) (hk : k < 4), (l.flatMap prV)[i * 4 + k]? = (prV l[i])[k]?
  | r :: l, 0, k, _, hk => by
    rw [List.flatMap_cons, List.getElem?_append_left (by rw [prV_len]; omega)]
    simp
  | r :: l, i + 1, k, hi, hk => by
    rw [List.flatMap_cons, List.getElem?_append_right (by rw [prV_len]; omega), prV_len, show (i + 1) * 4 + k - 4 = i * 4 + k by omega, flat4_get l i k (by simpa using hi) hk]
    simp
theorem prm_cell {a : Addr} {n c : Nat} {l : List Pms} (o : OwnG prT 4 h (.slice (some a) n c) (l.flatMap prV)) {i : Nat} (hi : i < l.length) :
    hcell h (elt a (i * 4)) = some (.int .i64 (l[i].page : Nat)) ∧ hcell h (elt a (i * 4 + 1)) = some (.int .i64 (l[i].other : Nat)) ∧ hcell h (elt a (i * 4 + 2)) = some (.int .u8 (l[i].least : Nat)) ∧ hcell h (elt a (i * 4 + 3)) = some (.int .u8 (l[i].need : Nat)) := by
  have key : ∀ k (hk : k < 4), hcell h (elt a (i * 4 + k)) = (prV l[i])[k]? := fun k hk => by
    have hlt : i * 4 + k < (l.flatMap prV).length := by rw [flat4_len]; omega
    rw [(o.cell hlt).1, ← List.getElem?_eq_getElem hlt, flat4_get l i k hi hk]
  exact ⟨key 0 (by omega), key 1 (by omega), key 2 (by omega), key 3 (by omega)⟩

theorem put3 {b : Nat} {t : Go.TypeId} {c0 c1 c2 v0 v1 v2 : Value} (hb : h[b]? = some (.cells #[c0, c1, c2] t)) :
    (hset (hset (hset h ⟨b, 0, none⟩ v0) ⟨b, 1, none⟩ v1) ⟨b, 2, none⟩ v2)[b]? = some (.cells #[v0, v1, v2] t) := by
  have h0 := obj_set (i := 0) (v := v0) hb
  have h1 := obj_set (i := 1) (v := v1) h0
  exact obj_set (i := 2) (v := v2) h1
theorem put3_ext {g : Heap} {b : Nat} {v0 v1 v2 : Value} (e : Ext g h) (hb : g.size ≤ b) : Ext g (hset (hset (hset h ⟨b, 0, none⟩ v0) ⟨b, 1, none⟩ v1) ⟨b, 2, none⟩ v2) :=
  hset_ext (hset_ext (hset_ext e hb) hb) hb
structure Bar (o : Nat) (c : Ca) (s : St) (Z : Nat → Prop) : Prop where
  ft : ∀ b, Z b → ¬ Ft o c s b
  pc : ∀ y ∈ s.F, ∀ q ∈ y.qs, ∀ b, blkV q.2 = some b → ¬ Z b
theorem Bar.upd {o : Nat} {c c' : Ca} {s s' : St} {Z : Nat → Prop} {h' : Heap} (a : Bar o c s Z) (u : CUpd h h' o c s c' s') (hZ : ∀ b, Z b → b < h.size) : Bar o c' s' Z :=
  ⟨fun b hb hF => (u.foot b hF).elim (a.ft b hb) (fun e => by have := hZ b hb; omega), fun y hy q hq b hb e => by
    rcases u.pcs y hy q hq b hb with ⟨y1, h1, q1, h2, h3⟩ | h1
    · exact a.pc y1 h1 q1 h2 b h3 e
    · have := hZ b e; omega⟩
theorem Bar.mono {o : Nat} {c : Ca} {s : St} {Z Z' : Nat → Prop} (a : Bar o c s Z) (h : ∀ b, Z' b → Z b) : Bar o c s Z' :=
  ⟨fun b hb => a.ft b (h b hb), fun y hy q hq b hb e => a.pc y hy q hq b hb (h b e)⟩
theorem Bar.or {o : Nat} {c : Ca} {s : St} {Z Z' : Nat → Prop} (a : Bar o c s Z) (b : Bar o c s Z') : Bar o c s (fun x => Z x ∨ Z' x) :=
  ⟨fun x hx => hx.elim (a.ft x) (b.ft x), fun y hy q hq x hx e => e.elim (a.pc y hy q hq x hx) (b.pc y hy q hq x hx)⟩
theorem Bar.new {o j : Nat} {c : Ca} {s : St} {p : Ps} (S : Ses h o j c s p) {Z : Nat → Prop} (hZ : ∀ b, Z b → h.size ≤ b) : Bar o c s Z :=
  ⟨fun b hb hF => by have := S.at_.lt hF; have := hZ b hb; omega, fun y hy q hq b hb e => by have := (S.at_.st.fl y hy).plt hq hb; have := hZ b e; omega⟩
theorem Ses.modZ {o j : Nat} {c : Ca} {s : St} {p : Ps} {Z : Nat → Prop} {h' : Heap} (S : Ses h o j c s p) (a : Bar o c s Z) (m : Mod Z h h') : Ses h' o j c s p :=
  ⟨S.at_.mod m (fun b hb e => a.ft b e hb) (fun y hy q hq b hb e => a.pc y hy q hq b hb e), S.ps, S.wf, S.coh, S.bud, S.clk⟩
theorem Fr.modZ {h0 h' : Heap} {o : Nat} {c : Ca} {s : St} {Z : Nat → Prop} (a : Fr h0 h o c s) (m : Mod Z h h') (hZ : ∀ b, Z b → h0.size ≤ b) : Fr h0 h' o c s :=
  ⟨m.ext_from a.ext (fun b hb e => by have := hZ b e; omega), a.fr⟩

def wL (w : Nat → Nat) : List UInt8 := (List.range 8).map fun n => UInt8.ofNat (w n)
theorem wL_len (w : Nat → Nat) : (wL w).length = 8 := by unfold wL; simp
theorem wL_get (w : Nat → Nat) {n : Nat} (h : n < (wL w).length) : (wL w)[n] = UInt8.ofNat (w n) := by
  have h8 : n < 8 := by rw [wL_len] at h; exact h
  have : (wL w)[n]? = some (UInt8.ofNat (w n)) := by
    unfold wL
    rw [List.getElem?_map, List.getElem?_range h8]; rfl
  exact Option.some.inj ((List.getElem?_eq_getElem h).symm.trans this)
theorem clip_its {u : Value} {m : List Int} {n c : Nat} {a : Option Addr} (hu : u = .slice a n c) (hn : n = m.length) (hc : n ≤ c) (o : OwnG inT 1 h u (m.map inV)) (hm : m.length < 1000000) (hr : ∀ k ∈ m, -9223372036854775808 ≤ k ∧ k < 9223372036854775808) : Its h u m := by
  subst hu hn
  exact ⟨o.src, ⟨a, c, rfl, hc⟩, by omega, hr⟩
set_option maxHeartbeats 8000000 in
theorem orderly_c {sp o j : Nat} {c : Ca} {s : St} {p : Ps} {w : Nat → Nat} {l : List Pms} (S : Ses h o j c s p) (hsp : c.sp = sp) (a : Ord (c, p) w l) {lv : Value} (ol : OwnG prT 4 h lv (l.flatMap prV)) (hlf : l.length < 1000000) {wb : Nat} (ow : OwnG bT 1 h (.slice (some ⟨wb, 0, none⟩) 8 8) ((wL w).map byteV)) (hl256 : ∀ r ∈ l, r.least < 256) {pv : Value} {ks : List Int} (hk : Its h pv ks) (hks : ks.length ≤ 60)
    (H : ∀ h', Ext h h' → K (.bool true) h') : CallsH Tryz.prog 22 #[ptrV sp, ptrV o, lv, .slice (some ⟨wb, 0, none⟩) 8 8, pv] h K ⟨⟩ := by
  refine n22_calls ?_
  unfold n22
  obtain ⟨pa, pc, rfl, hpc⟩ := hk.form
  have hkf := hk.few
  refine loopX2 (α := Nat × Value) (fun z => z.2) (fun z => .int .i64 z.1) (fun z g => z.1 ≤ ks.length ∧ Ext h g ∧ OwnG inT 1 g z.2 (((ks.take z.1).map (max 0)).map inV) ∧ ∀ b, blkG z.2 = some b → h.size ≤ b) (fun z => ks.length - z.1) (0, .slice none 0 0) ⟨rfl, rfl⟩ ⟨Nat.zero_le _, .refl _, OwnG.nil, (fun b hb => by cases hb)⟩ ?_
  rintro ⟨i, u⟩ g ⟨hi, e, ou, fu⟩ X hX
  dsimp only at hi e ou fu ⊢
  by_cases hik : i < ks.length
  · obtain ⟨ad, c', hva, hc', hce⟩ := (hk.ext e).cell hik
    injection hva with hv1 _ hv3
    subst hv1
    have hro := hk.ok _ (List.getElem_mem hik)
    simp (disch := omega) [hce, Hp_max2]
    refine (⟨_, rfl⟩ : ∃ G, G = g.push (.cells #[.int .i64 (if 0 < ks[i] then ks[i] else 0)] inT)).elim fun g1 eg1 => ?_
    have e1 : Ext g g1 := by rw [eg1]; exact (by repeat' (first | (with_reducible exact Ext.refl _) | (with_reducible assumption) | (with_reducible refine push_ext ?_) | (with_reducible refine hset_ext ?_ ?_) | (with_reducible refine Ext.trans ?_ (by assumption)) | omega | (simp; done) | (simp; omega) | (refine Ext.size ?_) | (refine Nat.le_succ_of_le (Ext.size ?_))))
    have sx : Src 1 g1 (.slice (some ⟨g.size, 0, none⟩) 1 1) 1 [inV (if 0 < ks[i] then ks[i] else 0)] := by rw [eg1]; exact Src_new (vs := [inV (if 0 < ks[i] then ks[i] else 0)]) rfl
    rw [show g.push (.cells #[.int .i64 (if 0 < ks[i] then ks[i] else 0)] 3) = g1 from eg1.symm]
    clear eg1
    obtain ⟨ua, un, uc, rfl, hun, huc, -⟩ := ou.form
    have hun' : un = i := by simp at hun; omega
    subst hun'
    have hz := e.size
    have hz1 := e1.size
    refine Hp_appendG (e := inT) (s := 1) (by_ := 8) (n := un) (k := 1) (by kernel_rfl) (by kernel_rfl) (ou.ext e1) (by simp; omega) (by omega) sx (by simp [one, inV]) (by omega) (by omega) fun v' h' o' m' b' _ => ?_
    have hcat : (((ks.take un).map (max 0)).map inV) ++ [inV (if 0 < ks[un] then ks[un] else 0)] = (((ks.take (un + 1)).map (max 0)).map inV) := by
      rw [List.take_succ_eq_append_getElem hik, List.map_append, List.map_append]
      congr 1
      simp only [List.map_cons, List.map_nil]
      congr 2
      omega
    rw [hcat] at o'
    simp (disch := omega)
    exact hX (un + 1, v') _ _ _ rfl (by simp) ⟨by dsimp only; omega, m'.ext_from (e.trans e1) (fun b hb e => by have := fu b e; omega), o', fun b hb => (b' b hb).elim (fu b) (fun e => by omega)⟩ (by dsimp only; omega)
  · obtain rfl : i = ks.length := by omega
    rw [List.take_length] at ou
    simp (disch := omega)
    obtain ⟨ua, un, uc, hu, hun, huc, -⟩ := ou.form
    have hci : Its g u (ks.map (max 0)) := clip_its hu (by simp at hun; simp; omega) huc ou (by simp; omega) (fun k hk' => by
      obtain ⟨k0, h1, rfl⟩ := List.mem_map.1 hk'
      have := hk.ok k0 h1
      omega)
    have st : StAt g sp s := by have := (S.ext e).at_.st; rw [hsp] at this; exact this
    refine Crash_c st hci (fun g1 e1 hne => ?_) (fun g1 p' s' L e1 hneg pm so st' hc hfa hst hp' hfo => ?_)
    · exfalso
      obtain ⟨k, hk', hlt⟩ := List.any_eq_true.1 hne
      obtain ⟨k0, h1, rfl⟩ := List.mem_map.1 hk'
      have := of_decide_eq_true hlt
      omega
    · have hpp : ptrV p' = .pointer (some ⟨p', 0, none⟩) := rfl
      obtain ⟨f, hf⟩ := a.file
      obtain ⟨xf, xf1, xf2, xf3, xf4⟩ := S.ps.some_ hf
      have fok := S.coh.pok f hf
      dsimp only at hf fok
      obtain ⟨y, hy, hyn, jj, -, hyf⟩ := crash_file (st.ext e1) st' pm hc (x := xf) (by rw [xf1]; simp)
      have hlen1 : s'.F.length = 1 := by rw [crash_flen pm hc, xf1]; rfl
      have hsF : s'.F = [y] := by
        obtain ⟨z, hz⟩ := List.length_eq_one_iff.1 hlen1
        rw [hz] at hy ⊢
        rw [List.mem_singleton.1 hy]
      rw [xf2] at hyf
      obtain ⟨fc, hfc⟩ : ∃ fc, fc = f.crash ((ks.map (max 0)).drop jj) := ⟨_, rfl⟩
      have hord := a.crash hf fok ((ks.map (max 0)).drop jj)
      have hflen : f.last.length = 4096 := by
        have := a.len
        unfold lenP at this
        dsimp only at this
        rw [hf] at this; exact this
      have hclen : fc.last.length = 4096 := by rw [hfc, fok.crash_len, hflen]
      rw [← hfc] at hyf hord
      have hnow : fc.now = fc.last := by rw [hfc]; rfl
      have ps' : PsAt s' ⟨some fc, [], 0⟩ := ⟨hfa, hst, y, hsF, hyf, hyn.trans xf3⟩
      simp (disch := omega) [hpp]
      refine num_c ?_
      simp (disch := omega)
      rw [← hpp, show str [102] = str fN from rfl]
      refine Read_c st' (by decide) (by decide) (by decide) (by decide) (by decide) (fun g2 e2 hne => ?_) (fun g2 x2 v2 e2 hx2 hgx _ _ _ ov fv _ => ?_)
      · exfalso
        apply hne
        have hgy : s'.get fN = some y := by obtain ⟨z, z1, -, -, z4⟩ := ps'.some_ rfl; rw [hsF] at z1; rw [z4]; simp at z1; rw [z1]
        have hyl : y.last.length = 4096 := by
          have := (ps_size ps' rfl hy).2.1
          rw [this, hclen]
        unfold rdErr
        rw [if_pos okN_f, hgy]
        dsimp only
        rw [if_neg (by omega)]
      have hxf := (ps_size ps' rfl hx2).1
      rw [hxf, show ((0 : Int)).toNat = 0 from rfl, show ((4096 : Int)).toNat = 4096 from rfl, List.drop_zero, hnow, List.take_of_length_le (by omega)] at ov
      obtain ⟨va, vn, vc, rfl, hvn, hvc, hva⟩ := ov.form
      obtain rfl : vn = 4096 := by rw [List.length_map, hclen] at hvn; omega
      obtain ⟨vb, vo, rfl⟩ := hva (by intro e; have := congrArg List.length e; rw [List.length_map, hclen] at this; simp at this)
      simp (disch := omega)
      refine num_c ?_
      simp (disch := omega)
      obtain ⟨la, ln, lc, rfl, hln, hlc, hla⟩ := ol.form
      obtain rfl : ln = l.length := by rw [flat4_len] at hln; omega
      have eg2 : Ext h g2 := e.trans (e1.trans e2)
      have ol2 := ol.ext eg2
      have bcell : ∀ n : Nat, n < 8 → hcell g2 (elt ⟨vb, vo, none⟩ (n * 512)) = some (.int .u8 ((bt fc.last (n * 512)).toNat : Nat)) := fun n hn => by
        have hlt : n * 512 < (fc.last.map byteV).length := by rw [List.length_map, hclen]; omega
        rw [(ov.cell hlt).1, List.getElem_map, ← bt_get]; rfl
      refine loopX1 (α := Nat) (fun i => .int .i64 i) (fun i G => i ≤ l.length ∧ G = g2) (fun i => l.length - i) 0 rfl ⟨Nat.zero_le _, rfl⟩ ?_
      rintro i G ⟨hi, rfl⟩ X2 hX2
      by_cases hil : i < l.length
      · obtain ⟨lb, lo, rfl⟩ := hla (by intro e; have := congrArg List.length e; rw [flat4_len] at this; simp at this; omega)
        obtain ⟨c0, c1, c2, c3⟩ := prm_cell ol2 hil
        obtain ⟨r1, r2, r3, -⟩ := a.prom l[i] (List.getElem_mem hil)
        have hr := hord l[i] (List.getElem_mem hil)
        have h256 := hl256 l[i] (List.getElem_mem hil)
        generalize l[i] = r at *
        have b1 := bcell r.page r1
        have b2 := bcell r.other r2
        have hm1 : ((r.page : Int) * 512).toNat = r.page * 512 := by omega
        have hm2 : ((r.other : Int) * 512).toNat = r.other * 512 := by omega
        obtain ⟨B1, hB1⟩ : ∃ B, (bt fc.last (r.page * 512)).toNat = B := ⟨_, rfl⟩
        obtain ⟨B2, hB2⟩ : ∃ B, (bt fc.last (r.other * 512)).toNat = B := ⟨_, rfl⟩
        rw [hB1] at b1 hr
        rw [hB2] at b2 hr
        clear hB1 hB2
        by_cases hB : r.least ≤ B1
        · have hB3 := hr hB
          simp (disch := omega) [c0, c1, c2, c3, b1, b2, hm1, hm2, hB]
          exact hX2 (i + 1) _ _ (by simp) ⟨by omega, rfl⟩ (by omega)
        · simp (disch := omega) [c0, c1, c2, c3, b1, b2, hm1, hm2, hB]
          exact hX2 (i + 1) _ _ (by simp) ⟨by omega, rfl⟩ (by omega)
      · obtain rfl : i = l.length := by omega
        simp (disch := omega)
        refine loopX1 (α := Nat) (fun i => .int .i64 i) (fun i g => i ≤ 8 ∧ Ext h g) (fun i => 8 - i) 0 rfl ⟨Nat.zero_le _, eg2⟩ ?_
        rintro i g3 ⟨hi, e3⟩ X3 hX3
        by_cases hi8 : i < 8
        · simp (disch := omega)
          have S3 := S.ext e3
          refine State_c S3.at_.co (fun g4 hne _ => ?_) (fun g4 v4 hok e4 ov4 fv4 => ?_)
          · exfalso
            apply hne
            have hb9 : c.bits = 9 := a.b9
            rw [hb9]
            unfold askE
            have hd : (268435456 : Int) / ((2 ^ 9 : Nat) : Int) = 524288 := by decide
            rw [hd, if_neg (by omega)]
          obtain ⟨wa, wn, wc, rfl, -, -, -⟩ := ov4.form (by decide)
          simp (disch := omega)
          generalize hg5 : hset _ (⟨g4.size, 2, none⟩ : Addr) _ = g5
          have e5 : Ext g4 g5 := by rw [← hg5]; exact put3_ext (by repeat' (first | (with_reducible exact Ext.refl _) | (with_reducible assumption) | (with_reducible refine push_ext ?_) | (with_reducible refine hset_ext ?_ ?_) | (with_reducible refine Ext.trans ?_ (by assumption)) | omega | (simp; done) | (simp; omega) | (refine Ext.size ?_) | (refine Nat.le_succ_of_le (Ext.size ?_)))) (Nat.le_refl _)
          have k5 : g5[g4.size]? = some (.cells #[.bool (c.dirty i), .bool (decide ((i : Int) ∈ c.pend)), .slice wa wn wc] 121) := by rw [← hg5]; exact put3 (get_pushed rfl)
          clear hg5
          refine num_c ?_
          have S5 := (S3.ext e4).ext e5
          have st5 : StAt g5 sp s := by have := S5.at_.st; rw [hsp] at this; exact this
          simp (disch := omega)
          refine Read_c st5 (by decide) (by omega) (by omega) (by decide) (by decide) (fun g6 e6 hne => ?_) (fun g6 x6 v6 e6 hx6 hgx6 _ _ _ ov6 fv6 _ => ?_)
          · exfalso
            apply hne
            have hxl : xf.last.length = 4096 := by
              have := (ps_size S.ps hf (x := xf) (by rw [xf1]; simp)).2.1
              rw [this, hflen]
            unfold rdErr
            rw [if_pos okN_f, xf4]
            dsimp only
            rw [if_neg (by omega)]
          have hxf6 := (ps_size S.ps hf hx6).1
          have hnl : f.now.length = 4096 := by rw [fok.now_len, hflen]
          have ht1 : ((i : Int) * 512).toNat = i * 512 := by omega
          rw [hxf6, ht1, show ((1 : Int)).toNat = 1 from rfl] at ov6
          have hsl : ((f.now.drop (i * 512)).take 1).length = 1 := by rw [List.length_take, List.length_drop]; omega
          obtain ⟨ya, yn, yc, rfl, hyn', hyc, hya⟩ := ov6.form
          obtain rfl : yn = 1 := by rw [List.length_map, hsl] at hyn'; omega
          obtain ⟨yb, yo, rfl⟩ := hya (by intro e; have := congrArg List.length e; rw [List.length_map, hsl] at this; simp at this)
          have y0 : hcell g6 ⟨yb, yo, none⟩ = some (.int .u8 ((bt f.now (i * 512)).toNat : Nat)) := by
            have hlt : 0 < (((f.now.drop (i * 512)).take 1).map byteV).length := by rw [List.length_map, hsl]; omega
            have h1 := (ov6.cell hlt).1
            rw [List.getElem_map, ← bt_get, bt_take, if_pos (by omega), bt_drop, Nat.add_zero] at h1
            exact h1
          have k6 := (e6.block _ (get_some_lt k5)).trans k5
          have d6 := cellOf (i := 0) k6 rfl
          have e36 := e4.trans (e5.trans e6)
          have w6 : hcell g6 (elt ⟨wb, 0, none⟩ i) = some (.int .u8 (w i : Nat)) := by
            have hlt : i < ((wL w).map byteV).length := by rw [List.length_map, wL_len]; exact hi8
            have h1 := (((ow.ext e3).ext e36).cell hlt).1
            rw [List.getElem_map, wL_get] at h1
            rw [h1]
            unfold byteV
            have h3 := a.w200 i hi8
            rw [UInt8.toNat_ofNat', Nat.mod_eq_of_lt (by omega)]
          simp (disch := omega)
          refine num_c ?_
          have fin : X3 (.int .i64 ((i : Int) + 1)) g6 := hX3 (i + 1) _ _ (by simp) ⟨by omega, e3.trans e36⟩ (by omega)
          have hclean := fun hd => a.clean S.coh (n := i) hi8 hd
          have hnowP : nowP p = f.now := by unfold nowP; rw [hf]
          dsimp only at hclean
          rw [hnowP] at hclean
          cases hd : c.dirty (i : Int) with
          | true =>
            rw [hd] at d6
            simp (disch := omega) [d6]
            exact fin
          | false =>
            rw [hd] at d6
            rw [hclean hd] at y0
            simp (disch := omega) [d6, y0, w6]
            exact fin
        · obtain rfl : i = 8 := by omega
          simp (disch := omega)
          exact H _ e3
end Go.Proofs.YtcbbdnaelimpfaaGreat

/- From a contract on heaps to a law's row: 'true; the arguments read as they did'. -/
import Derived.Test.YtcbbdnaelimpfaaBytes
import Derived.Deep.Slices
import Derived.WalkKit
import Derived.ProofKit
import Derived.OpenShut
import Derived.JoinedCond
import Derived.Carry
import Derived.Lib.SmallJoins
namespace Go.Vc
open Go Go.ChangeShapes Go.WideShapes Go.ChangeAt Go.RowKit Go.Deep
set_option linter.unusedVariables false
variable {H : Type} {enc : TypeId × Value → H} {P : Program}

/-- An argument that is bytes. -/
theorem open_bytes {w : World} {base b0 : Nat} {sp : Nat → Bool} {held : Bool} {r : Reach} {t e : TypeId} {v : Value} {d : DataW H} {ps : List MemPlace} (ht : P.underlying t = some (.slice e)) (he : P.underlying e = some (.int .u8)) (hc : P.cellsOf e = 1)
    (hval : Value.okWide P w r b0 t v) (hd : DataW.Trod enc P w base sp held t v d ps) : ∃ l : List UInt8, Bytes w.heap v l ∧ l.length ≤ maxLen := by
  obtain ⟨fuel, hf⟩ := hd
  have hv1 : v.cells.toList = [v] := by
    unfold Value.okWide at hval
    rw [ht] at hval
    unfold Cell.okWide at hval
    rw [ht] at hval
    cases v <;> first | rfl | (exfalso; simp [Cell.ok, ht] at hval)
  rw [hv1] at hf
  rcases open_slice1 ht hc hf with ⟨h1, _⟩ | ⟨a, len, cap, m, n, V, D, Pl, h1, h2, h3, h4, h5, h6, h7⟩
  · simp only [List.cons.injEq, and_true] at h1
    exact ⟨[], .inl ⟨h1, rfl⟩, by simp⟩
  · simp only [List.cons.injEq, and_true] at h1
    have hm : len ≤ m := by rw [h5]; split <;> omega
    have hb : ∀ i, i < len → ∃ b : UInt8, V i = byteV b := by
      intro i hi
      obtain ⟨_, hx⟩ := h7 i (by omega)
      obtain ⟨x, hx1, _, hx3⟩ := DataW.trod_int (k := .u8) he hx
      simp only [List.cons.injEq, and_true] at hx1
      refine ⟨UInt8.ofNat x.toNat, ?_⟩
      rw [hx1]
      simp [Lit.wf, IntKind.min, IntKind.max, IntKind.signed, IntKind.bits] at hx3
      unfold byteV
      congr 1
      rw [UInt8.toNat_ofNat_of_lt' (by simp; omega)]
      omega
    refine ⟨(List.range len).map fun i => if hi : i < len then (hb i hi).choose else 0, .inr ⟨a, cap, by rw [h1]; simp, by simpa using h3, fun i hi => ?_⟩, by simp; omega⟩
    simp only [List.length_map, List.length_range] at hi
    have hc := (h7 i (by omega)).1
    have : hcell w.heap (elt a i) = some (V i) := hc
    rw [this, (hb i hi).choose_spec]
    simp [hi]

theorem below_of {w w' : World} (s : Same w w') (e : Ext w.heap w'.heap) : Below w.heap.size w w' := ⟨s.os, s.tape, s.output, e.size, e.block⟩

theorem trodAll_stays (hl : laidOutB P = true) {W W' : World} {sp : Nat → Bool} : ∀ {ts : List TypeId} {vs : List Value} {ds : List (DataW H)} {ps : List MemPlace},
    ts.all (fun t => P.readableRec t && decide (t < P.types.size)) = true → DataW.TrodAll enc P W 0 (fun _ => true) true ts vs ds ps → (∀ x ∈ ps, W.sameAt W' x) → (∀ x ∈ ps, sp x.block = true) →
    DataW.TrodAll enc P W' 0 sp true ts vs ds ps
  | [], vs, ds, ps, _, h, _, _ => by
    obtain ⟨rfl, rfl, rfl⟩ := trodAll_nil h
    exact trodAll_mk0
  | t :: ts, vs, ds, ps, ht, h, hs, hp => by
    obtain ⟨v, vs', d, ds', p, q, rfl, rfl, rfl, h0, h1⟩ := trodAll_cons h
    simp only [List.all_cons, Bool.and_eq_true, decide_eq_true_eq] at ht
    exact trodAll_cons_mk (Go.WideElems.Trod_stays hl ht.1.1 ht.1.2 h0 (fun x hx => hs x (List.mem_append_left _ hx)) (fun x hx => hp x (List.mem_append_left _ hx)))
      (trodAll_stays hl ht.2 h1 (fun x hx => hs x (List.mem_append_right _ hx)) (fun x hx => hp x (List.mem_append_right _ hx)))

/-- The row's end: the law said true, and below the old heap nothing has turned. -/
theorem law_post {f : Func} {s : ChangeSpec} {W W' : World} {args : Array Value} {ds gs : List (DataW H)} {before : List MemPlace} {tb : TypeId} {b : Bool}
    (hl : laidOutB P = true) (hts : f.params.toList.all (fun t => P.readableRec t && decide (t < P.types.size)) = true) (hs : s.vars = [])
    (hr : f.resultTypes = #[tb]) (hu : P.underlying tb = some .bool)
    (hW : DataW.Whole enc P f.params.toList s.vars false W args.toList ds gs before)
    (hfn : gs = [] → s.fn H (ds ++ gs) = { results := [.lit (.bool b)], args := ds, vars := [] }) (hb : Below W.heap.size W W') :
    s.post enc P f false true false false W args (.bool b) W' := by
  have hlt : ∀ p ∈ before, p.block < W.heap.size := fun p hp => hW.lt p hp
  have hW' := hW
  obtain ⟨pa, pv, hA, hV, hps, hz, hn⟩ := hW'
  rw [hs] at hV
  obtain ⟨hg, hpv⟩ := trodVars_none hV
  have hf := hfn hg
  subst hpv
  have hbp : before = pa := by simpa using hps
  have args' : ∀ sp : Nat → Bool, (∀ p ∈ pa, sp p.block = true) → DataW.TrodAll enc P W' 0 sp true f.params.toList args.toList ds pa := fun sp hsp =>
    trodAll_stays hl hts hA (fun x hx => hb.same (hlt x (hbp ▸ hx))) hsp
  have res : ∀ (b0 : Nat) (sp : Nat → Bool) (hd : Bool), DataW.TrodAll enc P W' b0 sp hd f.resultTypes.toList ((Value.bool b).resultList f.resultTypes.size) [.lit (.bool b)] [] := by
    intro b0 sp hd
    rw [hr]
    exact trodAll_mk1 (shut_bool hu b)
  have vars' : ∀ sp : Nat → Bool, DataW.TrodVars enc P W' sp s.vars [] [] := by
    intro sp
    rw [hs]
    rfl
  refine ⟨ds, gs, before, [], pa, [], hW, ?_, ?_, ?_, hb.frame _, fun ha => by cases ha⟩
  · rw [hf]; exact res _ _ _
  · rw [hf]; exact args' _ (fun p hp => by simpa using hlt p (hbp ▸ hp))
  · rw [hf]; exact vars' _
end Go.Vc

/- Locks: one is found. -/
import Derived.Test.YtlligpgjkmfhpaaLock2
set_option linter.unusedSimpArgs false
set_option linter.unusedVariables false
namespace Go.Proofs.Ytlligpgjkmfhpaa
open Go.Vc
variable {K : Value → Heap → Prop} {h : Heap}

structure Lk where
  m : Nat
  H : List Rb
  W : List Rb
  w : Value
  tk : Int
def Lk.all (s : Lk) : List Rb := s.H ++ s.W
/-- Who may write where, at a place. -/
structure LkAt (h : Heap) (p : Nat) (s : Lk) : Prop where
  cells : h[p]? = some (.cells #[.map (some s.m), s.w, .int .i64 s.tk] 57)
  map : MapK (.int .i64) h s.m (mapL s.H)
  row : OwnT lnT 1 h s.w (ptrs s.W)
  rq : ∀ x ∈ s.all, RbAt h x ∧ x.key = x.r.id
  blks : (s.all.map (·.b)).Nodup
  keys : (s.all.map (·.key)).Nodup
  few : s.all.length < 100000

theorem LkAt.ext {h' : Heap} {p : Nat} {s : Lk} (a : LkAt h p s) (e : Ext h h') : LkAt h' p s :=
  ⟨(e.block p (get_some_lt a.cells)).trans a.cells, a.map.ext e, a.row.ext e, fun x hx => ⟨(a.rq x hx).1.ext e, (a.rq x hx).2⟩, a.blks, a.keys, a.few⟩

theorem look_mapL (n : Int) : ∀ H : List Rb, look2 n (mapL H) = (H.find? (fun x => decide (x.key = n))).map (fun x => ptrV x.b)
  | [] => rfl
  | x :: H => by
    have ih := look_mapL n H
    unfold mapL at *
    rw [List.map_cons, look2, List.find?_cons]
    by_cases e : x.key = n
    · simp [e]
    · simp [e, ih, Ne.symm e]

def findS (s : Lk) (n : Int) : Option (Rb × Bool) :=
  match s.H.find? (fun x => decide (x.key = n)) with
  | some x => some (x, false)
  | none => match s.W.find? (fun x => decide (x.key = n)) with
    | some x => some (x, true)
    | none => none
def findV : Option (Rb × Bool) → Value
  | some (x, b) => .tuple #[ptrV x.b, .bool b]
  | none => .tuple #[.pointer none, .bool false]

theorem find1_c {x : Rb} {n : Int} {b : Nat} (hx : RbAt h x) (hk : x.key = x.r.id) (hb : hcell h ⟨b, 0, none⟩ = some (.int .i64 n)) (H : K (.bool (decide (x.key = n))) h) :
    CallsH Try.prog 46 #[ptrV x.b, ptrV b] h K ⟨⟩ := by
  refine n46_calls ?_
  unfold n46 ptrV
  have c0 := hx.1.c0
  rw [← hk] at c0
  simp (disch := omega) [c0, hb]
  refine Split.mk (fun e => ?_) (fun e => ?_)
  · rw [decide_eq_true e] at H; exact H
  · rw [decide_eq_false e] at H; exact H

theorem find_c {p : Nat} {s : Lk} {n : Int} (hs : LkAt h p s) (H : ∀ h', Ext h h' → K (findV (findS s n)) h') : CallsH Try.prog 28 #[ptrV p, .int .i64 n] h K ⟨⟩ := by
  refine n28_calls ?_
  unfold n28 ptrV
  have e0 : Ext h (h.push (.cells #[.int .i64 n] 3)) := (by repeat' (first | (with_reducible exact Ext.refl _) | (with_reducible assumption) | (with_reducible refine push_ext ?_) | (with_reducible refine hset_ext ?_ ?_) | (with_reducible refine Ext.trans ?_ (by assumption)) | omega | (simp; done) | (simp; omega) | (refine Ext.size ?_) | (refine Nat.le_succ_of_le (Ext.size ?_))))
  have hs0 := hs.ext e0
  have c0 := cellOf hs0.cells (i := 0) rfl
  have c1 := cellOf hs0.cells (i := 1) rfl
  have cn : hcell (h.push (.cells #[.int .i64 n] 3)) ⟨h.size, 0, none⟩ = some (.int .i64 n) := by simp
  simp (disch := omega) [c0, cn, Hp_lookup lockKey (z := .pointer none) (by kernel_rfl) hs0.map, look_mapL]
  unfold findS at H
  cases hf : s.H.find? (fun x => decide (x.key = n)) with
  | some x =>
    rw [hf] at H
    simp (disch := omega)
    exact H _ e0
  | none =>
    rw [hf] at H
    simp (disch := omega) [c1]
    refine IndexFunc_c (pr := fun x => decide (x.key = n)) hs0.row (by have := hs.few; simp [Lk.all] at this; omega) (fun x hx h' K' e' H' => ?_) (fun h' e' => ?_)
    · refine InvokeH_k1 (by kernel_rfl) ?_
      have hxx := hs0.rq x (List.mem_append_right _ hx)
      exact find1_c (hxx.1.ext e') hxx.2 (hcell_ext e' cn) (H' h' (.refl _))
    · cases hw : s.W.find? (fun x => decide (x.key = n)) with
      | none =>
        rw [hw] at H
        have : s.W.findIdx? (fun x => decide (x.key = n)) = none := by
          rw [List.find?_eq_none] at hw
          rw [List.findIdx?_eq_none_iff]
          intro x hx; simpa using hw x hx
        simp (disch := omega) [this]
        exact H _ (e0.trans e')
      | some x =>
        rw [hw] at H
        obtain ⟨i, hi, hxe, hpi, hno⟩ : ∃ i, ∃ hi : i < s.W.length, s.W[i] = x ∧ x.key = n ∧ ∀ j (hj : j < i), (s.W[j]'(by omega)).key ≠ n := by
          rw [List.find?_eq_some_iff_getElem] at hw
          obtain ⟨h1, i, hi, h2, h3⟩ := hw
          exact ⟨i, hi, h2, by simpa using h1, fun j hj => by simpa using h3 j hj⟩
        have hix : s.W.findIdx? (fun x => decide (x.key = n)) = some i := by
          rw [List.findIdx?_eq_some_iff_getElem]
          exact ⟨hi, by rw [hxe]; simpa using hpi, fun j hj => by simpa using hno j hj⟩
        have hrow := (hs0.ext e').row
        have c2 := hcell_ext e' c1
        obtain ⟨a, nn, cc, hwe, hn, hc, hne⟩ := hrow.form (by omega)
        rw [ptrs_len, Nat.mul_one] at hn
        obtain ⟨b, rfl⟩ := hne (by intro x; have := ptrs_len s.W; rw [x] at this; simp at this; omega)
        rw [hwe] at hrow c2
        have hcl := (hrow.elt (i := i) (by rw [ptrs_len]; exact hi)).1
        have hpe : (ptrs s.W)[i]'(by rw [ptrs_len]; exact hi) = ptrV x.b := by simp [ptrs, hxe]
        rw [hpe] at hcl
        simp (disch := omega) [hix, c2, hcl]
        exact H _ (e0.trans e')
end Go.Proofs.Ytlligpgjkmfhpaa

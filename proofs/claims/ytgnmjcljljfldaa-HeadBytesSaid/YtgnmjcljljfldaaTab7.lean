/- Tables: a list is read. -/
import Derived.Test.YtgnmjcljljfldaaTab6
set_option linter.unusedSimpArgs false
set_option linter.unusedVariables false
namespace Go.Proofs.Ytgnmjcljljfldaa
open Go.Vc
variable {K : Value → Heap → Prop} {h : Heap}

theorem InvokeH_c1 {P : Go.Program} {g : Go.FuncId} {a c1 : Go.Value} (hc : callOk P g = true) (H : CallsH P g #[a, c1] h K ⟨⟩) : InvokeH P (.func (.func g) #[] #[c1]) #[a] h K ⟨⟩ := InvokeH_func hc (by simpa using H)

theorem ReadAll_c {v : Value} {xs : List Sn} {b : Int} {bb : Nat} (hS : Sns h v xs) (hl : xs.length < 1000000) (hb : hcell h ⟨bb, 0, none⟩ = some (.int .i64 b)) (H : ∀ v' h', Ext h h' → Bytes h' v' (putR xs b).1 → K (.tuple #[v', .int .i64 (putR xs b).2]) h') :
    CallsH Try.prog 44 #[v, .pointer (some ⟨bb, 0, none⟩)] h K ⟨⟩ := by
  refine n44_calls ?_
  unfold n44
  simp (disch := omega) [hb]
  refine Snaps_c hS hl fun v' h' e hB _ => ?_
  simp (disch := omega)
  exact H v' h' e hB

set_option maxHeartbeats 4000000 in
theorem read_c {v : Value} {l : List UInt8} {n b : Int} {bb : Nat} (hB : Bytes h v l) (hl : l.length < 1000000) (hn : n < 9223372036854775808) (hb : Cel h bb 0 (.int .i64 b))
    (H : ∀ v' h', Ext h h' → OwnSn h' v' (readR l n b).1 → (∀ b, blkV v' = some b → h.size ≤ b) → K (.tuple #[v', .int .i64 (readR l n b).2]) h') :
    CallsH Try.prog 42 #[.int .i64 b, .int .i64 n, v, .func (.func 43) #[] #[], .func (.func 44) #[] #[.pointer (some ⟨bb, 0, none⟩)]] h K ⟨⟩ := by
  obtain ⟨o, q0, rfl⟩ := hB.form
  refine n42_calls ?_
  unfold n42
  by_cases hbad : ¬ (9 ≤ b ∧ b ≤ 16) ∨ n < 0
  · rw [readR_bits hbad] at H
    have fin := H _ h (.refl _) (.inl ⟨rfl, rfl⟩) (fun b hb => by cases hb)
    by_cases h9 : b < 9
    · simp (disch := omega) [h9]
      exact fin
    · by_cases h16 : 16 < b
      · simp (disch := omega) [h9, h16]
        exact fin
      · simp (disch := omega) [h9, h16]
        exact fin
  · obtain ⟨n, rfl⟩ := Int.eq_ofNat_of_zero_le (show 0 ≤ n by omega)
    have hb9 : 9 ≤ b ∧ b ≤ 16 := by omega
    refine (⟨_, rfl⟩ : ∃ g, g = h.push (.cells #[.slice o l.length q0, .int .i64 0, .bool true] 113)).elim fun g eg => ?_
    simp (disch := omega) [← eg]
    have eg0 : Ext h g := by rw [eg]; exact (by repeat' (first | (with_reducible exact Ext.refl _) | (with_reducible assumption) | (with_reducible refine push_ext ?_) | (with_reducible refine hset_ext ?_ ?_) | (with_reducible refine Ext.trans ?_ (by assumption)) | omega | (simp; done) | (simp; omega) | (refine Ext.size ?_) | (refine Nat.le_succ_of_le (Ext.size ?_))))
    have hR0 : Rd g h.size (.slice o l.length q0) 0 true := by rw [eg]; exact ⟨⟨by simp, by simp⟩, ⟨by simp, by simp⟩, ⟨by simp, by simp⟩⟩
    have zg : g.size = h.size + 1 := by rw [eg]; simp
    clear eg
    have hvB : ∀ x, blkV (.slice o l.length q0) = some x → l ≠ [] → x ≠ h.size := fun x hx hnl => by have := hB.lt hx hnl; omega
    refine JoinN_in1 (fun w g' => ∃ i : Nat, ∃ f : Bool, i ≤ n ∧ i ≤ 60000 ∧ Mod (· = h.size) g g' ∧ OwnSn g' w (rdN l i).1 ∧ (∀ x, blkV w = some x → h.size < x) ∧ Rd g' h.size (.slice o l.length q0) (rdN l i).2.1 f ∧ (rdN l i).2.2 = f ∧ (f = true → i = n)) (fun kk hkk => ?_) (fun w g' hx => ?_)
    · refine JoinN.mk ?_
      refine loopA2 (fun a : Value × Nat => a.1) (fun a => .int .i64 a.2) (fun a g' => a.2 ≤ n ∧ 21 * a.2 ≤ l.length ∧ Mod (· = h.size) g g' ∧ OwnSn g' a.1 (rdN l a.2).1 ∧ (∀ x, blkV a.1 = some x → h.size < x) ∧ Rd g' h.size (.slice o l.length q0) (rdN l a.2).2.1 true ∧ (rdN l a.2).2.2 = true ∧ 21 * a.2 ≤ (rdN l a.2).2.1 ∧ (rdN l a.2).2.1 ≤ l.length) (fun a => n - a.2) (_, 0) ⟨rfl, rfl⟩ ⟨by omega, by omega, Mod.refl _ _, .inl ⟨rfl, rfl⟩, (fun x hx => by cases hx), hR0, rfl, by simp, by simp [rdN]⟩ ?_
      rintro ⟨w, i⟩ g1 ⟨hi, hi21, m1, hw, hwb, hR, hf, hp1, hp2⟩
      dsimp only at hi hi21 hw hwb hR hf hp1 hp2
      by_cases hin : i = n
      · simp (disch := omega) [hin]
        exact hkk _ _ ⟨i, true, by omega, by omega, m1, hw, hwb, hR, hf, fun _ => hin⟩
      · simp (disch := omega)
        have M1 : Mod (· = h.size) h g1 := (Mod.of_ext eg0).trans m1 (fun b _ e => e)
        have hB1 := hB.modX M1 (fun x hn' hx _ => hvB x hx hn')
        refine InvokeH_f1 (by kernel_rfl) ?_
        refine RdSnap_c hB1 (by omega) hR (by omega) hvB fun g2 m2 hR2 => ?_
        have hst : rdN l (i + 1) = ((rdN l i).1 ++ [(snapV l (rdN l i).2.1 true).1], (snapV l (rdN l i).2.1 true).2) := by rw [rdN, hf]
        have htr := snapV_true (l := l) (p := (rdN l i).2.1) (f := true)
        have hw2 := hw.mod m2 (fun x hx e => by have := hwb x hx; omega)
        have lR := hR2.1.lt
        generalize hSV : snapV l (rdN l i).2.1 true = SV at *
        obtain ⟨x, p', f'⟩ := SV
        obtain ⟨nm, l1, m, s⟩ := x
        dsimp only at hR2 hst htr ⊢
        simp only [Sn.cells]
        simp (disch := omega)
        have z1 := m1.size
        have z2 := m2.size
        have hlen := rdN_len l i
        refine appSn (x := ⟨nm, l1, m, s⟩) hw2 (by omega) fun w3 g3 hw3 m3 hwb3 => ?_
        have hR3 : Rd g3 h.size (.slice o l.length q0) p' f' := (hR2.ext (h' := g2.push (.cells (List.toArray (Sn.cells ⟨nm, l1, m, s⟩)) 61)) (by repeat' (first | (with_reducible exact Ext.refl _) | (with_reducible assumption) | (with_reducible refine push_ext ?_) | (with_reducible refine hset_ext ?_ ?_) | (with_reducible refine Ext.trans ?_ (by assumption)) | omega | (simp; done) | (simp; omega) | (refine Ext.size ?_) | (refine Nat.le_succ_of_le (Ext.size ?_))))).mod m3 (fun hx => by have := hwb _ hx; omega)
        have M3 : Mod (· = h.size) g g3 := ((m1.trans m2 (fun b _ e => e)).trans (Mod.of_ext (h' := g2.push (.cells (List.toArray (Sn.cells ⟨nm, l1, m, s⟩)) 61)) (S := (· = h.size)) (by repeat' (first | (with_reducible exact Ext.refl _) | (with_reducible assumption) | (with_reducible refine push_ext ?_) | (with_reducible refine hset_ext ?_ ?_) | (with_reducible refine Ext.trans ?_ (by assumption)) | omega | (simp; done) | (simp; omega) | (refine Ext.size ?_) | (refine Nat.le_succ_of_le (Ext.size ?_))))) (fun b _ e => e)).trans m3 (fun x hx hs => by have := hwb x hs; omega)
        have hwb3' : ∀ x, blkV w3 = some x → h.size < x := fun x hx => (hwb3 x hx).elim (hwb x) (fun e => by omega)
        rw [show (rdN l i).1 ++ [⟨nm, l1, m, s⟩] = (rdN l (i + 1)).1 by rw [hst]] at hw3
        cases f'
        · simp (disch := omega) [hR3.2.2.get]
          exact hkk _ _ ⟨i + 1, false, by omega, by omega, M3, hw3, hwb3', by rw [hst]; exact hR3, by rw [hst], fun e => by cases e⟩
        · have htr := htr rfl
          simp (disch := omega) [hR3.2.2.get]
          refine ⟨i + 1, by simp, ⟨by omega, by omega, M3, hw3, hwb3', by rw [hst]; exact hR3, by rw [hst], by rw [hst]; dsimp only; omega, by rw [hst]; exact htr.2.1⟩, by omega⟩
    · refine hx.elim fun i hx => hx.elim fun f hx => ?_
      obtain ⟨hi, hi6, m1, hw, hwb, hR, hf, hfn⟩ := hx
      have M1 : Mod (· = h.size) h g' := (Mod.of_ext eg0).trans m1 (fun b _ e => e)
      have E1 : Ext h g' := M1.ext (fun x hx e => by omega)
      have hlen := rdN_len l i
      refine InvokeH_c1 (by kernel_rfl) ?_
      refine ReadAll_c hw.sns (by omega) (hb.ext E1).get fun v2 g2 e2 hB2 => ?_
      have hR2 := hR.ext e2
      have hw2 := hw.ext e2
      have E2 := E1.trans e2
      have hwb' : ∀ x, blkV w = some x → h.size ≤ x := fun x hx => by have := hwb x hx; omega
      cases f
      · have hno : ¬ ∃ ys : List Sn, (ys.length : Int) = n ∧ putR ys b = (l, 0) := fun ⟨ys, h1, h2⟩ => by
          obtain ⟨-, gd, -, hl2⟩ := putR_zero h2
          have := rdN_good gd.1 hl2 i (by omega)
          rw [this] at hf
          cases hf
        rw [readR_no hb9 (by omega) hno] at H
        simp (disch := omega) [hR2.2.2.get]
        exact H _ _ E2 (.inl ⟨rfl, rfl⟩) (fun b hb => by cases hb)
      · have hin := hfn rfl
        by_cases hz : (putR (rdN l i).1 b).2 = 0
        · simp (disch := omega) [hR2.2.2.get, hz]
          have hBl := hB.ext E2
          have hlen2 : (putR (rdN l i).1 b).1.length < 1000000000 := by
            have h1 : putR (rdN l i).1 b = ((putR (rdN l i).1 b).1, 0) := Prod.ext rfl hz
            obtain ⟨-, gd, h64, hl2⟩ := putR_zero h1
            have := SnsB_le gd.1
            rw [hl2]; omega
          refine Equal_c hB2 hBl hlen2 (by omega) ?_
          by_cases he : (putR (rdN l i).1 b).1 = l
          · have hp : putR (rdN l i).1 b = (l, 0) := Prod.ext he hz
            rw [readR_is (by omega) hp] at H
            simp (disch := omega) [he]
            exact H _ _ E2 hw2 hwb'
          · have hno : ¬ ∃ ys : List Sn, (ys.length : Int) = n ∧ putR ys b = (l, 0) := fun ⟨ys, h1, h2⟩ => by
              have h3 := rdN_of h2
              rw [show ys.length = i by omega] at h3
              rw [h3] at he
              exact he (by rw [h2])
            rw [readR_no hb9 (by omega) hno] at H
            simp (disch := omega) [he]
            exact H _ _ E2 (.inl ⟨rfl, rfl⟩) (fun b hb => by cases hb)
        · have hno : ¬ ∃ ys : List Sn, (ys.length : Int) = n ∧ putR ys b = (l, 0) := fun ⟨ys, h1, h2⟩ => by
            have h3 := rdN_of h2
            rw [show ys.length = i by omega] at h3
            rw [h3] at hz
            exact hz (by rw [h2])
          rw [readR_no hb9 (by omega) hno] at H
          simp (disch := omega) [hR2.2.2.get, hz]
          exact H _ _ E2 (.inl ⟨rfl, rfl⟩) (fun b hb => by cases hb)

theorem ReadSnaps_c {v : Value} {l : List UInt8} {n b : Int} (hB : Bytes h v l) (hl : l.length < 1000000) (hn : n < 9223372036854775808)
    (H : ∀ v' h', Ext h h' → OwnSn h' v' (readR l n b).1 → (∀ b, blkV v' = some b → h.size ≤ b) → K (.tuple #[v', .int .i64 (readR l n b).2]) h') :
    CallsH Try.prog 13 #[.int .i64 b, v, .int .i64 n] h K ⟨⟩ := by
  have e0 : Ext h (h.push (.cells #[.int .i64 b] 3)) := (by repeat' (first | (with_reducible exact Ext.refl _) | (with_reducible assumption) | (with_reducible refine push_ext ?_) | (with_reducible refine hset_ext ?_ ?_) | (with_reducible refine Ext.trans ?_ (by assumption)) | omega | (simp; done) | (simp; omega) | (refine Ext.size ?_) | (refine Nat.le_succ_of_le (Ext.size ?_))))
  refine n13_calls ?_
  unfold n13
  simp (disch := omega)
  refine read_c (hB.ext e0) hl hn ⟨by simp, by simp⟩ fun v' h' e hO hF => ?_
  simp (disch := omega)
  exact H v' h' (e0.trans e) hO (fun b hb => by have := hF b hb; simp at this; omega)
end Go.Proofs.Ytgnmjcljljfldaa

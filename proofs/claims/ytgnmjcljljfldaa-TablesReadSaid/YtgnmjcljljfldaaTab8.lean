/- Tables: what the chapter's rows say; one's own copy of a list. -/
import Derived.Test.YtgnmjcljljfldaaTab7
set_option linter.unusedSimpArgs false
set_option linter.unusedVariables false
namespace Go.Proofs.Ytgnmjcljljfldaa
open Go.Vc
variable {K : Value → Heap → Prop} {h : Heap}

theorem Sn.bytes_ge {x : Sn} {b : Int} (hk : SnOk x b) : 22 ≤ x.bytes.length := by
  unfold Sn.bytes
  have := hk.1.1
  simp
  omega
theorem SnsB_ge {b : Int} : ∀ {xs : List Sn}, (∀ x ∈ xs, SnOk x b) → 22 * xs.length ≤ (SnsB xs).length
  | [], _ => by simp [SnsB]
  | x :: xs, h => by
    have h1 := Sn.bytes_ge (h x List.mem_cons_self)
    have h2 := SnsB_ge (xs := xs) (b := b) (fun y hy => h y (List.mem_cons_of_mem _ hy))
    unfold SnsB at *
    simp only [List.flatMap_cons, List.length_append, List.length_cons]
    omega
/-- The row that is tried. -/
def X1 : Sn := ⟨[97], 1024, 1, 512⟩
def X1B : List UInt8 := [1, 97, 0, 4, 0, 0, 0, 0, 0, 0, 1, 0, 0, 0, 0, 2, 0, 0, 0, 0, 0, 0]
theorem X1_put : putR [X1] 9 = (X1B, 0) := by
  rw [putR_ok ⟨by omega, by omega⟩ ⟨fun x hx => by rw [List.mem_singleton.1 hx]; decide, by simp⟩ (by simp)]
  rfl
theorem X1_two : readR X1B 2 9 = ([], 210) := readR_no ⟨by omega, by omega⟩ (by omega) fun ⟨ys, h1, h2⟩ => by
  obtain ⟨-, g, -, hl⟩ := putR_zero h2
  have := SnsB_ge g.1
  rw [← hl] at this
  have h3 : X1B.length = 22 := rfl
  omega

theorem Tknown_c (H : ∀ h', Ext h h' → K (.bool true) h') : CallsH Try.prog 8 #[] h K ⟨⟩ := by
  refine n8_calls ?_
  unfold n8
  simp (disch := omega)
  refine (⟨_, rfl⟩ : ∃ g, g = hset (hset (hset (hset (h.push (.cells #[str [], .int .i64 0, .int .i64 0, .int .i64 0] 61)) ⟨h.size, 0, none⟩ (str [97])) ⟨h.size, 1, none⟩ (.int .i64 1024)) ⟨h.size, 2, none⟩ (.int .i64 1)) ⟨h.size, 3, none⟩ (.int .i64 512)).elim fun g eg => ?_
  simp only [← eg]
  have e1 : Ext h g := by rw [eg]; exact (by repeat' (first | (with_reducible exact Ext.refl _) | (with_reducible assumption) | (with_reducible refine push_ext ?_) | (with_reducible refine hset_ext ?_ ?_) | (with_reducible refine Ext.trans ?_ (by assumption)) | omega | (simp; done) | (simp; omega) | (refine Ext.size ?_) | (refine Nat.le_succ_of_le (Ext.size ?_))))
  have d0 : Cel g h.size 0 (str [97]) := by rw [eg]; exact ⟨by simp, by simp⟩
  have d1 : Cel g h.size 1 (.int .i64 1024) := by rw [eg]; exact ⟨by simp, by simp⟩
  have d2 : Cel g h.size 2 (.int .i64 1) := by rw [eg]; exact ⟨by simp, by simp⟩
  have d3 : Cel g h.size 3 (.int .i64 512) := by rw [eg]; exact ⟨by simp, by simp⟩
  have zg : g.size = h.size + 1 := by rw [eg]; simp
  clear eg
  have hS : OwnSn (g.push (.cells (List.toArray X1.cells) 61)) (.slice (some ⟨h.size + 1, 0, none⟩) 1 1) [X1] := OwnS_new (vs := X1.cells) zg.symm rfl
  have e2 : Ext g (g.push (.cells (List.toArray X1.cells) 61)) := (by repeat' (first | (with_reducible exact Ext.refl _) | (with_reducible assumption) | (with_reducible refine push_ext ?_) | (with_reducible refine hset_ext ?_ ?_) | (with_reducible refine Ext.trans ?_ (by assumption)) | omega | (simp; done) | (simp; omega) | (refine Ext.size ?_) | (refine Nat.le_succ_of_le (Ext.size ?_))))
  refine Snaps_c hS.sns (by simp) fun v3 h3 e3 hB3 _ => ?_
  rw [X1_put] at hB3 ⊢
  dsimp only at hB3 ⊢
  simp (disch := omega) only [Hp_extract0, Hp_extract1]
  refine ReadSnaps_c hB3 (by decide) (by omega) fun v4 h4 e4 hO4 _ => ?_
  rw [readR_is (ys := [X1]) (by simp) X1_put] at hO4 ⊢
  dsimp only at hO4 ⊢
  simp (disch := omega) only [Hp_extract0, Hp_extract1]
  refine ReadSnaps_c (hB3.ext e4) (by decide) (by omega) fun v5 h5 e5 hO5 _ => ?_
  rw [X1_two] at hO5 ⊢
  have e15 := ((e2.trans e3).trans e4).trans e5
  have d0 := d0.ext e15
  have d1 := d1.ext e15
  have d2 := d2.ext e15
  have d3 := d3.ext e15
  have hB5 := (hB3.ext e4).ext e5
  obtain ⟨o3, c3, rfl⟩ := hB3.form
  obtain ⟨a3, rfl, -, -, hA⟩ := hB5.at (by decide)
  have hS4 := (hO4.ext e5).sns
  obtain ⟨o4, c4, rfl⟩ := hS4.form
  obtain ⟨a4, rfl, -, -⟩ := hS4.some (by simp)
  have hc := hS4.cell 0 (by simp)
  have b0 := hA 0 (by decide)
  have b1 := hA 1 (by decide)
  have hl : X1B.length = 22 := rfl
  simp [X1, elt, Addr.add] at hc
  simp [X1B, byteV] at b0 b1
  simp (disch := omega) [d0.get, d1.get, d2.get, d3.get, hc.1, hc.2.1, hc.2.2.1, hc.2.2.2, b0, b1, hl]
  exact H _ (e1.trans e15)
end Go.Proofs.Ytgnmjcljljfldaa

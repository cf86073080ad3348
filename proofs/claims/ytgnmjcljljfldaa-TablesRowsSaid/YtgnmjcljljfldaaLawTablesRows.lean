/- What is proved: the law palimpsestlaw11.TablesRows returns true for every input, and its arguments read as they did. No conditions. -/
import Derived.Test.YtgnmjcljljfldaaRows
import Derived.Test.YtgnmjcljljfldaaTab8
import Derived.Test.YtgnmjcljljfldaaRows6
set_option linter.unusedSimpArgs false
set_option linter.unusedVariables false
namespace Go.Proofs.Ytgnmjcljljfldaa
open Go.Vc
variable {K : Value → Heap → Prop} {h : Heap}

theorem Rws.src {v : Value} {xs : List Rw} (s : Rws h v xs) : Src 5 h v xs.length (xs.flatMap Rw.cells) := by
  rcases s with ⟨rfl, rfl⟩ | ⟨a, c, rfl, h2, h3⟩
  · exact .inl ⟨rfl, rfl, rfl⟩
  · refine .inr (.inl ⟨a, c, rfl, flatr_len xs, fun i hi => ?_⟩)
    rw [flatr_len] at hi
    obtain ⟨us, -, h5, rfl⟩ := h3 (i / 5) (by omega)
    have h6 := h5 (i % 5) (by simp; omega)
    rw [elt_elt, show i / 5 * 5 + i % 5 = i by omega] at h6
    have h7 := flatr_get xs (i / 5) (i % 5) (by omega) (by omega)
    rw [show i / 5 * 5 + i % 5 = i by omega, List.getElem?_eq_getElem (by rw [flatr_len]; omega), List.getElem?_eq_getElem (by simp; omega)] at h7
    rw [h6, h7]
theorem oner_cells (xs : List Rw) : ∀ u ∈ xs.flatMap Rw.cells, one u = true := by
  intro u hu
  obtain ⟨x, -, hx⟩ := List.mem_flatMap.1 hu
  unfold Rw.cells at hx
  simp at hx
  rcases hx with rfl | rfl | rfl | rfl | rfl <;> rfl
theorem OwnRw.pre {B n c : Nat} {xs ys : List Rw} (o : OwnRw h (.slice (some ⟨B, 0, none⟩) n c) (xs ++ ys)) : Rws h (.slice (some ⟨B, 0, none⟩) xs.length c) xs := by
  have s := o.rws
  rcases s with ⟨h1, -⟩ | ⟨a', c', h1, h2, h3⟩
  · cases h1
  · cases h1
    simp only [List.length_append] at h2
    refine .inr ⟨_, c, rfl, by omega, fun i hi => ?_⟩
    obtain ⟨us, h4, h5, h6⟩ := h3 i (by simp; omega)
    exact ⟨us, h4, h5, by rw [h6, List.getElem_append_left hi]⟩
def ZZr : Rw := ⟨[122, 122], 0, 0, 0, 0⟩
theorem mkZZr {v : Value} {xs : List Rw} (hS : Rws h v xs) (hl : xs.length < 1000000)
    (H : ∀ B c h2, Ext h h2 → xs.length + 1 ≤ c → OwnRw h2 (.slice (some ⟨B, 0, none⟩) (xs.length + 1) c) (xs ++ [ZZr]) → K (.slice (some ⟨B, 0, none⟩) (xs.length + 1) c) h2) :
    Hp Try.prog false (Builtin.append_ #[22, 22] 22 #[.slice none 0 0, v]) (fun t1 h1 => Hp Try.prog false (Instr.build 25 #[(0, (str [122, 122]))]) (fun t18 h5 => Hp Try.prog false (Instr.buildSlice 22 1 #[(0, t18)]) (fun t2 h2 =>
      Hp Try.prog false (Builtin.append_ #[22, 22] 22 #[t1, t2]) K h2 ⟨⟩) h5 ⟨⟩) h1 ⟨⟩) h ⟨⟩ := by
  refine Hp_append (e := 25) (s := 5) (by_ := 48) (n := 0) (k := xs.length) (by kernel_rfl) (by kernel_rfl) .nil rfl (by omega) hS.src (oner_cells xs) (by omega) (by omega) fun v1 h1 hO1 hM1 hF1 _ => ?_
  simp only [List.nil_append] at hO1
  have hE1 : Ext h h1 := hM1.ext (fun b _ e => by cases e)
  have hlt1 : ∀ b, blkV v1 = some b → h.size ≤ b := fun b hb => (hF1 b hb).resolve_left (by rintro ⟨⟩)
  simp (disch := omega)
  refine appRw (x := ZZr) hO1 (by omega) fun v2 h2 hO2 hM2 hF2 => ?_
  have hE2 : Ext h h2 := hM2.ext_from (push_ext hE1) (fun b hb hb' => by have := hlt1 b hb'; omega)
  obtain ⟨B, n, c, rfl, hn, hc⟩ := OwnS.nonnil hO2 (fun e => by have := congrArg List.length e; rw [flatr_len] at this; simp at this)
  rw [flatr_len] at hn
  simp only [List.length_append, List.length_cons, List.length_nil, Nat.zero_add] at hn
  obtain rfl : n = xs.length + 1 := by omega
  exact H B c h2 hE2 hc hO2

set_option maxHeartbeats 4000000 in
theorem TablesRows_c {v : Value} {xs : List Rw} {b : Int} (hS : Rws h v xs) (hnl : ∀ x ∈ xs, x.name.length < 9223372036854775808) (H : ∀ h', Ext h h' → K (.bool true) h') :
    CallsH Try.prog 3 #[.int .i64 b, v] h K ⟨⟩ := by
  obtain ⟨o, c0, rfl⟩ := hS.form
  refine n3_calls ?_
  unfold n3
  by_cases hl : (100 : Int) < xs.length
  · simp (disch := omega) [hl]
    exact Tknown_c H
  · simp (disch := omega) [hl]
    refine mkZZr hS (by omega) fun B c h2 e2 hc hO => ?_
    have hP := hO.pre
    have hZ := hO.rws.cell xs.length (by simp)
    simp [ZZr] at hZ
    simp (disch := omega)
    refine Rows_c hP (by omega) fun v3 h3 e3 hB3 _ => ?_
    have E3 := e2.trans e3
    simp (disch := omega)
    refine RefRows_c (hS.ext E3) (by omega) hnl fun v4 h4 e4 hB4 _ => ?_
    have E4 := E3.trans e4
    have e34 := e3.trans e4
    have hz4 := hcell_ext e34 hZ.1
    simp (disch := omega) [Try.cv26_9 (hB3.ext e4), Try.cv26_9 hB4]
    refine sameRows_c (hP.ext e34) (hS.ext E4) (by omega) (by omega) ?_
    simp (disch := omega) [hz4]
    refine Split.mk (fun hz => ?_) (fun hz => ?_)
    · simp (disch := omega)
      have hput : putM xs b = ((putM xs b).1, 0) := Prod.ext rfl hz
      have hlen : (putM xs b).1.length < 1000000 := by
        obtain ⟨-, gd, h64, hl2⟩ := putM_zero hput
        have := RwsB_le gd.1
        rw [hl2]; omega
      refine ReadRows_c (hB3.ext e4) hlen (by omega) fun v5 h5 e5 hO5 _ => ?_
      rw [readM_is rfl hput] at hO5 ⊢
      dsimp only at hO5 ⊢
      simp (disch := omega)
      refine sameRows_c hO5.rws (hS.ext (E4.trans e5)) (by omega) (by omega) ?_
      simp (disch := omega)
      refine Tknown_c fun h6 e6 => ?_
      simp (disch := omega)
      exact H _ ((E4.trans e5).trans e6)
    · simp (disch := omega)
      exact Tknown_c fun h6 e6 => H _ (E4.trans e6)
end Go.Proofs.Ytgnmjcljljfldaa
namespace Go.Proofs.Ytgnmjcljljfldaa.tablesRows
open Go.ChangeShapes Go.WideShapes Go.ChangeAt Go.RowKit Go.Joins Go.Vc

theorem own : ownKnob Try.prog.godebug = none := by kernel_rfl
theorem laidOut : laidOutB Try.prog = true := by kernel_rfl

set_option maxRecDepth 100000 in
set_option maxHeartbeats 1000000 in
theorem lifted (os : Os) (started : os.Started) (H : Type) (enc : TypeId × Value → H) :
    ReturnsInHanded {} Try.checked os 3 .any (Rows.tablesRowsSpec.pre6 enc Try.prog Try.f3 Rows.tablesRowsRow.domain false) (Rows.tablesRowsSpec.post enc Try.prog Try.f3 false true false false) := by
  refine returnsInHanded_of_change (C := Try.checked) own started (by kernel_rfl) Try.func3
    (ChangeSpec.witness6 (enc := enc) (C := Try.checked) false ⟨#[], #[.int .i64 0, .slice none 0 0], []⟩ 8 (by kernel_rfl) (by kernel_rfl) (by kernel_rfl) (by kernel_rfl)) ?_
  intro W base args ds gs before hval0 hW hcnd _
  have hval : ∀ (j : Nat) t v, Try.f3.params[j]? = some t → args[j]? = some v → Value.okWide Try.prog W .any base t v := hval0
  have hW' := hW
  obtain ⟨p, q, hA0, hV, rfl, hfz, hnd⟩ := hW
  have hA : DataW.TrodAll enc Try.prog W 0 (fun _ => true) true Try.f3.params.toList args.toList ds p := hA0
  rw [Try.params3] at hA hval
  obtain ⟨v0, vs0, d0, ds0, p0, q0, hargs, rfl, rfl, h0, r0⟩ := trodAll_cons hA
  obtain ⟨v1, vs1, d1, ds1, p1, q1, rfl, rfl, rfl, h1, r1⟩ := trodAll_cons r0
  obtain ⟨rfl, rfl, rfl⟩ := trodAll_nil r1
  obtain rfl : args = #[v0, v1] := by cases args; simp_all
  obtain ⟨b, rfl, _, _, wb⟩ := open_int (k := .i64) (by kernel_rfl) (hval 0 3 v0 rfl rfl) h0
  obtain ⟨v, ws, hv, hF, _⟩ := (Laid.top (hval 1 22 v1 rfl rfl) h1 (by kernel_rfl)).slice (e := 25) (R := fun us (x : Rw) => us = x.cells ∧ x.name.length ≤ maxLen) (by kernel_rfl)
    (fun us hu => by
      obtain ⟨hl, hL⟩ := hu.flds (L := [(9, 0, 1), (3, 1, 1), (3, 2, 1), (2, 3, 1), (3, 4, 1)]) (n := 5) (by kernel_rfl) (by kernel_rfl)
      obtain ⟨c0, c1, c2, c3, c4, rfl⟩ := len5 hl
      obtain ⟨nm, hn, hnl⟩ := (hL 0 _ _ _ rfl).str (by kernel_rfl)
      obtain ⟨g, hg1, -⟩ := (hL 1 _ _ _ rfl).int (k := .i64) (by kernel_rfl)
      obtain ⟨fl, hf1, -⟩ := (hL 2 _ _ _ rfl).int (k := .i64) (by kernel_rfl)
      obtain ⟨p, hp1, -⟩ := (hL 3 _ _ _ rfl).int (k := .i64) (by kernel_rfl)
      obtain ⟨m, hm, -⟩ := (hL 4 _ _ _ rfl).int (k := .i64) (by kernel_rfl)
      obtain rfl : c0 = str nm := by simpa using hn
      obtain rfl : c1 = .int .i64 g := by simpa using hg1
      obtain rfl : c2 = .int .i64 fl := by simpa using hf1
      obtain rfl : c3 = .int .i64 p := by simpa using hp1
      obtain rfl : c4 = .int .i64 m := by simpa using hm
      exact ⟨⟨nm, g, fl, p, m⟩, rfl, hnl⟩)
  obtain rfl : v1 = v := by simpa using hv
  have hS : Rws W.heap v1 ws := Slc.mono hF (fun _ _ => rfl) (fun _ _ h => h.1)
  have hnl : ∀ x ∈ ws, x.name.length < 9223372036854775808 := by
    rcases hF with ⟨-, rfl⟩ | ⟨a, c, -, -, h3⟩
    · simp
    · intro x hx
      obtain ⟨i, hi, rfl⟩ := List.mem_iff_getElem.1 hx
      obtain ⟨us, -, -, -, h4⟩ := h3 i hi
      exact Nat.lt_of_le_of_lt h4 (by decide)
  refine ((TablesRows_c (h := W.heap) hS hnl (K := fun v h' => v = .bool true ∧ Ext W.heap h') (fun h' e => ⟨rfl, e⟩)).out W rfl).mono fun e W' ⟨v, he, hs, hv, hx⟩ => ?_
  exact ⟨v, he, hv ▸ law_post laidOut (by kernel_rfl) rfl (tb := 4) (by kernel_rfl) (by kernel_rfl) hW' (fun hg => by rw [hg]; rfl) (below_of hs hx)⟩

theorem proved : Rows.TablesRowsSaid :=
  OpenClaim.holds_of_wide 3 Try.f3 rfl rfl rfl rfl rfl rfl rfl ⟨rfl, rfl, rfl, rfl, rfl⟩ rfl rfl rfl rfl rfl (by kernel_rfl) Try.func3 (by kernel_rfl)
    (of_decide_eq_true (by kernel_rfl)) (by unfold Func.isWrapper; first | (rw [if_pos (by decide +kernel)]; kernel_rfl) | (rw [if_neg (by decide +kernel)]; exact ⟨rfl, rfl⟩))
    (fun os started H enc _ => lifted os started H enc)
end Go.Proofs.Ytgnmjcljljfldaa.tablesRows

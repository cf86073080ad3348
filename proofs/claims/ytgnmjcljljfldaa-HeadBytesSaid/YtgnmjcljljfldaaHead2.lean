/- Heads: what may be. -/
import Derived.Test.YtgnmjcljljfldaaHead1
import Derived.Test.YtgnmjcljljfldaaVcBool
set_option linter.unusedSimpArgs false
set_option linter.unusedVariables false
namespace Go.Proofs.Ytgnmjcljljfldaa
open Go.Vc
variable {K : Value → Heap → Prop} {h : Heap}

def MayA (x : Hd) : Prop := 9 ≤ x.bits ∧ x.bits ≤ 16 ∧ x.flags ≤ 1 ∧ 0 ≤ x.size ∧ x.size ≤ 67108864 ∧ x.size % 512 = 0
def MayB (x : Hd) : Prop :=
  (0 ≤ x.l1len ∧ x.l1len ≤ 1048576 ∧ x.tables ≤ x.l1len) ∧ (x.l1len = 0 ∧ x.l1 = 0 ∨ 0 < x.l1len ∧ PlaceOk x.l1 x.bits) ∧ (0 ≤ x.order ∧ x.order ≤ 6) ∧
  (PlaceOk x.counts x.bits ∧ 1 ≤ x.clen ∧ x.clen ≤ 65536) ∧ ListOk x.snaps x.sat x.slen x.bits ∧ ListOk x.maps x.mat x.mlen x.bits ∧ (x.back.length ≤ 64 ∧ (0 : UInt8) ∉ x.back)
/-- A head that may be. -/
def MayH (x : Hd) : Prop := MayA x ∧ MayB x
instance (x : Hd) : Decidable (MayA x) := by unfold MayA; infer_instance
instance (x : Hd) : Decidable (MayB x) := by unfold MayB; infer_instance
instance (x : Hd) : Decidable (MayH x) := by unfold MayH; infer_instance

theorem loop7 {h2 : Heap} {bs : List Bool} (hl : bs.length = 7) {kk : Value → Heap → Prop} (H : kk (.bool (bs.all id)) (h2.push (.cells (bs.map Value.bool).toArray 4))) :
    JoinN 1 (fun (k_50 : Value → Heap → Prop) h_92 =>
      LoopC 2 (fun (X : Value → Value → Heap → Prop) => fun ok6 t127 h_93 =>
        Hp Try.prog false (binS .lss 3 (.tmp 127) (.tmp 126) t127 (.int .i64 7)) (fun t128 h_94 =>
          CondP t128 (
            Hp Try.prog false (Instr.indexAt 97 (.slice (some ⟨h2.size, 0, none⟩) 7 7) t127) (fun t129 h_95 =>
              Hp Try.prog false (Instr.loadAt 4 t129) (fun t130 h_96 =>
                Hp Try.prog false (Op.unary .not t130) (fun t132 h_97 =>
                  CondP t132 (
                    k_50 (.bool false) h_97) (
                    Hp Try.prog false (binS .add 3 (.tmp 127) (.const (.int .i64 1)) t127 (.int .i64 1)) (fun t133 h_98 =>
                      X ok6 t133 h_98) h_97 ⟨⟩) ⟨⟩ ⟨⟩) h_96 ⟨⟩) h_95 ⟨⟩) h_94 ⟨⟩) (
            k_50 ok6 h_94) ⟨⟩ ⟨⟩) h_93 ⟨⟩) [(.bool true), (.int .i64 0)] h_92 ⟨⟩)
      (fun ok6_1 h_99 => kk ok6_1 h_99) (h2.push (.cells (bs.map Value.bool).toArray 4)) ⟨⟩ ⟨⟩ := by
  refine JoinN.mk ?_
  have hc : ∀ i (hi : i < 7), hcell (h2.push (.cells (bs.map Value.bool).toArray 4)) (elt ⟨h2.size, 0, none⟩ i) = some (.bool bs[i]) := fun i hi => by
    rw [elt_mk]
    simp [hl, hi]
  generalize h2.push (.cells (bs.map Value.bool).toArray 4) = g at *
  refine loopA2 (fun _ : Nat => .bool true) (fun i => .int .i64 i) (fun i h' => h' = g ∧ i ≤ 7 ∧ ∀ j (hj : j < bs.length), j < i → bs[j] = true) (fun i => 7 - i) 0 ⟨rfl, rfl⟩ ⟨rfl, by omega, fun j _ hj => by omega⟩ ?_
  rintro i h' ⟨rfl, hi, hall⟩
  by_cases hin : i = 7
  · have : bs.all id = true := by
      rw [List.all_eq_true]
      intro b hb
      obtain ⟨j, hj, rfl⟩ := List.mem_iff_getElem.1 hb
      exact hall j hj (by omega)
    rw [this] at H
    simp (disch := omega) [hin]
    exact H
  · have h1 := hc i (by omega)
    cases hb : bs[i] with
    | false =>
      have : bs.all id = false := by
        rw [List.all_eq_false]
        exact ⟨bs[i], List.getElem_mem _, by simp [hb]⟩
      rw [this] at H
      simp (disch := omega) [h1, hb]
      exact H
    | true =>
      simp (disch := omega) [h1, hb]
      refine ⟨i + 1, by simp, ⟨by omega, fun j hj hji => ?_⟩, by omega⟩
      by_cases e : j = i
      · subst e; exact hb
      · exact hall j hj (by omega)
set_option maxHeartbeats 4000000 in
theorem Check_c {x : Hd} (ht : ∀ h', Ext h h' → MayH x → K (.int .i64 0) h') (hf : ∀ h', Ext h h' → ¬ MayH x → K (.int .i64 2) h') : CallsH Try.prog 21 #[x.val] h K ⟨⟩ := by
  refine n21_calls ?_
  unfold n21
  rw [boxH]
  have hA := HdAt.new (h := h) x
  have e1 : Ext h (h.push (.cells x.cells.toArray 47)) := (by repeat' (first | (with_reducible exact Ext.refl _) | (with_reducible assumption) | (with_reducible refine push_ext ?_) | (with_reducible refine hset_ext ?_ ?_) | (with_reducible refine Ext.trans ?_ (by assumption)) | omega | (simp; done) | (simp; omega) | (refine Ext.size ?_) | (refine Nat.le_succ_of_le (Ext.size ?_))))
  have zg : (h.push (.cells x.cells.toArray 47)).size = h.size + 1 := by simp
  generalize h.push (.cells x.cells.toArray 47) = g at *
  by_cases hMA : MayA x
  · obtain ⟨h0, h1, f1, s0, s1, s2⟩ := hMA
    have hMA : MayA x := ⟨h0, h1, f1, s0, s1, s2⟩
    have hc := clus h0 h1
    have hw : IntKind.i64.wrap (2 ^ x.bits.toNat) = 2 ^ x.bits.toNat := wrap_i64 (by omega) (by omega)
    simp (disch := omega) [hA.1, hA.2.1, hA.2.2.1, Hp_shl, IntKind.bits, hw]
    refine (Try.st94 (by rfl)).2 ?_
    simp (disch := omega)
    refine (⟨_, rfl⟩ : ∃ g2, g2 = hset (Array.push (hset (Array.push g (Obj.cells #[Value.int IntKind.i64 0] 2)) { block := g.size, off := 0 } (Value.int IntKind.i64 (2 ^ x.bits.toNat))) (Obj.cells #[Value.nilFunc] 94)) { block := g.size + 1, off := 0 } (Value.func (Fn.func 58) #[] #[Value.pointer (some { block := g.size, off := 0 })])).elim fun g2 eg => ?_
    simp only [← eg]
    have e2 : Ext g g2 := by rw [eg]; exact (by repeat' (first | (with_reducible exact Ext.refl _) | (with_reducible assumption) | (with_reducible refine push_ext ?_) | (with_reducible refine hset_ext ?_ ?_) | (with_reducible refine Ext.trans ?_ (by assumption)) | omega | (simp; done) | (simp; omega) | (refine Ext.size ?_) | (refine Nat.le_succ_of_le (Ext.size ?_))))
    have hA2 := hA.ext e2
    have hc3 : hcell g2 ⟨g.size, 0, none⟩ = some (.int .i64 (2 ^ x.bits.toNat)) := by rw [eg]; simp
    have hp4 : hcell g2 ⟨g.size + 1, 0, none⟩ = some (Value.func (Fn.func 58) #[] #[Value.pointer (some { block := g.size, off := 0 })]) := by rw [eg]; simp
    have E2 := e1.trans e2
    clear eg
    clear hA
    refine JoinN_in1 (fun w g' => w = .bool (decide (MayB x)) ∧ Ext h g') (fun kk hkk => ?_) (fun w g' hx => ?_)
    · have fo : ∀ {b : Bool} {J : Value → Heap → Prop} {g : Heap} {B : Nat}, Join1 (fun k h => guardP (.bool b) true (Hp Try.prog true (Instr.fieldAt 47 (.pointer (some ⟨B, 0, none⟩)) 5) k h ⟨⟩) (k undef h) ⟨⟩ ⟨⟩) J g ⟨⟩ ⟨⟩ ↔ J (gv b true (.pointer (some ⟨B, 5, none⟩))) g := by
        intro b J g B; cases b <;> simp [gv]
      have fc : ∀ {b : Bool} {J : Value → Heap → Prop} {g : Heap} {B : Nat}, Join1 (fun k h => guardP (.bool b) true (Hp Try.prog true (Instr.fieldAt 47 (.pointer (some ⟨B, 0, none⟩)) 7) k h ⟨⟩) (k undef h) ⟨⟩ ⟨⟩) J g ⟨⟩ ⟨⟩ ↔ J (gv b true (.pointer (some ⟨B, 7, none⟩))) g := by
        intro b J g B; cases b <;> simp [gv]
      obtain ⟨a0, a1, a2, a3, a4, a5, a6, a7, a8, a9, a10, a11, a12, a13, a14⟩ := id hA2
      by_cases bl : x.back.length ≤ 64
      · by_cases l0 : 0 ≤ x.l1len
        · by_cases l2 : x.l1len ≤ 1048576
          · by_cases lz : x.l1len = 0
            · by_cases l1z : x.l1 = 0
              · skip
                simp (disch := omega) [-Hp_eql_s, -Hp_lss_s, -Hp_leq_s, -Hp_gtr_s, -Hp_geq_s, -Split_yes, -Split_no, eql_t, eql_f, leq_t, leq_f, geq_t, geq_f, gtr_t, gtr_f, Hp_eql, Hp_lss, Hp_leq, Hp_gtr, Hp_geq, gLeq, gGeq, gAnd, fo, fc, a0, a2, a3, a4, a5, a6, a7, a8, a9, a10, a11, a12, a13, a14, hc3, hp4, loadH hA2]
                refine tables_c h0 h1 s0 s1 fun h2 e3 => ?_
                have hA3 := hA2.ext e3
                obtain ⟨b0, b1, b2, b3, b4, b5, b6, b7, b8, b9, b10, b11, b12, b13, b14⟩ := id hA3
                have hb3 := hcell_ext e3 hc3
                have hq4 := hcell_ext e3 hp4
                have lo : ∀ {b : Bool} {J : Value → Heap → Prop}, Join1 (fun k h' => guardP (.bool b) true (Hp Try.prog true (Instr.loadAt 3 (gv b true (.pointer (some ⟨h.size, 5, none⟩)))) k h' ⟨⟩) (k undef h') ⟨⟩ ⟨⟩) J h2 ⟨⟩ ⟨⟩ ↔ J (gv b true (.int .i64 x.order)) h2 := by
                  intro b J; cases b <;> simp [gv, b5]
                have lc : ∀ {b : Bool} {J : Value → Heap → Prop}, Join1 (fun k h' => guardP (.bool b) true (Hp Try.prog true (Instr.loadAt 3 (gv b true (.pointer (some ⟨h.size, 7, none⟩)))) k h' ⟨⟩) (k undef h') ⟨⟩ ⟨⟩) J h2 ⟨⟩ ⟨⟩ ↔ J (gv b true (.int .i64 x.clen)) h2 := by
                  intro b J; cases b <;> simp [gv, b7]
                simp (disch := omega) [-Hp_eql_s, -Hp_lss_s, -Hp_leq_s, -Hp_gtr_s, -Hp_geq_s, -Split_yes, -Split_no, eql_t, eql_f, leq_t, leq_f, geq_t, geq_f, gtr_t, gtr_f, Hp_eql, Hp_lss, Hp_leq, Hp_gtr, Hp_geq, gLeq, gGeq, gAnd, fo, fc, lo, lc, b0, b2, b3, b4, b5, b6, b7, b8, b9, b10, b11, b12, b13, b14, hb3, hq4]
                refine InvokeH_func (by kernel_rfl) ?_
                refine placeH_c h0 h1 hb3 ?_
                simp (disch := omega) [-Hp_eql_s, -Hp_lss_s, -Hp_leq_s, -Hp_gtr_s, -Hp_geq_s, -Split_yes, -Split_no, eql_t, eql_f, leq_t, leq_f, geq_t, geq_f, gtr_t, gtr_f, Hp_eql, Hp_lss, Hp_leq, Hp_gtr, Hp_geq, gLeq, gGeq, gAnd, fo, fc, lo, lc, b0, b2, b3, b4, b5, b6, b7, b8, b9, b10, b11, b12, b13, b14, hb3, hq4]
                refine InvokeH_func (by kernel_rfl) ?_
                refine listH_c h0 h1 hb3 hq4 ?_
                simp (disch := omega) [-Hp_eql_s, -Hp_lss_s, -Hp_leq_s, -Hp_gtr_s, -Hp_geq_s, -Split_yes, -Split_no, eql_t, eql_f, leq_t, leq_f, geq_t, geq_f, gtr_t, gtr_f, Hp_eql, Hp_lss, Hp_leq, Hp_gtr, Hp_geq, gLeq, gGeq, gAnd, fo, fc, lo, lc, b0, b2, b3, b4, b5, b6, b7, b8, b9, b10, b11, b12, b13, b14, hb3, hq4]
                refine InvokeH_func (by kernel_rfl) ?_
                refine listH_c h0 h1 hb3 hq4 ?_
                simp (disch := omega) [-Hp_eql_s, -Hp_lss_s, -Hp_leq_s, -Hp_gtr_s, -Hp_geq_s, -Split_yes, -Split_no, eql_t, eql_f, leq_t, leq_f, geq_t, geq_f, gtr_t, gtr_f, Hp_eql, Hp_lss, Hp_leq, Hp_gtr, Hp_geq, gLeq, gGeq, gAnd, fo, fc, lo, lc, b0, b2, b3, b4, b5, b6, b7, b8, b9, b10, b11, b12, b13, b14, hb3, hq4]
                refine Contains0_c ?_
                simp (disch := omega) [-Hp_eql_s, -Hp_lss_s, -Hp_leq_s, -Hp_gtr_s, -Hp_geq_s, -Split_yes, -Split_no, eql_t, eql_f, leq_t, leq_f, geq_t, geq_f, gtr_t, gtr_f, Hp_eql, Hp_lss, Hp_leq, Hp_gtr, Hp_geq, gLeq, gGeq, gAnd, fo, fc, lo, lc, b0, b2, b3, b4, b5, b6, b7, b8, b9, b10, b11, b12, b13, b14, hb3, hq4]
                refine loop7 (h2 := h2) (bs := [_, _, _, _, _, _, _]) rfl (hkk _ _ ⟨?_, E2.trans (Ext.trans (e3) (by repeat' (first | (with_reducible exact Ext.refl _) | (with_reducible assumption) | (with_reducible refine push_ext ?_) | (with_reducible refine hset_ext ?_ ?_) | (with_reducible refine Ext.trans ?_ (by assumption)) | omega | (simp; done) | (simp; omega) | (refine Ext.size ?_) | (refine Nat.le_succ_of_le (Ext.size ?_)))))⟩)
                congr 1
                unfold MayB
                simp [l0, l2, lz, l1z, bl, Bool.and_assoc]
              · skip
                simp (disch := omega) [-Hp_eql_s, -Hp_lss_s, -Hp_leq_s, -Hp_gtr_s, -Hp_geq_s, -Split_yes, -Split_no, eql_t, eql_f, leq_t, leq_f, geq_t, geq_f, gtr_t, gtr_f, Hp_eql, Hp_lss, Hp_leq, Hp_gtr, Hp_geq, gLeq, gGeq, gAnd, fo, fc, a0, a2, a3, a4, a5, a6, a7, a8, a9, a10, a11, a12, a13, a14, hc3, hp4, loadH hA2]
                refine tables_c h0 h1 s0 s1 fun h2 e3 => ?_
                have hA3 := hA2.ext e3
                obtain ⟨b0, b1, b2, b3, b4, b5, b6, b7, b8, b9, b10, b11, b12, b13, b14⟩ := id hA3
                have hb3 := hcell_ext e3 hc3
                have hq4 := hcell_ext e3 hp4
                have lo : ∀ {b : Bool} {J : Value → Heap → Prop}, Join1 (fun k h' => guardP (.bool b) true (Hp Try.prog true (Instr.loadAt 3 (gv b true (.pointer (some ⟨h.size, 5, none⟩)))) k h' ⟨⟩) (k undef h') ⟨⟩ ⟨⟩) J h2 ⟨⟩ ⟨⟩ ↔ J (gv b true (.int .i64 x.order)) h2 := by
                  intro b J; cases b <;> simp [gv, b5]
                have lc : ∀ {b : Bool} {J : Value → Heap → Prop}, Join1 (fun k h' => guardP (.bool b) true (Hp Try.prog true (Instr.loadAt 3 (gv b true (.pointer (some ⟨h.size, 7, none⟩)))) k h' ⟨⟩) (k undef h') ⟨⟩ ⟨⟩) J h2 ⟨⟩ ⟨⟩ ↔ J (gv b true (.int .i64 x.clen)) h2 := by
                  intro b J; cases b <;> simp [gv, b7]
                simp (disch := omega) [-Hp_eql_s, -Hp_lss_s, -Hp_leq_s, -Hp_gtr_s, -Hp_geq_s, -Split_yes, -Split_no, eql_t, eql_f, leq_t, leq_f, geq_t, geq_f, gtr_t, gtr_f, Hp_eql, Hp_lss, Hp_leq, Hp_gtr, Hp_geq, gLeq, gGeq, gAnd, fo, fc, lo, lc, b0, b2, b3, b4, b5, b6, b7, b8, b9, b10, b11, b12, b13, b14, hb3, hq4]
                refine InvokeH_func (by kernel_rfl) ?_
                refine placeH_c h0 h1 hb3 ?_
                simp (disch := omega) [-Hp_eql_s, -Hp_lss_s, -Hp_leq_s, -Hp_gtr_s, -Hp_geq_s, -Split_yes, -Split_no, eql_t, eql_f, leq_t, leq_f, geq_t, geq_f, gtr_t, gtr_f, Hp_eql, Hp_lss, Hp_leq, Hp_gtr, Hp_geq, gLeq, gGeq, gAnd, fo, fc, lo, lc, b0, b2, b3, b4, b5, b6, b7, b8, b9, b10, b11, b12, b13, b14, hb3, hq4]
                refine InvokeH_func (by kernel_rfl) ?_
                refine listH_c h0 h1 hb3 hq4 ?_
                simp (disch := omega) [-Hp_eql_s, -Hp_lss_s, -Hp_leq_s, -Hp_gtr_s, -Hp_geq_s, -Split_yes, -Split_no, eql_t, eql_f, leq_t, leq_f, geq_t, geq_f, gtr_t, gtr_f, Hp_eql, Hp_lss, Hp_leq, Hp_gtr, Hp_geq, gLeq, gGeq, gAnd, fo, fc, lo, lc, b0, b2, b3, b4, b5, b6, b7, b8, b9, b10, b11, b12, b13, b14, hb3, hq4]
                refine InvokeH_func (by kernel_rfl) ?_
                refine listH_c h0 h1 hb3 hq4 ?_
                simp (disch := omega) [-Hp_eql_s, -Hp_lss_s, -Hp_leq_s, -Hp_gtr_s, -Hp_geq_s, -Split_yes, -Split_no, eql_t, eql_f, leq_t, leq_f, geq_t, geq_f, gtr_t, gtr_f, Hp_eql, Hp_lss, Hp_leq, Hp_gtr, Hp_geq, gLeq, gGeq, gAnd, fo, fc, lo, lc, b0, b2, b3, b4, b5, b6, b7, b8, b9, b10, b11, b12, b13, b14, hb3, hq4]
                refine Contains0_c ?_
                simp (disch := omega) [-Hp_eql_s, -Hp_lss_s, -Hp_leq_s, -Hp_gtr_s, -Hp_geq_s, -Split_yes, -Split_no, eql_t, eql_f, leq_t, leq_f, geq_t, geq_f, gtr_t, gtr_f, Hp_eql, Hp_lss, Hp_leq, Hp_gtr, Hp_geq, gLeq, gGeq, gAnd, fo, fc, lo, lc, b0, b2, b3, b4, b5, b6, b7, b8, b9, b10, b11, b12, b13, b14, hb3, hq4]
                refine loop7 (h2 := h2) (bs := [_, _, _, _, _, _, _]) rfl (hkk _ _ ⟨?_, E2.trans (Ext.trans (e3) (by repeat' (first | (with_reducible exact Ext.refl _) | (with_reducible assumption) | (with_reducible refine push_ext ?_) | (with_reducible refine hset_ext ?_ ?_) | (with_reducible refine Ext.trans ?_ (by assumption)) | omega | (simp; done) | (simp; omega) | (refine Ext.size ?_) | (refine Nat.le_succ_of_le (Ext.size ?_)))))⟩)
                congr 1
                unfold MayB
                simp [l0, l2, lz, l1z, bl, Bool.and_assoc]
            · have lp : 0 < x.l1len := by omega
              simp (disch := omega) [-Hp_eql_s, -Hp_lss_s, -Hp_leq_s, -Hp_gtr_s, -Hp_geq_s, -Split_yes, -Split_no, eql_t, eql_f, leq_t, leq_f, geq_t, geq_f, gtr_t, gtr_f, Hp_eql, Hp_lss, Hp_leq, Hp_gtr, Hp_geq, gLeq, gGeq, gAnd, fo, fc, a0, a2, a3, a4, a5, a6, a7, a8, a9, a10, a11, a12, a13, a14, hc3, hp4, loadH hA2]
              refine tables_c h0 h1 s0 s1 fun h2 e3 => ?_
              have hA3 := hA2.ext e3
              obtain ⟨b0, b1, b2, b3, b4, b5, b6, b7, b8, b9, b10, b11, b12, b13, b14⟩ := id hA3
              have hb3 := hcell_ext e3 hc3
              have hq4 := hcell_ext e3 hp4
              have lo : ∀ {b : Bool} {J : Value → Heap → Prop}, Join1 (fun k h' => guardP (.bool b) true (Hp Try.prog true (Instr.loadAt 3 (gv b true (.pointer (some ⟨h.size, 5, none⟩)))) k h' ⟨⟩) (k undef h') ⟨⟩ ⟨⟩) J h2 ⟨⟩ ⟨⟩ ↔ J (gv b true (.int .i64 x.order)) h2 := by
                intro b J; cases b <;> simp [gv, b5]
              have lc : ∀ {b : Bool} {J : Value → Heap → Prop}, Join1 (fun k h' => guardP (.bool b) true (Hp Try.prog true (Instr.loadAt 3 (gv b true (.pointer (some ⟨h.size, 7, none⟩)))) k h' ⟨⟩) (k undef h') ⟨⟩ ⟨⟩) J h2 ⟨⟩ ⟨⟩ ↔ J (gv b true (.int .i64 x.clen)) h2 := by
                intro b J; cases b <;> simp [gv, b7]
              simp (disch := omega) [-Hp_eql_s, -Hp_lss_s, -Hp_leq_s, -Hp_gtr_s, -Hp_geq_s, -Split_yes, -Split_no, eql_t, eql_f, leq_t, leq_f, geq_t, geq_f, gtr_t, gtr_f, Hp_eql, Hp_lss, Hp_leq, Hp_gtr, Hp_geq, gLeq, gGeq, gAnd, fo, fc, lo, lc, b0, b2, b3, b4, b5, b6, b7, b8, b9, b10, b11, b12, b13, b14, hb3, hq4]
              refine InvokeH_func (by kernel_rfl) ?_
              refine placeH_c h0 h1 hb3 ?_
              simp (disch := omega) [-Hp_eql_s, -Hp_lss_s, -Hp_leq_s, -Hp_gtr_s, -Hp_geq_s, -Split_yes, -Split_no, eql_t, eql_f, leq_t, leq_f, geq_t, geq_f, gtr_t, gtr_f, Hp_eql, Hp_lss, Hp_leq, Hp_gtr, Hp_geq, gLeq, gGeq, gAnd, fo, fc, lo, lc, b0, b2, b3, b4, b5, b6, b7, b8, b9, b10, b11, b12, b13, b14, hb3, hq4]
              refine InvokeH_func (by kernel_rfl) ?_
              refine placeH_c h0 h1 hb3 ?_
              simp (disch := omega) [-Hp_eql_s, -Hp_lss_s, -Hp_leq_s, -Hp_gtr_s, -Hp_geq_s, -Split_yes, -Split_no, eql_t, eql_f, leq_t, leq_f, geq_t, geq_f, gtr_t, gtr_f, Hp_eql, Hp_lss, Hp_leq, Hp_gtr, Hp_geq, gLeq, gGeq, gAnd, fo, fc, lo, lc, b0, b2, b3, b4, b5, b6, b7, b8, b9, b10, b11, b12, b13, b14, hb3, hq4]
              refine InvokeH_func (by kernel_rfl) ?_
              refine listH_c h0 h1 hb3 hq4 ?_
              simp (disch := omega) [-Hp_eql_s, -Hp_lss_s, -Hp_leq_s, -Hp_gtr_s, -Hp_geq_s, -Split_yes, -Split_no, eql_t, eql_f, leq_t, leq_f, geq_t, geq_f, gtr_t, gtr_f, Hp_eql, Hp_lss, Hp_leq, Hp_gtr, Hp_geq, gLeq, gGeq, gAnd, fo, fc, lo, lc, b0, b2, b3, b4, b5, b6, b7, b8, b9, b10, b11, b12, b13, b14, hb3, hq4]
              refine InvokeH_func (by kernel_rfl) ?_
              refine listH_c h0 h1 hb3 hq4 ?_
              simp (disch := omega) [-Hp_eql_s, -Hp_lss_s, -Hp_leq_s, -Hp_gtr_s, -Hp_geq_s, -Split_yes, -Split_no, eql_t, eql_f, leq_t, leq_f, geq_t, geq_f, gtr_t, gtr_f, Hp_eql, Hp_lss, Hp_leq, Hp_gtr, Hp_geq, gLeq, gGeq, gAnd, fo, fc, lo, lc, b0, b2, b3, b4, b5, b6, b7, b8, b9, b10, b11, b12, b13, b14, hb3, hq4]
              refine Contains0_c ?_
              simp (disch := omega) [-Hp_eql_s, -Hp_lss_s, -Hp_leq_s, -Hp_gtr_s, -Hp_geq_s, -Split_yes, -Split_no, eql_t, eql_f, leq_t, leq_f, geq_t, geq_f, gtr_t, gtr_f, Hp_eql, Hp_lss, Hp_leq, Hp_gtr, Hp_geq, gLeq, gGeq, gAnd, fo, fc, lo, lc, b0, b2, b3, b4, b5, b6, b7, b8, b9, b10, b11, b12, b13, b14, hb3, hq4]
              refine loop7 (h2 := h2) (bs := [_, _, _, _, _, _, _]) rfl (hkk _ _ ⟨?_, E2.trans (Ext.trans (e3) (by repeat' (first | (with_reducible exact Ext.refl _) | (with_reducible assumption) | (with_reducible refine push_ext ?_) | (with_reducible refine hset_ext ?_ ?_) | (with_reducible refine Ext.trans ?_ (by assumption)) | omega | (simp; done) | (simp; omega) | (refine Ext.size ?_) | (refine Nat.le_succ_of_le (Ext.size ?_)))))⟩)
              congr 1
              unfold MayB
              simp [l0, l2, lz, lp, bl, Bool.and_assoc]
          · have lp : 0 < x.l1len := by omega
            have lz : ¬ x.l1len = 0 := by omega
            have hA3 := hA2.ext (Ext.refl g2)
            obtain ⟨b0, b1, b2, b3, b4, b5, b6, b7, b8, b9, b10, b11, b12, b13, b14⟩ := id hA3
            have hb3 := hcell_ext (Ext.refl g2) hc3
            have hq4 := hcell_ext (Ext.refl g2) hp4
            have lo : ∀ {b : Bool} {J : Value → Heap → Prop}, Join1 (fun k h' => guardP (.bool b) true (Hp Try.prog true (Instr.loadAt 3 (gv b true (.pointer (some ⟨h.size, 5, none⟩)))) k h' ⟨⟩) (k undef h') ⟨⟩ ⟨⟩) J g2 ⟨⟩ ⟨⟩ ↔ J (gv b true (.int .i64 x.order)) g2 := by
              intro b J; cases b <;> simp [gv, b5]
            have lc : ∀ {b : Bool} {J : Value → Heap → Prop}, Join1 (fun k h' => guardP (.bool b) true (Hp Try.prog true (Instr.loadAt 3 (gv b true (.pointer (some ⟨h.size, 7, none⟩)))) k h' ⟨⟩) (k undef h') ⟨⟩ ⟨⟩) J g2 ⟨⟩ ⟨⟩ ↔ J (gv b true (.int .i64 x.clen)) g2 := by
              intro b J; cases b <;> simp [gv, b7]
            simp (disch := omega) [-Hp_eql_s, -Hp_lss_s, -Hp_leq_s, -Hp_gtr_s, -Hp_geq_s, -Split_yes, -Split_no, eql_t, eql_f, leq_t, leq_f, geq_t, geq_f, gtr_t, gtr_f, Hp_eql, Hp_lss, Hp_leq, Hp_gtr, Hp_geq, gLeq, gGeq, gAnd, fo, fc, lo, lc, b0, b2, b3, b4, b5, b6, b7, b8, b9, b10, b11, b12, b13, b14, hb3, hq4]
            refine InvokeH_func (by kernel_rfl) ?_
            refine placeH_c h0 h1 hb3 ?_
            simp (disch := omega) [-Hp_eql_s, -Hp_lss_s, -Hp_leq_s, -Hp_gtr_s, -Hp_geq_s, -Split_yes, -Split_no, eql_t, eql_f, leq_t, leq_f, geq_t, geq_f, gtr_t, gtr_f, Hp_eql, Hp_lss, Hp_leq, Hp_gtr, Hp_geq, gLeq, gGeq, gAnd, fo, fc, lo, lc, b0, b2, b3, b4, b5, b6, b7, b8, b9, b10, b11, b12, b13, b14, hb3, hq4]
            refine InvokeH_func (by kernel_rfl) ?_
            refine placeH_c h0 h1 hb3 ?_
            simp (disch := omega) [-Hp_eql_s, -Hp_lss_s, -Hp_leq_s, -Hp_gtr_s, -Hp_geq_s, -Split_yes, -Split_no, eql_t, eql_f, leq_t, leq_f, geq_t, geq_f, gtr_t, gtr_f, Hp_eql, Hp_lss, Hp_leq, Hp_gtr, Hp_geq, gLeq, gGeq, gAnd, fo, fc, lo, lc, b0, b2, b3, b4, b5, b6, b7, b8, b9, b10, b11, b12, b13, b14, hb3, hq4]
            refine InvokeH_func (by kernel_rfl) ?_
            refine listH_c h0 h1 hb3 hq4 ?_
            simp (disch := omega) [-Hp_eql_s, -Hp_lss_s, -Hp_leq_s, -Hp_gtr_s, -Hp_geq_s, -Split_yes, -Split_no, eql_t, eql_f, leq_t, leq_f, geq_t, geq_f, gtr_t, gtr_f, Hp_eql, Hp_lss, Hp_leq, Hp_gtr, Hp_geq, gLeq, gGeq, gAnd, fo, fc, lo, lc, b0, b2, b3, b4, b5, b6, b7, b8, b9, b10, b11, b12, b13, b14, hb3, hq4]
            refine InvokeH_func (by kernel_rfl) ?_
            refine listH_c h0 h1 hb3 hq4 ?_
            simp (disch := omega) [-Hp_eql_s, -Hp_lss_s, -Hp_leq_s, -Hp_gtr_s, -Hp_geq_s, -Split_yes, -Split_no, eql_t, eql_f, leq_t, leq_f, geq_t, geq_f, gtr_t, gtr_f, Hp_eql, Hp_lss, Hp_leq, Hp_gtr, Hp_geq, gLeq, gGeq, gAnd, fo, fc, lo, lc, b0, b2, b3, b4, b5, b6, b7, b8, b9, b10, b11, b12, b13, b14, hb3, hq4]
            refine Contains0_c ?_
            simp (disch := omega) [-Hp_eql_s, -Hp_lss_s, -Hp_leq_s, -Hp_gtr_s, -Hp_geq_s, -Split_yes, -Split_no, eql_t, eql_f, leq_t, leq_f, geq_t, geq_f, gtr_t, gtr_f, Hp_eql, Hp_lss, Hp_leq, Hp_gtr, Hp_geq, gLeq, gGeq, gAnd, fo, fc, lo, lc, b0, b2, b3, b4, b5, b6, b7, b8, b9, b10, b11, b12, b13, b14, hb3, hq4]
            refine loop7 (h2 := g2) (bs := [_, _, _, _, _, _, _]) rfl (hkk _ _ ⟨?_, E2.trans (Ext.trans (Ext.refl g2) (by repeat' (first | (with_reducible exact Ext.refl _) | (with_reducible assumption) | (with_reducible refine push_ext ?_) | (with_reducible refine hset_ext ?_ ?_) | (with_reducible refine Ext.trans ?_ (by assumption)) | omega | (simp; done) | (simp; omega) | (refine Ext.size ?_) | (refine Nat.le_succ_of_le (Ext.size ?_)))))⟩)
            congr 1
            unfold MayB
            simp [l0, l2, lz, lp, bl, Bool.and_assoc]
        · have lp : ¬ 0 < x.l1len := by omega
          have lz : ¬ x.l1len = 0 := by omega
          have hA3 := hA2.ext (Ext.refl g2)
          obtain ⟨b0, b1, b2, b3, b4, b5, b6, b7, b8, b9, b10, b11, b12, b13, b14⟩ := id hA3
          have hb3 := hcell_ext (Ext.refl g2) hc3
          have hq4 := hcell_ext (Ext.refl g2) hp4
          have lo : ∀ {b : Bool} {J : Value → Heap → Prop}, Join1 (fun k h' => guardP (.bool b) true (Hp Try.prog true (Instr.loadAt 3 (gv b true (.pointer (some ⟨h.size, 5, none⟩)))) k h' ⟨⟩) (k undef h') ⟨⟩ ⟨⟩) J g2 ⟨⟩ ⟨⟩ ↔ J (gv b true (.int .i64 x.order)) g2 := by
            intro b J; cases b <;> simp [gv, b5]
          have lc : ∀ {b : Bool} {J : Value → Heap → Prop}, Join1 (fun k h' => guardP (.bool b) true (Hp Try.prog true (Instr.loadAt 3 (gv b true (.pointer (some ⟨h.size, 7, none⟩)))) k h' ⟨⟩) (k undef h') ⟨⟩ ⟨⟩) J g2 ⟨⟩ ⟨⟩ ↔ J (gv b true (.int .i64 x.clen)) g2 := by
            intro b J; cases b <;> simp [gv, b7]
          simp (disch := omega) [-Hp_eql_s, -Hp_lss_s, -Hp_leq_s, -Hp_gtr_s, -Hp_geq_s, -Split_yes, -Split_no, eql_t, eql_f, leq_t, leq_f, geq_t, geq_f, gtr_t, gtr_f, Hp_eql, Hp_lss, Hp_leq, Hp_gtr, Hp_geq, gLeq, gGeq, gAnd, fo, fc, lo, lc, b0, b2, b3, b4, b5, b6, b7, b8, b9, b10, b11, b12, b13, b14, hb3, hq4]
          refine InvokeH_func (by kernel_rfl) ?_
          refine placeH_c h0 h1 hb3 ?_
          simp (disch := omega) [-Hp_eql_s, -Hp_lss_s, -Hp_leq_s, -Hp_gtr_s, -Hp_geq_s, -Split_yes, -Split_no, eql_t, eql_f, leq_t, leq_f, geq_t, geq_f, gtr_t, gtr_f, Hp_eql, Hp_lss, Hp_leq, Hp_gtr, Hp_geq, gLeq, gGeq, gAnd, fo, fc, lo, lc, b0, b2, b3, b4, b5, b6, b7, b8, b9, b10, b11, b12, b13, b14, hb3, hq4]
          refine InvokeH_func (by kernel_rfl) ?_
          refine listH_c h0 h1 hb3 hq4 ?_
          simp (disch := omega) [-Hp_eql_s, -Hp_lss_s, -Hp_leq_s, -Hp_gtr_s, -Hp_geq_s, -Split_yes, -Split_no, eql_t, eql_f, leq_t, leq_f, geq_t, geq_f, gtr_t, gtr_f, Hp_eql, Hp_lss, Hp_leq, Hp_gtr, Hp_geq, gLeq, gGeq, gAnd, fo, fc, lo, lc, b0, b2, b3, b4, b5, b6, b7, b8, b9, b10, b11, b12, b13, b14, hb3, hq4]
          refine InvokeH_func (by kernel_rfl) ?_
          refine listH_c h0 h1 hb3 hq4 ?_
          simp (disch := omega) [-Hp_eql_s, -Hp_lss_s, -Hp_leq_s, -Hp_gtr_s, -Hp_geq_s, -Split_yes, -Split_no, eql_t, eql_f, leq_t, leq_f, geq_t, geq_f, gtr_t, gtr_f, Hp_eql, Hp_lss, Hp_leq, Hp_gtr, Hp_geq, gLeq, gGeq, gAnd, fo, fc, lo, lc, b0, b2, b3, b4, b5, b6, b7, b8, b9, b10, b11, b12, b13, b14, hb3, hq4]
          refine Contains0_c ?_
          simp (disch := omega) [-Hp_eql_s, -Hp_lss_s, -Hp_leq_s, -Hp_gtr_s, -Hp_geq_s, -Split_yes, -Split_no, eql_t, eql_f, leq_t, leq_f, geq_t, geq_f, gtr_t, gtr_f, Hp_eql, Hp_lss, Hp_leq, Hp_gtr, Hp_geq, gLeq, gGeq, gAnd, fo, fc, lo, lc, b0, b2, b3, b4, b5, b6, b7, b8, b9, b10, b11, b12, b13, b14, hb3, hq4]
          refine loop7 (h2 := g2) (bs := [_, _, _, _, _, _, _]) rfl (hkk _ _ ⟨?_, E2.trans (Ext.trans (Ext.refl g2) (by repeat' (first | (with_reducible exact Ext.refl _) | (with_reducible assumption) | (with_reducible refine push_ext ?_) | (with_reducible refine hset_ext ?_ ?_) | (with_reducible refine Ext.trans ?_ (by assumption)) | omega | (simp; done) | (simp; omega) | (refine Ext.size ?_) | (refine Nat.le_succ_of_le (Ext.size ?_)))))⟩)
          congr 1
          unfold MayB
          simp [l0, lz, lp, bl, Bool.and_assoc]
      · by_cases l0 : 0 ≤ x.l1len
        · by_cases l2 : x.l1len ≤ 1048576
          · by_cases lz : x.l1len = 0
            · by_cases l1z : x.l1 = 0
              · skip
                simp (disch := omega) [-Hp_eql_s, -Hp_lss_s, -Hp_leq_s, -Hp_gtr_s, -Hp_geq_s, -Split_yes, -Split_no, eql_t, eql_f, leq_t, leq_f, geq_t, geq_f, gtr_t, gtr_f, Hp_eql, Hp_lss, Hp_leq, Hp_gtr, Hp_geq, gLeq, gGeq, gAnd, fo, fc, a0, a2, a3, a4, a5, a6, a7, a8, a9, a10, a11, a12, a13, a14, hc3, hp4, loadH hA2]
                refine tables_c h0 h1 s0 s1 fun h2 e3 => ?_
                have hA3 := hA2.ext e3
                obtain ⟨b0, b1, b2, b3, b4, b5, b6, b7, b8, b9, b10, b11, b12, b13, b14⟩ := id hA3
                have hb3 := hcell_ext e3 hc3
                have hq4 := hcell_ext e3 hp4
                have lo : ∀ {b : Bool} {J : Value → Heap → Prop}, Join1 (fun k h' => guardP (.bool b) true (Hp Try.prog true (Instr.loadAt 3 (gv b true (.pointer (some ⟨h.size, 5, none⟩)))) k h' ⟨⟩) (k undef h') ⟨⟩ ⟨⟩) J h2 ⟨⟩ ⟨⟩ ↔ J (gv b true (.int .i64 x.order)) h2 := by
                  intro b J; cases b <;> simp [gv, b5]
                have lc : ∀ {b : Bool} {J : Value → Heap → Prop}, Join1 (fun k h' => guardP (.bool b) true (Hp Try.prog true (Instr.loadAt 3 (gv b true (.pointer (some ⟨h.size, 7, none⟩)))) k h' ⟨⟩) (k undef h') ⟨⟩ ⟨⟩) J h2 ⟨⟩ ⟨⟩ ↔ J (gv b true (.int .i64 x.clen)) h2 := by
                  intro b J; cases b <;> simp [gv, b7]
                simp (disch := omega) [-Hp_eql_s, -Hp_lss_s, -Hp_leq_s, -Hp_gtr_s, -Hp_geq_s, -Split_yes, -Split_no, eql_t, eql_f, leq_t, leq_f, geq_t, geq_f, gtr_t, gtr_f, Hp_eql, Hp_lss, Hp_leq, Hp_gtr, Hp_geq, gLeq, gGeq, gAnd, fo, fc, lo, lc, b0, b2, b3, b4, b5, b6, b7, b8, b9, b10, b11, b12, b13, b14, hb3, hq4]
                refine InvokeH_func (by kernel_rfl) ?_
                refine placeH_c h0 h1 hb3 ?_
                simp (disch := omega) [-Hp_eql_s, -Hp_lss_s, -Hp_leq_s, -Hp_gtr_s, -Hp_geq_s, -Split_yes, -Split_no, eql_t, eql_f, leq_t, leq_f, geq_t, geq_f, gtr_t, gtr_f, Hp_eql, Hp_lss, Hp_leq, Hp_gtr, Hp_geq, gLeq, gGeq, gAnd, fo, fc, lo, lc, b0, b2, b3, b4, b5, b6, b7, b8, b9, b10, b11, b12, b13, b14, hb3, hq4]
                refine InvokeH_func (by kernel_rfl) ?_
                refine listH_c h0 h1 hb3 hq4 ?_
                simp (disch := omega) [-Hp_eql_s, -Hp_lss_s, -Hp_leq_s, -Hp_gtr_s, -Hp_geq_s, -Split_yes, -Split_no, eql_t, eql_f, leq_t, leq_f, geq_t, geq_f, gtr_t, gtr_f, Hp_eql, Hp_lss, Hp_leq, Hp_gtr, Hp_geq, gLeq, gGeq, gAnd, fo, fc, lo, lc, b0, b2, b3, b4, b5, b6, b7, b8, b9, b10, b11, b12, b13, b14, hb3, hq4]
                refine InvokeH_func (by kernel_rfl) ?_
                refine listH_c h0 h1 hb3 hq4 ?_
                simp (disch := omega) [-Hp_eql_s, -Hp_lss_s, -Hp_leq_s, -Hp_gtr_s, -Hp_geq_s, -Split_yes, -Split_no, eql_t, eql_f, leq_t, leq_f, geq_t, geq_f, gtr_t, gtr_f, Hp_eql, Hp_lss, Hp_leq, Hp_gtr, Hp_geq, gLeq, gGeq, gAnd, fo, fc, lo, lc, b0, b2, b3, b4, b5, b6, b7, b8, b9, b10, b11, b12, b13, b14, hb3, hq4]
                refine loop7 (h2 := h2) (bs := [_, _, _, _, _, _, _]) rfl (hkk _ _ ⟨?_, E2.trans (Ext.trans (e3) (by repeat' (first | (with_reducible exact Ext.refl _) | (with_reducible assumption) | (with_reducible refine push_ext ?_) | (with_reducible refine hset_ext ?_ ?_) | (with_reducible refine Ext.trans ?_ (by assumption)) | omega | (simp; done) | (simp; omega) | (refine Ext.size ?_) | (refine Nat.le_succ_of_le (Ext.size ?_)))))⟩)
                congr 1
                unfold MayB
                simp [l0, l2, lz, l1z, bl, Bool.and_assoc]
              · skip
                simp (disch := omega) [-Hp_eql_s, -Hp_lss_s, -Hp_leq_s, -Hp_gtr_s, -Hp_geq_s, -Split_yes, -Split_no, eql_t, eql_f, leq_t, leq_f, geq_t, geq_f, gtr_t, gtr_f, Hp_eql, Hp_lss, Hp_leq, Hp_gtr, Hp_geq, gLeq, gGeq, gAnd, fo, fc, a0, a2, a3, a4, a5, a6, a7, a8, a9, a10, a11, a12, a13, a14, hc3, hp4, loadH hA2]
                refine tables_c h0 h1 s0 s1 fun h2 e3 => ?_
                have hA3 := hA2.ext e3
                obtain ⟨b0, b1, b2, b3, b4, b5, b6, b7, b8, b9, b10, b11, b12, b13, b14⟩ := id hA3
                have hb3 := hcell_ext e3 hc3
                have hq4 := hcell_ext e3 hp4
                have lo : ∀ {b : Bool} {J : Value → Heap → Prop}, Join1 (fun k h' => guardP (.bool b) true (Hp Try.prog true (Instr.loadAt 3 (gv b true (.pointer (some ⟨h.size, 5, none⟩)))) k h' ⟨⟩) (k undef h') ⟨⟩ ⟨⟩) J h2 ⟨⟩ ⟨⟩ ↔ J (gv b true (.int .i64 x.order)) h2 := by
                  intro b J; cases b <;> simp [gv, b5]
                have lc : ∀ {b : Bool} {J : Value → Heap → Prop}, Join1 (fun k h' => guardP (.bool b) true (Hp Try.prog true (Instr.loadAt 3 (gv b true (.pointer (some ⟨h.size, 7, none⟩)))) k h' ⟨⟩) (k undef h') ⟨⟩ ⟨⟩) J h2 ⟨⟩ ⟨⟩ ↔ J (gv b true (.int .i64 x.clen)) h2 := by
                  intro b J; cases b <;> simp [gv, b7]
                simp (disch := omega) [-Hp_eql_s, -Hp_lss_s, -Hp_leq_s, -Hp_gtr_s, -Hp_geq_s, -Split_yes, -Split_no, eql_t, eql_f, leq_t, leq_f, geq_t, geq_f, gtr_t, gtr_f, Hp_eql, Hp_lss, Hp_leq, Hp_gtr, Hp_geq, gLeq, gGeq, gAnd, fo, fc, lo, lc, b0, b2, b3, b4, b5, b6, b7, b8, b9, b10, b11, b12, b13, b14, hb3, hq4]
                refine InvokeH_func (by kernel_rfl) ?_
                refine placeH_c h0 h1 hb3 ?_
                simp (disch := omega) [-Hp_eql_s, -Hp_lss_s, -Hp_leq_s, -Hp_gtr_s, -Hp_geq_s, -Split_yes, -Split_no, eql_t, eql_f, leq_t, leq_f, geq_t, geq_f, gtr_t, gtr_f, Hp_eql, Hp_lss, Hp_leq, Hp_gtr, Hp_geq, gLeq, gGeq, gAnd, fo, fc, lo, lc, b0, b2, b3, b4, b5, b6, b7, b8, b9, b10, b11, b12, b13, b14, hb3, hq4]
                refine InvokeH_func (by kernel_rfl) ?_
                refine listH_c h0 h1 hb3 hq4 ?_
                simp (disch := omega) [-Hp_eql_s, -Hp_lss_s, -Hp_leq_s, -Hp_gtr_s, -Hp_geq_s, -Split_yes, -Split_no, eql_t, eql_f, leq_t, leq_f, geq_t, geq_f, gtr_t, gtr_f, Hp_eql, Hp_lss, Hp_leq, Hp_gtr, Hp_geq, gLeq, gGeq, gAnd, fo, fc, lo, lc, b0, b2, b3, b4, b5, b6, b7, b8, b9, b10, b11, b12, b13, b14, hb3, hq4]
                refine InvokeH_func (by kernel_rfl) ?_
                refine listH_c h0 h1 hb3 hq4 ?_
                simp (disch := omega) [-Hp_eql_s, -Hp_lss_s, -Hp_leq_s, -Hp_gtr_s, -Hp_geq_s, -Split_yes, -Split_no, eql_t, eql_f, leq_t, leq_f, geq_t, geq_f, gtr_t, gtr_f, Hp_eql, Hp_lss, Hp_leq, Hp_gtr, Hp_geq, gLeq, gGeq, gAnd, fo, fc, lo, lc, b0, b2, b3, b4, b5, b6, b7, b8, b9, b10, b11, b12, b13, b14, hb3, hq4]
                refine loop7 (h2 := h2) (bs := [_, _, _, _, _, _, _]) rfl (hkk _ _ ⟨?_, E2.trans (Ext.trans (e3) (by repeat' (first | (with_reducible exact Ext.refl _) | (with_reducible assumption) | (with_reducible refine push_ext ?_) | (with_reducible refine hset_ext ?_ ?_) | (with_reducible refine Ext.trans ?_ (by assumption)) | omega | (simp; done) | (simp; omega) | (refine Ext.size ?_) | (refine Nat.le_succ_of_le (Ext.size ?_)))))⟩)
                congr 1
                unfold MayB
                simp [l0, l2, lz, l1z, bl, Bool.and_assoc]
            · have lp : 0 < x.l1len := by omega
              simp (disch := omega) [-Hp_eql_s, -Hp_lss_s, -Hp_leq_s, -Hp_gtr_s, -Hp_geq_s, -Split_yes, -Split_no, eql_t, eql_f, leq_t, leq_f, geq_t, geq_f, gtr_t, gtr_f, Hp_eql, Hp_lss, Hp_leq, Hp_gtr, Hp_geq, gLeq, gGeq, gAnd, fo, fc, a0, a2, a3, a4, a5, a6, a7, a8, a9, a10, a11, a12, a13, a14, hc3, hp4, loadH hA2]
              refine tables_c h0 h1 s0 s1 fun h2 e3 => ?_
              have hA3 := hA2.ext e3
              obtain ⟨b0, b1, b2, b3, b4, b5, b6, b7, b8, b9, b10, b11, b12, b13, b14⟩ := id hA3
              have hb3 := hcell_ext e3 hc3
              have hq4 := hcell_ext e3 hp4
              have lo : ∀ {b : Bool} {J : Value → Heap → Prop}, Join1 (fun k h' => guardP (.bool b) true (Hp Try.prog true (Instr.loadAt 3 (gv b true (.pointer (some ⟨h.size, 5, none⟩)))) k h' ⟨⟩) (k undef h') ⟨⟩ ⟨⟩) J h2 ⟨⟩ ⟨⟩ ↔ J (gv b true (.int .i64 x.order)) h2 := by
                intro b J; cases b <;> simp [gv, b5]
              have lc : ∀ {b : Bool} {J : Value → Heap → Prop}, Join1 (fun k h' => guardP (.bool b) true (Hp Try.prog true (Instr.loadAt 3 (gv b true (.pointer (some ⟨h.size, 7, none⟩)))) k h' ⟨⟩) (k undef h') ⟨⟩ ⟨⟩) J h2 ⟨⟩ ⟨⟩ ↔ J (gv b true (.int .i64 x.clen)) h2 := by
                intro b J; cases b <;> simp [gv, b7]
              simp (disch := omega) [-Hp_eql_s, -Hp_lss_s, -Hp_leq_s, -Hp_gtr_s, -Hp_geq_s, -Split_yes, -Split_no, eql_t, eql_f, leq_t, leq_f, geq_t, geq_f, gtr_t, gtr_f, Hp_eql, Hp_lss, Hp_leq, Hp_gtr, Hp_geq, gLeq, gGeq, gAnd, fo, fc, lo, lc, b0, b2, b3, b4, b5, b6, b7, b8, b9, b10, b11, b12, b13, b14, hb3, hq4]
              refine InvokeH_func (by kernel_rfl) ?_
              refine placeH_c h0 h1 hb3 ?_
              simp (disch := omega) [-Hp_eql_s, -Hp_lss_s, -Hp_leq_s, -Hp_gtr_s, -Hp_geq_s, -Split_yes, -Split_no, eql_t, eql_f, leq_t, leq_f, geq_t, geq_f, gtr_t, gtr_f, Hp_eql, Hp_lss, Hp_leq, Hp_gtr, Hp_geq, gLeq, gGeq, gAnd, fo, fc, lo, lc, b0, b2, b3, b4, b5, b6, b7, b8, b9, b10, b11, b12, b13, b14, hb3, hq4]
              refine InvokeH_func (by kernel_rfl) ?_
              refine placeH_c h0 h1 hb3 ?_
              simp (disch := omega) [-Hp_eql_s, -Hp_lss_s, -Hp_leq_s, -Hp_gtr_s, -Hp_geq_s, -Split_yes, -Split_no, eql_t, eql_f, leq_t, leq_f, geq_t, geq_f, gtr_t, gtr_f, Hp_eql, Hp_lss, Hp_leq, Hp_gtr, Hp_geq, gLeq, gGeq, gAnd, fo, fc, lo, lc, b0, b2, b3, b4, b5, b6, b7, b8, b9, b10, b11, b12, b13, b14, hb3, hq4]
              refine InvokeH_func (by kernel_rfl) ?_
              refine listH_c h0 h1 hb3 hq4 ?_
              simp (disch := omega) [-Hp_eql_s, -Hp_lss_s, -Hp_leq_s, -Hp_gtr_s, -Hp_geq_s, -Split_yes, -Split_no, eql_t, eql_f, leq_t, leq_f, geq_t, geq_f, gtr_t, gtr_f, Hp_eql, Hp_lss, Hp_leq, Hp_gtr, Hp_geq, gLeq, gGeq, gAnd, fo, fc, lo, lc, b0, b2, b3, b4, b5, b6, b7, b8, b9, b10, b11, b12, b13, b14, hb3, hq4]
              refine InvokeH_func (by kernel_rfl) ?_
              refine listH_c h0 h1 hb3 hq4 ?_
              simp (disch := omega) [-Hp_eql_s, -Hp_lss_s, -Hp_leq_s, -Hp_gtr_s, -Hp_geq_s, -Split_yes, -Split_no, eql_t, eql_f, leq_t, leq_f, geq_t, geq_f, gtr_t, gtr_f, Hp_eql, Hp_lss, Hp_leq, Hp_gtr, Hp_geq, gLeq, gGeq, gAnd, fo, fc, lo, lc, b0, b2, b3, b4, b5, b6, b7, b8, b9, b10, b11, b12, b13, b14, hb3, hq4]
              refine loop7 (h2 := h2) (bs := [_, _, _, _, _, _, _]) rfl (hkk _ _ ⟨?_, E2.trans (Ext.trans (e3) (by repeat' (first | (with_reducible exact Ext.refl _) | (with_reducible assumption) | (with_reducible refine push_ext ?_) | (with_reducible refine hset_ext ?_ ?_) | (with_reducible refine Ext.trans ?_ (by assumption)) | omega | (simp; done) | (simp; omega) | (refine Ext.size ?_) | (refine Nat.le_succ_of_le (Ext.size ?_)))))⟩)
              congr 1
              unfold MayB
              simp [l0, l2, lz, lp, bl, Bool.and_assoc]
          · have lp : 0 < x.l1len := by omega
            have lz : ¬ x.l1len = 0 := by omega
            have hA3 := hA2.ext (Ext.refl g2)
            obtain ⟨b0, b1, b2, b3, b4, b5, b6, b7, b8, b9, b10, b11, b12, b13, b14⟩ := id hA3
            have hb3 := hcell_ext (Ext.refl g2) hc3
            have hq4 := hcell_ext (Ext.refl g2) hp4
            have lo : ∀ {b : Bool} {J : Value → Heap → Prop}, Join1 (fun k h' => guardP (.bool b) true (Hp Try.prog true (Instr.loadAt 3 (gv b true (.pointer (some ⟨h.size, 5, none⟩)))) k h' ⟨⟩) (k undef h') ⟨⟩ ⟨⟩) J g2 ⟨⟩ ⟨⟩ ↔ J (gv b true (.int .i64 x.order)) g2 := by
              intro b J; cases b <;> simp [gv, b5]
            have lc : ∀ {b : Bool} {J : Value → Heap → Prop}, Join1 (fun k h' => guardP (.bool b) true (Hp Try.prog true (Instr.loadAt 3 (gv b true (.pointer (some ⟨h.size, 7, none⟩)))) k h' ⟨⟩) (k undef h') ⟨⟩ ⟨⟩) J g2 ⟨⟩ ⟨⟩ ↔ J (gv b true (.int .i64 x.clen)) g2 := by
              intro b J; cases b <;> simp [gv, b7]
            simp (disch := omega) [-Hp_eql_s, -Hp_lss_s, -Hp_leq_s, -Hp_gtr_s, -Hp_geq_s, -Split_yes, -Split_no, eql_t, eql_f, leq_t, leq_f, geq_t, geq_f, gtr_t, gtr_f, Hp_eql, Hp_lss, Hp_leq, Hp_gtr, Hp_geq, gLeq, gGeq, gAnd, fo, fc, lo, lc, b0, b2, b3, b4, b5, b6, b7, b8, b9, b10, b11, b12, b13, b14, hb3, hq4]
            refine InvokeH_func (by kernel_rfl) ?_
            refine placeH_c h0 h1 hb3 ?_
            simp (disch := omega) [-Hp_eql_s, -Hp_lss_s, -Hp_leq_s, -Hp_gtr_s, -Hp_geq_s, -Split_yes, -Split_no, eql_t, eql_f, leq_t, leq_f, geq_t, geq_f, gtr_t, gtr_f, Hp_eql, Hp_lss, Hp_leq, Hp_gtr, Hp_geq, gLeq, gGeq, gAnd, fo, fc, lo, lc, b0, b2, b3, b4, b5, b6, b7, b8, b9, b10, b11, b12, b13, b14, hb3, hq4]
            refine InvokeH_func (by kernel_rfl) ?_
            refine placeH_c h0 h1 hb3 ?_
            simp (disch := omega) [-Hp_eql_s, -Hp_lss_s, -Hp_leq_s, -Hp_gtr_s, -Hp_geq_s, -Split_yes, -Split_no, eql_t, eql_f, leq_t, leq_f, geq_t, geq_f, gtr_t, gtr_f, Hp_eql, Hp_lss, Hp_leq, Hp_gtr, Hp_geq, gLeq, gGeq, gAnd, fo, fc, lo, lc, b0, b2, b3, b4, b5, b6, b7, b8, b9, b10, b11, b12, b13, b14, hb3, hq4]
            refine InvokeH_func (by kernel_rfl) ?_
            refine listH_c h0 h1 hb3 hq4 ?_
            simp (disch := omega) [-Hp_eql_s, -Hp_lss_s, -Hp_leq_s, -Hp_gtr_s, -Hp_geq_s, -Split_yes, -Split_no, eql_t, eql_f, leq_t, leq_f, geq_t, geq_f, gtr_t, gtr_f, Hp_eql, Hp_lss, Hp_leq, Hp_gtr, Hp_geq, gLeq, gGeq, gAnd, fo, fc, lo, lc, b0, b2, b3, b4, b5, b6, b7, b8, b9, b10, b11, b12, b13, b14, hb3, hq4]
            refine InvokeH_func (by kernel_rfl) ?_
            refine listH_c h0 h1 hb3 hq4 ?_
            simp (disch := omega) [-Hp_eql_s, -Hp_lss_s, -Hp_leq_s, -Hp_gtr_s, -Hp_geq_s, -Split_yes, -Split_no, eql_t, eql_f, leq_t, leq_f, geq_t, geq_f, gtr_t, gtr_f, Hp_eql, Hp_lss, Hp_leq, Hp_gtr, Hp_geq, gLeq, gGeq, gAnd, fo, fc, lo, lc, b0, b2, b3, b4, b5, b6, b7, b8, b9, b10, b11, b12, b13, b14, hb3, hq4]
            refine loop7 (h2 := g2) (bs := [_, _, _, _, _, _, _]) rfl (hkk _ _ ⟨?_, E2.trans (Ext.trans (Ext.refl g2) (by repeat' (first | (with_reducible exact Ext.refl _) | (with_reducible assumption) | (with_reducible refine push_ext ?_) | (with_reducible refine hset_ext ?_ ?_) | (with_reducible refine Ext.trans ?_ (by assumption)) | omega | (simp; done) | (simp; omega) | (refine Ext.size ?_) | (refine Nat.le_succ_of_le (Ext.size ?_)))))⟩)
            congr 1
            unfold MayB
            simp [l0, l2, lz, lp, bl, Bool.and_assoc]
        · have lp : ¬ 0 < x.l1len := by omega
          have lz : ¬ x.l1len = 0 := by omega
          have hA3 := hA2.ext (Ext.refl g2)
          obtain ⟨b0, b1, b2, b3, b4, b5, b6, b7, b8, b9, b10, b11, b12, b13, b14⟩ := id hA3
          have hb3 := hcell_ext (Ext.refl g2) hc3
          have hq4 := hcell_ext (Ext.refl g2) hp4
          have lo : ∀ {b : Bool} {J : Value → Heap → Prop}, Join1 (fun k h' => guardP (.bool b) true (Hp Try.prog true (Instr.loadAt 3 (gv b true (.pointer (some ⟨h.size, 5, none⟩)))) k h' ⟨⟩) (k undef h') ⟨⟩ ⟨⟩) J g2 ⟨⟩ ⟨⟩ ↔ J (gv b true (.int .i64 x.order)) g2 := by
            intro b J; cases b <;> simp [gv, b5]
          have lc : ∀ {b : Bool} {J : Value → Heap → Prop}, Join1 (fun k h' => guardP (.bool b) true (Hp Try.prog true (Instr.loadAt 3 (gv b true (.pointer (some ⟨h.size, 7, none⟩)))) k h' ⟨⟩) (k undef h') ⟨⟩ ⟨⟩) J g2 ⟨⟩ ⟨⟩ ↔ J (gv b true (.int .i64 x.clen)) g2 := by
            intro b J; cases b <;> simp [gv, b7]
          simp (disch := omega) [-Hp_eql_s, -Hp_lss_s, -Hp_leq_s, -Hp_gtr_s, -Hp_geq_s, -Split_yes, -Split_no, eql_t, eql_f, leq_t, leq_f, geq_t, geq_f, gtr_t, gtr_f, Hp_eql, Hp_lss, Hp_leq, Hp_gtr, Hp_geq, gLeq, gGeq, gAnd, fo, fc, lo, lc, b0, b2, b3, b4, b5, b6, b7, b8, b9, b10, b11, b12, b13, b14, hb3, hq4]
          refine InvokeH_func (by kernel_rfl) ?_
          refine placeH_c h0 h1 hb3 ?_
          simp (disch := omega) [-Hp_eql_s, -Hp_lss_s, -Hp_leq_s, -Hp_gtr_s, -Hp_geq_s, -Split_yes, -Split_no, eql_t, eql_f, leq_t, leq_f, geq_t, geq_f, gtr_t, gtr_f, Hp_eql, Hp_lss, Hp_leq, Hp_gtr, Hp_geq, gLeq, gGeq, gAnd, fo, fc, lo, lc, b0, b2, b3, b4, b5, b6, b7, b8, b9, b10, b11, b12, b13, b14, hb3, hq4]
          refine InvokeH_func (by kernel_rfl) ?_
          refine listH_c h0 h1 hb3 hq4 ?_
          simp (disch := omega) [-Hp_eql_s, -Hp_lss_s, -Hp_leq_s, -Hp_gtr_s, -Hp_geq_s, -Split_yes, -Split_no, eql_t, eql_f, leq_t, leq_f, geq_t, geq_f, gtr_t, gtr_f, Hp_eql, Hp_lss, Hp_leq, Hp_gtr, Hp_geq, gLeq, gGeq, gAnd, fo, fc, lo, lc, b0, b2, b3, b4, b5, b6, b7, b8, b9, b10, b11, b12, b13, b14, hb3, hq4]
          refine InvokeH_func (by kernel_rfl) ?_
          refine listH_c h0 h1 hb3 hq4 ?_
          simp (disch := omega) [-Hp_eql_s, -Hp_lss_s, -Hp_leq_s, -Hp_gtr_s, -Hp_geq_s, -Split_yes, -Split_no, eql_t, eql_f, leq_t, leq_f, geq_t, geq_f, gtr_t, gtr_f, Hp_eql, Hp_lss, Hp_leq, Hp_gtr, Hp_geq, gLeq, gGeq, gAnd, fo, fc, lo, lc, b0, b2, b3, b4, b5, b6, b7, b8, b9, b10, b11, b12, b13, b14, hb3, hq4]
          refine loop7 (h2 := g2) (bs := [_, _, _, _, _, _, _]) rfl (hkk _ _ ⟨?_, E2.trans (Ext.trans (Ext.refl g2) (by repeat' (first | (with_reducible exact Ext.refl _) | (with_reducible assumption) | (with_reducible refine push_ext ?_) | (with_reducible refine hset_ext ?_ ?_) | (with_reducible refine Ext.trans ?_ (by assumption)) | omega | (simp; done) | (simp; omega) | (refine Ext.size ?_) | (refine Nat.le_succ_of_le (Ext.size ?_)))))⟩)
          congr 1
          unfold MayB
          simp [l0, lz, lp, bl, Bool.and_assoc]
    · obtain ⟨rfl, e3⟩ := hx
      by_cases hB : MayB x
      · simp (disch := omega) [hB]
        exact ht _ e3 ⟨hMA, hB⟩
      · simp (disch := omega) [hB]
        exact hf _ e3 (fun m => hB m.2)
  · have hf1 := hf g e1 (fun m => hMA m.1)
    obtain ⟨a0, a1, a2, -⟩ := hA
    by_cases c1 : x.bits < 9
    · simp (disch := omega) [a0, a1, a2, c1]
      exact hf1
    by_cases c2 : 16 < x.bits
    · simp (disch := omega) [a0, a1, a2, c1, c2]
      exact hf1
    by_cases c3 : 1 < x.flags
    · simp (disch := omega) [a0, a1, a2, c1, c2, c3]
      exact hf1
    by_cases c4 : x.size < 0
    · simp (disch := omega) [a0, a1, a2, c1, c2, c3, c4]
      exact hf1
    by_cases c5 : 67108864 < x.size
    · simp (disch := omega) [a0, a1, a2, c1, c2, c3, c4, c5]
      exact hf1
    by_cases c6 : x.size % 512 = 0
    · exact absurd ⟨by omega, by omega, by omega, by omega, by omega, c6⟩ hMA
    · simp (disch := omega) [a0, a1, a2, c1, c2, c3, c4, c5, c6]
      exact hf1
end Go.Proofs.Ytgnmjcljljfldaa

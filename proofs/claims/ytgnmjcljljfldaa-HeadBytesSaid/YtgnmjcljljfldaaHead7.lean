/- Heads: a head is read. -/
import Derived.Test.YtgnmjcljljfldaaHead6
set_option linter.unusedSimpArgs false
set_option linter.unusedVariables false
namespace Go.Proofs.Ytgnmjcljljfldaa
open Go.Vc
variable {K : Value → Heap → Prop} {h : Heap}

theorem InvokeH_2_1 {P : Go.Program} {g : Go.FuncId} {a b c1 : Go.Value} (hc : callOk P g = true) (H : CallsH P g #[a, b, c1] h K ⟨⟩) : InvokeH P (.func (.func g) #[] #[c1]) #[a, b] h K ⟨⟩ := InvokeH_func hc (by simpa using H)
theorem getH_c {B : Nat} {v : Value} {l : List UInt8} {p n : Int} (hb : hcell h ⟨B, 0, none⟩ = some v) (hB : Bytes h v l) (hl : l.length < 1000000) (H : K (.int .i64 (gotI l p n)) h) :
    InvokeH Try.prog (.func (.func 49) #[] #[.pointer (some ⟨B, 0, none⟩)]) #[.int .i64 p, .int .i64 n] h K ⟨⟩ := by
  refine InvokeH_2_1 (by kernel_rfl) ?_
  refine n49_calls ?_
  unfold n49
  obtain ⟨o, c, rfl⟩ := hB.form
  simp (disch := omega) [hb]
  refine Get_c hB (by omega) ?_
  unfold gotI at H
  simp (disch := omega) [Try.cvw45_2]
  exact H
/-- A head's cells that may be written. -/
def HdW (h : Heap) (b : Nat) (x : Hd) : Prop := Cel h b 0 (.int .i64 x.bits) ∧ Cel h b 1 (.int .u64 x.flags) ∧ Cel h b 2 (.int .i64 x.size) ∧ Cel h b 3 (.int .i64 x.l1) ∧ Cel h b 4 (.int .i64 x.l1len) ∧ Cel h b 5 (.int .i64 x.order) ∧ Cel h b 6 (.int .i64 x.counts) ∧ Cel h b 7 (.int .i64 x.clen) ∧ Cel h b 8 (.int .i64 x.snaps) ∧ Cel h b 9 (.int .i64 x.sat) ∧ Cel h b 10 (.int .i64 x.slen) ∧ Cel h b 11 (.int .i64 x.maps) ∧ Cel h b 12 (.int .i64 x.mat) ∧ Cel h b 13 (.int .i64 x.mlen) ∧ Cel h b 14 (str x.back)
theorem HdW.at {b : Nat} {x : Hd} (a : HdW h b x) : HdAt h b x := by
  obtain ⟨d0, d1, d2, d3, d4, d5, d6, d7, d8, d9, d10, d11, d12, d13, d14⟩ := a
  exact ⟨d0.get, d1.get, d2.get, d3.get, d4.get, d5.get, d6.get, d7.get, d8.get, d9.get, d10.get, d11.get, d12.get, d13.get, d14.get⟩
theorem HdW.mod {S : Nat → Prop} {h' : Heap} {b : Nat} {x : Hd} (a : HdW h b x) (m : Mod S h h') (hS : ¬ S b) : HdW h' b x := by
  obtain ⟨d0, d1, d2, d3, d4, d5, d6, d7, d8, d9, d10, d11, d12, d13, d14⟩ := a
  exact ⟨d0.mod m hS, d1.mod m hS, d2.mod m hS, d3.mod m hS, d4.mod m hS, d5.mod m hS, d6.mod m hS, d7.mod m hS, d8.mod m hS, d9.mod m hS, d10.mod m hS, d11.mod m hS, d12.mod m hS, d13.mod m hS, d14.mod m hS⟩
theorem HdW.ext {h' : Heap} {b : Nat} {x : Hd} (a : HdW h b x) (e : Ext h h') : HdW h' b x := by
  obtain ⟨d0, d1, d2, d3, d4, d5, d6, d7, d8, d9, d10, d11, d12, d13, d14⟩ := a
  exact ⟨d0.ext e, d1.ext e, d2.ext e, d3.ext e, d4.ext e, d5.ext e, d6.ext e, d7.ext e, d8.ext e, d9.ext e, d10.ext e, d11.ext e, d12.ext e, d13.ext e, d14.ext e⟩
theorem HdW.lt {b : Nat} {x : Hd} (a : HdW h b x) : b < h.size := a.1.lt
set_option maxHeartbeats 1000000 in
theorem storeH {b : Nat} {x y : Hd} (a : HdW h b y) (H : ∀ h', Mod (· = b) h h' → HdW h' b x → K undef h') : Hp Try.prog false (storeS 47 (.pointer (some ⟨b, 0, none⟩)) x.val) K h ⟨⟩ := by
  obtain ⟨d0, d1, d2, d3, d4, d5, d6, d7, d8, d9, d10, d11, d12, d13, d14⟩ := a
  have hlt := d0.lt
  unfold Hd.val Hd.cells
  simp (disch := omega) [d0.get, d0.free, d1.get, d1.free, d2.get, d2.free, d3.get, d3.free, d4.get, d4.free, d5.get, d5.free, d6.get, d6.free, d7.get, d7.free, d8.get, d8.free, d9.get, d9.free, d10.get, d10.free, d11.get, d11.free, d12.get, d12.free, d13.get, d13.free, d14.get, d14.free]
  refine H _ (by repeat' (first | (with_reducible exact Mod.refl _ _) | (with_reducible assumption) | (with_reducible refine Mod.pushIn ?_) | (with_reducible refine Mod.setIn ?_ ?_) | (with_reducible refine Mod.putIn ?_ ?_) | (with_reducible refine Mod.extIn ?_ (by assumption)) | (exact Or.inr (by first | omega | (simp; done) | (simp; omega))) | (exact Or.inl (by first | (simp; done) | (simp; omega))))) ?_
  refine ⟨?_, ?_, ?_, ?_, ?_, ?_, ?_, ?_, ?_, ?_, ?_, ?_, ?_, ?_, ?_⟩
  all_goals simp (disch := omega) [Cel_iff, d0.get, d0.free, d1.get, d1.free, d2.get, d2.free, d3.get, d3.free, d4.get, d4.free, d5.get, d5.free, d6.get, d6.free, d7.get, d7.free, d8.get, d8.free, d9.get, d9.free, d10.get, d10.free, d11.get, d11.free, d12.get, d12.free, d13.get, d13.free, d14.get, d14.free]
theorem allocH {K2 : Value → Heap → Prop} (H : ∀ g2, Ext h g2 → HdW g2 h.size ⟨0, 0, 0, 0, 0, 0, 0, 0, 0, 0, 0, 0, 0, 0, []⟩ → g2.size = h.size + 1 → K2 (.pointer (some ⟨h.size, 0, none⟩)) g2) : Hp Try.prog false (Instr.alloc 47 true undef) K2 h ⟨⟩ := by
  simp (disch := omega)
  refine H _ (by repeat' (first | (with_reducible exact Ext.refl _) | (with_reducible assumption) | (with_reducible refine push_ext ?_) | (with_reducible refine hset_ext ?_ ?_) | (with_reducible refine Ext.trans ?_ (by assumption)) | omega | (simp; done) | (simp; omega) | (refine Ext.size ?_) | (refine Nat.le_succ_of_le (Ext.size ?_)))) ?_ (by simp)
  refine ⟨?_, ?_, ?_, ?_, ?_, ?_, ?_, ?_, ?_, ?_, ?_, ?_, ?_, ?_, ?_⟩
  all_goals exact ⟨by simp, by simp⟩
theorem nameW {b : Nat} {x : Hd} {nm : List UInt8} (a : HdW h b x) (H : ∀ h', Mod (· = b) h h' → HdW h' b { x with back := nm } → K undef h') : Hp Try.prog false (Instr.fieldAt 47 (.pointer (some ⟨b, 0, none⟩)) 14) (fun p h1 => Hp Try.prog false (storeS 9 p (str nm)) K h1 ⟨⟩) h ⟨⟩ := by
  obtain ⟨d0, d1, d2, d3, d4, d5, d6, d7, d8, d9, d10, d11, d12, d13, d14⟩ := a
  have hlt := d0.lt
  simp (disch := omega) [d0.get, d0.free, d1.get, d1.free, d2.get, d2.free, d3.get, d3.free, d4.get, d4.free, d5.get, d5.free, d6.get, d6.free, d7.get, d7.free, d8.get, d8.free, d9.get, d9.free, d10.get, d10.free, d11.get, d11.free, d12.get, d12.free, d13.get, d13.free, d14.get, d14.free]
  refine H _ (by repeat' (first | (with_reducible exact Mod.refl _ _) | (with_reducible assumption) | (with_reducible refine Mod.pushIn ?_) | (with_reducible refine Mod.setIn ?_ ?_) | (with_reducible refine Mod.putIn ?_ ?_) | (with_reducible refine Mod.extIn ?_ (by assumption)) | (exact Or.inr (by first | omega | (simp; done) | (simp; omega))) | (exact Or.inl (by first | (simp; done) | (simp; omega))))) ?_
  refine ⟨?_, ?_, ?_, ?_, ?_, ?_, ?_, ?_, ?_, ?_, ?_, ?_, ?_, ?_, ?_⟩
  all_goals simp (disch := omega) [Cel_iff, d0.get, d0.free, d1.get, d1.free, d2.get, d2.free, d3.get, d3.free, d4.get, d4.free, d5.get, d5.free, d6.get, d6.free, d7.get, d7.free, d8.get, d8.free, d9.get, d9.free, d10.get, d10.free, d11.get, d11.free, d12.get, d12.free, d13.get, d13.free, d14.get, d14.free]
theorem loadCellH {q : Bool} {b : Nat} {x : Hd} (a : HdAt h b x) : Hp Try.prog q (loadCell 47 (.pointer (some ⟨b, 0, none⟩))) K h ⟨⟩ ↔ K x.val h := by
  obtain ⟨a0, a1, a2, a3, a4, a5, a6, a7, a8, a9, a10, a11, a12, a13, a14⟩ := a
  unfold Hd.val Hd.cells
  simp [a0, a1, a2, a3, a4, a5, a6, a7, a8, a9, a10, a11, a12, a13, a14]
/-- No head. -/
def Hd0 : Hd := ⟨0, 0, 0, 0, 0, 0, 0, 0, 0, 0, 0, 0, 0, 0, []⟩
def IsHd (l : List UInt8) : Prop := 512 ≤ l.length ∧ ∃ x, MayH x ∧ hdB x = l.take 512

set_option maxHeartbeats 4000000 in
theorem Read_c {v : Value} {l : List UInt8} (hB : Bytes h v l) (hl : l.length < 1000000)
    (ht : ∀ h' x, Ext h h' → 512 ≤ l.length → MayH x → hdB x = l.take 512 → K (.tuple #[x.val, .int .i64 0]) h') (hf : ∀ h', Ext h h' → ¬ IsHd l → K (.tuple #[Hd0.val, .int .i64 180]) h') :
    CallsH Try.prog 18 #[v] h K ⟨⟩ := by
  obtain ⟨o, q0, rfl⟩ := hB.form
  refine n18_calls ?_
  unfold n18
  by_cases h512 : l.length < 512
  · simp (disch := omega)
    exact hf _ (by repeat' (first | (with_reducible exact Ext.refl _) | (with_reducible assumption) | (with_reducible refine push_ext ?_) | (with_reducible refine hset_ext ?_ ?_) | (with_reducible refine Ext.trans ?_ (by assumption)) | omega | (simp; done) | (simp; omega) | (refine Ext.size ?_) | (refine Nat.le_succ_of_le (Ext.size ?_)))) (fun i => by have := i.1; omega)
  obtain ⟨a, rfl, -, hq, hAt⟩ := hB.at (by omega)
  have hT : Bytes h (.slice (some a) 512 q0) (l.take 512) := by
    have hp := hAt.part 0 512 q0 (by omega) (by omega) hq
    rw [sub_zero, List.drop_zero] at hp
    exact .inr ⟨_, _, by congr 1; simp; omega, by simp; omega, hp⟩
  simp (disch := omega)
  refine (⟨_, rfl⟩ : ∃ g, g = hset ((Array.push h (Obj.cells #[Value.slice (some a) l.length q0] 26)).push (Obj.cells #[Value.int IntKind.i64 0, Value.int IntKind.u64 0, Value.int IntKind.i64 0, Value.int IntKind.i64 0, Value.int IntKind.i64 0, Value.int IntKind.i64 0, Value.int IntKind.i64 0, Value.int IntKind.i64 0, Value.int IntKind.i64 0, Value.int IntKind.i64 0, Value.int IntKind.i64 0, Value.int IntKind.i64 0, Value.int IntKind.i64 0, Value.int IntKind.i64 0, str []] 47)) ⟨h.size, 0, none⟩ (Value.slice (some a) 512 q0)).elim fun g eg => ?_
  simp only [← eg]
  have e0 : Ext h g := by rw [eg]; exact (by repeat' (first | (with_reducible exact Ext.refl _) | (with_reducible assumption) | (with_reducible refine push_ext ?_) | (with_reducible refine hset_ext ?_ ?_) | (with_reducible refine Ext.trans ?_ (by assumption)) | omega | (simp; done) | (simp; omega) | (refine Ext.size ?_) | (refine Nat.le_succ_of_le (Ext.size ?_))))
  have hb : hcell g ⟨h.size, 0, none⟩ = some (.slice (some a) 512 q0) := by rw [eg]; simp
  have zg : g.size = h.size + 2 := by rw [eg]; simp
  have hz : HdW g (h.size + 1) Hd0 := by rw [eg]; refine ⟨?_, ?_, ?_, ?_, ?_, ?_, ?_, ?_, ?_, ?_, ?_, ?_, ?_, ?_, ?_⟩ <;> exact ⟨by simp [Hd0], by simp⟩
  clear eg
  have hT := hT.ext e0
  generalize hLL : l.take 512 = L at *
  have hLl : L.length = 512 := by rw [← hLL, List.length_take]; omega
  obtain ⟨fl, hfl⟩ : ∃ fl : Nat, IntKind.u64.wrap (gotI L 8 8) = fl := ⟨(IntKind.u64.wrap (gotI L 8 8)).toNat, by rw [Int.toNat_of_nonneg]; rw [wrap_u64_eq]; exact Int.emod_nonneg _ (by decide)⟩
  obtain ⟨nm, te, htx⟩ : ∃ nm te, textR L 84 64 = (nm, te) := ⟨_, _, rfl⟩
  obtain ⟨n0, n1, n2, n3, n4, n5, n6, n7, n8, n9, n10, n11, n12, n13, hD⟩ : ∃ n0 n1 n2 n3 n4 n5 n6 n7 n8 n9 n10 n11 n12 n13, gotI L 4 4 = n0 ∧ gotI L 8 8 = n1 ∧ gotI L 16 8 = n2 ∧ gotI L 24 8 = n3 ∧ gotI L 32 4 = n4 ∧ gotI L 36 4 = n5 ∧ gotI L 40 8 = n6 ∧ gotI L 48 4 = n7 ∧ gotI L 52 4 = n8 ∧ gotI L 56 8 = n9 ∧ gotI L 64 4 = n10 ∧ gotI L 68 4 = n11 ∧ gotI L 72 8 = n12 ∧ gotI L 80 4 = n13 := ⟨_, _, _, _, _, _, _, _, _, _, _, _, _, _, rfl, rfl, rfl, rfl, rfl, rfl, rfl, rfl, rfl, rfl, rfl, rfl, rfl, rfl⟩
  obtain ⟨d0, d1, d2, d3, d4, d5, d6, d7, d8, d9, d10, d11, d12, d13⟩ := hD
  have hx : hdD L = ⟨n0, fl, n2, n3, n4, n5, n6, n7, n8, n9, n10, n11, n12, n13, nm⟩ := by
    unfold hdD
    rw [hfl, htx, d0, d2, d3, d4, d5, d6, d7, d8, d9, d10, d11, d12, d13, Int.toNat_natCast]
  rw [d1] at hfl
  refine getH_c hb hT (by omega) ?_
  rw [d0]
  refine getH_c hb hT (by omega) ?_
  rw [d1]
  refine (Try.cvw2_45).2 ?_
  rw [ValI_iff, hfl]
  refine getH_c hb hT (by omega) ?_
  rw [d2]
  refine getH_c hb hT (by omega) ?_
  rw [d3]
  refine getH_c hb hT (by omega) ?_
  rw [d4]
  refine getH_c hb hT (by omega) ?_
  rw [d5]
  refine getH_c hb hT (by omega) ?_
  rw [d6]
  refine getH_c hb hT (by omega) ?_
  rw [d7]
  refine getH_c hb hT (by omega) ?_
  rw [d8]
  refine getH_c hb hT (by omega) ?_
  rw [d9]
  refine getH_c hb hT (by omega) ?_
  rw [d10]
  refine getH_c hb hT (by omega) ?_
  rw [d11]
  refine getH_c hb hT (by omega) ?_
  rw [d12]
  refine getH_c hb hT (by omega) ?_
  rw [d13]
  rw [Try.bd47_0_1_2_3_4_5_6_7_8_9_10_11_12_13]
  refine allocH fun g2 e2 hz2 zg2 => ?_
  refine storeH (x := ⟨n0, fl, n2, n3, n4, n5, n6, n7, n8, n9, n10, n11, n12, n13, []⟩) hz2 fun g3 m3 hw3 => ?_
  have e3 : Ext g g3 := m3.ext_from e2 (fun b hb e => by omega)
  have hb3 := hcell_ext e3 hb
  have hT3 := hT.ext e3
  have s3 := m3.size
  simp (disch := omega) [hb3]
  refine Text_c hT3 (by omega) ?_
  rw [htx]
  simp only [Hp_extract0, Hp_extract1]
  refine nameW hw3 fun g4 m4 hw4 => ?_
  have e4 : Ext g g4 := m4.ext_from e3 (fun b hb e => by omega)
  have s4 := m4.size
  rw [loadH hw4.at]
  refine HBytes_c (x := ⟨n0, fl, n2, n3, n4, n5, n6, n7, n8, n9, n10, n11, n12, n13, nm⟩) (fun vv g5 e5 hO5 hF5 hM => ?_) (fun g5 e5 hM => ?_)
  · have E5 := e4.trans e5
    have hb5 := hcell_ext E5 hb
    have hT5 := hT.ext E5
    have hw5 := hw4.ext e5
    have hz5 := hz.ext E5
    have hV5 := hO5.bytes
    by_cases te0 : te = 0
    · simp (disch := omega) [-Try.st47, -Try.ld47, te0, hb5]
      refine n52_calls ?_
      unfold n52
      simp (disch := omega) [-Try.st47, -Try.ld47, Try.cv26_9 hV5, Try.cv26_9 hT5]
      refine Split.mk (fun he => ?_) (fun he => ?_)
      · simp (disch := omega) [-Try.st47, -Try.ld47]
        rw [loadH hw5.at]
        refine storeH (x := ⟨n0, fl, n2, n3, n4, n5, n6, n7, n8, n9, n10, n11, n12, n13, nm⟩) hz5 fun g6 m6 hw6 => ?_
        rw [loadCellH hw6.at]
        exact ht _ _ (m6.ext_from (e0.trans E5) (fun b hb e => by omega)) (by omega) hM he
      · simp (disch := omega) [-Try.st47, -Try.ld47]
        refine storeH (x := Hd0) hz5 fun g6 m6 hw6 => ?_
        rw [loadCellH hw6.at]
        refine hf _ (m6.ext_from (e0.trans E5) (fun b hb e => by omega)) (fun i => ?_)
        obtain ⟨-, y, hy, hyL⟩ := i
        rw [hLL] at hyL
        have := hdD_hdB hy
        rw [hyL, hx] at this
        rw [this] at he
        exact he hyL
    · simp (disch := omega) [-Try.st47, -Try.ld47, te0, hb5]
      refine storeH (x := Hd0) hz5 fun g6 m6 hw6 => ?_
      rw [loadCellH hw6.at]
      refine hf _ (m6.ext_from (e0.trans E5) (fun b hb e => by omega)) (fun i => ?_)
      obtain ⟨-, y, hy, hyL⟩ := i
      rw [hLL] at hyL
      have := hdB_text hy
      rw [hyL, htx] at this
      exact te0 (Prod.mk.inj this).2
  · have E5 := e4.trans e5
    have hz5 := hz.ext E5
    have hno : ¬ IsHd l := fun i => by
      obtain ⟨-, y, hy, hyL⟩ := i
      rw [hLL] at hyL
      have := hdD_hdB hy
      rw [hyL, hx] at this
      rw [this] at hM
      exact hM hy
    by_cases te0 : te = 0
    · simp (disch := omega) [-Try.st47, -Try.ld47, te0]
      refine storeH (x := Hd0) hz5 fun g6 m6 hw6 => ?_
      rw [loadCellH hw6.at]
      exact hf _ (m6.ext_from (e0.trans E5) (fun b hb e => by omega)) hno
    · simp (disch := omega) [-Try.st47, -Try.ld47, te0]
      refine storeH (x := Hd0) hz5 fun g6 m6 hw6 => ?_
      rw [loadCellH hw6.at]
      exact hf _ (m6.ext_from (e0.trans E5) (fun b hb e => by omega)) hno
end Go.Proofs.Ytgnmjcljljfldaa

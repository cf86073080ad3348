/- Heads: what the chapter's rows say. -/
import Derived.Test.YtgnmjcljljfldaaHead7
set_option linter.unusedSimpArgs false
set_option linter.unusedVariables false
namespace Go.Proofs.Ytgnmjcljljfldaa
open Go.Vc
variable {K : Value → Heap → Prop} {h : Heap}

theorem eqlH {q : Bool} {a b : Operand} {x y : Hd} : Hp Try.prog q (binS .eql 47 a b x.val y.val) K h ⟨⟩ ↔ Split (x = y) (K (.bool true) h) (K (.bool false) h) ⟨⟩ ⟨⟩ := by
  cases x; cases y
  simp [Hd.val, Hd.cells, Int.natCast_inj]
/-- The head that is tried. -/
def XS : Hd := ⟨9, 0, 1024, 1024, 1, 4, 512, 1, 0, 0, 0, 0, 0, 0, []⟩
theorem XS_may : MayH XS := by decide
theorem XS_4 : (hdB XS).take 4 = [80, 65, 76, 49] := rfl
theorem some_c (H : ∀ h', Ext h h' → K XS.val h') : CallsH Try.prog 48 #[] h K ⟨⟩ := by
  refine n48_calls ?_
  unfold n48
  refine allocH fun g2 e2 hz2 zg2 => ?_
  simp (disch := omega) [-Try.st47, -Try.ld47]
  refine storeH (x := XS) hz2 fun g3 m3 hw3 => ?_
  rw [loadCellH hw3.at]
  exact H _ (m3.ext_from e2 (fun b hb e => by omega))

set_option maxHeartbeats 4000000 in
theorem Hknown_c (H : ∀ h', Ext h h' → K (.bool true) h') : CallsH Try.prog 17 #[] h K ⟨⟩ := by
  refine n17_calls ?_
  unfold n17
  refine some_c fun h1 e1 => ?_
  refine HBytes_c (fun v h2 e2 hO hF _ => ?_) (fun h2 e2 hM => absurd XS_may hM)
  have hl := hdB_len XS_may
  simp only [Hp_extract0, Hp_extract1]
  refine Read_c hO.bytes (by omega) (fun h3 x e3 _ hM hx => ?_) (fun h3 e3 hno => absurd ⟨by omega, XS, XS_may, by rw [List.take_of_length_le (by omega)]⟩ hno)
  rw [List.take_of_length_le (by omega)] at hx
  obtain rfl := hdB_inj hM XS_may hx
  simp only [Hp_extract0, Hp_extract1]
  refine allocH fun g2 e4 hz2 zg2 => ?_
  refine storeH (x := XS) hz2 fun g3 m3 hw3 => ?_
  have e5 : Ext h3 g3 := m3.ext_from e4 (fun b hb e => by omega)
  have hB := (hO.ext e3).ext e5
  obtain ⟨o, c, rfl⟩ := hB.bytes.form
  obtain ⟨u, hu, su⟩ := slB0 hB.bytes (by omega) 4 (by omega) (by omega)
  have hu4 : Bytes g3 u [80, 65, 76, 49] := by rw [← XS_4]; exact hu
  rw [hl] at su
  simp (disch := omega) [-Try.st47, -Try.ld47, hl, su, Try.cv26_9 hu4, fun (K : Value → Heap → Prop) => loadH (K := K) (q := true) hw3.at]
  refine some_c fun h4 e6 => ?_
  simp (disch := omega) [-Try.st47, -Try.ld47, fun (K : Value → Heap → Prop) => loadH (K := K) (q := true) (hw3.at.ext e6), eqlH]
  refine GuestH_c (fun h5 e7 _ => ?_) (fun h5 e7 hM => absurd XS_may hM)
  have g2 : XS.guest = 2 := by decide
  have g1 : XS.tables = 1 := by decide
  simp (disch := omega) [-Try.st47, -Try.ld47, fun (K : Value → Heap → Prop) => loadH (K := K) (q := true) ((hw3.at.ext e6).ext e7), g2]
  refine TablesH_c (fun h6 e8 _ => ?_) (fun h6 e8 hM => absurd XS_may hM)
  simp (disch := omega) [g1]
  exact H _ (((((((e1.trans e2).trans e3).trans e5).trans e6).trans e7).trans e8))
end Go.Proofs.Ytgnmjcljljfldaa

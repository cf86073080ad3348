/- Heads: the reference's reading, the walk. -/
import Derived.Test.YtgnmjcljljfldaaHead10
set_option linter.unusedSimpArgs false
set_option linter.unusedVariables false
namespace Go.Proofs.Ytgnmjcljljfldaa
open Go.Vc
variable {K : Value → Heap → Prop} {h : Heap}

theorem tk512 {l : List UInt8} {p n : Nat} (hp : p + n ≤ 512) : ((l.take 512).drop p).take n = (l.drop p).take n := by
  rw [List.drop_take, List.take_take]
  congr 1; omega
theorem hdR_512 {l : List UInt8} (hn : leN ((l.drop 84).take 4) ≤ 64) : hdR (l.take 512) = hdR l := by
  unfold hdR numR
  rw [tk512 (p := 84) (n := 4) (by omega), tk512 (p := 88) (n := leN ((l.drop 84).take 4)) (by omega)]
  rw [tk512 (p := 4) (n := 4) (by omega), tk512 (p := 8) (n := 8) (by omega), tk512 (p := 16) (n := 8) (by omega), tk512 (p := 24) (n := 8) (by omega), tk512 (p := 32) (n := 4) (by omega), tk512 (p := 36) (n := 4) (by omega), tk512 (p := 40) (n := 8) (by omega), tk512 (p := 48) (n := 4) (by omega), tk512 (p := 52) (n := 4) (by omega), tk512 (p := 56) (n := 8) (by omega), tk512 (p := 64) (n := 4) (by omega), tk512 (p := 68) (n := 4) (by omega), tk512 (p := 72) (n := 8) (by omega), tk512 (p := 80) (n := 4) (by omega)]

set_option maxHeartbeats 8000000 in
theorem RRead_c {v : Value} {l : List UInt8} (hB : Bytes h v l) (hl : l.length < 1000000)
    (ht : ∀ h' x, Ext h h' → 512 ≤ l.length → MayH x → hdB x = l.take 512 → K (.tuple #[x.val, .bool true]) h') (hf : ∀ h', Ext h h' → ¬ IsHd l → K (.tuple #[Hd0.val, .bool false]) h') :
    CallsH Try.prog 19 #[v] h K ⟨⟩ := by
  obtain ⟨o, q0, rfl⟩ := hB.form
  refine n19_calls ?_
  unfold n19
  refine allocH fun g e0 hz zg => ?_
  have hz : HdW g h.size Hd0 := hz
  by_cases h512 : l.length < 512
  · skip
    simp (disch := omega) [-Try.st47, -Try.ld47, -Try.al47]
    refine storeH (x := Hd0) hz fun g6 m6 hw6 => ?_
    rw [loadCellH hw6.at]
    exact hf _ (m6.ext_from (e0) (fun b hb e => by omega)) (fun i => by have := i.1; omega)
  have hBg := hB.ext e0
  simp (disch := omega) [-Try.st47, -Try.ld47, -Try.al47]
  refine RNum_c (p := 84) (n := 4) hBg (.refl _) hl (by omega) (by omega) (by omega) ?_
  obtain ⟨n84, hn84⟩ : ∃ n, leN ((l.drop 84).take 4) = n := ⟨_, rfl⟩
  have hnb : n84 < 4294967296 := by
    have := leN_lt ((l.drop 84).take 4)
    rw [List.length_take, List.length_drop, Nat.min_eq_left (by omega), show (256 : Nat) ^ 4 = 4294967296 by decide] at this
    omega
  have hnr : numR l 84 4 = n84 := by
    unfold numR
    rw [hn84, if_neg (by omega)]
  rw [hnr]
  by_cases h64 : 64 < n84
  · have hno : ¬ IsHd l := fun i => by
      obtain ⟨-, x, hx, hxl⟩ := i
      have h1 := (hdB_back hx).1
      rw [hxl, tk512 (by omega), hn84] at h1
      have := hx.bd.2.2.2.2
      omega
    have h64' : (64 : Int) < n84 := by omega
    simp (disch := omega) [-Try.st47, -Try.ld47, -Try.al47, h64']
    refine storeH (x := Hd0) hz fun g6 m6 hw6 => ?_
    rw [loadCellH hw6.at]
    exact hf _ (m6.ext_from (e0) (fun b hb e => by omega)) (hno)
  have h64' : ¬ (64 : Int) < n84 := by omega
  obtain ⟨u8, hu8, su8⟩ := slB2 hBg (by omega) 8 16 (by omega) (by omega) (by omega)
  obtain ⟨u9, hu9, su9⟩ := slB2 hBg (by omega) 88 (88 + n84) (by omega) (by omega) (by omega)
  have hu8' : Bytes g u8 ((l.drop 8).take 8) := by
    have : (l.take (16 : Int).toNat).drop (8 : Int).toNat = (l.drop 8).take 8 := by rw [List.drop_take]; rfl
    rw [← this]; exact hu8
  have hu9' : Bytes g u9 ((l.drop 88).take n84) := by
    have : (l.take (88 + (n84 : Int)).toNat).drop (88 : Int).toNat = (l.drop 88).take n84 := by
      rw [show (88 + (n84 : Int)).toNat = 88 + n84 by omega, show (88 : Int).toNat = 88 from rfl, List.drop_take, Nat.add_sub_cancel_left]
    rw [← this]; exact hu9
  simp (disch := omega) [-Try.st47, -Try.ld47, -Try.al47, h64']
  have hX : (⟨numR l 4 4, leN ((l.drop 8).take 8), numR l 16 8, numR l 24 8, numR l 32 4, numR l 36 4, numR l 40 8, numR l 48 4, numR l 52 4, numR l 56 8, numR l 64 4, numR l 68 4, numR l 72 8, numR l 80 4, (l.drop 88).take n84⟩ : Hd) = hdR l := by unfold hdR; rw [hn84]
  refine JoinN_in1 (fun w g' => w = .pointer (some ⟨g.size, 0, none⟩) ∧ HdW g' g.size ⟨numR l 4 4, leN ((l.drop 8).take 8), numR l 16 8, numR l 24 8, numR l 32 4, numR l 36 4, numR l 40 8, numR l 48 4, numR l 52 4, numR l 56 8, numR l 64 4, numR l 68 4, numR l 72 8, numR l 80 4, (l.drop 88).take n84⟩ ∧ Ext g g') (fun kk hkk => ?_) (fun w g' hx => ?_)
  · have cvg := fun q K => Try.cv26_9 (q := q) (K := K) hu9'
    have cv2 := fun q K => Try.cv26_9 (q := q) (K := K) hu9'
    simp (disch := omega) [-Try.st47, -Try.ld47, -Try.al47, su8, su9, cvg]
    repeat' (first | (refine And.intro ?_ ?_) | (refine RNum_c (p := 4) (n := 4) hBg (by first | exact Ext.refl _ | assumption) hl (by omega) (by omega) (by omega) ?_; (try simp (disch := omega) [-Try.st47, -Try.ld47, -Try.al47, cvg, cv2])) | (refine RNum_c (p := 16) (n := 8) hBg (by first | exact Ext.refl _ | assumption) hl (by omega) (by omega) (by omega) ?_; (try simp (disch := omega) [-Try.st47, -Try.ld47, -Try.al47, cvg, cv2])) | (refine RNum_c (p := 24) (n := 8) hBg (by first | exact Ext.refl _ | assumption) hl (by omega) (by omega) (by omega) ?_; (try simp (disch := omega) [-Try.st47, -Try.ld47, -Try.al47, cvg, cv2])) | (refine RNum_c (p := 32) (n := 4) hBg (by first | exact Ext.refl _ | assumption) hl (by omega) (by omega) (by omega) ?_; (try simp (disch := omega) [-Try.st47, -Try.ld47, -Try.al47, cvg, cv2])) | (refine RNum_c (p := 36) (n := 4) hBg (by first | exact Ext.refl _ | assumption) hl (by omega) (by omega) (by omega) ?_; (try simp (disch := omega) [-Try.st47, -Try.ld47, -Try.al47, cvg, cv2])) | (refine RNum_c (p := 40) (n := 8) hBg (by first | exact Ext.refl _ | assumption) hl (by omega) (by omega) (by omega) ?_; (try simp (disch := omega) [-Try.st47, -Try.ld47, -Try.al47, cvg, cv2])) | (refine RNum_c (p := 48) (n := 4) hBg (by first | exact Ext.refl _ | assumption) hl (by omega) (by omega) (by omega) ?_; (try simp (disch := omega) [-Try.st47, -Try.ld47, -Try.al47, cvg, cv2])) | (refine RNum_c (p := 52) (n := 4) hBg (by first | exact Ext.refl _ | assumption) hl (by omega) (by omega) (by omega) ?_; (try simp (disch := omega) [-Try.st47, -Try.ld47, -Try.al47, cvg, cv2])) | (refine RNum_c (p := 56) (n := 8) hBg (by first | exact Ext.refl _ | assumption) hl (by omega) (by omega) (by omega) ?_; (try simp (disch := omega) [-Try.st47, -Try.ld47, -Try.al47, cvg, cv2])) | (refine RNum_c (p := 64) (n := 4) hBg (by first | exact Ext.refl _ | assumption) hl (by omega) (by omega) (by omega) ?_; (try simp (disch := omega) [-Try.st47, -Try.ld47, -Try.al47, cvg, cv2])) | (refine RNum_c (p := 68) (n := 4) hBg (by first | exact Ext.refl _ | assumption) hl (by omega) (by omega) (by omega) ?_; (try simp (disch := omega) [-Try.st47, -Try.ld47, -Try.al47, cvg, cv2])) | (refine RNum_c (p := 72) (n := 8) hBg (by first | exact Ext.refl _ | assumption) hl (by omega) (by omega) (by omega) ?_; (try simp (disch := omega) [-Try.st47, -Try.ld47, -Try.al47, cvg, cv2])) | (refine RNum_c (p := 80) (n := 4) hBg (by first | exact Ext.refl _ | assumption) hl (by omega) (by omega) (by omega) ?_; (try simp (disch := omega) [-Try.st47, -Try.ld47, -Try.al47, cvg, cv2])) | (refine Value_c (hu8'.ext (by first | exact Ext.refl _ | assumption)) (by simp; omega) ?_; (try simp (disch := omega) [-Try.st47, -Try.ld47, -Try.al47, cvg, cv2])) | (refine allocH fun g2 e2 hz2 zg2 => ?_; have cv2 := fun q K => Try.cv26_9 (q := q) (K := K) (hu9'.ext e2); (try simp (disch := omega) [-Try.st47, -Try.ld47, -Try.al47, cvg, cv2])) | (refine storeH (x := ⟨numR l 4 4, leN ((l.drop 8).take 8), numR l 16 8, numR l 24 8, numR l 32 4, numR l 36 4, numR l 40 8, numR l 48 4, numR l 52 4, numR l 56 8, numR l 64 4, numR l 68 4, numR l 72 8, numR l 80 4, (l.drop 88).take n84⟩) hz2 fun g3 m3 hw3 => ?_; exact hkk _ _ ⟨rfl, hw3, m3.ext_from e2 (fun b hb e => by omega)⟩))
  · obtain ⟨rfl, hw, e5⟩ := hx
    rw [hX] at hw
    have hno : ∀ x, MayH x → hdB x = l.take 512 → x = hdR l := fun x hx hxl => by
      rw [← hdR_512 (by omega), ← hxl, hdR_hdB hx]
    have hT : Bytes g' (.slice o l.length q0) l := hBg.ext e5
    rw [loadH hw.at]
    refine May_c (x := hdR l) (by show ((l.drop 88).take _).length < _; rw [List.length_take, List.length_drop]; omega) (fun h6 e6 hM => ?_) (fun h6 e6 hM => ?_)
    · obtain ⟨u, hu, su⟩ := slB0 (hT.ext e6) (by omega) 512 (by omega) (by omega)
      have hw6 := hw.ext e6
      have hz6 := hz.ext (e5.trans e6)
      have E6 := e0.trans (e5.trans e6)
      have lx := fun q K => loadH (q := q) (K := K) hw6.at
      have cu := fun q K => Try.cv26_9 (q := q) (K := K) hu
      simp (disch := omega) [-Try.st47, -Try.ld47, -Try.al47, lx, su, cu]
      refine RBytes_c hM fun vv h7 e7 hB7 => ?_
      have cu7 := fun q K => Try.cv26_9 (q := q) (K := K) (hu.ext e7)
      have c7 := fun q K => Try.cv26_9 (q := q) (K := K) hB7
      have hw7 := hw6.ext e7
      have hz7 := hz6.ext e7
      have lx7 := fun q K => loadH (q := q) (K := K) hw7.at
      have E7 := E6.trans e7
      by_cases he : hdB (hdR l) = l.take 512
      · simp (disch := omega) [-Try.st47, -Try.ld47, -Try.al47, lx7, cu7, c7, he]
        refine storeH (x := hdR l) hz7 fun g8 m8 hw8 => ?_
        rw [loadCellH hw8.at]
        exact ht _ _ (m8.ext_from E7 (fun b hb e => by omega)) (by omega) hM he
      · simp (disch := omega) [-Try.st47, -Try.ld47, -Try.al47, lx7, cu7, c7, he]
        refine storeH (x := Hd0) hz7 fun g6 m6 hw6 => ?_
        rw [loadCellH hw6.at]
        exact hf _ (m6.ext_from (E7) (fun b hb e => by omega)) (fun i => i.2.elim fun x hx => he (by rw [← hno x hx.1 hx.2]; exact hx.2))
    · have hz6 := hz.ext (e5.trans e6)
      have E6 := e0.trans (e5.trans e6)
      simp (disch := omega) [-Try.st47, -Try.ld47, -Try.al47]
      refine storeH (x := Hd0) hz6 fun g6 m6 hw6 => ?_
      rw [loadCellH hw6.at]
      exact hf _ (m6.ext_from (E6) (fun b hb e => by omega)) (fun i => i.2.elim fun x hx => hM (by rw [← hno x hx.1 hx.2]; exact hx.1))
end Go.Proofs.Ytgnmjcljljfldaa

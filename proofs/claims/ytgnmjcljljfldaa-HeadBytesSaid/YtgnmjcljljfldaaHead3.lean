/- Heads: the reference's word on what may be; what is asked of a head. -/
import Derived.Test.YtgnmjcljljfldaaHead2
import Derived.Test.YtgnmjcljljfldaaTab7
set_option linter.unusedSimpArgs false
set_option linter.unusedVariables false
namespace Go.Proofs.Ytgnmjcljljfldaa
open Go.Vc
variable {K : Value → Heap → Prop} {h : Heap}

theorem RListB_c {n p l b : Int} {B : Bool} (hB : B = decide (ListOk n p l b)) (h0 : 9 ≤ b) (h1 : b ≤ 16) (H : K (.bool B) h) : CallsH Try.prog 63 #[.int .i64 n, .int .i64 p, .int .i64 l, .int .i64 b] h K ⟨⟩ := RList_c h0 h1 (hB ▸ H)
set_option maxHeartbeats 4000000 in
theorem May_c {x : Hd} (hbl : x.back.length < 9223372036854775808) (ht : ∀ h', Ext h h' → MayH x → K (.bool true) h') (hf : ∀ h', Ext h h' → ¬ MayH x → K (.bool false) h') : CallsH Try.prog 22 #[x.val] h K ⟨⟩ := by
  refine n22_calls ?_
  unfold n22
  rw [boxH]
  have hA := HdAt.new (h := h) x
  have e1 : Ext h (h.push (.cells x.cells.toArray 47)) := (by repeat' (first | (with_reducible exact Ext.refl _) | (with_reducible assumption) | (with_reducible refine push_ext ?_) | (with_reducible refine hset_ext ?_ ?_) | (with_reducible refine Ext.trans ?_ (by assumption)) | omega | (simp; done) | (simp; omega) | (refine Ext.size ?_) | (refine Nat.le_succ_of_le (Ext.size ?_))))
  generalize h.push (.cells x.cells.toArray 47) = g at *
  obtain ⟨b0, b1, b2, b3, b4, b5, b6, b7, b8, b9, b10, b11, b12, b13, b14⟩ := id hA
  have E2 := e1
  by_cases c1 : x.bits < 9
  · skip
    simp (disch := omega) [b0, b1, b2, b3, b4, b5, b6, b7, b8, b9, b10, b11, b12, b13, b14, c1]
    exact hf _ E2 (fun m => by have := m.1.1; omega)
  by_cases c2 : 16 < x.bits
  · skip
    simp (disch := omega) [b0, b1, b2, b3, b4, b5, b6, b7, b8, b9, b10, b11, b12, b13, b14, c1, c2]
    exact hf _ E2 (fun m => by have := m.1.2.1; omega)
  by_cases c3 : 1 < x.flags
  · skip
    simp (disch := omega) [b0, b1, b2, b3, b4, b5, b6, b7, b8, b9, b10, b11, b12, b13, b14, c1, c2, c3]
    exact hf _ E2 (fun m => by have := m.1.2.2.1; omega)
  by_cases c4 : x.size < 0
  · skip
    simp (disch := omega) [b0, b1, b2, b3, b4, b5, b6, b7, b8, b9, b10, b11, b12, b13, b14, c1, c2, c3, c4]
    exact hf _ E2 (fun m => by have := m.1.2.2.2.1; omega)
  by_cases c5 : 67108864 < x.size
  · skip
    simp (disch := omega) [b0, b1, b2, b3, b4, b5, b6, b7, b8, b9, b10, b11, b12, b13, b14, c1, c2, c3, c4, c5]
    exact hf _ E2 (fun m => by have := m.1.2.2.2.2.1; omega)
  by_cases c6 : x.size % 512 = 0
  case neg =>
    simp (disch := omega) [b0, b1, b2, b3, b4, b5, b6, b7, b8, b9, b10, b11, b12, b13, b14, c1, c2, c3, c4, c5, c6]
    exact hf _ E2 (fun m => c6 m.1.2.2.2.2.2)
  have hMA : MayA x := ⟨by omega, by omega, by omega, by omega, by omega, c6⟩
  have h0 : 9 ≤ x.bits := by omega
  have h1 : x.bits ≤ 16 := by omega
  by_cases l0 : x.l1len < 0
  · skip
    simp (disch := omega) [b0, b1, b2, b3, b4, b5, b6, b7, b8, b9, b10, b11, b12, b13, b14, c1, c2, c3, c4, c5, c6, l0]
    exact hf _ E2 (fun m => by have := m.2.1.1; omega)
  by_cases l2 : 1048576 < x.l1len
  · skip
    simp (disch := omega) [b0, b1, b2, b3, b4, b5, b6, b7, b8, b9, b10, b11, b12, b13, b14, c1, c2, c3, c4, c5, c6, l0, l2]
    exact hf _ E2 (fun m => by have := m.2.1.2.1; omega)
  simp (disch := omega) [b0, b1, b2, b3, b4, b5, b6, b7, b8, b9, b10, b11, b12, b13, b14, c6, loadH hA]
  refine RTables_c h0 h1 (by omega) (by omega) fun h2 e2 => ?_
  replace hA := hA.ext e2
  replace E2 := e1.trans e2
  clear b0 b1 b2 b3 b4 b5 b6 b7 b8 b9 b10 b11 b12 b13 b14
  obtain ⟨b0, b1, b2, b3, b4, b5, b6, b7, b8, b9, b10, b11, b12, b13, b14⟩ := id hA
  by_cases lt : x.l1len < x.tables
  · skip
    simp (disch := omega) [b0, b1, b2, b3, b4, b5, b6, b7, b8, b9, b10, b11, b12, b13, b14, lt]
    exact hf _ E2 (fun m => by have := m.2.1.2.2; omega)
  by_cases o0 : x.order < 0
  · skip
    simp (disch := omega) [b0, b1, b2, b3, b4, b5, b6, b7, b8, b9, b10, b11, b12, b13, b14, lt, o0]
    exact hf _ E2 (fun m => by have := m.2.2.2.1.1; omega)
  by_cases o6 : 6 < x.order
  · skip
    simp (disch := omega) [b0, b1, b2, b3, b4, b5, b6, b7, b8, b9, b10, b11, b12, b13, b14, lt, o0, o6]
    exact hf _ E2 (fun m => by have := m.2.2.2.1.2; omega)
  by_cases k0 : x.clen < 1
  · skip
    simp (disch := omega) [b0, b1, b2, b3, b4, b5, b6, b7, b8, b9, b10, b11, b12, b13, b14, lt, o0, o6, k0]
    exact hf _ E2 (fun m => by have := m.2.2.2.2.1.2.1; omega)
  by_cases k6 : 65536 < x.clen
  · skip
    simp (disch := omega) [b0, b1, b2, b3, b4, b5, b6, b7, b8, b9, b10, b11, b12, b13, b14, lt, o0, o6, k0, k6]
    exact hf _ E2 (fun m => by have := m.2.2.2.2.1.2.2; omega)
  by_cases lz : x.l1len = 0
  · by_cases l1z : x.l1 = 0
    · skip
      simp (disch := omega) [b0, b1, b2, b3, b4, b5, b6, b7, b8, b9, b10, b11, b12, b13, b14, lt, o0, o6, k0, k6, lz, l1z]
      refine Place_c h0 h1 (fun pc => ?_) (fun pc => ?_)
      · have pc : PlaceOk x.counts x.bits := pc
        simp (disch := omega) [b0, b1, b2, b3, b4, b5, b6, b7, b8, b9, b10, b11, b12, b13, b14]
        obtain ⟨B1, hB1⟩ : ∃ B, B = decide (ListOk x.snaps x.sat x.slen x.bits) := ⟨_, rfl⟩
        obtain ⟨B2, hB2⟩ : ∃ B, B = decide (ListOk x.maps x.mat x.mlen x.bits) := ⟨_, rfl⟩
        refine RListB_c hB1 h0 h1 ?_
        simp (disch := omega) [b0, b1, b2, b3, b4, b5, b6, b7, b8, b9, b10, b11, b12, b13, b14]
        refine RListB_c hB2 h0 h1 ?_
        refine loopA1 (fun k : Nat => .int .i64 k) (fun k h' => h' = h2 ∧ k ≤ x.back.length ∧ ∀ j (hj : j < x.back.length), j < k → x.back[j] ≠ 0) (fun k => x.back.length - k) 0 rfl ⟨rfl, by omega, fun j _ hj => by omega⟩ ?_
        rintro k h' ⟨rfl, hk, hno⟩
        by_cases hkn : k = x.back.length
        · have hz0 : (0 : UInt8) ∉ x.back := fun hm => by
            obtain ⟨j, hj, he⟩ := List.mem_iff_getElem.1 hm
            exact hno j hj (by omega) he
          cases B1
          case false =>
            simp (disch := omega) [b0, b1, b2, b3, b4, b5, b6, b7, b8, b9, b10, b11, b12, b13, b14, hkn]
            exact hf _ E2 (fun m => of_decide_eq_false hB1.symm m.2.2.2.2.2.1)
          case true =>
            have ls1 := of_decide_eq_true hB1.symm
            cases B2
            case false =>
              simp (disch := omega) [b0, b1, b2, b3, b4, b5, b6, b7, b8, b9, b10, b11, b12, b13, b14, hkn]
              exact hf _ E2 (fun m => of_decide_eq_false hB2.symm m.2.2.2.2.2.2.1)
            case true =>
              have ls2 := of_decide_eq_true hB2.symm
              by_cases bl : x.back.length ≤ 64
              · simp (disch := omega) [b14, hkn]
                exact ht _ E2 ⟨hMA, ⟨by omega, by omega, by omega⟩, by first | exact .inl ⟨by omega, by omega⟩ | exact .inr ⟨by omega, pl⟩, ⟨by omega, by omega⟩, ⟨pc, by omega, by omega⟩, ls1, ls2, bl, hz0⟩
              · skip
                simp (disch := omega) [b0, b1, b2, b3, b4, b5, b6, b7, b8, b9, b10, b11, b12, b13, b14, hkn, bl]
                exact hf _ E2 (fun m => bl m.2.2.2.2.2.2.2.1)
        · have hkl : k < x.back.length := by omega
          by_cases hz : x.back[k] = 0
          · have hz' : ((x.back[k]).toNat : Int) = 0 := by rw [hz]; rfl
            simp (disch := omega) [b0, b1, b2, b3, b4, b5, b6, b7, b8, b9, b10, b11, b12, b13, b14, hkl, hz', hz]
            exact hf _ E2 (fun m => m.2.2.2.2.2.2.2.2 (hz ▸ List.getElem_mem hkl))
          · have hz' : ¬ ((x.back[k]).toNat : Int) = 0 := fun e => hz (UInt8.toNat_inj.1 (by simpa using e))
            simp (disch := omega) [b14, hkl, hz', hz]
            refine ⟨k + 1, by simp, ⟨by omega, fun j hj hjk => ?_⟩, by omega⟩
            by_cases e : j = k
            · subst e; exact hz
            · exact hno j hj (by omega)
      · have pc : ¬ PlaceOk x.counts x.bits := pc
        simp (disch := omega) [b0, b1, b2, b3, b4, b5, b6, b7, b8, b9, b10, b11, b12, b13, b14]
        exact hf _ E2 (fun m => pc m.2.2.2.2.1.1)
    · skip
      simp (disch := omega) [b0, b1, b2, b3, b4, b5, b6, b7, b8, b9, b10, b11, b12, b13, b14, lt, o0, o6, k0, k6, lz, l1z]
      exact hf _ E2 (fun m => by have := m.2.2.1; omega)
  · simp (disch := omega) [b0, b1, b2, b3, b4, b5, b6, b7, b8, b9, b10, b11, b12, b13, b14, lt, o0, o6, k0, k6, lz]
    refine Place_c h0 h1 (fun pl => ?_) (fun pl => ?_)
    · have pl : PlaceOk x.l1 x.bits := pl
      simp (disch := omega) [b0, b1, b2, b3, b4, b5, b6, b7, b8, b9, b10, b11, b12, b13, b14, lz]
      refine Place_c h0 h1 (fun pc => ?_) (fun pc => ?_)
      · have pc : PlaceOk x.counts x.bits := pc
        simp (disch := omega) [b0, b1, b2, b3, b4, b5, b6, b7, b8, b9, b10, b11, b12, b13, b14]
        obtain ⟨B1, hB1⟩ : ∃ B, B = decide (ListOk x.snaps x.sat x.slen x.bits) := ⟨_, rfl⟩
        obtain ⟨B2, hB2⟩ : ∃ B, B = decide (ListOk x.maps x.mat x.mlen x.bits) := ⟨_, rfl⟩
        refine RListB_c hB1 h0 h1 ?_
        simp (disch := omega) [b0, b1, b2, b3, b4, b5, b6, b7, b8, b9, b10, b11, b12, b13, b14]
        refine RListB_c hB2 h0 h1 ?_
        refine loopA1 (fun k : Nat => .int .i64 k) (fun k h' => h' = h2 ∧ k ≤ x.back.length ∧ ∀ j (hj : j < x.back.length), j < k → x.back[j] ≠ 0) (fun k => x.back.length - k) 0 rfl ⟨rfl, by omega, fun j _ hj => by omega⟩ ?_
        rintro k h' ⟨rfl, hk, hno⟩
        by_cases hkn : k = x.back.length
        · have hz0 : (0 : UInt8) ∉ x.back := fun hm => by
            obtain ⟨j, hj, he⟩ := List.mem_iff_getElem.1 hm
            exact hno j hj (by omega) he
          cases B1
          case false =>
            simp (disch := omega) [b0, b1, b2, b3, b4, b5, b6, b7, b8, b9, b10, b11, b12, b13, b14, hkn]
            exact hf _ E2 (fun m => of_decide_eq_false hB1.symm m.2.2.2.2.2.1)
          case true =>
            have ls1 := of_decide_eq_true hB1.symm
            cases B2
            case false =>
              simp (disch := omega) [b0, b1, b2, b3, b4, b5, b6, b7, b8, b9, b10, b11, b12, b13, b14, hkn]
              exact hf _ E2 (fun m => of_decide_eq_false hB2.symm m.2.2.2.2.2.2.1)
            case true =>
              have ls2 := of_decide_eq_true hB2.symm
              by_cases bl : x.back.length ≤ 64
              · simp (disch := omega) [b14, hkn]
                exact ht _ E2 ⟨hMA, ⟨by omega, by omega, by omega⟩, by first | exact .inl ⟨by omega, by omega⟩ | exact .inr ⟨by omega, pl⟩, ⟨by omega, by omega⟩, ⟨pc, by omega, by omega⟩, ls1, ls2, bl, hz0⟩
              · skip
                simp (disch := omega) [b0, b1, b2, b3, b4, b5, b6, b7, b8, b9, b10, b11, b12, b13, b14, hkn, bl]
                exact hf _ E2 (fun m => bl m.2.2.2.2.2.2.2.1)
        · have hkl : k < x.back.length := by omega
          by_cases hz : x.back[k] = 0
          · have hz' : ((x.back[k]).toNat : Int) = 0 := by rw [hz]; rfl
            simp (disch := omega) [b0, b1, b2, b3, b4, b5, b6, b7, b8, b9, b10, b11, b12, b13, b14, hkl, hz', hz]
            exact hf _ E2 (fun m => m.2.2.2.2.2.2.2.2 (hz ▸ List.getElem_mem hkl))
          · have hz' : ¬ ((x.back[k]).toNat : Int) = 0 := fun e => hz (UInt8.toNat_inj.1 (by simpa using e))
            simp (disch := omega) [b14, hkl, hz', hz]
            refine ⟨k + 1, by simp, ⟨by omega, fun j hj hjk => ?_⟩, by omega⟩
            by_cases e : j = k
            · subst e; exact hz
            · exact hno j hj (by omega)
      · have pc : ¬ PlaceOk x.counts x.bits := pc
        simp (disch := omega) [b0, b1, b2, b3, b4, b5, b6, b7, b8, b9, b10, b11, b12, b13, b14]
        exact hf _ E2 (fun m => pc m.2.2.2.2.1.1)
    · have pl : ¬ PlaceOk x.l1 x.bits := pl
      simp (disch := omega) [b0, b1, b2, b3, b4, b5, b6, b7, b8, b9, b10, b11, b12, b13, b14, lz]
      exact hf _ E2 (fun m => m.2.2.1.elim (fun e => lz e.1) (fun e => pl e.2))

theorem asked_c {x : Hd} {f : Value} {r : Int} (hv : MayH x → ∀ h', Ext h h' → (∀ g, Ext h' g → K (.int .i64 r) g) → InvokeH Try.prog f #[.int .i64 (2 ^ x.bits.toNat)] h' K ⟨⟩) (ht : ∀ h', Ext h h' → MayH x → K (.int .i64 r) h') (hf : ∀ h', Ext h h' → ¬ MayH x → K (.int .i64 0) h') :
    CallsH Try.prog 64 #[x.val, f] h K ⟨⟩ := by
  refine n64_calls ?_
  unfold n64
  rw [boxH]
  have hA := HdAt.new (h := h) x
  have e1 : Ext h (h.push (.cells x.cells.toArray 47)) := (by repeat' (first | (with_reducible exact Ext.refl _) | (with_reducible assumption) | (with_reducible refine push_ext ?_) | (with_reducible refine hset_ext ?_ ?_) | (with_reducible refine Ext.trans ?_ (by assumption)) | omega | (simp; done) | (simp; omega) | (refine Ext.size ?_) | (refine Nat.le_succ_of_le (Ext.size ?_))))
  generalize h.push (.cells x.cells.toArray 47) = g at *
  rw [loadH hA]
  refine Check_c (fun h2 e2 hM => ?_) (fun h2 e2 hM => ?_)
  · have hA2 := hA.ext e2
    obtain ⟨h0, h1, -⟩ := hM.1
    have hc := clus h0 h1
    have hw : IntKind.i64.wrap (2 ^ x.bits.toNat) = 2 ^ x.bits.toNat := wrap_i64 (by omega) (by omega)
    simp (disch := omega) [hA2.1, Hp_shl, IntKind.bits, hw]
    exact hv hM _ (e1.trans e2) (fun g' e => ht _ ((e1.trans e2).trans e) hM)
  · simp (disch := omega)
    exact hf _ (e1.trans e2) hM
theorem ClusterH_c {x : Hd} (ht : ∀ h', Ext h h' → MayH x → K (.int .i64 (2 ^ x.bits.toNat)) h') (hf : ∀ h', Ext h h' → ¬ MayH x → K (.int .i64 0) h') : CallsH Try.prog 23 #[x.val] h K ⟨⟩ := by
  refine n23_calls ?_
  unfold n23
  rw [boxH]
  have hA := HdAt.new (h := h) x
  have e1 : Ext h (h.push (.cells x.cells.toArray 47)) := (by repeat' (first | (with_reducible exact Ext.refl _) | (with_reducible assumption) | (with_reducible refine push_ext ?_) | (with_reducible refine hset_ext ?_ ?_) | (with_reducible refine Ext.trans ?_ (by assumption)) | omega | (simp; done) | (simp; omega) | (refine Ext.size ?_) | (refine Nat.le_succ_of_le (Ext.size ?_))))
  generalize h.push (.cells x.cells.toArray 47) = g at *
  rw [loadH hA]
  try simp (disch := omega)
  refine asked_c (r := 2 ^ x.bits.toNat) (fun hM h2 e2 H => ?_) (fun h2 e2 hM => ht _ (e1.trans e2) hM) (fun h2 e2 hM => hf _ (e1.trans e2) hM)
  have hA2 := hA.ext e2
  obtain ⟨h0, h1, -, s0, s1, -⟩ := hM.1
  have hc := clus h0 h1
  refine InvokeH_f1 (by kernel_rfl) ?_
  refine n65_calls ?_
  unfold n65
  exact H _ (.refl _)
theorem EntriesH_c {x : Hd} (ht : ∀ h', Ext h h' → MayH x → K (.int .i64 (2 ^ x.bits.toNat / 8)) h') (hf : ∀ h', Ext h h' → ¬ MayH x → K (.int .i64 0) h') : CallsH Try.prog 24 #[x.val] h K ⟨⟩ := by
  refine n24_calls ?_
  unfold n24
  rw [boxH]
  have hA := HdAt.new (h := h) x
  have e1 : Ext h (h.push (.cells x.cells.toArray 47)) := (by repeat' (first | (with_reducible exact Ext.refl _) | (with_reducible assumption) | (with_reducible refine push_ext ?_) | (with_reducible refine hset_ext ?_ ?_) | (with_reducible refine Ext.trans ?_ (by assumption)) | omega | (simp; done) | (simp; omega) | (refine Ext.size ?_) | (refine Nat.le_succ_of_le (Ext.size ?_))))
  generalize h.push (.cells x.cells.toArray 47) = g at *
  rw [loadH hA]
  try simp (disch := omega)
  refine asked_c (r := 2 ^ x.bits.toNat / 8) (fun hM h2 e2 H => ?_) (fun h2 e2 hM => ht _ (e1.trans e2) hM) (fun h2 e2 hM => hf _ (e1.trans e2) hM)
  have hA2 := hA.ext e2
  obtain ⟨h0, h1, -, s0, s1, -⟩ := hM.1
  have hc := clus h0 h1
  refine InvokeH_f1 (by kernel_rfl) ?_
  refine n66_calls ?_
  unfold n66
  simp (disch := omega); exact H _ (.refl _)
theorem GuestH_c {x : Hd} (ht : ∀ h', Ext h h' → MayH x → K (.int .i64 (x.guest)) h') (hf : ∀ h', Ext h h' → ¬ MayH x → K (.int .i64 0) h') : CallsH Try.prog 25 #[x.val] h K ⟨⟩ := by
  refine n25_calls ?_
  unfold n25
  rw [boxH]
  have hA := HdAt.new (h := h) x
  have e1 : Ext h (h.push (.cells x.cells.toArray 47)) := (by repeat' (first | (with_reducible exact Ext.refl _) | (with_reducible assumption) | (with_reducible refine push_ext ?_) | (with_reducible refine hset_ext ?_ ?_) | (with_reducible refine Ext.trans ?_ (by assumption)) | omega | (simp; done) | (simp; omega) | (refine Ext.size ?_) | (refine Nat.le_succ_of_le (Ext.size ?_))))
  generalize h.push (.cells x.cells.toArray 47) = g at *
  rw [loadH hA]
  try simp (disch := omega)
  refine asked_c (r := x.guest) (fun hM h2 e2 H => ?_) (fun h2 e2 hM => ht _ (e1.trans e2) hM) (fun h2 e2 hM => hf _ (e1.trans e2) hM)
  have hA2 := hA.ext e2
  obtain ⟨h0, h1, -, s0, s1, -⟩ := hM.1
  have hc := clus h0 h1
  refine InvokeH_c1 (by kernel_rfl) ?_
  refine n67_calls ?_
  unfold n67
  simp (disch := omega) [hA2.2.2.1]; refine div_c s0 (by omega) (by omega) (by omega) ?_; exact H _ (.refl _)
theorem TablesH_c {x : Hd} (ht : ∀ h', Ext h h' → MayH x → K (.int .i64 (x.tables)) h') (hf : ∀ h', Ext h h' → ¬ MayH x → K (.int .i64 0) h') : CallsH Try.prog 26 #[x.val] h K ⟨⟩ := by
  refine n26_calls ?_
  unfold n26
  rw [boxH]
  have hA := HdAt.new (h := h) x
  have e1 : Ext h (h.push (.cells x.cells.toArray 47)) := (by repeat' (first | (with_reducible exact Ext.refl _) | (with_reducible assumption) | (with_reducible refine push_ext ?_) | (with_reducible refine hset_ext ?_ ?_) | (with_reducible refine Ext.trans ?_ (by assumption)) | omega | (simp; done) | (simp; omega) | (refine Ext.size ?_) | (refine Nat.le_succ_of_le (Ext.size ?_))))
  generalize h.push (.cells x.cells.toArray 47) = g at *
  rw [loadH hA]
  try simp (disch := omega)
  refine asked_c (r := x.tables) (fun hM h2 e2 H => ?_) (fun h2 e2 hM => ht _ (e1.trans e2) hM) (fun h2 e2 hM => hf _ (e1.trans e2) hM)
  have hA2 := hA.ext e2
  obtain ⟨h0, h1, -, s0, s1, -⟩ := hM.1
  have hc := clus h0 h1
  refine InvokeH_c1 (by kernel_rfl) ?_
  refine n69_calls ?_
  unfold n69
  rw [loadH hA2]; refine tables_c h0 h1 s0 s1 fun h3 e3 => ?_; exact H _ e3
end Go.Proofs.Ytgnmjcljljfldaa

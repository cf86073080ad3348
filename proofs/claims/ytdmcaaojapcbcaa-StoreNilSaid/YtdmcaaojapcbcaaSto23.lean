/- Store: two of the same. -/
import Derived.Test.YtdmcaaojapcbcaaStoG
set_option linter.unusedSimpArgs false
set_option linter.unusedVariables false
namespace Go.Proofs.Ytdmcaaojapcbcaa
open Go.Vc
variable {K : Value → Heap → Prop} {h : Heap}

theorem bEqual_c {v w : Value} {l : List UInt8} (hv : Bytes h v l) (hw : Bytes h w l) (H : K (.bool true) h) : CallsH Try.prog 65 #[v, w] h K ⟨⟩ := by
  refine n65_calls ?_
  unfold n65
  rw [Hp_bytesStr (e := bT) (by kernel_rfl) (by kernel_rfl) (by kernel_rfl) hv, Hp_bytesStr (e := bT) (by kernel_rfl) (by kernel_rfl) (by kernel_rfl) hw]
  simp (disch := omega)
  exact H
theorem fileEq_c {x y : Fh} (a : FlAt h x) (b : FlAt h y) (hl : x.last = y.last) (hx : x.qs = []) (hy : y.qs = []) (H : K (.bool true) h) : InvokeH Try.prog (.func (.func 64) #[] #[]) #[ptrV x.b, ptrV y.b] h K ⟨⟩ := by
  refine InvokeH_f2 (by kernel_rfl) ?_
  refine n64_calls ?_
  unfold n64 ptrV
  have x0 := cellOf (i := 0) a.cells rfl
  have y0 := cellOf (i := 0) b.cells rfl
  have x1 := cellOf (i := 1) a.cells rfl
  have y1 := cellOf (i := 1) b.cells rfl
  obtain ⟨pa, pn, pc, hpv, hpl, hpc, -⟩ := a.ps.form
  obtain ⟨qa, qn, qc, hqv, hql, hqc, -⟩ := b.ps.form
  rw [hx] at hpl
  rw [hy] at hql
  obtain rfl : pn = 0 := by simp at hpl; omega
  obtain rfl : qn = 0 := by simp at hql; omega
  have x1' : hcell h ⟨x.b, 1, none⟩ = some (.slice pa 0 pc) := hpv ▸ x1
  have y1' : hcell h ⟨y.b, 1, none⟩ = some (.slice qa 0 qc) := hqv ▸ y1
  have hb := b.last.bytes
  rw [← hl] at hb
  simp (disch := omega) [x0, y0]
  refine bEqual_c a.last.bytes hb ?_
  simp (disch := omega) [x1', y1']
  refine n66_calls ?_
  unfold n66
  simp (disch := omega)
  refine loopX1 (α := Unit) (fun _ => .int .i64 0) (fun _ g => g = h) (fun _ => 0) () rfl rfl ?_
  rintro _ g rfl X hX
  simp (disch := omega)
  exact H
set_option maxHeartbeats 2000000 in
theorem Same_c {p p' : Nat} {s s' : St} (a : StAt h p s) (b : StAt h p' s') (hlen : s.F.length = s'.F.length) (hm : ∀ x ∈ s.F, x.qs = [] ∧ ∃ y ∈ s'.F, y.name = x.name ∧ y.last = x.last ∧ y.qs = []) (H : ∀ h', Ext h h' → K (.bool true) h') :
    CallsH Try.prog 29 #[ptrV p, ptrV p'] h K ⟨⟩ := by
  refine n29_calls ?_
  unfold n29
  refine none_c a.cells ?_
  simp (disch := omega)
  refine none_c b.cells ?_
  have c0 := cellOf (i := 0) a.cells rfl
  have d0 := cellOf (i := 0) b.cells rfl
  unfold ptrV
  simp (disch := omega) [c0, d0]
  refine n63_calls ?_
  unfold n63
  have am := a.map
  have bm := b.map
  have ak : s.keys.length = s.F.length := List.length_map _
  have bk : s'.keys.length = s.F.length := by rw [hlen]; exact List.length_map _
  have hfew := a.few
  rw [Hp_lenMap am (by kernel_rfl), Hp_lenMap bm (by kernel_rfl), ak, bk]
  simp (disch := omega)
  refine Hp_rangeM (by kernel_rfl) am fun h1 e1 hit hs1 => ?_
  refine loopMap0 (fun I g => Ext h g) hit e1 ?_
  rintro I g hI hn hlt eg X hX
  refine Hp_next hI (fun i hi hiI g' m' hI' => ?_) (fun hall => ?_)
  · simp (disch := omega)
    have hiF : i < s.F.length := by omega
    have hx : s.F[i] ∈ s.F := List.getElem_mem hiF
    obtain ⟨hq, y, hy, hyn, hyl, hyq⟩ := hm _ hx
    have e1' : (s.keys[i]).1 = s.F[i].name := by simp [St.keys]
    have e2' : (s.keys[i]).2 = ptrV s.F[i].b := by simp [St.keys]
    have eg' : Ext h g' := m'.ext_from eg (fun b hb e => by omega)
    have lk := look_keys (l := s.F[i].name) s'.F
    have hyg : s'.F.find? (fun x => decide (x.name = s.F[i].name)) = some y := by
      have := (psOf_mem b hy).1
      rw [hyn] at this; exact this
    rw [hyg] at lk
    have bm' := (b.ext eg').map
    unfold St.keys at bm'
    rw [Hp_entry hI' hi]
    simp (disch := omega) [e1', e2']
    rw [Hp_lookup storeKey (z := .pointer none) (by kernel_rfl) bm', lk]
    simp (disch := omega)
    refine fileEq_c ((a.ext eg').fl _ hx) ((b.ext eg').fl _ hy) hyl.symm hq hyq ?_
    simp (disch := omega)
    exact hX i _ hiI hi hI' eg'
  · simp (disch := omega)
    exact H g eg
end Go.Proofs.Ytdmcaaojapcbcaa

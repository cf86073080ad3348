/- The document's store: bytes written. The laws' writes; the store and the document's, done alike. Both stores, of some writes. -/
import Derived.Test.YtdmcaaojapcbcaaRfsA
set_option linter.unusedSimpArgs false
set_option linter.unusedVariables false
namespace Go.Proofs.Ytdmcaaojapcbcaa
open Go.Vc
variable {K : Value → Heap → Prop} {h : Heap}

theorem growL_twice {l : List UInt8} {n m : Nat} (hn : n ≤ m) : growL (growL l n) m = growL l m := by
  unfold growL zeros
  rw [List.append_assoc, List.length_append, List.length_replicate, List.replicate_append_replicate]
  congr 2; omega
theorem writes_cut : ∀ (n : Nat) {k : Nat} {b : List UInt8} (f : Fl), b.length ≤ n → b ≠ [] → (f.writes (cutP k b)).last = growL f.last (k + b.length)
  | 0, k, b, f, hn, hb => absurd (List.length_eq_zero_iff.1 (by omega)) hb
  | n + 1, k, b, f, hn, hb => by
    have hl : 0 < b.length := List.length_pos_iff.2 hb
    rw [cutP_cons hb]
    show ((f.add _).writes _).last = _
    by_cases hd : b.drop (min b.length (512 - k % 512)) = []
    · rw [hd, cutP_nil]
      have h9 := congrArg List.length hd
      rw [List.length_drop] at h9
      simp at h9
      show growL f.last _ = _
      dsimp only
      rw [List.length_take]
      congr 1; omega
    · rw [writes_cut n _ (by rw [List.length_drop]; omega) hd]
      show growL (growL f.last _) _ = _
      dsimp only
      rw [List.length_take, List.length_drop, growL_twice (by omega)]
      congr 1; omega
set_option maxHeartbeats 4000000 in
theorem rWrite_c {p : Nat} {r : Rs} {l b : List UInt8} {k : Int} {v : Value} (a : RsAt h p r) (hl : l.length < 9223372036854775808) (hB : Bytes h v b) (hbl : b.length ≤ 1000000) (hv : b ≠ [] → ∀ c, blkV v = some c → ¬ r.foot p c)
    (k0 : -9223372036854775808 ≤ k) (k1 : k < 9223372036854775808) (hs : r.steps + 1 < 1000000)
    (H0 : ∀ e, (¬ okName l ∨ (∀ x ∈ r.X, x.f.name ≠ l) ∨ k < 0 ∨ (b ≠ [] ∧ 268435456 < k + b.length)) → K (.int .i64 e) h)
    (H1 : ∀ h' A x B pv, okName l → r.X = A ++ x :: B → x.f.name = l → 0 ≤ k → (b ≠ [] → k + b.length ≤ 268435456) → RUpd h h' p r ⟨A ++ ⟨x.f.writes (cutP k.toNat b), pv⟩ :: B, r.steps + 1, r.sv⟩ → K (.int .i64 0) h') :
    CallsH Try.prog 42 #[ptrV p, str l, .int .i64 k, v] h K ⟨⟩ := by
  refine n42_calls ?_
  unfold n42
  obtain ⟨ba, bc, rfl⟩ := hB.form
  refine rfind_c a hl (fun ho => ?_) (fun ho hn => ?_) (fun A x B ho hX hxn => ?_)
  · simp (disch := omega)
    exact H0 _ (.inl ho)
  · simp (disch := omega)
    exact H0 _ (.inr (.inl hn))
  by_cases hk0 : k < 0
  · simp (disch := omega) [hk0]
    exact H0 _ (.inr (.inr (.inl hk0)))
  have hAl : A.length < r.X.length := by rw [hX]; simp
  have hfew := a.few
  have hxi : r.X[A.length] = x := by simp [hX]
  have hx : x ∈ r.X := by rw [hX]; simp
  have hpf := a.pfew x hx
  have hst := a.stp
  have hok := a.ok x hx
  have hlast := hok.few
  by_cases hbig : b ≠ [] ∧ 268435456 < k + b.length
  · have hbl0 : 0 < b.length := List.length_pos_iff.2 hbig.1
    have hbg := hbig.2
    by_cases hk2 : 268435456 < k
    · simp (disch := omega) [hk0, hk2]
      exact H0 _ (.inr (.inr (.inr hbig)))
    · simp (disch := omega) [hk0, hk2]
      exact H0 _ (.inr (.inr (.inr hbig)))
  have hfin : b ≠ [] → k + b.length ≤ 268435456 := fun e => by
    exact Int.not_lt.1 fun e2 => hbig ⟨e, e2⟩
  have hkp : 0 ≤ k := Int.not_lt.1 hk0
  clear H0 hbig hk0
  obtain ⟨k, rfl⟩ := Int.eq_ofNat_of_zero_le hkp
  rw [Int.toNat_natCast] at H1
  by_cases hb : b = []
  · have hb0 : b.length = 0 := by rw [hb]; rfl
    simp (disch := omega)
    refine rstep_c a hs fun h2 u2 => ?_
    have a2 := u2.st
    obtain ⟨bb, o, c, hsv, hsc, hbb, r0, r1, r2, g0, g1, g2⟩ := a2.cellB (i := A.length) hAl
    dsimp only at hsv hsc r0 r1 r2
    rw [hxi] at r0 r1 r2
    have d0 : hcell h2 ⟨p, 0, none⟩ = some (.slice (some ⟨bb, o, none⟩) r.X.length c) := hsv ▸ cellOf (i := 0) a2.cells rfl
    have ox := a2.ps x hx
    obtain ⟨pa, pn, pc, hpv, hpl, hpc, hpne⟩ := ox.form
    rw [rpV_len] at hpl
    have hpn : pn = x.f.ps.length := by omega
    subst hpn
    rw [hpv] at r2 ox
    unfold ptrV
    simp (disch := omega) [d0, elt_mk, r0, r1, r2]
    refine (⟨_, rfl⟩ : ∃ f, f = hset (hset (hset (h2.push (.cells #[str [], str [], .slice none 0 0] rfT)) ⟨h2.size, 0, none⟩ (str x.f.name)) ⟨h2.size, 1, none⟩ (str x.f.last)) ⟨h2.size, 2, none⟩ (.slice pa x.f.ps.length pc)).elim fun g0 eg0 => ?_
    have e0 : Ext h2 g0 := by rw [eg0]; exact (by repeat' (first | (with_reducible exact Ext.refl _) | (with_reducible assumption) | (with_reducible refine push_ext ?_) | (with_reducible refine hset_ext ?_ ?_) | (with_reducible refine Ext.trans ?_ (by assumption)) | omega | (simp; done) | (simp; omega) | (refine Ext.size ?_) | (refine Nat.le_succ_of_le (Ext.size ?_))))
    have q0 : g0[h2.size]? = some (.cells #[str x.f.name, str x.f.last, .slice pa x.f.ps.length pc] rfT) := by
      rw [eg0]; exact obj_set (obj_set (obj_set (get_pushed rfl)))
    rw [show hset (hset (hset (h2.push (.cells #[str [], str [], .slice none 0 0] 99)) ⟨h2.size, 0, none⟩ (str x.f.name)) ⟨h2.size, 1, none⟩ (str x.f.last)) ⟨h2.size, 2, none⟩ (.slice pa x.f.ps.length pc) = g0 from eg0.symm]
    clear eg0
    have hvb : b ≠ [] → ∀ c, blkV (.slice ba b.length bc) = some c → c < h2.size := fun hb c hc => by have := hB.lt hc hb; have := u2.mod.size; omega
    have hB2 : Bytes h2 (.slice ba b.length bc) b := hB.modX u2.mod (fun c hc hcb _ => hv hc c hcb)
    have z0 := e0.size
    refine Hp_appendG (e := rpT) (s := 2) (by_ := 24) (n := 0) (k := x.f.ps.length) (by kernel_rfl) (by kernel_rfl) OwnG.nil rfl (by omega) (ox.ext e0).src (rpV_one _) (by omega) (by omega) fun v1 h3 o3 m3 f3 _ => ?_
    have e3 : Ext g0 h3 := m3.ext_from (.refl _) (fun b hb e => by cases e)
    rw [List.nil_append] at o3
    have q3 := (e3.block _ (get_some_lt q0)).trans q0
    have z3 := e3.size
    have hxl := get_some_lt q0
    refine loopX3 (α := Nat × Nat × Value × List Pc) (fun a => a.2.2.1) (fun a => .int .i64 a.2.1) (fun a => .int .i64 a.1)
      (fun a g => a.1 ≤ b.length ∧ a.2.1 ≤ a.1 ∧ a.2.2.2.length ≤ a.1 ∧ a.2.2.2 ++ cutP (k + a.1) (b.drop a.1) = cutP k b ∧ Ext h2 g ∧ g[h2.size]? = some (.cells #[str x.f.name, str x.f.last, .slice pa x.f.ps.length pc] rfT) ∧ OwnG rpT 2 g a.2.2.1 ((x.f.ps ++ a.2.2.2).flatMap rpV) ∧ ∀ c, blkG a.2.2.1 = some c → h2.size < c)
      (fun a => b.length - a.1) (0, 0, v1, []) ⟨rfl, rfl, rfl⟩ ⟨Nat.zero_le _, Nat.le_refl _, Nat.le_refl _, by simp, e0.trans e3, q3, by rw [List.append_nil]; exact o3, fun c hc => (f3 c hc).elim (fun e => by cases e) (fun e => by have e9 : g0.size ≤ c := e; omega)⟩ ?_
    rintro ⟨f, dn, pv, Q⟩ g ⟨hf, hdn, hQ, hcut, eg, qg, og, fg⟩ X hX'
    try dsimp only at hf hdn hQ hcut eg qg og fg hX' ⊢
    by_cases hil : f < b.length
    · exact absurd hil (by omega)
    have hfb : f = b.length := by omega
    subst hfb
    rw [List.drop_length, cutP_nil, List.append_nil] at hcut
    subst hcut
    have q2 := cellOf (i := 2) qg rfl
    have s2 := frzOf (i := 2) qg
    obtain ⟨va, vn, vc, rfl, -, -, -⟩ := og.form
    simp (disch := omega) [q2, s2]
    refine (⟨_, rfl⟩ : ∃ f, f = hset g ⟨h2.size, 2, none⟩ (.slice va vn vc)).elim fun g6 eg6 => ?_
    have e6 : Ext h2 g6 := by rw [eg6]; exact hset_ext eg (by simp)
    have qg6 : g6[h2.size]? = some (.cells #[str x.f.name, str x.f.last, .slice va vn vc] rfT) := by rw [eg6]; exact obj_set qg
    have og6 : OwnG rpT 2 g6 (.slice va vn vc) ((x.f.ps ++ cutP k b).flatMap rpV) := by
      rw [eg6]
      exact og.mod (Mod.set g ⟨h2.size, 2, none⟩ (.slice va vn vc)) (fun c hc e => by have e' : c = h2.size := e; have := fg c hc; omega)
    rw [← eg6]
    clear eg6
    refine JoinN_in0 (fun g' => Ext h2 g' ∧ g'[h2.size]? = some (.cells #[str x.f.name, str (x.f.writes (cutP k b)).last, .slice va vn vc] rfT) ∧ OwnG rpT 2 g' (.slice va vn vc) ((x.f.writes (cutP k b)).ps.flatMap rpV)) (fun kk hkk => ?_) (fun g' hg' => ?_)
    · simp (disch := omega)
      refine hkk _ ⟨e6, ?_, ?_⟩
      · rw [hb, cutP_nil]; exact qg6
      · rw [writes_ps]; exact og6
    · skip
      obtain ⟨e7, q7, o7⟩ := hg'
      have w0 := cellOf (i := 0) q7 rfl
      have w1 := cellOf (i := 1) q7 rfl
      have w2 := cellOf (i := 2) q7 rfl
      have a7 := a2.ext e7
      obtain ⟨b2, o2, c2, hsv2, -, -, u0, u1, u2', t0, t1, t2⟩ := a7.cellB (i := A.length) hAl
      have d3 : hcell g' ⟨p, 0, none⟩ = some (.slice (some ⟨bb, o, none⟩) r.X.length c) := hsv ▸ cellOf (i := 0) a7.cells rfl
      dsimp only at hsv2 u0 u1 u2' t0 t1 t2
      rw [hxi] at u0 u1 u2'
      rw [hsv] at hsv2
      cases hsv2
      simp (disch := omega) [w0, w1, w2, d3, elt_mk, t0, t1, t2, u0, u1, u2']
      have u7 := RUpd.of_ext a2 e7
      have hok' : (x.f.writes (cutP k b)).ok := hok.writes fun q hq => by
        have h9 := cutP_ok b.length (Nat.le_refl _) q hq
        have hbn : b ≠ [] := fun e => by rw [e, cutP_nil] at hq; cases hq
        have := hfin hbn
        exact ⟨h9.1, by omega⟩
      have u8 := u7.st.put3B (x' := ⟨x.f.writes (cutP k b), .slice va vn vc⟩) hX hsv hsc (writes_name _ _) hok' (by
        rw [writes_ps, List.length_append]
        show _ ≤ (r.steps + 1) * 1000000
        omega) o7
      have := H1 _ A x B _ ho hX hxn (by omega) (fun e => by have := hfin e; omega) (u2.trans (u7.trans u8))
      rw [writes_name] at this
      exact this
  · have hb0 : 0 < b.length := List.length_pos_iff.2 hb
    have hfin2 := hfin hb
    simp (disch := omega)
    refine rstep_c a hs fun h2 u2 => ?_
    have a2 := u2.st
    obtain ⟨bb, o, c, hsv, hsc, hbb, r0, r1, r2, g0, g1, g2⟩ := a2.cellB (i := A.length) hAl
    dsimp only at hsv hsc r0 r1 r2
    rw [hxi] at r0 r1 r2
    have d0 : hcell h2 ⟨p, 0, none⟩ = some (.slice (some ⟨bb, o, none⟩) r.X.length c) := hsv ▸ cellOf (i := 0) a2.cells rfl
    have ox := a2.ps x hx
    obtain ⟨pa, pn, pc, hpv, hpl, hpc, hpne⟩ := ox.form
    rw [rpV_len] at hpl
    have hpn : pn = x.f.ps.length := by omega
    subst hpn
    rw [hpv] at r2 ox
    unfold ptrV
    simp (disch := omega) [d0, elt_mk, r0, r1, r2]
    refine (⟨_, rfl⟩ : ∃ f, f = hset (hset (hset (h2.push (.cells #[str [], str [], .slice none 0 0] rfT)) ⟨h2.size, 0, none⟩ (str x.f.name)) ⟨h2.size, 1, none⟩ (str x.f.last)) ⟨h2.size, 2, none⟩ (.slice pa x.f.ps.length pc)).elim fun g0 eg0 => ?_
    have e0 : Ext h2 g0 := by rw [eg0]; exact (by repeat' (first | (with_reducible exact Ext.refl _) | (with_reducible assumption) | (with_reducible refine push_ext ?_) | (with_reducible refine hset_ext ?_ ?_) | (with_reducible refine Ext.trans ?_ (by assumption)) | omega | (simp; done) | (simp; omega) | (refine Ext.size ?_) | (refine Nat.le_succ_of_le (Ext.size ?_))))
    have q0 : g0[h2.size]? = some (.cells #[str x.f.name, str x.f.last, .slice pa x.f.ps.length pc] rfT) := by
      rw [eg0]; exact obj_set (obj_set (obj_set (get_pushed rfl)))
    rw [show hset (hset (hset (h2.push (.cells #[str [], str [], .slice none 0 0] 99)) ⟨h2.size, 0, none⟩ (str x.f.name)) ⟨h2.size, 1, none⟩ (str x.f.last)) ⟨h2.size, 2, none⟩ (.slice pa x.f.ps.length pc) = g0 from eg0.symm]
    clear eg0
    have hvb : b ≠ [] → ∀ c, blkV (.slice ba b.length bc) = some c → c < h2.size := fun hb c hc => by have := hB.lt hc hb; have := u2.mod.size; omega
    have hB2 : Bytes h2 (.slice ba b.length bc) b := hB.modX u2.mod (fun c hc hcb _ => hv hc c hcb)
    have z0 := e0.size
    refine Hp_appendG (e := rpT) (s := 2) (by_ := 24) (n := 0) (k := x.f.ps.length) (by kernel_rfl) (by kernel_rfl) OwnG.nil rfl (by omega) (ox.ext e0).src (rpV_one _) (by omega) (by omega) fun v1 h3 o3 m3 f3 _ => ?_
    have e3 : Ext g0 h3 := m3.ext_from (.refl _) (fun b hb e => by cases e)
    rw [List.nil_append] at o3
    have q3 := (e3.block _ (get_some_lt q0)).trans q0
    have z3 := e3.size
    have hxl := get_some_lt q0
    refine loopX3 (α := Nat × Nat × Value × List Pc) (fun a => a.2.2.1) (fun a => .int .i64 a.2.1) (fun a => .int .i64 a.1)
      (fun a g => a.1 ≤ b.length ∧ a.2.1 ≤ a.1 ∧ a.2.2.2.length ≤ a.1 ∧ a.2.2.2 ++ cutP (k + a.1) (b.drop a.1) = cutP k b ∧ Ext h2 g ∧ g[h2.size]? = some (.cells #[str x.f.name, str x.f.last, .slice pa x.f.ps.length pc] rfT) ∧ OwnG rpT 2 g a.2.2.1 ((x.f.ps ++ a.2.2.2).flatMap rpV) ∧ ∀ c, blkG a.2.2.1 = some c → h2.size < c)
      (fun a => b.length - a.1) (0, 0, v1, []) ⟨rfl, rfl, rfl⟩ ⟨Nat.zero_le _, Nat.le_refl _, Nat.le_refl _, by simp, e0.trans e3, q3, by rw [List.append_nil]; exact o3, fun c hc => (f3 c hc).elim (fun e => by cases e) (fun e => by have e9 : g0.size ≤ c := e; omega)⟩ ?_
    rintro ⟨f, dn, pv, Q⟩ g ⟨hf, hdn, hQ, hcut, eg, qg, og, fg⟩ X hX'
    try dsimp only at hf hdn hQ hcut eg qg og fg hX' ⊢
    by_cases hil : f < b.length
    · skip
      have hbn : b ≠ [] := fun e => by rw [e] at hil; simp at hil
      have hf2 := hfin hbn
      have hdr : b.drop f ≠ [] := fun e => by
        have := congrArg List.length e
        rw [List.length_drop] at this; simp at this; omega
      have hcc := cutP_cons (k := k + f) hdr
      rw [List.length_drop] at hcc
      obtain ⟨n, hnd⟩ : ∃ n, n = min (b.length - f) (512 - (k + f) % 512) := ⟨_, rfl⟩
      rw [← hnd] at hcc
      have hn1 : 1 ≤ n ∧ n ≤ b.length - f ∧ n ≤ 512 - (k + f) % 512 := by omega
      have hmn : (if (512 : Int) - ((k : Int) + (f : Int)) % 512 < (b.length : Int) - (f : Int) then 512 - ((k : Int) + (f : Int)) % 512 else (b.length : Int) - (f : Int)) = (n : Int) := by rw [hnd]; split <;> omega
      have hBg := hB2.ext eg
      obtain ⟨ad, hba, -, hbc, hA⟩ := hBg.at (by omega)
      have hba : ba = some ad := by cases hba; rfl
      subst hba
      have hpt := hA.part f (f + n) bc (by omega) (by omega) hbc
      have hpb : (b.take (f + n)).drop f = (b.drop f).take n := by rw [List.drop_take]; congr 1; omega
      rw [hpb] at hpt
      have hbn2 : Bytes g (.slice (some (sub ad f bc)) n (bc - f)) ((b.drop f).take n) := .inr ⟨_, _, by congr 1; simp; omega, by simp; omega, hpt⟩
      have hk9 : (k : Int) + (f : Int) = ((k + f : Nat) : Int) := by omega
      simp (disch := omega) [hmn]
      refine (Hp_bytesStr (e := bT) (by kernel_rfl) (by kernel_rfl) (by kernel_rfl) hbn2).2 ?_
      simp (disch := omega)
      have hpfl : (x.f.ps ++ Q).length = x.f.ps.length + Q.length := List.length_append
      have e4 : Ext g (g.push (.cells #[.int .i64 (k + f : Nat), str ((b.drop f).take n)] rpT)) := (by repeat' (first | (with_reducible exact Ext.refl _) | (with_reducible assumption) | (with_reducible refine push_ext ?_) | (with_reducible refine hset_ext ?_ ?_) | (with_reducible refine Ext.trans ?_ (by assumption)) | omega | (simp; done) | (simp; omega) | (refine Ext.size ?_) | (refine Nat.le_succ_of_le (Ext.size ?_))))
      rw [hk9]
      refine Hp_appendG (e := rpT) (s := 2) (by_ := 24) (n := x.f.ps.length + Q.length) (k := 1) (news := [.int .i64 (k + f : Nat), str ((b.drop f).take n)]) (by kernel_rfl) (by kernel_rfl) (og.ext e4) (by rw [rpV_len, hpfl]) (by omega) (Src_new (vs := [.int .i64 (k + f : Nat), str ((b.drop f).take n)]) rfl) (by simp [one, str]) (by omega) (by omega) fun v2 h5 o5 m5 f5 _ => ?_
      simp (disch := omega)
      have hg4 := e4.size
      have hgl := get_some_lt qg
      have e5 : Ext h2 h5 := m5.ext_from (eg.trans e4) (fun c hc e => by have := fg c e; omega)
      refine hX' (f + n, dn + 1, v2, Q ++ [⟨k + f, (b.drop f).take n⟩]) _ _ _ _ rfl (by simp) (by simp) ⟨by dsimp only; omega, by dsimp only; omega, by simp; omega, ?_, e5, (m5.block h2.size (Nat.lt_of_lt_of_le hgl hg4) (fun e => by have := fg _ e; omega)).trans ((e4.block _ hgl).trans qg), ?_, fun c hc => (f5 c hc).elim (fg c) (fun e => by have e' := Nat.le_trans hg4 e; omega)⟩ (by dsimp only; omega)
      · rw [List.append_assoc]
        rw [hcc, List.drop_drop] at hcut
        rw [← hcut, Nat.add_assoc]; rfl
      · rw [← List.append_assoc, List.flatMap_append]
        simpa [rpV] using o5
    have hfb : f = b.length := by omega
    subst hfb
    rw [List.drop_length, cutP_nil, List.append_nil] at hcut
    subst hcut
    have q2 := cellOf (i := 2) qg rfl
    have s2 := frzOf (i := 2) qg
    obtain ⟨va, vn, vc, rfl, -, -, -⟩ := og.form
    simp (disch := omega) [q2, s2]
    refine (⟨_, rfl⟩ : ∃ f, f = hset g ⟨h2.size, 2, none⟩ (.slice va vn vc)).elim fun g6 eg6 => ?_
    have e6 : Ext h2 g6 := by rw [eg6]; exact hset_ext eg (by simp)
    have qg6 : g6[h2.size]? = some (.cells #[str x.f.name, str x.f.last, .slice va vn vc] rfT) := by rw [eg6]; exact obj_set qg
    have og6 : OwnG rpT 2 g6 (.slice va vn vc) ((x.f.ps ++ cutP k b).flatMap rpV) := by
      rw [eg6]
      exact og.mod (Mod.set g ⟨h2.size, 2, none⟩ (.slice va vn vc)) (fun c hc e => by have e' : c = h2.size := e; have := fg c hc; omega)
    rw [← eg6]
    clear eg6
    refine JoinN_in0 (fun g' => Ext h2 g' ∧ g'[h2.size]? = some (.cells #[str x.f.name, str (x.f.writes (cutP k b)).last, .slice va vn vc] rfT) ∧ OwnG rpT 2 g' (.slice va vn vc) ((x.f.writes (cutP k b)).ps.flatMap rpV)) (fun kk hkk => ?_) (fun g' hg' => ?_)
    · have q1 := cellOf (i := 1) qg6 rfl
      simp (disch := omega) [q1]
      refine noughts_c (by omega) (by omega) fun g7 e7 => ?_
      have qg7 := (e7.block _ (get_some_lt qg6)).trans qg6
      have q1 := cellOf (i := 1) qg7 rfl
      have s1 := frzOf (i := 1) qg7
      have hzl : (zeros (k + b.length - x.f.last.length)).length = k + b.length - x.f.last.length := zeros_len _
      simp (disch := omega) [q1, s1]
      rw [Hp_addStr (by omega)]
      simp (disch := omega) [q1, s1]
      have hgr : x.f.last ++ zeros (k + b.length - x.f.last.length) = (x.f.writes (cutP k b)).last := (writes_cut b.length x.f (Nat.le_refl _) hb).symm
      rw [hgr]
      refine hkk _ ⟨hset_ext (e6.trans e7) (by simp), obj_set qg7, ?_⟩
      rw [writes_ps]
      exact (og6.ext e7).mod (Mod.set g7 ⟨h2.size, 1, none⟩ _) (fun c hc e => by have e' : c = h2.size := e; have := fg c hc; omega)
    · skip
      obtain ⟨e7, q7, o7⟩ := hg'
      have w0 := cellOf (i := 0) q7 rfl
      have w1 := cellOf (i := 1) q7 rfl
      have w2 := cellOf (i := 2) q7 rfl
      have a7 := a2.ext e7
      obtain ⟨b2, o2, c2, hsv2, -, -, u0, u1, u2', t0, t1, t2⟩ := a7.cellB (i := A.length) hAl
      have d3 : hcell g' ⟨p, 0, none⟩ = some (.slice (some ⟨bb, o, none⟩) r.X.length c) := hsv ▸ cellOf (i := 0) a7.cells rfl
      dsimp only at hsv2 u0 u1 u2' t0 t1 t2
      rw [hxi] at u0 u1 u2'
      rw [hsv] at hsv2
      cases hsv2
      simp (disch := omega) [w0, w1, w2, d3, elt_mk, t0, t1, t2, u0, u1, u2']
      have u7 := RUpd.of_ext a2 e7
      have hok' : (x.f.writes (cutP k b)).ok := hok.writes fun q hq => by
        have h9 := cutP_ok b.length (Nat.le_refl _) q hq
        have hbn : b ≠ [] := fun e => by rw [e, cutP_nil] at hq; cases hq
        have := hfin hbn
        exact ⟨h9.1, by omega⟩
      have u8 := u7.st.put3B (x' := ⟨x.f.writes (cutP k b), .slice va vn vc⟩) hX hsv hsc (writes_name _ _) hok' (by
        rw [writes_ps, List.length_append]
        show _ ≤ (r.steps + 1) * 1000000
        omega) o7
      have := H1 _ A x B _ ho hX hxn (by omega) (fun e => by have := hfin e; omega) (u2.trans (u7.trans u8))
      rw [writes_name] at this
      exact this
end Go.Proofs.Ytdmcaaojapcbcaa
set_option linter.unusedSimpArgs false
set_option linter.unusedVariables false
namespace Go.Vc
open Go
/-- Nothing appended to nothing. -/
theorem Hp_appendNN {P : Program} {K : Value → Heap → Prop} {h : Heap} {t t2 e s by_ : Nat} (ht : slT P t e s by_ = true) (ht2 : notInt P t2 = true) (H : K (.slice none 0 0) h) : Hp P false (Builtin.append_ #[t, t2] t #[.slice none 0 0, .slice none 0 0]) K h ⟨⟩ := by
  obtain ⟨i, z, hu, hi, hsz, hby, hz, hzs⟩ := slT_spec ht
  rw [Hp_iff]
  have hx : Src s h (.slice none 0 0) 0 [] := .inl ⟨rfl, rfl, rfl⟩
  have hz2 : ∀ (K : TypeDesc → Heap → Prop), ∃ d, (hp P false (underlying t2) K h ↔ K d h) ∧ ∀ k, d ≠ .int k := by
    intro K
    unfold notInt at ht2
    cases hu2 : P.underlying t2 with
    | none => rw [hu2] at ht2; cases ht2
    | some d =>
      rw [hu2] at ht2
      exact ⟨d, hp_underlying hu2, fun k e => by rw [e] at ht2; cases ht2⟩
  unfold Builtin.append_
  simp only [List.getElem?_toArray, List.getElem?_cons_succ, List.getElem?_cons_zero, List.getElem_toArray, List.getElem_cons_succ, List.getElem_cons_zero]
  rw [hp_bind', hp_underlying hu]
  simp only
  rw [hp_bind', hp_sizeOf hi]
  rw [hp_bind']
  obtain ⟨d, hd, hnd⟩ := hz2 _
  rw [hd]
  split
  · exact absurd rfl (hnd _)
  simp only [pure_bind, Bool.false_eq_true, if_false, Bool.not_false, if_true, false_or]
  rw [hp_bind', hp_lenOf hx]
  rw [if_pos (Nat.le_refl 0)]
  rw [hp_bind', hsz, hp_firstCells hx (Nat.le_refl _)]
  exact H
end Go.Vc
namespace Go.Proofs.Ytdmcaaojapcbcaa
open Go.Vc
variable {K : Value → Heap → Prop} {h : Heap}

/-- A write that is asked for. -/
structure Pw where
  name : List UInt8
  at_ : Int
  bv : Value
  b : List UInt8
  fl : Bool
def Pw.cells (x : Pw) : List Value := [str x.name, .int .i64 x.at_, x.bv, .bool x.fl]
structure PwOk (h : Heap) (x : Pw) : Prop where
  name : x.name.length < 9223372036854775808
  at_ : i64 x.at_
  b : Bytes h x.bv x.b
  bl : x.b.length < 9223372036854775808
theorem PwOk.ext {h' : Heap} {x : Pw} (a : PwOk h x) (e : Ext h h') : PwOk h' x := ⟨a.name, a.at_, a.b.ext e, a.bl⟩
structure Pws (h : Heap) (v : Value) (xs : List Pw) : Prop where
  slc : Slc 4 h v (fun us x => us = x.cells) xs
  ok : ∀ x ∈ xs, PwOk h x
  len : xs.length < 9223372036854775808
theorem Pws.ext {h' : Heap} {v : Value} {xs : List Pw} (a : Pws h v xs) (e : Ext h h') : Pws h' v xs := ⟨slc_ext a.slc e, fun x hx => (a.ok x hx).ext e, a.len⟩
theorem Pws.form {v : Value} {xs : List Pw} (a : Pws h v xs) : ∃ o c, v = .slice o xs.length c := Slc.form a.slc
theorem Pws.cell {v : Value} {xs : List Pw} (s : Pws h v xs) {i : Nat} (hi : i < xs.length) : ∃ a c, v = .slice (some a) xs.length c ∧ hcell h (elt a (i * 4)) = some (str xs[i].name) ∧ hcell h (elt a (i * 4 + 1)) = some (.int .i64 xs[i].at_) ∧
    hcell h (elt a (i * 4 + 2)) = some xs[i].bv ∧ hcell h (elt a (i * 4 + 3)) = some (.bool xs[i].fl) := by
  rcases s.slc with ⟨h1, rfl⟩ | ⟨a, c, h1, h2, h3⟩
  · cases hi
  · obtain ⟨us, -, h5, rfl⟩ := h3 i hi
    have := fun j hj => h5 j hj
    unfold Pw.cells at this
    have e0 := this 0 (by simp)
    have e1 := this 1 (by simp)
    have e2 := this 2 (by simp)
    have e3 := this 3 (by simp)
    rw [elt_elt] at e0 e1 e2 e3
    exact ⟨a, c, h1, e0, e1, e2, e3⟩
def PLim (x : Pw) : Prop := x.at_ ≤ 20000 ∧ x.b.length ≤ 40000
section
open Go Go.ChangeShapes Go.WideShapes Go.ChangeAt Go.RowKit Go.Deep
variable {H : Type} {enc : TypeId × Value → H} {w : World} {base : Nat} {sp : Nat → Bool} {held : Bool}
set_option maxRecDepth 100000 in
theorem laid_put {cs : List Value} (h : Laid enc Try.prog w base sp held 89 cs) : ∃ x : Pw, cs = x.cells ∧ PwOk w.heap x := by
  obtain ⟨hl, hL⟩ := h.flds (L := [(9, 0, 1), (2, 1, 1), (50, 2, 1), (4, 3, 1)]) (n := 4) (by kernel_rfl) (by kernel_rfl)
  obtain ⟨c0, c1, c2, c3, rfl⟩ := len4 hl
  obtain ⟨l0, hn0, r0⟩ := (hL 0 _ _ _ rfl).str (by kernel_rfl)
  obtain rfl : c0 = str l0 := by simpa using hn0
  obtain ⟨n1, hn1, r1⟩ := (hL 1 _ _ _ rfl).int (k := .i64) (by kernel_rfl)
  obtain rfl : c1 = .int .i64 n1 := by simpa using hn1
  obtain ⟨v2, b2, hn2, hB2, r2⟩ := (hL 2 _ _ _ rfl).bytes (e := 5) (by kernel_rfl) (by kernel_rfl) (by kernel_rfl)
  obtain rfl : c2 = v2 := by simpa using hn2
  obtain ⟨b3, hn3⟩ := (hL 3 _ _ _ rfl).bool (by kernel_rfl)
  obtain rfl : c3 = .bool b3 := by simpa using hn3
  exact ⟨⟨l0, n1, c2, b2, b3⟩, rfl, max63 r0, i64_of r1, hB2, max63 r2⟩
set_option maxRecDepth 100000 in
theorem open_puts {v : Value} {r : Reach} {b0 : Nat} {ps : List MemPlace} {d : DataW H} (hval : Value.okWide Try.prog w r b0 22 v) (hd : DataW.Trod enc Try.prog w base sp held 22 v d ps) : ∃ xs : List Pw, Pws w.heap v xs := by
  obtain ⟨v', xs, hv, hs, hlen⟩ := (Laid.top hval hd (by kernel_rfl)).slice (e := 89) (R := fun us (x : Pw) => us = x.cells ∧ PwOk w.heap x) (by kernel_rfl) (fun us hu => laid_put hu)
  obtain rfl : v = v' := by simpa using hv
  have hc : Program.cellsOf Try.prog 89 = 4 := by kernel_rfl
  rw [hc] at hs
  obtain ⟨s1, s2⟩ := slc_ok (f := Pw.cells) hs (fun us x hx => hx)
  exact ⟨xs, s1, s2, max63 hlen⟩
end
theorem vast7_c {v : Value} {xs : List Pw} (s : Pws h v xs) (HT : K (.bool true) h) (HF : xs.length ≤ 60 → (∀ x ∈ xs, PLim x) → K (.bool false) h) : CallsH Try.prog 9 #[v] h K ⟨⟩ := by
  refine n9_calls ?_
  unfold n9
  obtain ⟨a0, c, rfl⟩ := s.form
  have hlen := s.len
  by_cases hbig : 60 < xs.length
  · simp (disch := omega)
    exact HT
  simp (disch := omega)
  refine loopX1 (α := Nat) (fun i => .int .i64 i) (fun i g => i ≤ xs.length ∧ h = g ∧ ∀ j (hj : j < xs.length), j < i → PLim xs[j]) (fun i => xs.length - i) 0 rfl ⟨Nat.zero_le _, rfl, fun j _ hj => by omega⟩ ?_
  rintro i g ⟨hi, rfl, hr⟩ X hX
  by_cases hin : i < xs.length
  · obtain ⟨ad, c', hv, q0, q1, q2, q3⟩ := s.cell hin
    cases hv
    have ok := s.ok _ (List.getElem_mem hin)
    obtain ⟨bo, bc, hbv⟩ := ok.b.form
    rw [hbv] at q2
    have k1 := ok.bl
    have k2 := ok.at_
    unfold i64 at k2
    by_cases h1 : 20000 < xs[i].at_
    · simp (disch := omega) [q1, h1]
      exact HT
    by_cases h2 : 40000 < xs[i].b.length
    · simp (disch := omega) [q1, q2, h1]
      exact HT
    simp (disch := omega) [q1, q2, h1]
    refine hX (i + 1) _ _ (by simp) ⟨hin, rfl, fun j hj hji => ?_⟩ (by omega)
    by_cases e : j = i
    · subst e; exact ⟨by omega, by omega⟩
    · exact hr j hj (by omega)
  · obtain rfl : i = xs.length := by omega
    simp (disch := omega)
    refine HF (by omega) fun x hx => ?_
    obtain ⟨j, hj, rfl⟩ := List.mem_iff_getElem.1 hx
    exact hr j hj hj

theorem rNew_c (H : ∀ h' p r, Ext h h' → r.X = [] → r.steps = 0 → (∀ b, r.foot p b → h.size ≤ b) → RsAt h' p r → K (ptrV p) h') : CallsH Try.prog 40 #[.slice none 0 0] h K ⟨⟩ := by
  refine n40_calls ?_
  unfold n40
  refine Hp_appendNN (e := 107) (s := 2) (by_ := 16) (by kernel_rfl) (by kernel_rfl) ?_
  simp (disch := omega)
  refine H _ h.size ⟨[], 0, .slice none 0 0⟩ (by repeat' (first | (with_reducible exact Ext.refl _) | (with_reducible assumption) | (with_reducible refine push_ext ?_) | (with_reducible refine hset_ext ?_ ?_) | (with_reducible refine Ext.trans ?_ (by assumption)) | omega | (simp; done) | (simp; omega) | (refine Ext.size ?_) | (refine Nat.le_succ_of_le (Ext.size ?_)))) rfl rfl ?_ ?_
  · rintro b (e | e)
    · omega
    · cases e
  · exact ⟨get_pushed rfl, .nil, fun x hx => (by cases hx), fun x hx => (by cases hx), fun x hx => (by cases hx), Nat.zero_le _, Nat.zero_lt_of_lt (show 0 < 1000000 by decide), fun x hx => (by cases hx), .nil⟩

theorem StAt.tags {p : Nat} {s : St} (a : StAt h p s) {b : Nat} (hb : s.foot p b) : (∃ arr t, h[b]? = some (.cells arr t) ∧ (t = sT ∨ t = aT ∨ t = fT ∨ t = bT ∨ t = pT)) ∨ ∃ es cl, h[b]? = some (.map es cl) := by
  rcases hb with rfl | rfl | hb | ⟨x, hx, hb⟩
  · exact .inl ⟨_, _, a.cells, .inl rfl⟩
  · obtain ⟨es, cl, hm⟩ := mapCell a.map
    exact .inr ⟨_, _, hm⟩
  · obtain ⟨arr, ha⟩ := a.fat.tag hb
    exact .inl ⟨_, _, ha, .inr (.inl rfl)⟩
  · obtain ⟨arr, t, ha, ht⟩ := Fh.tag (a.fl x hx) hb
    exact .inl ⟨_, _, ha, .inr (.inr ht)⟩
theorem sr_ne {p pr : Nat} {s : St} {r : Rs} (a : StAt h p s) (ar : RsAt h pr r) {b : Nat} (hb : s.foot p b) {t : Nat} (ht : t = rsT ∨ t = rfT ∨ t = rpT) {arr : Array Value} (hc : h[b]? = some (.cells arr t)) : False := by
  rcases a.tags hb with ⟨arr', t', e, h2⟩ | ⟨es, cl, e⟩
  · rw [e] at hc
    cases hc
    rcases ht with rfl | rfl | rfl <;> revert h2 <;> decide
  · rw [e] at hc; cases hc
/-- A store and the document's, in the midst of a law. -/
structure Bo (o h : Heap) (p : Nat) (s : St) (pr : Nat) (r : Rs) (n m : Nat) : Prop where
  st : StAt h p s
  rs : RsAt h pr r
  ext : Ext o h
  foot : ∀ b, s.foot p b → o.size ≤ b
  rfoot : ∀ b, r.foot pr b → o.size ≤ b
  ap : ∀ x ∈ s.F, ∀ q ∈ x.qs, ∀ b, blkV q.2 = some b → ¬ r.foot pr b
  steps : s.steps ≤ n
  rsteps : r.steps ≤ m
  nil : s.fates = []
theorem Bo.disj {o : Heap} {p pr : Nat} {s : St} {r : Rs} {n m : Nat} (I : Bo o h p s pr r n m) {b : Nat} (hb : s.foot p b) : ¬ r.foot pr b := by
  rintro (e | e)
  · exact sr_ne I.st I.rs hb (.inl rfl) (e ▸ I.rs.cells)
  · obtain ⟨arr, ha⟩ := I.rs.fs.tag e
    exact sr_ne I.st I.rs hb (.inr (.inl rfl)) ha
theorem Bo.sup {o h' : Heap} {p pr : Nat} {s s' : St} {r : Rs} {n n' m : Nat} (I : Bo o h p s pr r n m) (u : SUpd h h' p s s') (hq : ∀ x ∈ s'.F, ∀ q ∈ x.qs, ∀ b, blkV q.2 = some b → (∃ y ∈ s.F, ∃ q0 ∈ y.qs, blkV q0.2 = some b) ∨ h.size ≤ b) (hs : s'.steps ≤ n') (hf : s'.fates = []) : Bo o h' p s' pr r n' m :=
  ⟨u.st, I.rs.mod u.mod (fun b hb e => I.disj e hb) (fun x hx b hb e => by
      obtain ⟨arr, ha⟩ := (I.rs.ps x hx).tag hb
      exact sr_ne I.st I.rs e (.inr (.inr rfl)) ha),
    u.mod.ext_from I.ext (fun b hb e => by have := I.foot b e; omega), fun b hb => (u.foot b hb).elim (I.foot b) (fun e => by have := I.ext.size; omega), I.rfoot,
    fun x hx q hq' b hb e => (hq x hx q hq' b hb).elim (fun ⟨y, hy, q0, hq0, e0⟩ => I.ap y hy q0 hq0 b e0 e) (fun e1 => by have := I.rs.lt e; omega), hs, I.rsteps, hf⟩
theorem Bo.rup {o h' : Heap} {p pr : Nat} {s : St} {r r' : Rs} {n m m' : Nat} (I : Bo o h p s pr r n m) (u : RUpd h h' pr r r') (hs : r'.steps ≤ m') : Bo o h' p s pr r' n m' :=
  ⟨I.st.mod u.mod (fun b hb e => I.disj hb e) (fun x hx q hq b hb e => I.ap x hx q hq b hb e), u.st, u.mod.ext_from I.ext (fun b hb e => by have := I.rfoot b e; omega), I.foot,
    fun b hb => (u.foot b hb).elim (I.rfoot b) (fun e => by have := I.ext.size; omega),
    fun x hx q hq b hb e => (u.foot b e).elim (I.ap x hx q hq b hb) (fun e1 => by have := (I.st.fl x hx).plt hq hb; omega), I.steps, hs, I.nil⟩
theorem Bo.of_ext {o h' : Heap} {p pr : Nat} {s : St} {r : Rs} {n m n' m' : Nat} (I : Bo o h p s pr r n m) (e : Ext h h') (h1 : n ≤ n') (h2 : m ≤ m') : Bo o h' p s pr r n' m' :=
  ⟨I.st.ext e, I.rs.ext e, I.ext.trans e, I.foot, I.rfoot, I.ap, Nat.le_trans I.steps h1, Nat.le_trans I.rsteps h2, I.nil⟩
/-- They have the same files. -/
def Alike (s : St) (r : Rs) : Prop := (r.X.map (·.f)).Perm (s.F.map Fh.f)
theorem Alike.has {s : St} {r : Rs} (a : Alike s r) {l : List UInt8} : (∃ x ∈ s.F, x.name = l) ↔ ∃ y ∈ r.X, y.f.name = l := by
  constructor
  · rintro ⟨x, hx, rfl⟩
    have : x.f ∈ r.X.map (·.f) := a.mem_iff.2 (List.mem_map_of_mem hx)
    obtain ⟨y, hy, e⟩ := List.mem_map.1 this
    exact ⟨y, hy, by rw [e]; rfl⟩
  · rintro ⟨y, hy, rfl⟩
    have : y.f ∈ s.F.map Fh.f := a.mem_iff.1 (List.mem_map_of_mem hy)
    obtain ⟨x, hx, e⟩ := List.mem_map.1 this
    exact ⟨x, hx, congrArg Fl.name e⟩
theorem Alike.len {s : St} {r : Rs} (a : Alike s r) : r.X.length = s.F.length := by simpa using a.length_eq
theorem Alike.pend {s : St} {r : Rs} (a : Alike s r) : r.pend = s.pend := by
  have h1 : r.pend = ((r.X.map (·.f)).map fun f => f.ps.length).sum := by unfold Rs.pend; rw [List.map_map]; rfl
  have h2 : s.pend = ((s.F.map Fh.f).map fun f => f.ps.length).sum := by unfold St.pend; rw [List.map_map]; rfl
  rw [h1, h2]
  exact (a.map _).sum_nat
/-- A file changes in both. -/
theorem Alike.change {p pr : Nat} {s : St} {r : Rs} {A B : List Fh} {x x' : Fh} {A' B' : List Rf} {y y' : Rf} (a : Alike s r) (ar : RsAt h pr r) (hF : s.F = A ++ x :: B) (hX : r.X = A' ++ y :: B') (hn : x.name = y.f.name) (hc : y.f = x.f → y'.f = x'.f) : ((A' ++ y' :: B').map (·.f)).Perm ((A ++ x' :: B).map Fh.f) := by
  have hxy : y.f = x.f := by
    have : x.f ∈ r.X.map (·.f) := a.mem_iff.2 (List.mem_map_of_mem (by rw [hF]; simp))
    obtain ⟨z, hz, e⟩ := List.mem_map.1 this
    obtain ⟨i, hi, rfl⟩ := List.mem_iff_getElem.1 hz
    have hy : y ∈ r.X := by rw [hX]; simp
    obtain ⟨j, hj, rfl⟩ := List.mem_iff_getElem.1 hy
    have e2 : r.X[i].f.name = r.X[j].f.name := by rw [e, ← hn]; rfl
    have := ar.uniq hi hj e2
    subst this
    exact e
  have h1 : ((A' ++ y :: B').map (·.f)).Perm ((A ++ x :: B).map Fh.f) := by rw [← hX, ← hF]; exact a
  rw [List.map_append, List.map_cons, List.map_append, List.map_cons] at h1 ⊢
  rw [hc hxy]
  have h2 := (List.perm_middle.symm.trans h1).trans List.perm_middle
  rw [hxy] at h2
  exact List.perm_middle.trans (((List.perm_cons _).2 ((List.perm_cons _).1 h2)).trans List.perm_middle.symm)
end Go.Proofs.Ytdmcaaojapcbcaa
set_option linter.unusedSimpArgs false
set_option linter.unusedVariables false
namespace Go.Proofs.Ytdmcaaojapcbcaa
open Go.Vc
variable {K : Value → Heap → Prop} {h : Heap}

theorem Fas.none_ : Fas h (.slice none 0 0) [] := ⟨.inl ⟨rfl, rfl, rfl⟩, ⟨none, 0, rfl, Nat.le_refl _⟩, by decide, fun f hf => by cases hf⟩
theorem get_has {s : St} {l : List UInt8} : (∃ x, s.get l = some x) ↔ ∃ x ∈ s.F, x.name = l := by
  constructor
  · rintro ⟨x, hx⟩
    obtain ⟨A, B, hF, hn⟩ := get_split hx
    exact ⟨x, by rw [hF]; simp, hn⟩
  · rintro ⟨x, hx, hn⟩
    cases hg : s.get l with
    | some y => exact ⟨y, rfl⟩
    | none => exact absurd hn (get_none hg x hx)
def pset (F : List Fh) (b : Nat) : Prop := ∃ y ∈ F, ∃ q0 ∈ y.qs, blkV q0.2 = some b
theorem pcs_swap {A B : List Fh} {x x' : Fh} {n : Nat} (h : ∀ q ∈ x'.qs, ∀ b, blkV q.2 = some b → (∃ q0 ∈ x.qs, blkV q0.2 = some b) ∨ n ≤ b) : ∀ y ∈ A ++ x' :: B, ∀ q ∈ y.qs, ∀ b, blkV q.2 = some b → (∃ y ∈ A ++ x :: B, ∃ q0 ∈ y.qs, blkV q0.2 = some b) ∨ n ≤ b := by
  intro y hy q hq b hb
  rcases List.mem_append.1 hy with hy | hy
  · exact .inl ⟨y, by simp [hy], q, hq, hb⟩
  · rcases List.mem_cons.1 hy with rfl | hy
    · exact (h q hq b hb).imp (fun ⟨q0, h1, h2⟩ => ⟨x, by simp, q0, h1, h2⟩) id
    · exact .inl ⟨y, by simp [hy], q, hq, hb⟩

theorem Create_a {p : Nat} {s : St} {l : List UInt8} (a : StAt h p s) (hl : l.length < 9223372036854775808) (hs : s.steps + 1 < 1000000) (hn : s.fates = [])
    (H : ∀ e h' s', SUpd h h' p s s' → (s'.F = s.F ∧ cErr s l ≠ 0 ∨ cErr s l = 0 ∧ ∃ b, s'.F = s.F ++ [newFh l b]) → s'.fates = [] → s'.steps ≤ s.steps + 1 → K (.int .i64 e) h') : CallsH Try.prog 33 #[ptrV p, str l] h K ⟨⟩ := by
  refine Create_c a hl hs (fun g1 e1 he => ?_) (fun g1 fv h1 h2 u => ?_) (fun g1 fv b h1 h2 h3 h4 u => ?_)
  · exact H _ _ s ((SUpd.refl a).ext e1) (.inl ⟨rfl, he⟩) hn (Nat.le_succ _)
  · exact absurd (by rw [hn]; rfl) h2
  · refine H _ _ _ u (.inr ⟨?_, b, rfl⟩) (by show s.fates.tail = []; rw [hn]; rfl) (Nat.le_refl _)
    unfold cErr; rw [if_pos h2, h3]; dsimp only; rw [if_neg (by omega)]
theorem Write_a {p : Nat} {s : St} {l b : List UInt8} {k : Int} {v : Value} (a : StAt h p s) (hl : l.length < 9223372036854775808) (hB : Bytes h v b) (hbl : b.length ≤ 1000000) (hv : b ≠ [] → ∀ c, blkV v = some c → ¬ s.foot p c)
    (k0 : -9223372036854775808 ≤ k) (k1 : k < 9223372036854775808) (hs : s.steps + 1 < 1000000) (hn : s.fates = [])
    (H : ∀ e h' s', SUpd h h' p s s' → (s'.F = s.F ∧ wErr s l k b ≠ 0 ∨ ∃ A x B x', s.F = A ++ x :: B ∧ x.name = l ∧ 0 ≤ k ∧ (b ≠ [] → k + b.length ≤ 268435456) ∧ x'.f = x.f.writes (cutP k.toNat b) ∧ (∀ q ∈ x'.qs, ∀ b, blkV q.2 = some b → (∃ q0 ∈ x.qs, blkV q0.2 = some b) ∨ h.size ≤ b) ∧ s'.F = A ++ x' :: B) → s'.fates = [] → s'.steps ≤ s.steps + 1 → K (.int .i64 e) h') :
    CallsH Try.prog 34 #[ptrV p, str l, .int .i64 k, v] h K ⟨⟩ := by
  refine Write_c2 a hl hB hbl hv k0 k1 hs (fun g1 e1 he => ?_) (fun g1 A B x x' fv h1 h2 h3 h4 h5 h6 h7 u => ?_)
  · exact H _ _ s ((SUpd.refl a).ext e1) (.inl ⟨rfl, he⟩) hn (Nat.le_succ _)
  · refine H _ _ _ u (.inr ⟨A, x, B, x', h1, h2, h3, h4, ?_, h7, rfl⟩) (by show s.fates.tail = []; rw [hn]; rfl) (Nat.le_refl _)
    rw [h6, hn]; rfl
theorem Flush_a {p : Nat} {s : St} {l : List UInt8} (a : StAt h p s) (hl : l.length < 9223372036854775808) (hs : s.steps + 1 < 1000000) (hn : s.fates = [])
    (H : ∀ e h' s', SUpd h h' p s s' → (s'.F = s.F ∧ fErr s l ≠ 0 ∨ ∃ A x B x', s.F = A ++ x :: B ∧ x.name = l ∧ x'.f = x.f.flush x.f.ps.length ∧ (∀ q ∈ x'.qs, ∀ b, blkV q.2 = some b → (∃ q0 ∈ x.qs, blkV q0.2 = some b) ∨ h.size ≤ b) ∧ s'.F = A ++ x' :: B) → s'.fates = [] → s'.steps ≤ s.steps + 1 → K (.int .i64 e) h') :
    CallsH Try.prog 28 #[ptrV p, str l] h K ⟨⟩ := by
  refine Flush_c2 a hl hs (fun g1 e1 he => ?_) (fun g1 A B x x' fv h1 h2 h3 h4 h7 u => ?_)
  · exact H _ _ s ((SUpd.refl a).ext e1) (.inl ⟨rfl, he⟩) hn (Nat.le_succ _)
  · refine H _ _ _ u (.inr ⟨A, x, B, x', h1, h2, ?_, h7, rfl⟩) (by show s.fates.tail = []; rw [hn]; rfl) (Nat.le_refl _)
    rw [h4, hn]; rfl
theorem rCreate_a {p : Nat} {r : Rs} {l : List UInt8} (a : RsAt h p r) (hl : l.length < 9223372036854775808) (hs : r.steps + 1 < 1000000)
    (H : ∀ e h' r', RUpd h h' p r r' → (r'.X = r.X ∧ (¬ okName l ∨ (∃ x ∈ r.X, x.f.name = l) ∨ 256 ≤ r.X.length) ∨ okName l ∧ (∀ x ∈ r.X, x.f.name ≠ l) ∧ r.X.length < 256 ∧ ∃ A B pv, r.X = A ++ B ∧ r'.X = A ++ ⟨⟨l, [], []⟩, pv⟩ :: B) → r'.steps ≤ r.steps + 1 → K (.int .i64 e) h') :
    CallsH Try.prog 41 #[ptrV p, str l] h K ⟨⟩ :=
  rCreate_c a hl hs (fun e he => H _ _ r (RUpd.refl a) (.inl ⟨rfl, he⟩) (Nat.le_succ _)) (fun g1 A B sv h1 h2 h3 h4 u => H _ _ _ u (.inr ⟨h1, h2, h3, A, B, _, h4, rfl⟩) (Nat.le_refl _))
theorem rWrite_a {p : Nat} {r : Rs} {l b : List UInt8} {k : Int} {v : Value} (a : RsAt h p r) (hl : l.length < 9223372036854775808) (hB : Bytes h v b) (hbl : b.length ≤ 1000000) (hv : b ≠ [] → ∀ c, blkV v = some c → ¬ r.foot p c)
    (k0 : -9223372036854775808 ≤ k) (k1 : k < 9223372036854775808) (hs : r.steps + 1 < 1000000)
    (H : ∀ e h' r', RUpd h h' p r r' → (r'.X = r.X ∧ (¬ okName l ∨ (∀ x ∈ r.X, x.f.name ≠ l) ∨ k < 0 ∨ (b ≠ [] ∧ 268435456 < k + b.length)) ∨ okName l ∧ ∃ A x B pv, r.X = A ++ x :: B ∧ x.f.name = l ∧ 0 ≤ k ∧ (b ≠ [] → k + b.length ≤ 268435456) ∧ r'.X = A ++ ⟨x.f.writes (cutP k.toNat b), pv⟩ :: B) → r'.steps ≤ r.steps + 1 → K (.int .i64 e) h') :
    CallsH Try.prog 42 #[ptrV p, str l, .int .i64 k, v] h K ⟨⟩ :=
  rWrite_c a hl hB hbl hv k0 k1 hs (fun e he => H _ _ r (RUpd.refl a) (.inl ⟨rfl, he⟩) (Nat.le_succ _)) (fun g1 A x B pv h1 h2 h3 h4 h5 u => H _ _ _ u (.inr ⟨h1, A, x, B, pv, h2, h3, h4, h5, rfl⟩) (Nat.le_refl _))
theorem rFlush_a {p : Nat} {r : Rs} {l : List UInt8} (a : RsAt h p r) (hl : l.length < 9223372036854775808) (hs : r.steps + 1 < 1000000)
    (H : ∀ e h' r', RUpd h h' p r r' → (r'.X = r.X ∧ (¬ okName l ∨ (∀ x ∈ r.X, x.f.name ≠ l)) ∨ okName l ∧ ∃ A x B pv, r.X = A ++ x :: B ∧ x.f.name = l ∧ r'.X = A ++ ⟨x.f.flush x.f.ps.length, pv⟩ :: B) → r'.steps ≤ r.steps + 1 → K (.int .i64 e) h') :
    CallsH Try.prog 43 #[ptrV p, str l] h K ⟨⟩ :=
  rFlush_c a hl hs (fun e he => H _ _ r (RUpd.refl a) (.inl ⟨rfl, he⟩) (Nat.le_succ _)) (fun g1 A x B pv h1 h2 h3 u => H _ _ _ u (.inr ⟨h1, A, x, B, pv, h2, h3, rfl⟩) (Nat.le_refl _))

theorem alike_create {s s' : St} {r r' : Rs} {l : List UInt8} (al : Alike s r) (hs : s'.F = s.F ∧ cErr s l ≠ 0 ∨ cErr s l = 0 ∧ ∃ b, s'.F = s.F ++ [newFh l b])
    (hr : r'.X = r.X ∧ (¬ okName l ∨ (∃ x ∈ r.X, x.f.name = l) ∨ 256 ≤ r.X.length) ∨ okName l ∧ (∀ x ∈ r.X, x.f.name ≠ l) ∧ r.X.length < 256 ∧ ∃ A B pv, r.X = A ++ B ∧ r'.X = A ++ ⟨⟨l, [], []⟩, pv⟩ :: B) : Alike s' r' := by
  have hlen := al.len
  have hiff : cErr s l = 0 ↔ okName l ∧ (∀ x ∈ r.X, x.f.name ≠ l) ∧ r.X.length < 256 := by
    unfold cErr
    by_cases ho : okName l
    · rw [if_pos ho]
      cases hg : s.get l with
      | some x =>
        obtain ⟨y, hy, hyn⟩ := al.has.1 (get_has.1 ⟨x, hg⟩)
        constructor
        · intro h; cases h
        · intro h; exact absurd hyn (h.2.1 y hy)
      | none =>
        have h9 : ∀ x ∈ r.X, x.f.name ≠ l := fun x hx e => by
          obtain ⟨y, hy⟩ := get_has.2 (al.has.2 ⟨x, hx, e⟩)
          rw [hg] at hy; cases hy
        dsimp only
        split
        · constructor
          · intro h; cases h
          · intro h; omega
        · exact ⟨fun _ => ⟨ho, h9, by omega⟩, fun _ => rfl⟩
    · rw [if_neg ho]
      exact ⟨fun h => (by cases h), fun h => absurd h.1 ho⟩
  rcases hs with ⟨h1, h2⟩ | ⟨h1, b, h2⟩
  · rcases hr with ⟨h3, h4⟩ | ⟨h3, h4, h5, -⟩
    · unfold Alike; rw [h1, h3]; exact al
    · exact absurd (hiff.2 ⟨h3, h4, h5⟩) h2
  · have h6 := hiff.1 h1
    rcases hr with ⟨h3, h4⟩ | ⟨h3, h4, h5, A, B, pv, h7, h8⟩
    · rcases h4 with h4 | ⟨x, hx, h4⟩ | h4
      · exact absurd h6.1 h4
      · exact absurd h4 (h6.2.1 x hx)
      · omega
    · unfold Alike at al ⊢
      rw [h2, h8, List.map_append, List.map_append, List.map_cons]
      refine List.perm_middle.trans ?_
      rw [h7, List.map_append] at al
      refine ((List.perm_cons _).2 al).trans ?_
      exact (List.perm_append_comm (l₁ := [(newFh l b).f]) (l₂ := s.F.map Fh.f))
theorem alike_change {p pr : Nat} {s s' : St} {r r' : Rs} {l : List UInt8} {cs cr ds dr : Prop} {F : Fl → Fl} (a : StAt h p s) (ar : RsAt h pr r) (al : Alike s r) (hs : s'.F = s.F ∧ cs ∨ ds ∧ ∃ A x B x', s.F = A ++ x :: B ∧ x.name = l ∧ x'.f = F x.f ∧ s'.F = A ++ x' :: B)
    (hr : r'.X = r.X ∧ cr ∨ dr ∧ ∃ A x B pv, r.X = A ++ x :: B ∧ x.f.name = l ∧ r'.X = A ++ ⟨F x.f, pv⟩ :: B) (h1 : cs → dr → (∃ x ∈ r.X, x.f.name = l) → False) (h2 : cr → ds → okName l → (∃ x ∈ s.F, x.name = l) → False) : Alike s' r' := by
  rcases hs with ⟨e1, c1⟩ | ⟨d1, A, x, B, x', e3, e4, e5, e6⟩
  · rcases hr with ⟨e2, c2⟩ | ⟨d2, A', y, B', pv, e7, e8, e9⟩
    · unfold Alike; rw [e1, e2]; exact al
    · exact (h1 c1 d2 ⟨y, by rw [e7]; simp, e8⟩).elim
  · rcases hr with ⟨e2, c2⟩ | ⟨d2, A', y, B', pv, e7, e8, e9⟩
    · have hx : x ∈ s.F := by rw [e3]; simp
      exact (h2 c2 d1 (e4 ▸ a.names x hx) ⟨x, hx, e4⟩).elim
    · have := al.change (p := p) ar e3 e7 (e4.trans e8.symm) (y' := ⟨F y.f, pv⟩) (x' := x') (fun e => by show F y.f = _; rw [e5, e])
      unfold Alike
      rw [e6, e9]
      exact this

/-- The files behind one write alone. -/
def First (xs : List Pw) (i : Nat) (s : St) : Prop := (i = 0 → s.F = []) ∧ (i = 1 → ∀ x : Pw, xs[0]? = some x → okName x.name → 0 ≤ x.at_ → x.fl = false → x.b ≠ [] → x.at_ + x.b.length ≤ 268435456 → s.F.map Fh.f = [(⟨x.name, [], []⟩ : Fl).writes (cutP x.at_.toNat x.b)])
set_option maxHeartbeats 8000000 in
theorem both_c {v : Value} {xs : List Pw} (s : Pws h v xs) (hx : xs.length ≤ 60) (hl : ∀ x ∈ xs, PLim x) (H : ∀ h' p s pr r, Bo h h' p s pr r 200 200 → Alike s r → First xs xs.length s → K (.tuple #[ptrV p, ptrV pr]) h') : CallsH Try.prog 11 #[v] h K ⟨⟩ := by
  refine n11_calls ?_
  unfold n11
  obtain ⟨a0, cc, rfl⟩ := s.form
  refine New_c Fas.none_ (by decide) (fun h1 e1 hn => by cases hn) (fun h1 p t e1 _ tF tf ts hp hft ht => ?_)
  simp (disch := omega)
  refine rNew_c fun h2 pr r e2 rX rs hrf hr => ?_
  have z1 := e1.size
  refine loopX1 (α := Nat × St × Rs) (fun a => .int .i64 a.1) (fun a g => a.1 ≤ xs.length ∧ Bo h g p a.2.1 pr a.2.2 (3 * a.1) (3 * a.1) ∧ Alike a.2.1 a.2.2 ∧ First xs a.1 a.2.1) (fun a => xs.length - a.1) (0, t, r) rfl
    ⟨Nat.zero_le _, ⟨ht.ext e2, hr, e1.trans e2, hft, fun b hb => by have := hrf b hb; omega, fun x hx => (by rw [tF] at hx; cases hx), by rw [ts]; exact Nat.zero_le _, by rw [rs]; exact Nat.zero_le _, tf⟩, by unfold Alike; dsimp only; rw [tF, rX]; exact .nil, fun _ => tF, fun e => by cases e⟩ ?_
  rintro ⟨i, s', r'⟩ g ⟨hi, I, al, fst⟩ X hX
  dsimp only at I al fst hX ⊢
  by_cases hin : i < xs.length
  · obtain ⟨ad, c', hv, q0, q1, q2, q3⟩ := (s.ext I.ext).cell hin
    cases hv
    have hxm := List.getElem_mem hin
    have ok := s.ok _ hxm
    have lim := hl _ hxm
    obtain ⟨bo, bc, hbv⟩ := ok.b.form
    rw [hbv] at q2
    have Q0 : ∀ g', Ext h g' → hcell g' (elt ad (i * 4)) = some (str xs[i].name) := fun g' e => by
      obtain ⟨ad', c'', hv', w0, -⟩ := (s.ext e).cell hin
      cases hv'; exact w0
    have Q1 : ∀ g', Ext h g' → hcell g' (elt ad (i * 4 + 1)) = some (.int .i64 xs[i].at_) := fun g' e => by
      obtain ⟨ad', c'', hv', -, w0, -⟩ := (s.ext e).cell hin
      cases hv'; exact w0
    have Q2 : ∀ g', Ext h g' → hcell g' (elt ad (i * 4 + 2)) = some (.slice bo xs[i].b.length bc) := fun g' e => by
      obtain ⟨ad', c'', hv', -, -, w0, -⟩ := (s.ext e).cell hin
      cases hv'; rw [← hbv]; exact w0
    have Q3 : ∀ g', Ext h g' → hcell g' (elt ad (i * 4 + 3)) = some (.bool xs[i].fl) := fun g' e => by
      obtain ⟨ad', c'', hv', -, -, -, w0⟩ := (s.ext e).cell hin
      cases hv'; exact w0
    have hstb : ∀ {g' s' r' n m}, Bo h g' p s' pr r' n m → n ≤ 190 → m ≤ 190 → s'.steps + 1 < 1000000 ∧ r'.steps + 1 < 1000000 := fun I hn hm => by have := I.steps; have := I.rsteps; omega
    generalize hxe : xs[i] = x at *
    simp (disch := omega)
    refine JoinN.mk ?_
    refine JoinN.mk ?_
    simp (disch := omega) [q0]
    have o1 := ok.at_
    have o3 := ok.name
    have l1 := lim.1
    have l2 := lim.2
    unfold i64 at o1
    have hi60 : i < 60 := by omega
    have hB0 : Bytes h (.slice bo x.b.length bc) x.b := by rw [← hbv]; exact ok.b
    have hnf : x.b ≠ [] → ∀ d, blkV (.slice bo x.b.length bc) = some d → d < h.size := fun hne d hd => hB0.lt hd hne
    refine Create_a I.st o3 (hstb I (by omega) (by omega)).1 I.nil fun _ g1 s1 u1 c1 n1 t1 => ?_
    have I1 := I.sup (n' := 3 * i + 1) u1 (fun y hy q hq b hb => by
      rcases c1 with ⟨e, -⟩ | ⟨-, b', e⟩
      · rw [e] at hy; exact .inl ⟨y, hy, q, hq, hb⟩
      · rw [e] at hy
        rcases List.mem_append.1 hy with hy | hy
        · exact .inl ⟨y, hy, q, hq, hb⟩
        · simp at hy; subst hy; cases hq) (by have := I.steps; omega) n1
    have w0 := Q0 _ I1.ext
    simp (disch := omega) [w0]
    refine rCreate_a I1.rs o3 (hstb I1 (by omega) (by omega)).2 fun _ g2 r1 u2 c2 t2 => ?_
    have I2 := I1.rup (m' := 3 * i + 1) u2 (by have := I1.rsteps; omega)
    have al2 := alike_create al c1 c2
    have w0 := Q0 _ I2.ext
    have w1 := Q1 _ I2.ext
    have w2 := Q2 _ I2.ext
    simp (disch := omega) [w0, w1, w2]
    refine Write_a I2.st o3 (hB0.ext I2.ext) (by omega) (fun hne d hd e => by have := hnf hne d hd; have := I2.foot d e; omega) o1.1 o1.2 (hstb I2 (by omega) (by omega)).1 I2.nil fun _ g3 s3 u3 c3 n3 t3 => ?_
    have I3 := I2.sup (n' := 3 * i + 2) u3 (fun y hy q hq b hb => by
      rcases c3 with ⟨e, -⟩ | ⟨A, z, B, z', e1, -, -, -, -, e2, e3⟩
      · rw [e] at hy; exact .inl ⟨y, hy, q, hq, hb⟩
      · rw [e3] at hy
        rw [e1]
        exact pcs_swap e2 y hy q hq b hb) (by have := I2.steps; omega) n3
    have w0 := Q0 _ I3.ext
    have w1 := Q1 _ I3.ext
    have w2 := Q2 _ I3.ext
    simp (disch := omega) [w0, w1, w2]
    refine rWrite_a I3.rs o3 (hB0.ext I3.ext) (by omega) (fun hne d hd e => by have := hnf hne d hd; have := I3.rfoot d e; omega) o1.1 o1.2 (hstb I3 (by omega) (by omega)).2 fun _ g4 r4 u4 c4 t4 => ?_
    have I4 := I3.rup (m' := 3 * i + 2) u4 (by have := I3.rsteps; omega)
    have al4 : Alike s3 r4 := by
      refine alike_change (F := fun f => f.writes (cutP x.at_.toNat x.b)) (l := x.name) (cs := wErr s1 x.name x.at_ x.b ≠ 0) (cr := ¬ okName x.name ∨ (∀ x_1 ∈ r1.X, x_1.f.name ≠ x.name) ∨ x.at_ < 0 ∨ (x.b ≠ [] ∧ 268435456 < x.at_ + x.b.length))
        (ds := 0 ≤ x.at_ ∧ (x.b ≠ [] → x.at_ + x.b.length ≤ 268435456)) (dr := okName x.name ∧ 0 ≤ x.at_ ∧ (x.b ≠ [] → x.at_ + x.b.length ≤ 268435456)) I2.st I2.rs al2
        (c3.imp id (fun ⟨A, z, B, z', e1, e2, e5, e6, e3, _, e4⟩ => ⟨⟨e5, e6⟩, A, z, B, z', e1, e2, e3, e4⟩)) (c4.imp id (fun ⟨e0, A, z, B, pv, e1, e2, e5, e6, e3⟩ => ⟨⟨e0, e5, e6⟩, A, z, B, pv, e1, e2, e3⟩)) ?_ ?_
      · intro he ⟨ho, k9, k8⟩ hh
        obtain ⟨y, hy⟩ := get_has.2 (al2.has.2 hh)
        refine he ?_
        unfold wErr
        rw [if_pos ho, hy]
        dsimp only
        rw [if_neg (by omega), if_neg (fun e => by have := k8 e.1; omega)]
      · intro he ⟨k9, k8⟩ ho hh
        obtain ⟨y, hy, hyn⟩ := al2.has.1 hh
        rcases he with he | he | he | he
        · exact he ho
        · exact he y hy hyn
        · omega
        · have := k8 he.1; omega
    have w0 := Q0 _ I4.ext
    have w3 := Q3 _ I4.ext
    simp (disch := omega) [w3]
    have step : ∀ g5 s5 r5, Bo h g5 p s5 pr r5 (3 * i + 3) (3 * i + 3) → Alike s5 r5 → First xs (i + 1) s5 → ∀ w, w = .int .i64 ((i : Int) + 1) → X w g5 := fun g5 s5 r5 I5 al5 f5 w hw => hX (i + 1, s5, r5) _ _ (by rw [hw]; simp) ⟨hin, I5, al5, f5⟩ (by dsimp only; omega)
    cases hfl : x.fl with
    | false =>
      simp (disch := omega)
      refine step _ _ _ (I4.of_ext (.refl _) (by omega) (by omega)) al4 ⟨fun e => by omega, fun e y hy ho k0 _ hbn hbl => ?_⟩ _ rfl
      obtain rfl : i = 0 := by omega
      rw [List.getElem?_eq_getElem hin, hxe] at hy
      cases hy
      have hF := fst.1 rfl
      have hg0 : s'.get x.name = none := by unfold St.get; rw [hF]; rfl
      rcases c1 with ⟨-, h9⟩ | ⟨-, b1, h9⟩
      · exfalso; refine h9 ?_
        unfold cErr
        rw [if_pos ho, hg0]
        dsimp only
        rw [hF]; rfl
      rw [hF, List.nil_append] at h9
      have hg1 : s1.get x.name = some (newFh x.name b1) := by unfold St.get; rw [h9]; simp [newFh]
      rcases c3 with ⟨-, h8⟩ | ⟨A, z, B, z', e1, e2, -, -, e5, -, e6⟩
      · exfalso; refine h8 ?_
        unfold wErr
        rw [if_pos ho, hg1]
        dsimp only
        rw [if_neg (by omega), if_neg (fun e => by have := e.2; omega)]
      · rw [h9] at e1
        cases A with
        | cons a A => cases A <;> cases e1
        | nil =>
          cases e1
          rw [e6]
          simp only [List.nil_append, List.map_cons, List.map_nil, e5]
          rfl
    | true =>
      simp (disch := omega) [w0]
      refine Flush_a I4.st o3 (hstb I4 (by omega) (by omega)).1 I4.nil fun _ g5 s5 u5 c5 n5 t5 => ?_
      have I5 := I4.sup (n' := 3 * i + 3) u5 (fun y hy q hq b hb => by
        rcases c5 with ⟨e, -⟩ | ⟨A, z, B, z', e1, -, -, e2, e3⟩
        · rw [e] at hy; exact .inl ⟨y, hy, q, hq, hb⟩
        · rw [e3] at hy
          rw [e1]
          exact pcs_swap e2 y hy q hq b hb) (by have := I4.steps; omega) n5
      have w0 := Q0 _ I5.ext
      simp (disch := omega) [w0]
      refine rFlush_a I5.rs o3 (hstb I5 (by omega) (by omega)).2 fun _ g6 r6 u6 c6 t6 => ?_
      have I6 := I5.rup (m' := 3 * i + 3) u6 (by have := I5.rsteps; omega)
      have al6 : Alike s5 r6 := by
        refine alike_change (F := fun f => f.flush f.ps.length) (l := x.name) (cs := fErr s3 x.name ≠ 0) (cr := ¬ okName x.name ∨ (∀ x_1 ∈ r4.X, x_1.f.name ≠ x.name)) (ds := True) (dr := okName x.name) I4.st I4.rs al4
          (c5.imp id (fun ⟨A, z, B, z', e1, e2, e3, _, e4⟩ => ⟨trivial, A, z, B, z', e1, e2, e3, e4⟩)) (c6.imp id (fun ⟨e0, A, z, B, pv, e1, e2, e3⟩ => ⟨e0, A, z, B, pv, e1, e2, e3⟩)) ?_ ?_
        · intro he ho hh
          obtain ⟨y, hy⟩ := get_has.2 (al4.has.2 hh)
          refine he ?_
          unfold fErr
          rw [if_pos ho, hy]
        · intro he _ ho hh
          obtain ⟨y, hy, hyn⟩ := al4.has.1 hh
          rcases he with he | he
          · exact he ho
          · exact he y hy hyn
      simp (disch := omega)
      refine step _ _ _ I6 al6 ⟨fun e => by omega, fun e y hy ho k0 hfx hbn hbl => ?_⟩ _ rfl
      obtain rfl : i = 0 := by omega
      rw [List.getElem?_eq_getElem hin, hxe] at hy
      cases hy
      rw [hfl] at hfx; cases hfx
  · obtain rfl : i = xs.length := by omega
    simp (disch := omega)
    exact H _ p s' pr r' (I.of_ext (.refl _) (by omega) (by omega)) al fst
end Go.Proofs.Ytdmcaaojapcbcaa

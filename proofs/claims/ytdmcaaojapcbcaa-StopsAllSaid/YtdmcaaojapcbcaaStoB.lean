/- Store: bytes written. Store: flushed. Store: a file's size set. -/
import Derived.Test.YtdmcaaojapcbcaaStoA
set_option linter.unusedSimpArgs false
set_option linter.unusedVariables false
namespace Go.Proofs.Ytdmcaaojapcbcaa
open Go.Vc
variable {K : Value → Heap → Prop} {h : Heap}

def wErr (s : St) (l : List UInt8) (k : Int) (b : List UInt8) : Int :=
  if okName l then (match s.get l with | none => 7 | some _ => if k < 0 then 4 else if b ≠ [] ∧ 268435456 < k + b.length then 6 else 0) else 2

set_option maxHeartbeats 4000000 in
theorem Write_c2 {p : Nat} {s : St} {l b : List UInt8} {k : Int} {v : Value} (a : StAt h p s) (hl : l.length < 9223372036854775808) (hB : Bytes h v b) (hbl : b.length ≤ 1000000) (hv : b ≠ [] → ∀ c, blkV v = some c → ¬ s.foot p c)
    (k0 : -9223372036854775808 ≤ k) (k1 : k < 9223372036854775808) (hs : s.steps + 1 < 1000000)
    (He : ∀ h', Ext h h' → wErr s l k b ≠ 0 → K (.int .i64 (wErr s l k b)) h')
    (Hw : ∀ h' A B x x' fv, s.F = A ++ x :: B → x.name = l → 0 ≤ k → (b ≠ [] → k + b.length ≤ 268435456) → x'.name = x.name → x'.f = x.f.writes (went (fateE s.fates) (fateK s.fates) (cutP k.toNat b)) → (∀ q ∈ x'.qs, ∀ b, blkV q.2 = some b → (∃ q0 ∈ x.qs, blkV q0.2 = some b) ∨ h.size ≤ b) → SUpd h h' p s { s.stepped fv with F := A ++ x' :: B } → K (.int .i64 (fateE s.fates)) h') :
    CallsH Try.prog 34 #[ptrV p, str l, .int .i64 k, v] h K ⟨⟩ := by
  refine n34_calls ?_
  unfold n34
  unfold wErr at He
  refine find_c3 a hl (fun h1 e1 ho => ?_) (fun h1 e1 ho hg => ?_) (fun h1 A B x e1 ho hg hF hn => ?_)
  · simp (disch := omega)
    have := He h1 e1
    rw [if_neg ho] at this
    exact this (by decide)
  · simp (disch := omega)
    have := He h1 e1
    rw [if_pos ho, hg] at this
    exact this (by simp)
  have He := He h1 e1
  rw [if_pos ho, hg] at He
  dsimp only at He
  have hx : x ∈ s.F := by rw [hF]; simp
  obtain ⟨va, vc, rfl⟩ := hB.form
  by_cases hk0 : k < 0
  · rw [if_pos hk0] at He
    simp (disch := omega) [hk0]
    exact He (by decide)
  rw [if_neg hk0] at He
  simp (disch := omega) [hk0]
  have a1 := a.ext e1
  have hFx : A ++ x :: B = s.F := hF.symm
  by_cases hb : b = []
  · subst hb
    simp (disch := omega)
    refine step_c a1 hs fun h2 fv u2 => ?_
    simp (disch := omega)
    refine loopX3 (α := Unit) (fun _ => .int .i64 k) (fun _ => .slice va 0 vc) (fun _ => .int .i64 (fateK s.fates)) (fun _ g => g = h2) (fun _ => 0) () ⟨rfl, rfl, rfl⟩ rfl ?_
    rintro _ g rfl X hX
    simp (disch := omega)
    refine Hw _ A B x x fv hF hn (by omega) (fun e => absurd rfl e) rfl ?_ (fun q hq b hb => .inl ⟨q, hq, hb⟩) ?_
    · rw [cutP_nil]; unfold went; split <;> simp [Fl.writes]
    · have : (s.stepped fv).F = A ++ x :: B := hF
      rw [← this]
      exact u2.from_ e1
  have hbl0 : 0 < b.length := List.length_pos_iff.2 hb
  by_cases hbig : 268435456 < k + b.length
  · rw [if_pos ⟨hb, hbig⟩] at He
    by_cases hk2 : 268435456 < k
    · simp (disch := omega) [hk2]
      exact He (by decide)
    · simp (disch := omega) [hk2]
      exact He (by decide)
  clear He
  simp (disch := omega)
  refine step_c a1 hs fun h2 fv u2 => ?_
  simp (disch := omega)
  have hpf := a.pfew x hx
  have hst0 := a.stp
  have hfl := u2.st.fl x (by show x ∈ s.F; exact hx)
  have hB2 := (hB.ext e1).modX u2.mod (fun c hc hcb _ => hv hc c hcb)
  have hvlt : ∀ c, blkV (.slice va b.length vc) = some c → c < h2.size ∧ ¬ x.own c := fun c hc => ⟨hB2.lt hc hb, fun e => hv hb c hc (.inr (.inr (.inr ⟨x, hx, e⟩)))⟩
  obtain ⟨k, rfl⟩ := Int.eq_ofNat_of_zero_le (Int.not_lt.1 hk0)
  generalize hE : fateE s.fates = E at *
  have hK0 : 0 ≤ fateK s.fates ∧ fateK s.fates < 9223372036854775808 := by
    unfold fateK
    split
    · omega
    · rename_i n t hf
      have := a.fok (_, n) (by rw [hf]; exact List.mem_cons_self)
      dsimp only at this
      split <;> omega
  refine loopX3 (α := Nat × List UInt8 × Value × Int × Fh) (fun a => .int .i64 a.1) (fun a => a.2.2.1) (fun a => .int .i64 a.2.2.2.1)
    (fun a g => Upd h2 g x a.2.2.2.2 ∧ Bytes g a.2.2.1 a.2.1 ∧ (a.2.1 ≠ [] → ∀ c, blkV a.2.2.1 = some c → c < h2.size ∧ ¬ x.own c) ∧ a.1 + a.2.1.length ≤ 268435456 ∧ a.2.2.2.2.qs.length + a.2.1.length ≤ x.qs.length + b.length ∧ -(a.1 : Int) ≤ a.2.2.2.1 ∧ a.2.2.2.1 < 9223372036854775808 ∧ a.2.2.2.2.f.writes (went E a.2.2.2.1 (cutP a.1 a.2.1)) = x.f.writes (went E (fateK s.fates) (cutP k b)))
    (fun a => a.2.1.length) (k, b, .slice va b.length vc, fateK s.fates, x) ⟨rfl, rfl, rfl⟩ ⟨.refl hfl, hB2, fun _ => hvlt, by dsimp only; omega, by dsimp only; omega, by dsimp only; omega, by dsimp only; omega, rfl⟩ ?_
  rintro ⟨k', b', v', kp, x'⟩ g ⟨u, hb', hvl, hlen, hqs, hp0, hp1, heq⟩ X hX
  dsimp only at u hb' hvl hlen hqs hp0 hp1 heq hX ⊢
  obtain ⟨ua, uc, rfl⟩ := hb'.form
  have done : x'.f = x.f.writes (went E (fateK s.fates) (cutP k b)) → K (.int .i64 E) g := fun hd => by
    refine Hw g A B x x' fv hF hn (by omega) (fun _ => by omega) u.name ?_ (fun q hq b hb => (u.pcs q hq b hb).imp id (fun e => by have := e1.size; have := u2.mod.size; omega)) ?_
    · rw [Int.toNat_natCast]; exact hd
    · have hFs : (s.stepped fv).F = A ++ x :: B := hF
      exact (u2.from_ e1).trans (u2.st.put hFs u (by show _ ≤ (s.steps + 1) * 1000000; omega))
  have ex : b' = [] ∨ (E ≠ 0 ∧ kp ≤ 0) → x'.f = x.f.writes (went E (fateK s.fates) (cutP k b)) := by
    intro hh
    rw [← heq]
    have : went E kp (cutP k' b') = [] := by
      unfold went
      rcases hh with rfl | ⟨h1, h2⟩
      · rw [cutP_nil]; split <;> simp
      · rw [if_neg h1, show kp.toNat = 0 by omega]; simp
    rw [this]; rfl
  by_cases hbe : b' = []
  · subst hbe
    simp (disch := omega)
    exact done (ex (.inl rfl))
  have hbl' : 0 < b'.length := List.length_pos_iff.2 hbe
  by_cases hst : E ≠ 0 ∧ kp ≤ 0
  · simp (disch := omega) [hst.1]
    exact done (ex (.inr hst))
  clear done ex
  have hgo : E = 0 ∨ 0 < kp := by omega
  have hxb : x'.b = x.b := u.b
  obtain ⟨n, hnd⟩ : ∃ n, n = min b'.length (512 - k' % 512) := ⟨_, rfl⟩
  have hmn : (if (512 : Int) - (k' : Int) % 512 < (b'.length : Int) then 512 - (k' : Int) % 512 else (b'.length : Int)) = (n : Int) := by rw [hnd]; split <;> omega
  have hn1 : 1 ≤ n ∧ n ≤ b'.length ∧ n ≤ 512 - k' % 512 ∧ k' + n ≤ 268435456 := by omega
  have hsum : (k' : Int) + (n : Int) = ((k' + n : Nat) : Int) := by omega
  obtain ⟨ad, rfl, -, huc, hA⟩ := hb'.at hbl'
  have hcut := cutP_cons (k := k') hbe
  rw [← hnd] at hcut
  by_cases hE0 : E = 0
  · simp (disch := omega) [hE0]
    simp only [hmn, hsum]
    rw [← hxb]
    refine grow_c u.fl (n := k' + n) (by omega) fun g1 lv nv u1 => ?_
    have c1 := cellOf (i := 1) u1.fl.cells rfl
    unfold ptrV
    simp (disch := omega) [c1, hmn]
    have hB1 : Bytes g1 (.slice (some ad) b'.length uc) b' := hb'.mod u1.mod (fun c hc e => (u.own c e).elim (hvl hbe c hc).2 (fun e => by have := (hvl hbe c hc).1; omega))
    obtain ⟨-, -, hA1⟩ : True ∧ True ∧ At g1 ad b' := by
      rcases hB1 with ⟨e, -⟩ | ⟨a', c', e, -, h3⟩
      · cases e
      · cases e; exact ⟨trivial, trivial, h3⟩
    have hAt := hA1.part 0 n uc (by omega) (by omega) huc
    rw [sub_zero, List.drop_zero] at hAt
    have hbn : Bytes g1 (.slice (some ad) n uc) (b'.take n) := .inr ⟨ad, uc, by congr 1; simp; omega, by simp; omega, hAt⟩
    have hsrc := Src.of_bytes hbn
    rw [show (b'.take n).length = n by simp; omega] at hsrc
    refine bclone_c hsrc ⟨_, _, rfl⟩ (one_bytes _) (by omega) fun w g2 e2 ow wf wf2 => ?_
    have c2 := cellOf (i := 1) ((u1.fl.ext e2).cells) rfl
    have hxl := get_some_lt (u1.fl.ext e2).cells
    obtain ⟨wa, wn, wc, rfl, -, -, -⟩ := ow.form
    obtain ⟨pa, pn, pc, hpv, hpl, hpc, -⟩ := u1.fl.ps.form
    have hpv1 : x'.pv = .slice pa pn pc := hpv
    have o2 := u1.fl.ps.ext e2
    have hbw : Bytes g2 (.slice wa wn wc) (b'.take n) := ow.bytes
    dsimp only at o2 hpl
    have hxl' : x'.b < g2.size := hxl
    have hxn : ¬ x'.b = g2.size := by omega
    have c2' : hcell g2 ⟨x'.b, 1, none⟩ = some (.slice pa pn pc) := hpv ▸ c2
    simp (disch := omega) [c2', hpv1, hxn]
    have hql : (x'.qs.flatMap pcV).length = x'.qs.length * 2 := by
      have : ∀ l : List (Pc × Value), (l.flatMap pcV).length = l.length * 2 := fun l => by induction l with | nil => rfl | cons f l ih => rw [List.flatMap_cons, List.length_append, ih]; simp [pcV]; omega
      exact this _
    have hpn : pn = x'.qs.length := by omega
    have hqn : x'.qs.length ≤ 1000000000000 := by omega
    have e3 : Ext g2 (g2.push (.cells #[.int .i64 k', .slice wa wn wc] pT)) := (by repeat' (first | (with_reducible exact Ext.refl _) | (with_reducible assumption) | (with_reducible refine push_ext ?_) | (with_reducible refine hset_ext ?_ ?_) | (with_reducible refine Ext.trans ?_ (by assumption)) | omega | (simp; done) | (simp; omega) | (refine Ext.size ?_) | (refine Nat.le_succ_of_le (Ext.size ?_))))
    have o2' := o2.ext e3
    have hpv' : x'.pv = .slice pa pn pc := hpv1
    rw [hpv1] at o2'
    refine Hp_appendG (e := pT) (s := 2) (by_ := 32) (n := pn) (k := 1) (news := [.int .i64 k', .slice wa wn wc]) (by kernel_rfl) (by kernel_rfl) o2' hpl (by omega) (Src_new (vs := [.int .i64 k', .slice wa wn wc]) rfl) (by simp [one]) (by omega) (by omega) fun pv' g3 o3 m3 f3 _ => ?_
    obtain ⟨pa', pn', pc', rfl, hpl', hpc', -⟩ := o3.form
    have hxpb : ∀ c, blkG (.slice pa pn pc) = some c → c ≠ x'.b := fun c hc => u1.fl.ps.ne (by dsimp only; rw [hpv1]; exact hc) u1.fl.cells pT_fT
    have cel2 := (u1.fl.ext (e2.trans e3)).cells
    have cel3 := (m3.block x'.b (get_some_lt cel2) (fun e => hxpb _ e rfl)).trans cel2
    have d1 := cellOf (i := 1) cel3 rfl
    have d2 := cellOf (i := 2) cel3 rfl
    have dz := frzOf (i := 1) cel3
    obtain ⟨na, nn, nc, hnv, hnl, hnc, hnne⟩ := u1.fl.now.form
    have hnv1 : nv = .slice na nn nc := hnv
    have hnow : (growL x'.f.now (k' + n)).length = nn := by
      have e5 : (Fh.f { x' with last := growL x'.last (k' + n), lv := lv, nv := nv }).now = growL x'.f.now (k' + n) := u.fl.ok.now_grow (k' + n)
      rw [e5] at hnl
      simpa using hnl
    have hnn : nn = max x'.f.now.length (k' + n) := by rw [← hnow, growL_len]
    obtain ⟨nb, no, rfl⟩ := hnne (by intro e; rw [e] at hnl; simp at hnl; omega)
    have d1' : hcell g3 ⟨x'.b, 1, none⟩ = some (.slice pa pn pc) := hpv ▸ d1
    have d2' : hcell g3 ⟨x'.b, 2, none⟩ = some (.slice (some ⟨nb, no, none⟩) nn nc) := hnv1 ▸ d2
    have u3 := u.trans u1
    have had : ∀ c, blkV (.slice (some ad) n uc) = some c → c < g1.size ∧ ¬ Fh.own { x' with last := growL x'.last (k' + n), lv := lv, nv := nv } c := fun c hc => by
      have h1 := hvl hbe c hc
      have h2 := u3.mod.size
      exact ⟨by omega, fun e => (u3.own c e).elim h1.2 (fun e => by omega)⟩
    have hb4 : Bytes (hset g3 ⟨x'.b, 1, none⟩ (.slice pa' pn' pc')) (.slice (some ad) n uc) (b'.take n) := by
      refine hbn.mod (S := Fh.own { x' with last := growL x'.last (k' + n), lv := lv, nv := nv }) (Mod.setIn ((Mod.of_ext (e2.trans e3)).trans m3 (fun c _ e => .inr (.inr (.inl (by dsimp only; rw [hpv1]; exact e))))) (.inl (.inl rfl))) (fun c hc => (had c hc).2)
    have o4 : OwnG bT 1 (hset g3 ⟨x'.b, 1, none⟩ (.slice pa' pn' pc')) (.slice (some ⟨nb, no, none⟩) nn nc) ((growL x'.f.now (k' + n)).map byteV) := by
      have e5 : (Fh.f { x' with last := growL x'.last (k' + n), lv := lv, nv := nv }).now = growL x'.f.now (k' + n) := u.fl.ok.now_grow (k' + n)
      have on := u1.fl.now
      rw [e5] at on
      have hz := e3.size
      refine hnv1 ▸ on.mod (S := fun c => blkG (.slice pa pn pc) = some c ∨ c = x'.b) (Mod.setIn ((Mod.of_ext (e2.trans e3)).trans m3 (fun c _ e => .inl e)) (.inl (.inr rfl))) (fun c hc => ?_)
      rintro (e | e)
      · obtain ⟨arr, ha⟩ := u1.fl.ps.tag (b := c) (by dsimp only; rw [hpv1]; exact e)
        exact on.ne hc ha bT_pT rfl
      · exact on.ne hc u1.fl.cells bT_fT e
    simp (disch := omega) [d1', d2', dz, hmn]
    refine Hp_copyG (lo := k') (m := nn - k') (e := bT) (by kernel_rfl) o4 (by omega) hb4 fun g5 o5 m5 => ?_
    simp (disch := omega) [hmn]
    have htk : (b'.take n).take (nn - k') = b'.take n := List.take_of_length_le (by simp; omega)
    rw [htk] at o5
    have hlb : (b'.take n).length = n := by simp; omega
    have hz3 := e3.size
    have hpo : Pc.ok ⟨k', b'.take n⟩ := ⟨by rw [hlb]; omega, by rw [hlb]; show k' % 512 + n ≤ 512; omega⟩
    have up : Upd g1 g5 { x' with last := growL x'.last (k' + n), lv := lv, nv := nv } ({ x' with last := growL x'.last (k' + n), lv := lv, nv := nv, qs := x'.qs ++ [(⟨k', b'.take n⟩, .slice wa wn wc)], pv := .slice pa' pn' pc' } : Fh) := by
      refine piece_upd (k := k') (b := b'.take n) (w := .slice wa wn wc) (pv' := .slice pa' pn' pc') (h2 := g2) (h3 := g3) u1.fl hpo ?_ e2 hbw wf2 ?_ ?_ ?_ ?_ ?_
      · rw [hlb]; show k' + n ≤ (growL x'.last (k' + n)).length; rw [growL_len]; omega
      · simpa [pcV] using o3
      · refine (Mod.of_ext e3).trans m3 (fun c _ e => ?_)
        show blkG x'.pv = some c
        rw [hpv1]; exact e
      · intro c hc
        rcases f3 c hc with e | e
        · left; show blkG x'.pv = some c; rw [hpv1]; exact e
        · right; exact Nat.le_trans hz3 e
      · show OwnG bT 1 g5 nv _
        have e5 : (Fh.f { x' with last := growL x'.last (k' + n), lv := lv, nv := nv }).now = growL x'.f.now (k' + n) := u.fl.ok.now_grow (k' + n)
        rw [e5, hnv1]
        exact o5
      · refine m5.mono (fun c _ e => ?_)
        show blkG nv = some c
        rw [hnv1]; exact e
    have uu := u3.trans up
    have hadb : ∀ c, blkV (.slice (some (sub ad n uc)) (b'.length - n) (uc - n)) = some c → c < h2.size ∧ ¬ x.own c := fun c hc => hvl hbe c (by simpa [blkV] using hc)
    have hbd : Bytes g5 (.slice (some (sub ad n uc)) (b'.length - n) (uc - n)) (b'.drop n) := by
      have hp := hA.part n b'.length uc (by omega) (by omega) huc
      rw [List.take_length] at hp
      have hg : Bytes g (.slice (some (sub ad n uc)) (b'.length - n) (uc - n)) (b'.drop n) := .inr ⟨_, _, by congr 1; simp, by simp; omega, hp⟩
      refine hg.mod (u1.trans up).mod (fun c hc e => ?_)
      have h1 := hadb c hc
      exact (u.own c e).elim h1.2 (fun e => by omega)
    refine hX (k' + n, b'.drop n, .slice (some (sub ad n uc)) (b'.length - n) (uc - n), kp - 1, ({ x' with last := growL x'.last (k' + n), lv := lv, nv := nv, qs := x'.qs ++ [(⟨k', b'.take n⟩, .slice wa wn wc)], pv := .slice pa' pn' pc' } : Fh)) _ _ _ _ (by simp) rfl rfl ⟨uu, hbd, fun _ => hadb, ?_, ?_, ?_, ?_, ?_⟩ ?_
    · simp; omega
    · simp; omega
    · simp; omega
    · simp; omega
    · dsimp only
      rw [← heq, hcut, went_cons hgo]
      show Fl.writes _ _ = Fl.writes (x'.f.add _) _
      congr 1
      unfold Fh.f Fl.add
      dsimp only
      rw [hlb, List.map_append]; rfl
    · simp; omega
  · simp (disch := omega) [hE0]
    simp only [hmn, hsum]
    rw [← hxb]
    refine grow_c u.fl (n := k' + n) (by omega) fun g1 lv nv u1 => ?_
    have c1 := cellOf (i := 1) u1.fl.cells rfl
    unfold ptrV
    simp (disch := omega) [c1, hmn]
    have hB1 : Bytes g1 (.slice (some ad) b'.length uc) b' := hb'.mod u1.mod (fun c hc e => (u.own c e).elim (hvl hbe c hc).2 (fun e => by have := (hvl hbe c hc).1; omega))
    obtain ⟨-, -, hA1⟩ : True ∧ True ∧ At g1 ad b' := by
      rcases hB1 with ⟨e, -⟩ | ⟨a', c', e, -, h3⟩
      · cases e
      · cases e; exact ⟨trivial, trivial, h3⟩
    have hAt := hA1.part 0 n uc (by omega) (by omega) huc
    rw [sub_zero, List.drop_zero] at hAt
    have hbn : Bytes g1 (.slice (some ad) n uc) (b'.take n) := .inr ⟨ad, uc, by congr 1; simp; omega, by simp; omega, hAt⟩
    have hsrc := Src.of_bytes hbn
    rw [show (b'.take n).length = n by simp; omega] at hsrc
    refine bclone_c hsrc ⟨_, _, rfl⟩ (one_bytes _) (by omega) fun w g2 e2 ow wf wf2 => ?_
    have c2 := cellOf (i := 1) ((u1.fl.ext e2).cells) rfl
    have hxl := get_some_lt (u1.fl.ext e2).cells
    obtain ⟨wa, wn, wc, rfl, -, -, -⟩ := ow.form
    obtain ⟨pa, pn, pc, hpv, hpl, hpc, -⟩ := u1.fl.ps.form
    have hpv1 : x'.pv = .slice pa pn pc := hpv
    have o2 := u1.fl.ps.ext e2
    have hbw : Bytes g2 (.slice wa wn wc) (b'.take n) := ow.bytes
    dsimp only at o2 hpl
    have hxl' : x'.b < g2.size := hxl
    have hxn : ¬ x'.b = g2.size := by omega
    have c2' : hcell g2 ⟨x'.b, 1, none⟩ = some (.slice pa pn pc) := hpv ▸ c2
    simp (disch := omega) [c2', hpv1, hxn]
    have hql : (x'.qs.flatMap pcV).length = x'.qs.length * 2 := by
      have : ∀ l : List (Pc × Value), (l.flatMap pcV).length = l.length * 2 := fun l => by induction l with | nil => rfl | cons f l ih => rw [List.flatMap_cons, List.length_append, ih]; simp [pcV]; omega
      exact this _
    have hpn : pn = x'.qs.length := by omega
    have hqn : x'.qs.length ≤ 1000000000000 := by omega
    have e3 : Ext g2 (g2.push (.cells #[.int .i64 k', .slice wa wn wc] pT)) := (by repeat' (first | (with_reducible exact Ext.refl _) | (with_reducible assumption) | (with_reducible refine push_ext ?_) | (with_reducible refine hset_ext ?_ ?_) | (with_reducible refine Ext.trans ?_ (by assumption)) | omega | (simp; done) | (simp; omega) | (refine Ext.size ?_) | (refine Nat.le_succ_of_le (Ext.size ?_))))
    have o2' := o2.ext e3
    have hpv' : x'.pv = .slice pa pn pc := hpv1
    rw [hpv1] at o2'
    refine Hp_appendG (e := pT) (s := 2) (by_ := 32) (n := pn) (k := 1) (news := [.int .i64 k', .slice wa wn wc]) (by kernel_rfl) (by kernel_rfl) o2' hpl (by omega) (Src_new (vs := [.int .i64 k', .slice wa wn wc]) rfl) (by simp [one]) (by omega) (by omega) fun pv' g3 o3 m3 f3 _ => ?_
    obtain ⟨pa', pn', pc', rfl, hpl', hpc', -⟩ := o3.form
    have hxpb : ∀ c, blkG (.slice pa pn pc) = some c → c ≠ x'.b := fun c hc => u1.fl.ps.ne (by dsimp only; rw [hpv1]; exact hc) u1.fl.cells pT_fT
    have cel2 := (u1.fl.ext (e2.trans e3)).cells
    have cel3 := (m3.block x'.b (get_some_lt cel2) (fun e => hxpb _ e rfl)).trans cel2
    have d1 := cellOf (i := 1) cel3 rfl
    have d2 := cellOf (i := 2) cel3 rfl
    have dz := frzOf (i := 1) cel3
    obtain ⟨na, nn, nc, hnv, hnl, hnc, hnne⟩ := u1.fl.now.form
    have hnv1 : nv = .slice na nn nc := hnv
    have hnow : (growL x'.f.now (k' + n)).length = nn := by
      have e5 : (Fh.f { x' with last := growL x'.last (k' + n), lv := lv, nv := nv }).now = growL x'.f.now (k' + n) := u.fl.ok.now_grow (k' + n)
      rw [e5] at hnl
      simpa using hnl
    have hnn : nn = max x'.f.now.length (k' + n) := by rw [← hnow, growL_len]
    obtain ⟨nb, no, rfl⟩ := hnne (by intro e; rw [e] at hnl; simp at hnl; omega)
    have d1' : hcell g3 ⟨x'.b, 1, none⟩ = some (.slice pa pn pc) := hpv ▸ d1
    have d2' : hcell g3 ⟨x'.b, 2, none⟩ = some (.slice (some ⟨nb, no, none⟩) nn nc) := hnv1 ▸ d2
    have u3 := u.trans u1
    have had : ∀ c, blkV (.slice (some ad) n uc) = some c → c < g1.size ∧ ¬ Fh.own { x' with last := growL x'.last (k' + n), lv := lv, nv := nv } c := fun c hc => by
      have h1 := hvl hbe c hc
      have h2 := u3.mod.size
      exact ⟨by omega, fun e => (u3.own c e).elim h1.2 (fun e => by omega)⟩
    have hb4 : Bytes (hset g3 ⟨x'.b, 1, none⟩ (.slice pa' pn' pc')) (.slice (some ad) n uc) (b'.take n) := by
      refine hbn.mod (S := Fh.own { x' with last := growL x'.last (k' + n), lv := lv, nv := nv }) (Mod.setIn ((Mod.of_ext (e2.trans e3)).trans m3 (fun c _ e => .inr (.inr (.inl (by dsimp only; rw [hpv1]; exact e))))) (.inl (.inl rfl))) (fun c hc => (had c hc).2)
    have o4 : OwnG bT 1 (hset g3 ⟨x'.b, 1, none⟩ (.slice pa' pn' pc')) (.slice (some ⟨nb, no, none⟩) nn nc) ((growL x'.f.now (k' + n)).map byteV) := by
      have e5 : (Fh.f { x' with last := growL x'.last (k' + n), lv := lv, nv := nv }).now = growL x'.f.now (k' + n) := u.fl.ok.now_grow (k' + n)
      have on := u1.fl.now
      rw [e5] at on
      have hz := e3.size
      refine hnv1 ▸ on.mod (S := fun c => blkG (.slice pa pn pc) = some c ∨ c = x'.b) (Mod.setIn ((Mod.of_ext (e2.trans e3)).trans m3 (fun c _ e => .inl e)) (.inl (.inr rfl))) (fun c hc => ?_)
      rintro (e | e)
      · obtain ⟨arr, ha⟩ := u1.fl.ps.tag (b := c) (by dsimp only; rw [hpv1]; exact e)
        exact on.ne hc ha bT_pT rfl
      · exact on.ne hc u1.fl.cells bT_fT e
    simp (disch := omega) [d1', d2', dz, hmn]
    refine Hp_copyG (lo := k') (m := nn - k') (e := bT) (by kernel_rfl) o4 (by omega) hb4 fun g5 o5 m5 => ?_
    simp (disch := omega) [hmn]
    have htk : (b'.take n).take (nn - k') = b'.take n := List.take_of_length_le (by simp; omega)
    rw [htk] at o5
    have hlb : (b'.take n).length = n := by simp; omega
    have hz3 := e3.size
    have hpo : Pc.ok ⟨k', b'.take n⟩ := ⟨by rw [hlb]; omega, by rw [hlb]; show k' % 512 + n ≤ 512; omega⟩
    have up : Upd g1 g5 { x' with last := growL x'.last (k' + n), lv := lv, nv := nv } ({ x' with last := growL x'.last (k' + n), lv := lv, nv := nv, qs := x'.qs ++ [(⟨k', b'.take n⟩, .slice wa wn wc)], pv := .slice pa' pn' pc' } : Fh) := by
      refine piece_upd (k := k') (b := b'.take n) (w := .slice wa wn wc) (pv' := .slice pa' pn' pc') (h2 := g2) (h3 := g3) u1.fl hpo ?_ e2 hbw wf2 ?_ ?_ ?_ ?_ ?_
      · rw [hlb]; show k' + n ≤ (growL x'.last (k' + n)).length; rw [growL_len]; omega
      · simpa [pcV] using o3
      · refine (Mod.of_ext e3).trans m3 (fun c _ e => ?_)
        show blkG x'.pv = some c
        rw [hpv1]; exact e
      · intro c hc
        rcases f3 c hc with e | e
        · left; show blkG x'.pv = some c; rw [hpv1]; exact e
        · right; exact Nat.le_trans hz3 e
      · show OwnG bT 1 g5 nv _
        have e5 : (Fh.f { x' with last := growL x'.last (k' + n), lv := lv, nv := nv }).now = growL x'.f.now (k' + n) := u.fl.ok.now_grow (k' + n)
        rw [e5, hnv1]
        exact o5
      · refine m5.mono (fun c _ e => ?_)
        show blkG nv = some c
        rw [hnv1]; exact e
    have uu := u3.trans up
    have hadb : ∀ c, blkV (.slice (some (sub ad n uc)) (b'.length - n) (uc - n)) = some c → c < h2.size ∧ ¬ x.own c := fun c hc => hvl hbe c (by simpa [blkV] using hc)
    have hbd : Bytes g5 (.slice (some (sub ad n uc)) (b'.length - n) (uc - n)) (b'.drop n) := by
      have hp := hA.part n b'.length uc (by omega) (by omega) huc
      rw [List.take_length] at hp
      have hg : Bytes g (.slice (some (sub ad n uc)) (b'.length - n) (uc - n)) (b'.drop n) := .inr ⟨_, _, by congr 1; simp, by simp; omega, hp⟩
      refine hg.mod (u1.trans up).mod (fun c hc e => ?_)
      have h1 := hadb c hc
      exact (u.own c e).elim h1.2 (fun e => by omega)
    refine hX (k' + n, b'.drop n, .slice (some (sub ad n uc)) (b'.length - n) (uc - n), kp - 1, ({ x' with last := growL x'.last (k' + n), lv := lv, nv := nv, qs := x'.qs ++ [(⟨k', b'.take n⟩, .slice wa wn wc)], pv := .slice pa' pn' pc' } : Fh)) _ _ _ _ (by simp) rfl rfl ⟨uu, hbd, fun _ => hadb, ?_, ?_, ?_, ?_, ?_⟩ ?_
    · simp; omega
    · simp; omega
    · simp; omega
    · simp; omega
    · dsimp only
      rw [← heq, hcut, went_cons hgo]
      show Fl.writes _ _ = Fl.writes (x'.f.add _) _
      congr 1
      unfold Fh.f Fl.add
      dsimp only
      rw [hlb, List.map_append]; rfl
    · simp; omega
theorem Write_c {p : Nat} {s : St} {l b : List UInt8} {k : Int} {v : Value} (a : StAt h p s) (hl : l.length < 9223372036854775808) (hB : Bytes h v b) (hbl : b.length ≤ 1000000) (hv : b ≠ [] → ∀ c, blkV v = some c → ¬ s.foot p c)
    (k0 : -9223372036854775808 ≤ k) (k1 : k < 9223372036854775808) (hs : s.steps + 1 < 1000000)
    (He : ∀ h', Ext h h' → wErr s l k b ≠ 0 → K (.int .i64 (wErr s l k b)) h')
    (Hw : ∀ h' A B x x' fv, s.F = A ++ x :: B → x.name = l → 0 ≤ k → (b ≠ [] → k + b.length ≤ 268435456) → x'.name = x.name → x'.f = x.f.writes (went (fateE s.fates) (fateK s.fates) (cutP k.toNat b)) → SUpd h h' p s { s.stepped fv with F := A ++ x' :: B } → K (.int .i64 (fateE s.fates)) h') :
    CallsH Try.prog 34 #[ptrV p, str l, .int .i64 k, v] h K ⟨⟩ :=
  Write_c2 a hl hB hbl hv k0 k1 hs He fun h' A B x x' fv a1 a2 a3 a4 a5 a6 _ u => Hw h' A B x x' fv a1 a2 a3 a4 a5 a6 u
end Go.Proofs.Ytdmcaaojapcbcaa
set_option linter.unusedSimpArgs false
set_option linter.unusedVariables false
namespace Go.Proofs.Ytdmcaaojapcbcaa
open Go.Vc
variable {K : Value → Heap → Prop} {h : Heap}

theorem Upd.make {x : Fh} {h' : Heap} {last : List UInt8} {qs : List (Pc × Value)} {lv pv nv : Value} (a : FlAt h x) (m : Mod x.own h h') (cells : h'[x.b]? = some (.cells #[lv, pv, nv] fT))
    (ol : OwnG bT 1 h' lv (last.map byteV)) (on : OwnG bT 1 h' nv ((layAll last (qs.map (·.1))).map byteV)) (op : OwnG pT 2 h' pv (qs.flatMap pcV)) (ok : Fl.ok ⟨x.name, last, qs.map (·.1)⟩)
    (hl : ∀ c, blkG lv = some c → blkG x.lv = some c ∨ h.size ≤ c) (hp : ∀ c, blkG pv = some c → blkG x.pv = some c ∨ h.size ≤ c) (hn : ∀ c, blkG nv = some c → blkG x.nv = some c ∨ h.size ≤ c) (ne : ∀ c, blkG lv = some c → blkG nv ≠ some c)
    (hq : ∀ q ∈ qs, Bytes h q.2 q.1.b ∧ ∃ q0 ∈ x.qs, blkV q.2 = blkV q0.2) : Upd h h' x ⟨x.name, last, qs, x.b, lv, pv, nv⟩ := by
  have own' : ∀ c, Fh.own ⟨x.name, last, qs, x.b, lv, pv, nv⟩ c → x.own c ∨ h.size ≤ c := by
    rintro c (e | e | e | e)
    · exact .inl (.inl e)
    · exact (hl c e).imp (fun e => .inr (.inl e)) id
    · exact (hp c e).imp (fun e => .inr (.inr (.inl e))) id
    · exact (hn c e).imp (fun e => .inr (.inr (.inr e))) id
  have old : ∀ q ∈ qs, ∀ c, blkV q.2 = some c → c < h.size ∧ ¬ x.own c := fun q hq' c hc => by
    obtain ⟨-, q0, h0, h1⟩ := hq q hq'
    rw [h1] at hc
    exact ⟨a.plt h0 hc, a.ap q0 h0 c hc⟩
  refine ⟨⟨cells, ol, on, op, fun q hq' => (hq q hq').1.mod m (fun c hc => (old q hq' c hc).2), ok, ne, fun q hq' c hc e => ?_⟩, m, own', fun q hq' c hc => ?_, rfl, rfl⟩
  · have := old q hq' c hc
    exact (own' c e).elim this.2 (fun e => by omega)
  · obtain ⟨-, q0, h0, h1⟩ := hq q hq'
    exact .inl ⟨q0, h0, h1 ▸ hc⟩
theorem pcV_len (l : List (Pc × Value)) : (l.flatMap pcV).length = l.length * 2 := by
  induction l with | nil => rfl | cons f l ih => rw [List.flatMap_cons, List.length_append, ih]; simp [pcV]; omega
theorem pcV_get : ∀ (l : List (Pc × Value)) (i : Nat) (hi : i < l.length), (l.flatMap pcV)[i * 2]? = some (.int .i64 (l[i].1.at_ : Nat)) ∧ (l.flatMap pcV)[i * 2 + 1]? = some l[i].2
  | q :: l, 0, _ => by simp [pcV]
  | q :: l, i + 1, hi => by
    have := pcV_get l i (by simpa using hi)
    rw [List.flatMap_cons]
    have e1 : (i + 1) * 2 = (pcV q).length + i * 2 := by simp [pcV]; omega
    rw [e1, List.getElem?_append_right (by omega), List.getElem?_append_right (by omega), Nat.add_sub_cancel_left, show (pcV q).length + i * 2 + 1 - (pcV q).length = i * 2 + 1 by omega]
    simpa using this
/-- The cells of a piece. -/
theorem piece_cell {v : Value} {qs : List (Pc × Value)} {n c : Nat} {a : Addr} (o : OwnG pT 2 h (.slice (some a) n c) (qs.flatMap pcV)) {i : Nat} (hi : i < qs.length) :
    hcell h (elt a (i * 2)) = some (.int .i64 (qs[i].1.at_ : Nat)) ∧ hcell h (elt a (i * 2 + 1)) = some qs[i].2 := by
  obtain ⟨h1, h2⟩ := pcV_get qs i hi
  have hl := pcV_len qs
  have c1 := (o.cell (i := i * 2) (by omega)).1
  have c2 := (o.cell (i := i * 2 + 1) (by omega)).1
  rw [List.getElem?_eq_getElem (by omega)] at h1 h2
  rw [c1, c2]
  exact ⟨h1, h2⟩
theorem blk_bytes {v : Value} {l : List UInt8} (hB : Bytes h v l) : ∃ o c, v = .slice o l.length c := hB.form

theorem pcV_drop : ∀ (l : List (Pc × Value)) (i : Nat), (l.flatMap pcV).drop (i * 2) = (l.drop i).flatMap pcV
  | l, 0 => by simp
  | [], i + 1 => by simp
  | q :: l, i + 1 => by
    rw [List.flatMap_cons, List.drop_succ_cons, ← pcV_drop l i, show (i + 1) * 2 = (pcV q).length + i * 2 by simp [pcV]; omega, List.drop_append]
    simp
theorem pcV_one {l : List (Pc × Value)} (h1 : ∀ q ∈ l, one q.2 = true) : ∀ u ∈ l.flatMap pcV, one u = true := by
  intro u hu
  obtain ⟨q, hq, hu⟩ := List.mem_flatMap.1 hu
  simp [pcV] at hu
  rcases hu with rfl | rfl
  · rfl
  · exact h1 q hq
def fErr (s : St) (l : List UInt8) : Int := if okName l then (match s.get l with | none => 7 | some _ => 0) else 2
set_option maxHeartbeats 4000000 in
theorem Flush_c2 {p : Nat} {s : St} {l : List UInt8} (a : StAt h p s) (hl : l.length < 9223372036854775808) (hs : s.steps + 1 < 1000000)
    (He : ∀ h', Ext h h' → fErr s l ≠ 0 → K (.int .i64 (fErr s l)) h')
    (Hw : ∀ h' A B x x' fv, s.F = A ++ x :: B → x.name = l → x'.name = x.name → x'.f = x.f.flush (wentN (fateE s.fates) (fateK s.fates) x.f.ps.length) → (∀ q ∈ x'.qs, ∀ b, blkV q.2 = some b → (∃ q0 ∈ x.qs, blkV q0.2 = some b) ∨ h.size ≤ b) → SUpd h h' p s { s.stepped fv with F := A ++ x' :: B } → K (.int .i64 (fateE s.fates)) h') :
    CallsH Try.prog 28 #[ptrV p, str l] h K ⟨⟩ := by
  refine n28_calls ?_
  unfold n28
  unfold fErr at He
  refine find_c3 a hl (fun h1 e1 ho => ?_) (fun h1 e1 ho hg => ?_) (fun h1 A B x e1 ho hg hF hn => ?_)
  · simp (disch := omega)
    have := He h1 e1
    rw [if_neg ho] at this
    exact this (by decide)
  · simp (disch := omega)
    have := He h1 e1
    rw [if_pos ho, hg] at this
    exact this (by simp)
  clear He
  have hx : x ∈ s.F := by rw [hF]; simp
  have a1 := a.ext e1
  simp (disch := omega)
  refine step_c a1 hs fun h2 fv u2 => ?_
  have hpf := a.pfew x hx
  have hst0 := a.stp
  have hfl := u2.st.fl x (by show x ∈ s.F; exact hx)
  have c1 := cellOf (i := 1) hfl.cells rfl
  obtain ⟨pa, pn, pc, hpv, hpl, hpc, hpne⟩ := hfl.ps.form
  rw [pcV_len] at hpl
  have hpn : pn = x.qs.length := by omega
  subst hpn
  have c1' : hcell h2 ⟨x.b, 1, none⟩ = some (.slice pa x.qs.length pc) := hpv ▸ c1
  generalize hE : fateE s.fates = E at *
  have hK0 : 0 ≤ fateK s.fates := by
    unfold fateK
    split
    · omega
    · split <;> omega
  unfold ptrV
  simp (disch := omega) [c1']
  obtain ⟨n, hnd⟩ : ∃ n, n = wentN E (fateK s.fates) x.qs.length := ⟨_, rfl⟩
  refine JoinN_in1 (fun v g => v = .int .i64 (n : Int) ∧ h2 = g) (fun kk hkk => ?_) (fun v g hv => ?_)
  · by_cases hE0 : E = 0
    · simp (disch := omega) [hE0]
      exact hkk _ _ ⟨by rw [hnd]; unfold wentN; rw [if_pos hE0], rfl⟩
    · simp (disch := omega) [hE0]
      refine hkk _ _ ⟨by rw [hnd]; unfold wentN; rw [if_neg hE0]; congr 1; split <;> omega, rfl⟩
  obtain ⟨rfl, rfl⟩ := hv
  have hnq : n ≤ x.qs.length := by rw [hnd]; unfold wentN; split <;> omega
  simp (disch := omega) [c1', Hp_slgNH (P := Try.prog) (t := 113) (s := 2) (by kernel_rfl)]
  have c0 := cellOf (i := 0) hfl.cells rfl
  have hxl := get_some_lt hfl.cells
  have hlx : ∀ c, blkG x.lv = some c → c ≠ x.b := fun c hc => hfl.last.ne hc hfl.cells bT_fT
  have hlp : ∀ c, blkG x.lv = some c → blkG x.pv ≠ some c := fun c hc e => by
    obtain ⟨arr, ha⟩ := hfl.ps.tag e
    exact hfl.last.ne hc ha bT_pT rfl
  have hql : ∀ q ∈ x.qs, ∀ c, blkV q.2 = some c → blkG x.lv ≠ some c := fun q hq c hc e => hfl.ap q hq c hc (.inr (.inl e))
  refine loopX1 (α := Nat) (fun i => .int .i64 i) (fun i g => i ≤ n ∧ Mod (fun c => blkG x.lv = some c) h2 g ∧ OwnG bT 1 g x.lv ((layAll x.last ((x.qs.map (·.1)).take i)).map byteV)) (fun i => n - i) 0 rfl ⟨Nat.zero_le _, .refl _ _, hfl.last⟩ ?_
  rintro i g ⟨hi, mg, og⟩ X hX
  have celg := (mg.block x.b hxl (fun e => hlx _ e rfl)).trans hfl.cells
  have d0 := cellOf (i := 0) celg rfl
  have d1 := cellOf (i := 1) celg rfl
  by_cases hin : i < n
  · have hiq : i < x.qs.length := by omega
    obtain ⟨pb, po, rfl⟩ := hpne (by intro e; have := pcV_len x.qs; rw [e] at this; simp at this; omega)
    have pg : OwnG pT 2 g (.slice (some ⟨pb, po, none⟩) x.qs.length pc) (x.qs.flatMap pcV) := hpv ▸ hfl.ps.mod mg (fun c hc e => hlp c e hc)
    obtain ⟨p1, p2⟩ := piece_cell (v := x.pv) pg hiq
    have hqm : x.qs[i] ∈ x.qs := List.getElem_mem hiq
    have hqb : Bytes g x.qs[i].2 x.qs[i].1.b := (hfl.bs _ hqm).mod mg (fun c hc e => hql _ hqm c hc e)
    obtain ⟨qa, qc, hqv⟩ := hqb.form
    obtain ⟨qok, qfit⟩ := hfl.ok.pc x.qs[i].1 (List.mem_map_of_mem hqm)
    have qfit : x.qs[i].1.at_ + x.qs[i].1.b.length ≤ x.last.length := qfit
    have qpos := qok.pos
    rw [hqv] at p2
    obtain ⟨la, ln, lc, hlv, hll, hlc, hlne⟩ := og.form
    have hlen : (layAll x.last ((x.qs.map (·.1)).take i)).length = x.last.length := layAll_len fun p hp => (hfl.ok.pc p (List.mem_of_mem_take hp)).2
    have hln : ln = x.last.length := by simp [hlen] at hll; omega
    subst hln
    obtain ⟨lb, lo, rfl⟩ := hlne (by intro e; rw [e] at hll; simp at hll; omega)
    have d0' : hcell g ⟨x.b, 0, none⟩ = some (.slice (some ⟨lb, lo, none⟩) x.last.length lc) := hlv ▸ d0
    have hxg := get_some_lt celg
    have hxn : ¬ x.b = g.size := by omega
    rw [hlv] at og
    simp (disch := omega) [p1, p2, d0', hxn]
    have hEx : Ext g (hset (hset (g.push (.cells #[.int .i64 0, .slice none 0 0] 117)) ⟨g.size, 0, none⟩ (.int .i64 x.qs[i].1.at_)) ⟨g.size, 1, none⟩ (.slice qa x.qs[i].1.b.length qc)) := (by repeat' (first | (with_reducible exact Ext.refl _) | (with_reducible assumption) | (with_reducible refine push_ext ?_) | (with_reducible refine hset_ext ?_ ?_) | (with_reducible refine Ext.trans ?_ (by assumption)) | omega | (simp; done) | (simp; omega) | (refine Ext.size ?_) | (refine Nat.le_succ_of_le (Ext.size ?_))))
    refine (⟨_, rfl⟩ : ∃ f, f = (hset (hset (g.push (.cells #[.int .i64 0, .slice none 0 0] 117)) ⟨g.size, 0, none⟩ (.int .i64 x.qs[i].1.at_)) ⟨g.size, 1, none⟩ (.slice qa x.qs[i].1.b.length qc))).elim fun g' eg => ?_
    rw [← eg] at hEx ⊢
    clear eg
    rw [hqv] at hqb
    refine Hp_copyG (e := bT) (lo := x.qs[i].1.at_) (m := x.last.length - x.qs[i].1.at_) (by kernel_rfl) (og.ext hEx) (by omega) (hqb.ext hEx) fun g5 o5 m5 => ?_
    simp (disch := omega)
    refine hX (i + 1) _ _ (by simp) ⟨by omega, ?_, ?_⟩ (by omega)
    · rw [← hlv] at m5
      exact (mg.extIn hEx).trans m5 (fun c _ e => e)
    · rw [layAll_take (by simpa using hiq), hlv]
      have ht : x.qs[i].1.b.take (x.last.length - x.qs[i].1.at_) = x.qs[i].1.b := List.take_of_length_le (by omega)
      rw [ht] at o5
      simpa [layP] using o5
  · obtain rfl : i = n := by omega
    have d1' : hcell g ⟨x.b, 1, none⟩ = some (.slice pa x.qs.length pc) := hpv ▸ d1
    have pg : OwnG pT 2 g (.slice pa x.qs.length pc) (x.qs.flatMap pcV) := hpv ▸ hfl.ps.mod mg (fun c hc e => hlp c e hc)
    simp (disch := omega) [d1', Hp_slgLN (P := Try.prog) (t := 113) (s := 2) (by kernel_rfl)]
    have dr := pg.dropO (lo := i) hnq
    have ed : (x.qs.flatMap pcV).drop (i * 2) = (x.qs.drop i).flatMap pcV := pcV_drop _ _
    rw [ed] at dr
    refine pclone_c dr.src ⟨_, _, rfl⟩ (fun u hu => ?_) (by omega) fun v' g2 e2 ov wf wf2 => ?_
    · refine pcV_one (fun q hq => ?_) u hu
      obtain ⟨oa, oc, he⟩ := (hfl.bs q (List.mem_of_mem_drop hq)).form
      rw [he]; rfl
    have cel2 := (e2.block _ (get_some_lt celg)).trans celg
    have k1 := cellOf (i := 1) cel2 rfl
    have f1 := frzOf (i := 1) cel2
    obtain ⟨va, vn, vc, rfl, -, -, -⟩ := ov.form
    simp (disch := omega) [k1, f1]
    have hgz := mg.size
    have hqn : (x.qs.drop i).map (·.1) = x.f.ps.drop i := by rw [List.map_drop]; rfl
    have okf := hfl.ok.flush i
    have hvx : ∀ c, blkG (.slice va vn vc) = some c → c ≠ x.b := fun c hc => ov.ne hc cel2 pT_fT
    have m3 : Mod (fun c => blkG x.lv = some c ∨ c = x.b) h2 (hset g2 ⟨x.b, 1, none⟩ (.slice va vn vc)) := Mod.setIn ((mg.mono (fun c _ e => .inl e)).extIn e2) (.inl (.inr rfl))
    refine Hw _ A B x ⟨x.name, layAll x.last (x.f.ps.take i), x.qs.drop i, x.b, x.lv, .slice va vn vc, x.nv⟩ fv hF hn rfl ?_ (fun q hq b hb => .inl ⟨q, List.mem_of_mem_drop hq, hb⟩) ?_
    · show (⟨x.name, layAll x.last (x.f.ps.take i), (x.qs.drop i).map (·.1)⟩ : Fl) = _
      have : wentN E (fateK s.fates) x.f.ps.length = i := by rw [hnd]; simp [Fh.f]
      rw [this, hqn]; rfl
    · have hFs : (s.stepped fv).F = A ++ x :: B := hF
      refine (u2.from_ e1).trans (u2.st.put hFs (Upd.make hfl (m3.mono (fun c _ e => e.elim (fun e => .inr (.inl e)) .inl)) (obj_set cel2) ?_ ?_ ?_ ?_ ?_ ?_ ?_ hfl.ne ?_) ?_)
      · exact (og.ext e2).mod (Mod.set _ _ _) (fun c hc e => hlx c hc e)
      · have hnw : layAll (layAll x.last (x.f.ps.take i)) ((x.qs.drop i).map (·.1)) = x.f.now := by rw [hqn]; exact now_flush x.f i
        rw [hnw]
        refine hfl.now.mod m3 (fun c hc e => ?_)
        rcases e with e | e
        · exact hfl.ne c e hc
        · exact hfl.now.ne hc hfl.cells bT_fT e
      · exact ov.mod (Mod.set _ _ _) (fun c hc e => hvx c hc e)
      · rw [hqn]; exact okf
      · exact fun c hc => .inl hc
      · exact fun c hc => .inr (by have := wf c hc; omega)
      · exact fun c hc => .inl hc
      · exact fun q hq => ⟨hfl.bs q (List.mem_of_mem_drop hq), q, List.mem_of_mem_drop hq, rfl⟩
      · show (x.qs.drop i).length ≤ (s.steps + 1) * 1000000
        rw [List.length_drop]; omega
theorem Flush_c {p : Nat} {s : St} {l : List UInt8} (a : StAt h p s) (hl : l.length < 9223372036854775808) (hs : s.steps + 1 < 1000000)
    (He : ∀ h', Ext h h' → fErr s l ≠ 0 → K (.int .i64 (fErr s l)) h')
    (Hw : ∀ h' A B x x' fv, s.F = A ++ x :: B → x.name = l → x'.name = x.name → x'.f = x.f.flush (wentN (fateE s.fates) (fateK s.fates) x.f.ps.length) → SUpd h h' p s { s.stepped fv with F := A ++ x' :: B } → K (.int .i64 (fateE s.fates)) h') :
    CallsH Try.prog 28 #[ptrV p, str l] h K ⟨⟩ :=
  Flush_c2 a hl hs He fun h' A B x x' fv a1 a2 a3 a4 _ u => Hw h' A B x x' fv a1 a2 a3 a4 u
end Go.Proofs.Ytdmcaaojapcbcaa
set_option linter.unusedSimpArgs false
set_option linter.unusedVariables false
namespace Go.Proofs.Ytdmcaaojapcbcaa
open Go.Vc
variable {K : Value → Heap → Prop} {h : Heap}

/-- A slice's value cut. -/
def cutW (w : Value) (m : Nat) : Value := match w with | .slice a _ c => .slice a m c | v => v
def cutQ (n : Nat) (q : Pc × Value) : Option (Pc × Value) := if q.1.at_ < n then some (⟨q.1.at_, q.1.b.take (n - q.1.at_)⟩, cutW q.2 (min q.1.b.length (n - q.1.at_))) else none
theorem cutQ_map (n : Nat) : ∀ qs : List (Pc × Value), (qs.filterMap (cutQ n)).map (·.1) = (qs.map (·.1)).filterMap (cutPc n)
  | [] => rfl
  | q :: qs => by
    rw [List.filterMap_cons, List.map_cons, List.filterMap_cons]
    unfold cutQ cutPc
    split
    · rename_i h1
      split at h1
      · cases h1
      · rename_i h2; simp only [h2, if_false]; exact cutQ_map n qs
    · rename_i x h1
      split at h1
      · rename_i h2; cases h1; simp only [h2, if_true]; rw [List.map_cons]; congr 1; exact cutQ_map n qs
      · cases h1
theorem cutQ_mem {n : Nat} {qs : List (Pc × Value)} {q : Pc × Value} (hq : q ∈ qs.filterMap (cutQ n)) : ∃ q0 ∈ qs, q0.1.at_ < n ∧ q = (⟨q0.1.at_, q0.1.b.take (n - q0.1.at_)⟩, cutW q0.2 (min q0.1.b.length (n - q0.1.at_))) := by
  obtain ⟨q0, h0, h1⟩ := List.mem_filterMap.1 hq
  unfold cutQ at h1
  split at h1
  · cases h1; exact ⟨q0, h0, by assumption, rfl⟩
  · cases h1
theorem cutW_blk {w : Value} {m : Nat} : blkV (cutW w m) = blkV w := by
  cases w with
  | slice a n c => cases a <;> rfl
  | _ => rfl
theorem Bytes.cut {w : Value} {b : List UInt8} {m : Nat} (hB : Bytes h w b) : Bytes h (cutW w (min b.length m)) (b.take m) := by
  rcases hB with ⟨rfl, rfl⟩ | ⟨a, c, rfl, hc, hA⟩
  · exact .inl ⟨by simp [cutW], by simp⟩
  · refine .inr ⟨a, c, by simp [cutW, Nat.min_comm], by simp; omega, ?_⟩
    have := hA.part 0 (min b.length m) c (by omega) (by omega) hc
    rw [sub_zero, List.drop_zero] at this
    have e : b.take (min b.length m) = b.take m := by
      rcases Nat.le_total b.length m with h1 | h1
      · rw [Nat.min_eq_left h1, List.take_length, List.take_of_length_le h1]
      · rw [Nat.min_eq_right h1]
    rw [e] at this; exact this

def rErr (s : St) (l : List UInt8) (n : Int) : Int := if okName l then (match s.get l with | none => 7 | some _ => if n < 0 then 4 else if 268435456 < n then 6 else 0) else 2
set_option maxHeartbeats 4000000 in
theorem Resize_c {p : Nat} {s : St} {l : List UInt8} {n : Int} (a : StAt h p s) (hl : l.length < 9223372036854775808) (hs : s.steps + 1 < 1000000) (n0 : -9223372036854775808 ≤ n) (n1 : n < 9223372036854775808)
    (He : ∀ h', Ext h h' → rErr s l n ≠ 0 → K (.int .i64 (rErr s l n)) h')
    (Hf : ∀ h' fv, fateE s.fates ≠ 0 → SUpd h h' p s (s.stepped fv) → K (.int .i64 (fateE s.fates)) h')
    (Hw : ∀ h' A B x x' fv, fateE s.fates = 0 → s.F = A ++ x :: B → x.name = l → 0 ≤ n → n ≤ 268435456 → x'.name = x.name → x'.f = x.f.size n.toNat → SUpd h h' p s { s.stepped fv with F := A ++ x' :: B } → K (.int .i64 0) h') :
    CallsH Try.prog 51 #[ptrV p, str l, .int .i64 n] h K ⟨⟩ := by
  refine n51_calls ?_
  unfold n51
  unfold rErr at He
  refine find_c3 a hl (fun h1 e1 ho => ?_) (fun h1 e1 ho hg => ?_) (fun h1 A B x e1 ho hg hF hn => ?_)
  · simp (disch := omega)
    have := He h1 e1
    rw [if_neg ho] at this
    exact this (by decide)
  · simp (disch := omega)
    have := He h1 e1
    rw [if_pos ho, hg] at this
    exact this (by simp)
  have He := He h1 e1
  rw [if_pos ho, hg] at He
  dsimp only at He
  have hx : x ∈ s.F := by rw [hF]; simp
  have a1 := a.ext e1
  by_cases hn0 : n < 0
  · rw [if_pos hn0] at He
    simp (disch := omega) [hn0]
    exact He (by decide)
  rw [if_neg hn0] at He
  by_cases hn1 : 268435456 < n
  · rw [if_pos hn1] at He
    simp (disch := omega) [hn0, hn1]
    exact He (by decide)
  clear He
  simp (disch := omega) [hn0, hn1]
  refine step_c a1 hs fun h2 fv u2 => ?_
  by_cases hE : fateE s.fates = 0
  case neg =>
    simp (disch := omega) [hE]
    exact Hf _ fv hE (u2.from_ e1)
  obtain ⟨n, rfl⟩ := Int.eq_ofNat_of_zero_le (Int.not_lt.1 hn0)
  simp (disch := omega) [hE]
  have hpf := a.pfew x hx
  have hst0 := a.stp
  have hfl := u2.st.fl x (by show x ∈ s.F; exact hx)
  refine grow_c hfl (n := n) (by omega) fun g1 lv nv u1 => ?_
  have hf1 := u1.fl
  have c0 := cellOf (i := 0) hf1.cells rfl
  have c1 := cellOf (i := 1) hf1.cells rfl
  have c2 := cellOf (i := 2) hf1.cells rfl
  have z0 := frzOf (i := 0) hf1.cells
  have z1 := frzOf (i := 1) hf1.cells
  have z2 := frzOf (i := 2) hf1.cells
  obtain ⟨la, ln, lc, hlv, hll, hlc, -⟩ := hf1.last.form
  obtain ⟨na, nn, nc, hnv, hnl, hnc, -⟩ := hf1.now.form
  obtain ⟨pa, pn, pc, hpv, hpl, hpc, hpne⟩ := hf1.ps.form
  have hlv : lv = .slice la ln lc := hlv
  have hnv : nv = .slice na nn nc := hnv
  have hpv : x.pv = .slice pa pn pc := hpv
  have e5 : (Fh.f { x with last := growL x.last n, lv := lv, nv := nv }).now = growL x.f.now n := hfl.ok.now_grow n
  rw [e5] at hnl
  have hln : ln = max x.last.length n := by have := growL_len x.last n; simp at hll; omega
  have hnn : nn = max x.last.length n := by have := growL_len x.f.now n; rw [hfl.len] at this; simp at hnl; omega
  have c0' : hcell g1 ⟨x.b, 0, none⟩ = some (.slice la ln lc) := hlv ▸ c0
  have c1' : hcell g1 ⟨x.b, 1, none⟩ = some (.slice pa pn pc) := hpv ▸ c1
  have c2' : hcell g1 ⟨x.b, 2, none⟩ = some (.slice na nn nc) := hnv ▸ c2
  rw [pcV_len] at hpl
  obtain rfl : pn = x.qs.length := by have : pn * 2 = x.qs.length * 2 := hpl.symm; omega
  have sm := fun (P : Program) => @Hp_slcM Try.prog
  unfold ptrV
  simp (disch := omega) [c0', c1', c2', z0, z1, z2, Hp_slcM (P := Try.prog) (t := 50) (s := 1) (by kernel_rfl)]
  have hxg := get_some_lt hf1.cells
  have cel1 : g1[x.b]? = some (.cells #[.slice la ln lc, .slice pa x.qs.length pc, .slice na nn nc] fT) := by
    have := hf1.cells
    dsimp only at this
    rw [this, hlv, hpv, hnv]
  have cel3 := obj_set (i := 0) (v := .slice la n n) (obj_set (i := 2) (v := .slice na n n) cel1)
  have m3 : Mod (· = x.b) g1 (hset (hset g1 ⟨x.b, 2, none⟩ (.slice na n n)) ⟨x.b, 0, none⟩ (.slice la n n)) := (by repeat' (first | (with_reducible exact Mod.refl _ _) | (with_reducible assumption) | (with_reducible refine Mod.pushIn ?_) | (with_reducible refine Mod.setIn ?_ ?_) | (with_reducible refine Mod.putIn ?_ ?_) | (with_reducible refine Mod.extIn ?_ (by assumption)) | (exact Or.inr (by first | omega | (simp; done) | (simp; omega))) | (exact Or.inl (by first | (simp; done) | (simp; omega)))))
  refine (⟨_, rfl⟩ : ∃ f, f = hset (hset g1 ⟨x.b, 2, none⟩ (.slice na n n)) ⟨x.b, 0, none⟩ (.slice la n n)).elim fun h3 eh3 => ?_
  rw [← eh3] at cel3 m3 ⊢
  clear eh3
  have hz3 := m3.size
  have hx3 := get_some_lt cel3
  have ol : OwnG bT 1 h3 (.slice la n n) (((growL x.last n).take n).map byteV) := by
    have := hf1.last
    dsimp only at this
    rw [hlv] at this
    have t := (this.cut (hi := n) (mx := n) (Nat.le_refl _) (by omega) (by omega)).mod m3 (fun c hc e => this.ne (blk_cut (n := ln) (by omega : n ≤ lc) hc) cel1 bT_fT e)
    rw [Nat.mul_one, ← List.map_take] at t
    exact t
  have on : OwnG bT 1 h3 (.slice na n n) (((growL x.f.now n).take n).map byteV) := by
    have := hf1.now
    rw [e5] at this
    dsimp only at this
    rw [hnv] at this
    have t := (this.cut (hi := n) (mx := n) (Nat.le_refl _) (by omega) (by omega)).mod m3 (fun c hc e => this.ne (blk_cut (n := nn) (by omega : n ≤ nc) hc) cel1 bT_fT e)
    rw [Nat.mul_one, ← List.map_take] at t
    exact t
  have op : OwnG pT 2 h3 (.slice pa x.qs.length pc) (x.qs.flatMap pcV) := by
    have := hf1.ps
    dsimp only at this
    rw [hpv] at this
    exact this.mod m3 (fun c hc e => this.ne hc cel1 pT_fT e)
  refine loopX2 (α := Nat × Value) (fun a => a.2) (fun a => .int .i64 a.1) (fun a g => a.1 ≤ x.qs.length ∧ Ext h3 g ∧ OwnG pT 2 g a.2 (((x.qs.take a.1).filterMap (cutQ n)).flatMap pcV) ∧ ∀ c, blkG a.2 = some c → h3.size ≤ c) (fun a => x.qs.length - a.1) (0, .slice none 0 0) ⟨rfl, rfl⟩ ⟨Nat.zero_le _, .refl _, .nil, fun c hc => by cases hc⟩ ?_
  rintro ⟨i, sv⟩ g ⟨hi, eg, os, hb⟩ X hX
  dsimp only at hi os hb hX ⊢
  have celg := (eg.block x.b hx3).trans cel3
  by_cases hiq : i < x.qs.length
  · obtain ⟨pb, po, rfl⟩ := hpne (by intro e; have := pcV_len x.qs; dsimp only at e; rw [e] at this; simp at this; omega)
    have pg := op.ext eg
    obtain ⟨p1, p2⟩ := piece_cell (v := x.pv) pg hiq
    have hqm : x.qs[i] ∈ x.qs := List.getElem_mem hiq
    obtain ⟨qa, qc, hqv⟩ := (hf1.bs _ hqm).form
    have hqc := (hf1.bs _ hqm)
    rw [hqv] at hqc
    obtain ⟨qok, qfit⟩ := hfl.ok.pc x.qs[i].1 (List.mem_map_of_mem hqm)
    have qpos := qok.pos
    obtain ⟨qad, rfl, -, hqcap, -⟩ := hqc.at qpos
    have qfit : x.qs[i].1.at_ + x.qs[i].1.b.length ≤ x.last.length := qfit
    have hfew : x.last.length ≤ 268435456 := hfl.ok.few
    rw [hqv] at p2
    have ht : (x.qs.take (i + 1)).filterMap (cutQ n) = (x.qs.take i).filterMap (cutQ n) ++ (cutQ n x.qs[i]).toList := by
      rw [List.take_succ_eq_append_getElem hiq, List.filterMap_append]
      cases e : cutQ n x.qs[i] <;> simp [List.filterMap_cons, e]
    simp (disch := omega)
    refine JoinN.mk ?_
    refine JoinN.mk ?_
    by_cases hat : x.qs[i].1.at_ < n
    · have hcq : cutQ n x.qs[i] = some (⟨x.qs[i].1.at_, x.qs[i].1.b.take (n - x.qs[i].1.at_)⟩, .slice (some qad) (min x.qs[i].1.b.length (n - x.qs[i].1.at_)) qc) := by
        unfold cutQ
        rw [if_pos hat, hqv]; rfl
      have hmn : (if (n : Int) - (x.qs[i].1.at_ : Int) < (x.qs[i].1.b.length : Int) then (n : Int) - (x.qs[i].1.at_ : Int) else (x.qs[i].1.b.length : Int)) = ((min x.qs[i].1.b.length (n - x.qs[i].1.at_) : Nat) : Int) := by split <;> omega
      simp (disch := omega) [p1, p2, hat, hmn]
      rw [hcq] at ht
      have hE1 : ∀ o : Obj, Ext g (((hset (hset (hset (g.push (.cells #[.int .i64 0, .slice none 0 0] 117)) ⟨g.size, 0, none⟩ (.int .i64 x.qs[i].1.at_)) ⟨g.size, 1, none⟩ (.slice (some qad) x.qs[i].1.b.length qc)) ⟨g.size, 1, none⟩ (.slice (some qad) (min x.qs[i].1.b.length (n - x.qs[i].1.at_)) qc))).push o) := fun o => (by repeat' (first | (with_reducible exact Ext.refl _) | (with_reducible assumption) | (with_reducible refine push_ext ?_) | (with_reducible refine hset_ext ?_ ?_) | (with_reducible refine Ext.trans ?_ (by assumption)) | omega | (simp; done) | (simp; omega) | (refine Ext.size ?_) | (refine Nat.le_succ_of_le (Ext.size ?_))))
      have hlk : ((x.qs.take i).filterMap (cutQ n)).length ≤ 1000000000000 := by
        have := List.length_filterMap_le (cutQ n) (x.qs.take i)
        have := List.length_take_le i x.qs
        omega
      refine Hp_appendG (e := pT) (s := 2) (by_ := 32) (n := ((x.qs.take i).filterMap (cutQ n)).length) (k := 1) (news := [.int .i64 x.qs[i].1.at_, .slice (some qad) (min x.qs[i].1.b.length (n - x.qs[i].1.at_)) qc]) (by kernel_rfl) (by kernel_rfl) (os.ext (hE1 _)) (pcV_len _) (by omega)
        (.inr (.inl ⟨_, 1, rfl, rfl, Seg_new (by simp)⟩)) (by simp [one]) (by omega) (by omega) fun sv' g5 o5 m5 f5 _ => ?_
      simp (disch := omega)
      have hgz := eg.size
      refine hX (i + 1, sv') _ _ _ rfl (by simp) ⟨hiq, m5.ext_from (eg.trans (hE1 _)) (fun c hc e => by have := hb c e; omega), ?_, fun c hc => (f5 c hc).elim (hb c) (fun e => by simp at e; omega)⟩ (by dsimp only; omega)
      dsimp only
      rw [ht]
      simpa [pcV] using o5
    · have hcq : cutQ n x.qs[i] = none := by unfold cutQ; rw [if_neg hat]
      simp (disch := omega) [p1, p2, hat]
      rw [hcq] at ht
      simp at ht
      refine hX (i + 1, sv) _ _ _ rfl (by simp) ⟨hiq, eg.trans (by repeat' (first | (with_reducible exact Ext.refl _) | (with_reducible assumption) | (with_reducible refine push_ext ?_) | (with_reducible refine hset_ext ?_ ?_) | (with_reducible refine Ext.trans ?_ (by assumption)) | omega | (simp; done) | (simp; omega) | (refine Ext.size ?_) | (refine Nat.le_succ_of_le (Ext.size ?_)))), ?_, hb⟩ (by dsimp only; omega)
      dsimp only
      rw [ht]
      exact os.ext (by repeat' (first | (with_reducible exact Ext.refl _) | (with_reducible assumption) | (with_reducible refine push_ext ?_) | (with_reducible refine hset_ext ?_ ?_) | (with_reducible refine Ext.trans ?_ (by assumption)) | omega | (simp; done) | (simp; omega) | (refine Ext.size ?_) | (refine Nat.le_succ_of_le (Ext.size ?_))))
  · obtain rfl : i = x.qs.length := by omega
    have f1 := frzOf (i := 1) celg
    have k1 := cellOf (i := 1) celg rfl
    obtain ⟨sa, sn, sc, rfl, -, -, -⟩ := os.form
    simp (disch := omega) [k1, f1]
    rw [List.take_length] at os
    have hsx : ∀ c, blkG (.slice sa sn sc) = some c → c ≠ x.b := fun c hc => by have := hb c hc; omega
    have m4 : Mod (fun c => c = x.b) g1 (hset g ⟨x.b, 1, none⟩ (.slice sa sn sc)) := Mod.setIn (m3.extIn eg) (.inl rfl)
    have mset := Mod.set g ⟨x.b, 1, none⟩ (.slice sa sn sc)
    have hux : ∀ c, blkG (.slice la n n) = some c → blkG lv = some c := fun c hc => by rw [hlv]; exact blk_cut (n := ln) (by omega : n ≤ lc) hc
    have hun : ∀ c, blkG (.slice na n n) = some c → blkG nv = some c := fun c hc => by rw [hnv]; exact blk_cut (n := nn) (by omega : n ≤ nc) hc
    have osz := x.f.size n
    have oks := hfl.ok.size (n := n) (by omega)
    have nws := hfl.ok.now_size n
    have uz := Upd.make (last := (growL x.last n).take n) (qs := x.qs.filterMap (cutQ n)) (lv := .slice la n n) (pv := .slice sa sn sc) (nv := .slice na n n) hf1 (m4.mono (fun c _ e => .inl e)) (obj_set celg)
      ((ol.ext eg).mod mset (fun c hc e => ?_)) ?_ (os.mod mset (fun c hc e => hsx c hc e)) ?_ (fun c hc => .inl (hux c hc)) (fun c hc => .inr (by have := hb c hc; omega)) (fun c hc => .inl (hun c hc)) (fun c hc e => hf1.ne c (hux c hc) (hun c e)) ?_
    · refine Hw _ A B x ⟨x.name, (growL x.last n).take n, x.qs.filterMap (cutQ n), x.b, .slice la n n, .slice sa sn sc, .slice na n n⟩ fv hE hF hn (by omega) (by omega) rfl ?_ ((u2.from_ e1).trans (u2.st.put (show (s.stepped fv).F = A ++ x :: B from hF) (u1.trans uz) ?_))
      · show (⟨x.name, (growL x.last n).take n, (x.qs.filterMap (cutQ n)).map (·.1)⟩ : Fl) = _
        rw [cutQ_map, Int.toNat_natCast]; rfl
      · show (x.qs.filterMap (cutQ n)).length ≤ (s.steps + 1) * 1000000
        have := List.length_filterMap_le (cutQ n) x.qs
        omega
    · exact hf1.last.ne (hux c hc) hf1.cells bT_fT e
    · have e6 : layAll ((growL x.last n).take n) ((x.qs.filterMap (cutQ n)).map (·.1)) = (growL x.f.now n).take n := by
        rw [← nws]; show _ = layAll _ _; rw [cutQ_map]; rfl
      rw [e6]
      exact (on.ext eg).mod mset (fun c hc e => hf1.now.ne (hun c hc) hf1.cells bT_fT e)
    · rw [cutQ_map]; exact oks
    · intro q hq
      obtain ⟨q0, h0, h1, rfl⟩ := cutQ_mem hq
      exact ⟨Bytes.cut (hf1.bs q0 h0), q0, h0, cutW_blk⟩
end Go.Proofs.Ytdmcaaojapcbcaa

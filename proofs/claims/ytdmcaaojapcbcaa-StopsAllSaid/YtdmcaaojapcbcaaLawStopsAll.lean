/- What is proved: the law palimpsestlaw07.StopsAll returns true for every input, and its arguments read as they did. No conditions. -/
import Derived.Test.YtdmcaaojapcbcaaRows
import Derived.Test.YtdmcaaojapcbcaaSptA
set_option linter.unusedSimpArgs false
set_option linter.unusedVariables false
namespace Go.Proofs.Ytdmcaaojapcbcaa
open Go.Vc
variable {K : Value → Heap → Prop} {h : Heap}

theorem foot_tag {p : Nat} {s : St} (a : StAt h p s) {b c : Nat} (hb : s.foot p b) {t : Nat} {arr : Array Value} (hc : h[c]? = some (.cells arr t)) (ht : t = 3 ∨ t = 26 ∨ t = 27) : b ≠ c := by
  rintro rfl
  rcases a.tags hb with ⟨arr', t', e, h2⟩ | ⟨es, cl, e⟩
  · rw [e] at hc
    cases hc
    rcases ht with rfl | rfl | rfl <;> revert h2 <;> decide
  · rw [e] at hc; cases hc
/-- What stands while the ways are gone over. -/
structure Base (h : Heap) (p bl br b6 b7 bp bm mp pr : Nat) (lv : Int) (mine : St) (r : Rs) : Prop where
  lv : h[bl]? = some (.cells #[.int .i64 lv] 3)
  res : h[br]? = some (.cells #[.bool false] 4)
  c6 : h[b6]? = some (.cells #[ptrV pr] 27)
  c7 : h[b7]? = some (.cells #[.int .i64 p] 3)
  cp : h[bp]? = some (.cells #[.int .i64 p] 3)
  cm : h[bm]? = some (.cells #[ptrV mp] 26)
  mine : StAt h mp mine
  r : RsAt h pr r
theorem Base.ext {h' : Heap} {p bl br b6 b7 bp bm mp pr : Nat} {lv : Int} {mine : St} {r : Rs} (a : Base h p bl br b6 b7 bp bm mp pr lv mine r) (e : Ext h h') : Base h' p bl br b6 b7 bp bm mp pr lv mine r :=
  ⟨(e.block _ (get_some_lt a.lv)).trans a.lv, (e.block _ (get_some_lt a.res)).trans a.res, (e.block _ (get_some_lt a.c6)).trans a.c6, (e.block _ (get_some_lt a.c7)).trans a.c7, (e.block _ (get_some_lt a.cp)).trans a.cp, (e.block _ (get_some_lt a.cm)).trans a.cm, a.mine.ext e, a.r.ext e⟩

def overN (p n : Nat) : Bool := decide (p < 62) && decide (n = 2 ^ p)
/-- A loop's own variables, and what stays, in the midst of a range. -/
structure Mid (g1 : Heap) (nb ob p n : Nat) (g : Heap) : Prop where
  m : Mod (fun b => b = nb ∨ b = ob) g1 g
  d : g[g1.size]? = some (.deferred (some []))
  cn : g[nb]? = some (.cells #[.int .i64 n] 2)
  co : g[ob]? = some (.cells #[.bool (overN p n)] 4)
theorem Mid.mod {S : Nat → Prop} {g1 g g' : Heap} {nb ob p n : Nat} (hn : nb < g1.size) (ho : ob < g1.size) (a : Mid g1 nb ob p n g) (m : Mod S g g') (hS : ∀ b, S b → g1.size < b) : Mid g1 nb ob p n g' :=
  ⟨a.m.trans m (fun b hb e => by have := hS b e; omega), (m.block _ (get_some_lt a.d) (fun e => by have := hS _ e; omega)).trans a.d, (m.block _ (get_some_lt a.cn) (fun e => by have := hS _ e; omega)).trans a.cn, (m.block _ (get_some_lt a.co) (fun e => by have := hS _ e; omega)).trans a.co⟩
theorem Mid.of_ext {g1 g g' : Heap} {nb ob p n : Nat} (hn : nb < g1.size) (ho : ob < g1.size) (a : Mid g1 nb ob p n g) (e : Ext g g') : Mid g1 nb ob p n g' := a.mod (S := fun _ => False) hn ho (.of_ext e) (fun _ e => e.elim)
theorem Mid.step {g1 g : Heap} {nb ob p n : Nat} {ov : Bool} (hn : nb < g1.size) (ho : ob < g1.size) (hno : nb ≠ ob) (a : Mid g1 nb ob p n g) (h : overN p (n + 1) = ov) : Mid g1 nb ob p (n + 1) (hset (hset g ⟨nb, 0, none⟩ (.int .i64 ((n : Int) + 1))) ⟨ob, 0, none⟩ (.bool ov)) :=
  ⟨Mod.setIn (Mod.setIn a.m (.inl (.inl rfl))) (.inl (.inr rfl)), (get_hset' (by omega)).trans ((get_hset' (by omega)).trans a.d), (get_hset' hno).trans (obj_set a.cn), by
    rw [h]
    exact obj_set ((get_hset' (Ne.symm hno)).trans a.co)⟩
/-- A range's end. -/
def Done (g1 : Heap) (nb ob p t B : Nat) (lv : Int) (g : Heap) : Prop := ∃ n, Mid g1 nb ob p n g ∧ n ≤ B ∧ (overN p n = true ∨ n = B ∨ (t = 0 ∧ (n : Int) = lv))
set_option maxHeartbeats 16000000 in
theorem StopsAll_c {w : Value} {lv : Int} {xs : List Pw} (hs : Pws h w xs) (l0 : -9223372036854775808 ≤ lv) (l1 : lv < 9223372036854775808) (H : ∀ h', Ext h h' → K (.bool true) h') : CallsH Try.prog 7 #[w, .int .i64 lv] h K ⟨⟩ := by
  refine n7_calls ?_
  unfold n7
  obtain ⟨wa, wc, rfl⟩ := hs.form
  have l2 := hs.len
  simp (disch := omega)
  refine (⟨_, rfl⟩ : ∃ f, f = (h.push (.cells #[.int .i64 lv] 3)).push (.cells #[.bool false] 4)).elim fun h0 eh0 => ?_
  have e0 : Ext h h0 := by rw [eh0]; exact (by repeat' (first | (with_reducible exact Ext.refl _) | (with_reducible assumption) | (with_reducible refine push_ext ?_) | (with_reducible refine hset_ext ?_ ?_) | (with_reducible refine Ext.trans ?_ (by assumption)) | omega | (simp; done) | (simp; omega) | (refine Ext.size ?_) | (refine Nat.le_succ_of_le (Ext.size ?_))))
  have cL : h0[h.size]? = some (.cells #[.int .i64 lv] 3) := by rw [eh0]; exact (get_push (by simp)).trans (get_pushed rfl)
  have cR : h0[h.size + 1]? = some (.cells #[.bool false] 4) := by rw [eh0]; exact get_pushed (by simp)
  have z0 : h0.size = h.size + 2 := by rw [eh0]; simp
  rw [show (h.push (.cells #[.int .i64 lv] 3)).push (.cells #[.bool false] 4) = h0 from eh0.symm]
  clear eh0
  refine vast7_c (hs.ext e0) ?_ (fun hn hlim => ?_)
  · simp (disch := omega)
    refine known7_c fun h1 e1 => ?_
    have rz := (e1.block (h.size + 1) (by omega)).trans cR
    have cz := cellOf (i := 0) rz rfl
    have fz := frzOf (i := 0) rz
    simp (disch := omega) [cz, fz]
    refine RetD_nil ?_
    simp (disch := omega) [cz]
    exact H _ (hset_ext (e0.trans e1) (by simp))
  simp (disch := omega)
  refine both_c (hs.ext e0) hn hlim fun h1 p s pr r I al _ => ?_
  have hpd := I.few
  have z1 := I.ext.size
  unfold ptrV
  simp (disch := omega)
  refine (⟨_, rfl⟩ : ∃ f, f = hset (h1.push (.cells #[.pointer none] 27)) ⟨h1.size, 0, none⟩ (ptrV pr)).elim fun h2 eh2 => ?_
  have e2 : Ext h1 h2 := by rw [eh2]; exact (by repeat' (first | (with_reducible exact Ext.refl _) | (with_reducible assumption) | (with_reducible refine push_ext ?_) | (with_reducible refine hset_ext ?_ ?_) | (with_reducible refine Ext.trans ?_ (by assumption)) | omega | (simp; done) | (simp; omega) | (refine Ext.size ?_) | (refine Nat.le_succ_of_le (Ext.size ?_))))
  have c6 : h2[h1.size]? = some (.cells #[ptrV pr] 27) := by rw [eh2]; exact obj_set (arr := #[.pointer none]) (get_pushed rfl)
  have z2 := e2.size
  have z2' := get_some_lt c6
  rw [show hset (h1.push (.cells #[.pointer none] 27)) ⟨h1.size, 0, none⟩ (.pointer (some ⟨pr, 0, none⟩)) = h2 from eh2.symm]
  clear eh2
  refine rPending_c (I.rs.ext e2) ?_
  rw [al.pend]
  simp (disch := omega)
  refine (⟨_, rfl⟩ : ∃ f, f = hset (h2.push (.cells #[.int .i64 0] 3)) ⟨h2.size, 0, none⟩ (.int .i64 s.pend)).elim fun h3 eh3 => ?_
  have e3 : Ext h2 h3 := by rw [eh3]; exact (by repeat' (first | (with_reducible exact Ext.refl _) | (with_reducible assumption) | (with_reducible refine push_ext ?_) | (with_reducible refine hset_ext ?_ ?_) | (with_reducible refine Ext.trans ?_ (by assumption)) | omega | (simp; done) | (simp; omega) | (refine Ext.size ?_) | (refine Nat.le_succ_of_le (Ext.size ?_))))
  have c7 : h3[h2.size]? = some (.cells #[.int .i64 s.pend] 3) := by rw [eh3]; exact obj_set (arr := #[.int .i64 0]) (get_pushed rfl)
  have z3' := get_some_lt c7
  rw [show hset (h2.push (.cells #[.int .i64 0] 3)) ⟨h2.size, 0, none⟩ (.int .i64 s.pend) = h3 from eh3.symm]
  clear eh3
  refine All_st ((I.st.ext e2).ext e3) fun h4 bp e4 cp => ?_
  refine Images_st (((I.st.ext e2).ext e3).ext e4) fun h5 bm mp mine e5 cm hm pm mf mq => ?_
  simp (disch := omega)
  have E15 := (e2.trans (e3.trans (e4.trans e5)))
  have I5 := I.of_ext E15 (Nat.le_refl _) (Nat.le_refl _)
  have hst := I.steps
  refine Create_a I5.st (by decide) (by omega) I5.nil fun _ h6 s1 u6 cc6 n6 t6 => ?_
  simp (disch := omega)
  refine cvSameS (h := h6) (L := [109, 111, 114, 101]) (by decide) fun h7 o7 e7 => ?_
  simp (disch := omega)
  have b7 := o7.bytes
  refine Write_a (u6.st.ext e7) (by decide) b7 (by decide) (fun _ c hc e => by
    have h9 : h6.size = c := by cases hc; rfl
    have := u6.st.lt e
    omega) (by decide) (by decide) (by omega) n6 fun _ hB s2 u8 _ _ _ => ?_
  have U := (u6.ext e7).trans u8
  have U := (u6.ext e7).trans u8
  have z5 := E15.size
  have z45 := e5.size
  have z34 := e4.size
  have zU := U.mod.size
  have lowF : ∀ b, b < h0.size → ¬ s.foot p b := fun b hb e => by have := I.foot b e; omega
  have base : Base hB s.pend h.size (h.size + 1) h1.size h2.size bp bm mp pr lv mine r := by
    have x6 := ((e3.trans (e4.trans e5)).block _ z2').trans c6
    have x7 := ((e4.trans e5).block _ z3').trans c7
    have xp := (e5.block _ (get_some_lt cp)).trans cp
    have xL := ((I.ext.trans E15).block _ (get_some_lt cL)).trans cL
    have xR := ((I.ext.trans E15).block _ (get_some_lt cR)).trans cR
    refine ⟨(U.mod.block _ (get_some_lt xL) (lowF _ (by omega))).trans xL, (U.mod.block _ (get_some_lt xR) (lowF _ (by omega))).trans xR, (U.mod.block _ (get_some_lt x6) (fun e => foot_tag I5.st e x6 (.inr (.inr rfl)) rfl)).trans x6, (U.mod.block _ (get_some_lt x7) (fun e => foot_tag I5.st e x7 (.inl rfl) rfl)).trans x7,
      (U.mod.block _ (get_some_lt xp) (fun e => foot_tag I5.st e xp (.inl rfl) rfl)).trans xp, (U.mod.block _ (get_some_lt cm) (fun e => foot_tag I5.st e cm (.inr (.inl rfl)) rfl)).trans cm, hm.mod U.mod (fun b hb e => ?_) (fun x hx q hq b hb e => ?_), I5.rs.mod U.mod (fun b hb e => I5.disj e hb) (fun x hx b hb e => ?_)⟩
    · have a1 := mf b hb
      have a2 := I.st.lt e
      have := e2.size
      have := e3.size
      omega
    · obtain ⟨y, hy, hqy⟩ := mq x hx q hq
      exact I.st.psep y hy q hqy b hb e
    · obtain ⟨arr, ha⟩ := (I5.rs.ps x hx).tag hb
      exact sr_ne I5.st I5.rs e (.inr (.inr rfl)) ha
  have hmp : mine.pend = s.pend := by
    have h1 : mine.pend = ((mine.F.map Fh.f).map fun f => f.ps.length).sum := by unfold St.pend; rw [List.map_map]; rfl
    have h2 : s.pend = ((s.F.map Fh.f).map fun f => f.ps.length).sum := by unfold St.pend; rw [List.map_map]; rfl
    rw [h1, h2]
    exact (pm.map _).sum_nat
  have hrp : r.pend ≤ 100000000000 := by rw [al.pend]; exact hpd
  have hLr : ∀ L : List (List UInt8), L.Perm (mine.F.map (·.name)) → L.Pairwise (fun x y => Op.bytesLess y x = false) → L.map mine.flOf = r.X.map (·.f) := fun L hL hs => by
    have q1 : (r.X.map (·.f)).Perm (mine.F.map Fh.f) := al.trans pm.symm
    have q2 : (r.X.map (·.f.name)).Perm (mine.F.map (·.name)) := by
      have := q1.map Fl.name
      rw [List.map_map, List.map_map] at this
      exact this
    rw [sorted_eq (hL.trans q2.symm) hs base.r.sorted, List.map_map]
    refine List.map_congr_left fun x hx => ?_
    have : x.f ∈ mine.F.map Fh.f := q1.mem_iff.1 (List.mem_map_of_mem hx)
    obtain ⟨y, hy, e⟩ := List.mem_map.1 this
    show mine.flOf x.f.name = x.f
    rw [← e]
    exact flOf_mem base.mine hy
  have EB : Ext h hB := e0.trans (U.mod.ext_from (I.ext.trans E15) (fun b hb e => lowF b hb e))
  clear U u8 u6 cm cp c6 c7 o7 e7 b7 cR cL hm I5 mf mq lowF
  refine JoinN_in1 (fun D g => ∃ ds : List Nat, D = .tuple (marksV ds).toArray ∧ ds.Nodup ∧ (∀ d ∈ ds, h.size + 2 ≤ d ∧ g[d]? = some (.deferred (some []))) ∧ Ext hB g) (fun kk hkk => ?_) (fun D g hD => ?_)
  · simp (disch := omega)
    refine (⟨_, rfl⟩ : ∃ f, f = hset (hB.push (.cells #[.int .i64 0] 3)) ⟨hB.size, 0, none⟩ (.int .i64 0)).elim fun hC ehC => ?_
    have eC : Ext hB hC := by rw [ehC]; exact (by repeat' (first | (with_reducible exact Ext.refl _) | (with_reducible assumption) | (with_reducible refine push_ext ?_) | (with_reducible refine hset_ext ?_ ?_) | (with_reducible refine Ext.trans ?_ (by assumption)) | omega | (simp; done) | (simp; omega) | (refine Ext.size ?_) | (refine Nat.le_succ_of_le (Ext.size ?_))))
    have cT : hC[hB.size]? = some (.cells #[.int .i64 (0 : Nat)] 3) := by rw [ehC]; exact obj_set (arr := #[.int .i64 0]) (get_pushed rfl)
    rw [show hset (hB.push (.cells #[.int .i64 0] 3)) ⟨hB.size, 0, none⟩ (.int .i64 0) = hC from ehC.symm]
    clear ehC
    have zEB := EB.size
    have zh : h.size + 2 ≤ hB.size := by have := get_some_lt base.res; omega
    refine JoinN.mk ?_
    refine loopX2 (α := Nat × List Nat × Nat) (fun a => .tuple (marksV a.2.1).toArray) (fun a => ptrV a.2.2) (fun a g => a.1 ≤ 2 ∧ a.2.1.Nodup ∧ (∀ d ∈ a.2.1, h.size + 2 ≤ d ∧ g[d]? = some (.deferred (some []))) ∧ Ext hB g ∧ g[a.2.2]? = some (.cells #[.int .i64 a.1] 3)) (fun a => 2 - a.1) (0, [], hB.size) ⟨rfl, rfl⟩ ⟨Nat.zero_le _, .nil, fun d hd => (by cases hd), eC, cT⟩ ?_
    rintro ⟨t, ds, tb⟩ g ⟨ht, hnd, hds, eg, gt⟩ X hX
    dsimp only at ht hnd hds eg gt hX ⊢
    have ct := cellOf (i := 0) gt rfl
    by_cases ht2 : t < 2
    · unfold ptrV
      simp (disch := omega) [ct]
      refine JoinN_in1 (fun D g' => ∃ ds' : List Nat, D = .tuple (marksV ds').toArray ∧ ds'.Nodup ∧ (∀ d ∈ ds', h.size + 2 ≤ d ∧ g'[d]? = some (.deferred (some []))) ∧ Ext hB g' ∧ g'[tb]? = some (.cells #[.int .i64 t] 3)) (fun kk2 hkk2 => ?_) (fun D g' hD => ?_)
      · refine JoinN.mk ?_
        simp (disch := omega)
        refine (⟨_, rfl⟩ : ∃ f, f = hset ((hset (g.push (.cells #[.int .i64 0] 2)) ⟨g.size, 0, none⟩ (.int .i64 0)).push (.cells #[.bool false] 4)) ⟨g.size + 1, 0, none⟩ (.bool false)).elim fun g1 eg1 => ?_
        have e1 : Ext g g1 := by rw [eg1]; exact (by repeat' (first | (with_reducible exact Ext.refl _) | (with_reducible assumption) | (with_reducible refine push_ext ?_) | (with_reducible refine hset_ext ?_ ?_) | (with_reducible refine Ext.trans ?_ (by assumption)) | omega | (simp; done) | (simp; omega) | (refine Ext.size ?_) | (refine Nat.le_succ_of_le (Ext.size ?_))))
        have cN : g1[g.size]? = some (.cells #[.int .i64 (0 : Nat)] 2) := by
          rw [eg1]
          exact (get_hset' (by omega)).trans ((get_push (by simp)).trans (obj_set (arr := #[.int .i64 0]) (get_pushed rfl)))
        have cO : g1[g.size + 1]? = some (.cells #[.bool false] 4) := by rw [eg1]; exact obj_set (arr := #[.bool false]) (get_pushed (by simp))
        have zg1 : g1.size = g.size + 2 := by rw [eg1]; simp
        rw [← eg1]
        clear eg1
        have zg := eg.size
        have gt1 := (e1.block _ (get_some_lt gt)).trans gt
        have ztb := get_some_lt gt
        have hds1 : ∀ d ∈ ds, h.size + 2 ≤ d ∧ d < g.size ∧ g1[d]? = some (.deferred (some [])) := fun d hd => ⟨(hds d hd).1, get_some_lt (hds d hd).2, (e1.block _ (get_some_lt (hds d hd).2)).trans (hds d hd).2⟩
        have base1 := base.ext (eg.trans e1)
        refine JoinN_in1 (fun D g' => D = consD g1.size (.tuple (marksV ds).toArray) ∧ Done g1 g.size (g.size + 1) s.pend t 200 lv g') (fun kk3 hkk3 => ?_) (fun D g' hD => ?_)
        · refine JoinN.mk ?_
          refine RangeC_none rfl fun oR oB oE oX oF Kp hoR hoB hrd hN hR hX => ?_
          refine (⟨_, rfl⟩ : ∃ f, f = (g1.push (.deferred (some []))).push oR).elim fun g2 eg2 => ?_
          have e2 : Ext g1 g2 := by rw [eg2]; exact (by repeat' (first | (with_reducible exact Ext.refl _) | (with_reducible assumption) | (with_reducible refine push_ext ?_) | (with_reducible refine hset_ext ?_ ?_) | (with_reducible refine Ext.trans ?_ (by assumption)) | omega | (simp; done) | (simp; omega) | (refine Ext.size ?_) | (refine Nat.le_succ_of_le (Ext.size ?_))))
          have z2 : g2.size = g1.size + 2 := by rw [eg2]; simp
          have rD : g2[g1.size]? = some (.deferred (some [])) := by rw [eg2, get_push (by simp), get_pushed rfl]
          have rL : g2[g1.size + 1]? = some oR := by rw [eg2, get_pushed (by simp)]
          rw [← eg2]
          clear eg2 hR
          refine InvokeH_k1 (by kernel_rfl) ?_
          refine n71_calls ?_
          unfold n71
          have cpb := cellOf (i := 0) (base1.ext e2).cp rfl
          have hbpl := get_some_lt (base1.ext e2).cp
          simp (disch := omega) [cpb]
          refine (⟨_, rfl⟩ : ∃ f, f = g2.push (.cells #[.func (.yield (g1.size + 1)) #[] #[]] 137)).elim fun g3 eg3 => ?_
          have e3 : Ext g2 g3 := by rw [eg3]; exact (by repeat' (first | (with_reducible exact Ext.refl _) | (with_reducible assumption) | (with_reducible refine push_ext ?_) | (with_reducible refine hset_ext ?_ ?_) | (with_reducible refine Ext.trans ?_ (by assumption)) | omega | (simp; done) | (simp; omega) | (refine Ext.size ?_) | (refine Nat.le_succ_of_le (Ext.size ?_))))
          have cY : g3[g2.size]? = some (.cells #[.func (.yield (g1.size + 1)) #[] #[]] 137) := by rw [eg3]; exact get_pushed rfl
          have z3 : g3.size = g1.size + 3 := by rw [eg3]; simp [z2]
          rw [← eg3]
          clear eg3
          have e13 := e2.trans e3
          have over0 : overN s.pend 0 = false := by
            unfold overN
            have : 0 < 2 ^ s.pend := Nat.pow_pos (by omega)
            have h9 : ¬ 0 = 2 ^ s.pend := by omega
            rw [decide_eq_false h9, Bool.and_false]
          have hnl : g.size < g1.size := by omega
          have hol : g.size + 1 < g1.size := by omega
          refine numbers_c (fun n g' => Mid g1 g.size (g.size + 1) s.pend n g' ∧ g'[g1.size + 1]? = some oR ∧ g'[g2.size]? = some (.cells #[.func (.yield (g1.size + 1)) #[] #[]] 137)) (fun g' => g'[g1.size + 1]? = some (oX (.exit 2)) ∧ Done g1 g.size (g.size + 1) s.pend t 200 lv g') 200 (by decide) (by decide) hpd
            ⟨⟨.of_ext e13, (e3.block _ (by omega)).trans rD, (e13.block _ hnl).trans cN, ?_⟩, (e3.block _ (by omega)).trans rL, cY⟩ ?_ ?_ ?_
          · rw [over0]; exact (e13.block _ hol).trans cO
          · rintro n g4 Z hn hlt ⟨M, gL, gY⟩ hT hF
            refine InvokeH_1_2 (by kernel_rfl) ?_
            refine n73_calls ?_
            unfold n73
            have eg4 : Ext hB g4 := M.m.ext_from (eg.trans e1) (fun b hb e => by omega)
            have base4 := base.ext eg4
            have y0 := cellOf (i := 0) gY rfl
            have p0 := cellOf (i := 0) base4.cp rfl
            simp (disch := omega) [y0, p0]
            refine way_stB hpd (by omega) (by omega) fun g5 wb e5 bw hwb => ?_
            have y5 := cellOf (i := 0) ((e5.block _ (get_some_lt gY)).trans gY) rfl
            have gL5 := (e5.block _ (get_some_lt gL)).trans gL
            have gY5 := (e5.block _ (get_some_lt gY)).trans gY
            have M5 := M.of_ext hnl hol e5
            simp (disch := omega) [y5]
            refine hrd [.slice (some ⟨wb, 0, none⟩) s.pend s.pend] g5 _ rfl gL5 ⟨gL5, ?_⟩
            refine (⟨_, rfl⟩ : ∃ f, f = g5.setIfInBounds (g1.size + 1) oB).elim fun g6 eg6 => ?_
            have m6 : Mod (· = g1.size + 1) g5 g6 := by rw [eg6]; exact Mod.put _ _ _
            have gL6 : g6[g1.size + 1]? = some oB := by rw [eg6]; exact get_put (get_some_lt gL5)
            rw [← eg6]
            clear eg6
            have M6 := M5.mod hnl hol m6 (fun b e => by omega)
            have hgL4 := get_some_lt gL
            have hgY4 := get_some_lt gY
            have bw6 : Blk g6 wb (bitsW s.pend n) := (m6.block _ (get_some_lt bw) (by omega)).trans bw
            have gY6 := (m6.block g2.size (get_some_lt gY5) (by omega)).trans gY5
            have ov6 : overN s.pend n = false := by
              unfold overN
              by_cases h62 : s.pend < 62
              · have := hlt (by omega)
                have h9 : ¬ n = 2 ^ s.pend := by omega
                rw [decide_eq_false h9, Bool.and_false]
              · rw [decide_eq_false h62, Bool.false_and]
            have eg6 : Ext hB g6 := M6.m.ext_from (eg.trans e1) (fun b hb e => by omega)
            have base6 := base.ext eg6
            have o6 := cellOf (i := 0) M6.co rfl
            rw [ov6] at o6
            have n6 := cellOf (i := 0) M6.cn rfl
            have p6 := cellOf (i := 0) base6.c7 rfl
            simp (disch := omega) [o6, n6, p6, getV]
            refine way7_c hpd (by omega) (by omega) fun g7 w7 e7 hw7 => ?_
            have M7 := M6.of_ext hnl hol e7
            have gL7 := (e7.block _ (get_some_lt gL6)).trans gL6
            have gY7 := (e7.block _ (get_some_lt gY6)).trans gY6
            have bw7 := (e7.block _ (get_some_lt bw6)).trans bw6
            have iw7 := Blk.its bw7 (by rw [bitsW_len]; omega) (bits_i64 (bitsW_bit _ _))
            rw [bitsW_len] at iw7
            simp (disch := omega)
            refine same7_c iw7 hw7 ?_
            rw [decide_eq_true rfl]
            simp (disch := omega)
            refine loopX1 (α := Nat × List Int) (fun a => .int .i64 a.1) (fun a g' => a.1 ≤ s.pend ∧ a.2.length = s.pend ∧ Blk g' wb a.2 ∧ Mod (· = wb) g7 g') (fun a => s.pend - a.1) (0, bitsW s.pend n) rfl ⟨Nat.zero_le _, bitsW_len _ _, bw7, .refl _ _⟩ ?_
            rintro ⟨i, l⟩ g8 ⟨hi, hl, bl, m8⟩ Y hY
            dsimp only at hi hl bl m8 hY ⊢
            by_cases hip : i < s.pend
            · obtain ⟨w1, w2⟩ := bl.cellE (i := i) (by omega)
              simp (disch := omega) [w1, w2]
              exact hY (i + 1, l.set i 9) _ _ (by simp) ⟨hip, by rw [List.length_set]; exact hl, bl.setE, m8.trans (Mod.set g8 (elt ⟨wb, 0, none⟩ i) _) (fun b _ e => by rw [elt_blk] at e; exact e)⟩ (by dsimp only; omega)
            · have M8 := M7.mod hnl hol m8 (fun b e => by omega)
              have gL8 := (m8.block _ (get_some_lt gL7) (by omega)).trans gL7
              have gY8 := (m8.block _ (get_some_lt gY7) (by omega)).trans gY7
              have eg8 : Ext hB g8 := M8.m.ext_from (eg.trans e1) (fun b hb e => by omega)
              have base8 := base.ext eg8
              have n8 := cellOf (i := 0) M8.cn rfl
              have f8 := frzOf (i := 0) M8.cn
              have o8 := cellOf (i := 0) M8.co rfl
              have fo8 := frzOf (i := 0) M8.co
              have p8 := cellOf (i := 0) base8.c7 rfl
              have v8 := cellOf (i := 0) base8.lv rfl
              have t8 := cellOf (i := 0) ((M8.m.block _ (by omega : tb < g1.size) (by omega)).trans gt1) rfl
              by_cases h62 : s.pend < 62
              · obtain ⟨W, hW⟩ : ∃ W, 2 ^ s.pend = W := ⟨_, rfl⟩
                have hWl : W ≤ 4611686018427387904 := hW ▸ Nat.le_trans (Nat.pow_le_pow_right (by omega) (show s.pend ≤ 62 by omega)) (by decide)
                have hshl : ∀ (K : Value → Heap → Prop) (g : Heap) x y, Hp Try.prog true (binS .shl 2 x y (.int .i64 1) (.int .i64 (s.pend : Int))) K g ⟨⟩ ↔ ValI (1 * (W : Int)) (fun n => K (.int .i64 n) g) ⟨⟩ := fun K g x y => Hp_shlW (b := s.pend) (w := W) hW (by omega) (by omega) (by omega)
                by_cases hlast : n + 1 = W
                · have hov : overN s.pend (n + 1) = true := by unfold overN; rw [decide_eq_true h62, decide_eq_true (by rw [hW]; exact hlast)]; rfl
                  subst hlast
                  simp (disch := omega) [n8, f8, p8, hshl, o8, fo8]
                  have M9 := M8.step hnl hol (by omega) hov
                  have gL9 : (hset (hset g8 ⟨g.size, 0, none⟩ (.int .i64 ((n : Int) + 1))) ⟨g.size + 1, 0, none⟩ (.bool true))[g1.size + 1]? = some oB := (get_hset' (by omega)).trans ((get_hset' (by omega)).trans gL8)
                  have gY9 : (hset (hset g8 ⟨g.size, 0, none⟩ (.int .i64 ((n : Int) + 1))) ⟨g.size + 1, 0, none⟩ (.bool true))[g2.size]? = some (.cells #[.func (.yield (g1.size + 1)) #[] #[]] 137) := (get_hset' (by omega)).trans ((get_hset' (by omega)).trans gY8)
                  have exit : (n + 1 = 200 ∨ (t = 0 ∧ ((n + 1 : Nat) : Int) = lv)) → Z (.bool false) ((hset (hset g8 ⟨g.size, 0, none⟩ (.int .i64 ((n : Int) + 1))) ⟨g.size + 1, 0, none⟩ (.bool true)).setIfInBounds (g1.size + 1) (oX (.exit 2))) := fun hh =>
                    hF _ ⟨get_put (get_some_lt gL9), n + 1, M9.mod hnl hol (Mod.put _ _ _) (fun b e => by omega), by omega, .inr hh⟩
                  have next : n + 1 ≠ 200 → Z (.bool true) ((hset (hset g8 ⟨g.size, 0, none⟩ (.int .i64 ((n : Int) + 1))) ⟨g.size + 1, 0, none⟩ (.bool true)).setIfInBounds (g1.size + 1) oR) := fun hh =>
                    hT _ ⟨M9.mod hnl hol (Mod.put _ _ _) (fun b e => by omega), get_put (get_some_lt gL9), (get_putne (by omega)).trans gY9⟩ (by omega)
                  by_cases h200 : n + 1 = 200
                  · have h200' : (n : Int) + 1 = 200 := by omega
                    simp (disch := omega) [n8, f8, p8, o8, fo8, h200', t8, v8]
                    rw [h200'] at gL9 exit
                    exact ⟨gL9, exit (.inl h200)⟩
                  · have h200' : ¬ (n : Int) + 1 = 200 := by omega
                    by_cases ht0 : t = 0
                    · by_cases hlv : ((n : Int) + 1) = lv
                      · simp (disch := omega) [n8, f8, p8, o8, fo8, h200', t8, v8, ht0, hlv]
                        rw [hlv] at gL9 exit
                        exact ⟨gL9, exit (.inr ⟨ht0, by omega⟩)⟩
                      · simp (disch := omega) [n8, f8, p8, o8, fo8, h200', t8, v8, ht0, hlv]
                        exact ⟨gL9, next h200⟩
                    · simp (disch := omega) [n8, f8, p8, o8, fo8, h200', t8, v8, ht0]
                      exact ⟨gL9, next h200⟩
                · have hl' : ¬ (n : Int) + 1 = (W : Int) := by omega
                  have hov : overN s.pend (n + 1) = false := by unfold overN; rw [decide_eq_true h62, decide_eq_false (by rw [hW]; exact hlast)]; rfl
                  simp (disch := omega) [n8, f8, p8, hshl, hl', o8, fo8]
                  have M9 := M8.step hnl hol (by omega) hov
                  have gL9 : (hset (hset g8 ⟨g.size, 0, none⟩ (.int .i64 ((n : Int) + 1))) ⟨g.size + 1, 0, none⟩ (.bool false))[g1.size + 1]? = some oB := (get_hset' (by omega)).trans ((get_hset' (by omega)).trans gL8)
                  have gY9 : (hset (hset g8 ⟨g.size, 0, none⟩ (.int .i64 ((n : Int) + 1))) ⟨g.size + 1, 0, none⟩ (.bool false))[g2.size]? = some (.cells #[.func (.yield (g1.size + 1)) #[] #[]] 137) := (get_hset' (by omega)).trans ((get_hset' (by omega)).trans gY8)
                  have exit : (n + 1 = 200 ∨ (t = 0 ∧ ((n + 1 : Nat) : Int) = lv)) → Z (.bool false) ((hset (hset g8 ⟨g.size, 0, none⟩ (.int .i64 ((n : Int) + 1))) ⟨g.size + 1, 0, none⟩ (.bool false)).setIfInBounds (g1.size + 1) (oX (.exit 2))) := fun hh =>
                    hF _ ⟨get_put (get_some_lt gL9), n + 1, M9.mod hnl hol (Mod.put _ _ _) (fun b e => by omega), by omega, .inr hh⟩
                  have next : n + 1 ≠ 200 → Z (.bool true) ((hset (hset g8 ⟨g.size, 0, none⟩ (.int .i64 ((n : Int) + 1))) ⟨g.size + 1, 0, none⟩ (.bool false)).setIfInBounds (g1.size + 1) oR) := fun hh =>
                    hT _ ⟨M9.mod hnl hol (Mod.put _ _ _) (fun b e => by omega), get_put (get_some_lt gL9), (get_putne (by omega)).trans gY9⟩ (by omega)
                  by_cases h200 : n + 1 = 200
                  · have h200' : (n : Int) + 1 = 200 := by omega
                    simp (disch := omega) [n8, f8, p8, o8, fo8, h200', t8, v8]
                    rw [h200'] at gL9 exit
                    exact ⟨gL9, exit (.inl h200)⟩
                  · have h200' : ¬ (n : Int) + 1 = 200 := by omega
                    by_cases ht0 : t = 0
                    · by_cases hlv : ((n : Int) + 1) = lv
                      · simp (disch := omega) [n8, f8, p8, o8, fo8, h200', t8, v8, ht0, hlv]
                        rw [hlv] at gL9 exit
                        exact ⟨gL9, exit (.inr ⟨ht0, by omega⟩)⟩
                      · simp (disch := omega) [n8, f8, p8, o8, fo8, h200', t8, v8, ht0, hlv]
                        exact ⟨gL9, next h200⟩
                    · simp (disch := omega) [n8, f8, p8, o8, fo8, h200', t8, v8, ht0]
                      exact ⟨gL9, next h200⟩
              · have hov : overN s.pend (n + 1) = false := by unfold overN; rw [decide_eq_false h62]; rfl
                simp (disch := omega) [n8, f8, p8, o8, fo8]
                have M9 := M8.step hnl hol (by omega) hov
                have gL9 : (hset (hset g8 ⟨g.size, 0, none⟩ (.int .i64 ((n : Int) + 1))) ⟨g.size + 1, 0, none⟩ (.bool false))[g1.size + 1]? = some oB := (get_hset' (by omega)).trans ((get_hset' (by omega)).trans gL8)
                have gY9 : (hset (hset g8 ⟨g.size, 0, none⟩ (.int .i64 ((n : Int) + 1))) ⟨g.size + 1, 0, none⟩ (.bool false))[g2.size]? = some (.cells #[.func (.yield (g1.size + 1)) #[] #[]] 137) := (get_hset' (by omega)).trans ((get_hset' (by omega)).trans gY8)
                have exit : (n + 1 = 200 ∨ (t = 0 ∧ ((n + 1 : Nat) : Int) = lv)) → Z (.bool false) ((hset (hset g8 ⟨g.size, 0, none⟩ (.int .i64 ((n : Int) + 1))) ⟨g.size + 1, 0, none⟩ (.bool false)).setIfInBounds (g1.size + 1) (oX (.exit 2))) := fun hh =>
                  hF _ ⟨get_put (get_some_lt gL9), n + 1, M9.mod hnl hol (Mod.put _ _ _) (fun b e => by omega), by omega, .inr hh⟩
                have next : n + 1 ≠ 200 → Z (.bool true) ((hset (hset g8 ⟨g.size, 0, none⟩ (.int .i64 ((n : Int) + 1))) ⟨g.size + 1, 0, none⟩ (.bool false)).setIfInBounds (g1.size + 1) oR) := fun hh =>
                  hT _ ⟨M9.mod hnl hol (Mod.put _ _ _) (fun b e => by omega), get_put (get_some_lt gL9), (get_putne (by omega)).trans gY9⟩ (by omega)
                by_cases h200 : n + 1 = 200
                · have h200' : (n : Int) + 1 = 200 := by omega
                  simp (disch := omega) [n8, f8, p8, o8, fo8, h200', t8, v8]
                  rw [h200'] at gL9 exit
                  exact ⟨gL9, exit (.inl h200)⟩
                · have h200' : ¬ (n : Int) + 1 = 200 := by omega
                  by_cases ht0 : t = 0
                  · by_cases hlv : ((n : Int) + 1) = lv
                    · simp (disch := omega) [n8, f8, p8, o8, fo8, h200', t8, v8, ht0, hlv]
                      rw [hlv] at gL9 exit
                      exact ⟨gL9, exit (.inr ⟨ht0, by omega⟩)⟩
                    · simp (disch := omega) [n8, f8, p8, o8, fo8, h200', t8, v8, ht0, hlv]
                      exact ⟨gL9, next h200⟩
                  · simp (disch := omega) [n8, f8, p8, o8, fo8, h200', t8, v8, ht0]
                    exact ⟨gL9, next h200⟩
          · rintro g4 hp62 hlt ⟨M, gL, gY⟩
            have mE := Mod.put g4 (g1.size + 1) oE
            refine hN _ _ gL (hkk3 _ _ ⟨rfl, 2 ^ s.pend, M.mod hnl hol mE (fun b e => by omega), by omega, ?_⟩)
            by_cases h62 : s.pend < 62
            · left; unfold overN; rw [decide_eq_true h62, decide_eq_true rfl]; rfl
            · have : s.pend = 62 := by omega
              rw [this] at hlt
              exact absurd hlt (by decide)
          · rintro g4 ⟨gL, n, M, hnd9⟩
            refine hX _ _ 2 gL ?_
            have mE := Mod.put g4 (g1.size + 1) (oF (.exit 2))
            exact hkk3 _ _ ⟨rfl, n, M.mod hnl hol mE (fun b e => by omega), hnd9⟩
        · obtain ⟨rfl, n, M, hn, hfin⟩ := hD
          have hnl : g.size < g1.size := by omega
          have hol : g.size + 1 < g1.size := by omega
          have egE : Ext hB g' := M.m.ext_from (eg.trans e1) (fun b hb e => by omega)
          have baseE := base.ext egE
          have nE := cellOf (i := 0) M.cn rfl
          have fE := frzOf (i := 0) M.cn
          have oE := cellOf (i := 0) M.co rfl
          have foE := frzOf (i := 0) M.co
          have vE := cellOf (i := 0) baseE.lv rfl
          have gtE := (M.m.block _ (by omega : tb < g1.size) (by omega)).trans gt1
          have tE := cellOf (i := 0) gtE rfl
          have over0 : overN s.pend 0 = false := by
            unfold overN
            have : 0 < 2 ^ s.pend := Nat.pow_pos (by omega)
            have h9 : ¬ 0 = 2 ^ s.pend := by omega
            rw [decide_eq_false h9, Bool.and_false]
          have dsE : ∀ d ∈ g1.size :: ds, h.size + 2 ≤ d ∧ d ≠ g.size ∧ d ≠ g.size + 1 ∧ g'[d]? = some (.deferred (some [])) := fun d hd => by
            rcases List.mem_cons.1 hd with rfl | hd
            · exact ⟨by omega, by omega, by omega, M.d⟩
            · have h9 := hds1 d hd
              have h8 := (M.m.block d (by omega) (by omega)).trans h9.2.2
              exact ⟨h9.1, by omega, by omega, h8⟩
          have hndE : (g1.size :: ds).Nodup := List.nodup_cons.2 ⟨fun e => by have := (hds1 _ e).2.1; omega, hnd⟩
          rw [consD_marks]
          refine (fun (key : Unit → (?RR : Prop)) => ?cs) (fun _ => ?mn)
          case cs =>
            by_cases h200 : n = 200
            · have h200' : (n : Int) = 200 := by omega
              cases hov : overN s.pend n with
              | true =>
                rw [hov] at oE
                simp (disch := omega) [oE, nE, fE, foE]
                exact key ()
              | false =>
                rw [hov] at oE
                simp (disch := omega) [oE, nE, fE, foE, h200']
                exact key ()
            · have h200' : ¬ (n : Int) = 200 := by omega
              cases hov : overN s.pend n with
              | true =>
                rw [hov] at oE
                simp (disch := omega) [oE, nE, fE, foE]
                exact key ()
              | false =>
                rw [hov] at oE hfin
                rcases hfin with hf | hf | ⟨hf, hf2⟩
                · cases hf
                · exact absurd hf h200
                · have hf' : (t : Int) = 0 := by omega
                  rw [hf'] at tE
                  simp (disch := omega) [oE, nE, fE, foE, vE, tE, h200', hf2]
                  exact key ()
          case mn =>
            refine (⟨_, rfl⟩ : ∃ f, f = hset (hset g' ⟨g.size, 0, none⟩ (.int .i64 0)) ⟨g.size + 1, 0, none⟩ (.bool false)).elim fun gA egA => ?_
            have mA : Mod (fun b => b = g.size ∨ b = g.size + 1) g' gA := by rw [egA]; exact Mod.setIn (Mod.setIn (.refl _ _) (.inl (.inl rfl))) (.inl (.inr rfl))
            have cNA : gA[g.size]? = some (.cells #[.int .i64 (0 : Nat)] 2) := by rw [egA]; exact (get_hset' (by omega)).trans (obj_set M.cn)
            have cOA : gA[g.size + 1]? = some (.cells #[.bool (overN s.pend 0)] 4) := by rw [egA, over0]; exact obj_set ((get_hset' (by omega)).trans M.co)
            rw [← egA]
            clear egA
            have zA := mA.size
            have zM := M.m.size
            have dsA : ∀ d ∈ g1.size :: ds, h.size + 2 ≤ d ∧ d < gA.size ∧ d ≠ g.size ∧ d ≠ g.size + 1 ∧ gA[d]? = some (.deferred (some [])) := fun d hd => by
              have h9 := dsE d hd
              have h8 := (mA.block d (get_some_lt h9.2.2.2) (by omega)).trans h9.2.2.2
              exact ⟨h9.1, get_some_lt h8, h9.2.1, h9.2.2.1, h8⟩
            have eA : Ext hB gA := mA.ext_from egE (fun b hb e => by omega)
            have gtA := (mA.block _ (get_some_lt gtE) (by omega)).trans gtE
            have ztA := get_some_lt gtA
            have baseA := base.ext eA
            have hnA : g.size < gA.size := get_some_lt cNA
            have hoA : g.size + 1 < gA.size := get_some_lt cOA
            clear oE nE fE foE vE tE gtE baseE egE
            refine JoinN_in1 (fun D g'' => D = consD gA.size (.tuple (marksV (g1.size :: ds)).toArray) ∧ Done gA g.size (g.size + 1) s.pend t 60 lv g'') (fun kk3 hkk3 => ?_) (fun D g'' hD => ?_)
            · refine RangeC_none rfl fun oR oB oE oX oF Kp hoR hoB hrd hN hR hX => ?_
              refine (⟨_, rfl⟩ : ∃ f, f = (gA.push (.deferred (some []))).push oR).elim fun g2 eg2 => ?_
              have e2 : Ext gA g2 := by rw [eg2]; exact (by repeat' (first | (with_reducible exact Ext.refl _) | (with_reducible assumption) | (with_reducible refine push_ext ?_) | (with_reducible refine hset_ext ?_ ?_) | (with_reducible refine Ext.trans ?_ (by assumption)) | omega | (simp; done) | (simp; omega) | (refine Ext.size ?_) | (refine Nat.le_succ_of_le (Ext.size ?_))))
              have z2 : g2.size = gA.size + 2 := by rw [eg2]; simp
              have rD : g2[gA.size]? = some (.deferred (some [])) := by rw [eg2, get_push (by simp), get_pushed rfl]
              have rL : g2[gA.size + 1]? = some oR := by rw [eg2, get_pushed (by simp)]
              rw [← eg2]
              clear eg2 hR
              refine InvokeH_k1 (by kernel_rfl) ?_
              refine n75_calls ?_
              unfold n75
              have cmb := cellOf (i := 0) (baseA.ext e2).cm rfl
              have hbml := get_some_lt (baseA.ext e2).cm
              simp (disch := omega) [cmb]
              refine (⟨_, rfl⟩ : ∃ f, f = g2.push (.cells #[.func (.yield (gA.size + 1)) #[] #[]] 140)).elim fun g3 eg3 => ?_
              have e3 : Ext g2 g3 := by rw [eg3]; exact (by repeat' (first | (with_reducible exact Ext.refl _) | (with_reducible assumption) | (with_reducible refine push_ext ?_) | (with_reducible refine hset_ext ?_ ?_) | (with_reducible refine Ext.trans ?_ (by assumption)) | omega | (simp; done) | (simp; omega) | (refine Ext.size ?_) | (refine Nat.le_succ_of_le (Ext.size ?_))))
              have cY : g3[g2.size]? = some (.cells #[.func (.yield (gA.size + 1)) #[] #[]] 140) := by rw [eg3]; exact get_pushed rfl
              have z3 : g3.size = gA.size + 3 := by rw [eg3]; simp [z2]
              rw [← eg3]
              clear eg3
              have e13 := e2.trans e3
              refine Pending_c (baseA.ext e13).mine fun g3' e3' => ?_
              rw [hmp]
              have e13' := e13.trans e3'
              simp (disch := omega)
              have cY' := (e3'.block _ (get_some_lt cY)).trans cY
              refine numbers_c (fun n g' => Mid gA g.size (g.size + 1) s.pend n g' ∧ g'[gA.size + 1]? = some oR ∧ g'[g2.size]? = some (.cells #[.func (.yield (gA.size + 1)) #[] #[]] 140)) (fun g' => g'[gA.size + 1]? = some (oX (.exit 6)) ∧ Done gA g.size (g.size + 1) s.pend t 60 lv g') 60 (by decide) (by decide) hpd
                ⟨⟨.of_ext e13', ((e3.trans e3').block _ (by omega)).trans rD, (e13'.block _ hnA).trans cNA, (e13'.block _ hoA).trans cOA⟩, ((e3.trans e3').block _ (by omega)).trans rL, cY'⟩ ?_ ?_ ?_
              · rintro n g4 Z hn hlt ⟨M, gL, gY⟩ hT hF
                refine InvokeH_1_2 (by kernel_rfl) ?_
                refine n76_calls ?_
                unfold n76
                have eg4 : Ext hB g4 := M.m.ext_from eA (fun b hb e => by omega)
                have base4 := base.ext eg4
                have m0 := cellOf (i := 0) base4.cm rfl
                simp (disch := omega) [m0]
                refine Pending_c base4.mine fun g4' e4' => ?_
                have m0' := cellOf (i := 0) (base4.ext e4').cm rfl
                rw [hmp]
                simp (disch := omega) [m0']
                refine way_stB hpd (by omega) (by omega) fun g5 wb e5' bw hwb => ?_
                have e5 := e4'.trans e5'
                have m5 := cellOf (i := 0) (base4.ext e5).cm rfl
                simp (disch := omega) [m5]
                have iw := Blk.its bw (by rw [bitsW_len]; omega) (bits_i64 (bitsW_bit _ _))
                rw [bitsW_len] at iw
                have nbb : (bitsW s.pend n).any (fun n => decide (n < 0)) ≠ true := by
                  rw [Ne, Bool.not_eq_true, List.any_eq_false]
                  intro x hx
                  have := bitsW_bit _ _ x hx
                  simp; omega
                refine Crash_c (base4.ext e5).mine iw (fun g6 _ hb => absurd hb nbb) (fun g6 po os Lo e6 _ pL sL sto hcr _ _ _ hfo => ?_)
                rw [hLr Lo pL sL] at hcr
                have e56 := e5.trans e6
                have gY6 := (e56.block _ (get_some_lt gY)).trans gY
                have y6 := cellOf (i := 0) gY6 rfl
                simp (disch := omega) [y6]
                have gL6 := (e56.block _ (get_some_lt gL)).trans gL
                have M6 := M.of_ext hnA hoA e56
                refine hrd [.int .i64 n, ptrV po] g6 _ rfl gL6 ⟨gL6, ?_⟩
                refine (⟨_, rfl⟩ : ∃ f, f = g6.setIfInBounds (gA.size + 1) oB).elim fun g7 eg7 => ?_
                have m7 : Mod (· = gA.size + 1) g6 g7 := by rw [eg7]; exact Mod.put _ _ _
                have gL7 : g7[gA.size + 1]? = some oB := by rw [eg7]; exact get_put (get_some_lt gL6)
                rw [← eg7]
                clear eg7
                have hgL4 := get_some_lt gL
                have hgY4 := get_some_lt gY
                have M7 := M6.mod hnA hoA m7 (fun b e => by omega)
                have gY7 := (m7.block g2.size (get_some_lt gY6) (by omega)).trans gY6
                have z46 := e56.size
                have z45 := e5.size
                have sto7 : StAt g7 po os := sto.mod m7 (fun b hb e => by have := hfo b hb; omega) (fun x hx q hq => by
                  have h9 : x.f.ps = [] := crashAll_ps _ _ _ (hcr ▸ List.mem_map_of_mem hx)
                  have h8 : x.qs = [] := List.map_eq_nil_iff.1 h9
                  rw [h8] at hq; cases hq)
                have eg7 : Ext hB g7 := M7.m.ext_from eA (fun b hb e => by omega)
                have base7 := base.ext eg7
                have ov7 : overN s.pend n = false := by
                  unfold overN
                  by_cases h62 : s.pend < 62
                  · have := hlt (by omega)
                    have h9 : ¬ n = 2 ^ s.pend := by omega
                    rw [decide_eq_false h9, Bool.and_false]
                  · rw [decide_eq_false h62, Bool.false_and]
                have o7 := cellOf (i := 0) M7.co rfl
                rw [ov7] at o7
                have n7 := cellOf (i := 0) M7.cn rfl
                have p7 := cellOf (i := 0) base7.c7 rfl
                have r7 := cellOf (i := 0) base7.c6 rfl
                simp (disch := omega) [o7, n7, p7, r7, getV]
                refine way7_c hpd (by omega) (by omega) fun g8 w8 e8 hw8 => ?_
                have r8 := cellOf (i := 0) (base7.ext e8).c6 rfl
                simp (disch := omega) [r8]
                refine rCrash_c (base7.ext e8).r hrp hw8 (fun x hx => by have := bitsW_bit _ _ x hx; omega) fun g9 px x' e9 stx hxf hxl => ?_
                have e89 := e8.trans e9
                have M9 := M7.of_ext hnA hoA e89
                have o9 := cellOf (i := 0) M9.co rfl
                rw [ov7] at o9
                have n9 := cellOf (i := 0) M9.cn rfl
                simp (disch := omega) [o9, n9]
                have hnil : ∀ y ∈ x'.X, y.f.ps = [] := fun y hy => crashAll_ps _ _ _ (hxf ▸ List.mem_map_of_mem hy)
                refine is7_c (sto7.ext e89) stx (hcr.trans hxf.symm) hnil fun g10 e10 => ?_
                have e710 := e89.trans e10
                have M10 := M7.of_ext hnA hoA e710
                have gL10 := (e710.block _ (get_some_lt gL7)).trans gL7
                have gY10 := (e710.block _ (get_some_lt gY7)).trans gY7
                have base10 := base7.ext e710
                have n10 := cellOf (i := 0) M10.cn rfl
                have f10 := frzOf (i := 0) M10.cn
                have o10 := cellOf (i := 0) M10.co rfl
                have fo10 := frzOf (i := 0) M10.co
                have p10 := cellOf (i := 0) base10.c7 rfl
                have v10 := cellOf (i := 0) base10.lv rfl
                have t10 := cellOf (i := 0) ((M10.m.block _ ztA (by omega)).trans gtA) rfl
                simp (disch := omega) [n10, f10, p10]
                by_cases h62 : s.pend < 62
                · obtain ⟨W, hW⟩ : ∃ W, 2 ^ s.pend = W := ⟨_, rfl⟩
                  have hWl : W ≤ 4611686018427387904 := hW ▸ Nat.le_trans (Nat.pow_le_pow_right (by omega) (show s.pend ≤ 62 by omega)) (by decide)
                  have hshl : ∀ (K : Value → Heap → Prop) (g : Heap) x y, Hp Try.prog true (binS .shl 2 x y (.int .i64 1) (.int .i64 (s.pend : Int))) K g ⟨⟩ ↔ ValI (1 * (W : Int)) (fun n => K (.int .i64 n) g) ⟨⟩ := fun K g x y => Hp_shlW (b := s.pend) (w := W) hW (by omega) (by omega) (by omega)
                  by_cases hlast : n + 1 = W
                  · have hov : overN s.pend (n + 1) = true := by unfold overN; rw [decide_eq_true h62, decide_eq_true (by rw [hW]; exact hlast)]; rfl
                    subst hlast
                    simp (disch := omega) [n10, f10, p10, hshl, o10, fo10]
                    have M9 := M10.step hnA hoA (by omega) hov
                    have gL9 : (hset (hset g10 ⟨g.size, 0, none⟩ (.int .i64 ((n : Int) + 1))) ⟨g.size + 1, 0, none⟩ (.bool true))[gA.size + 1]? = some oB := (get_hset' (by omega)).trans ((get_hset' (by omega)).trans gL10)
                    have gY9 : (hset (hset g10 ⟨g.size, 0, none⟩ (.int .i64 ((n : Int) + 1))) ⟨g.size + 1, 0, none⟩ (.bool true))[g2.size]? = some (.cells #[.func (.yield (gA.size + 1)) #[] #[]] 140) := (get_hset' (by omega)).trans ((get_hset' (by omega)).trans gY10)
                    have exit : (n + 1 = 60 ∨ (t = 0 ∧ ((n + 1 : Nat) : Int) = lv)) → Z (.bool false) ((hset (hset g10 ⟨g.size, 0, none⟩ (.int .i64 ((n : Int) + 1))) ⟨g.size + 1, 0, none⟩ (.bool true)).setIfInBounds (gA.size + 1) (oX (.exit 6))) := fun hh =>
                      hF _ ⟨get_put (get_some_lt gL9), n + 1, M9.mod hnA hoA (Mod.put _ _ _) (fun b e => by omega), by omega, .inr hh⟩
                    have next : n + 1 ≠ 60 → Z (.bool true) ((hset (hset g10 ⟨g.size, 0, none⟩ (.int .i64 ((n : Int) + 1))) ⟨g.size + 1, 0, none⟩ (.bool true)).setIfInBounds (gA.size + 1) oR) := fun hh =>
                      hT _ ⟨M9.mod hnA hoA (Mod.put _ _ _) (fun b e => by omega), get_put (get_some_lt gL9), (get_putne (by omega)).trans gY9⟩ (by omega)
                    by_cases h60 : n + 1 = 60
                    · have h60' : (n : Int) + 1 = 60 := by omega
                      simp (disch := omega) [n10, f10, p10, o10, fo10, h60', t10, v10]
                      rw [h60'] at gL9 exit
                      exact ⟨gL9, exit (.inl h60)⟩
                    · have h60' : ¬ (n : Int) + 1 = 60 := by omega
                      by_cases ht0 : t = 0
                      · by_cases hlv : ((n : Int) + 1) = lv
                        · simp (disch := omega) [n10, f10, p10, o10, fo10, h60', t10, v10, ht0, hlv]
                          rw [hlv] at gL9 exit
                          exact ⟨gL9, exit (.inr ⟨ht0, by omega⟩)⟩
                        · simp (disch := omega) [n10, f10, p10, o10, fo10, h60', t10, v10, ht0, hlv]
                          exact ⟨gL9, next h60⟩
                      · simp (disch := omega) [n10, f10, p10, o10, fo10, h60', t10, v10, ht0]
                        exact ⟨gL9, next h60⟩
                  · have hl' : ¬ (n : Int) + 1 = (W : Int) := by omega
                    have hov : overN s.pend (n + 1) = false := by unfold overN; rw [decide_eq_true h62, decide_eq_false (by rw [hW]; exact hlast)]; rfl
                    simp (disch := omega) [n10, f10, p10, hshl, hl', o10, fo10]
                    have M9 := M10.step hnA hoA (by omega) hov
                    have gL9 : (hset (hset g10 ⟨g.size, 0, none⟩ (.int .i64 ((n : Int) + 1))) ⟨g.size + 1, 0, none⟩ (.bool false))[gA.size + 1]? = some oB := (get_hset' (by omega)).trans ((get_hset' (by omega)).trans gL10)
                    have gY9 : (hset (hset g10 ⟨g.size, 0, none⟩ (.int .i64 ((n : Int) + 1))) ⟨g.size + 1, 0, none⟩ (.bool false))[g2.size]? = some (.cells #[.func (.yield (gA.size + 1)) #[] #[]] 140) := (get_hset' (by omega)).trans ((get_hset' (by omega)).trans gY10)
                    have exit : (n + 1 = 60 ∨ (t = 0 ∧ ((n + 1 : Nat) : Int) = lv)) → Z (.bool false) ((hset (hset g10 ⟨g.size, 0, none⟩ (.int .i64 ((n : Int) + 1))) ⟨g.size + 1, 0, none⟩ (.bool false)).setIfInBounds (gA.size + 1) (oX (.exit 6))) := fun hh =>
                      hF _ ⟨get_put (get_some_lt gL9), n + 1, M9.mod hnA hoA (Mod.put _ _ _) (fun b e => by omega), by omega, .inr hh⟩
                    have next : n + 1 ≠ 60 → Z (.bool true) ((hset (hset g10 ⟨g.size, 0, none⟩ (.int .i64 ((n : Int) + 1))) ⟨g.size + 1, 0, none⟩ (.bool false)).setIfInBounds (gA.size + 1) oR) := fun hh =>
                      hT _ ⟨M9.mod hnA hoA (Mod.put _ _ _) (fun b e => by omega), get_put (get_some_lt gL9), (get_putne (by omega)).trans gY9⟩ (by omega)
                    by_cases h60 : n + 1 = 60
                    · have h60' : (n : Int) + 1 = 60 := by omega
                      simp (disch := omega) [n10, f10, p10, o10, fo10, h60', t10, v10]
                      rw [h60'] at gL9 exit
                      exact ⟨gL9, exit (.inl h60)⟩
                    · have h60' : ¬ (n : Int) + 1 = 60 := by omega
                      by_cases ht0 : t = 0
                      · by_cases hlv : ((n : Int) + 1) = lv
                        · simp (disch := omega) [n10, f10, p10, o10, fo10, h60', t10, v10, ht0, hlv]
                          rw [hlv] at gL9 exit
                          exact ⟨gL9, exit (.inr ⟨ht0, by omega⟩)⟩
                        · simp (disch := omega) [n10, f10, p10, o10, fo10, h60', t10, v10, ht0, hlv]
                          exact ⟨gL9, next h60⟩
                      · simp (disch := omega) [n10, f10, p10, o10, fo10, h60', t10, v10, ht0]
                        exact ⟨gL9, next h60⟩
                · have hov : overN s.pend (n + 1) = false := by unfold overN; rw [decide_eq_false h62]; rfl
                  simp (disch := omega) [n10, f10, p10, o10, fo10]
                  have M9 := M10.step hnA hoA (by omega) hov
                  have gL9 : (hset (hset g10 ⟨g.size, 0, none⟩ (.int .i64 ((n : Int) + 1))) ⟨g.size + 1, 0, none⟩ (.bool false))[gA.size + 1]? = some oB := (get_hset' (by omega)).trans ((get_hset' (by omega)).trans gL10)
                  have gY9 : (hset (hset g10 ⟨g.size, 0, none⟩ (.int .i64 ((n : Int) + 1))) ⟨g.size + 1, 0, none⟩ (.bool false))[g2.size]? = some (.cells #[.func (.yield (gA.size + 1)) #[] #[]] 140) := (get_hset' (by omega)).trans ((get_hset' (by omega)).trans gY10)
                  have exit : (n + 1 = 60 ∨ (t = 0 ∧ ((n + 1 : Nat) : Int) = lv)) → Z (.bool false) ((hset (hset g10 ⟨g.size, 0, none⟩ (.int .i64 ((n : Int) + 1))) ⟨g.size + 1, 0, none⟩ (.bool false)).setIfInBounds (gA.size + 1) (oX (.exit 6))) := fun hh =>
                    hF _ ⟨get_put (get_some_lt gL9), n + 1, M9.mod hnA hoA (Mod.put _ _ _) (fun b e => by omega), by omega, .inr hh⟩
                  have next : n + 1 ≠ 60 → Z (.bool true) ((hset (hset g10 ⟨g.size, 0, none⟩ (.int .i64 ((n : Int) + 1))) ⟨g.size + 1, 0, none⟩ (.bool false)).setIfInBounds (gA.size + 1) oR) := fun hh =>
                    hT _ ⟨M9.mod hnA hoA (Mod.put _ _ _) (fun b e => by omega), get_put (get_some_lt gL9), (get_putne (by omega)).trans gY9⟩ (by omega)
                  by_cases h60 : n + 1 = 60
                  · have h60' : (n : Int) + 1 = 60 := by omega
                    simp (disch := omega) [n10, f10, p10, o10, fo10, h60', t10, v10]
                    rw [h60'] at gL9 exit
                    exact ⟨gL9, exit (.inl h60)⟩
                  · have h60' : ¬ (n : Int) + 1 = 60 := by omega
                    by_cases ht0 : t = 0
                    · by_cases hlv : ((n : Int) + 1) = lv
                      · simp (disch := omega) [n10, f10, p10, o10, fo10, h60', t10, v10, ht0, hlv]
                        rw [hlv] at gL9 exit
                        exact ⟨gL9, exit (.inr ⟨ht0, by omega⟩)⟩
                      · simp (disch := omega) [n10, f10, p10, o10, fo10, h60', t10, v10, ht0, hlv]
                        exact ⟨gL9, next h60⟩
                    · simp (disch := omega) [n10, f10, p10, o10, fo10, h60', t10, v10, ht0]
                      exact ⟨gL9, next h60⟩
              · rintro g4 hp62 hlt ⟨M, gL, gY⟩
                have mE := Mod.put g4 (gA.size + 1) oE
                refine hN _ _ gL (hkk3 _ _ ⟨rfl, 2 ^ s.pend, M.mod hnA hoA mE (fun b e => by omega), by omega, ?_⟩)
                by_cases h62 : s.pend < 62
                · left; unfold overN; rw [decide_eq_true h62, decide_eq_true rfl]; rfl
                · have : s.pend = 62 := by omega
                  rw [this] at hlt
                  exact absurd hlt (by decide)
              · rintro g4 ⟨gL, n, M, hnd9⟩
                refine hX _ _ 6 gL ?_
                have mE := Mod.put g4 (gA.size + 1) (oF (.exit 6))
                exact hkk3 _ _ ⟨rfl, n, M.mod hnA hoA mE (fun b e => by omega), hnd9⟩
            · obtain ⟨rfl, n2, M2, hn2, -⟩ := hD
              have ds2 : ∀ d ∈ gA.size :: g1.size :: ds, h.size + 2 ≤ d ∧ g''[d]? = some (.deferred (some [])) := fun d hd => by
                rcases List.mem_cons.1 hd with rfl | hd
                · exact ⟨by omega, M2.d⟩
                · have h9 := dsA d hd
                  exact ⟨h9.1, (M2.m.block d h9.2.1 (by omega)).trans h9.2.2.2.2⟩
              refine hkk2 _ _ ⟨gA.size :: g1.size :: ds, by rw [consD_marks], List.nodup_cons.2 ⟨fun e => by have := (dsA _ e).2.1; omega, hndE⟩, ds2, M2.m.ext_from eA (fun b hb e => by omega), (M2.m.block _ ztA (by omega)).trans gtA⟩
      · obtain ⟨ds', rfl, hnd', hds', eg', gt'⟩ := hD
        have ct' := cellOf (i := 0) gt' rfl
        have zt := get_some_lt gt'
        simp (disch := omega) [ct']
        refine hX (t + 1, ds', g'.size) _ _ _ rfl rfl ⟨ht2, hnd', fun d hd => ⟨(hds' d hd).1, ?_⟩, hset_ext (hset_ext (push_ext eg') (by simp; have := eg'.size; omega)) (by simp; have := eg'.size; omega), ?_⟩ (by dsimp only; omega)
        · have hd9 := get_some_lt (hds' d hd).2
          exact (get_hset' (by omega)).trans ((get_hset' (by omega)).trans ((get_push hd9).trans (hds' d hd).2))
        · exact obj_set (obj_set (arr := #[.int .i64 0]) (get_pushed rfl))
    · obtain rfl : t = 2 := by omega
      unfold ptrV
      simp (disch := omega) [ct]
      exact hkk _ _ ⟨ds, rfl, hnd, hds, eg⟩
  · obtain ⟨ds, rfl, hnd, hds, eg⟩ := hD
    refine known7_c fun h20 e20 => ?_
    have rz := (base.ext (eg.trans e20)).res
    have cz := cellOf (i := 0) rz rfl
    have fz := frzOf (i := 0) rz
    simp (disch := omega) [cz, fz]
    refine RetD_all (fun d hd => ?_) hnd (fun h21 m21 => ?_)
    · have := hds d hd
      exact (get_hset' (by omega)).trans ((e20.block _ (get_some_lt this.2)).trans this.2)
    · have rz9 := (m21.block (h.size + 1) (by rw [hset_size]; exact get_some_lt rz) (fun e => by have := (hds _ e).1; omega)).trans (obj_set (i := 0) (v := .bool true) rz)
      have cz9 := cellOf (i := 0) rz9 rfl
      simp (disch := omega) [cz9]
      exact H _ (m21.ext_from (hset_ext (EB.trans (eg.trans e20)) (by simp)) (fun b hb e => by have := (hds _ e).1; omega))
end Go.Proofs.Ytdmcaaojapcbcaa
namespace Go.Proofs.Ytdmcaaojapcbcaa.stopsAll
open Go.ChangeShapes Go.WideShapes Go.ChangeAt Go.RowKit Go.Joins Go.Vc

theorem own : ownKnob Try.prog.godebug = none := by kernel_rfl
theorem laidOut : laidOutB Try.prog = true := by kernel_rfl

set_option maxRecDepth 100000 in
set_option maxHeartbeats 1000000 in
theorem lifted (os : Os) (started : os.Started) (H : Type) (enc : TypeId × Value → H) :
    ReturnsInHanded {} Try.checked os 7 .any (Rows.stopsAllSpec.pre6 enc Try.prog Try.f7 Rows.stopsAllRow.domain false) (Rows.stopsAllSpec.post enc Try.prog Try.f7 false true false false) := by
  refine returnsInHanded_of_change (C := Try.checked) own started (by kernel_rfl) Try.func7
    (ChangeSpec.witness6 (enc := enc) (C := Try.checked) false ⟨#[], #[.slice none 0 0, .int .i64 0], []⟩ 8 (by kernel_rfl) (by kernel_rfl) (by kernel_rfl) (by kernel_rfl)) ?_
  intro W base args ds gs before hval0 hW hcnd _
  have hval : ∀ (j : Nat) t v, Try.f7.params[j]? = some t → args[j]? = some v → Value.okWide Try.prog W .any base t v := hval0
  have hW' := hW
  obtain ⟨p, q, hA0, hV, rfl, hfz, hnd⟩ := hW
  have hA : DataW.TrodAll enc Try.prog W 0 (fun _ => true) true Try.f7.params.toList args.toList ds p := hA0
  rw [Try.params7] at hA hval
  obtain ⟨v0, vs0, d0, ds0, p0, q0, hargs, rfl, rfl, h0, r0⟩ := trodAll_cons hA
  obtain ⟨v1, vs1, d1, ds1, p1, q1, rfl, rfl, rfl, h1, r1⟩ := trodAll_cons r0
  obtain ⟨rfl, rfl, rfl⟩ := trodAll_nil r1
  obtain rfl : args = #[v0, v1] := by cases args; simp_all
  obtain ⟨xs, hxs⟩ := open_puts (hval 0 22 v0 rfl rfl) h0
  obtain ⟨n, hn, hn0⟩ := (Laid.top (hval 1 3 v1 rfl rfl) h1 (by kernel_rfl)).int (k := .i64) (by kernel_rfl)
  obtain rfl : v1 = .int .i64 n := by simpa using hn
  have hi := i64_of hn0
  refine ((StopsAll_c (h := W.heap) hxs hi.1 hi.2 (K := fun v h' => v = .bool true ∧ Ext W.heap h') (fun h' e => ⟨rfl, e⟩)).out W rfl).mono fun e W' ⟨v, he, hs, hv, hx⟩ => ?_
  exact ⟨v, he, hv ▸ law_post laidOut (by kernel_rfl) rfl (tb := 4) (by kernel_rfl) (by kernel_rfl) hW' (fun hg => by rw [hg]; rfl) (below_of hs hx)⟩

theorem proved : Rows.StopsAllSaid :=
  OpenClaim.holds_of_wide 7 Try.f7 rfl rfl rfl rfl rfl rfl rfl ⟨rfl, rfl, rfl, rfl, rfl⟩ rfl rfl rfl rfl rfl (by kernel_rfl) Try.func7 (by kernel_rfl)
    (of_decide_eq_true (by kernel_rfl)) (by unfold Func.isWrapper; first | (rw [if_pos (by decide +kernel)]; kernel_rfl) | (rw [if_neg (by decide +kernel)]; exact ⟨rfl, rfl⟩))
    (fun os started H enc _ => lifted os started H enc)
end Go.Proofs.Ytdmcaaojapcbcaa.stopsAll

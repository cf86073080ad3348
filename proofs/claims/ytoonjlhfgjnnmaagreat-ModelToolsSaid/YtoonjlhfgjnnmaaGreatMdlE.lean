/- Model: an image with another content, snapshots or bitmaps; a map cloned. Model: an image with one snapshot, one bitmap: looked for; kept; added. Model: a snapshot kept; a bitmap added. Model: a bitmap added; granules made dirty, or trimmed. Model: granules beyond an end go; an image is as it was. Model: granules trimmed where none goes; an image as it was. Model: what is told of an image. Model: a write to an image with a bitmap; noughts written; all of an image. Model: noughts written; writes that are told a bitmap. Model: the law's three images, one over another. -/
import Derived.Test.YtoonjlhfgjnnmaaGreatMdlD
import Derived.Test.YtoonjlhfgjnnmaaGreatVcMapD
import Derived.Test.YtoonjlhfgjnnmaaGreatKeysL
set_option linter.unusedSimpArgs false
set_option linter.unusedVariables false
namespace Go.Proofs.YtoonjlhfgjnnmaaGreat
open Go.Vc
variable {K : Value → Heap → Prop} {h : Heap}

/-- One image has changed, and nothing but its own blocks. -/
theorem WdAt.upd {w wm : Nat} {xs : List Im} {x x' : Im} {S : Nat → Prop} {h' : Heap} (a : WdAt h w wm xs) (hx : findI x.nm xs = some x) (en : x'.nm = x.nm) (eb : x'.b = x.b) (hw : Wl (setI x' xs)) (m : Mod S h h') (hS : ∀ b, b < h.size → S b → footI x b)
    (hi : ImAt h' x') (hf : ∀ b, footI x' b → footI x b ∨ h.size ≤ b) : WdAt h' w wm (setI x' xs) := by
  obtain ⟨hxm, -⟩ := findI_mem hx
  have hx' : findI x'.nm xs = some x := by rw [en]; exact hx
  have ax := a.im x hxm
  obtain ⟨M, hM, hlk⟩ := a.map
  have hwl := get_some_lt a.cells
  have hwm := hM.lt
  have u8 : ∀ b arr, h[b]? = some (.cells arr u8T) → ¬ S b := fun b arr hb hs => ax.foot_u8 hb (hS b (get_some_lt hb) hs)
  refine ⟨(m.block _ hwl (fun e => (a.wf x hxm).1 (hS _ hwl e))).trans a.cells, ⟨M, hM.mod m (fun e => (a.wf x hxm).2 (hS _ hwm e)), fun nm => ?_⟩, hw, fun y hy => ?_, fun y hy0 z hz0 hne => ?_, fun y hy => ?_, fun y hy => ?_, by rw [setI_len]; exact a.few⟩
  · rw [hlk, findI_setI hx']
    by_cases e : nm = x'.nm
    · rw [if_pos e, e, en, hx]
      show some (ptrV x.b) = some (ptrV x'.b)
      rw [eb]
    · rw [if_neg e]
  · rcases mem_setI hy with rfl | ⟨hy, hne⟩
    · exact hi
    · exact (a.im y hy).mod m (fun b hb hs => a.ap x hxm y hy (fun e => hne (by rw [en, e])) b (hS b ((a.im y hy).lt hb) hs) hb) (fun b arr hb _ => u8 b arr hb)
  · rcases mem_setI hy0 with rfl | ⟨hy, hy'⟩
    · rcases mem_setI hz0 with rfl | ⟨hz, hz'⟩
      · exact absurd rfl hne
      · intro b hb hb2
        rcases hf b hb with h1 | h1
        · exact a.ap x hxm z hz (fun e => hz' (by rw [en, e])) b h1 hb2
        · have := (a.im z hz).lt hb2; omega
    · rcases mem_setI hz0 with rfl | ⟨hz, hz'⟩
      · intro b hb hb2
        rcases hf b hb2 with h1 | h1
        · exact a.ap y hy x hxm (fun e => hy' (by rw [en, e])) b hb h1
        · have := (a.im y hy).lt hb; omega
      · exact a.ap y hy z hz hne
  · rcases mem_setI hy with rfl | ⟨hy, -⟩
    · exact ⟨fun hb => (hf _ hb).elim (a.wf x hxm).1 (fun h1 => by omega), fun hb => (hf _ hb).elim (a.wf x hxm).2 (fun h1 => by omega)⟩
    · exact a.wf y hy
  · rcases mem_setI hy with rfl | ⟨hy, -⟩
    · rw [en]; exact a.nm x hxm
    · exact a.nm y hy
/-- A map of clusters cloned. -/
theorem cloneM_c {m : Nat} {F : List (Int × Value)} (hm : MapK ik h m F) (H : ∀ h' m', MapK ik h' m' F → Ext h h' → h.size ≤ m' → K (.map (some m')) h') : CallsH Tryz.prog 33 #[.map (some m)] h K ⟨⟩ := by
  refine n33_calls ?_
  unfold n33
  simp (disch := omega)
  rw [Hp_mkIface (by kernel_rfl)]
  obtain ⟨es, cl, m1, m2, m3⟩ := hm
  refine ⟨_, Go.Extern.MapsClone.clone, Tryz.func66, by kernel_rfl, by kernel_rfl, by kernel_rfl, by kernel_rfl, ?_⟩
  show hp _ _ (getObj m >>= _) _ _
  rw [hp_bind', hp_getMap m1]
  show hp _ _ (newObj (.map es.toArray cl) >>= _) _ _
  rw [hp_bind']
  show _ ∧ _
  refine ⟨rfl, ?_⟩
  show Hp _ _ _ _ _ _
  rw [Hp_assert (by kernel_rfl)]
  have e1 : Ext h (h.push (.map es.toArray cl)) := (by repeat' (first | (with_reducible exact Ext.refl _) | (with_reducible assumption) | (with_reducible refine push_ext ?_) | (with_reducible refine hset_ext ?_ ?_) | (with_reducible refine Ext.trans ?_ (by assumption)) | omega | (simp; done) | (simp; omega) | (refine Ext.size ?_) | (refine Nat.le_succ_of_le (Ext.size ?_))))
  exact H _ h.size ⟨es, cl, get_pushed rfl, m2, m3⟩ e1 (Nat.le_refl _)
end Go.Proofs.YtoonjlhfgjnnmaaGreat
set_option linter.unusedSimpArgs false
set_option linter.unusedVariables false
namespace Go.Proofs.YtoonjlhfgjnnmaaGreat
open Go.Vc
variable {K : Value → Heap → Prop} {h : Heap}

theorem ImAt.noSnap {x : Im} (ax : ImAt h x) (hS : x.S = []) : ∃ a c, x.sv = .slice a 0 c := by
  have hsn := ax.sn
  rw [hS] at hsn
  obtain ⟨sa, sn, sc, hsv, hsn', -, -⟩ := hsn.form (by omega)
  obtain rfl : sn = 0 := by simp at hsn'; omega
  exact ⟨sa, sc, hsv⟩
theorem ImAt.noBm {x : Im} (ax : ImAt h x) (hB : x.B = []) : ∃ a c, x.bv = .slice a 0 c := by
  have hsn := ax.bm
  rw [hB] at hsn
  obtain ⟨sa, sn, sc, hsv, hsn', -, -⟩ := hsn.form (by omega)
  obtain rfl : sn = 0 := by simp at hsn'; omega
  exact ⟨sa, sc, hsv⟩
theorem ImAt.oneSnap {x : Im} {s : Sn} (ax : ImAt h x) (hS : x.S = [s]) : ∃ b c, x.sv = .slice (some ⟨b, 0, none⟩) 1 c ∧ 1 ≤ c ∧ hcell h ⟨b, 0, none⟩ = some (str s.nm) ∧ hcell h ⟨b, 1, none⟩ = some (.int .i64 ((s.n * 512 : Nat) : Int)) ∧ hcell h ⟨b, 2, none⟩ = some (.map (some s.m)) := by
  have hsn := ax.sn
  rw [hS] at hsn
  have e : [s].flatMap snC = [str s.nm, .int .i64 ((s.n * 512 : Nat) : Int), .map (some s.m)] := by simp [snC]
  rw [e] at hsn
  obtain ⟨sa, sn, sc, hsv, hsn', hc, hb⟩ := hsn.form (by omega)
  obtain rfl : sn = 1 := by simp at hsn'; omega
  obtain ⟨b, rfl⟩ := hb (by simp)
  rw [hsv] at hsn
  exact ⟨b, sc, hsv, hc, (hsn.cell (i := 0) (by simp)).1, (hsn.cell (i := 1) (by simp)).1, (hsn.cell (i := 2) (by simp)).1⟩
theorem ImAt.oneBm {x : Im} {y : Bm} (ax : ImAt h x) (hB : x.B = [y]) : ∃ b c, x.bv = .slice (some ⟨b, 0, none⟩) 1 c ∧ 1 ≤ c ∧ hcell h ⟨b, 0, none⟩ = some (str y.nm) ∧ hcell h ⟨b, 1, none⟩ = some (.int .i64 y.gran) ∧ hcell h ⟨b, 2, none⟩ = some (.bool y.en) ∧ hcell h ⟨b, 3, none⟩ = some (.map (some y.m)) := by
  have hsn := ax.bm
  rw [hB] at hsn
  have e : [y].flatMap bmC = [str y.nm, .int .i64 y.gran, .bool y.en, .map (some y.m)] := by simp [bmC]
  rw [e] at hsn
  obtain ⟨sa, sn, sc, hsv, hsn', hc, hb⟩ := hsn.form (by omega)
  obtain rfl : sn = 1 := by simp at hsn'; omega
  obtain ⟨b, rfl⟩ := hb (by simp)
  rw [hsv] at hsn
  exact ⟨b, sc, hsv, hc, (hsn.cell (i := 0) (by simp)).1, (hsn.cell (i := 1) (by simp)).1, (hsn.cell (i := 2) (by simp)).1, (hsn.cell (i := 3) (by simp)).1⟩
theorem snap0_c {x : Im} {nm : List UInt8} (ax : ImAt h x) (hS : x.S = []) (H : ∀ h', Ext h h' → K (.int .i64 (-1)) h') : CallsH Tryz.prog 32 #[ptrV x.b, str nm] h K ⟨⟩ := by
  refine n32_calls ?_
  unfold n32 ptrV
  obtain ⟨sa, sc, hsv⟩ := ax.noSnap hS
  have cc := ax.cells
  rw [hsv] at cc
  have c5 := cellOf (i := 5) cc rfl
  have hxb : ¬ x.b = h.size := by have := get_some_lt cc; omega
  simp (disch := omega) [c5, hxb]
  refine n64_calls ?_
  unfold n64
  simp (disch := omega)
  refine loop_once fun X => ?_
  simp (disch := omega)
  exact H _ (by repeat' (first | (with_reducible exact Ext.refl _) | (with_reducible assumption) | (with_reducible refine push_ext ?_) | (with_reducible refine hset_ext ?_ ?_) | (with_reducible refine Ext.trans ?_ (by assumption)) | omega | (simp; done) | (simp; omega) | (refine Ext.size ?_) | (refine Nat.le_succ_of_le (Ext.size ?_))))
theorem snap1_c {x : Im} {s : Sn} (ax : ImAt h x) (hS : x.S = [s]) (H : ∀ h', Ext h h' → K (.int .i64 0) h') : CallsH Tryz.prog 32 #[ptrV x.b, str s.nm] h K ⟨⟩ := by
  refine n32_calls ?_
  unfold n32 ptrV
  obtain ⟨b, sc, hsv, hsc, s0, s1, s2⟩ := ax.oneSnap hS
  have cc := ax.cells
  rw [hsv] at cc
  have c5 := cellOf (i := 5) cc rfl
  have hxb : ¬ x.b = h.size := by have := get_some_lt cc; omega
  simp (disch := omega) [c5, hxb]
  refine n64_calls ?_
  unfold n64
  simp (disch := omega)
  refine loop_once fun X => ?_
  have hbb : ¬ b = h.size := by
    obtain ⟨arr, ha⟩ := ax.sn.tag (by rw [hsv]; rfl : blkV x.sv = some b)
    have := get_some_lt ha; omega
  obtain ⟨N, hN⟩ : ∃ N, N = s.n * 512 := ⟨_, rfl⟩
  rw [← hN] at s1
  simp (disch := omega) [s0, s1, s2, hbb]
  refine InvokeK1 (by kernel_rfl) ?_
  refine n65_calls ?_
  unfold n65
  simp (disch := omega)
  exact H _ (by repeat' (first | (with_reducible exact Ext.refl _) | (with_reducible assumption) | (with_reducible refine push_ext ?_) | (with_reducible refine hset_ext ?_ ?_) | (with_reducible refine Ext.trans ?_ (by assumption)) | omega | (simp; done) | (simp; omega) | (refine Ext.size ?_) | (refine Nat.le_succ_of_le (Ext.size ?_))))
theorem bitmap0_c {x : Im} {nm : List UInt8} (ax : ImAt h x) (hB : x.B = []) (H : ∀ h', Ext h h' → K (.int .i64 (-1)) h') : CallsH Tryz.prog 31 #[ptrV x.b, str nm] h K ⟨⟩ := by
  refine n31_calls ?_
  unfold n31 ptrV
  obtain ⟨sa, sc, hsv⟩ := ax.noBm hB
  have cc := ax.cells
  rw [hsv] at cc
  have c5 := cellOf (i := 6) cc rfl
  have hxb : ¬ x.b = h.size := by have := get_some_lt cc; omega
  simp (disch := omega) [c5, hxb]
  refine n62_calls ?_
  unfold n62
  simp (disch := omega)
  refine loop_once fun X => ?_
  simp (disch := omega)
  exact H _ (by repeat' (first | (with_reducible exact Ext.refl _) | (with_reducible assumption) | (with_reducible refine push_ext ?_) | (with_reducible refine hset_ext ?_ ?_) | (with_reducible refine Ext.trans ?_ (by assumption)) | omega | (simp; done) | (simp; omega) | (refine Ext.size ?_) | (refine Nat.le_succ_of_le (Ext.size ?_))))
end Go.Proofs.YtoonjlhfgjnnmaaGreat
set_option linter.unusedSimpArgs false
set_option linter.unusedVariables false
namespace Go.Proofs.YtoonjlhfgjnnmaaGreat
open Go.Vc
variable {K : Value → Heap → Prop} {h : Heap}

/-- With a snapshot. -/
def Im.snapd (x : Im) (nm : List UInt8) (m : Nat) (v : Value) : Im := { x with S := [⟨nm, x.n, m, x.F, x.G⟩], sv := v }
def Im.withB (x : Im) (y : Bm) (v : Value) : Im := { x with B := [y], bv := v }
theorem foot_mod {x : Im} {S : Nat → Prop} {h' : Heap} (ax : ImAt h x) (m : Mod S h h') (hS : ∀ b, S b → b = x.b ∨ blkV x.sv = some b) (c : ClAt h x.m x.cs x.F x.G x.Z) : ClAt h' x.m x.cs x.F x.G x.Z := by
  refine c.mod m (fun e => ?_) (fun b arr hb _ e => ?_)
  · rcases hS _ e with e | e
    · exact ax.mne e
    · obtain ⟨es, cl, h1, _⟩ := ax.cl.map
      exact ax.sn.neM e h1 rfl
  · rcases hS _ e with e | e
    · have := ax.cells
      rw [← e, hb] at this
      injection this with h1
      injection h1 with h2 h3
      exact absurd h3 (by decide)
    · exact ax.sn.ne e hb (by decide) rfl
set_option maxHeartbeats 1000000 in
theorem Snap_c {w wm : Nat} {xs : List Im} {x : Im} {nm as_ : List UInt8} (a : WdAt h w wm xs) (hn : OkN nm) (en : x.nm = nm) (hx : findI nm xs = some x) (ha : OkN as_) (hS : x.S = [])
    (H : ∀ h' m' v', h.size ≤ m' → (∀ b, footI (x.snapd as_ m' v') b → footI x b ∨ h.size ≤ b) → WdAt h' w wm (setI (x.snapd as_ m' v') xs) → Mod (footI x) h h' → K (.int .i64 0) h') : CallsH Tryz.prog 9 #[ptrV w, str nm, str as_] h K ⟨⟩ := by
  subst en
  refine n9_calls ?_
  unfold n9
  simp (disch := omega)
  have e1 : Ext h (h.push (.cells #[str as_] 9)) := (by repeat' (first | (with_reducible exact Ext.refl _) | (with_reducible assumption) | (with_reducible refine push_ext ?_) | (with_reducible refine hset_ext ?_ ?_) | (with_reducible refine Ext.trans ?_ (by assumption)) | omega | (simp; done) | (simp; omega) | (refine Ext.size ?_) | (refine Nat.le_succ_of_le (Ext.size ?_))))
  refine named_c ha (get_pushed rfl) fun h1 e1' => ?_
  have E1 := e1.trans e1'
  refine which_c (a.ext E1) hn fun h2 e2 => ?_
  rw [hx]
  have E2 := E1.trans e2
  have hxm := (findI_mem hx).1
  have ax2 := (a.ext E2).im x hxm
  unfold ptrV
  simp (disch := omega)
  rw [show (.pointer (some ⟨x.b, 0, none⟩) : Value) = ptrV x.b from rfl]
  refine snap0_c ax2 hS fun h3 e3 => ?_
  have E3 := E2.trans e3
  have ax3 := (a.ext E3).im x hxm
  obtain ⟨sa, sc, hsv⟩ := ax3.noSnap hS
  have cc := ax3.cells
  rw [hsv] at cc
  obtain ⟨N, hN⟩ : ∃ N, N = x.n * 512 := ⟨_, rfl⟩
  rw [← hN] at cc
  have c2 := cellOf (i := 2) cc rfl
  have c4 := cellOf (i := 4) cc rfl
  have c5 := cellOf (i := 5) cc rfl
  unfold ptrV
  simp (disch := omega) [c2, c4, c5]
  refine cloneM_c ax3.cl.map fun h4 m' mp4 e4 f4 => ?_
  have E4 := E3.trans e4
  have ax4 := (a.ext E4).im x hxm
  have dd := ax4.cells
  rw [hsv, ← hN] at dd
  have d2 := cellOf (i := 2) dd rfl
  have d5 := cellOf (i := 5) dd rfl
  have g5 := frzOf (i := 5) dd
  have hxb : ¬ h4.size = x.b := by have := get_some_lt dd; omega
  simp (disch := omega) [d2, d5, hxb]
  refine (⟨_, rfl⟩ : ∃ f, f = h4.push (.cells #[str as_, .int .i64 N, .map (some m')] 78)).elim fun g eg => ?_
  have e5 : Ext h4 g := by rw [eg]; exact (by repeat' (first | (with_reducible exact Ext.refl _) | (with_reducible assumption) | (with_reducible refine push_ext ?_) | (with_reducible refine hset_ext ?_ ?_) | (with_reducible refine Ext.trans ?_ (by assumption)) | omega | (simp; done) | (simp; omega) | (refine Ext.size ?_) | (refine Nat.le_succ_of_le (Ext.size ?_))))
  have hsrc : Src 3 g (.slice (some ⟨h4.size, 0, none⟩) 1 1) 1 [str as_, .int .i64 N, .map (some m')] := by rw [eg]; exact Src_new (vs := [str as_, .int .i64 N, .map (some m')]) rfl
  rw [← eg]
  clear eg
  have E5 := E4.trans e5
  have ax5 := (a.ext E5).im x hxm
  have osn := ax5.sn
  rw [hS] at osn
  have hnil : OwnT snT 3 g (.slice sa 0 sc) [] := by rw [← hsv]; exact osn
  refine Hp_appendT (e := snT) (s := 3) (by_ := 32) (n := 0) (k := 1) (news := [str as_, .int .i64 N, .map (some m')]) (by kernel_rfl) (by kernel_rfl) hnil rfl (by omega) hsrc (by simp [one, str]) (by omega) (by omega) fun v' h6 o6 m6 f6 ne6 => ?_
  have hsb : ¬ blkV (.slice sa 0 sc) = some x.b := fun e => hnil.ne e ax5.cells (by decide) rfl
  have cc6 := (m6.block _ (get_some_lt ax5.cells) hsb).trans ax5.cells
  obtain ⟨vb, vc, hv'⟩ := ne6 (by simp)
  subst hv'
  rw [hsv, ← hN] at cc6
  have k5 := cellOf (i := 5) cc6 rfl
  have fz5 := frzOf (i := 5) cc6
  simp (disch := omega) [k5, fz5]
  obtain ⟨v', hv'⟩ : ∃ v', v' = (Value.slice (some ⟨vb, 0, none⟩) 1 vc) := ⟨_, rfl⟩
  have o6' : OwnT snT 3 h6 v' ([str as_, .int .i64 N, .map (some m')]) := by rw [hv']; exact o6
  have hvb : ∀ b, blkV v' = some b → blkV x.sv = some b ∨ h.size ≤ b := fun b hb => by
    rw [hv'] at hb
    rcases f6 b hb with h1 | h1
    · exact .inl (by rw [hsv]; exact h1)
    · exact .inr (by have := E5.size; omega)
  rw [← hv']
  have c7 := obj_set (i := 5) (v := v') cc6
  have m7 : Mod (fun b => b = x.b ∨ blkV x.sv = some b) g (hset h6 ⟨x.b, 5, none⟩ v') := (m6.mono (fun b _ e => .inr (by rw [hsv]; exact e))).setIn (.inl (.inl rfl))
  have M : Mod (fun b => b = x.b ∨ blkV x.sv = some b) h (hset h6 ⟨x.b, 5, none⟩ v') := (Mod.of_ext E5).trans m7 (fun _ _ e => e)
  have hvx : ∀ b, blkV v' = some b → b ≠ x.b := fun b hb e => o6'.ne (e ▸ hb) cc6 (by decide) rfl
  have o7 : OwnT snT 3 (hset h6 ⟨x.b, 5, none⟩ v') v' [str as_, .int .i64 N, .map (some m')] := o6'.mod (Mod.set _ _ _) (fun b hb e => hvx b hb e)
  have clx := ax5.cl
  have clm : ClAt (hset h6 ⟨x.b, 5, none⟩ v') x.m x.cs x.F x.G x.Z := foot_mod ax5 m7 (fun b e => e) clx
  have hm'lt := mp4.lt
  have hfm : h.size ≤ m' := by have := E3.size; omega
  have ms : MapK ik (hset h6 ⟨x.b, 5, none⟩ v') m' x.F := (mp4.ext e5).mod m7 (fun e => by
    rcases e with e | e
    · have := get_some_lt (a.im x hxm).cells; omega
    · have := (a.im x hxm).sn.lt e; omega)
  have hw : Wl (setI (x.snapd as_ m' v') xs) := a.wl.set (show findI x.nm xs = some x from hx) rfl
  refine H _ m' v' hfm ?ft (a.upd hx rfl rfl hw M (fun b _ e => e.elim .inl (fun e => .inr (.inr (.inr (.inr (.inl e)))))) ⟨?_, clm, ax5.n, ax5.bits, ax5.cs, ?_, ?_, ?_, ?_, ax5.mne, ?_, ?_⟩ ?ft) (M.mono fun b _ e => e.elim .inl (fun e => .inr (.inr (.inr (.inr (.inl e))))))
  case ft =>
    intro b hb
    rcases hb with hb | hb | ⟨s, hs, hb⟩ | hb | hb | hb
    · exact .inl (.inl hb)
    · exact .inl (.inr (.inl hb))
    · have hs' : s = ⟨as_, x.n, m', x.F, x.G⟩ := by simpa [Im.snapd] using hs
      exact .inr (by rw [hb, hs']; exact hfm)
    · exact .inl (.inr (.inr (.inr (.inl hb))))
    · exact (hvb b hb).imp (fun e => .inr (.inr (.inr (.inr (.inl e))))) id
    · exact .inl (.inr (.inr (.inr (.inr (.inr hb)))))
  · show (hset h6 ⟨x.b, 5, none⟩ v')[x.b]? = some (.cells #[str x.nm, str x.bk, .int .i64 ((x.n * 512 : Nat) : Int), .int .i64 x.bits, .map (some x.m), v', x.bv] imT)
    rw [c7, hN]; rfl
  · show OwnT snT 3 _ v' _
    rw [show (x.snapd as_ m' v').S.flatMap snC = [str as_, .int .i64 N, .map (some m')] by simp [Im.snapd, snC, hN]]
    exact o7
  · intro s hs
    have hs' : s = ⟨as_, x.n, m', x.F, x.G⟩ := by simpa [Im.snapd] using hs
    rw [hs']
    exact ⟨ms, clm.byt, clm.out⟩
  · refine ax5.bm.mod m7 (fun b hb e => ?_)
    rcases e with e | e
    · exact ax5.bm.ne hb ax5.cells (by decide) e
    · obtain ⟨arr, ha⟩ := ax5.sn.tag e
      exact ax5.bm.ne hb ha (by decide) rfl
  · intro y hy
    refine (ax5.bmd y hy).mod m7 (fun e => ?_)
    obtain ⟨es, cl, h1, _⟩ := ax5.bmd y hy
    rcases e with e | e
    · have := ax5.cells
      rw [← e, h1] at this
      cases this
    · exact ax5.sn.neM e h1 rfl
  · have hb := ax5.bnd
    rw [hS] at hb
    show (x.m :: ([m'] ++ x.B.map (·.m))).Nodup
    simp only [List.map_nil, List.nil_append, List.nodup_cons] at hb
    simp only [List.singleton_append, List.nodup_cons, List.mem_cons, not_or]
    refine ⟨⟨fun e => ?_, hb.1⟩, fun e => ?_, hb.2⟩
    · have := (a.im x hxm).cl.map.lt; omega
    · obtain ⟨y, hy, e⟩ := List.mem_map.1 e
      have := ((a.im x hxm).bmd y hy).lt; omega
  · intro b hb
    exact Nat.lt_of_lt_of_le ((a.im x hxm).zlt b hb) M.size
end Go.Proofs.YtoonjlhfgjnnmaaGreat
set_option linter.unusedSimpArgs false
set_option linter.unusedVariables false
namespace Go.Proofs.YtoonjlhfgjnnmaaGreat
open Go.Vc
variable {K : Value → Heap → Prop} {h : Heap}

theorem foot_modB {x : Im} {S : Nat → Prop} {h' : Heap} (ax : ImAt h x) (m : Mod S h h') (hS : ∀ b, S b → b = x.b ∨ blkV x.bv = some b) {mm cs : Nat} {F : List (Int × Value)} {G : Int → List UInt8} {Z : List Nat} (c : ClAt h mm cs F G Z) : ClAt h' mm cs F G Z := by
  refine c.mod m (fun e => ?_) (fun b arr hb _ e => ?_)
  · obtain ⟨es, cl, h1, _⟩ := c.map
    rcases hS _ e with e | e
    · have := ax.cells
      rw [← e, h1] at this
      cases this
    · exact ax.bm.neM e h1 rfl
  · rcases hS _ e with e | e
    · have := ax.cells
      rw [← e, hb] at this
      injection this with h1
      injection h1 with h2 h3
      exact absurd h3 (by decide)
    · exact ax.bm.ne e hb (by decide) rfl
set_option maxHeartbeats 1000000 in
theorem Add_c {w wm gran : Nat} {xs : List Im} {x : Im} {nm as_ : List UInt8} (a : WdAt h w wm xs) (hn : OkN nm) (en : x.nm = nm) (hx : findI nm xs = some x) (ha : OkN as_) (hB : x.B = []) (hg : 9 ≤ gran ∧ gran ≤ 26)
    (H : ∀ h' m' v', h.size ≤ m' → (∀ b, footI (x.withB ⟨as_, gran, true, m', []⟩ v') b → footI x b ∨ h.size ≤ b) → WdAt h' w wm (setI (x.withB ⟨as_, gran, true, m', []⟩ v') xs) → Mod (footI x) h h' → K (.int .i64 0) h') : CallsH Tryz.prog 8 #[ptrV w, str nm, str as_, .int .i64 gran] h K ⟨⟩ := by
  subst en
  refine n8_calls ?_
  unfold n8
  simp (disch := omega)
  have e1 : Ext h (h.push (.cells #[str as_] 9)) := (by repeat' (first | (with_reducible exact Ext.refl _) | (with_reducible assumption) | (with_reducible refine push_ext ?_) | (with_reducible refine hset_ext ?_ ?_) | (with_reducible refine Ext.trans ?_ (by assumption)) | omega | (simp; done) | (simp; omega) | (refine Ext.size ?_) | (refine Nat.le_succ_of_le (Ext.size ?_))))
  refine named_c ha (get_pushed rfl) fun h1 e1' => ?_
  have E1 := e1.trans e1'
  simp (disch := omega)
  refine which_c (a.ext E1) hn fun h2 e2 => ?_
  rw [hx]
  have E2 := E1.trans e2
  have hxm := (findI_mem hx).1
  have ax2 := (a.ext E2).im x hxm
  unfold ptrV
  simp (disch := omega)
  rw [show (.pointer (some ⟨x.b, 0, none⟩) : Value) = ptrV x.b from rfl]
  refine bitmap0_c ax2 hB fun h3 e3 => ?_
  have E3 := E2.trans e3
  have ax3 := (a.ext E3).im x hxm
  obtain ⟨sa, sc, hsv⟩ := ax3.noBm hB
  have cc := ax3.cells
  rw [hsv] at cc
  have c6 := cellOf (i := 6) cc rfl
  unfold ptrV
  simp (disch := omega) [c6]
  rw [Hp_makeMap]
  have hxb : ¬ x.b = h3.size := by have := get_some_lt cc; omega
  simp (disch := omega)
  refine (⟨_, rfl⟩ : ∃ f, f = (h3.push (.map #[] 0)).push (.cells #[str as_, .int .i64 gran, .bool true, .map (some h3.size)] 75)).elim fun g eg => ?_
  have e5 : Ext h3 g := by rw [eg]; exact (by repeat' (first | (with_reducible exact Ext.refl _) | (with_reducible assumption) | (with_reducible refine push_ext ?_) | (with_reducible refine hset_ext ?_ ?_) | (with_reducible refine Ext.trans ?_ (by assumption)) | omega | (simp; done) | (simp; omega) | (refine Ext.size ?_) | (refine Nat.le_succ_of_le (Ext.size ?_))))
  have mp : MapK ik g h3.size [] := by rw [eg]; exact (MapK.new rfl).ext (by repeat' (first | (with_reducible exact Ext.refl _) | (with_reducible assumption) | (with_reducible refine push_ext ?_) | (with_reducible refine hset_ext ?_ ?_) | (with_reducible refine Ext.trans ?_ (by assumption)) | omega | (simp; done) | (simp; omega) | (refine Ext.size ?_) | (refine Nat.le_succ_of_le (Ext.size ?_))))
  have hsrc : Src 4 g (.slice (some ⟨h3.size + 1, 0, none⟩) 1 1) 1 [str as_, .int .i64 gran, .bool true, .map (some h3.size)] := by
    rw [eg]
    have := Src_new (h := h3.push (.map #[] 0)) (vs := [str as_, .int .i64 (gran : Int), .bool true, .map (some h3.size)]) (e := 75) (s := 4) (n := 1) rfl
    rw [Array.size_push] at this
    exact this
  rw [← eg]
  clear eg
  have E5 := E3.trans e5
  have ax5 := (a.ext E5).im x hxm
  have obn := ax5.bm
  rw [hB] at obn
  have hnil : OwnT bmT 4 g (.slice sa 0 sc) [] := by rw [← hsv]; exact obn
  refine Hp_appendT (e := bmT) (s := 4) (by_ := 40) (n := 0) (k := 1) (news := [str as_, .int .i64 gran, .bool true, .map (some h3.size)]) (by kernel_rfl) (by kernel_rfl) hnil rfl (by omega) hsrc (by simp [one, str]) (by omega) (by omega) fun v' h6 o6 m6 f6 ne6 => ?_
  have hsb : ¬ blkV (.slice sa 0 sc) = some x.b := fun e => hnil.ne e ax5.cells (by decide) rfl
  have cc6 := (m6.block _ (get_some_lt ax5.cells) hsb).trans ax5.cells
  obtain ⟨vb, vc, hv'⟩ := ne6 (by simp)
  subst hv'
  rw [hsv] at cc6
  have k5 := cellOf (i := 6) cc6 rfl
  have fz5 := frzOf (i := 6) cc6
  simp (disch := omega) [k5, fz5]
  obtain ⟨v', hv'⟩ : ∃ v', v' = (Value.slice (some ⟨vb, 0, none⟩) 1 vc) := ⟨_, rfl⟩
  have o6' : OwnT bmT 4 h6 v' ([str as_, .int .i64 gran, .bool true, .map (some h3.size)]) := by rw [hv']; exact o6
  have hvb : ∀ b, blkV v' = some b → blkV x.bv = some b ∨ h.size ≤ b := fun b hb => by
    rw [hv'] at hb
    rcases f6 b hb with h1 | h1
    · exact .inl (by rw [hsv]; exact h1)
    · exact .inr (by have := E5.size; omega)
  rw [← hv']
  have c7 := obj_set (i := 6) (v := v') cc6
  have m7 : Mod (fun b => b = x.b ∨ blkV x.bv = some b) g (hset h6 ⟨x.b, 6, none⟩ v') := (m6.mono (fun b _ e => .inr (by rw [hsv]; exact e))).setIn (.inl (.inl rfl))
  have M : Mod (fun b => b = x.b ∨ blkV x.bv = some b) h (hset h6 ⟨x.b, 6, none⟩ v') := (Mod.of_ext E5).trans m7 (fun _ _ e => e)
  have hvx : ∀ b, blkV v' = some b → b ≠ x.b := fun b hb e => o6'.ne (e ▸ hb) cc6 (by decide) rfl
  have o7 : OwnT bmT 4 (hset h6 ⟨x.b, 6, none⟩ v') v' [str as_, .int .i64 gran, .bool true, .map (some h3.size)] := o6'.mod (Mod.set _ _ _) (fun b hb e => hvx b hb e)
  have hfm : h.size ≤ h3.size := E3.size
  have ms : MapK ik (hset h6 ⟨x.b, 6, none⟩ v') h3.size [] := mp.mod m7 (fun e => by
    rcases e with e | e
    · have := get_some_lt (a.im x hxm).cells; omega
    · have := (a.im x hxm).bm.lt e; omega)
  have hw : Wl (setI (x.withB ⟨as_, gran, true, h3.size, []⟩ v') xs) := a.wl.set (show findI x.nm xs = some x from hx) rfl
  refine H _ h3.size v' hfm ?ft (a.upd hx rfl rfl hw M (fun b _ e => e.elim .inl (fun e => .inr (.inr (.inr (.inr (.inr e)))))) ⟨?_, foot_modB ax5 m7 (fun b e => e) ax5.cl, ax5.n, ax5.bits, ax5.cs, ?_, fun s hs => foot_modB ax5 m7 (fun b e => e) (ax5.snc s hs), ?_, ?_, ax5.mne, ?_, ?_⟩ ?ft) (M.mono fun b _ e => e.elim .inl (fun e => .inr (.inr (.inr (.inr (.inr e))))))
  case ft =>
    intro b hb
    rcases hb with hb | hb | hb | ⟨s, hs, hb⟩ | hb | hb
    · exact .inl (.inl hb)
    · exact .inl (.inr (.inl hb))
    · exact .inl (.inr (.inr (.inl hb)))
    · have hs' : s = ⟨as_, gran, true, h3.size, []⟩ := by simpa [Im.withB] using hs
      exact .inr (by rw [hb, hs']; exact hfm)
    · exact .inl (.inr (.inr (.inr (.inr (.inl hb)))))
    · exact (hvb b hb).imp (fun e => .inr (.inr (.inr (.inr (.inr e))))) id
  · show (hset h6 ⟨x.b, 6, none⟩ v')[x.b]? = some (.cells #[str x.nm, str x.bk, .int .i64 ((x.n * 512 : Nat) : Int), .int .i64 x.bits, .map (some x.m), x.sv, v'] imT)
    rw [c7]; rfl
  · refine ax5.sn.mod m7 (fun b hb e => ?_)
    rcases e with e | e
    · exact ax5.sn.ne hb ax5.cells (by decide) e
    · obtain ⟨arr, ha⟩ := ax5.bm.tag e
      exact ax5.sn.ne hb ha (by decide) rfl
  · show OwnT bmT 4 _ v' _
    rw [show (x.withB ⟨as_, gran, true, h3.size, []⟩ v').B.flatMap bmC = [str as_, .int .i64 gran, .bool true, .map (some h3.size)] by simp [Im.withB, bmC]]
    exact o7
  · intro s hs
    have hs' : s = ⟨as_, gran, true, h3.size, []⟩ := by simpa [Im.withB] using hs
    rw [hs']
    exact ms
  · have hb := ax5.bnd
    rw [hB] at hb
    show (x.m :: (x.S.map (·.m) ++ [h3.size])).Nodup
    simp only [List.map_nil, List.append_nil, List.nodup_cons] at hb
    rw [List.nodup_cons]
    refine ⟨fun e => ?_, nodup_snoc hb.2 (fun e => ?_)⟩
    · rcases List.mem_append.1 e with e | e
      · exact hb.1 e
      · have := ax3.cl.map.lt
        simp at e; omega
    · obtain ⟨y, hy, e⟩ := List.mem_map.1 e
      have := (ax3.snc y hy).map.lt; omega
  · intro b hb
    exact Nat.lt_of_lt_of_le ((a.im x hxm).zlt b hb) M.size
theorem blKey : KeyT Tryz.prog 73 Int ik := KeyT.int (by kernel_rfl)
theorem ik_inj (a b : Int) (h : ik a = ik b) : a = b := by injection h
set_option maxHeartbeats 1000000 in
theorem touch1_c {x : Im} {y : Bm} {p m W : Nat} (ax : ImAt h x) (hB : x.B = [y]) (he : y.en = true) (hp : p + m ≤ 131072) (hW : 2 ^ y.gran = W) (hg : y.gran ≤ 26)
    (H : ∀ h' D', MapK ik h' y.m D' → (∀ g : Int, look2 g D' = if m ≠ 0 ∧ ((p * 512 / W : Nat) : Int) ≤ g ∧ g ≤ ((((p + m) * 512 - 1) / W : Nat) : Int) then some (.bool true) else look2 g y.D) → Mod (· = y.m) h h' → K (.tuple #[]) h') :
    CallsH Tryz.prog 36 #[ptrV x.b, .int .i64 p, .int .i64 m] h K ⟨⟩ := by
  refine n36_calls ?_
  unfold n36 ptrV
  obtain ⟨b, sc, hsv, hsc, s0, s1, s2, s3⟩ := ax.oneBm hB
  rw [he] at s2
  have cc := ax.cells
  rw [hsv] at cc
  have c6 := cellOf (i := 6) cc rfl
  have hmp := ax.bmd y (by rw [hB]; simp)
  have hbb : ¬ b = h.size := by
    obtain ⟨arr, ha⟩ := ax.bm.tag (by rw [hsv]; rfl : blkV x.bv = some b)
    have := get_some_lt ha; omega
  have hWp : 0 < W := by rw [← hW]; exact Nat.pow_pos (by decide)
  have hWl : W ≤ 67108864 := by rw [← hW]; exact Nat.le_trans (Nat.pow_le_pow_right (by decide) hg) (by decide)
  simp (disch := omega) [c6]
  refine loopX1 (α := Bool) (fun i => .int .i64 (if i then 1 else 0)) (fun i g => (i = false → g = h) ∧ (i = true → ∃ D', MapK ik g y.m D' ∧ (∀ g : Int, look2 g D' = if m ≠ 0 ∧ ((p * 512 / W : Nat) : Int) ≤ g ∧ g ≤ ((((p + m) * 512 - 1) / W : Nat) : Int) then some (.bool true) else look2 g y.D) ∧ Mod (· = y.m) h g)) (fun i => if i then 0 else 1) false rfl ⟨fun _ => rfl, fun e => (by cases e)⟩ ?_
  rintro i g ⟨hf, ht⟩ X hX
  cases i with
  | true =>
    obtain ⟨D', d1, d2, d3⟩ := ht rfl
    simp (disch := omega)
    exact H g D' d1 d2 d3
  | false =>
    obtain rfl := hf rfl
    simp (disch := omega)
    refine JoinN.mk ?_
    refine JoinN.mk ?_
    have hX' := fun g' D' (d1 : MapK ik g' y.m D') (d2 : ∀ g : Int, look2 g D' = if m ≠ 0 ∧ ((p * 512 / W : Nat) : Int) ≤ g ∧ g ≤ ((((p + m) * 512 - 1) / W : Nat) : Int) then some (.bool true) else look2 g y.D) (d3 : Mod (· = y.m) g g') => hX true (.int .i64 1) g' rfl ⟨fun e => (by cases e), fun _ => ⟨D', d1, d2, d3⟩⟩ (by decide)
    simp (disch := omega) [s0, s1, s2, s3, hbb]
    have hyl := hmp.lt
    by_cases hm0 : m = 0
    · simp (disch := omega) [hm0]
      refine hX' _ y.D (hmp.mod (S := fun b => b = g.size) (by repeat' (first | (with_reducible exact Mod.refl _ _) | (with_reducible assumption) | (with_reducible refine Mod.pushIn ?_) | (with_reducible refine Mod.setIn ?_ ?_) | (with_reducible refine Mod.putIn ?_ ?_) | (with_reducible refine Mod.extIn ?_ (by assumption)) | (exact Or.inr (by first | omega | (simp; done) | (simp; omega))) | (exact Or.inl (by first | (simp; done) | (simp; omega))))) (by omega)) (fun q => by rw [if_neg (fun e => e.1 hm0)]) (by repeat' (first | (with_reducible exact Mod.refl _ _) | (with_reducible assumption) | (with_reducible refine Mod.pushIn ?_) | (with_reducible refine Mod.setIn ?_ ?_) | (with_reducible refine Mod.putIn ?_ ?_) | (with_reducible refine Mod.extIn ?_ (by assumption)) | (exact Or.inr (by first | omega | (simp; done) | (simp; omega))) | (exact Or.inl (by first | (simp; done) | (simp; omega)))))
    · obtain ⟨lo, hlo⟩ : ∃ lo, lo = p * 512 / W := ⟨_, rfl⟩
      obtain ⟨hi, hhi⟩ : ∃ hi, hi = ((p + m) * 512 - 1) / W := ⟨_, rfl⟩
      rw [← hlo, ← hhi] at hX'
      have hl1 : ((p : Int) * 512) / (W : Int) = (lo : Int) := by rw [hlo, Int.natCast_ediv, Int.natCast_mul]; rfl
      have hh1 : (((p : Int) + (m : Int)) * 512 - 1) / (W : Int) = (hi : Int) := by
        rw [hhi, Int.natCast_ediv, Int.natCast_sub (by omega), Int.natCast_mul, Int.natCast_add]; rfl
      have hlob : lo ≤ p * 512 := by rw [hlo]; exact Nat.div_le_self _ _
      have hhib : hi ≤ (p + m) * 512 := by rw [hhi]; exact Nat.le_trans (Nat.div_le_self _ _) (Nat.sub_le _ _)
      have hs1 := fun (q : Bool) (tt : Nat) (o1 o2 : Go.Operand) (g : Heap) (K : Value → Heap → Prop) => Hp_shrW (P := Tryz.prog) (q := q) (t := tt) (x := o1) (y := o2) (k' := .i64) (K := K) (h := g) (a := (p : Int) * 512) hW (by omega) (by omega)
      have hs2 := fun (q : Bool) (tt : Nat) (o1 o2 : Go.Operand) (g : Heap) (K : Value → Heap → Prop) => Hp_shrW (P := Tryz.prog) (q := q) (t := tt) (x := o1) (y := o2) (k' := .i64) (K := K) (h := g) (a := ((p : Int) + (m : Int)) * 512 - 1) hW (by omega) (by omega)
      simp (disch := omega) [hm0, hs1, hl1]
      refine loopX1 (α := Nat × List (Int × Value)) (fun a => .int .i64 a.1) (fun a g' => g.size < g'.size ∧ lo ≤ a.1 ∧ a.1 ≤ max lo (hi + 1) ∧ hcell g' ⟨g.size, 1, none⟩ = some (.int .i64 y.gran) ∧ hcell g' ⟨g.size, 3, none⟩ = some (.map (some y.m)) ∧ MapK ik g' y.m a.2 ∧ (∀ q : Int, look2 q a.2 = if (lo : Int) ≤ q ∧ q < a.1 then some (.bool true) else look2 q y.D) ∧ Mod (· = y.m) g g') (fun a => hi + 1 - a.1) (lo, y.D) rfl ⟨by simp, Nat.le_refl _, (by first | omega | (dsimp only; omega) | (simp; done) | (simp; omega)), by simp, by simp, hmp.mod (S := fun b => b = g.size) (by repeat' (first | (with_reducible exact Mod.refl _ _) | (with_reducible assumption) | (with_reducible refine Mod.pushIn ?_) | (with_reducible refine Mod.setIn ?_ ?_) | (with_reducible refine Mod.putIn ?_ ?_) | (with_reducible refine Mod.extIn ?_ (by assumption)) | (exact Or.inr (by first | omega | (simp; done) | (simp; omega))) | (exact Or.inl (by first | (simp; done) | (simp; omega))))) (by omega), fun q => by rw [if_neg (fun e => by dsimp only at e; omega)], (by repeat' (first | (with_reducible exact Mod.refl _ _) | (with_reducible assumption) | (with_reducible refine Mod.pushIn ?_) | (with_reducible refine Mod.setIn ?_ ?_) | (with_reducible refine Mod.putIn ?_ ?_) | (with_reducible refine Mod.extIn ?_ (by assumption)) | (exact Or.inr (by first | omega | (simp; done) | (simp; omega))) | (exact Or.inl (by first | (simp; done) | (simp; omega)))))⟩ ?_
      rintro ⟨i, D⟩ g' ⟨h0, h1, h2, k1, k3, mp, hD, mg⟩ X2 hX2
      dsimp only at h0 h1 h2 k1 k3 mp hD mg hX2 ⊢
      by_cases hih : i ≤ hi
      · simp (disch := omega) [k1, k3, hs2, hh1]
        refine Hp_mapUpdate blKey mp fun g2 mp2 m2 => ?_
        simp (disch := omega)
        have hc : ∀ j, hcell g2 ⟨g.size, j, none⟩ = hcell g' ⟨g.size, j, none⟩ := fun j => m2.cell (a := ⟨g.size, j, none⟩) h0 (fun e => by have e' : g.size = y.m := e; omega)
        refine hX2 (i + 1, upd (i : Int) (.bool true) D) _ _ (by simp) ⟨by have := m2.size; omega, (by first | omega | (dsimp only; omega) | (simp; done) | (simp; omega)), (by first | omega | (dsimp only; omega) | (simp; done) | (simp; omega)), by rw [hc]; exact k1, by rw [hc]; exact k3, mp2, fun q => ?_, mg.trans m2 (fun _ _ e => e)⟩ (by dsimp only; omega)
        dsimp only
        rw [look2_upd, hD]
        by_cases e : q = (i : Int)
        · rw [if_pos e, if_pos (by omega)]
        · rw [if_neg e]
          by_cases e2 : (lo : Int) ≤ q ∧ q < i
          · rw [if_pos e2, if_pos (by omega)]
          · rw [if_neg e2, if_neg (by omega)]
      · simp (disch := omega) [k1, hs2, hh1]
        refine hX' g' D mp (fun q => ?_) mg
        rw [hD]
        by_cases e2 : (lo : Int) ≤ q ∧ q < i
        · rw [if_pos e2, if_pos ⟨hm0, by omega⟩]
        · rw [if_neg e2, if_neg (fun e => e2 (by omega))]
end Go.Proofs.YtoonjlhfgjnnmaaGreat
set_option linter.unusedSimpArgs false
set_option linter.unusedVariables false
namespace Go.Proofs.YtoonjlhfgjnnmaaGreat
open Go.Vc
variable {K : Value → Heap → Prop} {h : Heap}

/-- Who is told goes. -/
theorem delB_c {m : Nat} {l : List (Int × Value)} {f : Value} {d : Int → Value → Bool} (hm : MapK ik h m l) (hl : l.length < 1000000)
    (hf : ∀ p ∈ l, ∀ (g : Heap) (K : Value → Heap → Prop), Mod (fun b => b = m ∨ h.size ≤ b) h g → (∀ g', Ext g g' → K (.bool (d p.1 p.2)) g') → InvokeH Tryz.prog f #[ik p.1, p.2] g K ⟨⟩)
    (H : ∀ h', MapK ik h' m (l.filter (fun p => !d p.1 p.2)) → Mod (· = m) h h' → K (.tuple #[]) h') : CallsH Tryz.prog 69 #[.map (some m), f] h K ⟨⟩ := by
  refine n69_calls ?_
  unfold n69
  refine Hp_rangeD (by kernel_rfl) hm fun h1 e1 i1 z1 => ?_
  have hml := hm.lt
  have hnd := hm.nodup
  refine loopMapD (fun l' T g => l' = l.filter (fun p => !(decide (p.1 ∈ T) && d p.1 p.2)) ∧ Mod (fun b => b = m ∨ h.size ≤ b) h g) i1 ⟨by rw [List.filter_eq_self.2]; intro p hp; simp, .of_ext e1⟩ ?_
  rintro l' T g it ⟨hl', mg⟩ X hX
  refine Hp_nextD ik_inj it (fun i hi hiT g2 m2 it2 => ?_) (fun hall => ?_)
  · have hmem' : l'[i] ∈ l' := List.getElem_mem hi
    have hmem : l'[i] ∈ l := by
      have h3 : l'[i] ∈ l.filter (fun p => !(decide (p.1 ∈ T) && d p.1 p.2)) := by rw [← hl']; exact hmem'
      exact (List.mem_filter.1 h3).1
    have mg2 : Mod (fun b => b = m ∨ h.size ≤ b) h g2 := mg.trans m2 (fun b hb e => by have e' : b = h.size := e; omega)
    simp (disch := omega)
    refine JoinN.mk ?_
    rw [Hp_entryD it2 hi rfl]
    simp (disch := omega)
    obtain ⟨p0, hp0⟩ : ∃ p0, p0 = l'[i] := ⟨_, rfl⟩
    rw [← hp0] at hmem hmem' hiT it2 ⊢
    refine hf p0 hmem g2 _ mg2 fun g3 e3 => ?_
    have it3 := it2.ext e3
    have hlen : leftD l' (T ++ [p0.1]) < leftD l' T := leftD_next hmem' hiT
    have hfil : ∀ p ∈ l, (!(decide (p.1 ∈ T ++ [p0.1]) && d p.1 p.2)) = ((!(decide (p.1 ∈ T) && d p.1 p.2)) && !(decide (p.1 = p0.1) && d p.1 p.2)) := fun p hp => by
      by_cases h1 : p.1 ∈ T
      · cases d p.1 p.2 <;> simp [h1]
      · by_cases h2 : p.1 = p0.1
        · cases d p.1 p.2 <;> simp [h1, h2]
        · cases d p.1 p.2 <;> simp [h1, h2]
    have mg3 : Mod (fun b => b = m ∨ h.size ≤ b) h g3 := mg2.extIn e3
    have uniq : ∀ p ∈ l, p.1 = p0.1 → p = p0 := fun p hp he => by
      have h1 := (look2_some hnd).2 hp
      have h2 := (look2_some hnd).2 hmem
      rw [he, h2] at h1
      exact Prod.ext he (Option.some.inj h1).symm
    cases hd : d p0.1 p0.2 with
    | false =>
      simp (disch := omega)
      refine hX l' (T ++ [p0.1]) g3 it3 ⟨?_, mg3⟩ hlen
      rw [List.filter_congr hfil]
      conv => lhs; rw [hl']
      apply List.filter_congr
      intro p hp
      by_cases h2 : p.1 = p0.1
      · rw [uniq p hp h2, hd]; simp
      · simp [h2]
    | true =>
      simp (disch := omega)
      refine Hp_deleteD blKey it3 fun g4 it4 m4 => ?_
      refine hX (del p0.1 l') (T ++ [p0.1]) g4 it4 ⟨?_, mg3.trans m4 (fun b _ e => .inl e)⟩ (Nat.lt_of_le_of_lt leftD_del hlen)
      rw [filter_del (p := fun _ _ => true) it3.map.nodup hmem']
      conv => lhs; rw [hl']
      rw [List.filter_congr hfil, List.filter_filter]
      apply List.filter_congr
      intro p hp
      by_cases h2 : p.1 = p0.1
      · rw [uniq p hp h2, hd]; simp
      · simp [h2]
  · simp (disch := omega)
    have e : l.filter (fun p => !d p.1 p.2) = l' := by
      rw [hl']
      apply List.filter_congr
      intro p hp
      by_cases h1 : p.1 ∈ T
      · simp [h1]
      · by_cases h2 : d p.1 p.2 = true
        · exfalso
          have hp' : p ∈ l' := by rw [hl', List.mem_filter]; exact ⟨hp, by simp [h1]⟩
          exact h1 (hall p hp')
        · simp [h2]
    rw [← e] at it
    refine H g it.map (⟨mg.size, fun b hb hn => mg.block b hb (fun e => e.elim hn (by omega))⟩)
/-- Who is told goes. -/
theorem delC_c {m : Nat} {l : List (Int × Value)} {f : Value} {d : Int → Value → Bool} (hm : MapK ik h m l) (hl : l.length < 1000000)
    (hf : ∀ p ∈ l, ∀ (g : Heap) (K : Value → Heap → Prop), Mod (fun b => b = m ∨ h.size ≤ b) h g → (∀ g', Ext g g' → K (.bool (d p.1 p.2)) g') → InvokeH Tryz.prog f #[ik p.1, p.2] g K ⟨⟩)
    (H : ∀ h', MapK ik h' m (l.filter (fun p => !d p.1 p.2)) → Mod (· = m) h h' → K (.tuple #[]) h') : CallsH Tryz.prog 80 #[.map (some m), f] h K ⟨⟩ := by
  refine n80_calls ?_
  unfold n80
  refine Hp_rangeD (by kernel_rfl) hm fun h1 e1 i1 z1 => ?_
  have hml := hm.lt
  have hnd := hm.nodup
  refine loopMapD (fun l' T g => l' = l.filter (fun p => !(decide (p.1 ∈ T) && d p.1 p.2)) ∧ Mod (fun b => b = m ∨ h.size ≤ b) h g) i1 ⟨by rw [List.filter_eq_self.2]; intro p hp; simp, .of_ext e1⟩ ?_
  rintro l' T g it ⟨hl', mg⟩ X hX
  refine Hp_nextD ik_inj it (fun i hi hiT g2 m2 it2 => ?_) (fun hall => ?_)
  · have hmem' : l'[i] ∈ l' := List.getElem_mem hi
    have hmem : l'[i] ∈ l := by
      have h3 : l'[i] ∈ l.filter (fun p => !(decide (p.1 ∈ T) && d p.1 p.2)) := by rw [← hl']; exact hmem'
      exact (List.mem_filter.1 h3).1
    have mg2 : Mod (fun b => b = m ∨ h.size ≤ b) h g2 := mg.trans m2 (fun b hb e => by have e' : b = h.size := e; omega)
    simp (disch := omega)
    refine JoinN.mk ?_
    rw [Hp_entryD it2 hi rfl]
    simp (disch := omega)
    obtain ⟨p0, hp0⟩ : ∃ p0, p0 = l'[i] := ⟨_, rfl⟩
    rw [← hp0] at hmem hmem' hiT it2 ⊢
    refine hf p0 hmem g2 _ mg2 fun g3 e3 => ?_
    have it3 := it2.ext e3
    have hlen : leftD l' (T ++ [p0.1]) < leftD l' T := leftD_next hmem' hiT
    have hfil : ∀ p ∈ l, (!(decide (p.1 ∈ T ++ [p0.1]) && d p.1 p.2)) = ((!(decide (p.1 ∈ T) && d p.1 p.2)) && !(decide (p.1 = p0.1) && d p.1 p.2)) := fun p hp => by
      by_cases h1 : p.1 ∈ T
      · cases d p.1 p.2 <;> simp [h1]
      · by_cases h2 : p.1 = p0.1
        · cases d p.1 p.2 <;> simp [h1, h2]
        · cases d p.1 p.2 <;> simp [h1, h2]
    have mg3 : Mod (fun b => b = m ∨ h.size ≤ b) h g3 := mg2.extIn e3
    have uniq : ∀ p ∈ l, p.1 = p0.1 → p = p0 := fun p hp he => by
      have h1 := (look2_some hnd).2 hp
      have h2 := (look2_some hnd).2 hmem
      rw [he, h2] at h1
      exact Prod.ext he (Option.some.inj h1).symm
    cases hd : d p0.1 p0.2 with
    | false =>
      simp (disch := omega)
      refine hX l' (T ++ [p0.1]) g3 it3 ⟨?_, mg3⟩ hlen
      rw [List.filter_congr hfil]
      conv => lhs; rw [hl']
      apply List.filter_congr
      intro p hp
      by_cases h2 : p.1 = p0.1
      · rw [uniq p hp h2, hd]; simp
      · simp [h2]
    | true =>
      simp (disch := omega)
      refine Hp_deleteD clKey it3 fun g4 it4 m4 => ?_
      refine hX (del p0.1 l') (T ++ [p0.1]) g4 it4 ⟨?_, mg3.trans m4 (fun b _ e => .inl e)⟩ (Nat.lt_of_le_of_lt leftD_del hlen)
      rw [filter_del (p := fun _ _ => true) it3.map.nodup hmem']
      conv => lhs; rw [hl']
      rw [List.filter_congr hfil, List.filter_filter]
      apply List.filter_congr
      intro p hp
      by_cases h2 : p.1 = p0.1
      · rw [uniq p hp h2, hd]; simp
      · simp [h2]
  · simp (disch := omega)
    have e : l.filter (fun p => !d p.1 p.2) = l' := by
      rw [hl']
      apply List.filter_congr
      intro p hp
      by_cases h1 : p.1 ∈ T
      · simp [h1]
      · by_cases h2 : d p.1 p.2 = true
        · exfalso
          have hp' : p ∈ l' := by rw [hl', List.mem_filter]; exact ⟨hp, by simp [h1]⟩
          exact h1 (hall p hp')
        · simp [h2]
    rw [← e] at it
    refine H g it.map (⟨mg.size, fun b hb hn => mg.block b hb (fun e => e.elim hn (by omega))⟩)
end Go.Proofs.YtoonjlhfgjnnmaaGreat
set_option linter.unusedSimpArgs false
set_option linter.unusedVariables false
namespace Go.Proofs.YtoonjlhfgjnnmaaGreat
open Go.Vc
variable {K : Value → Heap → Prop} {h : Heap}

theorem trim0_c {x : Im} (ax : ImAt h x) (hB : x.B = []) (H : ∀ h', Ext h h' → K (.tuple #[]) h') : CallsH Tryz.prog 38 #[ptrV x.b] h K ⟨⟩ := by
  refine n38_calls ?_
  unfold n38 ptrV
  obtain ⟨sa, sc, hsv⟩ := ax.noBm hB
  have cc := ax.cells
  rw [hsv] at cc
  have hxb : ¬ x.b = h.size := by have := get_some_lt cc; omega
  have c6 := cellOf (i := 6) cc rfl
  simp (disch := omega) [c6, hxb]
  refine loop_once fun X => ?_
  simp (disch := omega)
  exact H _ (by repeat' (first | (with_reducible exact Ext.refl _) | (with_reducible assumption) | (with_reducible refine push_ext ?_) | (with_reducible refine hset_ext ?_ ?_) | (with_reducible refine Ext.trans ?_ (by assumption)) | omega | (simp; done) | (simp; omega) | (refine Ext.size ?_) | (refine Nat.le_succ_of_le (Ext.size ?_))))
set_option maxHeartbeats 1000000 in
theorem trim1_c {x : Im} {y : Bm} {W : Nat} (ax : ImAt h x) (hB : x.B = [y]) (hW : 2 ^ y.gran = W) (hg : y.gran ≤ 26) (hD : ∀ p ∈ y.D, 0 ≤ p.1 ∧ p.1 * (W : Int) < (x.n : Int) * 512) (hf : y.D.length < 1000000)
    (H : ∀ h', MapK ik h' y.m y.D → Mod (· = y.m) h h' → K (.tuple #[]) h') : CallsH Tryz.prog 38 #[ptrV x.b] h K ⟨⟩ := by
  refine n38_calls ?_
  unfold n38 ptrV
  obtain ⟨b, sc, hsv, hsc, s0, s1, s2, s3⟩ := ax.oneBm hB
  have cc := ax.cells
  rw [hsv] at cc
  obtain ⟨N, hN⟩ : ∃ N, N = x.n * 512 := ⟨_, rfl⟩
  have hNb : N ≤ 67108864 := by have := ax.n; omega
  rw [← hN] at cc
  have c6 := cellOf (i := 6) cc rfl
  have hmp := ax.bmd y (by rw [hB]; simp)
  have hxl := get_some_lt cc
  have hxb : ¬ x.b = h.size := by omega
  have hbl : b < h.size := by
    obtain ⟨arr, ha⟩ := ax.bm.tag (by rw [hsv]; rfl : blkV x.bv = some b)
    exact get_some_lt ha
  have hbb : ¬ b = h.size := by omega
  have hyl := hmp.lt
  have hym : ¬ x.b = y.m := fun e => by
    obtain ⟨es, cl, h1, _⟩ := hmp
    rw [← e, cc] at h1
    cases h1
  have hWp : 0 < W := by rw [← hW]; exact Nat.pow_pos (by decide)
  have hWl : W ≤ 67108864 := by rw [← hW]; exact Nat.le_trans (Nat.pow_le_pow_right (by decide) hg) (by decide)
  simp (disch := omega) [c6, hxb]
  refine loopX1 (α := Bool) (fun i => .int .i64 (if i then 1 else 0)) (fun i g => (i = false → hcell g ⟨h.size, 0, none⟩ = some (ptrV x.b) ∧ h.size < g.size ∧ Ext h g) ∧ (i = true → MapK ik g y.m y.D ∧ Mod (· = y.m) h g)) (fun i => if i then 0 else 1) false rfl ⟨fun _ => ⟨by simp [ptrV], by simp, (by repeat' (first | (with_reducible exact Ext.refl _) | (with_reducible assumption) | (with_reducible refine push_ext ?_) | (with_reducible refine hset_ext ?_ ?_) | (with_reducible refine Ext.trans ?_ (by assumption)) | omega | (simp; done) | (simp; omega) | (refine Ext.size ?_) | (refine Nat.le_succ_of_le (Ext.size ?_))))⟩, fun e => (by cases e)⟩ ?_
  rintro i g ⟨hF, ht⟩ X hX
  cases i with
  | true =>
    obtain ⟨d1, d3⟩ := ht rfl
    simp (disch := omega)
    exact H g d1 d3
  | false =>
    obtain ⟨k0, hgl, eg⟩ := hF rfl
    have hbg : ¬ b = g.size := by omega
    have s0' := hcell_ext eg s0
    have s1' := hcell_ext eg s1
    have s2' := hcell_ext eg s2
    have s3' := hcell_ext eg s3
    have ccg := (eg.block _ hxl).trans cc
    have c2 := cellOf (i := 2) ccg rfl
    simp (disch := omega) [s0', s1', s2', s3', hbg]
    refine (⟨_, rfl⟩ : ∃ f, f = (hset (hset (hset (hset (Array.push g (.cells #[str [], .int .i64 0, .bool false, .map none] 75)) ⟨g.size, 0, none⟩ (str y.nm)) ⟨g.size, 1, none⟩ (.int .i64 y.gran)) ⟨g.size, 2, none⟩ (.bool y.en)) ⟨g.size, 3, none⟩ (.map (some y.m)))).elim fun G eG => ?_
    have eg2 : Ext g G := by rw [eG]; exact (by repeat' (first | (with_reducible exact Ext.refl _) | (with_reducible assumption) | (with_reducible refine push_ext ?_) | (with_reducible refine hset_ext ?_ ?_) | (with_reducible refine Ext.trans ?_ (by assumption)) | omega | (simp; done) | (simp; omega) | (refine Ext.size ?_) | (refine Nat.le_succ_of_le (Ext.size ?_))))
    have q1 : hcell G ⟨g.size, 1, none⟩ = some (.int .i64 y.gran) := by rw [eG]; simp
    have hGl : g.size < G.size := by rw [eG]; simp
    have q0 := hcell_ext eg2 k0
    have q2 := hcell_ext eg2 c2
    rw [← eG]
    clear eG
    have eG := eg.trans eg2
    refine delB_c (l := y.D) (d := fun _ _ => false) (hmp.ext eG) hf (fun p hp g1 K1 m1 hk => ?_) fun h5 mp5 m5 => ?_
    · refine InvokeH_func (by kernel_rfl) ?_
      show CallsH Tryz.prog 70 #[ik p.1, p.2, .pointer (some ⟨g.size, 0, none⟩), .pointer (some ⟨h.size, 0, none⟩)] g1 K1 ⟨⟩
      refine n70_calls ?_
      unfold n70
      have r1 : hcell g1 ⟨g.size, 1, none⟩ = some (.int .i64 y.gran) := by rw [m1.cell (a := ⟨g.size, 1, none⟩) hGl (fun e => by rcases e with e | e <;> simp at e <;> omega)]; exact q1
      have r0 : hcell g1 ⟨h.size, 0, none⟩ = some (ptrV x.b) := by rw [m1.cell (a := ⟨h.size, 0, none⟩) (by show h.size < G.size; omega) (fun e => by rcases e with e | e <;> simp at e <;> omega)]; exact q0
      have r2 : hcell g1 ⟨x.b, 2, none⟩ = some (.int .i64 N) := by rw [m1.cell (a := ⟨x.b, 2, none⟩) (by show x.b < G.size; omega) (fun e => by rcases e with e | e <;> simp at e <;> omega)]; exact q2
      obtain ⟨h1, h2⟩ := hD p hp
      obtain ⟨gn, hgn⟩ := Int.eq_ofNat_of_zero_le h1
      obtain ⟨PW, hPW⟩ : ∃ PW : Nat, (gn : Int) * (W : Int) = PW := ⟨gn * W, by rw [Int.natCast_mul]⟩
      rw [hgn, hPW] at h2
      have hs1 := fun (q : Bool) (tt : Nat) (o1 o2 : Go.Operand) (g : Heap) (K : Value → Heap → Prop) => Hp_shlW (P := Tryz.prog) (q := q) (t := tt) (x := o1) (y := o2) (k' := .i64) (K := K) (h := g) (a := (gn : Int)) hW (by omega) (by omega) (by rw [hPW]; omega)
      unfold ptrV at r0
      rw [show ik p.1 = .int .i64 gn by rw [hgn]]
      simp (disch := omega) [r1, r0, r2, hs1, hPW]
      exact hk g1 (.refl _)
    · simp (disch := omega)
      refine hX true (.int .i64 1) h5 rfl ⟨fun e => (by cases e), fun _ => ⟨?_, (Mod.of_ext eG).trans m5 (fun _ _ e => e)⟩⟩ (by decide)
      have ef : y.D.filter (fun _ => !false) = y.D := List.filter_eq_self.2 (fun _ _ => rfl)
      rw [ef] at mp5
      exact mp5
/-- As it was. -/
def Im.asWas (x : Im) (s : Sn) (m : Nat) : Im := { x with n := s.n, m := m, F := s.F, G := s.G }
set_option maxHeartbeats 1000000 in
/-- An image is as it was; what follows (trim, touch) is left to whom calls. -/
theorem Apply_c {w wm : Nat} {xs : List Im} {x : Im} {s : Sn} {nm as_ : List UInt8} (a : WdAt h w wm xs) (hn : OkN nm) (en : x.nm = nm) (hx : findI nm xs = some x) (ha : OkN as_) (hS : x.S = [s]) (es : s.nm = as_) (hsn : s.n ≤ 131072) (hab : ∀ y ∈ xs, y.bk ≠ nm)
    (H : ∀ h' m', h.size ≤ m' → WdAt h' w wm (setI (x.asWas s m') xs) → Mod (· = x.b) h h' → ∀ K1 : Value → Heap → Prop, (∀ v h5, hcell h5 ⟨x.b, 2, none⟩ = some (.int .i64 ((s.n * 512 : Nat) : Int)) → CallsH Tryz.prog 36 #[ptrV x.b, .int .i64 0, .int .i64 s.n] h5 (fun _ h6 => K (.int .i64 0) h6) ⟨⟩ → K1 v h5) → CallsH Tryz.prog 38 #[ptrV x.b] h' K1 ⟨⟩) :
    CallsH Tryz.prog 13 #[ptrV w, str nm, str as_] h K ⟨⟩ := by
  subst en
  subst es
  refine n13_calls ?_
  unfold n13
  simp (disch := omega)
  have e1 : Ext h (h.push (.cells #[str s.nm] 9)) := (by repeat' (first | (with_reducible exact Ext.refl _) | (with_reducible assumption) | (with_reducible refine push_ext ?_) | (with_reducible refine hset_ext ?_ ?_) | (with_reducible refine Ext.trans ?_ (by assumption)) | omega | (simp; done) | (simp; omega) | (refine Ext.size ?_) | (refine Nat.le_succ_of_le (Ext.size ?_))))
  refine named_c ha (get_pushed rfl) fun h1 e1' => ?_
  have E1 := e1.trans e1'
  refine which_c (a.ext E1) hn fun h2 e2 => ?_
  rw [hx]
  have E2 := E1.trans e2
  have hxm := (findI_mem hx).1
  unfold ptrV
  simp (disch := omega)
  rw [show (.pointer (some ⟨x.b, 0, none⟩) : Value) = ptrV x.b from rfl]
  refine snap1_c ((a.ext E2).im x hxm) hS fun h3 e3 => ?_
  have E3 := E2.trans e3
  simp (disch := omega)
  refine above_c (a.ext E3) hxm fun h4 n e4 hn4 hz => ?_
  obtain rfl : n = 0 := hz.2 hab
  have E4 := E3.trans e4
  have ax4 := (a.ext E4).im x hxm
  obtain ⟨b, sc, hsv, hsc, s0, s1, s2⟩ := ax4.oneSnap hS
  obtain ⟨N, hN⟩ : ∃ N, N = s.n * 512 := ⟨_, rfl⟩
  have hNb : N ≤ 67108864 := by omega
  have hNd : (N : Int) / 512 = (s.n : Int) := by omega
  rw [← hN] at s1 H
  have cc := ax4.cells
  rw [hsv] at cc
  have c5 := cellOf (i := 5) cc rfl
  unfold ptrV
  simp (disch := omega) [c5, s0, s1, s2]
  have mps := ax4.snc s (by rw [hS]; simp)
  refine cloneM_c mps.map fun h5 m' mp5 e5 f5 => ?_
  have E5 := E4.trans e5
  have ax5 := (a.ext E5).im x hxm
  have dd := ax5.cells
  have dd' := dd
  rw [hsv] at dd
  have d5 := cellOf (i := 5) dd rfl
  have d2 := cellOf (i := 2) dd rfl
  have d4 := cellOf (i := 4) dd rfl
  have g2 := frzOf (i := 2) dd
  have g4 := frzOf (i := 4) dd
  have s1' := hcell_ext e5 s1
  simp (disch := omega) [d5, s1', d2, d4, g2, g4]
  have o1 := obj_set (i := 2) (v := .int .i64 (N : Int)) dd'
  have o2 := obj_set (i := 4) (v := .map (some m')) o1
  have m7 : Mod (· = x.b) h5 (hset (hset h5 ⟨x.b, 2, none⟩ (.int .i64 N)) ⟨x.b, 4, none⟩ (.map (some m'))) := Mod.setIn (Mod.setIn (Mod.refl (· = x.b) h5) (.inl rfl)) (.inl rfl)
  have M : Mod (· = x.b) h (hset (hset h5 ⟨x.b, 2, none⟩ (.int .i64 N)) ⟨x.b, 4, none⟩ (.map (some m'))) := (Mod.of_ext E5).trans m7 (fun _ _ e => e)
  have hfm : h.size ≤ m' := by have := E4.size; omega
  have nb : ∀ {mm : Nat} {F : List (Int × Value)} {G : Int → List UInt8}, ClAt h5 mm x.cs F G x.Z → ClAt (hset (hset h5 ⟨x.b, 2, none⟩ (.int .i64 N)) ⟨x.b, 4, none⟩ (.map (some m'))) mm x.cs F G x.Z := fun c => foot_modB ax5 m7 (fun b e => .inl e) c
  have ax := a.im x hxm
  have hw : Wl (setI (x.asWas s m') xs) := a.wl.set (show findI x.nm xs = some x from hx) rfl
  refine H _ m' hfm (a.upd hx rfl rfl hw M (fun b _ e => .inl e) ⟨?_, ?_, hsn, ax5.bits, ax5.cs, ?_, fun s' hs' => nb (ax5.snc s' hs'), ?_, fun y hy => ?_, ?_, ?_, ?_⟩ (fun b hb => ?_)) M _ (fun v h8 hc8 ht => ?_)
  · show (hset (hset h5 ⟨x.b, 2, none⟩ (.int .i64 N)) ⟨x.b, 4, none⟩ (.map (some m')))[x.b]? = some (.cells #[str x.nm, str x.bk, .int .i64 ((s.n * 512 : Nat) : Int), .int .i64 x.bits, .map (some m'), x.sv, x.bv] imT)
    rw [o2, hN]; rfl
  · have := (ax5.snc s (by rw [hS]; simp))
    exact nb ⟨mp5, this.byt, this.out⟩
  · exact ax5.sn.mod m7 (fun b hb e => ax5.sn.ne hb ax5.cells (by decide) e)
  · exact ax5.bm.mod m7 (fun b hb e => ax5.bm.ne hb ax5.cells (by decide) e)
  · refine (ax5.bmd y hy).mod m7 (fun e => ?_)
    obtain ⟨es, cl, h1, _⟩ := ax5.bmd y hy
    have e' : y.m = x.b := e
    rw [e', ax5.cells] at h1
    cases h1
  · show ¬ m' = x.b
    have := get_some_lt ax.cells
    omega
  · have hb := ax.bnd
    simp only [List.nodup_cons] at hb
    show (m' :: (x.S.map (·.m) ++ x.B.map (·.m))).Nodup
    rw [List.nodup_cons]
    refine ⟨fun e => ?_, hb.2⟩
    rcases List.mem_append.1 e with e | e
    · obtain ⟨y, hy, e⟩ := List.mem_map.1 e
      have := (ax.snc y hy).map.lt; omega
    · obtain ⟨y, hy, e⟩ := List.mem_map.1 e
      have := (ax.bmd y hy).lt; omega
  · intro b hb
    exact Nat.lt_of_lt_of_le (ax.zlt b hb) M.size
  · rcases hb with hb | hb | hb | hb | hb | hb
    · exact .inl (.inl hb)
    · exact .inr (by rw [hb]; exact hfm)
    · exact .inl (.inr (.inr (.inl hb)))
    · exact .inl (.inr (.inr (.inr (.inl hb))))
    · exact .inl (.inr (.inr (.inr (.inr (.inl hb)))))
    · exact .inl (.inr (.inr (.inr (.inr (.inr hb)))))
  · simp (disch := omega) [hc8, hNd]
    exact ht
end Go.Proofs.YtoonjlhfgjnnmaaGreat
set_option linter.unusedSimpArgs false
set_option linter.unusedVariables false
namespace Go.Proofs.YtoonjlhfgjnnmaaGreat
open Go.Vc
variable {K : Value → Heap → Prop} {h : Heap}

def piT : Nat := 40
def psT : Nat := 110
def pbT : Nat := 46
/-- What is told of bitmaps. -/
def BmOut (x : Im) (h : Heap) (bv : Value) : Prop := ∀ y, x.B = [y] → ∃ bb c gs arr, ∃ L : List Int, bv = .slice (some ⟨bb, 0, none⟩) 1 c ∧ h[bb]? = some (.cells arr pbT) ∧ arr[3]? = some gs ∧ OwnT i6T 1 h gs (L.map (.int .i64)) ∧ L.Perm (y.D.map (·.1))
theorem BmOut.mod {x : Im} {bv : Value} {S : Nat → Prop} {h' : Heap} (a : BmOut x h bv) (m : Mod S h h') (hS : ∀ b arr, h[b]? = some (.cells arr pbT) ∨ h[b]? = some (.cells arr i6T) → ¬ S b) : BmOut x h' bv := fun y hy => by
  obtain ⟨bb, c, gs, arr, L, h1, h2, h3, h4, h5⟩ := a y hy
  exact ⟨bb, c, gs, arr, L, h1, (m.block _ (get_some_lt h2) (hS _ _ (.inl h2))).trans h2, h3, h4.mod m (fun b hb e => by obtain ⟨arr', ha⟩ := h4.tag hb; exact hS _ _ (.inr ha) e), h5⟩
theorem BmOut.ext {x : Im} {bv : Value} {h' : Heap} (a : BmOut x h bv) (e : Ext h h') : BmOut x h' bv := a.mod (S := fun _ => False) (.of_ext e) (fun _ _ _ x => x)
theorem OwnT.arr {e s b n c : Nat} {vs : List Value} (o : OwnT e s h (.slice (some ⟨b, 0, none⟩) n c) vs) : ∃ rest, h[b]? = some (.cells (vs ++ rest).toArray e) := by
  rcases o with ⟨hv, -⟩ | ⟨b', n', c', rest, hv, h1, h2, h3, h4⟩
  · cases hv
  · cases hv
    exact ⟨rest, h3⟩
set_option maxHeartbeats 2000000 in
theorem info_c {x : Im} (ax : ImAt h x) (hS : x.S = [] ∨ ∃ s, x.S = [s]) (hB : x.B = [] ∨ ∃ y, x.B = [y] ∧ y.D.length < 100000) (H : ∀ h' sv bv, Ext h h' → BmOut x h' bv → (∃ a1 n1 c1 a2 n2 c2, sv = .slice a1 n1 c1 ∧ bv = .slice a2 n2 c2) → K (piV x sv bv) h') : CallsH Tryz.prog 39 #[ptrV x.b] h K ⟨⟩ := by
  refine n39_calls ?_
  unfold n39 ptrV
  obtain ⟨N, hN⟩ : ∃ N, N = x.n * 512 := ⟨_, rfl⟩
  have cc := ax.cells
  rw [← hN] at cc
  unfold piV at H
  rw [← hN] at H
  have c0 := cellOf (i := 0) cc rfl
  have c1 := cellOf (i := 1) cc rfl
  have c2 := cellOf (i := 2) cc rfl
  have c3 := cellOf (i := 3) cc rfl
  have hxb : ¬ x.b = h.size := by have := get_some_lt cc; omega
  have hxb2 : ¬ x.b = h.size + 1 := by have := get_some_lt cc; omega
  have hxb3 : ¬ h.size + 1 = x.b := by omega
  have hxb4 : ¬ h.size = x.b := by omega
  have c5 := cellOf (i := 5) cc rfl
  have c6 := cellOf (i := 6) cc rfl
  have zs : ∀ g : Heap, ((g.push (.cells #[str [], str [], .int .i64 0, .int .i64 0, .slice none 0 0, .slice none 0 0] piT)).push (.cells #[str [], str [], .int .i64 0, .int .i64 0, .slice none 0 0, .slice none 0 0] piT))[g.size + 1]? = some (.cells #[str [], str [], .int .i64 0, .int .i64 0, .slice none 0 0, .slice none 0 0] piT) := fun g => get_pushed (by simp)
  have q1 := obj_set (i := 5) (v := .slice none 0 0) (obj_set (i := 4) (v := .slice none 0 0) (obj_set (i := 3) (v := .int .i64 x.bits) (obj_set (i := 2) (v := .int .i64 N) (obj_set (i := 1) (v := str x.bk) (obj_set (i := 0) (v := str x.nm) (zs h))))))
  have q0 : ∀ g : Heap, ((g.push (.cells #[str [], str [], .int .i64 0, .int .i64 0, .slice none 0 0, .slice none 0 0] piT)).push (.cells #[str [], str [], .int .i64 0, .int .i64 0, .slice none 0 0, .slice none 0 0] piT))[g.size]? = some (.cells #[str [], str [], .int .i64 0, .int .i64 0, .slice none 0 0, .slice none 0 0] piT) := fun g => by rw [get_push (by simp)]; exact get_pushed rfl
  obtain ⟨sa, sn, sc, hsv, hsn', -, -⟩ := ax.sn.form (by omega)
  have hsnl : sn = x.S.length := by
    have : (x.S.flatMap snC).length = x.S.length * 3 := by rcases hS with h | ⟨s, h⟩ <;> rw [h] <;> simp [snC]
    omega
  obtain ⟨va, vn, vc, hbv, hvn', -, -⟩ := ax.bm.form (by omega)
  have hvnl : vn = x.B.length := by
    have : (x.B.flatMap bmC).length = x.B.length * 4 := by rcases hB with h | ⟨s, h, -⟩ <;> rw [h] <;> simp [bmC]
    omega
  rw [hsv] at c5
  rw [hbv] at c6
  simp (disch := omega) [c0, c1, c2, c3, c5, hxb, hxb2, hxb3, hxb4]
  refine loopX1 (α := Nat × Value) (fun a => .int .i64 a.1) (fun a g => a.1 ≤ x.S.length ∧ Ext h g ∧ g[h.size]? = some (.cells #[str [], str [], .int .i64 0, .int .i64 0, .slice none 0 0, .slice none 0 0] piT) ∧ g[h.size + 1]? = some (.cells #[str x.nm, str x.bk, .int .i64 N, .int .i64 x.bits, a.2, .slice none 0 0] piT) ∧ (∃ vs, vs.length = a.1 * 2 ∧ OwnT psT 2 g a.2 vs) ∧ (∀ b, blkV a.2 = some b → h.size + 2 ≤ b)) (fun a => x.S.length - a.1) (0, .slice none 0 0) rfl ⟨by simp, (by repeat' (first | (with_reducible exact Ext.refl _) | (with_reducible assumption) | (with_reducible refine push_ext ?_) | (with_reducible refine hset_ext ?_ ?_) | (with_reducible refine Ext.trans ?_ (by assumption)) | omega | (simp; done) | (simp; omega) | (refine Ext.size ?_) | (refine Nat.le_succ_of_le (Ext.size ?_)))), ?_, ?_, ⟨[], rfl, .nil⟩, fun b hb => by cases hb⟩ ?_
  · have hq := q0 h
    refine (get_hset' (by simp)).trans ((get_hset' (by simp)).trans ((get_hset' (by simp)).trans ((get_hset' (by simp)).trans ((get_hset' (by simp)).trans ((get_hset' (by simp)).trans hq)))))
  · exact q1
  rintro ⟨i, v⟩ g ⟨hi, eg, g0, g1, ⟨vs, hvl, ov⟩, fv⟩ X hX
  dsimp only at hi g1 hvl ov fv hX ⊢
  have hgl : h.size + 1 < g.size := get_some_lt g1
  have d4 := cellOf (i := 4) g1 rfl
  have z4 := frzOf (i := 4) g1
  by_cases hin : i < x.S.length
  · obtain ⟨s, hs⟩ : ∃ s, x.S = [s] := hS.resolve_left (fun e => by rw [e] at hin; simp at hin)
    obtain ⟨b, sc', hsv', hsc, s0, s1, s2⟩ := ax.oneSnap hs
    have hsl : x.S.length = 1 := by rw [hs]; rfl
    have hsn1 : sn = 1 := by omega
    obtain rfl : i = 0 := by omega
    rw [hsv] at hsv'
    injection hsv' with hsa
    subst hsa
    subst hsn1
    obtain ⟨Ns, hNs⟩ : ∃ Ns, Ns = s.n * 512 := ⟨_, rfl⟩
    rw [← hNs] at s1
    have t0 := hcell_ext eg s0
    have t1 := hcell_ext eg s1
    have t2 := hcell_ext eg s2
    have hbl : ¬ b = g.size := by
      obtain ⟨arr, ha⟩ := ax.sn.tag (by rw [hsv]; rfl : blkV x.sv = some b)
      have := get_some_lt ha
      have := eg.size
      omega
    have hh1 : ¬ h.size + 1 = g.size := by omega
    obtain rfl : vs = [] := by simpa using hvl
    obtain ⟨wa, wn, wc, rfl, hwn, -, -⟩ := ov.form (by omega)
    obtain rfl : wn = 0 := by simp at hwn; omega
    simp (disch := omega) [t0, t1, t2, hbl, d4, hh1]
    refine (⟨_, rfl⟩ : ∃ f, f = ((hset (hset (hset (Array.push g (.cells #[str [], .int .i64 0, .map none] 78)) ⟨g.size, 0, none⟩ (str s.nm)) ⟨g.size, 1, none⟩ (.int .i64 Ns)) ⟨g.size, 2, none⟩ (.map (some s.m))).push (.cells #[str s.nm, .int .i64 Ns] 110))).elim fun G eG => ?_
    have e2 : Ext g G := by rw [eG]; exact (by repeat' (first | (with_reducible exact Ext.refl _) | (with_reducible assumption) | (with_reducible refine push_ext ?_) | (with_reducible refine hset_ext ?_ ?_) | (with_reducible refine Ext.trans ?_ (by assumption)) | omega | (simp; done) | (simp; omega) | (refine Ext.size ?_) | (refine Nat.le_succ_of_le (Ext.size ?_))))
    have hsrc : Src 2 G (.slice (some ⟨g.size + 1, 0, none⟩) 1 1) 1 [str s.nm, .int .i64 Ns] := by
      rw [eG]
      have := Src_new (h := hset (hset (hset (Array.push g (.cells #[str [], .int .i64 0, .map none] 78)) ⟨g.size, 0, none⟩ (str s.nm)) ⟨g.size, 1, none⟩ (.int .i64 Ns)) ⟨g.size, 2, none⟩ (.map (some s.m))) (vs := [str s.nm, .int .i64 (Ns : Int)]) (e := 110) (s := 2) (n := 1) rfl
      rw [hset_size, hset_size, hset_size, Array.size_push] at this
      exact this
    rw [← eG]
    clear eG
    have E2 := eg.trans e2
    have oG := ov.ext e2
    refine Hp_appendT (e := psT) (s := 2) (by_ := 24) (n := 0) (k := 1) (news := [str s.nm, .int .i64 Ns]) (by kernel_rfl) (by kernel_rfl) oG rfl (by omega) hsrc (by simp [one, str]) (by omega) (by omega) fun v' h6 o6 m6 f6 ne6 => ?_
    have gG0 := (e2.block _ (by omega)).trans g0
    have gG1 := (e2.block _ (by omega)).trans g1
    have nb : ∀ b, blkV (.slice wa 0 wc) = some b → h.size + 2 ≤ b := fv
    have g60 := (m6.block _ (get_some_lt gG0) (fun e => by have := nb _ e; omega)).trans gG0
    have g61 := (m6.block _ (get_some_lt gG1) (fun e => by have := nb _ e; omega)).trans gG1
    obtain ⟨vb, vc', hv'⟩ := ne6 (by simp)
    subst hv'
    have k4 := cellOf (i := 4) g61 rfl
    have fz4 := frzOf (i := 4) g61
    have E6 : Ext h h6 := m6.ext_from E2 (fun b hb e => by have := nb _ e; omega)
    simp (disch := omega) [k4, fz4]
    have hvb : ∀ b, blkV (Value.slice (some ⟨vb, 0, none⟩) (0 + 1) vc') = some b → h.size + 2 ≤ b := fun b hb => (f6 b hb).elim (nb b) (fun e => by have := e2.size; omega)
    have hvb' := hvb vb rfl
    refine hX (1, .slice (some ⟨vb, 0, none⟩) 1 vc') _ _ (by simp) ⟨by dsimp only; omega, hset_ext E6 (by simp), (get_hset' (by simp)).trans g60, obj_set g61, ⟨[str s.nm, .int .i64 Ns], rfl, ?_⟩, hvb⟩ (by dsimp only; omega)
    exact OwnT.mod o6 (Mod.set _ _ _) (fun b hb e => by have := hvb b hb; have e' : b = h.size + 1 := e; omega)
  · obtain rfl : i = x.S.length := by omega
    have c6' := hcell_ext eg c6
    obtain ⟨pa, pn, pc, rfl, -, -, -⟩ := ov.form (by omega)
    simp (disch := omega) [c6', hsnl]
    refine loopX1 (α := Nat × Value) (fun a => .int .i64 a.1) (fun a g => a.1 ≤ x.B.length ∧ Ext h g ∧ g[h.size]? = some (.cells #[str [], str [], .int .i64 0, .int .i64 0, .slice none 0 0, .slice none 0 0] piT) ∧ g[h.size + 1]? = some (.cells #[str x.nm, str x.bk, .int .i64 N, .int .i64 x.bits, .slice pa pn pc, a.2] piT) ∧ (∃ ua un uc, a.2 = .slice ua un uc) ∧ (a.1 = x.B.length → BmOut x g a.2) ∧ (a.1 = 0 → a.2 = .slice none 0 0)) (fun a => x.B.length - a.1) (0, .slice none 0 0) rfl ⟨by simp, eg, g0, g1, ⟨_, _, _, rfl⟩, fun e y hy => by rw [hy] at e; simp at e, fun _ => rfl⟩ ?_
    clear g0 g1 d4 z4 hgl hX eg c6' hi ov
    rintro ⟨i, u⟩ g ⟨hi, eg, g0, g1, hus, hout, hu0⟩ X hX
    dsimp only at hi g1 hus hout hu0 hX ⊢
    have hgl : h.size + 1 < g.size := get_some_lt g1
    by_cases hin : i < x.B.length
    · obtain ⟨y, hy, hyl⟩ : ∃ y, x.B = [y] ∧ y.D.length < 100000 := hB.resolve_left (fun e => by rw [e] at hin; simp at hin)
      obtain ⟨b, sc', hsv', hsc, s0, s1, s2, s3⟩ := ax.oneBm hy
      have hsl : x.B.length = 1 := by rw [hy]; rfl
      have hsn1 : vn = 1 := by omega
      obtain rfl : i = 0 := by omega
      obtain rfl := hu0 rfl
      rw [hbv] at hsv'
      injection hsv' with hsa
      subst hsa
      subst hsn1
      have t0 := hcell_ext eg s0
      have t1 := hcell_ext eg s1
      have t2 := hcell_ext eg s2
      have t3 := hcell_ext eg s3
      have hbl : ¬ b = g.size := by
        obtain ⟨arr, ha⟩ := ax.bm.tag (by rw [hbv]; rfl : blkV x.bv = some b)
        have := get_some_lt ha
        have := eg.size
        omega
      have hh1 : ¬ h.size + 1 = g.size := by omega
      have d5 := cellOf (i := 5) g1 rfl
      simp (disch := omega) [t0, t1, t2, t3, hbl, d5, hh1]
      refine (⟨_, rfl⟩ : ∃ f, f = (hset (hset (hset (hset (Array.push g (.cells #[str [], .int .i64 0, .bool false, .map none] 75)) ⟨g.size, 0, none⟩ (str y.nm)) ⟨g.size, 1, none⟩ (.int .i64 y.gran)) ⟨g.size, 2, none⟩ (.bool y.en)) ⟨g.size, 3, none⟩ (.map (some y.m)))).elim fun G eG => ?_
      have e2 : Ext g G := by rw [eG]; exact (by repeat' (first | (with_reducible exact Ext.refl _) | (with_reducible assumption) | (with_reducible refine push_ext ?_) | (with_reducible refine hset_ext ?_ ?_) | (with_reducible refine Ext.trans ?_ (by assumption)) | omega | (simp; done) | (simp; omega) | (refine Ext.size ?_) | (refine Nat.le_succ_of_le (Ext.size ?_))))
      have r0 : hcell G ⟨g.size, 0, none⟩ = some (str y.nm) := by rw [eG]; simp
      have r1 : hcell G ⟨g.size, 1, none⟩ = some (.int .i64 y.gran) := by rw [eG]; simp
      have r2 : hcell G ⟨g.size, 2, none⟩ = some (.bool y.en) := by rw [eG]; simp
      have hGl : g.size < G.size := by rw [eG]; simp
      rw [← eG]
      clear eG
      have E2 := eg.trans e2
      have hmp := ax.bmd y (by rw [hy]; simp)
      refine keysKeyB_c fun G2 e3 hb2 => ?_
      have d5' := hcell_ext (e2.trans e3) d5
      have r0' := hcell_ext e3 r0
      have r1' := hcell_ext e3 r1
      have r2' := hcell_ext e3 r2
      simp (disch := omega) [r0', r1', r2', d5']
      refine sortedKeyB_c hb2 (hmp.ext (E2.trans e3)) hyl fun G3 gs L e4 hp hs og fg => ?_
      have E4 := (E2.trans e3).trans e4
      have d5'' := hcell_ext e4 d5'
      have r0'' := hcell_ext e4 r0'
      have r1'' := hcell_ext e4 r1'
      have r2'' := hcell_ext e4 r2'
      have hh2 : ¬ h.size + 1 = G3.size := by have := E4.size; have := e4.size; have := e3.size; have := e2.size; omega
      obtain ⟨ga, gn, gc, hgs, -, -, -⟩ := og.form (by omega)
      subst hgs
      simp (disch := omega) [r0'', r1'', r2'', d5'', hh2]
      refine (⟨_, rfl⟩ : ∃ f, f = G3.push (.cells #[str y.nm, .int .i64 y.gran, .bool y.en, .slice ga gn gc] 46)).elim fun G4 eG => ?_
      have e5 : Ext G3 G4 := by rw [eG]; exact (by repeat' (first | (with_reducible exact Ext.refl _) | (with_reducible assumption) | (with_reducible refine push_ext ?_) | (with_reducible refine hset_ext ?_ ?_) | (with_reducible refine Ext.trans ?_ (by assumption)) | omega | (simp; done) | (simp; omega) | (refine Ext.size ?_) | (refine Nat.le_succ_of_le (Ext.size ?_))))
      have hsrc : Src 4 G4 (.slice (some ⟨G3.size, 0, none⟩) 1 1) 1 [str y.nm, .int .i64 y.gran, .bool y.en, .slice ga gn gc] := by rw [eG]; exact Src_new (vs := [str y.nm, .int .i64 (y.gran : Int), .bool y.en, .slice ga gn gc]) rfl
      rw [← eG]
      clear eG
      have E5 := E4.trans e5
      refine Hp_appendT (e := pbT) (s := 4) (by_ := 56) (n := 0) (k := 1) (news := [str y.nm, .int .i64 y.gran, .bool y.en, .slice ga gn gc]) (by kernel_rfl) (by kernel_rfl) .nil rfl (by omega) hsrc (by simp [one, str]) (by omega) (by omega) fun v' h6 o6 m6 f6 ne6 => ?_
      have e6 : Ext G4 h6 := m6.ext (fun b _ e => by cases e)
      have gG := ((e2.trans e3).trans e4).trans (e5.trans e6)
      have g60 := (gG.block _ (by omega)).trans g0
      have g61 := (gG.block _ (by omega)).trans g1
      obtain ⟨vb, vc', hv'⟩ := ne6 (by simp)
      subst hv'
      have k4 := cellOf (i := 5) g61 rfl
      have fz4 := frzOf (i := 5) g61
      have E6 : Ext h h6 := eg.trans gG
      simp (disch := omega) [k4, fz4]
      have hgs := gG.size
      have hvb' : G4.size ≤ vb := (f6 vb rfl).resolve_left (fun e => by cases e)
      have hG4 := ((E5.size : h.size ≤ G4.size))
      have hGs : g.size ≤ G4.size := (((e2.trans e3).trans e4).trans e5).size
      refine hX (1, .slice (some ⟨vb, 0, none⟩) 1 vc') _ _ (by simp) ⟨by dsimp only; omega, hset_ext E6 (by simp), (get_hset' (by simp)).trans g60, obj_set g61, ⟨_, _, _, rfl⟩, fun _ y' hy' => ?_, fun e => by simp at e⟩ (by dsimp only; omega)
      rw [hy] at hy'
      obtain rfl : y = y' := by simpa using hy'
      have mS : Mod (· = h.size + 1) h6 (hset h6 ⟨h.size + 1, 5, none⟩ (.slice (some ⟨vb, 0, none⟩) 1 vc')) := Mod.set h6 ⟨h.size + 1, 5, none⟩ _
      obtain ⟨rest, hr⟩ := OwnT.arr o6
      have hvn : ¬ vb = h.size + 1 := by have := (e2.trans e3).size; omega
      refine ⟨vb, vc', .slice ga gn gc, _, L, rfl, (mS.block _ (get_some_lt hr) hvn).trans hr, by simp, ?_, hp⟩
      exact OwnT.mod ((og.ext e5).ext e6) mS (fun b hb e => by have := fg b hb; have e' : b = h.size + 1 := e; have := (e2.trans e3).size; omega)
    · obtain rfl : i = x.B.length := by omega
      obtain ⟨ua, un, uc, rfl⟩ := hus
      have d0 := cellOf (i := 0) g1 rfl
      have d1 := cellOf (i := 1) g1 rfl
      have d2 := cellOf (i := 2) g1 rfl
      have d3 := cellOf (i := 3) g1 rfl
      have d4 := cellOf (i := 4) g1 rfl
      have d5 := cellOf (i := 5) g1 rfl
      have k0 := cellOf (i := 0) g0 rfl
      have k1 := cellOf (i := 1) g0 rfl
      have k2 := cellOf (i := 2) g0 rfl
      have k3 := cellOf (i := 3) g0 rfl
      have k4 := cellOf (i := 4) g0 rfl
      have k5 := cellOf (i := 5) g0 rfl
      have f0 := frzOf (i := 0) g0
      have f1 := frzOf (i := 1) g0
      have f2 := frzOf (i := 2) g0
      have f3 := frzOf (i := 3) g0
      have f4 := frzOf (i := 4) g0
      have f5 := frzOf (i := 5) g0
      have hout' := hout rfl
      simp (disch := omega) [hvnl, d0, d1, d2, d3, d4, d5, k0, k1, k2, k3, k4, k5, f0, f1, f2, f3, f4, f5]
      refine H _ _ _ (by repeat' (first | (with_reducible exact Ext.refl _) | (with_reducible assumption) | (with_reducible refine push_ext ?_) | (with_reducible refine hset_ext ?_ ?_) | (with_reducible refine Ext.trans ?_ (by assumption)) | omega | (simp; done) | (simp; omega) | (refine Ext.size ?_) | (refine Nat.le_succ_of_le (Ext.size ?_)))) (hout'.mod (S := fun b => b = h.size) (by repeat' (first | (with_reducible exact Mod.refl _ _) | (with_reducible assumption) | (with_reducible refine Mod.pushIn ?_) | (with_reducible refine Mod.setIn ?_ ?_) | (with_reducible refine Mod.putIn ?_ ?_) | (with_reducible refine Mod.extIn ?_ (by assumption)) | (exact Or.inr (by first | omega | (simp; done) | (simp; omega))) | (exact Or.inl (by first | (simp; done) | (simp; omega))))) (fun b arr hb e => ?_)) ⟨_, _, _, _, _, _, rfl, rfl⟩
      rw [e, g0] at hb
      rcases hb with hb | hb <;> (injection hb with hb; injection hb with h1 h2; exact absurd h2 (by decide))
end Go.Proofs.YtoonjlhfgjnnmaaGreat
set_option linter.unusedSimpArgs false
set_option linter.unusedVariables false
namespace Go.Proofs.YtoonjlhfgjnnmaaGreat
open Go.Vc
variable {K : Value → Heap → Prop} {h : Heap}

theorem Info_n {w wm : Nat} {xs : List Im} {x : Im} {nm : List UInt8} (a : WdAt h w wm xs) (hn : OkN nm) (e : x.nm = nm) (hx : findI nm xs = some x) (hS : x.S = [] ∨ ∃ s, x.S = [s]) (hB : x.B = [] ∨ ∃ y, x.B = [y] ∧ y.D.length < 100000)
    (H : ∀ h' sv bv, Ext h h' → BmOut x h' bv → (∃ a1 n1 c1 a2 n2 c2, sv = .slice a1 n1 c1 ∧ bv = .slice a2 n2 c2) → K (.tuple #[piV x sv bv, .int .i64 0]) h') : CallsH Tryz.prog 14 #[ptrV w, str nm] h K ⟨⟩ := by
  subst e
  refine n14_calls ?_
  unfold n14
  simp (disch := omega)
  refine (⟨_, rfl⟩ : ∃ f, f = h.push (.cells #[str [], str [], .int .i64 0, .int .i64 0, .slice none 0 0, .slice none 0 0] 40)).elim fun g eg => ?_
  have e0 : Ext h g := by rw [eg]; exact (by repeat' (first | (with_reducible exact Ext.refl _) | (with_reducible assumption) | (with_reducible refine push_ext ?_) | (with_reducible refine hset_ext ?_ ?_) | (with_reducible refine Ext.trans ?_ (by assumption)) | omega | (simp; done) | (simp; omega) | (refine Ext.size ?_) | (refine Nat.le_succ_of_le (Ext.size ?_))))
  have q0 : g[h.size]? = some (.cells #[str [], str [], .int .i64 0, .int .i64 0, .slice none 0 0, .slice none 0 0] 40) := by rw [eg]; exact get_pushed rfl
  rw [← eg]
  clear eg
  refine which_c (a.ext e0) hn fun h1 e1 => ?_
  rw [hx]
  unfold ptrV
  simp (disch := omega)
  refine info_c (x := x) ((a.ext (e0.trans e1)).im x (findI_mem hx).1) hS hB fun h2 sv bv e2 hb hsl => ?_
  have q2 := ((e1.trans e2).block _ (get_some_lt q0)).trans q0
  obtain ⟨a1, n1, c1, a2, n2, c2, rfl, rfl⟩ := hsl
  unfold piV
  have d0 := cellOf (i := 0) q2 rfl
  have d1 := cellOf (i := 1) q2 rfl
  have d2 := cellOf (i := 2) q2 rfl
  have d3 := cellOf (i := 3) q2 rfl
  have d4 := cellOf (i := 4) q2 rfl
  have d5 := cellOf (i := 5) q2 rfl
  have f0 := frzOf (i := 0) q2
  have f1 := frzOf (i := 1) q2
  have f2 := frzOf (i := 2) q2
  have f3 := frzOf (i := 3) q2
  have f4 := frzOf (i := 4) q2
  have f5 := frzOf (i := 5) q2
  have E := (e0.trans e1).trans e2
  obtain ⟨N, hN⟩ : ∃ N, N = x.n * 512 := ⟨_, rfl⟩
  unfold piV at H
  rw [← hN] at H ⊢
  simp (disch := omega) [d0, d1, d2, d3, d4, d5, f0, f1, f2, f3, f4, f5]
  refine H _ _ _ (by repeat' (first | (with_reducible exact Ext.refl _) | (with_reducible assumption) | (with_reducible refine push_ext ?_) | (with_reducible refine hset_ext ?_ ?_) | (with_reducible refine Ext.trans ?_ (by assumption)) | omega | (simp; done) | (simp; omega) | (refine Ext.size ?_) | (refine Nat.le_succ_of_le (Ext.size ?_)))) (hb.mod (S := fun b => b = h.size) (by repeat' (first | (with_reducible exact Mod.refl _ _) | (with_reducible assumption) | (with_reducible refine Mod.pushIn ?_) | (with_reducible refine Mod.setIn ?_ ?_) | (with_reducible refine Mod.putIn ?_ ?_) | (with_reducible refine Mod.extIn ?_ (by assumption)) | (exact Or.inr (by first | omega | (simp; done) | (simp; omega))) | (exact Or.inl (by first | (simp; done) | (simp; omega))))) (fun b arr hb e => ?_)) ⟨_, _, _, _, _, _, rfl, rfl⟩
  rw [e, q2] at hb
  rcases hb with hb | hb <;> (injection hb with hb; injection hb with h1 h2; exact absurd h2 (by decide))
/-- All of an image. -/
theorem all_c {w wm : Nat} {xs : List Im} {x : Im} {nm : List UInt8} (a : WdAt h w wm xs) (hn : OkN nm) (e : x.nm = nm) (hx : findI nm xs = some x) (hS : x.S = [] ∨ ∃ s, x.S = [s]) (hB : x.B = [] ∨ ∃ y, x.B = [y] ∧ y.D.length < 100000) (hxn : x.n ≤ 1000)
    (H : ∀ h' L, Ext h h' → L.length = x.n * 512 → (∀ k, k < x.n → sct L k = conts xs nm k) → K (.tuple #[str L, .bool true]) h') : CallsH Tryz.prog 10 #[ptrV w, str nm] h K ⟨⟩ := by
  refine n10_calls ?_
  unfold n10
  refine Info_n a hn e hx hS hB fun h1 sv bv e1 _ hsl => ?_
  obtain ⟨a1, n1, c1, a2, n2, c2, rfl, rfl⟩ := hsl
  unfold piV
  obtain ⟨N, hN⟩ : ∃ N, N = x.n * 512 := ⟨_, rfl⟩
  rw [← hN]
  have hNd : (N : Int) / 512 = (x.n : Int) := by omega
  simp (disch := omega)
  refine num_c ?_
  simp (disch := omega) [hNd]
  refine (⟨_, rfl⟩ : ∃ f, f = (hset (hset (hset (hset (hset (hset (h1.push (.cells #[str [], str [], .int .i64 0, .int .i64 0, .slice none 0 0, .slice none 0 0] 40)) ⟨h1.size, 0, none⟩ (str x.nm)) ⟨h1.size, 1, none⟩ (str x.bk)) ⟨h1.size, 2, none⟩ (.int .i64 N)) ⟨h1.size, 3, none⟩ (.int .i64 x.bits)) ⟨h1.size, 4, none⟩ (.slice a1 n1 c1)) ⟨h1.size, 5, none⟩ (.slice a2 n2 c2))).elim fun g eg => ?_
  have e2 : Ext h1 g := by rw [eg]; exact (by repeat' (first | (with_reducible exact Ext.refl _) | (with_reducible assumption) | (with_reducible refine push_ext ?_) | (with_reducible refine hset_ext ?_ ?_) | (with_reducible refine Ext.trans ?_ (by assumption)) | omega | (simp; done) | (simp; omega) | (refine Ext.size ?_) | (refine Nat.le_succ_of_le (Ext.size ?_))))
  rw [← eg]
  clear eg
  rw [show (.int .i64 0 : Value) = .int .i64 ((0 : Nat) : Int) from rfl]
  refine Read_n (a.ext (e1.trans e2)) hn e hx (by omega) fun b c L h3 o3 hL hs e3 => ?_
  have hb : Bytes h3 (.slice (some ⟨b, 0, none⟩) (x.n * 512) c) L := by
    have := o3.part (lo := 0) (hi := x.n * 512) (c' := c) (by omega) (by omega) (by have := o3.seg.2.1; omega)
    rw [sub_zero, List.drop_zero, List.take_of_length_le (by omega)] at this
    exact this
  have cv : ∀ (q : Bool) (K0 : Value → Heap → Prop), Hp Tryz.prog q (convert 32 9 (.slice (some ⟨b, 0, none⟩) (x.n * 512) c)) K0 h3 ⟨⟩ ↔ K0 (str L) h3 := fun q K0 => Hp_bytesStr (e := 5) (by kernel_rfl) (by kernel_rfl) (by kernel_rfl) hb
  simp (disch := omega)
  rw [cv]
  refine num_c ?_
  rw [cv]
  simp (disch := omega)
  exact H h3 L ((e1.trans e2).trans e3) hL (fun k hk => by have := hs k hk; rwa [Nat.zero_add] at this)
end Go.Proofs.YtoonjlhfgjnnmaaGreat
set_option linter.unusedSimpArgs false
set_option linter.unusedVariables false
namespace Go.Proofs.YtoonjlhfgjnnmaaGreat
open Go.Vc
variable {K : Value → Heap → Prop} {h : Heap}

def Im.dirt (x : Im) (y : Bm) (D : List (Int × Value)) : Im := { x with B := [{ y with D := D }] }
theorem ImAt.dirt {x : Im} {y : Bm} {D : List (Int × Value)} {h' : Heap} (ax : ImAt h x) (hB : x.B = [y]) (hm : MapK ik h' y.m D) (m : Mod (· = y.m) h h') : ImAt h' (x.dirt y D) := by
  have hy := ax.bmd y (by rw [hB]; simp)
  obtain ⟨es, cl, h1, _⟩ := hy
  have nc : ∀ b arr t, h[b]? = some (.cells arr t) → b ≠ y.m := fun b arr t hb e => by rw [e, h1] at hb; cases hb
  have hbd := ax.bnd
  rw [hB] at hbd
  simp only [List.map_cons, List.map_nil, List.nodup_cons, List.mem_append, List.mem_singleton, not_or] at hbd
  have cl : ∀ {mm : Nat} {F : List (Int × Value)} {G : Int → List UInt8}, mm ≠ y.m → ClAt h mm x.cs F G x.Z → ClAt h' mm x.cs F G x.Z := fun hne c => c.mod m hne (fun b arr hb _ => nc b arr _ hb)
  refine ⟨(m.block _ (get_some_lt ax.cells) (nc _ _ _ ax.cells)).trans ax.cells, cl hbd.1.2 ax.cl, ax.n, ax.bits, ax.cs, ax.sn.mod m (fun b hb e => by obtain ⟨arr, ha⟩ := ax.sn.tag hb; exact nc _ _ _ ha e), fun s hs => cl (fun e => ?_) (ax.snc s hs), ?_, fun b hb => ?_, ax.mne, ?_, fun b hb => Nat.lt_of_lt_of_le (ax.zlt b hb) m.size⟩
  · have hnd := hbd.2
    rw [List.nodup_append] at hnd
    exact hnd.2.2 s.m (List.mem_map_of_mem hs) y.m (by simp) e
  · have e : (x.dirt y D).B.flatMap bmC = x.B.flatMap bmC := by rw [hB]; simp [Im.dirt, bmC]
    rw [e]
    exact ax.bm.mod m (fun b hb e => by obtain ⟨arr, ha⟩ := ax.bm.tag hb; exact nc _ _ _ ha e)
  · have e : b = { y with D := D } := by simpa [Im.dirt] using hb
    rw [e]; exact hm
  · have := ax.bnd
    rw [hB] at this
    exact this
theorem foot_dirt {x : Im} {y : Bm} {D : List (Int × Value)} {b : Nat} (hB : x.B = [y]) (hf : footI (x.dirt y D) b) : footI x b := by
  rcases hf with e | e | e | ⟨z, hz, e⟩ | e | e
  · exact .inl e
  · exact .inr (.inl e)
  · exact .inr (.inr (.inl e))
  · have ez : z = { y with D := D } := by simpa [Im.dirt] using hz
    exact .inr (.inr (.inr (.inl ⟨y, by rw [hB]; simp, by rw [e, ez]⟩)))
  · exact .inr (.inr (.inr (.inr (.inl e))))
  · exact .inr (.inr (.inr (.inr (.inr e))))
/-- Touched. -/
theorem WdAt.dirt {w wm : Nat} {xs : List Im} {x : Im} {y : Bm} {D : List (Int × Value)} {h' : Heap} (a : WdAt h w wm xs) (hx : findI x.nm xs = some x) (hB : x.B = [y]) (hm : MapK ik h' y.m D) (m : Mod (· = y.m) h h') : WdAt h' w wm (setI (x.dirt y D) xs) := by
  have ax := a.im x (findI_mem hx).1
  refine a.upd hx rfl rfl (a.wl.set (show findI x.nm xs = some x from hx) rfl) m (fun b _ e => .inr (.inr (.inr (.inl ⟨y, by rw [hB]; simp, e⟩)))) (ax.dirt hB hm m) (fun b hb => .inl (foot_dirt hB hb))
/-- Another one in whose place nothing is told otherwise. -/
structure Cq (x y : Im) : Prop where
  nm : x.nm = y.nm
  n : x.n = y.n
  cs : x.cs = y.cs
  bk : x.bk = y.bk
  F : x.F = y.F
  G : x.G = y.G
theorem conts_cq {x' : Im} {k : Nat} : ∀ {xs : List Im} {nm : List UInt8}, (∀ y ∈ xs, y.nm = x'.nm → Cq x' y) → conts (setI x' xs) nm k = conts xs nm k
  | [], _, _ => rfl
  | y :: r, nm, hc => by
    unfold setI
    simp only [List.map_cons]
    have ih : ∀ nm, conts (r.map fun y => if y.nm = x'.nm then x' else y) nm k = conts r nm k := fun nm => conts_cq fun z hz => hc z (List.mem_cons_of_mem _ hz)
    by_cases e : y.nm = x'.nm
    · rw [if_pos e]
      have c := hc y List.mem_cons_self e
      unfold conts
      rw [ih nm, ih x'.bk, c.nm, c.n, c.bk]
      unfold Im.isOwn
      rw [c.F, c.G, c.cs]
    · rw [if_neg e]
      unfold conts
      rw [ih nm, ih y.bk]
theorem findI_uniq {xs : List Im} {x y : Im} (hn : (xs.map (·.nm)).Nodup) (hx : findI x.nm xs = some x) (hy : y ∈ xs) (e : y.nm = x.nm) : y = x := by
  induction xs with
  | nil => cases hy
  | cons z r ih =>
    simp only [List.map_cons, List.nodup_cons] at hn
    unfold findI at hx
    split at hx
    · rename_i e2
      cases hx
      rcases List.mem_cons.1 hy with rfl | hy
      · rfl
      · exact absurd (by rw [← e]; exact List.mem_map_of_mem hy) hn.1
    · rename_i e2
      rcases List.mem_cons.1 hy with rfl | hy
      · exact absurd e.symm e2
      · exact ih hn.2 hx hy
theorem conts_dirt {xs : List Im} {x : Im} {y : Bm} {D : List (Int × Value)} (a : Wl xs) (hx : findI x.nm xs = some x) (nm : List UInt8) (k : Nat) : conts (setI (x.dirt y D) xs) nm k = conts xs nm k :=
  conts_cq fun z hz e => by
    have := findI_uniq a.nd hx hz e
    rw [this]
    exact ⟨rfl, rfl, rfl, rfl, rfl, rfl⟩
/-- Granules of sectors p .. p + m - 1. -/
def granT (W p m : Nat) (D D' : List (Int × Value)) : Prop := ∀ g : Int, look2 g D' = if m ≠ 0 ∧ ((p * 512 / W : Nat) : Int) ≤ g ∧ g ≤ ((((p + m) * 512 - 1) / W : Nat) : Int) then some (.bool true) else look2 g D
set_option maxHeartbeats 1000000 in
theorem Write1_c {w wm W : Nat} {xs : List Im} {x : Im} {y : Bm} {nm : List UInt8} {p : Int} {vb : Value} {s : List UInt8} (a : WdAt h w wm xs) (hn : OkN nm) (en : x.nm = nm) (hx : findI nm xs = some x) (hp : -9223372036854775808 ≤ p ∧ p < 9223372036854775808) (hab : ∀ y ∈ xs, y.bk ≠ nm) (hB : x.B = [y]) (he : y.en = true) (hW : 2 ^ y.gran = W) (hg : y.gran ≤ 26) (bs : Bytes h vb s) (hsl : s.length < 9223372036854775808)
    (H0 : ∀ h' e, Ext h h' → K (.int .i64 e) h')
    (H1 : ∀ x' D' h', s.length % 512 = 0 ∧ 0 ≤ p ∧ p + (s.length / 512 : Nat) ≤ x.n → Wrote xs x x' p.toNat (s.length / 512) s → granT W p.toNat (s.length / 512) y.D D' → WdAt h' w wm (setI (x'.dirt y D') xs) → Mod (footI x) h h' → K (.int .i64 0) h') :
    CallsH Tryz.prog 11 #[ptrV w, str nm, .int .i64 p, vb] h K ⟨⟩ := by
  subst en
  refine n11_calls ?_
  unfold n11
  obtain ⟨va, vc, rfl⟩ : ∃ va vc, vb = .slice va s.length vc := by
    rcases bs with ⟨rfl, rfl⟩ | ⟨ad, c, rfl, -, -⟩
    · exact ⟨none, 0, rfl⟩
    · exact ⟨some ad, c, rfl⟩
  have hq : ((s.length : Nat) : Int) / 512 = ((s.length / 512 : Nat) : Int) := by omega
  have hr : ((s.length : Nat) : Int) % 512 = ((s.length % 512 : Nat) : Int) := by omega
  obtain ⟨m, hm⟩ : ∃ m, m = s.length / 512 := ⟨_, rfl⟩
  obtain ⟨r, hr2⟩ : ∃ r, r = s.length % 512 := ⟨_, rfl⟩
  rw [← hm] at hq H1
  rw [← hr2] at hr H1
  have hml : m < 9223372036854775808 := by omega
  have hxm := findI_mem hx
  by_cases hr0 : r = 0
  · have hr9 : ((s.length : Nat) : Int) % 512 = 0 := by omega
    simp (disch := omega) [hq, hr9]
    refine free_c a hn hx hp (by omega) hab (fun h1 e1 hno => ?_) (fun h1 e1 hin => ?_)
    · simp (disch := omega)
      exact H0 h1 4 e1
    · unfold ptrV
      simp (disch := omega)
      obtain ⟨p', rfl⟩ := Int.eq_ofNat_of_zero_le hin.1
      have hnb := (a.im x hxm.1).n
      refine lay_c (p := p') (m := m) (a.ext e1) hx (by omega) (bs.ext e1) (by omega) fun x' h2 hl a2 m2 => ?_
      obtain ⟨F, G, hx'⟩ := hl.same
      have hfx' := (hl.facts a.wl hx).2.1
      have ax' := a2.im x' (findI_mem hfx').1
      have hb' : x'.b = x.b := by rw [hx']
      have hB' : x'.B = [y] := by rw [hx']; exact hB
      rw [show (.pointer (some ⟨x.b, 0, none⟩) : Value) = ptrV x'.b by rw [hb']; rfl]
      refine touch1_c (W := W) ax' hB' he (by omega) hW hg fun h3 D' d1 d2 d3 => ?_
      have a3 := a2.dirt hfx' hB' d1 d3
      have hss : setI (x'.dirt y D') (setI x' xs) = setI (x'.dirt y D') xs := setI_setI rfl
      rw [hss] at a3
      refine H1 x' D' h3 ⟨hr0, hin⟩ (by simpa using hl) (by rw [Int.toNat_natCast]; exact d2) a3 ?_
      have fm : footI x x.m := .inr (.inl rfl)
      have fy : footI x y.m := .inr (.inr (.inr (.inl ⟨y, by rw [hB]; simp, rfl⟩)))
      exact ((Mod.of_ext e1).trans m2 (fun b _ e => by have e' : b = x.m := e; rw [e']; exact fm)).trans d3 (fun b _ e => by have e' : b = y.m := e; rw [e']; exact fy)
  · have hr9 : ¬ ((s.length : Nat) : Int) % 512 = 0 := by omega
    simp (disch := omega) [hq, hr9]
    refine freeN_c a ?_
    simp (disch := omega)
    exact H0 h 2 (.refl _)
theorem make0_c {n : Nat} {q : Bool} {K : Value → Heap → Prop} (hn : n ≤ 100000000) (H : ∀ b h', OwnT u8T 1 h' (.slice (some ⟨b, 0, none⟩) n n) ((List.replicate n (0 : UInt8)).map byteV) → Ext h h' → K (.slice (some ⟨b, 0, none⟩) n n) h') : Hp Tryz.prog false (Go.Instr.makeSlice 32 (.int .i64 n) (.int .i64 n)) K h ⟨⟩ := by
  rw [Hp_make (e := u8T) (s := 1) (by_ := 1) (z := .int .u8 0) (by kernel_rfl) (by kernel_rfl) rfl rfl (by omega) (by omega) (by omega) (by omega)]
  refine ValT_iff.2 (ValT_iff.2 ?_)
  have o := own_make (h := h) (N := n)
  rw [← List.toArray_replicate] at o
  exact H _ _ o (push_ext (.refl _))
set_option maxHeartbeats 1000000 in
theorem Zero0_c {w wm : Nat} {xs : List Im} {x : Im} {nm : List UInt8} {p m : Int} (a : WdAt h w wm xs) (hn : OkN nm) (en : x.nm = nm) (hx : findI nm xs = some x) (hp : -9223372036854775808 ≤ p ∧ p < 9223372036854775808) (hm : -9223372036854775808 ≤ m ∧ m < 9223372036854775808) (hab : ∀ y ∈ xs, y.bk ≠ nm) (hB : x.B = [])
    (H0 : ∀ h' e, Ext h h' → e ≠ 0 → ¬ (0 ≤ m ∧ 0 ≤ p ∧ p + m ≤ x.n) → K (.int .i64 e) h')
    (H1 : ∀ x' h', 0 ≤ m ∧ 0 ≤ p ∧ p + m ≤ x.n → Wrote xs x x' p.toNat m.toNat (List.replicate (m.toNat * 512) 0) → WdAt h' w wm (setI x' xs) → Mod (· = x.m) h h' → K (.int .i64 0) h') :
    CallsH Tryz.prog 22 #[ptrV w, str nm, .int .i64 p, .int .i64 m] h K ⟨⟩ := by
  subst en
  refine n22_calls ?_
  unfold n22
  have hxm := findI_mem hx
  by_cases hm0 : 0 ≤ m
  case neg =>
    simp (disch := omega)
    refine freeN_c a ?_
    simp (disch := omega)
    exact H0 h 2 (.refl _) (by omega) (fun e => hm0 e.1)
  simp (disch := omega)
  refine free_c a hn hx hp ⟨hm0, hm.2⟩ hab (fun h1 e1 hno => ?_) (fun h1 e1 hin => ?_)
  · simp (disch := omega)
    exact H0 h1 4 e1 (by omega) (fun e => hno e.2)
  have hnb := (a.im x hxm.1).n
  obtain ⟨p', rfl⟩ := Int.eq_ofNat_of_zero_le hin.1
  obtain ⟨m', rfl⟩ := Int.eq_ofNat_of_zero_le hm0
  simp only [Int.toNat_natCast] at H1
  obtain ⟨M, hM⟩ : ∃ M, M = m' * 512 := ⟨_, rfl⟩
  have hMi : (m' : Int) * 512 = (M : Int) := by omega
  unfold ptrV
  simp (disch := omega) [hMi]
  refine (⟨_, rfl⟩ : ∃ f, f = h1.push (.cells (Array.replicate M (.int .u8 0)) u8T)).elim fun g eg => ?_
  have e0 : Ext h1 g := by rw [eg]; exact (by repeat' (first | (with_reducible exact Ext.refl _) | (with_reducible assumption) | (with_reducible refine push_ext ?_) | (with_reducible refine hset_ext ?_ ?_) | (with_reducible refine Ext.trans ?_ (by assumption)) | omega | (simp; done) | (simp; omega) | (refine Ext.size ?_) | (refine Nat.le_succ_of_le (Ext.size ?_))))
  have o0 : OwnT u8T 1 g (.slice (some ⟨h1.size, 0, none⟩) M M) ((List.replicate M (0 : UInt8)).map byteV) := by rw [eg]; exact own_make
  rw [show h1.push (.cells (Array.replicate M (.int .u8 0)) 5) = g from eg.symm]
  clear eg
  have hb : Bytes g (.slice (some ⟨h1.size, 0, none⟩) M M) (List.replicate M 0) := by
    have := o0.part (lo := 0) (hi := M) (c' := M) (by omega) (by omega) (by omega)
    rw [sub_zero, List.drop_zero, List.take_of_length_le (by rw [List.length_replicate]; omega)] at this
    exact this
  rw [hM] at hb ⊢
  refine lay_c (p := p') (m := m') (a.ext (e1.trans e0)) hx (by omega) hb List.length_replicate fun x' h2 hl a2 m2 => ?_
  obtain ⟨F, G, hx'⟩ := hl.same
  have hfx' := (hl.facts a.wl hx).2.1
  have ax' := a2.im x' (findI_mem hfx').1
  have hb' : x'.b = x.b := by rw [hx']
  have hB' : x'.B = x.B := by rw [hx']
  rw [show (.pointer (some ⟨x.b, 0, none⟩) : Value) = ptrV x'.b by rw [hb']; rfl]
  have M2 : Mod (· = x.m) h h2 := (Mod.of_ext (e1.trans e0)).trans m2 (fun _ _ e => e)
  exact touch0_c ax' (hB'.trans hB) (H1 x' h2 ⟨hm0, hin⟩ hl a2 M2)
set_option maxHeartbeats 1000000 in
theorem Zero1_c {w wm W : Nat} {xs : List Im} {x : Im} {y : Bm} {nm : List UInt8} {p m : Int} (a : WdAt h w wm xs) (hn : OkN nm) (en : x.nm = nm) (hx : findI nm xs = some x) (hp : -9223372036854775808 ≤ p ∧ p < 9223372036854775808) (hm : -9223372036854775808 ≤ m ∧ m < 9223372036854775808) (hab : ∀ y ∈ xs, y.bk ≠ nm) (hB : x.B = [y]) (he : y.en = true) (hW : 2 ^ y.gran = W) (hg : y.gran ≤ 26)
    (H0 : ∀ h' e, Ext h h' → e ≠ 0 → ¬ (0 ≤ m ∧ 0 ≤ p ∧ p + m ≤ x.n) → K (.int .i64 e) h')
    (H1 : ∀ x' D' h', 0 ≤ m ∧ 0 ≤ p ∧ p + m ≤ x.n → Wrote xs x x' p.toNat m.toNat (List.replicate (m.toNat * 512) 0) → granT W p.toNat m.toNat y.D D' → WdAt h' w wm (setI (x'.dirt y D') xs) → Mod (footI x) h h' → K (.int .i64 0) h') :
    CallsH Tryz.prog 22 #[ptrV w, str nm, .int .i64 p, .int .i64 m] h K ⟨⟩ := by
  subst en
  refine n22_calls ?_
  unfold n22
  have hxm := findI_mem hx
  by_cases hm0 : 0 ≤ m
  case neg =>
    simp (disch := omega)
    refine freeN_c a ?_
    simp (disch := omega)
    exact H0 h 2 (.refl _) (by omega) (fun e => hm0 e.1)
  simp (disch := omega)
  refine free_c a hn hx hp ⟨hm0, hm.2⟩ hab (fun h1 e1 hno => ?_) (fun h1 e1 hin => ?_)
  · simp (disch := omega)
    exact H0 h1 4 e1 (by omega) (fun e => hno e.2)
  have hnb := (a.im x hxm.1).n
  obtain ⟨p', rfl⟩ := Int.eq_ofNat_of_zero_le hin.1
  obtain ⟨m', rfl⟩ := Int.eq_ofNat_of_zero_le hm0
  simp only [Int.toNat_natCast] at H1
  obtain ⟨M, hM⟩ : ∃ M, M = m' * 512 := ⟨_, rfl⟩
  have hMi : (m' : Int) * 512 = (M : Int) := by omega
  unfold ptrV
  simp (disch := omega) [hMi]
  refine (⟨_, rfl⟩ : ∃ f, f = h1.push (.cells (Array.replicate M (.int .u8 0)) u8T)).elim fun g eg => ?_
  have e0 : Ext h1 g := by rw [eg]; exact (by repeat' (first | (with_reducible exact Ext.refl _) | (with_reducible assumption) | (with_reducible refine push_ext ?_) | (with_reducible refine hset_ext ?_ ?_) | (with_reducible refine Ext.trans ?_ (by assumption)) | omega | (simp; done) | (simp; omega) | (refine Ext.size ?_) | (refine Nat.le_succ_of_le (Ext.size ?_))))
  have o0 : OwnT u8T 1 g (.slice (some ⟨h1.size, 0, none⟩) M M) ((List.replicate M (0 : UInt8)).map byteV) := by rw [eg]; exact own_make
  rw [show h1.push (.cells (Array.replicate M (.int .u8 0)) 5) = g from eg.symm]
  clear eg
  have hb : Bytes g (.slice (some ⟨h1.size, 0, none⟩) M M) (List.replicate M 0) := by
    have := o0.part (lo := 0) (hi := M) (c' := M) (by omega) (by omega) (by omega)
    rw [sub_zero, List.drop_zero, List.take_of_length_le (by rw [List.length_replicate]; omega)] at this
    exact this
  rw [hM] at hb ⊢
  refine lay_c (p := p') (m := m') (a.ext (e1.trans e0)) hx (by omega) hb List.length_replicate fun x' h2 hl a2 m2 => ?_
  obtain ⟨F, G, hx'⟩ := hl.same
  have hfx' := (hl.facts a.wl hx).2.1
  have ax' := a2.im x' (findI_mem hfx').1
  have hb' : x'.b = x.b := by rw [hx']
  have hB' : x'.B = x.B := by rw [hx']
  rw [show (.pointer (some ⟨x.b, 0, none⟩) : Value) = ptrV x'.b by rw [hb']; rfl]
  have M2 : Mod (· = x.m) h h2 := (Mod.of_ext (e1.trans e0)).trans m2 (fun _ _ e => e)
  exact touch1_c (W := W) ax' (hB'.trans hB) he (by omega) hW hg fun h3 D' d1 d2 d3 => H1 x' D' h3 ⟨hm0, hin⟩ hl d2 (by have a3 := a2.dirt hfx' (hB'.trans hB) d1 d3; rw [show setI (x'.dirt y D') (setI x' xs) = setI (x'.dirt y D') xs from setI_setI rfl] at a3; exact a3) ((M2.mono (fun b _ e => by have e' : b = x.m := e; rw [e']; exact .inr (.inl rfl))).trans d3 (fun b _ e => by have e' : b = y.m := e; rw [e']; exact .inr (.inr (.inr (.inl ⟨y, by rw [hB]; simp, rfl⟩)))))
end Go.Proofs.YtoonjlhfgjnnmaaGreat
set_option linter.unusedSimpArgs false
set_option linter.unusedVariables false
namespace Go.Proofs.YtoonjlhfgjnnmaaGreat
open Go.Vc
variable {K : Value → Heap → Prop} {h : Heap}

def nBase : List UInt8 := [98, 97, 115, 101]
def nMid : List UInt8 := [109, 105, 100]
def nTop : List UInt8 := [116, 111, 112]
theorem okBase : OkN nBase := ⟨by decide, by decide, by decide⟩
theorem okMid : OkN nMid := ⟨by decide, by decide, by decide⟩
theorem okTop : OkN nTop := ⟨by decide, by decide, by decide⟩
/-- The lower two. -/
structure Low (m b : Im) : Prop where
  mn : m.nm = nMid
  mbk : m.bk = nBase
  ms : m.n = 12
  mc : m.cs = 4
  mb : m.bits = 11
  mS : m.S = []
  mB : m.B = []
  bn : b.nm = nBase
  bk : b.bk = []
  bs : b.n = 16
  bc : b.cs = 2
  bb : b.bits = 10
  bS : b.S = []
  bB : b.B = []
/-- The upper one. -/
structure Up (t : Im) : Prop where
  nm : t.nm = nTop
  bk : t.bk = nMid
  n : t.n = 20
  cs : t.cs = 1
  bits : t.bits = 9
def baseB (k : Nat) : List UInt8 := if k = 3 then List.replicate 512 1 else z512
structure G3 (h0 h : Heap) (w wm : Nat) (t m b : Im) : Prop where
  at_ : WdAt h w wm [t, m, b]
  low : Low m b
  up : Up t
  base : ∀ k, conts [t, m, b] nBase k = baseB k
  fr : ∀ z ∈ [t, m, b], ∀ c, footI z c → h0.size ≤ c
  fw : h0.size ≤ w ∧ h0.size ≤ wm
  rng : ∀ c : Int, look2 c t.F ≠ none → 0 ≤ c ∧ c < 20
theorem rng_wrote {xs : List Im} {t t' : Im} {p m : Nat} {s : List UInt8} (l : Wrote xs t t' p m s) (hcs : t.cs = 1) (hp : p + m ≤ 20) (hr : ∀ c : Int, look2 c t.F ≠ none → 0 ≤ c ∧ c < 20) : ∀ c : Int, look2 c t'.F ≠ none → 0 ≤ c ∧ c < 20 := fun c hc => by
  rcases l.key c hc with h | ⟨k, h1, h2, h3⟩
  · exact hr c h
  · rw [hcs, Nat.div_one] at h3
    omega
theorem fTop {t m b : Im} (u : Up t) : findI nTop [t, m, b] = some t := by unfold findI; rw [if_pos u.nm.symm]
theorem fMid {t m b : Im} (u : Up t) (l : Low m b) : findI nMid [t, m, b] = some m := by
  unfold findI
  rw [if_neg (by rw [u.nm]; decide)]
  unfold findI
  rw [if_pos l.mn.symm]
theorem fBase {t m b : Im} (u : Up t) (l : Low m b) : findI nBase [t, m, b] = some b := by
  unfold findI
  rw [if_neg (by rw [u.nm]; decide)]
  unfold findI
  rw [if_neg (by rw [l.mn]; decide)]
  unfold findI
  rw [if_pos l.bn.symm]
theorem setTop {t t' m b : Im} (u : Up t) (l : Low m b) (e : t'.nm = nTop) : setI t' [t, m, b] = [t', m, b] := by
  unfold setI
  simp only [List.map_cons, List.map_nil]
  rw [if_pos (by rw [u.nm, e]), if_neg (by rw [l.mn, e]; decide), if_neg (by rw [l.bn, e]; decide)]
theorem noTop {t m b : Im} (u : Up t) (l : Low m b) : ∀ y ∈ [t, m, b], y.bk ≠ nTop := fun y hy => by
  simp at hy
  rcases hy with rfl | rfl | rfl
  · rw [u.bk]; decide
  · rw [l.mbk]; decide
  · rw [l.bk]; decide
theorem footNew {x : Im} {c z : Nat} (hS : x.S = []) (hB : x.B = []) (hs : x.sv = .slice none 0 0) (hb : x.bv = .slice none 0 0) (h1 : z ≤ x.b) (h2 : z ≤ x.m) (hf : footI x c) : z ≤ c := by
  rcases hf with e | e | ⟨s, hs', e⟩ | ⟨y, hy, e⟩ | e | e
  · omega
  · omega
  · rw [hS] at hs'; cases hs'
  · rw [hB] at hy; cases hy
  · rw [hs] at e; cases e
  · rw [hb] at e; cases e
theorem sct_fill {n j : Nat} {c : UInt8} (hj : j * 512 + 512 ≤ n) : sct (List.replicate n c) j = List.replicate 512 c := by
  unfold sct
  rw [List.drop_replicate, List.take_replicate]
  congr 1
  omega
set_option maxHeartbeats 4000000 in
theorem grow_c {sv : Value} {xs : List Stp} (sp : Sps h sv xs) (H : ∀ h' w wm t m b, Ext h h' → G3 h h' w wm t m b → t.S = [] → t.B = [] → (xs = [] → ∀ k, t.isOwn k = false) → K (ptrV w) h') : CallsH Tryz.prog 6 #[sv] h K ⟨⟩ := by
  refine n6_calls ?_
  unfold n6
  obtain ⟨sa, sc, rfl⟩ := sp.form
  have hxl := sp.len
  refine New_c fun w wm h1 e1 a1 f1 f2 => ?_
  unfold ptrV
  simp (disch := omega)
  rw [show (.int .i64 8192 : Value) = .int .i64 ((16 * 512 : Nat) : Int) from rfl, show (.pointer (some ⟨w, 0, none⟩) : Value) = ptrV w from rfl]
  refine Create_c (nm := nBase) (n := 16) (bits := 10) (bk := []) a1 okBase (by omega) (by omega) rfl (.inl rfl) (by simp) (fun b h2 hb _ a2 m2 fb fm => ?_) (fun h2 hd _ => absurd rfl (hd 0 (by omega)))
  simp (disch := omega)
  refine num_c ?_
  simp (disch := omega)
  have z1 := e1.size
  have E2 : Ext h h2 := m2.ext_from e1 (fun b hb e => by have e' : b = wm := e; omega)
  rw [show (.int .i64 512 : Value) = .int .i64 ((512 : Nat) : Int) from rfl, show (.int .u8 1 : Value) = byteV 1 from rfl]
  refine fill_c (n := 512) (by omega) fun bf h3 of e3 ff => ?_
  try rw [show byteV 1 = (.int .u8 1 : Value) from rfl]
  obtain ⟨L1, hL1⟩ : ∃ L1, L1 = List.replicate 512 (1 : UInt8) := ⟨_, rfl⟩
  rw [← hL1] at of
  have l1 : L1.length = 512 := of.seg.1
  have bL : Bytes h3 (.slice (some ⟨bf, 0, none⟩) 512 512) L1 := by
    have := of.part (lo := 0) (hi := 512) (c' := 512) (by omega) (by omega) (by omega)
    rw [sub_zero, List.drop_zero, List.take_of_length_le (by omega)] at this
    exact this
  have bnm : b.nm = nBase := by rw [hb]; rfl
  have bn : b.n = 16 := by rw [hb]; rfl
  have bB : b.B = [] := by rw [hb]; rfl
  have bbk : b.bk = [] := by rw [hb]; rfl
  have fb0 : findI nBase [b] = some b := by unfold findI; rw [if_pos bnm.symm]
  simp (disch := omega)
  refine Write_n (p := 3) (s := L1) (a2.ext e3) okBase bnm fb0 (by omega) (fun y hy => by simp at hy; subst hy; rw [bbk]; decide) bB bL (by omega) (fun h4 e _ _ hno => absurd (by rw [l1, bn]; decide) hno) (fun b' h4 _ hl a4 m4 => ?_)
  rw [l1] at hl
  simp (disch := omega)
  refine num_c ?_
  simp (disch := omega)
  obtain ⟨F, G, hb'⟩ := hl.same
  have bnm' : b'.nm = nBase := by rw [hb']; exact bnm
  have hset1 : setI b' [b] = [b'] := by
    unfold setI
    simp only [List.map_cons, List.map_nil]
    rw [if_pos (by rw [bnm, bnm'])]
  have hcb := hl.cont
  rw [hset1] at a4 hcb
  have fb1 : findI nBase [b'] = some b' := by unfold findI; rw [if_pos bnm'.symm]
  have z2 := E2.size
  have E4 : Ext h h4 := m4.ext_from (E2.trans e3) (fun c hc e => by have e' : c = b.m := e; omega)
  rw [show (.int .i64 6144 : Value) = .int .i64 ((12 * 512 : Nat) : Int) from rfl, show str [98, 97, 115, 101] = str nBase from rfl, show str [109, 105, 100] = str nMid from rfl]
  refine Create_c (nm := nMid) (n := 12) (bits := 11) (bk := nBase) a4 okMid (by omega) (by omega) ?_ (.inr ⟨okBase, _, fb1⟩) (by simp) (fun m h5 hm _ a5 m5 gb gm => ?_) (fun h5 hd _ => absurd ?_ (hd 1 (by omega)))
  · unfold findI
    rw [if_neg (by rw [bnm']; decide)]
    rfl
  case refine_3 =>
    show bkOf [b'] nBase = []
    unfold bkOf
    rw [fb1, hb']
    exact bbk
  simp (disch := omega)
  refine num_c ?_
  simp (disch := omega)
  have z4 := E4.size
  have E5 : Ext h h5 := m5.ext_from E4 (fun c hc e => by have e' : c = wm := e; omega)
  rw [show (.int .i64 1024 : Value) = .int .i64 ((1024 : Nat) : Int) from rfl, show (.int .u8 2 : Value) = byteV 2 from rfl]
  refine fill_c (n := 1024) (by omega) fun bg h6 og e6 fg => ?_
  try rw [show byteV 2 = (.int .u8 2 : Value) from rfl]
  obtain ⟨L2, hL2⟩ : ∃ L2, L2 = List.replicate 1024 (2 : UInt8) := ⟨_, rfl⟩
  rw [← hL2] at og
  have l2 : L2.length = 1024 := og.seg.1
  have bL2 : Bytes h6 (.slice (some ⟨bg, 0, none⟩) 1024 1024) L2 := by
    have := og.part (lo := 0) (hi := 1024) (c' := 1024) (by omega) (by omega) (by omega)
    rw [sub_zero, List.drop_zero, List.take_of_length_le (by omega)] at this
    exact this
  have mnm : m.nm = nMid := by rw [hm]; rfl
  have mn : m.n = 12 := by rw [hm]; rfl
  have mB : m.B = [] := by rw [hm]; rfl
  have mbk : m.bk = nBase := by rw [hm]; rfl
  have fm0 : findI nMid [m, b'] = some m := by unfold findI; rw [if_pos mnm.symm]
  simp (disch := omega)
  refine Write_n (p := 1) (s := L2) (a5.ext e6) okMid mnm fm0 (by omega) (fun y hy => by
    simp at hy
    rcases hy with rfl | rfl
    · rw [mbk]; decide
    · rw [hb']; show b.bk ≠ nMid; rw [bbk]; decide) mB bL2 (by omega) (fun h7 e _ _ hno => absurd (by rw [l2, mn]; decide) hno) (fun m' h7 _ hl2 a7 m7 => ?_)
  rw [l2] at hl2
  simp (disch := omega)
  refine num_c ?_
  simp (disch := omega)
  obtain ⟨F2, G2, hm'⟩ := hl2.same
  have mnm' : m'.nm = nMid := by rw [hm']; exact mnm
  have hset2 : setI m' [m, b'] = [m', b'] := by
    unfold setI
    simp only [List.map_cons, List.map_nil]
    rw [if_pos (by rw [mnm, mnm']), if_neg (by rw [bnm', mnm']; decide)]
  rw [hset2] at a7
  have fm1 : findI nMid [m', b'] = some m' := by unfold findI; rw [if_pos mnm'.symm]
  have fb2 : findI nBase [m', b'] = some b' := by
    unfold findI
    rw [if_neg (by rw [mnm']; decide)]
    exact fb1
  have z5 := E5.size
  have E7 : Ext h h7 := m7.ext_from (E5.trans e6) (fun c hc e => by have e' : c = m.m := e; omega)
  rw [show (.int .i64 10240 : Value) = .int .i64 ((20 * 512 : Nat) : Int) from rfl, show str [116, 111, 112] = str nTop from rfl]
  refine Create_c (nm := nTop) (n := 20) (bits := 9) (bk := nMid) a7 okTop (by omega) (by omega) ?_ (.inr ⟨okMid, _, fm1⟩) (by simp) (fun t h8 ht _ a8 m8 tb tm => ?_) (fun h5 hd _ => absurd ?_ (hd 2 (by omega)))
  · unfold findI
    rw [if_neg (by rw [mnm']; decide)]
    unfold findI
    rw [if_neg (by rw [bnm']; decide)]
    rfl
  case refine_3 =>
    show bkOf [m', b'] (bkOf [m', b'] nMid) = []
    have hk : bkOf [m', b'] nMid = nBase := by
      unfold bkOf
      rw [fm1]
      show m'.bk = nBase
      rw [hm']; exact mbk
    rw [hk]
    unfold bkOf
    rw [fb2]
    show b'.bk = []
    rw [hb']; exact bbk
  simp (disch := omega)
  refine num_c ?_
  simp (disch := omega)
  have z7 := E7.size
  have E8 : Ext h h8 := m8.ext_from E7 (fun c hc e => by have e' : c = wm := e; omega)
  have low : Low m' b' := ⟨mnm', by rw [hm']; exact mbk, by rw [hm']; exact mn, by rw [hm', hm]; rfl, by rw [hm', hm]; rfl, by rw [hm', hm]; rfl, by rw [hm']; exact mB, bnm', by rw [hb']; exact bbk, by rw [hb']; exact bn, by rw [hb', hb]; rfl, by rw [hb', hb]; rfl, by rw [hb', hb]; rfl, by rw [hb']; exact bB⟩
  have up : Up t := ⟨by rw [ht]; rfl, by rw [ht]; rfl, by rw [ht]; rfl, by rw [ht]; rfl, by rw [ht]; rfl⟩
  have tS : t.S = [] := by rw [ht]; rfl
  have tB : t.B = [] := by rw [ht]; rfl
  have town : ∀ k, t.isOwn k = false := fun k => by rw [ht]; rfl
  have G0 : G3 h h8 w wm t m' b' := by
    refine ⟨a8, low, up, fun k => ?_, fun z hz c hc => ?_, ⟨f1, f2⟩, fun c hc => absurd (by rw [ht]; rfl) hc⟩
    · have h1 := hcb k
      rw [bnm] at h1
      have h2 : conts [t, m', b'] nBase k = conts [b'] nBase k := by
        conv => lhs; unfold conts
        rw [if_neg (by rw [up.nm]; decide)]
        conv => lhs; unfold conts
        rw [if_neg (by rw [mnm']; decide)]
      have h3 : conts [b] nBase k = z512 := by
        have ob : b.isOwn (k / b.cs) = false := by rw [hb]; rfl
        unfold conts
        rw [if_pos bnm.symm, ob, bbk]
        split <;> rfl
      rw [h2, h1, h3]
      unfold baseB
      by_cases e : k = 3
      · rw [if_pos e, if_pos (by omega), e, hL1]
        exact sct_fill (by decide)
      · rw [if_neg e, if_neg (by omega)]
    · simp at hz
      rcases hz with rfl | rfl | rfl
      · exact footNew tS tB (by rw [ht]; rfl) (by rw [ht]; rfl) (by omega) (by omega) hc
      · exact footNew low.mS low.mB (by rw [hm', hm]; rfl) (by rw [hm', hm]; rfl) (by rw [hm']; show h.size ≤ m.b; omega) (by rw [hm']; show h.size ≤ m.m; omega) hc
      · exact footNew low.bS low.bB (by rw [hb', hb]; rfl) (by rw [hb', hb]; rfl) (by rw [hb']; show h.size ≤ b.b; omega) (by rw [hb']; show h.size ≤ b.m; omega) hc
  refine loopX1 (α := Nat × Im) (fun a => .int .i64 a.1) (fun a g => a.1 ≤ xs.length ∧ Ext h g ∧ G3 h g w wm a.2 m' b' ∧ a.2.S = [] ∧ a.2.B = [] ∧ (a.1 = 0 → ∀ k, a.2.isOwn k = false)) (fun a => xs.length - a.1) (0, t) rfl ⟨by simp, E8, G0, tS, tB, fun _ => town⟩ ?_
  clear G0 tS tB town up a8 a7 a5 a4 a2 a1
  rintro ⟨i, t⟩ g ⟨hi, eg, G, tS, tB, town⟩ X hX
  dsimp only at hi G tS tB town hX ⊢
  by_cases hin : i < xs.length
  · obtain ⟨ad, sc', hv', -⟩ := (sp.ext eg).cell hin
    obtain ⟨rfl, -⟩ : sa = some ad ∧ sc = sc' := by cases hv'; exact ⟨rfl, rfl⟩
    have ok := (sp.ok _ (List.getElem_mem hin)).ext eg
    have cells : ∀ g', Ext h g' → hcell g' (elt ad (i * 9 + 5)) = some (.int .i64 xs[i].at_) ∧ hcell g' (elt ad (i * 9 + 6)) = some (.int .i64 xs[i].n) ∧ hcell g' (elt ad (i * 9 + 7)) = some xs[i].bv := fun g' e => by
      obtain ⟨ad2, sc2, hv2, -, d5, d6, d7, d8⟩ := (sp.ext e).cell hin
      obtain ⟨rfl, -⟩ : ad = ad2 ∧ sc = sc2 := by cases hv2; exact ⟨rfl, rfl⟩
      exact ⟨d5, d6, d7⟩
    have okB : ∀ g', Ext h g' → Bytes g' xs[i].bv xs[i].b := fun g' e => ((sp.ok _ (List.getElem_mem hin)).ext e).b
    generalize hxi : xs[i] = s at *
    obtain ⟨va, vc, hbv⟩ : ∃ va vc, s.bv = .slice va s.b.length vc := by
      rcases ok.b with ⟨h1, h2⟩ | ⟨ad, c, h1, -, -⟩
      · exact ⟨none, 0, by rw [h1, h2]; rfl⟩
      · exact ⟨some ad, c, h1⟩
    have hat := ok.at_
    have hnn := ok.n
    unfold i64 at hat hnn
    obtain ⟨c5, c6, c7⟩ := cells g eg
    rw [hbv] at c7
    simp (disch := omega) [c5, c7]
    rw [← hbv]
    have step2 : ∀ g2 t2, Ext h g2 → G3 h g2 w wm t2 m' b' → t2.S = [] → t2.B = [] → hcell g2 (elt ad (i * 9 + 6)) = some (.int .i64 s.n) ∧ (∀ K2 : Value → Heap → Prop, (∀ e g3 t3, Ext h g3 → G3 h g3 w wm t3 m' b' → t3.S = [] → t3.B = [] → K2 (.int .i64 e) g3) → CallsH Tryz.prog 22 #[ptrV w, str nTop, .int .i64 s.n, .int .i64 1] g2 K2 ⟨⟩) := fun g2 t2 e2 G2 S2 B2 => by
      refine ⟨(cells g2 e2).2.1, fun K2 hk => ?_⟩
      refine Zero0_c G2.at_ okTop G2.up.nm (fTop G2.up) hnn (by omega) (noTop G2.up G2.low) B2 (fun g3 e e3 _ _ => hk e g3 t2 (e2.trans e3) ⟨G2.at_.ext e3, G2.low, G2.up, G2.base, G2.fr, G2.fw, G2.rng⟩ S2 B2) (fun x' g3 hc l a3 m3 => ?_)
      obtain ⟨F, G', hx'⟩ := l.same
      have up' : Up x' := ⟨by rw [hx']; exact G2.up.nm, by rw [hx']; exact G2.up.bk, by rw [hx']; exact G2.up.n, by rw [hx']; exact G2.up.cs, by rw [hx']; exact G2.up.bits⟩
      have hss := setTop (m := m') (b := b') G2.up G2.low up'.nm
      rw [hss] at a3
      have ft : footI t2 t2.m := .inr (.inl rfl)
      have hfm := G2.fr t2 (by simp) _ ft
      refine hk 0 g3 x' (m3.ext_from e2 (fun b hb e => by have e' : b = t2.m := e; omega)) ⟨a3, G2.low, up', fun k => ?_, fun z hz c hc => ?_, G2.fw, rng_wrote l G2.up.cs (by have := G2.up.n; omega) G2.rng⟩ (by rw [hx']; exact S2) (by rw [hx']; exact B2)
      · rw [← hss, l.others (by rw [G2.up.nm]; exact noTop G2.up G2.low) (by rw [G2.up.nm]; decide)]
        exact G2.base k
      · simp at hz
        rcases hz with rfl | rfl | rfl
        · exact G2.fr t2 (by simp) c (by rw [hx'] at hc; exact hc)
        · exact G2.fr z (by simp) c hc
        · exact G2.fr z (by simp) c hc
    have fin : ∀ g3 t3, Ext h g3 → G3 h g3 w wm t3 m' b' → t3.S = [] → t3.B = [] → X (.int .i64 ((i : Int) + 1)) g3 := fun g3 t3 e3 G3' S3 B3 => hX (i + 1, t3) _ _ (by simp) ⟨by dsimp only; omega, e3, G3', S3, B3, fun e => by simp at e⟩ (by dsimp only; omega)
    refine Write_n G.at_ okTop G.up.nm (fTop G.up) hat (noTop G.up G.low) tB (okB g eg) ok.bl (fun g1 e e1' he _ => ?_) (fun x' g1 hc l a2 m2 => ?_)
    · obtain ⟨k6, kz⟩ := step2 g1 t (eg.trans e1') ⟨G.at_.ext e1', G.low, G.up, G.base, G.fr, G.fw, G.rng⟩ tS tB
      simp (disch := omega) [k6]
      refine kz _ fun e g3 t3 e3 G3' S3 B3 => ?_
      simp (disch := omega)
      exact fin g3 t3 e3 G3' S3 B3
    · obtain ⟨F, G', hx'⟩ := l.same
      have up' : Up x' := ⟨by rw [hx']; exact G.up.nm, by rw [hx']; exact G.up.bk, by rw [hx']; exact G.up.n, by rw [hx']; exact G.up.cs, by rw [hx']; exact G.up.bits⟩
      have hss := setTop (m := m') (b := b') G.up G.low up'.nm
      rw [hss] at a2
      have ft : footI t t.m := .inr (.inl rfl)
      have hfm := G.fr t (by simp) _ ft
      have e1' : Ext h g1 := m2.ext_from eg (fun b hb e => by have e' : b = t.m := e; omega)
      have G1 : G3 h g1 w wm x' m' b' := by
        refine ⟨a2, G.low, up', fun k => ?_, fun z hz c hc => ?_, G.fw, rng_wrote l G.up.cs (by have := G.up.n; omega) G.rng⟩
        · rw [← hss, l.others (by rw [G.up.nm]; exact noTop G.up G.low) (by rw [G.up.nm]; decide)]
          exact G.base k
        · simp at hz
          rcases hz with rfl | rfl | rfl
          · exact G.fr t (by simp) c (by rw [hx'] at hc; exact hc)
          · exact G.fr z (by simp) c hc
          · exact G.fr z (by simp) c hc
      obtain ⟨k6, kz⟩ := step2 g1 x' e1' G1 (by rw [hx']; exact tS) (by rw [hx']; exact tB)
      simp (disch := omega) [k6]
      refine kz _ fun e g3 t3 e3 G3' S3 B3 => ?_
      simp (disch := omega)
      exact fin g3 t3 e3 G3' S3 B3
  · obtain rfl : i = xs.length := by omega
    simp (disch := omega)
    exact H g w wm t m' b' eg G tS tB (fun e => town (by rw [e]; rfl))
end Go.Proofs.YtoonjlhfgjnnmaaGreat

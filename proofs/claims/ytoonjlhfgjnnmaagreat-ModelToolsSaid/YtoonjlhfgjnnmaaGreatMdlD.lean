/- Model: sectors read; clusters that are its own. Model: all images of a world without any. Model: the law's works. Model: the law's steps, opened. Model: the law's plain bytes and their sectors. Model: two images beside each other, with nothing above them. Model: blocks of bytes that are none of a world's clusters. Model: bytes filled; what is told of an image without snapshots and bitmaps. Model: another backing, refused. -/
import Derived.Test.YtoonjlhfgjnnmaaGreatMdlC
import Derived.Test.YtoonjlhfgjnnmaaGreatSrtC
import Derived.Test.YtoonjlhfgjnnmaaGreatOpen
set_option linter.unusedSimpArgs false
set_option linter.unusedVariables false
namespace Go.Proofs.YtoonjlhfgjnnmaaGreat
open Go.Vc
variable {K : Value → Heap → Prop} {h : Heap}

theorem Read_c {w wm p m : Nat} {xs : List Im} {x : Im} (a : WdAt h w wm xs) (hn : OkN x.nm) (hx : findI x.nm xs = some x) (hp : p + m ≤ x.n)
    (H : ∀ b c L h', OwnT u8T 1 h' (.slice (some ⟨b, 0, none⟩) (m * 512) c) (L.map byteV) → L.length = m * 512 → (∀ i, i < m → sct L i = conts xs x.nm (p + i)) → Ext h h' → K (.tuple #[.slice (some ⟨b, 0, none⟩) (m * 512) c, .int .i64 0]) h') :
    CallsH Tryz.prog 28 #[ptrV w, str x.nm, .int .i64 p, .int .i64 m] h K ⟨⟩ := by
  refine n28_calls ?_
  unfold n28
  have hxm := (findI_mem hx).1
  have hn' := (a.im x hxm).n
  simp (disch := omega)
  refine which_c a hn fun h1 e1 => ?_
  rw [hx]
  unfold ptrV
  simp (disch := omega)
  refine there_c (x := x) ((a.ext e1).im x hxm) (by omega) (by omega) ?_
  rw [decide_eq_true (by omega)]
  simp (disch := omega)
  refine content_x (x := x) (a.ext e1) hx (by omega) fun b c L h2 o2 hL hs e2 _ => ?_
  exact H b c L h2 o2 hL hs (e1.trans e2)
theorem clusters_c {x : Im} (ax : ImAt h x) (H : K (.int .i64 (((x.n + x.cs - 1) / x.cs : Nat) : Int)) h) : CallsH Tryz.prog 41 #[ptrV x.b] h K ⟨⟩ := by
  refine n41_calls ?_
  unfold n41 ptrV
  obtain ⟨hb9, hb16⟩ := ax.bits
  have hcs := ax.cs
  have hn := ax.n
  have hcs0 := ax.cs0
  obtain ⟨W, hW⟩ : ∃ W, 2 ^ x.bits = W := ⟨_, rfl⟩
  rw [hW] at hcs
  have hWl : 512 ≤ W ∧ W ≤ 65536 := by
    rw [← hW]
    exact ⟨Nat.le_trans (by decide : 512 ≤ 2 ^ 9) (Nat.pow_le_pow_right (by decide) hb9), Nat.le_trans (Nat.pow_le_pow_right (by decide) hb16) (by decide)⟩
  have c2 := cellOf (i := 2) ax.cells rfl
  have c3 := cellOf (i := 3) ax.cells rfl
  obtain ⟨N, hN⟩ : ∃ N, N = x.n * 512 := ⟨_, rfl⟩
  rw [← hN] at c2
  have hNb : N ≤ 67108864 := by omega
  have hs1 := fun (q : Bool) (tt : Nat) (o1 o2 : Go.Operand) (g : Heap) (K : Value → Heap → Prop) => Hp_shlW (P := Tryz.prog) (q := q) (t := tt) (x := o1) (y := o2) (k' := .i64) (K := K) (h := g) (a := 1) hW (by omega) (by omega) (by omega)
  have hs2 := fun (q : Bool) (tt : Nat) (o1 o2 : Go.Operand) (g : Heap) (K : Value → Heap → Prop) => Hp_shrW (P := Tryz.prog) (q := q) (t := tt) (x := o1) (y := o2) (k' := .i64) (K := K) (h := g) (a := (N : Int) + (W : Int) - 1) hW (by omega) (by omega)
  have hq : ((N : Int) + (W : Int) - 1) / (W : Int) = (((x.n + x.cs - 1) / x.cs : Nat) : Int) := by
    have h1 : (N + W - 1) / W = (x.n + x.cs - 1) / x.cs := by
      have e1 : N + W - 1 = (x.n + x.cs - 1) * 512 + 511 := by omega
      rw [e1, hcs, Nat.mul_comm x.cs 512, ← Nat.div_div_eq_div_mul]
      congr 1
      omega
    have h2 : (N : Int) + (W : Int) - 1 = ((N + W - 1 : Nat) : Int) := by omega
    rw [h2, ← h1, Int.natCast_ediv]
  simp (disch := omega) [c2, c3, hs1, hs2, hq]
  exact H
end Go.Proofs.YtoonjlhfgjnnmaaGreat
set_option linter.unusedSimpArgs false
set_option linter.unusedVariables false
namespace Go.Proofs.YtoonjlhfgjnnmaaGreat
open Go.Vc
variable {K : Value → Heap → Prop} {h : Heap}

theorem InvokeK1 {P : Go.Program} {g : Go.FuncId} {a c1 : Go.Value} (hc : callOk P g = true) (H : CallsH P g #[a, c1] h K ⟨⟩) : InvokeH P (.func (.func g) #[] #[c1]) #[a] h K ⟨⟩ := InvokeH_func hc (by simpa using H)
theorem WdAt.none {w wm : Nat} (a : WdAt h w wm []) : MapK str h wm [] := by
  obtain ⟨M, hM, hl⟩ := a.map
  cases M with
  | nil => exact hM
  | cons p l =>
    have := hl p.1
    rw [(look2_some hM.nodup).2 (show (p.1, p.2) ∈ p :: l by simp)] at this
    simp [findI] at this
def keysV (b : Nat) : Value := .func (.func 87) #[] #[.pointer (some ⟨b, 0, none⟩)]
theorem append0_c {wm b : Nat} (hb : h[b]? = some (.cells #[.map (some wm)] 85)) (hm : MapK str h wm []) (H : ∀ h', Ext h h' → K (.slice none 0 0) h') : CallsH Tryz.prog 100 #[.slice none 0 0, keysV b] h K ⟨⟩ := by
  refine n100_calls ?_
  unfold n100
  simp (disch := omega)
  refine (⟨_, rfl⟩ : ∃ f, f = h.push (.cells #[.slice none 0 0] 105)).elim fun g eg => ?_
  have e0 : Ext h g := by rw [eg]; exact (by repeat' (first | (with_reducible exact Ext.refl _) | (with_reducible assumption) | (with_reducible refine push_ext ?_) | (with_reducible refine hset_ext ?_ ?_) | (with_reducible refine Ext.trans ?_ (by assumption)) | omega | (simp; done) | (simp; omega) | (refine Ext.size ?_) | (refine Nat.le_succ_of_le (Ext.size ?_))))
  have q0 : g[h.size]? = some (.cells #[.slice none 0 0] 105) := by rw [eg]; exact get_pushed rfl
  rw [← eg]
  clear eg
  refine JoinN_in1 (fun D g1 => D = consD g.size (.tuple #[]) ∧ g1[g.size]? = some (.deferred (some [])) ∧ Ext g g1) (fun kk hkk => ?_) (fun D g1 hD => ?_)
  · refine JoinN.mk ?_
    unfold keysV
    refine RangeC_none rfl fun oR oB oE oX oF Kp hoR hoB hrd hN hR hX => ?_
    refine InvokeK1 (by kernel_rfl) ?_
    refine (⟨_, rfl⟩ : ∃ g1, g1 = (g.push (.deferred (some []))).push oR).elim fun g1 eg => ?_
    have zg : g1.size = g.size + 2 := by simp [eg]
    have eg' : Ext g g1 := by rw [eg]; exact (by repeat' (first | (with_reducible exact Ext.refl _) | (with_reducible assumption) | (with_reducible refine push_ext ?_) | (with_reducible refine hset_ext ?_ ?_) | (with_reducible refine Ext.trans ?_ (by assumption)) | omega | (simp; done) | (simp; omega) | (refine Ext.size ?_) | (refine Nat.le_succ_of_le (Ext.size ?_))))
    have rD : g1[g.size]? = some (.deferred (some [])) := by rw [eg, get_push (by simp), get_pushed rfl]
    have rL : g1[g.size + 1]? = some oR := by rw [eg, get_pushed (by simp)]
    rw [← eg]
    clear eg
    refine n87_calls ?_
    unfold n87
    have E := e0.trans eg'
    simp (disch := omega) [cellOf (i := 0) ((E.block _ (get_some_lt hb)).trans hb) rfl]
    refine Hp_range (kt := 9) (et := 62) (by kernel_rfl) (hm.ext E) fun g2 e2 it2 z2 => ?_
    refine loopX0 (α := Unit) (fun _ g' => g' = g2) (fun _ => 0) () rfl ?_
    rintro - g3 rfl X hX'
    refine Hp_next it2 (fun i hi => absurd hi (Nat.not_lt_zero _)) (fun _ => ?_)
    simp (disch := omega)
    have l2 := (e2.block _ (get_some_lt rL)).trans rL
    have d2 := (e2.block _ (get_some_lt rD)).trans rD
    refine hN _ _ l2 ?_
    have mE := Mod.put g3 (g.size + 1) oE
    exact hkk _ _ ⟨rfl, (mE.block _ (get_some_lt d2) (by omega)).trans d2, mE.ext_from (eg'.trans e2) (fun b hb e => by have e' : b = g.size + 1 := e; omega)⟩
  · obtain ⟨rfl, d, e⟩ := hD
    have q1 := (e.block _ (get_some_lt q0)).trans q0
    simp (disch := omega) [cellOf (i := 0) q1 rfl]
    refine RetD_one' d ?_
    have mF := Mod.put g1 g.size (.deferred none)
    exact H _ (mF.ext_from (e0.trans e) (fun b hb e' => by have e9 : b = g.size := e'; have := e0.size; omega))
theorem pdq0_c {l : Int} (H : K (.tuple #[]) h) : CallsH Tryz.prog 101 #[.slice none 0 0, .int .i64 0, .int .i64 0, .int .i64 l] h K ⟨⟩ := by
  refine n101_calls ?_
  unfold n101
  refine loopX5 (α := Unit) (fun _ => .int .i64 0) (fun _ => .int .i64 0) (fun _ => .int .i64 l) (fun _ => .bool true) (fun _ => .bool true) (fun _ g => g = h) (fun _ => 0) () ⟨rfl, rfl, rfl, rfl, rfl⟩ rfl ?_
  rintro - g rfl X hX
  refine JoinN.mk ?_
  simp (disch := omega)
  refine n108_calls ?_
  unfold n108
  simp (disch := omega)
  refine loopX1 (α := Unit) (fun _ => .int .i64 1) (fun _ g' => g' = g) (fun _ => 0) () rfl rfl ?_
  rintro - g' rfl X hX
  simp (disch := omega)
  exact H
theorem sort0_c (H : K (.tuple #[]) h) : CallsH Tryz.prog 86 #[.slice none 0 0] h K ⟨⟩ := by
  refine n86_calls ?_
  unfold n86
  simp (disch := omega)
  refine len_c (n := 0) (by omega) ?_
  refine pdq0_c ?_
  exact H
theorem Names0_c {w wm : Nat} (a : WdAt h w wm []) (H : ∀ h', Ext h h' → K (.slice none 0 0) h') : CallsH Tryz.prog 54 #[ptrV w] h K ⟨⟩ := by
  refine n54_calls ?_
  unfold n54
  refine none_c a ?_
  unfold ptrV
  simp (disch := omega) [cellOf (i := 0) a.cells rfl]
  refine n77_calls ?_
  unfold n77
  simp (disch := omega)
  have e0 : Ext h (h.push (.cells #[.map (some wm)] 85)) := (by repeat' (first | (with_reducible exact Ext.refl _) | (with_reducible assumption) | (with_reducible refine push_ext ?_) | (with_reducible refine hset_ext ?_ ?_) | (with_reducible refine Ext.trans ?_ (by assumption)) | omega | (simp; done) | (simp; omega) | (refine Ext.size ?_) | (refine Nat.le_succ_of_le (Ext.size ?_))))
  refine n76_calls ?_
  unfold n76
  refine n85_calls ?_
  unfold n85
  refine append0_c (b := h.size) (get_pushed rfl) (a.none.ext e0) fun h2 e2 => ?_
  refine sort0_c ?_
  exact H h2 (e0.trans e2)
theorem All0_c {w wm : Nat} (a : WdAt h w wm []) (H : ∀ h' b, Ext h h' → K (.func (.func 55) #[] #[.pointer (some ⟨b, 0, none⟩)]) h') : CallsH Tryz.prog 26 #[ptrV w] h K ⟨⟩ := by
  refine n26_calls ?_
  unfold n26
  simp (disch := omega)
  have e0 : Ext h (h.push (.cells #[.slice none 0 0] 104)) := (by repeat' (first | (with_reducible exact Ext.refl _) | (with_reducible assumption) | (with_reducible refine push_ext ?_) | (with_reducible refine hset_ext ?_ ?_) | (with_reducible refine Ext.trans ?_ (by assumption)) | omega | (simp; done) | (simp; omega) | (refine Ext.size ?_) | (refine Nat.le_succ_of_le (Ext.size ?_))))
  refine Names0_c (a.ext e0) fun h2 e2 => ?_
  simp (disch := omega)
  refine loopX1 (α := Unit) (fun _ => .int .i64 0) (fun _ g' => g' = h2) (fun _ => 0) () rfl rfl ?_
  rintro - g' rfl X hX
  simp (disch := omega)
  exact H _ h.size (e0.trans e2)
end Go.Proofs.YtoonjlhfgjnnmaaGreat
set_option linter.unusedSimpArgs false
set_option linter.unusedVariables false
namespace Go.Proofs.YtoonjlhfgjnnmaaGreat
open Go.Vc
variable {K : Value → Heap → Prop} {h : Heap}

theorem num_c {e : Int} (H : K (.int .i64 e) h) : CallsH Tryz.prog 7 #[.int .i64 e] h K ⟨⟩ := by
  refine n7_calls ?_
  unfold n7
  exact H
theorem okN_a : OkN [97] := ⟨by decide, by decide, by decide⟩
theorem okN_b : OkN [98] := ⟨by decide, by decide, by decide⟩
set_option maxHeartbeats 1000000 in
theorem works_c (H : ∀ h', Ext h h' → K (.bool true) h') : CallsH Tryz.prog 5 #[] h K ⟨⟩ := by
  refine n5_calls ?_
  unfold n5
  refine New_c fun w wm h1 e1 a1 f1 f2 => ?_
  unfold ptrV
  simp (disch := omega)
  refine All0_c a1 fun h2 b0 e2 => ?_
  simp (disch := omega)
  have r7 : (Array.replicate 512 (Value.int .u8 0))[7]? = some (.int .u8 0) := by rw [Array.getElem?_replicate]; rfl
  simp (disch := omega) [elt_mk, r7]
  obtain ⟨g, hg⟩ : ∃ g, g = hset (h2.push (.cells (Array.replicate 512 (.int .u8 0)) u8T)) ⟨h2.size, 7, none⟩ (.int .u8 9) := ⟨_, rfl⟩
  have e3 : Ext h2 g := by rw [hg]; exact (by repeat' (first | (with_reducible exact Ext.refl _) | (with_reducible assumption) | (with_reducible refine push_ext ?_) | (with_reducible refine hset_ext ?_ ?_) | (with_reducible refine Ext.trans ?_ (by assumption)) | omega | (simp; done) | (simp; omega) | (refine Ext.size ?_) | (refine Nat.le_succ_of_le (Ext.size ?_))))
  obtain ⟨B, hB, hB7, oB⟩ : ∃ B : List UInt8, B.length = 512 ∧ B[7]? = some 9 ∧ OwnT u8T 1 g (.slice (some ⟨h2.size, 0, none⟩) 512 512) (B.map byteV) := by
    have h512 : ∃ Z : List UInt8, Z = List.replicate 512 0 ∧ Z.length = 512 := ⟨_, rfl, List.length_replicate⟩
    obtain ⟨Z, hZ, hZl⟩ := h512
    have o : OwnT u8T 1 (h2.push (.cells (Array.replicate 512 (.int .u8 0)) u8T)) (.slice (some ⟨h2.size, 0, none⟩) 512 512) (Z.map byteV) := by rw [hZ]; exact own_make
    refine ⟨Z.set 7 9, by rw [List.length_set]; exact hZl, by rw [List.getElem?_set]; simp [hZl], ?_⟩
    have := o.set (i := 7) (by rw [List.length_map, hZl]; omega) (u := byteV 9)
    rw [← List.map_set] at this
    rw [hg]
    exact this
  rw [show hset (h2.push (.cells (Array.replicate 512 (.int .u8 0)) 5)) ⟨h2.size, 7, none⟩ (.int .u8 9) = g from hg.symm]
  clear hg r7
  have a2 := a1.ext (e2.trans e3)
  rw [show (.int .i64 1536 : Value) = .int .i64 ((3 * 512 : Nat) : Int) from rfl, show (.pointer (some ⟨w, 0, none⟩) : Value) = ptrV w from rfl]
  refine Create_c (n := 3) (bits := 9) (bk := []) a2 okN_a (by omega) (by omega) rfl (.inl rfl) (by simp) (fun x h3 hx _ a3 m3 fb fm => ?_) (fun h3 hd _ => absurd rfl (hd 0 (by omega)))
  have xnm : x.nm = [97] := by rw [hx]; rfl
  have xn : x.n = 3 := by rw [hx]; rfl
  have xB : x.B = [] := by rw [hx]; rfl
  have fx : findI x.nm [x] = some x := by unfold findI; rw [if_pos rfl]
  have hwm : wm < h1.size := a1.none.lt
  have z2 := e2.size
  have oB3 := oB.mod m3 (fun b hb e => by have e' : b = wm := e; have hb' : h2.size = b := Option.some.inj hb; omega)
  have bB : Bytes h3 (.slice (some ⟨h2.size, 0, none⟩) 512 512) B := by
    have := oB3.part (lo := 0) (hi := 512) (c' := 512) (Nat.zero_le _) (Nat.le_refl _) (Nat.le_refl _)
    rw [sub_zero, List.drop_zero, List.take_of_length_le (Nat.le_of_eq hB)] at this
    exact this
  have xbk : x.bk = [] := by rw [hx]; rfl
  rw [← xnm]
  refine Write_c (p := 1) (s := B) a3 (by rw [xnm]; exact okN_a) fx (by omega) (fun y hy => ?_) xB bB (by omega) (fun h4 e _ _ hno => absurd ?_ hno) (fun x' h4 _ hl a4 m4 => ?_)
  · simp at hy
    subst hy
    rw [xbk, xnm]
    decide
  · rw [hB, xn]
    decide
  rw [hB] at hl
  obtain ⟨F, G, hx'⟩ := hl.same
  have xnm' : x'.nm = [97] := by rw [hx']; exact xnm
  have xbk' : x'.bk = [] := by rw [hx']; exact xbk
  have hset1 : setI x' [x] = [x'] := by
    unfold setI
    simp only [List.map_cons, List.map_nil]
    rw [if_pos (by rw [xnm, xnm'])]
  have hc1 := hl.cont 1
  rw [hset1] at a4 hc1
  have fa : findI [97] [x'] = some x' := by unfold findI; rw [if_pos xnm'.symm]
  rw [show (.int .i64 2048 : Value) = .int .i64 ((4 * 512 : Nat) : Int) from rfl, xnm]
  refine Create_c (n := 4) (bits := 10) (bk := [97]) a4 okN_b (by omega) (by omega) ?_ (.inr ⟨okN_a, _, fa⟩) (by simp) (fun y h5 hy _ a5 m5 _ _ => ?_) (fun h5 hd _ => absurd ?_ (hd 1 (by omega)))
  · unfold findI
    rw [if_neg (by rw [xnm']; decide)]
    rfl
  · have ynm : y.nm = [98] := by rw [hy]; rfl
    have yn : y.n = 4 := by rw [hy]; rfl
    have fy : findI y.nm (y :: [x']) = some y := by unfold findI; rw [if_pos rfl]
    rw [← ynm]
    refine Read_c (p := 0) (m := 4) a5 (by rw [ynm]; exact okN_b) fy (by omega) fun b c L h6 o6 hL hs e6 => ?_
    have hL519 : L[519]? = some 9 := by
      have h1 := hs 1 (by omega)
      rw [show 0 + 1 = 1 from rfl] at h1
      have h2 : conts (y :: [x']) y.nm 1 = conts [x'] [97] 1 := by
        conv => lhs; unfold conts
        rw [if_pos rfl, if_pos (by rw [yn]; decide)]
        have : y.isOwn (1 / y.cs) = false := by rw [hy]; rfl
        rw [this]
        rw [hy]; rfl
      rw [h2, ← xnm, hc1, if_pos (by decide)] at h1
      have h3 := congrArg (fun l : List UInt8 => l[7]?) h1
      rw [sct_get (by omega), sct_get (by omega)] at h3
      have h4 : B[(1 - Int.toNat 1) * 512 + 7]? = some 9 := hB7
      rw [h4] at h3
      exact h3
    have hl2 : L.length = 2048 := hL
    have c519 : hcell h6 ⟨b, 519, none⟩ = some (.int .u8 9) := by
      have h1 := (o6.cell (i := 519) (by rw [List.length_map, hl2]; omega)).1
      rw [h1]
      have h2 : L[519]'(by omega) = 9 := by
        rw [List.getElem?_eq_getElem (by omega)] at hL519
        exact Option.some.inj hL519
      rw [List.getElem_map, h2]; rfl
    simp (disch := omega)
    refine num_c ?_
    refine num_c ?_
    simp (disch := omega)
    refine num_c ?_
    simp (disch := omega)
    refine num_c ?_
    simp (disch := omega) [elt_mk, c519]
    have E3 := (e1.trans e2).trans e3
    have zg := E3.size
    have F3 : Ext h h3 := m3.ext_from E3 (fun b hb e => by have e' : b = wm := e; omega)
    have F4 : Ext h h4 := m4.ext_from F3 (fun b hb e => by have e' : b = x.m := e; omega)
    have F5 : Ext h h5 := m5.ext_from F4 (fun b hb e => by have e' : b = wm := e; omega)
    exact H h6 (F5.trans e6)
  · show bkOf [x'] [97] = []
    unfold bkOf
    rw [fa]
    exact xbk'
end Go.Proofs.YtoonjlhfgjnnmaaGreat
set_option linter.unusedSimpArgs false
set_option linter.unusedVariables false
namespace Go.Proofs.YtoonjlhfgjnnmaaGreat
open Go.Vc
variable {K : Value → Heap → Prop} {h : Heap}

def i64 (n : Int) : Prop := -9223372036854775808 ≤ n ∧ n < 9223372036854775808
structure Stp where
  kind : Int
  bits : Int
  nm : List UInt8
  as_ : List UInt8
  other : List UInt8
  at_ : Int
  n : Int
  bv : Value
  b : List UInt8
  yes : Bool
def Stp.cells (x : Stp) : List Value := [.int .i64 x.kind, .int .i64 x.bits, str x.nm, str x.as_, str x.other, .int .i64 x.at_, .int .i64 x.n, x.bv, .bool x.yes]
structure StpOk (h : Heap) (x : Stp) : Prop where
  kind : i64 x.kind
  bits : i64 x.bits
  at_ : i64 x.at_
  n : i64 x.n
  b : Bytes h x.bv x.b
  bl : x.b.length < 9223372036854775808
theorem StpOk.ext {h' : Heap} {x : Stp} (a : StpOk h x) (e : Ext h h') : StpOk h' x := ⟨a.kind, a.bits, a.at_, a.n, a.b.ext e, a.bl⟩
structure Sps (h : Heap) (v : Value) (xs : List Stp) : Prop where
  slc : Slc 9 h v (fun us x => us = x.cells) xs
  ok : ∀ x ∈ xs, StpOk h x
  len : xs.length < 9223372036854775808
theorem slc_ext {α : Type} {s : Nat} {h' : Heap} {v : Value} {R : List Value → α → Prop} {xs : List α} (a : Slc s h v R xs) (e : Ext h h') : Slc s h' v R xs := by
  rcases a with a | ⟨a, c, h1, h2, h3⟩
  · exact .inl a
  · refine .inr ⟨a, c, h1, h2, fun i hi => ?_⟩
    obtain ⟨us, h4, h5, h6⟩ := h3 i hi
    exact ⟨us, h4, h5.ext e, h6⟩
theorem Sps.ext {h' : Heap} {v : Value} {xs : List Stp} (a : Sps h v xs) (e : Ext h h') : Sps h' v xs := ⟨slc_ext a.slc e, fun x hx => (a.ok x hx).ext e, a.len⟩
theorem Sps.form {v : Value} {xs : List Stp} (a : Sps h v xs) : ∃ o c, v = .slice o xs.length c := Slc.form a.slc
theorem Sps.cell {v : Value} {xs : List Stp} (s : Sps h v xs) {i : Nat} (hi : i < xs.length) : ∃ a c, v = .slice (some a) xs.length c ∧ hcell h (elt a (i * 9)) = some (.int .i64 xs[i].kind) ∧ hcell h (elt a (i * 9 + 5)) = some (.int .i64 xs[i].at_) ∧
    hcell h (elt a (i * 9 + 6)) = some (.int .i64 xs[i].n) ∧ hcell h (elt a (i * 9 + 7)) = some xs[i].bv ∧ hcell h (elt a (i * 9 + 8)) = some (.bool xs[i].yes) := by
  rcases s.slc with ⟨h1, rfl⟩ | ⟨a, c, h1, h2, h3⟩
  · cases hi
  · obtain ⟨us, -, h5, rfl⟩ := h3 i hi
    have := fun j hj => h5 j hj
    unfold Stp.cells at this
    have e0 := this 0 (by simp)
    have e5 := this 5 (by simp)
    have e6 := this 6 (by simp)
    have e7 := this 7 (by simp)
    have e8 := this 8 (by simp)
    rw [elt_elt] at e0 e5 e6 e7 e8
    exact ⟨a, c, h1, e0, e5, e6, e7, e8⟩
section
open Go Go.ChangeShapes Go.WideShapes Go.ChangeAt Go.RowKit Go.Deep
variable {H : Type} {enc : TypeId × Value → H} {w : World} {base : Nat} {sp : Nat → Bool} {held : Bool}
theorem i64_of {n : Int} (h : IntKind.i64.min ≤ n ∧ n ≤ IntKind.i64.max) : i64 n := by
  have h1 : IntKind.i64.min = -9223372036854775808 := by decide
  have h2 : IntKind.i64.max = 9223372036854775807 := by decide
  unfold i64; omega
theorem max63 {n : Nat} (h : n ≤ maxLen) : n < 9223372036854775808 := Nat.lt_of_le_of_lt h (by decide)
theorem slc_ok {α : Type} {s : Nat} {h : Heap} {v : Value} {R : List Value → α → Prop} {q : α → Prop} {f : α → List Value} {xs : List α} (a : Slc s h v R xs) (hR : ∀ us x, R us x → us = f x ∧ q x) : Slc s h v (fun us x => us = f x) xs ∧ ∀ x ∈ xs, q x := by
  rcases a with ⟨rfl, rfl⟩ | ⟨a, c, rfl, h2, h3⟩
  · exact ⟨.inl ⟨rfl, rfl⟩, fun x hx => by cases hx⟩
  · refine ⟨.inr ⟨a, c, rfl, h2, fun i hi => ?_⟩, fun x hx => ?_⟩
    · obtain ⟨us, h4, h5, h6⟩ := h3 i hi
      exact ⟨us, h4, h5, (hR _ _ h6).1⟩
    · obtain ⟨i, hi, rfl⟩ := List.getElem_of_mem hx
      obtain ⟨us, h4, h5, h6⟩ := h3 i hi
      exact (hR _ _ h6).2
theorem len9 {α : Type} {l : List α} (h : l.length = 9) : ∃ a0 a1 a2 a3 a4 a5 a6 a7 a8, l = [a0, a1, a2, a3, a4, a5, a6, a7, a8] := by
  match l, h with
  | [a0, a1, a2, a3, a4, a5, a6, a7, a8], _ => exact ⟨_, _, _, _, _, _, _, _, _, rfl⟩
set_option maxRecDepth 100000 in
theorem laid_step {cs : List Value} (h : Laid enc Tryz.prog w base sp held 34 cs) : ∃ x : Stp, cs = x.cells ∧ StpOk w.heap x := by
  obtain ⟨hl, hL⟩ := h.flds (L := [(3, 0, 1), (3, 1, 1), (9, 2, 1), (9, 3, 1), (9, 4, 1), (2, 5, 1), (2, 6, 1), (32, 7, 1), (4, 8, 1)]) (n := 9) (by kernel_rfl) (by kernel_rfl)
  obtain ⟨c0, c1, c2, c3, c4, c5, c6, c7, c8, rfl⟩ := len9 hl
  obtain ⟨n0, hn0, r0⟩ := (hL 0 _ _ _ rfl).int (k := .i64) (by kernel_rfl)
  obtain rfl : c0 = .int .i64 n0 := by simpa using hn0
  obtain ⟨n1, hn1, r1⟩ := (hL 1 _ _ _ rfl).int (k := .i64) (by kernel_rfl)
  obtain rfl : c1 = .int .i64 n1 := by simpa using hn1
  obtain ⟨l2, hn2, r2⟩ := (hL 2 _ _ _ rfl).str (by kernel_rfl)
  obtain rfl : c2 = str l2 := by simpa using hn2
  obtain ⟨l3, hn3, r3⟩ := (hL 3 _ _ _ rfl).str (by kernel_rfl)
  obtain rfl : c3 = str l3 := by simpa using hn3
  obtain ⟨l4, hn4, r4⟩ := (hL 4 _ _ _ rfl).str (by kernel_rfl)
  obtain rfl : c4 = str l4 := by simpa using hn4
  obtain ⟨n5, hn5, r5⟩ := (hL 5 _ _ _ rfl).int (k := .i64) (by kernel_rfl)
  obtain rfl : c5 = .int .i64 n5 := by simpa using hn5
  obtain ⟨n6, hn6, r6⟩ := (hL 6 _ _ _ rfl).int (k := .i64) (by kernel_rfl)
  obtain rfl : c6 = .int .i64 n6 := by simpa using hn6
  obtain ⟨v7, b7, hn7, hB7, r7⟩ := (hL 7 _ _ _ rfl).bytes (e := 5) (by kernel_rfl) (by kernel_rfl) (by kernel_rfl)
  obtain rfl : c7 = v7 := by simpa using hn7
  obtain ⟨b8, hn8⟩ := (hL 8 _ _ _ rfl).bool (by kernel_rfl)
  obtain rfl : c8 = .bool b8 := by simpa using hn8
  exact ⟨⟨n0, n1, l2, l3, l4, n5, n6, c7, b7, b8⟩, rfl, i64_of r0, i64_of r1, i64_of r5, i64_of r6, hB7, max63 r7⟩
set_option maxRecDepth 100000 in
theorem open_steps {v : Value} {r : Reach} {b0 : Nat} {ps : List MemPlace} {d : DataW H} (hval : Value.okWide Tryz.prog w r b0 22 v) (hd : DataW.Trod enc Tryz.prog w base sp held 22 v d ps) : ∃ xs : List Stp, Sps w.heap v xs := by
  obtain ⟨v', xs, hv, hs, hlen⟩ := (Laid.top hval hd (by kernel_rfl)).slice (e := 34) (R := fun us (x : Stp) => us = x.cells ∧ StpOk w.heap x) (by kernel_rfl) (fun us hu => laid_step hu)
  obtain rfl : v = v' := by simpa using hv
  have hc : Program.cellsOf Tryz.prog 34 = 9 := by kernel_rfl
  rw [hc] at hs
  obtain ⟨s1, s2⟩ := slc_ok (f := Stp.cells) hs (fun us x hx => hx)
  exact ⟨xs, s1, s2, max63 hlen⟩
end
end Go.Proofs.YtoonjlhfgjnnmaaGreat
set_option linter.unusedSimpArgs false
set_option linter.unusedVariables false
namespace Go.Proofs.YtoonjlhfgjnnmaaGreat
open Go.Vc

theorem take_sct {A B : List UInt8} {x : Nat} (hA : x * 512 ≤ A.length) (hB : x * 512 ≤ B.length) (h : ∀ j, j < x → sct A j = sct B j) : A.take (x * 512) = B.take (x * 512) := by
  refine ext_sct (n := x) (by rw [List.length_take]; omega) (by rw [List.length_take]; omega) fun k hk => ?_
  have h1 : k * 512 + 512 ≤ x * 512 := by
    have := Nat.mul_le_mul_right 512 hk
    rw [Nat.succ_mul] at this
    exact this
  rw [sct_take h1, sct_take h1]
  exact h k hk
/-- Plain bytes that tell what an image tells. -/
structure Plain (xs : List Im) (nm : List UInt8) (A : List UInt8) (n : Nat) : Prop where
  len : A.length = n * 512
  tell : ∀ k, k < n → sct A k = conts xs nm k
/-- Both written alike. -/
theorem Plain.over {xs : List Im} {x x' : Im} {A s : List UInt8} {n p m : Nat} (a : Plain xs x.nm A n) (l : Wrote xs x x' p m s) (hs : s.length = m * 512) (hp : p + m ≤ n) : Plain (setI x' xs) x.nm (over A (p * 512) s) n := by
  have hp2 : p * 512 + s.length ≤ A.length := by rw [hs, a.len, ← Nat.add_mul]; exact Nat.mul_le_mul_right 512 hp
  refine ⟨by rw [over_length hp2]; exact a.len, fun k hk => ?_⟩
  rw [sct_over hs hp2, l.cont k]
  by_cases h : p ≤ k ∧ k < p + m
  · rw [if_pos h, if_pos h]
  · rw [if_neg h, if_neg h]; exact a.tell k hk
/-- The other one stays. -/
theorem Plain.other {xs : List Im} {x x' : Im} {nm A s : List UInt8} {n p m : Nat} (a : Plain xs nm A n) (l : Wrote xs x x' p m s) (hab : ∀ y ∈ xs, y.bk ≠ x.nm) (hne : nm ≠ x.nm) : Plain (setI x' xs) nm A n :=
  ⟨a.len, fun k hk => by rw [l.others hab hne]; exact a.tell k hk⟩
theorem Plain.same {xs : List Im} {n1 n2 A B : List UInt8} {n : Nat} (a : Plain xs n1 A n) (b : Plain xs n2 B n) : A = B ↔ ∀ k, k < n → conts xs n1 k = conts xs n2 k := by
  constructor
  · rintro rfl k hk
    rw [← a.tell k hk, b.tell k hk]
  · intro h
    exact ext_sct a.len b.len fun k hk => by rw [a.tell k hk, b.tell k hk, h k hk]
theorem Plain.zero {xs : List Im} {nm : List UInt8} {n : Nat} (h : ∀ k, conts xs nm k = z512) : Plain xs nm (List.replicate (n * 512) 0) n :=
  ⟨List.length_replicate, fun k hk => by
    rw [h k]
    have := Nat.mul_le_mul_right 512 hk
    exact sct_rep (by omega)⟩
end Go.Proofs.YtoonjlhfgjnnmaaGreat
set_option linter.unusedSimpArgs false
set_option linter.unusedVariables false
namespace Go.Proofs.YtoonjlhfgjnnmaaGreat
open Go.Vc
variable {h : Heap}

/-- An image that a write may change. -/
structure Free (xs : List Im) (nm : List UInt8) (n : Nat) (x : Im) : Prop where
  ok : OkN nm
  nm_ : x.nm = nm
  find : findI nm xs = some x
  n_ : x.n = n
  B : x.B = []
/-- Nobody is above anybody. -/
def Flat (xs : List Im) : Prop := ∀ y ∈ xs, y.bk = []
theorem Flat.none {xs : List Im} (a : Flat xs) {nm : List UInt8} (h : OkN nm) : ∀ y ∈ xs, y.bk ≠ nm := fun y hy e => h.ne (by rw [← e]; exact a y hy)
theorem Flat.set {xs : List Im} {x x' : Im} {p m : Nat} {s : List UInt8} (a : Flat xs) (hx : x ∈ xs) (l : Wrote xs x x' p m s) : Flat (setI x' xs) := fun y hy => by
  rcases mem_setI hy with rfl | ⟨hy, -⟩
  · obtain ⟨F, G, rfl⟩ := l.same
    exact a x hx
  · exact a y hy
theorem Free.set {xs : List Im} {nm : List UInt8} {n p m : Nat} {x x' : Im} {s : List UInt8} (a : Free xs nm n x) (l : Wrote xs x x' p m s) : Free (setI x' xs) nm n x' := by
  obtain ⟨F, G, rfl⟩ := l.same
  have hx : findI ({ x with F := F, G := G } : Im).nm xs = some x := by
    show findI x.nm xs = some x
    rw [a.nm_]; exact a.find
  refine ⟨a.ok, a.nm_, ?_, a.n_, a.B⟩
  rw [findI_setI hx, if_pos a.nm_.symm]
theorem Free.other {xs : List Im} {nm nm2 : List UInt8} {n n2 p m : Nat} {x y x' : Im} {s : List UInt8} (a : Free xs nm n x) (b : Free xs nm2 n2 y) (hne : nm ≠ nm2) (l : Wrote xs x x' p m s) : Free (setI x' xs) nm2 n2 y := by
  obtain ⟨F, G, rfl⟩ := l.same
  have hx : findI ({ x with F := F, G := G } : Im).nm xs = some x := by
    show findI x.nm xs = some x
    rw [a.nm_]; exact a.find
  refine ⟨b.ok, b.nm_, ?_, b.n_, b.B⟩
  rw [findI_setI hx, if_neg (show nm2 ≠ x.nm by rw [a.nm_]; exact fun e => hne e.symm)]
  exact b.find
end Go.Proofs.YtoonjlhfgjnnmaaGreat
set_option linter.unusedSimpArgs false
set_option linter.unusedVariables false
namespace Go.Proofs.YtoonjlhfgjnnmaaGreat
open Go.Vc
variable {h : Heap}

theorem ImAt.foot_u8 {x : Im} {b : Nat} {arr : Array Value} (a : ImAt h x) (hb : h[b]? = some (.cells arr u8T)) : ¬ footI x b := by
  have hm : ∀ m F, MapK ik h m F → b ≠ m := fun m F hm e => by
    obtain ⟨es, cl, h1, _⟩ := hm
    rw [← e, hb] at h1
    cases h1
  rintro (e | e | ⟨s, hs, e⟩ | ⟨y, hy, e⟩ | e | e)
  · have := a.cells
    rw [← e, hb] at this
    injection this with h1
    injection h1 with h2 h3
    exact absurd h3 (by decide)
  · exact hm _ _ a.cl.map e
  · exact hm _ _ (a.snc s hs).map e
  · exact hm _ _ (a.bmd y hy) e
  · exact a.sn.ne e hb (by decide) rfl
  · exact a.bm.ne e hb (by decide) rfl
/-- A barred block written to. -/
theorem WdAt.modZ {w wm ba : Nat} {xs : List Im} {h' : Heap} {arr : Array Value} (a : WdAt h w wm xs) (m : Mod (· = ba) h h') (hz : ∀ x ∈ xs, ba ∈ x.Z) (hb : h[ba]? = some (.cells arr u8T)) : WdAt h' w wm xs := by
  obtain ⟨M, hM, hl⟩ := a.map
  have hw : ¬ w = ba := fun e => by
    have := a.cells
    rw [e, hb] at this
    injection this with h1
    injection h1 with h2 h3
    exact absurd h3 (by decide)
  have hwm : ¬ wm = ba := fun e => by
    obtain ⟨es, cl, h1, _⟩ := hM
    rw [e, hb] at h1
    cases h1
  exact ⟨(m.block _ (get_some_lt a.cells) hw).trans a.cells, ⟨M, hM.mod m hwm, hl⟩, a.wl, fun x hx => (a.im x hx).mod m (fun b hf e => (a.im x hx).foot_u8 hb (e ▸ hf)) (fun b _ _ hn e => hn (e ▸ hz x hx)), a.ap, a.wf, a.nm, a.few⟩
def barI (Z : List Nat) (x : Im) : Im := { x with Z := Z }
theorem findI_bar {Z : List Nat} {nm : List UInt8} : ∀ {xs : List Im}, findI nm (xs.map (barI Z)) = (findI nm xs).map (barI Z)
  | [] => rfl
  | x :: r => by
    rw [List.map_cons]
    unfold findI
    by_cases e : nm = x.nm
    · rw [if_pos e, if_pos (show nm = (barI Z x).nm from e)]; rfl
    · rw [if_neg e, if_neg (show ¬ nm = (barI Z x).nm from e), findI_bar]
theorem chain_bar {Z : List Nat} : ∀ {xs : List Im}, ChainI xs → ChainI (xs.map (barI Z))
  | [], _ => trivial
  | x :: r, h => by
    rw [List.map_cons]
    refine ⟨h.1.imp id ?_, chain_bar h.2⟩
    rintro ⟨y, hy⟩
    exact ⟨barI Z y, by rw [findI_bar]; show Option.map _ (findI x.bk r) = _; rw [hy]; rfl⟩
theorem conts_bar {Z : List Nat} {k : Nat} : ∀ {xs : List Im} {nm : List UInt8}, conts (xs.map (barI Z)) nm k = conts xs nm k
  | [], _ => rfl
  | x :: r, nm => by
    rw [List.map_cons]
    unfold conts
    rw [conts_bar, conts_bar]
    rfl
/-- Blocks barred while there is no cluster. -/
theorem WdAt.bar {w wm : Nat} {xs : List Im} {Z : List Nat} (a : WdAt h w wm xs) (hF : ∀ x ∈ xs, x.F = [] ∧ x.S = []) (hZ : ∀ b ∈ Z, b < h.size) : WdAt h w wm (xs.map (barI Z)) := by
  obtain ⟨M, hM, hl⟩ := a.map
  refine ⟨a.cells, ⟨M, hM, fun nm => ?_⟩, ⟨?_, fun y hy => ?_, chain_bar a.wl.ch⟩, fun y hy => ?_, fun y hy z hz hne => ?_, fun y hy => ?_, fun y hy => ?_, by rw [List.length_map]; exact a.few⟩
  · rw [hl, findI_bar]
    cases findI nm xs <;> rfl
  · rw [List.map_map]
    exact a.wl.nd
  · obtain ⟨x, hx, rfl⟩ := List.mem_map.1 hy
    exact a.wl.ne x hx
  · obtain ⟨x, hx, rfl⟩ := List.mem_map.1 hy
    have ax := a.im x hx
    obtain ⟨f1, f2⟩ := hF x hx
    refine ⟨ax.cells, ⟨ax.cl.map, ax.cl.byt, fun c v b hv => ?_⟩, ax.n, ax.bits, ax.cs, ax.sn, fun s hs => ?_, ax.bm, ax.bmd, ax.mne, ax.bnd, hZ⟩
    · have hv' : look2 c x.F = some v := hv
      rw [f1] at hv'
      cases hv'
    · have hs' : s ∈ x.S := hs
      rw [f2] at hs'
      cases hs'
  · obtain ⟨x, hx, rfl⟩ := List.mem_map.1 hy
    obtain ⟨x2, hx2, rfl⟩ := List.mem_map.1 hz
    exact a.ap x hx x2 hx2 hne
  · obtain ⟨x, hx, rfl⟩ := List.mem_map.1 hy
    exact a.wf x hx
  · obtain ⟨x, hx, rfl⟩ := List.mem_map.1 hy
    exact a.nm x hx
variable {K : Value → Heap → Prop}
theorem WriteF_c {w wm n : Nat} {xs : List Im} {x : Im} {nm : List UInt8} {p : Int} {vb : Value} {s : List UInt8} (a : WdAt h w wm xs) (f : Free xs nm n x) (fl : Flat xs) (hp : -9223372036854775808 ≤ p ∧ p < 9223372036854775808) (bs : Bytes h vb s) (hsl : s.length < 9223372036854775808)
    (H0 : ∀ h' e, Ext h h' → e ≠ 0 → K (.int .i64 e) h')
    (H1 : ∀ x' h', s.length % 512 = 0 ∧ 0 ≤ p ∧ p + (s.length / 512 : Nat) ≤ n → Wrote xs x x' p.toNat (s.length / 512) s → WdAt h' w wm (setI x' xs) → Mod (· = x.m) h h' → K (.int .i64 0) h') :
    CallsH Tryz.prog 11 #[ptrV w, str nm, .int .i64 p, vb] h K ⟨⟩ := by
  obtain rfl := f.nm_
  exact Write_c a f.ok f.find hp (fl.none f.ok) f.B bs hsl (fun h' e e1 e2 _ => H0 h' e e1 e2) (fun x' h' c l a' m => H1 x' h' (by rw [← f.n_]; exact c) l a' m)
theorem CompareF_c {w wm n m : Nat} {xs : List Im} {x y : Im} {nx ny : List UInt8} (a : WdAt h w wm xs) (fx : Free xs nx n x) (fy : Free xs ny m y)
    (HS : ∀ h', Ext h h' → (∀ k, k < max n m → conts xs nx k = conts xs ny k) → K (.tuple #[.int .i64 0, .bool true, .int .i64 0]) h')
    (HD : ∀ h' k, Ext h h' → k < max n m → conts xs nx k ≠ conts xs ny k → (∀ j, j < k → conts xs nx j = conts xs ny j) → K (.tuple #[.int .i64 k, .bool false, .int .i64 0]) h') :
    CallsH Tryz.prog 17 #[ptrV w, str nx, str ny] h K ⟨⟩ := by
  obtain rfl := fx.nm_
  obtain rfl := fy.nm_
  exact Compare_c a fx.ok fy.ok fx.find fy.find (fun h' e hs => HS h' e (by rw [← fx.n_, ← fy.n_]; exact hs)) (fun h' k e hk => HD h' k e (by rw [← fx.n_, ← fy.n_]; exact hk))
/-- The law's state. -/
structure LS (g : Heap) (w wm ba bb n m : Nat) (ws : List Im) (x y : Im) (A B : List UInt8) : Prop where
  at_ : WdAt g w wm ws
  fx : Free ws [97] n x
  fy : Free ws [98] m y
  fl : Flat ws
  pa : Plain ws [97] A 40
  pb : Plain ws [98] B 40
  oa : OwnT u8T 1 g (.slice (some ⟨ba, 0, none⟩) 20480 20480) (A.map byteV)
  ob : OwnT u8T 1 g (.slice (some ⟨bb, 0, none⟩) 20480 20480) (B.map byteV)
  za : ∀ z ∈ ws, ba ∈ z.Z ∧ bb ∈ z.Z
theorem Wrote.bars {xs : List Im} {x x' : Im} {p m : Nat} {s : List UInt8} {q : List Nat → Prop} (l : Wrote xs x x' p m s) (hx : x ∈ xs) (hq : ∀ z ∈ xs, q z.Z) : ∀ z ∈ setI x' xs, q z.Z := fun z hz => by
  rcases mem_setI hz with rfl | ⟨hz, -⟩
  · obtain ⟨F, G, rfl⟩ := l.same
    exact hq x hx
  · exact hq z hz
theorem LS.wrA {g g2 g3 : Heap} {w wm ba bb n m p q : Nat} {ws : List Im} {x x' y : Im} {A B s : List UInt8} (a : LS g w wm ba bb n m ws x y A B) (hab : ba ≠ bb) (l : Wrote ws x x' p q s) (hs : s.length = q * 512) (hp : p + q ≤ 40)
    (a2 : WdAt g2 w wm (setI x' ws)) (m2 : Mod (· = x.m) g g2) (o3 : OwnT u8T 1 g3 (.slice (some ⟨ba, 0, none⟩) 20480 20480) ((over A (p * 512) s).map byteV)) (m3 : Mod (· = ba) g2 g3) : LS g3 w wm ba bb n m (setI x' ws) x' y (over A (p * 512) s) B := by
  have hxm := findI_mem a.fx.find
  have hz := l.bars (q := fun Z => ba ∈ Z ∧ bb ∈ Z) hxm.1 a.za
  obtain ⟨es, cl, h1, _⟩ := (a.at_.im x hxm.1).cl.map
  have m2a : ∀ b0 {L : List Value}, OwnT u8T 1 g (.slice (some ⟨b0, 0, none⟩) 20480 20480) L → OwnT u8T 1 g2 (.slice (some ⟨b0, 0, none⟩) 20480 20480) L := fun b0 L o => o.mod m2 (fun b hb e => o.neM hb h1 e)
  obtain ⟨arr, ha⟩ := (m2a ba a.oa).tag rfl
  have pa := a.pa
  have pb := a.pb
  have nx := a.fx.nm_
  refine ⟨a2.modZ m3 (fun x hx => (hz x hx).1) ha, a.fx.set l, a.fx.other a.fy (by decide) l, a.fl.set hxm.1 l, ?_, ?_, o3, (m2a bb a.ob).mod m3 (fun b hb e => hab (by have e' : b = ba := e; have h' : bb = b := Option.some.inj hb; rw [h', e'])), hz⟩
  · rw [← nx] at pa ⊢
    exact pa.over l hs hp
  · exact pb.other l (a.fl.none (by rw [nx]; exact a.fx.ok)) (by rw [nx]; decide)
theorem LS.wrB {g g2 g3 : Heap} {w wm ba bb n m p q : Nat} {ws : List Im} {x x' y : Im} {A B s : List UInt8} (a : LS g w wm ba bb n m ws y x B A) (hab : ba ≠ bb) (l : Wrote ws x x' p q s) (hs : s.length = q * 512) (hp : p + q ≤ 40)
    (a2 : WdAt g2 w wm (setI x' ws)) (m2 : Mod (· = x.m) g g2) (o3 : OwnT u8T 1 g3 (.slice (some ⟨bb, 0, none⟩) 20480 20480) ((over A (p * 512) s).map byteV)) (m3 : Mod (· = bb) g2 g3) : LS g3 w wm ba bb n m (setI x' ws) y x' B (over A (p * 512) s) := by
  have hxm := findI_mem a.fy.find
  have hz := l.bars (q := fun Z => ba ∈ Z ∧ bb ∈ Z) hxm.1 a.za
  obtain ⟨es, cl, h1, _⟩ := (a.at_.im x hxm.1).cl.map
  have m2a : ∀ b0 {L : List Value}, OwnT u8T 1 g (.slice (some ⟨b0, 0, none⟩) 20480 20480) L → OwnT u8T 1 g2 (.slice (some ⟨b0, 0, none⟩) 20480 20480) L := fun b0 L o => o.mod m2 (fun b hb e => o.neM hb h1 e)
  obtain ⟨arr, ha⟩ := (m2a bb a.ob).tag rfl
  have pa := a.pa
  have pb := a.pb
  have nx := a.fy.nm_
  refine ⟨a2.modZ m3 (fun x hx => (hz x hx).2) ha, a.fy.other a.fx (by decide) l, a.fy.set l, a.fl.set hxm.1 l, ?_, ?_, (m2a ba a.oa).mod m3 (fun b hb e => hab (by have e' : b = bb := e; have h' : ba = b := Option.some.inj hb; rw [h', e'])), o3, hz⟩
  · exact pa.other l (a.fl.none (by rw [nx]; exact a.fy.ok)) (by rw [nx]; decide)
  · rw [← nx] at pb ⊢
    exact pb.over l hs hp
end Go.Proofs.YtoonjlhfgjnnmaaGreat
set_option linter.unusedSimpArgs false
set_option linter.unusedVariables false
namespace Go.Proofs.YtoonjlhfgjnnmaaGreat
open Go.Vc
variable {K : Value → Heap → Prop} {h : Heap}

theorem loop_once {body : (Value → Heap → Prop) → Value → Heap → Prop} {v : Value} {h : Heap} (hb : ∀ X, body X v h) : LoopC 1 body [v] h ⟨⟩ :=
  loopX1 (α := Unit) (fun _ => v) (fun _ g => g = h) (fun _ => 0) () rfl rfl (by rintro - g rfl X hX; exact hb X)
theorem set_fill {n i : Nat} {c : UInt8} (hi : i < n) : (List.replicate i c ++ List.replicate (n - i) 0).set i c = List.replicate (i + 1) c ++ List.replicate (n - (i + 1)) 0 := by
  rw [List.set_append, if_neg (by simp)]
  obtain ⟨k, hk⟩ : ∃ k, n - i = k + 1 := ⟨n - i - 1, by omega⟩
  rw [hk, show n - (i + 1) = k by omega, List.length_replicate, Nat.sub_self, List.replicate_succ, List.set_cons_zero, List.replicate_succ', List.append_assoc]
  rfl
theorem fill_c {n : Nat} {c : UInt8} (hn : n ≤ 100000000) (H : ∀ b h', OwnT u8T 1 h' (.slice (some ⟨b, 0, none⟩) n n) ((List.replicate n c).map byteV) → Ext h h' → h.size ≤ b → K (.slice (some ⟨b, 0, none⟩) n n) h') :
    CallsH Tryz.prog 24 #[.int .i64 n, byteV c] h K ⟨⟩ := by
  refine n24_calls ?_
  unfold n24
  simp (disch := omega)
  refine (⟨_, rfl⟩ : ∃ f, f = h.push (.cells (Array.replicate n (.int .u8 0)) u8T)).elim fun g eg => ?_
  have e0 : Ext h g := by rw [eg]; exact (by repeat' (first | (with_reducible exact Ext.refl _) | (with_reducible assumption) | (with_reducible refine push_ext ?_) | (with_reducible refine hset_ext ?_ ?_) | (with_reducible refine Ext.trans ?_ (by assumption)) | omega | (simp; done) | (simp; omega) | (refine Ext.size ?_) | (refine Nat.le_succ_of_le (Ext.size ?_))))
  have o0 : OwnT u8T 1 g (.slice (some ⟨h.size, 0, none⟩) n n) ((List.replicate n (0 : UInt8)).map byteV) := by rw [eg]; exact own_make
  rw [show h.push (.cells (Array.replicate n (.int .u8 0)) 5) = g from eg.symm]
  clear eg
  refine loopX1 (α := Nat) (fun i => .int .i64 i) (fun i g' => i ≤ n ∧ OwnT u8T 1 g' (.slice (some ⟨h.size, 0, none⟩) n n) ((List.replicate i c ++ List.replicate (n - i) 0).map byteV) ∧ Mod (· = h.size) g g') (fun i => n - i) 0 rfl ⟨by omega, by simpa using o0, .refl _ _⟩ ?_
  rintro i g' ⟨hi, o, m⟩ X hX
  by_cases hin : i < n
  · have hl : (List.replicate i c ++ List.replicate (n - i) 0 : List UInt8).length = n := by simp; omega
    have hfz := (o.elt (i := i) (by rw [List.length_map, hl]; exact hin))
    rw [show byteV c = .int .u8 (c.toNat : Int) from rfl]
    simp (disch := omega) [hfz.1, hfz.2]
    have o' := o.setE (i := i) (by rw [List.length_map, hl]; exact hin) (u := byteV c)
    rw [← List.map_set, set_fill hin] at o'
    refine hX (i + 1) _ _ (by simp) ⟨hin, o', m.setIn (.inl (by simp [elt_mk]))⟩ (by omega)
  · obtain rfl : i = n := by omega
    simp (disch := omega)
    rw [Nat.sub_self, List.replicate_zero, List.append_nil] at o
    exact H _ g' o (m.ext_from e0 (fun b hb e => by have e' : b = h.size := e; omega)) (Nat.le_refl _)
def piV (x : Im) (sv bv : Value) : Value := .agg #[str x.nm, str x.bk, .int .i64 ((x.n * 512 : Nat) : Int), .int .i64 x.bits, sv, bv]
theorem info0_c {x : Im} (ax : ImAt h x) (hS : x.S = []) (hB : x.B = []) (H : ∀ h', Ext h h' → K (piV x (.slice none 0 0) (.slice none 0 0)) h') : CallsH Tryz.prog 39 #[ptrV x.b] h K ⟨⟩ := by
  refine n39_calls ?_
  unfold n39 ptrV
  have hsn := ax.sn
  rw [hS] at hsn
  obtain ⟨sa, sn, sc, hsv, hsn', -, -⟩ := hsn.form (by omega)
  have hb := ax.bm
  rw [hB] at hb
  obtain ⟨va, vn, vc, hv, hvn, hvc, -⟩ := hb.form (by omega)
  obtain rfl : vn = 0 := by simp at hvn; omega
  obtain rfl : sn = 0 := by simp at hsn'; omega
  have cc := ax.cells
  rw [hsv, hv] at cc
  obtain ⟨N, hN⟩ : ∃ N, N = x.n * 512 := ⟨_, rfl⟩
  rw [← hN] at cc
  unfold piV at H
  rw [← hN] at H
  have c0 := cellOf (i := 0) cc rfl
  have c1 := cellOf (i := 1) cc rfl
  have c2 := cellOf (i := 2) cc rfl
  have c3 := cellOf (i := 3) cc rfl
  have hxb : ¬ x.b = h.size := by have := get_some_lt cc; omega
  have hxb2 : ¬ x.b = h.size + 1 := by have := get_some_lt cc; omega
  have hxb3 : ¬ h.size + 1 = x.b := by omega
  have hxb4 : ¬ h.size = x.b := by omega
  have c5 := cellOf (i := 5) cc rfl
  have c6 := cellOf (i := 6) cc rfl
  simp (disch := omega) [c0, c1, c2, c3, c5, hxb, hxb2, hxb3, hxb4]
  refine loop_once fun X => ?_
  simp (disch := omega) [c6, hxb, hxb2, hxb3, hxb4]
  refine loop_once fun X => ?_
  simp (disch := omega) [hxb, hxb2, hxb3, hxb4]
  exact H _ (by repeat' (first | (with_reducible exact Ext.refl _) | (with_reducible assumption) | (with_reducible refine push_ext ?_) | (with_reducible refine hset_ext ?_ ?_) | (with_reducible refine Ext.trans ?_ (by assumption)) | omega | (simp; done) | (simp; omega) | (refine Ext.size ?_) | (refine Nat.le_succ_of_le (Ext.size ?_))))
theorem Info0_c {w wm : Nat} {xs : List Im} {x : Im} (a : WdAt h w wm xs) (hn : OkN x.nm) (hx : findI x.nm xs = some x) (hS : x.S = []) (hB : x.B = [])
    (H : ∀ h', Ext h h' → K (.tuple #[piV x (.slice none 0 0) (.slice none 0 0), .int .i64 0]) h') : CallsH Tryz.prog 14 #[ptrV w, str x.nm] h K ⟨⟩ := by
  refine n14_calls ?_
  unfold n14
  simp (disch := omega)
  refine (⟨_, rfl⟩ : ∃ f, f = h.push (.cells #[str [], str [], .int .i64 0, .int .i64 0, .slice none 0 0, .slice none 0 0] 40)).elim fun g eg => ?_
  have e0 : Ext h g := by rw [eg]; exact (by repeat' (first | (with_reducible exact Ext.refl _) | (with_reducible assumption) | (with_reducible refine push_ext ?_) | (with_reducible refine hset_ext ?_ ?_) | (with_reducible refine Ext.trans ?_ (by assumption)) | omega | (simp; done) | (simp; omega) | (refine Ext.size ?_) | (refine Nat.le_succ_of_le (Ext.size ?_))))
  have q0 : g[h.size]? = some (.cells #[str [], str [], .int .i64 0, .int .i64 0, .slice none 0 0, .slice none 0 0] 40) := by rw [eg]; exact get_pushed rfl
  rw [← eg]
  clear eg
  refine which_c (a.ext e0) hn fun h1 e1 => ?_
  rw [hx]
  unfold ptrV
  simp (disch := omega)
  refine info0_c (x := x) ((a.ext (e0.trans e1)).im x (findI_mem hx).1) hS hB fun h2 e2 => ?_
  have q2 := ((e1.trans e2).block _ (get_some_lt q0)).trans q0
  unfold piV
  have d0 := cellOf (i := 0) q2 rfl
  have d1 := cellOf (i := 1) q2 rfl
  have d2 := cellOf (i := 2) q2 rfl
  have d3 := cellOf (i := 3) q2 rfl
  have d4 := cellOf (i := 4) q2 rfl
  have d5 := cellOf (i := 5) q2 rfl
  have f0 := frzOf (i := 0) q2
  have f1 := frzOf (i := 1) q2
  have f2 := frzOf (i := 2) q2
  have f3 := frzOf (i := 3) q2
  have f4 := frzOf (i := 4) q2
  have f5 := frzOf (i := 5) q2
  have E := (e0.trans e1).trans e2
  obtain ⟨N, hN⟩ : ∃ N, N = x.n * 512 := ⟨_, rfl⟩
  unfold piV at H
  rw [← hN] at H ⊢
  simp (disch := omega) [d0, d1, d2, d3, d4, d5, f0, f1, f2, f3, f4, f5]
  exact H _ (by repeat' (first | (with_reducible exact Ext.refl _) | (with_reducible assumption) | (with_reducible refine push_ext ?_) | (with_reducible refine hset_ext ?_ ?_) | (with_reducible refine Ext.trans ?_ (by assumption)) | omega | (simp; done) | (simp; omega) | (refine Ext.size ?_) | (refine Nat.le_succ_of_le (Ext.size ?_))))
theorem ImAt.foot_t {x : Im} {b t : Nat} {arr : Array Value} (a : ImAt h x) (hb : h[b]? = some (.cells arr t)) (ht : t ≠ imT ∧ t ≠ snT ∧ t ≠ bmT) : ¬ footI x b := by
  have hm : ∀ m F, MapK ik h m F → b ≠ m := fun m F hm e => by
    obtain ⟨es, cl, h1, _⟩ := hm
    rw [← e, hb] at h1
    cases h1
  rintro (e | e | ⟨s, hs, e⟩ | ⟨y, hy, e⟩ | e | e)
  · have := a.cells
    rw [← e, hb] at this
    injection this with h1
    injection h1 with h2 h3
    exact absurd h3 ht.1
  · exact hm _ _ a.cl.map e
  · exact hm _ _ (a.snc s hs).map e
  · exact hm _ _ (a.bmd y hy) e
  · exact a.sn.ne e hb (fun e => ht.2.1 e.symm) rfl
  · exact a.bm.ne e hb (fun e => ht.2.2 e.symm) rfl
/-- A block of another type written to. -/
theorem WdAt.modT {w wm ba t : Nat} {xs : List Im} {h' : Heap} (a : WdAt h w wm xs) (m : Mod (· = ba) h h') (hb : ∃ arr, h[ba]? = some (.cells arr t)) (ht : t ≠ wdT ∧ t ≠ u8T ∧ t ≠ imT ∧ t ≠ snT ∧ t ≠ bmT) : WdAt h' w wm xs := by
  obtain ⟨arr, hb⟩ := hb
  obtain ⟨M, hM, hl⟩ := a.map
  have hw : ¬ w = ba := fun e => by
    have := a.cells
    rw [e, hb] at this
    injection this with h1
    injection h1 with h2 h3
    exact absurd h3 ht.1
  have hwm : ¬ wm = ba := fun e => by
    obtain ⟨es, cl, h1, _⟩ := hM
    rw [e, hb] at h1
    cases h1
  exact ⟨(m.block _ (get_some_lt a.cells) hw).trans a.cells, ⟨M, hM.mod m hwm, hl⟩, a.wl, fun x hx => (a.im x hx).mod m (fun b hf e => (a.im x hx).foot_t hb ht.2.2 (e ▸ hf)) (fun b arr' h1 _ e => by
    have e' : b = ba := e
    rw [e', hb] at h1
    injection h1 with h1
    injection h1 with h2 h3
    exact absurd h3 ht.2.1), a.ap, a.wf, a.nm, a.few⟩
/-! ### By a name -/
theorem Write_n {w wm : Nat} {xs : List Im} {x : Im} {nm : List UInt8} {p : Int} {vb : Value} {s : List UInt8} (a : WdAt h w wm xs) (hn : OkN nm) (e : x.nm = nm) (hx : findI nm xs = some x) (hp : -9223372036854775808 ≤ p ∧ p < 9223372036854775808) (hab : ∀ y ∈ xs, y.bk ≠ nm) (hB : x.B = []) (bs : Bytes h vb s) (hsl : s.length < 9223372036854775808)
    (H0 : ∀ h' e, Ext h h' → e ≠ 0 → ¬ (s.length % 512 = 0 ∧ 0 ≤ p ∧ p + (s.length / 512 : Nat) ≤ x.n) → K (.int .i64 e) h')
    (H1 : ∀ x' h', s.length % 512 = 0 ∧ 0 ≤ p ∧ p + (s.length / 512 : Nat) ≤ x.n → Wrote xs x x' p.toNat (s.length / 512) s → WdAt h' w wm (setI x' xs) → Mod (· = x.m) h h' → K (.int .i64 0) h') :
    CallsH Tryz.prog 11 #[ptrV w, str nm, .int .i64 p, vb] h K ⟨⟩ := by
  subst e
  exact Write_c a hn hx hp hab hB bs hsl H0 H1
theorem Read_n {w wm p m : Nat} {xs : List Im} {x : Im} {nm : List UInt8} (a : WdAt h w wm xs) (hn : OkN nm) (e : x.nm = nm) (hx : findI nm xs = some x) (hp : p + m ≤ x.n)
    (H : ∀ b c L h', OwnT u8T 1 h' (.slice (some ⟨b, 0, none⟩) (m * 512) c) (L.map byteV) → L.length = m * 512 → (∀ i, i < m → sct L i = conts xs nm (p + i)) → Ext h h' → K (.tuple #[.slice (some ⟨b, 0, none⟩) (m * 512) c, .int .i64 0]) h') :
    CallsH Tryz.prog 28 #[ptrV w, str nm, .int .i64 p, .int .i64 m] h K ⟨⟩ := by
  subst e
  exact Read_c a hn hx hp H
theorem Info0_n {w wm : Nat} {xs : List Im} {x : Im} {nm : List UInt8} (a : WdAt h w wm xs) (hn : OkN nm) (e : x.nm = nm) (hx : findI nm xs = some x) (hS : x.S = []) (hB : x.B = [])
    (H : ∀ h', Ext h h' → K (.tuple #[piV x (.slice none 0 0) (.slice none 0 0), .int .i64 0]) h') : CallsH Tryz.prog 14 #[ptrV w, str nm] h K ⟨⟩ := by
  subst e
  exact Info0_c a hn hx hS hB H
end Go.Proofs.YtoonjlhfgjnnmaaGreat
set_option linter.unusedSimpArgs false
set_option linter.unusedVariables false
namespace Go.Proofs.YtoonjlhfgjnnmaaGreat
open Go.Vc
variable {K : Value → Heap → Prop} {h : Heap}

/-- The chain of an image had it another backing. -/
def seqB (xs : List Im) (nm new : List UInt8) : Nat → List UInt8
  | 0 => nm
  | i + 1 => if seqB xs nm new i = nm then new else bkOf xs (seqB xs nm new i)
theorem seqB_found {xs : List Im} {x : Im} {new : List UInt8} (a : Wl xs) (hx : findI x.nm xs = some x) (hn : new = [] ∨ ∃ y, findI new xs = some y) : ∀ i, seqB xs x.nm new i = [] ∨ ∃ y, findI (seqB xs x.nm new i) xs = some y
  | 0 => .inr ⟨x, hx⟩
  | i + 1 => by
    show (if seqB xs x.nm new i = x.nm then new else bkOf xs (seqB xs x.nm new i)) = [] ∨ ∃ y, findI (if seqB xs x.nm new i = x.nm then new else bkOf xs (seqB xs x.nm new i)) xs = some y
    by_cases e : seqB xs x.nm new i = x.nm
    · rw [if_pos e]; exact hn
    · rw [if_neg e]
      unfold bkOf
      cases hf : findI (seqB xs x.nm new i) xs with
      | none => exact .inl rfl
      | some y => exact (chain_step (k := 0) a.nd a.ne a.ch hf).2.2
/-- The depth of a chain, with one image's backing written. -/
theorem deepB_c {w wm : Nat} {xs : List Im} {x : Im} {new : List UInt8} {b : Bool} {g : Heap} (a : WdAt h w wm xs) (hx : findI x.nm xs = some x) (hnew : new = [] ∨ ∃ y, findI new xs = some y) (hg : g = hset h ⟨x.b, 1, none⟩ (str new)) (hb : b = true ↔ ∀ i, i ≤ 8 → seqB xs x.nm new i ≠ []) (H : K (.bool b) g) :
    CallsH Tryz.prog 52 #[ptrV w, str x.nm, .int .i64 0] g K ⟨⟩ := by
  obtain ⟨M, hM, hl⟩ := a.map
  have hxm := (findI_mem hx).1
  have ax := a.im x hxm
  have mg : Mod (· = x.b) h g := by rw [hg]; exact Mod.setIn (Mod.refl (· = x.b) h) (.inl rfl)
  have fb : footI x x.b := .inl rfl
  have hwb : ¬ w = x.b := fun e => (a.wf x hxm).1 (e ▸ fb)
  have hwm : ¬ wm = x.b := fun e => (a.wf x hxm).2 (e ▸ fb)
  refine deep_g (n := 0) (seqB xs x.nm new) ((mg.block _ (get_some_lt a.cells) hwb).trans a.cells) (hM.mod mg hwm) (by omega) (fun i hi hne => ?_) (by simpa using hb) H
  rcases seqB_found a.wl hx hnew i with h1 | ⟨y, hy⟩
  · exact absurd h1 hne
  refine ⟨y.b, by rw [hl, hy]; rfl, ?_⟩
  have hym := findI_mem hy
  show hcell g ⟨y.b, 1, none⟩ = some (str (if seqB xs x.nm new i = x.nm then new else bkOf xs (seqB xs x.nm new i)))
  by_cases e : seqB xs x.nm new i = x.nm
  · rw [if_pos e]
    rw [e, hx] at hy
    cases hy
    rw [hg]
    exact cellOf (i := 1) (obj_set (i := 1) (v := str new) ax.cells) rfl
  · rw [if_neg e]
    have hyb : ¬ y.b = x.b := fun e2 => a.ap x hxm y hym.1 (by rw [hym.2]; exact fun e3 => e e3.symm) x.b fb (.inl e2.symm)
    have : bkOf xs (seqB xs x.nm new i) = y.bk := by unfold bkOf; rw [hy]
    rw [this]
    exact cellOf (i := 1) ((mg.block _ (get_some_lt (a.im y hym.1).cells) hyb).trans (a.im y hym.1).cells) rfl
set_option maxHeartbeats 1000000 in
theorem Rebase_deep {w wm : Nat} {xs : List Im} {x : Im} {nm new : List UInt8} {safe : Value} (a : WdAt h w wm xs) (hn : OkN nm) (en : x.nm = nm) (hx : findI nm xs = some x) (hnn : OkN new) (hnew : ∃ y, findI new xs = some y) (hab : ∀ y ∈ xs, y.bk ≠ nm) (hd : ∀ i, i ≤ 8 → seqB xs nm new i ≠ [])
    (H : ∀ h', Ext h h' → K (.int .i64 350) h') : CallsH Tryz.prog 20 #[ptrV w, str nm, str new, safe] h K ⟨⟩ := by
  subst en
  refine n20_calls ?_
  unfold n20
  have hne := hnn.ne
  simp (disch := omega) [hne]
  have e1 : Ext h (h.push (.cells #[str new] 9)) := (by repeat' (first | (with_reducible exact Ext.refl _) | (with_reducible assumption) | (with_reducible refine push_ext ?_) | (with_reducible refine hset_ext ?_ ?_) | (with_reducible refine Ext.trans ?_ (by assumption)) | omega | (simp; done) | (simp; omega) | (refine Ext.size ?_) | (refine Nat.le_succ_of_le (Ext.size ?_))))
  refine named_c hnn (get_pushed rfl) fun h1 e1' => ?_
  have E1 := e1.trans e1'
  simp (disch := omega)
  refine which_c (a.ext E1) hn fun h2 e2 => ?_
  rw [hx]
  have E2 := E1.trans e2
  have a2 := a.ext E2
  obtain ⟨y, hy⟩ := hnew
  have hlb : ptrOf xs new = ptrV y.b := by unfold ptrOf; rw [hy]; rfl
  unfold ptrV at hlb ⊢
  simp (disch := omega) [hne, cellOf (i := 0) a2.cells rfl, a2.look, hlb]
  have hxm := (findI_mem hx).1
  refine above_c a2 hxm fun h3 n e3 hn3 hz => ?_
  obtain rfl : n = 0 := hz.2 hab
  have E3 := E2.trans e3
  have a3 := a.ext E3
  have ax := a3.im x hxm
  simp (disch := omega) [cellOf (i := 1) ax.cells rfl, frzOf (i := 1) ax.cells]
  refine deepB_c (b := true) a3 hx (.inr ⟨y, hy⟩) rfl (by simpa using hd) ?_
  have c9 := obj_set (i := 1) (v := str new) ax.cells
  simp (disch := omega) [cellOf (i := 1) c9 rfl, frzOf (i := 1) c9]
  refine H _ ?_
  have m1 : Mod (· = x.b) h3 (hset (hset h3 ⟨x.b, 1, none⟩ (str new)) ⟨x.b, 1, none⟩ (str x.bk)) := Mod.setIn (Mod.setIn (Mod.refl (· = x.b) h3) (.inl rfl)) (.inl rfl)
  have c10 := obj_set (i := 1) (v := str x.bk) c9
  refine E3.trans ⟨m1.size, fun b hb => ?_⟩
  by_cases e : b = x.b
  · rw [e, ax.cells, c10]
    rfl
  · exact m1.block b hb e
theorem Rebase_busy {w wm : Nat} {xs : List Im} {x : Im} {nm new : List UInt8} {safe : Value} (a : WdAt h w wm xs) (hn : OkN nm) (en : x.nm = nm) (hx : findI nm xs = some x) (hnn : OkN new) (hnew : ∃ y, findI new xs = some y) (hab : ∃ y ∈ xs, y.bk = nm)
    (H : ∀ h', Ext h h' → K (.int .i64 10) h') : CallsH Tryz.prog 20 #[ptrV w, str nm, str new, safe] h K ⟨⟩ := by
  subst en
  refine n20_calls ?_
  unfold n20
  have hne := hnn.ne
  simp (disch := omega) [hne]
  have e1 : Ext h (h.push (.cells #[str new] 9)) := (by repeat' (first | (with_reducible exact Ext.refl _) | (with_reducible assumption) | (with_reducible refine push_ext ?_) | (with_reducible refine hset_ext ?_ ?_) | (with_reducible refine Ext.trans ?_ (by assumption)) | omega | (simp; done) | (simp; omega) | (refine Ext.size ?_) | (refine Nat.le_succ_of_le (Ext.size ?_))))
  refine named_c hnn (get_pushed rfl) fun h1 e1' => ?_
  have E1 := e1.trans e1'
  simp (disch := omega)
  refine which_c (a.ext E1) hn fun h2 e2 => ?_
  rw [hx]
  have E2 := E1.trans e2
  have a2 := a.ext E2
  obtain ⟨y, hy⟩ := hnew
  have hlb : ptrOf xs new = ptrV y.b := by unfold ptrOf; rw [hy]; rfl
  unfold ptrV at hlb ⊢
  simp (disch := omega) [hne, cellOf (i := 0) a2.cells rfl, a2.look, hlb]
  have hxm := (findI_mem hx).1
  refine above_c a2 hxm fun h3 n e3 hn3 hz => ?_
  have hn0 : n ≠ 0 := fun e => by
    obtain ⟨z, h1, h2⟩ := hab
    exact hz.1 e z h1 h2
  simp (disch := omega)
  exact H _ (E2.trans e3)
end Go.Proofs.YtoonjlhfgjnnmaaGreat

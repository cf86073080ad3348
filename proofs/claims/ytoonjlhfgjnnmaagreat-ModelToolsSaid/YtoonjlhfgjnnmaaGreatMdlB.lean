/- Model: what lies above; contents. Model: contents; a cluster held. Model: one cluster put into an image's own; held. Model: a cluster held. Model: bytes laid into an image. -/
import Derived.Test.YtoonjlhfgjnnmaaGreatMdlA
set_option linter.unusedSimpArgs false
set_option linter.unusedVariables false
namespace Go.Proofs.YtoonjlhfgjnnmaaGreat
open Go.Vc
variable {K : Value → Heap → Prop} {h : Heap}

theorem findI_self {y : Im} : ∀ {xs : List Im}, (xs.map (·.nm)).Nodup → y ∈ xs → findI y.nm xs = some y
  | [], _, h => by cases h
  | z :: r, hn, h => by
    simp only [List.map_cons, List.nodup_cons] at hn
    unfold findI
    rcases List.mem_cons.1 h with rfl | h
    · rw [if_pos rfl]
    · rw [if_neg (fun e => hn.1 (by rw [← e]; exact List.mem_map_of_mem h))]
      exact findI_self hn.2 h
/-- Who has this one as backing. -/
def onIt (xs : List Im) (nm : List UInt8) (k : List UInt8) : Bool := match findI k xs with | some y => decide (y.bk = nm) | none => false
theorem above_c {w wm : Nat} {xs : List Im} {x : Im} (a : WdAt h w wm xs) (hx : x ∈ xs)
    (H : ∀ h' n, Ext h h' → n < 9223372036854775808 → (n = 0 ↔ ∀ y ∈ xs, y.bk ≠ x.nm) → K (.int .i64 (n : Nat)) h') : CallsH Tryz.prog 37 #[ptrV w, ptrV x.b] h K ⟨⟩ := by
  refine n37_calls ?_
  unfold n37 ptrV
  obtain ⟨M, hm, hlk⟩ := a.map
  simp (disch := omega) [cellOf (i := 0) a.cells rfl]
  refine Hp_range (kt := 9) (et := 62) (by kernel_rfl) hm fun h1 e1 it1 z1 => ?_
  have hnd := hm.nodup
  have ent : ∀ i (hi : i < M.length), ∃ y, y ∈ xs ∧ y.nm = M[i].1 ∧ M[i].2 = ptrV y.b ∧ findI M[i].1 xs = some y := fun i hi => by
    have h1 : look2 M[i].1 M = some M[i].2 := (look2_some hnd).2 (List.getElem_mem hi)
    rw [hlk] at h1
    cases hf : findI M[i].1 xs with
    | none => rw [hf] at h1; cases h1
    | some y =>
      rw [hf] at h1
      have := findI_mem hf
      exact ⟨y, this.1, this.2, by simpa using h1.symm, rfl⟩
  have hMl : M.length < 1000000 := by
    have h9 := List.Nodup.length_le_of_subset (l₂ := xs.map (·.nm)) hnd (fun k hk => by
      obtain ⟨p, hp, rfl⟩ := List.mem_map.1 hk
      obtain ⟨i, hi, rfl⟩ := List.getElem_of_mem hp
      obtain ⟨y, y1, y2, -, -⟩ := ent i hi
      rw [← y2]
      exact List.mem_map_of_mem y1)
    have := a.few
    simp at h9
    omega
  refine loopX1 (α := Nat × List Nat) (fun a => .int .i64 a.1) (fun a g => Ext h g ∧ MapIt str g h.size wm M a.2 ∧ a.1 ≤ a.2.length ∧ a.2.Nodup ∧ (∀ i ∈ a.2, i < M.length) ∧ (a.1 = 0 ↔ ∀ i (hi : i < M.length), i ∈ a.2 → onIt xs x.nm M[i].1 = false)) (fun a => M.length - a.2.length) (0, []) rfl ⟨e1, it1, by simp, by simp, by simp, by simp⟩ ?_
  rintro ⟨n, I⟩ g ⟨e, it, hnI, hI1, hI2, hz⟩ X hX
  dsimp only at e it hnI hI1 hI2 hz hX ⊢
  have hIl : I.length ≤ M.length := by
    have := List.Nodup.length_le_of_subset (l₂ := List.range M.length) hI1 (fun i hi => List.mem_range.2 (hI2 i hi))
    simpa using this
  refine Hp_next it (fun i hi hni g2 m2 it2 => ?_) (fun hall => ?_)
  · obtain ⟨y, y1, y2, y3, y4⟩ := ent i hi
    have e2 : Ext h g2 := m2.ext_from e (fun b hb e => by have e' : b = h.size := e; omega)
    have ay := (a.im y y1).ext e2
    have ax := (a.im x hx).ext e2
    have hI1' : (I ++ [i]).Nodup := by
      rw [List.nodup_append]
      exact ⟨hI1, by simp, fun p hp q hq e => by simp at hq; subst hq; subst e; exact hni hp⟩
    have hl2 : I.length < M.length := by
      have := List.Nodup.length_le_of_subset (l₂ := List.range M.length) hI1' (fun j hj => List.mem_range.2 (by
        rcases List.mem_append.1 hj with hj | hj
        · exact hI2 j hj
        · simp at hj; omega))
      simp at this; omega
    have hin : ∀ j ∈ I ++ [i], j < M.length := fun j hj => by
      rcases List.mem_append.1 hj with hj | hj
      · exact hI2 j hj
      · simp at hj; omega
    rw [y3]
    unfold ptrV
    simp (disch := omega)
    refine JoinN.mk ?_
    rw [Hp_entry it2 hi, y3]
    unfold ptrV
    have hon : onIt xs x.nm M[i].1 = decide (y.bk = x.nm) := by unfold onIt; rw [y4]
    by_cases hb : y.bk = x.nm
    · simp (disch := omega) [cellOf (i := 1) ay.cells rfl, cellOf (i := 0) ax.cells rfl, hb]
      refine hX (n + 1, I ++ [i]) _ _ (by simp) ⟨e2, it2, by simp; omega, hI1', hin, ?_⟩ (by simp; omega)
      constructor
      · intro h9; simp at h9
      · intro h9
        have := h9 i hi (by simp)
        rw [hon] at this
        simp [hb] at this
    · simp (disch := omega) [cellOf (i := 1) ay.cells rfl, cellOf (i := 0) ax.cells rfl, hb]
      refine hX (n, I ++ [i]) _ _ rfl ⟨e2, it2, by simp; omega, hI1', hin, ?_⟩ (by simp; omega)
      dsimp only
      rw [hz]
      constructor
      · intro h9 j hj hjm
        rcases List.mem_append.1 hjm with hjm | hjm
        · exact h9 j hj hjm
        · simp at hjm; subst hjm; rw [hon]; simpa using hb
      · intro h9 j hj hjm
        exact h9 j hj (List.mem_append_left _ hjm)
  · simp (disch := omega)
    refine H g n e (by omega) ?_
    rw [hz]
    constructor
    · intro h9 y hy hb
      have hny : look2 y.nm M = (findI y.nm xs).map (fun x => ptrV x.b) := hlk _
      cases hf : findI y.nm xs with
      | none => exact findI_none.1 hf y hy rfl
      | some z =>
        have hzy : z = y := by rw [findI_self a.wl.nd hy] at hf; cases hf; rfl
        subst hzy
        rw [hf] at hny
        have hmem := (look2_some hnd).1 (show look2 z.nm M = some (ptrV z.b) from hny)
        obtain ⟨i, hi, hie⟩ := List.getElem_of_mem hmem
        have := h9 i hi (hall i hi)
        unfold onIt at this
        rw [hie] at this
        dsimp only at this
        rw [hf] at this
        simp [hb] at this
    · intro h9 i hi _
      obtain ⟨y, y1, y2, y3, y4⟩ := ent i hi
      unfold onIt
      rw [y4]
      simpa using h9 y y1
end Go.Proofs.YtoonjlhfgjnnmaaGreat
set_option linter.unusedSimpArgs false
set_option linter.unusedVariables false
namespace Go.Proofs.YtoonjlhfgjnnmaaGreat
open Go.Vc
variable {K : Value → Heap → Prop} {h : Heap}

theorem own_make {N : Nat} : OwnT u8T 1 (h.push (.cells (Array.replicate N (.int .u8 0)) u8T)) (.slice (some ⟨h.size, 0, none⟩) N N) ((List.replicate N (0 : UInt8)).map byteV) := by
  refine .inr ⟨h.size, N, N, [], rfl, by simp, Nat.le_refl _, ?_, by simp⟩
  rw [get_pushed rfl, List.append_nil, List.map_replicate, ← List.toArray_replicate]; rfl
theorem conts_len : ∀ {xs : List Im}, (∀ x ∈ xs, 0 < x.cs ∧ ∀ c : Nat, x.isOwn c = true → (x.G (c : Int)).length = x.cs * 512) → ∀ nm k, (conts xs nm k).length = 512
  | [], _, _, _ => z512_len
  | x :: r, h, nm, k => by
    have ih := conts_len (fun y hy => h y (List.mem_cons_of_mem _ hy))
    obtain ⟨h0, hg⟩ := h x (by simp)
    unfold conts
    split
    · split
      · split
        · rename_i hown
          refine sct_len ?_
          rw [hg _ hown]
          have := Nat.mod_lt k h0
          have := Nat.mul_le_mul_right 512 this
          omega
        · exact ih _ _
      · exact z512_len
    · exact ih _ _
theorem ImAt.cs0 {x : Im} (a : ImAt h x) : 0 < x.cs := by
  have h1 := a.cs
  have h2 : 0 < 2 ^ x.bits := Nat.pow_pos (by decide)
  omega
theorem WdAt.clen {w wm : Nat} {xs : List Im} (a : WdAt h w wm xs) (nm : List UInt8) (k : Nat) : (conts xs nm k).length = 512 :=
  conts_len (fun x hx => ⟨(a.im x hx).cs0, fun c hc => by
    obtain ⟨v, hv⟩ := Option.isSome_iff_exists.1 hc
    exact ((a.im x hx).cl.byt _ v hv).2⟩) nm k
theorem sct_zero {s : List UInt8} (h : s.length = 512) : sct s 0 = s := by
  unfold sct
  rw [Nat.zero_mul, List.drop_zero, List.take_of_length_le (Nat.le_of_eq h)]
theorem content_c {w wm p m : Nat} {xs : List Im} {nm : List UInt8} (a : WdAt h w wm xs) (hp : p + m ≤ 131072)
    (H : ∀ b c L h', OwnT u8T 1 h' (.slice (some ⟨b, 0, none⟩) (m * 512) c) (L.map byteV) → L.length = m * 512 → (∀ i, i < m → sct L i = conts xs nm (p + i)) → Ext h h' → h.size ≤ b → K (.slice (some ⟨b, 0, none⟩) (m * 512) c) h') :
    CallsH Tryz.prog 42 #[ptrV w, ptrOf xs nm, .int .i64 p, .int .i64 m] h K ⟨⟩ := by
  refine n42_calls ?_
  unfold n42
  obtain ⟨N, hN⟩ : ∃ N, N = m * 512 := ⟨_, rfl⟩
  have hN2 : (m : Int) * 512 = (N : Int) := by omega
  simp (disch := omega) [hN2]
  refine (⟨_, rfl⟩ : ∃ f, f = h.push (.cells (Array.replicate N (.int .u8 0)) u8T)).elim fun g eg => ?_
  have e0 : Ext h g := by rw [eg]; exact (by repeat' (first | (with_reducible exact Ext.refl _) | (with_reducible assumption) | (with_reducible refine push_ext ?_) | (with_reducible refine hset_ext ?_ ?_) | (with_reducible refine Ext.trans ?_ (by assumption)) | omega | (simp; done) | (simp; omega) | (refine Ext.size ?_) | (refine Nat.le_succ_of_le (Ext.size ?_))))
  have o0 : OwnT u8T 1 g (.slice (some ⟨h.size, 0, none⟩) N N) ((List.replicate N (0 : UInt8)).map byteV) := by rw [eg]; exact own_make
  rw [show h.push (.cells (Array.replicate N (.int .u8 0)) 5) = g from eg.symm]
  clear eg
  rw [← hN] at H
  have zlen : (List.replicate N (0 : UInt8)).length = N := List.length_replicate
  refine loopX1 (α := Nat × List UInt8) (fun a => .int .i64 a.1) (fun a g' => a.1 ≤ m ∧ Ext h g' ∧ OwnT u8T 1 g' (.slice (some ⟨h.size, 0, none⟩) N N) (a.2.map byteV) ∧ a.2.length = N ∧ ∀ i, i < a.1 → sct a.2 i = conts xs nm (p + i)) (fun a => m - a.1) (0, List.replicate N 0) rfl ⟨by simp, e0, o0, zlen, fun i hi => by simp at hi⟩ ?_
  rintro ⟨i, L⟩ g1 ⟨hi, e1, o1, hL, hs⟩ X hX
  dsimp only at hi e1 o1 hL hs hX ⊢
  by_cases hin : i < m
  · obtain ⟨I, hI⟩ : ∃ I, I = i * 512 := ⟨_, rfl⟩
    have hI2 : (i : Int) * 512 = (I : Int) := by omega
    have hI3 : I + 512 ≤ N := by omega
    have hpi : (p : Int) + (i : Int) = ((p + i : Nat) : Int) := by omega
    simp (disch := omega) [hI2]
    rw [hpi]
    refine sector_c (a.ext e1) o1 (lo := I) (m := N - I) (c' := N - I) (by omega) (by omega) (Nat.le_refl _) (by omega) fun g2 o2 m2 => ?_
    simp (disch := omega)
    have hcl : (conts xs nm (p + i)).length = 1 * 512 := a.clen _ _
    refine hX (i + 1, over L I (conts xs nm (p + i))) _ _ (by simp) ⟨hin, m2.ext_from e1 (fun b hb e => by have e' : b = h.size := e; omega), o2, ?_, fun j hj => ?_⟩ (by dsimp only; omega)
    · rw [over_length (by omega), hL]
    · dsimp only at hj ⊢
      rw [hI, sct_over hcl (by omega)]
      by_cases hji : j = i
      · subst hji
        rw [if_pos (by omega), Nat.sub_self]
        exact sct_zero (a.clen _ _)
      · rw [if_neg (by omega)]
        exact hs j (by omega)
  · obtain rfl : i = m := by omega
    simp (disch := omega)
    exact H h.size N L g1 o1 hL hs e1 (Nat.le_refl _)
end Go.Proofs.YtoonjlhfgjnnmaaGreat
set_option linter.unusedSimpArgs false
set_option linter.unusedVariables false
namespace Go.Proofs.YtoonjlhfgjnnmaaGreat
open Go.Vc
variable {K : Value → Heap → Prop} {h : Heap}

theorem upd_upd {κ : Type} [DecidableEq κ] {k : κ} {u v : Value} : ∀ l : List (κ × Value), upd k v (upd k u l) = upd k v l
  | [] => by simp [upd]
  | p :: l => by
    unfold upd
    by_cases e : p.1 = k
    · simp [e, upd]
    · have e' : ¬ k = p.1 := fun h => e h.symm
      simp [e, e', upd, upd_upd l]
theorem put_put {x : Im} {c : Nat} {v v2 : Value} {d d2 : List UInt8} : (x.put c v d).put c v2 d2 = x.put c v2 d2 := by
  unfold Im.put
  dsimp only
  rw [upd_upd]
  congr 1
  funext i
  split <;> rfl
theorem foot_put {x : Im} {c : Nat} {v : Value} {d : List UInt8} {b : Nat} : footI (x.put c v d) b ↔ footI x b := Iff.rfl
/-- The map of clusters written to. -/
theorem WdAt.put {w wm c : Nat} {xs : List Im} {x : Im} {v : Value} {d : List UInt8} {h' : Heap} (a : WdAt h w wm xs) (hx : findI x.nm xs = some x) (m : Mod (· = x.m) h h') (hm : MapK ik h' x.m (upd (c : Int) v x.F)) (ho : OwnT u8T 1 h' v (d.map byteV)) (hd : d.length = x.cs * 512) (hz : ∀ b, blkV v = some b → b ∉ x.Z) : WdAt h' w wm (setI (x.put c v d) xs) := by
  obtain ⟨hxm, -⟩ := findI_mem hx
  have ax := a.im x hxm
  have hx' : findI (x.put c v d).nm xs = some x := hx
  have fx : footI x x.m := .inr (.inl rfl)
  have hmm : ∀ b arr, h[b]? = some (.cells arr u8T) → b ≠ x.m := fun b arr hb e => by
    obtain ⟨es, cl, h1, _⟩ := ax.cl.map
    rw [e, h1] at hb
    cases hb
  obtain ⟨M, hM, hlk⟩ := a.map
  have hnd := ax.bnd
  simp only [List.nodup_cons] at hnd
  refine ⟨(m.block _ (get_some_lt a.cells) (fun e => (a.wf x hxm).1 (e ▸ fx))).trans a.cells, ⟨M, hM.mod m (fun e => (a.wf x hxm).2 (e ▸ fx)), fun nm => ?_⟩, a.wl.set hx' rfl, fun y hy => ?_, fun y hy z hz hne => ?_, fun y hy => ?_, fun y hy => ?_, by rw [setI_len]; exact a.few⟩
  · rw [hlk, findI_setI hx']
    by_cases e : nm = x.nm
    · rw [e, hx]
      show _ = Option.map _ (if x.nm = x.nm then some _ else _)
      rw [if_pos rfl]; rfl
    · rw [show (if nm = (x.put c v d).nm then some (x.put c v d) else findI nm xs) = findI nm xs from if_neg e]
  · rcases mem_setI hy with rfl | ⟨hy, hne⟩
    · refine ⟨(m.block _ (get_some_lt ax.cells) (fun e => ax.mne e.symm)).trans ax.cells, ⟨hm, fun i u hu => ?_, fun i u b hu hb => ?_⟩, ax.n, ax.bits, ax.cs, ax.sn.mod m (fun b hb e => ?_), fun s hs => (ax.snc s hs).mod m (fun e => ?_) (fun b arr hb _ e => hmm b arr hb e), ax.bm.mod m (fun b hb e => ?_), fun b hb => (ax.bmd b hb).mod m (fun e => hnd.1 (List.mem_append_right _ (by rw [← e]; exact List.mem_map_of_mem hb))), ax.mne, ax.bnd, fun b hb => Nat.lt_of_lt_of_le (ax.zlt b hb) m.size⟩
      · have hu2 : look2 i (upd (c : Int) v x.F) = some u := hu
        rw [look2_upd] at hu2
        show OwnT u8T 1 h' u (((x.put c v d).G i).map byteV) ∧ ((x.put c v d).G i).length = x.cs * 512
        unfold Im.put
        dsimp only
        by_cases e : i = (c : Int)
        · rw [if_pos e] at hu2 ⊢
          cases hu2
          exact ⟨ho, hd⟩
        · rw [if_neg e] at hu2 ⊢
          obtain ⟨o1, o2⟩ := ax.cl.byt i u hu2
          exact ⟨o1.mod m (fun b hb e => by obtain ⟨arr, ha⟩ := o1.tag hb; exact hmm b arr ha e), o2⟩
      · have hu2 : look2 i (upd (c : Int) v x.F) = some u := hu
        rw [look2_upd] at hu2
        by_cases e : i = (c : Int)
        · rw [if_pos e] at hu2
          cases hu2
          exact hz b hb
        · rw [if_neg e] at hu2
          exact ax.cl.out i u b hu2 hb
      · obtain ⟨arr, ha⟩ := ax.sn.tag hb
        obtain ⟨es, cl, h1, _⟩ := ax.cl.map
        have e' : b = x.m := e
        rw [e', h1] at ha
        cases ha
      · exact hnd.1 (List.mem_append_left _ (by rw [← e]; exact List.mem_map_of_mem hs))
      · obtain ⟨arr, ha⟩ := ax.bm.tag hb
        obtain ⟨es, cl, h1, _⟩ := ax.cl.map
        have e' : b = x.m := e
        rw [e', h1] at ha
        cases ha
    · exact (a.im y hy).mod m (fun b hb e => by
        have e' : b = x.m := e
        exact a.ap x hxm y hy (fun e2 => hne e2.symm) x.m fx (e' ▸ hb)) (fun b arr hb _ e => hmm b arr hb e)
  · have key : ∀ y ∈ setI (x.put c v d) xs, ∃ y' ∈ xs, y'.nm = y.nm ∧ ∀ b, footI y b ↔ footI y' b := fun y hy => by
      rcases mem_setI hy with rfl | ⟨hy, -⟩
      · exact ⟨x, hxm, rfl, fun b => Iff.rfl⟩
      · exact ⟨y, hy, rfl, fun b => Iff.rfl⟩
    obtain ⟨y', y1, y2, y3⟩ := key y hy
    obtain ⟨z', z1, z2, z3⟩ := key z hz
    intro b hb hb2
    exact a.ap y' y1 z' z1 (by rw [y2, z2]; exact hne) b ((y3 b).1 hb) ((z3 b).1 hb2)
  · rcases mem_setI hy with rfl | ⟨hy, -⟩
    · exact a.wf x hxm
    · exact a.wf y hy
  · rcases mem_setI hy with rfl | ⟨hy, -⟩
    · exact a.nm x hxm
    · exact a.nm y hy
end Go.Proofs.YtoonjlhfgjnnmaaGreat
set_option linter.unusedSimpArgs false
set_option linter.unusedVariables false
namespace Go.Proofs.YtoonjlhfgjnnmaaGreat
open Go.Vc
variable {K : Value → Heap → Prop} {h : Heap}

theorem content_x {w wm p m : Nat} {xs : List Im} {x : Im} (a : WdAt h w wm xs) (hx : findI x.nm xs = some x) (hp : p + m ≤ 131072)
    (H : ∀ b c L h', OwnT u8T 1 h' (.slice (some ⟨b, 0, none⟩) (m * 512) c) (L.map byteV) → L.length = m * 512 → (∀ i, i < m → sct L i = conts xs x.nm (p + i)) → Ext h h' → h.size ≤ b → K (.slice (some ⟨b, 0, none⟩) (m * 512) c) h') :
    CallsH Tryz.prog 42 #[ptrV w, ptrV x.b, .int .i64 p, .int .i64 m] h K ⟨⟩ := by
  have hptr : ptrOf xs x.nm = ptrV x.b := by unfold ptrOf; rw [hx]; rfl
  rw [← hptr]
  exact content_c a hp H
theorem over_full {N : Nat} {L : List UInt8} (h : L.length ≤ N) : (over (List.replicate N 0) 0 L).length = N := by
  rw [over_length (by rw [List.length_replicate]; omega), List.length_replicate]
theorem hold_c {w wm c : Nat} {xs : List Im} {x : Im} (a : WdAt h w wm xs) (hx : findI x.nm xs = some x) (hc : c * x.cs < x.n)
    (H1 : ∀ v, look2 (c : Int) x.F = some v → K v h)
    (H2 : ∀ b e d h', x.isOwn c = false → Base xs x c d → OwnT u8T 1 h' (.slice (some ⟨b, 0, none⟩) (x.cs * 512) e) (d.map byteV) → WdAt h' w wm (setI (x.put c (.slice (some ⟨b, 0, none⟩) (x.cs * 512) e) d) xs) → Mod (· = x.m) h h' → h.size ≤ b → K (.slice (some ⟨b, 0, none⟩) (x.cs * 512) e) h') :
    CallsH Tryz.prog 68 #[ptrV w, ptrV x.b, .int .i64 c] h K ⟨⟩ := by
  refine n68_calls ?_
  unfold n68
  obtain ⟨hxm, -⟩ := findI_mem hx
  have ax := a.im x hxm
  have hptr : ptrOf xs x.nm = ptrV x.b := by unfold ptrOf; rw [hx]; rfl
  have c4 := cellOf (i := 4) ax.cells rfl
  unfold ptrV
  simp (disch := omega) [c4]
  rw [Hp_lookup clKey (z := .slice none 0 0) (by kernel_rfl) ax.cl.map]
  by_cases hown : x.isOwn c = true
  · obtain ⟨cv, hcv⟩ := Option.isSome_iff_exists.1 hown
    rw [hcv]
    simp (disch := omega)
    exact H1 cv hcv
  · have hown' : x.isOwn c = false := by simpa using hown
    have hl : look2 (c : Int) x.F = none := by
      unfold Im.isOwn at hown'
      simpa using hown'
    rw [hl]
    obtain ⟨hb9, hb16⟩ := ax.bits
    have hcs := ax.cs
    have hn := ax.n
    have hcs0 := ax.cs0
    obtain ⟨W, hW⟩ : ∃ W, 2 ^ x.bits = W := ⟨_, rfl⟩
    rw [hW] at hcs
    have hWl : 512 ≤ W ∧ W ≤ 65536 := by
      rw [← hW]
      exact ⟨Nat.le_trans (by decide : 512 ≤ 2 ^ 9) (Nat.pow_le_pow_right (by decide) hb9), Nat.le_trans (Nat.pow_le_pow_right (by decide) hb16) (by decide)⟩
    obtain ⟨P, hP⟩ : ∃ P, P = c * x.cs := ⟨_, rfl⟩
    obtain ⟨N, hN9⟩ : ∃ N, N = x.n * 512 := ⟨_, rfl⟩
    obtain ⟨m, hm⟩ : ∃ m, m = min x.cs (x.n - P) := ⟨_, rfl⟩
    have c2 := cellOf (i := 2) ax.cells rfl
    have c3 := cellOf (i := 3) ax.cells rfl
    rw [← hN9] at c2
    rw [← hP] at hc
    obtain ⟨Q, hQ⟩ : ∃ Q, Q = P * 512 := ⟨_, rfl⟩
    obtain ⟨M, hM⟩ : ∃ M, M = m * 512 := ⟨_, rfl⟩
    have hcW : (c : Int) * (W : Int) = (Q : Int) := by
      have h1 : c * W = Q := by rw [hcs, hQ, hP, Nat.mul_assoc]
      rw [← h1, Int.natCast_mul]
    have hxb : ¬ x.b = h.size := by have := get_some_lt ax.cells; omega
    have hs1 := fun (q : Bool) (tt : Nat) (o1 o2 : Go.Operand) (g : Heap) (K : Value → Heap → Prop) => Hp_shlW (P := Tryz.prog) (q := q) (t := tt) (x := o1) (y := o2) (k' := .i64) (K := K) (h := g) (a := 1) hW (by omega) (by omega) (by omega)
    have hs2 := fun (q : Bool) (tt : Nat) (o1 o2 : Go.Operand) (g : Heap) (K : Value → Heap → Prop) => Hp_shlW (P := Tryz.prog) (q := q) (t := tt) (x := o1) (y := o2) (k' := .i64) (K := K) (h := g) (a := (c : Int)) hW (by omega) (by omega) (by rw [hcW]; omega)
    have hmin : (if (N : Int) < (Q : Int) + (W : Int) then (N : Int) else (Q : Int) + (W : Int)) = (Q : Int) + (M : Int) := by split <;> omega
    have hd1 : (Q : Int) / 512 = (P : Int) := by omega
    have hd2 : (M : Int) / 512 = (m : Int) := by omega
    have hd3 : (Q : Int) + (M : Int) - (Q : Int) = (M : Int) := by omega
    simp (disch := omega) [c2, c3, hs1, hs2, hcW, Hp_min2, hxb, hmin, hd1, hd2, hd3]
    refine (⟨_, rfl⟩ : ∃ f, f = h.push (.cells (Array.replicate W (.int .u8 0)) u8T)).elim fun g eg => ?_
    have e0 : Ext h g := by rw [eg]; exact (by repeat' (first | (with_reducible exact Ext.refl _) | (with_reducible assumption) | (with_reducible refine push_ext ?_) | (with_reducible refine hset_ext ?_ ?_) | (with_reducible refine Ext.trans ?_ (by assumption)) | omega | (simp; done) | (simp; omega) | (refine Ext.size ?_) | (refine Nat.le_succ_of_le (Ext.size ?_))))
    have o0 : OwnT u8T 1 g (.slice (some ⟨h.size, 0, none⟩) W W) ((List.replicate W (0 : UInt8)).map byteV) := by rw [eg]; exact own_make
    rw [show h.push (.cells (Array.replicate W (.int .u8 0)) 5) = g from eg.symm]
    clear eg
    refine content_x (a.ext e0) hx (by omega) fun b e L g1 o1 hL hs e1 f1 => ?_
    rw [← hM] at o1 hL
    rw [← hM]
    have hsub : (⟨h.size, 0, none⟩ : Go.Addr) = sub ⟨h.size, 0, none⟩ 0 W := by simp
    have hbyt : Bytes g1 (.slice (some ⟨b, 0, none⟩) M e) L := by
      have := o1.part (lo := 0) (hi := M) (c' := e) (Nat.zero_le _) (Nat.le_refl _) (by have := o1.seg.2.1; omega)
      rw [sub_zero, List.drop_zero, List.take_of_length_le (by omega)] at this
      exact this
    have o0' := o0.ext e1
    rw [hsub]
    refine Hp_copyAt (lo := 0) (m := W) (by kernel_rfl) o0' (by omega) hbyt fun g2 o2 m2 => ?_
    rw [← hsub]
    rw [List.take_of_length_le (by omega)] at o2
    have hML : M ≤ W := by omega
    obtain ⟨d, hd⟩ : ∃ d, d = over (List.replicate W (0 : UInt8)) 0 L := ⟨_, rfl⟩
    rw [← hd] at o2
    have e2 : Ext h g2 := m2.ext_from (e0.trans e1) (fun b hb e => by have e' : b = h.size := e; omega)
    have a2 := a.ext e2
    have ax2 := a2.im x hxm
    simp (disch := omega) [cellOf (i := 4) ax2.cells rfl]
    refine Hp_mapUpdate clKey ax2.cl.map fun g3 mp3 m3 => ?_
    have hdl : d.length = x.cs * 512 := by rw [hd, over_full (by omega), hcs]
    have hxu : ∀ b, b = h.size → b ≠ x.m := fun b e1 e2 => by have := ax.cl.map.lt; omega
    have o3 := o2.mod m3 (fun b hb => by cases hb; exact hxu _ rfl)
    have hbase : Base xs x c d := by
      refine ⟨hdl, fun k hk hkn => ?_⟩
      have hkd := Nat.div_add_mod k x.cs
      rw [hk, Nat.mul_comm, ← hP] at hkd
      have hkl := Nat.mod_lt k hcs0
      have hLm : L.length = m * 512 := by omega
      have hz : 0 * 512 + L.length ≤ (List.replicate W (0 : UInt8)).length := by rw [List.length_replicate]; omega
      have hso := sct_over (l := List.replicate W (0 : UInt8)) (p := 0) (k := k % x.cs) hLm hz
      rw [Nat.zero_mul] at hso
      rw [hd, hso, if_pos (by omega), Nat.sub_zero, hs _ (by omega)]
      congr 1
    rw [hcs] at o3
    have hfin := a2.put (c := c) (v := .slice (some ⟨h.size, 0, none⟩) W W) (d := d) hx m3 mp3 (by rw [hcs]; exact o3) hdl (fun b hb hbz => by
      have e' : h.size = b := Option.some.inj hb
      have := ax.zlt b hbz
      omega)
    rw [hcs] at hfin
    have := H2 h.size W d g3 hown' hbase (by rw [hcs]; exact o3) (by rw [hcs]; exact hfin) ((Mod.of_ext e2).trans m3 (fun b _ e => e)) (Nat.le_refl _)
    rw [← hcs] at this
    exact this
end Go.Proofs.YtoonjlhfgjnnmaaGreat
set_option linter.unusedSimpArgs false
set_option linter.unusedVariables false
namespace Go.Proofs.YtoonjlhfgjnnmaaGreat
open Go.Vc
variable {K : Value → Heap → Prop} {h : Heap}

theorem clone_c {b n c : Nat} {d : List UInt8} (o : OwnT u8T 1 h (.slice (some ⟨b, 0, none⟩) n c) (d.map byteV)) (h0 : 0 < n) (hn : n ≤ 100000000)
    (H : ∀ b2 c2 h', OwnT u8T 1 h' (.slice (some ⟨b2, 0, none⟩) n c2) (d.map byteV) → Ext h h' → h.size ≤ b2 → K (.slice (some ⟨b2, 0, none⟩) n c2) h') : CallsH Tryz.prog 67 #[.slice (some ⟨b, 0, none⟩) n c] h K ⟨⟩ := by
  refine n67_calls ?_
  unfold n67
  simp (disch := omega)
  have hdl := o.seg.1
  refine (⟨_, rfl⟩ : ∃ f, f = h.push (.cells #[] u8T)).elim fun g eg => ?_
  have e0 : Ext h g := by rw [eg]; exact (by repeat' (first | (with_reducible exact Ext.refl _) | (with_reducible assumption) | (with_reducible refine push_ext ?_) | (with_reducible refine hset_ext ?_ ?_) | (with_reducible refine Ext.trans ?_ (by assumption)) | omega | (simp; done) | (simp; omega) | (refine Ext.size ?_) | (refine Nat.le_succ_of_le (Ext.size ?_))))
  have hq : g[h.size]? = some (.cells #[] u8T) := by rw [eg]; exact get_pushed rfl
  rw [show h.push (.cells #[] 5) = g from eg.symm]
  clear eg
  have ho : OwnT u8T 1 g (.slice (some ⟨h.size, 0, none⟩) 0 0) [] := .inr ⟨h.size, 0, 0, [], rfl, rfl, Nat.le_refl _, by simpa using hq, rfl⟩
  have hb : Bytes g (.slice (some ⟨b, 0, none⟩) n c) d := by
    obtain ⟨h1, h2, h3⟩ := (o.ext e0).seg
    exact .inr ⟨_, c, by rw [h1], by omega, h3⟩
  refine Hp_appendT (e := u8T) (s := 1) (by_ := 1) (n := 0) (k := n) (news := d.map byteV) (by kernel_rfl) (by kernel_rfl) ho rfl (by omega) (by have := Src.of_bytes hb; rw [hdl] at this; exact this) (one_bytes d) (by omega) (by omega) fun v' h3 hO hM hF hB => ?_
  have hz := e0.size
  obtain ⟨a', n', c', rfl, hn', -, hb'⟩ := hO.form (by omega)
  simp at hn'
  have hnn : n' = n := by omega
  subst hnn
  have hfr : ∀ b2, blkV (.slice a' n' c') = some b2 → h.size ≤ b2 := fun b2 hb2 => (hF b2 hb2).elim (fun e => by cases e; exact Nat.le_refl _) (fun e => by omega)
  have hneb : ∀ b', b' < h.size → blkV (.slice (some ⟨h.size, 0, none⟩) 0 0) = some b' → False := fun b' hb' e => by
    have e' : h.size = b' := by injection e
    omega
  rcases hO with ⟨e1, e2⟩ | ⟨b2, n2, c2, rest, e1, h1, h2, h3', h4⟩
  · injection e1 with e3 e4 e5; omega
  · cases e1
    exact H b2 c' h3 (.inr ⟨b2, n', c', rest, rfl, by simpa using h1, h2, by simpa using h3', by simpa using h4⟩) (hM.ext_from e0 hneb) (hfr b2 rfl)
/-- Held, whether it was its own or not. -/
theorem hold_u {w wm c : Nat} {xs : List Im} {x : Im} (a : WdAt h w wm xs) (hx : findI x.nm xs = some x) (hc : c * x.cs < x.n)
    (H : ∀ b e d x2 h', Base xs x c d → OwnT u8T 1 h' (.slice (some ⟨b, 0, none⟩) (x.cs * 512) e) (d.map byteV) → WdAt h' w wm (setI x2 xs) → (∃ F G, x2 = { x with F := F, G := G }) → (∀ v d', x2.put c v d' = x.put c v d') → Mod (· = x.m) h h' → K (.slice (some ⟨b, 0, none⟩) (x.cs * 512) e) h') :
    CallsH Tryz.prog 68 #[ptrV w, ptrV x.b, .int .i64 c] h K ⟨⟩ := by
  refine hold_c a hx hc (fun v hv => ?_) (fun b e d h' hown hb ho ha hm _ => ?_)
  · have ax := a.im x (findI_mem hx).1
    obtain ⟨o1, o2⟩ := ax.cl.byt _ _ hv
    have hown : x.isOwn c = true := by unfold Im.isOwn; rw [hv]; rfl
    have hb := base_own a.wl hx hown o2
    obtain ⟨va, vn, vc, rfl, hvn, hvc, hvb⟩ := o1.form (by omega)
    have hcs := ax.cs0
    obtain ⟨b, rfl⟩ := hvb (by
      intro e0
      rw [List.map_eq_nil_iff.1 e0] at o2
      simp at o2
      omega)
    have hnn : vn = x.cs * 512 := by
      rw [List.length_map, o2] at hvn
      omega
    subst hnn
    exact H b vc _ x h hb o1 (by rw [setI_self a.wl.nd hx]; exact a) ⟨x.F, x.G, rfl⟩ (fun _ _ => rfl) (.refl _ _)
  · exact H b e d _ h' hb ho ha ⟨_, _, rfl⟩ (fun v d' => put_put) hm
set_option maxHeartbeats 1000000 in
theorem lay_c {w wm p m : Nat} {xs : List Im} {x : Im} {vb : Value} {s : List UInt8} (a : WdAt h w wm xs) (hx : findI x.nm xs = some x) (hp : p + m ≤ x.n) (bs : Bytes h vb s) (hs : s.length = m * 512)
    (H : ∀ x' h', Wrote xs x x' p m s → WdAt h' w wm (setI x' xs) → Mod (· = x.m) h h' → K (.tuple #[]) h') : CallsH Tryz.prog 35 #[ptrV w, ptrV x.b, .int .i64 p, vb] h K ⟨⟩ := by
  refine n35_calls ?_
  unfold n35
  obtain ⟨hxm, -⟩ := findI_mem hx
  have ax := a.im x hxm
  obtain ⟨hb9, hb16⟩ := ax.bits
  have hcs := ax.cs
  have hn := ax.n
  have hcs0 := ax.cs0
  obtain ⟨W, hW⟩ : ∃ W, 2 ^ x.bits = W := ⟨_, rfl⟩
  rw [hW] at hcs
  have hWl : 512 ≤ W ∧ W ≤ 65536 := by
    rw [← hW]
    exact ⟨Nat.le_trans (by decide : 512 ≤ 2 ^ 9) (Nat.pow_le_pow_right (by decide) hb9), Nat.le_trans (Nat.pow_le_pow_right (by decide) hb16) (by decide)⟩
  have hvne : s ≠ [] → ∀ b, blkV vb = some b → b ≠ x.m := fun hne b hb e => by
    rcases bs with ⟨-, h1⟩ | ⟨a', c', rfl, h1, h2⟩
    · exact hne h1
    · have h3 := h2 0 (List.length_pos_iff.2 hne)
      obtain ⟨es, cl, h4, _⟩ := ax.cl.map
      have hab : a'.block = x.m := by rw [← e]; exact Option.some.inj hb
      rw [elt_zero] at h3
      unfold hcell at h3
      rw [hab, h4] at h3
      simp at h3
  have hp5 : (p : Int) * 512 = ((p * 512 : Nat) : Int) := by omega
  have hp6 : p * 512 ≤ 67108864 := by omega
  simp (disch := omega)
  rw [hp5]
  refine loopX2 (α := Nat × Im × Value) (fun a => a.2.2) (fun a => .int .i64 (((p + a.1) * 512 : Nat) : Int)) (fun a g => a.1 ≤ m ∧ Wrote xs x a.2.1 p a.1 (s.take (a.1 * 512)) ∧ WdAt g w wm (setI a.2.1 xs) ∧ Mod (· = x.m) h g ∧ Bytes g a.2.2 (s.drop (a.1 * 512)) ∧ (∀ b, blkV a.2.2 = some b → blkV vb = some b)) (fun a => m - a.1) (0, x, vb) ⟨rfl, by simp⟩ ⟨by simp, by simpa using Wrote.zero a.wl hx p, by rw [setI_self a.wl.nd hx]; exact a, .refl _ _, by simpa using bs, fun b hb => hb⟩ ?_
  rintro ⟨j, x1, v1⟩ g ⟨hj, hl, a1, m1, b1, f1⟩ X hX
  dsimp only at hj hl a1 m1 b1 f1 hX ⊢
  obtain ⟨w1, fx1, en, ee, ec, eb⟩ := hl.facts a.wl hx
  obtain ⟨F, G, hx1⟩ := hl.same
  have exm : x1.m = x.m := by rw [hx1]
  have exb : x1.b = x.b := by rw [hx1]
  have hfx1 : findI x1.nm (setI x1 xs) = some x1 := fx1
  have hrl : (s.drop (j * 512)).length = (m - j) * 512 := by rw [List.length_drop, hs, Nat.sub_mul]
  by_cases hjm : j < m
  · rcases b1 with ⟨-, hb0⟩ | ⟨ad, cv, rfl, hcv, hAt⟩
    · rw [hb0] at hrl; simp at hrl; omega
    obtain ⟨rest, hrest⟩ : ∃ rest, rest = s.drop (j * 512) := ⟨_, rfl⟩
    rw [← hrest] at hrl hcv hAt ⊢
    obtain ⟨RL, hRL⟩ : ∃ RL, RL = rest.length := ⟨_, rfl⟩
    rw [← hRL] at hrl hcv ⊢
    obtain ⟨T, hT⟩ : ∃ T, T = p + j := ⟨_, rfl⟩
    rw [← hT]
    obtain ⟨PL, hPL⟩ : ∃ PL, PL = T * 512 := ⟨_, rfl⟩
    rw [← hPL]
    have ax1 := a1.im x1 (findI_mem fx1).1
    have c3 := cellOf (i := 3) ax1.cells rfl
    rw [exb, eb] at c3
    have hPLb : PL ≤ 67108864 := by omega
    have hRLp : 0 < RL := by omega
    obtain ⟨c, hc⟩ : ∃ c, c = T / x.cs := ⟨_, rfl⟩
    have hdiv : ((PL : Int) / (W : Int)) = (c : Int) := by
      have h1 : PL / W = c := by rw [hcs, hPL, hc]; exact Nat.mul_div_mul_right T x.cs (by omega)
      rw [← h1, Int.natCast_ediv]
    have hshr := fun (q : Bool) (tt : Nat) (o1 o2 : Go.Operand) (g : Heap) (K : Value → Heap → Prop) => Hp_shrW (P := Tryz.prog) (q := q) (t := tt) (x := o1) (y := o2) (k' := .i64) (K := K) (h := g) (a := (PL : Int)) hW (by omega) (by omega)
    unfold ptrV
    simp (disch := omega) [c3, hshr, hdiv]
    have hTn : T < x.n := by omega
    have hcT : c * x.cs ≤ T := by rw [hc]; exact Nat.div_mul_le_self T x.cs
    obtain ⟨r, hr⟩ : ∃ r, r = T % x.cs := ⟨_, rfl⟩
    have hTd : T = c * x.cs + r := by have := Nat.div_add_mod T x.cs; rw [← hc, ← hr, Nat.mul_comm] at this; omega
    have hrl2 : r < x.cs := by rw [hr]; exact Nat.mod_lt T hcs0
    refine (fun key => key) ?_
    rw [show (.pointer (some ⟨x.b, 0, none⟩) : Value) = ptrV x1.b by rw [exb]; rfl]
    refine hold_u a1 fx1 (by rw [ec, ee]; omega) fun vbk e d x2 g2 hbase ho a2 hx2 hput m2 => ?_
    rw [ec] at ho ⊢
    have hcsW : x.cs * 512 ≤ 65536 := by rw [← hcs]; exact hWl.2
    refine clone_c ho (by rw [← hcs]; omega) (Nat.le_trans hcsW (by decide)) fun b2 e2 g3 o3 e3 f3 => ?_
    obtain ⟨F2, G2, hx2e⟩ := hx2
    have x2b : x2.b = x.b := by rw [hx2e]; exact exb
    have x2m : x2.m = x.m := by rw [hx2e]; exact exm
    have x2nm : x2.nm = x.nm := by rw [hx2e]; exact en
    have x2cs : x2.cs = x.cs := by rw [hx2e]; exact ec
    have x2bits : x2.bits = x.bits := by rw [hx2e]; exact eb
    have hfx2 : findI x2.nm (setI x2 (setI x1 xs)) = some x2 := by
      have : findI x2.nm (setI x1 xs) = some x1 := by rw [x2nm, ← en]; exact fx1
      rw [findI_setI this, if_pos rfl]
    have a3 := a2.ext e3
    have ax3 := a3.im x2 (findI_mem hfx2).1
    have d3 := cellOf (i := 3) ax3.cells rfl
    obtain ⟨C, hC⟩ : ∃ C, C = c * x.cs * 512 := ⟨_, rfl⟩
    obtain ⟨R, hR⟩ : ∃ R, R = r * 512 := ⟨_, rfl⟩
    have hPC : PL = C + R := by rw [hPL, hC, hR, hTd, Nat.add_mul]
    have hRW : R + 512 ≤ W := by omega
    have hcW : (c : Int) * (W : Int) = (C : Int) := by
      have h1 : c * W = C := by rw [hcs, hC, Nat.mul_assoc]
      rw [← h1, Int.natCast_mul]
    rw [x2b, x2bits] at d3
    rw [← hcs] at o3 ⊢
    have hs2 := fun (q : Bool) (tt : Nat) (o1 o2 : Go.Operand) (g : Heap) (K : Value → Heap → Prop) => Hp_shlW (P := Tryz.prog) (q := q) (t := tt) (x := o1) (y := o2) (k' := .i64) (K := K) (h := g) (a := (c : Int)) hW (by omega) (by omega) (by rw [hcW]; omega)
    have hsubR : (PL : Int) - (C : Int) = (R : Int) := by omega
    have he2 := o3.seg.2.1
    rw [show ptrV x1.b = .pointer (some ⟨x.b, 0, none⟩) by rw [exb]; rfl]
    simp (disch := omega) [d3, hs2, hcW, hsubR]
    have hbr : Bytes g3 (.slice (some ad) RL cv) rest := by
      have h0 : Bytes g (.slice (some ad) RL cv) rest := .inr ⟨ad, cv, by rw [hRL], by omega, hAt⟩
      refine (h0.mod m2 (fun b hb e => ?_)).ext e3
      rw [exm] at e
      exact hvne (fun e0 => by rw [e0] at hs; simp at hs; omega) b (f1 b hb) e
    obtain ⟨m2', hm2'⟩ : ∃ m2', m2' = min (m - j) (x.cs - r) := ⟨_, rfl⟩
    obtain ⟨n2, hn2⟩ : ∃ n2, n2 = m2' * 512 := ⟨_, rfl⟩
    have hnm : min RL (W - R) = n2 := by omega
    refine Hp_copyAt (lo := R) (m := W - R) (by kernel_rfl) o3 (by omega) hbr fun g4 o4 m4 => ?_
    rw [← hRL, hnm]
    have e4 : Ext g2 g4 := m4.ext_from e3 (fun b hb e => by have e' : b = b2 := e; omega)
    have a4 := a2.ext e4
    have ax4 := a4.im x2 (findI_mem hfx2).1
    have d4 := cellOf (i := 4) ax4.cells rfl
    rw [x2b, x2m] at d4
    simp (disch := omega) [d4]
    have mp4 := ax4.cl.map
    have mp4' := mp4
    rw [x2m] at mp4
    refine Hp_mapUpdate clKey mp4 fun g5 mp5 m5 => ?_
    have hcvn : RL ≤ cv := by omega
    have hn2R : n2 ≤ RL := by omega
    simp (disch := omega)
    obtain ⟨d2, hd2⟩ : ∃ d2, d2 = over d R (rest.take (W - R)) := ⟨_, rfl⟩
    rw [← hd2] at o4
    have hdl : d.length = W := o3.seg.1
    have hd2l : d2.length = x.cs * 512 := by rw [hd2, over_length (by rw [List.length_take]; omega), hdl, hcs]
    have hb2 : b2 ≠ x.m := fun e => by
      have := ax.cl.map.lt
      have := m2.size
      have := m1.size
      omega
    have o5 := o4.mod m5 (fun b hb e => by have e' : b2 = b := Option.some.inj hb; exact hb2 (by rw [e', e]))
    have m5' : Mod (· = x2.m) g4 g5 := by rw [x2m]; exact m5
    have mp5' : MapK ik g5 x2.m (upd (c : Int) (.slice (some ⟨b2, 0, none⟩) W e2) x2.F) := by rw [x2m]; exact mp5
    have a5 := a4.put (c := c) (v := .slice (some ⟨b2, 0, none⟩) W e2) (d := d2) hfx2 m5' mp5' o5 (by rw [x2cs]; exact hd2l) (fun b hb hbz => by
      have e' : b2 = b := Option.some.inj hb
      have := (a2.im x2 (findI_mem hfx2).1).zlt b hbz
      omega)
    rw [hput] at a5
    have hss : setI (x1.put c (.slice (some ⟨b2, 0, none⟩) W e2) d2) (setI x2 (setI x1 xs)) = setI (x1.put c (.slice (some ⟨b2, 0, none⟩) W e2) d2) xs := by
      rw [setI_setI (show (x1.put c _ d2).nm = x2.nm by rw [x2nm]; exact en), setI_setI (show (x1.put c _ d2).nm = x1.nm from rfl)]
    rw [hss] at a5
    have hrl9 : rest.length = RL := hRL.symm
    have hs2l : (rest.take (W - R)).length = m2' * 512 := by rw [List.length_take, hrl9]; omega
    have hstep := hl.step (m2 := m2') (c := c) (s2 := rest.take (W - R)) (d := d) (v := .slice (some ⟨b2, 0, none⟩) W e2) a.wl hx (by rw [List.length_take, hs]; omega) hbase hcs0 hs2l (by omega) (by rw [← hT]; exact hc.symm) (by rw [← hT, ← hr]; omega) (by omega)
    rw [← hT, ← hr, ← hR, ← hd2] at hstep
    have htake : s.take (j * 512) ++ rest.take (W - R) = s.take ((j + m2') * 512) := by
      have h1 : rest.take (W - R) = rest.take n2 := by
        by_cases h2 : W - R ≤ RL
        · rw [show n2 = W - R by omega]
        · rw [List.take_of_length_le (by omega), List.take_of_length_le (by omega)]
      rw [h1, hrest, Nat.add_mul, hn2]
      exact (List.take_add).symm
    rw [htake] at hstep
    have hrest5 : At g5 ad rest := by
      have h0 : Bytes g4 (.slice (some ad) RL cv) rest := by
        have h9 : Bytes g2 (.slice (some ad) RL cv) rest := by
          have h0 : Bytes g (.slice (some ad) RL cv) rest := .inr ⟨ad, cv, by rw [hRL], by omega, hAt⟩
          refine h0.mod m2 (fun b hb e => ?_)
          rw [exm] at e
          exact hvne (fun e0 => by rw [e0] at hs; simp at hs; omega) b (f1 b hb) e
        exact h9.ext e4
      have h5 := h0.mod m5 (fun b hb e => hvne (fun e0 => by rw [e0] at hs; simp at hs; omega) b (f1 b hb) e)
      rcases h5 with ⟨h5, -⟩ | ⟨ad', cv', h5, -, h6⟩
      · cases h5
      · injection h5 with h7
        rw [Option.some.inj h7]
        exact h6
    have hpart := hrest5.part n2 RL cv hn2R (by omega) (by omega)
    rw [List.take_of_length_le (by omega)] at hpart
    have hdrop : rest.drop n2 = s.drop ((j + m2') * 512) := by
      rw [hrest, List.drop_drop, hn2, ← Nat.add_mul]
    rw [hdrop] at hpart
    refine hX (j + m2', x1.put c (.slice (some ⟨b2, 0, none⟩) W e2) d2, .slice (some (sub ad n2 cv)) (RL - n2) (cv - n2)) _ _ _ rfl ?_ ⟨by dsimp only; omega, hstep, a5, ?_, .inr ⟨_, cv - n2, ?_, ?_, hpart⟩, fun b hb => f1 b ?_⟩ (by dsimp only; omega)
    · dsimp only
      congr 1
      rw [hPL, hn2, hT]; omega
    · rw [exm] at m2
      exact (Mod.extIn (m1.trans m2 (fun _ _ e => e)) e4).trans m5 (fun _ _ e => e)
    · have h9 : (s.drop ((j + m2') * 512)).length = m * 512 - (j + m2') * 512 := by rw [List.length_drop, hs]
      have h8 : RL - n2 = m * 512 - (j + m2') * 512 := by omega
      rw [h9, ← h8]
    · have h9 : (s.drop ((j + m2') * 512)).length = m * 512 - (j + m2') * 512 := by rw [List.length_drop, hs]
      have h8 : RL - n2 = m * 512 - (j + m2') * 512 := by omega
      rw [h9, ← h8]
      exact Nat.sub_le_sub_right hcvn n2
    · have hb' : some (sub ad n2 cv).block = some b := hb
      rw [show (sub ad n2 cv).block = ad.block by simp] at hb'
      exact hb'
  · obtain rfl : j = m := by omega
    have hv0 : Bytes g v1 [] := by
      have := b1
      rw [List.drop_eq_nil_of_le (Nat.le_of_eq hs)] at this
      exact this
    have hl' : Wrote xs x x1 p j s := by rw [List.take_of_length_le (Nat.le_of_eq hs)] at hl; exact hl
    rcases hv0 with ⟨rfl, -⟩ | ⟨ad, cv, rfl, hcv, -⟩
    · simp (disch := omega)
      exact H x1 g hl' a1 m1
    · simp (disch := omega)
      exact H x1 g hl' a1 m1
end Go.Proofs.YtoonjlhfgjnnmaaGreat

/- Tables: a list of snapshots as bytes. -/
import Derived.Test.YtgnmjcljljfldaaTab2
import Derived.Test.YtgnmjcljljfldaaOpen
set_option linter.unusedSimpArgs false
set_option linter.unusedVariables false
namespace Go.Proofs.Ytgnmjcljljfldaa
open Go.Vc
variable {K : Value → Heap → Prop} {h : Heap}

/-- A list of snapshots. -/
def Sns (h : Heap) (v : Value) (xs : List Sn) : Prop := Slc 4 h v (fun us x => us = x.cells) xs
theorem Sns.ext {h' : Heap} {v : Value} {xs : List Sn} (s : Sns h v xs) (e : Ext h h') : Sns h' v xs := by
  rcases s with s | ⟨a, c, h1, h2, h3⟩
  · exact .inl s
  · refine .inr ⟨a, c, h1, h2, fun i hi => ?_⟩
    obtain ⟨us, h4, h5, h6⟩ := h3 i hi
    exact ⟨us, h4, h5.ext e, h6⟩
theorem Sns.form {v : Value} {xs : List Sn} (s : Sns h v xs) : ∃ o c, v = .slice o xs.length c := Slc.form s
theorem Sns.cell {a : Addr} {n c : Nat} {xs : List Sn} (s : Sns h (.slice (some a) n c) xs) (i : Nat) (hi : i < xs.length) :
    hcell h (elt a (i * 4)) = some (str xs[i].name) ∧ hcell h (elt a (i * 4 + 1)) = some (.int .i64 xs[i].l1) ∧ hcell h (elt a (i * 4 + 2)) = some (.int .i64 xs[i].len) ∧ hcell h (elt a (i * 4 + 3)) = some (.int .i64 xs[i].size) := by
  rcases s with ⟨h1, -⟩ | ⟨a', c', h1, h2, h3⟩
  · cases h1
  · cases h1
    obtain ⟨us, -, h5, rfl⟩ := h3 i hi
    have := fun j hj => h5 j hj
    unfold Sn.cells at this
    have e0 := this 0 (by simp)
    have e1 := this 1 (by simp)
    have e2 := this 2 (by simp)
    have e3 := this 3 (by simp)
    rw [elt_elt] at e0 e1 e2 e3
    exact ⟨e0, e1, e2, e3⟩
theorem Sns.some {o : Option Addr} {n c : Nat} {xs : List Sn} (s : Sns h (.slice o n c) xs) (hx : 0 < xs.length) : ∃ a, o = some a ∧ n = xs.length ∧ xs.length ≤ c := by
  rcases s with ⟨h1, rfl⟩ | ⟨a', c', h1, h2, h3⟩
  · simp at hx
  · cases h1; exact ⟨_, rfl, rfl, h2⟩

/-- A list that may be. -/
def GoodL (xs : List Sn) (b : Int) : Prop := (∀ x ∈ xs, SnOk x b) ∧ (xs.map Sn.name).Nodup
def SnsB (xs : List Sn) : List UInt8 := xs.flatMap Sn.bytes
open Classical in
noncomputable def putR (xs : List Sn) (b : Int) : List UInt8 × Int :=
  if ¬ (9 ≤ b ∧ b ≤ 16) then ([], 2) else if GoodL xs b then (if 64 < xs.length then ([], 3) else (SnsB xs, 0)) else ([], 2)
theorem putR_bits {xs : List Sn} {b : Int} (hb : ¬ (9 ≤ b ∧ b ≤ 16)) : putR xs b = ([], 2) := by unfold putR; rw [if_pos hb]
theorem putR_bad {xs : List Sn} {b : Int} (hb : 9 ≤ b ∧ b ≤ 16) (hg : ¬ GoodL xs b) : putR xs b = ([], 2) := by unfold putR; rw [if_neg (by simpa using hb), if_neg hg]
theorem putR_long {xs : List Sn} {b : Int} (hb : 9 ≤ b ∧ b ≤ 16) (hg : GoodL xs b) (hl : 64 < xs.length) : putR xs b = ([], 3) := by unfold putR; rw [if_neg (by simpa using hb), if_pos hg, if_pos hl]
theorem putR_ok {xs : List Sn} {b : Int} (hb : 9 ≤ b ∧ b ≤ 16) (hg : GoodL xs b) (hl : ¬ 64 < xs.length) : putR xs b = (SnsB xs, 0) := by unfold putR; rw [if_neg (by simpa using hb), if_pos hg, if_neg hl]
theorem GoodL.take {xs : List Sn} {b : Int} (g : GoodL xs b) (n : Nat) : GoodL (xs.take n) b :=
  ⟨fun x hx => g.1 x (List.mem_of_mem_take hx), by rw [List.map_take]; exact (List.take_sublist _ _).nodup g.2⟩
theorem good_step {xs : List Sn} {b : Int} {i : Nat} (hi : i < xs.length) (g : GoodL (xs.take i) b) (hk : SnOk xs[i] b) (hn : xs[i].name ∉ (xs.take i).map Sn.name) : GoodL (xs.take (i + 1)) b := by
  rw [List.take_succ_eq_append_getElem hi]
  refine ⟨fun x hx => ?_, ?_⟩
  · rcases List.mem_append.1 hx with hx | hx
    · exact g.1 x hx
    · rw [List.mem_singleton.1 hx]; exact hk
  · rw [List.map_append, List.nodup_append]
    refine ⟨g.2, by simp, fun a ha c hc => ?_⟩
    simp only [List.map_cons, List.map_nil, List.mem_singleton] at hc
    rintro rfl
    exact hn (hc ▸ ha)
theorem good_not {xs : List Sn} {b : Int} {i : Nat} (hi : i < xs.length) (hx : ¬ SnOk xs[i] b ∨ xs[i].name ∈ (xs.take i).map Sn.name) : ¬ GoodL xs b := fun g => by
  rcases hx with hx | hx
  · exact hx (g.1 _ (List.getElem_mem hi))
  · have g1 := (g.take (i + 1)).2
    rw [List.take_succ_eq_append_getElem hi, List.map_append, List.nodup_append] at g1
    exact g1.2.2 _ hx _ (by simp) rfl
theorem SnsB_take {xs : List Sn} {i : Nat} (hi : i < xs.length) : SnsB (xs.take (i + 1)) = SnsB (xs.take i) ++ xs[i].bytes := by
  unfold SnsB
  rw [List.take_succ_eq_append_getElem hi, List.flatMap_append]
  simp only [List.flatMap_cons, List.flatMap_nil, List.append_nil]
theorem Sn.bytes_le {x : Sn} {b : Int} (hk : SnOk x b) : x.bytes.length ≤ 100 := by
  unfold Sn.bytes
  have := hk.1.2.1
  simp
  omega
theorem SnsB_le {b : Int} : ∀ {xs : List Sn}, (∀ x ∈ xs, SnOk x b) → (SnsB xs).length ≤ 100 * xs.length
  | [], _ => by simp [SnsB]
  | x :: xs, h => by
    have h1 := Sn.bytes_le (h x List.mem_cons_self)
    have h2 := SnsB_le (xs := xs) (b := b) (fun y hy => h y (List.mem_cons_of_mem _ hy))
    unfold SnsB at *
    simp only [List.flatMap_cons, List.length_append, List.length_cons]
    omega

theorem Name1_c {n : List UInt8} {l m s : Int} (H : ∀ h', Ext h h' → K (str n) h') : CallsH Try.prog 72 #[.agg #[str n, .int .i64 l, .int .i64 m, .int .i64 s]] h K ⟨⟩ := by
  refine n72_calls ?_
  unfold n72
  simp (disch := omega)
  exact H _ (by repeat' (first | (with_reducible exact Ext.refl _) | (with_reducible assumption) | (with_reducible refine push_ext ?_) | (with_reducible refine hset_ext ?_ ?_) | (with_reducible refine Ext.trans ?_ (by assumption)) | omega | (simp; done) | (simp; omega) | (refine Ext.size ?_) | (refine Nat.le_succ_of_le (Ext.size ?_))))

theorem lookS {m : Nat} {l : List (List UInt8 × Value)} {k : List UInt8} {q : Bool} (hm : MapK str h m l) : Hp Try.prog q (Instr.lookup 107 (.map (some m)) (str k) false) K h ⟨⟩ ↔ K ((look2 k l).getD (.int .i64 0)) h :=
  Hp_lookup (ok := false) (KeyT.str (by kernel_rfl)) (by kernel_rfl) hm

set_option maxHeartbeats 4000000 in
theorem put_c {v : Value} {xs : List Sn} {b : Int} (hS : Sns h v xs) (hl : xs.length < 1000000) (H : ∀ v' h', Ext h h' → Bytes h' v' (putR xs b).1 → (∀ b, blkV v' = some b → h.size ≤ b) → K (.tuple #[v', .int .i64 (putR xs b).2]) h') :
    CallsH Try.prog 71 #[.int .i64 b, .int .i64 64, v, .func (.func 72) #[] #[], .func (.func 73) #[] #[], .func (.func 74) #[] #[]] h K ⟨⟩ := by
  obtain ⟨o, c, rfl⟩ := hS.form
  refine n71_calls ?_
  unfold n71
  by_cases hb : 9 ≤ b ∧ b ≤ 16
  · simp (disch := omega)
    refine Hp_makeMap.2 ?_
    simp (disch := omega)
    refine loopA1 (fun i : Nat => .int .i64 i) (fun i h' => Ext h h' ∧ i ≤ xs.length ∧ GoodL (xs.take i) b ∧ ∃ ml, MapK str h' h.size ml ∧ ∀ k, look2 k ml = if k ∈ (xs.take i).map Sn.name then some (.int .i64 1) else none) (fun i => xs.length - i) 0 rfl ⟨(by repeat' (first | (with_reducible exact Ext.refl _) | (with_reducible assumption) | (with_reducible refine push_ext ?_) | (with_reducible refine hset_ext ?_ ?_) | (with_reducible refine Ext.trans ?_ (by assumption)) | omega | (simp; done) | (simp; omega) | (refine Ext.size ?_) | (refine Nat.le_succ_of_le (Ext.size ?_)))), by omega, ⟨by simp, by simp⟩, [], MapK.new rfl, fun k => by simp [look2]⟩ ?_
    rintro i h1 ⟨e1, hi, hg, hml⟩
    refine hml.elim fun ml hml => ?_
    have hM := hml.1
    have hlk := hml.2
    by_cases hin : i = xs.length
    · have hgx : GoodL xs b := by rw [hin, List.take_length] at hg; exact hg
      by_cases h64 : 64 < xs.length
      · rw [putR_long hb hgx h64] at H
        simp (disch := omega) [hin]
        exact H _ _ e1 (.inl ⟨rfl, rfl⟩) (fun b hb => by cases hb)
      · rw [putR_ok hb hgx h64] at H
        simp (disch := omega) [hin]
        refine loopA2 (fun a : Value × Nat => a.1) (fun a => .int .i64 a.2) (fun a h' => Ext h h' ∧ a.2 ≤ xs.length ∧ OwnS 1 h' a.1 ((SnsB (xs.take a.2)).map byteV) ∧ ∀ b, blkV a.1 = some b → h.size ≤ b) (fun a => xs.length - a.2) (_, 0) ⟨rfl, rfl⟩ ⟨e1, by omega, .nil, fun b hb => by cases hb⟩ ?_
        rintro ⟨u, j⟩ h2 ⟨e2, hj, hu, hub⟩
        dsimp only at hj hu hub
        by_cases hjn : j = xs.length
        · rw [hjn, List.take_length] at hu
          simp (disch := omega) [hjn]
          exact H _ _ e2 hu.bytes hub
        · have hjl : j < xs.length := by omega
          obtain ⟨a, rfl, -, hc⟩ := hS.some (by omega)
          have hcs := (hS.ext e2).cell j hjl
          have hk := hgx.1 xs[j] (List.getElem_mem hjl)
          have hbl := SnsB_le (hgx.take j).1
          have hbx := Sn.bytes_le hk
          have htk := SnsB_take hjl
          generalize hX : xs[j] = X at *
          obtain ⟨n, l, m, s⟩ := X
          dsimp only at hcs
          simp (disch := omega) [hcs.1, hcs.2.1, hcs.2.2.1, hcs.2.2.2]
          refine InvokeH_f1 (by kernel_rfl) (snapBytes_c hk fun v3 h3 hO3 e3 hF3 => ?_)
          have E23 : Ext h2 h3 := Ext.trans ((by repeat' (first | (with_reducible exact Ext.refl _) | (with_reducible assumption) | (with_reducible refine push_ext ?_) | (with_reducible refine hset_ext ?_ ?_) | (with_reducible refine Ext.trans ?_ (by assumption)) | omega | (simp; done) | (simp; omega) | (refine Ext.size ?_) | (refine Nat.le_succ_of_le (Ext.size ?_))))) e3
          have hu3 := hu.ext E23
          simp at hbl
          refine Hp_appB (e := 5) (by kernel_rfl) (by kernel_rfl) hu3 hO3.bytes (by omega) fun v4 h4 hO4 hM4 hF4 _ => ?_
          simp (disch := omega)
          have z3 := E23.size
          have z2 := e2.size
          refine ⟨j + 1, by simp, ⟨hM4.ext_from (e2.trans E23) (fun b hb e => by have := hub b e; omega), by omega, ?_, fun b hb => (hF4 b hb).elim (fun e => hub b e) (fun e => by omega)⟩, by omega⟩
          rw [htk]
          exact hO4
    · have hil : i < xs.length := by omega
      obtain ⟨a, rfl, -, hc⟩ := hS.some (by omega)
      have hcs := (hS.ext e1).cell i hil
      generalize hX : xs[i] = X at *
      obtain ⟨n, l, m, s⟩ := X
      dsimp only at hcs
      simp (disch := omega) [hcs.1, hcs.2.1, hcs.2.2.1, hcs.2.2.2]
      refine InvokeH_f1 (by kernel_rfl) (Name1_c fun h2 e2 => ?_)
      have ce2 := ext_cell e2 rfl; have fe2 := ext_frz e2 rfl; have se2 := (e2).size; (try simp only [Array.size_push, hset_size] at ce2); (try simp only [Array.size_push, hset_size] at fe2); (try simp only [Array.size_push, hset_size] at se2)
      have hlt := hM.lt
      have d0 : Cel h2 h1.size 0 (str n) := ⟨by simp (disch := omega) [ce2], by simp (disch := omega) [fe2]⟩
      have d1 : Cel h2 h1.size 1 (.int .i64 l) := ⟨by simp (disch := omega) [ce2], by simp (disch := omega) [fe2]⟩
      have d2 : Cel h2 h1.size 2 (.int .i64 m) := ⟨by simp (disch := omega) [ce2], by simp (disch := omega) [fe2]⟩
      have d3 : Cel h2 h1.size 3 (.int .i64 s) := ⟨by simp (disch := omega) [ce2], by simp (disch := omega) [fe2]⟩
      have E12 : Ext h1 h2 := Ext.trans ((by repeat' (first | (with_reducible exact Ext.refl _) | (with_reducible assumption) | (with_reducible refine push_ext ?_) | (with_reducible refine hset_ext ?_ ?_) | (with_reducible refine Ext.trans ?_ (by assumption)) | omega | (simp; done) | (simp; omega) | (refine Ext.size ?_) | (refine Nat.le_succ_of_le (Ext.size ?_))))) e2
      clear ce2 fe2
      have hM2 := hM.ext E12
      have hc01 : ∃ t : Int, (look2 n ml).getD (.int .i64 0) = .int .i64 t ∧ (t = 0 ∧ n ∉ (xs.take i).map Sn.name ∨ t = 1 ∧ n ∈ (xs.take i).map Sn.name) := by
        rw [hlk]
        by_cases hn : n ∈ (xs.take i).map Sn.name
        · exact ⟨1, by rw [if_pos hn]; rfl, .inr ⟨rfl, hn⟩⟩
        · exact ⟨0, by rw [if_neg hn]; rfl, .inl ⟨rfl, hn⟩⟩
      refine hc01.elim fun t ht => ?_
      have ht1 := ht.1
      have htb : 0 ≤ t ∧ t ≤ 1 := by omega
      simp (disch := omega) [lookS hM2, ht1]
      refine Hp_mapUpdate (KeyT.str (by kernel_rfl)) hM2 fun h3 hM3 m3 => ?_
      have d0 := d0.mod m3 (by omega)
      have d1 := d1.mod m3 (by omega)
      have d2 := d2.mod m3 (by omega)
      have d3 := d3.mod m3 (by omega)
      simp (disch := omega) [d0.get, d1.get, d2.get, d3.get]
      have E3 : Ext h h3 := m3.ext_from (e1.trans E12) (fun b hb e => by omega)
      refine InvokeH_f2 (by kernel_rfl) (snap_c hb.1 hb.2 (fun h4 e4 hk => ?_) (fun h4 e4 hk => ?_))
      · have d0 := d0.ext e4
        have d1 := d1.ext e4
        have d2 := d2.ext e4
        have d3 := d3.ext e4
        simp (disch := omega) [d0.get, d1.get, d2.get, d3.get]
        refine InvokeH_f1 (by kernel_rfl) (Name1_c fun h5 e5 => ?_)
        have hM5 := (hM3.ext e4).ext e5
        have hlk5 : (look2 n (upd n (.int .i64 (t + 1)) ml)).getD (.int .i64 0) = .int .i64 (t + 1) := by rw [look2_upd, if_pos rfl]; rfl
        have E5 := (E3.trans e4).trans e5
        simp (disch := omega) [lookS hM5, hlk5]
        refine Split.mk (fun hgt => ?_) (fun hgt => ?_)
        · rw [putR_bad hb (good_not hil (.inr (by rw [hX]; dsimp only; rcases ht.2 with h | h; omega; exact h.2)))] at H
          simp (disch := omega)
          exact H _ _ E5 (.inl ⟨rfl, rfl⟩) (fun b hb => by cases hb)
        · simp (disch := omega)
          have hn : n ∉ (xs.take i).map Sn.name := by rcases ht.2 with h | h; exact h.2; omega
          have h0 : t = 0 := by omega
          refine ⟨i + 1, by simp, ⟨E5, by omega, good_step hil hg (by rw [hX]; exact hk) (by rw [hX]; exact hn), _, hM5, fun k => ?_⟩, by omega⟩
          rw [look2_upd, hlk, ← List.map_take, List.take_succ_eq_append_getElem hil, hX, List.map_append]
          by_cases e : k = n
          · rw [if_pos e, if_pos (by simp [e]), h0]; rfl
          · rw [if_neg e]
            simp [e]
      · rw [putR_bad hb (good_not hil (.inl (by rw [hX]; exact hk)))] at H
        simp (disch := omega)
        exact H _ _ (E3.trans e4) (.inl ⟨rfl, rfl⟩) (fun b hb => by cases hb)
  · rw [putR_bits hb] at H
    by_cases h9 : b < 9
    · simp (disch := omega) [h9]
      exact H _ _ (.refl _) (.inl ⟨rfl, rfl⟩) (fun b hb => by cases hb)
    · simp (disch := omega) [h9]
      exact H _ _ (.refl _) (.inl ⟨rfl, rfl⟩) (fun b hb => by cases hb)
end Go.Proofs.Ytgnmjcljljfldaa

/- Store: two pieces, of which one lasts. Store: what a crash leaves of a file. -/
import Derived.Test.YtdmcaaojapcbcaaStoF
set_option linter.unusedSimpArgs false
set_option linter.unusedVariables false
namespace Go.Proofs.Ytdmcaaojapcbcaa
open Go.Vc
variable {K : Value → Heap → Prop} {h : Heap}

/-- A file of this name is found. -/
theorem get_of {p : Nat} {s : St} (a : StAt h p s) {x : Fh} (hx : x ∈ s.F) {l : List UInt8} (hn : x.name = l) : s.get l = some x := hn ▸ (psOf_mem a hx).1
/-- All of a file is read. -/
theorem readAll_c {p : Nat} {s : St} {l : List UInt8} {x : Fh} (a : StAt h p s) (hx : x ∈ s.F) (hn : x.name = l) (H : ∀ h' v, Ext h h' → OwnG bT 1 h' v (x.f.now.map byteV) → (∀ b, blkG v = some b → h.size ≤ b) → (∀ b, blkV v = some b → h.size ≤ b) → K (.tuple #[v, .int .i64 0]) h') :
    CallsH Try.prog 26 #[ptrV p, str l, .int .i64 0, .int .i64 268435456] h K ⟨⟩ := by
  have hg := get_of a hx hn
  have ho : okName l := hn ▸ a.names x hx
  have hfl := a.fl x hx
  have hfew : x.last.length ≤ 268435456 := hfl.ok.few
  have hlen := hfl.len
  refine Read_c a (by have := ho.2.1; omega) (by omega) (by omega) (by omega) (by omega) (fun h' e hne => absurd ?_ hne) (fun h' y v e hy hgy _ _ _ o w w' => ?_)
  · unfold rdErr
    rw [if_pos ho, hg]
    dsimp only
    rw [if_neg (by omega)]
  · rw [hg] at hgy
    cases hgy
    have ht : (x.f.now.drop (0 : Int).toNat).take (268435456 : Int).toNat = x.f.now := by
      rw [show (0 : Int).toNat = 0 from rfl, List.drop_zero, List.take_of_length_le (by rw [hlen]; exact hfew)]
    rw [ht] at o
    exact H h' v e o w w'
theorem cvSameS {L : List UInt8} (hl : 0 < L.length) (H : ∀ h', OwnS 1 h' (.slice (some ⟨h.size, 0, none⟩) L.length L.length) (L.map byteV) → Ext h h' → K (.slice (some ⟨h.size, 0, none⟩) L.length L.length) h') :
    Hp Try.prog false (convert 50 50 (.slice (some ⟨h.size, 0, none⟩) L.length L.length)) K (h.push (.cells (L.map byteV).toArray 5)) ⟨⟩ := by
  have ht : Try.prog.underlying 50 = some (.slice 5) := by kernel_rfl
  have he : Try.prog.underlying 5 = some (.int .u8) := by kernel_rfl
  rw [Hp_iff]
  unfold convert
  rw [hp_bind', hp_underlying ht, hp_bind', hp_underlying ht]
  simp only
  rw [hp_bind', hp_underlying he]
  simp only [beq_self_eq_true]
  unfold markStringish
  rw [hp_bind', hp_bind']
  show _ ∧ _
  refine ⟨rfl, ?_⟩
  have hsh : hshape (h.push (.cells (L.map byteV).toArray 5)) h.size = some (5, L.length) := by
    unfold hshape
    simp
  simp only [hsh]
  show _ ∧ _
  refine ⟨rfl, ?_⟩
  have hfz : hfreeze (h.push (.cells (L.map byteV).toArray 5)) ⟨h.size, L.length, none⟩ 1 = h.push (.cells (L.map byteV).toArray 5 (L.length, L.length + 1)) := by
    unfold hfreeze
    apply Array.ext_getElem?
    intro j
    rw [if_neg (by decide), Array.getElem?_modify, Array.getElem?_push, Array.getElem?_push]
    by_cases e : j = h.size
    · subst e; simp
    · simp [e, Ne.symm e]
  show K _ (hfreeze _ ⟨h.size, L.length, none⟩ 1)
  rw [hfz]
  exact H _ (.inr ⟨h.size, L.length, L.length, [], 5, (L.length, L.length + 1), rfl, by simp, Nat.le_refl _, by simp, by simp, fun i hi hh => by simp at hh hi; omega⟩) (push_ext (.refl _))
def wxyz : List UInt8 := [119, 120, 121, 122]
def kF : Fl := (⟨[97], [], []⟩ : Fl).writes (cutP 510 wxyz)
theorem kF_eq : kF = ⟨[97], growL (growL [] 512) 514, [⟨510, [119, 120]⟩, ⟨512, [121, 122]⟩]⟩ := by
  unfold kF wxyz
  rw [cutP_cons (by simp)]
  simp only [List.length_cons, List.length_nil]
  rw [show min (0 + 1 + 1 + 1 + 1) (512 - 510 % 512) = 2 from rfl]
  simp only [List.take_succ_cons, List.take_zero, List.drop_succ_cons, List.drop_zero]
  rw [cutP_cons (by simp)]
  simp only [List.length_cons, List.length_nil]
  rw [show min (0 + 1 + 1) (512 - (510 + 2) % 512) = 2 from rfl]
  simp only [List.take_succ_cons, List.take_zero, List.drop_succ_cons, List.drop_zero]
  rw [cutP_nil]
  rfl
theorem kF_len : kF.last.length = 514 := by rw [kF_eq]; show (growL (growL [] 512) 514).length = 514; rw [growL_len, growL_len]; rfl
theorem kF_crash : ((kF.crash [0, 1]).last.drop 510).take 9 = [0, 0, 121, 122] := by
  rw [kF_eq]
  kernel_rfl
theorem pend_one {s : St} {x : Fh} (hF : s.F = [x]) : s.pend = x.f.ps.length := by unfold St.pend; rw [hF]; simp
set_option maxHeartbeats 4000000 in
theorem known6_c (H : ∀ h', Ext h h' → K (.bool true) h') : CallsH Try.prog 21 #[] h K ⟨⟩ := by
  refine n21_calls ?_
  unfold n21
  have hf0 : Fas h (.slice none 0 0) [] := ⟨.inl ⟨rfl, rfl, rfl⟩, ⟨none, 0, rfl, Nat.le_refl _⟩, by decide, fun f hf => by cases hf⟩
  have ok1 : okName [97] := by decide
  refine New_c hf0 (by decide) (fun h1 e1 hn => by cases hn) (fun h1 p t e1 _ tF tf ts hp hft ht => ?_)
  simp (disch := omega)
  have hg0 : t.get [97] = none := by unfold St.get; rw [tF]; rfl
  refine Create_c ht (by decide) (by omega) (fun h2 e2 hne => absurd ?_ hne) (fun h2 fv hne hE _ => absurd ?_ hE) (fun h2 fv b hE _ _ _ u2 => ?_)
  · unfold cErr; rw [if_pos ok1, hg0, tF]; rfl
  · rw [tf]; rfl
  simp (disch := omega)
  refine cvSameS (h := h2) (L := wxyz) (by decide) fun h3 o3 e3 => ?_
  have b3 := o3.bytes
  have z2 := u2.mod.size
  have e12 : Ext h h2 := u2.mod.ext_from e1 (fun b hb e => by have := hft b e; omega)
  have st3 := u2.st.ext e3
  refine Write_c st3 (by decide) b3 (by decide) (fun _ c hc e => ?_) (by decide) (by decide) (by show t.steps + 1 + 1 < 1000000; omega) (fun h4 e4 hne => absurd ?_ hne) (fun h4 A B x x' fv4 hF hn _ _ hn' hx' u4 => ?_)
  · have hc' : h2.size = c := by cases hc; rfl
    have := u2.st.lt e
    omega
  · have hg : St.get { t.stepped fv with F := t.F ++ [newFh [97] b] } [97] = some (newFh [97] b) := by unfold St.get; rw [tF]; rfl
    unfold wErr; rw [if_pos ok1, hg]; rfl
  have hFn : ([newFh [97] b] : List Fh) = A ++ x :: B := by rw [← hF]; show _ = t.F ++ [newFh [97] b]; rw [tF]; rfl
  obtain ⟨rfl, rfl, rfl⟩ : A = [] ∧ x = newFh [97] b ∧ B = [] := by
    cases A with
    | nil => simp at hFn; exact ⟨rfl, hFn.1.symm, hFn.2⟩
    | cons y A => simp at hFn
  clear hF hFn
  have hkf : x'.f = kF := by
    rw [hx']
    have : (fateE (t.stepped fv).fates) = 0 := by show fateE t.fates.tail = 0; rw [tf]; rfl
    unfold went
    rw [if_pos this]; rfl
  have hE4 : fateE (St.fates { t.stepped fv with F := t.F ++ [newFh [97] b] }) = 0 := by show fateE t.fates.tail = 0; rw [tf]; rfl
  rw [hE4]
  clear hE4
  have st4 := u4.st
  have hF4 : ∀ y, y ∈ ([] ++ x' :: [] : List Fh) ↔ y = x' := by simp
  have hlast : x'.last.length = 514 := by have : x'.f.last = x'.last := rfl; rw [← this, hkf, kF_len]
  have hnm : x'.name = [97] := hn'
  refine Size_c st4 (by decide) (fun h5 e5 hne => absurd ?_ hne) (fun h5 y e5 hy _ => ?_)
  · unfold fErr; rw [if_pos ok1]
    have := get_of st4 (x := x') (by simp) hnm
    rw [this]
  rw [(hF4 y).1 hy, hlast]
  simp (disch := omega)
  have e6 : Ext h5 (h5.push (.cells #[.int .i64 0, .int .i64 1] 3)) := (by repeat' (first | (with_reducible exact Ext.refl _) | (with_reducible assumption) | (with_reducible refine push_ext ?_) | (with_reducible refine hset_ext ?_ ?_) | (with_reducible refine Ext.trans ?_ (by assumption)) | omega | (simp; done) | (simp; omega) | (refine Ext.size ?_) | (refine Nat.le_succ_of_le (Ext.size ?_))))
  have hits : Its (h5.push (.cells #[.int .i64 0, .int .i64 1] 3)) (.slice (some ⟨h5.size, 0, none⟩) 2 2) [0, 1] := by
    refine ⟨Src_new (vs := [.int .i64 0, .int .i64 1]) rfl, ⟨_, _, rfl, Nat.le_refl _⟩, by decide, fun n hn => ?_⟩
    simp at hn; omega
  have st5 := (st4.ext e5).ext e6
  refine Crash_c st5 hits (fun h6 e6' hne => by simp at hne) (fun h6 p' s' L e7 _ pm _ st6 hcr _ _ hp' hft' => ?_)
  have hL : L = [[97]] := by
    have : L.Perm [x'.name] := by simpa using pm
    rw [hnm] at this
    exact List.perm_singleton.1 this
  subst hL
  have hfo : St.flOf { (St.stepped { t.stepped fv with F := t.F ++ [newFh [97] b] } fv4) with F := [] ++ x' :: [] } [97] = kF := by
    unfold St.flOf
    rw [get_of st4 (x := x') (by simp) hnm]
    exact hkf
  rw [List.map_cons, List.map_nil, hfo, crashAll, crashAll] at hcr
  obtain ⟨y, hy⟩ : ∃ y, s'.F = [y] := by
    cases hs : s'.F with
    | nil => rw [hs] at hcr; simp at hcr
    | cons y l =>
      rw [hs] at hcr
      simp at hcr
      exact ⟨y, by rw [hcr.2]⟩
  rw [hy] at hcr
  have hyf : y.f = kF.crash [0, 1] := by simpa using hcr
  have hyn : y.name = [97] := by have h1 : y.f.name = y.name := rfl; rw [← h1, hyf]; show kF.name = _; rw [kF_eq]
  have hym : y ∈ s'.F := by rw [hy]; simp
  have hyl : y.last = (kF.crash [0, 1]).last := by have h1 : y.f.last = y.last := rfl; rw [← h1, hyf]
  have hyl2 : y.last.length = 514 := by
    have okk : kF.ok := hkf ▸ (st4.fl x' (by simp)).ok
    rw [hyl, okk.crash_len, kF_len]
  have hynow : y.f.now = (kF.crash [0, 1]).last := by rw [hyf]; rfl
  simp (disch := omega)
  refine Read_c st6 (by decide) (by decide) (by decide) (by decide) (by decide) (fun h7 e8 hne => absurd ?_ hne) (fun h7 z v e8 _ hgz _ _ _ ov _ _ => ?_)
  · unfold rdErr
    rw [if_pos ok1, get_of st6 hym hyn]
    dsimp only
    rw [hyl2]; rfl
  rw [get_of st6 hym hyn] at hgz
  cases hgz
  have hbz : Bytes h7 v [0, 0, 121, 122] := by
    have := ov.bytes
    rw [hynow] at this
    have e9 : ((kF.crash [0, 1]).last.drop (510 : Int).toNat).take (9 : Int).toNat = [0, 0, 121, 122] := kF_crash
    rw [e9] at this
    exact this
  have hpend : St.pend { (St.stepped { t.stepped fv with F := t.F ++ [newFh [97] b] } fv4) with F := [] ++ x' :: [] } = 2 := by
    rw [pend_one (x := x') rfl, hkf, kF_eq]; rfl
  have st7 := (st5.ext e7).ext e8
  obtain ⟨va, vn, vc, rfl, -, -, -⟩ := ov.form
  simp (disch := omega)
  refine Pending_c st7 fun h8 e9 => ?_
  rw [hpend]
  simp (disch := omega)
  rw [Hp_bytesStr (e := bT) (by kernel_rfl) (by kernel_rfl) (by kernel_rfl) (hbz.ext e9)]
  simp (disch := omega)
  have e03 : Ext h h3 := e12.trans e3
  have e04 : Ext h h4 := u4.mod.ext_from e03 (fun c hc e => by
    rcases u2.foot c e with e | e
    · have := hft c e; omega
    · have := e1.size; omega)
  exact H h8 (e04.trans (e5.trans (e6.trans (e7.trans (e8.trans e9)))))
end Go.Proofs.Ytdmcaaojapcbcaa
set_option linter.unusedSimpArgs false
set_option linter.unusedVariables false
namespace Go.Proofs.Ytdmcaaojapcbcaa
open Go.Vc
variable {K : Value → Heap → Prop} {h : Heap}

theorem crashAll_mem : ∀ {fs : List Fl} {f : Fl} (ks : List Int), f ∈ fs → ∃ j, j + f.ps.length ≤ npc fs ∧ f.crash (ks.drop j) ∈ crashAll ks fs
  | g :: fs, f, ks, hf => by
    rcases List.mem_cons.1 hf with rfl | hf
    · exact ⟨0, by simp [npc], by rw [crashAll]; simp⟩
    · obtain ⟨j, h1, h2⟩ := crashAll_mem (ks.drop g.ps.length) hf
      refine ⟨g.ps.length + j, ?_, ?_⟩
      · simp only [npc, List.map_cons, List.sum_cons] at h1 ⊢; omega
      · rw [crashAll, ← List.drop_drop]; exact List.mem_cons_of_mem _ h2
theorem flOf_mem {p : Nat} {s : St} (a : StAt h p s) {x : Fh} (hx : x ∈ s.F) : s.flOf x.name = x.f := by unfold St.flOf; rw [get_of a hx rfl]
theorem npc_perm {p : Nat} {s : St} (a : StAt h p s) {L : List (List UInt8)} (hp : L.Perm (s.F.map (·.name))) : npc (L.map s.flOf) = s.pend := by
  rw [← pend_perm a hp]
  unfold npc
  rw [List.map_map]
  congr 1
  refine List.map_congr_left fun n hn => ?_
  obtain ⟨x, hx, rfl⟩ := List.mem_map.1 (hp.mem_iff.1 hn)
  show (s.flOf x.name).ps.length = _
  rw [flOf_mem a hx, (psOf_mem a hx).2]
/-- What a crash leaves of a file. -/
theorem crash_file {g : Heap} {p p' : Nat} {s s' : St} {L : List (List UInt8)} {ks : List Int} (a : StAt h p s) (a' : StAt g p' s') (hp : L.Perm (s.F.map (·.name))) (hc : s'.F.map Fh.f = crashAll ks (L.map s.flOf)) {x : Fh} (hx : x ∈ s.F) :
    ∃ y ∈ s'.F, y.name = x.name ∧ ∃ j, j + x.f.ps.length ≤ s.pend ∧ y.f = x.f.crash (ks.drop j) := by
  have hm : x.f ∈ L.map s.flOf := List.mem_map.2 ⟨x.name, hp.mem_iff.2 (List.mem_map_of_mem hx), flOf_mem a hx⟩
  obtain ⟨j, h1, h2⟩ := crashAll_mem ks hm
  rw [← hc] at h2
  obtain ⟨y, hy, he⟩ := List.mem_map.1 h2
  refine ⟨y, hy, ?_, j, by rw [npc_perm a hp] at h1; exact h1, he⟩
  have : y.f.name = y.name := rfl
  rw [← this, he]; rfl
theorem crash_len {x : Fh} (a : FlAt h x) (ks : List Int) : (x.f.crash ks).last.length = x.last.length := a.ok.crash_len ks
/-- A crashed store has no pieces. -/
theorem crashAll_ps : ∀ (ks : List Int) (fs : List Fl), ∀ f ∈ crashAll ks fs, f.ps = []
  | ks, [], f, hf => by cases hf
  | ks, g :: fs, f, hf => by
    rw [crashAll] at hf
    rcases List.mem_cons.1 hf with rfl | hf
    · rfl
    · exact crashAll_ps _ fs f hf
theorem crash_pend {s' : St} {fs : List Fl} {ks : List Int} (hc : s'.F.map Fh.f = crashAll ks fs) : s'.pend = 0 := by
  unfold St.pend
  have : ∀ l : List Nat, (∀ n ∈ l, n = 0) → l.sum = 0 := fun l hl => by
    induction l with
    | nil => rfl
    | cons n l ih => rw [List.sum_cons, hl n List.mem_cons_self, ih fun m hm => hl m (List.mem_cons_of_mem _ hm)]
  refine this _ fun n hn => ?_
  obtain ⟨x, hx, rfl⟩ := List.mem_map.1 hn
  have : x.f ∈ crashAll ks fs := hc ▸ List.mem_map_of_mem hx
  show x.f.ps.length = 0
  rw [crashAll_ps ks fs _ this]; rfl
/-- With all pieces it is what is read. -/
theorem crash_all {f : Fl} {ks : List Int} {j n : Nat} (h1 : j + f.ps.length ≤ n) (h2 : ks = List.replicate n 1) : (f.crash (ks.drop j)).last = f.now := by
  show layAll f.last (picked (ks.drop j) f.ps) = layAll f.last f.ps
  rw [picked_all]
  · rw [h2, List.length_drop, List.length_replicate]; omega
  · intro k hk
    rw [h2] at hk
    exact (List.mem_replicate.1 (List.mem_of_mem_drop hk)).2
/-- A byte that no piece meets. -/
theorem crash_out {f : Fl} (o : f.ok) (ks : List Int) {i : Nat} (hi : ∀ p ∈ f.ps, i < p.at_ ∨ p.at_ + p.b.length ≤ i) : (f.crash ks).last[i]? = f.now[i]? := by
  show (layAll f.last (picked ks f.ps))[i]? = (layAll f.last f.ps)[i]?
  rw [layAll_out (fun p hp => (o.pc p (picked_sub hp)).2) (fun p hp => hi p (picked_sub hp)), layAll_out (fun p hp => (o.pc p hp).2) hi]
theorem crashAll_back : ∀ {fs : List Fl} {ks : List Int} {f : Fl}, f ∈ crashAll ks fs → ∃ g ∈ fs, ∃ j, f = g.crash (ks.drop j)
  | [], _, _, h => by cases h
  | g :: fs, ks, f, h => by
    rw [crashAll] at h
    rcases List.mem_cons.1 h with rfl | h
    · exact ⟨g, List.mem_cons_self, 0, by simp⟩
    · obtain ⟨g', h1, j, h2⟩ := crashAll_back h
      exact ⟨g', List.mem_cons_of_mem _ h1, g.ps.length + j, by rw [h2, List.drop_drop]⟩
theorem crashAll_len : ∀ (ks : List Int) (fs : List Fl), (crashAll ks fs).length = fs.length
  | _, [] => rfl
  | ks, f :: fs => by rw [crashAll, List.length_cons, crashAll_len, List.length_cons]
/-- Whence a crashed file comes. -/
theorem crash_back {p : Nat} {s s' : St} {L : List (List UInt8)} {ks : List Int} (a : StAt h p s) (hp : L.Perm (s.F.map (·.name))) (hc : s'.F.map Fh.f = crashAll ks (L.map s.flOf)) {y : Fh} (hy : y ∈ s'.F) :
    ∃ x ∈ s.F, y.name = x.name ∧ ∃ j, y.f = x.f.crash (ks.drop j) := by
  have : y.f ∈ crashAll ks (L.map s.flOf) := hc ▸ List.mem_map_of_mem hy
  obtain ⟨g, hg, j, he⟩ := crashAll_back this
  obtain ⟨n, hn, rfl⟩ := List.mem_map.1 hg
  obtain ⟨x, hx, rfl⟩ := List.mem_map.1 (hp.mem_iff.1 hn)
  rw [flOf_mem a hx] at he
  refine ⟨x, hx, ?_, j, he⟩
  have : y.f.name = y.name := rfl
  rw [← this, he]; rfl
theorem crash_flen {s s' : St} {L : List (List UInt8)} {ks : List Int} (hp : L.Perm (s.F.map (·.name))) (hc : s'.F.map Fh.f = crashAll ks (L.map s.flOf)) : s'.F.length = s.F.length := by
  have h1 := congrArg List.length hc
  rw [List.length_map, crashAll_len, List.length_map, hp.length_eq, List.length_map] at h1
  exact h1
theorem crash_same {x y : Fh} {ks : List Int} (hx : x.qs = []) (he : y.f = x.f.crash ks) : y.last = x.last ∧ y.qs = [] := by
  have h1 : y.f.last = y.last := rfl
  have h2 : y.f.ps = y.qs.map (·.1) := rfl
  have h3 : x.f.ps = [] := by show x.qs.map (·.1) = []; rw [hx]; rfl
  rw [he] at h1 h2
  constructor
  · rw [← h1]
    show layAll x.last (picked ks x.f.ps) = x.last
    rw [h3]
    have : picked ks ([] : List Pc) = [] := by cases ks <;> rfl
    rw [this]; rfl
  · exact List.map_eq_nil_iff.1 h2.symm
theorem pend_nil {s : St} (h : ∀ x ∈ s.F, x.qs = []) : s.pend = 0 := by
  unfold St.pend
  have : ∀ l : List Nat, (∀ n ∈ l, n = 0) → l.sum = 0 := fun l hl => by
    induction l with
    | nil => rfl
    | cons n l ih => rw [List.sum_cons, hl n List.mem_cons_self, ih fun m hm => hl m (List.mem_cons_of_mem _ hm)]
  refine this _ fun n hn => ?_
  obtain ⟨x, hx, rfl⟩ := List.mem_map.1 hn
  show (x.qs.map (·.1)).length = 0
  rw [h x hx]; rfl
end Go.Proofs.Ytdmcaaojapcbcaa

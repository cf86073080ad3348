/- Cache, plainly: a page is used. Cache: a page touched, found, brought in, in memory. Cache: a page is used. Cache: read, written. Cache: bytes written. Cache: written back, flushed, dropped, told. Cache: how a page stands; counts; a new cache. Cache: whom a page reaches. Cache: a page waits for another one. Cache: After. -/
import Derived.Test.YtcbbdnaelimpfaaGreatCacA
set_option linter.unusedSimpArgs false
set_option linter.unusedVariables false
namespace Go.Proofs.YtcbbdnaelimpfaaGreat
open Go.Vc Go.Sort
variable {K : Value → Heap → Prop} {h : Heap}

structure Same (c c' : Ca) : Prop where
  clock : c'.clock = c.clock
  hits : c'.hits = c.hits
  loads : c'.loads = c.loads
  room : c'.room = c.room
  sp : c'.sp = c.sp
theorem Same.refl (c : Ca) : Same c c := ⟨rfl, rfl, rfl, rfl, rfl⟩
theorem Same.trans {a b c : Ca} (h : Same a b) (k : Same b c) : Same a c := ⟨k.clock.trans h.clock, k.hits.trans h.hits, k.loads.trans h.loads, k.room.trans h.room, k.sp.trans h.sp⟩
theorem Mic.same {x y : Cx} (m : Mic x y) : Same x.1 y.1 := by
  cases m with
  | flush => unfold flushP; split <;> exact ⟨rfl, rfl, rfl, rfl, rfl⟩
  | write => unfold writeP; split <;> exact ⟨rfl, rfl, rfl, rfl, rfl⟩
theorem Mics.same {x y : Cx} (m : Mics x y) : Same x.1 y.1 := by
  induction m with
  | refl => exact .refl _
  | tail _ m ih => exact ih.trans m.same
theorem Less.map {β : Type} {c c' : Ca} (l : Less c c') (g : Pge → β) (hg : ∀ x : Pge, g { x with d := false } = g x) : c'.P.map g = c.P.map g := by
  have h := congrArg (List.map g) l.shape
  rw [List.map_map, List.map_map] at h
  have e : (g ∘ fun x : Pge => ({ x with d := false } : Pge)) = g := by funext x; exact hg x
  rw [e] at h
  exact h
structure Inv (c : Ca) : Prop where
  used : ∀ x ∈ c.P, x.u ≤ c.clock
  us : (c.P.map (·.u)).Nodup
  hit : c.hits ≤ c.clock
  load : c.loads ≤ c.clock
theorem Inv.less {c c' : Ca} (a : Inv c) (l : Less c c') (s : Same c c') : Inv c' := by
  have hu : c'.P.map (·.u) = c.P.map (·.u) := l.map _ (fun _ => rfl)
  refine ⟨fun x hx => ?_, by rw [hu]; exact a.us, by rw [s.hits, s.clock]; exact a.hit, by rw [s.loads, s.clock]; exact a.load⟩
  have : x.u ∈ c'.P.map (·.u) := List.mem_map_of_mem hx
  rw [hu] at this
  obtain ⟨y, hy, he⟩ := List.mem_map.1 this
  rw [s.clock, ← he]; exact a.used y hy
theorem Inv.drop {c : Ca} (a : Inv c) (n : Int) : Inv (c.dropP n) :=
  ⟨fun x hx => a.used x (List.mem_filter.1 hx).1, a.us.sublist (List.filter_sublist.map _), a.hit, a.load⟩
def Pge.touch (n : Int) (k : Nat) (x : Pge) : Pge := if x.n = n then { x with u := k } else x
def Ca.touched (c : Ca) (n : Int) : Ca := { c with P := c.P.map (Pge.touch n (c.clock + 1)), clock := c.clock + 1 }
def fillP (p : Ps) (bits : Nat) (n : Int) : List UInt8 := match p.f with | none => zeros (2 ^ bits) | some f => over (zeros (2 ^ bits)) 0 ((f.now.drop (n.toNat * 2 ^ bits)).take (2 ^ bits))
def Ca.added (c : Ca) (g : Pge) : Ca := { c with P := c.P ++ [g], loads := c.loads + 1 }
def Ca.hit1 (c : Ca) : Ca := { c with hits := c.hits + 1 }
def newPg (p : Ps) (bits : Nat) (n : Int) (pb bb : Nat) : Pge := ⟨n, fillP p bits n, false, 0, pb, bb⟩
def useP (f : Nat) (n : Int) (pb bb : Nat) (x : Cx) : Cx × Int := match x.2.f with
  | none => (x, 7)
  | some _ => match x.1.get n with
    | some _ => ((x.1.hit1.touched n, x.2), 0)
    | none => if (freeP f x).2 = 0 then ((((freeP f x).1.1.added (newPg (freeP f x).1.2 x.1.bits n pb bb)).touched n, (freeP f x).1.2), 0) else freeP f x
def useE (bits : Nat) (n at_ k : Int) : Int := if askE bits n ≠ 0 then 2 else if at_ < 0 ∨ k < 0 ∨ ((2 ^ bits : Nat) : Int) < at_ ∨ ((2 ^ bits : Nat) : Int) - at_ < k then 2 else 0
theorem freeP_spec {rk : Int → Nat} {f : Nat} (hf : ∀ n, rk n < f) (x : Cx) (hr : Ranks rk x.1) : ∃ y : Cx, Mics x y ∧ (freeP f x).1.2 = y.2 ∧ ((freeP f x).1.1 = y.1 ∨ ∃ g, x.1.victim = some g ∧ (freeP f x).2 = 0 ∧ y.1.dirty g.n = false ∧ (freeP f x).1.1 = y.1.dropP g.n) := by
  unfold freeP
  by_cases h1 : x.1.P.length < x.1.room
  · rw [if_pos h1]; exact ⟨x, .refl x, rfl, .inl rfl⟩
  · rw [if_neg h1]
    cases hv : x.1.victim with
    | none => exact ⟨x, .refl x, rfl, .inl rfl⟩
    | some g =>
      dsimp only
      obtain ⟨sp, h0⟩ := back_spec (rk := rk) f g.n x (hf _) hr
      by_cases h2 : (backP f g.n x).2 = 0
      · rw [if_pos h2]
        exact ⟨_, sp.mics, rfl, .inr ⟨g, rfl, rfl, h0 h2, rfl⟩⟩
      · rw [if_neg h2]
        exact ⟨_, sp.mics, rfl, .inl rfl⟩
theorem victim_mem {c : Ca} {g : Pge} (h : c.victim = some g) : g ∈ c.P := List.mem_of_find?_eq_some h
theorem freeP_room {rk : Int → Nat} {f : Nat} (hf : ∀ n, rk n < f) {x : Cx} (hr : Ranks rk x.1) (hP : x.1.P.length ≤ x.1.room) (h0 : (freeP f x).2 = 0) : (freeP f x).1.1.P.length < x.1.room := by
  unfold freeP at h0 ⊢
  by_cases h1 : x.1.P.length < x.1.room
  · rw [if_pos h1]; exact h1
  · rw [if_neg h1] at h0 ⊢
    cases hv : x.1.victim with
    | none => rw [hv] at h0; exact absurd h0 (by show ¬ (1 : Int) = 0; decide)
    | some g =>
      rw [hv] at h0
      dsimp only at h0 ⊢
      obtain ⟨sp, -⟩ := back_spec (rk := rk) f g.n x (hf _) hr
      by_cases h2 : (backP f g.n x).2 = 0
      · rw [if_pos h2]
        show ((backP f g.n x).1.1.P.filter _).length < _
        have hn : (backP f g.n x).1.1.P.map (·.n) = x.1.P.map (·.n) := sp.mics.less.map _ (fun _ => rfl)
        have hl := congrArg List.length hn
        simp only [List.length_map] at hl
        have hg : g.n ∈ (backP f g.n x).1.1.P.map (·.n) := by rw [hn]; exact List.mem_map_of_mem (victim_mem hv)
        obtain ⟨z, hz, he⟩ := List.mem_map.1 hg
        have : ((backP f g.n x).1.1.P.filter fun x => !decide (x.n = g.n)).length < (backP f g.n x).1.1.P.length :=
          List.length_filter_lt_length_iff_exists.2 ⟨z, hz, by simp [he]⟩
        omega
      · rw [if_neg h2] at h0; exact absurd h0 h2
theorem drop_get {c : Ca} {n m : Int} : (c.dropP n).get m = if m = n then none else c.get m := by
  unfold Ca.get Ca.dropP
  dsimp only
  induction c.P with
  | nil => simp
  | cons x l ih =>
    by_cases h : x.n = n
    · rw [List.filter_cons_of_neg (by simp [h]), ih, List.find?_cons]
      by_cases h2 : m = n
      · rw [if_pos h2, if_pos h2]
      · rw [if_neg h2, if_neg h2]
        simp [h, Ne.symm h2]
    · rw [List.filter_cons_of_pos (by simp [h]), List.find?_cons, List.find?_cons, ih]
      by_cases h2 : m = n
      · rw [if_pos h2, if_pos h2]
        subst h2
        simp [h]
      · rw [if_neg h2, if_neg h2]
theorem freeP_get {rk : Int → Nat} {f : Nat} (hf : ∀ n, rk n < f) {x : Cx} (hr : Ranks rk x.1) {n : Int} (h : x.1.get n = none) : (freeP f x).1.1.get n = none := by
  have keep : ∀ y : Cx, Mics x y → y.1.get n = none := fun y m => by
    have hn : y.1.P.map (·.n) = x.1.P.map (·.n) := m.less.map _ (fun _ => rfl)
    cases hg : y.1.get n with
    | none => rfl
    | some z =>
      exfalso
      obtain ⟨h1, h2⟩ := get_mem hg
      have h3 : z.n ∈ x.1.P.map (·.n) := by rw [← hn]; exact List.mem_map_of_mem h1
      obtain ⟨w, hw, he⟩ := List.mem_map.1 h3
      exact get_none_ h w hw (he.trans h2)
  obtain ⟨y, m, -, h2⟩ := freeP_spec hf x hr
  rcases h2 with h2 | ⟨g, -, -, -, h2⟩
  · rw [h2]; exact keep y m
  · rw [h2, drop_get]
    split
    · rfl
    · exact keep y m
theorem freeP_inv {rk : Int → Nat} {f : Nat} (hf : ∀ n, rk n < f) {x : Cx} (hr : Ranks rk x.1) (a : Inv x.1) : Inv (freeP f x).1.1 ∧ Same x.1 (freeP f x).1.1 ∧ (freeP f x).1.1.bits = x.1.bits ∧ Ranks rk (freeP f x).1.1 := by
  obtain ⟨y, m, -, h2⟩ := freeP_spec hf x hr
  have i := a.less m.less m.same
  rcases h2 with h2 | ⟨g, -, -, -, h2⟩
  · rw [h2]; exact ⟨i, m.same, m.less.bits, hr.less m.less⟩
  · rw [h2]; exact ⟨i.drop _, m.same.trans ⟨rfl, rfl, rfl, rfl, rfl⟩, m.less.bits, fun a b e => (hr.less m.less) a b e⟩
theorem touch_same (n : Int) (k : Nat) (y : Pge) : (y.touch n k).n = y.n ∧ (y.touch n k).pb = y.pb ∧ (y.touch n k).bb = y.bb ∧ (y.touch n k).D = y.D ∧ (y.touch n k).d = y.d := by
  unfold Pge.touch; split <;> exact ⟨rfl, rfl, rfl, rfl, rfl⟩
theorem touch_get {c : Ca} {n m : Int} : (c.touched n).get m = (c.get m).map (Pge.touch n (c.clock + 1)) := by
  unfold Ca.get Ca.touched
  dsimp only
  rw [List.find?_map]
  congr 2
  funext x
  simp [(touch_same n (c.clock + 1) x).1]
theorem Inv.touched {c : Ca} {n : Int} (hn : (c.P.map (·.n)).Nodup) (u0 : ∀ x ∈ c.P, x.n ≠ n → x.u ≤ c.clock) (us : ∀ x ∈ c.P, ∀ y ∈ c.P, x.n ≠ n → y.n ≠ n → x.u = y.u → x = y) (h1 : c.hits ≤ c.clock + 1) (h2 : c.loads ≤ c.clock + 1) : Inv (c.touched n) := by
  refine ⟨fun x hx => ?_, ?_, h1, h2⟩
  · obtain ⟨y, hy, rfl⟩ := List.mem_map.1 hx
    show (y.touch n _).u ≤ c.clock + 1
    unfold Pge.touch
    split
    · exact Nat.le_refl _
    · rename_i e; have := u0 y hy e; omega
  · show ((c.P.map (Pge.touch n (c.clock + 1))).map Pge.u).Nodup
    rw [List.map_map]
    have key : ∀ l : List Pge, (l.map (·.n)).Nodup → (∀ x ∈ l, x ∈ c.P) → (l.map (Pge.u ∘ Pge.touch n (c.clock + 1))).Nodup := by
      intro l
      induction l with
      | nil => intro _ _; exact .nil
      | cons x l ih =>
        intro hnd hm
        simp only [List.map_cons, List.nodup_cons] at hnd ⊢
        refine ⟨fun he => ?_, ih hnd.2 (fun y hy => hm y (List.mem_cons_of_mem _ hy))⟩
        obtain ⟨y, hy, e⟩ := List.mem_map.1 he
        have hxy : x.n ≠ y.n := fun e2 => hnd.1 (by rw [e2]; exact List.mem_map_of_mem hy)
        have hx := hm x List.mem_cons_self
        have hy' := hm y (List.mem_cons_of_mem _ hy)
        dsimp only [Function.comp] at e
        unfold Pge.touch at e
        by_cases h3 : y.n = n
        · rw [if_pos h3, if_neg (fun h4 => hxy (h4.trans h3.symm))] at e
          have := u0 x hx (fun h4 => hxy (h4.trans h3.symm))
          dsimp only at e; omega
        · rw [if_neg h3] at e
          by_cases h4 : x.n = n
          · rw [if_pos h4] at e
            have := u0 y hy' h3
            dsimp only at e; omega
          · rw [if_neg h4] at e
            exact hxy (by rw [us y hy' x hx h3 h4 e])
    exact key c.P hn (fun x hx => hx)
end Go.Proofs.YtcbbdnaelimpfaaGreat
set_option linter.unusedSimpArgs false
set_option linter.unusedVariables false
namespace Go.Proofs.YtcbbdnaelimpfaaGreat
open Go.Vc Go.Sort
variable {K : Value → Heap → Prop} {h : Heap}

theorem nums_nodup {o : Nat} {c : Ca} (A : CoAt h o c) : (c.P.map (·.n)).Nodup := by
  have := A.kept.nodup
  unfold Ca.keptL at this
  rw [List.map_map] at this
  exact this
theorem foot_map {o : Nat} {c c' : Ca} {f : Pge → Pge} (hP : c'.P = c.P.map f) (hf : ∀ y ∈ c.P, (f y).pb = y.pb ∧ (f y).bb = y.bb) (h1 : c'.km = c.km) (h2 : c'.pm = c.pm) (h3 : c'.wm = c.wm) (h4 : c'.W = c.W) {b : Nat} (hb : c'.foot o b) : c.foot o b := by
  unfold Ca.foot at hb ⊢
  rw [h1, h2, h3, h4, hP] at hb
  rcases hb with e | e | e | e | e | ⟨x, hx, e⟩ | ⟨x, hx, e⟩
  · exact .inl e
  · exact .inr (.inl e)
  · exact .inr (.inr (.inl e))
  · exact .inr (.inr (.inr (.inl e)))
  · exact .inr (.inr (.inr (.inr (.inl e))))
  · obtain ⟨y, hy, rfl⟩ := List.mem_map.1 hx
    exact .inr (.inr (.inr (.inr (.inr (.inl ⟨y, hy, e.trans (hf y hy).1⟩)))))
  · obtain ⟨y, hy, rfl⟩ := List.mem_map.1 hx
    exact .inr (.inr (.inr (.inr (.inr (.inr ⟨y, hy, e.trans (hf y hy).2⟩)))))
theorem touch_u {o : Nat} {c : Ca} {s : St} {n : Int} {g : Pge} {k : Int} (a : CAt h o c s) (hg : c.get n = some g) (hc : c.clock + 1 < 1000000) (hk : k = ((c.clock + 1 : Nat) : Int)) :
    CUpd h (hset (hset h ⟨o, 7, none⟩ (.int .i64 k)) ⟨g.pb, 3, none⟩ (.int .i64 k)) o c s (c.touched n) s := by
  subst hk
  obtain ⟨hx, hn⟩ := get_mem hg
  have pg := a.co.pg g hx
  have hne : o ≠ g.pb := get_ne a.co.cells pg cT_ne.1
  refine (⟨_, rfl⟩ : ∃ h1, h1 = hset h ⟨o, 7, none⟩ (.int .i64 ((c.clock + 1 : Nat) : Int))).elim fun h1 eh1 => ?_
  rw [← eh1]
  have m1 : Mod (· = o) h h1 := by rw [eh1]; exact Mod.set h ⟨o, 7, none⟩ _
  have k1 := a.co.cnt (k := c.clock + 1) (a := c.hits) (b := c.loads) (d := c.backs) (e := c.flushes) (h' := h1) (by rw [eh1]; exact obj_set a.co.cells) m1 { a.co.ok with clk := hc }
  clear eh1
  refine (⟨_, rfl⟩ : ∃ h2, h2 = hset h1 ⟨g.pb, 3, none⟩ (.int .i64 ((c.clock + 1 : Nat) : Int))).elim fun h2 eh2 => ?_
  rw [← eh2]
  have m2 : Mod (· = g.pb) h1 h2 := by rw [eh2]; exact Mod.set h1 ⟨g.pb, 3, none⟩ _
  have hgt : g.touch n (c.clock + 1) = { g with u := c.clock + 1 } := by unfold Pge.touch; rw [if_pos hn]
  have k2 : CoAt h2 o (c.touched n) := by
    refine k1.pageU (x := g) (f := Pge.touch n (c.clock + 1)) hx (fun y _ hy => ?_) (fun y _ => ⟨(touch_same n _ y).1, (touch_same n _ y).2.1, (touch_same n _ y).2.2.1⟩) ?_ ?_ (m2.mono (fun b _ e => .inl e)) ?_
    · unfold Pge.touch; rw [if_neg (by rw [hn] at hy; exact hy)]
    · rw [hgt, eh2]; exact obj_set (k1.pg g hx)
    · rw [hgt]
      exact (k1.by_ g hx).mod m2 (fun b hb e => (k1.by_ g hx).ne hb (k1.pg g hx) cT_ne.2.2.1.symm e)
    · have mapEq : ∀ {β : Type} (F : Pge → β), (∀ y, F (y.touch n (c.clock + 1)) = F y) → (c.P.map (Pge.touch n (c.clock + 1))).map F = c.P.map F := fun F hF => by
        rw [List.map_map]
        exact List.map_congr_left (fun y _ => hF y)
      have mem : ∀ x ∈ c.P.map (Pge.touch n (c.clock + 1)), ∃ y ∈ c.P, y.touch n (c.clock + 1) = x := fun x hx => List.mem_map.1 hx
      refine { k1.ok with few := ?_, len := fun x hx => ?_, num := fun x hx => ?_, pbs := ?_, bbs := ?_ }
      · show (c.P.map _).length ≤ _
        rw [List.length_map]; exact a.co.ok.few
      · obtain ⟨y, hy, rfl⟩ := mem x hx
        rw [(touch_same n _ y).2.2.2.1]; exact a.co.ok.len y hy
      · obtain ⟨y, hy, rfl⟩ := mem x hx
        rw [(touch_same n _ y).1]; exact a.co.ok.num y hy
      · show ((c.P.map (Pge.touch n (c.clock + 1))).map Pge.pb).Nodup
        rw [mapEq _ (fun y => (touch_same n _ y).2.1)]; exact a.co.ok.pbs
      · show ((c.P.map (Pge.touch n (c.clock + 1))).map Pge.bb).Nodup
        rw [mapEq _ (fun y => (touch_same n _ y).2.2.1)]; exact a.co.ok.bbs
  refine a.core k2 ((m1.mono (fun b _ e => .inl e)).trans m2 (fun b _ e => .inr (.inr (.inr (.inr (.inr (.inl ⟨g, hx, e⟩))))))) rfl (fun b hb => .inl ?_) a.bk a.fl
  exact foot_map (c' := c.touched n) rfl (fun y _ => ⟨(touch_same n _ y).2.1, (touch_same n _ y).2.2.1⟩) rfl rfl rfl rfl hb
theorem hit_u {o : Nat} {c : Ca} {s : St} {k : Int} (a : CAt h o c s) (hc : c.hits + 1 ≤ 1000000) (hk : k = ((c.hits + 1 : Nat) : Int)) : CUpd h (hset h ⟨o, 8, none⟩ (.int .i64 k)) o c s c.hit1 s := by
  subst hk
  refine (⟨_, rfl⟩ : ∃ h1, h1 = hset h ⟨o, 8, none⟩ (.int .i64 ((c.hits + 1 : Nat) : Int))).elim fun h1 eh1 => ?_
  rw [← eh1]
  have m1 : Mod (· = o) h h1 := by rw [eh1]; exact Mod.set h ⟨o, 8, none⟩ _
  have k1 := a.co.cnt (k := c.clock) (a := c.hits + 1) (b := c.loads) (d := c.backs) (e := c.flushes) (h' := h1) (by rw [eh1]; exact obj_set a.co.cells) m1 { a.co.ok with hit := hc }
  exact a.core k1 (m1.mono (fun b _ e => .inl e)) rfl (fun b hb => .inl hb) a.bk a.fl
theorem find_new {c : Ca} {g : Pge} (hn : c.get g.n = none) : (c.added g).get g.n = some g := by
  unfold Ca.get Ca.added at *
  dsimp only
  rw [List.find?_append, hn]
  simp
theorem add_u {o : Nat} {c : Ca} {s : St} {g : Pge} {h' : Heap} (a : CAt h o c s) (hn : c.get g.n = none) (hl : g.D.length = 2 ^ c.bits) (hnum : 0 ≤ g.n ∧ g.n * ((2 ^ c.bits : Nat) : Int) < 268435456) (hb1 : h.size ≤ g.pb) (hb2 : h.size ≤ g.bb)
    (hc : h'[g.pb]? = some (.cells g.cells pgT)) (hby : OwnG bT 1 h' g.sl (g.D.map byteV)) (hm : MapK ik h' c.km (upd g.n (ptrV g.pb) c.keptL)) (ho : h'[o]? = some (.cells (c.added g).cells cT)) (m : Mod (fun b => b = o ∨ b = c.km) h h') (hroom : c.P.length < c.room) (hld : c.loads + 1 ≤ 1000000) :
    CUpd h h' o c s (c.added g) s := by
  obtain ⟨o1, o2, o3⟩ := a.co.oM a.co.kept
  have neo : ∀ {mm : Nat} {l : List (Int × Value)}, MapK ik h mm l → mm ≠ c.km → ¬ (mm = o ∨ mm = c.km) := fun hm h1 e => e.elim (fun e => (a.co.oM hm).1 e.symm) h1
  have hlt : ∀ x ∈ c.P, x.pb < h.size ∧ x.bb < h.size := fun x hx => ⟨a.co.lt (.inr (.inr (.inr (.inr (.inr (.inl ⟨x, hx, rfl⟩)))))), a.co.lt (.inr (.inr (.inr (.inr (.inr (.inr ⟨x, hx, rfl⟩))))))⟩
  have hP : ∀ x ∈ (c.added g).P, x ∈ c.P ∨ x = g := fun x hx => by
    rcases List.mem_append.1 hx with h1 | h1
    · exact .inl h1
    · exact .inr (by simpa using h1)
  have co : CoAt h' o (c.added g) := by
    refine ⟨ho, ?_, fun x hx => ?_, a.co.pend.mod m (neo a.co.pend a.co.ok.m1.symm), a.co.wait.mod m (neo a.co.wait a.co.ok.m2.symm), fun w hw => (a.co.sets w hw).mod m (neo (a.co.sets w hw) (a.co.ok.m4 w hw).1), fun x hx => ?_, ?_⟩
    · have := upd_new (k := g.n) (v := ptrV g.pb) (l := c.keptL) (fun p hp e => by
        unfold Ca.keptL at hp
        obtain ⟨x, hx, rfl⟩ := List.mem_map.1 hp
        exact get_none_ hn x hx e)
      rw [this] at hm
      show MapK ik h' c.km ((c.P ++ [g]).map _)
      rw [List.map_append]
      exact hm
    · rcases hP x hx with h1 | rfl
      · exact (m.block _ (hlt x h1).1 (fun e => e.elim (get_ne (a.co.pg x h1) a.co.cells cT_ne.1.symm) (o2 x h1))).trans (a.co.pg x h1)
      · exact hc
    · rcases hP x hx with h1 | rfl
      · refine (a.co.by_ x h1).mod m (fun b hb e => ?_)
        have hb' := hb
        rw [CoAt.blk_ a.co.ok h1] at hb'
        cases hb'
        exact e.elim ((a.co.by_ x h1).ne hb a.co.cells cT_ne.2.1.symm) (o3 x h1)
      · exact hby
    · refine { a.co.ok with few := ?_, len := fun x hx => ?_, num := fun x hx => ?_, pbs := ?_, bbs := ?_, load := hld }
      · show (c.P ++ [g]).length ≤ c.room
        simp; omega
      · rcases hP x hx with h1 | rfl
        · exact a.co.ok.len x h1
        · exact hl
      · rcases hP x hx with h1 | rfl
        · exact a.co.ok.num x h1
        · exact hnum
      · show ((c.P ++ [g]).map Pge.pb).Nodup
        rw [List.map_append, List.nodup_append]
        refine ⟨a.co.ok.pbs, by simp, fun x hx y hy e => ?_⟩
        obtain ⟨z, hz, rfl⟩ := List.mem_map.1 hx
        simp at hy
        have := (hlt z hz).1; omega
      · show ((c.P ++ [g]).map Pge.bb).Nodup
        rw [List.map_append, List.nodup_append]
        refine ⟨a.co.ok.bbs, by simp, fun x hx y hy e => ?_⟩
        obtain ⟨z, hz, rfl⟩ := List.mem_map.1 hx
        simp at hy
        have := (hlt z hz).2; omega
  refine a.core co (m.mono (fun b _ e => e.elim .inl (fun e => .inr (.inl e)))) rfl (fun b hb => ?_) a.bk a.fl
  rcases hb with e | e | e | e | e | ⟨x, hx, e⟩ | ⟨x, hx, e⟩
  · exact .inl (.inl e)
  · exact .inl (.inr (.inl e))
  · exact .inl (.inr (.inr (.inl e)))
  · exact .inl (.inr (.inr (.inr (.inl e))))
  · exact .inl (.inr (.inr (.inr (.inr (.inl e)))))
  · rcases hP x hx with h1 | rfl
    · exact .inl (.inr (.inr (.inr (.inr (.inr (.inl ⟨x, h1, e⟩))))))
    · exact .inr (by omega)
  · rcases hP x hx with h1 | rfl
    · exact .inl (.inr (.inr (.inr (.inr (.inr (.inr ⟨x, h1, e⟩))))))
    · exact .inr (by omega)
end Go.Proofs.YtcbbdnaelimpfaaGreat
set_option linter.unusedSimpArgs false
set_option linter.unusedVariables false
namespace Go.Proofs.YtcbbdnaelimpfaaGreat
open Go.Vc Go.Sort
variable {K : Value → Heap → Prop} {h : Heap}

theorem ps_size {s : St} {p : Ps} {f : Fl} (ps : PsAt s p) (hf : p.f = some f) {x : Fh} (hx : x ∈ s.F) : x.f = f ∧ x.last = f.last ∧ s.get fN = some x := by
  obtain ⟨y, h1, h2, h3, h4⟩ := ps.some_ hf
  rw [h1] at hx
  have : x = y := by simpa using hx
  subst this
  exact ⟨h2, by rw [← h2]; rfl, h4⟩
theorem fErr_ok {s : St} {p : Ps} (ps : PsAt s p) : fErr s fN = if p.f.isSome then 0 else 7 := by
  unfold fErr
  rw [if_pos okN_f]
  cases hf : p.f with
  | none => rw [ps.none_ hf]; rfl
  | some f =>
    obtain ⟨x, -, -, -, hg⟩ := ps.some_ hf
    rw [hg]; rfl
def SzOk (p : Ps) (sz : Int) : Prop := match p.f with | none => sz = 0 | some f => sz = (f.last.length : Nat)
end Go.Proofs.YtcbbdnaelimpfaaGreat
set_option linter.unusedSimpArgs false
set_option linter.unusedVariables false
namespace Go.Proofs.YtcbbdnaelimpfaaGreat
open Go.Vc Go.Sort
variable {K : Value → Heap → Prop} {h : Heap}

theorem uclone_c {v : Value} {n : Nat} {vs : List Value} (hs : Src 1 h v n vs) (hv : ∃ a c, v = .slice a n c) (hone : ∀ u ∈ vs, one u = true) (hn : n ≤ 1000000000000) (H : ∀ v' h', Ext h h' → OwnG bT 1 h' v' vs → (∀ b, blkG v' = some b → h.size ≤ b) → (∀ b, blkV v' = some b → h.size ≤ b) → K v' h') : CallsH Tryz.prog 40 #[v] h K ⟨⟩ := by
  refine n40_calls ?_
  unfold n40
  obtain ⟨a, c, rfl⟩ := hv
  cases a with
  | none =>
    rcases hs with ⟨e, rfl, rfl⟩ | ⟨a, c', e, -⟩ | ⟨l, e, -⟩
    · rw [e]
      simp (disch := omega)
      exact H _ _ (.refl _) .nil (fun b hb => by cases hb) (fun b hb => by cases hb)
    · cases e
    · cases e
  | some a =>
    simp (disch := omega)
    have e0 : Ext h (h.push (.cells #[] bT)) := (by repeat' (first | (with_reducible exact Ext.refl _) | (with_reducible assumption) | (with_reducible refine push_ext ?_) | (with_reducible refine hset_ext ?_ ?_) | (with_reducible refine Ext.trans ?_ (by assumption)) | omega | (simp; done) | (simp; omega) | (refine Ext.size ?_) | (refine Nat.le_succ_of_le (Ext.size ?_))))
    have o0 : OwnG bT 1 (h.push (.cells #[] bT)) (.slice (some ⟨h.size, 0, none⟩) 0 0) [] := .nil
    refine Hp_appendG (e := bT) (s := 1) (by_ := 1) (n := 0) (k := n) (news := vs) (by kernel_rfl) (by kernel_rfl) o0 rfl (by omega) (hs.ext e0) hone (by omega) (by omega) fun v' h' o' m' f' g' => ?_
    refine H v' h' (m'.ext_from e0 (fun b hb e => by cases e)) (by simpa using o') (fun b hb => (f' b hb).elim (fun e => by cases e) (fun e => by simp at e; omega)) (fun b hb => (g' b hb).elim (fun e => by cases e; exact Nat.le_refl _) (fun e => by simp at e; omega))
theorem subS_one {a : Addr} {lo c : Nat} : subS 1 a lo c = sub a lo c := by unfold subS sub; rw [Nat.mul_one]
theorem useE_ok {bits : Nat} {n at_ k : Int} (h : useE bits n at_ k = 0) : 0 ≤ at_ ∧ 0 ≤ k ∧ at_ + k ≤ ((2 ^ bits : Nat) : Int) ∧ askE bits n = 0 := by
  unfold useE at h
  split at h
  · cases h
  · rename_i h1
    split at h
    · cases h
    · rename_i h2
      refine ⟨by omega, by omega, by omega, Classical.not_not.1 h1⟩
theorem useP_bits {rk : Int → Nat} {f : Nat} {n : Int} {pb bb : Nat} {x : Cx} (hf : ∀ n, rk n < f) (hr : Ranks rk x.1) (inv : Inv x.1) : (useP f n pb bb x).1.1.bits = x.1.bits ∧ (useP f n pb bb x).1.1.room = x.1.room ∧ (useP f n pb bb x).1.1.sp = x.1.sp ∧ Ranks rk (useP f n pb bb x).1.1 := by
  obtain ⟨-, h2, h3, h4⟩ := freeP_inv (x := x) hf hr inv
  unfold useP
  cases x.2.f with
  | none => exact ⟨rfl, rfl, rfl, hr⟩
  | some f0 =>
    dsimp only
    cases x.1.get n with
    | some g => exact ⟨rfl, rfl, rfl, fun a b e => hr a b e⟩
    | none =>
      dsimp only
      split
      · exact ⟨h3, h2.room, h2.sp, fun a b e => h4 a b e⟩
      · exact ⟨h3, h2.room, h2.sp, h4⟩
end Go.Proofs.YtcbbdnaelimpfaaGreat
set_option linter.unusedSimpArgs false
set_option linter.unusedVariables false
namespace Go.Proofs.YtcbbdnaelimpfaaGreat
open Go.Vc Go.Sort
variable {K : Value → Heap → Prop} {h : Heap}

def Pge.put (n : Int) (k : Nat) (b : List UInt8) (x : Pge) : Pge := if x.n = n then { x with D := Vc.over x.D k b, d := x.d || decide (0 < b.length) } else x
def Ca.wrote (c : Ca) (n : Int) (k : Nat) (b : List UInt8) : Ca := { c with P := c.P.map (Pge.put n k b) }
def putP (f : Nat) (n : Int) (k : Nat) (b : List UInt8) (pb bb : Nat) (x : Cx) : Cx × Int := if (useP f n pb bb x).2 = 0 then (((useP f n pb bb x).1.1.wrote n k b, (useP f n pb bb x).1.2), 0) else useP f n pb bb x
end Go.Proofs.YtcbbdnaelimpfaaGreat
set_option linter.unusedSimpArgs false
set_option linter.unusedVariables false
namespace Go.Proofs.YtcbbdnaelimpfaaGreat
open Go.Vc Go.Sort
variable {K : Value → Heap → Prop} {h : Heap}

def backC (f : Nat) (n : Int) (x : Cx) : Cx × Int := if askE x.1.bits n = 0 then (match x.1.get n with | none => (x, 7) | some _ => backP f n x) else (x, 2)
theorem ask_two {bits : Nat} {n : Int} (h : askE bits n ≠ 0) : askE bits n = 2 := by
  unfold askE at h ⊢
  split at h
  · rename_i e; rw [if_pos e]
  · exact absurd rfl h
def dropC (n : Int) (c : Ca) : Ca := ({ c.dropP n with W := c.W.filter fun w => !decide (w.n = n) } : Ca).settle
set_option maxHeartbeats 2000000 in
theorem cDrop_c {o : Nat} {c : Ca} {s : St} {n : Int} (a : CAt h o c s)
    (H : ∀ h' c' e, (c', e) = (if askE c.bits n = 0 then (match c.get n with | none => (c, (7 : Int)) | some _ => (dropC n c, 0)) else (c, 2)) → CUpd h h' o c s c' s → K (.int .i64 e) h') : CallsH Tryz.prog 24 #[ptrV o, .int .i64 n] h K ⟨⟩ := by
  refine n24_calls ?_
  unfold n24
  refine ask_c a.co.cells a.co.ok.b1 ?_
  by_cases hask : askE c.bits n = 0
  · rw [if_pos hask] at H
    rw [hask]
    have c4 := ce4 a.co.cells
    have lk : look2 n c.keptL = (c.get n).map fun x => ptrV x.pb := look_kept c.P
    unfold ptrV
    simp (disch := omega) [c4]
    rw [Hp_lookup keptKey (z := .pointer none) (by kernel_rfl) a.co.kept, lk]
    cases hg : c.get n with
    | none =>
      rw [hg] at H
      dsimp only at H
      simp (disch := omega)
      exact H h c 7 rfl (.refl a)
    | some x =>
      rw [hg] at H
      dsimp only at H
      simp (disch := omega) [ptrV, c4]
      refine Hp_delete keptKey a.co.kept fun h1 mp1 m1 => ?_
      have k1 := a.co.dropU mp1 m1
      have d6 := ce6 k1.cells
      simp (disch := omega) [d6]
      refine Hp_delete waitKey k1.wait fun h2 mp2 m2 => ?_
      have hwn : (c.W.map (·.n)).Nodup := by
        have := a.co.wait.nodup
        unfold Ca.waitL at this
        rw [List.map_map] at this
        exact this
      have mp2' : MapK ik h2 c.wm ((c.W.filter fun w => !decide (w.n = n)).map fun w => (w.n, Value.map (some w.b))) := by
        rw [← del_key (k := fun w : Wt => w.n) (v := fun w : Wt => Value.map (some w.b)) c.W hwn]; exact mp2
      have k2 := k1.waitU mp2' m2
      rw [show (.pointer (some ⟨o, 0, none⟩) : Value) = ptrV o from rfl]
      refine settle_c k2 fun h3 k3 m3 => ?_
      refine H h3 (dropC n c) 0 rfl (a.core k3 ?_ rfl (fun b hb => .inl ?_) a.bk a.fl)
      · refine ((m1.mono (fun b _ e => .inr (.inl e))).trans m2 (fun b _ e => .inr (.inr (.inr (.inl e))))).trans m3 (fun b _ e => ?_)
        obtain ⟨w, hw, e⟩ := e
        exact .inr (.inr (.inr (.inr (.inl ⟨w, (List.mem_filter.1 hw).1, e⟩))))
      · rcases hb with e | e | e | e | ⟨w, hw, e⟩ | ⟨x, hx, e⟩ | ⟨x, hx, e⟩
        · exact .inl e
        · exact .inr (.inl e)
        · exact .inr (.inr (.inl e))
        · exact .inr (.inr (.inr (.inl e)))
        · obtain ⟨w0, hw0, rfl⟩ := List.mem_map.1 hw
          exact .inr (.inr (.inr (.inr (.inl ⟨w0, (List.mem_filter.1 hw0).1, e⟩))))
        · exact .inr (.inr (.inr (.inr (.inr (.inl ⟨x, (List.mem_filter.1 hx).1, e⟩)))))
        · exact .inr (.inr (.inr (.inr (.inr (.inr ⟨x, (List.mem_filter.1 hx).1, e⟩)))))
  · rw [if_neg hask] at H
    rw [ask_two hask]
    simp (disch := omega)
    exact H h c 2 rfl (.refl a)
def Ca.nums (c : Ca) : List Int := (c.P.map (·.n)).mergeSort (fun a b => decide (a ≤ b))
theorem nums_perm (c : Ca) : c.nums.Perm (c.P.map (·.n)) := List.mergeSort_perm _ _
theorem nums_sorted (c : Ca) : c.nums.Pairwise (· ≤ ·) := by
  have := List.pairwise_mergeSort (le := fun a b : Int => decide (a ≤ b)) (fun a b c h1 h2 => by simp at *; omega) (fun a b => by simp; omega) (c.P.map (·.n))
  exact this.imp fun h => by simpa using h
def flushC (f : Nat) (x : Cx) : Cx × Int := if (runL (backP f) x.1.nums x).2 = 0 then flushP (runL (backP f) x.1.nums x).1 else runL (backP f) x.1.nums x
theorem ask_zero {bits : Nat} (hb : bits ≤ 16) : askE bits 0 = 0 := by
  obtain ⟨w0, w1⟩ := shrP hb
  unfold askE
  rw [if_neg]
  rintro (h | h)
  · omega
  · have : (1 : Int) ≤ (268435456 : Int) / ((2 ^ bits : Nat) : Int) := Int.le_ediv_of_mul_le (by omega) (by omega)
    omega
end Go.Proofs.YtcbbdnaelimpfaaGreat
set_option linter.unusedSimpArgs false
set_option linter.unusedVariables false
namespace Go.Proofs.YtcbbdnaelimpfaaGreat
open Go.Vc Go.Sort
variable {K : Value → Heap → Prop} {h : Heap}

set_option maxHeartbeats 2000000 in
theorem State_c {o : Nat} {c : Ca} {n : Int} (a : CoAt h o c)
    (H2 : ∀ h', askE c.bits n ≠ 0 → Ext h h' → K (.tuple #[.agg #[.bool false, .bool false, .slice none 0 0], .int .i64 2]) h')
    (H : ∀ h' v, askE c.bits n = 0 → Ext h h' → OwnT i6T 1 h' v ((c.beh n).map ik) → (∀ b, blkV v = some b → h.size ≤ b) → K (.tuple #[.agg #[.bool (c.dirty n), .bool (decide (n ∈ c.pend)), v], .int .i64 0]) h') :
    CallsH Tryz.prog 53 #[ptrV o, .int .i64 n] h K ⟨⟩ := by
  refine n53_calls ?_
  unfold n53
  simp (disch := omega)
  refine (⟨_, rfl⟩ : ∃ g, g = h.push (.cells #[.bool false, .bool false, .slice none 0 0] 121)).elim fun h1 eh1 => ?_
  have e1 : Ext h h1 := by rw [eh1]; exact (by repeat' (first | (with_reducible exact Ext.refl _) | (with_reducible assumption) | (with_reducible refine push_ext ?_) | (with_reducible refine hset_ext ?_ ?_) | (with_reducible refine Ext.trans ?_ (by assumption)) | omega | (simp; done) | (simp; omega) | (refine Ext.size ?_) | (refine Nat.le_succ_of_le (Ext.size ?_))))
  have z1 : h1.size = h.size + 1 := by rw [eh1]; simp
  have q1 : h1[h.size]? = some (.cells #[.bool false, .bool false, .slice none 0 0] 121) := by rw [eh1]; exact get_pushed rfl
  rw [← eh1]
  clear eh1
  have a1 := a.ext e1
  refine ask_c a1.cells a.ok.b1 ?_
  by_cases hask : askE c.bits n = 0
  · rw [hask]
    have c4 := ce4 a1.cells
    have c5 := ce5 a1.cells
    have lk : look2 n c.keptL = (c.get n).map fun x => ptrV x.pb := look_kept c.P
    have lp : (look2 n c.pendL).getD (.bool false) = .bool (decide (n ∈ c.pend)) := look_true c.pend
    unfold ptrV
    have st : ∀ (h2 : Heap) (d : Bool) (v : Value), Ext h1 h2 → (∀ b, blkV v = some b → h.size ≤ b) → OwnT i6T 1 h2 v ((c.beh n).map ik) → d = c.dirty n →
        ∀ h3, h3 = hset (hset (hset h2 ⟨h.size, 0, none⟩ (.bool d)) ⟨h.size, 1, none⟩ (.bool (decide (n ∈ c.pend)))) ⟨h.size, 2, none⟩ v → K (.tuple #[.agg #[.bool d, .bool (decide (n ∈ c.pend)), v], .int .i64 0]) h3 := by
      intro h2 d v e2 fv ov hd h3 eh3
      have m3 : Mod (· = h.size) h2 h3 := by rw [eh3]; exact (by repeat' (first | (with_reducible exact Mod.refl _ _) | (with_reducible assumption) | (with_reducible refine Mod.pushIn ?_) | (with_reducible refine Mod.setIn ?_ ?_) | (with_reducible refine Mod.putIn ?_ ?_) | (with_reducible refine Mod.extIn ?_ (by assumption)) | (exact Or.inr (by first | omega | (simp; done) | (simp; omega))) | (exact Or.inl (by first | (simp; done) | (simp; omega)))))
      have q2 := (e2.block _ (get_some_lt q1)).trans q1
      have := H h3 v hask (m3.ext_from (e1.trans e2) (fun b hb e => by omega)) (ov.mod m3 (fun b hb e => ov.ne hb q2 (by decide) e)) fv
      rw [hd]; exact this
    cases hg : c.get n with
    | none =>
      rw [hg] at lk
      have hd : false = c.dirty n := by unfold Ca.dirty; rw [hg]
      simp (disch := omega) [c4, c5, Hp_lookup keptKey (z := .pointer none) (by kernel_rfl) a1.kept, lk, Hp_lookup setKey (z := .bool false) (by kernel_rfl) a1.pend, lp]
      rw [show (.pointer (some ⟨o, 0, none⟩) : Value) = ptrV o from rfl]
      refine behind_c a1 fun h2 v e2 ov fv => ?_
      have a2 := a1.ext e2
      have d5 := ce5 a2.cells
      have q2 := (e2.block _ (get_some_lt q1)).trans q1
      have k0 := cellOf (i := 0) q2 rfl
      have k1 := cellOf (i := 1) q2 rfl
      have k2 := cellOf (i := 2) q2 rfl
      have kf0 := frzOf (i := 0) q2
      have kf1 := frzOf (i := 1) q2
      have kf2 := frzOf (i := 2) q2
      obtain ⟨va, vn, vc, rfl, -, -, -⟩ := ov.form (by decide)
      simp (disch := omega) [d5, Hp_lookup setKey (z := .bool false) (by kernel_rfl) a2.pend, lp, k0, k1, k2, kf0, kf1, kf2]
      exact st h2 false _ e2 (fun b hb => by have := fv b hb; omega) ov hd _ rfl
    | some x =>
      rw [hg] at lk
      have hd : x.d = c.dirty n := by unfold Ca.dirty; rw [hg]
      have px := a1.pg x (get_mem hg).1
      have p2 := pc2 px
      simp (disch := omega) [c4, c5, Hp_lookup keptKey (z := .pointer none) (by kernel_rfl) a1.kept, lk, Hp_lookup setKey (z := .bool false) (by kernel_rfl) a1.pend, lp, ptrV, p2]
      rw [show (.pointer (some ⟨o, 0, none⟩) : Value) = ptrV o from rfl]
      refine behind_c a1 fun h2 v e2 ov fv => ?_
      have a2 := a1.ext e2
      have d5 := ce5 a2.cells
      have r2 := pc2 (a2.pg x (get_mem hg).1)
      have q2 := (e2.block _ (get_some_lt q1)).trans q1
      have k0 := cellOf (i := 0) q2 rfl
      have k1 := cellOf (i := 1) q2 rfl
      have k2 := cellOf (i := 2) q2 rfl
      have kf0 := frzOf (i := 0) q2
      have kf1 := frzOf (i := 1) q2
      have kf2 := frzOf (i := 2) q2
      obtain ⟨va, vn, vc, rfl, -, -, -⟩ := ov.form (by decide)
      simp (disch := omega) [d5, Hp_lookup setKey (z := .bool false) (by kernel_rfl) a2.pend, lp, k0, k1, k2, kf0, kf1, kf2, r2]
      exact st h2 x.d _ e2 (fun b hb => by have := fv b hb; omega) ov hd _ rfl
  · rw [ask_two hask]
    have k0 := cellOf (i := 0) q1 rfl
    have k1 := cellOf (i := 1) q1 rfl
    have k2 := cellOf (i := 2) q1 rfl
    have kf0 := frzOf (i := 0) q1
    have kf1 := frzOf (i := 1) q1
    have kf2 := frzOf (i := 2) q1
    simp (disch := omega) [k0, k1, k2, kf0, kf1, kf2]
    refine H2 _ hask (Mod.ext_from (S := (· = h.size)) e1 ((by repeat' (first | (with_reducible exact Mod.refl _ _) | (with_reducible assumption) | (with_reducible refine Mod.pushIn ?_) | (with_reducible refine Mod.setIn ?_ ?_) | (with_reducible refine Mod.putIn ?_ ?_) | (with_reducible refine Mod.extIn ?_ (by assumption)) | (exact Or.inr (by first | omega | (simp; done) | (simp; omega))) | (exact Or.inl (by first | (simp; done) | (simp; omega)))))) (fun b hb e => ?_))
    have e' : b = h.size := e
    omega
end Go.Proofs.YtcbbdnaelimpfaaGreat
set_option linter.unusedSimpArgs false
set_option linter.unusedVariables false
namespace Go.Proofs.YtcbbdnaelimpfaaGreat
open Go.Vc Go.Sort
variable {K : Value → Heap → Prop} {h : Heap}

inductive Reach (c : Ca) (t : Int) : Int → Prop
  | one {x : Int} : t ∈ c.beh x → Reach c t x
  | more {x y : Int} : y ∈ c.beh x → Reach c t y → Reach c t x
theorem Reach.iff {c : Ca} {t x : Int} : Reach c t x ↔ ∃ y ∈ c.beh x, y = t ∨ Reach c t y := by
  constructor
  · intro h
    cases h with
    | one h => exact ⟨t, h, .inl rfl⟩
    | more h1 h2 => exact ⟨_, h1, .inr h2⟩
  · rintro ⟨y, h1, rfl | h2⟩
    · exact .one h1
    · exact .more h1 h2
structure Bxs (h : Heap) (o : Nat) (t : Int) (c3 b5 s7 d8 m : Nat) (seen : List Int) : Prop where
  k3 : h[c3]? = some (.cells #[ptrV o] 28)
  k5 : h[b5]? = some (.cells #[ik t] 2)
  k7 : h[s7]? = some (.cells #[.map (some m)] 90)
  k8 : ∃ ty, h[d8]? = some (.cells #[.func (.func 81) #[] #[ptrV c3, ptrV b5, ptrV s7, ptrV d8]] ty)
  sn : MapK ik h m (seen.map fun n => (n, .bool true))
theorem Bxs.ext {h' : Heap} {o c3 b5 s7 d8 m : Nat} {t : Int} {seen : List Int} (a : Bxs h o t c3 b5 s7 d8 m seen) (e : Ext h h') : Bxs h' o t c3 b5 s7 d8 m seen :=
  ⟨(e.block _ (get_some_lt a.k3)).trans a.k3, (e.block _ (get_some_lt a.k5)).trans a.k5, (e.block _ (get_some_lt a.k7)).trans a.k7, (a.k8.elim fun ty h8 => ⟨ty, (e.block _ (get_some_lt h8)).trans h8⟩), a.sn.ext e⟩
theorem Bxs.put {h' : Heap} {o c3 b5 s7 d8 m : Nat} {t : Int} {seen s' : List Int} (a : Bxs h o t c3 b5 s7 d8 m seen) (hm : MapK ik h' m (s'.map fun n => (n, .bool true))) (md : Mod (· = m) h h') : Bxs h' o t c3 b5 s7 d8 m s' :=
  ⟨(md.block _ (get_some_lt a.k3) (neC a.sn a.k3)).trans a.k3, (md.block _ (get_some_lt a.k5) (neC a.sn a.k5)).trans a.k5, (md.block _ (get_some_lt a.k7) (neC a.sn a.k7)).trans a.k7, (a.k8.elim fun ty h8 => ⟨ty, (md.block _ (get_some_lt h8) (neC a.sn h8)).trans h8⟩), hm⟩
set_option maxHeartbeats 4000000 in
theorem down_c {rk : Int → Nat} {o c3 b5 s7 d8 m : Nat} {c : Ca} {t : Int} (hr : Ranks rk c) : ∀ (f : Nat) (n : Int) {K : Value → Heap → Prop} {h : Heap} {seen : List Int}, rk n < f → CoAt h o c → ¬ c.foot o m → Bxs h o t c3 b5 s7 d8 m seen → (∀ x ∈ seen, rk x < rk n → ¬ Reach c t x) →
    (∀ h' (r : Bool) seen', Mod (· = m) h h' → Bxs h' o t c3 b5 s7 d8 m seen' → (r = true ↔ Reach c t n) → (r = false → ∀ x ∈ seen', x ∈ seen ∨ ¬ Reach c t x) → K (.bool r) h') → CallsH Tryz.prog 81 #[ik n, ptrV c3, ptrV b5, ptrV s7, ptrV d8] h K ⟨⟩
  | 0, n, K, h, seen, hf, _, _, _, _, _ => absurd hf (by omega)
  | f + 1, n, K, h, seen, hf, a, hmf, bx, hsn, H => by
    refine n81_calls ?_
    unfold n81
    have k3 := cellOf (i := 0) bx.k3 rfl
    unfold ptrV at k3 ⊢
    simp (disch := omega) [k3]
    rw [show (.pointer (some ⟨o, 0, none⟩) : Value) = ptrV o from rfl]
    refine behind_c a fun h1 v e1 ov fv => ?_
    have hl : ∀ q ∈ c.beh n, rk q < rk n := fun q hq => hr n q (beh_mem.1 hq).1
    have hll : (c.beh n).length < 100000 := by
      have h2 : (c.beh n).length ≤ (c.ws n).length := by rw [(beh_perm c n).length_eq]; exact List.length_filter_le _ _
      have h3 : (c.ws n).length < 100000 := by
        unfold Ca.ws
        cases hw : c.W.find? (fun w => decide (w.n = n)) with
        | none => simp
        | some w => have := a.ok.qfew w (List.mem_of_find?_eq_some hw); dsimp only; omega
      omega
    obtain ⟨va, vn, vc, rfl, hvn, hvc, hva⟩ := ov.form (by decide)
    have hvn' : vn = (c.beh n).length := by simpa using hvn.symm
    subst hvn'
    have hml : m < h.size := bx.sn.lt
    have nf : ∀ b, blkV (.slice va (c.beh n).length vc) = some b → b ≠ m := fun b hb => by have := fv b hb; omega
    simp (disch := omega)
    refine loopX1 (α := Nat × List Int) (fun z => .int .i64 z.1) (fun z g => z.1 ≤ (c.beh n).length ∧ Mod (· = m) h1 g ∧ Bxs g o t c3 b5 s7 d8 m z.2 ∧ (∀ x ∈ z.2, x ∈ seen ∨ ¬ Reach c t x) ∧ (∀ i (hi : i < (c.beh n).length), i < z.1 → (c.beh n)[i] ≠ t ∧ ¬ Reach c t (c.beh n)[i])) (fun z => (c.beh n).length - z.1) (0, seen) rfl ⟨Nat.zero_le _, .refl _ _, bx.ext e1, fun x hx => .inl hx, fun i hi h0 => absurd h0 (by omega)⟩ ?_
    rintro ⟨i, sn⟩ g ⟨hi, mg, bg, hsg, hdone⟩ X hX
    dsimp only at hi mg bg hsg hdone ⊢
    have mh : Mod (· = m) h g := (Mod.of_ext e1).trans mg (fun b _ e => e)
    by_cases hil : i < (c.beh n).length
    · obtain ⟨b, rfl⟩ := hva (by intro e; have := congrArg List.length e; rw [List.length_map] at this; simp only [List.length_nil] at this; omega)
      have og : OwnT i6T 1 g (.slice (some ⟨b, 0, none⟩) (c.beh n).length vc) ((c.beh n).map ik) := ov.mod mg (fun b hb => nf b hb)
      have ce := (og.elt (i := i) (by simpa using hil)).1
      rw [List.getElem_map] at ce
      obtain ⟨q, hq⟩ : ∃ q, q = (c.beh n)[i] := ⟨_, rfl⟩
      have hqm : q ∈ c.beh n := by rw [hq]; exact List.getElem_mem hil
      rw [← hq] at ce
      have g5 := cellOf (i := 0) bg.k5 rfl
      have g7 := cellOf (i := 0) bg.k7 rfl
      have ag : CoAt g o c := a.mod mh (fun b hb e => hmf (by rw [← e]; exact hb))
      have lp : (look2 q (sn.map fun n => (n, Value.bool true))).getD (.bool false) = .bool (decide (q ∈ sn)) := look_true sn
      simp (disch := omega)
      refine JoinN.mk (JoinN.mk ?_)
      by_cases hqt : q = t
      · simp (disch := omega) [ce, g5, hqt]
        refine H g true sn mh bg ⟨fun _ => .one (by rw [← hqt]; exact hqm), fun _ => rfl⟩ (fun e => by cases e)
      · have next : ∀ (g' : Heap) (sn' : List Int), Mod (· = m) h1 g' → Bxs g' o t c3 b5 s7 d8 m sn' → (∀ x ∈ sn', x ∈ seen ∨ ¬ Reach c t x) → ¬ Reach c t q → X (.int .i64 ((i : Int) + 1)) g' := fun g' sn' m' b' hs' hr' =>
          hX (i + 1, sn') _ g' (by simp) ⟨by omega, m', b', hs', fun j hj hji => by
            by_cases e : j = i
            · subst e; rw [← hq]; exact ⟨hqt, hr'⟩
            · exact hdone j hj (by omega)⟩ (by dsimp only; omega)
        simp (disch := omega) [ce, g5, hqt, g7, Hp_lookup setKey (z := .bool false) (by kernel_rfl) bg.sn, lp]
        by_cases hqs : q ∈ sn
        · have hnr : ¬ Reach c t q := (hsg q hqs).elim (fun e => hsn q e (hl q hqm)) id
          simp (disch := omega) [hqs]
          exact next g sn mg bg hsg hnr
        · simp (disch := omega) [hqs, g7]
          refine Hp_mapUpdate setKey bg.sn fun g2 mp2 m2 => ?_
          have mp2' : MapK ik g2 m ((sn ++ [q]).map fun n => (n, Value.bool true)) := by
            have := upd_true (n := q) sn
            rw [if_neg hqs] at this
            rw [← this]; exact mp2
          have b2 := bg.put mp2' m2
          obtain ⟨ty8, hk8⟩ := b2.k8
          have g28 := cellOf (i := 0) hk8 rfl
          unfold ptrV at g28
          have mh2 : Mod (· = m) h g2 := mh.trans m2 (fun b _ e => e)
          have a2 : CoAt g2 o c := a.mod mh2 (fun b hb e => hmf (by rw [← e]; exact hb))
          simp (disch := omega) [g28]
          refine InvokeH_func (by kernel_rfl) ?_
          show CallsH Tryz.prog 81 #[ik q, ptrV c3, ptrV b5, ptrV s7, ptrV d8] g2 _ ⟨⟩
          have hqn := hl q hqm
          refine down_c hr f q (by omega) a2 hmf b2 (fun x hx hxq => ?_) fun g3 r sn' m3 b3 hr3 hs3 => ?_
          · rcases List.mem_append.1 hx with h1 | h1
            · exact (hsg x h1).elim (fun e => hsn x e (by omega)) id
            · have : x = q := by simpa using h1
              subst this; omega
          · have mg3 : Mod (· = m) h1 g3 := (mg.trans m2 (fun b _ e => e)).trans m3 (fun b _ e => e)
            cases r with
            | true =>
              simp (disch := omega)
              exact H g3 true sn' (mh2.trans m3 (fun b _ e => e)) b3 ⟨fun _ => .more hqm (hr3.1 rfl), fun _ => rfl⟩ (fun e => by cases e)
            | false =>
              simp (disch := omega)
              have hnr : ¬ Reach c t q := fun e => by have := hr3.2 e; cases this
              refine next g3 sn' mg3 b3 (fun x hx => ?_) hnr
              rcases hs3 rfl x hx with h1 | h1
              · rcases List.mem_append.1 h1 with h2 | h2
                · exact hsg x h2
                · have : x = q := by simpa using h2
                  subst this; exact .inr hnr
              · exact .inr h1
    · obtain rfl : i = (c.beh n).length := by omega
      simp (disch := omega)
      refine H g false sn mh bg ⟨fun e => (by cases e), fun e => ?_⟩ (fun _ => hsg)
      obtain ⟨y, hy, hyt⟩ := Reach.iff.1 e
      obtain ⟨j, hj, rfl⟩ := List.getElem_of_mem hy
      obtain ⟨d1, d2⟩ := hdone j hj hj
      exact absurd hyt (fun e => e.elim d1 d2)
end Go.Proofs.YtcbbdnaelimpfaaGreat
set_option linter.unusedSimpArgs false
set_option linter.unusedVariables false
namespace Go.Proofs.YtcbbdnaelimpfaaGreat
open Go.Vc Go.Sort
variable {K : Value → Heap → Prop} {h : Heap}

set_option maxHeartbeats 2000000 in
theorem reaches_c {rk : Int → Nat} {o : Nat} {c : Ca} {n t : Int} (hr : Ranks rk c) (a : CoAt h o c) (H : ∀ h' (r : Bool), Ext h h' → (r = true ↔ Reach c t n) → K (.bool r) h') : CallsH Tryz.prog 42 #[ptrV o, .int .i64 n, .int .i64 t] h K ⟨⟩ := by
  refine n42_calls ?_
  unfold n42
  have hol := get_some_lt a.cells
  unfold ptrV
  simp (disch := omega) [Hp_makeMap]
  refine (⟨_, rfl⟩ : ∃ g, g = (Array.push (hset ((((Array.push h (.cells #[.pointer (some ⟨o, 0, none⟩)] 28)).push (.cells #[.int .i64 t] 2)).push (.map #[] 0)).push (.cells #[.map none] 90)) ⟨h.size + 1 + 1 + 1, 0, none⟩ (.map (some (h.size + 1 + 1)))) (.cells #[.nilFunc] 101))).elim fun h6 eh6 => ?_
  have z6 : h6.size = h.size + 5 := by rw [eh6]; simp
  have e6 : Ext h h6 := by rw [eh6]; exact (by repeat' (first | (with_reducible exact Ext.refl _) | (with_reducible assumption) | (with_reducible refine push_ext ?_) | (with_reducible refine hset_ext ?_ ?_) | (with_reducible refine Ext.trans ?_ (by assumption)) | omega | (simp; done) | (simp; omega) | (refine Ext.size ?_) | (refine Nat.le_succ_of_le (Ext.size ?_))))
  have r3 : h6[h.size]? = some (.cells #[ptrV o] 28) := by
    rw [eh6, get_push (by simp <;> omega), get_hset' (by omega), get_push (by simp <;> omega), get_push (by simp <;> omega), get_push (by simp <;> omega), get_pushed rfl]; rfl
  have r5 : h6[h.size + 1]? = some (.cells #[ik t] 2) := by
    rw [eh6, get_push (by simp <;> omega), get_hset' (by omega), get_push (by simp <;> omega), get_push (by simp <;> omega), get_pushed (by simp)]
  have r7 : h6[h.size + 1 + 1 + 1]? = some (.cells #[.map (some (h.size + 1 + 1))] 90) := by
    rw [eh6, get_push (by simp <;> omega)]
    exact obj_set (get_pushed (by simp))
  have r8 : h6[h.size + 1 + 1 + 1 + 1]? = some (.cells #[.nilFunc] 101) := by rw [eh6]; exact get_pushed (by simp)
  have rm : MapK ik h6 (h.size + 1 + 1) (([] : List Int).map fun n => (n, Value.bool true)) := by
    refine ⟨[], 0, ?_, rfl, by simp, by simp, by simp⟩
    rw [eh6, get_push (by simp <;> omega), get_hset' (by omega), get_push (by simp <;> omega), get_pushed (by simp)]
  rw [← eh6]
  clear eh6
  refine (Hp_store (by kernel_rfl) rfl).2 ?_
  have k8 := cellOf (i := 0) r8 rfl
  have f8 := frzOf (i := 0) r8
  simp (disch := omega) [k8, f8]
  refine (⟨_, rfl⟩ : ∃ g, g = hset h6 ⟨h.size + 1 + 1 + 1 + 1, 0, none⟩ (.func (.func 81) #[] #[.pointer (some ⟨h.size, 0, none⟩), .pointer (some ⟨h.size + 1, 0, none⟩), .pointer (some ⟨h.size + 1 + 1 + 1, 0, none⟩), .pointer (some ⟨h.size + 1 + 1 + 1 + 1, 0, none⟩)])).elim fun h7 eh7 => ?_
  have m7 : Mod (· = h.size + 1 + 1 + 1 + 1) h6 h7 := by rw [eh7]; exact Mod.set h6 ⟨h.size + 1 + 1 + 1 + 1, 0, none⟩ _
  have r87 := obj_set (i := 0) (v := .func (.func 81) #[] #[.pointer (some ⟨h.size, 0, none⟩), .pointer (some ⟨h.size + 1, 0, none⟩), .pointer (some ⟨h.size + 1 + 1 + 1, 0, none⟩), .pointer (some ⟨h.size + 1 + 1 + 1 + 1, 0, none⟩)]) r8
  rw [← eh7] at r87 ⊢
  clear eh7
  have bx : Bxs h7 o t h.size (h.size + 1) (h.size + 1 + 1 + 1) (h.size + 1 + 1 + 1 + 1) (h.size + 1 + 1) [] :=
    ⟨(m7.block _ (by omega) (by omega)).trans r3, (m7.block _ (by omega) (by omega)).trans r5, (m7.block _ (by omega) (by omega)).trans r7, ⟨_, r87⟩, rm.mod m7 (by omega)⟩
  have e7 : Ext h h7 := m7.ext_from e6 (fun b hb e => by omega)
  refine InvokeH_func (by kernel_rfl) ?_
  show CallsH Tryz.prog 81 #[ik n, ptrV h.size, ptrV (h.size + 1), ptrV (h.size + 1 + 1 + 1), ptrV (h.size + 1 + 1 + 1 + 1)] h7 _ ⟨⟩
  refine down_c hr (rk n + 1) n (Nat.lt_succ_self _) (a.ext e7) (fun e => by have := a.lt e; omega) bx (fun x hx => by cases hx) fun h8 r sn m8 b8 hr8 _ => ?_
  exact H h8 r (m8.ext_from e7 (fun b hb e => by omega)) hr8
def Lim (k : Nat) (c : Ca) : Prop := c.W.length ≤ k ∧ ∀ w ∈ c.W, w.qs.length ≤ k
theorem CoAt.newW {o : Nat} {c : Ca} {h1 h2 : Heap} {n : Int} {b : Nat} (A : CoAt h o c) (hn : c.W.find? (fun w => decide (w.n = n)) = none) (hb : h.size ≤ b) (e : Ext h h1) (hm0 : MapK ik h1 b ([] : List (Int × Value))) (hm : MapK ik h2 c.wm (upd n (.map (some b)) c.waitL)) (m : Mod (· = c.wm) h1 h2) (hl : c.W.length + 1 < 10000) :
    CoAt h2 o { c with W := c.W ++ [⟨n, [], b⟩] } := by
  have A1 := A.ext e
  obtain ⟨o1, o2, o3⟩ := A1.oM A1.wait
  have hwl := A.wait.lt
  have hlt : ∀ w ∈ c.W, w.b < h.size := fun w hw => (A.sets w hw).lt
  have hP : ∀ x ∈ c.W ++ [(⟨n, [], b⟩ : Wt)], x ∈ c.W ∨ x = ⟨n, [], b⟩ := fun x hx => by
    rcases List.mem_append.1 hx with h1 | h1
    · exact .inl h1
    · exact .inr (by simpa using h1)
  refine ⟨(m.block _ (get_some_lt A1.cells) o1).trans A1.cells, A1.kept.mod m A1.ok.m2, fun x hx => (m.block _ (get_some_lt (A1.pg x hx)) (o2 x hx)).trans (A1.pg x hx), A1.pend.mod m A1.ok.m3, ?_, fun w hw => ?_, fun x hx => (A1.by_ x hx).mod m (fun d hd => by rw [CoAt.blk_ A.ok hx] at hd; cases hd; exact o3 x hx), ?_⟩
  · have := upd_new (k := n) (v := Value.map (some b)) (l := c.waitL) (fun p hp e => by
      unfold Ca.waitL at hp
      obtain ⟨x, hx, rfl⟩ := List.mem_map.1 hp
      have := List.find?_eq_none.1 hn x hx
      have e' : x.n = n := e
      simp [e'] at this)
    rw [this] at hm
    show MapK ik h2 c.wm ((c.W ++ [(⟨n, [], b⟩ : Wt)]).map _)
    rw [List.map_append]
    exact hm
  · rcases hP w hw with h3 | rfl
    · exact (A1.sets w h3).mod m (A1.ok.m4 w h3).2.2
    · exact hm0.mod m (by show ¬ b = c.wm; omega)
  · have hk := A.kept.lt
    have hp := A.pend.lt
    refine { A.ok with wfew := ?_, qfew := fun w hw => ?_, m4 := fun w hw => ?_, m5 := ?_ }
    · show (c.W ++ [_]).length < _
      simp; omega
    · rcases hP w hw with h3 | rfl
      · exact A.ok.qfew w h3
      · exact Nat.zero_lt_of_lt (show 0 < 10000 by decide)
    · rcases hP w hw with h3 | rfl
      · exact A.ok.m4 w h3
      · refine ⟨?_, ?_, ?_⟩ <;> dsimp only <;> omega
    · show ((c.W ++ [(⟨n, [], b⟩ : Wt)]).map Wt.b).Nodup
      rw [List.map_append, List.nodup_append]
      refine ⟨A.ok.m5, by simp, fun x hx y hy e => ?_⟩
      obtain ⟨z, hz, rfl⟩ := List.mem_map.1 hx
      simp at hy
      have := hlt z hz; omega
theorem ws_set {c : Ca} {i : Nat} (hi : i < c.W.length) (hn : (c.W.map (·.n)).Nodup) {qs : List Int} {m : Int} : ({ c with W := c.W.set i { c.W[i] with qs := qs } } : Ca).ws m = if m = c.W[i].n then qs else c.ws m := by
  unfold Ca.ws
  dsimp only
  have key : ∀ (l : List Wt) (i : Nat) (hi : i < l.length), (l.map (·.n)).Nodup → (l.set i { l[i] with qs := qs }).find? (fun w => decide (w.n = m)) = if m = l[i].n then some { l[i] with qs := qs } else l.find? (fun w => decide (w.n = m)) := by
    intro l
    induction l with
    | nil => intro i hi; simp at hi
    | cons x l ih =>
      intro i hi hnd
      simp only [List.map_cons, List.nodup_cons] at hnd
      cases i with
      | zero =>
        simp only [List.set_cons_zero, List.getElem_cons_zero, List.find?_cons]
        by_cases e : m = x.n
        · subst e; simp
        · rw [if_neg e]; simp [Ne.symm e]
      | succ i =>
        simp only [List.set_cons_succ, List.getElem_cons_succ, List.find?_cons]
        have hi' : i < l.length := by simpa using hi
        have := ih i hi' hnd.2
        by_cases e : x.n = m
        · have : ¬ m = (l[i]'hi').n := fun e2 => hnd.1 (by rw [e, e2]; exact List.mem_map_of_mem (List.getElem_mem hi'))
          rw [if_neg this]; simp [e]
        · simp only [e, decide_false]
          exact this
  rw [key c.W i hi hn]
  by_cases e : m = c.W[i].n
  · rw [if_pos e, if_pos e]
  · rw [if_neg e, if_neg e]
theorem ws_new {c : Ca} {n m : Int} {b : Nat} : ({ c with W := c.W ++ [⟨n, [], b⟩] } : Ca).ws m = c.ws m := by
  unfold Ca.ws
  dsimp only
  rw [List.find?_append]
  cases hf : c.W.find? (fun w => decide (w.n = m)) with
  | some w => rfl
  | none =>
    rw [List.find?_cons]
    by_cases e : n = m
    · simp [e]
    · simp [e]
end Go.Proofs.YtcbbdnaelimpfaaGreat
set_option linter.unusedSimpArgs false
set_option linter.unusedVariables false
namespace Go.Proofs.YtcbbdnaelimpfaaGreat
open Go.Vc Go.Sort
variable {K : Value → Heap → Prop} {h : Heap}

structure Waited (c c' : Ca) (n t : Int) (k : Nat) : Prop where
  same : c' = { c with W := c'.W }
  ws : ∀ m q, q ∈ c'.ws m ↔ q ∈ c.ws m ∨ (m = n ∧ q = t)
  lim : Lim (k + 1) c'
theorem waits_nodup {o : Nat} {c : Ca} (A : CoAt h o c) : (c.W.map (·.n)).Nodup := by
  have := A.wait.nodup
  unfold Ca.waitL at this
  rw [List.map_map] at this
  exact this
theorem CoAt.more {o : Nat} {c : Ca} {h' : Heap} {n t : Int} {w : Wt} {k : Nat} (A : CoAt h o c) (hw : c.W.find? (fun w => decide (w.n = n)) = some w) (hm : MapK ik h' w.b (upd t (.bool true) w.L)) (m : Mod (· = w.b) h h') (hk : Lim (k + 1) c) (hk2 : ∀ w ∈ c.W, w.qs.length ≤ k) (hk3 : k + 1 < 10000) :
    ∃ c', CoAt h' o c' ∧ Waited c c' n t k ∧ (∀ b, c'.foot o b → c.foot o b) := by
  have hwm : w ∈ c.W := List.mem_of_find?_eq_some hw
  have hwn : w.n = n := by simpa using List.find?_some hw
  obtain ⟨i, hi, rfl⟩ := List.getElem_of_mem hwm
  have hu : upd t (Value.bool true) (c.W[i]).L = (if t ∈ c.W[i].qs then c.W[i].qs else c.W[i].qs ++ [t]).map fun n => (n, Value.bool true) := upd_true _
  rw [hu] at hm
  have hl : (if t ∈ c.W[i].qs then c.W[i].qs else c.W[i].qs ++ [t]).length ≤ k + 1 := by
    have := hk2 _ hwm
    split
    · omega
    · simp; omega
  have a' := A.setW hi (qs := if t ∈ c.W[i].qs then c.W[i].qs else c.W[i].qs ++ [t]) (by omega) hm m
  have hws : c.ws n = c.W[i].qs := by unfold Ca.ws; rw [hw]
  refine ⟨_, a', ⟨rfl, fun x q => ?_, ?_, fun w hw => ?_⟩, fun b hb => ?_⟩
  · rw [ws_set hi (waits_nodup A), hwn]
    by_cases e : x = n
    · rw [if_pos e, e, hws]
      split
      · rename_i h1
        exact ⟨.inl, fun h => h.elim id (fun ⟨_, h2⟩ => h2 ▸ h1)⟩
      · rw [List.mem_append, List.mem_singleton]
        exact ⟨fun h => h.imp id (fun h => ⟨rfl, h⟩), fun h => h.imp id (fun h => h.2)⟩
    · rw [if_neg e]
      exact ⟨.inl, fun h => h.elim id (fun ⟨h1, _⟩ => absurd h1 e)⟩
  · show (c.W.set _ _).length ≤ k + 1
    rw [List.length_set]; exact hk.1
  · obtain ⟨j, hj, rfl⟩ := List.getElem_of_mem hw
    rw [List.getElem_set]
    split
    · exact hl
    · have hj' : j < c.W.length := by simpa using hj
      have := hk2 c.W[j] (List.getElem_mem hj'); omega
  · rcases hb with e | e | e | e | ⟨w, hw, e⟩ | e | e
    · exact .inl e
    · exact .inr (.inl e)
    · exact .inr (.inr (.inl e))
    · exact .inr (.inr (.inr (.inl e)))
    · obtain ⟨j, hj, rfl⟩ := List.getElem_of_mem hw
      rw [List.getElem_set] at e
      have hj' : j < c.W.length := by simpa using hj
      split at e
      · exact .inr (.inr (.inr (.inr (.inl ⟨c.W[i], hwm, e⟩))))
      · exact .inr (.inr (.inr (.inr (.inl ⟨c.W[j], List.getElem_mem hj', e⟩))))
    · exact .inr (.inr (.inr (.inr (.inr (.inl e)))))
    · exact .inr (.inr (.inr (.inr (.inr (.inr e)))))
set_option maxHeartbeats 4000000 in
theorem cAfter_c {rk : Int → Nat} {o : Nat} {c : Ca} {s : St} {n t : Int} {k : Nat} (hr : Ranks rk c) (a : CAt h o c s) (hk : Lim k c) (hk3 : k + 1 < 10000)
    (H2 : (askE c.bits n ≠ 0 ∨ askE c.bits t ≠ 0) → K (.int .i64 2) h)
    (H240 : ∀ h', askE c.bits n = 0 → askE c.bits t = 0 → (n = t ∨ Reach c n t) → Ext h h' → K (.int .i64 240) h')
    (H0 : ∀ h', askE c.bits n = 0 → askE c.bits t = 0 → ¬ (n = t ∨ Reach c n t) → c.opn t = false → Ext h h' → K (.int .i64 0) h')
    (Hw : ∀ h' c', askE c.bits n = 0 → askE c.bits t = 0 → ¬ (n = t ∨ Reach c n t) → c.opn t = true → CUpd h h' o c s c' s → Waited c c' n t k → K (.int .i64 0) h') :
    CallsH Tryz.prog 14 #[ptrV o, .int .i64 n, .int .i64 t] h K ⟨⟩ := by
  refine n14_calls ?_
  unfold n14
  refine ask_c a.co.cells a.co.ok.b1 ?_
  by_cases hask : askE c.bits n ≠ 0
  · rw [ask_two hask]
    simp (disch := omega)
    exact H2 (.inl hask)
  have hask : askE c.bits n = 0 := Classical.not_not.1 hask
  rw [hask]
  simp (disch := omega)
  refine ask_c a.co.cells a.co.ok.b1 ?_
  by_cases hask2 : askE c.bits t ≠ 0
  · rw [ask_two hask2]
    simp (disch := omega)
    exact H2 (.inr hask2)
  have hask2 : askE c.bits t = 0 := Classical.not_not.1 hask2
  rw [hask2]
  simp (disch := omega)
  refine JoinN.mk (JoinN.mk ?_)
  by_cases hnt : n = t
  · simp (disch := omega) [hnt]
    exact H240 h hask hask2 (.inl hnt) (.refl _)
  simp (disch := omega) [hnt]
  refine reaches_c hr a.co fun h1 r e1 hre => ?_
  cases r with
  | true =>
    simp (disch := omega)
    exact H240 h1 hask hask2 (.inr (hre.1 rfl)) e1
  | false =>
    have hno : ¬ (n = t ∨ Reach c n t) := fun e => e.elim hnt (fun e => by have := hre.2 e; cases this)
    have a1 := a.ext e1
    simp (disch := omega)
    refine open_c a1.co ?_
    cases hop : c.opn t with
    | false =>
      simp (disch := omega)
      exact H0 h1 hask hask2 hno hop e1
    | true =>
      have c6 := ce6 a1.co.cells
      have lk : look2 n c.waitL = (c.W.find? fun w => decide (w.n = n)).map fun w => Value.map (some w.b) := look_wait c.W
      unfold ptrV
      simp (disch := omega) [c6]
      rw [Hp_lookup waitKey (z := .map none) (by kernel_rfl) a1.co.wait, lk]
      cases hw : c.W.find? (fun w => decide (w.n = n)) with
      | some w =>
        rw [hw] at lk
        simp (disch := omega) [c6]
        rw [Hp_lookup waitKey (z := .map none) (by kernel_rfl) a1.co.wait, lk]
        simp (disch := omega)
        have hwm : w ∈ c.W := List.mem_of_find?_eq_some hw
        refine Hp_mapUpdate setKey (a1.co.sets w hwm) fun h2 mp2 m2 => ?_
        obtain ⟨c', k2, wd, hft⟩ := a1.co.more hw mp2 m2 ⟨Nat.le_succ_of_le hk.1, fun w hw => Nat.le_succ_of_le (hk.2 w hw)⟩ hk.2 hk3
        have hs := wd.same
        have hbk : c'.backs = c.backs := by rw [hs]
        have hfl : c'.flushes = c.flushes := by rw [hs]
        have hsp : c'.sp = c.sp := by rw [hs]
        have := a1.core k2 (m2.mono (fun b _ e => .inr (.inr (.inr (.inr (.inl ⟨w, hwm, e⟩)))))) hsp (fun b hb => .inl (hft b hb)) (by rw [hbk]; exact a.bk) (by rw [hfl]; exact a.fl)
        exact Hw h2 c' hask hask2 hno hop (this.from_ e1) wd
      | none =>
        simp (disch := omega) [c6, Hp_makeMap]
        refine (⟨_, rfl⟩ : ∃ g, g = h1.push (.map #[] 0)).elim fun h2 eh2 => ?_
        have e2 : Ext h1 h2 := by rw [eh2]; exact (by repeat' (first | (with_reducible exact Ext.refl _) | (with_reducible assumption) | (with_reducible refine push_ext ?_) | (with_reducible refine hset_ext ?_ ?_) | (with_reducible refine Ext.trans ?_ (by assumption)) | omega | (simp; done) | (simp; omega) | (refine Ext.size ?_) | (refine Nat.le_succ_of_le (Ext.size ?_))))
        have z2 : h2.size = h1.size + 1 := by rw [eh2]; simp
        have mn : MapK ik h2 h1.size ([] : List (Int × Value)) := by rw [eh2]; exact MapK.new rfl
        rw [← eh2]
        clear eh2
        refine Hp_mapUpdate waitKey (a1.co.wait.ext e2) fun h3 mp3 m3 => ?_
        have k3 := a1.co.newW hw (Nat.le_refl _) e2 mn mp3 m3 (by have := hk.1; omega)
        have d6 := ce6 k3.cells
        dsimp only at d6
        have lk3 : look2 n (Ca.waitL { c with W := c.W ++ [⟨n, [], h1.size⟩] }) = some (.map (some h1.size)) := by
          have := look_wait (n := n) (c.W ++ [⟨n, [], h1.size⟩])
          rw [List.find?_append, hw] at this
          refine Eq.trans this ?_
          simp
        simp (disch := omega) [d6]
        rw [Hp_lookup waitKey (z := .map none) (by kernel_rfl) k3.wait, lk3]
        simp (disch := omega)
        have hf3 : (c.W ++ [(⟨n, [], h1.size⟩ : Wt)]).find? (fun w => decide (w.n = n)) = some ⟨n, [], h1.size⟩ := by
          rw [List.find?_append, hw]; simp
        have hmem3 : (⟨n, [], h1.size⟩ : Wt) ∈ c.W ++ [(⟨n, [], h1.size⟩ : Wt)] := by simp
        refine Hp_mapUpdate setKey (k3.sets _ hmem3) fun h4 mp4 m4 => ?_
        obtain ⟨c', k4, wd, hft⟩ := k3.more (w := ⟨n, [], h1.size⟩) hf3 mp4 m4 ⟨by show (c.W ++ [_]).length ≤ k + 1; have := hk.1; simp; omega, fun w hw => by
          rcases List.mem_append.1 hw with h5 | h5
          · exact Nat.le_succ_of_le (hk.2 w h5)
          · have : w = ⟨n, [], h1.size⟩ := by simpa using h5
            rw [this]; exact Nat.zero_le _⟩ (fun w hw => by
          rcases List.mem_append.1 hw with h5 | h5
          · exact hk.2 w h5
          · have : w = ⟨n, [], h1.size⟩ := by simpa using h5
            rw [this]; exact Nat.zero_le _) hk3
        have hs := wd.same
        have hbk : c'.backs = c.backs := by rw [hs]
        have hfl : c'.flushes = c.flushes := by rw [hs]
        have hsp : c'.sp = c.sp := by rw [hs]
        have wd' : Waited c c' n t k := ⟨hs, fun x q => by rw [wd.ws x q, ws_new], wd.lim⟩
        have m14 : Mod (c.foot o) h1 h4 := (((Mod.of_ext e2).trans m3 (fun b _ e => .inr (.inr (.inr (.inl e)))))).trans m4 (fun b hb e => by have e' : b = h1.size := e; omega)
        have hft' : ∀ b, c'.foot o b → c.foot o b ∨ h1.size ≤ b := fun b hb => by
          rcases hft b hb with e | e | e | e | ⟨w, hw, e⟩ | e | e
          · exact .inl (.inl e)
          · exact .inl (.inr (.inl e))
          · exact .inl (.inr (.inr (.inl e)))
          · exact .inl (.inr (.inr (.inr (.inl e))))
          · rcases List.mem_append.1 hw with h5 | h5
            · exact .inl (.inr (.inr (.inr (.inr (.inl ⟨w, h5, e⟩)))))
            · have : w = ⟨n, [], h1.size⟩ := by simpa using h5
              rw [this] at e
              exact .inr (Nat.le_of_eq e.symm)
          · exact .inl (.inr (.inr (.inr (.inr (.inr (.inl e))))))
          · exact .inl (.inr (.inr (.inr (.inr (.inr (.inr e))))))
        have := a1.core k4 m14 hsp hft' (by rw [hbk]; exact a.bk) (by rw [hfl]; exact a.fl)
        exact Hw h4 c' hask hask2 hno hop (this.from_ e1) wd'
end Go.Proofs.YtcbbdnaelimpfaaGreat

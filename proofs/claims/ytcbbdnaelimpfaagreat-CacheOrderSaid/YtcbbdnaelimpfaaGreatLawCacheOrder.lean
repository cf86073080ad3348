/- What is proved: the law palimpsestlaw14.CacheOrder returns true for every input, and its arguments read as they did. No conditions. -/
import Derived.Test.YtcbbdnaelimpfaaGreatRows
import Derived.Test.YtcbbdnaelimpfaaGreatCacD
import Derived.Test.YtcbbdnaelimpfaaGreatCacC
import Derived.Test.YtcbbdnaelimpfaaGreatOpen
import Derived.Test.YtcbbdnaelimpfaaGreatClose
set_option linter.unusedSimpArgs false
set_option linter.unusedVariables false
namespace Go.Proofs.YtcbbdnaelimpfaaGreat
open Go.Vc Go.Sort
variable {K : Value → Heap → Prop} {h : Heap}

section
open Go Go.ChangeShapes Go.WideShapes Go.ChangeAt Go.RowKit Go.Deep
end
structure Oz where
  i : Nat
  c : Ca
  s : St
  p : Ps
  w : Nat → Nat
  l : List Pms
  lv : Value
structure OzI (h0 g : Heap) (o sp wb : Nat) (z : Oz) : Prop where
  S : Ses g o (2 * z.i) z.c z.s z.p
  fr : Fr h0 g o z.c z.s
  sp : z.c.sp = sp
  O : Ord (z.c, z.p) z.w z.l
  lv : OwnG prT 4 g z.lv (z.l.flatMap prV)
  wr : OwnG bT 1 g (.slice (some ⟨wb, 0, none⟩) 8 8) ((wL z.w).map byteV)
  bar : Bar o z.c z.s (fun b => b = wb ∨ blkG z.lv = some b)
  low : h0.size ≤ wb ∧ ∀ b, blkG z.lv = some b → h0.size ≤ b
  wle : ∀ n, z.w n ≤ z.i
  few : z.l.length ≤ z.i
  least : ∀ r ∈ z.l, r.least < 256
theorem blk8 {wb b : Nat} (h : blkG (.slice (some ⟨wb, 0, none⟩) 8 8) = some b) : b = wb := (Option.some.inj h).symm
theorem OzI.lt {h0 g : Heap} {o sp wb : Nat} {z : Oz} (I : OzI h0 g o sp wb z) {b : Nat} (hb : b = wb ∨ blkG z.lv = some b) : b < g.size := hb.elim (fun e => e ▸ I.wr.lt rfl) (fun e => I.lv.lt e)
theorem OzI.ext {h0 g G : Heap} {o sp wb : Nat} {z : Oz} (I : OzI h0 g o sp wb z) (e : Ext g G) : OzI h0 G o sp wb z :=
  ⟨I.S.ext e, I.fr.go e, I.sp, I.O, I.lv.ext e, I.wr.ext e, I.bar, I.low, I.wle, I.few, I.least⟩
theorem OzI.parts {h0 g G : Heap} {o sp wb : Nat} {z : Oz} {c' : Ca} {s' : St} (I : OzI h0 g o sp wb z) (u : CUpd g G o z.c z.s c' s') : Fr h0 G o c' s' ∧ OwnG prT 4 G z.lv (z.l.flatMap prV) ∧ OwnG bT 1 G (.slice (some ⟨wb, 0, none⟩) 8 8) ((wL z.w).map byteV) ∧ Bar o c' s' (fun b => b = wb ∨ blkG z.lv = some b) :=
  ⟨I.fr.upd u, I.lv.mod u.mod (fun b hb hF => I.bar.ft b (.inr hb) hF), I.wr.mod u.mod (fun b hb hF => I.bar.ft b (.inl (blk8 hb)) hF), I.bar.upd u (fun b hb => I.lt hb)⟩
theorem OzI.upd {h0 g G : Heap} {o sp wb j : Nat} {z : Oz} {c' : Ca} {s' : St} {p' : Ps} (I : OzI h0 g o sp wb z) (u : CUpd g G o z.c z.s c' s') (S : Ses G o j c' s' p') (hj : j ≤ 2 * (z.i + 1)) (hsp : c'.sp = z.c.sp) (O : Ord (c', p') z.w z.l) : OzI h0 G o sp wb ⟨z.i + 1, c', s', p', z.w, z.l, z.lv⟩ := by
  obtain ⟨a1, a2, a3, a4⟩ := I.parts u
  exact ⟨S.mono hj, a1, hsp.trans I.sp, O, a2, a3, a4, I.low, fun n => Nat.le_succ_of_le (I.wle n), Nat.le_succ_of_le I.few, I.least⟩
theorem OzI.stay {h0 g : Heap} {o sp wb : Nat} {z : Oz} (I : OzI h0 g o sp wb z) : OzI h0 g o sp wb { z with i := z.i + 1 } :=
  I.upd (.refl I.S.at_) I.S (by omega) rfl I.O
def orderT : Nat := 51
end Go.Proofs.YtcbbdnaelimpfaaGreat
namespace Go.Proofs.YtcbbdnaelimpfaaGreat.cacheOrder
open Go.ChangeShapes Go.WideShapes Go.ChangeAt Go.RowKit Go.Joins Go.Vc

theorem own : ownKnob Tryz.prog.godebug = none := by kernel_rfl
end Go.Proofs.YtcbbdnaelimpfaaGreat.cacheOrder

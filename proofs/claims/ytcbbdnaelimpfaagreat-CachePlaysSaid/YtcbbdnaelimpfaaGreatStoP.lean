/- Store,plainly: pieces over bytes that last; written,flushed,cut,crashed. -/
import Derived.Test.YtcbbdnaelimpfaaGreatVcG
set_option linter.unusedSimpArgs false
set_option linter.unusedVariables false
namespace Go.Vc

structure Pc where
 at_:Nat
 b:List UInt8
structure Fl where
 name:List UInt8
 last:List UInt8
 ps:List Pc
def layP (l:List UInt8) (p:Pc):List UInt8:=over l p.at_ p.b
def layAll (l:List UInt8) (ps:List Pc):List UInt8:=ps.foldl layP l
def Fl.now (f:Fl):List UInt8:=layAll f.last f.ps
structure Pc.ok (p:Pc):Prop where
 pos:0<p.b.length
 one:p.at_%512+p.b.length≤512
def Pc.fit (n:Nat) (p:Pc):Prop:=p.at_+p.b.length≤n
structure Fl.ok (f:Fl):Prop where
 few:f.last.length≤268435456
 pc:∀p∈f.ps,p.ok∧p.fit f.last.length

theorem over_len {l new:List UInt8} {k:Nat} (h:k+new.length≤l.length):(over l k new).length=l.length:=over_length h
theorem layAll_nil (l:List UInt8):layAll l []=l:=rfl
theorem layAll_cons (l:List UInt8) (p:Pc) (ps:List Pc):layAll l (p::ps)=layAll (layP l p) ps:=rfl
theorem layAll_append (l:List UInt8) (ps qs:List Pc):layAll l (ps++qs)=layAll (layAll l ps) qs:=List.foldl_append
theorem layAll_len:∀{ps:List Pc} {l:List UInt8},(∀p∈ps,p.fit l.length)→(layAll l ps).length=l.length
 | [],l,_=>rfl
 | p::ps,l,h=>by
  have hp:p.fit l.length:=h p List.mem_cons_self
  have e:(layP l p).length=l.length:=over_len hp
  rw [layAll_cons,layAll_len (fun q hq=>by rw [e]; exact h q (List.mem_cons_of_mem _ hq)),e]
theorem Fl.ok.now_len {f:Fl} (o:f.ok):f.now.length=f.last.length:=layAll_len fun p hp=>(o.pc p hp).2

theorem layAll_take {l:List UInt8} {ps:List Pc} {i:Nat} (hi:i<ps.length):layAll l (ps.take (i+1))=layP (layAll l (ps.take i)) ps[i]:=by
 rw [List.take_succ_eq_append_getElem hi,layAll_append]; rfl

/-! ### Grown -/
def zeros (n:Nat):List UInt8:=List.replicate n 0
theorem zeros_len (n:Nat):(zeros n).length=n:=List.length_replicate
def growL (l:List UInt8) (n:Nat):List UInt8:=l++zeros (n-l.length)
theorem growL_len (l:List UInt8) (n:Nat):(growL l n).length=max l.length n:=by unfold growL; rw [List.length_append,zeros_len]; omega
theorem growL_same {l:List UInt8} {n:Nat} (h:n≤l.length):growL l n=l:=by unfold growL zeros; rw [Nat.sub_eq_zero_of_le h]; simp
theorem over_append {l z new:List UInt8} {k:Nat} (h:k+new.length≤l.length):over (l++z) k new=over l k new++z:=by
 unfold over
 rw [List.take_append_of_le_length omg,List.drop_append_of_le_length omg]
 simp
theorem layAll_grow {z:List UInt8}:∀{ps:List Pc} {l:List UInt8},(∀p∈ps,p.fit l.length)→layAll (l++z) ps=layAll l ps++z
 | [],l,_=>rfl
 | p::ps,l,h=>by
  have hp:p.fit l.length:=h p List.mem_cons_self
  have e:(layP l p).length=l.length:=over_len hp
  rw [layAll_cons,layAll_cons]
  have:layP (l++z) p=layP l p++z:=over_append hp
  rw [this,layAll_grow (fun q hq=>by rw [e]; exact h q (List.mem_cons_of_mem _ hq))]
def Fl.grow (f:Fl) (n:Nat):Fl:={ f with last:=growL f.last n }
theorem Fl.ok.grow {f:Fl} (o:f.ok) {n:Nat} (hn:n≤268435456):(f.grow n).ok:=by
 refine ⟨?_,fun p hp => ?_⟩
 ·show (growL f.last n).length≤_
  rw [growL_len]; have:=o.few; omega
 ·have h:=o.pc p hp
  refine ⟨h.1,?_⟩
  have:=h.2
  unfold Pc.fit at *
  show _≤(growL f.last n).length
  rw [growL_len]; omega
theorem Fl.ok.now_grow {f:Fl} (o:f.ok) (n:Nat):(f.grow n).now=growL f.now n:=by
 unfold Fl.now Fl.grow growL
 rw [layAll_grow (fun p hp=>(o.pc p hp).2),layAll_len (fun p hp=>(o.pc p hp).2)]

/-! ### Written -/
def Fl.add (f:Fl) (p:Pc):Fl:={ f with last:=growL f.last (p.at_+p.b.length),ps:=f.ps++[p] }
theorem Fl.ok.add {f:Fl} (o:f.ok) {p:Pc} (hp:p.ok) (hn:p.at_+p.b.length≤268435456):(f.add p).ok:=by
 have g:=o.grow hn
 refine ⟨g.few,fun q hq => ?_⟩
 rcases List.mem_append.1 hq with h|h
 ·exact g.pc q h
 ·simp at h; subst h
  refine ⟨hp,?_⟩
  show _≤(growL f.last _).length
  rw [growL_len]; omega
theorem Fl.ok.now_add {f:Fl} (o:f.ok) (p:Pc):(f.add p).now=over (growL f.now (p.at_+p.b.length)) p.at_ p.b:=by
 have:=o.now_grow (p.at_+p.b.length)
 show layAll (growL f.last _) (f.ps++[p])=_
 rw [layAll_append,layAll_cons,layAll_nil]
 unfold Fl.now Fl.grow at this
 dsimp only at this
 rw [this]; rfl
def cutP (k:Nat) (b:List UInt8):List Pc :=
 if _h:b=[] then [] else ⟨k,b.take (512-k%512)⟩::cutP (k+min b.length (512-k%512)) (b.drop (512-k%512))
termination_by b.length
decreasing_by
 have:b.length≠0:=fun e=>_h (List.length_eq_zero_iff.1 e)
 rw [List.length_drop]; omega
theorem cutP_nil (k:Nat):cutP k []=[]:=by rw [cutP]; simp
theorem cutP_cons {k:Nat} {b:List UInt8} (h:b≠[]):cutP k b=⟨k,b.take (min b.length (512-k%512))⟩::cutP (k+min b.length (512-k%512)) (b.drop (min b.length (512-k%512))):=by
 rw [cutP,dif_neg h]
 have e1:b.take (512-k%512)=b.take (min b.length (512-k%512)):=by
  rcases Nat.le_total b.length (512-k%512) with h1|h1
  ·rw [Nat.min_eq_left h1,List.take_of_length_le h1,List.take_length]
  ·rw [Nat.min_eq_right h1]
 have e2:b.drop (512-k%512)=b.drop (min b.length (512-k%512)):=by
  rcases Nat.le_total b.length (512-k%512) with h1|h1
  ·rw [Nat.min_eq_left h1,List.drop_eq_nil_of_le h1,List.drop_length]
  ·rw [Nat.min_eq_right h1]
 rw [e1,e2]
def Fl.writes (f:Fl) (ps:List Pc):Fl:=ps.foldl Fl.add f
theorem cutP_ok:∀(n:Nat) {k:Nat} {b:List UInt8},b.length≤n→∀p∈cutP k b,p.ok∧k≤p.at_∧p.at_+p.b.length≤k+b.length
 | n,k,b,hb,p,hp=>by
  by_cases h:b=[]
  ·rw [h,cutP_nil] at hp; cases hp
  ·rw [cutP_cons h] at hp
   have hl:0<b.length:=List.length_pos_iff.2 h
   rcases List.mem_cons.1 hp with rfl|hp
   ·refine ⟨⟨?_,?_⟩,?_,?_⟩<;>simp only [List.length_take]<;>omega
   ·cases n with
    | zero=>omega
    | succ n =>
     obtain ⟨h1,h2,h3⟩:=cutP_ok n (by rw [List.length_drop]; omega) p hp
     rw [List.length_drop] at h3
     exact ⟨h1,by omega,by omega⟩
theorem Fl.ok.writes:∀{ps:List Pc} {f:Fl},f.ok→(∀p∈ps,p.ok∧p.at_+p.b.length≤268435456)→(f.writes ps).ok
 | [],f,o,_=>o
 | p::ps,f,o,h=>by
  have:=h p List.mem_cons_self
  exact Fl.ok.writes (f:=f.add p) (ps:=ps) (o.add this.1 this.2) fun q hq=>h q (List.mem_cons_of_mem _ hq)
theorem writes_name:∀(ps:List Pc) (f:Fl),(f.writes ps).name=f.name
 | [],_=>rfl
 | p::ps,f=>writes_name ps (f.add p)
theorem writes_ps:∀(ps:List Pc) (f:Fl),(f.writes ps).ps=f.ps++ps
 | [],f=>by simp [Fl.writes]
 | p::ps,f=>by
  show ((f.add p).writes ps).ps=_
  rw [writes_ps ps]; simp [Fl.add]

/-! ### Flushed -/
def Fl.flush (f:Fl) (n:Nat):Fl:={ f with last:=layAll f.last (f.ps.take n),ps:=f.ps.drop n }
theorem Fl.ok.flush {f:Fl} (o:f.ok) (n:Nat):(f.flush n).ok:=by
 have e:(layAll f.last (f.ps.take n)).length=f.last.length:=layAll_len fun p hp=>(o.pc p (List.mem_of_mem_take hp)).2
 refine ⟨?_,fun p hp => ?_⟩
 ·show (layAll _ _).length≤_; rw [e]; exact o.few
 ·show _∧Pc.fit (layAll _ _).length p
  rw [e]; exact o.pc p (List.mem_of_mem_drop hp)
theorem now_flush (f:Fl) (n:Nat):(f.flush n).now=f.now:=by
 unfold Fl.now Fl.flush
 dsimp only
 rw [←layAll_append,List.take_append_drop]

/-! ### Cut -/
def cutPc (n:Nat) (p:Pc):Option Pc:=if p.at_<n then some { p with b:=p.b.take (n-p.at_) } else none
def Fl.size (f:Fl) (n:Nat):Fl:={ f with last:=(growL f.last n).take n,ps:=f.ps.filterMap (cutPc n) }
theorem size_len (f:Fl) (n:Nat):(f.size n).last.length=n:=by
 show ((growL f.last n).take n).length=n
 rw [List.length_take,growL_len]; omega
theorem Fl.ok.size {f:Fl} (o:f.ok) {n:Nat} (hn:n≤268435456):(f.size n).ok:=by
 refine ⟨by rw [size_len]; exact hn,fun p hp => ?_⟩
 rw [size_len]
 obtain ⟨q,hq,he⟩:=List.mem_filterMap.1 hp
 have h:=(o.pc q hq).1
 unfold cutPc at he
 split at he
 ·cases he
  have h1:=h.pos
  have h2:=h.one
  refine ⟨⟨?_,?_⟩,?_⟩
  ·simp only [List.length_take]; omega
  ·simp only [List.length_take]; omega
  ·show _≤_; simp only [List.length_take]; omega
 ·cases he
theorem take_over {l new:List UInt8} {k n:Nat} (h:k+new.length≤l.length):(over l k new).take n=if k<n then over (l.take n) k (new.take (n-k)) else l.take n:=by
 unfold over
 split
 ·rename_i hk
  rw [List.append_assoc,List.take_append,List.take_take,List.take_append,List.take_take]
  simp only [List.length_take]
  rw [Nat.min_eq_left (by omega:k≤l.length),Nat.min_eq_left (by omega:k≤n),Nat.min_eq_right (by omega:k≤n)]
  rw [List.append_assoc]
  congr 2
  rcases Nat.le_total (n-k) new.length with h1|h1
  ·rw [Nat.min_eq_left h1,show n-k-new.length=0 by omega]
   simp
   omega
  ·rw [Nat.min_eq_right h1,List.drop_take]
   congr 1; omega
 ·rename_i hk
  rw [List.append_assoc,List.take_append_of_le_length (by rw [List.length_take]; omega),List.take_take,Nat.min_eq_left omg]
theorem take_layAll {n:Nat}:∀{ps:List Pc} {l:List UInt8},(∀p∈ps,p.fit l.length)→(layAll l ps).take n=layAll (l.take n) (ps.filterMap (cutPc n))
 | [],l,_=>rfl
 | p::ps,l,h=>by
  have hp:p.fit l.length:=h p List.mem_cons_self
  have e:(layP l p).length=l.length:=over_len hp
  rw [layAll_cons,take_layAll (fun q hq=>by rw [e]; exact h q (List.mem_cons_of_mem _ hq))]
  have key:(layP l p).take n=_:=take_over (n:=n) hp
  rw [key,List.filterMap_cons]
  unfold cutPc
  split
  ·rename_i hk
   simp only [hk,if_true]
   rfl
  ·rename_i hk
   simp only [hk,if_false]
theorem Fl.ok.now_size {f:Fl} (o:f.ok) (n:Nat):(f.size n).now=(growL f.now n).take n:=by
 rw [←o.now_grow n]
 unfold Fl.now Fl.grow Fl.size
 dsimp only
 rw [take_layAll]
 intro p hp
 have:=(o.pc p hp).2
 unfold Pc.fit at *
 rw [growL_len]; omega

/-! ### Crashed -/
def picked:List Int→List Pc→List Pc
 | _,[]=>[]
 | [],_::_=>[]
 | k::ks,p::ps=>if k%2=1 then p::picked ks ps else picked ks ps
def Fl.crash (ks:List Int) (f:Fl):Fl:=⟨f.name,layAll f.last (picked ks f.ps),[]⟩
def crashAll:List Int→List Fl→List Fl
 | _,[]=>[]
 | ks,f::fs=>f.crash ks::crashAll (ks.drop f.ps.length) fs
/-! ### A step's fate -/
def fateE:List (Int×Int)→Int
 | []=>0
 | (k,_)::_=>if k=1 then 5 else if k=2 then 6 else 0
def fateK:List (Int×Int)→Int
 | []=>0
 | (_,n)::_=>if 0<n then n else 0
def went (e keep:Int) (ps:List Pc):List Pc:=if e=0 then ps else ps.take keep.toNat
def wentN (e keep:Int) (n:Nat):Nat:=if e=0 then n else min n keep.toNat
theorem went_cons {e k:Int} {p:Pc} {ps:List Pc} (h:e=0∨0<k):went e k (p::ps)=p::went e (k-1) ps:=by
 unfold went
 by_cases he:e=0
 ·rw [if_pos he,if_pos he]
 ·rw [if_neg he,if_neg he]
  have hk:0<k:=h.resolve_left he
  rw [show k.toNat=(k-1).toNat+1 by omega,List.take_succ_cons]
def okName (l:List UInt8):Prop:=1≤l.length∧l.length≤64∧(0:UInt8)∉l
instance (l:List UInt8):Decidable (okName l):=by unfold okName; exact inferInstance
end Go.Vc

/- The document's store: its files; one is found; a step. The document's store: a file is created. The document's store: a file is put back; noughts; pending; flushed. The document's store: flushed. The document's store: bytes written. -/
import Derived.Test.YtcbbdnaelimpfaaGreatVcFull
import Derived.Test.YtcbbdnaelimpfaaGreatStoD
set_option linter.unusedSimpArgs false
set_option linter.unusedVariables false
namespace Go.Proofs.YtcbbdnaelimpfaaGreat
open Go.Vc
variable {K:VP} {h:Heap}

def rsT:Nat:=68
def rfT:Nat:=129
def rpT:Nat:=132
structure Rf where
 f:Fl
 pv:Value
def rfV (x:Rf):List Value:=[str x.f.name,str x.f.last,x.pv]
def rpV (p:Pc):List Value:=[.int .i64 (p.at_:Nat),str p.b]
structure Rs where
 X:List Rf
 steps:Nat
 sv:Value
def Rs.foot (r:Rs) (p b:Nat):Prop:=b=p∨blkG r.sv=some b
structure RsAt (h:Heap) (p:Nat) (r:Rs):Prop where
 cells:h[p]? = some (.cells #[r.sv,.slice none 0 0,.int .i64 r.steps] rsT)
 fs:OwnG rfT 3 h r.sv (r.X.flatMap rfV)
 ps:∀x∈r.X,OwnG rpT 2 h x.pv (x.f.ps.flatMap rpV)
 ok:∀x∈r.X,x.f.ok
 names:∀x∈r.X,okName x.f.name
 few:r.X.length≤256
 stp:r.steps<1000000
 pfew:∀x∈r.X,x.f.ps.length≤r.steps*1000000
 sort:r.X.Pairwise fun x y=>Op.bytesLess x.f.name y.f.name=true
theorem rpV_len (l:List Pc):(l.flatMap rpV).length=l.length*2:=by
 induction l with|nil=>rfl|cons f l ih=>rw [List.flatMap_cons,List.length_append,ih]; simp [rpV]; omega
theorem rpV_get:∀(l:List Pc) (i:Nat) (hi:i<l.length),(l.flatMap rpV)[i*2]? = some (.int .i64 (l[i].at_:Nat))∧(l.flatMap rpV)[i*2+1]? = some (str l[i].b)
 | x::l,0,_=>by simp [rpV]
 | x::l,i+1,hi=>by
  have:=rpV_get l i (by simpa using hi)
  rw [show (i+1)*2=(rpV x).length+i*2 by simp [rpV]; omega,List.flatMap_cons]
  refine ⟨?_,?_⟩
  ·rw [List.getElem?_append_right omg,Nat.add_sub_cancel_left]; exact this.1
  ·rw [List.getElem?_append_right omg,show (rpV x).length+i*2+1-(rpV x).length=i*2+1 by omega]; exact this.2
structure RUpd (h h':Heap) (p:Nat) (r r':Rs):Prop where
 st:RsAt h' p r'
 mod:Mod (r.foot p) h h'
 foot:∀b,r'.foot p b→r.foot p b∨h.size≤b
theorem Named_c {l:List UInt8} (hl:l.length<9223372036854775808) (H:K (.bool (decide (okName l))) h):CallsH Tryz.prog 58 #[str l] h K ⟨⟩:=by
 refine n58_calls ?_
 unfold n58; try delta vF vG vC vD vJ vV vk vt
 by_cases h0:l.length<1
 ·have:¬okName l:=fun e=>by have:=e.1; omega
  simp (disch:=omega)
  simpa [this] using H
 by_cases h1:64<l.length
 ·have:¬okName l:=fun e=>by have:=e.2.1; omega
  simp (disch:=omega)
  simpa [this] using H
 simp (disch:=omega)
 refine loopX1 (α:=Nat) (fun i => .int .i64 i) (fun i g=>g=h∧i≤l.length∧∀j (hj:j<l.length),j<i→l[j]≠0) (fun i=>l.length-i) 0 rfl ⟨rfl,Nat.zero_le _,fun j _ hj=>by omega⟩ ?_
 rintro i g ⟨rfl,hi,hz⟩ X hX
 try dsimp only at hi hX ⊢
 by_cases hil:i<l.length
 ·by_cases hb:l[i].toNat=0
  ·have hb':l[i]=0:=UInt8.toNat_inj.1 hb
   have:¬okName l:=fun e=>e.2.2 (hb'▸List.getElem_mem hil)
   simp (disch:=omega) [hb]
   simpa [this] using H
  ·simp (disch:=omega) [hb]
   refine hX (i+1) _ _ sM ⟨rfl,hil,fun j hj hji => ?_⟩ omg
   by_cases hji':j=i
   ·subst hji'; exact fun e=>hb (by rw [e]; rfl)
   ·exact hz j hj omg
 ·have:okName l:=⟨by omega,by omega,fun e=>by
   obtain ⟨j,hj,e⟩:=List.mem_iff_getElem.1 e
   exact hz j hj omg e⟩
  simp (disch:=omega)
  simpa [this] using H
end Go.Proofs.YtcbbdnaelimpfaaGreat
set_option linter.unusedSimpArgs false
set_option linter.unusedVariables false
namespace Go.Proofs.YtcbbdnaelimpfaaGreat
open Go.Vc
variable {K:VP} {h:Heap}

theorem rpV_one (l:List Pc):∀u∈l.flatMap rpV,one u=true:=by
 intro u hu
 obtain ⟨x,hx,hu⟩:=List.mem_flatMap.1 hu
 simp [rpV] at hu
 rcases hu with rfl|rfl<;>rfl
end Go.Proofs.YtcbbdnaelimpfaaGreat
set_option linter.unusedSimpArgs false
set_option linter.unusedVariables false
namespace Go.Proofs.YtcbbdnaelimpfaaGreat
open Go.Vc
variable {K:VP} {h:Heap}

theorem noughts_c {n:Int} (h0 : -9223372036854775808≤n) (h1:n<1000000000) (H:∀h',Ext h h'→K (str (zeros n.toNat)) h'):CallsH Tryz.prog 57 #[.int .i64 n] h K ⟨⟩:=by
 refine n57_calls ?_
 unfold n57; try delta vF vG vC vD vJ vV vk vt
 simp (disch:=omega)
 obtain ⟨k,hk⟩:∃k:Nat,(if 0<n then n else 0).toNat=k∧n.toNat=k:=⟨n.toNat,by split<;>omega,rfl⟩
 rw [hk.1]
 rw [hk.2] at H
 have e0:Ext h (h.push (.cells (Array.replicate k (.int .u8 0)) bT)):=extS
 have hB:Bytes (h.push (.cells (Array.replicate k (.int .u8 0)) bT)) (.slice (some ⟨h.size,0,none⟩) k k) (zeros k):=by
  have hO:=OwnS_new (h:=h) (vs:=(zeros k).map byteV) (e:=bT) (s:=1) (n:=k) (b:=h.size) rfl (by simp [zeros])
  have he:((zeros k).map byteV).toArray=Array.replicate k (.int .u8 0):=by
   unfold zeros
   rw [List.map_replicate,List.toArray_replicate]; rfl
  rw [he] at hO
  exact hO.bytes
 refine (Hp_bytesStr (e:=bT) kR kR kR hB).2 ?_
 exact H _ e0
def Rs.pend (r:Rs):Nat:=(r.X.map fun x=>x.f.ps.length).sum
end Go.Proofs.YtcbbdnaelimpfaaGreat
set_option linter.unusedSimpArgs false
set_option linter.unusedVariables false
namespace Go.Proofs.YtcbbdnaelimpfaaGreat
open Go.Vc
variable {K:VP} {h:Heap}

theorem over_c {b x:List UInt8} {k:Nat} (hk:k+x.length≤b.length) (hb:b.length<4611686018427387904) (H:K (str (over b k x)) h):CallsH Tryz.prog 107 #[str b,.int .i64 k,str x] h K ⟨⟩:=by
 refine n107_calls ?_
 unfold n107; try delta vF vG vC vD vJ vV vk vt
 rw [Hp_slcStrH kR omg omg]
 simp (disch:=omega)
 rw [Hp_addStr (by rw [List.length_take]; omega)]
 simp (disch:=omega)
 rw [Hp_addStr (by rw [List.length_append,List.length_take,List.length_drop]; omega)]
 exact H
theorem rp_cell {ps:List Pc} {n c:Nat} {a:Option Addr} (o:OwnG rpT 2 h (.slice a n c) (ps.flatMap rpV)) {i:Nat} (hi:i<ps.length) :
 ∃ad,a=some ad∧n=ps.length∧n≤c∧hcell h (elt ad (i*2))=some (.int .i64 (ps[i].at_:Nat))∧hcell h (elt ad (i*2+1))=some (str ps[i].b):=by
 obtain ⟨fa,fn,fc,hfv,hfl,hfc,hne⟩:=o.form
 cases hfv
 have hl:=rpV_len ps
 obtain ⟨b,o',rfl⟩:=hne (fun e=>by rw [e] at hl; simp at hl; omega)
 have g:=rpV_get ps i hi
 have c0:=o.cell (i:=i*2) omg
 have c1:=o.cell (i:=i*2+1) omg
 refine ⟨_,rfl,by omega,hfc,c0.1.trans ?_,c1.1.trans ?_⟩
 ·rw [←g.1,List.getElem?_eq_getElem]
 ·rw [←g.2,List.getElem?_eq_getElem]
theorem rpV_drop:∀(l:List Pc) (i:Nat),(l.flatMap rpV).drop (i*2)=(l.drop i).flatMap rpV
 | [],i=>by simp
 | x::l,0=>by simp
 | x::l,i+1=>by
  rw [show (i+1)*2=(rpV x).length+i*2 by simp [rpV]; omega,List.flatMap_cons,List.drop_length_add_append,rpV_drop l i,List.drop_succ_cons]
end Go.Proofs.YtcbbdnaelimpfaaGreat
set_option linter.unusedSimpArgs false
set_option linter.unusedVariables false
namespace Go.Proofs.YtcbbdnaelimpfaaGreat
open Go.Vc
variable {K:VP} {h:Heap}

theorem growL_twice {l:List UInt8} {n m:Nat} (hn:n≤m):growL (growL l n) m=growL l m:=by
 unfold growL zeros
 rw [List.append_assoc,List.length_append,List.length_replicate,List.replicate_append_replicate]
 congr 2; omega
end Go.Proofs.YtcbbdnaelimpfaaGreat

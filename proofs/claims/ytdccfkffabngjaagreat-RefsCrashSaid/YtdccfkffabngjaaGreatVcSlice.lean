/- Rules for slices,arrays and strings: index,slicing,append,make,copy; how facts on memory last. -/
import Derived.Test.YtdccfkffabngjaaGreatVcOps
namespace Go.Vc
open Go
set_option linter.unusedSimpArgs false
set_option linter.unusedVariables false

/-! ### How facts last -/

theorem Seg.ext{h h':Heap}{a:Addr}{vs:List Value}(s:Seg h a vs)(e:Ext h h'):Seg h' a vs:=fun i hi=>hcell_ext e (s i hi)
theorem At.ext{h h':Heap}{a:Addr}{l:List UInt8}(s:At h a l)(e:Ext h h'):At h' a l:=fun i hi=>hcell_ext e (s i hi)
theorem Bytes.ext{h h':Heap}{v:Value}{l:List UInt8}(s:Bytes h v l)(e:Ext h h'):Bytes h' v l:=by
 rcases s with s|⟨a,c,h1,h2,h3⟩
 ·exact .inl s
 ·exact .inr ⟨a,c,h1,h2,h3.ext e⟩

structure Mod (S:Nat->Prop) (h h':Heap):Prop where
 size:h.size<=h'.size
 block:∀b,b<h.size->¬S b->h'[b]? = h[b]?

theorem Mod.refl(S:Nat->Prop)(h:Heap):Mod S h h:=⟨Nat.le_refl _,fun _ _ _=>rfl⟩
theorem Mod.trans{S T:Nat->Prop}{a b c:Heap}(h:Mod S a b)(k:Mod T b c)(hST:∀x,x<a.size->T x->S x):Mod S a c :=
 ⟨Nat.le_trans h.size k.size,fun i hi hn=>(k.block i (Nat.lt_of_lt_of_le hi h.size) (fun ht=>hn (hST i hi ht))).trans (h.block i hi hn)⟩
theorem Mod.of_ext{S:Nat->Prop}{h h':Heap}(e:Ext h h'):Mod S h h':=⟨e.size,fun b hb _=>e.block b hb⟩
theorem Mod.ext{h h':Heap}{S:Nat->Prop}(m:Mod S h h')(hS:∀b,b<h.size->¬S b):Ext h h':=⟨m.size,fun b hb=>m.block b hb (hS b hb)⟩
theorem Mod.mono{S T:Nat->Prop}{h h':Heap}(m:Mod S h h')(hST:∀b,b<h.size->S b->T b):Mod T h h':=⟨m.size,fun b hb hn=>m.block b hb (fun hs=>hn (hST b hb hs))⟩
theorem Mod.ext_from{S:Nat->Prop}{h₀ h h':Heap}(e:Ext h₀ h)(m:Mod S h h')(hS:∀b,b<h₀.size->¬S b):Ext h₀ h' :=
 ⟨Nat.le_trans e.size m.size,fun b hb=>(m.block b (Nat.lt_of_lt_of_le hb e.size) (hS b hb)).trans (e.block b hb)⟩
theorem Mod.set(h:Heap)(a:Addr)(v:Value):Mod (· = a.block) h (hset h a v) :=
 ⟨by simp,fun b hb hn=>by unfold hset;rw[Array.getElem?_modify,if_neg (fun e=>hn e.symm)]⟩
theorem Mod.push(S:Nat->Prop)(h:Heap)(o:Obj):Mod S h (h.push o):=Mod.of_ext (push_ext (.refl h))
theorem Mod.put(h:Heap)(b:Nat)(o:Obj):Mod (· = b) h (h.setIfInBounds b o) :=
 ⟨by simp,fun x hx hn=>by rw[Array.getElem?_setIfInBounds_ne (fun e=>hn e.symm)]⟩
theorem Mod.cell{S:Nat->Prop}{h h':Heap}(m:Mod S h h'){a:Addr}(hb:a.block<h.size)(hS:¬S a.block):hcell h' a=hcell h a:=by
 unfold hcell;rw[m.block _ hb hS]
theorem At.mod{S:Nat->Prop}{h h':Heap}{a:Addr}{l:List UInt8}(s:At h a l)(m:Mod S h h')(hS:¬S a.block):At h' a l:=fun i hi=>by
 have:=hcell_lt (s i hi)
 rw[m.cell this (by simpa using hS)];exact s i hi

def blkV:Value->Option Nat
 | .slice (some a) _ _=>some a.block
 | .pointer (some a)=>some a.block
 | .map (some r)=>some r
 | _=>none

theorem Bytes.mod{S:Nat->Prop}{h h':Heap}{v:Value}{l:List UInt8}(s:Bytes h v l)(m:Mod S h h')(hS:∀b,blkV v=some b->¬S b):Bytes h' v l:=by
 rcases s with s|⟨a,c,h1,h2,h3⟩
 ·exact .inl s
 ·exact .inr ⟨a,c,h1,h2,h3.mod m (hS _ (by rw[h1];rfl))⟩

/-! ### Parts of a slice -/

def sub(a:Addr)(lo c:Nat):Addr:=if c=lo then a else elt a lo
@[simp] theorem sub_blk(a:Addr)(lo c:Nat):(sub a lo c).block=a.block:=by unfold sub;split<;>simp
@[simp] theorem sub_zero(a:Addr)(c:Nat):sub a 0 c=a:=by unfold sub;split<;>simp
theorem elt_sub{a:Addr}{lo c i:Nat}(h:lo<c):elt (sub a lo c) i=elt a (lo+i):=by
 unfold sub;rw[if_neg omg,elt_elt]

theorem Seg.part{h:Heap}{a:Addr}{vs:List Value}(s:Seg h a vs)(lo hi c:Nat)(h0:lo<=hi)(h1:hi<=vs.length)(h2:vs.length<=c):Seg h (sub a lo c) ((vs.take hi).drop lo):=by
 intro i hi'
 simp only[List.length_drop,List.length_take]at hi'
 rw[elt_sub omg,s (lo+i) omg]
 simp
theorem At.part{h:Heap}{a:Addr}{l:List UInt8}(s:At h a l)(lo hi c:Nat)(h0:lo<=hi)(h1:hi<=l.length)(h2:l.length<=c):At h (sub a lo c) ((l.take hi).drop lo):=by
 rw[At_seg]at *
 have:=s.part lo hi c h0 (by simpa using h1) (by simpa using h2)
 rwa[List.map_drop,List.map_take]

/-! ### Cells written one behind the other -/

def hwrite(h:Heap)(a:Addr):Nat->List Value->Heap
 | _,[]=>h
 | k,v::vs=>hwrite (hset h (elt a k) v) a (k+1) vs

@[simp] theorem hwrite_size(a:Addr):∀(vs:List Value) (h:Heap) (k:Nat),(hwrite h a k vs).size=h.size
 | [],h,k=>rfl
 | v::vs,h,k=>by rw[hwrite,hwrite_size a vs];simp
theorem hwrite_snoc(a:Addr)(v:Value):∀(vs:List Value) (h:Heap) (k:Nat),hwrite h a k (vs++[v])=hset (hwrite h a k vs) (elt a (k+vs.length)) v
 | [],h,k=>rfl
 | u::vs,h,k=>by
  rw[List.cons_append,hwrite,hwrite_snoc a v vs,hwrite,List.length_cons,show k+1+vs.length=k+(vs.length+1) by omega]
theorem hcell_set_elt{h:Heap}{a:Addr}{i j:Nat}{v:Value}:hcell (hset h (elt a i) v) (elt a j)=if i=j then (hcell h (elt a j)).map (fun _=>v) else hcell h (elt a j):=by
 rw[hcell_set_if]
 by_cases e:i=j
 ·rw[if_pos e,if_pos (by rw[e])]
 ·rw[if_neg e,if_neg (fun x=>e (elt_inj.1 x))]
theorem Mod.write(a:Addr):∀(vs:List Value) (h:Heap) (k:Nat),Mod (· = a.block) h (hwrite h a k vs)
 | [],h,k=>.refl _ _
 | v::vs,h,k=>(Mod.set h (elt a k) v).mono (fun b _ e=>by simpa using e) |>.trans (Mod.write a vs _ _) (fun _ _ e=>e)
theorem hfrozen_write(a b:Addr):∀(vs:List Value) (h:Heap) (k:Nat),hfrozen (hwrite h a k vs) b=hfrozen h b
 | [],h,k=>rfl
 | v::vs,h,k=>by rw[hwrite,hfrozen_write a b vs,hfrozen_set]
theorem hcell_write_out{a:Addr}{j:Nat}:∀(vs:List Value) (h:Heap) (k:Nat),j<k\/k+vs.length<=j->hcell (hwrite h a k vs) (elt a j)=hcell h (elt a j)
 | [],h,k,_=>rfl
 | v::vs,h,k,hj=>by
  simp only[List.length_cons]at hj
  rw[hwrite,hcell_write_out vs _ _ omg,hcell_set_elt,if_neg omg]
theorem hset_same(h:Heap)(a:Addr)(u v:Value):hset (hset h a u) a v=hset h a v:=by
 unfold hset
 apply Array.ext_getElem?
 intro j
 rw[Array.getElem?_modify,Array.getElem?_modify,Array.getElem?_modify]
 by_cases e:a.block=j
 ·rw[if_pos e,if_pos e,if_pos e]
  cases h[j]? with
  | none=>rfl
  | some o =>
   cases o<;>first|rfl|(
    simp only[Option.map_some]
    by_cases hs:a.spot.isSome=true
    ·simp[hs]
    ·simp[hs])
 ·rw[if_neg e,if_neg e,if_neg e]
theorem hset_comm(h:Heap)(a b:Addr)(u v:Value)(hne:a.block≠b.block\/a.off≠b.off):hset (hset h a u) b v=hset (hset h b v) a u:=by
 unfold hset
 apply Array.ext_getElem?
 intro j
 rw[Array.getElem?_modify,Array.getElem?_modify,Array.getElem?_modify,Array.getElem?_modify]
 by_cases e:a.block=j
 ·by_cases e':b.block=j
  ·rw[if_pos e,if_pos e',if_pos e,if_pos e']
   have ho:a.off≠b.off:=hne.resolve_left (fun x=>x (e.trans e'.symm))
   cases h[j]? with
   | none=>rfl
   | some o =>
    cases o<;>first|rfl|(
     simp only[Option.map_some]
     by_cases hs:a.spot.isSome=true
     ·simp[hs]
     ·by_cases hs':b.spot.isSome=true
      ·simp[hs,hs']
      ·simp[hs,hs']
       exact Array.setIfInBounds_comm _ _ ho)
  ·simp only[if_pos e,if_neg e']
 ·by_cases e':b.block=j
  ·simp only[if_neg e,if_pos e']
  ·simp only[if_neg e,if_neg e']
theorem hwrite_set_comm(a:Addr)(v:Value):∀(vs:List Value) (h:Heap) (j k:Nat),j<k->hset (hwrite h a k vs) (elt a j) v=hwrite (hset h (elt a j) v) a k vs
 | [],h,j,k,_=>rfl
 | u::vs,h,j,k,hjk=>by
  rw[hwrite,hwrite,hwrite_set_comm a v vs _ j (k+1) omg,hset_comm _ _ _ _ _ (.inr (by rw[elt_off,elt_off];omega))]
theorem hwrite_over(a:Addr):∀(ys xs:List Value) (h:Heap) (k:Nat),ys.length<=xs.length->hwrite (hwrite h a k xs) a k ys=hwrite h a k (ys++xs.drop ys.length)
 | [],xs,h,k,_=>by simp[hwrite]
 | y::ys,[],h,k,hl=>by simp at hl
 | y::ys,x::xs,h,k,hl=>by
  rw[hwrite,hwrite,hwrite_set_comm a y xs _ k (k+1) omg,hset_same,hwrite_over a ys xs _ _ (by simpa using hl)]
  simp[hwrite]
theorem hwrite_append(a:Addr):∀(xs ys:List Value) (h:Heap) (k:Nat),hwrite (hwrite h a k xs) a (k+xs.length) ys=hwrite h a k (xs++ys)
 | [],ys,h,k=>rfl
 | x::xs,ys,h,k=>by
  rw[hwrite,List.cons_append,hwrite,List.length_cons,show k+(xs.length+1)=k+1+xs.length by omega,hwrite_append a xs ys]
theorem hwrite_elt(a:Addr)(lo:Nat):∀(vs:List Value) (h:Heap) (k:Nat),hwrite h (elt a lo) k vs=hwrite h a (lo+k) vs
 | [],h,k=>rfl
 | v::vs,h,k=>by rw[hwrite,hwrite,elt_elt,hwrite_elt a lo vs,Nat.add_assoc]
theorem hwrite_sub{a:Addr}{lo c:Nat}(hlo:lo<c)(vs:List Value)(h:Heap)(k:Nat):hwrite h (sub a lo c) k vs=hwrite h a (lo+k) vs:=by
 unfold sub;rw[if_neg omg,hwrite_elt]
theorem hcell_write_some{a:Addr}{j:Nat}:∀(vs:List Value) (h:Heap) (k:Nat),(hcell h (elt a j)).isSome=true->(hcell (hwrite h a k vs) (elt a j)).isSome=true
 | [],h,k,hs=>hs
 | v::vs,h,k,hs=>by
  rw[hwrite]
  refine hcell_write_some vs _ _ ?_
  rw[hcell_set_elt]
  split
  ·cases hx:hcell h (elt a j) with
   | none=>rw[hx]at hs;cases hs
   | some x=>rfl
  ·exact hs

def over{α:Type}(l:List α)(k:Nat)(new:List α):List α:=l.take k++new++l.drop (k+new.length)
theorem over_length{α:Type}{l new:List α}{k:Nat}(h:k+new.length<=l.length):(over l k new).length=l.length:=by
 unfold over;simp;omega
theorem over_get?{α:Type}{l new:List α}{k:Nat}(h:k+new.length<=l.length)(i:Nat) :
 (over l k new)[i]? = if i<k then l[i]? else if i<k+new.length then new[i-k]? else l[i]? := by
 have h1:(List.take k l).length=k:=by simp;omega
 have h2:(List.take k l++new).length=k+new.length:=by simp;omega
 unfold over
 by_cases hi:i<k
 ·rw[if_pos hi,List.getElem?_append_left omg,List.getElem?_append_left omg,List.getElem?_take_of_lt hi]
 ·rw[if_neg hi]
  by_cases hj:i<k+new.length
  ·rw[if_pos hj,List.getElem?_append_left omg,List.getElem?_append_right omg,h1]
  ·rw[if_neg hj,List.getElem?_append_right omg,h2,List.getElem?_drop]
   congr 1;omega
theorem over_get{α:Type}{l new:List α}{k i:Nat}(h:k+new.length<=l.length)(hi:i<(over l k new).length) :
 (over l k new)[i]=if hk:k<=i/\i<k+new.length then new[i-k] else l[i]'(by rw[over_length h]at hi;exact hi):=by
 have hi':i<l.length:=by rw[over_length h]at hi;exact hi
 apply Option.some.inj
 rw[<-List.getElem?_eq_getElem hi,over_get? h]
 by_cases h1:i<k
 ·rw[if_pos h1,dif_neg omg,List.getElem?_eq_getElem hi']
 ·rw[if_neg h1]
  by_cases h2:i<k+new.length
  ·rw[if_pos h2,dif_pos ⟨by omega,h2⟩,List.getElem?_eq_getElem omg]
  ·rw[if_neg h2,dif_neg omg,List.getElem?_eq_getElem hi']
theorem over_map{α β:Type}(f:α->β)(l new:List α)(k:Nat):(over l k new).map f=over (l.map f) k (new.map f):=by
 unfold over;simp
@[simp] theorem over_nil{α:Type}(l:List α)(k:Nat):over l k []=l:=by unfold over;simp

section
variable {P:Program}{q:Bool}{K:VP}{h:Heap}

theorem storesP_write{a:Addr}:∀(vs:List Value) (k:Nat) (h:Heap) (X:Heap->Prop),(∀i,i<vs.length->(hcell h (elt a (k+i))).isSome=true)->(∀i,i<vs.length->hfrozen h (elt a (k+i))=false)->X (hwrite h a k vs)->storesP a k vs X h
 | [],k,h,X,_,_,hx=>hx
 | v::vs,k,h,X,hc,hf,hx=>by
  refine⟨hc 0 sM,hf 0 sM,?_⟩
  refine storesP_write vs (k+1) _ X (fun i hi=>?_) (fun i hi=>?_) hx
  ·have:=hc (i+1) (by simpa using hi)
   rw[show k+(i+1)=k+1+i by omega]at this
   show (hcell (hset h (elt a k) v) _).isSome=true
   rw[hcell_set_elt,if_neg omg];exact this
  ·have:=hf (i+1) (by simpa using hi)
   rw[show k+(i+1)=k+1+i by omega]at this
   show hfrozen (hset h (elt a k) v) _=false
   rw[hfrozen_set];exact this

theorem hp_asIntOf{k:IntKind}{i:Int}{K:IntKind×Int->Heap->Prop}:hp P q (asIntOf (.int k i)) K h↔K (k,i) h:=Iff.rfl
theorem hp_asInt{k:IntKind}{i:Int}{K:Int->Heap->Prop}:hp P q (asInt (.int k i)) K h↔K i h:=Iff.rfl

def sl1(P:Program)(t:TypeId):Bool:=match P.underlying t with
 | some (.slice e)=>match P.info? e with
  | some i=>Nat.beq i.size 1
  | none=>false
 | _=>false
theorem sl1_spec{t:TypeId}(ht:sl1 P t=true):∃e i,P.underlying t=some (.slice e)/\P.info? e=some i/\i.size=1:=by
 unfold sl1 at ht
 split at ht
 ·rename_i e he
  cases hi:P.info? e with
  | none=>rw[hi]at ht;cases ht
  | some i=>rw[hi]at ht;exact⟨e,i,he,hi,Nat.eq_of_beq_eq_true ht⟩
 ·cases ht

theorem Hp_indexAt1{t:TypeId}{a:Addr}{len cap:Nat}{k:IntKind}{n:Int}(ht:sl1 P t=true)(n0:0<=n)(n1:n<len) :
 Hp P q (Instr.indexAt t (.slice (some a) len cap) (.int k n)) K h ⟨⟩↔ValT n.toNat (fun j=>K (.pointer (some (elt a j))) h) ⟨⟩:=by
 obtain⟨e,i,ht,hi,hs⟩:=sl1_spec ht
 rw[ValT_iff,Hp_iff]
 unfold Instr.indexAt
 rw[hp_bind',hp_asIntOf]
 simp only
 rw[hp_bind',hp_underlying ht]
 simp only
 rw[hp_bind',hp_pure,hp_bind',hp_underlying ht]
 simp only
 rw[if_pos ⟨n0,n1⟩,hp_bind',hp_sizeOf hi,hs,Nat.mul_one]
 exact Iff.rfl

theorem Hp_indexStr{t:TypeId}{l:List UInt8}{b:UInt8}{k:IntKind}{n:Int}(ht:P.underlying t=some .string)(n0:0<=n)(hb:l[n.toNat]? = some b) :
 Hp P q (Instr.index t (str l) (.int k n)) K h ⟨⟩↔K (byteV b) h:=by
 rw[Hp_iff]
 unfold Instr.index str
 rw[hp_bind',hp_asIntOf]
 simp only
 rw[hp_bind',hp_underlying ht]
 simp only
 rw[if_pos n0]
 have:(ByteArray.mk ⟨l⟩)[n.toNat]? = some b:=by
  have hl:n.toNat<l.length:=by
   rcases Nat.lt_or_ge n.toNat l.length with h|h
   ·exact h
   ·rw[List.getElem?_eq_none h]at hb;cases hb
  rw[List.getElem?_eq_getElem hl]at hb
  rw[getElem?_pos (ByteArray.mk ⟨l⟩) n.toNat (by simpa using hl)]
  simpa[ByteArray.getElem_eq_getElem_data]using hb
 rw[this]
 exact Iff.rfl
theorem sliceBound_eq{k:IntKind}{i:Int}{y:Nat}{c:BoundsCode}(i0:0<=i)(i1:i<=y):Instr.sliceBound (.int k i) y c=pure i.toNat:=by
 unfold Instr.sliceBound
 show (if 0<=i/\i<=y then pure i.toNat else _)=_
 rw[if_pos ⟨i0,i1⟩]

def lowOf:Option Value->Int
 | some (.int _ i)=>i
 | _=>0
def highOf(len:Nat):Option Value->Int
 | some (.int _ i)=>i
 | _=>len
def isNum:Option Value->Bool
 | none=>true
 | some (.int _ _)=>true
 | _=>false

theorem sliceBounds_eq{b:Bool}{len cap:Nat}{lo hi:Option Value}(nl:isNum lo=true)(nh:isNum hi=true)
 (l0:0<=lowOf lo) (l1:lowOf lo<=highOf len hi) (l2:highOf len hi<=cap) :
 Instr.sliceBounds b len cap lo hi none=pure ((lowOf lo).toNat,(highOf len hi).toNat,cap):=by
 have hh:0<=highOf len hi:=by omega
 have lowP:∀(y:Nat) (c:BoundsCode),lowOf lo<=y->(match lo with|some v=>Instr.sliceBound v y c|none=>pure 0)=pure (lowOf lo).toNat:=by
  intro y c hy
  cases lo with
  | none=>rfl
  | some v=>cases v<;>first|(cases nl;done)|exact sliceBound_eq l0 hy
 have highP:∀(c:BoundsCode),(match hi with|some v=>Instr.sliceBound v cap c|none=>pure len)=pure (highOf len hi).toNat:=by
  intro c
  cases hi with
  | none=>rfl
  | some v=>cases v<;>first|(cases nh;done)|exact sliceBound_eq hh l2
 have h1:=highP (if b then .sliceAcap else .sliceAlen)
 have h2:=lowP (highOf len hi).toNat .sliceB omg
 unfold Instr.sliceBounds
 cases lo with
 | none =>
  cases hi with
  | none=>rfl
  | some v =>
   simp only at h1
   simp only[Option.isSome_none,Bool.false_eq_true,if_false,h1,pure_bind];rfl
 | some u =>
  simp only at h2
  cases hi with
  | none =>
   simp only[highOf,Int.toNat_natCast]at h2
   simp only[Option.isSome_none,Bool.false_eq_true,if_false,pure_bind,h2,highOf,Int.toNat_natCast]
  | some v =>
   simp only at h1
   simp only[Option.isSome_none,Bool.false_eq_true,if_false,h1,h2,pure_bind]

def slS(P:Program)(t:TypeId)(s:Nat):Bool:=match P.underlying t with
 | some (.slice e)=>match P.info? e with
  | some i=>Nat.beq i.size s
  | none=>false
 | _=>false
theorem slS_spec{t:TypeId}{s:Nat}(ht:slS P t s=true):∃e i,P.underlying t=some (.slice e)/\P.info? e=some i/\i.size=s:=by
 unfold slS at ht
 split at ht
 ·rename_i e he
  cases hi:P.info? e with
  | none=>rw[hi]at ht;cases ht
  | some i=>rw[hi]at ht;exact⟨e,i,he,hi,Nat.eq_of_beq_eq_true ht⟩
 ·cases ht

theorem Hp_slice1{t:TypeId}{a:Addr}{len cap:Nat}{lo hi:Option Value}(ht:slS P t 1=true)(nl:isNum lo=true)(nh:isNum hi=true)
 (l0:0<=lowOf lo) (l1:lowOf lo<=highOf len hi) (l2:highOf len hi<=cap) :
 Hp P q (Instr.sliceAt t (.slice (some a) len cap) lo hi none) K h ⟨⟩ ↔
  ValT (lowOf lo).toNat (fun l=>ValT (highOf len hi).toNat (fun r=>K (.slice (some (sub a l cap)) (r-l) (cap-l)) h) ⟨⟩) ⟨⟩:=by
 obtain⟨e,i,ht,he,hs⟩:=slS_spec ht
 rw[Hp_iff,ValT_iff,ValT_iff]
 unfold Instr.sliceAt
 rw[hp_bind',hp_underlying ht]
 simp only
 unfold Instr.slice
 rw[hp_bind',hp_underlying ht]
 simp only
 rw[sliceBounds_eq nl nh l0 l1 l2,hp_bind',hp_pure,hp_bind',hp_sizeOf he,hs,Nat.mul_one]
 unfold sub
 split<;>exact Iff.rfl
theorem Hp_sliceNil{t:TypeId}{s:Nat}{lo hi:Option Value}(ht:slS P t s=true)(nl:isNum lo=true)(nh:isNum hi=true)
 (l0:lowOf lo=0) (l1:highOf 0 hi=0) :
 Hp P q (Instr.sliceAt t (.slice none 0 0) lo hi none) K h ⟨⟩↔K (.slice none 0 0) h:=by
 obtain⟨e,i,ht,he,hs⟩:=slS_spec ht
 rw[Hp_iff]
 unfold Instr.sliceAt
 rw[hp_bind',hp_underlying ht]
 simp only
 unfold Instr.slice
 rw[hp_bind',hp_underlying ht]
 simp only
 rw[sliceBounds_eq nl nh omg omg omg,hp_bind',hp_pure,hp_bind',hp_sizeOf he,l0,l1]
 exact Iff.rfl

/-! ### Slices that are one's own: from the start of a block on -/

def OwnS(s:Nat)(h:Heap)(v:Value)(vs:List Value):Prop :=
 (v = .slice none 0 0/\vs=[])\/∃b n c rest e fz,v = .slice (some ⟨b,0,none⟩) n c/\vs.length=n*s/\n<=c/\h[b]? = some (.cells (vs++rest).toArray e fz)/\(vs++rest).length=c*s /\
  ∀i,i<c*s->¬(fz.1<=i/\i<fz.2)

theorem OwnS.nil{s:Nat}{h:Heap}:OwnS s h (.slice none 0 0) []:=.inl ⟨rfl,rfl⟩
theorem OwnS.mod{s:Nat}{S:Nat->Prop}{h h':Heap}{v:Value}{vs:List Value}(o:OwnS s h v vs)(m:Mod S h h')(hS:∀b,blkV v=some b->¬S b):OwnS s h' v vs:=by
 rcases o with o|⟨b,n,c,rest,e,fz,rfl,h1,h2,h3,h4,h5⟩
 ·exact .inl o
 ·exact .inr ⟨b,n,c,rest,e,fz,rfl,h1,h2,by rw[m.block b (Array.getElem?_eq_some_iff.1 h3).1 (hS b rfl)];exact h3,h4,h5⟩
theorem OwnS.ext{s:Nat}{h h':Heap}{v:Value}{vs:List Value}(o:OwnS s h v vs)(e:Ext h h'):OwnS s h' v vs:=o.mod (S:=fun _=>False) (.of_ext e) (fun _ _ x=>x)
theorem OwnS.lt{s:Nat}{h:Heap}{v:Value}{vs:List Value}{b:Nat}(o:OwnS s h v vs)(hb:blkV v=some b):b<h.size:=by
 rcases o with ⟨rfl,_⟩|⟨b',n,c,rest,e,fz,rfl,h1,h2,h3,h4,h5⟩
 ·cases hb
 ·cases hb;exact (Array.getElem?_eq_some_iff.1 h3).1
theorem hcell_of_block{h:Heap}{b i:Nat}{c:Array Value}{e:TypeId}{fz:Nat×Nat}(hb:h[b]? = some (.cells c e fz)):hcell h ⟨b,i,none⟩=c[i]? := by
 unfold hcell;simp only[hb];rfl
theorem hfrozen_of_block{h:Heap}{b i:Nat}{c:Array Value}{e:TypeId}{fz:Nat×Nat}(hb:h[b]? = some (.cells c e fz)):hfrozen h ⟨b,i,none⟩=(fz.1<=i&&i<fz.2):=by
 unfold hfrozen;simp only[hb]
theorem hset_of_block{h:Heap}{b i:Nat}{c:Array Value}{e:TypeId}{fz:Nat×Nat}{v:Value}(hb:h[b]? = some (.cells c e fz)):hset h ⟨b,i,none⟩ v=h.setIfInBounds b (.cells (c.setIfInBounds i v) e fz):=by
 unfold hset
 apply Array.ext_getElem?
 intro j
 rw[Array.getElem?_modify,Array.getElem?_setIfInBounds]
 have hlt:=(Array.getElem?_eq_some_iff.1 hb).1
 by_cases e:b=j
 ·subst e
  rw[if_pos rfl,hb,if_pos rfl,if_pos hlt];rfl
 ·rw[if_neg e,if_neg e]
theorem over_cons{α:Type}{c vs:List α}{v:α}{k:Nat}(hk:k+(vs.length+1)<=c.length):over (c.set k v) (k+1) vs=over c k (v::vs):=by
 apply List.ext_getElem?
 intro i
 rw[over_get? (by simp;omega),over_get? (by simpa using hk)]
 simp only[List.length_cons]
 by_cases h1:i<k
 ·rw[if_pos omg,if_pos h1,List.getElem?_set_ne omg]
 ·by_cases h2:i=k
  ·subst h2
   rw[if_pos omg,if_neg omg,if_pos omg,List.getElem?_set_self omg]
   simp
  ·by_cases h3:i<k+1+vs.length
   ·rw[if_neg omg,if_pos h3,if_neg h1,if_pos omg,show i-k=(i-(k+1))+1 by omega,List.getElem?_cons_succ]
   ·rw[if_neg omg,if_neg h3,if_neg h1,if_neg omg,List.getElem?_set_ne omg]
theorem hwrite_of_block{b:Nat}{e:TypeId}{fz:Nat×Nat}:∀(vs:List Value) (h:Heap) (k:Nat) (c:List Value),h[b]? = some (.cells c.toArray e fz)->k+vs.length<=c.length->(hwrite h ⟨b,0,none⟩ k vs)[b]? = some (.cells (over c k vs).toArray e fz)
 | [],h,k,c,hb,_=>by rw[over_nil];exact hb
 | v::vs,h,k,c,hb,hk=>by
  simp only[List.length_cons]at hk
  rw[hwrite,elt_mk,Nat.zero_add,hset_of_block hb]
  have hlt:=(Array.getElem?_eq_some_iff.1 hb).1
  rw[<-over_cons hk]
  exact hwrite_of_block vs _ (k+1) (c.set k v) (by simp[hlt]) (by simp;omega)
end
end Go.Vc

/- More rules: conversions,bytes and strings,equality of structs,indexes. -/
import Derived.Test.YtdccfkffabngjaaGreatVcLib
import Derived.Laws.StructEq
namespace Go.Vc
open Go
section
variable {P:Program}{q:Bool}{K:VP}{h:Heap}

attribute [simp] Hp_box Value.cells List.getElem?_cons_zero Addr.add hcell_push_if hcell_set_if hfrozen_push_if hfrozen_set objCell objFrozen one

@[simp] theorem get_1{α:Type}{x0 x1:α}{l:List α}:(x0::x1::l)[1]? = some x1:=rfl
@[simp] theorem get_2{α:Type}{x0 x1 x2:α}{l:List α}:(x0::x1::x2::l)[2]? = some x2:=rfl
@[simp] theorem get_3{α:Type}{x0 x1 x2 x3:α}{l:List α}:(x0::x1::x2::x3::l)[3]? = some x3:=rfl
@[simp] theorem get_4{α:Type}{x0 x1 x2 x3 x4:α}{l:List α}:(x0::x1::x2::x3::x4::l)[4]? = some x4:=rfl
@[simp] theorem get_5{α:Type}{x0 x1 x2 x3 x4 x5:α}{l:List α}:(x0::x1::x2::x3::x4::x5::l)[5]? = some x5:=rfl
@[simp] theorem get_6{α:Type}{x0 x1 x2 x3 x4 x5 x6:α}{l:List α}:(x0::x1::x2::x3::x4::x5::x6::l)[6]? = some x6:=rfl
@[simp] theorem get_7{α:Type}{x0 x1 x2 x3 x4 x5 x6 x7:α}{l:List α}:(x0::x1::x2::x3::x4::x5::x6::x7::l)[7]? = some x7:=rfl
@[simp] theorem get_8{α:Type}{x0 x1 x2 x3 x4 x5 x6 x7 x8:α}{l:List α}:(x0::x1::x2::x3::x4::x5::x6::x7::x8::l)[8]? = some x8:=rfl
@[simp] theorem get_9{α:Type}{x0 x1 x2 x3 x4 x5 x6 x7 x8 x9:α}{l:List α}:(x0::x1::x2::x3::x4::x5::x6::x7::x8::x9::l)[9]? = some x9:=rfl
@[simp] theorem get_10{α:Type}{x0 x1 x2 x3 x4 x5 x6 x7 x8 x9 x10:α}{l:List α}:(x0::x1::x2::x3::x4::x5::x6::x7::x8::x9::x10::l)[10]? = some x10:=rfl
@[simp] theorem get_11{α:Type}{x0 x1 x2 x3 x4 x5 x6 x7 x8 x9 x10 x11:α}{l:List α}:(x0::x1::x2::x3::x4::x5::x6::x7::x8::x9::x10::x11::l)[11]? = some x11:=rfl
@[simp] theorem get_12{α:Type}{x0 x1 x2 x3 x4 x5 x6 x7 x8 x9 x10 x11 x12:α}{l:List α}:(x0::x1::x2::x3::x4::x5::x6::x7::x8::x9::x10::x11::x12::l)[12]? = some x12:=rfl
@[simp] theorem get_13{α:Type}{x0 x1 x2 x3 x4 x5 x6 x7 x8 x9 x10 x11 x12 x13:α}{l:List α}:(x0::x1::x2::x3::x4::x5::x6::x7::x8::x9::x10::x11::x12::x13::l)[13]? = some x13:=rfl
@[simp] theorem get_14{α:Type}{x0 x1 x2 x3 x4 x5 x6 x7 x8 x9 x10 x11 x12 x13 x14:α}{l:List α}:(x0::x1::x2::x3::x4::x5::x6::x7::x8::x9::x10::x11::x12::x13::x14::l)[14]? = some x14:=rfl
@[simp] theorem get_15{α:Type}{x0 x1 x2 x3 x4 x5 x6 x7 x8 x9 x10 x11 x12 x13 x14 x15:α}{l:List α}:(x0::x1::x2::x3::x4::x5::x6::x7::x8::x9::x10::x11::x12::x13::x14::x15::l)[15]? = some x15:=rfl
@[simp] theorem get_16{α:Type}{x0 x1 x2 x3 x4 x5 x6 x7 x8 x9 x10 x11 x12 x13 x14 x15 x16:α}{l:List α}:(x0::x1::x2::x3::x4::x5::x6::x7::x8::x9::x10::x11::x12::x13::x14::x15::x16::l)[16]? = some x16:=rfl
@[simp] theorem get_17{α:Type}{x0 x1 x2 x3 x4 x5 x6 x7 x8 x9 x10 x11 x12 x13 x14 x15 x16 x17:α}{l:List α}:(x0::x1::x2::x3::x4::x5::x6::x7::x8::x9::x10::x11::x12::x13::x14::x15::x16::x17::l)[17]? = some x17:=rfl
@[simp] theorem get_18{α:Type}{x0 x1 x2 x3 x4 x5 x6 x7 x8 x9 x10 x11 x12 x13 x14 x15 x16 x17 x18:α}{l:List α}:(x0::x1::x2::x3::x4::x5::x6::x7::x8::x9::x10::x11::x12::x13::x14::x15::x16::x17::x18::l)[18]? = some x18:=rfl
@[simp] theorem get_19{α:Type}{x0 x1 x2 x3 x4 x5 x6 x7 x8 x9 x10 x11 x12 x13 x14 x15 x16 x17 x18 x19:α}{l:List α}:(x0::x1::x2::x3::x4::x5::x6::x7::x8::x9::x10::x11::x12::x13::x14::x15::x16::x17::x18::x19::l)[19]? = some x19:=rfl
@[simp] theorem get_20{α:Type}{x0 x1 x2 x3 x4 x5 x6 x7 x8 x9 x10 x11 x12 x13 x14 x15 x16 x17 x18 x19 x20:α}{l:List α}:(x0::x1::x2::x3::x4::x5::x6::x7::x8::x9::x10::x11::x12::x13::x14::x15::x16::x17::x18::x19::x20::l)[20]? = some x20:=rfl
@[simp] theorem get_21{α:Type}{x0 x1 x2 x3 x4 x5 x6 x7 x8 x9 x10 x11 x12 x13 x14 x15 x16 x17 x18 x19 x20 x21:α}{l:List α}:(x0::x1::x2::x3::x4::x5::x6::x7::x8::x9::x10::x11::x12::x13::x14::x15::x16::x17::x18::x19::x20::x21::l)[21]? = some x21:=rfl
@[simp] theorem get_22{α:Type}{x0 x1 x2 x3 x4 x5 x6 x7 x8 x9 x10 x11 x12 x13 x14 x15 x16 x17 x18 x19 x20 x21 x22:α}{l:List α}:(x0::x1::x2::x3::x4::x5::x6::x7::x8::x9::x10::x11::x12::x13::x14::x15::x16::x17::x18::x19::x20::x21::x22::l)[22]? = some x22:=rfl
@[simp] theorem get_23{α:Type}{x0 x1 x2 x3 x4 x5 x6 x7 x8 x9 x10 x11 x12 x13 x14 x15 x16 x17 x18 x19 x20 x21 x22 x23:α}{l:List α}:(x0::x1::x2::x3::x4::x5::x6::x7::x8::x9::x10::x11::x12::x13::x14::x15::x16::x17::x18::x19::x20::x21::x22::x23::l)[23]? = some x23:=rfl

theorem Hp_convInt{s t:TypeId}{k k':IntKind}{n:Int}{d:TypeDesc}(ht:P.underlying t=some (.int k'))(hs:P.underlying s=some d):Hp P q (convert s t (.int k n)) K h ⟨⟩↔ValI (k'.wrap n) (fun n=>K (.int k' n) h) ⟨⟩:=by
 rw[ValI_iff,Hp_iff]
 unfold convert
 rw[hp_bind',hp_underlying hs,hp_bind',hp_underlying ht]
 cases d<;>exact Iff.rfl

/-! ### Bytes -/
@[simp] theorem size_str(l:List UInt8):(ByteArray.mk ⟨l⟩).size=l.length:=rfl
theorem str_of(s:ByteArray):Value.string s=str s.data.toList:=rfl

def elt(a:Addr)(j:Nat):Addr:=a.add j
@[simp] theorem elt_blk(a:Addr)(j:Nat):(elt a j).block=a.block:=by
 unfold elt Addr.add;split<;>rfl
theorem elt_off(a:Addr)(j:Nat):(elt a j).off=a.off+j:=by
 unfold elt Addr.add;split<;>simp[*]
theorem elt_inj{a:Addr}{i j:Nat}:elt a i=elt a j↔i=j :=
 ⟨fun e=>by have:=congrArg Addr.off e;rw[elt_off,elt_off]at this;omega,fun e=>by rw[e]⟩
theorem elt_elt(a:Addr)(i j:Nat):elt (elt a i) j=elt a (i+j):=by
 obtain⟨b,o,s⟩:=a
 by_cases hi:i=0
 ·subst hi;simp[elt,Addr.add]
 ·by_cases hj:j=0
  ·subst hj;simp[elt,Addr.add,hi]
  ·simp[elt,Addr.add,hi,hj,Nat.add_assoc]
@[simp] theorem elt_zero(a:Addr):elt a 0=a:=rfl
theorem elt_mk(b o j:Nat):elt ⟨b,o,none⟩ j=⟨b,o+j,none⟩:=by
 by_cases hj:j=0
 ·subst hj;rfl
 ·simp[elt,Addr.add,hj]

@[simp ↓ high] theorem hcell_set_off{h:Heap}{b b' i j:Nat}{v:Value}(hij:i≠j):hcell (hset h ⟨b,i,none⟩ v) ⟨b',j,none⟩=hcell h ⟨b',j,none⟩:=by
 rw[hcell_set_if,if_neg (by intro e;cases e;exact hij rfl)]
@[simp ↓ high] theorem hcell_set_blk{h:Heap}{b b' i j:Nat}{v:Value}(hb:b≠b'):hcell (hset h ⟨b,i,none⟩ v) ⟨b',j,none⟩=hcell h ⟨b',j,none⟩:=by
 rw[hcell_set_if,if_neg (by intro e;cases e;exact hb rfl)]
@[simp ↓ high] theorem add_elt(a:Addr)(i j:Nat):(elt a i).add j=elt a (i+j):=elt_elt a i j
def byteV(b:UInt8):Value:=.int .u8 (b.toNat:Nat)

def Seg(h:Heap)(a:Addr)(vs:List Value):Prop:=∀(i:Nat) (hi:i<vs.length),hcell h (elt a i)=some vs[i]

def At(h:Heap)(a:Addr)(l:List UInt8):Prop:=∀(i:Nat) (hi:i<l.length),hcell h (elt a i)=some (byteV l[i])

theorem At_seg{a:Addr}{l:List UInt8}:At h a l↔Seg h a (l.map byteV):=by
 unfold At Seg
 simp only[List.length_map,List.getElem_map]

def Bytes(h:Heap)(v:Value)(l:List UInt8):Prop :=
 (v = .slice none 0 0/\l=[])\/∃a c,v = .slice (some a) l.length c/\l.length<=c/\At h a l

theorem toNat_lt(b:UInt8):b.toNat<256:=b.toNat_lt

theorem loadsP_of{a:Addr}:∀(vs:List Value) (i:Nat) (k:List Value->Prop),(∀(j:Nat) (hj:j<vs.length),hcell h (a.add (i+j))=some vs[j])->(loadsP h a i vs.length k↔k vs)
 | [],i,k,_=>Iff.rfl
 | v::vs,i,k,hc=>by
  rw[List.length_cons,loadsP_succ]
  have h0:=hc 0 sM
  simp only[Nat.add_zero,List.getElem_cons_zero]at h0
  rw[h0,LoadP_some]
  exact loadsP_of vs (i+1) _ fun j hj=>by
   have:=hc (j+1) (by simpa using hj)
   rw[show i+1+j=i+(j+1) by omega]
   simpa using this

theorem hp_loadCells_at{a:Addr}{l:List UInt8}{K:Array Value->Heap->Prop}(hc:At h a l):hp P q (loadCells a l.length) K h↔K (l.map byteV).toArray h:=by
 unfold loadCells
 rw[hp_loadCells]
 have e:l.length=(l.map byteV).length:=by simp
 rw[e,loadsP_of (l.map byteV) 0 _ (fun j hj=>by
  have:=hc j (by simpa using hj)
  rw[Nat.zero_add,List.getElem_map];exact this)]
 simp

theorem hp_forBytes{K:ByteArray->Heap->Prop}(e:Sem (ForInStep ByteArray)):∀(l:List UInt8) (s:ByteArray),
 hp P q (forIn (l.map byteV) s fun c r=>(match c with | .int .u8 n=>pure (ForInStep.yield (r.push (UInt8.ofNat n.toNat)))|_=>e:Sem (ForInStep ByteArray))) K h↔K (l.foldl (fun r b=>r.push b) s) h
 | [],s=>by simp[hp_pure]
 | b::l,s=>by
  rw[List.map_cons,List.forIn_cons]
  simp only[byteV]
  rw[hp_bind']
  simp only[hp_pure]
  have:UInt8.ofNat ((b.toNat:Nat):Int).toNat=b:=by simp
  rw[this]
  exact hp_forBytes e l (s.push b)

theorem foldl_push(l:List UInt8):∀(s:ByteArray),l.foldl (fun r b=>r.push b) s=⟨s.data++⟨l⟩⟩:=by
 induction l with
 | nil=>intro s;cases s;simp
 | cons b l ih =>
  intro s
  rw[List.foldl_cons,ih]
  cases s with
  | mk d=>congr 1;simp[ByteArray.push]

theorem hp_bytesToString{v:Value}{l:List UInt8}(hb:Bytes h v l):hp P q (Conv.bytesToString v) K h↔K (str l) h:=by
 rcases hb with ⟨rfl,rfl⟩|⟨a,c,rfl,hle,hc⟩
 ·exact Iff.rfl
 ·unfold Conv.bytesToString
  simp only
  rw[hp_bind',hp_loadCells_at hc]
  rw[<-Array.forIn_toList,hp_bind']
  refine (Iff.trans (iff_of_eq (congrArg (fun f=>hp P q (forIn (l.map byteV) ByteArray.empty f) _ h) (funext fun c=>funext fun r=>rfl))) (hp_forBytes (P:=P) (q:=q) (h:=h) _ (K:=fun s h'=>hp P q (pure (.string s)) K h') l ByteArray.empty)).trans ?_
  ·rw[foldl_push]
   have e:(⟨(#[]:Array UInt8)++(⟨l⟩:Array UInt8)⟩:ByteArray)=⟨⟨l⟩⟩:=congrArg ByteArray.mk sM
   exact iff_of_eq (congrArg (fun b=>K (.string b) h) e)

theorem Hp_bytesStr{s t e:TypeId}{v:Value}{l:List UInt8}(hs:P.underlying s=some (.slice e))(ht:P.underlying t=some .string)(he:P.underlying e=some (.int .u8))(hb:Bytes h v l) :
 Hp P q (convert s t v) K h ⟨⟩↔K (str l) h:=by
 rw[Hp_iff]
 unfold convert
 rw[hp_bind',hp_underlying hs,hp_bind',hp_underlying ht]
 rcases hb with ⟨rfl,rfl⟩|⟨a,c,rfl,hle,hc⟩
 ·simp only
  rw[hp_bind',hp_underlying he]
  exact hp_bytesToString (.inl ⟨rfl,rfl⟩)
 ·simp only
  rw[hp_bind',hp_underlying he]
  exact hp_bytesToString (.inr ⟨a,c,rfl,hle,hc⟩)

/-! ### Equality of structs -/
def veq:Value->Value->Option Bool
 | .int k a,.int k' b=>if k=k' then some (decide (a=b)) else none
 | .bool a,.bool b=>some (a==b)
 | .string a,.string b=>some (a.data.toList==b.data.toList)
 | _,_=>none
def scalEq(P:Program)(t:TypeId):Bool:=match P.underlying t with|some (.int _)|some .bool|some .string=>true|_=>false
def kindFits(P:Program)(t:TypeId):Value->Bool
 | .int _ _=>match P.underlying t with|some (.int _)=>true|_=>false
 | .bool _=>match P.underlying t with|some .bool=>true|_=>false
 | .string _=>match P.underlying t with|some .string=>true|_=>false
 | _=>false
def eqBools(P:Program)(xs ys:List Value):List Field->Option (List Bool)
 | []=>some []
 | f :: fs => if f.name ≠ "_" then
  match xs[f.offset]?,ys[f.offset]? with
  | some x,some y=>bif kindFits P f.type x then
   match veq x y,eqBools P xs ys fs with
   | some b,some bs=>some (b::bs)
   | _,_=>none
   else none
  | _,_=>none
  else eqBools P xs ys fs

theorem hp_program{K:Program->Heap->Prop}:hp P q program K h↔K P h:=Iff.rfl

def zeroOf(P:Program)(t:TypeId):Option Value:=match P.info? t with|some i=>i.zero|none=>none
theorem Hp_allocZ{t:TypeId}{z:Value}(e:zeroOf P t=some z):Hp P false (Instr.alloc t true undef) K h ⟨⟩↔ValT h.size (fun b=>K (.pointer (some ⟨b,0,none⟩)) (h.push (.cells z.cells t))) ⟨⟩:=by
 rw[ValT_iff]
 unfold zeroOf at e
 cases ei:P.info? t with
 | none=>rw[ei]at e;cases e
 | some i=>rw[ei]at e;exact Hp_alloc ei e
def eqBoolsT(P:Program)(t:TypeId)(xs ys:List Value):Option (List Bool) :=
 match P.underlying t with
 | some (.struct fs)=>bif !P.stoodInHeld t && !P.eqGuardType P.depth t then eqBools P xs ys fs.toList else none
 | _=>none
/-! ### Bits -/
attribute [simp] wrap_u64 wrap_i64 wrap_u8 wrap_u32 wrap_i32

theorem or_low{a b n:Nat}(ha:a<2^n)(hb:b%2^n=0):a ||| b=a+b:=by
 have e:b=2^n*(b/2^n):=by have:=Nat.div_add_mod b (2^n);omega
 rw[Nat.or_comm,e,<-Nat.two_pow_add_eq_or_of_lt ha];omega

theorem bv_nat{n:Nat}{a:Int}(h0:0<=a)(h1:a<2^n):(BitVec.ofInt n a).toNat=a.toNat:=by
 rw[BitVec.toNat_ofInt,Int.emod_eq_of_lt h0 (by exact_mod_cast h1)]

theorem Hp_or_u64{t:TypeId}{x y:Operand}{a b:Int}(a0:0<=a)(a1:a<18446744073709551616)(b0:0<=b)(b1:b<18446744073709551616):Hp P q (binS .or t x y (.int .u64 a) (.int .u64 b)) K h ⟨⟩↔K (.int .u64 ((a.toNat ||| b.toNat:Nat):Int)) h:=by
 rw[Hp_or,ValI_iff,BitVec.toNat_or]
 have e1:(BitVec.ofInt IntKind.u64.bits a).toNat=a.toNat:=bv_nat a0 (by simpa[IntKind.bits]using a1)
 have e2:(BitVec.ofInt IntKind.u64.bits b).toNat=b.toNat:=bv_nat b0 (by simpa[IntKind.bits]using b1)
 rw[e1,e2,wrap_u64 omg]
 have:=Nat.or_lt_two_pow (n:=64) (x:=a.toNat) (y:=b.toNat) omg omg
 omega

theorem Hp_or_low(n:Nat){t:TypeId}{x y:Operand}{a b:Int}(a0:0<=a)(a1:a<2^n)(b0:0<=b)(b1:b%2^n=0)(s:a+b<18446744073709551616):Hp P q (binS .or t x y (.int .u64 a) (.int .u64 b)) K h ⟨⟩↔ValI (a+b) (fun n=>K (.int .u64 n) h) ⟨⟩:=by
 rw[Hp_or_u64 a0 omg b0 omg,ValI_iff]
 have e:a.toNat ||| b.toNat=a.toNat+b.toNat:=or_low (n:=n) (by
  have:((2:Nat)^n:Int)=(2:Int)^n:=by simp
  omega) (by
  have h1:((b.toNat%2^n:Nat):Int)=0:=by rw[Int.natCast_emod,Int.toNat_of_nonneg b0];simpa using b1
  omega)
 rw[e,show ((a.toNat+b.toNat:Nat):Int)=a+b by omega]
theorem Hp_or_high(n:Nat){t:TypeId}{x y:Operand}{a b:Int}(a0:0<=a)(a1:a%2^n=0)(b0:0<=b)(b1:b<2^n)(s:a+b<18446744073709551616):Hp P q (binS .or t x y (.int .u64 a) (.int .u64 b)) K h ⟨⟩↔ValI (a+b) (fun n=>K (.int .u64 n) h) ⟨⟩:=by
 have:=Hp_or_low (P:=P) (q:=q) (K:=K) (h:=h) n (t:=t) (x:=y) (y:=x) b0 b1 a0 a1 omg
 rw[Hp_or_u64 b0 omg a0 omg,ValI_iff,Nat.or_comm]at this
 rw[Hp_or_u64 a0 omg b0 omg,ValI_iff,this,Int.add_comm]

theorem Hp_and_u64{t:TypeId}{x y:Operand}{a b:Int}(a0:0<=a)(a1:a<18446744073709551616)(b0:0<=b)(b1:b<18446744073709551616):Hp P q (binS .and t x y (.int .u64 a) (.int .u64 b)) K h ⟨⟩↔K (.int .u64 ((a.toNat &&& b.toNat:Nat):Int)) h:=by
 rw[Hp_and,ValI_iff,BitVec.toNat_and]
 have e1:(BitVec.ofInt IntKind.u64.bits a).toNat=a.toNat:=bv_nat a0 (by simpa[IntKind.bits]using a1)
 have e2:(BitVec.ofInt IntKind.u64.bits b).toNat=b.toNat:=bv_nat b0 (by simpa[IntKind.bits]using b1)
 rw[e1,e2,wrap_u64 omg]
 have:a.toNat &&& b.toNat<=a.toNat:=Nat.and_le_left
 omega
theorem Hp_mask_u64(n:Nat){t:TypeId}{x y:Operand}{a b:Int}(a0:0<=a)(a1:a<18446744073709551616)(b0:0<=b)(b1:b<18446744073709551616)(hb:b+1=2^n):Hp P q (binS .and t x y (.int .u64 a) (.int .u64 b)) K h ⟨⟩↔ValI (a%2^n) (fun n=>K (.int .u64 n) h) ⟨⟩:=by
 rw[Hp_and_u64 a0 a1 b0 b1,ValI_iff]
 have e:b.toNat=2^n-1:=by
  have:((2:Nat)^n:Int)=(2:Int)^n:=by simp
  omega
 rw[e,Nat.and_two_pow_sub_one_eq_mod,Int.natCast_emod,Int.toNat_of_nonneg a0]
 simp
theorem Hp_shl_u64{t:TypeId}{x y:Operand}{k':IntKind}{a b:Int}(hb:0<=b)(hb':b<64):Hp P q (binS .shl t x y (.int .u64 a) (.int k' b)) K h ⟨⟩↔ValI (IntKind.u64.wrap (a*2^b.toNat)) (fun n=>K (.int .u64 n) h) ⟨⟩:=by
 rw[Hp_shl hb,show min b.toNat IntKind.u64.bits=b.toNat by simp[IntKind.bits];omega]
theorem Hp_shr_u64{t:TypeId}{x y:Operand}{k':IntKind}{a b:Int}(hb:0<=b)(hb':b<64):Hp P q (binS .shr t x y (.int .u64 a) (.int k' b)) K h ⟨⟩↔ValI (a/2^b.toNat) (fun n=>K (.int .u64 n) h) ⟨⟩:=by
 rw[Hp_shr hb,show min b.toNat IntKind.u64.bits=b.toNat by simp[IntKind.bits];omega,ValI_iff,ValI_iff,Int.fdiv_eq_ediv_of_nonneg _ (by have:(0:Int)<2^b.toNat:=Int.pow_pos omg;omega)]

@[simp] theorem Hp_loadCell{t:TypeId}{a:Addr}:Hp P q (loadCell t (.pointer (some a))) K h ⟨⟩↔Hp P q (Instr.loadAt t (.pointer (some a))) K h ⟨⟩:=by
 rw[Hp_iff,Hp_iff];exact Iff.rfl

theorem JoinN_in0{F:(Heap->Prop)->Heap->Prop}{K:Heap->Prop}{h:Heap}(Φ:Heap->Prop)(hF:∀k:Heap->Prop,(∀H,Φ H->k H)->F k h)(hK:∀H,Φ H->K H):JoinN 0 F K h ⟨⟩ ⟨⟩:=⟨hF K hK⟩
theorem JoinN_in1{F:(VP)->Heap->Prop}{K:VP}{h:Heap}(Φ:VP)(hF:∀k:VP,(∀v H,Φ v H->k v H)->F k h)(hK:∀v H,Φ v H->K v H):JoinN 1 F K h ⟨⟩ ⟨⟩:=⟨hF K hK⟩
theorem JoinN_in2{F:(Value->VP)->Heap->Prop}{K:Value->VP}{h:Heap}(Φ:Value->VP)(hF:∀k:Value->VP,(∀v u H,Φ v u H->k v u H)->F k h)(hK:∀v u H,Φ v u H->K v u H):JoinN 2 F K h ⟨⟩ ⟨⟩:=⟨hF K hK⟩
theorem JoinN_in3{F:(Value->Value->VP)->Heap->Prop}{K:Value->Value->VP}{h:Heap}(Φ:Value->Value->VP)(hF:∀k:Value->Value->VP,(∀v u x H,Φ v u x H->k v u x H)->F k h)(hK:∀v u x H,Φ v u x H->K v u x H):JoinN 3 F K h ⟨⟩ ⟨⟩:=⟨hF K hK⟩
end
end Go.Vc

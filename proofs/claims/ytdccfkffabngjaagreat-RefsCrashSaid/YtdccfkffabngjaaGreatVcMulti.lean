/- Rules for slices of elements of several cells,and for arrays behind pointers. -/
import Derived.Test.YtdccfkffabngjaaGreatVcRange
namespace Go.Vc
open Go
set_option linter.unusedSimpArgs false
set_option linter.unusedVariables false
section
variable {P:Program}{q:Bool}{K:VP}{h:Heap}

def arrS(P:Program)(t n s:Nat):Bool:=match P.underlying t with
 | some (.array m e)=>match P.info? e with
  | some i=>Nat.beq i.size s&&Nat.beq m n
  | none=>false
 | _=>false
theorem arrS_spec{t n s:Nat}(ht:arrS P t n s=true):∃e i,P.underlying t=some (.array n e)/\P.info? e=some i/\i.size=s:=by
 unfold arrS at ht
 split at ht
 ·rename_i m e he
  cases hi:P.info? e with
  | none=>rw[hi]at ht;cases ht
  | some i =>
   rw[hi]at ht
   simp only[Bool.and_eq_true]at ht
   obtain rfl:=Nat.eq_of_beq_eq_true ht.2
   exact⟨e,i,he,hi,Nat.eq_of_beq_eq_true ht.1⟩
 ·cases ht
theorem Hp_indexArr{t len s:Nat}{a:Addr}{k:IntKind}{n:Int}(ht:arrS P t len s=true)(n0:0<=n)(n1:n<len) :
 Hp P q (Instr.indexAt t (.pointer (some a)) (.int k n)) K h ⟨⟩↔ValT n.toNat (fun j=>K (.pointer (some (elt a (j*s)))) h) ⟨⟩:=by
 obtain⟨e,i,ht,hi,hs⟩:=arrS_spec ht
 rw[ValT_iff,Hp_iff]
 unfold Instr.indexAt
 rw[hp_bind',hp_asIntOf]
 simp only
 rw[hp_bind',hp_underlying ht]
 simp only
 rw[show Instr.sureAddr (.pointer (some a))=pure a from rfl,pure_bind,hp_bind',hp_pure,hp_bind',hp_underlying ht]
 simp only
 rw[if_pos ⟨n0,n1⟩,hp_bind',hp_sizeOf hi,hs]
 exact Iff.rfl
theorem Hp_indexAtS{t s:Nat}{a:Addr}{len cap:Nat}{k:IntKind}{n:Int}(ht:slS P t s=true)(n0:0<=n)(n1:n<len) :
 Hp P q (Instr.indexAt t (.slice (some a) len cap) (.int k n)) K h ⟨⟩↔ValT n.toNat (fun j=>K (.pointer (some (elt a (j*s)))) h) ⟨⟩:=by
 obtain⟨e,i,ht,hi,hs⟩:=slS_spec ht
 rw[ValT_iff,Hp_iff]
 unfold Instr.indexAt
 rw[hp_bind',hp_asIntOf]
 simp only
 rw[hp_bind',hp_underlying ht]
 simp only
 rw[hp_bind',hp_pure,hp_bind',hp_underlying ht]
 simp only
 rw[if_pos ⟨n0,n1⟩,hp_bind',hp_sizeOf hi,hs]
 exact Iff.rfl

def subS(s:Nat)(a:Addr)(lo c:Nat):Addr:=if c=lo then a else elt a (lo*s)
@[simp] theorem subS_blk(s:Nat)(a:Addr)(lo c:Nat):(subS s a lo c).block=a.block:=by unfold subS;split<;>simp
theorem subS_lt{s:Nat}{a:Addr}{lo c:Nat}(h:lo<c):subS s a lo c=elt a (lo*s):=by unfold subS;rw[if_neg omg]
theorem Hp_sliceS{t s:Nat}{a:Addr}{len cap:Nat}{lo hi:Option Value}(ht:slS P t s=true)(nl:isNum lo=true)(nh:isNum hi=true)
 (l0:0<=lowOf lo) (l1:lowOf lo<=highOf len hi) (l2:highOf len hi<=cap) :
 Hp P q (Instr.sliceAt t (.slice (some a) len cap) lo hi none) K h ⟨⟩ ↔
  ValT (lowOf lo).toNat (fun l=>ValT (highOf len hi).toNat (fun r=>K (.slice (some (subS s a l cap)) (r-l) (cap-l)) h) ⟨⟩) ⟨⟩:=by
 obtain⟨e,i,ht,he,hs⟩:=slS_spec ht
 rw[Hp_iff,ValT_iff,ValT_iff]
 unfold Instr.sliceAt
 rw[hp_bind',hp_underlying ht]
 simp only
 unfold Instr.slice
 rw[hp_bind',hp_underlying ht]
 simp only
 rw[sliceBounds_eq nl nh l0 l1 l2,hp_bind',hp_pure,hp_bind',hp_sizeOf he,hs]
 unfold subS
 split<;>exact Iff.rfl
theorem Hp_slsLN{t s:Nat}{a:Addr}{len cap:Nat}{k:IntKind}{lo:Int}(ht:slS P t s=true)(h0:0<=lo)(h1:lo<=len)(hc:len<=cap) :
 Hp P q (Instr.sliceAt t (.slice (some a) len cap) (some (.int k lo)) none none) K h ⟨⟩↔ValT lo.toNat (fun l=>K (.slice (some (subS s a l cap)) (len-l) (cap-l)) h) ⟨⟩:=by
 rw[Hp_sliceS ht rfl rfl (by simpa[lowOf]using h0) (by simpa[lowOf,highOf]using h1) (by simpa[highOf]using hc)]
 simp[lowOf,highOf]
end
end Go.Vc

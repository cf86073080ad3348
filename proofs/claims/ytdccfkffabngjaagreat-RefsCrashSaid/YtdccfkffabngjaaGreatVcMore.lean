/- More rules: equality of truth values. -/
import Derived.Test.YtdccfkffabngjaaGreatVcRow
namespace Go.Vc
open Go
set_option linter.unusedSimpArgs false
set_option linter.unusedVariables false
section
variable {P:Program}{q:Bool}{K:VP}{h:Heap}

def nilFits(P:Program)(t:TypeId)(v w:Value):Option Bool :=
 match P.underlying t,v,w with
 | some (.slice _),.slice a _ _,.slice none 0 0=>some a.isNone
 | some (.map _ _),.map a,.map none=>some a.isNone
 | some (.func _ _ _),.nilFunc,.nilFunc=>some true
 | some (.func _ _ _),.func _ _ _,.nilFunc=>some false
 | some (.pointer _),.pointer a,.pointer none=>some a.isNone
 | _,_,_=>none
theorem hp_equal_slice{t e:TypeId}{a:Option Addr}{n c:Nat}{K:Bool->Heap->Prop}(hu:P.underlying t=some (.slice e)):hp P q (Op.equal t (.slice a n c) (.slice none 0 0)) K h↔K a.isNone h:=by
 unfold Op.equal
 rw[show Op.maxDepth=9999+1 from rfl]
 unfold Op.equalIn
 rw[hp_bind',hp_underlying hu]
 cases a<;>exact Iff.rfl
theorem hp_equal_map{t e k:TypeId}{a:Option Nat}{K:Bool->Heap->Prop}(hu:P.underlying t=some (.map k e)):hp P q (Op.equal t (.map a) (.map none)) K h↔K a.isNone h:=by
 unfold Op.equal
 rw[show Op.maxDepth=9999+1 from rfl]
 unfold Op.equalIn
 rw[hp_bind',hp_underlying hu]
 cases a<;>exact Iff.rfl
theorem hp_equal_ptr{t e:TypeId}{a:Option Addr}{K:Bool->Heap->Prop}(hu:P.underlying t=some (.pointer e)):hp P q (Op.equal t (.pointer a) (.pointer none)) K h↔K a.isNone h:=by
 unfold Op.equal
 rw[show Op.maxDepth=9999+1 from rfl]
 unfold Op.equalIn
 rw[hp_bind',hp_underlying hu]
 cases a<;>exact Iff.rfl
theorem hp_equal_func{t:TypeId}{a b c}{v:Value}{d:Bool}{K:Bool->Heap->Prop}(hu:P.underlying t=some (.func a b c))(hd:(match v with | .nilFunc=>some true | .func _ _ _=>some false|_=>none)=some d):hp P q (Op.equal t v .nilFunc) K h↔K d h:=by
 unfold Op.equal
 rw[show Op.maxDepth=9999+1 from rfl]
 unfold Op.equalIn
 rw[hp_bind',hp_underlying hu]
 cases v<;>first|(cases hd;done)|(cases hd;exact Iff.rfl)
theorem nilFits_spec{t:TypeId}{v w:Value}{b:Bool}{K:Bool->Heap->Prop}(hk:nilFits P t v w=some b):hp P q (Op.equal t v w) K h↔K b h:=by
 unfold nilFits at hk
 split at hk<;>first|(cases hk;done)|skip
 all_goals (simp only[Option.some.injEq]at hk;subst hk)
 ·exact hp_equal_slice (by assumption)
 ·exact hp_equal_map (by assumption)
 ·exact hp_equal_func (by assumption) rfl
 ·exact hp_equal_func (by assumption) rfl
 ·exact hp_equal_ptr (by assumption)
theorem eqGuard_nil{op:BinOp}{t:TypeId}{x y:Operand}{v w:Value}{b:Bool}{K:Unit->Heap->Prop}(hk:nilFits P t v w=some b):hp P q (eqGuard op t x y v w) K h↔K () h:=by
 unfold nilFits at hk
 split at hk<;>first|(cases hk;done)|(cases op<;>exact Iff.rfl)
theorem Hp_eqlNil{t:TypeId}{x y:Operand}{v w:Value}{b:Bool}(hk:nilFits P t v w=some b):Hp P q (binS .eql t x y v w) K h ⟨⟩↔K (.bool b) h:=by
 rw[Hp_iff]
 unfold binS
 rw[hp_bind',eqGuard_nil hk]
 have:binOp .eql t v w=(do pure (.bool (<-Op.equal t v w)):Sem Value):=by
  unfold nilFits at hk
  split at hk<;>first|(cases hk;done)|rfl
 rw[this,hp_bind',nilFits_spec hk]
 exact Iff.rfl
theorem Hp_neqNil{t:TypeId}{x y:Operand}{v w:Value}{b:Bool}(hk:nilFits P t v w=some b):Hp P q (binS .neq t x y v w) K h ⟨⟩↔K (.bool !b) h:=by
 rw[Hp_iff]
 unfold binS
 rw[hp_bind',eqGuard_nil hk]
 have:binOp .neq t v w=(do pure (.bool (!(<-Op.equal t v w))):Sem Value):=by
  unfold nilFits at hk
  split at hk<;>first|(cases hk;done)|rfl
 rw[this,hp_bind',nilFits_spec hk]
 exact Iff.rfl
end
end Go.Vc

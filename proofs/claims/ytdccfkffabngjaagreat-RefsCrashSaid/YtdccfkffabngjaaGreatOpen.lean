/- Arguments opened: what a world's data is,part by part. -/
import Derived.Test.YtdccfkffabngjaaGreatClose
namespace Go.Vc
open Go Go.ChangeShapes Go.WideShapes Go.ChangeAt Go.RowKit Go.Deep
set_option linter.unusedVariables false
variable {H:Type}{enc:TypeId×Value->H}{P:Program}{w:World}{base:Nat}{sp:Nat->Bool}{held:Bool}{t e:TypeId}{cs:List Value}{v:Value}

def Laid{H:Type}(enc:TypeId×Value->H)(P:Program)(w:World)(base:Nat)(sp:Nat->Bool)(held:Bool)(t:TypeId)(cs:List Value):Prop :=
 ∃fuel x,DataW.trod enc P w base sp held fuel t cs=some x

theorem Laid.int{k:IntKind}(ht:P.underlying t=some (.int k))(h:Laid enc P w base sp held t cs):∃n,cs=[.int k n]/\k.min<=n/\n<=k.max:=by
 obtain⟨f,x,h⟩:=h
 obtain⟨n,rfl,-,hw⟩:=DataW.trod_int ht h
 simp[Lit.wf]at hw
 exact⟨n,rfl,hw.1,hw.2⟩

theorem Laid.struct{fs:Array Field}(ht:P.underlying t=some (.struct fs))(h:Laid enc P w base sp held t cs) :
 cs.length=P.cellsOf t/\∀(i:Nat) (f:Field),fs[i]? = some f->Laid enc P w base sp held f.type ((cs.drop f.offset).take (P.cellsOf f.type)):=by
 obtain⟨f,x,h⟩:=h
 obtain⟨xs,n,-,-,h1,h2,h3⟩:=DataW.trod_struct ht h
 refine⟨h1,fun i f hf=>?_⟩
 have hi:i<fs.size:=by
  rw[Array.getElem?_eq_some_iff]at hf
  exact hf.1
 exact⟨n,xs[i]'omg,by rw[h3 i f hf,List.getElem?_eq_getElem]⟩

def Slc{α:Type}(s:Nat)(h:Heap)(v:Value)(R:List Value->α->Prop)(xs:List α):Prop :=
 (v = .slice none 0 0/\xs=[])\/∃a c,v = .slice (some a) xs.length c/\xs.length<=c/\∀(i:Nat) (hi:i<xs.length),∃us:List Value,us.length=s/\Seg h (elt a (i*s)) us/\R us xs[i]

theorem Slc.form{α:Type}{s:Nat}{h:Heap}{v:Value}{R:List Value->α->Prop}{xs:List α}(f:Slc s h v R xs):∃o c,v = .slice o xs.length c:=by
 rcases f with ⟨rfl,rfl⟩|⟨a,c,h1,_⟩
 ·exact⟨_,_,rfl⟩
 ·exact⟨_,_,h1⟩

theorem Laid.slice{α:Type}{R:List Value->α->Prop}(ht:P.underlying t=some (.slice e))(h:Laid enc P w base sp held t cs)(hR:∀us,Laid enc P w base sp held e us->∃x,R us x) :
 ∃(v:Value) (xs:List α),cs=[v]/\Slc (P.cellsOf e) w.heap v R xs/\xs.length<=maxLen:=by
 obtain⟨f,x,h⟩:=h
 rcases open_slice ht h with ⟨rfl,-⟩|⟨a,len,cap,m,n,D,Pl,rfl,h2,h3,h4,h5,h6,h7⟩
 ·exact⟨_,[],rfl,.inl ⟨rfl,rfl⟩,by simp⟩
 ·have hm:len<=m:=by rw[h5];split<;>omega
  have hb:∀i,i<len->∃us:List Value,us.length=P.cellsOf e/\Seg w.heap (elt a (i*P.cellsOf e)) us/\∃x,R us x:=by
   intro i hi
   obtain⟨us,hx,hy⟩:=h7 i omg
   obtain⟨_,hl,hc⟩:=World.cells?_some hx
   refine⟨us,hl,fun j hj=>?_,hR us ⟨_,_,hy⟩⟩
   have:=hc j omg
   rw[List.getElem?_eq_getElem hj]at this
   exact this
  refine⟨_,(List.range len).attach.map fun ⟨i,hi⟩=>(hb i (by simpa using hi)).choose_spec.2.2.choose,rfl,.inr ⟨a,cap,by simp,by simpa using h3,fun i hi=>?_⟩,by simp;omega⟩
  simp only[List.length_map,List.length_attach,List.length_range]at hi
  refine⟨(hb i hi).choose,(hb i hi).choose_spec.1,(hb i hi).choose_spec.2.1,?_⟩
  simp only[List.getElem_map,List.getElem_attach,List.getElem_range]
  exact (hb i hi).choose_spec.2.2.choose_spec

theorem Laid.of{ps:List MemPlace}{d:DataW H}(hd:DataW.Trod enc P w base sp held t v d ps):Laid enc P w base sp held t v.cells.toList:=by
 obtain⟨f,hf⟩:=hd
 exact⟨f,_,hf⟩

theorem Laid.topStruct{r:Reach}{b0:Nat}{ps:List MemPlace}{d:DataW H}{fs:Array Field}(ht:P.underlying t=some (.struct fs))(hval:Value.okWide P w r b0 t v)(hd:DataW.Trod enc P w base sp held t v d ps) :
 ∃cs:List Value,v = .agg cs.toArray/\Laid enc P w base sp held t cs:=by
 obtain⟨cs,rfl,-⟩:=okWide_struct ht hval
 exact⟨cs.toList,by simp,by simpa[Value.cells]using Laid.of hd⟩

def flds(P:Program)(t:TypeId):Option (List (TypeId×Nat×Nat)):=match P.underlying t with|some (.struct fs)=>some (fs.toList.map fun f=>(f.type,f.offset,P.cellsOf f.type))|_=>none

theorem flds_some{L:List (TypeId×Nat×Nat)}(hf:flds P t=some L):∃fs:Array Field,P.underlying t=some (.struct fs)/\L=fs.toList.map fun f=>(f.type,f.offset,P.cellsOf f.type):=by
 unfold flds at hf
 split at hf
 ·rename_i fs h
  exact⟨fs,h,by simpa using hf.symm⟩
 ·cases hf

theorem Laid.flds{L:List (TypeId×Nat×Nat)}{n:Nat}(hf:flds P t=some L)(hn:P.cellsOf t=n)(h:Laid enc P w base sp held t cs) :
 cs.length=n/\∀(i:Nat) ty off s,L[i]? = some (ty,off,s)->Laid enc P w base sp held ty ((cs.drop off).take s):=by
 obtain⟨fs,ht,rfl⟩:=flds_some hf
 obtain⟨hl,hL⟩:=h.struct ht
 refine⟨hl.trans hn,fun i ty off s hi=>?_⟩
 simp only[List.getElem?_map,Option.map_eq_some_iff,Prod.mk.injEq]at hi
 obtain⟨f,hf,rfl,rfl,rfl⟩:=hi
 exact hL i f (by simpa using hf)

theorem Laid.topFlds{r:Reach}{b0:Nat}{ps:List MemPlace}{d:DataW H}{L:List (TypeId×Nat×Nat)}{n:Nat}(hf:Vc.flds P t=some L)(hn:P.cellsOf t=n)(hval:Value.okWide P w r b0 t v)(hd:DataW.Trod enc P w base sp held t v d ps) :
 ∃cs:List Value,v = .agg cs.toArray/\cs.length=n/\∀(i:Nat) ty off s,L[i]? = some (ty,off,s)->Laid enc P w base sp held ty ((cs.drop off).take s):=by
 obtain⟨fs,ht,-⟩:=flds_some hf
 obtain⟨cs,rfl,hL⟩:=Laid.topStruct ht hval hd
 exact⟨cs,rfl,hL.flds hf hn⟩
theorem len2{α:Type}{l:List α}(h:l.length=2):∃a0 a1,l=[a0,a1]:=by
 match l,h with
 | [a0,a1],_=>exact⟨a0,a1,rfl⟩
end Go.Vc

/- From a contract on heaps to a law's row: 'true; the arguments read as they did'. -/
import Derived.Test.YtdccfkffabngjaaGreatBytes
import Derived.Deep.Slices
import Derived.WalkKit
import Derived.ProofKit
import Derived.OpenShut
import Derived.JoinedCond
import Derived.Carry
import Derived.Lib.SmallJoins
namespace Go.Vc
open Go Go.ChangeShapes Go.WideShapes Go.ChangeAt Go.RowKit Go.Deep
set_option linter.unusedVariables false
variable {H:Type}{enc:TypeId×Value->H}{P:Program}

theorem below_of{w w':World}(s:Same w w')(e:Ext w.heap w'.heap):Below w.heap.size w w':=⟨s.os,s.tape,s.output,e.size,e.block⟩

theorem trodAll_stays(hl:laidOutB P=true){W W':World}{sp:Nat->Bool}:∀{ts:List TypeId} {vs:List Value} {ds:List (DataW H)} {ps:List MemPlace},
 ts.all (fun t=>P.readableRec t&&decide (t<P.types.size))=true->DataW.TrodAll enc P W 0 (fun _=>true) true ts vs ds ps->(∀x∈ps,W.sameAt W' x)->(∀x∈ps,sp x.block=true) ->
 DataW.TrodAll enc P W' 0 sp true ts vs ds ps
 | [],vs,ds,ps,_,h,_,_=>by
  obtain⟨rfl,rfl,rfl⟩:=trodAll_nil h
  exact trodAll_mk0
 | t::ts,vs,ds,ps,ht,h,hs,hp=>by
  obtain⟨v,vs',d,ds',p,q,rfl,rfl,rfl,h0,h1⟩:=trodAll_cons h
  simp only[List.all_cons,Bool.and_eq_true,decide_eq_true_eq]at ht
  exact trodAll_cons_mk (Go.WideElems.Trod_stays hl ht.1.1 ht.1.2 h0 (fun x hx=>hs x (List.mem_append_left _ hx)) (fun x hx=>hp x (List.mem_append_left _ hx)))
   (trodAll_stays hl ht.2 h1 (fun x hx=>hs x (List.mem_append_right _ hx)) (fun x hx=>hp x (List.mem_append_right _ hx)))

theorem law_post{f:Func}{s:ChangeSpec}{W W':World}{args:Array Value}{ds gs:List (DataW H)}{before:List MemPlace}{tb:TypeId}{b:Bool}
 (hl:laidOutB P=true) (hts:f.params.toList.all (fun t=>P.readableRec t&&decide (t<P.types.size))=true) (hs:s.vars=[])
 (hr:f.resultTypes = #[tb]) (hu:P.underlying tb=some .bool)
 (hW:DataW.Whole enc P f.params.toList s.vars false W args.toList ds gs before)
 (hfn:gs=[]->s.fn H (ds++gs)={ results:=[.lit (.bool b)],args:=ds,vars:=[] }) (hb:Below W.heap.size W W') :
 s.post enc P f false true false false W args (.bool b) W':=by
 have hlt:∀p∈before,p.block<W.heap.size:=fun p hp=>hW.lt p hp
 have hW':=hW
 obtain⟨pa,pv,hA,hV,hps,hz,hn⟩:=hW'
 rw[hs]at hV
 obtain⟨hg,hpv⟩:=trodVars_none hV
 have hf:=hfn hg
 subst hpv
 have hbp:before=pa:=by simpa using hps
 have args':∀sp:Nat->Bool,(∀p∈pa,sp p.block=true)->DataW.TrodAll enc P W' 0 sp true f.params.toList args.toList ds pa:=fun sp hsp =>
  trodAll_stays hl hts hA (fun x hx=>hb.same (hlt x (hbp▸hx))) hsp
 have res:∀(b0:Nat) (sp:Nat->Bool) (hd:Bool),DataW.TrodAll enc P W' b0 sp hd f.resultTypes.toList ((Value.bool b).resultList f.resultTypes.size) [.lit (.bool b)] []:=by
  intro b0 sp hd
  rw[hr]
  exact trodAll_mk1 (shut_bool hu b)
 have vars':∀sp:Nat->Bool,DataW.TrodVars enc P W' sp s.vars [] []:=by
  intro sp
  rw[hs]
  rfl
 refine⟨ds,gs,before,[],pa,[],hW,?_,?_,?_,hb.frame _,fun ha=>by cases ha⟩
 ·rw[hf];exact res _ _ _
 ·rw[hf];exact args' _ (fun p hp=>by simpa using hlt p (hbp▸hp))
 ·rw[hf];exact vars' _
end Go.Vc

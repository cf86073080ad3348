/- Lemmas: what the functions do. -/
import Derived.Test.YtdccfkffabngjaaGreatVcMulti
import Derived.Test.YtdccfkffabngjaaGreatBytes
import Derived.Sort.AssemblyPlain
import Derived.Test.YtdccfkffabngjaaGreatNice
import Derived.Test.YtdccfkffabngjaaGreatFacts
namespace Go.Vc
section
open Go
set_option linter.unusedSimpArgs false
set_option linter.unusedVariables false
set_option linter.unusedSectionVars false
section
variable {P:Program}{q:Bool}{K:VP}{h:Heap}{κ:Type}[DecidableEq κ]{kV:κ->Value}
theorem ba_beq(a b:List UInt8):((⟨⟨a⟩⟩:ByteArray)==⟨⟨b⟩⟩)=decide (a=b):=by
 show ((⟨a⟩:Array UInt8)==⟨b⟩)=_
 by_cases hab:a=b
 ·subst hab;simp
 ·rw[beq_false_of_ne (fun h=>hab (by cases h;rfl))];simp[hab]
theorem hp_getMap{r:Nat}{es:Array MapEntry}{cl:Nat}{K:Obj->Heap->Prop}(hb:h[r]? = some (.map es cl)):hp P q (getObj r) K h↔K (.map es cl) h:=by
 unfold getObj
 simp only[hp,hb]
def scalD:TypeDesc->Bool | .int _ | .string | .bool=>true|_=>false
structure KeyT (P:Program) (t:TypeId) (κ:Type) [DecidableEq κ] (kV:κ->Value):Prop where
 out:∃kt et d,P.underlying t=some (.map kt et)/\P.underlying kt=some d/\scalD d=true/\(∀a b:κ,Instr.sameNow d (kV a) (kV b)=some (decide (a=b)))/\(∀a n,Instr.sameBits n (kV a) (kV a)=true)
def mapD(P:Program)(t:TypeId):Option TypeDesc:=match P.underlying t with|some (.map kt _)=>P.underlying kt|_=>none
theorem mapD_spec{t:TypeId}{d:TypeDesc}(e:mapD P t=some d):∃kt et,P.underlying t=some (.map kt et)/\P.underlying kt=some d:=by
 unfold mapD at e
 split at e
 ·rename_i kt et h;exact⟨kt,et,h,e⟩
 ·cases e
theorem KeyT.str{t:TypeId}(e:mapD P t=some .string):KeyT P t (List UInt8) str:=by
 obtain⟨kt,et,h1,h2⟩:=mapD_spec e
 refine⟨⟨kt,et,_,h1,h2,rfl,fun a b=>?_,fun a n=>?_⟩⟩
 ·unfold Vc.str Instr.sameNow
  simp only[ba_beq]
 ·cases n<;>simp[Vc.str,Instr.sameBits,ba_beq]
theorem KeyT.int{t:TypeId}{k:IntKind}(e:mapD P t=some (.int k)):KeyT P t Int (.int k):=by
 obtain⟨kt,et,h1,h2⟩:=mapD_spec e
 refine⟨⟨kt,et,_,h1,h2,rfl,fun a b=>?_,fun a n=>?_⟩⟩
 ·simp[Instr.sameNow];by_cases hab:a=b<;>simp[hab]
 ·cases n<;>simp[Instr.sameBits]
def MapK(kV:κ->Value)(h:Heap)(m:Nat)(l:List (κ×Value)):Prop :=
 ∃(es:List MapEntry) (cl:Nat),h[m]? = some (.map es.toArray cl)/\es.map (fun e=>(e.key,e.val))=l.map (fun p=>(kV p.1,p.2))/\(l.map (·.1)).Nodup/\(es.map (·.born)).Pairwise (· < ·)/\∀e∈es,e.born<cl
theorem MapK.lt{m:Nat}{l:List (κ×Value)}(s:MapK kV h m l):m<h.size:=by
 obtain⟨es,cl,h1,_⟩:=s
 exact get_some_lt h1
theorem MapK.ext{h':Heap}{m:Nat}{l:List (κ×Value)}(s:MapK kV h m l)(e:Ext h h'):MapK kV h' m l:=by
 obtain⟨es,cl,h1,h2⟩:=s
 exact⟨es,cl,(get_ext e (get_some_lt h1)).trans h1,h2⟩
theorem MapK.mod{S:Nat->Prop}{h':Heap}{m:Nat}{l:List (κ×Value)}(s:MapK kV h m l)(e:Mod S h h')(hS:¬S m):MapK kV h' m l:=by
 obtain⟨es,cl,h1,h2⟩:=s
 exact⟨es,cl,(e.block m (get_some_lt h1) hS).trans h1,h2⟩
theorem MapK.nodup{m:Nat}{l:List (κ×Value)}(s:MapK kV h m l):(l.map (·.1)).Nodup:=by obtain⟨es,cl,h1,h2,h3,_⟩:=s;exact h3
def look2(k:κ):List (κ×Value)->Option Value
 | []=>none
 | (a,v)::r=>if k=a then some v else look2 k r
def upd(k:κ)(v:Value):List (κ×Value)->List (κ×Value)
 | []=>[(k,v)]
 | (a,u)::r=>if k=a then (k,v)::r else (a,u)::upd k v r
def del(k:κ):List (κ×Value)->List (κ×Value)
 | []=>[]
 | (a,u)::r=>if k=a then r else (a,u)::del k r
theorem look2_none{k:κ}:∀{l:List (κ×Value)},look2 k l=none↔∀v,(k,v)∉l
 | []=>by simp[look2]
 | (a,u)::r=>by
  unfold look2
  by_cases e:k=a
  ·subst e;rw[if_pos rfl];simp only[reduceCtorEq,false_iff];exact fun h=>h u List.mem_cons_self
  ·rw[if_neg e,look2_none]
   simp only[List.mem_cons,Prod.mk.injEq,e,false_and,false_or]
theorem look2_some{k:κ}{v:Value}:∀{l:List (κ×Value)},(l.map (·.1)).Nodup->(look2 k l=some v↔(k,v)∈l)
 | [],_=>by simp[look2]
 | (a,u)::r,hn=>by
  simp only[List.map_cons,List.nodup_cons]at hn
  unfold look2
  by_cases e:k=a
  ·subst e
   rw[if_pos rfl]
   simp only[Option.some.injEq,List.mem_cons,Prod.mk.injEq,true_and]
   refine⟨fun h=>.inl h.symm,fun h=>h.elim (·.symm) (fun h=>absurd (List.mem_map_of_mem (f:=(·.1)) h) hn.1)⟩
  ·rw[if_neg e,look2_some hn.2]
   simp only[List.mem_cons,Prod.mk.injEq,e,false_and,false_or]
theorem look2_upd{k j:κ}{v:Value}:∀l:List (κ×Value),look2 j (upd k v l)=if j=k then some v else look2 j l
 | []=>by simp[upd,look2]
 | (a,u)::r=>by
  unfold upd
  by_cases e:k=a
  ·subst e;rw[if_pos rfl];simp only[look2]
   by_cases e2:j=k<;>simp[e2]
  ·rw[if_neg e];simp only[look2]
   by_cases e2:j=a
   ·subst e2;rw[if_pos rfl,if_pos rfl,if_neg (fun h=>e h.symm)]
   ·rw[if_neg e2,if_neg e2,look2_upd r]
theorem keys_upd{k:κ}{v:Value}:∀l:List (κ×Value),∀j,j∈(upd k v l).map (·.1)↔j=k\/j∈l.map (·.1)
 | [],j=>by simp[upd]
 | (a,u)::r,j=>by
  unfold upd
  by_cases e:k=a
  ·subst e;rw[if_pos rfl];simp
  ·rw[if_neg e]
   simp only[List.map_cons,List.mem_cons,keys_upd r j]
   constructor
   ·rintro (h|h|h)<;>simp[h]
   ·rintro (h|h|h)<;>simp[h]
theorem nodup_upd{k:κ}{v:Value}:∀{l:List (κ×Value)},(l.map (·.1)).Nodup->((upd k v l).map (·.1)).Nodup
 | [],_=>by simp[upd]
 | (a,u)::r,hn=>by
  simp only[List.map_cons,List.nodup_cons]at hn
  unfold upd
  by_cases e:k=a
  ·subst e;rw[if_pos rfl];simpa using hn
  ·rw[if_neg e]
   simp only[List.map_cons,List.nodup_cons]
   exact⟨fun h=>((keys_upd r a).1 h).elim (fun h=>e h.symm) hn.1,nodup_upd hn.2⟩
def findK(k:κ):List (κ×Value)->Nat->Option (Nat×Value)
 | [],_=>none
 | (a,v)::r,i=>if k=a then some (i,v) else findK k r (i+1)
theorem findK_look(k:κ):∀(l:List (κ×Value)) (i:Nat),(findK k l i).map (·.2)=look2 k l
 | [],i=>rfl
 | (a,v)::r,i=>by unfold findK look2;split<;>simp[findK_look k r]
theorem findNow_eq{d:TypeDesc}(hd:∀a b:κ,Instr.sameNow d (kV a) (kV b)=some (decide (a=b)))(k:κ):∀(es:List MapEntry) (l:List (κ×Value)) (i:Nat),es.map (fun e=>(e.key,e.val))=l.map (fun p=>(kV p.1,p.2))->Instr.findNow d (kV k) es i=some (findK k l i)
 | [],[],i,_=>rfl
 | e::es,(a,v)::r,i,h=>by
  simp only[List.map_cons,List.cons.injEq,Prod.mk.injEq]at h
  unfold Instr.findNow findK
  rw[h.1.1,hd]
  by_cases e2:k=a
  ·simp[e2,h.1.2]
  ·simp only[e2,decide_false,if_false]
   exact findNow_eq hd k es r (i+1) h.2
 | [],_::_,i,h=>by simp at h
 | _::_,[],i,h=>by simp at h
theorem hp_checkKey{e:Bool}{n:Nat}{kt:TypeId}{d:TypeDesc}{v:Value}{K:Unit->Heap->Prop}(hd:P.underlying kt=some d)(hs:scalD d=true):hp P q (Instr.checkKey e (n+1) kt v) K h↔K () h:=by
 unfold Instr.checkKey
 rw[hp_bind',hp_underlying hd]
 cases d<;>first|(simp[scalD]at hs;done)|(cases v<;>exact Iff.rfl)
theorem hp_findKey{kt:TypeId}{d:TypeDesc}{k:κ}{es:List MapEntry}{l:List (κ×Value)}{K:Option (Nat×Value)->Heap->Prop}(hu:P.underlying kt=some d)(hd:∀a b:κ,Instr.sameNow d (kV a) (kV b)=some (decide (a=b)))
 (he:es.map (fun e=>(e.key,e.val))=l.map (fun p=>(kV p.1,p.2))):hp P q (Instr.findKey kt (kV k) es) K h↔K (findK k l 0) h:=by
 unfold Instr.findKey
 rw[hp_bind',hp_underlying hu]
 simp only[findNow_eq hd k es l 0 he]
 exact Iff.rfl
def elemT(P:Program)(t:TypeId):Option Value:=match P.underlying t with|some (.map _ et)=>zeroOf P et|_=>none
theorem hp_zeroOf{et:TypeId}{z:Value}{K:VP}(hz:zeroOf P et=some z):hp P q (zeroValue et) K h↔K z h:=by
 unfold zeroOf at hz
 cases hi:P.info? et with
 | none=>rw[hi]at hz;cases hz
 | some i=>rw[hi]at hz;exact hp_zeroValue hi hz
theorem Hp_lookup{t:TypeId}{m:Nat}{l:List (κ×Value)}{k:κ}{z:Value}{ok:Bool}(kt:KeyT P t κ kV)(hz:elemT P t=some z)(hm:MapK kV h m l) :
 Hp P q (Instr.lookup t (.map (some m)) (kV k) ok) K h ⟨⟩↔K (if ok then .tuple #[(look2 k l).getD z,.bool (look2 k l).isSome] else (look2 k l).getD z) h:=by
 obtain⟨kt',et,d,h1,h2,h3,h4,h5⟩:=kt.out
 obtain⟨es,cl,m1,m2,m3,m4,m5⟩:=hm
 unfold elemT at hz
 rw[h1]at hz
 simp only at hz
 rw[Hp_iff]
 unfold Instr.lookup
 rw[hp_bind',hp_underlying h1]
 simp only
 rw[hp_bind',hp_getMap m1]
 simp only
 rw[hp_bind',hp_pure,hp_bind',hp_checkKey h2 h3,hp_bind',hp_findKey h2 h4 m2]
 have hl:=findK_look k l 0
 cases hf:findK k l 0 with
 | none =>
  rw[hf]at hl
  simp only[Option.map_none]at hl
  simp only
  rw[hp_bind',hp_zeroOf hz,<-hl]
  cases ok<;>exact Iff.rfl
 | some p =>
  rw[hf]at hl
  simp only[Option.map_some]at hl
  rw[<-hl]
  cases ok<;>exact Iff.rfl
theorem hp_setMap{r:Nat}{o:Obj}{es:Array MapEntry}{cl:Nat}{K:Unit->Heap->Prop}(hb:h[r]? = some (.map es cl))(H:K () (h.setIfInBounds r o)):hp P false (setObj r o) K h:=by
 unfold setObj
 simp only[hp,hb]
 exact⟨trivial,H⟩
theorem findK_at{k:κ}:∀{l:List (κ×Value)} {j i:Nat} {u:Value},findK k l j=some (i,u)->j<=i/\l[i-j]? = some (k,u)
 | [],j,i,u,h=>by simp[findK]at h
 | (a,v)::r,j,i,u,h=>by
  unfold findK at h
  by_cases e:k=a
  ·rw[if_pos e]at h;cases h;subst e;simp
  ·rw[if_neg e]at h
   obtain⟨h1,h2⟩:=findK_at h
   refine⟨by omega,?_⟩
   rw[show i-j=(i-(j+1))+1 by omega,List.getElem?_cons_succ];exact h2
theorem modify_upd{k:κ}{v:Value}:∀{es:List MapEntry} {l:List (κ×Value)} {j i:Nat} {u:Value},es.map (fun e=>(e.key,e.val))=l.map (fun p=>(kV p.1,p.2))->findK k l j=some (i,u) ->
 (es.modify (i-j) fun e=>{ e with key:=kV k,val:=v }).map (fun e=>(e.key,e.val))=(upd k v l).map (fun p=>(kV p.1,p.2))
 | es,[],j,i,u,_,h=>by simp[findK]at h
 | [],_::_,j,i,u,he,_=>by simp at he
 | e::es,(a,w)::r,j,i,u,he,h=>by
  simp only[List.map_cons,List.cons.injEq]at he
  unfold findK at h
  unfold upd
  by_cases e2:k=a
  ·rw[if_pos e2]at h ⊢
   cases h
   rw[Nat.sub_self,List.modify_zero_cons]
   simp only[List.map_cons,he.2]
  ·rw[if_neg e2]at h ⊢
   have h1:=findK_at h
   rw[show i-j=(i-(j+1))+1 by omega,List.modify_succ_cons]
   simp only[List.map_cons,he.1,modify_upd he.2 h]
theorem push_upd{k:κ}{v:Value}:∀{l:List (κ×Value)} {j:Nat},findK k l j=none->upd k v l=l++[(k,v)]
 | [],j,_=>rfl
 | (a,w)::r,j,h=>by
  unfold findK at h
  unfold upd
  by_cases e2:k=a
  ·rw[if_pos e2]at h;cases h
  ·rw[if_neg e2]at h ⊢
   rw[push_upd h];rfl
theorem born_modify{f:MapEntry->MapEntry}(hf:∀e,(f e).born=e.born):∀(es:List MapEntry) (i:Nat),(es.modify i f).map (·.born)=es.map (·.born)
 | [],i=>by simp
 | e::es,0=>by simp[hf]
 | e::es,i+1=>by rw[List.modify_succ_cons];simp[born_modify hf es i]
theorem Hp_mapUpdate{t:TypeId}{m:Nat}{l:List (κ×Value)}{k:κ}{v:Value}(kt:KeyT P t κ kV)(hm:MapK kV h m l)
 (H:∀h',MapK kV h' m (upd k v l)->Mod (· = m) h h'->K undef h'):Hp P false (unitS (Instr.mapUpdate t (.map (some m)) (kV k) v)) K h ⟨⟩:=by
 obtain⟨kt',et,d,h1,h2,h3,h4,h5⟩:=kt.out
 obtain⟨es,cl,m1,m2,m3,m4,m5⟩:=hm
 have hlt:=get_some_lt m1
 rw[Hp_iff]
 unfold unitS Instr.mapUpdate
 rw[hp_bind',hp_bind',hp_underlying h1]
 simp only
 rw[hp_bind',hp_getMap m1]
 simp only
 rw[hp_bind',hp_checkKey h2 h3,hp_bind',hp_findKey h2 h4 m2]
 cases hf:findK k l 0 with
 | none =>
  simp only
  refine hp_setMap m1 ?_
  refine H _ ⟨es++[{ key:=kV k,val:=v,born:=cl }],cl+1,?_,?_,nodup_upd m3,?_,?_⟩ (Mod.put _ _ _)
  ·rw[get_put hlt];simp
  ·rw[push_upd hf];simp[m2]
  ·rw[List.map_append,List.pairwise_append]
   refine⟨m4,by simp,fun a ha b hb=>?_⟩
   obtain⟨e,he,rfl⟩:=List.mem_map.1 ha
   simp only[List.map_cons,List.map_nil,List.mem_singleton]at hb
   subst hb
   exact m5 e he
  ·intro e he
   rcases List.mem_append.1 he with he|he
   ·have:=m5 e he;omega
   ·simp only[List.mem_singleton]at he;subst he;exact Nat.lt_succ_self _
 | some p =>
  obtain⟨i,u⟩:=p
  have hat:=findK_at hf
  simp only[Nat.sub_zero]at hat
  have hi:i<es.length:=by
   have h6:=congrArg List.length m2
   simp only[List.length_map]at h6
   rw[h6];exact (List.getElem?_eq_some_iff.1 hat.2).1
  have hkey:es[i].key=kV k:=by
   have h6:=congrArg (fun x=>x[i]?) m2
   simp only[List.getElem?_map,hat.2,List.getElem?_eq_getElem hi,Option.map_some,Option.some.injEq,Prod.mk.injEq]at h6
   exact h6.1
  simp only
  unfold Instr.keyThatStays
  have hks:((es.toArray[i]?).map (·.key)).getD (kV k)=kV k:=by
   rw[List.getElem?_toArray,List.getElem?_eq_getElem hi]
   simp[hkey]
  rw[hks,hp_bind',if_pos (h5 _ _),hp_pure]
  refine hp_setMap m1 ?_
  refine H _ ⟨es.modify i (fun e=>{ e with key:=kV k,val:=v }),cl,?_,?_,nodup_upd m3,?_,?_⟩ (Mod.put _ _ _)
  ·rw[get_put hlt];simp
  ·have:=modify_upd (v:=v) m2 hf
   simpa using this
  ·rw[born_modify (f:=fun e=>{ e with key:=kV k,val:=v }) (fun _=>rfl)];exact m4
  ·intro e he
   have h6:e.born∈(es.modify i (fun e=>{ e with key:=kV k,val:=v })).map (·.born):=List.mem_map_of_mem he
   rw[born_modify (f:=fun e=>{ e with key:=kV k,val:=v }) (fun _=>rfl)]at h6
   obtain⟨e',he',h7⟩:=List.mem_map.1 h6
   have:=m5 e' he'
   omega
theorem Hp_makeMap{t:TypeId}:Hp P false (Instr.makeMap t none) K h ⟨⟩↔ValT h.size (fun b=>K (.map (some b)) (h.push (.map #[] 0))) ⟨⟩:=by
 rw[ValT_iff,Hp_iff]
 show (false=false/\K _ _)↔_
 simp
theorem MapK.new{b:Nat}(hb:b=h.size):MapK kV (h.push (.map #[] 0)) b [] :=
 ⟨[],0,get_pushed hb,rfl,by simp,by simp,by simp⟩
theorem Hp_lenMap{t ty:TypeId}{m:Nat}{l:List (κ×Value)}(hm:MapK kV h m l)(ht:(match P.underlying t with|some (.map _ _)=>true|_=>false)=true):Hp P q (Builtin.len_ #[t] ty #[.map (some m)]) K h ⟨⟩↔K (.int .i64 l.length) h:=by
 obtain⟨es,cl,m1,m2,m3,m4,m5⟩:=hm
 have h6:=congrArg List.length m2
 simp only[List.length_map]at h6
 rw[Hp_iff]
 unfold Builtin.len_
 simp only[List.getElem?_toArray,List.getElem?_cons_zero]
 cases hu:P.underlying t with
 | none=>rw[hu]at ht;cases ht
 | some d =>
  rw[hu]at ht
  cases d<;>first|(cases ht;done)|skip
  rw[hp_bind',hp_underlying hu]
  simp only
  rw[hp_bind',hp_getMap m1]
  simp only[List.size_toArray,h6]
  exact Iff.rfl
end
end
section
open Go
set_option linter.unusedSimpArgs false
set_option linter.unusedVariables false
set_option linter.unusedSectionVars false
section
variable {P:Program}{q:Bool}{K:VP}{h:Heap}{κ:Type}[DecidableEq κ]{kV:κ->Value}
def bornAt(es:List MapEntry)(i:Nat):Nat:=(es[i]?.map (·.born)).getD 0
def MapIt(kV:κ->Value)(h:Heap)(it m:Nat)(l:List (κ×Value))(I:List Nat):Prop :=
 ∃(es:List MapEntry) (cl:Nat),h[m]? = some (.map es.toArray cl)/\es.map (fun e=>(e.key,e.val))=l.map (fun p=>(kV p.1,p.2))/\(es.map (·.born)).Pairwise (· < ·)/\(∀e∈es,e.born<cl) /\
  h[it]? = some (.mapIter (some m) cl (I.map (bornAt es)).toArray cl)/\(∀i∈I,i<es.length)/\it≠m
theorem MapIt.mod{S:Nat->Prop}{h':Heap}{it m:Nat}{l:List (κ×Value)}{I:List Nat}(a:MapIt kV h it m l I)(e:Mod S h h')(h1:¬S it)(h2:¬S m):MapIt kV h' it m l I:=by
 obtain⟨es,cl,m1,m2,m4,m5,m6,m7,m8⟩:=a
 exact⟨es,cl,(e.block m (get_some_lt m1) h2).trans m1,m2,m4,m5,(e.block it (get_some_lt m6) h1).trans m6,m7,m8⟩
theorem hp_choose_map{n:Nat}(hn:0<n){K:Nat->Heap->Prop}(H:∀t,t<n->K t h):hp P false (choose (.mapNext n)) K h:=by
 show hp P false (.choose (.mapNext n) .pure) K h
 simp only[hp,Question.forced]
 by_cases h1:n<=1
 ·rw[if_pos (by simpa using h1)]
  exact H 0 hn
 ·rw[if_neg (by simpa using h1)]
  refine⟨trivial,fun t=>H _ ?_⟩
  simp only[Question.cut]
  exact Nat.mod_lt _ hn
theorem hp_getIter{r:Nat}{m:Option Nat}{c d:Nat}{s:Array Nat}{K:Obj->Heap->Prop}(hb:h[r]? = some (.mapIter m c s d)):hp P q (getObj r) K h↔K (.mapIter m c s d) h:=by
 unfold getObj
 simp only[hp,hb]
theorem hp_setIter{r:Nat}{o:Obj}{m:Option Nat}{c d:Nat}{s:Array Nat}{K:Unit->Heap->Prop}(hb:h[r]? = some (.mapIter m c s d))(H:K () (h.setIfInBounds r o)):hp P false (setObj r o) K h:=by
 show _/\_
 refine⟨rfl,?_⟩
 simp only[hb]
 exact H
theorem bornAt_eq{es:List MapEntry}{i:Nat}(hi:i<es.length):bornAt es i=es[i].born:=by
 unfold bornAt
 rw[List.getElem?_eq_getElem hi];rfl
theorem born_inj{es:List MapEntry}(hp:(es.map (·.born)).Pairwise (· < ·)){i j:Nat}(hi:i<es.length)(hj:j<es.length)(e:es[i].born=es[j].born):i=j:=by
 have:=List.pairwise_iff_getElem.1 hp
 rcases Nat.lt_trichotomy i j with h|h|h
 ·have:=this i j (by simpa using hi) (by simpa using hj) h;simp at this;omega
 ·exact h
 ·have:=this j i (by simpa using hj) (by simpa using hi) h;simp at this;omega
theorem Hp_range{t:TypeId}{kt et:TypeId}{m:Nat}{l:List (κ×Value)}(ht:P.underlying t=some (.map kt et))(hm:MapK kV h m l)
 (H:∀h',Ext h h'->MapIt kV h' h.size m l []->h'.size=h.size+1->K (.pointer (some ⟨h.size,0,none⟩)) h') :
 Hp P false (Instr.range t (.map (some m))) K h ⟨⟩:=by
 obtain⟨es,cl,m1,m2,m3,m4,m5⟩:=hm
 have hlt:=get_some_lt m1
 rw[Hp_iff]
 unfold Instr.range
 rw[hp_bind',hp_underlying ht]
 simp only
 rw[hp_bind',hp_getMap m1]
 simp only
 rw[hp_bind',hp_pure,hp_bind']
 show _/\_
 refine⟨rfl,?_⟩
 show K _ _
 refine H _ (push_ext (.refl _)) ⟨es,cl,?_,m2,m4,m5,?_,by simp,by omega⟩ sM
 ·rw[get_push hlt];exact m1
 ·simp
theorem Hp_next{it m:Nat}{l:List (κ×Value)}{I:List Nat}{ty:TypeId}(hm:MapIt kV h it m l I)
 (H1:∀i (hi:i<l.length),i∉I->∀h',Mod (· = it) h h'->MapIt kV h' it m l (I++[i])->K (.tuple #[.bool true,kV l[i].1,l[i].2]) h')
 (H0:(∀i,i<l.length->i∈I)->K (.tuple #[.bool false]) h):Hp P false (Instr.next (.pointer (some ⟨it,0,none⟩)) false ty) K h ⟨⟩:=by
 obtain⟨es,cl,m1,m2,m4,m5,m6,m7,m8⟩:=hm
 have hll:es.length=l.length:=by have:=congrArg List.length m2;simpa using this
 have hilt:=get_some_lt m6
 rw[Hp_iff]
 unfold Instr.next
 simp only
 rw[hp_bind',hp_getIter m6]
 simp only
 rw[hp_bind',hp_getMap m1]
 simp only
 have hno:(!(List.map (bornAt es) I).toArray.isEmpty && !es.toArray.isEmpty&&es.toArray.all (fun x=>decide (x.born>=cl)))=false:=by
  cases es with
  | nil=>simp
  | cons e es' =>
   have:=m5 e List.mem_cons_self
   simp;omega
 rw[if_neg (by rw[hno];simp)]
 generalize hL:es.toArray.filter (fun e => !(List.map (bornAt es) I).toArray.contains e.born)=left
 have hmem:∀e∈left,e∈es/\e.born∉List.map (bornAt es) I:=fun e he=>by
  rw[<-hL]at he
  simpa using he
 have hold:left.filter (fun e=>decide (e.born<cl))=left:=by
  rw[Array.filter_eq_self]
  intro e he
  simpa using m5 e (hmem e he).1
 have hnew:left.filter (fun e=>decide (e.born>=cl)) = #[]:=by
  rw[Array.filter_eq_empty_iff]
  intro e he
  have:=m5 e (hmem e he).1
  simp;omega
 rw[hold,hnew,Array.append_empty]
 by_cases hz:left = #[]
 ·have hall:∀i,i<l.length->i∈I:=fun i hi=>by
   have he:es[i]∉left:=by rw[hz];simp
   have:es[i].born∈List.map (bornAt es) I:=by
    by_cases hb:es[i].born∈List.map (bornAt es) I
    ·exact hb
    ·exact absurd (by rw[<-hL];simpa using hb) he
   obtain⟨j,hj,hjb⟩:=List.mem_map.1 this
   rw[bornAt_eq (m7 j hj)]at hjb
   rw[<-born_inj m4 (m7 j hj) omg hjb]
   exact hj
  subst hz
  rw[hp_bind']
  refine hp_choose_map sM fun t ht=>?_
  simp at ht
  subst ht
  simp
  exact H0 hall
 ·have hne:left.isEmpty=false:=by simpa using hz
  rw[hne,hp_bind']
  refine hp_choose_map (by simp;exact Nat.pos_of_ne_zero (fun e=>hz (Array.eq_empty_of_size_eq_zero e))) fun t ht=>?_
  simp at ht
  obtain⟨he,hb⟩:=hmem left[t] (Array.getElem_mem ht)
  obtain⟨i,hi,hie⟩:=List.mem_iff_getElem.1 he
  have hiI:i∉I:=fun hI=>hb (List.mem_map.2 ⟨i,hI,by rw[bornAt_eq hi,hie]⟩)
  have hkv:(left[t].key,left[t].val)=(kV (l[i]'omg).1,(l[i]'omg).2):=by
   have h6:=congrArg (fun x=>x[i]?) m2
   simp only[List.getElem?_map,List.getElem?_eq_getElem hi,List.getElem?_eq_getElem (show i<l.length by omega),Option.map_some,Option.some.injEq,hie]at h6
   exact h6
  have hc:(#[]++Array.map some left)[t]? = some (some left[t]):=by simp[ht]
  simp only[Bool.false_eq_true,if_false,hc]
  rw[hp_bind']
  refine hp_setIter m6 ?_
  show K _ _
  have hk1:left[t].key=kV (l[i]'omg).1:=(Prod.mk.inj hkv).1
  have hk2:left[t].val=(l[i]'omg).2:=(Prod.mk.inj hkv).2
  rw[hk1,hk2]
  refine H1 i omg hiI _ (Mod.put _ _ _) ⟨es,cl,?_,m2,m4,m5,?_,?_,m8⟩
  ·rw[get_putne omg];exact m1
  ·rw[get_put hilt]
   simp[bornAt_eq hi,hie]
  ·intro j hj
   rcases List.mem_append.1 hj with hj|hj
   ·exact m7 j hj
   ·rw[List.mem_singleton.1 hj];exact hi
theorem Hp_entry{it m:Nat}{l:List (κ×Value)}{I:List Nat}{i:Nat}(hm:MapIt kV h it m l (I++[i]))(hi:i<l.length) :
 Hp P q (Instr.entry (.pointer (some ⟨it,0,none⟩))) K h ⟨⟩↔K (.tuple #[kV l[i].1,l[i].2]) h:=by
 obtain⟨es,cl,m1,m2,m4,m5,m6,m7,m8⟩:=hm
 have hll:es.length=l.length:=by have:=congrArg List.length m2;simpa using this
 have hie:i<es.length:=by omega
 have hkv:(es[i].key,es[i].val)=(kV l[i].1,l[i].2):=by
  have h6:=congrArg (fun x=>x[i]?) m2
  simp only[List.getElem?_map,List.getElem?_eq_getElem hie,List.getElem?_eq_getElem hi,Option.map_some,Option.some.injEq]at h6
  exact h6
 have hfind:es.toArray.find? (fun e=>e.born==es[i].born)=some es[i]:=by
  rw[List.find?_toArray]
  rw[List.find?_eq_some_iff_getElem]
  refine⟨by simp,i,hie,rfl,fun j hj=>?_⟩
  have hne:¬es[j].born=es[i].born:=fun e=>by have:=born_inj m4 omg hie e;omega
  simpa using hne
 have hback:(List.map (bornAt es) (I++[i])).toArray.back? = some es[i].born:=by
  rw[List.map_append]
  simp[bornAt_eq hie]
 rw[Hp_iff]
 unfold Instr.entry
 simp only
 rw[hp_bind',hp_getIter m6]
 simp only[hback]
 rw[hp_bind',hp_getMap m1]
 simp only[bne_self_eq_false,Bool.false_eq_true,if_false,hfind]
 rw[show es[i].key=kV l[i].1 from (Prod.mk.inj hkv).1,show es[i].val=l[i].2 from (Prod.mk.inj hkv).2]
 exact Iff.rfl
end
end
section
open Go
set_option linter.unusedSimpArgs false
set_option linter.unusedVariables false
section
variable {P:Program}{K:VP}{h:Heap}
def Loose(h:Heap)(b:Nat):Prop:=∃arr e,h[b]? = some (.cells arr e)
def ptrT(P:Program)(t:TypeId):Bool:=match P.underlying t with
 | some (.pointer e)=>match P.info? e with
  | some i => !(Nat.beq i.size 0)
  | none=>false
 | _=>false
end
end
section
open Go
set_option linter.unusedSimpArgs false
set_option linter.unusedVariables false
section
variable {P:Program}{q:Bool}{K:VP}{h:Heap}
def ptrV(b:Nat):Value:=.pointer (some ⟨b,0,none⟩)
def OwnT(e s:Nat)(h:Heap)(v:Value)(vs:List Value):Prop :=
 (v = .slice none 0 0/\vs=[])\/∃b n c rest,v = .slice (some ⟨b,0,none⟩) n c/\vs.length=n*s/\n<=c/\h[b]? = some (.cells (vs++rest).toArray e)/\(vs++rest).length=c*s
theorem OwnT.nil{e s:Nat}:OwnT e s h (.slice none 0 0) []:=.inl ⟨rfl,rfl⟩
theorem OwnT.own{e s:Nat}{v:Value}{vs:List Value}(o:OwnT e s h v vs):OwnS s h v vs:=by
 rcases o with o|⟨b,n,c,rest,rfl,h1,h2,h3,h4⟩
 ·exact .inl o
 ·exact .inr ⟨b,n,c,rest,e,(0,0),rfl,h1,h2,h3,h4,fun i _ hh=>absurd hh.2 (Nat.not_lt_zero _)⟩
theorem OwnT.mod{e s:Nat}{S:Nat->Prop}{h':Heap}{v:Value}{vs:List Value}(o:OwnT e s h v vs)(m:Mod S h h')(hS:∀b,blkV v=some b->¬S b):OwnT e s h' v vs:=by
 rcases o with o|⟨b,n,c,rest,rfl,h1,h2,h3,h4⟩
 ·exact .inl o
 ·exact .inr ⟨b,n,c,rest,rfl,h1,h2,(m.block b (get_some_lt h3) (hS b rfl)).trans h3,h4⟩
theorem OwnT.ext{e s:Nat}{h':Heap}{v:Value}{vs:List Value}(o:OwnT e s h v vs)(x:Ext h h'):OwnT e s h' v vs:=o.mod (S:=fun _=>False) (.of_ext x) (fun _ _ x=>x)
theorem OwnT.tag{e s b:Nat}{v:Value}{vs:List Value}(o:OwnT e s h v vs)(hb:blkV v=some b):∃arr,h[b]? = some (.cells arr e):=by
 rcases o with ⟨rfl,-⟩|⟨b',n,c,rest,rfl,h1,h2,h3,h4⟩
 ·cases hb
 ·cases hb;exact⟨_,h3⟩
theorem OwnT.lt{e s b:Nat}{v:Value}{vs:List Value}(o:OwnT e s h v vs)(hb:blkV v=some b):b<h.size:=by
 obtain⟨arr,ha⟩:=o.tag hb
 exact get_some_lt ha
theorem OwnT.ne{e s b c e':Nat}{v:Value}{vs:List Value}{arr:Array Value}(o:OwnT e s h v vs)(hb:blkV v=some b)(hc:h[c]? = some (.cells arr e'))(hne:e≠e'):b≠c:=fun x=>by
 obtain⟨arr',ha⟩:=o.tag hb
 subst x;rw[ha]at hc;cases hc;exact hne rfl
theorem OwnT.neM{e s b c:Nat}{v:Value}{vs:List Value}{es:Array MapEntry}{cl:Nat}(o:OwnT e s h v vs)(hb:blkV v=some b)(hc:h[c]? = some (.map es cl)):b≠c:=fun x=>by
 obtain⟨arr',ha⟩:=o.tag hb
 subst x;rw[ha]at hc;cases hc
theorem OwnT.form{e s:Nat}{v:Value}{vs:List Value}(o:OwnT e s h v vs)(hs:0<s):∃a n c,v = .slice a n c/\vs.length=n*s/\n<=c/\(vs≠[]->∃b,a=some ⟨b,0,none⟩):=by
 rcases o with ⟨rfl,rfl⟩|⟨b,n,c,rest,rfl,h1,h2,h3,h4⟩
 ·exact⟨none,0,0,rfl,by simp,Nat.le_refl _,fun h=>absurd rfl h⟩
 ·exact⟨_,n,c,rfl,h1,h2,fun _=>⟨b,rfl⟩⟩
theorem OwnT.cell{e s b n c i:Nat}{vs:List Value}(o:OwnT e s h (.slice (some ⟨b,0,none⟩) n c) vs)(hi:i<vs.length):hcell h ⟨b,i,none⟩=some vs[i]/\hfrozen h ⟨b,i,none⟩=false:=by
 rcases o with ⟨hv,-⟩|⟨b',n',c',rest,hv,h1,h2,h3,h4⟩
 ·cases hv
 ·cases hv
  constructor
  ·rw[hcell_of_block h3]
   simp[hi,List.getElem?_append_left]
  ·rw[hfrozen_of_block h3];simp
theorem OwnT.elt{e s b n c i:Nat}{vs:List Value}(o:OwnT e s h (.slice (some ⟨b,0,none⟩) n c) vs)(hi:i<vs.length):hcell h (elt ⟨b,0,none⟩ i)=some vs[i]/\hfrozen h (Go.Vc.elt ⟨b,0,none⟩ i)=false:=by
 rw[elt_mk,Nat.zero_add];exact o.cell hi
theorem OwnT.set{e s b n c i:Nat}{vs:List Value}{u:Value}(o:OwnT e s h (.slice (some ⟨b,0,none⟩) n c) vs)(hi:i<vs.length):OwnT e s (hset h ⟨b,i,none⟩ u) (.slice (some ⟨b,0,none⟩) n c) (vs.set i u):=by
 rcases o with ⟨hv,-⟩|⟨b',n',c',rest,hv,h1,h2,h3,h4⟩
 ·cases hv
 ·cases hv
  refine .inr ⟨b,n,c,rest,rfl,by simpa using h1,h2,?_,by simpa using h4⟩
  rw[hset_of_block h3,get_put (get_some_lt h3)]
  congr 2
  apply Array.ext'
  simp[List.set_append,hi]
theorem OwnT.setE{e s b n c i:Nat}{vs:List Value}{u:Value}(o:OwnT e s h (.slice (some ⟨b,0,none⟩) n c) vs)(hi:i<vs.length):OwnT e s (hset h (Go.Vc.elt ⟨b,0,none⟩ i) u) (.slice (some ⟨b,0,none⟩) n c) (vs.set i u):=by
 rw[elt_mk,Nat.zero_add];exact o.set hi
def concT(P:Program)(t:TypeId):Bool:=match P.underlying t with|some (.interface _)=>false|none=>false|some _=>true
theorem Src_new{vs:List Value}{e s n:Nat}(hv:vs.length=n*s):Src s (h.push (.cells vs.toArray e)) (.slice (some ⟨h.size,0,none⟩) n n) n vs :=
 .inr (.inl ⟨⟨h.size,0,none⟩,n,rfl,hv,Seg_new rfl⟩)
theorem obj_set{b i:Nat}{arr:Array Value}{t:TypeId}{v:Value}(hb:h[b]? = some (.cells arr t)):(hset h ⟨b,i,none⟩ v)[b]? = some (.cells (arr.setIfInBounds i v) t):=by
 rw[hset_of_block hb,get_put (get_some_lt hb)]
theorem InvokeH_k1{g:FuncId}{a c1:Value}(hc:callOk P g=true)(H:CallsH P g #[a,c1] h K ⟨⟩):InvokeH P (.func (.func g) #[] #[c1]) #[a] h K ⟨⟩:=InvokeH_func hc (by simpa using H)
theorem InvokeH_f1k1{g:FuncId}{a f1:Value}(hc:callOk P g=true)(H:CallsH P g #[f1,a] h K ⟨⟩):InvokeH P (.func (.func g) #[f1] #[]) #[a] h K ⟨⟩:=InvokeH_func hc (by simpa using H)
theorem Hp_appendT{t t2 e s by_ n k:Nat}{v x:Value}{vs news:List Value}(ht:slT P t e s by_=true)(ht2:notInt P t2=true)(ho:OwnT e s h v vs)(hn:vs.length=n*s)(hs:0<s)(hx:Src s h x k news)(hone:∀u∈news,one u=true)
 (hB:(2*(n+k)+1024)*by_<=281474976710656) (hb0:0<by_)
 (H:∀v' h',OwnT e s h' v' (vs++news)->Mod (fun b=>blkV v=some b) h h'->(∀b,blkV v'=some b->blkV v=some b\/h.size<=b)->(news≠[]->∃b c,v' = .slice (some ⟨b,0,none⟩) (n+k) c)->K v' h') :
 Hp P false (Builtin.append_ #[t,t2] t #[v,x]) K h ⟨⟩:=by
 obtain⟨i,z,hu,hi,hsz,hby,hz,hzs⟩:=slT_spec ht
 rw[Hp_iff]
 have hnl:=hx.len
 obtain⟨base,c,hv,hown⟩:∃base c,v = .slice base n c/\(base=none/\vs=[]/\n=0/\c=0\/∃b rest,base=some ⟨b,0,none⟩/\n<=c/\h[b]? = some (.cells (vs++rest).toArray e)/\(vs++rest).length=c*s):=by
  rcases ho with ⟨rfl,rfl⟩|⟨b,n',c,rest,rfl,h1,h2,h3,h4⟩
  ·have:n=0:=by
    rcases Nat.eq_zero_or_pos n with h|h
    ·exact h
    ·have:=Nat.mul_pos h hs;simp at hn;omega
   subst this
   exact⟨none,0,rfl,.inl ⟨rfl,rfl,rfl,rfl⟩⟩
  ·have:n'=n:=Nat.eq_of_mul_eq_mul_right hs (h1.symm.trans hn)
   subst this
   exact⟨_,c,rfl,.inr ⟨b,rest,rfl,h2,h3,h4⟩⟩
 subst hv
 have hz2:∀(K:TypeDesc->Heap->Prop),∃d,(hp P false (underlying t2) K h↔K d h)/\∀k,d ≠ .int k:=by
  intro K
  unfold notInt at ht2
  cases hu2:P.underlying t2 with
  | none=>rw[hu2]at ht2;cases ht2
  | some d =>
   rw[hu2]at ht2
   exact⟨d,hp_underlying hu2,fun k e=>by rw[e]at ht2;cases ht2⟩
 unfold Builtin.append_
 simp only[List.getElem?_toArray,List.getElem?_cons_succ,List.getElem?_cons_zero,List.getElem_toArray,List.getElem_cons_succ,List.getElem_cons_zero]
 rw[hp_bind',hp_underlying hu]
 simp only
 rw[hp_bind',hp_sizeOf hi]
 rw[hp_bind']
 obtain⟨d,hd,hnd⟩:=hz2 _
 rw[hd]
 split
 ·exact absurd rfl (hnd _)
 simp only[pure_bind,Bool.false_eq_true,if_false,Bool.not_false,if_true,false_or]
 rw[hp_bind',hp_lenOf hx]
 by_cases hcap:n+k<=c
 ·rw[if_pos hcap]
  rw[hp_bind',hsz,hp_firstCells hx (Nat.le_refl _),<-hnl,List.take_length]
  rcases hown with ⟨rfl,rfl,rfl,rfl⟩|⟨b,rest,rfl,h2,h3,h4⟩
  ·have hk0:k=0:=by omega
   subst hk0
   have hnews:news=[]:=by simpa using hnl
   subst hnews
   exact H _ h (.inl ⟨rfl,rfl⟩) (.refl _ _) (fun b hb=>by cases hb) (fun hh=>absurd rfl hh)
  ·simp only
   rw[hp_bind']
   have hlen:vs.length+news.length<=(vs++rest).length:=by
    rw[h4,hn,hnl,<-Nat.add_mul];exact Nat.mul_le_mul_right _ hcap
   have hrest:news.length<=rest.length:=by simp at hlen;omega
   rw[<-hn]
   refine hp_storeCells_own h3 (fun i _ hh=>absurd hh.2 (Nat.not_lt_zero _)) hlen (by simpa using hone) ?_
   refine H _ _ (.inr ⟨b,n+k,c,rest.drop news.length,rfl,by simp[hn,hnl,Nat.add_mul],hcap,?_,?_⟩) ((Mod.write _ news h vs.length).mono (fun _ _ e=>by rw[e];rfl)) (fun b' hb'=>.inl hb') (fun _=>⟨b,c,rfl⟩)
   ·rw[hwrite_of_block news h vs.length (vs++rest) h3 hlen]
    congr 3
    unfold over
    rw[List.take_append_of_le_length (Nat.le_refl _),List.take_length,List.drop_append,List.drop_eq_nil_of_le (Nat.le_add_right _ _),List.nil_append,Nat.add_sub_cancel_left]
   ·simp only[List.length_append,List.length_drop];rw[<-h4];simp;omega
 ·rw[if_neg hcap]
  have hlt:c<n+k:=by omega
  have hcapb:=nextcap_le hlt
  have hNB:Builtin.nextslicecap (n+k) c*by_<=281474976710656:=Nat.le_trans (Nat.mul_le_mul_right _ hcapb) hB
  have hsmall:n+k<140737488355328:=by
   have h1:(2*(n+k)+1024)*1<=(2*(n+k)+1024)*by_:=Nat.mul_le_mul_left _ hb0
   omega
  rw[hp_bind',hp_info hi]
  rw[if_neg (by rw[hby];rintro⟨_,h0⟩;omega)]
  rw[hp_bind',hp_info hi]
  rw [if_neg (by rw [hby]; have:(2:Nat)^48=281474976710656:=by decide
                 omega)]
  rw[hp_bind']
  refine choose_cap (by have:(2:Nat)^63=9223372036854775808:=by decide
                        omega) fun nc hnc=>?_
  rw[hp_bind',hp_info hi,hp_bind',hp_askRoom]
  have hsrc:Src s h (.slice base n c) n vs:=by
   rcases hown with ⟨rfl,rfl,rfl,rfl⟩|⟨b,rest,rfl,h2,h3,h4⟩
   ·exact .inl ⟨rfl,rfl,rfl⟩
   ·exact .inr (.inl ⟨_,_,rfl,hn,ho.own.seg.2.2⟩)
  rw[hp_bind',hsz,hp_firstCells hsrc (Nat.le_refl _),<-hn,List.take_length]
  rw[hp_bind',hp_firstCells hx (Nat.le_refl _),<-hnl,List.take_length]
  rw[hp_bind',hp_zeroValue hi hz,hp_bind']
  refine hp_newRow ?_
  have hrl:(Builtin.zeroCells z.cells (nc-(n+k))).toList.length=(nc-(n+k))*s:=by
   rw[Array.length_toList,zeroCells_size,hzs]
  have hcells:vs.toArray++news.toArray++Builtin.zeroCells z.cells (nc-(n+k))=((vs++news)++(Builtin.zeroCells z.cells (nc-(n+k))).toList).toArray:=by
   apply Array.ext';simp
  rw[hcells]
  refine H _ _ (.inr ⟨h.size,n+k,nc,(Builtin.zeroCells z.cells (nc-(n+k))).toList,rfl,by simp[hn,hnl,Nat.add_mul],hnc,by simp,?_⟩)
   (.push _ _ _) (fun b hb=>.inr (by cases hb;exact Nat.le_refl _)) (fun _=>⟨_,_,rfl⟩)
  rw[List.length_append,hrl,List.length_append,hn,hnl,<-Nat.add_mul,<-Nat.add_mul]
  congr 1;omega
theorem Hp_appP{t t2 e by_:Nat}{v u:Value}{vs:List Value}(ht:slT P t e 1 by_=true)(ht2:notInt P t2=true)(ho:OwnT e 1 h v vs)(hone:one u=true)(hB:(2*(vs.length+1)+1024)*by_<=281474976710656)(hb0:0<by_)
 (H:∀v' h',OwnT e 1 h' v' (vs++[u])->Mod (fun b=>blkV v=some b) h h'->(∀b,blkV v'=some b->blkV v=some b\/h.size<=b)->K v' h') :
 Hp P false (Builtin.append_ #[t,t2] t #[v,.slice (some ⟨h.size,0,none⟩) 1 1]) K (h.push (.cells #[u] e)) ⟨⟩:=by
 have hbs:Ext h (h.push (.cells #[u] e)):=push_ext (.refl h)
 refine Hp_appendT (e:=e) (by_:=by_) ht ht2 (ho.ext hbs) (by rw[Nat.mul_one]) omg (Src_new (vs:=[u]) rfl) (by simpa using hone) hB hb0 fun v' h3 hO hM hF _=>?_
 exact H v' h3 hO ((Mod.of_ext hbs).trans hM (fun _ _ e=>e)) (fun b hb=>(hF b hb).imp (fun e=>e) (fun e=>by simp at e;omega))
end
end
section
open Go
set_option linter.unusedSimpArgs false
set_option linter.unusedVariables false
set_option linter.unusedSectionVars false
section
variable {P:Program}{q:Bool}{K:VP}{h:Heap}
def StrIt(h:Heap)(it:Nat)(l:List UInt8)(i:Nat):Prop:=h[it]? = some (.stringIter ⟨⟨l⟩⟩ i)
def isStrB(P:Program)(t:TypeId):Bool:=match P.underlying t with|some .string=>true|_=>false
def arrB(P:Program)(t n:Nat):Bool:=match P.underlying t with
 | some (.array m e)=>(m==n)&&(match P.underlying e with|some (.int .u8)=>true|_=>false)&&(match P.info? e with|some i=>i.size==1|none=>false) && !P.eqGuardType P.depth t
 | _=>false
end
end
section
open Go
set_option linter.unusedSimpArgs false
set_option linter.unusedVariables false
set_option linter.unusedSectionVars false
section
variable {P:Program}{q:Bool}{K:VP}{h:Heap}
theorem Hp_shlW{t:TypeId}{x y:Operand}{k':IntKind}{a:Int}{b w:Nat}(hw:2^b=w)(hb:b<64)(h0:0<=a)(h1:a*w<9223372036854775808):Hp P q (binS .shl t x y (.int .i64 a) (.int k' (b:Int))) K h ⟨⟩↔ValI (a*(w:Int)) (fun n=>K (.int .i64 n) h) ⟨⟩:=by
 rw[Hp_shl omg]
 have e1:min ((b:Int).toNat) IntKind.i64.bits=b:=by
  rw[Int.toNat_natCast];exact Nat.min_eq_left (by show b<=64;omega)
 have e2:((2:Int)^b)=(w:Int):=by rw[<-hw];simp
 rw[e1,e2]
 have:IntKind.i64.wrap (a*w)=a*w:=wrap_i64 (by have:=Int.mul_nonneg h0 (Int.natCast_nonneg w);omega) h1
 rw[this]
theorem Hp_shrW{t:TypeId}{x y:Operand}{k':IntKind}{a:Int}{b w:Nat}(hw:2^b=w)(hb:b<64)(h0:0<=a):Hp P q (binS .shr t x y (.int .i64 a) (.int k' (b:Int))) K h ⟨⟩↔ValI (a/(w:Int)) (fun n=>K (.int .i64 n) h) ⟨⟩:=by
 rw[Hp_shr omg]
 have e1:min ((b:Int).toNat) IntKind.i64.bits=b:=by
  rw[Int.toNat_natCast];exact Nat.min_eq_left (by show b<=64;omega)
 have e2:((2:Int)^b)=(w:Int):=by rw[<-hw];simp
 rw[e1,e2,Int.fdiv_eq_ediv_of_nonneg _ omg]
end
end
section
open Go
set_option linter.unusedSimpArgs false
set_option linter.unusedVariables false
set_option linter.unusedSectionVars false
section
variable {P:Program}{q:Bool}{K:VP}{h:Heap}
def blkG:Value->Option Nat
 | .slice (some a) _ (_+1)=>some a.block
 | _=>none
def OwnG(e s:Nat)(h:Heap)(v:Value)(vs:List Value):Prop :=
 (∃a,v = .slice a 0 0/\vs=[])\/∃b o n c pre rest,v = .slice (some ⟨b,o,none⟩) n (c+1)/\vs.length=n*s/\n<=c+1/\pre.length=o/\h[b]? = some (.cells (pre++vs++rest).toArray e)/\o+(c+1)*s<=(pre++vs++rest).length
theorem OwnG.nil{e s:Nat}{a:Option Addr}:OwnG e s h (.slice a 0 0) []:=.inl ⟨a,rfl,rfl⟩
theorem OwnT.g{e s:Nat}{v:Value}{vs:List Value}(o:OwnT e s h v vs):OwnG e s h v vs:=by
 rcases o with ⟨rfl,rfl⟩|⟨b,n,c,rest,rfl,h1,h2,h3,h4⟩
 ·exact .inl ⟨_,rfl,rfl⟩
 ·cases c with
  | zero =>
   have:n=0:=by omega
   subst this
   have:vs=[]:=by simpa using h1
   exact .inl ⟨_,rfl,this⟩
  | succ c=>exact .inr ⟨b,0,n,c,[],rest,rfl,h1,h2,rfl,h3,by simpa using Nat.le_of_eq h4.symm⟩
theorem OwnG.mod{e s:Nat}{S:Nat->Prop}{h':Heap}{v:Value}{vs:List Value}(o:OwnG e s h v vs)(m:Mod S h h')(hS:∀b,blkG v=some b->¬S b):OwnG e s h' v vs:=by
 rcases o with o|⟨b,o,n,c,pre,rest,rfl,h1,h2,h3,h4,h5⟩
 ·exact .inl o
 ·exact .inr ⟨b,o,n,c,pre,rest,rfl,h1,h2,h3,(m.block b (get_some_lt h4) (hS b rfl)).trans h4,h5⟩
theorem OwnG.ext{e s:Nat}{h':Heap}{v:Value}{vs:List Value}(o:OwnG e s h v vs)(x:Ext h h'):OwnG e s h' v vs:=o.mod (S:=fun _=>False) (.of_ext x) (fun _ _ x=>x)
theorem OwnG.tag{e s b:Nat}{v:Value}{vs:List Value}(o:OwnG e s h v vs)(hb:blkG v=some b):∃arr,h[b]? = some (.cells arr e):=by
 rcases o with ⟨a,rfl,-⟩|⟨b',o,n,c,pre,rest,rfl,h1,h2,h3,h4,h5⟩
 ·cases a<;>cases hb
 ·cases hb;exact⟨_,h4⟩
theorem OwnG.lt{e s b:Nat}{v:Value}{vs:List Value}(o:OwnG e s h v vs)(hb:blkG v=some b):b<h.size:=by
 obtain⟨arr,ha⟩:=o.tag hb
 exact get_some_lt ha
theorem OwnG.ne{e s b c e':Nat}{v:Value}{vs:List Value}{arr:Array Value}(o:OwnG e s h v vs)(hb:blkG v=some b)(hc:h[c]? = some (.cells arr e'))(hne:e≠e'):b≠c:=fun x=>by
 obtain⟨arr',ha⟩:=o.tag hb
 subst x;rw[ha]at hc;cases hc;exact hne rfl
theorem OwnG.neM{e s b c:Nat}{v:Value}{vs:List Value}{es:Array MapEntry}{cl:Nat}(o:OwnG e s h v vs)(hb:blkG v=some b)(hc:h[c]? = some (.map es cl)):b≠c:=fun x=>by
 obtain⟨arr',ha⟩:=o.tag hb
 subst x;rw[ha]at hc;cases hc
theorem OwnG.form{e s:Nat}{v:Value}{vs:List Value}(o:OwnG e s h v vs):∃a n c,v = .slice a n c/\vs.length=n*s/\n<=c/\(vs≠[]->∃b o,a=some ⟨b,o,none⟩):=by
 rcases o with ⟨a,rfl,rfl⟩|⟨b,o,n,c,pre,rest,rfl,h1,h2,h3,h4,h5⟩
 ·exact⟨a,0,0,rfl,by simp,Nat.le_refl _,fun h=>absurd rfl h⟩
 ·exact⟨_,n,c+1,rfl,h1,h2,fun _=>⟨b,o,rfl⟩⟩
theorem OwnG.cell{e s n c i:Nat}{a:Addr}{vs:List Value}(o:OwnG e s h (.slice (some a) n c) vs)(hi:i<vs.length):hcell h (elt a i)=some vs[i]/\hfrozen h (Go.Vc.elt a i)=false:=by
 rcases o with ⟨a,hv,rfl⟩|⟨b',o',n',c',pre,rest,hv,h1,h2,h3,h4,h5⟩
 ·cases hi
 ·cases hv
  subst h3
  rw[elt_mk]
  constructor
  ·rw[hcell_of_block h4]
   simp[hi,List.getElem?_append_right,List.getElem?_append_left,List.append_assoc]
  ·rw[hfrozen_of_block h4];simp
theorem OwnG.seg{e s n c:Nat}{a:Addr}{vs:List Value}(o:OwnG e s h (.slice (some a) n c) vs):Seg h a vs:=fun i hi=>(o.cell hi).1
theorem OwnG.src{e s n c:Nat}{a:Option Addr}{vs:List Value}(o:OwnG e s h (.slice a n c) vs):Src s h (.slice a n c) n vs:=by
 cases a with
 | none =>
  rcases o with ⟨a,hv,rfl⟩|⟨b',o',n',c',pre,rest,hv,h1,h2,h3,h4,h5⟩
  ·cases hv;exact .inl ⟨rfl,rfl,rfl⟩
  ·cases hv
 | some a =>
  refine .inr (.inl ⟨a,c,rfl,?_,o.seg⟩)
  obtain⟨a',n',c',hv,h1,_⟩:=o.form
  cases hv;exact h1
theorem OwnG.bytes{e:Nat}{v:Value}{l:List UInt8}(o:OwnG e 1 h v (l.map byteV)):Bytes h v l:=by
 obtain⟨a,n,c,rfl,h1,h2,h3⟩:=o.form
 have hn:n=l.length:=by simpa using h1.symm
 subst hn
 cases a with
 | none =>
  rcases o with ⟨a,hv,hl⟩|⟨b',o',n',c',pre,rest,hv,_⟩
  ·have:l=[]:=by simpa using hl
   subst this
   simp at hv
   exact .inl ⟨by simp[hv.2],rfl⟩
  ·cases hv
 | some a=>exact .inr ⟨a,c,rfl,h2,At_seg.2 o.seg⟩
theorem Hp_appendG{t t2 e s by_ n k:Nat}{v x:Value}{vs news:List Value}(ht:slT P t e s by_=true)(ht2:notInt P t2=true)(ho:OwnG e s h v vs)(hn:vs.length=n*s)(hs:0<s)(hx:Src s h x k news)(hone:∀u∈news,one u=true)
 (hB:(2*(n+k)+1024)*by_<=281474976710656) (hb0:0<by_)
 (H:∀v' h',OwnG e s h' v' (vs++news)->Mod (fun b=>blkG v=some b) h h'->(∀b,blkG v'=some b->blkG v=some b\/h.size<=b)->(∀b,blkV v'=some b->blkV v=some b\/h.size<=b)->K v' h') :
 Hp P false (Builtin.append_ #[t,t2] t #[v,x]) K h ⟨⟩:=by
 obtain⟨i,z,hu,hi,hsz,hby,hz,hzs⟩:=slT_spec ht
 rw[Hp_iff]
 have hnl:=hx.len
 obtain⟨base,c,hv,hown⟩:∃base c,v = .slice base n c/\(vs=[]/\n=0/\c=0\/∃b o c' pre rest,base=some ⟨b,o,none⟩/\c=c'+1/\n<=c/\pre.length=o/\h[b]? = some (.cells (pre++vs++rest).toArray e)/\o+c*s<=(pre++vs++rest).length):=by
  rcases ho with ⟨a,rfl,rfl⟩|⟨b,o,n',c,pre,rest,rfl,h1,h2,h3,h4,h5⟩
  ·have:n=0:=by
    rcases Nat.eq_zero_or_pos n with h|h
    ·exact h
    ·have:=Nat.mul_pos h hs;simp at hn;omega
   subst this
   exact⟨a,0,rfl,.inl ⟨rfl,rfl,rfl⟩⟩
  ·have:n'=n:=Nat.eq_of_mul_eq_mul_right hs (h1.symm.trans hn)
   subst this
   exact⟨_,c+1,rfl,.inr ⟨b,o,c,pre,rest,rfl,rfl,h2,h3,h4,h5⟩⟩
 subst hv
 have hz2:∀(K:TypeDesc->Heap->Prop),∃d,(hp P false (underlying t2) K h↔K d h)/\∀k,d ≠ .int k:=by
  intro K
  unfold notInt at ht2
  cases hu2:P.underlying t2 with
  | none=>rw[hu2]at ht2;cases ht2
  | some d =>
   rw[hu2]at ht2
   exact⟨d,hp_underlying hu2,fun k e=>by rw[e]at ht2;cases ht2⟩
 unfold Builtin.append_
 simp only[List.getElem?_toArray,List.getElem?_cons_succ,List.getElem?_cons_zero,List.getElem_toArray,List.getElem_cons_succ,List.getElem_cons_zero]
 rw[hp_bind',hp_underlying hu]
 simp only
 rw[hp_bind',hp_sizeOf hi]
 rw[hp_bind']
 obtain⟨d,hd,hnd⟩:=hz2 _
 rw[hd]
 split
 ·exact absurd rfl (hnd _)
 simp only[pure_bind,Bool.false_eq_true,if_false,Bool.not_false,if_true,false_or]
 rw[hp_bind',hp_lenOf hx]
 by_cases hcap:n+k<=c
 ·rw[if_pos hcap]
  rw[hp_bind',hsz,hp_firstCells hx (Nat.le_refl _),<-hnl,List.take_length]
  rcases hown with ⟨rfl,rfl,rfl⟩|⟨b,o,c',pre,rest,rfl,rfl,h2,h3,h4,h5⟩
  ·have hk0:k=0:=by omega
   subst hk0
   have hnews:news=[]:=by simpa using hnl
   subst hnews
   cases base with
   | none=>exact H _ h (.inl ⟨_,rfl,rfl⟩) (.refl _ _) (fun b hb=>by cases hb) (fun b hb=>.inl hb)
   | some a =>
    simp only
    rw[hp_bind',hp_storeCells [] 0 _ h (fun v hv=>by cases hv)]
    exact H _ h (.inl ⟨_,rfl,rfl⟩) (.refl _ _) (fun b hb=>by cases hb) (fun b hb=>.inl hb)
  ·simp only
   rw[hp_bind']
   subst h3
   have hle:n*s+k*s<=(c'+1)*s:=by rw[<-Nat.add_mul];exact Nat.mul_le_mul_right _ hcap
   have hlen:pre.length+vs.length+news.length<=(pre++vs++rest).length:=by omega
   have hrest:news.length<=rest.length:=by simp at hlen;omega
   rw[<-hn]
   have ea:(⟨b,pre.length,none⟩:Addr).add vs.length=(⟨b,0,none⟩:Addr).add (pre.length+vs.length):=by
    show elt _ _=elt _ _
    rw[elt_mk,elt_mk,Nat.zero_add]
   rw[ea]
   refine hp_storeCells_own h4 (fun i _ hh=>absurd hh.2 (Nat.not_lt_zero _)) hlen (by simpa using hone) ?_
   refine H _ _ (.inr ⟨b,pre.length,n+k,c',pre,rest.drop news.length,rfl,by simp[hn,hnl,Nat.add_mul],hcap,rfl,?_,?_⟩) ((Mod.write _ news h _).mono (fun _ _ e=>by rw[e];rfl)) (fun b' hb'=>.inl hb') (fun b' hb'=>.inl hb')
   ·rw[hwrite_of_block news h (pre.length+vs.length) (pre++vs++rest) h4 hlen]
    congr 3
    unfold over
    have e1:pre.length+vs.length=(pre++vs).length:=by simp
    rw[e1,List.take_append_of_le_length (Nat.le_refl _),List.take_length,List.drop_append,List.drop_eq_nil_of_le (Nat.le_add_right _ _),List.nil_append,Nat.add_sub_cancel_left]
    simp only[List.append_assoc]
   ·simp only[List.length_append,List.length_drop]at h5 ⊢;omega
 ·rw[if_neg hcap]
  have hlt:c<n+k:=by omega
  have hcapb:=nextcap_le hlt
  have hNB:Builtin.nextslicecap (n+k) c*by_<=281474976710656:=Nat.le_trans (Nat.mul_le_mul_right _ hcapb) hB
  have hsmall:n+k<140737488355328:=by
   have h1:(2*(n+k)+1024)*1<=(2*(n+k)+1024)*by_:=Nat.mul_le_mul_left _ hb0
   omega
  rw[hp_bind',hp_info hi]
  rw[if_neg (by rw[hby];rintro⟨_,h0⟩;omega)]
  rw[hp_bind',hp_info hi]
  rw [if_neg (by rw [hby]; have:(2:Nat)^48=281474976710656:=by decide
                 omega)]
  rw[hp_bind']
  refine choose_cap (by have:(2:Nat)^63=9223372036854775808:=by decide
                        omega) fun nc hnc=>?_
  rw[hp_bind',hp_info hi,hp_bind',hp_askRoom]
  have hsrc:Src s h (.slice base n c) n vs:=ho.src
  rw[hp_bind',hsz,hp_firstCells hsrc (Nat.le_refl _),<-hn,List.take_length]
  rw[hp_bind',hp_firstCells hx (Nat.le_refl _),<-hnl,List.take_length]
  rw[hp_bind',hp_zeroValue hi hz,hp_bind']
  refine hp_newRow ?_
  have hrl:(Builtin.zeroCells z.cells (nc-(n+k))).toList.length=(nc-(n+k))*s:=by
   rw[Array.length_toList,zeroCells_size,hzs]
  have hcells:vs.toArray++news.toArray++Builtin.zeroCells z.cells (nc-(n+k))=((vs++news)++(Builtin.zeroCells z.cells (nc-(n+k))).toList).toArray:=by
   apply Array.ext';simp
  rw[hcells]
  obtain⟨nc',rfl⟩:∃m,nc=m+1:=⟨nc-1,by omega⟩
  refine H _ _ (.inr ⟨h.size,0,n+k,nc',[],(Builtin.zeroCells z.cells (nc'+1-(n+k))).toList,rfl,by simp[hn,hnl,Nat.add_mul],hnc,rfl,by simp,?_⟩)
   (.push _ _ _) (fun b hb=>.inr (by cases hb;exact Nat.le_refl _)) (fun b hb=>.inr (by cases hb;exact Nat.le_refl _))
  have:(n+k)*s+(nc'+1-(n+k))*s=(nc'+1)*s:=by rw[<-Nat.add_mul];congr 1;omega
  simp only[List.nil_append,List.length_append,hrl]
  rw[hn,hnl,<-Nat.add_mul]
  omega
theorem Hp_appendGZ{t t2 e by_ n k:Nat}{k':IntKind}{z:Value}{v:Value}{vs:List Value}(ht:slT P t e 1 by_=true)(ht2:isInt P t2=true)(hz0:zeroOf P e=some z)(hz1:one z=true)(ho:OwnG e 1 h v vs)(hn:vs.length=n)
 (hB:(2*(n+k)+1024)*by_<=281474976710656) (hb0:0<by_)
 (H:∀v' h',OwnG e 1 h' v' (vs++List.replicate k z)->Mod (fun b=>blkG v=some b) h h'->(∀b,blkG v'=some b->blkG v=some b\/h.size<=b)->(∀b,blkV v'=some b->blkV v=some b\/h.size<=b)->K v' h') :
 Hp P false (Builtin.append_ #[t,t2] t #[v,.int k' (k:Int)]) K h ⟨⟩:=by
 obtain⟨i,z',hu,hi,hsz,hby,hz,hzs⟩:=slT_spec ht
 have hzz:z'=z:=by
  unfold zeroOf at hz0
  rw[hi]at hz0
  simp only at hz0
  rw[hz]at hz0;cases hz0;rfl
 subst hzz
 obtain⟨news,hnews⟩:∃news,news=List.replicate k z':=⟨_,rfl⟩
 rw[<-hnews]at H
 have hcs:z'.cells = #[z']:=by cases z'<;>first|rfl|cases hz1
 have hone:∀u∈news,one u=true:=by rw[hnews];intro u hu;rw[(List.mem_replicate.1 hu).2];exact hz1
 have ez:Builtin.zeroCells z'.cells k=news.toArray:=by
  rw[hcs,hnews]
  apply Array.ext'
  apply List.ext_getElem
  ·simp[Builtin.zeroCells]
  ·intro j h1 h2
   simp[Builtin.zeroCells,Nat.mod_one]
 rw[Hp_iff]
 have hnl:news.length=k:=by rw[hnews];simp
 have hk63:(k:Int)<140737488355328:=by
  have h1:(2*(n+k)+1024)*1<=(2*(n+k)+1024)*by_:=Nat.mul_le_mul_left _ hb0
  omega
 have hkb:(k:Int)*by_<=281474976710656:=by
  have h1:k*by_<=(2*(n+k)+1024)*by_:=Nat.mul_le_mul_right _ omg
  have h2:=Nat.le_trans h1 hB
  have h3:((k*by_:Nat):Int)<=281474976710656:=by omega
  rwa[Int.natCast_mul]at h3
 obtain⟨base,c,hv,hown⟩:∃base c,v = .slice base n c/\(vs=[]/\n=0/\c=0\/∃b o c' pre rest,base=some ⟨b,o,none⟩/\c=c'+1/\n<=c/\pre.length=o/\h[b]? = some (.cells (pre++vs++rest).toArray e)/\o+c<=(pre++vs++rest).length):=by
  rcases ho with ⟨a,rfl,rfl⟩|⟨b,o,n',c,pre,rest,rfl,h1,h2,h3,h4,h5⟩
  ·have:n=0:=by simpa using hn.symm
   subst this
   exact⟨a,0,rfl,.inl ⟨rfl,rfl,rfl⟩⟩
  ·have:n'=n:=by omega
   subst this
   exact⟨_,c+1,rfl,.inr ⟨b,o,c,pre,rest,rfl,rfl,h2,h3,h4,by omega⟩⟩
 subst hv
 have hz2:∀(K:TypeDesc->Heap->Prop),∃d k0,(hp P false (underlying t2) K h↔K d h)/\d = .int k0:=by
  intro K
  unfold isInt at ht2
  cases hu2:P.underlying t2 with
  | none=>rw[hu2]at ht2;cases ht2
  | some d =>
   rw[hu2]at ht2
   cases d<;>first|(cases ht2;done)|exact⟨_,_,hp_underlying hu2,rfl⟩
 unfold Builtin.append_
 simp only[List.getElem?_toArray,List.getElem?_cons_succ,List.getElem?_cons_zero,List.getElem_toArray,List.getElem_cons_succ,List.getElem_cons_zero]
 rw[hp_bind',hp_underlying hu]
 simp only
 rw[hp_bind',hp_sizeOf hi]
 rw[hp_bind']
 obtain⟨d,k0,hd,rfl⟩:=hz2 _
 rw[hd]
 simp only[pure_bind,Bool.false_eq_true,if_false,Bool.not_true,if_true,true_or,and_true]
 rw[hp_bind',hp_asInt,wrap_i64 omg omg]
 rw[if_neg omg,hp_bind',hp_info hi]
 have e1:(2:Int)^48=281474976710656:=by decide
 rw[if_neg (by rw[hby,e1];omega)]
 simp only[Int.toNat_natCast]
 have happ:∀(K:Array Value->Heap->Prop),hp P false (if k*i.size=0 then pure #[] else do pure (Builtin.zeroCells (<-zeroValue e).cells k)) K h↔K news.toArray h:=by
  intro K
  split
  ·rename_i h0
   have:k=0:=by rw[hsz]at h0;omega
   rw[hnews,this];exact Iff.rfl
  ·rw[hp_bind',hp_zeroValue hi hz,ez];exact Iff.rfl
 by_cases hcap:n+k<=c
 ·rw[if_pos hcap]
  rw[hp_bind',happ]
  rw[hsz]
  rcases hown with ⟨rfl,rfl,rfl⟩|⟨b,o,c',pre,rest,rfl,rfl,h2,h3,h4,h5⟩
  ·have hk0:k=0:=by omega
   subst hk0
   have hnews:news=[]:=by simpa using hnl
   subst hnews
   cases base with
   | none=>exact H _ h (.inl ⟨_,rfl,rfl⟩) (.refl _ _) (fun b hb=>by cases hb) (fun b hb=>.inl hb)
   | some a =>
    simp only
    rw[hp_bind',hp_storeCells [] 0 _ h (fun v hv=>by cases hv)]
    exact H _ h (.inl ⟨_,rfl,rfl⟩) (.refl _ _) (fun b hb=>by cases hb) (fun b hb=>.inl hb)
  ·simp only
   rw[hp_bind',Nat.mul_one]
   subst h3
   have hlen:pre.length+vs.length+news.length<=(pre++vs++rest).length:=by omega
   have hrest:news.length<=rest.length:=by simp at hlen;omega
   rw[<-hn]
   have ea:(⟨b,pre.length,none⟩:Addr).add vs.length=(⟨b,0,none⟩:Addr).add (pre.length+vs.length):=by
    show elt _ _=elt _ _
    rw[elt_mk,elt_mk,Nat.zero_add]
   rw[ea]
   refine hp_storeCells_own h4 (fun i _ hh=>absurd hh.2 (Nat.not_lt_zero _)) hlen (by simpa using hone) ?_
   refine H _ _ (.inr ⟨b,pre.length,vs.length+k,c',pre,rest.drop news.length,rfl,by simp[hnl],by omega,rfl,?_,?_⟩) ((Mod.write _ news h _).mono (fun _ _ e=>by rw[e];rfl)) (fun b' hb'=>.inl hb') (fun b' hb'=>.inl hb')
   ·rw[hwrite_of_block news h (pre.length+vs.length) (pre++vs++rest) h4 hlen]
    congr 3
    unfold over
    have e1:pre.length+vs.length=(pre++vs).length:=by simp
    rw[e1,List.take_append_of_le_length (Nat.le_refl _),List.take_length,List.drop_append,List.drop_eq_nil_of_le (Nat.le_add_right _ _),List.nil_append,Nat.add_sub_cancel_left]
    simp only[List.append_assoc]
   ·simp only[List.length_append,List.length_drop]at h5 ⊢;omega
 ·rw[if_neg hcap]
  have hlt:c<n+k:=by omega
  have hcapb:=nextcap_le hlt
  have hNB:Builtin.nextslicecap (n+k) c*by_<=281474976710656:=Nat.le_trans (Nat.mul_le_mul_right _ hcapb) hB
  have hsmall:n+k<140737488355328:=by
   have h1:(2*(n+k)+1024)*1<=(2*(n+k)+1024)*by_:=Nat.mul_le_mul_left _ hb0
   omega
  rw[hp_bind',hp_info hi]
  rw [if_neg (by have:IntKind.i64.max=9223372036854775807:=by decide
                 omega)]
  rw[hp_bind',hp_info hi]
  rw [if_neg (by rw [hby]; have:(2:Nat)^48=281474976710656:=by decide
                 omega)]
  rw[hp_bind']
  refine choose_cap (by have:(2:Nat)^63=9223372036854775808:=by decide
                        omega) fun nc hnc=>?_
  rw[hp_bind',hp_info hi,hp_bind',hp_askRoom]
  have hsrc:Src 1 h (.slice base n c) n vs:=ho.src
  rw[hp_bind',hsz,hp_firstCells hsrc (Nat.le_refl _)]
  rw[hsz]at happ
  rw[hp_bind',happ,Nat.mul_one,<-hn,List.take_length]
  rw[hp_bind',hp_zeroValue hi hz,hp_bind']
  refine hp_newRow ?_
  rw[hn]
  have hrl:(Builtin.zeroCells z'.cells (nc-(n+k))).toList.length=nc-(n+k):=by
   rw[Array.length_toList,zeroCells_size,hzs,Nat.mul_one]
  have hcells:vs.toArray++news.toArray++Builtin.zeroCells z'.cells (nc-(n+k))=((vs++news)++(Builtin.zeroCells z'.cells (nc-(n+k))).toList).toArray:=by
   apply Array.ext';simp
  rw[hcells]
  obtain⟨nc',rfl⟩:∃m,nc=m+1:=⟨nc-1,by omega⟩
  refine H _ _ (.inr ⟨h.size,0,n+k,nc',[],(Builtin.zeroCells z'.cells (nc'+1-(n+k))).toList,rfl,by simp[hn,hnl],hnc,rfl,by simp,?_⟩)
   (.push _ _ _) (fun b hb=>.inr (by cases hb;exact Nat.le_refl _)) (fun b hb=>.inr (by cases hb;exact Nat.le_refl _))
  simp only[List.nil_append,List.length_append,hrl]
  omega
theorem Hp_appendGM{t t2 e by_ n k:Nat}{k':IntKind}{m:Int}{z:Value}{v:Value}{vs:List Value}(hm:m=(k:Int))(ht:slT P t e 1 by_=true)(ht2:isInt P t2=true)(hz0:zeroOf P e=some z)(hz1:one z=true)(ho:OwnG e 1 h v vs)(hn:vs.length=n)
 (hB:(2*(n+k)+1024)*by_<=281474976710656) (hb0:0<by_)
 (H:∀v' h',OwnG e 1 h' v' (vs++List.replicate k z)->Mod (fun b=>blkG v=some b) h h'->(∀b,blkG v'=some b->blkG v=some b\/h.size<=b)->(∀b,blkV v'=some b->blkV v=some b\/h.size<=b)->K v' h') :
 Hp P false (Builtin.append_ #[t,t2] t #[v,.int k' m]) K h ⟨⟩:=by
 subst hm
 exact Hp_appendGZ ht ht2 hz0 hz1 ho hn hB hb0 H
/-! ### Parts -/
theorem Hp_slcM{t s:Nat}{a:Option Addr}{len cap:Nat}{k k':IntKind}{hi mx:Int}(ht:slS P t s=true)(h1:0<=hi)(h2:hi<=mx)(h3:mx<=cap) :
 Hp P q (Instr.sliceAt t (.slice a len cap) none (some (.int k hi)) (some (.int k' mx))) K h ⟨⟩↔ValT hi.toNat (fun r=>ValT mx.toNat (fun c=>K (.slice a r c) h) ⟨⟩) ⟨⟩:=by
 obtain⟨e,i,ht,he,hs⟩:=slS_spec ht
 rw[Hp_iff,ValT_iff,ValT_iff]
 unfold Instr.sliceAt
 rw[hp_bind',hp_underlying ht]
 simp only
 unfold Instr.slice
 rw[hp_bind',hp_underlying ht]
 simp only
 have e1:Instr.sliceBounds true len cap none (some (.int k hi)) (some (.int k' mx))=pure (0,hi.toNat,mx.toNat):=by
  unfold Instr.sliceBounds
  simp only
  rw[sliceBound_eq omg h3,pure_bind,sliceBound_eq h1 omg]
  rfl
 rw[e1,hp_bind',hp_pure,hp_bind',hp_sizeOf he]
 simp only[Nat.zero_mul,Nat.sub_zero]
 cases a with
 | none=>simp only[Option.map_none,ite_self];exact Iff.rfl
 | some a =>
  have:a.add 0=a:=by show elt a 0=a;simp
  simp only[Option.map_some,this,ite_self];exact Iff.rfl
theorem OwnG.cut{e s n c hi mx:Nat}{a:Option Addr}{vs:List Value}(o:OwnG e s h (.slice a n c) vs)(h1:hi<=mx)(h2:mx<=c)(h3:hi<=n):OwnG e s h (.slice a hi mx) (vs.take (hi*s)):=by
 rcases o with ⟨a,hv,rfl⟩|⟨b',o',n',c',pre,rest,hv,g1,g2,g3,g4,g5⟩
 ·cases hv
  obtain rfl:mx=0:=by omega
  obtain rfl:hi=0:=by omega
  exact .inl ⟨_,rfl,by simp⟩
 ·cases hv
  cases mx with
  | zero =>
   obtain rfl:hi=0:=by omega
   exact .inl ⟨_,rfl,by simp⟩
  | succ mx =>
   have hks:hi*s<=n*s:=Nat.mul_le_mul_right _ h3
   have hms:(mx+1)*s<=(c'+1)*s:=Nat.mul_le_mul_right _ h2
   refine .inr ⟨b',o',hi,mx,pre,vs.drop (hi*s)++rest,rfl,by rw[List.length_take];omega,h1,g3,?_,?_⟩
   ·rw[<-List.append_assoc,List.append_assoc pre,List.take_append_drop];exact g4
   ·rw[<-List.append_assoc,List.append_assoc pre,List.take_append_drop];omega
theorem OwnG.drop{e s n c lo:Nat}{a:Addr}{vs:List Value}(o:OwnG e s h (.slice (some a) n c) vs)(h1:lo<=n):OwnG e s h (.slice (some (subS s a lo c)) (n-lo) (c-lo)) (vs.drop (lo*s)):=by
 rcases o with ⟨a,hv,rfl⟩|⟨b',o',n',c',pre,rest,hv,g1,g2,g3,g4,g5⟩
 ·cases hv
  obtain rfl:lo=0:=by omega
  exact .inl ⟨_,rfl,by simp⟩
 ·cases hv
  by_cases hlo:lo=c'+1
  ·subst hlo
   obtain rfl:n=c'+1:=by omega
   refine .inl ⟨_,by rw[Nat.sub_self],List.drop_eq_nil_of_le omg⟩
  ·obtain⟨k,hk⟩:∃k,c'+1-lo=k+1:=⟨c'-lo,by omega⟩
   have hks:lo*s<=n*s:=Nat.mul_le_mul_right _ h1
   rw[hk,subS_lt omg,elt_mk]
   have e2:o'+lo*s+(k+1)*s=o'+(c'+1)*s:=by
    rw[Nat.add_assoc,<-Nat.add_mul];congr 2;omega
   refine .inr ⟨b',o'+lo*s,n-lo,k,pre++vs.take (lo*s),rest,rfl,by rw[List.length_drop,g1,Nat.sub_mul],by omega,by rw[List.length_append,List.length_take];omega,?_,?_⟩
   ·rw[List.append_assoc pre,List.take_append_drop];exact g4
   ·rw[List.append_assoc pre,List.take_append_drop,e2];exact g5
theorem blk_drop{s n c lo:Nat}{a:Addr}{b:Nat}(hb:blkG (.slice (some (subS s a lo c)) (n-lo) (c-lo))=some b):blkG (.slice (some a) n c)=some b:=by
 cases c with
 | zero=>simp[blkG]at hb
 | succ c =>
  cases e:c+1-lo with
  | zero=>rw[e]at hb;cases hb
  | succ k=>rw[e]at hb;simpa[blkG]using hb
theorem blk_cut{n c hi mx:Nat}{a:Option Addr}{b:Nat}(h2:mx<=c)(hb:blkG (.slice a hi mx)=some b):blkG (.slice a n c)=some b:=by
 cases mx with
 | zero=>cases a<;>cases hb
 | succ mx =>
  obtain⟨k,rfl⟩:∃k,c=k+1:=⟨c-1,by omega⟩
  cases a<;>exact hb
theorem OwnG.over{e n c k:Nat}{a:Addr}{vs new:List Value}(o:OwnG e 1 h (.slice (some a) n c) vs)(hk:k+new.length<=vs.length):OwnG e 1 (hwrite h a k new) (.slice (some a) n c) (Vc.over vs k new):=by
 rcases o with ⟨a,hv,rfl⟩|⟨b',o',n',c',pre,rest,hv,g1,g2,g3,g4,g5⟩
 ·cases hv
  have:new=[]:=by simp at hk;exact hk.2
  subst this
  exact .inl ⟨_,rfl,by simp⟩
 ·cases hv
  subst g3
  have ea:(⟨b',pre.length,none⟩:Addr)=elt ⟨b',0,none⟩ pre.length:=by rw[elt_mk,Nat.zero_add]
  have hle:pre.length+k+new.length<=(pre++vs++rest).length:=by simp;omega
  have e3:Vc.over (pre++vs++rest) (pre.length+k) new=pre++Vc.over vs k new++rest:=by
   unfold Vc.over
   have hk1:k<=vs.length:=by omega
   rw[List.append_assoc pre vs rest,List.take_append,List.drop_append,List.take_of_length_le omg,List.drop_eq_nil_of_le omg]
   rw[show pre.length+k-pre.length=k by omega,show pre.length+k+new.length-pre.length=k+new.length by omega]
   rw[List.take_append_of_le_length hk1,List.drop_append_of_le_length hk]
   simp
  refine .inr ⟨b',pre.length,n,c',pre,rest,rfl,by rw[over_length hk];exact g1,g2,rfl,?_,?_⟩
  ·rw[ea,hwrite_elt,hwrite_of_block new h (pre.length+k) (pre++vs++rest) g4 hle,e3]
  ·simp only[List.length_append,over_length hk]at g5 ⊢;exact g5
theorem Hp_copyG{t t2 e n c lo m c':Nat}{a:Addr}{x:Value}{L s:List UInt8}(ht:slS P t 1=true)(o:OwnG e 1 h (.slice (some a) n c) (L.map byteV))(hlo:lo+m<=n)(hx:Bytes h x s)
 (H:∀h',OwnG e 1 h' (.slice (some a) n c) ((Vc.over L lo (s.take m)).map byteV)->Mod (fun b=>blkG (.slice (some a) n c)=some b) h h'->K (.int .i64 (min s.length m:Nat)) h') :
 Hp P false (Builtin.copy_ #[t,t2] 3 #[.slice (some (sub a lo c)) m c',x]) K h ⟨⟩:=by
 obtain⟨a0,n0,c0,hv,hl,hc,-⟩:=o.form
 cases hv
 have hl:L.length=n:=by simpa using hl
 by_cases hm:m=0
 ·subst hm
  refine Hp_copy ht (Src.of_bytes hx) (one_bytes s) (fun i hi=>by omega) (fun i hi=>by omega) ?_
  have:Vc.over L lo (s.take 0)=L:=by unfold Vc.over;simp
  rw[this]at H
  simpa[hwrite]using H h o (.refl _ _)
 have hlt:lo<c:=by omega
 refine Hp_copy ht (Src.of_bytes hx) (one_bytes s) (fun i hi=>?_) (fun i hi=>?_) ?_
 ·rw[elt_sub hlt,(o.cell (i:=lo+i) (by simp;omega)).1];rfl
 ·rw[elt_sub hlt,(o.cell (i:=lo+i) (by simp;omega)).2]
 ·rw[<-List.map_take,hwrite_sub hlt,Nat.add_zero]
  have o2:=o.over (k:=lo) (new:=(s.take m).map byteV) (by simp;omega)
  rw[<-over_map]at o2
  refine H _ o2 ((Mod.write a _ _ _).mono (fun b _ e=>?_))
  obtain⟨k,rfl⟩:∃k,c=k+1:=⟨c-1,by omega⟩
  rw[e];rfl
/-! ### Parts of slices that may be nil -/
def subO(s:Nat)(a:Option Addr)(lo c:Nat):Option Addr:=if c=lo then a else a.map (elt · (lo*s))
theorem subO_some{s:Nat}{a:Addr}{lo c:Nat}:subO s (some a) lo c=some (subS s a lo c):=by unfold subO subS;split<;>rfl
theorem Hp_slgNH{t s:Nat}{a:Option Addr}{len cap:Nat}{k:IntKind}{hi:Int}(ht:slS P t s=true)(h1:0<=hi)(h2:hi<=cap) :
 Hp P q (Instr.sliceAt t (.slice a len cap) none (some (.int k hi)) none) K h ⟨⟩↔ValT hi.toNat (fun r=>K (.slice a r cap) h) ⟨⟩:=by
 obtain⟨e,i,ht,he,hs⟩:=slS_spec ht
 rw[Hp_iff,ValT_iff]
 unfold Instr.sliceAt
 rw[hp_bind',hp_underlying ht]
 simp only
 unfold Instr.slice
 rw[hp_bind',hp_underlying ht]
 simp only
 rw[sliceBounds_eq rfl rfl (by simp[lowOf]) (by simpa[lowOf,highOf]using h1) (by simpa[highOf]using h2),hp_bind',hp_pure,hp_bind',hp_sizeOf he,hs]
 simp only[lowOf,highOf,Int.toNat_zero,Nat.zero_mul,Nat.sub_zero]
 cases a with
 | none=>simp only[Option.map_none,ite_self];exact Iff.rfl
 | some a =>
  have:a.add 0=a:=by show elt a 0=a;simp
  simp only[Option.map_some,this,ite_self];exact Iff.rfl
theorem Hp_slgLN{t s:Nat}{a:Option Addr}{len cap:Nat}{k:IntKind}{lo:Int}(ht:slS P t s=true)(h0:0<=lo)(h1:lo<=len)(hc:len<=cap) :
 Hp P q (Instr.sliceAt t (.slice a len cap) (some (.int k lo)) none none) K h ⟨⟩↔ValT lo.toNat (fun l=>K (.slice (subO s a l cap) (len-l) (cap-l)) h) ⟨⟩:=by
 obtain⟨e,i,ht,he,hs⟩:=slS_spec ht
 rw[Hp_iff,ValT_iff]
 unfold Instr.sliceAt
 rw[hp_bind',hp_underlying ht]
 simp only
 unfold Instr.slice
 rw[hp_bind',hp_underlying ht]
 simp only
 rw[sliceBounds_eq rfl rfl (by simpa[lowOf]using h0) (by simpa[lowOf,highOf]using h1) (by simpa[highOf]using hc),hp_bind',hp_pure,hp_bind',hp_sizeOf he,hs]
 simp only[lowOf,highOf,Int.toNat_natCast]
 exact Iff.rfl
theorem OwnG.dropO{e s n c lo:Nat}{a:Option Addr}{vs:List Value}(o:OwnG e s h (.slice a n c) vs)(h1:lo<=n):OwnG e s h (.slice (subO s a lo c) (n-lo) (c-lo)) (vs.drop (lo*s)):=by
 cases a with
 | none =>
  rcases o with ⟨a,hv,rfl⟩|⟨b',o',n',c',pre,rest,hv,_⟩
  ·cases hv
   obtain rfl:lo=0:=by omega
   exact .inl ⟨_,rfl,by simp⟩
  ·cases hv
 | some a=>rw[subO_some];exact o.drop h1
end
end
set_option linter.unusedSimpArgs false
set_option linter.unusedVariables false
section
structure Pc where
 at_:Nat
 b:List UInt8
structure Fl where
 name:List UInt8
 last:List UInt8
 ps:List Pc
def layP(l:List UInt8)(p:Pc):List UInt8:=over l p.at_ p.b
def layAll(l:List UInt8)(ps:List Pc):List UInt8:=ps.foldl layP l
def Fl.now(f:Fl):List UInt8:=layAll f.last f.ps
structure Pc.ok (p:Pc):Prop where
 pos:0<p.b.length
 one:p.at_%512+p.b.length<=512
def Pc.fit(n:Nat)(p:Pc):Prop:=p.at_+p.b.length<=n
structure Fl.ok (f:Fl):Prop where
 few:f.last.length<=268435456
 pc:∀p∈f.ps,p.ok/\p.fit f.last.length
theorem over_len{l new:List UInt8}{k:Nat}(h:k+new.length<=l.length):(over l k new).length=l.length:=over_length h
theorem layAll_nil(l:List UInt8):layAll l []=l:=rfl
theorem layAll_cons(l:List UInt8)(p:Pc)(ps:List Pc):layAll l (p::ps)=layAll (layP l p) ps:=rfl
theorem layAll_append(l:List UInt8)(ps qs:List Pc):layAll l (ps++qs)=layAll (layAll l ps) qs:=List.foldl_append
theorem layAll_len:∀{ps:List Pc} {l:List UInt8},(∀p∈ps,p.fit l.length)->(layAll l ps).length=l.length
 | [],l,_=>rfl
 | p::ps,l,h=>by
  have hp:p.fit l.length:=h p List.mem_cons_self
  have e:(layP l p).length=l.length:=over_len hp
  rw[layAll_cons,layAll_len (fun q hq=>by rw[e];exact h q (List.mem_cons_of_mem _ hq)),e]
theorem Fl.ok.now_len{f:Fl}(o:f.ok):f.now.length=f.last.length:=layAll_len fun p hp=>(o.pc p hp).2
theorem layAll_take{l:List UInt8}{ps:List Pc}{i:Nat}(hi:i<ps.length):layAll l (ps.take (i+1))=layP (layAll l (ps.take i)) ps[i]:=by
 rw[List.take_succ_eq_append_getElem hi,layAll_append];rfl
/-! ### Grown -/
def zeros(n:Nat):List UInt8:=List.replicate n 0
theorem zeros_len(n:Nat):(zeros n).length=n:=List.length_replicate
def growL(l:List UInt8)(n:Nat):List UInt8:=l++zeros (n-l.length)
theorem growL_len(l:List UInt8)(n:Nat):(growL l n).length=max l.length n:=by unfold growL;rw[List.length_append,zeros_len];omega
theorem growL_same{l:List UInt8}{n:Nat}(h:n<=l.length):growL l n=l:=by unfold growL zeros;rw[Nat.sub_eq_zero_of_le h];simp
theorem over_append{l z new:List UInt8}{k:Nat}(h:k+new.length<=l.length):over (l++z) k new=over l k new++z:=by
 unfold over
 rw[List.take_append_of_le_length omg,List.drop_append_of_le_length omg]
 simp
theorem layAll_grow{z:List UInt8}:∀{ps:List Pc} {l:List UInt8},(∀p∈ps,p.fit l.length)->layAll (l++z) ps=layAll l ps++z
 | [],l,_=>rfl
 | p::ps,l,h=>by
  have hp:p.fit l.length:=h p List.mem_cons_self
  have e:(layP l p).length=l.length:=over_len hp
  rw[layAll_cons,layAll_cons]
  have:layP (l++z) p=layP l p++z:=over_append hp
  rw[this,layAll_grow (fun q hq=>by rw[e];exact h q (List.mem_cons_of_mem _ hq))]
def Fl.grow(f:Fl)(n:Nat):Fl:={ f with last:=growL f.last n }
theorem Fl.ok.grow{f:Fl}(o:f.ok){n:Nat}(hn:n<=268435456):(f.grow n).ok:=by
 refine⟨?_,fun p hp=>?_⟩
 ·show (growL f.last n).length<=_
  rw[growL_len];have:=o.few;omega
 ·have h:=o.pc p hp
  refine⟨h.1,?_⟩
  have:=h.2
  unfold Pc.fit at *
  show _<=(growL f.last n).length
  rw[growL_len];omega
theorem Fl.ok.now_grow{f:Fl}(o:f.ok)(n:Nat):(f.grow n).now=growL f.now n:=by
 unfold Fl.now Fl.grow growL
 rw[layAll_grow (fun p hp=>(o.pc p hp).2),layAll_len (fun p hp=>(o.pc p hp).2)]
/-! ### Written -/
def Fl.add(f:Fl)(p:Pc):Fl:={ f with last:=growL f.last (p.at_+p.b.length),ps:=f.ps++[p] }
theorem Fl.ok.add{f:Fl}(o:f.ok){p:Pc}(hp:p.ok)(hn:p.at_+p.b.length<=268435456):(f.add p).ok:=by
 have g:=o.grow hn
 refine⟨g.few,fun q hq=>?_⟩
 rcases List.mem_append.1 hq with h|h
 ·exact g.pc q h
 ·simp at h;subst h
  refine⟨hp,?_⟩
  show _<=(growL f.last _).length
  rw[growL_len];omega
theorem Fl.ok.now_add{f:Fl}(o:f.ok)(p:Pc):(f.add p).now=over (growL f.now (p.at_+p.b.length)) p.at_ p.b:=by
 have:=o.now_grow (p.at_+p.b.length)
 show layAll (growL f.last _) (f.ps++[p])=_
 rw[layAll_append,layAll_cons,layAll_nil]
 unfold Fl.now Fl.grow at this
 dsimp only at this
 rw[this];rfl
def cutP(k:Nat)(b:List UInt8):List Pc :=
 if _h:b=[] then [] else ⟨k,b.take (512-k%512)⟩::cutP (k+min b.length (512-k%512)) (b.drop (512-k%512))
termination_by b.length
decreasing_by
 have:b.length≠0:=fun e=>_h (List.length_eq_zero_iff.1 e)
 rw[List.length_drop];omega
theorem cutP_nil(k:Nat):cutP k []=[]:=by rw[cutP];simp
theorem cutP_cons{k:Nat}{b:List UInt8}(h:b≠[]):cutP k b=⟨k,b.take (min b.length (512-k%512))⟩::cutP (k+min b.length (512-k%512)) (b.drop (min b.length (512-k%512))):=by
 rw[cutP,dif_neg h]
 have e1:b.take (512-k%512)=b.take (min b.length (512-k%512)):=by
  rcases Nat.le_total b.length (512-k%512) with h1|h1
  ·rw[Nat.min_eq_left h1,List.take_of_length_le h1,List.take_length]
  ·rw[Nat.min_eq_right h1]
 have e2:b.drop (512-k%512)=b.drop (min b.length (512-k%512)):=by
  rcases Nat.le_total b.length (512-k%512) with h1|h1
  ·rw[Nat.min_eq_left h1,List.drop_eq_nil_of_le h1,List.drop_length]
  ·rw[Nat.min_eq_right h1]
 rw[e1,e2]
def Fl.writes(f:Fl)(ps:List Pc):Fl:=ps.foldl Fl.add f
theorem cutP_ok:∀(n:Nat) {k:Nat} {b:List UInt8},b.length<=n->∀p∈cutP k b,p.ok/\k<=p.at_/\p.at_+p.b.length<=k+b.length
 | n,k,b,hb,p,hp=>by
  by_cases h:b=[]
  ·rw[h,cutP_nil]at hp;cases hp
  ·rw[cutP_cons h]at hp
   have hl:0<b.length:=List.length_pos_iff.2 h
   rcases List.mem_cons.1 hp with rfl|hp
   ·refine⟨⟨?_,?_⟩,?_,?_⟩<;>simp only[List.length_take]<;>omega
   ·cases n with
    | zero=>omega
    | succ n =>
     obtain⟨h1,h2,h3⟩:=cutP_ok n (by rw[List.length_drop];omega) p hp
     rw[List.length_drop]at h3
     exact⟨h1,by omega,by omega⟩
theorem cutP_few:∀(n:Nat) {k:Nat} {b:List UInt8},b.length<=n->(cutP k b).length<=(k%512+b.length+511)/512
 | n,k,b,hb=>by
  by_cases h:b=[]
  ·rw[h,cutP_nil];exact Nat.zero_le _
  ·rw[cutP_cons h,List.length_cons]
   have hl:0<b.length:=List.length_pos_iff.2 h
   by_cases hm:b.length<=512-k%512
   ·rw[Nat.min_eq_left hm,List.drop_length,cutP_nil,List.length_nil]
    omega
   ·rw[Nat.min_eq_right omg]
    cases n with
    | zero=>omega
    | succ n =>
     have:=cutP_few n (k:=k+(512-k%512)) (b:=b.drop (512-k%512)) (by rw[List.length_drop];omega)
     rw[List.length_drop]at this
     omega
theorem Fl.ok.writes:∀{ps:List Pc} {f:Fl},f.ok->(∀p∈ps,p.ok/\p.at_+p.b.length<=268435456)->(f.writes ps).ok
 | [],f,o,_=>o
 | p::ps,f,o,h=>by
  have:=h p List.mem_cons_self
  exact Fl.ok.writes (f:=f.add p) (ps:=ps) (o.add this.1 this.2) fun q hq=>h q (List.mem_cons_of_mem _ hq)
/-! ### Flushed -/
def Fl.flush(f:Fl)(n:Nat):Fl:={ f with last:=layAll f.last (f.ps.take n),ps:=f.ps.drop n }
theorem Fl.ok.flush{f:Fl}(o:f.ok)(n:Nat):(f.flush n).ok:=by
 have e:(layAll f.last (f.ps.take n)).length=f.last.length:=layAll_len fun p hp=>(o.pc p (List.mem_of_mem_take hp)).2
 refine⟨?_,fun p hp=>?_⟩
 ·show (layAll _ _).length<=_;rw[e];exact o.few
 ·show _/\Pc.fit (layAll _ _).length p
  rw[e];exact o.pc p (List.mem_of_mem_drop hp)
theorem now_flush(f:Fl)(n:Nat):(f.flush n).now=f.now:=by
 unfold Fl.now Fl.flush
 dsimp only
 rw[<-layAll_append,List.take_append_drop]
/-! ### Cut -/
def cutPc(n:Nat)(p:Pc):Option Pc:=if p.at_<n then some { p with b:=p.b.take (n-p.at_) } else none
def Fl.size(f:Fl)(n:Nat):Fl:={ f with last:=(growL f.last n).take n,ps:=f.ps.filterMap (cutPc n) }
theorem size_len(f:Fl)(n:Nat):(f.size n).last.length=n:=by
 show ((growL f.last n).take n).length=n
 rw[List.length_take,growL_len];omega
theorem Fl.ok.size{f:Fl}(o:f.ok){n:Nat}(hn:n<=268435456):(f.size n).ok:=by
 refine⟨by rw[size_len];exact hn,fun p hp=>?_⟩
 rw[size_len]
 obtain⟨q,hq,he⟩:=List.mem_filterMap.1 hp
 have h:=(o.pc q hq).1
 unfold cutPc at he
 split at he
 ·cases he
  have h1:=h.pos
  have h2:=h.one
  refine⟨⟨?_,?_⟩,?_⟩
  ·simp only[List.length_take];omega
  ·simp only[List.length_take];omega
  ·show _<=_;simp only[List.length_take];omega
 ·cases he
theorem take_over{l new:List UInt8}{k n:Nat}(h:k+new.length<=l.length):(over l k new).take n=if k<n then over (l.take n) k (new.take (n-k)) else l.take n:=by
 unfold over
 split
 ·rename_i hk
  rw[List.append_assoc,List.take_append,List.take_take,List.take_append,List.take_take]
  simp only[List.length_take]
  rw[Nat.min_eq_left (by omega:k<=l.length),Nat.min_eq_left (by omega:k<=n),Nat.min_eq_right (by omega:k<=n)]
  rw[List.append_assoc]
  congr 2
  rcases Nat.le_total (n-k) new.length with h1|h1
  ·rw[Nat.min_eq_left h1,show n-k-new.length=0 by omega]
   simp
   omega
  ·rw[Nat.min_eq_right h1,List.drop_take]
   congr 1;omega
 ·rename_i hk
  rw[List.append_assoc,List.take_append_of_le_length (by rw[List.length_take];omega),List.take_take,Nat.min_eq_left omg]
theorem take_layAll{n:Nat}:∀{ps:List Pc} {l:List UInt8},(∀p∈ps,p.fit l.length)->(layAll l ps).take n=layAll (l.take n) (ps.filterMap (cutPc n))
 | [],l,_=>rfl
 | p::ps,l,h=>by
  have hp:p.fit l.length:=h p List.mem_cons_self
  have e:(layP l p).length=l.length:=over_len hp
  rw[layAll_cons,take_layAll (fun q hq=>by rw[e];exact h q (List.mem_cons_of_mem _ hq))]
  have key:(layP l p).take n=_:=take_over (n:=n) hp
  rw[key,List.filterMap_cons]
  unfold cutPc
  split
  ·rename_i hk
   simp only[hk,if_true]
   rfl
  ·rename_i hk
   simp only[hk,if_false]
theorem Fl.ok.now_size{f:Fl}(o:f.ok)(n:Nat):(f.size n).now=(growL f.now n).take n:=by
 rw[<-o.now_grow n]
 unfold Fl.now Fl.grow Fl.size
 dsimp only
 rw[take_layAll]
 intro p hp
 have:=(o.pc p hp).2
 unfold Pc.fit at *
 rw[growL_len];omega
/-! ### Crashed -/
def picked:List Int->List Pc->List Pc
 | _,[]=>[]
 | [],_::_=>[]
 | k::ks,p::ps=>if k%2=1 then p::picked ks ps else picked ks ps
def Fl.crash(ks:List Int)(f:Fl):Fl:=⟨f.name,layAll f.last (picked ks f.ps),[]⟩
def crashAll:List Int->List Fl->List Fl
 | _,[]=>[]
 | ks,f::fs=>f.crash ks::crashAll (ks.drop f.ps.length) fs
theorem picked_sub:∀{ks:List Int} {ps:List Pc} {p:Pc},p∈picked ks ps->p∈ps
 | _,[],_,h=>by simp[picked]at h
 | [],_::_,_,h=>by simp[picked]at h
 | k::ks,q::ps,p,h=>by
  unfold picked at h
  split at h
  ·rcases List.mem_cons.1 h with rfl|h
   ·exact List.mem_cons_self
   ·exact List.mem_cons_of_mem _ (picked_sub h)
  ·exact List.mem_cons_of_mem _ (picked_sub h)
theorem picked_nil:∀ps:List Pc,picked [] ps=[]
 | []=>rfl
 | _::_=>rfl
theorem Fl.ok.crash{f:Fl}(o:f.ok)(ks:List Int):(f.crash ks).ok:=by
 refine⟨?_,fun p hp=>by cases hp⟩
 show (layAll _ _).length<=_
 rw[layAll_len fun p hp=>(o.pc p (picked_sub hp)).2]
 exact o.few
theorem Fl.ok.crash_len{f:Fl}(o:f.ok)(ks:List Int):(f.crash ks).last.length=f.last.length :=
 layAll_len fun p hp=>(o.pc p (picked_sub hp)).2
/-! ### A step's fate -/
def fateE:List (Int×Int)->Int
 | []=>0
 | (k,_)::_=>if k=1 then 5 else if k=2 then 6 else 0
def fateK:List (Int×Int)->Int
 | []=>0
 | (_,n)::_=>if 0<n then n else 0
def went(e keep:Int)(ps:List Pc):List Pc:=if e=0 then ps else ps.take keep.toNat
def wentN(e keep:Int)(n:Nat):Nat:=if e=0 then n else min n keep.toNat
theorem went_cons{e k:Int}{p:Pc}{ps:List Pc}(h:e=0\/0<k):went e k (p::ps)=p::went e (k-1) ps:=by
 unfold went
 by_cases he:e=0
 ·rw[if_pos he,if_pos he]
 ·rw[if_neg he,if_neg he]
  have hk:0<k:=h.resolve_left he
  rw[show k.toNat=(k-1).toNat+1 by omega,List.take_succ_cons]
def okName(l:List UInt8):Prop:=1<=l.length/\l.length<=64/\(0:UInt8)∉l
instance (l:List UInt8):Decidable (okName l):=by unfold okName;exact inferInstance
end
section
open Go
set_option linter.unusedSimpArgs false
set_option linter.unusedVariables false
set_option linter.unusedSectionVars false
section
variable {P:Program}{q:Bool}{K:VP}{h:Heap}{κ:Type}[DecidableEq κ]{kV:κ->Value}
theorem nodup_len{I:List Nat}{n:Nat}(hn:I.Nodup)(hI:∀i∈I,i<n):I.length<=n:=by
 have:=hn.length_le_of_subset (l₂:=List.range n) (fun i hi=>List.mem_range.2 (hI i hi))
 simpa using this
theorem nodup_snoc{I:List Nat}{i:Nat}(hn:I.Nodup)(hi:i∉I):(I++[i]).Nodup:=by
 rw[List.nodup_append]
 refine⟨hn,by simp,fun a ha b hb e=>?_⟩
 simp at hb;subst hb;subst e;exact hi ha
def isMapB(P:Program)(t:TypeId):Bool:=match P.underlying t with|some (.map _ _)=>true|_=>false
theorem isMapB_spec{t:TypeId}(e:isMapB P t=true):∃kt et,P.underlying t=some (.map kt et):=by
 unfold isMapB at e
 split at e
 ·rename_i kt et hu;exact⟨kt,et,hu⟩
 ·cases e
theorem Hp_rangeM{t:TypeId}{m:Nat}{l:List (κ×Value)}(ht:isMapB P t=true)(hm:MapK kV h m l)
 (H:∀h',Ext h h'->MapIt kV h' h.size m l []->h'.size=h.size+1->K (.pointer (some ⟨h.size,0,none⟩)) h'):Hp P false (Instr.range t (.map (some m))) K h ⟨⟩:=by
 obtain⟨kt,et,hu⟩:=isMapB_spec ht
 exact Hp_range hu hm H
theorem snoc_fit{I:List Nat}{i n:Nat}(h2:I.Nodup)(h3:∀i∈I,i<n)(hi:i∉I)(hil:i<n):(I++[i]).Nodup/\(∀j∈I++[i],j<n)/\I.length+1<=n:=by
 have hn:=nodup_snoc h2 hi
 have hlt:∀j∈I++[i],j<n:=fun j hj=>by
  rcases List.mem_append.1 hj with x|x
  ·exact h3 j x
  ·simp at x;omega
 have hle:=nodup_len hn hlt
 simp at hle
 exact⟨hn,hlt,hle⟩
theorem loopMap0{body:(Heap->Prop)->Heap->Prop}{it m:Nat}{l:List (κ×Value)}(Φ:List Nat->Heap->Prop)(h0:MapIt kV h it m l [])(hΦ:Φ [] h)
 (hb:∀I h,MapIt kV h it m l I->I.Nodup->(∀i∈I,i<l.length)->Φ I h->∀X:Heap->Prop,(∀i h',i∉I->i<l.length->MapIt kV h' it m l (I++[i])->Φ (I++[i]) h'->X h')->body X h):LoopC 0 body [] h ⟨⟩:=by
 refine loopA0 (α:=List Nat) (fun I h=>MapIt kV h it m l I/\I.Nodup/\(∀i∈I,i<l.length)/\Φ I h) (fun I=>l.length-I.length) [] ⟨h0,by simp,by simp,hΦ⟩ ?_
 rintro I g ⟨h1,h2,h3,h4⟩
 refine hb I g h1 h2 h3 h4 _ (fun i h' hi hil hm hp=>?_)
 obtain⟨a,b,c⟩:=snoc_fit h2 h3 hi hil
 exact⟨I++[i],⟨hm,a,b,hp⟩,by simp;omega⟩
end
end
section
open Go Go.Sort
set_option linter.unusedSimpArgs false
set_option linter.unusedVariables false
set_option linter.unusedSectionVars false
section
variable {α:Type}[Inhabited α]{h0 h:Heap}{e b n c:Nat}{val:α->Value}{d:Array α}
structure SA (e b n c:Nat) (val:α->Value) (h0 h:Heap) (d:Array α):Prop where
 own:OwnT e 1 h (.slice (some ⟨b,0,none⟩) n c) (d.toList.map val)
 mod:Mod (· = b) h0 h
def slV(b n c:Nat):Value:=.slice (some ⟨b,0,none⟩) n c
theorem SA.size(s:SA e b n c val h0 h d):d.size=n:=by
 rcases s.own with ⟨h1,-⟩|⟨b',n',c',rest,h1,h2,-⟩
 ·cases h1
 ·cases h1;simpa using h2
theorem getB{i:Nat}(hi:i<d.size):d[i]! = d[i]:=getElem!_pos d i hi
theorem SA.get(s:SA e b n c val h0 h d){i:Nat}(hi:i<n):hcell h (elt ⟨b,0,none⟩ i)=some (val d[i]!)/\hfrozen h (elt ⟨b,0,none⟩ i)=false:=by
 have hz:=s.size
 have:=s.own.elt (i:=i) (by simp;omega)
 refine⟨this.1.trans ?_,this.2⟩
 rw[getB omg]
 simp
theorem SA.swap(s:SA e b n c val h0 h d){i j:Nat}(hi:i<n)(hj:j<n) :
 SA e b n c val h0 (hset (hset h (elt ⟨b,0,none⟩ i) (val d[j]!)) (elt ⟨b,0,none⟩ j) (val d[i]!)) (swp d i j):=by
 have hz:=s.size
 refine⟨?_,Mod.setIn (Mod.setIn s.mod (.inl sM)) (.inl sM)⟩
 have r1:=s.own.setE (i:=i) (by simp;omega) (u:=val d[j]!)
 have r2:=r1.setE (i:=j) (by simp;omega) (u:=val d[i]!)
 have:((d.toList.map val).set i (val d[j]!)).set j (val d[i]!)=(swp d i j).toList.map val:=by
  unfold swp
  simp[List.map_set]
 rw[this]at r2
 exact r2
theorem SA.get2(s:SA e b n c val h0 h d){i j:Nat}(hi:i<n)(hj:j<n)(v:Value) :
 (∃u,hcell (hset h (elt ⟨b,0,none⟩ i) v) (elt ⟨b,0,none⟩ j)=some u)/\hfrozen (hset h (elt ⟨b,0,none⟩ i) v) (elt ⟨b,0,none⟩ j)=false:=by
 have hz:=s.size
 have r1:=s.own.setE (i:=i) (by simp;omega) (u:=v)
 have:=r1.elt (i:=j) (by simp;omega)
 exact⟨⟨_,this.1⟩,this.2⟩
theorem SA.side{q:Nat}{v:Value}(s:SA e b n c val h0 h d)(hq:q≠b)(hz:h0.size<=q):SA e b n c val h0 (hset h ⟨q,0,none⟩ v) d :=
 ⟨s.own.mod (Mod.set h ⟨q,0,none⟩ v) (fun b' hb e=>by cases hb;exact hq e.symm),Mod.setIn s.mod (.inr hz)⟩
theorem SA.pushed{o:Obj}(s:SA e b n c val h0 h d):SA e b n c val h0 (h.push o) d :=
 ⟨s.own.ext (push_ext (.refl h)),Mod.pushIn s.mod⟩
theorem SA.lt(s:SA e b n c val h0 h d):b<h.size:=s.own.lt rfl
def CmpOk(P:Program)(f:Value)(b:Nat)(h0:Heap)(val:α->Value)(cm:α->α->Int):Prop :=
 ∀x y (g:Heap) (K:VP),Mod (· = b) h0 g->K (.int .i64 (cm x y)) g->InvokeH P f #[val x,val y] g K ⟨⟩
def LessOk(P:Program)(fn:FuncId)(val:α->Value)(cm:α->α->Int):Prop :=
 ∀x y (g:Heap) (K:VP),K (.bool (decide (cm x y<0))) g->CallsH P fn #[val x,val y] g K ⟨⟩
def ltC(cm:α->α->Int)(x y:α):Bool:=decide (cm x y<0)
theorem loopX1{α:Type}{body:(VP)->VP}{v1:Value}{h:Heap}(f1:α->Value)(g:α->Heap->Prop)(μ:α->Nat)(a0:α)(hf:v1=f1 a0)(hg:g a0 h)
 (hb:∀a h,g a h->∀X:VP,(∀a' v1' h',v1'=f1 a'->g a' h'->μ a'<μ a->X v1' h')->body X (f1 a) h):LoopC 1 body [v1] h ⟨⟩:=by
 refine loopA1 f1 g μ a0 hf hg fun a h hga=>?_
 exact hb a h hga _ (fun a' v1' h' e1 h1 h2=>⟨a',e1,h1,h2⟩)
theorem loopX2{α:Type}{body:(Value->VP)->Value->VP}{v1 v2:Value}{h:Heap}(f1 f2:α->Value)(g:α->Heap->Prop)(μ:α->Nat)(a0:α)(hf:v1=f1 a0/\v2=f2 a0)(hg:g a0 h)
 (hb:∀a h,g a h->∀X:Value->VP,(∀a' v1' v2' h',v1'=f1 a'->v2'=f2 a'->g a' h'->μ a'<μ a->X v1' v2' h')->body X (f1 a) (f2 a) h):LoopC 2 body [v1,v2] h ⟨⟩:=by
 refine loopA2 f1 f2 g μ a0 hf hg fun a h hga=>?_
 exact hb a h hga _ (fun a' v1' v2' h' e1 e2 h1 h2=>⟨a',e1,e2,h1,h2⟩)
theorem loopX3{α:Type}{body:(Value->Value->VP)->Value->Value->VP}{v1 v2 v3:Value}{h:Heap}(f1 f2 f3:α->Value)(g:α->Heap->Prop)(μ:α->Nat)(a0:α)(hf:v1=f1 a0/\v2=f2 a0/\v3=f3 a0)(hg:g a0 h)
 (hb:∀a h,g a h->∀X:Value->Value->VP,(∀a' v1' v2' v3' h',v1'=f1 a'->v2'=f2 a'->v3'=f3 a'->g a' h'->μ a'<μ a->X v1' v2' v3' h')->body X (f1 a) (f2 a) (f3 a) h):LoopC 3 body [v1,v2,v3] h ⟨⟩:=by
 refine loopA3 f1 f2 f3 g μ a0 hf hg fun a h hga=>?_
 exact hb a h hga _ (fun a' v1' v2' v3' h' e1 e2 e3 h1 h2=>⟨a',e1,e2,e3,h1,h2⟩)
theorem loopX4{α:Type}{body:(Value->Value->Value->VP)->Value->Value->Value->VP}{v1 v2 v3 v4:Value}{h:Heap}(f1 f2 f3 f4:α->Value)(g:α->Heap->Prop)(μ:α->Nat)(a0:α)(hf:v1=f1 a0/\v2=f2 a0/\v3=f3 a0/\v4=f4 a0)(hg:g a0 h)
 (hb:∀a h,g a h->∀X:Value->Value->Value->VP,(∀a' v1' v2' v3' v4' h',v1'=f1 a'->v2'=f2 a'->v3'=f3 a'->v4'=f4 a'->g a' h'->μ a'<μ a->X v1' v2' v3' v4' h')->body X (f1 a) (f2 a) (f3 a) (f4 a) h):LoopC 4 body [v1,v2,v3,v4] h ⟨⟩:=by
 refine loopA4 f1 f2 f3 f4 g μ a0 hf hg fun a h hga=>?_
 exact hb a h hga _ (fun a' v1' v2' v3' v4' h' e1 e2 e3 e4 h1 h2=>⟨a',e1,e2,e3,e4,h1,h2⟩)
theorem loopX5{α:Type}{body:(Value->Value->Value->Value->VP)->Value->Value->Value->Value->VP}{v1 v2 v3 v4 v5:Value}{h:Heap}(f1 f2 f3 f4 f5:α->Value)(g:α->Heap->Prop)(μ:α->Nat)(a0:α)(hf:v1=f1 a0/\v2=f2 a0/\v3=f3 a0/\v4=f4 a0/\v5=f5 a0)(hg:g a0 h)
 (hb:∀a h,g a h->∀X:Value->Value->Value->Value->VP,(∀a' v1' v2' v3' v4' v5' h',v1'=f1 a'->v2'=f2 a'->v3'=f3 a'->v4'=f4 a'->v5'=f5 a'->g a' h'->μ a'<μ a->X v1' v2' v3' v4' v5' h')->body X (f1 a) (f2 a) (f3 a) (f4 a) (f5 a) h):LoopC 5 body [v1,v2,v3,v4,v5] h ⟨⟩:=by
 refine loopA5 f1 f2 f3 f4 f5 g μ a0 hf hg fun a h hga=>?_
 exact hb a h hga _ (fun a' v1' v2' v3' v4' v5' h' e1 e2 e3 e4 e5 h1 h2=>⟨a',e1,e2,e3,e4,e5,h1,h2⟩)
end
end
end Go.Vc
set_option linter.unusedSimpArgs false
set_option linter.unusedVariables false
set_option maxRecDepth 20000
namespace Go.Proofs.YtdccfkffabngjaaGreat
open Go.Vc
variable {K:VP}{h:Heap}
def bT:Nat:=5
def pT:Nat:=146
def fT:Nat:=97
theorem bT_fT:bT≠fT:=by decide
theorem pT_fT:pT≠fT:=by decide
theorem bT_pT:bT≠pT:=by decide
theorem cellOf{b i:Nat}{c:Array Value}{e:TypeId}{v:Value}(hb:h[b]? = some (.cells c e))(hi:c[i]? = some v):hcell h ⟨b,i,none⟩=some v:=(hcell_of_block hb).trans hi
theorem frzOf{b i:Nat}{c:Array Value}{e:TypeId}(hb:h[b]? = some (.cells c e)):hfrozen h ⟨b,i,none⟩=false:=by rw[hfrozen_of_block hb];simp
structure Fh where
 name:List UInt8
 last:List UInt8
 qs:List (Pc×Value)
 b:Nat
 lv:Value
 pv:Value
 nv:Value
def Fh.f(x:Fh):Fl:=⟨x.name,x.last,x.qs.map (·.1)⟩
def pcV(q:Pc×Value):List Value:=[.int .i64 (q.1.at_:Nat),q.2]
def Fh.own(x:Fh)(b:Nat):Prop:=b=x.b\/blkG x.lv=some b\/blkG x.pv=some b\/blkG x.nv=some b
structure FlAt (h:Heap) (x:Fh):Prop where
 cells:h[x.b]? = some (.cells #[x.lv,x.pv,x.nv] fT)
 last:OwnG bT 1 h x.lv (x.last.map byteV)
 now:OwnG bT 1 h x.nv (x.f.now.map byteV)
 ps:OwnG pT 2 h x.pv (x.qs.flatMap pcV)
 bs:∀q∈x.qs,Bytes h q.2 q.1.b
 ok:x.f.ok
 ne:∀b,blkG x.lv=some b->blkG x.nv≠some b
 ap:∀q∈x.qs,∀b,blkV q.2=some b->¬x.own b
theorem FlAt.len{x:Fh}(a:FlAt h x):x.f.now.length=x.last.length:=a.ok.now_len
theorem FlAt.lt{x:Fh}(a:FlAt h x){b:Nat}(hb:x.own b):b<h.size:=by
 rcases hb with rfl|hb|hb|hb
 ·exact get_some_lt a.cells
 ·exact a.last.lt hb
 ·exact a.ps.lt hb
 ·exact a.now.lt hb
theorem FlAt.plt{x:Fh}(a:FlAt h x){q:Pc×Value}(hq:q∈x.qs){b:Nat}(hb:blkV q.2=some b):b<h.size:=by
 refine (a.bs q hq).lt hb (fun e=>?_)
 have:=(a.ok.pc q.1 (List.mem_map_of_mem hq)).1.pos
 rw[e]at this;simp at this
theorem FlAt.mod{S:Nat->Prop}{h':Heap}{x:Fh}(a:FlAt h x)(m:Mod S h h')(h1:∀b,x.own b->¬S b)(h2:∀q∈x.qs,∀b,blkV q.2=some b->¬S b):FlAt h' x :=
 ⟨(m.block _ (get_some_lt a.cells) (h1 _ (.inl rfl))).trans a.cells,a.last.mod m (fun b hb=>h1 b (.inr (.inl hb))),a.now.mod m (fun b hb=>h1 b (.inr (.inr (.inr hb)))),
  a.ps.mod m (fun b hb=>h1 b (.inr (.inr (.inl hb)))),fun q hq=>(a.bs q hq).mod m (h2 q hq),a.ok,a.ne,a.ap⟩
theorem FlAt.ext{h':Heap}{x:Fh}(a:FlAt h x)(e:Ext h h'):FlAt h' x:=a.mod (S:=fun _=>False) (.of_ext e) (fun _ _ x=>x) (fun _ _ _ _ x=>x)
structure Upd (h h':Heap) (x x':Fh):Prop where
 fl:FlAt h' x'
 mod:Mod x.own h h'
 own:∀b,x'.own b->x.own b\/h.size<=b
 pcs:∀q∈x'.qs,∀b,blkV q.2=some b->(∃q0∈x.qs,blkV q0.2=some b)\/h.size<=b
 b:x'.b=x.b
 name:x'.name=x.name
theorem Upd.refl{x:Fh}(a:FlAt h x):Upd h h x x:=⟨a,.refl _ _,fun _ h=>.inl h,fun q hq b hb=>.inl ⟨q,hq,hb⟩,rfl,rfl⟩
theorem Upd.trans{h1 h2:Heap}{x y z:Fh}(u:Upd h h1 x y)(v:Upd h1 h2 y z):Upd h h2 x z:=by
 have hs:=u.mod.size
 refine⟨v.fl,u.mod.trans v.mod (fun b hb hy=>(u.own b hy).resolve_right omg),fun b hb=>?_,fun q hq b hb=>?_,v.b.trans u.b,v.name.trans u.name⟩
 ·rcases v.own b hb with h3|h3
  ·exact u.own b h3
  ·exact .inr omg
 ·rcases v.pcs q hq b hb with ⟨q0,h3,h4⟩|h3
  ·exact u.pcs q0 h3 b h4
  ·exact .inr omg
set_option maxHeartbeats 1000000 in
theorem grow_c{x:Fh}{n:Nat}(a:FlAt h x)(hn:n<=268435456)(H:∀h' lv nv,Upd h h' x { x with last:=growL x.last n,lv:=lv,nv:=nv }->K (.tuple #[]) h') :
 CallsH Tryz.prog 82 #[ptrV x.b,.int .i64 n] h K ⟨⟩:=by
 refine n82_calls ?_
 unfold n82 ptrV;try delta vF vG vC vD vJ vV vk vt
 obtain⟨na,nn,nc,hnv,hnl,hnc,-⟩:=a.now.form
 have hln:=a.len
 have hfew:x.last.length<=268435456:=a.ok.few
 have hnn:nn=x.last.length:=by simpa[hln]using hnl.symm
 subst hnn
 have c0:=cellOf (i:=0) a.cells rfl
 have c2:=cellOf (i:=2) a.cells rfl
 have f0:=frzOf (i:=0) a.cells
 have f2:=frzOf (i:=2) a.cells
 rw[hnv]at c2
 by_cases hg:n<=x.last.length
 ·simp(disch:=omega)[c2]
  refine H h x.lv x.nv ?_
  have:growL x.last n=x.last:=growL_same hg
  rw[this]
  exact .refl a
 ·simp(disch:=omega)[c2]
  have o2:=a.now
  rw[hnv]at o2
  refine Hp_appendGM (e:=bT) (by_:=1) (n:=x.last.length) (k:=n-x.last.length) (z:=byteV 0) omg kR kR kR rfl o2 (by simp[hln]) omg omg fun nv' h1 o3 m3 fr3 _=>?_
  have hxb:∀b,blkG x.nv=some b->b≠x.b:=fun b hb=>a.now.ne hb a.cells bT_fT
  have hlb:∀b,blkG x.lv=some b->b≠x.b:=fun b hb=>a.last.ne hb a.cells bT_fT
  have hpb:∀b,blkG x.pv=some b->b≠x.b:=fun b hb=>a.ps.ne hb a.cells pT_fT
  have hpl:=get_some_lt a.cells
  rw[<-hnv]at m3 fr3
  have c3:=(m3.block x.b hpl (fun e=>hxb _ e rfl)).trans a.cells
  have d0:=cellOf (i:=0) c3 rfl
  have d2:=cellOf (i:=2) c3 rfl
  have e0:=frzOf (i:=0) c3
  have e2:=frzOf (i:=2) c3
  obtain⟨na',nn',nc',hnv',hnl',hnc',-⟩:=o3.form
  rw[hnv']
  rw[hnv']at o3 fr3
  simp(disch:=omega)[d2,e2,d0]
  have m4:Mod (fun b=>blkG x.nv=some b\/b=x.b) h (hset h1 ⟨x.b,2,none⟩ (.slice na' nn' nc')):=Mod.setIn (m3.mono (fun b _ e=>.inl e)) (.inl (.inr rfl))
  have c4:=obj_set (i:=2) (v:=.slice na' nn' nc') c3
  refine (⟨_,rfl⟩:∃g,g=hset h1 ⟨x.b,2,none⟩ (.slice na' nn' nc')).elim fun h2 eh2=>?_
  rw[<-eh2]at m4 c4 ⊢
  have o4:OwnG bT 1 h2 (.slice na' nn' nc') ((x.f.now++zeros (n-x.last.length)).map byteV):=by
   rw[eh2]
   have:=o3.mod (Mod.set h1 ⟨x.b,2,none⟩ (.slice na' nn' nc')) (fun b hb e=>o3.ne hb c3 bT_fT e)
   simpa[zeros]using this
  have l4:OwnG bT 1 h2 x.lv (x.last.map byteV):=a.last.mod m4 (fun b hb e=>e.elim (fun e=>a.ne b hb e) (hlb b hb))
  have z2:h2.size=h1.size:=by rw[eh2];simp
  have z1:=m3.size
  clear eh2
  refine Hp_appendGM (e:=bT) (by_:=1) (n:=x.last.length) (k:=n-x.last.length) (z:=byteV 0) omg kR kR kR rfl l4 sM omg omg fun lv' h3 o5 m5 fr5 _=>?_
  have c5:=(m5.block x.b (by have:=get_some_lt c4;omega) (fun e=>hlb _ e rfl)).trans c4
  have g0:=frzOf (i:=0) c5
  have k0:=cellOf (i:=0) c5 rfl
  obtain⟨la',ln',lc',hlv',hll',hlc',-⟩:=o5.form
  rw[hlv']at o5 fr5 ⊢
  simp(disch:=omega)[g0,k0]
  have hl5:∀b,blkG (.slice la' ln' lc')=some b->b≠x.b:=fun b hb=>o5.ne hb c5 bT_fT
  have hn5:∀b,blkG (.slice na' nn' nc')=some b->b≠x.b:=fun b hb=>o4.ne hb c4 bT_fT
  have hnl5:∀b,blkG (.slice na' nn' nc')=some b->blkG x.lv≠some b:=fun b hb e=>(fr3 b hb).elim (fun e2=>a.ne b e e2) (fun e2=>by have:=a.last.lt e;omega)
  have m6:=Mod.set h3 ⟨x.b,0,none⟩ (.slice la' ln' lc')
  have m7:Mod (fun b=>b=x.b\/blkG x.lv=some b\/blkG x.nv=some b) h (hset h3 ⟨x.b,0,none⟩ (.slice la' ln' lc')):=by
   refine Mod.setIn ((m4.mono (T:=fun b=>b=x.b\/blkG x.lv=some b\/blkG x.nv=some b) (fun b _ e=>?_)).trans m5 (fun b _ e=>.inr (.inl e))) (.inl (.inl rfl))
   rcases e with e|e
   ·exact .inr (.inr e)
   ·exact .inl e
  have m8:Mod x.own h (hset h3 ⟨x.b,0,none⟩ (.slice la' ln' lc')):=m7.mono (fun b _ e=>e.elim .inl (fun e=>e.elim (fun e=>.inr (.inl e)) (fun e=>.inr (.inr (.inr e)))))
  have hap:∀q∈x.qs,∀b,blkV q.2=some b->¬x.own b:=a.ap
  have hs3:=m5.size
  have own':∀b,({ x with last:=growL x.last n,lv:=.slice la' ln' lc',nv:=.slice na' nn' nc' }:Fh).own b->x.own b\/h.size<=b:=by
   rintro b (e|e|e|e)
   ·exact .inl (.inl e)
   ·exact (fr5 b e).imp (fun e=>.inr (.inl e)) (fun e=>by omega)
   ·exact .inl (.inr (.inr (.inl e)))
   ·exact (fr3 b e).imp (fun e=>.inr (.inr (.inr e))) id
  have cut:({ x with last:=growL x.last n,lv:=.slice la' ln' lc',nv:=.slice na' nn' nc' }:Fh).f.now=x.f.now++zeros (n-x.last.length):=by
   have:=a.ok.now_grow n
   unfold growL at this
   rw[hln]at this
   exact this
  refine H (hset h3 ⟨x.b,0,none⟩ (.slice la' ln' lc')) (.slice la' ln' lc') (.slice na' nn' nc') ⟨⟨?_,?_,?_,?_,?_,a.ok.grow hn,?_,?_⟩,m8,own',fun q hq b hb=>.inl ⟨q,hq,hb⟩,rfl,rfl⟩
  ·exact obj_set c5
  ·have:=o5.mod m6 (fun b hb e=>hl5 b hb e)
   show OwnG bT 1 _ _ ((growL x.last n).map byteV)
   simpa[growL,zeros]using this
  ·rw[cut]
   exact (o4.mod m5 (fun b hb e=>hnl5 b hb e)).mod m6 (fun b hb e=>hn5 b hb e)
  ·refine a.ps.mod m7 (fun b hb e=>?_)
   rcases e with e|e|e
   ·exact hpb b hb e
   ·obtain⟨arr,ha⟩:=a.last.tag e
    exact a.ps.ne hb ha bT_pT.symm rfl
   ·obtain⟨arr,ha⟩:=a.now.tag e
    exact a.ps.ne hb ha bT_pT.symm rfl
  ·exact fun q hq=>(a.bs q hq).mod m8 (fun b hb=>hap q hq b hb)
  ·intro b hb e
   rcases fr5 b hb with e1|e1
   ·exact hnl5 b e e1
   ·have:=o4.lt e;omega
  ·exact fun q hq b hb e=>(own' b e).elim (hap q hq b hb) (fun e=>by have:=a.plt hq hb;omega)
end Go.Proofs.YtdccfkffabngjaaGreat
namespace Go.Vc
open Go
section
variable {P:Program}{q:Bool}{h:Heap}
theorem hp_loadBytes:∀(l:List UInt8) (a:Addr) (acc:ByteArray) (K:ByteArray->Heap->Prop),At h a l->K ⟨acc.data++⟨l⟩⟩ h->hp P q (Extern.Bytes.loadBytes a l.length acc) K h
 | [],a,acc,K,_,H=>by
  show K acc h
  cases acc;simpa using H
 | b::l,a,acc,K,hA,H=>by
  show hp P q (load a >>= _) K h
  rw[hp_bind',hp_load]
  have h0:=hA 0 sM
  have e0:elt a 0=a:=by simp
  rw[e0]at h0
  rw[h0]
  refine⟨?_⟩
  show hp P q (Extern.Bytes.loadBytes (a.add 1) l.length (acc.push _)) K h
  refine hp_loadBytes l _ _ K (fun i hi=>?_) ?_
  ·have:=hA (i+1) (by simpa using hi)
   show hcell h (elt (elt a 1) i)=_
   rw[elt_elt,Nat.add_comm 1 i]
   simpa using this
  ·have e1:((b.toNat:Int).toNat.toUInt8)=b:=by simp
   show K ⟨(acc.push ((b.toNat:Int).toNat.toUInt8)).data++⟨l⟩⟩ h
   rw[e1]
   have:(acc.push b).data++(⟨l⟩:Array UInt8)=acc.data++⟨b::l⟩:=by
    cases acc;simp[ByteArray.push]
   rw[this];exact H
theorem hp_bytesOf{v:Value}{l:List UInt8}{K:ByteArray->Heap->Prop}(hB:Bytes h v l)(H:K ⟨⟨l⟩⟩ h):hp P q (Extern.Bytes.bytesOf v) K h:=by
 rcases hB with ⟨rfl,rfl⟩|⟨a,c,rfl,-,hA⟩
 ·exact H
 ·exact hp_loadBytes l a .empty K hA (by simpa using H)
end
end Go.Vc
namespace Go.Proofs.YtdccfkffabngjaaGreat
open Go.Vc
section
variable {K:VP}{h:Heap}
def idxBy(l:List UInt8)(b:UInt8):Int:=match (List.range (ByteArray.mk ⟨l⟩).size).find? fun i=>(ByteArray.mk ⟨l⟩)[i]! == b with|some i=>i|none => -1
theorem idxBy_nonneg{l:List UInt8}{b:UInt8}:0<=idxBy l b↔b∈l:=by
 have hg:∀i (hi:i<l.length),(ByteArray.mk ⟨l⟩)[i]! = l[i]:=fun i hi=>by
  rw[getElem!_pos (ByteArray.mk ⟨l⟩) i (by simpa using hi)];rfl
 unfold idxBy
 cases hf:(List.range (ByteArray.mk ⟨l⟩).size).find? fun i=>(ByteArray.mk ⟨l⟩)[i]! == b with
 | none =>
  simp only
  rw[List.find?_eq_none]at hf
  constructor
  ·intro h;omega
  ·intro h
   obtain⟨i,hi,rfl⟩:=List.mem_iff_getElem.1 h
   have:=hf i (by simpa using hi)
   rw[hg i hi]at this
   simp at this
 | some i =>
  have h1:=List.find?_some hf
  have h2:=List.mem_of_find?_eq_some hf
  simp at h2
  rw[hg i h2]at h1
  simp only
  constructor
  ·intro _;rw[<-eq_of_beq h1];exact List.getElem_mem _
  ·intro _;omega
theorem IndexByteB_c{v:Value}{l:List UInt8}{b:UInt8}(hB:Bytes h v l)(H:K (.int .i64 (idxBy l b)) h):ExtH Tryz.prog 146 #[v,byteV b] h K ⟨⟩:=by
 refine⟨_,Go.Extern.BytealgIndexByte.indexByte,Tryz.func146,by kernel_rfl,by kernel_rfl,by kernel_rfl,by kernel_rfl,?_⟩
 show hp _ _ (Extern.Bytes.bytesOf v >>= _) _ _
 rw[hp_bind']
 refine hp_bytesOf hB ?_
 show hp _ _ (match (List.range (ByteArray.mk ⟨l⟩).size).find? fun i=>(ByteArray.mk ⟨l⟩)[i]! == ((b.toNat:Int).toNat.toUInt8) with|some i=>pure (goInt i)|none=>pure (goInt (-1))) _ _
 rw[show ((b.toNat:Int).toNat.toUInt8)=b by simp]
 unfold idxBy at H
 split<;>(rename_i hx;rw[hx]at H;exact H)
theorem blkGV{v:Value}{b:Nat}(h:blkG v=some b):blkV v=some b:=by
 unfold blkG at h
 split at h
 ·exact h
 ·cases h
theorem bcloneT_c{v:Value}{n:Nat}{vs:List Value}(hs:Src 1 h v n vs)(hv:∃a c,v = .slice a n c)(hone:∀u∈vs,one u=true)(hn:n<=1000000000000)(H:∀v' h',Ext h h'->OwnT bT 1 h' v' vs->(∀b,blkV v'=some b->h.size<=b)->K v' h'):CallsH Tryz.prog 70 #[v] h K ⟨⟩:=by
 refine n70_calls ?_
 unfold n70;try delta vF vG vC vD vJ vV vk vt
 obtain⟨a,c,rfl⟩:=hv
 cases a with
 | none =>
  rcases hs with ⟨e,rfl,rfl⟩|⟨a,c',e,-⟩|⟨l,e,-⟩
  ·rw[e]
   simp(disch:=omega)
   exact H _ _ (.refl _) .nil (fun b hb=>by cases hb)
  ·cases e
  ·cases e
 | some a =>
  simp(disch:=omega)
  have e0:Ext h (h.push (.cells #[] bT)):=extS
  have o0:OwnT bT 1 (h.push (.cells #[] bT)) (.slice (some ⟨h.size,0,none⟩) 0 0) []:=.inr ⟨h.size,0,0,[],rfl,rfl,Nat.le_refl _,get_pushed rfl,by simp⟩
  refine Hp_appendT (e:=bT) (s:=1) (by_:=1) (n:=0) (k:=n) (news:=vs) kR kR o0 rfl omg (hs.ext e0) hone omg omg fun v' h' o' m' g' _=>?_
  refine H v' h' (m'.ext_from e0 (fun b hb e=>by cases e;exact absurd hb (Nat.lt_irrefl _))) (by simpa using o') (fun b hb=>(g' b hb).elim (fun e=>by cases e;exact Nat.le_refl _) (fun e=>by simp at e;omega))
theorem bclone_c{v:Value}{n:Nat}{vs:List Value}(hs:Src 1 h v n vs)(hv:∃a c,v = .slice a n c)(hone:∀u∈vs,one u=true)(hn:n<=1000000000000)(H:∀v' h',Ext h h'->OwnG bT 1 h' v' vs->(∀b,blkG v'=some b->h.size<=b)->(∀b,blkV v'=some b->h.size<=b)->K v' h'):CallsH Tryz.prog 70 #[v] h K ⟨⟩ :=
 bcloneT_c hs hv hone hn fun v' h' e o f=>H v' h' e o.g (fun b hb=>f b (blkGV hb)) f
theorem pcloneT_c{v:Value}{n:Nat}{vs:List Value}(hs:Src 2 h v n vs)(hv:∃a c,v = .slice a n c)(hone:∀u∈vs,one u=true)(hn:n<=1000000000000)(H:∀v' h',Ext h h'->OwnT pT 2 h' v' vs->(∀b,blkV v'=some b->h.size<=b)->K v' h'):CallsH Tryz.prog 83 #[v] h K ⟨⟩:=by
 refine n83_calls ?_
 unfold n83;try delta vF vG vC vD vJ vV vk vt
 obtain⟨a,c,rfl⟩:=hv
 cases a with
 | none =>
  rcases hs with ⟨e,rfl,rfl⟩|⟨a,c',e,-⟩|⟨l,e,-⟩
  ·rw[e]
   simp(disch:=omega)
   exact H _ _ (.refl _) .nil (fun b hb=>by cases hb)
  ·cases e
  ·cases e
 | some a =>
  simp(disch:=omega)
  have e0:Ext h (h.push (.cells #[] pT)):=extS
  have o0:OwnT pT 2 (h.push (.cells #[] pT)) (.slice (some ⟨h.size,0,none⟩) 0 0) []:=.inr ⟨h.size,0,0,[],rfl,rfl,Nat.le_refl _,get_pushed rfl,by simp⟩
  refine Hp_appendT (e:=pT) (s:=2) (by_:=32) (n:=0) (k:=n) (news:=vs) kR kR o0 rfl omg (hs.ext e0) hone omg omg fun v' h' o' m' g' _=>?_
  refine H v' h' (m'.ext_from e0 (fun b hb e=>by cases e;exact absurd hb (Nat.lt_irrefl _))) (by simpa using o') (fun b hb=>(g' b hb).elim (fun e=>by cases e;exact Nat.le_refl _) (fun e=>by simp at e;omega))
theorem pclone_c{v:Value}{n:Nat}{vs:List Value}(hs:Src 2 h v n vs)(hv:∃a c,v = .slice a n c)(hone:∀u∈vs,one u=true)(hn:n<=1000000000000)(H:∀v' h',Ext h h'->OwnG pT 2 h' v' vs->(∀b,blkG v'=some b->h.size<=b)->(∀b,blkV v'=some b->h.size<=b)->K v' h'):CallsH Tryz.prog 83 #[v] h K ⟨⟩ :=
 pcloneT_c hs hv hone hn fun v' h' e o f=>H v' h' e o.g (fun b hb=>f b (blkGV hb)) f
theorem scloneT_c{v:Value}{n:Nat}{vs:List Value}(hs:Src 1 h v n vs)(hv:∃a c,v = .slice a n c)(hone:∀u∈vs,one u=true)(hn:n<=1000000000000)(H:∀v' h',Ext h h'->OwnT bT 1 h' v' vs->(∀b,blkV v'=some b->h.size<=b)->K v' h'):CallsH Tryz.prog 51 #[v] h K ⟨⟩:=by
 refine n51_calls ?_
 unfold n51;try delta vF vG vC vD vJ vV vk vt
 obtain⟨a,c,rfl⟩:=hv
 cases a with
 | none =>
  rcases hs with ⟨e,rfl,rfl⟩|⟨a,c',e,-⟩|⟨l,e,-⟩
  ·rw[e]
   simp(disch:=omega)
   exact H _ _ (.refl _) .nil (fun b hb=>by cases hb)
  ·cases e
  ·cases e
 | some a =>
  simp(disch:=omega)
  have e0:Ext h (h.push (.cells #[] bT)):=extS
  have o0:OwnT bT 1 (h.push (.cells #[] bT)) (.slice (some ⟨h.size,0,none⟩) 0 0) []:=.inr ⟨h.size,0,0,[],rfl,rfl,Nat.le_refl _,get_pushed rfl,by simp⟩
  refine Hp_appendT (e:=bT) (s:=1) (by_:=1) (n:=0) (k:=n) (news:=vs) kR kR o0 rfl omg (hs.ext e0) hone omg omg fun v' h' o' m' g' _=>?_
  refine H v' h' (m'.ext_from e0 (fun b hb e=>by cases e;exact absurd hb (Nat.lt_irrefl _))) (by simpa using o') (fun b hb=>(g' b hb).elim (fun e=>by cases e;exact Nat.le_refl _) (fun e=>by simp at e;omega))
theorem sclone_c{v:Value}{n:Nat}{vs:List Value}(hs:Src 1 h v n vs)(hv:∃a c,v = .slice a n c)(hone:∀u∈vs,one u=true)(hn:n<=1000000000000)(H:∀v' h',Ext h h'->OwnG bT 1 h' v' vs->(∀b,blkG v'=some b->h.size<=b)->(∀b,blkV v'=some b->h.size<=b)->K v' h'):CallsH Tryz.prog 51 #[v] h K ⟨⟩ :=
 scloneT_c hs hv hone hn fun v' h' e o f=>H v' h' e o.g (fun b hb=>f b (blkGV hb)) f
theorem fcloneT_c{v:Value}{n:Nat}{vs:List Value}(hs:Src 2 h v n vs)(hv:∃a c,v = .slice a n c)(hone:∀u∈vs,one u=true)(hn:n<=1000000000000)(H:∀v' h',Ext h h'->OwnT 139 2 h' v' vs->(∀b,blkV v'=some b->h.size<=b)->K v' h'):CallsH Tryz.prog 79 #[v] h K ⟨⟩:=by
 refine n79_calls ?_
 unfold n79;try delta vF vG vC vD vJ vV vk vt
 obtain⟨a,c,rfl⟩:=hv
 cases a with
 | none =>
  rcases hs with ⟨e,rfl,rfl⟩|⟨a,c',e,-⟩|⟨l,e,-⟩
  ·rw[e]
   simp(disch:=omega)
   exact H _ _ (.refl _) .nil (fun b hb=>by cases hb)
  ·cases e
  ·cases e
 | some a =>
  simp(disch:=omega)
  have e0:Ext h (h.push (.cells #[] 139)):=extS
  have o0:OwnT 139 2 (h.push (.cells #[] 139)) (.slice (some ⟨h.size,0,none⟩) 0 0) []:=.inr ⟨h.size,0,0,[],rfl,rfl,Nat.le_refl _,get_pushed rfl,by simp⟩
  refine Hp_appendT (e:=139) (s:=2) (by_:=16) (n:=0) (k:=n) (news:=vs) kR kR o0 rfl omg (hs.ext e0) hone omg omg fun v' h' o' m' g' _=>?_
  refine H v' h' (m'.ext_from e0 (fun b hb e=>by cases e;exact absurd hb (Nat.lt_irrefl _))) (by simpa using o') (fun b hb=>(g' b hb).elim (fun e=>by cases e;exact Nat.le_refl _) (fun e=>by simp at e;omega))
theorem fclone_c{v:Value}{n:Nat}{vs:List Value}(hs:Src 2 h v n vs)(hv:∃a c,v = .slice a n c)(hone:∀u∈vs,one u=true)(hn:n<=1000000000000)(H:∀v' h',Ext h h'->OwnG 139 2 h' v' vs->(∀b,blkG v'=some b->h.size<=b)->(∀b,blkV v'=some b->h.size<=b)->K v' h'):CallsH Tryz.prog 79 #[v] h K ⟨⟩ :=
 fcloneT_c hs hv hone hn fun v' h' e o f=>H v' h' e o.g (fun b hb=>f b (blkGV hb)) f
end
section
variable {K:VP}{h:Heap}
def sT:Nat:=144
def aT:Nat:=139
def faV(f:Int×Int):List Value:=[.int .i64 f.1,.int .i64 f.2]
structure St where
 F:List Fh
 fates:List (Int×Int)
 steps:Nat
 m:Nat
 fv:Value
def St.keys(s:St):List (List UInt8×Value):=s.F.map fun x=>(x.name,ptrV x.b)
def St.foot(s:St)(p b:Nat):Prop:=b=p\/b=s.m\/blkG s.fv=some b\/∃x∈s.F,x.own b
structure StAt (h:Heap) (p:Nat) (s:St):Prop where
 cells:h[p]? = some (.cells #[.map (some s.m),s.fv,.int .i64 s.steps] sT)
 map:MapK str h s.m s.keys
 fl:∀x∈s.F,FlAt h x
 sep:s.F.Pairwise fun x y=>∀b,x.own b->¬y.own b
 psep:∀x∈s.F,∀q∈x.qs,∀b,blkV q.2=some b->¬s.foot p b
 fat:OwnG aT 2 h s.fv (s.fates.flatMap faV)
 names:∀x∈s.F,okName x.name
 few:s.F.length<=256
 stp:s.steps<1000000
 fatk:s.fates.length<1000000000
 fok:∀f∈s.fates,f.2<9223372036854775808
 pfew:∀x∈s.F,x.qs.length<=s.steps*1000000
theorem StAt.nodup{p:Nat}{s:St}(a:StAt h p s):(s.F.map (·.name)).Nodup:=by
 have:=a.map.nodup
 unfold St.keys at this
 rw[List.map_map]at this
 exact this
theorem Fh.tag{x:Fh}(a:FlAt h x){b:Nat}(hb:x.own b):∃arr t,h[b]? = some (.cells arr t)/\(t=fT\/t=bT\/t=pT):=by
 rcases hb with rfl|hb|hb|hb
 ·exact⟨_,_,a.cells,.inl rfl⟩
 ·obtain⟨arr,ha⟩:=a.last.tag hb;exact⟨_,_,ha,.inr (.inl rfl)⟩
 ·obtain⟨arr,ha⟩:=a.ps.tag hb;exact⟨_,_,ha,.inr (.inr rfl)⟩
 ·obtain⟨arr,ha⟩:=a.now.tag hb;exact⟨_,_,ha,.inr (.inl rfl)⟩
theorem Fh.ne{x:Fh}(a:FlAt h x){b c:Nat}{arr:Array Value}{t:Nat}(hb:x.own b)(hc:h[c]? = some (.cells arr t))(ht:t≠fT/\t≠bT/\t≠pT):b≠c:=by
 obtain⟨arr',t',h1,h2⟩:=Fh.tag a hb
 intro e
 subst e
 rw[h1]at hc
 cases hc
 rcases h2 with h2|h2|h2
 ·exact ht.1 h2
 ·exact ht.2.1 h2
 ·exact ht.2.2 h2
theorem Fh.neM{x:Fh}(a:FlAt h x){b c:Nat}{es:Array MapEntry}{cl:Nat}(hb:x.own b)(hc:h[c]? = some (.map es cl)):b≠c:=by
 obtain⟨arr',t',h1,h2⟩:=Fh.tag a hb
 intro e
 subst e
 rw[h1]at hc
 cases hc
theorem sT_ne:sT≠fT/\sT≠bT/\sT≠pT:=by decide
theorem aT_ne:aT≠fT/\aT≠bT/\aT≠pT:=by decide
theorem aT_sT:aT≠sT:=by decide
theorem mapCell{κ:Type}[DecidableEq κ]{kV:κ->Value}{m:Nat}{l:List (κ×Value)}(a:MapK kV h m l):∃es cl,h[m]? = some (.map es cl):=by
 obtain⟨es,cl,h1,_⟩:=a;exact⟨_,cl,h1⟩
theorem StAt.mod{S:Nat->Prop}{h':Heap}{p:Nat}{s:St}(a:StAt h p s)(m:Mod S h h')(h1:∀b,s.foot p b->¬S b)(h2:∀x∈s.F,∀q∈x.qs,∀b,blkV q.2=some b->¬S b):StAt h' p s :=
 ⟨(m.block _ (get_some_lt a.cells) (h1 _ (.inl rfl))).trans a.cells,a.map.mod m (h1 _ (.inr (.inl rfl))),fun x hx=>(a.fl x hx).mod m (fun b hb=>h1 b (.inr (.inr (.inr ⟨x,hx,hb⟩)))) (h2 x hx),a.sep,a.psep,
  a.fat.mod m (fun b hb=>h1 b (.inr (.inr (.inl hb)))),a.names,a.few,a.stp,a.fatk,a.fok,a.pfew⟩
theorem StAt.ext{h':Heap}{p:Nat}{s:St}(a:StAt h p s)(e:Ext h h'):StAt h' p s:=a.mod (S:=fun _=>False) (.of_ext e) (fun _ _ x=>x) (fun _ _ _ _ _ _ x=>x)
theorem StAt.lt{p:Nat}{s:St}(a:StAt h p s){b:Nat}(hb:s.foot p b):b<h.size:=by
 rcases hb with rfl|rfl|hb|⟨x,hx,hb⟩
 ·exact get_some_lt a.cells
 ·exact a.map.lt
 ·exact a.fat.lt hb
 ·exact (a.fl x hx).lt hb
theorem storeKey:KeyT Tryz.prog 142 (List UInt8) str:=KeyT.str kR
def St.get(s:St)(l:List UInt8):Option Fh:=s.F.find? fun x=>decide (x.name=l)
theorem look_keys{l:List UInt8}:∀F:List Fh,look2 l (F.map fun x=>(x.name,ptrV x.b))=(F.find? fun x=>decide (x.name=l)).map fun x=>ptrV x.b
 | []=>rfl
 | x::F=>by
  rw[List.map_cons,look2,List.find?_cons]
  by_cases e:x.name=l
  ·simp[e]
  ·simp only[e,decide_false]
   rw[if_neg (Ne.symm e),look_keys F]
theorem none_c{p m:Nat}{fv st:Value}(hc:h[p]? = some (.cells #[.map (some m),fv,st] sT))(H:K (.bool false) h):CallsH Tryz.prog 66 #[ptrV p] h K ⟨⟩:=by
 refine n66_calls ?_
 unfold n66 ptrV;try delta vF vG vC vD vJ vV vk vt
 have c0:=cellOf (i:=0) hc rfl
 simp(disch:=omega)[c0]
 exact H
theorem none_nil(H:K (.bool true) h):CallsH Tryz.prog 66 #[.pointer none] h K ⟨⟩:=by
 refine n66_calls ?_
 unfold n66;try delta vF vG vC vD vJ vV vk vt
 simp(disch:=omega)
 exact H
theorem asked_c{p m:Nat}{fv st:Value}{l:List UInt8}(hc:h[p]? = some (.cells #[.map (some m),fv,st] sT))(hl:l.length<9223372036854775808)(H:∀h',Ext h h'->K (.int .i64 (if okName l then 0 else 2)) h'):CallsH Tryz.prog 80 #[ptrV p,str l] h K ⟨⟩:=by
 refine n80_calls ?_
 unfold n80;try delta vF vG vC vD vJ vV vk vt
 refine none_c hc ?_
 by_cases h0:l.length<1
 ·have:¬okName l:=fun e=>by have:=e.1;omega
  simp(disch:=omega)
  rw[if_neg this]at H
  exact H h (.refl _)
 by_cases h1:64<l.length
 ·have:¬okName l:=fun e=>by have:=e.2.1;omega
  simp(disch:=omega)
  rw[if_neg this]at H
  exact H h (.refl _)
 simp(disch:=omega)
 refine Hp_strBytes (e:=bT) kR kR kR omg (fun v' h' a b c _=>?_)
 simp(disch:=omega)
 refine n124_calls ?_
 unfold n124;try delta vF vG vC vD vJ vV vk vt
 refine IndexByteB_c (b:=0) a.bytes ?_
 by_cases h2:(0:UInt8)∈l
 ·have:¬okName l:=fun e=>e.2.2 h2
  rw[if_neg this]at H
  have:=idxBy_nonneg.2 h2
  simp(disch:=omega)
  exact H h' b
 ·have:okName l:=⟨by omega,by omega,h2⟩
  rw[if_pos this]at H
  have:=fun e=>h2 (idxBy_nonneg.1 e)
  simp(disch:=omega)
  exact H h' b
def findV(s:St)(l:List UInt8):Value:=if okName l then (match s.get l with|some x=>.tuple #[ptrV x.b,.int .i64 0]|none=>.tuple #[.pointer none,.int .i64 7]) else .tuple #[.pointer none,.int .i64 2]
theorem find_c{p:Nat}{s:St}{l:List UInt8}(a:StAt h p s)(hl:l.length<9223372036854775808)(H:∀h',Ext h h'->K (findV s l) h'):CallsH Tryz.prog 38 #[ptrV p,str l] h K ⟨⟩:=by
 refine n38_calls ?_
 unfold n38;try delta vF vG vC vD vJ vV vk vt
 refine asked_c a.cells hl fun h' e=>?_
 have a':=a.ext e
 have c0:=cellOf (i:=0) a'.cells rfl
 have lk:=look_keys (l:=l) s.F
 have H2:=H h' e
 unfold findV at H2
 unfold ptrV
 by_cases ho:okName l
 ·rw[if_pos ho]at H2 ⊢
  unfold St.get at H2
  simp(disch:=omega)[c0]
  have hm:=a'.map
  unfold St.keys at hm
  rw[Hp_lookup storeKey (z:=.pointer none) kR hm,lk]
  cases hg:s.F.find? (fun x=>decide (x.name=l)) with
  | none=>rw[hg]at H2;simp(disch:=omega);exact H2
  | some x=>rw[hg]at H2;simp(disch:=omega)[ptrV];exact H2
 ·rw[if_neg ho]at H2 ⊢
  simp(disch:=omega)
  exact H2
end
end Go.Proofs.YtdccfkffabngjaaGreat

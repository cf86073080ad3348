/- Rules for maps whose keys are numbers,strings or truth values. -/
import Derived.Test.YtcbbdnaelimpfaaGreatVcMulti
namespace Go.Vc
open Go
set_option linter.unusedSimpArgs false
set_option linter.unusedVariables false
set_option linter.unusedSectionVars false
section
variable {P:Program} {q:Bool} {K:VP} {h:Heap} {κ:Type} [DecidableEq κ] {kV:κ→Value}

theorem ba_beq (a b:List UInt8):((⟨⟨a⟩⟩:ByteArray)==⟨⟨b⟩⟩)=decide (a=b):=by
 show ((⟨a⟩:Array UInt8)==⟨b⟩)=_
 by_cases hab:a=b
 ·subst hab; simp
 ·rw [beq_false_of_ne (fun h=>hab (by cases h; rfl))]; simp [hab]
theorem hp_getMap {r:Nat} {es:Array MapEntry} {cl:Nat} {K:Obj→Heap→Prop} (hb:h[r]? = some (.map es cl)):hp P q (getObj r) K h↔K (.map es cl) h:=by
 unfold getObj
 simp only [hp,hb]
def scalD:TypeDesc→Bool | .int _ | .string | .bool=>true|_=>false
structure KeyT (P:Program) (t:TypeId) (κ:Type) [DecidableEq κ] (kV:κ→Value):Prop where
 out:∃kt et d,P.underlying t=some (.map kt et)∧P.underlying kt=some d∧scalD d=true∧(∀a b:κ,Instr.sameNow d (kV a) (kV b)=some (decide (a=b)))∧(∀a n,Instr.sameBits n (kV a) (kV a)=true)
def mapD (P:Program) (t:TypeId):Option TypeDesc:=match P.underlying t with|some (.map kt _)=>P.underlying kt|_=>none
theorem mapD_spec {t:TypeId} {d:TypeDesc} (e:mapD P t=some d):∃kt et,P.underlying t=some (.map kt et)∧P.underlying kt=some d:=by
 unfold mapD at e
 split at e
 ·rename_i kt et h; exact ⟨kt,et,h,e⟩
 ·cases e
theorem KeyT.str {t:TypeId} (e:mapD P t=some .string):KeyT P t (List UInt8) str:=by
 obtain ⟨kt,et,h1,h2⟩:=mapD_spec e
 refine ⟨⟨kt,et,_,h1,h2,rfl,fun a b => ?_,fun a n => ?_⟩⟩
 ·unfold Vc.str Instr.sameNow
  simp only [ba_beq]
 ·cases n<;>simp [Vc.str,Instr.sameBits,ba_beq]
theorem KeyT.int {t:TypeId} {k:IntKind} (e:mapD P t=some (.int k)):KeyT P t Int (.int k):=by
 obtain ⟨kt,et,h1,h2⟩:=mapD_spec e
 refine ⟨⟨kt,et,_,h1,h2,rfl,fun a b => ?_,fun a n => ?_⟩⟩
 ·simp [Instr.sameNow]; by_cases hab:a=b<;>simp [hab]
 ·cases n<;>simp [Instr.sameBits]

def MapK (kV:κ→Value) (h:Heap) (m:Nat) (l:List (κ×Value)):Prop :=
 ∃(es:List MapEntry) (cl:Nat),h[m]? = some (.map es.toArray cl)∧es.map (fun e=>(e.key,e.val))=l.map (fun p=>(kV p.1,p.2))∧(l.map (·.1)).Nodup∧(es.map (·.born)).Pairwise (· < ·)∧∀e∈es,e.born<cl
theorem MapK.lt {m:Nat} {l:List (κ×Value)} (s:MapK kV h m l):m<h.size:=by
 obtain ⟨es,cl,h1,_⟩:=s
 exact get_some_lt h1
theorem MapK.ext {h':Heap} {m:Nat} {l:List (κ×Value)} (s:MapK kV h m l) (e:Ext h h'):MapK kV h' m l:=by
 obtain ⟨es,cl,h1,h2⟩:=s
 exact ⟨es,cl,(get_ext e (get_some_lt h1)).trans h1,h2⟩
theorem MapK.mod {S:Nat→Prop} {h':Heap} {m:Nat} {l:List (κ×Value)} (s:MapK kV h m l) (e:Mod S h h') (hS:¬S m):MapK kV h' m l:=by
 obtain ⟨es,cl,h1,h2⟩:=s
 exact ⟨es,cl,(e.block m (get_some_lt h1) hS).trans h1,h2⟩
theorem MapK.nodup {m:Nat} {l:List (κ×Value)} (s:MapK kV h m l):(l.map (·.1)).Nodup:=by obtain ⟨es,cl,h1,h2,h3,_⟩:=s; exact h3

def look2 (k:κ):List (κ×Value)→Option Value
 | []=>none
 | (a,v)::r=>if k=a then some v else look2 k r
def upd (k:κ) (v:Value):List (κ×Value)→List (κ×Value)
 | []=>[(k,v)]
 | (a,u)::r=>if k=a then (k,v)::r else (a,u)::upd k v r
def del (k:κ):List (κ×Value)→List (κ×Value)
 | []=>[]
 | (a,u)::r=>if k=a then r else (a,u)::del k r

theorem look2_none {k:κ}:∀{l:List (κ×Value)},look2 k l=none↔∀v,(k,v)∉l
 | []=>by simp [look2]
 | (a,u)::r=>by
  unfold look2
  by_cases e:k=a
  ·subst e; rw [if_pos rfl]; simp only [reduceCtorEq,false_iff]; exact fun h=>h u List.mem_cons_self
  ·rw [if_neg e,look2_none]
   simp only [List.mem_cons,Prod.mk.injEq,e,false_and,false_or]
theorem look2_some {k:κ} {v:Value}:∀{l:List (κ×Value)},(l.map (·.1)).Nodup→(look2 k l=some v↔(k,v)∈l)
 | [],_=>by simp [look2]
 | (a,u)::r,hn=>by
  simp only [List.map_cons,List.nodup_cons] at hn
  unfold look2
  by_cases e:k=a
  ·subst e
   rw [if_pos rfl]
   simp only [Option.some.injEq,List.mem_cons,Prod.mk.injEq,true_and]
   refine ⟨fun h => .inl h.symm,fun h=>h.elim (·.symm) (fun h=>absurd (List.mem_map_of_mem (f:=(·.1)) h) hn.1)⟩
  ·rw [if_neg e,look2_some hn.2]
   simp only [List.mem_cons,Prod.mk.injEq,e,false_and,false_or]
theorem keys_upd {k:κ} {v:Value}:∀l:List (κ×Value),∀j,j∈(upd k v l).map (·.1)↔j=k∨j∈l.map (·.1)
 | [],j=>by simp [upd]
 | (a,u)::r,j=>by
  unfold upd
  by_cases e:k=a
  ·subst e; rw [if_pos rfl]; simp
  ·rw [if_neg e]
   simp only [List.map_cons,List.mem_cons,keys_upd r j]
   constructor
   ·rintro (h|h|h)<;>simp [h]
   ·rintro (h|h|h)<;>simp [h]
theorem nodup_upd {k:κ} {v:Value}:∀{l:List (κ×Value)},(l.map (·.1)).Nodup→((upd k v l).map (·.1)).Nodup
 | [],_=>by simp [upd]
 | (a,u)::r,hn=>by
  simp only [List.map_cons,List.nodup_cons] at hn
  unfold upd
  by_cases e:k=a
  ·subst e; rw [if_pos rfl]; simpa using hn
  ·rw [if_neg e]
   simp only [List.map_cons,List.nodup_cons]
   exact ⟨fun h=>((keys_upd r a).1 h).elim (fun h=>e h.symm) hn.1,nodup_upd hn.2⟩
theorem del_sub {k:κ}:∀{l:List (κ×Value)} {p:κ×Value},p∈del k l→p∈l
 | [],p,h=>by simp [del] at h
 | (a,u)::r,p,h=>by
  unfold del at h
  split at h
  ·exact List.mem_cons_of_mem _ h
  ·exact (List.mem_cons.1 h).elim (fun e=>e▸List.mem_cons_self) (fun h=>List.mem_cons_of_mem _ (del_sub h))
theorem nodup_del {k:κ}:∀{l:List (κ×Value)},(l.map (·.1)).Nodup→((del k l).map (·.1)).Nodup
 | [],_=>by simp [del]
 | (a,u)::r,hn=>by
  simp only [List.map_cons,List.nodup_cons] at hn
  unfold del
  split
  ·exact hn.2
  ·simp only [List.map_cons,List.nodup_cons]
   refine ⟨fun h => ?_,nodup_del hn.2⟩
   obtain ⟨p,hp,he⟩:=List.mem_map.1 h
   exact hn.1 (List.mem_map.2 ⟨p,del_sub hp,he⟩)
def findK (k:κ):List (κ×Value)→Nat→Option (Nat×Value)
 | [],_=>none
 | (a,v)::r,i=>if k=a then some (i,v) else findK k r (i+1)
theorem findK_look (k:κ):∀(l:List (κ×Value)) (i:Nat),(findK k l i).map (·.2)=look2 k l
 | [],i=>rfl
 | (a,v)::r,i=>by unfold findK look2; split<;>simp [findK_look k r]
theorem findNow_eq {d:TypeDesc} (hd:∀a b:κ,Instr.sameNow d (kV a) (kV b)=some (decide (a=b))) (k:κ):∀(es:List MapEntry) (l:List (κ×Value)) (i:Nat),es.map (fun e=>(e.key,e.val))=l.map (fun p=>(kV p.1,p.2))→Instr.findNow d (kV k) es i=some (findK k l i)
 | [],[],i,_=>rfl
 | e::es,(a,v)::r,i,h=>by
  simp only [List.map_cons,List.cons.injEq,Prod.mk.injEq] at h
  unfold Instr.findNow findK
  rw [h.1.1,hd]
  by_cases e2:k=a
  ·simp [e2,h.1.2]
  ·simp only [e2,decide_false,if_false]
   exact findNow_eq hd k es r (i+1) h.2
 | [],_::_,i,h=>by simp at h
 | _::_,[],i,h=>by simp at h
theorem hp_checkKey {e:Bool} {n:Nat} {kt:TypeId} {d:TypeDesc} {v:Value} {K:Unit→Heap→Prop} (hd:P.underlying kt=some d) (hs:scalD d=true):hp P q (Instr.checkKey e (n+1) kt v) K h↔K () h:=by
 unfold Instr.checkKey
 rw [hp_bind',hp_underlying hd]
 cases d<;>first|(simp [scalD] at hs; done)|(cases v<;>exact Iff.rfl)
theorem hp_findKey {kt:TypeId} {d:TypeDesc} {k:κ} {es:List MapEntry} {l:List (κ×Value)} {K:Option (Nat×Value)→Heap→Prop} (hu:P.underlying kt=some d) (hd:∀a b:κ,Instr.sameNow d (kV a) (kV b)=some (decide (a=b)))
 (he:es.map (fun e=>(e.key,e.val))=l.map (fun p=>(kV p.1,p.2))):hp P q (Instr.findKey kt (kV k) es) K h↔K (findK k l 0) h:=by
 unfold Instr.findKey
 rw [hp_bind',hp_underlying hu]
 simp only [findNow_eq hd k es l 0 he]
 exact Iff.rfl

def elemT (P:Program) (t:TypeId):Option Value:=match P.underlying t with|some (.map _ et)=>zeroOf P et|_=>none
theorem hp_zeroOf {et:TypeId} {z:Value} {K:VP} (hz:zeroOf P et=some z):hp P q (zeroValue et) K h↔K z h:=by
 unfold zeroOf at hz
 cases hi:P.info? et with
 | none=>rw [hi] at hz; cases hz
 | some i=>rw [hi] at hz; exact hp_zeroValue hi hz

theorem Hp_lookup {t:TypeId} {m:Nat} {l:List (κ×Value)} {k:κ} {z:Value} {ok:Bool} (kt:KeyT P t κ kV) (hz:elemT P t=some z) (hm:MapK kV h m l) :
 Hp P q (Instr.lookup t (.map (some m)) (kV k) ok) K h ⟨⟩↔K (if ok then .tuple #[(look2 k l).getD z,.bool (look2 k l).isSome] else (look2 k l).getD z) h:=by
 obtain ⟨kt',et,d,h1,h2,h3,h4,h5⟩:=kt.out
 obtain ⟨es,cl,m1,m2,m3,m4,m5⟩:=hm
 unfold elemT at hz
 rw [h1] at hz
 simp only at hz
 rw [Hp_iff]
 unfold Instr.lookup
 rw [hp_bind',hp_underlying h1]
 simp only
 rw [hp_bind',hp_getMap m1]
 simp only
 rw [hp_bind',hp_pure,hp_bind',hp_checkKey h2 h3,hp_bind',hp_findKey h2 h4 m2]
 have hl:=findK_look k l 0
 cases hf:findK k l 0 with
 | none =>
  rw [hf] at hl
  simp only [Option.map_none] at hl
  simp only
  rw [hp_bind',hp_zeroOf hz,←hl]
  cases ok<;>exact Iff.rfl
 | some p =>
  rw [hf] at hl
  simp only [Option.map_some] at hl
  rw [←hl]
  cases ok<;>exact Iff.rfl
theorem hp_setMap {r:Nat} {o:Obj} {es:Array MapEntry} {cl:Nat} {K:Unit→Heap→Prop} (hb:h[r]? = some (.map es cl)) (H:K () (h.setIfInBounds r o)):hp P false (setObj r o) K h:=by
 unfold setObj
 simp only [hp,hb]
 exact ⟨trivial,H⟩
theorem findK_at {k:κ}:∀{l:List (κ×Value)} {j i:Nat} {u:Value},findK k l j=some (i,u)→j≤i∧l[i-j]? = some (k,u)
 | [],j,i,u,h=>by simp [findK] at h
 | (a,v)::r,j,i,u,h=>by
  unfold findK at h
  by_cases e:k=a
  ·rw [if_pos e] at h; cases h; subst e; simp
  ·rw [if_neg e] at h
   obtain ⟨h1,h2⟩:=findK_at h
   refine ⟨by omega,?_⟩
   rw [show i-j=(i-(j+1))+1 by omega,List.getElem?_cons_succ]; exact h2
theorem modify_upd {k:κ} {v:Value}:∀{es:List MapEntry} {l:List (κ×Value)} {j i:Nat} {u:Value},es.map (fun e=>(e.key,e.val))=l.map (fun p=>(kV p.1,p.2))→findK k l j=some (i,u) →
 (es.modify (i-j) fun e=>{ e with key:=kV k,val:=v }).map (fun e=>(e.key,e.val))=(upd k v l).map (fun p=>(kV p.1,p.2))
 | es,[],j,i,u,_,h=>by simp [findK] at h
 | [],_::_,j,i,u,he,_=>by simp at he
 | e::es,(a,w)::r,j,i,u,he,h=>by
  simp only [List.map_cons,List.cons.injEq] at he
  unfold findK at h
  unfold upd
  by_cases e2:k=a
  ·rw [if_pos e2] at h ⊢
   cases h
   rw [Nat.sub_self,List.modify_zero_cons]
   simp only [List.map_cons,he.2]
  ·rw [if_neg e2] at h ⊢
   have h1:=findK_at h
   rw [show i-j=(i-(j+1))+1 by omega,List.modify_succ_cons]
   simp only [List.map_cons,he.1,modify_upd he.2 h]
theorem push_upd {k:κ} {v:Value}:∀{l:List (κ×Value)} {j:Nat},findK k l j=none→upd k v l=l++[(k,v)]
 | [],j,_=>rfl
 | (a,w)::r,j,h=>by
  unfold findK at h
  unfold upd
  by_cases e2:k=a
  ·rw [if_pos e2] at h; cases h
  ·rw [if_neg e2] at h ⊢
   rw [push_upd h]; rfl
theorem born_modify {f:MapEntry→MapEntry} (hf:∀e,(f e).born=e.born):∀(es:List MapEntry) (i:Nat),(es.modify i f).map (·.born)=es.map (·.born)
 | [],i=>by simp
 | e::es,0=>by simp [hf]
 | e::es,i+1=>by rw [List.modify_succ_cons]; simp [born_modify hf es i]

theorem Hp_mapUpdate {t:TypeId} {m:Nat} {l:List (κ×Value)} {k:κ} {v:Value} (kt:KeyT P t κ kV) (hm:MapK kV h m l)
 (H:∀h',MapK kV h' m (upd k v l)→Mod (· = m) h h'→K undef h'):Hp P false (unitS (Instr.mapUpdate t (.map (some m)) (kV k) v)) K h ⟨⟩:=by
 obtain ⟨kt',et,d,h1,h2,h3,h4,h5⟩:=kt.out
 obtain ⟨es,cl,m1,m2,m3,m4,m5⟩:=hm
 have hlt:=get_some_lt m1
 rw [Hp_iff]
 unfold unitS Instr.mapUpdate
 rw [hp_bind',hp_bind',hp_underlying h1]
 simp only
 rw [hp_bind',hp_getMap m1]
 simp only
 rw [hp_bind',hp_checkKey h2 h3,hp_bind',hp_findKey h2 h4 m2]
 cases hf:findK k l 0 with
 | none =>
  simp only
  refine hp_setMap m1 ?_
  refine H _ ⟨es++[{ key:=kV k,val:=v,born:=cl }],cl+1,?_,?_,nodup_upd m3,?_,?_⟩ (Mod.put _ _ _)
  ·rw [get_put hlt]; simp
  ·rw [push_upd hf]; simp [m2]
  ·rw [List.map_append,List.pairwise_append]
   refine ⟨m4,by simp,fun a ha b hb => ?_⟩
   obtain ⟨e,he,rfl⟩:=List.mem_map.1 ha
   simp only [List.map_cons,List.map_nil,List.mem_singleton] at hb
   subst hb
   exact m5 e he
  ·intro e he
   rcases List.mem_append.1 he with he|he
   ·have:=m5 e he; omega
   ·simp only [List.mem_singleton] at he; subst he; exact Nat.lt_succ_self _
 | some p =>
  obtain ⟨i,u⟩:=p
  have hat:=findK_at hf
  simp only [Nat.sub_zero] at hat
  have hi:i<es.length:=by
   have h6:=congrArg List.length m2
   simp only [List.length_map] at h6
   rw [h6]; exact (List.getElem?_eq_some_iff.1 hat.2).1
  have hkey:es[i].key=kV k:=by
   have h6:=congrArg (fun x=>x[i]?) m2
   simp only [List.getElem?_map,hat.2,List.getElem?_eq_getElem hi,Option.map_some,Option.some.injEq,Prod.mk.injEq] at h6
   exact h6.1
  simp only
  unfold Instr.keyThatStays
  have hks:((es.toArray[i]?).map (·.key)).getD (kV k)=kV k:=by
   rw [List.getElem?_toArray,List.getElem?_eq_getElem hi]
   simp [hkey]
  rw [hks,hp_bind',if_pos (h5 _ _),hp_pure]
  refine hp_setMap m1 ?_
  refine H _ ⟨es.modify i (fun e=>{ e with key:=kV k,val:=v }),cl,?_,?_,nodup_upd m3,?_,?_⟩ (Mod.put _ _ _)
  ·rw [get_put hlt]; simp
  ·have:=modify_upd (v:=v) m2 hf
   simpa using this
  ·rw [born_modify (f:=fun e=>{ e with key:=kV k,val:=v }) (fun _=>rfl)]; exact m4
  ·intro e he
   have h6:e.born∈(es.modify i (fun e=>{ e with key:=kV k,val:=v })).map (·.born):=List.mem_map_of_mem he
   rw [born_modify (f:=fun e=>{ e with key:=kV k,val:=v }) (fun _=>rfl)] at h6
   obtain ⟨e',he',h7⟩:=List.mem_map.1 h6
   have:=m5 e' he'
   omega

theorem Hp_makeMap {t:TypeId}:Hp P false (Instr.makeMap t none) K h ⟨⟩↔ValT h.size (fun b=>K (.map (some b)) (h.push (.map #[] 0))) ⟨⟩:=by
 rw [ValT_iff,Hp_iff]
 show (false=false∧K _ _)↔_
 simp
theorem MapK.new {b:Nat} (hb:b=h.size):MapK kV (h.push (.map #[] 0)) b [] :=
 ⟨[],0,get_pushed hb,rfl,by simp,by simp,by simp⟩
theorem Hp_lenMap {t ty:TypeId} {m:Nat} {l:List (κ×Value)} (hm:MapK kV h m l) (ht:(match P.underlying t with|some (.map _ _)=>true|_=>false)=true):Hp P q (Builtin.len_ #[t] ty #[.map (some m)]) K h ⟨⟩↔K (.int .i64 l.length) h:=by
 obtain ⟨es,cl,m1,m2,m3,m4,m5⟩:=hm
 have h6:=congrArg List.length m2
 simp only [List.length_map] at h6
 rw [Hp_iff]
 unfold Builtin.len_
 simp only [List.getElem?_toArray,List.getElem?_cons_zero]
 cases hu:P.underlying t with
 | none=>rw [hu] at ht; cases ht
 | some d =>
  rw [hu] at ht
  cases d<;>first|(cases ht; done)|skip
  rw [hp_bind',hp_underlying hu]
  simp only
  rw [hp_bind',hp_getMap m1]
  simp only [List.size_toArray,h6]
  exact Iff.rfl

theorem erase_del {k:κ}:∀{es:List MapEntry} {l:List (κ×Value)} {j i:Nat} {u:Value},es.map (fun e=>(e.key,e.val))=l.map (fun p=>(kV p.1,p.2))→findK k l j=some (i,u) →
 (es.eraseIdx (i-j)).map (fun e=>(e.key,e.val))=(del k l).map (fun p=>(kV p.1,p.2))
 | es,[],j,i,u,_,h=>by simp [findK] at h
 | [],_::_,j,i,u,he,_=>by simp at he
 | e::es,(a,w)::r,j,i,u,he,h=>by
  simp only [List.map_cons,List.cons.injEq] at he
  unfold findK at h
  unfold del
  by_cases e2:k=a
  ·rw [if_pos e2] at h ⊢
   cases h
   rw [Nat.sub_self,List.eraseIdx_cons_zero]
   exact he.2
  ·rw [if_neg e2] at h ⊢
   have h1:=findK_at h
   rw [show i-j=(i-(j+1))+1 by omega,List.eraseIdx_cons_succ]
   simp only [List.map_cons,he.1,erase_del he.2 h]
theorem none_del {k:κ}:∀{l:List (κ×Value)} {j:Nat},findK k l j=none→del k l=l
 | [],j,_=>rfl
 | (a,w)::r,j,h=>by
  unfold findK at h
  unfold del
  by_cases e2:k=a
  ·rw [if_pos e2] at h; cases h
  ·rw [if_neg e2] at h ⊢
   rw [none_del h]
theorem Hp_delete {t t2 ty:TypeId} {m:Nat} {l:List (κ×Value)} {k:κ} (kt:KeyT P t κ kV) (hm:MapK kV h m l)
 (H:∀h',MapK kV h' m (del k l)→Mod (· = m) h h'→K (.tuple #[]) h'):Hp P false (Builtin.delete_ #[t,t2] ty #[.map (some m),kV k]) K h ⟨⟩:=by
 obtain ⟨kt',et,d,h1,h2,h3,h4,h5⟩:=kt.out
 obtain ⟨es,cl,m1,m2,m3,m4,m5⟩:=hm
 have hlt:=get_some_lt m1
 rw [Hp_iff]
 unfold Builtin.delete_
 simp only [List.getElem?_toArray,List.getElem?_cons_succ,List.getElem?_cons_zero]
 rw [hp_bind',hp_underlying h1]
 simp only
 rw [hp_bind',hp_getMap m1]
 simp only
 rw [hp_bind',hp_checkKey h2 h3,hp_bind',hp_findKey h2 h4 m2]
 cases hf:findK k l 0 with
 | none =>
  simp only
  rw [hp_bind']
  refine hp_setMap m1 ?_
  show K _ _
  refine H _ ⟨es,cl,?_,by rw [none_del hf]; exact m2,nodup_del m3,m4,m5⟩ (Mod.put _ _ _)
  rw [get_put hlt]
 | some p =>
  obtain ⟨i,u⟩:=p
  have hat:=findK_at hf
  simp only [Nat.sub_zero] at hat
  have hi:i<es.length:=by
   have h6:=congrArg List.length m2
   simp only [List.length_map] at h6
   rw [h6]; exact (List.getElem?_eq_some_iff.1 hat.2).1
  simp only
  rw [hp_bind']
  refine hp_setMap m1 ?_
  show K _ _
  refine H _ ⟨es.eraseIdx i,cl,?_,?_,nodup_del m3,?_,?_⟩ (Mod.put _ _ _)
  ·rw [get_put hlt]
   simp [Array.eraseIdxIfInBounds,hi]
  ·have:=erase_del m2 hf
   simpa using this
  ·exact m4.sublist ((List.eraseIdx_sublist _ _).map _)
  ·intro e he
   exact m5 e (List.mem_of_mem_eraseIdx he)
end
end Go.Vc

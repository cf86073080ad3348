/- Ranges over maps from which keys are taken meanwhile. -/
import Derived.Test.YtcbbdnaelimpfaaGreatVcMapL
namespace Go.Vc
open Go
set_option linter.unusedSimpArgs false
set_option linter.unusedVariables false
set_option linter.unusedSectionVars false
section
variable {P:Program} {q:Bool} {K:VP} {h:Heap} {κ:Type} [DecidableEq κ] {kV:κ→Value}

def MapItD (kV:κ→Value) (h:Heap) (it m:Nat) (l:List (κ×Value)) (T:List κ):Prop :=
 ∃(es:List MapEntry) (cl:Nat) (seen:List Nat),h[m]? = some (.map es.toArray cl)∧es.map (fun e=>(e.key,e.val))=l.map (fun p=>(kV p.1,p.2))∧(l.map (·.1)).Nodup∧(es.map (·.born)).Pairwise (· < ·)∧(∀e∈es,e.born<cl) ∧
  h[it]? = some (.mapIter (some m) cl seen.toArray cl)∧(∀e∈es,∀k,e.key=kV k→(e.born∈seen↔k∈T))∧(∀k,T.getLast? = some k→∀e∈es,e.key=kV k→seen.getLast? = some e.born)∧it≠m
theorem MapItD.map {it m:Nat} {l:List (κ×Value)} {T:List κ} (a:MapItD kV h it m l T):MapK kV h m l:=by
 obtain ⟨es,cl,seen,m1,m2,m3,m4,m5,_⟩:=a
 exact ⟨es,cl,m1,m2,m3,m4,m5⟩
theorem MapItD.mod {S:Nat→Prop} {h':Heap} {it m:Nat} {l:List (κ×Value)} {T:List κ} (a:MapItD kV h it m l T) (e:Mod S h h') (h1:¬S it) (h2:¬S m):MapItD kV h' it m l T:=by
 obtain ⟨es,cl,seen,m1,m2,m3,m4,m5,m6,m7⟩:=a
 exact ⟨es,cl,seen,(e.block m (get_some_lt m1) h2).trans m1,m2,m3,m4,m5,(e.block it (get_some_lt m6) h1).trans m6,m7⟩
theorem MapItD.ext {h':Heap} {it m:Nat} {l:List (κ×Value)} {T:List κ} (a:MapItD kV h it m l T) (e:Ext h h'):MapItD kV h' it m l T:=a.mod (S:=fun _=>False) (.of_ext e) (fun h=>h) (fun h=>h)
theorem Hp_rangeD {t:TypeId} {m:Nat} {l:List (κ×Value)} (ht:isMapB P t=true) (hm:MapK kV h m l)
 (H:∀h',Ext h h'→MapItD kV h' h.size m l []→h'.size=h.size+1→K (.pointer (some ⟨h.size,0,none⟩)) h'):Hp P false (Instr.range t (.map (some m))) K h ⟨⟩:=by
 have hnd:=hm.nodup
 refine Hp_rangeM ht hm fun h' e a z=>H h' e ?_ z
 obtain ⟨es,cl,m1,m2,m4,m5,m6,m7,m8⟩:=a
 exact ⟨es,cl,[],m1,m2,hnd,m4,m5,by simpa using m6,fun e he k hk=>by simp,fun k hk=>by simp at hk,m8⟩
theorem Hp_nextD {it m:Nat} {l:List (κ×Value)} {T:List κ} {ty:TypeId} (hinj:∀a b:κ,kV a=kV b→a=b) (hm:MapItD kV h it m l T)
 (H1:∀i (hi:i<l.length),l[i].1∉T→∀h',Mod (· = it) h h'→MapItD kV h' it m l (T++[l[i].1])→K (.tuple #[.bool true,kV l[i].1,l[i].2]) h')
 (H0:(∀p∈l,p.1∈T)→K (.tuple #[.bool false]) h):Hp P false (Instr.next (.pointer (some ⟨it,0,none⟩)) false ty) K h ⟨⟩:=by
 obtain ⟨es,cl,seen,m1,m2,m3,m4,m5,m6,m7,m9,m8⟩:=hm
 have hll:es.length=l.length:=by have:=congrArg List.length m2; simpa using this
 have hilt:=get_some_lt m6
 have hkv:∀i (hi:i<es.length),es[i].key=kV (l[i]'omg).1∧es[i].val=(l[i]'omg).2:=fun i hi=>by
  have h6:=congrArg (fun x=>x[i]?) m2
  simp only [List.getElem?_map,List.getElem?_eq_getElem hi,List.getElem?_eq_getElem (show i<l.length by omega),Option.map_some,Option.some.injEq] at h6
  exact Prod.mk.inj h6
 rw [Hp_iff]
 unfold Instr.next
 simp only
 rw [hp_bind',hp_getIter m6]
 simp only
 rw [hp_bind',hp_getMap m1]
 simp only
 have hno:(!seen.toArray.isEmpty && !es.toArray.isEmpty&&es.toArray.all (fun x=>decide (x.born≥cl)))=false:=by
  cases es with
  | nil=>simp
  | cons e es' =>
   have:=m5 e List.mem_cons_self
   simp; omega
 rw [if_neg (by rw [hno]; simp)]
 generalize hL:es.toArray.filter (fun e => !seen.toArray.contains e.born)=left
 have hmem:∀e∈left,e∈es∧e.born∉seen:=fun e he=>by
  rw [←hL] at he
  simpa using he
 have hold:left.filter (fun e=>decide (e.born<cl))=left:=by
  rw [Array.filter_eq_self]
  intro e he
  simpa using m5 e (hmem e he).1
 have hnew:left.filter (fun e=>decide (e.born≥cl)) = #[]:=by
  rw [Array.filter_eq_empty_iff]
  intro e he
  have:=m5 e (hmem e he).1
  simp; omega
 rw [hold,hnew,Array.append_empty]
 by_cases hz:left = #[]
 ·have hall:∀p∈l,p.1∈T:=fun p hp=>by
   obtain ⟨i,hi,rfl⟩:=List.getElem_of_mem hp
   have hie:i<es.length:=by omega
   have he:es[i]∉left:=by rw [hz]; simp
   have:es[i].born∈seen:=by
    by_cases hb:es[i].born∈seen
    ·exact hb
    ·exact absurd (by rw [←hL]; simpa using hb) he
   exact (m7 es[i] (List.getElem_mem hie) _ (hkv i hie).1).1 this
  subst hz
  rw [hp_bind']
  refine hp_choose_map sM fun t ht => ?_
  simp at ht
  subst ht
  simp
  exact H0 hall
 ·have hne:left.isEmpty=false:=by simpa using hz
  rw [hne,hp_bind']
  refine hp_choose_map (by simp; exact Nat.pos_of_ne_zero (fun e=>hz (Array.eq_empty_of_size_eq_zero e))) fun t ht => ?_
  simp at ht
  obtain ⟨he,hb⟩:=hmem left[t] (Array.getElem_mem ht)
  obtain ⟨i,hi,hie⟩:=List.mem_iff_getElem.1 he
  obtain ⟨hk1,hk2⟩:=hkv i hi
  rw [hie] at hk1 hk2
  have hiT:(l[i]'omg).1∉T:=fun hT=>hb ((m7 left[t] he _ hk1).2 hT)
  have hc:(#[]++Array.map some left)[t]? = some (some left[t]):=by simp [ht]
  simp only [Bool.false_eq_true,if_false,hc]
  rw [hp_bind']
  refine hp_setIter m6 ?_
  show K _ _
  rw [hk1,hk2]
  have same:∀e∈es,e.key=left[t].key→e=left[t]:=fun e he2 hke=>by
   obtain ⟨j,hj,rfl⟩:=List.mem_iff_getElem.1 he2
   have h1:=(hkv j hj).1
   rw [hke,hk1] at h1
   have h2:=hinj _ _ h1
   have hnd:=List.pairwise_iff_getElem.1 m3
   have hij:i=j:=by
    rcases Nat.lt_trichotomy i j with h|h|h
    ·exact absurd (by rw [List.getElem_map,List.getElem_map]; exact h2) (hnd i j (by simp; omega) (by simp; omega) h)
    ·exact h
    ·exact absurd (by rw [List.getElem_map,List.getElem_map]; exact h2.symm) (hnd j i (by simp; omega) (by simp; omega) h)
   subst hij
   exact hie
  refine H1 i omg hiT _ (Mod.put _ _ _) ⟨es,cl,seen++[left[t].born],?_,m2,m3,m4,m5,?_,fun e he2 k hk => ?_,fun k hk e he2 hke => ?_,m8⟩
  ·rw [get_putne omg]; exact m1
  ·rw [get_put hilt]
   simp
  ·rw [List.mem_append,List.mem_append,m7 e he2 k hk,List.mem_singleton,List.mem_singleton]
   constructor
   ·rintro (h|h)
    ·exact .inl h
    ·obtain ⟨j,hj,hje⟩:=List.mem_iff_getElem.1 he2
     have hij:j=i:=born_inj m4 hj hi (by rw [hje,hie]; exact h)
     subst hij
     rw [hie] at hje
     rw [←hje,hk1] at hk
     exact .inr (hinj _ _ hk).symm
   ·rintro (h|h)
    ·exact .inl h
    ·rw [same e he2 (by rw [hk,h,hk1])]
     exact .inr rfl
  ·rw [List.getLast?_append,List.getLast?_singleton] at hk
   have hk':l[i].1=k:=by simpa using hk
   rw [same e he2 (by rw [hke,←hk',hk1])]
   simp
theorem Hp_entryD {it m:Nat} {l:List (κ×Value)} {T:List κ} {i:Nat} {k:κ} (hm:MapItD kV h it m l (T++[k])) (hi:i<l.length) (hk:l[i].1=k) :
 Hp P q (Instr.entry (.pointer (some ⟨it,0,none⟩))) K h ⟨⟩↔K (.tuple #[kV l[i].1,l[i].2]) h:=by
 obtain ⟨es,cl,seen,m1,m2,m3,m4,m5,m6,m7,m9,m8⟩:=hm
 have hll:es.length=l.length:=by have:=congrArg List.length m2; simpa using this
 have hie:i<es.length:=by omega
 have hkv:(es[i].key,es[i].val)=(kV l[i].1,l[i].2):=by
  have h6:=congrArg (fun x=>x[i]?) m2
  simp only [List.getElem?_map,List.getElem?_eq_getElem hie,List.getElem?_eq_getElem hi,Option.map_some,Option.some.injEq] at h6
  exact h6
 have hfind:es.toArray.find? (fun e=>e.born==es[i].born)=some es[i]:=by
  rw [List.find?_toArray]
  rw [List.find?_eq_some_iff_getElem]
  refine ⟨by simp,i,hie,rfl,fun j hj => ?_⟩
  have hne:¬es[j].born=es[i].born:=fun e=>by have:=born_inj m4 omg hie e; omega
  simpa using hne
 have hback:seen.toArray.back? = some es[i].born:=by
  have:=m9 k sM es[i] (List.getElem_mem hie) (by rw [←hk]; exact (Prod.mk.inj hkv).1)
  rw [List.back?_toArray]; exact this
 rw [Hp_iff]
 unfold Instr.entry
 simp only
 rw [hp_bind',hp_getIter m6]
 simp only [hback]
 rw [hp_bind',hp_getMap m1]
 simp only [bne_self_eq_false,Bool.false_eq_true,if_false,hfind]
 rw [show es[i].key=kV l[i].1 from (Prod.mk.inj hkv).1,show es[i].val=l[i].2 from (Prod.mk.inj hkv).2]
 exact Iff.rfl
theorem Hp_deleteD {t t2 ty:TypeId} {it m:Nat} {l:List (κ×Value)} {T:List κ} {k:κ} (kt:KeyT P t κ kV) (hm:MapItD kV h it m l T)
 (H:∀h',MapItD kV h' it m (del k l) T→Mod (· = m) h h'→K (.tuple #[]) h'):Hp P false (Builtin.delete_ #[t,t2] ty #[.map (some m),kV k]) K h ⟨⟩:=by
 obtain ⟨kt',et,d,h1,h2,h3,h4,h5⟩:=kt.out
 obtain ⟨es,cl,seen,m1,m2,m3,m4,m5,m6,m7,m9,m8⟩:=hm
 have hlt:=get_some_lt m1
 rw [Hp_iff]
 unfold Builtin.delete_
 simp only [List.getElem?_toArray,List.getElem?_cons_succ,List.getElem?_cons_zero]
 rw [hp_bind',hp_underlying h1]
 simp only
 rw [hp_bind',hp_getMap m1]
 simp only
 rw [hp_bind',hp_checkKey h2 h3,hp_bind',hp_findKey h2 h4 m2]
 cases hf:findK k l 0 with
 | none =>
  simp only
  rw [hp_bind']
  refine hp_setMap m1 ?_
  show K _ _
  refine H _ ⟨es,cl,seen,?_,by rw [none_del hf]; exact m2,nodup_del m3,m4,m5,?_,m7,m9,m8⟩ (Mod.put _ _ _)
  ·rw [get_put hlt]
  ·rw [get_putne omg]; exact m6
 | some p =>
  obtain ⟨i,u⟩:=p
  have hat:=findK_at hf
  simp only [Nat.sub_zero] at hat
  have hi:i<es.length:=by
   have h6:=congrArg List.length m2
   simp only [List.length_map] at h6
   rw [h6]; exact (List.getElem?_eq_some_iff.1 hat.2).1
  simp only
  rw [hp_bind']
  refine hp_setMap m1 ?_
  show K _ _
  refine H _ ⟨es.eraseIdx i,cl,seen,?_,?_,nodup_del m3,?_,?_,?_,fun e he=>m7 e (List.mem_of_mem_eraseIdx he),fun k hk e he=>m9 k hk e (List.mem_of_mem_eraseIdx he),m8⟩ (Mod.put _ _ _)
  ·rw [get_put hlt]
   simp [Array.eraseIdxIfInBounds,hi]
  ·have:=erase_del m2 hf
   simpa using this
  ·exact m4.sublist ((List.eraseIdx_sublist _ _).map _)
  ·intro e he
   exact m5 e (List.mem_of_mem_eraseIdx he)
  ·rw [get_putne omg]; exact m6
def leftD (l:List (κ×Value)) (T:List κ):Nat:=(l.filter (fun p => !T.contains p.1)).length
theorem leftD_next {l:List (κ×Value)} {T:List κ} {p:κ×Value} (hp:p∈l) (hT:p.1∉T):leftD l (T++[p.1])<leftD l T:=by
 unfold leftD
 have h1:l.filter (fun p' => !(T++[p.1]).contains p'.1)=(l.filter (fun p => !T.contains p.1)).filter (fun p' => !decide (p'.1=p.1)):=by
  rw [List.filter_filter]
  apply List.filter_congr
  intro x _
  rw [Bool.eq_iff_iff]
  simp
  exact ⟨fun h=>⟨h.2,h.1⟩,fun h=>⟨h.2,h.1⟩⟩
 rw [h1]
 refine List.length_filter_lt_length_iff_exists.2 ⟨p,?_,by simp⟩
 rw [List.mem_filter]
 exact ⟨hp,by simpa using hT⟩
theorem del_sublist {k:κ}:∀{l:List (κ×Value)},(del k l).Sublist l
 | []=>by simp [del]
 | (a,u)::r=>by
  unfold del
  split
  ·exact List.sublist_cons_self _ _
  ·exact (del_sublist (l:=r)).cons_cons _
theorem leftD_del {l:List (κ×Value)} {T:List κ} {k:κ}:leftD (del k l) T≤leftD l T:=(del_sublist.filter _).length_le
theorem loopMapD {body:(Heap→Prop)→Heap→Prop} {it m:Nat} {l0:List (κ×Value)} (Φ:List (κ×Value)→List κ→Heap→Prop) (h0:MapItD kV h it m l0 []) (hΦ:Φ l0 [] h)
 (hb:∀l T h,MapItD kV h it m l T→Φ l T h→∀X:Heap→Prop,(∀l' T' h',MapItD kV h' it m l' T'→Φ l' T' h'→leftD l' T'<leftD l T→X h')→body X h):LoopC 0 body [] h ⟨⟩:=by
 refine loopA0 (α:=List (κ×Value)×List κ) (fun p h=>MapItD kV h it m p.1 p.2∧Φ p.1 p.2 h) (fun p=>leftD p.1 p.2) (l0,[]) ⟨h0,hΦ⟩ ?_
 rintro ⟨l,T⟩ g ⟨h1,h2⟩
 exact hb l T g h1 h2 _ (fun l' T' h' hm hp hlt=>⟨(l',T'),⟨hm,hp⟩,hlt⟩)
theorem filter_del {p:κ→Value→Bool} {k:κ} {v:Value}:∀{l:List (κ×Value)},(l.map (·.1)).Nodup→(k,v)∈l→del k l=l.filter (fun e => !decide (e.1=k))
 | [],_,h=>by cases h
 | (a,u)::r,hn,h=>by
  simp only [List.map_cons,List.nodup_cons] at hn
  unfold del
  by_cases e:k=a
  ·subst e
   rw [if_pos rfl,List.filter_cons_of_neg sM,eq_comm,List.filter_eq_self]
   intro x hx
   have:x.1≠k:=fun e=>hn.1 (by rw [←e]; exact List.mem_map_of_mem hx)
   simpa using this
  ·have h':(k,v)∈r:=(List.mem_cons.1 h).resolve_left (fun e2=>e (by injection e2))
   rw [if_neg e,List.filter_cons_of_pos (by simpa using fun e2=>e e2.symm),filter_del (p:=p) hn.2 h']
end
end Go.Vc

/- Rules for ranges over maps that stay as they are meanwhile. -/
import Derived.Test.YtcbbdnaelimpfaaGreatVcMap
namespace Go.Vc
open Go
set_option linter.unusedSimpArgs false
set_option linter.unusedVariables false
set_option linter.unusedSectionVars false
section
variable {P:Program} {q:Bool} {K:VP} {h:Heap} {κ:Type} [DecidableEq κ] {kV:κ→Value}

def bornAt (es:List MapEntry) (i:Nat):Nat:=(es[i]?.map (·.born)).getD 0
def MapIt (kV:κ→Value) (h:Heap) (it m:Nat) (l:List (κ×Value)) (I:List Nat):Prop :=
 ∃(es:List MapEntry) (cl:Nat),h[m]? = some (.map es.toArray cl)∧es.map (fun e=>(e.key,e.val))=l.map (fun p=>(kV p.1,p.2))∧(es.map (·.born)).Pairwise (· < ·)∧(∀e∈es,e.born<cl) ∧
  h[it]? = some (.mapIter (some m) cl (I.map (bornAt es)).toArray cl)∧(∀i∈I,i<es.length)∧it≠m
theorem MapIt.mod {S:Nat→Prop} {h':Heap} {it m:Nat} {l:List (κ×Value)} {I:List Nat} (a:MapIt kV h it m l I) (e:Mod S h h') (h1:¬S it) (h2:¬S m):MapIt kV h' it m l I:=by
 obtain ⟨es,cl,m1,m2,m4,m5,m6,m7,m8⟩:=a
 exact ⟨es,cl,(e.block m (get_some_lt m1) h2).trans m1,m2,m4,m5,(e.block it (get_some_lt m6) h1).trans m6,m7,m8⟩
theorem hp_choose_map {n:Nat} (hn:0<n) {K:Nat→Heap→Prop} (H:∀t,t<n→K t h):hp P false (choose (.mapNext n)) K h:=by
 show hp P false (.choose (.mapNext n) .pure) K h
 simp only [hp,Question.forced]
 by_cases h1:n≤1
 ·rw [if_pos (by simpa using h1)]
  exact H 0 hn
 ·rw [if_neg (by simpa using h1)]
  refine ⟨trivial,fun t=>H _ ?_⟩
  simp only [Question.cut]
  exact Nat.mod_lt _ hn
theorem hp_getIter {r:Nat} {m:Option Nat} {c d:Nat} {s:Array Nat} {K:Obj→Heap→Prop} (hb:h[r]? = some (.mapIter m c s d)):hp P q (getObj r) K h↔K (.mapIter m c s d) h:=by
 unfold getObj
 simp only [hp,hb]
theorem hp_setIter {r:Nat} {o:Obj} {m:Option Nat} {c d:Nat} {s:Array Nat} {K:Unit→Heap→Prop} (hb:h[r]? = some (.mapIter m c s d)) (H:K () (h.setIfInBounds r o)):hp P false (setObj r o) K h:=by
 show _∧_
 refine ⟨rfl,?_⟩
 simp only [hb]
 exact H
theorem bornAt_eq {es:List MapEntry} {i:Nat} (hi:i<es.length):bornAt es i=es[i].born:=by
 unfold bornAt
 rw [List.getElem?_eq_getElem hi]; rfl
theorem born_inj {es:List MapEntry} (hp:(es.map (·.born)).Pairwise (· < ·)) {i j:Nat} (hi:i<es.length) (hj:j<es.length) (e:es[i].born=es[j].born):i=j:=by
 have:=List.pairwise_iff_getElem.1 hp
 rcases Nat.lt_trichotomy i j with h|h|h
 ·have:=this i j (by simpa using hi) (by simpa using hj) h; simp at this; omega
 ·exact h
 ·have:=this j i (by simpa using hj) (by simpa using hi) h; simp at this; omega

theorem Hp_range {t:TypeId} {kt et:TypeId} {m:Nat} {l:List (κ×Value)} (ht:P.underlying t=some (.map kt et)) (hm:MapK kV h m l)
 (H:∀h',Ext h h'→MapIt kV h' h.size m l []→h'.size=h.size+1→K (.pointer (some ⟨h.size,0,none⟩)) h') :
 Hp P false (Instr.range t (.map (some m))) K h ⟨⟩:=by
 obtain ⟨es,cl,m1,m2,m3,m4,m5⟩:=hm
 have hlt:=get_some_lt m1
 rw [Hp_iff]
 unfold Instr.range
 rw [hp_bind',hp_underlying ht]
 simp only
 rw [hp_bind',hp_getMap m1]
 simp only
 rw [hp_bind',hp_pure,hp_bind']
 show _∧_
 refine ⟨rfl,?_⟩
 show K _ _
 refine H _ (push_ext (.refl _)) ⟨es,cl,?_,m2,m4,m5,?_,by simp,by omega⟩ sM
 ·rw [get_push hlt]; exact m1
 ·simp

theorem Hp_next {it m:Nat} {l:List (κ×Value)} {I:List Nat} {ty:TypeId} (hm:MapIt kV h it m l I)
 (H1:∀i (hi:i<l.length),i∉I→∀h',Mod (· = it) h h'→MapIt kV h' it m l (I++[i])→K (.tuple #[.bool true,kV l[i].1,l[i].2]) h')
 (H0:(∀i,i<l.length→i∈I)→K (.tuple #[.bool false]) h):Hp P false (Instr.next (.pointer (some ⟨it,0,none⟩)) false ty) K h ⟨⟩:=by
 obtain ⟨es,cl,m1,m2,m4,m5,m6,m7,m8⟩:=hm
 have hll:es.length=l.length:=by have:=congrArg List.length m2; simpa using this
 have hilt:=get_some_lt m6
 rw [Hp_iff]
 unfold Instr.next
 simp only
 rw [hp_bind',hp_getIter m6]
 simp only
 rw [hp_bind',hp_getMap m1]
 simp only
 have hno:(!(List.map (bornAt es) I).toArray.isEmpty && !es.toArray.isEmpty&&es.toArray.all (fun x=>decide (x.born≥cl)))=false:=by
  cases es with
  | nil=>simp
  | cons e es' =>
   have:=m5 e List.mem_cons_self
   simp; omega
 rw [if_neg (by rw [hno]; simp)]
 generalize hL:es.toArray.filter (fun e => !(List.map (bornAt es) I).toArray.contains e.born)=left
 have hmem:∀e∈left,e∈es∧e.born∉List.map (bornAt es) I:=fun e he=>by
  rw [←hL] at he
  simpa using he
 have hold:left.filter (fun e=>decide (e.born<cl))=left:=by
  rw [Array.filter_eq_self]
  intro e he
  simpa using m5 e (hmem e he).1
 have hnew:left.filter (fun e=>decide (e.born≥cl)) = #[]:=by
  rw [Array.filter_eq_empty_iff]
  intro e he
  have:=m5 e (hmem e he).1
  simp; omega
 rw [hold,hnew,Array.append_empty]
 by_cases hz:left = #[]
 ·have hall:∀i,i<l.length→i∈I:=fun i hi=>by
   have he:es[i]∉left:=by rw [hz]; simp
   have:es[i].born∈List.map (bornAt es) I:=by
    by_cases hb:es[i].born∈List.map (bornAt es) I
    ·exact hb
    ·exact absurd (by rw [←hL]; simpa using hb) he
   obtain ⟨j,hj,hjb⟩:=List.mem_map.1 this
   rw [bornAt_eq (m7 j hj)] at hjb
   rw [←born_inj m4 (m7 j hj) omg hjb]
   exact hj
  subst hz
  rw [hp_bind']
  refine hp_choose_map sM fun t ht => ?_
  simp at ht
  subst ht
  simp
  exact H0 hall
 ·have hne:left.isEmpty=false:=by simpa using hz
  rw [hne,hp_bind']
  refine hp_choose_map (by simp; exact Nat.pos_of_ne_zero (fun e=>hz (Array.eq_empty_of_size_eq_zero e))) fun t ht => ?_
  simp at ht
  obtain ⟨he,hb⟩:=hmem left[t] (Array.getElem_mem ht)
  obtain ⟨i,hi,hie⟩:=List.mem_iff_getElem.1 he
  have hiI:i∉I:=fun hI=>hb (List.mem_map.2 ⟨i,hI,by rw [bornAt_eq hi,hie]⟩)
  have hkv:(left[t].key,left[t].val)=(kV (l[i]'omg).1,(l[i]'omg).2):=by
   have h6:=congrArg (fun x=>x[i]?) m2
   simp only [List.getElem?_map,List.getElem?_eq_getElem hi,List.getElem?_eq_getElem (show i<l.length by omega),Option.map_some,Option.some.injEq,hie] at h6
   exact h6
  have hc:(#[]++Array.map some left)[t]? = some (some left[t]):=by simp [ht]
  simp only [Bool.false_eq_true,if_false,hc]
  rw [hp_bind']
  refine hp_setIter m6 ?_
  show K _ _
  have hk1:left[t].key=kV (l[i]'omg).1:=(Prod.mk.inj hkv).1
  have hk2:left[t].val=(l[i]'omg).2:=(Prod.mk.inj hkv).2
  rw [hk1,hk2]
  refine H1 i omg hiI _ (Mod.put _ _ _) ⟨es,cl,?_,m2,m4,m5,?_,?_,m8⟩
  ·rw [get_putne omg]; exact m1
  ·rw [get_put hilt]
   simp [bornAt_eq hi,hie]
  ·intro j hj
   rcases List.mem_append.1 hj with hj|hj
   ·exact m7 j hj
   ·rw [List.mem_singleton.1 hj]; exact hi
theorem Hp_entry {it m:Nat} {l:List (κ×Value)} {I:List Nat} {i:Nat} (hm:MapIt kV h it m l (I++[i])) (hi:i<l.length) :
 Hp P q (Instr.entry (.pointer (some ⟨it,0,none⟩))) K h ⟨⟩↔K (.tuple #[kV l[i].1,l[i].2]) h:=by
 obtain ⟨es,cl,m1,m2,m4,m5,m6,m7,m8⟩:=hm
 have hll:es.length=l.length:=by have:=congrArg List.length m2; simpa using this
 have hie:i<es.length:=by omega
 have hkv:(es[i].key,es[i].val)=(kV l[i].1,l[i].2):=by
  have h6:=congrArg (fun x=>x[i]?) m2
  simp only [List.getElem?_map,List.getElem?_eq_getElem hie,List.getElem?_eq_getElem hi,Option.map_some,Option.some.injEq] at h6
  exact h6
 have hfind:es.toArray.find? (fun e=>e.born==es[i].born)=some es[i]:=by
  rw [List.find?_toArray]
  rw [List.find?_eq_some_iff_getElem]
  refine ⟨by simp,i,hie,rfl,fun j hj => ?_⟩
  have hne:¬es[j].born=es[i].born:=fun e=>by have:=born_inj m4 omg hie e; omega
  simpa using hne
 have hback:(List.map (bornAt es) (I++[i])).toArray.back? = some es[i].born:=by
  rw [List.map_append]
  simp [bornAt_eq hie]
 rw [Hp_iff]
 unfold Instr.entry
 simp only
 rw [hp_bind',hp_getIter m6]
 simp only [hback]
 rw [hp_bind',hp_getMap m1]
 simp only [bne_self_eq_false,Bool.false_eq_true,if_false,hfind]
 rw [show es[i].key=kV l[i].1 from (Prod.mk.inj hkv).1,show es[i].val=l[i].2 from (Prod.mk.inj hkv).2]
 exact Iff.rfl
theorem Hp_clearMap {t t':TypeId} {kt et:TypeId} {m:Nat} {l:List (κ×Value)} (ht:P.underlying t=some (.map kt et)) (hm:MapK kV h m l) (H:∀h',MapK kV h' m []→Mod (· = m) h h'→K (.tuple #[]) h') :
 Hp P false (Builtin.clear_ #[t] t' #[.map (some m)]) K h ⟨⟩:=by
 obtain ⟨es,cl,m1,m2,m3,m4,m5⟩:=hm
 have hlt:=get_some_lt m1
 rw [Hp_iff]
 unfold Builtin.clear_
 simp only [List.getElem?_toArray,List.getElem?_cons_zero]
 rw [hp_bind',hp_underlying ht]
 try simp only
 rw [hp_bind',hp_getMap m1]
 try simp only
 rw [hp_bind']
 refine hp_setMap m1 ?_
 refine H _ ⟨[],cl,?_,rfl,by simp,by simp,by simp⟩ (Mod.put _ _ _)
 rw [get_put hlt]
end
end Go.Vc

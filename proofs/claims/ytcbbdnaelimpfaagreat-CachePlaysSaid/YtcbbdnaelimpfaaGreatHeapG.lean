/- container/heap,over anything that has Len,Less,Swap. -/
import Derived.Test.YtcbbdnaelimpfaaGreatNice
import Derived.Test.YtcbbdnaelimpfaaGreatFacts
import Derived.Test.YtcbbdnaelimpfaaGreatSrtK
set_option linter.unusedSimpArgs false
set_option linter.unusedVariables false
set_option linter.unusedSectionVars false
namespace Go.Proofs.YtcbbdnaelimpfaaGreat
open Go.Vc Go.Sort
section
variable {K:VP} {h:Heap} {ε:Type} [Inhabited ε] {lt:ε→ε→Bool} {S:Heap→List ε→Prop} {hv:Value} {E:List ε}

def atE (E:List ε) (i:Nat):ε:=E.getD i default
theorem atE_get {i:Nat} (hi:i<E.length):atE E i=E[i]:=by unfold atE; rw [List.getD_eq_getElem?_getD,List.getElem?_eq_getElem hi]; rfl
theorem atE_none {i:Nat} (hi:¬i<E.length):atE E i=default:=by unfold atE; rw [List.getD_eq_getElem?_getD,List.getElem?_eq_none omg]; rfl
def swapE (E:List ε) (i j:Nat):List ε:=(E.set i (atE E j)).set j (atE E i)
theorem swapE_len (E:List ε) (i j:Nat):(swapE E i j).length=E.length:=by unfold swapE; simp
theorem atE_swap {i j k:Nat} (hi:i<E.length) (hj:j<E.length):atE (swapE E i j) k=if k=j then atE E i else if k=i then atE E j else atE E k:=by
 unfold swapE
 by_cases e1:k=j
 ·subst e1
  rw [if_pos rfl,atE_get (by simpa using hj),List.getElem_set_self]
 ·rw [if_neg e1]
  by_cases hk:k<E.length
  ·rw [atE_get (by simpa using hk),List.getElem_set_ne (Ne.symm e1)]
   by_cases e2:k=i
   ·subst e2; rw [if_pos rfl,List.getElem_set_self]
   ·rw [if_neg e2,List.getElem_set_ne (Ne.symm e2),atE_get hk]
  ·rw [if_neg omg,atE_none hk,atE_none (by simpa using hk)]
theorem swapE_perm {i j:Nat} (hi:i<E.length) (hj:j<E.length):(swapE E i j).Perm E:=by
 unfold swapE
 rw [atE_get hi,atE_get hj]
 exact List.set_set_perm hi hj
def okE (lt:ε→ε→Bool) (E:List ε) (i j:Nat):Prop:=lt (atE E j) (atE E i)=false
def HOkE (lt:ε→ε→Bool) (E:List ε) (n lo:Nat):Prop:=∀k,0<k→k<n→lo≤(k-1)/2→okE lt E ((k-1)/2) k
def DownE (lt:ε→ε→Bool) (E:List ε) (n lo i:Nat):Prop :=
 (∀k,0<k→k<n→lo≤(k-1)/2→(k-1)/2≠i→okE lt E ((k-1)/2) k)∧(0<i→lo≤(i-1)/2→∀k,0<k→k<n→(k-1)/2=i→okE lt E ((i-1)/2) k)
theorem DownE.step (hw:SWO lt) {n lo i j:Nat} (d:DownE lt E n lo i) (hj:j<n) (hjW:n≤E.length) (j0:0<j) (hji:(j-1)/2=i) (hlt:lt (atE E j) (atE E i)=true) (hmin:∀k,0<k→k<n→(k-1)/2=i→okE lt E j k) (hlo:lo≤i):DownE lt (swapE E i j) n lo j:=by
 have hi:i<E.length:=by omega
 have hj':j<E.length:=by omega
 have hij:i≠j:=by omega
 have hasym:lt (atE E i) (atE E j)=false:=by
  cases hc:lt (atE E i) (atE E j) with
  | false=>rfl
  | true =>
   have:=hw.trans _ _ _ hlt hc
   rw [hw.irrefl] at this; cases this
 refine ⟨fun k k0 kn klo hk => ?_,fun _ jlo k k0 kn hk => ?_⟩
 ·unfold okE
  rw [atE_swap hi hj',atE_swap hi hj',if_neg hk]
  by_cases e1:k=j
  ·subst e1
   rw [if_pos rfl,if_pos hji]
   exact hasym
  ·rw [if_neg e1]
   by_cases e2:(k-1)/2=i
   ·rw [if_pos e2,if_neg omg]
    exact hmin k k0 kn e2
   ·rw [if_neg e2]
    by_cases e3:k=i
    ·rw [if_pos e3]
     subst e3
     exact d.2 k0 klo j j0 hj hji
    ·rw [if_neg e3]
     exact d.1 k k0 kn klo e2
 ·unfold okE
  rw [atE_swap hi hj',atE_swap hi hj',if_neg omg,if_pos hji,if_neg omg,if_neg omg]
  have:=d.1 k k0 kn omg omg
  rw [hk] at this
  exact this
theorem DownE.done {n lo i:Nat} (d:DownE lt E n lo i) (hc:∀k,0<k→k<n→(k-1)/2=i→okE lt E i k):HOkE lt E n lo:=fun k k0 kn klo=>by
 by_cases e:(k-1)/2=i
 ·rw [e]; exact hc k k0 kn e
 ·exact d.1 k k0 kn klo e
theorem HOkE.down {n lo:Nat} (d:HOkE lt E n (lo+1)):DownE lt E n lo lo :=
 ⟨fun k k0 kn klo hk=>d k k0 kn omg,fun h0 hl=>by omega⟩
theorem HOkE.min (hw:SWO lt) {n:Nat} (d:HOkE lt E n 0):∀i,i<n→okE lt E 0 i:=by
 intro i
 induction i using Nat.strongRecOn with
 | _ i ih =>
  intro hi
  rcases Nat.eq_zero_or_pos i with rfl|h0
  ·exact hw.irrefl _
  ·have h1:=ih ((i-1)/2) omg omg
   have h2:=d i h0 hi (Nat.zero_le _)
   exact hw.ntrans _ _ _ h2 h1

structure HI (lt:ε→ε→Bool) (S:Heap→List ε→Prop) (hv:Value):Prop where
 few:∀{h E},S h E→E.length<100000
 len : ∀ {h : Heap} {E : List ε} {K : VP}, S h E → K (.int .i64 E.length) h → MethodH Tryz.prog hv "Len" #[] h K ⟨⟩
 less : ∀ {h : Heap} {E : List ε} {K : VP} {i j : Nat}, S h E → i < E.length → j < E.length → K (.bool (lt (atE E i) (atE E j))) h → MethodH Tryz.prog hv "Less" #[.int .i64 i, .int .i64 j] h K ⟨⟩
 swap : ∀ {h : Heap} {E : List ε} {K : VP} {i j : Nat}, S h E → i < E.length → j < E.length → (∀ h', S h' (swapE E i j) → K (.tuple #[]) h') → MethodH Tryz.prog hv "Swap" #[.int .i64 i, .int .i64 j] h K ⟨⟩

set_option maxHeartbeats 2000000 in
theorem hdown_c (I:HI lt S hv) (hw:SWO lt) {n i0 lo:Nat} (s:S h E) (hn:n≤E.length) (hd:DownE lt E n lo i0) (hlo:lo≤i0) (hi0:i0<100000)
 (H:∀E' b h',S h' E'→E'.Perm E→(∀k,n≤k→atE E' k=atE E k)→HOkE lt E' n lo→K (.bool b) h') :
 CallsH Tryz.prog 129 #[hv,.int .i64 i0,.int .i64 n] h K ⟨⟩:=by
 refine n129_calls ?_
 unfold n129; try delta vF vG vC vD vJ vV vk vt
 have hfew:=I.few s
 refine JoinN_in1 (fun w g=>∃(i:Nat) (E':List ε),w = .int .i64 i∧i<1000000∧S g E'∧E'.Perm E∧(∀k,n≤k→atE E' k=atE E k)∧HOkE lt E' n lo) (fun kk hkk => ?_) (fun w g hx => ?_)
 ·refine JoinN.mk ?_
  refine loopX1 (α:=Nat×List ε) (fun a => .int .i64 a.1) (fun a g=>S g a.2∧a.2.Perm E∧(∀k,n≤k→atE a.2 k=atE E k)∧DownE lt a.2 n lo a.1∧lo≤a.1∧a.1<100000) (fun a=>n-a.1) (i0,E) rfl ⟨s,.refl _,fun _ _=>rfl,hd,hlo,hi0⟩ ?_
  rintro ⟨i,E1⟩ g ⟨s1,hp,hk,hdn,hli,hi⟩ X hX
  dsimp only at s1 hp hk hdn hli hi hX ⊢
  have hl1:=hp.length_eq
  have stop:(∀k,0<k→k<n→(k-1)/2=i→okE lt E1 i k)→kk (.int .i64 i) g:=fun hc=>hkk _ _ ⟨i,E1,rfl,by omega,s1,hp,hk,hdn.done hc⟩
  have step:∀(j:Nat) (g':Heap),j<n→0<j→(j-1)/2=i→lt (atE E1 j) (atE E1 i)=true→(∀k,0<k→k<n→(k-1)/2=i→okE lt E1 j k)→S g' (swapE E1 i j)→X (.int .i64 (j:Int)) g':=by
   intro j g' j1 j2 j3 j4 j5 s2
   refine hX (j,swapE E1 i j) _ _ rfl ⟨s2,(swapE_perm omg omg).trans hp,fun k hkn => ?_,hdn.step hw j1 omg j2 j3 j4 j5 hli,by dsimp only; omega,by dsimp only; omega⟩ (by dsimp only; omega)
   dsimp only
   rw [atE_swap omg omg,if_neg omg,if_neg omg]
   exact hk k hkn
  by_cases h1:n≤2*i+1
  ·simp (disch:=omega)
   exact stop (fun k k0 kn e=>by omega)
  ·have e1:(2*(i:Int)+1)=((2*i+1:Nat):Int):=by omega
   simp (disch:=omega)
   refine JoinN_in1 (fun w g'=>g'=g∧∃j:Nat,w = .int .i64 j∧j<n∧0<j∧(j-1)/2=i∧∀k,0<k→k<n→(k-1)/2=i→okE lt E1 j k) (fun k4 hk4 => ?_) (fun w g' hw' => ?_)
   ·by_cases h2:2*i+2<n
    ·simp (disch:=omega)
     have a1:(2*(i:Int)+1+1)=((2*i+2:Nat):Int):=by omega
     rw [a1,e1]
     refine I.less s1 (i:=2*i+2) (j:=2*i+1) omg omg ?_
     cases hlt:lt (atE E1 (2*i+2)) (atE E1 (2*i+1)) with
     | true =>
      simp (disch:=omega)
      refine hk4 _ _ ⟨rfl,2*i+2,congrArg (Value.int .i64) omg,by omega,by omega,by omega,fun k k0 kn hk' => ?_⟩
      have:k=2*i+1∨k=2*i+2:=by omega
      rcases this with rfl|rfl
      ·unfold okE
       cases hc:lt (atE E1 (2*i+1)) (atE E1 (2*i+2)) with
       | false=>rfl
       | true =>
        have:=hw.trans _ _ _ hlt hc
        rw [hw.irrefl] at this; cases this
      ·exact hw.irrefl _
     | false =>
      simp (disch:=omega)
      refine hk4 _ _ ⟨rfl,2*i+1,congrArg (Value.int .i64) omg,by omega,by omega,by omega,fun k k0 kn hk' => ?_⟩
      have:k=2*i+1∨k=2*i+2:=by omega
      rcases this with rfl|rfl
      ·exact hw.irrefl _
      ·exact hlt
    ·simp (disch:=omega)
     refine hk4 _ _ ⟨rfl,2*i+1,congrArg (Value.int .i64) omg,by omega,by omega,by omega,fun k k0 kn hk' => ?_⟩
     have:k=2*i+1:=by omega
     subst this; exact hw.irrefl _
   ·obtain ⟨rfl,j,rfl,j1,j2,j3,j4⟩:=hw'
    refine I.less s1 (i:=j) (j:=i) omg omg ?_
    cases hlt:lt (atE E1 j) (atE E1 i) with
    | true =>
     simp (disch:=omega)
     refine I.swap s1 (i:=i) (j:=j) omg omg fun g2 s2 => ?_
     exact step j g2 j1 j2 j3 hlt j4 s2
    | false =>
     simp (disch:=omega)
     exact stop fun k k0 kn hk'=>hw.ntrans _ _ _ (j4 k k0 kn hk') hlt
 ·obtain ⟨i,E',rfl,hi,s1,hp,hk,ho⟩:=hx
  simp (disch:=omega)
  refine Split.mk (fun e => ?_) (fun e => ?_)
  ·exact H E' true g s1 hp hk ho
  ·exact H E' false g s1 hp hk ho
theorem hpop_c (I:HI lt S hv) (hw:SWO lt) (s:S h E) (hE:E≠[]) (ho:HOkE lt E E.length 0)
 (H : ∀ h' x E', S h' (E' ++ [x]) → (E' ++ [x]).Perm E → x = atE E 0 → (∀ y ∈ E, lt y x = false) → HOkE lt E' E'.length 0 → MethodH Tryz.prog hv "Pop" #[] h' K ⟨⟩) :
 CallsH Tryz.prog 113 #[hv] h K ⟨⟩:=by
 refine n113_calls ?_
 unfold n113; try delta vF vG vC vD vJ vV vk vt
 have hfew:=I.few s
 have hlen:0<E.length:=List.length_pos_iff.2 hE
 refine I.len s ?_
 have e1:((E.length:Int)-1)=((E.length-1:Nat):Int):=by omega
 simp (disch:=omega)
 rw [e1]
 refine I.swap s (i:=0) (j:=E.length-1) omg omg fun h1 s1 => ?_
 have l1:=swapE_len E 0 (E.length-1)
 have hd:DownE lt (swapE E 0 (E.length-1)) (E.length-1) 0 0:=by
  refine ⟨fun k k0 kn _ hk => ?_,fun x=>absurd x omg⟩
  unfold okE
  rw [atE_swap omg omg,atE_swap omg omg,if_neg omg,if_neg omg,if_neg omg,if_neg hk]
  exact ho k k0 omg (Nat.zero_le _)
 refine hdown_c I hw (i0:=0) (lo:=0) s1 omg hd (Nat.le_refl _) omg fun E1 b h2 s2 hp2 hk2 ho2 => ?_
 have l2:=hp2.length_eq
 have hlast:E1[E.length-1]'omg=atE E 0:=by
  rw [←atE_get,hk2 _ (Nat.le_refl _),atE_swap omg omg,if_pos rfl]
 have hsplit:E1=E1.take (E.length-1)++[atE E 0]:=by
  conv=>lhs; rw [←List.take_append_drop (E.length-1) E1]
  congr 1
  rw [List.drop_eq_getElem_cons omg,hlast]
  congr 1
  exact List.drop_eq_nil_of_le omg
 have hpE:E1.Perm E:=hp2.trans (swapE_perm omg omg)
 refine H h2 (atE E 0) (E1.take (E.length-1)) (hsplit▸s2) (hsplit▸hpE) rfl (fun y hy => ?_) (fun i i0 hi _ => ?_)
 ·obtain ⟨i,hi,rfl⟩:=List.getElem_of_mem hy
  have:=ho.min hw i hi
  unfold okE at this
  rwa [atE_get hi] at this
 ·simp at hi
  have:=ho2 i i0 omg (Nat.zero_le _)
  unfold okE at this ⊢
  have g:∀k,k<E.length-1→atE (E1.take (E.length-1)) k=atE E1 k:=fun k hk=>by
   rw [atE_get (by simp; omega),atE_get omg,List.getElem_take]
  rw [g _ omg,g _ omg]
  exact this
end
end Go.Proofs.YtcbbdnaelimpfaaGreat

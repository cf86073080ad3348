/- Regions: their operations in the order of the text,or,where the order is drawn,what only reads first,and else whichever comes up; and that this serves every order. -/
import Derived.Test.YtdccfkffabngjaaGreatVcCode
namespace Go.Vc
open Go

def isSlice(P:Program)(t:TypeId):Bool:=match P.underlying t with
 | some (.slice _)=>true
 | some _=>false
 | none=>true

def isMapT(P:Program)(ts:List TypeId):Bool:=match ts with
 | t::_=>match P.underlying t with
  | some (.map ..)=>true
  | _=>false
 | []=>true

def isPtrT(P:Program)(t:TypeId):Bool:=match P.underlying t with
 | some (.pointer _)=>true
 | _=>false
def kindOf(P:Program):Op->Nat
 | .move _ | .assign _ | .pick .. | .nilCheck _ | .unOp .. | .fieldAddr .. | .field .. | .indexAddr .. | .index .. | .extract .. | .slice .. | .makeFunc .. | .makeInterface .. | .build .. => 0
 | .binOp op t .. => match op with
  | .eql | .neq=>bif isPtrT P t then 2 else 0
  | _=>0
 | .load .. | .lookup .. => 1
 | .convert s d _=>bif isSlice P d then 2 else bif isSlice P s then 1 else 0
 | .call { callee:=.builtin b,argTypes,.. }=>match b with
  | .cap | .max | .min=>0
  | .len=>bif isMapT P argTypes.toList then 1 else 0
  | _=>2
 | _=>2

theorem reader_exec{P:Program}{o:Oper}{σ:Operand->Value}(hr:kindOf P o.op≠2)(hn:∀x,o.op ≠ .nilCheck x):∃m:Sem Value,execOp σ o=(do let v <-m;pure (.value v)):=by
 obtain⟨dst,op,ty,pos,after,guard⟩:=o
 cases op with
 | move x=>exact⟨pure (σ x),rfl⟩
 | assign x=>exact⟨pure (σ x),rfl⟩
 | pick c a b=>exact⟨pickS (σ c) (σ a) (σ b),by unfold execOp;cases hc:σ c<;>simp only[hc]<;>rfl⟩
 | nilCheck x=>exact absurd rfl (hn x)
 | call c =>
  obtain⟨callee,args,ats⟩:=c
  cases callee with
  | builtin b=>cases b<;>first|(exact absurd rfl hr;done)|exact⟨_,rfl⟩
  | value f=>exact absurd rfl hr
  | invoke r n=>exact absurd rfl hr
 | load t a=>exact⟨_,rfl⟩
 | unOp op t x=>exact⟨_,rfl⟩
 | fieldAddr t x f=>exact⟨_,rfl⟩
 | field t x f=>exact⟨_,rfl⟩
 | indexAddr t x f=>exact⟨_,rfl⟩
 | index t x f=>exact⟨_,rfl⟩
 | lookup t x i ok=>exact⟨_,rfl⟩
 | extract x i=>exact⟨_,rfl⟩
 | slice t x l h m=>exact⟨_,rfl⟩
 | makeFunc f a b=>exact⟨_,rfl⟩
 | makeInterface t x=>exact⟨_,rfl⟩
 | build t ps=>exact⟨_,rfl⟩
 | binOp op t x y yt=>exact⟨_,rfl⟩
 | convert s d x=>exact⟨_,rfl⟩
 | _=>exact absurd rfl hr

theorem reader_noskip{P:Program}{o:Oper}{σ:Operand->Value}(hr:kindOf P o.op≠2)(hn:∀x,o.op ≠ .nilCheck x){w w':World}(h:(execOp σ o).run P w = .ok .skip w'):False:=by
 obtain⟨m,hm⟩:=reader_exec (σ:=σ) hr hn
 rw[hm]at h
 have h':(m.bind _).run P w = .ok Next.skip w':=h
 rw[Sem.run_bind']at h'
 cases hx:m.run P w with
 | ok v w1=>rw[hx]at h';cases h'
 | halt x w1=>rw[hx]at h';cases h'

theorem vcOp_reads{P:Program}{o:Oper}{ρ:Env}{a:Act}{k:VP}{h:Heap}(hr:kindOf P o.op≠2)(ha:Agree ρ a)(hv:vcOp P true o ρ k h) :
 ∃v,k v h/\vcOp P true o ρ (fun u _=>u=v) h/\∀w:World,Ext h w.heap->(execOp a.eval o).run P w = .ok (.value v) w:=by
 obtain⟨v,hk,hu,hx⟩:=vcOp_stable ha hv
 refine⟨v,hk,hu,fun w he=>?_⟩
 by_cases hn:∃x,o.op = .nilCheck x
 ·obtain⟨x,hx'⟩:=hn
  rcases hx w he with h1|⟨h1,_⟩
  ·exact h1
  ·exfalso
   unfold vcOp at hv
   cases hk:(okOp o.op&&known ρ (opsL o.op)) with
   | false=>rw[hk]at hv;exact hv.elim
   | true =>
    rw[hk]at hv
    simp only[cond_true,hx']at hv
    obtain⟨_,h2⟩:=nilS_spec hv.out
    rw[exec_agree ha hk,h2 (ev ρ) o x hx' rfl]at h1
    cases h1
 ·exact (hx w he).elim id (fun ⟨h1,_⟩=>(reader_noskip hr (fun x e=>hn ⟨x,e⟩) h1).elim)

/-! ### Steps -/

structure Join1 (F:(VP)->Heap->Prop) (K:VP) (h:Heap) (u:Un F) (u':Un K):Prop where
 out:F K h

def guardB(c:Value)(want:Bool)(yes no:Prop):Prop :=
 match c with
 | .bool b=>if b=want then yes else no
 | _=>no

structure guardP (c:Value) (want:Bool) (yes no:Prop) (u:Un yes) (u':Un no):Prop where
 out:guardB c want yes no

def putE(n:Nat)(dst:Option Nat)(v:Value)(ρ:Env)(k:Env->Prop):Prop :=
 match dst with
 | none=>k ρ
 | some d=>bif Nat.blt d n then k (ρ.put (d+1) v) else False

def guardOf(ops:List Oper)(ρ:Env)(j:Nat)(k:Value->Prop):Prop :=
 match ops[j]? with
 | some oj=>match oj.dst with
  | some d=>match ρ (d+1) with
   | some c=>k c
   | none=>False
  | none=>False
 | none=>False

def vcStep(P:Program)(ops:List Oper)(q:Bool)(o:Oper)(ρ:Env)(k:VP)(h:Heap):Prop :=
 match o.guard with
 | none=>vcOp P q o ρ k h
 | some (j,want)=>guardOf ops ρ j fun c=>Join1 (fun k h=>guardP c want (vcOp P q o ρ k h) (k undef h) ⟨⟩ ⟨⟩) k h ⟨⟩ ⟨⟩

def vcOps(P:Program)(ops:List Oper)(n:Nat):List Nat->Env->(Env->Heap->Prop)->Heap->Prop
 | [],ρ,K,h=>K ρ h
 | i::rest,ρ,K,h=>match ops[i]? with
  | none=>False
  | some o=>vcStep P ops false o ρ (fun v h'=>putE n o.dst v ρ fun ρ'=>vcOps P ops n rest ρ' K h') h

structure St (n:Nat) (ρ:Env) (a:Act):Prop extends Agree ρ a where
 size:a.tmps.size=n
 marks:a.defers=(a.defers.map blkOf).map markOf

theorem St.put{n:Nat}{ρ:Env}{a:Act}(s:St n ρ a){d:Nat}(hd:Nat.blt d n=true)(v:Value):St n (ρ.put (d+1) v) (a.put (some d) v) where
 tmps t u hu:=by
  have hd':d<a.tmps.size:=by rw[s.size];simpa[Nat.blt_eq]using hd
  unfold Env.put at hu
  cases t with
  | zero=>exact s.tmps 0 u hu
  | succ t =>
   show (a.tmps.setIfInBounds d v)[t]? = some u
   rw[Array.getElem?_setIfInBounds]
   by_cases h:t=d
   ·subst h
    rw[show Nat.beq (t+1) (t+1)=true from Nat.beq_refl _]at hu
    simp only[cond_true,Option.some.injEq]at hu
    rw[if_pos rfl,if_pos hd',hu]
   ·rw[show Nat.beq (t+1) (d+1)=false from Bool.eq_false_iff.2 fun e=>h (by have:=Nat.eq_of_beq_eq_true e;omega)]at hu
    rw[if_neg (Ne.symm h)]
    exact s.tmps (t+1) u hu
 size:=by simp[Act.put,s.size]
 marks:=s.marks

theorem putE_St{n:Nat}{ρ:Env}{a:Act}(s:St n ρ a){dst:Option Nat}{v:Value}{k:Env->Prop}(h:putE n dst v ρ k):∃ρ',St n ρ' (a.put dst v)/\k ρ':=by
 cases dst with
 | none=>exact⟨ρ,s,h⟩
 | some d =>
  unfold putE at h
  simp only at h
  cases hd:Nat.blt d n with
  | false=>rw[hd]at h;exact h.elim
  | true=>rw[hd]at h;exact⟨_,s.put hd v,h⟩

section
variable {P:Program}{ops:Array Oper}{n:Nat}{ρ:Env}{a:Act}{w:World}{i:Nat}{o:Oper}

theorem wanted_of{j:Nat}{want:Bool}(s:Agree ρ a)(hg:o.guard=some (j,want)){k:Value->Prop}(h:guardOf ops.toList ρ j k) :
 ∃c,k c/\Region.wanted o (yielded ops a.tmps)=(match c with | .bool b=>b==want|_=>false)/\∀k',k' c->guardOf ops.toList ρ j k':=by
 unfold guardOf at h ⊢
 have e:ops.toList[j]? = ops[j]? := by simp
 rw[e]at h
 rw[e]
 cases hj:ops[j]? with
 | none=>rw[hj]at h;exact h.elim
 | some oj =>
  rw[hj]at h
  cases hd:oj.dst with
  | none=>simp only[hd]at h
  | some d =>
   simp only[hd]at h
   cases hc:ρ (d+1) with
   | none=>rw[hc]at h;exact h.elim
   | some c =>
    rw[hc]at h
    refine⟨c,h,?_,fun k' hk'=>by simp only[hd,hc];exact hk'⟩
    unfold Region.wanted
    rw[hg]
    have hy:yielded ops a.tmps j=(match c with | .bool b=>some b|_=>none):=by
     unfold yielded
     rw[hj]
     have:a.tmps[d]? = some c:=s.tmps (d+1) c hc
     simp only[Option.bind_some,hd,this]
     cases c<;>rfl
    simp only[hy]
    cases c<;>first|rfl|(rename_i b;cases b<;>cases want<;>rfl)

theorem vcStep_wp{r:Option Nat}{k:VP}{next:Act->World->Prop}{Q:Exit->Act->World->Prop}(ha:Agree ρ a)(ho:ops[i]? = some o)
 (hv:vcStep P ops.toList false o ρ k w.heap) (hn:∀v w',Same w w'->k v w'.heap->next (a.put o.dst v) w'):wpOpIn (FW r) 0 P ops Q i next a w:=by
 unfold wpOpIn
 rw[ho]
 simp only
 unfold vcStep at hv
 cases hg:o.guard with
 | none =>
  rw[hg]at hv
  have hw:Region.wanted o (yielded ops a.tmps)=true:=by unfold Region.wanted;rw[hg]
  rw[if_pos hw]
  exact vcOp_wp ha hv hn
 | some g =>
  obtain⟨j,want⟩:=g
  rw[hg]at hv
  obtain⟨c,hc,hw,hgo⟩:=wanted_of ha hg hv
  clear hgo
  rw[hw]
  replace hc:=hc.out.out
  unfold guardB at hc
  cases c<;>first
   | (simp only[Bool.false_eq_true,if_false]at hc ⊢;exact⟨fun _ _=>trivial,hn _ _ (.refl _) hc⟩)
   | (rename_i b
      simp only[beq_iff_eq]at hc ⊢
      by_cases hb:b=want
      ·rw[if_pos hb]at hc ⊢;exact vcOp_wp ha hc hn
      ·rw[if_neg hb]at hc ⊢;exact⟨fun _ _=>trivial,hn _ _ (.refl _) hc⟩)

theorem vcStep_reader{k:VP}{h:Heap}(ha:Agree ρ a)(hr:kindOf P o.op≠2)
 (hv:vcStep P ops.toList true o ρ k h):∃v,k v h/\vcStep P ops.toList true o ρ (fun u _=>u=v) h/\YieldsIf P ops (fun w=>Ext h w.heap) o v a:=by
 unfold vcStep at hv ⊢
 cases hg:o.guard with
 | none =>
  rw[hg]at hv
  obtain⟨v,hk,hu,hx⟩:=vcOp_reads hr ha hv
  exact⟨v,hk,by simp only;exact hu,.inl ⟨by unfold Region.wanted;rw[hg],fun w' he=>hx w' he⟩⟩
 | some g =>
  obtain⟨j,want⟩:=g
  rw[hg]at hv
  obtain⟨c,hc,hw,hgo⟩:=wanted_of ha hg hv
  replace hc:=hc.out.out
  unfold guardB at hc
  cases c<;>first
   | (simp only at hc hw;exact⟨undef,hc,hgo _ ⟨⟨rfl⟩⟩,.inr ⟨hw,rfl⟩⟩)
   | (rename_i b
      simp only at hc hw
      by_cases hb:b=want
      ·rw[if_pos hb]at hc
       obtain⟨v,hk,hu,hx⟩:=vcOp_reads hr ha hc
       exact⟨v,hk,hgo _ ⟨⟨by unfold guardB;simp only[if_pos hb];exact hu⟩⟩,.inl ⟨by rw[hw];simpa using hb,fun w' he=>hx w' he⟩⟩
      ·rw[if_neg hb]at hc
       exact⟨undef,hc,hgo _ ⟨⟨by unfold guardB;simp only[if_neg hb]⟩⟩,.inr ⟨by rw[hw];simpa using hb,rfl⟩⟩)

theorem vcStep_again{k:VP}{h:Heap}(ha:Agree ρ a)(hr:kindOf P o.op≠2)
 (hv:vcStep P ops.toList true o ρ k h):∃v,k v h/\vcStep P ops.toList true o ρ (fun u _=>u=v) h /\
  YieldsIf P ops (fun w=>vcStep P ops.toList true o ρ (fun u _=>u=v) w.heap) o v a:=by
 obtain⟨v,hk,hu,hy⟩:=vcStep_reader (ops:=ops) ha hr hv
 refine⟨v,hk,hu,?_⟩
 rcases hy with ⟨hw,_⟩|⟨hw,rfl⟩
 ·refine .inl ⟨hw,fun w hS=>?_⟩
  obtain⟨v',e,_,hy'⟩:=vcStep_reader (ops:=ops) ha hr hS
  subst e
  rcases hy' with ⟨_,h2⟩|⟨hw',_⟩
  ·exact h2 w (.refl _)
  ·rw[hw]at hw';cases hw'
 ·exact .inr ⟨hw,rfl⟩
end

def dstIn(ops:Array Oper)(ds:Nat->Prop):Prop:=∀(i:Nat) (o:Oper) (d:Nat),ops[i]? = some o->o.dst=some d->ds (d+1)

def Fr(ds:Nat->Prop)(a a':Act):Prop:=∀t,¬ds t->look a' t=look a t
theorem Fr.refl(ds:Nat->Prop)(a:Act):Fr ds a a:=fun _ _=>rfl
theorem Fr.trans{ds:Nat->Prop}{a b c:Act}(h:Fr ds a b)(k:Fr ds b c):Fr ds a c:=fun t ht=>(k t ht).trans (h t ht)
theorem Fr.put{ds:Nat->Prop}(a:Act){dst:Option Nat}(h:∀d,dst=some d->ds (d+1))(v:Value):Fr ds a (a.put dst v):=by
 intro t ht
 cases dst with
 | none=>rfl
 | some d =>
  cases t with
  | zero=>rfl
  | succ t =>
   show (a.tmps.setIfInBounds d v)[t]? = a.tmps[t]?
   rw[Array.getElem?_setIfInBounds,if_neg (show ¬d=t from fun e=>ht (e▸h d rfl))]

structure After (n:Nat) (ds:Nat->Prop) (K:Env->Heap->Prop) (a₀:Act) (w₀:World) (a:Act) (w:World):Prop where
 same:Same w₀ w
 fr:Fr ds a₀ a
 env:∃ρ,St n ρ a/\K ρ w.heap

theorem vcOps_wpOps{P:Program}{r:Option Nat}{ops:Array Oper}{n:Nat}{ds:Nat->Prop}(hds:dstIn ops ds){Q:Exit->Act->World->Prop}{K:Env->Heap->Prop}{a₀:Act}{w₀:World}(hQ:∀a w,After n ds K a₀ w₀ a w->Q .normal a w) :
 ∀(l:List Nat) (ρ:Env) (a:Act) (w:World),St n ρ a->Same w₀ w->Fr ds a₀ a->vcOps P ops.toList n l ρ K w.heap->wpOpsIn (FW r) 0 P ops Q l a w
 | [],ρ,a,w,hs,hw,hf,h=>hQ a w ⟨hw,hf,ρ,hs,h⟩
 | i::rest,ρ,a,w,hs,hw,hf,h=>by
  rw[wpOpsIn_cons]
  unfold vcOps at h
  have e:ops.toList[i]? = ops[i]? := by simp
  rw[e]at h
  cases ho:ops[i]? with
  | none=>rw[ho]at h;exact h.elim
  | some o =>
   rw[ho]at h
   refine vcStep_wp hs.toAgree ho h fun v w' hsame hk=>?_
   obtain⟨ρ',hs',hk'⟩:=putE_St hs hk
   exact vcOps_wpOps hds hQ rest ρ' _ w' hs' (hw.trans hsame) (hf.trans (Fr.put a (fun d hd=>hds i o d ho hd) v)) hk'

/-! ### A drawn order -/

def afterIn(o:Oper)(m:Nat):Bool:=o.after.toList.all fun e => !Region.binds .any e || m.testBit e.on

def cloGo(r:Nat):List Oper->Nat->Nat->Nat
 | [],_,m=>m
 | o::os,j,m=>cloGo r os (j+1) (bif Nat.beq j r || !afterIn o m then m else m ||| 2^j)

def clo(ops:List Oper)(r:Nat):Nat:=cloGo r ops 0 0

def closedGo(r m:Nat):List Oper->Nat->Bool
 | [],_=>true
 | o::os,j=>(Nat.beq j r || !afterIn o m || m.testBit j)&&closedGo r m os (j+1)

def closedAll(ops:List Oper):Bool:=(List.range ops.length).all fun r=>closedGo r (clo ops r) ops 0

def needs(ops:List Oper)(j:Nat):List (Nat×(Heap->Prop))->Heap->Prop->Prop
 | [],_,k=>k
 | (i,S)::rs,h,k=>bif (clo ops i).testBit j then S h/\needs ops j rs h k else needs ops j rs h k

def allR:List Nat->(Nat->Prop)->Prop
 | [],_=>True
 | [i],f=>f i
 | i::r,f=>f i/\allR r f

def vcDraw(P:Program)(ops:Array Oper)(n:Nat)(K:Env->Heap->Prop):Nat->Array Bool->List (Nat×(Heap->Prop))->Env->Heap->Prop
 | 0,listed,_,ρ,h=>match Region.ready .any ops listed with
  | []=>K ρ h
  | _=>False
 | fuel+1,listed,rs,ρ,h=>match Region.ready .any ops listed with
  | []=>K ρ h
  | r=>match r.find? (fun i=>(match ops[i]? with|some o => !Nat.beq (kindOf P o.op) 2|none=>false)&&Region.free .any ops listed i) with
   | some i=>match ops[i]? with
    | some o=>bif Nat.beq (kindOf P o.op) 0 then vcStep P ops.toList true o ρ (fun v _=>putE n o.dst v ρ fun ρ'=>vcDraw P ops n K fuel (listed.setIfInBounds i true) rs ρ' h) #[]
     else vcStep P ops.toList true o ρ (fun v _=>putE n o.dst v ρ fun ρ'=>vcDraw P ops n K fuel (listed.setIfInBounds i true) ((i,fun h'=>vcStep P ops.toList true o ρ (fun u _=>u=v) h')::rs) ρ' h) h
    | none=>False
   | none=>allR r fun i=>match ops[i]? with
    | some o=>vcStep P ops.toList false o ρ (fun v h'=>needs ops.toList i rs h' (putE n o.dst v ρ fun ρ'=>vcDraw P ops n K fuel (listed.setIfInBounds i true) rs ρ' h')) h
    | none=>False

theorem allR_mem{f:Nat->Prop}:∀{r:List Nat},allR r f->∀i∈r,f i
 | [i],h,j,hj=>by obtain rfl:j=i:=by simpa using hj
                  exact h
 | i::k::r,h,j,hj=>by
  rcases List.mem_cons.1 hj with rfl|hj
  ·exact h.1
  ·exact allR_mem h.2 j hj

theorem needs_out{ops:List Oper}{j:Nat}{h:Heap}{k:Prop}:∀{rs:List (Nat×(Heap->Prop))},needs ops j rs h k->k/\∀x∈rs,(clo ops x.1).testBit j=true->x.2 h
 | [],hn=>⟨hn,fun x hx=>by cases hx⟩
 | (i,S)::rs,hn=>by
  unfold needs at hn
  cases hc:(clo ops i).testBit j with
  | false =>
   rw[hc]at hn
   obtain⟨h1,h2⟩:=needs_out hn
   refine⟨h1,fun x hx hb=>?_⟩
   rcases List.mem_cons.1 hx with rfl|hx
   ·rw[hc]at hb;cases hb
   ·exact h2 x hx hb
  | true =>
   rw[hc]at hn
   obtain⟨h1,h2⟩:=needs_out hn.2
   refine⟨h1,fun x hx hb=>?_⟩
   rcases List.mem_cons.1 hx with rfl|hx
   ·exact hn.1
   ·exact h2 x hx hb

section
variable {P:Program}{ops:Array Oper}{r:Option Nat}

theorem closedGo_spec{r m:Nat}:∀(os:List Oper) (k:Nat),closedGo r m os k=true->∀j o,os[j]? = some o->k+j≠r->afterIn o m=true->m.testBit (k+j)=true
 | [],_,_,j,o,ho,_,_=>by cases ho
 | x::os,k,h,j,o,ho,hne,ha=>by
  simp only[closedGo,Bool.and_eq_true]at h
  cases j with
  | zero =>
   simp only[List.getElem?_cons_zero,Option.some.injEq]at ho
   subst ho
   have h1:=h.1
   have hb:Nat.beq k r=false:=Bool.eq_false_iff.2 fun e=>hne (by simpa using Nat.eq_of_beq_eq_true e)
   simp only[hb,ha,Bool.not_true,Bool.or_false,Bool.false_or]at h1
   simpa using h1
  | succ j =>
   have:=closedGo_spec os (k+1) h.2 j o (by simpa using ho) omg ha
   rwa[show k+1+j=k+(j+1) by omega]at this

def Inv(ops:Array Oper)(listed:Array Bool):Prop:=∀r,listed.getD r true=false->∀j,listed.getD j false=true->(clo ops.toList r).testBit j=true

theorem in_clo(hc:closedAll ops.toList=true){listed:Array Bool}(hl:listed.size=ops.size)(hinv:Inv ops listed){j r:Nat}(hj:j∈Region.ready .any ops listed)(hr:listed.getD r true=false)(hne:j≠r):(clo ops.toList r).testBit j=true:=by
 obtain⟨_,o,ho,hall⟩:=mem_ready.1 hj
 have hrn:r<ops.size:=by
  rcases Nat.lt_or_ge r listed.size with h|h
  ·omega
  ·simp[Array.getElem?_eq_none h]at hr
 have h1:closedGo r (clo ops.toList r) ops.toList 0=true:=by
  simp only[closedAll,List.all_eq_true,List.mem_range]at hc
  exact hc r (by simpa using hrn)
 have h2:=closedGo_spec ops.toList 0 h1 j o (by simpa using ho) omg (by
  simp only[afterIn,List.all_eq_true,Bool.or_eq_true,Bool.not_eq_true']
  intro e he
  by_cases hb:Region.binds .any e=true
  ·exact .inr (hinv r hr _ (hall e (by simpa using he) hb))
  ·exact .inl (by simpa using hb))
 simpa using h2

theorem Inv.step(hc:closedAll ops.toList=true){listed:Array Bool}(hl:listed.size=ops.size)(hinv:Inv ops listed){i:Nat}(hi:i∈Region.ready .any ops listed):Inv ops (listed.setIfInBounds i true):=by
 intro r hr j hj
 have hri:r≠i:=fun e=>by
  subst e
  have:(listed.setIfInBounds r true).getD r true=true:=by
   by_cases h:r<listed.size<;>simp[h]
  rw[this]at hr;cases hr
 have hr':listed.getD r true=false:=by rw[getD_set_ne true (Ne.symm hri)]at hr;exact hr
 by_cases hji:j=i
 ·subst hji;exact in_clo hc hl hinv hi hr' (Ne.symm hri)
 ·rw[getD_set_ne false (Ne.symm hji)]at hj
  exact hinv r hr' j hj

def wpAnyR(P:Program)(ops:Array Oper)(r:Option Nat)(Q:Exit->Act->World->Prop)(Φ:Nat->Heap->Heap->Prop):Nat->Array Bool->Act->World->Prop
 | 0,listed,a,w=>Region.ready .any ops listed=[]/\Q .normal a w
 | fuel+1,listed,a,w =>
  (Region.ready .any ops listed=[]->Q .normal a w) /\
  ∀i∈Region.ready .any ops listed,wpOpIn (FW r) 0 P ops Q i (fun a' w'=>Φ i w.heap w'.heap/\wpAnyR P ops r Q Φ fuel (listed.setIfInBounds i true) a' w') a w

theorem wpAnyR_mono{Q:Exit->Act->World->Prop}{Φ Ψ:Nat->Heap->Heap->Prop}(hp:∀j h h',Φ j h h'->Ψ j h h'):∀(fuel:Nat) (listed:Array Bool) (a:Act) (w:World),wpAnyR P ops r Q Φ fuel listed a w->wpAnyR P ops r Q Ψ fuel listed a w
 | 0,_,_,_,h=>h
 | fuel+1,_,_,_,h=>⟨h.1,fun i hi=>wpOpIn_mono (fun a' w' h'=>⟨hp _ _ _ h'.1,wpAnyR_mono hp fuel _ a' w' h'.2⟩) (h.2 i hi)⟩

theorem wpAnyIn_of_R{Q:Exit->Act->World->Prop}{Φ:Nat->Heap->Heap->Prop}:∀(fuel:Nat) (listed:Array Bool) (a:Act) (w:World),wpAnyR P ops r Q Φ fuel listed a w->wpAnyIn (FW r) 0 P .any ops Q fuel listed a w
 | 0,_,_,_,h=>h
 | fuel+1,_,_,_,h=>⟨h.1,fun i hi=>wpOpIn_mono (fun a' w' h'=>wpAnyIn_of_R fuel _ a' w' h'.2) (h.2 i hi)⟩

theorem yields_wpOpIn{S:World->Prop}{Q:Exit->Act->World->Prop}{i:Nat}{o:Oper}{v:Value}{a:Act}(hi:ops[i]? = some o)(hok:okOp o.op=true)(hy:YieldsIf P ops S o v a)
 {K:Act->World->Prop} {w:World} (hS:S w) (h:K (a.put o.dst v) w):wpOpIn (FW r) 0 P ops Q i K a w:=by
 unfold Go.wpOpIn
 simp only[hi]
 rcases hy with ⟨hw,hv⟩|⟨hw,rfl⟩
 ·simp only[hw,if_true,Oper.wpIn]
  rw[semAt_ok r hok,hv w hS]
  exact⟨fun _ _=>trivial,h⟩
 ·simp only[hw,Bool.false_eq_true,if_false];exact⟨fun _ _=>trivial,h⟩

theorem wpOpIn_putR{S:World->Prop}{Q:Exit->Act->World->Prop}{j:Nat}{oi oj:Oper}{v:Value}(hj:ops[j]? = some oj)(hap:oi.apart ops oj=true)
 (hsi:okOp oi.op=true) (hsj:okOp oj.op=true)
 (hQ:∀c a w,Q (.panic c) (a.put oi.dst v) w->Q (.panic c) a w) {K:Act->World->Prop} {a:Act} {w:World}
 (hy:YieldsIf P ops S oi v a) (h:wpOpIn (FW r) 0 P ops Q j K (a.put oi.dst v) w) :
 wpOpIn (FW r) 0 P ops Q j (fun a' w'=>YieldsIf P ops S oi v a'/\K (a'.put oi.dst v) w') a w:=by
 obtain⟨h1,h2,h3⟩:=Oper.apart_spec hap
 have nsel:∀{o:Oper},okOp o.op=true->∀cs b,o.op ≠ .select cs b:=fun hk cs b e=>by rw[e]at hk;cases hk
 have keep:∀(a:Act),YieldsIf P ops S oi v a->∀u,YieldsIf P ops S oi v (a.put oj.dst u):=fun a hy u =>
  hy.of_same (execOp_put oi (nsel hsi) a oj.dst u h3) (wanted_put oi a oj.dst u h3)
 have keepD:∀d,YieldsIf P ops S oi v { a with defers:=d::a.defers }:=fun d=>hy.of_same rfl rfl
 unfold wpOpIn at *
 simp only[hj]at *
 rw[wanted_put oj a oi.dst v h1]at h
 split
 ·rename_i hw
  simp only[hw,if_true]at h
  unfold Oper.wpIn at *
  refine⟨fun _ _=>trivial,?_⟩
  have h:=h.2
  rw[semAt_ok r hsj,execOp_put oj (nsel hsj) a oi.dst v h1]at h
  rw[semAt_ok r hsj]
  generalize (execOp a.eval oj).run P w=res at *
  cases res with
  | ok x w' =>
   cases x<;>simp only[Oper.uponIn]at h ⊢
   case value u=>exact⟨keep a hy u,by rw[<-Act.put_comm a v u h2];exact h⟩
   case skip=>exact⟨keep a hy _,by rw[<-Act.put_comm a v undef h2];exact h⟩
   case defer d =>
    refine⟨keep _ (keepD d) _,?_⟩
    rw[<-Act.put_comm _ v undef h2,<-Act.put_defers]
    exact h
   case enter f args =>
    refine⟨h.1,CallsIn.mono h.2 fun e w'' he=>?_⟩
    cases e with
    | returned u=>exact⟨keep a hy u,by rw[<-Act.put_comm a v u h2];exact he⟩
    | panicked c=>exact hQ _ _ _ he
    | outgrown=>exact he
   case row row args=>exact⟨h.1,RowsIn.mono h.2 fun u w'' he=>⟨keep a hy u,by rw[<-Act.put_comm a v u h2];exact he⟩⟩
   case round l f tmps assign body =>
    refine⟨h.1,RoundIn.mono h.2 fun e w'' he=>?_⟩
    cases e with
    | returned u=>exact⟨keep a hy u,by rw[<-Act.put_comm a v u h2];exact he⟩
    | panicked c=>exact hQ _ _ _ he
    | outgrown=>exact he
  | halt x w' =>
   cases x<;>simp only[Oper.uponIn]at h ⊢
   case panic u=>exact hQ _ _ _ h
 ·rename_i hw
  simp only[hw]at h
  exact⟨fun _ _=>trivial,keep a hy _,by rw[<-Act.put_comm a v undef h2];exact h.2⟩

theorem wpAnyR_first{Q:Exit->Act->World->Prop}{Φ:Nat->Heap->Heap->Prop}{i:Nat}{oi:Oper}{v:Value}{S:Heap->Prop}(hi:ops[i]? = some oi)(hok:∀(j:Nat) (o:Oper),ops[j]? = some o->okOp o.op=true)
 (hQ:∀c a w,Q (.panic c) (a.put oi.dst v) w->Q (.panic c) a w) (hr:∀j h,Φ j h h) (hc:closedAll ops.toList=true) :
 ∀(fuel:Nat) (listed:Array Bool) (a:Act) (w:World),listed.size=ops.size->Inv ops listed ->
  (∀j oj,ops[j]? = some oj->j≠i->listed.getD j true=false->(∀e∈oj.after,Region.binds .any e=true->e.on≠i)->oi.apart ops oj=true) ->
  i∈Region.ready .any ops listed->YieldsIf P ops (fun w=>S w.heap) oi v a->S w.heap ->
  wpAnyR P ops r Q (fun j h h'=>Φ j h h'/\((clo ops.toList i).testBit j=true->S h->S h')) fuel (listed.setIfInBounds i true) (a.put oi.dst v) w->wpAnyR P ops r Q Φ (fuel+1) listed a w:=by
 intro fuel
 induction fuel with
 | zero =>
  intro listed a w _ _ _ hrd hy hS H
  refine⟨fun h=>(by rw[h]at hrd;cases hrd),fun j hj=>?_⟩
  by_cases hji:j=i
  ·subst hji;exact yields_wpOpIn hi (hok _ _ hi) hy hS ⟨hr _ _,H⟩
  ·have:=ready_mono hj hji
   rw[H.1]at this
   cases this
 | succ fuel ih =>
  intro listed a w hl hinv hfree hrd hy hS H
  refine⟨fun h=>(by rw[h]at hrd;cases hrd),fun j hj=>?_⟩
  by_cases hji:j=i
  ·subst hji;exact yields_wpOpIn hi (hok _ _ hi) hy hS ⟨hr _ _,wpAnyR_mono (fun _ _ _ h=>h.1) _ _ _ _ H⟩
  ·have h1:=H.2 j (ready_mono hj hji)
   have hclo:=in_clo hc hl hinv hj (mem_ready.1 hrd).1 hji
   obtain⟨hjun,oj,hoj,hall⟩:=mem_ready.1 hj
   have hnot:∀e∈oj.after,Region.binds .any e=true->e.on≠i:=fun e he hb heq=>by
    have h1:=hall e he hb
    have h0:=(mem_ready.1 hrd).1
    rw[heq]at h1
    rcases Nat.lt_or_ge i listed.size with h'|h'
    ·simp[h']at h0 h1;rw[h0]at h1;cases h1
    ·simp[Array.getElem?_eq_none h']at h1
   have h2:=wpOpIn_putR hoj (hfree j oj hoj hji hjun hnot) (hok _ _ hi) (hok _ _ hoj) hQ hy h1
   have hfree':∀k ok,ops[k]? = some ok->k≠i->(listed.setIfInBounds j true).getD k true=false ->
    (∀e∈ok.after,Region.binds .any e=true->e.on≠i)->oi.apart ops ok=true:=fun k ok hk hki hun hno=>by
    refine hfree k ok hk hki ?_ hno
    by_cases hjk:j=k
    ·subst hjk;exact hjun
    ·rw[getD_set_ne true hjk]at hun;exact hun
   refine wpOpIn_mono (fun a' w' h3=>?_) h2
   obtain⟨h4,⟨h5,h6⟩,h7⟩:=h3
   refine⟨h5,ih (listed.setIfInBounds j true) a' w' (by simpa using hl) (hinv.step hc hl hj) hfree' (ready_mono hrd (Ne.symm hji)) h4 (h6 hclo hS) ?_⟩
   rw[Array.setIfInBounds_comm _ _ hji]
   exact h7

def Kept(ops:List Oper)(rs:List (Nat×(Heap->Prop)))(j:Nat)(h h':Heap):Prop:=∀x∈rs,(clo ops x.1).testBit j=true->x.2 h->x.2 h'

theorem vcDraw_sound{n:Nat}{ds:Nat->Prop}(hds:dstIn ops ds){Q:Exit->Act->World->Prop}{K:Env->Heap->Prop}{a₀:Act}{w₀:World}(hQ:∀a w,After n ds K a₀ w₀ a w->Q .normal a w)
 (hQp:∀c a a' w,Q (.panic c) a w->Q (.panic c) a' w)
 (hc:closedAll ops.toList=true) (hok:∀(j:Nat) (o:Oper),ops[j]? = some o->okOp o.op=true) :
 ∀(fuel:Nat) (listed:Array Bool),listed.size=ops.size->Inv ops listed ->
  ∀(rs:List (Nat×(Heap->Prop))) (ρ:Env) (a:Act) (w:World),St n ρ a->Same w₀ w->Fr ds a₀ a->vcDraw P ops n K fuel listed rs ρ w.heap->wpAnyR P ops r Q (Kept ops.toList rs) fuel listed a w:=by
 intro fuel
 induction fuel with
 | zero =>
  intro listed _ _ rs ρ a w hs hw hf h
  unfold vcDraw at h
  split at h
  ·rename_i hr
   exact⟨hr,hQ a w ⟨hw,hf,ρ,hs,h⟩⟩
  ·exact h.elim
 | succ fuel ih =>
  intro listed hl hinv rs ρ a w hs hw hf h
  unfold vcDraw at h
  split at h
  ·rename_i hr
   exact⟨fun _=>hQ a w ⟨hw,hf,ρ,hs,h⟩,fun i hi=>by rw[hr]at hi;cases hi⟩
  ·rename_i hne
   split at h
   ·rename_i i hfind
    have hp:=List.find?_some hfind
    have hmem:=List.mem_of_find?_eq_some hfind
    simp only[Bool.and_eq_true]at hp
    obtain⟨hp1,hp2⟩:=hp
    obtain⟨_,o,ho,_⟩:=mem_ready.1 hmem
    rw[ho]at hp1 h
    simp only at hp1 h
    have hk2:kindOf P o.op≠2:=fun e=>by rw[e]at hp1;cases hp1
    cases h0:Nat.beq (kindOf P o.op) 0 with
    | true =>
     rw[h0]at h
     simp only[cond_true]at h
     obtain⟨v,hk,_,hy⟩:=vcStep_reader (ops:=ops) hs.toAgree hk2 h
     obtain⟨ρ',hs',hk'⟩:=putE_St hs hk
     have hy':YieldsIf P ops (fun w=>(fun _:Heap=>True) w.heap) o v a:=by
      rcases hy with ⟨hw,hx⟩|hy
      ·exact .inl ⟨hw,fun w' _=>hx w' ⟨Nat.zero_le _,fun b hb=>absurd hb (Nat.not_lt_zero _)⟩⟩
      ·exact .inr hy
     refine wpAnyR_first (S:=fun _=>True) ho hok (fun c a w=>hQp c _ _ w) (fun j h x _ _ hx=>hx) hc fuel listed a w hl hinv (Region.free_spec ho hp2) hmem hy' trivial ?_
     exact wpAnyR_mono (fun _ _ _ h=>⟨h,fun _ _=>trivial⟩) _ _ _ _ (ih _ (by simpa using hl) (hinv.step hc hl hmem) rs ρ' _ w hs' hw (hf.trans (Fr.put a (fun d hd=>hds i o d ho hd) v)) hk')
    | false =>
     rw[h0]at h
     simp only[cond_false]at h
     obtain⟨v,hk,hS,hy⟩:=vcStep_again (ops:=ops) hs.toAgree hk2 h
     obtain⟨ρ',hs',hk'⟩:=putE_St hs hk
     refine wpAnyR_first (S:=fun h'=>vcStep P ops.toList true o ρ (fun u _=>u=v) h') ho hok (fun c a w=>hQp c _ _ w) (fun j h x _ _ hx=>hx) hc fuel listed a w hl hinv (Region.free_spec ho hp2) hmem hy hS ?_
     exact wpAnyR_mono (fun _ _ _ h=>⟨fun x hx=>h x (List.mem_cons_of_mem _ hx),h _ (List.mem_cons_self ..)⟩) _ _ _ _ (ih _ (by simpa using hl) (hinv.step hc hl hmem) _ ρ' _ w hs' hw (hf.trans (Fr.put a (fun d hd=>hds i o d ho hd) v)) hk')
   ·refine⟨fun e=>absurd e hne,fun i hi=>?_⟩
    have hstep:=allR_mem h i hi
    obtain⟨_,o,ho,_⟩:=mem_ready.1 hi
    rw[ho]at hstep
    refine vcStep_wp hs.toAgree ho hstep fun v w' hsame hk=>?_
    obtain⟨hk1,hk2⟩:=needs_out hk
    obtain⟨ρ',hs',hk'⟩:=putE_St hs hk1
    exact⟨fun x hx hb _=>hk2 x hx hb,ih _ (by simpa using hl) (hinv.step hc hl hi) rs ρ' _ w' hs' (hw.trans hsame) (hf.trans (Fr.put a (fun d hd=>hds i o d ho hd) v)) hk'⟩
end

def okAll:List Oper->Bool
 | []=>true
 | o::os=>okOp o.op&&okAll os

theorem okAll_mem{l:List Oper}(h:okAll l=true):∀o∈l,okOp o.op=true:=by
 induction l with
 | nil=>intro o ho;cases ho
 | cons x xs ih =>
  intro o ho
  have h':(okOp x.op&&okAll xs)=true:=h
  rw[Bool.and_eq_true]at h'
  rcases List.mem_cons.1 ho with e|ho
  ·rw[e];exact h'.1
  ·exact ih h'.2 o ho

def vcRegion(P:Program)(n:Nat)(ops:Array Oper)(draw:Bool)(ρ:Env)(K:Env->Heap->Prop)(h:Heap):Prop :=
 bif draw then
  bif closedAll ops.toList&&okAll ops.toList then vcDraw P ops n K ops.size (Array.replicate ops.size false) [] ρ h else False
 else vcOps P ops.toList n (List.range ops.toList.length) ρ K h

theorem vcRegion_wp{P:Program}(hm:P.follows .mixedOrders=true){r:Option Nat}{n id:Nat}{ops:Array Oper}{draw:Bool}{ds:Nat->Prop}(hds:dstIn ops ds){Q:Exit->Act->World->Prop}{K:Env->Heap->Prop}{ρ:Env}{a:Act}{w:World}
 (hQ:∀a' w',After n ds K a w a' w'->Q .normal a' w') (hQp:∀c a a' w,Q (.panic c) a w->Q (.panic c) a' w) (hs:St n ρ a) (h:vcRegion P n ops draw ρ K w.heap):(Code.region id ops draw).wpIn (FW r) 0 P Q a w:=by
 unfold vcRegion at h
 cases draw with
 | false =>
  simp only[cond_false]at h
  exact wpIn_region (vcOps_wpOps hds hQ _ ρ a w hs (.refl _) (.refl _ _) (by simpa using h))
 | true =>
  simp only[cond_true]at h
  cases hb:(closedAll ops.toList&&okAll ops.toList) with
  | false=>rw[hb]at h;exact h.elim
  | true =>
   rw[hb]at h
   simp only[cond_true]at h
   simp only[Bool.and_eq_true]at hb
   refine wpIn_region_any hm (wpAnyIn_of_R (Φ:=Kept ops.toList []) _ _ _ _ ?_)
   refine vcDraw_sound hds (w₀:=w) (a₀:=a) hQ hQp hb.1 (fun j o ho=>okAll_mem hb.2 o (Array.mem_toList_iff.2 (Array.mem_of_getElem? ho))) _ _ sM ?_ [] ρ a { w with drawn:=w.drawn+1 } hs ⟨rfl,rfl,rfl⟩ (.refl _ _) h
   intro r _ j hj
   exfalso
   by_cases hlt:j<ops.size<;>simp[hlt]at hj

end Go.Vc

/- The condition of a whole body,loops by an invariant and a measure,ranges over functions by their iterator's contract; a function's contract out of it. -/
import Derived.Test.YtdccfkffabngjaaGreatVcRegion
namespace Go.Vc
open Go

def Cur:Nat->Type
 | 0=>Heap->Prop
 | n+1=>Value->Cur n

def curry:(n:Nat)->(List Value->Heap->Prop)->Cur n
 | 0,f=>f []
 | n+1,f=>fun v=>curry n fun vs=>f (v::vs)

def appC:(n:Nat)->Cur n->List Value->Heap->Prop
 | 0,X,_,h=>X h
 | n+1,X,v::vs,h=>appC n (X v) vs h
 | _+1,_,[],_=>False

theorem appC_curry:∀(n:Nat) (f:List Value->Heap->Prop) (vs:List Value) (h:Heap),vs.length=n->(appC n (curry n f) vs h↔f vs h)
 | 0,f,[],h,_=>Iff.rfl
 | n+1,f,v::vs,h,hl=>by
  show appC n (curry n fun vs=>f (v::vs)) vs h↔_
  exact appC_curry n (fun vs=>f (v::vs)) vs h (by simpa using hl)

structure JoinN (n:Nat) (F:Cur n->Heap->Prop) (K:Cur n) (h:Heap) (u:Un F) (u':Un K):Prop where
 out:F K h

structure LoopC (n:Nat) (body:Cur n->Cur n) (init:List Value) (h:Heap) (u:Un body):Prop where
 out:∃(I:Nat->List Value->Heap->Prop) (m:Nat),I m init h/\∀(m:Nat) (vs:List Value) (h:Heap),vs.length=n->I m vs h->appC n (body (curry n fun vs' h'=>∃m',m'<m/\I m' vs' h')) vs h

theorem least_ex(p:Nat->Prop):∀m,p m->∃k,p k/\∀j,p j->k<=j:=by
 intro m
 induction m using Nat.strongRecOn with
 | _ m ih =>
  intro hm
  by_cases h:∃j,j<m/\p j
  ·obtain⟨j,hj,hp⟩:=h
   exact ih j hj hp
  ·exact⟨m,hm,fun j hj=>Nat.le_of_not_lt fun hlt=>h ⟨j,hlt,hj⟩⟩

inductive Ann where
 | l
 | n (m:Option (List Nat)) (a b:Ann)

def Ann.fst:Ann->Ann | .l=>.l | .n _ a _=>a
def Ann.snd:Ann->Ann | .l=>.l | .n _ _ b=>b
def Ann.ms:Ann->Option (List Nat) | .l=>none | .n m _ _=>m

def valsK(ρ:Env):List Nat->(List Value->Prop)->Prop
 | [],k=>k []
 | t::ts,k=>match ρ t with
  | some v=>valsK ρ ts fun vs=>k (v::vs)
  | none=>False

def elemB(t:Nat):List Nat->Bool
 | []=>false
 | x::xs=>Nat.beq t x || elemB t xs

def joinEnv(ρ:Env)(x:List Nat):List Nat->List Value->Env
 | t::ts,v::vs=>(joinEnv ρ x ts vs).put t v
 | _,_=>fun t=>bif elemB t x then none else ρ t

def dsts:List Oper->List Nat
 | []=>[]
 | o::os=>match o.dst with
  | some d=>(d+1)::dsts os
  | none=>dsts os

def assigned:Code->List Nat
 | .region _ ops _=>dsts ops.toList
 | .seq a b=>assigned a++assigned b
 | .cond _ a b=>assigned a++assigned b
 | .block _ a=>assigned a
 | .loop a=>assigned a
 | .scope a=>assigned a
 | .rangeFunc .. => [0]
 | _=>[]

def condB(v:Value)(yes no:Prop):Prop :=
 match v with
 | .bool b=>if b=true then yes else no
 | _=>False

structure CondP (v:Value) (yes no:Prop) (u:Un yes) (u':Un no):Prop where
 out:condB v yes no

def opK(ρ:Env)(x:Operand)(k:Value->Prop):Prop :=
 match opv ρ x with
 | some v=>k v
 | none=>False

/-! ### Ranges over functions -/

def isLoop:Obj->Bool
 | .loop _=>true
 | _=>false

def isYield:Value->Bool
 | .func (.yield _) _ _=>true
 | _=>false

def consD(d:Nat):Value->Value
 | .tuple xs=>.tuple (.int .i64 d::xs.toList).toArray
 | v=>v

def putArgs(ρ:Env):List Nat->List Value->Env
 | p::ps,v::vs=>putArgs (ρ.put (p+1) v) ps vs
 | _,_=>ρ

def allLt(n:Nat):List Nat->Bool
 | []=>true
 | p::ps=>Nat.blt p n&&allLt n ps

def startR(r:Option Nat)(oR:Obj)(D:Value)(h:Heap)(k:Nat->VP):Prop :=
 match r with
 | none=>k (h.size+1) (consD h.size D) ((h.push (.deferred (some []))).push oR)
 | some l₀=>(∃o,h[l₀]? = some o/\isLoop o=true)/\k h.size D (h.push oR)

def beginP(oR oB:Obj)(l:Nat)(k:Heap->Prop)(h:Heap):Prop:=h[l]? = some oR/\k (h.setIfInBounds l oB)

def rangeP(P:Program)(r:Option Nat)(gv:Value)(np:Nat)(D:Value)(B:Nat->List Value->((Heap->Prop)->Heap->Prop)->(Heap->Prop)->(Code->Heap->Prop)->Heap->Prop)
 (aN aR:VP) (aE:Nat->VP) (h:Heap):Prop :=
 isYield gv=false/\∀(oR oB oE:Obj) (oX oF:Code->Obj),isLoop oR=true->isLoop oB=true->startR r oR D h fun l D' h1 =>
  (∀(args:List Value) (h':Heap) (K:VP),args.length=np->h'[l]? = some oR ->
   B l args (beginP oR oB l) (fun h4=>h4[l]? = some oB/\K (.bool true) (h4.setIfInBounds l oR)) (fun c h4=>h4[l]? = some oB/\K (.bool false) (h4.setIfInBounds l (oX c))) h' ->
   InvokeH P (.func (.yield l) #[] #[]) args.toArray h' K ⟨⟩) ->
  InvokeH P gv #[.func (.yield l) #[] #[]] h1 (fun _ h2=>(h2[l]? = some oR/\aN D' (h2.setIfInBounds l oE))\/(h2[l]? = some (oX .ret)/\aR D' (h2.setIfInBounds l (oF .ret))) \/
   (∃id,h2[l]? = some (oX (.exit id))/\aE id D' (h2.setIfInBounds l (oF (.exit id))))) ⟨⟩

structure RangeC (P:Program) (r:Option Nat) (gv:Value) (np:Nat) (D:Value) (B:Nat->List Value->((Heap->Prop)->Heap->Prop)->(Heap->Prop)->(Code->Heap->Prop)->Heap->Prop)
 (aN aR:VP) (aE:Nat->VP) (h:Heap) (u:Un B) (u':Un aN) (u'':Un aR) (u3:Un aE):Prop where
 out:rangeP P r gv np D B aN aR aE h

def getV:List Value->Nat->Value
 | [],_=>undef
 | v::_,0=>v
 | _::vs,t+1=>getV vs t

def argsF(vs:List Value):Nat->Nat->List Value
 | _,0=>[]
 | i,n+1=>getV vs i::argsF vs (i+1) n
def argsV(vs:List Value)(n:Nat):List Value:=argsF vs 0 n

def str(l:List UInt8):Value:=.string ⟨⟨l⟩⟩

def vc(P:Program)(n:Nat):Code->Option Nat->Ann->Env->(Env->Heap->Prop)->(Nat->Env->Heap->Prop)->(Env->Heap->Prop)->Heap->Prop
 | .skip,_,_,ρ,N,_,_,h=>N ρ h
 | .label _,_,_,ρ,N,_,_,h=>N ρ h
 | .ret,_,_,ρ,_,_,R,h=>R ρ h
 | .exit id,_,_,ρ,_,E,_,h=>E id ρ h
 | .region _ ops d,_,_,ρ,N,_,_,h=>vcRegion P n ops d ρ N h
 | .seq x y,r,A,ρ,N,E,R,h=>match A.ms with
  | some ms=>JoinN ms.length (fun k h=>vc P n x r A.fst ρ (fun ρ' h'=>valsK ρ' ms fun vs=>appC ms.length k vs h') E R h)
   (curry ms.length fun vs h'=>vc P n y r A.snd (joinEnv ρ (assigned x) ms vs) N E R h') h ⟨⟩ ⟨⟩
  | none=>vc P n x r A.fst ρ (fun ρ' h'=>vc P n y r A.snd ρ' N E R h') E R h
 | .cond c x y,r,A,ρ,N,E,R,h=>opK ρ c fun v=>CondP v (vc P n x r A.fst ρ N E R h) (vc P n y r A.snd ρ N E R h) ⟨⟩ ⟨⟩
 | .block id x,r,A,ρ,N,E,R,h=>match A.ms with
  | some ms=>JoinN ms.length (fun k h=>vc P n x r A.fst ρ (fun ρ' h'=>valsK ρ' ms fun vs=>appC ms.length k vs h')
   (fun id' ρ' h'=>bif Nat.beq id' id then (valsK ρ' ms fun vs=>appC ms.length k vs h') else E id' ρ' h') R h)
   (curry ms.length fun vs h'=>N (joinEnv ρ (assigned x) ms vs) h') h ⟨⟩ ⟨⟩
  | none=>vc P n x r A.fst ρ N (fun id' ρ' h'=>bif Nat.beq id' id then N ρ' h' else E id' ρ' h') R h
 | .loop x,r,A,ρ,_,E,R,h=>match A.ms with
  | some ms=>valsK ρ ms fun vs0=>LoopC ms.length (fun X=>curry ms.length fun vs h' =>
   vc P n x r A.fst (joinEnv ρ (assigned x) ms vs) (fun ρ' h''=>valsK ρ' ms fun vs'=>appC ms.length X vs' h'') E R h') vs0 h ⟨⟩
  | none=>False
 | .scope x,r,A,ρ,N,E,R,h=>vc P n x r A.fst ρ N E R h
 | .rangeFunc g ps assign body,r,A,ρ,N,E,R,h=>bif allLt n ps.toList then opK ρ g fun gv=>match ρ 0 with
  | some D=>RangeC P r gv ps.size D (fun l args bg Nb Jb h' =>
   vc P n assign (some l) A.fst (putArgs (ρ.put 0 (.tuple #[])) ps.toList (argsV args ps.size))
    (fun ρ' h2=>bg (fun h3=>vc P n body (some l) A.snd ρ' (fun _ h4=>Nb h4) (fun id _ h4=>Jb (.exit id) h4) (fun _ h4=>Jb .ret h4) h3) h2) (fun _ _ _=>False) (fun _ _=>False) h')
   (fun D' h'=>N (ρ.put 0 D') h') (fun D' h'=>R (ρ.put 0 D') h') (fun id D' h'=>E id (ρ.put 0 D') h') h ⟨⟩ ⟨⟩ ⟨⟩ ⟨⟩
  | none=>False else False
 | .goto _,_,_,_,_,_,_,_=>False
 | .refuse _,_,_,_,_,_,_,_=>False

def QK(n:Nat)(ds:Nat->Prop)(N:Env->Heap->Prop)(E:Nat->Env->Heap->Prop)(R:Env->Heap->Prop)(a₀:Act)(w₀:World):Exit->Act->World->Prop
 | .normal,a,w=>After n ds N a₀ w₀ a w
 | .exit id,a,w=>After n ds (E id) a₀ w₀ a w
 | .ret,a,w=>After n ds R a₀ w₀ a w
 | _,_,_=>False

theorem After.from{n:Nat}{ds ds':Nat->Prop}{K:Env->Heap->Prop}{a₀ a₁ a:Act}{w₀ w₁ w:World}(hs:Same w₀ w₁)(hf:Fr ds' a₀ a₁)(hd:∀t,ds t->ds' t)(h:After n ds K a₁ w₁ a w):After n ds' K a₀ w₀ a w :=
 ⟨hs.trans h.same,hf.trans fun t ht=>h.fr t fun hh=>ht (hd t hh),h.env⟩

theorem After.weak{n:Nat}{ds ds':Nat->Prop}{K:Env->Heap->Prop}{a₀ a:Act}{w₀ w:World}(hd:∀t,ds t->ds' t)(h:After n ds K a₀ w₀ a w):After n ds' K a₀ w₀ a w :=
 ⟨h.same,fun t ht=>h.fr t fun hh=>ht (hd t hh),h.env⟩

theorem QK.from{n:Nat}{ds ds':Nat->Prop}{N:Env->Heap->Prop}{E:Nat->Env->Heap->Prop}{R:Env->Heap->Prop}{a₀ a₁:Act}{w₀ w₁:World}(hs:Same w₀ w₁)(hf:Fr ds' a₀ a₁)(hd:∀t,ds t->ds' t) :
 ∀(e:Exit) (a:Act) (w:World),QK n ds N E R a₁ w₁ e a w->QK n ds' N E R a₀ w₀ e a w:=by
 intro e a w h
 cases e<;>first|exact After.from hs hf hd h|exact h

theorem getD_of_some{xs:Array Value}{t:Nat}{v:Value}(h:xs[t]? = some v):xs.getD t undef=v:=by
 rw[Array.getD_eq_getD_getElem?,h];rfl

def lookD(a:Act)(t:Nat):Value:=(look a t).getD undef

theorem lookD_of{a:Act}{t:Nat}{v:Value}(h:look a t=some v):lookD a t=v:=by unfold lookD;rw[h];rfl

theorem valsK_spec{n:Nat}{ρ:Env}{a:Act}(s:St n ρ a):∀(ms:List Nat) (k:List Value->Prop),valsK ρ ms k->k (ms.map (lookD a))/\∀t∈ms,look a t=some (lookD a t)
 | [],k,h=>⟨h,fun t ht=>by cases ht⟩
 | t::ts,k,h=>by
  unfold valsK at h
  cases hv:ρ t with
  | none=>rw[hv]at h;exact h.elim
  | some v =>
   rw[hv]at h
   have e:=s.tmps t v hv
   obtain⟨h1,h2⟩:=valsK_spec s ts _ h
   refine⟨by rw[List.map_cons,lookD_of e];exact h1,fun u hu=>?_⟩
   rcases List.mem_cons.1 hu with rfl|hu
   ·rw[lookD_of e];exact e
   ·exact h2 u hu

theorem elemB_iff(t:Nat):∀l:List Nat,elemB t l=true↔t∈l
 | []=>by simp[elemB]
 | x::xs=>by simp[elemB,elemB_iff t xs,Nat.beq_eq]

theorem St.join{n:Nat}{ρ:Env}{a₀ a:Act}{x:List Nat}(s:St n ρ a₀)(hf:Fr (· ∈ x) a₀ a)(hsz:a.tmps.size=n)(hd:a.defers=(a.defers.map blkOf).map markOf) :
 ∀(ms:List Nat),(∀t∈ms,look a t=some (lookD a t))->St n (joinEnv ρ x ms (ms.map (lookD a))) a
 | [],_=>by
  refine⟨⟨fun t v hv=>?_⟩,hsz,hd⟩
  unfold joinEnv at hv
  cases he:elemB t x with
  | true=>rw[he]at hv;cases hv
  | false =>
   rw[he]at hv
   rw[hf t (fun hm=>by rw[(elemB_iff t x).2 hm]at he;cases he)]
   exact s.tmps t v hv
 | m::ms,hms=>by
  have ih:=St.join s hf hsz hd ms (fun t ht=>hms t (List.mem_cons_of_mem _ ht))
  refine⟨⟨fun t v hv=>?_⟩,hsz,hd⟩
  have hv':(joinEnv ρ x ms (ms.map (lookD a))).put m (lookD a m) t=some v:=hv
  unfold Env.put at hv'
  by_cases h:t=m
  ·subst h
   rw[show Nat.beq t t=true from Nat.beq_refl t]at hv'
   simp only[cond_true,Option.some.injEq]at hv'
   rw[<-hv'];exact hms t (List.mem_cons_self ..)
  ·rw[show Nat.beq t m=false from Bool.eq_false_iff.2 fun e=>h (Nat.eq_of_beq_eq_true e)]at hv'
   exact ih.tmps t v hv'

theorem dstIn_dsts(ops:Array Oper):dstIn ops (· ∈ dsts ops.toList):=by
 intro i o d ho hd
 have key:∀(l:List Oper),o∈l->d+1∈dsts l:=by
  intro l
  induction l with
  | nil=>intro h;cases h
  | cons x xs ih =>
   intro h
   unfold dsts
   rcases List.mem_cons.1 h with rfl|h
   ·rw[hd];exact List.mem_cons_self ..
   ·cases x.dst with
    | none=>exact ih h
    | some e=>exact List.mem_cons_of_mem _ (ih h)
 exact key _ (Array.mem_toList_iff.2 (Array.mem_of_getElem? ho))

theorem opK_spec{ρ:Env}{a:Act}(ha:Agree ρ a){x:Operand}{k:Value->Prop}(h:opK ρ x k):k (a.eval x):=by
 unfold opK at h
 cases hv:opv ρ x with
 | none=>rw[hv]at h;exact h.elim
 | some v =>
  rw[hv]at h
  have:=ev_agree ha (xs:=[x]) (by simp[known,hv]) x (List.mem_singleton.2 rfl)
  rw[this];unfold ev;rw[hv];exact h

section scope
variable {F:Fence}{n:Nat}{P:Program}{b:Frame}{a:Act}{k:List Item}{cs:List Frame}{w:World}{Q:Exit->Act->World->Prop}
theorem stepR_scope{c:Code}:step P (lone (b.atR a (.code (.scope c)::k)) cs w) = .next (lone (b.atR a (.code c :: .inScope c::k)) cs w) :=
 step_lone_go (by simp[stepG,stepG.exec,Frame.atR])
theorem stepR_inScope{c:Code}:step P (lone (b.atR a (.inScope c::k)) cs w) = .next (lone (b.atR a k) cs w) :=
 step_lone_go (by simp[stepG,stepG.exec,Frame.atR])

theorem wpIn_scope_straight{c:Code}(h:c.wpIn F n P (Exit.noGoto Q) a w):(Code.scope c).wpIn F n P Q a w:=by
 intro b k cs hro hb hr
 have h0:(lone (b.atR a (.code (.scope c)::k)) cs w).fenced P F:=fenced_calm hb hr rfl
 obtain⟨e,a₁,w₁,hq,harr⟩:=h b (.inScope c::k) cs hro hb hr
 cases e with
 | normal=>exact⟨.normal,a₁,w₁,hq,.head h0 stepR_scope (StepsIn.trans harr (.one (fenced_calm hb hr rfl) stepR_inScope))⟩
 | exit id =>
  have hx:exitTo id (.inScope c::k)=exitTo id k:=by simp[exitTo]
  exact⟨.exit id,a₁,w₁,hq,fun k' hk=>.head h0 stepR_scope (harr.1 k' (by rw[hx];exact hk)),
   fun hr' hk=>let ⟨k₁,h1,h2⟩:=harr.2 hr' (by rw[hx];exact hk);⟨k₁,h1,.head h0 stepR_scope h2⟩⟩
 | goto l=>exact hq.elim
 | ret=>exact⟨_,a₁,w₁,hq,.of_steps (.one h0 stepR_scope) harr⟩
 | panic ch=>exact⟨_,a₁,w₁,hq,.of_steps (.one h0 stepR_scope) harr⟩
 | outgrown=>exact⟨_,a₁,w₁,hq,.of_steps (.one h0 stepR_scope) harr⟩
end scope

/-! ### A round's frame -/

theorem putArgs_St{n:Nat}:∀(ps:List Nat) (vs:List Value) (ρ:Env) (a:Act),allLt n ps=true->ps.length=vs.length->St n ρ a ->
 St n (putArgs ρ ps vs) { a with tmps:=(ps.zip vs).foldl (fun tmps (t,v)=>tmps.setIfInBounds t v) a.tmps }
 | [],[],ρ,a,_,_,s=>s
 | p::ps,v::vs,ρ,a,hl,he,s=>by
  simp only[allLt,Bool.and_eq_true]at hl
  have:=putArgs_St ps vs (ρ.put (p+1) v) (a.put (some p) v) hl.2 (by simpa using he) (s.put hl.1 v)
  exact this

theorem getV_cons(v:Value):∀(pre vs:List Value),getV (pre++v::vs) pre.length=v
 | [],_=>rfl
 | _::pre,vs=>getV_cons v pre vs
theorem argsF_eq:∀(vs pre:List Value),argsF (pre++vs) pre.length vs.length=vs
 | [],pre=>rfl
 | v::vs,pre=>by
  show getV (pre++v::vs) pre.length::argsF (pre++v::vs) (pre.length+1) vs.length=_
  rw[getV_cons]
  have:=argsF_eq vs (pre++[v])
  simp only[List.append_assoc,List.cons_append,List.nil_append,List.length_append,List.length_cons,List.length_nil,Nat.zero_add]at this
  rw[this]
theorem argsV_length(vs:List Value)(n:Nat)(h:vs.length=n):argsV vs n=vs:=by
 subst h;exact argsF_eq vs []

theorem St.marks0{n:Nat}{ρ:Env}{a:Act}(s:St n ρ a):St n (ρ.put 0 (.tuple #[])) { a with defers:=[] }:=by
 refine⟨⟨fun t v hv=>?_⟩,s.size,rfl⟩
 cases t with
 | zero =>
  have:some (Value.tuple #[])=some v:=hv
  rw[<-this];rfl
 | succ t=>exact s.tmps (t+1) v hv

theorem St.mark{n:Nat}{ρ:Env}{a:Act}(s:St n ρ a){D:Value}(hD:ρ 0=some D)(d:Nat):St n (ρ.put 0 (consD d D)) { a with defers:=markOf d::a.defers }:=by
 refine⟨⟨fun t v hv=>?_⟩,s.size,?_⟩
 ·cases t with
  | zero =>
   have e:some (consD d D)=some v:=hv
   have h0:look a 0=some D:=s.tmps 0 D hD
   have h1:some (Value.tuple (marksV (a.defers.map blkOf)).toArray)=some D:=h0
   cases h1
   rw[<-e]
   rfl
  | succ t=>exact s.tmps (t+1) v hv
 ·show markOf d::a.defers=markOf d::(a.defers.map blkOf).map markOf
  rw[<-s.marks]

theorem St.put0{n:Nat}{ρ:Env}{a:Act}(s:St n ρ a){D:Value}(hD:ρ 0=some D):St n (ρ.put 0 D) a:=by
 refine⟨⟨fun t v hv=>?_⟩,s.size,s.marks⟩
 cases t with
 | zero =>
  have e:some D=some v:=hv
  rw[<-e];exact s.tmps 0 D hD
 | succ t=>exact s.tmps (t+1) v hv

theorem invoke_run{P:Program}{r:Option Nat}{gv:Value}{a:Act}{g:Operand}{l:Nat}{w:World}{K:VP}(hg:a.eval g=gv)(hy:isYield gv=false)(h:invokeP P gv #[Value.func (.yield l) #[] #[]] w.heap K) :
 ∃(d:Deferred) (f:FuncId) (args:Array Value) (w₂:World),(resolve a.eval (rangeCall g l) 0).run P w = .ok d w/\(invoke d.target d.args).run P w = .ok (.enter f args) w₂ /\
  CallsIn (FW r) (0-1) P f args w₂ (fun e w'=>∃v,e = .returned v/\Same w w'/\K v w'.heap):=by
 unfold invokeP at h
 have hres:∀(fn:Fn) (first captured:Array Value),gv = .func fn first captured->(resolve a.eval (rangeCall g l) 0).run P w = .ok { target:=.fn fn captured,args:=first ++ #[Value.func (.yield l) #[] #[]] } w:=by
  intro fn first captured e
  have em:Array.map a.eval #[Operand.const (Value.func (Fn.yield l) #[] #[])] = #[Value.func (Fn.yield l) #[] #[]]:=by simp[Act.eval]
  simp only[resolve,hg,e,em]
  rfl
 split at h
 ·rename_i f first captured
  cases hc:callOk P f with
  | false=>rw[hc]at h;exact h.elim
  | true =>
   rw[hc]at h
   have h':CallsH P f (first ++ #[Value.func (.yield l) #[] #[]]++captured) w.heap K ⟨⟩:=h
   have hc2:=callsIn_FW (r:=r) (n:=0-1) (h'.out w rfl)
   have h1:=hres (.func f) first captured rfl
   have h2:(invoke (.fn (.func f) captured) (first ++ #[Value.func (.yield l) #[] #[]])).run P w = .ok (.enter f (first ++ #[Value.func (.yield l) #[] #[]]++captured)) w:=run_callFunc hc w
   exact⟨_,_,_,_,h1,h2,hc2⟩
 ·rename_i t path f pointer first captured
  split at h
  ·rename_i x0 hx0
   cases hc:callOk P f with
   | false=>rw[hc]at h;exact h.elim
   | true =>
    rw[hc]at h
    have h':hp P false (receiverVia t x0 path pointer) (fun y h'=>CallsH P f (#[y]++(first ++ #[Value.func (.yield l) #[] #[]]).extract 1 (first ++ #[Value.func (.yield l) #[] #[]]).size) h' K ⟨⟩) w.heap:=h
    obtain⟨y,w1,hr,hs,hkk⟩:=hp_run _ _ w h'
    have hc2:CallsIn (FW r) (0-1) P f _ w1 (fun e w'=>∃v,e = .returned v/\Same w w'/\K v w'.heap):=callsIn_FW ((hkk.out w1 rfl).mono fun e w' ⟨v,he,hs',hk⟩=>⟨v,he,hs.trans hs',hk⟩)
    have h1:=hres (.via t path f pointer) first captured rfl
    have h2:(invoke (.fn (.via t path f pointer) captured) (first ++ #[Value.func (.yield l) #[] #[]])).run P w = .ok (.enter f (#[y]++(first ++ #[Value.func (.yield l) #[] #[]]).extract 1 (first ++ #[Value.func (.yield l) #[] #[]]).size)) w1:=by
     unfold invoke
     simp only[hx0]
     show ((receiverVia t x0 path pointer).bind _).run P w=_
     rw[Sem.run_bind',hr]
     show (callFunc f (#[y]++_)).run P w1=_
     rw[run_callFunc hc]
    exact⟨_,_,_,_,h1,h2,hc2⟩
  ·exact h.elim
 ·cases hy
 ·exact h.elim

theorem Same.putObj(w:World)(l:Nat)(o:Obj):Same w (w.putObj l o):=⟨rfl,rfl,rfl⟩

theorem vc_wp{P:Program}(hm:P.follows .mixedOrders=true){n:Nat}:∀(c:Code) (r:Option Nat) (A:Ann) (ρ:Env) (N:Env->Heap->Prop) (E:Nat->Env->Heap->Prop) (R:Env->Heap->Prop) (a:Act) (w:World),St n ρ a ->
 vc P n c r A ρ N E R w.heap->c.wpIn (FW r) 0 P (QK n (· ∈ assigned c) N E R a w) a w:=by
 intro c
 induction c with
 | skip=>exact fun r A ρ N E R a w s h=>wpIn_skip ⟨.refl _,.refl _ _,ρ,s,h⟩
 | label l=>exact fun r A ρ N E R a w s h=>wpIn_label ⟨.refl _,.refl _ _,ρ,s,h⟩
 | ret=>exact fun r A ρ N E R a w s h=>wpIn_ret ⟨.refl _,.refl _ _,ρ,s,h⟩
 | exit id=>exact fun r A ρ N E R a w s h=>wpIn_exit ⟨.refl _,.refl _ _,ρ,s,h⟩
 | region id ops d=>exact fun r A ρ N E R a w s h=>vcRegion_wp hm (dstIn_dsts ops) (fun _ _ hh=>hh) (fun _ _ _ _ hh=>hh) s h
 | goto l=>exact fun r A ρ N E R a w s h=>h.elim
 | rangeFunc g ps assign body iha ihb =>
  intro r A ρ N E R a w s h
  unfold vc at h
  cases hlt:allLt n ps.toList with
  | false=>rw[hlt]at h;exact h.elim
  | true =>
  rw[hlt]at h
  simp only[cond_true]at h
  have h:=opK_spec s.toAgree h
  generalize hgv:a.eval g=gv at h
  cases hD:ρ 0 with
  | none=>rw[hD]at h;exact h.elim
  | some D =>
  rw[hD]at h
  obtain⟨hyi,h⟩:=h.out
  refine wpIn_rangeFunc fun fn _=>?_
  obtain⟨rec,hrec⟩:∃rec:Nat->LoopState->Option Code->Loop,rec=fun db st pe=>{ state:=st,pending:=pe,fn,tmps:=a.tmps,params:=ps,assign,body,defers:=db }:=⟨_,rfl⟩
  -- the yield of a ready record
  have yld:∀(db l:Nat) (args:List Value) (h':Heap) (K:VP),args.length=ps.size->h'[l]? = some (.loop (rec db .ready none)) ->
   vc P n assign (some l) A.fst (putArgs (ρ.put 0 (.tuple #[])) ps.toList (argsV args ps.size))
    (fun ρ' h2=>beginP (.loop (rec db .ready none)) (.loop (rec db .busy none)) l (fun h3=>vc P n body (some l) A.snd ρ' (fun _ h4=>h4[l]? = some (.loop (rec db .busy none))/\K (.bool true) (h4.setIfInBounds l (.loop (rec db .ready none))))
     (fun id _ h4=>h4[l]? = some (.loop (rec db .busy none))/\K (.bool false) (h4.setIfInBounds l (.loop (rec db .done (some (.exit id))))))
     (fun _ h4=>h4[l]? = some (.loop (rec db .busy none))/\K (.bool false) (h4.setIfInBounds l (.loop (rec db .done (some .ret))))) h3) h2) (fun _ _ _=>False) (fun _ _=>False) h' ->
   InvokeH P (.func (.yield l) #[] #[]) args.toArray h' K ⟨⟩:=by
   intro db l args h' K hlen hl hB
   refine⟨fun w' hw'=>?_⟩
   subst hw'
   have hB':=hB
   rw[argsV_length args ps.size hlen]at hB'
   have hy:=run_yield (P:=P) (args:=args.toArray) hl (by rw[hrec];simpa using hlen)
   rw[hrec]at hy
   refine⟨fn,_,assign,body,by rw[show #[]++args.toArray=args.toArray by simp];exact hy,roundIn_of_wpIn (F:=FW none) trivial ?_⟩
   have s0:=putArgs_St (n:=n) ps.toList args _ { a with defers:=[] } hlt (by simpa using hlen.symm) s.marks0
   have e0:(ps.zip args.toArray).foldl (fun tmps (t,a)=>tmps.setIfInBounds t a) a.tmps=(ps.toList.zip args).foldl (fun tmps (t,v)=>tmps.setIfInBounds t v) a.tmps:=by
    rw[<-Array.foldl_toList,Array.toList_zip]
   simp only[e0]
   refine wpIn_mono (iha (some l) A.fst _ _ _ _ _ w' s0 hB') ?_
   intro e a1 w1 hq
   cases e with
   | normal =>
    obtain⟨hs1,_,ρ1,s1,hk1⟩:=hq
    obtain⟨hl1,hk1⟩:=hk1
    refine⟨_,run_beginRound hl1 (by rw[hrec]),?_⟩
    have eb:(Obj.loop { rec db .ready none with state:=.busy }) = .loop (rec db .busy none):=by rw[hrec]
    rw[eb]
    refine wpIn_mono (ihb (some l) A.snd _ _ _ _ _ (w1.putObj l (.loop (rec db .busy none))) s1 hk1) ?_
    intro e a2 w2 hq2
    cases e with
    | normal =>
     obtain⟨hs2,_,ρ2,s2,hl2,hk2⟩:=hq2
     refine⟨_,_,run_endRound none hl2,.bool true,rfl,(hs1.trans (Same.putObj w1 l _)).trans (hs2.trans (Same.putObj w2 l _)),?_⟩
     have:(Obj.loop { rec db .busy none with state:=if (none:Option Code).isNone then .ready else .done,pending:=none }) = .loop (rec db .ready none):=by rw[hrec];rfl
     rw[this];exact hk2
    | ret =>
     obtain⟨hs2,_,ρ2,s2,hl2,hk2⟩:=hq2
     refine⟨_,_,run_endRound (some .ret) hl2,.bool false,rfl,(hs1.trans (Same.putObj w1 l _)).trans (hs2.trans (Same.putObj w2 l _)),?_⟩
     have:(Obj.loop { rec db .busy none with state:=if (some Code.ret:Option Code).isNone then .ready else .done,pending:=some .ret }) = .loop (rec db .done (some .ret)):=by rw[hrec];rfl
     rw[this];exact hk2
    | exit id =>
     obtain⟨hs2,_,ρ2,s2,hl2,hk2⟩:=hq2
     refine⟨_,_,run_endRound (some (.exit id)) hl2,.bool false,rfl,(hs1.trans (Same.putObj w1 l _)).trans (hs2.trans (Same.putObj w2 l _)),?_⟩
     have:(Obj.loop { rec db .busy none with state:=if (some (Code.exit id):Option Code).isNone then .ready else .done,pending:=some (.exit id) }) = .loop (rec db .done (some (.exit id))):=by rw[hrec];rfl
     rw[this];exact hk2
    | goto t=>exact hq2.elim
    | panic c=>exact hq2.elim
    | outgrown=>exact hq2.elim
   | ret=>obtain⟨_,_,_,_,hk⟩:=hq;exact hk.elim
   | exit id=>obtain⟨_,_,_,_,hk⟩:=hq;exact hk.elim
   | goto t=>exact hq.elim
   | panic c=>exact hq.elim
   | outgrown=>exact hq.elim
  -- what follows the call
  have fin:∀(db l:Nat) (D':Value) (a':Act) (w1:World),Same w w1->St n (ρ.put 0 D') a'->Fr (· ∈ [0]) a a' ->
   invokeP P gv #[.func (.yield l) #[] #[]] w1.heap (fun _ h2=>(h2[l]? = some (.loop (rec db .ready none))/\N (ρ.put 0 D') (h2.setIfInBounds l (.loop (rec db .exhausted none)))) \/
    (h2[l]? = some (.loop (rec db .done (some .ret)))/\R (ρ.put 0 D') (h2.setIfInBounds l (.loop (rec db .exhausted (some .ret))))) \/
    (∃id,h2[l]? = some (.loop (rec db .done (some (.exit id))))/\E id (ρ.put 0 D') (h2.setIfInBounds l (.loop (rec db .exhausted (some (.exit id))))))) ->
   ∃(d:Deferred) (w₁':World) (f:FuncId) (args:Array Value) (w₂:World),
    (resolve a.eval (rangeCall g l) 0).run P w1 = .ok d w₁'/\(∀f',Target.leads P w₁' d.target d.args=some f'->(FW r).fn f')/\(invoke d.target d.args).run P w₁' = .ok (.enter f args) w₂ /\
    ((FW r).depth.isSome=true->1<=0)/\CallsIn (FW r) (0-1) P f args w₂ (rangePost (FW r) 0 P l (QK n (· ∈ [0]) N E R a w) a'):=by
   intro db l D' a' w1 hs1 s' hf' hi
   obtain⟨d,f,args,w₂,hres,hinv,hc⟩:=invoke_run (r:=r) hgv hyi hi
   refine⟨d,w1,f,args,w₂,hres,fun _ _=>trivial,hinv,FW_depth r,hc.mono ?_⟩
   rintro e w3 ⟨v,rfl,hs3,hk⟩
   rcases hk with ⟨hl3,hk⟩|⟨hl3,hk⟩|⟨id,hl3,hk⟩
   ·have he:(Instr.endLoop l).run P w3 = .ok none (w3.putObj l (.loop (rec db .exhausted none))):=by subst hrec;exact run_endLoop hl3 (fun e=>by cases e)
    exact⟨_,_,he,(hs1.trans hs3).trans (Same.putObj _ _ _),hf',_,s',hk⟩
   ·have he:(Instr.endLoop l).run P w3 = .ok (some .ret) (w3.putObj l (.loop (rec db .exhausted (some .ret)))):=by subst hrec;exact run_endLoop hl3 (fun e=>by cases e)
    exact⟨_,_,he,wpIn_ret ⟨(hs1.trans hs3).trans (Same.putObj _ _ _),hf',_,s',hk⟩⟩
   ·have he:(Instr.endLoop l).run P w3 = .ok (some (.exit id)) (w3.putObj l (.loop (rec db .exhausted (some (.exit id))))):=by subst hrec;exact run_endLoop hl3 (fun e=>by cases e)
    exact⟨_,_,he,wpIn_exit ⟨(hs1.trans hs3).trans (Same.putObj _ _ _),hf',_,s',hk⟩⟩
  cases r with
  | none =>
   have h1:=h (.loop (rec w.heap.size .ready none)) (.loop (rec w.heap.size .busy none)) (.loop (rec w.heap.size .exhausted none)) (fun c=>.loop (rec w.heap.size .done (some c))) (fun c=>.loop (rec w.heap.size .exhausted (some c))) rfl rfl
   have h2:=(h1 (fun args h' K hlen hl hB=>yld w.heap.size (w.heap.size+1) args h' K hlen hl hB)).out
   obtain⟨w1,hw1⟩:∃w1,(w.alloc (.deferred (some []))).alloc (.loop (rec w.heap.size .ready none))=w1:=⟨_,rfl⟩
   have hrun:(Instr.enterLoop fn a.tmps ps assign body (FW none).round).run P w = .ok (w.heap.size+1,[markOf w.heap.size]) w1:=by
    rw[<-hw1,hrec];exact run_enterLoop_outer _ _ _ _ _
   have hs1:Same w w1:=by rw[<-hw1];exact⟨rfl,rfl,rfl⟩
   obtain⟨d,w₁',f,args,w₂,x1,x2,x3,x4,x5⟩:=fin w.heap.size (w.heap.size+1) (consD w.heap.size D) { a with defers:=[markOf w.heap.size]++a.defers } w1 hs1 (s.mark hD _)
    (fun t ht=>by cases t with
     | zero=>exact absurd (List.mem_singleton.2 rfl) ht
     | succ t=>rfl) (by rw[<-hw1];exact h2)
   exact⟨_,_,w1,d,w₁',f,args,w₂,hrun,x1,x2,x3,x4,x5⟩
  | some l₀ =>
   have h1:=fun db=>h (.loop (rec db .ready none)) (.loop (rec db .busy none)) (.loop (rec db .exhausted none)) (fun c=>.loop (rec db .done (some c))) (fun c=>.loop (rec db .exhausted (some c))) rfl rfl
   obtain⟨⟨o,ho,hol⟩,_⟩:=h1 0
   cases o<;>first|(cases hol;done)|skip
   rename_i r₀
   have h2:=((h1 r₀.defers).2 (fun args h' K hlen hl hB=>yld r₀.defers w.heap.size args h' K hlen hl hB)).out
   obtain⟨w1,hw1⟩:∃w1,w.alloc (.loop (rec r₀.defers .ready none))=w1:=⟨_,rfl⟩
   have hrun:(Instr.enterLoop fn a.tmps ps assign body (FW (some l₀)).round).run P w = .ok (w.heap.size,[]) w1:=by
    rw[<-hw1,hrec];exact run_enterLoop_inner ho _ _ _ _ _
   have hs1:Same w w1:=by rw[<-hw1];exact⟨rfl,rfl,rfl⟩
   obtain⟨d,w₁',f,args,w₂,x1,x2,x3,x4,x5⟩:=fin r₀.defers w.heap.size D { a with defers:=[]++a.defers } w1 hs1 (s.put0 hD) (fun t _=>rfl) (by rw[<-hw1];exact h2)
   exact⟨_,_,w1,d,w₁',f,args,w₂,hrun,x1,x2,x3,x4,x5⟩
 | refuse s=>exact fun r A ρ N E R a w s h=>h.elim
 | scope x ih =>
  intro r A ρ N E R a w s h
  refine wpIn_scope_straight (wpIn_mono (ih r A.fst ρ N E R a w s h) ?_)
  intro e a' w' hq
  cases e<;>exact hq
 | cond c x y ihx ihy =>
  intro r A ρ N E R a w s h
  have h1:=(opK_spec s.toAgree h).out
  generalize hv:a.eval c=v at h1
  unfold condB at h1
  split at h1
  ·rename_i b
   refine wpIn_cond hv ?_
   cases b with
   | true =>
    simp only[if_true]at h1 ⊢
    exact wpIn_mono (ihx r A.fst ρ N E R a w s h1) (QK.from (.refl _) (.refl _ _) fun t ht=>List.mem_append_left _ ht)
   | false =>
    simp only[Bool.false_eq_true,if_false]at h1 ⊢
    exact wpIn_mono (ihy r A.snd ρ N E R a w s h1) (QK.from (.refl _) (.refl _ _) fun t ht=>List.mem_append_right _ ht)
  ·exact h1.elim
 | seq x y ihx ihy =>
  intro r A ρ N E R a w s h
  unfold vc at h
  refine wpIn_seq ?_
  cases hms:A.ms with
  | none =>
   rw[hms]at h
   refine wpIn_mono (ihx r A.fst ρ _ E R a w s h) ?_
   intro e a' w' hq
   cases e with
   | normal =>
    obtain⟨hs,hf,ρ',s',hk⟩:=hq
    exact wpIn_mono (ihy r A.snd ρ' N E R a' w' s' hk) (QK.from hs (fun t ht=>hf t fun hh=>ht (List.mem_append_left _ hh)) fun t ht=>List.mem_append_right _ ht)
   | exit id=>exact After.weak (fun t ht=>List.mem_append_left _ ht) hq
   | ret=>exact After.weak (fun t ht=>List.mem_append_left _ ht) hq
   | goto l=>exact hq
   | panic c=>exact hq
   | outgrown=>exact hq
  | some ms =>
   rw[hms]at h
   replace h:=h.out
   refine wpIn_mono (ihx r A.fst ρ _ E R a w s h) ?_
   intro e a' w' hq
   cases e with
   | normal =>
    obtain⟨hs,hf,ρ',s',hk⟩:=hq
    obtain⟨h1,h2⟩:=valsK_spec s' ms _ hk
    rw[appC_curry _ _ _ _ sM]at h1
    have s'':=St.join s hf s'.size s'.marks ms h2
    exact wpIn_mono (ihy r A.snd _ N E R a' w' s'' h1) (QK.from hs (fun t ht=>hf t fun hh=>ht (List.mem_append_left _ hh)) fun t ht=>List.mem_append_right _ ht)
   | exit id=>exact After.weak (fun t ht=>List.mem_append_left _ ht) hq
   | ret=>exact After.weak (fun t ht=>List.mem_append_left _ ht) hq
   | goto l=>exact hq
   | panic c=>exact hq
   | outgrown=>exact hq
 | block id x ih =>
  intro r A ρ N E R a w s h
  unfold vc at h
  refine wpIn_block ?_
  cases hms:A.ms with
  | none =>
   rw[hms]at h
   refine wpIn_mono (ih r A.fst ρ N _ R a w s h) ?_
   intro e a' w' hq
   cases e with
   | exit id' =>
    unfold Exit.inBlock
    have hq':After n _ (fun ρ' h'=>bif Nat.beq id' id then N ρ' h' else E id' ρ' h') a w a' w':=hq
    by_cases hid:id'=id
    ·subst hid
     simp only[Nat.beq_refl,cond_true]at hq'
     simp only[if_true];exact hq'
    ·rw[show Nat.beq id' id=false from Bool.eq_false_iff.2 fun e=>hid (Nat.eq_of_beq_eq_true e)]at hq'
     simp only[hid,if_false];exact hq'
   | normal=>exact hq
   | ret=>exact hq
   | goto l=>exact hq
   | panic c=>exact hq
   | outgrown=>exact hq
  | some ms =>
   rw[hms]at h
   replace h:=h.out
   refine wpIn_mono (ih r A.fst ρ _ _ R a w s h) ?_
   have fin:∀a' w',After n (· ∈ assigned x) (fun ρ' h'=>valsK ρ' ms fun vs=>appC ms.length (curry ms.length fun vs h'=>N (joinEnv ρ (assigned x) ms vs) h') vs h') a w a' w'->After n (· ∈ assigned x) N a w a' w':=by
    intro a' w' ⟨hs,hf,ρ',s',hk⟩
    obtain⟨h1,h2⟩:=valsK_spec s' ms _ hk
    rw[appC_curry _ _ _ _ sM]at h1
    exact⟨hs,hf,_,St.join s hf s'.size s'.marks ms h2,h1⟩
   intro e a' w' hq
   cases e with
   | exit id' =>
    unfold Exit.inBlock
    have hq':After n _ (fun ρ' h'=>bif Nat.beq id' id then (valsK ρ' ms fun vs=>appC ms.length (curry ms.length fun vs h'=>N (joinEnv ρ (assigned x) ms vs) h') vs h') else E id' ρ' h') a w a' w':=hq
    by_cases hid:id'=id
    ·subst hid
     simp only[Nat.beq_refl,cond_true]at hq'
     simp only[if_true];exact fin a' w' hq'
    ·rw[show Nat.beq id' id=false from Bool.eq_false_iff.2 fun e=>hid (Nat.eq_of_beq_eq_true e)]at hq'
     simp only[hid,if_false];exact hq'
   | normal=>exact fin a' w' hq
   | ret=>exact hq
   | goto l=>exact hq
   | panic c=>exact hq
   | outgrown=>exact hq
 | loop x ih =>
  intro r A ρ N E R a w s h
  unfold vc at h
  cases hms:A.ms with
  | none=>rw[hms]at h;exact h.elim
  | some ms =>
   rw[hms]at h
   obtain⟨⟨⟨I,m0,h0,hround⟩⟩,h2⟩:=valsK_spec s ms _ h
   refine wpIn_loop (fun a' w'=>Same w w'/\Fr (· ∈ assigned x) a a'/\(∃m,I m (ms.map (lookD a')) w'.heap)/\St n (joinEnv ρ (assigned x) ms (ms.map (lookD a'))) a')
    (fun a' w'=>Classical.epsilon fun k=>I k (ms.map (lookD a')) w'.heap/\∀j,I j (ms.map (lookD a')) w'.heap->k<=j) ⟨.refl _,.refl _ _,⟨m0,h0⟩,St.join s (.refl _ _) s.size s.marks ms h2⟩ ?_
   intro a' w' ⟨hs,hf,⟨m1,hI1⟩,s'⟩
   have hmin:=Classical.epsilon_spec (least_ex (fun k=>I k (ms.map (lookD a')) w'.heap) m1 hI1)
   generalize (Classical.epsilon fun k=>I k (ms.map (lookD a')) w'.heap/\∀j,I j (ms.map (lookD a')) w'.heap->k<=j)=m at *
   have hr:=hround m _ w'.heap sM hmin.1
   rw[appC_curry _ _ _ _ sM]at hr
   refine wpIn_mono (ih r A.fst _ _ E R a' w' s' hr) ?_
   intro e a'' w'' hq
   cases e with
   | normal =>
    obtain⟨hs',hf',ρ',s'',hk⟩:=hq
    obtain⟨h1,h2'⟩:=valsK_spec s'' ms _ hk
    rw[appC_curry _ _ _ _ sM]at h1
    obtain⟨m',hlt,hI'⟩:=h1
    have hmin':=Classical.epsilon_spec (least_ex (fun k=>I k (ms.map (lookD a'')) w''.heap) m' hI')
    exact⟨⟨hs.trans hs',hf.trans hf',⟨m',hI'⟩,St.join s (hf.trans hf') s''.size s''.marks ms h2'⟩,Nat.lt_of_le_of_lt (hmin'.2 m' hI') hlt⟩
   | exit id=>exact After.from hs hf (fun _ ht=>ht) hq
   | ret=>exact After.from hs hf (fun _ ht=>ht) hq
   | goto l=>exact hq
   | panic c=>exact hq
   | outgrown=>exact hq

/-! ### A function's contract -/

def initEnv(args:List Value)(n:Nat):Env:=fun t=>match t with
 | 0=>some (.tuple #[])
 | t+1=>bif Nat.blt t n then some (getV args t) else none

def loadCell(t:TypeId)(v:Value):Sem Value:=do loadVar t (<-asAddr v)

def resK(P:Program):List ResultVar->Env->Heap->(List Value->Prop)->Prop
 | [],_,_,k=>k []
 | .tmp t::r,ρ,h,k=>match ρ (t+1) with
  | some v=>resK P r ρ h fun vs=>k (v::vs)
  | none=>False
 | .cell a t::r,ρ,h,k=>match ρ (a+1) with
  | some v=>Hp P true (loadCell t v) (fun x _=>resK P r ρ h fun vs=>k (x::vs)) h ⟨⟩
  | none=>False

def finV:List Value->Value
 | [v]=>v
 | vs=>.tuple vs.toArray

def rvS(a:Act):ResultVar->Sem Value
 | .tmp t=>pure (a.tmps.getD t undef)
 | .cell x t=>do loadVar t (<-asAddr (a.tmps.getD x undef))

theorem run_mapM_cons{P:Program}{f:ResultVar->Sem Value}{x:ResultVar}{r:List ResultVar}{w:World}{v:Value}{vs:List Value}(h1:(f x).run P w = .ok v w)(h2:(r.mapM f).run P w = .ok vs w) :
 ((x::r).mapM f).run P w = .ok (v::vs) w:=by
 rw[List.mapM_cons]
 show (Sem.bind _ _).run P w=_
 rw[Sem.run_bind',h1]
 show (Sem.bind _ _).run P w=_
 rw[Sem.run_bind',h2]
 rfl

theorem resK_run{P:Program}{ρ:Env}{a:Act}(ha:Agree ρ a){h:Heap}:∀(rs:List ResultVar) (k:List Value->Prop),resK P rs ρ h k ->
 ∃vs,k vs/\∀w:World,Ext h w.heap->(rs.mapM (rvS a)).run P w = .ok vs w
 | [],k,hk=>⟨[],hk,fun w _=>rfl⟩
 | .tmp t::r,k,hk=>by
  unfold resK at hk
  cases hv:ρ (t+1) with
  | none=>rw[hv]at hk;exact hk.elim
  | some v =>
   rw[hv]at hk
   obtain⟨vs,h1,h2⟩:=resK_run ha r _ hk
   refine⟨v::vs,h1,fun w he=>run_mapM_cons ?_ (h2 w he)⟩
   show Result.ok (a.tmps.getD t undef) w=_
   rw[getD_of_some (ha.tmps (t+1) v hv)]
 | .cell x t::r,k,hk=>by
  unfold resK at hk
  cases hv:ρ (x+1) with
  | none=>rw[hv]at hk;exact hk.elim
  | some v =>
   rw[hv]at hk
   obtain⟨u,hu,_,hr⟩:=hp_stable _ _ _ hk.out
   obtain⟨vs,h1,h2⟩:=resK_run ha r _ hu
   refine⟨u::vs,h1,fun w he=>run_mapM_cons ?_ (h2 w he)⟩
   have e:=hr w he
   unfold loadCell at e
   show (do loadVar t (<-asAddr (a.tmps.getD x undef)):Sem Value).run P w=_
   rw[getD_of_some (ha.tmps (x+1) v hv)];exact e

theorem results_run{P:Program}{ρ:Env}{a:Act}(ha:Agree ρ a){h:Heap}{fn:Func}{k:List Value->Prop}(hk:resK P fn.results.toList ρ h k) :
 ∃vs,k vs/\∀w:World,Ext h w.heap->(results fn a.tmps).run P w = .ok (finV vs) w:=by
 obtain⟨vs,h1,h2⟩:=resK_run ha _ _ hk
 refine⟨vs,h1,fun w he=>?_⟩
 unfold results
 rw[Array.mapM_eq_mapM_toList]
 have e:=h2 w he
 show (Sem.bind _ _).run P w=_
 rw[Sem.run_bind']
 show (((Functor.map List.toArray (fn.results.toList.mapM (rvS a)):Sem (Array Value)).run P w).andThen _)=_
 rw[map_eq_pure_bind]
 show (((Sem.bind _ _).run P w).andThen _)=_
 rw[Sem.run_bind',e]
 simp only[Result.andThen_ok]
 show Result.ok _ w=_
 match vs with
 | []=>rfl
 | [v]=>rfl
 | v::u::r =>
  congr 1

def closeD:List Nat->Heap->(Heap->Prop)->Prop
 | [],h,k=>k h
 | d::ds,h,k=>h[d]? = some (.deferred (some []))/\closeD ds (h.setIfInBounds d (.deferred none)) k

structure RetD (D:Value) (h:Heap) (K:Heap->Prop) (u:Un K):Prop where
 out:∃ds,D = .tuple (marksV ds).toArray/\closeD ds h K

def retK(m:Bool)(ρ:Env)(h:Heap)(k:Heap->Prop):Prop :=
 bif m then match ρ 0 with
  | some D=>RetD D h k ⟨⟩
  | none=>False
 else k h

theorem marksV_inj:∀{a b:List Nat},marksV a=marksV b->a=b
 | [],[],_=>rfl
 | [],_::_,h=>by cases h
 | _::_,[],h=>by cases h
 | x::a,y::b,h=>by
  simp only[marksV,List.cons.injEq,Value.int.injEq,true_and]at h
  obtain⟨h1,h2⟩:=h
  rw[marksV_inj h2,show x=y by omega]

theorem retK_spec{n:Nat}{m:Bool}{ρ:Env}{a:Act}{h:Heap}{k:Heap->Prop}(s:St n ρ a)(hm:m=false->look a 0=some (.tuple #[]))(hk:retK m ρ h k):closeD (a.defers.map blkOf) h k:=by
 unfold retK at hk
 cases m with
 | false =>
  have h1:some (Value.tuple (marksV (a.defers.map blkOf)).toArray)=some (.tuple #[]):=hm rfl
  cases hm:a.defers.map blkOf with
  | nil=>exact hk
  | cons x xs=>rw[hm]at h1;simp[marksV]at h1
 | true =>
  simp only[cond_true]at hk
  cases hD:ρ 0 with
  | none=>rw[hD]at hk;exact hk.elim
  | some D =>
   rw[hD]at hk
   obtain⟨ds,e,hc⟩:=hk.out
   have h1:some (Value.tuple (marksV (a.defers.map blkOf)).toArray)=some D:=s.tmps 0 D hD
   rw[e]at h1
   have e2:marksV (a.defers.map blkOf)=marksV ds:=by
    injection h1 with h1
    injection h1 with h1
    injection h1
   rw[marksV_inj e2];exact hc

def vcBody(P:Program)(n:Nat)(rs:List ResultVar)(c:Code)(A:Ann)(args:List Value)(R:VP)(h:Heap):Prop :=
 vc P n c none A (initEnv args n) (fun ρ h=>retK (elemB 0 (assigned c)) ρ h fun h=>resK P rs ρ h fun vs=>R (finV vs) h) (fun _ _ _=>False) (fun ρ h=>retK (elemB 0 (assigned c)) ρ h fun h=>resK P rs ρ h fun vs=>R (finV vs) h) h

theorem leaves_closeD{P:Program}{r:Option Nat}{fn:Func}{tmps:Array Value}{R:Ending->World->Prop}{w₀:World}{K:Heap->Prop}
 (hK:∀w,Same w₀ w->K w.heap->∃v,(results fn tmps).run P w = .ok v w/\R (.returned v) w):∀(ds:List Nat) (w:World),Same w₀ w->closeD ds w.heap K->LeavesInM (FW r) 0 P fn tmps R (ds.map markOf) .returning w
 | [],w,hs,h=>hK w hs h
 | d::ds,w,hs,h=>by
  refine⟨by simp,.inl ⟨d,w.putObj d (.deferred none),rfl,run_takeDeferred h.1,?_⟩⟩
  exact leaves_closeD hK ds _ (hs.trans (Same.putObj _ _ _)) h.2

theorem callsH_of_vc{P:Program}(hm:P.follows .mixedOrders=true){f:FuncId}{fn:Func}{c:Code}{args:List Value}{h:Heap}{R:VP}{n:Nat}{rs:List ResultVar}(A:Ann)
 (hf:P.funcs[f]? = some fn) (hb:fn.body=some c) (hn:fn.ntmps=n) (hr:fn.results=rs.toArray) (hl:args.length<=n) (hv:vcBody P n rs c A args R h):CallsH P f args.toArray h R ⟨⟩:=by
 refine⟨fun w hw=>?_⟩
 subst hw
 have s:St n (initEnv args n) { tmps:=args.toArray++Array.replicate (fn.ntmps-args.toArray.size) undef,defers:=[] }:=by
  refine⟨⟨fun t v ht=>?_⟩,by simp;omega,rfl⟩
  cases t with
  | zero =>
   have:some (Value.tuple #[])=some v:=ht
   rw[<-this];rfl
  | succ t =>
  have ht:(bif Nat.blt t n then some (getV args t) else none)=some v:=ht
  show (args.toArray++Array.replicate (fn.ntmps-args.toArray.size) undef)[t]? = some v
  cases hb:Nat.blt t n with
  | false=>rw[hb]at ht;cases ht
  | true =>
   rw[hb]at ht
   simp only[cond_true,Option.some.injEq]at ht
   have hlt:t<n:=by simpa[Nat.blt_eq]using hb
   have key:∀(l:List Value) (t:Nat),getV l t=l.getD t undef:=by
    intro l
    induction l with
    | nil=>intro t;rfl
    | cons x xs ih=>intro t;cases t with
     | zero=>rfl
     | succ t=>simpa[getV]using ih t
   rw[key]at ht
   by_cases hta:t<args.length
   ·rw[Array.getElem?_append_left (by simpa using hta)]
    simp[hta]at ht ⊢;exact ht
   ·rw[Array.getElem?_append_right (by simpa using hta)]
    have hr:t-args.toArray.size<fn.ntmps-args.toArray.size:=by simp;omega
    rw[Array.getElem?_replicate,if_pos hr]
    simp[hta]at ht
    rw[ht]
 refine calls_FW (n:=0) (callsIn_of_wp_marks hf hb trivial (wpIn_mono (vc_wp hm c none A _ _ _ _ _ w s hv) ?_))
 have fin:∀a' w',After n (· ∈ assigned c) (fun ρ h=>retK (elemB 0 (assigned c)) ρ h fun h=>resK P rs ρ h fun vs=>R (finV vs) h) { tmps:=args.toArray++Array.replicate (fn.ntmps-args.toArray.size) undef,defers:=[] } w a' w' ->
  LeavesInM (FW none) 0 P fn a'.tmps (fun e w'=>∃v,e = .returned v/\Same w w'/\R v w'.heap) a'.defers .returning w':=by
  intro a' w' ⟨hs,hf,ρ',s',hk⟩
  have hc:=retK_spec s' (fun e=>by rw[hf 0 (fun hm=>by rw[(elemB_iff 0 _).2 hm]at e;cases e)];rfl) hk
  rw[s'.marks]
  refine leaves_closeD (w₀:=w) (fun w2 hs2 hk2=>?_) _ w' hs hc
  obtain⟨vs,h1,h2⟩:=results_run (fn:=fn) s'.toAgree (by rw[hr];simpa using hk2)
  exact⟨finV vs,h2 w2 (.refl _),finV vs,rfl,hs2,h1⟩
 intro e a' w' hq
 cases e with
 | normal=>exact fin a' w' hq
 | ret=>exact fin a' w' hq
 | exit id =>
  obtain⟨_,_,ρ',_,hk⟩:=hq
  exact hk.elim
 | goto l=>exact hq.elim
 | panic c=>exact hq.elim
 | outgrown=>exact hq.elim

def bodyOf(fn:Func):Code:=match fn.body with|some c=>c|none=>.skip

theorem callsH_of_eq{P:Program}(hm:P.follows .mixedOrders=true)(A:Ann){f:FuncId}{fn:Func}{args:List Value}{h:Heap}{R:VP}{Q:Prop}
 (hf:P.funcs[f]? = some fn) (hb:fn.body=some (bodyOf fn)) (hl:Nat.ble args.length fn.ntmps=true) (he:vcBody P fn.ntmps fn.results.toList (bodyOf fn) A args R h=Q) (H:Q):CallsH P f args.toArray h R ⟨⟩ :=
 callsH_of_vc hm A hf hb rfl (Array.toArray_toList).symm (Nat.le_of_ble_eq_true hl) (by rw[he];exact H)

end Go.Vc

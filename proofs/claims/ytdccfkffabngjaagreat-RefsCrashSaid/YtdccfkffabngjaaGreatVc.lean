/- Verification conditions of a function's code over the heap alone: what the tape leaves open is 'for all'; one theorem ('vc_sound') leads back to the walk's own words ('Calls'). It speaks of every program that follows the mixed orders. -/
import Derived.Scope
import Derived.Laws.Sem
import Derived.OrdersHeld
import Derived.OrdersIn
import Derived.RangeFuncNested
import Derived.RangeFuncLeaves
import Derived.RangeFuncRecord
import Derived.TacticsIn
import Derived.Below
import Derived.KernelRfl
namespace Go.Vc
open Go
universe u

abbrev Heap:=Array Obj
abbrev VP:Type:=Value->(Heap->Prop)
theorem extS{p:Prop}(h:p:=by repeat' (first|(with_reducible exact Ext.refl _)|(with_reducible assumption)|(with_reducible refine push_ext ?_)|(with_reducible refine hset_ext ?_ ?_)|(with_reducible refine Ext.trans ?_ (by assumption))|omega|(simp;done)|(simp;omega)|(refine Ext.size ?_)|(refine Nat.le_succ_of_le (Ext.size ?_)))):p:=h
theorem modS{p:Prop}(h:p:=by repeat' (first|(with_reducible exact Mod.refl _ _)|(with_reducible assumption)|(with_reducible refine Mod.pushIn ?_)|(with_reducible refine Mod.setIn ?_ ?_)|(with_reducible refine Mod.putIn ?_ ?_)|(with_reducible refine Mod.extIn ?_ (by assumption))|(exact Or.inr (by first|omega|(simp;done)|(simp;omega)))|(exact Or.inl (by first|(simp;done)|(simp;omega))))):p:=h
theorem gtP{p:Prop}(h:p:=by repeat' (first|(with_reducible assumption)|(exact get_pushed (by first|rfl|omega|(simp;done)|(simp;omega)))|(refine (get_hset' ?_).trans ?_)|(refine (get_push ?_).trans ?_)|(refine (get_ext (by assumption) ?_).trans ?_)|omega|(simp;done)|(simp;omega))):p:=h
theorem omg{p:Prop}(h:p:=by omega):p:=h
theorem kR{p:Prop}(h:p:=by kernel_rfl):p:=h
theorem sM{p:Prop}(h:p:=by simp):p:=h
theorem dM{p:Prop}(h:p:=by decide):p:=h

def hcell(h:Heap)(a:Addr):Option Value :=
 match h[a.block]? with
 | some (.cells c _ _)=>if a.spot.isSome then none else c[a.off]?
 | _=>none

def hshape(h:Heap)(r:Nat):Option (TypeId×Nat) :=
 match h[r]? with
 | some (.cells c elem _)=>some (elem,c.size)
 | _=>none

def hfrozen(h:Heap)(a:Addr):Bool :=
 match h[a.block]? with
 | some (.cells _ _ (lo,hi))=>lo<=a.off&&a.off<hi
 | _=>false

def hset(h:Heap)(a:Addr)(v:Value):Heap :=
 h.modify a.block fun
  | .cells c elem frozen=>.cells (if a.spot.isSome then c else c.setIfInBounds a.off v) elem frozen
  | o=>o

def hfreeze(h:Heap)(a:Addr)(n:Nat):Heap :=
 if n=0 then h else
 h.modify a.block fun
  | .cells c elem (lo,hi)=>.cells c elem (if lo==hi then (a.off,a.off+n) else (min lo a.off,max hi (a.off+n)))
  | o=>o

structure Ext (h h':Heap):Prop where
 size:h.size<=h'.size
 block:∀b,b<h.size->h'[b]? = h[b]?

theorem Ext.refl(h:Heap):Ext h h:=⟨Nat.le_refl _,fun _ _=>rfl⟩
theorem Ext.trans{a b c:Heap}(h:Ext a b)(k:Ext b c):Ext a c :=
 ⟨Nat.le_trans h.size k.size,fun i hi=>(k.block i (Nat.lt_of_lt_of_le hi h.size)).trans (h.block i hi)⟩

structure Same (w w':World):Prop where
 os:w'.os=w.os
 tape:w'.tape=w.tape
 output:w'.output=w.output

theorem Same.refl(w:World):Same w w:=⟨rfl,rfl,rfl⟩
theorem Same.trans{a b c:World}(h:Same a b)(k:Same b c):Same a c:=⟨k.os.trans h.os,k.tape.trans h.tape,k.output.trans h.output⟩

def one:Value->Bool
 | .agg _ | .tuple _=>false
 | _=>true

def hp{α:Type}(P:Program)(q:Bool):Sem α->(α->Heap->Prop)->Heap->Prop
 | .pure a,K,h=>K a h
 | .load _ a k,K,h=>match hcell h a with|some v=>hp P q (k v) K h|none=>False
 | .store _ a v k,K,h=>q=false/\one v=true/\(hcell h a).isSome=true/\hfrozen h a=false/\hp P q k K (hset h a v)
 | .new o k,K,h=>q=false/\hp P q (k h.size) K (h.push o)
 | .shape r k,K,h=>q=false/\hp P q (k (hshape h r)) K h
 | .freeze a n k,K,h=>q=false/\hp P q k K (hfreeze h a n)
 | .frozen a k,K,h=>q=false/\hp P q (k (hfrozen h a)) K h
 | .getObj r k,K,h=>match h[r]? with|some (.cells ..)=>False|some o=>hp P q (k o) K h|none=>False
 | .setObj r o k,K,h=>q=false/\(match h[r]? with|some (.cells ..)=>False|some _=>hp P q k K (h.setIfInBounds r o)|none=>False)
 | .choose c k,K,h=>if c.forced then hp P q (k 0) K h else (q=false/\∀t,hp P q (k (c.cut t)) K h)
 | .sys _ _,_,_=>False
 | .program k,K,h=>hp P q (k P) K h
 | .mark _ k,K,h=>hp P q k K h
 | .halt _,_,_=>False

theorem hp_run{α:Type}{P:Program}(m:Sem α)(K:α->Heap->Prop):∀w:World,hp P false m K w.heap->∃v w',m.run P w = .ok v w'/\Same w w'/\K v w'.heap:=by
 induction m with
 | pure a=>exact fun w h=>⟨a,w,rfl,.refl _,h⟩
 | load md a k ih =>
  intro w h
  simp only[hp]at h
  have e:w.cell? a=hcell w.heap a:=rfl
  cases hc:hcell w.heap a with
  | none=>rw[hc]at h;exact h.elim
  | some v =>
   rw[hc]at h
   obtain⟨u,w',hr,hs,hk⟩:=ih v w h
   exact⟨u,w',by simp only[Sem.run,e,hc];exact hr,hs,hk⟩
 | store md a v k ih =>
  intro w h
  simp only[hp]at h
  obtain⟨_,h1,h2,h3,h4⟩:=h
  obtain⟨u,w',hr,hs,hk⟩:=ih (w.setCell a v) h4
  refine⟨u,w',?_,⟨hs.os,hs.tape,hs.output⟩,hk⟩
  have e:w.cell? a=hcell w.heap a:=rfl
  have e2:w.frozen? a=hfrozen w.heap a:=rfl
  obtain⟨x,hx⟩:=Option.isSome_iff_exists.1 h2
  cases v<;>first|(simp[one]at h1;done)|(simp only[Sem.run,e,hx,e2,h3];exact hr)
 | new o k ih =>
  intro w h
  simp only[hp]at h
  obtain⟨u,w',hr,hs,hk⟩:=ih w.heap.size { w with heap:=w.heap.push o } h.2
  exact⟨u,w',hr,⟨hs.os,hs.tape,hs.output⟩,hk⟩
 | shape r k ih =>
  intro w h
  simp only[hp]at h
  obtain⟨u,w',hr,hs,hk⟩:=ih _ w h.2
  exact⟨u,w',hr,hs,hk⟩
 | freeze a n k ih =>
  intro w h
  simp only[hp]at h
  have e:(w.freeze a n).heap=hfreeze w.heap a n:=by unfold World.freeze hfreeze;split<;>rfl
  have e':Same w (w.freeze a n):=by unfold World.freeze;split<;>exact⟨rfl,rfl,rfl⟩
  obtain⟨u,w',hr,hs,hk⟩:=ih (w.freeze a n) (by rw[e];exact h.2)
  exact⟨u,w',hr,e'.trans hs,hk⟩
 | frozen a k ih =>
  intro w h
  simp only[hp]at h
  obtain⟨u,w',hr,hs,hk⟩:=ih _ w h.2
  exact⟨u,w',hr,hs,hk⟩
 | getObj r k ih =>
  intro w h
  simp only[hp]at h
  cases ho:w.heap[r]? with
  | none=>rw[ho]at h;exact h.elim
  | some o =>
   rw[ho]at h
   cases o<;>first|exact h.elim|(
    obtain⟨u,w',hr,hs,hk⟩:=ih _ w h
    exact⟨u,w',by simp only[Sem.run,ho];exact hr,hs,hk⟩)
 | setObj r o k ih =>
  intro w h
  simp only[hp]at h
  obtain⟨_,h⟩:=h
  cases ho:w.heap[r]? with
  | none=>rw[ho]at h;exact h.elim
  | some x =>
   rw[ho]at h
   cases x<;>first|exact h.elim|(
    obtain⟨u,w',hr,hs,hk⟩:=ih { w with heap:=w.heap.setIfInBounds r o } h
    exact⟨u,w',by simp only[Sem.run,ho];exact hr,⟨hs.os,hs.tape,hs.output⟩,hk⟩)
 | choose c k ih =>
  intro w h
  simp only[hp]at h
  by_cases hf:c.forced=true
  ·rw[if_pos hf]at h
   obtain⟨u,w',hr,hs,hk⟩:=ih 0 w h
   exact⟨u,w',by simp only[Sem.run,hf,if_true];exact hr,hs,hk⟩
  ·rw[if_neg hf]at h
   obtain⟨u,w',hr,hs,hk⟩:=ih _ { w with drawn:=w.drawn+1 } (h.2 (w.tape w.drawn c))
   exact⟨u,w',by simp only[Sem.run,hf];exact hr,⟨hs.os,hs.tape,hs.output⟩,hk⟩
 | sys c k ih=>exact fun w h=>h.elim
 | program k ih=>exact fun w h=>ih P w h
 | mark m k ih=>exact fun w h=>ih w h
 | halt x=>exact fun w h=>h.elim

theorem hcell_ext{h h':Heap}(e:Ext h h'){a:Addr}{v:Value}(hc:hcell h a=some v):hcell h' a=some v:=by
 unfold hcell at *
 have hlt:a.block<h.size:=by
  rcases Nat.lt_or_ge a.block h.size with x|x
  ·exact x
  ·rw[Array.getElem?_eq_none x]at hc;cases hc
 rw[e.block _ hlt];exact hc

theorem hp_stable{α:Type}{P:Program}(m:Sem α)(K:α->Heap->Prop)(h:Heap):hp P true m K h->∃v,K v h/\hp P true m (fun u _=>u=v) h/\∀w:World,Ext h w.heap->m.run P w = .ok v w:=by
 induction m with
 | pure a=>exact fun k=>⟨a,k,rfl,fun _ _=>rfl⟩
 | load md a k ih =>
  intro hh
  simp only[hp]at hh
  cases hc:hcell h a with
  | none=>rw[hc]at hh;exact hh.elim
  | some v =>
   rw[hc]at hh
   obtain⟨u,hk,hu,hr⟩:=ih v hh
   refine⟨u,hk,by simp only[hp,hc];exact hu,fun w he=>?_⟩
   have e:w.cell? a=some v:=hcell_ext he hc
   simp only[Sem.run,e];exact hr w he
 | store md a v k ih=>intro hh;simp[hp]at hh
 | new o k ih=>intro hh;simp[hp]at hh
 | shape r k ih=>intro hh;simp[hp]at hh
 | freeze a n k ih=>intro hh;simp[hp]at hh
 | frozen a k ih=>intro hh;simp[hp]at hh
 | getObj r k ih =>
  intro hh
  simp only[hp]at hh
  cases ho:h[r]? with
  | none=>rw[ho]at hh;exact hh.elim
  | some o =>
   have hlt:r<h.size:=(Array.getElem?_eq_some_iff.1 ho).1
   rw[ho]at hh
   cases o<;>first|exact hh.elim|(
    obtain⟨u,hk,hu,hr⟩:=ih _ hh
    refine⟨u,hk,by simp only[hp,ho];exact hu,fun w he=>?_⟩
    have e:=he.block _ hlt
    rw[ho]at e
    simp only[Sem.run,e];exact hr w he)
 | setObj r o k ih=>intro hh;simp[hp]at hh
 | choose c k ih =>
  intro hh
  simp only[hp]at hh
  by_cases hf:c.forced=true
  ·rw[if_pos hf]at hh
   obtain⟨u,hk,hu,hr⟩:=ih 0 hh
   exact⟨u,hk,by simp only[hp,hf,if_true];exact hu,fun w he=>by simp only[Sem.run,hf,if_true];exact hr w he⟩
  ·rw[if_neg hf]at hh;simp at hh
 | sys c k ih=>exact fun hh=>hh.elim
 | program k ih=>exact fun hh=>let ⟨u,hk,hu,hr⟩:=ih P hh;⟨u,hk,hu,fun w he=>hr w he⟩
 | mark m k ih=>exact fun hh=>let ⟨u,hk,hu,hr⟩:=ih hh;⟨u,hk,hu,fun w he=>hr w he⟩
 | halt x=>exact fun hh=>hh.elim

theorem hp_bind{α β:Type}{P:Program}{q:Bool}(m:Sem α)(f:α->Sem β){K:β->Heap->Prop}:∀h,hp P q (m.bind f) K h↔hp P q m (fun v h'=>hp P q (f v) K h') h:=by
 induction m with
 | pure a=>exact fun h=>Iff.rfl
 | load md a k ih=>intro h;simp only[Sem.bind,hp];cases hcell h a<;>first|exact Iff.rfl|exact ih _ h
 | store md a v k ih=>intro h;simp only[Sem.bind,hp,ih]
 | new o k ih=>intro h;simp only[Sem.bind,hp,ih]
 | shape r k ih=>intro h;simp only[Sem.bind,hp,ih]
 | freeze a n k ih=>intro h;simp only[Sem.bind,hp,ih]
 | frozen a k ih=>intro h;simp only[Sem.bind,hp,ih]
 | getObj r k ih =>
  intro h;simp only[Sem.bind,hp]
  cases h[r]? with
  | none=>exact Iff.rfl
  | some o=>cases o<;>first|exact Iff.rfl|exact ih _ h
 | setObj r o k ih =>
  intro h;simp only[Sem.bind,hp]
  cases h[r]? with
  | none=>exact Iff.rfl
  | some x=>cases x<;>first|exact Iff.rfl|simp only[ih]
 | choose c k ih=>intro h;simp only[Sem.bind,hp,ih]
 | sys c k ih=>exact fun h=>Iff.rfl
 | program k ih=>exact fun h=>ih P h
 | mark m k ih=>exact fun h=>ih h
 | halt x=>exact fun h=>Iff.rfl

theorem hp_bind'{α β:Type}{P:Program}{q:Bool}(m:Sem α)(f:α->Sem β){K:β->Heap->Prop}{h:Heap}:hp P q (m >>= f) K h↔hp P q m (fun v h'=>hp P q (f v) K h') h:=hp_bind m f h

theorem hp_pure{α:Type}{P:Program}{q:Bool}(a:α){K:α->Heap->Prop}{h:Heap}:hp P q (pure a) K h↔K a h:=Iff.rfl

@[reducible] def Un{α:Sort u}(_a:α):Type:=Unit

structure Hp (P:Program) (q:Bool) (m:Sem Value) (K:VP) (h:Heap) (u:Un K):Prop where
 out:hp P q m K h

theorem Hp_iff{P:Program}{q:Bool}{m:Sem Value}{K:VP}{h:Heap}:Hp P q m K h ⟨⟩↔hp P q m K h:=⟨Hp.out,Hp.mk⟩

structure CallsH (P:Program) (f:FuncId) (args:Array Value) (h:Heap) (R:VP) (u:Un R):Prop where
 out:∀w:World,w.heap=h->Calls P f args w (fun e w'=>∃v,e = .returned v/\Same w w'/\R v w'.heap)

def callOk(P:Program)(f:FuncId):Bool :=
 match P.funcs[f]? with
 | some fn => fn.body.isSome && !(fn.name == "runtime.NumGoroutine")
 | none=>false

theorem run_callFunc{P:Program}{f:FuncId}{args:Array Value}(h:callOk P f=true)(w:World):(callFunc f args).run P w = .ok (.enter f args) w:=by
 unfold callOk at h
 cases hf:P.funcs[f]? with
 | none=>rw[hf]at h;cases h
 | some fn =>
  rw[hf]at h
  simp only[Bool.and_eq_true,Bool.not_eq_true']at h
  show ((Sem.program .pure).bind _).run P w=_
  simp only[Sem.bind,Sem.run,hf,h.2,Bool.false_eq_true,if_false]
  have:fn.body.isNone=false:=by cases hb:fn.body<;>simp[hb]at h ⊢
  simp only[this,Bool.false_eq_true,if_false]
  rfl

def FW(r:Option Nat):Fence:={ Fence.wide with round:=r }
theorem FW_depth(r:Option Nat):(FW r).depth.isSome=true->1<=0:=fun h=>by simp[FW,Fence.wide]at h
theorem callsIn_FW{r:Option Nat}{n:Nat}{P:Program}{f:FuncId}{args:Array Value}{w:World}{R:Ending->World->Prop}(h:Calls P f args w R):CallsIn (FW r) n P f args w R:=callsIn_wide (n:=n).2 h
theorem calls_FW{n:Nat}{P:Program}{f:FuncId}{args:Array Value}{w:World}{R:Ending->World->Prop}(h:CallsIn (FW none) n P f args w R):Calls P f args w R:=callsIn_wide (n:=n).1 h

/-! ### Calls of function values -/

def roundP(P:Program)(l:Nat)(args:Array Value)(h:Heap)(K:VP):Prop :=
 ∀w:World,w.heap=h->∃fn tmps assign body,(Instr.yield l args).run P w = .ok (.round l fn tmps assign body) w /\
  RoundIn (FW none) 0 P l fn tmps assign body w (fun e w'=>∃v,e = .returned v/\Same w w'/\K v w'.heap)

def extP(P:Program)(f:FuncId)(args:Array Value)(h:Heap)(K:VP):Prop :=
 ∃ fn e, P.funcs[f]? = some fn ∧ fn.body.isNone = true ∧ (fn.name == "runtime.NumGoroutine") = false ∧ (Extern.findNext fn).isNone = true ∧ Extern.find fn = some e ∧ hp P false (e args) K h

structure ExtH (P:Program) (f:FuncId) (args:Array Value) (h:Heap) (K:VP) (u:Un K):Prop where
 out:extP P f args h K

def invokeP(P:Program)(f:Value)(args:Array Value)(h:Heap)(K:VP):Prop :=
 match f with
 | .func (.func g) first captured=>bif callOk P g then CallsH P g (first++args++captured) h K ⟨⟩ else False
 | .func (.via t path g pointer) first _=>match (first++args)[0]? with
  | some x=>bif callOk P g then hp P false (receiverVia t x path pointer) (fun y h'=>CallsH P g (#[y]++(first++args).extract 1 (first++args).size) h' K ⟨⟩) h else False
  | none=>False
 | .func (.yield l) first _=>roundP P l (first++args) h K
 | _=>False

structure InvokeH (P:Program) (f:Value) (args:Array Value) (h:Heap) (K:VP) (u:Un K):Prop where
 out:invokeP P f args h K

def methodP(P:Program)(recv:Value)(name:String)(args:Array Value)(h:Heap)(K:VP):Prop :=
 match recv with
 | .iface t v=>hp P false (Go.method (P.types.size+Made.depth) t v name) (fun x h'=>bif callOk P x.1 then CallsH P x.1 (#[x.2]++args) h' K ⟨⟩ else False) h
 | _=>False

structure MethodH (P:Program) (recv:Value) (name:String) (args:Array Value) (h:Heap) (K:VP) (u:Un K):Prop where
 out:methodP P recv name args h K

/-! ### Frames as environments: at 0 the marks of the ranges over functions;at t+1 temporary t -/

def markOf(d:Nat):Deferred:={ target:=.collected d,args := #[] }
def marksV:List Nat->List Value
 | []=>[]
 | d::ds=>.int .i64 d::marksV ds
def blkOf(d:Deferred):Nat:=match d.target with | .collected r=>r|_=>0

def look(a:Act):Nat->Option Value
 | 0=>some (.tuple (marksV (a.defers.map blkOf)).toArray)
 | t+1=>a.tmps[t]?

abbrev Env:=Nat->Option Value
def Env.put(ρ:Env)(d:Nat)(v:Value):Env:=fun t=>bif Nat.beq t d then some v else ρ t

structure Agree (ρ:Env) (a:Act):Prop where
 tmps:∀t v,ρ t=some v->look a t=some v

def opv(ρ:Env):Operand->Option Value
 | .tmp t=>ρ (t+1)
 | .const v=>some v
 | .global g=>some (.pointer (some ⟨g,0,none⟩))
 | .func f=>some (.func (.func f) #[] #[])

def ev(ρ:Env)(x:Operand):Value:=match opv ρ x with|some v=>v|none=>undef

def known(ρ:Env):List Operand->Bool
 | []=>true
 | x::xs=>match opv ρ x with|some _=>known ρ xs|none=>false

theorem ev_agree{ρ:Env}{a:Act}(h:Agree ρ a):∀{xs:List Operand},known ρ xs=true->∀x∈xs,a.eval x=ev ρ x
 | [],_,x,hx=>by cases hx
 | y::ys,hk,x,hx=>by
  unfold known at hk
  cases hy:opv ρ y with
  | none=>rw[hy]at hk;cases hk
  | some v =>
   rw[hy]at hk
   rcases List.mem_cons.1 hx with rfl|hx
   ·unfold ev
    rw[hy]
    cases x with
    | tmp t =>
     have:a.tmps[t]? = some v:=h.tmps (t+1) v hy
     simp only[Act.eval,Array.getD_eq_getD_getElem?,this,Option.getD_some]
    | const c=>simp only[opv,Option.some.injEq]at hy;exact hy
    | global g=>simp only[opv,Option.some.injEq]at hy;exact hy
    | func f=>simp only[opv,Option.some.injEq]at hy;exact hy
   ·exact ev_agree h hk x hx

/-! ### Operations -/

def pickS(c a b:Value):Sem Value:=do pure (if <-asBool c then a else b)
def storeS(t:TypeId)(a x:Value):Sem Value:=do Instr.storeAt t a x;pure undef
def binS(op:BinOp)(t:TypeId)(x y:Operand)(a b:Value):Sem Value:=do eqGuard op t x y a b;binOp op t a b
def nilS(v:Value):Sem Value:=match v with
 | .pointer none | .nilIface | .nilFunc => stuck "nilS"
 | .func (.method _) _ _ => stuck "nilS"
 | x=>pure x
def unitS(m:Sem Unit):Sem Value:=do m;pure undef
def mapL(f:Operand->Value):List Operand->List Value
 | []=>[]
 | x::xs=>f x::mapL f xs
def mapP(f:Operand->Value):List (Nat×Operand)->List (Nat×Value)
 | []=>[]
 | (i,x)::xs=>(i,f x)::mapP f xs

theorem mapL_eq(f:Operand->Value):∀xs,mapL f xs=xs.map f
 | []=>rfl
 | x::xs=>by simp[mapL,mapL_eq f xs]
theorem mapP_eq(f:Operand->Value):∀xs,mapP f xs=xs.map fun (i,x)=>(i,f x)
 | []=>rfl
 | (i,x)::xs=>by simp[mapP,mapP_eq f xs]

def builtinS(b:Builtin)(ats:Array TypeId)(t:TypeId)(args:Array Value):Option (Sem Value) :=
 match b with
 | .append=>some (Builtin.append_ ats t args)
 | .cap=>some (Builtin.cap_ ats t args)
 | .clear=>some (Builtin.clear_ ats t args)
 | .copy=>some (Builtin.copy_ ats t args)
 | .delete=>some (Builtin.delete_ ats t args)
 | .len=>some (Builtin.len_ ats t args)
 | .max=>some (Builtin.max_ ats t args)
 | .min=>some (Builtin.min_ ats t args)
 | _=>none

def opS(ρ:Operand->Value)(ty:TypeId):Op->Option (Sem Value)
 | .move x | .assign x=>some (pure (ρ x))
 | .pick c a b=>some (pickS (ρ c) (ρ a) (ρ b))
 | .alloc e=>some (Instr.alloc e true (.tuple #[]))
 | .box e x=>some (Instr.box e (ρ x))
 | .build t ps=>some (Instr.build t (mapP ρ ps.toList).toArray)
 | .buildSlice t n ps=>some (Instr.buildSlice t n (mapP ρ ps.toList).toArray)
 | .load t a=>some (Instr.loadAt t (ρ a))
 | .store t a x=>some (storeS t (ρ a) (ρ x))
 | .binOp op t x y _=>some (binS op t x y (ρ x) (ρ y))
 | .unOp op _ x=>some (Op.unary op (ρ x))
 | .convert s d x=>some (convert s d (ρ x))
 | .makeInterface t x=>some (Instr.makeInterface t (ρ x))
 | .makeFunc fn a b=>some (pure (.func fn (mapL ρ a.toList).toArray (mapL ρ b.toList).toArray))
 | .makeMap t none=>some (Instr.makeMap t none)
 | .makeMap t (some x)=>some (Instr.makeMap t (some (ρ x)))
 | .makeSlice t l c=>some (Instr.makeSlice t (ρ l) (ρ c))
 | .slice t x lo hi mx=>some (Instr.sliceAt t (ρ x) (lo.map ρ) (hi.map ρ) (mx.map ρ))
 | .fieldAddr s x f=>some (Instr.fieldAt s (ρ x) f)
 | .field t x f=>some (Instr.field t (ρ x) f)
 | .indexAddr t x i=>some (Instr.indexAt t (ρ x) (ρ i))
 | .index t x i=>some (Instr.index t (ρ x) (ρ i))
 | .lookup t x i ok=>some (Instr.lookup t (ρ x) (ρ i) ok)
 | .mapUpdate t m k x | .insert t m k x=>some (unitS (Instr.mapUpdate t (ρ m) (ρ k) (ρ x)))
 | .mapEntry t m k=>some (Instr.mapEntry t (ρ m) (ρ k))
 | .entryStore t m s x=>some (unitS (Instr.entryStore t (ρ m) (ρ s) (ρ x)))
 | .range t x=>some (Instr.range t (ρ x))
 | .next it s=>some (Instr.next (ρ it) s ty)
 | .entry it=>some (Instr.entry (ρ it))
 | .typeAssert x t a ok=>some (Instr.typeAssert (ρ x) t a ok)
 | .extract x i=>some (Instr.extract (ρ x) i)
 | .call { callee:=.builtin b,args,argTypes }=>builtinS b argTypes ty (mapL ρ args.toList).toArray
 | _=>none

end Go.Vc

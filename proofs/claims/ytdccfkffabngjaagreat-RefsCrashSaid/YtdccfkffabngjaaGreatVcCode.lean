/- The verification condition of a function's code,by recursion over the code; and that it is sound. -/
import Derived.Test.YtdccfkffabngjaaGreatVc
namespace Go.Vc
open Go

def opsL:Op->List Operand
 | .alloc _ | .ready _ | .waits _=>[]
 | .move x | .assign x | .box _ x | .load _ x | .nilCheck x | .unOp _ _ x | .convert _ _ x | .sliceToArrayPointer _ x | .makeInterface _ x
 | .makeChan _ x | .fieldAddr _ x _ | .field _ x _ | .range _ x | .next x _ | .entry x | .typeAssert x _ _ _ | .extract x _ | .panic x | .recv _ x _=>[x]
 | .pick c a b=>[c,a,b]
 | .build _ ps | .buildSlice _ _ ps=>opsOfParts ps.toList
 | .store _ a v | .binOp _ _ a v _ | .makeSlice _ a v | .indexAddr _ a v | .index _ a v | .lookup _ a v _ | .mapEntry _ a v | .send a v=>[a,v]
 | .makeFunc _ first captured=>first.toList++captured.toList
 | .makeMap _ none=>[]
 | .makeMap _ (some r)=>[r]
 | .slice _ x l h m=>x::(optL l++(optL h++optL m))
 | .mapUpdate _ m k v | .entryStore _ m k v | .insert _ m k v=>[m,k,v]
 | .call c=>match c.callee with
  | .value f=>f::c.args.toList
  | .invoke r _=>r::c.args.toList
  | .builtin _=>c.args.toList
 | .go _ | .defer _ | .select _ _=>[]
where
 opsOfParts:List (Nat×Operand)->List Operand
  | []=>[]
  | (_,x)::r=>x::opsOfParts r
 optL:Option Operand->List Operand
  | none=>[]
  | some x=>[x]

theorem opsOfParts_eq:∀l,opsL.opsOfParts l=l.map (·.2)
 | []=>rfl
 | (_,x)::r=>by simp[opsL.opsOfParts,opsOfParts_eq r]

def okOp:Op->Bool
 | .go _ | .defer _ | .select _ _=>false
 | _=>true

theorem mem_opsL{op:Op}(hk:okOp op=true){x:Operand}(h:x∈op.operands):x∈opsL op:=by
 cases op with
 | call c =>
  obtain⟨callee,args,ats⟩:=c
  cases callee with
  | value f=>simpa[Op.operands,Call.operands,opsL]using h
  | invoke r n=>simpa[Op.operands,Call.operands,opsL]using h
  | builtin b=>simpa[Op.operands,Call.operands,opsL]using h
 | build t ps=>simpa[Op.operands,opsL,opsOfParts_eq]using h
 | buildSlice t n ps=>simpa[Op.operands,opsL,opsOfParts_eq]using h
 | makeMap t r=>cases r<;>simp[Op.operands,opsL]at h ⊢;exact h
 | slice t x l hh m=>cases l<;>cases hh<;>cases m<;>simp[Op.operands,opsL,opsL.optL]at h ⊢ <;> exact h
 | go c=>simp[okOp]at hk
 | defer c=>simp[okOp]at hk
 | select cs b=>simp[okOp]at hk
 | alloc e=>simp[Op.operands]at h
 | ready e=>simp[Op.operands]at h
 | waits e=>simp[Op.operands]at h
 | _=>simpa[Op.operands,opsL]using h

def vcOp(P:Program)(q:Bool)(o:Oper)(ρ:Env)(K:VP)(h:Heap):Prop :=
 bif okOp o.op&&known ρ (opsL o.op) then
  match o.op with
  | .move x | .assign x=>K (ev ρ x) h
  | .nilCheck x=>Hp P q (nilS (ev ρ x)) K h ⟨⟩
  | .call { callee:=.value (.func f),args,argTypes:=_ }=>bif q then False else bif callOk P f then CallsH P f (mapL (ev ρ) args.toList).toArray h K ⟨⟩ else ExtH P f (mapL (ev ρ) args.toList).toArray h K ⟨⟩
  | .call { callee:=.value x,args,argTypes:=_ }=>bif q then False else InvokeH P (ev ρ x) (mapL (ev ρ) args.toList).toArray h K ⟨⟩
  | .call { callee:=.invoke x name,args,argTypes:=_ }=>bif q then False else MethodH P (ev ρ x) name (mapL (ev ρ) args.toList).toArray h K ⟨⟩
  | op=>match opS (ev ρ) o.type op with|some m=>Hp P q m K h ⟨⟩|none=>False
 else False

theorem opS_exec{ρ:Operand->Value}{o:Oper}{m:Sem Value}(h:opS ρ o.type o.op=some m) :
 execOp ρ o=(do let v <-m;pure (.value v))\/∃u:Sem Unit,execOp ρ o=(do u;pure .skip)/\m=unitS u:=by
 obtain⟨dst,op,ty,pos,after,guard⟩:=o
 cases op with
 | move x=>simp only[opS,Option.some.injEq]at h;subst h;exact .inl rfl
 | assign x=>simp only[opS,Option.some.injEq]at h;subst h;exact .inl rfl
 | pick c a b=>simp only[opS,Option.some.injEq]at h;subst h;left;unfold execOp;cases hc:ρ c<;>simp only[hc]<;>rfl
 | alloc e=>simp only[opS,Option.some.injEq]at h;subst h;exact .inl rfl
 | box e x=>simp only[opS,Option.some.injEq]at h;subst h;exact .inl rfl
 | build t ps =>
  simp only[opS,Option.some.injEq]at h;subst h;left
  show (do let v <-Instr.build t (ps.map fun (i,x)=>(i,ρ x));pure (.value v):Sem Next)=_
  rw[mapP_eq,<-List.map_toArray]
 | buildSlice t n ps =>
  simp only[opS,Option.some.injEq]at h;subst h;left
  show (do let v <-Instr.buildSlice t n (ps.map fun (i,x)=>(i,ρ x));pure (.value v):Sem Next)=_
  rw[mapP_eq,<-List.map_toArray]
 | load t a=>simp only[opS,Option.some.injEq]at h;subst h;exact .inl rfl
 | store t a x=>simp only[opS,Option.some.injEq]at h;subst h;exact .inr ⟨_,rfl,rfl⟩
 | binOp op t x y yt=>simp only[opS,Option.some.injEq]at h;subst h;exact .inl rfl
 | unOp op t x=>simp only[opS,Option.some.injEq]at h;subst h;exact .inl rfl
 | convert s d x=>simp only[opS,Option.some.injEq]at h;subst h;exact .inl rfl
 | makeInterface t x=>simp only[opS,Option.some.injEq]at h;subst h;exact .inl rfl
 | makeFunc fn a b =>
  simp only[opS,Option.some.injEq]at h;subst h;left
  show (do let v <-Instr.makeFunc fn (a.map ρ) (b.map ρ);pure (.value v):Sem Next)=_
  rw[mapL_eq,mapL_eq,<-List.map_toArray,<-List.map_toArray];rfl
 | makeMap t r=>cases r<;>(simp only[opS,Option.some.injEq]at h;subst h;exact .inl rfl)
 | makeSlice t l c=>simp only[opS,Option.some.injEq]at h;subst h;exact .inl rfl
 | slice t x lo hi mx=>simp only[opS,Option.some.injEq]at h;subst h;exact .inl rfl
 | fieldAddr s x f=>simp only[opS,Option.some.injEq]at h;subst h;exact .inl rfl
 | field t x f=>simp only[opS,Option.some.injEq]at h;subst h;exact .inl rfl
 | indexAddr t x i=>simp only[opS,Option.some.injEq]at h;subst h;exact .inl rfl
 | index t x i=>simp only[opS,Option.some.injEq]at h;subst h;exact .inl rfl
 | lookup t x i ok=>simp only[opS,Option.some.injEq]at h;subst h;exact .inl rfl
 | mapUpdate t m k x=>simp only[opS,Option.some.injEq]at h;subst h;exact .inr ⟨_,rfl,rfl⟩
 | insert t m k x=>simp only[opS,Option.some.injEq]at h;subst h;exact .inr ⟨_,rfl,rfl⟩
 | mapEntry t m k=>simp only[opS,Option.some.injEq]at h;subst h;exact .inl rfl
 | entryStore t m s x=>simp only[opS,Option.some.injEq]at h;subst h;exact .inr ⟨_,rfl,rfl⟩
 | range t x=>simp only[opS,Option.some.injEq]at h;subst h;exact .inl rfl
 | next it s=>simp only[opS,Option.some.injEq]at h;subst h;exact .inl rfl
 | entry it=>simp only[opS,Option.some.injEq]at h;subst h;exact .inl rfl
 | typeAssert x t a ok=>simp only[opS,Option.some.injEq]at h;subst h;exact .inl rfl
 | extract x i=>simp only[opS,Option.some.injEq]at h;subst h;exact .inl rfl
 | call c =>
  obtain⟨callee,args,ats⟩:=c
  cases callee with
  | builtin b =>
   left
   show builtin b ats ty _ (args.map ρ)=_
   cases b<;>simp only[opS,builtinS,Option.some.injEq]at h<;>first
    | (cases h;done)
    | (subst h;rw[mapL_eq,<-List.map_toArray];rfl)
  | value f=>simp[opS]at h
  | invoke r n=>simp[opS]at h
 | _=>simp[opS]at h


theorem nilS_spec{P:Program}{q:Bool}{v:Value}{K:VP}{h:Heap}(H:hp P q (nilS v) K h) :
 K v h/\∀(ρ:Operand->Value) (o:Oper) (x:Operand),o.op = .nilCheck x->ρ x=v->execOp ρ o=pure (.value v):=by
 unfold nilS at H
 split at H
 ·exact H.elim
 ·exact H.elim
 ·exact H.elim
 ·exact H.elim
 ·rename_i h1 h2 h3 h4
  refine⟨H,fun ρ o x ho hx=>?_⟩
  obtain⟨dst,op,ty,pos,after,guard⟩:=o
  simp only at ho;subst ho
  unfold execOp;simp only[hx]

theorem run_value_ok{P:Program}{o:Oper}{ρ:Operand->Value}{w w':World}{v:Value}{m:Sem Value}(hr:m.run P w = .ok v w')(hm:opS ρ o.type o.op=some m) :
 (execOp ρ o).run P w = .ok (.value v) w'\/((execOp ρ o).run P w = .ok .skip w'/\v=undef):=by
 rcases opS_exec hm with he|⟨u,he,rfl⟩
 ·left
  rw[he]
  show (m.bind _).run P w=_
  rw[Sem.run_bind',hr];rfl
 ·have h2:(u.bind fun _=>(pure undef:Sem Value)).run P w = .ok v w':=hr
  rw[Sem.run_bind']at h2
  cases hu:u.run P w with
  | ok x w'' =>
   rw[hu]at h2
   have h2':(Result.ok undef w'':Result Value) = .ok v w':=h2
   injection h2' with e1 e2
   subst e1;subst e2
   refine .inr ⟨?_,rfl⟩
   rw[he]
   show (u.bind _).run P w=_
   rw[Sem.run_bind',hu];rfl
  | halt x w''=>rw[hu]at h2;cases h2

section
variable {P:Program}{o:Oper}{ρ:Env}{a:Act}{w:World}

theorem semAt_ok(r:Option Nat)(hk:okOp o.op=true)(σ:Operand->Value):o.semAt (FW r).round σ=execOp σ o :=
 Oper.semAt_eq _ _ _ fun c e=>by rw[e]at hk;cases hk

theorem Oper.wp_of_value{r:Option Nat}(hk:okOp o.op=true){next:Act->World->Prop}{Q:Exit->Act->World->Prop}{w':World}{v:Value}
 (h:(execOp a.eval o).run P w = .ok (.value v) w'\/((execOp a.eval o).run P w = .ok .skip w'/\v=undef)) (hn:next (a.put o.dst v) w'):o.wpIn (FW r) 0 P a w next Q:=by
 unfold Oper.wpIn
 refine⟨fun _ _=>trivial,?_⟩
 rw[semAt_ok r hk]
 rcases h with h|⟨h,rfl⟩<;>rw[h]<;>exact hn

theorem exec_agree(ha:Agree ρ a)(hk:(okOp o.op&&known ρ (opsL o.op))=true):execOp a.eval o=execOp (ev ρ) o:=by
 simp only[Bool.and_eq_true]at hk
 exact execOp_congr o (fun cs b e=>by rw[e]at hk;simp[okOp]at hk) fun x hx=>ev_agree ha hk.2 x (mem_opsL hk.1 hx)

theorem execOp_call_value(σ:Operand->Value)(dst:Option Tmp)(x:Operand)(args:Array Operand)(ats:Array TypeId)(ty:TypeId)(pos:String)(after:Array Edge)(guard:Option (Nat×Bool)) :
 execOp σ { dst,op:=.call { callee:=.value x,args,argTypes:=ats },type:=ty,pos,after,guard }=(do let d <-Deferred.ofValue (σ x) (args.map σ);invoke d.target d.args):=rfl
theorem execOp_call_invoke(σ:Operand->Value)(dst:Option Tmp)(x:Operand)(name:String)(args:Array Operand)(ats:Array TypeId)(ty:TypeId)(pos:String)(after:Array Edge)(guard:Option (Nat×Bool)) :
 execOp σ { dst,op:=.call { callee:=.invoke x name,args,argTypes:=ats },type:=ty,pos,after,guard }=invoke (.fn (.method name) #[]) (#[σ x]++args.map σ):=rfl

theorem run_ext{f:FuncId}{args:Array Value}{k:VP}(he:extP P f args w.heap k):∃v w',(callFunc f args).run P w = .ok (.value v) w'/\Same w w'/\k v w'.heap:=by
 obtain⟨fn,e,hf,hb,hn,hx,hfind,hh⟩:=he
 obtain⟨v,w',hr,hs,hk⟩:=hp_run (e args) k w hh
 refine⟨v,w',?_,hs,hk⟩
 show ((Sem.program .pure).bind _).run P w=_
 simp only[Sem.bind,Sem.run,hf,hn,Bool.false_eq_true,if_false,hb,if_true]
 have hx':Extern.findNext fn=none:=by simpa using hx
 show ((Sem.mark _ (.pure ())).bind _).run P w=_
 simp only[Sem.bind,Sem.run,hx',hfind]
 show ((e args).bind _).run P w=_
 rw[Sem.run_bind',hr];rfl

theorem vcOp_wp{r:Option Nat}{k:VP}{next:Act->World->Prop}{Q:Exit->Act->World->Prop}(ha:Agree ρ a)(hv:vcOp P false o ρ k w.heap)
 (hn:∀v w',Same w w'->k v w'.heap->next (a.put o.dst v) w'):o.wpIn (FW r) 0 P a w next Q:=by
 unfold vcOp at hv
 cases hk:(okOp o.op&&known ρ (opsL o.op)) with
 | false=>rw[hk]at hv;exact hv.elim
 | true =>
  rw[hk]at hv
  have he:=exec_agree ha hk
  have hok:okOp o.op=true:=by simp only[Bool.and_eq_true]at hk;exact hk.1
  simp only[cond_true]at hv
  have callF:∀(f:FuncId) (args:Array Value) (w1:World),Same w w1->CallsH P f args w1.heap k ⟨⟩->(execOp a.eval o).run P w = .ok (.enter f args) w1->o.wpIn (FW r) 0 P a w next Q:=by
   intro f args w1 hs1 hc hr
   unfold Oper.wpIn
   refine⟨fun _ _=>trivial,?_⟩
   rw[semAt_ok r hok,hr]
   refine⟨FW_depth r,callsIn_FW ((hc.out w1 rfl).mono ?_)⟩
   rintro e w' ⟨v,rfl,hs,hk⟩
   exact hn v w' (hs1.trans hs) hk
  split at hv
  ·rename_i x ho
   refine Oper.wp_of_value hok (.inl ?_) (hn (ev ρ x) w (.refl _) hv)
   rw[he]
   obtain⟨dst,op,ty,pos,after,guard⟩:=o
   simp only at ho;subst ho;rfl
  ·rename_i x ho
   refine Oper.wp_of_value hok (.inl ?_) (hn (ev ρ x) w (.refl _) hv)
   rw[he]
   obtain⟨dst,op,ty,pos,after,guard⟩:=o
   simp only at ho;subst ho;rfl
  ·rename_i x ho
   obtain⟨h1,h2⟩:=nilS_spec hv.out
   refine Oper.wp_of_value hok (.inl ?_) (hn (ev ρ x) w (.refl _) h1)
   rw[he,h2 (ev ρ) o x ho rfl];rfl
  ·rename_i f args ats ho
   simp only[cond_false]at hv
   have hex:execOp a.eval o=callFunc f (mapL (ev ρ) args.toList).toArray:=by
    rw[he]
    obtain⟨dst,op,ty,pos,after,guard⟩:=o
    simp only at ho;subst ho
    show callFunc f (#[]++args.map (ev ρ) ++ #[])=_
    rw[mapL_eq,<-List.map_toArray];simp
   cases hc:callOk P f with
   | false =>
    rw[hc]at hv
    obtain⟨v,w',hr,hs,hkk⟩:=run_ext hv.out
    exact Oper.wp_of_value hok (.inl (by rw[hex];exact hr)) (hn v w' hs hkk)
   | true =>
    rw[hc]at hv
    exact callF f _ w (.refl _) hv (by rw[hex];exact run_callFunc hc w)
  ·rename_i x args ats _ ho
   simp only[cond_false]at hv
   replace hv:=hv.out
   unfold invokeP at hv
   split at hv
   ·rename_i g first captured hx
    cases hc:callOk P g with
    | false=>rw[hc]at hv;exact hv.elim
    | true =>
     rw[hc]at hv
     refine callF g _ w (.refl _) hv ?_
     rw[he]
     obtain⟨dst,op,ty,pos,after,guard⟩:=o
     simp only at ho;subst ho
     rw[execOp_call_value,hx]
     show (callFunc g (first++args.map (ev ρ)++captured)).run P w=_
     rw[mapL_eq,<-List.map_toArray,run_callFunc hc]
   ·rename_i t path g pointer first captured hx
    split at hv
    ·rename_i x0 hx0
     cases hc:callOk P g with
     | false=>rw[hc]at hv;exact hv.elim
     | true =>
      rw[hc]at hv
      obtain⟨y,w1,hr,hs,hkk⟩:=hp_run _ _ w hv
      refine callF g _ w1 hs hkk ?_
      rw[he]
      obtain⟨dst,op,ty,pos,after,guard⟩:=o
      simp only at ho;subst ho
      rw[execOp_call_value,hx]
      show (invoke (.fn (.via t path g pointer) captured) (first++args.map (ev ρ))).run P w=_
      rw[mapL_eq,<-List.map_toArray]at *
      have hx0':(first++args.map (ev ρ))[0]? = some x0:=by simpa using hx0
      unfold invoke
      simp only[hx0']
      show ((receiverVia t x0 path pointer).bind _).run P w=_
      rw[Sem.run_bind',hr]
      show (callFunc g (#[y]++_)).run P w1=_
      rw[run_callFunc hc]
    ·exact hv.elim
   ·rename_i l first captured hx
    obtain⟨fn,tmps,assign,body,hy,hr⟩:=hv w rfl
    unfold Oper.wpIn
    refine⟨fun _ _=>trivial,?_⟩
    have hrun:(execOp a.eval o).run P w = .ok (.round l fn tmps assign body) w:=by
     rw[he]
     obtain⟨dst,op,ty,pos,after,guard⟩:=o
     simp only at ho;subst ho
     rw[execOp_call_value,hx]
     show (Instr.yield l (first++args.map (ev ρ))).run P w=_
     rw[mapL_eq,<-List.map_toArray]at hy
     exact hy
    rw[semAt_ok r hok,hrun]
    refine⟨FW_depth r,?_⟩
    have hr':RoundIn (FW r) 0 P l fn tmps assign body w (fun e w'=>∃v,e = .returned v/\Same w w'/\k v w'.heap):=hr
    refine hr'.mono ?_
    rintro e w' ⟨v,rfl,hs,hk⟩
    exact hn v w' hs hk
   ·exact hv.elim
  ·rename_i x name args ats ho
   simp only[cond_false]at hv
   replace hv:=hv.out
   unfold methodP at hv
   split at hv
   ·rename_i t v hx
    obtain⟨y,w1,hr,hs,hkk⟩:=hp_run _ _ w hv
    cases hc:callOk P y.1 with
    | false=>rw[hc]at hkk;exact hkk.elim
    | true =>
     rw[hc]at hkk
     refine callF y.1 _ w1 hs hkk ?_
     rw[he]
     obtain⟨dst,op,ty,pos,after,guard⟩:=o
     simp only at ho;subst ho
     rw[execOp_call_invoke,hx]
     have e0:(#[Value.iface t v]++args.map (ev ρ))[0]? = some (.iface t v):=by rw[Array.getElem?_append_left sM];rfl
     have e1:(#[Value.iface t v]++args.map (ev ρ)).extract 1 (#[Value.iface t v]++args.map (ev ρ)).size=args.map (ev ρ):=by
      apply Array.ext'
      rw[Array.toList_extract,List.extract_eq_take_drop,Array.toList_append,Array.size_append]
      show List.take (1+(args.map (ev ρ)).size-1) (args.map (ev ρ)).toList=_
      rw[Nat.add_sub_cancel_left,<-Array.length_toList,List.take_length]
     unfold invoke
     simp only[e0,e1]
     show ((Sem.program .pure).bind _).run P w=_
     simp only[Sem.bind,Sem.run]
     show ((Go.method (P.types.size+Made.depth) t v name).bind _).run P w=_
     rw[Sem.run_bind',hr]
     show (callFunc y.1 (#[y.2]++args.map (ev ρ))).run P w1=_
     rw[run_callFunc hc,mapL_eq,<-List.map_toArray]
   ·exact hv.elim
  ·split at hv
   ·rename_i m hm
    obtain⟨v,w',hr,hs,hkk⟩:=hp_run m k w hv.out
    refine Oper.wp_of_value hok ?_ (hn v w' hs hkk)
    rw[he]
    exact run_value_ok hr hm
   ·exact hv.elim

theorem vcOp_stable{k:VP}{h:Heap}(ha:Agree ρ a)(hv:vcOp P true o ρ k h) :
 ∃v,k v h/\vcOp P true o ρ (fun u _=>u=v) h/\∀w:World,Ext h w.heap->((execOp a.eval o).run P w = .ok (.value v) w\/((execOp a.eval o).run P w = .ok .skip w/\v=undef)):=by
 unfold vcOp at hv ⊢
 cases hk:(okOp o.op&&known ρ (opsL o.op)) with
 | false=>rw[hk]at hv;exact hv.elim
 | true =>
  rw[hk]at hv
  have he:=exec_agree ha hk
  simp only[cond_true]at hv ⊢
  split at hv
  ·rename_i x ho
   refine⟨ev ρ x,hv,by simp only,fun w _=>.inl ?_⟩
   rw[he]
   obtain⟨dst,op,ty,pos,after,guard⟩:=o
   simp only at ho;subst ho;rfl
  ·rename_i x ho
   refine⟨ev ρ x,hv,by simp only,fun w _=>.inl ?_⟩
   rw[he]
   obtain⟨dst,op,ty,pos,after,guard⟩:=o
   simp only at ho;subst ho;rfl
  ·rename_i x ho
   obtain⟨v,hk,hu,_⟩:=hp_stable _ _ _ hv.out
   obtain⟨h1,h2⟩:=nilS_spec hv.out
   obtain⟨h3,_⟩:=nilS_spec hu
   refine⟨ev ρ x,h1,⟨h3▸hu⟩,fun w _=>.inl ?_⟩
   rw[he,h2 (ev ρ) o x ho rfl];rfl
  ·exact hv.elim
  ·exact hv.elim
  ·exact hv.elim
  ·split at hv
   ·rename_i m hm
    obtain⟨v,hk,hu,hr⟩:=hp_stable m k h hv.out
    refine⟨v,hk,?_,fun w hx=>by rw[he];exact run_value_ok (hr w hx) hm⟩
    exact⟨hu⟩
   ·exact hv.elim
end

end Go.Vc

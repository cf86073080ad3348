/- Ranges over functions: rules for records of loops,for closures,and for what a round may change. -/
import Derived.Test.YtdccfkffabngjaaGreatVcMore
namespace Go.Vc
open Go
set_option linter.unusedSimpArgs false
set_option linter.unusedVariables false
section
variable {P:Program}{q:Bool}{K:VP}{h:Heap}

@[simp ↓ high] theorem cells_str{l:List UInt8}:(str l).cells = #[str l]:=rfl
@[simp] theorem getV_0{a:Value}{l:List Value}:getV (a::l) 0=a:=rfl
@[simp] theorem getV_1{a b:Value}{l:List Value}:getV (a::b::l) 1=b:=rfl
theorem get_hset{a:Addr}{v:Value}{b:Nat}(hb:b≠a.block):(hset h a v)[b]? = h[b]? := by
 have:=(Mod.set h a v).block b
 by_cases hlt:b<h.size
 ·exact this hlt hb
 ·rw[Array.getElem?_eq_none (by rw[hset_size];omega),Array.getElem?_eq_none omg]
theorem get_push{o:Obj}{b:Nat}(hb:b<h.size):(h.push o)[b]? = h[b]? := by
 rw[Array.getElem?_push,if_neg omg]
theorem get_pushed{o:Obj}{b:Nat}(hb:b=h.size):(h.push o)[b]? = some o:=by
 rw[Array.getElem?_push,if_pos hb]
theorem get_put{o:Obj}{b:Nat}(hb:b<h.size):(h.setIfInBounds b o)[b]? = some o:=by
 rw[Array.getElem?_setIfInBounds_self_of_lt hb]
theorem get_putne{o:Obj}{b c:Nat}(hb:c≠b):(h.setIfInBounds b o)[c]? = h[c]? := by
 rw[Array.getElem?_setIfInBounds_ne (fun e=>hb e.symm)]
theorem get_ext{h':Heap}{b:Nat}(e:Ext h h')(hb:b<h.size):h'[b]? = h[b]? := e.block b hb
theorem get_some_lt{o:Obj}{b:Nat}(hb:h[b]? = some o):b<h.size:=by
 rw[Array.getElem?_eq_some_iff]at hb
 exact hb.1
theorem get_hset'{x i:Nat}{t:Option Nat}{v:Value}{b:Nat}(hb:b≠x):(hset h ⟨x,i,t⟩ v)[b]? = h[b]? := get_hset hb
structure Cel (h:Heap) (b i:Nat) (v:Value):Prop where
 get:hcell h ⟨b,i,none⟩=some v
 free:hfrozen h ⟨b,i,none⟩=false
theorem Cel.lt{b i:Nat}{v:Value}(c:Cel h b i v):b<h.size:=hcell_lt c.get
theorem Cel.ext{h':Heap}{b i:Nat}{v:Value}(c:Cel h b i v)(e:Ext h h'):Cel h' b i v :=
 ⟨hcell_ext e c.get,by rw[hfrozen_of_ext e (hcell_lt c.get)];exact c.free⟩
theorem Cel_iff{b i:Nat}{v:Value}:Cel h b i v↔hcell h ⟨b,i,none⟩=some v/\hfrozen h ⟨b,i,none⟩=false:=⟨fun c=>⟨c.get,c.free⟩,fun c=>⟨c.1,c.2⟩⟩
theorem Mod.setIn{S:Nat->Prop}{h₀:Heap}(m:Mod S h₀ h){a:Addr}{v:Value}(hs:S a.block\/h₀.size<=a.block):Mod S h₀ (hset h a v) :=
 ⟨by rw[hset_size];exact m.size,fun b hb hn=>by
  rw[get_hset (fun e=>by subst e;rcases hs with hs|hs;exact hn hs;omega)]
  exact m.block b hb hn⟩
theorem Mod.putIn{S:Nat->Prop}{h₀:Heap}(m:Mod S h₀ h){c:Nat}{o:Obj}(hs:S c\/h₀.size<=c):Mod S h₀ (h.setIfInBounds c o) :=
 ⟨by simpa using m.size,fun b hb hn=>by
  rw[get_putne (fun e=>by subst e;rcases hs with hs|hs;exact hn hs;omega)]
  exact m.block b hb hn⟩
theorem Mod.pushIn{S:Nat->Prop}{h₀:Heap}(m:Mod S h₀ h){o:Obj}:Mod S h₀ (h.push o) :=
 ⟨by rw[Array.size_push];exact Nat.le_succ_of_le m.size,fun b hb hn=>by rw[get_push (by have:=m.size;omega)];exact m.block b hb hn⟩
theorem Mod.extIn{S:Nat->Prop}{h₀ h':Heap}(m:Mod S h₀ h)(e:Ext h h'):Mod S h₀ h' :=
 ⟨Nat.le_trans m.size e.size,fun b hb hn=>by rw[e.block b (by have:=m.size;omega)];exact m.block b hb hn⟩

theorem Bytes.lt{v:Value}{l:List UInt8}{b:Nat}(s:Bytes h v l)(hb:blkV v=some b)(hl:l≠[]):b<h.size:=by
 rcases s with ⟨rfl,rfl⟩|⟨a,c,rfl,hc,hA⟩
 ·exact absurd rfl hl
 ·cases hb
  have:=hcell_lt (hA 0 (List.length_pos_iff.2 hl))
  simpa using this

theorem Bytes.modX{S:Nat->Prop}{h':Heap}{v:Value}{l:List UInt8}(s:Bytes h v l)(m:Mod S h h')(hS:∀b,l≠[]->blkV v=some b->b<h.size->¬S b):Bytes h' v l:=by
 rcases s with s|⟨a,c,e,hc,hA⟩
 ·exact .inl s
 ·refine .inr ⟨a,c,e,hc,fun i hi=>?_⟩
  have hlt:=hcell_lt (hA i hi)
  rw[m.cell hlt (hS _ (List.length_pos_iff.1 omg) (by rw[e,elt_blk];rfl) (by simpa using hlt))]
  exact hA i hi

theorem OwnS.set1{B n c k:Nat}{L:List UInt8}{x:UInt8}(o:OwnS 1 h (.slice (some ⟨B,0,none⟩) n c) (L.map byteV))(hk:k<L.length) :
 hcell h (elt ⟨B,0,none⟩ k)=some (byteV L[k])/\hfrozen h (elt ⟨B,0,none⟩ k)=false/\OwnS 1 (hset h (elt ⟨B,0,none⟩ k) (byteV x)) (.slice (some ⟨B,0,none⟩) n c) ((L.set k x).map byteV):=by
 refine⟨?_,?_,?_⟩
 ·rw[o.seg.2.2 k (by simpa using hk)];simp
 ·have:=o.seg
  exact o.free (by simp at this;omega)
 ·have:=o.write (k:=k) (new:=[byteV x]) (by simp;omega)
  have e:over (L.map byteV) k [byteV x]=(L.set k x).map byteV:=by
   unfold over
   rw[List.set_eq_take_append_cons_drop,if_pos hk]
   simp[List.map_take,List.map_drop]
  rw[e]at this
  exact this

theorem InvokeH_func{g:FuncId}{first args caps:Array Value}(hc:callOk P g=true)(H:CallsH P g (first++args++caps) h K ⟨⟩):InvokeH P (.func (.func g) first caps) args h K ⟨⟩ :=
 ⟨by unfold invokeP;simp only[hc];exact H⟩

theorem loopA0{α:Type}{body:(Heap->Prop)->Heap->Prop}(g:α->Heap->Prop)(μ:α->Nat)(a0:α)(hg:g a0 h)
 (hb:∀a h,g a h->body (fun h'=>∃a',g a' h'/\μ a'<μ a) h):LoopC 0 body [] h ⟨⟩:=by
 refine⟨fun m vs h=>vs=[]/\∃a,g a h/\μ a=m,μ a0,⟨rfl,a0,hg,rfl⟩,fun m vs h hl hI=>?_⟩
 obtain⟨rfl,a,hga,rfl⟩:=hI
 have:=hb a h hga
 have e:(fun h'=>∃a',g a' h'/\μ a'<μ a)=curry 0 (fun vs' h'=>∃m',m'<μ a/\(vs'=[]/\∃a,g a h'/\μ a=m')):=by
  funext h';refine propext ⟨fun ⟨a',hg,hm⟩=>⟨_,hm,rfl,a',hg,rfl⟩,fun ⟨m',hm,_,a',hg,hq⟩=>?_⟩
  exact⟨a',hg,hq▸hm⟩
 rw[e]at this;exact this

theorem RetD_one{d:Nat}{k:Heap->Prop}(hd:h[d]? = some (.deferred (some [])))(H:k (h.setIfInBounds d (.deferred none))):RetD (.tuple (marksV [d]).toArray) h k ⟨⟩ :=
 ⟨⟨[d],rfl,hd,H⟩⟩
theorem RangeC_none{gv:Value}{np:Nat}{D:Value}{B:Nat->List Value->((Heap->Prop)->Heap->Prop)->(Heap->Prop)->(Code->Heap->Prop)->Heap->Prop}{aN aR:VP}{aE:Nat->VP}(hy:isYield gv=false)
 (H:∀(oR oB oE:Obj) (oX oF:Code->Obj) (Kp:VP),isLoop oR=true->isLoop oB=true ->
  (∀(args:List Value) (h':Heap) (K:VP),args.length=np->h'[h.size+1]? = some oR ->
   B (h.size+1) args (fun k h1=>h1[h.size+1]? = some oR/\k (h1.setIfInBounds (h.size+1) oB)) (fun h4=>h4[h.size+1]? = some oB/\K (.bool true) (h4.setIfInBounds (h.size+1) oR)) (fun c h4=>h4[h.size+1]? = some oB/\K (.bool false) (h4.setIfInBounds (h.size+1) (oX c))) h' ->
   InvokeH P (.func (.yield (h.size+1)) #[] #[]) args.toArray h' K ⟨⟩) ->
  (∀v h2,h2[h.size+1]? = some oR->aN (consD h.size D) (h2.setIfInBounds (h.size+1) oE)->Kp v h2) ->
  (∀v h2,h2[h.size+1]? = some (oX .ret)->aR (consD h.size D) (h2.setIfInBounds (h.size+1) (oF .ret))->Kp v h2) ->
  (∀v h2 id,h2[h.size+1]? = some (oX (.exit id))->aE id (consD h.size D) (h2.setIfInBounds (h.size+1) (oF (.exit id)))->Kp v h2) ->
  InvokeH P gv #[.func (.yield (h.size+1)) #[] #[]] ((h.push (.deferred (some []))).push oR) Kp ⟨⟩):RangeC P none gv np D B aN aR aE h ⟨⟩ ⟨⟩ ⟨⟩ ⟨⟩ :=
 ⟨⟨hy,fun oR oB oE oX oF hR hB hround=>H oR oB oE oX oF _ hR hB (fun args h' K h1 h2 h3=>hround args h' K h1 h2 h3) (fun v h2 h3 h4=>.inl ⟨h3,h4⟩) (fun v h2 h3 h4=>.inr (.inl ⟨h3,h4⟩)) (fun v h2 id h3 h4=>.inr (.inr ⟨id,h3,h4⟩))⟩⟩

theorem InvokeH_f1{g:FuncId}{a:Value}(hc:callOk P g=true)(H:CallsH P g #[a] h K ⟨⟩):InvokeH P (.func (.func g) #[] #[]) #[a] h K ⟨⟩:=InvokeH_func hc (by simpa using H)
theorem consD_marks(d:Nat)(ds:List Nat):consD d (.tuple (marksV ds).toArray) = .tuple (marksV (d::ds)).toArray:=by simp[consD,marksV]
theorem RetD_one'{d:Nat}{k:Heap->Prop}(hd:h[d]? = some (.deferred (some [])))(H:k (h.setIfInBounds d (.deferred none))):RetD (consD d (.tuple #[])) h k ⟨⟩:=by
 have:=RetD_one hd H
 rw[<-consD_marks]at this
 exact this
end
end Go.Vc

/- Rules for the conditions: what each operation comes to,on values of known shape. 'simp' carries a condition out up to its next branch,call or loop. -/
import Derived.Test.YtdccfkffabngjaaGreatVcFun
namespace Go.Vc
open Go

structure Split (p:Prop) (A B:Prop) (u:Un A) (u':Un B):Prop where
 yes:p->A
 no:¬p->B
@[simp ↓] theorem Split_yes{p A B:Prop}(hp:p):Split p A B ⟨⟩ ⟨⟩↔A:=⟨fun s=>s.yes hp,fun a=>⟨fun _=>a,fun n=>absurd hp n⟩⟩
@[simp ↓] theorem Split_no{p A B:Prop}(hp:¬p):Split p A B ⟨⟩ ⟨⟩↔B:=⟨fun s=>s.no hp,fun b=>⟨fun y=>absurd y hp,fun _=>b⟩⟩
@[simp ↓] theorem Split_true{A B:Prop}:Split True A B ⟨⟩ ⟨⟩↔A:=Split_yes trivial
@[simp ↓] theorem Split_false{A B:Prop}:Split False A B ⟨⟩ ⟨⟩↔B:=Split_no id
theorem Split_bool{b:Bool}{A B:Prop}:condB (.bool b) A B↔Split (b=true) A B ⟨⟩ ⟨⟩:=by
 cases b
 ·exact⟨fun x=>⟨fun y=>(Bool.noConfusion y),fun _=>x⟩,fun s=>s.no dM⟩
 ·exact⟨fun x=>⟨fun _=>x,fun y=>absurd rfl y⟩,fun s=>s.yes rfl⟩

@[simp ↓] theorem CondP_true{A B:Prop}:CondP (.bool true) A B ⟨⟩ ⟨⟩↔A:=⟨fun c=>c.out,fun a=>⟨a⟩⟩
@[simp ↓] theorem CondP_false{A B:Prop}:CondP (.bool false) A B ⟨⟩ ⟨⟩↔B:=⟨fun c=>c.out,fun a=>⟨a⟩⟩
theorem CondP_iff{v:Value}{A B:Prop}:CondP v A B ⟨⟩ ⟨⟩↔condB v A B:=⟨CondP.out,CondP.mk⟩
@[simp ↓] theorem CondP_decide{p:Prop}[Decidable p]{A B:Prop}:CondP (.bool (decide p)) A B ⟨⟩ ⟨⟩↔Split p A B ⟨⟩ ⟨⟩:=by
 rw[CondP_iff,Split_bool,decide_eq_true_eq]
@[simp ↓] theorem CondP_not{b:Bool}{A B:Prop}:CondP (.bool (!b)) A B ⟨⟩ ⟨⟩↔CondP (.bool b) B A ⟨⟩ ⟨⟩:=by cases b<;>simp

theorem Join1_iff{F:(VP)->Heap->Prop}{K:VP}{h:Heap}:Join1 F K h ⟨⟩ ⟨⟩↔F K h:=⟨Join1.out,Join1.mk⟩
theorem guardP_iff{c:Value}{w:Bool}{A B:Prop}:guardP c w A B ⟨⟩ ⟨⟩↔guardB c w A B:=⟨guardP.out,guardP.mk⟩
@[simp ↓] theorem Join1_tt{F G:(VP)->Heap->Prop}{K:VP}{h:Heap}:Join1 (fun k h=>guardP (.bool true) true (F k h) (G k h) ⟨⟩ ⟨⟩) K h ⟨⟩ ⟨⟩↔F K h:=by
 simp[Join1_iff,guardP_iff,guardB]
@[simp ↓] theorem Join1_ff{F G:(VP)->Heap->Prop}{K:VP}{h:Heap}:Join1 (fun k h=>guardP (.bool false) false (F k h) (G k h) ⟨⟩ ⟨⟩) K h ⟨⟩ ⟨⟩↔F K h:=by
 simp[Join1_iff,guardP_iff,guardB]
@[simp ↓] theorem Join1_tf{F G:(VP)->Heap->Prop}{K:VP}{h:Heap}:Join1 (fun k h=>guardP (.bool true) false (F k h) (G k h) ⟨⟩ ⟨⟩) K h ⟨⟩ ⟨⟩↔G K h:=by
 simp[Join1_iff,guardP_iff,guardB]
@[simp ↓] theorem Join1_ft{F G:(VP)->Heap->Prop}{K:VP}{h:Heap}:Join1 (fun k h=>guardP (.bool false) true (F k h) (G k h) ⟨⟩ ⟨⟩) K h ⟨⟩ ⟨⟩↔G K h:=by
 simp[Join1_iff,guardP_iff,guardB]
@[simp ↓] theorem Join1_undef{w:Bool}{F G:(VP)->Heap->Prop}{K:VP}{h:Heap}:Join1 (fun k h=>guardP undef w (F k h) (G k h) ⟨⟩ ⟨⟩) K h ⟨⟩ ⟨⟩↔G K h:=by
 simp[Join1_iff,guardP_iff,guardB,undef]

/-! ### Loops -/
theorem loop1{body:(VP)->VP}{v1:Value}{h:Heap}(I:VP)(μ:Value->Heap->Nat)(h0:I v1 h)
 (hb:∀v1 h,I v1 h->body (fun v1' h'=>I v1' h'/\μ v1' h'<μ v1 h) v1 h):LoopC 1 body [v1] h ⟨⟩:=by
 refine⟨fun m vs h=>∃w1,vs=[w1]/\I w1 h/\μ w1 h=m,μ v1 h,⟨_,rfl,h0,rfl⟩,fun m vs h hl hI=>?_⟩
 obtain⟨w1,rfl,hI,rfl⟩:=hI
 have:=hb w1 h hI
 have e:(fun v1' h'=>I v1' h'/\μ v1' h'<μ w1 h)=curry 1 (fun vs' h'=>∃m',m'<μ w1 h/\(∃u1,vs'=[u1]/\I u1 h'/\μ u1 h'=m')):=by
  funext v1';funext h';refine propext ⟨fun ⟨a,b⟩=>⟨_,b,_,rfl,a,rfl⟩,fun ⟨m',a,u1,e,b,c⟩=>?_⟩
  simp only[List.cons.injEq,and_true]at e
  obtain rfl:=e
  exact⟨b,c▸a⟩
 rw[e]at this;exact this
theorem loop2{body:(Value->VP)->Value->VP}{v1 v2:Value}{h:Heap}(I:Value->VP)(μ:Value->Value->Heap->Nat)(h0:I v1 v2 h)
 (hb:∀v1 v2 h,I v1 v2 h->body (fun v1' v2' h'=>I v1' v2' h'/\μ v1' v2' h'<μ v1 v2 h) v1 v2 h):LoopC 2 body [v1,v2] h ⟨⟩:=by
 refine⟨fun m vs h=>∃w1 w2,vs=[w1,w2]/\I w1 w2 h/\μ w1 w2 h=m,μ v1 v2 h,⟨_,_,rfl,h0,rfl⟩,fun m vs h hl hI=>?_⟩
 obtain⟨w1,w2,rfl,hI,rfl⟩:=hI
 have:=hb w1 w2 h hI
 have e:(fun v1' v2' h'=>I v1' v2' h'/\μ v1' v2' h'<μ w1 w2 h)=curry 2 (fun vs' h'=>∃m',m'<μ w1 w2 h/\(∃u1 u2,vs'=[u1,u2]/\I u1 u2 h'/\μ u1 u2 h'=m')):=by
  funext v1';funext v2';funext h';refine propext ⟨fun ⟨a,b⟩=>⟨_,b,_,_,rfl,a,rfl⟩,fun ⟨m',a,u1,u2,e,b,c⟩=>?_⟩
  simp only[List.cons.injEq,and_true]at e
  obtain⟨rfl,rfl⟩:=e
  exact⟨b,c▸a⟩
 rw[e]at this;exact this
theorem loop3{body:(Value->Value->VP)->Value->Value->VP}{v1 v2 v3:Value}{h:Heap}(I:Value->Value->VP)(μ:Value->Value->Value->Heap->Nat)(h0:I v1 v2 v3 h)
 (hb:∀v1 v2 v3 h,I v1 v2 v3 h->body (fun v1' v2' v3' h'=>I v1' v2' v3' h'/\μ v1' v2' v3' h'<μ v1 v2 v3 h) v1 v2 v3 h):LoopC 3 body [v1,v2,v3] h ⟨⟩:=by
 refine⟨fun m vs h=>∃w1 w2 w3,vs=[w1,w2,w3]/\I w1 w2 w3 h/\μ w1 w2 w3 h=m,μ v1 v2 v3 h,⟨_,_,_,rfl,h0,rfl⟩,fun m vs h hl hI=>?_⟩
 obtain⟨w1,w2,w3,rfl,hI,rfl⟩:=hI
 have:=hb w1 w2 w3 h hI
 have e:(fun v1' v2' v3' h'=>I v1' v2' v3' h'/\μ v1' v2' v3' h'<μ w1 w2 w3 h)=curry 3 (fun vs' h'=>∃m',m'<μ w1 w2 w3 h/\(∃u1 u2 u3,vs'=[u1,u2,u3]/\I u1 u2 u3 h'/\μ u1 u2 u3 h'=m')):=by
  funext v1';funext v2';funext v3';funext h';refine propext ⟨fun ⟨a,b⟩=>⟨_,b,_,_,_,rfl,a,rfl⟩,fun ⟨m',a,u1,u2,u3,e,b,c⟩=>?_⟩
  simp only[List.cons.injEq,and_true]at e
  obtain⟨rfl,rfl,rfl⟩:=e
  exact⟨b,c▸a⟩
 rw[e]at this;exact this
/-! Loops whose values hang on a ghost state a. -/
theorem loopA1{α:Type}{body:(VP)->VP}{v1:Value}{h:Heap}(f1:α->Value)(g:α->Heap->Prop)(μ:α->Nat)(a0:α)(hf:v1=f1 a0)(hg:g a0 h)
 (hb:∀a h,g a h->body (fun v1' h'=>∃a',v1'=f1 a'/\g a' h'/\μ a'<μ a) (f1 a) h):LoopC 1 body [v1] h ⟨⟩:=by
 obtain rfl:=hf
 refine⟨fun m vs h=>∃a,vs=[f1 a]/\g a h/\μ a=m,μ a0,⟨a0,rfl,hg,rfl⟩,fun m vs h hl hI=>?_⟩
 obtain⟨a,rfl,hga,rfl⟩:=hI
 have:=hb a h hga
 have e:(fun v1' h'=>∃a',v1'=f1 a'/\g a' h'/\μ a'<μ a)=curry 1 (fun vs' h'=>∃m',m'<μ a/\∃a,vs'=[f1 a]/\g a h'/\μ a=m'):=by
  funext v1';funext h';refine propext ⟨fun ⟨a',e1,hg,hm⟩=>⟨_,hm,a',by rw[e1],hg,rfl⟩,fun ⟨m',hm,a',he,hg,hq⟩=>?_⟩
  simp only[List.cons.injEq,and_true]at he
  exact⟨a',he,hg,hq▸hm⟩
 rw[e]at this;exact this
theorem loopA2{α:Type}{body:(Value->VP)->Value->VP}{v1 v2:Value}{h:Heap}(f1 f2:α->Value)(g:α->Heap->Prop)(μ:α->Nat)(a0:α)(hf:v1=f1 a0/\v2=f2 a0)(hg:g a0 h)
 (hb:∀a h,g a h->body (fun v1' v2' h'=>∃a',v1'=f1 a'/\v2'=f2 a'/\g a' h'/\μ a'<μ a) (f1 a) (f2 a) h):LoopC 2 body [v1,v2] h ⟨⟩:=by
 obtain⟨rfl,rfl⟩:=hf
 refine⟨fun m vs h=>∃a,vs=[f1 a,f2 a]/\g a h/\μ a=m,μ a0,⟨a0,rfl,hg,rfl⟩,fun m vs h hl hI=>?_⟩
 obtain⟨a,rfl,hga,rfl⟩:=hI
 have:=hb a h hga
 have e:(fun v1' v2' h'=>∃a',v1'=f1 a'/\v2'=f2 a'/\g a' h'/\μ a'<μ a)=curry 2 (fun vs' h'=>∃m',m'<μ a/\∃a,vs'=[f1 a,f2 a]/\g a h'/\μ a=m'):=by
  funext v1';funext v2';funext h';refine propext ⟨fun ⟨a',e1,e2,hg,hm⟩=>⟨_,hm,a',by rw[e1,e2],hg,rfl⟩,fun ⟨m',hm,a',he,hg,hq⟩=>?_⟩
  simp only[List.cons.injEq,and_true]at he
  obtain⟨e1,e2⟩:=he
  exact⟨a',e1,e2,hg,hq▸hm⟩
 rw[e]at this;exact this
theorem loopA3{α:Type}{body:(Value->Value->VP)->Value->Value->VP}{v1 v2 v3:Value}{h:Heap}(f1 f2 f3:α->Value)(g:α->Heap->Prop)(μ:α->Nat)(a0:α)(hf:v1=f1 a0/\v2=f2 a0/\v3=f3 a0)(hg:g a0 h)
 (hb:∀a h,g a h->body (fun v1' v2' v3' h'=>∃a',v1'=f1 a'/\v2'=f2 a'/\v3'=f3 a'/\g a' h'/\μ a'<μ a) (f1 a) (f2 a) (f3 a) h):LoopC 3 body [v1,v2,v3] h ⟨⟩:=by
 obtain⟨rfl,rfl,rfl⟩:=hf
 refine⟨fun m vs h=>∃a,vs=[f1 a,f2 a,f3 a]/\g a h/\μ a=m,μ a0,⟨a0,rfl,hg,rfl⟩,fun m vs h hl hI=>?_⟩
 obtain⟨a,rfl,hga,rfl⟩:=hI
 have:=hb a h hga
 have e:(fun v1' v2' v3' h'=>∃a',v1'=f1 a'/\v2'=f2 a'/\v3'=f3 a'/\g a' h'/\μ a'<μ a)=curry 3 (fun vs' h'=>∃m',m'<μ a/\∃a,vs'=[f1 a,f2 a,f3 a]/\g a h'/\μ a=m'):=by
  funext v1';funext v2';funext v3';funext h';refine propext ⟨fun ⟨a',e1,e2,e3,hg,hm⟩=>⟨_,hm,a',by rw[e1,e2,e3],hg,rfl⟩,fun ⟨m',hm,a',he,hg,hq⟩=>?_⟩
  simp only[List.cons.injEq,and_true]at he
  obtain⟨e1,e2,e3⟩:=he
  exact⟨a',e1,e2,e3,hg,hq▸hm⟩
 rw[e]at this;exact this
theorem loopA4{α:Type}{body:(Value->Value->Value->VP)->Value->Value->Value->VP}{v1 v2 v3 v4:Value}{h:Heap}(f1 f2 f3 f4:α->Value)(g:α->Heap->Prop)(μ:α->Nat)(a0:α)(hf:v1=f1 a0/\v2=f2 a0/\v3=f3 a0/\v4=f4 a0)(hg:g a0 h)
 (hb:∀a h,g a h->body (fun v1' v2' v3' v4' h'=>∃a',v1'=f1 a'/\v2'=f2 a'/\v3'=f3 a'/\v4'=f4 a'/\g a' h'/\μ a'<μ a) (f1 a) (f2 a) (f3 a) (f4 a) h):LoopC 4 body [v1,v2,v3,v4] h ⟨⟩:=by
 obtain⟨rfl,rfl,rfl,rfl⟩:=hf
 refine⟨fun m vs h=>∃a,vs=[f1 a,f2 a,f3 a,f4 a]/\g a h/\μ a=m,μ a0,⟨a0,rfl,hg,rfl⟩,fun m vs h hl hI=>?_⟩
 obtain⟨a,rfl,hga,rfl⟩:=hI
 have:=hb a h hga
 have e:(fun v1' v2' v3' v4' h'=>∃a',v1'=f1 a'/\v2'=f2 a'/\v3'=f3 a'/\v4'=f4 a'/\g a' h'/\μ a'<μ a)=curry 4 (fun vs' h'=>∃m',m'<μ a/\∃a,vs'=[f1 a,f2 a,f3 a,f4 a]/\g a h'/\μ a=m'):=by
  funext v1';funext v2';funext v3';funext v4';funext h';refine propext ⟨fun ⟨a',e1,e2,e3,e4,hg,hm⟩=>⟨_,hm,a',by rw[e1,e2,e3,e4],hg,rfl⟩,fun ⟨m',hm,a',he,hg,hq⟩=>?_⟩
  simp only[List.cons.injEq,and_true]at he
  obtain⟨e1,e2,e3,e4⟩:=he
  exact⟨a',e1,e2,e3,e4,hg,hq▸hm⟩
 rw[e]at this;exact this
theorem loopA5{α:Type}{body:(Value->Value->Value->Value->VP)->Value->Value->Value->Value->VP}{v1 v2 v3 v4 v5:Value}{h:Heap}(f1 f2 f3 f4 f5:α->Value)(g:α->Heap->Prop)(μ:α->Nat)(a0:α)(hf:v1=f1 a0/\v2=f2 a0/\v3=f3 a0/\v4=f4 a0/\v5=f5 a0)(hg:g a0 h)
 (hb:∀a h,g a h->body (fun v1' v2' v3' v4' v5' h'=>∃a',v1'=f1 a'/\v2'=f2 a'/\v3'=f3 a'/\v4'=f4 a'/\v5'=f5 a'/\g a' h'/\μ a'<μ a) (f1 a) (f2 a) (f3 a) (f4 a) (f5 a) h):LoopC 5 body [v1,v2,v3,v4,v5] h ⟨⟩:=by
 obtain⟨rfl,rfl,rfl,rfl,rfl⟩:=hf
 refine⟨fun m vs h=>∃a,vs=[f1 a,f2 a,f3 a,f4 a,f5 a]/\g a h/\μ a=m,μ a0,⟨a0,rfl,hg,rfl⟩,fun m vs h hl hI=>?_⟩
 obtain⟨a,rfl,hga,rfl⟩:=hI
 have:=hb a h hga
 have e:(fun v1' v2' v3' v4' v5' h'=>∃a',v1'=f1 a'/\v2'=f2 a'/\v3'=f3 a'/\v4'=f4 a'/\v5'=f5 a'/\g a' h'/\μ a'<μ a)=curry 5 (fun vs' h'=>∃m',m'<μ a/\∃a,vs'=[f1 a,f2 a,f3 a,f4 a,f5 a]/\g a h'/\μ a=m'):=by
  funext v1';funext v2';funext v3';funext v4';funext v5';funext h';refine propext ⟨fun ⟨a',e1,e2,e3,e4,e5,hg,hm⟩=>⟨_,hm,a',by rw[e1,e2,e3,e4,e5],hg,rfl⟩,fun ⟨m',hm,a',he,hg,hq⟩=>?_⟩
  simp only[List.cons.injEq,and_true]at he
  obtain⟨e1,e2,e3,e4,e5⟩:=he
  exact⟨a',e1,e2,e3,e4,e5,hg,hq▸hm⟩
 rw[e]at this;exact this
section
variable {P:Program}{q:Bool}{K:VP}{h:Heap}

structure ValI (n:Int) (K:Int->Prop) (u:Un K):Prop where
 out:K n
@[simp] theorem ValI_iff{n:Int}{K:Int->Prop}:ValI n K ⟨⟩↔K n:=⟨ValI.out,ValI.mk⟩

structure ValT {α:Type} (a:α) (K:α->Prop) (u:Un K):Prop where
 out:K a
@[simp] theorem ValT_iff{α:Type}{a:α}{K:α->Prop}:ValT a K ⟨⟩↔K a:=⟨ValT.out,ValT.mk⟩

/-! ### Numbers -/
theorem wrap_u64{n:Int}(h0:0<=n)(h1:n<18446744073709551616):IntKind.u64.wrap n=n:=by
 have e:IntKind.u64.wrap n=n%18446744073709551616:=by simp[IntKind.wrap,IntKind.signed,IntKind.bits]
 rw[e];omega
theorem wrap_u8{n:Int}(h0:0<=n)(h1:n<256):IntKind.u8.wrap n=n:=by
 have e:IntKind.u8.wrap n=n%256:=by simp[IntKind.wrap,IntKind.signed,IntKind.bits]
 rw[e];omega
theorem wrap_u32{n:Int}(h0:0<=n)(h1:n<4294967296):IntKind.u32.wrap n=n:=by
 have e:IntKind.u32.wrap n=n%4294967296:=by simp[IntKind.wrap,IntKind.signed,IntKind.bits]
 rw[e];omega
theorem wrap_i64_eq(n:Int):IntKind.i64.wrap n=if n%18446744073709551616>=9223372036854775808 then n%18446744073709551616-18446744073709551616 else n%18446744073709551616:=by
 simp[IntKind.wrap,IntKind.signed,IntKind.bits]
theorem wrap_u64_eq(n:Int):IntKind.u64.wrap n=n%18446744073709551616:=by
 simp[IntKind.wrap,IntKind.signed,IntKind.bits]
theorem wrap_u8_eq(n:Int):IntKind.u8.wrap n=n%256:=by
 simp[IntKind.wrap,IntKind.signed,IntKind.bits]
theorem wrap_i64{n:Int}(h0 : -9223372036854775808<=n)(h1:n<9223372036854775808):IntKind.i64.wrap n=n:=by
 rw[wrap_i64_eq];split<;>omega
theorem wrap_i32{n:Int}(h0 : -2147483648<=n)(h1:n<2147483648):IntKind.i32.wrap n=n:=by
 have e:IntKind.i32.wrap n=if n%4294967296>=2147483648 then n%4294967296-4294967296 else n%4294967296:=by simp[IntKind.wrap,IntKind.signed,IntKind.bits]
 rw[e];split<;>omega

theorem hp_binS_int{op:BinOp}{t:TypeId}{x y:Operand}{k:IntKind}{a b:Int}:Hp P q (binS op t x y (.int k a) (.int k b)) K h ⟨⟩↔hp P q (binOp op t (.int k a) (.int k b)) K h:=by
 rw[Hp_iff]
 unfold binS eqGuard
 cases op<;>exact Iff.rfl

@[simp low] theorem Hp_add{t:TypeId}{x y:Operand}{k:IntKind}{a b:Int}:Hp P q (binS .add t x y (.int k a) (.int k b)) K h ⟨⟩↔ValI (k.wrap (a+b)) (fun n=>K (.int k n) h) ⟨⟩:=by
 rw[ValI_iff]
 rw[hp_binS_int];simp[binOp,Op.intArith,hp_pure]
@[simp low] theorem Hp_sub{t:TypeId}{x y:Operand}{k:IntKind}{a b:Int}:Hp P q (binS .sub t x y (.int k a) (.int k b)) K h ⟨⟩↔ValI (k.wrap (a-b)) (fun n=>K (.int k n) h) ⟨⟩:=by
 rw[ValI_iff]
 rw[hp_binS_int];simp[binOp,Op.intArith,hp_pure]
@[simp low] theorem Hp_mul{t:TypeId}{x y:Operand}{k:IntKind}{a b:Int}:Hp P q (binS .mul t x y (.int k a) (.int k b)) K h ⟨⟩↔ValI (k.wrap (a*b)) (fun n=>K (.int k n) h) ⟨⟩:=by
 rw[ValI_iff]
 rw[hp_binS_int];simp[binOp,Op.intArith,hp_pure]
@[simp low] theorem Hp_quo{t:TypeId}{x y:Operand}{k:IntKind}{a b:Int}(hb:b≠0):Hp P q (binS .quo t x y (.int k a) (.int k b)) K h ⟨⟩↔ValI (k.wrap (a.tdiv b)) (fun n=>K (.int k n) h) ⟨⟩:=by
 rw[ValI_iff]
 rw[hp_binS_int];simp[binOp,Op.intDiv,hp_pure,hb]
@[simp low] theorem Hp_rem{t:TypeId}{x y:Operand}{k:IntKind}{a b:Int}(hb:b≠0):Hp P q (binS .rem t x y (.int k a) (.int k b)) K h ⟨⟩↔ValI (a.tmod b) (fun n=>K (.int k n) h) ⟨⟩:=by
 rw[ValI_iff]
 rw[hp_binS_int];simp[binOp,Op.intDiv,hp_pure,hb]
@[simp] theorem Hp_add_i64{t:TypeId}{x y:Operand}{a b:Int}(h0 : -9223372036854775808<=a+b)(h1:a+b<9223372036854775808):Hp P q (binS .add t x y (.int .i64 a) (.int .i64 b)) K h ⟨⟩↔ValI (a+b) (fun n=>K (.int .i64 n) h) ⟨⟩:=by
 rw[ValI_iff]
 rw[Hp_add,ValI_iff,wrap_i64 h0 h1]
@[simp] theorem Hp_sub_i64{t:TypeId}{x y:Operand}{a b:Int}(h0 : -9223372036854775808<=a-b)(h1:a-b<9223372036854775808):Hp P q (binS .sub t x y (.int .i64 a) (.int .i64 b)) K h ⟨⟩↔ValI (a-b) (fun n=>K (.int .i64 n) h) ⟨⟩:=by
 rw[ValI_iff]
 rw[Hp_sub,ValI_iff,wrap_i64 h0 h1]
@[simp] theorem Hp_mul_i64{t:TypeId}{x y:Operand}{a b:Int}(h0 : -9223372036854775808<=a*b)(h1:a*b<9223372036854775808):Hp P q (binS .mul t x y (.int .i64 a) (.int .i64 b)) K h ⟨⟩↔ValI (a*b) (fun n=>K (.int .i64 n) h) ⟨⟩:=by
 rw[ValI_iff]
 rw[Hp_mul,ValI_iff,wrap_i64 h0 h1]
@[simp] theorem Hp_add_u64{t:TypeId}{x y:Operand}{a b:Int}(h0:0<=a+b)(h1:a+b<18446744073709551616):Hp P q (binS .add t x y (.int .u64 a) (.int .u64 b)) K h ⟨⟩↔ValI (a+b) (fun n=>K (.int .u64 n) h) ⟨⟩:=by
 rw[ValI_iff]
 rw[Hp_add,ValI_iff,wrap_u64 h0 h1]
@[simp] theorem Hp_sub_u64{t:TypeId}{x y:Operand}{a b:Int}(h0:0<=a-b)(h1:a-b<18446744073709551616):Hp P q (binS .sub t x y (.int .u64 a) (.int .u64 b)) K h ⟨⟩↔ValI (a-b) (fun n=>K (.int .u64 n) h) ⟨⟩:=by
 rw[ValI_iff]
 rw[Hp_sub,ValI_iff,wrap_u64 h0 h1]
@[simp] theorem Hp_mul_u64{t:TypeId}{x y:Operand}{a b:Int}(h0:0<=a*b)(h1:a*b<18446744073709551616):Hp P q (binS .mul t x y (.int .u64 a) (.int .u64 b)) K h ⟨⟩↔ValI (a*b) (fun n=>K (.int .u64 n) h) ⟨⟩:=by
 rw[ValI_iff]
 rw[Hp_mul,ValI_iff,wrap_u64 h0 h1]
@[simp] theorem Hp_quo_i64{t:TypeId}{x y:Operand}{a b:Int}(hb:0<b)(h0:0<=a)(h1:a<9223372036854775808):Hp P q (binS .quo t x y (.int .i64 a) (.int .i64 b)) K h ⟨⟩↔ValI (a/b) (fun n=>K (.int .i64 n) h) ⟨⟩:=by
 rw[ValI_iff]
 rw[Hp_quo omg,ValI_iff,Int.tdiv_eq_ediv_of_nonneg h0,wrap_i64]
 ·have:=Int.ediv_nonneg h0 (show 0<=b by omega);omega
 ·have:=Int.ediv_le_self b h0;omega
@[simp] theorem Hp_quo_u64{t:TypeId}{x y:Operand}{a b:Int}(hb:0<b)(h0:0<=a)(h1:a<18446744073709551616):Hp P q (binS .quo t x y (.int .u64 a) (.int .u64 b)) K h ⟨⟩↔ValI (a/b) (fun n=>K (.int .u64 n) h) ⟨⟩:=by
 rw[ValI_iff]
 rw[Hp_quo omg,ValI_iff,Int.tdiv_eq_ediv_of_nonneg h0,wrap_u64]
 ·exact Int.ediv_nonneg h0 (show 0<=b by omega)
 ·have:=Int.ediv_le_self b h0;omega
@[simp] theorem Hp_rem_nn{t:TypeId}{x y:Operand}{k:IntKind}{a b:Int}(hb:0<b)(h0:0<=a):Hp P q (binS .rem t x y (.int k a) (.int k b)) K h ⟨⟩↔ValI (a%b) (fun n=>K (.int k n) h) ⟨⟩:=by
 rw[ValI_iff]
 rw[Hp_rem omg,ValI_iff,Int.tmod_eq_emod_of_nonneg h0]

theorem Hp_and{t:TypeId}{x y:Operand}{k:IntKind}{a b:Int}:Hp P q (binS .and t x y (.int k a) (.int k b)) K h ⟨⟩↔ValI (k.wrap (BitVec.ofInt k.bits a &&& BitVec.ofInt k.bits b).toNat) (fun n=>K (.int k n) h) ⟨⟩:=by
 rw[ValI_iff]
 rw[hp_binS_int];simp[binOp,Op.intBits,hp_pure]
theorem Hp_or{t:TypeId}{x y:Operand}{k:IntKind}{a b:Int}:Hp P q (binS .or t x y (.int k a) (.int k b)) K h ⟨⟩↔ValI (k.wrap (BitVec.ofInt k.bits a ||| BitVec.ofInt k.bits b).toNat) (fun n=>K (.int k n) h) ⟨⟩:=by
 rw[ValI_iff]
 rw[hp_binS_int];simp[binOp,Op.intBits,hp_pure]
theorem Hp_xor{t:TypeId}{x y:Operand}{k:IntKind}{a b:Int}:Hp P q (binS .xor t x y (.int k a) (.int k b)) K h ⟨⟩↔ValI (k.wrap (BitVec.ofInt k.bits a ^^^ BitVec.ofInt k.bits b).toNat) (fun n=>K (.int k n) h) ⟨⟩:=by
 rw[ValI_iff]
 rw[hp_binS_int];simp[binOp,Op.intBits,hp_pure]
theorem Hp_andNot{t:TypeId}{x y:Operand}{k:IntKind}{a b:Int}:Hp P q (binS .andNot t x y (.int k a) (.int k b)) K h ⟨⟩↔ValI (k.wrap (BitVec.ofInt k.bits a &&& ~~~BitVec.ofInt k.bits b).toNat) (fun n=>K (.int k n) h) ⟨⟩:=by
 rw[ValI_iff]
 rw[hp_binS_int];simp[binOp,Op.intBits,hp_pure]
theorem Hp_shl{t:TypeId}{x y:Operand}{k k':IntKind}{a b:Int}(hb:0<=b):Hp P q (binS .shl t x y (.int k a) (.int k' b)) K h ⟨⟩↔ValI (k.wrap (a*2^min b.toNat k.bits)) (fun n=>K (.int k n) h) ⟨⟩:=by
 rw[ValI_iff]
 rw[Hp_iff]
 have:¬b<0:=by omega
 show hp P q (do eqGuard .shl t x y (.int k a) (.int k' b);binOp .shl t (.int k a) (.int k' b)) K h↔_
 simp[binOp,Op.shift,this,eqGuard,hp_pure]
theorem Hp_shr{t:TypeId}{x y:Operand}{k k':IntKind}{a b:Int}(hb:0<=b):Hp P q (binS .shr t x y (.int k a) (.int k' b)) K h ⟨⟩↔ValI (a.fdiv (2^min b.toNat k.bits)) (fun n=>K (.int k n) h) ⟨⟩:=by
 rw[ValI_iff]
 rw[Hp_iff]
 have:¬b<0:=by omega
 show hp P q (do eqGuard .shr t x y (.int k a) (.int k' b);binOp .shr t (.int k a) (.int k' b)) K h↔_
 simp[binOp,Op.shift,this,eqGuard,hp_pure]

theorem bool_split{p:Prop}[Decidable p]:K (.bool (decide p)) h↔Split p (K (.bool true) h) (K (.bool false) h) ⟨⟩ ⟨⟩:=by
 by_cases hp:p
 ·rw[decide_eq_true hp,Split_yes hp]
 ·rw[decide_eq_false hp,Split_no hp]

theorem Hp_eql{t:TypeId}{x y:Operand}{k:IntKind}{a b:Int}:Hp P q (binS .eql t x y (.int k a) (.int k b)) K h ⟨⟩↔K (.bool (decide (a=b))) h:=by
 rw[hp_binS_int];simp[binOp,Op.intCmp,hp_pure];rfl
theorem Hp_neq{t:TypeId}{x y:Operand}{k:IntKind}{a b:Int}:Hp P q (binS .neq t x y (.int k a) (.int k b)) K h ⟨⟩↔K (.bool (!decide (a=b))) h:=by
 rw[hp_binS_int];simp[binOp,Op.intCmp,hp_pure];rfl
theorem Hp_lss{t:TypeId}{x y:Operand}{k:IntKind}{a b:Int}:Hp P q (binS .lss t x y (.int k a) (.int k b)) K h ⟨⟩↔K (.bool (decide (a<b))) h:=by
 rw[hp_binS_int];simp[binOp,Op.intCmp,hp_pure]
theorem Hp_leq{t:TypeId}{x y:Operand}{k:IntKind}{a b:Int}:Hp P q (binS .leq t x y (.int k a) (.int k b)) K h ⟨⟩↔K (.bool (decide (a<=b))) h:=by
 rw[hp_binS_int];simp[binOp,Op.intCmp,hp_pure]
theorem Hp_gtr{t:TypeId}{x y:Operand}{k:IntKind}{a b:Int}:Hp P q (binS .gtr t x y (.int k a) (.int k b)) K h ⟨⟩↔K (.bool (decide (b<a))) h:=by
 rw[hp_binS_int];simp[binOp,Op.intCmp,hp_pure]
theorem Hp_geq{t:TypeId}{x y:Operand}{k:IntKind}{a b:Int}:Hp P q (binS .geq t x y (.int k a) (.int k b)) K h ⟨⟩↔K (.bool (decide (b<=a))) h:=by
 rw[hp_binS_int];simp[binOp,Op.intCmp,hp_pure]
@[simp] theorem Hp_eql_s{t:TypeId}{x y:Operand}{k:IntKind}{a b:Int}:Hp P q (binS .eql t x y (.int k a) (.int k b)) K h ⟨⟩↔Split (a=b) (K (.bool true) h) (K (.bool false) h) ⟨⟩ ⟨⟩:=Hp_eql.trans bool_split
@[simp] theorem Hp_neq_s{t:TypeId}{x y:Operand}{k:IntKind}{a b:Int}:Hp P q (binS .neq t x y (.int k a) (.int k b)) K h ⟨⟩↔Split (a=b) (K (.bool false) h) (K (.bool true) h) ⟨⟩ ⟨⟩:=by
 rw[Hp_neq];by_cases e:a=b<;>simp[e]
@[simp] theorem Hp_lss_s{t:TypeId}{x y:Operand}{k:IntKind}{a b:Int}:Hp P q (binS .lss t x y (.int k a) (.int k b)) K h ⟨⟩↔Split (a<b) (K (.bool true) h) (K (.bool false) h) ⟨⟩ ⟨⟩:=Hp_lss.trans bool_split
@[simp] theorem Hp_leq_s{t:TypeId}{x y:Operand}{k:IntKind}{a b:Int}:Hp P q (binS .leq t x y (.int k a) (.int k b)) K h ⟨⟩↔Split (a<=b) (K (.bool true) h) (K (.bool false) h) ⟨⟩ ⟨⟩:=Hp_leq.trans bool_split
@[simp] theorem Hp_gtr_s{t:TypeId}{x y:Operand}{k:IntKind}{a b:Int}:Hp P q (binS .gtr t x y (.int k a) (.int k b)) K h ⟨⟩↔Split (b<a) (K (.bool true) h) (K (.bool false) h) ⟨⟩ ⟨⟩:=Hp_gtr.trans bool_split
@[simp] theorem Hp_geq_s{t:TypeId}{x y:Operand}{k:IntKind}{a b:Int}:Hp P q (binS .geq t x y (.int k a) (.int k b)) K h ⟨⟩↔Split (b<=a) (K (.bool true) h) (K (.bool false) h) ⟨⟩ ⟨⟩:=Hp_geq.trans bool_split

@[simp] theorem Hp_not{b:Bool}:Hp P q (Op.unary .not (.bool b)) K h ⟨⟩↔ValT (!b) (fun b=>K (.bool b) h) ⟨⟩:=by rw[Hp_iff,ValT_iff];rfl
@[simp] theorem Hp_neg{k:IntKind}{a:Int}:Hp P q (Op.unary .neg (.int k a)) K h ⟨⟩↔ValI (k.wrap (0-a)) (fun n=>K (.int k n) h) ⟨⟩:=by
 rw[ValI_iff]
 rw[Hp_iff];rfl
@[simp] theorem Hp_pick_t{a b:Value}:Hp P q (pickS (.bool true) a b) K h ⟨⟩↔K a h:=by rw[Hp_iff];rfl
@[simp] theorem Hp_pick_f{a b:Value}:Hp P q (pickS (.bool false) a b) K h ⟨⟩↔K b h:=by rw[Hp_iff];rfl
@[simp] theorem Hp_extract0{a:Value}{l:List Value}:Hp P q (Instr.extract (.tuple (List.toArray (a::l))) 0) K h ⟨⟩↔K a h:=by rw[Hp_iff];rfl
@[simp] theorem Hp_extract1{a b:Value}{l:List Value}:Hp P q (Instr.extract (.tuple (List.toArray (a::b::l))) 1) K h ⟨⟩↔K b h:=by rw[Hp_iff];rfl
@[simp] theorem Hp_extract2{a b c:Value}{l:List Value}:Hp P q (Instr.extract (.tuple (List.toArray (a::b::c::l))) 2) K h ⟨⟩↔K c h:=by rw[Hp_iff];rfl
@[simp] theorem Hp_pure{v:Value}:Hp P q (pure v) K h ⟨⟩↔K v h:=by rw[Hp_iff];rfl
@[simp] theorem Hp_nil_ptr{a:Addr}:Hp P q (nilS (.pointer (some a))) K h ⟨⟩↔K (.pointer (some a)) h:=by rw[Hp_iff];rfl

/-! ### Cells -/
@[simp] theorem hset_size(a:Addr)(v:Value):(hset h a v).size=h.size:=by simp[hset]
theorem hcell_lt{a:Addr}{v:Value}(hc:hcell h a=some v):a.block<h.size:=by
 unfold hcell at hc
 rcases Nat.lt_or_ge a.block h.size with x|x
 ·exact x
 ·rw[Array.getElem?_eq_none x]at hc;cases hc
theorem hfrozen_of_ext{h':Heap}(e:Ext h h'){a:Addr}(hb:a.block<h.size):hfrozen h' a=hfrozen h a:=by
 unfold hfrozen;rw[e.block _ hb]
theorem hcell_set_same{a:Addr}{v w:Value}(hc:hcell h a=some w):hcell (hset h a v) a=some v:=by
 unfold hcell at *
 unfold hset
 cases ho:h[a.block]? with
 | none=>rw[ho]at hc;cases hc
 | some o =>
  rw[ho]at hc
  cases o<;>simp only[reduceCtorEq]at hc
  rename_i c e fz
  rw[Array.getElem?_modify,if_pos rfl,ho]
  simp only[Option.map_some]
  split at hc
  ·cases hc
  ·rename_i hs
   simp only[hs,Bool.false_eq_true,if_false]
   have:a.off<c.size:=(Array.getElem?_eq_some_iff.1 hc).1
   simp[this]
theorem hcell_set_other{a b:Addr}{v:Value}(hne:a≠b):hcell (hset h a v) b=hcell h b:=by
 unfold hcell hset
 rw[Array.getElem?_modify]
 by_cases hb:a.block=b.block
 ·rw[if_pos hb]
  cases ho:h[b.block]? with
  | none=>rfl
  | some o =>
   cases o<;>try rfl
   rename_i c e fz
   simp only[Option.map_some]
   by_cases hs:a.spot.isSome=true
   ·simp only[hs,if_true]
   ·simp only[hs]
    by_cases hsb:b.spot.isSome=true
    ·simp only[hsb,if_true]
    ·simp only[hsb]
     have hoff:a.off≠b.off:=by
      intro e
      obtain⟨ab,ao,as⟩:=a
      obtain⟨bb,bo,bs⟩:=b
      cases as<;>cases bs<;>simp_all
     simp[hoff]
 ·rw[if_neg hb]
theorem hfrozen_set{a b:Addr}{v:Value}:hfrozen (hset h a v) b=hfrozen h b:=by
 unfold hfrozen hset
 rw[Array.getElem?_modify]
 by_cases hb:a.block=b.block
 ·rw[if_pos hb]
  cases ho:h[b.block]? with
  | none=>rfl
  | some o=>cases o<;>rfl
 ·rw[if_neg hb]
theorem hset_ext{a:Addr}{v:Value}{h₀:Heap}(e:Ext h₀ h)(hb:h₀.size<=a.block):Ext h₀ (hset h a v) :=
 ⟨by simpa using e.size,fun b hlt=>by
  rw[<-e.block b hlt];unfold hset;rw[Array.getElem?_modify,if_neg omg]⟩
theorem push_ext{o:Obj}{h₀:Heap}(e:Ext h₀ h):Ext h₀ (h.push o) :=
 ⟨by have:=e.size;simp;omega,fun b hlt=>by
  have:=e.size
  rw[<-e.block b hlt,Array.getElem?_push,if_neg omg]⟩
end
end Go.Vc

namespace Go.Vc
open Go
section
variable {P:Program}{q:Bool}{K:VP}{h:Heap}

/-! ### Loads and stores -/
def optP(o:Option Value)(k:Value->Prop):Prop:=match o with|some v=>k v|none=>False
structure LoadP (o:Option Value) (k:Value->Prop) (u:Un k):Prop where
 out:optP o k
@[simp ↓] theorem LoadP_some{v:Value}{k:Value->Prop}:LoadP (some v) k ⟨⟩↔k v:=⟨fun x=>x.out,fun x=>⟨x⟩⟩
structure StoreP (o:Option Value) (fz:Bool) (X:Prop) (u:Un X):Prop where
 there:o.isSome=true
 free:fz=false
 out:X
@[simp ↓] theorem StoreP_some{v:Value}{X:Prop}:StoreP (some v) false X ⟨⟩↔X:=⟨fun s=>s.out,fun x=>⟨rfl,rfl,x⟩⟩

def scal(P:Program)(t:TypeId):Bool:=match P.underlying t with|some (.struct _)|some (.array _ _)|none=>false|some _=>true
def aggB(P:Program)(t:TypeId):Bool:=match P.underlying t with|some (.struct _)|some (.array _ _)=>true|_=>false
def sz(P:Program)(t:TypeId):Nat:=match P.info? t with|some i=>i.size|none=>0
def fieldOff(P:Program)(s:TypeId)(f:Nat):Option Nat :=
 match P.underlying s with
 | some (.struct fs)=>match fs[f]? with
  | some fd=>if sz P fd.type=0 then none else some fd.offset
  | none=>none
 | _=>none

theorem hp_underlying{t:TypeId}{K:TypeDesc->Heap->Prop}{d:TypeDesc}(e:P.underlying t=some d):hp P q (underlying t) K h↔K d h:=by
 show hp P q (match P.underlying t with | some d => pure d | none => stuck "no such type") K h ↔ _
 rw[e];exact Iff.rfl
theorem hp_isAgg{t:TypeId}{K:Bool->Heap->Prop}{d:TypeDesc}(e:P.underlying t=some d):hp P q (isAgg t) K h↔K (match d with | .struct _ | .array _ _=>true|_=>false) h:=by
 unfold isAgg
 rw[hp_bind',hp_underlying e]
 cases d<;>exact Iff.rfl
theorem hp_info{t:TypeId}{K:TypeInfo->Heap->Prop}{i:TypeInfo}(e:P.info? t=some i):hp P q (typeInfo t) K h↔K i h:=by
 show hp P q (match P.info? t with | some i => pure i | none => stuck "no such type") K h ↔ _
 rw[e];exact Iff.rfl
theorem hp_sizeOf{t:TypeId}{K:Nat->Heap->Prop}{i:TypeInfo}(e:P.info? t=some i):hp P q (sizeOf t) K h↔K i.size h:=by
 unfold sizeOf
 rw[hp_bind',hp_info e];exact Iff.rfl
theorem hp_load{a:Addr}{K:VP}:hp P q (load a) K h↔LoadP (hcell h a) (fun v=>K v h) ⟨⟩:=by
 have e:hp P q (load a) K h↔optP (hcell h a) (fun v=>K v h):=by
  unfold load optP
  simp only[hp]
  cases hcell h a<;>exact Iff.rfl
 exact⟨fun x=>⟨e.1 x⟩,fun x=>e.2 x.out⟩

theorem Hp_load{t:TypeId}{a:Addr}(ht:scal P t=true):Hp P q (Instr.loadAt t (.pointer (some a))) K h ⟨⟩↔LoadP (hcell h a) (fun v=>K v h) ⟨⟩:=by
 rw[Hp_iff]
 unfold scal at ht
 show hp P q (loadVar t a) K h↔_
 unfold loadVar
 rw[hp_bind']
 cases e:P.underlying t with
 | none=>rw[e]at ht;cases ht
 | some d =>
  rw[hp_isAgg e]
  rw[e]at ht
  cases d<;>first|(cases ht;done)|exact hp_load

def loadsP(h:Heap)(a:Addr):Nat->Nat->(List Value->Prop)->Prop
 | _,0,k=>k []
 | i,n+1,k=>LoadP (hcell h (a.add i)) (fun v=>loadsP h a (i+1) n fun vs=>k (v::vs)) ⟨⟩

theorem hp_loadCells{a:Addr}:∀(n i:Nat) (acc:Array Value) (K:Array Value->Heap->Prop),hp P q (loadCellsFrom a i n acc) K h↔loadsP h a i n fun vs=>K (acc++vs.toArray) h
 | 0,i,acc,K=>by simp only[loadCellsFrom,loadsP,hp_pure];simp
 | n+1,i,acc,K=>by
  unfold loadCellsFrom loadsP
  rw[hp_bind',hp_load]
  cases e:hcell h (a.add i) with
  | none=>exact⟨fun x=>x.out.elim,fun x=>x.out.elim⟩
  | some v =>
   rw[LoadP_some,LoadP_some,hp_loadCells n (i+1)]
   simp

theorem Hp_loadAgg{t:TypeId}{a:Addr}{n:Nat}(ht:aggB P t=true)(hn:sz P t=n):Hp P q (Instr.loadAt t (.pointer (some a))) K h ⟨⟩↔loadsP h a 0 n fun vs=>K (.agg vs.toArray) h:=by
 rw[Hp_iff]
 unfold aggB at ht
 unfold sz at hn
 show hp P q (loadVar t a) K h↔_
 unfold loadVar
 rw[hp_bind']
 cases e:P.underlying t with
 | none=>rw[e]at ht;cases ht
 | some d =>
  rw[hp_isAgg e]
  rw[e]at ht
  cases ei:P.info? t with
  | none=>unfold Program.underlying at e;rw[ei]at e;cases e
  | some i =>
   rw[ei]at hn
   subst hn
   cases d<;>first
    | (cases ht;done)
    | (simp only [if_true]
       rw[hp_bind',hp_sizeOf ei,hp_bind']
       show hp P q (loadCellsFrom a 0 i.size #[]) _ h↔_
       rw[hp_loadCells]
       simp only[hp_pure]
       simp)

theorem loadsP_add0{a:Addr}{n:Nat}{k:List Value->Prop}:loadsP h a 0 (n+1) k↔LoadP (hcell h a) (fun v=>loadsP h a 1 n fun vs=>k (v::vs)) ⟨⟩:=Iff.rfl
@[simp ↓] theorem loadsP_zero{a:Addr}{i:Nat}{k:List Value->Prop}:loadsP h a i 0 k↔k []:=Iff.rfl
@[simp ↓] theorem loadsP_succ{a:Addr}{i n:Nat}{k:List Value->Prop}:loadsP h a i (n+1) k↔LoadP (hcell h (a.add i)) (fun v=>loadsP h a (i+1) n fun vs=>k (v::vs)) ⟨⟩:=Iff.rfl

def storesP(a:Addr):Nat->List Value->(Heap->Prop)->Heap->Prop
 | _,[],k,h=>k h
 | i,v::vs,k,h=>StoreP (hcell h (a.add i)) (hfrozen h (a.add i)) (storesP a (i+1) vs k (hset h (a.add i) v)) ⟨⟩
@[simp ↓] theorem storesP_nil{a:Addr}{i:Nat}{k:Heap->Prop}:storesP a i [] k h↔k h:=Iff.rfl
@[simp ↓] theorem storesP_cons{a:Addr}{i:Nat}{v:Value}{vs:List Value}{k:Heap->Prop}:storesP a i (v::vs) k h↔StoreP (hcell h (a.add i)) (hfrozen h (a.add i)) (storesP a (i+1) vs k (hset h (a.add i) v)) ⟨⟩:=Iff.rfl

theorem hp_storeCells{a:Addr}:∀(vs:List Value) (i:Nat) (K:Unit->Heap->Prop) (h:Heap),(∀v∈vs,one v=true)->(hp P false (storeCells a vs i) K h↔storesP a i vs (K ()) h)
 | [],i,K,h,_=>Iff.rfl
 | v::vs,i,K,h,ho=>by
  unfold storeCells
  rw[hp_bind']
  show (_=_/\one v=true/\(hcell h (a.add i)).isSome=true/\hfrozen h (a.add i)=false/\hp P false (storeCells a vs (i+1)) K (hset h (a.add i) v))↔_
  rw[hp_storeCells vs (i+1) K _ (fun u hu=>ho u (List.mem_cons_of_mem _ hu)),storesP_cons]
  exact⟨fun ⟨_,_,c,d,e⟩=>⟨c,d,e⟩,fun ⟨c,d,e⟩=>⟨rfl,ho v (List.mem_cons_self ..),c,d,e⟩⟩

theorem Hp_store{t:TypeId}{a:Addr}{v:Value}(ht:sz P t=1)(hv:one v=true):Hp P false (storeS t (.pointer (some a)) v) K h ⟨⟩↔StoreP (hcell h a) (hfrozen h a) (K undef (hset h a v)) ⟨⟩:=by
 rw[Hp_iff]
 unfold sz at ht
 cases ei:P.info? t with
 | none=>rw[ei]at ht;cases ht
 | some i =>
  rw[ei]at ht
  simp only at ht
  have hc:v.cells = #[v]:=by cases v<;>first|rfl|(simp[one]at hv)
  show hp P false (do storeVar t a v;pure undef) K h↔_
  unfold storeVar
  rw[hp_bind',hp_bind',hp_sizeOf ei]
  simp only[hc,ht]
  simp only[List.size_toArray,List.length_cons,List.length_nil,Nat.zero_add,ne_eq,not_true_eq_false,if_false]
  rw[hp_storeCells _ _ _ _ (by simp[hv])]
  exact Iff.rfl

theorem Hp_storeAgg{t:TypeId}{a:Addr}{vs:List Value}(ht:(P.info? t).map (·.size)=some vs.length)(hv:∀v∈vs,one v=true):Hp P false (storeS t (.pointer (some a)) (.agg vs.toArray)) K h ⟨⟩↔storesP a 0 vs (K undef) h:=by
 rw[Hp_iff]
 show hp P false (do storeVar t a (.agg vs.toArray);pure undef) K h↔_
 cases ei:P.info? t with
 | none=>rw[ei]at ht;cases ht
 | some i =>
  rw[ei]at ht
  simp only[Option.map_some,Option.some.injEq]at ht
  unfold storeVar
  rw[hp_bind',hp_bind',hp_sizeOf ei]
  simp only[Value.cells,ht,List.size_toArray,ne_eq,not_true_eq_false,if_false]
  rw[hp_storeCells _ _ _ _ (by simpa using hv)]
  simp only[hp_pure]

theorem Hp_box{t:TypeId}{v:Value}:Hp P false (Instr.box t v) K h ⟨⟩↔ValT h.size (fun b=>ValT (h.push (.cells v.cells t)) (fun h'=>K (.pointer (some ⟨b,0,none⟩)) h') ⟨⟩) ⟨⟩:=by
 rw[Hp_iff,ValT_iff,ValT_iff]
 show (_=_/\K _ _)↔_
 simp

theorem Hp_alloc{t:TypeId}{z:Value}{i:TypeInfo}(e:P.info? t=some i)(ez:i.zero=some z):Hp P false (Instr.alloc t true undef) K h ⟨⟩↔K (.pointer (some ⟨h.size,0,none⟩)) (h.push (.cells z.cells t)):=by
 rw[Hp_iff]
 show hp P false (do let zero <-zeroValue t;pure (.pointer (some (<-newVar t zero)))) K h↔_
 unfold zeroValue
 rw[hp_bind',hp_bind',hp_info e]
 simp only[ez,hp_pure]
 show (_=_/\K _ _)↔_
 simp

theorem Hp_field{s f off:Nat}{a:Addr}(hf:fieldOff P s f=some off):Hp P q (Instr.fieldAt s (.pointer (some a)) f) K h ⟨⟩↔K (.pointer (some (a.add off))) h:=by
 rw[Hp_iff]
 unfold fieldOff at hf
 cases e:P.underlying s with
 | none=>rw[e]at hf;cases hf
 | some d =>
  rw[e]at hf
  cases d<;>simp only[reduceCtorEq]at hf
  rename_i fs
  cases ef:fs[f]? with
  | none=>rw[ef]at hf;cases hf
  | some fd =>
   rw[ef]at hf
   simp only at hf
   split at hf
   ·cases hf
   ·rename_i hz
    simp only[Option.some.injEq]at hf
    unfold sz at hz
    cases ei:P.info? fd.type with
    | none=>rw[ei]at hz;exact absurd rfl hz
    | some i =>
     rw[ei]at hz
     unfold Instr.fieldAt
     rw[hp_bind',hp_underlying e]
     simp only[ef]
     show hp P q (do let a <-Instr.sureAddr (.pointer (some a));pure (.pointer (some (<-fieldPlace a fd)))) K h↔_
     rw[hp_bind']
     show hp P q (do pure (.pointer (some (<-fieldPlace a fd)))) K h↔_
     unfold fieldPlace
     rw[hp_bind',hp_bind',hp_sizeOf ei]
     simp only at hz
     rw[if_neg hz,<-hf]
     exact Iff.rfl

@[simp] theorem ite_nat_ne{α:Type _}{a b:Nat}{x y:α}{d:Decidable (a=b)}(hn:¬a=b):@ite α (a=b) d x y=y:=if_neg hn
def objCell(o:Obj)(a:Addr):Option Value:=match o with | .cells c _ _=>if a.spot.isSome then none else c[a.off]? | _=>none
def objFrozen(o:Obj)(a:Addr):Bool:=match o with | .cells _ _ (lo,hi)=>lo<=a.off&&a.off<hi|_=>false
theorem hcell_push_if(o:Obj)(a:Addr):hcell (h.push o) a=if a.block=h.size then objCell o a else hcell h a:=by
 by_cases e:a.block=h.size
 ·rw[if_pos e]
  unfold hcell objCell
  rw[Array.getElem?_push,if_pos e]
  cases o<;>rfl
 ·rw[if_neg e]
  unfold hcell
  rw[Array.getElem?_push,if_neg e]
theorem hfrozen_push_if(o:Obj)(a:Addr):hfrozen (h.push o) a=if a.block=h.size then objFrozen o a else hfrozen h a:=by
 by_cases e:a.block=h.size
 ·rw[if_pos e]
  unfold hfrozen objFrozen
  rw[Array.getElem?_push,if_pos e]
  cases o<;>rfl
 ·rw[if_neg e]
  unfold hfrozen
  rw[Array.getElem?_push,if_neg e]
theorem hcell_set_if(a b:Addr)(v:Value):hcell (hset h a v) b=if a=b then (hcell h b).map (fun _=>v) else hcell h b:=by
 split
 ·rename_i e
  subst e
  cases hc:hcell h a with
  | none =>
   unfold hcell at *
   unfold hset
   rw[Array.getElem?_modify,if_pos rfl]
   cases ho:h[a.block]? with
   | none=>rfl
   | some o =>
    rw[ho]at hc
    cases o<;>try rfl
    rename_i c e fz
    simp only[Option.map_some]
    by_cases hs:a.spot.isSome=true
    ·simp only[hs,if_true];rfl
    ·simp only[hs,Bool.false_eq_true,if_false]at hc ⊢
     have:=Array.getElem?_eq_none_iff.1 hc
     rw[Array.getElem?_eq_none (by simpa using this)];rfl
  | some w=>rw[hcell_set_same hc];rfl
 ·rename_i e;exact hcell_set_other e
end
end Go.Vc

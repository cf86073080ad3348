/- Lemmas: what the functions do. -/
import Derived.Test.YtdccfkffabngjaaGreatGpI
import Derived.Test.YtdccfkffabngjaaGreatOpen
set_option linter.unusedSimpArgs false
set_option linter.unusedVariables false
set_option maxRecDepth 20000
namespace Go.Proofs.YtdccfkffabngjaaGreat
open Go.Vc
section
variable {K:VP}{h:Heap}
def inV(n:Int):Value:=.int .i64 n
structure Its (h:Heap) (v:Value) (l:List Int):Prop where
 src:Src 1 h v l.length (l.map inV)
 form:∃a c,v = .slice a l.length c/\l.length<=c
 few:l.length<9223372036854775808
 ok:∀n∈l,-9223372036854775808<=n/\n<9223372036854775808
theorem Its.ext{h':Heap}{v:Value}{l:List Int}(a:Its h v l)(e:Ext h h'):Its h' v l:=⟨a.src.ext e,a.form,a.few,a.ok⟩
theorem Its.seg{v:Value}{l:List Int}(a:Its h v l)(hl:l≠[]):∃ad c,v = .slice (some ad) l.length c/\l.length<=c/\Seg h ad (l.map inV):=by
 obtain⟨a0,c,rfl,hc⟩:=a.form
 rcases a.src with ⟨e,e2,e3⟩|⟨ad,c',e,e2,hs⟩|⟨l,e,-⟩
 ·exact absurd (List.length_eq_zero_iff.1 e3) hl
 ·cases e;exact⟨ad,c,rfl,hc,hs⟩
 ·cases e
theorem Its.cell{v:Value}{l:List Int}(a:Its h v l){i:Nat}(hi:i<l.length):∃ad c,v = .slice (some ad) l.length c/\l.length<=c/\hcell h (elt ad i)=some (.int .i64 l[i]):=by
 obtain⟨ad,c,h1,h2,h3⟩:=a.seg (by intro e;rw[e]at hi;simp at hi)
 refine⟨ad,c,h1,h2,(h3 i (by simpa using hi)).trans ?_⟩
 simp[inV]
theorem Its.tail{k:Int}{l:List Int}{ad:Addr}{c:Nat}(a:Its h (.slice (some ad) (l.length+1) c) (k::l)):Its h (.slice (some (sub ad 1 c)) l.length (c-1)) l:=by
 obtain⟨a0,c0,he,hc⟩:=a.form
 cases he
 refine⟨.inr (.inl ⟨_,_,rfl,by simp,?_⟩),⟨_,_,rfl,by simp at hc;omega⟩,by have:=a.few;simp at this;omega,fun n hn=>a.ok n (List.mem_cons_of_mem _ hn)⟩
 obtain⟨ad',c',he,-,hs⟩:=a.seg sM
 cases he
 have:=hs.part 1 (l.length+1) c omg sM (by simpa using hc)
 have e:((k::l).map inV).take (l.length+1)=(k::l).map inV:=List.take_of_length_le sM
 rw[e]at this
 simpa using this
def pickB:List Int->Bool
 | []=>false
 | k::_=>decide (k%2=1)
def isT:Nat:=68
theorem nextp_c{q:Nat}{v:Value}{ks:List Int}(hq:h[q]? = some (.cells #[v] isT))(hk:Its h v ks)(h0:∀k∈ks,0<=k)(H:∀h' v',h'[q]? = some (.cells #[v'] isT)->(∀g,Its g v ks->Its g v' ks.tail)->Mod (· = q) h h'->K (.bool (pickB ks)) h') :
 InvokeH Tryz.prog (.func (.func 69) #[] #[ptrV q]) #[] h K ⟨⟩:=by
 refine InvokeH_func kR ?_
 show CallsH _ _ #[ptrV q] _ _ _
 refine n69_calls ?_
 unfold n69 ptrV;try delta vF vG vC vD vJ vV vk vt
 have c0:=cellOf (i:=0) hq rfl
 have f0:=frzOf (i:=0) hq
 cases ks with
 | nil =>
  obtain⟨a0,c,rfl,hc⟩:=hk.form
  simp(disch:=omega)[c0]
  exact H h _ hq (fun g hg=>hg) (.refl _ _)
 | cons k ks =>
  have hfew:=hk.few
  have hk0:=hk.ok k List.mem_cons_self
  have hk1:=h0 k List.mem_cons_self
  obtain⟨ad,c,rfl,hc,hcl⟩:=hk.cell (i:=0) sM
  simp only[List.length_cons]at hfew hc hk hq c0
  have hcl:hcell h ad=some (.int .i64 k):=by simpa using hcl
  simp(disch:=omega)[c0,f0,hcl]
  have:=H _ _ (obj_set (i:=0) (v:=.slice (some (sub ad 1 c)) ks.length (c-1)) hq) (fun g hg=>Its.tail hg) (Mod.set h ⟨q,0,none⟩ _)
  refine Split.mk (fun e=>?_) (fun e=>?_)
  ·simp only[pickB,decide_eq_true e]at this;exact this
  ·simp only[pickB,decide_eq_false e]at this;exact this
theorem IndexI_c{v:Value}{f:Value}{l:List Int}(a:Its h v l)(pr:Int->Bool)(hf:∀(n:Int) (g:Heap) (K:VP),-9223372036854775808<=n/\n<9223372036854775808->K (.bool (pr n)) g->InvokeH Tryz.prog f #[.int .i64 n] g K ⟨⟩)
 (H:K (.bool (l.any pr)) h):CallsH Tryz.prog 67 #[v,f] h K ⟨⟩:=by
 refine n67_calls ?_
 unfold n67;try delta vF vG vC vD vJ vV vk vt
 refine n118_calls ?_
 unfold n118;try delta vF vG vC vD vJ vV vk vt
 obtain⟨a0,c,rfl,hc⟩:=a.form
 have hfew:=a.few
 simp(disch:=omega)
 refine loopX1 (α:=Nat) (fun i=>.int .i64 i) (fun i g=>i<=l.length/\g=h/\∀j (hj:j<l.length),j<i->pr l[j]=false) (fun i=>l.length-i) 0 rfl ⟨Nat.zero_le _,rfl,fun j _ hj=>by omega⟩ ?_
 rintro i g ⟨hi,rfl,hr⟩ X hX
 by_cases hin:i<l.length
 ·obtain⟨ad,c',hv,-,q1⟩:=a.cell hin
  cases hv
  simp(disch:=omega)[q1]
  refine hf _ _ _ (a.ok _ (List.getElem_mem hin)) ?_
  cases hb:pr l[i]with
  | false =>
   simp(disch:=omega)
   refine hX (i+1) _ _ sM ⟨hin,rfl,fun j hj hji=>?_⟩ omg
   by_cases e:j=i
   ·subst e;exact hb
   ·exact hr j hj omg
  | true =>
   have:l.any pr=true:=List.any_eq_true.2 ⟨l[i],List.getElem_mem hin,hb⟩
   rw[this]at H
   simp(disch:=omega)
   exact H
 ·obtain rfl:i=l.length:=by omega
  have:l.any pr=false:=by
   rw[List.any_eq_false]
   intro f hf
   obtain⟨j,hj,rfl⟩:=List.getElem_of_mem hf
   simp[hr j hj hj]
  rw[this]at H
  simp(disch:=omega)
  exact H
theorem neg_c(n:Int)(g:Heap)(K:VP)(hn : -9223372036854775808<=n/\n<9223372036854775808)(H:K (.bool (decide (n<0))) g):InvokeH Tryz.prog (.func (.func 68) #[] #[]) #[.int .i64 n] g K ⟨⟩:=by
 refine InvokeH_f1 kR ?_
 refine n68_calls ?_
 unfold n68;try delta vF vG vC vD vJ vV vk vt
 by_cases e:n<0
 ·rw[decide_eq_true e]at H
  simp(disch:=omega)[e]
  exact H
 ·rw[decide_eq_false e]at H
  simp(disch:=omega)[e]
  exact H
theorem StAt.addG{p n:Nat}{s:St}{h2:Heap}{x:Fh}(a:StAt h p s)(hn:∀b,s.foot p b->b<n)(hn2:∀y∈s.F,∀q∈y.qs,∀b,blkV q.2=some b->b<n)(hx:FlAt h x)(hq:x.qs=[])(ho:∀b,x.own b->n<=b)(hl:okName x.name)(hg:∀y∈s.F,y.name≠x.name)(hf:s.F.length<256)
 (hm:MapK str h2 s.m (upd x.name (ptrV x.b) s.keys)) (m:Mod (· = s.m) h h2):StAt h2 p { s with F:=s.F++[x] }/\∀b,St.foot { s with F:=s.F++[x] } p b->s.foot p b\/x.own b:=by
 have hml:=hn s.m (.inr (.inl rfl))
 have hmn:p≠s.m:=fun e=>by
  obtain⟨es,cl,hm⟩:=mapCell a.map
  rw[<-e,a.cells]at hm;cases hm
 have hk:upd x.name (ptrV x.b) s.keys=St.keys { s with F:=s.F++[x] }:=by
  rw[upd_new]
  ·unfold St.keys;simp
  ·intro q hq
   unfold St.keys at hq
   obtain⟨y,hy,rfl⟩:=List.mem_map.1 hq
   exact hg y hy
 have hom:∀x∈s.F,∀b,x.own b->b≠s.m:=fun x hx b hb e=>by
  obtain⟨es,cl,hm⟩:=mapCell a.map
  exact Fh.neM (a.fl x hx) hb hm e
 have hqm:∀x∈s.F,∀q∈x.qs,∀b,blkV q.2=some b->b≠s.m:=fun x hx q hq b hb e=>a.psep x hx q hq b hb (.inr (.inl e))
 have hfm:∀b,blkG s.fv=some b->b≠s.m:=fun b hb=>by
  obtain⟨es,cl,hm⟩:=mapCell a.map
  exact a.fat.neM hb hm
 have foot:∀b,St.foot { s with F:=s.F++[x] } p b->s.foot p b\/x.own b:=by
  rintro b (e|e|e|⟨y,hy,e⟩)
  ·exact .inl (.inl e)
  ·exact .inl (.inr (.inl e))
  ·exact .inl (.inr (.inr (.inl e)))
  ·rcases List.mem_append.1 hy with hy|hy
   ·exact .inl (.inr (.inr (.inr ⟨y,hy,e⟩)))
   ·simp at hy;subst hy
    exact .inr e
 have hnew:FlAt h2 x:=hx.mod m (fun b hb e=>by have:=ho b hb;omega) (fun q hq'=>by rw[hq]at hq';cases hq')
 refine⟨⟨(m.block p (get_some_lt a.cells) hmn).trans a.cells,hk▸hm,fun y hy=>?_,?_,fun y hy q hq' b hb e=>?_,a.fat.mod m hfm,fun y hy=>?_,?_,a.stp,a.fatk,a.fok,fun y hy=>?_⟩,foot⟩
 ·rcases List.mem_append.1 hy with hy|hy
  ·exact (a.fl y hy).mod m (hom y hy) (hqm y hy)
  ·simp at hy;subst hy;exact hnew
 ·rw[List.pairwise_append]
  refine⟨a.sep,List.pairwise_singleton _ _,fun y hy z hz b hb hc=>?_⟩
  simp at hz;subst hz
  have:=ho b hc
  have:=hn b (.inr (.inr (.inr ⟨y,hy,hb⟩)))
  omega
 ·rcases List.mem_append.1 hy with hy|hy
  ·exact (foot b e).elim (a.psep y hy q hq' b hb) (fun e=>by have:=hn2 y hy q hq' b hb;have:=ho b e;omega)
  ·simp at hy;subst hy;rw[hq]at hq';cases hq'
 ·rcases List.mem_append.1 hy with hy|hy
  ·exact a.names y hy
  ·simp at hy;subst hy;exact hl
 ·show (s.F++[_]).length<=256
  simp;omega
 ·rcases List.mem_append.1 hy with hy|hy
  ·exact a.pfew y hy
  ·simp at hy;subst hy;rw[hq];exact Nat.zero_le _
theorem picked_snoc:∀{ks:List Int} {ps:List Pc} {j:Nat} (hj:j<ps.length),picked ks (ps.take (j+1))=picked ks (ps.take j)++(if pickB (ks.drop j) then [ps[j]] else [])
 | [],ps,j,hj=>by
  rw[picked_nil,picked_nil];simp[pickB]
 | k::ks,p::ps,0,_=>by
  have h1:picked (k::ks) ([]:List Pc)=[]:=rfl
  have h2:picked ks ([]:List Pc)=[]:=by cases ks<;>rfl
  have h3:picked (k::ks) [p]=if k%2=1 then p::picked ks [] else picked ks []:=rfl
  simp only[List.take_succ_cons,List.take_zero,List.drop_zero]
  rw[h1,h3,h2]
  by_cases h:k%2=1<;>simp[pickB,h]
 | k::ks,p::ps,j+1,hj=>by
  have:=picked_snoc (ks:=ks) (ps:=ps) (j:=j) (by simpa using hj)
  simp only[List.take_succ_cons,List.drop_succ_cons,List.getElem_cons_succ]
  rw[picked,picked,this]
  split
  ·rfl
  ·rfl
end
section
variable {K:VP}{h:Heap}
def St.flOf(s:St)(n:List UInt8):Fl:=match s.get n with|some x=>x.f|none=>⟨n,[],[]⟩
def npc(fs:List Fl):Nat:=(fs.map fun f=>f.ps.length).sum
theorem crashAll_snoc:∀(ks:List Int) (fs:List Fl) (f:Fl),crashAll ks (fs++[f])=crashAll ks fs++[f.crash (ks.drop (npc fs))]
 | ks,[],f=>by simp[crashAll,npc]
 | ks,g::fs,f=>by
  rw[List.cons_append,crashAll,crashAll,crashAll_snoc,List.drop_drop]
  simp[npc]
theorem drop_tail{α:Type}(l:List α)(j:Nat):(l.drop j).tail=l.drop (j+1):=by rw[List.tail_drop]
theorem isT_ne:isT≠fT/\isT≠bT/\isT≠pT:=by decide
theorem isT_aT:isT≠aT:=by decide
theorem foot_ne{p q:Nat}{s:St}{arr:Array Value}(a:StAt h p s)(hq:h[q]? = some (.cells arr isT)){b:Nat}(hb:s.foot p b):b≠q:=by
 rintro rfl
 rcases hb with e|e|e|⟨x,hx,e⟩
 ·rw[e,a.cells]at hq;cases hq
 ·obtain⟨es,cl,hm⟩:=mapCell a.map
  rw[e,hm]at hq;cases hq
 ·exact a.fat.ne e hq isT_aT.symm rfl
 ·exact Fh.ne (a.fl x hx) e hq isT_ne rfl
set_option maxHeartbeats 8000000 in
theorem Crash_c{p:Nat}{s:St}{v:Value}{ks:List Int}(a:StAt h p s)(hk:Its h v ks)
 (He:∀h',Ext h h'->ks.any (fun n=>decide (n<0))=true->K (.tuple #[.pointer none,.int .i64 2]) h')
 (Hw:∀h' p' s' (L:List (List UInt8)),Ext h h'->ks.any (fun n=>decide (n<0))=false->L.Perm (s.F.map (·.name))->L.Pairwise (fun x y=>Op.bytesLess y x=false)->StAt h' p' s'->s'.F.map Fh.f=crashAll ks (L.map s.flOf)->s'.fates=[]->s'.steps=0->h.size<=p'->(∀b,s'.foot p' b->h.size<=b)->K (.tuple #[ptrV p',.int .i64 0]) h') :
 CallsH Tryz.prog 26 #[ptrV p,v] h K ⟨⟩:=by
 refine n26_calls ?_
 unfold n26;try delta vF vG vC vD vJ vV vk vt
 obtain⟨va,vc,rfl,hvc⟩:=hk.form
 simp(disch:=omega)
 have e0:Ext h (h.push (.cells #[.slice va ks.length vc] isT)):=extS
 refine (⟨_,rfl⟩:∃g,g=h.push (.cells #[.slice va ks.length vc] isT)).elim fun h0 eh0=>?_
 have z0:h0.size=h.size+1:=by rw[eh0];simp
 have q0:h0[h.size]? = some (.cells #[.slice va ks.length vc] isT):=by rw[eh0];exact get_pushed rfl
 rw[show h.push (.cells #[.slice va ks.length vc] 68)=h0 from eh0.symm]
 rw[<-eh0]at e0
 clear eh0
 refine none_c (a.ext e0).cells ?_
 have c0:=cellOf (i:=0) q0 rfl
 simp(disch:=omega)[c0]
 refine IndexI_c (hk.ext e0) (fun n=>decide (n<0)) (fun n g K hn=>neg_c n g K hn) ?_
 cases hneg:ks.any (fun n=>decide (n<0)) with
 | true =>
  simp(disch:=omega)
  exact He h0 e0 hneg
 | false =>
 have hpos:∀k∈ks,0<=k:=fun k hkk=>by
  have:=List.any_eq_false.1 hneg k hkk
  simp at this;exact this
 simp(disch:=omega)
 rw[Hp_makeMap]
 simp(disch:=omega)
 refine (⟨_,rfl⟩:∃g,g=(h0.push (.map #[] 0)).push (.cells #[.map (some h0.size),.slice none 0 0,.int .i64 0] sT)).elim fun h1 eh1=>?_
 have e1:Ext h0 h1:=by rw[eh1];exact extS
 have z1:h1.size=h.size+3:=by rw[eh1];simp[z0]
 have hmk:MapK str h1 h0.size ([]:List (List UInt8×Value)):=by
  rw[eh1]
  exact (MapK.new (h:=h0) rfl).ext extS
 have p1:h1[h0.size+1]? = some (.cells #[.map (some h0.size),.slice none 0 0,.int .i64 (0:Nat)] sT):=by rw[eh1];exact get_pushed sM
 have a1:StAt h1 (h0.size+1) ⟨[],[],0,h0.size,.slice none 0 0⟩ :=
  ⟨p1,hmk,fun x hx=>(by cases hx),.nil,fun x hx=>(by cases hx),.nil,fun x hx=>(by cases hx),Nat.zero_le _,Nat.zero_lt_of_lt (show 0<1000000 by decide),Nat.zero_lt_of_lt (show 0<1000000000 by decide),fun f hf=>(by cases hf),fun x hx=>(by cases hx)⟩
 rw[show ((h0.push (.map #[] 0)).push (.cells #[.map (some h0.size),.slice none 0 0,.int .i64 0] 144))=h1 from eh1.symm]
 clear eh1
 refine Names_c (a.ext (e0.trans e1)) fun h2 w L e2 pm so oL fL=>?_
 have hfew:=a.few
 have hLl:L.length=s.F.length:=by rw[pm.length_eq,List.length_map]
 obtain⟨wa,wn,wc,rfl,hwl,hwc,hwne⟩:=oL.form omg
 obtain rfl:wn=L.length:=by simpa using hwl.symm
 simp(disch:=omega)
 have z2:=e2.size
 have q2:=(e2.block h.size omg).trans ((e1.block h.size omg).trans q0)
 have hnd:L.Nodup:=pm.nodup_iff.2 a.nodup
 refine loopX1 (α:=Nat×St) (fun a=>.int .i64 a.1) (fun a g=>a.1<=L.length/\Ext h g/\StAt g (h0.size+1) a.2/\(∀b,a.2.foot (h0.size+1) b->h.size<=b)/\(∃v',g[h.size]? = some (.cells #[v'] isT)/\Its h v' (ks.drop (npc ((L.take a.1).map s.flOf))))/\OwnT stT 1 g (.slice wa L.length wc) (L.map str)
  /\ a.2.F.map Fh.f=crashAll ks ((L.take a.1).map s.flOf)/\a.2.F.map (·.name)=L.take a.1/\(∀x∈a.2.F,x.qs=[])/\a.2.fates=[]/\a.2.steps=0/\a.2.m=h0.size) (fun a=>L.length-a.1) (0,⟨[],[],0,h0.size,.slice none 0 0⟩) rfl
  ⟨Nat.zero_le _,e0.trans (e1.trans e2),a1.ext e2,?_,⟨_,q2,by simpa[npc]using hk⟩,oL,by simp[crashAll],by simp,fun x hx=>(by cases hx),rfl,rfl,rfl⟩ ?_
 ·rintro b (e|e|e|⟨x,hx,-⟩)
  ·omega
  ·have e':b=h0.size:=e;omega
  ·cases e
  ·cases hx
 rintro⟨i,s'⟩ g ⟨hi,eg,sa,hft,⟨v',gq,hk'⟩,og,hF',hN',hQ',hfa,hst,hm'⟩ X hX
 dsimp only at hi sa hft gq hk' og hF' hN' hQ' hfa hst hm' hX ⊢
 by_cases hil:i<L.length
 ·obtain⟨wb,rfl⟩:=hwne (by intro e;have h9:=congrArg List.length e;simp at h9;rw[h9]at hil;simp at hil)
  have ci:=(og.elt (i:=i) (by simpa using hil)).1
  have ce:(L.map str)[i]'(by simpa using hil)=str L[i]:=by simp
  rw[ce]at ci
  have hmem:L[i]∈s.F.map (·.name):=pm.mem_iff.1 (List.getElem_mem hil)
  obtain⟨x,hx,hxn⟩:=List.mem_map.1 hmem
  have hxg:s.get L[i]=some x:=by rw[<-hxn];exact (psOf_mem a hx).1
  have hfo:s.flOf L[i]=x.f:=by unfold St.flOf;rw[hxg]
  have ag:=a.ext eg
  have pc0:=cellOf (i:=0) ag.cells rfl
  have hmg:=ag.map
  unfold St.keys at hmg
  have lk:=look_keys (l:=L[i]) s.F
  have hxg':s.F.find? (fun x=>decide (x.name=L[i]))=some x:=hxg
  rw[hxg']at lk
  have hfl:=ag.fl x hx
  have hfl0:=a.fl x hx
  have x0:=cellOf (i:=0) hfl.cells rfl
  have x1:=cellOf (i:=1) hfl.cells rfl
  obtain⟨la,ln,lc,hlv,hll,hlc,-⟩:=hfl.last.form
  have hpf:=a.pfew x hx
  have hst0:=a.stp
  have hlast:x.last.length<=268435456:=hfl.ok.few
  obtain rfl:ln=x.last.length:=by simpa using hll.symm
  have x0':hcell g ⟨x.b,0,none⟩=some (.slice la x.last.length lc):=hlv▸x0
  obtain⟨pa,pn,pc,hpv,hpl,hpc,hpne⟩:=hfl.ps.form
  rw[pcV_len]at hpl
  obtain rfl:pn=x.qs.length:=by omega
  have op:=hfl.ps
  have ol:=hfl.last
  rw[hpv]at op
  rw[hlv]at ol
  unfold ptrV
  simp(disch:=omega)[ci,pc0]
  rw[Hp_lookup storeKey (z:=.pointer none) kR hmg,lk]
  simp(disch:=omega)[ptrV,x0']
  refine bclone_c ol.src ⟨_,_,rfl⟩ (one_bytes _) omg fun bv g1 eg1 ob fb fb'=>?_
  have x1':hcell g1 ⟨x.b,1,none⟩=some (.slice pa x.qs.length pc):=hpv▸cellOf (i:=1) (hfl.ext eg1).cells rfl
  have gq1:=(eg1.block h.size (get_some_lt gq)).trans gq
  have hgz:=eg.size
  have hg1z:=eg1.size
  have hpcs:x.f.ps=x.qs.map (·.1):=rfl
  have hpsl:x.f.ps.length=x.qs.length:=by rw[hpcs,List.length_map]
  simp(disch:=omega)[x1']
  have hq0:=get_some_lt gq
  refine loopX1 (α:=Nat) (fun j=>.int .i64 j) (fun j g2=>j<=x.qs.length/\Mod (· = h.size) g g2/\(∃v2,g2[h.size]? = some (.cells #[v2] isT)/\Its h v2 ((ks.drop (npc ((L.take i).map s.flOf))).drop j))/\OwnG bT 1 g2 bv ((layAll x.last (picked (ks.drop (npc ((L.take i).map s.flOf))) (x.f.ps.take j))).map byteV))
   (fun j=>x.qs.length-j) 0 rfl ⟨Nat.zero_le _,.of_ext eg1,⟨v',gq1,by simpa using hk'⟩,by
    have:picked (ks.drop (npc ((L.take i).map s.flOf))) (x.f.ps.take 0)=[]:=by rw[List.take_zero];cases (ks.drop (npc ((L.take i).map s.flOf)))<;>rfl
    rw[this];exact ob⟩ ?_
  generalize hKS:ks.drop (npc ((L.take i).map s.flOf))=KS at *
  have hKpos:∀k∈KS,0<=k:=fun k hk=>hpos k (by rw[<-hKS]at hk;exact List.mem_of_mem_drop hk)
  rintro j g2 ⟨hj,m2,⟨v2,gq2,hk2⟩,ob2⟩ Y hY
  have eg2:Ext h g2:=m2.ext_from eg (fun b hb e=>by omega)
  by_cases hjq:j<x.qs.length
  ·obtain⟨pb,po,rfl⟩:=hpne (by intro e;have:=pcV_len x.qs;rw[e]at this;simp at this;omega)
   have opg:OwnG pT 2 g2 (.slice (some ⟨pb,po,none⟩) x.qs.length pc) (x.qs.flatMap pcV):=by
    exact op.mod m2 (fun c hc e=>op.ne hc gq isT_ne.2.2.symm e)
   obtain⟨r1,r2⟩:=piece_cell (v:=x.pv) opg hjq
   have hqm:x.qs[j]∈x.qs:=List.getElem_mem hjq
   have hqb:Bytes g2 x.qs[j].2 x.qs[j].1.b:=(hfl0.bs _ hqm).ext eg2
   obtain⟨qa,qc,hqv⟩:=hqb.form
   obtain⟨qok,qfit⟩:=hfl.ok.pc x.qs[j].1 (List.mem_map_of_mem hqm)
   have qpos:=qok.pos
   have qfit:x.qs[j].1.at_+x.qs[j].1.b.length<=x.last.length:=qfit
   rw[hqv]at r2 hqb
   simp(disch:=omega)
   refine JoinN.mk ?_
   refine JoinN.mk ?_
   simp(disch:=omega)[r1,r2]
   refine (⟨_,rfl⟩:∃f,f=hset (hset (g2.push (.cells #[.int .i64 0,.slice none 0 0] 146)) ⟨g2.size,0,none⟩ (.int .i64 x.qs[j].1.at_)) ⟨g2.size,1,none⟩ (.slice qa x.qs[j].1.b.length qc)).elim fun g3 eg3=>?_
   have e3:Ext g2 g3:=by rw[eg3];exact extS
   have cP:g3[g2.size]? = some (.cells #[.int .i64 x.qs[j].1.at_,.slice qa x.qs[j].1.b.length qc] 146):=by rw[eg3];exact obj_set (obj_set (get_pushed rfl))
   rw[<-eg3]
   clear eg3
   have gq3:=(e3.block h.size (get_some_lt gq2)).trans gq2
   refine nextp_c gq3 (hk2.ext (eg2.trans e3)) (fun k hk=>hKpos k (List.mem_of_mem_drop hk)) fun g4 v4 gq4 hv4 m4=>?_
   have hk4:Its h v4 (KS.drop (j+1)):=by rw[<-drop_tail];exact hv4 h hk2
   have hps:=picked_snoc (ks:=KS) (ps:=x.f.ps) (j:=j) omg
   have hpj:x.f.ps[j]'omg=x.qs[j].1:=by simp[hpcs]
   rw[hpj]at hps
   have hz2:=m2.size
   have hz3:=e3.size
   have cP4:=(m4.block g2.size (get_some_lt cP) omg).trans cP
   have ob4:OwnG bT 1 g4 bv ((layAll x.last (picked KS (x.f.ps.take j))).map byteV):=(ob2.ext e3).mod m4 (fun c hc e=>by have:=fb c hc;omega)
   have m24:Mod (· = h.size) g g4:=(m2.extIn e3).trans m4 (fun b _ e=>e)
   have k0:=cellOf (i:=0) cP4 rfl
   have k1:=cellOf (i:=1) cP4 rfl
   cases hpb:pickB (KS.drop j) with
   | false =>
    rw[hpb]at hps
    simp at hps
    simp(disch:=omega)
    exact hY (j+1) _ _ sM ⟨hjq,m24,⟨v4,gq4,hk4⟩,by rw[hps];exact ob4⟩ omg
   | true =>
    rw[hpb]at hps
    simp only[if_true]at hps
    have hlay:(layAll x.last (picked KS (x.f.ps.take j))).length=x.last.length:=layAll_len fun q hq=>(hfl.ok.pc q (List.mem_of_mem_take (picked_sub hq))).2
    obtain⟨ba,bn,bc,rfl,hbl,hbc,hbne⟩:=ob4.form
    obtain rfl:bn=x.last.length:=by simp[hlay]at hbl;omega
    obtain⟨bb,bo,rfl⟩:=hbne (by intro e;rw[e]at hbl;simp at hbl;omega)
    have hqb4:Bytes g4 (.slice qa x.qs[j].1.b.length qc) x.qs[j].1.b:=by
     have:Ext h g4:=m4.ext_from (eg2.trans e3) (fun b hb e=>by omega)
     have:=(hfl0.bs _ hqm).ext this
     rw[hqv]at this;exact this
    simp(disch:=omega)[k0,k1]
    refine Hp_copyG (e:=bT) (lo:=x.qs[j].1.at_) (m:=x.last.length-x.qs[j].1.at_) kR ob4 omg hqb4 fun g5 o5 m5=>?_
    simp(disch:=omega)
    have ht:x.qs[j].1.b.take (x.last.length-x.qs[j].1.at_)=x.qs[j].1.b:=List.take_of_length_le omg
    rw[ht]at o5
    have hbq:∀c,blkG (.slice (some ⟨bb,bo,none⟩) x.last.length bc)=some c->g.size<=c:=fb
    refine hY (j+1) _ _ sM ⟨hjq,m24.trans m5 (fun b hb e=>by have:=hbq b e;omega),⟨v4,(m5.block h.size (get_some_lt gq4) (fun e=>by have:=hbq _ e;omega)).trans gq4,hk4⟩,?_⟩ omg
    rw[hps,layAll_append]
    exact o5
  ·obtain rfl:j=x.qs.length:=by omega
   have sa2:StAt g2 (h0.size+1) s':=sa.mod m2 (fun b hb e=>foot_ne sa gq hb e) (fun y hy q hq=>by rw[hQ' y hy]at hq;cases hq)
   have d0:=cellOf (i:=0) sa2.cells rfl
   have d0':hcell g2 ⟨h0.size+1,0,none⟩=some (.map (some h0.size)):=hm'▸d0
   have hz2:=m2.size
   rw[<-hpsl,List.take_length]at ob2
   rw[<-hpsl]at hk2
   have hcr:layAll x.last (picked KS x.f.ps)=(x.f.crash KS).last:=rfl
   rw[hcr]at ob2
   obtain⟨ba,bn,bc,rfl,hbl,hbc,-⟩:=ob2.form
   have hcl:=hfl.ok.crash_len KS
   obtain rfl:bn=x.last.length:=by have h9:x.f.last.length=x.last.length:=rfl;simp at hbl;omega
   simp(disch:=omega)[d0']
   refine bclone_c ob2.src ⟨_,_,rfl⟩ (one_bytes _) omg fun nv g3 e3 on fn fn'=>?_
   have d3:=cellOf (i:=0) (sa2.ext e3).cells rfl
   have d3':hcell g3 ⟨h0.size+1,0,none⟩=some (.map (some h0.size)):=hm'▸d3
   have hl3:=get_some_lt (sa2.ext e3).cells
   obtain⟨na,nn,nc,rfl,-,-,-⟩:=on.form
   have hz3:=e3.size
   have hne3:¬h0.size+1=g3.size:=by omega
   have hh3:¬h0.size=g3.size:=by omega
   simp(disch:=omega)[d3',hne3]
   have e4:Ext g3 (g3.push (.cells #[.slice ba x.last.length bc,.slice none 0 0,.slice na nn nc] fT)):=extS
   have sa4:=(sa2.ext e3).ext e4
   have hmm:=sa4.map
   rw[hm']at hmm
   refine Hp_mapUpdate storeKey hmm fun g5 m5 md=>?_
   simp(disch:=omega)
   have okc:=hfl.ok.crash KS
   have hxf:FlAt (g3.push (.cells #[.slice ba x.last.length bc,.slice none 0 0,.slice na nn nc] fT)) ⟨L[i],(x.f.crash KS).last,[],g3.size,.slice ba x.last.length bc,.slice none 0 0,.slice na nn nc⟩:=by
    refine⟨get_pushed rfl,(ob2.ext e3).ext e4,on.ext e4,.nil,fun q hq=>(by cases hq),⟨okc.few,fun q hq=>(by cases hq)⟩,fun c hc e=>?_,fun q hq=>(by cases hq)⟩
    have h1:=fn c e
    have h2:=ob2.lt hc
    omega
   have own':∀c,Fh.own ⟨L[i],(x.f.crash KS).last,[],g3.size,.slice ba x.last.length bc,.slice none 0 0,.slice na nn nc⟩ c->g.size<=c:=by
    rintro c (e|e|e|e)
    ·have e':c=g3.size:=e;omega
    ·exact fb c e
    ·cases e
    ·have:=fn c e;omega
   have hnew:∀y∈s'.F,y.name≠L[i]:=fun y hy e=>by
    have hy':y.name∈L.take i:=hN'▸List.mem_map_of_mem hy
    obtain⟨k,hk,hkk⟩:=List.getElem_of_mem hy'
    rw[List.getElem_take]at hkk
    have hki:k<i:=by rw[List.length_take]at hk;omega
    have:=(List.nodup_iff_pairwise_ne.1 hnd)
    have:=List.pairwise_iff_getElem.1 this k i omg hil hki
    exact this (hkk.trans e)
   have hlen':s'.F.length=i:=by
    have:=congrArg List.length hN'
    rw[List.length_map,List.length_take]at this;omega
   have m5':MapK str g5 s'.m (upd L[i] (ptrV g3.size) s'.keys):=by rw[hm'];exact m5
   have md':Mod (· = s'.m) (g3.push (.cells #[.slice ba x.last.length bc,.slice none 0 0,.slice na nn nc] fT)) g5:=by rw[hm'];exact md
   obtain⟨sa5,ft5⟩:=sa4.addG (n:=g.size) (x:=⟨L[i],(x.f.crash KS).last,[],g3.size,.slice ba x.last.length bc,.slice none 0 0,.slice na nn nc⟩) (fun b hb=>sa.lt hb) (fun y hy q hq=>by rw[hQ' y hy]at hq;cases hq) hxf rfl own' (hxn▸a.names x hx) hnew omg m5' md'
   have eg5:Ext h g5:=md.ext_from ((m2.ext_from eg (fun b hb e=>by omega)).trans (e3.trans e4)) (fun b hb e=>by omega)
   have gq5:=(md.block h.size (Nat.lt_of_lt_of_le (get_some_lt gq2) (Nat.le_trans hz3 e4.size)) (fun e=>by have e':h.size=h0.size:=e;omega)).trans ((e4.block _ (by have:=get_some_lt gq2;omega)).trans ((e3.block _ (get_some_lt gq2)).trans gq2))
   have tk:(L.take (i+1)).map s.flOf=(L.take i).map s.flOf++[x.f]:=by
    rw[List.take_succ_eq_append_getElem hil,List.map_append,<-hfo];rfl
   have hnp:npc ((L.take (i+1)).map s.flOf)=npc ((L.take i).map s.flOf)+x.f.ps.length:=by rw[tk];simp[npc]
   refine hX (i+1,_) _ _ sM ⟨hil,eg5,sa5,fun b hb=>(ft5 b hb).elim (hft b) (fun e=>by have:=own' b e;omega),⟨v2,gq5,?_⟩,?_,?_,?_,?_,hfa,hst,hm'⟩ (by dsimp only;omega)
   ·dsimp only
    rw[hnp,<-List.drop_drop,hKS];exact hk2
   ·have og2:OwnT stT 1 g2 (.slice (some ⟨wb,0,none⟩) L.length wc) (L.map str):=og.mod m2 (fun b hb e=>og.ne hb gq dM e)
    exact ((og2.ext e3).ext e4).mod md (fun b hb e=>by
     obtain⟨es,cl,hmc⟩:=mapCell hmm
     exact ((og2.ext e3).ext e4).neM hb hmc e)
   ·dsimp only
    rw[List.map_append,hF',tk,crashAll_snoc,hKS]
    have:(⟨L[i],(x.f.crash KS).last,[]⟩:Fl)=x.f.crash KS:=by
     have:L[i]=x.f.name:=hxn.symm
     rw[this];rfl
    rw[<-this];rfl
   ·dsimp only
    rw[List.map_append,hN',List.take_succ_eq_append_getElem hil];rfl
   ·intro y hy
    rcases List.mem_append.1 hy with hy|hy
    ·exact hQ' y hy
    ·simp at hy;subst hy;rfl
 ·obtain rfl:i=L.length:=by omega
  simp(disch:=omega)
  rw[List.take_length]at hF'
  exact Hw g _ s' L eg hneg pm so sa hF' hfa hst omg hft
end
section
variable {K:VP}{h:Heap}
def i64(n:Int):Prop := -9223372036854775808<=n/\n<9223372036854775808
structure Stp where
 kind:Int
 n:Int
 at_:Int
 name:List UInt8
 bv:Value
 fv:Value
 pv:Value
 b:List UInt8
 fs:List (Int×Int)
 pl:List Int
def Stp.cells(x:Stp):List Value:=[.int .i64 x.kind,.int .i64 x.n,.int .i64 x.at_,str x.name,x.bv,x.fv,x.pv]
structure StpOk (h:Heap) (x:Stp):Prop where
 kind:i64 x.kind
 n:i64 x.n
 at_:i64 x.at_
 name:x.name.length<9223372036854775808
 b:Bytes h x.bv x.b
 bl:x.b.length<9223372036854775808
 fs:Fas h x.fv x.fs
 pl:Its h x.pv x.pl
structure Sps (h:Heap) (v:Value) (xs:List Stp):Prop where
 slc:Slc 7 h v (fun us x=>us=x.cells) xs
 ok:∀x∈xs,StpOk h x
 len:xs.length<9223372036854775808
theorem slc_ext{α:Type}{s:Nat}{h':Heap}{v:Value}{R:List Value->α->Prop}{xs:List α}(a:Slc s h v R xs)(e:Ext h h'):Slc s h' v R xs:=by
 rcases a with a|⟨a,c,h1,h2,h3⟩
 ·exact .inl a
 ·refine .inr ⟨a,c,h1,h2,fun i hi=>?_⟩
  obtain⟨us,h4,h5,h6⟩:=h3 i hi
  exact⟨us,h4,h5.ext e,h6⟩
theorem slc_seg{α:Type}{s:Nat}{a:Addr}{f:α->List Value}:∀(xs:List α) (k:Nat),(∀x,(f x).length=s)->(∀(i:Nat) (hi:i<xs.length),Seg h (elt a ((k+i)*s)) (f xs[i]))->Seg h (elt a (k*s)) (xs.flatMap f)
 | [],k,_,_=>fun i hi=>by simp at hi
 | x::xs,k,hf,H=>by
  have ih:=slc_seg xs (k+1) hf (fun i hi=>by
   have:=H (i+1) (by simpa using hi)
   rw[show k+1+i=k+(i+1) by omega]
   simpa using this)
  have h0:=H 0 sM
  intro i hi
  rw[List.flatMap_cons]at hi
  by_cases h1:i<(f x).length
  ·have:=h0 i (by simpa using h1)
   simp only[Nat.add_zero,List.getElem_cons_zero]at this
   rw[this]
   simp only[List.flatMap_cons]
   rw[List.getElem_append_left h1]
  ·have hl:=hf x
   have:=ih (i-s) (by rw[List.length_append]at hi;omega)
   rw[elt_elt,Nat.add_mul,Nat.one_mul,show k*s+s+(i-s)=k*s+i by omega]at this
   rw[elt_elt,this]
   simp only[List.flatMap_cons]
   rw[List.getElem_append_right omg]
   simp only[hl]
theorem Fas.of{v:Value}{fs:List (Int×Int)}(s:Slc 2 h v (fun us f=>us=faV f) fs)(hl:fs.length<9223372036854775808)(ho:∀f∈fs,i64 f.1/\i64 f.2):Fas h v fs:=by
 refine⟨?_,?_,hl,fun f hf=>⟨(ho f hf).1.1,(ho f hf).1.2,(ho f hf).2.1,(ho f hf).2.2⟩⟩
 ·rcases s with ⟨rfl,rfl⟩|⟨a,c,rfl,h2,h3⟩
  ·exact .inl ⟨rfl,rfl,rfl⟩
  ·refine .inr (.inl ⟨a,c,rfl,faV_len _,?_⟩)
   have:=slc_seg (h:=h) (a:=a) (s:=2) (f:=faV) fs 0 (fun x=>rfl) (fun i hi=>by
    obtain⟨us,-,h5,rfl⟩:=h3 i hi
    rw[Nat.zero_add];exact h5)
   simpa using this
 ·rcases s with ⟨rfl,rfl⟩|⟨a,c,rfl,h2,h3⟩
  ·exact⟨none,0,rfl,Nat.le_refl _⟩
  ·exact⟨_,c,rfl,h2⟩
theorem flat1:∀l:List Int,l.flatMap (fun n=>[inV n])=l.map inV
 | []=>rfl
 | x::l=>by rw[List.flatMap_cons,flat1 l];rfl
theorem Its.of{v:Value}{l:List Int}(s:Slc 1 h v (fun us n=>us=[inV n]) l)(hl:l.length<9223372036854775808)(ho:∀n∈l,i64 n):Its h v l:=by
 refine⟨?_,?_,hl,fun f hf=>ho f hf⟩
 ·rcases s with ⟨rfl,rfl⟩|⟨a,c,rfl,h2,h3⟩
  ·exact .inl ⟨rfl,rfl,rfl⟩
  ·refine .inr (.inl ⟨a,c,rfl,by simp,?_⟩)
   have:=slc_seg (h:=h) (a:=a) (s:=1) (f:=fun n=>[inV n]) l 0 (fun x=>rfl) (fun i hi=>by
    obtain⟨us,-,h5,rfl⟩:=h3 i hi
    rw[Nat.zero_add];exact h5)
   have e:l.flatMap (fun n=>[inV n])=l.map inV:=flat1 l
   rw[e]at this
   simpa using this
 ·rcases s with ⟨rfl,rfl⟩|⟨a,c,rfl,h2,h3⟩
  ·exact⟨none,0,rfl,Nat.le_refl _⟩
  ·exact⟨_,c,rfl,h2⟩
section
open Go Go.ChangeShapes Go.WideShapes Go.ChangeAt Go.RowKit Go.Deep
variable {H:Type}{enc:TypeId×Value->H}{w:World}{base:Nat}{sp:Nat->Bool}{held:Bool}
theorem i64_of{n:Int}(h:IntKind.i64.min<=n/\n<=IntKind.i64.max):i64 n:=by
 have h1:IntKind.i64.min = -9223372036854775808:=by decide
 have h2:IntKind.i64.max=9223372036854775807:=by decide
 unfold i64;omega
theorem laid_fate{cs:List Value}(h:Go.Vc.Laid enc Tryz.prog w base sp held 139 cs):∃f:Int×Int,cs=faV f/\i64 f.1/\i64 f.2:=by
 obtain⟨hl,hL⟩:=h.flds (L:=[(137,0,1),(3,1,1)]) (n:=2) kR kR
 obtain⟨c0,c1,rfl⟩:=len2 hl
 obtain⟨n0,hn0,r0,r0'⟩:=(hL 0 _ _ _ rfl).int (k:=.i64) kR
 obtain rfl:c0 = .int .i64 n0:=by simpa using hn0
 obtain⟨n1,hn1,r1,r1'⟩:=(hL 1 _ _ _ rfl).int (k:=.i64) kR
 obtain rfl:c1 = .int .i64 n1:=by simpa using hn1
 exact⟨(n0,n1),rfl,i64_of ⟨r0,r0'⟩,i64_of ⟨r1,r1'⟩⟩
theorem max63{n:Nat}(h:n<=maxLen):n<9223372036854775808:=Nat.lt_of_le_of_lt h dM
theorem slc_ok{α:Type}{s:Nat}{h:Heap}{v:Value}{R:List Value->α->Prop}{q:α->Prop}{f:α->List Value}{xs:List α}(a:Slc s h v R xs)(hR:∀us x,R us x->us=f x/\q x):Slc s h v (fun us x=>us=f x) xs/\∀x∈xs,q x:=by
 rcases a with ⟨rfl,rfl⟩|⟨a,c,rfl,h2,h3⟩
 ·exact⟨.inl ⟨rfl,rfl⟩,fun x hx=>by cases hx⟩
 ·refine⟨.inr ⟨a,c,rfl,h2,fun i hi=>?_⟩,fun x hx=>?_⟩
  ·obtain⟨us,h4,h5,h6⟩:=h3 i hi
   exact⟨us,h4,h5,(hR _ _ h6).1⟩
  ·obtain⟨i,hi,rfl⟩:=List.getElem_of_mem hx
   obtain⟨us,h4,h5,h6⟩:=h3 i hi
   exact (hR _ _ h6).2
theorem laid_fates{cs:List Value}(h:Go.Vc.Laid enc Tryz.prog w base sp held 67 cs):∃(v:Value) (fs:List (Int×Int)),cs=[v]/\Fas w.heap v fs:=by
 obtain⟨v,fs,rfl,hs,hl⟩:=h.slice (e:=139) (R:=fun us (f:Int×Int)=>us=faV f/\i64 f.1/\i64 f.2) kR (fun us hu=>laid_fate hu)
 have hc:Program.cellsOf Tryz.prog 139=2:=by kernel_rfl
 rw[hc]at hs
 obtain⟨s1,s2⟩:=slc_ok (f:=faV) hs (fun us x hx=>hx)
 exact⟨v,fs,rfl,Fas.of s1 (max63 hl) s2⟩
theorem laid_ints{cs:List Value}(h:Go.Vc.Laid enc Tryz.prog w base sp held 68 cs):∃(v:Value) (l:List Int),cs=[v]/\Its w.heap v l:=by
 obtain⟨v,l,rfl,hs,hl⟩:=h.slice (e:=3) (R:=fun us (n:Int)=>us=[inV n]/\i64 n) kR (fun us hu=>by
  obtain⟨n,e,r⟩:=hu.int (k:=.i64) kR
  exact⟨n,e,i64_of r⟩)
 have hc:Program.cellsOf Tryz.prog 3=1:=by kernel_rfl
 rw[hc]at hs
 obtain⟨s1,s2⟩:=slc_ok (f:=fun n=>[inV n]) hs (fun us x hx=>hx)
 exact⟨v,l,rfl,Its.of s1 (max63 hl) s2⟩
end
end
section
variable {K:VP}{h:Heap}
structure Rp where
 kind:Int
 n:Int
 at_:Int
 by_:Int
def Rp.cells(x:Rp):List Value:=[.int .i64 x.kind,.int .i64 x.n,.int .i64 x.at_,.int .i64 x.by_]
structure RpOk (x:Rp):Prop where
 kind:i64 x.kind
 n:i64 x.n
 at_:i64 x.at_
 by_:i64 x.by_
structure Rps (h:Heap) (v:Value) (xs:List Rp):Prop where
 slc:Slc 4 h v (fun us x=>us=x.cells) xs
 ok:∀x∈xs,RpOk x
 len:xs.length<9223372036854775808
theorem Rps.ext{h':Heap}{v:Value}{xs:List Rp}(a:Rps h v xs)(e:Ext h h'):Rps h' v xs:=⟨slc_ext a.slc e,a.ok,a.len⟩
theorem Rps.form{v:Value}{xs:List Rp}(a:Rps h v xs):∃o c,v = .slice o xs.length c:=Slc.form a.slc
theorem Rps.cell{v:Value}{xs:List Rp}(s:Rps h v xs){i:Nat}(hi:i<xs.length):∃a c,v = .slice (some a) xs.length c/\hcell h (elt a (i*4))=some (.int .i64 xs[i].kind)/\hcell h (elt a (i*4+1))=some (.int .i64 xs[i].n) /\
 hcell h (elt a (i*4+2))=some (.int .i64 xs[i].at_)/\hcell h (elt a (i*4+3))=some (.int .i64 xs[i].by_):=by
 rcases s.slc with ⟨h1,rfl⟩|⟨a,c,h1,h2,h3⟩
 ·cases hi
 ·obtain⟨us,-,h5,rfl⟩:=h3 i hi
  have:=fun j hj=>h5 j hj
  unfold Rp.cells at this
  have e0:=this 0 sM
  have e1:=this 1 sM
  have e2:=this 2 sM
  have e3:=this 3 sM
  rw[elt_elt]at e0 e1 e2 e3
  exact⟨a,c,h1,e0,e1,e2,e3⟩
def Vast(bits size:Int)(xs:List Rp):Prop:=xs.length>60\/bits>12\/size>262144\/∃x∈xs,x.n>200\/x.kind=7/\x.at_>4194304
set_option maxHeartbeats 2000000 in
theorem vast_c{bits order long size:Int}{v:Value}{xs:List Rp}(hx:Rps h v xs)
 (HT:∀h',Ext h h'->Vast bits size xs->K (.bool true) h') (HF:∀h',Ext h h'->¬Vast bits size xs->K (.bool false) h') :
 CallsH Tryz.prog 6 #[imgV bits order long size,v] h K ⟨⟩:=by
 refine n6_calls ?_
 unfold n6 imgV;try delta vF vG vC vD vJ vV vk vt
 obtain⟨xa,xc,rfl⟩:=hx.form
 have hl:=hx.len
 simp(disch:=omega)
 refine (⟨_,rfl⟩:∃g,g=h.push (.cells #[.int .i64 bits,.int .i64 order,.int .i64 long,.int .i64 size] 23)).elim fun h1 eh1=>?_
 have e1:Ext h h1:=by rw[eh1];exact extS
 have k1:h1[h.size]? = some (.cells #[.int .i64 bits,.int .i64 order,.int .i64 long,.int .i64 size] 23):=by rw[eh1];exact get_pushed rfl
 rw[<-eh1]
 clear eh1
 have d0:=cellOf (i:=0) k1 rfl
 have d3:=cellOf (i:=3) k1 rfl
 by_cases c1:((xs.length:Nat):Int)>60
 ·simp(disch:=omega)[c1]
  exact HT h1 e1 (.inl omg)
 by_cases c2:bits>12
 ·simp(disch:=omega)[c1,c2,d0]
  exact HT h1 e1 (.inr (.inl c2))
 by_cases c3:size>262144
 ·simp(disch:=omega)[c1,c2,c3,d0,d3]
  exact HT h1 e1 (.inr (.inr (.inl c3)))
 simp(disch:=omega)[c1,c2,c3,d0,d3]
 have hx1:=hx.ext e1
 refine loopA1 (α:=Nat) (fun i=>.int .i64 (i:Nat)) (fun i g=>g=h1/\i<=xs.length/\∀j (hj:j<xs.length),j<i->xs[j].n<=200/\(xs[j].kind=7->xs[j].at_<=4194304)) (fun i=>xs.length-i) 0 rfl ⟨rfl,Nat.zero_le _,fun j hj h0=>absurd h0 omg⟩ ?_
 rintro i g ⟨rfl,hi,hno⟩
 by_cases hil:i<xs.length
 ·obtain⟨a,c,hv,q0,q1,q2,-⟩:=hx1.cell hil
  cases hv
  have hlt:((i:Nat):Int)<((xs.length:Nat):Int):=by omega
  by_cases t1:xs[i].n>200
  ·simp(disch:=omega)[hlt,q0,q1,q2,t1]
   exact HT g e1 (.inr (.inr (.inr ⟨_,List.getElem_mem hil,.inl t1⟩)))
  by_cases t2:xs[i].kind=7
  ·by_cases t3:xs[i].at_>4194304
   ·simp(disch:=omega)[hlt,q0,q1,q2,t1,t2,t3]
    exact HT g e1 (.inr (.inr (.inr ⟨_,List.getElem_mem hil,.inr ⟨t2,t3⟩⟩)))
   ·simp(disch:=omega)[hlt,q0,q1,q2,t1,t2,t3]
    refine⟨i+1,by simp,⟨by omega,fun j hj hji=>?_⟩,by omega⟩
    by_cases e:j=i
    ·subst e;exact⟨by omega,fun _=>by omega⟩
    ·exact hno j hj omg
  ·simp(disch:=omega)[hlt,q0,q1,q2,t1,t2]
   refine⟨i+1,by simp,⟨by omega,fun j hj hji=>?_⟩,by omega⟩
   by_cases e:j=i
   ·subst e;exact⟨by omega,fun h1=>absurd h1 t2⟩
   ·exact hno j hj omg
 ·have hlt:¬((i:Nat):Int)<((xs.length:Nat):Int):=by omega
  simp(disch:=omega)[hlt]
  refine HF g e1 ?_
  rintro (h1|h1|h1|⟨x,hx,h1⟩)
  ·omega
  ·exact c2 h1
  ·exact c3 h1
  ·obtain⟨j,hj,rfl⟩:=List.getElem_of_mem hx
   have:=hno j hj omg;omega
def Gm.toldN(g:Gm)(B:List UInt8)(k:Int):Nat:=if 0<=k/\k<g.room then g.cnt B k.toNat else 0
end
section
variable {K:VP}{h:Heap}
def mnT:Nat:=42
def rnV(c:Nat)(r:Nat×Nat):List Value:=[.int .i64 (r.1*c:Nat),.int .i64 (r.2:Nat)]
theorem rnF_len(c:Nat):∀l:List (Nat×Nat),(l.flatMap (rnV c)).length=l.length*2
 | []=>rfl
 | f::l=>by rw[List.flatMap_cons,List.length_append,rnF_len c l];simp[rnV];omega
theorem rnF_get(c:Nat):∀(l:List (Nat×Nat)) (i k:Nat) (hi:i<l.length) (hk:k<2),(l.flatMap (rnV c))[i*2+k]? = (rnV c l[i])[k]?
 | r::l,0,k,_,hk=>by
  rw[List.flatMap_cons,List.getElem?_append_left (by simp[rnV];omega)]
  simp
 | r::l,i+1,k,hi,hk=>by
  rw[List.flatMap_cons,List.getElem?_append_right (by simp[rnV];omega),show (rnV c r).length=2 from rfl,show (i+1)*2+k-2=i*2+k by omega,rnF_get c l i k (by simpa using hi) hk]
  simp
def MnAt(h:Heap)(c:Nat)(v:Value)(M:List (Nat×Nat)):Prop:=OwnG mnT 2 h v (M.flatMap (rnV c))
theorem MnAt.form{c:Nat}{v:Value}{M:List (Nat×Nat)}(o:MnAt h c v M):∃a cp,v = .slice a M.length cp/\M.length<=cp:=by
 obtain⟨a,n,cp,rfl,h1,h2,-⟩:=OwnG.form o
 rw[rnF_len]at h1
 have:n=M.length:=by omega
 subst this
 exact⟨a,cp,rfl,h2⟩
theorem MnAt.cell{c:Nat}{v:Value}{M:List (Nat×Nat)}(o:MnAt h c v M){i:Nat}(hi:i<M.length):∃a cp,v = .slice (some a) M.length cp/\M.length<=cp/\hcell h (elt a (i*2))=some (.int .i64 (M[i].1*c:Nat))/\hcell h (elt a (i*2+1))=some (.int .i64 (M[i].2:Nat)):=by
 obtain⟨a,n,cp,rfl,h1,h2,h3⟩:=OwnG.form o
 rw[rnF_len]at h1
 have:n=M.length:=by omega
 subst this
 obtain⟨b,of,rfl⟩:=h3 (fun e=>by have:=congrArg List.length e;rw[rnF_len,List.length_nil]at this;omega)
 have key:∀k (hk:k<2),hcell h (elt ⟨b,of,none⟩ (i*2+k))=(rnV c M[i])[k]? := fun k hk=>by
  have hlt:i*2+k<(M.flatMap (rnV c)).length:=by rw[rnF_len];omega
  rw[(OwnG.cell o hlt).1,<-List.getElem?_eq_getElem hlt,rnF_get c M i k hi hk]
 exact⟨_,cp,rfl,h2,key 0 omg,key 1 omg⟩
theorem MnAt.ext{h':Heap}{c:Nat}{v:Value}{M:List (Nat×Nat)}(o:MnAt h c v M)(e:Ext h h'):MnAt h' c v M:=OwnG.ext o e
theorem appMn{c m:Nat}{v:Value}{M:List (Nat×Nat)}{r:Nat×Nat}{x:Heap}(o:MnAt x c v M)(hM:M.length<1000000)(hk:x[m]? = some (.cells #[.int .i64 (r.1*c:Nat),.int .i64 (r.2:Nat)] mnT))
 (H:∀v' h',MnAt h' c v' (M++[r])->Mod (fun b=>blkG v=some b) x h'->(∀b,blkG v'=some b->blkG v=some b\/x.size<=b)->K v' h') :
 Hp Tryz.prog false (Go.Builtin.append_ #[35,35] 35 #[v,.slice (some ⟨m,0,none⟩) 1 1]) K x ⟨⟩:=by
 refine Hp_appendG (e:=mnT) (s:=2) (by_:=16) (n:=M.length) (k:=1) (news:=rnV c r) kR kR o (rnF_len c M) omg (.inr (.inl ⟨_,_,rfl,rfl,?_⟩)) (by simp[rnV,one]) omg omg fun v' h' o' m' b' _=>H v' h' ?_ m' b'
 ·intro i hi
  have hi2:i<2:=hi
  have:i=0\/i=1:=by omega
  rcases this with rfl|rfl
  ·rw[elt_mk];exact cellOf (i:=0) hk rfl
  ·rw[elt_mk];exact cellOf (i:=1) hk rfl
 ·unfold MnAt
  rw[List.flatMap_append]
  simpa using o'
end
section
variable {K:VP}{h:Heap}
set_option maxHeartbeats 2000000 in
theorem sound_c{g:Gm}{x:Hd}{B:List UInt8}{v mv:Value}{M:List (Nat×Nat)}(kk:g.ok)(hd:HdOk g x)(I:Img g x B)(hB:Bytes h v B)(o:MnAt h g.c mv M)(hM:M.length<1000000)(hr:∀r∈M,r.1+r.2<=g.room/\∀k,inR r k->1<=g.cnt B k)
 (H:∀h',Ext h h'->K (.bool true) h') :
 CallsH Tryz.prog 21 #[v,mv,.int .i64 (g.c:Nat)] h K ⟨⟩:=by
 refine n21_calls ?_
 unfold n21;try delta vF vG vC vD vJ vV vk vt
 obtain⟨q,hq,hq1,hq2⟩:=kk.c512
 have hrl:=kk.room_lt
 refine rBytes15_c kk hd I hB (Nat.le_trans (endG_le kk) hrl.1) fun h1 rv cl he e1 orv=>?_
 obtain⟨ra,rn,rc,rfl,-,-,-⟩:=orv.form
 simp(disch:=omega)
 obtain⟨h2,hh2⟩:∃X,X=hset (hset (hset (hset (hset (hset (hset (h1.push (.cells #[.slice none 0 0,.bool false,.int .i64 0,.int .i64 0,.int .i64 0,.int .i64 0,.int .i64 0] 63)) ⟨h1.size,0,none⟩ (.slice ra rn rc)) ⟨h1.size,1,none⟩ (.bool false)) ⟨h1.size,2,none⟩ (.int .i64 cl)) ⟨h1.size,3,none⟩ (.int .i64 he)) ⟨h1.size,4,none⟩ (.int .i64 0)) ⟨h1.size,5,none⟩ (.int .i64 0)) ⟨h1.size,6,none⟩ (.int .i64 0):=⟨_,rfl⟩
 have e2:Ext h1 h2:=by rw[hh2];exact extS
 rw[<-hh2]
 clear hh2
 have e12:=e1.trans e2
 obtain⟨a,cp,rfl,hcp⟩:=o.form
 refine loopA1 (α:=Nat) (fun i=>.int .i64 (i:Nat)) (fun i G=>Ext h2 G/\i<=M.length) (fun i=>M.length-i) 0 rfl ⟨.refl _,Nat.zero_le _⟩ ?_
 rintro i G ⟨eG,hi⟩
 by_cases hil:i<M.length
 ·have hlt:((i:Nat):Int)<((M.length:Nat):Int):=by omega
  simp(disch:=omega)[hlt]
  obtain⟨h3,h4⟩:=hr _ (List.getElem_mem hil)
  refine loopA1 (α:=Nat) (fun k=>.int .i64 (k:Nat)) (fun k G2=>Ext G G2/\k<=M[i].2) (fun k=>M[i].2-k) 0 rfl ⟨.refl _,Nat.zero_le _⟩ ?_
  rintro k G2 ⟨eG2,hk⟩
  have E2:=(e12.trans eG).trans eG2
  obtain⟨a1,cp1,hv,-,q0,q1⟩:=(o.ext E2).cell hil
  injection hv with hv1 hv2 hv3
  subst hv1 hv3
  obtain⟨S,hS⟩:∃S,M[i]=S:=⟨_,rfl⟩
  rw[hS]at q0 q1 h3 h4 hk ⊢
  obtain⟨P,hP⟩:∃P,S.1*g.c=P:=⟨_,rfl⟩
  have hPb:P<=171798691840*65536:=by rw[<-hP];exact Nat.mul_le_mul omg omg
  have hPd:((P:Nat):Int)/((g.c:Nat):Int)=((S.1:Nat):Int):=by rw[<-Int.natCast_ediv,<-hP,Nat.mul_div_cancel _ omg]
  rw[hP]at q0
  by_cases hkl:k<S.2
  ·have hlt2:((k:Nat):Int)<((S.2:Nat):Int):=by omega
   simp(disch:=omega)[q0,q1,hlt2,hPd]
   refine rCount_c kk hd I (hB.ext E2) omg (fun h5 e5 hno=>absurd ⟨by omega,by omega⟩ hno) (fun h5 e5 _ _=>?_)
   have h6:=h4 (S.1+k) ⟨by omega,by omega⟩
   rw[show (((S.1:Nat):Int)+((k:Nat):Int)).toNat=S.1+k by omega]
   have hc64:g.cnt B (S.1+k)<2^64:=Nat.lt_of_lt_of_le (g.cnt_lt B _) (Nat.pow_le_pow_right omg kk.w64.2)
   obtain⟨C,hC⟩:∃C,g.cnt B (S.1+k)=C:=⟨_,rfl⟩
   rw[hC]at h6 hc64 ⊢
   have hlt3:¬((C:Nat):Int)<1:=by omega
   simp(disch:=omega)[hlt3]
   exact⟨k+1,by simp,⟨eG2.trans e5,by omega⟩,by omega⟩
  ·have hlt2:¬((k:Nat):Int)<((S.2:Nat):Int):=by omega
   simp(disch:=omega)[q0,q1,hlt2]
   exact⟨i+1,by simp,⟨eG.trans eG2,by omega⟩,by omega⟩
 ·have hlt:¬((i:Nat):Int)<((M.length:Nat):Int):=by omega
  simp(disch:=omega)[hlt]
  exact H G (e12.trans eG)
def Aside(s:St)(sp b:Nat):Prop:=¬s.foot sp b/\¬s.pb b
theorem Aside.upd{h':Heap}{sp b:Nat}{s s':St}(a:Aside s sp b)(u:SUpd h h' sp s s')(hb:b<h.size):Aside s' sp b :=
 ⟨fun e=>(u.foot b e).elim a.1 (fun e=>by omega),fun e=>(u.pcs b e).elim a.2 (fun e=>by omega)⟩
theorem Aside.new{sp b:Nat}{s:St}(a:StAt h sp s)(hb:h.size<=b):Aside s sp b :=
 ⟨fun e=>by have:=a.lt e;omega,fun ⟨y,hy,q,hq,e⟩=>by have:=(a.fl y hy).plt hq e;omega⟩
theorem RA.side{Z:Nat->Prop}{h':Heap}{o sp:Nat}{g:Gm}{x:Hd}{s:St}{p:Fs}(a:RA h o sp g x s p)(m:Mod Z h h')(hZ:∀b,Z b->Aside s sp b/\b≠o):RA h' o sp g x s p :=
 ⟨a.rg.mod m (fun e=>(hZ o e).2 rfl),a.st.mod m (fun b hb e=>(hZ b e).1.1 hb) (fun y hy q hq b hb e=>(hZ b e).1.2 ⟨y,hy,q,hq,hb⟩),a.fs,a.nf,a.ok,a.hd⟩
end
section
variable {K:VP}{h:Heap}
structure PlAt (h0 h:Heap) (g:Gm) (x:Hd) (o sp:Nat) (mv:Value) (M:List (Nat×Nat)) (s:St) (p:Fs) (n:Nat):Prop where
 ra:RA h o sp g x s p
 img:Img g x p.f.now
 nil:p.fates=[]
 stp:p.steps<=3+n*3000
 mine:Mine g p.f.now M
 mem:MnAt h g.c mv M
 few:M.length<=n
 ext:Ext h0 h
 foot:∀b,s.foot sp b->h0.size<=b
 mb:∀b,blkG mv=some b->h0.size<=b/\Aside s sp b/\b≠o
variable {h0:Heap}{g:Gm}{x:Hd}{o sp:Nat}{mv:Value}{M:List (Nat×Nat)}{s:St}{p:Fs}{n:Nat}
theorem Gm.ok.c8{g:Gm}(kk:g.ok)(hb:g.b<=12):g.c/512<=8:=by
 have:g.c<=2^12:=by unfold Gm.c;exact Nat.pow_le_pow_right omg omg
 omega
end
section
variable {K:VP}{h:Heap}
theorem refRight_c{v:Value}{fs:List (Int×Int)}(a:Fas h v fs)(H:K (.bool (fs.all rightF)) h):CallsH Tryz.prog 25 #[v] h K ⟨⟩:=by
 refine n25_calls ?_
 unfold n25;try delta vF vG vC vD vJ vV vk vt
 obtain⟨a0,c,rfl,hc⟩:=a.form
 have hfew:=a.few
 refine loopX1 (α:=Nat) (fun i=>.int .i64 i) (fun i g=>i<=fs.length/\g=h/\∀j (hj:j<fs.length),j<i->rightF fs[j]=true) (fun i=>fs.length-i) 0 rfl ⟨Nat.zero_le _,rfl,fun j _ hj=>by omega⟩ ?_
 rintro i g ⟨hi,rfl,hr⟩ X hX
 by_cases hin:i<fs.length
 ·obtain⟨ad,c',hv,-,q1,q2⟩:=a.cell hin
  cases hv
  have no:rightF fs[i]=false->K (.bool false) g:=fun hb=>by
   have:fs.all rightF=false:=by
    rw[List.all_eq_false]
    exact⟨fs[i],List.getElem_mem hin,by rw[hb];decide⟩
   rw[this]at H;exact H
  by_cases h1:fs[i].1<0
  ·simp(disch:=omega)[q1,h1]
   exact no (by unfold rightF;rw[decide_eq_false omg];rfl)
  by_cases h2:2<fs[i].1
  ·simp(disch:=omega)[q1,h1,h2]
   exact no (by unfold rightF;rw[decide_eq_false (show ¬fs[i].1<=2 by omega)];simp)
  ·simp(disch:=omega)[q1,h1,h2]
   refine hX (i+1) _ _ sM ⟨hin,rfl,fun j hj hji=>?_⟩ omg
   by_cases e:j=i
   ·subst e
    unfold rightF;simp;omega
   ·exact hr j hj omg
 ·obtain rfl:i=fs.length:=by omega
  have:fs.all rightF=true:=by
   rw[List.all_eq_true]
   intro f hf
   obtain⟨j,hj,rfl⟩:=List.getElem_of_mem hf
   exact hr j hj hj
  rw[this]at H
  simp(disch:=omega)
  exact H
def Lim6(x:Stp):Prop:=x.b.length<=3000/\x.fs.length<=60
end
section
variable {K:VP}{h:Heap}
structure CrAt (h0 h:Heap) (g:Gm) (x:Hd) (o sp:Nat) (mv:Value) (M:List (Nat×Nat)) (s:St) (p:Fs) (n:Nat):Prop where
 ra:RA h o sp g x s p
 ci:CI g x M p.f
 stp:p.steps<=3+n*3000
 rm:∀r∈M,1<=r.2/\r.2<=200/\r.1+r.2<=g.room
 mem:MnAt h g.c mv M
 few:M.length<=n
 ext:Ext h0 h
 foot:∀b,s.foot sp b->h0.size<=b
 mb:∀b,blkG mv=some b->h0.size<=b/\Aside s sp b/\b≠o
variable {h0:Heap}{g:Gm}{x:Hd}{o sp:Nat}{mv:Value}{M:List (Nat×Nat)}{s:St}{p:Fs}{n:Nat}
theorem CrAt.exts{h':Heap}(a:CrAt h0 h g x o sp mv M s p n)(e:Ext h h'):CrAt h0 h' g x o sp mv M s p n :=
 ⟨a.ra.ext e,a.ci,a.stp,a.rm,a.mem.ext e,a.few,a.ext.trans e,a.foot,a.mb⟩
theorem CrAt.mono{n':Nat}(a:CrAt h0 h g x o sp mv M s p n)(hn:n<=n'):CrAt h0 h g x o sp mv M s p n' :=
 ⟨a.ra,a.ci,Nat.le_trans a.stp omg,a.rm,a.mem,Nat.le_trans a.few hn,a.ext,a.foot,a.mb⟩
theorem CrAt.upd{h':Heap}{s':St}{p':Fs}{n':Nat}(a:CrAt h0 h g x o sp mv M s p n)(u:SUpd h h' sp s s')(f:FsAt s' p')(c:CI g x M p'.f)(hs:p'.steps<=3+n'*3000)(hn:n<=n'):CrAt h0 h' g x o sp mv M s' p' n':=by
 have z0:=a.ext.size
 exact⟨a.ra.upd u f,c,hs,a.rm,OwnG.mod a.mem u.mod (fun b hb=>(a.mb b hb).2.1.1),Nat.le_trans a.few hn,u.mod.ext_from a.ext (fun b hb e=>by have:=a.foot b e;omega),
  fun b hb=>(u.foot b hb).elim (a.foot b) (fun e=>by omega),fun b hb=>⟨(a.mb b hb).1,(a.mb b hb).2.1.upd u (OwnG.lt a.mem hb),(a.mb b hb).2.2⟩⟩
theorem CrAt.list{h':Heap}{mv':Value}{M':List (Nat×Nat)}{n':Nat}(a:CrAt h0 h g x o sp mv M s p n)(m:Mod (fun b=>blkG mv=some b) h h')(o':MnAt h' g.c mv' M')(hb:∀b,blkG mv'=some b->blkG mv=some b\/h.size<=b)(c:CI g x M' p.f)(hr:∀r∈M',1<=r.2/\r.2<=200/\r.1+r.2<=g.room)(hf:M'.length<=n')(hn:n<=n'):CrAt h0 h' g x o sp mv' M' s p n':=by
 have z0:=a.ext.size
 have hro:=get_some_lt a.ra.rg
 exact⟨a.ra.side m (fun b e=>(a.mb b e).2),c,Nat.le_trans a.stp omg,hr,o',hf,m.ext_from a.ext (fun b hb e=>by have:=(a.mb b e).1;omega),a.foot,
  fun b e=>(hb b e).elim (a.mb b) (fun e=>⟨by omega,Aside.new a.ra.st e,by omega⟩)⟩
theorem cAlloc_c{nn:Nat}(a:CrAt h0 h g x o sp mv M s p n)(hg:g.b<=12)(hn:n<=100)(n1:1<=nn)(n2:nn<=200)
 (H6:∀h' e,CrAt h0 h' g x o sp mv M s p n->Ext h h'->e≠0->K (.tuple #[.int .i64 0,.int .i64 e]) h')
 (HE:∀h' s' p' e,CrAt h0 h' g x o sp mv M s' p' (n+1)->Mod (s.foot sp) h h'->e≠0->K (.tuple #[.int .i64 0,.int .i64 e]) h')
 (H:∀h' s' p' st,CrAt h0 h' g x o sp mv M s' p' (n+1)->Mod (s.foot sp) h h'->CI g x (M++[(st,nn)]) p'.f->st+nn<=g.room->K (.tuple #[.int .i64 (st*g.c:Nat),.int .i64 0]) h') :
 CallsH Tryz.prog 12 #[ptrV o,.int .i64 (nn:Nat)] h K ⟨⟩:=by
 have kk:=a.ra.ok
 have hc8:=kk.c8 hg
 have hst:=a.stp
 have hs1:nn*(5+g.c/512)<=200*13:=Nat.mul_le_mul n2 omg
 refine gAlloc_c (nn:=nn) a.ra a.ci.img n1 omg omg (fun h' e' _=>H6 h' 6 (a.exts e') e' dM) (fun h' s' p' e st u f st1 st2 fr fit A=>?_)
 obtain⟨c1,c2,c3⟩:=ci_AEnd a.ci kk st2 fit A
 have b:=a.upd (n':=n+1) u f c1 omg omg
 by_cases e0:e=0
 ·subst e0
  rw[if_pos rfl]
  exact H h' s' p' st b u.mod (c3 rfl) st2
 ·rw[if_neg e0]
  exact HE h' s' p' e b u.mod e0
theorem cAdd_c{i:Nat}{va:Option Addr}{vn vc:Nat}(a:CrAt h0 h g x o sp mv M s p n)(hg:g.b<=12)(hn:n<=100)(hi:i<M.length)(ov:OwnG i6T 1 h (.slice va vn vc) ([((M[i].1:Nat):Int)].map ik))
 (H:∀h' s' p' e,CrAt h0 h' g x o sp mv M s' p' (n+1)->Mod (s.foot sp) h h'->K (.int .i64 e) h') :
 CallsH Tryz.prog 15 #[ptrV o,.int .i64 1,.slice va vn vc] h K ⟨⟩:=by
 have kk:=a.ra.ok
 have hmem:=List.getElem_mem hi
 have hok:=a.rm _ hmem
 have hc8:=kk.c8 hg
 have hst:=a.stp
 have hrl:=kk.room_lt
 have hf:inR M[i] M[i].1:=⟨Nat.le_refl _,by omega⟩
 have hcm:=a.ci.mine _ hmem _ hf
 have hk:∀k:Nat,(k:Int)∈[((M[i].1:Nat):Int)]->k=M[i].1:=fun k hk=>by have:=List.mem_singleton.1 hk;omega
 refine gAdd_c a.ra a.ci.img dM ov sM (fun k hk=>by have:=List.mem_singleton.1 hk;omega) (fun _ _ k hk' hw=>?_) (fun e=>absurd e dM) (by simp;omega) (fun h' e' e1=>absurd rfl e1) (fun h' e' _ hno=>absurd (fun k hk=>by have:=List.mem_singleton.1 hk;omega) hno) (fun h' e' e1=>absurd e1 dM) (fun h' e' _ _ _=>H h' s p 6 ((a.exts e').mono omg) (Mod.of_ext e')) (fun h' s' ks bs Q u f=>?_)
 ·exfalso
  rw[hk k hk']at hw
  have:=hcm.2
  unfold Gm.cnt at this
  rw[if_pos hw]at this;omega
 ·have S:=(Q.all kk a.ci.ok a.ci.img).1.stp
  have c:=ci_asked a.ci kk Q
  exact H h' s' _ _ (a.upd (n':=n+1) u f c (by simp at S;omega) omg) u.mod
end
section
open Go Go.ChangeShapes Go.WideShapes Go.ChangeAt Go.RowKit Go.Deep
variable {H:Type}{enc:TypeId×Value->H}{w:World}{base:Nat}{sp:Nat->Bool}{held:Bool}
theorem len4r{l:List Value}(h:l.length=4):∃a b c d,l=[a,b,c,d]:=by
 match l,h with
 | [a,b,c,d],_=>exact⟨a,b,c,d,rfl⟩
set_option maxRecDepth 100000 in
theorem laid_img4{cs:List Value}(h:Go.Vc.Laid enc Tryz.prog w base sp held 23 cs):∃b o l s:Int,cs=[.int .i64 b,.int .i64 o,.int .i64 l,.int .i64 s]/\i64 b/\i64 o/\i64 l/\i64 s:=by
 obtain⟨hl,hM⟩:=h.flds (L:=[(3,0,1),(3,1,1),(3,2,1),(2,3,1)]) (n:=4) kR kR
 obtain⟨c0,c1,c2,c3,rfl⟩:=len4r hl
 obtain⟨n0,hn0,r0⟩:=(hM 0 _ _ _ rfl).int (k:=.i64) kR
 obtain rfl:c0 = .int .i64 n0:=by simpa using hn0
 obtain⟨n1,hn1,r1⟩:=(hM 1 _ _ _ rfl).int (k:=.i64) kR
 obtain rfl:c1 = .int .i64 n1:=by simpa using hn1
 obtain⟨n2,hn2,r2⟩:=(hM 2 _ _ _ rfl).int (k:=.i64) kR
 obtain rfl:c2 = .int .i64 n2:=by simpa using hn2
 obtain⟨n3,hn3,r3⟩:=(hM 3 _ _ _ rfl).int (k:=.i64) kR
 obtain rfl:c3 = .int .i64 n3:=by simpa using hn3
 exact⟨n0,n1,n2,n3,rfl,i64_of r0,i64_of r1,i64_of r2,i64_of r3⟩
set_option maxRecDepth 100000 in
theorem laid_rp{cs:List Value}(h:Go.Vc.Laid enc Tryz.prog w base sp held 37 cs):∃x:Rp,cs=x.cells/\RpOk x:=by
 obtain⟨hl,hM⟩:=h.flds (L:=[(3,0,1),(3,1,1),(2,2,1),(2,3,1)]) (n:=4) kR kR
 obtain⟨c0,c1,c2,c3,rfl⟩:=len4r hl
 obtain⟨n0,hn0,r0⟩:=(hM 0 _ _ _ rfl).int (k:=.i64) kR
 obtain rfl:c0 = .int .i64 n0:=by simpa using hn0
 obtain⟨n1,hn1,r1⟩:=(hM 1 _ _ _ rfl).int (k:=.i64) kR
 obtain rfl:c1 = .int .i64 n1:=by simpa using hn1
 obtain⟨n2,hn2,r2⟩:=(hM 2 _ _ _ rfl).int (k:=.i64) kR
 obtain rfl:c2 = .int .i64 n2:=by simpa using hn2
 obtain⟨n3,hn3,r3⟩:=(hM 3 _ _ _ rfl).int (k:=.i64) kR
 obtain rfl:c3 = .int .i64 n3:=by simpa using hn3
 exact⟨⟨n0,n1,n2,n3⟩,rfl,i64_of r0,i64_of r1,i64_of r2,i64_of r3⟩
set_option maxRecDepth 100000 in
theorem laid_rps{cs:List Value}(h:Go.Vc.Laid enc Tryz.prog w base sp held 24 cs):∃(v:Value) (xs:List Rp),cs=[v]/\Rps w.heap v xs:=by
 obtain⟨v,xs,rfl,hs,hl⟩:=h.slice (e:=37) (R:=fun us (x:Rp)=>us=x.cells/\RpOk x) kR (fun us hu=>laid_rp hu)
 have hc:Program.cellsOf Tryz.prog 37=4:=by kernel_rfl
 rw[hc]at hs
 obtain⟨s1,s2⟩:=slc_ok (f:=Rp.cells) hs (fun us x hx=>hx)
 exact⟨v,xs,rfl,s1,s2,max63 hl⟩
end
end Go.Proofs.YtdccfkffabngjaaGreat

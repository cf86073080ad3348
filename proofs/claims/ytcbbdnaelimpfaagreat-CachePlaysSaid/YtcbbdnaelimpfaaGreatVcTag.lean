/- Slices of one's own whose block bears the element's type: so that blocks of two types are two. -/
import Derived.Test.YtcbbdnaelimpfaaGreatVcPtr
namespace Go.Vc
open Go
set_option linter.unusedSimpArgs false
set_option linter.unusedVariables false
section
variable {P:Program} {q:Bool} {K:VP} {h:Heap}

def ptrV (b:Nat):Value := .pointer (some ⟨b,0,none⟩)
def OwnT (e s:Nat) (h:Heap) (v:Value) (vs:List Value):Prop :=
 (v = .slice none 0 0∧vs=[])∨∃b n c rest,v = .slice (some ⟨b,0,none⟩) n c∧vs.length=n*s∧n≤c∧h[b]? = some (.cells (vs++rest).toArray e)∧(vs++rest).length=c*s
theorem OwnT.nil {e s:Nat}:OwnT e s h (.slice none 0 0) [] := .inl ⟨rfl,rfl⟩
theorem OwnT.own {e s:Nat} {v:Value} {vs:List Value} (o:OwnT e s h v vs):OwnS s h v vs:=by
 rcases o with o|⟨b,n,c,rest,rfl,h1,h2,h3,h4⟩
 ·exact .inl o
 ·exact .inr ⟨b,n,c,rest,e,(0,0),rfl,h1,h2,h3,h4,fun i _ hh=>absurd hh.2 (Nat.not_lt_zero _)⟩
theorem OwnT.mod {e s:Nat} {S:Nat→Prop} {h':Heap} {v:Value} {vs:List Value} (o:OwnT e s h v vs) (m:Mod S h h') (hS:∀b,blkV v=some b→¬S b):OwnT e s h' v vs:=by
 rcases o with o|⟨b,n,c,rest,rfl,h1,h2,h3,h4⟩
 ·exact .inl o
 ·exact .inr ⟨b,n,c,rest,rfl,h1,h2,(m.block b (get_some_lt h3) (hS b rfl)).trans h3,h4⟩
theorem OwnT.ext {e s:Nat} {h':Heap} {v:Value} {vs:List Value} (o:OwnT e s h v vs) (x:Ext h h'):OwnT e s h' v vs:=o.mod (S:=fun _=>False) (.of_ext x) (fun _ _ x=>x)
theorem OwnT.tag {e s b:Nat} {v:Value} {vs:List Value} (o:OwnT e s h v vs) (hb:blkV v=some b):∃arr,h[b]? = some (.cells arr e):=by
 rcases o with ⟨rfl,-⟩|⟨b',n,c,rest,rfl,h1,h2,h3,h4⟩
 ·cases hb
 ·cases hb; exact ⟨_,h3⟩
theorem OwnT.lt {e s b:Nat} {v:Value} {vs:List Value} (o:OwnT e s h v vs) (hb:blkV v=some b):b<h.size:=by
 obtain ⟨arr,ha⟩:=o.tag hb
 exact get_some_lt ha
theorem OwnT.ne {e s b c e':Nat} {v:Value} {vs:List Value} {arr:Array Value} (o:OwnT e s h v vs) (hb:blkV v=some b) (hc:h[c]? = some (.cells arr e')) (hne:e≠e'):b≠c:=fun x=>by
 obtain ⟨arr',ha⟩:=o.tag hb
 subst x; rw [ha] at hc; cases hc; exact hne rfl
theorem OwnT.form {e s:Nat} {v:Value} {vs:List Value} (o:OwnT e s h v vs) (hs:0<s):∃a n c,v = .slice a n c∧vs.length=n*s∧n≤c∧(vs≠[]→∃b,a=some ⟨b,0,none⟩):=by
 rcases o with ⟨rfl,rfl⟩|⟨b,n,c,rest,rfl,h1,h2,h3,h4⟩
 ·exact ⟨none,0,0,rfl,by simp,Nat.le_refl _,fun h=>absurd rfl h⟩
 ·exact ⟨_,n,c,rfl,h1,h2,fun _=>⟨b,rfl⟩⟩
theorem OwnT.cell {e s b n c i:Nat} {vs:List Value} (o:OwnT e s h (.slice (some ⟨b,0,none⟩) n c) vs) (hi:i<vs.length):hcell h ⟨b,i,none⟩=some vs[i]∧hfrozen h ⟨b,i,none⟩=false:=by
 rcases o with ⟨hv,-⟩|⟨b',n',c',rest,hv,h1,h2,h3,h4⟩
 ·cases hv
 ·cases hv
  constructor
  ·rw [hcell_of_block h3]
   simp [hi,List.getElem?_append_left]
  ·rw [hfrozen_of_block h3]; simp
theorem OwnT.elt {e s b n c i:Nat} {vs:List Value} (o:OwnT e s h (.slice (some ⟨b,0,none⟩) n c) vs) (hi:i<vs.length):hcell h (elt ⟨b,0,none⟩ i)=some vs[i]∧hfrozen h (Go.Vc.elt ⟨b,0,none⟩ i)=false:=by
 rw [elt_mk,Nat.zero_add]; exact o.cell hi
theorem OwnT.set {e s b n c i:Nat} {vs:List Value} {u:Value} (o:OwnT e s h (.slice (some ⟨b,0,none⟩) n c) vs) (hi:i<vs.length):OwnT e s (hset h ⟨b,i,none⟩ u) (.slice (some ⟨b,0,none⟩) n c) (vs.set i u):=by
 rcases o with ⟨hv,-⟩|⟨b',n',c',rest,hv,h1,h2,h3,h4⟩
 ·cases hv
 ·cases hv
  refine .inr ⟨b,n,c,rest,rfl,by simpa using h1,h2,?_,by simpa using h4⟩
  rw [hset_of_block h3,get_put (get_some_lt h3)]
  congr 2
  apply Array.ext'
  simp [List.set_append,hi]
theorem OwnT.setE {e s b n c i:Nat} {vs:List Value} {u:Value} (o:OwnT e s h (.slice (some ⟨b,0,none⟩) n c) vs) (hi:i<vs.length):OwnT e s (hset h (Go.Vc.elt ⟨b,0,none⟩ i) u) (.slice (some ⟨b,0,none⟩) n c) (vs.set i u):=by
 rw [elt_mk,Nat.zero_add]; exact o.set hi
def concT (P:Program) (t:TypeId):Bool:=match P.underlying t with|some (.interface _)=>false|none=>false|some _=>true
theorem Hp_assert {t xt:TypeId} {v:Value} (ht:concT P t=true):Hp P q (Instr.typeAssert (.iface t v) xt t false) K h ⟨⟩↔K v h:=by
 unfold concT at ht
 rw [Hp_iff]
 unfold Instr.typeAssert
 simp only
 cases hu:P.underlying t with
 | none=>rw [hu] at ht; cases ht
 | some d =>
  rw [hu] at ht
  rw [hp_bind',hp_underlying hu]
  cases d<;>first|(cases ht; done)|(simp only [if_true,Bool.false_eq_true,if_false]; exact Iff.rfl)
theorem Hp_mkIface {t:TypeId} {v:Value} (ht:concT P t=true):Hp P q (Instr.makeInterface t v) K h ⟨⟩↔K (.iface t v) h:=by
 unfold concT at ht
 rw [Hp_iff]
 unfold Instr.makeInterface
 cases hu:P.underlying t with
 | none=>rw [hu] at ht; cases ht
 | some d =>
  rw [hu] at ht
  rw [hp_bind',hp_underlying hu]
  cases d<;>first|(cases ht; done)|exact Iff.rfl
theorem Src_new {vs:List Value} {e s n:Nat} (hv:vs.length=n*s):Src s (h.push (.cells vs.toArray e)) (.slice (some ⟨h.size,0,none⟩) n n) n vs :=
 .inr (.inl ⟨⟨h.size,0,none⟩,n,rfl,hv,Seg_new rfl⟩)
theorem obj_set {b i:Nat} {arr:Array Value} {t:TypeId} {v:Value} (hb:h[b]? = some (.cells arr t)):(hset h ⟨b,i,none⟩ v)[b]? = some (.cells (arr.setIfInBounds i v) t):=by
 rw [hset_of_block hb,get_put (get_some_lt hb)]
theorem InvokeH_k1 {g:FuncId} {a c1:Value} (hc:callOk P g=true) (H:CallsH P g #[a,c1] h K ⟨⟩):InvokeH P (.func (.func g) #[] #[c1]) #[a] h K ⟨⟩:=InvokeH_func hc (by simpa using H)
theorem InvokeH_f1k1 {g:FuncId} {a f1:Value} (hc:callOk P g=true) (H:CallsH P g #[f1,a] h K ⟨⟩):InvokeH P (.func (.func g) #[f1] #[]) #[a] h K ⟨⟩:=InvokeH_func hc (by simpa using H)
theorem Hp_appendT {t t2 e s by_ n k:Nat} {v x:Value} {vs news:List Value} (ht:slT P t e s by_=true) (ht2:notInt P t2=true) (ho:OwnT e s h v vs) (hn:vs.length=n*s) (hs:0<s) (hx:Src s h x k news) (hone:∀u∈news,one u=true)
 (hB:(2*(n+k)+1024)*by_≤281474976710656) (hb0:0<by_)
 (H:∀v' h',OwnT e s h' v' (vs++news)→Mod (fun b=>blkV v=some b) h h'→(∀b,blkV v'=some b→blkV v=some b∨h.size≤b)→(news≠[]→∃b c,v' = .slice (some ⟨b,0,none⟩) (n+k) c)→K v' h') :
 Hp P false (Builtin.append_ #[t,t2] t #[v,x]) K h ⟨⟩:=by
 obtain ⟨i,z,hu,hi,hsz,hby,hz,hzs⟩:=slT_spec ht
 rw [Hp_iff]
 have hnl:=hx.len
 obtain ⟨base,c,hv,hown⟩:∃base c,v = .slice base n c∧(base=none∧vs=[]∧n=0∧c=0∨∃b rest,base=some ⟨b,0,none⟩∧n≤c∧h[b]? = some (.cells (vs++rest).toArray e)∧(vs++rest).length=c*s):=by
  rcases ho with ⟨rfl,rfl⟩|⟨b,n',c,rest,rfl,h1,h2,h3,h4⟩
  ·have:n=0:=by
    rcases Nat.eq_zero_or_pos n with h|h
    ·exact h
    ·have:=Nat.mul_pos h hs; simp at hn; omega
   subst this
   exact ⟨none,0,rfl,.inl ⟨rfl,rfl,rfl,rfl⟩⟩
  ·have:n'=n:=Nat.eq_of_mul_eq_mul_right hs (h1.symm.trans hn)
   subst this
   exact ⟨_,c,rfl,.inr ⟨b,rest,rfl,h2,h3,h4⟩⟩
 subst hv
 have hz2:∀(K:TypeDesc→Heap→Prop),∃d,(hp P false (underlying t2) K h↔K d h)∧∀k,d ≠ .int k:=by
  intro K
  unfold notInt at ht2
  cases hu2:P.underlying t2 with
  | none=>rw [hu2] at ht2; cases ht2
  | some d =>
   rw [hu2] at ht2
   exact ⟨d,hp_underlying hu2,fun k e=>by rw [e] at ht2; cases ht2⟩
 unfold Builtin.append_
 simp only [List.getElem?_toArray,List.getElem?_cons_succ,List.getElem?_cons_zero,List.getElem_toArray,List.getElem_cons_succ,List.getElem_cons_zero]
 rw [hp_bind',hp_underlying hu]
 simp only
 rw [hp_bind',hp_sizeOf hi]
 rw [hp_bind']
 obtain ⟨d,hd,hnd⟩:=hz2 _
 rw [hd]
 split
 ·exact absurd rfl (hnd _)
 simp only [pure_bind,Bool.false_eq_true,if_false,Bool.not_false,if_true,false_or]
 rw [hp_bind',hp_lenOf hx]
 by_cases hcap:n+k≤c
 ·rw [if_pos hcap]
  rw [hp_bind',hsz,hp_firstCells hx (Nat.le_refl _),←hnl,List.take_length]
  rcases hown with ⟨rfl,rfl,rfl,rfl⟩|⟨b,rest,rfl,h2,h3,h4⟩
  ·have hk0:k=0:=by omega
   subst hk0
   have hnews:news=[]:=by simpa using hnl
   subst hnews
   exact H _ h (.inl ⟨rfl,rfl⟩) (.refl _ _) (fun b hb=>by cases hb) (fun hh=>absurd rfl hh)
  ·simp only
   rw [hp_bind']
   have hlen:vs.length+news.length≤(vs++rest).length:=by
    rw [h4,hn,hnl,←Nat.add_mul]; exact Nat.mul_le_mul_right _ hcap
   have hrest:news.length≤rest.length:=by simp at hlen; omega
   rw [←hn]
   refine hp_storeCells_own h3 (fun i _ hh=>absurd hh.2 (Nat.not_lt_zero _)) hlen (by simpa using hone) ?_
   refine H _ _ (.inr ⟨b,n+k,c,rest.drop news.length,rfl,by simp [hn,hnl,Nat.add_mul],hcap,?_,?_⟩) ((Mod.write _ news h vs.length).mono (fun _ _ e=>by rw [e]; rfl)) (fun b' hb' => .inl hb') (fun _=>⟨b,c,rfl⟩)
   ·rw [hwrite_of_block news h vs.length (vs++rest) h3 hlen]
    congr 3
    unfold over
    rw [List.take_append_of_le_length (Nat.le_refl _),List.take_length,List.drop_append,List.drop_eq_nil_of_le (Nat.le_add_right _ _),List.nil_append,Nat.add_sub_cancel_left]
   ·simp only [List.length_append,List.length_drop]; rw [←h4]; simp; omega
 ·rw [if_neg hcap]
  have hlt:c<n+k:=by omega
  have hcapb:=nextcap_le hlt
  have hNB:Builtin.nextslicecap (n+k) c*by_≤281474976710656:=Nat.le_trans (Nat.mul_le_mul_right _ hcapb) hB
  have hsmall:n+k<140737488355328:=by
   have h1:(2*(n+k)+1024)*1≤(2*(n+k)+1024)*by_:=Nat.mul_le_mul_left _ hb0
   omega
  rw [hp_bind',hp_info hi]
  rw [if_neg (by rw [hby]; rintro ⟨_,h0⟩; omega)]
  rw [hp_bind',hp_info hi]
  rw [if_neg (by rw [hby]; have:(2:Nat)^48=281474976710656:=by decide
                 omega)]
  rw [hp_bind']
  refine choose_cap (by have:(2:Nat)^63=9223372036854775808:=by decide
                        omega) fun nc hnc => ?_
  rw [hp_bind',hp_info hi,hp_bind',hp_askRoom]
  have hsrc:Src s h (.slice base n c) n vs:=by
   rcases hown with ⟨rfl,rfl,rfl,rfl⟩|⟨b,rest,rfl,h2,h3,h4⟩
   ·exact .inl ⟨rfl,rfl,rfl⟩
   ·exact .inr (.inl ⟨_,_,rfl,hn,ho.own.seg.2.2⟩)
  rw [hp_bind',hsz,hp_firstCells hsrc (Nat.le_refl _),←hn,List.take_length]
  rw [hp_bind',hp_firstCells hx (Nat.le_refl _),←hnl,List.take_length]
  rw [hp_bind',hp_zeroValue hi hz,hp_bind']
  refine hp_newRow ?_
  have hrl:(Builtin.zeroCells z.cells (nc-(n+k))).toList.length=(nc-(n+k))*s:=by
   rw [Array.length_toList,zeroCells_size,hzs]
  have hcells:vs.toArray++news.toArray++Builtin.zeroCells z.cells (nc-(n+k))=((vs++news)++(Builtin.zeroCells z.cells (nc-(n+k))).toList).toArray:=by
   apply Array.ext'; simp
  rw [hcells]
  refine H _ _ (.inr ⟨h.size,n+k,nc,(Builtin.zeroCells z.cells (nc-(n+k))).toList,rfl,by simp [hn,hnl,Nat.add_mul],hnc,by simp,?_⟩)
   (.push _ _ _) (fun b hb => .inr (by cases hb; exact Nat.le_refl _)) (fun _=>⟨_,_,rfl⟩)
  rw [List.length_append,hrl,List.length_append,hn,hnl,←Nat.add_mul,←Nat.add_mul]
  congr 1; omega
theorem Hp_appP {t t2 e by_:Nat} {v u:Value} {vs:List Value} (ht:slT P t e 1 by_=true) (ht2:notInt P t2=true) (ho:OwnT e 1 h v vs) (hone:one u=true) (hB:(2*(vs.length+1)+1024)*by_≤281474976710656) (hb0:0<by_)
 (H:∀v' h',OwnT e 1 h' v' (vs++[u])→Mod (fun b=>blkV v=some b) h h'→(∀b,blkV v'=some b→blkV v=some b∨h.size≤b)→K v' h') :
 Hp P false (Builtin.append_ #[t,t2] t #[v,.slice (some ⟨h.size,0,none⟩) 1 1]) K (h.push (.cells #[u] e)) ⟨⟩:=by
 have hbs:Ext h (h.push (.cells #[u] e)):=push_ext (.refl h)
 refine Hp_appendT (e:=e) (by_:=by_) ht ht2 (ho.ext hbs) (by rw [Nat.mul_one]) omg (Src_new (vs:=[u]) rfl) (by simpa using hone) hB hb0 fun v' h3 hO hM hF _ => ?_
 exact H v' h3 hO ((Mod.of_ext hbs).trans hM (fun _ _ e=>e)) (fun b hb=>(hF b hb).imp (fun e=>e) (fun e=>by simp at e; omega))
end
end Go.Vc

/- Slices of one's own anywhere in a block,of any capacity; parts of them,appended to,cloned. -/
import Derived.Test.YtcbbdnaelimpfaaGreatVcSec
import Derived.Test.YtcbbdnaelimpfaaGreatVcMulti
namespace Go.Vc
open Go
set_option linter.unusedSimpArgs false
set_option linter.unusedVariables false
set_option linter.unusedSectionVars false
section
variable {P:Program} {q:Bool} {K:VP} {h:Heap}

def blkG:Value→Option Nat
 | .slice (some a) _ (_+1)=>some a.block
 | _=>none
def OwnG (e s:Nat) (h:Heap) (v:Value) (vs:List Value):Prop :=
 (∃a,v = .slice a 0 0∧vs=[])∨∃b o n c pre rest,v = .slice (some ⟨b,o,none⟩) n (c+1)∧vs.length=n*s∧n≤c+1∧pre.length=o∧h[b]? = some (.cells (pre++vs++rest).toArray e)∧o+(c+1)*s≤(pre++vs++rest).length
theorem OwnG.nil {e s:Nat} {a:Option Addr}:OwnG e s h (.slice a 0 0) [] := .inl ⟨a,rfl,rfl⟩
theorem OwnT.g {e s:Nat} {v:Value} {vs:List Value} (o:OwnT e s h v vs):OwnG e s h v vs:=by
 rcases o with ⟨rfl,rfl⟩|⟨b,n,c,rest,rfl,h1,h2,h3,h4⟩
 ·exact .inl ⟨_,rfl,rfl⟩
 ·cases c with
  | zero =>
   have:n=0:=by omega
   subst this
   have:vs=[]:=by simpa using h1
   exact .inl ⟨_,rfl,this⟩
  | succ c=>exact .inr ⟨b,0,n,c,[],rest,rfl,h1,h2,rfl,h3,by simpa using Nat.le_of_eq h4.symm⟩
theorem OwnG.mod {e s:Nat} {S:Nat→Prop} {h':Heap} {v:Value} {vs:List Value} (o:OwnG e s h v vs) (m:Mod S h h') (hS:∀b,blkG v=some b→¬S b):OwnG e s h' v vs:=by
 rcases o with o|⟨b,o,n,c,pre,rest,rfl,h1,h2,h3,h4,h5⟩
 ·exact .inl o
 ·exact .inr ⟨b,o,n,c,pre,rest,rfl,h1,h2,h3,(m.block b (get_some_lt h4) (hS b rfl)).trans h4,h5⟩
theorem OwnG.ext {e s:Nat} {h':Heap} {v:Value} {vs:List Value} (o:OwnG e s h v vs) (x:Ext h h'):OwnG e s h' v vs:=o.mod (S:=fun _=>False) (.of_ext x) (fun _ _ x=>x)
theorem OwnG.tag {e s b:Nat} {v:Value} {vs:List Value} (o:OwnG e s h v vs) (hb:blkG v=some b):∃arr,h[b]? = some (.cells arr e):=by
 rcases o with ⟨a,rfl,-⟩|⟨b',o,n,c,pre,rest,rfl,h1,h2,h3,h4,h5⟩
 ·cases a<;>cases hb
 ·cases hb; exact ⟨_,h4⟩
theorem OwnG.lt {e s b:Nat} {v:Value} {vs:List Value} (o:OwnG e s h v vs) (hb:blkG v=some b):b<h.size:=by
 obtain ⟨arr,ha⟩:=o.tag hb
 exact get_some_lt ha
theorem OwnG.ne {e s b c e':Nat} {v:Value} {vs:List Value} {arr:Array Value} (o:OwnG e s h v vs) (hb:blkG v=some b) (hc:h[c]? = some (.cells arr e')) (hne:e≠e'):b≠c:=fun x=>by
 obtain ⟨arr',ha⟩:=o.tag hb
 subst x; rw [ha] at hc; cases hc; exact hne rfl
theorem OwnG.neM {e s b c:Nat} {v:Value} {vs:List Value} {es:Array MapEntry} {cl:Nat} (o:OwnG e s h v vs) (hb:blkG v=some b) (hc:h[c]? = some (.map es cl)):b≠c:=fun x=>by
 obtain ⟨arr',ha⟩:=o.tag hb
 subst x; rw [ha] at hc; cases hc
theorem OwnG.form {e s:Nat} {v:Value} {vs:List Value} (o:OwnG e s h v vs):∃a n c,v = .slice a n c∧vs.length=n*s∧n≤c∧(vs≠[]→∃b o,a=some ⟨b,o,none⟩):=by
 rcases o with ⟨a,rfl,rfl⟩|⟨b,o,n,c,pre,rest,rfl,h1,h2,h3,h4,h5⟩
 ·exact ⟨a,0,0,rfl,by simp,Nat.le_refl _,fun h=>absurd rfl h⟩
 ·exact ⟨_,n,c+1,rfl,h1,h2,fun _=>⟨b,o,rfl⟩⟩
theorem OwnG.cell {e s n c i:Nat} {a:Addr} {vs:List Value} (o:OwnG e s h (.slice (some a) n c) vs) (hi:i<vs.length):hcell h (elt a i)=some vs[i]∧hfrozen h (Go.Vc.elt a i)=false:=by
 rcases o with ⟨a,hv,rfl⟩|⟨b',o',n',c',pre,rest,hv,h1,h2,h3,h4,h5⟩
 ·cases hi
 ·cases hv
  subst h3
  rw [elt_mk]
  constructor
  ·rw [hcell_of_block h4]
   simp [hi,List.getElem?_append_right,List.getElem?_append_left,List.append_assoc]
  ·rw [hfrozen_of_block h4]; simp
theorem OwnG.seg {e s n c:Nat} {a:Addr} {vs:List Value} (o:OwnG e s h (.slice (some a) n c) vs):Seg h a vs:=fun i hi=>(o.cell hi).1
theorem OwnG.src {e s n c:Nat} {a:Option Addr} {vs:List Value} (o:OwnG e s h (.slice a n c) vs):Src s h (.slice a n c) n vs:=by
 cases a with
 | none =>
  rcases o with ⟨a,hv,rfl⟩|⟨b',o',n',c',pre,rest,hv,h1,h2,h3,h4,h5⟩
  ·cases hv; exact .inl ⟨rfl,rfl,rfl⟩
  ·cases hv
 | some a =>
  refine .inr (.inl ⟨a,c,rfl,?_,o.seg⟩)
  obtain ⟨a',n',c',hv,h1,_⟩:=o.form
  cases hv; exact h1
theorem OwnG.bytes {e:Nat} {v:Value} {l:List UInt8} (o:OwnG e 1 h v (l.map byteV)):Bytes h v l:=by
 obtain ⟨a,n,c,rfl,h1,h2,h3⟩:=o.form
 have hn:n=l.length:=by simpa using h1.symm
 subst hn
 cases a with
 | none =>
  rcases o with ⟨a,hv,hl⟩|⟨b',o',n',c',pre,rest,hv,_⟩
  ·have:l=[]:=by simpa using hl
   subst this
   simp at hv
   exact .inl ⟨by simp [hv.2],rfl⟩
  ·cases hv
 | some a=>exact .inr ⟨a,c,rfl,h2,At_seg.2 o.seg⟩

theorem Hp_appendG {t t2 e s by_ n k:Nat} {v x:Value} {vs news:List Value} (ht:slT P t e s by_=true) (ht2:notInt P t2=true) (ho:OwnG e s h v vs) (hn:vs.length=n*s) (hs:0<s) (hx:Src s h x k news) (hone:∀u∈news,one u=true)
 (hB:(2*(n+k)+1024)*by_≤281474976710656) (hb0:0<by_)
 (H:∀v' h',OwnG e s h' v' (vs++news)→Mod (fun b=>blkG v=some b) h h'→(∀b,blkG v'=some b→blkG v=some b∨h.size≤b)→(∀b,blkV v'=some b→blkV v=some b∨h.size≤b)→K v' h') :
 Hp P false (Builtin.append_ #[t,t2] t #[v,x]) K h ⟨⟩:=by
 obtain ⟨i,z,hu,hi,hsz,hby,hz,hzs⟩:=slT_spec ht
 rw [Hp_iff]
 have hnl:=hx.len
 obtain ⟨base,c,hv,hown⟩:∃base c,v = .slice base n c∧(vs=[]∧n=0∧c=0∨∃b o c' pre rest,base=some ⟨b,o,none⟩∧c=c'+1∧n≤c∧pre.length=o∧h[b]? = some (.cells (pre++vs++rest).toArray e)∧o+c*s≤(pre++vs++rest).length):=by
  rcases ho with ⟨a,rfl,rfl⟩|⟨b,o,n',c,pre,rest,rfl,h1,h2,h3,h4,h5⟩
  ·have:n=0:=by
    rcases Nat.eq_zero_or_pos n with h|h
    ·exact h
    ·have:=Nat.mul_pos h hs; simp at hn; omega
   subst this
   exact ⟨a,0,rfl,.inl ⟨rfl,rfl,rfl⟩⟩
  ·have:n'=n:=Nat.eq_of_mul_eq_mul_right hs (h1.symm.trans hn)
   subst this
   exact ⟨_,c+1,rfl,.inr ⟨b,o,c,pre,rest,rfl,rfl,h2,h3,h4,h5⟩⟩
 subst hv
 have hz2:∀(K:TypeDesc→Heap→Prop),∃d,(hp P false (underlying t2) K h↔K d h)∧∀k,d ≠ .int k:=by
  intro K
  unfold notInt at ht2
  cases hu2:P.underlying t2 with
  | none=>rw [hu2] at ht2; cases ht2
  | some d =>
   rw [hu2] at ht2
   exact ⟨d,hp_underlying hu2,fun k e=>by rw [e] at ht2; cases ht2⟩
 unfold Builtin.append_
 simp only [List.getElem?_toArray,List.getElem?_cons_succ,List.getElem?_cons_zero,List.getElem_toArray,List.getElem_cons_succ,List.getElem_cons_zero]
 rw [hp_bind',hp_underlying hu]
 simp only
 rw [hp_bind',hp_sizeOf hi]
 rw [hp_bind']
 obtain ⟨d,hd,hnd⟩:=hz2 _
 rw [hd]
 split
 ·exact absurd rfl (hnd _)
 simp only [pure_bind,Bool.false_eq_true,if_false,Bool.not_false,if_true,false_or]
 rw [hp_bind',hp_lenOf hx]
 by_cases hcap:n+k≤c
 ·rw [if_pos hcap]
  rw [hp_bind',hsz,hp_firstCells hx (Nat.le_refl _),←hnl,List.take_length]
  rcases hown with ⟨rfl,rfl,rfl⟩|⟨b,o,c',pre,rest,rfl,rfl,h2,h3,h4,h5⟩
  ·have hk0:k=0:=by omega
   subst hk0
   have hnews:news=[]:=by simpa using hnl
   subst hnews
   cases base with
   | none=>exact H _ h (.inl ⟨_,rfl,rfl⟩) (.refl _ _) (fun b hb=>by cases hb) (fun b hb => .inl hb)
   | some a =>
    simp only
    rw [hp_bind',hp_storeCells [] 0 _ h (fun v hv=>by cases hv)]
    exact H _ h (.inl ⟨_,rfl,rfl⟩) (.refl _ _) (fun b hb=>by cases hb) (fun b hb => .inl hb)
  ·simp only
   rw [hp_bind']
   subst h3
   have hle:n*s+k*s≤(c'+1)*s:=by rw [←Nat.add_mul]; exact Nat.mul_le_mul_right _ hcap
   have hlen:pre.length+vs.length+news.length≤(pre++vs++rest).length:=by omega
   have hrest:news.length≤rest.length:=by simp at hlen; omega
   rw [←hn]
   have ea:(⟨b,pre.length,none⟩:Addr).add vs.length=(⟨b,0,none⟩:Addr).add (pre.length+vs.length):=by
    show elt _ _=elt _ _
    rw [elt_mk,elt_mk,Nat.zero_add]
   rw [ea]
   refine hp_storeCells_own h4 (fun i _ hh=>absurd hh.2 (Nat.not_lt_zero _)) hlen (by simpa using hone) ?_
   refine H _ _ (.inr ⟨b,pre.length,n+k,c',pre,rest.drop news.length,rfl,by simp [hn,hnl,Nat.add_mul],hcap,rfl,?_,?_⟩) ((Mod.write _ news h _).mono (fun _ _ e=>by rw [e]; rfl)) (fun b' hb' => .inl hb') (fun b' hb' => .inl hb')
   ·rw [hwrite_of_block news h (pre.length+vs.length) (pre++vs++rest) h4 hlen]
    congr 3
    unfold over
    have e1:pre.length+vs.length=(pre++vs).length:=by simp
    rw [e1,List.take_append_of_le_length (Nat.le_refl _),List.take_length,List.drop_append,List.drop_eq_nil_of_le (Nat.le_add_right _ _),List.nil_append,Nat.add_sub_cancel_left]
    simp only [List.append_assoc]
   ·simp only [List.length_append,List.length_drop] at h5 ⊢; omega
 ·rw [if_neg hcap]
  have hlt:c<n+k:=by omega
  have hcapb:=nextcap_le hlt
  have hNB:Builtin.nextslicecap (n+k) c*by_≤281474976710656:=Nat.le_trans (Nat.mul_le_mul_right _ hcapb) hB
  have hsmall:n+k<140737488355328:=by
   have h1:(2*(n+k)+1024)*1≤(2*(n+k)+1024)*by_:=Nat.mul_le_mul_left _ hb0
   omega
  rw [hp_bind',hp_info hi]
  rw [if_neg (by rw [hby]; rintro ⟨_,h0⟩; omega)]
  rw [hp_bind',hp_info hi]
  rw [if_neg (by rw [hby]; have:(2:Nat)^48=281474976710656:=by decide
                 omega)]
  rw [hp_bind']
  refine choose_cap (by have:(2:Nat)^63=9223372036854775808:=by decide
                        omega) fun nc hnc => ?_
  rw [hp_bind',hp_info hi,hp_bind',hp_askRoom]
  have hsrc:Src s h (.slice base n c) n vs:=ho.src
  rw [hp_bind',hsz,hp_firstCells hsrc (Nat.le_refl _),←hn,List.take_length]
  rw [hp_bind',hp_firstCells hx (Nat.le_refl _),←hnl,List.take_length]
  rw [hp_bind',hp_zeroValue hi hz,hp_bind']
  refine hp_newRow ?_
  have hrl:(Builtin.zeroCells z.cells (nc-(n+k))).toList.length=(nc-(n+k))*s:=by
   rw [Array.length_toList,zeroCells_size,hzs]
  have hcells:vs.toArray++news.toArray++Builtin.zeroCells z.cells (nc-(n+k))=((vs++news)++(Builtin.zeroCells z.cells (nc-(n+k))).toList).toArray:=by
   apply Array.ext'; simp
  rw [hcells]
  obtain ⟨nc',rfl⟩:∃m,nc=m+1:=⟨nc-1,by omega⟩
  refine H _ _ (.inr ⟨h.size,0,n+k,nc',[],(Builtin.zeroCells z.cells (nc'+1-(n+k))).toList,rfl,by simp [hn,hnl,Nat.add_mul],hnc,rfl,by simp,?_⟩)
   (.push _ _ _) (fun b hb => .inr (by cases hb; exact Nat.le_refl _)) (fun b hb => .inr (by cases hb; exact Nat.le_refl _))
  have:(n+k)*s+(nc'+1-(n+k))*s=(nc'+1)*s:=by rw [←Nat.add_mul]; congr 1; omega
  simp only [List.nil_append,List.length_append,hrl]
  rw [hn,hnl,←Nat.add_mul]
  omega

theorem Hp_appendGZ {t t2 e by_ n k:Nat} {k':IntKind} {z:Value} {v:Value} {vs:List Value} (ht:slT P t e 1 by_=true) (ht2:isInt P t2=true) (hz0:zeroOf P e=some z) (hz1:one z=true) (ho:OwnG e 1 h v vs) (hn:vs.length=n)
 (hB:(2*(n+k)+1024)*by_≤281474976710656) (hb0:0<by_)
 (H:∀v' h',OwnG e 1 h' v' (vs++List.replicate k z)→Mod (fun b=>blkG v=some b) h h'→(∀b,blkG v'=some b→blkG v=some b∨h.size≤b)→(∀b,blkV v'=some b→blkV v=some b∨h.size≤b)→K v' h') :
 Hp P false (Builtin.append_ #[t,t2] t #[v,.int k' (k:Int)]) K h ⟨⟩:=by
 obtain ⟨i,z',hu,hi,hsz,hby,hz,hzs⟩:=slT_spec ht
 have hzz:z'=z:=by
  unfold zeroOf at hz0
  rw [hi] at hz0
  simp only at hz0
  rw [hz] at hz0; cases hz0; rfl
 subst hzz
 obtain ⟨news,hnews⟩:∃news,news=List.replicate k z':=⟨_,rfl⟩
 rw [←hnews] at H
 have hcs:z'.cells = #[z']:=by cases z'<;>first|rfl|cases hz1
 have hone:∀u∈news,one u=true:=by rw [hnews]; intro u hu; rw [(List.mem_replicate.1 hu).2]; exact hz1
 have ez:Builtin.zeroCells z'.cells k=news.toArray:=by
  rw [hcs,hnews]
  apply Array.ext'
  apply List.ext_getElem
  ·simp [Builtin.zeroCells]
  ·intro j h1 h2
   simp [Builtin.zeroCells,Nat.mod_one]
 rw [Hp_iff]
 have hnl:news.length=k:=by rw [hnews]; simp
 have hk63:(k:Int)<140737488355328:=by
  have h1:(2*(n+k)+1024)*1≤(2*(n+k)+1024)*by_:=Nat.mul_le_mul_left _ hb0
  omega
 have hkb:(k:Int)*by_≤281474976710656:=by
  have h1:k*by_≤(2*(n+k)+1024)*by_:=Nat.mul_le_mul_right _ omg
  have h2:=Nat.le_trans h1 hB
  have h3:((k*by_:Nat):Int)≤281474976710656:=by omega
  rwa [Int.natCast_mul] at h3
 obtain ⟨base,c,hv,hown⟩:∃base c,v = .slice base n c∧(vs=[]∧n=0∧c=0∨∃b o c' pre rest,base=some ⟨b,o,none⟩∧c=c'+1∧n≤c∧pre.length=o∧h[b]? = some (.cells (pre++vs++rest).toArray e)∧o+c≤(pre++vs++rest).length):=by
  rcases ho with ⟨a,rfl,rfl⟩|⟨b,o,n',c,pre,rest,rfl,h1,h2,h3,h4,h5⟩
  ·have:n=0:=by simpa using hn.symm
   subst this
   exact ⟨a,0,rfl,.inl ⟨rfl,rfl,rfl⟩⟩
  ·have:n'=n:=by omega
   subst this
   exact ⟨_,c+1,rfl,.inr ⟨b,o,c,pre,rest,rfl,rfl,h2,h3,h4,by omega⟩⟩
 subst hv
 have hz2:∀(K:TypeDesc→Heap→Prop),∃d k0,(hp P false (underlying t2) K h↔K d h)∧d = .int k0:=by
  intro K
  unfold isInt at ht2
  cases hu2:P.underlying t2 with
  | none=>rw [hu2] at ht2; cases ht2
  | some d =>
   rw [hu2] at ht2
   cases d<;>first|(cases ht2; done)|exact ⟨_,_,hp_underlying hu2,rfl⟩
 unfold Builtin.append_
 simp only [List.getElem?_toArray,List.getElem?_cons_succ,List.getElem?_cons_zero,List.getElem_toArray,List.getElem_cons_succ,List.getElem_cons_zero]
 rw [hp_bind',hp_underlying hu]
 simp only
 rw [hp_bind',hp_sizeOf hi]
 rw [hp_bind']
 obtain ⟨d,k0,hd,rfl⟩:=hz2 _
 rw [hd]
 simp only [pure_bind,Bool.false_eq_true,if_false,Bool.not_true,if_true,true_or,and_true]
 rw [hp_bind',hp_asInt,wrap_i64 omg omg]
 rw [if_neg omg,hp_bind',hp_info hi]
 have e1:(2:Int)^48=281474976710656:=by decide
 rw [if_neg (by rw [hby,e1]; omega)]
 simp only [Int.toNat_natCast]
 have happ:∀(K:Array Value→Heap→Prop),hp P false (if k*i.size=0 then pure #[] else do pure (Builtin.zeroCells (←zeroValue e).cells k)) K h↔K news.toArray h:=by
  intro K
  split
  ·rename_i h0
   have:k=0:=by rw [hsz] at h0; omega
   rw [hnews,this]; exact Iff.rfl
  ·rw [hp_bind',hp_zeroValue hi hz,ez]; exact Iff.rfl
 by_cases hcap:n+k≤c
 ·rw [if_pos hcap]
  rw [hp_bind',happ]
  rw [hsz]
  rcases hown with ⟨rfl,rfl,rfl⟩|⟨b,o,c',pre,rest,rfl,rfl,h2,h3,h4,h5⟩
  ·have hk0:k=0:=by omega
   subst hk0
   have hnews:news=[]:=by simpa using hnl
   subst hnews
   cases base with
   | none=>exact H _ h (.inl ⟨_,rfl,rfl⟩) (.refl _ _) (fun b hb=>by cases hb) (fun b hb => .inl hb)
   | some a =>
    simp only
    rw [hp_bind',hp_storeCells [] 0 _ h (fun v hv=>by cases hv)]
    exact H _ h (.inl ⟨_,rfl,rfl⟩) (.refl _ _) (fun b hb=>by cases hb) (fun b hb => .inl hb)
  ·simp only
   rw [hp_bind',Nat.mul_one]
   subst h3
   have hlen:pre.length+vs.length+news.length≤(pre++vs++rest).length:=by omega
   have hrest:news.length≤rest.length:=by simp at hlen; omega
   rw [←hn]
   have ea:(⟨b,pre.length,none⟩:Addr).add vs.length=(⟨b,0,none⟩:Addr).add (pre.length+vs.length):=by
    show elt _ _=elt _ _
    rw [elt_mk,elt_mk,Nat.zero_add]
   rw [ea]
   refine hp_storeCells_own h4 (fun i _ hh=>absurd hh.2 (Nat.not_lt_zero _)) hlen (by simpa using hone) ?_
   refine H _ _ (.inr ⟨b,pre.length,vs.length+k,c',pre,rest.drop news.length,rfl,by simp [hnl],by omega,rfl,?_,?_⟩) ((Mod.write _ news h _).mono (fun _ _ e=>by rw [e]; rfl)) (fun b' hb' => .inl hb') (fun b' hb' => .inl hb')
   ·rw [hwrite_of_block news h (pre.length+vs.length) (pre++vs++rest) h4 hlen]
    congr 3
    unfold over
    have e1:pre.length+vs.length=(pre++vs).length:=by simp
    rw [e1,List.take_append_of_le_length (Nat.le_refl _),List.take_length,List.drop_append,List.drop_eq_nil_of_le (Nat.le_add_right _ _),List.nil_append,Nat.add_sub_cancel_left]
    simp only [List.append_assoc]
   ·simp only [List.length_append,List.length_drop] at h5 ⊢; omega
 ·rw [if_neg hcap]
  have hlt:c<n+k:=by omega
  have hcapb:=nextcap_le hlt
  have hNB:Builtin.nextslicecap (n+k) c*by_≤281474976710656:=Nat.le_trans (Nat.mul_le_mul_right _ hcapb) hB
  have hsmall:n+k<140737488355328:=by
   have h1:(2*(n+k)+1024)*1≤(2*(n+k)+1024)*by_:=Nat.mul_le_mul_left _ hb0
   omega
  rw [hp_bind',hp_info hi]
  rw [if_neg (by have:IntKind.i64.max=9223372036854775807:=by decide
                 omega)]
  rw [hp_bind',hp_info hi]
  rw [if_neg (by rw [hby]; have:(2:Nat)^48=281474976710656:=by decide
                 omega)]
  rw [hp_bind']
  refine choose_cap (by have:(2:Nat)^63=9223372036854775808:=by decide
                        omega) fun nc hnc => ?_
  rw [hp_bind',hp_info hi,hp_bind',hp_askRoom]
  have hsrc:Src 1 h (.slice base n c) n vs:=ho.src
  rw [hp_bind',hsz,hp_firstCells hsrc (Nat.le_refl _)]
  rw [hsz] at happ
  rw [hp_bind',happ,Nat.mul_one,←hn,List.take_length]
  rw [hp_bind',hp_zeroValue hi hz,hp_bind']
  refine hp_newRow ?_
  rw [hn]
  have hrl:(Builtin.zeroCells z'.cells (nc-(n+k))).toList.length=nc-(n+k):=by
   rw [Array.length_toList,zeroCells_size,hzs,Nat.mul_one]
  have hcells:vs.toArray++news.toArray++Builtin.zeroCells z'.cells (nc-(n+k))=((vs++news)++(Builtin.zeroCells z'.cells (nc-(n+k))).toList).toArray:=by
   apply Array.ext'; simp
  rw [hcells]
  obtain ⟨nc',rfl⟩:∃m,nc=m+1:=⟨nc-1,by omega⟩
  refine H _ _ (.inr ⟨h.size,0,n+k,nc',[],(Builtin.zeroCells z'.cells (nc'+1-(n+k))).toList,rfl,by simp [hn,hnl],hnc,rfl,by simp,?_⟩)
   (.push _ _ _) (fun b hb => .inr (by cases hb; exact Nat.le_refl _)) (fun b hb => .inr (by cases hb; exact Nat.le_refl _))
  simp only [List.nil_append,List.length_append,hrl]
  omega
theorem Hp_appendGM {t t2 e by_ n k:Nat} {k':IntKind} {m:Int} {z:Value} {v:Value} {vs:List Value} (hm:m=(k:Int)) (ht:slT P t e 1 by_=true) (ht2:isInt P t2=true) (hz0:zeroOf P e=some z) (hz1:one z=true) (ho:OwnG e 1 h v vs) (hn:vs.length=n)
 (hB:(2*(n+k)+1024)*by_≤281474976710656) (hb0:0<by_)
 (H:∀v' h',OwnG e 1 h' v' (vs++List.replicate k z)→Mod (fun b=>blkG v=some b) h h'→(∀b,blkG v'=some b→blkG v=some b∨h.size≤b)→(∀b,blkV v'=some b→blkV v=some b∨h.size≤b)→K v' h') :
 Hp P false (Builtin.append_ #[t,t2] t #[v,.int k' m]) K h ⟨⟩:=by
 subst hm
 exact Hp_appendGZ ht ht2 hz0 hz1 ho hn hB hb0 H

/-! ### Parts -/

theorem Hp_slcM {t s:Nat} {a:Option Addr} {len cap:Nat} {k k':IntKind} {hi mx:Int} (ht:slS P t s=true) (h1:0≤hi) (h2:hi≤mx) (h3:mx≤cap) :
 Hp P q (Instr.sliceAt t (.slice a len cap) none (some (.int k hi)) (some (.int k' mx))) K h ⟨⟩↔ValT hi.toNat (fun r=>ValT mx.toNat (fun c=>K (.slice a r c) h) ⟨⟩) ⟨⟩:=by
 obtain ⟨e,i,ht,he,hs⟩:=slS_spec ht
 rw [Hp_iff,ValT_iff,ValT_iff]
 unfold Instr.sliceAt
 rw [hp_bind',hp_underlying ht]
 simp only
 unfold Instr.slice
 rw [hp_bind',hp_underlying ht]
 simp only
 have e1:Instr.sliceBounds true len cap none (some (.int k hi)) (some (.int k' mx))=pure (0,hi.toNat,mx.toNat):=by
  unfold Instr.sliceBounds
  simp only
  rw [sliceBound_eq omg h3,pure_bind,sliceBound_eq h1 omg]
  rfl
 rw [e1,hp_bind',hp_pure,hp_bind',hp_sizeOf he]
 simp only [Nat.zero_mul,Nat.sub_zero]
 cases a with
 | none=>simp only [Option.map_none,ite_self]; exact Iff.rfl
 | some a =>
  have:a.add 0=a:=by show elt a 0=a; simp
  simp only [Option.map_some,this,ite_self]; exact Iff.rfl
theorem OwnG.cut {e s n c hi mx:Nat} {a:Option Addr} {vs:List Value} (o:OwnG e s h (.slice a n c) vs) (h1:hi≤mx) (h2:mx≤c) (h3:hi≤n):OwnG e s h (.slice a hi mx) (vs.take (hi*s)):=by
 rcases o with ⟨a,hv,rfl⟩|⟨b',o',n',c',pre,rest,hv,g1,g2,g3,g4,g5⟩
 ·cases hv
  obtain rfl:mx=0:=by omega
  obtain rfl:hi=0:=by omega
  exact .inl ⟨_,rfl,by simp⟩
 ·cases hv
  cases mx with
  | zero =>
   obtain rfl:hi=0:=by omega
   exact .inl ⟨_,rfl,by simp⟩
  | succ mx =>
   have hks:hi*s≤n*s:=Nat.mul_le_mul_right _ h3
   have hms:(mx+1)*s≤(c'+1)*s:=Nat.mul_le_mul_right _ h2
   refine .inr ⟨b',o',hi,mx,pre,vs.drop (hi*s)++rest,rfl,by rw [List.length_take]; omega,h1,g3,?_,?_⟩
   ·rw [←List.append_assoc,List.append_assoc pre,List.take_append_drop]; exact g4
   ·rw [←List.append_assoc,List.append_assoc pre,List.take_append_drop]; omega
theorem OwnG.drop {e s n c lo:Nat} {a:Addr} {vs:List Value} (o:OwnG e s h (.slice (some a) n c) vs) (h1:lo≤n):OwnG e s h (.slice (some (subS s a lo c)) (n-lo) (c-lo)) (vs.drop (lo*s)):=by
 rcases o with ⟨a,hv,rfl⟩|⟨b',o',n',c',pre,rest,hv,g1,g2,g3,g4,g5⟩
 ·cases hv
  obtain rfl:lo=0:=by omega
  exact .inl ⟨_,rfl,by simp⟩
 ·cases hv
  by_cases hlo:lo=c'+1
  ·subst hlo
   obtain rfl:n=c'+1:=by omega
   refine .inl ⟨_,by rw [Nat.sub_self],List.drop_eq_nil_of_le omg⟩
  ·obtain ⟨k,hk⟩:∃k,c'+1-lo=k+1:=⟨c'-lo,by omega⟩
   have hks:lo*s≤n*s:=Nat.mul_le_mul_right _ h1
   rw [hk,subS_lt omg,elt_mk]
   have e2:o'+lo*s+(k+1)*s=o'+(c'+1)*s:=by
    rw [Nat.add_assoc,←Nat.add_mul]; congr 2; omega
   refine .inr ⟨b',o'+lo*s,n-lo,k,pre++vs.take (lo*s),rest,rfl,by rw [List.length_drop,g1,Nat.sub_mul],by omega,by rw [List.length_append,List.length_take]; omega,?_,?_⟩
   ·rw [List.append_assoc pre,List.take_append_drop]; exact g4
   ·rw [List.append_assoc pre,List.take_append_drop,e2]; exact g5
theorem blk_drop {s n c lo:Nat} {a:Addr} {b:Nat} (hb:blkG (.slice (some (subS s a lo c)) (n-lo) (c-lo))=some b):blkG (.slice (some a) n c)=some b:=by
 cases c with
 | zero=>simp [blkG] at hb
 | succ c =>
  cases e:c+1-lo with
  | zero=>rw [e] at hb; cases hb
  | succ k=>rw [e] at hb; simpa [blkG] using hb
theorem blk_cut {n c hi mx:Nat} {a:Option Addr} {b:Nat} (h2:mx≤c) (hb:blkG (.slice a hi mx)=some b):blkG (.slice a n c)=some b:=by
 cases mx with
 | zero=>cases a<;>cases hb
 | succ mx =>
  obtain ⟨k,rfl⟩:∃k,c=k+1:=⟨c-1,by omega⟩
  cases a<;>exact hb
theorem OwnG.over {e n c k:Nat} {a:Addr} {vs new:List Value} (o:OwnG e 1 h (.slice (some a) n c) vs) (hk:k+new.length≤vs.length):OwnG e 1 (hwrite h a k new) (.slice (some a) n c) (Vc.over vs k new):=by
 rcases o with ⟨a,hv,rfl⟩|⟨b',o',n',c',pre,rest,hv,g1,g2,g3,g4,g5⟩
 ·cases hv
  have:new=[]:=by simp at hk; exact hk.2
  subst this
  exact .inl ⟨_,rfl,by simp⟩
 ·cases hv
  subst g3
  have ea:(⟨b',pre.length,none⟩:Addr)=elt ⟨b',0,none⟩ pre.length:=by rw [elt_mk,Nat.zero_add]
  have hle:pre.length+k+new.length≤(pre++vs++rest).length:=by simp; omega
  have e3:Vc.over (pre++vs++rest) (pre.length+k) new=pre++Vc.over vs k new++rest:=by
   unfold Vc.over
   have hk1:k≤vs.length:=by omega
   rw [List.append_assoc pre vs rest,List.take_append,List.drop_append,List.take_of_length_le omg,List.drop_eq_nil_of_le omg]
   rw [show pre.length+k-pre.length=k by omega,show pre.length+k+new.length-pre.length=k+new.length by omega]
   rw [List.take_append_of_le_length hk1,List.drop_append_of_le_length hk]
   simp
  refine .inr ⟨b',pre.length,n,c',pre,rest,rfl,by rw [over_length hk]; exact g1,g2,rfl,?_,?_⟩
  ·rw [ea,hwrite_elt,hwrite_of_block new h (pre.length+k) (pre++vs++rest) g4 hle,e3]
  ·simp only [List.length_append,over_length hk] at g5 ⊢; exact g5
theorem Hp_copyG {t t2 e n c lo m c':Nat} {a:Addr} {x:Value} {L s:List UInt8} (ht:slS P t 1=true) (o:OwnG e 1 h (.slice (some a) n c) (L.map byteV)) (hlo:lo+m≤n) (hx:Bytes h x s)
 (H:∀h',OwnG e 1 h' (.slice (some a) n c) ((Vc.over L lo (s.take m)).map byteV)→Mod (fun b=>blkG (.slice (some a) n c)=some b) h h'→K (.int .i64 (min s.length m:Nat)) h') :
 Hp P false (Builtin.copy_ #[t,t2] 3 #[.slice (some (sub a lo c)) m c',x]) K h ⟨⟩:=by
 obtain ⟨a0,n0,c0,hv,hl,hc,-⟩:=o.form
 cases hv
 have hl:L.length=n:=by simpa using hl
 by_cases hm:m=0
 ·subst hm
  refine Hp_copy ht (Src.of_bytes hx) (one_bytes s) (fun i hi=>by omega) (fun i hi=>by omega) ?_
  have:Vc.over L lo (s.take 0)=L:=by unfold Vc.over; simp
  rw [this] at H
  simpa [hwrite] using H h o (.refl _ _)
 have hlt:lo<c:=by omega
 refine Hp_copy ht (Src.of_bytes hx) (one_bytes s) (fun i hi => ?_) (fun i hi => ?_) ?_
 ·rw [elt_sub hlt,(o.cell (i:=lo+i) (by simp; omega)).1]; rfl
 ·rw [elt_sub hlt,(o.cell (i:=lo+i) (by simp; omega)).2]
 ·rw [←List.map_take,hwrite_sub hlt,Nat.add_zero]
  have o2:=o.over (k:=lo) (new:=(s.take m).map byteV) (by simp; omega)
  rw [←over_map] at o2
  refine H _ o2 ((Mod.write a _ _ _).mono (fun b _ e => ?_))
  obtain ⟨k,rfl⟩:∃k,c=k+1:=⟨c-1,by omega⟩
  rw [e]; rfl
/-! ### Parts of slices that may be nil -/
def subO (s:Nat) (a:Option Addr) (lo c:Nat):Option Addr:=if c=lo then a else a.map (elt · (lo*s))
theorem subO_some {s:Nat} {a:Addr} {lo c:Nat}:subO s (some a) lo c=some (subS s a lo c):=by unfold subO subS; split<;>rfl
theorem Hp_slgNH {t s:Nat} {a:Option Addr} {len cap:Nat} {k:IntKind} {hi:Int} (ht:slS P t s=true) (h1:0≤hi) (h2:hi≤cap) :
 Hp P q (Instr.sliceAt t (.slice a len cap) none (some (.int k hi)) none) K h ⟨⟩↔ValT hi.toNat (fun r=>K (.slice a r cap) h) ⟨⟩:=by
 obtain ⟨e,i,ht,he,hs⟩:=slS_spec ht
 rw [Hp_iff,ValT_iff]
 unfold Instr.sliceAt
 rw [hp_bind',hp_underlying ht]
 simp only
 unfold Instr.slice
 rw [hp_bind',hp_underlying ht]
 simp only
 rw [sliceBounds_eq rfl rfl (by simp [lowOf]) (by simpa [lowOf,highOf] using h1) (by simpa [highOf] using h2),hp_bind',hp_pure,hp_bind',hp_sizeOf he,hs]
 simp only [lowOf,highOf,Int.toNat_zero,Nat.zero_mul,Nat.sub_zero]
 cases a with
 | none=>simp only [Option.map_none,ite_self]; exact Iff.rfl
 | some a =>
  have:a.add 0=a:=by show elt a 0=a; simp
  simp only [Option.map_some,this,ite_self]; exact Iff.rfl
theorem Hp_slgLN {t s:Nat} {a:Option Addr} {len cap:Nat} {k:IntKind} {lo:Int} (ht:slS P t s=true) (h0:0≤lo) (h1:lo≤len) (hc:len≤cap) :
 Hp P q (Instr.sliceAt t (.slice a len cap) (some (.int k lo)) none none) K h ⟨⟩↔ValT lo.toNat (fun l=>K (.slice (subO s a l cap) (len-l) (cap-l)) h) ⟨⟩:=by
 obtain ⟨e,i,ht,he,hs⟩:=slS_spec ht
 rw [Hp_iff,ValT_iff]
 unfold Instr.sliceAt
 rw [hp_bind',hp_underlying ht]
 simp only
 unfold Instr.slice
 rw [hp_bind',hp_underlying ht]
 simp only
 rw [sliceBounds_eq rfl rfl (by simpa [lowOf] using h0) (by simpa [lowOf,highOf] using h1) (by simpa [highOf] using hc),hp_bind',hp_pure,hp_bind',hp_sizeOf he,hs]
 simp only [lowOf,highOf,Int.toNat_natCast]
 exact Iff.rfl
theorem OwnG.dropO {e s n c lo:Nat} {a:Option Addr} {vs:List Value} (o:OwnG e s h (.slice a n c) vs) (h1:lo≤n):OwnG e s h (.slice (subO s a lo c) (n-lo) (c-lo)) (vs.drop (lo*s)):=by
 cases a with
 | none =>
  rcases o with ⟨a,hv,rfl⟩|⟨b',o',n',c',pre,rest,hv,_⟩
  ·cases hv
   obtain rfl:lo=0:=by omega
   exact .inl ⟨_,rfl,by simp⟩
  ·cases hv
 | some a=>rw [subO_some]; exact o.drop h1
end
end Go.Vc

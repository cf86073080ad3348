/- Lemmas: what the functions do. -/
import Derived.Test.YtdccfkffabngjaaGreatGpE
import Derived.Test.YtdccfkffabngjaaGreatGpD
import Derived.Test.YtdccfkffabngjaaGreatGpA
set_option linter.unusedSimpArgs false
set_option linter.unusedVariables false
namespace Go.Proofs.YtdccfkffabngjaaGreat
open Go.Vc
section
theorem growL_get(l:List UInt8)(n i:Nat):(growL l n)[i]? = if i<l.length then l[i]? else if i<n then some 0 else none:=by
 unfold growL zeros
 rw[List.getElem?_append]
 split
 ·rfl
 ·rw[List.getElem?_replicate]
  split
  ·rw[if_pos omg]
  ·rw[if_neg omg]
theorem writes_now:∀(n:Nat) {k:Nat} {b:List UInt8} {f:Fl},b.length<=n->f.ok->k+b.length<=268435456->b≠[]->(f.writes (cutP k b)).now=over (growL f.now (k+b.length)) k b
 | 0,k,b,f,hn,ok,hf,hb=>absurd (List.length_eq_zero_iff.1 omg) hb
 | n+1,k,b,f,hn,ok,hf,hb=>by
  have hl:0<b.length:=List.length_pos_iff.2 hb
  obtain⟨m,hm⟩:∃m,m=min b.length (512-k%512):=⟨_,rfl⟩
  have hm1:1<=m/\m<=b.length/\m<=512-k%512:=by omega
  rw[cutP_cons hb,<-hm]
  have ht:(b.take m).length=m:=by rw[List.length_take];omega
  have okp:Pc.ok ⟨k,b.take m⟩:=⟨by rw[ht];omega,by show k%512+(b.take m).length<=512;rw[ht];omega⟩
  have ok1:(f.add ⟨k,b.take m⟩).ok:=ok.add okp (by show k+(b.take m).length<=_;rw[ht];omega)
  have h1:(f.add ⟨k,b.take m⟩).now=over (growL f.now (k+m)) k (b.take m):=by
   have:=ok.now_add ⟨k,b.take m⟩
   rw[this]
   show over (growL f.now (k+(b.take m).length)) k (b.take m)=_
   rw[ht]
  show ((f.add ⟨k,b.take m⟩).writes (cutP (k+m) (b.drop m))).now=_
  have hg:=growL_len f.now (k+m)
  have hg2:=growL_len f.now (k+b.length)
  by_cases hd:b.drop m=[]
  ·have hml:m=b.length:=by have:=List.length_drop (l:=b) (i:=m);rw[hd,List.length_nil]at this;omega
   rw[hd,cutP_nil]
   show (f.add ⟨k,b.take m⟩).now=_
   rw[h1,hml,List.take_length]
  ·have hdl:(b.drop m).length=b.length-m:=List.length_drop
   rw[writes_now n (by rw[hdl];omega) ok1 (by rw[hdl];omega) hd,h1,hdl,show k+m+(b.length-m)=k+b.length by omega]
   have hov:(over (growL f.now (k+m)) k (b.take m)).length=(growL f.now (k+m)).length:=over_len (by rw[ht,hg];omega)
   have hg3:=growL_len (over (growL f.now (k+m)) k (b.take m)) (k+b.length)
   refine List.ext_getElem? fun i=>?_
   rw[over_get? (by rw[hdl,hg3];omega),growL_get,hov,hg,over_get? (by rw[ht,hg];omega),ht,growL_get,over_get? (by rw[hg2];omega),growL_get,hdl]
   rw[List.getElem?_take,List.getElem?_drop]
   (repeat' split)<;>first|rfl|omega|(congr 1;omega)
theorem Fs.write_ok{p:Fs}(o:p.f.ok){k:Nat}{b:List UInt8}(h:k+b.length<=268435456):(p.write k b).f.ok:=by
 refine o.writes fun q hq=>?_
 have hq':q∈cutP k b:=by
  unfold went at hq
  split at hq
  ·exact hq
  ·exact List.mem_of_mem_take hq
 have:=cutP_ok b.length (Nat.le_refl _) q hq'
 exact⟨this.1,by omega⟩
theorem Fs.write_now{p:Fs}(o:p.f.ok)(e:p.e=0){k:Nat}{b:List UInt8}(h:k+b.length<=268435456)(hb:b≠[]):(p.write k b).f.now=over (growL p.f.now (k+b.length)) k b:=by
 show (p.f.writes (went (fateE p.fates) _ (cutP k b))).now=_
 have e':fateE p.fates=0:=e
 unfold went
 rw[if_pos e']
 exact writes_now b.length (Nat.le_refl _) o h hb
theorem Fs.write_in{p:Fs}(o:p.f.ok)(e:p.e=0){k:Nat}{b:List UInt8}(h:k+b.length<=p.f.now.length)(hb:b≠[]):(p.write k b).f.now=over p.f.now k b:=by
 have h1:=o.few
 have h2:=o.now_len
 rw[Fs.write_now o e omg hb,growL_same h]
theorem Fs.flush_ok{p:Fs}(o:p.f.ok):p.flush.f.ok:=o.flush _
theorem Fs.flush_now(p:Fs):p.flush.f.now=p.f.now:=now_flush _ _
theorem Fs.flush_ps{p:Fs}(e:p.e=0):p.flush.f.ps=[]:=by
 have e':fateE p.fates=0:=e
 show p.f.ps.drop (wentN (fateE p.fates) (fateK p.fates) p.f.ps.length)=[]
 unfold wentN
 rw[if_pos e']
 exact List.drop_length
theorem Fs.size_ok{p:Fs}(o:p.f.ok){n:Nat}(h:n<=268435456):(p.size n).f.ok:=by
 show (if fateE p.fates=0 then p.f.size n else p.f).ok
 split
 ·exact o.size h
 ·exact o
theorem Fs.size_now{p:Fs}(o:p.f.ok)(e:p.e=0){n:Nat}(h:p.f.now.length<=n):(p.size n).f.now=growL p.f.now n:=by
 have e':fateE p.fates=0:=e
 show (if fateE p.fates=0 then p.f.size n else p.f).now=_
 rw[if_pos e',o.now_size,List.take_of_length_le (by rw[growL_len];omega)]
def wrF(at_:Nat)(was is:List UInt8):Nat->Nat->Fs->Fs×Int
 | 0,_,p=>(p,0)
 | n+1,j,p=>if part is (512*j) 512=part was (512*j) 512 then wrF at_ was is n (j+1) p
  else if p.e≠0 then (p.write (at_+512*j) (part is (512*j) 512),p.e)
  else wrF at_ was is n (j+1) (p.write (at_+512*j) (part is (512*j) 512))
theorem wrF_same{at_:Nat}{was is:List UInt8}{n j:Nat}{p:Fs}(h:part is (512*j) 512=part was (512*j) 512):wrF at_ was is (n+1) j p=wrF at_ was is n (j+1) p:=by rw[wrF,if_pos h]
theorem wrF_err{at_:Nat}{was is:List UInt8}{n j:Nat}{p:Fs}(h:¬part is (512*j) 512=part was (512*j) 512)(e:p.e≠0):wrF at_ was is (n+1) j p=(p.write (at_+512*j) (part is (512*j) 512),p.e):=by rw[wrF,if_neg h,if_pos e]
theorem wrF_go{at_:Nat}{was is:List UInt8}{n j:Nat}{p:Fs}(h:¬part is (512*j) 512=part was (512*j) 512)(e:p.e=0):wrF at_ was is (n+1) j p=wrF at_ was is n (j+1) (p.write (at_+512*j) (part is (512*j) 512)):=by rw[wrF,if_neg h,if_neg (by rw[e];simp)]
theorem wrF_ok{at_:Nat}{was is:List UInt8}:∀(n j:Nat) (p:Fs),p.f.ok->at_+512*(j+n)<=268435456->(wrF at_ was is n j p).1.f.ok/\(wrF at_ was is n j p).1.steps<=p.steps+n
 | 0,j,p,o,_=>⟨o,Nat.le_refl _⟩
 | n+1,j,p,o,hl=>by
  have hpl:(part is (512*j) 512).length<=512:=by unfold part;rw[List.length_take];omega
  by_cases h:part is (512*j) 512=part was (512*j) 512
  ·rw[wrF_same h]
   have:=wrF_ok (at_:=at_) (was:=was) (is:=is) n (j+1) p o omg
   exact⟨this.1,by omega⟩
  ·by_cases e:p.e=0
   ·rw[wrF_go h e]
    have:=wrF_ok (at_:=at_) (was:=was) (is:=is) n (j+1) _ (Fs.write_ok o (k:=at_+512*j) (b:=part is (512*j) 512) omg) omg
    have h2:(p.write (at_+512*j) (part is (512*j) 512)).steps=p.steps+1:=rfl
    exact⟨this.1,by omega⟩
   ·rw[wrF_err h e]
    exact⟨Fs.write_ok o omg,by show p.steps+1<=_;omega⟩
theorem wrF_calm{at_:Nat}{was is:List UInt8}:∀(n j:Nat) (p:Fs),p.fates=[]->(wrF at_ was is n j p).1.fates=[]/\(wrF at_ was is n j p).2=0
 | 0,j,p,o=>⟨o,rfl⟩
 | n+1,j,p,o=>by
  by_cases h:part is (512*j) 512=part was (512*j) 512
  ·rw[wrF_same h];exact wrF_calm n (j+1) p o
  ·rw[wrF_go h (by unfold Fs.e;rw[o];rfl)]
   exact wrF_calm n (j+1) _ (by show p.fates.tail=[];rw[o];rfl)
theorem wrF_now{at_:Nat}{was is:List UInt8}{Q:Nat}(hwl:was.length=512*Q)(hil:is.length=512*Q):∀(n j:Nat) (p:Fs),p.f.ok->j+n=Q->at_+512*Q<=p.f.now.length->part p.f.now at_ (512*Q)=is.take (512*j)++was.drop (512*j) ->
 (wrF at_ was is n j p).2=0->(wrF at_ was is n j p).1.f.now=over p.f.now at_ is
 | 0,j,p,c,hj,hl,hp,_=>by
  show p.f.now=_
  rw[List.drop_eq_nil_of_le omg,List.append_nil,List.take_of_length_le omg]at hp
  have:=over_part (B:=p.f.now) (k:=at_) (x:=is) omg
  rw[hil,hp]at this
  exact this.symm
 | n+1,j,p,c,hj,hl,hp,hz=>by
  have hfew:=c.few
  have hnl:=c.now_len
  have pil:(part is (512*j) 512).length=512:=part_len omg
  by_cases he:part is (512*j) 512=part was (512*j) 512
  ·rw[wrF_same he]at hz ⊢
   refine wrF_now hwl hil n (j+1) p c omg hl ?_ hz
   rw[hp]
   have e1:is.take (512*(j+1))=is.take (512*j)++part is (512*j) 512:=by
    unfold part
    rw[show 512*(j+1)=512*j+512 by omega,List.take_add]
   have e2:was.drop (512*j)=part was (512*j) 512++was.drop (512*(j+1)):=by
    unfold part
    rw[show 512*(j+1)=512*j+512 by omega,<-List.drop_drop,List.take_append_drop]
   rw[e1,e2,he,List.append_assoc]
  ·by_cases e:p.e=0
   ·rw[wrF_go he e]at hz ⊢
    have c1:=Fs.write_ok c (k:=at_+512*j) (b:=part is (512*j) 512) omg
    have n1:=Fs.write_in c e (k:=at_+512*j) (b:=part is (512*j) 512) omg (fun e=>by rw[e]at pil;cases pil)
    have hln:(p.write (at_+512*j) (part is (512*j) 512)).f.now.length=p.f.now.length:=by rw[n1];exact over_len omg
    have h3:=wrF_now (at_:=at_) hwl hil n (j+1) _ c1 omg omg (by
     rw[n1,part_in omg omg omg hl,Nat.add_sub_cancel_left,hp]
     refine List.ext_getElem? fun i=>?_
     rw[over_get? (by rw[pil,List.length_append,List.length_take,List.length_drop];omega),pil,part_get,List.getElem?_append,List.getElem?_append,List.length_take,List.length_take,List.getElem?_take,List.getElem?_take,List.getElem?_drop,List.getElem?_drop]
     (repeat' split)<;>first|rfl|omega|(congr 1;omega)) hz
    rw[h3,n1]
    refine List.ext_getElem? fun i=>?_
    rw[over_get? (by rw[over_len omg];omega),over_get? omg,over_get? omg,pil]
    (repeat' split)<;>first|rfl|omega|(congr 1;omega)
   ·rw[wrF_err he e]at hz
    exact absurd hz e
end
section
def growF(g:Gm)(n:Nat)(p:Fs):Fs×Int:=if n<=p.f.last.length then (p,0) else (p.size ((n+g.c-1)/g.c*g.c),p.e)
def seqF:List (Fs->Fs×Int)->Fs->Fs×Int
 | [],p=>(p,0)
 | s::l,p=>if (s p).2=0 then seqF l (s p).1 else s p
theorem seqF_cons{s:Fs->Fs×Int}{l:List (Fs->Fs×Int)}{p:Fs}(h:(s p).2=0):seqF (s::l) p=seqF l (s p).1:=by rw[seqF,if_pos h]
theorem seqF_err{s:Fs->Fs×Int}{l:List (Fs->Fs×Int)}{p:Fs}(h:(s p).2≠0):seqF (s::l) p=s p:=by rw[seqF,if_neg h]
def wrS(k:Nat)(b:List UInt8)(p:Fs):Fs×Int:=(p.write k b,p.e)
def flS(p:Fs):Fs×Int:=(p.flush,p.e)
def mkL(g:Gm)(i:Nat):List (Fs->Fs×Int):=[growF g (g.pl i+g.c),wrS (g.pl i) g.newB,flS,wrS (g.c+8*i) (leB 8 (g.pl i)),flS]
def mkF(g:Gm)(i:Nat):Fs->Fs×Int:=seqF (mkL g i)
theorem up_mul{g:Gm}(k:g.ok)(n:Nat):n<=(n+g.c-1)/g.c*g.c/\(n+g.c-1)/g.c*g.c<n+g.c/\(n+g.c-1)/g.c*g.c%g.c=0:=by
 obtain⟨q,hq,h1,-⟩:=k.c512
 have hd:=Nat.div_add_mod (n+g.c-1) g.c
 have hm:=Nat.mod_lt (n+g.c-1) (show 0<g.c by omega)
 rw[Nat.mul_comm]at hd
 exact⟨by omega,by omega,Nat.mul_mod_left _ _⟩
theorem up_same{g:Gm}(k:g.ok)(i:Nat):(g.pl i+g.c+g.c-1)/g.c*g.c=g.pl i+g.c:=by
 obtain⟨q,hq,h1,-⟩:=k.c512
 have h:=up_mul k (g.pl i+g.c)
 have h2:=g.pl_mod i
 obtain⟨a,ha⟩:∃a,(g.pl i+g.c+g.c-1)/g.c=a:=⟨_,rfl⟩
 rw[ha]at h ⊢
 have hb:g.pl i+g.c=(g.cl i+1)*g.c:=by unfold Gm.pl;rw[Nat.add_mul,Nat.one_mul]
 rw[hb]at h ⊢
 congr 1
 rcases Nat.lt_trichotomy a (g.cl i+1) with h3|h3|h3
 ·have:=Nat.mul_le_mul_right g.c (show a+1<=g.cl i+1 from h3);rw[Nat.add_mul]at this;omega
 ·exact h3
 ·have:=Nat.mul_le_mul_right g.c (show g.cl i+1+1<=a from h3);rw[Nat.add_mul (g.cl i+1) 1]at this;omega
structure Stp1 (p p':Fs) (n:Nat):Prop where
 ok:p'.f.ok
 stp:p'.steps<=p.steps+n
 nil:p.fates=[]->p'.fates=[]
theorem Stp1.trans{a b c:Fs}{m n:Nat}(x:Stp1 a b m)(y:Stp1 b c n):Stp1 a c (m+n):=⟨y.ok,by have:=x.stp;have:=y.stp;omega,fun h=>y.nil (x.nil h)⟩
theorem Stp1.mono{a b:Fs}{m n:Nat}(x:Stp1 a b m)(h:m<=n):Stp1 a b n:=⟨x.ok,by have:=x.stp;omega,x.nil⟩
theorem e_nil{p:Fs}(h:p.fates=[]):p.e=0:=by unfold Fs.e;rw[h];rfl
theorem tail_nil{p:Fs}(h:p.fates=[]):p.fates.tail=[]:=by rw[h];rfl
theorem wrS_stp{p:Fs}(o:p.f.ok){k:Nat}{b:List UInt8}(h:k+b.length<=268435456):Stp1 p (wrS k b p).1 1:=⟨Fs.write_ok o h,Nat.le_refl _,tail_nil⟩
theorem flS_stp{p:Fs}(o:p.f.ok):Stp1 p (flS p).1 1:=⟨Fs.flush_ok o,Nat.le_refl _,tail_nil⟩
theorem growF_stp{g:Gm}(k:g.ok){p:Fs}(o:p.f.ok){n:Nat}(h:(n+g.c-1)/g.c*g.c<=268435456):Stp1 p (growF g n p).1 1:=by
 unfold growF
 split
 ·exact⟨o,Nat.le_succ _,id⟩
 ·exact⟨Fs.size_ok o h,Nat.le_refl _,tail_nil⟩
theorem growF_nil{g:Gm}{p:Fs}{n:Nat}(h:p.fates=[]):(growF g n p).2=0:=by
 unfold growF
 split
 ·rfl
 ·exact e_nil h
theorem growF_now{g:Gm}(k:g.ok){p:Fs}(o:p.f.ok){n:Nat}(h:(growF g n p).2=0):(growF g n p).1.f.now=growL p.f.now (if n<=p.f.now.length then 0 else (n+g.c-1)/g.c*g.c):=by
 have hl:=o.now_len
 have hu:=up_mul k n
 unfold growF at h ⊢
 split
 ·rename_i hle
  rw[hl,if_pos hle,growL_same (Nat.zero_le _)]
 ·rename_i hle
  rw[if_neg hle]at h
  rw[hl,if_neg hle]
  exact Fs.size_now o h omg
theorem mkF_stp{g:Gm}(k:g.ok){p:Fs}(o:p.f.ok){i:Nat}(hi:i<g.m)(hf:g.pl i+g.c<=268435456):Stp1 p (mkF g i p).1 5/\(p.fates=[]->(mkF g i p).2=0):=by
 have h8:(leB 8 (g.pl i)).length=8:=leB_length 8 _
 have hn:=g.newB_len
 have hw:=k.word_at hi
 have ht:=k.pl_tab i
 have s1:=growF_stp k o (n:=g.pl i+g.c) (by rw[up_same k];exact hf)
 unfold mkF mkL
 by_cases e1:(growF g (g.pl i+g.c) p).2=0
 ·rw[seqF_cons e1]
  have s2:=wrS_stp s1.ok (k:=g.pl i) (b:=g.newB) (by rw[hn];exact hf)
  by_cases e2:(wrS (g.pl i) g.newB (growF g (g.pl i+g.c) p).1).2=0
  ·rw[seqF_cons e2]
   have s3:=flS_stp s2.ok
   by_cases e3:(flS (wrS (g.pl i) g.newB (growF g (g.pl i+g.c) p).1).1).2=0
   ·rw[seqF_cons e3]
    have s4:=wrS_stp s3.ok (k:=g.c+8*i) (b:=leB 8 (g.pl i)) (by rw[h8];omega)
    by_cases e4:(wrS (g.c+8*i) (leB 8 (g.pl i)) (flS (wrS (g.pl i) g.newB (growF g (g.pl i+g.c) p).1).1).1).2=0
    ·rw[seqF_cons e4]
     have s5:=flS_stp s4.ok
     have s:=(((s1.trans s2).trans s3).trans s4).trans s5
     by_cases e5:(flS (wrS (g.c+8*i) (leB 8 (g.pl i)) (flS (wrS (g.pl i) g.newB (growF g (g.pl i+g.c) p).1).1).1).1).2=0
     ·rw[seqF_cons e5]
      exact⟨s,fun _=>rfl⟩
     ·rw[seqF_err e5]
      exact⟨s,fun h=>absurd (e_nil (s4.nil (s3.nil (s2.nil (s1.nil h))))) e5⟩
    ·rw[seqF_err e4]
     exact⟨(((s1.trans s2).trans s3).trans s4).mono omg,fun h=>absurd (e_nil (s3.nil (s2.nil (s1.nil h)))) e4⟩
   ·rw[seqF_err e3]
    exact⟨((s1.trans s2).trans s3).mono omg,fun h=>absurd (e_nil (s2.nil (s1.nil h))) e3⟩
  ·rw[seqF_err e2]
   exact⟨(s1.trans s2).mono omg,fun h=>absurd (e_nil (s1.nil h)) e2⟩
 ·rw[seqF_err e1]
  exact⟨s1.mono omg,fun h=>absurd (growF_nil h) e1⟩
theorem mkF_now{g:Gm}{x:Hd}(k:g.ok){p:Fs}(o:p.f.ok)(I:Img g x p.f.now){i:Nat}(hi:i<g.m)(hf:g.pl i+g.c<=268435456)(h:(mkF g i p).2=0):(mkF g i p).1.f.now=g.mkB p.f.now i:=by
 have h8:(leB 8 (g.pl i)).length=8:=leB_length 8 _
 have hn:=g.newB_len
 have hw:=k.word_at hi
 have ht:=k.pl_tab i
 obtain⟨c1,hc,hc1,-⟩:=k.c512
 have s1:=growF_stp k o (n:=g.pl i+g.c) (by rw[up_same k];exact hf)
 unfold mkF mkL at h ⊢
 by_cases e1:¬((growF g (g.pl i+g.c) p).2=0)
 ·rw[seqF_err e1]at h;exact absurd h e1
 replace e1:=Classical.not_not.1 e1
 rw[seqF_cons e1]at h ⊢
 have n1:(growF g (g.pl i+g.c) p).1.f.now=growL p.f.now (g.pl i+g.c):=by
  rw[growF_now k o e1,up_same k]
  split
  ·rename_i hle
   rw[growL_same hle,growL_same (Nat.zero_le _)]
  ·rfl
 have l1:=growL_len p.f.now (g.pl i+g.c)
 rw[<-n1]at l1
 generalize (growF g (g.pl i+g.c) p).1=p1 at *
 have s2:=wrS_stp s1.ok (k:=g.pl i) (b:=g.newB) (by rw[hn];exact hf)
 by_cases e2:¬((wrS (g.pl i) g.newB p1).2=0)
 ·rw[seqF_err e2]at h;exact absurd h e2
 replace e2:=Classical.not_not.1 e2
 rw[seqF_cons e2]at h ⊢
 have n2:(wrS (g.pl i) g.newB p1).1.f.now=over p1.f.now (g.pl i) g.newB:=Fs.write_in s1.ok e2 (by rw[hn];omega) (fun e=>by rw[e]at hn;simp at hn;omega)
 have l2:(over p1.f.now (g.pl i) g.newB).length=p1.f.now.length:=over_len (by rw[hn];omega)
 rw[<-n2]at l2
 generalize (wrS (g.pl i) g.newB p1).1=p2 at *
 have s3:=flS_stp s2.ok
 by_cases e3:¬((flS p2).2=0)
 ·rw[seqF_err e3]at h;exact absurd h e3
 replace e3:=Classical.not_not.1 e3
 rw[seqF_cons e3]at h ⊢
 have n3:(flS p2).1.f.now=p2.f.now:=Fs.flush_now p2
 generalize (flS p2).1=p3 at *
 by_cases e4:¬((wrS (g.c+8*i) (leB 8 (g.pl i)) p3).2=0)
 ·rw[seqF_err e4]at h;exact absurd h e4
 replace e4:=Classical.not_not.1 e4
 rw[seqF_cons e4]at h ⊢
 have n4:(wrS (g.c+8*i) (leB 8 (g.pl i)) p3).1.f.now=over p3.f.now (g.c+8*i) (leB 8 (g.pl i)):=Fs.write_in s3.ok e4 (by rw[h8,n3];omega) (fun e=>by rw[e]at h8;cases h8)
 generalize (wrS (g.c+8*i) (leB 8 (g.pl i)) p3).1=p4 at *
 by_cases e5:¬((flS p4).2=0)
 ·rw[seqF_err e5]at h;exact absurd h e5
 replace e5:=Classical.not_not.1 e5
 rw[seqF_cons e5]
 show (flS p4).1.f.now=_
 have n5:(flS p4).1.f.now=p4.f.now:=Fs.flush_now p4
 rw[n5,n4,n3,n2,n1]
 rfl
def addB(g:Gm)(by_:Int)(T:Nat->Nat)(i:Nat)(ks:List Nat)(b:List UInt8):List UInt8 :=
 ks.foldl (fun b k=>if k/g.n=i then setC b g.w (k%g.n) (((cnt b g.w (k%g.n):Nat):Int)+by_*(T k:Nat)).toNat else b) b
theorem addB_cons{g:Gm}{by_:Int}{T:Nat->Nat}{i k:Nat}{ks:List Nat}{b:List UInt8}:addB g by_ T i (k::ks) b=addB g by_ T i ks (if k/g.n=i then setC b g.w (k%g.n) (((cnt b g.w (k%g.n):Nat):Int)+by_*(T k:Nat)).toNat else b):=rfl
theorem addB_len{g:Gm}{by_:Int}{T:Nat->Nat}{i:Nat}:∀(ks:List Nat) (b:List UInt8),(addB g by_ T i ks b).length=b.length
 | [],b=>rfl
 | k::ks,b=>by
  rw[addB_cons,addB_len ks]
  split
  ·rw[setC_length]
  ·rfl
theorem Gm.ok.in_block{g:Gm}(k:g.ok){j:Nat}(hj:j<g.n):j*g.w+g.w<=8*g.c:=by
 have h1:=k.nw
 have h2:(j+1)*g.w<=g.n*g.w:=Nat.mul_le_mul_right _ hj
 rw[Nat.add_mul]at h2
 omega
theorem addB_cnt{g:Gm}(k:g.ok){by_:Int}{T:Nat->Nat}{i:Nat}:∀(ks:List Nat) (b:List UInt8),ks.Nodup->b.length=g.c->(∀q∈ks,q/g.n=i->0<=((cnt b g.w (q%g.n):Nat):Int)+by_*(T q:Nat)/\((cnt b g.w (q%g.n):Nat):Int)+by_*(T q:Nat)<(2^g.w:Nat)) ->
 ∀q,q/g.n=i->((cnt (addB g by_ T i ks b) g.w (q%g.n):Nat):Int)=((cnt b g.w (q%g.n):Nat):Int)+if q∈ks then by_*(T q:Nat) else 0
 | [],b,_,_,_,q,_=>by simp[addB]
 | k1::ks,b,hn,hl,hf,q,hq=>by
  have hnc:=List.nodup_cons.1 hn
  have hn0:0<g.n:=by have:=k.n64;omega
  rw[addB_cons]
  by_cases e:k1/g.n=i
  ·rw[if_pos e]
   have hfit:=hf k1 List.mem_cons_self e
   have hin:=k.in_block (Nat.mod_lt k1 hn0)
   obtain⟨X,hX⟩:∃X,(((cnt b g.w (k1%g.n):Nat):Int)+by_*(T k1:Nat)).toNat=X:=⟨_,rfl⟩
   have hXi:((cnt b g.w (k1%g.n):Nat):Int)+by_*(T k1:Nat)=X:=by rw[<-hX];omega
   rw[hXi]at hfit
   rw[hX]
   have hXl:X<2^g.w:=by exact_mod_cast hfit.2
   have hc:∀j,cnt (setC b g.w (k1%g.n) X) g.w j=if j=k1%g.n then X else cnt b g.w j:=fun j=>by
    rw[cnt_setC (by rw[hl];exact hin),Nat.mod_eq_of_lt hXl]
   have key:∀q',q'/g.n=i->(q'%g.n=k1%g.n↔q'=k1):=fun q' h'=>by
    constructor
    ·intro h2
     have a1:=Nat.div_add_mod q' g.n
     have a2:=Nat.div_add_mod k1 g.n
     rw[h',h2]at a1;rw[e]at a2;omega
    ·rintro rfl;rfl
   rw[addB_cnt k ks _ hnc.2 (by rw[setC_length];exact hl) (fun q' hq' hi'=>?_) q hq,hc]
   ·by_cases e2:q=k1
    ·subst e2
     rw[if_pos rfl,if_neg hnc.1,if_pos List.mem_cons_self,hXi];simp
    ·rw[if_neg (fun h=>e2 ((key q hq).1 h))]
     by_cases e3:q∈ks
     ·rw[if_pos e3,if_pos (List.mem_cons_of_mem _ e3)]
     ·rw[if_neg e3,if_neg (fun h=>(List.mem_cons.1 h).elim e2 e3)]
   ·rw[hc,if_neg (fun h=>hnc.1 ((key q' hi').1 h▸hq'))]
    exact hf q' (List.mem_cons_of_mem _ hq') hi'
  ·rw[if_neg e,addB_cnt k ks _ hnc.2 hl (fun q' hq' hi'=>hf q' (List.mem_cons_of_mem _ hq') hi') q hq]
   have e2:q≠k1:=fun h=>e (h▸hq)
   by_cases e3:q∈ks
   ·rw[if_pos e3,if_pos (List.mem_cons_of_mem _ e3)]
   ·rw[if_neg e3,if_neg (fun h=>(List.mem_cons.1 h).elim e2 e3)]
end
section
def getB(g:Gm)(i:Nat)(p:Fs):Fs×Int:=if g.word p.f.now i=0 then mkF g i p else (p,0)
def putBk(g:Gm)(by_:Int)(T:Nat->Nat)(ks:List Nat)(i:Nat)(p:Fs):Fs×Int:=wrF (g.pl i) (g.blk p.f.now i) (addB g by_ T i ks (g.blk p.f.now i)) (g.c/512) 0 p
def stepB(g:Gm)(by_:Int)(T:Nat->Nat)(ks:List Nat)(i:Nat):Fs->Fs×Int:=seqF [getB g i,putBk g by_ T ks i]
def Gm.base(g:Gm)(B:List UInt8)(k:Nat):Nat:=if g.word B (k/g.n)=0/\k%g.n=0 then 1 else g.cnt B k
structure Adds (g:Gm) (by_:Int) (T:Nat->Nat) (ks:List Nat) (B:List UInt8):Prop where
 nd:ks.Nodup
 lt:∀k∈ks,k/g.n<g.m
 room:∀k∈ks,g.word B (k/g.n)=0->g.pl (k/g.n)+g.c<=268435456/\k%g.n≠0
 fit:∀k∈ks,0<=((g.cnt B k:Nat):Int)+by_*(T k:Nat)/\((g.cnt B k:Nat):Int)+by_*(T k:Nat)<(2^g.w:Nat)
 cov:∀k∈ks,g.hold B k->1<=((g.cnt B k:Nat):Int)+by_*(T k:Nat)
structure After (g:Gm) (x:Hd) (by_:Int) (T:Nat->Nat) (ks:List Nat) (B:List UInt8) (D:List Nat) (B':List UInt8):Prop where
 img:Img g x B'
 len:B.length<=B'.length
 wd0:∀j,j<g.m->j∉D->g.word B' j=g.word B j
 wd1:∀j,j<g.m->j∈D->g.word B' j≠0
 cnt:∀k,k/g.n<g.m->((g.cnt B' k:Nat):Int)=if k/g.n∈D then ((g.base B k:Nat):Int)+(if k∈ks then by_*(T k:Nat) else 0) else ((g.cnt B k:Nat):Int)
theorem After.zero{g:Gm}{x:Hd}{by_:Int}{T:Nat->Nat}{ks:List Nat}{B:List UInt8}(I:Img g x B):After g x by_ T ks B [] B :=
 ⟨I,Nat.le_refl _,fun _ _ _=>rfl,fun _ _ h=>(by cases h),fun _ _=>(by rw[if_neg (List.not_mem_nil)])⟩
structure Mid (g:Gm) (x:Hd) (by_:Int) (T:Nat->Nat) (ks:List Nat) (B:List UInt8) (D:List Nat) (i:Nat) (B':List UInt8):Prop where
 img:Img g x B'
 len:B.length<=B'.length
 wi:g.word B' i≠0
 wd0:∀j,j<g.m->j∉D->j≠i->g.word B' j=g.word B j
 wd1:∀j,j<g.m->j∈D->g.word B' j≠0
 cnt:∀k,k/g.n<g.m->((g.cnt B' k:Nat):Int)=if k/g.n∈D then ((g.base B k:Nat):Int)+(if k∈ks then by_*(T k:Nat) else 0) else if k/g.n=i then ((g.base B k:Nat):Int) else ((g.cnt B k:Nat):Int)
theorem cl_div{g:Gm}(k:g.ok){i:Nat}(h:i≠0):g.cl i/g.n=i/\g.cl i%g.n=0:=by
 have:=k.n64
 unfold Gm.cl;rw[if_neg h]
 exact⟨Nat.mul_div_cancel _ omg,Nat.mul_mod_left _ _⟩
theorem is_cl{g:Gm}(k:g.ok){i q:Nat}(h:i≠0)(hq:q/g.n=i):q=g.cl i↔q%g.n=0:=by
 have h1:=cl_div k h
 have h2:=Nat.div_add_mod q g.n
 have h3:=Nat.div_add_mod (g.cl i) g.n
 rw[hq]at h2
 rw[h1.1,h1.2]at h3
 constructor
 ·intro e;rw[e];exact h1.2
 ·intro e;omega
theorem getB_stp{g:Gm}(k:g.ok){p:Fs}(o:p.f.ok){i:Nat}(hi:i<g.m)(hf:g.word p.f.now i=0->g.pl i+g.c<=268435456):Stp1 p (getB g i p).1 5/\(p.fates=[]->(getB g i p).2=0):=by
 unfold getB
 split
 ·rename_i h
  exact mkF_stp k o hi (hf h)
 ·exact⟨⟨o,Nat.le_add_right _ _,id⟩,fun _=>rfl⟩
theorem getB_mid{g:Gm}{x:Hd}(k:g.ok){by_:Int}{T:Nat->Nat}{ks:List Nat}{B:List UInt8}{D:List Nat}{p:Fs}(o:p.f.ok)(A:After g x by_ T ks B D p.f.now){i:Nat}(hi:i<g.m)(hD:i∉D)
 (hf:g.word B i=0->g.pl i+g.c<=268435456) (h:(getB g i p).2=0):Mid g x by_ T ks B D i (getB g i p).1.f.now:=by
 have hwi:=A.wd0 i hi hD
 have hc1:=fun q (hq:q/g.n=i)=>A.cnt q (by rw[hq];exact hi)
 unfold getB at h ⊢
 split
 ·rename_i hw
  rw[if_pos hw]at h
  have hfit:=hf (by rw[<-hwi];exact hw)
  rw[mkF_now k o A.img hi hfit h]
  obtain⟨I1,w1,w2,c1,l1⟩:=A.img.made k hi hw hfit
  have hi0:i≠0:=fun e=>A.img.w0 (e▸hw)
  have hpos:g.pl i≠0:=by
   have:=k.pl_tab i
   obtain⟨c1,hc,hc1,-⟩:=k.c512
   omega
  refine⟨I1,by rw[l1];have:=A.len;omega,by rw[w1];exact hpos,fun j hj h1 h2=>by rw[w2 j hj h2];exact A.wd0 j hj h1,fun j hj h1=>by rw[w2 j hj (fun e=>hD (e▸h1))];exact A.wd1 j hj h1,fun q hq=>?_⟩
  rw[c1 q hq]
  by_cases e:q/g.n=i
  ·have hnD:¬q/g.n∈D:=by rw[e];exact hD
   rw[if_neg hnD,if_pos e]
   have hb:g.word B (q/g.n)=0:=by rw[e,<-hwi];exact hw
   have hz:g.cnt B q=0:=by unfold Gm.cnt;rw[if_pos hb]
   have hz2:g.cnt p.f.now q=0:=by unfold Gm.cnt;rw[e,if_pos hw]
   unfold Gm.base
   by_cases e2:q%g.n=0
   ·have h1:=(is_cl k hi0 e).2 e2
    have h2:g.word B (q/g.n)=0/\q%g.n=0:=⟨hb,e2⟩
    rw[if_pos h1,if_pos h2]
   ·have h1:¬q=g.cl i:=fun h=>e2 ((is_cl k hi0 e).1 h)
    have h2:¬(g.word B (q/g.n)=0/\q%g.n=0):=fun h=>e2 h.2
    rw[if_neg h1,if_neg h2,hz,hz2]
  ·have h1:¬q=g.cl i:=fun h=>e (by rw[h];exact (cl_div k hi0).1)
   rw[if_neg h1,if_neg e]
   exact A.cnt q hq
 ·rename_i hw
  refine⟨A.img,A.len,hw,fun j hj h1 _=>A.wd0 j hj h1,A.wd1,fun q hq=>?_⟩
  show ((g.cnt p.f.now q:Nat):Int)=_
  rw[A.cnt q hq]
  by_cases e:q/g.n=i
  ·have hnD:¬q/g.n∈D:=by rw[e];exact hD
   have h2:¬(g.word B (q/g.n)=0/\q%g.n=0):=fun h=>hw (by rw[hwi,<-e];exact h.1)
   rw[if_neg hnD,if_neg hnD,if_pos e]
   unfold Gm.base
   rw[if_neg h2]
  ·by_cases hd:q/g.n∈D
   ·rw[if_pos hd,if_pos hd]
   ·rw[if_neg hd,if_neg hd,if_neg e]
theorem blk_len{g:Gm}{x:Hd}{B:List UInt8}(I:Img g x B){i:Nat}(hi:i<g.m)(hw:g.word B i≠0):(g.blk B i).length=g.c:=part_len (I.wi i hi hw).2
theorem Gm.ok.c_div{g:Gm}(k:g.ok):512*(g.c/512)=g.c:=by
 obtain⟨q,hq,h1,-⟩:=k.c512
 omega
theorem putBk_stp{g:Gm}{x:Hd}(k:g.ok){by_:Int}{T:Nat->Nat}{ks:List Nat}{p:Fs}(o:p.f.ok)(I:Img g x p.f.now){i:Nat}(hi:i<g.m)(hw:g.word p.f.now i≠0):Stp1 p (putBk g by_ T ks i p).1 (g.c/512)/\(p.fates=[]->(putBk g by_ T ks i p).2=0):=by
 have h1:=(I.wi i hi hw).2
 have h2:=I.few
 have h3:=k.c_div
 unfold putBk
 have:=wrF_ok (at_:=g.pl i) (was:=g.blk p.f.now i) (is:=addB g by_ T i ks (g.blk p.f.now i)) (g.c/512) 0 p o omg
 exact⟨⟨this.1,this.2,fun h=>(wrF_calm _ _ p h).1⟩,fun h=>(wrF_calm _ _ p h).2⟩
theorem putBk_now{g:Gm}{x:Hd}(k:g.ok){by_:Int}{T:Nat->Nat}{ks:List Nat}{p:Fs}(o:p.f.ok)(I:Img g x p.f.now){i:Nat}(hi:i<g.m)(hw:g.word p.f.now i≠0)(h:(putBk g by_ T ks i p).2=0):(putBk g by_ T ks i p).1.f.now=over p.f.now (g.pl i) (addB g by_ T i ks (g.blk p.f.now i)):=by
 have h1:=(I.wi i hi hw).2
 have h3:=k.c_div
 have hl:=blk_len I hi hw
 unfold putBk at h ⊢
 exact wrF_now (Q:=g.c/512) (by rw[hl];omega) (by rw[addB_len,hl];omega) _ 0 p o omg omg (by rw[h3];rfl) h
theorem putBk_after{g:Gm}{x:Hd}(k:g.ok){by_:Int}{T:Nat->Nat}{ks:List Nat}{B:List UInt8}(Ad:Adds g by_ T ks B){D:List Nat}{p:Fs}(o:p.f.ok){i:Nat}(hi:i<g.m)(hD:i∉D)(M:Mid g x by_ T ks B D i p.f.now)
 (h:(putBk g by_ T ks i p).2=0):After g x by_ T ks B (i::D) (putBk g by_ T ks i p).1.f.now:=by
 rw[putBk_now k o M.img hi M.wi h]
 have hl:=blk_len M.img hi M.wi
 have hcb:∀q,q/g.n=i->cnt (g.blk p.f.now i) g.w (q%g.n)=g.base B q:=fun q hq=>by
  have:=M.cnt q (by rw[hq];exact hi)
  rw[if_neg (by rw[hq];exact hD),if_pos hq]at this
  have h2:g.cnt p.f.now q=g.base B q:=by exact_mod_cast this
  unfold Gm.cnt at h2
  rw[hq,if_neg M.wi]at h2
  exact h2
 have hbase:∀q,q∈ks->g.base B q=g.cnt B q:=fun q hq=>by
  unfold Gm.base
  rw[if_neg]
  rintro⟨h1,h2⟩
  exact (Ad.room q hq h1).2 h2
 have hac:=addB_cnt k (by_:=by_) (T:=T) (i:=i) ks (g.blk p.f.now i) Ad.nd hl (fun q hq hqi=>by
  rw[hcb q hqi,hbase q hq];exact Ad.fit q hq)
 have hin:=M.img.block (y:=addB g by_ T i ks (g.blk p.f.now i)) (q:=0) k hi M.wi (by rw[addB_len,hl];omega)
 have hov:over (g.blk p.f.now i) 0 (addB g by_ T i ks (g.blk p.f.now i))=addB g by_ T i ks (g.blk p.f.now i):=by
  unfold over
  rw[List.take_zero,List.nil_append,addB_len,Nat.zero_add,List.drop_length,List.append_nil]
 rw[Nat.add_zero,hov]at hin
 obtain⟨hlen,hword,hbi,hbj,himg⟩:=hin
 have hold:∀q,g.hold p.f.now q->q/g.n=i->g.hold B q\/(g.word B i=0/\q%g.n=0):=fun q hq hqi=>by
  rcases hq with h1|⟨j,h1,h2,h3,h4⟩
  ·exact .inl (.inl h1)
  ·have hj:j=i:=by rw[h4,(cl_div k h1).1]at hqi;exact hqi
   by_cases e:g.word B i=0
   ·right;exact⟨e,by rw[h4];exact (cl_div k h1).2⟩
   ·left;exact .inr ⟨j,h1,h2,by rw[hj];exact e,h4⟩
 have I2:=himg (fun q hq hqi=>by
  have h1:=hac q hqi
  rw[hcb q hqi]at h1
  by_cases hk:q∈ks
  ·rw[if_pos hk,hbase q hk]at h1
   rcases hold q hq hqi with h2|⟨h2,h3⟩
   ·have:=Ad.cov q hk h2;omega
   ·exact absurd h3 (Ad.room q hk (by rw[hqi];exact h2)).2
  ·rw[if_neg hk]at h1
   have:=M.img.cov q hq
   unfold Gm.cnt at this
   rw[hqi,if_neg M.wi,hcb q hqi]at this
   omega) (fun q hq=>k.hold_lt hq)
 refine⟨I2,by rw[hlen];exact M.len,fun j hj h1=>?_,fun j hj h1=>?_,fun q hq=>?_⟩
 ·rw[hword j hj]
  exact M.wd0 j hj (fun h=>h1 (List.mem_cons_of_mem _ h)) (fun e=>h1 (e▸List.mem_cons_self))
 ·rw[hword j hj]
  rcases List.mem_cons.1 h1 with rfl|h1
  ·exact M.wi
  ·exact M.wd1 j hj h1
 ·have hm:=M.cnt q hq
  by_cases e:q/g.n=i
  ·have h1:=hac q e
   rw[hcb q e]at h1
   rw[if_pos (by rw[e];exact List.mem_cons_self)]
   unfold Gm.cnt
   rw[hword _ hq,e,if_neg M.wi,hbi]
   exact h1
  ·have hc:g.cnt (over p.f.now (g.pl i) (addB g by_ T i ks (g.blk p.f.now i))) q=g.cnt p.f.now q:=by
    unfold Gm.cnt
    rw[hword _ hq]
    split
    ·rfl
    ·rename_i hw;rw[hbj _ hq e hw]
   rw[hc,hm]
   by_cases e2:q/g.n∈D
   ·rw[if_pos e2,if_pos (List.mem_cons_of_mem _ e2)]
   ·rw[if_neg e2,if_neg e,if_neg (fun h=>(List.mem_cons.1 h).elim e e2)]
end
section
theorem seqF_two{s t:Fs->Fs×Int}{p:Fs}(h:(s p).2=0):seqF [s,t] p=t (s p).1:=by
 rw[seqF_cons h,seqF]
 split
 ·rename_i h2
  rw[seqF]
  exact Prod.ext rfl h2.symm
 ·rfl
theorem stepB_all{g:Gm}{x:Hd}(k:g.ok){by_:Int}{T:Nat->Nat}{ks:List Nat}{B:List UInt8}(Ad:Adds g by_ T ks B){D:List Nat}{p:Fs}(o:p.f.ok)(A:After g x by_ T ks B D p.f.now){i:Nat}(hi:i<g.m)(hD:i∉D)(hk:∃q∈ks,q/g.n=i) :
 Stp1 p (stepB g by_ T ks i p).1 (5+g.c/512)/\(p.fates=[]->(stepB g by_ T ks i p).2=0)/\((stepB g by_ T ks i p).2=0->After g x by_ T ks B (i::D) (stepB g by_ T ks i p).1.f.now):=by
 obtain⟨q,hq,hqi⟩:=hk
 have hf:g.word B i=0->g.pl i+g.c<=268435456:=fun h=>hqi▸(Ad.room q hq (by rw[hqi];exact h)).1
 have hf2:g.word p.f.now i=0->g.pl i+g.c<=268435456:=fun h=>hf (by rw[<-A.wd0 i hi hD];exact h)
 obtain⟨s1,n1⟩:=getB_stp k o hi hf2
 unfold stepB
 by_cases e:(getB g i p).2=0
 ·have M:=getB_mid k o A hi hD hf e
  rw[seqF_two e]
  obtain⟨s2,n2⟩:=putBk_stp (by_:=by_) (T:=T) (ks:=ks) k s1.ok M.img hi M.wi
  exact⟨s1.trans s2,fun h=>n2 (s1.nil h),fun h=>putBk_after k Ad s1.ok hi hD M h⟩
 ·rw[seqF_err e]
  exact⟨s1.mono omg,n1,fun h=>absurd h e⟩
def addF(g:Gm)(by_:Int)(T:Nat->Nat)(ks bs:List Nat):Fs->Fs×Int:=seqF (bs.map (stepB g by_ T ks))
theorem addF_all{g:Gm}{x:Hd}(k:g.ok){by_:Int}{T:Nat->Nat}{ks:List Nat}{B:List UInt8}(Ad:Adds g by_ T ks B):∀(bs D:List Nat) (p:Fs),p.f.ok->After g x by_ T ks B D p.f.now->bs.Nodup->(∀i∈bs,i∉D/\i<g.m/\∃q∈ks,q/g.n=i) ->
 Stp1 p (addF g by_ T ks bs p).1 (bs.length*(5+g.c/512))/\(p.fates=[]->(addF g by_ T ks bs p).2=0)/\((addF g by_ T ks bs p).2=0->∃D',(∀i,i∈D'↔i∈bs\/i∈D)/\After g x by_ T ks B D' (addF g by_ T ks bs p).1.f.now)
 | [],D,p,o,A,_,_=>⟨⟨o,by show p.steps<=_;omega,id⟩,fun _=>rfl,fun _=>⟨D,fun i=>by simp,A⟩⟩
 | i::bs,D,p,o,A,hn,hb=>by
  obtain⟨h1,h2,h3⟩:=hb i List.mem_cons_self
  have hnc:=List.nodup_cons.1 hn
  obtain⟨s1,n1,a1⟩:=stepB_all k Ad o A h2 h1 h3
  unfold addF
  rw[List.map_cons]
  by_cases e:(stepB g by_ T ks i p).2=0
  ·rw[seqF_cons e]
   obtain⟨s2,n2,a2⟩:=addF_all k Ad bs (i::D) (stepB g by_ T ks i p).1 s1.ok (a1 e) hnc.2 (fun j hj=>by
    obtain⟨h4,h5,h6⟩:=hb j (List.mem_cons_of_mem _ hj)
    exact⟨fun h=>(List.mem_cons.1 h).elim (fun e=>hnc.1 (e▸hj)) h4,h5,h6⟩)
   have hs:=s1.trans s2
   refine⟨hs.mono ?_,fun h=>n2 (s1.nil h),fun h=>?_⟩
   ·rw[List.length_cons,Nat.add_mul];omega
   ·obtain⟨D',h7,h8⟩:=a2 h
    refine⟨D',fun j=>?_,h8⟩
    rw[h7 j,List.mem_cons,List.mem_cons]
    constructor
    ·rintro (h|h|h)
     ·exact .inl (.inr h)
     ·exact .inl (.inl h)
     ·exact .inr h
    ·rintro ((h|h)|h)
     ·exact .inr (.inl h)
     ·exact .inl h
     ·exact .inr (.inr h)
  ·rw[seqF_err e]
   refine⟨s1.mono ?_,n1,fun h=>absurd h e⟩
   rw[List.length_cons,Nat.add_mul];omega
end
section
variable {K:VP}{h:Heap}
theorem allZ_replicate(n:Nat):allZ (List.replicate n 0)=true:=by simp[allZ]
theorem textR_over{l s:List UInt8}{p m:Int}(hE:setTextE l.length p m s=0):textR (over l p.toNat (fieldB m.toNat s)) p m=(s,0):=by
 unfold setTextE at hE
 split at hE
 ·omega
 ·rename_i hz
  have hz:fieldE l.length p m=0:=by simpa using hz
  split at hE
  ·omega
  ·rename_i hs
   have hb:=fieldE_zero hz
   obtain⟨p',rfl⟩:=Int.eq_ofNat_of_zero_le hb.2.2.1
   obtain⟨m',rfl⟩:=Int.eq_ofNat_of_zero_le hb.1
   simp only[Int.toNat_natCast]
   have hfl:=fieldB_length (m:=m') (s:=s) omg
   have hlen:(over l p' (fieldB m' s)).length=l.length:=over_length omg
   have hdrop:(over l p' (fieldB m' s)).drop p'=fieldB m' s++l.drop (p'+(4+m')):=by
    unfold over
    rw[List.append_assoc,List.drop_append,List.drop_eq_nil_of_le (by simp;omega)]
    simp only[List.length_take,Nat.min_eq_left (show p'<=l.length by omega),Nat.sub_self,List.drop_zero,List.nil_append,hfl]
   have h4:((over l p' (fieldB m' s)).drop p').take 4=leB 4 s.length:=by
    rw[hdrop];unfold fieldB
    rw[List.append_assoc,List.take_append_of_le_length sM,List.take_of_length_le sM]
   have hn:leN (leB 4 s.length)=s.length:=by rw[leN_leB];exact Nat.mod_eq_of_lt omg
   have htail:∀k,((over l p' (fieldB m' s)).take (p'+4+m')).drop (p'+k)=(fieldB m' s).drop k:=by
    intro k
    rw[<-List.drop_drop,List.drop_take,hdrop,show p'+4+m'-p'=4+m' by omega,<-hfl,List.take_left]
   unfold textR
   rw[hlen,hz]
   simp only[ne_eq,not_true_eq_false,if_false,Int.toNat_natCast,h4,hn]
   rw[if_neg omg]
   have h5:((over l p' (fieldB m' s)).take (p'+4+m')).drop (p'+4+s.length)=List.replicate (m'-s.length) 0:=by
    rw[show p'+4+s.length=p'+(4+s.length) by omega,htail];unfold fieldB
    rw[List.drop_append,List.drop_eq_nil_of_le sM]
    simp
   rw[h5,allZ_replicate,if_pos rfl]
   have h6:((over l p' (fieldB m' s)).take (p'+4+s.length)).drop (p'+4)=s:=by
    rw[<-List.drop_drop,List.drop_take,hdrop,show p'+4+s.length-p'=4+s.length by omega]
    unfold fieldB
    rw[List.append_assoc,List.append_assoc,List.take_append,List.take_of_length_le sM,List.drop_append,List.drop_eq_nil_of_le sM]
    simp
   rw[h6]
end
section
variable {K:VP}{h:Heap}
theorem slB2{v:Value}{l:List UInt8}(hB:Bytes h v l)(hl:0<l.length)(lo hi:Int)(h0:0<=lo)(h1:lo<=hi)(h2:hi<=l.length) :
 ∃u,Bytes h u ((l.take hi.toNat).drop lo.toNat)/\∀(q:Bool) (K:VP) (g:Heap),Hp Tryz.prog q (Instr.sliceAt 52 v (some (.int .i64 lo)) (some (.int .i64 hi)) none) K g ⟨⟩↔K u g:=by
 obtain⟨o,c,rfl⟩:=hB.form
 obtain⟨a,rfl,-,hc,hA⟩:=hB.at hl
 refine⟨.slice (some (sub a lo.toNat c)) (hi.toNat-lo.toNat) (c-lo.toNat),.inr ⟨_,_,by congr 1;simp;omega,by simp;omega,hA.part lo.toNat hi.toNat c omg omg hc⟩,fun q K g=>?_⟩
 simp(disch:=omega)
theorem slB1{v:Value}{l:List UInt8}(hB:Bytes h v l)(hl:0<l.length)(lo:Int)(h0:0<=lo)(h2:lo<=l.length) :
 ∃u,Bytes h u (l.drop lo.toNat)/\∀(q:Bool) (K:VP) (g:Heap),Hp Tryz.prog q (Instr.sliceAt 52 v (some (.int .i64 lo)) none none) K g ⟨⟩↔K u g:=by
 obtain⟨o,c,rfl⟩:=hB.form
 obtain⟨a,rfl,-,hc,hA⟩:=hB.at hl
 have hp:=hA.part lo.toNat l.length c omg omg hc
 rw[List.take_length]at hp
 refine⟨.slice (some (sub a lo.toNat c)) (l.length-lo.toNat) (c-lo.toNat),.inr ⟨_,_,by congr 1;simp,by simp;omega,hp⟩,fun q K g=>?_⟩
 simp(disch:=omega)
theorem slB0{v:Value}{l:List UInt8}(hB:Bytes h v l)(hl:0<l.length)(hi:Int)(h0:0<=hi)(h2:hi<=l.length) :
 ∃u,Bytes h u (l.take hi.toNat)/\∀(q:Bool) (K:VP) (g:Heap),Hp Tryz.prog q (Instr.sliceAt 52 v none (some (.int .i64 hi)) none) K g ⟨⟩↔K u g:=by
 obtain⟨o,c,rfl⟩:=hB.form
 obtain⟨a,rfl,-,hc,hA⟩:=hB.at hl
 have hp:=hA.part 0 hi.toNat c omg omg hc
 rw[sub_zero,List.drop_zero]at hp
 refine⟨.slice (some a) hi.toNat c,.inr ⟨_,_,by congr 1;simp;omega,by simp;omega,hp⟩,fun q K g=>?_⟩
 simp(disch:=omega)
def num62(l:List UInt8):Int:=if leN l<4611686018427387904 then leN l else -1
def refS:List UInt8->Option (Sn×List UInt8)
 | []=>none
 | c::t=>if t.length<c.toNat+20 then none else
  some (⟨t.take c.toNat,num62 ((t.drop c.toNat).take 8),num62 (((t.drop c.toNat).take 12).drop 8),num62 (((t.drop c.toNat).take 20).drop 12)⟩,(t.drop c.toNat).drop 20)
def refSN(l:List UInt8):Nat->Option (List Sn×List UInt8)
 | 0=>some ([],l)
 | i+1=>(refSN l i).bind fun a=>(refS a.2).map fun x=>(a.1++[x.1],x.2)
end
section
variable {K:VP}{h:Heap}
theorem hdB_split{x:Hd}{j:Nat}(hj:j<14):∃C,hdB x=hdP x j++(leB ((hdF x)[j]'hj).1 ((hdF x)[j]'hj).2++C):=by
 have h1:=hdP_succ (x:=x) (j:=j) hj
 have h2:∃D,hdP x 14=hdP x (j+1)++D:=by
  refine⟨((hdF x).drop (j+1)).flatMap fun p=>leB p.1 p.2,?_⟩
  unfold hdP
  rw[List.append_assoc,<-List.flatMap_append,List.take_append_drop]
  rfl
 obtain⟨D,hD⟩:=h2
 refine⟨D++(fieldB 64 x.back++List.replicate 360 0),?_⟩
 unfold hdB
 rw[hD,h1]
 simp only[List.append_assoc]
theorem hdB_get{x:Hd}(m:MayH x){j:Nat}(hj:j<14):getR (hdB x) (hdAt[j]'hj:Nat) ((hdF x)[j]'hj).1=(((hdF x)[j]'hj).2,0):=by
 obtain⟨C,hC⟩:=hdB_split (x:=x) hj
 have hl:=hdB_len m
 have hok:=hdF_ok m j hj
 have hp:=hdP_len (x:=x) hj
 rw[getR_in omg omg,hC,<-hp,List.drop_left,List.take_left' sM,leN_leB]
 have:(hdF x)[j].2<256^(hdF x)[j].1:=by
  rcases hok.2.1 with e|e
  ·rw[e,show (256:Nat)^4=4294967296 by decide];omega
  ·rw[e,show (256:Nat)^8=18446744073709551616 by decide];omega
 rw[Nat.mod_eq_of_lt this]
theorem hdB_text{x:Hd}(m:MayH x):textR (hdB x) 84 64=(x.back,0):=by
 have hbl:=m.bd.2.2.2.2
 have hlen:(hdP x 14++List.replicate (68+360) (0:UInt8)).length=512:=by rw[List.length_append,List.length_replicate,hdP_14]
 have hE:setTextE (hdP x 14++List.replicate (68+360) (0:UInt8)).length 84 64 x.back=0:=by
  rw[hlen]
  have hF0:fieldE (512:Nat) 84 64=0:=by unfold fieldE;rw[if_neg omg,if_pos omg]
  unfold setTextE
  rw[if_neg (by rw[hF0];simp),if_neg omg]
 have h1:=textR_over hE
 have h2:=over_zeros (A:=hdP x 14) (M:=fieldB 64 x.back) (n:=68) (m:=360) (by rw[fieldB_length hbl])
 rw[hdP_14]at h2
 have h3:hdB x=hdP x 14++fieldB 64 x.back++List.replicate 360 0:=by unfold hdB;rw[List.append_assoc]
 rw[h3,<-h2]
 exact h1
def gotI(l:List UInt8)(p n:Int):Int:=IntKind.i64.wrap (getR l p n).1
def hdD(l:List UInt8):Hd:=⟨gotI l 4 4,(IntKind.u64.wrap (gotI l 8 8)).toNat,gotI l 16 8,gotI l 24 8,gotI l 32 4,gotI l 36 4,gotI l 40 8,gotI l 48 4,gotI l 52 4,gotI l 56 8,gotI l 64 4,gotI l 68 4,gotI l 72 8,gotI l 80 4,(textR l 84 64).1⟩
theorem got_of{l:List UInt8}{p n:Int}{x:Nat}{e:Int}(h:getR l p n=(x,e))(hx:x<=268435456):gotI l p n=x:=by
 unfold gotI
 rw[h]
 exact wrap_i64 omg omg
set_option maxHeartbeats 1000000 in
theorem hdD_hdB{x:Hd}(m:MayH x):hdD (hdB x)=x:=by
 have b:=m.bd
 have t_bits:((x.bits.toNat:Nat):Int)=x.bits:=Int.toNat_of_nonneg omg
 have t_size:((x.size.toNat:Nat):Int)=x.size:=Int.toNat_of_nonneg omg
 have t_l1:((x.l1.toNat:Nat):Int)=x.l1:=Int.toNat_of_nonneg omg
 have t_l1len:((x.l1len.toNat:Nat):Int)=x.l1len:=Int.toNat_of_nonneg omg
 have t_order:((x.order.toNat:Nat):Int)=x.order:=Int.toNat_of_nonneg omg
 have t_counts:((x.counts.toNat:Nat):Int)=x.counts:=Int.toNat_of_nonneg omg
 have t_clen:((x.clen.toNat:Nat):Int)=x.clen:=Int.toNat_of_nonneg omg
 have t_snaps:((x.snaps.toNat:Nat):Int)=x.snaps:=Int.toNat_of_nonneg omg
 have t_sat:((x.sat.toNat:Nat):Int)=x.sat:=Int.toNat_of_nonneg omg
 have t_slen:((x.slen.toNat:Nat):Int)=x.slen:=Int.toNat_of_nonneg omg
 have t_maps:((x.maps.toNat:Nat):Int)=x.maps:=Int.toNat_of_nonneg omg
 have t_mat:((x.mat.toNat:Nat):Int)=x.mat:=Int.toNat_of_nonneg omg
 have t_mlen:((x.mlen.toNat:Nat):Int)=x.mlen:=Int.toNat_of_nonneg omg
 have e1:(IntKind.u64.wrap (x.flags:Int)).toNat=x.flags:=by rw[wrap_u64 omg omg];simp
 have g:∀j (hj:j<14),gotI (hdB x) (hdAt[j]'hj:Nat) ((hdF x)[j]'hj).1=((hdF x)[j]'hj).2:=fun j hj=>got_of (hdB_get m hj) (hdF_ok m j hj).2.2
 have ht:=hdB_text m
 generalize hdB x=L at g ht ⊢
 have g0:=g 0 dM
 have g1:=g 1 dM
 have g2:=g 2 dM
 have g3:=g 3 dM
 have g4:=g 4 dM
 have g5:=g 5 dM
 have g6:=g 6 dM
 have g7:=g 7 dM
 have g8:=g 8 dM
 have g9:=g 9 dM
 have g10:=g 10 dM
 have g11:=g 11 dM
 have g12:=g 12 dM
 have g13:=g 13 dM
 simp only[hdAt,hdF,List.getElem_cons_zero,List.getElem_cons_succ]at g0 g1 g2 g3 g4 g5 g6 g7 g8 g9 g10 g11 g12 g13
 unfold hdD
 rw[ht]
 have r0:gotI L 4 4=x.bits:=Eq.trans g0 t_bits
 have r2:gotI L 16 8=x.size:=Eq.trans g2 t_size
 have r3:gotI L 24 8=x.l1:=Eq.trans g3 t_l1
 have r4:gotI L 32 4=x.l1len:=Eq.trans g4 t_l1len
 have r5:gotI L 36 4=x.order:=Eq.trans g5 t_order
 have r6:gotI L 40 8=x.counts:=Eq.trans g6 t_counts
 have r7:gotI L 48 4=x.clen:=Eq.trans g7 t_clen
 have r8:gotI L 52 4=x.snaps:=Eq.trans g8 t_snaps
 have r9:gotI L 56 8=x.sat:=Eq.trans g9 t_sat
 have r10:gotI L 64 4=x.slen:=Eq.trans g10 t_slen
 have r11:gotI L 68 4=x.maps:=Eq.trans g11 t_maps
 have r12:gotI L 72 8=x.mat:=Eq.trans g12 t_mat
 have r13:gotI L 80 4=x.mlen:=Eq.trans g13 t_mlen
 have r1:(IntKind.u64.wrap (gotI L 8 8)).toNat=x.flags:=by rw[show gotI L 8 8=x.flags from g1];exact e1
 rw[r0,r1,r2,r3,r4,r5,r6,r7,r8,r9,r10,r11,r12,r13]
theorem hdB_inj{x y:Hd}(m:MayH x)(m':MayH y)(e:hdB x=hdB y):x=y:=by
 rw[<-hdD_hdB m,e,hdD_hdB m']
end
set_option maxRecDepth 20000
section
variable {K:VP}{h:Heap}
theorem InvokeH_2_1{P:Go.Program}{g:Go.FuncId}{a b c1:Go.Value}(hc:callOk P g=true)(H:CallsH P g #[a,b,c1] h K ⟨⟩):InvokeH P (.func (.func g) #[] #[c1]) #[a,b] h K ⟨⟩:=InvokeH_func hc (by simpa using H)
theorem getH_c{B:Nat}{v:Value}{l:List UInt8}{p n:Int}(hb:hcell h ⟨B,0,none⟩=some v)(hB:Bytes h v l)(hl:l.length<1000000)(H:K (.int .i64 (gotI l p n)) h) :
 InvokeH Tryz.prog (.func (.func 84) #[] #[.pointer (some ⟨B,0,none⟩)]) #[.int .i64 p,.int .i64 n] h K ⟨⟩:=by
 refine InvokeH_2_1 kR ?_
 refine n84_calls ?_
 unfold n84;try delta vF vG vC vD vJ vV vk vt
 obtain⟨o,c,rfl⟩:=hB.form
 simp(disch:=omega)[hb]
 refine Get_c hB omg ?_
 unfold gotI at H
 simp(disch:=omega)[Tryz.cvw44_2]
 exact H
def HdW(h:Heap)(b:Nat)(x:Hd):Prop:=Cel h b 0 (.int .i64 x.bits)/\Cel h b 1 (.int .u64 x.flags)/\Cel h b 2 (.int .i64 x.size)/\Cel h b 3 (.int .i64 x.l1)/\Cel h b 4 (.int .i64 x.l1len)/\Cel h b 5 (.int .i64 x.order)/\Cel h b 6 (.int .i64 x.counts)/\Cel h b 7 (.int .i64 x.clen)/\Cel h b 8 (.int .i64 x.snaps)/\Cel h b 9 (.int .i64 x.sat)/\Cel h b 10 (.int .i64 x.slen)/\Cel h b 11 (.int .i64 x.maps)/\Cel h b 12 (.int .i64 x.mat)/\Cel h b 13 (.int .i64 x.mlen)/\Cel h b 14 (str x.back)
theorem HdW.at{b:Nat}{x:Hd}(a:HdW h b x):HdAt h b x:=by
 obtain⟨d0,d1,d2,d3,d4,d5,d6,d7,d8,d9,d10,d11,d12,d13,d14⟩:=a
 exact⟨d0.get,d1.get,d2.get,d3.get,d4.get,d5.get,d6.get,d7.get,d8.get,d9.get,d10.get,d11.get,d12.get,d13.get,d14.get⟩
theorem HdW.ext{h':Heap}{b:Nat}{x:Hd}(a:HdW h b x)(e:Ext h h'):HdW h' b x:=by
 obtain⟨d0,d1,d2,d3,d4,d5,d6,d7,d8,d9,d10,d11,d12,d13,d14⟩:=a
 exact⟨d0.ext e,d1.ext e,d2.ext e,d3.ext e,d4.ext e,d5.ext e,d6.ext e,d7.ext e,d8.ext e,d9.ext e,d10.ext e,d11.ext e,d12.ext e,d13.ext e,d14.ext e⟩
set_option maxHeartbeats 1000000 in
theorem storeH{b:Nat}{x y:Hd}(a:HdW h b y)(H:∀h',Mod (· = b) h h'->HdW h' b x->K undef h'):Hp Tryz.prog false (storeS 84 (.pointer (some ⟨b,0,none⟩)) x.val) K h ⟨⟩:=by
 obtain⟨d0,d1,d2,d3,d4,d5,d6,d7,d8,d9,d10,d11,d12,d13,d14⟩:=a
 have hlt:=d0.lt
 unfold Hd.val Hd.cells
 simp(disch:=omega)[d0.get,d0.free,d1.get,d1.free,d2.get,d2.free,d3.get,d3.free,d4.get,d4.free,d5.get,d5.free,d6.get,d6.free,d7.get,d7.free,d8.get,d8.free,d9.get,d9.free,d10.get,d10.free,d11.get,d11.free,d12.get,d12.free,d13.get,d13.free,d14.get,d14.free]
 refine H _ modS ?_
 refine⟨?_,?_,?_,?_,?_,?_,?_,?_,?_,?_,?_,?_,?_,?_,?_⟩
 all_goals simp(disch:=omega)[Cel_iff,d0.get,d0.free,d1.get,d1.free,d2.get,d2.free,d3.get,d3.free,d4.get,d4.free,d5.get,d5.free,d6.get,d6.free,d7.get,d7.free,d8.get,d8.free,d9.get,d9.free,d10.get,d10.free,d11.get,d11.free,d12.get,d12.free,d13.get,d13.free,d14.get,d14.free]
theorem allocH{K2:VP}(H:∀g2,Ext h g2->HdW g2 h.size ⟨0,0,0,0,0,0,0,0,0,0,0,0,0,0,[]⟩->g2.size=h.size+1->K2 (.pointer (some ⟨h.size,0,none⟩)) g2):Hp Tryz.prog false (Instr.alloc 84 true undef) K2 h ⟨⟩:=by
 simp(disch:=omega)
 refine H _ extS ?_ sM
 refine⟨?_,?_,?_,?_,?_,?_,?_,?_,?_,?_,?_,?_,?_,?_,?_⟩
 all_goals exact⟨by simp,by simp⟩
theorem nameW{b:Nat}{x:Hd}{nm:List UInt8}(a:HdW h b x)(H:∀h',Mod (· = b) h h'->HdW h' b { x with back:=nm }->K undef h'):Hp Tryz.prog false (Instr.fieldAt 84 (.pointer (some ⟨b,0,none⟩)) 14) (fun p h1=>Hp Tryz.prog false (storeS 9 p (str nm)) K h1 ⟨⟩) h ⟨⟩:=by
 obtain⟨d0,d1,d2,d3,d4,d5,d6,d7,d8,d9,d10,d11,d12,d13,d14⟩:=a
 have hlt:=d0.lt
 simp(disch:=omega)[d0.get,d0.free,d1.get,d1.free,d2.get,d2.free,d3.get,d3.free,d4.get,d4.free,d5.get,d5.free,d6.get,d6.free,d7.get,d7.free,d8.get,d8.free,d9.get,d9.free,d10.get,d10.free,d11.get,d11.free,d12.get,d12.free,d13.get,d13.free,d14.get,d14.free]
 refine H _ modS ?_
 refine⟨?_,?_,?_,?_,?_,?_,?_,?_,?_,?_,?_,?_,?_,?_,?_⟩
 all_goals simp(disch:=omega)[Cel_iff,d0.get,d0.free,d1.get,d1.free,d2.get,d2.free,d3.get,d3.free,d4.get,d4.free,d5.get,d5.free,d6.get,d6.free,d7.get,d7.free,d8.get,d8.free,d9.get,d9.free,d10.get,d10.free,d11.get,d11.free,d12.get,d12.free,d13.get,d13.free,d14.get,d14.free]
theorem loadCellH{q:Bool}{b:Nat}{x:Hd}(a:HdAt h b x):Hp Tryz.prog q (loadCell 84 (.pointer (some ⟨b,0,none⟩))) K h ⟨⟩↔K x.val h:=by
 obtain⟨a0,a1,a2,a3,a4,a5,a6,a7,a8,a9,a10,a11,a12,a13,a14⟩:=a
 unfold Hd.val Hd.cells
 simp[a0,a1,a2,a3,a4,a5,a6,a7,a8,a9,a10,a11,a12,a13,a14]
def Hd0:Hd:=⟨0,0,0,0,0,0,0,0,0,0,0,0,0,0,[]⟩
def IsHd(l:List UInt8):Prop:=512<=l.length/\∃x,MayH x/\hdB x=l.take 512
set_option maxHeartbeats 4000000 in
theorem HRead_c{v:Value}{l:List UInt8}(hB:Bytes h v l)(hl:l.length<1000000)
 (ht:∀h' x,Ext h h'->512<=l.length->MayH x->hdB x=l.take 512->K (.tuple #[x.val,.int .i64 0]) h') (hf:∀h',Ext h h'->¬IsHd l->K (.tuple #[Hd0.val,.int .i64 180]) h') :
 CallsH Tryz.prog 34 #[v] h K ⟨⟩:=by
 obtain⟨o,q0,rfl⟩:=hB.form
 refine n34_calls ?_
 unfold n34;try delta vF vG vC vD vJ vV vk vt
 by_cases h512:l.length<512
 ·simp(disch:=omega)
  exact hf _ extS (fun i=>by have:=i.1;omega)
 obtain⟨a,rfl,-,hq,hAt⟩:=hB.at omg
 have hT:Bytes h (.slice (some a) 512 q0) (l.take 512):=by
  have hp:=hAt.part 0 512 q0 omg omg hq
  rw[sub_zero,List.drop_zero]at hp
  exact .inr ⟨_,_,by congr 1;simp;omega,by simp;omega,hp⟩
 simp(disch:=omega)
 refine (⟨_,rfl⟩:∃g,g=hset ((Array.push h (Obj.cells #[Value.slice (some a) l.length q0] 52)).push (Obj.cells #[Value.int IntKind.i64 0,Value.int IntKind.u64 0,Value.int IntKind.i64 0,Value.int IntKind.i64 0,Value.int IntKind.i64 0,Value.int IntKind.i64 0,Value.int IntKind.i64 0,Value.int IntKind.i64 0,Value.int IntKind.i64 0,Value.int IntKind.i64 0,Value.int IntKind.i64 0,Value.int IntKind.i64 0,Value.int IntKind.i64 0,Value.int IntKind.i64 0,str []] 84)) ⟨h.size,0,none⟩ (Value.slice (some a) 512 q0)).elim fun g eg=>?_
 simp only[<-eg]
 have e0:Ext h g:=by rw[eg];exact extS
 have hb:hcell g ⟨h.size,0,none⟩=some (.slice (some a) 512 q0):=by rw[eg];simp
 have zg:g.size=h.size+2:=by rw[eg];simp
 have hz:HdW g (h.size+1) Hd0:=by rw[eg];refine⟨?_,?_,?_,?_,?_,?_,?_,?_,?_,?_,?_,?_,?_,?_,?_⟩<;>exact⟨by simp[Hd0],by simp⟩
 clear eg
 have hT:=hT.ext e0
 generalize hLL:l.take 512=L at *
 have hLl:L.length=512:=by rw[<-hLL,List.length_take];omega
 obtain⟨fl,hfl⟩:∃fl:Nat,IntKind.u64.wrap (gotI L 8 8)=fl:=⟨(IntKind.u64.wrap (gotI L 8 8)).toNat,by rw[Int.toNat_of_nonneg];rw[wrap_u64_eq];exact Int.emod_nonneg _ dM⟩
 obtain⟨nm,te,htx⟩:∃nm te,textR L 84 64=(nm,te):=⟨_,_,rfl⟩
 obtain⟨n0,n1,n2,n3,n4,n5,n6,n7,n8,n9,n10,n11,n12,n13,hD⟩:∃n0 n1 n2 n3 n4 n5 n6 n7 n8 n9 n10 n11 n12 n13,gotI L 4 4=n0/\gotI L 8 8=n1/\gotI L 16 8=n2/\gotI L 24 8=n3/\gotI L 32 4=n4/\gotI L 36 4=n5/\gotI L 40 8=n6/\gotI L 48 4=n7/\gotI L 52 4=n8/\gotI L 56 8=n9/\gotI L 64 4=n10/\gotI L 68 4=n11/\gotI L 72 8=n12/\gotI L 80 4=n13:=⟨_,_,_,_,_,_,_,_,_,_,_,_,_,_,rfl,rfl,rfl,rfl,rfl,rfl,rfl,rfl,rfl,rfl,rfl,rfl,rfl,rfl⟩
 obtain⟨d0,d1,d2,d3,d4,d5,d6,d7,d8,d9,d10,d11,d12,d13⟩:=hD
 have hx:hdD L=⟨n0,fl,n2,n3,n4,n5,n6,n7,n8,n9,n10,n11,n12,n13,nm⟩:=by
  unfold hdD
  rw[hfl,htx,d0,d2,d3,d4,d5,d6,d7,d8,d9,d10,d11,d12,d13,Int.toNat_natCast]
 rw[d1]at hfl
 refine getH_c hb hT omg ?_
 rw[d0]
 refine getH_c hb hT omg ?_
 rw[d1]
 refine (Tryz.cvw2_44).2 ?_
 rw[ValI_iff,hfl]
 refine getH_c hb hT omg ?_
 rw[d2]
 refine getH_c hb hT omg ?_
 rw[d3]
 refine getH_c hb hT omg ?_
 rw[d4]
 refine getH_c hb hT omg ?_
 rw[d5]
 refine getH_c hb hT omg ?_
 rw[d6]
 refine getH_c hb hT omg ?_
 rw[d7]
 refine getH_c hb hT omg ?_
 rw[d8]
 refine getH_c hb hT omg ?_
 rw[d9]
 refine getH_c hb hT omg ?_
 rw[d10]
 refine getH_c hb hT omg ?_
 rw[d11]
 refine getH_c hb hT omg ?_
 rw[d12]
 refine getH_c hb hT omg ?_
 rw[d13]
 rw[Tryz.bd84_0_1_2_3_4_5_6_7_8_9_10_11_12_13]
 refine allocH fun g2 e2 hz2 zg2=>?_
 refine storeH (x:=⟨n0,fl,n2,n3,n4,n5,n6,n7,n8,n9,n10,n11,n12,n13,[]⟩) hz2 fun g3 m3 hw3=>?_
 have e3:Ext g g3:=m3.ext_from e2 (fun b hb e=>by omega)
 have hb3:=hcell_ext e3 hb
 have hT3:=hT.ext e3
 have s3:=m3.size
 simp(disch:=omega)[hb3]
 refine Text_c hT3 omg ?_
 rw[htx]
 simp only[Hp_extract0,Hp_extract1]
 refine nameW hw3 fun g4 m4 hw4=>?_
 have e4:Ext g g4:=m4.ext_from e3 (fun b hb e=>by omega)
 have s4:=m4.size
 rw[loadH hw4.at]
 refine HBytes_c (x:=⟨n0,fl,n2,n3,n4,n5,n6,n7,n8,n9,n10,n11,n12,n13,nm⟩) (fun vv g5 e5 hO5 hF5 hM=>?_) (fun g5 e5 hM=>?_)
 ·have E5:=e4.trans e5
  have hb5:=hcell_ext E5 hb
  have hT5:=hT.ext E5
  have hw5:=hw4.ext e5
  have hz5:=hz.ext E5
  have hV5:=hO5.bytes
  by_cases te0:te=0
  ·simp(disch:=omega)[-Tryz.st84,-Tryz.ld84,te0,hb5]
   refine n88_calls ?_
   unfold n88;try delta vF vG vC vD vJ vV vk vt
   simp(disch:=omega)[-Tryz.st84,-Tryz.ld84,Tryz.cv52_9 hV5,Tryz.cv52_9 hT5]
   refine Split.mk (fun he=>?_) (fun he=>?_)
   ·simp(disch:=omega)[-Tryz.st84,-Tryz.ld84]
    rw[loadH hw5.at]
    refine storeH (x:=⟨n0,fl,n2,n3,n4,n5,n6,n7,n8,n9,n10,n11,n12,n13,nm⟩) hz5 fun g6 m6 hw6=>?_
    rw[loadCellH hw6.at]
    exact ht _ _ (m6.ext_from (e0.trans E5) (fun b hb e=>by omega)) omg hM he
   ·simp(disch:=omega)[-Tryz.st84,-Tryz.ld84]
    refine storeH (x:=Hd0) hz5 fun g6 m6 hw6=>?_
    rw[loadCellH hw6.at]
    refine hf _ (m6.ext_from (e0.trans E5) (fun b hb e=>by omega)) (fun i=>?_)
    obtain⟨-,y,hy,hyL⟩:=i
    rw[hLL]at hyL
    have:=hdD_hdB hy
    rw[hyL,hx]at this
    rw[this]at he
    exact he hyL
  ·simp(disch:=omega)[-Tryz.st84,-Tryz.ld84,te0,hb5]
   refine storeH (x:=Hd0) hz5 fun g6 m6 hw6=>?_
   rw[loadCellH hw6.at]
   refine hf _ (m6.ext_from (e0.trans E5) (fun b hb e=>by omega)) (fun i=>?_)
   obtain⟨-,y,hy,hyL⟩:=i
   rw[hLL]at hyL
   have:=hdB_text hy
   rw[hyL,htx]at this
   exact te0 (Prod.mk.inj this).2
 ·have E5:=e4.trans e5
  have hz5:=hz.ext E5
  have hno:¬IsHd l:=fun i=>by
   obtain⟨-,y,hy,hyL⟩:=i
   rw[hLL]at hyL
   have:=hdD_hdB hy
   rw[hyL,hx]at this
   rw[this]at hM
   exact hM hy
  by_cases te0:te=0
  ·simp(disch:=omega)[-Tryz.st84,-Tryz.ld84,te0]
   refine storeH (x:=Hd0) hz5 fun g6 m6 hw6=>?_
   rw[loadCellH hw6.at]
   exact hf _ (m6.ext_from (e0.trans E5) (fun b hb e=>by omega)) hno
  ·simp(disch:=omega)[-Tryz.st84,-Tryz.ld84,te0]
   refine storeH (x:=Hd0) hz5 fun g6 m6 hw6=>?_
   rw[loadCellH hw6.at]
   exact hf _ (m6.ext_from (e0.trans E5) (fun b hb e=>by omega)) hno
end
section
variable {K:VP}{h:Heap}
def rgT:Nat:=89
structure HdOk (g:Gm) (x:Hd):Prop where
 may:MayH x
 bits:x.bits=g.b
 order:x.order=g.o
 counts:x.counts=g.c
 clen:x.clen=g.L
 l1:g.u=g.L+2/\x.l1len=0\/g.u=g.L+3/\x.l1=((1+g.L)*g.c:Nat)/\1<=x.l1len/\8*x.l1len<=g.c
 snaps:x.snaps=0
 maps:x.maps=0
def RgAt(h:Heap)(o sp:Nat)(g:Gm)(x:Hd):Prop :=
 h[o]? = some (.cells #[ptrV sp,str nA,.int .i64 x.bits,.int .u64 x.flags,.int .i64 x.size,.int .i64 x.l1,.int .i64 x.l1len,.int .i64 x.order,.int .i64 x.counts,.int .i64 x.clen,.int .i64 x.snaps,.int .i64 x.sat,.int .i64 x.slen,.int .i64 x.maps,.int .i64 x.mat,.int .i64 x.mlen,str x.back,.int .i64 (g.c:Nat),.int .i64 (g.n:Nat)] rgT)
theorem RgAt.ext{h':Heap}{o sp:Nat}{g:Gm}{x:Hd}(a:RgAt h o sp g x)(e:Ext h h'):RgAt h' o sp g x:=(e.block _ (get_some_lt a)).trans a
theorem RgAt.mod{S:Nat->Prop}{h':Heap}{o sp:Nat}{g:Gm}{x:Hd}(a:RgAt h o sp g x)(m:Mod S h h')(hS:¬S o):RgAt h' o sp g x:=(m.block _ (get_some_lt a) hS).trans a
structure RA (h:Heap) (o sp:Nat) (g:Gm) (x:Hd) (s:St) (p:Fs):Prop where
 rg:RgAt h o sp g x
 st:StAt h sp s
 fs:FsAt s p
 nf:¬s.foot sp o
 ok:g.ok
 hd:HdOk g x
theorem RA.ext{h':Heap}{o sp:Nat}{g:Gm}{x:Hd}{s:St}{p:Fs}(a:RA h o sp g x s p)(e:Ext h h'):RA h' o sp g x s p:=⟨a.rg.ext e,a.st.ext e,a.fs,a.nf,a.ok,a.hd⟩
theorem RA.upd{h':Heap}{o sp:Nat}{g:Gm}{x:Hd}{s s':St}{p p':Fs}(a:RA h o sp g x s p)(u:SUpd h h' sp s s')(f:FsAt s' p'):RA h' o sp g x s' p' :=
 ⟨a.rg.mod u.mod a.nf,u.st,f,fun e=>(u.foot o e).elim a.nf (fun e=>by have:=get_some_lt a.rg;omega),a.ok,a.hd⟩
theorem RA.fok{o sp:Nat}{g:Gm}{x:Hd}{s:St}{p:Fs}(a:RA h o sp g x s p):p.f.ok:=a.fs.ok a.st
theorem gNone_c{o sp:Nat}{g:Gm}{x:Hd}(a:RgAt h o sp g x)(H:K (.bool false) h):CallsH Tryz.prog 39 #[ptrV o] h K ⟨⟩:=by
 refine n39_calls ?_
 unfold n39;try delta vF vG vC vD vJ vV vk vt
 have c0:=cellOf (i:=0) a rfl
 unfold ptrV at c0 ⊢
 simp(disch:=omega)[c0]
 exact H
theorem Gm.ok.room_eq{g:Gm}(k:g.ok):(((g.L:Nat):Int)*((g.c:Nat):Int)/8)*((g.n:Nat):Int)=((g.room:Nat):Int):=by
 have h1:=k.m8
 unfold Gm.room
 rw[Int.natCast_mul]
 congr 1
 rw[<-Int.natCast_mul,<-h1]
 omega
theorem Gm.ok.room_lt{g:Gm}(k:g.ok):g.room<=171798691840/\g.L*g.c<=2621440/\g.c<=65536:=by
 obtain⟨q,hq,h1,h2⟩:=k.c512
 have hn:=k.n64
 have hc:g.L*g.c<=40*65536:=Nat.mul_le_mul k.L1 omg
 have hm:=k.m8
 refine⟨?_,by omega,by omega⟩
 unfold Gm.room
 calc g.m*g.n<=327680*524288:=Nat.mul_le_mul omg hn.2
  _=171798691840:=by decide
theorem gRoom_c{o sp:Nat}{g:Gm}{x:Hd}(a:RgAt h o sp g x)(k:g.ok)(hd:HdOk g x)(H:K (.int .i64 (g.room:Nat)) h):CallsH Tryz.prog 20 #[ptrV o] h K ⟨⟩:=by
 refine n20_calls ?_
 unfold n20;try delta vF vG vC vD vJ vV vk vt
 refine gNone_c a ?_
 have c9:=cellOf (i:=9) a rfl
 have c17:=cellOf (i:=17) a rfl
 have c18:=cellOf (i:=18) a rfl
 rw[hd.clen]at c9
 have h1:=k.room_lt
 have h2:=k.room_eq
 obtain⟨LC,hLC⟩:∃LC,g.L*g.c=LC:=⟨_,rfl⟩
 have h3:((g.L:Nat):Int)*((g.c:Nat):Int)=((LC:Nat):Int):=by rw[<-hLC,Int.natCast_mul]
 rw[h3]at h2
 rw[hLC]at h1
 have hL:=k.L1
 obtain⟨q,hq,hq1,hq2⟩:=k.c512
 have hn:=k.n64
 unfold ptrV
 simp(disch:=omega)[c9,c17,c18,h3,h2]
 exact H
end
section
variable {K:VP}{h:Heap}
theorem gBytes_c{o sp:Nat}{g:Gm}{x:Hd}{s:St}{p:Fs}{k n:Int}(a:RA h o sp g x s p)(k0:0<=k)(n0:0<=n)(hk:k+n<=p.f.now.length)
 (H:∀h' v,Ext h h'->OwnT bT 1 h' v ((part p.f.now k.toNat n.toNat).map byteV)->(∀b,blkV v=some b->h.size<=b)->K (.tuple #[v,.int .i64 0]) h') :
 CallsH Tryz.prog 92 #[ptrV o,.int .i64 k,.int .i64 n] h K ⟨⟩:=by
 refine n92_calls ?_
 unfold n92;try delta vF vG vC vD vJ vV vk vt
 have c0:=cellOf (i:=0) a.rg rfl
 have c1:=cellOf (i:=1) a.rg rfl
 have ho:=a.fok
 have hf:=ho.few
 have hl:=ho.now_len
 unfold ptrV at c0 ⊢
 simp(disch:=omega)[c0,c1]
 rw[show (.pointer (some ⟨sp,0,none⟩):Value)=ptrV sp from rfl]
 refine sRead_c a.st a.fs omg omg omg omg fun h1 v e1 ov f2=>?_
 have hpl:(part p.f.now k.toNat n.toNat).length=n.toNat:=part_len omg
 obtain⟨va,vn,vc,rfl,hn,hc,-⟩:=ov.g.form
 have hvn:vn=n.toNat:=by rw[List.length_map]at hn;unfold part at hpl;omega
 subst hvn
 simp(disch:=omega)
 exact H h1 _ e1 ov f2
theorem getR_8{l:List UInt8}(h:l.length=8):getR l 0 8=(leN l,0):=by
 unfold getR
 rw[if_neg omg,if_pos omg]
 rw[show (0:Int).toNat=0 from rfl,show (8:Int).toNat=8 from rfl,List.drop_zero,List.take_of_length_le omg]
set_option maxHeartbeats 1000000 in
theorem gBlock_c{o sp:Nat}{g:Gm}{x:Hd}{s:St}{p:Fs}(a:RA h o sp g x s p)(I:Img g x p.f.now){i:Nat}(hi:i<g.m)
 (H:∀h',Ext h h'->K (.tuple #[.int .i64 (g.word p.f.now i:Nat),.int .i64 0]) h'):CallsH Tryz.prog 91 #[ptrV o,.int .i64 i] h K ⟨⟩:=by
 refine n91_calls ?_
 unfold n91;try delta vF vG vC vD vJ vV vk vt
 have c8:=cellOf (i:=8) a.rg rfl
 rw[a.hd.counts]at c8
 have hr:=a.ok.room_lt
 have hm:=a.ok.m8
 have hwf:=I.word_fit a.ok hi
 have hfew:=I.few
 obtain⟨AD,hAD⟩:∃AD,g.c+8*i=AD:=⟨_,rfl⟩
 rw[hAD]at hwf
 have hcast:((g.c:Nat):Int)+8*((i:Nat):Int)=((AD:Nat):Int):=by omega
 unfold ptrV
 simp(disch:=omega)[c8,hcast]
 rw[show (.pointer (some ⟨o,0,none⟩):Value)=ptrV o from rfl]
 refine gBytes_c a omg omg omg fun h1 v e1 ov f2=>?_
 rw[Int.toNat_natCast,show (8:Int).toNat=8 from rfl]at ov
 have hpl:(part p.f.now AD 8).length=8:=part_len omg
 simp(disch:=omega)
 refine Get_c ov.g.bytes (by rw[hpl];omega) ?_
 rw[getR_8 hpl]
 have a1:=a.ext e1
 have hwd:leN (part p.f.now AD 8)=g.word p.f.now i:=by rw[<-hAD];rfl
 rw[hwd]
 by_cases hw:g.word p.f.now i=0
 ·rw[hw]at H ⊢
  simp(disch:=omega)
  exact H h1 e1
 ·obtain⟨hp,hle⟩:=I.wi i hi hw
  have c0:=cellOf (i:=0) a1.rg rfl
  have c1:=cellOf (i:=1) a1.rg rfl
  have c17:=cellOf (i:=17) a1.rg rfl
  unfold ptrV at c0
  have hpm:g.word p.f.now i%g.c=0:=by rw[hp];unfold Gm.pl;exact Nat.mul_mod_left _ _
  obtain⟨q,hq,hq1,hq2⟩:=a.ok.c512
  have hok:=a.fok
  have hl:=hok.now_len
  generalize g.word p.f.now i=W at *
  have hpm':((W:Nat):Int)%((g.c:Nat):Int)=0:=by rw[<-Int.natCast_emod,hpm];rfl
  unfold ptrV
  simp(disch:=omega)[hw,c0,c1]
  rw[show (.pointer (some ⟨sp,0,none⟩):Value)=ptrV sp from rfl]
  refine sSize_c a1.st a1.fs fun h2 e2=>?_
  have c17':=hcell_ext e2 c17
  simp(disch:=omega)[c17',hpm']
  exact H h2 (e1.trans e2)
theorem gTable_c{o sp:Nat}{g:Gm}{x:Hd}{s:St}{p:Fs}(a:RA h o sp g x s p)(I:Img g x p.f.now){i:Nat}(hi:i<g.m)
 (H0:∀h',Ext h h'->g.word p.f.now i=0->K (.tuple #[.slice none 0 0,.int .i64 0,.int .i64 0]) h')
 (H1:∀h' b c,Ext h h'->g.word p.f.now i≠0->OwnT bT 1 h' (.slice (some ⟨b,0,none⟩) g.c c) ((g.blk p.f.now i).map byteV)->h.size<=b->g.c<=c->K (.tuple #[.slice (some ⟨b,0,none⟩) g.c c,.int .i64 (g.pl i:Nat),.int .i64 0]) h') :
 CallsH Tryz.prog 44 #[ptrV o,.int .i64 i] h K ⟨⟩:=by
 refine n44_calls ?_
 unfold n44;try delta vF vG vC vD vJ vV vk vt
 refine gBlock_c a I hi fun h1 e1=>?_
 have a1:=a.ext e1
 by_cases hw:g.word p.f.now i=0
 ·rw[hw]
  simp(disch:=omega)
  exact H0 h1 e1 hw
 ·obtain⟨hp,hle⟩:=I.wi i hi hw
  have c17:=cellOf (i:=17) a1.rg rfl
  obtain⟨q,hq,hq1,hq2⟩:=a.ok.c512
  have hpos:0<g.pl i:=by have:=a.ok.pl_tab i;omega
  have hbl:=blk_len I hi hw
  rw[hp]
  unfold ptrV
  simp(disch:=omega)[c17]
  rw[show (.pointer (some ⟨o,0,none⟩):Value)=ptrV o from rfl]
  refine gBytes_c a1 omg omg omg fun h2 v e2 ov f2=>?_
  rw[Int.toNat_natCast,Int.toNat_natCast]at ov
  have hov:OwnT bT 1 h2 v ((g.blk p.f.now i).map byteV):=ov
  simp(disch:=omega)
  rcases hov with ⟨-,h0⟩|⟨b,n,c,rest,rfl,h1',h2',h3',h4'⟩
  ·have:=congrArg List.length h0;rw[List.length_map,hbl]at this;simp at this;omega
  ·obtain rfl:n=g.c:=by rw[List.length_map,hbl]at h1';omega
   exact H1 h2 b c (e1.trans e2) hw (.inr ⟨b,g.c,c,rest,rfl,h1',h2',h3',h4'⟩) (by have:=f2 b rfl;have:=e1.size;omega) h2'
theorem Gm.ok.wd_w{g:Gm}(k:g.ok):wd ((g.o:Nat):Int)=g.w:=by
 have h2:=k.o1
 unfold wd Gm.w
 rw[if_pos omg,Int.toNat_natCast]
theorem Gm.ok.many_n{g:Gm}(k:g.ok):many g.c ((g.o:Nat):Int)=g.n:=by
 unfold many
 rw[k.wd_w,<-k.nw,Nat.mul_div_cancel _ (by have:=k.w64;omega)]
theorem Gm.ok.ask0{g:Gm}(k:g.ok){j:Nat}(hj:j<g.n):askE g.c ((g.o:Nat):Int) ((j:Nat):Int)=0:=by
 unfold askE
 rw[k.wd_w,k.many_n,if_neg (by have:=k.w64;omega),if_neg omg]
theorem Gm.ok.getC_{g:Gm}(k:g.ok){b:List UInt8}(hl:b.length=g.c){j:Nat}(hj:j<g.n):getC b ((g.o:Nat):Int) ((j:Nat):Int)=Vc.cnt b g.w j:=by
 unfold getC
 rw[hl,k.ask0 hj,if_pos rfl,k.wd_w,Int.toNat_natCast]
theorem gCount_c{o sp:Nat}{g:Gm}{x:Hd}{s:St}{p:Fs}(a:RA h o sp g x s p)(I:Img g x p.f.now){k:Int}
 (H0:∀h',Ext h h'->¬(0<=k/\k<g.room)->K (.tuple #[.int .u64 0,.int .i64 4]) h')
 (H1:∀h',Ext h h'->0<=k->k<g.room->K (.tuple #[.int .u64 (g.cnt p.f.now k.toNat:Nat),.int .i64 0]) h') :
 CallsH Tryz.prog 14 #[ptrV o,.int .i64 k] h K ⟨⟩:=by
 refine n14_calls ?_
 unfold n14;try delta vF vG vC vD vJ vV vk vt
 refine gNone_c a.rg ?_
 have c0:=cellOf (i:=0) a.rg rfl
 have c1:=cellOf (i:=1) a.rg rfl
 unfold ptrV at c0 ⊢
 simp(disch:=omega)[c0,c1]
 rw[show (.pointer (some ⟨sp,0,none⟩):Value)=ptrV sp from rfl,show (.pointer (some ⟨o,0,none⟩):Value)=ptrV o from rfl]
 refine sSize_c a.st a.fs fun h1 e1=>?_
 have a1:=a.ext e1
 have hrl:=a.ok.room_lt
 simp(disch:=omega)
 by_cases hk0:k<0
 ·simp(disch:=omega)[hk0]
  exact H0 h1 e1 omg
 simp(disch:=omega)[hk0]
 refine gRoom_c a1.rg a.ok a.hd ?_
 by_cases hk1:¬(k<g.room)
 ·simp(disch:=omega)[hk0,hk1]
  exact H0 h1 e1 omg
 replace hk1:=Classical.not_not.1 hk1
 obtain⟨k,rfl⟩:=Int.eq_ofNat_of_zero_le (Int.not_lt.1 hk0)
 have c18:=cellOf (i:=18) a1.rg rfl
 have hn:=a.ok.n64
 obtain⟨D,hD⟩:∃D,k/g.n=D:=⟨_,rfl⟩
 obtain⟨M,hM⟩:∃M,k%g.n=M:=⟨_,rfl⟩
 have hkd:((k:Nat):Int)/((g.n:Nat):Int)=((D:Nat):Int):=by rw[<-hD];exact (Int.natCast_ediv _ _).symm
 have hkm:((k:Nat):Int)%((g.n:Nat):Int)=((M:Nat):Int):=by rw[<-hM];exact (Int.natCast_emod _ _).symm
 have hkl:k/g.n<g.m:=by
  rw[Nat.div_lt_iff_lt_mul omg]
  have:k<g.room:=by omega
  exact this
 rw[hD]at hkl
 unfold ptrV
 simp(disch:=omega)[hk0,hk1,c18,hkd]
 rw[show (.pointer (some ⟨o,0,none⟩):Value)=ptrV o from rfl]
 have hMn:M<g.n:=by rw[<-hM];exact Nat.mod_lt _ omg
 have hcnt:g.cnt p.f.now k=if g.word p.f.now D=0 then 0 else Vc.cnt (g.blk p.f.now D) g.w M:=by unfold Gm.cnt;rw[hD,hM]
 rw[Int.toNat_natCast,hcnt]at H1
 refine gTable_c a1 I hkl (fun h2 e2 hw=>?_) (fun h2 b c e2 hw ob hb hc=>?_)
 ·rw[if_pos hw]at H1
  simp(disch:=omega)
  exact H1 h2 (e1.trans e2) omg omg
 ·rw[if_neg hw]at H1
  have a2:=a1.ext e2
  have d7:=cellOf (i:=7) a2.rg rfl
  have d18:=cellOf (i:=18) a2.rg rfl
  rw[a.hd.order]at d7
  have hbl:=blk_len I hkl hw
  unfold ptrV
  simp(disch:=omega)[d7,d18,hkm]
  refine CGet_c ob.g.bytes (by rw[hbl];omega) fun h3 e3=>?_
  rw[a.ok.getC_ hbl hMn]
  simp(disch:=omega)
  exact H1 h3 (e1.trans (e2.trans e3)) omg omg
end
section
variable {K:VP}{h:Heap}
set_option maxHeartbeats 1000000 in
theorem sEqual_c{v w:Value}{l m:List UInt8}(hv:Bytes h v l)(hw:Bytes h w m)(hlm:m.length<1000000000)(H:K (.bool (decide (l=m))) h):CallsH Tryz.prog 109 #[v,w] h K ⟨⟩:=by
 refine n109_calls ?_
 unfold n109;try delta vF vG vC vD vJ vV vk vt
 obtain⟨o,c,rfl⟩:=hv.form
 obtain⟨o2,c2,rfl⟩:=hw.form
 by_cases hl:¬(l.length=m.length)
 ·rw[decide_eq_false (fun e=>hl (by rw[e]))]at H
  have hl':¬((l.length:Nat):Int)=((m.length:Nat):Int):=by omega
  simp(disch:=omega)[hl,hl']
  exact H
 replace hl:=Classical.not_not.1 hl
 simp(disch:=omega)[hl]
 refine loopX1 (α:=Nat) (fun i=>.int .i64 i) (fun i g=>g=h/\i<=m.length/\∀j (h1:j<l.length) (h2:j<m.length),j<i->l[j]=m[j]) (fun i=>m.length-i) 0 rfl ⟨rfl,Nat.zero_le _,fun j _ _ hj=>by omega⟩ ?_
 rintro i g ⟨rfl,hi,hall⟩ X hX
 by_cases him:i<m.length
 ·obtain⟨a,rfl,-,hc,hA⟩:=hv.at omg
  obtain⟨a2,rfl,-,hc2,hA2⟩:=hw.at omg
  have h1:=hA i omg
  have h2:=hA2 i him
  unfold byteV at h1 h2
  by_cases e:l[i]=m[i]
  ·rw[e]at h1
   simp(disch:=omega)[h1,h2]
   refine hX (i+1) _ _ sM ⟨rfl,by omega,fun j h1 h2 hj=>?_⟩ omg
   by_cases e2:j=i
   ·subst e2;exact e
   ·exact hall j h1 h2 omg
  ·have hne:¬l=m:=fun e2=>e (by subst e2;rfl)
   rw[decide_eq_false hne]at H
   have hne2:¬(((l[i]'omg).toNat:Nat):Int)=(((m[i]'him).toNat:Nat):Int):=fun e2=>e (by
    have:(l[i]'omg).toNat=(m[i]'him).toNat:=by omega
    exact UInt8.toNat_inj.1 this)
   simp(disch:=omega)[h1,h2,hne2]
   exact H
 ·have heq:l=m:=List.ext_getElem hl fun j h1 h2=>hall j h1 h2 omg
  rw[decide_eq_true heq]at H
  simp(disch:=omega)
  exact H
theorem gGrow_c{o sp:Nat}{g:Gm}{x:Hd}{s:St}{p:Fs}{n:Int}(a:RA h o sp g x s p)(hs:p.steps+1<1000000)(n0 : -9223372036854775808<=n)(hn:(n.toNat+g.c-1)/g.c*g.c<=268435456)
 (H:∀h' s',SUpd h h' sp s s'->FsAt s' (growF g n.toNat p).1->K (.int .i64 (growF g n.toNat p).2) h'):CallsH Tryz.prog 19 #[ptrV o,.int .i64 n] h K ⟨⟩:=by
 refine n19_calls ?_
 unfold n19;try delta vF vG vC vD vJ vV vk vt
 refine gNone_c a.rg ?_
 have c0:=cellOf (i:=0) a.rg rfl
 have c1:=cellOf (i:=1) a.rg rfl
 unfold ptrV at c0 ⊢
 simp(disch:=omega)[c0,c1]
 rw[show (.pointer (some ⟨sp,0,none⟩):Value)=ptrV sp from rfl]
 refine sSize_c a.st a.fs fun h1 e1=>?_
 have a1:=a.ext e1
 have d0:=cellOf (i:=0) a1.rg rfl
 have d1:=cellOf (i:=1) a1.rg rfl
 have d17:=cellOf (i:=17) a1.rg rfl
 unfold ptrV at d0
 unfold growF at H
 by_cases hle:n<=p.f.last.length
 ·rw[if_pos omg]at H
  have hle':((p.f.last.length:Nat):Int)>=n:=hle
  simp(disch:=omega)[hle,hle']
  exact H h1 s ((SUpd.refl a.st).ext e1) a.fs
 ·rw[if_neg omg]at H
  obtain⟨N,rfl⟩:=Int.eq_ofNat_of_zero_le (show 0<=n by omega)
  rw[Int.toNat_natCast]at H hn
  obtain⟨q,hq,hq1,hq2⟩:=a.ok.c512
  have hfew:=a.fok.few
  have hup:=up_mul a.ok N
  obtain⟨M1,hM1⟩:∃M,N+g.c-1=M:=⟨_,rfl⟩
  rw[hM1]at H hn hup
  obtain⟨Q1,hQ1⟩:∃Q,M1/g.c=Q:=⟨_,rfl⟩
  rw[hQ1]at H hn hup
  obtain⟨R1,hR1⟩:∃R,Q1*g.c=R:=⟨_,rfl⟩
  rw[hR1]at H hn hup
  have hc1:((N:Nat):Int)+((g.c:Nat):Int)-1=((M1:Nat):Int):=by omega
  have hc2:((M1:Nat):Int)/((g.c:Nat):Int)=((Q1:Nat):Int):=by rw[<-hQ1];exact (Int.natCast_ediv _ _).symm
  have hc3:((Q1:Nat):Int)*((g.c:Nat):Int)=((R1:Nat):Int):=by rw[<-hR1];exact (Int.natCast_mul _ _).symm
  have hle':¬((p.f.last.length:Nat):Int)>=(N:Int):=hle
  simp(disch:=omega)[hle,hle',d0,d1,d17,hc1,hc2,hc3]
  rw[show (.pointer (some ⟨sp,0,none⟩):Value)=ptrV sp from rfl]
  refine sResize_c a1.st a1.fs hs omg omg fun h2 s2 u2 f2=>?_
  rw[Int.toNat_natCast]at f2
  exact H h2 s2 (u2.from_ e1) f2
theorem bPart{b o n c:Nat}{l:List UInt8}(hB:Bytes h (.slice (some ⟨b,o,none⟩) n c) l){i m:Nat}(hi:i+m<=l.length)(hm:0<m) :
 n=l.length/\l.length<=c/\Bytes h (.slice (some (sub ⟨b,o,none⟩ i c)) m (c-i)) (part l i m):=by
 obtain⟨a,e,hn,hc,hA⟩:=hB.at omg
 cases e
 refine⟨hn,hc,.inr ⟨sub ⟨b,o,none⟩ i c,c-i,?_,?_,?_⟩⟩
 ·rw[part_len hi]
 ·rw[part_len hi];omega
 ·have:=hA.part i (i+m) c omg hi hc
  unfold Go.Proofs.YtdccfkffabngjaaGreat.part
  rw[show (l.drop i).take m=(l.take (i+m)).drop i by rw[List.drop_take];congr 1;omega]
  exact this
set_option maxHeartbeats 4000000 in
theorem gWrite_c{o sp:Nat}{g:Gm}{x:Hd}{s:St}{p:Fs}{at_ Q b1 o1 c1 b2 o2 c2:Nat}{was is:List UInt8}(a:RA h o sp g x s p)(hwl:was.length=512*Q)(hil:is.length=512*Q)
 (hW:Bytes h (.slice (some ⟨b1,o1,none⟩) (512*Q) c1) was) (hI:Bytes h (.slice (some ⟨b2,o2,none⟩) (512*Q) c2) is) (n1:¬s.foot sp b1) (n2:¬s.foot sp b2) (l1:b1<h.size) (l2:b2<h.size) (hs:p.steps+Q<1000000) (hf:at_+512*Q<=268435456)
 (H:∀h' s',SUpd h h' sp s s'->FsAt s' (wrF at_ was is Q 0 p).1->K (.int .i64 (wrF at_ was is Q 0 p).2) h') :
 CallsH Tryz.prog 53 #[ptrV o,.int .i64 (at_:Nat),.slice (some ⟨b1,o1,none⟩) (512*Q) c1,.slice (some ⟨b2,o2,none⟩) (512*Q) c2] h K ⟨⟩:=by
 refine n53_calls ?_
 unfold n53;try delta vF vG vC vD vJ vV vk vt
 refine loopX1 (α:=Nat×St×Fs) (fun z=>.int .i64 (512*z.1:Nat)) (fun z G=>z.1<=Q/\SUpd h G sp s z.2.1/\FsAt z.2.1 z.2.2/\wrF at_ was is (Q-z.1) z.1 z.2.2=wrF at_ was is Q 0 p/\z.2.2.steps<=p.steps+z.1) (fun z=>Q-z.1) (0,s,p) rfl ⟨Nat.zero_le _,.refl a.st,a.fs,rfl,Nat.le_refl _⟩ ?_
 rintro⟨j,s1,p1⟩ G ⟨hj,u,f1,he,hst⟩ X hX
 dsimp only at hj u f1 he hst hX ⊢
 have aG:=a.upd u f1
 have hWG:=hW.mod u.mod (fun b hb e=>by cases hb;exact n1 e)
 have hIG:=hI.mod u.mod (fun b hb e=>by cases hb;exact n2 e)
 by_cases hjQ:j<Q
 ·have c0:=cellOf (i:=0) aG.rg rfl
  have c1':=cellOf (i:=1) aG.rg rfl
  unfold ptrV at c0
  obtain⟨-,wc,wP⟩:=bPart hWG (i:=512*j) (m:=512) omg omg
  obtain⟨-,ic,iP⟩:=bPart hIG (i:=512*j) (m:=512) omg omg
  rw[hwl]at wc
  rw[hil]at ic
  obtain⟨J,hJ⟩:∃J,512*j=J:=⟨_,rfl⟩
  obtain⟨N,hN⟩:∃N,512*Q=N:=⟨_,rfl⟩
  rw[hJ]at wP iP ⊢
  rw[hN]at wc ic hf ⊢
  unfold ptrV
  simp(disch:=omega)
  refine JoinN.mk (JoinN.mk ?_)
  have hJ5:((J:Int)+512).toNat-J=512:=by omega
  simp(disch:=omega)[hJ5]
  have hpl:(part is J 512).length=512:=part_len omg
  have hpw:(part was J 512).length=512:=part_len omg
  have hst0:=aG.st.stp
  have hnx:((J:Int)+512)=((512*(j+1):Nat):Int):=by omega
  refine sEqual_c iP wP omg ?_
  by_cases hq:part is J 512=part was J 512
  ·rw[decide_eq_true hq]
   simp(disch:=omega)
   rw[show Q-j=(Q-(j+1))+1 by omega,wrF_same (by rw[hJ];exact hq)]at he
   exact hX (j+1,s1,p1) _ _ (by rw[hnx]) ⟨by omega,u,f1,he,by dsimp only;omega⟩ (by dsimp only;omega)
  ·rw[decide_eq_false hq]
   have hAt:((at_:Nat):Int)+(J:Int)=((at_+J:Nat):Int):=by omega
   obtain⟨AT,hATe⟩:∃AT,at_+J=AT:=⟨_,rfl⟩
   rw[hATe]at hAt
   simp(disch:=omega)[c0,c1',hAt]
   rw[show (.pointer (some ⟨sp,0,none⟩):Value)=ptrV sp from rfl]
   refine sWrite_c aG.st f1 iP omg (fun _ b hb e=>?_) omg (by rw[hpl];omega) omg fun h2 s2 u2 f2=>?_
   ·cases hb
    have hb2:(sub ⟨b2,o2,none⟩ J c2:Addr).block=b2:=by simp
    rw[hb2]at e
    exact (u.foot _ e).elim n2 (fun e=>by omega)
   rw[Int.toNat_natCast,<-hATe]at f2
   by_cases he0:p1.e=0
   ·rw[show Q-j=(Q-(j+1))+1 by omega,wrF_go (by rw[hJ];exact hq) he0,hJ]at he
    rw[he0]
    simp(disch:=omega)
    exact hX (j+1,s2,p1.write (at_+J) (part is J 512)) _ _ (by rw[hnx]) ⟨by omega,u.trans u2,f2,he,by show p1.steps+1<=_;omega⟩ (by dsimp only;omega)
   ·rw[show Q-j=(Q-(j+1))+1 by omega,wrF_err (by rw[hJ];exact hq) he0,hJ]at he
    rw[<-he]at H
    simp(disch:=omega)[he0]
    exact H h2 s2 (u.trans u2) f2
 ·obtain rfl:j=Q:=by omega
  rw[Nat.sub_self]at he
  have he2:wrF at_ was is j 0 p=(p1,0):=he.symm
  rw[he2]at H
  simp(disch:=omega)
  exact H G s1 u f1
end
section
variable {K:VP}{h:Heap}
theorem invC1{f:Nat}{a:Value}(hc:Go.Vc.callOk Tryz.prog f=true)(H:CallsH Tryz.prog f #[a] h K ⟨⟩):InvokeH Tryz.prog (.func (.func f) #[] #[a]) #[] h K ⟨⟩:=InvokeH_func hc (by simpa using H)
theorem invC2{f:Nat}{a b:Value}(hc:Go.Vc.callOk Tryz.prog f=true)(H:CallsH Tryz.prog f #[a,b] h K ⟨⟩):InvokeH Tryz.prog (.func (.func f) #[] #[a,b]) #[] h K ⟨⟩:=InvokeH_func hc (by simpa using H)
theorem invC3{f:Nat}{a b c:Value}(hc:Go.Vc.callOk Tryz.prog f=true)(H:CallsH Tryz.prog f #[a,b,c] h K ⟨⟩):InvokeH Tryz.prog (.func (.func f) #[] #[a,b,c]) #[] h K ⟨⟩:=InvokeH_func hc (by simpa using H)
theorem bsF5{f0 f1 f2 f3 f4:Nat}{a0 a1 a2 a3 a4:Array Value}:Hp Tryz.prog false (Instr.buildSlice 100 5 #[(0,.func (.func f0) #[] a0),(1,.func (.func f1) #[] a1),(2,.func (.func f2) #[] a2),(3,.func (.func f3) #[] a3),(4,.func (.func f4) #[] a4)]) K h ⟨⟩ ↔
 ValT h.size (fun b=>K (.slice (some ⟨b,0,none⟩) 5 5) (h.push (.cells #[.func (.func f0) #[] a0,.func (.func f1) #[] a1,.func (.func f2) #[] a2,.func (.func f3) #[] a3,.func (.func f4) #[] a4] 99))) ⟨⟩:=Hp_newT kR
theorem bsF3{f0 f1 f2:Nat}{a0 a1 a2:Array Value}:Hp Tryz.prog false (Instr.buildSlice 100 3 #[(0,.func (.func f0) #[] a0),(1,.func (.func f1) #[] a1),(2,.func (.func f2) #[] a2)]) K h ⟨⟩ ↔
 ValT h.size (fun b=>K (.slice (some ⟨b,0,none⟩) 3 3) (h.push (.cells #[.func (.func f0) #[] a0,.func (.func f1) #[] a1,.func (.func f2) #[] a2] 99))) ⟨⟩:=Hp_newT kR
theorem gSet_c{B m c n:Nat}{o i:Int}{x:Nat}{l z:List UInt8}(hn:n=l.length)(hO:OwnS 1 h (.slice (some ⟨B,0,none⟩) m c) ((l++z).map byteV))(hl:l.length<1000000000)(hx:x<18446744073709551616)
 (H:∀h',Ext h h'->setCE l.length o i x≠0->K (.int .i64 (setCE l.length o i x)) h')
 (H0:∀h1 h',Ext h h1->setCE l.length o i x=0->OwnS 1 h' (.slice (some ⟨B,0,none⟩) m c) ((setC l (wd o) i.toNat x++z).map byteV)->Mod (· = B) h1 h'->K (.int .i64 0) h') :
 CallsH Tryz.prog 100 #[.slice (some ⟨B,0,none⟩) n c,.int .i64 o,.int .i64 i,.int .u64 (x:Nat)] h K ⟨⟩:=by
 subst hn
 exact CSet_c hO hl hx H H0
set_option maxHeartbeats 4000000 in
theorem gMake_c{o sp:Nat}{g:Gm}{x:Hd}{s:St}{p:Fs}{i:Nat}(a:RA h o sp g x s p)(I:Img g x p.f.now)(hi:i<g.m)(hw:g.word p.f.now i=0)(hf:g.pl i+g.c<=268435456)(hs:p.steps+5<1000000)
 (H:∀h' s',SUpd h h' sp s s'->FsAt s' (mkF g i p).1->K (.int .i64 (mkF g i p).2) h'):CallsH Tryz.prog 50 #[ptrV o,.int .i64 (i:Nat)] h K ⟨⟩:=by
 refine n50_calls ?_
 unfold n50;try delta vF vG vC vD vJ vV vk vt
 have hi0:i≠0:=fun e=>I.w0 (e▸hw)
 obtain⟨P,hP⟩:∃P,g.pl i=P:=⟨_,rfl⟩
 have hmul1:((i:Nat):Int)*((g.n:Nat):Int)*((g.c:Nat):Int)=((P:Nat):Int):=by
  rw[<-hP];unfold Gm.pl Gm.cl;rw[if_neg hi0,Int.natCast_mul,Int.natCast_mul]
 obtain⟨Q1,hQ1⟩:∃Q,i*g.n=Q:=⟨_,rfl⟩
 have hmul0:((i:Nat):Int)*((g.n:Nat):Int)=((Q1:Nat):Int):=by rw[<-hQ1,Int.natCast_mul]
 rw[hmul0]at hmul1
 rw[hP]at hf
 have hrl:=a.ok.room_lt
 obtain⟨q,hq,hq1,hq2⟩:=a.ok.c512
 have hQP:Q1<=P:=by
  rw[<-hP];unfold Gm.pl Gm.cl;rw[if_neg hi0,hQ1]
  exact Nat.le_mul_of_pos_right _ omg
 have hol:=get_some_lt a.rg
 have hon:¬o=h.size/\¬o=h.size+1:=by omega
 have r17:=cellOf (i:=17) a.rg rfl
 have r18:=cellOf (i:=18) a.rg rfl
 have r7:=cellOf (i:=7) a.rg rfl
 rw[a.hd.order]at r7
 unfold ptrV
 simp(disch:=omega)[r17,r18,r7,hmul0,hmul1,hon.1,hon.2]
 obtain⟨X2,hX2⟩:∃X,X=hset (((h.push (.cells #[.pointer (some ⟨o,0,none⟩)] 30)).push (.cells #[.int .i64 (i:Nat)] 2)).push (.cells #[.int .i64 0] 2)) ⟨h.size+1+1,0,none⟩ (.int .i64 (P:Nat)):=⟨_,rfl⟩
 have e2:Ext h X2:=by rw[hX2];exact extS
 have z2:X2.size=h.size+3:=by rw[hX2];simp
 have k0:X2[h.size]? = some (.cells #[.pointer (some ⟨o,0,none⟩)] 30):=by rw[hX2];exact gtP
 have k1:X2[h.size+1]? = some (.cells #[.int .i64 (i:Nat)] 2):=by rw[hX2];exact gtP
 have k2:X2[h.size+1+1]? = some (.cells #[.int .i64 (P:Nat)] 2):=by rw[hX2];exact obj_set (get_pushed sM)
 rw[<-hX2]
 clear hX2
 obtain⟨X4,hX4⟩:∃X,X=hset ((X2.push (.cells (Array.replicate g.c (.int .u8 0)) 5)).push (.cells #[.slice none 0 0] 52)) ⟨h.size+1+1+1+1,0,none⟩ (.slice (some ⟨h.size+1+1+1,0,none⟩) g.c g.c):=⟨_,rfl⟩
 have e4:Ext X2 X4:=by rw[hX4];exact extS
 have z4:X4.size=h.size+5:=by rw[hX4];simp[z2]
 have k3:X4[h.size+1+1+1]? = some (.cells (Array.replicate g.c (.int .u8 0)) bT):=by rw[hX4];exact gtP
 have k4:X4[h.size+1+1+1+1]? = some (.cells #[.slice (some ⟨h.size+1+1+1,0,none⟩) g.c g.c] 52):=by rw[hX4];exact obj_set (get_pushed (by simp[z2]))
 rw[show hset _ _ _=X4 from hX4.symm]
 clear hX4
 have oB:OwnS 1 X4 (.slice (some ⟨h.size+1+1+1,0,none⟩) g.c g.c) ((zeros g.c++[]).map byteV):=by
  refine OwnT.own (e:=bT) (.inr ⟨h.size+1+1+1,g.c,g.c,[],rfl,by simp[zeros],Nat.le_refl _,?_,by simp[zeros]⟩)
  rw[k3]
  simp only[List.append_nil,zeros,List.map_replicate,<-List.toArray_replicate];rfl
 refine gSet_c (x:=1) (zeros_len g.c).symm oB (by rw[zeros_len];omega) omg (fun h5 e5 hne=>?_) (fun h1 h5 e51 _ o5 m5=>?_)
 ·exfalso
  apply hne
  rw[zeros_len]
  unfold setCE
  have:=a.ok.ask0 (j:=0) (by have:=a.ok.n64;omega)
  rw[show ((0:Nat):Int)=0 from rfl]at this
  rw[this,if_pos rfl,a.ok.wd_w,if_pos (Nat.one_lt_two_pow (by have:=a.ok.w64;omega))]
 have z51:=e51.size
 have z5:=m5.size
 have E5:Ext h h5:=m5.ext_from ((e2.trans e4).trans e51) (fun b hb e=>by omega)
 have keep5:∀b,b<h.size+5->b≠h.size+1+1+1->h5[b]? = X4[b]? := fun b hb hne=>(m5.block b omg (fun e=>hne omg)).trans (e51.block b omg)
 have keep4:∀b,b<h.size+3->X4[b]? = X2[b]? := fun b hb=>e4.block b omg
 have q0:h5[h.size]? = some (.cells #[.pointer (some ⟨o,0,none⟩)] 30):=(keep5 _ omg omg).trans ((keep4 _ omg).trans k0)
 have q1:h5[h.size+1]? = some (.cells #[.int .i64 (i:Nat)] 2):=(keep5 _ omg omg).trans ((keep4 _ omg).trans k1)
 have q2:h5[h.size+1+1]? = some (.cells #[.int .i64 (P:Nat)] 2):=(keep5 _ omg omg).trans ((keep4 _ omg).trans k2)
 have q4:h5[h.size+1+1+1+1]? = some (.cells #[.slice (some ⟨h.size+1+1+1,0,none⟩) g.c g.c] 52):=(keep5 _ omg omg).trans k4
 clear keep5 keep4 k0 k1 k2 k3 k4 e51 m5 e2 e4
 have c2:=cellOf (i:=0) q2 rfl
 have hlt2:h.size+1+1<h5.size:=get_some_lt q2
 have hne2:¬h.size+1+1=h5.size/\¬h.size+1+1=h5.size+1:=by omega
 simp(disch:=omega)[c2,hne2.1,hne2.2]
 obtain⟨X6,hX6⟩:∃X,X=hset ((h5.push (.cells (Array.replicate 8 (.int .u8 0)) 5)).push (.cells #[.slice none 0 0] 52)) ⟨h5.size+1,0,none⟩ (.slice (some ⟨h5.size,0,none⟩) 8 8):=⟨_,rfl⟩
 have e6:Ext h5 X6:=by rw[hX6];exact extS
 have z6:X6.size=h5.size+2:=by rw[hX6];simp
 have k6:X6[h5.size]? = some (.cells (Array.replicate 8 (.int .u8 0)) bT):=by rw[hX6];exact gtP
 have k7:X6[h5.size+1]? = some (.cells #[.slice (some ⟨h5.size,0,none⟩) 8 8] 52):=by rw[hX6];exact obj_set (get_pushed sM)
 rw[show hset _ _ _=X6 from hX6.symm]
 clear hX6
 have oW:OwnS 1 X6 (.slice (some ⟨h5.size,0,none⟩) 8 8) ((zeros 8).map byteV) :=
  OwnT.own (e:=bT) (.inr ⟨h5.size,8,8,[],rfl,rfl,Nat.le_refl _,k6,rfl⟩)
 have hse:setE 8 0 8 P=0:=by unfold setE;simp;omega
 refine SetO_c (k:=8) oW dM dM omg (fun hne=>absurd hse hne) (fun h7 _ o7 m7 _=>?_)
 rw[show (0:Int).toNat=0 from rfl,show (8:Int).toNat=8 from rfl,show Vc.over (zeros 8) 0 (leB 8 P)=leB 8 P by unfold Vc.over;rw[List.take_zero,List.nil_append,leB_length];rfl]at o7
 have z7:=m7.size
 have E7:Ext h5 h7:=m7.ext_from e6 (fun b hb e=>by omega)
 have w7:h7[h5.size+1]? = some (.cells #[.slice (some ⟨h5.size,0,none⟩) 8 8] 52):=(m7.block _ omg (fun e=>by omega)).trans k7
 clear k6 k7 oW e6 m7
 simp(disch:=omega)
 rw[bsF5]
 simp(disch:=omega)
 rw[List.append_nil,a.ok.wd_w,show (0:Int).toNat=0 from rfl]at o5
 have hnB:setC (zeros g.c) g.w 0 1=g.newB:=rfl
 rw[hnB]at o5
 obtain⟨fs5,hfs5⟩:∃a,a = #[(.func (.func 102) #[] #[.pointer (some ⟨h.size,0,none⟩),.pointer (some ⟨h.size+1+1,0,none⟩)]:Value),
  .func (.func 103) #[] #[.pointer (some ⟨h.size,0,none⟩),.pointer (some ⟨h.size+1+1,0,none⟩),.pointer (some ⟨h.size+1+1+1+1,0,none⟩)],
  .func (.func 104) #[] #[.pointer (some ⟨h.size,0,none⟩)],
  .func (.func 105) #[] #[.pointer (some ⟨h.size,0,none⟩),.pointer (some ⟨h.size+1,0,none⟩),.pointer (some ⟨h5.size+1,0,none⟩)],
  .func (.func 106) #[] #[.pointer (some ⟨h.size,0,none⟩)]]:=⟨_,rfl⟩
 rw[<-hfs5]
 obtain⟨h8,hh8⟩:∃X,X=h7.push (.cells fs5 99):=⟨_,rfl⟩
 have e8:Ext h7 h8:=by rw[hh8];exact extS
 have k8:h8[h7.size]? = some (.cells fs5 99):=by rw[hh8];exact get_pushed rfl
 have z8:h8.size=h7.size+1:=by rw[hh8];simp
 rw[<-hh8]
 clear hh8
 have E8:Ext h h8:=(E5.trans E7).trans e8
 have a8:=a.ext E8
 have q0:=(E7.trans e8).block _ (get_some_lt q0) |>.trans q0
 have q1:=(E7.trans e8).block _ (get_some_lt q1) |>.trans q1
 have q2:=(E7.trans e8).block _ (get_some_lt q2) |>.trans q2
 have q4:=(E7.trans e8).block _ (get_some_lt q4) |>.trans q4
 have w7:=e8.block _ (get_some_lt w7) |>.trans w7
 have bB:Bytes h8 (.slice (some ⟨h.size+1+1+1,0,none⟩) g.c g.c) g.newB:=(o5.ext (E7.trans e8)).bytes
 have bW:Bytes h8 (.slice (some ⟨h5.size,0,none⟩) 8 8) (leB 8 P):=(o7.ext e8).bytes
 have nfoot:∀b,h.size<=b->¬s.foot sp b:=fun b hb e=>by have:=a.st.lt e;omega
 clear o5 o7 c2 hne2 hlt2
 refine loopX1 (α:=Nat×St×Fs) (fun z=>.int .i64 z.1) (fun z G=>z.1<=5/\SUpd h8 G sp s z.2.1/\FsAt z.2.1 z.2.2/\seqF ((mkL g i).drop z.1) z.2.2=mkF g i p/\z.2.2.steps<=p.steps+z.1) (fun z=>5-z.1) (0,s,p) rfl ⟨Nat.zero_le _,.refl a8.st,a.fs,rfl,Nat.le_refl _⟩ ?_
 rintro⟨j,s1,p1⟩ G ⟨hj,u,f1,he,hst⟩ X hX
 dsimp only at hj u f1 he hst hX ⊢
 have aG:=a8.upd u f1
 have kp:∀b,h.size<=b->b<h8.size->G[b]? = h8[b]? := fun b hb hl=>u.mod.block b hl (nfoot b hb)
 have k8:=(kp _ omg omg).trans k8
 have d0:=cellOf (i:=0) ((kp _ omg (get_some_lt q0)).trans q0) rfl
 have d1:=cellOf (i:=0) ((kp _ omg (get_some_lt q1)).trans q1) rfl
 have d2:=cellOf (i:=0) ((kp _ omg (get_some_lt q2)).trans q2) rfl
 have d4:=cellOf (i:=0) ((kp _ omg (get_some_lt q4)).trans q4) rfl
 have dw:=cellOf (i:=0) ((kp _ omg (get_some_lt w7)).trans w7) rfl
 have bB:=bB.mod u.mod (fun b hb e=>nfoot (h.size+1+1+1) omg (by cases hb;exact e))
 have bW:=bW.mod u.mod (fun b hb e=>nfoot h5.size omg (by cases hb;exact e))
 have nf1:∀b,h.size<=b->b<h8.size->¬s1.foot sp b:=fun b hb hl e=>(u.foot b e).elim (nfoot b hb) (fun e=>by omega)
 have r0:=cellOf (i:=0) aG.rg rfl
 have r1:=cellOf (i:=1) aG.rg rfl
 have r8:=cellOf (i:=8) aG.rg rfl
 have r17:=cellOf (i:=17) aG.rg rfl
 unfold ptrV at r0
 rw[a.hd.counts]at r8
 have hnl:=g.newB_len
 have hwf:=a.ok.word_at hi
 have htab:=a.ok.pl_tab i
 have hst1:=aG.st.stp
 have h5lt:h5.size<h7.size:=by omega
 have cellj:∀n (hn:n<fs5.size),hcell G (elt ⟨h7.size,0,none⟩ n)=some fs5[n]:=fun n hn=>by
  rw[elt_mk,Nat.zero_add];exact cellOf k8 (Array.getElem?_eq_getElem hn)
 have hs5:fs5.size=5:=by rw[hfs5];rfl
 have next:∀G' s' p',SUpd G G' sp s1 s'->FsAt s' p'->seqF ((mkL g i).drop (j+1)) p'=mkF g i p->j<5->p'.steps<=p1.steps+1->X (.int .i64 ((j+1:Nat):Int)) G':=fun G' s' p' u' f' he' hj' hst' =>
  hX (j+1,s',p') _ _ rfl ⟨by omega,u.trans u',f',he',by dsimp only;omega⟩ (by dsimp only;omega)
 have fin:∀G' s' p' e,SUpd G G' sp s1 s'->FsAt s' p'->(p',e)=mkF g i p->K (.int .i64 e) G':=fun G' s' p' e u' f' he'=>by
  rw[<-he']at H
  exact H G' s' ((u.trans u').from_ E8) f'
 have sn:∀n:Nat,((n:Nat):Int)+1=((n+1:Nat):Int):=fun n=>by omega
 rcases Nat.lt_or_ge j 5 with hj5|hj5
 ·have hcj:=cellj j omg
  have hlt:((j:Nat):Int)<5:=by omega
  simp(disch:=omega)[hcj]
  have h01234:j=0\/j=1\/j=2\/j=3\/j=4:=by omega
  rcases h01234 with rfl|rfl|rfl|rfl|rfl
  ·rw[show fs5[0]'omg = .func (.func 102) #[] #[.pointer (some ⟨h.size,0,none⟩),.pointer (some ⟨h.size+1+1,0,none⟩)] by simp only[hfs5];rfl]
   refine invC2 kR ?_
   refine n102_calls ?_
   unfold n102;try delta vF vG vC vD vJ vV vk vt
   obtain⟨PC,hPC⟩:∃PC,P+g.c=PC:=⟨_,rfl⟩
   have hPC':((P:Nat):Int)+((g.c:Nat):Int)=((PC:Nat):Int):=by omega
   simp(disch:=omega)[d0,d2,r17,hPC']
   rw[show (.pointer (some ⟨o,0,none⟩):Value)=ptrV o from rfl]
   have hup:=up_same a.ok i
   rw[hP,hPC]at hup
   refine gGrow_c aG omg omg (by rw[Int.toNat_natCast,hup];omega) fun G2 s2 u2 f2=>?_
   rw[Int.toNat_natCast,<-hPC,<-hP]at f2 ⊢
   by_cases he0:(growF g (g.pl i+g.c) p1).2=0
   ·rw[show (mkL g i).drop 0=growF g (g.pl i+g.c)::(mkL g i).drop 1 from rfl,seqF_cons he0]at he
    have he1:(growF g (g.pl i+g.c) p1).2=0:=he0
    rw[he1]
    simp(disch:=omega)
    have:=next G2 s2 _ u2 f2 he omg (growF_stp a.ok aG.fok (by rw[up_same a.ok,hP];exact hf)).stp
    exact this
   ·rw[show (mkL g i).drop 0=growF g (g.pl i+g.c)::(mkL g i).drop 1 from rfl,seqF_err he0]at he
    have he1:¬(growF g (g.pl i+g.c) p1).2=0:=he0
    simp(disch:=omega)[he1]
    exact fin G2 s2 _ _ u2 f2 he
  ·rw[show fs5[1]'omg = .func (.func 103) #[] #[.pointer (some ⟨h.size,0,none⟩),.pointer (some ⟨h.size+1+1,0,none⟩),.pointer (some ⟨h.size+1+1+1+1,0,none⟩)] by simp only[hfs5];rfl]
   refine invC3 kR ?_
   refine n103_calls ?_
   unfold n103;try delta vF vG vC vD vJ vV vk vt
   simp(disch:=omega)[d0,d2,d4,r0,r1]
   rw[show (.pointer (some ⟨sp,0,none⟩):Value)=ptrV sp from rfl]
   refine sWrite_c aG.st f1 bB (by rw[hnl];omega) (fun _ b hb=>by cases hb;exact nf1 (h.size+1+1+1) omg omg) omg (by rw[hnl];omega) omg fun G2 s2 u2 f2=>?_
   rw[Int.toNat_natCast,<-hP]at f2
   by_cases he0:(wrS (g.pl i) g.newB p1).2=0
   ·rw[show (mkL g i).drop 1=wrS (g.pl i) g.newB::(mkL g i).drop 2 from rfl,seqF_cons he0]at he
    have he1:p1.e=0:=he0
    rw[he1]
    simp(disch:=omega)
    have:=next G2 s2 _ u2 f2 he omg (Nat.le_refl _)
    exact this
   ·rw[show (mkL g i).drop 1=wrS (g.pl i) g.newB::(mkL g i).drop 2 from rfl,seqF_err he0]at he
    have he1:¬p1.e=0:=he0
    simp(disch:=omega)[he1]
    exact fin G2 s2 _ _ u2 f2 he
  ·rw[show fs5[2]'omg = .func (.func 104) #[] #[.pointer (some ⟨h.size,0,none⟩)] by simp only[hfs5];rfl]
   refine invC1 kR ?_
   refine n104_calls ?_
   unfold n104;try delta vF vG vC vD vJ vV vk vt
   simp(disch:=omega)[d0,r0,r1]
   rw[show (.pointer (some ⟨sp,0,none⟩):Value)=ptrV sp from rfl]
   refine sFlush_c aG.st f1 omg fun G2 s2 u2 f2=>?_
   by_cases he0:(flS p1).2=0
   ·rw[show (mkL g i).drop 2=flS::(mkL g i).drop 3 from rfl,seqF_cons he0]at he
    have he1:p1.e=0:=he0
    rw[he1]
    simp(disch:=omega)
    have:=next G2 s2 _ u2 f2 he omg (Nat.le_refl _)
    exact this
   ·rw[show (mkL g i).drop 2=flS::(mkL g i).drop 3 from rfl,seqF_err he0]at he
    have he1:¬p1.e=0:=he0
    simp(disch:=omega)[he1]
    exact fin G2 s2 _ _ u2 f2 he
  ·rw[show fs5[3]'omg = .func (.func 105) #[] #[.pointer (some ⟨h.size,0,none⟩),.pointer (some ⟨h.size+1,0,none⟩),.pointer (some ⟨h5.size+1,0,none⟩)] by simp only[hfs5];rfl]
   refine invC3 kR ?_
   refine n105_calls ?_
   unfold n105;try delta vF vG vC vD vJ vV vk vt
   obtain⟨AD,hAD⟩:∃AD,g.c+8*i=AD:=⟨_,rfl⟩
   have hAD':((g.c:Nat):Int)+8*((i:Nat):Int)=((AD:Nat):Int):=by omega
   have hL40:=a.ok.m8
   simp(disch:=omega)[d0,d1,dw,r0,r1,r8,hAD']
   rw[show (.pointer (some ⟨sp,0,none⟩):Value)=ptrV sp from rfl]
   refine sWrite_c aG.st f1 bW (by rw[leB_length];omega) (fun _ b hb=>by cases hb;exact nf1 h5.size omg omg) omg (by rw[leB_length];omega) omg fun G2 s2 u2 f2=>?_
   rw[Int.toNat_natCast,<-hAD,<-hP]at f2
   by_cases he0:(wrS (g.c+8*i) (leB 8 (g.pl i)) p1).2=0
   ·rw[show (mkL g i).drop 3=wrS (g.c+8*i) (leB 8 (g.pl i))::(mkL g i).drop 4 from rfl,seqF_cons he0]at he
    have he1:p1.e=0:=he0
    rw[he1]
    simp(disch:=omega)
    have:=next G2 s2 _ u2 f2 he omg (Nat.le_refl _)
    exact this
   ·rw[show (mkL g i).drop 3=wrS (g.c+8*i) (leB 8 (g.pl i))::(mkL g i).drop 4 from rfl,seqF_err he0]at he
    have he1:¬p1.e=0:=he0
    simp(disch:=omega)[he1]
    exact fin G2 s2 _ _ u2 f2 he
  ·rw[show fs5[4]'omg = .func (.func 106) #[] #[.pointer (some ⟨h.size,0,none⟩)] by simp only[hfs5];rfl]
   refine invC1 kR ?_
   refine n106_calls ?_
   unfold n106;try delta vF vG vC vD vJ vV vk vt
   simp(disch:=omega)[d0,r0,r1]
   rw[show (.pointer (some ⟨sp,0,none⟩):Value)=ptrV sp from rfl]
   refine sFlush_c aG.st f1 omg fun G2 s2 u2 f2=>?_
   by_cases he0:(flS p1).2=0
   ·rw[show (mkL g i).drop 4=flS::(mkL g i).drop 5 from rfl,seqF_cons he0]at he
    have he1:p1.e=0:=he0
    rw[he1]
    simp(disch:=omega)
    have:=next G2 s2 _ u2 f2 he omg (Nat.le_refl _)
    exact this
   ·rw[show (mkL g i).drop 4=flS::(mkL g i).drop 5 from rfl,seqF_err he0]at he
    have he1:¬p1.e=0:=he0
    simp(disch:=omega)[he1]
    exact fin G2 s2 _ _ u2 f2 he
 ·obtain rfl:j=5:=by omega
  simp(disch:=omega)
  exact fin G s1 p1 0 (.refl aG.st) f1 he
end
end Go.Proofs.YtdccfkffabngjaaGreat
namespace Go.Vc
open Go
set_option linter.unusedSimpArgs false
set_option linter.unusedVariables false
set_option linter.unusedSectionVars false
section
variable {P:Program}{q:Bool}{K:VP}{h:Heap}{κ:Type}[DecidableEq κ]{kV:κ->Value}
def MapItD(kV:κ->Value)(h:Heap)(it m:Nat)(l:List (κ×Value))(T:List κ):Prop :=
 ∃(es:List MapEntry) (cl:Nat) (seen:List Nat),h[m]? = some (.map es.toArray cl)/\es.map (fun e=>(e.key,e.val))=l.map (fun p=>(kV p.1,p.2))/\(l.map (·.1)).Nodup/\(es.map (·.born)).Pairwise (· < ·)/\(∀e∈es,e.born<cl) /\
  h[it]? = some (.mapIter (some m) cl seen.toArray cl)/\(∀e∈es,∀k,e.key=kV k->(e.born∈seen↔k∈T))/\(∀k,T.getLast? = some k->∀e∈es,e.key=kV k->seen.getLast? = some e.born)/\it≠m
def leftD(l:List (κ×Value))(T:List κ):Nat:=(l.filter (fun p => !T.contains p.1)).length
end
end Go.Vc

/- Lemmas: what the functions do. -/
import Derived.Test.YtdccfkffabngjaaGreatGpH
import Derived.Test.YtdccfkffabngjaaGreatGpD
import Derived.Test.YtdccfkffabngjaaGreatGpB
set_option linter.unusedSimpArgs false
set_option linter.unusedVariables false
set_option maxRecDepth 20000
namespace Go.Proofs.YtdccfkffabngjaaGreat
open Go.Vc
section
variable {K:VP}{h:Heap}
theorem fiF_len:∀l:List (Nat×Nat×Nat),(l.flatMap fiV).length=l.length*4
 | []=>rfl
 | f::l=>by rw[List.flatMap_cons,List.length_append,fiF_len l];simp[fiV];omega
theorem fiF_get:∀(l:List (Nat×Nat×Nat)) (i k:Nat) (hi:i<l.length) (hk:k<4),(l.flatMap fiV)[i*4+k]? = (fiV l[i])[k]?
 | r::l,0,k,_,hk=>by
  rw[List.flatMap_cons,List.getElem?_append_left (by simp[fiV];omega)]
  simp
 | r::l,i+1,k,hi,hk=>by
  rw[List.flatMap_cons,List.getElem?_append_right (by simp[fiV];omega),show (fiV r).length=4 from rfl,show (i+1)*4+k-4=i*4+k by omega,fiF_get l i k (by simpa using hi) hk]
  simp
theorem fi_cell{a:Addr}{n c:Nat}{l:List (Nat×Nat×Nat)}(o:OwnG fiT 4 h (.slice (some a) n c) (l.flatMap fiV)){i:Nat}(hi:i<l.length) :
 hcell h (elt a (i*4))=some (.int .i64 7)/\hcell h (elt a (i*4+1))=some (.int .i64 (l[i].1:Nat))/\hcell h (elt a (i*4+2))=some (.int .u64 (l[i].2.1:Nat))/\hcell h (elt a (i*4+3))=some (.int .u64 (l[i].2.2:Nat)):=by
 have key:∀k (hk:k<4),hcell h (elt a (i*4+k))=(fiV l[i])[k]? := fun k hk=>by
  have hlt:i*4+k<(l.flatMap fiV).length:=by rw[fiF_len];omega
  rw[(o.cell hlt).1,<-List.getElem?_eq_getElem hlt,fiF_get l i k hi hk]
 exact⟨key 0 omg,key 1 omg,key 2 omg,key 3 omg⟩
set_option maxHeartbeats 4000000 in
theorem with_c{a:Option Addr}{n c:Nat}{F:List (Nat×Nat×Nat)}{f:Nat×Nat×Nat}(o:OwnG fiT 4 h (.slice a n c) (F.flatMap fiV))(hF:∀e∈F,e.1<f.1)(hFl:F.length<=200000000000)
 (hf:f.1<9223372036854775808)
 (hK:∀h' v',Ext h h'->OwnG fiT 4 h' v' ((F++[f]).flatMap fiV)->(∀b,blkG v'=some b->h.size<=b)->K v' h') :
 CallsH Tryz.prog 65 #[.slice a n c,.agg #[.int .i64 7,.int .i64 (f.1:Nat),.int .u64 (f.2.1:Nat),.int .u64 (f.2.2:Nat)]] h K ⟨⟩:=by
 refine n65_calls ?_
 unfold n65;try delta vF vG vC vD vJ vV vk vt
 have hn:n=F.length:=by
  obtain⟨a1,n1,c1,e,hl,-,-⟩:=o.form
  injection e with e1 e2 e3
  rw[fiF_len]at hl;omega
 subst hn
 simp(disch:=omega)
 obtain⟨h1,hh1⟩:∃X,X=h.push (.cells #[.int .i64 7,.int .i64 (f.1:Nat),.int .u64 (f.2.1:Nat),.int .u64 (f.2.2:Nat)] 134):=⟨_,rfl⟩
 have e1:Ext h h1:=by rw[hh1];exact extS
 have k1:h1[h.size]? = some (.cells #[.int .i64 7,.int .i64 (f.1:Nat),.int .u64 (f.2.1:Nat),.int .u64 (f.2.2:Nat)] 134):=by rw[hh1];exact get_pushed rfl
 rw[<-hh1]
 clear hh1
 have o1:=o.ext e1
 have d0:=cellOf (i:=0) k1 rfl
 have d1:=cellOf (i:=1) k1 rfl
 have d2:=cellOf (i:=2) k1 rfl
 have d3:=cellOf (i:=3) k1 rfl
 refine loopX1 (α:=Unit) (fun _=>.int .i64 (F.length:Nat)) (fun _ G=>G=h1) (fun _=>0) () rfl rfl ?_
 rintro _ G rfl X hX
 obtain⟨a0,n0,c0,hsl,-,hle,-⟩:=o1.form
 injection hsl with hs1 hs2 hs3
 subst hs1 hs3
 have hnc:F.length<=c:=by omega
 have hz1:=e1.size
 have srcT:Src 4 G (.slice a F.length c) F.length (F.flatMap fiV):=by
  have:=o1.src
  exact this
 have hone:∀l:List (Nat×Nat×Nat),∀u∈l.flatMap fiV,one u=true:=fun l u hu=>by
  obtain⟨e,-,he⟩:=List.mem_flatMap.1 hu
  unfold fiV at he
  simp at he
  rcases he with rfl|rfl|rfl|rfl<;>rfl
 have hsx:∀G1:Heap,G1.size>=0->Src 4 (G1.push (.cells #[.int .i64 7,.int .i64 (f.1:Nat),.int .u64 (f.2.1:Nat),.int .u64 (f.2.2:Nat)] 134)) (.slice (some ⟨G1.size,0,none⟩) 1 1) 1 (fiV f):=fun G1 _=>Src_new (vs:=fiV f) rfl
 by_cases h0:F.length=0
 ·have h0':¬((F.length:Nat):Int)>0:=by omega
  simp(disch:=omega)[h0',d0,d1,d2,d3]
  refine JoinN_in1 (fun v G2=>Ext h G2/\OwnG fiT 4 G2 v ((F++[f]).flatMap fiV)/\∀b,blkG v=some b->h.size<=b) (fun kk hkk=>?_) (fun v G2 hG2=>?_)
  ·rw[Hp_slgNH (s:=4) kR omg omg,ValT_iff,Int.toNat_natCast]
   simp(disch:=omega)[d0,d1,d2,d3]
   constructor
   ·refine Hp_appendG (e:=fiT) (s:=4) (by_:=32) (n:=0) (k:=F.length) kR kR OwnG.nil rfl omg srcT (hone F) omg omg fun v4 h4 o4 m4 b4 _=>?_
    have e4:Ext G h4:=m4.ext_from (.refl _) (fun b hb e=>by cases e)
    have hz4:=e4.size
    have d0':=hcell_ext e4 d0
    have d1':=hcell_ext e4 d1
    have d2':=hcell_ext e4 d2
    have d3':=hcell_ext e4 d3
    have hb4:∀b,blkG v4=some b->G.size<=b:=fun b hb=>(b4 b hb).elim (fun e=>by cases e) id
    simp(disch:=omega)[d0',d1',d2',d3']
    have e5:Ext h4 (h4.push (.cells #[.int .i64 7,.int .i64 (f.1:Nat),.int .u64 (f.2.1:Nat),.int .u64 (f.2.2:Nat)] 134)):=extS
    have hz5:=e5.size
    refine Hp_appendG (e:=fiT) (s:=4) (by_:=32) (n:=F.length) (k:=1) kR kR (o4.ext e5) (by rw[List.nil_append,fiF_len]) omg (hsx h4 (Nat.zero_le _)) (by simp[fiV,one]) omg omg fun v6 h6 o6 m6 b6 _=>?_
    refine hkk v6 h6 ⟨m6.ext_from ((e1.trans e4).trans e5) (fun b hb e=>by have:=hb4 b e;omega),by rw[List.flatMap_append];simpa using o6,fun b hb=>(b6 b hb).elim (fun e=>by have:=hb4 b e;omega) (fun e=>by omega)⟩
   ·obtain⟨g1,hg1⟩:∃X,X=G.push (.cells #[.int .i64 7,.int .i64 (f.1:Nat),.int .u64 (f.2.1:Nat),.int .u64 (f.2.2:Nat)] 134):=⟨_,rfl⟩
    have e3:Ext G g1:=by rw[hg1];exact extS
    have sx:Src 4 g1 (.slice (some ⟨G.size,0,none⟩) 1 1) 1 (fiV f):=by rw[hg1];exact hsx G (Nat.zero_le _)
    rw[<-hg1]
    clear hg1
    have hz3:=e3.size
    refine Hp_appendG (e:=fiT) (s:=4) (by_:=32) (n:=0) (k:=F.length) kR kR OwnG.nil rfl omg (srcT.ext e3) (hone F) omg omg fun v4 h4 o4 m4 b4 _=>?_
    have e4:Ext g1 h4:=m4.ext_from (.refl _) (fun b hb e=>by cases e)
    have hz4:=e4.size
    have d0':=hcell_ext (e3.trans e4) d0
    have d1':=hcell_ext (e3.trans e4) d1
    have d2':=hcell_ext (e3.trans e4) d2
    have d3':=hcell_ext (e3.trans e4) d3
    have hb4:∀b,blkG v4=some b->g1.size<=b:=fun b hb=>(b4 b hb).elim (fun e=>by cases e) id
    simp(disch:=omega)[d0',d1',d2',d3']
    refine Hp_appendG (e:=fiT) (s:=4) (by_:=32) (n:=F.length) (k:=1) kR kR o4 (by rw[List.nil_append,fiF_len]) omg (sx.ext e4) (by simp[fiV,one]) omg omg fun v6 h6 o6 m6 b6 _=>?_
    refine hkk v6 h6 ⟨m6.ext_from ((e1.trans e3).trans e4) (fun b hb e=>by have:=hb4 b e;omega),by rw[List.flatMap_append];simpa using o6,fun b hb=>(b6 b hb).elim (fun e=>by have:=hb4 b e;omega) (fun e=>by omega)⟩
  ·obtain⟨eG2,oG2,bG2⟩:=hG2
   rw[Hp_slgLN (s:=4) kR omg omg omg,ValT_iff,Int.toNat_natCast]
   have od:=((o.ext eG2).dropO (lo:=F.length) omg).src
   have hdn:(F.flatMap fiV).drop (F.length*4)=[]:=by rw[<-fiF_len,List.drop_length]
   rw[hdn,Nat.sub_self]at od
   rw[Nat.sub_self]
   refine Hp_appendG (e:=fiT) (s:=4) (by_:=32) (n:=F.length+1) (k:=0) kR kR oG2 (by rw[fiF_len,List.length_append];rfl) omg od (fun u hu=>by cases hu) omg omg fun v6 h6 o6 m6 b6 _=>?_
   have hz2:=eG2.size
   exact hK h6 v6 (m6.ext_from eG2 (fun b hb e=>by have:=bG2 b e;omega)) (by simpa using o6) (fun b hb=>(b6 b hb).elim (bG2 b) (fun e=>by omega))
 ·have h0':((F.length:Nat):Int)>0:=by omega
  obtain⟨ab,ao,rfl⟩:∃b o,a=some ⟨b,o,none⟩:=by
   obtain⟨a1,n1,c1,e,-,-,hne⟩:=o.form
   injection e with e1 _ _
   obtain⟨b,o2,hh⟩:=hne (fun e=>by have:=congrArg List.length e;rw[fiF_len]at this;simp at this;omega)
   exact⟨b,o2,e1.trans hh⟩
  obtain⟨q0,q1,q2,q3⟩:=fi_cell o1 (i:=F.length-1) omg
  have hlt:=hF _ (List.getElem_mem (show F.length-1<F.length by omega))
  obtain⟨E,hE⟩:∃E,F[F.length-1]'omg=E:=⟨_,rfl⟩
  rw[hE]at q1 hlt
  have hidx:((F.length:Nat):Int)-1=((F.length-1:Nat):Int):=by omega
  obtain⟨LL,hLL⟩:∃L,F.length-1=L:=⟨_,rfl⟩
  rw[hLL]at hidx q1
  have hng:¬((E.1:Nat):Int)>((f.1:Nat):Int):=by omega
  have hne:¬((E.1:Nat):Int)=((f.1:Nat):Int):=by omega
  simp(disch:=omega)[h0',hidx,q1,d1,hng,hne]
  refine JoinN_in1 (fun v G2=>Ext h G2/\OwnG fiT 4 G2 v ((F++[f]).flatMap fiV)/\∀b,blkG v=some b->h.size<=b) (fun kk hkk=>?_) (fun v G2 hG2=>?_)
  ·rw[Hp_slgNH (s:=4) kR omg omg,ValT_iff,Int.toNat_natCast]
   simp(disch:=omega)[d0,d1,d2,d3]
   constructor
   ·refine Hp_appendG (e:=fiT) (s:=4) (by_:=32) (n:=0) (k:=F.length) kR kR OwnG.nil rfl omg srcT (hone F) omg omg fun v4 h4 o4 m4 b4 _=>?_
    have e4:Ext G h4:=m4.ext_from (.refl _) (fun b hb e=>by cases e)
    have hz4:=e4.size
    have d0':=hcell_ext e4 d0
    have d1':=hcell_ext e4 d1
    have d2':=hcell_ext e4 d2
    have d3':=hcell_ext e4 d3
    have hb4:∀b,blkG v4=some b->G.size<=b:=fun b hb=>(b4 b hb).elim (fun e=>by cases e) id
    simp(disch:=omega)[d0',d1',d2',d3']
    have e5:Ext h4 (h4.push (.cells #[.int .i64 7,.int .i64 (f.1:Nat),.int .u64 (f.2.1:Nat),.int .u64 (f.2.2:Nat)] 134)):=extS
    have hz5:=e5.size
    refine Hp_appendG (e:=fiT) (s:=4) (by_:=32) (n:=F.length) (k:=1) kR kR (o4.ext e5) (by rw[List.nil_append,fiF_len]) omg (hsx h4 (Nat.zero_le _)) (by simp[fiV,one]) omg omg fun v6 h6 o6 m6 b6 _=>?_
    refine hkk v6 h6 ⟨m6.ext_from ((e1.trans e4).trans e5) (fun b hb e=>by have:=hb4 b e;omega),by rw[List.flatMap_append];simpa using o6,fun b hb=>(b6 b hb).elim (fun e=>by have:=hb4 b e;omega) (fun e=>by omega)⟩
   ·obtain⟨g1,hg1⟩:∃X,X=G.push (.cells #[.int .i64 7,.int .i64 (f.1:Nat),.int .u64 (f.2.1:Nat),.int .u64 (f.2.2:Nat)] 134):=⟨_,rfl⟩
    have e3:Ext G g1:=by rw[hg1];exact extS
    have sx:Src 4 g1 (.slice (some ⟨G.size,0,none⟩) 1 1) 1 (fiV f):=by rw[hg1];exact hsx G (Nat.zero_le _)
    rw[<-hg1]
    clear hg1
    have hz3:=e3.size
    refine Hp_appendG (e:=fiT) (s:=4) (by_:=32) (n:=0) (k:=F.length) kR kR OwnG.nil rfl omg (srcT.ext e3) (hone F) omg omg fun v4 h4 o4 m4 b4 _=>?_
    have e4:Ext g1 h4:=m4.ext_from (.refl _) (fun b hb e=>by cases e)
    have hz4:=e4.size
    have d0':=hcell_ext (e3.trans e4) d0
    have d1':=hcell_ext (e3.trans e4) d1
    have d2':=hcell_ext (e3.trans e4) d2
    have d3':=hcell_ext (e3.trans e4) d3
    have hb4:∀b,blkG v4=some b->g1.size<=b:=fun b hb=>(b4 b hb).elim (fun e=>by cases e) id
    simp(disch:=omega)[d0',d1',d2',d3']
    refine Hp_appendG (e:=fiT) (s:=4) (by_:=32) (n:=F.length) (k:=1) kR kR o4 (by rw[List.nil_append,fiF_len]) omg (sx.ext e4) (by simp[fiV,one]) omg omg fun v6 h6 o6 m6 b6 _=>?_
    refine hkk v6 h6 ⟨m6.ext_from ((e1.trans e3).trans e4) (fun b hb e=>by have:=hb4 b e;omega),by rw[List.flatMap_append];simpa using o6,fun b hb=>(b6 b hb).elim (fun e=>by have:=hb4 b e;omega) (fun e=>by omega)⟩
  ·obtain⟨eG2,oG2,bG2⟩:=hG2
   rw[Hp_slgLN (s:=4) kR omg omg omg,ValT_iff,Int.toNat_natCast]
   have od:=((o.ext eG2).dropO (lo:=F.length) omg).src
   have hdn:(F.flatMap fiV).drop (F.length*4)=[]:=by rw[<-fiF_len,List.drop_length]
   rw[hdn,Nat.sub_self]at od
   rw[Nat.sub_self]
   refine Hp_appendG (e:=fiT) (s:=4) (by_:=32) (n:=F.length+1) (k:=0) kR kR oG2 (by rw[fiF_len,List.length_append];rfl) omg od (fun u hu=>by cases hu) omg omg fun v6 h6 o6 m6 b6 _=>?_
   have hz2:=eG2.size
   exact hK h6 v6 (m6.ext_from eG2 (fun b hb e=>by have:=bG2 b e;omega)) (by simpa using o6) (fun b hb=>(b6 b hb).elim (bG2 b) (fun e=>by omega))
end
section
variable {K:VP}{h:Heap}{x:Hd}{B:List UInt8}{g:Gm}
theorem blkH_mem{j k:Nat}:k∈g.blkH B j↔∃i,i<j/\g.word B i≠0/\g.cl i=k:=by
 unfold Gm.blkH
 rw[List.mem_map]
 constructor
 ·rintro⟨i,hi,he⟩
  rw[List.mem_filter,List.mem_range]at hi
  exact⟨i,hi.1,of_decide_eq_true hi.2,he⟩
 ·rintro⟨i,h1,h2,h3⟩
  exact⟨i,List.mem_filter.2 ⟨List.mem_range.2 h1,decide_eq_true h2⟩,h3⟩
theorem allH_hold(kk:g.ok){k:Nat}(hk:k∈g.allH B):g.hold B k:=by
 have hu:=kk.u0
 have hu1:=kk.u1
 unfold Gm.allH at hk
 rw[List.mem_append,List.mem_append,List.mem_append]at hk
 rcases hk with ((h|h)|h)|h
 ·rw[List.mem_singleton.1 h];exact .inl omg
 ·obtain⟨j,hj,rfl⟩:=List.mem_map.1 h
  have:=List.mem_range.1 hj
  exact .inl omg
 ·obtain⟨i,h1,h2,h3⟩:=blkH_mem.1 h
  by_cases e:i=0
  ·rw[e]at h3
   unfold Gm.cl at h3
   rw[if_pos rfl]at h3
   exact .inl omg
  ·exact .inr ⟨i,e,h1,h2,h3.symm⟩
 ·unfold Gm.l1H at h
  split at h
  ·cases h
  ·rw[List.mem_singleton.1 h];exact .inl omg
theorem allH_nodup(kk:g.ok):(g.allH B).Nodup:=by
 have hu:=kk.u0
 have hu1:=kk.u1
 have hn:=kk.n64
 have hL:=kk.L1
 have hbl:∀k∈g.blkH B g.m,g.u-1<=k/\(k=g.u-1\/g.u<k):=fun k hk=>by
  obtain⟨i,h1,h2,h3⟩:=blkH_mem.1 hk
  by_cases e:i=0
  ·rw[e]at h3;unfold Gm.cl at h3;rw[if_pos rfl]at h3;omega
  ·have:=kk.cl_u e;omega
 unfold Gm.allH
 refine List.nodup_append.2 ⟨List.nodup_append.2 ⟨List.nodup_append.2 ⟨by simp,List.pairwise_map.2 (List.nodup_range.imp fun {a b} h e=>h omg),?_⟩,?_,?_⟩,?_,?_⟩
 ·intro a ha b hb e
  rw[List.mem_singleton.1 ha]at e
  obtain⟨j,hj,rfl⟩:=List.mem_map.1 hb
  omega
 ·unfold Gm.blkH
  exact List.pairwise_map.2 ((List.nodup_range.filter _).imp fun {a b} h e=>h (kk.cl_inj e))
 ·intro a ha b hb e
  have h2:=hbl b hb
  rcases List.mem_append.1 ha with h|h
  ·rw[List.mem_singleton.1 h]at e;omega
  ·obtain⟨j,hj,rfl⟩:=List.mem_map.1 h
   have:=List.mem_range.1 hj
   omega
 ·unfold Gm.l1H;split<;>simp
 ·intro a ha b hb e
  unfold Gm.l1H at hb
  split at hb
  ·cases hb
  ·rename_i hne
   rw[List.mem_singleton.1 hb]at e
   rcases List.mem_append.1 ha with h|h
   ·rcases List.mem_append.1 h with h|h
    ·rw[List.mem_singleton.1 h]at e;omega
    ·obtain⟨j,hj,rfl⟩:=List.mem_map.1 h
     have:=List.mem_range.1 hj
     omega
   ·have:=hbl a h;omega
theorem allH_le(kk:g.ok)(I:Img g x B)(k:Nat):(g.allH B).count k<=g.cntX B k:=by
 rw[List.Nodup.count (allH_nodup kk)]
 split
 ·rename_i hk
  have hh:=allH_hold kk hk
  unfold Gm.cntX
  rw[if_pos (kk.hold_lt hh)]
  exact I.cov k hh
 ·exact Nat.zero_le _
theorem allH_len(kk:g.ok):(g.allH B).length<=400000:=by
 have h1:=g.blkH_len B g.m
 have h2:=kk.m8
 have h3:=kk.room_lt
 have h4:=kk.L1
 have h5:g.l1H.length<=1:=by unfold Gm.l1H;split<;>simp
 unfold Gm.allH
 rw[List.length_append,List.length_append,List.length_append,List.length_map,List.length_range,List.length_singleton]
 omega
def leakF(g:Gm)(B:List UInt8)(k:Nat):List (Nat×Nat×Nat):=((List.range k).filter fun k=>decide ((g.allH B).count k<g.cntX B k)).map fun k=>(k*g.c,(g.allH B).count k,g.cntX B k)
theorem leakF_succ(g:Gm)(B:List UInt8)(k:Nat):leakF g B (k+1)=leakF g B k++(if (g.allH B).count k<g.cntX B k then [(k*g.c,(g.allH B).count k,g.cntX B k)] else []):=by
 unfold leakF
 rw[List.range_succ,List.filter_append,List.map_append]
 congr 1
 by_cases hw:(g.allH B).count k<g.cntX B k
 ·rw[if_pos hw];simp[hw]
 ·rw[if_neg hw];simp[hw]
theorem leakF_len(g:Gm)(B:List UInt8)(k:Nat):(leakF g B k).length<=k:=by
 unfold leakF
 rw[List.length_map]
 refine Nat.le_trans (List.length_filter_le _ _) ?_
 rw[List.length_range];exact Nat.le_refl _
theorem leakF_sorted(kk:g.ok)(k:Nat):(leakF g B k).Pairwise fun a b=>a.1<b.1:=by
 obtain⟨q,hq,h1,-⟩:=kk.c512
 unfold leakF
 refine List.pairwise_map.2 ((List.pairwise_lt_range.filter _).imp fun {a b} h=>?_)
 exact Nat.mul_lt_mul_of_pos_right h omg
def Gm.endG(g:Gm)(B:List UInt8):Nat:=g.grt (g.allH B) ((List.range g.m).map (g.word B))
set_option maxHeartbeats 8000000 in
theorem rBytes15_c{v:Value}(kk:g.ok)(hd:HdOk g x)(I:Img g x B)(hB:Bytes h v B)(hG:g.endG B<=171798691840)
 (hK:∀h' rv cl he,Ext h h'->OwnG fiT 4 h' rv ((leakF g B (g.endG B)).flatMap fiV)->K (.tuple #[.agg #[rv,.bool false,.int .i64 cl,.int .i64 he,.int .i64 0,.int .i64 0,.int .i64 0],.int .i64 0]) h') :
 CallsH Tryz.prog 24 #[v] h K ⟨⟩:=by
 refine n24_calls ?_
 unfold n24;try delta vF vG vC vD vJ vV vk vt
 have hfew:=I.few
 have hnd:=allH_nodup (B:=B) kk
 have hHl:=allH_len (B:=B) kk
 have hmm:((List.range g.m).map (g.word B)).length<=327680:=by
  have h2:=kk.m8
  have h3:=kk.room_lt
  rw[List.length_map,List.length_range];omega
 have hHk:∀k∈g.allH B,k<=171798691840:=fun k hk=>by
  have h1:=kk.hold_lt (allH_hold kk hk)
  rw[Nat.div_lt_iff_lt_mul (by have:=kk.n64;omega)]at h1
  have h2:k<g.room:=h1
  have:=kk.room_lt
  omega
 simp(disch:=omega)
 obtain⟨h1,hh1⟩:∃X,X=h.push (.cells #[.slice none 0 0,.bool false,.int .i64 0,.int .i64 0,.int .i64 0,.int .i64 0,.int .i64 0] 63):=⟨_,rfl⟩
 have e1:Ext h h1:=by rw[hh1];exact extS
 have k1:h1[h.size]? = some (.cells #[.slice none 0 0,.bool false,.int .i64 0,.int .i64 0,.int .i64 0,.int .i64 0,.int .i64 0] 63):=by rw[hh1];exact get_pushed rfl
 rw[<-hh1]
 clear hh1
 refine goes_c kk hd I (hB.ext e1) fun g0 h2 w W E0 a2 hr0 hb0 hh0 ha0=>?_
 simp(disch:=omega)
 refine wAll_c kk hd a2 hfew ?_
 have d20:=cellOf (i:=20) a2.c rfl
 have f20:=frzOf (i:=20) a2.c
 unfold ptrV
 simp(disch:=omega)[d20,f20]
 have a3:=a2.num (i:=20) (v:=.int .i64 ((B.length/g.c:Nat):Int)) (W':={ W with cl:=((B.length/g.c:Nat):Int) }) rfl ⟨rfl,rfl,rfl,rfl,rfl⟩
 have hal:((B.length/g.c:Nat):Int)=((B.length:Nat):Int)/((g.c:Nat):Int):=Int.natCast_ediv _ _
 rw[hal]at a3
 generalize hg3:hset h2 ⟨w,20,none⟩ _=h3 at *
 obtain⟨CL,hCL⟩:∃C,((B.length:Nat):Int)/((g.c:Nat):Int)=C:=⟨_,rfl⟩
 rw[hCL]at a3
 obtain⟨q,hq,hq1,hq2⟩:=kk.c512
 have hb0':=kk.b0
 have hb1':=kk.b1
 have hcw:2^g.b=g.c:=rfl
 have hw0:∀{G:Heap} {W':Wk} {F R:List (Nat×Nat×Nat)},WkAt g0 G w x W' B (g.allH B) F R ((List.range g.m).map (g.word B))->w<G.size:=fun a=>get_some_lt a.c
 clear d20 f20 a2 hg3 hal
 refine loopX1 (α:=Nat×Wk) (fun z=>.int .i64 z.1) (fun z G=>z.1<=g.endG B/\WkAt g0 G w x z.2 B (g.allH B) (leakF g B z.1) [] ((List.range g.m).map (g.word B))/\z.2.rv = .slice none 0 0/\z.2.br=false/\0<=z.2.hd/\z.2.hd<=z.1) (fun z=>g.endG B-z.1) (0,{ W with cl:=CL }) rfl ⟨Nat.zero_le _,a3,hr0,hb0,by dsimp only;rw[hh0];decide,by dsimp only;rw[hh0];decide⟩ ?_
 rintro⟨k,W1⟩ G ⟨hk,aG,hr1,hb1,hd0,hd1⟩ X hX
 dsimp only at hk aG hr1 hb1 hd0 hd1 hX ⊢
 rw[show (.pointer (some ⟨w,0,none⟩):Value)=ptrV w from rfl]
 refine wGrt_c kk hd aG hHk omg hmm ?_
 rw[show g.grt (g.allH B) ((List.range g.m).map (g.word B))=g.endG B from rfl]
 by_cases hkE:k<g.endG B
 ·simp(disch:=omega)
  refine JoinN.mk (JoinN.mk ?_)
  refine wHeld_c aG hnd omg ?_
  have hle:=allH_le kk I k
  have hsucc:=leakF_succ g B k
  have hlen:=leakF_len g B k
  have hkC:k*g.c<=171798691840*65536:=Nat.mul_le_mul omg omg
  have hcnt1:(g.allH B).count k<=1:=by rw[List.Nodup.count hnd];split<;>omega
  obtain⟨AT,hAT⟩:∃A,k*g.c=A:=⟨_,rfl⟩
  rw[hAT]at hkC hsucc
  have hATi:((k:Nat):Int)*((g.c:Nat):Int)=((AT:Nat):Int):=by rw[<-hAT,Int.natCast_mul]
  obtain⟨HN,hHN⟩:∃n,(g.allH B).count k=n:=⟨_,rfl⟩
  rw[hHN]at hle hsucc hcnt1 ⊢
  have hshl:=fun (q:Bool) (o1 o2:Go.Operand) (G:Heap) (K:VP)=>Hp_shlW (P:=Tryz.prog) (q:=q) (t:=2) (x:=o1) (y:=o2) (k':=.i64) (K:=K) (h:=G) (a:=((k:Nat):Int)) hcw omg omg (by rw[hATi];omega)
  have hnext:∀G' W',WkAt g0 G' w x W' B (g.allH B) (leakF g B (k+1)) [] ((List.range g.m).map (g.word B))->W'.rv = .slice none 0 0->W'.br=false->0<=W'.hd->W'.hd<=k+1->X (.int .i64 ((k:Int)+1)) G':=fun G' W' a' h1 h2 h3 h4 =>
   hX (k+1,W') _ _ sM ⟨by omega,a',h1,h2,h3,by dsimp only;omega⟩ (by dsimp only;omega)
  have c1G:hcell G ⟨w,1,none⟩=some (.int .i64 x.bits):=cellOf (i:=1) aG.c rfl
  rw[hd.bits]at c1G
  simp(disch:=omega)
  refine JoinN.mk ?_
  (try unfold ptrV)
  by_cases hH0:HN=0
  ·have hng0:¬((HN:Nat):Int)>0:=by omega
   simp(disch:=omega)[hng0,c1G,hshl,hATi]
   obtain⟨GB,hGB⟩:∃z,z=G:=⟨_,rfl⟩
   obtain⟨WB,hWB⟩:∃z,z=W1:=⟨_,rfl⟩
   have aB:=aG
   rw[<-hGB,<-hWB]at aB
   have hrB:=hr1
   have hbB:=hb1
   have hdB0:=hd0
   have hdB1:W1.hd<=(k:Int)+1:=by omega
   rw[<-hWB]at hrB hbB hdB0 hdB1
   rw[<-hGB]
   refine JoinN.mk ?_
   simp(disch:=omega)
   rw[show (.pointer (some ⟨w,0,none⟩):Value)=ptrV w from rfl]
   refine wCount_c kk hd I aB omg ?_
   obtain⟨CX,hCX⟩:∃c,g.cntX B k=c:=⟨_,rfl⟩
   rw[hCX]at hle hsucc ⊢
   have hnl:¬((CX:Nat):Int)<((HN:Nat):Int):=by omega
   refine JoinN.mk ?_
   simp(disch:=omega)[hnl]
   by_cases hgt:HN<CX
   ·have hgt':((CX:Nat):Int)>((HN:Nat):Int):=by omega
    rw[if_pos hgt]at hsucc
    have c17:hcell GB ⟨w,17,none⟩=some WB.fv:=cellOf (i:=17) aB.c rfl
    obtain⟨va,vn,vc,hfv,hvl,hvc,-⟩:=aB.ff.form
    rw[hfv]at c17
    rw[fiF_len]at hvl
    have hwG:=get_some_lt aB.c
    have hwne:¬w=GB.size:=by omega
    unfold ptrV
    simp(disch:=omega)[hgt',c17,hwne]
    obtain⟨g1,hg1⟩:∃X,X=GB.push (.cells #[.int .i64 7,.int .i64 (AT:Nat),.int .u64 (HN:Nat),.int .u64 (CX:Nat)] 134):=⟨_,rfl⟩
    have e1':Ext GB g1:=by rw[hg1];exact extS
    have sx:Src 4 g1 (.slice (some ⟨GB.size,0,none⟩) 1 1) 1 (fiV (AT,HN,CX)):=by rw[hg1];exact Src_new (vs:=fiV (AT,HN,CX)) rfl
    rw[<-hg1]
    clear hg1
    have hz1:=e1'.size
    have a1:=aB.ext' e1'
    have hff:=a1.ff
    rw[hfv]at hff
    refine Hp_appendG (e:=fiT) (s:=4) (by_:=32) (n:=vn) (k:=1) kR kR hff (by rw[fiF_len];omega) omg sx (by simp[fiV,one]) omg omg fun v' h' o' m' b' _=>?_
    rw[<-hfv]at m' b'
    have k2:=(m'.block w omg (fun e=>own_nw a1 a1.ff dM e rfl)).trans a1.c
    have d17:=cellOf (i:=17) k2 rfl
    have f17:=frzOf (i:=17) k2
    obtain⟨va',vn',vc',rfl,-,-,-⟩:=o'.form
    simp(disch:=omega)[d17,f17]
    have a4:=a1.putF (by rw[hrB];rfl) o' m' b'
    rw[<-hsucc]at a4
    exact hnext _ _ a4 hrB hbB hdB0 hdB1
   ·have hgt':¬((CX:Nat):Int)>((HN:Nat):Int):=by omega
    rw[if_neg hgt,List.append_nil]at hsucc
    simp(disch:=omega)[hgt']
    refine hnext GB WB ?_ hrB hbB hdB0 hdB1
    rw[hsucc]
    exact aB
  ·have hgt0:((HN:Nat):Int)>0:=by omega
   have d21:hcell G ⟨w,21,none⟩=some (.int .i64 W1.hd):=cellOf (i:=21) aG.c rfl
   have f21:=frzOf (i:=21) aG.c
   simp(disch:=omega)[hgt0,d21,f21,c1G,hshl,hATi]
   have aB:=aG.num (i:=21) (v:=.int .i64 (W1.hd+1)) (W':={ W1 with hd:=W1.hd+1 }) rfl ⟨rfl,rfl,rfl,rfl,rfl⟩
   generalize hgB:hset G ⟨w,21,none⟩ _=GB at *
   obtain⟨WB,hWB⟩:∃z,z=({ W1 with hd:=W1.hd+1 }:Wk):=⟨_,rfl⟩
   rw[<-hWB]at aB
   have hrB:WB.rv = .slice none 0 0:=by rw[hWB];exact hr1
   have hbB:WB.br=false:=by rw[hWB];exact hb1
   have hdB0:0<=WB.hd:=by rw[hWB];dsimp only;omega
   have hdB1:WB.hd<=(k:Int)+1:=by rw[hWB];dsimp only;omega
   refine JoinN.mk ?_
   simp(disch:=omega)
   rw[show (.pointer (some ⟨w,0,none⟩):Value)=ptrV w from rfl]
   refine wCount_c kk hd I aB omg ?_
   obtain⟨CX,hCX⟩:∃c,g.cntX B k=c:=⟨_,rfl⟩
   rw[hCX]at hle hsucc ⊢
   have hnl:¬((CX:Nat):Int)<((HN:Nat):Int):=by omega
   refine JoinN.mk ?_
   simp(disch:=omega)[hnl]
   by_cases hgt:HN<CX
   ·have hgt':((CX:Nat):Int)>((HN:Nat):Int):=by omega
    rw[if_pos hgt]at hsucc
    have c17:hcell GB ⟨w,17,none⟩=some WB.fv:=cellOf (i:=17) aB.c rfl
    obtain⟨va,vn,vc,hfv,hvl,hvc,-⟩:=aB.ff.form
    rw[hfv]at c17
    rw[fiF_len]at hvl
    have hwG:=get_some_lt aB.c
    have hwne:¬w=GB.size:=by omega
    unfold ptrV
    simp(disch:=omega)[hgt',c17,hwne]
    obtain⟨g1,hg1⟩:∃X,X=GB.push (.cells #[.int .i64 7,.int .i64 (AT:Nat),.int .u64 (HN:Nat),.int .u64 (CX:Nat)] 134):=⟨_,rfl⟩
    have e1':Ext GB g1:=by rw[hg1];exact extS
    have sx:Src 4 g1 (.slice (some ⟨GB.size,0,none⟩) 1 1) 1 (fiV (AT,HN,CX)):=by rw[hg1];exact Src_new (vs:=fiV (AT,HN,CX)) rfl
    rw[<-hg1]
    clear hg1
    have hz1:=e1'.size
    have a1:=aB.ext' e1'
    have hff:=a1.ff
    rw[hfv]at hff
    refine Hp_appendG (e:=fiT) (s:=4) (by_:=32) (n:=vn) (k:=1) kR kR hff (by rw[fiF_len];omega) omg sx (by simp[fiV,one]) omg omg fun v' h' o' m' b' _=>?_
    rw[<-hfv]at m' b'
    have k2:=(m'.block w omg (fun e=>own_nw a1 a1.ff dM e rfl)).trans a1.c
    have d17:=cellOf (i:=17) k2 rfl
    have f17:=frzOf (i:=17) k2
    obtain⟨va',vn',vc',rfl,-,-,-⟩:=o'.form
    simp(disch:=omega)[d17,f17]
    have a4:=a1.putF (by rw[hrB];rfl) o' m' b'
    rw[<-hsucc]at a4
    exact hnext _ _ a4 hrB hbB hdB0 hdB1
   ·have hgt':¬((CX:Nat):Int)>((HN:Nat):Int):=by omega
    rw[if_neg hgt,List.append_nil]at hsucc
    simp(disch:=omega)[hgt']
    refine hnext GB WB ?_ hrB hbB hdB0 hdB1
    rw[hsucc]
    exact aB
 ·obtain rfl:k=g.endG B:=by omega
  simp(disch:=omega)
  obtain⟨FF,hFF⟩:∃l,leakF g B (g.endG B)=l:=⟨_,rfl⟩
  have hFl:=leakF_len g B (g.endG B)
  have hFs:=leakF_sorted (B:=B) kk (g.endG B)
  have hFat:∀e∈leakF g B (g.endG B),e.1<9223372036854775808:=fun e he=>by
   unfold leakF at he
   obtain⟨k,hk,rfl⟩:=List.mem_map.1 he
   have hk':=List.mem_range.1 (List.mem_filter.1 hk).1
   have:k*g.c<=171798691840*65536:=Nat.mul_le_mul omg omg
   dsimp only
   omega
  rw[hFF]at aG hFl hFs hFat hK
  have k1w:h.size<g0.size:=by have:=get_some_lt k1;have:=E0.size;omega
  refine loopX1 (α:=Nat×Wk) (fun z=>.int .i64 z.1) (fun z G=>z.1<=FF.length/\WkAt g0 G w x z.2 B (g.allH B) FF (FF.take z.1) ((List.range g.m).map (g.word B))/\z.2.br=false) (fun z=>FF.length-z.1) (0,W1) rfl ⟨Nat.zero_le _,aG,hb1⟩ ?_
  rintro⟨i,W2⟩ G2 ⟨hi,a5,hb2⟩ X2 hX2
  dsimp only at hi a5 hb2 hX2 ⊢
  have c17:hcell G2 ⟨w,17,none⟩=some W2.fv:=cellOf (i:=17) a5.c rfl
  have c18:hcell G2 ⟨w,18,none⟩=some W2.rv:=cellOf (i:=18) a5.c rfl
  obtain⟨fa,fn,fc,hfv,hfl,hfc,hfb⟩:=a5.ff.form
  have hff:=a5.ff
  rw[hfv]at c17 hff
  have hfn:fn=FF.length:=by rw[fiF_len]at hfl;omega
  subst hfn
  obtain⟨ra,rn,rc,hrv,-,-,-⟩:=a5.rr.form
  have hrr:=a5.rr
  rw[hrv]at c18 hrr
  by_cases hil:i<FF.length
  ·obtain⟨ab,ao,rfl⟩:=hfb (fun e=>by have:=congrArg List.length e;rw[fiF_len]at this;simp at this;omega)
   obtain⟨q0,q1,q2,q3⟩:=fi_cell hff hil
   have hat:=hFat _ (List.getElem_mem hil)
   have htk:FF.take (i+1)=FF.take i++[FF[i]]:=List.take_succ_eq_append_getElem hil
   have hlt:∀e∈FF.take i,e.1<(FF[i]).1:=fun e he=>by
    obtain⟨t,ht,rfl⟩:=List.mem_iff_getElem.1 he
    rw[List.length_take]at ht
    rw[List.getElem_take]
    exact List.pairwise_iff_getElem.1 hFs t i omg hil omg
   obtain⟨f,hf⟩:∃f,FF[i]=f:=⟨_,rfl⟩
   rw[hf]at q1 q2 q3 hat htk hlt
   unfold ptrV
   simp(disch:=omega)[c17,c18,q0,q1,q2,q3]
   refine with_c hrr hlt (by rw[List.length_take];omega) hat fun h' v' e' o' b'=>?_
   have k2:=(e'.block _ (get_some_lt a5.c)).trans a5.c
   have p17:hcell h' ⟨w,17,none⟩=some W2.fv:=cellOf (i:=17) k2 rfl
   have p18:=cellOf (i:=18) k2 rfl
   have p19:hcell h' ⟨w,19,none⟩=some (.bool W2.br):=cellOf (i:=19) k2 rfl
   have f18:=frzOf (i:=18) k2
   have f19:=frzOf (i:=19) k2
   rw[hfv]at p17
   rw[hb2]at p19
   have q0':=hcell_ext e' q0
   have hwab:¬w=ab:=fun e=>own_nw a5 a5.ff dM (b:=ab) (by rw[hfv];obtain⟨c',rfl⟩:∃c',fc=c'+1:=⟨fc-1,by omega⟩;rfl) e.symm
   obtain⟨va',vn',vc',rfl,-,-,-⟩:=o'.form
   have hwab2:¬ab=w:=fun e=>hwab e.symm
   have hadd:∀(j k:Nat) (u:Value) (G:Heap),hcell (hset G ⟨w,j,none⟩ u) (elt ⟨ab,ao,none⟩ k)=hcell G (elt ⟨ab,ao,none⟩ k):=fun j k u G=>by
    rw[elt_mk];exact hcell_set_other (fun e=>hwab (congrArg Addr.block e))
   simp(disch:=omega)[p17,p18,p19,f18,f19,hadd,q0']
   have a6:=a5.putR e' o' b'
   have a7:=a6.num (i:=19) (v:=.bool false) (W':={ W2 with rv:=.slice va' vn' vc',br:=false }) rfl ⟨rfl,rfl,rfl,rfl,rfl⟩
   rw[<-htk]at a7
   exact hX2 (i+1,{ W2 with rv:=.slice va' vn' vc',br:=false }) _ _ sM ⟨by omega,a7,rfl⟩ (by dsimp only;omega)
  ·obtain rfl:i=FF.length:=by omega
   rw[List.take_length]at a5 hrr
   unfold ptrV
   have c19:hcell G2 ⟨w,19,none⟩=some (.bool W2.br):=cellOf (i:=19) a5.c rfl
   have c20:hcell G2 ⟨w,20,none⟩=some (.int .i64 W2.cl):=cellOf (i:=20) a5.c rfl
   have c21:hcell G2 ⟨w,21,none⟩=some (.int .i64 W2.hd):=cellOf (i:=21) a5.c rfl
   have c22:hcell G2 ⟨w,22,none⟩=some (.int .i64 0):=cellOf (i:=22) a5.c rfl
   have c23:hcell G2 ⟨w,23,none⟩=some (.int .i64 0):=cellOf (i:=23) a5.c rfl
   have c24:hcell G2 ⟨w,24,none⟩=some (.int .i64 0):=cellOf (i:=24) a5.c rfl
   rw[hb2]at c19
   have kT:=(a5.ext.block _ k1w).trans ((E0.block _ (get_some_lt k1)).trans k1)
   have t0:=cellOf (i:=0) kT rfl
   have t1:=cellOf (i:=1) kT rfl
   have t2:=cellOf (i:=2) kT rfl
   have t3:=cellOf (i:=3) kT rfl
   have t4:=cellOf (i:=4) kT rfl
   have t5:=cellOf (i:=5) kT rfl
   have t6:=cellOf (i:=6) kT rfl
   have z0:=frzOf (i:=0) kT
   have z1:=frzOf (i:=1) kT
   have z2:=frzOf (i:=2) kT
   have z3:=frzOf (i:=3) kT
   have z4:=frzOf (i:=4) kT
   have z5:=frzOf (i:=5) kT
   have z6:=frzOf (i:=6) kT
   simp(disch:=omega)[c17,c18,c19,c20,c21,c22,c23,c24,loadsP,t0,t1,t2,t3,t4,t5,t6,z0,z1,z2,z3,z4,z5,z6]
   have eG2:Ext h G2:=e1.trans (E0.trans a5.ext)
   have hzz:=e1.size
   refine hK _ _ _ _ extS ?_
   refine hrr.mod (S:=fun b=>b=h.size) modS (fun b hb e=>?_)
   have:=a5.nr b (by rw[hrv];exact hb)
   omega
end
section
def Gm.ones(g:Gm):Nat->List UInt8
 | 0=>zeros g.c
 | k+1=>setC (g.ones k) g.w k 1
theorem Gm.ones_len(g:Gm)(k:Nat):(g.ones k).length=g.c:=by
 induction k with
 | zero=>exact zeros_len _
 | succ k ih=>unfold Gm.ones;rw[setC_length,ih]
theorem Gm.ok.ones_cnt{g:Gm}(kk:g.ok){k:Nat}(hk:k<=g.n)(j:Nat):Vc.cnt (g.ones k) g.w j=if j<k then 1 else 0:=by
 induction k with
 | zero=>rw[if_neg omg];exact cnt_zeros _ _ _
 | succ k ih =>
  have hw:=kk.w64
  have hn:=kk.nw
  have h1:k*g.w+g.w<=8*(g.ones k).length:=by
   rw[g.ones_len,<-hn,<-Nat.succ_mul]
   exact Nat.mul_le_mul_right _ hk
  unfold Gm.ones
  rw[cnt_setC h1,ih omg]
  by_cases e:j=k
  ·rw[if_pos e,if_pos omg,Nat.mod_eq_of_lt (Nat.one_lt_two_pow omg)]
  ·rw[if_neg e]
   by_cases e2:j<k
   ·rw[if_pos e2,if_pos omg]
   ·rw[if_neg e2,if_neg omg]
def Gm.laidB(g:Gm)(x:Hd):List UInt8:=over (over (over (zeros (g.u*g.c)) 0 (hdB x)) g.c (leB 8 ((g.u-1)*g.c))) ((g.u-1)*g.c) (g.ones g.u)
structure Laid (g:Gm) (B:List UInt8):Prop where
 len:B.length=g.u*g.c
 wi:∀i,1<=i->i<g.m->g.word B i=0
 cnt:∀k,k<g.n->g.cnt B k=if k<g.u then 1 else 0
theorem laid_img{g:Gm}{x:Hd}(kk:g.ok)(hd:HdOk g x):Img g x (g.laidB x)/\Laid g (g.laidB x):=by
 obtain⟨q,hq,hq1,hq2⟩:=kk.c512
 have hu0:=kk.u0
 have hu1:=kk.u1
 have hL1:=kk.L1
 have hn:=kk.n64
 have hh:(hdB x).length=512:=hdB_len hd.may
 have hz:(zeros (g.u*g.c)).length=g.u*g.c:=zeros_len _
 obtain⟨P,hP⟩:∃P,(g.u-1)*g.c=P:=⟨_,rfl⟩
 obtain⟨U,hU⟩:∃U,g.u*g.c=U:=⟨_,rfl⟩
 have hPU:P+g.c=U:=by
  rw[<-hP,<-hU,show g.u=(g.u-1)+1 by omega,Nat.add_sub_cancel,Nat.add_mul,Nat.one_mul]
 have hU2:U<=43*65536:=by rw[<-hU];exact Nat.mul_le_mul omg omg
 have hLP:g.c+g.L*g.c<=P:=by have:=kk.pl_tab 0;unfold Gm.pl Gm.cl at this;rw[if_pos rfl,hP]at this;exact this
 have hp0:g.pl 0=P:=by unfold Gm.pl Gm.cl;rw[if_pos rfl,hP]
 have h8:(leB 8 P).length=8:=leB_length 8 _
 unfold Gm.laidB
 rw[hP,hU]
 rw[hU]at hz
 obtain⟨B1,e1⟩:∃B,over (zeros U) 0 (hdB x)=B:=⟨_,rfl⟩
 have k1:0+(hdB x).length<=(zeros U).length:=by rw[hh,hz];omega
 have l1:B1.length=U:=by rw[<-e1,over_len k1,hz]
 obtain⟨B2,e2⟩:∃B,over B1 g.c (leB 8 P)=B:=⟨_,rfl⟩
 have k2:g.c+(leB 8 P).length<=B1.length:=by rw[h8,l1];omega
 have l2:B2.length=U:=by rw[<-e2,over_len k2,l1]
 have ho:=g.ones_len g.u
 have k3:P+(g.ones g.u).length<=B2.length:=by rw[ho,l2];omega
 rw[e1,e2]
 obtain⟨B3,e3⟩:∃B,over B2 P (g.ones g.u)=B:=⟨_,rfl⟩
 rw[e3]
 have l3:B3.length=U:=by rw[<-e3,over_len k3,l2]
 have hm:=kk.m0
 have w0:g.word B3 0=P:=by
  unfold Gm.word
  rw[<-e3,part_out k3 (.inl (by have:=kk.word_at (i:=0) omg;omega)),<-e2]
  have:=part_is k2
  rw[h8]at this
  rw[show g.c+8*0=g.c by omega,this,leN_leB8 omg]
 have wi:∀i,1<=i->i<g.m->g.word B3 i=0:=fun i hi him=>by
  have:=kk.word_at him
  unfold Gm.word
  rw[<-e3,part_out k3 (.inl omg),<-e2,part_out k2 (.inr (by rw[h8];omega)),<-e1,part_out k1 (.inr (by rw[hh];omega)),part_zeros omg,leN_zeros]
 have hb:g.blk B3 0=g.ones g.u:=by
  unfold Gm.blk
  have:=part_is k3
  rw[ho]at this
  rw[<-e3,hp0,this]
 have hc:∀k,k<g.n->g.cnt B3 k=if k<g.u then 1 else 0:=fun k hk=>by
  unfold Gm.cnt
  rw[Nat.div_eq_of_lt hk,w0,if_neg omg,hb,Nat.mod_eq_of_lt hk,kk.ones_cnt omg]
 refine⟨⟨by omega,?_,by rw[l3,hU];exact Nat.le_refl _,?_,by rw[w0];omega,fun i hi hw=>?_,?_,fun k hk=>?_⟩,⟨by rw[l3,hU],wi,hc⟩⟩
 ·rw[l3,<-hU,Nat.mul_mod_left]
 ·have:=part_is k1
  rw[hh]at this
  rw[<-e3,part_out k3 (.inl omg),<-e2,part_out k2 (.inl omg),<-e1,this]
 ·by_cases e:i=0
  ·rw[e,w0,hp0,l3];exact⟨rfl,by omega⟩
  ·exact absurd (wi i omg hi) hw
 ·have hl:=kk.l1_at 0
  rw[hp0]at hl
  have ht:=kk.tab_l1
  have:=kk.L0
  have hLc:g.c<=g.L*g.c:=Nat.le_mul_of_pos_left _ this
  rw[<-e3,part_out k3 (.inl omg),<-e2,part_out k2 (.inr (by rw[h8];omega)),<-e1,part_out k1 (.inr (by rw[hh];omega)),part_zeros omg]
 ·rcases hk with hk|⟨i,h1,h2,h3,-⟩
  ·rw[hc k omg,if_pos hk];exact Nat.le_refl _
  ·exact absurd (wi i omg h2) h3
end
section
variable {K:VP}{h:Heap}
theorem zeros_c{n:Nat}(hn:n<1000000000)(H:∀h',Ext h h'->OwnS 1 h' (.slice (some ⟨h.size,0,none⟩) n n) ((zeros n).map byteV)->K (.slice (some ⟨h.size,0,none⟩) n n) h') :
 Hp Tryz.prog false (Instr.makeSlice 52 (.int .i64 (n:Nat)) (.int .i64 (n:Nat))) K h ⟨⟩:=by
 simp(disch:=omega)
 refine H _ extS (OwnT.own (e:=bT) (.inr ⟨h.size,n,n,[],rfl,by simp[zeros],Nat.le_refl _,?_,by simp[zeros]⟩))
 simp only[List.append_nil,zeros,List.map_replicate,<-List.toArray_replicate]
 exact get_pushed rfl
theorem setH4{b:Nat}{x:Hd}{v:Int}(a:HdW h b x)(H:∀h',Mod (· = b) h h'->HdW h' b { x with l1len:=v }->K undef h'):Hp Tryz.prog false (Instr.fieldAt 84 (.pointer (some ⟨b,0,none⟩)) 4) (fun p h1=>Hp Tryz.prog false (storeS 3 p (.int .i64 v)) K h1 ⟨⟩) h ⟨⟩:=by
 obtain⟨d0,d1,d2,d3,d4,d5,d6,d7,d8,d9,d10,d11,d12,d13,d14⟩:=a
 have hlt:=d0.lt
 simp(disch:=omega)[d4.get,d4.free]
 refine H _ modS ?_
 refine⟨?_,?_,?_,?_,?_,?_,?_,?_,?_,?_,?_,?_,?_,?_,?_⟩
 all_goals simp(disch:=omega)[Cel_iff,d0.get,d0.free,d1.get,d1.free,d2.get,d2.free,d3.get,d3.free,d4.get,d4.free,d5.get,d5.free,d6.get,d6.free,d7.get,d7.free,d8.get,d8.free,d9.get,d9.free,d10.get,d10.free,d11.get,d11.free,d12.get,d12.free,d13.get,d13.free,d14.get,d14.free]
theorem setH3{b:Nat}{x:Hd}{v:Int}(a:HdW h b x)(H:∀h',Mod (· = b) h h'->HdW h' b { x with l1:=v }->K undef h'):Hp Tryz.prog false (Instr.fieldAt 84 (.pointer (some ⟨b,0,none⟩)) 3) (fun p h1=>Hp Tryz.prog false (storeS 2 p (.int .i64 v)) K h1 ⟨⟩) h ⟨⟩:=by
 obtain⟨d0,d1,d2,d3,d4,d5,d6,d7,d8,d9,d10,d11,d12,d13,d14⟩:=a
 have hlt:=d0.lt
 simp(disch:=omega)[d3.get,d3.free]
 refine H _ modS ?_
 refine⟨?_,?_,?_,?_,?_,?_,?_,?_,?_,?_,?_,?_,?_,?_,?_⟩
 all_goals simp(disch:=omega)[Cel_iff,d0.get,d0.free,d1.get,d1.free,d2.get,d2.free,d3.get,d3.free,d4.get,d4.free,d5.get,d5.free,d6.get,d6.free,d7.get,d7.free,d8.get,d8.free,d9.get,d9.free,d10.get,d10.free,d11.get,d11.free,d12.get,d12.free,d13.get,d13.free,d14.get,d14.free]
def LayOk(bits order size long:Int):Prop:=9<=bits/\bits<=16/\0<=order/\order<=6/\0<=size/\size<=1048576/\size%512=0/\1<=long/\long<=40
def layT(b:Nat)(size:Int):Int:=upQ (upQ size (2^b)) (2^b/8)
theorem layT_few{b:Nat}{size:Int}(b0:9<=b)(b1:b<=16)(s0:0<=size)(s1:size<=1048576):0<=layT b size/\8*layT b size<=512:=by
 have:b=9\/b=10\/b=11\/b=12\/b=13\/b=14\/b=15\/b=16:=by omega
 rcases this with rfl|rfl|rfl|rfl|rfl|rfl|rfl|rfl<;>(unfold layT upQ;simp;omega)
def layG(b o L:Nat)(size:Int):Gm:=⟨b,o,L,if layT b size=0 then L+2 else L+3⟩
def layH(b o L:Nat)(size:Int):Hd:=⟨b,0,size,if layT b size=0 then 0 else ((1+L)*2^b:Nat),layT b size,o,(2^b:Nat),L,0,0,0,0,0,0,[]⟩
theorem layG_ok{b o L:Nat}{size:Int}(b0:9<=b)(b1:b<=16)(o1:o<=6)(L0:1<=L)(L1:L<=40):(layG b o L size).ok:=by
 refine⟨b0,b1,o1,L0,L1,?_,?_⟩<;>(show _<=_;unfold layG;dsimp only;split<;>omega)
theorem layH_ok{b o L:Nat}{size:Int}(b0:9<=b)(b1:b<=16)(s0:0<=size)(s1:size<=1048576)(m:MayH (layH b o L size)):HdOk (layG b o L size) (layH b o L size):=by
 refine⟨m,rfl,rfl,rfl,rfl,?_,rfl,rfl⟩
 have ht:=layT_few b0 b1 s0 s1
 unfold layG layH
 dsimp only
 by_cases e:layT b size=0
 ·left;rw[if_pos e];exact⟨rfl,e⟩
 ·right
  rw[if_neg e,if_neg e]
  refine⟨rfl,rfl,by omega,?_⟩
  have:(512:Nat)<=2^b:=by
   calc 512=2^9:=by decide
    _<=_:=Nat.pow_le_pow_right omg b0
  show 8*layT b size<=((2^b:Nat):Int)
  omega
end
section
variable {K:VP}{h:Heap}
set_option maxHeartbeats 8000000 in
theorem Lay_c{bits order size long:Int}(rb : -9223372036854775808<=bits/\bits<9223372036854775808)(ro : -9223372036854775808<=order/\order<9223372036854775808)(rs : -9223372036854775808<=size/\size<9223372036854775808)(rl : -9223372036854775808<=long/\long<9223372036854775808)
 (H0:∀h',Ext h h'->(∀b o L:Nat,bits=b->order=o->long=L->LayOk bits order size long->¬MayH (layH b o L size))->K (.tuple #[.slice none 0 0,.bool false]) h')
 (H1:∀(b o L:Nat) h' v,bits=b->order=o->long=L->LayOk bits order size long->(layG b o L size).ok->HdOk (layG b o L size) (layH b o L size)->Ext h h'->OwnS 1 h' v (((layG b o L size).laidB (layH b o L size)).map byteV)->(∀b,blkV v=some b->h.size<=b)->K (.tuple #[v,.bool true]) h') :
 CallsH Tryz.prog 27 #[.int .i64 bits,.int .i64 order,.int .i64 size,.int .i64 long,str []] h K ⟨⟩:=by
 refine n27_calls ?_
 unfold n27;try delta vF vG vC vD vJ vV vk vt
 by_cases c1:bits<9
 ·simp(disch:=omega)[c1];exact H0 h (.refl _) (fun _ _ _ _ _ _ k _=>by unfold LayOk at k;omega)
 by_cases c2:bits>16
 ·simp(disch:=omega)[c1,c2];exact H0 h (.refl _) (fun _ _ _ _ _ _ k _=>by unfold LayOk at k;omega)
 by_cases c3:order<0
 ·simp(disch:=omega)[c1,c2,c3];exact H0 h (.refl _) (fun _ _ _ _ _ _ k _=>by unfold LayOk at k;omega)
 by_cases c4:order>6
 ·simp(disch:=omega)[c1,c2,c3,c4];exact H0 h (.refl _) (fun _ _ _ _ _ _ k _=>by unfold LayOk at k;omega)
 by_cases c5:size<0
 ·simp(disch:=omega)[c1,c2,c3,c4,c5];exact H0 h (.refl _) (fun _ _ _ _ _ _ k _=>by unfold LayOk at k;omega)
 by_cases c6:size>1048576
 ·simp(disch:=omega)[c1,c2,c3,c4,c5,c6];exact H0 h (.refl _) (fun _ _ _ _ _ _ k _=>by unfold LayOk at k;omega)
 by_cases c7:¬size%512=0
 ·simp(disch:=omega)[c1,c2,c3,c4,c5,c6,c7];exact H0 h (.refl _) (fun _ _ _ _ _ _ k _=>by unfold LayOk at k;omega)
 by_cases c8:long<1
 ·simp(disch:=omega)[c1,c2,c3,c4,c5,c6,c7,c8];exact H0 h (.refl _) (fun _ _ _ _ _ _ k _=>by unfold LayOk at k;omega)
 by_cases c9:long>40
 ·simp(disch:=omega)[c1,c2,c3,c4,c5,c6,c7,c8,c9];exact H0 h (.refl _) (fun _ _ _ _ _ _ k _=>by unfold LayOk at k;omega)
 have c7':=Classical.not_not.1 c7
 have hok:LayOk bits order size long:=⟨by omega,by omega,by omega,by omega,by omega,by omega,c7',by omega,by omega⟩
 simp(disch:=omega)[-Tryz.st84,-Tryz.ld84,-Tryz.al84,c1,c2,c3,c4,c5,c6,c7',c8,c9]
 clear c1 c2 c3 c4 c5 c6 c7 c7' c8 c9 rb ro rs rl
 obtain⟨b,rfl⟩:=Int.eq_ofNat_of_zero_le (show 0<=bits by have:=hok.1;omega)
 obtain⟨o,rfl⟩:=Int.eq_ofNat_of_zero_le (show 0<=order by exact hok.2.2.1)
 obtain⟨L,rfl⟩:=Int.eq_ofNat_of_zero_le (show 0<=long by have:=hok.2.2.2.2.2.2.2.1;omega)
 replace H1:=fun h' v=>H1 b o L h' v rfl rfl rfl hok
 obtain⟨b0,b1,-,o1,s0,s1,s5,L0,L1⟩:=hok
 have kk:(layG b o L size).ok:=layG_ok omg omg omg omg omg
 have hT:=layT_few (b:=b) (size:=size) omg omg s0 s1
 obtain⟨g,hg⟩:∃g,layG b o L size=g:=⟨_,rfl⟩
 have hx0:MayH (layH b o L size)->HdOk g (layH b o L size):=fun m=>hg▸layH_ok omg omg s0 s1 m
 rw[hg]at kk H1
 have gb:g.b=b:=by rw[<-hg];rfl
 have go:g.o=o:=by rw[<-hg];rfl
 have gL:g.L=L:=by rw[<-hg];rfl
 have gc:g.c=2^b:=by rw[<-hg];rfl
 have gu:g.u=if layT b size=0 then L+2 else L+3:=by rw[<-hg];rfl
 obtain⟨q,hq,hq1,hq2⟩:=kk.c512
 have hcc:(2:Int)^((b:Nat):Int).toNat=((g.c:Nat):Int):=by rw[Int.toNat_natCast,gc,Int.natCast_pow];rfl
 refine Cluster_c omg omg ?_
 rw[hcc]
 simp(disch:=omega)[-Tryz.st84,-Tryz.ld84,-Tryz.al84]
 refine allocH fun h1 e1 w1 z1=>?_
 refine storeH (x:=⟨(b:Nat),0,size,0,0,(o:Nat),(g.c:Nat),(L:Nat),0,0,0,0,0,0,[]⟩) w1 fun h2 m2 w2=>?_
 have E2:Ext h h2:=m2.ext_from e1 (fun b hb he=>by omega)
 have z2:=m2.size
 obtain⟨N1,hN1⟩:∃N,1+L=N:=⟨_,rfl⟩
 have hN1':(1:Int)+((L:Nat):Int)=((N1:Nat):Int):=by omega
 simp(disch:=omega)[-Tryz.st84,-Tryz.ld84,-Tryz.al84,hN1']
 rw[loadH w2.at]
 refine RTables_c (x:=⟨(b:Nat),0,size,0,0,(o:Nat),(g.c:Nat),(L:Nat),0,0,0,0,0,0,[]⟩) (by dsimp only;omega) (by dsimp only;omega) s0 (by dsimp only;omega) fun h3 e3=>?_
 have hTx:Hd.tables ⟨(b:Nat),0,size,0,0,(o:Nat),(g.c:Nat),(L:Nat),0,0,0,0,0,0,[]⟩=layT b size:=by
  unfold Hd.tables Hd.guest layT
  dsimp only
  rw[Int.toNat_natCast]
 rw[hTx]
 clear hTx
 obtain⟨T,hTT⟩:∃T,layT b size=T:=⟨_,rfl⟩
 rw[hTT]at hT gu ⊢
 refine setH4 (w2.ext e3) fun h4 m4 w4=>?_
 have z3:=e3.size
 have E4:Ext h h4:=m4.ext_from (E2.trans e3) (fun b hb he=>by omega)
 have z4:=m4.size
 refine JoinN_in1 (fun v G=>v = .int .i64 (g.u-1:Nat)/\Ext h G/\HdW G h.size (layH b o L size)) (fun kk1 hkk1=>?_) (fun v G hG=>?_)
 ·have d4:=w4.at.2.2.2.2.1
  simp(disch:=omega)[-Tryz.st84,-Tryz.ld84,-Tryz.al84,d4]
  by_cases hT0:T=0
  ·have hn:¬T>0:=by omega
   simp(disch:=omega)[-Tryz.st84,-Tryz.ld84,-Tryz.al84,hn]
   rw[if_pos hT0]at gu
   refine hkk1 _ _ ⟨?_,E4,?_⟩
   ·congr 1;omega
   ·unfold layH
    rw[hTT,if_pos hT0,<-gc]
    exact w4
  ·have hn:T>0:=by omega
   rw[if_neg hT0]at gu
   obtain⟨NC,hNC⟩:∃X,N1*g.c=X:=⟨_,rfl⟩
   have hNC':((N1:Nat):Int)*((g.c:Nat):Int)=((NC:Nat):Int):=by rw[<-hNC,Int.natCast_mul]
   have hNC2:NC<=41*65536:=by rw[<-hNC];exact Nat.mul_le_mul omg omg
   simp(disch:=omega)[-Tryz.st84,-Tryz.ld84,-Tryz.al84,-Tryz.fd84_3,hn,hNC']
   refine setH3 w4 fun h5 m5 w5=>?_
   have E5:Ext h h5:=m5.ext_from E4 (fun b hb he=>by omega)
   have d4:=w5.at.2.2.2.2.1
   simp(disch:=omega)[-Tryz.st84,-Tryz.ld84,-Tryz.al84,d4]
   refine Up_c omg omg omg omg ?_
   have hup:upQ (8*T) ((g.c:Nat):Int)=1:=by
    rw[show 8*T=(((8*T).toNat:Nat):Int) by omega]
    exact upQ_one omg omg
   rw[hup]
   simp(disch:=omega)[-Tryz.st84,-Tryz.ld84,-Tryz.al84]
   refine hkk1 _ _ ⟨?_,E5,?_⟩
   ·congr 1;omega
   ·unfold layH
    rw[hTT,if_neg hT0,<-gc,hN1,hNC]
    exact w5
 ·obtain⟨rfl,E5,w5⟩:=hG
  clear e1 w1 z1 m2 w2 E2 z2 e3 z3 m4 w4 E4 z4
  obtain⟨U,hU⟩:∃U,g.u-1=U:=⟨_,rfl⟩
  have hu0:=kk.u0
  have hu1:=kk.u1
  rw[hU]
  rw[show ((b:Nat):Int)=((g.b:Nat):Int) by rw[gb],show ((o:Nat):Int)=((g.o:Nat):Int) by rw[go]]
  refine Per_c kk ?_
  have hn:=kk.n64
  refine loop1 (fun v H=>v = .int .i64 1/\H=G) (fun _ _=>0) ⟨rfl,rfl⟩ ?_
  rintro v H ⟨rfl,rfl⟩
  have hlt:¬((1:Int)*((g.n:Nat):Int)<((U:Nat):Int)+1):=by omega
  simp(disch:=omega)[-Tryz.st84,-Tryz.ld84,-Tryz.al84,hlt]
  rw[loadH w5.at]
  refine May_c (show (0:Nat)<9223372036854775808 by decide) (fun h6 e6 hM=>?_) (fun h6 e6 hM=>?_)
  ·have hd:=hx0 hM
   have w6:=w5.ext e6
   have E6:=E5.trans e6
   clear E5 w5 e6
   obtain⟨LC,hLC⟩:∃X,L*g.c=X:=⟨_,rfl⟩
   have hLC':((L:Nat):Int)*((g.c:Nat):Int)=((LC:Nat):Int):=by rw[<-hLC,Int.natCast_mul]
   have hLC1:g.c<=LC:=by rw[<-hLC];exact Nat.le_mul_of_pos_left _ omg
   have hLC2:LC<=41*65536:=by rw[<-hLC];exact Nat.mul_le_mul omg omg
   have hgt:¬(1:Int)>((LC:Nat):Int)/8:=by omega
   obtain⟨UC,hUC⟩:∃X,g.u*g.c=X:=⟨_,rfl⟩
   have hU1:((U:Nat):Int)+1=((g.u:Nat):Int):=by omega
   have hUC':((g.u:Nat):Int)*((g.c:Nat):Int)=((UC:Nat):Int):=by rw[<-hUC,Int.natCast_mul]
   have hUC2:UC<=43*65536:=by rw[<-hUC];exact Nat.mul_le_mul omg omg
   simp(disch:=omega)[-Tryz.st84,-Tryz.ld84,-Tryz.al84,-Tryz.mk52,hU1,hLC',hgt,hUC']
   refine zeros_c omg fun h7 e7 o7=>?_
   have w7:=w6.ext e7
   have E7:=E6.trans e7
   rw[loadH w7.at]
   refine RBytes_c hM fun v8 h8 e8 b8=>?_
   have hh:(hdB (layH b o L size)).length=512:=hdB_len hM
   have hUg:g.c+(U*g.c)=UC:=by rw[<-hUC,show g.u=U+1 by omega,Nat.add_mul,Nat.one_mul,Nat.add_comm]
   refine rOver_c (k:=0) (o7.bytes.ext e8) b8 (by rw[zeros_len];omega) (by rw[zeros_len];omega) (by rw[zeros_len];omega) fun v9 h9 e9 o9 f9=>?_
   have z6:=E6.size
   have z7:=e7.size
   have z8:=e8.size
   have w9:=(w7.ext e8).ext e9
   have E9:=(E7.trans e8).trans e9
   obtain⟨x,hx⟩:∃x,layH b o L size=x:=⟨_,rfl⟩
   have hxc:x.counts=((g.c:Nat):Int):=by rw[<-hx];unfold layH;rw[gc]
   rw[hx]at hd w9 o9 hh H1
   replace f9:∀b,blkV v9=some b->h.size<=b:=fun b hb=>by have:=f9 b hb;omega
   clear w7 w6 o7 e7 e8 e9 b8 E7 E6 z6 z7 z8
   obtain⟨BB,hBB⟩:∃BB:Nat->List UInt8,BB=fun j=>if j=0 then Vc.over (zeros UC) 0 (hdB x) else g.laidB x:=⟨_,rfl⟩
   have hB0:BB 0=Vc.over (zeros UC) 0 (hdB x):=by rw[hBB];rfl
   have hB1:BB 1=g.laidB x:=by rw[hBB];rfl
   refine loop2 (fun v i H=>∃j:Nat,j<=1/\i = .int .i64 (j:Nat)/\Ext h H/\HdW H h.size x/\OwnS 1 H v ((BB j).map byteV)/\∀b,blkV v=some b->h.size<=b) (fun v i _=>match i with | .int _ n=>(1-n).toNat|_=>0) ⟨0,by omega,rfl,E9,w9,by rw[hB0];exact o9,f9⟩ ?_
   clear o9 w9 E9 f9
   rintro v i H ⟨j,hj,rfl,E10,w10,o10,f10⟩
   by_cases hj1:j=1
   ·subst hj1
    have hl:¬((1:Nat):Int)<1:=by omega
    simp(disch:=omega)[-Tryz.st84,-Tryz.ld84,-Tryz.al84,hl]
    rw[hB1]at o10
    exact H1 _ _ kk hd E10 o10 f10
   ·obtain rfl:j=0:=by omega
    have d6:=w10.at.2.2.2.2.2.2.1
    rw[hxc]at d6
    obtain⟨P,hP⟩:∃X,U*g.c=X:=⟨_,rfl⟩
    have hP':((U:Nat):Int)*((g.c:Nat):Int)=((P:Nat):Int):=by rw[<-hP,Int.natCast_mul]
    rw[hP]at hUg
    simp(disch:=omega)[-Tryz.st84,-Tryz.ld84,-Tryz.al84,-Tryz.mk52,d6,hP',Tryz.cvw2_44]
    refine Number_c (x:=P) omg omg fun v11 h11 o11 e11 f11=>?_
    have hcP:g.c<=P:=by rw[<-hP];exact Nat.le_mul_of_pos_left _ omg
    have d6':=hcell_ext e11 d6
    refine⟨by simp(disch:=omega)[d6'],?_⟩
    clear d6' d6
    have l0:(BB 0).length=UC:=by rw[hB0,over_len (by rw[hh,zeros_len];omega),zeros_len]
    have h8':(leB 8 P).length=8:=leB_length 8 _
    rw[show (8:Int).toNat=8 from rfl]at o11
    refine rOver_c (k:=g.c) (o10.bytes.ext e11) o11.bytes omg (by rw[h8'];omega) omg fun v12 h12 e12 o12 f12=>?_
    refine zeros_c omg fun h13 e13 o13=>?_
    have z10:=E10.size
    have z11:=e11.size
    have z12:=e12.size
    have z13:=e13.size
    have E13:=((E10.trans e11).trans e12).trans e13
    have w13:=((w10.ext e11).ext e12).ext e13
    replace o12:=o12.ext e13
    simp(disch:=omega)[-Tryz.st84,-Tryz.ld84,-Tryz.al84,-Tryz.mk52]
    obtain⟨v13,hv13⟩:∃v,v=Value.slice (some ⟨h12.size,0,none⟩) g.c g.c:=⟨_,rfl⟩
    rw[<-hv13]at o13 ⊢
    refine loop2 (fun v i H=>∃j:Nat,j<=g.u/\i = .int .i64 (j:Nat)/\Ext h13 H/\OwnS 1 H v ((g.ones j).map byteV)) (fun v i _=>match i with | .int _ n=>(g.u-n).toNat|_=>0) ⟨0,by omega,rfl,.refl _,o13⟩ ?_
    rintro v14 i h14 ⟨j,hj,rfl,e14,o14⟩
    by_cases hju:j<g.u
    ·have hl1:((j:Nat):Int)<((U:Nat):Int)+1:=by omega
     have hl2:((j:Nat):Int)<((g.n:Nat):Int):=by omega
     simp(disch:=omega)[hl1,hl2]
     have hw:=kk.wd_w
     have hw6:=kk.w64
     have hnw:=kk.nw
     have hjw:j*g.w+g.w<=8*(g.ones j).length:=by
      rw[g.ones_len,<-hnw,<-Nat.succ_mul]
      exact Nat.mul_le_mul_right _ omg
     refine With_c (n:=j) (x:=1) o14.bytes (by rw[g.ones_len];omega) (by rw[hw];omega) (by rw[hw];exact hjw) dM fun v15 h15 o15 e15 f15=>?_
     rw[hw]at o15
     simp(disch:=omega)
     exact⟨⟨j+1,by omega,by omega,e14.trans e15,o15⟩,by omega⟩
    ·have hjU:j=g.u:=by omega
     have hl1:¬((j:Nat):Int)<((U:Nat):Int)+1:=by omega
     simp(disch:=omega)[hl1,hP']
     have l12:(Vc.over (BB 0) g.c (leB 8 P)).length=UC:=by rw[over_len (by rw[h8'];omega),l0]
     rw[hjU]at o14
     refine rOver_c (k:=P) (o12.bytes.ext e14) o14.bytes omg (by rw[g.ones_len];omega) omg fun v16 h16 e16 o16 f16=>?_
     simp(disch:=omega)
     have z14:=e14.size
     refine⟨1,by omega,rfl,(E13.trans e14).trans e16,(w13.ext e14).ext e16,?_,fun b hb=>by have:=f16 b hb;omega⟩
     have:BB 1=Vc.over (Vc.over (BB 0) g.c (leB 8 P)) P (g.ones g.u):=by
      rw[hB1,hB0];unfold Gm.laidB
      rw[hU,hP,hUC]
     rw[this];exact o16
  ·simp(disch:=omega)[-Tryz.st84,-Tryz.ld84,-Tryz.al84]
   exact H0 _ (E5.trans e6) (fun b' o' L' e1 e2 e3 _=>by rw[<-Int.ofNat.inj e1,<-Int.ofNat.inj e2,<-Int.ofNat.inj e3];exact hM)
end
section
variable {K:VP}{h:Heap}
def imgV(bits order long size:Int):Value:=.agg #[.int .i64 bits,.int .i64 order,.int .i64 long,.int .i64 size]
def mdF(B:List UInt8):Fs:=((⟨⟨nA,[],[]⟩,[],1⟩:Fs).write 0 B).flush
theorem mdF_ok{B:List UInt8}(h:B.length<=268435456):(mdF B).f.ok:=Fs.flush_ok (Fs.write_ok (p:=⟨⟨nA,[],[]⟩,[],1⟩) ⟨by decide,fun p hp=>by cases hp⟩ omg)
theorem mdF_now{B:List UInt8}(h:B.length<=268435456)(hB:B≠[]):(mdF B).f.now=B:=by
 unfold mdF
 rw[Fs.flush_now,Fs.write_now (p:=⟨⟨nA,[],[]⟩,[],1⟩) ⟨by decide,fun p hp=>by cases hp⟩ rfl omg hB]
 show Vc.over (growL [] (0+B.length)) 0 B=B
 have hl:=growL_len [] (0+B.length)
 simp only[List.length_nil]at hl
 have:=part_is (B:=growL [] (0+B.length)) (x:=B) (k:=0) omg
 have h2:(Vc.over (growL [] (0+B.length)) 0 B).length=B.length:=by rw[over_len omg,hl];omega
 unfold part at this
 rw[List.drop_zero,List.take_of_length_le omg]at this
 exact this
theorem mdF_ps(B:List UInt8):(mdF B).f.ps=[]:=Fs.flush_ps rfl
set_option maxHeartbeats 4000000 in
theorem made_c{bits order long size:Int}{fv:Value}{fs:List (Int×Int)}(rb : -9223372036854775808<=bits/\bits<9223372036854775808)(ro : -9223372036854775808<=order/\order<9223372036854775808)(rs : -9223372036854775808<=size/\size<9223372036854775808)(rl : -9223372036854775808<=long/\long<9223372036854775808)
 (hf:Fas h fv fs) (hfl:fs.length<100000) (hr:fs.all rightF=true)
 (H0:∀h',Ext h h'->(∀b o L:Nat,bits=b->order=o->long=L->LayOk bits order size long->¬MayH (layH b o L size))->K (.tuple #[.pointer none,.bool false]) h')
 (H1:∀(b o L:Nat) h' sp s,bits=b->order=o->long=L->LayOk bits order size long->(layG b o L size).ok->HdOk (layG b o L size) (layH b o L size)->Ext h h'->StAt h' sp s->FsAt s ⟨(mdF ((layG b o L size).laidB (layH b o L size))).f,fs,3⟩->(∀b,s.foot sp b->h.size<=b)->K (.tuple #[ptrV sp,.bool true]) h') :
 CallsH Tryz.prog 8 #[imgV bits order long size,fv] h K ⟨⟩:=by
 refine n8_calls ?_
 unfold n8 imgV;try delta vF vG vC vD vJ vV vk vt
 simp(disch:=omega)
 refine (⟨_,rfl⟩:∃g,g=h.push (.cells #[.int .i64 bits,.int .i64 order,.int .i64 long,.int .i64 size] 23)).elim fun h1 eh1=>?_
 have e1:Ext h h1:=by rw[eh1];exact extS
 rw[<-eh1]
 clear eh1
 refine Lay_c rb ro rs rl (fun h2 e2 hno=>?_) (fun b o L h2 v hb ho hL hok kk hd e2 ov fv2=>?_)
 ·simp(disch:=omega)
  exact H0 _ (e1.trans e2) hno
 ·simp(disch:=omega)
  obtain⟨g,hg⟩:∃g,layG b o L size=g:=⟨_,rfl⟩
  obtain⟨x,hx⟩:∃x,layH b o L size=x:=⟨_,rfl⟩
  have H1':=H1 b o L
  rw[hg]at kk
  rw[hg,hx]at hd ov H1'
  obtain⟨I,La⟩:=laid_img kk hd
  obtain⟨B,hB⟩:∃B,g.laidB x=B:=⟨_,rfl⟩
  rw[hB]at ov I La H1'
  have hfew:=I.few
  have hne:B≠[]:=fun e=>by
   have:=I.len
   have:=Nat.mul_le_mul kk.u0 (Nat.le_refl g.c)
   obtain⟨q,hq,hq1,-⟩:=kk.c512
   rw[e,List.length_nil]at *
   have:g.c<=g.u*g.c:=Nat.le_mul_of_pos_left _ (by have:=kk.u0;omega)
   omega
  refine New_c (fs:=[]) ⟨.inl ⟨rfl,rfl,rfl⟩,⟨none,0,rfl,Nat.le_refl _⟩,by decide,fun f hf=>by cases hf⟩ dM (fun h3 e3 hr3=>absurd hr3 dM) (fun h3 sp s e3 _ hF hfa hst hsp hfoot a3=>?_)
  simp(disch:=omega)
  have hc0:cErr s nA=0:=by
   unfold cErr St.get
   rw[if_pos okN_A,hF];rfl
  rw[show str [97]=str nA from rfl]
  refine Create_c a3 dM (by rw[hst];decide) (fun h4 e4 hne4=>absurd hc0 hne4) (fun h4 fv4 _ hne4 _=>by rw[hfa]at hne4;exact absurd rfl hne4) (fun h4 fv4 b4 _ _ _ _ u4=>?_)
  have f4:FsAt { s.stepped fv4 with F:=s.F++[newFh nA b4] } ⟨⟨nA,[],[]⟩,[],1⟩:=⟨by show s.fates.tail=[];rw[hfa];rfl,by show s.steps+1=1;rw[hst],newFh nA b4,by show s.F++_=_;rw[hF];rfl,rfl,rfl⟩
  obtain⟨s4,hs4⟩:∃s4,{ s.stepped fv4 with F:=s.F++[newFh nA b4] }=s4:=⟨_,rfl⟩
  rw[hs4]at u4 f4
  clear hs4
  have hz2:=e2.size
  have hz3:=e3.size
  have hz4:=u4.mod.size
  have foot4:∀c,s4.foot sp c->h2.size<=c:=fun c hc=>(u4.foot c hc).elim (hfoot c) (fun x=>by omega)
  have e24:Ext h2 h4:=u4.mod.ext_from e3 (fun b hb hs=>by have:=hfoot b hs;omega)
  have ov4:Bytes h4 v B:=ov.bytes.ext e24
  refine sWrite_c (k:=0) u4.st f4 ov4 hfew (fun _ c hc hs=>by have:=foot4 c hs;have:=ov.lt hc;omega) omg omg dM fun h5 s5 u5 f5=>?_
  refine sFlush_c u5.st f5 (by show (2:Nat)+1<1000000;omega) fun h6 s6 u6 f6=>?_
  have z1:=e1.size
  have z5:=u5.mod.size
  have foot5:∀c,s5.foot sp c->h2.size<=c:=fun c hc=>(u5.foot c hc).elim (foot4 c) (fun x=>by omega)
  have e25:Ext h2 h5:=u5.mod.ext_from e24 (fun b hb hs=>by have:=foot4 b hs;omega)
  have z6:=u6.mod.size
  have foot6:∀c,s6.foot sp c->h2.size<=c:=fun c hc=>(u6.foot c hc).elim (foot5 c) (fun x=>by omega)
  have e26:Ext h2 h6:=u6.mod.ext_from e25 (fun b hb hs=>by have:=foot5 b hs;omega)
  have E6:=(e1.trans e2).trans e26
  have hfa6:s6.fates=[]:=f6.1
  refine Feed_c u6.st (hf.ext E6) (by rw[hfa6];simp;omega) (fun h7 e7 hr7=>by rw[hr]at hr7;cases hr7) (fun h7 fv7 _ u7=>?_)
  have E7:Ext h h7:=u7.mod.ext_from E6 (fun b hb hs=>by have:=foot6 b hs;omega)
  refine H1' h7 sp _ hb ho hL hok kk hd E7 u7.st ⟨?_,f6.2.1,f6.2.2⟩ (fun c hc=>(u7.foot c hc).elim (fun x=>by have:=foot6 c x;omega) (fun x=>by omega))
  show s6.fates++fs=fs
  rw[hfa6];rfl
end
section
structure Calm (p p':Fs) (n:Nat):Prop where
 ok:p'.f.ok
 stp:p'.steps<=p.steps+n
 nil:p'.fates=[]
structure Took (g:Gm) (x:Hd) (st nn:Nat) (B B':List UInt8):Prop where
 img:Img g x B'
 len:B.length<=B'.length
 fit:(st+nn)*g.c<=B'.length
 wd:∀j,j<g.m->g.word B j≠0->g.word B' j=g.word B j
 wdr:∀k,st<=k->k<st+nn->g.word B' (k/g.n)≠0
 inn:∀k,st<=k->k<st+nn->g.cnt B' k=1
 out:∀k,k/g.n<g.m->¬(st<=k/\k<st+nn)->g.cnt B' k=g.cnt B k\/g.cnt B k=0/\g.cnt B' k=1/\k%g.n=0/\g.word B (k/g.n)=0
theorem took_of{g:Gm}{x:Hd}{p p':Fs}{st nn:Nat}{e:Int}(kk:g.ok)(o:p.f.ok)(I:Img g x p.f.now)(hn:p.fates=[])(hr:st+nn<=g.room)(hfr:g.frees p.f.now st nn)(hf:(st+nn)*g.c<=268435456)(A:AEnd g st nn p p' e) :
 e=0/\Calm p p' (nn*(5+g.c/512)+2)/\p'.f.ps=[]/\Took g x st nn p.f.now p'.f.now:=by
 have h0:(growF g ((st+nn)*g.c) p).2=0:=growF_nil hn
 obtain⟨I1,w1,c1,l1,l1'⟩:=grow_run kk o I hf h0
 have S1:Stp1 p (growF g ((st+nn)*g.c) p).1 1:=growF_stp kk o (by rw[up_id kk];exact hf)
 rcases A with ⟨h1,h2⟩|⟨ks,bs,-,Q,h1⟩
 ·rw[h2]at h0;exact absurd h0 h1
 obtain⟨S2,z2,A2⟩:=Q.all kk S1.ok I1
 have hn1:=S1.nil hn
 have hz:=z2 hn1
 rw[runL_len]at S2
 rcases h1 with ⟨h1,h2⟩|⟨-,h2,h3⟩
 ·rw[h2]at hz;exact absurd hz h1
 obtain⟨D,hD,Af⟩:=A2 hz
 generalize (growF g ((st+nn)*g.c) p).1=p1 at *
 generalize hp2:(addF g 1 (cntZ (runL st nn)) ks bs p1).1=p2 at *
 have hn2:=S2.nil hn1
 have e2:=e_nil hn2
 subst h2
 refine⟨h3.trans e2,⟨Fs.flush_ok S2.ok,?_,tail_nil hn2⟩,Fs.flush_ps e2,?_⟩
 ·have:=S1.stp;have:=S2.stp
  show p2.steps+1<=_;omega
 rw[Fs.flush_now]
 have hin:∀k,st<=k->k<st+nn->k/g.n<g.m:=fun k hk1 hk2=>by
  have:k<g.room:=by omega
  rw[Nat.div_lt_iff_lt_mul (by have:=kk.n64;omega)];exact this
 have hD1:∀k,st<=k->k<st+nn->k/g.n∈D:=fun k hk1 hk2=>(hD _).2 ((Q.bmem _).2 ⟨k,(Q.mem k).2 (runL_mem.2 ⟨hk1,hk2⟩),rfl⟩)
 refine⟨Af.img,Nat.le_trans l1' Af.len,Nat.le_trans l1 Af.len,fun j hj hw=>?_,fun k hk1 hk2=>Af.wd1 _ (hin k hk1 hk2) (hD1 k hk1 hk2),fun k hk1 hk2=>?_,fun k hk hout=>?_⟩
 ·have hw1:g.word p1.f.now j≠0:=by rw[w1 j hj];exact hw
  by_cases hjD:j∈D
  ·rw[(Af.img.wi j hj (Af.wd1 j hj hjD)).1,<-(I.wi j hj hw).1]
  ·rw[Af.wd0 j hj hjD,w1 j hj]
 ·have hm:=hin k hk1 hk2
  have h1:=Af.cnt k hm
  obtain⟨f1,f2⟩:=hfr k hk1 hk2
  rw[if_pos (hD1 k hk1 hk2),if_pos ((Q.mem k).2 (runL_mem.2 ⟨hk1,hk2⟩)),runL_cnt,if_pos ⟨hk1,hk2⟩]at h1
  unfold Gm.base at h1
  rw[w1 _ hm,if_neg f2,c1 k hm,f1]at h1
  omega
 ·have h1:=Af.cnt k hk
  have hks:k∉ks:=fun hh=>hout (runL_mem.1 ((Q.mem k).1 hh))
  rw[if_neg hks]at h1
  rw[c1 k hk]at h1
  split at h1
  ·unfold Gm.base at h1
   rw[w1 _ hk]at h1
   split at h1
   ·rename_i hb
    right
    have h4:g.cnt p.f.now k=0:=by unfold Gm.cnt;rw[if_pos hb.1]
    exact⟨h4,by omega,hb.2,hb.1⟩
   ·left;rw[c1 k hk]at h1;omega
  ·left;omega
theorem Took.unheld{g:Gm}{x:Hd}{st nn:Nat}{B B':List UInt8}(kk:g.ok)(I:Img g x B)(T:Took g x st nn B B')(hfr:g.frees B st nn)(hr:st+nn<=g.room){k:Nat}(h1:st<=k)(h2:k<st+nn):¬g.hold B' k:=fun hh=>by
 obtain⟨f1,f2⟩:=hfr k h1 h2
 rcases hh with hh|⟨i,hi0,him,hiw,rfl⟩
 ·have:=I.cov k (.inl hh);omega
 ·obtain⟨q1,q2⟩:=cl_div kk hi0
  by_cases hw:g.word B i=0
  ·exact f2 ⟨by rw[q1];exact hw,q2⟩
  ·have:=I.cov _ (.inr ⟨i,hi0,him,hw,rfl⟩);omega
structure Gave (g:Gm) (x:Hd) (st nn:Nat) (B B':List UInt8):Prop where
 img:Img g x B'
 len:B.length<=B'.length
 wd:∀j,j<g.m->(g.word B' j=0↔g.word B j=0)
 cnt:∀k,k/g.n<g.m->g.cnt B k=g.cnt B' k+if st<=k/\k<st+nn then 1 else 0
theorem gave_of{g:Gm}{x:Hd}{p:Fs}{st nn:Nat}{ks bs:List Nat}(kk:g.ok)(o:p.f.ok)(I:Img g x p.f.now)(hn:p.fates=[])(Q:Asked g (-1) (runL st nn) p.f.now ks bs) :
 (addF g (-1) (cntZ (runL st nn)) ks bs p).2=0/\Calm p (addF g (-1) (cntZ (runL st nn)) ks bs p).1 (nn*(5+g.c/512))/\Gave g x st nn p.f.now (addF g (-1) (cntZ (runL st nn)) ks bs p).1.f.now:=by
 obtain⟨S,z,A⟩:=Q.all kk o I
 have hz:=z hn
 rw[runL_len]at S
 obtain⟨D,hD,Af⟩:=A hz
 generalize (addF g (-1) (cntZ (runL st nn)) ks bs p).1=p1 at *
 have hcnt:∀k∈ks,1<=g.cnt p.f.now k:=fun k hk=>by
  have:=(Q.ad.fit k hk).1
  rw[runL_cnt,if_pos (runL_mem.1 ((Q.mem k).1 hk))]at this
  omega
 have hDw:∀j∈D,g.word p.f.now j≠0:=fun j hj=>by
  obtain⟨k,hk,rfl⟩:=(Q.bmem j).1 ((hD j).1 hj)
  intro h0
  have:=hcnt k hk
  unfold Gm.cnt at this
  rw[if_pos h0]at this;omega
 refine⟨hz,⟨S.ok,S.stp,S.nil hn⟩,⟨Af.img,Af.len,fun j hj=>?_,fun k hk=>?_⟩⟩
 ·by_cases hjD:j∈D
  ·exact⟨fun h=>absurd h (Af.wd1 j hj hjD),fun h=>absurd h (hDw j hjD)⟩
  ·rw[Af.wd0 j hj hjD]
 ·have h1:=Af.cnt k hk
  by_cases hks:k∈ks
  ·have hr:=runL_mem.1 ((Q.mem k).1 hks)
   have hkD:k/g.n∈D:=(hD _).2 ((Q.bmem _).2 ⟨k,hks,rfl⟩)
   rw[if_pos hkD,if_pos hks,runL_cnt,if_pos hr]at h1
   unfold Gm.base at h1
   rw[if_neg (fun hh=>hDw _ hkD hh.1)]at h1
   rw[if_pos hr];omega
  ·have hr:¬(st<=k/\k<st+nn):=fun hh=>hks ((Q.mem k).2 (runL_mem.2 hh))
   rw[if_neg hks]at h1
   rw[if_neg hr]
   split at h1
   ·rename_i hkD
    unfold Gm.base at h1
    rw[if_neg (fun hh=>hDw _ hkD hh.1)]at h1
    omega
   ·omega
theorem gHold_le{H:List Nat}{b:Nat}:∀a,a<=b->(∀k∈H,k+1<=b)->H.foldl (fun a k=>max a (k+1)) a<=b:=by
 induction H with
 | nil=>intro a ha _;exact ha
 | cons k H ih =>
  intro a ha hH
  exact ih (max a (k+1)) (by have:=hH k List.mem_cons_self;omega) (fun j hj=>hH j (List.mem_cons_of_mem _ hj))
theorem gBlk_le{n b:Nat}{Bk:List Nat}{a:Nat}(ha:a<=b):∀j,(∀i,i<j->Bk.getD i 0≠0->(i+1)*n<=b)->gBlk n a Bk j<=b
 | 0,_=>ha
 | j+1,h=>by
  have ih:=gBlk_le (n:=n) (Bk:=Bk) ha j (fun i hi=>h i omg)
  unfold gBlk at ih ⊢
  rw[List.range_succ,List.foldl_append,List.foldl_cons,List.foldl_nil]
  split
  ·exact ih
  ·rename_i hne
   have:=h j omg hne
   omega
theorem endG_le{g:Gm}{B:List UInt8}(kk:g.ok):g.endG B<=g.room:=by
 have hn:=kk.n64
 unfold Gm.endG Gm.grt
 refine gBlk_le (gHold_le 0 (Nat.zero_le _) fun k hk=>?_) _ (fun i hi _=>?_)
 ·have h1:=kk.hold_lt (allH_hold kk hk)
  rw[Nat.div_lt_iff_lt_mul omg]at h1
  exact h1
 ·rw[List.length_map,List.length_range]at hi
  exact Nat.mul_le_mul_right _ hi
end
section
def inR(r:Nat×Nat)(k:Nat):Prop:=r.1<=k/\k<r.1+r.2
def apartR(a b:Nat×Nat):Prop:=a.1+a.2<=b.1\/b.1+b.2<=a.1
structure Mine (g:Gm) (B:List UInt8) (M:List (Nat×Nat)):Prop where
 ok:∀r∈M,1<=r.1/\1<=r.2/\r.2<=200/\r.1+r.2<=g.room
 cnt:∀r∈M,∃v,1<=v/\∀k,inR r k->g.cnt B k=v
 unh:∀r∈M,∀k,inR r k->¬g.hold B k
 ap:M.Pairwise apartR
structure Rose (g:Gm) (x:Hd) (by_:Int) (st nn:Nat) (B B':List UInt8):Prop where
 img:Img g x B'
 wd:∀j,j<g.m->(g.word B' j=0↔g.word B j=0)
 cnt:∀k,k/g.n<g.m->((g.cnt B' k:Nat):Int)=((g.cnt B k:Nat):Int)+if st<=k/\k<st+nn then by_ else 0
end
section
theorem tb_get(l:List UInt8)(j:Nat):(leN l).testBit j=match l[j/8]? with|some b=>b.toNat.testBit (j%8)|none=>false:=by
 by_cases h:j/8<l.length
 ·rw[tb_leN l j h,List.getElem?_eq_getElem h]
 ·rw[List.getElem?_eq_none omg,tb_out l j omg]
theorem cnt_same{l l':List UInt8}{w t:Nat}(h:∀i,t*w<=8*i+7->8*i<t*w+w->l[i]? = l'[i]?):Vc.cnt l w t=Vc.cnt l' w t:=by
 refine Nat.eq_of_testBit_eq fun k=>?_
 rw[tb_cnt,tb_cnt]
 by_cases hk:k<w
 ·rw[tb_get,tb_get,h _ omg omg]
 ·simp[hk]
theorem cnt_out{b y:List UInt8}{q w t:Nat}(hq:q+y.length<=b.length)(h:t*w+w<=8*q\/8*(q+y.length)<=t*w):Vc.cnt (Vc.over b q y) w t=Vc.cnt b w t:=by
 refine cnt_same fun i h1 h2=>?_
 rw[over_get? hq]
 by_cases h3:i<q
 ·rw[if_pos h3]
 ·rw[if_neg h3,if_neg omg]
theorem cnt_in{b b' y:List UInt8}{q w t:Nat}(hq:q+y.length<=b.length)(hq':q+y.length<=b'.length)(h1:8*q<=t*w)(h2:t*w+w<=8*(q+y.length)):Vc.cnt (Vc.over b q y) w t=Vc.cnt (Vc.over b' q y) w t:=by
 refine cnt_same fun i h3 h4=>?_
 have n1:¬i<q:=by omega
 have n2:i<q+y.length:=by omega
 rw[over_get? hq,over_get? hq',if_neg n1,if_neg n1,if_pos n2,if_pos n2]
theorem Gm.ok.sector{g:Gm}(kk:g.ok)(t j:Nat):(8*(512*j)<=t*g.w/\t*g.w+g.w<=8*(512*j+512))\/(t*g.w+g.w<=8*(512*j)\/8*(512*j+512)<=t*g.w):=by
 have ho:=kk.o1
 obtain⟨e,he⟩:∃e,e*g.w=4096:=by
  have h12:(2:Nat)^12=4096:=by decide
  refine⟨2^(12-g.o),?_⟩
  rw[<-h12]
  unfold Gm.w
  rw[<-Nat.pow_add]
  congr 1;omega
 have e1:j*4096=(j*e)*g.w:=by rw[Nat.mul_assoc,he]
 have e2:(j+1)*4096=((j+1)*e)*g.w:=by rw[Nat.mul_assoc,he]
 have e3:t*g.w+g.w=(t+1)*g.w:=by rw[Nat.add_mul,Nat.one_mul]
 have k1:j*e<=t->(j*e)*g.w<=t*g.w:=fun h=>Nat.mul_le_mul_right _ h
 have k2:t+1<=(j+1)*e->(t+1)*g.w<=((j+1)*e)*g.w:=fun h=>Nat.mul_le_mul_right _ h
 have k3:(j+1)*e<=t->((j+1)*e)*g.w<=t*g.w:=fun h=>Nat.mul_le_mul_right _ h
 have k4:t+1<=j*e->(t+1)*g.w<=(j*e)*g.w:=fun h=>Nat.mul_le_mul_right _ h
 clear he
 rw[e3]
 generalize (j*e)*g.w=A at *
 generalize ((j+1)*e)*g.w=B at *
 generalize (t+1)*g.w=C at *
 generalize t*g.w=D at *
 generalize j*e=a at *
 generalize (j+1)*e=b at *
 by_cases h1:a<=t
 ·by_cases h2:t+1<=b
  ·have:=k1 h1
   have:=k2 h2
   left;omega
  ·have:=k3 omg
   right;right;omega
 ·have:=k4 omg
  right;left;omega
theorem Img.spare{g:Gm}{x:Hd}{B y:List UInt8}{a:Nat}(I:Img g x B)(k:g.ok){i:Nat}(hi:i<g.m)(hw:g.word B i=0)(ha:g.pl i<=a)(hb:a+y.length<=g.pl i+g.c)(hf:a+y.length<=B.length) :
 Img g x (Vc.over B a y)/\(∀j,j<g.m->g.word (Vc.over B a y) j=g.word B j)/\(∀j,j/g.n<g.m->g.cnt (Vc.over B a y) j=g.cnt B j):=by
 have hlen:(Vc.over B a y).length=B.length:=over_len hf
 have htab:=k.pl_tab i
 have hl1:=k.l1_at i
 obtain⟨c1,hc,hc1,-⟩:=k.c512
 have hword:∀j,j<g.m->g.word (Vc.over B a y) j=g.word B j:=fun j hj=>by
  unfold Gm.word
  rw[part_out hf (.inl (by have:=k.word_at hj;omega))]
 have hcnt:∀j,j/g.n<g.m->g.cnt (Vc.over B a y) j=g.cnt B j:=fun j hj=>by
  unfold Gm.cnt
  rw[hword _ hj]
  split
  ·rfl
  ·rename_i hwj
   unfold Gm.blk
   rw[part_out hf]
   have:=k.pl_apart (i:=j/g.n) (j:=i) (fun e=>hwj (by rw[e];exact hw))
   omega
 have hold:∀j,g.hold (Vc.over B a y) j->g.hold B j:=fun j hh=>hh.imp id (fun ⟨i,h1,h2,h3,h4⟩=>⟨i,h1,h2,by rw[<-hword i h2];exact h3,h4⟩)
 refine⟨⟨by rw[hlen];exact I.few,by rw[hlen];exact I.mod,by rw[hlen];exact I.len,?_,?_,fun j hj hwj=>?_,?_,fun j hj=>?_⟩,hword,hcnt⟩
 ·rw[part_out hf (.inl omg)];exact I.head
 ·rw[hword 0 (by have:=k.m0;omega)];exact I.w0
 ·rw[hword j hj]at hwj ⊢
  rw[hlen];exact I.wi j hj hwj
 ·rw[part_out hf (.inl omg)];exact I.l1
 ·have h1:=hold j hj
  rw[hcnt j (k.hold_lt h1)]
  exact I.cov j h1
structure Cr (g:Gm) (x:Hd) (M:List (Nat×Nat)) (N B:List UInt8):Prop where
 img:Img g x B
 len:B.length=N.length
 wd:∀i,i<g.m->g.word B i≠0->g.word N i≠0
 cnt:∀k,k/g.n<g.m->g.cnt B k<=g.cnt N k
 mine:∀r∈M,∀k,inR r k->k/g.n<g.m/\1<=g.cnt B k
structure CI (g:Gm) (x:Hd) (M:List (Nat×Nat)) (f:Fl):Prop where
 ok:f.ok
 cr:∀Q,Q.Sublist f.ps->Cr g x M f.now (layAll f.last Q)
theorem CI.img{g:Gm}{x:Hd}{M:List (Nat×Nat)}{f:Fl}(a:CI g x M f):Img g x f.now:=(a.cr f.ps (List.Sublist.refl _)).img
theorem CI.mine{g:Gm}{x:Hd}{M:List (Nat×Nat)}{f:Fl}(a:CI g x M f):∀r∈M,∀k,inR r k->k/g.n<g.m/\1<=g.cnt f.now k:=(a.cr f.ps (List.Sublist.refl _)).mine
theorem picked_sublist:∀(ks:List Int) (ps:List Pc),(picked ks ps).Sublist ps
 | _,[]=>by simp[picked]
 | [],p::ps=>by rw[picked_nil];exact List.nil_sublist _
 | k::ks,p::ps=>by
  unfold picked
  split
  ·exact (picked_sublist ks ps).cons_cons p
  ·exact (picked_sublist ks ps).cons p
theorem CI.crash{g:Gm}{x:Hd}{M:List (Nat×Nat)}{f:Fl}(a:CI g x M f)(ks:List Int):Cr g x M f.now (f.crash ks).last:=a.cr _ (picked_sublist ks f.ps)
theorem CI.all{g:Gm}{x:Hd}{M:List (Nat×Nat)}{f:Fl}(o:f.ok)(I:Img g x f.now)(hm:∀r∈M,∀k,inR r k->k/g.n<g.m/\1<=g.cnt f.now k)(hp:f.ps=[]):CI g x M f:=by
 have hn:f.now=f.last:=by unfold Fl.now;rw[hp];rfl
 refine⟨o,fun Q hQ=>?_⟩
 rw[hp]at hQ
 rw[List.sublist_nil.1 hQ,layAll_nil,<-hn]
 exact⟨I,rfl,fun _ _ h=>h,fun _ _=>Nat.le_refl _,hm⟩
theorem CI.flush{g:Gm}{x:Hd}{M:List (Nat×Nat)}{f:Fl}(a:CI g x M f)(n:Nat):CI g x M (f.flush n):=by
 refine⟨a.ok.flush n,fun Q hQ=>?_⟩
 rw[now_flush]
 show Cr g x M f.now (layAll (layAll f.last (f.ps.take n)) Q)
 rw[<-layAll_append]
 refine a.cr _ ?_
 have h:Q.Sublist (f.ps.drop n):=hQ
 conv=>rhs;rw[<-List.take_append_drop n f.ps]
 exact (List.Sublist.refl _).append h
theorem CI.add{g:Gm}{x:Hd}{M:List (Nat×Nat)}{f:Fl}(a:CI g x M f){q:Pc}(hq:q.ok)(hfit:q.at_+q.b.length<=f.last.length)(h1:∀B,Cr g x M f.now B->Cr g x M (Vc.over f.now q.at_ q.b) B)(h2:∀B,Cr g x M f.now B->Cr g x M (Vc.over f.now q.at_ q.b) (Vc.over B q.at_ q.b)):CI g x M (f.add q):=by
 have hnl:=a.ok.now_len
 have hnow:(f.add q).now=Vc.over f.now q.at_ q.b:=by
  rw[a.ok.now_add,growL_same omg]
 have hlast:(f.add q).last=f.last:=by
  show growL f.last _=_
  exact growL_same hfit
 refine⟨a.ok.add hq (by have:=a.ok.few;omega),fun Q hQ=>?_⟩
 rw[hnow,hlast]
 have hQ':Q.Sublist (f.ps++[q]):=hQ
 obtain⟨Q1,Q2,rfl,s1,s2⟩:=List.sublist_append_iff.1 hQ'
 rw[layAll_append]
 have c:=a.cr Q1 s1
 rcases Q2 with _|⟨q2,t⟩
 ·exact h1 _ c
 ·have hl:=s2.length_le
  simp only[List.length_cons,List.length_nil]at hl
  have ht:t=[]:=List.length_eq_zero_iff.1 omg
  subst ht
  have hm:q2=q:=by simpa using s2.subset List.mem_cons_self
  subst hm
  exact h2 _ c
end
section
variable {g:Gm}{x:Hd}{M:List (Nat×Nat)}{f:Fl}
theorem cut_same{n:Nat}:∀{ps:List Pc},(∀p∈ps,p.ok/\p.fit n)->ps.filterMap (cutPc n)=ps
 | [],_=>rfl
 | p::ps,h=>by
  obtain⟨h1,h2⟩:=h p List.mem_cons_self
  have h3:=h1.pos
  unfold Pc.fit at h2
  have e:cutPc n p=some p:=by
   unfold cutPc
   rw[if_pos omg,List.take_of_length_le omg]
  rw[List.filterMap_cons_some e,cut_same (fun q hq=>h q (List.mem_cons_of_mem _ hq))]
theorem size_grow(o:f.ok){n:Nat}(h:f.last.length<=n):f.size n=f.grow n:=by
 have hl:=growL_len f.last n
 have e1:(growL f.last n).take n=growL f.last n:=List.take_of_length_le omg
 have e2:f.ps.filterMap (cutPc n)=f.ps:=cut_same fun p hp=>⟨(o.pc p hp).1,by have:=(o.pc p hp).2;unfold Pc.fit at *;omega⟩
 unfold Fl.size Fl.grow
 rw[e1,e2]
theorem CI.grow(a:CI g x M f)(kk:g.ok){n:Nat}(hn:n<=268435456)(hm:n%g.c=0)(h:f.last.length<=n):CI g x M (f.grow n):=by
 refine⟨a.ok.grow hn,fun Q hQ=>?_⟩
 have c:=a.cr Q hQ
 have hfit:∀p∈Q,p.fit f.last.length:=fun p hp=>(a.ok.pc p (hQ.subset hp)).2
 have hlen:(layAll f.last Q).length=f.last.length:=layAll_len hfit
 have e:layAll (f.grow n).last Q=growL (layAll f.last Q) n:=by
  show layAll (growL f.last n) Q=_
  unfold growL
  rw[layAll_grow hfit,hlen]
 rw[e,a.ok.now_grow]
 obtain⟨I1,w1,c1⟩:=c.img.grown kk hn hm
 obtain⟨I2,w2,c2⟩:=a.img.grown kk hn hm
 refine⟨I1,by rw[growL_len,growL_len,c.len],fun i hi hw=>?_,fun k hk=>?_,fun r hr k hk=>?_⟩
 ·rw[w1 i hi]at hw;rw[w2 i hi];exact c.wd i hi hw
 ·rw[c1 k hk,c2 k hk];exact c.cnt k hk
 ·obtain⟨h1,h2⟩:=c.mine r hr k hk
  exact⟨h1,by rw[c1 k h1];exact h2⟩
theorem CI.spare1(a:CI g x M f)(kk:g.ok){i:Nat}(hi:i<g.m)(hw:g.word f.now i=0)(hf:g.pl i+g.c<=f.last.length){q:Pc}(hq:q.ok)(h1:g.pl i<=q.at_)(h2:q.at_+q.b.length<=g.pl i+g.c) :
 CI g x M (f.add q)/\(f.add q).last.length=f.last.length/\(∀j,j<g.m->g.word (f.add q).now j=g.word f.now j):=by
 have hnl:=a.ok.now_len
 obtain⟨I2,w2,c2⟩:=a.img.spare kk hi hw h1 h2 omg
 have hnow:(f.add q).now=Vc.over f.now q.at_ q.b:=by rw[a.ok.now_add,growL_same omg]
 refine⟨a.add hq omg (fun B c=>⟨c.img,by rw[over_len omg];exact c.len,fun j hj h=>by rw[w2 j hj];exact c.wd j hj h,fun k hk=>by rw[c2 k hk];exact c.cnt k hk,c.mine⟩) (fun B c=>?_),?_,fun j hj=>by rw[hnow,w2 j hj]⟩
 ·have hwB:g.word B i=0:=Classical.byContradiction fun h=>c.wd i hi h hw
  have hl:=c.len
  obtain⟨I3,w3,c3⟩:=c.img.spare kk hi hwB h1 h2 omg
  refine⟨I3,by rw[over_len omg,over_len omg];exact c.len,fun j hj h=>?_,fun k hk=>?_,fun r hr k hk=>?_⟩
  ·rw[w3 j hj]at h;rw[w2 j hj];exact c.wd j hj h
  ·rw[c3 k hk,c2 k hk];exact c.cnt k hk
  ·obtain⟨m1,m2⟩:=c.mine r hr k hk
   exact⟨m1,by rw[c3 k m1];exact m2⟩
 ·show (growL f.last _).length=_
  rw[growL_same omg]
theorem CI.spare(kk:g.ok){i:Nat}(hi:i<g.m):∀{ps:List Pc} {f:Fl},CI g x M f->g.word f.now i=0->g.pl i+g.c<=f.last.length->(∀q∈ps,q.ok/\g.pl i<=q.at_/\q.at_+q.b.length<=g.pl i+g.c)->CI g x M (f.writes ps)/\(f.writes ps).last.length=f.last.length/\(∀j,j<g.m->g.word (f.writes ps).now j=g.word f.now j)
 | [],f,a,_,_,_=>⟨a,rfl,fun _ _=>rfl⟩
 | q::ps,f,a,hw,hf,h=>by
  obtain⟨h1,h2,h3⟩:=h q List.mem_cons_self
  obtain⟨a1,l1,w1⟩:=a.spare1 kk hi hw hf h1 h2 h3
  obtain⟨a2,l2,w2⟩:=CI.spare kk hi (ps:=ps) (f:=f.add q) a1 (by rw[w1 i hi];exact hw) (by rw[l1];exact hf) (fun r hr=>h r (List.mem_cons_of_mem _ hr))
  exact⟨a2,by rw[<-l1];exact l2,fun j hj=>by rw[<-w1 j hj];exact w2 j hj⟩
theorem CI.sect(a:CI g x M f)(kk:g.ok){i j:Nat}{y:List UInt8}(hi:i<g.m)(hw:g.word f.now i≠0)(hj:512*j+512<=g.c)(hy:y.length=512)(hup:∀t,Vc.cnt (g.blk f.now i) g.w t<=Vc.cnt (Vc.over (g.blk f.now i) (512*j) y) g.w t) :
 CI g x M (f.add ⟨g.pl i+512*j,y⟩)/\(f.add ⟨g.pl i+512*j,y⟩).last.length=f.last.length/\(f.add ⟨g.pl i+512*j,y⟩).now=Vc.over f.now (g.pl i+512*j) y/\(∀j',j'<g.m->g.word (f.add ⟨g.pl i+512*j,y⟩).now j'=g.word f.now j'):=by
 have hnl:=a.ok.now_len
 have hwi:=a.img.wi i hi hw
 obtain⟨q,hq,hq1,hq2⟩:=kk.c512
 have hin:=a.img.block (y:=y) (q:=512*j) kk hi hw omg
 obtain⟨hlen,hword,hbi,hbj,-⟩:=hin
 have hfit:g.pl i+512*j+y.length<=f.last.length:=by omega
 have hpm:(g.pl i+512*j)%512=0:=by
  have:g.pl i=512*(g.cl i*q):=by unfold Gm.pl;rw[hq,<-Nat.mul_assoc,Nat.mul_comm (g.cl i) 512,Nat.mul_assoc]
  omega
 have hok:Pc.ok ⟨g.pl i+512*j,y⟩:=⟨by show 0<y.length;omega,by show (g.pl i+512*j)%512+y.length<=512;omega⟩
 have hnow:(f.add ⟨g.pl i+512*j,y⟩).now=Vc.over f.now (g.pl i+512*j) y:=by
  rw[a.ok.now_add,growL_same (by show g.pl i+512*j+y.length<=_;omega)]
 have hbl:(g.blk f.now i).length=g.c:=blk_len a.img hi hw
 -- what is read rises
 have hN:∀k,k/g.n<g.m->g.cnt f.now k<=g.cnt (Vc.over f.now (g.pl i+512*j) y) k:=fun k hk=>by
  unfold Gm.cnt
  rw[hword _ hk]
  split
  ·exact Nat.le_refl _
  ·rename_i hwk
   by_cases e:k/g.n=i
   ·rw[e,hbi];exact hup _
   ·rw[hbj _ hk e hwk];exact Nat.le_refl _
 refine⟨a.add hok hfit (fun B c=>?_) (fun B c=>?_),?_,hnow,fun j' hj'=>by rw[hnow];exact hword j' hj'⟩
 ·exact⟨c.img,by rw[hlen];exact c.len,fun j' hj' h=>by rw[hword j' hj'];exact c.wd j' hj' h,fun k hk=>Nat.le_trans (c.cnt k hk) (hN k hk),c.mine⟩
 ·show Cr g x M (Vc.over f.now (g.pl i+512*j) y) (Vc.over B (g.pl i+512*j) y)
  have hBl:=c.len
  by_cases hwB:g.word B i=0
  ·obtain⟨I3,w3,c3⟩:=c.img.spare (a:=g.pl i+512*j) (y:=y) kk hi hwB omg omg omg
   refine⟨I3,by rw[over_len omg,over_len omg];exact c.len,fun j' hj' h=>?_,fun k hk=>?_,fun r hr k hk=>?_⟩
   ·rw[w3 j' hj']at h;rw[hword j' hj'];exact c.wd j' hj' h
   ·rw[c3 k hk];exact Nat.le_trans (c.cnt k hk) (hN k hk)
   ·obtain⟨m1,m2⟩:=c.mine r hr k hk
    exact⟨m1,by rw[c3 k m1];exact m2⟩
  ·have hblB:(g.blk B i).length=g.c:=blk_len c.img hi hwB
   obtain⟨lenB,wordB,bi,bj,imgB⟩:=c.img.block (y:=y) (q:=512*j) kk hi hwB omg
   -- counts of the block: those of the sector are the new ones,all others stay
   have hk2:∀t,Vc.cnt (Vc.over (g.blk B i) (512*j) y) g.w t=Vc.cnt (Vc.over (g.blk f.now i) (512*j) y) g.w t\/Vc.cnt (Vc.over (g.blk B i) (512*j) y) g.w t=Vc.cnt (g.blk B i) g.w t:=fun t=>by
    rcases kk.sector t j with ⟨s1,s2⟩|s1
    ·left;exact cnt_in omg omg s1 omg
    ·right;exact cnt_out omg omg
   have hlow:∀k,k/g.n=i->Vc.cnt (g.blk B i) g.w (k%g.n)<=Vc.cnt (g.blk f.now i) g.w (k%g.n):=fun k hk=>by
    have:=c.cnt k omg
    unfold Gm.cnt at this
    rw[hk,if_neg hwB,if_neg hw]at this
    exact this
   have hge:∀k,k/g.n=i->Vc.cnt (g.blk B i) g.w (k%g.n)<=Vc.cnt (Vc.over (g.blk B i) (512*j) y) g.w (k%g.n):=fun k hk=>by
    rcases hk2 (k%g.n) with h|h
    ·rw[h];exact Nat.le_trans (hlow k hk) (hup _)
    ·rw[h];exact Nat.le_refl _
   have hle:∀k,k/g.n=i->Vc.cnt (Vc.over (g.blk B i) (512*j) y) g.w (k%g.n)<=Vc.cnt (Vc.over (g.blk f.now i) (512*j) y) g.w (k%g.n):=fun k hk=>by
    rcases hk2 (k%g.n) with h|h
    ·rw[h];exact Nat.le_refl _
    ·rw[h];exact Nat.le_trans (hlow k hk) (hup _)
   have hcB:∀k,k/g.n<g.m->g.cnt B k<=g.cnt (Vc.over B (g.pl i+512*j) y) k:=fun k hk=>by
    unfold Gm.cnt
    rw[wordB _ hk]
    split
    ·exact Nat.le_refl _
    ·rename_i hwk
     by_cases e:k/g.n=i
     ·rw[e,bi];exact hge k e
     ·rw[bj _ hk e hwk];exact Nat.le_refl _
   refine⟨imgB (fun k hk hki=>?_) (fun k hk=>kk.hold_lt hk),by rw[lenB,hlen];exact c.len,fun j' hj' h=>?_,fun k hk=>?_,fun r hr k hk=>?_⟩
   ·have h1:=c.img.cov k hk
    unfold Gm.cnt at h1
    rw[hki,if_neg hwB]at h1
    exact Nat.le_trans h1 (hge k hki)
   ·rw[wordB j' hj']at h;rw[hword j' hj'];exact c.wd j' hj' h
   ·by_cases e:k/g.n=i
    ·unfold Gm.cnt
     rw[wordB _ hk,hword _ hk,e,if_neg hwB,if_neg hw,bi,hbi]
     exact hle k e
    ·refine Nat.le_trans ?_ (hN k hk)
     refine Nat.le_trans (Nat.le_of_eq ?_) (c.cnt k hk)
     unfold Gm.cnt
     rw[wordB _ hk]
     split
     ·rfl
     ·rename_i hwk
      rw[bj _ hk e hwk]
   ·obtain⟨m1,m2⟩:=c.mine r hr k hk
    exact⟨m1,Nat.le_trans m2 (hcB k m1)⟩
 ·show (growL f.last _).length=_
  rw[growL_same (by show g.pl i+512*j+y.length<=_;omega)]
theorem CI.word(a:CI g x M f)(kk:g.ok){i:Nat}(hi:i<g.m)(hp:f.ps=[])(hw:g.word f.now i=0)(hf:g.pl i+g.c<=f.now.length)(hb:g.blk f.now i=g.newB) :
 CI g x M (f.add ⟨g.c+8*i,leB 8 (g.pl i)⟩):=by
 have hnl:=a.ok.now_len
 have h8:(leB 8 (g.pl i)).length=8:=leB_length 8 _
 obtain⟨q,hq,hq1,hq2⟩:=kk.c512
 have hwf:=a.img.word_fit kk hi
 obtain⟨I2,w2,w3,c2,l2⟩:=a.img.mk2 kk hi hw hf hb
 have hok:Pc.ok ⟨g.c+8*i,leB 8 (g.pl i)⟩:=⟨by show 0<(leB 8 (g.pl i)).length;omega,by show (g.c+8*i)%512+(leB 8 (g.pl i)).length<=512;omega⟩
 have hnow:(f.add ⟨g.c+8*i,leB 8 (g.pl i)⟩).now=Vc.over f.now (g.c+8*i) (leB 8 (g.pl i)):=by
  rw[a.ok.now_add,growL_same (by show g.c+8*i+(leB 8 (g.pl i)).length<=_;omega)]
 have hn:f.now=f.last:=by unfold Fl.now;rw[hp];rfl
 have hlast:(f.add ⟨g.c+8*i,leB 8 (g.pl i)⟩).last=f.last:=growL_same (by show g.c+8*i+(leB 8 (g.pl i)).length<=_;omega)
 have hpl:0<g.pl i:=by have:=kk.pl_tab i;omega
 have hcl:g.cnt f.now (g.cl i)=0:=by
  have hi0:i≠0:=fun e=>a.img.w0 (e▸hw)
  unfold Gm.cnt
  rw[(cl_div kk hi0).1,if_pos hw]
 have c0:=a.cr [] (List.nil_sublist _)
 rw[layAll_nil,<-hn]at c0
 have hge:∀k,k/g.n<g.m->g.cnt f.now k<=g.cnt (Vc.over f.now (g.c+8*i) (leB 8 (g.pl i))) k:=fun k hk=>by
  rw[c2 k hk]
  split
  ·rename_i e;rw[e,hcl];exact Nat.zero_le _
  ·exact Nat.le_refl _
 have hwd:∀j,j<g.m->g.word f.now j≠0->g.word (Vc.over f.now (g.c+8*i) (leB 8 (g.pl i))) j≠0:=fun j hj h=>by
  by_cases e:j=i
  ·rw[e,w2];omega
  ·rw[w3 j hj e];exact h
 refine⟨a.ok.add hok (by have:=a.ok.few;show g.c+8*i+(leB 8 (g.pl i)).length<=_;omega),fun Q hQ=>?_⟩
 rw[hnow,hlast]
 have hQ':Q.Sublist (f.ps++[⟨g.c+8*i,leB 8 (g.pl i)⟩]):=hQ
 rw[hp,List.nil_append]at hQ'
 rcases Q with _|⟨q2,t⟩
 ·rw[layAll_nil,<-hn]
  exact⟨a.img,l2.symm,hwd,hge,c0.mine⟩
 ·have hl:=hQ'.length_le
  simp only[List.length_cons,List.length_nil]at hl
  have ht:t=[]:=List.length_eq_zero_iff.1 omg
  subst ht
  have hm:q2=⟨g.c+8*i,leB 8 (g.pl i)⟩:=by simpa using hQ'.subset List.mem_cons_self
  subst hm
  rw[layAll_cons,layAll_nil,<-hn]
  show Cr g x M _ (Vc.over f.now (g.c+8*i) (leB 8 (g.pl i)))
  exact⟨I2,rfl,fun _ _ h=>h,fun _ _=>Nat.le_refl _,fun r hr k hk=>⟨(c0.mine r hr k hk).1,Nat.le_trans (c0.mine r hr k hk).2 (hge k (c0.mine r hr k hk).1)⟩⟩
end
section
variable {g:Gm}{x:Hd}{M:List (Nat×Nat)}{p:Fs}
theorem went_sub{e k:Int}{ps:List Pc}{q:Pc}(h:q∈went e k ps):q∈ps:=by
 unfold went at h
 split at h
 ·exact h
 ·exact List.mem_of_mem_take h
theorem went_one{e k:Int}{q:Pc}:went e k [q]=[q]\/went e k [q]=[]:=by
 unfold went
 split
 ·exact .inl rfl
 ·cases k.toNat with
  | zero=>exact .inr rfl
  | succ n=>exact .inl sM
theorem cutP_one{k:Nat}{b:List UInt8}(hb:b≠[])(h:k%512+b.length<=512):cutP k b=[⟨k,b⟩]:=by
 rw[cutP_cons hb,show min b.length (512-k%512)=b.length by omega,List.take_length,List.drop_length,cutP_nil]
theorem write_one{k:Nat}{b:List UInt8}(hb:b≠[])(h:k%512+b.length<=512):(p.write k b).f=p.f.add ⟨k,b⟩\/(p.write k b).f=p.f:=by
 show p.f.writes (went (fateE p.fates) (fateK p.fates) (cutP k b))=_\/p.f.writes (went (fateE p.fates) (fateK p.fates) (cutP k b))=_
 rw[cutP_one hb h]
 rcases went_one (e:=fateE p.fates) (k:=fateK p.fates) (q:=⟨k,b⟩) with e|e
 ·rw[e];exact .inl rfl
 ·rw[e];exact .inr rfl
theorem ci_flS(a:CI g x M p.f):CI g x M (flS p).1.f:=a.flush _
theorem ci_wrB(a:CI g x M p.f)(kk:g.ok){i:Nat}(hi:i<g.m)(hw:g.word p.f.now i=0)(hf:g.pl i+g.c<=p.f.last.length) :
 CI g x M (wrS (g.pl i) g.newB p).1.f/\(wrS (g.pl i) g.newB p).1.f.last.length=p.f.last.length/\(∀j,j<g.m->g.word (wrS (g.pl i) g.newB p).1.f.now j=g.word p.f.now j):=by
 refine CI.spare kk hi a hw hf fun q hq=>?_
 have:=cutP_ok g.newB.length (Nat.le_refl _) q (went_sub hq)
 rw[g.newB_len]at this
 exact this
theorem ci_wrW(a:CI g x M p.f)(kk:g.ok){i:Nat}(hi:i<g.m)(hp:p.f.ps=[])(hw:g.word p.f.now i=0)(hf:g.pl i+g.c<=p.f.now.length)(hb:g.blk p.f.now i=g.newB):CI g x M (wrS (g.c+8*i) (leB 8 (g.pl i)) p).1.f:=by
 have h8:(leB 8 (g.pl i)).length=8:=leB_length 8 _
 obtain⟨q,hq,hq1,hq2⟩:=kk.c512
 have hne:leB 8 (g.pl i)≠[]:=fun e=>by rw[e]at h8;cases h8
 rcases write_one (p:=p) (k:=g.c+8*i) (b:=leB 8 (g.pl i)) hne omg with e|e
 ·show CI g x M (p.write _ _).f
  rw[e];exact a.word kk hi hp hw hf hb
 ·show CI g x M (p.write _ _).f
  rw[e];exact a
theorem ci_growF(a:CI g x M p.f)(kk:g.ok){n:Nat}(h:(n+g.c-1)/g.c*g.c<=268435456):CI g x M (growF g n p).1.f:=by
 obtain⟨m1,m2,m3⟩:=up_mul kk n
 unfold growF
 split
 ·exact a
 ·rename_i hn
  show CI g x M (if fateE p.fates=0 then p.f.size _ else p.f)
  split
  ·rw[size_grow a.ok omg]
   exact a.grow kk h m3 omg
  ·exact a
theorem ci_mkF(a:CI g x M p.f)(kk:g.ok){i:Nat}(hi:i<g.m)(hw:g.word p.f.now i=0)(hf:g.pl i+g.c<=268435456):CI g x M (mkF g i p).1.f:=by
 have hup:(g.pl i+g.c+g.c-1)/g.c*g.c<=268435456:=by rw[up_same kk i];exact hf
 have a1:=ci_growF (n:=g.pl i+g.c) a kk hup
 have hnl:=a.ok.now_len
 unfold mkF mkL
 by_cases e1:(growF g (g.pl i+g.c) p).2≠0
 ·rw[seqF_err e1];exact a1
 replace e1:=Classical.not_not.1 e1
 rw[seqF_cons e1]
 have hn1:=growF_now kk a.ok e1
 have hl1:g.pl i+g.c<=(growF g (g.pl i+g.c) p).1.f.now.length:=by
  rw[hn1,growL_len,up_same kk i];split<;>omega
 have hw1:g.word (growF g (g.pl i+g.c) p).1.f.now i=0:=by
  rw[hn1,up_same kk i]
  split
  ·rw[growL_same (Nat.zero_le _)];exact hw
  ·rw[(a.img.grown kk hf (g.pl_mod i)).2.1 i hi];exact hw
 generalize (growF g (g.pl i+g.c) p).1=p1 at *
 have hnl1:=a1.ok.now_len
 obtain⟨a2,l2,w2⟩:=ci_wrB a1 kk hi hw1 omg
 by_cases e2:(wrS (g.pl i) g.newB p1).2≠0
 ·rw[seqF_err e2];exact a2
 replace e2:=Classical.not_not.1 e2
 rw[seqF_cons e2]
 have hne:g.newB≠[]:=fun e=>by
  have h1:=g.newB_len
  obtain⟨q,hq,hq1,hq2⟩:=kk.c512
  rw[e,List.length_nil]at h1;omega
 have hn2:(wrS (g.pl i) g.newB p1).1.f.now=Vc.over p1.f.now (g.pl i) g.newB:=Fs.write_in a1.ok e2 (by rw[g.newB_len];exact hl1) hne
 generalize (wrS (g.pl i) g.newB p1).1=p2 at *
 have a3:=ci_flS a2
 by_cases e3:(flS p2).2≠0
 ·rw[seqF_err e3];exact a3
 replace e3:=Classical.not_not.1 e3
 rw[seqF_cons e3]
 have hn3:(flS p2).1.f.now=p2.f.now:=Fs.flush_now p2
 have hp3:(flS p2).1.f.ps=[]:=Fs.flush_ps e3
 generalize (flS p2).1=p3 at *
 have hb3:g.blk p3.f.now i=g.newB:=by
  rw[hn3,hn2]
  unfold Gm.blk
  have:=part_is (B:=p1.f.now) (x:=g.newB) (k:=g.pl i) (by rw[g.newB_len];exact hl1)
  rw[g.newB_len]at this
  exact this
 have hl3:g.pl i+g.c<=p3.f.now.length:=by rw[hn3,hn2,over_len (by rw[g.newB_len];exact hl1)];exact hl1
 have a4:=ci_wrW a3 kk hi hp3 (by rw[hn3,w2 i hi];exact hw1) hl3 hb3
 by_cases e4:(wrS (g.c+8*i) (leB 8 (g.pl i)) p3).2≠0
 ·rw[seqF_err e4];exact a4
 replace e4:=Classical.not_not.1 e4
 rw[seqF_cons e4]
 generalize (wrS (g.c+8*i) (leB 8 (g.pl i)) p3).1=p4 at *
 have a5:=ci_flS a4
 by_cases e5:(flS p4).2≠0
 ·rw[seqF_err e5];exact a5
 ·rw[seqF_cons (Classical.not_not.1 e5)];exact a5
theorem ci_wrF(kk:g.ok){i:Nat}(hi:i<g.m){was is:List UInt8}(hwl:was.length=g.c)(hil:is.length=g.c)(hup:∀t,Vc.cnt was g.w t<=Vc.cnt is g.w t):∀(n j:Nat) (p:Fs),CI g x M p.f->g.word p.f.now i≠0->512*(j+n)<=g.c->(∀t,512*j<=t->(g.blk p.f.now i)[t]? = was[t]?)->CI g x M (wrF (g.pl i) was is n j p).1.f
 | 0,j,p,a,_,_,_=>a
 | n+1,j,p,a,hw,hn,hsame=>by
  by_cases e:part is (512*j) 512=part was (512*j) 512
  ·rw[wrF_same e]
   exact ci_wrF kk hi hwl hil hup n (j+1) p a hw omg (fun t ht=>hsame t omg)
  ·have hy:(part is (512*j) 512).length=512:=part_len omg
   have hbl:(g.blk p.f.now i).length=g.c:=blk_len a.img hi hw
   have hne:part is (512*j) 512≠[]:=fun e=>by rw[e]at hy;cases hy
   obtain⟨q,hq,hq1,hq2⟩:=kk.c512
   have hpm:(g.pl i+512*j)%512=0:=by
    have:g.pl i=512*(g.cl i*q):=by unfold Gm.pl;rw[hq,<-Nat.mul_assoc,Nat.mul_comm (g.cl i) 512,Nat.mul_assoc]
    omega
   have hov:Vc.over is (512*j) (part is (512*j) 512)=is:=by
    have:=over_part (B:=is) (x:=part is (512*j) 512) (k:=512*j) omg
    rw[hy]at this
    exact this
   have hrise:∀t,Vc.cnt (g.blk p.f.now i) g.w t<=Vc.cnt (Vc.over (g.blk p.f.now i) (512*j) (part is (512*j) 512)) g.w t:=fun t=>by
    rcases kk.sector t j with ⟨s1,s2⟩|s1
    ·rw[cnt_in (b':=is) omg omg s1 omg,hov]
     refine Nat.le_trans (Nat.le_of_eq ?_) (hup t)
     exact cnt_same fun b h1 h2=>hsame b omg
    ·exact Nat.le_of_eq (cnt_out omg omg).symm
   obtain⟨a1,l1,n1,w1⟩:=a.sect kk hi hw (y:=part is (512*j) 512) omg hy hrise
   have hone:=write_one (p:=p) (k:=g.pl i+512*j) (b:=part is (512*j) 512) hne omg
   have aw:CI g x M (p.write (g.pl i+512*j) (part is (512*j) 512)).f:=by
    rcases hone with h|h
    ·rw[h];exact a1
    ·rw[h];exact a
   by_cases e2:p.e=0
   ·rw[wrF_go e e2]
    have hfull:(p.write (g.pl i+512*j) (part is (512*j) 512)).f=p.f.add ⟨g.pl i+512*j,part is (512*j) 512⟩:=by
     show p.f.writes (went (fateE p.fates) (fateK p.fates) (cutP _ _))=_
     have e2':fateE p.fates=0:=e2
     unfold went
     rw[if_pos e2',cutP_one hne omg];rfl
    refine ci_wrF kk hi hwl hil hup n (j+1) _ aw (by rw[hfull,w1 i hi];exact hw) omg (fun t ht=>?_)
    rw[hfull,n1]
    have hin:=a.img.block (y:=part is (512*j) 512) (q:=512*j) kk hi hw omg
    rw[hin.2.2.1,over_get? omg,if_neg omg,if_neg omg]
    exact hsame t omg
   ·rw[wrF_err e e2];exact aw
theorem ci_putBk(a:CI g x M p.f)(kk:g.ok){i:Nat}{T:Nat->Nat}{ks:List Nat}(hi:i<g.m)(hw:g.word p.f.now i≠0)(hup:∀t,Vc.cnt (g.blk p.f.now i) g.w t<=Vc.cnt (addB g 1 T i ks (g.blk p.f.now i)) g.w t):CI g x M (putBk g 1 T ks i p).1.f:=by
 have hbl:(g.blk p.f.now i).length=g.c:=blk_len a.img hi hw
 have h3:=kk.c_div
 unfold putBk
 exact ci_wrF kk hi hbl (by rw[addB_len];exact hbl) hup (g.c/512) 0 p a hw omg (fun _ _=>rfl)
theorem ci_stepB(kk:g.ok){T:Nat->Nat}{ks:List Nat}{B:List UInt8}(Ad:Adds g 1 T ks B){D:List Nat}(a:CI g x M p.f)(A:After g x 1 T ks B D p.f.now){i:Nat}(hi:i<g.m)(hD:i∉D)(hk:∃q∈ks,q/g.n=i):CI g x M (stepB g 1 T ks i p).1.f:=by
 obtain⟨q0,hq0,hqi⟩:=hk
 have hroom:g.word B i=0->g.pl i+g.c<=268435456:=fun h=>hqi▸(Ad.room q0 hq0 (by rw[hqi];exact h)).1
 have ag:CI g x M (getB g i p).1.f:=by
  unfold getB
  split
  ·rename_i hw
   exact ci_mkF a kk hi hw (hroom (by rw[<-A.wd0 i hi hD];exact hw))
  ·exact a
 unfold stepB
 by_cases e1:(getB g i p).2≠0
 ·rw[seqF_err e1];exact ag
 replace e1:=Classical.not_not.1 e1
 rw[seqF_two e1]
 have Md:=getB_mid kk a.ok A hi hD hroom e1
 generalize (getB g i p).1=p1 at *
 refine ci_putBk ag kk hi Md.wi fun t=>?_
 have hl:=blk_len Md.img hi Md.wi
 have hn:=kk.n64
 by_cases ht:t<g.n
 ·have hqd:(i*g.n+t)/g.n=i:=by rw[Nat.mul_comm,Nat.mul_add_div omg,Nat.div_eq_of_lt ht,Nat.add_zero]
  have hqm:(i*g.n+t)%g.n=t:=by rw[Nat.mul_comm,Nat.mul_add_mod,Nat.mod_eq_of_lt ht]
  have hcb:∀q,q/g.n=i->Vc.cnt (g.blk p1.f.now i) g.w (q%g.n)=g.base B q:=fun q hq=>by
   have:=Md.cnt q (by rw[hq];exact hi)
   rw[if_neg (by rw[hq];exact hD),if_pos hq]at this
   have h2:g.cnt p1.f.now q=g.base B q:=by exact_mod_cast this
   unfold Gm.cnt at h2
   rw[hq,if_neg Md.wi]at h2
   exact h2
  have hbase:∀q,q∈ks->g.base B q=g.cnt B q:=fun q hq=>by
   unfold Gm.base
   rw[if_neg]
   rintro⟨h1,h2⟩
   exact (Ad.room q hq h1).2 h2
  have hac:=addB_cnt kk (by_:=1) (T:=T) (i:=i) ks (g.blk p1.f.now i) Ad.nd hl (fun q hq hqi=>by
   rw[hcb q hqi,hbase q hq];exact Ad.fit q hq) (i*g.n+t) hqd
  rw[hqm]at hac
  have:(0:Int)<=if i*g.n+t∈ks then 1*((T (i*g.n+t):Nat):Int) else 0:=by split<;>omega
  omega
 ·have h0:∀l:List UInt8,l.length=g.c->Vc.cnt l g.w t=0:=fun l hll=>by
   refine Nat.eq_of_testBit_eq fun k=>?_
   rw[tb_cnt,tb_out l (t*g.w+k) (by rw[hll,<-kk.nw];exact Nat.le_trans (Nat.mul_le_mul_right _ omg) (Nat.le_add_right _ _))]
   simp
  rw[h0 _ hl];exact Nat.zero_le _
theorem ci_addF(kk:g.ok){T:Nat->Nat}{ks:List Nat}{B:List UInt8}(Ad:Adds g 1 T ks B):∀(bs D:List Nat) (p:Fs),CI g x M p.f->After g x 1 T ks B D p.f.now->bs.Nodup->(∀i∈bs,i∉D/\i<g.m/\∃q∈ks,q/g.n=i)->CI g x M (addF g 1 T ks bs p).1.f
 | [],D,p,a,_,_,_=>a
 | i::bs,D,p,a,A,hn,hb=>by
  obtain⟨h1,h2,h3⟩:=hb i List.mem_cons_self
  have a1:=ci_stepB kk Ad a A h2 h1 h3
  obtain⟨-,-,A1⟩:=stepB_all kk Ad a.ok A h2 h1 h3
  unfold addF
  rw[List.map_cons]
  by_cases e:(stepB g 1 T ks i p).2=0
  ·rw[seqF_cons e]
   have hnd:=List.nodup_cons.1 hn
   refine ci_addF kk Ad bs (i::D) _ a1 (A1 e) hnd.2 fun j hj=>?_
   obtain⟨h4,h5,h6⟩:=hb j (List.mem_cons_of_mem _ hj)
   exact⟨fun hh=>(List.mem_cons.1 hh).elim (fun e=>hnd.1 (e▸hj)) h4,h5,h6⟩
  ·rw[seqF_err e];exact a1
end
section
variable {g:Gm}{x:Hd}{M:List (Nat×Nat)}{p p':Fs}
theorem ci_asked(a:CI g x M p.f)(kk:g.ok){cl:List Int}{ks bs:List Nat}(Q:Asked g 1 cl p.f.now ks bs):CI g x M (addF g 1 (cntZ cl) ks bs p).1.f:=by
 refine ci_addF kk Q.ad bs [] p a (After.zero a.img) Q.bnd fun i hi=>?_
 obtain⟨k,hk,e⟩:=(Q.bmem i).1 hi
 exact⟨List.not_mem_nil,e▸Q.ad.lt k hk,k,hk,e⟩
theorem ci_AEnd{st nn:Nat}{e:Int}(a:CI g x M p.f)(kk:g.ok)(hr:st+nn<=g.room)(hf:(st+nn)*g.c<=268435456)(A:AEnd g st nn p p' e):CI g x M p'.f/\p'.steps<=p.steps+(nn*(5+g.c/512)+2)/\(e=0->CI g x (M++[(st,nn)]) p'.f):=by
 have hup:((st+nn)*g.c+g.c-1)/g.c*g.c<=268435456:=by rw[up_id kk];exact hf
 have a1:=ci_growF (n:=(st+nn)*g.c) a kk hup
 have S1:=growF_stp (g:=g) kk a.ok hup
 rcases A with ⟨h1,h2⟩|⟨ks,bs,h0,Q,h1⟩
 ·rw[h2]at a1 S1
  have:=S1.stp
  exact⟨a1,by dsimp only at this;omega,fun h=>absurd h h1⟩
 obtain⟨S2,-,A2⟩:=Q.all kk S1.ok a1.img
 have a2:=ci_asked a1 kk Q
 rw[runL_len]at S2
 have s1:=S1.stp
 have s2:=S2.stp
 rcases h1 with ⟨h1,h2⟩|⟨h1,rfl,h3⟩
 ·rw[h2]at a2 s2
  exact⟨a2,by dsimp only at s2;omega,fun h=>absurd h h1⟩
 obtain⟨D,hD,Af⟩:=A2 h1
 generalize (growF g ((st+nn)*g.c) p).1=p1 at *
 generalize (addF g 1 (cntZ (runL st nn)) ks bs p1).1=p2 at *
 have a3:CI g x M p2.flush.f:=ci_flS a2
 refine⟨a3,by show p2.steps+1<=_;omega,fun h=>?_⟩
 subst h
 have hps:p2.flush.f.ps=[]:=Fs.flush_ps h3.symm
 refine CI.all a3.ok a3.img (fun r hr' k hk=>?_) hps
 rcases List.mem_append.1 hr' with hr'|hr'
 ·exact a3.mine r hr' k hk
 ·rw[List.mem_singleton.1 hr']at hk
  obtain⟨k1,k2⟩:st<=k/\k<st+nn:=hk
  have hkm:k/g.n<g.m:=by
   have:k<g.room:=by omega
   rw[Nat.div_lt_iff_lt_mul (by have:=kk.n64;omega)];exact this
  refine⟨hkm,?_⟩
  rw[Fs.flush_now]
  have h1:=Af.cnt k hkm
  have hks:k∈ks:=(Q.mem k).2 (runL_mem.2 ⟨k1,k2⟩)
  rw[if_pos ((hD _).2 ((Q.bmem _).2 ⟨k,hks,rfl⟩)),if_pos hks,runL_cnt,if_pos ⟨k1,k2⟩]at h1
  omega
end
section
variable {K:VP}{h:Heap}
theorem openNil_c{l:List UInt8}(H:K (.tuple #[.pointer none,.int .i64 1]) h):CallsH Tryz.prog 9 #[.pointer none,str l] h K ⟨⟩:=by
 refine n9_calls ?_
 unfold n9;try delta vF vG vC vD vJ vV vk vt
 refine n33_calls ?_
 unfold n33;try delta vF vG vC vD vJ vV vk vt
 refine n38_calls ?_
 unfold n38;try delta vF vG vC vD vJ vV vk vt
 refine n80_calls ?_
 unfold n80;try delta vF vG vC vD vJ vV vk vt
 refine none_nil ?_
 simp(disch:=omega)
 exact H
def gK:Gm:=layG 9 4 1 1024
theorem gK_c:gK.c=512:=by decide
theorem gK_n:gK.n=256:=by decide
theorem gK_u:gK.u=4:=by decide
theorem gK_room:gK.room=16384:=by decide
theorem hK_may:MayH (layH 9 4 1 1024):=of_decide_eq_true kR
set_option maxHeartbeats 4000000 in
theorem known_c(H:∀h',Ext h h'->K (.bool true) h'):CallsH Tryz.prog 7 #[] h K ⟨⟩:=by
 refine n7_calls ?_
 unfold n7;try delta vF vG vC vD vJ vV vk vt
 simp(disch:=omega)
 rw[show (Value.agg #[.int .i64 9,.int .i64 4,.int .i64 1,.int .i64 1024])=imgV 9 4 1 1024 from rfl]
 refine made_c (fs:=[]) dM dM dM dM ⟨.inl ⟨rfl,rfl,rfl⟩,⟨none,0,rfl,Nat.le_refl _⟩,by decide,fun f hf=>by cases hf⟩ dM rfl (fun h1 e1 hno=>absurd hK_may (hno 9 4 1 rfl rfl rfl (by unfold LayOk;decide))) fun b o L h1 sp s hb ho hL _ kk hd e1 a1 f1 foot1=>?_
 obtain rfl:b=9:=by omega
 obtain rfl:o=4:=by omega
 obtain rfl:L=1:=by omega
 have hg:layG 9 4 1 1024=gK:=rfl
 rw[hg]at kk hd f1
 obtain⟨x,hx⟩:∃x,layH ((9:Nat)) ((4:Nat)) ((1:Nat)) 1024=x:=⟨_,rfl⟩
 rw[hx]at hd f1
 obtain⟨I,La⟩:=laid_img kk hd
 obtain⟨B,hB⟩:∃B,gK.laidB x=B:=⟨_,rfl⟩
 rw[hB]at I La f1
 have hfew:=I.few
 have hc:=gK_c
 have hn:=gK_n
 have hu:=gK_u
 have hroom:=gK_room
 have hlen:=La.len
 have hne:B≠[]:=fun e=>by rw[e,hc,hu]at hlen;cases hlen
 obtain⟨p,hp⟩:∃p:Fs,⟨(mdF B).f,[],3⟩=p:=⟨_,rfl⟩
 have pn:p.f.now=B:=by rw[<-hp];exact mdF_now hfew hne
 have pf:p.fates=[]:=by rw[<-hp]
 have ps:p.steps=3:=by rw[<-hp]
 rw[hp]at f1
 rw[<-pn]at I La
 simp(disch:=omega)
 rw[show str [97]=str nA from rfl]
 refine gOpen_c a1 f1 kk hd I fun h2 r e2 hr ra2=>?_
 simp(disch:=omega)
 refine gAlloc_c (nn:=2) ra2 I omg omg (by rw[hc,ps];decide) (fun h3 e3 hno=>?_) (fun h3 s3 p3 e st u3 f3 st1 st2 fr3 fit3 A3=>?_)
 ·exfalso
  have:=hno 4 omg omg (fun q h1 h2=>?_)
  ·omega
  ·have hq:=La.cnt q omg
   rw[if_neg omg]at hq
   exact⟨hq,fun hh=>by rw[Nat.div_eq_of_lt omg]at hh;exact I.w0 hh.1⟩
 obtain⟨rfl,C3,-,T3⟩:=took_of kk ra2.fok I pf st2 fr3 fit3 A3
 have ra3:=ra2.upd u3 f3
 have hdv:((st*gK.c:Nat):Int)/512=((st:Nat):Int):=by rw[hc];omega
 have hmd:((st*gK.c:Nat):Int)%512=0:=by rw[hc];omega
 have hpos:0<((st*gK.c:Nat):Int):=by rw[hc];omega
 have hun:=fun k h1 h2=>T3.unheld kk I fr3 st2 (k:=k) h1 h2
 obtain⟨P,hP⟩:∃P,((st*gK.c:Nat):Int)=P:=⟨_,rfl⟩
 have hPb:P<=268435456:=by rw[<-hP];omega
 rw[if_pos rfl]
 rw[hP]at hdv hmd hpos ⊢
 simp(disch:=omega)[hdv]
 refine gCount_c ra3 T3.img (fun h4 e4 hno=>absurd ⟨by omega,by omega⟩ hno) (fun h4 e4 _ _=>?_)
 rw[Int.toNat_natCast,T3.inn st omg omg]
 have ra4:=ra3.ext e4
 simp(disch:=omega)
 refine gFree_c (st:=st) (nn:=2) ra4 T3.img omg omg hP.symm omg (fun k h1 h2 hh=>absurd hh (hun k h1 h2)) (by have:=C3.stp;rw[hc]at *;omega) (fun h5 e5 hno=>?_) (fun h5 e5 _ hk=>?_) (fun h5 s5 ks bs Q u5 f5=>?_)
 ·exfalso
  refine hno fun k hk=>?_
  have:=runL_memI.1 hk
  omega
 ·exfalso
  obtain⟨k,h1,h2,h3⟩:=hk
  have:=T3.inn k h1 h2
  omega
 obtain⟨z5,C5,G5⟩:=gave_of kk ra4.fok T3.img C3.nil Q
 have ra5:=ra4.upd u5 f5
 rw[z5]
 obtain⟨p5,hp5⟩:∃p5,(addF gK (-1) (cntZ (runL st 2)) ks bs p3).1=p5:=⟨_,rfl⟩
 rw[hp5]at G5 C5 f5 ra5
 simp(disch:=omega)[hdv]
 refine gCount_c ra5 G5.img (fun h6 e6 hno=>absurd ⟨by omega,by omega⟩ hno) (fun h6 e6 _ _=>?_)
 have hst:st/gK.n<gK.m:=by
  have:st<gK.room:=by omega
  rw[Nat.div_lt_iff_lt_mul omg];exact this
 have h0:=G5.cnt st hst
 rw[if_pos ⟨Nat.le_refl _,by omega⟩,T3.inn st omg omg]at h0
 rw[Int.toNat_natCast,show gK.cnt p5.f.now st=0 by omega]
 simp(disch:=omega)
 refine openNil_c ?_
 simp(disch:=omega)[hpos,hmd]
 have z1:=e1.size
 have z2:=e2.size
 have z3:=u3.mod.size
 have z4:=e4.size
 have E3:Ext h h3:=u3.mod.ext_from (e1.trans e2) (fun b hb hs=>by have:=foot1 b hs;omega)
 have E5:Ext h h5:=u5.mod.ext_from (E3.trans e4) (fun b hb hs=>by have:=(u3.foot b hs).elim (foot1 b) (fun x=>by omega);omega)
 exact H _ (E5.trans e6)
end
section
variable {K:VP}{h:Heap}
def St.pend(s:St):Nat:=(s.F.map fun x=>x.f.ps.length).sum
theorem psOf_mem{p:Nat}{s:St}(a:StAt h p s){x:Fh}(hx:x∈s.F):s.get x.name=some x/\s.psOf x.name=x.f.ps:=by
 have hg:s.get x.name=some x:=by
  unfold St.get
  have nd:=a.nodup
  generalize s.F=F at hx nd
  induction F with
  | nil=>cases hx
  | cons y F ih =>
   rw[List.find?_cons]
   rw[List.map_cons,List.nodup_cons]at nd
   rcases List.mem_cons.1 hx with rfl|hx
   ·simp
   ·have:y.name≠x.name:=fun e=>nd.1 (e▸List.mem_map_of_mem hx)
    simp only[this,decide_false]
    exact ih hx nd.2
 refine⟨hg,?_⟩
 unfold St.psOf
 rw[if_pos (a.names x hx),hg]
end
end Go.Proofs.YtdccfkffabngjaaGreat

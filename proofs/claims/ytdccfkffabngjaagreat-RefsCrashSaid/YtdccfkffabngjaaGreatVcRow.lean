/- Rules for append,make,copy,clear,literals of slices,strings. -/
import Derived.Test.YtdccfkffabngjaaGreatVcSlice
namespace Go.Vc
open Go
set_option linter.unusedSimpArgs false
set_option linter.unusedVariables false
section
variable {P:Program}{q:Bool}{K:VP}{h:Heap}

theorem Hp_new{m:Sem Value}{X:Prop}(he:hp P false m K h=(false=false/\X)):Hp P false m K h ⟨⟩↔X:=by
 rw[Hp_iff,he];exact⟨fun x=>x.2,fun x=>⟨rfl,x⟩⟩

theorem Hp_newT{m:Sem Value}{X:Nat->Prop}(he:hp P false m K h=(false=false/\X h.size)):Hp P false m K h ⟨⟩↔ValT h.size X ⟨⟩:=(Hp_new he).trans ValT_iff.symm

theorem Seg_new{vs:List Value}{e:TypeId}{fz:Nat×Nat}{b:Nat}(hb:b=h.size):Seg (h.push (.cells vs.toArray e fz)) ⟨b,0,none⟩ vs:=by
 subst hb
 intro i hi
 rw[elt_mk,Nat.zero_add,hcell_of_block (c:=vs.toArray) (e:=e) (fz:=fz) sM]
 simp[hi]
theorem OwnS_new{vs:List Value}{e:TypeId}{s n b:Nat}(hb:b=h.size)(hv:vs.length=n*s):OwnS s (h.push (.cells vs.toArray e)) (.slice (some ⟨b,0,none⟩) n n) vs:=by
 subst hb
 exact .inr ⟨h.size,n,n,[],e,(0,0),rfl,hv,Nat.le_refl _,by simp,by simpa using hv,fun i _ hh=>by simp at hh⟩
theorem OwnS.seg{s:Nat}{vs:List Value}{b n c:Nat}(o:OwnS s h (.slice (some ⟨b,0,none⟩) n c) vs):vs.length=n*s/\n<=c/\Seg h ⟨b,0,none⟩ vs:=by
 rcases o with ⟨o,_⟩|⟨b',n',c',rest,e,fz,o,h1,h2,h3,h4,h5⟩
 ·cases o
 ·cases o
  refine⟨h1,h2,fun i hi=>?_⟩
  rw[elt_mk,Nat.zero_add,hcell_of_block h3]
  simp[List.getElem?_append_left hi,hi]
theorem OwnS.free{s:Nat}{vs:List Value}{b n c:Nat}(o:OwnS s h (.slice (some ⟨b,0,none⟩) n c) vs){i:Nat}(hi:i<c*s):hfrozen h (elt ⟨b,0,none⟩ i)=false:=by
 rcases o with ⟨o,_⟩|⟨b',n',c',rest,e,fz,o,h1,h2,h3,h4,h5⟩
 ·cases o
 ·cases o
  rw[elt_mk,Nat.zero_add,hfrozen_of_block h3]
  have:=h5 i hi
  simpa using this
theorem OwnS.nonnil{s:Nat}{v:Value}{vs:List Value}(o:OwnS s h v vs)(hv:vs≠[]):∃b n c,v = .slice (some ⟨b,0,none⟩) n c/\vs.length=n*s/\n<=c:=by
 rcases o with ⟨_,o⟩|⟨b',n',c',rest,e,fz,o,h1,h2,h3,h4,h5⟩
 ·exact absurd o hv
 ·exact⟨_,_,_,o,h1,h2⟩
theorem OwnS.bytes{v:Value}{l:List UInt8}(o:OwnS 1 h v (l.map byteV)):Bytes h v l:=by
 rcases o with ⟨o,ho⟩|⟨b',n',c',rest,e,fz,o,h1,h2,h3,h4,h5⟩
 ·exact .inl ⟨o,by simpa using ho⟩
 ·have hl:n'=l.length:=by simpa using h1.symm
  subst hl
  subst o
  have ho:OwnS 1 h (.slice (Option.some ⟨b',0,none⟩) l.length c') (l.map byteV):=.inr ⟨b',l.length,c',rest,e,fz,rfl,h1,h2,h3,h4,h5⟩
  have:=ho.seg
  exact .inr ⟨_,_,rfl,h2,At_seg.2 this.2.2⟩
theorem OwnS.write{s:Nat}{vs new:List Value}{b n c k:Nat}(o:OwnS s h (.slice (some ⟨b,0,none⟩) n c) vs)(hk:k+new.length<=vs.length):OwnS s (hwrite h ⟨b,0,none⟩ k new) (.slice (some ⟨b,0,none⟩) n c) (over vs k new):=by
 rcases o with ⟨o,_⟩|⟨b',n',c',rest,e,fz,o,h1,h2,h3,h4,h5⟩
 ·cases o
 ·cases o
  refine .inr ⟨b,n,c,rest,e,fz,rfl,by rw[over_length hk];exact h1,h2,?_,?_,h5⟩
  ·rw[hwrite_of_block new h k (vs++rest) h3 (by simp;omega)]
   congr 3
   apply List.ext_getElem?
   intro i
   rw[over_get? (by simp;omega),List.getElem?_append,List.getElem?_append,over_length hk,over_get? hk]
   by_cases h6:i<vs.length
   ·simp[h6]
   ·simp[h6]
    intro h7 h8;omega
  ·simp only[List.length_append]at h4 ⊢
   rw[over_length hk];exact h4

def Src(s:Nat)(h:Heap)(x:Value)(k:Nat)(news:List Value):Prop :=
 (x = .slice none 0 0/\news=[]/\k=0)\/(∃a c,x = .slice (some a) k c/\news.length=k*s/\Seg h a news)\/(∃l:List UInt8,x=str l/\s=1/\k=l.length/\news=l.map byteV)

theorem Src.len{s:Nat}{x:Value}{k:Nat}{news:List Value}(x1:Src s h x k news):news.length=k*s:=by
 rcases x1 with ⟨_,rfl,rfl⟩|⟨_,_,_,h1,_⟩|⟨l,_,rfl,rfl,rfl⟩
 ·simp
 ·exact h1
 ·simp
theorem Src.of_bytes{v:Value}{l:List UInt8}(b:Bytes h v l):Src 1 h v l.length (l.map byteV):=by
 rcases b with ⟨rfl,rfl⟩|⟨a,c,rfl,_,h3⟩
 ·exact .inl ⟨rfl,rfl,rfl⟩
 ·exact .inr (.inl ⟨a,c,rfl,by simp,At_seg.1 h3⟩)
theorem Src.str{l:List UInt8}:Src 1 h (str l) l.length (l.map byteV):=.inr (.inr ⟨l,rfl,rfl,rfl,rfl⟩)
theorem Src.ext{s:Nat}{h':Heap}{x:Value}{k:Nat}{news:List Value}(x1:Src s h x k news)(e:Ext h h'):Src s h' x k news:=by
 rcases x1 with x1|⟨a,c,h1,h2,h3⟩|x1
 ·exact .inl x1
 ·exact .inr (.inl ⟨a,c,h1,h2,h3.ext e⟩)
 ·exact .inr (.inr x1)

theorem hp_loadCells_seg{a:Addr}{vs:List Value}{K:Array Value->Heap->Prop}(hc:Seg h a vs):hp P q (loadCells a vs.length) K h↔K vs.toArray h:=by
 unfold loadCells
 rw[hp_loadCells,loadsP_of vs 0 _ (fun j hj=>by rw[Nat.zero_add];exact hc j hj)]
 simp

theorem hp_lenOf{s:Nat}{x:Value}{k:Nat}{news:List Value}{K:Nat->Heap->Prop}(x1:Src s h x k news):hp P q (Builtin.lenOf x) K h↔K k h:=by
 rcases x1 with ⟨rfl,_,rfl⟩|⟨a,c,rfl,_,_⟩|⟨l,rfl,_,rfl,_⟩<;>exact Iff.rfl

theorem map_str(l:List UInt8)(n:Nat):((ByteArray.mk ⟨l⟩).extract 0 n).data.map (fun b=>Value.int .u8 b.toNat)=((l.take n).map byteV).toArray:=by
 apply Array.ext'
 simp[ByteArray.data_extract,List.extract_eq_take_drop]
 rfl

theorem hp_firstCells{s:Nat}{x:Value}{k:Nat}{news:List Value}{K:Array Value->Heap->Prop}(x1:Src s h x k news){n:Nat}(hn:n<=k):hp P q (Builtin.firstCells s n x) K h↔K (news.take (n*s)).toArray h:=by
 rcases x1 with ⟨rfl,rfl,rfl⟩|⟨a,c,rfl,hl,hs⟩|⟨l,rfl,rfl,rfl,rfl⟩
 ·simp only[List.take_nil];exact Iff.rfl
 ·show hp P q (loadCells a (n*s)) K h↔_
  have hle:n*s<=news.length:=by rw[hl];exact Nat.mul_le_mul_right _ hn
  have hs':Seg h a (news.take (n*s)):=fun i hi=>by
   have hi':i<news.length:=by simp only[List.length_take]at hi;omega
   rw[hs i hi'];simp
  have:=hp_loadCells_seg (P:=P) (q:=q) (K:=K) hs'
  simp only[List.length_take,Nat.min_eq_left hle]at this
  exact this
 ·show hp P q (pure (((ByteArray.mk ⟨l⟩).extract 0 n).data.map fun b=>Value.int .u8 b.toNat)) K h↔_
  rw[hp_pure,map_str,Nat.mul_one,List.map_take]

theorem growBy_le(N:Nat):∀(r c:Nat),c<=N->Builtin.growBy N r c<=N+N/4+192
 | 0,c,hc=>by simp only[Builtin.growBy];omega
 | r+1,c,hc=>by
  unfold Builtin.growBy
  split
  ·omega
  ·rename_i h1
   by_cases h2:c+(c+768)/4<=N
   ·exact growBy_le N r _ h2
   ·cases r with
    | zero=>simp only[Builtin.growBy];omega
    | succ r =>
     unfold Builtin.growBy
     rw[if_pos omg];omega
theorem nextcap_le{N c:Nat}(hc:c<N):Builtin.nextslicecap N c<=2*N+1024:=by
 unfold Builtin.nextslicecap
 split
 ·omega
 ·split
  ·omega
  ·have:=growBy_le N 4 c omg;omega

def slT(P:Program)(t:TypeId)(e s by_:Nat):Bool:=match P.underlying t with
 | some (.slice e')=>Nat.beq e' e&&match P.info? e with
  | some i=>Nat.beq i.size s&&Nat.beq i.bytes by_&&match i.zero with
   | some z=>Nat.beq z.cells.size s
   | none=>false
  | none=>false
 | _=>false
theorem slT_spec{t e s by_:Nat}(ht:slT P t e s by_=true):∃i z,P.underlying t=some (.slice e)/\P.info? e=some i/\i.size=s/\i.bytes=by_/\i.zero=some z/\z.cells.size=s:=by
 unfold slT at ht
 split at ht
 ·rename_i e' he
  simp only[Bool.and_eq_true]at ht
  obtain⟨h1,h2⟩:=ht
  have:=Nat.eq_of_beq_eq_true h1
  subst this
  cases hi:P.info? e' with
  | none=>rw[hi]at h2;cases h2
  | some i =>
   rw[hi]at h2
   simp only[Bool.and_eq_true]at h2
   obtain⟨⟨h3,h4⟩,h5⟩:=h2
   cases hz:i.zero with
   | none=>rw[hz]at h5;cases h5
   | some z=>rw[hz]at h5;exact⟨i,z,he,rfl,Nat.eq_of_beq_eq_true h3,Nat.eq_of_beq_eq_true h4,hz,Nat.eq_of_beq_eq_true h5⟩
 ·cases ht
def notInt(P:Program)(t:TypeId):Bool:=match P.underlying t with
 | some (.int _)=>false
 | some _=>true
 | none=>false

theorem choose_cap{need c e:Nat}(hn:need<2^63){K:Nat->Heap->Prop}(H:∀n,need<=n->K n h):hp P false (choose (.appendCap need c e)) K h:=by
 show hp P false (.choose (.appendCap need c e) .pure) K h
 simp only[hp,Question.forced,Bool.false_eq_true,if_false]
 refine⟨trivial,fun t=>H _ ?_⟩
 simp[Question.cut]
theorem hp_askRoom{n:Nat}{K:Unit->Heap->Prop}:hp P q (askRoom n) K h↔K () h:=by
 unfold askRoom;split<;>exact Iff.rfl
theorem hp_zeroValue{t:TypeId}{i:TypeInfo}{z:Value}{K:VP}(hi:P.info? t=some i)(hz:i.zero=some z):hp P q (zeroValue t) K h↔K z h:=by
 unfold zeroValue
 rw[hp_bind',hp_info hi]
 simp only[hz];exact Iff.rfl
theorem hp_newRow{e:TypeId}{c:Array Value}{K:Addr->Heap->Prop}(H:K ⟨h.size,0,none⟩ (h.push (.cells c e))):hp P false (newRow e c) K h:=by
 show _/\_;exact⟨rfl,H⟩

theorem zeroCells_size(z:Array Value)(n:Nat):(Builtin.zeroCells z n).size=n*z.size:=by simp[Builtin.zeroCells]

theorem hp_storeCells_own{b:Nat}{cells:List Value}{e:TypeId}{fz:Nat×Nat}{new:List Value}{k:Nat}{K:Unit->Heap->Prop}(hb:h[b]? = some (.cells cells.toArray e fz))(hf:∀i,i<cells.length->¬(fz.1<=i/\i<fz.2))
 (hk:k+new.length<=cells.length) (ho:∀v∈new,one v=true) (H:K () (hwrite h ⟨b,0,none⟩ k new)):hp P false (storeCells ((⟨b,0,none⟩:Addr).add k) new) K h:=by
 have e0:(⟨b,0,none⟩:Addr).add k=elt ⟨b,0,none⟩ k:=rfl
 rw[e0,hp_storeCells new 0 K h ho]
 have key:=storesP_write (a:=elt ⟨b,0,none⟩ k) new 0 h (K ()) (fun i hi=>by
  rw[elt_elt,elt_mk,hcell_of_block hb]
  have:k+i<cells.length:=by omega
  simp[this]) (fun i hi=>by
  rw[elt_elt,elt_mk,hfrozen_of_block hb]
  have:=hf (0+(k+(0+i))) omg
  simpa using this)
 have e1:∀(new:List Value) (h:Heap) (j:Nat),hwrite h (elt ⟨b,0,none⟩ k) j new=hwrite h ⟨b,0,none⟩ (k+j) new:=by
  intro new
  induction new with
  | nil=>intro h j;rfl
  | cons v vs ih=>intro h j;rw[hwrite,hwrite,elt_elt,ih,Nat.add_assoc]
 rw[e1,Nat.add_zero]at key
 exact key H

theorem Hp_append{t t2 e s by_ n k:Nat}{v x:Value}{vs news:List Value}(ht:slT P t e s by_=true)(ht2:notInt P t2=true)(ho:OwnS s h v vs)(hn:vs.length=n*s)(hs:0<s)(hx:Src s h x k news)(hone:∀u∈news,one u=true)
 (hB:(2*(n+k)+1024)*by_<=281474976710656) (hb0:0<by_)
 (H:∀v' h',OwnS s h' v' (vs++news)->Mod (fun b=>blkV v=some b) h h'->(∀b,blkV v'=some b->blkV v=some b\/h.size<=b)->(news≠[]->∃b c,v' = .slice (some ⟨b,0,none⟩) (n+k) c)->K v' h') :
 Hp P false (Builtin.append_ #[t,t2] t #[v,x]) K h ⟨⟩:=by
 obtain⟨i,z,hu,hi,hsz,hby,hz,hzs⟩:=slT_spec ht
 rw[Hp_iff]
 have hnl:=hx.len
 obtain⟨base,c,hv,hown⟩:∃base c,v = .slice base n c/\(base=none/\vs=[]/\n=0/\c=0\/∃b rest e' fz,base=some ⟨b,0,none⟩/\n<=c/\h[b]? = some (.cells (vs++rest).toArray e' fz)/\(vs++rest).length=c*s/\∀i,i<c*s->¬(fz.1<=i/\i<fz.2)):=by
  rcases ho with ⟨rfl,rfl⟩|⟨b,n',c,rest,e',fz,rfl,h1,h2,h3,h4,h5⟩
  ·have:n=0:=by
    rcases Nat.eq_zero_or_pos n with h|h
    ·exact h
    ·have:=Nat.mul_pos h hs;simp at hn;omega
   subst this
   exact⟨none,0,rfl,.inl ⟨rfl,rfl,rfl,rfl⟩⟩
  ·have:n'=n:=Nat.eq_of_mul_eq_mul_right hs (h1.symm.trans hn)
   subst this
   exact⟨_,c,rfl,.inr ⟨b,rest,e',fz,rfl,h2,h3,h4,h5⟩⟩
 subst hv
 have hz2:∀(K:TypeDesc->Heap->Prop),∃d,(hp P false (underlying t2) K h↔K d h)/\∀k,d ≠ .int k:=by
  intro K
  unfold notInt at ht2
  cases hu2:P.underlying t2 with
  | none=>rw[hu2]at ht2;cases ht2
  | some d =>
   rw[hu2]at ht2
   exact⟨d,hp_underlying hu2,fun k e=>by rw[e]at ht2;cases ht2⟩
 unfold Builtin.append_
 simp only[List.getElem?_toArray,List.getElem?_cons_succ,List.getElem?_cons_zero,List.getElem_toArray,List.getElem_cons_succ,List.getElem_cons_zero]
 rw[hp_bind',hp_underlying hu]
 simp only
 rw[hp_bind',hp_sizeOf hi]
 rw[hp_bind']
 obtain⟨d,hd,hnd⟩:=hz2 _
 rw[hd]
 split
 ·exact absurd rfl (hnd _)
 simp only[pure_bind,Bool.false_eq_true,if_false,Bool.not_false,if_true,false_or]
 rw[hp_bind',hp_lenOf hx]
 by_cases hcap:n+k<=c
 ·rw[if_pos hcap]
  rw[hp_bind',hsz,hp_firstCells hx (Nat.le_refl _),<-hnl,List.take_length]
  rcases hown with ⟨rfl,rfl,rfl,rfl⟩|⟨b,rest,e',fz,rfl,h2,h3,h4,h5⟩
  ·have hk0:k=0:=by omega
   subst hk0
   have hnews:news=[]:=by simpa using hnl
   subst hnews
   exact H _ h (.inl ⟨rfl,rfl⟩) (.refl _ _) (fun b hb=>by cases hb) (fun hh=>absurd rfl hh)
  ·simp only
   rw[hp_bind']
   have hlen:vs.length+news.length<=(vs++rest).length:=by
    rw[h4,hn,hnl,<-Nat.add_mul];exact Nat.mul_le_mul_right _ hcap
   have hrest:news.length<=rest.length:=by simp at hlen;omega
   rw[<-hn]
   refine hp_storeCells_own h3 (by rw[h4];exact h5) hlen (by simpa using hone) ?_
   refine H _ _ (.inr ⟨b,n+k,c,rest.drop news.length,e',fz,rfl,by simp[hn,hnl,Nat.add_mul],hcap,?_,?_,h5⟩) ((Mod.write _ news h vs.length).mono (fun _ _ e=>by rw[e];rfl)) (fun b' hb'=>.inl hb') (fun _=>⟨b,c,rfl⟩)
   ·rw[hwrite_of_block news h vs.length (vs++rest) h3 hlen]
    congr 3
    unfold over
    rw[List.take_append_of_le_length (Nat.le_refl _),List.take_length,List.drop_append,List.drop_eq_nil_of_le (Nat.le_add_right _ _),List.nil_append,Nat.add_sub_cancel_left]
   ·simp only[List.length_append,List.length_drop];rw[<-h4];simp;omega
 ·rw[if_neg hcap]
  have hlt:c<n+k:=by omega
  have hcapb:=nextcap_le hlt
  have hNB:Builtin.nextslicecap (n+k) c*by_<=281474976710656:=Nat.le_trans (Nat.mul_le_mul_right _ hcapb) hB
  have hsmall:n+k<140737488355328:=by
   have h1:(2*(n+k)+1024)*1<=(2*(n+k)+1024)*by_:=Nat.mul_le_mul_left _ hb0
   omega
  rw[hp_bind',hp_info hi]
  rw[if_neg (by rw[hby];rintro⟨_,h0⟩;omega)]
  rw[hp_bind',hp_info hi]
  rw [if_neg (by rw [hby]; have:(2:Nat)^48=281474976710656:=by decide
                 omega)]
  rw[hp_bind']
  refine choose_cap (by have:(2:Nat)^63=9223372036854775808:=by decide
                        omega) fun nc hnc=>?_
  rw[hp_bind',hp_info hi,hp_bind',hp_askRoom]
  have hsrc:Src s h (.slice base n c) n vs:=by
   rcases hown with ⟨rfl,rfl,rfl,rfl⟩|⟨b,rest,e',fz,rfl,h2,h3,h4,h5⟩
   ·exact .inl ⟨rfl,rfl,rfl⟩
   ·exact .inr (.inl ⟨_,_,rfl,hn,ho.seg.2.2⟩)
  rw[hp_bind',hsz,hp_firstCells hsrc (Nat.le_refl _),<-hn,List.take_length]
  rw[hp_bind',hp_firstCells hx (Nat.le_refl _),<-hnl,List.take_length]
  rw[hp_bind',hp_zeroValue hi hz,hp_bind']
  refine hp_newRow ?_
  have hrl:(Builtin.zeroCells z.cells (nc-(n+k))).toList.length=(nc-(n+k))*s:=by
   rw[Array.length_toList,zeroCells_size,hzs]
  have hcells:vs.toArray++news.toArray++Builtin.zeroCells z.cells (nc-(n+k))=((vs++news)++(Builtin.zeroCells z.cells (nc-(n+k))).toList).toArray:=by
   apply Array.ext';simp
  rw[hcells]
  refine H _ _ (.inr ⟨h.size,n+k,nc,(Builtin.zeroCells z.cells (nc-(n+k))).toList,e,(0,0),rfl,by simp[hn,hnl,Nat.add_mul],hnc,by simp,?_,fun i _ hh=>by simp at hh⟩)
   (.push _ _ _) (fun b hb=>.inr (by cases hb;exact Nat.le_refl _)) (fun _=>⟨_,_,rfl⟩)
  rw[List.length_append,hrl,List.length_append,hn,hnl,<-Nat.add_mul,<-Nat.add_mul]
  congr 1;omega

def isInt(P:Program)(t:TypeId):Bool:=match P.underlying t with
 | some (.int _)=>true
 | _=>false

theorem Hp_make{t e s by_:Nat}{n c:Int}{z:Value}(ht:slT P t e s by_=true)(hz:zeroOf P e=some z)(hs:s=1)(hone:one z=true)(n0:0<=n)(nc:n<=c)(hc:c*by_<=281474976710656)(hc63:c<9223372036854775808)
 : Hp P false (Instr.makeSlice t (.int .i64 n) (.int .i64 c)) K h ⟨⟩↔ValT n.toNat (fun n=>ValT c.toNat (fun c=>K (.slice (some ⟨h.size,0,none⟩) n c) (h.push (.cells (List.replicate c z).toArray e))) ⟨⟩) ⟨⟩:=by
 obtain⟨i,z',hu,hi,hsz,hby,hz',hzs⟩:=slT_spec ht
 have hzz:z'=z:=by
  unfold zeroOf at hz
  rw[hi]at hz
  simp only at hz
  rw[hz']at hz;cases hz;rfl
 subst hzz
 subst hs
 rw[Hp_iff,ValT_iff,ValT_iff]
 unfold Instr.makeSlice
 rw[hp_bind',hp_underlying hu]
 simp only
 rw[hp_bind',hp_asInt,hp_bind',hp_asInt,hp_bind',hp_info hi,hby]
 rw[wrap_i64 omg omg,wrap_i64 omg omg]
 have e1:(2:Int)^48=281474976710656:=by decide
 have hcb:by_*c<=281474976710656:=by rw[Int.mul_comm];exact hc
 have ec:(decide (c<0) || decide ((by_:Int)*c>2^48))=false:=by
  rw[e1]
  simp only[Bool.or_eq_false_iff,decide_eq_false_iff_not]
  omega
 rw[if_neg (by rw[ec];simp;omega)]
 rw[hp_bind',hp_askRoom,hp_bind',hp_sizeOf hi,hsz]
 have hcs:z'.cells = #[z']:=by cases z'<;>first|rfl|cases hone
 have fin:∀(zero:Array Value),((Array.range (c.toNat*1)).map fun x=>zero[x%zero.size]!)=(List.replicate c.toNat z').toArray ->
  (hp P false (do let a <-newRow e ((Array.range (c.toNat*1)).map fun x=>zero[x%zero.size]!);pure (.slice (some a) n.toNat c.toNat)) K h↔K (.slice (some ⟨h.size,0,none⟩) n.toNat c.toNat) (h.push (.cells (List.replicate c.toNat z').toArray e))):=by
  intro zero he
  rw[he,hp_bind']
  show (_=_/\K _ _)↔_
  simp
 split
 ·rename_i h0
  rw[pure_bind]
  refine fin #[] ?_
  have:c.toNat=0:=by omega
  rw[this];simp
 ·rw[hp_bind',hp_zeroValue hi hz',pure_bind,hcs]
  refine fin #[z'] ?_
  apply Array.ext
  ·simp
  ·intro j h1 h2
   simp
   rw[Nat.mod_one];rfl

theorem Hp_copy{t t2 n k c:Nat}{a:Addr}{x:Value}{news:List Value}(ht:slS P t 1=true)(hx:Src 1 h x k news)(hone:∀u∈news,one u=true)
 (hc:∀i,i<n->(hcell h (elt a i)).isSome=true) (hf:∀i,i<n->hfrozen h (elt a i)=false) (H:K (.int .i64 (min k n:Nat)) (hwrite h a 0 (news.take n))) :
 Hp P false (Builtin.copy_ #[t,t2] 3 #[.slice (some a) n c,x]) K h ⟨⟩:=by
 obtain⟨e,i,hu,hi,hsz⟩:=slS_spec ht
 have hnl:=hx.len
 rw[Nat.mul_one]at hnl
 rw[Hp_iff]
 unfold Builtin.copy_
 simp only[List.getElem?_toArray,List.getElem?_cons_succ,List.getElem?_cons_zero]
 rw[hp_bind',hp_underlying hu]
 simp only
 rw[hp_bind',hp_lenOf hx,hp_bind',hp_sizeOf hi,hsz,hp_bind',hp_firstCells hx (Nat.min_le_left _ _),Nat.mul_one,hp_bind']
 have ht:news.take (k.min n)=news.take n:=by
  rw[<-hnl]
  rcases Nat.le_total news.length n with h1|h1
  ·rw[List.take_of_length_le h1,show news.length.min n=news.length from Nat.min_eq_left h1,List.take_length]
  ·rw[show news.length.min n=n from Nat.min_eq_right h1]
 rw[ht,hp_storeCells _ 0 _ h (fun v hv=>hone v (List.mem_of_mem_take (by simpa using hv)))]
 refine storesP_write _ 0 h _ (fun i hi=>?_) (fun i hi=>?_) H
 ·rw[Nat.zero_add];exact hc i (by simp at hi;omega)
 ·rw[Nat.zero_add];exact hf i (by simp at hi;omega)

theorem Hp_clear{t n c e by_:Nat}{a:Addr}{z:Value}(ht:slT P t e 1 by_=true)(hz:zeroOf P e=some z)(hone:one z=true)
 (hc:∀i,i<n->(hcell h (elt a i)).isSome=true) (hf:∀i,i<n->hfrozen h (elt a i)=false) (H:K (.tuple #[]) (hwrite h a 0 (List.replicate n z))) {t':Nat} :
 Hp P false (Builtin.clear_ #[t] t' #[.slice (some a) n c]) K h ⟨⟩:=by
 obtain⟨i,z',hu,hi,hsz,hby,hz',hzs⟩:=slT_spec ht
 have hzz:z'=z:=by
  unfold zeroOf at hz
  rw[hi]at hz
  simp only at hz
  rw[hz']at hz;cases hz;rfl
 subst hzz
 have hcs:z'.cells = #[z']:=by cases z'<;>first|rfl|cases hone
 have ez:(Builtin.zeroCells z'.cells n).toList=List.replicate n z':=by
  rw[hcs]
  apply List.ext_getElem
  ·simp[Builtin.zeroCells]
  ·intro j h1 h2
   simp[Builtin.zeroCells,Nat.mod_one]
 rw[Hp_iff]
 unfold Builtin.clear_
 simp only[List.getElem?_toArray,List.getElem?_cons_zero]
 rw[hp_bind',hp_underlying hu]
 cases n with
 | zero=>exact H
 | succ n =>
  simp only
  rw[hp_bind',hp_zeroValue hi hz',ez,hp_bind',hp_storeCells _ 0 _ h (fun v hv=>by simp at hv;rw[hv];exact hone)]
  refine storesP_write _ 0 h _ (fun i hi=>?_) (fun i hi=>?_) H
  ·rw[Nat.zero_add];exact hc i (by simpa using hi)
  ·rw[Nat.zero_add];exact hf i (by simpa using hi)

/-! ### Strings -/

theorem toList_str(l:List UInt8):(ByteArray.mk ⟨l⟩).toList=l:=by rw[ByteArray.toList_eq]

theorem Hp_binStr{op:BinOp}{t:TypeId}{x y:Operand}{l m:List UInt8}:Hp P q (binS op t x y (str l) (str m)) K h ⟨⟩↔hp P q (Op.stringOp op ⟨⟨l⟩⟩ ⟨⟨m⟩⟩) K h:=by
 rw[Hp_iff]
 unfold binS eqGuard str
 cases op<;>exact Iff.rfl
@[simp] theorem Hp_eqlStr{t:TypeId}{x y:Operand}{l m:List UInt8}:Hp P q (binS .eql t x y (str l) (str m)) K h ⟨⟩↔Split (l=m) (K (.bool true) h) (K (.bool false) h) ⟨⟩ ⟨⟩:=by
 rw[Hp_binStr]
 unfold Op.stringOp
 rw[toList_str,toList_str]
 show K (.bool (l==m)) h↔_
 by_cases e:l=m
 ·simp[e]
 ·rw[show (l==m)=false from beq_false_of_ne e,Split_no e]
@[simp] theorem Hp_neqStr{t:TypeId}{x y:Operand}{l m:List UInt8}:Hp P q (binS .neq t x y (str l) (str m)) K h ⟨⟩↔Split (l=m) (K (.bool false) h) (K (.bool true) h) ⟨⟩ ⟨⟩:=by
 rw[Hp_binStr]
 unfold Op.stringOp
 rw[toList_str,toList_str]
 show K (.bool !(l==m)) h↔_
 by_cases e:l=m
 ·simp[e]
 ·rw[show (l==m)=false from beq_false_of_ne e,Split_no e];rfl
theorem Hp_lssStr{t:TypeId}{x y:Operand}{l m:List UInt8}:Hp P q (binS .lss t x y (str l) (str m)) K h ⟨⟩↔K (.bool (Op.bytesLess l m)) h:=by
 rw[Hp_binStr]
 unfold Op.stringOp
 rw[toList_str,toList_str]
 exact Iff.rfl
theorem Hp_strBytes{s t e:TypeId}{l:List UInt8}(hs:P.underlying s=some .string)(ht:P.underlying t=some (.slice e))(he:P.underlying e=some (.int .u8))(hl:l.length<9223372036854775808)
 (H:∀v' h',OwnS 1 h' v' (l.map byteV)->Ext h h'->(∀b,blkV v'=some b->h.size<=b)->(∃b c,v' = .slice (some ⟨b,0,none⟩) l.length c/\b=h.size/\h'.size=h.size+1)->K v' h'):Hp P false (convert s t (str l)) K h ⟨⟩:=by
 rw[Hp_iff]
 unfold convert str
 rw[hp_bind',hp_underlying hs,hp_bind',hp_underlying ht]
 simp only
 rw[hp_bind',hp_underlying he]
 simp only
 unfold Conv.stringToBytes
 rw[hp_bind']
 refine choose_cap (by rw[size_str];exact hl) fun nc hnc=>?_
 rw[size_str]at hnc
 rw[hp_bind']
 refine hp_newRow ?_
 rw[hp_bind']
 have hcells:(ByteArray.mk ⟨l⟩).data.map (fun b=>Value.int .u8 b.toNat)++Array.replicate (nc-(ByteArray.mk ⟨l⟩).size) (Value.int .u8 0)=(l.map byteV++List.replicate (nc-l.length) (Value.int .u8 0)).toArray:=by
  rw[size_str]
  apply Array.ext'
  simp
  exact fun _ _=>rfl
 rw[hcells]
 unfold markStringish
 rw[hp_bind']
 show _/\_
 refine⟨rfl,?_⟩
 have hsh:hshape (h.push (.cells (l.map byteV++List.replicate (nc-l.length) (Value.int .u8 0)).toArray e)) h.size=some (e,nc):=by
  unfold hshape
  simp
  omega
 simp only[hsh]
 show _/\_
 refine⟨rfl,?_⟩
 have hfz:hfreeze (h.push (.cells (l.map byteV++List.replicate (nc-l.length) (Value.int .u8 0)).toArray e)) ⟨h.size,nc,none⟩ 1=h.push (.cells (l.map byteV++List.replicate (nc-l.length) (Value.int .u8 0)).toArray e (nc,nc+1)):=by
  unfold hfreeze
  apply Array.ext_getElem?
  intro j
  rw[if_neg dM,Array.getElem?_modify,Array.getElem?_push,Array.getElem?_push]
  by_cases e:j=h.size
  ·subst e;simp
  ·simp[e,Ne.symm e]
 show K _ (hfreeze _ ⟨h.size,nc,none⟩ 1)
 rw[hfz]
 refine H _ _ (.inr ⟨h.size,l.length,nc,List.replicate (nc-l.length) (Value.int .u8 0),e,(nc,nc+1),rfl,by simp,hnc,by simp,by simp;omega,fun i hi hh=>by simp at hh hi;omega⟩)
  (push_ext (.refl _)) (fun b hb=>by cases hb;exact Nat.le_refl _) ⟨_,_,rfl,rfl,by simp⟩

/-! ### The forms that 'simp' takes -/

def strT(P:Program)(t:TypeId):Bool:=match P.underlying t with
 | some .string=>true
 | _=>false
theorem strT_spec{t:TypeId}(ht:strT P t=true):P.underlying t=some .string:=by
 unfold strT at ht
 split at ht
 ·assumption
 ·cases ht

theorem Hp_slcLN{t:TypeId}{a:Addr}{len cap:Nat}{k:IntKind}{lo:Int}(ht:slS P t 1=true)(h0:0<=lo)(h1:lo<=len)(hc:len<=cap) :
 Hp P q (Instr.sliceAt t (.slice (some a) len cap) (some (.int k lo)) none none) K h ⟨⟩↔ValT lo.toNat (fun l=>K (.slice (some (sub a l cap)) (len-l) (cap-l)) h) ⟨⟩:=by
 rw[Hp_slice1 ht rfl rfl (by simpa[lowOf]using h0) (by simpa[lowOf,highOf]using h1) (by simp[highOf];omega)]
 simp[lowOf,highOf]
theorem Hp_slcNH{t:TypeId}{a:Addr}{len cap:Nat}{k:IntKind}{hi:Int}(ht:slS P t 1=true)(h1:0<=hi)(h2:hi<=cap) :
 Hp P q (Instr.sliceAt t (.slice (some a) len cap) none (some (.int k hi)) none) K h ⟨⟩↔ValT hi.toNat (fun r=>K (.slice (some a) r cap) h) ⟨⟩:=by
 rw[Hp_slice1 ht rfl rfl (by simp[lowOf]) (by simpa[lowOf,highOf]using h1) (by simpa[highOf]using h2)]
 simp[lowOf,highOf]
theorem Hp_slcLH{t:TypeId}{a:Addr}{len cap:Nat}{k k':IntKind}{lo hi:Int}(ht:slS P t 1=true)(h0:0<=lo)(h1:lo<=hi)(h2:hi<=cap) :
 Hp P q (Instr.sliceAt t (.slice (some a) len cap) (some (.int k lo)) (some (.int k' hi)) none) K h ⟨⟩↔ValT lo.toNat (fun l=>ValT hi.toNat (fun r=>K (.slice (some (sub a l cap)) (r-l) (cap-l)) h) ⟨⟩) ⟨⟩:=by
 rw[Hp_slice1 ht rfl rfl (by simpa[lowOf]using h0) (by simpa[lowOf,highOf]using h1) (by simpa[highOf]using h2)]
 simp[lowOf,highOf]
theorem Hp_ixStr{t:TypeId}{l:List UInt8}{k:IntKind}{n:Int}(ht:strT P t=true)(n0:0<=n)(n1:n<l.length) :
 Hp P q (Instr.index t (str l) (.int k n)) K h ⟨⟩↔ValT n.toNat (fun j=>K (byteV (l.getD j 0)) h) ⟨⟩:=by
 have hn:n.toNat<l.length:=by omega
 rw[Hp_indexStr (b:=l.getD n.toNat 0) (strT_spec ht) n0 (by simp[hn]),ValT_iff]
def arrT(P:Program)(t len e:Nat):Bool:=match P.underlying t with
 | some (.array n e')=>Nat.beq n len&&Nat.beq e' e&&match P.info? e with
  | some i=>Nat.beq i.size 1
  | none=>false
 | _=>false
theorem Hp_convB{s t:TypeId}{k':IntKind}{b:UInt8}{d:TypeDesc}(ht:P.underlying t=some (.int k'))(hs:P.underlying s=some d)(hk:k' ≠ .i8):Hp P q (convert s t (byteV b)) K h ⟨⟩↔K (.int k' b.toNat) h:=by
 unfold byteV
 rw[Hp_convInt ht hs,ValI_iff]
 have hb:=b.toNat_lt
 have:k'.wrap (b.toNat:Int)=b.toNat:=by
  have hb':((b.toNat:Nat):Int)<256:=by omega
  have h0:0<=((b.toNat:Nat):Int):=by omega
  generalize ((b.toNat:Nat):Int)=n at *
  cases k'<;>first|exact absurd rfl hk|skip
  all_goals simp only[IntKind.wrap,IntKind.signed,IntKind.bits]
  all_goals simp only[Bool.false_eq_true,false_and,true_and,if_false,Nat.reducePow,Int.reducePow,Nat.reduceSub,Bool.true_and,Bool.false_and]
  all_goals first
   | omega
   | (rw[if_neg (by simp;omega)];omega)
 rw[this]
@[simp] theorem Hp_eqlB{t:TypeId}{x y:Operand}{b:UInt8}{n:Int}:Hp P q (binS .eql t x y (byteV b) (.int .u8 n)) K h ⟨⟩↔Split ((b.toNat:Int)=n) (K (.bool true) h) (K (.bool false) h) ⟨⟩ ⟨⟩:=Hp_eql_s
@[simp] theorem Hp_neqB{t:TypeId}{x y:Operand}{b:UInt8}{n:Int}:Hp P q (binS .neq t x y (byteV b) (.int .u8 n)) K h ⟨⟩↔Split ((b.toNat:Int)=n) (K (.bool false) h) (K (.bool true) h) ⟨⟩ ⟨⟩:=Hp_neq_s

theorem Hp_max2{ts:Array TypeId}{t:TypeId}{k:IntKind}{a b:Int}:Hp P q (Builtin.max_ ts t #[.int k a,.int k b]) K h ⟨⟩↔ValI (if a<b then b else a) (fun n=>K (.int k n) h) ⟨⟩:=by
 rw[Hp_iff,ValI_iff]
 have:Builtin.max_ ts t #[.int k a,.int k b]=pure (.int k (if a<b then b else a)):=by
  simp[Builtin.max_,Builtin.max2]
 rw[this];exact Iff.rfl
theorem Hp_min2{ts:Array TypeId}{t:TypeId}{k:IntKind}{a b:Int}:Hp P q (Builtin.min_ ts t #[.int k a,.int k b]) K h ⟨⟩↔ValI (if b<a then b else a) (fun n=>K (.int k n) h) ⟨⟩:=by
 rw[Hp_iff,ValI_iff]
 have:Builtin.min_ ts t #[.int k a,.int k b]=pure (.int k (if b<a then b else a)):=by
  simp[Builtin.min_,Builtin.min2]
 rw[this];exact Iff.rfl
end

attribute [simp] Hp_max2 Hp_min2

theorem byte_lt(b:UInt8):(b.toNat:Int)<256:=by have:=b.toNat_lt;omega
@[simp] theorem toNat_cast_add(a b:Nat):((a:Int)+(b:Int)).toNat=a+b:=by omega
@[simp] theorem toNat_cast_add_lit(a n:Nat):((a:Int)+(no_index (OfNat.ofNat n):Int)).toNat=a+OfNat.ofNat n:=by
 have:(OfNat.ofNat n:Int)=(n:Int):=rfl
 rw[this]
 show ((a:Int)+(n:Int)).toNat=a+n
 omega
end Go.Vc

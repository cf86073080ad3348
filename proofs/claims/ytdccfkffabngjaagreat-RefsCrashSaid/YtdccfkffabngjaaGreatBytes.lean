/- Plain: numbers as bytes,the lowest first. -/
import Derived.Test.YtdccfkffabngjaaGreatVcRow
namespace Go.Vc
open Go
set_option linter.unusedSimpArgs false
set_option linter.unusedVariables false

theorem Bytes.form{h:Heap}{v:Value}{l:List UInt8}(b:Bytes h v l):∃o c,v = .slice o l.length c:=by
 rcases b with ⟨rfl,rfl⟩|⟨a,c,rfl,_,_⟩
 ·exact⟨none,0,rfl⟩
 ·exact⟨some a,c,rfl⟩
theorem Bytes.at{h:Heap}{o:Option Addr}{n c:Nat}{l:List UInt8}(b:Bytes h (.slice o n c) l)(hl:0<l.length):∃a,o=some a/\n=l.length/\l.length<=c/\At h a l:=by
 rcases b with ⟨e,rfl⟩|⟨a,c',e,h2,h3⟩
 ·simp at hl
 ·cases e;exact⟨a,rfl,rfl,h2,h3⟩

theorem OwnS.pre{h:Heap}{B n c k:Nat}{L:List UInt8}(o:OwnS 1 h (.slice (some ⟨B,0,none⟩) n c) (L.map byteV))(hk:k<=L.length) :
 Bytes h (.slice (some ⟨B,0,none⟩) k c) (L.take k)/\(∀a n' c',Value.slice (some ⟨B,0,none⟩) k c = .slice (some a) n' c'->∀i,i<(L.take k).length->hfrozen h (elt a i)=false):=by
 have hs:=o.seg
 simp only[List.length_map,Nat.mul_one]at hs
 constructor
 ·refine .inr ⟨⟨B,0,none⟩,c,by congr 1;simp;omega,by simp;omega,fun i hi=>?_⟩
  simp only[List.length_take]at hi
  have:=hs.2.2 i (by simp;omega)
  simpa using this
 ·rintro a n' c' e i hi
  cases e
  simp only[List.length_take]at hi
  exact o.free omg

theorem one_bytes(l:List UInt8):∀u∈l.map byteV,one u=true:=by
 intro u hu
 obtain⟨b,_,rfl⟩:=List.mem_map.1 hu
 rfl

theorem Hp_appB{P:Program}{K:VP}{h:Heap}{t t2 e:Nat}{v x:Value}{l m:List UInt8}(ht:slT P t e 1 1=true)(ht2:notInt P t2=true)(ho:OwnS 1 h v (l.map byteV))(hx:Bytes h x m)(hB:l.length+m.length<70368744177664)
 (H:∀v' h',OwnS 1 h' v' ((l++m).map byteV)->Mod (fun b=>blkV v=some b) h h'->(∀b,blkV v'=some b->blkV v=some b\/h.size<=b)->(m≠[]->∃b c,v' = .slice (some ⟨b,0,none⟩) (l.length+m.length) c)->K v' h') :
 Hp P false (Builtin.append_ #[t,t2] t #[v,x]) K h ⟨⟩ :=
 Hp_append (n:=l.length) (k:=m.length) ht ht2 ho sM omg (Src.of_bytes hx) (one_bytes m) omg omg
  (fun v' h' h1 h2 h3 h4=>H v' h' (by rw[List.map_append];exact h1) h2 h3 (fun hm=>h4 (by simpa using hm)))
theorem Hp_appStr{P:Program}{K:VP}{h:Heap}{t t2 e:Nat}{v:Value}{l m:List UInt8}(ht:slT P t e 1 1=true)(ht2:notInt P t2=true)(ho:OwnS 1 h v (l.map byteV))(hB:l.length+m.length<70368744177664)
 (H:∀v' h',OwnS 1 h' v' ((l++m).map byteV)->Mod (fun b=>blkV v=some b) h h'->(∀b,blkV v'=some b->blkV v=some b\/h.size<=b)->(m≠[]->∃b c,v' = .slice (some ⟨b,0,none⟩) (l.length+m.length) c)->K v' h') :
 Hp P false (Builtin.append_ #[t,t2] t #[v,str m]) K h ⟨⟩ :=
 Hp_append (n:=l.length) (k:=m.length) ht ht2 ho sM omg Src.str (one_bytes m) omg omg
  (fun v' h' h1 h2 h3 h4=>H v' h' (by rw[List.map_append];exact h1) h2 h3 (fun hm=>h4 (by simpa using hm)))

def leN:List UInt8->Nat
 | []=>0
 | b::l=>b.toNat+256*leN l

theorem leN_lt:∀l:List UInt8,leN l<256^l.length
 | []=>by simp[leN]
 | b::l=>by
  have h1:=leN_lt l
  have h2:=b.toNat_lt
  simp only[leN,List.length_cons,Nat.pow_succ]
  omega
theorem leN_lt8{l:List UInt8}(h:l.length<=8):leN l<18446744073709551616 :=
 Nat.lt_of_lt_of_le (leN_lt l) (Nat.pow_le_pow_right omg h)

def leB:Nat->Nat->List UInt8
 | 0,_=>[]
 | n+1,x=>UInt8.ofNat (x%256)::leB n (x/256)
@[simp] theorem leB_length:∀(n x:Nat),(leB n x).length=n
 | 0,_=>rfl
 | n+1,x=>by simp[leB,leB_length n]
theorem leN_leB:∀(n x:Nat),leN (leB n x)=x%256^n
 | 0,x=>by simp[leN,leB,Nat.mod_one]
 | n+1,x=>by
  have:(UInt8.ofNat (x%256)).toNat=x%256:=by simp
  rw[leB,leN,leN_leB n,this,Nat.pow_succ,Nat.mul_comm (256^n) 256,Nat.mod_mul]
theorem leB_leN:∀(l:List UInt8),leB l.length (leN l)=l
 | []=>rfl
 | b::l=>by
  have h2:=b.toNat_lt
  simp only[List.length_cons,leB,leN]
  rw[show (b.toNat+256*leN l)%256=b.toNat by omega,show (b.toNat+256*leN l)/256=leN l by omega,leB_leN l]
  simp

theorem leN_step{l:List UInt8}{p n k:Nat}(hk:0<k)(hkn:k<=n)(hl:p+n<=l.length) :
 leN ((l.drop (p+(k-1))).take (n-(k-1)))=(l[p+(k-1)]'omg).toNat+256*leN ((l.drop (p+k)).take (n-k)):=by
 rw[List.drop_eq_getElem_cons (show p+(k-1)<l.length by omega),show n-(k-1)=(n-k)+1 by omega,List.take_succ_cons,leN,show p+(k-1)+1=p+k by omega]

theorem leB_snoc:∀(n x:Nat),leB (n+1) x=leB n x++[UInt8.ofNat (x/256^n%256)]
 | 0,x=>by simp[leB]
 | n+1,x=>by
  rw[leB,leB_snoc n,leB,List.cons_append,Nat.div_div_eq_div_mul,Nat.pow_succ,Nat.mul_comm 256]
end Go.Vc

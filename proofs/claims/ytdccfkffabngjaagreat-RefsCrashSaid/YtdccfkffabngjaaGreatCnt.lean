/- Counts in bytes,as bits of the number that the bytes say; and rules for single bits of bytes. -/
import Derived.Test.YtdccfkffabngjaaGreatVcRange
import Derived.Test.YtdccfkffabngjaaGreatBytes
namespace Go.Vc
open Go
set_option linter.unusedSimpArgs false
set_option linter.unusedVariables false

theorem tb_cons(b:UInt8)(l:List UInt8)(j:Nat):(leN (b::l)).testBit j=if j<8 then b.toNat.testBit j else (leN l).testBit (j-8):=by
 have:=Nat.testBit_two_pow_mul_add (leN l) (b:=b.toNat) (i:=8) b.toNat_lt j
 rw[<-this];congr 1;simp only[leN];omega
theorem tb_leN:∀(l:List UInt8) (j:Nat) (hj:j/8<l.length),(leN l).testBit j=(l[j/8]).toNat.testBit (j%8)
 | b::l,j,hj=>by
  rw[tb_cons]
  by_cases h:j<8
  ·have e:j/8=0:=by omega
   have e2:j%8=j:=by omega
   simp[h,e,e2]
  ·have e:j/8=(j-8)/8+1:=by omega
   have e2:j%8=(j-8)%8:=by omega
   rw[if_neg h,tb_leN l (j-8) (by simp at hj;omega)]
   simp only[e,e2,List.getElem_cons_succ]
theorem tb_out(l:List UInt8)(j:Nat)(hj:8*l.length<=j):(leN l).testBit j=false:=by
 refine Nat.testBit_lt_two_pow (Nat.lt_of_lt_of_le (leN_lt l) ?_)
 rw[show (256:Nat)=2^8 by rfl,<-Nat.pow_mul]
 exact Nat.pow_le_pow_right omg hj
theorem leN_inj{l m:List UInt8}(hl:l.length=m.length)(h:leN l=leN m):l=m:=by
 rw[<-leB_leN l,<-leB_leN m,hl,h]
theorem leN_ext{l m:List UInt8}(hl:l.length=m.length)(h:∀j,j<8*l.length->(leN l).testBit j=(leN m).testBit j):l=m:=by
 refine leN_inj hl (Nat.eq_of_testBit_eq fun j=>?_)
 by_cases hj:j<8*l.length
 ·exact h j hj
 ·rw[tb_out l j omg,tb_out m j omg]

def cnt(l:List UInt8)(w i:Nat):Nat:=leN l/2^(i*w)%2^w
theorem cnt_lt(l:List UInt8)(w i:Nat):cnt l w i<2^w:=Nat.mod_lt _ (Nat.pow_pos omg)
theorem tb_cnt(l:List UInt8)(w i k:Nat):(cnt l w i).testBit k=(decide (k<w)&&(leN l).testBit (i*w+k)):=by
 unfold cnt
 rw[Nat.testBit_mod_two_pow,Nat.testBit_div_two_pow,Nat.add_comm]
def putB(n p w x:Nat):Nat:=2^p*(2^w*(n/2^(p+w))+x%2^w)+n%2^p
theorem tb_putB(n p w x j:Nat):(putB n p w x).testBit j=if p<=j/\j<p+w then x.testBit (j-p) else n.testBit j:=by
 unfold putB
 rw[Nat.testBit_two_pow_mul_add _ (Nat.mod_lt _ (Nat.pow_pos omg)),Nat.testBit_two_pow_mul_add _ (Nat.mod_lt _ (Nat.pow_pos omg))]
 simp only[Nat.testBit_mod_two_pow,Nat.testBit_div_two_pow]
 by_cases h1:j<p
 ·rw[if_pos h1,if_neg omg];simp[h1]
 ·rw[if_neg h1]
  by_cases h2:j-p<w
  ·rw[if_pos h2,if_pos omg];simp[h2]
  ·rw[if_neg h2,if_neg omg];congr 1;omega
def setC(l:List UInt8)(w i x:Nat):List UInt8:=leB l.length (putB (leN l) (i*w) w x)
@[simp] theorem setC_length(l:List UInt8)(w i x:Nat):(setC l w i x).length=l.length:=by simp[setC]
theorem leN_setC{l:List UInt8}{w i x:Nat}(hi:i*w+w<=8*l.length):leN (setC l w i x)=putB (leN l) (i*w) w x:=by
 unfold setC
 rw[leN_leB]
 refine Nat.mod_eq_of_lt ?_
 rw[show (256:Nat)=2^8 by rfl,<-Nat.pow_mul]
 refine Nat.lt_pow_two_of_testBit _ fun j hj=>?_
 rw[tb_putB,if_neg omg,tb_out l j hj]
theorem tb_setC{l:List UInt8}{w i x:Nat}(hi:i*w+w<=8*l.length)(j:Nat):(leN (setC l w i x)).testBit j=if i*w<=j/\j<i*w+w then x.testBit (j-i*w) else (leN l).testBit j:=by
 rw[leN_setC hi,tb_putB]
theorem setC_is{l m:List UInt8}{w i x:Nat}(hm:m.length=l.length)(hi:i*w+w<=8*l.length)
 (h:∀j,j<8*l.length->(leN m).testBit j=if i*w<=j/\j<i*w+w then x.testBit (j-i*w) else (leN l).testBit j):m=setC l w i x :=
 leN_ext (by simpa using hm) fun j hj=>by rw[h j omg,tb_setC hi]
theorem cnt_setC{l:List UInt8}{w i x:Nat}(hi:i*w+w<=8*l.length)(k:Nat):cnt (setC l w i x) w k=if k=i then x%2^w else cnt l w k:=by
 refine Nat.eq_of_testBit_eq fun j=>?_
 rw[tb_cnt,tb_setC hi]
 by_cases hj:j<w
 ·by_cases e:k=i
  ·subst e;rw[if_pos omg,if_pos rfl,Nat.testBit_mod_two_pow,show k*w+j-k*w=j by omega]
  ·rw[if_neg e,if_neg,tb_cnt]
   rintro⟨h1,h2⟩
   rcases Nat.lt_or_gt_of_ne e with h|h
   ·have:=Nat.mul_le_mul_right w (show k+1<=i by omega);rw[Nat.add_mul]at this;omega
   ·have:=Nat.mul_le_mul_right w (show i+1<=k by omega);rw[Nat.add_mul]at this;omega
 ·simp only[hj,decide_false,Bool.false_and]
  split
  ·rw[Nat.testBit_mod_two_pow];simp[hj]
  ·rw[tb_cnt];simp[hj]

theorem cnt_small{l:List UInt8}{w i:Nat}(hb:i*w%8+w<=8)(hm:i*w/8<l.length):(l[i*w/8]).toNat/2^(i*w%8)%2^w=cnt l w i:=by
 refine Nat.eq_of_testBit_eq fun j=>?_
 rw[tb_cnt,Nat.testBit_mod_two_pow,Nat.testBit_div_two_pow]
 by_cases hj:j<w
 ·have e1:(i*w+j)/8=i*w/8:=by omega
  have e2:(i*w+j)%8=j+i*w%8:=by omega
  rw[tb_leN l _ omg]
  simp only[e1,e2]
 ·simp[hj]
theorem cnt_bytes{l:List UInt8}{n i:Nat}(hm:i*n+n<=l.length):leN ((l.drop (i*n)).take n)=cnt l (8*n) i:=by
 refine Nat.eq_of_testBit_eq fun j=>?_
 rw[tb_cnt]
 by_cases hj:j<8*n
 ·have e:i*(8*n)+j=8*(i*n)+j:=by rw[Nat.mul_left_comm]
  rw[tb_leN _ _ (by simp;omega),e,tb_leN l _ omg]
  have e1:(8*(i*n)+j)/8=i*n+j/8:=by omega
  have e2:(8*(i*n)+j)%8=j%8:=by omega
  simp only[List.getElem_take,List.getElem_drop,e1,e2,hj,decide_true,Bool.true_and]
 ·rw[tb_out _ _ (by simp;omega)];simp[hj]
theorem bit_of{l:List UInt8}{p:Nat}(hm:p/8<l.length):(l[p/8]).toNat/2^(p%8)%2=leN l/2^p%2:=by
 have h1:=tb_leN l p hm
 simp only[Nat.testBit_eq_decide_div_mod_eq]at h1
 have h2:=Nat.mod_two_eq_zero_or_one ((l[p/8]).toNat/2^(p%8))
 have h3:=Nat.mod_two_eq_zero_or_one (leN l/2^p)
 by_cases h:leN l/2^p%2=1
 ·simp[h]at h1;omega
 ·simp[h]at h1;omega
theorem cnt_step(n p k:Nat):n/2^p%2^(k+1)=2*(n/2^(p+1)%2^k)+n/2^p%2:=by
 rw[Nat.pow_succ,Nat.pow_succ,<-Nat.div_div_eq_div_mul,Nat.mul_comm (2^k) 2,Nat.mod_mul]
 omega

theorem tb_set{l:List UInt8}{m:Nat}{v:UInt8}(hm:m<l.length)(j:Nat)(hj:j<8*l.length):(leN (l.set m v)).testBit j=if j/8=m then v.toNat.testBit (j%8) else (leN l).testBit j:=by
 rw[tb_leN _ _ (by simp;omega)]
 split
 ·rename_i e
  subst e
  simp
 ·rename_i e
  rw[List.getElem_set_ne omg,tb_leN l j omg]
theorem tb_over{l:List UInt8}{m n x:Nat}(hm:m+n<=l.length)(j:Nat)(hj:j<8*l.length):(leN (over l m (leB n x))).testBit j=if 8*m<=j/\j<8*m+8*n then x.testBit (j-8*m) else (leN l).testBit j:=by
 have hlen:=over_length (l:=l) (new:=leB n x) (k:=m) (by simpa using hm)
 rw[tb_leN _ _ omg,over_get (by simpa using hm)]
 simp only[leB_length]
 by_cases h:8*m<=j/\j<8*m+8*n
 ·rw[if_pos h]
  have h1:m<=j/8/\j/8<m+n:=by omega
  have e1:(j-8*m)/8=j/8-m:=by omega
  have e2:(j-8*m)%8=j%8:=by omega
  have:=tb_leN (leB n x) (j-8*m) (by simp;omega)
  rw[leN_leB,show (256:Nat)=2^8 by rfl,<-Nat.pow_mul,Nat.testBit_mod_two_pow]at this
  simp only[e1,e2,show j-8*m<8*n by omega,decide_true,Bool.true_and]at this
  rw[this]
  simp[h1]
 ·rw[if_neg h,tb_leN l j omg]
  have h1:¬(m<=j/8/\j/8<m+n):=by omega
  simp[h1]

section
variable {P:Program}{q:Bool}{K:VP}{h:Heap}
theorem Hp_shrB{t:TypeId}{x y:Operand}{k':IntKind}{b:UInt8}{n:Int}(n0:0<=n)(n1:n<8):Hp P q (binS .shr t x y (byteV b) (.int k' n)) K h ⟨⟩↔ValI ((b.toNat:Int)/2^n.toNat) (fun n=>K (.int .u8 n) h) ⟨⟩:=by
 unfold byteV
 rw[Hp_shr n0,show min n.toNat IntKind.u8.bits=n.toNat by simp[IntKind.bits];omega]
 rw[ValI_iff,ValI_iff,Int.fdiv_eq_ediv_of_nonneg _ (Int.le_of_lt (Int.pow_pos omg))]
theorem Hp_shl_u8{t:TypeId}{x y:Operand}{k':IntKind}{a n:Int}(n0:0<=n)(n1:n<8):Hp P q (binS .shl t x y (.int .u8 a) (.int k' n)) K h ⟨⟩↔ValI (a*2^n.toNat%256) (fun n=>K (.int .u8 n) h) ⟨⟩:=by
 rw[Hp_shl n0,show min n.toNat IntKind.u8.bits=n.toNat by simp[IntKind.bits];omega,wrap_u8_eq]
theorem bv8{b:UInt8}:(BitVec.ofInt 8 (b.toNat:Int)).toNat=b.toNat:=by
 rw[bv_nat omg (by have:=b.toNat_lt;omega)];simp
theorem Hp_andNotB{t:TypeId}{x y:Operand}{b:UInt8}{m:Int}(m0:0<=m)(m1:m<256):Hp P q (binS .andNot t x y (byteV b) (.int .u8 m)) K h ⟨⟩↔K (byteV (UInt8.ofNat (b.toNat &&& (2^8-(m.toNat+1))))) h:=by
 unfold byteV
 rw[Hp_andNot,ValI_iff]
 have e:(BitVec.ofInt IntKind.u8.bits (b.toNat:Int) &&& ~~~BitVec.ofInt IntKind.u8.bits m).toNat=b.toNat &&& (2^8-(m.toNat+1)):=by
  rw[BitVec.toNat_and,BitVec.toNat_not]
  show (BitVec.ofInt 8 _).toNat &&& (2^8-1-(BitVec.ofInt 8 m).toNat)=_
  rw[bv8,bv_nat m0 omg]
  congr 1;omega
 have hlt:b.toNat &&& (2^8-(m.toNat+1))<256:=Nat.lt_of_le_of_lt Nat.and_le_left b.toNat_lt
 rw[e,wrap_u8 omg omg]
 rw[UInt8.toNat_ofNat_of_lt' (by simpa using hlt)]
theorem Hp_orB{t:TypeId}{x y:Operand}{b:UInt8}{m:Int}(m0:0<=m)(m1:m<256):Hp P q (binS .or t x y (byteV b) (.int .u8 m)) K h ⟨⟩↔K (byteV (UInt8.ofNat (b.toNat ||| m.toNat))) h:=by
 unfold byteV
 rw[Hp_or,ValI_iff]
 have e:(BitVec.ofInt IntKind.u8.bits (b.toNat:Int) ||| BitVec.ofInt IntKind.u8.bits m).toNat=b.toNat ||| m.toNat:=by
  rw[BitVec.toNat_or]
  show (BitVec.ofInt 8 _).toNat ||| (BitVec.ofInt 8 m).toNat=_
  rw[bv8,bv_nat m0 omg]
 have hlt:b.toNat ||| m.toNat<256:=Nat.or_lt_two_pow (n:=8) b.toNat_lt omg
 rw[e,wrap_u8 omg omg]
 rw[UInt8.toNat_ofNat_of_lt' (by simpa using hlt)]
theorem Hp_xorB{t:TypeId}{x y:Operand}{b:UInt8}{m:Int}(m0:0<=m)(m1:m<256):Hp P q (binS .xor t x y (byteV b) (.int .u8 m)) K h ⟨⟩↔K (byteV (UInt8.ofNat (b.toNat ^^^ m.toNat))) h:=by
 unfold byteV
 rw[Hp_xor,ValI_iff]
 have e:(BitVec.ofInt IntKind.u8.bits (b.toNat:Int) ^^^ BitVec.ofInt IntKind.u8.bits m).toNat=b.toNat ^^^ m.toNat:=by
  rw[BitVec.toNat_xor]
  show (BitVec.ofInt 8 _).toNat ^^^ (BitVec.ofInt 8 m).toNat=_
  rw[bv8,bv_nat m0 omg]
 have hlt:b.toNat ^^^ m.toNat<256:=Nat.xor_lt_two_pow (n:=8) b.toNat_lt omg
 rw[e,wrap_u8 omg omg]
 rw[UInt8.toNat_ofNat_of_lt' (by simpa using hlt)]
theorem Hp_andNotN{t:TypeId}{x y:Operand}{b b':UInt8}{m:Int}{M:Nat}(hm:m=(M:Int))(hM:M<256)(e:b'=UInt8.ofNat (b.toNat &&& (2^8-(M+1)))):Hp P q (binS .andNot t x y (byteV b) (.int .u8 m)) K h ⟨⟩↔K (byteV b') h:=by
 subst hm
 rw[Hp_andNotB omg omg,e];simp only[Int.toNat_natCast]
theorem Hp_orN{t:TypeId}{x y:Operand}{b b':UInt8}{m:Int}{M:Nat}(hm:m=(M:Int))(hM:M<256)(e:b'=UInt8.ofNat (b.toNat ||| M)):Hp P q (binS .or t x y (byteV b) (.int .u8 m)) K h ⟨⟩↔K (byteV b') h:=by
 subst hm
 rw[Hp_orB omg omg,e];simp only[Int.toNat_natCast]
theorem Hp_xorN{t:TypeId}{x y:Operand}{b b':UInt8}{m:Int}{M:Nat}(hm:m=(M:Int))(hM:M<256)(e:b'=UInt8.ofNat (b.toNat ^^^ M)):Hp P q (binS .xor t x y (byteV b) (.int .u8 m)) K h ⟨⟩↔K (byteV b') h:=by
 subst hm
 rw[Hp_xorB omg omg,e];simp only[Int.toNat_natCast]
end
theorem tb_mul(a by_ t:Nat):(a*2^by_%256).testBit t=(decide (t<8)&&(decide (by_<=t)&&a.testBit (t-by_))):=by
 rw[show (256:Nat)=2^8 from rfl,Nat.testBit_mod_two_pow,Nat.mul_comm,Nat.testBit_two_pow_mul]
theorem tb_lay{b:UInt8}{w by_ x t:Nat}(hx:x<2^w)(ht:t<8) :
 (UInt8.ofNat ((UInt8.ofNat (b.toNat &&& (2^8-((2^w-1)*2^by_%256+1)))).toNat ||| x*2^by_%256)).toNat.testBit t =
  if by_<=t/\t<by_+w then x.testBit (t-by_) else b.toNat.testBit t:=by
 have hm:(2^w-1)*2^by_%256<2^8:=Nat.mod_lt _ omg
 rw[UInt8.toNat_ofNat',Nat.testBit_mod_two_pow,Nat.testBit_or,tb_mul,UInt8.toNat_ofNat',Nat.testBit_mod_two_pow,Nat.testBit_and,Nat.testBit_two_pow_sub_succ hm,tb_mul,Nat.testBit_two_pow_sub_one]
 simp only[ht,decide_true,Bool.true_and]
 by_cases h1:by_<=t
 ·by_cases h2:t<by_+w
  ·have h3:t-by_<w:=by omega
   simp[h1,h2,h3]
  ·have h3:¬t-by_<w:=by omega
   have h4:x.testBit (t-by_)=false:=Nat.testBit_lt_two_pow (Nat.lt_of_lt_of_le hx (Nat.pow_le_pow_right omg omg))
   simp[h1,h2,h3,h4]
 ·simp[h1]
end Go.Vc

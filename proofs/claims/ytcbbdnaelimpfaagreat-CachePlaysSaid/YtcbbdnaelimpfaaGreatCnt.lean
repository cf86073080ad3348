/- Counts in bytes,as bits of the number that the bytes say; and rules for single bits of bytes. -/
import Derived.Test.YtcbbdnaelimpfaaGreatVcRange
import Derived.Test.YtcbbdnaelimpfaaGreatBytes
namespace Go.Vc
open Go
set_option linter.unusedSimpArgs false
set_option linter.unusedVariables false

def cnt (l:List UInt8) (w i:Nat):Nat:=leN l/2^(i*w)%2^w
def putB (n p w x:Nat):Nat:=2^p*(2^w*(n/2^(p+w))+x%2^w)+n%2^p
def setC (l:List UInt8) (w i x:Nat):List UInt8:=leB l.length (putB (leN l) (i*w) w x)
section
variable {P:Program} {q:Bool} {K:VP} {h:Heap}
theorem bv8 {b:UInt8}:(BitVec.ofInt 8 (b.toNat:Int)).toNat=b.toNat:=by
 rw [bv_nat omg (by have:=b.toNat_lt; omega)]; simp
theorem Hp_andNotB {t:TypeId} {x y:Operand} {b:UInt8} {m:Int} (m0:0≤m) (m1:m<256):Hp P q (binS .andNot t x y (byteV b) (.int .u8 m)) K h ⟨⟩↔K (byteV (UInt8.ofNat (b.toNat &&& (2^8-(m.toNat+1))))) h:=by
 unfold byteV
 rw [Hp_andNot,ValI_iff]
 have e:(BitVec.ofInt IntKind.u8.bits (b.toNat:Int) &&& ~~~BitVec.ofInt IntKind.u8.bits m).toNat=b.toNat &&& (2^8-(m.toNat+1)):=by
  rw [BitVec.toNat_and,BitVec.toNat_not]
  show (BitVec.ofInt 8 _).toNat &&& (2^8-1-(BitVec.ofInt 8 m).toNat)=_
  rw [bv8,bv_nat m0 omg]
  congr 1; omega
 have hlt:b.toNat &&& (2^8-(m.toNat+1))<256:=Nat.lt_of_le_of_lt Nat.and_le_left b.toNat_lt
 rw [e,wrap_u8 omg omg]
 rw [UInt8.toNat_ofNat_of_lt' (by simpa using hlt)]
theorem Hp_orB {t:TypeId} {x y:Operand} {b:UInt8} {m:Int} (m0:0≤m) (m1:m<256):Hp P q (binS .or t x y (byteV b) (.int .u8 m)) K h ⟨⟩↔K (byteV (UInt8.ofNat (b.toNat ||| m.toNat))) h:=by
 unfold byteV
 rw [Hp_or,ValI_iff]
 have e:(BitVec.ofInt IntKind.u8.bits (b.toNat:Int) ||| BitVec.ofInt IntKind.u8.bits m).toNat=b.toNat ||| m.toNat:=by
  rw [BitVec.toNat_or]
  show (BitVec.ofInt 8 _).toNat ||| (BitVec.ofInt 8 m).toNat=_
  rw [bv8,bv_nat m0 omg]
 have hlt:b.toNat ||| m.toNat<256:=Nat.or_lt_two_pow (n:=8) b.toNat_lt omg
 rw [e,wrap_u8 omg omg]
 rw [UInt8.toNat_ofNat_of_lt' (by simpa using hlt)]
theorem Hp_xorB {t:TypeId} {x y:Operand} {b:UInt8} {m:Int} (m0:0≤m) (m1:m<256):Hp P q (binS .xor t x y (byteV b) (.int .u8 m)) K h ⟨⟩↔K (byteV (UInt8.ofNat (b.toNat ^^^ m.toNat))) h:=by
 unfold byteV
 rw [Hp_xor,ValI_iff]
 have e:(BitVec.ofInt IntKind.u8.bits (b.toNat:Int) ^^^ BitVec.ofInt IntKind.u8.bits m).toNat=b.toNat ^^^ m.toNat:=by
  rw [BitVec.toNat_xor]
  show (BitVec.ofInt 8 _).toNat ^^^ (BitVec.ofInt 8 m).toNat=_
  rw [bv8,bv_nat m0 omg]
 have hlt:b.toNat ^^^ m.toNat<256:=Nat.xor_lt_two_pow (n:=8) b.toNat_lt omg
 rw [e,wrap_u8 omg omg]
 rw [UInt8.toNat_ofNat_of_lt' (by simpa using hlt)]
end
end Go.Vc

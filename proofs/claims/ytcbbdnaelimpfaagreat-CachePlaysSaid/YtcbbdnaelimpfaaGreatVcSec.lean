/- Bytes of one's own: parts read,written over,cleared; shifts and masks of numbers that are not below 0. -/
import Derived.Test.YtcbbdnaelimpfaaGreatVcStr
import Derived.Test.YtcbbdnaelimpfaaGreatBytes
namespace Go.Vc
open Go
set_option linter.unusedSimpArgs false
set_option linter.unusedVariables false
set_option linter.unusedSectionVars false
section
variable {P:Program} {q:Bool} {K:VP} {h:Heap}

theorem Hp_shlW {t:TypeId} {x y:Operand} {k':IntKind} {a:Int} {b w:Nat} (hw:2^b=w) (hb:b<64) (h0:0≤a) (h1:a*w<9223372036854775808):Hp P q (binS .shl t x y (.int .i64 a) (.int k' (b:Int))) K h ⟨⟩↔ValI (a*(w:Int)) (fun n=>K (.int .i64 n) h) ⟨⟩:=by
 rw [Hp_shl omg]
 have e1:min ((b:Int).toNat) IntKind.i64.bits=b:=by
  rw [Int.toNat_natCast]; exact Nat.min_eq_left (by show b≤64; omega)
 have e2:((2:Int)^b)=(w:Int):=by rw [←hw]; simp
 rw [e1,e2]
 have:IntKind.i64.wrap (a*w)=a*w:=wrap_i64 (by have:=Int.mul_nonneg h0 (Int.natCast_nonneg w); omega) h1
 rw [this]
theorem Hp_shrW {t:TypeId} {x y:Operand} {k':IntKind} {a:Int} {b w:Nat} (hw:2^b=w) (hb:b<64) (h0:0≤a):Hp P q (binS .shr t x y (.int .i64 a) (.int k' (b:Int))) K h ⟨⟩↔ValI (a/(w:Int)) (fun n=>K (.int .i64 n) h) ⟨⟩:=by
 rw [Hp_shr omg]
 have e1:min ((b:Int).toNat) IntKind.i64.bits=b:=by
  rw [Int.toNat_natCast]; exact Nat.min_eq_left (by show b≤64; omega)
 have e2:((2:Int)^b)=(w:Int):=by rw [←hw]; simp
 rw [e1,e2,Int.fdiv_eq_ediv_of_nonneg _ omg]
end
end Go.Vc

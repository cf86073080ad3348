/- Plain: numbers as bytes,the lowest first. -/
import Derived.Test.YtcbbdnaelimpfaaGreatVcRow
namespace Go.Vc
open Go
set_option linter.unusedSimpArgs false
set_option linter.unusedVariables false

theorem Bytes.form {h:Heap} {v:Value} {l:List UInt8} (b:Bytes h v l):∃o c,v = .slice o l.length c:=by
 rcases b with ⟨rfl,rfl⟩|⟨a,c,rfl,_,_⟩
 ·exact ⟨none,0,rfl⟩
 ·exact ⟨some a,c,rfl⟩
theorem Bytes.at {h:Heap} {o:Option Addr} {n c:Nat} {l:List UInt8} (b:Bytes h (.slice o n c) l) (hl:0<l.length):∃a,o=some a∧n=l.length∧l.length≤c∧At h a l:=by
 rcases b with ⟨e,rfl⟩|⟨a,c',e,h2,h3⟩
 ·simp at hl
 ·cases e; exact ⟨a,rfl,rfl,h2,h3⟩

theorem one_bytes (l:List UInt8):∀u∈l.map byteV,one u=true:=by
 intro u hu
 obtain ⟨b,_,rfl⟩:=List.mem_map.1 hu
 rfl

def leN:List UInt8→Nat
 | []=>0
 | b::l=>b.toNat+256*leN l

def leB:Nat→Nat→List UInt8
 | 0,_=>[]
 | n+1,x=>UInt8.ofNat (x%256)::leB n (x/256)
end Go.Vc

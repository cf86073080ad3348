/- Cache: going over the pages that are kept. Cache: the laws' calls. Cache: calls that are worked out. Cache,plainly: what is counted. Cache: bytes read through it,with all that holds between calls; where no page waits. Cache,for CacheRoom: what holds behind j calls where no step fails and nobody waits. Cache: blocks that are neither the cache's nor a piece's. -/
import Derived.Test.YtcbbdnaelimpfaaGreatCacC
import Derived.Test.YtcbbdnaelimpfaaGreatStoC
set_option linter.unusedSimpArgs false
set_option linter.unusedVariables false
namespace Go.Proofs.YtcbbdnaelimpfaaGreat
open Go.Vc Go.Sort
variable {K:VP} {h:Heap}

theorem Nsq.mod {S:Nat→Prop} {h':Heap} {sb:Nat} {v:Value} {L:List Int} (a:Nsq h sb v L) (m:Mod S h h') (h1:¬S sb) (h2:∀b,blkV v=some b→¬S b):Nsq h' sb v L :=
 ⟨(m.block _ (get_some_lt a.cell) h1).trans a.cell,a.row.mod m h2⟩
theorem Nsq.ext {h':Heap} {sb:Nat} {v:Value} {L:List Int} (a:Nsq h sb v L) (e:Ext h h'):Nsq h' sb v L:=a.mod (S:=fun _=>False) (.of_ext e) (fun x=>x) (fun _ _ x=>x)
theorem RangeN {D:Value} {B:Nat→List Value→((Heap→Prop)→Heap→Prop)→(Heap→Prop)→(Code→Heap→Prop)→Heap→Prop} {aN aR:VP} {aE:Nat→VP} {sb:Nat} {v:Value} {L:List Int} (hs:Nsq h sb v L) (hfew:L.length<1000000) (Φ:Nat→Heap→Prop) (Ψ:Heap→Prop)
 (h0:∀g,Ext h g→g.size=h.size+2→g[h.size]? = some (.deferred (some []))→Φ 0 g) (hst:∀i g g',Φ i g→Ext g g'→Φ i g') (hkeep:∀i g,Φ i g→Nsq g sb v L)
 (hround:∀i (hi:i<L.length) (g:Heap) (oR oB:Obj) (J:Code→Heap→Prop) (X:Heap→Prop),Φ i g→g[h.size+1]? = some oR→isLoop oR=true→isLoop oB=true →
  (∀g',Φ (i+1) g'→g'[h.size+1]? = some oR→X g')→(∀g',Ψ g'→g'[h.size+1]? = some oB→J .ret g') →
  B (h.size+1) [ik L[i]] (fun k h1=>h1[h.size+1]? = some oR∧k (h1.setIfInBounds (h.size+1) oB)) (fun h4=>h4[h.size+1]? = some oB∧X (h4.setIfInBounds (h.size+1) oR)) J g)
 (hend:∀g oE oR,Φ L.length g→g[h.size+1]? = some oR→isLoop oR=true→aN (consD h.size D) (g.setIfInBounds (h.size+1) oE))
 (hret:∀g oE oR,Ψ g→g[h.size+1]? = some oR→isLoop oR=true→aR (consD h.size D) (g.setIfInBounds (h.size+1) oE)) :
 RangeC Tryz.prog none (nsqV sb) 1 D B aN aR aE h ⟨⟩ ⟨⟩ ⟨⟩ ⟨⟩:=by
 refine RangeC_none rfl fun oR oB oE oX oF Kp hoR hoB hrd hN hR hX => ?_
 refine InvokeH_k1 kR ?_
 refine (⟨_,rfl⟩:∃g,g=(h.push (.deferred (some []))).push oR).elim fun g eg => ?_
 have zg:g.size=h.size+2:=by simp [eg]
 have eg':Ext h g:=by rw [eg]; exact extS
 have rD:g[h.size]? = some (.deferred (some [])):=by rw [eg,get_push sM,get_pushed rfl]
 have rL:g[h.size+1]? = some oR:=by rw [eg,get_pushed sM]
 rw [←eg]
 have p0:=h0 g eg' zg rD
 have s1:=hs.ext eg'
 clear eg
 obtain ⟨va,vn,vc,rfl,hvl,hvc,hvne⟩:=hs.row.form omg
 obtain rfl:vn=L.length:=by simpa using hvl.symm
 have c1:=cellOf (i:=0) s1.cell rfl
 refine n108_calls ?_
 unfold n108 ptrV; try delta vF vG vC vD vJ vV vk vt
 simp (disch:=omega) [c1]
 refine loopX1 (α:=Nat) (fun a => .int .i64 a) (fun i g'=>i≤L.length∧Φ i g'∧g'[h.size+1]? = some oR) (fun i=>L.length-i) 0 rfl ⟨by omega,p0,rL⟩ ?_
 rintro i g' ⟨hi,hp,hl⟩ X hX'
 have hlt:=get_some_lt hl
 by_cases hil:i<L.length
 ·obtain ⟨b,rfl⟩:=hvne (by intro e; have:=congrArg List.length e; rw [List.length_map] at this; simp only [List.length_nil] at this; omega)
  have q0:=((hkeep _ _ hp).row.elt (i:=i) (by simpa using hil)).1
  rw [List.getElem_map] at q0
  have inv:∀(g2:Heap) (K0:VP),Ext g' g2→(∀g3,Φ (i+1) g3→g3[h.size+1]? = some oR→K0 (.bool true) g3)→(∀g3,Ψ g3→g3[h.size+1]? = some oB→K0 (.bool false) (g3.setIfInBounds (h.size+1) (oX .ret)))→InvokeH Tryz.prog (.func (.yield (h.size+1)) #[] #[]) #[ik L[i]] g2 K0 ⟨⟩:=fun g2 K0 e2 hk hj =>
   hrd [ik L[i]] g2 K0 rfl ((e2.block _ hlt).trans hl) (hround i hil g2 oR oB _ (fun g3=>K0 (.bool true) g3) (hst _ _ _ hp e2) ((e2.block _ hlt).trans hl) hoR hoB hk (fun g3 hps hb=>⟨hb,hj g3 hps hb⟩))
  simp (disch:=omega) [q0]
  refine inv g' _ (.refl _) (fun g3 p3 l3 => ?_) (fun g3 p3 l3 => ?_)
  ·simp (disch:=omega)
   exact hX' (i+1) _ _ sM ⟨by omega,p3,l3⟩ omg
  ·simp (disch:=omega)
   have hb:=get_some_lt l3
   refine hR _ _ (get_put hb) ?_
   rw [Array.setIfInBounds_setIfInBounds]
   exact hret g3 (oF .ret) oB p3 l3 hoB
 ·have:i=L.length:=by omega
  subst this
  simp (disch:=omega)
  refine hN _ _ hl ?_
  exact hend g' oE oR hp hl hoR
end Go.Proofs.YtcbbdnaelimpfaaGreat
set_option linter.unusedSimpArgs false
set_option linter.unusedVariables false
namespace Go.Proofs.YtcbbdnaelimpfaaGreat
open Go.Vc
variable {K:VP} {h:Heap}

structure Sc where
 kind:Int
 at_:Int
 n:Int
 page:Int
 other:Int
 bv:Value
 b:List UInt8
def Sc.cells (x:Sc):List Value:=[.int .i64 x.kind,.int .i64 x.at_,.int .i64 x.n,.int .i64 x.page,.int .i64 x.other,x.bv]
structure ScOk (h:Heap) (x:Sc):Prop where
 kind:i64 x.kind
 at_:i64 x.at_
 n:i64 x.n
 page:i64 x.page
 other:i64 x.other
 b:Bytes h x.bv x.b
 bl:x.b.length<9223372036854775808
theorem ScOk.ext {h':Heap} {x:Sc} (a:ScOk h x) (e:Ext h h'):ScOk h' x:=⟨a.kind,a.at_,a.n,a.page,a.other,a.b.ext e,a.bl⟩
structure Scs (h:Heap) (v:Value) (xs:List Sc):Prop where
 slc:Slc 6 h v (fun us x=>us=x.cells) xs
 ok:∀x∈xs,ScOk h x
 len:xs.length<9223372036854775808
theorem Scs.ext {h':Heap} {v:Value} {xs:List Sc} (a:Scs h v xs) (e:Ext h h'):Scs h' v xs:=⟨slc_ext a.slc e,fun x hx=>(a.ok x hx).ext e,a.len⟩
theorem Scs.form {v:Value} {xs:List Sc} (a:Scs h v xs):∃o c,v = .slice o xs.length c:=Slc.form a.slc
theorem Scs.cell {v:Value} {xs:List Sc} (s:Scs h v xs) {i:Nat} (hi:i<xs.length):∃a c,v = .slice (some a) xs.length c∧hcell h (elt a (i*6))=some (.int .i64 xs[i].kind)∧hcell h (elt a (i*6+1))=some (.int .i64 xs[i].at_) ∧
 hcell h (elt a (i*6+2))=some (.int .i64 xs[i].n)∧hcell h (elt a (i*6+3))=some (.int .i64 xs[i].page)∧hcell h (elt a (i*6+4))=some (.int .i64 xs[i].other)∧hcell h (elt a (i*6+5))=some xs[i].bv:=by
 rcases s.slc with ⟨h1,rfl⟩|⟨a,c,h1,h2,h3⟩
 ·cases hi
 ·obtain ⟨us,-,h5,rfl⟩:=h3 i hi
  have:=fun j hj=>h5 j hj
  unfold Sc.cells at this
  have e0:=this 0 sM
  have e1:=this 1 sM
  have e2:=this 2 sM
  have e3:=this 3 sM
  have e4:=this 4 sM
  have e5:=this 5 sM
  rw [elt_elt] at e0 e1 e2 e3 e4 e5
  exact ⟨a,c,h1,e0,e1,e2,e3,e4,e5⟩
section
open Go Go.ChangeShapes Go.WideShapes Go.ChangeAt Go.RowKit Go.Deep
variable {H:Type} {enc:TypeId×Value→H} {w:World} {base:Nat} {sp:Nat→Bool} {held:Bool}
theorem len6 {l:List Value} (h:l.length=6):∃a b c d e f,l=[a,b,c,d,e,f]:=by
 match l,h with
 | [a,b,c,d,e,f],_=>exact ⟨a,b,c,d,e,f,rfl⟩
set_option maxRecDepth 100000 in
theorem laid_sc {cs:List Value} (h:Laid enc Tryz.prog w base sp held 35 cs):∃x:Sc,cs=x.cells∧ScOk w.heap x:=by
 obtain ⟨hl,hL⟩:=h.flds (L:=[(3,0,1),(3,1,1),(3,2,1),(2,3,1),(2,4,1),(33,5,1)]) (n:=6) kR kR
 obtain ⟨c0,c1,c2,c3,c4,c5,rfl⟩:=len6 hl
 obtain ⟨n0,hn0,r0⟩:=(hL 0 _ _ _ rfl).int (k := .i64) kR
 obtain rfl:c0 = .int .i64 n0:=by simpa using hn0
 obtain ⟨n1,hn1,r1⟩:=(hL 1 _ _ _ rfl).int (k := .i64) kR
 obtain rfl:c1 = .int .i64 n1:=by simpa using hn1
 obtain ⟨n2,hn2,r2⟩:=(hL 2 _ _ _ rfl).int (k := .i64) kR
 obtain rfl:c2 = .int .i64 n2:=by simpa using hn2
 obtain ⟨n3,hn3,r3⟩:=(hL 3 _ _ _ rfl).int (k := .i64) kR
 obtain rfl:c3 = .int .i64 n3:=by simpa using hn3
 obtain ⟨n4,hn4,r4⟩:=(hL 4 _ _ _ rfl).int (k := .i64) kR
 obtain rfl:c4 = .int .i64 n4:=by simpa using hn4
 obtain ⟨v5,b5,hn5,hB5,r5⟩:=(hL 5 _ _ _ rfl).bytes (e:=5) kR kR kR
 obtain rfl:c5=v5:=by simpa using hn5
 exact ⟨⟨n0,n1,n2,n3,n4,c5,b5⟩,rfl,i64_of r0,i64_of r1,i64_of r2,i64_of r3,i64_of r4,hB5,max63 r5⟩
set_option maxRecDepth 100000 in
theorem laid_scs {cs:List Value} (h:Laid enc Tryz.prog w base sp held 22 cs):∃(v:Value) (xs:List Sc),cs=[v]∧Scs w.heap v xs:=by
 obtain ⟨v,xs,rfl,hs,hl⟩:=h.slice (e:=35) (R:=fun us (x:Sc)=>us=x.cells∧ScOk w.heap x) kR (fun us hu=>laid_sc hu)
 have hc:Program.cellsOf Tryz.prog 35=6:=by kernel_rfl
 rw [hc] at hs
 obtain ⟨s1,s2⟩:=slc_ok (f:=Sc.cells) hs (fun us x hx=>hx)
 exact ⟨v,xs,rfl,s1,s2,max63 hl⟩
end
end Go.Proofs.YtcbbdnaelimpfaaGreat
set_option linter.unusedSimpArgs false
set_option linter.unusedVariables false
namespace Go.Proofs.YtcbbdnaelimpfaaGreat
open Go.Vc
variable {K:VP} {h:Heap}

structure Fits (size bits room:Int) (xs:List Sc):Prop where
 s0:0≤size
 s1:size≤50000
 b0:9≤bits
 b1:bits≤12
 r0:1≤room
 r1:room≤20
 few:xs.length≤60
 ok:∀x∈xs,x.page<12∧x.b.length≤5000
end Go.Proofs.YtcbbdnaelimpfaaGreat
set_option linter.unusedSimpArgs false
set_option linter.unusedVariables false
namespace Go.Proofs.YtcbbdnaelimpfaaGreat
open Go.Vc Go.Sort

end Go.Proofs.YtcbbdnaelimpfaaGreat
set_option linter.unusedSimpArgs false
set_option linter.unusedVariables false
namespace Go.Proofs.YtcbbdnaelimpfaaGreat
open Go.Vc Go.Sort
variable {K:VP} {h:Heap}

structure Calm (c c':Ca):Prop where
 W:c'.W=[]
 flushes:c'.flushes=c.flushes
end Go.Proofs.YtcbbdnaelimpfaaGreat
set_option linter.unusedSimpArgs false
set_option linter.unusedVariables false
namespace Go.Proofs.YtcbbdnaelimpfaaGreat
open Go.Vc Go.Sort
variable {K:VP} {h:Heap}

structure Rk (c:Ca) (p:Ps) (room uses writes:Nat):Prop where
 O:Okp p
 W:c.W=[]
 room:c.room=room
 uses:c.hits+c.loads=uses
 writes:c.backs+c.dN≤writes
 loads:c.P.length≤c.loads
 pg:∀x∈c.P,x.n<12
theorem put6 {b:Nat} {t:Go.TypeId} {c0 c1 c2 c3 c4 c5 v0 v1 v2 v3 v4 v5:Value} (hb:h[b]? = some (.cells #[c0,c1,c2,c3,c4,c5] t)) :
 (hset (hset (hset (hset (hset (hset h ⟨b,0,none⟩ v0) ⟨b,1,none⟩ v1) ⟨b,2,none⟩ v2) ⟨b,3,none⟩ v3) ⟨b,4,none⟩ v4) ⟨b,5,none⟩ v5)[b]? = some (.cells #[v0,v1,v2,v3,v4,v5] t):=by
 have h0:=obj_set (i:=0) (v:=v0) hb
 have h1:=obj_set (i:=1) (v:=v1) h0
 have h2:=obj_set (i:=2) (v:=v2) h1
 have h3:=obj_set (i:=3) (v:=v3) h2
 have h4:=obj_set (i:=4) (v:=v4) h3
 exact obj_set (i:=5) (v:=v5) h4
theorem put3 {b:Nat} {t:Go.TypeId} {c0 c1 c2 v0 v1 v2:Value} (hb:h[b]? = some (.cells #[c0,c1,c2] t)) :
 (hset (hset (hset h ⟨b,0,none⟩ v0) ⟨b,1,none⟩ v1) ⟨b,2,none⟩ v2)[b]? = some (.cells #[v0,v1,v2] t):=by
 have h0:=obj_set (i:=0) (v:=v0) hb
 have h1:=obj_set (i:=1) (v:=v1) h0
 exact obj_set (i:=2) (v:=v2) h1
theorem put3_ext {g:Heap} {b:Nat} {v0 v1 v2:Value} (e:Ext g h) (hb:g.size≤b):Ext g (hset (hset (hset h ⟨b,0,none⟩ v0) ⟨b,1,none⟩ v1) ⟨b,2,none⟩ v2) :=
 hset_ext (hset_ext (hset_ext e hb) hb) hb
theorem put6_ext {g:Heap} {b:Nat} {v0 v1 v2 v3 v4 v5:Value} (e:Ext g h) (hb:g.size≤b):Ext g (hset (hset (hset (hset (hset (hset h ⟨b,0,none⟩ v0) ⟨b,1,none⟩ v1) ⟨b,2,none⟩ v2) ⟨b,3,none⟩ v3) ⟨b,4,none⟩ v4) ⟨b,5,none⟩ v5) :=
 hset_ext (hset_ext (hset_ext (hset_ext (hset_ext (hset_ext e hb) hb) hb) hb) hb) hb
section
open Go Go.ChangeShapes Go.WideShapes Go.ChangeAt Go.RowKit Go.Deep
end
end Go.Proofs.YtcbbdnaelimpfaaGreat
set_option linter.unusedSimpArgs false
set_option linter.unusedVariables false
namespace Go.Proofs.YtcbbdnaelimpfaaGreat
open Go.Vc
variable {K:VP} {h:Heap}

structure Bar (o:Nat) (c:Ca) (s:St) (Z:Nat→Prop):Prop where
 ft:∀b,Z b→¬Ft o c s b
 pc:∀y∈s.F,∀q∈y.qs,∀b,blkV q.2=some b→¬Z b
theorem Bar.upd {o:Nat} {c c':Ca} {s s':St} {Z:Nat→Prop} {h':Heap} (a:Bar o c s Z) (u:CUpd h h' o c s c' s') (hZ:∀b,Z b→b<h.size):Bar o c' s' Z :=
 ⟨fun b hb hF=>(u.foot b hF).elim (a.ft b hb) (fun e=>by have:=hZ b hb; omega),fun y hy q hq b hb e=>by
  rcases u.pcs y hy q hq b hb with ⟨y1,h1,q1,h2,h3⟩|h1
  ·exact a.pc y1 h1 q1 h2 b h3 e
  ·have:=hZ b e; omega⟩
theorem Bar.mono {o:Nat} {c:Ca} {s:St} {Z Z':Nat→Prop} (a:Bar o c s Z) (h:∀b,Z' b→Z b):Bar o c s Z' :=
 ⟨fun b hb=>a.ft b (h b hb),fun y hy q hq b hb e=>a.pc y hy q hq b hb (h b e)⟩
theorem Bar.or {o:Nat} {c:Ca} {s:St} {Z Z':Nat→Prop} (a:Bar o c s Z) (b:Bar o c s Z'):Bar o c s (fun x=>Z x∨Z' x) :=
 ⟨fun x hx=>hx.elim (a.ft x) (b.ft x),fun y hy q hq x hx e=>e.elim (a.pc y hy q hq x hx) (b.pc y hy q hq x hx)⟩
theorem Bar.new {o j:Nat} {c:Ca} {s:St} {p:Ps} (S:Ses h o j c s p) {Z:Nat→Prop} (hZ:∀b,Z b→h.size≤b):Bar o c s Z :=
 ⟨fun b hb hF=>by have:=S.at_.lt hF; have:=hZ b hb; omega,fun y hy q hq b hb e=>by have:=(S.at_.st.fl y hy).plt hq hb; have:=hZ b e; omega⟩
theorem Fr.modZ {h0 h':Heap} {o:Nat} {c:Ca} {s:St} {Z:Nat→Prop} (a:Fr h0 h o c s) (m:Mod Z h h') (hZ:∀b,Z b→h0.size≤b):Fr h0 h' o c s :=
 ⟨m.ext_from a.ext (fun b hb e=>by have:=hZ b e; omega),a.fr⟩
end Go.Proofs.YtcbbdnaelimpfaaGreat

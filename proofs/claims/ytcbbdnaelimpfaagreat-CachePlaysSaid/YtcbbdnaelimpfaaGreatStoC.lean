/- Store: the sorted names. Store: a going over pieces. Store: how many pieces there are. Store: picks. Store: crashed. Store: the laws' calls. -/
import Derived.Test.YtcbbdnaelimpfaaGreatStoB
import Derived.Test.YtcbbdnaelimpfaaGreatSrtD
import Derived.Test.YtcbbdnaelimpfaaGreatVcRange
import Derived.Test.YtcbbdnaelimpfaaGreatOpen
set_option linter.unusedSimpArgs false
set_option linter.unusedVariables false
namespace Go.Proofs.YtcbbdnaelimpfaaGreat
open Go.Vc
variable {K:VP} {h:Heap}

def stT:Nat:=9
def lsT:Nat:=105
end Go.Proofs.YtcbbdnaelimpfaaGreat
set_option linter.unusedSimpArgs false
set_option linter.unusedVariables false
namespace Go.Proofs.YtcbbdnaelimpfaaGreat
open Go.Vc
variable {K:VP} {h:Heap}

def psT:Nat:=170
def peT:Nat:=150
def seqV (sb:Nat):Value := .func (.func 121) #[] #[ptrV sb]
structure Pseq (h:Heap) (sb:Nat) (v:Value) (L:List (Int×Int)):Prop where
 cell:h[sb]? = some (.cells #[v] psT)
 row:OwnG peT 2 h v (L.flatMap faV)
 few:L.length≤1000000000000
theorem Pseq.mod {S:Nat→Prop} {h':Heap} {sb:Nat} {v:Value} {L:List (Int×Int)} (a:Pseq h sb v L) (m:Mod S h h') (h1:¬S sb) (h2:∀b,blkG v=some b→¬S b):Pseq h' sb v L :=
 ⟨(m.block _ (get_some_lt a.cell) h1).trans a.cell,a.row.mod m h2,a.few⟩
theorem Pseq.ext {h':Heap} {sb:Nat} {v:Value} {L:List (Int×Int)} (a:Pseq h sb v L) (e:Ext h h'):Pseq h' sb v L:=a.mod (S:=fun _=>False) (.of_ext e) (fun x=>x) (fun _ _ x=>x)
theorem faV_cell {e:Nat} {L:List (Int×Int)} {n c:Nat} {a:Addr} (o:OwnG e 2 h (.slice (some a) n c) (L.flatMap faV)) {i:Nat} (hi:i<L.length) :
 hcell h (elt a (i*2))=some (.int .i64 L[i].1)∧hcell h (elt a (i*2+1))=some (.int .i64 L[i].2):=by
 obtain ⟨h1,h2⟩:=faV_get L i hi
 have hl:=faV_len L
 have c1:=(o.cell (i:=i*2) omg).1
 have c2:=(o.cell (i:=i*2+1) omg).1
 rw [List.getElem?_eq_getElem omg] at h1 h2
 rw [c1,c2]
 exact ⟨h1,h2⟩

set_option maxHeartbeats 2000000 in
theorem RangeP {D:Value} {B:Nat→List Value→((Heap→Prop)→Heap→Prop)→(Heap→Prop)→(Code→Heap→Prop)→Heap→Prop} {aN aR:VP} {aE:Nat→VP} {sb:Nat} {v:Value} {L:List (Int×Int)} (hs:Pseq h sb v L) (Φ:Nat→Heap→Prop)
 (h0:∀g,Ext h g→g.size=h.size+2→Φ 0 g) (hst:∀i g g',Φ i g→Ext g g'→Φ i g')
 (hround:∀i (hi:i<L.length) (g:Heap) (oR oB:Obj) (J:Code→Heap→Prop) (X:Heap→Prop),Φ i g→h.size+2≤g.size→g[h.size]? = some (.deferred (some []))→g[h.size+1]? = some oR→isLoop oR=true→isLoop oB=true →
  (∀g' (S:Nat→Prop),Φ (i+1) g'→g'[h.size+1]? = some oR→Mod S g g'→¬S h.size→¬S sb→(∀b,blkG v=some b→¬S b)→X g') →
  B (h.size+1) [.agg #[.int .i64 L[i].1,.int .i64 L[i].2]] (fun k h1=>h1[h.size+1]? = some oR∧k (h1.setIfInBounds (h.size+1) oB)) (fun h4=>h4[h.size+1]? = some oB∧X (h4.setIfInBounds (h.size+1) oR)) J g)
 (hend:∀g oE,Φ L.length g→g[h.size]? = some (.deferred (some []))→h.size+1<g.size→(∃o,g[h.size+1]? = some o∧isLoop o=true)→aN (consD h.size D) (g.setIfInBounds (h.size+1) oE)) :
 RangeC Tryz.prog none (seqV sb) 1 D B aN aR aE h ⟨⟩ ⟨⟩ ⟨⟩ ⟨⟩:=by
 refine RangeC_none rfl fun oR oB oE oX oF Kp hoR hoB hrd hN hR hX => ?_
 refine InvokeH_k1 kR ?_
 refine (⟨_,rfl⟩:∃g,g=(h.push (.deferred (some []))).push oR).elim fun g eg => ?_
 have zg:g.size=h.size+2:=by simp [eg]
 have eg':Ext h g:=by rw [eg]; exact extS
 have rD:g[h.size]? = some (.deferred (some [])):=by rw [eg,get_push sM,get_pushed rfl]
 have rL:g[h.size+1]? = some oR:=by rw [eg,get_pushed sM]
 rw [←eg]
 have p0:=h0 g eg' zg
 have s1:=hs.ext eg'
 clear eg
 obtain ⟨va,vn,vc,rfl,hvl,hvc,hvne⟩:=hs.row.form
 have hfew:=hs.few
 rw [faV_len] at hvl
 obtain rfl:vn=L.length:=by omega
 have c1:=cellOf (i:=0) s1.cell rfl
 refine n121_calls ?_
 unfold n121 ptrV; try delta vF vG vC vD vJ vV vk vt
 simp (disch:=omega) [c1]
 refine loopX1 (α:=Nat) (fun a => .int .i64 a) (fun i g'=>i≤L.length∧Φ i g'∧g'[h.size]? = some (.deferred (some []))∧g'[h.size+1]? = some oR∧Pseq g' sb (.slice va L.length vc) L) (fun i=>L.length-i) 0 rfl ⟨by omega,p0,rD,rL,s1⟩ ?_
 rintro i g' ⟨hi,hp,hd,hl,ho⟩ X hX
 have hlt:=get_some_lt hl
 by_cases hil:i<L.length
 ·have inv:∀(g2:Heap) (K0:VP),Ext g' g2→(∀g3 (S:Nat→Prop),Φ (i+1) g3→g3[h.size+1]? = some oR→Mod S g2 g3→¬S h.size→¬S sb→(∀b,blkG (.slice va L.length vc)=some b→¬S b)→K0 (.bool true) g3)→InvokeH Tryz.prog (.func (.yield (h.size+1)) #[] #[]) #[.agg #[.int .i64 L[i].1,.int .i64 L[i].2]] g2 K0 ⟨⟩:=fun g2 K0 e2 hk =>
   hrd [.agg #[.int .i64 L[i].1,.int .i64 L[i].2]] g2 K0 rfl ((e2.block _ hlt).trans hl) (hround i hil g2 oR oB _ (fun g3=>K0 (.bool true) g3) (hst _ _ _ hp e2) (by have:=e2.size; omega) ((e2.block _ omg).trans hd) ((e2.block _ hlt).trans hl) hoR hoB hk)
  obtain ⟨vb,vo,rfl⟩:=hvne (by intro e; have:=faV_len L; rw [e] at this; simp at this; omega)
  obtain ⟨q0,q1⟩:=faV_cell ho.row hil
  simp (disch:=omega) [q0,q1]
  refine (fun key=>key _ ?_:(∀g2,Ext g' g2→InvokeH Tryz.prog (.func (.yield (h.size+1)) #[] #[]) #[.agg #[.int .i64 L[i].1,.int .i64 L[i].2]] g2 _ ⟨⟩)→_) (fun g2 e2 => ?_)
  ·exact extS
  ·refine inv g2 _ e2 fun g3 S p3 l3 m3 s1 s2 s3 => ?_
   simp (disch:=omega)
   refine hX (i+1) _ _ sM ⟨by omega,p3,?_,l3,?_⟩ omg
   ·exact (m3.block _ (by have:=e2.size; omega) s1).trans ((e2.block _ omg).trans hd)
   ·exact (ho.ext e2).mod m3 s2 s3
 ·have:i=L.length:=by omega
  subst this
  simp (disch:=omega)
  refine hN _ _ hl ?_
  exact hend g' oE hp hd hlt ⟨oR,hl,hoR⟩

def ppL (ps:List Pc):List (Int×Int):=ps.map fun p=>((p.at_:Int),(p.b.length:Int))
def St.psOf (s:St) (l:List UInt8):List Pc:=if okName l then (match s.get l with|some x=>x.f.ps|none=>[]) else []
set_option maxHeartbeats 2000000 in
theorem Pieces_c {p:Nat} {s:St} {l:List UInt8} (a:StAt h p s) (hl:l.length<9223372036854775808) (H:∀h' sb v,Ext h h'→Pseq h' sb v (ppL (s.psOf l))→h.size≤sb→(∀b,blkG v=some b→h.size≤b)→K (seqV sb) h') :
 CallsH Tryz.prog 49 #[ptrV p,str l] h K ⟨⟩:=by
 refine n49_calls ?_
 unfold n49; try delta vF vG vC vD vJ vV vk vt
 refine JoinN_in1 (fun v g=>Ext h g∧OwnG peT 2 g v ((ppL (s.psOf l)).flatMap faV)∧(∀b,blkG v=some b→h.size≤b)) (fun kk hkk => ?_) (fun v g hv => ?_)
 ·refine find_c3 a hl (fun h1 e1 ho => ?_) (fun h1 e1 ho hg => ?_) (fun h1 A B x e1 ho hg hF hn => ?_)
  ·simp (disch:=omega)
   have:s.psOf l=[]:=by unfold St.psOf; rw [if_neg ho]
   rw [this] at hkk
   exact hkk _ _ ⟨e1,.nil,fun b hb=>by cases hb⟩
  ·simp (disch:=omega)
   have:s.psOf l=[]:=by unfold St.psOf; rw [if_pos ho,hg]
   rw [this] at hkk
   exact hkk _ _ ⟨e1,.nil,fun b hb=>by cases hb⟩
  have hps:s.psOf l=x.f.ps:=by unfold St.psOf; rw [if_pos ho,hg]
  rw [hps] at hkk
  have hx:x∈s.F:=by rw [hF]; simp
  have hpf:=a.pfew x hx
  have hst0:=a.stp
  have hfl:=(a.ext e1).fl x hx
  have c1:=cellOf (i:=1) hfl.cells rfl
  obtain ⟨pa,pn,pc,hpv,hpl,hpc,hpne⟩:=hfl.ps.form
  rw [pcV_len] at hpl
  obtain rfl:pn=x.qs.length:=by omega
  have c1':hcell h1 ⟨x.b,1,none⟩=some (.slice pa x.qs.length pc):=hpv▸c1
  have op:=hfl.ps
  rw [hpv] at op
  unfold ptrV
  simp (disch:=omega) [c1']
  have hz1:=e1.size
  refine loopX2 (α:=Nat×Value) (fun a=>a.2) (fun a => .int .i64 a.1) (fun a g=>a.1≤x.qs.length∧Ext h1 g∧OwnG peT 2 g a.2 ((ppL (x.f.ps.take a.1)).flatMap faV)∧∀c,blkG a.2=some c→h1.size≤c) (fun a=>x.qs.length-a.1) (0,.slice none 0 0) ⟨rfl,rfl⟩ ⟨Nat.zero_le _,.refl _,.nil,fun c hc=>by cases hc⟩ ?_
  rintro ⟨i,sv⟩ g ⟨hi,eg,os,hb⟩ X hX
  dsimp only at hi os hb hX ⊢
  by_cases hiq:i<x.qs.length
  ·obtain ⟨pb,po,rfl⟩:=hpne (by intro e; have:=pcV_len x.qs; rw [e] at this; simp at this; omega)
   have pg:=op.ext eg
   obtain ⟨p1,p2⟩:=piece_cell (v:=x.pv) pg hiq
   have hqm:x.qs[i]∈x.qs:=List.getElem_mem hiq
   obtain ⟨qa,qc,hqv⟩:=(hfl.bs _ hqm).form
   obtain ⟨qok,qfit⟩:=hfl.ok.pc x.qs[i].1 (List.mem_map_of_mem hqm)
   have qone:=qok.one
   rw [hqv] at p2
   simp (disch:=omega) [p1,p2]
   have hps:x.f.ps=x.qs.map (·.1):=rfl
   have hpl':x.f.ps.length=x.qs.length:=by rw [hps,List.length_map]
   have ht:ppL (x.f.ps.take (i+1))=ppL (x.f.ps.take i)++[((x.qs[i].1.at_:Int),(x.qs[i].1.b.length:Int))]:=by
    unfold ppL
    rw [List.take_succ_eq_append_getElem omg,List.map_append]
    simp [hps]
   have hE1:∀o:Obj,Ext g ((hset (hset (g.push (.cells #[.int .i64 0,.slice none 0 0] 162)) ⟨g.size,0,none⟩ (.int .i64 x.qs[i].1.at_)) ⟨g.size,1,none⟩ (.slice qa x.qs[i].1.b.length qc)).push o):=fun o=>extS
   have hlk:(ppL (x.f.ps.take i)).length≤1000000000000:=by
    unfold ppL
    rw [List.length_map,List.length_take]; omega
   refine Hp_appendG (e:=peT) (s:=2) (by_:=16) (n:=(ppL (x.f.ps.take i)).length) (k:=1) (news:=[.int .i64 x.qs[i].1.at_,.int .i64 x.qs[i].1.b.length]) kR kR (os.ext (hE1 _)) (faV_len _) omg
    (.inr (.inl ⟨_,1,rfl,rfl,Seg_new sM⟩)) (by simp [one]) omg omg fun sv' g5 o5 m5 f5 _ => ?_
   simp (disch:=omega)
   have hgz:=eg.size
   refine hX (i+1,sv') _ _ _ rfl sM ⟨hiq,m5.ext_from (eg.trans (hE1 _)) (fun c hc e=>by have:=hb c e; omega),?_,fun c hc=>(f5 c hc).elim (hb c) (fun e=>by simp at e; omega)⟩ (by dsimp only; omega)
   dsimp only
   rw [ht]
   simpa [faV] using o5
  ·obtain rfl:i=x.qs.length:=by omega
   simp (disch:=omega)
   have:x.f.ps.take x.qs.length=x.f.ps:=List.take_of_length_le (by simp [Fh.f])
   rw [this] at os
   exact hkk _ _ ⟨e1.trans eg,os,fun b hb'=>by have:=hb b hb'; omega⟩
 ·obtain ⟨e1,ov,hb⟩:=hv
  refine n90_calls ?_
  unfold n90; try delta vF vG vC vD vJ vV vk vt
  obtain ⟨va,vn,vc,rfl,-,-,-⟩:=ov.form
  simp (disch:=omega)
  have hz:=e1.size
  have hfew:(ppL (s.psOf l)).length≤1000000000000:=by
   unfold ppL St.psOf
   rw [List.length_map]
   split
   ·split
    ·rename_i x hx
     have:=a.pfew x (List.mem_of_find?_eq_some hx)
     have:=a.stp
     have:x.f.ps.length=x.qs.length:=by simp [Fh.f]
     omega
    ·simp
   ·simp
  exact H _ g.size (.slice va vn vc) (e1.trans extS) ⟨get_pushed rfl,ov.ext extS,hfew⟩ hz hb
end Go.Proofs.YtcbbdnaelimpfaaGreat
set_option linter.unusedSimpArgs false
set_option linter.unusedVariables false
namespace Go.Proofs.YtcbbdnaelimpfaaGreat
open Go.Vc
variable {K:VP} {h:Heap}

def St.pend (s:St):Nat:=(s.F.map fun x=>x.f.ps.length).sum
end Go.Proofs.YtcbbdnaelimpfaaGreat
set_option linter.unusedSimpArgs false
set_option linter.unusedVariables false
namespace Go.Proofs.YtcbbdnaelimpfaaGreat
open Go.Vc
variable {K:VP} {h:Heap}

def inV (n:Int):Value := .int .i64 n
structure Its (h:Heap) (v:Value) (l:List Int):Prop where
 src:Src 1 h v l.length (l.map inV)
 form:∃a c,v = .slice a l.length c∧l.length≤c
 few:l.length<9223372036854775808
 ok:∀n∈l,-9223372036854775808≤n∧n<9223372036854775808
def pickB:List Int→Bool
 | []=>false
 | k::_=>decide (k%2=1)
def isT:Nat:=49
end Go.Proofs.YtcbbdnaelimpfaaGreat
set_option linter.unusedSimpArgs false
set_option linter.unusedVariables false
namespace Go.Proofs.YtcbbdnaelimpfaaGreat
open Go.Vc
variable {K:VP} {h:Heap}

def St.flOf (s:St) (n:List UInt8):Fl:=match s.get n with|some x=>x.f|none=>⟨n,[],[]⟩
def npc (fs:List Fl):Nat:=(fs.map fun f=>f.ps.length).sum
end Go.Proofs.YtcbbdnaelimpfaaGreat
set_option linter.unusedSimpArgs false
set_option linter.unusedVariables false
namespace Go.Proofs.YtcbbdnaelimpfaaGreat
open Go.Vc
variable {K:VP} {h:Heap}

def i64 (n:Int):Prop := -9223372036854775808≤n∧n<9223372036854775808
structure Stp where
 kind:Int
 n:Int
 at_:Int
 name:List UInt8
 bv:Value
 fv:Value
 pv:Value
 b:List UInt8
 fs:List (Int×Int)
 pl:List Int
def Stp.cells (x:Stp):List Value:=[.int .i64 x.kind,.int .i64 x.n,.int .i64 x.at_,str x.name,x.bv,x.fv,x.pv]
structure StpOk (h:Heap) (x:Stp):Prop where
 kind:i64 x.kind
 n:i64 x.n
 at_:i64 x.at_
 name:x.name.length<9223372036854775808
 b:Bytes h x.bv x.b
 bl:x.b.length<9223372036854775808
 fs:Fas h x.fv x.fs
 pl:Its h x.pv x.pl
structure Sps (h:Heap) (v:Value) (xs:List Stp):Prop where
 slc:Slc 7 h v (fun us x=>us=x.cells) xs
 ok:∀x∈xs,StpOk h x
 len:xs.length<9223372036854775808
theorem slc_ext {α:Type} {s:Nat} {h':Heap} {v:Value} {R:List Value→α→Prop} {xs:List α} (a:Slc s h v R xs) (e:Ext h h'):Slc s h' v R xs:=by
 rcases a with a|⟨a,c,h1,h2,h3⟩
 ·exact .inl a
 ·refine .inr ⟨a,c,h1,h2,fun i hi => ?_⟩
  obtain ⟨us,h4,h5,h6⟩:=h3 i hi
  exact ⟨us,h4,h5.ext e,h6⟩
theorem slc_seg {α:Type} {s:Nat} {a:Addr} {f:α→List Value}:∀(xs:List α) (k:Nat),(∀x,(f x).length=s)→(∀(i:Nat) (hi:i<xs.length),Seg h (elt a ((k+i)*s)) (f xs[i]))→Seg h (elt a (k*s)) (xs.flatMap f)
 | [],k,_,_=>fun i hi=>by simp at hi
 | x::xs,k,hf,H=>by
  have ih:=slc_seg xs (k+1) hf (fun i hi=>by
   have:=H (i+1) (by simpa using hi)
   rw [show k+1+i=k+(i+1) by omega]
   simpa using this)
  have h0:=H 0 sM
  intro i hi
  rw [List.flatMap_cons] at hi
  by_cases h1:i<(f x).length
  ·have:=h0 i (by simpa using h1)
   simp only [Nat.add_zero,List.getElem_cons_zero] at this
   rw [this]
   simp only [List.flatMap_cons]
   rw [List.getElem_append_left h1]
  ·have hl:=hf x
   have:=ih (i-s) (by rw [List.length_append] at hi; omega)
   rw [elt_elt,Nat.add_mul,Nat.one_mul,show k*s+s+(i-s)=k*s+i by omega] at this
   rw [elt_elt,this]
   simp only [List.flatMap_cons]
   rw [List.getElem_append_right omg]
   simp only [hl]
theorem Fas.of {v:Value} {fs:List (Int×Int)} (s:Slc 2 h v (fun us f=>us=faV f) fs) (hl:fs.length<9223372036854775808) (ho:∀f∈fs,i64 f.1∧i64 f.2):Fas h v fs:=by
 refine ⟨?_,?_,hl,fun f hf=>⟨(ho f hf).1.1,(ho f hf).1.2,(ho f hf).2.1,(ho f hf).2.2⟩⟩
 ·rcases s with ⟨rfl,rfl⟩|⟨a,c,rfl,h2,h3⟩
  ·exact .inl ⟨rfl,rfl,rfl⟩
  ·refine .inr (.inl ⟨a,c,rfl,faV_len _,?_⟩)
   have:=slc_seg (h:=h) (a:=a) (s:=2) (f:=faV) fs 0 (fun x=>rfl) (fun i hi=>by
    obtain ⟨us,-,h5,rfl⟩:=h3 i hi
    rw [Nat.zero_add]; exact h5)
   simpa using this
 ·rcases s with ⟨rfl,rfl⟩|⟨a,c,rfl,h2,h3⟩
  ·exact ⟨none,0,rfl,Nat.le_refl _⟩
  ·exact ⟨_,c,rfl,h2⟩
section
open Go Go.ChangeShapes Go.WideShapes Go.ChangeAt Go.RowKit Go.Deep
variable {H:Type} {enc:TypeId×Value→H} {w:World} {base:Nat} {sp:Nat→Bool} {held:Bool}
theorem i64_of {n:Int} (h:IntKind.i64.min≤n∧n≤IntKind.i64.max):i64 n:=by
 have h1:IntKind.i64.min = -9223372036854775808:=by decide
 have h2:IntKind.i64.max=9223372036854775807:=by decide
 unfold i64; omega
theorem laid_fate {cs:List Value} (h:Laid enc Tryz.prog w base sp held 118 cs):∃f:Int×Int,cs=faV f∧i64 f.1∧i64 f.2:=by
 obtain ⟨hl,hL⟩:=h.flds (L:=[(116,0,1),(3,1,1)]) (n:=2) kR kR
 obtain ⟨c0,c1,rfl⟩:=len2 hl
 obtain ⟨n0,hn0,r0,r0'⟩:=(hL 0 _ _ _ rfl).int (k := .i64) kR
 obtain rfl:c0 = .int .i64 n0:=by simpa using hn0
 obtain ⟨n1,hn1,r1,r1'⟩:=(hL 1 _ _ _ rfl).int (k := .i64) kR
 obtain rfl:c1 = .int .i64 n1:=by simpa using hn1
 exact ⟨(n0,n1),rfl,i64_of ⟨r0,r0'⟩,i64_of ⟨r1,r1'⟩⟩
theorem max63 {n:Nat} (h:n≤maxLen):n<9223372036854775808:=Nat.lt_of_le_of_lt h dM
theorem slc_ok {α:Type} {s:Nat} {h:Heap} {v:Value} {R:List Value→α→Prop} {q:α→Prop} {f:α→List Value} {xs:List α} (a:Slc s h v R xs) (hR:∀us x,R us x→us=f x∧q x):Slc s h v (fun us x=>us=f x) xs∧∀x∈xs,q x:=by
 rcases a with ⟨rfl,rfl⟩|⟨a,c,rfl,h2,h3⟩
 ·exact ⟨.inl ⟨rfl,rfl⟩,fun x hx=>by cases hx⟩
 ·refine ⟨.inr ⟨a,c,rfl,h2,fun i hi => ?_⟩,fun x hx => ?_⟩
  ·obtain ⟨us,h4,h5,h6⟩:=h3 i hi
   exact ⟨us,h4,h5,(hR _ _ h6).1⟩
  ·obtain ⟨i,hi,rfl⟩:=List.getElem_of_mem hx
   obtain ⟨us,h4,h5,h6⟩:=h3 i hi
   exact (hR _ _ h6).2
theorem laid_fates {cs:List Value} (h:Laid enc Tryz.prog w base sp held 48 cs):∃(v:Value) (fs:List (Int×Int)),cs=[v]∧Fas w.heap v fs:=by
 obtain ⟨v,fs,rfl,hs,hl⟩:=h.slice (e:=118) (R:=fun us (f:Int×Int)=>us=faV f∧i64 f.1∧i64 f.2) kR (fun us hu=>laid_fate hu)
 have hc:Program.cellsOf Tryz.prog 118=2:=by kernel_rfl
 rw [hc] at hs
 obtain ⟨s1,s2⟩:=slc_ok (f:=faV) hs (fun us x hx=>hx)
 exact ⟨v,fs,rfl,Fas.of s1 (max63 hl) s2⟩
end
end Go.Proofs.YtcbbdnaelimpfaaGreat

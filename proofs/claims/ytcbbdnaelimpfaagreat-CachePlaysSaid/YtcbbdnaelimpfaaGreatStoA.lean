/- Store: a file in memory; grown. Store: copies; names; a byte looked for. Store: the whole of it in memory; names; files found; steps. Store: a step. Store: a piece is laid. Store: one file of it has changed. Store: bytes written. Store: flushed. -/
import Derived.Test.YtcbbdnaelimpfaaGreatNice
import Derived.Test.YtcbbdnaelimpfaaGreatFacts
import Derived.Test.YtcbbdnaelimpfaaGreatStoP
import Derived.Test.YtcbbdnaelimpfaaGreatVcMapL
import Derived.Test.YtcbbdnaelimpfaaGreatVcStr
import Derived.Test.YtcbbdnaelimpfaaGreatSrtK
set_option linter.unusedSimpArgs false
set_option linter.unusedVariables false
namespace Go.Proofs.YtcbbdnaelimpfaaGreat
open Go.Vc
variable {K:VP} {h:Heap}

def bT:Nat:=5
def pT:Nat:=162
def fT:Nat:=115
theorem bT_fT:bT≠fT:=by decide
theorem pT_fT:pT≠fT:=by decide
theorem bT_pT:bT≠pT:=by decide
theorem cellOf {b i:Nat} {c:Array Value} {e:TypeId} {v:Value} (hb:h[b]? = some (.cells c e)) (hi:c[i]? = some v):hcell h ⟨b,i,none⟩=some v:=(hcell_of_block hb).trans hi
theorem frzOf {b i:Nat} {c:Array Value} {e:TypeId} (hb:h[b]? = some (.cells c e)):hfrozen h ⟨b,i,none⟩=false:=by rw [hfrozen_of_block hb]; simp

structure Fh where
 name:List UInt8
 last:List UInt8
 qs:List (Pc×Value)
 b:Nat
 lv:Value
 pv:Value
 nv:Value
def Fh.f (x:Fh):Fl:=⟨x.name,x.last,x.qs.map (·.1)⟩
def pcV (q:Pc×Value):List Value:=[.int .i64 (q.1.at_:Nat),q.2]
def Fh.own (x:Fh) (b:Nat):Prop:=b=x.b∨blkG x.lv=some b∨blkG x.pv=some b∨blkG x.nv=some b
structure FlAt (h:Heap) (x:Fh):Prop where
 cells:h[x.b]? = some (.cells #[x.lv,x.pv,x.nv] fT)
 last:OwnG bT 1 h x.lv (x.last.map byteV)
 now:OwnG bT 1 h x.nv (x.f.now.map byteV)
 ps:OwnG pT 2 h x.pv (x.qs.flatMap pcV)
 bs:∀q∈x.qs,Bytes h q.2 q.1.b
 ok:x.f.ok
 ne:∀b,blkG x.lv=some b→blkG x.nv≠some b
 ap:∀q∈x.qs,∀b,blkV q.2=some b→¬x.own b
theorem FlAt.len {x:Fh} (a:FlAt h x):x.f.now.length=x.last.length:=a.ok.now_len
theorem FlAt.lt {x:Fh} (a:FlAt h x) {b:Nat} (hb:x.own b):b<h.size:=by
 rcases hb with rfl|hb|hb|hb
 ·exact get_some_lt a.cells
 ·exact a.last.lt hb
 ·exact a.ps.lt hb
 ·exact a.now.lt hb
theorem FlAt.plt {x:Fh} (a:FlAt h x) {q:Pc×Value} (hq:q∈x.qs) {b:Nat} (hb:blkV q.2=some b):b<h.size:=by
 refine (a.bs q hq).lt hb (fun e => ?_)
 have:=(a.ok.pc q.1 (List.mem_map_of_mem hq)).1.pos
 rw [e] at this; simp at this
theorem FlAt.mod {S:Nat→Prop} {h':Heap} {x:Fh} (a:FlAt h x) (m:Mod S h h') (h1:∀b,x.own b→¬S b) (h2:∀q∈x.qs,∀b,blkV q.2=some b→¬S b):FlAt h' x :=
 ⟨(m.block _ (get_some_lt a.cells) (h1 _ (.inl rfl))).trans a.cells,a.last.mod m (fun b hb=>h1 b (.inr (.inl hb))),a.now.mod m (fun b hb=>h1 b (.inr (.inr (.inr hb)))),
  a.ps.mod m (fun b hb=>h1 b (.inr (.inr (.inl hb)))),fun q hq=>(a.bs q hq).mod m (h2 q hq),a.ok,a.ne,a.ap⟩
theorem FlAt.ext {h':Heap} {x:Fh} (a:FlAt h x) (e:Ext h h'):FlAt h' x:=a.mod (S:=fun _=>False) (.of_ext e) (fun _ _ x=>x) (fun _ _ _ _ x=>x)

structure Upd (h h':Heap) (x x':Fh):Prop where
 fl:FlAt h' x'
 mod:Mod x.own h h'
 own:∀b,x'.own b→x.own b∨h.size≤b
 pcs:∀q∈x'.qs,∀b,blkV q.2=some b→(∃q0∈x.qs,blkV q0.2=some b)∨h.size≤b
 b:x'.b=x.b
 name:x'.name=x.name
theorem Upd.refl {x:Fh} (a:FlAt h x):Upd h h x x:=⟨a,.refl _ _,fun _ h => .inl h,fun q hq b hb => .inl ⟨q,hq,hb⟩,rfl,rfl⟩
theorem Upd.trans {h1 h2:Heap} {x y z:Fh} (u:Upd h h1 x y) (v:Upd h1 h2 y z):Upd h h2 x z:=by
 have hs:=u.mod.size
 refine ⟨v.fl,u.mod.trans v.mod (fun b hb hy=>(u.own b hy).resolve_right omg),fun b hb => ?_,fun q hq b hb => ?_,v.b.trans u.b,v.name.trans u.name⟩
 ·rcases v.own b hb with h3|h3
  ·exact u.own b h3
  ·exact .inr omg
 ·rcases v.pcs q hq b hb with ⟨q0,h3,h4⟩|h3
  ·exact u.pcs q0 h3 b h4
  ·exact .inr omg
set_option maxHeartbeats 1000000 in
theorem grow_c {x:Fh} {n:Nat} (a:FlAt h x) (hn:n≤268435456) (H:∀h' lv nv,Upd h h' x { x with last:=growL x.last n,lv:=lv,nv:=nv }→K (.tuple #[]) h') :
 CallsH Tryz.prog 78 #[ptrV x.b,.int .i64 n] h K ⟨⟩:=by
 refine n78_calls ?_
 unfold n78 ptrV; try delta vF vG vC vD vJ vV vk vt
 obtain ⟨na,nn,nc,hnv,hnl,hnc,-⟩:=a.now.form
 have hln:=a.len
 have hfew:x.last.length≤268435456:=a.ok.few
 have hnn:nn=x.last.length:=by simpa [hln] using hnl.symm
 subst hnn
 have c0:=cellOf (i:=0) a.cells rfl
 have c2:=cellOf (i:=2) a.cells rfl
 have f0:=frzOf (i:=0) a.cells
 have f2:=frzOf (i:=2) a.cells
 rw [hnv] at c2
 by_cases hg:n≤x.last.length
 ·simp (disch:=omega) [c2]
  refine H h x.lv x.nv ?_
  have:growL x.last n=x.last:=growL_same hg
  rw [this]
  exact .refl a
 ·simp (disch:=omega) [c2]
  have o2:=a.now
  rw [hnv] at o2
  refine Hp_appendGM (e:=bT) (by_:=1) (n:=x.last.length) (k:=n-x.last.length) (z:=byteV 0) omg kR kR kR rfl o2 (by simp [hln]) omg omg fun nv' h1 o3 m3 fr3 _ => ?_
  have hxb:∀b,blkG x.nv=some b→b≠x.b:=fun b hb=>a.now.ne hb a.cells bT_fT
  have hlb:∀b,blkG x.lv=some b→b≠x.b:=fun b hb=>a.last.ne hb a.cells bT_fT
  have hpb:∀b,blkG x.pv=some b→b≠x.b:=fun b hb=>a.ps.ne hb a.cells pT_fT
  have hpl:=get_some_lt a.cells
  rw [←hnv] at m3 fr3
  have c3:=(m3.block x.b hpl (fun e=>hxb _ e rfl)).trans a.cells
  have d0:=cellOf (i:=0) c3 rfl
  have d2:=cellOf (i:=2) c3 rfl
  have e0:=frzOf (i:=0) c3
  have e2:=frzOf (i:=2) c3
  obtain ⟨na',nn',nc',hnv',hnl',hnc',-⟩:=o3.form
  rw [hnv']
  rw [hnv'] at o3 fr3
  simp (disch:=omega) [d2,e2,d0]
  have m4:Mod (fun b=>blkG x.nv=some b∨b=x.b) h (hset h1 ⟨x.b,2,none⟩ (.slice na' nn' nc')):=Mod.setIn (m3.mono (fun b _ e => .inl e)) (.inl (.inr rfl))
  have c4:=obj_set (i:=2) (v := .slice na' nn' nc') c3
  refine (⟨_,rfl⟩:∃g,g=hset h1 ⟨x.b,2,none⟩ (.slice na' nn' nc')).elim fun h2 eh2 => ?_
  rw [←eh2] at m4 c4 ⊢
  have o4:OwnG bT 1 h2 (.slice na' nn' nc') ((x.f.now++zeros (n-x.last.length)).map byteV):=by
   rw [eh2]
   have:=o3.mod (Mod.set h1 ⟨x.b,2,none⟩ (.slice na' nn' nc')) (fun b hb e=>o3.ne hb c3 bT_fT e)
   simpa [zeros] using this
  have l4:OwnG bT 1 h2 x.lv (x.last.map byteV):=a.last.mod m4 (fun b hb e=>e.elim (fun e=>a.ne b hb e) (hlb b hb))
  have z2:h2.size=h1.size:=by rw [eh2]; simp
  have z1:=m3.size
  clear eh2
  refine Hp_appendGM (e:=bT) (by_:=1) (n:=x.last.length) (k:=n-x.last.length) (z:=byteV 0) omg kR kR kR rfl l4 sM omg omg fun lv' h3 o5 m5 fr5 _ => ?_
  have c5:=(m5.block x.b (by have:=get_some_lt c4; omega) (fun e=>hlb _ e rfl)).trans c4
  have g0:=frzOf (i:=0) c5
  have k0:=cellOf (i:=0) c5 rfl
  obtain ⟨la',ln',lc',hlv',hll',hlc',-⟩:=o5.form
  rw [hlv'] at o5 fr5 ⊢
  simp (disch:=omega) [g0,k0]
  have hl5:∀b,blkG (.slice la' ln' lc')=some b→b≠x.b:=fun b hb=>o5.ne hb c5 bT_fT
  have hn5:∀b,blkG (.slice na' nn' nc')=some b→b≠x.b:=fun b hb=>o4.ne hb c4 bT_fT
  have hnl5:∀b,blkG (.slice na' nn' nc')=some b→blkG x.lv≠some b:=fun b hb e=>(fr3 b hb).elim (fun e2=>a.ne b e e2) (fun e2=>by have:=a.last.lt e; omega)
  have m6:=Mod.set h3 ⟨x.b,0,none⟩ (.slice la' ln' lc')
  have m7:Mod (fun b=>b=x.b∨blkG x.lv=some b∨blkG x.nv=some b) h (hset h3 ⟨x.b,0,none⟩ (.slice la' ln' lc')):=by
   refine Mod.setIn ((m4.mono (T:=fun b=>b=x.b∨blkG x.lv=some b∨blkG x.nv=some b) (fun b _ e => ?_)).trans m5 (fun b _ e => .inr (.inl e))) (.inl (.inl rfl))
   rcases e with e|e
   ·exact .inr (.inr e)
   ·exact .inl e
  have m8:Mod x.own h (hset h3 ⟨x.b,0,none⟩ (.slice la' ln' lc')):=m7.mono (fun b _ e=>e.elim .inl (fun e=>e.elim (fun e => .inr (.inl e)) (fun e => .inr (.inr (.inr e)))))
  have hap:∀q∈x.qs,∀b,blkV q.2=some b→¬x.own b:=a.ap
  have hs3:=m5.size
  have own':∀b,({ x with last:=growL x.last n,lv := .slice la' ln' lc',nv := .slice na' nn' nc' }:Fh).own b→x.own b∨h.size≤b:=by
   rintro b (e|e|e|e)
   ·exact .inl (.inl e)
   ·exact (fr5 b e).imp (fun e => .inr (.inl e)) (fun e=>by omega)
   ·exact .inl (.inr (.inr (.inl e)))
   ·exact (fr3 b e).imp (fun e => .inr (.inr (.inr e))) id
  have cut:({ x with last:=growL x.last n,lv := .slice la' ln' lc',nv := .slice na' nn' nc' }:Fh).f.now=x.f.now++zeros (n-x.last.length):=by
   have:=a.ok.now_grow n
   unfold growL at this
   rw [hln] at this
   exact this
  refine H (hset h3 ⟨x.b,0,none⟩ (.slice la' ln' lc')) (.slice la' ln' lc') (.slice na' nn' nc') ⟨⟨?_,?_,?_,?_,?_,a.ok.grow hn,?_,?_⟩,m8,own',fun q hq b hb => .inl ⟨q,hq,hb⟩,rfl,rfl⟩
  ·exact obj_set c5
  ·have:=o5.mod m6 (fun b hb e=>hl5 b hb e)
   show OwnG bT 1 _ _ ((growL x.last n).map byteV)
   simpa [growL,zeros] using this
  ·rw [cut]
   exact (o4.mod m5 (fun b hb e=>hnl5 b hb e)).mod m6 (fun b hb e=>hn5 b hb e)
  ·refine a.ps.mod m7 (fun b hb e => ?_)
   rcases e with e|e|e
   ·exact hpb b hb e
   ·obtain ⟨arr,ha⟩:=a.last.tag e
    exact a.ps.ne hb ha bT_pT.symm rfl
   ·obtain ⟨arr,ha⟩:=a.now.tag e
    exact a.ps.ne hb ha bT_pT.symm rfl
  ·exact fun q hq=>(a.bs q hq).mod m8 (fun b hb=>hap q hq b hb)
  ·intro b hb e
   rcases fr5 b hb with e1|e1
   ·exact hnl5 b e e1
   ·have:=o4.lt e; omega
  ·exact fun q hq b hb e=>(own' b e).elim (hap q hq b hb) (fun e=>by have:=a.plt hq hb; omega)
end Go.Proofs.YtcbbdnaelimpfaaGreat
set_option linter.unusedSimpArgs false
set_option linter.unusedVariables false
namespace Go.Vc
open Go
section
variable {P:Program} {q:Bool} {h:Heap}
theorem hp_loadBytes:∀(l:List UInt8) (a:Addr) (acc:ByteArray) (K:ByteArray→Heap→Prop),At h a l→K ⟨acc.data++⟨l⟩⟩ h→hp P q (Extern.Bytes.loadBytes a l.length acc) K h
 | [],a,acc,K,_,H=>by
  show K acc h
  cases acc; simpa using H
 | b::l,a,acc,K,hA,H=>by
  show hp P q (load a >>= _) K h
  rw [hp_bind',hp_load]
  have h0:=hA 0 sM
  have e0:elt a 0=a:=by simp
  rw [e0] at h0
  rw [h0]
  refine ⟨?_⟩
  show hp P q (Extern.Bytes.loadBytes (a.add 1) l.length (acc.push _)) K h
  refine hp_loadBytes l _ _ K (fun i hi => ?_) ?_
  ·have:=hA (i+1) (by simpa using hi)
   show hcell h (elt (elt a 1) i)=_
   rw [elt_elt,Nat.add_comm 1 i]
   simpa using this
  ·have e1:((b.toNat:Int).toNat.toUInt8)=b:=by simp
   show K ⟨(acc.push ((b.toNat:Int).toNat.toUInt8)).data++⟨l⟩⟩ h
   rw [e1]
   have:(acc.push b).data++(⟨l⟩:Array UInt8)=acc.data++⟨b::l⟩:=by
    cases acc; simp [ByteArray.push]
   rw [this]; exact H
theorem hp_bytesOf {v:Value} {l:List UInt8} {K:ByteArray→Heap→Prop} (hB:Bytes h v l) (H:K ⟨⟨l⟩⟩ h):hp P q (Extern.Bytes.bytesOf v) K h:=by
 rcases hB with ⟨rfl,rfl⟩|⟨a,c,rfl,-,hA⟩
 ·exact H
 ·exact hp_loadBytes l a .empty K hA (by simpa using H)
end
end Go.Vc
namespace Go.Proofs.YtcbbdnaelimpfaaGreat
open Go.Vc
variable {K:VP} {h:Heap}

def idxB (l:List UInt8) (b:UInt8):Int:=match (List.range (ByteArray.mk ⟨l⟩).size).find? fun i=>(ByteArray.mk ⟨l⟩)[i]! == b with|some i=>i|none => -1
theorem idxB_nonneg {l:List UInt8} {b:UInt8}:0≤idxB l b↔b∈l:=by
 have hg:∀i (hi:i<l.length),(ByteArray.mk ⟨l⟩)[i]! = l[i]:=fun i hi=>by
  rw [getElem!_pos (ByteArray.mk ⟨l⟩) i (by simpa using hi)]; rfl
 unfold idxB
 cases hf:(List.range (ByteArray.mk ⟨l⟩).size).find? fun i=>(ByteArray.mk ⟨l⟩)[i]! == b with
 | none =>
  simp only
  rw [List.find?_eq_none] at hf
  constructor
  ·intro h; omega
  ·intro h
   obtain ⟨i,hi,rfl⟩:=List.mem_iff_getElem.1 h
   have:=hf i (by simpa using hi)
   rw [hg i hi] at this
   simp at this
 | some i =>
  have h1:=List.find?_some hf
  have h2:=List.mem_of_find?_eq_some hf
  simp at h2
  rw [hg i h2] at h1
  simp only
  constructor
  ·intro _; rw [←eq_of_beq h1]; exact List.getElem_mem _
  ·intro _; omega
theorem IndexByteB_c {v:Value} {l:List UInt8} {b:UInt8} (hB:Bytes h v l) (H:K (.int .i64 (idxB l b)) h):ExtH Tryz.prog 128 #[v,byteV b] h K ⟨⟩:=by
 refine ⟨_,Go.Extern.BytealgIndexByte.indexByte,Tryz.func128,by kernel_rfl,by kernel_rfl,by kernel_rfl,by kernel_rfl,?_⟩
 show hp _ _ (Extern.Bytes.bytesOf v >>= _) _ _
 rw [hp_bind']
 refine hp_bytesOf hB ?_
 show hp _ _ (match (List.range (ByteArray.mk ⟨l⟩).size).find? fun i=>(ByteArray.mk ⟨l⟩)[i]! == ((b.toNat:Int).toNat.toUInt8) with|some i=>pure (goInt i)|none=>pure (goInt (-1))) _ _
 rw [show ((b.toNat:Int).toNat.toUInt8)=b by simp]
 unfold idxB at H
 split<;>(rename_i hx; rw [hx] at H; exact H)

theorem bclone_c {v:Value} {n:Nat} {vs:List Value} (hs:Src 1 h v n vs) (hv:∃a c,v = .slice a n c) (hone:∀u∈vs,one u=true) (hn:n≤1000000000000) (H:∀v' h',Ext h h'→OwnG bT 1 h' v' vs→(∀b,blkG v'=some b→h.size≤b)→(∀b,blkV v'=some b→h.size≤b)→K v' h'):CallsH Tryz.prog 51 #[v] h K ⟨⟩:=by
 refine n51_calls ?_
 unfold n51; try delta vF vG vC vD vJ vV vk vt
 obtain ⟨a,c,rfl⟩:=hv
 cases a with
 | none =>
  rcases hs with ⟨e,rfl,rfl⟩|⟨a,c',e,-⟩|⟨l,e,-⟩
  ·rw [e]
   simp (disch:=omega)
   exact H _ _ (.refl _) .nil (fun b hb=>by cases hb) (fun b hb=>by cases hb)
  ·cases e
  ·cases e
 | some a =>
  simp (disch:=omega)
  have e0:Ext h (h.push (.cells #[] bT)):=extS
  have o0:OwnG bT 1 (h.push (.cells #[] bT)) (.slice (some ⟨h.size,0,none⟩) 0 0) [] := .nil
  refine Hp_appendG (e:=bT) (s:=1) (by_:=1) (n:=0) (k:=n) (news:=vs) kR kR o0 rfl omg (hs.ext e0) hone omg omg fun v' h' o' m' f' g' => ?_
  refine H v' h' (m'.ext_from e0 (fun b hb e=>by cases e)) (by simpa using o') (fun b hb=>(f' b hb).elim (fun e=>by cases e) (fun e=>by simp at e; omega)) (fun b hb=>(g' b hb).elim (fun e=>by cases e; exact Nat.le_refl _) (fun e=>by simp at e; omega))
theorem pclone_c {v:Value} {n:Nat} {vs:List Value} (hs:Src 2 h v n vs) (hv:∃a c,v = .slice a n c) (hone:∀u∈vs,one u=true) (hn:n≤1000000000000) (H:∀v' h',Ext h h'→OwnG pT 2 h' v' vs→(∀b,blkG v'=some b→h.size≤b)→(∀b,blkV v'=some b→h.size≤b)→K v' h'):CallsH Tryz.prog 117 #[v] h K ⟨⟩:=by
 refine n117_calls ?_
 unfold n117; try delta vF vG vC vD vJ vV vk vt
 obtain ⟨a,c,rfl⟩:=hv
 cases a with
 | none =>
  rcases hs with ⟨e,rfl,rfl⟩|⟨a,c',e,-⟩|⟨l,e,-⟩
  ·rw [e]
   simp (disch:=omega)
   exact H _ _ (.refl _) .nil (fun b hb=>by cases hb) (fun b hb=>by cases hb)
  ·cases e
  ·cases e
 | some a =>
  simp (disch:=omega)
  have e0:Ext h (h.push (.cells #[] pT)):=extS
  have o0:OwnG pT 2 (h.push (.cells #[] pT)) (.slice (some ⟨h.size,0,none⟩) 0 0) [] := .nil
  refine Hp_appendG (e:=pT) (s:=2) (by_:=32) (n:=0) (k:=n) (news:=vs) kR kR o0 rfl omg (hs.ext e0) hone omg omg fun v' h' o' m' f' g' => ?_
  refine H v' h' (m'.ext_from e0 (fun b hb e=>by cases e)) (by simpa using o') (fun b hb=>(f' b hb).elim (fun e=>by cases e) (fun e=>by simp at e; omega)) (fun b hb=>(g' b hb).elim (fun e=>by cases e; exact Nat.le_refl _) (fun e=>by simp at e; omega))
theorem fclone_c {v:Value} {n:Nat} {vs:List Value} (hs:Src 2 h v n vs) (hv:∃a c,v = .slice a n c) (hone:∀u∈vs,one u=true) (hn:n≤1000000000000) (H:∀v' h',Ext h h'→OwnG 118 2 h' v' vs→(∀b,blkG v'=some b→h.size≤b)→(∀b,blkV v'=some b→h.size≤b)→K v' h'):CallsH Tryz.prog 75 #[v] h K ⟨⟩:=by
 refine n75_calls ?_
 unfold n75; try delta vF vG vC vD vJ vV vk vt
 obtain ⟨a,c,rfl⟩:=hv
 cases a with
 | none =>
  rcases hs with ⟨e,rfl,rfl⟩|⟨a,c',e,-⟩|⟨l,e,-⟩
  ·rw [e]
   simp (disch:=omega)
   exact H _ _ (.refl _) .nil (fun b hb=>by cases hb) (fun b hb=>by cases hb)
  ·cases e
  ·cases e
 | some a =>
  simp (disch:=omega)
  have e0:Ext h (h.push (.cells #[] 118)):=extS
  have o0:OwnG 118 2 (h.push (.cells #[] 118)) (.slice (some ⟨h.size,0,none⟩) 0 0) [] := .nil
  refine Hp_appendG (e:=118) (s:=2) (by_:=16) (n:=0) (k:=n) (news:=vs) kR kR o0 rfl omg (hs.ext e0) hone omg omg fun v' h' o' m' f' g' => ?_
  refine H v' h' (m'.ext_from e0 (fun b hb e=>by cases e)) (by simpa using o') (fun b hb=>(f' b hb).elim (fun e=>by cases e) (fun e=>by simp at e; omega)) (fun b hb=>(g' b hb).elim (fun e=>by cases e; exact Nat.le_refl _) (fun e=>by simp at e; omega))
end Go.Proofs.YtcbbdnaelimpfaaGreat
set_option linter.unusedSimpArgs false
set_option linter.unusedVariables false
namespace Go.Proofs.YtcbbdnaelimpfaaGreat
open Go.Vc
variable {K:VP} {h:Heap}

def sT:Nat:=156
def aT:Nat:=118
def faV (f:Int×Int):List Value:=[.int .i64 f.1,.int .i64 f.2]
structure St where
 F:List Fh
 fates:List (Int×Int)
 steps:Nat
 m:Nat
 fv:Value
def St.keys (s:St):List (List UInt8×Value):=s.F.map fun x=>(x.name,ptrV x.b)
def St.foot (s:St) (p b:Nat):Prop:=b=p∨b=s.m∨blkG s.fv=some b∨∃x∈s.F,x.own b
structure StAt (h:Heap) (p:Nat) (s:St):Prop where
 cells:h[p]? = some (.cells #[.map (some s.m),s.fv,.int .i64 s.steps] sT)
 map:MapK str h s.m s.keys
 fl:∀x∈s.F,FlAt h x
 sep:s.F.Pairwise fun x y=>∀b,x.own b→¬y.own b
 psep:∀x∈s.F,∀q∈x.qs,∀b,blkV q.2=some b→¬s.foot p b
 fat:OwnG aT 2 h s.fv (s.fates.flatMap faV)
 names:∀x∈s.F,okName x.name
 few:s.F.length≤256
 stp:s.steps<1000000
 fatk:s.fates.length<1000000000
 fok:∀f∈s.fates,f.2<9223372036854775808
 pfew:∀x∈s.F,x.qs.length≤s.steps*1000000
theorem StAt.nodup {p:Nat} {s:St} (a:StAt h p s):(s.F.map (·.name)).Nodup:=by
 have:=a.map.nodup
 unfold St.keys at this
 rw [List.map_map] at this
 exact this
theorem Fh.tag {x:Fh} (a:FlAt h x) {b:Nat} (hb:x.own b):∃arr t,h[b]? = some (.cells arr t)∧(t=fT∨t=bT∨t=pT):=by
 rcases hb with rfl|hb|hb|hb
 ·exact ⟨_,_,a.cells,.inl rfl⟩
 ·obtain ⟨arr,ha⟩:=a.last.tag hb; exact ⟨_,_,ha,.inr (.inl rfl)⟩
 ·obtain ⟨arr,ha⟩:=a.ps.tag hb; exact ⟨_,_,ha,.inr (.inr rfl)⟩
 ·obtain ⟨arr,ha⟩:=a.now.tag hb; exact ⟨_,_,ha,.inr (.inl rfl)⟩
theorem Fh.ne {x:Fh} (a:FlAt h x) {b c:Nat} {arr:Array Value} {t:Nat} (hb:x.own b) (hc:h[c]? = some (.cells arr t)) (ht:t≠fT∧t≠bT∧t≠pT):b≠c:=by
 obtain ⟨arr',t',h1,h2⟩:=Fh.tag a hb
 intro e
 subst e
 rw [h1] at hc
 cases hc
 rcases h2 with h2|h2|h2
 ·exact ht.1 h2
 ·exact ht.2.1 h2
 ·exact ht.2.2 h2
theorem Fh.neM {x:Fh} (a:FlAt h x) {b c:Nat} {es:Array MapEntry} {cl:Nat} (hb:x.own b) (hc:h[c]? = some (.map es cl)):b≠c:=by
 obtain ⟨arr',t',h1,h2⟩:=Fh.tag a hb
 intro e
 subst e
 rw [h1] at hc
 cases hc
theorem sT_ne:sT≠fT∧sT≠bT∧sT≠pT:=by decide
theorem aT_ne:aT≠fT∧aT≠bT∧aT≠pT:=by decide
theorem aT_sT:aT≠sT:=by decide
theorem mapCell {κ:Type} [DecidableEq κ] {kV:κ→Value} {m:Nat} {l:List (κ×Value)} (a:MapK kV h m l):∃es cl,h[m]? = some (.map es cl):=by
 obtain ⟨es,cl,h1,_⟩:=a; exact ⟨_,cl,h1⟩

theorem StAt.mod {S:Nat→Prop} {h':Heap} {p:Nat} {s:St} (a:StAt h p s) (m:Mod S h h') (h1:∀b,s.foot p b→¬S b) (h2:∀x∈s.F,∀q∈x.qs,∀b,blkV q.2=some b→¬S b):StAt h' p s :=
 ⟨(m.block _ (get_some_lt a.cells) (h1 _ (.inl rfl))).trans a.cells,a.map.mod m (h1 _ (.inr (.inl rfl))),fun x hx=>(a.fl x hx).mod m (fun b hb=>h1 b (.inr (.inr (.inr ⟨x,hx,hb⟩)))) (h2 x hx),a.sep,a.psep,
  a.fat.mod m (fun b hb=>h1 b (.inr (.inr (.inl hb)))),a.names,a.few,a.stp,a.fatk,a.fok,a.pfew⟩
theorem StAt.ext {h':Heap} {p:Nat} {s:St} (a:StAt h p s) (e:Ext h h'):StAt h' p s:=a.mod (S:=fun _=>False) (.of_ext e) (fun _ _ x=>x) (fun _ _ _ _ _ _ x=>x)
theorem StAt.lt {p:Nat} {s:St} (a:StAt h p s) {b:Nat} (hb:s.foot p b):b<h.size:=by
 rcases hb with rfl|rfl|hb|⟨x,hx,hb⟩
 ·exact get_some_lt a.cells
 ·exact a.map.lt
 ·exact a.fat.lt hb
 ·exact (a.fl x hx).lt hb

theorem storeKey:KeyT Tryz.prog 153 (List UInt8) str:=KeyT.str kR

def St.get (s:St) (l:List UInt8):Option Fh:=s.F.find? fun x=>decide (x.name=l)
theorem look_keys {l:List UInt8}:∀F:List Fh,look2 l (F.map fun x=>(x.name,ptrV x.b))=(F.find? fun x=>decide (x.name=l)).map fun x=>ptrV x.b
 | []=>rfl
 | x::F=>by
  rw [List.map_cons,look2,List.find?_cons]
  by_cases e:x.name=l
  ·simp [e]
  ·simp only [e,decide_false]
   rw [if_neg (Ne.symm e),look_keys F]
theorem none_c {p m:Nat} {fv st:Value} (hc:h[p]? = some (.cells #[.map (some m),fv,st] sT)) (H:K (.bool false) h):CallsH Tryz.prog 79 #[ptrV p] h K ⟨⟩:=by
 refine n79_calls ?_
 unfold n79 ptrV; try delta vF vG vC vD vJ vV vk vt
 have c0:=cellOf (i:=0) hc rfl
 simp (disch:=omega) [c0]
 exact H
theorem asked_c {p m:Nat} {fv st:Value} {l:List UInt8} (hc:h[p]? = some (.cells #[.map (some m),fv,st] sT)) (hl:l.length<9223372036854775808) (H:∀h',Ext h h'→K (.int .i64 (if okName l then 0 else 2)) h'):CallsH Tryz.prog 76 #[ptrV p,str l] h K ⟨⟩:=by
 refine n76_calls ?_
 unfold n76; try delta vF vG vC vD vJ vV vk vt
 refine none_c hc ?_
 by_cases h0:l.length<1
 ·have:¬okName l:=fun e=>by have:=e.1; omega
  simp (disch:=omega)
  rw [if_neg this] at H
  exact H h (.refl _)
 by_cases h1:64<l.length
 ·have:¬okName l:=fun e=>by have:=e.2.1; omega
  simp (disch:=omega)
  rw [if_neg this] at H
  exact H h (.refl _)
 simp (disch:=omega)
 refine Hp_strBytes (e:=bT) kR kR kR omg (fun v' h' a b c _ => ?_)
 simp (disch:=omega)
 refine n111_calls ?_
 unfold n111; try delta vF vG vC vD vJ vV vk vt
 refine IndexByteB_c (b:=0) a.bytes ?_
 by_cases h2:(0:UInt8)∈l
 ·have:¬okName l:=fun e=>e.2.2 h2
  rw [if_neg this] at H
  have:=idxB_nonneg.2 h2
  simp (disch:=omega)
  exact H h' b
 ·have:okName l:=⟨by omega,by omega,h2⟩
  rw [if_pos this] at H
  have:=fun e=>h2 (idxB_nonneg.1 e)
  simp (disch:=omega)
  exact H h' b
def findV (s:St) (l:List UInt8):Value:=if okName l then (match s.get l with|some x => .tuple #[ptrV x.b,.int .i64 0]|none => .tuple #[.pointer none,.int .i64 7]) else .tuple #[.pointer none,.int .i64 2]
theorem find_c {p:Nat} {s:St} {l:List UInt8} (a:StAt h p s) (hl:l.length<9223372036854775808) (H:∀h',Ext h h'→K (findV s l) h'):CallsH Tryz.prog 50 #[ptrV p,str l] h K ⟨⟩:=by
 refine n50_calls ?_
 unfold n50; try delta vF vG vC vD vJ vV vk vt
 refine asked_c a.cells hl fun h' e => ?_
 have a':=a.ext e
 have c0:=cellOf (i:=0) a'.cells rfl
 have lk:=look_keys (l:=l) s.F
 have H2:=H h' e
 unfold findV at H2
 unfold ptrV
 by_cases ho:okName l
 ·rw [if_pos ho] at H2 ⊢
  unfold St.get at H2
  simp (disch:=omega) [c0]
  have hm:=a'.map
  unfold St.keys at hm
  rw [Hp_lookup storeKey (z := .pointer none) kR hm,lk]
  cases hg:s.F.find? (fun x=>decide (x.name=l)) with
  | none=>rw [hg] at H2; simp (disch:=omega); exact H2
  | some x=>rw [hg] at H2; simp (disch:=omega) [ptrV]; exact H2
 ·rw [if_neg ho] at H2 ⊢
  simp (disch:=omega)
  exact H2
end Go.Proofs.YtcbbdnaelimpfaaGreat
set_option linter.unusedSimpArgs false
set_option linter.unusedVariables false
namespace Go.Proofs.YtcbbdnaelimpfaaGreat
open Go.Vc
variable {K:VP} {h:Heap}

structure SUpd (h h':Heap) (p:Nat) (s s':St):Prop where
 st:StAt h' p s'
 mod:Mod (s.foot p) h h'
 foot:∀b,s'.foot p b→s.foot p b∨h.size≤b
theorem SUpd.trans {h1 h2:Heap} {p:Nat} {x y z:St} (u:SUpd h h1 p x y) (v:SUpd h1 h2 p y z):SUpd h h2 p x z:=by
 have hs:=u.mod.size
 refine ⟨v.st,u.mod.trans v.mod (fun b hb hy=>(u.foot b hy).resolve_right omg),fun b hb => ?_⟩
 rcases v.foot b hb with h3|h3
 ·exact u.foot b h3
 ·exact .inr omg
theorem SUpd.from_ {h0 h1:Heap} {p:Nat} {x y:St} (e:Ext h0 h) (u:SUpd h h1 p x y):SUpd h0 h1 p x y:=by
 have hs:=e.size
 exact ⟨u.st,((Mod.of_ext e).trans u.mod (fun _ _ h=>h)),fun b hb=>(u.foot b hb).imp id (fun h=>by omega)⟩

theorem StAt.own_ {p:Nat} {s:St} {h':Heap} {fv:Value} {fs:List (Int×Int)} {n:Nat} (a:StAt h p s) (m:Mod (fun b=>b=p∨blkG s.fv=some b) h h') (hc:h'[p]? = some (.cells #[.map (some s.m),fv,.int .i64 n] sT)) (hf:OwnG aT 2 h' fv (fs.flatMap faV))
 (hb:∀b,blkG fv=some b→blkG s.fv=some b∨h.size≤b) (hn:n<1000000) (hm:s.steps≤n) (hl:fs.length<1000000000) (hk:∀f∈fs,f.2<9223372036854775808):SUpd h h' p s { s with fates:=fs,steps:=n,fv:=fv }:=by
 have hmn:s.m≠p:=fun e=>by
  obtain ⟨es,cl,hm⟩:=mapCell a.map
  rw [e,a.cells] at hm; cases hm
 have hop:∀x∈s.F,∀b,x.own b→¬(b=p∨blkG s.fv=some b):=fun x hx b hb e=>e.elim (Fh.ne (a.fl x hx) hb a.cells sT_ne) (fun e=>by
  obtain ⟨arr,ha⟩:=a.fat.tag e
  exact Fh.ne (a.fl x hx) hb ha aT_ne rfl)
 have hqp:∀x∈s.F,∀q∈x.qs,∀b,blkV q.2=some b→¬(b=p∨blkG s.fv=some b):=fun x hx q hq b hb e=>a.psep x hx q hq b hb (e.elim .inl (fun e => .inr (.inr (.inl e))))
 have hmf:blkG s.fv≠some s.m:=fun e=>by
  obtain ⟨es,cl,hm⟩:=mapCell a.map
  exact a.fat.neM e hm rfl
 have foot:∀b,St.foot { s with fates:=fs,steps:=n,fv:=fv } p b→s.foot p b∨h.size≤b:=by
  rintro b (e|e|e|e)
  ·exact .inl (.inl e)
  ·exact .inl (.inr (.inl e))
  ·exact (hb b e).imp (fun e => .inr (.inr (.inl e))) id
  ·exact .inl (.inr (.inr (.inr e)))
 refine ⟨⟨hc,a.map.mod m (fun e=>e.elim hmn hmf),fun x hx=>(a.fl x hx).mod m (hop x hx) (hqp x hx),a.sep,fun x hx q hq b hb e => ?_,hf,a.names,a.few,hn,hl,hk,fun x hx=>Nat.le_trans (a.pfew x hx) (Nat.mul_le_mul_right _ hm)⟩,m.mono (fun b _ e=>e.elim .inl (fun e => .inr (.inr (.inl e)))),foot⟩
 exact (foot b e).elim (a.psep x hx q hq b hb) (fun e=>by have:=(a.fl x hx).plt hq hb; omega)
def St.stepped (s:St) (fv:Value):St:={ s with steps:=s.steps+1,fates:=s.fates.tail,fv:=fv }
set_option maxHeartbeats 1000000 in
theorem step_c {p:Nat} {s:St} (a:StAt h p s) (hs:s.steps+1<1000000) (H:∀h' fv,SUpd h h' p s (s.stepped fv)→K (.tuple #[.int .i64 (fateE s.fates),.int .i64 (fateK s.fates)]) h') :
 CallsH Tryz.prog 77 #[ptrV p] h K ⟨⟩:=by
 refine n77_calls ?_
 unfold n77 ptrV; try delta vF vG vC vD vJ vV vk vt
 have hpl:=get_some_lt a.cells
 have c2:=cellOf (i:=2) a.cells rfl
 have f2:=frzOf (i:=2) a.cells
 obtain ⟨fa,fn,fc,hfv,hfl,hfc,hfne⟩:=a.fat.form
 have hcl:=a.cells
 have hfat:=a.fat
 have hfp:∀b,blkG s.fv=some b→b≠p:=fun b hb=>a.fat.ne hb a.cells aT_sT
 have hw1:(((s.steps:Nat):Int)+1)=((s.steps+1:Nat):Int):=by omega
 have hfk:=a.fatk
 rw [hfv] at hcl hfat
 cases hft:s.fates with
 | nil =>
  have hn0:fn=0:=by rw [hft] at hfl; simp at hfl; omega
  subst hn0
  have d1:=cellOf (i:=1) hcl rfl
  simp (disch:=omega) [c2,f2,d1]
  rw [hft] at H
  refine H _ s.fv ?_
  have hE:s.stepped s.fv={ s with fates:=[],steps:=s.steps+1,fv:=s.fv }:=by unfold St.stepped; rw [hft]; rfl
  rw [hE]
  refine a.own_ ((Mod.set h ⟨p,2,none⟩ _).mono (fun b _ e => .inl e)) ?_ ?_ (fun b hb => .inl hb) hs (Nat.le_succ _) sM (fun f hf=>by cases hf)
  ·rw [hw1]; exact obj_set a.cells
  ·have:=a.fat.mod (Mod.set h ⟨p,2,none⟩ (.int .i64 ((s.steps:Int)+1))) (fun b hb e=>hfp b hb e)
   rw [hft] at this; exact this
 | cons f t =>
  obtain ⟨k,n⟩:=f
  have hfa:∀l:List (Int×Int),(l.flatMap faV).length=l.length*2:=fun l=>by induction l with|nil=>rfl|cons f l ih=>rw [List.flatMap_cons,List.length_append,ih]; simp [faV]; omega
  have hn1:fn=t.length+1:=by rw [hft,hfa] at hfl; simp at hfl; omega
  subst hn1
  obtain ⟨b0,o0,rfl⟩:=hfne (by rw [hft]; simp [faV])
  rw [hft] at hfat hfk
  simp only [List.length_cons] at hfk
  have d1:=cellOf (i:=1) hcl rfl
  have f1:=frzOf (i:=1) hcl
  have hb0':blkG s.fv=some b0:=by rw [hfv]; cases fc with|zero=>omega|succ c=>rfl
  have hbp:b0≠p:=hfp b0 hb0'
  have hpb:=Ne.symm hbp
  have hb0:b0<h.size:=a.fat.lt hb0'
  have g0:=(hfat.cell (i:=0) (by simp [faV])).1
  have g1:=(hfat.cell (i:=1) (by simp [faV])).1
  have w0:(List.flatMap faV ((k,n)::t))[0]'(by simp [faV]) = .int .i64 k:=by simp [faV]
  have w1:(List.flatMap faV ((k,n)::t))[1]'(by simp [faV]) = .int .i64 n:=by simp [faV]
  rw [w0,elt_mk] at g0
  rw [w1,elt_mk] at g1
  simp only [Nat.add_zero] at g0
  simp (disch:=omega) [c2,f2,d1,f1,g0,g1,hbp,hpb]
  have fin:∀fx,fx=hset (hset (hset ((hset h ⟨p,2,none⟩ (.int .i64 ((s.steps:Int)+1))).push (.cells #[.int .i64 0,.int .i64 0] 118)) ⟨h.size,0,none⟩ (.int .i64 k)) ⟨h.size,1,none⟩ (.int .i64 n)) ⟨p,1,none⟩ (.slice (some (subS 2 ⟨b0,o0,none⟩ 1 fc)) t.length (fc-1)) →
   K (.tuple #[.int .i64 (fateE s.fates),.int .i64 (fateK s.fates)]) fx:=by
   intro fx ex
   refine H fx (.slice (some (subS 2 ⟨b0,o0,none⟩ 1 fc)) t.length (fc-1)) ?_
   have hE:s.stepped (.slice (some (subS 2 ⟨b0,o0,none⟩ 1 fc)) t.length (fc-1))={ s with fates:=t,steps:=s.steps+1,fv := .slice (some (subS 2 ⟨b0,o0,none⟩ 1 fc)) t.length (fc-1) }:=by unfold St.stepped; rw [hft]; rfl
   rw [hE]
   have m:Mod (· = p) h fx:=by rw [ex]; exact modS
   have dr:=hfat.drop (lo:=1) omg
   have e1:(List.flatMap faV ((k,n)::t)).drop (1*2)=t.flatMap faV:=by simp [faV]
   rw [e1,Nat.add_sub_cancel] at dr
   refine a.own_ (m.mono (fun b _ e => .inl e)) ?_ (dr.mod m (fun b hb e=>hfp b ?_ e)) (fun b hb => .inl ?_) hs (Nat.le_succ _) omg (fun f hf=>a.fok f (by rw [hft]; exact List.mem_cons_of_mem _ hf))
   ·rw [ex]
    refine (obj_set (arr := #[.map (some s.m),s.fv,.int .i64 (s.steps+1:Nat)]) (t:=sT) (i:=1) ?_).trans rfl
    refine (get_hset' omg).trans ((get_hset' omg).trans ((get_push (by simp; omega)).trans ?_))
    rw [hw1]
    exact obj_set a.cells
   ·rw [hfv]; exact blk_drop (n:=t.length+1) hb
   ·rw [hfv]; exact blk_drop (n:=t.length+1) hb
  clear H
  refine JoinN.mk ?_
  simp (disch:=omega)
  refine JoinN.mk ?_
  rw [hft] at fin
  simp only [fateE,fateK] at fin
  by_cases k1:k=1
  ·subst k1
   simp (disch:=omega)
   exact fin _ rfl
  ·by_cases k2:k=2
   ·subst k2
    simp (disch:=omega)
    exact fin _ rfl
   ·rw [if_neg k1,if_neg k2] at fin
    simp (disch:=omega) [k1,k2]
    exact fin _ rfl
end Go.Proofs.YtcbbdnaelimpfaaGreat
set_option linter.unusedSimpArgs false
set_option linter.unusedVariables false
namespace Go.Proofs.YtcbbdnaelimpfaaGreat
open Go.Vc
variable {K:VP} {h:Heap}

theorem piece_upd {x:Fh} {h2 h3 h5:Heap} {k:Nat} {b:List UInt8} {w pv':Value} (a:FlAt h x) (hp:Pc.ok ⟨k,b⟩) (hk:k+b.length≤x.last.length) (e2:Ext h h2) (hw:Bytes h2 w b) (hwn:∀c,blkV w=some c→h.size≤c)
 (o3:OwnG pT 2 h3 pv' ((x.qs++[((⟨k,b⟩:Pc),w)]).flatMap pcV)) (m3:Mod (fun c=>blkG x.pv=some c) h2 h3) (f3:∀c,blkG pv'=some c→blkG x.pv=some c∨h2.size≤c)
 (o5:OwnG bT 1 h5 x.nv ((over x.f.now k b).map byteV)) (m5:Mod (fun c=>blkG x.nv=some c) (hset h3 ⟨x.b,1,none⟩ pv') h5):Upd h h5 x { x with qs:=x.qs++[(⟨k,b⟩,w)],pv:=pv' }:=by
 have z2:=e2.size
 have z3:=m3.size
 have z5:=m5.size
 rw [hset_size] at z5
 have hb:=get_some_lt a.cells
 have hxb:∀c,blkG x.nv=some c→c≠x.b:=fun c hc=>a.now.ne hc a.cells bT_fT
 have hlb:∀c,blkG x.lv=some c→c≠x.b:=fun c hc=>a.last.ne hc a.cells bT_fT
 have hpb:∀c,blkG x.pv=some c→c≠x.b:=fun c hc=>a.ps.ne hc a.cells pT_fT
 have hwl:∀c,blkV w=some c→c<h2.size:=fun c hc=>hw.lt hc (fun e=>by have:=hp.pos; rw [e] at this; simp at this)
 have m:Mod x.own h h5:=by
  have m4:Mod x.own h (hset h3 ⟨x.b,1,none⟩ pv'):=Mod.setIn ((Mod.of_ext e2).trans m3 (fun c _ e => .inr (.inr (.inl e)))) (.inl (.inl rfl))
  exact m4.trans m5 (fun c _ e => .inr (.inr (.inr e)))
 have c3:=(m3.block x.b omg (fun e=>hpb _ e rfl)).trans ((e2.block _ hb).trans a.cells)
 have own':∀c,({ x with qs:=x.qs++[(⟨k,b⟩,w)],pv:=pv' }:Fh).own c→x.own c∨h.size≤c:=by
  rintro c (e|e|e|e)
  ·exact .inl (.inl e)
  ·exact .inl (.inr (.inl e))
  ·exact (f3 c e).imp (fun e => .inr (.inr (.inl e))) (fun e=>by omega)
  ·exact .inl (.inr (.inr (.inr e)))
 have hpn:∀c,blkG pv'=some c→blkG x.nv≠some c:=fun c hc e=>by
  rcases f3 c hc with e1|e1
  ·obtain ⟨arr,ha⟩:=a.ps.tag e1
   exact a.now.ne e ha bT_pT rfl
  ·have:=a.now.lt e; omega
 have hpx:∀c,blkG pv'=some c→c≠x.b:=fun c hc=>o3.ne hc c3 pT_fT
 have own1:∀c,blkV w=some c→¬({ x with qs:=x.qs++[(⟨k,b⟩,w)],pv:=pv' }:Fh).own c:=by
  rintro c hc (e|e|e|e)
  ·have:=hwn c hc; have e':c=x.b:=e; omega
  ·have:=hwn c hc; have:=a.last.lt e; omega
  ·have h1:=hwn c hc
   have h2:=hwl c hc
   rcases f3 c e with e1|e1
   ·have:=a.ps.lt e1; omega
   ·omega
  ·have:=hwn c hc; have:=a.now.lt e; omega
 have hnw:({ x with qs:=x.qs++[(⟨k,b⟩,w)],pv:=pv' }:Fh).f=x.f.add ⟨k,b⟩:=by
  unfold Fh.f Fl.add
  dsimp only
  rw [growL_same hk,List.map_append]; rfl
 have ok':({ x with qs:=x.qs++[(⟨k,b⟩,w)],pv:=pv' }:Fh).f.ok:=by
  rw [hnw]
  exact a.ok.add hp (by have:=a.ok.few; show k+b.length≤_; have:x.f.last.length=x.last.length:=rfl; omega)
 refine ⟨⟨?_,?_,?_,?_,?_,ok',a.ne,?_⟩,m,own',?_,rfl,rfl⟩
 ·exact (m5.block x.b (by rw [hset_size]; omega) (fun e=>hxb _ e rfl)).trans (obj_set c3)
 ·refine a.last.mod (S:=fun c=>blkG x.nv=some c∨blkG x.pv=some c∨c=x.b) (Mod.trans (Mod.setIn ((Mod.of_ext e2).trans m3 (fun c _ e => .inr (.inl e))) (.inl (.inr (.inr rfl)))) m5 (fun c _ e => .inl e)) (fun c hc => ?_)
  rintro (e|e|e)
  ·exact a.ne c hc e
  ·obtain ⟨arr,ha⟩:=a.ps.tag e
   exact a.last.ne hc ha bT_pT rfl
  ·exact hlb c hc e
 ·rw [hnw,a.ok.now_add,growL_same (by rw [a.len]; exact hk)]
  exact o5
 ·exact (o3.mod (Mod.set h3 ⟨x.b,1,none⟩ pv') (fun c hc e=>hpx c hc e)).mod m5 (fun c hc e=>hpn c hc e)
 ·intro q hq
  rcases List.mem_append.1 hq with hq|hq
  ·exact (a.bs q hq).mod m (a.ap q hq)
  ·simp at hq; subst hq
   refine hw.mod (S:=fun c=>blkG x.nv=some c∨blkG x.pv=some c∨c=x.b) (Mod.trans (Mod.setIn (m3.mono (fun c _ e => .inr (.inl e))) (.inl (.inr (.inr rfl)))) m5 (fun c _ e => .inl e)) (fun c hc => ?_)
   have:=hwn c hc
   rintro (e|e|e)
   ·have:=a.now.lt e; omega
   ·have:=a.ps.lt e; omega
   ·omega
 ·intro q hq c hc
  rcases List.mem_append.1 hq with hq|hq
  ·exact fun e=>(own' c e).elim (a.ap q hq c hc) (fun e=>by have:=a.plt hq hc; omega)
  ·simp at hq; subst hq
   exact own1 c hc
 ·intro q hq c hc
  rcases List.mem_append.1 hq with hq|hq
  ·exact .inl ⟨q,hq,hc⟩
  ·simp at hq; subst hq
   exact .inr (hwn c hc)
end Go.Proofs.YtcbbdnaelimpfaaGreat
set_option linter.unusedSimpArgs false
set_option linter.unusedVariables false
namespace Go.Proofs.YtcbbdnaelimpfaaGreat
open Go.Vc
variable {K:VP} {h:Heap}

theorem StAt.put {p:Nat} {s:St} {A B:List Fh} {x x':Fh} {h':Heap} (a:StAt h p s) (hF:s.F=A++x::B) (u:Upd h h' x x') (hqq:x'.qs.length≤s.steps*1000000):SUpd h h' p s { s with F:=A++x'::B }:=by
 have hx:x∈s.F:=by rw [hF]; simp
 have hs:=u.mod.size
 have ax:=a.fl x hx
 have sep:=a.sep
 rw [hF,List.pairwise_append,List.pairwise_cons] at sep
 obtain ⟨sA,⟨sx,sB⟩,sAB⟩:=sep
 have mem:∀y∈A++x'::B,y=x'∨(y∈s.F∧∀b,y.own b→¬x.own b):=by
  intro y hy
  rcases List.mem_append.1 hy with hy|hy
  ·exact .inr ⟨by rw [hF]; exact List.mem_append_left _ hy,fun b hb=>sAB y hy x List.mem_cons_self b hb⟩
  ·rcases List.mem_cons.1 hy with hy|hy
   ·exact .inl hy
   ·exact .inr ⟨by rw [hF]; exact List.mem_append_right _ (List.mem_cons_of_mem _ hy),fun b hb hc=>sx y hy b hc hb⟩
 have pne:∀b,x.own b→b≠p:=fun b hb=>Fh.ne ax hb a.cells sT_ne
 have mne:∀b,x.own b→b≠s.m:=fun b hb=>by
  obtain ⟨es,cl,hm⟩:=mapCell a.map
  exact Fh.neM ax hb hm
 have fne:∀b,blkG s.fv=some b→¬x.own b:=fun b hb hc=>by
  obtain ⟨arr,ha⟩:=a.fat.tag hb
  exact Fh.ne ax hc ha aT_ne rfl
 have foot:∀b,St.foot { s with F:=A++x'::B } p b→s.foot p b∨h.size≤b:=by
  rintro b (e|e|e|⟨y,hy,e⟩)
  ·exact .inl (.inl e)
  ·exact .inl (.inr (.inl e))
  ·exact .inl (.inr (.inr (.inl e)))
  ·rcases mem y hy with rfl|⟨hy,-⟩
   ·exact (u.own b e).imp (fun e => .inr (.inr (.inr ⟨x,hx,e⟩))) id
   ·exact .inl (.inr (.inr (.inr ⟨y,hy,e⟩)))
 have keys:St.keys { s with F:=A++x'::B }=s.keys:=by
  unfold St.keys
  rw [hF]
  simp only [List.map_append,List.map_cons,u.b,u.name]
 refine ⟨⟨?_,?_,fun y hy => ?_,?_,fun y hy q hq b hb e => ?_,?_,fun y hy => ?_,?_,a.stp,a.fatk,a.fok,fun y hy => ?_⟩,u.mod.mono (fun b _ e => .inr (.inr (.inr ⟨x,hx,e⟩))),foot⟩
 ·exact (u.mod.block p (get_some_lt a.cells) (fun e=>pne _ e rfl)).trans a.cells
 ·rw [keys]; exact a.map.mod u.mod (fun e=>mne _ e rfl)
 ·rcases mem y hy with rfl|⟨hy,hd⟩
  ·exact u.fl
  ·exact (a.fl y hy).mod u.mod hd (fun q hq b hb e=>a.psep y hy q hq b hb (.inr (.inr (.inr ⟨x,hx,e⟩))))
 ·have old:∀y∈s.F,(∀b,y.own b→¬x.own b)→∀b,y.own b→¬x'.own b:=fun y hy hd b hb e=>(u.own b e).elim (hd b hb) (fun e=>by have:=(a.fl y hy).lt hb; omega)
  rw [List.pairwise_append,List.pairwise_cons]
  refine ⟨sA,⟨fun y hy b hb hc => ?_,sB⟩,fun y hy z hz => ?_⟩
  ·exact old y (by rw [hF]; exact List.mem_append_right _ (List.mem_cons_of_mem _ hy)) (fun b hb hc=>sx y hy b hc hb) b hc hb
  ·rcases List.mem_cons.1 hz with rfl|hz
   ·exact old y (by rw [hF]; exact List.mem_append_left _ hy) (fun b hb=>sAB y hy x List.mem_cons_self b hb)
   ·exact sAB y hy z (List.mem_cons_of_mem _ hz)
 ·rcases mem y hy with rfl|⟨hy,-⟩
  ·rcases u.pcs q hq b hb with ⟨q0,h0,h1⟩|h1
   ·exact (foot b e).elim (a.psep x hx q0 h0 b h1) (fun e=>by have:=ax.plt h0 h1; omega)
   ·rcases e with e|e|e|⟨z,hz,e⟩
    ·have:=get_some_lt a.cells; have e':b=p:=e; omega
    ·have:=a.map.lt; have e':b=s.m:=e; omega
    ·have:=a.fat.lt e; omega
    ·rcases mem z hz with rfl|⟨hz,-⟩
     ·exact u.fl.ap q hq b hb e
     ·have:=(a.fl z hz).lt e; omega
  ·exact (foot b e).elim (a.psep y hy q hq b hb) (fun e=>by have:=(a.fl y hy).plt hq hb; omega)
 ·exact a.fat.mod u.mod fne
 ·rcases mem y hy with rfl|⟨hy,-⟩
  ·rw [u.name]; exact a.names x hx
  ·exact a.names y hy
 ·have:=a.few
  rw [hF] at this
  simpa using this
 ·rcases mem y hy with rfl|⟨hy,-⟩
  ·exact hqq
  ·exact a.pfew y hy
theorem get_split {s:St} {l:List UInt8} {x:Fh} (hg:s.get l=some x):∃A B,s.F=A++x::B∧x.name=l:=by
 obtain ⟨A,B,h1⟩:=List.append_of_mem (List.mem_of_find?_eq_some hg)
 exact ⟨A,B,h1,by simpa using List.find?_some hg⟩
theorem find_c3 {p:Nat} {s:St} {l:List UInt8} (a:StAt h p s) (hl:l.length<9223372036854775808) (H2:∀h',Ext h h'→¬okName l→K (.tuple #[.pointer none,.int .i64 2]) h') (H7:∀h',Ext h h'→okName l→s.get l=none→K (.tuple #[.pointer none,.int .i64 7]) h')
 (H0:∀h' A B x,Ext h h'→okName l→s.get l=some x→s.F=A++x::B→x.name=l→K (.tuple #[ptrV x.b,.int .i64 0]) h'):CallsH Tryz.prog 50 #[ptrV p,str l] h K ⟨⟩:=by
 refine find_c a hl fun h' e => ?_
 unfold findV
 by_cases ho:okName l
 ·rw [if_pos ho]
  cases hg:s.get l with
  | none=>exact H7 h' e ho hg
  | some x =>
   obtain ⟨A,B,h1,h2⟩:=get_split hg
   exact H0 h' A B x e ho hg h1 h2
 ·rw [if_neg ho]
  exact H2 h' e ho
end Go.Proofs.YtcbbdnaelimpfaaGreat
set_option linter.unusedSimpArgs false
set_option linter.unusedVariables false
namespace Go.Proofs.YtcbbdnaelimpfaaGreat
open Go.Vc
variable {K:VP} {h:Heap}

def wErr (s:St) (l:List UInt8) (k:Int) (b:List UInt8):Int :=
 if okName l then (match s.get l with|none=>7|some _=>if k<0 then 4 else if b≠[]∧268435456<k+b.length then 6 else 0) else 2

set_option maxHeartbeats 4000000 in
theorem Write_c2 {p:Nat} {s:St} {l b:List UInt8} {k:Int} {v:Value} (a:StAt h p s) (hl:l.length<9223372036854775808) (hB:Bytes h v b) (hbl:b.length≤1000000) (hv:b≠[]→∀c,blkV v=some c→¬s.foot p c)
 (k0 : -9223372036854775808≤k) (k1:k<9223372036854775808) (hs:s.steps+1<1000000)
 (He:∀h',Ext h h'→wErr s l k b≠0→K (.int .i64 (wErr s l k b)) h')
 (Hw:∀h' A B x x' fv,s.F=A++x::B→x.name=l→0≤k→(b≠[]→k+b.length≤268435456)→x'.name=x.name→x'.f=x.f.writes (went (fateE s.fates) (fateK s.fates) (cutP k.toNat b))→(∀q∈x'.qs,∀b,blkV q.2=some b→(∃q0∈x.qs,blkV q0.2=some b)∨h.size≤b)→SUpd h h' p s { s.stepped fv with F:=A++x'::B }→K (.int .i64 (fateE s.fates)) h') :
 CallsH Tryz.prog 83 #[ptrV p,str l,.int .i64 k,v] h K ⟨⟩:=by
 refine n83_calls ?_
 unfold n83; try delta vF vG vC vD vJ vV vk vt
 unfold wErr at He
 refine find_c3 a hl (fun h1 e1 ho => ?_) (fun h1 e1 ho hg => ?_) (fun h1 A B x e1 ho hg hF hn => ?_)
 ·simp (disch:=omega)
  have:=He h1 e1
  rw [if_neg ho] at this
  exact this dM
 ·simp (disch:=omega)
  have:=He h1 e1
  rw [if_pos ho,hg] at this
  exact this sM
 have He:=He h1 e1
 rw [if_pos ho,hg] at He
 dsimp only at He
 have hx:x∈s.F:=by rw [hF]; simp
 obtain ⟨va,vc,rfl⟩:=hB.form
 by_cases hk0:k<0
 ·rw [if_pos hk0] at He
  simp (disch:=omega) [hk0]
  exact He dM
 rw [if_neg hk0] at He
 simp (disch:=omega) [hk0]
 have a1:=a.ext e1
 have hFx:A++x::B=s.F:=hF.symm
 by_cases hb:b=[]
 ·subst hb
  simp (disch:=omega)
  refine step_c a1 hs fun h2 fv u2 => ?_
  simp (disch:=omega)
  refine loopX3 (α:=Unit) (fun _ => .int .i64 k) (fun _ => .slice va 0 vc) (fun _ => .int .i64 (fateK s.fates)) (fun _ g=>g=h2) (fun _=>0) () ⟨rfl,rfl,rfl⟩ rfl ?_
  rintro _ g rfl X hX
  simp (disch:=omega)
  refine Hw _ A B x x fv hF hn omg (fun e=>absurd rfl e) rfl ?_ (fun q hq b hb => .inl ⟨q,hq,hb⟩) ?_
  ·rw [cutP_nil]; unfold went; split<;>simp [Fl.writes]
  ·have:(s.stepped fv).F=A++x::B:=hF
   rw [←this]
   exact u2.from_ e1
 have hbl0:0<b.length:=List.length_pos_iff.2 hb
 by_cases hbig:268435456<k+b.length
 ·rw [if_pos ⟨hb,hbig⟩] at He
  by_cases hk2:268435456<k
  ·simp (disch:=omega) [hk2]
   exact He dM
  ·simp (disch:=omega) [hk2]
   exact He dM
 clear He
 simp (disch:=omega)
 refine step_c a1 hs fun h2 fv u2 => ?_
 simp (disch:=omega)
 have hpf:=a.pfew x hx
 have hst0:=a.stp
 have hfl:=u2.st.fl x (by show x∈s.F; exact hx)
 have hB2:=(hB.ext e1).modX u2.mod (fun c hc hcb _=>hv hc c hcb)
 have hvlt:∀c,blkV (.slice va b.length vc)=some c→c<h2.size∧¬x.own c:=fun c hc=>⟨hB2.lt hc hb,fun e=>hv hb c hc (.inr (.inr (.inr ⟨x,hx,e⟩)))⟩
 obtain ⟨k,rfl⟩:=Int.eq_ofNat_of_zero_le (Int.not_lt.1 hk0)
 generalize hE:fateE s.fates=E at *
 have hK0:0≤fateK s.fates∧fateK s.fates<9223372036854775808:=by
  unfold fateK
  split
  ·omega
  ·rename_i n t hf
   have:=a.fok (_,n) (by rw [hf]; exact List.mem_cons_self)
   dsimp only at this
   split<;>omega
 refine loopX3 (α:=Nat×List UInt8×Value×Int×Fh) (fun a => .int .i64 a.1) (fun a=>a.2.2.1) (fun a => .int .i64 a.2.2.2.1)
  (fun a g=>Upd h2 g x a.2.2.2.2∧Bytes g a.2.2.1 a.2.1∧(a.2.1≠[]→∀c,blkV a.2.2.1=some c→c<h2.size∧¬x.own c)∧a.1+a.2.1.length≤268435456∧a.2.2.2.2.qs.length+a.2.1.length≤x.qs.length+b.length ∧ -(a.1:Int)≤a.2.2.2.1∧a.2.2.2.1<9223372036854775808∧a.2.2.2.2.f.writes (went E a.2.2.2.1 (cutP a.1 a.2.1))=x.f.writes (went E (fateK s.fates) (cutP k b)))
  (fun a=>a.2.1.length) (k,b,.slice va b.length vc,fateK s.fates,x) ⟨rfl,rfl,rfl⟩ ⟨.refl hfl,hB2,fun _=>hvlt,by dsimp only; omega,by dsimp only; omega,by dsimp only; omega,by dsimp only; omega,rfl⟩ ?_
 rintro ⟨k',b',v',kp,x'⟩ g ⟨u,hb',hvl,hlen,hqs,hp0,hp1,heq⟩ X hX
 dsimp only at u hb' hvl hlen hqs hp0 hp1 heq hX ⊢
 obtain ⟨ua,uc,rfl⟩:=hb'.form
 have done:x'.f=x.f.writes (went E (fateK s.fates) (cutP k b))→K (.int .i64 E) g:=fun hd=>by
  refine Hw g A B x x' fv hF hn omg (fun _=>by omega) u.name ?_ (fun q hq b hb=>(u.pcs q hq b hb).imp id (fun e=>by have:=e1.size; have:=u2.mod.size; omega)) ?_
  ·rw [Int.toNat_natCast]; exact hd
  ·have hFs:(s.stepped fv).F=A++x::B:=hF
   exact (u2.from_ e1).trans (u2.st.put hFs u (by show _≤(s.steps+1)*1000000; omega))
 have ex:b'=[]∨(E≠0∧kp≤0)→x'.f=x.f.writes (went E (fateK s.fates) (cutP k b)):=by
  intro hh
  rw [←heq]
  have:went E kp (cutP k' b')=[]:=by
   unfold went
   rcases hh with rfl|⟨h1,h2⟩
   ·rw [cutP_nil]; split<;>simp
   ·rw [if_neg h1,show kp.toNat=0 by omega]; simp
  rw [this]; rfl
 by_cases hbe:b'=[]
 ·subst hbe
  simp (disch:=omega)
  exact done (ex (.inl rfl))
 have hbl':0<b'.length:=List.length_pos_iff.2 hbe
 by_cases hst:E≠0∧kp≤0
 ·simp (disch:=omega) [hst.1]
  exact done (ex (.inr hst))
 clear done ex
 have hgo:E=0∨0<kp:=by omega
 have hxb:x'.b=x.b:=u.b
 obtain ⟨n,hnd⟩:∃n,n=min b'.length (512-k'%512):=⟨_,rfl⟩
 have hmn:(if (512:Int)-(k':Int)%512<(b'.length:Int) then 512-(k':Int)%512 else (b'.length:Int))=(n:Int):=by rw [hnd]; split<;>omega
 have hn1:1≤n∧n≤b'.length∧n≤512-k'%512∧k'+n≤268435456:=by omega
 have hsum:(k':Int)+(n:Int)=((k'+n:Nat):Int):=by omega
 obtain ⟨ad,rfl,-,huc,hA⟩:=hb'.at hbl'
 have hcut:=cutP_cons (k:=k') hbe
 rw [←hnd] at hcut
 by_cases hE0:E=0
 ·simp (disch:=omega) [hE0]
  simp only [hmn,hsum]
  rw [←hxb]
  refine grow_c u.fl (n:=k'+n) omg fun g1 lv nv u1 => ?_
  have c1:=cellOf (i:=1) u1.fl.cells rfl
  unfold ptrV
  simp (disch:=omega) [c1,hmn]
  have hB1:Bytes g1 (.slice (some ad) b'.length uc) b':=hb'.mod u1.mod (fun c hc e=>(u.own c e).elim (hvl hbe c hc).2 (fun e=>by have:=(hvl hbe c hc).1; omega))
  obtain ⟨-,-,hA1⟩:True∧True∧At g1 ad b':=by
   rcases hB1 with ⟨e,-⟩|⟨a',c',e,-,h3⟩
   ·cases e
   ·cases e; exact ⟨trivial,trivial,h3⟩
  have hAt:=hA1.part 0 n uc omg omg huc
  rw [sub_zero,List.drop_zero] at hAt
  have hbn:Bytes g1 (.slice (some ad) n uc) (b'.take n) := .inr ⟨ad,uc,by congr 1; simp; omega,by simp; omega,hAt⟩
  have hsrc:=Src.of_bytes hbn
  rw [show (b'.take n).length=n by simp; omega] at hsrc
  refine bclone_c hsrc ⟨_,_,rfl⟩ (one_bytes _) omg fun w g2 e2 ow wf wf2 => ?_
  have c2:=cellOf (i:=1) ((u1.fl.ext e2).cells) rfl
  have hxl:=get_some_lt (u1.fl.ext e2).cells
  obtain ⟨wa,wn,wc,rfl,-,-,-⟩:=ow.form
  obtain ⟨pa,pn,pc,hpv,hpl,hpc,-⟩:=u1.fl.ps.form
  have hpv1:x'.pv = .slice pa pn pc:=hpv
  have o2:=u1.fl.ps.ext e2
  have hbw:Bytes g2 (.slice wa wn wc) (b'.take n):=ow.bytes
  dsimp only at o2 hpl
  have hxl':x'.b<g2.size:=hxl
  have hxn:¬x'.b=g2.size:=by omega
  have c2':hcell g2 ⟨x'.b,1,none⟩=some (.slice pa pn pc):=hpv▸c2
  simp (disch:=omega) [c2',hpv1,hxn]
  have hql:(x'.qs.flatMap pcV).length=x'.qs.length*2:=by
   have:∀l:List (Pc×Value),(l.flatMap pcV).length=l.length*2:=fun l=>by induction l with|nil=>rfl|cons f l ih=>rw [List.flatMap_cons,List.length_append,ih]; simp [pcV]; omega
   exact this _
  have hpn:pn=x'.qs.length:=by omega
  have hqn:x'.qs.length≤1000000000000:=by omega
  have e3:Ext g2 (g2.push (.cells #[.int .i64 k',.slice wa wn wc] pT)):=extS
  have o2':=o2.ext e3
  have hpv':x'.pv = .slice pa pn pc:=hpv1
  rw [hpv1] at o2'
  refine Hp_appendG (e:=pT) (s:=2) (by_:=32) (n:=pn) (k:=1) (news:=[.int .i64 k',.slice wa wn wc]) kR kR o2' hpl omg (Src_new (vs:=[.int .i64 k',.slice wa wn wc]) rfl) (by simp [one]) omg omg fun pv' g3 o3 m3 f3 _ => ?_
  obtain ⟨pa',pn',pc',rfl,hpl',hpc',-⟩:=o3.form
  have hxpb:∀c,blkG (.slice pa pn pc)=some c→c≠x'.b:=fun c hc=>u1.fl.ps.ne (by dsimp only; rw [hpv1]; exact hc) u1.fl.cells pT_fT
  have cel2:=(u1.fl.ext (e2.trans e3)).cells
  have cel3:=(m3.block x'.b (get_some_lt cel2) (fun e=>hxpb _ e rfl)).trans cel2
  have d1:=cellOf (i:=1) cel3 rfl
  have d2:=cellOf (i:=2) cel3 rfl
  have dz:=frzOf (i:=1) cel3
  obtain ⟨na,nn,nc,hnv,hnl,hnc,hnne⟩:=u1.fl.now.form
  have hnv1:nv = .slice na nn nc:=hnv
  have hnow:(growL x'.f.now (k'+n)).length=nn:=by
   have e5:(Fh.f { x' with last:=growL x'.last (k'+n),lv:=lv,nv:=nv }).now=growL x'.f.now (k'+n):=u.fl.ok.now_grow (k'+n)
   rw [e5] at hnl
   simpa using hnl
  have hnn:nn=max x'.f.now.length (k'+n):=by rw [←hnow,growL_len]
  obtain ⟨nb,no,rfl⟩:=hnne (by intro e; rw [e] at hnl; simp at hnl; omega)
  have d1':hcell g3 ⟨x'.b,1,none⟩=some (.slice pa pn pc):=hpv▸d1
  have d2':hcell g3 ⟨x'.b,2,none⟩=some (.slice (some ⟨nb,no,none⟩) nn nc):=hnv1▸d2
  have u3:=u.trans u1
  have had:∀c,blkV (.slice (some ad) n uc)=some c→c<g1.size∧¬Fh.own { x' with last:=growL x'.last (k'+n),lv:=lv,nv:=nv } c:=fun c hc=>by
   have h1:=hvl hbe c hc
   have h2:=u3.mod.size
   exact ⟨by omega,fun e=>(u3.own c e).elim h1.2 (fun e=>by omega)⟩
  have hb4:Bytes (hset g3 ⟨x'.b,1,none⟩ (.slice pa' pn' pc')) (.slice (some ad) n uc) (b'.take n):=by
   refine hbn.mod (S:=Fh.own { x' with last:=growL x'.last (k'+n),lv:=lv,nv:=nv }) (Mod.setIn ((Mod.of_ext (e2.trans e3)).trans m3 (fun c _ e => .inr (.inr (.inl (by dsimp only; rw [hpv1]; exact e))))) (.inl (.inl rfl))) (fun c hc=>(had c hc).2)
  have o4:OwnG bT 1 (hset g3 ⟨x'.b,1,none⟩ (.slice pa' pn' pc')) (.slice (some ⟨nb,no,none⟩) nn nc) ((growL x'.f.now (k'+n)).map byteV):=by
   have e5:(Fh.f { x' with last:=growL x'.last (k'+n),lv:=lv,nv:=nv }).now=growL x'.f.now (k'+n):=u.fl.ok.now_grow (k'+n)
   have on:=u1.fl.now
   rw [e5] at on
   have hz:=e3.size
   refine hnv1▸on.mod (S:=fun c=>blkG (.slice pa pn pc)=some c∨c=x'.b) (Mod.setIn ((Mod.of_ext (e2.trans e3)).trans m3 (fun c _ e => .inl e)) (.inl (.inr rfl))) (fun c hc => ?_)
   rintro (e|e)
   ·obtain ⟨arr,ha⟩:=u1.fl.ps.tag (b:=c) (by dsimp only; rw [hpv1]; exact e)
    exact on.ne hc ha bT_pT rfl
   ·exact on.ne hc u1.fl.cells bT_fT e
  simp (disch:=omega) [d1',d2',dz,hmn]
  refine Hp_copyG (lo:=k') (m:=nn-k') (e:=bT) kR o4 omg hb4 fun g5 o5 m5 => ?_
  simp (disch:=omega) [hmn]
  have htk:(b'.take n).take (nn-k')=b'.take n:=List.take_of_length_le (by simp; omega)
  rw [htk] at o5
  have hlb:(b'.take n).length=n:=by simp; omega
  have hz3:=e3.size
  have hpo:Pc.ok ⟨k',b'.take n⟩:=⟨by rw [hlb]; omega,by rw [hlb]; show k'%512+n≤512; omega⟩
  have up:Upd g1 g5 { x' with last:=growL x'.last (k'+n),lv:=lv,nv:=nv } ({ x' with last:=growL x'.last (k'+n),lv:=lv,nv:=nv,qs:=x'.qs++[(⟨k',b'.take n⟩,.slice wa wn wc)],pv := .slice pa' pn' pc' }:Fh):=by
   refine piece_upd (k:=k') (b:=b'.take n) (w := .slice wa wn wc) (pv' := .slice pa' pn' pc') (h2:=g2) (h3:=g3) u1.fl hpo ?_ e2 hbw wf2 ?_ ?_ ?_ ?_ ?_
   ·rw [hlb]; show k'+n≤(growL x'.last (k'+n)).length; rw [growL_len]; omega
   ·simpa [pcV] using o3
   ·refine (Mod.of_ext e3).trans m3 (fun c _ e => ?_)
    show blkG x'.pv=some c
    rw [hpv1]; exact e
   ·intro c hc
    rcases f3 c hc with e|e
    ·left; show blkG x'.pv=some c; rw [hpv1]; exact e
    ·right; exact Nat.le_trans hz3 e
   ·show OwnG bT 1 g5 nv _
    have e5:(Fh.f { x' with last:=growL x'.last (k'+n),lv:=lv,nv:=nv }).now=growL x'.f.now (k'+n):=u.fl.ok.now_grow (k'+n)
    rw [e5,hnv1]
    exact o5
   ·refine m5.mono (fun c _ e => ?_)
    show blkG nv=some c
    rw [hnv1]; exact e
  have uu:=u3.trans up
  have hadb:∀c,blkV (.slice (some (sub ad n uc)) (b'.length-n) (uc-n))=some c→c<h2.size∧¬x.own c:=fun c hc=>hvl hbe c (by simpa [blkV] using hc)
  have hbd:Bytes g5 (.slice (some (sub ad n uc)) (b'.length-n) (uc-n)) (b'.drop n):=by
   have hp:=hA.part n b'.length uc omg omg huc
   rw [List.take_length] at hp
   have hg:Bytes g (.slice (some (sub ad n uc)) (b'.length-n) (uc-n)) (b'.drop n) := .inr ⟨_,_,by congr 1; simp,by simp; omega,hp⟩
   refine hg.mod (u1.trans up).mod (fun c hc e => ?_)
   have h1:=hadb c hc
   exact (u.own c e).elim h1.2 (fun e=>by omega)
  refine hX (k'+n,b'.drop n,.slice (some (sub ad n uc)) (b'.length-n) (uc-n),kp-1,({ x' with last:=growL x'.last (k'+n),lv:=lv,nv:=nv,qs:=x'.qs++[(⟨k',b'.take n⟩,.slice wa wn wc)],pv := .slice pa' pn' pc' }:Fh)) _ _ _ _ sM rfl rfl ⟨uu,hbd,fun _=>hadb,?_,?_,?_,?_,?_⟩ ?_
  ·simp; omega
  ·simp; omega
  ·simp; omega
  ·simp; omega
  ·dsimp only
   rw [←heq,hcut,went_cons hgo]
   show Fl.writes _ _=Fl.writes (x'.f.add _) _
   congr 1
   unfold Fh.f Fl.add
   dsimp only
   rw [hlb,List.map_append]; rfl
  ·simp; omega
 ·simp (disch:=omega) [hE0]
  simp only [hmn,hsum]
  rw [←hxb]
  refine grow_c u.fl (n:=k'+n) omg fun g1 lv nv u1 => ?_
  have c1:=cellOf (i:=1) u1.fl.cells rfl
  unfold ptrV
  simp (disch:=omega) [c1,hmn]
  have hB1:Bytes g1 (.slice (some ad) b'.length uc) b':=hb'.mod u1.mod (fun c hc e=>(u.own c e).elim (hvl hbe c hc).2 (fun e=>by have:=(hvl hbe c hc).1; omega))
  obtain ⟨-,-,hA1⟩:True∧True∧At g1 ad b':=by
   rcases hB1 with ⟨e,-⟩|⟨a',c',e,-,h3⟩
   ·cases e
   ·cases e; exact ⟨trivial,trivial,h3⟩
  have hAt:=hA1.part 0 n uc omg omg huc
  rw [sub_zero,List.drop_zero] at hAt
  have hbn:Bytes g1 (.slice (some ad) n uc) (b'.take n) := .inr ⟨ad,uc,by congr 1; simp; omega,by simp; omega,hAt⟩
  have hsrc:=Src.of_bytes hbn
  rw [show (b'.take n).length=n by simp; omega] at hsrc
  refine bclone_c hsrc ⟨_,_,rfl⟩ (one_bytes _) omg fun w g2 e2 ow wf wf2 => ?_
  have c2:=cellOf (i:=1) ((u1.fl.ext e2).cells) rfl
  have hxl:=get_some_lt (u1.fl.ext e2).cells
  obtain ⟨wa,wn,wc,rfl,-,-,-⟩:=ow.form
  obtain ⟨pa,pn,pc,hpv,hpl,hpc,-⟩:=u1.fl.ps.form
  have hpv1:x'.pv = .slice pa pn pc:=hpv
  have o2:=u1.fl.ps.ext e2
  have hbw:Bytes g2 (.slice wa wn wc) (b'.take n):=ow.bytes
  dsimp only at o2 hpl
  have hxl':x'.b<g2.size:=hxl
  have hxn:¬x'.b=g2.size:=by omega
  have c2':hcell g2 ⟨x'.b,1,none⟩=some (.slice pa pn pc):=hpv▸c2
  simp (disch:=omega) [c2',hpv1,hxn]
  have hql:(x'.qs.flatMap pcV).length=x'.qs.length*2:=by
   have:∀l:List (Pc×Value),(l.flatMap pcV).length=l.length*2:=fun l=>by induction l with|nil=>rfl|cons f l ih=>rw [List.flatMap_cons,List.length_append,ih]; simp [pcV]; omega
   exact this _
  have hpn:pn=x'.qs.length:=by omega
  have hqn:x'.qs.length≤1000000000000:=by omega
  have e3:Ext g2 (g2.push (.cells #[.int .i64 k',.slice wa wn wc] pT)):=extS
  have o2':=o2.ext e3
  have hpv':x'.pv = .slice pa pn pc:=hpv1
  rw [hpv1] at o2'
  refine Hp_appendG (e:=pT) (s:=2) (by_:=32) (n:=pn) (k:=1) (news:=[.int .i64 k',.slice wa wn wc]) kR kR o2' hpl omg (Src_new (vs:=[.int .i64 k',.slice wa wn wc]) rfl) (by simp [one]) omg omg fun pv' g3 o3 m3 f3 _ => ?_
  obtain ⟨pa',pn',pc',rfl,hpl',hpc',-⟩:=o3.form
  have hxpb:∀c,blkG (.slice pa pn pc)=some c→c≠x'.b:=fun c hc=>u1.fl.ps.ne (by dsimp only; rw [hpv1]; exact hc) u1.fl.cells pT_fT
  have cel2:=(u1.fl.ext (e2.trans e3)).cells
  have cel3:=(m3.block x'.b (get_some_lt cel2) (fun e=>hxpb _ e rfl)).trans cel2
  have d1:=cellOf (i:=1) cel3 rfl
  have d2:=cellOf (i:=2) cel3 rfl
  have dz:=frzOf (i:=1) cel3
  obtain ⟨na,nn,nc,hnv,hnl,hnc,hnne⟩:=u1.fl.now.form
  have hnv1:nv = .slice na nn nc:=hnv
  have hnow:(growL x'.f.now (k'+n)).length=nn:=by
   have e5:(Fh.f { x' with last:=growL x'.last (k'+n),lv:=lv,nv:=nv }).now=growL x'.f.now (k'+n):=u.fl.ok.now_grow (k'+n)
   rw [e5] at hnl
   simpa using hnl
  have hnn:nn=max x'.f.now.length (k'+n):=by rw [←hnow,growL_len]
  obtain ⟨nb,no,rfl⟩:=hnne (by intro e; rw [e] at hnl; simp at hnl; omega)
  have d1':hcell g3 ⟨x'.b,1,none⟩=some (.slice pa pn pc):=hpv▸d1
  have d2':hcell g3 ⟨x'.b,2,none⟩=some (.slice (some ⟨nb,no,none⟩) nn nc):=hnv1▸d2
  have u3:=u.trans u1
  have had:∀c,blkV (.slice (some ad) n uc)=some c→c<g1.size∧¬Fh.own { x' with last:=growL x'.last (k'+n),lv:=lv,nv:=nv } c:=fun c hc=>by
   have h1:=hvl hbe c hc
   have h2:=u3.mod.size
   exact ⟨by omega,fun e=>(u3.own c e).elim h1.2 (fun e=>by omega)⟩
  have hb4:Bytes (hset g3 ⟨x'.b,1,none⟩ (.slice pa' pn' pc')) (.slice (some ad) n uc) (b'.take n):=by
   refine hbn.mod (S:=Fh.own { x' with last:=growL x'.last (k'+n),lv:=lv,nv:=nv }) (Mod.setIn ((Mod.of_ext (e2.trans e3)).trans m3 (fun c _ e => .inr (.inr (.inl (by dsimp only; rw [hpv1]; exact e))))) (.inl (.inl rfl))) (fun c hc=>(had c hc).2)
  have o4:OwnG bT 1 (hset g3 ⟨x'.b,1,none⟩ (.slice pa' pn' pc')) (.slice (some ⟨nb,no,none⟩) nn nc) ((growL x'.f.now (k'+n)).map byteV):=by
   have e5:(Fh.f { x' with last:=growL x'.last (k'+n),lv:=lv,nv:=nv }).now=growL x'.f.now (k'+n):=u.fl.ok.now_grow (k'+n)
   have on:=u1.fl.now
   rw [e5] at on
   have hz:=e3.size
   refine hnv1▸on.mod (S:=fun c=>blkG (.slice pa pn pc)=some c∨c=x'.b) (Mod.setIn ((Mod.of_ext (e2.trans e3)).trans m3 (fun c _ e => .inl e)) (.inl (.inr rfl))) (fun c hc => ?_)
   rintro (e|e)
   ·obtain ⟨arr,ha⟩:=u1.fl.ps.tag (b:=c) (by dsimp only; rw [hpv1]; exact e)
    exact on.ne hc ha bT_pT rfl
   ·exact on.ne hc u1.fl.cells bT_fT e
  simp (disch:=omega) [d1',d2',dz,hmn]
  refine Hp_copyG (lo:=k') (m:=nn-k') (e:=bT) kR o4 omg hb4 fun g5 o5 m5 => ?_
  simp (disch:=omega) [hmn]
  have htk:(b'.take n).take (nn-k')=b'.take n:=List.take_of_length_le (by simp; omega)
  rw [htk] at o5
  have hlb:(b'.take n).length=n:=by simp; omega
  have hz3:=e3.size
  have hpo:Pc.ok ⟨k',b'.take n⟩:=⟨by rw [hlb]; omega,by rw [hlb]; show k'%512+n≤512; omega⟩
  have up:Upd g1 g5 { x' with last:=growL x'.last (k'+n),lv:=lv,nv:=nv } ({ x' with last:=growL x'.last (k'+n),lv:=lv,nv:=nv,qs:=x'.qs++[(⟨k',b'.take n⟩,.slice wa wn wc)],pv := .slice pa' pn' pc' }:Fh):=by
   refine piece_upd (k:=k') (b:=b'.take n) (w := .slice wa wn wc) (pv' := .slice pa' pn' pc') (h2:=g2) (h3:=g3) u1.fl hpo ?_ e2 hbw wf2 ?_ ?_ ?_ ?_ ?_
   ·rw [hlb]; show k'+n≤(growL x'.last (k'+n)).length; rw [growL_len]; omega
   ·simpa [pcV] using o3
   ·refine (Mod.of_ext e3).trans m3 (fun c _ e => ?_)
    show blkG x'.pv=some c
    rw [hpv1]; exact e
   ·intro c hc
    rcases f3 c hc with e|e
    ·left; show blkG x'.pv=some c; rw [hpv1]; exact e
    ·right; exact Nat.le_trans hz3 e
   ·show OwnG bT 1 g5 nv _
    have e5:(Fh.f { x' with last:=growL x'.last (k'+n),lv:=lv,nv:=nv }).now=growL x'.f.now (k'+n):=u.fl.ok.now_grow (k'+n)
    rw [e5,hnv1]
    exact o5
   ·refine m5.mono (fun c _ e => ?_)
    show blkG nv=some c
    rw [hnv1]; exact e
  have uu:=u3.trans up
  have hadb:∀c,blkV (.slice (some (sub ad n uc)) (b'.length-n) (uc-n))=some c→c<h2.size∧¬x.own c:=fun c hc=>hvl hbe c (by simpa [blkV] using hc)
  have hbd:Bytes g5 (.slice (some (sub ad n uc)) (b'.length-n) (uc-n)) (b'.drop n):=by
   have hp:=hA.part n b'.length uc omg omg huc
   rw [List.take_length] at hp
   have hg:Bytes g (.slice (some (sub ad n uc)) (b'.length-n) (uc-n)) (b'.drop n) := .inr ⟨_,_,by congr 1; simp,by simp; omega,hp⟩
   refine hg.mod (u1.trans up).mod (fun c hc e => ?_)
   have h1:=hadb c hc
   exact (u.own c e).elim h1.2 (fun e=>by omega)
  refine hX (k'+n,b'.drop n,.slice (some (sub ad n uc)) (b'.length-n) (uc-n),kp-1,({ x' with last:=growL x'.last (k'+n),lv:=lv,nv:=nv,qs:=x'.qs++[(⟨k',b'.take n⟩,.slice wa wn wc)],pv := .slice pa' pn' pc' }:Fh)) _ _ _ _ sM rfl rfl ⟨uu,hbd,fun _=>hadb,?_,?_,?_,?_,?_⟩ ?_
  ·simp; omega
  ·simp; omega
  ·simp; omega
  ·simp; omega
  ·dsimp only
   rw [←heq,hcut,went_cons hgo]
   show Fl.writes _ _=Fl.writes (x'.f.add _) _
   congr 1
   unfold Fh.f Fl.add
   dsimp only
   rw [hlb,List.map_append]; rfl
  ·simp; omega
end Go.Proofs.YtcbbdnaelimpfaaGreat
set_option linter.unusedSimpArgs false
set_option linter.unusedVariables false
namespace Go.Proofs.YtcbbdnaelimpfaaGreat
open Go.Vc
variable {K:VP} {h:Heap}

theorem Upd.make {x:Fh} {h':Heap} {last:List UInt8} {qs:List (Pc×Value)} {lv pv nv:Value} (a:FlAt h x) (m:Mod x.own h h') (cells:h'[x.b]? = some (.cells #[lv,pv,nv] fT))
 (ol:OwnG bT 1 h' lv (last.map byteV)) (on:OwnG bT 1 h' nv ((layAll last (qs.map (·.1))).map byteV)) (op:OwnG pT 2 h' pv (qs.flatMap pcV)) (ok:Fl.ok ⟨x.name,last,qs.map (·.1)⟩)
 (hl:∀c,blkG lv=some c→blkG x.lv=some c∨h.size≤c) (hp:∀c,blkG pv=some c→blkG x.pv=some c∨h.size≤c) (hn:∀c,blkG nv=some c→blkG x.nv=some c∨h.size≤c) (ne:∀c,blkG lv=some c→blkG nv≠some c)
 (hq:∀q∈qs,Bytes h q.2 q.1.b∧∃q0∈x.qs,blkV q.2=blkV q0.2):Upd h h' x ⟨x.name,last,qs,x.b,lv,pv,nv⟩:=by
 have own':∀c,Fh.own ⟨x.name,last,qs,x.b,lv,pv,nv⟩ c→x.own c∨h.size≤c:=by
  rintro c (e|e|e|e)
  ·exact .inl (.inl e)
  ·exact (hl c e).imp (fun e => .inr (.inl e)) id
  ·exact (hp c e).imp (fun e => .inr (.inr (.inl e))) id
  ·exact (hn c e).imp (fun e => .inr (.inr (.inr e))) id
 have old:∀q∈qs,∀c,blkV q.2=some c→c<h.size∧¬x.own c:=fun q hq' c hc=>by
  obtain ⟨-,q0,h0,h1⟩:=hq q hq'
  rw [h1] at hc
  exact ⟨a.plt h0 hc,a.ap q0 h0 c hc⟩
 refine ⟨⟨cells,ol,on,op,fun q hq'=>(hq q hq').1.mod m (fun c hc=>(old q hq' c hc).2),ok,ne,fun q hq' c hc e => ?_⟩,m,own',fun q hq' c hc => ?_,rfl,rfl⟩
 ·have:=old q hq' c hc
  exact (own' c e).elim this.2 (fun e=>by omega)
 ·obtain ⟨-,q0,h0,h1⟩:=hq q hq'
  exact .inl ⟨q0,h0,h1▸hc⟩
theorem pcV_len (l:List (Pc×Value)):(l.flatMap pcV).length=l.length*2:=by
 induction l with|nil=>rfl|cons f l ih=>rw [List.flatMap_cons,List.length_append,ih]; simp [pcV]; omega
theorem pcV_get:∀(l:List (Pc×Value)) (i:Nat) (hi:i<l.length),(l.flatMap pcV)[i*2]? = some (.int .i64 (l[i].1.at_:Nat))∧(l.flatMap pcV)[i*2+1]? = some l[i].2
 | q::l,0,_=>by simp [pcV]
 | q::l,i+1,hi=>by
  have:=pcV_get l i (by simpa using hi)
  rw [List.flatMap_cons]
  have e1:(i+1)*2=(pcV q).length+i*2:=by simp [pcV]; omega
  rw [e1,List.getElem?_append_right omg,List.getElem?_append_right omg,Nat.add_sub_cancel_left,show (pcV q).length+i*2+1-(pcV q).length=i*2+1 by omega]
  simpa using this
theorem piece_cell {v:Value} {qs:List (Pc×Value)} {n c:Nat} {a:Addr} (o:OwnG pT 2 h (.slice (some a) n c) (qs.flatMap pcV)) {i:Nat} (hi:i<qs.length) :
 hcell h (elt a (i*2))=some (.int .i64 (qs[i].1.at_:Nat))∧hcell h (elt a (i*2+1))=some qs[i].2:=by
 obtain ⟨h1,h2⟩:=pcV_get qs i hi
 have hl:=pcV_len qs
 have c1:=(o.cell (i:=i*2) omg).1
 have c2:=(o.cell (i:=i*2+1) omg).1
 rw [List.getElem?_eq_getElem omg] at h1 h2
 rw [c1,c2]
 exact ⟨h1,h2⟩
theorem pcV_drop:∀(l:List (Pc×Value)) (i:Nat),(l.flatMap pcV).drop (i*2)=(l.drop i).flatMap pcV
 | l,0=>by simp
 | [],i+1=>by simp
 | q::l,i+1=>by
  rw [List.flatMap_cons,List.drop_succ_cons,←pcV_drop l i,show (i+1)*2=(pcV q).length+i*2 by simp [pcV]; omega,List.drop_append]
  simp
theorem pcV_one {l:List (Pc×Value)} (h1:∀q∈l,one q.2=true):∀u∈l.flatMap pcV,one u=true:=by
 intro u hu
 obtain ⟨q,hq,hu⟩:=List.mem_flatMap.1 hu
 simp [pcV] at hu
 rcases hu with rfl|rfl
 ·rfl
 ·exact h1 q hq
def fErr (s:St) (l:List UInt8):Int:=if okName l then (match s.get l with|none=>7|some _=>0) else 2
set_option maxHeartbeats 4000000 in
theorem Flush_c2 {p:Nat} {s:St} {l:List UInt8} (a:StAt h p s) (hl:l.length<9223372036854775808) (hs:s.steps+1<1000000)
 (He:∀h',Ext h h'→fErr s l≠0→K (.int .i64 (fErr s l)) h')
 (Hw:∀h' A B x x' fv,s.F=A++x::B→x.name=l→x'.name=x.name→x'.f=x.f.flush (wentN (fateE s.fates) (fateK s.fates) x.f.ps.length)→(∀q∈x'.qs,∀b,blkV q.2=some b→(∃q0∈x.qs,blkV q0.2=some b)∨h.size≤b)→SUpd h h' p s { s.stepped fv with F:=A++x'::B }→K (.int .i64 (fateE s.fates)) h') :
 CallsH Tryz.prog 87 #[ptrV p,str l] h K ⟨⟩:=by
 refine n87_calls ?_
 unfold n87; try delta vF vG vC vD vJ vV vk vt
 unfold fErr at He
 refine find_c3 a hl (fun h1 e1 ho => ?_) (fun h1 e1 ho hg => ?_) (fun h1 A B x e1 ho hg hF hn => ?_)
 ·simp (disch:=omega)
  have:=He h1 e1
  rw [if_neg ho] at this
  exact this dM
 ·simp (disch:=omega)
  have:=He h1 e1
  rw [if_pos ho,hg] at this
  exact this sM
 clear He
 have hx:x∈s.F:=by rw [hF]; simp
 have a1:=a.ext e1
 simp (disch:=omega)
 refine step_c a1 hs fun h2 fv u2 => ?_
 have hpf:=a.pfew x hx
 have hst0:=a.stp
 have hfl:=u2.st.fl x (by show x∈s.F; exact hx)
 have c1:=cellOf (i:=1) hfl.cells rfl
 obtain ⟨pa,pn,pc,hpv,hpl,hpc,hpne⟩:=hfl.ps.form
 rw [pcV_len] at hpl
 have hpn:pn=x.qs.length:=by omega
 subst hpn
 have c1':hcell h2 ⟨x.b,1,none⟩=some (.slice pa x.qs.length pc):=hpv▸c1
 generalize hE:fateE s.fates=E at *
 have hK0:0≤fateK s.fates:=by
  unfold fateK
  split
  ·omega
  ·split<;>omega
 unfold ptrV
 simp (disch:=omega) [c1']
 obtain ⟨n,hnd⟩:∃n,n=wentN E (fateK s.fates) x.qs.length:=⟨_,rfl⟩
 refine JoinN_in1 (fun v g=>v = .int .i64 (n:Int)∧h2=g) (fun kk hkk => ?_) (fun v g hv => ?_)
 ·by_cases hE0:E=0
  ·simp (disch:=omega) [hE0]
   exact hkk _ _ ⟨by rw [hnd]; unfold wentN; rw [if_pos hE0],rfl⟩
  ·simp (disch:=omega) [hE0]
   refine hkk _ _ ⟨by rw [hnd]; unfold wentN; rw [if_neg hE0]; congr 1; split<;>omega,rfl⟩
 obtain ⟨rfl,rfl⟩:=hv
 have hnq:n≤x.qs.length:=by rw [hnd]; unfold wentN; split<;>omega
 simp (disch:=omega) [c1',Hp_slgNH (P:=Tryz.prog) (t:=113) (s:=2) kR]
 have c0:=cellOf (i:=0) hfl.cells rfl
 have hxl:=get_some_lt hfl.cells
 have hlx:∀c,blkG x.lv=some c→c≠x.b:=fun c hc=>hfl.last.ne hc hfl.cells bT_fT
 have hlp:∀c,blkG x.lv=some c→blkG x.pv≠some c:=fun c hc e=>by
  obtain ⟨arr,ha⟩:=hfl.ps.tag e
  exact hfl.last.ne hc ha bT_pT rfl
 have hql:∀q∈x.qs,∀c,blkV q.2=some c→blkG x.lv≠some c:=fun q hq c hc e=>hfl.ap q hq c hc (.inr (.inl e))
 refine loopX1 (α:=Nat) (fun i => .int .i64 i) (fun i g=>i≤n∧Mod (fun c=>blkG x.lv=some c) h2 g∧OwnG bT 1 g x.lv ((layAll x.last ((x.qs.map (·.1)).take i)).map byteV)) (fun i=>n-i) 0 rfl ⟨Nat.zero_le _,.refl _ _,hfl.last⟩ ?_
 rintro i g ⟨hi,mg,og⟩ X hX
 have celg:=(mg.block x.b hxl (fun e=>hlx _ e rfl)).trans hfl.cells
 have d0:=cellOf (i:=0) celg rfl
 have d1:=cellOf (i:=1) celg rfl
 by_cases hin:i<n
 ·have hiq:i<x.qs.length:=by omega
  obtain ⟨pb,po,rfl⟩:=hpne (by intro e; have:=pcV_len x.qs; rw [e] at this; simp at this; omega)
  have pg:OwnG pT 2 g (.slice (some ⟨pb,po,none⟩) x.qs.length pc) (x.qs.flatMap pcV):=hpv▸hfl.ps.mod mg (fun c hc e=>hlp c e hc)
  obtain ⟨p1,p2⟩:=piece_cell (v:=x.pv) pg hiq
  have hqm:x.qs[i]∈x.qs:=List.getElem_mem hiq
  have hqb:Bytes g x.qs[i].2 x.qs[i].1.b:=(hfl.bs _ hqm).mod mg (fun c hc e=>hql _ hqm c hc e)
  obtain ⟨qa,qc,hqv⟩:=hqb.form
  obtain ⟨qok,qfit⟩:=hfl.ok.pc x.qs[i].1 (List.mem_map_of_mem hqm)
  have qfit:x.qs[i].1.at_+x.qs[i].1.b.length≤x.last.length:=qfit
  have qpos:=qok.pos
  rw [hqv] at p2
  obtain ⟨la,ln,lc,hlv,hll,hlc,hlne⟩:=og.form
  have hlen:(layAll x.last ((x.qs.map (·.1)).take i)).length=x.last.length:=layAll_len fun p hp=>(hfl.ok.pc p (List.mem_of_mem_take hp)).2
  have hln:ln=x.last.length:=by simp [hlen] at hll; omega
  subst hln
  obtain ⟨lb,lo,rfl⟩:=hlne (by intro e; rw [e] at hll; simp at hll; omega)
  have d0':hcell g ⟨x.b,0,none⟩=some (.slice (some ⟨lb,lo,none⟩) x.last.length lc):=hlv▸d0
  have hxg:=get_some_lt celg
  have hxn:¬x.b=g.size:=by omega
  rw [hlv] at og
  simp (disch:=omega) [p1,p2,d0',hxn]
  have hEx:Ext g (hset (hset (g.push (.cells #[.int .i64 0,.slice none 0 0] 162)) ⟨g.size,0,none⟩ (.int .i64 x.qs[i].1.at_)) ⟨g.size,1,none⟩ (.slice qa x.qs[i].1.b.length qc)):=extS
  refine (⟨_,rfl⟩:∃f,f=(hset (hset (g.push (.cells #[.int .i64 0,.slice none 0 0] 162)) ⟨g.size,0,none⟩ (.int .i64 x.qs[i].1.at_)) ⟨g.size,1,none⟩ (.slice qa x.qs[i].1.b.length qc))).elim fun g' eg => ?_
  rw [←eg] at hEx ⊢
  clear eg
  rw [hqv] at hqb
  refine Hp_copyG (e:=bT) (lo:=x.qs[i].1.at_) (m:=x.last.length-x.qs[i].1.at_) kR (og.ext hEx) omg (hqb.ext hEx) fun g5 o5 m5 => ?_
  simp (disch:=omega)
  refine hX (i+1) _ _ sM ⟨by omega,?_,?_⟩ omg
  ·rw [←hlv] at m5
   exact (mg.extIn hEx).trans m5 (fun c _ e=>e)
  ·rw [layAll_take (by simpa using hiq),hlv]
   have ht:x.qs[i].1.b.take (x.last.length-x.qs[i].1.at_)=x.qs[i].1.b:=List.take_of_length_le omg
   rw [ht] at o5
   simpa [layP] using o5
 ·obtain rfl:i=n:=by omega
  have d1':hcell g ⟨x.b,1,none⟩=some (.slice pa x.qs.length pc):=hpv▸d1
  have pg:OwnG pT 2 g (.slice pa x.qs.length pc) (x.qs.flatMap pcV):=hpv▸hfl.ps.mod mg (fun c hc e=>hlp c e hc)
  simp (disch:=omega) [d1',Hp_slgLN (P:=Tryz.prog) (t:=113) (s:=2) kR]
  have dr:=pg.dropO (lo:=i) hnq
  have ed:(x.qs.flatMap pcV).drop (i*2)=(x.qs.drop i).flatMap pcV:=pcV_drop _ _
  rw [ed] at dr
  refine pclone_c dr.src ⟨_,_,rfl⟩ (fun u hu => ?_) omg fun v' g2 e2 ov wf wf2 => ?_
  ·refine pcV_one (fun q hq => ?_) u hu
   obtain ⟨oa,oc,he⟩:=(hfl.bs q (List.mem_of_mem_drop hq)).form
   rw [he]; rfl
  have cel2:=(e2.block _ (get_some_lt celg)).trans celg
  have k1:=cellOf (i:=1) cel2 rfl
  have f1:=frzOf (i:=1) cel2
  obtain ⟨va,vn,vc,rfl,-,-,-⟩:=ov.form
  simp (disch:=omega) [k1,f1]
  have hgz:=mg.size
  have hqn:(x.qs.drop i).map (·.1)=x.f.ps.drop i:=by rw [List.map_drop]; rfl
  have okf:=hfl.ok.flush i
  have hvx:∀c,blkG (.slice va vn vc)=some c→c≠x.b:=fun c hc=>ov.ne hc cel2 pT_fT
  have m3:Mod (fun c=>blkG x.lv=some c∨c=x.b) h2 (hset g2 ⟨x.b,1,none⟩ (.slice va vn vc)):=Mod.setIn ((mg.mono (fun c _ e => .inl e)).extIn e2) (.inl (.inr rfl))
  refine Hw _ A B x ⟨x.name,layAll x.last (x.f.ps.take i),x.qs.drop i,x.b,x.lv,.slice va vn vc,x.nv⟩ fv hF hn rfl ?_ (fun q hq b hb => .inl ⟨q,List.mem_of_mem_drop hq,hb⟩) ?_
  ·show (⟨x.name,layAll x.last (x.f.ps.take i),(x.qs.drop i).map (·.1)⟩:Fl)=_
   have:wentN E (fateK s.fates) x.f.ps.length=i:=by rw [hnd]; simp [Fh.f]
   rw [this,hqn]; rfl
  ·have hFs:(s.stepped fv).F=A++x::B:=hF
   refine (u2.from_ e1).trans (u2.st.put hFs (Upd.make hfl (m3.mono (fun c _ e=>e.elim (fun e => .inr (.inl e)) .inl)) (obj_set cel2) ?_ ?_ ?_ ?_ ?_ ?_ ?_ hfl.ne ?_) ?_)
   ·exact (og.ext e2).mod (Mod.set _ _ _) (fun c hc e=>hlx c hc e)
   ·have hnw:layAll (layAll x.last (x.f.ps.take i)) ((x.qs.drop i).map (·.1))=x.f.now:=by rw [hqn]; exact now_flush x.f i
    rw [hnw]
    refine hfl.now.mod m3 (fun c hc e => ?_)
    rcases e with e|e
    ·exact hfl.ne c e hc
    ·exact hfl.now.ne hc hfl.cells bT_fT e
   ·exact ov.mod (Mod.set _ _ _) (fun c hc e=>hvx c hc e)
   ·rw [hqn]; exact okf
   ·exact fun c hc => .inl hc
   ·exact fun c hc => .inr (by have:=wf c hc; omega)
   ·exact fun c hc => .inl hc
   ·exact fun q hq=>⟨hfl.bs q (List.mem_of_mem_drop hq),q,List.mem_of_mem_drop hq,rfl⟩
   ·show (x.qs.drop i).length≤(s.steps+1)*1000000
    rw [List.length_drop]; omega
end Go.Proofs.YtcbbdnaelimpfaaGreat

/- Heads: a head is read. Clusters: the counts of an image in memory; bytes read; a block found. Clusters: bytes read; a block found,and read; a count told. Clusters: bytes are alike; a file grows; the changed sectors of a block are written. Clusters: a missing block is made. Ranges over maps from which keys are taken meanwhile. The keys of a map,appended in whatever order,and sorted. Clusters: how often each is named,in a map. Clusters,plainly: what is asked may be done; a block's counts,one by one. -/
import Derived.Test.YtdccfkffabngjaaGreatGpE
import Derived.Test.YtdccfkffabngjaaGreatGpA
import Derived.Test.YtdccfkffabngjaaGreatGpC
import Derived.Test.YtdccfkffabngjaaGreatVcRange
set_option linter.unusedSimpArgs false
set_option linter.unusedVariables false
set_option maxRecDepth 20000
namespace Go.Proofs.YtdccfkffabngjaaGreat
open Go.Vc
variable {K:VP} {h:Heap}

theorem InvokeH_2_1 {P:Go.Program} {g:Go.FuncId} {a b c1:Go.Value} (hc:callOk P g=true) (H:CallsH P g #[a,b,c1] h K ⟨⟩):InvokeH P (.func (.func g) #[] #[c1]) #[a,b] h K ⟨⟩:=InvokeH_func hc (by simpa using H)
theorem getH_c {B:Nat} {v:Value} {l:List UInt8} {p n:Int} (hb:hcell h ⟨B,0,none⟩=some v) (hB:Bytes h v l) (hl:l.length<1000000) (H:K (.int .i64 (gotI l p n)) h) :
 InvokeH Tryz.prog (.func (.func 84) #[] #[.pointer (some ⟨B,0,none⟩)]) #[.int .i64 p,.int .i64 n] h K ⟨⟩:=by
 refine InvokeH_2_1 kR ?_
 refine n84_calls ?_
 unfold n84; try delta vF vG vC vD vJ vV vk vt
 obtain ⟨o,c,rfl⟩:=hB.form
 simp (disch:=omega) [hb]
 refine Get_c hB omg ?_
 unfold gotI at H
 simp (disch:=omega) [Tryz.cvw44_2]
 exact H
def HdW (h:Heap) (b:Nat) (x:Hd):Prop:=Cel h b 0 (.int .i64 x.bits)∧Cel h b 1 (.int .u64 x.flags)∧Cel h b 2 (.int .i64 x.size)∧Cel h b 3 (.int .i64 x.l1)∧Cel h b 4 (.int .i64 x.l1len)∧Cel h b 5 (.int .i64 x.order)∧Cel h b 6 (.int .i64 x.counts)∧Cel h b 7 (.int .i64 x.clen)∧Cel h b 8 (.int .i64 x.snaps)∧Cel h b 9 (.int .i64 x.sat)∧Cel h b 10 (.int .i64 x.slen)∧Cel h b 11 (.int .i64 x.maps)∧Cel h b 12 (.int .i64 x.mat)∧Cel h b 13 (.int .i64 x.mlen)∧Cel h b 14 (str x.back)
theorem HdW.at {b:Nat} {x:Hd} (a:HdW h b x):HdAt h b x:=by
 obtain ⟨d0,d1,d2,d3,d4,d5,d6,d7,d8,d9,d10,d11,d12,d13,d14⟩:=a
 exact ⟨d0.get,d1.get,d2.get,d3.get,d4.get,d5.get,d6.get,d7.get,d8.get,d9.get,d10.get,d11.get,d12.get,d13.get,d14.get⟩
theorem HdW.ext {h':Heap} {b:Nat} {x:Hd} (a:HdW h b x) (e:Ext h h'):HdW h' b x:=by
 obtain ⟨d0,d1,d2,d3,d4,d5,d6,d7,d8,d9,d10,d11,d12,d13,d14⟩:=a
 exact ⟨d0.ext e,d1.ext e,d2.ext e,d3.ext e,d4.ext e,d5.ext e,d6.ext e,d7.ext e,d8.ext e,d9.ext e,d10.ext e,d11.ext e,d12.ext e,d13.ext e,d14.ext e⟩
set_option maxHeartbeats 1000000 in
theorem storeH {b:Nat} {x y:Hd} (a:HdW h b y) (H:∀h',Mod (· = b) h h'→HdW h' b x→K undef h'):Hp Tryz.prog false (storeS 84 (.pointer (some ⟨b,0,none⟩)) x.val) K h ⟨⟩:=by
 obtain ⟨d0,d1,d2,d3,d4,d5,d6,d7,d8,d9,d10,d11,d12,d13,d14⟩:=a
 have hlt:=d0.lt
 unfold Hd.val Hd.cells
 simp (disch:=omega) [d0.get,d0.free,d1.get,d1.free,d2.get,d2.free,d3.get,d3.free,d4.get,d4.free,d5.get,d5.free,d6.get,d6.free,d7.get,d7.free,d8.get,d8.free,d9.get,d9.free,d10.get,d10.free,d11.get,d11.free,d12.get,d12.free,d13.get,d13.free,d14.get,d14.free]
 refine H _ modS ?_
 refine ⟨?_,?_,?_,?_,?_,?_,?_,?_,?_,?_,?_,?_,?_,?_,?_⟩
 all_goals simp (disch:=omega) [Cel_iff,d0.get,d0.free,d1.get,d1.free,d2.get,d2.free,d3.get,d3.free,d4.get,d4.free,d5.get,d5.free,d6.get,d6.free,d7.get,d7.free,d8.get,d8.free,d9.get,d9.free,d10.get,d10.free,d11.get,d11.free,d12.get,d12.free,d13.get,d13.free,d14.get,d14.free]
theorem allocH {K2:VP} (H:∀g2,Ext h g2→HdW g2 h.size ⟨0,0,0,0,0,0,0,0,0,0,0,0,0,0,[]⟩→g2.size=h.size+1→K2 (.pointer (some ⟨h.size,0,none⟩)) g2):Hp Tryz.prog false (Instr.alloc 84 true undef) K2 h ⟨⟩:=by
 simp (disch:=omega)
 refine H _ extS ?_ sM
 refine ⟨?_,?_,?_,?_,?_,?_,?_,?_,?_,?_,?_,?_,?_,?_,?_⟩
 all_goals exact ⟨by simp,by simp⟩
theorem nameW {b:Nat} {x:Hd} {nm:List UInt8} (a:HdW h b x) (H:∀h',Mod (· = b) h h'→HdW h' b { x with back:=nm }→K undef h'):Hp Tryz.prog false (Instr.fieldAt 84 (.pointer (some ⟨b,0,none⟩)) 14) (fun p h1=>Hp Tryz.prog false (storeS 9 p (str nm)) K h1 ⟨⟩) h ⟨⟩:=by
 obtain ⟨d0,d1,d2,d3,d4,d5,d6,d7,d8,d9,d10,d11,d12,d13,d14⟩:=a
 have hlt:=d0.lt
 simp (disch:=omega) [d0.get,d0.free,d1.get,d1.free,d2.get,d2.free,d3.get,d3.free,d4.get,d4.free,d5.get,d5.free,d6.get,d6.free,d7.get,d7.free,d8.get,d8.free,d9.get,d9.free,d10.get,d10.free,d11.get,d11.free,d12.get,d12.free,d13.get,d13.free,d14.get,d14.free]
 refine H _ modS ?_
 refine ⟨?_,?_,?_,?_,?_,?_,?_,?_,?_,?_,?_,?_,?_,?_,?_⟩
 all_goals simp (disch:=omega) [Cel_iff,d0.get,d0.free,d1.get,d1.free,d2.get,d2.free,d3.get,d3.free,d4.get,d4.free,d5.get,d5.free,d6.get,d6.free,d7.get,d7.free,d8.get,d8.free,d9.get,d9.free,d10.get,d10.free,d11.get,d11.free,d12.get,d12.free,d13.get,d13.free,d14.get,d14.free]
theorem loadCellH {q:Bool} {b:Nat} {x:Hd} (a:HdAt h b x):Hp Tryz.prog q (loadCell 84 (.pointer (some ⟨b,0,none⟩))) K h ⟨⟩↔K x.val h:=by
 obtain ⟨a0,a1,a2,a3,a4,a5,a6,a7,a8,a9,a10,a11,a12,a13,a14⟩:=a
 unfold Hd.val Hd.cells
 simp [a0,a1,a2,a3,a4,a5,a6,a7,a8,a9,a10,a11,a12,a13,a14]
def Hd0:Hd:=⟨0,0,0,0,0,0,0,0,0,0,0,0,0,0,[]⟩
def IsHd (l:List UInt8):Prop:=512≤l.length∧∃x,MayH x∧hdB x=l.take 512

set_option maxHeartbeats 4000000 in
theorem HRead_c {v:Value} {l:List UInt8} (hB:Bytes h v l) (hl:l.length<1000000)
 (ht:∀h' x,Ext h h'→512≤l.length→MayH x→hdB x=l.take 512→K (.tuple #[x.val,.int .i64 0]) h') (hf:∀h',Ext h h'→¬IsHd l→K (.tuple #[Hd0.val,.int .i64 180]) h') :
 CallsH Tryz.prog 34 #[v] h K ⟨⟩:=by
 obtain ⟨o,q0,rfl⟩:=hB.form
 refine n34_calls ?_
 unfold n34; try delta vF vG vC vD vJ vV vk vt
 by_cases h512:l.length<512
 ·simp (disch:=omega)
  exact hf _ extS (fun i=>by have:=i.1; omega)
 obtain ⟨a,rfl,-,hq,hAt⟩:=hB.at omg
 have hT:Bytes h (.slice (some a) 512 q0) (l.take 512):=by
  have hp:=hAt.part 0 512 q0 omg omg hq
  rw [sub_zero,List.drop_zero] at hp
  exact .inr ⟨_,_,by congr 1; simp; omega,by simp; omega,hp⟩
 simp (disch:=omega)
 refine (⟨_,rfl⟩:∃g,g=hset ((Array.push h (Obj.cells #[Value.slice (some a) l.length q0] 52)).push (Obj.cells #[Value.int IntKind.i64 0,Value.int IntKind.u64 0,Value.int IntKind.i64 0,Value.int IntKind.i64 0,Value.int IntKind.i64 0,Value.int IntKind.i64 0,Value.int IntKind.i64 0,Value.int IntKind.i64 0,Value.int IntKind.i64 0,Value.int IntKind.i64 0,Value.int IntKind.i64 0,Value.int IntKind.i64 0,Value.int IntKind.i64 0,Value.int IntKind.i64 0,str []] 84)) ⟨h.size,0,none⟩ (Value.slice (some a) 512 q0)).elim fun g eg => ?_
 simp only [←eg]
 have e0:Ext h g:=by rw [eg]; exact extS
 have hb:hcell g ⟨h.size,0,none⟩=some (.slice (some a) 512 q0):=by rw [eg]; simp
 have zg:g.size=h.size+2:=by rw [eg]; simp
 have hz:HdW g (h.size+1) Hd0:=by rw [eg]; refine ⟨?_,?_,?_,?_,?_,?_,?_,?_,?_,?_,?_,?_,?_,?_,?_⟩<;>exact ⟨by simp [Hd0],by simp⟩
 clear eg
 have hT:=hT.ext e0
 generalize hLL:l.take 512=L at *
 have hLl:L.length=512:=by rw [←hLL,List.length_take]; omega
 obtain ⟨fl,hfl⟩:∃fl:Nat,IntKind.u64.wrap (gotI L 8 8)=fl:=⟨(IntKind.u64.wrap (gotI L 8 8)).toNat,by rw [Int.toNat_of_nonneg]; rw [wrap_u64_eq]; exact Int.emod_nonneg _ dM⟩
 obtain ⟨nm,te,htx⟩:∃nm te,textR L 84 64=(nm,te):=⟨_,_,rfl⟩
 obtain ⟨n0,n1,n2,n3,n4,n5,n6,n7,n8,n9,n10,n11,n12,n13,hD⟩:∃n0 n1 n2 n3 n4 n5 n6 n7 n8 n9 n10 n11 n12 n13,gotI L 4 4=n0∧gotI L 8 8=n1∧gotI L 16 8=n2∧gotI L 24 8=n3∧gotI L 32 4=n4∧gotI L 36 4=n5∧gotI L 40 8=n6∧gotI L 48 4=n7∧gotI L 52 4=n8∧gotI L 56 8=n9∧gotI L 64 4=n10∧gotI L 68 4=n11∧gotI L 72 8=n12∧gotI L 80 4=n13:=⟨_,_,_,_,_,_,_,_,_,_,_,_,_,_,rfl,rfl,rfl,rfl,rfl,rfl,rfl,rfl,rfl,rfl,rfl,rfl,rfl,rfl⟩
 obtain ⟨d0,d1,d2,d3,d4,d5,d6,d7,d8,d9,d10,d11,d12,d13⟩:=hD
 have hx:hdD L=⟨n0,fl,n2,n3,n4,n5,n6,n7,n8,n9,n10,n11,n12,n13,nm⟩:=by
  unfold hdD
  rw [hfl,htx,d0,d2,d3,d4,d5,d6,d7,d8,d9,d10,d11,d12,d13,Int.toNat_natCast]
 rw [d1] at hfl
 refine getH_c hb hT omg ?_
 rw [d0]
 refine getH_c hb hT omg ?_
 rw [d1]
 refine (Tryz.cvw2_44).2 ?_
 rw [ValI_iff,hfl]
 refine getH_c hb hT omg ?_
 rw [d2]
 refine getH_c hb hT omg ?_
 rw [d3]
 refine getH_c hb hT omg ?_
 rw [d4]
 refine getH_c hb hT omg ?_
 rw [d5]
 refine getH_c hb hT omg ?_
 rw [d6]
 refine getH_c hb hT omg ?_
 rw [d7]
 refine getH_c hb hT omg ?_
 rw [d8]
 refine getH_c hb hT omg ?_
 rw [d9]
 refine getH_c hb hT omg ?_
 rw [d10]
 refine getH_c hb hT omg ?_
 rw [d11]
 refine getH_c hb hT omg ?_
 rw [d12]
 refine getH_c hb hT omg ?_
 rw [d13]
 rw [Tryz.bd84_0_1_2_3_4_5_6_7_8_9_10_11_12_13]
 refine allocH fun g2 e2 hz2 zg2 => ?_
 refine storeH (x:=⟨n0,fl,n2,n3,n4,n5,n6,n7,n8,n9,n10,n11,n12,n13,[]⟩) hz2 fun g3 m3 hw3 => ?_
 have e3:Ext g g3:=m3.ext_from e2 (fun b hb e=>by omega)
 have hb3:=hcell_ext e3 hb
 have hT3:=hT.ext e3
 have s3:=m3.size
 simp (disch:=omega) [hb3]
 refine Text_c hT3 omg ?_
 rw [htx]
 simp only [Hp_extract0,Hp_extract1]
 refine nameW hw3 fun g4 m4 hw4 => ?_
 have e4:Ext g g4:=m4.ext_from e3 (fun b hb e=>by omega)
 have s4:=m4.size
 rw [loadH hw4.at]
 refine HBytes_c (x:=⟨n0,fl,n2,n3,n4,n5,n6,n7,n8,n9,n10,n11,n12,n13,nm⟩) (fun vv g5 e5 hO5 hF5 hM => ?_) (fun g5 e5 hM => ?_)
 ·have E5:=e4.trans e5
  have hb5:=hcell_ext E5 hb
  have hT5:=hT.ext E5
  have hw5:=hw4.ext e5
  have hz5:=hz.ext E5
  have hV5:=hO5.bytes
  by_cases te0:te=0
  ·simp (disch:=omega) [-Tryz.st84,-Tryz.ld84,te0,hb5]
   refine n88_calls ?_
   unfold n88; try delta vF vG vC vD vJ vV vk vt
   simp (disch:=omega) [-Tryz.st84,-Tryz.ld84,Tryz.cv52_9 hV5,Tryz.cv52_9 hT5]
   refine Split.mk (fun he => ?_) (fun he => ?_)
   ·simp (disch:=omega) [-Tryz.st84,-Tryz.ld84]
    rw [loadH hw5.at]
    refine storeH (x:=⟨n0,fl,n2,n3,n4,n5,n6,n7,n8,n9,n10,n11,n12,n13,nm⟩) hz5 fun g6 m6 hw6 => ?_
    rw [loadCellH hw6.at]
    exact ht _ _ (m6.ext_from (e0.trans E5) (fun b hb e=>by omega)) omg hM he
   ·simp (disch:=omega) [-Tryz.st84,-Tryz.ld84]
    refine storeH (x:=Hd0) hz5 fun g6 m6 hw6 => ?_
    rw [loadCellH hw6.at]
    refine hf _ (m6.ext_from (e0.trans E5) (fun b hb e=>by omega)) (fun i => ?_)
    obtain ⟨-,y,hy,hyL⟩:=i
    rw [hLL] at hyL
    have:=hdD_hdB hy
    rw [hyL,hx] at this
    rw [this] at he
    exact he hyL
  ·simp (disch:=omega) [-Tryz.st84,-Tryz.ld84,te0,hb5]
   refine storeH (x:=Hd0) hz5 fun g6 m6 hw6 => ?_
   rw [loadCellH hw6.at]
   refine hf _ (m6.ext_from (e0.trans E5) (fun b hb e=>by omega)) (fun i => ?_)
   obtain ⟨-,y,hy,hyL⟩:=i
   rw [hLL] at hyL
   have:=hdB_text hy
   rw [hyL,htx] at this
   exact te0 (Prod.mk.inj this).2
 ·have E5:=e4.trans e5
  have hz5:=hz.ext E5
  have hno:¬IsHd l:=fun i=>by
   obtain ⟨-,y,hy,hyL⟩:=i
   rw [hLL] at hyL
   have:=hdD_hdB hy
   rw [hyL,hx] at this
   rw [this] at hM
   exact hM hy
  by_cases te0:te=0
  ·simp (disch:=omega) [-Tryz.st84,-Tryz.ld84,te0]
   refine storeH (x:=Hd0) hz5 fun g6 m6 hw6 => ?_
   rw [loadCellH hw6.at]
   exact hf _ (m6.ext_from (e0.trans E5) (fun b hb e=>by omega)) hno
  ·simp (disch:=omega) [-Tryz.st84,-Tryz.ld84,te0]
   refine storeH (x:=Hd0) hz5 fun g6 m6 hw6 => ?_
   rw [loadCellH hw6.at]
   exact hf _ (m6.ext_from (e0.trans E5) (fun b hb e=>by omega)) hno
end Go.Proofs.YtdccfkffabngjaaGreat
set_option linter.unusedSimpArgs false
set_option linter.unusedVariables false
set_option maxRecDepth 20000
namespace Go.Proofs.YtdccfkffabngjaaGreat
open Go.Vc
variable {K:VP} {h:Heap}

def rgT:Nat:=89
structure HdOk (g:Gm) (x:Hd):Prop where
 may:MayH x
 bits:x.bits=g.b
 order:x.order=g.o
 counts:x.counts=g.c
 clen:x.clen=g.L
 l1:g.u=g.L+2∧x.l1len=0∨g.u=g.L+3∧x.l1=((1+g.L)*g.c:Nat)∧1≤x.l1len∧8*x.l1len≤g.c
 snaps:x.snaps=0
 maps:x.maps=0
def RgAt (h:Heap) (o sp:Nat) (g:Gm) (x:Hd):Prop :=
 h[o]? = some (.cells #[ptrV sp,str nA,.int .i64 x.bits,.int .u64 x.flags,.int .i64 x.size,.int .i64 x.l1,.int .i64 x.l1len,.int .i64 x.order,.int .i64 x.counts,.int .i64 x.clen,.int .i64 x.snaps,.int .i64 x.sat,.int .i64 x.slen,.int .i64 x.maps,.int .i64 x.mat,.int .i64 x.mlen,str x.back,.int .i64 (g.c:Nat),.int .i64 (g.n:Nat)] rgT)
theorem RgAt.ext {h':Heap} {o sp:Nat} {g:Gm} {x:Hd} (a:RgAt h o sp g x) (e:Ext h h'):RgAt h' o sp g x:=(e.block _ (get_some_lt a)).trans a
theorem RgAt.mod {S:Nat→Prop} {h':Heap} {o sp:Nat} {g:Gm} {x:Hd} (a:RgAt h o sp g x) (m:Mod S h h') (hS:¬S o):RgAt h' o sp g x:=(m.block _ (get_some_lt a) hS).trans a
structure RA (h:Heap) (o sp:Nat) (g:Gm) (x:Hd) (s:St) (p:Fs):Prop where
 rg:RgAt h o sp g x
 st:StAt h sp s
 fs:FsAt s p
 nf:¬s.foot sp o
 ok:g.ok
 hd:HdOk g x
theorem RA.ext {h':Heap} {o sp:Nat} {g:Gm} {x:Hd} {s:St} {p:Fs} (a:RA h o sp g x s p) (e:Ext h h'):RA h' o sp g x s p:=⟨a.rg.ext e,a.st.ext e,a.fs,a.nf,a.ok,a.hd⟩
theorem RA.upd {h':Heap} {o sp:Nat} {g:Gm} {x:Hd} {s s':St} {p p':Fs} (a:RA h o sp g x s p) (u:SUpd h h' sp s s') (f:FsAt s' p'):RA h' o sp g x s' p' :=
 ⟨a.rg.mod u.mod a.nf,u.st,f,fun e=>(u.foot o e).elim a.nf (fun e=>by have:=get_some_lt a.rg; omega),a.ok,a.hd⟩
theorem RA.fok {o sp:Nat} {g:Gm} {x:Hd} {s:St} {p:Fs} (a:RA h o sp g x s p):p.f.ok:=a.fs.ok a.st

theorem gNone_c {o sp:Nat} {g:Gm} {x:Hd} (a:RgAt h o sp g x) (H:K (.bool false) h):CallsH Tryz.prog 39 #[ptrV o] h K ⟨⟩:=by
 refine n39_calls ?_
 unfold n39; try delta vF vG vC vD vJ vV vk vt
 have c0:=cellOf (i:=0) a rfl
 unfold ptrV at c0 ⊢
 simp (disch:=omega) [c0]
 exact H
theorem Gm.ok.room_eq {g:Gm} (k:g.ok):(((g.L:Nat):Int)*((g.c:Nat):Int)/8)*((g.n:Nat):Int)=((g.room:Nat):Int):=by
 have h1:=k.m8
 unfold Gm.room
 rw [Int.natCast_mul]
 congr 1
 rw [←Int.natCast_mul,←h1]
 omega
theorem Gm.ok.room_lt {g:Gm} (k:g.ok):g.room≤171798691840∧g.L*g.c≤2621440∧g.c≤65536:=by
 obtain ⟨q,hq,h1,h2⟩:=k.c512
 have hn:=k.n64
 have hc:g.L*g.c≤40*65536:=Nat.mul_le_mul k.L1 omg
 have hm:=k.m8
 refine ⟨?_,by omega,by omega⟩
 unfold Gm.room
 calc g.m*g.n≤327680*524288:=Nat.mul_le_mul omg hn.2
  _=171798691840:=by decide
theorem gRoom_c {o sp:Nat} {g:Gm} {x:Hd} (a:RgAt h o sp g x) (k:g.ok) (hd:HdOk g x) (H:K (.int .i64 (g.room:Nat)) h):CallsH Tryz.prog 20 #[ptrV o] h K ⟨⟩:=by
 refine n20_calls ?_
 unfold n20; try delta vF vG vC vD vJ vV vk vt
 refine gNone_c a ?_
 have c9:=cellOf (i:=9) a rfl
 have c17:=cellOf (i:=17) a rfl
 have c18:=cellOf (i:=18) a rfl
 rw [hd.clen] at c9
 have h1:=k.room_lt
 have h2:=k.room_eq
 obtain ⟨LC,hLC⟩:∃LC,g.L*g.c=LC:=⟨_,rfl⟩
 have h3:((g.L:Nat):Int)*((g.c:Nat):Int)=((LC:Nat):Int):=by rw [←hLC,Int.natCast_mul]
 rw [h3] at h2
 rw [hLC] at h1
 have hL:=k.L1
 obtain ⟨q,hq,hq1,hq2⟩:=k.c512
 have hn:=k.n64
 unfold ptrV
 simp (disch:=omega) [c9,c17,c18,h3,h2]
 exact H
end Go.Proofs.YtdccfkffabngjaaGreat
set_option linter.unusedSimpArgs false
set_option linter.unusedVariables false
set_option maxRecDepth 20000
namespace Go.Proofs.YtdccfkffabngjaaGreat
open Go.Vc
variable {K:VP} {h:Heap}

theorem gBytes_c {o sp:Nat} {g:Gm} {x:Hd} {s:St} {p:Fs} {k n:Int} (a:RA h o sp g x s p) (k0:0≤k) (n0:0≤n) (hk:k+n≤p.f.now.length)
 (H:∀h' v,Ext h h'→OwnT bT 1 h' v ((part p.f.now k.toNat n.toNat).map byteV)→(∀b,blkV v=some b→h.size≤b)→K (.tuple #[v,.int .i64 0]) h') :
 CallsH Tryz.prog 92 #[ptrV o,.int .i64 k,.int .i64 n] h K ⟨⟩:=by
 refine n92_calls ?_
 unfold n92; try delta vF vG vC vD vJ vV vk vt
 have c0:=cellOf (i:=0) a.rg rfl
 have c1:=cellOf (i:=1) a.rg rfl
 have ho:=a.fok
 have hf:=ho.few
 have hl:=ho.now_len
 unfold ptrV at c0 ⊢
 simp (disch:=omega) [c0,c1]
 rw [show (.pointer (some ⟨sp,0,none⟩):Value)=ptrV sp from rfl]
 refine sRead_c a.st a.fs omg omg omg omg fun h1 v e1 ov f2 => ?_
 have hpl:(part p.f.now k.toNat n.toNat).length=n.toNat:=part_len omg
 obtain ⟨va,vn,vc,rfl,hn,hc,-⟩:=ov.g.form
 have hvn:vn=n.toNat:=by rw [List.length_map] at hn; unfold part at hpl; omega
 subst hvn
 simp (disch:=omega)
 exact H h1 _ e1 ov f2
theorem getR_8 {l:List UInt8} (h:l.length=8):getR l 0 8=(leN l,0):=by
 unfold getR
 rw [if_neg omg,if_pos omg]
 rw [show (0:Int).toNat=0 from rfl,show (8:Int).toNat=8 from rfl,List.drop_zero,List.take_of_length_le omg]
set_option maxHeartbeats 1000000 in
theorem gBlock_c {o sp:Nat} {g:Gm} {x:Hd} {s:St} {p:Fs} (a:RA h o sp g x s p) (I:Img g x p.f.now) {i:Nat} (hi:i<g.m)
 (H:∀h',Ext h h'→K (.tuple #[.int .i64 (g.word p.f.now i:Nat),.int .i64 0]) h'):CallsH Tryz.prog 91 #[ptrV o,.int .i64 i] h K ⟨⟩:=by
 refine n91_calls ?_
 unfold n91; try delta vF vG vC vD vJ vV vk vt
 have c8:=cellOf (i:=8) a.rg rfl
 rw [a.hd.counts] at c8
 have hr:=a.ok.room_lt
 have hm:=a.ok.m8
 have hwf:=I.word_fit a.ok hi
 have hfew:=I.few
 obtain ⟨AD,hAD⟩:∃AD,g.c+8*i=AD:=⟨_,rfl⟩
 rw [hAD] at hwf
 have hcast:((g.c:Nat):Int)+8*((i:Nat):Int)=((AD:Nat):Int):=by omega
 unfold ptrV
 simp (disch:=omega) [c8,hcast]
 rw [show (.pointer (some ⟨o,0,none⟩):Value)=ptrV o from rfl]
 refine gBytes_c a omg omg omg fun h1 v e1 ov f2 => ?_
 rw [Int.toNat_natCast,show (8:Int).toNat=8 from rfl] at ov
 have hpl:(part p.f.now AD 8).length=8:=part_len omg
 simp (disch:=omega)
 refine Get_c ov.g.bytes (by rw [hpl]; omega) ?_
 rw [getR_8 hpl]
 have a1:=a.ext e1
 have hwd:leN (part p.f.now AD 8)=g.word p.f.now i:=by rw [←hAD]; rfl
 rw [hwd]
 by_cases hw:g.word p.f.now i=0
 ·rw [hw] at H ⊢
  simp (disch:=omega)
  exact H h1 e1
 ·obtain ⟨hp,hle⟩:=I.wi i hi hw
  have c0:=cellOf (i:=0) a1.rg rfl
  have c1:=cellOf (i:=1) a1.rg rfl
  have c17:=cellOf (i:=17) a1.rg rfl
  unfold ptrV at c0
  have hpm:g.word p.f.now i%g.c=0:=by rw [hp]; unfold Gm.pl; exact Nat.mul_mod_left _ _
  obtain ⟨q,hq,hq1,hq2⟩:=a.ok.c512
  have hok:=a.fok
  have hl:=hok.now_len
  generalize g.word p.f.now i=W at *
  have hpm':((W:Nat):Int)%((g.c:Nat):Int)=0:=by rw [←Int.natCast_emod,hpm]; rfl
  unfold ptrV
  simp (disch:=omega) [hw,c0,c1]
  rw [show (.pointer (some ⟨sp,0,none⟩):Value)=ptrV sp from rfl]
  refine sSize_c a1.st a1.fs fun h2 e2 => ?_
  have c17':=hcell_ext e2 c17
  simp (disch:=omega) [c17',hpm']
  exact H h2 (e1.trans e2)
theorem gTable_c {o sp:Nat} {g:Gm} {x:Hd} {s:St} {p:Fs} (a:RA h o sp g x s p) (I:Img g x p.f.now) {i:Nat} (hi:i<g.m)
 (H0:∀h',Ext h h'→g.word p.f.now i=0→K (.tuple #[.slice none 0 0,.int .i64 0,.int .i64 0]) h')
 (H1:∀h' b c,Ext h h'→g.word p.f.now i≠0→OwnT bT 1 h' (.slice (some ⟨b,0,none⟩) g.c c) ((g.blk p.f.now i).map byteV)→h.size≤b→g.c≤c→K (.tuple #[.slice (some ⟨b,0,none⟩) g.c c,.int .i64 (g.pl i:Nat),.int .i64 0]) h') :
 CallsH Tryz.prog 44 #[ptrV o,.int .i64 i] h K ⟨⟩:=by
 refine n44_calls ?_
 unfold n44; try delta vF vG vC vD vJ vV vk vt
 refine gBlock_c a I hi fun h1 e1 => ?_
 have a1:=a.ext e1
 by_cases hw:g.word p.f.now i=0
 ·rw [hw]
  simp (disch:=omega)
  exact H0 h1 e1 hw
 ·obtain ⟨hp,hle⟩:=I.wi i hi hw
  have c17:=cellOf (i:=17) a1.rg rfl
  obtain ⟨q,hq,hq1,hq2⟩:=a.ok.c512
  have hpos:0<g.pl i:=by have:=a.ok.pl_tab i; omega
  have hbl:=blk_len I hi hw
  rw [hp]
  unfold ptrV
  simp (disch:=omega) [c17]
  rw [show (.pointer (some ⟨o,0,none⟩):Value)=ptrV o from rfl]
  refine gBytes_c a1 omg omg omg fun h2 v e2 ov f2 => ?_
  rw [Int.toNat_natCast,Int.toNat_natCast] at ov
  have hov:OwnT bT 1 h2 v ((g.blk p.f.now i).map byteV):=ov
  simp (disch:=omega)
  rcases hov with ⟨-,h0⟩|⟨b,n,c,rest,rfl,h1',h2',h3',h4'⟩
  ·have:=congrArg List.length h0; rw [List.length_map,hbl] at this; simp at this; omega
  ·obtain rfl:n=g.c:=by rw [List.length_map,hbl] at h1'; omega
   exact H1 h2 b c (e1.trans e2) hw (.inr ⟨b,g.c,c,rest,rfl,h1',h2',h3',h4'⟩) (by have:=f2 b rfl; have:=e1.size; omega) h2'
theorem Gm.ok.wd_w {g:Gm} (k:g.ok):wd ((g.o:Nat):Int)=g.w:=by
 have h2:=k.o1
 unfold wd Gm.w
 rw [if_pos omg,Int.toNat_natCast]
theorem Gm.ok.many_n {g:Gm} (k:g.ok):many g.c ((g.o:Nat):Int)=g.n:=by
 unfold many
 rw [k.wd_w,←k.nw,Nat.mul_div_cancel _ (by have:=k.w64; omega)]
theorem Gm.ok.ask0 {g:Gm} (k:g.ok) {j:Nat} (hj:j<g.n):askE g.c ((g.o:Nat):Int) ((j:Nat):Int)=0:=by
 unfold askE
 rw [k.wd_w,k.many_n,if_neg (by have:=k.w64; omega),if_neg omg]
theorem Gm.ok.getC_ {g:Gm} (k:g.ok) {b:List UInt8} (hl:b.length=g.c) {j:Nat} (hj:j<g.n):getC b ((g.o:Nat):Int) ((j:Nat):Int)=Vc.cnt b g.w j:=by
 unfold getC
 rw [hl,k.ask0 hj,if_pos rfl,k.wd_w,Int.toNat_natCast]
theorem gCount_c {o sp:Nat} {g:Gm} {x:Hd} {s:St} {p:Fs} (a:RA h o sp g x s p) (I:Img g x p.f.now) {k:Int}
 (H0:∀h',Ext h h'→¬(0≤k∧k<g.room)→K (.tuple #[.int .u64 0,.int .i64 4]) h')
 (H1:∀h',Ext h h'→0≤k→k<g.room→K (.tuple #[.int .u64 (g.cnt p.f.now k.toNat:Nat),.int .i64 0]) h') :
 CallsH Tryz.prog 14 #[ptrV o,.int .i64 k] h K ⟨⟩:=by
 refine n14_calls ?_
 unfold n14; try delta vF vG vC vD vJ vV vk vt
 refine gNone_c a.rg ?_
 have c0:=cellOf (i:=0) a.rg rfl
 have c1:=cellOf (i:=1) a.rg rfl
 unfold ptrV at c0 ⊢
 simp (disch:=omega) [c0,c1]
 rw [show (.pointer (some ⟨sp,0,none⟩):Value)=ptrV sp from rfl,show (.pointer (some ⟨o,0,none⟩):Value)=ptrV o from rfl]
 refine sSize_c a.st a.fs fun h1 e1 => ?_
 have a1:=a.ext e1
 have hrl:=a.ok.room_lt
 simp (disch:=omega)
 by_cases hk0:k<0
 ·simp (disch:=omega) [hk0]
  exact H0 h1 e1 omg
 simp (disch:=omega) [hk0]
 refine gRoom_c a1.rg a.ok a.hd ?_
 by_cases hk1:¬(k<g.room)
 ·simp (disch:=omega) [hk0,hk1]
  exact H0 h1 e1 omg
 replace hk1:=Classical.not_not.1 hk1
 obtain ⟨k,rfl⟩:=Int.eq_ofNat_of_zero_le (Int.not_lt.1 hk0)
 have c18:=cellOf (i:=18) a1.rg rfl
 have hn:=a.ok.n64
 obtain ⟨D,hD⟩:∃D,k/g.n=D:=⟨_,rfl⟩
 obtain ⟨M,hM⟩:∃M,k%g.n=M:=⟨_,rfl⟩
 have hkd:((k:Nat):Int)/((g.n:Nat):Int)=((D:Nat):Int):=by rw [←hD]; exact (Int.natCast_ediv _ _).symm
 have hkm:((k:Nat):Int)%((g.n:Nat):Int)=((M:Nat):Int):=by rw [←hM]; exact (Int.natCast_emod _ _).symm
 have hkl:k/g.n<g.m:=by
  rw [Nat.div_lt_iff_lt_mul omg]
  have:k<g.room:=by omega
  exact this
 rw [hD] at hkl
 unfold ptrV
 simp (disch:=omega) [hk0,hk1,c18,hkd]
 rw [show (.pointer (some ⟨o,0,none⟩):Value)=ptrV o from rfl]
 have hMn:M<g.n:=by rw [←hM]; exact Nat.mod_lt _ omg
 have hcnt:g.cnt p.f.now k=if g.word p.f.now D=0 then 0 else Vc.cnt (g.blk p.f.now D) g.w M:=by unfold Gm.cnt; rw [hD,hM]
 rw [Int.toNat_natCast,hcnt] at H1
 refine gTable_c a1 I hkl (fun h2 e2 hw => ?_) (fun h2 b c e2 hw ob hb hc => ?_)
 ·rw [if_pos hw] at H1
  simp (disch:=omega)
  exact H1 h2 (e1.trans e2) omg omg
 ·rw [if_neg hw] at H1
  have a2:=a1.ext e2
  have d7:=cellOf (i:=7) a2.rg rfl
  have d18:=cellOf (i:=18) a2.rg rfl
  rw [a.hd.order] at d7
  have hbl:=blk_len I hkl hw
  unfold ptrV
  simp (disch:=omega) [d7,d18,hkm]
  refine CGet_c ob.g.bytes (by rw [hbl]; omega) fun h3 e3 => ?_
  rw [a.ok.getC_ hbl hMn]
  simp (disch:=omega)
  exact H1 h3 (e1.trans (e2.trans e3)) omg omg
end Go.Proofs.YtdccfkffabngjaaGreat
set_option linter.unusedSimpArgs false
set_option linter.unusedVariables false
set_option maxRecDepth 20000
namespace Go.Proofs.YtdccfkffabngjaaGreat
open Go.Vc
variable {K:VP} {h:Heap}

set_option maxHeartbeats 1000000 in
theorem sEqual_c {v w:Value} {l m:List UInt8} (hv:Bytes h v l) (hw:Bytes h w m) (hlm:m.length<1000000000) (H:K (.bool (decide (l=m))) h):CallsH Tryz.prog 109 #[v,w] h K ⟨⟩:=by
 refine n109_calls ?_
 unfold n109; try delta vF vG vC vD vJ vV vk vt
 obtain ⟨o,c,rfl⟩:=hv.form
 obtain ⟨o2,c2,rfl⟩:=hw.form
 by_cases hl:¬(l.length=m.length)
 ·rw [decide_eq_false (fun e=>hl (by rw [e]))] at H
  have hl':¬((l.length:Nat):Int)=((m.length:Nat):Int):=by omega
  simp (disch:=omega) [hl,hl']
  exact H
 replace hl:=Classical.not_not.1 hl
 simp (disch:=omega) [hl]
 refine loopX1 (α:=Nat) (fun i => .int .i64 i) (fun i g=>g=h∧i≤m.length∧∀j (h1:j<l.length) (h2:j<m.length),j<i→l[j]=m[j]) (fun i=>m.length-i) 0 rfl ⟨rfl,Nat.zero_le _,fun j _ _ hj=>by omega⟩ ?_
 rintro i g ⟨rfl,hi,hall⟩ X hX
 by_cases him:i<m.length
 ·obtain ⟨a,rfl,-,hc,hA⟩:=hv.at omg
  obtain ⟨a2,rfl,-,hc2,hA2⟩:=hw.at omg
  have h1:=hA i omg
  have h2:=hA2 i him
  unfold byteV at h1 h2
  by_cases e:l[i]=m[i]
  ·rw [e] at h1
   simp (disch:=omega) [h1,h2]
   refine hX (i+1) _ _ sM ⟨rfl,by omega,fun j h1 h2 hj => ?_⟩ omg
   by_cases e2:j=i
   ·subst e2; exact e
   ·exact hall j h1 h2 omg
  ·have hne:¬l=m:=fun e2=>e (by subst e2; rfl)
   rw [decide_eq_false hne] at H
   have hne2:¬(((l[i]'omg).toNat:Nat):Int)=(((m[i]'him).toNat:Nat):Int):=fun e2=>e (by
    have:(l[i]'omg).toNat=(m[i]'him).toNat:=by omega
    exact UInt8.toNat_inj.1 this)
   simp (disch:=omega) [h1,h2,hne2]
   exact H
 ·have heq:l=m:=List.ext_getElem hl fun j h1 h2=>hall j h1 h2 omg
  rw [decide_eq_true heq] at H
  simp (disch:=omega)
  exact H
theorem gGrow_c {o sp:Nat} {g:Gm} {x:Hd} {s:St} {p:Fs} {n:Int} (a:RA h o sp g x s p) (hs:p.steps+1<1000000) (n0 : -9223372036854775808≤n) (hn:(n.toNat+g.c-1)/g.c*g.c≤268435456)
 (H:∀h' s',SUpd h h' sp s s'→FsAt s' (growF g n.toNat p).1→K (.int .i64 (growF g n.toNat p).2) h'):CallsH Tryz.prog 19 #[ptrV o,.int .i64 n] h K ⟨⟩:=by
 refine n19_calls ?_
 unfold n19; try delta vF vG vC vD vJ vV vk vt
 refine gNone_c a.rg ?_
 have c0:=cellOf (i:=0) a.rg rfl
 have c1:=cellOf (i:=1) a.rg rfl
 unfold ptrV at c0 ⊢
 simp (disch:=omega) [c0,c1]
 rw [show (.pointer (some ⟨sp,0,none⟩):Value)=ptrV sp from rfl]
 refine sSize_c a.st a.fs fun h1 e1 => ?_
 have a1:=a.ext e1
 have d0:=cellOf (i:=0) a1.rg rfl
 have d1:=cellOf (i:=1) a1.rg rfl
 have d17:=cellOf (i:=17) a1.rg rfl
 unfold ptrV at d0
 unfold growF at H
 by_cases hle:n≤p.f.last.length
 ·rw [if_pos omg] at H
  have hle':((p.f.last.length:Nat):Int)≥n:=hle
  simp (disch:=omega) [hle,hle']
  exact H h1 s ((SUpd.refl a.st).ext e1) a.fs
 ·rw [if_neg omg] at H
  obtain ⟨N,rfl⟩:=Int.eq_ofNat_of_zero_le (show 0≤n by omega)
  rw [Int.toNat_natCast] at H hn
  obtain ⟨q,hq,hq1,hq2⟩:=a.ok.c512
  have hfew:=a.fok.few
  have hup:=up_mul a.ok N
  obtain ⟨M1,hM1⟩:∃M,N+g.c-1=M:=⟨_,rfl⟩
  rw [hM1] at H hn hup
  obtain ⟨Q1,hQ1⟩:∃Q,M1/g.c=Q:=⟨_,rfl⟩
  rw [hQ1] at H hn hup
  obtain ⟨R1,hR1⟩:∃R,Q1*g.c=R:=⟨_,rfl⟩
  rw [hR1] at H hn hup
  have hc1:((N:Nat):Int)+((g.c:Nat):Int)-1=((M1:Nat):Int):=by omega
  have hc2:((M1:Nat):Int)/((g.c:Nat):Int)=((Q1:Nat):Int):=by rw [←hQ1]; exact (Int.natCast_ediv _ _).symm
  have hc3:((Q1:Nat):Int)*((g.c:Nat):Int)=((R1:Nat):Int):=by rw [←hR1]; exact (Int.natCast_mul _ _).symm
  have hle':¬((p.f.last.length:Nat):Int)≥(N:Int):=hle
  simp (disch:=omega) [hle,hle',d0,d1,d17,hc1,hc2,hc3]
  rw [show (.pointer (some ⟨sp,0,none⟩):Value)=ptrV sp from rfl]
  refine sResize_c a1.st a1.fs hs omg omg fun h2 s2 u2 f2 => ?_
  rw [Int.toNat_natCast] at f2
  exact H h2 s2 (u2.from_ e1) f2
theorem bPart {b o n c:Nat} {l:List UInt8} (hB:Bytes h (.slice (some ⟨b,o,none⟩) n c) l) {i m:Nat} (hi:i+m≤l.length) (hm:0<m) :
 n=l.length∧l.length≤c∧Bytes h (.slice (some (sub ⟨b,o,none⟩ i c)) m (c-i)) (part l i m):=by
 obtain ⟨a,e,hn,hc,hA⟩:=hB.at omg
 cases e
 refine ⟨hn,hc,.inr ⟨sub ⟨b,o,none⟩ i c,c-i,?_,?_,?_⟩⟩
 ·rw [part_len hi]
 ·rw [part_len hi]; omega
 ·have:=hA.part i (i+m) c omg hi hc
  unfold Go.Proofs.YtdccfkffabngjaaGreat.part
  rw [show (l.drop i).take m=(l.take (i+m)).drop i by rw [List.drop_take]; congr 1; omega]
  exact this
set_option maxHeartbeats 4000000 in
theorem gWrite_c {o sp:Nat} {g:Gm} {x:Hd} {s:St} {p:Fs} {at_ Q b1 o1 c1 b2 o2 c2:Nat} {was is:List UInt8} (a:RA h o sp g x s p) (hwl:was.length=512*Q) (hil:is.length=512*Q)
 (hW:Bytes h (.slice (some ⟨b1,o1,none⟩) (512*Q) c1) was) (hI:Bytes h (.slice (some ⟨b2,o2,none⟩) (512*Q) c2) is) (n1:¬s.foot sp b1) (n2:¬s.foot sp b2) (l1:b1<h.size) (l2:b2<h.size) (hs:p.steps+Q<1000000) (hf:at_+512*Q≤268435456)
 (H:∀h' s',SUpd h h' sp s s'→FsAt s' (wrF at_ was is Q 0 p).1→K (.int .i64 (wrF at_ was is Q 0 p).2) h') :
 CallsH Tryz.prog 53 #[ptrV o,.int .i64 (at_:Nat),.slice (some ⟨b1,o1,none⟩) (512*Q) c1,.slice (some ⟨b2,o2,none⟩) (512*Q) c2] h K ⟨⟩:=by
 refine n53_calls ?_
 unfold n53; try delta vF vG vC vD vJ vV vk vt
 refine loopX1 (α:=Nat×St×Fs) (fun z => .int .i64 (512*z.1:Nat)) (fun z G=>z.1≤Q∧SUpd h G sp s z.2.1∧FsAt z.2.1 z.2.2∧wrF at_ was is (Q-z.1) z.1 z.2.2=wrF at_ was is Q 0 p∧z.2.2.steps≤p.steps+z.1) (fun z=>Q-z.1) (0,s,p) rfl ⟨Nat.zero_le _,.refl a.st,a.fs,rfl,Nat.le_refl _⟩ ?_
 rintro ⟨j,s1,p1⟩ G ⟨hj,u,f1,he,hst⟩ X hX
 dsimp only at hj u f1 he hst hX ⊢
 have aG:=a.upd u f1
 have hWG:=hW.mod u.mod (fun b hb e=>by cases hb; exact n1 e)
 have hIG:=hI.mod u.mod (fun b hb e=>by cases hb; exact n2 e)
 by_cases hjQ:j<Q
 ·have c0:=cellOf (i:=0) aG.rg rfl
  have c1':=cellOf (i:=1) aG.rg rfl
  unfold ptrV at c0
  obtain ⟨-,wc,wP⟩:=bPart hWG (i:=512*j) (m:=512) omg omg
  obtain ⟨-,ic,iP⟩:=bPart hIG (i:=512*j) (m:=512) omg omg
  rw [hwl] at wc
  rw [hil] at ic
  obtain ⟨J,hJ⟩:∃J,512*j=J:=⟨_,rfl⟩
  obtain ⟨N,hN⟩:∃N,512*Q=N:=⟨_,rfl⟩
  rw [hJ] at wP iP ⊢
  rw [hN] at wc ic hf ⊢
  unfold ptrV
  simp (disch:=omega)
  refine JoinN.mk (JoinN.mk ?_)
  have hJ5:((J:Int)+512).toNat-J=512:=by omega
  simp (disch:=omega) [hJ5]
  have hpl:(part is J 512).length=512:=part_len omg
  have hpw:(part was J 512).length=512:=part_len omg
  have hst0:=aG.st.stp
  have hnx:((J:Int)+512)=((512*(j+1):Nat):Int):=by omega
  refine sEqual_c iP wP omg ?_
  by_cases hq:part is J 512=part was J 512
  ·rw [decide_eq_true hq]
   simp (disch:=omega)
   rw [show Q-j=(Q-(j+1))+1 by omega,wrF_same (by rw [hJ]; exact hq)] at he
   exact hX (j+1,s1,p1) _ _ (by rw [hnx]) ⟨by omega,u,f1,he,by dsimp only; omega⟩ (by dsimp only; omega)
  ·rw [decide_eq_false hq]
   have hAt:((at_:Nat):Int)+(J:Int)=((at_+J:Nat):Int):=by omega
   obtain ⟨AT,hATe⟩:∃AT,at_+J=AT:=⟨_,rfl⟩
   rw [hATe] at hAt
   simp (disch:=omega) [c0,c1',hAt]
   rw [show (.pointer (some ⟨sp,0,none⟩):Value)=ptrV sp from rfl]
   refine sWrite_c aG.st f1 iP omg (fun _ b hb e => ?_) omg (by rw [hpl]; omega) omg fun h2 s2 u2 f2 => ?_
   ·cases hb
    have hb2:(sub ⟨b2,o2,none⟩ J c2:Addr).block=b2:=by simp
    rw [hb2] at e
    exact (u.foot _ e).elim n2 (fun e=>by omega)
   rw [Int.toNat_natCast,←hATe] at f2
   by_cases he0:p1.e=0
   ·rw [show Q-j=(Q-(j+1))+1 by omega,wrF_go (by rw [hJ]; exact hq) he0,hJ] at he
    rw [he0]
    simp (disch:=omega)
    exact hX (j+1,s2,p1.write (at_+J) (part is J 512)) _ _ (by rw [hnx]) ⟨by omega,u.trans u2,f2,he,by show p1.steps+1≤_; omega⟩ (by dsimp only; omega)
   ·rw [show Q-j=(Q-(j+1))+1 by omega,wrF_err (by rw [hJ]; exact hq) he0,hJ] at he
    rw [←he] at H
    simp (disch:=omega) [he0]
    exact H h2 s2 (u.trans u2) f2
 ·obtain rfl:j=Q:=by omega
  rw [Nat.sub_self] at he
  have he2:wrF at_ was is j 0 p=(p1,0):=he.symm
  rw [he2] at H
  simp (disch:=omega)
  exact H G s1 u f1
end Go.Proofs.YtdccfkffabngjaaGreat
set_option linter.unusedSimpArgs false
set_option linter.unusedVariables false
set_option maxRecDepth 20000
namespace Go.Proofs.YtdccfkffabngjaaGreat
open Go.Vc
variable {K:VP} {h:Heap}

theorem invC1 {f:Nat} {a:Value} (hc:Go.Vc.callOk Tryz.prog f=true) (H:CallsH Tryz.prog f #[a] h K ⟨⟩):InvokeH Tryz.prog (.func (.func f) #[] #[a]) #[] h K ⟨⟩:=InvokeH_func hc (by simpa using H)
theorem invC2 {f:Nat} {a b:Value} (hc:Go.Vc.callOk Tryz.prog f=true) (H:CallsH Tryz.prog f #[a,b] h K ⟨⟩):InvokeH Tryz.prog (.func (.func f) #[] #[a,b]) #[] h K ⟨⟩:=InvokeH_func hc (by simpa using H)
theorem invC3 {f:Nat} {a b c:Value} (hc:Go.Vc.callOk Tryz.prog f=true) (H:CallsH Tryz.prog f #[a,b,c] h K ⟨⟩):InvokeH Tryz.prog (.func (.func f) #[] #[a,b,c]) #[] h K ⟨⟩:=InvokeH_func hc (by simpa using H)
theorem bsF5 {f0 f1 f2 f3 f4:Nat} {a0 a1 a2 a3 a4:Array Value}:Hp Tryz.prog false (Instr.buildSlice 100 5 #[(0,.func (.func f0) #[] a0),(1,.func (.func f1) #[] a1),(2,.func (.func f2) #[] a2),(3,.func (.func f3) #[] a3),(4,.func (.func f4) #[] a4)]) K h ⟨⟩ ↔
 ValT h.size (fun b=>K (.slice (some ⟨b,0,none⟩) 5 5) (h.push (.cells #[.func (.func f0) #[] a0,.func (.func f1) #[] a1,.func (.func f2) #[] a2,.func (.func f3) #[] a3,.func (.func f4) #[] a4] 99))) ⟨⟩:=Hp_newT kR
theorem bsF3 {f0 f1 f2:Nat} {a0 a1 a2:Array Value}:Hp Tryz.prog false (Instr.buildSlice 100 3 #[(0,.func (.func f0) #[] a0),(1,.func (.func f1) #[] a1),(2,.func (.func f2) #[] a2)]) K h ⟨⟩ ↔
 ValT h.size (fun b=>K (.slice (some ⟨b,0,none⟩) 3 3) (h.push (.cells #[.func (.func f0) #[] a0,.func (.func f1) #[] a1,.func (.func f2) #[] a2] 99))) ⟨⟩:=Hp_newT kR
theorem gSet_c {B m c n:Nat} {o i:Int} {x:Nat} {l z:List UInt8} (hn:n=l.length) (hO:OwnS 1 h (.slice (some ⟨B,0,none⟩) m c) ((l++z).map byteV)) (hl:l.length<1000000000) (hx:x<18446744073709551616)
 (H:∀h',Ext h h'→setCE l.length o i x≠0→K (.int .i64 (setCE l.length o i x)) h')
 (H0:∀h1 h',Ext h h1→setCE l.length o i x=0→OwnS 1 h' (.slice (some ⟨B,0,none⟩) m c) ((setC l (wd o) i.toNat x++z).map byteV)→Mod (· = B) h1 h'→K (.int .i64 0) h') :
 CallsH Tryz.prog 100 #[.slice (some ⟨B,0,none⟩) n c,.int .i64 o,.int .i64 i,.int .u64 (x:Nat)] h K ⟨⟩:=by
 subst hn
 exact CSet_c hO hl hx H H0
set_option maxHeartbeats 4000000 in
theorem gMake_c {o sp:Nat} {g:Gm} {x:Hd} {s:St} {p:Fs} {i:Nat} (a:RA h o sp g x s p) (I:Img g x p.f.now) (hi:i<g.m) (hw:g.word p.f.now i=0) (hf:g.pl i+g.c≤268435456) (hs:p.steps+5<1000000)
 (H:∀h' s',SUpd h h' sp s s'→FsAt s' (mkF g i p).1→K (.int .i64 (mkF g i p).2) h'):CallsH Tryz.prog 50 #[ptrV o,.int .i64 (i:Nat)] h K ⟨⟩:=by
 refine n50_calls ?_
 unfold n50; try delta vF vG vC vD vJ vV vk vt
 have hi0:i≠0:=fun e=>I.w0 (e▸hw)
 obtain ⟨P,hP⟩:∃P,g.pl i=P:=⟨_,rfl⟩
 have hmul1:((i:Nat):Int)*((g.n:Nat):Int)*((g.c:Nat):Int)=((P:Nat):Int):=by
  rw [←hP]; unfold Gm.pl Gm.cl; rw [if_neg hi0,Int.natCast_mul,Int.natCast_mul]
 obtain ⟨Q1,hQ1⟩:∃Q,i*g.n=Q:=⟨_,rfl⟩
 have hmul0:((i:Nat):Int)*((g.n:Nat):Int)=((Q1:Nat):Int):=by rw [←hQ1,Int.natCast_mul]
 rw [hmul0] at hmul1
 rw [hP] at hf
 have hrl:=a.ok.room_lt
 obtain ⟨q,hq,hq1,hq2⟩:=a.ok.c512
 have hQP:Q1≤P:=by
  rw [←hP]; unfold Gm.pl Gm.cl; rw [if_neg hi0,hQ1]
  exact Nat.le_mul_of_pos_right _ omg
 have hol:=get_some_lt a.rg
 have hon:¬o=h.size∧¬o=h.size+1:=by omega
 have r17:=cellOf (i:=17) a.rg rfl
 have r18:=cellOf (i:=18) a.rg rfl
 have r7:=cellOf (i:=7) a.rg rfl
 rw [a.hd.order] at r7
 unfold ptrV
 simp (disch:=omega) [r17,r18,r7,hmul0,hmul1,hon.1,hon.2]
 obtain ⟨X2,hX2⟩:∃X,X=hset (((h.push (.cells #[.pointer (some ⟨o,0,none⟩)] 30)).push (.cells #[.int .i64 (i:Nat)] 2)).push (.cells #[.int .i64 0] 2)) ⟨h.size+1+1,0,none⟩ (.int .i64 (P:Nat)):=⟨_,rfl⟩
 have e2:Ext h X2:=by rw [hX2]; exact extS
 have z2:X2.size=h.size+3:=by rw [hX2]; simp
 have k0:X2[h.size]? = some (.cells #[.pointer (some ⟨o,0,none⟩)] 30):=by rw [hX2]; exact gtP
 have k1:X2[h.size+1]? = some (.cells #[.int .i64 (i:Nat)] 2):=by rw [hX2]; exact gtP
 have k2:X2[h.size+1+1]? = some (.cells #[.int .i64 (P:Nat)] 2):=by rw [hX2]; exact obj_set (get_pushed sM)
 rw [←hX2]
 clear hX2
 obtain ⟨X4,hX4⟩:∃X,X=hset ((X2.push (.cells (Array.replicate g.c (.int .u8 0)) 5)).push (.cells #[.slice none 0 0] 52)) ⟨h.size+1+1+1+1,0,none⟩ (.slice (some ⟨h.size+1+1+1,0,none⟩) g.c g.c):=⟨_,rfl⟩
 have e4:Ext X2 X4:=by rw [hX4]; exact extS
 have z4:X4.size=h.size+5:=by rw [hX4]; simp [z2]
 have k3:X4[h.size+1+1+1]? = some (.cells (Array.replicate g.c (.int .u8 0)) bT):=by rw [hX4]; exact gtP
 have k4:X4[h.size+1+1+1+1]? = some (.cells #[.slice (some ⟨h.size+1+1+1,0,none⟩) g.c g.c] 52):=by rw [hX4]; exact obj_set (get_pushed (by simp [z2]))
 rw [show hset _ _ _=X4 from hX4.symm]
 clear hX4
 have oB:OwnS 1 X4 (.slice (some ⟨h.size+1+1+1,0,none⟩) g.c g.c) ((zeros g.c++[]).map byteV):=by
  refine OwnT.own (e:=bT) (.inr ⟨h.size+1+1+1,g.c,g.c,[],rfl,by simp [zeros],Nat.le_refl _,?_,by simp [zeros]⟩)
  rw [k3]
  simp only [List.append_nil,zeros,List.map_replicate,←List.toArray_replicate]; rfl
 refine gSet_c (x:=1) (zeros_len g.c).symm oB (by rw [zeros_len]; omega) omg (fun h5 e5 hne => ?_) (fun h1 h5 e51 _ o5 m5 => ?_)
 ·exfalso
  apply hne
  rw [zeros_len]
  unfold setCE
  have:=a.ok.ask0 (j:=0) (by have:=a.ok.n64; omega)
  rw [show ((0:Nat):Int)=0 from rfl] at this
  rw [this,if_pos rfl,a.ok.wd_w,if_pos (Nat.one_lt_two_pow (by have:=a.ok.w64; omega))]
 have z51:=e51.size
 have z5:=m5.size
 have E5:Ext h h5:=m5.ext_from ((e2.trans e4).trans e51) (fun b hb e=>by omega)
 have keep5:∀b,b<h.size+5→b≠h.size+1+1+1→h5[b]? = X4[b]? := fun b hb hne=>(m5.block b omg (fun e=>hne omg)).trans (e51.block b omg)
 have keep4:∀b,b<h.size+3→X4[b]? = X2[b]? := fun b hb=>e4.block b omg
 have q0:h5[h.size]? = some (.cells #[.pointer (some ⟨o,0,none⟩)] 30):=(keep5 _ omg omg).trans ((keep4 _ omg).trans k0)
 have q1:h5[h.size+1]? = some (.cells #[.int .i64 (i:Nat)] 2):=(keep5 _ omg omg).trans ((keep4 _ omg).trans k1)
 have q2:h5[h.size+1+1]? = some (.cells #[.int .i64 (P:Nat)] 2):=(keep5 _ omg omg).trans ((keep4 _ omg).trans k2)
 have q4:h5[h.size+1+1+1+1]? = some (.cells #[.slice (some ⟨h.size+1+1+1,0,none⟩) g.c g.c] 52):=(keep5 _ omg omg).trans k4
 clear keep5 keep4 k0 k1 k2 k3 k4 e51 m5 e2 e4
 have c2:=cellOf (i:=0) q2 rfl
 have hlt2:h.size+1+1<h5.size:=get_some_lt q2
 have hne2:¬h.size+1+1=h5.size∧¬h.size+1+1=h5.size+1:=by omega
 simp (disch:=omega) [c2,hne2.1,hne2.2]
 obtain ⟨X6,hX6⟩:∃X,X=hset ((h5.push (.cells (Array.replicate 8 (.int .u8 0)) 5)).push (.cells #[.slice none 0 0] 52)) ⟨h5.size+1,0,none⟩ (.slice (some ⟨h5.size,0,none⟩) 8 8):=⟨_,rfl⟩
 have e6:Ext h5 X6:=by rw [hX6]; exact extS
 have z6:X6.size=h5.size+2:=by rw [hX6]; simp
 have k6:X6[h5.size]? = some (.cells (Array.replicate 8 (.int .u8 0)) bT):=by rw [hX6]; exact gtP
 have k7:X6[h5.size+1]? = some (.cells #[.slice (some ⟨h5.size,0,none⟩) 8 8] 52):=by rw [hX6]; exact obj_set (get_pushed sM)
 rw [show hset _ _ _=X6 from hX6.symm]
 clear hX6
 have oW:OwnS 1 X6 (.slice (some ⟨h5.size,0,none⟩) 8 8) ((zeros 8).map byteV) :=
  OwnT.own (e:=bT) (.inr ⟨h5.size,8,8,[],rfl,rfl,Nat.le_refl _,k6,rfl⟩)
 have hse:setE 8 0 8 P=0:=by unfold setE; simp; omega
 refine SetO_c (k:=8) oW dM dM omg (fun hne=>absurd hse hne) (fun h7 _ o7 m7 _ => ?_)
 rw [show (0:Int).toNat=0 from rfl,show (8:Int).toNat=8 from rfl,show Vc.over (zeros 8) 0 (leB 8 P)=leB 8 P by unfold Vc.over; rw [List.take_zero,List.nil_append,leB_length]; rfl] at o7
 have z7:=m7.size
 have E7:Ext h5 h7:=m7.ext_from e6 (fun b hb e=>by omega)
 have w7:h7[h5.size+1]? = some (.cells #[.slice (some ⟨h5.size,0,none⟩) 8 8] 52):=(m7.block _ omg (fun e=>by omega)).trans k7
 clear k6 k7 oW e6 m7
 simp (disch:=omega)
 rw [bsF5]
 simp (disch:=omega)
 rw [List.append_nil,a.ok.wd_w,show (0:Int).toNat=0 from rfl] at o5
 have hnB:setC (zeros g.c) g.w 0 1=g.newB:=rfl
 rw [hnB] at o5
 obtain ⟨fs5,hfs5⟩:∃a,a = #[(.func (.func 102) #[] #[.pointer (some ⟨h.size,0,none⟩),.pointer (some ⟨h.size+1+1,0,none⟩)]:Value),
  .func (.func 103) #[] #[.pointer (some ⟨h.size,0,none⟩),.pointer (some ⟨h.size+1+1,0,none⟩),.pointer (some ⟨h.size+1+1+1+1,0,none⟩)],
  .func (.func 104) #[] #[.pointer (some ⟨h.size,0,none⟩)],
  .func (.func 105) #[] #[.pointer (some ⟨h.size,0,none⟩),.pointer (some ⟨h.size+1,0,none⟩),.pointer (some ⟨h5.size+1,0,none⟩)],
  .func (.func 106) #[] #[.pointer (some ⟨h.size,0,none⟩)]]:=⟨_,rfl⟩
 rw [←hfs5]
 obtain ⟨h8,hh8⟩:∃X,X=h7.push (.cells fs5 99):=⟨_,rfl⟩
 have e8:Ext h7 h8:=by rw [hh8]; exact extS
 have k8:h8[h7.size]? = some (.cells fs5 99):=by rw [hh8]; exact get_pushed rfl
 have z8:h8.size=h7.size+1:=by rw [hh8]; simp
 rw [←hh8]
 clear hh8
 have E8:Ext h h8:=(E5.trans E7).trans e8
 have a8:=a.ext E8
 have q0:=(E7.trans e8).block _ (get_some_lt q0) |>.trans q0
 have q1:=(E7.trans e8).block _ (get_some_lt q1) |>.trans q1
 have q2:=(E7.trans e8).block _ (get_some_lt q2) |>.trans q2
 have q4:=(E7.trans e8).block _ (get_some_lt q4) |>.trans q4
 have w7:=e8.block _ (get_some_lt w7) |>.trans w7
 have bB:Bytes h8 (.slice (some ⟨h.size+1+1+1,0,none⟩) g.c g.c) g.newB:=(o5.ext (E7.trans e8)).bytes
 have bW:Bytes h8 (.slice (some ⟨h5.size,0,none⟩) 8 8) (leB 8 P):=(o7.ext e8).bytes
 have nfoot:∀b,h.size≤b→¬s.foot sp b:=fun b hb e=>by have:=a.st.lt e; omega
 clear o5 o7 c2 hne2 hlt2
 refine loopX1 (α:=Nat×St×Fs) (fun z => .int .i64 z.1) (fun z G=>z.1≤5∧SUpd h8 G sp s z.2.1∧FsAt z.2.1 z.2.2∧seqF ((mkL g i).drop z.1) z.2.2=mkF g i p∧z.2.2.steps≤p.steps+z.1) (fun z=>5-z.1) (0,s,p) rfl ⟨Nat.zero_le _,.refl a8.st,a.fs,rfl,Nat.le_refl _⟩ ?_
 rintro ⟨j,s1,p1⟩ G ⟨hj,u,f1,he,hst⟩ X hX
 dsimp only at hj u f1 he hst hX ⊢
 have aG:=a8.upd u f1
 have kp:∀b,h.size≤b→b<h8.size→G[b]? = h8[b]? := fun b hb hl=>u.mod.block b hl (nfoot b hb)
 have k8:=(kp _ omg omg).trans k8
 have d0:=cellOf (i:=0) ((kp _ omg (get_some_lt q0)).trans q0) rfl
 have d1:=cellOf (i:=0) ((kp _ omg (get_some_lt q1)).trans q1) rfl
 have d2:=cellOf (i:=0) ((kp _ omg (get_some_lt q2)).trans q2) rfl
 have d4:=cellOf (i:=0) ((kp _ omg (get_some_lt q4)).trans q4) rfl
 have dw:=cellOf (i:=0) ((kp _ omg (get_some_lt w7)).trans w7) rfl
 have bB:=bB.mod u.mod (fun b hb e=>nfoot (h.size+1+1+1) omg (by cases hb; exact e))
 have bW:=bW.mod u.mod (fun b hb e=>nfoot h5.size omg (by cases hb; exact e))
 have nf1:∀b,h.size≤b→b<h8.size→¬s1.foot sp b:=fun b hb hl e=>(u.foot b e).elim (nfoot b hb) (fun e=>by omega)
 have r0:=cellOf (i:=0) aG.rg rfl
 have r1:=cellOf (i:=1) aG.rg rfl
 have r8:=cellOf (i:=8) aG.rg rfl
 have r17:=cellOf (i:=17) aG.rg rfl
 unfold ptrV at r0
 rw [a.hd.counts] at r8
 have hnl:=g.newB_len
 have hwf:=a.ok.word_at hi
 have htab:=a.ok.pl_tab i
 have hst1:=aG.st.stp
 have h5lt:h5.size<h7.size:=by omega
 have cellj:∀n (hn:n<fs5.size),hcell G (elt ⟨h7.size,0,none⟩ n)=some fs5[n]:=fun n hn=>by
  rw [elt_mk,Nat.zero_add]; exact cellOf k8 (Array.getElem?_eq_getElem hn)
 have hs5:fs5.size=5:=by rw [hfs5]; rfl
 have next:∀G' s' p',SUpd G G' sp s1 s'→FsAt s' p'→seqF ((mkL g i).drop (j+1)) p'=mkF g i p→j<5→p'.steps≤p1.steps+1→X (.int .i64 ((j+1:Nat):Int)) G':=fun G' s' p' u' f' he' hj' hst' =>
  hX (j+1,s',p') _ _ rfl ⟨by omega,u.trans u',f',he',by dsimp only; omega⟩ (by dsimp only; omega)
 have fin:∀G' s' p' e,SUpd G G' sp s1 s'→FsAt s' p'→(p',e)=mkF g i p→K (.int .i64 e) G':=fun G' s' p' e u' f' he'=>by
  rw [←he'] at H
  exact H G' s' ((u.trans u').from_ E8) f'
 have sn:∀n:Nat,((n:Nat):Int)+1=((n+1:Nat):Int):=fun n=>by omega
 rcases Nat.lt_or_ge j 5 with hj5|hj5
 ·have hcj:=cellj j omg
  have hlt:((j:Nat):Int)<5:=by omega
  simp (disch:=omega) [hcj]
  have h01234:j=0∨j=1∨j=2∨j=3∨j=4:=by omega
  rcases h01234 with rfl|rfl|rfl|rfl|rfl
  ·rw [show fs5[0]'omg = .func (.func 102) #[] #[.pointer (some ⟨h.size,0,none⟩),.pointer (some ⟨h.size+1+1,0,none⟩)] by simp only [hfs5]; rfl]
   refine invC2 kR ?_
   refine n102_calls ?_
   unfold n102; try delta vF vG vC vD vJ vV vk vt
   obtain ⟨PC,hPC⟩:∃PC,P+g.c=PC:=⟨_,rfl⟩
   have hPC':((P:Nat):Int)+((g.c:Nat):Int)=((PC:Nat):Int):=by omega
   simp (disch:=omega) [d0,d2,r17,hPC']
   rw [show (.pointer (some ⟨o,0,none⟩):Value)=ptrV o from rfl]
   have hup:=up_same a.ok i
   rw [hP,hPC] at hup
   refine gGrow_c aG omg omg (by rw [Int.toNat_natCast,hup]; omega) fun G2 s2 u2 f2 => ?_
   rw [Int.toNat_natCast,←hPC,←hP] at f2 ⊢
   by_cases he0:(growF g (g.pl i+g.c) p1).2=0
   ·rw [show (mkL g i).drop 0=growF g (g.pl i+g.c)::(mkL g i).drop 1 from rfl,seqF_cons he0] at he
    have he1:(growF g (g.pl i+g.c) p1).2=0:=he0
    rw [he1]
    simp (disch:=omega)
    have:=next G2 s2 _ u2 f2 he omg (growF_stp a.ok aG.fok (by rw [up_same a.ok,hP]; exact hf)).stp
    exact this
   ·rw [show (mkL g i).drop 0=growF g (g.pl i+g.c)::(mkL g i).drop 1 from rfl,seqF_err he0] at he
    have he1:¬(growF g (g.pl i+g.c) p1).2=0:=he0
    simp (disch:=omega) [he1]
    exact fin G2 s2 _ _ u2 f2 he
  ·rw [show fs5[1]'omg = .func (.func 103) #[] #[.pointer (some ⟨h.size,0,none⟩),.pointer (some ⟨h.size+1+1,0,none⟩),.pointer (some ⟨h.size+1+1+1+1,0,none⟩)] by simp only [hfs5]; rfl]
   refine invC3 kR ?_
   refine n103_calls ?_
   unfold n103; try delta vF vG vC vD vJ vV vk vt
   simp (disch:=omega) [d0,d2,d4,r0,r1]
   rw [show (.pointer (some ⟨sp,0,none⟩):Value)=ptrV sp from rfl]
   refine sWrite_c aG.st f1 bB (by rw [hnl]; omega) (fun _ b hb=>by cases hb; exact nf1 (h.size+1+1+1) omg omg) omg (by rw [hnl]; omega) omg fun G2 s2 u2 f2 => ?_
   rw [Int.toNat_natCast,←hP] at f2
   by_cases he0:(wrS (g.pl i) g.newB p1).2=0
   ·rw [show (mkL g i).drop 1=wrS (g.pl i) g.newB::(mkL g i).drop 2 from rfl,seqF_cons he0] at he
    have he1:p1.e=0:=he0
    rw [he1]
    simp (disch:=omega)
    have:=next G2 s2 _ u2 f2 he omg (Nat.le_refl _)
    exact this
   ·rw [show (mkL g i).drop 1=wrS (g.pl i) g.newB::(mkL g i).drop 2 from rfl,seqF_err he0] at he
    have he1:¬p1.e=0:=he0
    simp (disch:=omega) [he1]
    exact fin G2 s2 _ _ u2 f2 he
  ·rw [show fs5[2]'omg = .func (.func 104) #[] #[.pointer (some ⟨h.size,0,none⟩)] by simp only [hfs5]; rfl]
   refine invC1 kR ?_
   refine n104_calls ?_
   unfold n104; try delta vF vG vC vD vJ vV vk vt
   simp (disch:=omega) [d0,r0,r1]
   rw [show (.pointer (some ⟨sp,0,none⟩):Value)=ptrV sp from rfl]
   refine sFlush_c aG.st f1 omg fun G2 s2 u2 f2 => ?_
   by_cases he0:(flS p1).2=0
   ·rw [show (mkL g i).drop 2=flS::(mkL g i).drop 3 from rfl,seqF_cons he0] at he
    have he1:p1.e=0:=he0
    rw [he1]
    simp (disch:=omega)
    have:=next G2 s2 _ u2 f2 he omg (Nat.le_refl _)
    exact this
   ·rw [show (mkL g i).drop 2=flS::(mkL g i).drop 3 from rfl,seqF_err he0] at he
    have he1:¬p1.e=0:=he0
    simp (disch:=omega) [he1]
    exact fin G2 s2 _ _ u2 f2 he
  ·rw [show fs5[3]'omg = .func (.func 105) #[] #[.pointer (some ⟨h.size,0,none⟩),.pointer (some ⟨h.size+1,0,none⟩),.pointer (some ⟨h5.size+1,0,none⟩)] by simp only [hfs5]; rfl]
   refine invC3 kR ?_
   refine n105_calls ?_
   unfold n105; try delta vF vG vC vD vJ vV vk vt
   obtain ⟨AD,hAD⟩:∃AD,g.c+8*i=AD:=⟨_,rfl⟩
   have hAD':((g.c:Nat):Int)+8*((i:Nat):Int)=((AD:Nat):Int):=by omega
   have hL40:=a.ok.m8
   simp (disch:=omega) [d0,d1,dw,r0,r1,r8,hAD']
   rw [show (.pointer (some ⟨sp,0,none⟩):Value)=ptrV sp from rfl]
   refine sWrite_c aG.st f1 bW (by rw [leB_length]; omega) (fun _ b hb=>by cases hb; exact nf1 h5.size omg omg) omg (by rw [leB_length]; omega) omg fun G2 s2 u2 f2 => ?_
   rw [Int.toNat_natCast,←hAD,←hP] at f2
   by_cases he0:(wrS (g.c+8*i) (leB 8 (g.pl i)) p1).2=0
   ·rw [show (mkL g i).drop 3=wrS (g.c+8*i) (leB 8 (g.pl i))::(mkL g i).drop 4 from rfl,seqF_cons he0] at he
    have he1:p1.e=0:=he0
    rw [he1]
    simp (disch:=omega)
    have:=next G2 s2 _ u2 f2 he omg (Nat.le_refl _)
    exact this
   ·rw [show (mkL g i).drop 3=wrS (g.c+8*i) (leB 8 (g.pl i))::(mkL g i).drop 4 from rfl,seqF_err he0] at he
    have he1:¬p1.e=0:=he0
    simp (disch:=omega) [he1]
    exact fin G2 s2 _ _ u2 f2 he
  ·rw [show fs5[4]'omg = .func (.func 106) #[] #[.pointer (some ⟨h.size,0,none⟩)] by simp only [hfs5]; rfl]
   refine invC1 kR ?_
   refine n106_calls ?_
   unfold n106; try delta vF vG vC vD vJ vV vk vt
   simp (disch:=omega) [d0,r0,r1]
   rw [show (.pointer (some ⟨sp,0,none⟩):Value)=ptrV sp from rfl]
   refine sFlush_c aG.st f1 omg fun G2 s2 u2 f2 => ?_
   by_cases he0:(flS p1).2=0
   ·rw [show (mkL g i).drop 4=flS::(mkL g i).drop 5 from rfl,seqF_cons he0] at he
    have he1:p1.e=0:=he0
    rw [he1]
    simp (disch:=omega)
    have:=next G2 s2 _ u2 f2 he omg (Nat.le_refl _)
    exact this
   ·rw [show (mkL g i).drop 4=flS::(mkL g i).drop 5 from rfl,seqF_err he0] at he
    have he1:¬p1.e=0:=he0
    simp (disch:=omega) [he1]
    exact fin G2 s2 _ _ u2 f2 he
 ·obtain rfl:j=5:=by omega
  simp (disch:=omega)
  exact fin G s1 p1 0 (.refl aG.st) f1 he
end Go.Proofs.YtdccfkffabngjaaGreat
namespace Go.Vc
open Go
set_option linter.unusedSimpArgs false
set_option linter.unusedVariables false
set_option linter.unusedSectionVars false
section
variable {P:Program} {q:Bool} {K:VP} {h:Heap} {κ:Type} [DecidableEq κ] {kV:κ→Value}

def MapItD (kV:κ→Value) (h:Heap) (it m:Nat) (l:List (κ×Value)) (T:List κ):Prop :=
 ∃(es:List MapEntry) (cl:Nat) (seen:List Nat),h[m]? = some (.map es.toArray cl)∧es.map (fun e=>(e.key,e.val))=l.map (fun p=>(kV p.1,p.2))∧(l.map (·.1)).Nodup∧(es.map (·.born)).Pairwise (· < ·)∧(∀e∈es,e.born<cl) ∧
  h[it]? = some (.mapIter (some m) cl seen.toArray cl)∧(∀e∈es,∀k,e.key=kV k→(e.born∈seen↔k∈T))∧(∀k,T.getLast? = some k→∀e∈es,e.key=kV k→seen.getLast? = some e.born)∧it≠m
def leftD (l:List (κ×Value)) (T:List κ):Nat:=(l.filter (fun p => !T.contains p.1)).length
end
end Go.Vc
set_option linter.unusedSimpArgs false
set_option linter.unusedVariables false
set_option maxRecDepth 20000
namespace Go.Proofs.YtdccfkffabngjaaGreat
open Go.Vc
variable {K:VP} {h:Heap}

def i6T:Nat:=2
def l6T:Nat:=47
theorem range_filterL {α:Type}:∀(H:List α),(List.range H.length).filterMap (fun i=>H[i]?)=H
 | []=>rfl
 | x::l=>by
  rw [List.length_cons,List.range_succ_eq_map,List.filterMap_cons]
  simp only [List.getElem?_cons_zero,List.filterMap_map]
  congr 1
  exact range_filterL l
theorem cellL {b i:Nat} {c:Array Value} {e:Go.TypeId} {v:Value} (hb:h[b]? = some (.cells c e)) (hi:c[i]? = some v):hcell h ⟨b,i,none⟩=some v:=(hcell_of_block hb).trans hi
theorem frzL {b i:Nat} {c:Array Value} {e:Go.TypeId} (hb:h[b]? = some (.cells c e)):hfrozen h ⟨b,i,none⟩=false:=by rw [hfrozen_of_block hb]; simp
set_option maxHeartbeats 2000000 in
theorem appKeyN_c {b m:Nat} {l:List (Int×Value)} (hb:h[b]? = some (.cells #[.map (some m)] 104)) (hm:MapK (.int .i64) h m l) (hl:l.length<100000)
 (H:∀h' v (L:List Int),Ext h h'→L.Perm (l.map (·.1))→OwnT i6T 1 h' v (L.map (.int .i64))→(∀b,blkV v=some b→h.size≤b)→K v h') :
 CallsH Tryz.prog 132 #[.slice none 0 0,.func (.func 97) #[] #[ptrV b]] h K ⟨⟩:=by
 refine n132_calls ?_
 unfold n132; try delta vF vG vC vD vJ vV vk vt
 simp (disch:=omega)
 refine JoinN_in1 (fun D g=>D=consD (h.size+1) (.tuple #[])∧g[h.size+1]? = some (.deferred (some []))∧Ext h g∧∃v,∃L:List Int,g[h.size]? = some (.cells #[v] l6T)∧L.Perm (l.map (·.1))∧OwnT i6T 1 g v (L.map (.int .i64))∧(∀b,blkV v=some b→h.size+2≤b)) (fun kk hkk => ?_) (fun D g hD => ?_)
 ·refine JoinN.mk ?_
  have hbl:=get_some_lt hb
  have hml:=hm.lt
  refine (⟨_,rfl⟩:∃g,g=h.push (.cells #[.slice none 0 0] l6T)).elim fun h0 eh0 => ?_
  have e0:Ext h h0:=by rw [eh0]; exact extS
  have z0:h0.size=h.size+1:=by rw [eh0]; simp
  have q0:h0[h.size]? = some (.cells #[.slice none 0 0] l6T):=by rw [eh0]; exact get_pushed rfl
  rw [show h.push (.cells #[.slice none 0 0] 47)=h0 from eh0.symm]
  clear eh0
  refine RangeC_none rfl fun oR oB oE oX oF Kp hoR hoB hrd hN hR hX => ?_
  refine (⟨_,rfl⟩:∃g,g=(h0.push (.deferred (some []))).push oR).elim fun h1 eh1 => ?_
  have e1:Ext h0 h1:=by rw [eh1]; exact extS
  have z1:h1.size=h.size+3:=by rw [eh1]; simp [z0]
  have rD:h1[h.size+1]? = some (.deferred (some [])):=by rw [eh1,get_push (by simp; omega),get_pushed omg]
  have rL:h1[h.size+2]? = some oR:=by rw [eh1,get_pushed (by simp; omega)]
  rw [←eh1]
  clear eh1
  rw [z0] at hrd hN ⊢
  refine InvokeH_k1 kR ?_
  refine n97_calls ?_
  unfold n97 ptrV; try delta vF vG vC vD vJ vV vk vt
  have c0:=cellL (i:=0) (((e0.trans e1).block b hbl).trans hb) rfl
  simp (disch:=omega) [c0]
  refine Hp_rangeM kR ((hm.ext e0).ext e1) fun h2 e2 hit hs2 => ?_
  have q2:=(e2.block h.size omg).trans ((e1.block h.size omg).trans q0)
  refine loopMap0 (fun I g=>Ext h g∧g[h.size+1]? = some (.deferred (some []))∧g[h.size+2]? = some oR∧∃v,g[h.size]? = some (.cells #[v] l6T)∧OwnT i6T 1 g v ((I.filterMap (fun i=>(l.map (·.1))[i]?)).map (.int .i64))∧(∀b,blkV v=some b→h.size+2≤b)) hit ⟨(e0.trans e1).trans e2,(e2.block _ omg).trans rD,(e2.block _ omg).trans rL,_,q2,.nil,fun b hb=>by cases hb⟩ ?_
  rintro I g hI hn hlt ⟨eg,gD,gL,v,gv,ov,fv⟩ X hX
  have hIl:=nodup_len hn hlt
  refine Hp_next hI (fun i hi hiI g' m' hI' => ?_) (fun hall => ?_)
  ·simp (disch:=omega)
   rw [Hp_entry hI' hi]
   simp (disch:=omega)
   have mI:∀b,b=h2.size-1∨True:=fun _ => .inr trivial
   have hq:h.size<g.size:=get_some_lt gv
   obtain ⟨es,cl,m1,-,-,-,m6,-,-⟩:=hI
   have hitq:h.size≠h1.size:=by omega
   have gv':=(m'.block h.size hq hitq).trans gv
   have gD':=(m'.block (h.size+1) (get_some_lt gD) omg).trans gD
   have gL':=(m'.block (h.size+2) (get_some_lt gL) omg).trans gL
   have hvit:∀b,blkV v=some b→b≠h1.size:=fun b hb e=>by
    obtain ⟨arr,ha⟩:=ov.tag hb
    rw [e,m6] at ha; cases ha
   have ov':=ov.mod m' (fun b hb e=>hvit b hb e)
   have eg':Ext h g':=m'.ext_from eg (fun b hb e=>by omega)
   refine hrd [.int .i64 (l[i]).1] g' _ rfl gL' ⟨gL',?_⟩
   refine (⟨_,rfl⟩:∃f,f=g'.setIfInBounds (h.size+1+1) oB).elim fun gB egB => ?_
   have mB:Mod (· = h.size+2) g' gB:=by rw [egB]; exact Mod.put _ _ _
   have gLB:gB[h.size+2]? = some oB:=by rw [egB]; exact get_put (get_some_lt gL')
   rw [←egB]
   clear egB
   have gvB:=(mB.block h.size (get_some_lt gv') omg).trans gv'
   have gDB:=(mB.block (h.size+1) (get_some_lt gD') omg).trans gD'
   have hvl:∀b,blkV v=some b→b≠h.size+2:=fun b hb e=>by
    obtain ⟨arr,ha⟩:=ov'.tag hb
    rw [e,gL'] at ha
    cases ha; cases hoR
   have ovB:=ov'.mod mB (fun b hb e=>hvl b hb e)
   have hIB:=hI'.mod mB (fun e=>by omega) (fun e=>by omega)
   have eB:Ext h gB:=mB.ext_from eg' (fun b hb e=>by omega)
   have c0:=cellL (i:=0) gvB rfl
   obtain ⟨va,vn,vc,rfl,hvn,-,-⟩:=ov.form omg
   simp (disch:=omega) [c0,getV]
   have hkl:(I.filterMap (fun i=>(l.map (·.1))[i]?)).length≤I.length:=List.length_filterMap_le _ _
   have hf:(I++[i]).filterMap (fun i=>(l.map (·.1))[i]?)=I.filterMap (fun i=>(l.map (·.1))[i]?)++[(l[i]).1]:=by
    rw [List.filterMap_append]
    congr 1
    rw [List.filterMap_cons,List.getElem?_map,List.getElem?_eq_getElem hi]
    rfl
   refine Hp_appP (e:=i6T) (by_:=8) kR kR ovB rfl (by rw [List.length_map]; omega) omg fun v' h3 o3 m3 f3 => ?_
   have hvq:∀b,blkV (.slice va vn vc)=some b→b≠h.size:=fun b hb=>ovB.ne hb gvB dM
   have hvD:∀b,blkV (.slice va vn vc)=some b→b≠h.size+1:=fun b hb e=>by
    obtain ⟨arr,ha⟩:=ovB.tag hb
    rw [e,gDB] at ha; cases ha
   have gv3:=(m3.block h.size (get_some_lt gvB) (fun e=>hvq _ e rfl)).trans gvB
   have gD3:=(m3.block (h.size+1) (get_some_lt gDB) (fun e=>hvD _ e rfl)).trans gDB
   have gL3:=(m3.block (h.size+2) (get_some_lt gLB) (fun e=>by
    obtain ⟨arr,ha⟩:=ovB.tag e
    rw [gLB] at ha; cases ha; cases hoB)).trans gLB
   have k0:=cellL (i:=0) gv3 rfl
   have f0:=frzL (i:=0) gv3
   obtain ⟨wa,wn,wc,rfl,-,-,-⟩:=o3.form omg
   have hmm:m≠h.size:=by omega
   have hvm:∀b,blkV (.slice va vn vc)=some b→b≠m:=fun b hb e=>by
    obtain ⟨es',cl',n1,-⟩:=hIB
    obtain ⟨arr,ha⟩:=ovB.tag hb
    rw [e,n1] at ha; cases ha
   have hvi:∀b,blkV (.slice va vn vc)=some b→b≠h1.size:=fun b hb e=>by
    obtain ⟨es',cl',-,-,-,-,n6,-⟩:=hIB
    obtain ⟨arr,ha⟩:=ovB.tag hb
    rw [e,n6] at ha; cases ha
   have hI3:=hIB.mod m3 (fun e=>hvi _ e rfl) (fun e=>hvm _ e rfl)
   have hbz:=eB.size
   have e3:Ext h h3:=m3.ext_from eB (fun b hb e=>by have:=fv b e; omega)
   simp (disch:=omega) [k0,f0]
   have gL4:(hset h3 ⟨h.size,0,none⟩ (.slice wa wn wc))[h.size+2]? = some oB:=(get_hset' omg).trans gL3
   refine ⟨gL4,?_⟩
   have m4:Mod (fun b=>b=h.size∨b=h.size+2) h3 ((hset h3 ⟨h.size,0,none⟩ (.slice wa wn wc)).setIfInBounds (h.size+1+1) oR):=Mod.putIn (Mod.setIn (Mod.refl _ _) (.inl (.inl rfl))) (.inl (.inr rfl))
   have hwq:∀b,blkV (.slice wa wn wc)=some b→b≠h.size∧b≠h.size+2:=fun b hb=>⟨o3.ne hb gv3 dM,fun e=>by
    obtain ⟨arr,ha⟩:=o3.tag hb
    rw [e,gL3] at ha; cases ha; cases hoB⟩
   refine hX i _ hiI hi (hI3.mod m4 (fun e=>by omega) (fun e=>by omega)) ⟨m4.ext_from e3 (fun b hb e=>by omega),?_,get_put (by rw [hset_size]; exact get_some_lt gL3),.slice wa wn wc,?_,?_,?_⟩
   ·exact (m4.block (h.size+1) (get_some_lt gD3) omg).trans gD3
   ·exact (get_putne omg).trans (obj_set gv3)
   ·rw [hf,List.map_append]
    exact o3.mod m4 (fun b hb e=>by have:=hwq b hb; omega)
   ·exact fun b hb=>(f3 b hb).elim (fv b) (fun e=>by have:=get_some_lt gLB; omega)
  ·simp (disch:=omega)
   refine hN _ _ gL ?_
   dsimp only
   have gLl:=get_some_lt gL
   have hlen:(l.map (·.1)).length=l.length:=List.length_map _
   have hperm:(I.filterMap (fun i=>(l.map (·.1))[i]?)).Perm (l.map (·.1)):=by
    have hp:I.Perm (List.range (l.map (·.1)).length):=by
     refine (List.perm_ext_iff_of_nodup hn List.nodup_range).2 fun i=>⟨fun hi => ?_,fun hi=>hall i (by simp at hi; omega)⟩
     have:=hlt i hi
     simp; omega
    have h2:=hp.filterMap (fun i=>(l.map (·.1))[i]?)
    rw [range_filterL] at h2
    exact h2
   refine hkk _ _ ⟨rfl,(get_putne omg).trans gD,Mod.ext_from eg (Mod.put _ _ _) (fun b hb e=>by omega),v,_,(get_putne omg).trans gv,hperm,ov.mod (Mod.put _ _ _) (fun b hb e => ?_),fv⟩
   obtain ⟨arr,ha⟩:=ov.tag hb
   have e':b=h.size+1+1:=e
   rw [e',gL] at ha; cases ha; cases hoR
 ·obtain ⟨rfl,hd,eg,v,L,hv,hp,ho,hf⟩:=hD
  have c0:=cellL (i:=0) hv rfl
  simp (disch:=omega) [c0]
  refine RetD_one' hd ?_
  have md:=Mod.put g (h.size+1) (.deferred none)
  refine H _ v L (md.ext_from eg (fun b hb e=>by omega)) hp (ho.mod md (fun b hb e => ?_)) (fun b hb=>by have:=hf b hb; omega)
  obtain ⟨arr,ha⟩:=ho.tag hb
  rw [e,hd] at ha; cases ha

theorem keysKeyN_c {m:Nat} (H:∀h',Ext h h'→h'[h.size]? = some (.cells #[.map (some m)] 104)→K (.func (.func 97) #[] #[ptrV h.size]) h'):CallsH Tryz.prog 47 #[.map (some m)] h K ⟨⟩:=by
 refine n47_calls ?_
 unfold n47; try delta vF vG vC vD vJ vV vk vt
 simp (disch:=omega)
 exact H _ extS (get_pushed rfl)
theorem sortedKeyN_c {b m:Nat} {l:List (Int×Value)} (hb:h[b]? = some (.cells #[.map (some m)] 104)) (hm:MapK (.int .i64) h m l) (hl:l.length<100000)
 (H:∀h' v (L:List Int),Ext h h'→L.Perm (l.map (·.1))→L.Pairwise (· ≤ ·)→OwnT i6T 1 h' v (L.map (.int .i64))→(∀b,blkV v=some b→h.size≤b)→K v h') :
 CallsH Tryz.prog 46 #[.func (.func 97) #[] #[ptrV b]] h K ⟨⟩:=by
 refine n46_calls ?_
 unfold n46; try delta vF vG vC vD vJ vV vk vt
 refine n95_calls ?_
 unfold n95; try delta vF vG vC vD vJ vV vk vt
 refine appKeyN_c hb hm hl fun h2 v L e2 hp ho hf => ?_
 have hLl:L.length=l.length:=by rw [hp.length_eq,List.length_map]
 refine sortL64_c ho omg fun h3 L' p3 s3 o3 m3 => ?_
 exact H h3 v L' (m3.ext_from e2 (fun b hb e=>by have:=hf b e; omega)) (p3.trans hp) s3 o3 hf
set_option maxHeartbeats 2000000 in
theorem appKeyI_c {b m:Nat} {l:List (Int×Value)} (hb:h[b]? = some (.cells #[.map (some m)] 110)) (hm:MapK (.int .i64) h m l) (hl:l.length<100000)
 (H:∀h' v (L:List Int),Ext h h'→L.Perm (l.map (·.1))→OwnT i6T 1 h' v (L.map (.int .i64))→(∀b,blkV v=some b→h.size≤b)→K v h') :
 CallsH Tryz.prog 132 #[.slice none 0 0,.func (.func 99) #[] #[ptrV b]] h K ⟨⟩:=by
 refine n132_calls ?_
 unfold n132; try delta vF vG vC vD vJ vV vk vt
 simp (disch:=omega)
 refine JoinN_in1 (fun D g=>D=consD (h.size+1) (.tuple #[])∧g[h.size+1]? = some (.deferred (some []))∧Ext h g∧∃v,∃L:List Int,g[h.size]? = some (.cells #[v] l6T)∧L.Perm (l.map (·.1))∧OwnT i6T 1 g v (L.map (.int .i64))∧(∀b,blkV v=some b→h.size+2≤b)) (fun kk hkk => ?_) (fun D g hD => ?_)
 ·refine JoinN.mk ?_
  have hbl:=get_some_lt hb
  have hml:=hm.lt
  refine (⟨_,rfl⟩:∃g,g=h.push (.cells #[.slice none 0 0] l6T)).elim fun h0 eh0 => ?_
  have e0:Ext h h0:=by rw [eh0]; exact extS
  have z0:h0.size=h.size+1:=by rw [eh0]; simp
  have q0:h0[h.size]? = some (.cells #[.slice none 0 0] l6T):=by rw [eh0]; exact get_pushed rfl
  rw [show h.push (.cells #[.slice none 0 0] 47)=h0 from eh0.symm]
  clear eh0
  refine RangeC_none rfl fun oR oB oE oX oF Kp hoR hoB hrd hN hR hX => ?_
  refine (⟨_,rfl⟩:∃g,g=(h0.push (.deferred (some []))).push oR).elim fun h1 eh1 => ?_
  have e1:Ext h0 h1:=by rw [eh1]; exact extS
  have z1:h1.size=h.size+3:=by rw [eh1]; simp [z0]
  have rD:h1[h.size+1]? = some (.deferred (some [])):=by rw [eh1,get_push (by simp; omega),get_pushed omg]
  have rL:h1[h.size+2]? = some oR:=by rw [eh1,get_pushed (by simp; omega)]
  rw [←eh1]
  clear eh1
  rw [z0] at hrd hN ⊢
  refine InvokeH_k1 kR ?_
  refine n99_calls ?_
  unfold n99 ptrV; try delta vF vG vC vD vJ vV vk vt
  have c0:=cellL (i:=0) (((e0.trans e1).block b hbl).trans hb) rfl
  simp (disch:=omega) [c0]
  refine Hp_rangeM kR ((hm.ext e0).ext e1) fun h2 e2 hit hs2 => ?_
  have q2:=(e2.block h.size omg).trans ((e1.block h.size omg).trans q0)
  refine loopMap0 (fun I g=>Ext h g∧g[h.size+1]? = some (.deferred (some []))∧g[h.size+2]? = some oR∧∃v,g[h.size]? = some (.cells #[v] l6T)∧OwnT i6T 1 g v ((I.filterMap (fun i=>(l.map (·.1))[i]?)).map (.int .i64))∧(∀b,blkV v=some b→h.size+2≤b)) hit ⟨(e0.trans e1).trans e2,(e2.block _ omg).trans rD,(e2.block _ omg).trans rL,_,q2,.nil,fun b hb=>by cases hb⟩ ?_
  rintro I g hI hn hlt ⟨eg,gD,gL,v,gv,ov,fv⟩ X hX
  have hIl:=nodup_len hn hlt
  refine Hp_next hI (fun i hi hiI g' m' hI' => ?_) (fun hall => ?_)
  ·simp (disch:=omega)
   rw [Hp_entry hI' hi]
   simp (disch:=omega)
   have mI:∀b,b=h2.size-1∨True:=fun _ => .inr trivial
   have hq:h.size<g.size:=get_some_lt gv
   obtain ⟨es,cl,m1,-,-,-,m6,-,-⟩:=hI
   have hitq:h.size≠h1.size:=by omega
   have gv':=(m'.block h.size hq hitq).trans gv
   have gD':=(m'.block (h.size+1) (get_some_lt gD) omg).trans gD
   have gL':=(m'.block (h.size+2) (get_some_lt gL) omg).trans gL
   have hvit:∀b,blkV v=some b→b≠h1.size:=fun b hb e=>by
    obtain ⟨arr,ha⟩:=ov.tag hb
    rw [e,m6] at ha; cases ha
   have ov':=ov.mod m' (fun b hb e=>hvit b hb e)
   have eg':Ext h g':=m'.ext_from eg (fun b hb e=>by omega)
   refine hrd [.int .i64 (l[i]).1] g' _ rfl gL' ⟨gL',?_⟩
   refine (⟨_,rfl⟩:∃f,f=g'.setIfInBounds (h.size+1+1) oB).elim fun gB egB => ?_
   have mB:Mod (· = h.size+2) g' gB:=by rw [egB]; exact Mod.put _ _ _
   have gLB:gB[h.size+2]? = some oB:=by rw [egB]; exact get_put (get_some_lt gL')
   rw [←egB]
   clear egB
   have gvB:=(mB.block h.size (get_some_lt gv') omg).trans gv'
   have gDB:=(mB.block (h.size+1) (get_some_lt gD') omg).trans gD'
   have hvl:∀b,blkV v=some b→b≠h.size+2:=fun b hb e=>by
    obtain ⟨arr,ha⟩:=ov'.tag hb
    rw [e,gL'] at ha
    cases ha; cases hoR
   have ovB:=ov'.mod mB (fun b hb e=>hvl b hb e)
   have hIB:=hI'.mod mB (fun e=>by omega) (fun e=>by omega)
   have eB:Ext h gB:=mB.ext_from eg' (fun b hb e=>by omega)
   have c0:=cellL (i:=0) gvB rfl
   obtain ⟨va,vn,vc,rfl,hvn,-,-⟩:=ov.form omg
   simp (disch:=omega) [c0,getV]
   have hkl:(I.filterMap (fun i=>(l.map (·.1))[i]?)).length≤I.length:=List.length_filterMap_le _ _
   have hf:(I++[i]).filterMap (fun i=>(l.map (·.1))[i]?)=I.filterMap (fun i=>(l.map (·.1))[i]?)++[(l[i]).1]:=by
    rw [List.filterMap_append]
    congr 1
    rw [List.filterMap_cons,List.getElem?_map,List.getElem?_eq_getElem hi]
    rfl
   refine Hp_appP (e:=i6T) (by_:=8) kR kR ovB rfl (by rw [List.length_map]; omega) omg fun v' h3 o3 m3 f3 => ?_
   have hvq:∀b,blkV (.slice va vn vc)=some b→b≠h.size:=fun b hb=>ovB.ne hb gvB dM
   have hvD:∀b,blkV (.slice va vn vc)=some b→b≠h.size+1:=fun b hb e=>by
    obtain ⟨arr,ha⟩:=ovB.tag hb
    rw [e,gDB] at ha; cases ha
   have gv3:=(m3.block h.size (get_some_lt gvB) (fun e=>hvq _ e rfl)).trans gvB
   have gD3:=(m3.block (h.size+1) (get_some_lt gDB) (fun e=>hvD _ e rfl)).trans gDB
   have gL3:=(m3.block (h.size+2) (get_some_lt gLB) (fun e=>by
    obtain ⟨arr,ha⟩:=ovB.tag e
    rw [gLB] at ha; cases ha; cases hoB)).trans gLB
   have k0:=cellL (i:=0) gv3 rfl
   have f0:=frzL (i:=0) gv3
   obtain ⟨wa,wn,wc,rfl,-,-,-⟩:=o3.form omg
   have hmm:m≠h.size:=by omega
   have hvm:∀b,blkV (.slice va vn vc)=some b→b≠m:=fun b hb e=>by
    obtain ⟨es',cl',n1,-⟩:=hIB
    obtain ⟨arr,ha⟩:=ovB.tag hb
    rw [e,n1] at ha; cases ha
   have hvi:∀b,blkV (.slice va vn vc)=some b→b≠h1.size:=fun b hb e=>by
    obtain ⟨es',cl',-,-,-,-,n6,-⟩:=hIB
    obtain ⟨arr,ha⟩:=ovB.tag hb
    rw [e,n6] at ha; cases ha
   have hI3:=hIB.mod m3 (fun e=>hvi _ e rfl) (fun e=>hvm _ e rfl)
   have hbz:=eB.size
   have e3:Ext h h3:=m3.ext_from eB (fun b hb e=>by have:=fv b e; omega)
   simp (disch:=omega) [k0,f0]
   have gL4:(hset h3 ⟨h.size,0,none⟩ (.slice wa wn wc))[h.size+2]? = some oB:=(get_hset' omg).trans gL3
   refine ⟨gL4,?_⟩
   have m4:Mod (fun b=>b=h.size∨b=h.size+2) h3 ((hset h3 ⟨h.size,0,none⟩ (.slice wa wn wc)).setIfInBounds (h.size+1+1) oR):=Mod.putIn (Mod.setIn (Mod.refl _ _) (.inl (.inl rfl))) (.inl (.inr rfl))
   have hwq:∀b,blkV (.slice wa wn wc)=some b→b≠h.size∧b≠h.size+2:=fun b hb=>⟨o3.ne hb gv3 dM,fun e=>by
    obtain ⟨arr,ha⟩:=o3.tag hb
    rw [e,gL3] at ha; cases ha; cases hoB⟩
   refine hX i _ hiI hi (hI3.mod m4 (fun e=>by omega) (fun e=>by omega)) ⟨m4.ext_from e3 (fun b hb e=>by omega),?_,get_put (by rw [hset_size]; exact get_some_lt gL3),.slice wa wn wc,?_,?_,?_⟩
   ·exact (m4.block (h.size+1) (get_some_lt gD3) omg).trans gD3
   ·exact (get_putne omg).trans (obj_set gv3)
   ·rw [hf,List.map_append]
    exact o3.mod m4 (fun b hb e=>by have:=hwq b hb; omega)
   ·exact fun b hb=>(f3 b hb).elim (fv b) (fun e=>by have:=get_some_lt gLB; omega)
  ·simp (disch:=omega)
   refine hN _ _ gL ?_
   dsimp only
   have gLl:=get_some_lt gL
   have hlen:(l.map (·.1)).length=l.length:=List.length_map _
   have hperm:(I.filterMap (fun i=>(l.map (·.1))[i]?)).Perm (l.map (·.1)):=by
    have hp:I.Perm (List.range (l.map (·.1)).length):=by
     refine (List.perm_ext_iff_of_nodup hn List.nodup_range).2 fun i=>⟨fun hi => ?_,fun hi=>hall i (by simp at hi; omega)⟩
     have:=hlt i hi
     simp; omega
    have h2:=hp.filterMap (fun i=>(l.map (·.1))[i]?)
    rw [range_filterL] at h2
    exact h2
   refine hkk _ _ ⟨rfl,(get_putne omg).trans gD,Mod.ext_from eg (Mod.put _ _ _) (fun b hb e=>by omega),v,_,(get_putne omg).trans gv,hperm,ov.mod (Mod.put _ _ _) (fun b hb e => ?_),fv⟩
   obtain ⟨arr,ha⟩:=ov.tag hb
   have e':b=h.size+1+1:=e
   rw [e',gL] at ha; cases ha; cases hoR
 ·obtain ⟨rfl,hd,eg,v,L,hv,hp,ho,hf⟩:=hD
  have c0:=cellL (i:=0) hv rfl
  simp (disch:=omega) [c0]
  refine RetD_one' hd ?_
  have md:=Mod.put g (h.size+1) (.deferred none)
  refine H _ v L (md.ext_from eg (fun b hb e=>by omega)) hp (ho.mod md (fun b hb e => ?_)) (fun b hb=>by have:=hf b hb; omega)
  obtain ⟨arr,ha⟩:=ho.tag hb
  rw [e,hd] at ha; cases ha

theorem keysKeyI_c {m:Nat} (H:∀h',Ext h h'→h'[h.size]? = some (.cells #[.map (some m)] 110)→K (.func (.func 99) #[] #[ptrV h.size]) h'):CallsH Tryz.prog 49 #[.map (some m)] h K ⟨⟩:=by
 refine n49_calls ?_
 unfold n49; try delta vF vG vC vD vJ vV vk vt
 simp (disch:=omega)
 exact H _ extS (get_pushed rfl)
theorem sortedKeyI_c {b m:Nat} {l:List (Int×Value)} (hb:h[b]? = some (.cells #[.map (some m)] 110)) (hm:MapK (.int .i64) h m l) (hl:l.length<100000)
 (H:∀h' v (L:List Int),Ext h h'→L.Perm (l.map (·.1))→L.Pairwise (· ≤ ·)→OwnT i6T 1 h' v (L.map (.int .i64))→(∀b,blkV v=some b→h.size≤b)→K v h') :
 CallsH Tryz.prog 46 #[.func (.func 99) #[] #[ptrV b]] h K ⟨⟩:=by
 refine n46_calls ?_
 unfold n46; try delta vF vG vC vD vJ vV vk vt
 refine n95_calls ?_
 unfold n95; try delta vF vG vC vD vJ vV vk vt
 refine appKeyI_c hb hm hl fun h2 v L e2 hp ho hf => ?_
 have hLl:L.length=l.length:=by rw [hp.length_eq,List.length_map]
 refine sortL64_c ho omg fun h3 L' p3 s3 o3 m3 => ?_
 exact H h3 v L' (m3.ext_from e2 (fun b hb e=>by have:=hf b e; omega)) (p3.trans hp) s3 o3 hf
end Go.Proofs.YtdccfkffabngjaaGreat
set_option linter.unusedSimpArgs false
set_option linter.unusedVariables false
namespace Go.Proofs.YtdccfkffabngjaaGreat
open Go.Vc
variable {K:VP} {h:Heap}

abbrev ik:Int→Value := .int .i64
theorem timesKey:KeyT Tryz.prog 104 Int ik:=KeyT.int kR
theorem blocksKey:KeyT Tryz.prog 110 Int ik:=KeyT.int kR
structure Tally (l:List Int) (L:List (Int×Value)):Prop where
 look:∀k,look2 k L=if k∈l then some (.int .i64 (l.count k:Nat)) else none
 few:L.length≤l.length
theorem Tally.nil:Tally [] []:=⟨fun k=>rfl,Nat.le_refl _⟩
theorem upd_len {k:Int} {v:Value}:∀L:List (Int×Value),(upd k v L).length≤L.length+1
 | []=>Nat.le_refl _
 | p::L=>by
  unfold upd
  split
  ·simp
  ·simpa using upd_len L
theorem Tally.get {l:List Int} {L:List (Int×Value)} (t:Tally l L) (k:Int):(look2 k L).getD (.int .i64 0) = .int .i64 (l.count k:Nat):=by
 rw [t.look]
 split
 ·rfl
 ·rename_i h
  rw [List.count_eq_zero_of_not_mem h]; rfl
theorem Tally.snoc {l:List Int} {L:List (Int×Value)} (t:Tally l L) (k:Int):Tally (l++[k]) (upd k (.int .i64 ((l.count k+1:Nat):Int)) L):=by
 refine ⟨fun j => ?_,?_⟩
 ·rw [look2_upd,t.look]
  by_cases e:j=k
  ·subst e
   rw [if_pos rfl,if_pos sM,List.count_append]
   simp
  ·rw [if_neg e]
   by_cases h:j∈l
   ·rw [if_pos h,if_pos (by simp [h]),List.count_append]
    have:[k].count j=0:=List.count_eq_zero_of_not_mem (by simpa using e)
    rw [this,Nat.add_zero]
   ·rw [if_neg h,if_neg (by simp [h,e])]
 ·have:=upd_len (k:=k) (v := .int .i64 ((l.count k+1:Nat):Int)) L
  have:=t.few
  rw [List.length_append,List.length_singleton]; omega
theorem Tally.mem {l:List Int} {L:List (Int×Value)} (t:Tally l L) (k:Int):k∈L.map (·.1)↔k∈l:=by
 constructor
 ·intro h
  obtain ⟨p,hp,rfl⟩:=List.mem_map.1 h
  have h1:look2 p.1 L≠none:=fun e=>look2_none.1 e p.2 hp
  rw [t.look] at h1
  split at h1
  ·assumption
  ·exact absurd rfl h1
 ·intro h
  cases hk:look2 k L with
  | none=>have:=t.look k; rw [hk,if_pos h] at this; cases this
  | some v =>
   refine Classical.byContradiction fun hn => ?_
   have:look2 k L=none:=look2_none.2 fun v hv=>hn (List.mem_map.2 ⟨(k,v),hv,rfl⟩)
   rw [hk] at this; cases this
theorem sorted_nat {L':List Int} (hp:∀k∈L',0≤k) (hn:L'.Nodup) (hs:L'.Pairwise (· ≤ ·)):(L'.map Int.toNat).Nodup∧∀(k:Nat),k∈L'.map Int.toNat↔(k:Int)∈L':=by
 constructor
 ·refine List.pairwise_map.2 (hn.imp_of_mem fun {a b} ha hb hne e=>hne ?_)
  have:=hp a ha; have:=hp b hb
  omega
 ·intro k
  constructor
  ·intro h
   obtain ⟨j,hj,rfl⟩:=List.mem_map.1 h
   have:=hp j hj
   rw [Int.toNat_of_nonneg this]; exact hj
  ·intro h
   exact List.mem_map.2 ⟨_,h,Int.toNat_natCast k⟩
end Go.Proofs.YtdccfkffabngjaaGreat
set_option linter.unusedSimpArgs false
set_option linter.unusedVariables false
namespace Go.Proofs.YtdccfkffabngjaaGreat
open Go.Vc

def cntZ (cl:List Int) (k:Nat):Nat:=cl.count (k:Int)
def Inr (g:Gm) (cl:List Int):Prop:=∀k∈cl,0≤k∧k<g.room
structure Asked (g:Gm) (by_:Int) (cl:List Int) (B:List UInt8) (ks bs:List Nat):Prop where
 by1:by_=1∨by_ = -1
 inr:Inr g cl
 mem:∀k,k∈ks↔(k:Int)∈cl
 bnd:bs.Nodup
 bmem:∀i,i∈bs↔∃k∈ks,k/g.n=i
 ad:Adds g by_ (cntZ cl) ks B
theorem Gm.cnt_lt {g:Gm} (B:List UInt8) (k:Nat):g.cnt B k<2^g.w:=by
 unfold Gm.cnt
 split
 ·exact Nat.pow_pos omg
 ·exact Vc.cnt_lt _ _ _
theorem asked_of {g:Gm} {x:Hd} {B:List UInt8} {by_:Int} {cl ks bs:List Int} (kk:g.ok) (I:Img g x B) (hby:by_=1∨by_ = -1) (hin:Inr g cl) (hmem:∀k,k∈ks↔k∈cl) (hnd:ks.Nodup) (hsk:ks.Pairwise (· ≤ ·)) (hmb:∀i,i∈bs↔∃k∈ks,k/((g.n:Nat):Int)=i) (hndb:bs.Nodup) (hsb:bs.Pairwise (· ≤ ·))
 (hfit1:by_=1→∀k∈ks,g.cnt B k.toNat+cl.count k<2^g.w) (hfit2:by_ = -1→∀k∈ks,cl.count k≤g.cnt B k.toNat)
 (hroom:by_=1→Inr g cl→∀k:Nat,(k:Int)∈cl→g.word B (k/g.n)=0→g.pl (k/g.n)+g.c≤268435456∧k%g.n≠0) (hcov:by_ = -1→∀k:Nat,(k:Int)∈cl→g.hold B k→cntZ cl k<g.cnt B k) :
 Asked g by_ cl B (ks.map Int.toNat) (bs.map Int.toNat)∧(∀i∈bs,0≤i):=by
 have hn:=kk.n64
 have hk0:∀k∈ks,0≤k:=fun k hk=>(hin k ((hmem k).1 hk)).1
 have hb0:∀i∈bs,0≤i:=fun i hi=>by
  obtain ⟨k,hk,rfl⟩:=(hmb i).1 hi
  exact Int.ediv_nonneg (hk0 k hk) omg
 obtain ⟨n1,m1⟩:=sorted_nat hk0 hnd hsk
 obtain ⟨n2,m2⟩:=sorted_nat hb0 hndb hsb
 have fitA:∀k∈ks.map Int.toNat,0≤((g.cnt B k:Nat):Int)+by_*(cntZ cl k:Nat)∧((g.cnt B k:Nat):Int)+by_*(cntZ cl k:Nat)<(2^g.w:Nat):=fun k hk=>by
  have hk1:=(m1 k).1 hk
  have hlt:=Gm.cnt_lt (g:=g) B k
  generalize 2^g.w=W at *
  rcases hby with rfl|rfl
  ·have:=hfit1 rfl _ hk1
   rw [Int.toNat_natCast] at this
   unfold cntZ
   omega
  ·have:=hfit2 rfl _ hk1
   rw [Int.toNat_natCast] at this
   unfold cntZ
   omega
 refine ⟨⟨hby,hin,fun k=>by rw [m1,hmem],n2,fun i => ?_,⟨n1,fun k hk => ?_,fun k hk hw => ?_,fitA,fun k hk hh => ?_⟩⟩,hb0⟩
 ·rw [m2,hmb]
  constructor
  ·rintro ⟨k,hk,he⟩
   have:=hk0 k hk
   refine ⟨k.toNat,List.mem_map.2 ⟨k,hk,rfl⟩,?_⟩
   have h1:((k.toNat:Nat):Int)/((g.n:Nat):Int)=(i:Int):=by rw [Int.toNat_of_nonneg this]; exact he
   rw [←Int.natCast_ediv] at h1
   exact_mod_cast h1
  ·rintro ⟨k,hk,he⟩
   refine ⟨(k:Int),(m1 k).1 hk,?_⟩
   rw [←Int.natCast_ediv,he]
 ·have h1:=(hin _ ((hmem _).1 ((m1 k).1 hk))).2
  rw [Nat.div_lt_iff_lt_mul omg]
  have:k<g.room:=by omega
  exact this
 ·have hkc:=(hmem _).1 ((m1 k).1 hk)
  rcases hby with rfl|rfl
  ·exact hroom rfl hin k hkc hw
  ·exfalso
   have h1:=(fitA k hk).1
   have h2:g.cnt B k=0:=by unfold Gm.cnt; rw [if_pos hw]
   have h3:0<cntZ cl k:=List.count_pos_iff.2 hkc
   rw [h2] at h1
   omega
 ·have hkc:=(hmem _).1 ((m1 k).1 hk)
  rcases hby with rfl|rfl
  ·have:=I.cov k hh
   omega
  ·have:=hcov rfl k hkc hh
   omega
theorem addB_snoc {g:Gm} {by_:Int} {T:Nat→Nat} {i k:Nat} {ks:List Nat} {b:List UInt8}:addB g by_ T i (ks++[k]) b=if k/g.n=i then setC (addB g by_ T i ks b) g.w (k%g.n) (((Vc.cnt (addB g by_ T i ks b) g.w (k%g.n):Nat):Int)+by_*(T k:Nat)).toNat else addB g by_ T i ks b:=by
 unfold addB
 rw [List.foldl_append]; rfl
theorem Mid.turn {g:Gm} {x:Hd} {by_:Int} {T:Nat→Nat} {ks:List Nat} {B:List UInt8} {D:List Nat} {i:Nat} {B':List UInt8} (kk:g.ok) (Ad:Adds g by_ T ks B) (M:Mid g x by_ T ks B D i B') (hi:i<g.m) (hD:i∉D) {j:Nat} (hj:j<ks.length) (hq:ks[j]/g.n=i) :
 Vc.cnt (addB g by_ T i (ks.take j) (g.blk B' i)) g.w (ks[j]%g.n)=g.cnt B ks[j]:=by
 have hl:=blk_len M.img hi M.wi
 have hcb:∀q,q/g.n=i→Vc.cnt (g.blk B' i) g.w (q%g.n)=g.base B q:=fun q hq=>by
  have:=M.cnt q (by rw [hq]; exact hi)
  have h0:¬q/g.n∈D:=by rw [hq]; exact hD
  rw [if_neg h0,if_pos hq] at this
  have h2:g.cnt B' q=g.base B q:=by exact_mod_cast this
  unfold Gm.cnt at h2
  rw [hq,if_neg M.wi] at h2
  exact h2
 have hbase:∀q,q∈ks→g.base B q=g.cnt B q:=fun q hq=>by
  unfold Gm.base
  rw [if_neg]
  rintro ⟨h1,h2⟩
  exact (Ad.room q hq h1).2 h2
 have hmem:=List.getElem_mem hj
 have hno:ks[j]∉ks.take j:=fun h=>by
  obtain ⟨t,ht,he⟩:=List.mem_iff_getElem.1 h
  rw [List.getElem_take] at he
  rw [List.length_take] at ht
  have:=List.pairwise_iff_getElem.1 Ad.nd t j omg hj omg
  exact this he
 have:=addB_cnt kk (by_:=by_) (T:=T) (i:=i) (ks.take j) (g.blk B' i) (Ad.nd.sublist (List.take_sublist _ _)) hl (fun q hq hqi=>by
  rw [hcb q hqi,hbase q (List.mem_of_mem_take hq)]; exact Ad.fit q (List.mem_of_mem_take hq)) ks[j] hq
 rw [if_neg hno,hcb _ hq,hbase _ hmem] at this
 have h2:((Vc.cnt (addB g by_ T i (ks.take j) (g.blk B' i)) g.w (ks[j]%g.n):Nat):Int)=((g.cnt B ks[j]:Nat):Int):=by rw [this]; omega
 exact_mod_cast h2
theorem nodup_sub:∀(l m:List Nat),l.Nodup→(∀x∈l,x∈m)→l.length≤m.length
 | [],_,_,_=>Nat.zero_le _
 | a::l,m,hn,hs=>by
  have hc:=List.nodup_cons.1 hn
  have ha:=hs a List.mem_cons_self
  have:=nodup_sub l (m.erase a) hc.2 (fun x hx=>by
   have hne:x≠a:=fun e=>by rw [e] at hx; exact hc.1 hx
   exact (List.mem_erase_of_ne hne).2 (hs x (List.mem_cons_of_mem _ hx)))
  rw [List.length_erase_of_mem ha] at this
  have:=List.length_pos_of_mem ha
  rw [List.length_cons]; omega
theorem Asked.few {g:Gm} {by_:Int} {cl:List Int} {B:List UInt8} {ks bs:List Nat} (Q:Asked g by_ cl B ks bs):bs.length≤cl.length:=by
 have:=nodup_sub bs (cl.map fun k=>k.toNat/g.n) Q.bnd (fun i hi=>by
  obtain ⟨k,hk,rfl⟩:=(Q.bmem i).1 hi
  exact List.mem_map.2 ⟨(k:Int),(Q.mem k).1 hk,by rw [Int.toNat_natCast]⟩)
 rw [List.length_map] at this
 exact this
theorem Asked.all {g:Gm} {x:Hd} {by_:Int} {cl:List Int} {p:Fs} {ks bs:List Nat} (kk:g.ok) (o:p.f.ok) (I:Img g x p.f.now) (Q:Asked g by_ cl p.f.now ks bs) :
 Stp1 p (addF g by_ (cntZ cl) ks bs p).1 (cl.length*(5+g.c/512))∧(p.fates=[]→(addF g by_ (cntZ cl) ks bs p).2=0)∧((addF g by_ (cntZ cl) ks bs p).2=0→∃D',(∀i,i∈D'↔i∈bs)∧After g x by_ (cntZ cl) ks p.f.now D' (addF g by_ (cntZ cl) ks bs p).1.f.now):=by
 obtain ⟨h1,h2,h3⟩:=addF_all kk Q.ad bs [] p o (.zero I) Q.bnd (fun i hi=>by
  obtain ⟨k,hk,he⟩:=(Q.bmem i).1 hi
  exact ⟨List.not_mem_nil,he▸Q.ad.lt k hk,k,hk,he⟩)
 refine ⟨h1.mono (Nat.mul_le_mul_right _ Q.few),h2,fun h => ?_⟩
 obtain ⟨D',h4,h5⟩:=h3 h
 exact ⟨D',fun i=>by rw [h4]; simp,h5⟩
end Go.Proofs.YtdccfkffabngjaaGreat

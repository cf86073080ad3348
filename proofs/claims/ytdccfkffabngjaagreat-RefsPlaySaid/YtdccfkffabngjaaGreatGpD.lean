/- Counts: reading,writing and adding,as a whole; the first run of counts that are 0. Clusters and their places. Contracts of layer 1: numbers. Contracts of layer 1: texts,noughts,fields. Contracts of layer 1's answers: texts; fields put behind one another. Layer 1: the chapter's rows. Tables: names,places,single rows. Tables: snapshots that may be,and their bytes. Heads: small parts. Chains of truth values without splits: a guarded value is told by `gv`. Heads: what may be. Tables: a list of snapshots as bytes. Tables: the reference's bytes of a list; two lists compared. Tables: reading a list off bytes. -/
import Derived.Test.YtdccfkffabngjaaGreatGpC
import Derived.Test.YtdccfkffabngjaaGreatNice
import Derived.Test.YtdccfkffabngjaaGreatFacts
import Derived.Test.YtdccfkffabngjaaGreatBytes
import Derived.Test.YtdccfkffabngjaaGreatGpA
import Derived.Test.YtdccfkffabngjaaGreatCnt
import Derived.Test.YtdccfkffabngjaaGreatNiceH
import Derived.Test.YtdccfkffabngjaaGreatVcRow
import Derived.Test.YtdccfkffabngjaaGreatOpen
set_option linter.unusedSimpArgs false
set_option linter.unusedVariables false
set_option maxRecDepth 20000
namespace Go.Proofs.YtdccfkffabngjaaGreat
open Go.Vc
variable {K:VP} {h:Heap}

def getC (l:List UInt8) (o i:Int):Nat:=if askE l.length o i=0 then cnt l (wd o) i.toNat else 0
theorem askE_get {l:List UInt8} {o i:Int} (e:askE l.length o i=0):∃n:Nat,i=n∧wd o≠0∧n*wd o+wd o≤8*l.length∧getC l o n=cnt l (wd o) n:=by
 obtain ⟨n,rfl,h1,h2⟩:=askE_zero e
 exact ⟨n,rfl,h1,h2,by unfold getC; rw [if_pos e,Int.toNat_natCast]⟩
theorem two64 {w x:Nat} (hw:w≤64) (hx:x<2^w):x<18446744073709551616:=Nat.lt_of_lt_of_le hx (Nat.pow_le_pow_right (show 0<2 by omega) hw)

theorem CGet_c {o i:Int} {v:Value} {l:List UInt8} (hB:Bytes h v l) (hl:l.length<1000000000) (H:∀h',Ext h h'→K (.tuple #[.int .u64 (getC l o i),.int .i64 (askE l.length o i)]) h') :
 CallsH Tryz.prog 45 #[v,.int .i64 o,.int .i64 i] h K ⟨⟩:=by
 refine n45_calls ?_
 unfold n45; try delta vF vG vC vD vJ vV vk vt
 refine Asked_c hB hl fun h1 e1 => ?_
 by_cases ha:askE l.length o i=0
 ·obtain ⟨n,rfl,h2,h3,h4⟩:=askE_get ha
  rw [ha,h4] at H
  simp (disch:=omega) [ha]
  refine cget_c (hB.ext e1) hl (wok_wd h2) h3 ?_
  exact H _ e1
 ·have hg:getC l o i=0:=by unfold getC; rw [if_neg ha]
  rw [hg] at H
  simp (disch:=omega) [ha]
  exact H _ e1

def setCE (len:Nat) (o i:Int) (x:Nat):Int:=if askE len o i=0 then (if x<2^wd o then 0 else 3) else askE len o i
theorem CSet_c {B m c:Nat} {o i:Int} {x:Nat} {l z:List UInt8} (hO:OwnS 1 h (.slice (some ⟨B,0,none⟩) m c) ((l++z).map byteV)) (hl:l.length<1000000000) (hx:x<18446744073709551616)
 (H:∀h',Ext h h'→setCE l.length o i x≠0→K (.int .i64 (setCE l.length o i x)) h')
 (H0:∀h1 h',Ext h h1→setCE l.length o i x=0→OwnS 1 h' (.slice (some ⟨B,0,none⟩) m c) ((setC l (wd o) i.toNat x++z).map byteV)→Mod (· = B) h1 h'→K (.int .i64 0) h') :
 CallsH Tryz.prog 100 #[.slice (some ⟨B,0,none⟩) l.length c,.int .i64 o,.int .i64 i,.int .u64 x] h K ⟨⟩:=by
 have hB:=(hO.pre (k:=l.length) sM).1
 rw [List.take_left' rfl] at hB
 refine n100_calls ?_
 unfold n100; try delta vF vG vC vD vJ vV vk vt
 refine Asked_c hB hl fun h1 e1 => ?_
 by_cases ha:askE l.length o i=0
 ·obtain ⟨n,rfl,h2,h3,h4⟩:=askE_get ha
  have hw:=wok_pos (wok_wd h2)
  unfold setCE at H H0
  rw [if_pos ha] at H H0
  simp (disch:=omega) [ha]
  refine Most_c fun h5 e5 => ?_
  have hpos:=Nat.pow_pos (n:=wd o) (show 0<2 by omega)
  have e15:=e1.trans e5
  by_cases hxm:x<2^wd o
  ·rw [if_pos hxm] at H H0
   generalize hM:2^wd o-1=M at *
   simp (disch:=omega)
   refine cset_c (hO.ext e15) hl (wok_wd h2) h3 hxm fun h6 hO6 hM6 => ?_
   exact H0 _ _ e15 rfl hO6 hM6
  ·rw [if_neg hxm] at H H0
   generalize hM:2^wd o-1=M at *
   simp (disch:=omega)
   exact H _ e15 omg
 ·unfold setCE at H H0
  rw [if_neg ha] at H H0
  simp (disch:=omega) [ha]
  exact H _ e1 ha

theorem Fits_c {room n:Int} (H:K (.bool (decide (n≤room))) h):CallsH Tryz.prog 107 #[.int .u64 room,.int .u64 n] h K ⟨⟩:=by
 refine n107_calls ?_
 unfold n107; try delta vF vG vC vD vJ vV vk vt
 by_cases hn:n≤room
 ·simp (disch:=omega) [hn]; simpa [hn] using H
 ·simp (disch:=omega) [hn]; simpa [hn] using H
theorem InvokeH_0_2 {P:Go.Program} {g:Go.FuncId} {a b:Go.Value} (hc:callOk P g=true) (H:CallsH P g #[a,b] h K ⟨⟩):InvokeH P (.func (.func g) #[] #[]) #[a,b] h K ⟨⟩:=InvokeH_func hc (by simpa using H)

def addCE (l:List UInt8) (o i b:Int):Int:=if askE l.length o i=0 then (if 0≤(getC l o i:Int)+b∧(getC l o i:Int)+b<(2^wd o:Nat) then 0 else 3) else askE l.length o i

set_option maxHeartbeats 1000000 in
theorem CAdd_c {B m c:Nat} {o i b:Int} {l z:List UInt8} (hO:OwnS 1 h (.slice (some ⟨B,0,none⟩) m c) ((l++z).map byteV)) (hl:l.length<1000000000) (hb : -9223372036854775808≤b∧b<9223372036854775808)
 (H:∀h',Ext h h'→addCE l o i b≠0→K (.tuple #[.int .u64 0,.int .i64 (addCE l o i b)]) h')
 (H0:∀h1 h',Ext h h1→addCE l o i b=0→askE l.length o i=0→((getC l o i:Int)+b).toNat<2^wd o→0≤(getC l o i:Int)+b→OwnS 1 h' (.slice (some ⟨B,0,none⟩) m c) ((setC l (wd o) i.toNat ((getC l o i:Int)+b).toNat++z).map byteV)→Mod (· = B) h1 h'→K (.tuple #[.int .u64 ((getC l o i:Int)+b),.int .i64 0]) h') :
 CallsH Tryz.prog 52 #[.slice (some ⟨B,0,none⟩) l.length c,.int .i64 o,.int .i64 i,.int .i64 b] h K ⟨⟩:=by
 have hB:=(hO.pre (k:=l.length) sM).1
 rw [List.take_left' rfl] at hB
 refine n52_calls ?_
 unfold n52; try delta vF vG vC vD vJ vV vk vt
 refine Asked_c hB hl fun h1 e1 => ?_
 by_cases ha:askE l.length o i=0
 ·obtain ⟨n,rfl,h2,h3,h4⟩:=askE_get ha
  have hw:=wok_pos (wok_wd h2)
  unfold addCE at H H0
  rw [if_pos ha] at H H0
  have hlt:=cnt_lt l (wd o) n
  rw [←h4] at hlt
  generalize hX:getC l o n=X at *
  have hX64:=two64 hw.2 hlt
  have hpos:=Nat.pow_pos (n:=wd o) (show 0<2 by omega)
  have h264:=Nat.pow_le_pow_right (show 0<2 by omega) hw.2
  have hsh:(18446744073709551615:Int)/2^(64-wd o)=((2^wd o:Nat):Int)-1:=by
   rcases wd_ok h2 with (e|e|e)|⟨r,e,r1,r2⟩
   ·rw [e]; decide
   ·rw [e]; decide
   ·rw [e]; decide
   ·rw [e]
    have:r=1∨r=2∨r=3∨r=4∨r=5∨r=6∨r=7∨r=8:=by omega
    rcases this with rfl|rfl|rfl|rfl|rfl|rfl|rfl|rfl<;>decide
  generalize hP:2^wd o=Q at *
  have hn1:(18446744073709551615:Int)/2^(64-wd o)=(Q:Int)-1:=hsh
  by_cases hb0:0≤b
  ·by_cases hf:b≤(Q:Int)-1-X
   ·rw [if_pos omg] at H0
    simp (disch:=omega) [ha,Hp_shr_u64,hn1]
    refine cget_c (hB.ext e1) hl (wok_wd h2) h3 ?_
    rw [←h4]
    refine JoinN.mk (JoinN.mk ?_)
    simp (disch:=omega) [hn1]
    refine InvokeH_0_2 kR (Fits_c ?_)
    simp (disch:=omega) [hf]
    rw [show ((X:Int)+b)=(((X:Int)+b).toNat:Nat) by omega]
    refine cset_c (x:=((X:Int)+b).toNat) (hO.ext e1) hl (wok_wd h2) h3 (by rw [hP]; omega) fun h6 hO6 hM6 => ?_
    have:=H0 _ _ e1 rfl ha omg omg (by simpa using hO6) hM6
    rwa [show ((X:Int)+b)=(((X:Int)+b).toNat:Nat) by omega] at this
   ·rw [if_neg omg] at H
    simp (disch:=omega) [ha,Hp_shr_u64,hn1]
    refine cget_c (hB.ext e1) hl (wok_wd h2) h3 ?_
    rw [←h4]
    refine JoinN.mk (JoinN.mk ?_)
    simp (disch:=omega) [hn1]
    refine InvokeH_0_2 kR (Fits_c ?_)
    simp (disch:=omega) [hf]
    exact H _ e1 omg
  ·have hcv:IntKind.u64.wrap b=b+18446744073709551616:=by rw [wrap_u64_eq]; omega
   have hng:IntKind.u64.wrap (-(b+18446744073709551616)) = -b:=by rw [wrap_u64_eq]; omega
   by_cases hf : -b≤X
   ·rw [if_pos omg] at H0
    simp (disch:=omega) [ha,Hp_shr_u64,hn1]
    refine cget_c (hB.ext e1) hl (wok_wd h2) h3 ?_
    rw [←h4]
    refine JoinN.mk (JoinN.mk ?_)
    simp (disch:=omega) [hn1,Tryz.cvw2_44,hcv,hng]
    refine InvokeH_0_2 kR (Fits_c ?_)
    simp (disch:=omega) [hf,Tryz.cvw2_44,hcv,hng]
    rw [show ((X:Int)+b)=(((X:Int)+b).toNat:Nat) by omega]
    refine cset_c (x:=((X:Int)+b).toNat) (hO.ext e1) hl (wok_wd h2) h3 (by rw [hP]; omega) fun h6 hO6 hM6 => ?_
    have:=H0 _ _ e1 rfl ha omg omg (by simpa using hO6) hM6
    rwa [show ((X:Int)+b)=(((X:Int)+b).toNat:Nat) by omega] at this
   ·rw [if_neg omg] at H
    simp (disch:=omega) [ha,Hp_shr_u64,hn1]
    refine cget_c (hB.ext e1) hl (wok_wd h2) h3 ?_
    rw [←h4]
    refine JoinN.mk (JoinN.mk ?_)
    simp (disch:=omega) [hn1,Tryz.cvw2_44,hcv,hng]
    refine InvokeH_0_2 kR (Fits_c ?_)
    simp (disch:=omega) [hf]
    exact H _ e1 omg
 ·unfold addCE at H H0
  rw [if_neg ha] at H H0
  simp (disch:=omega) [ha]
  exact H _ e1 ha

def freeP (l:List UInt8) (w n s:Nat):Prop:=∀j,j<n→cnt l w (s+j)=0
def freeX (l:List UInt8) (o:Int) (f n s:Nat):Prop:=f≤s∧s+n≤many l.length o∧freeP l (wd o) n s∧∀s',f≤s'→s'<s→¬freeP l (wd o) n s'
open Classical in
noncomputable def freeR (l:List UInt8) (o f n:Int):Nat×Int :=
 if wd o=0∨n<1 then (0,2) else if f<0∨(many l.length o:Int)<f then (0,4) else if hx:∃s,freeX l o f.toNat n.toNat s then (hx.choose,0) else (0,7)
end Go.Proofs.YtdccfkffabngjaaGreat
set_option linter.unusedSimpArgs false
set_option linter.unusedVariables false
set_option maxRecDepth 20000
namespace Go.Proofs.YtdccfkffabngjaaGreat
open Go.Vc
variable {K:VP} {h:Heap}

theorem clus {b:Int} (h0:9≤b) (h1:b≤16):(512:Int)≤2^b.toNat∧(2:Int)^b.toNat≤65536:=by
 have:b=9∨b=10∨b=11∨b=12∨b=13∨b=14∨b=15∨b=16:=by omega
 rcases this with rfl|rfl|rfl|rfl|rfl|rfl|rfl|rfl<;>decide
theorem Cluster_c {b:Int} (h0:0≤b) (h1:b≤62) (H:K (.int .i64 ((2:Int)^b.toNat)) h):CallsH Tryz.prog 36 #[.int .i64 b] h K ⟨⟩:=by
 refine n36_calls ?_
 unfold n36; try delta vF vG vC vD vJ vV vk vt
 refine loop2 (fun c i h'=>h'=h∧∃n:Nat,(n:Int)≤b∧i = .int .i64 n∧c = .int .i64 ((2:Int)^n)) (fun c i _=>(b-(match i with | .int _ n=>n|_=>0)).toNat) ⟨rfl,0,by omega,rfl,rfl⟩ ?_
 rintro c i h' ⟨rfl,n,hn,rfl,rfl⟩
 simp (disch:=omega)
 refine ⟨fun hlt => ?_,fun hlt => ?_⟩
 ·have hp:(2:Int)^(n+1)≤2^62:=by
   exact_mod_cast Nat.pow_le_pow_right (n:=2) omg (show n+1≤62 by omega)
  have hp0:(0:Int)<2^n:=Int.pow_pos omg
  rw [Int.pow_succ] at hp
  simp (disch:=omega)
  refine ⟨⟨n+1,by omega,by simp,?_⟩,by omega⟩
  rw [Int.pow_succ,Int.mul_comm]
 ·simp (disch:=omega)
  have:b=n:=by omega
  subst this
  simpa using H

theorem Place_c {p b:Int} (h0:9≤b) (h1:b≤16) (ht:0<p∧p≤268435456∧p%2^b.toNat=0→K (.bool true) h) (hf:¬(0<p∧p≤268435456∧p%2^b.toNat=0)→K (.bool false) h):CallsH Tryz.prog 120 #[.int .i64 p,.int .i64 b] h K ⟨⟩:=by
 refine n120_calls ?_
 unfold n120; try delta vF vG vC vD vJ vV vk vt
 have hc:=clus h0 h1
 ((try (simp (disch:=omega))); repeat' ((first|(refine Split.mk (fun _ => ?_) (fun _ => ?_))|(refine Cluster_c omg omg ?_))<;>((try (simp (disch:=omega))))))
 all_goals first|exact ht omg|exact hf omg
end Go.Proofs.YtdccfkffabngjaaGreat
set_option linter.unusedSimpArgs false
set_option linter.unusedVariables false
set_option maxRecDepth 20000
namespace Go.Proofs.YtdccfkffabngjaaGreat
open Go.Vc
variable {K:VP} {h:Heap}

theorem lies_c {v:Value} {l:List UInt8} {p n:Int} (hB:Bytes h v l) (hl:l.length<4611686018427387904) (hn : -4611686018427387904<n)
 (ht:0≤p∧n≤l.length∧p≤l.length-n→K (.bool true) h) (hf:¬(0≤p∧n≤l.length∧p≤l.length-n)→K (.bool false) h):CallsH Tryz.prog 125 #[v,.int .i64 p,.int .i64 n] h K ⟨⟩:=by
 refine n125_calls ?_
 unfold n125; try delta vF vG vC vD vJ vV vk vt
 obtain ⟨o,c,rfl⟩:=hB.form
 ((try (simp (disch:=omega))); repeat' ((first|(refine Split.mk (fun _ => ?_) (fun _ => ?_)))<;>((try (simp (disch:=omega))))))
 all_goals first|exact ht omg|exact hf omg

def getR (l:List UInt8) (p n:Int):Nat×Int :=
 if n<1∨8<n then (0,2) else if 0≤p∧n≤l.length∧p≤l.length-n then (leN ((l.drop p.toNat).take n.toNat),0) else (0,4)

theorem Get_c {v:Value} {l:List UInt8} {p n:Int} (hB:Bytes h v l) (hl:l.length<4611686018427387904)
 (H:K (.tuple #[.int .u64 (getR l p n).1,.int .i64 (getR l p n).2]) h):CallsH Tryz.prog 85 #[v,.int .i64 p,.int .i64 n] h K ⟨⟩:=by
 refine n85_calls ?_
 unfold n85; try delta vF vG vC vD vJ vV vk vt
 unfold getR at H
 by_cases hn:n<1∨8<n
 ·rw [if_pos hn] at H
  ((try (simp (disch:=omega))); repeat' ((first|(refine Split.mk (fun _ => ?_) (fun _ => ?_)))<;>((try (simp (disch:=omega))))))
  all_goals exact H
 ·rw [if_neg hn] at H
  simp (disch:=omega)
  refine lies_c hB hl omg (fun hp => ?_) (fun hp => ?_)
  ·rw [if_pos hp] at H
   obtain ⟨p',rfl⟩:=Int.eq_ofNat_of_zero_le hp.1
   obtain ⟨n',rfl⟩:=Int.eq_ofNat_of_zero_le (show 0≤n by omega)
   obtain ⟨o,c,rfl⟩:=hB.form
   obtain ⟨a,rfl,-,hc,hA⟩:=hB.at omg
   simp (disch:=omega)
   refine loop2 (fun x i h'=>h'=h∧∃k:Nat,k≤n'∧i = .int .i64 ((k:Int)-1)∧x = .int .u64 (leN ((l.drop (p'+k)).take (n'-k)):Nat)) (fun x i _=>(match i with | .int _ n=>(n+1).toNat|_=>0)) ⟨rfl,n',by omega,rfl,by simp [leN]⟩ ?_
   rintro x i h' ⟨rfl,k,hk,rfl,rfl⟩
   by_cases hk0:k=0
   ·subst hk0
    simp (disch:=omega)
    simpa using H
   ·obtain ⟨m,rfl⟩:∃m,k=m+1:=⟨k-1,by omega⟩
    have hs:=leN_step (l:=l) (p:=p') (n:=n') (k:=m+1) omg hk omg
    have hb:=leN_lt ((l.drop (p'+(m+1))).take (n'-(m+1)))
    have hb7:leN ((l.drop (p'+(m+1))).take (n'-(m+1)))<72057594037927936:=Nat.lt_of_lt_of_le hb (Nat.pow_le_pow_right (n:=256) omg (show _≤7 by simp; omega))
    have hA':=hA (p'+m) omg
    have hbb:=byte_lt (l[p'+m]'omg)
    simp only [Nat.add_sub_cancel] at hs
    generalize leN ((l.drop (p'+(m+1))).take (n'-(m+1)))=X at *
    generalize l[p'+m]'omg=b at *
    simp (disch:=omega) [Hp_shl_u64,wrap_u64,hA',Hp_or_high 8]
    exact ⟨m,by omega,by omega,by rw [hs]; omega⟩
  ·rw [if_neg hp] at H
   simp (disch:=omega)
   exact H

theorem Value_c {v:Value} {l:List UInt8} (hB:Bytes h v l) (hl:l.length≤8) (H:K (.int .u64 (leN l:Nat)) h):CallsH Tryz.prog 55 #[v] h K ⟨⟩:=by
 refine n55_calls ?_
 unfold n55; try delta vF vG vC vD vJ vV vk vt
 obtain ⟨o,c,rfl⟩:=hB.form
 simp (disch:=omega)
 refine loop2 (fun x i h'=>h'=h∧∃k:Nat,k≤l.length∧i = .int .i64 ((k:Int)-1)∧x = .int .u64 (leN (l.drop k):Nat)) (fun x i _=>(match i with | .int _ n=>(n+1).toNat|_=>0)) ⟨rfl,l.length,by omega,rfl,by simp [leN]⟩ ?_
 rintro x i h' ⟨rfl,k,hk,rfl,rfl⟩
 by_cases hk0:k=0
 ·subst hk0
  simp (disch:=omega)
  simpa using H
 ·obtain ⟨m,rfl⟩:∃m,k=m+1:=⟨k-1,by omega⟩
  obtain ⟨a,rfl,-,hc,hA⟩:=hB.at omg
  have hA':=hA m omg
  have hs:leN (l.drop m)=(l[m]'omg).toNat+256*leN (l.drop (m+1)):=by
   rw [List.drop_eq_getElem_cons (show m<l.length by omega),leN]
  have hb:=leN_lt8 (l:=l.drop m) (by simp; omega)
  have hbb:=byte_lt (l[m]'omg)
  generalize leN (l.drop (m+1))=X at *
  generalize l[m]'omg=b at *
  simp (disch:=omega) [hA']
  exact ⟨m,by omega,by omega,by rw [hs]; omega⟩

theorem Number_c {x:Nat} {n:Int} (hx:x<18446744073709551616) (hn:n<1000000)
 (H:∀v' h',OwnS 1 h' v' ((leB n.toNat x).map byteV)→Ext h h'→(∀b,blkV v'=some b→h.size≤b)→K v' h'):CallsH Tryz.prog 76 #[.int .u64 x,.int .i64 n] h K ⟨⟩:=by
 refine n76_calls ?_
 unfold n76; try delta vF vG vC vD vJ vV vk vt
 refine loop3 (fun x' o i h'=>∃k:Nat,(k:Int)≤max n 0∧i = .int .i64 k∧x' = .int .u64 (x/256^k:Nat)∧OwnS 1 h' o ((leB k x).map byteV)∧Ext h h'∧(∀b,blkV o=some b→h.size≤b))
  (fun x o i _=>(match i with | .int _ k=>(n-k).toNat|_=>0)) ⟨0,by omega,rfl,by simp,.nil,.refl _,fun b hb=>by cases hb⟩ ?_
 rintro x' o i h' ⟨k,hk,rfl,rfl,hO,hE,hF⟩
 have hk2:x/256^k<18446744073709551616:=Nat.lt_of_le_of_lt (Nat.div_le_self _ _) hx
 by_cases hkn:(k:Int)<n
 ·generalize hX:x/256^k=X at *
  simp (disch:=omega)
  refine Hp_append (e:=5) (s:=1) (by_:=1) (n:=k) (k:=1) kR kR (hO.ext (push_ext (.refl _))) sM omg (.inr (.inl ⟨_,_,rfl,rfl,Seg_new rfl⟩)) (by simp [one]) omg omg ?_
  intro v' h'' hO' hM hF' _
  simp (disch:=omega)
  refine ⟨⟨k+1,by omega,by simp,?_,?_,?_,?_⟩,by omega⟩
  ·have e:((x/256^(k+1):Nat):Int)=(X:Int)/256:=by rw [Nat.pow_succ,←Nat.div_div_eq_div_mul,hX]; omega
   simpa using e.symm
  ·rw [leB_snoc,List.map_append,hX]
   have e:byteV (UInt8.ofNat (X%256)) = .int .u8 ((X:Int)%256):=by simp [byteV]
   simp only [List.map_cons,List.map_nil,e]; exact hO'
  ·exact hM.ext_from (push_ext hE) (fun b hb hb'=>by have:=hF b hb'; omega)
  ·intro b hb
   rcases hF' b hb with hb|hb
   ·exact hF b hb
   ·have:=hE.size; simp at hb; omega
 ·simp (disch:=omega)
  have:k=n.toNat:=by omega
  subst this
  exact H _ _ hO hE hF

def setE (len:Nat) (p n:Int) (x:Nat):Int :=
 if n<1∨8<n then 2 else if 0≤p∧n≤len∧p≤len-n then (if 256^n.toNat≤x then 3 else 0) else 4

theorem pow256 (n:Nat):256^n=2^(8*n):=by rw [show 256=2^8 by decide,←Nat.pow_mul]

theorem Set_c {v:Value} {l:List UInt8} {p n:Int} {x:Nat} (hB:Bytes h v l) (hl:l.length<4611686018427387904) (hx:x<18446744073709551616)
 (hf:∀a n c,v = .slice (some a) n c→∀i,i<l.length→hfrozen h (elt a i)=false)
 (H:setE l.length p n x≠0→K (.int .i64 (setE l.length p n x)) h)
 (H0:setE l.length p n x=0→∀a c,v = .slice (some a) l.length c→p.toNat+n.toNat≤l.length→0≤p→1≤n→K (.int .i64 0) (hwrite h a p.toNat ((leB n.toNat x).map byteV))):CallsH Tryz.prog 101 #[v,.int .i64 p,.int .i64 n,.int .u64 x] h K ⟨⟩:=by
 by_cases hn:n<1∨8<n
 ·refine n101_calls ?_
  unfold n101; try delta vF vG vC vD vJ vV vk vt
  unfold setE at H H0
  rw [if_pos hn] at H
  ((try (simp (disch:=omega))); repeat' ((first|(refine Split.mk (fun _ => ?_) (fun _ => ?_)))<;>((try (simp (disch:=omega))))))
  all_goals exact H dM
 obtain ⟨n',rfl⟩:=Int.eq_ofNat_of_zero_le (show 0≤n by omega)
 by_cases hp:0≤p∧(n':Int)≤l.length∧p≤l.length-n'
 ·obtain ⟨p',rfl⟩:=Int.eq_ofNat_of_zero_le hp.1
  obtain ⟨o,c,rfl⟩:=hB.form
  obtain ⟨a,rfl,-,hc,hA⟩:=hB.at omg
  refine n101_calls ?_
  unfold n101; try delta vF vG vC vD vJ vV vk vt
  unfold setE at H H0
  rw [if_neg hn,if_pos hp] at H H0
  have hfr:=hf a _ _ rfl
  simp only [Int.toNat_natCast] at H H0
  simp (disch:=omega)
  refine lies_c hB hl omg (fun _ => ?_) (fun h=>absurd hp h)
  have hsh:(n':Int)<8→∀y:Nat,(x:Int)/2^(8*n')=0↔x<256^n':=fun _ _=>by
   rw [pow256]
   rw [show (x:Int)/2^(8*n')=((x/2^(8*n'):Nat):Int) by simp]
   rw [Int.natCast_eq_zero,Nat.div_eq_zero_iff]
   have:=Nat.two_pow_pos (8*n')
   omega
  have htn:(8*(n':Int)).toNat=8*n':=by omega
  by_cases hxs:256^n'≤x
  ·rw [if_pos hxs] at H
   have h8:n'<8:=by
    rcases Nat.lt_or_ge n' 8 with h|h
    ·exact h
    ·have:(256:Nat)^8≤256^n':=Nat.pow_le_pow_right omg h
     omega
   have hne:¬(x:Int)/2^(8*n')=0:=fun e=>by
    have:=(hsh omg x).1 e
    omega
   simp (disch:=omega) [Hp_shr_u64,htn,hne]
   exact H dM
  ·rw [if_neg hxs] at H0
   have H0:=H0 rfl a c rfl omg omg omg
   have he:n'<8→(x:Int)/2^(8*n')=0:=fun h8=>(hsh omg x).2 omg
   rcases Nat.lt_or_ge n' 8 with h8|h8
   case' inl=>simp (disch:=omega) [Hp_shr_u64,htn,he h8]
   case' inr=>simp (disch:=omega) [Hp_shr_u64,htn]
   all_goals
    refine loop2 (fun y i h'=>∃k:Nat,k≤n'∧i = .int .i64 k∧y = .int .u64 (x/256^k:Nat)∧h'=hwrite h a p' ((leB k x).map byteV)) (fun y i _=>(match i with | .int _ k=>(n'-k).toNat|_=>0)) ⟨0,by omega,rfl,by simp,rfl⟩ ?_
    rintro y i h' ⟨k,hk,rfl,rfl,rfl⟩
    by_cases hkn:k=n'
    ·subst hkn
     simp (disch:=omega)
     exact H0
    ·have hc1:=hcell_write_out (a:=a) (j:=p'+k) ((leB k x).map byteV) h p' sM
     have hc2:=hA (p'+k) omg
     have hk2:x/256^k<18446744073709551616:=Nat.lt_of_le_of_lt (Nat.div_le_self _ _) hx
     have hsn:=hwrite_snoc a (byteV (UInt8.ofNat (x/256^k%256))) ((leB k x).map byteV) h p'
     have hfz:=hfr (p'+k) omg
     rw [hc2] at hc1
     have e2:x/256^(k+1)=x/256^k/256:=by rw [Nat.pow_succ,←Nat.div_div_eq_div_mul]
     have e3:(leB (k+1) x).map byteV=(leB k x).map byteV++[byteV (UInt8.ofNat (x/256^k%256))]:=by rw [leB_snoc]; simp
     have eb:byteV (UInt8.ofNat (x/256^k%256)) = .int .u8 (((x/256^k:Nat):Int)%256):=by simp [byteV]
     generalize hX:x/256^k=X at *
     simp (disch:=omega) [Tryz.cvw44_5,wrap_u8_eq,hc1,hfrozen_write,hfz,Hp_shr_u64,-Int.natCast_ediv,-Int.natCast_pow]
     refine ⟨⟨k+1,by omega,by simp,by rw [e2]; omega,?_⟩,by omega⟩
     rw [e3,hsn,eb]; simp
 ·refine n101_calls ?_
  unfold n101; try delta vF vG vC vD vJ vV vk vt
  unfold setE at H
  rw [if_neg hn,if_neg hp] at H
  simp (disch:=omega)
  refine lies_c hB hl omg (fun h=>absurd h hp) (fun _ => ?_)
  simp (disch:=omega)
  exact H dM

end Go.Proofs.YtdccfkffabngjaaGreat
set_option linter.unusedSimpArgs false
set_option linter.unusedVariables false
set_option maxRecDepth 20000
namespace Go.Proofs.YtdccfkffabngjaaGreat
open Go.Vc
variable {K:VP} {h:Heap}

def allZ (l:List UInt8):Bool:=l.all (· == 0)

def noughtR (l:List UInt8) (f u:Int):Bool×Int :=
 if f<0∨u<f∨l.length<u then (false,4) else (allZ ((l.take u.toNat).drop f.toNat),0)

theorem allZ_take {l:List UInt8} {k:Nat} (hk:k<l.length) (hz:allZ (l.take k)=true) (h0:l[k]=0):allZ (l.take (k+1))=true:=by
 unfold allZ at *
 rw [List.take_succ_eq_append_getElem hk,List.all_append,hz,h0]; rfl
theorem allZ_false {l:List UInt8} {k:Nat} (hk:k<l.length) (h0:¬l[k]=0):allZ l=false:=by
 unfold allZ
 rw [List.all_eq_false]
 exact ⟨l[k],List.getElem_mem hk,by simpa using h0⟩

theorem Noughts_c {v:Value} {l:List UInt8} {f u:Int} (hB:Bytes h v l) (hl:l.length<4611686018427387904)
 (H:K (.tuple #[.bool (noughtR l f u).1,.int .i64 (noughtR l f u).2]) h):CallsH Tryz.prog 127 #[v,.int .i64 f,.int .i64 u] h K ⟨⟩:=by
 unfold noughtR at H
 by_cases hb:f<0∨u<f∨l.length<u
 ·obtain ⟨o,c,rfl⟩:=hB.form
  refine n127_calls ?_
  unfold n127; try delta vF vG vC vD vJ vV vk vt
  rw [if_pos hb] at H
  ((try (simp (disch:=omega))); repeat' ((first|(refine Split.mk (fun _ => ?_) (fun _ => ?_)))<;>((try (simp (disch:=omega))))))
  all_goals first|exact H|(exfalso; omega)
 ·rw [if_neg hb] at H
  obtain ⟨f',rfl⟩:=Int.eq_ofNat_of_zero_le (show 0≤f by omega)
  obtain ⟨u',rfl⟩:=Int.eq_ofNat_of_zero_le (show 0≤u by omega)
  simp only [Int.toNat_natCast] at H
  rcases hB with ⟨rfl,rfl⟩|⟨a,c,rfl,hc,hA⟩
  ·refine n127_calls ?_
   unfold n127; try delta vF vG vC vD vJ vV vk vt
   simp only [List.length_nil] at hb
   simp (disch:=omega)
   refine JoinN.mk ?_
   simp (disch:=omega)
   refine JoinN.mk ?_
   refine loop2 (fun x i h'=>h'=h∧x = .bool true∧i = .int .i64 0) (fun _ _ _=>0) ⟨rfl,rfl,rfl⟩ ?_
   rintro x i h' ⟨rfl,rfl,rfl⟩
   simp (disch:=omega)
   simpa [allZ] using H
  ·have hA2:=hA.part f' u' c omg omg hc
   have hlen:((l.take u').drop f').length=u'-f':=by simp; omega
   generalize hm:(l.take u').drop f'=m at *
   refine n127_calls ?_
   unfold n127; try delta vF vG vC vD vJ vV vk vt
   simp (disch:=omega)
   refine JoinN.mk ?_
   simp (disch:=omega)
   refine JoinN.mk ?_
   refine loop2 (fun x i h'=>h'=h∧x = .bool true∧∃k:Nat,i = .int .i64 k∧k≤m.length∧allZ (m.take k)=true) (fun _ i _=>match i with | .int _ k=>(m.length-k).toNat|_=>0) ⟨rfl,rfl,0,rfl,by omega,by simp [allZ]⟩ ?_
   rintro x i h' ⟨rfl,rfl,k,rfl,hk,hz⟩
   by_cases hkm:k=m.length
   ·subst hkm
    simp (disch:=omega)
    rw [List.take_length] at hz
    rw [hz] at H
    exact H
   ·have hAk:=hA2 k omg
    by_cases h0:m[k]'omg=0
    ·have hz':=allZ_take omg hz h0
     rw [h0] at hAk
     simp (disch:=omega) [hAk]
     exact ⟨⟨k+1,by simp,by omega,hz'⟩,by omega⟩
    ·have hf:=allZ_false omg h0
     have hne:¬((m[k]'omg).toNat:Int)=0:=fun e=>h0 (UInt8.toNat_inj.1 (by simpa using e))
     rw [hf] at H
     simp (disch:=omega) [hAk,hne]
     exact H

def fieldE (len:Nat) (p m:Int):Int :=
 if m<0∨1048576<m then 2 else if 0≤p∧4+m≤len∧p≤len-(4+m) then 0 else 4

theorem field_c {v:Value} {l:List UInt8} {p m:Int} (hB:Bytes h v l) (hl:l.length<4611686018427387904)
 (H:K (.int .i64 (fieldE l.length p m)) h):CallsH Tryz.prog 126 #[v,.int .i64 p,.int .i64 m] h K ⟨⟩:=by
 refine n126_calls ?_
 unfold n126; try delta vF vG vC vD vJ vV vk vt
 unfold fieldE at H
 by_cases hm:m<0∨1048576<m
 ·rw [if_pos hm] at H
  ((try (simp (disch:=omega))); repeat' ((first|(refine Split.mk (fun _ => ?_) (fun _ => ?_)))<;>((try (simp (disch:=omega))))))
  all_goals exact H
 ·rw [if_neg hm] at H
  simp (disch:=omega)
  refine lies_c hB hl omg (fun hp => ?_) (fun hp => ?_)
  ·rw [if_pos hp] at H
   simp (disch:=omega)
   exact H
  ·rw [if_neg hp] at H
   simp (disch:=omega)
   exact H
def textR (l:List UInt8) (p m:Int):List UInt8×Int :=
 if fieldE l.length p m≠0 then ([],fieldE l.length p m) else
 if m<leN ((l.drop p.toNat).take 4) then ([],110) else
 if allZ ((l.take (p.toNat+4+m.toNat)).drop (p.toNat+4+leN ((l.drop p.toNat).take 4))) then ((l.take (p.toNat+4+leN ((l.drop p.toNat).take 4))).drop (p.toNat+4),0) else ([],110)

theorem fieldE_zero {len:Nat} {p m:Int} (e:fieldE len p m=0):0≤m∧m≤1048576∧0≤p∧4+m≤len∧p≤len-(4+m):=by
 unfold fieldE at e
 split at e
 ·omega
 ·split at e
  ·omega
  ·omega

theorem Text_c {v:Value} {l:List UInt8} {p m:Int} (hB:Bytes h v l) (hl:l.length<4611686018427387904)
 (H:K (.tuple #[str (textR l p m).1,.int .i64 (textR l p m).2]) h):CallsH Tryz.prog 86 #[v,.int .i64 p,.int .i64 m] h K ⟨⟩:=by
 unfold textR at H
 by_cases he:fieldE l.length p m=0
 ·rw [if_neg (by simpa using he)] at H
  have hb:=fieldE_zero he
  obtain ⟨p',rfl⟩:=Int.eq_ofNat_of_zero_le hb.2.2.1
  obtain ⟨m',rfl⟩:=Int.eq_ofNat_of_zero_le hb.1
  simp only [Int.toNat_natCast] at H
  have hg:getR l p' 4=(leN ((l.drop p').take 4),0):=by
   unfold getR
   rw [if_neg omg,if_pos omg]; simp
  have hb0:=leN_lt8 (l:=(l.drop p').take 4) (by simp; omega)
  generalize leN ((l.drop p').take 4)=X at *
  refine n86_calls ?_
  unfold n86; try delta vF vG vC vD vJ vV vk vt
  refine field_c hB hl ?_
  simp (disch:=omega) [he]
  refine Get_c hB hl ?_
  rw [hg]
  by_cases hX:(m':Int)<X
  ·rw [if_pos hX] at H
   simp (disch:=omega)
   exact H
  ·rw [if_neg hX] at H
   simp (disch:=omega)
   refine Noughts_c hB hl ?_
   unfold noughtR
   rw [if_neg omg]
   have e1:((p':Int)+4+m').toNat=p'+4+m':=by omega
   have e2:((p':Int)+4+X).toNat=p'+4+X:=by omega
   have e3:((p':Int)+4).toNat=p'+4:=by omega
   rw [e1,e2]
   cases hz:allZ ((l.take (p'+4+m')).drop (p'+4+X)) with
   | false =>
    rw [hz] at H
    simp (disch:=omega)
    exact H
   | true =>
    rw [hz] at H
    obtain ⟨o,c,rfl⟩:=hB.form
    obtain ⟨a,rfl,-,hc,hA⟩:=hB.at omg
    have hb4:Bytes h (.slice (some (sub a (p'+4) c)) (p'+4+X-(p'+4)) (c-(p'+4))) ((l.take (p'+4+X)).drop (p'+4)) :=
     .inr ⟨_,c-(p'+4),by congr 1; simp; omega,by simp; omega,hA.part (p'+4) (p'+4+X) c omg omg hc⟩
    simp (disch:=omega) [e2,e3,-Nat.add_sub_cancel_left,Tryz.cv52_9 hb4]
    simpa using H
 ·rw [if_pos he] at H
  refine n86_calls ?_
  unfold n86; try delta vF vG vC vD vJ vV vk vt
  refine field_c hB hl ?_
  simp (disch:=omega) [he]
  exact H

def fieldB (m:Nat) (s:List UInt8):List UInt8:=leB 4 s.length++(s++List.replicate (m-s.length) 0)
theorem fieldB_length {m:Nat} {s:List UInt8} (h:s.length≤m):(fieldB m s).length=4+m:=by simp [fieldB]; omega

def setTextE (len:Nat) (p m:Int) (s:List UInt8):Int :=
 if fieldE len p m≠0 then fieldE len p m else if m<s.length then 3 else 0

theorem SetText_c {v:Value} {l s:List UInt8} {p m:Int} (hB:Bytes h v l) (hl:l.length<4611686018427387904)
 (hf:∀a n c,v = .slice (some a) n c→∀i,i<l.length→hfrozen h (elt a i)=false)
 (H:setTextE l.length p m s≠0→K (.int .i64 (setTextE l.length p m s)) h)
 (H0:setTextE l.length p m s=0→∀a c,v = .slice (some a) l.length c→0≤p→s.length≤m→p.toNat+4+m.toNat≤l.length→K (.int .i64 0) (hwrite h a p.toNat ((fieldB m.toNat s).map byteV))) :
 CallsH Tryz.prog 130 #[v,.int .i64 p,.int .i64 m,str s] h K ⟨⟩:=by
 unfold setTextE at H H0
 by_cases he:fieldE l.length p m=0
 ·rw [if_neg (by simpa using he)] at H H0
  have hb:=fieldE_zero he
  obtain ⟨p',rfl⟩:=Int.eq_ofNat_of_zero_le hb.2.2.1
  obtain ⟨m',rfl⟩:=Int.eq_ofNat_of_zero_le hb.1
  simp only [Int.toNat_natCast] at H0
  obtain ⟨o,c,rfl⟩:=hB.form
  obtain ⟨a,rfl,-,hc,hA⟩:=hB.at omg
  refine n130_calls ?_
  unfold n130; try delta vF vG vC vD vJ vV vk vt
  refine field_c hB hl ?_
  by_cases hs:(m':Int)<s.length
  ·rw [if_pos hs] at H
   simp (disch:=omega) [he]
   exact H dM
  ·rw [if_neg hs] at H0
   have H0:=H0 rfl a c rfl omg omg omg
   have hfr:=hf a _ _ rfl
   simp (disch:=omega) [he]
   have hE:setE l.length p' 4 s.length=0:=by
    unfold setE
    rw [if_neg omg,if_pos omg,if_neg (by
     have:(256:Nat)^(4:Int).toNat=4294967296:=by decide
     omega)]
   refine Set_c (x:=s.length) hB hl omg hf (fun h=>absurd hE h) (fun _ a' c' ea h1 h2 h3 => ?_)
   cases ea
   have e1:((p':Int)+4).toNat=p'+4:=by omega
   have e2:((p':Int)+4+m').toNat=p'+4+m':=by omega
   simp (disch:=omega) [e1,e2]
   have hlen:p'+4+m'-(p'+4)=m':=by omega
   refine Hp_clear (e:=5) (by_:=1) (z := .int .u8 0) kR kR rfl (fun i hi => ?_) (fun i hi => ?_) ?_
   ·rw [elt_sub omg]
    exact hcell_write_some _ _ _ (by rw [hA (p'+4+i) omg]; rfl)
   ·rw [elt_sub omg,hfrozen_write]
    exact hfr _ omg
   refine Hp_copy kR (Src.str (l:=s)) (one_bytes s) (fun i hi => ?_) (fun i hi => ?_) ?_
   ·exact hcell_write_some _ _ _ (by
     rw [elt_sub omg]
     exact hcell_write_some _ _ _ (by rw [hA (p'+4+i) omg]; rfl))
   ·rw [hfrozen_write,hfrozen_write,elt_sub omg]
    exact hfr _ omg
   have hh:hwrite (hwrite (hwrite h a p' ((leB 4 s.length).map byteV)) (sub a (p'+4) c) 0 (List.replicate m' (.int .u8 0))) (sub a (p'+4) c) 0 ((s.map byteV).take m')=hwrite h a p' ((fieldB m' s).map byteV):=by
    rw [List.take_of_length_le (by simp; omega)]
    by_cases hm:m'=0
    ·subst hm
     have:s=[]:=List.eq_nil_of_length_eq_zero omg
     subst this
     simp [fieldB,hwrite]
    ·rw [hwrite_over _ _ _ _ _ (by simp; omega),hwrite_sub omg]
     have:=hwrite_append a ((leB 4 s.length).map byteV) ((s.map byteV)++(List.replicate m' (.int .u8 0)).drop (s.map byteV).length) h p'
     simp only [List.length_map,leB_length,Nat.add_zero] at this ⊢
     rw [this]
     simp [fieldB,byteV]
   have e4:((p':Int)).toNat=p':=by omega
   have e5:(4:Int).toNat=4:=rfl
   simp only [e4,e5,hlen] at hh ⊢
   rw [hh]
   exact H0
 ·rw [if_pos he] at H
  refine n130_calls ?_
  unfold n130; try delta vF vG vC vD vJ vV vk vt
  refine field_c hB hl ?_
  simp (disch:=omega) [he]
  exact H he
end Go.Proofs.YtdccfkffabngjaaGreat
set_option linter.unusedSimpArgs false
set_option linter.unusedVariables false
namespace Go.Proofs.YtdccfkffabngjaaGreat
open Go.Vc
variable {K:VP} {h:Heap}

def Fields (h:Heap) (v:Value) (fs:List (List UInt8)):Prop :=
 (v = .slice none 0 0∧fs=[])∨∃a c,v = .slice (some a) fs.length c∧fs.length≤c∧∀(i:Nat) (hi:i<fs.length),∃u,hcell h (elt a i)=some u∧Bytes h u fs[i]

def total:List (List UInt8)→Nat
 | []=>0
 | f::fs=>f.length+total fs
end Go.Proofs.YtdccfkffabngjaaGreat
set_option linter.unusedSimpArgs false
set_option linter.unusedVariables false
namespace Go.Proofs.YtdccfkffabngjaaGreat
open Go.Vc
variable {K:VP} {h:Heap}

theorem SetO_c {B m c k:Nat} {L:List UInt8} {p n:Int} {x:Nat} (hO:OwnS 1 h (.slice (some ⟨B,0,none⟩) m c) (L.map byteV)) (hk:k≤L.length) (hl:L.length<4611686018427387904) (hx:x<18446744073709551616)
 (H:setE k p n x≠0→K (.int .i64 (setE k p n x)) h)
 (H0:∀h',setE k p n x=0→OwnS 1 h' (.slice (some ⟨B,0,none⟩) m c) ((over L p.toNat (leB n.toNat x)).map byteV)→Mod (· = B) h h'→p.toNat+n.toNat≤k→K (.int .i64 0) h'):CallsH Tryz.prog 101 #[.slice (some ⟨B,0,none⟩) k c,.int .i64 p,.int .i64 n,.int .u64 x] h K ⟨⟩:=by
 have hp:=hO.pre hk
 have hlen:(L.take k).length=k:=by simp; omega
 refine Set_c (l:=L.take k) (p:=p) (n:=n) hp.1 omg hx hp.2 (fun he => ?_) (fun he a c' ea h1 h2 h3 => ?_)
 ·rw [hlen] at he ⊢; exact H he
 ·rw [hlen] at he h1
  simp only [Value.slice.injEq,Option.some.injEq] at ea
  obtain ⟨rfl,-,rfl⟩:=ea
  have:=hO.write (k:=p.toNat) (new:=(leB n.toNat x).map byteV) (by simp; omega)
  rw [←over_map] at this
  exact H0 _ he this (Mod.write ⟨B,0,none⟩ _ _ _) h1

theorem SetTextO_c {B n c k:Nat} {L s:List UInt8} {p m:Int} (hO:OwnS 1 h (.slice (some ⟨B,0,none⟩) n c) (L.map byteV)) (hk:k≤L.length) (hl:L.length<4611686018427387904)
 (H:setTextE k p m s≠0→K (.int .i64 (setTextE k p m s)) h)
 (H0:∀h',setTextE k p m s=0→OwnS 1 h' (.slice (some ⟨B,0,none⟩) n c) ((over L p.toNat (fieldB m.toNat s)).map byteV)→Mod (· = B) h h'→p.toNat+4+m.toNat≤k→s.length≤m→K (.int .i64 0) h') :
 CallsH Tryz.prog 130 #[.slice (some ⟨B,0,none⟩) k c,.int .i64 p,.int .i64 m,str s] h K ⟨⟩:=by
 have hp:=hO.pre hk
 have hlen:(L.take k).length=k:=by simp; omega
 refine SetText_c (l:=L.take k) (p:=p) (m:=m) hp.1 omg hp.2 (fun he => ?_) (fun he a c' ea h1 h2 h3 => ?_)
 ·rw [hlen] at he ⊢; exact H he
 ·rw [hlen] at he h3
  simp only [Value.slice.injEq,Option.some.injEq] at ea
  obtain ⟨rfl,-,rfl⟩:=ea
  have hfl:=fieldB_length (m:=m.toNat) (s:=s) omg
  have:=hO.write (k:=p.toNat) (new:=(fieldB m.toNat s).map byteV) (by simp; omega)
  rw [←over_map] at this
  exact H0 _ he this (Mod.write ⟨B,0,none⟩ _ _ _) h3 h2

end Go.Proofs.YtdccfkffabngjaaGreat
set_option linter.unusedSimpArgs false
set_option linter.unusedVariables false
set_option maxRecDepth 20000
namespace Go.Proofs.YtdccfkffabngjaaGreat
open Go.Vc
variable {K:VP} {h:Heap}

def idxB (l:List UInt8) (b:UInt8):Int:=match (List.range (ByteArray.mk ⟨l⟩).size).find? fun i=>(ByteArray.mk ⟨l⟩)[i]! == b with|some i=>i|none => -1
theorem idxB_nonneg {l:List UInt8} {b:UInt8}:0≤idxB l b↔b∈l:=by
 have hg:∀i (hi:i<l.length),(ByteArray.mk ⟨l⟩)[i]! = l[i]:=fun i hi=>by
  rw [getElem!_pos (ByteArray.mk ⟨l⟩) i (by simpa using hi)]; rfl
 unfold idxB
 cases hf:(List.range (ByteArray.mk ⟨l⟩).size).find? fun i=>(ByteArray.mk ⟨l⟩)[i]! == b with
 | none =>
  simp only
  rw [List.find?_eq_none] at hf
  constructor
  ·intro h; omega
  ·intro h
   obtain ⟨i,hi,rfl⟩:=List.mem_iff_getElem.1 h
   have:=hf i (by simpa using hi)
   rw [hg i hi] at this
   simp at this
 | some i =>
  have h1:=List.find?_some hf
  have h2:=List.mem_of_find?_eq_some hf
  simp at h2
  rw [hg i h2] at h1
  simp only
  constructor
  ·intro _; rw [←eq_of_beq h1]; exact List.getElem_mem _
  ·intro _; omega
theorem IndexByteS_c {l:List UInt8} {b:UInt8} (H:K (.int .i64 (idxB l b)) h):ExtH Tryz.prog 215 #[str l,byteV b] h K ⟨⟩:=by
 refine ⟨_,Go.Extern.BytealgIndexByte.indexByte,Tryz.func215,by kernel_rfl,by kernel_rfl,by kernel_rfl,by kernel_rfl,?_⟩
 have e:Go.Extern.BytealgIndexByte.indexByte #[str l,byteV b]=(match (List.range (ByteArray.mk ⟨l⟩).size).find? fun i=>(ByteArray.mk ⟨l⟩)[i]! == b with|some i=>pure (goInt i)|none=>pure (goInt (-1))):=by
  show (match (List.range (ByteArray.mk ⟨l⟩).size).find? fun i=>(ByteArray.mk ⟨l⟩)[i]! == ((b.toNat:Int).toNat.toUInt8) with|some i=>pure (goInt i)|none=>pure (goInt (-1)))=_
  rw [show ((b.toNat:Int).toNat.toUInt8)=b by simp]
 rw [e]
 unfold idxB at H
 split<;>(rename_i hx; rw [hx] at H; exact H)

theorem Contains0_c {l:List UInt8} (H:K (.bool (decide ((0:UInt8)∈l))) h):CallsH Tryz.prog 150 #[str l,str [0]] h K ⟨⟩:=by
 refine n150_calls ?_
 unfold n150; try delta vF vG vC vD vJ vV vk vt
 refine n172_calls ?_
 unfold n172; try delta vF vG vC vD vJ vV vk vt
 refine n194_calls ?_
 unfold n194; try delta vF vG vC vD vJ vV vk vt
 simp (disch:=omega)
 refine Split.mk (fun he => ?_) (fun he => ?_)
 ·simp (disch:=omega)
  simpa [←he] using H
 simp (disch:=first|omega|simp)
 refine n204_calls ?_
 unfold n204; try delta vF vG vC vD vJ vV vk vt
 refine IndexByteS_c ?_
 by_cases h0:(0:UInt8)∈l
 ·have:=idxB_nonneg.2 h0
  simp (disch:=omega)
  simpa [h0] using H
 ·have:¬0≤idxB l 0:=fun h=>h0 (idxB_nonneg.1 h)
  simp (disch:=omega)
  simpa [h0] using H

def NameOk (l:List UInt8):Prop:=1≤l.length∧l.length≤64∧(0:UInt8)∉l
instance (l:List UInt8):Decidable (NameOk l):=by unfold NameOk; infer_instance
def PlaceOk (p b:Int):Prop:=0<p∧p≤268435456∧p%2^b.toNat=0
end Go.Proofs.YtdccfkffabngjaaGreat
set_option linter.unusedSimpArgs false
set_option linter.unusedVariables false
namespace Go.Proofs.YtdccfkffabngjaaGreat
open Go.Vc
variable {K:VP} {h:Heap}

structure Sn where
 name:List UInt8
 l1:Int
 len:Int
 size:Int
deriving DecidableEq
def Sn.cells (x:Sn):List Value:=[str x.name,.int .i64 x.l1,.int .i64 x.len,.int .i64 x.size]
def SnOk (x:Sn) (b:Int):Prop:=NameOk x.name∧(0≤x.size∧x.size≤67108864∧x.size%512=0∧0≤x.len∧x.len≤1048576)∧(x.len=0∧x.l1=0∨0<x.len∧PlaceOk x.l1 b)
instance (p b:Int):Decidable (PlaceOk p b):=by unfold PlaceOk; infer_instance
instance (x:Sn) (b:Int):Decidable (SnOk x b):=by unfold SnOk; infer_instance

def Sn.bytes (x:Sn):List UInt8:=UInt8.ofNat (x.name.length%256)::(x.name++leB 8 x.l1.toNat++leB 4 x.len.toNat++leB 8 x.size.toNat)
end Go.Proofs.YtdccfkffabngjaaGreat
set_option linter.unusedSimpArgs false
set_option linter.unusedVariables false
set_option maxRecDepth 20000
namespace Go.Proofs.YtdccfkffabngjaaGreat
open Go.Vc
variable {K:VP} {h:Heap}

structure Hd where
 bits:Int
 flags:Nat
 size:Int
 l1:Int
 l1len:Int
 order:Int
 counts:Int
 clen:Int
 snaps:Int
 sat:Int
 slen:Int
 maps:Int
 mat:Int
 mlen:Int
 back:List UInt8
deriving DecidableEq
def Hd.cells (x:Hd):List Value:=[.int .i64 x.bits,.int .u64 x.flags,.int .i64 x.size,.int .i64 x.l1,.int .i64 x.l1len,.int .i64 x.order,.int .i64 x.counts,.int .i64 x.clen,.int .i64 x.snaps,.int .i64 x.sat,.int .i64 x.slen,.int .i64 x.maps,.int .i64 x.mat,.int .i64 x.mlen,str x.back]
def Hd.val (x:Hd):Value := .agg x.cells.toArray
def HdAt (h:Heap) (b:Nat) (x:Hd):Prop :=
 hcell h ⟨b,0,none⟩=some (.int .i64 x.bits)∧hcell h ⟨b,1,none⟩=some (.int .u64 x.flags)∧hcell h ⟨b,2,none⟩=some (.int .i64 x.size)∧hcell h ⟨b,3,none⟩=some (.int .i64 x.l1)∧hcell h ⟨b,4,none⟩=some (.int .i64 x.l1len) ∧
 hcell h ⟨b,5,none⟩=some (.int .i64 x.order)∧hcell h ⟨b,6,none⟩=some (.int .i64 x.counts)∧hcell h ⟨b,7,none⟩=some (.int .i64 x.clen)∧hcell h ⟨b,8,none⟩=some (.int .i64 x.snaps)∧hcell h ⟨b,9,none⟩=some (.int .i64 x.sat) ∧
 hcell h ⟨b,10,none⟩=some (.int .i64 x.slen)∧hcell h ⟨b,11,none⟩=some (.int .i64 x.maps)∧hcell h ⟨b,12,none⟩=some (.int .i64 x.mat)∧hcell h ⟨b,13,none⟩=some (.int .i64 x.mlen)∧hcell h ⟨b,14,none⟩=some (str x.back)
theorem HdAt.ext {h':Heap} {b:Nat} {x:Hd} (a:HdAt h b x) (e:Ext h h'):HdAt h' b x:=by
 obtain ⟨a0,a1,a2,a3,a4,a5,a6,a7,a8,a9,a10,a11,a12,a13,a14⟩:=a
 exact ⟨hcell_ext e a0,hcell_ext e a1,hcell_ext e a2,hcell_ext e a3,hcell_ext e a4,hcell_ext e a5,hcell_ext e a6,hcell_ext e a7,hcell_ext e a8,hcell_ext e a9,hcell_ext e a10,hcell_ext e a11,hcell_ext e a12,hcell_ext e a13,hcell_ext e a14⟩
theorem HdAt.new (x:Hd):HdAt (h.push (.cells x.cells.toArray 84)) h.size x:=by
 unfold HdAt Hd.cells
 simp
theorem boxH {x:Hd}:Hp Tryz.prog false (Instr.box 84 x.val) K h ⟨⟩↔K (.pointer (some ⟨h.size,0,none⟩)) (h.push (.cells x.cells.toArray 84)):=by
 unfold Hd.val Hd.cells
 simp (disch:=omega)
theorem loadH {q:Bool} {b:Nat} {x:Hd} (a:HdAt h b x):Hp Tryz.prog q (Instr.loadAt 84 (.pointer (some ⟨b,0,none⟩))) K h ⟨⟩↔K x.val h:=by
 obtain ⟨a0,a1,a2,a3,a4,a5,a6,a7,a8,a9,a10,a11,a12,a13,a14⟩:=a
 unfold Hd.val Hd.cells
 simp [a0,a1,a2,a3,a4,a5,a6,a7,a8,a9,a10,a11,a12,a13,a14]

def upQ (a b:Int):Int:=(a+b-1)/b
theorem div_c {a b:Int} (ha:0≤a) (ha2:a≤4611686018427387904) (hb:1≤b) (hb2:b≤65536) (H:K (.int .i64 (upQ a b)) h):CallsH Tryz.prog 171 #[.int .i64 a,.int .i64 b] h K ⟨⟩:=by
 refine n171_calls ?_
 unfold n171; try delta vF vG vC vD vJ vV vk vt
 simp (disch:=omega)
 exact H
theorem upQ_le {a b:Int} (ha:0≤a) (hb:1≤b):0≤upQ a b∧upQ a b≤a:=by
 unfold upQ
 refine ⟨Int.ediv_nonneg omg omg,?_⟩
 rcases Int.lt_or_le 0 a with h|h
 ·have h1:(a+b-1)≤a*b:=by
   have:(a-1)*(b-1)≥0:=Int.mul_nonneg omg omg
   rw [Int.sub_mul,Int.mul_sub,Int.mul_one,Int.one_mul] at this
   omega
  exact (Int.ediv_le_iff_le_mul omg).2 omg
 ·obtain rfl:a=0:=by omega
  rw [Int.ediv_eq_zero_of_lt omg omg]
  omega
theorem upQ_eq {a b:Int} (ha:0≤a) (hb:1≤b):upQ a b=if a%b=0 then a/b else a/b+1:=by
 unfold upQ
 have h1:=Int.emod_add_mul_ediv a b
 have h2:=Int.emod_nonneg a (show b≠0 by omega)
 have h3:=Int.emod_lt_of_pos a (show 0<b by omega)
 generalize a/b=d at *
 generalize a%b=r at *
 have e:a+b-1=(r+b-1)+b*d:=by omega
 rw [e,Int.add_mul_ediv_left _ _ omg]
 by_cases hr:r=0
 ·rw [if_pos hr,Int.ediv_eq_zero_of_lt omg omg]; omega
 ·rw [if_neg hr]
  have:(r+b-1)/b=1:=by
   rw [Int.ediv_eq_iff_of_pos omg]; omega
  omega
theorem Up_c {a b:Int} (ha:0≤a) (ha2:a≤4611686018427387904) (hb:1≤b) (hb2:b≤65536) (H:K (.int .i64 (upQ a b)) h):CallsH Tryz.prog 72 #[.int .i64 a,.int .i64 b] h K ⟨⟩:=by
 rw [upQ_eq ha hb] at H
 have h1:=Int.ediv_nonneg ha (show 0≤b by omega)
 have h2:a/b≤a:=Int.ediv_le_self b ha
 refine n72_calls ?_
 unfold n72; try delta vF vG vC vD vJ vV vk vt
 by_cases hm:a%b=0
 ·rw [if_pos hm] at H
  simp (disch:=omega) [hm]
  exact H
 ·rw [if_neg hm] at H
  simp (disch:=omega) [hm]
  exact H
def Hd.guest (x:Hd):Int:=upQ x.size (2^x.bits.toNat)
def Hd.tables (x:Hd):Int:=upQ x.guest (2^x.bits.toNat/8)

theorem tables_c {x:Hd} (h0:9≤x.bits) (h1:x.bits≤16) (s0:0≤x.size) (s1:x.size≤67108864) (H:∀h',Ext h h'→K (.int .i64 x.tables) h'):CallsH Tryz.prog 149 #[x.val] h K ⟨⟩:=by
 have hc:=clus h0 h1
 refine n149_calls ?_
 unfold n149; try delta vF vG vC vD vJ vV vk vt
 rw [boxH]
 have hA:=HdAt.new (h:=h) x
 have e1:Ext h (h.push (.cells x.cells.toArray 84)):=extS
 generalize h.push (.cells x.cells.toArray 84)=g at *
 have hw:IntKind.i64.wrap (2^x.bits.toNat)=2^x.bits.toNat:=wrap_i64 omg omg
 simp (disch:=omega) [hA.1,hA.2.2.1,Hp_shl,IntKind.bits,hw]
 have hg:=upQ_le (b:=2^x.bits.toNat) s0 omg
 refine div_c s0 omg omg omg ?_
 simp (disch:=omega)
 refine div_c hg.1 omg omg omg ?_
 exact H _ e1
theorem RGuest_c {x:Hd} (h0:9≤x.bits) (h1:x.bits≤16) (s0:0≤x.size) (s1:x.size≤67108864) (H:∀h',Ext h h'→K (.int .i64 x.guest) h'):CallsH Tryz.prog 119 #[x.val] h K ⟨⟩:=by
 have hc:=clus h0 h1
 refine n119_calls ?_
 unfold n119; try delta vF vG vC vD vJ vV vk vt
 rw [boxH]
 have hA:=HdAt.new (h:=h) x
 have e1:Ext h (h.push (.cells x.cells.toArray 84)):=extS
 generalize h.push (.cells x.cells.toArray 84)=g at *
 simp (disch:=omega) [hA.1,hA.2.2.1]
 refine Cluster_c omg omg ?_
 simp (disch:=omega) [hA.1,hA.2.2.1]
 refine Up_c s0 omg omg omg ?_
 exact H _ e1
theorem RTables_c {x:Hd} (h0:9≤x.bits) (h1:x.bits≤16) (s0:0≤x.size) (s1:x.size≤67108864) (H:∀h',Ext h h'→K (.int .i64 x.tables) h'):CallsH Tryz.prog 71 #[x.val] h K ⟨⟩:=by
 have hc:=clus h0 h1
 refine n71_calls ?_
 unfold n71; try delta vF vG vC vD vJ vV vk vt
 rw [boxH]
 have hA:=HdAt.new (h:=h) x
 have e1:Ext h (h.push (.cells x.cells.toArray 84)):=extS
 generalize h.push (.cells x.cells.toArray 84)=g at *
 simp (disch:=omega) [hA.1,hA.2.2.1,loadH hA]
 have hg:=upQ_le (b:=2^x.bits.toNat) s0 omg
 refine RGuest_c h0 h1 s0 s1 fun h2 e2 => ?_
 have hA2:=hA.ext e2
 simp (disch:=omega) [hA2.1,hA2.2.2.1]
 refine Cluster_c omg omg ?_
 simp (disch:=omega)
 refine Up_c hg.1 (by unfold Hd.guest; omega) omg omg ?_
 exact H _ (e1.trans e2)

def ListOk (n p l b:Int):Prop:=n=0∧p=0∧l=0∨0<n∧n≤64∧PlaceOk p b∧1≤l∧l≤65536
instance (n p l b:Int):Decidable (ListOk n p l b):=by unfold ListOk; infer_instance
theorem placeH_c {p b:Int} {B:Nat} (h0:9≤b) (h1:b≤16) (hB:hcell h ⟨B,0,none⟩=some (.int .i64 (2^b.toNat))) (H:K (.bool (decide (PlaceOk p b))) h):CallsH Tryz.prog 147 #[.int .i64 p,.pointer (some ⟨B,0,none⟩)] h K ⟨⟩:=by
 have hc:=clus h0 h1
 unfold PlaceOk at H
 refine n147_calls ?_
 unfold n147; try delta vF vG vC vD vJ vV vk vt
 by_cases hp:0<p
 ·by_cases hp2:p≤268435456
  ·by_cases hm:p%2^b.toNat=0
   ·simp (disch:=omega) [hB,hm]
    simpa [hp,hp2,hm] using H
   ·simp (disch:=omega) [hB,hm]
    simpa [hp,hp2,hm] using H
  ·simp (disch:=omega) [hp2]
   simpa [hp2] using H
 ·simp (disch:=omega) [hp]
  simpa [hp] using H
theorem listH_c {n p l b:Int} {B C:Nat} (h0:9≤b) (h1:b≤16) (hB:hcell h ⟨B,0,none⟩=some (.int .i64 (2^b.toNat))) (hC:hcell h ⟨C,0,none⟩=some (.func (.func 147) #[] #[.pointer (some ⟨B,0,none⟩)])) (H:K (.bool (decide (ListOk n p l b))) h) :
 CallsH Tryz.prog 148 #[.int .i64 n,.int .i64 64,.int .i64 p,.int .i64 l,.pointer (some ⟨C,0,none⟩)] h K ⟨⟩:=by
 unfold ListOk at H
 refine n148_calls ?_
 unfold n148; try delta vF vG vC vD vJ vV vk vt
 by_cases hn:n=0
 ·by_cases hp:p=0
  ·by_cases hl:l=0
   ·simp (disch:=omega) [hn,hp,hl]
    simpa [hn,hp,hl] using H
   ·simp (disch:=omega) [hn,hp,hl]
    simpa [hn,hp,hl] using H
  ·simp (disch:=omega) [hn,hp]
   simpa [hn,hp] using H
 ·by_cases hn1:0<n
  ·by_cases hn2:n≤64
   ·simp (disch:=omega) [hC]
    refine InvokeH_func kR ?_
    refine placeH_c h0 h1 hB ?_
    by_cases hp:PlaceOk p b
    ·by_cases hl:1≤l
     ·by_cases hl2:l≤65536
      ·simp (disch:=omega) [hp]
       simpa [hn,hn1,hn2,hp,hl,hl2] using H
      ·simp (disch:=omega) [hp,hl2]
       simpa [hn,hn1,hn2,hp,hl,hl2] using H
     ·simp (disch:=omega) [hp,hl]
      simpa [hn,hn1,hn2,hp,hl] using H
    ·simp (disch:=omega) [hp]
     simpa [hn,hn1,hn2,hp] using H
   ·simp (disch:=omega) [hn,hn2]
    simpa [hn,hn1,hn2] using H
  ·simp (disch:=omega) [hn,hn1]
   simpa [hn,hn1] using H
theorem RList_c {n p l b:Int} (h0:9≤b) (h1:b≤16) (H:K (.bool (decide (ListOk n p l b))) h):CallsH Tryz.prog 121 #[.int .i64 n,.int .i64 p,.int .i64 l,.int .i64 b] h K ⟨⟩:=by
 unfold ListOk at H
 refine n121_calls ?_
 unfold n121; try delta vF vG vC vD vJ vV vk vt
 by_cases hn:n=0
 ·by_cases hp:p=0
  ·by_cases hl:l=0
   ·simp (disch:=omega) [hn,hp,hl]
    simpa [hn,hp,hl] using H
   ·simp (disch:=omega) [hn,hp,hl]
    simpa [hn,hp,hl] using H
  ·simp (disch:=omega) [hn,hp]
   simpa [hn,hp] using H
 ·by_cases hn1:0<n
  ·by_cases hn2:n≤64
   ·simp (disch:=omega)
    refine Place_c h0 h1 (fun hp => ?_) (fun hp => ?_)
    ·have hp:PlaceOk p b:=hp
     by_cases hl:1≤l
     ·by_cases hl2:l≤65536
      ·simp (disch:=omega)
       simpa [hn,hn1,hn2,hp,hl,hl2] using H
      ·simp (disch:=omega) [hl2]
       simpa [hn,hn1,hn2,hp,hl,hl2] using H
     ·simp (disch:=omega) [hl]
      simpa [hn,hn1,hn2,hp,hl] using H
    ·have hp:¬PlaceOk p b:=hp
     simp (disch:=omega)
     simpa [hn,hn1,hn2,hp] using H
   ·simp (disch:=omega) [hn,hn2]
    simpa [hn,hn1,hn2] using H
  ·simp (disch:=omega) [hn,hn1]
   simpa [hn,hn1] using H
end Go.Proofs.YtdccfkffabngjaaGreat
set_option linter.unusedSimpArgs false
set_option linter.unusedVariables false
namespace Go.Vc
variable {P:Go.Program} {q:Bool} {K:VP} {h:Heap}

def gv (b w:Bool) (v:Value):Value:=if b=w then v else undef
theorem gAnd {b c:Bool}:Hp P q (pickS (.bool b) (gv b true (.bool c)) (.bool false)) K h ⟨⟩↔K (.bool (b&&c)) h:=by
 cases b<;>simp [gv]
theorem eql_t {t:TypeId} {x y:Operand} {k:IntKind} {a b:Int} (e:a=b):Hp P q (binS .eql t x y (.int k a) (.int k b)) K h ⟨⟩↔K (.bool true) h:=by rw [Hp_eql,decide_eq_true e]
theorem eql_f {t:TypeId} {x y:Operand} {k:IntKind} {a b:Int} (e:¬a=b):Hp P q (binS .eql t x y (.int k a) (.int k b)) K h ⟨⟩↔K (.bool false) h:=by rw [Hp_eql,decide_eq_false e]
theorem leq_t {t:TypeId} {x y:Operand} {k:IntKind} {a b:Int} (e:a≤b):Hp P q (binS .leq t x y (.int k a) (.int k b)) K h ⟨⟩↔K (.bool true) h:=by rw [Hp_leq,decide_eq_true e]
theorem leq_f {t:TypeId} {x y:Operand} {k:IntKind} {a b:Int} (e:¬a≤b):Hp P q (binS .leq t x y (.int k a) (.int k b)) K h ⟨⟩↔K (.bool false) h:=by rw [Hp_leq,decide_eq_false e]
theorem gtr_t {t:TypeId} {x y:Operand} {k:IntKind} {a b:Int} (e:b<a):Hp P q (binS .gtr t x y (.int k a) (.int k b)) K h ⟨⟩↔K (.bool true) h:=by rw [Hp_gtr,decide_eq_true e]
theorem gtr_f {t:TypeId} {x y:Operand} {k:IntKind} {a b:Int} (e:¬b<a):Hp P q (binS .gtr t x y (.int k a) (.int k b)) K h ⟨⟩↔K (.bool false) h:=by rw [Hp_gtr,decide_eq_false e]
theorem geq_t {t:TypeId} {x y:Operand} {k:IntKind} {a b:Int} (e:b≤a):Hp P q (binS .geq t x y (.int k a) (.int k b)) K h ⟨⟩↔K (.bool true) h:=by rw [Hp_geq,decide_eq_true e]
theorem geq_f {t:TypeId} {x y:Operand} {k:IntKind} {a b:Int} (e:¬b≤a):Hp P q (binS .geq t x y (.int k a) (.int k b)) K h ⟨⟩↔K (.bool false) h:=by rw [Hp_geq,decide_eq_false e]
theorem gLeq {b w:Bool} {J:VP} {t:TypeId} {x y:Operand} {k:IntKind} {n m:Int} {q:Bool} :
 Join1 (fun k' h=>guardP (.bool b) w (Hp P q (binS .leq t x y (gv b w (.int k n)) (.int k m)) k' h ⟨⟩) (k' undef h) ⟨⟩ ⟨⟩) J h ⟨⟩ ⟨⟩↔J (gv b w (.bool (decide (n≤m)))) h:=by
 cases b<;>cases w<;>simp [gv,Hp_leq,-Hp_leq_s]
theorem gGeq {b w:Bool} {J:VP} {t:TypeId} {x y:Operand} {k:IntKind} {n m:Int} {q:Bool} :
 Join1 (fun k' h=>guardP (.bool b) w (Hp P q (binS .geq t x y (gv b w (.int k n)) (.int k m)) k' h ⟨⟩) (k' undef h) ⟨⟩ ⟨⟩) J h ⟨⟩ ⟨⟩↔J (gv b w (.bool (decide (m≤n)))) h:=by
 cases b<;>cases w<;>simp [gv,Hp_geq,-Hp_geq_s]
end Go.Vc
set_option linter.unusedSimpArgs false
set_option linter.unusedVariables false
set_option maxRecDepth 20000
namespace Go.Proofs.YtdccfkffabngjaaGreat
open Go.Vc
variable {K:VP} {h:Heap}

def MayA (x:Hd):Prop:=9≤x.bits∧x.bits≤16∧x.flags≤1∧0≤x.size∧x.size≤67108864∧x.size%512=0
def MayB (x:Hd):Prop :=
 (0≤x.l1len∧x.l1len≤1048576∧x.tables≤x.l1len)∧(x.l1len=0∧x.l1=0∨0<x.l1len∧PlaceOk x.l1 x.bits)∧(0≤x.order∧x.order≤6) ∧
 (PlaceOk x.counts x.bits∧1≤x.clen∧x.clen≤65536)∧ListOk x.snaps x.sat x.slen x.bits∧ListOk x.maps x.mat x.mlen x.bits∧(x.back.length≤64∧(0:UInt8)∉x.back)
def MayH (x:Hd):Prop:=MayA x∧MayB x
instance (x:Hd):Decidable (MayA x):=by unfold MayA; infer_instance
instance (x:Hd):Decidable (MayB x):=by unfold MayB; infer_instance
instance (x:Hd):Decidable (MayH x):=by unfold MayH; infer_instance

theorem loop7 {h2:Heap} {bs:List Bool} (hl:bs.length=7) {kk:VP} (H:kk (.bool (bs.all id)) (h2.push (.cells (bs.map Value.bool).toArray 4))) :
 JoinN 1 (fun (k_50:VP) h_92 =>
  LoopC 2 (fun (X:Value→VP)=>fun ok6 t127 h_93 =>
   Hp Tryz.prog false (binS .lss 3 (.tmp 127) (.tmp 126) t127 (.int .i64 7)) (fun t128 h_94 =>
    CondP t128 (
     Hp Tryz.prog false (Instr.indexAt 225 (.slice (some ⟨h2.size,0,none⟩) 7 7) t127) (fun t129 h_95 =>
      Hp Tryz.prog false (Instr.loadAt 4 t129) (fun t130 h_96 =>
       Hp Tryz.prog false (Op.unary .not t130) (fun t132 h_97 =>
        CondP t132 (
         k_50 (.bool false) h_97) (
         Hp Tryz.prog false (binS .add 3 (.tmp 127) (.const (.int .i64 1)) t127 (.int .i64 1)) (fun t133 h_98 =>
          X ok6 t133 h_98) h_97 ⟨⟩) ⟨⟩ ⟨⟩) h_96 ⟨⟩) h_95 ⟨⟩) h_94 ⟨⟩) (
     k_50 ok6 h_94) ⟨⟩ ⟨⟩) h_93 ⟨⟩) [(.bool true),(.int .i64 0)] h_92 ⟨⟩)
  (fun ok6_1 h_99=>kk ok6_1 h_99) (h2.push (.cells (bs.map Value.bool).toArray 4)) ⟨⟩ ⟨⟩:=by
 refine JoinN.mk ?_
 have hc:∀i (hi:i<7),hcell (h2.push (.cells (bs.map Value.bool).toArray 4)) (elt ⟨h2.size,0,none⟩ i)=some (.bool bs[i]):=fun i hi=>by
  rw [elt_mk]
  simp [hl,hi]
 generalize h2.push (.cells (bs.map Value.bool).toArray 4)=g at *
 refine loopA2 (fun _:Nat => .bool true) (fun i => .int .i64 i) (fun i h'=>h'=g∧i≤7∧∀j (hj:j<bs.length),j<i→bs[j]=true) (fun i=>7-i) 0 ⟨rfl,rfl⟩ ⟨rfl,by omega,fun j _ hj=>by omega⟩ ?_
 rintro i h' ⟨rfl,hi,hall⟩
 by_cases hin:i=7
 ·have:bs.all id=true:=by
   rw [List.all_eq_true]
   intro b hb
   obtain ⟨j,hj,rfl⟩:=List.mem_iff_getElem.1 hb
   exact hall j hj omg
  rw [this] at H
  simp (disch:=omega) [hin]
  exact H
 ·have h1:=hc i omg
  cases hb:bs[i] with
  | false =>
   have:bs.all id=false:=by
    rw [List.all_eq_false]
    exact ⟨bs[i],List.getElem_mem _,by simp [hb]⟩
   rw [this] at H
   simp (disch:=omega) [h1,hb]
   exact H
  | true =>
   simp (disch:=omega) [h1,hb]
   refine ⟨i+1,by simp,⟨by omega,fun j hj hji => ?_⟩,by omega⟩
   by_cases e:j=i
   ·subst e; exact hb
   ·exact hall j hj omg
set_option maxHeartbeats 4000000 in
theorem Check_c {x:Hd} (ht:∀h',Ext h h'→MayH x→K (.int .i64 0) h') (hf:∀h',Ext h h'→¬MayH x→K (.int .i64 2) h'):CallsH Tryz.prog 128 #[x.val] h K ⟨⟩:=by
 refine n128_calls ?_
 unfold n128; try delta vF vG vC vD vJ vV vk vt
 rw [boxH]
 have hA:=HdAt.new (h:=h) x
 have e1:Ext h (h.push (.cells x.cells.toArray 84)):=extS
 have zg:(h.push (.cells x.cells.toArray 84)).size=h.size+1:=by simp
 generalize h.push (.cells x.cells.toArray 84)=g at *
 by_cases hMA:MayA x
 ·obtain ⟨h0,h1,f1,s0,s1,s2⟩:=hMA
  have hMA:MayA x:=⟨h0,h1,f1,s0,s1,s2⟩
  have hc:=clus h0 h1
  have hw:IntKind.i64.wrap (2^x.bits.toNat)=2^x.bits.toNat:=wrap_i64 omg omg
  simp (disch:=omega) [hA.1,hA.2.1,hA.2.2.1,Hp_shl,IntKind.bits,hw]
  refine (Tryz.st169 (by rfl)).2 ?_
  simp (disch:=omega)
  refine (⟨_,rfl⟩:∃g2,g2=hset (Array.push (hset (Array.push g (Obj.cells #[Value.int IntKind.i64 0] 2)) { block:=g.size,off:=0 } (Value.int IntKind.i64 (2^x.bits.toNat))) (Obj.cells #[Value.nilFunc] 169)) { block:=g.size+1,off:=0 } (Value.func (Fn.func 147) #[] #[Value.pointer (some { block:=g.size,off:=0 })])).elim fun g2 eg => ?_
  simp only [←eg]
  have e2:Ext g g2:=by rw [eg]; exact extS
  have hA2:=hA.ext e2
  have hc3:hcell g2 ⟨g.size,0,none⟩=some (.int .i64 (2^x.bits.toNat)):=by rw [eg]; simp
  have hp4:hcell g2 ⟨g.size+1,0,none⟩=some (Value.func (Fn.func 147) #[] #[Value.pointer (some { block:=g.size,off:=0 })]):=by rw [eg]; simp
  have E2:=e1.trans e2
  clear eg
  clear hA
  refine JoinN_in1 (fun w g'=>w = .bool (decide (MayB x))∧Ext h g') (fun kk hkk => ?_) (fun w g' hx => ?_)
  ·have fo:∀{b:Bool} {J:VP} {g:Heap} {B:Nat},Join1 (fun k h=>guardP (.bool b) true (Hp Tryz.prog true (Instr.fieldAt 84 (.pointer (some ⟨B,0,none⟩)) 5) k h ⟨⟩) (k undef h) ⟨⟩ ⟨⟩) J g ⟨⟩ ⟨⟩↔J (gv b true (.pointer (some ⟨B,5,none⟩))) g:=by
    intro b J g B; cases b<;>simp [gv]
   have fc:∀{b:Bool} {J:VP} {g:Heap} {B:Nat},Join1 (fun k h=>guardP (.bool b) true (Hp Tryz.prog true (Instr.fieldAt 84 (.pointer (some ⟨B,0,none⟩)) 7) k h ⟨⟩) (k undef h) ⟨⟩ ⟨⟩) J g ⟨⟩ ⟨⟩↔J (gv b true (.pointer (some ⟨B,7,none⟩))) g:=by
    intro b J g B; cases b<;>simp [gv]
   obtain ⟨a0,a1,a2,a3,a4,a5,a6,a7,a8,a9,a10,a11,a12,a13,a14⟩:=id hA2
   by_cases bl:x.back.length≤64
   ·by_cases l0:0≤x.l1len
    ·by_cases l2:x.l1len≤1048576
     ·by_cases lz:x.l1len=0
      ·by_cases l1z:x.l1=0
       ·skip
        simp (disch:=omega) [-Hp_eql_s,-Hp_lss_s,-Hp_leq_s,-Hp_gtr_s,-Hp_geq_s,-Split_yes,-Split_no,eql_t,eql_f,leq_t,leq_f,geq_t,geq_f,gtr_t,gtr_f,Hp_eql,Hp_lss,Hp_leq,Hp_gtr,Hp_geq,gLeq,gGeq,gAnd,fo,fc,a0,a2,a3,a4,a5,a6,a7,a8,a9,a10,a11,a12,a13,a14,hc3,hp4,loadH hA2]
        refine tables_c h0 h1 s0 s1 fun h2 e3 => ?_
        have hA3:=hA2.ext e3
        obtain ⟨b0,b1,b2,b3,b4,b5,b6,b7,b8,b9,b10,b11,b12,b13,b14⟩:=id hA3
        have hb3:=hcell_ext e3 hc3
        have hq4:=hcell_ext e3 hp4
        have lo:∀{b:Bool} {J:VP},Join1 (fun k h'=>guardP (.bool b) true (Hp Tryz.prog true (Instr.loadAt 3 (gv b true (.pointer (some ⟨h.size,5,none⟩)))) k h' ⟨⟩) (k undef h') ⟨⟩ ⟨⟩) J h2 ⟨⟩ ⟨⟩↔J (gv b true (.int .i64 x.order)) h2:=by
         intro b J; cases b<;>simp [gv,b5]
        have lc:∀{b:Bool} {J:VP},Join1 (fun k h'=>guardP (.bool b) true (Hp Tryz.prog true (Instr.loadAt 3 (gv b true (.pointer (some ⟨h.size,7,none⟩)))) k h' ⟨⟩) (k undef h') ⟨⟩ ⟨⟩) J h2 ⟨⟩ ⟨⟩↔J (gv b true (.int .i64 x.clen)) h2:=by
         intro b J; cases b<;>simp [gv,b7]
        simp (disch:=omega) [-Hp_eql_s,-Hp_lss_s,-Hp_leq_s,-Hp_gtr_s,-Hp_geq_s,-Split_yes,-Split_no,eql_t,eql_f,leq_t,leq_f,geq_t,geq_f,gtr_t,gtr_f,Hp_eql,Hp_lss,Hp_leq,Hp_gtr,Hp_geq,gLeq,gGeq,gAnd,fo,fc,lo,lc,b0,b2,b3,b4,b5,b6,b7,b8,b9,b10,b11,b12,b13,b14,hb3,hq4]
        refine InvokeH_func kR ?_
        refine placeH_c h0 h1 hb3 ?_
        simp (disch:=omega) [-Hp_eql_s,-Hp_lss_s,-Hp_leq_s,-Hp_gtr_s,-Hp_geq_s,-Split_yes,-Split_no,eql_t,eql_f,leq_t,leq_f,geq_t,geq_f,gtr_t,gtr_f,Hp_eql,Hp_lss,Hp_leq,Hp_gtr,Hp_geq,gLeq,gGeq,gAnd,fo,fc,lo,lc,b0,b2,b3,b4,b5,b6,b7,b8,b9,b10,b11,b12,b13,b14,hb3,hq4]
        refine InvokeH_func kR ?_
        refine listH_c h0 h1 hb3 hq4 ?_
        simp (disch:=omega) [-Hp_eql_s,-Hp_lss_s,-Hp_leq_s,-Hp_gtr_s,-Hp_geq_s,-Split_yes,-Split_no,eql_t,eql_f,leq_t,leq_f,geq_t,geq_f,gtr_t,gtr_f,Hp_eql,Hp_lss,Hp_leq,Hp_gtr,Hp_geq,gLeq,gGeq,gAnd,fo,fc,lo,lc,b0,b2,b3,b4,b5,b6,b7,b8,b9,b10,b11,b12,b13,b14,hb3,hq4]
        refine InvokeH_func kR ?_
        refine listH_c h0 h1 hb3 hq4 ?_
        simp (disch:=omega) [-Hp_eql_s,-Hp_lss_s,-Hp_leq_s,-Hp_gtr_s,-Hp_geq_s,-Split_yes,-Split_no,eql_t,eql_f,leq_t,leq_f,geq_t,geq_f,gtr_t,gtr_f,Hp_eql,Hp_lss,Hp_leq,Hp_gtr,Hp_geq,gLeq,gGeq,gAnd,fo,fc,lo,lc,b0,b2,b3,b4,b5,b6,b7,b8,b9,b10,b11,b12,b13,b14,hb3,hq4]
        refine Contains0_c ?_
        simp (disch:=omega) [-Hp_eql_s,-Hp_lss_s,-Hp_leq_s,-Hp_gtr_s,-Hp_geq_s,-Split_yes,-Split_no,eql_t,eql_f,leq_t,leq_f,geq_t,geq_f,gtr_t,gtr_f,Hp_eql,Hp_lss,Hp_leq,Hp_gtr,Hp_geq,gLeq,gGeq,gAnd,fo,fc,lo,lc,b0,b2,b3,b4,b5,b6,b7,b8,b9,b10,b11,b12,b13,b14,hb3,hq4]
        refine loop7 (h2:=h2) (bs:=[_,_,_,_,_,_,_]) rfl (hkk _ _ ⟨?_,E2.trans (Ext.trans (e3) extS)⟩)
        congr 1
        unfold MayB
        simp [l0,l2,lz,l1z,bl,Bool.and_assoc]
       ·skip
        simp (disch:=omega) [-Hp_eql_s,-Hp_lss_s,-Hp_leq_s,-Hp_gtr_s,-Hp_geq_s,-Split_yes,-Split_no,eql_t,eql_f,leq_t,leq_f,geq_t,geq_f,gtr_t,gtr_f,Hp_eql,Hp_lss,Hp_leq,Hp_gtr,Hp_geq,gLeq,gGeq,gAnd,fo,fc,a0,a2,a3,a4,a5,a6,a7,a8,a9,a10,a11,a12,a13,a14,hc3,hp4,loadH hA2]
        refine tables_c h0 h1 s0 s1 fun h2 e3 => ?_
        have hA3:=hA2.ext e3
        obtain ⟨b0,b1,b2,b3,b4,b5,b6,b7,b8,b9,b10,b11,b12,b13,b14⟩:=id hA3
        have hb3:=hcell_ext e3 hc3
        have hq4:=hcell_ext e3 hp4
        have lo:∀{b:Bool} {J:VP},Join1 (fun k h'=>guardP (.bool b) true (Hp Tryz.prog true (Instr.loadAt 3 (gv b true (.pointer (some ⟨h.size,5,none⟩)))) k h' ⟨⟩) (k undef h') ⟨⟩ ⟨⟩) J h2 ⟨⟩ ⟨⟩↔J (gv b true (.int .i64 x.order)) h2:=by
         intro b J; cases b<;>simp [gv,b5]
        have lc:∀{b:Bool} {J:VP},Join1 (fun k h'=>guardP (.bool b) true (Hp Tryz.prog true (Instr.loadAt 3 (gv b true (.pointer (some ⟨h.size,7,none⟩)))) k h' ⟨⟩) (k undef h') ⟨⟩ ⟨⟩) J h2 ⟨⟩ ⟨⟩↔J (gv b true (.int .i64 x.clen)) h2:=by
         intro b J; cases b<;>simp [gv,b7]
        simp (disch:=omega) [-Hp_eql_s,-Hp_lss_s,-Hp_leq_s,-Hp_gtr_s,-Hp_geq_s,-Split_yes,-Split_no,eql_t,eql_f,leq_t,leq_f,geq_t,geq_f,gtr_t,gtr_f,Hp_eql,Hp_lss,Hp_leq,Hp_gtr,Hp_geq,gLeq,gGeq,gAnd,fo,fc,lo,lc,b0,b2,b3,b4,b5,b6,b7,b8,b9,b10,b11,b12,b13,b14,hb3,hq4]
        refine InvokeH_func kR ?_
        refine placeH_c h0 h1 hb3 ?_
        simp (disch:=omega) [-Hp_eql_s,-Hp_lss_s,-Hp_leq_s,-Hp_gtr_s,-Hp_geq_s,-Split_yes,-Split_no,eql_t,eql_f,leq_t,leq_f,geq_t,geq_f,gtr_t,gtr_f,Hp_eql,Hp_lss,Hp_leq,Hp_gtr,Hp_geq,gLeq,gGeq,gAnd,fo,fc,lo,lc,b0,b2,b3,b4,b5,b6,b7,b8,b9,b10,b11,b12,b13,b14,hb3,hq4]
        refine InvokeH_func kR ?_
        refine listH_c h0 h1 hb3 hq4 ?_
        simp (disch:=omega) [-Hp_eql_s,-Hp_lss_s,-Hp_leq_s,-Hp_gtr_s,-Hp_geq_s,-Split_yes,-Split_no,eql_t,eql_f,leq_t,leq_f,geq_t,geq_f,gtr_t,gtr_f,Hp_eql,Hp_lss,Hp_leq,Hp_gtr,Hp_geq,gLeq,gGeq,gAnd,fo,fc,lo,lc,b0,b2,b3,b4,b5,b6,b7,b8,b9,b10,b11,b12,b13,b14,hb3,hq4]
        refine InvokeH_func kR ?_
        refine listH_c h0 h1 hb3 hq4 ?_
        simp (disch:=omega) [-Hp_eql_s,-Hp_lss_s,-Hp_leq_s,-Hp_gtr_s,-Hp_geq_s,-Split_yes,-Split_no,eql_t,eql_f,leq_t,leq_f,geq_t,geq_f,gtr_t,gtr_f,Hp_eql,Hp_lss,Hp_leq,Hp_gtr,Hp_geq,gLeq,gGeq,gAnd,fo,fc,lo,lc,b0,b2,b3,b4,b5,b6,b7,b8,b9,b10,b11,b12,b13,b14,hb3,hq4]
        refine Contains0_c ?_
        simp (disch:=omega) [-Hp_eql_s,-Hp_lss_s,-Hp_leq_s,-Hp_gtr_s,-Hp_geq_s,-Split_yes,-Split_no,eql_t,eql_f,leq_t,leq_f,geq_t,geq_f,gtr_t,gtr_f,Hp_eql,Hp_lss,Hp_leq,Hp_gtr,Hp_geq,gLeq,gGeq,gAnd,fo,fc,lo,lc,b0,b2,b3,b4,b5,b6,b7,b8,b9,b10,b11,b12,b13,b14,hb3,hq4]
        refine loop7 (h2:=h2) (bs:=[_,_,_,_,_,_,_]) rfl (hkk _ _ ⟨?_,E2.trans (Ext.trans (e3) extS)⟩)
        congr 1
        unfold MayB
        simp [l0,l2,lz,l1z,bl,Bool.and_assoc]
      ·have lp:0<x.l1len:=by omega
       simp (disch:=omega) [-Hp_eql_s,-Hp_lss_s,-Hp_leq_s,-Hp_gtr_s,-Hp_geq_s,-Split_yes,-Split_no,eql_t,eql_f,leq_t,leq_f,geq_t,geq_f,gtr_t,gtr_f,Hp_eql,Hp_lss,Hp_leq,Hp_gtr,Hp_geq,gLeq,gGeq,gAnd,fo,fc,a0,a2,a3,a4,a5,a6,a7,a8,a9,a10,a11,a12,a13,a14,hc3,hp4,loadH hA2]
       refine tables_c h0 h1 s0 s1 fun h2 e3 => ?_
       have hA3:=hA2.ext e3
       obtain ⟨b0,b1,b2,b3,b4,b5,b6,b7,b8,b9,b10,b11,b12,b13,b14⟩:=id hA3
       have hb3:=hcell_ext e3 hc3
       have hq4:=hcell_ext e3 hp4
       have lo:∀{b:Bool} {J:VP},Join1 (fun k h'=>guardP (.bool b) true (Hp Tryz.prog true (Instr.loadAt 3 (gv b true (.pointer (some ⟨h.size,5,none⟩)))) k h' ⟨⟩) (k undef h') ⟨⟩ ⟨⟩) J h2 ⟨⟩ ⟨⟩↔J (gv b true (.int .i64 x.order)) h2:=by
        intro b J; cases b<;>simp [gv,b5]
       have lc:∀{b:Bool} {J:VP},Join1 (fun k h'=>guardP (.bool b) true (Hp Tryz.prog true (Instr.loadAt 3 (gv b true (.pointer (some ⟨h.size,7,none⟩)))) k h' ⟨⟩) (k undef h') ⟨⟩ ⟨⟩) J h2 ⟨⟩ ⟨⟩↔J (gv b true (.int .i64 x.clen)) h2:=by
        intro b J; cases b<;>simp [gv,b7]
       simp (disch:=omega) [-Hp_eql_s,-Hp_lss_s,-Hp_leq_s,-Hp_gtr_s,-Hp_geq_s,-Split_yes,-Split_no,eql_t,eql_f,leq_t,leq_f,geq_t,geq_f,gtr_t,gtr_f,Hp_eql,Hp_lss,Hp_leq,Hp_gtr,Hp_geq,gLeq,gGeq,gAnd,fo,fc,lo,lc,b0,b2,b3,b4,b5,b6,b7,b8,b9,b10,b11,b12,b13,b14,hb3,hq4]
       refine InvokeH_func kR ?_
       refine placeH_c h0 h1 hb3 ?_
       simp (disch:=omega) [-Hp_eql_s,-Hp_lss_s,-Hp_leq_s,-Hp_gtr_s,-Hp_geq_s,-Split_yes,-Split_no,eql_t,eql_f,leq_t,leq_f,geq_t,geq_f,gtr_t,gtr_f,Hp_eql,Hp_lss,Hp_leq,Hp_gtr,Hp_geq,gLeq,gGeq,gAnd,fo,fc,lo,lc,b0,b2,b3,b4,b5,b6,b7,b8,b9,b10,b11,b12,b13,b14,hb3,hq4]
       refine InvokeH_func kR ?_
       refine placeH_c h0 h1 hb3 ?_
       simp (disch:=omega) [-Hp_eql_s,-Hp_lss_s,-Hp_leq_s,-Hp_gtr_s,-Hp_geq_s,-Split_yes,-Split_no,eql_t,eql_f,leq_t,leq_f,geq_t,geq_f,gtr_t,gtr_f,Hp_eql,Hp_lss,Hp_leq,Hp_gtr,Hp_geq,gLeq,gGeq,gAnd,fo,fc,lo,lc,b0,b2,b3,b4,b5,b6,b7,b8,b9,b10,b11,b12,b13,b14,hb3,hq4]
       refine InvokeH_func kR ?_
       refine listH_c h0 h1 hb3 hq4 ?_
       simp (disch:=omega) [-Hp_eql_s,-Hp_lss_s,-Hp_leq_s,-Hp_gtr_s,-Hp_geq_s,-Split_yes,-Split_no,eql_t,eql_f,leq_t,leq_f,geq_t,geq_f,gtr_t,gtr_f,Hp_eql,Hp_lss,Hp_leq,Hp_gtr,Hp_geq,gLeq,gGeq,gAnd,fo,fc,lo,lc,b0,b2,b3,b4,b5,b6,b7,b8,b9,b10,b11,b12,b13,b14,hb3,hq4]
       refine InvokeH_func kR ?_
       refine listH_c h0 h1 hb3 hq4 ?_
       simp (disch:=omega) [-Hp_eql_s,-Hp_lss_s,-Hp_leq_s,-Hp_gtr_s,-Hp_geq_s,-Split_yes,-Split_no,eql_t,eql_f,leq_t,leq_f,geq_t,geq_f,gtr_t,gtr_f,Hp_eql,Hp_lss,Hp_leq,Hp_gtr,Hp_geq,gLeq,gGeq,gAnd,fo,fc,lo,lc,b0,b2,b3,b4,b5,b6,b7,b8,b9,b10,b11,b12,b13,b14,hb3,hq4]
       refine Contains0_c ?_
       simp (disch:=omega) [-Hp_eql_s,-Hp_lss_s,-Hp_leq_s,-Hp_gtr_s,-Hp_geq_s,-Split_yes,-Split_no,eql_t,eql_f,leq_t,leq_f,geq_t,geq_f,gtr_t,gtr_f,Hp_eql,Hp_lss,Hp_leq,Hp_gtr,Hp_geq,gLeq,gGeq,gAnd,fo,fc,lo,lc,b0,b2,b3,b4,b5,b6,b7,b8,b9,b10,b11,b12,b13,b14,hb3,hq4]
       refine loop7 (h2:=h2) (bs:=[_,_,_,_,_,_,_]) rfl (hkk _ _ ⟨?_,E2.trans (Ext.trans (e3) extS)⟩)
       congr 1
       unfold MayB
       simp [l0,l2,lz,lp,bl,Bool.and_assoc]
     ·have lp:0<x.l1len:=by omega
      have lz:¬x.l1len=0:=by omega
      have hA3:=hA2.ext (Ext.refl g2)
      obtain ⟨b0,b1,b2,b3,b4,b5,b6,b7,b8,b9,b10,b11,b12,b13,b14⟩:=id hA3
      have hb3:=hcell_ext (Ext.refl g2) hc3
      have hq4:=hcell_ext (Ext.refl g2) hp4
      have lo:∀{b:Bool} {J:VP},Join1 (fun k h'=>guardP (.bool b) true (Hp Tryz.prog true (Instr.loadAt 3 (gv b true (.pointer (some ⟨h.size,5,none⟩)))) k h' ⟨⟩) (k undef h') ⟨⟩ ⟨⟩) J g2 ⟨⟩ ⟨⟩↔J (gv b true (.int .i64 x.order)) g2:=by
       intro b J; cases b<;>simp [gv,b5]
      have lc:∀{b:Bool} {J:VP},Join1 (fun k h'=>guardP (.bool b) true (Hp Tryz.prog true (Instr.loadAt 3 (gv b true (.pointer (some ⟨h.size,7,none⟩)))) k h' ⟨⟩) (k undef h') ⟨⟩ ⟨⟩) J g2 ⟨⟩ ⟨⟩↔J (gv b true (.int .i64 x.clen)) g2:=by
       intro b J; cases b<;>simp [gv,b7]
      simp (disch:=omega) [-Hp_eql_s,-Hp_lss_s,-Hp_leq_s,-Hp_gtr_s,-Hp_geq_s,-Split_yes,-Split_no,eql_t,eql_f,leq_t,leq_f,geq_t,geq_f,gtr_t,gtr_f,Hp_eql,Hp_lss,Hp_leq,Hp_gtr,Hp_geq,gLeq,gGeq,gAnd,fo,fc,lo,lc,b0,b2,b3,b4,b5,b6,b7,b8,b9,b10,b11,b12,b13,b14,hb3,hq4]
      refine InvokeH_func kR ?_
      refine placeH_c h0 h1 hb3 ?_
      simp (disch:=omega) [-Hp_eql_s,-Hp_lss_s,-Hp_leq_s,-Hp_gtr_s,-Hp_geq_s,-Split_yes,-Split_no,eql_t,eql_f,leq_t,leq_f,geq_t,geq_f,gtr_t,gtr_f,Hp_eql,Hp_lss,Hp_leq,Hp_gtr,Hp_geq,gLeq,gGeq,gAnd,fo,fc,lo,lc,b0,b2,b3,b4,b5,b6,b7,b8,b9,b10,b11,b12,b13,b14,hb3,hq4]
      refine InvokeH_func kR ?_
      refine placeH_c h0 h1 hb3 ?_
      simp (disch:=omega) [-Hp_eql_s,-Hp_lss_s,-Hp_leq_s,-Hp_gtr_s,-Hp_geq_s,-Split_yes,-Split_no,eql_t,eql_f,leq_t,leq_f,geq_t,geq_f,gtr_t,gtr_f,Hp_eql,Hp_lss,Hp_leq,Hp_gtr,Hp_geq,gLeq,gGeq,gAnd,fo,fc,lo,lc,b0,b2,b3,b4,b5,b6,b7,b8,b9,b10,b11,b12,b13,b14,hb3,hq4]
      refine InvokeH_func kR ?_
      refine listH_c h0 h1 hb3 hq4 ?_
      simp (disch:=omega) [-Hp_eql_s,-Hp_lss_s,-Hp_leq_s,-Hp_gtr_s,-Hp_geq_s,-Split_yes,-Split_no,eql_t,eql_f,leq_t,leq_f,geq_t,geq_f,gtr_t,gtr_f,Hp_eql,Hp_lss,Hp_leq,Hp_gtr,Hp_geq,gLeq,gGeq,gAnd,fo,fc,lo,lc,b0,b2,b3,b4,b5,b6,b7,b8,b9,b10,b11,b12,b13,b14,hb3,hq4]
      refine InvokeH_func kR ?_
      refine listH_c h0 h1 hb3 hq4 ?_
      simp (disch:=omega) [-Hp_eql_s,-Hp_lss_s,-Hp_leq_s,-Hp_gtr_s,-Hp_geq_s,-Split_yes,-Split_no,eql_t,eql_f,leq_t,leq_f,geq_t,geq_f,gtr_t,gtr_f,Hp_eql,Hp_lss,Hp_leq,Hp_gtr,Hp_geq,gLeq,gGeq,gAnd,fo,fc,lo,lc,b0,b2,b3,b4,b5,b6,b7,b8,b9,b10,b11,b12,b13,b14,hb3,hq4]
      refine Contains0_c ?_
      simp (disch:=omega) [-Hp_eql_s,-Hp_lss_s,-Hp_leq_s,-Hp_gtr_s,-Hp_geq_s,-Split_yes,-Split_no,eql_t,eql_f,leq_t,leq_f,geq_t,geq_f,gtr_t,gtr_f,Hp_eql,Hp_lss,Hp_leq,Hp_gtr,Hp_geq,gLeq,gGeq,gAnd,fo,fc,lo,lc,b0,b2,b3,b4,b5,b6,b7,b8,b9,b10,b11,b12,b13,b14,hb3,hq4]
      refine loop7 (h2:=g2) (bs:=[_,_,_,_,_,_,_]) rfl (hkk _ _ ⟨?_,E2.trans (Ext.trans (Ext.refl g2) extS)⟩)
      congr 1
      unfold MayB
      simp [l0,l2,lz,lp,bl,Bool.and_assoc]
    ·have lp:¬0<x.l1len:=by omega
     have lz:¬x.l1len=0:=by omega
     have hA3:=hA2.ext (Ext.refl g2)
     obtain ⟨b0,b1,b2,b3,b4,b5,b6,b7,b8,b9,b10,b11,b12,b13,b14⟩:=id hA3
     have hb3:=hcell_ext (Ext.refl g2) hc3
     have hq4:=hcell_ext (Ext.refl g2) hp4
     have lo:∀{b:Bool} {J:VP},Join1 (fun k h'=>guardP (.bool b) true (Hp Tryz.prog true (Instr.loadAt 3 (gv b true (.pointer (some ⟨h.size,5,none⟩)))) k h' ⟨⟩) (k undef h') ⟨⟩ ⟨⟩) J g2 ⟨⟩ ⟨⟩↔J (gv b true (.int .i64 x.order)) g2:=by
      intro b J; cases b<;>simp [gv,b5]
     have lc:∀{b:Bool} {J:VP},Join1 (fun k h'=>guardP (.bool b) true (Hp Tryz.prog true (Instr.loadAt 3 (gv b true (.pointer (some ⟨h.size,7,none⟩)))) k h' ⟨⟩) (k undef h') ⟨⟩ ⟨⟩) J g2 ⟨⟩ ⟨⟩↔J (gv b true (.int .i64 x.clen)) g2:=by
      intro b J; cases b<;>simp [gv,b7]
     simp (disch:=omega) [-Hp_eql_s,-Hp_lss_s,-Hp_leq_s,-Hp_gtr_s,-Hp_geq_s,-Split_yes,-Split_no,eql_t,eql_f,leq_t,leq_f,geq_t,geq_f,gtr_t,gtr_f,Hp_eql,Hp_lss,Hp_leq,Hp_gtr,Hp_geq,gLeq,gGeq,gAnd,fo,fc,lo,lc,b0,b2,b3,b4,b5,b6,b7,b8,b9,b10,b11,b12,b13,b14,hb3,hq4]
     refine InvokeH_func kR ?_
     refine placeH_c h0 h1 hb3 ?_
     simp (disch:=omega) [-Hp_eql_s,-Hp_lss_s,-Hp_leq_s,-Hp_gtr_s,-Hp_geq_s,-Split_yes,-Split_no,eql_t,eql_f,leq_t,leq_f,geq_t,geq_f,gtr_t,gtr_f,Hp_eql,Hp_lss,Hp_leq,Hp_gtr,Hp_geq,gLeq,gGeq,gAnd,fo,fc,lo,lc,b0,b2,b3,b4,b5,b6,b7,b8,b9,b10,b11,b12,b13,b14,hb3,hq4]
     refine InvokeH_func kR ?_
     refine listH_c h0 h1 hb3 hq4 ?_
     simp (disch:=omega) [-Hp_eql_s,-Hp_lss_s,-Hp_leq_s,-Hp_gtr_s,-Hp_geq_s,-Split_yes,-Split_no,eql_t,eql_f,leq_t,leq_f,geq_t,geq_f,gtr_t,gtr_f,Hp_eql,Hp_lss,Hp_leq,Hp_gtr,Hp_geq,gLeq,gGeq,gAnd,fo,fc,lo,lc,b0,b2,b3,b4,b5,b6,b7,b8,b9,b10,b11,b12,b13,b14,hb3,hq4]
     refine InvokeH_func kR ?_
     refine listH_c h0 h1 hb3 hq4 ?_
     simp (disch:=omega) [-Hp_eql_s,-Hp_lss_s,-Hp_leq_s,-Hp_gtr_s,-Hp_geq_s,-Split_yes,-Split_no,eql_t,eql_f,leq_t,leq_f,geq_t,geq_f,gtr_t,gtr_f,Hp_eql,Hp_lss,Hp_leq,Hp_gtr,Hp_geq,gLeq,gGeq,gAnd,fo,fc,lo,lc,b0,b2,b3,b4,b5,b6,b7,b8,b9,b10,b11,b12,b13,b14,hb3,hq4]
     refine Contains0_c ?_
     simp (disch:=omega) [-Hp_eql_s,-Hp_lss_s,-Hp_leq_s,-Hp_gtr_s,-Hp_geq_s,-Split_yes,-Split_no,eql_t,eql_f,leq_t,leq_f,geq_t,geq_f,gtr_t,gtr_f,Hp_eql,Hp_lss,Hp_leq,Hp_gtr,Hp_geq,gLeq,gGeq,gAnd,fo,fc,lo,lc,b0,b2,b3,b4,b5,b6,b7,b8,b9,b10,b11,b12,b13,b14,hb3,hq4]
     refine loop7 (h2:=g2) (bs:=[_,_,_,_,_,_,_]) rfl (hkk _ _ ⟨?_,E2.trans (Ext.trans (Ext.refl g2) extS)⟩)
     congr 1
     unfold MayB
     simp [l0,lz,lp,bl,Bool.and_assoc]
   ·by_cases l0:0≤x.l1len
    ·by_cases l2:x.l1len≤1048576
     ·by_cases lz:x.l1len=0
      ·by_cases l1z:x.l1=0
       ·skip
        simp (disch:=omega) [-Hp_eql_s,-Hp_lss_s,-Hp_leq_s,-Hp_gtr_s,-Hp_geq_s,-Split_yes,-Split_no,eql_t,eql_f,leq_t,leq_f,geq_t,geq_f,gtr_t,gtr_f,Hp_eql,Hp_lss,Hp_leq,Hp_gtr,Hp_geq,gLeq,gGeq,gAnd,fo,fc,a0,a2,a3,a4,a5,a6,a7,a8,a9,a10,a11,a12,a13,a14,hc3,hp4,loadH hA2]
        refine tables_c h0 h1 s0 s1 fun h2 e3 => ?_
        have hA3:=hA2.ext e3
        obtain ⟨b0,b1,b2,b3,b4,b5,b6,b7,b8,b9,b10,b11,b12,b13,b14⟩:=id hA3
        have hb3:=hcell_ext e3 hc3
        have hq4:=hcell_ext e3 hp4
        have lo:∀{b:Bool} {J:VP},Join1 (fun k h'=>guardP (.bool b) true (Hp Tryz.prog true (Instr.loadAt 3 (gv b true (.pointer (some ⟨h.size,5,none⟩)))) k h' ⟨⟩) (k undef h') ⟨⟩ ⟨⟩) J h2 ⟨⟩ ⟨⟩↔J (gv b true (.int .i64 x.order)) h2:=by
         intro b J; cases b<;>simp [gv,b5]
        have lc:∀{b:Bool} {J:VP},Join1 (fun k h'=>guardP (.bool b) true (Hp Tryz.prog true (Instr.loadAt 3 (gv b true (.pointer (some ⟨h.size,7,none⟩)))) k h' ⟨⟩) (k undef h') ⟨⟩ ⟨⟩) J h2 ⟨⟩ ⟨⟩↔J (gv b true (.int .i64 x.clen)) h2:=by
         intro b J; cases b<;>simp [gv,b7]
        simp (disch:=omega) [-Hp_eql_s,-Hp_lss_s,-Hp_leq_s,-Hp_gtr_s,-Hp_geq_s,-Split_yes,-Split_no,eql_t,eql_f,leq_t,leq_f,geq_t,geq_f,gtr_t,gtr_f,Hp_eql,Hp_lss,Hp_leq,Hp_gtr,Hp_geq,gLeq,gGeq,gAnd,fo,fc,lo,lc,b0,b2,b3,b4,b5,b6,b7,b8,b9,b10,b11,b12,b13,b14,hb3,hq4]
        refine InvokeH_func kR ?_
        refine placeH_c h0 h1 hb3 ?_
        simp (disch:=omega) [-Hp_eql_s,-Hp_lss_s,-Hp_leq_s,-Hp_gtr_s,-Hp_geq_s,-Split_yes,-Split_no,eql_t,eql_f,leq_t,leq_f,geq_t,geq_f,gtr_t,gtr_f,Hp_eql,Hp_lss,Hp_leq,Hp_gtr,Hp_geq,gLeq,gGeq,gAnd,fo,fc,lo,lc,b0,b2,b3,b4,b5,b6,b7,b8,b9,b10,b11,b12,b13,b14,hb3,hq4]
        refine InvokeH_func kR ?_
        refine listH_c h0 h1 hb3 hq4 ?_
        simp (disch:=omega) [-Hp_eql_s,-Hp_lss_s,-Hp_leq_s,-Hp_gtr_s,-Hp_geq_s,-Split_yes,-Split_no,eql_t,eql_f,leq_t,leq_f,geq_t,geq_f,gtr_t,gtr_f,Hp_eql,Hp_lss,Hp_leq,Hp_gtr,Hp_geq,gLeq,gGeq,gAnd,fo,fc,lo,lc,b0,b2,b3,b4,b5,b6,b7,b8,b9,b10,b11,b12,b13,b14,hb3,hq4]
        refine InvokeH_func kR ?_
        refine listH_c h0 h1 hb3 hq4 ?_
        simp (disch:=omega) [-Hp_eql_s,-Hp_lss_s,-Hp_leq_s,-Hp_gtr_s,-Hp_geq_s,-Split_yes,-Split_no,eql_t,eql_f,leq_t,leq_f,geq_t,geq_f,gtr_t,gtr_f,Hp_eql,Hp_lss,Hp_leq,Hp_gtr,Hp_geq,gLeq,gGeq,gAnd,fo,fc,lo,lc,b0,b2,b3,b4,b5,b6,b7,b8,b9,b10,b11,b12,b13,b14,hb3,hq4]
        refine loop7 (h2:=h2) (bs:=[_,_,_,_,_,_,_]) rfl (hkk _ _ ⟨?_,E2.trans (Ext.trans (e3) extS)⟩)
        congr 1
        unfold MayB
        simp [l0,l2,lz,l1z,bl,Bool.and_assoc]
       ·skip
        simp (disch:=omega) [-Hp_eql_s,-Hp_lss_s,-Hp_leq_s,-Hp_gtr_s,-Hp_geq_s,-Split_yes,-Split_no,eql_t,eql_f,leq_t,leq_f,geq_t,geq_f,gtr_t,gtr_f,Hp_eql,Hp_lss,Hp_leq,Hp_gtr,Hp_geq,gLeq,gGeq,gAnd,fo,fc,a0,a2,a3,a4,a5,a6,a7,a8,a9,a10,a11,a12,a13,a14,hc3,hp4,loadH hA2]
        refine tables_c h0 h1 s0 s1 fun h2 e3 => ?_
        have hA3:=hA2.ext e3
        obtain ⟨b0,b1,b2,b3,b4,b5,b6,b7,b8,b9,b10,b11,b12,b13,b14⟩:=id hA3
        have hb3:=hcell_ext e3 hc3
        have hq4:=hcell_ext e3 hp4
        have lo:∀{b:Bool} {J:VP},Join1 (fun k h'=>guardP (.bool b) true (Hp Tryz.prog true (Instr.loadAt 3 (gv b true (.pointer (some ⟨h.size,5,none⟩)))) k h' ⟨⟩) (k undef h') ⟨⟩ ⟨⟩) J h2 ⟨⟩ ⟨⟩↔J (gv b true (.int .i64 x.order)) h2:=by
         intro b J; cases b<;>simp [gv,b5]
        have lc:∀{b:Bool} {J:VP},Join1 (fun k h'=>guardP (.bool b) true (Hp Tryz.prog true (Instr.loadAt 3 (gv b true (.pointer (some ⟨h.size,7,none⟩)))) k h' ⟨⟩) (k undef h') ⟨⟩ ⟨⟩) J h2 ⟨⟩ ⟨⟩↔J (gv b true (.int .i64 x.clen)) h2:=by
         intro b J; cases b<;>simp [gv,b7]
        simp (disch:=omega) [-Hp_eql_s,-Hp_lss_s,-Hp_leq_s,-Hp_gtr_s,-Hp_geq_s,-Split_yes,-Split_no,eql_t,eql_f,leq_t,leq_f,geq_t,geq_f,gtr_t,gtr_f,Hp_eql,Hp_lss,Hp_leq,Hp_gtr,Hp_geq,gLeq,gGeq,gAnd,fo,fc,lo,lc,b0,b2,b3,b4,b5,b6,b7,b8,b9,b10,b11,b12,b13,b14,hb3,hq4]
        refine InvokeH_func kR ?_
        refine placeH_c h0 h1 hb3 ?_
        simp (disch:=omega) [-Hp_eql_s,-Hp_lss_s,-Hp_leq_s,-Hp_gtr_s,-Hp_geq_s,-Split_yes,-Split_no,eql_t,eql_f,leq_t,leq_f,geq_t,geq_f,gtr_t,gtr_f,Hp_eql,Hp_lss,Hp_leq,Hp_gtr,Hp_geq,gLeq,gGeq,gAnd,fo,fc,lo,lc,b0,b2,b3,b4,b5,b6,b7,b8,b9,b10,b11,b12,b13,b14,hb3,hq4]
        refine InvokeH_func kR ?_
        refine listH_c h0 h1 hb3 hq4 ?_
        simp (disch:=omega) [-Hp_eql_s,-Hp_lss_s,-Hp_leq_s,-Hp_gtr_s,-Hp_geq_s,-Split_yes,-Split_no,eql_t,eql_f,leq_t,leq_f,geq_t,geq_f,gtr_t,gtr_f,Hp_eql,Hp_lss,Hp_leq,Hp_gtr,Hp_geq,gLeq,gGeq,gAnd,fo,fc,lo,lc,b0,b2,b3,b4,b5,b6,b7,b8,b9,b10,b11,b12,b13,b14,hb3,hq4]
        refine InvokeH_func kR ?_
        refine listH_c h0 h1 hb3 hq4 ?_
        simp (disch:=omega) [-Hp_eql_s,-Hp_lss_s,-Hp_leq_s,-Hp_gtr_s,-Hp_geq_s,-Split_yes,-Split_no,eql_t,eql_f,leq_t,leq_f,geq_t,geq_f,gtr_t,gtr_f,Hp_eql,Hp_lss,Hp_leq,Hp_gtr,Hp_geq,gLeq,gGeq,gAnd,fo,fc,lo,lc,b0,b2,b3,b4,b5,b6,b7,b8,b9,b10,b11,b12,b13,b14,hb3,hq4]
        refine loop7 (h2:=h2) (bs:=[_,_,_,_,_,_,_]) rfl (hkk _ _ ⟨?_,E2.trans (Ext.trans (e3) extS)⟩)
        congr 1
        unfold MayB
        simp [l0,l2,lz,l1z,bl,Bool.and_assoc]
      ·have lp:0<x.l1len:=by omega
       simp (disch:=omega) [-Hp_eql_s,-Hp_lss_s,-Hp_leq_s,-Hp_gtr_s,-Hp_geq_s,-Split_yes,-Split_no,eql_t,eql_f,leq_t,leq_f,geq_t,geq_f,gtr_t,gtr_f,Hp_eql,Hp_lss,Hp_leq,Hp_gtr,Hp_geq,gLeq,gGeq,gAnd,fo,fc,a0,a2,a3,a4,a5,a6,a7,a8,a9,a10,a11,a12,a13,a14,hc3,hp4,loadH hA2]
       refine tables_c h0 h1 s0 s1 fun h2 e3 => ?_
       have hA3:=hA2.ext e3
       obtain ⟨b0,b1,b2,b3,b4,b5,b6,b7,b8,b9,b10,b11,b12,b13,b14⟩:=id hA3
       have hb3:=hcell_ext e3 hc3
       have hq4:=hcell_ext e3 hp4
       have lo:∀{b:Bool} {J:VP},Join1 (fun k h'=>guardP (.bool b) true (Hp Tryz.prog true (Instr.loadAt 3 (gv b true (.pointer (some ⟨h.size,5,none⟩)))) k h' ⟨⟩) (k undef h') ⟨⟩ ⟨⟩) J h2 ⟨⟩ ⟨⟩↔J (gv b true (.int .i64 x.order)) h2:=by
        intro b J; cases b<;>simp [gv,b5]
       have lc:∀{b:Bool} {J:VP},Join1 (fun k h'=>guardP (.bool b) true (Hp Tryz.prog true (Instr.loadAt 3 (gv b true (.pointer (some ⟨h.size,7,none⟩)))) k h' ⟨⟩) (k undef h') ⟨⟩ ⟨⟩) J h2 ⟨⟩ ⟨⟩↔J (gv b true (.int .i64 x.clen)) h2:=by
        intro b J; cases b<;>simp [gv,b7]
       simp (disch:=omega) [-Hp_eql_s,-Hp_lss_s,-Hp_leq_s,-Hp_gtr_s,-Hp_geq_s,-Split_yes,-Split_no,eql_t,eql_f,leq_t,leq_f,geq_t,geq_f,gtr_t,gtr_f,Hp_eql,Hp_lss,Hp_leq,Hp_gtr,Hp_geq,gLeq,gGeq,gAnd,fo,fc,lo,lc,b0,b2,b3,b4,b5,b6,b7,b8,b9,b10,b11,b12,b13,b14,hb3,hq4]
       refine InvokeH_func kR ?_
       refine placeH_c h0 h1 hb3 ?_
       simp (disch:=omega) [-Hp_eql_s,-Hp_lss_s,-Hp_leq_s,-Hp_gtr_s,-Hp_geq_s,-Split_yes,-Split_no,eql_t,eql_f,leq_t,leq_f,geq_t,geq_f,gtr_t,gtr_f,Hp_eql,Hp_lss,Hp_leq,Hp_gtr,Hp_geq,gLeq,gGeq,gAnd,fo,fc,lo,lc,b0,b2,b3,b4,b5,b6,b7,b8,b9,b10,b11,b12,b13,b14,hb3,hq4]
       refine InvokeH_func kR ?_
       refine placeH_c h0 h1 hb3 ?_
       simp (disch:=omega) [-Hp_eql_s,-Hp_lss_s,-Hp_leq_s,-Hp_gtr_s,-Hp_geq_s,-Split_yes,-Split_no,eql_t,eql_f,leq_t,leq_f,geq_t,geq_f,gtr_t,gtr_f,Hp_eql,Hp_lss,Hp_leq,Hp_gtr,Hp_geq,gLeq,gGeq,gAnd,fo,fc,lo,lc,b0,b2,b3,b4,b5,b6,b7,b8,b9,b10,b11,b12,b13,b14,hb3,hq4]
       refine InvokeH_func kR ?_
       refine listH_c h0 h1 hb3 hq4 ?_
       simp (disch:=omega) [-Hp_eql_s,-Hp_lss_s,-Hp_leq_s,-Hp_gtr_s,-Hp_geq_s,-Split_yes,-Split_no,eql_t,eql_f,leq_t,leq_f,geq_t,geq_f,gtr_t,gtr_f,Hp_eql,Hp_lss,Hp_leq,Hp_gtr,Hp_geq,gLeq,gGeq,gAnd,fo,fc,lo,lc,b0,b2,b3,b4,b5,b6,b7,b8,b9,b10,b11,b12,b13,b14,hb3,hq4]
       refine InvokeH_func kR ?_
       refine listH_c h0 h1 hb3 hq4 ?_
       simp (disch:=omega) [-Hp_eql_s,-Hp_lss_s,-Hp_leq_s,-Hp_gtr_s,-Hp_geq_s,-Split_yes,-Split_no,eql_t,eql_f,leq_t,leq_f,geq_t,geq_f,gtr_t,gtr_f,Hp_eql,Hp_lss,Hp_leq,Hp_gtr,Hp_geq,gLeq,gGeq,gAnd,fo,fc,lo,lc,b0,b2,b3,b4,b5,b6,b7,b8,b9,b10,b11,b12,b13,b14,hb3,hq4]
       refine loop7 (h2:=h2) (bs:=[_,_,_,_,_,_,_]) rfl (hkk _ _ ⟨?_,E2.trans (Ext.trans (e3) extS)⟩)
       congr 1
       unfold MayB
       simp [l0,l2,lz,lp,bl,Bool.and_assoc]
     ·have lp:0<x.l1len:=by omega
      have lz:¬x.l1len=0:=by omega
      have hA3:=hA2.ext (Ext.refl g2)
      obtain ⟨b0,b1,b2,b3,b4,b5,b6,b7,b8,b9,b10,b11,b12,b13,b14⟩:=id hA3
      have hb3:=hcell_ext (Ext.refl g2) hc3
      have hq4:=hcell_ext (Ext.refl g2) hp4
      have lo:∀{b:Bool} {J:VP},Join1 (fun k h'=>guardP (.bool b) true (Hp Tryz.prog true (Instr.loadAt 3 (gv b true (.pointer (some ⟨h.size,5,none⟩)))) k h' ⟨⟩) (k undef h') ⟨⟩ ⟨⟩) J g2 ⟨⟩ ⟨⟩↔J (gv b true (.int .i64 x.order)) g2:=by
       intro b J; cases b<;>simp [gv,b5]
      have lc:∀{b:Bool} {J:VP},Join1 (fun k h'=>guardP (.bool b) true (Hp Tryz.prog true (Instr.loadAt 3 (gv b true (.pointer (some ⟨h.size,7,none⟩)))) k h' ⟨⟩) (k undef h') ⟨⟩ ⟨⟩) J g2 ⟨⟩ ⟨⟩↔J (gv b true (.int .i64 x.clen)) g2:=by
       intro b J; cases b<;>simp [gv,b7]
      simp (disch:=omega) [-Hp_eql_s,-Hp_lss_s,-Hp_leq_s,-Hp_gtr_s,-Hp_geq_s,-Split_yes,-Split_no,eql_t,eql_f,leq_t,leq_f,geq_t,geq_f,gtr_t,gtr_f,Hp_eql,Hp_lss,Hp_leq,Hp_gtr,Hp_geq,gLeq,gGeq,gAnd,fo,fc,lo,lc,b0,b2,b3,b4,b5,b6,b7,b8,b9,b10,b11,b12,b13,b14,hb3,hq4]
      refine InvokeH_func kR ?_
      refine placeH_c h0 h1 hb3 ?_
      simp (disch:=omega) [-Hp_eql_s,-Hp_lss_s,-Hp_leq_s,-Hp_gtr_s,-Hp_geq_s,-Split_yes,-Split_no,eql_t,eql_f,leq_t,leq_f,geq_t,geq_f,gtr_t,gtr_f,Hp_eql,Hp_lss,Hp_leq,Hp_gtr,Hp_geq,gLeq,gGeq,gAnd,fo,fc,lo,lc,b0,b2,b3,b4,b5,b6,b7,b8,b9,b10,b11,b12,b13,b14,hb3,hq4]
      refine InvokeH_func kR ?_
      refine placeH_c h0 h1 hb3 ?_
      simp (disch:=omega) [-Hp_eql_s,-Hp_lss_s,-Hp_leq_s,-Hp_gtr_s,-Hp_geq_s,-Split_yes,-Split_no,eql_t,eql_f,leq_t,leq_f,geq_t,geq_f,gtr_t,gtr_f,Hp_eql,Hp_lss,Hp_leq,Hp_gtr,Hp_geq,gLeq,gGeq,gAnd,fo,fc,lo,lc,b0,b2,b3,b4,b5,b6,b7,b8,b9,b10,b11,b12,b13,b14,hb3,hq4]
      refine InvokeH_func kR ?_
      refine listH_c h0 h1 hb3 hq4 ?_
      simp (disch:=omega) [-Hp_eql_s,-Hp_lss_s,-Hp_leq_s,-Hp_gtr_s,-Hp_geq_s,-Split_yes,-Split_no,eql_t,eql_f,leq_t,leq_f,geq_t,geq_f,gtr_t,gtr_f,Hp_eql,Hp_lss,Hp_leq,Hp_gtr,Hp_geq,gLeq,gGeq,gAnd,fo,fc,lo,lc,b0,b2,b3,b4,b5,b6,b7,b8,b9,b10,b11,b12,b13,b14,hb3,hq4]
      refine InvokeH_func kR ?_
      refine listH_c h0 h1 hb3 hq4 ?_
      simp (disch:=omega) [-Hp_eql_s,-Hp_lss_s,-Hp_leq_s,-Hp_gtr_s,-Hp_geq_s,-Split_yes,-Split_no,eql_t,eql_f,leq_t,leq_f,geq_t,geq_f,gtr_t,gtr_f,Hp_eql,Hp_lss,Hp_leq,Hp_gtr,Hp_geq,gLeq,gGeq,gAnd,fo,fc,lo,lc,b0,b2,b3,b4,b5,b6,b7,b8,b9,b10,b11,b12,b13,b14,hb3,hq4]
      refine loop7 (h2:=g2) (bs:=[_,_,_,_,_,_,_]) rfl (hkk _ _ ⟨?_,E2.trans (Ext.trans (Ext.refl g2) extS)⟩)
      congr 1
      unfold MayB
      simp [l0,l2,lz,lp,bl,Bool.and_assoc]
    ·have lp:¬0<x.l1len:=by omega
     have lz:¬x.l1len=0:=by omega
     have hA3:=hA2.ext (Ext.refl g2)
     obtain ⟨b0,b1,b2,b3,b4,b5,b6,b7,b8,b9,b10,b11,b12,b13,b14⟩:=id hA3
     have hb3:=hcell_ext (Ext.refl g2) hc3
     have hq4:=hcell_ext (Ext.refl g2) hp4
     have lo:∀{b:Bool} {J:VP},Join1 (fun k h'=>guardP (.bool b) true (Hp Tryz.prog true (Instr.loadAt 3 (gv b true (.pointer (some ⟨h.size,5,none⟩)))) k h' ⟨⟩) (k undef h') ⟨⟩ ⟨⟩) J g2 ⟨⟩ ⟨⟩↔J (gv b true (.int .i64 x.order)) g2:=by
      intro b J; cases b<;>simp [gv,b5]
     have lc:∀{b:Bool} {J:VP},Join1 (fun k h'=>guardP (.bool b) true (Hp Tryz.prog true (Instr.loadAt 3 (gv b true (.pointer (some ⟨h.size,7,none⟩)))) k h' ⟨⟩) (k undef h') ⟨⟩ ⟨⟩) J g2 ⟨⟩ ⟨⟩↔J (gv b true (.int .i64 x.clen)) g2:=by
      intro b J; cases b<;>simp [gv,b7]
     simp (disch:=omega) [-Hp_eql_s,-Hp_lss_s,-Hp_leq_s,-Hp_gtr_s,-Hp_geq_s,-Split_yes,-Split_no,eql_t,eql_f,leq_t,leq_f,geq_t,geq_f,gtr_t,gtr_f,Hp_eql,Hp_lss,Hp_leq,Hp_gtr,Hp_geq,gLeq,gGeq,gAnd,fo,fc,lo,lc,b0,b2,b3,b4,b5,b6,b7,b8,b9,b10,b11,b12,b13,b14,hb3,hq4]
     refine InvokeH_func kR ?_
     refine placeH_c h0 h1 hb3 ?_
     simp (disch:=omega) [-Hp_eql_s,-Hp_lss_s,-Hp_leq_s,-Hp_gtr_s,-Hp_geq_s,-Split_yes,-Split_no,eql_t,eql_f,leq_t,leq_f,geq_t,geq_f,gtr_t,gtr_f,Hp_eql,Hp_lss,Hp_leq,Hp_gtr,Hp_geq,gLeq,gGeq,gAnd,fo,fc,lo,lc,b0,b2,b3,b4,b5,b6,b7,b8,b9,b10,b11,b12,b13,b14,hb3,hq4]
     refine InvokeH_func kR ?_
     refine listH_c h0 h1 hb3 hq4 ?_
     simp (disch:=omega) [-Hp_eql_s,-Hp_lss_s,-Hp_leq_s,-Hp_gtr_s,-Hp_geq_s,-Split_yes,-Split_no,eql_t,eql_f,leq_t,leq_f,geq_t,geq_f,gtr_t,gtr_f,Hp_eql,Hp_lss,Hp_leq,Hp_gtr,Hp_geq,gLeq,gGeq,gAnd,fo,fc,lo,lc,b0,b2,b3,b4,b5,b6,b7,b8,b9,b10,b11,b12,b13,b14,hb3,hq4]
     refine InvokeH_func kR ?_
     refine listH_c h0 h1 hb3 hq4 ?_
     simp (disch:=omega) [-Hp_eql_s,-Hp_lss_s,-Hp_leq_s,-Hp_gtr_s,-Hp_geq_s,-Split_yes,-Split_no,eql_t,eql_f,leq_t,leq_f,geq_t,geq_f,gtr_t,gtr_f,Hp_eql,Hp_lss,Hp_leq,Hp_gtr,Hp_geq,gLeq,gGeq,gAnd,fo,fc,lo,lc,b0,b2,b3,b4,b5,b6,b7,b8,b9,b10,b11,b12,b13,b14,hb3,hq4]
     refine loop7 (h2:=g2) (bs:=[_,_,_,_,_,_,_]) rfl (hkk _ _ ⟨?_,E2.trans (Ext.trans (Ext.refl g2) extS)⟩)
     congr 1
     unfold MayB
     simp [l0,lz,lp,bl,Bool.and_assoc]
  ·obtain ⟨rfl,e3⟩:=hx
   by_cases hB:MayB x
   ·simp (disch:=omega) [hB]
    exact ht _ e3 ⟨hMA,hB⟩
   ·simp (disch:=omega) [hB]
    exact hf _ e3 (fun m=>hB m.2)
 ·have hf1:=hf g e1 (fun m=>hMA m.1)
  obtain ⟨a0,a1,a2,-⟩:=hA
  by_cases c1:x.bits<9
  ·simp (disch:=omega) [a0,a1,a2,c1]
   exact hf1
  by_cases c2:16<x.bits
  ·simp (disch:=omega) [a0,a1,a2,c1,c2]
   exact hf1
  by_cases c3:1<x.flags
  ·simp (disch:=omega) [a0,a1,a2,c1,c2,c3]
   exact hf1
  by_cases c4:x.size<0
  ·simp (disch:=omega) [a0,a1,a2,c1,c2,c3,c4]
   exact hf1
  by_cases c5:67108864<x.size
  ·simp (disch:=omega) [a0,a1,a2,c1,c2,c3,c4,c5]
   exact hf1
  by_cases c6:x.size%512=0
  ·exact absurd ⟨by omega,by omega,by omega,by omega,by omega,c6⟩ hMA
  ·simp (disch:=omega) [a0,a1,a2,c1,c2,c3,c4,c5,c6]
   exact hf1
end Go.Proofs.YtdccfkffabngjaaGreat
set_option linter.unusedSimpArgs false
set_option linter.unusedVariables false
namespace Go.Proofs.YtdccfkffabngjaaGreat
open Go.Vc
variable {K:VP} {h:Heap}

def Sns (h:Heap) (v:Value) (xs:List Sn):Prop:=Slc 4 h v (fun us x=>us=x.cells) xs
def GoodL (xs:List Sn) (b:Int):Prop:=(∀x∈xs,SnOk x b)∧(xs.map Sn.name).Nodup
def SnsB (xs:List Sn):List UInt8:=xs.flatMap Sn.bytes
open Classical in
noncomputable def putR (xs:List Sn) (b:Int):List UInt8×Int :=
 if ¬(9≤b∧b≤16) then ([],2) else if GoodL xs b then (if 64<xs.length then ([],3) else (SnsB xs,0)) else ([],2)
end Go.Proofs.YtdccfkffabngjaaGreat
set_option linter.unusedSimpArgs false
set_option linter.unusedVariables false
namespace Go.Proofs.YtdccfkffabngjaaGreat
open Go.Vc
variable {K:VP} {h:Heap}

structure Acc (h h':Heap) (u:Value) (L:List UInt8):Prop where
 ext:Ext h h'
 own:OwnS 1 h' u (L.map byteV)
 blk:∀b,blkV u=some b→h.size≤b
theorem acc_app {h1 h2:Heap} {u v:Value} {L M:List UInt8} (a:Acc h h1 u L) (e:Ext h1 h2) (hB:Bytes h2 v M) (hl:L.length+M.length<1000000000) (H:∀u' h3,Acc h h3 u' (L++M)→K u' h3) :
 Hp Tryz.prog false (Builtin.append_ #[52,52] 52 #[u,v]) K h2 ⟨⟩:=by
 refine Hp_appB (e:=5) kR kR (a.own.ext e) hB omg fun v4 h4 hO4 hM4 hF4 _ => ?_
 have z1:=a.ext.size
 have z2:=e.size
 exact H _ _ ⟨hM4.ext_from (a.ext.trans e) (fun b hb hb'=>by have:=a.blk b hb'; omega),hO4,fun b hb=>(hF4 b hb).elim (a.blk b) (fun x=>by omega)⟩

end Go.Proofs.YtdccfkffabngjaaGreat
set_option linter.unusedSimpArgs false
set_option linter.unusedVariables false
namespace Go.Proofs.YtdccfkffabngjaaGreat
open Go.Vc
variable {K:VP} {h:Heap}

def numV (l:List UInt8) (p n:Nat):Int×Bool:=(IntKind.i64.wrap (getR l p n).1,decide ((getR l p n).2=0)&&decide ((getR l p n).1<4611686018427387904))
def Rd (h:Heap) (B:Nat) (v:Value) (p:Nat) (f:Bool):Prop:=Cel h B 0 v∧Cel h B 1 (.int .i64 p)∧Cel h B 2 (.bool f)
theorem getR_in {l:List UInt8} {p n:Nat} (hn:n=1∨n=4∨n=8) (hp:p+n≤l.length):getR l p n=(leN ((l.drop p).take n),0):=by
 unfold getR
 rw [if_neg omg,if_pos omg]
 simp
def nameV (l:List UInt8) (p:Nat) (f:Bool):List UInt8×Nat×Bool :=
 if f=true∧(numV l p 1).2=true∧(numV l p 1).1≤(l.length:Int)-(p+1:Nat) then ((l.drop (p+1)).take (numV l p 1).1.toNat,p+1+(numV l p 1).1.toNat,true) else ([],p+1,false)
def snapV (l:List UInt8) (p:Nat) (f:Bool):Sn×Nat×Bool :=
 let q:=(nameV l p f).2.1
 (⟨(nameV l p f).1,(numV l q 8).1,(numV l (q+8) 4).1,(numV l (q+8+4) 8).1⟩,q+8+4+8,((((nameV l p f).2.2&&(numV l q 8).2)&&(numV l (q+8) 4).2)&&(numV l (q+8+4) 8).2))

end Go.Proofs.YtdccfkffabngjaaGreat

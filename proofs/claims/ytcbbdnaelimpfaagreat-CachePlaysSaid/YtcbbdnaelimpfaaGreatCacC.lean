/- Cache: a new one over a new file; counts; pages. Cache,plainly: what holds between calls. Cache,plainly: what is read through it. Cache,plainly: pages that are not dirty are as the file is; what is read stays. Cache,plainly: where no step fails; how many are written. Cache: the calls,with all that holds between them. Cache: more calls,with all that holds between them. Cache: the law's own trial. Cache,plainly: who reaches whom behind one more waiting; files never shrink. -/
import Derived.Test.YtcbbdnaelimpfaaGreatCacB
import Derived.Test.YtcbbdnaelimpfaaGreatStoB
set_option linter.unusedSimpArgs false
set_option linter.unusedVariables false
namespace Go.Proofs.YtcbbdnaelimpfaaGreat
open Go.Vc Go.Sort
variable {K:VP} {h:Heap}

theorem num_c {e:Int} (H:K (.int .i64 e) h):CallsH Tryz.prog 11 #[.int .i64 e] h K ⟨⟩:=by
 refine n11_calls ?_
 unfold n11; try delta vF vG vC vD vJ vV vk vt
 exact H
def newC (sp bits room km pm wm:Nat):Ca:=⟨sp,bits,room,[],km,[],pm,[],wm,0,0,0,0,0⟩
set_option maxHeartbeats 2000000 in
theorem cNew_c {sp:Nat} {s:St} {p:Ps} {f:Fl} {bits room:Nat} (a:StAt h sp s) (ps:PsAt s p) (hf:p.f=some f) (b0:9≤bits) (b1:bits≤16) (r0:1≤room) (r1:room≤1024)
 (H:∀h' o km pm wm,Ext h h'→CAt h' o (newC sp bits room km pm wm) s→h.size≤o→(∀b,(newC sp bits room km pm wm).foot o b→h.size≤b)→K (.tuple #[ptrV o,.int .i64 0]) h'):CallsH Tryz.prog 10 #[ptrV sp,str fN,.int .i64 bits,.int .i64 room] h K ⟨⟩:=by
 refine n10_calls ?_
 unfold n10; try delta vF vG vC vD vJ vV vk vt
 unfold ptrV
 simp (disch:=omega)
 rw [show (.pointer (some ⟨sp,0,none⟩):Value)=ptrV sp from rfl]
 refine Size_c a dM (fun h1 e1 hne => ?_) (fun h1 x e1 hx hxn => ?_)
 ·rw [fErr_ok ps,hf] at hne; exact absurd rfl hne
 have hz1:=e1.size
 simp (disch:=omega) [Hp_makeMap,ptrV]
 refine (⟨_,rfl⟩:∃g,g=(((h1.push (.map #[] 0)).push (.map #[] 0)).push (.map #[] 0)).push (.cells (newC sp bits room h1.size (h1.size+1) (h1.size+2)).cells cT)).elim fun h2 eh2 => ?_
 have e2:Ext h1 h2:=by rw [eh2]; exact extS
 have mk:∀i<3,MapK ik h2 (h1.size+i) ([]:List (Int×Value)):=fun i hi=>by
  refine ⟨[],0,?_,rfl,by simp,by simp,by simp⟩
  rw [eh2,get_push (by simp; omega)]
  have h3:i=0∨i=1∨i=2:=by omega
  rcases h3 with rfl|rfl|rfl
  ·rw [get_push (by simp<;>omega),get_push (by simp<;>omega),Nat.add_zero,get_pushed rfl]
  ·rw [get_push (by simp<;>omega),get_pushed sM]
  ·rw [get_pushed sM]
 have qc:h2[h1.size+3]? = some (.cells (newC sp bits room h1.size (h1.size+1) (h1.size+2)).cells cT):=by rw [eh2]; exact get_pushed sM
 have co:CoAt h2 (h1.size+3) (newC sp bits room h1.size (h1.size+1) (h1.size+2)):=by
  refine ⟨qc,mk 0 omg,fun x hx=>(by cases hx),mk 1 omg,mk 2 omg,fun x hx=>(by cases hx),fun x hx=>(by cases hx),?_⟩
  refine { b0:=b0,b1:=b1,r0:=r0,r1:=r1,few:=Nat.zero_le _,len:=fun x hx=>(by cases hx),num:=fun x hx=>(by cases hx),clk:=(by show 0<1000000; decide),hit:=Nat.zero_le _,load:=Nat.zero_le _,wfew:=(by show 0<10000; decide),qfew:=fun x hx=>(by cases hx),pbs := .nil,bbs := .nil,m1 := ?_,m2 := ?_,m3 := ?_,m4:=fun x hx=>(by cases hx),m5 := .nil }
  ·show h1.size≠h1.size+1; omega
  ·show h1.size≠h1.size+2; omega
  ·show h1.size+1≠h1.size+2; omega
 have fr:∀b,(newC sp bits room h1.size (h1.size+1) (h1.size+2)).foot (h1.size+3) b→h1.size≤b:=by
  rintro b (e|e|e|e|⟨w,hw,e⟩|⟨w,hw,e⟩|⟨w,hw,e⟩)
  ·omega
  ·have e':b=h1.size:=e; omega
  ·have e':b=h1.size+1:=e; omega
  ·have e':b=h1.size+2:=e; omega
  ·cases hw
  ·cases hw
  ·cases hw
 have a2:=(a.ext e1).ext e2
 have key:=H h2 (h1.size+3) h1.size (h1.size+1) (h1.size+2) (e1.trans e2) ⟨co,a2,fun b hb e=>by have:=fr b hb; have:=a.lt e; omega,fun y hy q hq b hb e=>by have:=fr b e; have:=(a.fl y hy).plt hq hb; omega,Nat.zero_le _,Nat.zero_le _⟩ omg (fun b hb=>by have:=fr b hb; omega)
 rw [eh2] at key
 exact key
theorem fas_nil:Fas h (.slice none 0 0) []:=⟨.inl ⟨rfl,rfl,rfl⟩,⟨none,0,rfl,Nat.le_refl _⟩,by decide,fun f hf=>by cases hf⟩
def fl0 (n:Nat):Fl:=⟨fN,zeros n,[]⟩
set_option maxHeartbeats 4000000 in
theorem file_c {n:Nat} {v:Value} {fs:List (Int×Int)} (hn:n≤268435456) (hf:Fas h v fs) (hl:fs.length<1000000)
 (H1:∀h',Ext h h'→fs.all rightF=false→K (.pointer none) h')
 (H:∀h' sp s,Ext h h'→fs.all rightF=true→StAt h' sp s→PsAt s ⟨some (fl0 n),fs,2⟩→(∀b,s.foot sp b→h.size≤b)→(∀y∈s.F,y.qs=[])→K (ptrV sp) h'):CallsH Tryz.prog 9 #[.int .i64 n,v] h K ⟨⟩:=by
 refine n9_calls ?_
 unfold n9; try delta vF vG vC vD vJ vV vk vt
 refine New_c fas_nil dM (fun h1 e1 hr=>by cases hr) (fun h1 sp s e1 _ hF hfa hst hsp hfo st => ?_)
 unfold ptrV
 simp (disch:=omega)
 refine num_c ?_
 simp (disch:=omega)
 rw [show (.pointer (some ⟨sp,0,none⟩):Value)=ptrV sp from rfl,show str [102]=str fN from rfl]
 have g1:s.get fN=none:=by unfold St.get; rw [hF]; rfl
 have ce:cErr s fN=0:=by unfold cErr; rw [if_pos okN_f,g1]; dsimp only; rw [if_neg (by rw [hF]; decide)]
 have fe:fateE s.fates=0:=by rw [hfa]; rfl
 refine Create_c st dM omg (fun h2 e2 hne=>absurd ce hne) (fun h2 fv _ hne=>absurd fe hne) (fun h2 fv b _ _ _ _ u2 => ?_)
 simp (disch:=omega)
 refine num_c ?_
 simp (disch:=omega)
 obtain ⟨s2,hs2⟩:∃s2,s2=({ s.stepped fv with F:=s.F++[newFh fN b] }:St):=⟨_,rfl⟩
 rw [←hs2] at u2
 have hF2:s2.F=[newFh fN b]:=by rw [hs2]; show s.F++_=_; rw [hF]; rfl
 have hfa2:s2.fates=[]:=by rw [hs2]; show s.fates.tail=_; rw [hfa]; rfl
 have hst2:s2.steps=1:=by rw [hs2]; show s.steps+1=_; rw [hst]
 have g2:s2.get fN=some (newFh fN b):=by unfold St.get; rw [hF2]; rfl
 have re:rErr s2 fN (n:Int)=0:=by unfold rErr; rw [if_pos okN_f,g2]; dsimp only; rw [if_neg omg,if_neg omg]
 have fe2:fateE s2.fates=0:=by rw [hfa2]; rfl
 refine Resize_c u2.st dM omg omg omg (fun h3 e3 hne=>absurd re hne) (fun h3 fv3 hne=>absurd fe2 hne) (fun h3 A B x x' fv3 _ hFx hxn _ _ hxn' hxf u3 => ?_)
 simp (disch:=omega)
 refine num_c ?_
 simp (disch:=omega)
 rw [hF2] at hFx
 obtain ⟨rfl,rfl,rfl⟩:=one_split hFx
 obtain ⟨s3,hs3⟩:∃s3,s3=({ s2.stepped fv3 with F:=[x'] }:St):=⟨_,rfl⟩
 have u3:SUpd h2 h3 sp s2 s3:=by rw [hs3]; exact u3
 have e12:=e1
 have sz1:=e1.size
 have sz2:=u2.mod.size
 have hx'f:x'.f=fl0 n:=by
  rw [hxf,Int.toNat_natCast]
  unfold fl0 Fl.size growL
  show (⟨fN,((([]:List UInt8)++zeros (n-0)).take n),([]:List Pc)⟩:Fl)=_
  rw [Nat.sub_zero,List.nil_append,List.take_of_length_le (by rw [zeros_len]; exact Nat.le_refl _)]
 have hq:x'.qs=[]:=by
  have:=congrArg Fl.ps hx'f
  exact List.map_eq_nil_iff.1 this
 have fo:∀b,s3.foot sp b→h.size≤b:=fun b hb=>by
  rcases u3.foot b hb with e|e
  ·rcases u2.foot b e with e|e
   ·exact hfo b e
   ·omega
  ·omega
 have M:Ext h h3:=by
  refine Mod.ext_from (S:=s2.foot sp) (Mod.ext_from (S:=s.foot sp) e1 u2.mod (fun b hb e=>by have:=hfo b e; omega)) u3.mod (fun b hb e => ?_)
  rcases u2.foot b e with e|e
  ·have:=hfo b e; omega
  ·omega
 have hfa3:s3.fates=[]:=by rw [hs3]; show s2.fates.tail=_; rw [hfa2]; rfl
 have hst3:s3.steps=2:=by rw [hs3]; show s2.steps+1=_; rw [hst2]
 have hF3:s3.F=[x']:=by rw [hs3]
 refine Feed_c u3.st (hf.ext M) (by rw [hfa3]; simp; omega) (fun h4 e4 hr => ?_) (fun h4 fv4 hr u4 => ?_)
 ·simp (disch:=omega)
  refine num_c ?_
  simp (disch:=omega)
  exact H1 h4 (M.trans e4) hr
 ·simp (disch:=omega)
  refine num_c ?_
  simp (disch:=omega)
  have sz3:=u3.mod.size
  refine H h4 sp _ (u4.mod.ext_from M (fun b hb e=>by have:=fo b e; omega)) hr u4.st ⟨?_,hst3,x',hF3,hx'f,?_⟩ (fun b hb => ?_) (fun y hy => ?_)
  ·show s3.fates++fs=fs
   rw [hfa3]; rfl
  ·rw [hxn']; exact hxn
  ·rcases u4.foot b hb with e|e
   ·exact fo b e
   ·have:=M.size; omega
  ·have hy':y∈s3.F:=hy
   rw [hF3] at hy'
   have:y=x':=by simpa using hy'
   rw [this]; exact hq
end Go.Proofs.YtcbbdnaelimpfaaGreat
set_option linter.unusedSimpArgs false
set_option linter.unusedVariables false
namespace Go.Proofs.YtcbbdnaelimpfaaGreat
open Go.Vc Go.Sort

def OpenW (c:Ca):Prop:=∀m q,q∈c.ws m→c.opn q=true
def Acyc (c:Ca):Prop:=∃(rk:Int→Nat) (f:Nat),(∀n,rk n<f)∧Ranks rk c
structure Wf (k:Nat) (c:Ca):Prop where
 inv:Inv c
 opn:OpenW c
 acyc:Acyc c
 lim:Lim k c
theorem Acyc.less {c c':Ca} (a:Acyc c) (l:∀m q,q∈c'.ws m→q∈c.ws m):Acyc c':=by
 obtain ⟨rk,f,h1,h2⟩:=a
 exact ⟨rk,f,h1,fun m q e=>h2 m q (l m q e)⟩
theorem Lim.mono {k j:Nat} {c:Ca} (a:Lim k c) (h:k≤j):Lim j c:=⟨Nat.le_trans a.1 h,fun w hw=>Nat.le_trans (a.2 w hw) h⟩
theorem Lim.settle {k:Nat} {c:Ca} (a:Lim k c):Lim k c.settle:=by
 refine ⟨?_,fun w hw => ?_⟩
 ·show (c.W.map _).length≤k
  rw [List.length_map]; exact a.1
 ·obtain ⟨w0,h0,rfl⟩:=List.mem_map.1 hw
  exact Nat.le_trans (List.length_filter_le _ _) (a.2 w0 h0)
theorem Lim.of {k:Nat} {c c':Ca} (a:Lim k c) (h1:c'.W.length≤c.W.length) (h2:∀w∈c'.W,∃w0∈c.W,w.qs.length≤w0.qs.length):Lim k c':=⟨Nat.le_trans h1 a.1,fun w hw=>by
 obtain ⟨w0,h3,h4⟩:=h2 w hw
 exact Nat.le_trans h4 (a.2 w0 h3)⟩
theorem cleaned_opn {c:Ca} {n q:Int} (h:c.opn q=true):(c.cleaned n).opn q=true:=by
 unfold Ca.opn at h ⊢
 rw [clean_dirty]
 have hp:∀q,q∈c.pend→q∈(c.cleaned n).pend:=fun q hq=>by
  show q∈(if n∈c.pend then c.pend else c.pend++[n])
  split
  ·exact hq
  ·exact List.mem_append_left _ hq
 by_cases e:q=n
 ·have:q∈(c.cleaned n).pend:=by
   show q∈(if n∈c.pend then c.pend else c.pend++[n])
   rw [e]
   split
   ·assumption
   ·simp
  simp [this]
 ·rw [if_neg e]
  rcases (by simpa using h:c.dirty q=true∨q∈c.pend) with h1|h1
  ·simp [h1]
  ·simp [hp q h1]
theorem Mic.wf {k:Nat} {x y:Cx} (m:Mic x y) (a:Wf k x.1):Wf k y.1:=by
 refine ⟨a.inv.less m.less m.same,?_,a.acyc.less m.less.ws,?_⟩
 ·cases m with
  | flush =>
   unfold flushP
   split
   ·intro m q hq
    rw [flushed_ws] at hq
    have hd:x.1.dirty q=true:=(List.mem_filter.1 hq).2
    show (x.1.dirty q || _)=true
    rw [hd]; rfl
   ·exact a.opn
  | write n g h1 h2 h3 =>
   unfold writeP
   split
   ·intro m q hq
    rw [cleaned_ws] at hq
    split at hq
    ·cases hq
    ·exact cleaned_opn (a.opn m q hq)
   ·exact a.opn
 ·cases m with
  | flush =>
   unfold flushP
   split
   ·exact (Lim.of (c:=x.1) (c':={ x.1 with flushes:=x.1.flushes+1,pend:=[] }) a.lim (Nat.le_refl _) (fun w hw=>⟨w,hw,Nat.le_refl _⟩)).settle
   ·exact a.lim
  | write n g h1 h2 h3 =>
   unfold writeP
   split
   ·exact a.lim.of (List.length_filter_le _ _) (fun w hw=>⟨w,(List.mem_filter.1 hw).1,Nat.le_refl _⟩)
   ·exact a.lim
theorem Mics.wf {k:Nat} {x y:Cx} (m:Mics x y) (a:Wf k x.1):Wf k y.1:=by
 induction m with
 | refl=>exact a
 | tail _ m ih=>exact m.wf ih
theorem drop_dirty {c:Ca} {n m:Int}:(c.dropP n).dirty m=if m=n then false else c.dirty m:=by
 unfold Ca.dirty
 rw [drop_get]
 by_cases e:m=n
 ·rw [if_pos e,if_pos e]
 ·rw [if_neg e,if_neg e]
theorem Wf.drop {k:Nat} {c:Ca} {n:Int} (a:Wf k c) (h:c.dirty n=false):Wf k (c.dropP n):=by
 refine ⟨a.inv.drop n,fun m q hq => ?_,a.acyc.less (fun _ _ e=>e),a.lim⟩
 have:=a.opn m q hq
 unfold Ca.opn at this ⊢
 rw [drop_dirty]
 by_cases e:q=n
 ·rw [e,h] at this; rw [if_pos e,e]; exact this
 ·rw [if_neg e]; exact this
theorem freeP_wf {rk:Int→Nat} {f k:Nat} (hf:∀n,rk n<f) {x:Cx} (hr:Ranks rk x.1) (a:Wf k x.1):Wf k (freeP f x).1.1:=by
 obtain ⟨y,m,-,h2⟩:=freeP_spec hf x hr
 rcases h2 with h2|⟨g,-,-,h3,h2⟩
 ·rw [h2]; exact m.wf a
 ·rw [h2]; exact (m.wf a).drop h3
theorem touch_dirty (c:Ca) (n m:Int):(c.touched n).dirty m=c.dirty m:=by
 unfold Ca.dirty
 rw [touch_get]
 cases c.get m with
 | none=>rfl
 | some g=>exact (touch_same n _ g).2.2.2.2
theorem added_dirty {c:Ca} {g:Pge} (hg:c.get g.n=none) (hd:g.d=false) (m:Int):(c.added g).dirty m=c.dirty m:=by
 unfold Ca.dirty Ca.get Ca.added
 dsimp only
 rw [List.find?_append]
 cases hf:c.P.find? (fun x=>decide (x.n=m)) with
 | some y=>rfl
 | none =>
  rw [List.find?_cons]
  by_cases e:g.n=m
  ·simp [e,hd]
  ·simp [e]
theorem useP_wf {rk:Int→Nat} {f k:Nat} (hf:∀n,rk n<f) {x:Cx} {n:Int} {pb bb:Nat} (hr:Ranks rk x.1) (a:Wf k x.1) (hn:(x.1.P.map (·.n)).Nodup):Wf k (useP f n pb bb x).1.1:=by
 have aF:=freeP_wf hf hr a
 have gF:=fun h=>freeP_get (n:=n) hf hr (x:=x) h
 have nF:((freeP f x).1.1.P.map (·.n)).Nodup:=by
  obtain ⟨y,m,-,h2⟩:=freeP_spec hf x hr
  have hm:y.1.P.map (·.n)=x.1.P.map (·.n):=m.less.map _ (fun _=>rfl)
  rcases h2 with h2|⟨g,-,-,-,h2⟩
  ·rw [h2,hm]; exact hn
  ·rw [h2]
   have:(y.1.P.map (·.n)).Nodup:=by rw [hm]; exact hn
   exact this.sublist (List.filter_sublist.map _)
 unfold useP
 cases x.2.f with
 | none=>exact a
 | some f0 =>
  dsimp only
  cases hg:x.1.get n with
  | some g =>
   dsimp only
   have i1:Inv (x.1.hit1.touched n):=Inv.touched hn (fun x hx _=>a.inv.used x hx) (fun x hx y hy _ _ e=>nodup_in a.inv.us hx hy e) (by have:=a.inv.hit; show x.1.hits+1≤x.1.clock+1; omega) (by have:=a.inv.load; show x.1.loads≤x.1.clock+1; omega)
   refine ⟨i1,fun m q hq => ?_,a.acyc.less (fun _ _ e=>e),a.lim⟩
   have:=a.opn m q hq
   show (Ca.dirty (x.1.hit1.touched n) q || _)=true
   rw [touch_dirty]; exact this
  | none =>
   dsimp only
   split
   ·have gn:=gF hg
    have aN:∀g:Pge,g.n=n→g.d=false→Wf k (((freeP f x).1.1.added g).touched n):=fun g h1 h2=>by
     have hnn:(((freeP f x).1.1.added g).P.map (·.n)).Nodup:=by
      show (((freeP f x).1.1.P++[g]).map Pge.n).Nodup
      rw [List.map_append,List.nodup_append]
      refine ⟨nF,by simp,fun y hy z hz e => ?_⟩
      obtain ⟨w,hw,rfl⟩:=List.mem_map.1 hy
      simp at hz
      exact get_none_ gn w hw (by rw [e,hz,h1])
     have hP:∀y∈((freeP f x).1.1.added g).P,y.n≠n→y∈(freeP f x).1.1.P:=fun y hy hne=>by
      rcases List.mem_append.1 hy with h3|h3
      ·exact h3
      ·have:y=g:=by simpa using h3
       exact absurd (by rw [this]; exact h1) hne
     have i1:Inv (((freeP f x).1.1.added g).touched n):=Inv.touched hnn (fun y hy hne=>aF.inv.used y (hP y hy hne)) (fun y hy z hz h3 h4 e=>nodup_in aF.inv.us (hP y hy h3) (hP z hz h4) e) (by have:=aF.inv.hit; show (freeP f x).1.1.hits≤(freeP f x).1.1.clock+1; omega) (by have:=aF.inv.load; show (freeP f x).1.1.loads+1≤(freeP f x).1.1.clock+1; omega)
     refine ⟨i1,fun m q hq => ?_,aF.acyc.less (fun _ _ e=>e),aF.lim⟩
     have:=aF.opn m q hq
     show (Ca.dirty (((freeP f x).1.1.added g).touched n) q || _)=true
     rw [touch_dirty,added_dirty (by rw [h1]; exact gn) h2]; exact this
    exact aN _ rfl rfl
   ·exact aF
theorem put_get {c:Ca} {n m:Int} {k:Nat} {b:List UInt8}:(c.wrote n k b).get m=(c.get m).map (Pge.put n k b):=by
 unfold Ca.get Ca.wrote
 dsimp only
 rw [List.find?_map]
 congr 2
 funext x
 unfold Pge.put
 simp only [Function.comp]
 split<;>rfl
theorem put_dirty {c:Ca} {n m:Int} {k:Nat} {b:List UInt8}:(c.wrote n k b).dirty m=(c.dirty m || (decide (m=n)&&decide (0<b.length)&&(c.get m).isSome)):=by
 unfold Ca.dirty
 rw [put_get]
 cases hg:c.get m with
 | none=>simp
 | some g =>
  have hm:=(get_mem hg).2
  simp only [Option.map_some]
  unfold Pge.put
  by_cases e:m=n
  ·rw [if_pos (hm.trans e)]; simp [e]
  ·rw [if_neg (by rw [hm]; exact e)]; simp [e]
theorem Wf.wrote {k:Nat} {c:Ca} (a:Wf k c) (n:Int) (j:Nat) (b:List UInt8):Wf k (c.wrote n j b):=by
 have hu:(c.P.map (Pge.put n j b)).map (·.u)=c.P.map (·.u):=by
  rw [List.map_map]
  apply List.map_congr_left
  intro x _
  simp only [Function.comp]
  unfold Pge.put; split<;>rfl
 refine ⟨⟨fun x hx => ?_,?_,a.inv.hit,a.inv.load⟩,fun m q hq => ?_,a.acyc.less (fun _ _ e=>e),a.lim⟩
 ·have:x.u∈(c.P.map (Pge.put n j b)).map (·.u):=List.mem_map_of_mem hx
  rw [hu] at this
  obtain ⟨y,hy,he⟩:=List.mem_map.1 this
  rw [←he]; exact a.inv.used y hy
 ·show ((c.P.map (Pge.put n j b)).map (·.u)).Nodup
  rw [hu]; exact a.inv.us
 ·have:=a.opn m q hq
  unfold Ca.opn at this ⊢
  rw [put_dirty]
  show (c.dirty q || _ || decide (q∈c.pend))=true
  cases hd:c.dirty q with
  | true=>rfl
  | false=>rw [hd] at this; rw [Bool.false_or] at this; rw [this]; simp
theorem OpenW.beh {c:Ca} (a:OpenW c) {x q:Int}:q∈c.beh x↔q∈c.ws x:=by
 rw [beh_mem]
 exact ⟨fun h=>h.1,fun h=>⟨h,a x q h⟩⟩
theorem Wf.waited {k:Nat} {c c':Ca} {n t:Int} (a:Wf k c) (w:Waited c c' n t k) (h:¬(n=t∨Reach c n t)) (ho:c.opn t=true):Wf (k+1) c':=by
 have hs:=w.same
 have hop:∀q,c'.opn q=c.opn q:=fun q=>by rw [hs]; rfl
 have hinv:Inv c':=by rw [hs]; exact ⟨a.inv.used,a.inv.us,a.inv.hit,a.inv.load⟩
 refine ⟨hinv,fun m q hq => ?_,?_,w.lim⟩
 ·rw [hop]
  rcases (w.ws m q).1 hq with h1|⟨-,h1⟩
  ·exact a.opn m q h1
  ·rw [h1]; exact ho
 ·obtain ⟨rk,f,hf,hr⟩:=a.acyc
  classical
  refine ⟨fun m=>if m=n∨Reach c n m then rk m+rk t+1 else rk m,f+f,fun m => ?_,fun m q hq => ?_⟩
  ·have h1:=hf m
   have h2:=hf t
   dsimp only
   split<;>omega
  ·dsimp only
   rcases (w.ws m q).1 hq with h1|⟨h1,h2⟩
   ·have hrk:=hr m q h1
    by_cases hq':q=n∨Reach c n q
    ·have hm:m=n∨Reach c n m := .inr (Reach.iff.2 ⟨q,a.opn.beh.2 h1,hq'⟩)
     rw [if_pos hq',if_pos hm]; omega
    ·rw [if_neg hq']
     split<;>omega
   ·subst h1 h2
    rw [if_neg (fun e=>h (e.imp Eq.symm id)),if_pos (.inl rfl)]; omega
theorem Wf.dropC {k:Nat} {c:Ca} {n:Int} (a:Wf k c):Wf k (dropC n c):=by
 have h1:Inv (Go.Proofs.YtcbbdnaelimpfaaGreat.dropC n c):=⟨fun x hx=>a.inv.used x (List.mem_filter.1 hx).1,a.inv.us.sublist (List.filter_sublist.map _),a.inv.hit,a.inv.load⟩
 have hw:∀m q,q∈(Go.Proofs.YtcbbdnaelimpfaaGreat.dropC n c).ws m→q∈c.ws m∧(Go.Proofs.YtcbbdnaelimpfaaGreat.dropC n c).opn q=true:=fun m q hq=>by
  unfold Go.Proofs.YtcbbdnaelimpfaaGreat.dropC at hq
  rw [settle_ws] at hq
  obtain ⟨h2,h3⟩:=List.mem_filter.1 hq
  refine ⟨?_,h3⟩
  have h4:({ c.dropP n with W:=c.W.filter fun w => !decide (w.n=n) }:Ca).ws m=(c.cleaned n).ws m:=rfl
  rw [h4,cleaned_ws] at h2
  split at h2
  ·cases h2
  ·exact h2
 refine ⟨h1,fun m q hq=>(hw m q hq).2,a.acyc.less (fun m q hq=>(hw m q hq).1),?_⟩
 exact (Lim.of (c:=c) (c':={ c.dropP n with W:=c.W.filter fun w => !decide (w.n=n) }) a.lim (List.length_filter_le _ _) (fun w hw=>⟨w,(List.mem_filter.1 hw).1,Nat.le_refl _⟩)).settle
theorem wf_new (sp bits room km pm wm:Nat):Wf 0 (newC sp bits room km pm wm) :=
 ⟨⟨fun x hx=>(by cases hx),.nil,Nat.zero_le _,Nat.zero_le _⟩,fun m q hq=>(by cases hq),⟨fun _=>0,1,fun _=>Nat.zero_lt_one,fun m q hq=>(by cases hq)⟩,⟨Nat.le_refl _,fun w hw=>(by cases hw)⟩⟩
end Go.Proofs.YtcbbdnaelimpfaaGreat
set_option linter.unusedSimpArgs false
set_option linter.unusedVariables false
namespace Go.Proofs.YtcbbdnaelimpfaaGreat
open Go.Vc Go.Sort

def bt (l:List UInt8) (i:Nat):UInt8:=l.getD i 0
theorem bt_get {l:List UInt8} {i:Nat} (h:i<l.length):bt l i=l[i]:=by unfold bt; rw [List.getD_eq_getElem?_getD,List.getElem?_eq_getElem h]; rfl
theorem bt_none {l:List UInt8} {i:Nat} (h:l.length≤i):bt l i=0:=by unfold bt; rw [List.getD_eq_getElem?_getD,List.getElem?_eq_none h]; rfl
theorem bt_append (a b:List UInt8) (i:Nat):bt (a++b) i=if i<a.length then bt a i else bt b (i-a.length):=by
 unfold bt
 simp only [List.getD_eq_getElem?_getD]
 split
 ·rename_i h; rw [List.getElem?_append_left h]
 ·rename_i h; rw [List.getElem?_append_right omg]
theorem bt_take (l:List UInt8) (n i:Nat):bt (l.take n) i=if i<n then bt l i else 0:=by
 unfold bt
 simp only [List.getD_eq_getElem?_getD,List.getElem?_take]
 split<;>simp
theorem bt_drop (l:List UInt8) (n i:Nat):bt (l.drop n) i=bt l (n+i):=by
 unfold bt
 simp only [List.getD_eq_getElem?_getD,List.getElem?_drop]
theorem bt_zeros (n i:Nat):bt (zeros n) i=0:=by
 by_cases h:i<n
 ·rw [bt_get (by rw [zeros_len]; exact h)]; unfold zeros; simp
 ·exact bt_none (by rw [zeros_len]; omega)
theorem bt_grow (l:List UInt8) (n i:Nat):bt (growL l n) i=bt l i:=by
 unfold growL
 rw [bt_append]
 split
 ·rfl
 ·rename_i h
  rw [bt_zeros,bt_none omg]
theorem bt_over {l new:List UInt8} {k i:Nat} (h:k+new.length≤l.length):bt (Vc.over l k new) i=if k≤i∧i<k+new.length then bt new (i-k) else bt l i:=by
 unfold Vc.over
 rw [bt_append,bt_append,bt_take,bt_drop]
 simp only [List.length_append,List.length_take]
 by_cases h1:i<k
 ·rw [if_pos omg,if_pos omg,if_pos h1,if_neg omg]
 ·by_cases h2:i<k+new.length
  ·rw [if_pos omg,if_neg omg,if_pos omg]
   congr 1; omega
  ·rw [if_neg omg,if_neg omg]
   congr 1; omega
theorem bt_ext {a b:List UInt8} (hl:a.length=b.length) (h:∀i,i<a.length→bt a i=bt b i):a=b:=by
 apply List.ext_getElem hl
 intro i h1 h2
 have:=h i h1
 rwa [bt_get h1,bt_get h2] at this
theorem bt_add {f:Fl} (o:f.ok) (p:Pc) (i:Nat):bt (f.add p).now i=if p.at_≤i∧i<p.at_+p.b.length then bt p.b (i-p.at_) else bt f.now i:=by
 rw [o.now_add,bt_over (by rw [growL_len]; omega),bt_grow]
def okPc (p:Pc):Prop:=p.ok∧p.at_+p.b.length≤268435456
theorem bt_out {i:Nat}:∀{ps:List Pc} {f:Fl},f.ok→(∀p∈ps,okPc p)→(∀p∈ps,¬(p.at_≤i∧i<p.at_+p.b.length))→bt (f.writes ps).now i=bt f.now i
 | [],f,_,_,_=>rfl
 | p::ps,f,o,h1,h2=>by
  have hp:=h1 p List.mem_cons_self
  show bt ((f.add p).writes ps).now i=_
  rw [bt_out (o.add hp.1 hp.2) (fun q hq=>h1 q (List.mem_cons_of_mem _ hq)) (fun q hq=>h2 q (List.mem_cons_of_mem _ hq)),bt_add o,if_neg (h2 p List.mem_cons_self)]
theorem cut_okPc {k:Nat} {b:List UInt8} (h:k+b.length≤268435456):∀p∈cutP k b,okPc p:=fun p hp=>by
 obtain ⟨h1,h2,h3⟩:=cutP_ok b.length (Nat.le_refl _) p hp
 exact ⟨h1,by omega⟩
theorem bt_cut {i:Nat}:∀(n:Nat) {k:Nat} {b:List UInt8} {f:Fl},b.length≤n→f.ok→k+b.length≤268435456→bt (f.writes (cutP k b)).now i=if k≤i∧i<k+b.length then bt b (i-k) else bt f.now i
 | n,k,b,f,hb,o,hk=>by
  by_cases h:b=[]
  ·subst h
   rw [cutP_nil,if_neg (by simp<;>omega)]; rfl
  ·have hl:0<b.length:=List.length_pos_iff.2 h
   rw [cutP_cons h]
   obtain ⟨m,hm⟩:∃m,m=min b.length (512-k%512):=⟨_,rfl⟩
   rw [←hm]
   have hm0:0<m:=by omega
   have hmb:m≤b.length:=by omega
   have htl:(b.take m).length=m:=by rw [List.length_take]; omega
   have hdl:(b.drop m).length=b.length-m:=List.length_drop
   have hpc:okPc ⟨k,b.take m⟩:=by
    refine ⟨⟨?_,?_⟩,?_⟩<;>simp only [htl]<;>omega
   show bt ((f.add ⟨k,b.take m⟩).writes _).now i=_
   cases n with
   | zero=>omega
   | succ n =>
    rw [bt_cut n (by rw [hdl]; omega) (o.add hpc.1 hpc.2) (by rw [hdl]; omega),bt_add o,hdl]
    dsimp only
    rw [htl]
    by_cases h1:k≤i∧i<k+m
    ·rw [if_neg omg,if_pos h1,if_pos omg,bt_take,if_pos omg]
    ·by_cases h2:k+m≤i∧i<k+b.length
     ·rw [if_pos omg,if_pos omg,bt_drop]
      congr 1; omega
     ·rw [if_neg omg,if_neg h1,if_neg omg]
def nowP (p:Ps):List UInt8:=match p.f with|none=>[]|some f=>f.now
theorem fill_len (p:Ps) (bits:Nat) (n:Int):(fillP p bits n).length=2^bits:=by
 unfold fillP
 cases p.f with
 | none=>exact zeros_len _
 | some f =>
  dsimp only
  rw [Vc.over_len (by rw [List.length_take,zeros_len]; omega),zeros_len]
theorem fill_bt (p:Ps) (bits:Nat) (n:Int) {i:Nat} (hi:i<2^bits):bt (fillP p bits n) i=bt (nowP p) (n.toNat*2^bits+i):=by
 unfold fillP nowP
 cases p.f with
 | none=>dsimp only; rw [bt_zeros,bt_none sM]
 | some f =>
  dsimp only
  rw [bt_over (by rw [List.length_take,zeros_len]; omega),bt_zeros]
  by_cases h:i<((f.now.drop (n.toNat*2^bits)).take (2^bits)).length
  ·rw [if_pos ⟨Nat.zero_le _,by omega⟩,Nat.sub_zero,bt_take,if_pos hi,bt_drop]
  ·rw [if_neg (fun e=>h omg)]
   rw [List.length_take,List.length_drop] at h
   exact (bt_none omg).symm
theorem fill_eq {p p':Ps} {bits:Nat} {n:Int} (h:∀i,i<2^bits→bt (nowP p') (n.toNat*2^bits+i)=bt (nowP p) (n.toNat*2^bits+i)):fillP p' bits n=fillP p bits n:=by
 refine bt_ext (by rw [fill_len,fill_len]) fun i hi => ?_
 rw [fill_len] at hi
 rw [fill_bt _ _ _ hi,fill_bt _ _ _ hi,h i hi]
def POk (p:Ps):Prop:=∀f,p.f=some f→f.ok
theorem flush_now (p:Ps):nowP p.flush.1=nowP p:=by
 unfold nowP Ps.flush
 cases hf:p.f with
 | none=>rw [hf]
 | some f=>dsimp only; exact now_flush f _
theorem flush_pok {p:Ps} (o:POk p):POk p.flush.1:=by
 unfold Ps.flush
 cases hf:p.f with
 | none=>exact o
 | some f =>
  intro f' h
  cases h
  exact (o f hf).flush _
theorem went_sub {e k:Int} {ps:List Pc}:∀p∈went e k ps,p∈ps:=fun p hp=>by
 unfold went at hp
 split at hp
 ·exact hp
 ·exact List.mem_of_mem_take hp
theorem write_pok {p:Ps} {k:Nat} {b:List UInt8} (o:POk p) (h:k+b.length≤268435456):POk (p.write k b).1:=by
 unfold Ps.write
 cases hf:p.f with
 | none=>exact o
 | some f =>
  intro f' h'
  cases h'
  exact (o f hf).writes fun q hq=>cut_okPc h q (went_sub q hq)
theorem write_out {p:Ps} {k i:Nat} {b:List UInt8} (o:POk p) (h:k+b.length≤268435456) (hi:¬(k≤i∧i<k+b.length)):bt (nowP (p.write k b).1) i=bt (nowP p) i:=by
 unfold Ps.write
 cases hf:p.f with
 | none=>unfold nowP; rw [hf]
 | some f =>
  unfold nowP
  dsimp only
  rw [hf]
  refine bt_out (o f hf) (fun q hq=>cut_okPc h q (went_sub q hq)) (fun q hq e => ?_)
  obtain ⟨h1,h2,h3⟩:=cutP_ok b.length (Nat.le_refl _) q (went_sub q hq)
  omega
theorem write_in {p:Ps} {k i:Nat} {b:List UInt8} (o:POk p) (h:k+b.length≤268435456) (h0:(p.write k b).2=0) (hi:k≤i∧i<k+b.length):bt (nowP (p.write k b).1) i=bt b (i-k):=by
 unfold Ps.write at h0 ⊢
 cases hf:p.f with
 | none=>rw [hf] at h0; cases h0
 | some f =>
  rw [hf] at h0
  dsimp only at h0
  unfold nowP
  dsimp only
  rw [h0]
  have:went 0 (fateK p.fates) (cutP k b)=cutP k b:=by unfold went; rw [if_pos rfl]
  rw [this,bt_cut b.length (Nat.le_refl _) (o f hf) h,if_pos hi]
end Go.Proofs.YtcbbdnaelimpfaaGreat
set_option linter.unusedSimpArgs false
set_option linter.unusedVariables false
namespace Go.Proofs.YtcbbdnaelimpfaaGreat
open Go.Vc Go.Sort

structure Coh (x:Cx):Prop where
 pok:POk x.2
 clean:∀g∈x.1.P,g.d=false→fillP x.2 x.1.bits g.n=g.D
 num:∀g∈x.1.P,0≤g.n∧g.n*((2^x.1.bits:Nat):Int)<268435456
 len:∀g∈x.1.P,g.D.length=2^x.1.bits
 nd:(x.1.P.map (·.n)).Nodup
 b1:x.1.bits≤16
def view (x:Cx) (n:Int):List UInt8:=match x.1.get n with|some g=>g.D|none=>fillP x.2 x.1.bits n
theorem place_fit {bits:Nat} (hb:bits≤16) {n:Int} (h0:0≤n) (h:n*((2^bits:Nat):Int)<268435456):n.toNat*2^bits+2^bits≤268435456:=by
 have:=pow_split hb h
 obtain ⟨N,rfl⟩:=Int.eq_ofNat_of_zero_le h0
 rw [Int.toNat_natCast]
 rw [←Int.natCast_mul] at this
 omega
theorem place_apart {bits i:Nat} {n m:Int} (h0:0≤n) (h1:0≤m) (hne:m≠n) (hi:i<2^bits):¬(n.toNat*2^bits≤m.toNat*2^bits+i∧m.toNat*2^bits+i<n.toNat*2^bits+2^bits):=by
 rintro ⟨h2,h3⟩
 have hW:0<2^bits:=Nat.pow_pos dM
 have e1:(m.toNat*2^bits+i)/2^bits=m.toNat:=by rw [Nat.add_comm,Nat.add_mul_div_right _ _ hW,Nat.div_eq_of_lt hi,Nat.zero_add]
 have e2:n.toNat≤m.toNat:=by rw [←e1]; exact (Nat.le_div_iff_mul_le hW).2 h2
 have e3:m.toNat<n.toNat+1:=by
  rw [←e1]
  refine (Nat.div_lt_iff_lt_mul hW).2 ?_
  rw [Nat.add_mul,Nat.one_mul]; exact h3
 omega
theorem fill_other {p:Ps} {bits:Nat} {n m:Int} {D:List UInt8} (o:POk p) (hb:bits≤16) (h0:0≤n) (hn:n*((2^bits:Nat):Int)<268435456) (h1:0≤m) (hne:m≠n) (hD:D.length=2^bits):fillP (p.write (n.toNat*2^bits) D).1 bits m=fillP p bits m :=
 fill_eq fun i hi=>write_out o (by rw [hD]; exact place_fit hb h0 hn) (by rw [hD]; exact place_apart h0 h1 hne hi)
theorem fill_same {p:Ps} {bits:Nat} {n:Int} {D:List UInt8} (o:POk p) (hb:bits≤16) (h0:0≤n) (hn:n*((2^bits:Nat):Int)<268435456) (hD:D.length=2^bits) (hok:(p.write (n.toNat*2^bits) D).2=0):fillP (p.write (n.toNat*2^bits) D).1 bits n=D:=by
 refine bt_ext (by rw [fill_len,hD]) fun i hi => ?_
 rw [fill_len] at hi
 rw [fill_bt _ _ _ hi,write_in o (by rw [hD]; exact place_fit hb h0 hn) hok (by rw [hD]; omega)]
 congr 1; omega
theorem fill_flush (p:Ps) (bits:Nat) (n:Int):fillP p.flush.1 bits n=fillP p bits n:=fill_eq fun i _=>by rw [flush_now]
theorem Coh.get_num {x:Cx} (a:Coh x) {n:Int} {g:Pge} (hg:x.1.get n=some g):0≤n∧n*((2^x.1.bits:Nat):Int)<268435456∧g.D.length=2^x.1.bits:=by
 obtain ⟨h1,h2⟩:=get_mem hg
 have:=a.num g h1
 rw [h2] at this
 exact ⟨this.1,this.2,a.len g h1⟩
theorem get_of_mem {c:Ca} (nd:(c.P.map (·.n)).Nodup) {g:Pge} (hg:g∈c.P):c.get g.n=some g:=by
 unfold Ca.get
 cases hf:c.P.find? (fun y=>decide (y.n=g.n)) with
 | none=>have:=List.find?_eq_none.1 hf g hg; simp at this
 | some z =>
  have h1:=List.mem_of_find?_eq_some hf
  have h2:=List.find?_some hf
  rw [nodup_in nd h1 hg (by simpa using h2)]
theorem Mic.coh {x y:Cx} (m:Mic x y) (a:Coh x):Coh y∧∀n,0≤n→view y n=view x n:=by
 have hl:=m.less
 have hn:y.1.P.map (·.n)=x.1.P.map (·.n):=hl.map _ (fun _=>rfl)
 have hsh:∀g∈y.1.P,∃g0∈x.1.P,g0.n=g.n∧g0.D=g.D:=fun g hg=>by
  have h1:(g.n,g.D)∈y.1.P.map (fun g=>(g.n,g.D)):=List.mem_map_of_mem hg
  rw [hl.map (fun g=>(g.n,g.D)) (fun _=>rfl)] at h1
  obtain ⟨g0,h2,h3⟩:=List.mem_map.1 h1
  exact ⟨g0,h2,(Prod.mk.inj h3).1,(Prod.mk.inj h3).2⟩
 have hnum:∀g∈y.1.P,0≤g.n∧g.n*((2^y.1.bits:Nat):Int)<268435456:=fun g hg=>by
  obtain ⟨g0,h1,h2,-⟩:=hsh g hg
  rw [hl.bits,←h2]; exact a.num g0 h1
 have hlen:∀g∈y.1.P,g.D.length=2^y.1.bits:=fun g hg=>by
  obtain ⟨g0,h1,-,h2⟩:=hsh g hg
  rw [hl.bits,←h2]; exact a.len g0 h1
 have hnd:(y.1.P.map (·.n)).Nodup:=by rw [hn]; exact a.nd
 have hb:y.1.bits≤16:=by rw [hl.bits]; exact a.b1
 have vw:∀n,(∀g,x.1.get n=some g→∃g',y.1.get n=some g'∧g'.D=g.D)∧(x.1.get n=none→y.1.get n=none):=fun n=>by
  refine ⟨fun g hg => ?_,fun h => ?_⟩
  ·obtain ⟨g',h1,h2⟩:=hl.get hg
   refine ⟨g',h1,?_⟩
   have:=congrArg Pge.D h2
   exact this
  ·cases hg:y.1.get n with
   | none=>rfl
   | some z =>
    exfalso
    obtain ⟨h1,h2⟩:=get_mem hg
    have h3:z.n∈x.1.P.map (·.n):=by rw [←hn]; exact List.mem_map_of_mem h1
    obtain ⟨w,hw,he⟩:=List.mem_map.1 h3
    exact get_none_ h w hw (he.trans h2)
 have view_of:(∀n,0≤n→x.1.get n=none→fillP y.2 x.1.bits n=fillP x.2 x.1.bits n)→∀n,0≤n→view y n=view x n:=fun hf n h0=>by
  unfold view
  cases hg:x.1.get n with
  | none =>
   rw [(vw n).2 hg]
   dsimp only
   rw [hl.bits]; exact hf n h0 hg
  | some g =>
   obtain ⟨g',h1,h2⟩:=(vw n).1 g hg
   rw [h1]; exact h2
 cases m with
 | flush =>
  have hp:(flushP x).1.2=x.2.flush.1:=by unfold flushP; split<;>rfl
  have hPP:(flushP x).1.1.P=x.1.P:=by unfold flushP; split<;>rfl
  refine ⟨⟨by rw [hp]; exact flush_pok a.pok,fun g hg hd => ?_,hnum,hlen,hnd,hb⟩,view_of fun n h0 _=>by rw [hp,fill_flush]⟩
  rw [hp,fill_flush,hl.bits]
  rw [hPP] at hg
  exact a.clean g hg hd
 | write n g hg hd hbh =>
  obtain ⟨n0,n1,gl⟩:=a.get_num hg
  have hp:(writeP x n g.D).1.2=(x.2.write (n.toNat*2^x.1.bits) g.D).1:=by unfold writeP; split<;>rfl
  have hpok:=write_pok (k:=n.toNat*2^x.1.bits) (b:=g.D) a.pok (by rw [gl]; exact place_fit a.b1 n0 n1)
  refine ⟨⟨by rw [hp]; exact hpok,fun g1 hg1 hd1 => ?_,hnum,hlen,hnd,hb⟩,view_of fun m h0 hm => ?_⟩
  ·rw [hp,hl.bits]
   by_cases h2:(writeP x n g.D).2=0
   ·have hok:=writeP_ok h2
    rw [hok] at hg1
    obtain ⟨g0,h3,rfl⟩:=List.mem_map.1 hg1
    rw [(clean_same n g0).1]
    by_cases h4:g0.n=n
    ·have h5:g0=g:=nodup_in a.nd h3 (get_mem hg).1 (h4.trans (get_mem hg).2.symm)
     have h6:(x.2.write (n.toNat*2^x.1.bits) g.D).2=0:=by
      unfold writeP at h2
      split at h2
      ·assumption
      ·exact h2
     rw [h4,fill_same a.pok a.b1 n0 n1 gl h6]
     unfold Pge.clean
     rw [if_pos h4,h5]
    ·have h5:g0.clean n=g0:=by unfold Pge.clean; rw [if_neg h4]
     rw [h5] at hd1 ⊢
     rw [fill_other a.pok a.b1 n0 n1 (a.num g0 h3).1 h4 gl]
     exact a.clean g0 h3 hd1
   ·have hbad:=writeP_bad h2
    rw [hbad] at hg1
    by_cases h4:g1.n=n
    ·have h5:g1=g:=nodup_in a.nd hg1 (get_mem hg).1 (h4.trans (get_mem hg).2.symm)
     rw [h5,hd] at hd1; cases hd1
    ·rw [fill_other a.pok a.b1 n0 n1 (a.num g1 hg1).1 h4 gl]
     exact a.clean g1 hg1 hd1
  ·rw [hp,fill_other a.pok a.b1 n0 n1 h0 (fun e=>by rw [e,hg] at hm; cases hm) gl]
theorem Mics.coh {x y:Cx} (m:Mics x y) (a:Coh x):Coh y∧∀n,0≤n→view y n=view x n:=by
 induction m with
 | refl=>exact ⟨a,fun _ _=>rfl⟩
 | tail _ m ih =>
  obtain ⟨h1,h2⟩:=ih
  obtain ⟨h3,h4⟩:=m.coh h1
  exact ⟨h3,fun n h0=>(h4 n h0).trans (h2 n h0)⟩
theorem Coh.drop {x:Cx} (a:Coh x) {n:Int} (h:x.1.dirty n=false):Coh (x.1.dropP n,x.2)∧∀m,0≤m→view (x.1.dropP n,x.2) m=view x m:=by
 have hs:∀g∈x.1.P.filter (fun x => !decide (x.n=n)),g∈x.1.P:=fun g hg=>(List.mem_filter.1 hg).1
 refine ⟨⟨a.pok,fun g hg hd=>a.clean g (hs g hg) hd,fun g hg=>a.num g (hs g hg),fun g hg=>a.len g (hs g hg),a.nd.sublist (List.filter_sublist.map _),a.b1⟩,fun m h0 => ?_⟩
 unfold view
 dsimp only
 rw [drop_get]
 by_cases e:m=n
 ·rw [if_pos e]
  cases hg:x.1.get m with
  | none=>rfl
  | some g =>
   dsimp only
   obtain ⟨h1,h2⟩:=get_mem hg
   have hd:g.d=false:=by rw [←e] at h; unfold Ca.dirty at h; rw [hg] at h; exact h
   have:=a.clean g h1 hd
   rw [h2] at this; exact this
 ·rw [if_neg e]; rfl
theorem freeP_coh {rk:Int→Nat} {f:Nat} (hf:∀n,rk n<f) {x:Cx} (hr:Ranks rk x.1) (a:Coh x):Coh (freeP f x).1∧∀n,0≤n→view (freeP f x).1 n=view x n:=by
 obtain ⟨y,m,h1,h2⟩:=freeP_spec hf x hr
 obtain ⟨c1,v1⟩:=m.coh a
 rcases h2 with h2|⟨g,-,-,h3,h2⟩
 ·have:(freeP f x).1=y:=Prod.ext h2 h1
  rw [this]; exact ⟨c1,v1⟩
 ·have:(freeP f x).1=(y.1.dropP g.n,y.2):=Prod.ext h2 h1
  obtain ⟨c2,v2⟩:=c1.drop h3
  rw [this]; exact ⟨c2,fun n h0=>(v2 n h0).trans (v1 n h0)⟩
theorem Coh.touch {x:Cx} (a:Coh x) (n:Int):Coh (x.1.touched n,x.2)∧∀m,view (x.1.touched n,x.2) m=view x m:=by
 have hs:∀g∈(x.1.touched n).P,∃g0∈x.1.P,g0.n=g.n∧g0.D=g.D∧g0.d=g.d:=fun g hg=>by
  obtain ⟨g0,h1,rfl⟩:=List.mem_map.1 hg
  have:=touch_same n (x.1.clock+1) g0
  exact ⟨g0,h1,this.1.symm,this.2.2.2.1.symm,this.2.2.2.2.symm⟩
 refine ⟨⟨a.pok,fun g hg hd => ?_,fun g hg => ?_,fun g hg => ?_,?_,a.b1⟩,fun m => ?_⟩
 ·obtain ⟨g0,h1,h2,h3,h4⟩:=hs g hg
  rw [←h2,←h3]; exact a.clean g0 h1 (h4.trans hd)
 ·obtain ⟨g0,h1,h2,h3,h4⟩:=hs g hg
  rw [←h2]; exact a.num g0 h1
 ·obtain ⟨g0,h1,h2,h3,h4⟩:=hs g hg
  rw [←h3]; exact a.len g0 h1
 ·show ((x.1.P.map (Pge.touch n (x.1.clock+1))).map (·.n)).Nodup
  rw [List.map_map]
  have:((fun x=>x.n)∘Pge.touch n (x.1.clock+1))=(fun x:Pge=>x.n):=by funext y; exact (touch_same n _ y).1
  rw [this]; exact a.nd
 ·unfold view
  dsimp only
  rw [touch_get]
  cases hg:x.1.get m with
  | none=>rfl
  | some g=>exact (touch_same n _ g).2.2.2.1
theorem useP_coh {rk:Int→Nat} {f:Nat} (hf:∀n,rk n<f) {x:Cx} (hr:Ranks rk x.1) (a:Coh x) (inv:Inv x.1) {n:Int} {pb bb:Nat} (hnum:0≤n∧n*((2^x.1.bits:Nat):Int)<268435456):Coh (useP f n pb bb x).1∧∀m,0≤m→view (useP f n pb bb x).1 m=view x m:=by
 obtain ⟨aF,vF⟩:=freeP_coh hf hr a
 have gF:=fun h=>freeP_get (n:=n) hf hr (x:=x) h
 have bF:=(freeP_inv hf hr inv).2.2.1
 unfold useP
 cases x.2.f with
 | none=>exact ⟨a,fun _ _=>rfl⟩
 | some f0 =>
  dsimp only
  cases hg:x.1.get n with
  | some g =>
   have a1:Coh (x.1.hit1,x.2):=⟨a.pok,a.clean,a.num,a.len,a.nd,a.b1⟩
   obtain ⟨h1,h2⟩:=a1.touch n
   exact ⟨h1,fun m _=>h2 m⟩
  | none =>
   dsimp only
   split
   ·have gn:=gF hg
    have hP:∀g∈((freeP f x).1.1.added (newPg (freeP f x).1.2 x.1.bits n pb bb)).P,g∈(freeP f x).1.1.P∨g=newPg (freeP f x).1.2 x.1.bits n pb bb:=fun g hg=>by
     rcases List.mem_append.1 hg with h3|h3
     ·exact .inl h3
     ·exact .inr (by simpa using h3)
    have a1:Coh ((freeP f x).1.1.added (newPg (freeP f x).1.2 x.1.bits n pb bb),(freeP f x).1.2):=by
     refine ⟨aF.pok,fun g hg hd => ?_,fun g hg => ?_,fun g hg => ?_,?_,aF.b1⟩
     ·rcases hP g hg with h1|rfl
      ·exact aF.clean g h1 hd
      ·show fillP (freeP f x).1.2 (freeP f x).1.1.bits n=fillP (freeP f x).1.2 x.1.bits n
       rw [bF]
     ·rcases hP g hg with h1|rfl
      ·exact aF.num g h1
      ·show 0≤n∧n*((2^(freeP f x).1.1.bits:Nat):Int)<268435456
       rw [bF]; exact hnum
     ·rcases hP g hg with h1|rfl
      ·exact aF.len g h1
      ·show (fillP _ _ _).length=2^(freeP f x).1.1.bits
       rw [fill_len,bF]
     ·show (((freeP f x).1.1.P++[_]).map Pge.n).Nodup
      rw [List.map_append,List.nodup_append]
      refine ⟨aF.nd,by simp,fun y hy z hz e => ?_⟩
      obtain ⟨w,hw,rfl⟩:=List.mem_map.1 hy
      have hz:z=n:=by simpa [newPg] using hz
      exact get_none_ gn w hw (e.trans hz)
    obtain ⟨h1,h2⟩:=a1.touch n
    refine ⟨h1,fun m h0=>(h2 m).trans (Eq.trans ?_ (vF m h0))⟩
    unfold view
    dsimp only
    have gadd:∀g:Pge,((freeP f x).1.1.added g).get m=match (freeP f x).1.1.get m with|some y=>some y|none=>if g.n=m then some g else none:=fun g=>by
     unfold Ca.get Ca.added
     dsimp only
     rw [List.find?_append]
     cases (freeP f x).1.1.P.find? (fun y=>decide (y.n=m)) with
     | some y=>rfl
     | none=>rw [List.find?_cons]; by_cases e:g.n=m<;>simp [e]
    rw [gadd]
    cases hgm:(freeP f x).1.1.get m with
    | some y=>rfl
    | none =>
     dsimp only
     by_cases e:n=m
     ·have e':(newPg (freeP f x).1.2 x.1.bits n pb bb).n=m:=e
      rw [if_pos e']
      show fillP _ _ n=fillP _ _ m
      rw [bF,e]
     ·have e':¬(newPg (freeP f x).1.2 x.1.bits n pb bb).n=m:=e
      rw [if_neg e']; rfl
   ·exact ⟨aF,vF⟩
theorem wrote_coh {x:Cx} (a:Coh x) {n:Int} {k:Nat} {b:List UInt8} {g:Pge} (hg:x.1.get n=some g) (hk:k+b.length≤2^x.1.bits):Coh (x.1.wrote n k b,x.2)∧∀m,view (x.1.wrote n k b,x.2) m=if m=n then Vc.over (view x n) k b else view x m:=by
 have hs:∀g'∈(x.1.wrote n k b).P,∃g0∈x.1.P,g'=g0.put n k b:=fun g' hg=>by
  obtain ⟨g0,h1,rfl⟩:=List.mem_map.1 hg
  exact ⟨g0,h1,rfl⟩
 have pn:∀g0:Pge,(g0.put n k b).n=g0.n:=fun g0=>by unfold Pge.put; split<;>rfl
 have hol:∀g0∈x.1.P,(Vc.over g0.D k b).length=g0.D.length:=fun g0 h0=>Vc.over_len (by rw [a.len g0 h0]; exact hk)
 refine ⟨⟨a.pok,fun g' hg' hd => ?_,fun g' hg' => ?_,fun g' hg' => ?_,?_,a.b1⟩,fun m => ?_⟩
 ·obtain ⟨g0,h1,rfl⟩:=hs g' hg'
  rw [pn]
  unfold Pge.put at hd ⊢
  by_cases e:g0.n=n
  ·rw [if_pos e] at hd ⊢
   dsimp only at hd ⊢
   have hd':g0.d=false∧¬0<b.length:=by simpa using hd
   have:b=[]:=List.length_eq_zero_iff.1 omg
   subst this
   have hov:Vc.over g0.D k []=g0.D:=by unfold Vc.over; simp
   rw [hov]
   exact a.clean g0 h1 hd'.1
  ·rw [if_neg e] at hd ⊢
   exact a.clean g0 h1 hd
 ·obtain ⟨g0,h1,rfl⟩:=hs g' hg'
  rw [pn]; exact a.num g0 h1
 ·obtain ⟨g0,h1,rfl⟩:=hs g' hg'
  unfold Pge.put
  split
  ·exact (hol g0 h1).trans (a.len g0 h1)
  ·exact a.len g0 h1
 ·show ((x.1.P.map (Pge.put n k b)).map Pge.n).Nodup
  rw [List.map_map]
  have:(Pge.n∘Pge.put n k b)=Pge.n:=by funext y; exact pn y
  rw [this]; exact a.nd
 ·unfold view
  dsimp only
  rw [put_get]
  by_cases e:m=n
  ·rw [if_pos e,e,hg]
   simp only [Option.map_some]
   unfold Pge.put
   rw [if_pos (get_mem hg).2]
  ·rw [if_neg e]
   cases hgm:x.1.get m with
   | none=>rfl
   | some y =>
    simp only [Option.map_some]
    unfold Pge.put
    rw [if_neg (by rw [(get_mem hgm).2]; exact e)]
end Go.Proofs.YtcbbdnaelimpfaaGreat
set_option linter.unusedSimpArgs false
set_option linter.unusedVariables false
namespace Go.Proofs.YtcbbdnaelimpfaaGreat
open Go.Vc Go.Sort

structure Okp (p:Ps):Prop where
 f:∃f,p.f=some f
 fates:p.fates=[]
theorem flush_okp {p:Ps} (a:Okp p):p.flush.2=0∧Okp p.flush.1:=by
 obtain ⟨f,hf⟩:=a.f
 unfold Ps.flush
 rw [hf,a.fates]
 exact ⟨rfl,⟨_,rfl⟩,rfl⟩
theorem write_okp {p:Ps} (a:Okp p) (k:Nat) (b:List UInt8):(p.write k b).2=0∧Okp (p.write k b).1:=by
 obtain ⟨f,hf⟩:=a.f
 unfold Ps.write
 rw [hf,a.fates]
 exact ⟨rfl,⟨_,rfl⟩,rfl⟩
theorem flushP_okp {x:Cx} (a:Okp x.2):(flushP x).2=0∧Okp (flushP x).1.2∧(flushP x).1=(x.1.flushed,x.2.flush.1):=by
 obtain ⟨h1,h2⟩:=flush_okp a
 unfold flushP
 rw [if_pos h1]
 exact ⟨rfl,h2,rfl⟩
theorem writeP_okp {x:Cx} (a:Okp x.2) (n:Int) (D:List UInt8):(writeP x n D).2=0∧Okp (writeP x n D).1.2∧(writeP x n D).1=(x.1.cleaned n,(x.2.write (x.1.place n) D).1):=by
 obtain ⟨h1,h2⟩:=write_okp a (x.1.place n) D
 unfold writeP
 rw [if_pos h1]
 exact ⟨rfl,h2,rfl⟩
def Free (c:Ca):Prop:=∀n g,c.get n=some g→g.d=false→c.ws n=[]
end Go.Proofs.YtcbbdnaelimpfaaGreat
set_option linter.unusedSimpArgs false
set_option linter.unusedVariables false
namespace Go.Proofs.YtcbbdnaelimpfaaGreat
open Go.Vc Go.Sort
variable {K:VP} {h:Heap}

structure Ses (h:Heap) (o j:Nat) (c:Ca) (s:St) (p:Ps):Prop where
 at_:CAt h o c s
 ps:PsAt s p
 wf:Wf j c
 coh:Coh (c,p)
 bud:p.steps+2*c.dN≤4*j+2
 clk:c.clock≤j
theorem Ses.ext {h':Heap} {o j:Nat} {c:Ca} {s:St} {p:Ps} (a:Ses h o j c s p) (e:Ext h h'):Ses h' o j c s p:=⟨a.at_.ext e,a.ps,a.wf,a.coh,a.bud,a.clk⟩
theorem dN_map {c c':Ca} {f:Pge→Pge} (hP:c'.P=c.P.map f) (hf:∀y∈c.P,(f y).d=y.d):c'.dN=c.dN:=by
 unfold Ca.dN
 rw [hP,List.filter_map,List.length_map]
 congr 1
 apply List.filter_congr
 intro y hy
 exact hf y hy
theorem touched_dN (c:Ca) (n:Int):(c.touched n).dN=c.dN:=dN_map rfl fun y _=>(touch_same n _ y).2.2.2.2
theorem added_dN {c:Ca} {g:Pge} (hd:g.d=false):(c.added g).dN=c.dN:=by
 unfold Ca.dN Ca.added
 dsimp only
 rw [List.filter_append,List.filter_cons_of_neg (by simp [hd])]
 simp
theorem drop_dN (c:Ca) (n:Int):(c.dropP n).dN≤c.dN:=by
 unfold Ca.dN Ca.dropP
 dsimp only
 exact (List.filter_sublist.filter _).length_le
theorem freeP_bud {rk:Int→Nat} {f:Nat} (hf:∀n,rk n<f) {x:Cx} (hr:Ranks rk x.1):(freeP f x).1.2.steps+2*(freeP f x).1.1.dN≤x.2.steps+2*x.1.dN+2:=by
 unfold freeP
 by_cases h:x.1.P.length<x.1.room
 ·rw [if_pos h]; exact Nat.le_add_right _ _
 ·rw [if_neg h]
  cases x.1.victim with
  | none=>exact Nat.le_add_right _ _
  | some g =>
   dsimp only
   obtain ⟨sp,-⟩:=back_spec (rk:=rk) f g.n x (hf _) hr
   have:=sp.st2
   split
   ·have h2:=drop_dN (backP f g.n x).1.1 g.n
    show (backP f g.n x).1.2.steps+2*((backP f g.n x).1.1.dropP g.n).dN≤_
    omega
   ·exact this
theorem useP_bud {rk:Int→Nat} {f:Nat} (hf:∀n,rk n<f) {x:Cx} (hr:Ranks rk x.1) {n:Int} {pb bb:Nat}:(useP f n pb bb x).1.2.steps+2*(useP f n pb bb x).1.1.dN≤x.2.steps+2*x.1.dN+2:=by
 have h1:=freeP_bud hf hr
 unfold useP
 cases x.2.f with
 | none=>exact Nat.le_add_right _ _
 | some f0 =>
  dsimp only
  cases x.1.get n with
  | some g =>
   show x.2.steps+2*(x.1.hit1.touched n).dN≤_
   rw [touched_dN]; exact Nat.le_add_right _ _
  | none =>
   dsimp only
   split
   ·show (freeP f x).1.2.steps+2*(((freeP f x).1.1.added _).touched n).dN≤_
    rw [touched_dN,added_dN rfl]; exact h1
   ·exact h1
theorem useP_clk {rk:Int→Nat} {f:Nat} (hf:∀n,rk n<f) {x:Cx} (hr:Ranks rk x.1) (a:Inv x.1) {n:Int} {pb bb:Nat}:(useP f n pb bb x).1.1.clock≤x.1.clock+1:=by
 have h1:=(freeP_inv hf hr a).2.1.clock
 unfold useP
 cases x.2.f with
 | none=>exact Nat.le_succ _
 | some f0 =>
  dsimp only
  cases x.1.get n with
  | some g=>exact Nat.le_refl _
  | none =>
   dsimp only
   split
   ·show (freeP f x).1.1.clock+1≤_
    omega
   ·omega
theorem wrote_dN {c:Ca} {n:Int} {k:Nat} {b:List UInt8} (nd:(c.P.map (·.n)).Nodup):(c.wrote n k b).dN≤c.dN+1:=by
 have key:∀l:List Pge,(l.map (·.n)).Nodup→((l.map (Pge.put n k b)).filter fun x=>x.d).length≤(l.filter fun x=>x.d).length+1:=by
  intro l
  induction l with
  | nil=>intro _; simp
  | cons x l ih =>
   intro hn
   simp only [List.map_cons,List.nodup_cons] at hn
   by_cases e:x.n=n
   ·have hid:l.map (Pge.put n k b)=l:=by
     have:l.map (Pge.put n k b)=l.map id:=List.map_congr_left fun y hy=>by
      unfold Pge.put
      rw [if_neg (fun e2=>hn.1 (by rw [e,←e2]; exact List.mem_map_of_mem hy))]
      rfl
     rw [this,List.map_id]
    rw [List.map_cons,hid]
    have h1:((x.put n k b::l).filter fun x=>x.d).length≤(l.filter fun x=>x.d).length+1:=by
     rw [List.filter_cons]; split<;>simp
    have h2:(l.filter fun x=>x.d).length≤((x::l).filter fun x=>x.d).length:=by
     rw [List.filter_cons]; split<;>simp
    omega
   ·have:x.put n k b=x:=by unfold Pge.put; rw [if_neg e]
    have ih:=ih hn.2
    rw [List.map_cons,this,List.filter_cons,List.filter_cons]
    split
    ·simp only [List.length_cons]; omega
    ·exact ih
 exact key c.P nd
theorem useP_get {rk:Int→Nat} {f:Nat} (hf:∀n,rk n<f) {x:Cx} (hr:Ranks rk x.1) {n:Int} {pb bb:Nat} (h0:(useP f n pb bb x).2=0):∃g,(useP f n pb bb x).1.1.get n=some g:=by
 unfold useP at h0 ⊢
 cases hx:x.2.f with
 | none=>rw [hx] at h0; exact absurd h0 (by show ¬(7:Int)=0; decide)
 | some f0 =>
  rw [hx] at h0
  dsimp only at h0 ⊢
  cases hg:x.1.get n with
  | some g =>
   refine ⟨g.touch n (x.1.hit1.clock+1),?_⟩
   dsimp only
   rw [touch_get]
   show (x.1.get n).map _=_
   rw [hg]; rfl
  | none =>
   rw [hg] at h0
   dsimp only at h0 ⊢
   have gn:=freeP_get (n:=n) hf hr (x:=x) hg
   split
   ·refine ⟨(newPg (freeP f x).1.2 x.1.bits n pb bb).touch n (((freeP f x).1.1.added (newPg (freeP f x).1.2 x.1.bits n pb bb)).clock+1),?_⟩
    dsimp only
    rw [touch_get]
    have:=find_new (c:=(freeP f x).1.1) (g:=newPg (freeP f x).1.2 x.1.bits n pb bb) gn
    have this:((freeP f x).1.1.added (newPg (freeP f x).1.2 x.1.bits n pb bb)).get n=_:=this
    rw [this]; rfl
   ·rename_i h1
    rw [if_neg h1] at h0
    exact absurd h0 h1
theorem write_x {o j:Nat} {c:Ca} {s:St} {p:Ps} {n at_:Int} {v:Value} {b:List UInt8} (S:Ses h o j c s p) (hj:j<1000)
 (a0 : -9223372036854775808≤at_) (a1:at_<9223372036854775808) (hB:Bytes h v b) (hbl:b.length<9223372036854775808) (hv:∀d,b≠[]→blkV v=some d→d<h.size→¬Ft o c s d)
 (H2:useE c.bits n at_ b.length≠0→K (.int .i64 2) h)
 (He:∀h' s' f rk,(∀n,rk n<f)→Ranks rk c→useE c.bits n at_ b.length=0→(useP f n 0 0 (c,p)).2≠0→CUpd h h' o c s (useP f n 0 0 (c,p)).1.1 s'→Ses h' o (j+1) (useP f n 0 0 (c,p)).1.1 s' (useP f n 0 0 (c,p)).1.2→K (.int .i64 (useP f n 0 0 (c,p)).2) h')
 (Hw:∀h' s' f rk pb bb g,(∀n,rk n<f)→Ranks rk c→useE c.bits n at_ b.length=0→(useP f n pb bb (c,p)).2=0→(useP f n pb bb (c,p)).1.1.get n=some g→CUpd h h' o c s ((useP f n pb bb (c,p)).1.1.wrote n at_.toNat b) s'→Ses h' o (j+1) ((useP f n pb bb (c,p)).1.1.wrote n at_.toNat b) s' (useP f n pb bb (c,p)).1.2→K (.int .i64 0) h') :
 CallsH Tryz.prog 13 #[ptrV o,.int .i64 n,.int .i64 at_,v] h K ⟨⟩:=by
 obtain ⟨rk,f,hf,hr⟩:=S.wf.acyc
 have hst:=S.ps.2.1
 have hbd:=S.bud
 have hck:=S.clk
 refine cWrite_x (rk:=rk) hf hr S.wf.inv S.at_ S.ps omg omg a0 a1 hB hbl hv H2 (fun h' s' h0 hne u ps => ?_) (fun h' s' pb bb h0 hok u ps => ?_)
 all_goals obtain ⟨r0,r1,r2,r3⟩:=useE_ok h0
 ·have hnum:=ask_ok S.at_.co.ok.b1 r3
  have b2:=useP_bud (x:=(c,p)) hf hr (n:=n) (pb:=0) (bb:=0)
  have b3:=useP_clk (x:=(c,p)) hf hr S.wf.inv (n:=n) (pb:=0) (bb:=0)
  have w:=useP_wf (x:=(c,p)) hf hr S.wf S.coh.nd (n:=n) (pb:=0) (bb:=0)
  obtain ⟨ch,-⟩:=useP_coh (x:=(c,p)) hf hr S.coh S.wf.inv hnum (n:=n) (pb:=0) (bb:=0)
  dsimp only at b2 b3
  exact He h' s' f rk hf hr h0 hne u ⟨u.at_,ps,⟨w.inv,w.opn,w.acyc,w.lim.mono (Nat.le_succ _)⟩,ch,by omega,by omega⟩
 ·have hnum:=ask_ok S.at_.co.ok.b1 r3
  have b2:=useP_bud (x:=(c,p)) hf hr (n:=n) (pb:=pb) (bb:=bb)
  have b3:=useP_clk (x:=(c,p)) hf hr S.wf.inv (n:=n) (pb:=pb) (bb:=bb)
  have w:=useP_wf (x:=(c,p)) hf hr S.wf S.coh.nd (n:=n) (pb:=pb) (bb:=bb)
  obtain ⟨ch,-⟩:=useP_coh (x:=(c,p)) hf hr S.coh S.wf.inv hnum (n:=n) (pb:=pb) (bb:=bb)
  have hbits:=(useP_bits (x:=(c,p)) hf hr S.wf.inv (n:=n) (pb:=pb) (bb:=bb)).1
  have w2:=w.wrote n at_.toNat b
  obtain ⟨g,hg⟩:∃g,(useP f n pb bb (c,p)).1.1.get n=some g:=by
   have:=useP_get (x:=(c,p)) hf hr (n:=n) (pb:=pb) (bb:=bb) hok
   exact this
  obtain ⟨ch2,-⟩:=wrote_coh (k:=at_.toNat) (b:=b) ch hg (by rw [hbits]; dsimp only; omega)
  have hdn:=wrote_dN (n:=n) (k:=at_.toNat) (b:=b) ch.nd
  dsimp only at b2 b3
  exact Hw h' s' f rk pb bb g hf hr h0 hok hg u ⟨u.at_,ps,⟨w2.inv,w2.opn,w2.acyc,w2.lim.mono (Nat.le_succ _)⟩,ch2,by omega,by show (useP f n pb bb (c,p)).1.1.clock≤j+1; omega⟩
theorem write_s {o j:Nat} {c:Ca} {s:St} {p:Ps} {n at_:Int} {v:Value} {b:List UInt8} (S:Ses h o j c s p) (hj:j<1000)
 (a0 : -9223372036854775808≤at_) (a1:at_<9223372036854775808) (hB:Bytes h v b) (hbl:b.length<9223372036854775808) (hv:∀d,blkV v=some d→d<h.size∧¬Ft o c s d)
 (H2:useE c.bits n at_ b.length≠0→K (.int .i64 2) h)
 (He:∀h' s' f rk,(∀n,rk n<f)→Ranks rk c→useE c.bits n at_ b.length=0→(useP f n 0 0 (c,p)).2≠0→CUpd h h' o c s (useP f n 0 0 (c,p)).1.1 s'→Ses h' o (j+1) (useP f n 0 0 (c,p)).1.1 s' (useP f n 0 0 (c,p)).1.2→K (.int .i64 (useP f n 0 0 (c,p)).2) h')
 (Hw:∀h' s' f rk pb bb g,(∀n,rk n<f)→Ranks rk c→useE c.bits n at_ b.length=0→(useP f n pb bb (c,p)).2=0→(useP f n pb bb (c,p)).1.1.get n=some g→CUpd h h' o c s ((useP f n pb bb (c,p)).1.1.wrote n at_.toNat b) s'→Ses h' o (j+1) ((useP f n pb bb (c,p)).1.1.wrote n at_.toNat b) s' (useP f n pb bb (c,p)).1.2→K (.int .i64 0) h') :
 CallsH Tryz.prog 13 #[ptrV o,.int .i64 n,.int .i64 at_,v] h K ⟨⟩ :=
 write_x S hj a0 a1 hB hbl (fun d _ hd _=>(hv d hd).2) H2 He Hw
end Go.Proofs.YtcbbdnaelimpfaaGreat
set_option linter.unusedSimpArgs false
set_option linter.unusedVariables false
namespace Go.Proofs.YtcbbdnaelimpfaaGreat
open Go.Vc Go.Sort
variable {K:VP} {h:Heap}

theorem Ses.mics {h':Heap} {o j:Nat} {c:Ca} {s s':St} {p:Ps} {y:Cx} (S:Ses h o j c s p) (m:Mics (c,p) y) (a:CAt h' o y.1 s') (ps:PsAt s' y.2) (hb:y.2.steps+2*y.1.dN≤p.steps+2*c.dN+4):Ses h' o (j+1) y.1 s' y.2:=by
 have w:=m.wf (x:=(c,p)) S.wf
 have hc:y.1.clock=c.clock:=m.same.clock
 have:=S.bud
 have:=S.clk
 exact ⟨a,ps,⟨w.inv,w.opn,w.acyc,w.lim.mono (Nat.le_succ _)⟩,(m.coh S.coh).1,by omega,by omega⟩
theorem backC_mics {rk:Int→Nat} {f:Nat} {n:Int} {x:Cx} (hf:∀n,rk n<f) (hr:Ranks rk x.1):Mics x (backC f n x).1∧(backC f n x).1.2.steps+2*(backC f n x).1.1.dN≤x.2.steps+2*x.1.dN+2∧((backC f n x).2=0→(backC f n x).1.1.dirty n=false):=by
 unfold backC
 split
 ·cases hg:x.1.get n with
  | none=>exact ⟨.refl _,Nat.le_add_right _ _,fun h=>absurd h (by show ¬(7:Int)=0; decide)⟩
  | some g =>
   obtain ⟨sp,h0⟩:=back_spec (rk:=rk) f n x (hf _) hr
   exact ⟨sp.mics,sp.st2,h0⟩
 ·exact ⟨.refl _,Nat.le_add_right _ _,fun h=>absurd h (by show ¬(2:Int)=0; decide)⟩
theorem back_s {o j:Nat} {c:Ca} {s:St} {p:Ps} {n:Int} (S:Ses h o j c s p) (hj:j<1000)
 (H:∀h' s' f rk,(∀n,rk n<f)→Ranks rk c→CUpd h h' o c s (backC f n (c,p)).1.1 s'→Ses h' o (j+1) (backC f n (c,p)).1.1 s' (backC f n (c,p)).1.2→K (.int .i64 (backC f n (c,p)).2) h'):CallsH Tryz.prog 15 #[ptrV o,.int .i64 n] h K ⟨⟩:=by
 obtain ⟨rk,f,hf,hr⟩:=S.wf.acyc
 have hst:=S.ps.2.1
 have hbd:=S.bud
 refine cBack_c (rk:=rk) hf hr S.at_ S.ps omg fun h' s' u ps => ?_
 obtain ⟨m,hb,-⟩:=backC_mics (x:=(c,p)) hf hr (n:=n)
 exact H h' s' f rk hf hr u (S.mics m u.at_ ps (by dsimp only at hb; omega))
theorem flushC_mics {rk:Int→Nat} {f:Nat} {x:Cx} (hf:∀n,rk n<f) (hr:Ranks rk x.1):Mics x (flushC f x).1∧(flushC f x).1.2.steps+2*(flushC f x).1.1.dN≤x.2.steps+2*x.1.dN+3:=by
 obtain ⟨sp,-⟩:=run_spec (rk:=rk) (k:=f) (g:=backP f) (fun q y hq hy=>back_spec f q y hq hy) x.1.nums x (fun q _=>hf q) hr
 have h1:=flushP_steps (runL (backP f) x.1.nums x).1
 have h2:=sp.st2
 have h3:=sp.st0
 unfold flushC
 split
 ·rename_i h0
  have:=h3 h0
  exact ⟨sp.mics.tail (.flush _),by omega⟩
 ·exact ⟨sp.mics,by omega⟩
theorem after_s {o j:Nat} {c:Ca} {s:St} {p:Ps} {n t:Int} (S:Ses h o j c s p) (hj:j<1000)
 (H2:(askE c.bits n≠0∨askE c.bits t≠0)→K (.int .i64 2) h)
 (H240:∀h',askE c.bits n=0→askE c.bits t=0→(n=t∨Reach c n t)→Ext h h'→K (.int .i64 240) h')
 (H0:∀h',askE c.bits n=0→askE c.bits t=0→¬(n=t∨Reach c n t)→c.opn t=false→Ext h h'→K (.int .i64 0) h')
 (Hw:∀h' c',askE c.bits n=0→askE c.bits t=0→¬(n=t∨Reach c n t)→c.opn t=true→CUpd h h' o c s c' s→Waited c c' n t j→Ses h' o (j+1) c' s p→K (.int .i64 0) h') :
 CallsH Tryz.prog 14 #[ptrV o,.int .i64 n,.int .i64 t] h K ⟨⟩:=by
 obtain ⟨rk,f,hf,hr⟩:=S.wf.acyc
 refine cAfter_c (rk:=rk) (k:=j) hr S.at_ S.wf.lim omg H2 H240 H0 fun h' c' a1 a2 a3 a4 u w => ?_
 have hs:=w.same
 have hP:c'.P=c.P:=by rw [hs]
 have hb:c'.bits=c.bits:=by rw [hs]
 have hk:c'.clock=c.clock:=by rw [hs]
 have hd:c'.dN=c.dN:=by unfold Ca.dN; rw [hP]
 have:=S.bud
 have:=S.clk
 refine Hw h' c' a1 a2 a3 a4 u w ⟨u.at_,S.ps,S.wf.waited w a3 a4,?_,by omega,by omega⟩
 refine ⟨S.coh.pok,fun g hg => ?_,fun g hg => ?_,fun g hg => ?_,?_,?_⟩
 ·dsimp only at hg ⊢; rw [hP] at hg; rw [hb]; exact S.coh.clean g hg
 ·dsimp only at hg ⊢; rw [hP] at hg; rw [hb]; exact S.coh.num g hg
 ·dsimp only at hg ⊢; rw [hP] at hg; rw [hb]; exact S.coh.len g hg
 ·dsimp only; rw [hP]; exact S.coh.nd
 ·dsimp only; rw [hb]; exact S.coh.b1
theorem coh_new {n:Nat} {fs:List (Int×Int)} {sp bits room km pm wm:Nat} (hn:n≤268435456) (hb:bits≤16):Coh (newC sp bits room km pm wm,⟨some (fl0 n),fs,2⟩):=by
 refine ⟨fun f hf => ?_,fun g hg=>(by cases hg),fun g hg=>(by cases hg),fun g hg=>(by cases hg),.nil,hb⟩
 cases hf
 exact ⟨by show (zeros n).length≤_; rw [zeros_len]; exact hn,fun q hq=>by cases hq⟩
theorem Ses.new {o sp km pm wm n bits room:Nat} {fs:List (Int×Int)} {s:St} (a:CAt h o (newC sp bits room km pm wm) s) (ps:PsAt s ⟨some (fl0 n),fs,2⟩) (hn:n≤268435456) (hb:bits≤16):Ses h o 0 (newC sp bits room km pm wm) s ⟨some (fl0 n),fs,2⟩ :=
 ⟨a,ps,wf_new _ _ _ _ _ _,coh_new hn hb,Nat.le_refl _,Nat.le_refl _⟩
theorem Counts_c {o:Nat} {c:Ca} (a:CoAt h o c) (H:∀h',Ext h h'→K (.agg #[.int .i64 c.hits,.int .i64 c.loads,.int .i64 c.backs,.int .i64 c.flushes]) h'):CallsH Tryz.prog 34 #[ptrV o] h K ⟨⟩:=by
 refine n34_calls ?_
 unfold n34; try delta vF vG vC vD vJ vV vk vt
 have hol:=get_some_lt a.cells
 have hon:¬o=h.size:=by omega
 have d8:=ce8 a.cells
 have d9:=ce9 a.cells
 have d10:=ce10 a.cells
 have d11:=ce11 a.cells
 unfold ptrV
 simp (disch:=omega) [hon,d8,d9,d10,d11]
 exact H _ extS
structure Nsq (h:Heap) (sb:Nat) (v:Value) (L:List Int):Prop where
 cell:h[sb]? = some (.cells #[v] l6T)
 row:OwnT i6T 1 h v (L.map ik)
def nsqV (sb:Nat):Value := .func (.func 108) #[] #[ptrV sb]
theorem Pages_c {o:Nat} {c:Ca} (a:CoAt h o c) (H:∀h' sb v,Ext h h'→Nsq h' sb v c.nums→h.size≤sb→(∀b,blkV v=some b→h.size≤b)→K (nsqV sb) h'):CallsH Tryz.prog 33 #[ptrV o] h K ⟨⟩:=by
 refine n33_calls ?_
 unfold n33; try delta vF vG vC vD vJ vV vk vt
 have c4:=ce4 a.cells
 unfold ptrV
 simp (disch:=omega) [c4]
 refine keysKeyP_c (m:=c.km) fun h1 e1 q1 => ?_
 have a1:=a.ext e1
 have hfw:=a.ok.few
 have hr1:=a.ok.r1
 refine sortedKeyP_c q1 a1.kept (by unfold Ca.keptL; rw [List.length_map]; omega) fun h2 v L e2 pm so ov fv => ?_
 have hLe:L=c.nums:=sorted_int (pm.trans (by unfold Ca.keptL; rw [List.map_map]; exact (nums_perm c).symm)) so (nums_sorted c)
 subst hLe
 have hz1:=e1.size
 have hz2:=e2.size
 refine n73_calls ?_
 unfold n73; try delta vF vG vC vD vJ vV vk vt
 obtain ⟨va,vn,vc,rfl,-,-,-⟩:=ov.form dM
 simp (disch:=omega)
 exact H _ h2.size _ (e1.trans (e2.trans extS)) ⟨get_pushed rfl,ov.ext extS⟩ omg (fun b hb=>by have:=fv b hb; omega)
end Go.Proofs.YtcbbdnaelimpfaaGreat
set_option linter.unusedSimpArgs false
set_option linter.unusedVariables false
namespace Go.Proofs.YtcbbdnaelimpfaaGreat
open Go.Vc Go.Sort
variable {K:VP} {h:Heap}

structure Fresh (c c':Ca) (n:Int):Prop where
 W:c'.W=c.W
 pend:c'.pend=c.pend
 bits:c'.bits=c.bits
 room:c'.room=c.room
 sp:c'.sp=c.sp
 hits:c'.hits=c.hits
 backs:c'.backs=c.backs
 flushes:c'.flushes=c.flushes
 loads:c'.loads=c.loads+1
 len:c'.P.length=c.P.length+1
 dirty:∀m,c'.dirty m=(c.dirty m || decide (m=n))
 kept:∀m,(c'.get m).isSome=((c.get m).isSome || decide (m=n))
theorem Fresh.ws {c c':Ca} {n:Int} (a:Fresh c c' n) (m:Int):c'.ws m=c.ws m:=by unfold Ca.ws; rw [a.W]
theorem added_get {c:Ca} {g:Pge} (m:Int):(c.added g).get m=match c.get m with|some y=>some y|none=>if g.n=m then some g else none:=by
 unfold Ca.get Ca.added
 dsimp only
 rw [List.find?_append]
 cases c.P.find? (fun y=>decide (y.n=m)) with
 | some y=>rfl
 | none=>rw [List.find?_cons]; by_cases e:g.n=m<;>simp [e]
theorem fresh_of {c:Ca} {g:Pge} {n:Int} {k:Nat} {b:List UInt8} (hn:c.get n=none) (hg:g.n=n) (hd:g.d=false) (hb:0<b.length):Fresh c (((c.added g).touched n).wrote n k b) n:=by
 have hk:∀m,((((c.added g).touched n).wrote n k b).get m).isSome=((c.get m).isSome || decide (m=n)):=fun m=>by
  rw [put_get,touch_get,added_get]
  cases c.get m with
  | some y=>rfl
  | none =>
   dsimp only
   by_cases e:m=n
   ·rw [if_pos (hg.trans e.symm)]; simp [e]
   ·rw [if_neg (fun e2=>e (e2.symm.trans hg))]; simp [e]
 refine ⟨rfl,rfl,rfl,rfl,rfl,rfl,rfl,rfl,rfl,?_,fun m => ?_,hk⟩
 ·show ((((c.P++[g]).map _).map _)).length=_
  simp
 ·rw [put_dirty,touch_dirty,added_dirty (by rw [hg]; exact hn) hd]
  by_cases e:m=n
  ·have:=hk n
   rw [put_get] at this
   rw [Option.isSome_map] at this
   rw [e,this]
   simp [hb]
  ·simp [e]
theorem useP_fresh {f:Nat} {n:Int} {pb bb:Nat} {x:Cx} (hf:∃f0,x.2.f=some f0) (hn:x.1.get n=none) (hr:x.1.P.length<x.1.room):useP f n pb bb x=((((x.1.added (newPg x.2 x.1.bits n pb bb)).touched n,x.2),0)):=by
 obtain ⟨f0,hf⟩:=hf
 have hfr:freeP f x=(x,0):=by unfold freeP; rw [if_pos hr]
 unfold useP
 rw [hf,hn]
 dsimp only
 rw [hfr,if_pos rfl]
theorem write_f {o j:Nat} {c:Ca} {s:St} {p:Ps} {n at_:Int} {v:Value} {b:List UInt8} (S:Ses h o j c s p) (hj:j<1000) (O:Okp p) (hn:c.get n=none) (hr:c.P.length<c.room) (hb:0<b.length)
 (a0 : -9223372036854775808≤at_) (a1:at_<9223372036854775808) (hB:Bytes h v b) (hbl:b.length<9223372036854775808) (hv:∀d,blkV v=some d→d<h.size∧¬Ft o c s d) (h0:useE c.bits n at_ b.length=0)
 (H:∀h' c' s',CUpd h h' o c s c' s'→Ses h' o (j+1) c' s' p→Fresh c c' n→view (c',p) n=Vc.over (fillP p c.bits n) at_.toNat b→(∀m,0≤m→m≠n→view (c',p) m=view (c,p) m)→K (.int .i64 0) h') :
 CallsH Tryz.prog 13 #[ptrV o,.int .i64 n,.int .i64 at_,v] h K ⟨⟩:=by
 obtain ⟨r0,r1,r2,r3⟩:=useE_ok h0
 have hnum:=ask_ok S.at_.co.ok.b1 r3
 refine write_s S hj a0 a1 hB hbl hv (fun e=>absurd h0 e) (fun h' s' f rk hf hrk _ hne => ?_) (fun h' s' f rk pb bb g hf hrk _ hok hg u S' => ?_)
 ·rw [useP_fresh (x:=(c,p)) O.f hn hr] at hne
  exact absurd rfl hne
 ·obtain ⟨ch,vw⟩:=useP_coh (x:=(c,p)) hf hrk S.coh S.wf.inv hnum (n:=n) (pb:=pb) (bb:=bb)
  rw [useP_fresh (x:=(c,p)) O.f hn hr] at u S' hg ch vw
  dsimp only at u S' hg ch vw
  obtain ⟨-,vw2⟩:=wrote_coh (k:=at_.toNat) (b:=b) ch hg (by show at_.toNat+b.length≤2^c.bits; omega)
  refine H h' _ s' u S' (fresh_of hn rfl rfl hb) ?_ fun m hm hne => ?_
  ·rw [vw2,if_pos rfl,vw n hnum.1]
   unfold view
   dsimp only
   rw [hn]
  ·rw [vw2,if_neg hne,vw m hm]
structure Fr (h0 h:Heap) (o:Nat) (c:Ca) (s:St):Prop where
 ext:Ext h0 h
 fr:∀b,Ft o c s b→h0.size≤b
theorem Fr.go {h0 h':Heap} {o:Nat} {c:Ca} {s:St} (a:Fr h0 h o c s) (e:Ext h h'):Fr h0 h' o c s:=⟨a.ext.trans e,a.fr⟩
theorem Fr.upd {h0 h':Heap} {o:Nat} {c c':Ca} {s s':St} (a:Fr h0 h o c s) (u:CUpd h h' o c s c' s'):Fr h0 h' o c' s':=by
 have hz:=a.ext.size
 exact ⟨u.mod.ext_from a.ext (fun b hb e=>by have:=a.fr b e; omega),fun b hb=>(u.foot b hb).elim (a.fr b) (fun e=>by omega)⟩
theorem one_slice {x:UInt8}:OwnG bT 1 (h.push (.cells #[byteV x] bT)) (.slice (some ⟨h.size,0,none⟩) 1 1) ([x].map byteV) :=
 .inr ⟨h.size,0,1,0,[],[],rfl,rfl,Nat.le_refl _,rfl,by rw [get_pushed rfl]; rfl,by simp⟩
theorem view_clean {x:Cx} (a:Coh x) {n:Int} (h:x.1.dirty n=false):view x n=fillP x.2 x.1.bits n:=by
 unfold view
 cases hg:x.1.get n with
 | none=>rfl
 | some g =>
  dsimp only
  obtain ⟨h1,h2⟩:=get_mem hg
  have hd:g.d=false:=by unfold Ca.dirty at h; rw [hg] at h; exact h
  have:=a.clean g h1 hd
  rw [h2] at this; exact this.symm
theorem only_one {l:List Int} {a:Int} (hn:l.Nodup) (h:∀q,q∈l↔q=a):l=[a]:=by
 cases l with
 | nil=>have:=(h a).2 rfl; cases this
 | cons x l =>
  have hx:x=a:=(h x).1 List.mem_cons_self
  cases l with
  | nil=>rw [hx]
  | cons y l =>
   have hy:y=a:=(h y).1 sM
   simp only [List.nodup_cons,List.mem_cons,not_or] at hn
   exact absurd (hx.trans hy.symm) hn.1.1
theorem ws_nodup {o:Nat} {c:Ca} (A:CoAt h o c) (n:Int):(c.ws n).Nodup:=by
 unfold Ca.ws
 cases hw:c.W.find? (fun w=>decide (w.n=n)) with
 | none=>exact .nil
 | some w =>
  have:=(A.sets w (List.mem_of_find?_eq_some hw)).nodup
  unfold Wt.L at this
  rw [List.map_map] at this
  have e:((fun x:Int×Value=>x.1)∘fun n:Int=>(n,Value.bool true))=id:=rfl
  rw [e,List.map_id] at this
  exact this
theorem beh_nodup {o:Nat} {c:Ca} (A:CoAt h o c) (n:Int):(c.beh n).Nodup:=(beh_perm c n).nodup_iff.2 ((ws_nodup A n).sublist List.filter_sublist)
theorem back_two {f:Nat} {x:Cx} (hx:x.1.bits≤16) (O:Okp x.2) (ha:askE x.1.bits 0=0) (h0:x.1.dirty 0=true) (h1:x.1.dirty 1=true) (hb:x.1.beh 0=[1]) (hw1:x.1.ws 1=[]) :
 ∃p',backC (f+2) 0 x=((((x.1.cleaned 1).flushed).cleaned 0,p'),0):=by
 obtain ⟨g0,hg0,-⟩:=dirty_get h0
 obtain ⟨g1,hg1,-⟩:=dirty_get h1
 have hbe1:x.1.beh 1=[]:=List.eq_nil_iff_forall_not_mem.2 fun q hq=>by rw [beh_mem,hw1] at hq; cases hq.1
 obtain ⟨w1,w2,w3⟩:=writeP_okp O 1 g1.D
 have b1:backP (f+1) 1 x=writeP x 1 g1.D:=by
  unfold backP
  rw [if_pos h1,hbe1]
  have:backF 1 (runL (backP f) [] x)=(x,0):=by unfold backF runL; rw [if_pos rfl]; dsimp only; rw [if_pos hbe1]
  rw [this]
  unfold backW
  rw [if_pos rfl]
  dsimp only
  rw [hg1]
 have r1:runL (backP (f+1)) [1] x=((writeP x 1 g1.D).1,0):=by
  unfold runL
  rw [b1,if_pos w1]
  rfl
 have hop:(writeP x 1 g1.D).1.1.opn 1=true:=by
  rw [w3]
  show (_ || decide ((1:Int)∈(if (1:Int)∈x.1.pend then x.1.pend else x.1.pend++[1])))=true
  split<;>simp_all
 have hbn:¬(writeP x 1 g1.D).1.1.beh 0=[]:=by
  have hm:(1:Int)∈(writeP x 1 g1.D).1.1.beh 0:=by
   refine beh_mem.2 ⟨?_,hop⟩
   rw [w3]
   show (1:Int)∈(x.1.cleaned 1).ws 0
   rw [cleaned_ws,if_neg dM]
   have:(1:Int)∈x.1.beh 0:=by rw [hb]; simp
   exact (beh_mem.1 this).1
  intro e
  rw [e] at hm; cases hm
 obtain ⟨f1,f2,f3⟩:=flushP_okp w2
 have r2:backF 0 ((writeP x 1 g1.D).1,0)=flushP (writeP x 1 g1.D).1:=by unfold backF; rw [if_pos rfl,if_neg hbn]
 have hg2:∃g2,(flushP (writeP x 1 g1.D).1).1.1.get 0=some g2:=by
  rw [f3,w3]
  refine ⟨g0,?_⟩
  show (x.1.cleaned 1).get 0=some g0
  rw [clean_get,hg0]
  simp only [Option.map_some]
  unfold Pge.clean
  rw [if_neg (by rw [(get_mem hg0).2]; decide)]
 obtain ⟨g2,hg2⟩:=hg2
 obtain ⟨v1,v2,v3⟩:=writeP_okp f2 0 g2.D
 refine ⟨(writeP (flushP (writeP x 1 g1.D).1).1 0 g2.D).1.2,?_⟩
 unfold backC
 rw [if_pos ha,hg0]
 dsimp only
 unfold backP
 rw [if_pos h0,hb,r1,r2]
 unfold backW
 rw [if_pos f1,hg2]
 dsimp only
 refine Prod.ext (Prod.ext ?_ rfl) v1
 rw [v3,f3,w3]
set_option maxHeartbeats 8000000 in
theorem works_c (H:∀h',Ext h h'→K (.bool true) h'):CallsH Tryz.prog 8 #[] h K ⟨⟩:=by
 refine n8_calls ?_
 unfold n8; try delta vF vG vC vD vJ vV vk vt
 refine file_c (n:=4096) dM fas_nil dM (fun h1 e1 hr=>by cases hr) (fun h1 sp s e1 _ st ps fo qs => ?_)
 refine cNew_c (bits:=9) (room:=2) st ps rfl dM dM dM dM fun h2 o km pm wm e2 a2 ho fo2 => ?_
 have S0:=Ses.new a2 ps dM dM
 have X2:Fr h h2 o (newC sp 9 2 km pm wm) s:=⟨e1.trans e2,fun b hb=>hb.elim (fun e=>by have:=fo2 b e; have:=e1.size; omega) (fun e=>fo b e)⟩
 have O0:Okp ⟨some (fl0 4096),[],2⟩:=⟨⟨_,rfl⟩,rfl⟩
 unfold ptrV
 simp (disch:=omega)
 refine num_c ?_
 simp (disch:=omega)
 rw [show (.pointer (some ⟨o,0,none⟩):Value)=ptrV o from rfl]
 refine Pages_c a2.co fun h3 sb pv e3 _ _ _ => ?_
 unfold nsqV
 simp (disch:=omega)
 have S1:=S0.ext e3
 refine (⟨_,rfl⟩:∃g,g=h3.push (.cells #[byteV 1] bT)).elim fun h4 eh4 => ?_
 have e4:Ext h3 h4:=by rw [eh4]; exact extS
 have B4:OwnG bT 1 h4 (.slice (some ⟨h3.size,0,none⟩) 1 1) ([1].map byteV):=by rw [eh4]; exact one_slice
 have z4:h4.size=h3.size+1:=by rw [eh4]; simp
 rw [show h3.push (.cells #[.int .u8 1] 5)=h4 from eh4.symm]
 clear eh4
 have S2:=S1.ext e4
 have use0:∀(c:Ca) (b:Nat),c.bits=9→(b=0∨b=1)→useE c.bits (b:Int) 0 1=0:=fun c b hb hc=>by
  rw [hb]
  rcases hc with rfl|rfl<;>decide
 refine write_f (b:=[1]) S2 dM O0 rfl (by show 0<2; decide) dM dM dM B4.bytes dM (fun d hd => ?_) (by show useE 9 0 0 1=0; decide) fun h5 c5 s5 u5 S5 F5 V5 _ => ?_
 ·have hd:d=h3.size:=(Option.some.inj hd).symm
  exact ⟨by omega,fun e=>by have:=S1.at_.lt e; omega⟩
 refine (⟨_,rfl⟩:∃g,g=h5.push (.cells #[byteV 2] bT)).elim fun h6 eh6 => ?_
 have e6:Ext h5 h6:=by rw [eh6]; exact extS
 have B6:OwnG bT 1 h6 (.slice (some ⟨h5.size,0,none⟩) 1 1) ([2].map byteV):=by rw [eh6]; exact one_slice
 have z6:h6.size=h5.size+1:=by rw [eh6]; simp
 simp (disch:=omega)
 rw [show h5.push (.cells #[.int .u8 2] 5)=h6 from eh6.symm]
 clear eh6
 have S6:=S5.ext e6
 have X6:=(((X2.go e3).go e4).upd u5).go e6
 have g51:c5.get 1=none:=by
  have:=F5.kept 1
  have h9:(newC sp 9 2 km pm wm).get 1=none:=rfl
  rw [h9] at this
  cases hc:c5.get 1 with
  | none=>rfl
  | some y=>rw [hc] at this; simp at this
 have b5:c5.bits=9:=F5.bits
 have r5:c5.room=2:=F5.room
 have l5:c5.P.length=1:=F5.len
 refine write_f (b:=[2]) S6 dM O0 g51 omg dM dM dM B6.bytes dM (fun d hd => ?_) (by rw [b5]; show useE 9 1 0 1=0; decide) fun h7 c7 s7 u7 S7 F7 V7 _ => ?_
 ·have hd:d=h5.size:=(Option.some.inj hd).symm
  exact ⟨by omega,fun e=>by have:=S5.at_.lt e; omega⟩
 have b7:c7.bits=9:=F7.bits.trans b5
 have d7:∀m,c7.dirty m=(decide (m=0) || decide (m=1)):=fun m=>by
  rw [F7.dirty,F5.dirty]
  have:(newC sp 9 2 km pm wm).dirty m=false:=rfl
  rw [this,Bool.false_or]
 have w7:∀m,c7.ws m=[]:=fun m=>by rw [F7.ws,F5.ws]; rfl
 have nr7:¬((0:Int)=1∨Reach c7 0 1):=by
  rintro (e|e)
  ·cases e
  ·obtain ⟨y,hy,-⟩:=Reach.iff.1 e
   rw [beh_mem,w7] at hy
   cases hy.1
 have op7:c7.opn 1=true:=by unfold Ca.opn; rw [d7]; rfl
 have ask7:∀c:Ca,c.bits=9→askE c.bits 0=0∧askE c.bits 1=0:=fun c hc=>by rw [hc]; decide
 refine after_s S7 dM (fun e => ?_) (fun h8 _ _ e _=>absurd e nr7) (fun h8 _ _ _ e _ => ?_) (fun h8 c8 _ _ _ _ u8 W8 S8 => ?_)
 ·rw [(ask7 c7 b7).1,(ask7 c7 b7).2] at e
  exact absurd e dM
 ·rw [op7] at e; cases e
 have hs8:=W8.same
 have b8:c8.bits=9:=by rw [hs8]; exact b7
 have P8:c8.P=c7.P:=by rw [hs8]
 have pe8:c8.pend=c7.pend:=by rw [hs8]
 have d8:∀m,c8.dirty m=c7.dirty m:=fun m=>by unfold Ca.dirty Ca.get; rw [P8]
 have w8:∀m q,q∈c8.ws m↔m=0∧q=1:=fun m q=>by rw [W8.ws,w7]; simp
 have op8:c8.opn 1=true:=by unfold Ca.opn; rw [d8,d7]; rfl
 have re8:(1:Int)=0∨Reach c8 1 0 := .inr (.one (beh_mem.2 ⟨(w8 0 1).2 ⟨rfl,rfl⟩,op8⟩))
 refine after_s S8 dM (fun e => ?_) (fun h9 _ _ _ e9 => ?_) (fun h9 _ _ e _ _=>absurd re8 e) (fun h9 c9 _ _ e _ _ _ _=>absurd re8 e)
 ·rw [(ask7 c8 b8).1,(ask7 c8 b8).2] at e
  exact absurd e dM
 have S9:=S8.ext e9
 refine back_s S9 dM fun h10 s10 f rk hf hr u10 S10 => ?_
 -- what is written back
 have key:∃c10 p10,backC f 0 (c8,(⟨some (fl0 4096),[],2⟩:Ps))=((c10,p10),0)∧c10.hits=0∧c10.loads=2∧c10.backs=2∧c10.flushes=1∧bt (nowP p10) 512=2∧c10.sp=sp:=by
  have hr10:rk 1<rk 0:=hr 0 1 ((w8 0 1).2 ⟨rfl,rfl⟩)
  have hf0:=hf 0
  obtain ⟨f2,rfl⟩:∃f2,f=f2+2:=⟨f-2,by omega⟩
  have hbe:c8.beh 0=[1]:=only_one (beh_nodup S8.at_.co 0) fun q=>by
   rw [beh_mem,w8]
   exact ⟨fun h=>h.1.2,fun h=>⟨⟨rfl,h⟩,by rw [h]; exact op8⟩⟩
  obtain ⟨p10,hp⟩:=back_two (f:=f2) (x:=(c8,(⟨some (fl0 4096),[],2⟩:Ps))) (by dsimp only; omega) O0 (ask7 c8 b8).1 (by dsimp only; rw [d8,d7]; rfl) (by dsimp only; rw [d8,d7]; rfl) hbe (List.eq_nil_iff_forall_not_mem.2 fun q hq=>by
   have:=(w8 1 q).1 hq
   exact absurd this.1 dM)
  have h8h:c8.hits=0:=by rw [hs8]; show c7.hits=0; rw [F7.hits,F5.hits]; rfl
  have h8l:c8.loads=2:=by rw [hs8]; show c7.loads=2; rw [F7.loads,F5.loads]; rfl
  have h8b:c8.backs=0:=by rw [hs8]; show c7.backs=0; rw [F7.backs,F5.backs]; rfl
  have h8f:c8.flushes=0:=by rw [hs8]; show c7.flushes=0; rw [F7.flushes,F5.flushes]; rfl
  have h8s:c8.sp=sp:=by rw [hs8]; show c7.sp=sp; rw [F7.sp,F5.sp]; rfl
  refine ⟨_,p10,hp,h8h,h8l,?_,?_,?_,h8s⟩
  ·show c8.backs+1+1=2
   rw [h8b]
  ·show c8.flushes+1=1
   rw [h8f]
  ·obtain ⟨m,-,-⟩:=backC_mics (x:=(c8,(⟨some (fl0 4096),[],2⟩:Ps))) hf hr (n:=0)
   rw [hp] at m
   obtain ⟨ch,vw⟩:=m.coh S8.coh
   have h1:=vw 1 dM
   rw [view_clean ch (by
    show (((c8.cleaned 1).flushed).cleaned 0).dirty 1=false
    rw [clean_dirty,if_neg dM,flush_dirty,clean_dirty,if_pos rfl])] at h1
   have h2:view (c8,(⟨some (fl0 4096),[],2⟩:Ps)) 1=view (c7,(⟨some (fl0 4096),[],2⟩:Ps)) 1:=by
    unfold view Ca.get
    dsimp only
    rw [P8,b8,b7]
   rw [h2,V7] at h1
   have h3:=congrArg (fun l=>bt l 0) h1
   dsimp only at h3
   have hb10:(((c8.cleaned 1).flushed).cleaned 0).bits=9:=b8
   rw [fill_bt _ _ _ (by rw [hb10]; decide),bt_over (by rw [fill_len,b5]; decide),if_pos dM,hb10] at h3
   exact h3
 obtain ⟨c10,p10,hbk,q1,q2,q3,q4,q5,q6⟩:=key
 rw [hbk] at S10 ⊢
 dsimp only at S10 ⊢
 have X10:=((((X6.upd u7).upd u8).go e9).upd u10).ext
 have hst:StAt h10 sp s10:=by rw [←q6]; exact S10.at_.st
 obtain ⟨f10,hf10⟩:∃f10,p10.f=some f10:=by
  cases hp:p10.f with
  | some f=>exact ⟨f,rfl⟩
  | none=>unfold nowP at q5; rw [hp] at q5; exact absurd q5 dM
 have hnow:nowP p10=f10.now:=by unfold nowP; rw [hf10]
 rw [hnow] at q5
 have hlen:512<f10.now.length:=by
  rcases Nat.lt_or_ge 512 f10.now.length with h|h
  ·exact h
  ·rw [bt_none h] at q5; exact absurd q5 dM
 obtain ⟨y,y1,y2,y3,y4⟩:=S10.ps.some_ hf10
 have hyl:y.last.length=f10.now.length:=by
  have:=(hst.fl y (by rw [y1]; simp)).len
  rw [←this,y2]
 have hone:(f10.now.drop 512).take 1=[2]:=by
  rw [List.drop_eq_getElem_cons hlen]
  rw [bt_get hlen] at q5
  rw [q5]; rfl
 rw [show (.pointer (some ⟨sp,0,none⟩):Value)=ptrV sp from rfl,show str [102]=str fN from rfl]
 refine Read_c hst dM dM dM dM dM (fun h11 e11 hne => ?_) (fun h11 x v e11 hx hgx _ _ _ ov fv _ => ?_)
 ·exfalso
  apply hne
  unfold rdErr
  rw [if_pos okN_f,y4]
  dsimp only
  rw [if_neg omg]
 have hxf:=(ps_size S10.ps hf10 hx).1
 rw [hxf,show ((512:Int)).toNat=512 from rfl,show ((1:Int)).toNat=1 from rfl,hone] at ov
 obtain ⟨va,vn,vc,rfl,hvn,hvc,hva⟩:=ov.form
 obtain rfl:vn=1:=by simpa using hvn.symm
 obtain ⟨vb,vo,rfl⟩:=hva sM
 have vcell:=(ov.cell (i:=0) sM).1
 simp (disch:=omega)
 refine Counts_c (S10.at_.co.ext e11) fun h12 e12 => ?_
 rw [q1,q2,q3,q4]
 have vcell2:=hcell_ext e12 vcell
 have vlt:vb<h12.size:=by
  have:=e12.size
  have h9:vb<h11.size:=ov.lt (b:=vb) (by
   obtain ⟨c',rfl⟩:∃c',vc=c'+1:=⟨vc-1,by omega⟩
   rfl)
  omega
 have hvb:¬vb=h12.size:=by omega
 simp (disch:=omega)
 refine (⟨_,rfl⟩:∃G,G=hset (hset (hset (hset (Array.push h12 (.cells #[.int .i64 0,.int .i64 0,.int .i64 0,.int .i64 0] 81)) ⟨h12.size,0,none⟩ (.int .i64 0)) ⟨h12.size,1,none⟩ (.int .i64 2)) ⟨h12.size,2,none⟩ (.int .i64 2)) ⟨h12.size,3,none⟩ (.int .i64 1)).elim fun G eG => ?_
 have g0:hcell G ⟨h12.size,0,none⟩=some (.int .i64 0):=by rw [eG]; simp
 have g1:hcell G ⟨h12.size,1,none⟩=some (.int .i64 2):=by rw [eG]; simp
 have g2:hcell G ⟨h12.size,2,none⟩=some (.int .i64 2):=by rw [eG]; simp
 have g3:hcell G ⟨h12.size,3,none⟩=some (.int .i64 1):=by rw [eG]; simp
 have eX:Ext h12 G:=by rw [eG]; exact extS
 have gv:hcell G (elt ⟨vb,vo,none⟩ 0)=some (byteV 2):=hcell_ext eX vcell2
 rw [←eG]
 clear eG
 unfold byteV at gv
 rw [elt_mk,Nat.add_zero] at gv
 refine num_c ?_
 refine num_c ?_
 simp (disch:=omega)
 refine num_c ?_
 simp (disch:=omega)
 refine num_c ?_
 simp (disch:=omega)
 refine num_c ?_
 simp (disch:=omega)
 refine num_c ?_
 simp (disch:=omega) [gv,g0,g1,g2,g3]
 exact H _ (X10.trans (e11.trans (e12.trans eX)))
end Go.Proofs.YtcbbdnaelimpfaaGreat
set_option linter.unusedSimpArgs false
set_option linter.unusedVariables false
namespace Go.Proofs.YtcbbdnaelimpfaaGreat
open Go.Vc Go.Sort

def lenP (p:Ps):Nat:=match p.f with|none=>0|some f=>f.last.length
end Go.Proofs.YtcbbdnaelimpfaaGreat

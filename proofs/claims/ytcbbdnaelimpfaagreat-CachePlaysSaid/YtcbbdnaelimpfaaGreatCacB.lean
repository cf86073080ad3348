/- Cache,plainly: a page is used. Cache: a page touched,found,brought in,in memory. Cache: a page is used. Cache: read,written. Cache: bytes written. Cache: written back,flushed,dropped,told. Cache: how a page stands; counts; a new cache. Cache: whom a page reaches. Cache: a page waits for another one. Cache: After. -/
import Derived.Test.YtcbbdnaelimpfaaGreatCacA
set_option linter.unusedSimpArgs false
set_option linter.unusedVariables false
namespace Go.Proofs.YtcbbdnaelimpfaaGreat
open Go.Vc Go.Sort
variable {K:VP} {h:Heap}

structure Same (c c':Ca):Prop where
 clock:c'.clock=c.clock
 hits:c'.hits=c.hits
 loads:c'.loads=c.loads
 room:c'.room=c.room
 sp:c'.sp=c.sp
theorem Same.refl (c:Ca):Same c c:=⟨rfl,rfl,rfl,rfl,rfl⟩
theorem Same.trans {a b c:Ca} (h:Same a b) (k:Same b c):Same a c:=⟨k.clock.trans h.clock,k.hits.trans h.hits,k.loads.trans h.loads,k.room.trans h.room,k.sp.trans h.sp⟩
theorem Mic.same {x y:Cx} (m:Mic x y):Same x.1 y.1:=by
 cases m with
 | flush=>unfold flushP; split<;>exact ⟨rfl,rfl,rfl,rfl,rfl⟩
 | write=>unfold writeP; split<;>exact ⟨rfl,rfl,rfl,rfl,rfl⟩
theorem Mics.same {x y:Cx} (m:Mics x y):Same x.1 y.1:=by
 induction m with
 | refl=>exact .refl _
 | tail _ m ih=>exact ih.trans m.same
theorem Less.map {β:Type} {c c':Ca} (l:Less c c') (g:Pge→β) (hg:∀x:Pge,g { x with d:=false }=g x):c'.P.map g=c.P.map g:=by
 have h:=congrArg (List.map g) l.shape
 rw [List.map_map,List.map_map] at h
 have e:(g∘fun x:Pge=>({ x with d:=false }:Pge))=g:=by funext x; exact hg x
 rw [e] at h
 exact h
structure Inv (c:Ca):Prop where
 used:∀x∈c.P,x.u≤c.clock
 us:(c.P.map (·.u)).Nodup
 hit:c.hits≤c.clock
 load:c.loads≤c.clock
theorem Inv.less {c c':Ca} (a:Inv c) (l:Less c c') (s:Same c c'):Inv c':=by
 have hu:c'.P.map (·.u)=c.P.map (·.u):=l.map _ (fun _=>rfl)
 refine ⟨fun x hx => ?_,by rw [hu]; exact a.us,by rw [s.hits,s.clock]; exact a.hit,by rw [s.loads,s.clock]; exact a.load⟩
 have:x.u∈c'.P.map (·.u):=List.mem_map_of_mem hx
 rw [hu] at this
 obtain ⟨y,hy,he⟩:=List.mem_map.1 this
 rw [s.clock,←he]; exact a.used y hy
theorem Inv.drop {c:Ca} (a:Inv c) (n:Int):Inv (c.dropP n) :=
 ⟨fun x hx=>a.used x (List.mem_filter.1 hx).1,a.us.sublist (List.filter_sublist.map _),a.hit,a.load⟩
def Pge.touch (n:Int) (k:Nat) (x:Pge):Pge:=if x.n=n then { x with u:=k } else x
def Ca.touched (c:Ca) (n:Int):Ca:={ c with P:=c.P.map (Pge.touch n (c.clock+1)),clock:=c.clock+1 }
def fillP (p:Ps) (bits:Nat) (n:Int):List UInt8:=match p.f with|none=>zeros (2^bits)|some f=>over (zeros (2^bits)) 0 ((f.now.drop (n.toNat*2^bits)).take (2^bits))
def Ca.added (c:Ca) (g:Pge):Ca:={ c with P:=c.P++[g],loads:=c.loads+1 }
def Ca.hit1 (c:Ca):Ca:={ c with hits:=c.hits+1 }
def newPg (p:Ps) (bits:Nat) (n:Int) (pb bb:Nat):Pge:=⟨n,fillP p bits n,false,0,pb,bb⟩
def useP (f:Nat) (n:Int) (pb bb:Nat) (x:Cx):Cx×Int:=match x.2.f with
 | none=>(x,7)
 | some _=>match x.1.get n with
  | some _=>((x.1.hit1.touched n,x.2),0)
  | none=>if (freeP f x).2=0 then ((((freeP f x).1.1.added (newPg (freeP f x).1.2 x.1.bits n pb bb)).touched n,(freeP f x).1.2),0) else freeP f x
def useE (bits:Nat) (n at_ k:Int):Int:=if askE bits n≠0 then 2 else if at_<0∨k<0∨((2^bits:Nat):Int)<at_∨((2^bits:Nat):Int)-at_<k then 2 else 0
theorem freeP_spec {rk:Int→Nat} {f:Nat} (hf:∀n,rk n<f) (x:Cx) (hr:Ranks rk x.1):∃y:Cx,Mics x y∧(freeP f x).1.2=y.2∧((freeP f x).1.1=y.1∨∃g,x.1.victim=some g∧(freeP f x).2=0∧y.1.dirty g.n=false∧(freeP f x).1.1=y.1.dropP g.n):=by
 unfold freeP
 by_cases h1:x.1.P.length<x.1.room
 ·rw [if_pos h1]; exact ⟨x,.refl x,rfl,.inl rfl⟩
 ·rw [if_neg h1]
  cases hv:x.1.victim with
  | none=>exact ⟨x,.refl x,rfl,.inl rfl⟩
  | some g =>
   dsimp only
   obtain ⟨sp,h0⟩:=back_spec (rk:=rk) f g.n x (hf _) hr
   by_cases h2:(backP f g.n x).2=0
   ·rw [if_pos h2]
    exact ⟨_,sp.mics,rfl,.inr ⟨g,rfl,rfl,h0 h2,rfl⟩⟩
   ·rw [if_neg h2]
    exact ⟨_,sp.mics,rfl,.inl rfl⟩
theorem victim_mem {c:Ca} {g:Pge} (h:c.victim=some g):g∈c.P:=List.mem_of_find?_eq_some h
theorem freeP_room {rk:Int→Nat} {f:Nat} (hf:∀n,rk n<f) {x:Cx} (hr:Ranks rk x.1) (hP:x.1.P.length≤x.1.room) (h0:(freeP f x).2=0):(freeP f x).1.1.P.length<x.1.room:=by
 unfold freeP at h0 ⊢
 by_cases h1:x.1.P.length<x.1.room
 ·rw [if_pos h1]; exact h1
 ·rw [if_neg h1] at h0 ⊢
  cases hv:x.1.victim with
  | none=>rw [hv] at h0; exact absurd h0 (by show ¬(1:Int)=0; decide)
  | some g =>
   rw [hv] at h0
   dsimp only at h0 ⊢
   obtain ⟨sp,-⟩:=back_spec (rk:=rk) f g.n x (hf _) hr
   by_cases h2:(backP f g.n x).2=0
   ·rw [if_pos h2]
    show ((backP f g.n x).1.1.P.filter _).length<_
    have hn:(backP f g.n x).1.1.P.map (·.n)=x.1.P.map (·.n):=sp.mics.less.map _ (fun _=>rfl)
    have hl:=congrArg List.length hn
    simp only [List.length_map] at hl
    have hg:g.n∈(backP f g.n x).1.1.P.map (·.n):=by rw [hn]; exact List.mem_map_of_mem (victim_mem hv)
    obtain ⟨z,hz,he⟩:=List.mem_map.1 hg
    have:((backP f g.n x).1.1.P.filter fun x => !decide (x.n=g.n)).length<(backP f g.n x).1.1.P.length :=
     List.length_filter_lt_length_iff_exists.2 ⟨z,hz,by simp [he]⟩
    omega
   ·rw [if_neg h2] at h0; exact absurd h0 h2
theorem drop_get {c:Ca} {n m:Int}:(c.dropP n).get m=if m=n then none else c.get m:=by
 unfold Ca.get Ca.dropP
 dsimp only
 induction c.P with
 | nil=>simp
 | cons x l ih =>
  by_cases h:x.n=n
  ·rw [List.filter_cons_of_neg (by simp [h]),ih,List.find?_cons]
   by_cases h2:m=n
   ·rw [if_pos h2,if_pos h2]
   ·rw [if_neg h2,if_neg h2]
    simp [h,Ne.symm h2]
  ·rw [List.filter_cons_of_pos (by simp [h]),List.find?_cons,List.find?_cons,ih]
   by_cases h2:m=n
   ·rw [if_pos h2,if_pos h2]
    subst h2
    simp [h]
   ·rw [if_neg h2,if_neg h2]
theorem freeP_get {rk:Int→Nat} {f:Nat} (hf:∀n,rk n<f) {x:Cx} (hr:Ranks rk x.1) {n:Int} (h:x.1.get n=none):(freeP f x).1.1.get n=none:=by
 have keep:∀y:Cx,Mics x y→y.1.get n=none:=fun y m=>by
  have hn:y.1.P.map (·.n)=x.1.P.map (·.n):=m.less.map _ (fun _=>rfl)
  cases hg:y.1.get n with
  | none=>rfl
  | some z =>
   exfalso
   obtain ⟨h1,h2⟩:=get_mem hg
   have h3:z.n∈x.1.P.map (·.n):=by rw [←hn]; exact List.mem_map_of_mem h1
   obtain ⟨w,hw,he⟩:=List.mem_map.1 h3
   exact get_none_ h w hw (he.trans h2)
 obtain ⟨y,m,-,h2⟩:=freeP_spec hf x hr
 rcases h2 with h2|⟨g,-,-,-,h2⟩
 ·rw [h2]; exact keep y m
 ·rw [h2,drop_get]
  split
  ·rfl
  ·exact keep y m
theorem freeP_inv {rk:Int→Nat} {f:Nat} (hf:∀n,rk n<f) {x:Cx} (hr:Ranks rk x.1) (a:Inv x.1):Inv (freeP f x).1.1∧Same x.1 (freeP f x).1.1∧(freeP f x).1.1.bits=x.1.bits∧Ranks rk (freeP f x).1.1:=by
 obtain ⟨y,m,-,h2⟩:=freeP_spec hf x hr
 have i:=a.less m.less m.same
 rcases h2 with h2|⟨g,-,-,-,h2⟩
 ·rw [h2]; exact ⟨i,m.same,m.less.bits,hr.less m.less⟩
 ·rw [h2]; exact ⟨i.drop _,m.same.trans ⟨rfl,rfl,rfl,rfl,rfl⟩,m.less.bits,fun a b e=>(hr.less m.less) a b e⟩
theorem touch_same (n:Int) (k:Nat) (y:Pge):(y.touch n k).n=y.n∧(y.touch n k).pb=y.pb∧(y.touch n k).bb=y.bb∧(y.touch n k).D=y.D∧(y.touch n k).d=y.d:=by
 unfold Pge.touch; split<;>exact ⟨rfl,rfl,rfl,rfl,rfl⟩
theorem touch_get {c:Ca} {n m:Int}:(c.touched n).get m=(c.get m).map (Pge.touch n (c.clock+1)):=by
 unfold Ca.get Ca.touched
 dsimp only
 rw [List.find?_map]
 congr 2
 funext x
 simp [(touch_same n (c.clock+1) x).1]
theorem Inv.touched {c:Ca} {n:Int} (hn:(c.P.map (·.n)).Nodup) (u0:∀x∈c.P,x.n≠n→x.u≤c.clock) (us:∀x∈c.P,∀y∈c.P,x.n≠n→y.n≠n→x.u=y.u→x=y) (h1:c.hits≤c.clock+1) (h2:c.loads≤c.clock+1):Inv (c.touched n):=by
 refine ⟨fun x hx => ?_,?_,h1,h2⟩
 ·obtain ⟨y,hy,rfl⟩:=List.mem_map.1 hx
  show (y.touch n _).u≤c.clock+1
  unfold Pge.touch
  split
  ·exact Nat.le_refl _
  ·rename_i e; have:=u0 y hy e; omega
 ·show ((c.P.map (Pge.touch n (c.clock+1))).map Pge.u).Nodup
  rw [List.map_map]
  have key:∀l:List Pge,(l.map (·.n)).Nodup→(∀x∈l,x∈c.P)→(l.map (Pge.u∘Pge.touch n (c.clock+1))).Nodup:=by
   intro l
   induction l with
   | nil=>intro _ _; exact .nil
   | cons x l ih =>
    intro hnd hm
    simp only [List.map_cons,List.nodup_cons] at hnd ⊢
    refine ⟨fun he => ?_,ih hnd.2 (fun y hy=>hm y (List.mem_cons_of_mem _ hy))⟩
    obtain ⟨y,hy,e⟩:=List.mem_map.1 he
    have hxy:x.n≠y.n:=fun e2=>hnd.1 (by rw [e2]; exact List.mem_map_of_mem hy)
    have hx:=hm x List.mem_cons_self
    have hy':=hm y (List.mem_cons_of_mem _ hy)
    dsimp only [Function.comp] at e
    unfold Pge.touch at e
    by_cases h3:y.n=n
    ·rw [if_pos h3,if_neg (fun h4=>hxy (h4.trans h3.symm))] at e
     have:=u0 x hx (fun h4=>hxy (h4.trans h3.symm))
     dsimp only at e; omega
    ·rw [if_neg h3] at e
     by_cases h4:x.n=n
     ·rw [if_pos h4] at e
      have:=u0 y hy' h3
      dsimp only at e; omega
     ·rw [if_neg h4] at e
      exact hxy (by rw [us y hy' x hx h3 h4 e])
  exact key c.P hn (fun x hx=>hx)
end Go.Proofs.YtcbbdnaelimpfaaGreat
set_option linter.unusedSimpArgs false
set_option linter.unusedVariables false
namespace Go.Proofs.YtcbbdnaelimpfaaGreat
open Go.Vc Go.Sort
variable {K:VP} {h:Heap}

theorem nums_nodup {o:Nat} {c:Ca} (A:CoAt h o c):(c.P.map (·.n)).Nodup:=by
 have:=A.kept.nodup
 unfold Ca.keptL at this
 rw [List.map_map] at this
 exact this
theorem foot_map {o:Nat} {c c':Ca} {f:Pge→Pge} (hP:c'.P=c.P.map f) (hf:∀y∈c.P,(f y).pb=y.pb∧(f y).bb=y.bb) (h1:c'.km=c.km) (h2:c'.pm=c.pm) (h3:c'.wm=c.wm) (h4:c'.W=c.W) {b:Nat} (hb:c'.foot o b):c.foot o b:=by
 unfold Ca.foot at hb ⊢
 rw [h1,h2,h3,h4,hP] at hb
 rcases hb with e|e|e|e|e|⟨x,hx,e⟩|⟨x,hx,e⟩
 ·exact .inl e
 ·exact .inr (.inl e)
 ·exact .inr (.inr (.inl e))
 ·exact .inr (.inr (.inr (.inl e)))
 ·exact .inr (.inr (.inr (.inr (.inl e))))
 ·obtain ⟨y,hy,rfl⟩:=List.mem_map.1 hx
  exact .inr (.inr (.inr (.inr (.inr (.inl ⟨y,hy,e.trans (hf y hy).1⟩)))))
 ·obtain ⟨y,hy,rfl⟩:=List.mem_map.1 hx
  exact .inr (.inr (.inr (.inr (.inr (.inr ⟨y,hy,e.trans (hf y hy).2⟩)))))
theorem touch_u {o:Nat} {c:Ca} {s:St} {n:Int} {g:Pge} {k:Int} (a:CAt h o c s) (hg:c.get n=some g) (hc:c.clock+1<1000000) (hk:k=((c.clock+1:Nat):Int)) :
 CUpd h (hset (hset h ⟨o,7,none⟩ (.int .i64 k)) ⟨g.pb,3,none⟩ (.int .i64 k)) o c s (c.touched n) s:=by
 subst hk
 obtain ⟨hx,hn⟩:=get_mem hg
 have pg:=a.co.pg g hx
 have hne:o≠g.pb:=get_ne a.co.cells pg cT_ne.1
 refine (⟨_,rfl⟩:∃h1,h1=hset h ⟨o,7,none⟩ (.int .i64 ((c.clock+1:Nat):Int))).elim fun h1 eh1 => ?_
 rw [←eh1]
 have m1:Mod (· = o) h h1:=by rw [eh1]; exact Mod.set h ⟨o,7,none⟩ _
 have k1:=a.co.cnt (k:=c.clock+1) (a:=c.hits) (b:=c.loads) (d:=c.backs) (e:=c.flushes) (h':=h1) (by rw [eh1]; exact obj_set a.co.cells) m1 { a.co.ok with clk:=hc }
 clear eh1
 refine (⟨_,rfl⟩:∃h2,h2=hset h1 ⟨g.pb,3,none⟩ (.int .i64 ((c.clock+1:Nat):Int))).elim fun h2 eh2 => ?_
 rw [←eh2]
 have m2:Mod (· = g.pb) h1 h2:=by rw [eh2]; exact Mod.set h1 ⟨g.pb,3,none⟩ _
 have hgt:g.touch n (c.clock+1)={ g with u:=c.clock+1 }:=by unfold Pge.touch; rw [if_pos hn]
 have k2:CoAt h2 o (c.touched n):=by
  refine k1.pageU (x:=g) (f:=Pge.touch n (c.clock+1)) hx (fun y _ hy => ?_) (fun y _=>⟨(touch_same n _ y).1,(touch_same n _ y).2.1,(touch_same n _ y).2.2.1⟩) ?_ ?_ (m2.mono (fun b _ e => .inl e)) ?_
  ·unfold Pge.touch; rw [if_neg (by rw [hn] at hy; exact hy)]
  ·rw [hgt,eh2]; exact obj_set (k1.pg g hx)
  ·rw [hgt]
   exact (k1.by_ g hx).mod m2 (fun b hb e=>(k1.by_ g hx).ne hb (k1.pg g hx) cT_ne.2.2.1.symm e)
  ·have mapEq:∀{β:Type} (F:Pge→β),(∀y,F (y.touch n (c.clock+1))=F y)→(c.P.map (Pge.touch n (c.clock+1))).map F=c.P.map F:=fun F hF=>by
    rw [List.map_map]
    exact List.map_congr_left (fun y _=>hF y)
   have mem:∀x∈c.P.map (Pge.touch n (c.clock+1)),∃y∈c.P,y.touch n (c.clock+1)=x:=fun x hx=>List.mem_map.1 hx
   refine { k1.ok with few := ?_,len:=fun x hx => ?_,num:=fun x hx => ?_,pbs := ?_,bbs := ?_ }
   ·show (c.P.map _).length≤_
    rw [List.length_map]; exact a.co.ok.few
   ·obtain ⟨y,hy,rfl⟩:=mem x hx
    rw [(touch_same n _ y).2.2.2.1]; exact a.co.ok.len y hy
   ·obtain ⟨y,hy,rfl⟩:=mem x hx
    rw [(touch_same n _ y).1]; exact a.co.ok.num y hy
   ·show ((c.P.map (Pge.touch n (c.clock+1))).map Pge.pb).Nodup
    rw [mapEq _ (fun y=>(touch_same n _ y).2.1)]; exact a.co.ok.pbs
   ·show ((c.P.map (Pge.touch n (c.clock+1))).map Pge.bb).Nodup
    rw [mapEq _ (fun y=>(touch_same n _ y).2.2.1)]; exact a.co.ok.bbs
 refine a.core k2 ((m1.mono (fun b _ e => .inl e)).trans m2 (fun b _ e => .inr (.inr (.inr (.inr (.inr (.inl ⟨g,hx,e⟩))))))) rfl (fun b hb => .inl ?_) a.bk a.fl
 exact foot_map (c':=c.touched n) rfl (fun y _=>⟨(touch_same n _ y).2.1,(touch_same n _ y).2.2.1⟩) rfl rfl rfl rfl hb
theorem hit_u {o:Nat} {c:Ca} {s:St} {k:Int} (a:CAt h o c s) (hc:c.hits+1≤1000000) (hk:k=((c.hits+1:Nat):Int)):CUpd h (hset h ⟨o,8,none⟩ (.int .i64 k)) o c s c.hit1 s:=by
 subst hk
 refine (⟨_,rfl⟩:∃h1,h1=hset h ⟨o,8,none⟩ (.int .i64 ((c.hits+1:Nat):Int))).elim fun h1 eh1 => ?_
 rw [←eh1]
 have m1:Mod (· = o) h h1:=by rw [eh1]; exact Mod.set h ⟨o,8,none⟩ _
 have k1:=a.co.cnt (k:=c.clock) (a:=c.hits+1) (b:=c.loads) (d:=c.backs) (e:=c.flushes) (h':=h1) (by rw [eh1]; exact obj_set a.co.cells) m1 { a.co.ok with hit:=hc }
 exact a.core k1 (m1.mono (fun b _ e => .inl e)) rfl (fun b hb => .inl hb) a.bk a.fl
theorem find_new {c:Ca} {g:Pge} (hn:c.get g.n=none):(c.added g).get g.n=some g:=by
 unfold Ca.get Ca.added at *
 dsimp only
 rw [List.find?_append,hn]
 simp
theorem add_u {o:Nat} {c:Ca} {s:St} {g:Pge} {h':Heap} (a:CAt h o c s) (hn:c.get g.n=none) (hl:g.D.length=2^c.bits) (hnum:0≤g.n∧g.n*((2^c.bits:Nat):Int)<268435456) (hb1:h.size≤g.pb) (hb2:h.size≤g.bb)
 (hc:h'[g.pb]? = some (.cells g.cells pgT)) (hby:OwnG bT 1 h' g.sl (g.D.map byteV)) (hm:MapK ik h' c.km (upd g.n (ptrV g.pb) c.keptL)) (ho:h'[o]? = some (.cells (c.added g).cells cT)) (m:Mod (fun b=>b=o∨b=c.km) h h') (hroom:c.P.length<c.room) (hld:c.loads+1≤1000000) :
 CUpd h h' o c s (c.added g) s:=by
 obtain ⟨o1,o2,o3⟩:=a.co.oM a.co.kept
 have neo:∀{mm:Nat} {l:List (Int×Value)},MapK ik h mm l→mm≠c.km→¬(mm=o∨mm=c.km):=fun hm h1 e=>e.elim (fun e=>(a.co.oM hm).1 e.symm) h1
 have hlt:∀x∈c.P,x.pb<h.size∧x.bb<h.size:=fun x hx=>⟨a.co.lt (.inr (.inr (.inr (.inr (.inr (.inl ⟨x,hx,rfl⟩)))))),a.co.lt (.inr (.inr (.inr (.inr (.inr (.inr ⟨x,hx,rfl⟩))))))⟩
 have hP:∀x∈(c.added g).P,x∈c.P∨x=g:=fun x hx=>by
  rcases List.mem_append.1 hx with h1|h1
  ·exact .inl h1
  ·exact .inr (by simpa using h1)
 have co:CoAt h' o (c.added g):=by
  refine ⟨ho,?_,fun x hx => ?_,a.co.pend.mod m (neo a.co.pend a.co.ok.m1.symm),a.co.wait.mod m (neo a.co.wait a.co.ok.m2.symm),fun w hw=>(a.co.sets w hw).mod m (neo (a.co.sets w hw) (a.co.ok.m4 w hw).1),fun x hx => ?_,?_⟩
  ·have:=upd_new (k:=g.n) (v:=ptrV g.pb) (l:=c.keptL) (fun p hp e=>by
    unfold Ca.keptL at hp
    obtain ⟨x,hx,rfl⟩:=List.mem_map.1 hp
    exact get_none_ hn x hx e)
   rw [this] at hm
   show MapK ik h' c.km ((c.P++[g]).map _)
   rw [List.map_append]
   exact hm
  ·rcases hP x hx with h1|rfl
   ·exact (m.block _ (hlt x h1).1 (fun e=>e.elim (get_ne (a.co.pg x h1) a.co.cells cT_ne.1.symm) (o2 x h1))).trans (a.co.pg x h1)
   ·exact hc
  ·rcases hP x hx with h1|rfl
   ·refine (a.co.by_ x h1).mod m (fun b hb e => ?_)
    have hb':=hb
    rw [CoAt.blk_ a.co.ok h1] at hb'
    cases hb'
    exact e.elim ((a.co.by_ x h1).ne hb a.co.cells cT_ne.2.1.symm) (o3 x h1)
   ·exact hby
  ·refine { a.co.ok with few := ?_,len:=fun x hx => ?_,num:=fun x hx => ?_,pbs := ?_,bbs := ?_,load:=hld }
   ·show (c.P++[g]).length≤c.room
    simp; omega
   ·rcases hP x hx with h1|rfl
    ·exact a.co.ok.len x h1
    ·exact hl
   ·rcases hP x hx with h1|rfl
    ·exact a.co.ok.num x h1
    ·exact hnum
   ·show ((c.P++[g]).map Pge.pb).Nodup
    rw [List.map_append,List.nodup_append]
    refine ⟨a.co.ok.pbs,by simp,fun x hx y hy e => ?_⟩
    obtain ⟨z,hz,rfl⟩:=List.mem_map.1 hx
    simp at hy
    have:=(hlt z hz).1; omega
   ·show ((c.P++[g]).map Pge.bb).Nodup
    rw [List.map_append,List.nodup_append]
    refine ⟨a.co.ok.bbs,by simp,fun x hx y hy e => ?_⟩
    obtain ⟨z,hz,rfl⟩:=List.mem_map.1 hx
    simp at hy
    have:=(hlt z hz).2; omega
 refine a.core co (m.mono (fun b _ e=>e.elim .inl (fun e => .inr (.inl e)))) rfl (fun b hb => ?_) a.bk a.fl
 rcases hb with e|e|e|e|e|⟨x,hx,e⟩|⟨x,hx,e⟩
 ·exact .inl (.inl e)
 ·exact .inl (.inr (.inl e))
 ·exact .inl (.inr (.inr (.inl e)))
 ·exact .inl (.inr (.inr (.inr (.inl e))))
 ·exact .inl (.inr (.inr (.inr (.inr (.inl e)))))
 ·rcases hP x hx with h1|rfl
  ·exact .inl (.inr (.inr (.inr (.inr (.inr (.inl ⟨x,h1,e⟩))))))
  ·exact .inr omg
 ·rcases hP x hx with h1|rfl
  ·exact .inl (.inr (.inr (.inr (.inr (.inr (.inr ⟨x,h1,e⟩))))))
  ·exact .inr omg
end Go.Proofs.YtcbbdnaelimpfaaGreat
set_option linter.unusedSimpArgs false
set_option linter.unusedVariables false
namespace Go.Proofs.YtcbbdnaelimpfaaGreat
open Go.Vc Go.Sort
variable {K:VP} {h:Heap}

theorem ps_size {s:St} {p:Ps} {f:Fl} (ps:PsAt s p) (hf:p.f=some f) {x:Fh} (hx:x∈s.F):x.f=f∧x.last=f.last∧s.get fN=some x:=by
 obtain ⟨y,h1,h2,h3,h4⟩:=ps.some_ hf
 rw [h1] at hx
 have:x=y:=by simpa using hx
 subst this
 exact ⟨h2,by rw [←h2]; rfl,h4⟩
theorem fErr_ok {s:St} {p:Ps} (ps:PsAt s p):fErr s fN=if p.f.isSome then 0 else 7:=by
 unfold fErr
 rw [if_pos okN_f]
 cases hf:p.f with
 | none=>rw [ps.none_ hf]; rfl
 | some f =>
  obtain ⟨x,-,-,-,hg⟩:=ps.some_ hf
  rw [hg]; rfl
def SzOk (p:Ps) (sz:Int):Prop:=match p.f with|none=>sz=0|some f=>sz=(f.last.length:Nat)
theorem size_c {sp:Nat} {s:St} {p:Ps} (a:StAt h sp s) (ps:PsAt s p) (H:∀h' sz e,Ext h h'→SzOk p sz→K (.tuple #[.int .i64 sz,.int .i64 e]) h'):CallsH Tryz.prog 18 #[ptrV sp,str fN] h K ⟨⟩:=by
 refine Size_c a dM (fun h1 e1 hne => ?_) (fun h1 x e1 hx hxn => ?_)
 ·refine H h1 0 _ e1 ?_
  rw [fErr_ok ps] at hne
  unfold SzOk
  cases hpf:p.f with
  | some f0=>rw [hpf] at hne; exact absurd rfl hne
  | none=>rfl
 ·refine H h1 _ 0 e1 ?_
  unfold SzOk
  cases hf:p.f with
  | none=>have:=ps.2.2; rw [hf] at this; rw [this] at hx; cases hx
  | some f=>rw [(ps_size ps hf hx).2.1]
set_option maxHeartbeats 8000000 in
theorem use_c {rk:Int→Nat} {f:Nat} {o:Nat} {c:Ca} {s:St} {p:Ps} {n at_ k:Int} (hf:∀n,rk n<f) (hr:Ranks rk c) (inv:Inv c) (a:CAt h o c s) (ps:PsAt s p) (hs:s.steps+2*c.dN+4<1000000) (hclk:c.clock+1<1000000)
 (a0 : -9223372036854775808≤at_) (a1:at_<9223372036854775808) (k0 : -9223372036854775808≤k) (k1:k<9223372036854775808)
 (H2:useE c.bits n at_ k≠0→K (.tuple #[.pointer none,.int .i64 2]) h)
 (He:∀h' s',useE c.bits n at_ k=0→(useP f n 0 0 (c,p)).2≠0→CUpd h h' o c s (useP f n 0 0 (c,p)).1.1 s'→PsAt s' (useP f n 0 0 (c,p)).1.2→K (.tuple #[.pointer none,.int .i64 (useP f n 0 0 (c,p)).2]) h')
 (Hw:∀h' s' pb bb g,useE c.bits n at_ k=0→(useP f n pb bb (c,p)).2=0→CUpd h h' o c s (useP f n pb bb (c,p)).1.1 s'→PsAt s' (useP f n pb bb (c,p)).1.2→(useP f n pb bb (c,p)).1.1.get n=some g→K (.tuple #[ptrV g.pb,.int .i64 0]) h') :
 CallsH Tryz.prog 39 #[ptrV o,.int .i64 n,.int .i64 at_,.int .i64 k] h K ⟨⟩:=by
 refine n39_calls ?_
 unfold n39; try delta vF vG vC vD vJ vV vk vt
 refine ask_c a.co.cells a.co.ok.b1 ?_
 obtain ⟨W,hW⟩:∃W,2^c.bits=W:=⟨_,rfl⟩
 obtain ⟨w0,w1⟩:=shrP a.co.ok.b1
 have b1:=a.co.ok.b1
 by_cases hask:askE c.bits n≠0
 ·have h2:askE c.bits n=2:=by
   unfold askE at hask ⊢
   split at hask
   ·rename_i e; rw [if_pos e]
   ·exact absurd rfl hask
  rw [h2]
  simp (disch:=omega)
  exact H2 (by unfold useE; rw [if_pos hask]; decide)
 have hask:askE c.bits n=0:=Classical.not_not.1 hask
 have hnum:=ask_ok b1 hask
 have c0:=ce0 a.co.cells
 have c1:=ce1 a.co.cells
 have c2:=ce2 a.co.cells
 have hs1:=fun (q:Bool) (tt:Nat) (o1 o2:Go.Operand) (g:Heap) (K:VP)=>Hp_shlW (P:=Tryz.prog) (q:=q) (t:=tt) (x:=o1) (y:=o2) (k' := .i64) (K:=K) (h:=g) (a:=1) hW omg omg (by rw [←hW]; omega)
 have hue:useE c.bits n at_ k=if at_<0∨k<0∨(W:Int)<at_∨(W:Int)-at_<k then 2 else 0:=by unfold useE; rw [if_neg (fun e=>e hask),hW]
 rw [hue] at H2 He Hw
 rw [hask]
 rw [hW] at w0 w1
 have bad:(at_<0∨k<0∨(W:Int)<at_∨(W:Int)-at_<k)→K (.tuple #[.pointer none,.int .i64 2]) h:=fun e=>H2 (by rw [if_pos e]; decide)
 unfold ptrV
 by_cases hb1:at_<0
 ·simp (disch:=omega) [hb1]
  exact bad (.inl hb1)
 by_cases hb2:k<0
 ·simp (disch:=omega) [hb1,hb2]
  exact bad (.inr (.inl hb2))
 by_cases hb3:(W:Int)<at_
 ·simp (disch:=omega) [hb1,hb2,c2,hs1,hb3]
  exact bad (.inr (.inr (.inl hb3)))
 by_cases hb4:(W:Int)-at_<k
 ·simp (disch:=omega) [hb1,hb2,c2,hs1,hb3,hb4]
  exact bad (.inr (.inr (.inr hb4)))
 rw [if_neg omg] at He Hw
 simp (disch:=omega) [hb1,hb2,c2,hs1,hb3,hb4,c0,c1]
 rw [show (.pointer (some ⟨c.sp,0,none⟩):Value)=ptrV c.sp from rfl]
 refine Size_c a.st dM (fun h1 e1 hne => ?_) (fun h1 x e1 hx hxn => ?_)
 ·rw [fErr_ok ps] at hne ⊢
  cases hpf:p.f with
  | some f0=>rw [hpf] at hne; exact absurd rfl hne
  | none =>
   have hu:useP f n 0 0 (c,p)=((c,p),7):=by unfold useP; dsimp only; rw [hpf]
   rw [hu] at He
   simp (disch:=omega)
   exact He h1 s rfl (by show (7:Int)≠0; decide) ((CUpd.refl a).ext e1) ps
 obtain ⟨f0,hpf⟩:∃f0,p.f=some f0:=by
  cases hf:p.f with
  | none=>have:=ps.2.2; rw [hf] at this; rw [this] at hx; cases hx
  | some f=>exact ⟨f,rfl⟩
 have a1:=a.ext e1
 have c4:=ce4 a1.co.cells
 have lk:look2 n c.keptL=(c.get n).map fun x=>ptrV x.pb:=look_kept c.P
 simp (disch:=omega) [c4]
 rw [Hp_lookup keptKey (z := .pointer none) kR a1.co.kept,lk]
 simp (disch:=omega)
 refine JoinN_in1 (fun v g=>∃c2 s2 p2 g2 pb bb,CUpd h g o c s c2 s2∧PsAt s2 p2∧c2.get n=some g2∧v=ptrV g2.pb∧c2.clock=c.clock∧useP f n pb bb (c,p)=((c2.touched n,p2),0)) (fun kk hkk => ?_) (fun v g hv => ?_)
 ·cases hg:c.get n with
  | some g0 =>
   have d8:=ce8 a1.co.cells
   have f8:=ceF a1.co.cells 8
   have hh:=inv.hit
   unfold ptrV
   simp (disch:=omega) [d8,f8]
   have u1:=hit_u (k:=(c.hits:Int)+1) a1 omg omg
   refine hkk _ _ ⟨c.hit1,s,p,g0,0,0,u1.from_ e1,ps,hg,rfl,rfl,?_⟩
   unfold useP
   dsimp only
   rw [hpf,hg]
  | none =>
   simp (disch:=omega)
   rw [show (.pointer (some ⟨o,0,none⟩):Value)=ptrV o from rfl]
   have hu:∀pb bb,useP f n pb bb (c,p)=if (freeP f (c,p)).2=0 then ((((freeP f (c,p)).1.1.added (newPg (freeP f (c,p)).1.2 c.bits n pb bb)).touched n,(freeP f (c,p)).1.2),0) else freeP f (c,p):=fun pb bb=>by unfold useP; dsimp only; rw [hpf,hg]
   refine free_c (rk:=rk) hf hr inv.us a1 ps hs fun h6 s6 u6 ps6 => ?_
   have hrm:=freeP_room (x:=(c,p)) hf hr a.co.ok.few
   obtain ⟨inv6,same6,bits6,rk6⟩:=freeP_inv (x:=(c,p)) hf hr inv
   have get6:=freeP_get (x:=(c,p)) hf hr hg
   generalize freeP f (c,p)=R at *
   obtain ⟨⟨c6,p6⟩,e⟩:=R
   dsimp only at *
   by_cases h0:e=0
   ·have hu:=fun pb bb=>(hu pb bb).trans (if_pos h0)
    have hrm:=hrm h0
    have a6:=u6.at_
    have d0:=ce0 a6.co.cells
    have d1:=ce1 a6.co.cells
    have d2:=ce2 a6.co.cells
    rw [bits6] at d2
    unfold ptrV
    have hol:=get_some_lt a6.co.cells
    have n1:¬o=h6.size:=by omega
    have n2:¬o=h6.size+1:=by omega
    simp (disch:=omega) [h0,d0,d1,d2,hs1,n1,n2]
    refine (⟨_,rfl⟩:∃h7,h7=(h6.push (.cells (Array.replicate W (.int .u8 0)) 5)).push (.cells #[.int .i64 n,.slice (some ⟨h6.size,0,none⟩) W W,.bool false,.int .i64 0] 99)).elim fun h7 eh7 => ?_
    have e7:Ext h6 h7:=by rw [eh7]; exact extS
    have z7:h7.size=h6.size+2:=by rw [eh7]; simp
    have qP:h7[h6.size+1]? = some (.cells #[.int .i64 n,.slice (some ⟨h6.size,0,none⟩) W W,.bool false,.int .i64 0] pgT):=by rw [eh7]; exact get_pushed sM
    have qB:OwnG bT 1 h7 (.slice (some ⟨h6.size,0,none⟩) W W) ((zeros W).map byteV):=by
     obtain ⟨W1,rfl⟩:∃W1,W=W1+1:=⟨W-1,by omega⟩
     refine .inr ⟨h6.size,0,W1+1,W1,[],[],rfl,by simp [zeros],Nat.le_refl _,rfl,?_,by simp [zeros]⟩
     rw [eh7,get_push sM,get_pushed rfl]
     simp only [List.nil_append,List.append_nil,zeros,List.map_replicate,←List.toArray_replicate]; rfl
    rw [←eh7]
    clear eh7
    have a7:=a6.ext e7
    rw [show (.pointer (some ⟨c6.sp,0,none⟩):Value)=ptrV c6.sp from rfl]
    refine size_c a7.st ps6 fun h8 sz ee e8 hsz => ?_
    obtain ⟨N,hN⟩:=Int.eq_ofNat_of_zero_le hnum.1
    have hpl:n*(W:Int)=((N*W:Nat):Int):=by rw [hN,Int.natCast_mul]
    obtain ⟨PL,hPL⟩:∃PL,N*W=PL:=⟨_,rfl⟩
    rw [hPL] at hpl
    have hPb:PL<268435456:=by have:=hnum.2; rw [hW,hpl] at this; omega
    have hs2:=fun (q:Bool) (tt:Nat) (o1 o2:Go.Operand) (g:Heap) (K:VP)=>Hp_shlW (P:=Tryz.prog) (q:=q) (t:=tt) (x:=o1) (y:=o2) (k' := .i64) (K:=K) (h:=g) (a:=n) hW omg hnum.1 (by rw [hpl]; omega)
    have hfill:fillP p6 c.bits n=match p6.f with|none=>zeros W|some f=>Vc.over (zeros W) 0 ((f.now.drop PL).take W):=by
     unfold fillP
     rw [hW,hN,Int.toNat_natCast,hPL]
     all_goals (cases p6.f<;>rfl)
    have a8:=a7.ext e8
    have qP8:=(e8.block _ (get_some_lt qP)).trans qP
    have qB8:=qB.ext e8
    have c02:=ce0 a8.co.cells
    have c12:=ce1 a8.co.cells
    have c22:=ce2 a8.co.cells
    rw [bits6] at c22
    have p1:=cellOf (i:=1) qP8 rfl
    simp (disch:=omega)
    refine JoinN_in0 (fun g=>Mod (· = h6.size) h7 g∧OwnG bT 1 g (.slice (some ⟨h6.size,0,none⟩) W W) ((fillP p6 c.bits n).map byteV)) (fun kk2 hkk2 => ?_) (fun g hg9 => ?_)
    ·by_cases hlt:(PL:Int)<sz
     ·obtain ⟨f6,hf6⟩:∃f6,p6.f=some f6:=by
       cases hf:p6.f with
       | none=>unfold SzOk at hsz; rw [hf] at hsz; have hsz:sz=0:=hsz; omega
       | some f=>exact ⟨f,rfl⟩
      have hsz2:sz=(f6.last.length:Nat):=by unfold SzOk at hsz; rw [hf6] at hsz; exact hsz
      rw [hf6] at hfill
      dsimp only at hfill
      simp (disch:=omega) [c22,hs2,hpl,hlt,c02,c12,p1]
      rw [show (.pointer (some ⟨c6.sp,0,none⟩):Value)=ptrV c6.sp from rfl]
      refine Read_c a8.st dM omg omg omg omg (fun h9 e9 hne => ?_) (fun h9 x9 v e9 hx9 hg9 _ _ _ ov fv fv' => ?_)
      ·exfalso
       apply hne
       obtain ⟨y,hy1,hy2,hy3,hy4⟩:=ps6.some_ hf6
       have hyl:y.last.length=f6.last.length:=by rw [←hy2]; rfl
       unfold rdErr
       rw [if_pos okN_f,hy4]
       dsimp only
       rw [if_neg omg]
      ·have hx9f:=(ps_size ps6 hf6 hx9).1
       have qP9:=(e9.block _ (get_some_lt qP8)).trans qP8
       have p19:=cellOf (i:=1) qP9 rfl
       have qB9:=qB8.ext e9
       obtain ⟨va,vn,vc,rfl,hvn,-,-⟩:=ov.form
       simp (disch:=omega) [p19]
       have hcp:=fun (K:VP)=>Hp_copyG (P:=Tryz.prog) (t:=33) (t2:=33) (e:=bT) (lo:=0) (m:=W) (c':=W) (K:=K) (h:=h9) (a:=⟨h6.size,0,none⟩) (n:=W) (c:=W) (x := .slice va vn vc) kR qB9 omg ov.bytes
       simp only [sub_zero] at hcp
       refine hcp _ fun h10 o10 m10 => ?_
       refine hkk2 h10 ⟨((Mod.of_ext (e8.trans e9)).trans m10 (fun b _ e => ?_)),?_⟩
       ·obtain ⟨W1,hW1⟩:∃W1,W=W1+1:=⟨W-1,by omega⟩
        rw [hW1] at e
        exact (Option.some.inj e).symm
       ·rw [hfill]
        have htk:((f6.now.drop PL).take W).take W=(f6.now.drop PL).take W:=by rw [List.take_take,Nat.min_self]
        rw [hx9f,Int.toNat_natCast,Int.toNat_natCast,htk] at o10
        exact o10
     ·have hz:fillP p6 c.bits n=zeros W:=by
       rw [hfill]
       cases hf:p6.f with
       | none=>rfl
       | some f6 =>
        dsimp only
        have hsz2:sz=(f6.last.length:Nat):=by unfold SzOk at hsz; rw [hf] at hsz; exact hsz
        obtain ⟨y,hy1,hy2,hy3,hy4⟩:=ps6.some_ hf
        have hok:=(a8.st.fl y (by rw [hy1]; simp)).ok
        rw [hy2] at hok
        have:f6.now.drop PL=[]:=List.drop_eq_nil_of_le (by rw [hok.now_len]; omega)
        rw [this]
        unfold Vc.over; simp
      simp (disch:=omega) [c22,hs2,hpl,hlt]
      exact hkk2 h8 ⟨.of_ext e8,by rw [hz]; exact qB8⟩
    ·obtain ⟨mg,og⟩:=hg9
     have hgz:=mg.size
     have a9:CAt g o c6 s6:=a7.mod mg (fun b hb e=>by have:=a6.lt hb; omega) (fun y hy q hq b hb e=>by have:=(a6.st.fl y hy).plt hq hb; omega)
     have d4:=ce4 a9.co.cells
     have qP9:=(mg.block _ (get_some_lt qP) omg).trans qP
     simp (disch:=omega) [d4]
     refine Hp_mapUpdate keptKey a9.co.kept fun h11 mp11 m11 => ?_
     have hkml:c6.km<h6.size:=a6.co.kept.lt
     obtain ⟨o1,o2,o3⟩:=a9.co.oM a9.co.kept
     have q11:=(m11.block _ (get_some_lt a9.co.cells) o1).trans a9.co.cells
     have d9:=ce9 q11
     have f9:=ceF q11 9
     have hld:=inv6.load
     have hcl6:=same6.clock
     have hclk':=hclk
     simp (disch:=omega) [d9,f9]
     have hcast:((c6.loads:Int)+1)=((c6.loads+1:Nat):Int):=by omega
     rw [hcast]
     refine (⟨_,rfl⟩:∃hh,hh=hset h11 ⟨o,9,none⟩ (.int .i64 ((c6.loads+1:Nat):Int))).elim fun h12 eh12 => ?_
     rw [←eh12]
     have m12:Mod (· = o) h11 h12:=by rw [eh12]; exact Mod.set h11 ⟨o,9,none⟩ _
     have q12:h12[o]? = some (.cells (c6.added (newPg p6 c.bits n (h6.size+1) h6.size)).cells cT):=by rw [eh12]; exact obj_set q11
     clear eh12
     have hDl:(fillP p6 c.bits n).length=W:=by
      have:=og.form
      obtain ⟨_,_,_,hv,hl,-,-⟩:=this
      cases hv
      simpa using hl
     have m67:Mod (fun b=>b=o∨b=c6.km) h6 h12:=by
      refine ((((Mod.of_ext e7).trans mg (fun b hb e=>by omega)).trans m11 (fun b _ e => .inr e))).trans m12 (fun b _ e => .inl e)
     have hz11:=m11.size
     have qB12:OwnG bT 1 h12 (.slice (some ⟨h6.size,0,none⟩) W W) ((fillP p6 c.bits n).map byteV):=by
      have hbl:∀b,blkG (.slice (some ⟨h6.size,0,none⟩) W W)=some b→b=h6.size:=fun b hb=>by
       obtain ⟨W1,hW1⟩:∃W1,W=W1+1:=⟨W-1,by omega⟩
       rw [hW1] at hb
       exact (Option.some.inj hb).symm
      refine (og.mod m11 (fun b hb e => ?_)).mod m12 (fun b hb e => ?_)
      ·have:=hbl b hb; omega
      ·have:=hbl b hb; omega
     have qP12:h12[h6.size+1]? = some (.cells (newPg p6 c.bits n (h6.size+1) h6.size).cells pgT):=by
      have h1:=(m12.block _ omg omg).trans ((m11.block _ (get_some_lt qP9) omg).trans qP9)
      rw [h1]
      show _=some (Obj.cells #[_,.slice _ (fillP p6 c.bits n).length (fillP p6 c.bits n).length,_,_] pgT)
      rw [hDl]; rfl
     have ua:=add_u (g:=newPg p6 c.bits n (h6.size+1) h6.size) (h':=h12) a6 get6 (by rw [bits6,hW]; exact hDl) (by rw [bits6]; exact hnum) (Nat.le_succ _) (Nat.le_refl _) qP12 (by show OwnG bT 1 h12 (.slice _ (fillP p6 c.bits n).length (fillP p6 c.bits n).length) _; rw [hDl]; exact qB12) ?mp q12 m67 (by rw [same6.room]; exact hrm) omg
     case mp =>
      refine mp11.mod m12 (fun e=>o1 e.symm)
     exact hkk _ _ ⟨_,s6,p6,newPg p6 c.bits n (h6.size+1) h6.size,h6.size+1,h6.size,(u6.trans ua).from_ e1,ps6,find_new get6,rfl,hcl6,hu _ _⟩
   ·have hu:=(hu 0 0).trans (if_neg h0)
    rw [hu] at He
    simp (disch:=omega) [h0]
    exact He h6 s6 rfl h0 (u6.from_ e1) ps6
 ·obtain ⟨c2,s2,p2,g2,pb,bb,u2,ps2,hg2,rfl,hck,hu⟩:=hv
  rw [show c.clock=c2.clock from hck.symm] at hclk
  have d7:=ce7 u2.at_.co.cells
  have f7:=ceF u2.at_.co.cells 7
  have pg2:=u2.at_.co.pg g2 (get_mem hg2).1
  have q3:=pc3 pg2
  have qf:=pcF pg2 3
  have hne:¬o=g2.pb:=get_ne u2.at_.co.cells pg2 cT_ne.1
  have hne':¬g2.pb=o:=fun e=>hne e.symm
  unfold ptrV
  simp (disch:=omega) [d7,f7,q3,qf,hne,hne']
  have ut:=touch_u (k:=(c2.clock:Int)+1) u2.at_ hg2 hclk omg
  have hgt:=touch_get (c:=c2) (n:=n) (m:=n)
  rw [hg2] at hgt
  have hW:=Hw _ s2 pb bb (g2.touch n (c2.clock+1)) rfl (by rw [hu]) (by rw [hu]; exact u2.trans ut) (by rw [hu]; exact ps2) (by rw [hu]; exact hgt)
  rw [(touch_same n _ g2).2.1] at hW
  exact hW
end Go.Proofs.YtcbbdnaelimpfaaGreat
set_option linter.unusedSimpArgs false
set_option linter.unusedVariables false
namespace Go.Proofs.YtcbbdnaelimpfaaGreat
open Go.Vc Go.Sort
variable {K:VP} {h:Heap}

theorem uclone_c {v:Value} {n:Nat} {vs:List Value} (hs:Src 1 h v n vs) (hv:∃a c,v = .slice a n c) (hone:∀u∈vs,one u=true) (hn:n≤1000000000000) (H:∀v' h',Ext h h'→OwnG bT 1 h' v' vs→(∀b,blkG v'=some b→h.size≤b)→(∀b,blkV v'=some b→h.size≤b)→K v' h'):CallsH Tryz.prog 40 #[v] h K ⟨⟩:=by
 refine n40_calls ?_
 unfold n40; try delta vF vG vC vD vJ vV vk vt
 obtain ⟨a,c,rfl⟩:=hv
 cases a with
 | none =>
  rcases hs with ⟨e,rfl,rfl⟩|⟨a,c',e,-⟩|⟨l,e,-⟩
  ·rw [e]
   simp (disch:=omega)
   exact H _ _ (.refl _) .nil (fun b hb=>by cases hb) (fun b hb=>by cases hb)
  ·cases e
  ·cases e
 | some a =>
  simp (disch:=omega)
  have e0:Ext h (h.push (.cells #[] bT)):=extS
  have o0:OwnG bT 1 (h.push (.cells #[] bT)) (.slice (some ⟨h.size,0,none⟩) 0 0) [] := .nil
  refine Hp_appendG (e:=bT) (s:=1) (by_:=1) (n:=0) (k:=n) (news:=vs) kR kR o0 rfl omg (hs.ext e0) hone omg omg fun v' h' o' m' f' g' => ?_
  refine H v' h' (m'.ext_from e0 (fun b hb e=>by cases e)) (by simpa using o') (fun b hb=>(f' b hb).elim (fun e=>by cases e) (fun e=>by simp at e; omega)) (fun b hb=>(g' b hb).elim (fun e=>by cases e; exact Nat.le_refl _) (fun e=>by simp at e; omega))
theorem subS_one {a:Addr} {lo c:Nat}:subS 1 a lo c=sub a lo c:=by unfold subS sub; rw [Nat.mul_one]
theorem useE_ok {bits:Nat} {n at_ k:Int} (h:useE bits n at_ k=0):0≤at_∧0≤k∧at_+k≤((2^bits:Nat):Int)∧askE bits n=0:=by
 unfold useE at h
 split at h
 ·cases h
 ·rename_i h1
  split at h
  ·cases h
  ·rename_i h2
   refine ⟨by omega,by omega,by omega,Classical.not_not.1 h1⟩
theorem useP_bits {rk:Int→Nat} {f:Nat} {n:Int} {pb bb:Nat} {x:Cx} (hf:∀n,rk n<f) (hr:Ranks rk x.1) (inv:Inv x.1):(useP f n pb bb x).1.1.bits=x.1.bits∧(useP f n pb bb x).1.1.room=x.1.room∧(useP f n pb bb x).1.1.sp=x.1.sp∧Ranks rk (useP f n pb bb x).1.1:=by
 obtain ⟨-,h2,h3,h4⟩:=freeP_inv (x:=x) hf hr inv
 unfold useP
 cases x.2.f with
 | none=>exact ⟨rfl,rfl,rfl,hr⟩
 | some f0 =>
  dsimp only
  cases x.1.get n with
  | some g=>exact ⟨rfl,rfl,rfl,fun a b e=>hr a b e⟩
  | none =>
   dsimp only
   split
   ·exact ⟨h3,h2.room,h2.sp,fun a b e=>h4 a b e⟩
   ·exact ⟨h3,h2.room,h2.sp,h4⟩
end Go.Proofs.YtcbbdnaelimpfaaGreat
set_option linter.unusedSimpArgs false
set_option linter.unusedVariables false
namespace Go.Proofs.YtcbbdnaelimpfaaGreat
open Go.Vc Go.Sort
variable {K:VP} {h:Heap}

def Pge.put (n:Int) (k:Nat) (b:List UInt8) (x:Pge):Pge:=if x.n=n then { x with D:=Vc.over x.D k b,d:=x.d || decide (0<b.length) } else x
def Ca.wrote (c:Ca) (n:Int) (k:Nat) (b:List UInt8):Ca:={ c with P:=c.P.map (Pge.put n k b) }
def putP (f:Nat) (n:Int) (k:Nat) (b:List UInt8) (pb bb:Nat) (x:Cx):Cx×Int:=if (useP f n pb bb x).2=0 then (((useP f n pb bb x).1.1.wrote n k b,(useP f n pb bb x).1.2),0) else useP f n pb bb x
set_option maxHeartbeats 4000000 in
theorem cWrite_x {rk:Int→Nat} {f:Nat} {o:Nat} {c:Ca} {s:St} {p:Ps} {n at_:Int} {v:Value} {b:List UInt8} (hf:∀n,rk n<f) (hr:Ranks rk c) (inv:Inv c) (a:CAt h o c s) (ps:PsAt s p) (hs:s.steps+2*c.dN+4<1000000) (hclk:c.clock+1<1000000)
 (a0 : -9223372036854775808≤at_) (a1:at_<9223372036854775808) (hB:Bytes h v b) (hbl:b.length<9223372036854775808) (hv:∀d,b≠[]→blkV v=some d→d<h.size→¬Ft o c s d)
 (H2:useE c.bits n at_ b.length≠0→K (.int .i64 2) h)
 (He:∀h' s',useE c.bits n at_ b.length=0→(useP f n 0 0 (c,p)).2≠0→CUpd h h' o c s (useP f n 0 0 (c,p)).1.1 s'→PsAt s' (useP f n 0 0 (c,p)).1.2→K (.int .i64 (useP f n 0 0 (c,p)).2) h')
 (Hw:∀h' s' pb bb,useE c.bits n at_ b.length=0→(useP f n pb bb (c,p)).2=0→CUpd h h' o c s ((useP f n pb bb (c,p)).1.1.wrote n at_.toNat b) s'→PsAt s' (useP f n pb bb (c,p)).1.2→K (.int .i64 0) h') :
 CallsH Tryz.prog 13 #[ptrV o,.int .i64 n,.int .i64 at_,v] h K ⟨⟩:=by
 refine n13_calls ?_
 unfold n13; try delta vF vG vC vD vJ vV vk vt
 obtain ⟨va,vc,rfl⟩:=hB.form
 simp (disch:=omega)
 refine use_c (rk:=rk) hf hr inv a ps hs hclk a0 a1 omg omg (fun h0 => ?_) (fun h1 s1 h0 hne u ps1 => ?_) (fun h1 s1 pb bb g h0 hok u ps1 hg => ?_)
 ·simp (disch:=omega)
  exact H2 h0
 ·simp (disch:=omega) [hne]
  exact He h1 s1 h0 hne u ps1
 ·obtain ⟨r0,r1,r2,-⟩:=useE_ok h0
  have hw16:=(shrP a.co.ok.b1).2
  obtain ⟨A,rfl⟩:=Int.eq_ofNat_of_zero_le r0
  have hgm:=(get_mem hg).1
  have hgn:=(get_mem hg).2
  have hlen:=u.at_.co.ok.len g hgm
  have pg:=u.at_.co.pg g hgm
  have q1:=pc1 pg
  have hbb:(useP f n pb bb (c,p)).1.1.bits=c.bits:=(useP_bits (x:=(c,p)) hf hr inv).1
  rw [hbb] at hlen
  have on:=u.at_.co.by_ g hgm
  unfold Pge.sl at on
  have hsm:A+b.length≤g.D.length:=by omega
  have hsl:g.D.length≤65536:=by omega
  have hB1:Bytes h1 (.slice va b.length vc) b:=hB.modX u.mod hv
  unfold ptrV
  simp (disch:=omega) [q1]
  refine Hp_copyG (e:=bT) (lo:=A) (m:=g.D.length-A) kR on omg hB1 fun h2 o2 m2 => ?_
  have htk:b.take (g.D.length-A)=b:=List.take_of_length_le omg
  rw [htk] at o2
  have hgl:=u.at_.co.ok.pos hgm
  have hbk:blkG (.slice (some ⟨g.bb,0,none⟩) g.D.length g.D.length)=some g.bb:=CoAt.blk_ u.at_.co.ok hgm
  have hne:g.bb≠g.pb:=by
   obtain ⟨arr,ha⟩:=u.at_.co.bby hgm
   exact get_ne ha pg cT_ne.2.2.1.symm
  have m2':Mod (· = g.bb) h1 h2:=m2.mono (fun d _ e=>by rw [hbk] at e; exact (Option.some.inj e).symm)
  have pg2:=(m2'.block _ (get_some_lt pg) (Ne.symm hne)).trans pg
  have q2:=pc2 pg2
  have qf:=pcF pg2 2
  have fin:∀h3,h3=hset h2 ⟨g.pb,2,none⟩ (.bool (g.d || decide (0<b.length)))→K (.int .i64 0) h3:=by
   intro h3 eh3
   have m3:Mod (· = g.pb) h2 h3:=by rw [eh3]; exact Mod.set h2 ⟨g.pb,2,none⟩ _
   have hgt:g.put n A b={ g with D:=Vc.over g.D A b,d:=g.d || decide (0<b.length) }:=by unfold Pge.put; rw [if_pos hgn]
   have hol:(Vc.over g.D A b).length=g.D.length:=Vc.over_len hsm
   have m13:Mod (fun b=>b=g.pb∨b=g.bb) h1 h3:=(m2'.mono (fun d _ e => .inr e)).trans m3 (fun d _ e => .inl e)
   have k3:CoAt h3 o ((useP f n pb bb (c,p)).1.1.wrote n A b):=by
    have hsame:∀y:Pge,(y.put n A b).n=y.n∧(y.put n A b).pb=y.pb∧(y.put n A b).bb=y.bb∧(y.put n A b).u=y.u:=fun y=>by unfold Pge.put; split<;>exact ⟨rfl,rfl,rfl,rfl⟩
    refine u.at_.co.pageU (x:=g) (f:=Pge.put n A b) hgm (fun y _ hy => ?_) (fun y _=>⟨(hsame y).1,(hsame y).2.1,(hsame y).2.2.1⟩) ?_ ?_ m13 (ok_pages u.at_.co.ok fun y hy=>⟨(hsame y).1,(hsame y).2.1,(hsame y).2.2.1,(hsame y).2.2.2,?_⟩)
    ·unfold Pge.put; rw [if_neg (by rw [hgn] at hy; exact hy)]
    ·rw [hgt,eh3]
     have:=obj_set (i:=2) (v := .bool (g.d || decide (0<b.length))) pg2
     rw [this]
     unfold Pge.cells Pge.sl
     dsimp only
     rw [hol]; rfl
    ·rw [hgt]
     unfold Pge.sl
     dsimp only
     rw [hol]
     exact o2.mod m3 (fun d hd e=>by rw [hbk] at hd; cases hd; exact hne e)
    ·unfold Pge.put
     split
     ·rename_i e
      have:y=g:=nodup_in (nums_nodup u.at_.co) hy hgm (e.trans hgn.symm)
      rw [this]; exact hol
     ·rfl
   refine Hw h3 s1 pb bb h0 hok (u.trans (u.at_.core k3 (m13.mono (fun d _ e => ?_)) rfl (fun d hd => .inl ?_) u.at_.bk u.at_.fl)) ps1
   ·rcases e with e|e
    ·exact .inr (.inr (.inr (.inr (.inr (.inl ⟨g,hgm,e⟩)))))
    ·exact .inr (.inr (.inr (.inr (.inr (.inr ⟨g,hgm,e⟩)))))
   ·refine foot_map (c':=(useP f n pb bb (c,p)).1.1.wrote n A b) rfl (fun y _ => ?_) rfl rfl rfl rfl hd
    unfold Pge.put; split<;>exact ⟨rfl,rfl⟩
  cases hgd:g.d with
  | true =>
   rw [hgd] at q2 fin
   simp (disch:=omega) [q2,qf]
   exact fin _ rfl
  | false =>
   rw [hgd] at q2 fin
   rw [Bool.false_or] at fin
   simp (disch:=omega) [q2,qf]
   refine Split.mk (fun e => ?_) (fun e => ?_)
   ·simp (disch:=omega) [q2,qf]
    exact fin _ (by rw [decide_eq_true e])
   ·simp (disch:=omega) [q2,qf]
    exact fin _ (by rw [decide_eq_false e])
end Go.Proofs.YtcbbdnaelimpfaaGreat
set_option linter.unusedSimpArgs false
set_option linter.unusedVariables false
namespace Go.Proofs.YtcbbdnaelimpfaaGreat
open Go.Vc Go.Sort
variable {K:VP} {h:Heap}

def backC (f:Nat) (n:Int) (x:Cx):Cx×Int:=if askE x.1.bits n=0 then (match x.1.get n with|none=>(x,7)|some _=>backP f n x) else (x,2)
theorem ask_two {bits:Nat} {n:Int} (h:askE bits n≠0):askE bits n=2:=by
 unfold askE at h ⊢
 split at h
 ·rename_i e; rw [if_pos e]
 ·exact absurd rfl h
set_option maxHeartbeats 2000000 in
theorem cBack_c {rk:Int→Nat} {f:Nat} {o:Nat} {c:Ca} {s:St} {p:Ps} {n:Int} (hf:∀n,rk n<f) (hr:Ranks rk c) (a:CAt h o c s) (ps:PsAt s p) (hs:s.steps+2*c.dN+4<1000000)
 (H:∀h' s',CUpd h h' o c s (backC f n (c,p)).1.1 s'→PsAt s' (backC f n (c,p)).1.2→K (.int .i64 (backC f n (c,p)).2) h'):CallsH Tryz.prog 15 #[ptrV o,.int .i64 n] h K ⟨⟩:=by
 refine n15_calls ?_
 unfold n15; try delta vF vG vC vD vJ vV vk vt
 refine ask_c a.co.cells a.co.ok.b1 ?_
 unfold backC at H
 dsimp only at H
 by_cases hask:askE c.bits n=0
 ·rw [if_pos hask] at H
  rw [hask]
  have c4:=ce4 a.co.cells
  have lk:look2 n c.keptL=(c.get n).map fun x=>ptrV x.pb:=look_kept c.P
  unfold ptrV
  simp (disch:=omega) [c4]
  rw [Hp_lookup keptKey (z := .pointer none) kR a.co.kept,lk]
  cases hg:c.get n with
  | none =>
   rw [hg] at H
   dsimp only at H
   simp (disch:=omega)
   exact H h s (.refl a) ps
  | some x =>
   rw [hg] at H
   dsimp only at H
   simp (disch:=omega) [ptrV]
   rw [show (.pointer (some ⟨o,0,none⟩):Value)=ptrV o from rfl]
   exact back_c (rk:=rk) f n (hf _) hr a ps hs H
 ·rw [if_neg hask] at H
  rw [ask_two hask]
  simp (disch:=omega)
  exact H h s (.refl a) ps
def dropC (n:Int) (c:Ca):Ca:=({ c.dropP n with W:=c.W.filter fun w => !decide (w.n=n) }:Ca).settle
set_option maxHeartbeats 2000000 in
theorem cDrop_c {o:Nat} {c:Ca} {s:St} {n:Int} (a:CAt h o c s)
 (H:∀h' c' e,(c',e)=(if askE c.bits n=0 then (match c.get n with|none=>(c,(7:Int))|some _=>(dropC n c,0)) else (c,2))→CUpd h h' o c s c' s→K (.int .i64 e) h'):CallsH Tryz.prog 24 #[ptrV o,.int .i64 n] h K ⟨⟩:=by
 refine n24_calls ?_
 unfold n24; try delta vF vG vC vD vJ vV vk vt
 refine ask_c a.co.cells a.co.ok.b1 ?_
 by_cases hask:askE c.bits n=0
 ·rw [if_pos hask] at H
  rw [hask]
  have c4:=ce4 a.co.cells
  have lk:look2 n c.keptL=(c.get n).map fun x=>ptrV x.pb:=look_kept c.P
  unfold ptrV
  simp (disch:=omega) [c4]
  rw [Hp_lookup keptKey (z := .pointer none) kR a.co.kept,lk]
  cases hg:c.get n with
  | none =>
   rw [hg] at H
   dsimp only at H
   simp (disch:=omega)
   exact H h c 7 rfl (.refl a)
  | some x =>
   rw [hg] at H
   dsimp only at H
   simp (disch:=omega) [ptrV,c4]
   refine Hp_delete keptKey a.co.kept fun h1 mp1 m1 => ?_
   have k1:=a.co.dropU mp1 m1
   have d6:=ce6 k1.cells
   simp (disch:=omega) [d6]
   refine Hp_delete waitKey k1.wait fun h2 mp2 m2 => ?_
   have hwn:(c.W.map (·.n)).Nodup:=by
    have:=a.co.wait.nodup
    unfold Ca.waitL at this
    rw [List.map_map] at this
    exact this
   have mp2':MapK ik h2 c.wm ((c.W.filter fun w => !decide (w.n=n)).map fun w=>(w.n,Value.map (some w.b))):=by
    rw [←del_key (k:=fun w:Wt=>w.n) (v:=fun w:Wt=>Value.map (some w.b)) c.W hwn]; exact mp2
   have k2:=k1.waitU mp2' m2
   rw [show (.pointer (some ⟨o,0,none⟩):Value)=ptrV o from rfl]
   refine settle_c k2 fun h3 k3 m3 => ?_
   refine H h3 (dropC n c) 0 rfl (a.core k3 ?_ rfl (fun b hb => .inl ?_) a.bk a.fl)
   ·refine ((m1.mono (fun b _ e => .inr (.inl e))).trans m2 (fun b _ e => .inr (.inr (.inr (.inl e))))).trans m3 (fun b _ e => ?_)
    obtain ⟨w,hw,e⟩:=e
    exact .inr (.inr (.inr (.inr (.inl ⟨w,(List.mem_filter.1 hw).1,e⟩))))
   ·rcases hb with e|e|e|e|⟨w,hw,e⟩|⟨x,hx,e⟩|⟨x,hx,e⟩
    ·exact .inl e
    ·exact .inr (.inl e)
    ·exact .inr (.inr (.inl e))
    ·exact .inr (.inr (.inr (.inl e)))
    ·obtain ⟨w0,hw0,rfl⟩:=List.mem_map.1 hw
     exact .inr (.inr (.inr (.inr (.inl ⟨w0,(List.mem_filter.1 hw0).1,e⟩))))
    ·exact .inr (.inr (.inr (.inr (.inr (.inl ⟨x,(List.mem_filter.1 hx).1,e⟩)))))
    ·exact .inr (.inr (.inr (.inr (.inr (.inr ⟨x,(List.mem_filter.1 hx).1,e⟩)))))
 ·rw [if_neg hask] at H
  rw [ask_two hask]
  simp (disch:=omega)
  exact H h c 2 rfl (.refl a)
def Ca.nums (c:Ca):List Int:=(c.P.map (·.n)).mergeSort (fun a b=>decide (a≤b))
theorem nums_perm (c:Ca):c.nums.Perm (c.P.map (·.n)):=List.mergeSort_perm _ _
theorem nums_sorted (c:Ca):c.nums.Pairwise (· ≤ ·):=by
 have:=List.pairwise_mergeSort (le:=fun a b:Int=>decide (a≤b)) (fun a b c h1 h2=>by simp at *; omega) (fun a b=>by simp; omega) (c.P.map (·.n))
 exact this.imp fun h=>by simpa using h
def flushC (f:Nat) (x:Cx):Cx×Int:=if (runL (backP f) x.1.nums x).2=0 then flushP (runL (backP f) x.1.nums x).1 else runL (backP f) x.1.nums x
theorem ask_zero {bits:Nat} (hb:bits≤16):askE bits 0=0:=by
 obtain ⟨w0,w1⟩:=shrP hb
 unfold askE
 rw [if_neg]
 rintro (h|h)
 ·omega
 ·have:(1:Int)≤(268435456:Int)/((2^bits:Nat):Int):=Int.le_ediv_of_mul_le omg omg
  omega
set_option maxHeartbeats 4000000 in
theorem cFlush_c {rk:Int→Nat} {f:Nat} {o:Nat} {c:Ca} {s:St} {p:Ps} (hf:∀n,rk n<f) (hr:Ranks rk c) (a:CAt h o c s) (ps:PsAt s p) (hs:s.steps+2*c.dN+4<1000000)
 (H:∀h' s',CUpd h h' o c s (flushC f (c,p)).1.1 s'→PsAt s' (flushC f (c,p)).1.2→K (.int .i64 (flushC f (c,p)).2) h'):CallsH Tryz.prog 16 #[ptrV o] h K ⟨⟩:=by
 refine n16_calls ?_
 unfold n16; try delta vF vG vC vD vJ vV vk vt
 refine ask_c a.co.cells a.co.ok.b1 ?_
 rw [ask_zero a.co.ok.b1]
 have c4:=ce4 a.co.cells
 unfold ptrV
 simp (disch:=omega) [c4]
 refine keysKeyP_c (m:=c.km) fun h1 e1 q1 => ?_
 have a1:=a.ext e1
 have hfw:=a.co.ok.few
 have hr1:=a.co.ok.r1
 refine sortedKeyP_c q1 a1.co.kept (by unfold Ca.keptL; rw [List.length_map]; omega) fun h2 v L e2 pm so ov fv => ?_
 have hLe:L=c.nums:=sorted_int (pm.trans (by unfold Ca.keptL; rw [List.map_map]; exact (nums_perm c).symm)) so (nums_sorted c)
 subst hLe
 have hz1:=e1.size
 have hll:c.nums.length<100000:=by rw [(nums_perm c).length_eq,List.length_map]; omega
 obtain ⟨va,vn,vc,rfl,hvn,hvc,hva⟩:=ov.form dM
 have hvn':vn=c.nums.length:=by simpa using hvn.symm
 subst hvn'
 have E2:=e1.trans e2
 have nf:∀b,blkV (.slice va c.nums.length vc)=some b→b<h2.size∧¬Ft o c s b:=fun b hb=>⟨ov.lt hb,fun e=>by have:=a.lt e; have:=fv b hb; omega⟩
 simp (disch:=omega)
 unfold flushC at H
 dsimp only at H
 generalize c.nums=l at *
 refine loopX1 (α:=Nat×Ca×Ps×St) (fun z => .int .i64 z.1) (fun z g=>z.1≤l.length∧CUpd h2 g o c s z.2.1 z.2.2.2∧PsAt z.2.2.2 z.2.2.1∧runL (backP f) l (c,p)=runL (backP f) (l.drop z.1) (z.2.1,z.2.2.1)∧Ranks rk z.2.1∧z.2.2.2.steps+2*z.2.1.dN+4<1000000) (fun z=>l.length-z.1) (0,c,p,s) rfl ⟨Nat.zero_le _,.refl (a.ext E2),ps,rfl,hr,hs⟩ ?_
 rintro ⟨i,c1,p1,s1⟩ g ⟨hi,u1,ps1,hrun,hr1',hs1⟩ X hX
 dsimp only at hi u1 ps1 hrun hr1' hs1 ⊢
 by_cases hil:i<l.length
 ·obtain ⟨b,rfl⟩:=hva (by intro e; have:=congrArg List.length e; rw [List.length_map] at this; simp only [List.length_nil] at this; omega)
  have og:OwnT i6T 1 g (.slice (some ⟨b,0,none⟩) l.length vc) (l.map ik):=ov.mod u1.mod (fun b hb=>(nf b hb).2)
  have ce:=(og.elt (i:=i) (by simpa using hil)).1
  rw [List.getElem_map] at ce
  simp (disch:=omega) [ce]
  rw [show (.pointer (some ⟨o,0,none⟩):Value)=ptrV o from rfl]
  obtain ⟨sp1,-⟩:=back_spec (rk:=rk) f l[i] (c1,p1) (hf _) hr1'
  refine back_c (rk:=rk) f l[i] (hf _) hr1' u1.at_ ps1 hs1 fun h3 s2 u2 ps2 => ?_
  rw [run_drop hil] at hrun
  generalize backP f l[i] (c1,p1)=R at *
  obtain ⟨⟨c2,p2⟩,e⟩:=R
  dsimp only at *
  by_cases h0:e=0
  ·rw [if_pos h0] at hrun
   simp (disch:=omega) [h0]
   refine hX (i+1,c2,p2,s2) _ h3 sM ⟨by omega,u1.trans u2,ps2,hrun,hr1'.less sp1.mics.less,?_⟩ (by dsimp only; omega)
   have:=sp1.st0 h0
   have q1:=ps1.2.1
   have q2:=ps2.2.1
   dsimp only at *
   omega
  ·rw [if_neg h0] at hrun
   rw [hrun] at H
   rw [if_neg h0] at H
   simp (disch:=omega) [h0]
   exact H h3 s2 ((u1.trans u2).from_ E2) ps2
 ·obtain rfl:i=l.length:=by omega
  rw [List.drop_length] at hrun
  have hrun:runL (backP f) l (c,p)=((c1,p1),0):=hrun
  rw [hrun] at H
  rw [if_pos rfl] at H
  simp (disch:=omega)
  rw [show (.pointer (some ⟨o,0,none⟩):Value)=ptrV o from rfl]
  refine flush_c u1.at_ ps1 omg fun h3 s3 u3 ps3 => ?_
  exact H h3 s3 ((u1.trans u3).from_ E2) ps3
end Go.Proofs.YtcbbdnaelimpfaaGreat
set_option linter.unusedSimpArgs false
set_option linter.unusedVariables false
namespace Go.Proofs.YtcbbdnaelimpfaaGreat
open Go.Vc Go.Sort
variable {K:VP} {h:Heap}

set_option maxHeartbeats 2000000 in
theorem State_c {o:Nat} {c:Ca} {n:Int} (a:CoAt h o c)
 (H2:∀h',askE c.bits n≠0→Ext h h'→K (.tuple #[.agg #[.bool false,.bool false,.slice none 0 0],.int .i64 2]) h')
 (H:∀h' v,askE c.bits n=0→Ext h h'→OwnT i6T 1 h' v ((c.beh n).map ik)→(∀b,blkV v=some b→h.size≤b)→K (.tuple #[.agg #[.bool (c.dirty n),.bool (decide (n∈c.pend)),v],.int .i64 0]) h') :
 CallsH Tryz.prog 53 #[ptrV o,.int .i64 n] h K ⟨⟩:=by
 refine n53_calls ?_
 unfold n53; try delta vF vG vC vD vJ vV vk vt
 simp (disch:=omega)
 refine (⟨_,rfl⟩:∃g,g=h.push (.cells #[.bool false,.bool false,.slice none 0 0] 121)).elim fun h1 eh1 => ?_
 have e1:Ext h h1:=by rw [eh1]; exact extS
 have z1:h1.size=h.size+1:=by rw [eh1]; simp
 have q1:h1[h.size]? = some (.cells #[.bool false,.bool false,.slice none 0 0] 121):=by rw [eh1]; exact get_pushed rfl
 rw [←eh1]
 clear eh1
 have a1:=a.ext e1
 refine ask_c a1.cells a.ok.b1 ?_
 by_cases hask:askE c.bits n=0
 ·rw [hask]
  have c4:=ce4 a1.cells
  have c5:=ce5 a1.cells
  have lk:look2 n c.keptL=(c.get n).map fun x=>ptrV x.pb:=look_kept c.P
  have lp:(look2 n c.pendL).getD (.bool false) = .bool (decide (n∈c.pend)):=look_true c.pend
  unfold ptrV
  have st:∀(h2:Heap) (d:Bool) (v:Value),Ext h1 h2→(∀b,blkV v=some b→h.size≤b)→OwnT i6T 1 h2 v ((c.beh n).map ik)→d=c.dirty n →
   ∀h3,h3=hset (hset (hset h2 ⟨h.size,0,none⟩ (.bool d)) ⟨h.size,1,none⟩ (.bool (decide (n∈c.pend)))) ⟨h.size,2,none⟩ v→K (.tuple #[.agg #[.bool d,.bool (decide (n∈c.pend)),v],.int .i64 0]) h3:=by
   intro h2 d v e2 fv ov hd h3 eh3
   have m3:Mod (· = h.size) h2 h3:=by rw [eh3]; exact modS
   have q2:=(e2.block _ (get_some_lt q1)).trans q1
   have:=H h3 v hask (m3.ext_from (e1.trans e2) (fun b hb e=>by omega)) (ov.mod m3 (fun b hb e=>ov.ne hb q2 dM e)) fv
   rw [hd]; exact this
  cases hg:c.get n with
  | none =>
   rw [hg] at lk
   have hd:false=c.dirty n:=by unfold Ca.dirty; rw [hg]
   simp (disch:=omega) [c4,c5,Hp_lookup keptKey (z := .pointer none) kR a1.kept,lk,Hp_lookup setKey (z := .bool false) kR a1.pend,lp]
   rw [show (.pointer (some ⟨o,0,none⟩):Value)=ptrV o from rfl]
   refine behind_c a1 fun h2 v e2 ov fv => ?_
   have a2:=a1.ext e2
   have d5:=ce5 a2.cells
   have q2:=(e2.block _ (get_some_lt q1)).trans q1
   have k0:=cellOf (i:=0) q2 rfl
   have k1:=cellOf (i:=1) q2 rfl
   have k2:=cellOf (i:=2) q2 rfl
   have kf0:=frzOf (i:=0) q2
   have kf1:=frzOf (i:=1) q2
   have kf2:=frzOf (i:=2) q2
   obtain ⟨va,vn,vc,rfl,-,-,-⟩:=ov.form dM
   simp (disch:=omega) [d5,Hp_lookup setKey (z := .bool false) kR a2.pend,lp,k0,k1,k2,kf0,kf1,kf2]
   exact st h2 false _ e2 (fun b hb=>by have:=fv b hb; omega) ov hd _ rfl
  | some x =>
   rw [hg] at lk
   have hd:x.d=c.dirty n:=by unfold Ca.dirty; rw [hg]
   have px:=a1.pg x (get_mem hg).1
   have p2:=pc2 px
   simp (disch:=omega) [c4,c5,Hp_lookup keptKey (z := .pointer none) kR a1.kept,lk,Hp_lookup setKey (z := .bool false) kR a1.pend,lp,ptrV,p2]
   rw [show (.pointer (some ⟨o,0,none⟩):Value)=ptrV o from rfl]
   refine behind_c a1 fun h2 v e2 ov fv => ?_
   have a2:=a1.ext e2
   have d5:=ce5 a2.cells
   have r2:=pc2 (a2.pg x (get_mem hg).1)
   have q2:=(e2.block _ (get_some_lt q1)).trans q1
   have k0:=cellOf (i:=0) q2 rfl
   have k1:=cellOf (i:=1) q2 rfl
   have k2:=cellOf (i:=2) q2 rfl
   have kf0:=frzOf (i:=0) q2
   have kf1:=frzOf (i:=1) q2
   have kf2:=frzOf (i:=2) q2
   obtain ⟨va,vn,vc,rfl,-,-,-⟩:=ov.form dM
   simp (disch:=omega) [d5,Hp_lookup setKey (z := .bool false) kR a2.pend,lp,k0,k1,k2,kf0,kf1,kf2,r2]
   exact st h2 x.d _ e2 (fun b hb=>by have:=fv b hb; omega) ov hd _ rfl
 ·rw [ask_two hask]
  have k0:=cellOf (i:=0) q1 rfl
  have k1:=cellOf (i:=1) q1 rfl
  have k2:=cellOf (i:=2) q1 rfl
  have kf0:=frzOf (i:=0) q1
  have kf1:=frzOf (i:=1) q1
  have kf2:=frzOf (i:=2) q1
  simp (disch:=omega) [k0,k1,k2,kf0,kf1,kf2]
  refine H2 _ hask (Mod.ext_from (S:=(· = h.size)) e1 (modS) (fun b hb e => ?_))
  have e':b=h.size:=e
  omega
end Go.Proofs.YtcbbdnaelimpfaaGreat
set_option linter.unusedSimpArgs false
set_option linter.unusedVariables false
namespace Go.Proofs.YtcbbdnaelimpfaaGreat
open Go.Vc Go.Sort
variable {K:VP} {h:Heap}

inductive Reach (c:Ca) (t:Int):Int→Prop
 | one {x:Int}:t∈c.beh x→Reach c t x
 | more {x y:Int}:y∈c.beh x→Reach c t y→Reach c t x
theorem Reach.iff {c:Ca} {t x:Int}:Reach c t x↔∃y∈c.beh x,y=t∨Reach c t y:=by
 constructor
 ·intro h
  cases h with
  | one h=>exact ⟨t,h,.inl rfl⟩
  | more h1 h2=>exact ⟨_,h1,.inr h2⟩
 ·rintro ⟨y,h1,rfl|h2⟩
  ·exact .one h1
  ·exact .more h1 h2
structure Bxs (h:Heap) (o:Nat) (t:Int) (c3 b5 s7 d8 m:Nat) (seen:List Int):Prop where
 k3:h[c3]? = some (.cells #[ptrV o] 28)
 k5:h[b5]? = some (.cells #[ik t] 2)
 k7:h[s7]? = some (.cells #[.map (some m)] 90)
 k8:∃ty,h[d8]? = some (.cells #[.func (.func 81) #[] #[ptrV c3,ptrV b5,ptrV s7,ptrV d8]] ty)
 sn:MapK ik h m (seen.map fun n=>(n,.bool true))
theorem Bxs.ext {h':Heap} {o c3 b5 s7 d8 m:Nat} {t:Int} {seen:List Int} (a:Bxs h o t c3 b5 s7 d8 m seen) (e:Ext h h'):Bxs h' o t c3 b5 s7 d8 m seen :=
 ⟨(e.block _ (get_some_lt a.k3)).trans a.k3,(e.block _ (get_some_lt a.k5)).trans a.k5,(e.block _ (get_some_lt a.k7)).trans a.k7,(a.k8.elim fun ty h8=>⟨ty,(e.block _ (get_some_lt h8)).trans h8⟩),a.sn.ext e⟩
theorem Bxs.put {h':Heap} {o c3 b5 s7 d8 m:Nat} {t:Int} {seen s':List Int} (a:Bxs h o t c3 b5 s7 d8 m seen) (hm:MapK ik h' m (s'.map fun n=>(n,.bool true))) (md:Mod (· = m) h h'):Bxs h' o t c3 b5 s7 d8 m s' :=
 ⟨(md.block _ (get_some_lt a.k3) (neC a.sn a.k3)).trans a.k3,(md.block _ (get_some_lt a.k5) (neC a.sn a.k5)).trans a.k5,(md.block _ (get_some_lt a.k7) (neC a.sn a.k7)).trans a.k7,(a.k8.elim fun ty h8=>⟨ty,(md.block _ (get_some_lt h8) (neC a.sn h8)).trans h8⟩),hm⟩
set_option maxHeartbeats 4000000 in
theorem down_c {rk:Int→Nat} {o c3 b5 s7 d8 m:Nat} {c:Ca} {t:Int} (hr:Ranks rk c):∀(f:Nat) (n:Int) {K:VP} {h:Heap} {seen:List Int},rk n<f→CoAt h o c→¬c.foot o m→Bxs h o t c3 b5 s7 d8 m seen→(∀x∈seen,rk x<rk n→¬Reach c t x) →
 (∀h' (r:Bool) seen',Mod (· = m) h h'→Bxs h' o t c3 b5 s7 d8 m seen'→(r=true↔Reach c t n)→(r=false→∀x∈seen',x∈seen∨¬Reach c t x)→K (.bool r) h')→CallsH Tryz.prog 81 #[ik n,ptrV c3,ptrV b5,ptrV s7,ptrV d8] h K ⟨⟩
 | 0,n,K,h,seen,hf,_,_,_,_,_=>absurd hf omg
 | f+1,n,K,h,seen,hf,a,hmf,bx,hsn,H=>by
  refine n81_calls ?_
  unfold n81; try delta vF vG vC vD vJ vV vk vt
  have k3:=cellOf (i:=0) bx.k3 rfl
  unfold ptrV at k3 ⊢
  simp (disch:=omega) [k3]
  rw [show (.pointer (some ⟨o,0,none⟩):Value)=ptrV o from rfl]
  refine behind_c a fun h1 v e1 ov fv => ?_
  have hl:∀q∈c.beh n,rk q<rk n:=fun q hq=>hr n q (beh_mem.1 hq).1
  have hll:(c.beh n).length<100000:=by
   have h2:(c.beh n).length≤(c.ws n).length:=by rw [(beh_perm c n).length_eq]; exact List.length_filter_le _ _
   have h3:(c.ws n).length<100000:=by
    unfold Ca.ws
    cases hw:c.W.find? (fun w=>decide (w.n=n)) with
    | none=>simp
    | some w=>have:=a.ok.qfew w (List.mem_of_find?_eq_some hw); dsimp only; omega
   omega
  obtain ⟨va,vn,vc,rfl,hvn,hvc,hva⟩:=ov.form dM
  have hvn':vn=(c.beh n).length:=by simpa using hvn.symm
  subst hvn'
  have hml:m<h.size:=bx.sn.lt
  have nf:∀b,blkV (.slice va (c.beh n).length vc)=some b→b≠m:=fun b hb=>by have:=fv b hb; omega
  simp (disch:=omega)
  refine loopX1 (α:=Nat×List Int) (fun z => .int .i64 z.1) (fun z g=>z.1≤(c.beh n).length∧Mod (· = m) h1 g∧Bxs g o t c3 b5 s7 d8 m z.2∧(∀x∈z.2,x∈seen∨¬Reach c t x)∧(∀i (hi:i<(c.beh n).length),i<z.1→(c.beh n)[i]≠t∧¬Reach c t (c.beh n)[i])) (fun z=>(c.beh n).length-z.1) (0,seen) rfl ⟨Nat.zero_le _,.refl _ _,bx.ext e1,fun x hx => .inl hx,fun i hi h0=>absurd h0 omg⟩ ?_
  rintro ⟨i,sn⟩ g ⟨hi,mg,bg,hsg,hdone⟩ X hX
  dsimp only at hi mg bg hsg hdone ⊢
  have mh:Mod (· = m) h g:=(Mod.of_ext e1).trans mg (fun b _ e=>e)
  by_cases hil:i<(c.beh n).length
  ·obtain ⟨b,rfl⟩:=hva (by intro e; have:=congrArg List.length e; rw [List.length_map] at this; simp only [List.length_nil] at this; omega)
   have og:OwnT i6T 1 g (.slice (some ⟨b,0,none⟩) (c.beh n).length vc) ((c.beh n).map ik):=ov.mod mg (fun b hb=>nf b hb)
   have ce:=(og.elt (i:=i) (by simpa using hil)).1
   rw [List.getElem_map] at ce
   obtain ⟨q,hq⟩:∃q,q=(c.beh n)[i]:=⟨_,rfl⟩
   have hqm:q∈c.beh n:=by rw [hq]; exact List.getElem_mem hil
   rw [←hq] at ce
   have g5:=cellOf (i:=0) bg.k5 rfl
   have g7:=cellOf (i:=0) bg.k7 rfl
   have ag:CoAt g o c:=a.mod mh (fun b hb e=>hmf (by rw [←e]; exact hb))
   have lp:(look2 q (sn.map fun n=>(n,Value.bool true))).getD (.bool false) = .bool (decide (q∈sn)):=look_true sn
   simp (disch:=omega)
   refine JoinN.mk (JoinN.mk ?_)
   by_cases hqt:q=t
   ·simp (disch:=omega) [ce,g5,hqt]
    refine H g true sn mh bg ⟨fun _ => .one (by rw [←hqt]; exact hqm),fun _=>rfl⟩ (fun e=>by cases e)
   ·have next:∀(g':Heap) (sn':List Int),Mod (· = m) h1 g'→Bxs g' o t c3 b5 s7 d8 m sn'→(∀x∈sn',x∈seen∨¬Reach c t x)→¬Reach c t q→X (.int .i64 ((i:Int)+1)) g':=fun g' sn' m' b' hs' hr' =>
     hX (i+1,sn') _ g' sM ⟨by omega,m',b',hs',fun j hj hji=>by
      by_cases e:j=i
      ·subst e; rw [←hq]; exact ⟨hqt,hr'⟩
      ·exact hdone j hj omg⟩ (by dsimp only; omega)
    simp (disch:=omega) [ce,g5,hqt,g7,Hp_lookup setKey (z := .bool false) kR bg.sn,lp]
    by_cases hqs:q∈sn
    ·have hnr:¬Reach c t q:=(hsg q hqs).elim (fun e=>hsn q e (hl q hqm)) id
     simp (disch:=omega) [hqs]
     exact next g sn mg bg hsg hnr
    ·simp (disch:=omega) [hqs,g7]
     refine Hp_mapUpdate setKey bg.sn fun g2 mp2 m2 => ?_
     have mp2':MapK ik g2 m ((sn++[q]).map fun n=>(n,Value.bool true)):=by
      have:=upd_true (n:=q) sn
      rw [if_neg hqs] at this
      rw [←this]; exact mp2
     have b2:=bg.put mp2' m2
     obtain ⟨ty8,hk8⟩:=b2.k8
     have g28:=cellOf (i:=0) hk8 rfl
     unfold ptrV at g28
     have mh2:Mod (· = m) h g2:=mh.trans m2 (fun b _ e=>e)
     have a2:CoAt g2 o c:=a.mod mh2 (fun b hb e=>hmf (by rw [←e]; exact hb))
     simp (disch:=omega) [g28]
     refine InvokeH_func kR ?_
     show CallsH Tryz.prog 81 #[ik q,ptrV c3,ptrV b5,ptrV s7,ptrV d8] g2 _ ⟨⟩
     have hqn:=hl q hqm
     refine down_c hr f q omg a2 hmf b2 (fun x hx hxq => ?_) fun g3 r sn' m3 b3 hr3 hs3 => ?_
     ·rcases List.mem_append.1 hx with h1|h1
      ·exact (hsg x h1).elim (fun e=>hsn x e omg) id
      ·have:x=q:=by simpa using h1
       subst this; omega
     ·have mg3:Mod (· = m) h1 g3:=(mg.trans m2 (fun b _ e=>e)).trans m3 (fun b _ e=>e)
      cases r with
      | true =>
       simp (disch:=omega)
       exact H g3 true sn' (mh2.trans m3 (fun b _ e=>e)) b3 ⟨fun _ => .more hqm (hr3.1 rfl),fun _=>rfl⟩ (fun e=>by cases e)
      | false =>
       simp (disch:=omega)
       have hnr:¬Reach c t q:=fun e=>by have:=hr3.2 e; cases this
       refine next g3 sn' mg3 b3 (fun x hx => ?_) hnr
       rcases hs3 rfl x hx with h1|h1
       ·rcases List.mem_append.1 h1 with h2|h2
        ·exact hsg x h2
        ·have:x=q:=by simpa using h2
         subst this; exact .inr hnr
       ·exact .inr h1
  ·obtain rfl:i=(c.beh n).length:=by omega
   simp (disch:=omega)
   refine H g false sn mh bg ⟨fun e=>(by cases e),fun e => ?_⟩ (fun _=>hsg)
   obtain ⟨y,hy,hyt⟩:=Reach.iff.1 e
   obtain ⟨j,hj,rfl⟩:=List.getElem_of_mem hy
   obtain ⟨d1,d2⟩:=hdone j hj hj
   exact absurd hyt (fun e=>e.elim d1 d2)
end Go.Proofs.YtcbbdnaelimpfaaGreat
set_option linter.unusedSimpArgs false
set_option linter.unusedVariables false
namespace Go.Proofs.YtcbbdnaelimpfaaGreat
open Go.Vc Go.Sort
variable {K:VP} {h:Heap}

set_option maxHeartbeats 2000000 in
theorem reaches_c {rk:Int→Nat} {o:Nat} {c:Ca} {n t:Int} (hr:Ranks rk c) (a:CoAt h o c) (H:∀h' (r:Bool),Ext h h'→(r=true↔Reach c t n)→K (.bool r) h'):CallsH Tryz.prog 42 #[ptrV o,.int .i64 n,.int .i64 t] h K ⟨⟩:=by
 refine n42_calls ?_
 unfold n42; try delta vF vG vC vD vJ vV vk vt
 have hol:=get_some_lt a.cells
 unfold ptrV
 simp (disch:=omega) [Hp_makeMap]
 refine (⟨_,rfl⟩:∃g,g=(Array.push (hset ((((Array.push h (.cells #[.pointer (some ⟨o,0,none⟩)] 28)).push (.cells #[.int .i64 t] 2)).push (.map #[] 0)).push (.cells #[.map none] 90)) ⟨h.size+1+1+1,0,none⟩ (.map (some (h.size+1+1)))) (.cells #[.nilFunc] 101))).elim fun h6 eh6 => ?_
 have z6:h6.size=h.size+5:=by rw [eh6]; simp
 have e6:Ext h h6:=by rw [eh6]; exact extS
 have r3:h6[h.size]? = some (.cells #[ptrV o] 28):=by
  rw [eh6,get_push (by simp<;>omega),get_hset' omg,get_push (by simp<;>omega),get_push (by simp<;>omega),get_push (by simp<;>omega),get_pushed rfl]; rfl
 have r5:h6[h.size+1]? = some (.cells #[ik t] 2):=by
  rw [eh6,get_push (by simp<;>omega),get_hset' omg,get_push (by simp<;>omega),get_push (by simp<;>omega),get_pushed sM]
 have r7:h6[h.size+1+1+1]? = some (.cells #[.map (some (h.size+1+1))] 90):=by
  rw [eh6,get_push (by simp<;>omega)]
  exact obj_set (get_pushed sM)
 have r8:h6[h.size+1+1+1+1]? = some (.cells #[.nilFunc] 101):=by rw [eh6]; exact get_pushed sM
 have rm:MapK ik h6 (h.size+1+1) (([]:List Int).map fun n=>(n,Value.bool true)):=by
  refine ⟨[],0,?_,rfl,by simp,by simp,by simp⟩
  rw [eh6,get_push (by simp<;>omega),get_hset' omg,get_push (by simp<;>omega),get_pushed sM]
 rw [←eh6]
 clear eh6
 refine (Hp_store kR rfl).2 ?_
 have k8:=cellOf (i:=0) r8 rfl
 have f8:=frzOf (i:=0) r8
 simp (disch:=omega) [k8,f8]
 refine (⟨_,rfl⟩:∃g,g=hset h6 ⟨h.size+1+1+1+1,0,none⟩ (.func (.func 81) #[] #[.pointer (some ⟨h.size,0,none⟩),.pointer (some ⟨h.size+1,0,none⟩),.pointer (some ⟨h.size+1+1+1,0,none⟩),.pointer (some ⟨h.size+1+1+1+1,0,none⟩)])).elim fun h7 eh7 => ?_
 have m7:Mod (· = h.size+1+1+1+1) h6 h7:=by rw [eh7]; exact Mod.set h6 ⟨h.size+1+1+1+1,0,none⟩ _
 have r87:=obj_set (i:=0) (v := .func (.func 81) #[] #[.pointer (some ⟨h.size,0,none⟩),.pointer (some ⟨h.size+1,0,none⟩),.pointer (some ⟨h.size+1+1+1,0,none⟩),.pointer (some ⟨h.size+1+1+1+1,0,none⟩)]) r8
 rw [←eh7] at r87 ⊢
 clear eh7
 have bx:Bxs h7 o t h.size (h.size+1) (h.size+1+1+1) (h.size+1+1+1+1) (h.size+1+1) [] :=
  ⟨(m7.block _ omg omg).trans r3,(m7.block _ omg omg).trans r5,(m7.block _ omg omg).trans r7,⟨_,r87⟩,rm.mod m7 omg⟩
 have e7:Ext h h7:=m7.ext_from e6 (fun b hb e=>by omega)
 refine InvokeH_func kR ?_
 show CallsH Tryz.prog 81 #[ik n,ptrV h.size,ptrV (h.size+1),ptrV (h.size+1+1+1),ptrV (h.size+1+1+1+1)] h7 _ ⟨⟩
 refine down_c hr (rk n+1) n (Nat.lt_succ_self _) (a.ext e7) (fun e=>by have:=a.lt e; omega) bx (fun x hx=>by cases hx) fun h8 r sn m8 b8 hr8 _ => ?_
 exact H h8 r (m8.ext_from e7 (fun b hb e=>by omega)) hr8
def Lim (k:Nat) (c:Ca):Prop:=c.W.length≤k∧∀w∈c.W,w.qs.length≤k
theorem CoAt.newW {o:Nat} {c:Ca} {h1 h2:Heap} {n:Int} {b:Nat} (A:CoAt h o c) (hn:c.W.find? (fun w=>decide (w.n=n))=none) (hb:h.size≤b) (e:Ext h h1) (hm0:MapK ik h1 b ([]:List (Int×Value))) (hm:MapK ik h2 c.wm (upd n (.map (some b)) c.waitL)) (m:Mod (· = c.wm) h1 h2) (hl:c.W.length+1<10000) :
 CoAt h2 o { c with W:=c.W++[⟨n,[],b⟩] }:=by
 have A1:=A.ext e
 obtain ⟨o1,o2,o3⟩:=A1.oM A1.wait
 have hwl:=A.wait.lt
 have hlt:∀w∈c.W,w.b<h.size:=fun w hw=>(A.sets w hw).lt
 have hP:∀x∈c.W++[(⟨n,[],b⟩:Wt)],x∈c.W∨x=⟨n,[],b⟩:=fun x hx=>by
  rcases List.mem_append.1 hx with h1|h1
  ·exact .inl h1
  ·exact .inr (by simpa using h1)
 refine ⟨(m.block _ (get_some_lt A1.cells) o1).trans A1.cells,A1.kept.mod m A1.ok.m2,fun x hx=>(m.block _ (get_some_lt (A1.pg x hx)) (o2 x hx)).trans (A1.pg x hx),A1.pend.mod m A1.ok.m3,?_,fun w hw => ?_,fun x hx=>(A1.by_ x hx).mod m (fun d hd=>by rw [CoAt.blk_ A.ok hx] at hd; cases hd; exact o3 x hx),?_⟩
 ·have:=upd_new (k:=n) (v:=Value.map (some b)) (l:=c.waitL) (fun p hp e=>by
   unfold Ca.waitL at hp
   obtain ⟨x,hx,rfl⟩:=List.mem_map.1 hp
   have:=List.find?_eq_none.1 hn x hx
   have e':x.n=n:=e
   simp [e'] at this)
  rw [this] at hm
  show MapK ik h2 c.wm ((c.W++[(⟨n,[],b⟩:Wt)]).map _)
  rw [List.map_append]
  exact hm
 ·rcases hP w hw with h3|rfl
  ·exact (A1.sets w h3).mod m (A1.ok.m4 w h3).2.2
  ·exact hm0.mod m (by show ¬b=c.wm; omega)
 ·have hk:=A.kept.lt
  have hp:=A.pend.lt
  refine { A.ok with wfew := ?_,qfew:=fun w hw => ?_,m4:=fun w hw => ?_,m5 := ?_ }
  ·show (c.W++[_]).length<_
   simp; omega
  ·rcases hP w hw with h3|rfl
   ·exact A.ok.qfew w h3
   ·exact Nat.zero_lt_of_lt (show 0<10000 by decide)
  ·rcases hP w hw with h3|rfl
   ·exact A.ok.m4 w h3
   ·refine ⟨?_,?_,?_⟩<;>dsimp only<;>omega
  ·show ((c.W++[(⟨n,[],b⟩:Wt)]).map Wt.b).Nodup
   rw [List.map_append,List.nodup_append]
   refine ⟨A.ok.m5,by simp,fun x hx y hy e => ?_⟩
   obtain ⟨z,hz,rfl⟩:=List.mem_map.1 hx
   simp at hy
   have:=hlt z hz; omega
theorem ws_set {c:Ca} {i:Nat} (hi:i<c.W.length) (hn:(c.W.map (·.n)).Nodup) {qs:List Int} {m:Int}:({ c with W:=c.W.set i { c.W[i] with qs:=qs } }:Ca).ws m=if m=c.W[i].n then qs else c.ws m:=by
 unfold Ca.ws
 dsimp only
 have key:∀(l:List Wt) (i:Nat) (hi:i<l.length),(l.map (·.n)).Nodup→(l.set i { l[i] with qs:=qs }).find? (fun w=>decide (w.n=m))=if m=l[i].n then some { l[i] with qs:=qs } else l.find? (fun w=>decide (w.n=m)):=by
  intro l
  induction l with
  | nil=>intro i hi; simp at hi
  | cons x l ih =>
   intro i hi hnd
   simp only [List.map_cons,List.nodup_cons] at hnd
   cases i with
   | zero =>
    simp only [List.set_cons_zero,List.getElem_cons_zero,List.find?_cons]
    by_cases e:m=x.n
    ·subst e; simp
    ·rw [if_neg e]; simp [Ne.symm e]
   | succ i =>
    simp only [List.set_cons_succ,List.getElem_cons_succ,List.find?_cons]
    have hi':i<l.length:=by simpa using hi
    have:=ih i hi' hnd.2
    by_cases e:x.n=m
    ·have:¬m=(l[i]'hi').n:=fun e2=>hnd.1 (by rw [e,e2]; exact List.mem_map_of_mem (List.getElem_mem hi'))
     rw [if_neg this]; simp [e]
    ·simp only [e,decide_false]
     exact this
 rw [key c.W i hi hn]
 by_cases e:m=c.W[i].n
 ·rw [if_pos e,if_pos e]
 ·rw [if_neg e,if_neg e]
theorem ws_new {c:Ca} {n m:Int} {b:Nat}:({ c with W:=c.W++[⟨n,[],b⟩] }:Ca).ws m=c.ws m:=by
 unfold Ca.ws
 dsimp only
 rw [List.find?_append]
 cases hf:c.W.find? (fun w=>decide (w.n=m)) with
 | some w=>rfl
 | none =>
  rw [List.find?_cons]
  by_cases e:n=m
  ·simp [e]
  ·simp [e]
end Go.Proofs.YtcbbdnaelimpfaaGreat
set_option linter.unusedSimpArgs false
set_option linter.unusedVariables false
namespace Go.Proofs.YtcbbdnaelimpfaaGreat
open Go.Vc Go.Sort
variable {K:VP} {h:Heap}

structure Waited (c c':Ca) (n t:Int) (k:Nat):Prop where
 same:c'={ c with W:=c'.W }
 ws:∀m q,q∈c'.ws m↔q∈c.ws m∨(m=n∧q=t)
 lim:Lim (k+1) c'
theorem waits_nodup {o:Nat} {c:Ca} (A:CoAt h o c):(c.W.map (·.n)).Nodup:=by
 have:=A.wait.nodup
 unfold Ca.waitL at this
 rw [List.map_map] at this
 exact this
theorem CoAt.more {o:Nat} {c:Ca} {h':Heap} {n t:Int} {w:Wt} {k:Nat} (A:CoAt h o c) (hw:c.W.find? (fun w=>decide (w.n=n))=some w) (hm:MapK ik h' w.b (upd t (.bool true) w.L)) (m:Mod (· = w.b) h h') (hk:Lim (k+1) c) (hk2:∀w∈c.W,w.qs.length≤k) (hk3:k+1<10000) :
 ∃c',CoAt h' o c'∧Waited c c' n t k∧(∀b,c'.foot o b→c.foot o b):=by
 have hwm:w∈c.W:=List.mem_of_find?_eq_some hw
 have hwn:w.n=n:=by simpa using List.find?_some hw
 obtain ⟨i,hi,rfl⟩:=List.getElem_of_mem hwm
 have hu:upd t (Value.bool true) (c.W[i]).L=(if t∈c.W[i].qs then c.W[i].qs else c.W[i].qs++[t]).map fun n=>(n,Value.bool true):=upd_true _
 rw [hu] at hm
 have hl:(if t∈c.W[i].qs then c.W[i].qs else c.W[i].qs++[t]).length≤k+1:=by
  have:=hk2 _ hwm
  split
  ·omega
  ·simp; omega
 have a':=A.setW hi (qs:=if t∈c.W[i].qs then c.W[i].qs else c.W[i].qs++[t]) omg hm m
 have hws:c.ws n=c.W[i].qs:=by unfold Ca.ws; rw [hw]
 refine ⟨_,a',⟨rfl,fun x q => ?_,?_,fun w hw => ?_⟩,fun b hb => ?_⟩
 ·rw [ws_set hi (waits_nodup A),hwn]
  by_cases e:x=n
  ·rw [if_pos e,e,hws]
   split
   ·rename_i h1
    exact ⟨.inl,fun h=>h.elim id (fun ⟨_,h2⟩=>h2▸h1)⟩
   ·rw [List.mem_append,List.mem_singleton]
    exact ⟨fun h=>h.imp id (fun h=>⟨rfl,h⟩),fun h=>h.imp id (fun h=>h.2)⟩
  ·rw [if_neg e]
   exact ⟨.inl,fun h=>h.elim id (fun ⟨h1,_⟩=>absurd h1 e)⟩
 ·show (c.W.set _ _).length≤k+1
  rw [List.length_set]; exact hk.1
 ·obtain ⟨j,hj,rfl⟩:=List.getElem_of_mem hw
  rw [List.getElem_set]
  split
  ·exact hl
  ·have hj':j<c.W.length:=by simpa using hj
   have:=hk2 c.W[j] (List.getElem_mem hj'); omega
 ·rcases hb with e|e|e|e|⟨w,hw,e⟩|e|e
  ·exact .inl e
  ·exact .inr (.inl e)
  ·exact .inr (.inr (.inl e))
  ·exact .inr (.inr (.inr (.inl e)))
  ·obtain ⟨j,hj,rfl⟩:=List.getElem_of_mem hw
   rw [List.getElem_set] at e
   have hj':j<c.W.length:=by simpa using hj
   split at e
   ·exact .inr (.inr (.inr (.inr (.inl ⟨c.W[i],hwm,e⟩))))
   ·exact .inr (.inr (.inr (.inr (.inl ⟨c.W[j],List.getElem_mem hj',e⟩))))
  ·exact .inr (.inr (.inr (.inr (.inr (.inl e)))))
  ·exact .inr (.inr (.inr (.inr (.inr (.inr e)))))
set_option maxHeartbeats 4000000 in
theorem cAfter_c {rk:Int→Nat} {o:Nat} {c:Ca} {s:St} {n t:Int} {k:Nat} (hr:Ranks rk c) (a:CAt h o c s) (hk:Lim k c) (hk3:k+1<10000)
 (H2:(askE c.bits n≠0∨askE c.bits t≠0)→K (.int .i64 2) h)
 (H240:∀h',askE c.bits n=0→askE c.bits t=0→(n=t∨Reach c n t)→Ext h h'→K (.int .i64 240) h')
 (H0:∀h',askE c.bits n=0→askE c.bits t=0→¬(n=t∨Reach c n t)→c.opn t=false→Ext h h'→K (.int .i64 0) h')
 (Hw:∀h' c',askE c.bits n=0→askE c.bits t=0→¬(n=t∨Reach c n t)→c.opn t=true→CUpd h h' o c s c' s→Waited c c' n t k→K (.int .i64 0) h') :
 CallsH Tryz.prog 14 #[ptrV o,.int .i64 n,.int .i64 t] h K ⟨⟩:=by
 refine n14_calls ?_
 unfold n14; try delta vF vG vC vD vJ vV vk vt
 refine ask_c a.co.cells a.co.ok.b1 ?_
 by_cases hask:askE c.bits n≠0
 ·rw [ask_two hask]
  simp (disch:=omega)
  exact H2 (.inl hask)
 have hask:askE c.bits n=0:=Classical.not_not.1 hask
 rw [hask]
 simp (disch:=omega)
 refine ask_c a.co.cells a.co.ok.b1 ?_
 by_cases hask2:askE c.bits t≠0
 ·rw [ask_two hask2]
  simp (disch:=omega)
  exact H2 (.inr hask2)
 have hask2:askE c.bits t=0:=Classical.not_not.1 hask2
 rw [hask2]
 simp (disch:=omega)
 refine JoinN.mk (JoinN.mk ?_)
 by_cases hnt:n=t
 ·simp (disch:=omega) [hnt]
  exact H240 h hask hask2 (.inl hnt) (.refl _)
 simp (disch:=omega) [hnt]
 refine reaches_c hr a.co fun h1 r e1 hre => ?_
 cases r with
 | true =>
  simp (disch:=omega)
  exact H240 h1 hask hask2 (.inr (hre.1 rfl)) e1
 | false =>
  have hno:¬(n=t∨Reach c n t):=fun e=>e.elim hnt (fun e=>by have:=hre.2 e; cases this)
  have a1:=a.ext e1
  simp (disch:=omega)
  refine open_c a1.co ?_
  cases hop:c.opn t with
  | false =>
   simp (disch:=omega)
   exact H0 h1 hask hask2 hno hop e1
  | true =>
   have c6:=ce6 a1.co.cells
   have lk:look2 n c.waitL=(c.W.find? fun w=>decide (w.n=n)).map fun w=>Value.map (some w.b):=look_wait c.W
   unfold ptrV
   simp (disch:=omega) [c6]
   rw [Hp_lookup waitKey (z := .map none) kR a1.co.wait,lk]
   cases hw:c.W.find? (fun w=>decide (w.n=n)) with
   | some w =>
    rw [hw] at lk
    simp (disch:=omega) [c6]
    rw [Hp_lookup waitKey (z := .map none) kR a1.co.wait,lk]
    simp (disch:=omega)
    have hwm:w∈c.W:=List.mem_of_find?_eq_some hw
    refine Hp_mapUpdate setKey (a1.co.sets w hwm) fun h2 mp2 m2 => ?_
    obtain ⟨c',k2,wd,hft⟩:=a1.co.more hw mp2 m2 ⟨Nat.le_succ_of_le hk.1,fun w hw=>Nat.le_succ_of_le (hk.2 w hw)⟩ hk.2 hk3
    have hs:=wd.same
    have hbk:c'.backs=c.backs:=by rw [hs]
    have hfl:c'.flushes=c.flushes:=by rw [hs]
    have hsp:c'.sp=c.sp:=by rw [hs]
    have:=a1.core k2 (m2.mono (fun b _ e => .inr (.inr (.inr (.inr (.inl ⟨w,hwm,e⟩)))))) hsp (fun b hb => .inl (hft b hb)) (by rw [hbk]; exact a.bk) (by rw [hfl]; exact a.fl)
    exact Hw h2 c' hask hask2 hno hop (this.from_ e1) wd
   | none =>
    simp (disch:=omega) [c6,Hp_makeMap]
    refine (⟨_,rfl⟩:∃g,g=h1.push (.map #[] 0)).elim fun h2 eh2 => ?_
    have e2:Ext h1 h2:=by rw [eh2]; exact extS
    have z2:h2.size=h1.size+1:=by rw [eh2]; simp
    have mn:MapK ik h2 h1.size ([]:List (Int×Value)):=by rw [eh2]; exact MapK.new rfl
    rw [←eh2]
    clear eh2
    refine Hp_mapUpdate waitKey (a1.co.wait.ext e2) fun h3 mp3 m3 => ?_
    have k3:=a1.co.newW hw (Nat.le_refl _) e2 mn mp3 m3 (by have:=hk.1; omega)
    have d6:=ce6 k3.cells
    dsimp only at d6
    have lk3:look2 n (Ca.waitL { c with W:=c.W++[⟨n,[],h1.size⟩] })=some (.map (some h1.size)):=by
     have:=look_wait (n:=n) (c.W++[⟨n,[],h1.size⟩])
     rw [List.find?_append,hw] at this
     refine Eq.trans this ?_
     simp
    simp (disch:=omega) [d6]
    rw [Hp_lookup waitKey (z := .map none) kR k3.wait,lk3]
    simp (disch:=omega)
    have hf3:(c.W++[(⟨n,[],h1.size⟩:Wt)]).find? (fun w=>decide (w.n=n))=some ⟨n,[],h1.size⟩:=by
     rw [List.find?_append,hw]; simp
    have hmem3:(⟨n,[],h1.size⟩:Wt)∈c.W++[(⟨n,[],h1.size⟩:Wt)]:=by simp
    refine Hp_mapUpdate setKey (k3.sets _ hmem3) fun h4 mp4 m4 => ?_
    obtain ⟨c',k4,wd,hft⟩:=k3.more (w:=⟨n,[],h1.size⟩) hf3 mp4 m4 ⟨by show (c.W++[_]).length≤k+1; have:=hk.1; simp; omega,fun w hw=>by
     rcases List.mem_append.1 hw with h5|h5
     ·exact Nat.le_succ_of_le (hk.2 w h5)
     ·have:w=⟨n,[],h1.size⟩:=by simpa using h5
      rw [this]; exact Nat.zero_le _⟩ (fun w hw=>by
     rcases List.mem_append.1 hw with h5|h5
     ·exact hk.2 w h5
     ·have:w=⟨n,[],h1.size⟩:=by simpa using h5
      rw [this]; exact Nat.zero_le _) hk3
    have hs:=wd.same
    have hbk:c'.backs=c.backs:=by rw [hs]
    have hfl:c'.flushes=c.flushes:=by rw [hs]
    have hsp:c'.sp=c.sp:=by rw [hs]
    have wd':Waited c c' n t k:=⟨hs,fun x q=>by rw [wd.ws x q,ws_new],wd.lim⟩
    have m14:Mod (c.foot o) h1 h4:=(((Mod.of_ext e2).trans m3 (fun b _ e => .inr (.inr (.inr (.inl e)))))).trans m4 (fun b hb e=>by have e':b=h1.size:=e; omega)
    have hft':∀b,c'.foot o b→c.foot o b∨h1.size≤b:=fun b hb=>by
     rcases hft b hb with e|e|e|e|⟨w,hw,e⟩|e|e
     ·exact .inl (.inl e)
     ·exact .inl (.inr (.inl e))
     ·exact .inl (.inr (.inr (.inl e)))
     ·exact .inl (.inr (.inr (.inr (.inl e))))
     ·rcases List.mem_append.1 hw with h5|h5
      ·exact .inl (.inr (.inr (.inr (.inr (.inl ⟨w,h5,e⟩)))))
      ·have:w=⟨n,[],h1.size⟩:=by simpa using h5
       rw [this] at e
       exact .inr (Nat.le_of_eq e.symm)
     ·exact .inl (.inr (.inr (.inr (.inr (.inr (.inl e))))))
     ·exact .inl (.inr (.inr (.inr (.inr (.inr (.inr e))))))
    have:=a1.core k4 m14 hsp hft' (by rw [hbk]; exact a.bk) (by rw [hfl]; exact a.fl)
    exact Hw h4 c' hask hask2 hno hop (this.from_ e1) wd'
end Go.Proofs.YtcbbdnaelimpfaaGreat

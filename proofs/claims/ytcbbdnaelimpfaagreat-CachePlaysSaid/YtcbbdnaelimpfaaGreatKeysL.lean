/- The keys of a map,appended in whatever order,and sorted. -/
import Derived.Test.YtcbbdnaelimpfaaGreatSrtD
import Derived.Test.YtcbbdnaelimpfaaGreatVcRange
import Derived.Test.YtcbbdnaelimpfaaGreatVcMapD
set_option linter.unusedSimpArgs false
set_option linter.unusedVariables false
namespace Go.Proofs.YtcbbdnaelimpfaaGreat
open Go.Vc
variable {K:VP} {h:Heap}

def i6T:Nat:=2
def l6T:Nat:=102
theorem range_filterL {α:Type}:∀(H:List α),(List.range H.length).filterMap (fun i=>H[i]?)=H
 | []=>rfl
 | x::l=>by
  rw [List.length_cons,List.range_succ_eq_map,List.filterMap_cons]
  simp only [List.getElem?_cons_zero,List.filterMap_map]
  congr 1
  exact range_filterL l
theorem cellL {b i:Nat} {c:Array Value} {e:Go.TypeId} {v:Value} (hb:h[b]? = some (.cells c e)) (hi:c[i]? = some v):hcell h ⟨b,i,none⟩=some v:=(hcell_of_block hb).trans hi
theorem frzL {b i:Nat} {c:Array Value} {e:Go.TypeId} (hb:h[b]? = some (.cells c e)):hfrozen h ⟨b,i,none⟩=false:=by rw [hfrozen_of_block hb]; simp
set_option maxHeartbeats 2000000 in
theorem appKeyP_c {b m:Nat} {l:List (Int×Value)} (hb:h[b]? = some (.cells #[.map (some m)] 88)) (hm:MapK (.int .i64) h m l) (hl:l.length<100000)
 (H:∀h' v (L:List Int),Ext h h'→L.Perm (l.map (·.1))→OwnT i6T 1 h' v (L.map (.int .i64))→(∀b,blkV v=some b→h.size≤b)→K v h') :
 CallsH Tryz.prog 114 #[.slice none 0 0,.func (.func 86) #[] #[ptrV b]] h K ⟨⟩:=by
 refine n114_calls ?_
 unfold n114; try delta vF vG vC vD vJ vV vk vt
 simp (disch:=omega)
 refine JoinN_in1 (fun D g=>D=consD (h.size+1) (.tuple #[])∧g[h.size+1]? = some (.deferred (some []))∧Ext h g∧∃v,∃L:List Int,g[h.size]? = some (.cells #[v] l6T)∧L.Perm (l.map (·.1))∧OwnT i6T 1 g v (L.map (.int .i64))∧(∀b,blkV v=some b→h.size+2≤b)) (fun kk hkk => ?_) (fun D g hD => ?_)
 ·refine JoinN.mk ?_
  have hbl:=get_some_lt hb
  have hml:=hm.lt
  refine (⟨_,rfl⟩:∃g,g=h.push (.cells #[.slice none 0 0] l6T)).elim fun h0 eh0 => ?_
  have e0:Ext h h0:=by rw [eh0]; exact extS
  have z0:h0.size=h.size+1:=by rw [eh0]; simp
  have q0:h0[h.size]? = some (.cells #[.slice none 0 0] l6T):=by rw [eh0]; exact get_pushed rfl
  rw [show h.push (.cells #[.slice none 0 0] 102)=h0 from eh0.symm]
  clear eh0
  refine RangeC_none rfl fun oR oB oE oX oF Kp hoR hoB hrd hN hR hX => ?_
  refine (⟨_,rfl⟩:∃g,g=(h0.push (.deferred (some []))).push oR).elim fun h1 eh1 => ?_
  have e1:Ext h0 h1:=by rw [eh1]; exact extS
  have z1:h1.size=h.size+3:=by rw [eh1]; simp [z0]
  have rD:h1[h.size+1]? = some (.deferred (some [])):=by rw [eh1,get_push (by simp; omega),get_pushed omg]
  have rL:h1[h.size+2]? = some oR:=by rw [eh1,get_pushed (by simp; omega)]
  rw [←eh1]
  clear eh1
  rw [z0] at hrd hN ⊢
  refine InvokeH_k1 kR ?_
  refine n86_calls ?_
  unfold n86 ptrV; try delta vF vG vC vD vJ vV vk vt
  have c0:=cellL (i:=0) (((e0.trans e1).block b hbl).trans hb) rfl
  simp (disch:=omega) [c0]
  refine Hp_rangeM kR ((hm.ext e0).ext e1) fun h2 e2 hit hs2 => ?_
  have q2:=(e2.block h.size omg).trans ((e1.block h.size omg).trans q0)
  refine loopMap0 (fun I g=>Ext h g∧g[h.size+1]? = some (.deferred (some []))∧g[h.size+2]? = some oR∧∃v,g[h.size]? = some (.cells #[v] l6T)∧OwnT i6T 1 g v ((I.filterMap (fun i=>(l.map (·.1))[i]?)).map (.int .i64))∧(∀b,blkV v=some b→h.size+2≤b)) hit ⟨(e0.trans e1).trans e2,(e2.block _ omg).trans rD,(e2.block _ omg).trans rL,_,q2,.nil,fun b hb=>by cases hb⟩ ?_
  rintro I g hI hn hlt ⟨eg,gD,gL,v,gv,ov,fv⟩ X hX
  have hIl:=nodup_len hn hlt
  refine Hp_next hI (fun i hi hiI g' m' hI' => ?_) (fun hall => ?_)
  ·simp (disch:=omega)
   rw [Hp_entry hI' hi]
   simp (disch:=omega)
   have mI:∀b,b=h2.size-1∨True:=fun _ => .inr trivial
   have hq:h.size<g.size:=get_some_lt gv
   obtain ⟨es,cl,m1,-,-,-,m6,-,-⟩:=hI
   have hitq:h.size≠h1.size:=by omega
   have gv':=(m'.block h.size hq hitq).trans gv
   have gD':=(m'.block (h.size+1) (get_some_lt gD) omg).trans gD
   have gL':=(m'.block (h.size+2) (get_some_lt gL) omg).trans gL
   have hvit:∀b,blkV v=some b→b≠h1.size:=fun b hb e=>by
    obtain ⟨arr,ha⟩:=ov.tag hb
    rw [e,m6] at ha; cases ha
   have ov':=ov.mod m' (fun b hb e=>hvit b hb e)
   have eg':Ext h g':=m'.ext_from eg (fun b hb e=>by omega)
   refine hrd [.int .i64 (l[i]).1] g' _ rfl gL' ⟨gL',?_⟩
   refine (⟨_,rfl⟩:∃f,f=g'.setIfInBounds (h.size+1+1) oB).elim fun gB egB => ?_
   have mB:Mod (· = h.size+2) g' gB:=by rw [egB]; exact Mod.put _ _ _
   have gLB:gB[h.size+2]? = some oB:=by rw [egB]; exact get_put (get_some_lt gL')
   rw [←egB]
   clear egB
   have gvB:=(mB.block h.size (get_some_lt gv') omg).trans gv'
   have gDB:=(mB.block (h.size+1) (get_some_lt gD') omg).trans gD'
   have hvl:∀b,blkV v=some b→b≠h.size+2:=fun b hb e=>by
    obtain ⟨arr,ha⟩:=ov'.tag hb
    rw [e,gL'] at ha
    cases ha; cases hoR
   have ovB:=ov'.mod mB (fun b hb e=>hvl b hb e)
   have hIB:=hI'.mod mB (fun e=>by omega) (fun e=>by omega)
   have eB:Ext h gB:=mB.ext_from eg' (fun b hb e=>by omega)
   have c0:=cellL (i:=0) gvB rfl
   obtain ⟨va,vn,vc,rfl,hvn,-,-⟩:=ov.form omg
   simp (disch:=omega) [c0,getV]
   have hkl:(I.filterMap (fun i=>(l.map (·.1))[i]?)).length≤I.length:=List.length_filterMap_le _ _
   have hf:(I++[i]).filterMap (fun i=>(l.map (·.1))[i]?)=I.filterMap (fun i=>(l.map (·.1))[i]?)++[(l[i]).1]:=by
    rw [List.filterMap_append]
    congr 1
    rw [List.filterMap_cons,List.getElem?_map,List.getElem?_eq_getElem hi]
    rfl
   refine Hp_appP (e:=i6T) (by_:=8) kR kR ovB rfl (by rw [List.length_map]; omega) omg fun v' h3 o3 m3 f3 => ?_
   have hvq:∀b,blkV (.slice va vn vc)=some b→b≠h.size:=fun b hb=>ovB.ne hb gvB dM
   have hvD:∀b,blkV (.slice va vn vc)=some b→b≠h.size+1:=fun b hb e=>by
    obtain ⟨arr,ha⟩:=ovB.tag hb
    rw [e,gDB] at ha; cases ha
   have gv3:=(m3.block h.size (get_some_lt gvB) (fun e=>hvq _ e rfl)).trans gvB
   have gD3:=(m3.block (h.size+1) (get_some_lt gDB) (fun e=>hvD _ e rfl)).trans gDB
   have gL3:=(m3.block (h.size+2) (get_some_lt gLB) (fun e=>by
    obtain ⟨arr,ha⟩:=ovB.tag e
    rw [gLB] at ha; cases ha; cases hoB)).trans gLB
   have k0:=cellL (i:=0) gv3 rfl
   have f0:=frzL (i:=0) gv3
   obtain ⟨wa,wn,wc,rfl,-,-,-⟩:=o3.form omg
   have hmm:m≠h.size:=by omega
   have hvm:∀b,blkV (.slice va vn vc)=some b→b≠m:=fun b hb e=>by
    obtain ⟨es',cl',n1,-⟩:=hIB
    obtain ⟨arr,ha⟩:=ovB.tag hb
    rw [e,n1] at ha; cases ha
   have hvi:∀b,blkV (.slice va vn vc)=some b→b≠h1.size:=fun b hb e=>by
    obtain ⟨es',cl',-,-,-,-,n6,-⟩:=hIB
    obtain ⟨arr,ha⟩:=ovB.tag hb
    rw [e,n6] at ha; cases ha
   have hI3:=hIB.mod m3 (fun e=>hvi _ e rfl) (fun e=>hvm _ e rfl)
   have hbz:=eB.size
   have e3:Ext h h3:=m3.ext_from eB (fun b hb e=>by have:=fv b e; omega)
   simp (disch:=omega) [k0,f0]
   have gL4:(hset h3 ⟨h.size,0,none⟩ (.slice wa wn wc))[h.size+2]? = some oB:=(get_hset' omg).trans gL3
   refine ⟨gL4,?_⟩
   have m4:Mod (fun b=>b=h.size∨b=h.size+2) h3 ((hset h3 ⟨h.size,0,none⟩ (.slice wa wn wc)).setIfInBounds (h.size+1+1) oR):=Mod.putIn (Mod.setIn (Mod.refl _ _) (.inl (.inl rfl))) (.inl (.inr rfl))
   have hwq:∀b,blkV (.slice wa wn wc)=some b→b≠h.size∧b≠h.size+2:=fun b hb=>⟨o3.ne hb gv3 dM,fun e=>by
    obtain ⟨arr,ha⟩:=o3.tag hb
    rw [e,gL3] at ha; cases ha; cases hoB⟩
   refine hX i _ hiI hi (hI3.mod m4 (fun e=>by omega) (fun e=>by omega)) ⟨m4.ext_from e3 (fun b hb e=>by omega),?_,get_put (by rw [hset_size]; exact get_some_lt gL3),.slice wa wn wc,?_,?_,?_⟩
   ·exact (m4.block (h.size+1) (get_some_lt gD3) omg).trans gD3
   ·exact (get_putne omg).trans (obj_set gv3)
   ·rw [hf,List.map_append]
    exact o3.mod m4 (fun b hb e=>by have:=hwq b hb; omega)
   ·exact fun b hb=>(f3 b hb).elim (fv b) (fun e=>by have:=get_some_lt gLB; omega)
  ·simp (disch:=omega)
   refine hN _ _ gL ?_
   dsimp only
   have gLl:=get_some_lt gL
   have hlen:(l.map (·.1)).length=l.length:=List.length_map _
   have hperm:(I.filterMap (fun i=>(l.map (·.1))[i]?)).Perm (l.map (·.1)):=by
    have hp:I.Perm (List.range (l.map (·.1)).length):=by
     refine (List.perm_ext_iff_of_nodup hn List.nodup_range).2 fun i=>⟨fun hi => ?_,fun hi=>hall i (by simp at hi; omega)⟩
     have:=hlt i hi
     simp; omega
    have h2:=hp.filterMap (fun i=>(l.map (·.1))[i]?)
    rw [range_filterL] at h2
    exact h2
   refine hkk _ _ ⟨rfl,(get_putne omg).trans gD,Mod.ext_from eg (Mod.put _ _ _) (fun b hb e=>by omega),v,_,(get_putne omg).trans gv,hperm,ov.mod (Mod.put _ _ _) (fun b hb e => ?_),fv⟩
   obtain ⟨arr,ha⟩:=ov.tag hb
   have e':b=h.size+1+1:=e
   rw [e',gL] at ha; cases ha; cases hoR
 ·obtain ⟨rfl,hd,eg,v,L,hv,hp,ho,hf⟩:=hD
  have c0:=cellL (i:=0) hv rfl
  simp (disch:=omega) [c0]
  refine RetD_one' hd ?_
  have md:=Mod.put g (h.size+1) (.deferred none)
  refine H _ v L (md.ext_from eg (fun b hb e=>by omega)) hp (ho.mod md (fun b hb e => ?_)) (fun b hb=>by have:=hf b hb; omega)
  obtain ⟨arr,ha⟩:=ho.tag hb
  rw [e,hd] at ha; cases ha

theorem keysKeyP_c {m:Nat} (H:∀h',Ext h h'→h'[h.size]? = some (.cells #[.map (some m)] 88)→K (.func (.func 86) #[] #[ptrV h.size]) h'):CallsH Tryz.prog 46 #[.map (some m)] h K ⟨⟩:=by
 refine n46_calls ?_
 unfold n46; try delta vF vG vC vD vJ vV vk vt
 simp (disch:=omega)
 exact H _ extS (get_pushed rfl)
theorem sortedKeyP_c {b m:Nat} {l:List (Int×Value)} (hb:h[b]? = some (.cells #[.map (some m)] 88)) (hm:MapK (.int .i64) h m l) (hl:l.length<100000)
 (H:∀h' v (L:List Int),Ext h h'→L.Perm (l.map (·.1))→L.Pairwise (· ≤ ·)→OwnT i6T 1 h' v (L.map (.int .i64))→(∀b,blkV v=some b→h.size≤b)→K v h') :
 CallsH Tryz.prog 45 #[.func (.func 86) #[] #[ptrV b]] h K ⟨⟩:=by
 refine n45_calls ?_
 unfold n45; try delta vF vG vC vD vJ vV vk vt
 refine n84_calls ?_
 unfold n84; try delta vF vG vC vD vJ vV vk vt
 refine appKeyP_c hb hm hl fun h2 v L e2 hp ho hf => ?_
 have hLl:L.length=l.length:=by rw [hp.length_eq,List.length_map]
 refine sortL64_c ho omg fun h3 L' p3 s3 o3 m3 => ?_
 exact H h3 v L' (m3.ext_from e2 (fun b hb e=>by have:=hf b e; omega)) (p3.trans hp) s3 o3 hf
end Go.Proofs.YtcbbdnaelimpfaaGreat

/- Lemmas: what the functions do. -/
import Derived.Test.YtdccfkffabngjaaGreatGpD
import Derived.Test.YtdccfkffabngjaaGreatVcRange
import Derived.Test.YtdccfkffabngjaaGreatGpF
set_option linter.unusedSimpArgs false
set_option linter.unusedVariables false
set_option maxRecDepth 20000
namespace Go.Proofs.YtdccfkffabngjaaGreat
open Go.Vc
section
variable {K:VP}{h:Heap}
def i6T:Nat:=2
def l6T:Nat:=47
theorem range_filterL{α:Type}:∀(H:List α),(List.range H.length).filterMap (fun i=>H[i]?)=H
 | []=>rfl
 | x::l=>by
  rw[List.length_cons,List.range_succ_eq_map,List.filterMap_cons]
  simp only[List.getElem?_cons_zero,List.filterMap_map]
  congr 1
  exact range_filterL l
theorem cellL{b i:Nat}{c:Array Value}{e:Go.TypeId}{v:Value}(hb:h[b]? = some (.cells c e))(hi:c[i]? = some v):hcell h ⟨b,i,none⟩=some v:=(hcell_of_block hb).trans hi
theorem frzL{b i:Nat}{c:Array Value}{e:Go.TypeId}(hb:h[b]? = some (.cells c e)):hfrozen h ⟨b,i,none⟩=false:=by rw[hfrozen_of_block hb];simp
set_option maxHeartbeats 2000000 in
theorem appKeyN_c{b m:Nat}{l:List (Int×Value)}(hb:h[b]? = some (.cells #[.map (some m)] 104))(hm:MapK (.int .i64) h m l)(hl:l.length<100000)
 (H:∀h' v (L:List Int),Ext h h'->L.Perm (l.map (·.1))->OwnT i6T 1 h' v (L.map (.int .i64))->(∀b,blkV v=some b->h.size<=b)->K v h') :
 CallsH Tryz.prog 132 #[.slice none 0 0,.func (.func 97) #[] #[ptrV b]] h K ⟨⟩:=by
 refine n132_calls ?_
 unfold n132;try delta vF vG vC vD vJ vV vk vt
 simp(disch:=omega)
 refine JoinN_in1 (fun D g=>D=consD (h.size+1) (.tuple #[])/\g[h.size+1]? = some (.deferred (some []))/\Ext h g/\∃v,∃L:List Int,g[h.size]? = some (.cells #[v] l6T)/\L.Perm (l.map (·.1))/\OwnT i6T 1 g v (L.map (.int .i64))/\(∀b,blkV v=some b->h.size+2<=b)) (fun kk hkk=>?_) (fun D g hD=>?_)
 ·refine JoinN.mk ?_
  have hbl:=get_some_lt hb
  have hml:=hm.lt
  refine (⟨_,rfl⟩:∃g,g=h.push (.cells #[.slice none 0 0] l6T)).elim fun h0 eh0=>?_
  have e0:Ext h h0:=by rw[eh0];exact extS
  have z0:h0.size=h.size+1:=by rw[eh0];simp
  have q0:h0[h.size]? = some (.cells #[.slice none 0 0] l6T):=by rw[eh0];exact get_pushed rfl
  rw[show h.push (.cells #[.slice none 0 0] 47)=h0 from eh0.symm]
  clear eh0
  refine RangeC_none rfl fun oR oB oE oX oF Kp hoR hoB hrd hN hR hX=>?_
  refine (⟨_,rfl⟩:∃g,g=(h0.push (.deferred (some []))).push oR).elim fun h1 eh1=>?_
  have e1:Ext h0 h1:=by rw[eh1];exact extS
  have z1:h1.size=h.size+3:=by rw[eh1];simp[z0]
  have rD:h1[h.size+1]? = some (.deferred (some [])):=by rw[eh1,get_push (by simp;omega),get_pushed omg]
  have rL:h1[h.size+2]? = some oR:=by rw[eh1,get_pushed (by simp;omega)]
  rw[<-eh1]
  clear eh1
  rw[z0]at hrd hN ⊢
  refine InvokeH_k1 kR ?_
  refine n97_calls ?_
  unfold n97 ptrV;try delta vF vG vC vD vJ vV vk vt
  have c0:=cellL (i:=0) (((e0.trans e1).block b hbl).trans hb) rfl
  simp(disch:=omega)[c0]
  refine Hp_rangeM kR ((hm.ext e0).ext e1) fun h2 e2 hit hs2=>?_
  have q2:=(e2.block h.size omg).trans ((e1.block h.size omg).trans q0)
  refine loopMap0 (fun I g=>Ext h g/\g[h.size+1]? = some (.deferred (some []))/\g[h.size+2]? = some oR/\∃v,g[h.size]? = some (.cells #[v] l6T)/\OwnT i6T 1 g v ((I.filterMap (fun i=>(l.map (·.1))[i]?)).map (.int .i64))/\(∀b,blkV v=some b->h.size+2<=b)) hit ⟨(e0.trans e1).trans e2,(e2.block _ omg).trans rD,(e2.block _ omg).trans rL,_,q2,.nil,fun b hb=>by cases hb⟩ ?_
  rintro I g hI hn hlt ⟨eg,gD,gL,v,gv,ov,fv⟩ X hX
  have hIl:=nodup_len hn hlt
  refine Hp_next hI (fun i hi hiI g' m' hI'=>?_) (fun hall=>?_)
  ·simp(disch:=omega)
   rw[Hp_entry hI' hi]
   simp(disch:=omega)
   have mI:∀b,b=h2.size-1\/True:=fun _=>.inr trivial
   have hq:h.size<g.size:=get_some_lt gv
   obtain⟨es,cl,m1,-,-,-,m6,-,-⟩:=hI
   have hitq:h.size≠h1.size:=by omega
   have gv':=(m'.block h.size hq hitq).trans gv
   have gD':=(m'.block (h.size+1) (get_some_lt gD) omg).trans gD
   have gL':=(m'.block (h.size+2) (get_some_lt gL) omg).trans gL
   have hvit:∀b,blkV v=some b->b≠h1.size:=fun b hb e=>by
    obtain⟨arr,ha⟩:=ov.tag hb
    rw[e,m6]at ha;cases ha
   have ov':=ov.mod m' (fun b hb e=>hvit b hb e)
   have eg':Ext h g':=m'.ext_from eg (fun b hb e=>by omega)
   refine hrd [.int .i64 (l[i]).1] g' _ rfl gL' ⟨gL',?_⟩
   refine (⟨_,rfl⟩:∃f,f=g'.setIfInBounds (h.size+1+1) oB).elim fun gB egB=>?_
   have mB:Mod (· = h.size+2) g' gB:=by rw[egB];exact Mod.put _ _ _
   have gLB:gB[h.size+2]? = some oB:=by rw[egB];exact get_put (get_some_lt gL')
   rw[<-egB]
   clear egB
   have gvB:=(mB.block h.size (get_some_lt gv') omg).trans gv'
   have gDB:=(mB.block (h.size+1) (get_some_lt gD') omg).trans gD'
   have hvl:∀b,blkV v=some b->b≠h.size+2:=fun b hb e=>by
    obtain⟨arr,ha⟩:=ov'.tag hb
    rw[e,gL']at ha
    cases ha;cases hoR
   have ovB:=ov'.mod mB (fun b hb e=>hvl b hb e)
   have hIB:=hI'.mod mB (fun e=>by omega) (fun e=>by omega)
   have eB:Ext h gB:=mB.ext_from eg' (fun b hb e=>by omega)
   have c0:=cellL (i:=0) gvB rfl
   obtain⟨va,vn,vc,rfl,hvn,-,-⟩:=ov.form omg
   simp(disch:=omega)[c0,getV]
   have hkl:(I.filterMap (fun i=>(l.map (·.1))[i]?)).length<=I.length:=List.length_filterMap_le _ _
   have hf:(I++[i]).filterMap (fun i=>(l.map (·.1))[i]?)=I.filterMap (fun i=>(l.map (·.1))[i]?)++[(l[i]).1]:=by
    rw[List.filterMap_append]
    congr 1
    rw[List.filterMap_cons,List.getElem?_map,List.getElem?_eq_getElem hi]
    rfl
   refine Hp_appP (e:=i6T) (by_:=8) kR kR ovB rfl (by rw[List.length_map];omega) omg fun v' h3 o3 m3 f3=>?_
   have hvq:∀b,blkV (.slice va vn vc)=some b->b≠h.size:=fun b hb=>ovB.ne hb gvB dM
   have hvD:∀b,blkV (.slice va vn vc)=some b->b≠h.size+1:=fun b hb e=>by
    obtain⟨arr,ha⟩:=ovB.tag hb
    rw[e,gDB]at ha;cases ha
   have gv3:=(m3.block h.size (get_some_lt gvB) (fun e=>hvq _ e rfl)).trans gvB
   have gD3:=(m3.block (h.size+1) (get_some_lt gDB) (fun e=>hvD _ e rfl)).trans gDB
   have gL3:=(m3.block (h.size+2) (get_some_lt gLB) (fun e=>by
    obtain⟨arr,ha⟩:=ovB.tag e
    rw[gLB]at ha;cases ha;cases hoB)).trans gLB
   have k0:=cellL (i:=0) gv3 rfl
   have f0:=frzL (i:=0) gv3
   obtain⟨wa,wn,wc,rfl,-,-,-⟩:=o3.form omg
   have hmm:m≠h.size:=by omega
   have hvm:∀b,blkV (.slice va vn vc)=some b->b≠m:=fun b hb e=>by
    obtain⟨es',cl',n1,-⟩:=hIB
    obtain⟨arr,ha⟩:=ovB.tag hb
    rw[e,n1]at ha;cases ha
   have hvi:∀b,blkV (.slice va vn vc)=some b->b≠h1.size:=fun b hb e=>by
    obtain⟨es',cl',-,-,-,-,n6,-⟩:=hIB
    obtain⟨arr,ha⟩:=ovB.tag hb
    rw[e,n6]at ha;cases ha
   have hI3:=hIB.mod m3 (fun e=>hvi _ e rfl) (fun e=>hvm _ e rfl)
   have hbz:=eB.size
   have e3:Ext h h3:=m3.ext_from eB (fun b hb e=>by have:=fv b e;omega)
   simp(disch:=omega)[k0,f0]
   have gL4:(hset h3 ⟨h.size,0,none⟩ (.slice wa wn wc))[h.size+2]? = some oB:=(get_hset' omg).trans gL3
   refine⟨gL4,?_⟩
   have m4:Mod (fun b=>b=h.size\/b=h.size+2) h3 ((hset h3 ⟨h.size,0,none⟩ (.slice wa wn wc)).setIfInBounds (h.size+1+1) oR):=Mod.putIn (Mod.setIn (Mod.refl _ _) (.inl (.inl rfl))) (.inl (.inr rfl))
   have hwq:∀b,blkV (.slice wa wn wc)=some b->b≠h.size/\b≠h.size+2:=fun b hb=>⟨o3.ne hb gv3 dM,fun e=>by
    obtain⟨arr,ha⟩:=o3.tag hb
    rw[e,gL3]at ha;cases ha;cases hoB⟩
   refine hX i _ hiI hi (hI3.mod m4 (fun e=>by omega) (fun e=>by omega)) ⟨m4.ext_from e3 (fun b hb e=>by omega),?_,get_put (by rw[hset_size];exact get_some_lt gL3),.slice wa wn wc,?_,?_,?_⟩
   ·exact (m4.block (h.size+1) (get_some_lt gD3) omg).trans gD3
   ·exact (get_putne omg).trans (obj_set gv3)
   ·rw[hf,List.map_append]
    exact o3.mod m4 (fun b hb e=>by have:=hwq b hb;omega)
   ·exact fun b hb=>(f3 b hb).elim (fv b) (fun e=>by have:=get_some_lt gLB;omega)
  ·simp(disch:=omega)
   refine hN _ _ gL ?_
   dsimp only
   have gLl:=get_some_lt gL
   have hlen:(l.map (·.1)).length=l.length:=List.length_map _
   have hperm:(I.filterMap (fun i=>(l.map (·.1))[i]?)).Perm (l.map (·.1)):=by
    have hp:I.Perm (List.range (l.map (·.1)).length):=by
     refine (List.perm_ext_iff_of_nodup hn List.nodup_range).2 fun i=>⟨fun hi=>?_,fun hi=>hall i (by simp at hi;omega)⟩
     have:=hlt i hi
     simp;omega
    have h2:=hp.filterMap (fun i=>(l.map (·.1))[i]?)
    rw[range_filterL]at h2
    exact h2
   refine hkk _ _ ⟨rfl,(get_putne omg).trans gD,Mod.ext_from eg (Mod.put _ _ _) (fun b hb e=>by omega),v,_,(get_putne omg).trans gv,hperm,ov.mod (Mod.put _ _ _) (fun b hb e=>?_),fv⟩
   obtain⟨arr,ha⟩:=ov.tag hb
   have e':b=h.size+1+1:=e
   rw[e',gL]at ha;cases ha;cases hoR
 ·obtain⟨rfl,hd,eg,v,L,hv,hp,ho,hf⟩:=hD
  have c0:=cellL (i:=0) hv rfl
  simp(disch:=omega)[c0]
  refine RetD_one' hd ?_
  have md:=Mod.put g (h.size+1) (.deferred none)
  refine H _ v L (md.ext_from eg (fun b hb e=>by omega)) hp (ho.mod md (fun b hb e=>?_)) (fun b hb=>by have:=hf b hb;omega)
  obtain⟨arr,ha⟩:=ho.tag hb
  rw[e,hd]at ha;cases ha
theorem keysKeyN_c{m:Nat}(H:∀h',Ext h h'->h'[h.size]? = some (.cells #[.map (some m)] 104)->K (.func (.func 97) #[] #[ptrV h.size]) h'):CallsH Tryz.prog 47 #[.map (some m)] h K ⟨⟩:=by
 refine n47_calls ?_
 unfold n47;try delta vF vG vC vD vJ vV vk vt
 simp(disch:=omega)
 exact H _ extS (get_pushed rfl)
theorem sortedKeyN_c{b m:Nat}{l:List (Int×Value)}(hb:h[b]? = some (.cells #[.map (some m)] 104))(hm:MapK (.int .i64) h m l)(hl:l.length<100000)
 (H:∀h' v (L:List Int),Ext h h'->L.Perm (l.map (·.1))->L.Pairwise (· <= ·)->OwnT i6T 1 h' v (L.map (.int .i64))->(∀b,blkV v=some b->h.size<=b)->K v h') :
 CallsH Tryz.prog 46 #[.func (.func 97) #[] #[ptrV b]] h K ⟨⟩:=by
 refine n46_calls ?_
 unfold n46;try delta vF vG vC vD vJ vV vk vt
 refine n95_calls ?_
 unfold n95;try delta vF vG vC vD vJ vV vk vt
 refine appKeyN_c hb hm hl fun h2 v L e2 hp ho hf=>?_
 have hLl:L.length=l.length:=by rw[hp.length_eq,List.length_map]
 refine sortL64_c ho omg fun h3 L' p3 s3 o3 m3=>?_
 exact H h3 v L' (m3.ext_from e2 (fun b hb e=>by have:=hf b e;omega)) (p3.trans hp) s3 o3 hf
set_option maxHeartbeats 2000000 in
theorem appKeyI_c{b m:Nat}{l:List (Int×Value)}(hb:h[b]? = some (.cells #[.map (some m)] 110))(hm:MapK (.int .i64) h m l)(hl:l.length<100000)
 (H:∀h' v (L:List Int),Ext h h'->L.Perm (l.map (·.1))->OwnT i6T 1 h' v (L.map (.int .i64))->(∀b,blkV v=some b->h.size<=b)->K v h') :
 CallsH Tryz.prog 132 #[.slice none 0 0,.func (.func 99) #[] #[ptrV b]] h K ⟨⟩:=by
 refine n132_calls ?_
 unfold n132;try delta vF vG vC vD vJ vV vk vt
 simp(disch:=omega)
 refine JoinN_in1 (fun D g=>D=consD (h.size+1) (.tuple #[])/\g[h.size+1]? = some (.deferred (some []))/\Ext h g/\∃v,∃L:List Int,g[h.size]? = some (.cells #[v] l6T)/\L.Perm (l.map (·.1))/\OwnT i6T 1 g v (L.map (.int .i64))/\(∀b,blkV v=some b->h.size+2<=b)) (fun kk hkk=>?_) (fun D g hD=>?_)
 ·refine JoinN.mk ?_
  have hbl:=get_some_lt hb
  have hml:=hm.lt
  refine (⟨_,rfl⟩:∃g,g=h.push (.cells #[.slice none 0 0] l6T)).elim fun h0 eh0=>?_
  have e0:Ext h h0:=by rw[eh0];exact extS
  have z0:h0.size=h.size+1:=by rw[eh0];simp
  have q0:h0[h.size]? = some (.cells #[.slice none 0 0] l6T):=by rw[eh0];exact get_pushed rfl
  rw[show h.push (.cells #[.slice none 0 0] 47)=h0 from eh0.symm]
  clear eh0
  refine RangeC_none rfl fun oR oB oE oX oF Kp hoR hoB hrd hN hR hX=>?_
  refine (⟨_,rfl⟩:∃g,g=(h0.push (.deferred (some []))).push oR).elim fun h1 eh1=>?_
  have e1:Ext h0 h1:=by rw[eh1];exact extS
  have z1:h1.size=h.size+3:=by rw[eh1];simp[z0]
  have rD:h1[h.size+1]? = some (.deferred (some [])):=by rw[eh1,get_push (by simp;omega),get_pushed omg]
  have rL:h1[h.size+2]? = some oR:=by rw[eh1,get_pushed (by simp;omega)]
  rw[<-eh1]
  clear eh1
  rw[z0]at hrd hN ⊢
  refine InvokeH_k1 kR ?_
  refine n99_calls ?_
  unfold n99 ptrV;try delta vF vG vC vD vJ vV vk vt
  have c0:=cellL (i:=0) (((e0.trans e1).block b hbl).trans hb) rfl
  simp(disch:=omega)[c0]
  refine Hp_rangeM kR ((hm.ext e0).ext e1) fun h2 e2 hit hs2=>?_
  have q2:=(e2.block h.size omg).trans ((e1.block h.size omg).trans q0)
  refine loopMap0 (fun I g=>Ext h g/\g[h.size+1]? = some (.deferred (some []))/\g[h.size+2]? = some oR/\∃v,g[h.size]? = some (.cells #[v] l6T)/\OwnT i6T 1 g v ((I.filterMap (fun i=>(l.map (·.1))[i]?)).map (.int .i64))/\(∀b,blkV v=some b->h.size+2<=b)) hit ⟨(e0.trans e1).trans e2,(e2.block _ omg).trans rD,(e2.block _ omg).trans rL,_,q2,.nil,fun b hb=>by cases hb⟩ ?_
  rintro I g hI hn hlt ⟨eg,gD,gL,v,gv,ov,fv⟩ X hX
  have hIl:=nodup_len hn hlt
  refine Hp_next hI (fun i hi hiI g' m' hI'=>?_) (fun hall=>?_)
  ·simp(disch:=omega)
   rw[Hp_entry hI' hi]
   simp(disch:=omega)
   have mI:∀b,b=h2.size-1\/True:=fun _=>.inr trivial
   have hq:h.size<g.size:=get_some_lt gv
   obtain⟨es,cl,m1,-,-,-,m6,-,-⟩:=hI
   have hitq:h.size≠h1.size:=by omega
   have gv':=(m'.block h.size hq hitq).trans gv
   have gD':=(m'.block (h.size+1) (get_some_lt gD) omg).trans gD
   have gL':=(m'.block (h.size+2) (get_some_lt gL) omg).trans gL
   have hvit:∀b,blkV v=some b->b≠h1.size:=fun b hb e=>by
    obtain⟨arr,ha⟩:=ov.tag hb
    rw[e,m6]at ha;cases ha
   have ov':=ov.mod m' (fun b hb e=>hvit b hb e)
   have eg':Ext h g':=m'.ext_from eg (fun b hb e=>by omega)
   refine hrd [.int .i64 (l[i]).1] g' _ rfl gL' ⟨gL',?_⟩
   refine (⟨_,rfl⟩:∃f,f=g'.setIfInBounds (h.size+1+1) oB).elim fun gB egB=>?_
   have mB:Mod (· = h.size+2) g' gB:=by rw[egB];exact Mod.put _ _ _
   have gLB:gB[h.size+2]? = some oB:=by rw[egB];exact get_put (get_some_lt gL')
   rw[<-egB]
   clear egB
   have gvB:=(mB.block h.size (get_some_lt gv') omg).trans gv'
   have gDB:=(mB.block (h.size+1) (get_some_lt gD') omg).trans gD'
   have hvl:∀b,blkV v=some b->b≠h.size+2:=fun b hb e=>by
    obtain⟨arr,ha⟩:=ov'.tag hb
    rw[e,gL']at ha
    cases ha;cases hoR
   have ovB:=ov'.mod mB (fun b hb e=>hvl b hb e)
   have hIB:=hI'.mod mB (fun e=>by omega) (fun e=>by omega)
   have eB:Ext h gB:=mB.ext_from eg' (fun b hb e=>by omega)
   have c0:=cellL (i:=0) gvB rfl
   obtain⟨va,vn,vc,rfl,hvn,-,-⟩:=ov.form omg
   simp(disch:=omega)[c0,getV]
   have hkl:(I.filterMap (fun i=>(l.map (·.1))[i]?)).length<=I.length:=List.length_filterMap_le _ _
   have hf:(I++[i]).filterMap (fun i=>(l.map (·.1))[i]?)=I.filterMap (fun i=>(l.map (·.1))[i]?)++[(l[i]).1]:=by
    rw[List.filterMap_append]
    congr 1
    rw[List.filterMap_cons,List.getElem?_map,List.getElem?_eq_getElem hi]
    rfl
   refine Hp_appP (e:=i6T) (by_:=8) kR kR ovB rfl (by rw[List.length_map];omega) omg fun v' h3 o3 m3 f3=>?_
   have hvq:∀b,blkV (.slice va vn vc)=some b->b≠h.size:=fun b hb=>ovB.ne hb gvB dM
   have hvD:∀b,blkV (.slice va vn vc)=some b->b≠h.size+1:=fun b hb e=>by
    obtain⟨arr,ha⟩:=ovB.tag hb
    rw[e,gDB]at ha;cases ha
   have gv3:=(m3.block h.size (get_some_lt gvB) (fun e=>hvq _ e rfl)).trans gvB
   have gD3:=(m3.block (h.size+1) (get_some_lt gDB) (fun e=>hvD _ e rfl)).trans gDB
   have gL3:=(m3.block (h.size+2) (get_some_lt gLB) (fun e=>by
    obtain⟨arr,ha⟩:=ovB.tag e
    rw[gLB]at ha;cases ha;cases hoB)).trans gLB
   have k0:=cellL (i:=0) gv3 rfl
   have f0:=frzL (i:=0) gv3
   obtain⟨wa,wn,wc,rfl,-,-,-⟩:=o3.form omg
   have hmm:m≠h.size:=by omega
   have hvm:∀b,blkV (.slice va vn vc)=some b->b≠m:=fun b hb e=>by
    obtain⟨es',cl',n1,-⟩:=hIB
    obtain⟨arr,ha⟩:=ovB.tag hb
    rw[e,n1]at ha;cases ha
   have hvi:∀b,blkV (.slice va vn vc)=some b->b≠h1.size:=fun b hb e=>by
    obtain⟨es',cl',-,-,-,-,n6,-⟩:=hIB
    obtain⟨arr,ha⟩:=ovB.tag hb
    rw[e,n6]at ha;cases ha
   have hI3:=hIB.mod m3 (fun e=>hvi _ e rfl) (fun e=>hvm _ e rfl)
   have hbz:=eB.size
   have e3:Ext h h3:=m3.ext_from eB (fun b hb e=>by have:=fv b e;omega)
   simp(disch:=omega)[k0,f0]
   have gL4:(hset h3 ⟨h.size,0,none⟩ (.slice wa wn wc))[h.size+2]? = some oB:=(get_hset' omg).trans gL3
   refine⟨gL4,?_⟩
   have m4:Mod (fun b=>b=h.size\/b=h.size+2) h3 ((hset h3 ⟨h.size,0,none⟩ (.slice wa wn wc)).setIfInBounds (h.size+1+1) oR):=Mod.putIn (Mod.setIn (Mod.refl _ _) (.inl (.inl rfl))) (.inl (.inr rfl))
   have hwq:∀b,blkV (.slice wa wn wc)=some b->b≠h.size/\b≠h.size+2:=fun b hb=>⟨o3.ne hb gv3 dM,fun e=>by
    obtain⟨arr,ha⟩:=o3.tag hb
    rw[e,gL3]at ha;cases ha;cases hoB⟩
   refine hX i _ hiI hi (hI3.mod m4 (fun e=>by omega) (fun e=>by omega)) ⟨m4.ext_from e3 (fun b hb e=>by omega),?_,get_put (by rw[hset_size];exact get_some_lt gL3),.slice wa wn wc,?_,?_,?_⟩
   ·exact (m4.block (h.size+1) (get_some_lt gD3) omg).trans gD3
   ·exact (get_putne omg).trans (obj_set gv3)
   ·rw[hf,List.map_append]
    exact o3.mod m4 (fun b hb e=>by have:=hwq b hb;omega)
   ·exact fun b hb=>(f3 b hb).elim (fv b) (fun e=>by have:=get_some_lt gLB;omega)
  ·simp(disch:=omega)
   refine hN _ _ gL ?_
   dsimp only
   have gLl:=get_some_lt gL
   have hlen:(l.map (·.1)).length=l.length:=List.length_map _
   have hperm:(I.filterMap (fun i=>(l.map (·.1))[i]?)).Perm (l.map (·.1)):=by
    have hp:I.Perm (List.range (l.map (·.1)).length):=by
     refine (List.perm_ext_iff_of_nodup hn List.nodup_range).2 fun i=>⟨fun hi=>?_,fun hi=>hall i (by simp at hi;omega)⟩
     have:=hlt i hi
     simp;omega
    have h2:=hp.filterMap (fun i=>(l.map (·.1))[i]?)
    rw[range_filterL]at h2
    exact h2
   refine hkk _ _ ⟨rfl,(get_putne omg).trans gD,Mod.ext_from eg (Mod.put _ _ _) (fun b hb e=>by omega),v,_,(get_putne omg).trans gv,hperm,ov.mod (Mod.put _ _ _) (fun b hb e=>?_),fv⟩
   obtain⟨arr,ha⟩:=ov.tag hb
   have e':b=h.size+1+1:=e
   rw[e',gL]at ha;cases ha;cases hoR
 ·obtain⟨rfl,hd,eg,v,L,hv,hp,ho,hf⟩:=hD
  have c0:=cellL (i:=0) hv rfl
  simp(disch:=omega)[c0]
  refine RetD_one' hd ?_
  have md:=Mod.put g (h.size+1) (.deferred none)
  refine H _ v L (md.ext_from eg (fun b hb e=>by omega)) hp (ho.mod md (fun b hb e=>?_)) (fun b hb=>by have:=hf b hb;omega)
  obtain⟨arr,ha⟩:=ho.tag hb
  rw[e,hd]at ha;cases ha
theorem keysKeyI_c{m:Nat}(H:∀h',Ext h h'->h'[h.size]? = some (.cells #[.map (some m)] 110)->K (.func (.func 99) #[] #[ptrV h.size]) h'):CallsH Tryz.prog 49 #[.map (some m)] h K ⟨⟩:=by
 refine n49_calls ?_
 unfold n49;try delta vF vG vC vD vJ vV vk vt
 simp(disch:=omega)
 exact H _ extS (get_pushed rfl)
theorem sortedKeyI_c{b m:Nat}{l:List (Int×Value)}(hb:h[b]? = some (.cells #[.map (some m)] 110))(hm:MapK (.int .i64) h m l)(hl:l.length<100000)
 (H:∀h' v (L:List Int),Ext h h'->L.Perm (l.map (·.1))->L.Pairwise (· <= ·)->OwnT i6T 1 h' v (L.map (.int .i64))->(∀b,blkV v=some b->h.size<=b)->K v h') :
 CallsH Tryz.prog 46 #[.func (.func 99) #[] #[ptrV b]] h K ⟨⟩:=by
 refine n46_calls ?_
 unfold n46;try delta vF vG vC vD vJ vV vk vt
 refine n95_calls ?_
 unfold n95;try delta vF vG vC vD vJ vV vk vt
 refine appKeyI_c hb hm hl fun h2 v L e2 hp ho hf=>?_
 have hLl:L.length=l.length:=by rw[hp.length_eq,List.length_map]
 refine sortL64_c ho omg fun h3 L' p3 s3 o3 m3=>?_
 exact H h3 v L' (m3.ext_from e2 (fun b hb e=>by have:=hf b e;omega)) (p3.trans hp) s3 o3 hf
end
section
variable {K:VP}{h:Heap}
abbrev ik:Int->Value:=.int .i64
theorem timesKey:KeyT Tryz.prog 104 Int ik:=KeyT.int kR
theorem blocksKey:KeyT Tryz.prog 110 Int ik:=KeyT.int kR
structure Tally (l:List Int) (L:List (Int×Value)):Prop where
 look:∀k,look2 k L=if k∈l then some (.int .i64 (l.count k:Nat)) else none
 few:L.length<=l.length
theorem Tally.nil:Tally [] []:=⟨fun k=>rfl,Nat.le_refl _⟩
theorem upd_len{k:Int}{v:Value}:∀L:List (Int×Value),(upd k v L).length<=L.length+1
 | []=>Nat.le_refl _
 | p::L=>by
  unfold upd
  split
  ·simp
  ·simpa using upd_len L
theorem Tally.get{l:List Int}{L:List (Int×Value)}(t:Tally l L)(k:Int):(look2 k L).getD (.int .i64 0) = .int .i64 (l.count k:Nat):=by
 rw[t.look]
 split
 ·rfl
 ·rename_i h
  rw[List.count_eq_zero_of_not_mem h];rfl
theorem Tally.snoc{l:List Int}{L:List (Int×Value)}(t:Tally l L)(k:Int):Tally (l++[k]) (upd k (.int .i64 ((l.count k+1:Nat):Int)) L):=by
 refine⟨fun j=>?_,?_⟩
 ·rw[look2_upd,t.look]
  by_cases e:j=k
  ·subst e
   rw[if_pos rfl,if_pos sM,List.count_append]
   simp
  ·rw[if_neg e]
   by_cases h:j∈l
   ·rw[if_pos h,if_pos (by simp[h]),List.count_append]
    have:[k].count j=0:=List.count_eq_zero_of_not_mem (by simpa using e)
    rw[this,Nat.add_zero]
   ·rw[if_neg h,if_neg (by simp[h,e])]
 ·have:=upd_len (k:=k) (v:=.int .i64 ((l.count k+1:Nat):Int)) L
  have:=t.few
  rw[List.length_append,List.length_singleton];omega
theorem Tally.mem{l:List Int}{L:List (Int×Value)}(t:Tally l L)(k:Int):k∈L.map (·.1)↔k∈l:=by
 constructor
 ·intro h
  obtain⟨p,hp,rfl⟩:=List.mem_map.1 h
  have h1:look2 p.1 L≠none:=fun e=>look2_none.1 e p.2 hp
  rw[t.look]at h1
  split at h1
  ·assumption
  ·exact absurd rfl h1
 ·intro h
  cases hk:look2 k L with
  | none=>have:=t.look k;rw[hk,if_pos h]at this;cases this
  | some v =>
   refine Classical.byContradiction fun hn=>?_
   have:look2 k L=none:=look2_none.2 fun v hv=>hn (List.mem_map.2 ⟨(k,v),hv,rfl⟩)
   rw[hk]at this;cases this
theorem sorted_nat{L':List Int}(hp:∀k∈L',0<=k)(hn:L'.Nodup)(hs:L'.Pairwise (· <= ·)):(L'.map Int.toNat).Nodup/\∀(k:Nat),k∈L'.map Int.toNat↔(k:Int)∈L':=by
 constructor
 ·refine List.pairwise_map.2 (hn.imp_of_mem fun {a b} ha hb hne e=>hne ?_)
  have:=hp a ha;have:=hp b hb
  omega
 ·intro k
  constructor
  ·intro h
   obtain⟨j,hj,rfl⟩:=List.mem_map.1 h
   have:=hp j hj
   rw[Int.toNat_of_nonneg this];exact hj
  ·intro h
   exact List.mem_map.2 ⟨_,h,Int.toNat_natCast k⟩
end
section
def cntZ(cl:List Int)(k:Nat):Nat:=cl.count (k:Int)
def Inr(g:Gm)(cl:List Int):Prop:=∀k∈cl,0<=k/\k<g.room
structure Asked (g:Gm) (by_:Int) (cl:List Int) (B:List UInt8) (ks bs:List Nat):Prop where
 by1:by_=1\/by_ = -1
 inr:Inr g cl
 mem:∀k,k∈ks↔(k:Int)∈cl
 bnd:bs.Nodup
 bmem:∀i,i∈bs↔∃k∈ks,k/g.n=i
 ad:Adds g by_ (cntZ cl) ks B
theorem Gm.cnt_lt{g:Gm}(B:List UInt8)(k:Nat):g.cnt B k<2^g.w:=by
 unfold Gm.cnt
 split
 ·exact Nat.pow_pos omg
 ·exact Vc.cnt_lt _ _ _
theorem asked_of{g:Gm}{x:Hd}{B:List UInt8}{by_:Int}{cl ks bs:List Int}(kk:g.ok)(I:Img g x B)(hby:by_=1\/by_ = -1)(hin:Inr g cl)(hmem:∀k,k∈ks↔k∈cl)(hnd:ks.Nodup)(hsk:ks.Pairwise (· <= ·))(hmb:∀i,i∈bs↔∃k∈ks,k/((g.n:Nat):Int)=i)(hndb:bs.Nodup)(hsb:bs.Pairwise (· <= ·))
 (hfit1:by_=1->∀k∈ks,g.cnt B k.toNat+cl.count k<2^g.w) (hfit2:by_ = -1->∀k∈ks,cl.count k<=g.cnt B k.toNat)
 (hroom:by_=1->Inr g cl->∀k:Nat,(k:Int)∈cl->g.word B (k/g.n)=0->g.pl (k/g.n)+g.c<=268435456/\k%g.n≠0) (hcov:by_ = -1->∀k:Nat,(k:Int)∈cl->g.hold B k->cntZ cl k<g.cnt B k) :
 Asked g by_ cl B (ks.map Int.toNat) (bs.map Int.toNat)/\(∀i∈bs,0<=i):=by
 have hn:=kk.n64
 have hk0:∀k∈ks,0<=k:=fun k hk=>(hin k ((hmem k).1 hk)).1
 have hb0:∀i∈bs,0<=i:=fun i hi=>by
  obtain⟨k,hk,rfl⟩:=(hmb i).1 hi
  exact Int.ediv_nonneg (hk0 k hk) omg
 obtain⟨n1,m1⟩:=sorted_nat hk0 hnd hsk
 obtain⟨n2,m2⟩:=sorted_nat hb0 hndb hsb
 have fitA:∀k∈ks.map Int.toNat,0<=((g.cnt B k:Nat):Int)+by_*(cntZ cl k:Nat)/\((g.cnt B k:Nat):Int)+by_*(cntZ cl k:Nat)<(2^g.w:Nat):=fun k hk=>by
  have hk1:=(m1 k).1 hk
  have hlt:=Gm.cnt_lt (g:=g) B k
  generalize 2^g.w=W at *
  rcases hby with rfl|rfl
  ·have:=hfit1 rfl _ hk1
   rw[Int.toNat_natCast]at this
   unfold cntZ
   omega
  ·have:=hfit2 rfl _ hk1
   rw[Int.toNat_natCast]at this
   unfold cntZ
   omega
 refine⟨⟨hby,hin,fun k=>by rw[m1,hmem],n2,fun i=>?_,⟨n1,fun k hk=>?_,fun k hk hw=>?_,fitA,fun k hk hh=>?_⟩⟩,hb0⟩
 ·rw[m2,hmb]
  constructor
  ·rintro⟨k,hk,he⟩
   have:=hk0 k hk
   refine⟨k.toNat,List.mem_map.2 ⟨k,hk,rfl⟩,?_⟩
   have h1:((k.toNat:Nat):Int)/((g.n:Nat):Int)=(i:Int):=by rw[Int.toNat_of_nonneg this];exact he
   rw[<-Int.natCast_ediv]at h1
   exact_mod_cast h1
  ·rintro⟨k,hk,he⟩
   refine⟨(k:Int),(m1 k).1 hk,?_⟩
   rw[<-Int.natCast_ediv,he]
 ·have h1:=(hin _ ((hmem _).1 ((m1 k).1 hk))).2
  rw[Nat.div_lt_iff_lt_mul omg]
  have:k<g.room:=by omega
  exact this
 ·have hkc:=(hmem _).1 ((m1 k).1 hk)
  rcases hby with rfl|rfl
  ·exact hroom rfl hin k hkc hw
  ·exfalso
   have h1:=(fitA k hk).1
   have h2:g.cnt B k=0:=by unfold Gm.cnt;rw[if_pos hw]
   have h3:0<cntZ cl k:=List.count_pos_iff.2 hkc
   rw[h2]at h1
   omega
 ·have hkc:=(hmem _).1 ((m1 k).1 hk)
  rcases hby with rfl|rfl
  ·have:=I.cov k hh
   omega
  ·have:=hcov rfl k hkc hh
   omega
theorem addB_snoc{g:Gm}{by_:Int}{T:Nat->Nat}{i k:Nat}{ks:List Nat}{b:List UInt8}:addB g by_ T i (ks++[k]) b=if k/g.n=i then setC (addB g by_ T i ks b) g.w (k%g.n) (((Vc.cnt (addB g by_ T i ks b) g.w (k%g.n):Nat):Int)+by_*(T k:Nat)).toNat else addB g by_ T i ks b:=by
 unfold addB
 rw[List.foldl_append];rfl
theorem Mid.turn{g:Gm}{x:Hd}{by_:Int}{T:Nat->Nat}{ks:List Nat}{B:List UInt8}{D:List Nat}{i:Nat}{B':List UInt8}(kk:g.ok)(Ad:Adds g by_ T ks B)(M:Mid g x by_ T ks B D i B')(hi:i<g.m)(hD:i∉D){j:Nat}(hj:j<ks.length)(hq:ks[j]/g.n=i) :
 Vc.cnt (addB g by_ T i (ks.take j) (g.blk B' i)) g.w (ks[j]%g.n)=g.cnt B ks[j]:=by
 have hl:=blk_len M.img hi M.wi
 have hcb:∀q,q/g.n=i->Vc.cnt (g.blk B' i) g.w (q%g.n)=g.base B q:=fun q hq=>by
  have:=M.cnt q (by rw[hq];exact hi)
  have h0:¬q/g.n∈D:=by rw[hq];exact hD
  rw[if_neg h0,if_pos hq]at this
  have h2:g.cnt B' q=g.base B q:=by exact_mod_cast this
  unfold Gm.cnt at h2
  rw[hq,if_neg M.wi]at h2
  exact h2
 have hbase:∀q,q∈ks->g.base B q=g.cnt B q:=fun q hq=>by
  unfold Gm.base
  rw[if_neg]
  rintro⟨h1,h2⟩
  exact (Ad.room q hq h1).2 h2
 have hmem:=List.getElem_mem hj
 have hno:ks[j]∉ks.take j:=fun h=>by
  obtain⟨t,ht,he⟩:=List.mem_iff_getElem.1 h
  rw[List.getElem_take]at he
  rw[List.length_take]at ht
  have:=List.pairwise_iff_getElem.1 Ad.nd t j omg hj omg
  exact this he
 have:=addB_cnt kk (by_:=by_) (T:=T) (i:=i) (ks.take j) (g.blk B' i) (Ad.nd.sublist (List.take_sublist _ _)) hl (fun q hq hqi=>by
  rw[hcb q hqi,hbase q (List.mem_of_mem_take hq)];exact Ad.fit q (List.mem_of_mem_take hq)) ks[j] hq
 rw[if_neg hno,hcb _ hq,hbase _ hmem]at this
 have h2:((Vc.cnt (addB g by_ T i (ks.take j) (g.blk B' i)) g.w (ks[j]%g.n):Nat):Int)=((g.cnt B ks[j]:Nat):Int):=by rw[this];omega
 exact_mod_cast h2
theorem nodup_sub:∀(l m:List Nat),l.Nodup->(∀x∈l,x∈m)->l.length<=m.length
 | [],_,_,_=>Nat.zero_le _
 | a::l,m,hn,hs=>by
  have hc:=List.nodup_cons.1 hn
  have ha:=hs a List.mem_cons_self
  have:=nodup_sub l (m.erase a) hc.2 (fun x hx=>by
   have hne:x≠a:=fun e=>by rw[e]at hx;exact hc.1 hx
   exact (List.mem_erase_of_ne hne).2 (hs x (List.mem_cons_of_mem _ hx)))
  rw[List.length_erase_of_mem ha]at this
  have:=List.length_pos_of_mem ha
  rw[List.length_cons];omega
theorem Asked.few{g:Gm}{by_:Int}{cl:List Int}{B:List UInt8}{ks bs:List Nat}(Q:Asked g by_ cl B ks bs):bs.length<=cl.length:=by
 have:=nodup_sub bs (cl.map fun k=>k.toNat/g.n) Q.bnd (fun i hi=>by
  obtain⟨k,hk,rfl⟩:=(Q.bmem i).1 hi
  exact List.mem_map.2 ⟨(k:Int),(Q.mem k).1 hk,by rw[Int.toNat_natCast]⟩)
 rw[List.length_map]at this
 exact this
theorem Asked.all{g:Gm}{x:Hd}{by_:Int}{cl:List Int}{p:Fs}{ks bs:List Nat}(kk:g.ok)(o:p.f.ok)(I:Img g x p.f.now)(Q:Asked g by_ cl p.f.now ks bs) :
 Stp1 p (addF g by_ (cntZ cl) ks bs p).1 (cl.length*(5+g.c/512))/\(p.fates=[]->(addF g by_ (cntZ cl) ks bs p).2=0)/\((addF g by_ (cntZ cl) ks bs p).2=0->∃D',(∀i,i∈D'↔i∈bs)/\After g x by_ (cntZ cl) ks p.f.now D' (addF g by_ (cntZ cl) ks bs p).1.f.now):=by
 obtain⟨h1,h2,h3⟩:=addF_all kk Q.ad bs [] p o (.zero I) Q.bnd (fun i hi=>by
  obtain⟨k,hk,he⟩:=(Q.bmem i).1 hi
  exact⟨List.not_mem_nil,he▸Q.ad.lt k hk,k,hk,he⟩)
 refine⟨h1.mono (Nat.mul_le_mul_right _ Q.few),h2,fun h=>?_⟩
 obtain⟨D',h4,h5⟩:=h3 h
 exact⟨D',fun i=>by rw[h4];simp,h5⟩
end
section
variable {K:VP}{h:Heap}
theorem look_t{m:Nat}{L:List (Int×Value)}{l:List Int}{q:Bool}{k:Int}(hm:MapK ik h m L)(t:Tally l L):Hp Tryz.prog q (Instr.lookup 104 (.map (some m)) (.int .i64 k) false) K h ⟨⟩↔K (.int .i64 (l.count k:Nat)) h:=by
 rw[show (.int .i64 k:Value)=ik k from rfl,Hp_lookup timesKey (z:=.int .i64 0) kR hm,if_neg dM,t.get]
theorem look_b{m:Nat}{L:List (Int×Value)}{l:List Int}{q:Bool}{k:Int}(hm:MapK ik h m L)(t:Tally l L):Hp Tryz.prog q (Instr.lookup 110 (.map (some m)) (.int .i64 k) false) K h ⟨⟩↔K (.int .i64 (l.count k:Nat)) h:=by
 rw[show (.int .i64 k:Value)=ik k from rfl,Hp_lookup blocksKey (z:=.int .i64 0) kR hm,if_neg dM,t.get]
theorem gWrite2_c{o sp:Nat}{g:Gm}{x:Hd}{s:St}{p:Fs}{at_ n Q b1 o1 c1 b2 o2 c2:Nat}{was is:List UInt8}(hn:n=512*Q)(a:RA h o sp g x s p)(hwl:was.length=n)(hil:is.length=n)
 (hW:Bytes h (.slice (some ⟨b1,o1,none⟩) n c1) was) (hI:Bytes h (.slice (some ⟨b2,o2,none⟩) n c2) is) (n1:¬s.foot sp b1) (n2:¬s.foot sp b2) (l1:b1<h.size) (l2:b2<h.size) (hs:p.steps+Q<1000000) (hf:at_+n<=268435456)
 (H:∀h' s',SUpd h h' sp s s'->FsAt s' (wrF at_ was is Q 0 p).1->K (.int .i64 (wrF at_ was is Q 0 p).2) h') :
 CallsH Tryz.prog 53 #[ptrV o,.int .i64 (at_:Nat),.slice (some ⟨b1,o1,none⟩) n c1,.slice (some ⟨b2,o2,none⟩) n c2] h K ⟨⟩:=by
 subst hn
 exact gWrite_c a hwl hil hW hI n1 n2 l1 l2 hs hf H
theorem gCAdd_c{g:Gm}(kk:g.ok){B cc j:Nat}{v:Int}{l:List UInt8}(hO:OwnS 1 h (.slice (some ⟨B,0,none⟩) g.c cc) (l.map byteV))(hl:l.length=g.c)(hj:j<g.n)(hv : -9223372036854775808<=v/\v<9223372036854775808)
 (f0:0<=((Vc.cnt l g.w j:Nat):Int)+v) (f1:((Vc.cnt l g.w j:Nat):Int)+v<(2^g.w:Nat))
 (H:∀h' r,Mod (· = B) h h'->OwnS 1 h' (.slice (some ⟨B,0,none⟩) g.c cc) ((setC l g.w j (((Vc.cnt l g.w j:Nat):Int)+v).toNat).map byteV)->K r h') :
 CallsH Tryz.prog 52 #[.slice (some ⟨B,0,none⟩) g.c cc,.int .i64 (g.o:Nat),.int .i64 (j:Nat),.int .i64 v] h K ⟨⟩:=by
 obtain⟨n,hn⟩:∃n,g.c=n:=⟨_,rfl⟩
 have ha:=kk.ask0 hj
 have hg:=kk.getC_ hl hj
 have hw:=kk.wd_w
 rw[hn]at hO hl ha ⊢
 rw[hn]at H
 subst hl
 have hO':OwnS 1 h (.slice (some ⟨B,0,none⟩) l.length cc) ((l++[]).map byteV):=by rw[List.append_nil];exact hO
 have he:addCE l ((g.o:Nat):Int) ((j:Nat):Int) v=0:=by
  unfold addCE
  rw[ha,if_pos rfl,hg,hw,if_pos ⟨f0,f1⟩]
 refine CAdd_c hO' (by have:=kk.room_lt;omega) hv (fun h1 e1 hne=>absurd he hne) (fun h1 h2 e1 _ _ _ _ o2 m2=>?_)
 rw[hg,hw,Int.toNat_natCast,List.append_nil]at o2
 exact H h2 _ ((Mod.of_ext e1).trans m2 (fun _ _ h=>h)) o2
set_option maxHeartbeats 16000000 in
theorem gAdd_c{o sp:Nat}{g:Gm}{x:Hd}{s:St}{p:Fs}{by_:Int}{cl:List Int}{va:Option Addr}{vn vc:Nat}(a:RA h o sp g x s p)(I:Img g x p.f.now)(hb : -9223372036854775808<=by_/\by_<9223372036854775808)(ov:OwnG i6T 1 h (.slice va vn vc) (cl.map ik))(hcl:cl.length<=1000)
 (hci:∀k∈cl,-9223372036854775808<=k/\k<9223372036854775808) (hroom:by_=1->Inr g cl->∀k:Nat,(k:Int)∈cl->g.word p.f.now (k/g.n)=0->g.pl (k/g.n)+g.c<=268435456/\k%g.n≠0) (hcov:by_ = -1->∀k:Nat,(k:Int)∈cl->g.hold p.f.now k->cntZ cl k<g.cnt p.f.now k)
 (hs:p.steps+cl.length*(5+g.c/512)+1<1000000)
 (H2:∀h',Ext h h'->by_≠1->by_ ≠ -1->K (.int .i64 2) h')
 (H4:∀h',Ext h h'->(by_=1\/by_ = -1)->¬Inr g cl->K (.int .i64 4) h')
 (H9:∀h',Ext h h'->by_ = -1->Inr g cl->(∃k:Nat,(k:Int)∈cl/\g.cnt p.f.now k<cntZ cl k)->K (.int .i64 9) h')
 (H6:∀h',Ext h h'->by_=1->Inr g cl->(∃k:Nat,(k:Int)∈cl/\2^g.w<=g.cnt p.f.now k+cntZ cl k)->K (.int .i64 6) h')
 (H:∀h' s' ks bs,Asked g by_ cl p.f.now ks bs->SUpd h h' sp s s'->FsAt s' (addF g by_ (cntZ cl) ks bs p).1->K (.int .i64 (addF g by_ (cntZ cl) ks bs p).2) h') :
 CallsH Tryz.prog 15 #[ptrV o,.int .i64 by_,.slice va vn vc] h K ⟨⟩:=by
 refine n15_calls ?_
 unfold n15;try delta vF vG vC vD vJ vV vk vt
 refine gNone_c a.rg ?_
 by_cases hby:¬(by_=1\/by_ = -1)
 ·have h1:¬by_=1:=fun e=>hby (.inl e)
  have h2:¬by_ = -1:=fun e=>hby (.inr e)
  simp(disch:=omega)[h1,h2]
  exact H2 h (.refl h) h1 h2
 replace hby:=Classical.not_not.1 hby
 have c0:=cellOf (i:=0) a.rg rfl
 have c1:=cellOf (i:=1) a.rg rfl
 have hbb:(by_=1\/¬by_=1/\by_ = -1):=by omega
 have hvn:vn=cl.length:=by
  obtain⟨a1,n1,c1,e,hl,-,-⟩:=ov.form
  injection e with e1 e2 e3
  rw[List.length_map]at hl;omega
 subst hvn
 unfold ptrV at c0 ⊢
 have hnn:=a.ok.n64
 have hrl:=a.ok.room_lt
 rcases hbb with rfl|⟨-,rfl⟩
 ·skip
  simp(disch:=omega)[c0,c1]
  rw[show (.pointer (some ⟨sp,0,none⟩):Value)=ptrV sp from rfl,show (.pointer (some ⟨o,0,none⟩):Value)=ptrV o from rfl]
  refine sSize_c a.st a.fs fun h1 e1=>?_
  have a1:=a.ext e1
  simp(disch:=omega)
  rw[Hp_makeMap]
  simp(disch:=omega)
  obtain⟨h2,hh2⟩:∃X,X=h1.push (.map #[] 0):=⟨_,rfl⟩
  have e2:Ext h1 h2:=by rw[hh2];exact extS
  have hm0:MapK ik h2 h1.size []:=by rw[hh2];exact MapK.new rfl
  rw[<-hh2]
  clear hh2
  refine loopX1 (α:=Nat×List (Int×Value)) (fun z=>.int .i64 z.1) (fun z G=>z.1<=cl.length/\Mod (· = h1.size) h2 G/\MapK ik G h1.size z.2/\Tally (cl.take z.1) z.2/\∀k∈cl.take z.1,0<=k/\k<g.room) (fun z=>cl.length-z.1) (0,[]) rfl ⟨Nat.zero_le _,.refl _ _,hm0,.nil,fun k hk=>by cases hk⟩ ?_
  rintro⟨j,L⟩ G ⟨hj,mG,hm,ht,hin⟩ X hX
  dsimp only at hj mG hm ht hin hX ⊢
  have eG:Ext h1 G:=mG.ext_from e2 (fun b hb e=>by omega)
  have aG:=a1.ext eG
  by_cases hjl:j<cl.length
  ·obtain⟨b,o2,rfl⟩:∃b o2,va=some ⟨b,o2,none⟩:=by
    obtain⟨a2,n2,c2,e,-,-,hne⟩:=ov.form
    injection e with e1 _ _
    obtain⟨b,o2,hh⟩:=hne (fun e=>by rw[List.map_eq_nil_iff]at e;rw[e]at hjl;exact absurd hjl (Nat.not_lt_zero _))
    exact⟨b,o2,e1.trans hh⟩
   have hc:=((ov.ext (e1.trans eG)).cell (i:=j) (by rw[List.length_map];exact hjl)).1
   rw[List.getElem_map]at hc
   have hmem:=List.getElem_mem hjl
   have hki:=hci _ hmem
   have htk:cl.take (j+1)=cl.take j++[cl[j]]:=List.take_succ_eq_append_getElem hjl
   have hcle:(cl.take j).length<=cl.length:=by rw[List.length_take];omega
   obtain⟨k,hk⟩:∃k,cl[j]=k:=⟨_,rfl⟩
   rw[hk]at hc hmem hki htk
   have hc:hcell G (elt ⟨b,o2,none⟩ j)=some (.int .i64 k):=hc
   have hct:(cl.take j).count k<=(cl.take j).length:=List.count_le_length
   by_cases k0:k<0
   ·simp(disch:=omega)[hc,k0]
    exact H4 G (e1.trans eG) (.inl rfl) (fun hh=>by have:=(hh k hmem).1;omega)
   simp(disch:=omega)[hc,k0]
   refine gRoom_c aG.rg a.ok a.hd ?_
   by_cases k1:¬k<g.room
   ·simp(disch:=omega)[k0,k1]
    exact H4 G (e1.trans eG) (.inl rfl) (fun hh=>k1 (hh k hmem).2)
   replace k1:=Classical.not_not.1 k1
   have hsn:(((cl.take j).count k:Nat):Int)+1=(((cl.take j).count k+1:Nat):Int):=by omega
   obtain⟨CT,hCT⟩:∃C,(cl.take j).count k=C:=⟨_,rfl⟩
   rw[hCT]at hsn hct
   have hlk:=fun (q:Bool) (K:VP)=>look_t (K:=K) (q:=q) (k:=k) hm ht
   simp only[hCT]at hlk
   have k1':¬k>=g.room:=by omega
   simp(disch:=omega)[k0,k1,k1',hlk]
   refine Hp_mapUpdate timesKey (k:=k) hm fun G2 hm2 m2=>?_
   simp(disch:=omega)
   have ht2:=ht.snoc k
   rw[hCT,<-htk]at ht2
   rw[hsn]at hm2
   refine hX (j+1,_) _ _ sM ⟨by omega,mG.trans m2 (fun _ _ h=>h),hm2,ht2,fun q hq=>?_⟩ (by dsimp only;omega)
   rw[htk]at hq
   rcases List.mem_append.1 hq with hq|hq
   ·exact hin q hq
   ·rw[List.mem_singleton.1 hq];omega
  obtain rfl:j=cl.length:=by omega
  rw[List.take_length]at ht hin
  simp(disch:=omega)
  refine keysKeyN_c fun g1 f1 hk1=>?_
  refine sortedKeyN_c hk1 (hm.ext f1) (by have:=ht.few;omega) fun g2 v2 ks f2 hp2 hs2 o2 fr2=>?_
  have hmemk:∀k,k∈ks↔k∈cl:=fun k=>by rw[hp2.mem_iff];exact ht.mem k
  have hndk:ks.Nodup:=hp2.nodup_iff.2 hm.nodup
  have hkl:ks.length<=cl.length:=by have:=hp2.length_eq;rw[List.length_map]at this;have:=ht.few;omega
  have hkin:∀k∈ks,0<=k/\k<g.room:=fun k hk=>hin k ((hmemk k).1 hk)
  have hinr:Inr g cl:=hin
  have a2:=aG.ext (f1.trans f2)
  have hm2:=hm.ext (f1.trans f2)
  have c7:=cellOf (i:=7) a2.rg rfl
  rw[a.hd.order]at c7
  unfold ptrV
  simp(disch:=omega)[c7]
  rw[show (.pointer (some ⟨o,0,none⟩):Value)=ptrV o from rfl]
  refine Most_c fun g3 f3=>?_
  have hw64:=a.ok.w64
  rw[a.ok.wd_w,if_neg omg]
  have a3:=a2.ext f3
  have hm3:=hm2.ext f3
  have o3:=o2.ext f3
  have E3:Ext h g3:=e1.trans (eG.trans (f1.trans (f2.trans f3)))
  obtain⟨TOP,hTOP⟩:∃T,2^g.w-1=T:=⟨_,rfl⟩
  have htop:TOP<18446744073709551616/\TOP+1=2^g.w:=by
   have h1:2^g.w<=2^64:=Nat.pow_le_pow_right omg hw64.2
   have h2:1<=2^g.w:=Nat.one_le_two_pow
   have h3:(2:Nat)^64=18446744073709551616:=by decide
   omega
  rw[hTOP]
  obtain⟨va2,vn2,vc2,rfl,hvl2,hvc2,hvb2⟩:=o3.g.form
  have hvn2:vn2=ks.length:=by rw[List.length_map]at hvl2;omega
  subst hvn2
  have hkcell:∀G,Ext g3 G->∀j (hj:j<ks.length),∃b o2,va2=some ⟨b,o2,none⟩/\hcell G (elt ⟨b,o2,none⟩ j)=some (.int .i64 ks[j]):=fun G eG j hj=>by
   obtain⟨b,ob,rfl⟩:=hvb2 (fun e=>by rw[List.map_eq_nil_iff]at e;rw[e]at hj;exact absurd hj (Nat.not_lt_zero _))
   refine⟨b,ob,rfl,?_⟩
   have:=((o3.ext eG).g.cell (i:=j) (by rw[List.length_map];exact hj)).1
   rw[List.getElem_map]at this
   exact this
  have hctl:∀k:Int,cl.count k<=cl.length:=fun k=>List.count_le_length
  simp(disch:=omega)
  refine loopX2 (α:=Nat×Bool) (fun z=>.bool z.2) (fun z=>.int .i64 z.1) (fun z G=>z.1<=ks.length/\Ext g3 G/\(z.2=true↔∃i,∃hi:i<ks.length,i<z.1/\2^g.w<=g.cnt p.f.now (ks[i]).toNat+cl.count ks[i])) (fun z=>ks.length-z.1) (0,false) ⟨rfl,rfl⟩ ⟨Nat.zero_le _,.refl _,?_⟩ ?_
  ·constructor
   ·intro hh;cases hh
   ·rintro⟨i,_,hi,_⟩;omega
  rintro⟨j,full⟩ G2 ⟨hj,eG2,hfu⟩ X hX
  dsimp only at hj eG2 hfu hX ⊢
  by_cases hjl:j<ks.length
  ·obtain⟨b,ob,rfl,hc⟩:=hkcell G2 eG2 j hjl
   have hkj:=hkin _ (List.getElem_mem hjl)
   obtain⟨k,hk⟩:∃k,ks[j]=k:=⟨_,rfl⟩
   rw[hk]at hc hkj
   simp(disch:=omega)[hc]
   refine gCount_c (a3.ext eG2) I (fun g4 e4 hno=>absurd hkj hno) (fun g4 e4 _ _=>?_)
   have hct:=hctl k
   have hm4:=hm3.ext (eG2.trans e4)
   obtain⟨CN,hCN⟩:∃C,g.cnt p.f.now k.toNat=C:=⟨_,rfl⟩
   have hcn:CN<2^g.w:=by
    rw[<-hCN];unfold Gm.cnt
    split
    ·exact Nat.pow_pos omg
    ·exact cnt_lt _ _ _
   rw[hCN]
   obtain⟨CT,hCT⟩:∃C,cl.count k=C:=⟨_,rfl⟩
   rw[hCT]at hct
   have hlk:=fun (q:Bool) (K:VP)=>look_t (K:=K) (q:=q) (k:=k) hm4 ht
   simp only[hCT]at hlk
   have step:∀f2:Bool,(f2=true↔full=true\/2^g.w<=CN+CT)->X (.bool f2) (.int .i64 ((j:Int)+1)) g4:=fun f2 hf2=>by
    refine hX (j+1,f2) _ _ _ rfl sM ⟨by omega,eG2.trans e4,?_⟩ (by dsimp only;omega)
    rw[hf2,hfu]
    constructor
    ·rintro (⟨i,hi,h1,h2⟩|h2)
     ·exact⟨i,hi,by omega,h2⟩
     ·exact⟨j,hjl,by omega,by rw[hk,hCN,hCT];exact h2⟩
    ·rintro⟨i,hi,h1,h2⟩
     by_cases e:i=j
     ·subst e
      rw[hk,hCN,hCT]at h2
      exact .inr h2
     ·exact .inl ⟨i,hi,by omega,h2⟩
   cases full with
   | true =>
    simp(disch:=omega)
    exact step true sM
   | false =>
    by_cases hle:2^g.w<=CN+CT
    ·have hlt:((TOP:Nat):Int)-(CN:Int)<(CT:Int):=by omega
     simp(disch:=omega)[hlk,hlt]
     exact step true (by simp[hle])
    ·have hlt:¬((TOP:Nat):Int)-(CN:Int)<(CT:Int):=by omega
     simp(disch:=omega)[hlk,hlt]
     exact step false (by simp;omega)
  obtain rfl:j=ks.length:=by omega
  simp(disch:=omega)
  have hall:∃hh:full=true\/full=false,True:=⟨by cases full<;>simp,trivial⟩
  rcases hall with ⟨rfl|rfl,-⟩
  ·obtain⟨i,hi,-,hle⟩:=hfu.1 rfl
   have hki:=hkin _ (List.getElem_mem hi)
   have hmi:=(hmemk _).1 (List.getElem_mem hi)
   simp(disch:=omega)
   refine H6 G2 (E3.trans eG2) rfl hinr ⟨(ks[i]).toNat,?_,?_⟩
   ·rw[Int.toNat_of_nonneg hki.1];exact hmi
   ·unfold cntZ;rw[Int.toNat_of_nonneg hki.1];exact hle
  have hfit:∀i (hi:i<ks.length),g.cnt p.f.now (ks[i]).toNat+cl.count ks[i]<2^g.w:=fun i hi=>by
   refine Nat.not_le.1 fun hle=>?_
   exact absurd (hfu.2 ⟨i,hi,hi,hle⟩) sM
  simp(disch:=omega)
  have hfit1:(1:Int)=1->∀k∈ks,g.cnt p.f.now k.toNat+cl.count k<2^g.w:=fun _ k hk=>by
   obtain⟨i,hi,rfl⟩:=List.mem_iff_getElem.1 hk
   exact hfit i hi
  rw[Hp_makeMap]
  simp(disch:=omega)
  have a4:=a3.ext eG2
  obtain⟨h5,hh5⟩:∃X,X=G2.push (.map #[] 0):=⟨_,rfl⟩
  have e5:Ext G2 h5:=by rw[hh5];exact extS
  have hmb:MapK ik h5 G2.size []:=by rw[hh5];exact MapK.new rfl
  rw[<-hh5]
  clear hh5
  refine loopX1 (α:=Nat×List (Int×Value)) (fun z=>.int .i64 z.1) (fun z G=>z.1<=ks.length/\Mod (· = G2.size) h5 G/\MapK ik G G2.size z.2/\Tally ((ks.take z.1).map (· / (g.n:Int))) z.2) (fun z=>ks.length-z.1) (0,[]) rfl ⟨Nat.zero_le _,.refl _ _,hmb,.nil⟩ ?_
  rintro⟨j,L2⟩ G3 ⟨hj,mG3,hmb,htb⟩ X hX
  dsimp only at hj mG3 hmb htb hX ⊢
  have eG3:Ext G2 G3:=mG3.ext_from e5 (fun b hb e=>by omega)
  have a5:=a4.ext eG3
  by_cases hjl:j<ks.length
  ·obtain⟨b,ob,rfl,hc⟩:=hkcell G3 (eG2.trans eG3) j hjl
   have hkj:=hkin _ (List.getElem_mem hjl)
   have htk:ks.take (j+1)=ks.take j++[ks[j]]:=List.take_succ_eq_append_getElem hjl
   obtain⟨k,hk⟩:∃k,ks[j]=k:=⟨_,rfl⟩
   rw[hk]at hc hkj htk
   have c18:=cellOf (i:=18) a5.rg rfl
   obtain⟨KD,hKD⟩:∃D,k/((g.n:Nat):Int)=D:=⟨_,rfl⟩
   obtain⟨CT,hCT⟩:∃C,((ks.take j).map (· / (g.n:Int))).count KD=C:=⟨_,rfl⟩
   have hct:CT<=ks.length:=by
    rw[<-hCT]
    refine Nat.le_trans List.count_le_length ?_
    rw[List.length_map,List.length_take];omega
   have hlk:=fun (q:Bool) (K:VP)=>look_b (K:=K) (q:=q) (k:=KD) hmb htb
   simp only[hCT]at hlk
   unfold ptrV
   simp(disch:=omega)[hc,c18,hKD,hlk]
   refine Hp_mapUpdate blocksKey (k:=KD) hmb fun G4 hm4 m4=>?_
   simp(disch:=omega)
   have ht2:=htb.snoc KD
   rw[hCT,show (ks.take j).map (· / (g.n:Int))++[KD]=(ks.take (j+1)).map (· / (g.n:Int)) by rw[htk,List.map_append,List.map_singleton,hKD]]at ht2
   rw[show ((CT:Nat):Int)+1=((CT+1:Nat):Int) by omega]at hm4
   exact hX (j+1,_) _ _ sM ⟨by omega,mG3.trans m4 (fun _ _ h=>h),hm4,ht2⟩ (by dsimp only;omega)
  obtain rfl:j=ks.length:=by omega
  rw[List.take_length]at htb
  simp(disch:=omega)
  refine keysKeyI_c fun g6 f6 hk6=>?_
  refine sortedKeyI_c hk6 (hmb.ext f6) (by have:=htb.few;rw[List.length_map]at this;omega) fun g7 v7 bs f7 hp7 hs7 o7 fr7=>?_
  have hmemb:∀i,i∈bs↔∃k∈ks,k/((g.n:Nat):Int)=i:=fun i=>by
   rw[hp7.mem_iff,htb.mem,List.mem_map]
  have hndb:bs.Nodup:=hp7.nodup_iff.2 hmb.nodup
  have hbl:bs.length<=cl.length:=by have:=hp7.length_eq;rw[List.length_map]at this;have:=htb.few;rw[List.length_map]at this;omega
  have a7:=a5.ext (f6.trans f7)
  have eK7:=eG2.trans (eG3.trans (f6.trans f7))
  have hm7:=hm3.ext eK7
  have E7:=E3.trans eK7
  obtain⟨va7,vn7,vc7,rfl,hvl7,hvc7,hvb7⟩:=o7.g.form
  have hvn7:vn7=bs.length:=by rw[List.length_map]at hvl7;omega
  subst hvn7
  have hbcell:∀j (hj:j<bs.length),∃b ob,va7=some ⟨b,ob,none⟩/\hcell g7 (elt ⟨b,ob,none⟩ j)=some (.int .i64 bs[j]):=fun j hj=>by
   obtain⟨b,ob,rfl⟩:=hvb7 (fun e=>by rw[List.map_eq_nil_iff]at e;rw[e]at hj;exact absurd hj (Nat.not_lt_zero _))
   refine⟨b,ob,rfl,?_⟩
   have:=(o7.g.cell (i:=j) (by rw[List.length_map];exact hj)).1
   rw[List.getElem_map]at this
   exact this
  have hkcell7:∀j (hj:j<ks.length),∃b ob,va2=some ⟨b,ob,none⟩/\hcell g7 (elt ⟨b,ob,none⟩ j)=some (.int .i64 ks[j]):=fun j hj=>hkcell g7 eK7 j hj
  simp(disch:=omega)
  obtain⟨Q,hb0⟩:=asked_of a.ok I hby hinr hmemk hndk hs2 hmemb hndb hs7 hfit1 (fun e=>absurd e dM) hroom hcov
  have Ad:=Q.ad
  have nfoot:∀b,h.size<=b->¬s.foot sp b:=fun b hb e=>by have:=a.st.lt e;omega
  have hsz1:=e1.size
  have hszG:=eG.size
  have hsz7:=f7.size
  have hsz6:=f6.size
  have hszG3:=eG3.size
  have hszG2:=eG2.size
  have hszf3:=f3.size
  have hszf2:=f2.size
  have hszf1:=f1.size
  obtain⟨KS,hKS⟩:∃l,l=ks.map Int.toNat:=⟨_,rfl⟩
  obtain⟨BS,hBS⟩:∃l,l=bs.map Int.toNat:=⟨_,rfl⟩
  rw[<-hKS,<-hBS]at Q
  rw[<-hKS]at Ad
  have hBl:BS.length=bs.length:=by rw[hBS,List.length_map]
  have hKl:KS.length=ks.length:=by rw[hKS,List.length_map]
  obtain⟨q,hq,hq1,hq2⟩:=a.ok.c512
  obtain⟨W,hW⟩:∃W,5+g.c/512=W:=⟨_,rfl⟩
  have hWmul:bs.length*W<=cl.length*W:=Nat.mul_le_mul_right _ hbl
  rw[hW]at hs
  refine loopX1 (α:=Nat×St×Fs×List Nat) (fun z=>.int .i64 z.1) (fun z G=>z.1<=bs.length/\SUpd g7 G sp s z.2.1/\FsAt z.2.1 z.2.2.1/\z.2.2.1.f.ok/\After g x 1 (cntZ cl) KS p.f.now z.2.2.2 z.2.2.1.f.now/\(∀i,i∈z.2.2.2↔i∈BS.take z.1)/\addF g 1 (cntZ cl) KS (BS.drop z.1) z.2.2.1=addF g 1 (cntZ cl) KS BS p/\z.2.2.1.steps<=p.steps+z.1*W) (fun z=>bs.length-z.1) (0,s,p,[]) rfl ⟨Nat.zero_le _,.refl a7.st,a.fs,a.fok,.zero I,fun i=>by simp,rfl,Nat.le_add_right _ _⟩ ?_
  rintro⟨j,s1,p1,D⟩ G ⟨hj,u,f1',ok1,A1,hD,he,hst⟩ X hX
  dsimp only at hj u f1' ok1 A1 hD he hst hX ⊢
  have aG:=a7.upd u f1'
  by_cases hjl:¬j<bs.length
  ·obtain rfl:j=bs.length:=by omega
   simp(disch:=omega)
   rw[<-hBl,List.drop_length]at he
   have he2:addF g 1 (cntZ cl) KS BS p=(p1,0):=he.symm
   have:=H G s1 KS BS Q (u.from_ E7)
   rw[he2]at this
   exact this f1'
  replace hjl:=Classical.not_not.1 hjl
  have hkeep:∀b,h.size<=b->b<g7.size->G[b]? = g7[b]? := fun b hb hl=>u.mod.block b hl (nfoot b hb)
  obtain⟨b7,ob7,rfl,hcb⟩:=hbcell j hjl
  have hb7:g6.size<=b7:=fr7 b7 rfl
  have hb7l:b7<g7.size:=by simpa using hcell_lt hcb
  have hcbG:hcell G (elt ⟨b7,ob7,none⟩ j)=some (.int .i64 bs[j]):=(u.mod.cell (by simpa using hb7l) (by simpa using nfoot b7 omg)).trans hcb
  have hbj0:=hb0 _ (List.getElem_mem hjl)
  have hBj:BS[j]'omg=(bs[j]).toNat:=by simp only[hBS,List.getElem_map]
  obtain⟨i,hi⟩:∃i,(bs[j]).toNat=i:=⟨_,rfl⟩
  have hii:bs[j]=((i:Nat):Int):=by omega
  rw[hii]at hcbG
  rw[hi]at hBj
  have hBmem:i∈BS:=hBj▸List.getElem_mem omg
  obtain⟨q0,hq0,hq0i⟩:=(Q.bmem i).1 hBmem
  have him:i<g.m:=hq0i▸Ad.lt q0 hq0
  have hiD:i∉D:=fun hh=>by
   obtain⟨t,ht,he⟩:=List.mem_iff_getElem.1 ((hD i).1 hh)
   rw[List.getElem_take]at he
   rw[List.length_take]at ht
   have:=List.pairwise_iff_getElem.1 Q.bnd t j omg omg omg
   exact this (he.trans hBj.symm)
  have hdrop:BS.drop j=i::BS.drop (j+1):=by
   rw[List.drop_eq_getElem_cons omg,hBj]
  have htake:BS.take (j+1)=BS.take j++[i]:=by
   rw[List.take_succ_eq_append_getElem omg,hBj]
  rw[hdrop]at he
  have hbm:j*W+W<=bs.length*W:=by
   have:=Nat.mul_le_mul_right W (show j+1<=bs.length from hjl)
   rw[Nat.add_mul,Nat.one_mul]at this;exact this
  simp(disch:=omega)
  refine JoinN.mk (JoinN.mk ?_)
  simp(disch:=omega)[hcbG]
  have hstp1:=aG.st.stp
  have bwd:=A1.wd0 i him hiD
  have hfB:g.word p.f.now i=0->g.pl i+g.c<=268435456:=fun h=>hq0i▸(Ad.room q0 hq0 (by rw[hq0i];exact h)).1
  refine gTable_c aG A1.img him (fun G6 e6 hw=>?_) (fun G6 bb cc e6 hw ob hbb hcc=>?_)
  ·skip
   have hwB:g.word p.f.now i=0:=by rw[<-bwd];exact hw
   have hfit0:=hfB hwB
   have hgB:getB g i p1=mkF g i p1:=by unfold getB;rw[if_pos hw]
   have hmk:=mkF_stp a.ok ok1 him hfit0
   have aG6:=aG.ext e6
   simp(disch:=omega)
   refine JoinN.mk ?_
   simp(disch:=omega)
   refine gMake_c aG6 A1.img him hw hfit0 omg fun GX s2 u2 f2=>?_
   by_cases hm0:(mkF g i p1).2=0
   ·rw[hm0]
    have M:Mid g x 1 (cntZ cl) KS p.f.now D i (mkF g i p1).1.f.now:=by
     have:=getB_mid a.ok ok1 A1 him hiD hfB (by rw[hgB];exact hm0)
     rw[hgB]at this
     exact this
    have he3:seqF (putBk g 1 (cntZ cl) KS i::(BS.drop (j+1)).map (stepB g 1 (cntZ cl) KS)) (mkF g i p1).1=addF g 1 (cntZ cl) KS BS p:=by
     rw[<-he]
     unfold addF
     rw[List.map_cons]
     have hsb:stepB g 1 (cntZ cl) KS i p1=putBk g 1 (cntZ cl) KS i (mkF g i p1).1:=by
      unfold stepB
      rw[seqF_two (by rw[hgB];exact hm0),hgB]
     rw[seqF,seqF,hsb]
    have aX:=aG6.upd u2 f2
    have uX:=u.trans (u2.from_ e6)
    have ok2:=hmk.1.ok
    have hst2:=hmk.1.stp
    have hpst:p1.steps<=p.steps+j*W:=hst
    generalize (mkF g i p1).1=p2 at *
    clear hwB hfit0 aG6 hgB hmk hm0 f2
    simp(disch:=omega)
    refine gTable_c aX M.img him (fun _ _ hw2=>absurd hw2 M.wi) (fun G6 bb cc e6 _ ob hbb hcc=>?_)
    simp(disch:=omega)
    have hblk:=blk_len M.img him M.wi
    have hbb7:g7.size<=bb:=by have:=uX.mod.size;omega
    have hbf:¬s2.foot sp bb:=fun e=>by have:=aX.st.lt e;omega
    refine sclone_c (n:=g.c) ob.g.src ⟨_,_,rfl⟩ (one_bytes _) (by have:=a.ok.room_lt;omega) fun vw g8 e8 ow fw fw2=>?_
    have ob8:=(ob.ext e8).own
    have hbb8:bb<G6.size:=by
     obtain⟨arr,ha⟩:=ob.tag (b:=bb) rfl
     exact get_some_lt ha
    have hsz8:=e8.size
    have hsz6:=e6.size
    have hstX:=aX.st.stp
    simp(disch:=omega)
    refine loopX1 (α:=Nat) (fun z=>.int .i64 z) (fun z G=>z<=ks.length/\Mod (· = bb) g8 G/\OwnS 1 G (.slice (some ⟨bb,0,none⟩) g.c cc) ((addB g 1 (cntZ cl) i (KS.take z) (g.blk p2.f.now i)).map byteV)) (fun z=>ks.length-z) 0 rfl ⟨Nat.zero_le _,.refl _ _,ob8⟩ ?_
    rintro j2 G9 ⟨hj2,m9,o9⟩ X2 hX2
    have eX9:Ext GX G9:=m9.ext_from (e6.trans e8) (fun b hb e=>Nat.lt_irrefl _ (Nat.lt_of_lt_of_le hb (by rw[e];exact hbb)))
    have a9:=aX.ext eX9
    by_cases hj2l:j2<ks.length
    ·obtain⟨bk,obk,rfl,hck⟩:=hkcell7 j2 hj2l
     have hbk7:bk<g7.size:=by simpa using hcell_lt hck
     have hbkh:h.size<=bk:=by have:=fr2 bk rfl;omega
     have hck9:hcell G9 (elt ⟨bk,obk,none⟩ j2)=some (.int .i64 ks[j2]):=(hcell_ext eX9 ((uX.mod.cell (by simpa using hbk7) (by simpa using nfoot bk hbkh)).trans hck))
     have hm9:MapK ik G9 h1.size L:=(hm7.mod uX.mod (nfoot h1.size omg)).ext eX9
     have hkin2:=hkin _ (List.getElem_mem hj2l)
     have hKj:KS[j2]'omg=(ks[j2]).toNat:=by simp only[hKS,List.getElem_map]
     have hKtk:KS.take (j2+1)=KS.take j2++[KS[j2]'omg]:=List.take_succ_eq_append_getElem omg
     obtain⟨k,hk⟩:∃k,(ks[j2]).toNat=k:=⟨_,rfl⟩
     have hkk:ks[j2]=((k:Nat):Int):=by omega
     rw[hkk]at hck9
     rw[hk]at hKj
     have c7:=cellOf (i:=7) a9.rg rfl
     have c18:=cellOf (i:=18) a9.rg rfl
     rw[a.hd.order]at c7
     obtain⟨DD,hDD⟩:∃D,k/g.n=D:=⟨_,rfl⟩
     obtain⟨MM,hMM⟩:∃M,k%g.n=M:=⟨_,rfl⟩
     have hMn:MM<g.n:=by rw[<-hMM];exact Nat.mod_lt _ omg
     have hkd:((k:Nat):Int)/((g.n:Nat):Int)=((DD:Nat):Int):=by rw[<-hDD];exact (Int.natCast_ediv _ _).symm
     have hkm:((k:Nat):Int)%((g.n:Nat):Int)=((MM:Nat):Int):=by rw[<-hMM];exact (Int.natCast_emod _ _).symm
     have hkroom:((k:Nat):Int)<g.room:=by omega
     simp(disch:=omega)
     refine JoinN.mk (JoinN.mk ?_)
     unfold ptrV
     simp(disch:=omega)[hck9,c18,hkd]
     by_cases hDi:DD=i
     ·have hDi':((DD:Nat):Int)=((i:Nat):Int):=by omega
      obtain⟨CT,hCT⟩:∃C,cl.count ((k:Nat):Int)=C:=⟨_,rfl⟩
      have hlk:=fun (q:Bool) (K:VP)=>look_t (K:=K) (q:=q) (k:=((k:Nat):Int)) hm9 ht
      simp only[hCT]at hlk
      have hct:=hctl ((k:Nat):Int)
      rw[hCT]at hct
      simp(disch:=omega)[hDi',c7,c18,hkm,hlk]
      have hturn:=M.turn a.ok Ad him hiD (j:=j2) omg (by rw[hKj,hDD];exact hDi)
      rw[hKj,hMM]at hturn
      have hfk:=Ad.fit k (hKj▸List.getElem_mem omg)
      have hcz:cntZ cl k=CT:=hCT
      rw[hcz]at hfk
      have hal:(addB g 1 (cntZ cl) i (KS.take j2) (g.blk p2.f.now i)).length=g.c:=by rw[addB_len];exact hblk
      refine gCAdd_c a.ok o9 hal hMn omg (by rw[hturn];omega) (by rw[hturn];omega) fun G10 r10 m10 o10=>?_
      simp(disch:=omega)
      refine hX2 (j2+1) _ _ sM ⟨by omega,m9.trans m10 (fun _ _ h=>h),?_⟩ omg
      rw[hKtk,addB_snoc,hKj,hDD,if_pos hDi,hMM,hcz]
      simpa using o10
     ·have hDi':¬((DD:Nat):Int)=((i:Nat):Int):=by omega
      simp(disch:=omega)[hDi']
      refine hX2 (j2+1) _ _ sM ⟨by omega,m9,?_⟩ omg
      rw[hKtk,addB_snoc,hKj,hDD,if_neg hDi]
      exact o9
    ·obtain rfl:j2=ks.length:=by omega
     rw[<-hKl,List.take_length]at o9
     simp(disch:=omega)
     have hple:=(M.img.wi i him M.wi).2
     have hple2:=M.img.few
     have hPs:=putBk_stp (by_:=1) (T:=cntZ cl) (ks:=KS) a.ok ok2 M.img him M.wi
     obtain⟨wa,wn,wc,rfl,hwl,hwc,hwb⟩:=ow.form
     have hwn:wn=g.c:=by rw[List.length_map,hblk]at hwl;omega
     subst hwn
     obtain⟨wb,wo,rfl⟩:=hwb (fun e=>by have:=congrArg List.length e;rw[List.length_map,hblk]at this;simp at this;omega)
     have hwbn:blkV (.slice (some ⟨wb,wo,none⟩) g.c wc)=some wb:=rfl
     have hwb8:=fw2 wb hwbn
     have hwbl:wb<g8.size:=ow.bytes.lt hwbn (fun e=>by rw[e]at hblk;simp at hblk;omega)
     have hbw9:Bytes G9 (.slice (some ⟨wb,wo,none⟩) g.c wc) (g.blk p2.f.now i):=ow.bytes.mod m9 (fun b hb e=>by rw[hwbn]at hb;cases hb;omega)
     have hsz9:=m9.size
     refine gWrite2_c (Q:=g.c/512) a.ok.c_div.symm a9 hblk (by rw[addB_len];exact hblk) hbw9 o9.bytes (fun e=>by have:=aX.st.lt e;omega) hbf omg omg omg omg fun G11 s3 u3 f3=>?_
     have f3':FsAt s3 (putBk g 1 (cntZ cl) KS i p2).1:=f3
     have hE:(wrF (g.pl i) (g.blk p2.f.now i) (addB g 1 (cntZ cl) i KS (g.blk p2.f.now i)) (g.c/512) 0 p2).2=(putBk g 1 (cntZ cl) KS i p2).2:=rfl
     rw[hE]
     have u9:=uX.trans (u3.from_ eX9)
     by_cases he0:(putBk g 1 (cntZ cl) KS i p2).2=0
     ·rw[he0]
      rw[seqF_cons he0]at he3
      simp(disch:=omega)
      refine hX (j+1,s3,(putBk g 1 (cntZ cl) KS i p2).1,i::D) _ _ sM ⟨by dsimp only;omega,u9,f3',hPs.1.ok,putBk_after a.ok Ad ok2 him hiD M he0,fun i2=>?_,he3,?_⟩ (by dsimp only;omega)
      ·dsimp only
       rw[htake,List.mem_cons,List.mem_append,List.mem_singleton,hD]
       constructor
       ·rintro (h|h)
        ·exact .inr h
        ·exact .inl h
       ·rintro (h|h)
        ·exact .inr h
        ·exact .inl h
      ·have:=hPs.1.stp
       dsimp only
       rw[Nat.add_mul,Nat.one_mul]
       omega
     ·rw[seqF_err he0]at he3
      simp(disch:=omega)[he0]
      have:=H G11 s3 KS BS Q (u9.from_ E7)
      rw[<-he3]at this
      exact this f3'
   ·simp(disch:=omega)[hm0]
    have heF:addF g 1 (cntZ cl) KS BS p=mkF g i p1:=by
     rw[<-he]
     unfold addF
     rw[List.map_cons]
     have hsb:stepB g 1 (cntZ cl) KS i p1=mkF g i p1:=by
      unfold stepB
      rw[seqF_err (by rw[hgB];exact hm0),hgB]
     rw[seqF_err (by rw[hsb];exact hm0),hsb]
    have:=H GX s2 KS BS Q ((u.trans (u2.from_ e6)).from_ E7)
    rw[heF]at this
    exact this f2
  ·have uX:=u
   have ok2:=ok1
   have he3:seqF (putBk g 1 (cntZ cl) KS i::(BS.drop (j+1)).map (stepB g 1 (cntZ cl) KS)) p1=addF g 1 (cntZ cl) KS BS p:=by
    rw[<-he]
    unfold addF
    rw[List.map_cons]
    have hsb:stepB g 1 (cntZ cl) KS i p1=putBk g 1 (cntZ cl) KS i p1:=by
     unfold stepB
     have:getB g i p1=(p1,0):=by unfold getB;rw[if_neg hw]
     rw[seqF_two (by rw[this]),this]
    rw[seqF,seqF,hsb]
   have M:Mid g x 1 (cntZ cl) KS p.f.now D i p1.f.now:=by
    have h1:getB g i p1=(p1,0):=by unfold getB;rw[if_neg hw]
    have:=getB_mid a.ok ok1 A1 him hiD hfB (by rw[h1])
    rw[h1]at this
    exact this
   have aX:=aG
   have hpst:p1.steps<=p.steps+j*W:=hst
   obtain⟨GX,hGX⟩:∃z,z=G:=⟨_,rfl⟩
   obtain⟨s2,hs2e⟩:∃z,z=s1:=⟨_,rfl⟩
   obtain⟨p2,hp2e⟩:∃z,z=p1:=⟨_,rfl⟩
   rw[<-hs2e,<-hGX]at uX
   rw[<-hs2e,<-hp2e,<-hGX]at aX
   rw[<-hGX]at e6 hbb
   rw[<-hp2e]at ok2 he3 M ob
   have hst2:p2.steps<=p1.steps+5:=by rw[hp2e];omega
   simp(disch:=omega)
   refine JoinN.mk ?_
   simp(disch:=omega)
   have hblk:=blk_len M.img him M.wi
   have hbb7:g7.size<=bb:=by have:=uX.mod.size;omega
   have hbf:¬s2.foot sp bb:=fun e=>by have:=aX.st.lt e;omega
   refine sclone_c (n:=g.c) ob.g.src ⟨_,_,rfl⟩ (one_bytes _) (by have:=a.ok.room_lt;omega) fun vw g8 e8 ow fw fw2=>?_
   have ob8:=(ob.ext e8).own
   have hbb8:bb<G6.size:=by
    obtain⟨arr,ha⟩:=ob.tag (b:=bb) rfl
    exact get_some_lt ha
   have hsz8:=e8.size
   have hsz6:=e6.size
   have hstX:=aX.st.stp
   simp(disch:=omega)
   refine loopX1 (α:=Nat) (fun z=>.int .i64 z) (fun z G=>z<=ks.length/\Mod (· = bb) g8 G/\OwnS 1 G (.slice (some ⟨bb,0,none⟩) g.c cc) ((addB g 1 (cntZ cl) i (KS.take z) (g.blk p2.f.now i)).map byteV)) (fun z=>ks.length-z) 0 rfl ⟨Nat.zero_le _,.refl _ _,ob8⟩ ?_
   rintro j2 G9 ⟨hj2,m9,o9⟩ X2 hX2
   have eX9:Ext GX G9:=m9.ext_from (e6.trans e8) (fun b hb e=>Nat.lt_irrefl _ (Nat.lt_of_lt_of_le hb (by rw[e];exact hbb)))
   have a9:=aX.ext eX9
   by_cases hj2l:j2<ks.length
   ·obtain⟨bk,obk,rfl,hck⟩:=hkcell7 j2 hj2l
    have hbk7:bk<g7.size:=by simpa using hcell_lt hck
    have hbkh:h.size<=bk:=by have:=fr2 bk rfl;omega
    have hck9:hcell G9 (elt ⟨bk,obk,none⟩ j2)=some (.int .i64 ks[j2]):=(hcell_ext eX9 ((uX.mod.cell (by simpa using hbk7) (by simpa using nfoot bk hbkh)).trans hck))
    have hm9:MapK ik G9 h1.size L:=(hm7.mod uX.mod (nfoot h1.size omg)).ext eX9
    have hkin2:=hkin _ (List.getElem_mem hj2l)
    have hKj:KS[j2]'omg=(ks[j2]).toNat:=by simp only[hKS,List.getElem_map]
    have hKtk:KS.take (j2+1)=KS.take j2++[KS[j2]'omg]:=List.take_succ_eq_append_getElem omg
    obtain⟨k,hk⟩:∃k,(ks[j2]).toNat=k:=⟨_,rfl⟩
    have hkk:ks[j2]=((k:Nat):Int):=by omega
    rw[hkk]at hck9
    rw[hk]at hKj
    have c7:=cellOf (i:=7) a9.rg rfl
    have c18:=cellOf (i:=18) a9.rg rfl
    rw[a.hd.order]at c7
    obtain⟨DD,hDD⟩:∃D,k/g.n=D:=⟨_,rfl⟩
    obtain⟨MM,hMM⟩:∃M,k%g.n=M:=⟨_,rfl⟩
    have hMn:MM<g.n:=by rw[<-hMM];exact Nat.mod_lt _ omg
    have hkd:((k:Nat):Int)/((g.n:Nat):Int)=((DD:Nat):Int):=by rw[<-hDD];exact (Int.natCast_ediv _ _).symm
    have hkm:((k:Nat):Int)%((g.n:Nat):Int)=((MM:Nat):Int):=by rw[<-hMM];exact (Int.natCast_emod _ _).symm
    have hkroom:((k:Nat):Int)<g.room:=by omega
    simp(disch:=omega)
    refine JoinN.mk (JoinN.mk ?_)
    unfold ptrV
    simp(disch:=omega)[hck9,c18,hkd]
    by_cases hDi:DD=i
    ·have hDi':((DD:Nat):Int)=((i:Nat):Int):=by omega
     obtain⟨CT,hCT⟩:∃C,cl.count ((k:Nat):Int)=C:=⟨_,rfl⟩
     have hlk:=fun (q:Bool) (K:VP)=>look_t (K:=K) (q:=q) (k:=((k:Nat):Int)) hm9 ht
     simp only[hCT]at hlk
     have hct:=hctl ((k:Nat):Int)
     rw[hCT]at hct
     simp(disch:=omega)[hDi',c7,c18,hkm,hlk]
     have hturn:=M.turn a.ok Ad him hiD (j:=j2) omg (by rw[hKj,hDD];exact hDi)
     rw[hKj,hMM]at hturn
     have hfk:=Ad.fit k (hKj▸List.getElem_mem omg)
     have hcz:cntZ cl k=CT:=hCT
     rw[hcz]at hfk
     have hal:(addB g 1 (cntZ cl) i (KS.take j2) (g.blk p2.f.now i)).length=g.c:=by rw[addB_len];exact hblk
     refine gCAdd_c a.ok o9 hal hMn omg (by rw[hturn];omega) (by rw[hturn];omega) fun G10 r10 m10 o10=>?_
     simp(disch:=omega)
     refine hX2 (j2+1) _ _ sM ⟨by omega,m9.trans m10 (fun _ _ h=>h),?_⟩ omg
     rw[hKtk,addB_snoc,hKj,hDD,if_pos hDi,hMM,hcz]
     simpa using o10
    ·have hDi':¬((DD:Nat):Int)=((i:Nat):Int):=by omega
     simp(disch:=omega)[hDi']
     refine hX2 (j2+1) _ _ sM ⟨by omega,m9,?_⟩ omg
     rw[hKtk,addB_snoc,hKj,hDD,if_neg hDi]
     exact o9
   ·obtain rfl:j2=ks.length:=by omega
    rw[<-hKl,List.take_length]at o9
    simp(disch:=omega)
    have hple:=(M.img.wi i him M.wi).2
    have hple2:=M.img.few
    have hPs:=putBk_stp (by_:=1) (T:=cntZ cl) (ks:=KS) a.ok ok2 M.img him M.wi
    obtain⟨wa,wn,wc,rfl,hwl,hwc,hwb⟩:=ow.form
    have hwn:wn=g.c:=by rw[List.length_map,hblk]at hwl;omega
    subst hwn
    obtain⟨wb,wo,rfl⟩:=hwb (fun e=>by have:=congrArg List.length e;rw[List.length_map,hblk]at this;simp at this;omega)
    have hwbn:blkV (.slice (some ⟨wb,wo,none⟩) g.c wc)=some wb:=rfl
    have hwb8:=fw2 wb hwbn
    have hwbl:wb<g8.size:=ow.bytes.lt hwbn (fun e=>by rw[e]at hblk;simp at hblk;omega)
    have hbw9:Bytes G9 (.slice (some ⟨wb,wo,none⟩) g.c wc) (g.blk p2.f.now i):=ow.bytes.mod m9 (fun b hb e=>by rw[hwbn]at hb;cases hb;omega)
    have hsz9:=m9.size
    refine gWrite2_c (Q:=g.c/512) a.ok.c_div.symm a9 hblk (by rw[addB_len];exact hblk) hbw9 o9.bytes (fun e=>by have:=aX.st.lt e;omega) hbf omg omg omg omg fun G11 s3 u3 f3=>?_
    have f3':FsAt s3 (putBk g 1 (cntZ cl) KS i p2).1:=f3
    have hE:(wrF (g.pl i) (g.blk p2.f.now i) (addB g 1 (cntZ cl) i KS (g.blk p2.f.now i)) (g.c/512) 0 p2).2=(putBk g 1 (cntZ cl) KS i p2).2:=rfl
    rw[hE]
    have u9:=uX.trans (u3.from_ eX9)
    by_cases he0:(putBk g 1 (cntZ cl) KS i p2).2=0
    ·rw[he0]
     rw[seqF_cons he0]at he3
     simp(disch:=omega)
     refine hX (j+1,s3,(putBk g 1 (cntZ cl) KS i p2).1,i::D) _ _ sM ⟨by dsimp only;omega,u9,f3',hPs.1.ok,putBk_after a.ok Ad ok2 him hiD M he0,fun i2=>?_,he3,?_⟩ (by dsimp only;omega)
     ·dsimp only
      rw[htake,List.mem_cons,List.mem_append,List.mem_singleton,hD]
      constructor
      ·rintro (h|h)
       ·exact .inr h
       ·exact .inl h
      ·rintro (h|h)
       ·exact .inr h
       ·exact .inl h
     ·have:=hPs.1.stp
      dsimp only
      rw[Nat.add_mul,Nat.one_mul]
      omega
    ·rw[seqF_err he0]at he3
     simp(disch:=omega)[he0]
     have:=H G11 s3 KS BS Q (u9.from_ E7)
     rw[<-he3]at this
     exact this f3'
 ·skip
  simp(disch:=omega)[c0,c1]
  rw[show (.pointer (some ⟨sp,0,none⟩):Value)=ptrV sp from rfl,show (.pointer (some ⟨o,0,none⟩):Value)=ptrV o from rfl]
  refine sSize_c a.st a.fs fun h1 e1=>?_
  have a1:=a.ext e1
  simp(disch:=omega)
  rw[Hp_makeMap]
  simp(disch:=omega)
  obtain⟨h2,hh2⟩:∃X,X=h1.push (.map #[] 0):=⟨_,rfl⟩
  have e2:Ext h1 h2:=by rw[hh2];exact extS
  have hm0:MapK ik h2 h1.size []:=by rw[hh2];exact MapK.new rfl
  rw[<-hh2]
  clear hh2
  refine loopX1 (α:=Nat×List (Int×Value)) (fun z=>.int .i64 z.1) (fun z G=>z.1<=cl.length/\Mod (· = h1.size) h2 G/\MapK ik G h1.size z.2/\Tally (cl.take z.1) z.2/\∀k∈cl.take z.1,0<=k/\k<g.room) (fun z=>cl.length-z.1) (0,[]) rfl ⟨Nat.zero_le _,.refl _ _,hm0,.nil,fun k hk=>by cases hk⟩ ?_
  rintro⟨j,L⟩ G ⟨hj,mG,hm,ht,hin⟩ X hX
  dsimp only at hj mG hm ht hin hX ⊢
  have eG:Ext h1 G:=mG.ext_from e2 (fun b hb e=>by omega)
  have aG:=a1.ext eG
  by_cases hjl:j<cl.length
  ·obtain⟨b,o2,rfl⟩:∃b o2,va=some ⟨b,o2,none⟩:=by
    obtain⟨a2,n2,c2,e,-,-,hne⟩:=ov.form
    injection e with e1 _ _
    obtain⟨b,o2,hh⟩:=hne (fun e=>by rw[List.map_eq_nil_iff]at e;rw[e]at hjl;exact absurd hjl (Nat.not_lt_zero _))
    exact⟨b,o2,e1.trans hh⟩
   have hc:=((ov.ext (e1.trans eG)).cell (i:=j) (by rw[List.length_map];exact hjl)).1
   rw[List.getElem_map]at hc
   have hmem:=List.getElem_mem hjl
   have hki:=hci _ hmem
   have htk:cl.take (j+1)=cl.take j++[cl[j]]:=List.take_succ_eq_append_getElem hjl
   have hcle:(cl.take j).length<=cl.length:=by rw[List.length_take];omega
   obtain⟨k,hk⟩:∃k,cl[j]=k:=⟨_,rfl⟩
   rw[hk]at hc hmem hki htk
   have hc:hcell G (elt ⟨b,o2,none⟩ j)=some (.int .i64 k):=hc
   have hct:(cl.take j).count k<=(cl.take j).length:=List.count_le_length
   by_cases k0:k<0
   ·simp(disch:=omega)[hc,k0]
    exact H4 G (e1.trans eG) (.inr rfl) (fun hh=>by have:=(hh k hmem).1;omega)
   simp(disch:=omega)[hc,k0]
   refine gRoom_c aG.rg a.ok a.hd ?_
   by_cases k1:¬k<g.room
   ·simp(disch:=omega)[k0,k1]
    exact H4 G (e1.trans eG) (.inr rfl) (fun hh=>k1 (hh k hmem).2)
   replace k1:=Classical.not_not.1 k1
   have hsn:(((cl.take j).count k:Nat):Int)+1=(((cl.take j).count k+1:Nat):Int):=by omega
   obtain⟨CT,hCT⟩:∃C,(cl.take j).count k=C:=⟨_,rfl⟩
   rw[hCT]at hsn hct
   have hlk:=fun (q:Bool) (K:VP)=>look_t (K:=K) (q:=q) (k:=k) hm ht
   simp only[hCT]at hlk
   have k1':¬k>=g.room:=by omega
   simp(disch:=omega)[k0,k1,k1',hlk]
   refine Hp_mapUpdate timesKey (k:=k) hm fun G2 hm2 m2=>?_
   simp(disch:=omega)
   have ht2:=ht.snoc k
   rw[hCT,<-htk]at ht2
   rw[hsn]at hm2
   refine hX (j+1,_) _ _ sM ⟨by omega,mG.trans m2 (fun _ _ h=>h),hm2,ht2,fun q hq=>?_⟩ (by dsimp only;omega)
   rw[htk]at hq
   rcases List.mem_append.1 hq with hq|hq
   ·exact hin q hq
   ·rw[List.mem_singleton.1 hq];omega
  obtain rfl:j=cl.length:=by omega
  rw[List.take_length]at ht hin
  simp(disch:=omega)
  refine keysKeyN_c fun g1 f1 hk1=>?_
  refine sortedKeyN_c hk1 (hm.ext f1) (by have:=ht.few;omega) fun g2 v2 ks f2 hp2 hs2 o2 fr2=>?_
  have hmemk:∀k,k∈ks↔k∈cl:=fun k=>by rw[hp2.mem_iff];exact ht.mem k
  have hndk:ks.Nodup:=hp2.nodup_iff.2 hm.nodup
  have hkl:ks.length<=cl.length:=by have:=hp2.length_eq;rw[List.length_map]at this;have:=ht.few;omega
  have hkin:∀k∈ks,0<=k/\k<g.room:=fun k hk=>hin k ((hmemk k).1 hk)
  have hinr:Inr g cl:=hin
  have a2:=aG.ext (f1.trans f2)
  have hm2:=hm.ext (f1.trans f2)
  have c7:=cellOf (i:=7) a2.rg rfl
  rw[a.hd.order]at c7
  unfold ptrV
  simp(disch:=omega)[c7]
  rw[show (.pointer (some ⟨o,0,none⟩):Value)=ptrV o from rfl]
  refine Most_c fun g3 f3=>?_
  have hw64:=a.ok.w64
  rw[a.ok.wd_w,if_neg omg]
  have a3:=a2.ext f3
  have hm3:=hm2.ext f3
  have o3:=o2.ext f3
  have E3:Ext h g3:=e1.trans (eG.trans (f1.trans (f2.trans f3)))
  obtain⟨TOP,hTOP⟩:∃T,2^g.w-1=T:=⟨_,rfl⟩
  have htop:TOP<18446744073709551616/\TOP+1=2^g.w:=by
   have h1:2^g.w<=2^64:=Nat.pow_le_pow_right omg hw64.2
   have h2:1<=2^g.w:=Nat.one_le_two_pow
   have h3:(2:Nat)^64=18446744073709551616:=by decide
   omega
  rw[hTOP]
  obtain⟨va2,vn2,vc2,rfl,hvl2,hvc2,hvb2⟩:=o3.g.form
  have hvn2:vn2=ks.length:=by rw[List.length_map]at hvl2;omega
  subst hvn2
  have hkcell:∀G,Ext g3 G->∀j (hj:j<ks.length),∃b o2,va2=some ⟨b,o2,none⟩/\hcell G (elt ⟨b,o2,none⟩ j)=some (.int .i64 ks[j]):=fun G eG j hj=>by
   obtain⟨b,ob,rfl⟩:=hvb2 (fun e=>by rw[List.map_eq_nil_iff]at e;rw[e]at hj;exact absurd hj (Nat.not_lt_zero _))
   refine⟨b,ob,rfl,?_⟩
   have:=((o3.ext eG).g.cell (i:=j) (by rw[List.length_map];exact hj)).1
   rw[List.getElem_map]at this
   exact this
  have hctl:∀k:Int,cl.count k<=cl.length:=fun k=>List.count_le_length
  simp(disch:=omega)
  refine loopX2 (α:=Nat) (fun _=>.bool false) (fun z=>.int .i64 z) (fun z G=>z<=ks.length/\Ext g3 G/\∀i (hi:i<ks.length),i<z->cl.count ks[i]<=g.cnt p.f.now (ks[i]).toNat) (fun z=>ks.length-z) 0 ⟨rfl,rfl⟩ ⟨Nat.zero_le _,.refl _,fun i _ hi=>by omega⟩ ?_
  rintro j G2 ⟨hj,eG2,hfu⟩ X hX
  by_cases hjl:j<ks.length
  ·obtain⟨b,ob,rfl,hc⟩:=hkcell G2 eG2 j hjl
   have hmj:=(hmemk _).1 (List.getElem_mem hjl)
   have hkj:=hkin _ (List.getElem_mem hjl)
   obtain⟨k,hk⟩:∃k,ks[j]=k:=⟨_,rfl⟩
   rw[hk]at hc hkj hmj
   simp(disch:=omega)[hc]
   refine gCount_c (a3.ext eG2) I (fun g4 e4 hno=>absurd hkj hno) (fun g4 e4 _ _=>?_)
   have hct:=hctl k
   have hm4:=hm3.ext (eG2.trans e4)
   obtain⟨CN,hCN⟩:∃C,g.cnt p.f.now k.toNat=C:=⟨_,rfl⟩
   have hcn:CN<2^g.w:=by rw[<-hCN];exact Gm.cnt_lt _ _
   rw[hCN]
   obtain⟨CT,hCT⟩:∃C,cl.count k=C:=⟨_,rfl⟩
   rw[hCT]at hct
   have hlk:=fun (q:Bool) (K:VP)=>look_t (K:=K) (q:=q) (k:=k) hm4 ht
   simp only[hCT]at hlk
   by_cases hle:CN<CT
   ·simp(disch:=omega)[hlk,hle]
    refine H9 g4 (E3.trans (eG2.trans e4)) rfl hinr ⟨k.toNat,?_,?_⟩
    ·rw[Int.toNat_of_nonneg hkj.1];exact hmj
    ·unfold cntZ;rw[Int.toNat_of_nonneg hkj.1,hCN,hCT];exact hle
   ·simp(disch:=omega)[hlk,hle]
    refine hX (j+1) _ _ _ rfl sM ⟨by omega,eG2.trans e4,fun i hi hij=>?_⟩ omg
    by_cases e:i=j
    ·subst e
     rw[hk,hCN,hCT];omega
    ·exact hfu i hi omg
  obtain rfl:j=ks.length:=by omega
  have hfit2:(-1:Int) = -1->∀k∈ks,cl.count k<=g.cnt p.f.now k.toNat:=fun _ k hk=>by
   obtain⟨i,hi,rfl⟩:=List.mem_iff_getElem.1 hk
   exact hfu i hi hi
  simp(disch:=omega)
  rw[Hp_makeMap]
  simp(disch:=omega)
  have a4:=a3.ext eG2
  obtain⟨h5,hh5⟩:∃X,X=G2.push (.map #[] 0):=⟨_,rfl⟩
  have e5:Ext G2 h5:=by rw[hh5];exact extS
  have hmb:MapK ik h5 G2.size []:=by rw[hh5];exact MapK.new rfl
  rw[<-hh5]
  clear hh5
  refine loopX1 (α:=Nat×List (Int×Value)) (fun z=>.int .i64 z.1) (fun z G=>z.1<=ks.length/\Mod (· = G2.size) h5 G/\MapK ik G G2.size z.2/\Tally ((ks.take z.1).map (· / (g.n:Int))) z.2) (fun z=>ks.length-z.1) (0,[]) rfl ⟨Nat.zero_le _,.refl _ _,hmb,.nil⟩ ?_
  rintro⟨j,L2⟩ G3 ⟨hj,mG3,hmb,htb⟩ X hX
  dsimp only at hj mG3 hmb htb hX ⊢
  have eG3:Ext G2 G3:=mG3.ext_from e5 (fun b hb e=>by omega)
  have a5:=a4.ext eG3
  by_cases hjl:j<ks.length
  ·obtain⟨b,ob,rfl,hc⟩:=hkcell G3 (eG2.trans eG3) j hjl
   have hkj:=hkin _ (List.getElem_mem hjl)
   have htk:ks.take (j+1)=ks.take j++[ks[j]]:=List.take_succ_eq_append_getElem hjl
   obtain⟨k,hk⟩:∃k,ks[j]=k:=⟨_,rfl⟩
   rw[hk]at hc hkj htk
   have c18:=cellOf (i:=18) a5.rg rfl
   obtain⟨KD,hKD⟩:∃D,k/((g.n:Nat):Int)=D:=⟨_,rfl⟩
   obtain⟨CT,hCT⟩:∃C,((ks.take j).map (· / (g.n:Int))).count KD=C:=⟨_,rfl⟩
   have hct:CT<=ks.length:=by
    rw[<-hCT]
    refine Nat.le_trans List.count_le_length ?_
    rw[List.length_map,List.length_take];omega
   have hlk:=fun (q:Bool) (K:VP)=>look_b (K:=K) (q:=q) (k:=KD) hmb htb
   simp only[hCT]at hlk
   unfold ptrV
   simp(disch:=omega)[hc,c18,hKD,hlk]
   refine Hp_mapUpdate blocksKey (k:=KD) hmb fun G4 hm4 m4=>?_
   simp(disch:=omega)
   have ht2:=htb.snoc KD
   rw[hCT,show (ks.take j).map (· / (g.n:Int))++[KD]=(ks.take (j+1)).map (· / (g.n:Int)) by rw[htk,List.map_append,List.map_singleton,hKD]]at ht2
   rw[show ((CT:Nat):Int)+1=((CT+1:Nat):Int) by omega]at hm4
   exact hX (j+1,_) _ _ sM ⟨by omega,mG3.trans m4 (fun _ _ h=>h),hm4,ht2⟩ (by dsimp only;omega)
  obtain rfl:j=ks.length:=by omega
  rw[List.take_length]at htb
  simp(disch:=omega)
  refine keysKeyI_c fun g6 f6 hk6=>?_
  refine sortedKeyI_c hk6 (hmb.ext f6) (by have:=htb.few;rw[List.length_map]at this;omega) fun g7 v7 bs f7 hp7 hs7 o7 fr7=>?_
  have hmemb:∀i,i∈bs↔∃k∈ks,k/((g.n:Nat):Int)=i:=fun i=>by
   rw[hp7.mem_iff,htb.mem,List.mem_map]
  have hndb:bs.Nodup:=hp7.nodup_iff.2 hmb.nodup
  have hbl:bs.length<=cl.length:=by have:=hp7.length_eq;rw[List.length_map]at this;have:=htb.few;rw[List.length_map]at this;omega
  have a7:=a5.ext (f6.trans f7)
  have eK7:=eG2.trans (eG3.trans (f6.trans f7))
  have hm7:=hm3.ext eK7
  have E7:=E3.trans eK7
  obtain⟨va7,vn7,vc7,rfl,hvl7,hvc7,hvb7⟩:=o7.g.form
  have hvn7:vn7=bs.length:=by rw[List.length_map]at hvl7;omega
  subst hvn7
  have hbcell:∀j (hj:j<bs.length),∃b ob,va7=some ⟨b,ob,none⟩/\hcell g7 (elt ⟨b,ob,none⟩ j)=some (.int .i64 bs[j]):=fun j hj=>by
   obtain⟨b,ob,rfl⟩:=hvb7 (fun e=>by rw[List.map_eq_nil_iff]at e;rw[e]at hj;exact absurd hj (Nat.not_lt_zero _))
   refine⟨b,ob,rfl,?_⟩
   have:=(o7.g.cell (i:=j) (by rw[List.length_map];exact hj)).1
   rw[List.getElem_map]at this
   exact this
  have hkcell7:∀j (hj:j<ks.length),∃b ob,va2=some ⟨b,ob,none⟩/\hcell g7 (elt ⟨b,ob,none⟩ j)=some (.int .i64 ks[j]):=fun j hj=>hkcell g7 eK7 j hj
  simp(disch:=omega)
  obtain⟨Q,hb0⟩:=asked_of a.ok I hby hinr hmemk hndk hs2 hmemb hndb hs7 (fun e=>absurd e dM) hfit2 hroom hcov
  have Ad:=Q.ad
  have nfoot:∀b,h.size<=b->¬s.foot sp b:=fun b hb e=>by have:=a.st.lt e;omega
  have hsz1:=e1.size
  have hszG:=eG.size
  have hsz7:=f7.size
  have hsz6:=f6.size
  have hszG3:=eG3.size
  have hszG2:=eG2.size
  have hszf3:=f3.size
  have hszf2:=f2.size
  have hszf1:=f1.size
  obtain⟨KS,hKS⟩:∃l,l=ks.map Int.toNat:=⟨_,rfl⟩
  obtain⟨BS,hBS⟩:∃l,l=bs.map Int.toNat:=⟨_,rfl⟩
  rw[<-hKS,<-hBS]at Q
  rw[<-hKS]at Ad
  have hBl:BS.length=bs.length:=by rw[hBS,List.length_map]
  have hKl:KS.length=ks.length:=by rw[hKS,List.length_map]
  obtain⟨q,hq,hq1,hq2⟩:=a.ok.c512
  obtain⟨W,hW⟩:∃W,5+g.c/512=W:=⟨_,rfl⟩
  have hWmul:bs.length*W<=cl.length*W:=Nat.mul_le_mul_right _ hbl
  rw[hW]at hs
  refine loopX1 (α:=Nat×St×Fs×List Nat) (fun z=>.int .i64 z.1) (fun z G=>z.1<=bs.length/\SUpd g7 G sp s z.2.1/\FsAt z.2.1 z.2.2.1/\z.2.2.1.f.ok/\After g x (-1) (cntZ cl) KS p.f.now z.2.2.2 z.2.2.1.f.now/\(∀i,i∈z.2.2.2↔i∈BS.take z.1)/\addF g (-1) (cntZ cl) KS (BS.drop z.1) z.2.2.1=addF g (-1) (cntZ cl) KS BS p/\z.2.2.1.steps<=p.steps+z.1*W) (fun z=>bs.length-z.1) (0,s,p,[]) rfl ⟨Nat.zero_le _,.refl a7.st,a.fs,a.fok,.zero I,fun i=>by simp,rfl,Nat.le_add_right _ _⟩ ?_
  rintro⟨j,s1,p1,D⟩ G ⟨hj,u,f1',ok1,A1,hD,he,hst⟩ X hX
  dsimp only at hj u f1' ok1 A1 hD he hst hX ⊢
  have aG:=a7.upd u f1'
  by_cases hjl:¬j<bs.length
  ·obtain rfl:j=bs.length:=by omega
   simp(disch:=omega)
   rw[<-hBl,List.drop_length]at he
   have he2:addF g (-1) (cntZ cl) KS BS p=(p1,0):=he.symm
   have:=H G s1 KS BS Q (u.from_ E7)
   rw[he2]at this
   exact this f1'
  replace hjl:=Classical.not_not.1 hjl
  have hkeep:∀b,h.size<=b->b<g7.size->G[b]? = g7[b]? := fun b hb hl=>u.mod.block b hl (nfoot b hb)
  obtain⟨b7,ob7,rfl,hcb⟩:=hbcell j hjl
  have hb7:g6.size<=b7:=fr7 b7 rfl
  have hb7l:b7<g7.size:=by simpa using hcell_lt hcb
  have hcbG:hcell G (elt ⟨b7,ob7,none⟩ j)=some (.int .i64 bs[j]):=(u.mod.cell (by simpa using hb7l) (by simpa using nfoot b7 omg)).trans hcb
  have hbj0:=hb0 _ (List.getElem_mem hjl)
  have hBj:BS[j]'omg=(bs[j]).toNat:=by simp only[hBS,List.getElem_map]
  obtain⟨i,hi⟩:∃i,(bs[j]).toNat=i:=⟨_,rfl⟩
  have hii:bs[j]=((i:Nat):Int):=by omega
  rw[hii]at hcbG
  rw[hi]at hBj
  have hBmem:i∈BS:=hBj▸List.getElem_mem omg
  obtain⟨q0,hq0,hq0i⟩:=(Q.bmem i).1 hBmem
  have him:i<g.m:=hq0i▸Ad.lt q0 hq0
  have hiD:i∉D:=fun hh=>by
   obtain⟨t,ht,he⟩:=List.mem_iff_getElem.1 ((hD i).1 hh)
   rw[List.getElem_take]at he
   rw[List.length_take]at ht
   have:=List.pairwise_iff_getElem.1 Q.bnd t j omg omg omg
   exact this (he.trans hBj.symm)
  have hdrop:BS.drop j=i::BS.drop (j+1):=by
   rw[List.drop_eq_getElem_cons omg,hBj]
  have htake:BS.take (j+1)=BS.take j++[i]:=by
   rw[List.take_succ_eq_append_getElem omg,hBj]
  rw[hdrop]at he
  have hbm:j*W+W<=bs.length*W:=by
   have:=Nat.mul_le_mul_right W (show j+1<=bs.length from hjl)
   rw[Nat.add_mul,Nat.one_mul]at this;exact this
  simp(disch:=omega)
  refine JoinN.mk (JoinN.mk ?_)
  simp(disch:=omega)[hcbG]
  have hstp1:=aG.st.stp
  have bwd:=A1.wd0 i him hiD
  have hfB:g.word p.f.now i=0->g.pl i+g.c<=268435456:=fun h=>hq0i▸(Ad.room q0 hq0 (by rw[hq0i];exact h)).1
  refine gTable_c aG A1.img him (fun G6 e6 hw=>?_) (fun G6 bb cc e6 hw ob hbb hcc=>?_)
  ·skip
   exfalso
   have h1:=(Ad.fit q0 hq0).1
   have h2:g.cnt p.f.now q0=0:=by unfold Gm.cnt;rw[if_pos (by rw[hq0i,<-bwd];exact hw)]
   have h3:0<cntZ cl q0:=List.count_pos_iff.2 ((Q.mem q0).1 hq0)
   rw[h2]at h1
   omega
  ·have uX:=u
   have ok2:=ok1
   have he3:seqF (putBk g (-1) (cntZ cl) KS i::(BS.drop (j+1)).map (stepB g (-1) (cntZ cl) KS)) p1=addF g (-1) (cntZ cl) KS BS p:=by
    rw[<-he]
    unfold addF
    rw[List.map_cons]
    have hsb:stepB g (-1) (cntZ cl) KS i p1=putBk g (-1) (cntZ cl) KS i p1:=by
     unfold stepB
     have:getB g i p1=(p1,0):=by unfold getB;rw[if_neg hw]
     rw[seqF_two (by rw[this]),this]
    rw[seqF,seqF,hsb]
   have M:Mid g x (-1) (cntZ cl) KS p.f.now D i p1.f.now:=by
    have h1:getB g i p1=(p1,0):=by unfold getB;rw[if_neg hw]
    have:=getB_mid a.ok ok1 A1 him hiD hfB (by rw[h1])
    rw[h1]at this
    exact this
   have aX:=aG
   have hpst:p1.steps<=p.steps+j*W:=hst
   obtain⟨GX,hGX⟩:∃z,z=G:=⟨_,rfl⟩
   obtain⟨s2,hs2e⟩:∃z,z=s1:=⟨_,rfl⟩
   obtain⟨p2,hp2e⟩:∃z,z=p1:=⟨_,rfl⟩
   rw[<-hs2e,<-hGX]at uX
   rw[<-hs2e,<-hp2e,<-hGX]at aX
   rw[<-hGX]at e6 hbb
   rw[<-hp2e]at ok2 he3 M ob
   have hst2:p2.steps<=p1.steps+5:=by rw[hp2e];omega
   simp(disch:=omega)
   refine JoinN.mk ?_
   simp(disch:=omega)
   have hblk:=blk_len M.img him M.wi
   have hbb7:g7.size<=bb:=by have:=uX.mod.size;omega
   have hbf:¬s2.foot sp bb:=fun e=>by have:=aX.st.lt e;omega
   refine sclone_c (n:=g.c) ob.g.src ⟨_,_,rfl⟩ (one_bytes _) (by have:=a.ok.room_lt;omega) fun vw g8 e8 ow fw fw2=>?_
   have ob8:=(ob.ext e8).own
   have hbb8:bb<G6.size:=by
    obtain⟨arr,ha⟩:=ob.tag (b:=bb) rfl
    exact get_some_lt ha
   have hsz8:=e8.size
   have hsz6:=e6.size
   have hstX:=aX.st.stp
   simp(disch:=omega)
   refine loopX1 (α:=Nat) (fun z=>.int .i64 z) (fun z G=>z<=ks.length/\Mod (· = bb) g8 G/\OwnS 1 G (.slice (some ⟨bb,0,none⟩) g.c cc) ((addB g (-1) (cntZ cl) i (KS.take z) (g.blk p2.f.now i)).map byteV)) (fun z=>ks.length-z) 0 rfl ⟨Nat.zero_le _,.refl _ _,ob8⟩ ?_
   rintro j2 G9 ⟨hj2,m9,o9⟩ X2 hX2
   have eX9:Ext GX G9:=m9.ext_from (e6.trans e8) (fun b hb e=>Nat.lt_irrefl _ (Nat.lt_of_lt_of_le hb (by rw[e];exact hbb)))
   have a9:=aX.ext eX9
   by_cases hj2l:j2<ks.length
   ·obtain⟨bk,obk,rfl,hck⟩:=hkcell7 j2 hj2l
    have hbk7:bk<g7.size:=by simpa using hcell_lt hck
    have hbkh:h.size<=bk:=by have:=fr2 bk rfl;omega
    have hck9:hcell G9 (elt ⟨bk,obk,none⟩ j2)=some (.int .i64 ks[j2]):=(hcell_ext eX9 ((uX.mod.cell (by simpa using hbk7) (by simpa using nfoot bk hbkh)).trans hck))
    have hm9:MapK ik G9 h1.size L:=(hm7.mod uX.mod (nfoot h1.size omg)).ext eX9
    have hkin2:=hkin _ (List.getElem_mem hj2l)
    have hKj:KS[j2]'omg=(ks[j2]).toNat:=by simp only[hKS,List.getElem_map]
    have hKtk:KS.take (j2+1)=KS.take j2++[KS[j2]'omg]:=List.take_succ_eq_append_getElem omg
    obtain⟨k,hk⟩:∃k,(ks[j2]).toNat=k:=⟨_,rfl⟩
    have hkk:ks[j2]=((k:Nat):Int):=by omega
    rw[hkk]at hck9
    rw[hk]at hKj
    have c7:=cellOf (i:=7) a9.rg rfl
    have c18:=cellOf (i:=18) a9.rg rfl
    rw[a.hd.order]at c7
    obtain⟨DD,hDD⟩:∃D,k/g.n=D:=⟨_,rfl⟩
    obtain⟨MM,hMM⟩:∃M,k%g.n=M:=⟨_,rfl⟩
    have hMn:MM<g.n:=by rw[<-hMM];exact Nat.mod_lt _ omg
    have hkd:((k:Nat):Int)/((g.n:Nat):Int)=((DD:Nat):Int):=by rw[<-hDD];exact (Int.natCast_ediv _ _).symm
    have hkm:((k:Nat):Int)%((g.n:Nat):Int)=((MM:Nat):Int):=by rw[<-hMM];exact (Int.natCast_emod _ _).symm
    have hkroom:((k:Nat):Int)<g.room:=by omega
    simp(disch:=omega)
    refine JoinN.mk (JoinN.mk ?_)
    unfold ptrV
    simp(disch:=omega)[hck9,c18,hkd]
    by_cases hDi:DD=i
    ·have hDi':((DD:Nat):Int)=((i:Nat):Int):=by omega
     obtain⟨CT,hCT⟩:∃C,cl.count ((k:Nat):Int)=C:=⟨_,rfl⟩
     have hlk:=fun (q:Bool) (K:VP)=>look_t (K:=K) (q:=q) (k:=((k:Nat):Int)) hm9 ht
     simp only[hCT]at hlk
     have hct:=hctl ((k:Nat):Int)
     rw[hCT]at hct
     simp(disch:=omega)[hDi',c7,c18,hkm,hlk]
     have hturn:=M.turn a.ok Ad him hiD (j:=j2) omg (by rw[hKj,hDD];exact hDi)
     rw[hKj,hMM]at hturn
     have hfk:=Ad.fit k (hKj▸List.getElem_mem omg)
     have hcz:cntZ cl k=CT:=hCT
     rw[hcz]at hfk
     have hal:(addB g (-1) (cntZ cl) i (KS.take j2) (g.blk p2.f.now i)).length=g.c:=by rw[addB_len];exact hblk
     refine gCAdd_c a.ok o9 hal hMn omg (by rw[hturn];omega) (by rw[hturn];omega) fun G10 r10 m10 o10=>?_
     simp(disch:=omega)
     refine hX2 (j2+1) _ _ sM ⟨by omega,m9.trans m10 (fun _ _ h=>h),?_⟩ omg
     rw[hKtk,addB_snoc,hKj,hDD,if_pos hDi,hMM,hcz]
     simpa using o10
    ·have hDi':¬((DD:Nat):Int)=((i:Nat):Int):=by omega
     simp(disch:=omega)[hDi']
     refine hX2 (j2+1) _ _ sM ⟨by omega,m9,?_⟩ omg
     rw[hKtk,addB_snoc,hKj,hDD,if_neg hDi]
     exact o9
   ·obtain rfl:j2=ks.length:=by omega
    rw[<-hKl,List.take_length]at o9
    simp(disch:=omega)
    have hple:=(M.img.wi i him M.wi).2
    have hple2:=M.img.few
    have hPs:=putBk_stp (by_:=(-1)) (T:=cntZ cl) (ks:=KS) a.ok ok2 M.img him M.wi
    obtain⟨wa,wn,wc,rfl,hwl,hwc,hwb⟩:=ow.form
    have hwn:wn=g.c:=by rw[List.length_map,hblk]at hwl;omega
    subst hwn
    obtain⟨wb,wo,rfl⟩:=hwb (fun e=>by have:=congrArg List.length e;rw[List.length_map,hblk]at this;simp at this;omega)
    have hwbn:blkV (.slice (some ⟨wb,wo,none⟩) g.c wc)=some wb:=rfl
    have hwb8:=fw2 wb hwbn
    have hwbl:wb<g8.size:=ow.bytes.lt hwbn (fun e=>by rw[e]at hblk;simp at hblk;omega)
    have hbw9:Bytes G9 (.slice (some ⟨wb,wo,none⟩) g.c wc) (g.blk p2.f.now i):=ow.bytes.mod m9 (fun b hb e=>by rw[hwbn]at hb;cases hb;omega)
    have hsz9:=m9.size
    refine gWrite2_c (Q:=g.c/512) a.ok.c_div.symm a9 hblk (by rw[addB_len];exact hblk) hbw9 o9.bytes (fun e=>by have:=aX.st.lt e;omega) hbf omg omg omg omg fun G11 s3 u3 f3=>?_
    have f3':FsAt s3 (putBk g (-1) (cntZ cl) KS i p2).1:=f3
    have hE:(wrF (g.pl i) (g.blk p2.f.now i) (addB g (-1) (cntZ cl) i KS (g.blk p2.f.now i)) (g.c/512) 0 p2).2=(putBk g (-1) (cntZ cl) KS i p2).2:=rfl
    rw[hE]
    have u9:=uX.trans (u3.from_ eX9)
    by_cases he0:(putBk g (-1) (cntZ cl) KS i p2).2=0
    ·rw[he0]
     rw[seqF_cons he0]at he3
     simp(disch:=omega)
     refine hX (j+1,s3,(putBk g (-1) (cntZ cl) KS i p2).1,i::D) _ _ sM ⟨by dsimp only;omega,u9,f3',hPs.1.ok,putBk_after a.ok Ad ok2 him hiD M he0,fun i2=>?_,he3,?_⟩ (by dsimp only;omega)
     ·dsimp only
      rw[htake,List.mem_cons,List.mem_append,List.mem_singleton,hD]
      constructor
      ·rintro (h|h)
       ·exact .inr h
       ·exact .inl h
      ·rintro (h|h)
       ·exact .inr h
       ·exact .inl h
     ·have:=hPs.1.stp
      dsimp only
      rw[Nat.add_mul,Nat.one_mul]
      omega
    ·rw[seqF_err he0]at he3
     simp(disch:=omega)[he0]
     have:=H G11 s3 KS BS Q (u9.from_ E7)
     rw[<-he3]at this
     exact this f3'
end
section
variable {K:VP}{h:Heap}
def Gm.free(g:Gm)(B:List UInt8)(q:Nat):Prop:=g.cnt B q=0/\¬(g.word B (q/g.n)=0/\q%g.n=0)
def Gm.frees(g:Gm)(B:List UInt8)(st nn:Nat):Prop:=∀q,st<=q->q<st+nn->g.free B q
structure Seek (g:Gm) (B:List UInt8) (nn c bg:Nat):Prop where
 b1:1<=bg
 le:bg<=max 1 c
 fr:∀q,bg<=q->q<c->g.free B q
 few:c<bg+nn
 bad:bg=1\/¬g.free B (bg-1)
 no:∀st,1<=st->st+nn<=c->¬g.frees B st nn
theorem Seek.zero{g:Gm}{B:List UInt8}{nn:Nat}(h:1<=nn):Seek g B nn 0 1:=⟨Nat.le_refl _,by omega,fun q _ h=>by omega,by omega,.inl rfl,fun st h1 h2=>by omega⟩
theorem Seek.skip0{g:Gm}{B:List UInt8}{nn:Nat}(h:1<=nn)(s:Seek g B nn 0 1):Seek g B nn 1 1:=⟨Nat.le_refl _,by omega,fun q _ h=>by omega,by omega,.inl rfl,fun st h1 h2=>by omega⟩
theorem Seek.hit{g:Gm}{B:List UInt8}{nn c bg:Nat}(h:1<=nn)(s:Seek g B nn c bg)(hf:¬g.free B c)(hc:1<=c):Seek g B nn (c+1) (c+1) :=
 ⟨by omega,by omega,fun q h1 h2=>by omega,by omega,.inr (by rw[Nat.add_sub_cancel];exact hf),fun st h1 h2 hh=>by
  by_cases e:st+nn<=c
  ·exact s.no st h1 e hh
  ·exact hf (hh c omg omg)⟩
theorem Seek.go{g:Gm}{B:List UInt8}{nn c bg:Nat}(s:Seek g B nn c bg)(hf:g.free B c)(hc:1<=c)(hn:c+1<bg+nn):Seek g B nn (c+1) bg :=
 ⟨s.b1,by have:=s.le;omega,fun q h1 h2=>by
  by_cases e:q=c
  ·rw[e];exact hf
  ·exact s.fr q h1 omg,hn,s.bad,fun st h1 h2 hh=>by
  by_cases e:st+nn<=c
  ·exact s.no st h1 e hh
  ·rcases s.bad with hb|hb
   ·omega
   ·exact hb (hh (bg-1) omg (by have:=s.le;omega))⟩
structure Found (g:Gm) (B:List UInt8) (nn bg:Nat):Prop where
 b1:1<=bg
 le:bg<=g.room+1
 yes:bg+nn<=g.room->g.frees B bg nn
 first:∀st,1<=st->st+nn<=g.room->g.frees B st nn->bg<=st/\bg+nn<=g.room
theorem Seek.found{g:Gm}{B:List UInt8}{nn c bg:Nat}(s:Seek g B nn c bg)(hf:g.free B c)(hc:1<=c)(hn:c+1=bg+nn)(hr:c<g.room):Found g B nn bg :=
 ⟨s.b1,by have:=s.le;omega,fun _ q h1 h2=>by
  by_cases e:q=c
  ·rw[e];exact hf
  ·exact s.fr q h1 omg,fun st h1 h2 hh=>⟨by
  refine Nat.le_of_not_lt fun hlt=>?_
  exact s.no st h1 omg hh,by omega⟩⟩
theorem Seek.ends{g:Gm}{B:List UInt8}{nn bg:Nat}(s:Seek g B nn g.room bg):Found g B nn bg :=
 ⟨s.b1,by have:=s.le;omega,fun h=>by have:=s.few;omega,fun st h1 h2 hh=>absurd hh (s.no st h1 h2)⟩
set_option maxHeartbeats 8000000 in
theorem gRun_c{o sp:Nat}{g:Gm}{x:Hd}{s:St}{p:Fs}{nn:Nat}(a:RA h o sp g x s p)(I:Img g x p.f.now)(n1:1<=nn)(n2:nn<=1048576)
 (H6:∀h',Ext h h'->(∀st,1<=st->st+nn<=g.room->g.frees p.f.now st nn->268435456<(st+nn)*g.c)->K (.tuple #[.int .i64 0,.int .i64 6]) h')
 (H:∀h' st,Ext h h'->1<=st->st+nn<=g.room->g.frees p.f.now st nn->(st+nn)*g.c<=268435456->K (.tuple #[.int .i64 (st:Nat),.int .i64 0]) h') :
 CallsH Tryz.prog 40 #[ptrV o,.int .i64 (nn:Nat)] h K ⟨⟩:=by
 refine n40_calls ?_
 unfold n40;try delta vF vG vC vD vJ vV vk vt
 refine gRoom_c a.rg a.ok a.hd ?_
 have hrl:=a.ok.room_lt
 have hnn:=a.ok.n64
 have hm0:=a.ok.m0
 have hm8:8*g.m<=2621440:=by rw[a.ok.m8];exact hrl.2.1
 have hrm:g.room=g.m*g.n:=rfl
 have hdiv:((g.room:Nat):Int)/((g.n:Nat):Int)=((g.m:Nat):Int):=by
  rw[hrm,<-Int.natCast_ediv,Nat.mul_div_cancel _ omg]
 have c18:=cellOf (i:=18) a.rg rfl
 have c17:=cellOf (i:=17) a.rg rfl
 simp(disch:=omega)
 refine JoinN_in1 (fun v G=>∃bg,v = .int .i64 (bg:Nat)/\Ext h G/\Found g p.f.now nn bg) (fun kk hkk=>JoinN.mk ?_) (fun v G hG=>?_)
 ·refine loopX2 (α:=Nat×Nat) (fun z=>.int .i64 z.1) (fun z=>.int .i64 z.2) (fun z G=>z.2<=g.m/\Ext h G/\Seek g p.f.now nn (z.2*g.n) z.1) (fun z=>g.m-z.2) (1,0) ⟨rfl,rfl⟩ ⟨Nat.zero_le _,.refl _,by rw[Nat.zero_mul];exact .zero n1⟩ ?_
  rintro⟨bg,i⟩ G ⟨hi,eG,sk⟩ X hX
  dsimp only at hi eG sk hX ⊢
  have aG:=a.ext eG
  have d18:=cellOf (i:=18) aG.rg rfl
  unfold ptrV
  by_cases him:¬i<g.m
  ·obtain rfl:i=g.m:=by omega
   rw[<-hrm]at sk
   simp(disch:=omega)[d18,hdiv]
   exact hkk _ _ ⟨bg,rfl,eG,sk.ends⟩
  replace him:=Classical.not_not.1 him
  simp(disch:=omega)[d18,hdiv]
  refine InvokeH_f1k1 kR ?_
  obtain⟨IN,hIN⟩:∃IN,i*g.n=IN:=⟨_,rfl⟩
  have hINi:((i:Nat):Int)*((g.n:Nat):Int)=((IN:Nat):Int):=by rw[<-hIN,Int.natCast_mul]
  have hnext:(i+1)*g.n=IN+g.n:=by rw[Nat.add_mul,Nat.one_mul,hIN]
  have hle:=Nat.mul_le_mul_right g.n (show i+1<=g.m from him)
  rw[hnext,<-hrm]at hle
  rw[hIN]at sk
  have qd:∀k,k<g.n->(IN+k)/g.n=i/\(IN+k)%g.n=k:=fun k hk=>by
   rw[<-hIN,Nat.mul_comm i g.n]
   exact⟨by rw[Nat.mul_add_div omg,Nat.div_eq_of_lt hk,Nat.add_zero],by rw[Nat.mul_add_mod,Nat.mod_eq_of_lt hk]⟩
  rw[show (.pointer (some ⟨o,0,none⟩):Value)=ptrV o from rfl]
  refine gTable_c aG I him (fun G1 e1 hw=>?_) (fun G1 bb cc e1 hw ob hbb hcc=>?_)
  ·simp(disch:=omega)
   have d18':=cellOf (i:=18) (aG.ext e1).rg rfl
   unfold ptrV
   simp(disch:=omega)[d18']
   refine loopX2 (α:=Nat×Nat) (fun z=>.int .i64 z.1) (fun z=>.int .i64 z.2) (fun z G=>z.2<=g.n/\Ext G1 G/\Seek g p.f.now nn (IN+z.2) z.1) (fun z=>g.n-z.2) (bg,0) ⟨rfl,rfl⟩ ⟨Nat.zero_le _,.refl _,sk⟩ ?_
   rintro⟨b2,k⟩ G2 ⟨hk,e2,sk2⟩ X2 hX2
   dsimp only at hk e2 sk2 hX2 ⊢
   have a2:=(aG.ext e1).ext e2
   have f18:=cellOf (i:=18) a2.rg rfl
   have f7:=cellOf (i:=7) a2.rg rfl
   rw[a.hd.order]at f7
   have hb1:=sk2.b1
   have hb2:=sk2.le
   have hb3:=sk2.few
   have hmx:max 1 (IN+k)<=IN+k+1:=by omega
   by_cases hkn:¬k<g.n
   ·obtain rfl:k=g.n:=by omega
    rw[<-hnext]at sk2
    simp(disch:=omega)
    exact hX (b2,i+1) _ _ _ rfl sM ⟨by omega,eG.trans (e1.trans e2),sk2⟩ (by dsimp only;omega)
   replace hkn:=Classical.not_not.1 hkn
   obtain⟨hq1,hq2⟩:=qd k hkn
   have hIk:((IN:Nat):Int)+((k:Nat):Int)=((IN+k:Nat):Int):=by omega
   obtain⟨CL,hCL⟩:∃CL,IN+k=CL:=⟨_,rfl⟩
   rw[hCL]at hIk hb2 hb3 sk2 hmx hq1 hq2
   simp(disch:=omega)
   refine JoinN.mk (JoinN.mk ?_)
   simp(disch:=omega)[f18,hINi,hIk]
   have next:∀b3:Nat,∀G3,Ext G2 G3->Seek g p.f.now nn (CL+1) b3->X2 (.int .i64 (b3:Nat)) (.int .i64 ((k:Int)+1)) G3:=fun b3 G3 e3 sk3 =>
    hX2 (b3,k+1) _ _ _ rfl sM ⟨by omega,e2.trans e3,by show Seek g p.f.now nn (IN+(k+1)) b3;rw[<-Nat.add_assoc,hCL];exact sk3⟩ (by dsimp only;omega)
   by_cases hc0:CL=0
   ·have hc0':((CL:Nat):Int)=0:=by omega
    have hb21:b2=1:=by omega
    simp(disch:=omega)[hc0']
    refine next b2 G2 (.refl _) ?_
    rw[hc0]at sk2 ⊢
    rw[hb21]at sk2 ⊢
    exact sk2.skip0 n1
   have hc0':¬((CL:Nat):Int)=0:=by omega
   have hCLr:CL<g.room:=by omega
   simp(disch:=omega)[hc0']
   refine JoinN.mk ?_
   simp(disch:=omega)
   have hcz:g.cnt p.f.now CL=0:=by unfold Gm.cnt;rw[hq1,if_pos hw]
   by_cases hk0:k=0
   ·have hk0':((k:Nat):Int)=0:=by omega
    simp(disch:=omega)[hk0']
    have hnf:¬g.free p.f.now CL:=fun h=>h.2 ⟨by rw[hq1];exact hw,by rw[hq2];exact hk0⟩
    have:=next (CL+1) _ (.refl _) (sk2.hit n1 hnf omg)
    rw[show (((CL+1:Nat)):Int)=(CL:Int)+1 by omega]at this
    rw[hk0']at this
    exact this
   ·have hk0':¬((k:Nat):Int)=0:=by omega
    have hfr:g.free p.f.now CL:=⟨hcz,fun h=>hk0 (by rw[<-hq2];exact h.2)⟩
    simp(disch:=omega)[hk0']
    by_cases hfin:CL+1=b2+nn
    ·have hfin':((CL:Nat):Int)-(b2:Int)+1=(nn:Int):=by omega
     simp(disch:=omega)[hfin']
     exact hkk _ _ ⟨b2,rfl,eG.trans (e1.trans (e2.trans (.refl _))),sk2.found hfr omg hfin hCLr⟩
    ·have hfin':¬((CL:Nat):Int)-(b2:Int)+1=(nn:Int):=by omega
     simp(disch:=omega)[hfin']
     exact next b2 _ (.refl _) (sk2.go hfr omg omg)
  ·simp(disch:=omega)
   have d18':=cellOf (i:=18) (aG.ext e1).rg rfl
   unfold ptrV
   simp(disch:=omega)[d18']
   refine loopX2 (α:=Nat×Nat) (fun z=>.int .i64 z.1) (fun z=>.int .i64 z.2) (fun z G=>z.2<=g.n/\Ext G1 G/\Seek g p.f.now nn (IN+z.2) z.1) (fun z=>g.n-z.2) (bg,0) ⟨rfl,rfl⟩ ⟨Nat.zero_le _,.refl _,sk⟩ ?_
   rintro⟨b2,k⟩ G2 ⟨hk,e2,sk2⟩ X2 hX2
   dsimp only at hk e2 sk2 hX2 ⊢
   have a2:=(aG.ext e1).ext e2
   have f18:=cellOf (i:=18) a2.rg rfl
   have f7:=cellOf (i:=7) a2.rg rfl
   rw[a.hd.order]at f7
   have hb1:=sk2.b1
   have hb2:=sk2.le
   have hb3:=sk2.few
   have hmx:max 1 (IN+k)<=IN+k+1:=by omega
   by_cases hkn:¬k<g.n
   ·obtain rfl:k=g.n:=by omega
    rw[<-hnext]at sk2
    simp(disch:=omega)
    exact hX (b2,i+1) _ _ _ rfl sM ⟨by omega,eG.trans (e1.trans e2),sk2⟩ (by dsimp only;omega)
   replace hkn:=Classical.not_not.1 hkn
   obtain⟨hq1,hq2⟩:=qd k hkn
   have hIk:((IN:Nat):Int)+((k:Nat):Int)=((IN+k:Nat):Int):=by omega
   obtain⟨CL,hCL⟩:∃CL,IN+k=CL:=⟨_,rfl⟩
   rw[hCL]at hIk hb2 hb3 sk2 hmx hq1 hq2
   simp(disch:=omega)
   refine JoinN.mk (JoinN.mk ?_)
   simp(disch:=omega)[f18,hINi,hIk]
   have next:∀b3:Nat,∀G3,Ext G2 G3->Seek g p.f.now nn (CL+1) b3->X2 (.int .i64 (b3:Nat)) (.int .i64 ((k:Int)+1)) G3:=fun b3 G3 e3 sk3 =>
    hX2 (b3,k+1) _ _ _ rfl sM ⟨by omega,e2.trans e3,by show Seek g p.f.now nn (IN+(k+1)) b3;rw[<-Nat.add_assoc,hCL];exact sk3⟩ (by dsimp only;omega)
   by_cases hc0:CL=0
   ·have hc0':((CL:Nat):Int)=0:=by omega
    have hb21:b2=1:=by omega
    simp(disch:=omega)[hc0']
    refine next b2 G2 (.refl _) ?_
    rw[hc0]at sk2 ⊢
    rw[hb21]at sk2 ⊢
    exact sk2.skip0 n1
   have hc0':¬((CL:Nat):Int)=0:=by omega
   have hCLr:CL<g.room:=by omega
   simp(disch:=omega)[hc0',f7]
   refine JoinN.mk ?_
   have hbl:=blk_len I him hw
   simp(disch:=omega)[f7]
   refine CGet_c (ob.ext e2).g.bytes (by rw[hbl];omega) fun G3 e3=>?_
   rw[a.ok.getC_ hbl hkn]
   have hcq:g.cnt p.f.now CL=Vc.cnt (g.blk p.f.now i) g.w k:=by unfold Gm.cnt;rw[hq1,hq2,if_neg hw]
   rw[<-hcq]
   by_cases hx:g.cnt p.f.now CL=0
   ·have hfr:g.free p.f.now CL:=⟨hx,fun h=>hw (by rw[<-hq1];exact h.1)⟩
    rw[hx]
    simp(disch:=omega)
    by_cases hfin:CL+1=b2+nn
    ·have hfin':((CL:Nat):Int)-(b2:Int)+1=(nn:Int):=by omega
     simp(disch:=omega)[hfin']
     exact hkk _ _ ⟨b2,rfl,eG.trans (e1.trans (e2.trans e3)),sk2.found hfr omg hfin hCLr⟩
    ·have hfin':¬((CL:Nat):Int)-(b2:Int)+1=(nn:Int):=by omega
     simp(disch:=omega)[hfin']
     exact next b2 _ e3 (sk2.go hfr omg omg)
   ·have hnf:¬g.free p.f.now CL:=fun h=>hx h.1
    have hx':¬((g.cnt p.f.now CL:Nat):Int)=0:=by omega
    simp(disch:=omega)[hx']
    have:=next (CL+1) _ e3 (sk2.hit n1 hnf omg)
    rw[show (((CL+1:Nat)):Int)=(CL:Int)+1 by omega]at this
    exact this
 ·obtain⟨bg,rfl,eG,fd⟩:=hG
  have aG:=a.ext eG
  have d17:=cellOf (i:=17) aG.rg rfl
  have hb1:=fd.le
  obtain⟨TT,hTT⟩:∃T,(bg+nn)*g.c=T:=⟨_,rfl⟩
  have hsum:((bg:Nat):Int)+((nn:Nat):Int)=((bg+nn:Nat):Int):=by omega
  have hmul:((bg+nn:Nat):Int)*((g.c:Nat):Int)=((TT:Nat):Int):=by rw[<-hTT,Int.natCast_mul]
  obtain⟨BN,hBN⟩:∃B,bg+nn=B:=⟨_,rfl⟩
  rw[hBN]at hsum hmul
  have hTl:TT<=(171798691840+1048577)*65536:=by
   rw[<-hTT];exact Nat.mul_le_mul omg hrl.2.2
  unfold ptrV
  by_cases hgt:g.room<BN
  ·have hgt':((BN:Nat):Int)>((g.room:Nat):Int):=by omega
   simp(disch:=omega)[hsum,hgt']
   refine H6 G eG fun st h1 h2 h3=>?_
   have:=(fd.first st h1 h2 h3).2
   omega
  ·have hgt':¬((BN:Nat):Int)>((g.room:Nat):Int):=by omega
   by_cases hbig:268435456<TT
   ·have hbig':((TT:Nat):Int)>268435456:=by omega
    simp(disch:=omega)[hsum,hgt',d17,hmul,hbig']
    refine H6 G eG fun st h1 h2 h3=>?_
    have h4:=(fd.first st h1 h2 h3).1
    have:(bg+nn)*g.c<=(st+nn)*g.c:=Nat.mul_le_mul_right _ omg
    omega
   ·have hbig':¬((TT:Nat):Int)>268435456:=by omega
    simp(disch:=omega)[hsum,hgt',d17,hmul,hbig']
    exact H G bg eG fd.b1 omg (fd.yes omg) omg
end
section
variable {K:VP}{h:Heap}
def runL(st nn:Nat):List Int:=(List.range nn).map fun j=>((st+j:Nat):Int)
theorem runL_len(st nn:Nat):(runL st nn).length=nn:=by unfold runL;rw[List.length_map,List.length_range]
theorem runL_succ(st nn:Nat):runL st (nn+1)=runL st nn++[((st+nn:Nat):Int)]:=by unfold runL;rw[List.range_succ,List.map_append];rfl
theorem runL_mem{st nn:Nat}{k:Nat}:(k:Int)∈runL st nn↔st<=k/\k<st+nn:=by
 unfold runL
 rw[List.mem_map]
 constructor
 ·rintro⟨j,hj,he⟩
  have:=List.mem_range.1 hj
  omega
 ·rintro⟨h1,h2⟩
  exact⟨k-st,List.mem_range.2 omg,by omega⟩
theorem runL_memI{st nn:Nat}{k:Int}:k∈runL st nn↔0<=k/\st<=k.toNat/\k.toNat<st+nn:=by
 constructor
 ·intro h
  have h0:0<=k:=by
   unfold runL at h
   obtain⟨j,-,he⟩:=List.mem_map.1 h
   omega
  refine⟨h0,?_⟩
  rw[<-runL_mem,Int.toNat_of_nonneg h0];exact h
 ·rintro⟨h0,h1⟩
  have:=runL_mem.2 h1
  rw[Int.toNat_of_nonneg h0]at this
  exact this
theorem runL_nodup(st nn:Nat):(runL st nn).Nodup:=by
 unfold runL
 refine List.pairwise_map.2 (List.nodup_range.imp fun {a b} hne e=>hne omg)
theorem runL_cnt{st nn k:Nat}:cntZ (runL st nn) k=if st<=k/\k<st+nn then 1 else 0:=by
 unfold cntZ
 rw[List.Nodup.count (runL_nodup st nn)]
 by_cases hk:st<=k/\k<st+nn
 ·rw[if_pos hk,if_pos (runL_mem.2 hk)]
 ·rw[if_neg hk,if_neg (fun h=>hk (runL_mem.1 h))]
set_option maxHeartbeats 4000000 in
theorem gFree_c{o sp:Nat}{g:Gm}{x:Hd}{s:St}{p:Fs}{st nn:Nat}{place:Int}(a:RA h o sp g x s p)(I:Img g x p.f.now)(n1:1<=nn)(n2:nn<=1000)(hpl:place=((st*g.c:Nat):Int))(hst:st<=171798691840)(hcov:∀k:Nat,st<=k->k<st+nn->g.hold p.f.now k->1<g.cnt p.f.now k)
 (hs:p.steps+nn*(5+g.c/512)+1<1000000)
 (H4:∀h',Ext h h'->¬Inr g (runL st nn)->K (.int .i64 4) h')
 (H9:∀h',Ext h h'->Inr g (runL st nn)->(∃k:Nat,st<=k/\k<st+nn/\g.cnt p.f.now k=0)->K (.int .i64 9) h')
 (H:∀h' s' ks bs,Asked g (-1) (runL st nn) p.f.now ks bs->SUpd h h' sp s s'->FsAt s' (addF g (-1) (cntZ (runL st nn)) ks bs p).1->K (.int .i64 (addF g (-1) (cntZ (runL st nn)) ks bs p).2) h') :
 CallsH Tryz.prog 16 #[ptrV o,.int .i64 place,.int .i64 (nn:Nat)] h K ⟨⟩:=by
 refine n16_calls ?_
 unfold n16;try delta vF vG vC vD vJ vV vk vt
 refine gNone_c a.rg ?_
 obtain⟨q,hq,hq1,hq2⟩:=a.ok.c512
 have c17:=cellOf (i:=17) a.rg rfl
 obtain⟨PL,hPL⟩:∃P,st*g.c=P:=⟨_,rfl⟩
 have hPb:PL<=171798691840*65536:=by rw[<-hPL];exact Nat.mul_le_mul hst omg
 rw[hPL]at hpl
 subst hpl
 have hmod:((PL:Nat):Int)%((g.c:Nat):Int)=0:=by
  rw[<-Int.natCast_emod,<-hPL,Nat.mul_mod_left];rfl
 have hdiv:((PL:Nat):Int)/((g.c:Nat):Int)=((st:Nat):Int):=by
  rw[<-Int.natCast_ediv,<-hPL,Nat.mul_div_cancel _ omg]
 unfold ptrV
 simp(disch:=omega)[c17,hmod]
 refine loopX2 (α:=Nat×Value) (fun z=>z.2) (fun z=>.int .i64 z.1) (fun z G=>z.1<=nn/\Ext h G/\OwnG i6T 1 G z.2 ((runL st z.1).map ik)/\∀b,blkG z.2=some b->h.size<=b) (fun z=>nn-z.1) (0,.slice none 0 0) ⟨rfl,rfl⟩ ⟨Nat.zero_le _,.refl _,OwnG.nil,fun b hb=>by cases hb⟩ ?_
 rintro⟨j,v⟩ G ⟨hj,e,ov,fv⟩ X hX
 dsimp only at hj e ov fv hX ⊢
 have aG:=a.ext e
 by_cases hjn:j<nn
 ·have d17:=cellOf (i:=17) aG.rg rfl
  simp(disch:=omega)[d17,hdiv]
  obtain⟨g1,hg1⟩:∃X,X=G.push (.cells #[.int .i64 ((st:Int)+(j:Int))] 2):=⟨_,rfl⟩
  have e1:Ext G g1:=by rw[hg1];exact extS
  have sx:Src 1 g1 (.slice (some ⟨G.size,0,none⟩) 1 1) 1 [ik ((st:Int)+(j:Int))]:=by rw[hg1];exact Src_new (vs:=[ik ((st:Int)+(j:Int))]) rfl
  rw[<-hg1]
  clear hg1
  have hz1:=e1.size
  have hz:=e.size
  refine Hp_appendG (e:=i6T) (s:=1) (by_:=8) (n:=j) (k:=1) kR kR (ov.ext e1) (by rw[List.length_map,runL_len,Nat.mul_one]) omg sx (by intro u hu;rw[List.mem_singleton.1 hu];rfl) omg omg fun v' h' o' m' b' _=>?_
  simp(disch:=omega)
  refine hX (j+1,v') _ _ _ rfl sM ⟨by omega,m'.ext_from (e.trans e1) (fun b hb he=>by have:=fv b he;omega),?_,fun b hb=>(b' b hb).elim (fv b) (fun he=>by omega)⟩ (by dsimp only;omega)
  dsimp only
  rw[runL_succ,List.map_append]
  exact o'
 ·obtain rfl:j=nn:=by omega
  simp(disch:=omega)
  obtain⟨va,vn,vc,rfl,-,-,-⟩:=ov.form
  rw[show (.pointer (some ⟨o,0,none⟩):Value)=ptrV o from rfl]
  refine gAdd_c aG I omg ov (by rw[runL_len];exact n2) (fun k hk=>by have:=runL_memI.1 hk;omega) (fun e1=>absurd e1 dM) (fun _ k hk hh=>?_) (by rw[runL_len];exact hs) (fun h' e' h1 h2=>absurd rfl h2) (fun h' e' _ hno=>H4 h' (e.trans e') hno) (fun h' e' _ hin hex=>?_) (fun h' e' h1=>absurd h1 dM) (fun h' s' ks bs Q u f=>H h' s' ks bs Q (u.from_ e) f)
  ·have hk':=runL_mem.1 hk
   rw[runL_cnt,if_pos hk']
   exact hcov k hk'.1 hk'.2 hh
  ·obtain⟨k,hk,hlt⟩:=hex
   have hk':=runL_mem.1 hk
   rw[runL_cnt,if_pos hk']at hlt
   exact H9 h' (e.trans e') hin ⟨k,hk'.1,hk'.2,by omega⟩
end
end Go.Proofs.YtdccfkffabngjaaGreat

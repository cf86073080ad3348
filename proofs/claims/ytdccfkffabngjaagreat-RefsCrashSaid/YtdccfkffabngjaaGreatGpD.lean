/- Lemmas: what the functions do. -/
import Derived.Test.YtdccfkffabngjaaGreatGpC
import Derived.Test.YtdccfkffabngjaaGreatGpB
import Derived.Test.YtdccfkffabngjaaGreatVcRange
import Derived.Test.YtdccfkffabngjaaGreatNice
import Derived.Test.YtdccfkffabngjaaGreatFacts
import Derived.Test.YtdccfkffabngjaaGreatCnt
import Derived.Test.YtdccfkffabngjaaGreatBytes
import Derived.Test.YtdccfkffabngjaaGreatGpA
set_option linter.unusedSimpArgs false
set_option linter.unusedVariables false
set_option maxRecDepth 20000
namespace Go.Proofs.YtdccfkffabngjaaGreat
open Go.Vc
section
open Go.Vc Go.Sort
theorem bl_irr:∀x:List UInt8,Op.bytesLess x x=false
 | []=>rfl
 | a::x=>by simp[Op.bytesLess,bl_irr x]
theorem u8_lt{a b:UInt8}:a<b↔a.toNat<b.toNat:=UInt8.lt_iff_toNat_lt
theorem u8_eq{a b:UInt8}:a=b↔a.toNat=b.toNat:=⟨fun e=>by rw[e],fun e=>UInt8.toNat_inj.1 e⟩
theorem bl_tri:∀x y:List UInt8,Op.bytesLess x y=false->Op.bytesLess y x=false->x=y
 | [],[],_,_=>rfl
 | [],b::y,h,_=>by simp[Op.bytesLess]at h
 | a::x,[],_,h=>by simp[Op.bytesLess]at h
 | a::x,b::y,h1,h2=>by
  simp only[Op.bytesLess,Bool.or_eq_false_iff,Bool.and_eq_false_iff,decide_eq_false_iff_not,beq_eq_false_iff_ne,u8_lt]at h1 h2
  have:a=b:=u8_eq.2 omg
  subst this
  rw[bl_tri x y (h1.2.resolve_left sM) (h2.2.resolve_left sM)]
theorem bl_trans:∀x y z:List UInt8,Op.bytesLess x y=true->Op.bytesLess y z=true->Op.bytesLess x z=true
 | _,[],_,h,_=>by cases ‹List UInt8› <;> simp[Op.bytesLess]at h
 | _,_::_,[],_,h=>by simp[Op.bytesLess]at h
 | [],_::_,_::_,_,_=>by simp[Op.bytesLess]
 | a::x,b::y,c::z,h1,h2=>by
  simp only[Op.bytesLess,Bool.or_eq_true,Bool.and_eq_true,decide_eq_true_eq,beq_iff_eq,u8_lt]at h1 h2 ⊢
  rcases h1 with h1|⟨rfl,h1⟩
  ·rcases h2 with h2|⟨rfl,h2⟩
   ·left;omega
   ·left;exact h1
  ·rcases h2 with h2|⟨rfl,h2⟩
   ·left;exact h2
   ·right;exact⟨rfl,bl_trans x y z h1 h2⟩
def cmS(x y:List UInt8):Int:=if Op.bytesLess x y=true then -1 else 0
theorem ltS(x y:List UInt8):ltC cmS x y=Op.bytesLess x y:=by
 unfold ltC cmS
 split
 ·rename_i h;rw[h];rfl
 ·rename_i h;simp at h;rw[h];rfl
theorem swoS:SWO (ltC cmS):=by
 refine⟨fun x=>by rw[ltS,bl_irr],fun x y z=>by rw[ltS,ltS,ltS];exact bl_trans x y z,fun x y z=>?_⟩
 rw[ltS,ltS,ltS]
 intro h1 h2
 cases h3:Op.bytesLess x z with
 | false=>rfl
 | true =>
  cases h4:Op.bytesLess y x with
  | true=>have:=bl_trans y x z h4 h3;rw[h2]at this;cases this
  | false=>rw[bl_tri x y h1 h4]at h3;rw[h3]at h2;cases h2
section
variable {K:VP}{h:Heap}
theorem isNaNS_c{l:List UInt8}(H:K (.bool false) h):CallsH Tryz.prog 199 #[str l] h K ⟨⟩:=by
 refine n199_calls ?_
 unfold n199;try delta vF vG vC vD vJ vV vk vt
 simp(disch:=omega)
 exact H
theorem lessS_ok:LessOk (α:=List UInt8) Tryz.prog 185 str cmS:=by
 intro x y g K H
 refine n185_calls ?_
 unfold n185;try delta vF vG vC vD vJ vV vk vt
 refine isNaNS_c ?_
 simp(disch:=omega)
 have:decide (cmS x y<0)=Op.bytesLess x y:=ltS x y
 rw[this]at H
 rw[Hp_lssStr]
 simp(disch:=omega)
 exact H
theorem sortStr_c{l:List (List UInt8)}{v:Value}(hv:OwnT 9 1 h v (l.map str))(hl:l.length<100000)
 (H:∀h' (l':List (List UInt8)),l'.Perm l->l'.Pairwise (fun x y=>Op.bytesLess y x=false)->OwnT 9 1 h' v (l'.map str)->Mod (fun b=>blkV v=some b) h h'->K (.tuple #[]) h'):CallsH Tryz.prog 136 #[v] h K ⟨⟩:=by
 refine sortS_c (α:=List UInt8) (val:=str) (cm:=cmS) hv hl lessS_ok (fun _=>rfl) swoS fun h' l' a1 a2 a3 a4=>H h' l' a1 (a2.imp fun e=>?_) a3 a4
 rw[ltS]at e
 exact e
theorem isNaNL_c{n:Int}(H:K (.bool false) h):CallsH Tryz.prog 178 #[.int .i64 n] h K ⟨⟩:=by
 refine n178_calls ?_
 unfold n178;try delta vF vG vC vD vJ vV vk vt
 simp(disch:=omega)
 exact H
theorem swo_subL:SWO (ltC (fun x y:Int=>x-y)):=by
 refine⟨fun x=>?_,fun x y z=>?_,fun x y z=>?_⟩<;>unfold ltC
 ·simp
 ·simp;omega
 ·simp;omega
theorem lessL_ok:LessOk (α:=Int) Tryz.prog 157 (.int .i64) (fun x y=>x-y):=by
 intro x y g K H
 dsimp only at H
 refine n157_calls ?_
 unfold n157;try delta vF vG vC vD vJ vV vk vt
 refine isNaNL_c ?_
 simp(disch:=omega)
 by_cases e:x<y
 ·rw[decide_eq_true omg]at H
  simp(disch:=omega)[e]
  exact H
 ·rw[decide_eq_false omg]at H
  simp(disch:=omega)[e]
  exact H
theorem sortL64_c{l:List Int}{v:Value}(hv:OwnT 2 1 h v (l.map (.int .i64)))(hl:l.length<100000)
 (H:∀h' (l':List Int),l'.Perm l->l'.Pairwise (· <= ·)->OwnT 2 1 h' v (l'.map (.int .i64))->Mod (fun b=>blkV v=some b) h h'->K (.tuple #[]) h'):CallsH Tryz.prog 96 #[v] h K ⟨⟩:=by
 refine sortL_c (α:=Int) (val:=.int .i64) (cm:=fun x y=>x-y) hv hl lessL_ok (fun _=>rfl) swo_subL fun h' l' a1 a2 a3 a4=>H h' l' a1 (a2.imp fun e=>?_) a3 a4
 unfold ltC at e
 have:=of_decide_eq_false e
 dsimp only at this
 omega
end
end
section
variable {K:VP}{h:Heap}
def stT:Nat:=9
def lsT:Nat:=120
theorem range_filterS{α:Type}:∀(H:List α),(List.range H.length).filterMap (fun i=>H[i]?)=H
 | []=>rfl
 | x::l=>by
  rw[List.length_cons,List.range_succ_eq_map,List.filterMap_cons]
  simp only[List.getElem?_cons_zero,List.filterMap_map]
  congr 1
  exact range_filterS l
set_option maxHeartbeats 2000000 in
theorem AppendKeys_c{b m:Nat}{l:List (List UInt8×Value)}(hb:h[b]? = some (.cells #[.map (some m)] 142))(hm:MapK str h m l)(hl:l.length<100000)
 (H:∀h' v (L:List (List UInt8)),Ext h h'->L.Perm (l.map (·.1))->OwnT stT 1 h' v (L.map str)->(∀b,blkV v=some b->h.size<=b)->K v h') :
 CallsH Tryz.prog 162 #[.slice none 0 0,.func (.func 137) #[] #[ptrV b]] h K ⟨⟩:=by
 refine n162_calls ?_
 unfold n162;try delta vF vG vC vD vJ vV vk vt
 simp(disch:=omega)
 refine JoinN_in1 (fun D g=>D=consD (h.size+1) (.tuple #[])/\g[h.size+1]? = some (.deferred (some []))/\Ext h g/\∃v,∃L:List (List UInt8),g[h.size]? = some (.cells #[v] lsT)/\L.Perm (l.map (·.1))/\OwnT stT 1 g v (L.map str)/\(∀b,blkV v=some b->h.size+2<=b)) (fun kk hkk=>?_) (fun D g hD=>?_)
 ·refine JoinN.mk ?_
  have hbl:=get_some_lt hb
  have hml:=hm.lt
  refine (⟨_,rfl⟩:∃g,g=h.push (.cells #[.slice none 0 0] lsT)).elim fun h0 eh0=>?_
  have e0:Ext h h0:=by rw[eh0];exact extS
  have z0:h0.size=h.size+1:=by rw[eh0];simp
  have q0:h0[h.size]? = some (.cells #[.slice none 0 0] lsT):=by rw[eh0];exact get_pushed rfl
  rw[show h.push (.cells #[.slice none 0 0] 120)=h0 from eh0.symm]
  clear eh0
  refine RangeC_none rfl fun oR oB oE oX oF Kp hoR hoB hrd hN hR hX=>?_
  refine (⟨_,rfl⟩:∃g,g=(h0.push (.deferred (some []))).push oR).elim fun h1 eh1=>?_
  have e1:Ext h0 h1:=by rw[eh1];exact extS
  have z1:h1.size=h.size+3:=by rw[eh1];simp[z0]
  have rD:h1[h.size+1]? = some (.deferred (some [])):=by rw[eh1,get_push (by simp;omega),get_pushed omg]
  have rL:h1[h.size+2]? = some oR:=by rw[eh1,get_pushed (by simp;omega)]
  rw[<-eh1]
  clear eh1
  rw[z0]at hrd hN ⊢
  refine InvokeH_k1 kR ?_
  refine n137_calls ?_
  unfold n137 ptrV;try delta vF vG vC vD vJ vV vk vt
  have c0:=cellOf (i:=0) (((e0.trans e1).block b hbl).trans hb) rfl
  simp(disch:=omega)[c0]
  refine Hp_rangeM kR ((hm.ext e0).ext e1) fun h2 e2 hit hs2=>?_
  have q2:=(e2.block h.size omg).trans ((e1.block h.size omg).trans q0)
  refine loopMap0 (fun I g=>Ext h g/\g[h.size+1]? = some (.deferred (some []))/\g[h.size+2]? = some oR/\∃v,g[h.size]? = some (.cells #[v] lsT)/\OwnT stT 1 g v ((I.filterMap (fun i=>(l.map (·.1))[i]?)).map str)/\(∀b,blkV v=some b->h.size+2<=b)) hit ⟨(e0.trans e1).trans e2,(e2.block _ omg).trans rD,(e2.block _ omg).trans rL,_,q2,.nil,fun b hb=>by cases hb⟩ ?_
  rintro I g hI hn hlt ⟨eg,gD,gL,v,gv,ov,fv⟩ X hX
  have hIl:=nodup_len hn hlt
  refine Hp_next hI (fun i hi hiI g' m' hI'=>?_) (fun hall=>?_)
  ·simp(disch:=omega)
   rw[Hp_entry hI' hi]
   simp(disch:=omega)
   have mI:∀b,b=h2.size-1\/True:=fun _=>.inr trivial
   have hq:h.size<g.size:=get_some_lt gv
   obtain⟨es,cl,m1,-,-,-,m6,-,-⟩:=hI
   have hitq:h.size≠h1.size:=by omega
   have gv':=(m'.block h.size hq hitq).trans gv
   have gD':=(m'.block (h.size+1) (get_some_lt gD) omg).trans gD
   have gL':=(m'.block (h.size+2) (get_some_lt gL) omg).trans gL
   have hvit:∀b,blkV v=some b->b≠h1.size:=fun b hb e=>by
    obtain⟨arr,ha⟩:=ov.tag hb
    rw[e,m6]at ha;cases ha
   have ov':=ov.mod m' (fun b hb e=>hvit b hb e)
   have eg':Ext h g':=m'.ext_from eg (fun b hb e=>by omega)
   refine hrd [str (l[i]).1] g' _ rfl gL' ⟨gL',?_⟩
   refine (⟨_,rfl⟩:∃f,f=g'.setIfInBounds (h.size+1+1) oB).elim fun gB egB=>?_
   have mB:Mod (· = h.size+2) g' gB:=by rw[egB];exact Mod.put _ _ _
   have gLB:gB[h.size+2]? = some oB:=by rw[egB];exact get_put (get_some_lt gL')
   rw[<-egB]
   clear egB
   have gvB:=(mB.block h.size (get_some_lt gv') omg).trans gv'
   have gDB:=(mB.block (h.size+1) (get_some_lt gD') omg).trans gD'
   have hvl:∀b,blkV v=some b->b≠h.size+2:=fun b hb e=>by
    obtain⟨arr,ha⟩:=ov'.tag hb
    rw[e,gL']at ha
    cases ha;cases hoR
   have ovB:=ov'.mod mB (fun b hb e=>hvl b hb e)
   have hIB:=hI'.mod mB (fun e=>by omega) (fun e=>by omega)
   have eB:Ext h gB:=mB.ext_from eg' (fun b hb e=>by omega)
   have c0:=cellOf (i:=0) gvB rfl
   obtain⟨va,vn,vc,rfl,hvn,-,-⟩:=ov.form omg
   simp(disch:=omega)[c0,getV]
   have hkl:(I.filterMap (fun i=>(l.map (·.1))[i]?)).length<=I.length:=List.length_filterMap_le _ _
   have hf:(I++[i]).filterMap (fun i=>(l.map (·.1))[i]?)=I.filterMap (fun i=>(l.map (·.1))[i]?)++[(l[i]).1]:=by
    rw[List.filterMap_append]
    congr 1
    rw[List.filterMap_cons,List.getElem?_map,List.getElem?_eq_getElem hi]
    rfl
   refine Hp_appP (e:=stT) (by_:=16) kR kR ovB rfl (by rw[List.length_map];omega) omg fun v' h3 o3 m3 f3=>?_
   have hvq:∀b,blkV (.slice va vn vc)=some b->b≠h.size:=fun b hb=>ovB.ne hb gvB dM
   have hvD:∀b,blkV (.slice va vn vc)=some b->b≠h.size+1:=fun b hb e=>by
    obtain⟨arr,ha⟩:=ovB.tag hb
    rw[e,gDB]at ha;cases ha
   have gv3:=(m3.block h.size (get_some_lt gvB) (fun e=>hvq _ e rfl)).trans gvB
   have gD3:=(m3.block (h.size+1) (get_some_lt gDB) (fun e=>hvD _ e rfl)).trans gDB
   have gL3:=(m3.block (h.size+2) (get_some_lt gLB) (fun e=>by
    obtain⟨arr,ha⟩:=ovB.tag e
    rw[gLB]at ha;cases ha;cases hoB)).trans gLB
   have k0:=cellOf (i:=0) gv3 rfl
   have f0:=frzOf (i:=0) gv3
   obtain⟨wa,wn,wc,rfl,-,-,-⟩:=o3.form omg
   have hmm:m≠h.size:=by omega
   have hvm:∀b,blkV (.slice va vn vc)=some b->b≠m:=fun b hb e=>by
    obtain⟨es',cl',n1,-⟩:=hIB
    obtain⟨arr,ha⟩:=ovB.tag hb
    rw[e,n1]at ha;cases ha
   have hvi:∀b,blkV (.slice va vn vc)=some b->b≠h1.size:=fun b hb e=>by
    obtain⟨es',cl',-,-,-,-,n6,-⟩:=hIB
    obtain⟨arr,ha⟩:=ovB.tag hb
    rw[e,n6]at ha;cases ha
   have hI3:=hIB.mod m3 (fun e=>hvi _ e rfl) (fun e=>hvm _ e rfl)
   have hbz:=eB.size
   have e3:Ext h h3:=m3.ext_from eB (fun b hb e=>by have:=fv b e;omega)
   simp(disch:=omega)[k0,f0]
   have gL4:(hset h3 ⟨h.size,0,none⟩ (.slice wa wn wc))[h.size+2]? = some oB:=(get_hset' omg).trans gL3
   refine⟨gL4,?_⟩
   have m4:Mod (fun b=>b=h.size\/b=h.size+2) h3 ((hset h3 ⟨h.size,0,none⟩ (.slice wa wn wc)).setIfInBounds (h.size+1+1) oR):=Mod.putIn (Mod.setIn (Mod.refl _ _) (.inl (.inl rfl))) (.inl (.inr rfl))
   have hwq:∀b,blkV (.slice wa wn wc)=some b->b≠h.size/\b≠h.size+2:=fun b hb=>⟨o3.ne hb gv3 dM,fun e=>by
    obtain⟨arr,ha⟩:=o3.tag hb
    rw[e,gL3]at ha;cases ha;cases hoB⟩
   refine hX i _ hiI hi (hI3.mod m4 (fun e=>by omega) (fun e=>by omega)) ⟨m4.ext_from e3 (fun b hb e=>by omega),?_,get_put (by rw[hset_size];exact get_some_lt gL3),.slice wa wn wc,?_,?_,?_⟩
   ·exact (m4.block (h.size+1) (get_some_lt gD3) omg).trans gD3
   ·exact (get_putne omg).trans (obj_set gv3)
   ·rw[hf,List.map_append]
    exact o3.mod m4 (fun b hb e=>by have:=hwq b hb;omega)
   ·exact fun b hb=>(f3 b hb).elim (fv b) (fun e=>by have:=get_some_lt gLB;omega)
  ·simp(disch:=omega)
   refine hN _ _ gL ?_
   dsimp only
   have gLl:=get_some_lt gL
   have hlen:(l.map (·.1)).length=l.length:=List.length_map _
   have hperm:(I.filterMap (fun i=>(l.map (·.1))[i]?)).Perm (l.map (·.1)):=by
    have hp:I.Perm (List.range (l.map (·.1)).length):=by
     refine (List.perm_ext_iff_of_nodup hn List.nodup_range).2 fun i=>⟨fun hi=>?_,fun hi=>hall i (by simp at hi;omega)⟩
     have:=hlt i hi
     simp;omega
    have h2:=hp.filterMap (fun i=>(l.map (·.1))[i]?)
    rw[range_filterS]at h2
    exact h2
   refine hkk _ _ ⟨rfl,(get_putne omg).trans gD,Mod.ext_from eg (Mod.put _ _ _) (fun b hb e=>by omega),v,_,(get_putne omg).trans gv,hperm,ov.mod (Mod.put _ _ _) (fun b hb e=>?_),fv⟩
   obtain⟨arr,ha⟩:=ov.tag hb
   have e':b=h.size+1+1:=e
   rw[e',gL]at ha;cases ha;cases hoR
 ·obtain⟨rfl,hd,eg,v,L,hv,hp,ho,hf⟩:=hD
  have c0:=cellOf (i:=0) hv rfl
  simp(disch:=omega)[c0]
  refine RetD_one' hd ?_
  have md:=Mod.put g (h.size+1) (.deferred none)
  refine H _ v L (md.ext_from eg (fun b hb e=>by omega)) hp (ho.mod md (fun b hb e=>?_)) (fun b hb=>by have:=hf b hb;omega)
  obtain⟨arr,ha⟩:=ho.tag hb
  rw[e,hd]at ha;cases ha
theorem Names_c{p:Nat}{s:St}(a:StAt h p s)(H:∀h' v (L:List (List UInt8)),Ext h h'->L.Perm (s.F.map (·.name))->L.Pairwise (fun x y=>Op.bytesLess y x=false)->OwnT stT 1 h' v (L.map str)->(∀b,blkV v=some b->h.size<=b)->K v h') :
 CallsH Tryz.prog 58 #[ptrV p] h K ⟨⟩:=by
 refine n58_calls ?_
 unfold n58;try delta vF vG vC vD vJ vV vk vt
 refine none_c a.cells ?_
 have c0:=cellOf (i:=0) a.cells rfl
 have hfew:=a.few
 unfold ptrV
 simp(disch:=omega)[c0]
 refine n112_calls ?_
 unfold n112;try delta vF vG vC vD vJ vV vk vt
 simp(disch:=omega)
 refine n111_calls ?_
 unfold n111;try delta vF vG vC vD vJ vV vk vt
 refine n135_calls ?_
 unfold n135;try delta vF vG vC vD vJ vV vk vt
 have e0:Ext h (h.push (.cells #[.map (some s.m)] 142)):=extS
 have hkl:s.keys.length=s.F.length:=List.length_map _
 have hkn:s.keys.map (·.1)=s.F.map (·.name):=by unfold St.keys;rw[List.map_map];rfl
 refine AppendKeys_c (b:=h.size) (m:=s.m) (l:=s.keys) (get_pushed rfl) (a.map.ext e0) omg fun h1 v L e1 p1 o1 f1=>?_
 have hz0:=e0.size
 have hLl:L.length=s.F.length:=by rw[p1.length_eq,List.length_map,hkl]
 refine sortStr_c o1 omg fun h2 L' p2 q2 o2 m2=>?_
 refine H h2 v L' (m2.ext_from (e0.trans e1) (fun b hb e=>by have:=f1 b e;omega)) (p2.trans (hkn▸p1)) q2 o2 (fun b hb=>by have:=f1 b hb;omega)
end
section
variable {K:VP}{h:Heap}
def psT:Nat:=178
def peT:Nat:=180
structure Pseq (h:Heap) (sb:Nat) (v:Value) (L:List (Int×Int)):Prop where
 cell:h[sb]? = some (.cells #[v] psT)
 row:OwnG peT 2 h v (L.flatMap faV)
 few:L.length<=1000000000000
def ppL(ps:List Pc):List (Int×Int):=ps.map fun p=>((p.at_:Int),(p.b.length:Int))
def St.psOf(s:St)(l:List UInt8):List Pc:=if okName l then (match s.get l with|some x=>x.f.ps|none=>[]) else []
end
section
variable {K:VP}{h:Heap}
def nA:List UInt8:=[97]
theorem okN_A:okName nA:=by unfold okName nA;simp
structure Fs where
 f:Fl
 fates:List (Int×Int)
 steps:Nat
def Fs.e(p:Fs):Int:=fateE p.fates
def Fs.write(p:Fs)(k:Nat)(b:List UInt8):Fs:=⟨p.f.writes (went (fateE p.fates) (fateK p.fates) (cutP k b)),p.fates.tail,p.steps+1⟩
def Fs.flush(p:Fs):Fs:=⟨p.f.flush (wentN (fateE p.fates) (fateK p.fates) p.f.ps.length),p.fates.tail,p.steps+1⟩
def Fs.size(p:Fs)(n:Nat):Fs:=⟨if fateE p.fates=0 then p.f.size n else p.f,p.fates.tail,p.steps+1⟩
def FsAt(s:St)(p:Fs):Prop:=s.fates=p.fates/\s.steps=p.steps/\∃x,s.F=[x]/\x.f=p.f/\x.name=nA
theorem FsAt.get{s:St}{p:Fs}(a:FsAt s p):∃x,s.F=[x]/\x.f=p.f/\x.name=nA/\s.get nA=some x:=by
 obtain⟨-,-,x,h1,h2,h4⟩:=a
 refine⟨x,h1,h2,h4,?_⟩
 unfold St.get
 rw[h1,List.find?_cons];simp[h4]
theorem oneSplit{α:Type}{x y:α}{A B:List α}(h:[x]=A++y::B):A=[]/\B=[]/\y=x:=by
 cases A with
 | nil=>simp at h;exact⟨rfl,h.2,h.1.symm⟩
 | cons a A=>simp at h
theorem FsAt.ok{sp:Nat}{s:St}{p:Fs}(a:FsAt s p)(b:StAt h sp s):p.f.ok:=by
 obtain⟨x,h1,h2,-,-⟩:=a.get
 rw[<-h2]
 exact (b.fl x (by rw[h1];simp)).ok
theorem FsAt.last{s:St}{p:Fs}(a:FsAt s p){x:Fh}(hx:x∈s.F):x.f=p.f/\x.last=p.f.last/\s.get nA=some x:=by
 obtain⟨y,h1,h2,-,h4⟩:=a.get
 rw[h1]at hx
 obtain rfl:x=y:=by simpa using hx
 exact⟨h2,by rw[<-h2];rfl,h4⟩
theorem sWrite_c{sp:Nat}{s:St}{p:Fs}{k:Int}{b:List UInt8}{v:Value}(a:StAt h sp s)(fs:FsAt s p)(hB:Bytes h v b)(hbl:b.length<=268435456)(hv:b≠[]->∀c,blkV v=some c->¬s.foot sp c)
 (h0:0<=k) (h1:k+b.length<=268435456) (hs:p.steps+1<1000000)
 (H:∀h' s',SUpd h h' sp s s'->FsAt s' (p.write k.toNat b)->K (.int .i64 p.e) h') :
 CallsH Tryz.prog 30 #[ptrV sp,str nA,.int .i64 k,v] h K ⟨⟩:=by
 obtain⟨y,hy1,hy2,hy3,hy4⟩:=fs.get
 have hwe:wErr s nA k b=0:=by
  unfold wErr
  rw[if_pos okN_A,hy4]
  dsimp only
  rw[if_neg omg,if_neg omg]
 refine Write_c a dM hB hbl hv omg omg (by rw[fs.2.1];exact hs) (fun h1 e1 hne=>absurd hwe hne) (fun h1 A B x x' fv hF hn _ _ hn' hf u=>?_)
 rw[hy1]at hF
 obtain⟨rfl,rfl,rfl⟩:=oneSplit hF
 have he:fateE s.fates=p.e:=by unfold Fs.e;rw[fs.1]
 rw[he]
 refine H h1 _ u ⟨by show s.fates.tail=_;rw[fs.1];rfl,by show s.steps+1=p.steps+1;rw[fs.2.1],x',rfl,?_,hn'.trans hy3⟩
 rw[hf,hy2,fs.1];rfl
theorem sFlush_c{sp:Nat}{s:St}{p:Fs}(a:StAt h sp s)(fs:FsAt s p)(hs:p.steps+1<1000000)
 (H:∀h' s',SUpd h h' sp s s'->FsAt s' p.flush->K (.int .i64 p.e) h') :
 CallsH Tryz.prog 31 #[ptrV sp,str nA] h K ⟨⟩:=by
 obtain⟨y,hy1,hy2,hy3,hy4⟩:=fs.get
 have hwe:fErr s nA=0:=by unfold fErr;rw[if_pos okN_A,hy4]
 refine Flush_c a dM (by rw[fs.2.1];exact hs) (fun h1 e1 hne=>absurd hwe hne) (fun h1 A B x x' fv hF hn hn' hf u=>?_)
 rw[hy1]at hF
 obtain⟨rfl,rfl,rfl⟩:=oneSplit hF
 have he:fateE s.fates=p.e:=by unfold Fs.e;rw[fs.1]
 rw[he]
 refine H h1 _ u ⟨by show s.fates.tail=_;rw[fs.1];rfl,by show s.steps+1=p.steps+1;rw[fs.2.1],x',rfl,?_,hn'.trans hy3⟩
 rw[hf,hy2,fs.1];rfl
theorem sSize_c{sp:Nat}{s:St}{p:Fs}(a:StAt h sp s)(fs:FsAt s p)(H:∀h',Ext h h'->K (.tuple #[.int .i64 p.f.last.length,.int .i64 0]) h') :
 CallsH Tryz.prog 11 #[ptrV sp,str nA] h K ⟨⟩:=by
 obtain⟨y,hy1,hy2,hy3,hy4⟩:=fs.get
 have hwe:fErr s nA=0:=by unfold fErr;rw[if_pos okN_A,hy4]
 refine Size_c a dM (fun h1 e1 hne=>absurd hwe hne) (fun h1 x e1 hx hn=>?_)
 rw[(fs.last hx).2.1]
 exact H h1 e1
theorem sRead_c{sp:Nat}{s:St}{p:Fs}{k n:Int}(a:StAt h sp s)(fs:FsAt s p)(k0:0<=k)(k1:k<=p.f.last.length)(n0:0<=n)(n1:n<9223372036854775808)
 (H:∀h' v,Ext h h'->OwnT bT 1 h' v (((p.f.now.drop k.toNat).take n.toNat).map byteV)->(∀b,blkV v=some b->h.size<=b)->K (.tuple #[v,.int .i64 0]) h') :
 CallsH Tryz.prog 33 #[ptrV sp,str nA,.int .i64 k,.int .i64 n] h K ⟨⟩:=by
 obtain⟨y,hy1,hy2,hy3,hy4⟩:=fs.get
 have ho:=fs.ok a
 have hl:=ho.few
 have hyl:y.last=p.f.last:=by rw[<-hy2];rfl
 have hwe:rdErr s nA k n=0:=by
  unfold rdErr;rw[if_pos okN_A,hy4];dsimp only;rw[if_neg];rw[hyl];omega
 refine Read_cT a dM omg omg omg n1 (fun h1 e1 hne=>absurd hwe hne) (fun h1 x v e1 hx _ _ _ _ o f2=>?_)
 rw[(fs.last hx).1]at o
 exact H h1 v e1 o f2
theorem sResize_c{sp:Nat}{s:St}{p:Fs}{n:Int}(a:StAt h sp s)(fs:FsAt s p)(hs:p.steps+1<1000000)(n0:0<=n)(n1:n<=268435456)
 (H:∀h' s',SUpd h h' sp s s'->FsAt s' (p.size n.toNat)->K (.int .i64 p.e) h') :
 CallsH Tryz.prog 57 #[ptrV sp,str nA,.int .i64 n] h K ⟨⟩:=by
 obtain⟨y,hy1,hy2,hy3,hy4⟩:=fs.get
 have hwe:rErr s nA n=0:=by unfold rErr;rw[if_pos okN_A,hy4];dsimp only;rw[if_neg omg,if_neg omg]
 have he:fateE s.fates=p.e:=by unfold Fs.e;rw[fs.1]
 refine Resize_c a dM (by rw[fs.2.1];exact hs) omg omg (fun h1 e1 hne=>absurd hwe hne) (fun h1 fv hne u=>?_) (fun h1 A B x x' fv h0 hF hn _ _ hn' hf u=>?_)
 ·rw[he]
  rw[fs.1]at hne
  refine H h1 _ u ⟨by show s.fates.tail=_;rw[fs.1];rfl,by show s.steps+1=p.steps+1;rw[fs.2.1],y,hy1,?_,hy3⟩
  unfold Fs.size
  rw[if_neg hne];exact hy2
 ·rw[hy1]at hF
  obtain⟨rfl,rfl,rfl⟩:=oneSplit hF
  have h0':=h0
  rw[fs.1]at h0
  have:(0:Int)=p.e:=by rw[<-he];exact h0'.symm
  rw[this]
  refine H h1 _ u ⟨by show s.fates.tail=_;rw[fs.1];rfl,by show s.steps+1=p.steps+1;rw[fs.2.1],x',rfl,?_,hn'.trans hy3⟩
  unfold Fs.size
  rw[if_pos h0,hf,hy2]
end
section
variable {K:VP}{h:Heap}
def wd(o:Int):Nat:=if 0<=o/\o<=6 then 2^o.toNat else 0
theorem wd_cases(o:Int):(wd o=0/\¬(0<=o/\o<=6))\/((0<=o/\o<=6)/\(wd o=1\/wd o=2\/wd o=4\/wd o=8\/wd o=16\/wd o=32\/wd o=64)):=by
 by_cases ho:0<=o/\o<=6
 ·right
  refine⟨ho,?_⟩
  obtain⟨h0,h1⟩:=ho
  have:o=0\/o=1\/o=2\/o=3\/o=4\/o=5\/o=6:=by omega
  rcases this with rfl|rfl|rfl|rfl|rfl|rfl|rfl<;>decide
 ·left
  exact⟨by unfold wd;rw[if_neg ho],ho⟩
def many(len:Nat)(o:Int):Nat:=8*len/wd o
theorem Width_c{o:Int}(H:∀h',Ext h h'->K (.int .i64 (wd o)) h'):CallsH Tryz.prog 98 #[.int .i64 o] h K ⟨⟩:=by
 refine n98_calls ?_
 unfold n98;try delta vF vG vC vD vJ vV vk vt
 by_cases ho:0<=o/\o<=6
 ·obtain⟨h0,h1⟩:=ho
  have:o=0\/o=1\/o=2\/o=3\/o=4\/o=5\/o=6:=by omega
  rcases this with rfl|rfl|rfl|rfl|rfl|rfl|rfl<;>(simp(disch:=omega);exact H _ extS)
 ·have hw:wd o=0:=by unfold wd;rw[if_neg ho]
  rw[hw]at H
  by_cases h0:o<0
  ·simp(disch:=omega)[h0]
   exact H _ extS
  ·simp(disch:=omega)[h0]
   exact H _ extS
theorem RefWidth_c{o:Int}(H:K (.int .i64 (wd o)) h):CallsH Tryz.prog 37 #[.int .i64 o] h K ⟨⟩:=by
 refine n37_calls ?_
 unfold n37;try delta vF vG vC vD vJ vV vk vt
 by_cases ho:0<=o/\o<=6
 ·have hw:wd o=2^o.toNat:=by unfold wd;rw[if_pos ho]
  simp(disch:=omega)
  refine loopA2 (fun k:Nat=>.int .i64 ((2^k:Nat):Int)) (fun k:Nat=>.int .i64 k) (fun k h'=>h'=h/\k<=o.toNat) (fun k=>o.toNat-k) 0 ⟨rfl,rfl⟩ ⟨rfl,by omega⟩ ?_
  rintro k h' ⟨rfl,hk⟩
  have hp:=Nat.pow_le_pow_right (n:=2) omg (show k<=6 by omega)
  generalize hq:2^k=p at *
  by_cases hko:(k:Int)<o
  ·simp(disch:=omega)[hko]
   have hqs:(2:Int)^(k+1)=2*p:=by rw[Int.pow_succ,<-hq];push_cast;omega
   exact⟨k+1,by rw[hqs],by simp,by omega,by omega⟩
  ·simp(disch:=omega)[hko]
   have:o.toNat=k:=by omega
   rw[hw,this,hq]at H
   exact H
 ·have hw:wd o=0:=by unfold wd;rw[if_neg ho]
  rw[hw]at H
  by_cases h0:o<0
  ·simp(disch:=omega)[h0]
   exact H
  ·simp(disch:=omega)[h0]
   exact H
theorem Many_c{o:Int}{v:Value}{l:List UInt8}(hB:Bytes h v l)(hl:l.length<1000000000)(H:∀h',Ext h h'->K (.tuple #[.int .i64 (many l.length o),.int .i64 (if wd o=0 then 2 else 0)]) h'):CallsH Tryz.prog 131 #[v,.int .i64 o] h K ⟨⟩:=by
 obtain⟨a,c,rfl⟩:=hB.form
 refine n131_calls ?_
 unfold n131;try delta vF vG vC vD vJ vV vk vt
 refine Width_c fun h1 e1=>?_
 by_cases hw:wd o=0
 ·simp(disch:=omega)[hw,many]at H ⊢
  exact H _ e1
 ·simp(disch:=omega)[hw,many]at H ⊢
  exact H _ e1
theorem Most_c{o:Int}(H:∀h',Ext h h'->K (.tuple #[.int .u64 (2^wd o-1:Nat),.int .i64 (if wd o=0 then 2 else 0)]) h'):CallsH Tryz.prog 48 #[.int .i64 o] h K ⟨⟩:=by
 refine n48_calls ?_
 unfold n48;try delta vF vG vC vD vJ vV vk vt
 refine Width_c fun h1 e1=>?_
 rcases wd_cases o with ⟨hw,-⟩|⟨-,hw|hw|hw|hw|hw|hw|hw⟩<;>rw[hw]at H ⊢ <;> simp(disch:=omega)[Hp_shr_u64]at H ⊢ <;> exact H _ e1
def askE(len:Nat)(o i:Int):Int:=if wd o=0 then 2 else if i<0\/(many len o:Nat)<=i then 4 else 0
theorem askE_zero{len:Nat}{o i:Int}(e:askE len o i=0):∃n:Nat,i=n/\wd o≠0/\n*wd o+wd o<=8*len:=by
 unfold askE at e
 split at e
 ·omega
 ·rename_i hw
  split at e
  ·omega
  ·refine⟨i.toNat,by omega,hw,?_⟩
   have h1:i.toNat<8*len/wd o:=by show i.toNat<many len o;omega
   have h2:=Nat.mul_le_mul_right (wd o) (show i.toNat+1<=8*len/wd o by omega)
   have h3:=Nat.div_mul_le_self (8*len) (wd o)
   rw[Nat.add_mul]at h2
   omega
theorem Asked_c{o i:Int}{v:Value}{l:List UInt8}(hB:Bytes h v l)(hl:l.length<1000000000)(H:∀h',Ext h h'->K (.tuple #[.int .i64 (if askE l.length o i=0 then wd o else 0:Nat),.int .i64 (askE l.length o i)]) h'):CallsH Tryz.prog 93 #[v,.int .i64 o,.int .i64 i] h K ⟨⟩:=by
 refine n93_calls ?_
 unfold n93;try delta vF vG vC vD vJ vV vk vt
 refine Many_c hB hl fun h1 e1=>?_
 unfold askE at H
 by_cases hw:wd o=0
 ·simp(disch:=omega)[hw]at H ⊢
  exact H _ e1
 ·by_cases h0:i<0
  ·simp(disch:=omega)[hw,h0]at H ⊢
   exact H _ e1
  ·by_cases h2:(many l.length o:Nat)<=i
   ·simp(disch:=omega)[hw,h0,h2]at H ⊢
    exact H _ e1
   ·simp(disch:=omega)[hw,h0,h2]at H ⊢
    refine Width_c fun h3 e3=>?_
    exact H _ (e1.trans e3)
theorem wd_ok{o:Int}(hw:wd o≠0):(wd o=1\/wd o=2\/wd o=4)\/∃m,wd o=8*m/\1<=m/\m<=8:=by
 rcases wd_cases o with ⟨h,-⟩|⟨-,h|h|h|h|h|h|h⟩
 ·exact absurd h hw
 ·exact .inl (.inl h)
 ·exact .inl (.inr (.inl h))
 ·exact .inl (.inr (.inr h))
 ·exact .inr ⟨1,by omega,by omega,by omega⟩
 ·exact .inr ⟨2,by omega,by omega,by omega⟩
 ·exact .inr ⟨4,by omega,by omega,by omega⟩
 ·exact .inr ⟨8,by omega,by omega,by omega⟩
def wok(w:Nat):Prop:=(w=1\/w=2\/w=4)\/∃m,w=8*m/\1<=m/\m<=8
theorem wok_pos{w:Nat}(h:wok w):0<w/\w<=64:=by
 rcases h with h|⟨m,h,h1,h2⟩<;>omega
theorem shr_bd(b:UInt8)(k:Nat):(0:Int)<=(b.toNat:Int)/2^k/\(b.toNat:Int)/2^k<256:=by
 have h0:=b.toNat_lt
 have h1:(b.toNat:Int)/2^k<=b.toNat:=Int.ediv_le_self _ omg
 exact⟨Int.ediv_nonneg omg (Int.le_of_lt (Int.pow_pos omg)),by omega⟩
theorem wok_small{w n:Nat}(h:w=1\/w=2\/w=4):n*w%8+w<=8:=by rcases h with rfl|rfl|rfl<;>omega
theorem cget_c{w n:Nat}{v:Value}{l:List UInt8}(hB:Bytes h v l)(hl:l.length<1000000000)(hw:wok w)(hn:n*w+w<=8*l.length)(H:K (.int .u64 (cnt l w n)) h) :
 CallsH Tryz.prog 94 #[v,.int .i64 w,.int .i64 n] h K ⟨⟩:=by
 have hlen:0<l.length:=by have:=wok_pos hw;omega
 obtain⟨a,c,rfl⟩:=hB.form
 obtain⟨a,rfl,-,hc,hA⟩:=hB.at hlen
 rcases hw with hs|⟨m,rfl,m1,m2⟩
 ·have hq:=cnt_small (l:=l) (w:=w) (i:=n) (wok_small hs) omg
  have hcell:=hA (n*w/8) omg
  refine n94_calls ?_
  unfold n94;try delta vF vG vC vD vJ vV vk vt
  rcases hs with rfl|rfl|rfl
  ·simp at hcell hq
   rw[<-hq]at H
   have hbd:=shr_bd (l[n/8]'omg) (n%8)
   have t1:((n:Int)/8).toNat=n/8:=by omega
   have t2:((n:Int)%8).toNat=n%8:=by omega
   simp(disch:=omega)[t1,t2,hcell,Hp_shr_u64,Hp_shl_u64,Hp_mask_u64 1]
   simpa using H
  ·rw[<-hq]at H
   have hbd:=shr_bd (l[n*2/8]'omg) (n*2%8)
   have t1:((n:Int)*2/8).toNat=n*2/8:=by omega
   have t2:((n:Int)*2%8).toNat=n*2%8:=by omega
   simp(disch:=omega)[t1,t2,hcell,Hp_shr_u64,Hp_shl_u64,Hp_mask_u64 2]
   simpa using H
  ·rw[<-hq]at H
   have hbd:=shr_bd (l[n*4/8]'omg) (n*4%8)
   have t1:((n:Int)*4/8).toNat=n*4/8:=by omega
   have t2:((n:Int)*4%8).toNat=n*4%8:=by omega
   simp(disch:=omega)[t1,t2,hcell,Hp_shr_u64,Hp_shl_u64,Hp_mask_u64 4]
   simpa using H
 ·have hp:n*(8*m)=8*(n*m):=by rw[Nat.mul_left_comm]
  rw[<-cnt_bytes omg]at H
  generalize hpp:n*m=p at *
  have hpi:(n:Int)*(8*(m:Int))=8*p:=by have:=congrArg (Nat.cast (R:=Int)) hp;push_cast at this;exact this
  refine n94_calls ?_
  unfold n94;try delta vF vG vC vD vJ vV vk vt
  have hm8:¬((8*(m:Int))<8):=by omega
  simp(disch:=omega)
  refine loopA2 (fun k:Nat=>.int .u64 (leN ((l.drop (p+k)).take (m-k)):Nat)) (fun k:Nat=>.int .i64 ((k:Int)-1)) (fun k h'=>h'=h/\k<=m) (fun k=>k) m ⟨by simp[leN],by simp⟩ ⟨rfl,by omega⟩ ?_
  rintro k h' ⟨rfl,hk⟩
  by_cases hk0:k=0
  ·subst hk0
   simp(disch:=omega)
   simpa using H
  ·have hx:=leN_lt8 (l:=(l.drop (p+k)).take (m-k)) (by simp;omega)
   have hst:=leN_step (l:=l) (p:=p) (n:=m) (k:=k) omg hk omg
   have hx2:=leN_lt8 (l:=(l.drop (p+(k-1))).take (m-(k-1))) (by simp;omega)
   have hb:=(l[p+(k-1)]'omg).toNat_lt
   have hcell:=hA (p+(k-1)) omg
   have t1:((p:Int)+(↑k-1)).toNat=p+(k-1):=by omega
   generalize hX:leN ((l.drop (p+k)).take (m-k))=X at *
   generalize hY:leN ((l.drop (p+(k-1))).take (m-(k-1)))=Y at *
   have hwr:IntKind.u64.wrap ((X:Int)*256)=X*256:=by
    have:X*256<18446744073709551616:=by omega
    exact wrap_u64 omg omg
   simp(disch:=omega)[hpi,t1,hcell,Hp_shl_u64,hwr,Hp_or_high 8]
   refine⟨k-1,by rw[hY];omega,by omega,by omega,by omega⟩
end
section
variable {K:VP}{h:Heap}
theorem wok_wd{o:Int}(hw:wd o≠0):wok (wd o):=wd_ok hw
theorem RefAt_c{o:Int}{n:Nat}{v:Value}{l:List UInt8}(hB:Bytes h v l)(hl:l.length<1000000000)(hw:wd o≠0)(hn:n*wd o+wd o<=8*l.length)(H:K (.int .u64 (cnt l (wd o) n)) h) :
 CallsH Tryz.prog 56 #[v,.int .i64 o,.int .i64 n] h K ⟨⟩:=by
 have hwp:=wok_pos (wok_wd hw)
 obtain⟨a,c,rfl⟩:=hB.form
 obtain⟨a,rfl,-,hc,hA⟩:=hB.at omg
 unfold cnt at H
 refine n56_calls ?_
 unfold n56;try delta vF vG vC vD vJ vV vk vt
 refine RefWidth_c ?_
 generalize hwo:wd o=w at *
 generalize hp:n*w=p at *
 have hpi:(n:Int)*(w:Int)=p:=by rw[<-hp];push_cast;rfl
 simp(disch:=omega)
 obtain⟨F,hF⟩:∃F:Nat->Nat,∀k,F k=leN l/2^(p+k)%2^(w-k):=⟨_,fun _=>rfl⟩
 refine loopA2 (fun k:Nat=>.int .u64 (F k)) (fun k:Nat=>.int .i64 ((k:Int)-1)) (fun k h'=>h'=h/\k<=w) (fun k=>k) w ⟨by simp[hF,Nat.mod_one],by simp⟩ ⟨rfl,by omega⟩ ?_
 rintro k h' ⟨rfl,hk⟩
 by_cases hk0:k=0
 ·subst hk0
  simp(disch:=omega)
  rw[hF]
  simpa using H
 ·have hst:=cnt_step (leN l) (p+(k-1)) (w-k)
  rw[show p+(k-1)+1=p+k by omega,show w-k+1=w-(k-1) by omega]at hst
  have hb:=bit_of (l:=l) (p:=p+(k-1)) omg
  have hcell:=hA ((p+(k-1))/8) omg
  have hbd:=shr_bd (l[(p+(k-1))/8]'omg) ((p+(k-1))%8)
  have t1:(((p:Int)+(↑k-1))/8).toNat=(p+(k-1))/8:=by omega
  have t2:(((p:Int)+(↑k-1))%8).toNat=(p+(k-1))%8:=by omega
  have h64:leN l/2^(p+(k-1))%2^(w-(k-1))<18446744073709551616:=Nat.lt_of_lt_of_le (Nat.mod_lt _ (Nat.pow_pos omg)) (Nat.pow_le_pow_right (show 0<2 by omega) (show w-(k-1)<=64 by omega))
  have hbI:((l[(p+(k-1))/8]'omg).toNat:Int)/2^((p+(k-1))%8)%2=((leN l/2^(p+(k-1))%2:Nat):Int):=by rw[<-hb];push_cast;rfl
  rw[<-hF,<-hF]at hst
  rw[<-hF]at h64
  generalize hZ:leN l/2^(p+(k-1))%2=Z at *
  simp(disch:=omega)[hpi,t1,t2,hcell,Hp_shrB,hbI]
  exact⟨k-1,by omega,by omega,by omega,by omega⟩
theorem set_app{l z:List UInt8}{k:Nat}{x:UInt8}(hk:k<l.length):(l++z).set k x=l.set k x++z:=by
 rw[List.set_append_left _ _ hk]
theorem get_app{l z:List UInt8}{k:Nat}(hk:k<l.length):(l++z)[k]'(by simp;omega)=l[k]:=List.getElem_append_left hk
theorem stB{a:Addr}{b:UInt8}{K:VP}{h:Heap}:Hp Tryz.prog false (storeS 5 (.pointer (some a)) (byteV b)) K h ⟨⟩↔StoreP (hcell h a) (hfrozen h a) (K undef (hset h a (byteV b))) ⟨⟩:=Hp_store kR rfl
theorem small_is{l:List UInt8}{w n x:Nat}{b1 b2:UInt8}(hs:w=1\/w=2\/w=4)(hx:x<2^w)(hn:n*w+w<=8*l.length)
 (e1:b1=UInt8.ofNat ((l[n*w/8]'omg).toNat &&& (2^8-((2^w-1)*2^(n*w%8)%256+1)))) (e2:b2=UInt8.ofNat (b1.toNat ||| x*2^(n*w%8)%256)) :
 (l.set (n*w/8) b1).set (n*w/8) b2=setC l w n x:=by
 have hb:=wok_small (n:=n) hs
 have hm:n*w/8<l.length:=by omega
 rw[List.set_set]
 refine setC_is sM hn fun j hj=>?_
 rw[tb_set hm j hj,e2,e1]
 by_cases h:j/8=n*w/8
 ·rw[if_pos h,tb_lay hx omg]
  by_cases h2:n*w<=j/\j<n*w+w
  ·rw[if_pos h2,if_pos omg];congr 1;omega
  ·rw[if_neg h2,if_neg omg,tb_leN l j omg];simp only[h]
 ·rw[if_neg h,if_neg omg]
theorem over_set{α:Type}{l a:List α}{p:Nat}{b:α}(hp:p+a.length<l.length):(over l p a).set (p+a.length) b=over l p (a++[b]):=by
 refine List.ext_getElem? fun i=>?_
 have hl:=over_length (l:=l) (new:=a) (k:=p) omg
 rw[List.getElem?_set,hl,over_get? omg,over_get? (by simp;omega)]
 simp only[List.length_append,List.length_singleton]
 by_cases h1:p+a.length=i
 ·subst h1
  rw[if_pos rfl,if_pos hp,if_neg omg,if_pos omg,Nat.add_sub_cancel_left,List.getElem?_append_right (Nat.le_refl _)];simp
 ·rw[if_neg h1]
  by_cases h2:i<p
  ·rw[if_pos h2,if_pos h2]
  ·rw[if_neg h2,if_neg h2]
   by_cases h3:i<p+a.length
   ·rw[if_pos h3,if_pos omg,List.getElem?_append_left omg]
   ·rw[if_neg h3,if_neg omg]
theorem _root_.Go.Vc.Mod.setE(h:Heap)(B k:Nat)(v:Value):Mod (· = B) h (hset h (elt ⟨B,0,none⟩ k) v):=by
 have:=Mod.set h (elt ⟨B,0,none⟩ k) v
 simpa using this
theorem cset_c{B m c w n x:Nat}{l z:List UInt8}(hO:OwnS 1 h (.slice (some ⟨B,0,none⟩) m c) ((l++z).map byteV))(hl:l.length<1000000000)(hw:wok w)(hn:n*w+w<=8*l.length)(hx:x<2^w)
 (H:∀h',OwnS 1 h' (.slice (some ⟨B,0,none⟩) m c) ((setC l w n x++z).map byteV)->Mod (· = B) h h'->K (.tuple #[]) h') :
 CallsH Tryz.prog 108 #[.slice (some ⟨B,0,none⟩) l.length c,.int .i64 w,.int .i64 n,.int .u64 x] h K ⟨⟩:=by
 rcases hw with hs|⟨r,rfl,m1,m2⟩
 ·have hm:n*w/8<l.length:=by omega
  have hset:=fun (x:UInt8) (l:List UInt8) (h) (hO:OwnS 1 h (.slice (some ⟨B,0,none⟩) m c) ((l++z).map byteV)) (hm:n*w/8<l.length)=>hO.set1 (x:=x) (k:=n*w/8) (by simp;omega)
  obtain⟨b1,hb1⟩:∃b1,b1=UInt8.ofNat ((l[n*w/8]'omg).toNat &&& (2^8-((2^w-1)*2^(n*w%8)%256+1))):=⟨_,rfl⟩
  obtain⟨b2,hb2⟩:∃b2,b2=UInt8.ofNat (b1.toNat ||| x*2^(n*w%8)%256):=⟨_,rfl⟩
  have k1:=hset b1 l h hO hm
  rw[set_app hm]at k1
  simp only[get_app hm]at k1
  have k2:=hset b2 _ _ k1.2.2 (by simpa using hm)
  rw[set_app (by simpa using hm),small_is hs hx hn hb1 hb2]at k2
  simp only[get_app (show n*w/8<(l.set (n*w/8) b1).length by simpa using hm),List.getElem_set_self]at k2
  have fin:=H _ k2.2.2 ((Mod.setE _ _ _ _).trans (Mod.setE _ _ _ _) (fun _ _ e=>e))
  clear hset
  refine n108_calls ?_
  unfold n108;try delta vF vG vC vD vJ vV vk vt
  have cx:IntKind.u8.wrap (x:Int)=x:=wrap_u8 omg (by rcases hs with rfl|rfl|rfl<;>omega)
  rcases hs with rfl|rfl|rfl
  ·simp only[Nat.mul_one]at k1 k2 hb1 hb2 fin
   have t1:((n:Int)/8).toNat=n/8:=by omega
   have t2:((n:Int)%8).toNat=n%8:=by omega
   have hM:(2^1-1)*2^(n%8)%256<256:=Nat.mod_lt _ omg
   have hX:x*2^(n%8)%256<256:=Nat.mod_lt _ omg
   simp(disch:=omega)[t1,t2,k1.1,k1.2.1,k2.1,k2.2.1,Hp_shl_u8,Hp_andNotN (m:=(2:Int)^(n%8)%256) (b':=b1) (by rw[Int.natCast_emod,Int.natCast_mul,Int.natCast_pow];first|rfl|simp) hM hb1,Hp_orN (m:=(x:Int)*2^(n%8)%256) (b':=b2) (by rw[Int.natCast_emod,Int.natCast_mul,Int.natCast_pow];rfl) hX hb2,stB,Tryz.cvw44_5,cx]
   exact fin
  ·have t1:((n:Int)*2/8).toNat=n*2/8:=by omega
   have t2:((n:Int)*2%8).toNat=n*2%8:=by omega
   have hM:(2^2-1)*2^(n*2%8)%256<256:=Nat.mod_lt _ omg
   have hX:x*2^(n*2%8)%256<256:=Nat.mod_lt _ omg
   simp(disch:=omega)[t1,t2,k1.1,k1.2.1,k2.1,k2.2.1,Hp_shl_u8,Hp_andNotN (m:=3*(2:Int)^(n*2%8)%256) (b':=b1) (by rw[Int.natCast_emod,Int.natCast_mul,Int.natCast_pow];first|rfl|simp) hM hb1,Hp_orN (m:=(x:Int)*2^(n*2%8)%256) (b':=b2) (by rw[Int.natCast_emod,Int.natCast_mul,Int.natCast_pow];rfl) hX hb2,stB,Tryz.cvw44_5,cx]
   exact fin
  ·have t1:((n:Int)*4/8).toNat=n*4/8:=by omega
   have t2:((n:Int)*4%8).toNat=n*4%8:=by omega
   have hM:(2^4-1)*2^(n*4%8)%256<256:=Nat.mod_lt _ omg
   have hX:x*2^(n*4%8)%256<256:=Nat.mod_lt _ omg
   simp(disch:=omega)[t1,t2,k1.1,k1.2.1,k2.1,k2.2.1,Hp_shl_u8,Hp_andNotN (m:=15*(2:Int)^(n*4%8)%256) (b':=b1) (by rw[Int.natCast_emod,Int.natCast_mul,Int.natCast_pow];first|rfl|simp) hM hb1,Hp_orN (m:=(x:Int)*2^(n*4%8)%256) (b':=b2) (by rw[Int.natCast_emod,Int.natCast_mul,Int.natCast_pow];rfl) hX hb2,stB,Tryz.cvw44_5,cx]
   exact fin
 ·have hp:n*(8*r)=8*(n*r):=by rw[Nat.mul_left_comm]
  generalize hpp:n*r=p at *
  have hpi:(n:Int)*(8*(r:Int))=8*p:=by have:=congrArg (Nat.cast (R:=Int)) hp;push_cast at this;exact this
  obtain⟨F,hF⟩:∃F:Nat->Nat,∀k,F k=x/256^k:=⟨_,fun _=>rfl⟩
  have hFin:over l p (leB r x)=setC l (8*r) n x:=by
   refine setC_is (over_length (by simp;omega)) omg fun j hj=>?_
   rw[tb_over omg j hj,hp]
  have hx64:x<18446744073709551616:=Nat.lt_of_lt_of_le hx (Nat.pow_le_pow_right (show 0<2 by omega) (show 8*r<=64 by omega))
  have hm8:¬((8*(r:Int))<8):=by omega
  refine n108_calls ?_
  unfold n108;try delta vF vG vC vD vJ vV vk vt
  simp(disch:=omega)
  refine loopA2 (fun k:Nat=>.int .u64 (F k)) (fun k:Nat=>.int .i64 k) (fun k h'=>k<=r/\Mod (· = B) h h'/\OwnS 1 h' (.slice (some ⟨B,0,none⟩) m c) ((over l p (leB k x)++z).map byteV)) (fun k=>r-k) 0 ⟨by simp[hF],rfl⟩ ⟨by omega,Mod.refl _ _,by simpa[leB]using hO⟩ ?_
  rintro k h' ⟨hk,hM,hO'⟩
  by_cases hkr:k=r
  ·subst hkr
   simp(disch:=omega)
   exact H _ (hFin▸hO') hM
  ·have hlen:=over_length (l:=l) (new:=leB k x) (k:=p) (by simp;omega)
   have k1:=hO'.set1 (x:=UInt8.ofNat (F k%256)) (k:=p+k) (by simp;omega)
   rw[set_app omg]at k1
   have e1:(over l p (leB k x)).set (p+k) (UInt8.ofNat (F k%256))=over l p (leB (k+1) x):=by
    rw[leB_snoc,<-hF]
    have:=over_set (l:=l) (a:=leB k x) (p:=p) (b:=UInt8.ofNat (F k%256)) (by simp;omega)
    rwa[leB_length]at this
   rw[e1]at k1
   have t1:((p:Int)+k).toNat=p+k:=by omega
   have hFk:F k<=x:=by rw[hF];exact Nat.div_le_self _ _
   have hFs:F (k+1)=F k/256:=by rw[hF,hF,Nat.pow_succ,Nat.div_div_eq_div_mul]
   have hv:Value.int .u8 ((F k:Int)%256)=byteV (UInt8.ofNat (F k%256)):=by unfold byteV;simp
   simp(disch:=omega)[hpi,k1.1,k1.2.1,Tryz.cvw44_5,wrap_u8_eq,stB,hv,Hp_shr_u64]
   exact⟨k+1,by rw[hFs,Int.natCast_ediv];rfl,by simp,⟨by omega,hM.trans (Mod.setE _ _ _ _) (fun _ _ e=>e),by simpa using k1.2.2⟩,by omega⟩
end
section
variable {K:VP}{h:Heap}
theorem tb_flip{b:UInt8}{t j:Nat}(ht:t<8)(hj:j<8):(UInt8.ofNat (b.toNat ^^^ 2^t%256)).toNat.testBit j=if j=t then !b.toNat.testBit j else b.toNat.testBit j:=by
 have h1:2^t%256=1*2^t%256:=by rw[Nat.one_mul]
 rw[UInt8.toNat_ofNat',Nat.testBit_mod_two_pow,Nat.testBit_xor,h1,tb_mul]
 simp only[hj,decide_true,Bool.true_and]
 by_cases e:j=t
 ·subst e;simp
 ·rw[if_neg e]
  have:(decide (t<=j)&&Nat.testBit 1 (j-t))=false:=by
   by_cases h2:t<=j
   ·have h3:Nat.testBit 1 (j-t)=false:=by
     cases hb:Nat.testBit 1 (j-t) with
     | false=>rfl
     | true=>have:=Nat.testBit_one_eq_true_iff_self_eq_zero.1 hb;omega
    simp[h3]
   ·simp[h2]
  rw[this];simp
theorem With_c{o:Int}{n x:Nat}{v:Value}{l:List UInt8}(hB:Bytes h v l)(hl:l.length<1000000000)(hw:wd o≠0)(hn:n*wd o+wd o<=8*l.length)(hx:x<18446744073709551616)
 (H:∀v' h',OwnS 1 h' v' ((setC l (wd o) n x).map byteV)->Ext h h'->(∀b,blkV v'=some b->h.size<=b)->K v' h') :
 CallsH Tryz.prog 77 #[v,.int .i64 o,.int .i64 n,.int .u64 x] h K ⟨⟩:=by
 have hwp:=wok_pos (wok_wd hw)
 obtain⟨a,c,rfl⟩:=hB.form
 refine n77_calls ?_
 unfold n77;try delta vF vG vC vD vJ vV vk vt
 refine RefWidth_c ?_
 generalize hwo:wd o=w at *
 generalize hp:n*w=p at *
 have hpi:(n:Int)*(w:Int)=p:=by rw[<-hp];push_cast;rfl
 refine Hp_appB (e:=5) (l:=[]) kR kR .nil hB (by simp;omega) fun v2 h2 hO2 hM2 hF2 _=>?_
 have hE2:Ext h h2:=hM2.ext (fun b _ e=>by cases e)
 have hlt2:∀b,blkV v2=some b->h.size<=b:=fun b hb=>(hF2 b hb).resolve_left (by rintro⟨⟩)
 simp only[List.nil_append]at hO2
 have hne:l.map byteV≠[]:=fun e=>by have:=congrArg List.length e;simp at this;rw[this]at hn;simp at hn;omega
 refine (hO2.nonnil hne).elim fun B hx2=>hx2.elim fun m hx2=>hx2.elim fun c2 hx2=>?_
 have hv:=hx2.1
 have hm:l.length=m:=by simpa using hx2.2.1
 rw[<-hm]at hv
 have H2:∀h',OwnS 1 h' (.slice (some ⟨B,0,none⟩) l.length c2) ((setC l w n x).map byteV)->Ext h h'->K v2 h':=fun h' a b=>H v2 h' (by rw[hv];exact a) b hlt2
 rw[hv]at hO2 hlt2
 clear hx2 hF2 hM2 H
 obtain⟨F,hF⟩:∃F:Nat->Nat,∀k,F k=x/2^k:=⟨_,fun _=>rfl⟩
 have hFb:∀k,x.testBit k=decide (F k%2=1):=fun k=>by rw[Nat.testBit_eq_decide_div_mod_eq,hF]
 refine loopA2 (fun k:Nat=>.int .u64 (F k)) (fun k:Nat=>.int .i64 k) (fun k h'=>k<=w/\Mod (· = B) h2 h'/\∃L:List UInt8,L.length=l.length/\OwnS 1 h' (.slice (some ⟨B,0,none⟩) l.length c2) (L.map byteV) /\
  ∀j,j<8*l.length->(leN L).testBit j=if p<=j/\j<p+k then x.testBit (j-p) else (leN l).testBit j) (fun k=>w-k) 0 ⟨by simp[hF],rfl⟩ ⟨by omega,Mod.refl _ _,l,rfl,hO2,fun j hj=>by rw[if_neg omg]⟩ ?_
 rintro k h' ⟨hk,hM,hL⟩
 refine hL.elim fun L hL=>?_
 have hLl:=hL.1
 have hO:=hL.2.1
 have hLb:=hL.2.2
 clear hL
 by_cases hkw:k=w
 ·subst hkw
  simp(disch:=omega)[hv]
  have e:L=setC l k n x:=setC_is hLl omg (by rw[hp];exact hLb)
  rw[e]at hO
  rw[<-hv]
  exact H2 _ hO (hM.ext_from hE2 (fun b hb hb'=>by have:=hlt2 b (by rw[hb'];rfl);omega))
 ·have hq:(p+k)/8<L.length:=by omega
  have k1:=hO.set1 (x:=UInt8.ofNat ((L[(p+k)/8]).toNat ^^^ 2^((p+k)%8)%256)) (k:=(p+k)/8) hq
  have hbd:=shr_bd (L[(p+k)/8]) ((p+k)%8)
  have hbit:(leN L).testBit (p+k)=decide ((L[(p+k)/8]).toNat/2^((p+k)%8)%2=1):=by rw[tb_leN L _ hq,Nat.testBit_eq_decide_div_mod_eq]
  have hbI:((L[(p+k)/8]).toNat:Int)/2^((p+k)%8)%2=(((L[(p+k)/8]).toNat/2^((p+k)%8)%2:Nat):Int):=by push_cast;rfl
  have hz2:(L[(p+k)/8]).toNat/2^((p+k)%8)%2<2:=Nat.mod_lt _ omg
  have hM2:2^((p+k)%8)%256<256:=Nat.mod_lt _ omg
  have hst:∀j,j<8*l.length->(leN (L.set ((p+k)/8) (UInt8.ofNat ((L[(p+k)/8]).toNat ^^^ 2^((p+k)%8)%256)))).testBit j=if j=p+k then !(leN L).testBit j else (leN L).testBit j:=by
   intro j hj
   rw[tb_set hq j omg]
   by_cases e:j/8=(p+k)/8
   ·rw[if_pos e,tb_flip omg omg,tb_leN L j omg]
    simp only[e]
    by_cases e2:j=p+k
    ·rw[if_pos omg,if_pos e2]
    ·rw[if_neg omg,if_neg e2]
   ·rw[if_neg e,if_neg omg]
  have hkk:(leN L).testBit (p+k)=(leN l).testBit (p+k):=by rw[hLb _ omg,if_neg omg]
  obtain⟨b1,hb1⟩:∃b1,b1=UInt8.ofNat ((L[(p+k)/8]).toNat ^^^ 2^((p+k)%8)%256):=⟨_,rfl⟩
  rw[<-hb1]at k1 hst
  have t1:(((p:Int)+k)/8).toNat=(p+k)/8:=by omega
  have t2:(((p:Int)+k)%8).toNat=(p+k)%8:=by omega
  have hFs:F (k+1)=F k/2:=by rw[hF,hF,Nat.pow_succ,Nat.div_div_eq_div_mul]
  have hFk:F k<=x:=by rw[hF];exact Nat.div_le_self _ _
  have hx1:=hFb k
  generalize hZ:(L[(p+k)/8]).toNat/2^((p+k)%8)%2=Z at *
  have hmI:(2:Int)^((p+k)%8)%256=((2^((p+k)%8)%256:Nat):Int):=by rw[Int.natCast_emod,Int.natCast_pow];rfl
  by_cases hzz:Z=F k%2
  ·have hzi:(Z:Int)=(F k:Int)%2:=by omega
   simp(disch:=omega)[hv,hpi,k1.1,t1,t2,Hp_shrB,hbI,hzi]
   refine JoinN.mk ?_
   simp(disch:=omega)
   refine⟨k+1,by rw[hFs,Int.natCast_ediv];rfl,by simp,⟨by omega,hM,L,hLl,hO,fun j hj=>?_⟩,by omega⟩
   by_cases e:j=p+k
   ·rw[e,if_pos omg,hbit,Nat.add_sub_cancel_left,hx1,hzz]
   ·rw[hLb j hj]
    by_cases e2:p<=j/\j<p+k
    ·rw[if_pos e2,if_pos omg]
    ·rw[if_neg e2,if_neg omg]
  ·have hzi:¬(Z:Int)=(F k:Int)%2:=by omega
   simp(disch:=omega)[hv,hpi,k1.1,k1.2.1,t1,t2,Hp_shrB,hbI,hzi]
   refine JoinN.mk ?_
   simp(disch:=omega)[hv,hpi,k1.1,k1.2.1,t1,t2,Hp_shrB,hbI,hzi,Hp_shl_u8,Hp_xorN hmI hM2 hb1,stB]
   refine⟨k+1,by rw[hFs,Int.natCast_ediv];rfl,by simp,⟨by omega,hM.trans (Mod.setE _ _ _ _) (fun _ _ e=>e),_,by simpa using hLl,k1.2.2,fun j hj=>?_⟩,by omega⟩
   rw[hst j hj]
   by_cases e:j=p+k
   ·rw[if_pos e,e,if_pos omg,hbit,Nat.add_sub_cancel_left,hx1]
    have:Z<2:=hz2
    have h3:F k%2<2:=Nat.mod_lt _ omg
    by_cases h1:Z=1
    ·have h2:F k%2=0:=by omega
     simp[h1,h2]
    ·have h2:F k%2=1:=by omega
     simp[h1,h2]
   ·rw[if_neg e,hLb j hj]
    by_cases e2:p<=j/\j<p+k
    ·rw[if_pos e2,if_pos omg]
    ·rw[if_neg e2,if_neg omg]
end
section
variable {K:VP}{h:Heap}
def getC(l:List UInt8)(o i:Int):Nat:=if askE l.length o i=0 then cnt l (wd o) i.toNat else 0
theorem askE_get{l:List UInt8}{o i:Int}(e:askE l.length o i=0):∃n:Nat,i=n/\wd o≠0/\n*wd o+wd o<=8*l.length/\getC l o n=cnt l (wd o) n:=by
 obtain⟨n,rfl,h1,h2⟩:=askE_zero e
 exact⟨n,rfl,h1,h2,by unfold getC;rw[if_pos e,Int.toNat_natCast]⟩
theorem two64{w x:Nat}(hw:w<=64)(hx:x<2^w):x<18446744073709551616:=Nat.lt_of_lt_of_le hx (Nat.pow_le_pow_right (show 0<2 by omega) hw)
theorem CGet_c{o i:Int}{v:Value}{l:List UInt8}(hB:Bytes h v l)(hl:l.length<1000000000)(H:∀h',Ext h h'->K (.tuple #[.int .u64 (getC l o i),.int .i64 (askE l.length o i)]) h') :
 CallsH Tryz.prog 45 #[v,.int .i64 o,.int .i64 i] h K ⟨⟩:=by
 refine n45_calls ?_
 unfold n45;try delta vF vG vC vD vJ vV vk vt
 refine Asked_c hB hl fun h1 e1=>?_
 by_cases ha:askE l.length o i=0
 ·obtain⟨n,rfl,h2,h3,h4⟩:=askE_get ha
  rw[ha,h4]at H
  simp(disch:=omega)[ha]
  refine cget_c (hB.ext e1) hl (wok_wd h2) h3 ?_
  exact H _ e1
 ·have hg:getC l o i=0:=by unfold getC;rw[if_neg ha]
  rw[hg]at H
  simp(disch:=omega)[ha]
  exact H _ e1
def setCE(len:Nat)(o i:Int)(x:Nat):Int:=if askE len o i=0 then (if x<2^wd o then 0 else 3) else askE len o i
theorem CSet_c{B m c:Nat}{o i:Int}{x:Nat}{l z:List UInt8}(hO:OwnS 1 h (.slice (some ⟨B,0,none⟩) m c) ((l++z).map byteV))(hl:l.length<1000000000)(hx:x<18446744073709551616)
 (H:∀h',Ext h h'->setCE l.length o i x≠0->K (.int .i64 (setCE l.length o i x)) h')
 (H0:∀h1 h',Ext h h1->setCE l.length o i x=0->OwnS 1 h' (.slice (some ⟨B,0,none⟩) m c) ((setC l (wd o) i.toNat x++z).map byteV)->Mod (· = B) h1 h'->K (.int .i64 0) h') :
 CallsH Tryz.prog 100 #[.slice (some ⟨B,0,none⟩) l.length c,.int .i64 o,.int .i64 i,.int .u64 x] h K ⟨⟩:=by
 have hB:=(hO.pre (k:=l.length) sM).1
 rw[List.take_left' rfl]at hB
 refine n100_calls ?_
 unfold n100;try delta vF vG vC vD vJ vV vk vt
 refine Asked_c hB hl fun h1 e1=>?_
 by_cases ha:askE l.length o i=0
 ·obtain⟨n,rfl,h2,h3,h4⟩:=askE_get ha
  have hw:=wok_pos (wok_wd h2)
  unfold setCE at H H0
  rw[if_pos ha]at H H0
  simp(disch:=omega)[ha]
  refine Most_c fun h5 e5=>?_
  have hpos:=Nat.pow_pos (n:=wd o) (show 0<2 by omega)
  have e15:=e1.trans e5
  by_cases hxm:x<2^wd o
  ·rw[if_pos hxm]at H H0
   generalize hM:2^wd o-1=M at *
   simp(disch:=omega)
   refine cset_c (hO.ext e15) hl (wok_wd h2) h3 hxm fun h6 hO6 hM6=>?_
   exact H0 _ _ e15 rfl hO6 hM6
  ·rw[if_neg hxm]at H H0
   generalize hM:2^wd o-1=M at *
   simp(disch:=omega)
   exact H _ e15 omg
 ·unfold setCE at H H0
  rw[if_neg ha]at H H0
  simp(disch:=omega)[ha]
  exact H _ e1 ha
theorem Fits_c{room n:Int}(H:K (.bool (decide (n<=room))) h):CallsH Tryz.prog 107 #[.int .u64 room,.int .u64 n] h K ⟨⟩:=by
 refine n107_calls ?_
 unfold n107;try delta vF vG vC vD vJ vV vk vt
 by_cases hn:n<=room
 ·simp(disch:=omega)[hn];simpa[hn]using H
 ·simp(disch:=omega)[hn];simpa[hn]using H
theorem InvokeH_0_2{P:Go.Program}{g:Go.FuncId}{a b:Go.Value}(hc:callOk P g=true)(H:CallsH P g #[a,b] h K ⟨⟩):InvokeH P (.func (.func g) #[] #[]) #[a,b] h K ⟨⟩:=InvokeH_func hc (by simpa using H)
def addCE(l:List UInt8)(o i b:Int):Int:=if askE l.length o i=0 then (if 0<=(getC l o i:Int)+b/\(getC l o i:Int)+b<(2^wd o:Nat) then 0 else 3) else askE l.length o i
set_option maxHeartbeats 1000000 in
theorem CAdd_c{B m c:Nat}{o i b:Int}{l z:List UInt8}(hO:OwnS 1 h (.slice (some ⟨B,0,none⟩) m c) ((l++z).map byteV))(hl:l.length<1000000000)(hb : -9223372036854775808<=b/\b<9223372036854775808)
 (H:∀h',Ext h h'->addCE l o i b≠0->K (.tuple #[.int .u64 0,.int .i64 (addCE l o i b)]) h')
 (H0:∀h1 h',Ext h h1->addCE l o i b=0->askE l.length o i=0->((getC l o i:Int)+b).toNat<2^wd o->0<=(getC l o i:Int)+b->OwnS 1 h' (.slice (some ⟨B,0,none⟩) m c) ((setC l (wd o) i.toNat ((getC l o i:Int)+b).toNat++z).map byteV)->Mod (· = B) h1 h'->K (.tuple #[.int .u64 ((getC l o i:Int)+b),.int .i64 0]) h') :
 CallsH Tryz.prog 52 #[.slice (some ⟨B,0,none⟩) l.length c,.int .i64 o,.int .i64 i,.int .i64 b] h K ⟨⟩:=by
 have hB:=(hO.pre (k:=l.length) sM).1
 rw[List.take_left' rfl]at hB
 refine n52_calls ?_
 unfold n52;try delta vF vG vC vD vJ vV vk vt
 refine Asked_c hB hl fun h1 e1=>?_
 by_cases ha:askE l.length o i=0
 ·obtain⟨n,rfl,h2,h3,h4⟩:=askE_get ha
  have hw:=wok_pos (wok_wd h2)
  unfold addCE at H H0
  rw[if_pos ha]at H H0
  have hlt:=cnt_lt l (wd o) n
  rw[<-h4]at hlt
  generalize hX:getC l o n=X at *
  have hX64:=two64 hw.2 hlt
  have hpos:=Nat.pow_pos (n:=wd o) (show 0<2 by omega)
  have h264:=Nat.pow_le_pow_right (show 0<2 by omega) hw.2
  have hsh:(18446744073709551615:Int)/2^(64-wd o)=((2^wd o:Nat):Int)-1:=by
   rcases wd_ok h2 with (e|e|e)|⟨r,e,r1,r2⟩
   ·rw[e];decide
   ·rw[e];decide
   ·rw[e];decide
   ·rw[e]
    have:r=1\/r=2\/r=3\/r=4\/r=5\/r=6\/r=7\/r=8:=by omega
    rcases this with rfl|rfl|rfl|rfl|rfl|rfl|rfl|rfl<;>decide
  generalize hP:2^wd o=Q at *
  have hn1:(18446744073709551615:Int)/2^(64-wd o)=(Q:Int)-1:=hsh
  by_cases hb0:0<=b
  ·by_cases hf:b<=(Q:Int)-1-X
   ·rw[if_pos omg]at H0
    simp(disch:=omega)[ha,Hp_shr_u64,hn1]
    refine cget_c (hB.ext e1) hl (wok_wd h2) h3 ?_
    rw[<-h4]
    refine JoinN.mk (JoinN.mk ?_)
    simp(disch:=omega)[hn1]
    refine InvokeH_0_2 kR (Fits_c ?_)
    simp(disch:=omega)[hf]
    rw[show ((X:Int)+b)=(((X:Int)+b).toNat:Nat) by omega]
    refine cset_c (x:=((X:Int)+b).toNat) (hO.ext e1) hl (wok_wd h2) h3 (by rw[hP];omega) fun h6 hO6 hM6=>?_
    have:=H0 _ _ e1 rfl ha omg omg (by simpa using hO6) hM6
    rwa[show ((X:Int)+b)=(((X:Int)+b).toNat:Nat) by omega]at this
   ·rw[if_neg omg]at H
    simp(disch:=omega)[ha,Hp_shr_u64,hn1]
    refine cget_c (hB.ext e1) hl (wok_wd h2) h3 ?_
    rw[<-h4]
    refine JoinN.mk (JoinN.mk ?_)
    simp(disch:=omega)[hn1]
    refine InvokeH_0_2 kR (Fits_c ?_)
    simp(disch:=omega)[hf]
    exact H _ e1 omg
  ·have hcv:IntKind.u64.wrap b=b+18446744073709551616:=by rw[wrap_u64_eq];omega
   have hng:IntKind.u64.wrap (-(b+18446744073709551616)) = -b:=by rw[wrap_u64_eq];omega
   by_cases hf : -b<=X
   ·rw[if_pos omg]at H0
    simp(disch:=omega)[ha,Hp_shr_u64,hn1]
    refine cget_c (hB.ext e1) hl (wok_wd h2) h3 ?_
    rw[<-h4]
    refine JoinN.mk (JoinN.mk ?_)
    simp(disch:=omega)[hn1,Tryz.cvw2_44,hcv,hng]
    refine InvokeH_0_2 kR (Fits_c ?_)
    simp(disch:=omega)[hf,Tryz.cvw2_44,hcv,hng]
    rw[show ((X:Int)+b)=(((X:Int)+b).toNat:Nat) by omega]
    refine cset_c (x:=((X:Int)+b).toNat) (hO.ext e1) hl (wok_wd h2) h3 (by rw[hP];omega) fun h6 hO6 hM6=>?_
    have:=H0 _ _ e1 rfl ha omg omg (by simpa using hO6) hM6
    rwa[show ((X:Int)+b)=(((X:Int)+b).toNat:Nat) by omega]at this
   ·rw[if_neg omg]at H
    simp(disch:=omega)[ha,Hp_shr_u64,hn1]
    refine cget_c (hB.ext e1) hl (wok_wd h2) h3 ?_
    rw[<-h4]
    refine JoinN.mk (JoinN.mk ?_)
    simp(disch:=omega)[hn1,Tryz.cvw2_44,hcv,hng]
    refine InvokeH_0_2 kR (Fits_c ?_)
    simp(disch:=omega)[hf]
    exact H _ e1 omg
 ·unfold addCE at H H0
  rw[if_neg ha]at H H0
  simp(disch:=omega)[ha]
  exact H _ e1 ha
def freeP(l:List UInt8)(w n s:Nat):Prop:=∀j,j<n->cnt l w (s+j)=0
def freeX(l:List UInt8)(o:Int)(f n s:Nat):Prop:=f<=s/\s+n<=many l.length o/\freeP l (wd o) n s/\∀s',f<=s'->s'<s->¬freeP l (wd o) n s'
open Classical in
noncomputable def freeR (l:List UInt8) (o f n:Int):Nat×Int :=
 if wd o=0\/n<1 then (0,2) else if f<0\/(many l.length o:Int)<f then (0,4) else if hx:∃s,freeX l o f.toNat n.toNat s then (hx.choose,0) else (0,7)
end
section
variable {K:VP}{h:Heap}
theorem clus{b:Int}(h0:9<=b)(h1:b<=16):(512:Int)<=2^b.toNat/\(2:Int)^b.toNat<=65536:=by
 have:b=9\/b=10\/b=11\/b=12\/b=13\/b=14\/b=15\/b=16:=by omega
 rcases this with rfl|rfl|rfl|rfl|rfl|rfl|rfl|rfl<;>decide
theorem Cluster_c{b:Int}(h0:0<=b)(h1:b<=62)(H:K (.int .i64 ((2:Int)^b.toNat)) h):CallsH Tryz.prog 36 #[.int .i64 b] h K ⟨⟩:=by
 refine n36_calls ?_
 unfold n36;try delta vF vG vC vD vJ vV vk vt
 refine loop2 (fun c i h'=>h'=h/\∃n:Nat,(n:Int)<=b/\i = .int .i64 n/\c = .int .i64 ((2:Int)^n)) (fun c i _=>(b-(match i with | .int _ n=>n|_=>0)).toNat) ⟨rfl,0,by omega,rfl,rfl⟩ ?_
 rintro c i h' ⟨rfl,n,hn,rfl,rfl⟩
 simp(disch:=omega)
 refine⟨fun hlt=>?_,fun hlt=>?_⟩
 ·have hp:(2:Int)^(n+1)<=2^62:=by
   exact_mod_cast Nat.pow_le_pow_right (n:=2) omg (show n+1<=62 by omega)
  have hp0:(0:Int)<2^n:=Int.pow_pos omg
  rw[Int.pow_succ]at hp
  simp(disch:=omega)
  refine⟨⟨n+1,by omega,by simp,?_⟩,by omega⟩
  rw[Int.pow_succ,Int.mul_comm]
 ·simp(disch:=omega)
  have:b=n:=by omega
  subst this
  simpa using H
theorem Place_c{p b:Int}(h0:9<=b)(h1:b<=16)(ht:0<p/\p<=268435456/\p%2^b.toNat=0->K (.bool true) h)(hf:¬(0<p/\p<=268435456/\p%2^b.toNat=0)->K (.bool false) h):CallsH Tryz.prog 120 #[.int .i64 p,.int .i64 b] h K ⟨⟩:=by
 refine n120_calls ?_
 unfold n120;try delta vF vG vC vD vJ vV vk vt
 have hc:=clus h0 h1
 ((try (simp(disch:=omega)));repeat' ((first|(refine Split.mk (fun _=>?_) (fun _=>?_))|(refine Cluster_c omg omg ?_))<;>((try (simp(disch:=omega))))))
 all_goals first|exact ht omg|exact hf omg
end
section
variable {K:VP}{h:Heap}
theorem lies_c{v:Value}{l:List UInt8}{p n:Int}(hB:Bytes h v l)(hl:l.length<4611686018427387904)(hn : -4611686018427387904<n)
 (ht:0<=p/\n<=l.length/\p<=l.length-n->K (.bool true) h) (hf:¬(0<=p/\n<=l.length/\p<=l.length-n)->K (.bool false) h):CallsH Tryz.prog 125 #[v,.int .i64 p,.int .i64 n] h K ⟨⟩:=by
 refine n125_calls ?_
 unfold n125;try delta vF vG vC vD vJ vV vk vt
 obtain⟨o,c,rfl⟩:=hB.form
 ((try (simp(disch:=omega)));repeat' ((first|(refine Split.mk (fun _=>?_) (fun _=>?_)))<;>((try (simp(disch:=omega))))))
 all_goals first|exact ht omg|exact hf omg
def getR(l:List UInt8)(p n:Int):Nat×Int :=
 if n<1\/8<n then (0,2) else if 0<=p/\n<=l.length/\p<=l.length-n then (leN ((l.drop p.toNat).take n.toNat),0) else (0,4)
theorem Get_c{v:Value}{l:List UInt8}{p n:Int}(hB:Bytes h v l)(hl:l.length<4611686018427387904)
 (H:K (.tuple #[.int .u64 (getR l p n).1,.int .i64 (getR l p n).2]) h):CallsH Tryz.prog 85 #[v,.int .i64 p,.int .i64 n] h K ⟨⟩:=by
 refine n85_calls ?_
 unfold n85;try delta vF vG vC vD vJ vV vk vt
 unfold getR at H
 by_cases hn:n<1\/8<n
 ·rw[if_pos hn]at H
  ((try (simp(disch:=omega)));repeat' ((first|(refine Split.mk (fun _=>?_) (fun _=>?_)))<;>((try (simp(disch:=omega))))))
  all_goals exact H
 ·rw[if_neg hn]at H
  simp(disch:=omega)
  refine lies_c hB hl omg (fun hp=>?_) (fun hp=>?_)
  ·rw[if_pos hp]at H
   obtain⟨p',rfl⟩:=Int.eq_ofNat_of_zero_le hp.1
   obtain⟨n',rfl⟩:=Int.eq_ofNat_of_zero_le (show 0<=n by omega)
   obtain⟨o,c,rfl⟩:=hB.form
   obtain⟨a,rfl,-,hc,hA⟩:=hB.at omg
   simp(disch:=omega)
   refine loop2 (fun x i h'=>h'=h/\∃k:Nat,k<=n'/\i = .int .i64 ((k:Int)-1)/\x = .int .u64 (leN ((l.drop (p'+k)).take (n'-k)):Nat)) (fun x i _=>(match i with | .int _ n=>(n+1).toNat|_=>0)) ⟨rfl,n',by omega,rfl,by simp[leN]⟩ ?_
   rintro x i h' ⟨rfl,k,hk,rfl,rfl⟩
   by_cases hk0:k=0
   ·subst hk0
    simp(disch:=omega)
    simpa using H
   ·obtain⟨m,rfl⟩:∃m,k=m+1:=⟨k-1,by omega⟩
    have hs:=leN_step (l:=l) (p:=p') (n:=n') (k:=m+1) omg hk omg
    have hb:=leN_lt ((l.drop (p'+(m+1))).take (n'-(m+1)))
    have hb7:leN ((l.drop (p'+(m+1))).take (n'-(m+1)))<72057594037927936:=Nat.lt_of_lt_of_le hb (Nat.pow_le_pow_right (n:=256) omg (show _<=7 by simp;omega))
    have hA':=hA (p'+m) omg
    have hbb:=byte_lt (l[p'+m]'omg)
    simp only[Nat.add_sub_cancel]at hs
    generalize leN ((l.drop (p'+(m+1))).take (n'-(m+1)))=X at *
    generalize l[p'+m]'omg=b at *
    simp(disch:=omega)[Hp_shl_u64,wrap_u64,hA',Hp_or_high 8]
    exact⟨m,by omega,by omega,by rw[hs];omega⟩
  ·rw[if_neg hp]at H
   simp(disch:=omega)
   exact H
theorem Value_c{v:Value}{l:List UInt8}(hB:Bytes h v l)(hl:l.length<=8)(H:K (.int .u64 (leN l:Nat)) h):CallsH Tryz.prog 55 #[v] h K ⟨⟩:=by
 refine n55_calls ?_
 unfold n55;try delta vF vG vC vD vJ vV vk vt
 obtain⟨o,c,rfl⟩:=hB.form
 simp(disch:=omega)
 refine loop2 (fun x i h'=>h'=h/\∃k:Nat,k<=l.length/\i = .int .i64 ((k:Int)-1)/\x = .int .u64 (leN (l.drop k):Nat)) (fun x i _=>(match i with | .int _ n=>(n+1).toNat|_=>0)) ⟨rfl,l.length,by omega,rfl,by simp[leN]⟩ ?_
 rintro x i h' ⟨rfl,k,hk,rfl,rfl⟩
 by_cases hk0:k=0
 ·subst hk0
  simp(disch:=omega)
  simpa using H
 ·obtain⟨m,rfl⟩:∃m,k=m+1:=⟨k-1,by omega⟩
  obtain⟨a,rfl,-,hc,hA⟩:=hB.at omg
  have hA':=hA m omg
  have hs:leN (l.drop m)=(l[m]'omg).toNat+256*leN (l.drop (m+1)):=by
   rw[List.drop_eq_getElem_cons (show m<l.length by omega),leN]
  have hb:=leN_lt8 (l:=l.drop m) (by simp;omega)
  have hbb:=byte_lt (l[m]'omg)
  generalize leN (l.drop (m+1))=X at *
  generalize l[m]'omg=b at *
  simp(disch:=omega)[hA']
  exact⟨m,by omega,by omega,by rw[hs];omega⟩
theorem Number_c{x:Nat}{n:Int}(hx:x<18446744073709551616)(hn:n<1000000)
 (H:∀v' h',OwnS 1 h' v' ((leB n.toNat x).map byteV)->Ext h h'->(∀b,blkV v'=some b->h.size<=b)->K v' h'):CallsH Tryz.prog 76 #[.int .u64 x,.int .i64 n] h K ⟨⟩:=by
 refine n76_calls ?_
 unfold n76;try delta vF vG vC vD vJ vV vk vt
 refine loop3 (fun x' o i h'=>∃k:Nat,(k:Int)<=max n 0/\i = .int .i64 k/\x' = .int .u64 (x/256^k:Nat)/\OwnS 1 h' o ((leB k x).map byteV)/\Ext h h'/\(∀b,blkV o=some b->h.size<=b))
  (fun x o i _=>(match i with | .int _ k=>(n-k).toNat|_=>0)) ⟨0,by omega,rfl,by simp,.nil,.refl _,fun b hb=>by cases hb⟩ ?_
 rintro x' o i h' ⟨k,hk,rfl,rfl,hO,hE,hF⟩
 have hk2:x/256^k<18446744073709551616:=Nat.lt_of_le_of_lt (Nat.div_le_self _ _) hx
 by_cases hkn:(k:Int)<n
 ·generalize hX:x/256^k=X at *
  simp(disch:=omega)
  refine Hp_append (e:=5) (s:=1) (by_:=1) (n:=k) (k:=1) kR kR (hO.ext (push_ext (.refl _))) sM omg (.inr (.inl ⟨_,_,rfl,rfl,Seg_new rfl⟩)) (by simp[one]) omg omg ?_
  intro v' h'' hO' hM hF' _
  simp(disch:=omega)
  refine⟨⟨k+1,by omega,by simp,?_,?_,?_,?_⟩,by omega⟩
  ·have e:((x/256^(k+1):Nat):Int)=(X:Int)/256:=by rw[Nat.pow_succ,<-Nat.div_div_eq_div_mul,hX];omega
   simpa using e.symm
  ·rw[leB_snoc,List.map_append,hX]
   have e:byteV (UInt8.ofNat (X%256)) = .int .u8 ((X:Int)%256):=by simp[byteV]
   simp only[List.map_cons,List.map_nil,e];exact hO'
  ·exact hM.ext_from (push_ext hE) (fun b hb hb'=>by have:=hF b hb';omega)
  ·intro b hb
   rcases hF' b hb with hb|hb
   ·exact hF b hb
   ·have:=hE.size;simp at hb;omega
 ·simp(disch:=omega)
  have:k=n.toNat:=by omega
  subst this
  exact H _ _ hO hE hF
def setE(len:Nat)(p n:Int)(x:Nat):Int :=
 if n<1\/8<n then 2 else if 0<=p/\n<=len/\p<=len-n then (if 256^n.toNat<=x then 3 else 0) else 4
theorem pow256(n:Nat):256^n=2^(8*n):=by rw[show 256=2^8 by decide,<-Nat.pow_mul]
theorem Set_c{v:Value}{l:List UInt8}{p n:Int}{x:Nat}(hB:Bytes h v l)(hl:l.length<4611686018427387904)(hx:x<18446744073709551616)
 (hf:∀a n c,v = .slice (some a) n c->∀i,i<l.length->hfrozen h (elt a i)=false)
 (H:setE l.length p n x≠0->K (.int .i64 (setE l.length p n x)) h)
 (H0:setE l.length p n x=0->∀a c,v = .slice (some a) l.length c->p.toNat+n.toNat<=l.length->0<=p->1<=n->K (.int .i64 0) (hwrite h a p.toNat ((leB n.toNat x).map byteV))):CallsH Tryz.prog 101 #[v,.int .i64 p,.int .i64 n,.int .u64 x] h K ⟨⟩:=by
 by_cases hn:n<1\/8<n
 ·refine n101_calls ?_
  unfold n101;try delta vF vG vC vD vJ vV vk vt
  unfold setE at H H0
  rw[if_pos hn]at H
  ((try (simp(disch:=omega)));repeat' ((first|(refine Split.mk (fun _=>?_) (fun _=>?_)))<;>((try (simp(disch:=omega))))))
  all_goals exact H dM
 obtain⟨n',rfl⟩:=Int.eq_ofNat_of_zero_le (show 0<=n by omega)
 by_cases hp:0<=p/\(n':Int)<=l.length/\p<=l.length-n'
 ·obtain⟨p',rfl⟩:=Int.eq_ofNat_of_zero_le hp.1
  obtain⟨o,c,rfl⟩:=hB.form
  obtain⟨a,rfl,-,hc,hA⟩:=hB.at omg
  refine n101_calls ?_
  unfold n101;try delta vF vG vC vD vJ vV vk vt
  unfold setE at H H0
  rw[if_neg hn,if_pos hp]at H H0
  have hfr:=hf a _ _ rfl
  simp only[Int.toNat_natCast]at H H0
  simp(disch:=omega)
  refine lies_c hB hl omg (fun _=>?_) (fun h=>absurd hp h)
  have hsh:(n':Int)<8->∀y:Nat,(x:Int)/2^(8*n')=0↔x<256^n':=fun _ _=>by
   rw[pow256]
   rw[show (x:Int)/2^(8*n')=((x/2^(8*n'):Nat):Int) by simp]
   rw[Int.natCast_eq_zero,Nat.div_eq_zero_iff]
   have:=Nat.two_pow_pos (8*n')
   omega
  have htn:(8*(n':Int)).toNat=8*n':=by omega
  by_cases hxs:256^n'<=x
  ·rw[if_pos hxs]at H
   have h8:n'<8:=by
    rcases Nat.lt_or_ge n' 8 with h|h
    ·exact h
    ·have:(256:Nat)^8<=256^n':=Nat.pow_le_pow_right omg h
     omega
   have hne:¬(x:Int)/2^(8*n')=0:=fun e=>by
    have:=(hsh omg x).1 e
    omega
   simp(disch:=omega)[Hp_shr_u64,htn,hne]
   exact H dM
  ·rw[if_neg hxs]at H0
   have H0:=H0 rfl a c rfl omg omg omg
   have he:n'<8->(x:Int)/2^(8*n')=0:=fun h8=>(hsh omg x).2 omg
   rcases Nat.lt_or_ge n' 8 with h8|h8
   case' inl=>simp(disch:=omega)[Hp_shr_u64,htn,he h8]
   case' inr=>simp(disch:=omega)[Hp_shr_u64,htn]
   all_goals
    refine loop2 (fun y i h'=>∃k:Nat,k<=n'/\i = .int .i64 k/\y = .int .u64 (x/256^k:Nat)/\h'=hwrite h a p' ((leB k x).map byteV)) (fun y i _=>(match i with | .int _ k=>(n'-k).toNat|_=>0)) ⟨0,by omega,rfl,by simp,rfl⟩ ?_
    rintro y i h' ⟨k,hk,rfl,rfl,rfl⟩
    by_cases hkn:k=n'
    ·subst hkn
     simp(disch:=omega)
     exact H0
    ·have hc1:=hcell_write_out (a:=a) (j:=p'+k) ((leB k x).map byteV) h p' sM
     have hc2:=hA (p'+k) omg
     have hk2:x/256^k<18446744073709551616:=Nat.lt_of_le_of_lt (Nat.div_le_self _ _) hx
     have hsn:=hwrite_snoc a (byteV (UInt8.ofNat (x/256^k%256))) ((leB k x).map byteV) h p'
     have hfz:=hfr (p'+k) omg
     rw[hc2]at hc1
     have e2:x/256^(k+1)=x/256^k/256:=by rw[Nat.pow_succ,<-Nat.div_div_eq_div_mul]
     have e3:(leB (k+1) x).map byteV=(leB k x).map byteV++[byteV (UInt8.ofNat (x/256^k%256))]:=by rw[leB_snoc];simp
     have eb:byteV (UInt8.ofNat (x/256^k%256)) = .int .u8 (((x/256^k:Nat):Int)%256):=by simp[byteV]
     generalize hX:x/256^k=X at *
     simp(disch:=omega)[Tryz.cvw44_5,wrap_u8_eq,hc1,hfrozen_write,hfz,Hp_shr_u64,-Int.natCast_ediv,-Int.natCast_pow]
     refine⟨⟨k+1,by omega,by simp,by rw[e2];omega,?_⟩,by omega⟩
     rw[e3,hsn,eb];simp
 ·refine n101_calls ?_
  unfold n101;try delta vF vG vC vD vJ vV vk vt
  unfold setE at H
  rw[if_neg hn,if_neg hp]at H
  simp(disch:=omega)
  refine lies_c hB hl omg (fun h=>absurd h hp) (fun _=>?_)
  simp(disch:=omega)
  exact H dM
end
section
variable {K:VP}{h:Heap}
def allZ(l:List UInt8):Bool:=l.all (· == 0)
def noughtR(l:List UInt8)(f u:Int):Bool×Int :=
 if f<0\/u<f\/l.length<u then (false,4) else (allZ ((l.take u.toNat).drop f.toNat),0)
theorem allZ_take{l:List UInt8}{k:Nat}(hk:k<l.length)(hz:allZ (l.take k)=true)(h0:l[k]=0):allZ (l.take (k+1))=true:=by
 unfold allZ at *
 rw[List.take_succ_eq_append_getElem hk,List.all_append,hz,h0];rfl
theorem allZ_false{l:List UInt8}{k:Nat}(hk:k<l.length)(h0:¬l[k]=0):allZ l=false:=by
 unfold allZ
 rw[List.all_eq_false]
 exact⟨l[k],List.getElem_mem hk,by simpa using h0⟩
theorem Noughts_c{v:Value}{l:List UInt8}{f u:Int}(hB:Bytes h v l)(hl:l.length<4611686018427387904)
 (H:K (.tuple #[.bool (noughtR l f u).1,.int .i64 (noughtR l f u).2]) h):CallsH Tryz.prog 127 #[v,.int .i64 f,.int .i64 u] h K ⟨⟩:=by
 unfold noughtR at H
 by_cases hb:f<0\/u<f\/l.length<u
 ·obtain⟨o,c,rfl⟩:=hB.form
  refine n127_calls ?_
  unfold n127;try delta vF vG vC vD vJ vV vk vt
  rw[if_pos hb]at H
  ((try (simp(disch:=omega)));repeat' ((first|(refine Split.mk (fun _=>?_) (fun _=>?_)))<;>((try (simp(disch:=omega))))))
  all_goals first|exact H|(exfalso;omega)
 ·rw[if_neg hb]at H
  obtain⟨f',rfl⟩:=Int.eq_ofNat_of_zero_le (show 0<=f by omega)
  obtain⟨u',rfl⟩:=Int.eq_ofNat_of_zero_le (show 0<=u by omega)
  simp only[Int.toNat_natCast]at H
  rcases hB with ⟨rfl,rfl⟩|⟨a,c,rfl,hc,hA⟩
  ·refine n127_calls ?_
   unfold n127;try delta vF vG vC vD vJ vV vk vt
   simp only[List.length_nil]at hb
   simp(disch:=omega)
   refine JoinN.mk ?_
   simp(disch:=omega)
   refine JoinN.mk ?_
   refine loop2 (fun x i h'=>h'=h/\x = .bool true/\i = .int .i64 0) (fun _ _ _=>0) ⟨rfl,rfl,rfl⟩ ?_
   rintro x i h' ⟨rfl,rfl,rfl⟩
   simp(disch:=omega)
   simpa[allZ]using H
  ·have hA2:=hA.part f' u' c omg omg hc
   have hlen:((l.take u').drop f').length=u'-f':=by simp;omega
   generalize hm:(l.take u').drop f'=m at *
   refine n127_calls ?_
   unfold n127;try delta vF vG vC vD vJ vV vk vt
   simp(disch:=omega)
   refine JoinN.mk ?_
   simp(disch:=omega)
   refine JoinN.mk ?_
   refine loop2 (fun x i h'=>h'=h/\x = .bool true/\∃k:Nat,i = .int .i64 k/\k<=m.length/\allZ (m.take k)=true) (fun _ i _=>match i with | .int _ k=>(m.length-k).toNat|_=>0) ⟨rfl,rfl,0,rfl,by omega,by simp[allZ]⟩ ?_
   rintro x i h' ⟨rfl,rfl,k,rfl,hk,hz⟩
   by_cases hkm:k=m.length
   ·subst hkm
    simp(disch:=omega)
    rw[List.take_length]at hz
    rw[hz]at H
    exact H
   ·have hAk:=hA2 k omg
    by_cases h0:m[k]'omg=0
    ·have hz':=allZ_take omg hz h0
     rw[h0]at hAk
     simp(disch:=omega)[hAk]
     exact⟨⟨k+1,by simp,by omega,hz'⟩,by omega⟩
    ·have hf:=allZ_false omg h0
     have hne:¬((m[k]'omg).toNat:Int)=0:=fun e=>h0 (UInt8.toNat_inj.1 (by simpa using e))
     rw[hf]at H
     simp(disch:=omega)[hAk,hne]
     exact H
def fieldE(len:Nat)(p m:Int):Int :=
 if m<0\/1048576<m then 2 else if 0<=p/\4+m<=len/\p<=len-(4+m) then 0 else 4
theorem field_c{v:Value}{l:List UInt8}{p m:Int}(hB:Bytes h v l)(hl:l.length<4611686018427387904)
 (H:K (.int .i64 (fieldE l.length p m)) h):CallsH Tryz.prog 126 #[v,.int .i64 p,.int .i64 m] h K ⟨⟩:=by
 refine n126_calls ?_
 unfold n126;try delta vF vG vC vD vJ vV vk vt
 unfold fieldE at H
 by_cases hm:m<0\/1048576<m
 ·rw[if_pos hm]at H
  ((try (simp(disch:=omega)));repeat' ((first|(refine Split.mk (fun _=>?_) (fun _=>?_)))<;>((try (simp(disch:=omega))))))
  all_goals exact H
 ·rw[if_neg hm]at H
  simp(disch:=omega)
  refine lies_c hB hl omg (fun hp=>?_) (fun hp=>?_)
  ·rw[if_pos hp]at H
   simp(disch:=omega)
   exact H
  ·rw[if_neg hp]at H
   simp(disch:=omega)
   exact H
def textR(l:List UInt8)(p m:Int):List UInt8×Int :=
 if fieldE l.length p m≠0 then ([],fieldE l.length p m) else
 if m<leN ((l.drop p.toNat).take 4) then ([],110) else
 if allZ ((l.take (p.toNat+4+m.toNat)).drop (p.toNat+4+leN ((l.drop p.toNat).take 4))) then ((l.take (p.toNat+4+leN ((l.drop p.toNat).take 4))).drop (p.toNat+4),0) else ([],110)
theorem fieldE_zero{len:Nat}{p m:Int}(e:fieldE len p m=0):0<=m/\m<=1048576/\0<=p/\4+m<=len/\p<=len-(4+m):=by
 unfold fieldE at e
 split at e
 ·omega
 ·split at e
  ·omega
  ·omega
theorem Text_c{v:Value}{l:List UInt8}{p m:Int}(hB:Bytes h v l)(hl:l.length<4611686018427387904)
 (H:K (.tuple #[str (textR l p m).1,.int .i64 (textR l p m).2]) h):CallsH Tryz.prog 86 #[v,.int .i64 p,.int .i64 m] h K ⟨⟩:=by
 unfold textR at H
 by_cases he:fieldE l.length p m=0
 ·rw[if_neg (by simpa using he)]at H
  have hb:=fieldE_zero he
  obtain⟨p',rfl⟩:=Int.eq_ofNat_of_zero_le hb.2.2.1
  obtain⟨m',rfl⟩:=Int.eq_ofNat_of_zero_le hb.1
  simp only[Int.toNat_natCast]at H
  have hg:getR l p' 4=(leN ((l.drop p').take 4),0):=by
   unfold getR
   rw[if_neg omg,if_pos omg];simp
  have hb0:=leN_lt8 (l:=(l.drop p').take 4) (by simp;omega)
  generalize leN ((l.drop p').take 4)=X at *
  refine n86_calls ?_
  unfold n86;try delta vF vG vC vD vJ vV vk vt
  refine field_c hB hl ?_
  simp(disch:=omega)[he]
  refine Get_c hB hl ?_
  rw[hg]
  by_cases hX:(m':Int)<X
  ·rw[if_pos hX]at H
   simp(disch:=omega)
   exact H
  ·rw[if_neg hX]at H
   simp(disch:=omega)
   refine Noughts_c hB hl ?_
   unfold noughtR
   rw[if_neg omg]
   have e1:((p':Int)+4+m').toNat=p'+4+m':=by omega
   have e2:((p':Int)+4+X).toNat=p'+4+X:=by omega
   have e3:((p':Int)+4).toNat=p'+4:=by omega
   rw[e1,e2]
   cases hz:allZ ((l.take (p'+4+m')).drop (p'+4+X)) with
   | false =>
    rw[hz]at H
    simp(disch:=omega)
    exact H
   | true =>
    rw[hz]at H
    obtain⟨o,c,rfl⟩:=hB.form
    obtain⟨a,rfl,-,hc,hA⟩:=hB.at omg
    have hb4:Bytes h (.slice (some (sub a (p'+4) c)) (p'+4+X-(p'+4)) (c-(p'+4))) ((l.take (p'+4+X)).drop (p'+4)) :=
     .inr ⟨_,c-(p'+4),by congr 1;simp;omega,by simp;omega,hA.part (p'+4) (p'+4+X) c omg omg hc⟩
    simp(disch:=omega)[e2,e3,-Nat.add_sub_cancel_left,Tryz.cv52_9 hb4]
    simpa using H
 ·rw[if_pos he]at H
  refine n86_calls ?_
  unfold n86;try delta vF vG vC vD vJ vV vk vt
  refine field_c hB hl ?_
  simp(disch:=omega)[he]
  exact H
def fieldB(m:Nat)(s:List UInt8):List UInt8:=leB 4 s.length++(s++List.replicate (m-s.length) 0)
theorem fieldB_length{m:Nat}{s:List UInt8}(h:s.length<=m):(fieldB m s).length=4+m:=by simp[fieldB];omega
def setTextE(len:Nat)(p m:Int)(s:List UInt8):Int :=
 if fieldE len p m≠0 then fieldE len p m else if m<s.length then 3 else 0
theorem SetText_c{v:Value}{l s:List UInt8}{p m:Int}(hB:Bytes h v l)(hl:l.length<4611686018427387904)
 (hf:∀a n c,v = .slice (some a) n c->∀i,i<l.length->hfrozen h (elt a i)=false)
 (H:setTextE l.length p m s≠0->K (.int .i64 (setTextE l.length p m s)) h)
 (H0:setTextE l.length p m s=0->∀a c,v = .slice (some a) l.length c->0<=p->s.length<=m->p.toNat+4+m.toNat<=l.length->K (.int .i64 0) (hwrite h a p.toNat ((fieldB m.toNat s).map byteV))) :
 CallsH Tryz.prog 130 #[v,.int .i64 p,.int .i64 m,str s] h K ⟨⟩:=by
 unfold setTextE at H H0
 by_cases he:fieldE l.length p m=0
 ·rw[if_neg (by simpa using he)]at H H0
  have hb:=fieldE_zero he
  obtain⟨p',rfl⟩:=Int.eq_ofNat_of_zero_le hb.2.2.1
  obtain⟨m',rfl⟩:=Int.eq_ofNat_of_zero_le hb.1
  simp only[Int.toNat_natCast]at H0
  obtain⟨o,c,rfl⟩:=hB.form
  obtain⟨a,rfl,-,hc,hA⟩:=hB.at omg
  refine n130_calls ?_
  unfold n130;try delta vF vG vC vD vJ vV vk vt
  refine field_c hB hl ?_
  by_cases hs:(m':Int)<s.length
  ·rw[if_pos hs]at H
   simp(disch:=omega)[he]
   exact H dM
  ·rw[if_neg hs]at H0
   have H0:=H0 rfl a c rfl omg omg omg
   have hfr:=hf a _ _ rfl
   simp(disch:=omega)[he]
   have hE:setE l.length p' 4 s.length=0:=by
    unfold setE
    rw[if_neg omg,if_pos omg,if_neg (by
     have:(256:Nat)^(4:Int).toNat=4294967296:=by decide
     omega)]
   refine Set_c (x:=s.length) hB hl omg hf (fun h=>absurd hE h) (fun _ a' c' ea h1 h2 h3=>?_)
   cases ea
   have e1:((p':Int)+4).toNat=p'+4:=by omega
   have e2:((p':Int)+4+m').toNat=p'+4+m':=by omega
   simp(disch:=omega)[e1,e2]
   have hlen:p'+4+m'-(p'+4)=m':=by omega
   refine Hp_clear (e:=5) (by_:=1) (z:=.int .u8 0) kR kR rfl (fun i hi=>?_) (fun i hi=>?_) ?_
   ·rw[elt_sub omg]
    exact hcell_write_some _ _ _ (by rw[hA (p'+4+i) omg];rfl)
   ·rw[elt_sub omg,hfrozen_write]
    exact hfr _ omg
   refine Hp_copy kR (Src.str (l:=s)) (one_bytes s) (fun i hi=>?_) (fun i hi=>?_) ?_
   ·exact hcell_write_some _ _ _ (by
     rw[elt_sub omg]
     exact hcell_write_some _ _ _ (by rw[hA (p'+4+i) omg];rfl))
   ·rw[hfrozen_write,hfrozen_write,elt_sub omg]
    exact hfr _ omg
   have hh:hwrite (hwrite (hwrite h a p' ((leB 4 s.length).map byteV)) (sub a (p'+4) c) 0 (List.replicate m' (.int .u8 0))) (sub a (p'+4) c) 0 ((s.map byteV).take m')=hwrite h a p' ((fieldB m' s).map byteV):=by
    rw[List.take_of_length_le (by simp;omega)]
    by_cases hm:m'=0
    ·subst hm
     have:s=[]:=List.eq_nil_of_length_eq_zero omg
     subst this
     simp[fieldB,hwrite]
    ·rw[hwrite_over _ _ _ _ _ (by simp;omega),hwrite_sub omg]
     have:=hwrite_append a ((leB 4 s.length).map byteV) ((s.map byteV)++(List.replicate m' (.int .u8 0)).drop (s.map byteV).length) h p'
     simp only[List.length_map,leB_length,Nat.add_zero]at this ⊢
     rw[this]
     simp[fieldB,byteV]
   have e4:((p':Int)).toNat=p':=by omega
   have e5:(4:Int).toNat=4:=rfl
   simp only[e4,e5,hlen]at hh ⊢
   rw[hh]
   exact H0
 ·rw[if_pos he]at H
  refine n130_calls ?_
  unfold n130;try delta vF vG vC vD vJ vV vk vt
  refine field_c hB hl ?_
  simp(disch:=omega)[he]
  exact H he
end
section
variable {K:VP}{h:Heap}
def Fields(h:Heap)(v:Value)(fs:List (List UInt8)):Prop :=
 (v = .slice none 0 0/\fs=[])\/∃a c,v = .slice (some a) fs.length c/\fs.length<=c/\∀(i:Nat) (hi:i<fs.length),∃u,hcell h (elt a i)=some u/\Bytes h u fs[i]
def total:List (List UInt8)->Nat
 | []=>0
 | f::fs=>f.length+total fs
end
section
variable {K:VP}{h:Heap}
theorem SetO_c{B m c k:Nat}{L:List UInt8}{p n:Int}{x:Nat}(hO:OwnS 1 h (.slice (some ⟨B,0,none⟩) m c) (L.map byteV))(hk:k<=L.length)(hl:L.length<4611686018427387904)(hx:x<18446744073709551616)
 (H:setE k p n x≠0->K (.int .i64 (setE k p n x)) h)
 (H0:∀h',setE k p n x=0->OwnS 1 h' (.slice (some ⟨B,0,none⟩) m c) ((over L p.toNat (leB n.toNat x)).map byteV)->Mod (· = B) h h'->p.toNat+n.toNat<=k->K (.int .i64 0) h'):CallsH Tryz.prog 101 #[.slice (some ⟨B,0,none⟩) k c,.int .i64 p,.int .i64 n,.int .u64 x] h K ⟨⟩:=by
 have hp:=hO.pre hk
 have hlen:(L.take k).length=k:=by simp;omega
 refine Set_c (l:=L.take k) (p:=p) (n:=n) hp.1 omg hx hp.2 (fun he=>?_) (fun he a c' ea h1 h2 h3=>?_)
 ·rw[hlen]at he ⊢;exact H he
 ·rw[hlen]at he h1
  simp only[Value.slice.injEq,Option.some.injEq]at ea
  obtain⟨rfl,-,rfl⟩:=ea
  have:=hO.write (k:=p.toNat) (new:=(leB n.toNat x).map byteV) (by simp;omega)
  rw[<-over_map]at this
  exact H0 _ he this (Mod.write ⟨B,0,none⟩ _ _ _) h1
theorem SetTextO_c{B n c k:Nat}{L s:List UInt8}{p m:Int}(hO:OwnS 1 h (.slice (some ⟨B,0,none⟩) n c) (L.map byteV))(hk:k<=L.length)(hl:L.length<4611686018427387904)
 (H:setTextE k p m s≠0->K (.int .i64 (setTextE k p m s)) h)
 (H0:∀h',setTextE k p m s=0->OwnS 1 h' (.slice (some ⟨B,0,none⟩) n c) ((over L p.toNat (fieldB m.toNat s)).map byteV)->Mod (· = B) h h'->p.toNat+4+m.toNat<=k->s.length<=m->K (.int .i64 0) h') :
 CallsH Tryz.prog 130 #[.slice (some ⟨B,0,none⟩) k c,.int .i64 p,.int .i64 m,str s] h K ⟨⟩:=by
 have hp:=hO.pre hk
 have hlen:(L.take k).length=k:=by simp;omega
 refine SetText_c (l:=L.take k) (p:=p) (m:=m) hp.1 omg hp.2 (fun he=>?_) (fun he a c' ea h1 h2 h3=>?_)
 ·rw[hlen]at he ⊢;exact H he
 ·rw[hlen]at he h3
  simp only[Value.slice.injEq,Option.some.injEq]at ea
  obtain⟨rfl,-,rfl⟩:=ea
  have hfl:=fieldB_length (m:=m.toNat) (s:=s) omg
  have:=hO.write (k:=p.toNat) (new:=(fieldB m.toNat s).map byteV) (by simp;omega)
  rw[<-over_map]at this
  exact H0 _ he this (Mod.write ⟨B,0,none⟩ _ _ _) h3 h2
end
section
variable {K:VP}{h:Heap}
def idxB(l:List UInt8)(b:UInt8):Int:=match (List.range (ByteArray.mk ⟨l⟩).size).find? fun i=>(ByteArray.mk ⟨l⟩)[i]! == b with|some i=>i|none => -1
theorem idxB_nonneg{l:List UInt8}{b:UInt8}:0<=idxB l b↔b∈l:=by
 have hg:∀i (hi:i<l.length),(ByteArray.mk ⟨l⟩)[i]! = l[i]:=fun i hi=>by
  rw[getElem!_pos (ByteArray.mk ⟨l⟩) i (by simpa using hi)];rfl
 unfold idxB
 cases hf:(List.range (ByteArray.mk ⟨l⟩).size).find? fun i=>(ByteArray.mk ⟨l⟩)[i]! == b with
 | none =>
  simp only
  rw[List.find?_eq_none]at hf
  constructor
  ·intro h;omega
  ·intro h
   obtain⟨i,hi,rfl⟩:=List.mem_iff_getElem.1 h
   have:=hf i (by simpa using hi)
   rw[hg i hi]at this
   simp at this
 | some i =>
  have h1:=List.find?_some hf
  have h2:=List.mem_of_find?_eq_some hf
  simp at h2
  rw[hg i h2]at h1
  simp only
  constructor
  ·intro _;rw[<-eq_of_beq h1];exact List.getElem_mem _
  ·intro _;omega
theorem IndexByteS_c{l:List UInt8}{b:UInt8}(H:K (.int .i64 (idxB l b)) h):ExtH Tryz.prog 215 #[str l,byteV b] h K ⟨⟩:=by
 refine⟨_,Go.Extern.BytealgIndexByte.indexByte,Tryz.func215,by kernel_rfl,by kernel_rfl,by kernel_rfl,by kernel_rfl,?_⟩
 have e:Go.Extern.BytealgIndexByte.indexByte #[str l,byteV b]=(match (List.range (ByteArray.mk ⟨l⟩).size).find? fun i=>(ByteArray.mk ⟨l⟩)[i]! == b with|some i=>pure (goInt i)|none=>pure (goInt (-1))):=by
  show (match (List.range (ByteArray.mk ⟨l⟩).size).find? fun i=>(ByteArray.mk ⟨l⟩)[i]! == ((b.toNat:Int).toNat.toUInt8) with|some i=>pure (goInt i)|none=>pure (goInt (-1)))=_
  rw[show ((b.toNat:Int).toNat.toUInt8)=b by simp]
 rw[e]
 unfold idxB at H
 split<;>(rename_i hx;rw[hx]at H;exact H)
theorem Contains0_c{l:List UInt8}(H:K (.bool (decide ((0:UInt8)∈l))) h):CallsH Tryz.prog 150 #[str l,str [0]] h K ⟨⟩:=by
 refine n150_calls ?_
 unfold n150;try delta vF vG vC vD vJ vV vk vt
 refine n172_calls ?_
 unfold n172;try delta vF vG vC vD vJ vV vk vt
 refine n194_calls ?_
 unfold n194;try delta vF vG vC vD vJ vV vk vt
 simp(disch:=omega)
 refine Split.mk (fun he=>?_) (fun he=>?_)
 ·simp(disch:=omega)
  simpa[<-he]using H
 simp (disch:=first|omega|simp)
 refine n204_calls ?_
 unfold n204;try delta vF vG vC vD vJ vV vk vt
 refine IndexByteS_c ?_
 by_cases h0:(0:UInt8)∈l
 ·have:=idxB_nonneg.2 h0
  simp(disch:=omega)
  simpa[h0]using H
 ·have:¬0<=idxB l 0:=fun h=>h0 (idxB_nonneg.1 h)
  simp(disch:=omega)
  simpa[h0]using H
def NameOk(l:List UInt8):Prop:=1<=l.length/\l.length<=64/\(0:UInt8)∉l
instance (l:List UInt8):Decidable (NameOk l):=by unfold NameOk;infer_instance
def PlaceOk(p b:Int):Prop:=0<p/\p<=268435456/\p%2^b.toNat=0
end
end Go.Proofs.YtdccfkffabngjaaGreat

/- Store: a file's size set. Store: fates that may be; made,fed; bytes read. Store: files made,removed,read. Store: files removed,read; sizes,steps. -/
import Derived.Test.YtcbbdnaelimpfaaGreatStoA
set_option linter.unusedSimpArgs false
set_option linter.unusedVariables false
namespace Go.Proofs.YtcbbdnaelimpfaaGreat
open Go.Vc
variable {K:VP} {h:Heap}

def cutW (w:Value) (m:Nat):Value:=match w with | .slice a _ c => .slice a m c|v=>v
def cutQ (n:Nat) (q:Pc×Value):Option (Pc×Value):=if q.1.at_<n then some (⟨q.1.at_,q.1.b.take (n-q.1.at_)⟩,cutW q.2 (min q.1.b.length (n-q.1.at_))) else none
theorem cutQ_map (n:Nat):∀qs:List (Pc×Value),(qs.filterMap (cutQ n)).map (·.1)=(qs.map (·.1)).filterMap (cutPc n)
 | []=>rfl
 | q::qs=>by
  rw [List.filterMap_cons,List.map_cons,List.filterMap_cons]
  unfold cutQ cutPc
  split
  ·rename_i h1
   split at h1
   ·cases h1
   ·rename_i h2; simp only [h2,if_false]; exact cutQ_map n qs
  ·rename_i x h1
   split at h1
   ·rename_i h2; cases h1; simp only [h2,if_true]; rw [List.map_cons]; congr 1; exact cutQ_map n qs
   ·cases h1
theorem cutQ_mem {n:Nat} {qs:List (Pc×Value)} {q:Pc×Value} (hq:q∈qs.filterMap (cutQ n)):∃q0∈qs,q0.1.at_<n∧q=(⟨q0.1.at_,q0.1.b.take (n-q0.1.at_)⟩,cutW q0.2 (min q0.1.b.length (n-q0.1.at_))):=by
 obtain ⟨q0,h0,h1⟩:=List.mem_filterMap.1 hq
 unfold cutQ at h1
 split at h1
 ·cases h1; exact ⟨q0,h0,by assumption,rfl⟩
 ·cases h1
theorem cutW_blk {w:Value} {m:Nat}:blkV (cutW w m)=blkV w:=by
 cases w with
 | slice a n c=>cases a<;>rfl
 | _=>rfl
theorem Bytes.cut {w:Value} {b:List UInt8} {m:Nat} (hB:Bytes h w b):Bytes h (cutW w (min b.length m)) (b.take m):=by
 rcases hB with ⟨rfl,rfl⟩|⟨a,c,rfl,hc,hA⟩
 ·exact .inl ⟨by simp [cutW],by simp⟩
 ·refine .inr ⟨a,c,by simp [cutW,Nat.min_comm],by simp; omega,?_⟩
  have:=hA.part 0 (min b.length m) c omg omg hc
  rw [sub_zero,List.drop_zero] at this
  have e:b.take (min b.length m)=b.take m:=by
   rcases Nat.le_total b.length m with h1|h1
   ·rw [Nat.min_eq_left h1,List.take_length,List.take_of_length_le h1]
   ·rw [Nat.min_eq_right h1]
  rw [e] at this; exact this

def rErr (s:St) (l:List UInt8) (n:Int):Int:=if okName l then (match s.get l with|none=>7|some _=>if n<0 then 4 else if 268435456<n then 6 else 0) else 2
set_option maxHeartbeats 4000000 in
theorem Resize_c {p:Nat} {s:St} {l:List UInt8} {n:Int} (a:StAt h p s) (hl:l.length<9223372036854775808) (hs:s.steps+1<1000000) (n0 : -9223372036854775808≤n) (n1:n<9223372036854775808)
 (He:∀h',Ext h h'→rErr s l n≠0→K (.int .i64 (rErr s l n)) h')
 (Hf:∀h' fv,fateE s.fates≠0→SUpd h h' p s (s.stepped fv)→K (.int .i64 (fateE s.fates)) h')
 (Hw:∀h' A B x x' fv,fateE s.fates=0→s.F=A++x::B→x.name=l→0≤n→n≤268435456→x'.name=x.name→x'.f=x.f.size n.toNat→SUpd h h' p s { s.stepped fv with F:=A++x'::B }→K (.int .i64 0) h') :
 CallsH Tryz.prog 37 #[ptrV p,str l,.int .i64 n] h K ⟨⟩:=by
 refine n37_calls ?_
 unfold n37; try delta vF vG vC vD vJ vV vk vt
 unfold rErr at He
 refine find_c3 a hl (fun h1 e1 ho => ?_) (fun h1 e1 ho hg => ?_) (fun h1 A B x e1 ho hg hF hn => ?_)
 ·simp (disch:=omega)
  have:=He h1 e1
  rw [if_neg ho] at this
  exact this dM
 ·simp (disch:=omega)
  have:=He h1 e1
  rw [if_pos ho,hg] at this
  exact this sM
 have He:=He h1 e1
 rw [if_pos ho,hg] at He
 dsimp only at He
 have hx:x∈s.F:=by rw [hF]; simp
 have a1:=a.ext e1
 by_cases hn0:n<0
 ·rw [if_pos hn0] at He
  simp (disch:=omega) [hn0]
  exact He dM
 rw [if_neg hn0] at He
 by_cases hn1:268435456<n
 ·rw [if_pos hn1] at He
  simp (disch:=omega) [hn0,hn1]
  exact He dM
 clear He
 simp (disch:=omega) [hn0,hn1]
 refine step_c a1 hs fun h2 fv u2 => ?_
 by_cases hE:fateE s.fates=0
 case neg =>
  simp (disch:=omega) [hE]
  exact Hf _ fv hE (u2.from_ e1)
 obtain ⟨n,rfl⟩:=Int.eq_ofNat_of_zero_le (Int.not_lt.1 hn0)
 simp (disch:=omega) [hE]
 have hpf:=a.pfew x hx
 have hst0:=a.stp
 have hfl:=u2.st.fl x (by show x∈s.F; exact hx)
 refine grow_c hfl (n:=n) omg fun g1 lv nv u1 => ?_
 have hf1:=u1.fl
 have c0:=cellOf (i:=0) hf1.cells rfl
 have c1:=cellOf (i:=1) hf1.cells rfl
 have c2:=cellOf (i:=2) hf1.cells rfl
 have z0:=frzOf (i:=0) hf1.cells
 have z1:=frzOf (i:=1) hf1.cells
 have z2:=frzOf (i:=2) hf1.cells
 obtain ⟨la,ln,lc,hlv,hll,hlc,-⟩:=hf1.last.form
 obtain ⟨na,nn,nc,hnv,hnl,hnc,-⟩:=hf1.now.form
 obtain ⟨pa,pn,pc,hpv,hpl,hpc,hpne⟩:=hf1.ps.form
 have hlv:lv = .slice la ln lc:=hlv
 have hnv:nv = .slice na nn nc:=hnv
 have hpv:x.pv = .slice pa pn pc:=hpv
 have e5:(Fh.f { x with last:=growL x.last n,lv:=lv,nv:=nv }).now=growL x.f.now n:=hfl.ok.now_grow n
 rw [e5] at hnl
 have hln:ln=max x.last.length n:=by have:=growL_len x.last n; simp at hll; omega
 have hnn:nn=max x.last.length n:=by have:=growL_len x.f.now n; rw [hfl.len] at this; simp at hnl; omega
 have c0':hcell g1 ⟨x.b,0,none⟩=some (.slice la ln lc):=hlv▸c0
 have c1':hcell g1 ⟨x.b,1,none⟩=some (.slice pa pn pc):=hpv▸c1
 have c2':hcell g1 ⟨x.b,2,none⟩=some (.slice na nn nc):=hnv▸c2
 rw [pcV_len] at hpl
 obtain rfl:pn=x.qs.length:=by have:pn*2=x.qs.length*2:=hpl.symm; omega
 have sm:=fun (P:Program)=>@Hp_slcM Tryz.prog
 unfold ptrV
 simp (disch:=omega) [c0',c1',c2',z0,z1,z2,Hp_slcM (P:=Tryz.prog) (t:=33) (s:=1) kR]
 have hxg:=get_some_lt hf1.cells
 have cel1:g1[x.b]? = some (.cells #[.slice la ln lc,.slice pa x.qs.length pc,.slice na nn nc] fT):=by
  have:=hf1.cells
  dsimp only at this
  rw [this,hlv,hpv,hnv]
 have cel3:=obj_set (i:=0) (v := .slice la n n) (obj_set (i:=2) (v := .slice na n n) cel1)
 have m3:Mod (· = x.b) g1 (hset (hset g1 ⟨x.b,2,none⟩ (.slice na n n)) ⟨x.b,0,none⟩ (.slice la n n)):=modS
 refine (⟨_,rfl⟩:∃f,f=hset (hset g1 ⟨x.b,2,none⟩ (.slice na n n)) ⟨x.b,0,none⟩ (.slice la n n)).elim fun h3 eh3 => ?_
 rw [←eh3] at cel3 m3 ⊢
 clear eh3
 have hz3:=m3.size
 have hx3:=get_some_lt cel3
 have ol:OwnG bT 1 h3 (.slice la n n) (((growL x.last n).take n).map byteV):=by
  have:=hf1.last
  dsimp only at this
  rw [hlv] at this
  have t:=(this.cut (hi:=n) (mx:=n) (Nat.le_refl _) omg omg).mod m3 (fun c hc e=>this.ne (blk_cut (n:=ln) (by omega:n≤lc) hc) cel1 bT_fT e)
  rw [Nat.mul_one,←List.map_take] at t
  exact t
 have on:OwnG bT 1 h3 (.slice na n n) (((growL x.f.now n).take n).map byteV):=by
  have:=hf1.now
  rw [e5] at this
  dsimp only at this
  rw [hnv] at this
  have t:=(this.cut (hi:=n) (mx:=n) (Nat.le_refl _) omg omg).mod m3 (fun c hc e=>this.ne (blk_cut (n:=nn) (by omega:n≤nc) hc) cel1 bT_fT e)
  rw [Nat.mul_one,←List.map_take] at t
  exact t
 have op:OwnG pT 2 h3 (.slice pa x.qs.length pc) (x.qs.flatMap pcV):=by
  have:=hf1.ps
  dsimp only at this
  rw [hpv] at this
  exact this.mod m3 (fun c hc e=>this.ne hc cel1 pT_fT e)
 refine loopX2 (α:=Nat×Value) (fun a=>a.2) (fun a => .int .i64 a.1) (fun a g=>a.1≤x.qs.length∧Ext h3 g∧OwnG pT 2 g a.2 (((x.qs.take a.1).filterMap (cutQ n)).flatMap pcV)∧∀c,blkG a.2=some c→h3.size≤c) (fun a=>x.qs.length-a.1) (0,.slice none 0 0) ⟨rfl,rfl⟩ ⟨Nat.zero_le _,.refl _,.nil,fun c hc=>by cases hc⟩ ?_
 rintro ⟨i,sv⟩ g ⟨hi,eg,os,hb⟩ X hX
 dsimp only at hi os hb hX ⊢
 have celg:=(eg.block x.b hx3).trans cel3
 by_cases hiq:i<x.qs.length
 ·obtain ⟨pb,po,rfl⟩:=hpne (by intro e; have:=pcV_len x.qs; dsimp only at e; rw [e] at this; simp at this; omega)
  have pg:=op.ext eg
  obtain ⟨p1,p2⟩:=piece_cell (v:=x.pv) pg hiq
  have hqm:x.qs[i]∈x.qs:=List.getElem_mem hiq
  obtain ⟨qa,qc,hqv⟩:=(hf1.bs _ hqm).form
  have hqc:=(hf1.bs _ hqm)
  rw [hqv] at hqc
  obtain ⟨qok,qfit⟩:=hfl.ok.pc x.qs[i].1 (List.mem_map_of_mem hqm)
  have qpos:=qok.pos
  obtain ⟨qad,rfl,-,hqcap,-⟩:=hqc.at qpos
  have qfit:x.qs[i].1.at_+x.qs[i].1.b.length≤x.last.length:=qfit
  have hfew:x.last.length≤268435456:=hfl.ok.few
  rw [hqv] at p2
  have ht:(x.qs.take (i+1)).filterMap (cutQ n)=(x.qs.take i).filterMap (cutQ n)++(cutQ n x.qs[i]).toList:=by
   rw [List.take_succ_eq_append_getElem hiq,List.filterMap_append]
   cases e:cutQ n x.qs[i]<;>simp [List.filterMap_cons,e]
  simp (disch:=omega)
  refine JoinN.mk ?_
  refine JoinN.mk ?_
  by_cases hat:x.qs[i].1.at_<n
  ·have hcq:cutQ n x.qs[i]=some (⟨x.qs[i].1.at_,x.qs[i].1.b.take (n-x.qs[i].1.at_)⟩,.slice (some qad) (min x.qs[i].1.b.length (n-x.qs[i].1.at_)) qc):=by
    unfold cutQ
    rw [if_pos hat,hqv]; rfl
   have hmn:(if (n:Int)-(x.qs[i].1.at_:Int)<(x.qs[i].1.b.length:Int) then (n:Int)-(x.qs[i].1.at_:Int) else (x.qs[i].1.b.length:Int))=((min x.qs[i].1.b.length (n-x.qs[i].1.at_):Nat):Int):=by split<;>omega
   simp (disch:=omega) [p1,p2,hat,hmn]
   rw [hcq] at ht
   have hE1:∀o:Obj,Ext g (((hset (hset (hset (g.push (.cells #[.int .i64 0,.slice none 0 0] 162)) ⟨g.size,0,none⟩ (.int .i64 x.qs[i].1.at_)) ⟨g.size,1,none⟩ (.slice (some qad) x.qs[i].1.b.length qc)) ⟨g.size,1,none⟩ (.slice (some qad) (min x.qs[i].1.b.length (n-x.qs[i].1.at_)) qc))).push o):=fun o=>extS
   have hlk:((x.qs.take i).filterMap (cutQ n)).length≤1000000000000:=by
    have:=List.length_filterMap_le (cutQ n) (x.qs.take i)
    have:=List.length_take_le i x.qs
    omega
   refine Hp_appendG (e:=pT) (s:=2) (by_:=32) (n:=((x.qs.take i).filterMap (cutQ n)).length) (k:=1) (news:=[.int .i64 x.qs[i].1.at_,.slice (some qad) (min x.qs[i].1.b.length (n-x.qs[i].1.at_)) qc]) kR kR (os.ext (hE1 _)) (pcV_len _) omg
    (.inr (.inl ⟨_,1,rfl,rfl,Seg_new sM⟩)) (by simp [one]) omg omg fun sv' g5 o5 m5 f5 _ => ?_
   simp (disch:=omega)
   have hgz:=eg.size
   refine hX (i+1,sv') _ _ _ rfl sM ⟨hiq,m5.ext_from (eg.trans (hE1 _)) (fun c hc e=>by have:=hb c e; omega),?_,fun c hc=>(f5 c hc).elim (hb c) (fun e=>by simp at e; omega)⟩ (by dsimp only; omega)
   dsimp only
   rw [ht]
   simpa [pcV] using o5
  ·have hcq:cutQ n x.qs[i]=none:=by unfold cutQ; rw [if_neg hat]
   simp (disch:=omega) [p1,p2,hat]
   rw [hcq] at ht
   simp at ht
   refine hX (i+1,sv) _ _ _ rfl sM ⟨hiq,eg.trans extS,?_,hb⟩ (by dsimp only; omega)
   dsimp only
   rw [ht]
   exact os.ext extS
 ·obtain rfl:i=x.qs.length:=by omega
  have f1:=frzOf (i:=1) celg
  have k1:=cellOf (i:=1) celg rfl
  obtain ⟨sa,sn,sc,rfl,-,-,-⟩:=os.form
  simp (disch:=omega) [k1,f1]
  rw [List.take_length] at os
  have hsx:∀c,blkG (.slice sa sn sc)=some c→c≠x.b:=fun c hc=>by have:=hb c hc; omega
  have m4:Mod (fun c=>c=x.b) g1 (hset g ⟨x.b,1,none⟩ (.slice sa sn sc)):=Mod.setIn (m3.extIn eg) (.inl rfl)
  have mset:=Mod.set g ⟨x.b,1,none⟩ (.slice sa sn sc)
  have hux:∀c,blkG (.slice la n n)=some c→blkG lv=some c:=fun c hc=>by rw [hlv]; exact blk_cut (n:=ln) (by omega:n≤lc) hc
  have hun:∀c,blkG (.slice na n n)=some c→blkG nv=some c:=fun c hc=>by rw [hnv]; exact blk_cut (n:=nn) (by omega:n≤nc) hc
  have osz:=x.f.size n
  have oks:=hfl.ok.size (n:=n) omg
  have nws:=hfl.ok.now_size n
  have uz:=Upd.make (last:=(growL x.last n).take n) (qs:=x.qs.filterMap (cutQ n)) (lv := .slice la n n) (pv := .slice sa sn sc) (nv := .slice na n n) hf1 (m4.mono (fun c _ e => .inl e)) (obj_set celg)
   ((ol.ext eg).mod mset (fun c hc e => ?_)) ?_ (os.mod mset (fun c hc e=>hsx c hc e)) ?_ (fun c hc => .inl (hux c hc)) (fun c hc => .inr (by have:=hb c hc; omega)) (fun c hc => .inl (hun c hc)) (fun c hc e=>hf1.ne c (hux c hc) (hun c e)) ?_
  ·refine Hw _ A B x ⟨x.name,(growL x.last n).take n,x.qs.filterMap (cutQ n),x.b,.slice la n n,.slice sa sn sc,.slice na n n⟩ fv hE hF hn omg omg rfl ?_ ((u2.from_ e1).trans (u2.st.put (show (s.stepped fv).F=A++x::B from hF) (u1.trans uz) ?_))
   ·show (⟨x.name,(growL x.last n).take n,(x.qs.filterMap (cutQ n)).map (·.1)⟩:Fl)=_
    rw [cutQ_map,Int.toNat_natCast]; rfl
   ·show (x.qs.filterMap (cutQ n)).length≤(s.steps+1)*1000000
    have:=List.length_filterMap_le (cutQ n) x.qs
    omega
  ·exact hf1.last.ne (hux c hc) hf1.cells bT_fT e
  ·have e6:layAll ((growL x.last n).take n) ((x.qs.filterMap (cutQ n)).map (·.1))=(growL x.f.now n).take n:=by
    rw [←nws]; show _=layAll _ _; rw [cutQ_map]; rfl
   rw [e6]
   exact (on.ext eg).mod mset (fun c hc e=>hf1.now.ne (hun c hc) hf1.cells bT_fT e)
  ·rw [cutQ_map]; exact oks
  ·intro q hq
   obtain ⟨q0,h0,h1,rfl⟩:=cutQ_mem hq
   exact ⟨Bytes.cut (hf1.bs q0 h0),q0,h0,cutW_blk⟩
end Go.Proofs.YtcbbdnaelimpfaaGreat
set_option linter.unusedSimpArgs false
set_option linter.unusedVariables false
namespace Go.Proofs.YtcbbdnaelimpfaaGreat
open Go.Vc
variable {K:VP} {h:Heap}

structure Fas (h:Heap) (v:Value) (fs:List (Int×Int)):Prop where
 src:Src 2 h v fs.length (fs.flatMap faV)
 form:∃a c,v = .slice a fs.length c∧fs.length≤c
 few:fs.length<9223372036854775808
 ok:∀f∈fs,-9223372036854775808≤f.1∧f.1<9223372036854775808 ∧ -9223372036854775808≤f.2∧f.2<9223372036854775808
theorem Fas.ext {h':Heap} {v:Value} {fs:List (Int×Int)} (a:Fas h v fs) (e:Ext h h'):Fas h' v fs:=⟨a.src.ext e,a.form,a.few,a.ok⟩
theorem faV_len (l:List (Int×Int)):(l.flatMap faV).length=l.length*2:=by
 induction l with|nil=>rfl|cons f l ih=>rw [List.flatMap_cons,List.length_append,ih]; simp [faV]; omega
theorem faV_get:∀(l:List (Int×Int)) (i:Nat) (hi:i<l.length),(l.flatMap faV)[i*2]? = some (.int .i64 l[i].1)∧(l.flatMap faV)[i*2+1]? = some (.int .i64 l[i].2)
 | q::l,0,_=>by simp [faV]
 | q::l,i+1,hi=>by
  have:=faV_get l i (by simpa using hi)
  rw [List.flatMap_cons]
  have e1:(i+1)*2=(faV q).length+i*2:=by simp [faV]; omega
  rw [e1,List.getElem?_append_right omg,List.getElem?_append_right omg,Nat.add_sub_cancel_left,show (faV q).length+i*2+1-(faV q).length=i*2+1 by omega]
  simpa using this
theorem faV_one (l:List (Int×Int)):∀u∈l.flatMap faV,one u=true:=by
 intro u hu
 obtain ⟨q,hq,hu⟩:=List.mem_flatMap.1 hu
 simp [faV] at hu
 rcases hu with rfl|rfl<;>rfl
theorem Fas.cell {v:Value} {fs:List (Int×Int)} (a:Fas h v fs) {i:Nat} (hi:i<fs.length):∃ad c,v = .slice (some ad) fs.length c∧fs.length≤c∧hcell h (elt ad (i*2))=some (.int .i64 fs[i].1)∧hcell h (elt ad (i*2+1))=some (.int .i64 fs[i].2):=by
 obtain ⟨a0,c,rfl,hc⟩:=a.form
 obtain ⟨h1,h2⟩:=faV_get fs i hi
 have hl:=faV_len fs
 rcases a.src with ⟨e,e2,e3⟩|⟨ad,c',e,e2,hs⟩|⟨l,e,-⟩
 ·omega
 ·cases e
  rw [List.getElem?_eq_getElem omg] at h1 h2
  exact ⟨ad,c,rfl,hc,(hs _ omg).trans h1,(hs _ omg).trans h2⟩
 ·cases e
def rightF (f:Int×Int):Bool:=decide (0≤f.1)&&decide (f.1≤2)
theorem bad_c {f:Int×Int} (h0 : -9223372036854775808≤f.1∧f.1<9223372036854775808 ∧ -9223372036854775808≤f.2∧f.2<9223372036854775808) (H:∀h',Ext h h'→K (.bool (!rightF f)) h'):InvokeH Tryz.prog (.func (.func 110) #[] #[]) #[.agg #[.int .i64 f.1,.int .i64 f.2]] h K ⟨⟩:=by
 refine InvokeH_f1 kR ?_
 refine n110_calls ?_
 unfold n110; try delta vF vG vC vD vJ vV vk vt
 unfold rightF at H
 by_cases h1:f.1<0
 ·have:decide (0≤f.1)=false:=decide_eq_false omg
  rw [this] at H
  simp (disch:=omega) [h1]
  exact H _ extS
 ·have:decide (0≤f.1)=true:=decide_eq_true omg
  rw [this] at H
  by_cases h2:2<f.1
  ·have:decide (f.1≤2)=false:=decide_eq_false omg
   rw [this] at H
   simp (disch:=omega) [h1,h2]
   exact H _ extS
  ·have:decide (f.1≤2)=true:=decide_eq_true omg
   rw [this] at H
   simp (disch:=omega) [h1,h2]
   exact H _ extS
theorem right_c {v:Value} {fs:List (Int×Int)} (a:Fas h v fs) (H:∀h',Ext h h'→K (.bool (fs.all rightF)) h'):CallsH Tryz.prog 74 #[v] h K ⟨⟩:=by
 refine n74_calls ?_
 unfold n74; try delta vF vG vC vD vJ vV vk vt
 refine n109_calls ?_
 unfold n109; try delta vF vG vC vD vJ vV vk vt
 refine n127_calls ?_
 unfold n127; try delta vF vG vC vD vJ vV vk vt
 obtain ⟨a0,c,rfl,hc⟩:=a.form
 have hfew:=a.few
 simp (disch:=omega)
 refine loopX1 (α:=Nat) (fun i => .int .i64 i) (fun i g=>i≤fs.length∧Ext h g∧∀j (hj:j<fs.length),j<i→rightF fs[j]=true) (fun i=>fs.length-i) 0 rfl ⟨Nat.zero_le _,.refl _,fun j _ hj=>by omega⟩ ?_
 rintro i g ⟨hi,eg,hr⟩ X hX
 by_cases hin:i<fs.length
 ·obtain ⟨ad,c',hv,-,q1,q2⟩:=(a.ext eg).cell hin
  cases hv
  simp (disch:=omega) [q1,q2]
  refine bad_c (f:=fs[i]) (a.ok _ (List.getElem_mem hin)) fun g' e' => ?_
  cases hb:rightF fs[i] with
  | true =>
   simp (disch:=omega)
   refine hX (i+1) _ _ sM ⟨hin,eg.trans e',fun j hj hji => ?_⟩ omg
   by_cases e:j=i
   ·subst e; exact hb
   ·exact hr j hj omg
  | false =>
   have:fs.all rightF=false:=by
    rw [List.all_eq_false]
    exact ⟨fs[i],List.getElem_mem hin,by rw [hb]; decide⟩
   rw [this] at H
   simp (disch:=omega)
   exact H _ (eg.trans e')
 ·obtain rfl:i=fs.length:=by omega
  have:fs.all rightF=true:=by
   rw [List.all_eq_true]
   intro f hf
   obtain ⟨j,hj,rfl⟩:=List.getElem_of_mem hf
   exact hr j hj hj
  rw [this] at H
  simp (disch:=omega)
  exact H _ eg

set_option maxHeartbeats 1000000 in
theorem New_c {v:Value} {fs:List (Int×Int)} (a:Fas h v fs) (hnf:fs.length<1000000) (H1:∀h',Ext h h'→fs.all rightF=false→K (.tuple #[.pointer none,.int .i64 2]) h')
 (H0:∀h' p s,Ext h h'→fs.all rightF=true→s.F=[]→s.fates=fs→s.steps=0→h.size≤p→(∀b,s.foot p b→h.size≤b)→StAt h' p s→K (.tuple #[ptrV p,.int .i64 0]) h'):CallsH Tryz.prog 35 #[v] h K ⟨⟩:=by
 refine n35_calls ?_
 unfold n35; try delta vF vG vC vD vJ vV vk vt
 refine right_c a fun h1 e1 => ?_
 cases hr:fs.all rightF with
 | false =>
  simp (disch:=omega)
  exact H1 h1 e1 hr
 | true =>
  simp (disch:=omega)
  rw [Hp_makeMap]
  simp (disch:=omega)
  have hfew:=a.few
  have e2:Ext h1 (h1.push (.map #[] 0)):=extS
  obtain ⟨a0,c0,hv,hc⟩:=a.form
  refine fclone_c ((a.ext e1).ext e2).src ⟨a0,c0,hv⟩ (faV_one _) omg fun v' h3 e3 o3 w3 w3' => ?_
  obtain ⟨fa,fn,fc,rfl,-,-,-⟩:=o3.form
  simp (disch:=omega)
  have hz1:=e1.size
  have hz3:=e3.size
  have hm0:(h1.push (.map #[] 0)).size=h1.size+1:=by simp
  have e4:Ext h3 (h3.push (.cells #[.map (some h1.size),.slice fa fn fc,.int .i64 0] sT)):=extS
  have hmk:MapK str (h1.push (.map #[] 0)) h1.size ([]:List (List UInt8×Value)):=MapK.new rfl
  have foot:∀b,St.foot ⟨[],fs,0,h1.size,.slice fa fn fc⟩ h3.size b→h.size≤b:=by
   rintro b (e|e|e|⟨x,hx,-⟩)
   ·have e':b=h3.size:=e; omega
   ·have e':b=h1.size:=e; omega
   ·have:=w3 b e; omega
   ·cases hx
  refine H0 _ h3.size ⟨[],fs,0,h1.size,.slice fa fn fc⟩ (e1.trans (e2.trans (e3.trans e4))) hr rfl rfl rfl omg foot ?_
  exact ⟨get_pushed rfl,(hmk.ext e3).ext e4,fun x hx=>(by cases hx),.nil,fun x hx=>(by cases hx),o3.ext e4,fun x hx=>(by cases hx),Nat.zero_le _,Nat.zero_lt_of_lt (show 0<1000000 by decide),by show fs.length<_; omega,fun f hf=>(a.ok f hf).2.2.2,fun x hx=>(by cases hx)⟩

theorem Feed_c {p:Nat} {s:St} {v:Value} {fs:List (Int×Int)} (a:StAt h p s) (hf:Fas h v fs) (hl:s.fates.length+fs.length<1000000000)
 (H1:∀h',Ext h h'→fs.all rightF=false→K (.int .i64 2) h')
 (H0:∀h' fv,fs.all rightF=true→SUpd h h' p s { s with fates:=s.fates++fs,fv:=fv }→K (.int .i64 0) h'):CallsH Tryz.prog 38 #[ptrV p,v] h K ⟨⟩:=by
 refine n38_calls ?_
 unfold n38; try delta vF vG vC vD vJ vV vk vt
 refine none_c a.cells ?_
 simp (disch:=omega)
 refine right_c hf fun h1 e1 => ?_
 cases hr:fs.all rightF with
 | false =>
  simp (disch:=omega)
  exact H1 h1 e1 hr
 | true =>
  have a1:=a.ext e1
  have c1:=cellOf (i:=1) a1.cells rfl
  obtain ⟨fa,fn,fc,hfv,hfl,hfc,-⟩:=a1.fat.form
  rw [faV_len] at hfl
  obtain rfl:fn=s.fates.length:=by omega
  have c1':hcell h1 ⟨p,1,none⟩=some (.slice fa s.fates.length fc):=hfv▸c1
  obtain ⟨a0,c0,hv,hc⟩:=hf.form
  have hsrc:=(hf.ext e1).src
  have hfew:=hf.few
  have of:=a1.fat
  rw [hfv] at of
  unfold ptrV
  simp (disch:=omega) [c1']
  refine Hp_appendG (e:=aT) (s:=2) (by_:=16) (n:=s.fates.length) (k:=fs.length) (news:=fs.flatMap faV) kR kR of (faV_len _) omg hsrc (faV_one _) omg omg fun fv' h2 o2 m2 f2 _ => ?_
  obtain ⟨ga,gn,gc,rfl,-,-,-⟩:=o2.form
  have hfp:∀b,blkG s.fv=some b→b≠p:=fun b hb=>a1.fat.ne hb a1.cells aT_sT
  have cel2:=(m2.block p (get_some_lt a1.cells) (fun e=>hfp _ (by rw [hfv]; exact e) rfl)).trans a1.cells
  have k1:=cellOf (i:=1) cel2 rfl
  have f1:=frzOf (i:=1) cel2
  have hz:=m2.size
  have hgp:∀b,blkG (.slice ga gn gc)=some b→b≠p:=fun b hb=>o2.ne hb cel2 aT_sT
  simp (disch:=omega) [k1,f1]
  refine H0 _ (.slice ga gn gc) hr (SUpd.from_ e1 (a1.own_ (Mod.setIn (m2.mono (fun b _ e => .inr (by rw [hfv]; exact e))) (.inl (.inl rfl))) (obj_set cel2) (by rw [List.flatMap_append]; exact o2.mod (Mod.set _ _ _) (fun b hb e=>hgp b hb e)) (fun b hb=>(f2 b hb).imp (fun e=>by rw [hfv]; exact e) id) a1.stp (Nat.le_refl _) (by rw [List.length_append]; exact hl) (fun f hf' => ?_)))
  rcases List.mem_append.1 hf' with e|e
  ·exact a.fok f e
  ·exact (hf.ok f e).2.2.2
end Go.Proofs.YtcbbdnaelimpfaaGreat
set_option linter.unusedSimpArgs false
set_option linter.unusedVariables false
namespace Go.Proofs.YtcbbdnaelimpfaaGreat
open Go.Vc
variable {K:VP} {h:Heap}

def newFh (l:List UInt8) (b:Nat):Fh:=⟨l,[],[],b,.slice none 0 0,.slice none 0 0,.slice none 0 0⟩
theorem get_none {s:St} {l:List UInt8} (hg:s.get l=none):∀x∈s.F,x.name≠l:=fun x hx e=>by
 have:=List.find?_eq_none.1 hg x hx
 simp [e] at this
theorem upd_new {κ:Type} [DecidableEq κ] {k:κ} {v:Value}:∀{l:List (κ×Value)},(∀p∈l,p.1≠k)→upd k v l=l++[(k,v)]
 | [],_=>rfl
 | (j,w)::l,h=>by
  have:=h (j,w) List.mem_cons_self
  rw [upd,if_neg (fun e=>this e.symm),upd_new (fun p hp=>h p (List.mem_cons_of_mem _ hp))]; rfl
theorem StAt.addF {p:Nat} {s:St} {l:List UInt8} {h1 h2:Heap} (a:StAt h p s) (hl:okName l) (hg:s.get l=none) (hf:s.F.length<256) (e1:Ext h h1) (hb:h1[h.size]? = some (.cells #[.slice none 0 0,.slice none 0 0,.slice none 0 0] fT))
 (hm:MapK str h2 s.m (upd l (ptrV h.size) s.keys)) (m:Mod (· = s.m) h1 h2):SUpd h h2 p s { s with F:=s.F++[newFh l h.size] }:=by
 have z1:=e1.size
 have hb1:=get_some_lt hb
 have hml:=a.map.lt
 have hmn:p≠s.m:=fun e=>by
  obtain ⟨es,cl,hm⟩:=mapCell a.map
  rw [←e,a.cells] at hm; cases hm
 have hk:upd l (ptrV h.size) s.keys=St.keys { s with F:=s.F++[newFh l h.size] }:=by
  rw [upd_new]
  ·unfold St.keys; simp [newFh]
  ·intro q hq
   unfold St.keys at hq
   obtain ⟨x,hx,rfl⟩:=List.mem_map.1 hq
   exact get_none hg x hx
 have mm:Mod (· = s.m) h h2:=(Mod.of_ext e1).trans m (fun _ _ e=>e)
 have hom:∀x∈s.F,∀b,x.own b→b≠s.m:=fun x hx b hb e=>by
  obtain ⟨es,cl,hm⟩:=mapCell a.map
  exact Fh.neM (a.fl x hx) hb hm e
 have hqm:∀x∈s.F,∀q∈x.qs,∀b,blkV q.2=some b→b≠s.m:=fun x hx q hq b hb e=>a.psep x hx q hq b hb (.inr (.inl e))
 have hfm:∀b,blkG s.fv=some b→b≠s.m:=fun b hb=>by
  obtain ⟨es,cl,hm⟩:=mapCell a.map
  exact a.fat.neM hb hm
 have nown:∀b,(newFh l h.size).own b→b=h.size:=by
  rintro b (e|e|e|e)
  ·exact e
  ·cases e
  ·cases e
  ·cases e
 have foot:∀b,St.foot { s with F:=s.F++[newFh l h.size] } p b→s.foot p b∨h.size≤b:=by
  rintro b (e|e|e|⟨x,hx,e⟩)
  ·exact .inl (.inl e)
  ·exact .inl (.inr (.inl e))
  ·exact .inl (.inr (.inr (.inl e)))
  ·rcases List.mem_append.1 hx with hx|hx
   ·exact .inl (.inr (.inr (.inr ⟨x,hx,e⟩)))
   ·simp at hx; subst hx
    exact .inr (by have:=nown b e; omega)
 have hnew:FlAt h2 (newFh l h.size):=by
  refine ⟨(m.block _ hb1 (fun e=>by have e':h.size=s.m:=e; omega)).trans hb,.nil,.nil,.nil,fun q hq=>(by cases hq),⟨by show 0≤_; decide,fun q hq=>(by cases hq)⟩,fun b hb=>(by cases hb),fun q hq=>(by cases hq)⟩
 refine ⟨⟨(mm.block p (get_some_lt a.cells) hmn).trans a.cells,hk▸hm,fun x hx => ?_,?_,fun x hx q hq b hb e => ?_,a.fat.mod mm hfm,fun x hx => ?_,?_,a.stp,a.fatk,a.fok,fun x hx => ?_⟩,mm.mono (fun b _ e => .inr (.inl e)),foot⟩
 ·rcases List.mem_append.1 hx with hx|hx
  ·exact (a.fl x hx).mod mm (hom x hx) (hqm x hx)
  ·simp at hx; subst hx; exact hnew
 ·rw [List.pairwise_append]
  refine ⟨a.sep,List.pairwise_singleton _ _,fun x hx y hy b hb hc => ?_⟩
  simp at hy; subst hy
  have:=nown b hc
  have:=(a.fl x hx).lt hb
  omega
 ·rcases List.mem_append.1 hx with hx|hx
  ·exact (foot b e).elim (a.psep x hx q hq b hb) (fun e=>by have:=(a.fl x hx).plt hq hb; omega)
  ·simp at hx; subst hx; cases hq
 ·rcases List.mem_append.1 hx with hx|hx
  ·exact a.names x hx
  ·simp at hx; subst hx; exact hl
 ·show (s.F++[_]).length≤256
  simp; omega
 ·rcases List.mem_append.1 hx with hx|hx
  ·exact a.pfew x hx
  ·simp at hx; subst hx; exact Nat.zero_le _

def cErr (s:St) (l:List UInt8):Int:=if okName l then (match s.get l with|some _=>8|none=>if 256≤s.F.length then 6 else 0) else 2
set_option maxHeartbeats 1000000 in
theorem Create_c {p:Nat} {s:St} {l:List UInt8} (a:StAt h p s) (hl:l.length<9223372036854775808) (hs:s.steps+1<1000000)
 (He:∀h',Ext h h'→cErr s l≠0→K (.int .i64 (cErr s l)) h')
 (Hf:∀h' fv,cErr s l=0→fateE s.fates≠0→SUpd h h' p s (s.stepped fv)→K (.int .i64 (fateE s.fates)) h')
 (Hw:∀h' fv b,fateE s.fates=0→okName l→s.get l=none→s.F.length<256→SUpd h h' p s { s.stepped fv with F:=s.F++[newFh l b] }→K (.int .i64 0) h') :
 CallsH Tryz.prog 36 #[ptrV p,str l] h K ⟨⟩:=by
 refine n36_calls ?_
 unfold n36; try delta vF vG vC vD vJ vV vk vt
 refine asked_c a.cells hl fun h1 e1 => ?_
 have He:=He h1 e1
 by_cases ho:okName l
 case neg =>
  unfold cErr at He
  rw [if_neg ho] at He ⊢
  simp (disch:=omega)
  exact He dM
 have a1:=a.ext e1
 have c0:=cellOf (i:=0) a1.cells rfl
 have lk:=look_keys (l:=l) s.F
 have hm:=a1.map
 unfold St.keys at hm
 rw [if_pos ho]
 unfold ptrV
 simp (disch:=omega) [c0]
 rw [Hp_lookup storeKey (z := .pointer none) kR hm,lk]
 unfold cErr at He Hf
 rw [if_pos ho] at He Hf
 cases hg:s.F.find? (fun x=>decide (x.name=l)) with
 | some x =>
  have hg':s.get l=some x:=hg
  rw [hg'] at He
  simp (disch:=omega) [ptrV]
  exact He sM
 | none =>
  have hg':s.get l=none:=hg
  rw [hg'] at He Hf
  dsimp only at He Hf
  simp (disch:=omega) [c0]
  rw [Hp_lenMap hm kR]
  have hlen:(s.F.map fun x=>(x.name,ptrV x.b)).length=s.F.length:=List.length_map _
  by_cases hf:256≤s.F.length
  ·rw [if_pos hf] at He
   simp (disch:=omega) [hf]
   exact He dM
  ·rw [if_neg hf] at Hf
   simp (disch:=omega) [hf]
   refine step_c a1 hs fun h2 fv u2 => ?_
   by_cases hE:fateE s.fates=0
   case neg =>
    simp (disch:=omega) [hE]
    exact Hf _ fv rfl hE (u2.from_ e1)
   have d0:=cellOf (i:=0) u2.st.cells rfl
   have d0':hcell h2 ⟨p,0,none⟩=some (.map (some s.m)):=d0
   simp (disch:=omega) [hE,d0']
   have e3:Ext h2 (h2.push (.cells #[.slice none 0 0,.slice none 0 0,.slice none 0 0] fT)):=extS
   refine Hp_mapUpdate storeKey (u2.st.map.ext e3) fun h4 m4 md => ?_
   have ux:=u2.st.addF (l:=l) ho hg' (by show s.F.length<256; omega) e3 (get_pushed rfl) m4 md
   exact Hw _ fv h2.size hE ho hg' omg ((u2.from_ e1).trans ux)
end Go.Proofs.YtcbbdnaelimpfaaGreat
set_option linter.unusedSimpArgs false
set_option linter.unusedVariables false
namespace Go.Proofs.YtcbbdnaelimpfaaGreat
open Go.Vc
variable {K:VP} {h:Heap}

theorem del_keys {A B:List Fh} {x:Fh} (hA:∀y∈A,y.name≠x.name):del x.name ((A++x::B).map fun x=>(x.name,ptrV x.b))=(A++B).map fun x=>(x.name,ptrV x.b):=by
 induction A with
 | nil=>rw [List.nil_append,List.map_cons,del,if_pos rfl]; rfl
 | cons y A ih =>
  rw [List.cons_append,List.map_cons,del,if_neg (fun e=>hA y List.mem_cons_self e.symm),ih (fun z hz=>hA z (List.mem_cons_of_mem _ hz))]; rfl
theorem StAt.delF {p:Nat} {s:St} {A B:List Fh} {x:Fh} {h2:Heap} (a:StAt h p s) (hF:s.F=A++x::B) (hm:MapK str h2 s.m (del x.name s.keys)) (m:Mod (· = s.m) h h2):SUpd h h2 p s { s with F:=A++B }:=by
 have hmn:p≠s.m:=fun e=>by
  obtain ⟨es,cl,hm⟩:=mapCell a.map
  rw [←e,a.cells] at hm; cases hm
 have hsub:∀y∈A++B,y∈s.F:=fun y hy=>by
  rw [hF]
  rcases List.mem_append.1 hy with h|h
  ·exact List.mem_append_left _ h
  ·exact List.mem_append_right _ (List.mem_cons_of_mem _ h)
 have hA:∀y∈A,y.name≠x.name:=by
  have nd:=a.nodup
  rw [hF,List.map_append,List.map_cons] at nd
  intro y hy e
  have:=(List.nodup_append.1 nd).2.2 y.name (List.mem_map_of_mem hy) x.name List.mem_cons_self
  exact this e
 have hk:del x.name s.keys=St.keys { s with F:=A++B }:=by
  unfold St.keys
  rw [hF]
  exact del_keys hA
 have hom:∀x∈s.F,∀b,x.own b→b≠s.m:=fun x hx b hb e=>by
  obtain ⟨es,cl,hm⟩:=mapCell a.map
  exact Fh.neM (a.fl x hx) hb hm e
 have hqm:∀x∈s.F,∀q∈x.qs,∀b,blkV q.2=some b→b≠s.m:=fun x hx q hq b hb e=>a.psep x hx q hq b hb (.inr (.inl e))
 have hfm:∀b,blkG s.fv=some b→b≠s.m:=fun b hb=>by
  obtain ⟨es,cl,hm⟩:=mapCell a.map
  exact a.fat.neM hb hm
 have foot:∀b,St.foot { s with F:=A++B } p b→s.foot p b:=by
  rintro b (e|e|e|⟨x,hx,e⟩)
  ·exact .inl e
  ·exact .inr (.inl e)
  ·exact .inr (.inr (.inl e))
  ·exact .inr (.inr (.inr ⟨x,hsub x hx,e⟩))
 have hlen:(A++B).length≤s.F.length:=by rw [hF]; simp
 refine ⟨⟨(m.block p (get_some_lt a.cells) hmn).trans a.cells,hk▸hm,fun y hy=>(a.fl y (hsub y hy)).mod m (hom y (hsub y hy)) (hqm y (hsub y hy)),?_,fun y hy q hq b hb e=>a.psep y (hsub y hy) q hq b hb (foot b e),a.fat.mod m hfm,fun y hy=>a.names y (hsub y hy),Nat.le_trans hlen a.few,a.stp,a.fatk,a.fok,fun y hy=>a.pfew y (hsub y hy)⟩,m.mono (fun b _ e => .inr (.inl e)),fun b hb => .inl (foot b hb)⟩
 have sep:=a.sep
 rw [hF,List.pairwise_append,List.pairwise_cons] at sep
 rw [List.pairwise_append]
 exact ⟨sep.1,sep.2.1.2,fun y hy z hz=>sep.2.2 y hy z (List.mem_cons_of_mem _ hz)⟩
theorem Remove_c {p:Nat} {s:St} {l:List UInt8} (a:StAt h p s) (hl:l.length<9223372036854775808) (hs:s.steps+1<1000000)
 (He:∀h',Ext h h'→fErr s l≠0→K (.int .i64 (fErr s l)) h')
 (Hf:∀h' fv,fErr s l=0→fateE s.fates≠0→SUpd h h' p s (s.stepped fv)→K (.int .i64 (fateE s.fates)) h')
 (Hw:∀h' A B x fv,fateE s.fates=0→s.F=A++x::B→x.name=l→SUpd h h' p s { s.stepped fv with F:=A++B }→K (.int .i64 0) h') :
 CallsH Tryz.prog 66 #[ptrV p,str l] h K ⟨⟩:=by
 refine n66_calls ?_
 unfold n66; try delta vF vG vC vD vJ vV vk vt
 unfold fErr at He Hf
 refine find_c3 a hl (fun h1 e1 ho => ?_) (fun h1 e1 ho hg => ?_) (fun h1 A B x e1 ho hg hF hn => ?_)
 ·simp (disch:=omega)
  have:=He h1 e1
  rw [if_neg ho] at this
  exact this dM
 ·simp (disch:=omega)
  have:=He h1 e1
  rw [if_pos ho,hg] at this
  exact this sM
 rw [if_pos ho,hg] at Hf
 clear He
 have a1:=a.ext e1
 simp (disch:=omega)
 refine step_c a1 hs fun h2 fv u2 => ?_
 by_cases hE:fateE s.fates=0
 case neg =>
  simp (disch:=omega) [hE]
  exact Hf _ fv rfl hE (u2.from_ e1)
 have d0:=cellOf (i:=0) u2.st.cells rfl
 have d0':hcell h2 ⟨p,0,none⟩=some (.map (some s.m)):=d0
 unfold ptrV
 simp (disch:=omega) [hE,d0']
 refine Hp_delete storeKey u2.st.map fun h4 m4 md => ?_
 rw [←hn] at m4
 exact Hw _ A B x fv hE hF hn ((u2.from_ e1).trans (u2.st.delF (show (s.stepped fv).F=A++x::B from hF) m4 md))
theorem Steps_c {p:Nat} {s:St} (a:StAt h p s) (H:K (.tuple #[.int .i64 s.steps,.int .i64 s.fates.length]) h):CallsH Tryz.prog 71 #[ptrV p] h K ⟨⟩:=by
 refine n71_calls ?_
 unfold n71; try delta vF vG vC vD vJ vV vk vt
 refine none_c a.cells ?_
 have c1:=cellOf (i:=1) a.cells rfl
 have c2:=cellOf (i:=2) a.cells rfl
 obtain ⟨fa,fn,fc,hfv,hfl,hfc,-⟩:=a.fat.form
 rw [faV_len] at hfl
 obtain rfl:fn=s.fates.length:=by omega
 have c1':hcell h ⟨p,1,none⟩=some (.slice fa s.fates.length fc):=hfv▸c1
 unfold ptrV
 simp (disch:=omega) [c1',c2]
 exact H
theorem Size_c {p:Nat} {s:St} {l:List UInt8} (a:StAt h p s) (hl:l.length<9223372036854775808) (He:∀h',Ext h h'→fErr s l≠0→K (.tuple #[.int .i64 0,.int .i64 (fErr s l)]) h')
 (Hw:∀h' x,Ext h h'→x∈s.F→x.name=l→K (.tuple #[.int .i64 x.last.length,.int .i64 0]) h'):CallsH Tryz.prog 18 #[ptrV p,str l] h K ⟨⟩:=by
 refine n18_calls ?_
 unfold n18; try delta vF vG vC vD vJ vV vk vt
 unfold fErr at He
 refine find_c3 a hl (fun h1 e1 ho => ?_) (fun h1 e1 ho hg => ?_) (fun h1 A B x e1 ho hg hF hn => ?_)
 ·simp (disch:=omega)
  have:=He h1 e1
  rw [if_neg ho] at this
  exact this dM
 ·simp (disch:=omega)
  have:=He h1 e1
  rw [if_pos ho,hg] at this
  exact this sM
 have hx:x∈s.F:=by rw [hF]; simp
 have hfl:=(a.ext e1).fl x hx
 have c2:=cellOf (i:=2) hfl.cells rfl
 obtain ⟨na,nn,nc,hnv,hnl,hnc,-⟩:=hfl.now.form
 have hlen:=hfl.len
 obtain rfl:nn=x.last.length:=by simp [hlen] at hnl; omega
 have c2':hcell h1 ⟨x.b,2,none⟩=some (.slice na x.last.length nc):=hnv▸c2
 have hfew:x.last.length≤268435456:=hfl.ok.few
 unfold ptrV
 simp (disch:=omega) [c2']
 exact Hw h1 x e1 hx hn
def rdErr (s:St) (l:List UInt8) (k n:Int):Int:=if okName l then (match s.get l with|none=>7|some x=>if k<0∨(x.last.length:Int)<k∨n<0 then 4 else 0) else 2
set_option maxHeartbeats 1000000 in
theorem Read_c {p:Nat} {s:St} {l:List UInt8} {k n:Int} (a:StAt h p s) (hl:l.length<9223372036854775808) (k0 : -9223372036854775808≤k) (k1:k<9223372036854775808) (n0 : -9223372036854775808≤n) (n1:n<9223372036854775808)
 (He:∀h',Ext h h'→rdErr s l k n≠0→K (.tuple #[.slice none 0 0,.int .i64 (rdErr s l k n)]) h')
 (Hw:∀h' x v,Ext h h'→x∈s.F→s.get l=some x→0≤k→k≤x.last.length→0≤n→OwnG bT 1 h' v (((x.f.now.drop k.toNat).take n.toNat).map byteV)→(∀b,blkG v=some b→h.size≤b)→(∀b,blkV v=some b→h.size≤b)→K (.tuple #[v,.int .i64 0]) h'):CallsH Tryz.prog 19 #[ptrV p,str l,.int .i64 k,.int .i64 n] h K ⟨⟩:=by
 refine n19_calls ?_
 unfold n19; try delta vF vG vC vD vJ vV vk vt
 unfold rdErr at He
 refine find_c3 a hl (fun h1 e1 ho => ?_) (fun h1 e1 ho hg => ?_) (fun h1 A B x e1 ho hg hF hn => ?_)
 ·simp (disch:=omega)
  have:=He h1 e1
  rw [if_neg ho] at this
  exact this dM
 ·simp (disch:=omega)
  have:=He h1 e1
  rw [if_pos ho,hg] at this
  exact this sM
 have He:=He h1 e1
 rw [if_pos ho,hg] at He
 dsimp only at He
 have hx:x∈s.F:=by rw [hF]; simp
 have hfl:=(a.ext e1).fl x hx
 have c2:=cellOf (i:=2) hfl.cells rfl
 obtain ⟨na,nn,nc,hnv,hnl,hnc,-⟩:=hfl.now.form
 have hlen:=hfl.len
 obtain rfl:nn=x.last.length:=by simp [hlen] at hnl; omega
 have c2':hcell h1 ⟨x.b,2,none⟩=some (.slice na x.last.length nc):=hnv▸c2
 have hfew:x.last.length≤268435456:=hfl.ok.few
 unfold ptrV
 by_cases hk:k<0
 ·rw [if_pos (.inl hk)] at He
  simp (disch:=omega) [hk]
  exact He dM
 by_cases hk2:(x.last.length:Int)<k
 ·rw [if_pos (.inr (.inl hk2))] at He
  simp (disch:=omega) [hk,hk2,c2']
  exact He dM
 by_cases hn0:n<0
 ·rw [if_pos (.inr (.inr hn0))] at He
  simp (disch:=omega) [hk,hk2,c2',hn0]
  exact He dM
 clear He
 have on:=hfl.now
 rw [hnv] at on
 have od:=on.dropO (lo:=k.toNat) omg
 have hmn:(if ((x.last.length-k.toNat:Nat):Int)<n then ((x.last.length-k.toNat:Nat):Int) else n)=((min n.toNat (x.last.length-k.toNat):Nat):Int):=by split<;>omega
 simp (disch:=omega) [hk,hk2,c2',hn0,Hp_slgLN (P:=Tryz.prog) (t:=33) (s:=1) kR,Hp_slgNH (P:=Tryz.prog) (t:=33) (s:=1) kR,hmn]
 have oc:=od.cut (hi:=min n.toNat (x.last.length-k.toNat)) (mx:=nc-k.toNat) omg (Nat.le_refl _) omg
 have hz1:=e1.size
 have ev:((x.f.now.map byteV).drop (k.toNat*1)).take (min n.toNat (x.last.length-k.toNat)*1)=((x.f.now.drop k.toNat).take n.toNat).map byteV:=by
  rw [Nat.mul_one,Nat.mul_one,←List.map_drop,←List.map_take]
  congr 1
  rcases Nat.le_total n.toNat (x.last.length-k.toNat) with h|h
  ·rw [Nat.min_eq_left h]
  ·rw [Nat.min_eq_right h,List.take_of_length_le (by rw [List.length_drop]; omega),List.take_of_length_le (by rw [List.length_drop]; omega)]
 rw [ev] at oc
 refine bclone_c oc.src ⟨_,_,rfl⟩ (one_bytes _) omg fun v' h2 e2 o2 w2 w2' => ?_
 exact Hw h2 x v' (e1.trans e2) hx hg omg omg omg o2 (fun b hb=>by have:=w2 b hb; omega) (fun b hb=>by have:=w2' b hb; omega)
end Go.Proofs.YtcbbdnaelimpfaaGreat

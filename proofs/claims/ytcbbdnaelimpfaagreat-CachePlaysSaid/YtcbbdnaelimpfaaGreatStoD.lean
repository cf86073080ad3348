/- Store: what the laws bar; scripts played. Store: a script played. Store: two pieces,of which one lasts. Store: what a crash leaves of a file. Store: a copy. -/
import Derived.Test.YtcbbdnaelimpfaaGreatStoC
import Derived.Test.YtcbbdnaelimpfaaGreatStoA
set_option linter.unusedSimpArgs false
set_option linter.unusedVariables false
namespace Go.Proofs.YtcbbdnaelimpfaaGreat
open Go.Vc
variable {K:VP} {h:Heap}

theorem refRight_c {v:Value} {fs:List (Int×Int)} (a:Fas h v fs) (H:K (.bool (fs.all rightF)) h):CallsH Tryz.prog 21 #[v] h K ⟨⟩:=by
 refine n21_calls ?_
 unfold n21; try delta vF vG vC vD vJ vV vk vt
 obtain ⟨a0,c,rfl,hc⟩:=a.form
 have hfew:=a.few
 refine loopX1 (α:=Nat) (fun i => .int .i64 i) (fun i g=>i≤fs.length∧g=h∧∀j (hj:j<fs.length),j<i→rightF fs[j]=true) (fun i=>fs.length-i) 0 rfl ⟨Nat.zero_le _,rfl,fun j _ hj=>by omega⟩ ?_
 rintro i g ⟨hi,rfl,hr⟩ X hX
 by_cases hin:i<fs.length
 ·obtain ⟨ad,c',hv,-,q1,q2⟩:=a.cell hin
  cases hv
  have no:rightF fs[i]=false→K (.bool false) g:=fun hb=>by
   have:fs.all rightF=false:=by
    rw [List.all_eq_false]
    exact ⟨fs[i],List.getElem_mem hin,by rw [hb]; decide⟩
   rw [this] at H; exact H
  by_cases h1:fs[i].1<0
  ·simp (disch:=omega) [q1,h1]
   exact no (by unfold rightF; rw [decide_eq_false omg]; rfl)
  by_cases h2:2<fs[i].1
  ·simp (disch:=omega) [q1,h1,h2]
   exact no (by unfold rightF; rw [decide_eq_false (show ¬fs[i].1≤2 by omega)]; simp)
  ·simp (disch:=omega) [q1,h1,h2]
   refine hX (i+1) _ _ sM ⟨hin,rfl,fun j hj hji => ?_⟩ omg
   by_cases e:j=i
   ·subst e
    unfold rightF; simp; omega
   ·exact hr j hj omg
 ·obtain rfl:i=fs.length:=by omega
  have:fs.all rightF=true:=by
   rw [List.all_eq_true]
   intro f hf
   obtain ⟨j,hj,rfl⟩:=List.getElem_of_mem hf
   exact hr j hj hj
  rw [this] at H
  simp (disch:=omega)
  exact H

def Lim6 (x:Stp):Prop:=x.b.length≤3000∧x.fs.length≤60
end Go.Proofs.YtcbbdnaelimpfaaGreat
set_option linter.unusedSimpArgs false
set_option linter.unusedVariables false
namespace Go.Proofs.YtcbbdnaelimpfaaGreat
open Go.Vc
variable {K:VP} {h:Heap}

structure PI (o h:Heap) (p:Nat) (s:St) (n m:Nat) (c:Bool):Prop where
 st:StAt h p s
 ext:Ext o h
 foot:∀b,s.foot p b→o.size≤b
 steps:s.steps≤n
 fat:s.fates.length≤m
 nil:c=true→s.fates=[]
end Go.Proofs.YtcbbdnaelimpfaaGreat
set_option linter.unusedSimpArgs false
set_option linter.unusedVariables false
namespace Go.Proofs.YtcbbdnaelimpfaaGreat
open Go.Vc
variable {K:VP} {h:Heap}

def wxyz:List UInt8:=[119,120,121,122]
def kF:Fl:=(⟨[97],[],[]⟩:Fl).writes (cutP 510 wxyz)
end Go.Proofs.YtcbbdnaelimpfaaGreat
set_option linter.unusedSimpArgs false
set_option linter.unusedVariables false
namespace Go.Proofs.YtcbbdnaelimpfaaGreat
open Go.Vc
variable {K:VP} {h:Heap}

end Go.Proofs.YtcbbdnaelimpfaaGreat
set_option linter.unusedSimpArgs false
set_option linter.unusedVariables false
namespace Go.Proofs.YtcbbdnaelimpfaaGreat
open Go.Vc
variable {K:VP} {h:Heap}

structure NewSt (h g:Heap) (s:St) (o:Value) (bO po m:Nat) (fv:Value):Prop where
 o:o=ptrV bO
 ext:Ext h g
 cell:g[bO]? = some (.cells #[ptrV po] 26)
 lo:h.size≤bO
 st:StAt g po ⟨[],s.fates,s.steps,m,fv⟩
 foot:∀b,St.foot ⟨[],s.fates,s.steps,m,fv⟩ po b→h.size≤b∧b≠bO
structure CT (h g:Heap) (po bO:Nat) (s t:St):Prop where
 ext:Ext h g
 cO:g[bO]? = some (.cells #[ptrV po] 26)
 st:StAt g po t
 foot:∀b,t.foot po b→h.size≤b∧b≠bO
 qs:∀x∈t.F,∀q∈x.qs,∀b,blkV q.2=some b→b<h.size
 fat:t.fates=s.fates
 stp:t.steps=s.steps
 qq:∀x∈t.F,∀q∈x.qs,∃y∈s.F,q∈y.qs
end Go.Proofs.YtcbbdnaelimpfaaGreat

/- Store: one that is not there. -/
import Derived.Test.YtdmcaaojapcbcaaSto23
set_option linter.unusedSimpArgs false
set_option linter.unusedVariables false
namespace Go.Proofs.Ytdmcaaojapcbcaa
open Go.Vc
variable {K : Value → Heap → Prop} {h : Heap}

/-- No store: nil, or a zero one. -/
def NilSt (h : Heap) (v : Value) : Prop := v = .pointer none ∨ ∃ p, v = ptrV p ∧ h[p]? = some (.cells #[.map none, .slice none 0 0, .int .i64 0] sT)
theorem NilSt.ext {h' : Heap} {v : Value} (a : NilSt h v) (e : Ext h h') : NilSt h' v := by
  rcases a with a | ⟨p, h1, h2⟩
  · exact .inl a
  · exact .inr ⟨p, h1, (e.block _ (get_some_lt h2)).trans h2⟩
theorem noneN {v : Value} (a : NilSt h v) (H : K (.bool true) h) : CallsH Try.prog 53 #[v] h K ⟨⟩ := by
  rcases a with rfl | ⟨p, rfl, h2⟩
  · exact none_nil H
  · exact none_zero h2 H
theorem askedN {v u : Value} (a : NilSt h v) (H : K (.int .i64 1) h) : CallsH Try.prog 77 #[v, u] h K ⟨⟩ := by
  refine n77_calls ?_
  unfold n77
  refine noneN a ?_
  simp (disch := omega)
  exact H
theorem findN {v u : Value} (a : NilSt h v) (H : K (.tuple #[.pointer none, .int .i64 1]) h) : CallsH Try.prog 59 #[v, u] h K ⟨⟩ := by
  refine n59_calls ?_
  unfold n59
  refine askedN a ?_
  simp (disch := omega)
  exact H
theorem CreateN {v u : Value} (a : NilSt h v) (H : K (.int .i64 1) h) : CallsH Try.prog 33 #[v, u] h K ⟨⟩ := by
  refine n33_calls ?_
  unfold n33
  refine askedN a ?_
  simp (disch := omega)
  exact H
theorem RemoveN {v u : Value} (a : NilSt h v) (H : K (.int .i64 1) h) : CallsH Try.prog 50 #[v, u] h K ⟨⟩ := by
  refine n50_calls ?_
  unfold n50
  refine findN a ?_
  simp (disch := omega)
  exact H
theorem WriteN {v u x y : Value} (a : NilSt h v) (H : K (.int .i64 1) h) : CallsH Try.prog 34 #[v, u, x, y] h K ⟨⟩ := by
  refine n34_calls ?_
  unfold n34
  refine findN a ?_
  simp (disch := omega)
  exact H
theorem FlushN {v u : Value} (a : NilSt h v) (H : K (.int .i64 1) h) : CallsH Try.prog 28 #[v, u] h K ⟨⟩ := by
  refine n28_calls ?_
  unfold n28
  refine findN a ?_
  simp (disch := omega)
  exact H
theorem ResizeN {v u x : Value} (a : NilSt h v) (H : K (.int .i64 1) h) : CallsH Try.prog 51 #[v, u, x] h K ⟨⟩ := by
  refine n51_calls ?_
  unfold n51
  refine findN a ?_
  simp (disch := omega)
  exact H
theorem FeedN {v u : Value} (a : NilSt h v) (H : K (.int .i64 1) h) : CallsH Try.prog 52 #[v, u] h K ⟨⟩ := by
  refine n52_calls ?_
  unfold n52
  refine noneN a ?_
  simp (disch := omega)
  exact H
theorem ReadN {v u x y : Value} (a : NilSt h v) (H : K (.tuple #[.slice none 0 0, .int .i64 1]) h) : CallsH Try.prog 26 #[v, u, x, y] h K ⟨⟩ := by
  refine n26_calls ?_
  unfold n26
  refine findN a ?_
  simp (disch := omega)
  exact H
theorem SizeN {v u : Value} (a : NilSt h v) (H : K (.tuple #[.int .i64 0, .int .i64 1]) h) : CallsH Try.prog 49 #[v, u] h K ⟨⟩ := by
  refine n49_calls ?_
  unfold n49
  refine findN a ?_
  simp (disch := omega)
  exact H
theorem StepsN {v : Value} (a : NilSt h v) (H : K (.tuple #[.int .i64 0, .int .i64 0]) h) : CallsH Try.prog 68 #[v] h K ⟨⟩ := by
  refine n68_calls ?_
  unfold n68
  refine noneN a ?_
  simp (disch := omega)
  exact H
theorem NamesN {v : Value} (a : NilSt h v) (H : K (.slice none 0 0) h) : CallsH Try.prog 25 #[v] h K ⟨⟩ := by
  refine n25_calls ?_
  unfold n25
  refine noneN a ?_
  simp (disch := omega)
  exact H
theorem CrashN {v : Value} {b : Option Addr} {n c : Nat} (a : NilSt h v) (H : ∀ h', Ext h h' → K (.tuple #[.pointer none, .int .i64 1]) h') : CallsH Try.prog 24 #[v, .slice b n c] h K ⟨⟩ := by
  refine n24_calls ?_
  unfold n24
  simp (disch := omega)
  refine noneN (a.ext (by repeat' (first | (with_reducible exact Ext.refl _) | (with_reducible assumption) | (with_reducible refine push_ext ?_) | (with_reducible refine hset_ext ?_ ?_) | (with_reducible refine Ext.trans ?_ (by assumption)) | omega | (simp; done) | (simp; omega) | (refine Ext.size ?_) | (refine Nat.le_succ_of_le (Ext.size ?_))))) ?_
  simp (disch := omega)
  exact H _ (by repeat' (first | (with_reducible exact Ext.refl _) | (with_reducible assumption) | (with_reducible refine push_ext ?_) | (with_reducible refine hset_ext ?_ ?_) | (with_reducible refine Ext.trans ?_ (by assumption)) | omega | (simp; done) | (simp; omega) | (refine Ext.size ?_) | (refine Nat.le_succ_of_le (Ext.size ?_))))
theorem CopyN {v : Value} (a : NilSt h v) (H : K (.pointer none) h) : CallsH Try.prog 69 #[v] h K ⟨⟩ := by
  refine n69_calls ?_
  unfold n69
  refine noneN a ?_
  simp (disch := omega)
  exact RetD_nil H
theorem PendingN {v : Value} (a : NilSt h v) (H : ∀ h', Ext h h' → K (.int .i64 0) h') : CallsH Try.prog 23 #[v] h K ⟨⟩ := by
  refine n23_calls ?_
  unfold n23
  simp (disch := omega)
  refine (⟨_, rfl⟩ : ∃ g, g = hset (h.push (.cells #[.int .i64 0] 3)) ⟨h.size, 0, none⟩ (.int .i64 0)).elim fun h0 eh0 => ?_
  have e0 : Ext h h0 := by rw [eh0]; exact (by repeat' (first | (with_reducible exact Ext.refl _) | (with_reducible assumption) | (with_reducible refine push_ext ?_) | (with_reducible refine hset_ext ?_ ?_) | (with_reducible refine Ext.trans ?_ (by assumption)) | omega | (simp; done) | (simp; omega) | (refine Ext.size ?_) | (refine Nat.le_succ_of_le (Ext.size ?_))))
  have q0 : h0[h.size]? = some (.cells #[.int .i64 0] 3) := by rw [eh0]; exact obj_set (get_pushed rfl)
  have c0 := cellOf (i := 0) q0 rfl
  rw [← eh0]
  clear eh0
  refine JoinN.mk ?_
  refine NamesN (a.ext e0) ?_
  simp (disch := omega)
  refine JoinN.mk ?_
  refine loopX2 (α := Unit) (fun _ => .tuple #[]) (fun _ => .int .i64 0) (fun _ g => g = h0) (fun _ => 0) () ⟨rfl, rfl⟩ rfl ?_
  rintro _ g rfl X hX
  simp (disch := omega) [c0]
  exact RetD_nil (H _ e0)
theorem PiecesN {v u : Value} (a : NilSt h v) (H : ∀ h' sb, Ext h h' → Pseq h' sb (.slice none 0 0) [] → K (seqV sb) h') : CallsH Try.prog 27 #[v, u] h K ⟨⟩ := by
  refine n27_calls ?_
  unfold n27
  refine JoinN.mk ?_
  refine findN a ?_
  simp (disch := omega)
  refine n60_calls ?_
  unfold n60
  simp (disch := omega)
  exact H _ h.size (by repeat' (first | (with_reducible exact Ext.refl _) | (with_reducible assumption) | (with_reducible refine push_ext ?_) | (with_reducible refine hset_ext ?_ ?_) | (with_reducible refine Ext.trans ?_ (by assumption)) | omega | (simp; done) | (simp; omega) | (refine Ext.size ?_) | (refine Nat.le_succ_of_le (Ext.size ?_)))) ⟨get_pushed rfl, .nil, Nat.zero_le _⟩
/-- Two that are not there. -/
theorem SameNN {v w : Value} (a : NilSt h v) (b : NilSt h w) (H : K (.bool true) h) : CallsH Try.prog 29 #[v, w] h K ⟨⟩ := by
  refine n29_calls ?_
  unfold n29
  refine noneN a ?_
  simp (disch := omega)
  refine noneN a ?_
  simp (disch := omega)
  refine noneN b ?_
  simp (disch := omega)
  exact H
theorem SameNS {v : Value} {p : Nat} {s : St} (a : NilSt h v) (b : StAt h p s) (H : K (.bool false) h) : CallsH Try.prog 29 #[v, ptrV p] h K ⟨⟩ := by
  refine n29_calls ?_
  unfold n29
  refine noneN a ?_
  simp (disch := omega)
  refine noneN a ?_
  simp (disch := omega)
  refine none_c b.cells ?_
  simp (disch := omega)
  exact H
theorem SameSN {v : Value} {p : Nat} {s : St} (a : NilSt h v) (b : StAt h p s) (H : K (.bool false) h) : CallsH Try.prog 29 #[ptrV p, v] h K ⟨⟩ := by
  refine n29_calls ?_
  unfold n29
  refine none_c b.cells ?_
  simp (disch := omega)
  refine noneN a ?_
  simp (disch := omega)
  refine none_c b.cells ?_
  simp (disch := omega)
  exact H
end Go.Proofs.Ytdmcaaojapcbcaa

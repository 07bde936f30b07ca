/- InOrder of the program returns what InOrder of the reference returns, for all arguments: the plain law. No conditions. -/
import Derived.Test.YtmkpoldhgdbjiaaPOutcomeInOrder
namespace Go.Proofs.Ytmkpoldhgdbjiaa.PureInOrder
open Go.RowKit Go.Proofs.YtmkpoldhgdbjiaaW.PrintWords Go.Proofs.YtmkpoldhgdbjiaaW.PrintLast Go.Proofs.YtmkpoldhgdbjiaaW.PrintMore Go.Proofs.Ytmkpoldhgdbjiaa.Pln Go.Proofs.Ytmkpoldhgdbjiaa.PFnExactInOrder
set_option linter.unusedVariables false
def inO (a : Int) : List S55 → Nat → Bool
  | [], _ => true
  | x :: r, i => if x.f0 = wrap64 (a + i) then inO a r (i + 1) else false
theorem spec_all (a : Int) (l : List S55) (hl : l.length * 32 ≤ 140737488351232) : Ev (fun k => spec_InOrder.f k a l) (inO a l 0) :=
  all_loop l (fun k i => spec_InOrder.l0 k a l i) (inO a) (fun k => by simp only [spec_InOrder.l0]; rw [if_neg (by omega)]; rfl)
    (fun i hi ih => by
      simp only [inO]
      by_cases h : (l[i]).f0 = wrap64 (a + i)
      · rw [if_pos h]
        refine Ev.step (fun k => ?_) ih
        simp only [spec_InOrder.l0]
        rw [if_pos (by omega), if_pos (by omega), rd55 l i hi, if_pos h, wrap_next hi (by omega)]
      · rw [if_neg h]
        refine Ev.step (f := fun _ => some false) (fun k => ?_) (Ev.now _)
        simp only [spec_InOrder.l0]
        rw [if_pos (by omega), if_pos (by omega), rd55 l i hi, if_neg h])
theorem impl_all (a : Int) (l : List S55) (hl : l.length * 32 ≤ 140737488351232) : Ev (fun k => impl_InOrder.f k a l) (inO a l 0) :=
  all_loop l (fun k i => impl_InOrder.l0 k a l l.length i) (inO a) (fun k => by simp only [impl_InOrder.l0]; rw [if_neg (by omega)]; rfl)
    (fun i hi ih => by
      simp only [inO]
      by_cases h : (l[i]).f0 = wrap64 (a + i)
      · rw [if_pos h]
        refine Ev.step (fun k => ?_) ih
        simp only [impl_InOrder.l0]
        rw [if_pos (by omega), if_pos (by omega), if_pos (by omega), rd55 l i hi, if_pos h, wrap_next hi (by omega)]
      · rw [if_neg h]
        refine Ev.step (f := fun _ => some false) (fun k => ?_) (Ev.now _)
        simp only [impl_InOrder.l0]
        rw [if_pos (by omega), if_pos (by omega), if_pos (by omega), rd55 l i hi, if_neg h])
theorem law (a0 : Int) (l1 : List S54) (h0 : (Lit.int .i64 a0).wf = true) (h1 : l1.length * 32 ≤ 140737488351232 ∧ ∀ y ∈ l1, (Lit.int .i64 y.f0).wf = true ∧ (Lit.int .i64 y.f1).wf = true ∧ y.f2.size ≤ 140737488351232) : ∃ k, laws_FnExactInOrder.f k a0 l1 = some true := by
  obtain ⟨hl, hx0⟩ := h1
  have hx : ∀ x ∈ l1, x.f2.size ≤ 140737488351232 := fun x h => (hx0 x h).2.2
  refine Ev.rounds (g := fun k => laws_FnExactInOrder.f k a0 l1) ?_
  unfold laws_FnExactInOrder.f
  obtain ⟨r, hr, hL⟩ := sz_all l1 hl hx 1048576 (by omega) (by omega)
  refine Ev.bind hr ?_
  rcases hL with rfl | ⟨h0, _⟩
  · exact Ev.congr (fun k => by rw [if_pos (by omega)]) (Ev.now true)
  · refine Ev.congr (fun k => by rw [if_neg (by omega)]) ?_
    refine Ev.bind (to_all l1 hl) (Ev.bind (spec_all a0 _ (by simpa using hl)) (Ev.bind (to_all l1 hl) (Ev.bind (impl_all a0 _ (by simpa using hl)) ?_)))
    refine Ev.congr (fun k => by rw [if_neg (by simp)]) ?_
    refine Ev.bind (to_all l1 hl) (Ev.bind (eq_all _ (by simpa using hl)) ?_)
    exact Ev.congr (fun k => by rw [if_pos rfl]) (Ev.now true)
end Go.Proofs.Ytmkpoldhgdbjiaa.PureInOrder

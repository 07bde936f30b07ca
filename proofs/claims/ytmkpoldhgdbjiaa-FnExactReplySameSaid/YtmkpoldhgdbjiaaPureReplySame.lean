/- ReplySame of the program returns what ReplySame of the reference returns, for all arguments: the plain law. No conditions. -/
import Derived.Test.YtmkpoldhgdbjiaaPFnExactReplySamex4
import Derived.Test.YtmkpoldhgdbjiaaPOutcomeReplySame
namespace Go.Proofs.Ytmkpoldhgdbjiaa.PureReplySame
open Go.RowKit Go.Proofs.YtmkpoldhgdbjiaaW.PrintWords Go.Proofs.YtmkpoldhgdbjiaaW.PrintLast Go.Proofs.YtmkpoldhgdbjiaaW.PrintMore Go.Proofs.Ytmkpoldhgdbjiaa.Pln Go.Proofs.Ytmkpoldhgdbjiaa.PFnExactReplySame
set_option linter.unusedVariables false
def tst (x y : S55) : Bool := (!(x.f0 == y.f0) || (!(x.f1 == y.f1) || (!((x.f2.toList) == (y.f2.toList)))))
def sameO : List S55 → List S55 → Bool
  | x :: r, y :: s => if tst x y = true then false else sameO r s
  | _, _ => true
theorem spec_o (l m : List S55) (hl : l.length * 32 ≤ 140737488351232) : Ev (fun k => spec_l15Outcomes.f k l m) (if l.length = m.length then sameO l m else false) := by
  unfold spec_l15Outcomes.f
  by_cases h : l.length = m.length
  · rw [if_pos h]
    refine Ev.congr (fun k => by rw [if_pos (by omega)]) ?_
    refine all2_loop l m h.symm (fun k i => spec_l15Outcomes.l0 k l m i) sameO (fun k => by simp only [spec_l15Outcomes.l0]; rw [if_neg (by omega)]; rfl) ?_
    intro i hi hi' ih
    simp only [sameO]
    by_cases ht : tst l[i] m[i] = true
    · rw [if_pos ht]
      refine Ev.step (f := fun _ => some false) (fun k => ?_) (Ev.now _)
      simp only [spec_l15Outcomes.l0]
      rw [if_pos (by omega), if_pos (by omega), if_pos (by omega), rd55 l i hi, rd55 m i hi']
      exact if_pos ht
    · rw [if_neg ht]
      refine Ev.step (fun k => ?_) ih
      simp only [spec_l15Outcomes.l0]
      rw [if_pos (by omega), if_pos (by omega), if_pos (by omega), rd55 l i hi, rd55 m i hi', wrap_next hi (by omega)]
      exact if_neg ht
  · rw [if_neg h]
    exact Ev.congr (fun k => by rw [if_neg (by omega)]) (Ev.now _)
theorem impl_o (l m : List S55) (hl : l.length * 32 ≤ 140737488351232) : Ev (fun k => impl_Outcome.f k l m) (if l.length = m.length then sameO l m else false) := by
  unfold impl_Outcome.f
  by_cases h : l.length = m.length
  · rw [if_pos h]
    refine Ev.congr (fun k => by rw [if_pos (by omega)]) ?_
    refine all2_loop l m h.symm (fun k i => impl_Outcome.l0 k l m l.length i) sameO (fun k => by simp only [impl_Outcome.l0]; rw [if_neg (by omega)]; rfl) ?_
    intro i hi hi' ih
    simp only [sameO]
    by_cases ht : tst l[i] m[i] = true
    · rw [if_pos ht]
      refine Ev.step (f := fun _ => some false) (fun k => ?_) (Ev.now _)
      simp only [impl_Outcome.l0]
      rw [if_pos (by omega), if_pos (by omega), if_pos (by omega), if_pos (by omega), rd55 l i hi, rd55 m i hi']
      exact if_pos ht
    · rw [if_neg ht]
      refine Ev.step (fun k => ?_) ih
      simp only [impl_Outcome.l0]
      rw [if_pos (by omega), if_pos (by omega), if_pos (by omega), if_pos (by omega), rd55 l i hi, rd55 m i hi', wrap_next hi (by omega)]
      exact if_neg ht
  · rw [if_neg h]
    exact Ev.congr (fun k => by rw [if_neg (by omega)]) (Ev.now _)
theorem sz_r (a0 : Int) (l : List S54) (hl : l.length * 32 ≤ 140737488351232) (hx : ∀ x ∈ l, x.f2.size ≤ 140737488351232) (left : Int) (h0 : 0 ≤ left) (h1 : left ≤ 1048576) :
    ∃ r, Ev (fun k => laws_szReply.f k a0 l left) r ∧ Paid left (l.length + total (fun x => x.f2.size) l) r := by
  unfold laws_szReply.f
  obtain ⟨r, hr, hL⟩ := sz_all l hl hx left h0 h1
  refine ⟨r, Ev.bind hr ?_, hL⟩
  rcases hL with rfl | ⟨a, _⟩
  · exact Ev.congr (fun k => by rw [if_pos (by omega)]) (Ev.now _)
  · exact Ev.congr (fun k => by rw [if_neg (by omega)]) (Ev.now _)
theorem to_r (a0 : Int) (l : List S54) (hl : l.length * 32 ≤ 140737488351232) : Ev (fun k => laws_toReply.f k a0 l) (a0, l.map cv) := by
  unfold laws_toReply.f
  exact Ev.bind (to_all l hl) (Ev.now _)
theorem spec_r (a b : Int) (l m : List S55) (hl : l.length * 32 ≤ 140737488351232) : Ev (fun k => spec_ReplySame.f k a l b m) (if a = b then (if l.length = m.length then sameO l m else false) else false) := by
  unfold spec_ReplySame.f
  by_cases h : a = b
  · rw [if_pos h]
    exact Ev.congr (fun k => by rw [if_pos h]) (Ev.bind (spec_o l m hl) (Ev.now _))
  · rw [if_neg h]
    exact Ev.congr (fun k => by rw [if_neg h]) (Ev.now _)
theorem impl_r (a b : Int) (l m : List S55) (hl : l.length * 32 ≤ 140737488351232) : Ev (fun k => impl_ReplySame.f k a l b m) (if a = b then (if l.length = m.length then sameO l m else false) else false) := by
  unfold impl_ReplySame.f
  by_cases h : a = b
  · rw [if_pos h]
    exact Ev.congr (fun k => by rw [if_pos h]) (Ev.bind (impl_o l m hl) (Ev.now _))
  · rw [if_neg h]
    exact Ev.congr (fun k => by rw [if_neg h]) (Ev.now _)
theorem eq_r (a : Int) (l : List S55) (hl : l.length * 32 ≤ 140737488351232) : Ev (fun k => laws_eqReply.f k a l a l) true := by
  unfold laws_eqReply.f
  refine Ev.congr (fun k => by rw [if_pos rfl]) ?_
  exact Ev.bind (eq_all l hl) (Ev.congr (fun k => by rw [if_pos rfl]) (Ev.now _))
abbrev GO (y : S54) : Prop := (Lit.int .i64 y.f0).wf = true ∧ (Lit.int .i64 y.f1).wf = true ∧ y.f2.size ≤ 140737488351232
theorem law (a0 : Int) (l0 : List S54) (a1 : Int) (l1 : List S54) (h0 : (Lit.int .i64 a0).wf = true ∧ (l0.length * 32 ≤ 140737488351232 ∧ ∀ y ∈ l0, GO y)) (h1 : (Lit.int .i64 a1).wf = true ∧ (l1.length * 32 ≤ 140737488351232 ∧ ∀ y ∈ l1, GO y)) :
    ∃ k, laws_FnExactReplySame.f k a0 l0 a1 l1 = some true := by
  have hx0 : ∀ x ∈ l0, x.f2.size ≤ 140737488351232 := fun x h => (h0.2.2 x h).2.2
  have hx1 : ∀ x ∈ l1, x.f2.size ≤ 140737488351232 := fun x h => (h1.2.2 x h).2.2
  have hl0 := h0.2.1
  have hl1 := h1.2.1
  refine Ev.rounds (g := fun k => laws_FnExactReplySame.f k a0 l0 a1 l1) ?_
  unfold laws_FnExactReplySame.f
  obtain ⟨r, hr, hL⟩ := sz_r a0 l0 hl0 hx0 1048576 (by omega) (by omega)
  refine Ev.bind hr ?_
  rcases hL with rfl | ⟨g0, g1⟩
  · exact Ev.congr (fun k => by rw [if_pos (by omega)]) (Ev.now true)
  · refine Ev.congr (fun k => by rw [if_neg (by omega)]) ?_
    obtain ⟨r', hr', hL'⟩ := sz_r a1 l1 hl1 hx1 r g0 (by omega)
    refine Ev.bind hr' ?_
    rcases hL' with rfl | ⟨g2, g3⟩
    · exact Ev.congr (fun k => by rw [if_pos (by omega)]) (Ev.now true)
    · refine Ev.congr (fun k => by rw [if_neg (by omega)]) ?_
      refine Ev.bind (to_r a0 l0 hl0) (Ev.bind (to_r a1 l1 hl1) (Ev.bind (spec_r a0 a1 _ _ (by simpa using hl0)) (Ev.bind (to_r a0 l0 hl0) (Ev.bind (to_r a1 l1 hl1) (Ev.bind (impl_r a0 a1 _ _ (by simpa using hl0)) ?_)))))
      refine Ev.congr (fun k => by rw [if_neg (by simp)]) ?_
      refine Ev.bind (to_r a0 l0 hl0) (Ev.bind (eq_r a0 _ (by simpa using hl0)) ?_)
      refine Ev.congr (fun k => by rw [if_pos rfl]) ?_
      refine Ev.bind (to_r a1 l1 hl1) (Ev.bind (eq_r a1 _ (by simpa using hl1)) ?_)
      exact Ev.congr (fun k => by rw [if_pos rfl]) (Ev.now true)
end Go.Proofs.Ytmkpoldhgdbjiaa.PureReplySame

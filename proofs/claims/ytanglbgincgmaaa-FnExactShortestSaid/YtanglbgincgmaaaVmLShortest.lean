/-
  Plain laws: Shortest.
-/
import Derived.Test.YtanglbgincgmaaaVmQG
import Derived.Test.YtanglbgincgmaaaVmPD
namespace Go.Proofs.Ytanglbgincgmaaa.Vm
open Go Go.RowKit Go.Proofs
set_option linter.unusedVariables false
def shortestOf (g : List (List (List Int))) (k : Int) : Int := if check g = 0 ∧ 0 ≤ k ∧ k < g.length then lv (least g) k.toNat else -1
theorem shortest_spec {g : List (List (List Int))} (h0 : gOk g) (k : Int) : p_spec_Shortest g k = some (shortestOf g k) := by
  unfold p_spec_Shortest shortestOf
  simp only [check_spec h0, Option.bind_eq_bind, Option.bind_some, l1In_ok]
  by_cases hc : check g = 0
  · have hg := GR.of (check_gram hc)
    have hn := hg.n20
    have hl := (least_lim hg).2.len
    rw [if_pos hc, wrap_id (by omega) (by omega)]
    unfold within
    by_cases h1 : 0 ≤ k ∧ k < g.length
    · have h2 : k ≤ (g.length : Int) - 1 := by omega
      simp only [h1, h2, hc, decide_true, Bool.and_true, if_true, l23Least_ok hg, Option.bind_some, lv_get (show k.toNat < (least g).length by omega), true_and]
    · have h2 : (decide (0 ≤ k) && decide (k ≤ (g.length : Int) - 1)) = false := by
        rw [Bool.and_eq_false_iff, decide_eq_false_iff_not, decide_eq_false_iff_not]; omega
      simp only [h2, h1, hc, and_false, if_false, Bool.false_eq_true]
  · simp only [hc, false_and, if_false]
theorem shortest_impl {g : List (List (List Int))} (h0 : gOk g) (hw : gWf g) (k : Int) : p_impl_Shortest g k = some (shortestOf g k) := by
  have hlen := h0.1
  unfold p_impl_Shortest p_impl_isPart shortestOf
  rw [wrap_id (by omega) (by omega)]
  simp only [inRange_ok, isGood_ok h0 hw, Option.bind_eq_bind, Option.bind_some]
  unfold within
  by_cases h1 : 0 ≤ k ∧ k < g.length
  · have h2 : k ≤ (g.length : Int) - 1 := by omega
    by_cases hc : check g = 0
    · have hg := GR.of (check_gram hc)
      have hn := hg.n20
      have hl := (least_lim hg).2.len
      simp only [h1, h2, hc, decide_true, Bool.and_true, if_true, shortest_ok hg, Option.bind_some, arrL_get (show k.toNat < (least g).length by omega), show k.toNat < 20 by omega, true_and]
    · simp only [h1, h2, hc, decide_true, decide_false, Bool.and_true, if_true, Bool.false_eq_true, if_false, false_and]
  · have h2 : (decide (0 ≤ k) && decide (k ≤ (g.length : Int) - 1)) = false := by
      rw [Bool.and_eq_false_iff, decide_eq_false_iff_not, decide_eq_false_iff_not]; omega
    simp only [h2, h1, and_false, if_false, Bool.false_eq_true]
theorem lawShortest {x : List (List (List Int))} (h : rowG x) (k : Int) : p_laws_FnExactShortest x k = some true := by
  obtain ⟨r, h1, h2⟩ := sized h
  unfold p_laws_FnExactShortest
  simp only [h1, Option.bind_eq_bind, Option.bind_some]
  rcases h2 with h2 | ⟨h2, hg⟩
  · rw [if_pos h2]
  · have hw := rowG_wf h
    have e1 : ¬ r < 0 := by omega
    simp [e1, toGram_ok hg, shortest_spec hg, shortest_impl hg hw, eqGram_ok hg]
end Go.Proofs.Ytanglbgincgmaaa.Vm

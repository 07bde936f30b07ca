/-
  Plain laws: SameWords.
-/
import Derived.Test.YtanglbgincgmaaaVmQS
namespace Go.Proofs.Ytanglbgincgmaaa.Vm
open Go Go.RowKit Go.Proofs
set_option linter.unusedVariables false
theorem sizedK {x : List (List (List Int))} (h : rowG x) {k : Int} (hk : 0 ≤ k) (hk2 : k ≤ 1048576) : ∃ r, p_laws_szGram x k = some r ∧ (r < 0 ∨ (0 ≤ r ∧ r ≤ k ∧ gOk x)) := by
  unfold p_laws_szGram
  rw [szIntSSS_ok (by have := h.1; omega) (fun y hy => by have := (h.2 y hy).1; omega) (fun y hy z hz => by have := ((h.2 y hy).2 z hz).1; omega) hk hk2]
  simp only [Option.bind_eq_bind, Option.bind_some]
  by_cases hn : left k (cnt3 x) < 0
  · exact ⟨-1, by simp [hn], .inl (by omega)⟩
  · have h3 : ((cnt3 x : Nat) : Int) ≤ k := by have := mt (left_neg k (cnt3 x) hk).2 hn; omega
    have e3 : cnt3 x = x.length + cntL cnt2 x := rfl
    refine ⟨left k (cnt3 x), by simp [hn], .inr ⟨by omega, by unfold left; split <;> omega, by omega, fun y hy => ?_⟩⟩
    have e4 := cntL_le (cnt := cnt2) hy
    have e5 : cnt2 y = y.length + cntL List.length y := rfl
    refine ⟨by omega, fun z hz => ?_⟩
    have e6 := cntL_le (cnt := List.length) hz
    omega
noncomputable def same (a b : List (List (List Int))) : Bool := decide (check a = 0) && (decide (check b = 0) && (decide ((missing a b).length = 0) && decide ((missing b a).length = 0)))
theorem same_spec {a b : List (List (List Int))} (ha : gOk a) (hb : gOk b) : p_spec_SameWords a b = some (same a b) := by
  unfold p_spec_SameWords same
  simp only [check_spec ha, check_spec hb, missing_spec ha hb, missing_spec hb ha, Option.bind_eq_bind, Option.bind_some]
  by_cases h1 : check a = 0
  · by_cases h2 : check b = 0
    · by_cases h3 : (missing a b).length = 0
      · have h3' : ((missing a b).length : Int) = 0 := by omega
        have e : decide (((missing b a).length : Int) = 0) = decide ((missing b a).length = 0) := by congr 1; apply propext; omega
        rw [if_pos h1, if_pos h2, if_pos h3', e]
        simp only [h1, h2, h3, decide_true, Bool.true_and]
      · have h3' : ¬ ((missing a b).length : Int) = 0 := by omega
        rw [if_pos h1, if_pos h2, if_neg h3']
        simp only [h1, h2, h3, decide_true, decide_false, Bool.true_and, Bool.false_and]
    · rw [if_pos h1, if_neg h2]
      simp only [h1, h2, decide_true, decide_false, Bool.true_and, Bool.false_and]
  · rw [if_neg h1]
    simp only [h1, decide_false, Bool.false_and]
theorem same_impl {a b : List (List (List Int))} (ha : gOk a) (hb : gOk b) (wa : gWf a) (wb : gWf b) : p_impl_SameWords a b = some (same a b) := by
  unfold p_impl_SameWords same
  simp only [isGood_ok ha wa, isGood_ok hb wb, missing_impl ha hb wa wb, missing_impl hb ha wb wa, Option.bind_eq_bind, Option.bind_some, decide_eq_true_eq]
  by_cases h1 : check a = 0
  · by_cases h2 : check b = 0
    · by_cases h3 : (missing a b).length = 0
      · have h3' : ((missing a b).length : Int) = 0 := by omega
        have e : decide (((missing b a).length : Int) = 0) = decide ((missing b a).length = 0) := by congr 1; apply propext; omega
        rw [if_pos h1, if_pos h2, if_pos h3', e]
        simp only [h1, h2, h3, decide_true, Bool.true_and]
      · have h3' : ¬ ((missing a b).length : Int) = 0 := by omega
        rw [if_pos h1, if_pos h2, if_neg h3']
        simp only [h1, h2, h3, decide_true, decide_false, Bool.true_and, Bool.false_and]
    · rw [if_pos h1, if_neg h2]
      simp only [h1, h2, decide_true, decide_false, Bool.true_and, Bool.false_and]
  · rw [if_neg h1]
    simp only [h1, decide_false, Bool.false_and]
theorem lawSameWords {x y : List (List (List Int))} (hx : rowG x) (hy : rowG y) : p_laws_FnExactSameWords x y = some true := by
  obtain ⟨r, h1, h2⟩ := sizedK hx (k := 1048576) (by omega) (by omega)
  unfold p_laws_FnExactSameWords
  simp only [h1, Option.bind_eq_bind, Option.bind_some]
  rcases h2 with h2 | ⟨h2, h2b, hg⟩
  · rw [if_pos h2]
  · rw [if_neg (by omega)]
    obtain ⟨s, k1, k2⟩ := sizedK hy h2 h2b
    simp only [k1, Option.bind_some]
    rcases k2 with k2 | ⟨k2, _, hg2⟩
    · rw [if_pos k2]
    · rw [if_neg (by omega)]
      have hw := rowG_wf hx
      have hw2 := rowG_wf hy
      simp only [toGram_ok hg, toGram_ok hg2, same_spec hg hg2, same_impl hg hg2 hw hw2, eqGram_ok hg, eqGram_ok hg2, Option.bind_some, decide_true, if_true]
      cases same x y <;> simp
end Go.Proofs.Ytanglbgincgmaaa.Vm

/-
  What a part starts with.
-/
import Derived.Test.YtanglbgincgmaaaVmQF
namespace Go.Proofs.Ytanglbgincgmaaa.Vm
open Go Go.RowKit Go.Proofs
set_option linter.unusedVariables false
theorem lv_get {v : List Int} {k : Nat} (h : k < v.length) : v[k]? = some (lv v k) := by
  unfold lv
  rw [getD_get h, List.getElem?_eq_getElem h]
theorem l1Min_ok (a b : Int) : p_spec_l1Min a b = some (min a b) := by
  unfold p_spec_l1Min
  by_cases h : a < b
  · rw [if_pos h]; congr 1; omega
  · rw [if_neg h]; congr 1; omega
/-- What a part starts with. -/
theorem tstep_fix : ∀ {E : List (Nat × Nat)} {S : List Nat}, E.foldl tstep S = S → ∀ p ∈ E, tstep S p = S := by
  intro E
  induction E with
  | nil => intro S _ p h; cases h
  | cons q E ih =>
    intro S h p hp
    have h0 : E.foldl tstep (tstep S q) = S := h
    have h1 : tstep S q = S := by
      refine List.ext_getElem (tstep_len S q) (fun i h1 h2 => Nat.eq_of_testBit_eq (fun m => ?_))
      have g1 := tfold_grows [q] S i m
      have g2 := tfold_grows E (tstep S q) i m
      rw [h0] at g2
      simp only [List.foldl_cons, List.foldl_nil] at g1
      rw [getD_get h1] at g1 g2
      rw [getD_get h2] at g1 g2
      cases ha : S[i].testBit m with
      | true => exact g1 ha
      | false =>
        cases hb : (tstep S q)[i].testBit m with
        | false => rfl
        | true => rw [g2 hb] at ha; cases ha
    rcases List.mem_cons.1 hp with rfl | hp
    · exact h1
    · rw [h1] at h0
      exact ih h0 p hp
theorem starts_edge {g : List (List (List Int))} (hg : GR g) {k t : Nat} (hk : k < g.length) (h : (k, t) ∈ edgesOf (emp g) g) : ((starts g).getD k 0).testBit t = true ∧ ∀ i, ((starts g).getD t 0).testBit i = true → ((starts g).getD k 0).testBit i = true := by
  have h1 := tstep_fix (tfix_fix (emp g) g) (k, t) h
  have hl : (starts g).length = g.length := (startsOf_ok hg).2.1
  have h2 := congrArg (fun S => S.getD k 0) h1
  simp only [tstep] at h2
  change (List.set (starts g) k (put ((starts g).getD k 0) t ||| (starts g).getD t 0)).getD k 0 = (starts g).getD k 0 at h2
  rw [List.getD_eq_getElem?_getD, List.getElem?_set_self (by omega)] at h2
  simp only [Option.getD_some] at h2
  refine ⟨?_, fun i hi => ?_⟩
  · rw [← h2, Nat.testBit_or, put_bit]; simp
  · rw [← h2, Nat.testBit_or, hi]; simp
def pop (a : Nat) : Nat := (List.range 20).countP fun i => a.testBit i
theorem pop_le (a : Nat) : pop a ≤ 20 := by
  have := List.countP_le_length (p := fun i => a.testBit i) (l := List.range 20)
  simpa [pop] using this
theorem check_loop {g : List (List (List Int))} (h : check g = 0) {k : Nat} (hk : k < g.length) : ((starts g).getD k 0).testBit k = false := by
  unfold check at h
  rw [if_neg (by rw [check_gram h]; simp)] at h
  split at h
  · cases h
  · rename_i h1
    cases hb : ((starts g).getD k 0).testBit k with
    | false => rfl
    | true =>
      have h2 : (List.range g.length).any (fun k => ((starts g).getD k 0).testBit k) = true := List.any_eq_true.2 ⟨k, List.mem_range.2 hk, hb⟩
      exact absurd h2 h1
theorem pop_edge {g : List (List (List Int))} (h : check g = 0) {k t : Nat} (hk : k < g.length) (ht : t < g.length) (he : (k, t) ∈ edgesOf (emp g) g) : pop ((starts g).getD t 0) < pop ((starts g).getD k 0) := by
  have hg := GR.of (check_gram h)
  obtain ⟨h1, h2⟩ := starts_edge hg hk he
  exact countP_lt (fun i _ hi => h2 i hi) ⟨t, List.mem_range.2 (by have := hg.n20; omega), h1, check_loop h ht⟩
theorem rowEdges_mem {e : Nat} : ∀ {pre suf : List Int} {x : Int}, pre.all (inSet e) = true → 100 ≤ x → (x - 100).toNat ∈ rowEdges e (pre ++ x :: suf) := by
  intro pre
  induction pre with
  | nil => intro suf x _ hx; simp [rowEdges, hx]
  | cons y pre ih =>
    intro suf x h hx
    rw [List.all_cons, Bool.and_eq_true] at h
    have h1 := h.1
    unfold inSet at h1
    simp only [Bool.and_eq_true, decide_eq_true_eq] at h1
    rw [List.cons_append, rowEdges, if_pos h1.1.1, if_pos h1.2]
    exact List.mem_cons_of_mem _ (ih h.2 hx)
theorem edge_mem {g : List (List (List Int))} {e k : Nat} (hk : k < g.length) {row pre suf : List Int} {x : Int} (hr : row ∈ g[k]) (hrow : row = pre ++ x :: suf) (hp : pre.all (inSet e) = true) (hx : 100 ≤ x) : (k, (x - 100).toNat) ∈ edgesOf e g := by
  unfold edgesOf
  refine List.mem_flatMap.2 ⟨(k, row), mem_rowsOf.2 ⟨hk, hr⟩, List.mem_map.2 ⟨_, ?_, rfl⟩⟩
  rw [hrow]
  exact rowEdges_mem hp hx
end Go.Proofs.Ytanglbgincgmaaa.Vm

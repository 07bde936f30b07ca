/-
  Letters: both come to the same.
-/
import Derived.Test.YtanglbgincgmaaaVmPD
import Derived.Test.YtanglbgincgmaaaVmPS
import Derived.Test.YtanglbgincgmaaaVmG4
namespace Go.Proofs.Ytanglbgincgmaaa.Vm
open Go Go.RowKit Go.Proofs
set_option linter.unusedVariables false
theorem contains_ok {l : List Int} {x : Int} (h : l.length ≤ 1048576) : p_slices_Contains_int l x = some (decide (x ∈ l)) := by
  have h0 := findLoop (a := l) (p_slices_Index_int_L0 l x) (fun y => decide (x = y)) (fun i => (i : Int)) (fun i q => by
    rw [p_slices_Index_int_L0]
    simp [lt_int q, nonneg_int, List.getElem?_eq_getElem q, wsucc q (by omega)]) (by rw [p_slices_Index_int_L0]; simp)
  unfold p_slices_Contains_int p_slices_Index_int
  rw [h0]
  by_cases hx : x ∈ l
  · have : l.findIdx (fun y => decide (x = y)) < l.length := List.findIdx_lt_length.2 ⟨x, hx, by simp⟩
    simp [this, hx]
  · have : ¬ l.findIdx (fun y => decide (x = y)) < l.length := fun h => by
      obtain ⟨y, h1, h2⟩ := List.findIdx_lt_length.1 h
      exact hx (by rw [of_decide_eq_true h2]; exact h1)
    simp [this, hx]
theorem addTo_ok {l : List Int} {x : Int} (h : l.length ≤ 1048576) : p_impl_addTo l x = some (setAdd l x) := by
  have h0 := idxLoop (a := l) (p_impl_addTo_L0 x l) (fun y => decide (x < y)) (fun i q => by
    rw [p_impl_addTo_L0]
    by_cases hy : l[i] ≤ x
    · have : ¬ x < l[i] := by omega
      simp [lt_int q, nonneg_int, List.getElem?_eq_getElem q, wsucc q (by omega), hy]
      intro hh; exact absurd hh this
    · have : x < l[i] := by omega
      simp [lt_int q, nonneg_int, List.getElem?_eq_getElem q, wsucc q (by omega), hy, this]) (by rw [p_impl_addTo_L0]; simp)
  unfold p_impl_addTo setAdd
  have hle : l.findIdx (fun y => decide (x < y)) ≤ l.length := List.findIdx_le_length
  have h8 : (l.length + 1) * 8 ≤ 140737488355328 := by omega
  simp only [contains_ok h, Option.bind_eq_bind, Option.bind_some, h0, nonneg_int, Int.toNat_natCast, hle, h8, if_true, decide_eq_true_eq]
  by_cases hx : x ∈ l <;> simp [hx]
def let1 (out row : List Int) : List Int := row.foldl (fun o x => if x < 100 then setAdd o x else o) out
def let2 (out : List Int) (r : List (List Int)) : List Int := r.foldl let1 out
def letters (g : List (List (List Int))) : List Int := if gramOk g then g.foldl let2 [] else []
theorem step_len (o : List Int) (x : Int) : (if x < 100 then setAdd o x else o).length ≤ o.length + 1 := by
  split
  · exact setAdd_len o x
  · omega
theorem let1_len : ∀ (row out : List Int), (let1 out row).length ≤ out.length + row.length := by
  intro row
  induction row with
  | nil => intro out; simp [let1]
  | cons x row ih =>
    intro out
    have h1 := ih (if x < 100 then setAdd out x else out)
    have h2 := step_len out x
    simp only [let1, List.foldl_cons, List.length_cons] at h1 ⊢
    omega
theorem let2_len : ∀ (r : List (List Int)) (out : List Int), (∀ row ∈ r, row.length ≤ 8) → (let2 out r).length ≤ out.length + 8 * r.length := by
  intro r
  induction r with
  | nil => intro out _; simp [let2]
  | cons x r ih =>
    intro out h
    have h1 := ih (let1 out x) (fun y hy => h y (List.mem_cons_of_mem _ hy))
    have h2 := let1_len x out
    have h3 := h x List.mem_cons_self
    simp only [let2, List.foldl_cons, List.length_cons] at h1 ⊢
    omega
theorem fold2_len : ∀ (g : List (List (List Int))) (out : List Int), (∀ r ∈ g, r.length ≤ 8 ∧ ∀ row ∈ r, row.length ≤ 8) → (g.foldl let2 out).length ≤ out.length + 64 * g.length := by
  intro g
  induction g with
  | nil => intro out _; simp
  | cons x g ih =>
    intro out h
    have h1 := ih (let2 out x) (fun y hy => h y (List.mem_cons_of_mem _ hy))
    have h2 := let2_len x out (h x List.mem_cons_self).2
    have h3 := (h x List.mem_cons_self).1
    simp only [List.foldl_cons, List.length_cons]
    omega
theorem gramOk_small {g : List (List (List Int))} (h : gramOk g = true) : g.length ≤ 20 ∧ ∀ r ∈ g, r.length ≤ 8 ∧ ∀ row ∈ r, row.length ≤ 8 := by
  unfold gramOk at h
  simp only [Bool.and_eq_true, List.all_eq_true, within, decide_eq_true_eq] at h
  refine ⟨by omega, fun r hr => ⟨?_, fun row hrow => ?_⟩⟩
  · have := (h.2 r hr).1; omega
  · have := ((h.2 r hr).2 row hrow).1; omega
theorem letters_impl {g : List (List (List Int))} (h : gOk g) (hw : gWf g) : p_impl_Letters g = some (letters g) := by
  unfold p_impl_Letters letters
  simp only [gramOk_impl h hw, Option.bind_eq_bind, Option.bind_some]
  cases hg : gramOk g with
  | false => simp
  | true =>
    obtain ⟨s1, s2⟩ := gramOk_small hg
    have h0 := foldLoop (a := g) (p_impl_Letters_L0 g) let2 id (fun i o => o.length ≤ 64 * i) (fun i q o ho => by
      obtain ⟨s3, s4⟩ := s2 _ (List.getElem_mem q)
      have h2 := foldLoop (a := g[i]) (p_impl_Letters_L2 g i g[i]) let1 id (fun j o => o.length ≤ 64 * i + 8 * j) (fun j q2 o ho => by
        have s5 := s4 _ (List.getElem_mem q2)
        have h4 := foldLoop (a := g[i][j]) (p_impl_Letters_L4 g i g[i] j g[i][j]) (fun o x => if x < 100 then setAdd o x else o) id (fun k o => o.length ≤ 64 * i + 8 * j + k) (fun k q3 o ho => by
          rw [p_impl_Letters_L4]
          have hl : o.length ≤ 1048576 := by omega
          refine ⟨?_, by have := step_len o g[i][j][k]; omega⟩
          simp only [lt_int q3, if_true, nonneg_int, Int.toNat_natCast, List.getElem?_eq_getElem q3, Option.bind_eq_bind, Option.bind_some, addTo_ok hl, wsucc q3 (by omega)]
          split <;> rfl) (fun o ho => by rw [p_impl_Letters_L4]; simp) o (by omega)
        have hh : p_impl_Letters_L4 g i g[i] j g[i][j] 0 o = some (let1 o g[i][j]) := h4
        rw [p_impl_Letters_L2]
        refine ⟨?_, by have := let1_len g[i][j] o; omega⟩
        simp only [lt_int q2, if_true, nonneg_int, Int.toNat_natCast, List.getElem?_eq_getElem q2, Option.bind_eq_bind, Option.bind_some, hh, wsucc q2 (by omega)]) (fun o ho => by rw [p_impl_Letters_L2]; simp) o (by omega)
      have hh : p_impl_Letters_L2 g i g[i] 0 o = some (let2 o g[i]) := h2
      rw [p_impl_Letters_L0]
      refine ⟨?_, by have := let2_len g[i] o s4; omega⟩
      simp only [lt_int q, if_true, nonneg_int, Int.toNat_natCast, List.getElem?_eq_getElem q, Option.bind_eq_bind, Option.bind_some, hh, wsucc q (by omega)]) (fun o ho => by rw [p_impl_Letters_L0]; simp) [] (by simp)
    simp only [h0, if_true, Option.bind_some, id]
theorem letters_spec {g : List (List (List Int))} (h : gOk g) : p_spec_Letters g = some (letters g) := by
  unfold p_spec_Letters letters
  simp only [gramOk_spec h, Option.bind_eq_bind, Option.bind_some]
  cases hg : gramOk g with
  | false => simp
  | true =>
    obtain ⟨s1, s2⟩ := gramOk_small hg
    have h0 := foldLoop (a := g) (p_spec_Letters_L0 g) let2 id (fun i o => o.length ≤ 64 * i) (fun i q o ho => by
      obtain ⟨s3, s4⟩ := s2 _ (List.getElem_mem q)
      have h2 := foldLoop (a := g[i]) (p_spec_Letters_L2 i g) let1 id (fun j o => o.length ≤ 64 * i + 8 * j) (fun j q2 o ho => by
        have s5 := s4 _ (List.getElem_mem q2)
        have h4 := foldLoop (a := g[i][j]) (p_spec_Letters_L4 i j g) (fun o x => if x < 100 then setAdd o x else o) id (fun k o => o.length ≤ 64 * i + 8 * j + k) (fun k q3 o ho => by
          rw [p_spec_Letters_L4]
          have hl : o.length ≤ 1048576 := by omega
          refine ⟨?_, by have := step_len o g[i][j][k]; omega⟩
          simp only [lt_int q3, if_true, nonneg_int, Int.toNat_natCast, List.getElem?_eq_getElem q, List.getElem?_eq_getElem q2, List.getElem?_eq_getElem q3, Option.bind_eq_bind, Option.bind_some, setAdd_ok hl, wsucc q3 (by omega)]
          split <;> rfl) (fun o ho => by rw [p_spec_Letters_L4]; simp [List.getElem?_eq_getElem q, List.getElem?_eq_getElem q2]) o (by omega)
        have hh : p_spec_Letters_L4 i j g 0 o = some (let1 o g[i][j]) := h4
        rw [p_spec_Letters_L2]
        refine ⟨?_, by have := let1_len g[i][j] o; omega⟩
        simp only [lt_int q2, if_true, nonneg_int, Int.toNat_natCast, List.getElem?_eq_getElem q, Option.bind_eq_bind, Option.bind_some, hh, wsucc q2 (by omega)]) (fun o ho => by rw [p_spec_Letters_L2]; simp [List.getElem?_eq_getElem q]) o (by omega)
      have hh : p_spec_Letters_L2 i g 0 o = some (let2 o g[i]) := h2
      rw [p_spec_Letters_L0]
      refine ⟨?_, by have := let2_len g[i] o s4; omega⟩
      simp only [lt_int q, if_true, hh, Option.bind_eq_bind, Option.bind_some, wsucc q (by omega)]) (fun o ho => by rw [p_spec_Letters_L0]; simp) [] (by simp)
    simp only [h0, if_true, Option.bind_some, id]
theorem letters_len (g : List (List (List Int))) : (letters g).length ≤ 1280 := by
  unfold letters
  cases hg : gramOk g with
  | false => simp
  | true =>
    obtain ⟨s1, s2⟩ := gramOk_small hg
    have := fold2_len g [] s2
    simp at this ⊢
    omega
end Go.Proofs.Ytanglbgincgmaaa.Vm

/-
  All rows of letters of a size; the words of up to three letters.
-/
import Derived.Test.YtanglbgincgmaaaVmQP
import Derived.Test.YtanglbgincgmaaaVmPLa
namespace Go.Proofs.Ytanglbgincgmaaa.Vm
open Go Go.RowKit Go.Proofs
set_option linter.unusedVariables false
def allRows (l : List Int) : Nat → List (List Int)
  | 0 => [[]]
  | n + 1 => (allRows l n).flatMap fun row => l.map fun x => row ++ [x]
theorem allRows_len (l : List Int) : ∀ n, (allRows l n).length = l.length ^ n
  | 0 => rfl
  | n + 1 => by
    have h := allRows_len l n
    simp only [allRows, List.length_flatMap, List.length_map, List.map_const', List.sum_replicate_nat, h]
    rw [Nat.pow_succ]
theorem allRows_row {l : List Int} : ∀ {n : Nat} {r : List Int}, r ∈ allRows l n → r.length = n
  | 0, r, h => by
    simp only [allRows, List.mem_singleton] at h
    rw [h]; rfl
  | n + 1, r, h => by
    simp only [allRows, List.mem_flatMap, List.mem_map] at h
    obtain ⟨q, h1, x, _, rfl⟩ := h
    have := allRows_row h1
    simp [this]
theorem allRows_small {l : List Int} (h : l.length ≤ 3) {n : Nat} (hn : n ≤ 3) : (allRows l n).length ≤ 27 := by
  rw [allRows_len]
  exact Nat.le_trans (Nat.pow_le_pow_left h n) (Nat.pow_le_pow_right (n := 3) (by omega) hn)
theorem push_fold {α β : Type} (f : α → β) : ∀ (l : List α) (s : List β), l.foldl (fun s x => s ++ [f x]) s = s ++ l.map f
  | [], s => by simp
  | x :: l, s => by rw [List.foldl_cons, push_fold f l]; simp
theorem app_fold {α β : Type} (f : α → List β) : ∀ (l : List α) (s : List β), l.foldl (fun s x => s ++ f x) s = s ++ l.flatMap f
  | [], s => by simp
  | x :: l, s => by rw [List.foldl_cons, app_fold f l]; simp
theorem keep_fold {α : Type} (p : α → Bool) : ∀ (l : List α) (s : List α), l.foldl (fun s x => if p x = true then s ++ [x] else s) s = s ++ l.filter p
  | [], s => by simp
  | x :: l, s => by
    rw [List.foldl_cons, keep_fold p l, List.filter_cons]
    cases p x <;> simp
section
variable {l : List Int}
theorem spec_grow (a1 x6 : Int) (hl : l.length ≤ 3) {R : List (List Int)} (hR : R.length ≤ 27) (hRr : ∀ r ∈ R, r.length ≤ 3) : p_spec_l23All_L2 l a1 x6 R 0 [] = some (R.flatMap fun row => l.map fun x => row ++ [x]) := by
  have h0 := foldLoop (a := R) (fun i s => p_spec_l23All_L2 l a1 x6 R i s) (fun s row => s ++ l.map fun x => row ++ [x]) id (fun i s => s.length ≤ 3 * i) (fun i hi s hs => by
    have h3 := hRr _ (List.getElem_mem hi)
    have h4 := foldLoop (a := l) (fun j s => p_spec_l23All_L4 l a1 x6 i R j s) (fun s x => s ++ [R[i] ++ [x]]) id (fun j s => s.length ≤ 3 * i + j) (fun j hj s hs => by
      refine ⟨?_, by simp; omega⟩
      show p_spec_l23All_L4 l a1 x6 i R j s = _
      rw [p_spec_l23All_L4]
      simp only [lt_int hj, if_true, nonneg_int, Int.toNat_natCast, List.getElem?_eq_getElem hi, List.getElem?_eq_getElem hj, Option.bind_eq_bind, Option.bind_some, wsucc hj (by omega)]
      rw [if_pos (by omega), if_pos (by omega), if_pos (by omega)]) (fun s hs => by
      show p_spec_l23All_L4 l a1 x6 i R l.length s = _
      rw [p_spec_l23All_L4, if_neg (by omega)]; rfl) s (by omega)
    rw [push_fold] at h4
    refine ⟨?_, by simp; omega⟩
    show p_spec_l23All_L2 l a1 x6 R i s = _
    rw [p_spec_l23All_L2]
    simp only [lt_int hi, if_true, show p_spec_l23All_L4 l a1 x6 i R 0 s = _ from h4, Option.bind_eq_bind, Option.bind_some, wsucc hi (by omega), id]) (fun s hs => by
    show p_spec_l23All_L2 l a1 x6 R R.length s = _
    rw [p_spec_l23All_L2, if_neg (by omega)]; rfl) [] (by simp)
  rw [app_fold] at h0
  simpa using h0
theorem l23All_ok (hl : l.length ≤ 3) {n : Nat} (hn : n ≤ 3) : p_spec_l23All l n = some (allRows l n) := by
  obtain ⟨r, h1, h2⟩ := invLoop (n := n) (fun i s => p_spec_l23All_L0 l n i s) (fun i s => s = allRows l i) (fun r => r = allRows l n) (fun i hi s hs => by
    subst hs
    refine ⟨_, rfl, ?_⟩
    show p_spec_l23All_L0 l n i _ = _
    rw [p_spec_l23All_L0]
    simp only [lt_int hi, if_true, spec_grow (n : Int) (i : Int) hl (allRows_small hl (show i ≤ 3 by omega)) (fun r hr => by have := allRows_row hr; omega), Option.bind_eq_bind, Option.bind_some, wsucc hi (by omega)]
    rfl) (fun s hs => ⟨s, by
    show p_spec_l23All_L0 l n n s = _
    rw [p_spec_l23All_L0, if_neg (by omega)], hs⟩) 0 (by omega) [[]] rfl
  subst h2
  unfold p_spec_l23All
  rw [show p_spec_l23All_L0 l n 0 [[]] = _ from h1]
  rfl
theorem impl_grow (a1 x14 : Int) (hl : l.length ≤ 3) {R : List (List Int)} (hR : R.length ≤ 27) (hRr : ∀ r ∈ R, r.length ≤ 3) : p_impl_rowsOfLetters_L2 l a1 x14 R 0 [] = some (R.flatMap fun row => l.map fun x => row ++ [x]) := by
  have h0 := foldLoop (a := R) (fun i s => p_impl_rowsOfLetters_L2 l a1 x14 R i s) (fun s row => s ++ l.map fun x => row ++ [x]) id (fun i s => s.length ≤ 3 * i) (fun i hi s hs => by
    have h3 := hRr _ (List.getElem_mem hi)
    have h4 := foldLoop (a := l) (fun j s => p_impl_rowsOfLetters_L4 l i R[i] a1 x14 R j s) (fun s x => s ++ [R[i] ++ [x]]) id (fun j s => s.length ≤ 3 * i + j) (fun j hj s hs => by
      refine ⟨?_, by simp; omega⟩
      show p_impl_rowsOfLetters_L4 l i R[i] a1 x14 R j s = _
      rw [p_impl_rowsOfLetters_L4]
      simp only [lt_int hj, if_true, nonneg_int, Int.toNat_natCast, List.getElem?_eq_getElem hj, Option.bind_eq_bind, Option.bind_some, wsucc hj (by omega)]
      rw [if_pos (by omega), if_pos (by omega), if_pos (by omega)]) (fun s hs => by
      show p_impl_rowsOfLetters_L4 l i R[i] a1 x14 R l.length s = _
      rw [p_impl_rowsOfLetters_L4, if_neg (by omega)]; rfl) s (by omega)
    rw [push_fold] at h4
    refine ⟨?_, by simp; omega⟩
    show p_impl_rowsOfLetters_L2 l a1 x14 R i s = _
    rw [p_impl_rowsOfLetters_L2]
    simp only [lt_int hi, if_true, nonneg_int, Int.toNat_natCast, List.getElem?_eq_getElem hi, Option.bind_eq_bind, Option.bind_some, show p_impl_rowsOfLetters_L4 l i R[i] a1 x14 R 0 s = _ from h4, wsucc hi (by omega), id]) (fun s hs => by
    show p_impl_rowsOfLetters_L2 l a1 x14 R R.length s = _
    rw [p_impl_rowsOfLetters_L2, if_neg (by omega)]; rfl) [] (by simp)
  rw [app_fold] at h0
  simpa using h0
theorem rowsOfLetters_ok (hl : l.length ≤ 3) {n : Nat} (hn : n ≤ 3) : p_impl_rowsOfLetters l n = some (allRows l n) := by
  obtain ⟨r, h1, h2⟩ := invLoop (n := n) (fun i s => p_impl_rowsOfLetters_L0 l n i s) (fun i s => s = allRows l i) (fun r => r = allRows l n) (fun i hi s hs => by
    subst hs
    refine ⟨_, rfl, ?_⟩
    show p_impl_rowsOfLetters_L0 l n i _ = _
    rw [p_impl_rowsOfLetters_L0]
    simp only [lt_int hi, if_true, impl_grow (n : Int) (i : Int) hl (allRows_small hl (show i ≤ 3 by omega)) (fun r hr => by have := allRows_row hr; omega), Option.bind_eq_bind, Option.bind_some, wsucc hi (by omega)]
    rfl) (fun s hs => ⟨s, by
    show p_impl_rowsOfLetters_L0 l n n s = _
    rw [p_impl_rowsOfLetters_L0, if_neg (by omega)], hs⟩) 0 (by omega) [[]] rfl
  subst h2
  unfold p_impl_rowsOfLetters
  rw [show p_impl_rowsOfLetters_L0 l n 0 [[]] = _ from h1]
  rfl
end
end Go.Proofs.Ytanglbgincgmaaa.Vm

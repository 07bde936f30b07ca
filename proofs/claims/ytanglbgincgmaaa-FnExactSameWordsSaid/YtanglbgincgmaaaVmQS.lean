/-
  The words of up to three letters; what one grammar has and another lacks.
-/
import Derived.Test.YtanglbgincgmaaaVmQR
namespace Go.Proofs.Ytanglbgincgmaaa.Vm
open Go Go.RowKit Go.Proofs
set_option linter.unusedVariables false
open Classical in
/-- Whether the grammar has the input. -/
noncomputable def derB (g : List (List (List Int))) (w : List Int) : Bool := decide (DerP g w 0 0 w.length)
theorem derB_iff {g : List (List (List Int))} {w : List Int} : derB g w = true ↔ DerP g w 0 0 w.length := by
  unfold derB
  simp
theorem ways_b {g : List (List (List Int))} (hc : check g = 0) {w : List Int} (hn : w.length ≤ 10) : ∃ v, p_spec_l7Ways g [100] w = some v ∧ (0 < v ↔ derB g w = true) ∧ (v = 0 ↔ derB g w = false) := by
  obtain ⟨v, h1, h2, h3⟩ := l7Ways_ok hc hn
  refine ⟨v, h1, h3.trans derB_iff.symm, ?_⟩
  have h4 := h3.trans derB_iff.symm
  cases h : derB g w with
  | true => rw [h] at h4; have := h4.2 rfl; simp; omega
  | false =>
    rw [h] at h4
    have : ¬ 0 < v := fun hh => by cases h4.1 hh
    simp; omega
theorem accepts_b {g : List (List (List Int))} (hc : check g = 0) {w : List Int} (hn : w.length ≤ 10) : p_impl_accepts g w = some (derB g w) := by
  obtain ⟨b, h1, h2⟩ := accepts_ok hc hn
  rw [h1]
  congr 1
  rw [Bool.eq_iff_iff, h2, derB_iff]
/-- So many letters are looked at. -/
def three (g : List (List (List Int))) : List Int := (letters g).take 3
noncomputable def wordsOf (g : List (List (List Int))) (l : List Int) : List (List Int) := (List.range 4).foldl (fun s n => s ++ (allRows l n).filter (derB g)) []
noncomputable def words3 (g : List (List (List Int))) : List (List Int) := if check g = 0 then wordsOf g (three g) else []
noncomputable def missing (a b : List (List (List Int))) : List (List Int) := if check a = 0 ∧ check b = 0 then (words3 a).filter (fun w => !derB b w) else []
theorem three_len (g : List (List (List Int))) : (three g).length ≤ 3 := by unfold three; rw [List.length_take]; omega
theorem wordsOf_mem {g : List (List (List Int))} {l : List Int} {w : List Int} (h : w ∈ wordsOf g l) : w.length ≤ 3 := by
  unfold wordsOf at h
  rw [app_fold] at h
  simp only [List.nil_append, List.mem_flatMap, List.mem_range, List.mem_filter] at h
  obtain ⟨n, h1, h2, _⟩ := h
  have := allRows_row h2
  omega
theorem words3_mem {g : List (List (List Int))} {w : List Int} (h : w ∈ words3 g) : w.length ≤ 3 := by
  unfold words3 at h
  split at h
  · exact wordsOf_mem h
  · cases h
theorem filter_small {l : List Int} (h : l.length ≤ 3) {n : Nat} (hn : n ≤ 3) (p : List Int → Bool) : ((allRows l n).filter p).length ≤ 27 := Nat.le_trans (List.length_filter_le _ _) (allRows_small h hn)
theorem wordsOf_len (g : List (List (List Int))) {l : List Int} (h : l.length ≤ 3) : (wordsOf g l).length ≤ 108 := by
  have h0 := filter_small h (show 0 ≤ 3 by omega) (derB g)
  have h1 := filter_small h (show 1 ≤ 3 by omega) (derB g)
  have h2 := filter_small h (show 2 ≤ 3 by omega) (derB g)
  have h3 := filter_small h (show 3 ≤ 3 by omega) (derB g)
  unfold wordsOf
  simp only [List.range_succ, List.range_zero, List.nil_append, List.foldl_append, List.foldl_cons, List.foldl_nil, List.length_append]
  omega
theorem words3_len (g : List (List (List Int))) : (words3 g).length ≤ 108 := by
  unfold words3
  split
  · exact wordsOf_len g (three_len g)
  · simp
section
variable {g : List (List (List Int))}
theorem spec_words2 (hc : check g = 0) (x5 : Int) (l : List Int) {R s0 : List (List Int)} (hR : R.length ≤ 27) (hRr : ∀ r ∈ R, r.length ≤ 3) (hs0 : s0.length ≤ 1000) : p_spec_Words3_L2 x5 R g l 0 s0 = some (s0 ++ R.filter (derB g)) := by
  have h0 := foldLoop (a := R) (fun i s => p_spec_Words3_L2 x5 R g l i s) (fun s w => if derB g w = true then s ++ [w] else s) id (fun i s => s.length ≤ 1000 + i) (fun i hi s hs => by
    obtain ⟨v, h1, h2, _⟩ := ways_b hc (w := R[i]) (by have := hRr _ (List.getElem_mem hi); omega)
    refine ⟨?_, by split <;> (try simp) <;> omega⟩
    show p_spec_Words3_L2 x5 R g l i s = _
    rw [p_spec_Words3_L2]
    simp only [lt_int hi, if_true, nonneg_int, Int.toNat_natCast, List.getElem?_eq_getElem hi, Option.bind_eq_bind, Option.bind_some, h1, wsucc hi (by omega)]
    by_cases hd : derB g R[i] = true
    · rw [if_pos (h2.2 hd), if_pos hd, if_pos (by omega)]
    · rw [if_neg (fun h => hd (h2.1 h)), if_neg hd]) (fun s hs => by
    show p_spec_Words3_L2 x5 R g l R.length s = _
    rw [p_spec_Words3_L2, if_neg (by omega)]; rfl) s0 (by omega)
  rw [keep_fold] at h0
  exact h0
theorem impl_words2 (hc : check g = 0) (x5 : Int) (l : List Int) {R s0 : List (List Int)} (hR : R.length ≤ 27) (hRr : ∀ r ∈ R, r.length ≤ 3) (hs0 : s0.length ≤ 1000) : p_impl_Words3_L2 x5 R g l 0 s0 = some (s0 ++ R.filter (derB g)) := by
  have h0 := foldLoop (a := R) (fun i s => p_impl_Words3_L2 x5 R g l i s) (fun s w => if derB g w = true then s ++ [w] else s) id (fun i s => s.length ≤ 1000 + i) (fun i hi s hs => by
    have h1 := accepts_b hc (w := R[i]) (by have := hRr _ (List.getElem_mem hi); omega)
    refine ⟨?_, by split <;> (try simp) <;> omega⟩
    show p_impl_Words3_L2 x5 R g l i s = _
    rw [p_impl_Words3_L2]
    simp only [lt_int hi, if_true, nonneg_int, Int.toNat_natCast, List.getElem?_eq_getElem hi, Option.bind_eq_bind, Option.bind_some, h1, wsucc hi (by omega)]
    by_cases hd : derB g R[i] = true
    · rw [if_pos hd, if_pos hd, if_pos (by omega)]
    · rw [if_neg hd, if_neg hd]) (fun s hs => by
    show p_impl_Words3_L2 x5 R g l R.length s = _
    rw [p_impl_Words3_L2, if_neg (by omega)]; rfl) s0 (by omega)
  rw [keep_fold] at h0
  exact h0
theorem impl_words2v (hc : check g = 0) (x5 : Int) (l : List Int) {R s0 : List (List Int)} (hR : R.length ≤ 27) (hRr : ∀ r ∈ R, r.length ≤ 3) (hs0 : s0.length ≤ 1000) : p_impl_Words3_L2v1 x5 R g l 0 s0 = some (s0 ++ R.filter (derB g)) := by
  have h0 := foldLoop (a := R) (fun i s => p_impl_Words3_L2v1 x5 R g l i s) (fun s w => if derB g w = true then s ++ [w] else s) id (fun i s => s.length ≤ 1000 + i) (fun i hi s hs => by
    have h1 := accepts_b hc (w := R[i]) (by have := hRr _ (List.getElem_mem hi); omega)
    refine ⟨?_, by split <;> (try simp) <;> omega⟩
    show p_impl_Words3_L2v1 x5 R g l i s = _
    rw [p_impl_Words3_L2v1]
    simp only [lt_int hi, if_true, nonneg_int, Int.toNat_natCast, List.getElem?_eq_getElem hi, Option.bind_eq_bind, Option.bind_some, h1, wsucc hi (by omega)]
    by_cases hd : derB g R[i] = true
    · rw [if_pos hd, if_pos hd, if_pos (by omega)]
    · rw [if_neg hd, if_neg hd]) (fun s hs => by
    show p_impl_Words3_L2v1 x5 R g l R.length s = _
    rw [p_impl_Words3_L2v1, if_neg (by omega)]; rfl) s0 (by omega)
  rw [keep_fold] at h0
  exact h0
/-- A loop over the sizes. -/
theorem sizes {l : List Int} (hl : l.length ≤ 3) (L : Int → List (List Int) → Option (List (List Int))) (hs : ∀ n : Nat, n ≤ 3 → ∀ s : List (List Int), s.length ≤ 1000 → L (n : Int) s = L ((n + 1 : Nat) : Int) (s ++ (allRows l n).filter (derB g))) (he : ∀ s, L 4 s = some s) : L 0 [] = some (wordsOf g l) := by
  have h0 := filter_small hl (show 0 ≤ 3 by omega) (derB g)
  have h1 := filter_small hl (show 1 ≤ 3 by omega) (derB g)
  have h2 := filter_small hl (show 2 ≤ 3 by omega) (derB g)
  unfold wordsOf
  simp only [List.range_succ, List.range_zero, List.nil_append, List.foldl_append, List.foldl_cons, List.foldl_nil]
  rw [show (0 : Int) = ((0 : Nat) : Int) from rfl, hs 0 (by omega) _ (by simp), hs 1 (by omega) _ (by simp only [List.length_append, List.length_nil]; omega), hs 2 (by omega) _ (by simp only [List.length_append, List.length_nil]; omega), hs 3 (by omega) _ (by simp only [List.length_append, List.length_nil]; omega)]
  rw [show ((3 + 1 : Nat) : Int) = 4 from rfl, he]
  simp
theorem words3_spec (hg : gOk g) : p_spec_Words3 g = some (words3 g) := by
  unfold p_spec_Words3 words3
  simp only [check_spec hg, Option.bind_eq_bind, Option.bind_some]
  by_cases hc : check g = 0
  · rw [if_pos hc, if_pos hc]
    have h3 := three_len g
    simp only [letters_spec hg, Option.bind_some, l1Min_ok]
    rw [if_pos (by omega), if_pos (by omega)]
    have ht : List.take (min ((letters g).length : Int) 3).toNat (letters g) = three g := by
      unfold three
      rcases Nat.lt_or_ge (letters g).length 3 with h | h
      · rw [show (min ((letters g).length : Int) 3).toNat = (letters g).length by omega, List.take_length, List.take_of_length_le (by omega)]
      · rw [show (min ((letters g).length : Int) 3).toNat = 3 by omega]
    rw [ht, sizes (g := g) h3 (fun n s => p_spec_Words3_L0 g (three g) n s) (fun n hn s hs => by
      show p_spec_Words3_L0 g (three g) n s = _
      rw [p_spec_Words3_L0, if_pos (by omega)]
      simp only [l23All_ok h3 hn, Option.bind_eq_bind, Option.bind_some, spec_words2 hc (n : Int) (three g) (allRows_small h3 hn) (fun r hr => by have := allRows_row hr; omega) hs, wsucc (show n < 4 by omega) (by omega)]) (fun s => by
      show p_spec_Words3_L0 g (three g) 4 s = _
      rw [p_spec_Words3_L0, if_neg (by omega)])]
    rfl
  · rw [if_neg hc, if_neg hc]
theorem words3_impl (hg : gOk g) (hw : gWf g) : p_impl_Words3 g = some (words3 g) := by
  unfold p_impl_Words3 words3
  simp only [isGood_ok hg hw, Option.bind_eq_bind, Option.bind_some, decide_eq_true_eq]
  by_cases hc : check g = 0
  · rw [if_pos hc, if_pos hc]
    have h3 := three_len g
    simp only [letters_impl hg hw, Option.bind_some]
    by_cases h : 3 < ((letters g).length : Int)
    · rw [if_pos h, if_pos (by omega)]
      rw [show List.take 3 (letters g) = three g from rfl, sizes (g := g) h3 (fun n s => p_impl_Words3_L0 g (three g) n s) (fun n hn s hs => by
        show p_impl_Words3_L0 g (three g) n s = _
        rw [p_impl_Words3_L0, if_pos (by omega)]
        simp only [rowsOfLetters_ok h3 hn, Option.bind_eq_bind, Option.bind_some, impl_words2 hc (n : Int) (three g) (allRows_small h3 hn) (fun r hr => by have := allRows_row hr; omega) hs, wsucc (show n < 4 by omega) (by omega)]) (fun s => by
        show p_impl_Words3_L0 g (three g) 4 s = _
        rw [p_impl_Words3_L0, if_neg (by omega)])]
      rfl
    · rw [if_neg h, if_pos (Nat.le_refl _)]
      have ht : List.take (letters g).length (letters g) = three g := by
        unfold three
        rw [List.take_length, List.take_of_length_le (by omega)]
      rw [ht, sizes (g := g) h3 (fun n s => p_impl_Words3_L0v1 g (three g) n s) (fun n hn s hs => by
        show p_impl_Words3_L0v1 g (three g) n s = _
        rw [p_impl_Words3_L0v1, if_pos (by omega)]
        simp only [rowsOfLetters_ok h3 hn, Option.bind_eq_bind, Option.bind_some, impl_words2v hc (n : Int) (three g) (allRows_small h3 hn) (fun r hr => by have := allRows_row hr; omega) hs, wsucc (show n < 4 by omega) (by omega)]) (fun s => by
        show p_impl_Words3_L0v1 g (three g) 4 s = _
        rw [p_impl_Words3_L0v1, if_neg (by omega)])]
      rfl
  · rw [if_neg hc, if_neg hc]
end
section
variable {a b : List (List (List Int))}
theorem missing_spec (ha : gOk a) (hb : gOk b) : p_spec_Missing a b = some (missing a b) := by
  unfold p_spec_Missing missing
  simp only [check_spec ha, check_spec hb, words3_spec ha, Option.bind_eq_bind, Option.bind_some]
  by_cases h1 : check a = 0
  · rw [if_pos h1]
    by_cases h2 : check b = 0
    · rw [if_pos h2, if_pos ⟨h1, h2⟩]
      have hl := words3_len a
      have h0 := foldLoop (a := words3 a) (fun i s => p_spec_Missing_L0 a b (words3 a) i s) (fun s w => if (!derB b w) = true then s ++ [w] else s) id (fun i s => s.length ≤ i) (fun i hi s hs => by
        obtain ⟨v, q1, _, q3⟩ := ways_b h2 (w := (words3 a)[i]) (by have := words3_mem (List.getElem_mem hi); omega)
        refine ⟨?_, by split <;> (try simp) <;> omega⟩
        show p_spec_Missing_L0 a b (words3 a) i s = _
        rw [p_spec_Missing_L0]
        simp only [lt_int hi, if_true, nonneg_int, Int.toNat_natCast, List.getElem?_eq_getElem hi, Option.bind_eq_bind, Option.bind_some, q1, wsucc hi (by omega)]
        cases hd : derB b (words3 a)[i] with
        | false =>
          rw [if_pos (q3.2 hd), if_pos (show (s.length + 1) * 24 ≤ 140737488355328 by omega)]
          simp
        | true =>
          rw [if_neg (fun h => by rw [q3.1 h] at hd; cases hd)]
          simp) (fun s hs => by
        show p_spec_Missing_L0 a b (words3 a) (words3 a).length s = _
        rw [p_spec_Missing_L0, if_neg (by omega)]; rfl) [] (by simp)
      rw [keep_fold] at h0
      rw [show p_spec_Missing_L0 a b (words3 a) 0 [] = _ from h0]
      simp
    · rw [if_neg h2, if_neg (fun h => h2 h.2)]
  · rw [if_neg h1, if_neg (fun h => h1 h.1)]
theorem missing_impl (ha : gOk a) (hb : gOk b) (wa : gWf a) (wb : gWf b) : p_impl_Missing a b = some (missing a b) := by
  unfold p_impl_Missing missing
  simp only [isGood_ok ha wa, isGood_ok hb wb, words3_impl ha wa, Option.bind_eq_bind, Option.bind_some, decide_eq_true_eq]
  by_cases h1 : check a = 0
  · rw [if_pos h1]
    by_cases h2 : check b = 0
    · rw [if_pos h2, if_pos ⟨h1, h2⟩]
      have hl := words3_len a
      have h0 := foldLoop (a := words3 a) (fun i s => p_impl_Missing_L0 (words3 a) a b i s) (fun s w => if (!derB b w) = true then s ++ [w] else s) id (fun i s => s.length ≤ i) (fun i hi s hs => by
        have q1 := accepts_b h2 (w := (words3 a)[i]) (by have := words3_mem (List.getElem_mem hi); omega)
        refine ⟨?_, by split <;> (try simp) <;> omega⟩
        show p_impl_Missing_L0 (words3 a) a b i s = _
        rw [p_impl_Missing_L0]
        simp only [lt_int hi, if_true, nonneg_int, Int.toNat_natCast, List.getElem?_eq_getElem hi, Option.bind_eq_bind, Option.bind_some, q1, wsucc hi (by omega)]
        cases hd : derB b (words3 a)[i] with
        | false => simp [show (s.length + 1) * 24 ≤ 140737488355328 by omega]
        | true => simp) (fun s hs => by
        show p_impl_Missing_L0 (words3 a) a b (words3 a).length s = _
        rw [p_impl_Missing_L0, if_neg (by omega)]; rfl) [] (by simp)
      rw [keep_fold] at h0
      rw [show p_impl_Missing_L0 (words3 a) a b 0 [] = _ from h0]
      simp
    · rw [if_neg h2, if_neg (fun h => h2 h.2)]
  · rw [if_neg h1, if_neg (fun h => h1 h.1)]
end
end Go.Proofs.Ytanglbgincgmaaa.Vm

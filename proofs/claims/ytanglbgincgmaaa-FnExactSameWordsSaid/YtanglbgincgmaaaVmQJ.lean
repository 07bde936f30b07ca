/-
  The specification's looker: in how many ways a part becomes what stands between two places; none or some.
-/
import Derived.Test.YtanglbgincgmaaaVmQI
import Derived.Test.YtanglbgincgmaaaVmG3
namespace Go.Proofs.Ytanglbgincgmaaa.Vm
open Go Go.RowKit Go.Proofs
set_option linter.unusedVariables false
/-- Numbers from 0 to 1000, one for each place; those that are not 0 tell of D. -/
def VecOk (n : Nat) (D : Nat → Prop) (v : List Int) : Prop := v.length = n + 1 ∧ ∀ j, j ≤ n → 0 ≤ lv v j ∧ lv v j ≤ 1000 ∧ (0 < lv v j ↔ D j)
section
variable {n : Nat} {D E A P : Nat → Prop} {v : List Int}
theorem VecOk.congr (h : VecOk n D v) (k : ∀ j, j ≤ n → (D j ↔ E j)) : VecOk n E v := ⟨h.1, fun j hj => ⟨(h.2 j hj).1, (h.2 j hj).2.1, (h.2 j hj).2.2.trans (k j hj)⟩⟩
theorem lv_rep (n j : Nat) : lv (List.replicate n 0) j = 0 := by
  unfold lv
  rw [List.getD_eq_getElem?_getD, List.getElem?_replicate]
  split <;> rfl
theorem VecOk.zero (n : Nat) : VecOk n (fun _ => False) (List.replicate (n + 1) 0) := ⟨by simp, fun j hj => by rw [lv_rep]; simp⟩
theorem VecOk.get (h : VecOk n D v) {j : Nat} (hj : j ≤ n) : v[j]? = some (lv v j) := lv_get (by rw [h.1]; omega)
theorem VecOk.upd (h : VecOk n D v) {j0 : Nat} (hj : j0 ≤ n) {y : Int} (h0 : 0 ≤ y) (h1 : y ≤ 1000) {F : Nat → Prop} (hE : 0 < y ↔ F j0) (hF : ∀ j, j ≠ j0 → (D j ↔ F j)) : VecOk n F (v.set j0 y) := by
  refine ⟨by rw [List.length_set, h.1], fun j hjn => ?_⟩
  rw [lv_set _ _ _ _ (by rw [h.1]; omega)]
  by_cases hj2 : j = j0
  · subst hj2
    rw [if_pos rfl]
    exact ⟨h0, h1, hE⟩
  · rw [if_neg hj2]
    obtain ⟨a, b, c⟩ := h.2 j hjn
    exact ⟨a, b, c.trans (hF j hj2)⟩
theorem VecOk.add (h : VecOk n D v) {j0 : Nat} (hj : j0 ≤ n) {a : Int} (h0 : 0 ≤ a) {F : Nat → Prop} (hE : (D j0 ∨ 0 < a) ↔ F j0) (hF : ∀ j, j ≠ j0 → (D j ↔ F j)) : VecOk n F (v.set j0 (min (lv v j0 + a) 1000)) := by
  obtain ⟨q1, q2, q3⟩ := h.2 j0 hj
  refine h.upd hj (by omega) (by omega) ?_ hF
  rw [← hE, ← q3]
  omega
end
abbrev TS := List (List (List Int)) × List Int × List (List (List Int)) × List (List Bool)
def get2 {α : Type} (l : List (List α)) (k i : Nat) (d : α) : α := (l.getD k []).getD i d
theorem get_getD {α : Type} {l : List α} {k : Nat} (h : k < l.length) (d : α) : l[k]? = some (l.getD k d) := by
  rw [getD_get h, List.getElem?_eq_getElem h]
theorem getD_set {α : Type} {l : List α} {k p : Nat} {x d : α} (h : k < l.length) : (l.set k x).getD p d = if p = k then x else l.getD p d := by
  rw [List.getD_eq_getElem?_getD, List.getElem?_set]
  by_cases hp : p = k
  · subst hp
    simp [h]
  · rw [if_neg (fun h => hp h.symm), if_neg hp, ← List.getD_eq_getElem?_getD]
theorem get2_set {α : Type} {l : List (List α)} {k i : Nat} (hk : k < l.length) (hi : i < (l.getD k []).length) (y d : α) (p q : Nat) : get2 (l.set k ((l.getD k []).set i y)) p q d = if p = k ∧ q = i then y else get2 l p q d := by
  unfold get2
  rw [getD_set hk]
  by_cases hp : p = k
  · subst hp
    rw [if_pos rfl, getD_set hi]
    simp
  · rw [if_neg hp, if_neg (fun h => hp h.1)]
/-- What the table tells is so. -/
structure TInv (g : List (List (List Int))) (w : List Int) (t : TS) : Prop where
  eg : t.1 = g
  ew : t.2.1 = w
  lw : t.2.2.1.length = g.length
  ld : t.2.2.2.length = g.length
  rw : ∀ k, k < g.length → (t.2.2.1.getD k []).length = w.length + 1
  rd : ∀ k, k < g.length → (t.2.2.2.getD k []).length = w.length + 1
  ok : ∀ k i, k < g.length → i ≤ w.length → get2 t.2.2.2 k i false = true → VecOk w.length (DerP g w k i) (get2 t.2.2.1 k i [])
def HS (g : List (List (List Int))) (w : List Int) (rec : TS → Int → Int → Option (List Int × TS)) (M : Nat) : Prop := ∀ (t : TS) (k i : Nat), TInv g w t → k < g.length → i ≤ w.length → mu g w.length k i < M → ∃ r, rec t (k : Int) (i : Int) = some r ∧ TInv g w r.2 ∧ VecOk w.length (DerP g w k i) r.1
theorem wrapN {n : Nat} (h : n ≤ 10) : IntKind.wrap .i64 ((n : Int) + 1) = ((n + 1 : Nat) : Int) := wsucc (n := n + 1) (by omega) (by omega)
theorem mul_bounds {a b : Int} (h0 : 0 ≤ a) (h1 : a ≤ 1000) (h2 : 0 ≤ b) (h3 : b ≤ 1000) : 0 ≤ a * b ∧ a * b ≤ 1000000 := ⟨Int.mul_nonneg h0 h2, Int.le_trans (Int.mul_le_mul h1 h3 h2 (by omega)) (by omega)⟩
section
variable {g : List (List (List Int))} {w : List Int} {rec : TS → Int → Int → Option (List Int × TS)}
theorem l7At_ok (hn : w.length ≤ 10) {t : TS} (ht : t.2.1 = w) {i : Nat} (hi : i ≤ w.length) : ∃ v, p_spec_l7At t (i : Int) = some v ∧ VecOk w.length (fun j => j = i) v := by
  have h0 := VecOk.zero w.length
  refine ⟨(List.replicate (w.length + 1) 0).set i 1, ?_, h0.upd hi (by omega) (by omega) (by simp) (fun j hj => by simp [hj])⟩
  unfold p_spec_l7At
  rw [ht]
  simp only [wrapN hn, nonneg_int, if_true, Int.toNat_natCast, Option.bind_eq_bind, Option.bind_some, h0.get hi]
  rw [if_pos (by omega)]
theorem go4 (row : List Int) (s : Int) (hn : w.length ≤ 10) {i : Nat} (hi : i ≤ w.length) {y : List Int × TS} (hw : y.2.2.1 = w) {now next : List Int} {A P D : Nat → Prop} (hnow : VecOk w.length A now) (hA : A i) (hy : VecOk w.length P y.1) (hP : ∀ j, P j → i ≤ j) (hnext : VecOk w.length D next) :
    ∃ r, p_spec_l7Go_L4 rec row s (i : Int) y now (i : Int) next = some r ∧ VecOk w.length (fun j => D j ∨ P j) r := by
  refine invLoop (n := w.length + 1) (fun j l => p_spec_l7Go_L4 rec row s (i : Int) y now j l) (fun j l => VecOk w.length (fun q => D q ∨ (q < j ∧ P q)) l) _ (fun j hj l hl => ?_) (fun l hl => ?_) i (by omega) next (hnext.congr (fun j hj => ⟨.inl, fun h => h.elim id (fun h => by have := hP j h.2; omega)⟩))
  · obtain ⟨a1, a2, a3⟩ := hnow.2 i hi
    obtain ⟨b1, b2, b3⟩ := hy.2 j (by omega)
    obtain ⟨m1, m2⟩ := mul_bounds a1 a2 b1 b2
    have l1 := hl.2 j (by omega)
    refine ⟨_, hl.add (j0 := j) (by omega) m1 (F := fun q => D q ∨ (q < j + 1 ∧ P q)) ?_ (fun q hq => ?_), ?_⟩
    · have hpos : 0 < lv now i * lv y.1 j ↔ P j := by
        rw [← b3]
        have := a3.2 hA
        constructor
        · intro h
          rcases Int.lt_or_le 0 (lv y.1 j) with h2 | h2
          · exact h2
          · have : lv y.1 j = 0 := by omega
            rw [this] at h
            simp at h
        · exact fun h => Int.mul_pos this h
      rw [hpos]
      constructor
      · rintro ((h | h) | h)
        · exact .inl h
        · exact .inr ⟨by omega, h.2⟩
        · exact .inr ⟨by omega, h⟩
      · rintro (h | h)
        · exact .inl (.inl h)
        · exact .inr h.2
    · constructor
      · exact fun h => h.imp id (fun h => ⟨by omega, h.2⟩)
      · exact fun h => h.imp id (fun h => ⟨by omega, h.2⟩)
    · show p_spec_l7Go_L4 rec row s (i : Int) y now (j : Int) l = _
      rw [p_spec_l7Go_L4, hw]
      rw [if_pos (show (j : Int) ≤ (w.length : Int) by omega)]
      simp only [nonneg_int, if_true, Int.toNat_natCast, hl.get (show j ≤ w.length by omega), hnow.get hi, hy.get (show j ≤ w.length by omega), Option.bind_eq_bind, Option.bind_some, l1Min_ok, wsucc (show j < w.length + 1 by omega) (by omega)]
      rw [wrap_id (n := lv now i * lv y.1 j) (by omega) (by omega), wrap_id (by omega) (by omega)]
  · refine ⟨l, ?_, hl.congr (fun j hj => ⟨fun h => h.imp id (·.2), fun h => h.imp id (fun h => ⟨by omega, h⟩)⟩)⟩
    rw [p_spec_l7Go_L4, hw]
    rw [if_neg (by omega)]
end
end Go.Proofs.Ytanglbgincgmaaa.Vm

/-
  Plain laws: the reference's sets.
-/
import Derived.Test.YtanglbgincgmaaaVmPA
import Derived.Test.YtanglbgincgmaaaVmG1
namespace Go.Proofs.Ytanglbgincgmaaa.Vm
open Go Go.RowKit Go.Proofs
set_option linter.unusedVariables false
/-- A loop that looks for the first that is as wanted. -/
theorem idxLoop {α : Type} {a : List α} (L : Int → Option Int) (p : α → Bool) (hs : ∀ i (h : i < a.length), L (i : Int) = if p a[i] = true then some (i : Int) else L ((i + 1 : Nat) : Int)) (he : L (a.length : Int) = some (a.length : Int)) : L 0 = some ((a.findIdx p : Nat) : Int) := by
  have key : ∀ d i, i + d = a.length → L (i : Int) = some ((i + (a.drop i).findIdx p : Nat) : Int) := by
    intro d
    induction d with
    | zero =>
      intro i hi
      obtain rfl : i = a.length := by omega
      rw [he]; simp
    | succ d ih =>
      intro i hi
      have hlt : i < a.length := by omega
      rw [hs i hlt, List.drop_eq_getElem_cons hlt, List.findIdx_cons]
      cases hp : p a[i] with
      | true => simp
      | false =>
        simp only [Bool.false_eq_true, if_false, cond_false]
        rw [ih (i + 1) (by omega)]
        congr 2
        omega
  have := key a.length 0 (by omega)
  simpa using this
/-- The same, from the end on. -/
theorem backLoop {α : Type} {a : List α} (L : Int → Int → Option Int) (p : α → Bool) (hs : ∀ at_ i (h : i < a.length), L at_ (i : Int) = if p a[i] = true then L (i : Int) ((i : Int) - 1) else L at_ ((i : Int) - 1)) (he : ∀ at_, L at_ (-1) = some at_) : L (a.length : Int) ((a.length : Int) - 1) = some ((a.findIdx p : Nat) : Int) := by
  have key : ∀ i, i ≤ a.length → L ((i + (a.drop i).findIdx p : Nat) : Int) ((i : Int) - 1) = some ((a.findIdx p : Nat) : Int) := by
    intro i
    induction i with
    | zero => intro _; rw [show (((0 : Nat) : Int) - 1) = -1 by omega, he]; simp
    | succ i ih =>
      intro hi
      have hlt : i < a.length := by omega
      have h1 := ih (by omega)
      rw [show (((i + 1 : Nat) : Int) - 1) = (i : Int) by omega, hs _ i hlt]
      rw [List.drop_eq_getElem_cons hlt, List.findIdx_cons] at h1
      cases hp : p a[i] with
      | true => simpa [hp] using h1
      | false =>
        simp only [Bool.false_eq_true, if_false]
        rw [hp] at h1
        simp only [cond_false] at h1
        rw [show i + 1 + (a.drop (i + 1)).findIdx p = i + ((a.drop (i + 1)).findIdx p + 1) by omega]
        exact h1
  have := key a.length (Nat.le_refl _)
  simpa using this
def setAdd (l : List Int) (x : Int) : List Int := if x ∈ l then l else l.take (l.findIdx fun y => decide (x < y)) ++ x :: l.drop (l.findIdx fun y => decide (x < y))
theorem setAdd_len (l : List Int) (x : Int) : (setAdd l x).length ≤ l.length + 1 := by
  unfold setAdd
  split
  · omega
  · simp; omega
theorem setHas_ok {l : List Int} {x : Int} (h : l.length ≤ 1048576) : p_spec_SetHas l x = some (decide (x ∈ l)) := by
  have h0 := findLoop (a := l) (p_spec_SetHas_L0 l x) (fun y => decide (y = x)) (fun _ => true) (fun i q => by
    rw [p_spec_SetHas_L0]
    simp [lt_int q, nonneg_int, List.getElem?_eq_getElem q, wsucc q (by omega)]) (by rw [p_spec_SetHas_L0]; simp)
  unfold p_spec_SetHas
  rw [h0]
  by_cases hx : x ∈ l
  · have : l.findIdx (fun y => decide (y = x)) < l.length := List.findIdx_lt_length.2 ⟨x, hx, by simp⟩
    simp [this, hx]
  · have : ¬ l.findIdx (fun y => decide (y = x)) < l.length := fun h => by
      obtain ⟨y, h1, h2⟩ := List.findIdx_lt_length.1 h
      exact hx (by rw [← of_decide_eq_true h2]; exact h1)
    simp [this, hx]
theorem setAdd_ok {l : List Int} {x : Int} (h : l.length ≤ 1048576) : p_spec_SetAdd l x = some (setAdd l x) := by
  have h0 := backLoop (a := l) (p_spec_SetAdd_L0 l x) (fun y => decide (x < y)) (fun at_ i q => by
    rw [p_spec_SetAdd_L0]
    have hw : IntKind.wrap .i64 ((i : Int) - 1) = (i : Int) - 1 := wrap_id (by omega) (by omega)
    simp [nonneg_int, List.getElem?_eq_getElem q, hw]) (fun at_ => by rw [p_spec_SetAdd_L0]; simp)
  have hw : IntKind.wrap .i64 ((l.length : Int) - 1) = (l.length : Int) - 1 := wrap_id (by omega) (by omega)
  unfold p_spec_SetAdd setAdd
  have hle : l.findIdx (fun y => decide (x < y)) ≤ l.length := List.findIdx_le_length
  generalize hk : l.findIdx (fun y => decide (x < y)) = k at h0 hle
  have h8 : l.length * 8 ≤ 140737488355328 := by omega
  have h1 : (l.take k).length * 8 ≤ 140737488355328 := by simp; omega
  have h2 : ((l.take k).length + 1) * 8 ≤ 140737488355328 := by simp; omega
  have h3 : ((l.take k ++ [x]).length + (l.drop k).length) * 8 ≤ 140737488355328 := by simp; omega
  simp only [setHas_ok h, Option.bind_eq_bind, Option.bind_some, hw, h0, nonneg_int, Int.toNat_natCast, hle, h8, h1, h2, h3, if_true, decide_eq_true_eq]
  by_cases hx : x ∈ l <;> simp [hx]
end Go.Proofs.Ytanglbgincgmaaa.Vm

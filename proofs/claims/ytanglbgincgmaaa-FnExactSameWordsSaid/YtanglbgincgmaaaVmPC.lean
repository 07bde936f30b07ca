/-
  Plain laws: right grammars.
-/
import Derived.Test.YtanglbgincgmaaaVmPB
namespace Go.Proofs.Ytanglbgincgmaaa.Vm
open Go Go.RowKit Go.Proofs
set_option linter.unusedVariables false

def within (lo hi x : Int) : Bool := decide (lo ≤ x) && decide (x ≤ hi)
theorem l1In_ok (x lo hi : Int) : p_spec_l1In x lo hi = some (within lo hi x) := by
  unfold p_spec_l1In within
  by_cases h : lo ≤ x <;> simp [h]
theorem inRange_ok (x lo hi : Int) : p_impl_inRange x lo hi = some (within lo hi x) := by
  unfold p_impl_inRange within
  by_cases h : lo ≤ x <;> simp [h]
theorem orIf {β : Type} (x y : Bool) (A B : β) : (if x = true then A else if y = true then A else B) = if (x || y) = true then A else B := by cases x <;> cases y <;> rfl
theorem andIf {β : Type} (x y : Bool) (A B : β) : (if x = true then (if y = true then A else B) else B) = if (x && y) = true then A else B := by cases x <;> cases y <;> rfl
def isSym (n : Nat) (x : Int) : Bool := within 0 25 x || within 100 (100 + n - 1) x
def gramOk (g : List (List (List Int))) : Bool := within 1 20 g.length && g.all fun r => within 1 8 r.length && r.all fun row => decide ((row.length : Int) ≤ 8) && row.all (isSym g.length)
theorem gramOk_spec {g : List (List (List Int))} (h : gOk g) : p_spec_GramOk g = some (gramOk g) := by
  unfold p_spec_GramOk gramOk
  simp only [l1In_ok, Option.bind_eq_bind, Option.bind_some]
  cases hw : within 1 20 (g.length : Int) with
  | false => simp
  | true =>
    have hg : g.length ≤ 20 := by simp [within] at hw; omega
    simp only [if_true, Bool.true_and]
    have h0 := allLoop (R := Bool) (a := g) (p_spec_GramOk_L0 g) false (fun r => within 1 8 r.length && r.all fun row => decide ((row.length : Int) ≤ 8) && row.all (isSym g.length)) (fun i q1 => by
      rw [p_spec_GramOk_L0]
      have hi := h.2 _ (List.getElem_mem q1)
      have h2 := allLoop (R := Bool) (a := g[i]) (p_spec_GramOk_L2 g i) false (fun row => decide ((row.length : Int) ≤ 8) && row.all (isSym g.length)) (fun j q2 => by
        rw [p_spec_GramOk_L2]
        have hj := hi.2 _ (List.getElem_mem q2)
        have h4 := allLoop (R := Bool) (a := g[i][j]) (p_spec_GramOk_L4 g i j g[i][j]) false (isSym g.length) (fun k q3 => by
          rw [p_spec_GramOk_L4]
          have e1 : IntKind.wrap .i64 (100 + (g.length : Int)) = 100 + g.length := wrap_id (by omega) (by omega)
          have e2 : IntKind.wrap .i64 (100 + (g.length : Int) - 1) = 100 + g.length - 1 := wrap_id (by omega) (by omega)
          simp only [lt_int q3, if_true, nonneg_int, Int.toNat_natCast, List.getElem?_eq_getElem q3, Option.bind_eq_bind, Option.bind_some, l1In_ok, e1, e2, wsucc q3 (by omega), isSym]
          exact orIf _ _ _ _) (by rw [p_spec_GramOk_L4]; simp)
        simp only [nonneg_int, if_true, Int.toNat_natCast, List.getElem?_eq_getElem q1, List.getElem?_eq_getElem q2, Option.bind_eq_bind, Option.bind_some, lt_int q2, h4, wsucc q2 (by omega)]
        by_cases h8 : (8 : Int) < (g[i][j].length : Int)
        · have : ¬ (g[i][j].length : Int) ≤ 8 := by omega
          simp [h8, this]
        · have : (g[i][j].length : Int) ≤ 8 := by omega
          rw [if_neg h8]
          cases (g[i][j].all (isSym g.length)) <;> simp [this]) (by rw [p_spec_GramOk_L2]; simp [List.getElem?_eq_getElem q1])
      simp only [lt_int q1, if_true, nonneg_int, Int.toNat_natCast, List.getElem?_eq_getElem q1, Option.bind_eq_bind, Option.bind_some, l1In_ok, wsucc q1 (by omega), h2]
      cases within 1 8 (g[i].length : Int) <;> cases (g[i].all fun row => decide ((row.length : Int) ≤ 8) && row.all (isSym g.length)) <;> simp) (by rw [p_spec_GramOk_L0]; simp)
    rw [h0]
    cases (g.all fun r => within 1 8 r.length && r.all fun row => decide ((row.length : Int) ≤ 8) && row.all (isSym g.length)) <;> simp
def gWf (g : List (List (List Int))) : Prop := ∀ x ∈ g, ∀ y ∈ x, ∀ z ∈ y, -9223372036854775808 ≤ z ∧ z ≤ 9223372036854775807
theorem isSymbol_ok {g : List (List (List Int))} (h : g.length ≤ 1048576) {x : Int} (hx : x ≤ 9223372036854775807) : p_impl_isSymbol g x = some (isSym g.length x) := by
  unfold p_impl_isSymbol p_impl_isLetter p_impl_isPart isSym
  simp only [inRange_ok, Option.bind_eq_bind, Option.bind_some]
  rw [wrap_id (n := (g.length : Int) - 1) (by omega) (by omega)]
  cases h1 : within 0 25 x with
  | true => simp
  | false =>
    simp only [Bool.false_eq_true, if_false, Bool.false_or]
    by_cases h2 : 100 ≤ x
    · rw [if_pos h2, wrap_id (by omega) (by omega)]
      congr 1
      unfold within
      rw [Bool.eq_iff_iff]
      simp
      omega
    · rw [if_neg h2]
      have : within 100 (100 + (g.length : Int) - 1) x = false := by unfold within; simp; omega
      rw [this]
theorem areSymbols_ok {g : List (List (List Int))} (h : g.length ≤ 1048576) {row : List Int} (hr : row.length ≤ 1048576) (hx : ∀ z ∈ row, z ≤ 9223372036854775807) : p_impl_areSymbols g row = some (row.all (isSym g.length)) := by
  unfold p_impl_areSymbols
  rw [allLoop (R := Bool) (a := row) (p_impl_areSymbols_L0 row g) false (isSym g.length) (fun i q => by
    rw [p_impl_areSymbols_L0]
    simp only [lt_int q, if_true, nonneg_int, Int.toNat_natCast, List.getElem?_eq_getElem q, Option.bind_eq_bind, Option.bind_some, isSymbol_ok h (hx _ (List.getElem_mem q)), wsucc q (by omega)]) (by rw [p_impl_areSymbols_L0]; simp)]
  cases row.all (isSym g.length) <;> simp
theorem gramOk_impl {g : List (List (List Int))} (h : gOk g) (hw : gWf g) : p_impl_GramOk g = some (gramOk g) := by
  unfold p_impl_GramOk gramOk
  simp only [inRange_ok, Option.bind_eq_bind, Option.bind_some]
  have hg := h.1
  cases within 1 20 (g.length : Int) with
  | false => simp
  | true =>
    simp only [if_true, Bool.true_and]
    have h0 := allLoop (R := Bool) (a := g) (p_impl_GramOk_L0 g) false (fun r => within 1 8 r.length && r.all fun row => decide ((row.length : Int) ≤ 8) && row.all (isSym g.length)) (fun i q1 => by
      rw [p_impl_GramOk_L0]
      have hi := h.2 _ (List.getElem_mem q1)
      have h2 := allLoop (R := Bool) (a := g[i]) (p_impl_GramOk_L2 g i g[i]) false (fun row => decide ((row.length : Int) ≤ 8) && row.all (isSym g.length)) (fun j q2 => by
        rw [p_impl_GramOk_L2]
        have hj := hi.2 _ (List.getElem_mem q2)
        simp only [nonneg_int, if_true, Int.toNat_natCast, List.getElem?_eq_getElem q2, Option.bind_eq_bind, Option.bind_some, lt_int q2, areSymbols_ok h.1 hj (fun z hz => (hw _ (List.getElem_mem q1) _ (List.getElem_mem q2) z hz).2), wsucc q2 (by omega)]
        by_cases h8 : (8 : Int) < (g[i][j].length : Int)
        · have : ¬ (g[i][j].length : Int) ≤ 8 := by omega
          simp [h8, this]
        · have : (g[i][j].length : Int) ≤ 8 := by omega
          rw [if_neg h8]
          simp [this]) (by rw [p_impl_GramOk_L2]; simp)
      simp only [lt_int q1, if_true, nonneg_int, Int.toNat_natCast, List.getElem?_eq_getElem q1, Option.bind_eq_bind, Option.bind_some, inRange_ok, wsucc q1 (by omega), h2]
      cases within 1 8 (g[i].length : Int) <;> cases (g[i].all fun row => decide ((row.length : Int) ≤ 8) && row.all (isSym g.length)) <;> simp) (by rw [p_impl_GramOk_L0]; simp)
    rw [h0]
    cases (g.all fun r => within 1 8 r.length && r.all fun row => decide ((row.length : Int) ≤ 8) && row.all (isSym g.length)) <;> simp

/-! Trimmed. -/
end Go.Proofs.Ytanglbgincgmaaa.Vm

/-
  Plain laws: Check, first part: what a row says of a set of parts.
-/
import Derived.Test.YtanglbgincgmaaaVmPC
import Derived.Test.YtanglbgincgmaaaVmBits
namespace Go.Proofs.Ytanglbgincgmaaa.Vm
open Go Go.RowKit Go.Proofs
set_option linter.unusedVariables false
theorem has_ok {a k : Nat} (ha : a < 4294967296) (h : k < 32) : p_impl_flags_has (a : Int) (k : Int) = some (a.testBit k) := by
  unfold p_impl_flags_has
  rw [wrap64u (show k < 18446744073709551616 by omega)]
  have : ¬ ((k : Int) < 0) := by omega
  rw [if_neg this, has32 ha h]
  cases a.testBit k <;> simp
/-- A symbol that is a part of the set. -/
def inSet (a : Nat) (y : Int) : Bool := decide (100 ≤ y) && decide (y < 120) && a.testBit (y - 100).toNat
theorem sub100 {y : Int} (h1 : 100 ≤ y) (h2 : y < 120) : IntKind.wrap .i64 (y - 100) = (((y - 100).toNat : Nat) : Int) := by
  rw [wrap_id (by omega) (by omega)]
  omega
theorem emptyIn_ok {a : Nat} (ha : a < 4294967296) {row : List Int} (h : row.length ≤ 1048576) : p_impl_emptyIn row (a : Int) = some (row.all (inSet a)) := by
  have h0 := allLoop (R := Bool) (a := row) (p_impl_emptyIn_L0 (a : Int) row) false (inSet a) (fun i q => by
    rw [p_impl_emptyIn_L0]
    simp only [lt_int q, if_true, nonneg_int, Int.toNat_natCast, List.getElem?_eq_getElem q, Option.bind_eq_bind, Option.bind_some, wsucc q (by omega)]
    unfold inSet
    by_cases h1 : row[i] < 100
    · have : ¬ 100 ≤ row[i] := by omega
      simp [h1, this]
    · by_cases h2 : 120 ≤ row[i]
      · have : ¬ row[i] < 120 := by omega
        simp [h1, h2, this]
      · have e1 : (100 : Int) ≤ row[i] := by omega
        have e2 : row[i] < 120 := by omega
        rw [if_neg h1, if_neg h2, sub100 e1 e2, has_ok ha (by omega)]
        simp only [Option.bind_some, e1, e2, decide_true, Bool.true_and]) (by rw [p_impl_emptyIn_L0]; simp)
  unfold p_impl_emptyIn
  rw [h0]
  cases row.all (inSet a) <;> simp
/-- A symbol that is a letter, or a part of the set. -/
def okSet (a : Nat) (y : Int) : Bool := decide (y < 100) || a.testBit (y - 100).toNat
theorem isProductive_ok {a : Nat} (ha : a < 4294967296) {row : List Int} (h : row.length ≤ 1048576) (hy : ∀ y ∈ row, y < 120) : p_impl_isProductive row (a : Int) = some (row.all (okSet a)) := by
  have h0 := allLoop (R := Bool) (a := row) (p_impl_isProductive_L0 (a : Int) row) false (okSet a) (fun i q => by
    rw [p_impl_isProductive_L0]
    simp only [lt_int q, if_true, nonneg_int, Int.toNat_natCast, List.getElem?_eq_getElem q, Option.bind_eq_bind, Option.bind_some, wsucc q (by omega)]
    unfold okSet
    by_cases h1 : 100 ≤ row[i]
    · have e1 : ¬ row[i] < 100 := by omega
      have e2 := hy _ (List.getElem_mem q)
      rw [if_pos h1, sub100 h1 e2, has_ok ha (by omega)]
      simp only [Option.bind_some, e1, decide_false, Bool.false_or]
    · have e1 : row[i] < 100 := by omega
      simp [h1, e1]) (by rw [p_impl_isProductive_L0]; simp)
  unfold p_impl_isProductive
  rw [h0]
  cases row.all (okSet a) <;> simp
/-- A list that stands for a set of bits below 20. -/
structure Bits (a : Nat) (l : List Int) : Prop where
  lt : a < 1048576
  mem : ∀ x, x ∈ l ↔ 0 ≤ x ∧ a.testBit x.toNat = true
  nodup : l.Nodup
theorem bit_lt {a i : Nat} (ha : a < 1048576) (h : a.testBit i = true) : i < 20 := by
  rcases Nat.lt_or_ge i 20 with h1 | h1
  · exact h1
  · have : a < 2 ^ i := Nat.lt_of_lt_of_le (show a < 2 ^ 20 from ha) (Nat.pow_le_pow_right (by omega) h1)
    rw [Nat.testBit_lt_two_pow this] at h
    cases h
theorem Bits.nat {a : Nat} {l : List Int} (h : Bits a l) (i : Nat) : (i : Int) ∈ l ↔ a.testBit i = true := by
  rw [h.mem]; simp
theorem nodup_len : ∀ (n : Nat) (l : List Int), l.Nodup → (∀ x ∈ l, 0 ≤ x ∧ x < n) → l.length ≤ n := by
  intro n
  induction n with
  | zero =>
    intro l _ h
    cases l with
    | nil => simp
    | cons x l => have := h x List.mem_cons_self; omega
  | succ n ih =>
    intro l hd h
    have h1 : (l.erase (n : Int)).length ≤ n := ih _ (hd.erase _) (fun x hx => by
      rw [hd.mem_erase_iff] at hx
      have := h x hx.2
      have h2 := hx.1
      omega)
    by_cases hm : (n : Int) ∈ l
    · rw [List.length_erase_of_mem hm] at h1; omega
    · rw [List.erase_of_not_mem hm] at h1; omega
theorem Bits.len {a : Nat} {l : List Int} (h : Bits a l) : l.length ≤ 20 :=
  nodup_len 20 l h.nodup (fun x hx => by
    obtain ⟨h1, h2⟩ := (h.mem x).1 hx
    have := bit_lt h.lt h2
    omega)
end Go.Proofs.Ytanglbgincgmaaa.Vm

/-
  Plain laws: Check, second part: the reference's rows, and one part more in a set.
-/
import Derived.Test.YtanglbgincgmaaaVmQA
import Derived.Test.YtanglbgincgmaaaVmPS
namespace Go.Proofs.Ytanglbgincgmaaa.Vm
open Go Go.RowKit Go.Proofs
set_option linter.unusedVariables false
theorem Bits.sub {a : Nat} {l : List Int} (h : Bits a l) {y : Int} (hy : 100 ≤ y) : decide (y - 100 ∈ l) = a.testBit (y - 100).toNat := by
  have := h.mem (y - 100)
  cases hb : a.testBit (y - 100).toNat with
  | true => simp [this, hb]; omega
  | false => simp [this, hb]
theorem l5All_ok {a : Nat} {l : List Int} (h : Bits a l) {row : List Int} (hr : row.length ≤ 1048576) (hw : ∀ y ∈ row, y ≤ 9223372036854775807) : p_spec_l5All row l = some (row.all (inSet a)) := by
  have h0 := allLoop (R := Bool) (a := row) (p_spec_l5All_L0 row l) false (inSet a) (fun i q => by
    rw [p_spec_l5All_L0]
    simp only [lt_int q, if_true, nonneg_int, Int.toNat_natCast, List.getElem?_eq_getElem q, Option.bind_eq_bind, Option.bind_some, wsucc q (by omega)]
    unfold inSet
    have hy := hw _ (List.getElem_mem q)
    by_cases h1 : row[i] < 100
    · have : ¬ 100 ≤ row[i] := by omega
      simp [h1, this]
    · have e1 : (100 : Int) ≤ row[i] := by omega
      rw [if_neg h1, wrap_id (by omega) (by omega), setHas_ok (by have := h.len; omega)]
      simp only [Option.bind_some, h.sub e1, e1, decide_true, Bool.true_and]
      cases hb : a.testBit (row[i] - 100).toNat with
      | false => simp
      | true =>
        have := bit_lt h.lt hb
        have e2 : row[i] < 120 := by omega
        simp [e2]) (by rw [p_spec_l5All_L0]; simp)
  unfold p_spec_l5All
  rw [h0]
  cases row.all (inSet a) <;> simp
theorem l6Alive_ok {a : Nat} {l : List Int} (h : Bits a l) {row : List Int} (hr : row.length ≤ 1048576) (hw : ∀ y ∈ row, y ≤ 9223372036854775807) : p_spec_l6Alive row l = some (row.all (okSet a)) := by
  have h0 := allLoop (R := Bool) (a := row) (p_spec_l6Alive_L0 row l) false (okSet a) (fun i q => by
    rw [p_spec_l6Alive_L0]
    simp only [lt_int q, if_true, nonneg_int, Int.toNat_natCast, List.getElem?_eq_getElem q, Option.bind_eq_bind, Option.bind_some, wsucc q (by omega)]
    unfold okSet
    have hy := hw _ (List.getElem_mem q)
    by_cases h1 : 100 ≤ row[i]
    · have e1 : ¬ row[i] < 100 := by omega
      rw [if_pos h1, wrap_id (by omega) (by omega), setHas_ok (by have := h.len; omega)]
      simp only [Option.bind_some, h.sub h1, e1, decide_false, Bool.false_or]
    · have e1 : row[i] < 100 := by omega
      simp [h1, e1]) (by rw [p_spec_l6Alive_L0]; simp)
  unfold p_spec_l6Alive
  rw [h0]
  cases row.all (okSet a) <;> simp
/-- One part more. -/
theorem Bits.put {a k : Nat} {l : List Int} (h : Bits a l) (hk : k < 20) : Bits (Vm.put a k) (setAdd l (k : Int)) := by
  have hm : ∀ x, x ∈ setAdd l (k : Int) ↔ x ∈ l ∨ x = k := by
    intro x
    unfold setAdd
    split
    · rename_i hin
      constructor
      · exact .inl
      · rintro (h1 | rfl)
        · exact h1
        · exact hin
    · rw [List.mem_append, List.mem_cons]
      constructor
      · rintro (h1 | h1 | h1)
        · exact .inl (List.mem_of_mem_take h1)
        · exact .inr h1
        · exact .inl (List.mem_of_mem_drop h1)
      · rintro (h1 | h1)
        · rw [← List.take_append_drop (l.findIdx fun y => decide ((k : Int) < y)) l, List.mem_append] at h1
          rcases h1 with h1 | h1
          · exact .inl h1
          · exact .inr (.inr h1)
        · exact .inr (.inl h1)
  refine ⟨put_lt (n := 20) h.lt hk, fun x => ?_, ?_⟩
  · rw [hm, h.mem, put_bit]
    constructor
    · rintro (⟨h1, h2⟩ | rfl)
      · exact ⟨h1, by simp [h2]⟩
      · simp
    · rintro ⟨h1, h2⟩
      rw [Bool.or_eq_true, decide_eq_true_eq] at h2
      rcases h2 with h2 | h2
      · exact .inl ⟨h1, h2⟩
      · exact .inr (by omega)
  · unfold setAdd
    split
    · exact h.nodup
    · rename_i hin
      have hd := h.nodup
      rw [← List.take_append_drop (l.findIdx fun y => decide ((k : Int) < y)) l] at hd hin
      generalize l.take (l.findIdx fun y => decide ((k : Int) < y)) = p at *
      generalize l.drop (l.findIdx fun y => decide ((k : Int) < y)) = q at *
      exact (List.perm_middle.nodup_iff).2 (List.nodup_cons.2 ⟨hin, hd⟩)
end Go.Proofs.Ytanglbgincgmaaa.Vm

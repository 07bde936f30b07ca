/-
  More rules: a byte of a text, a piece of a text.
-/
import Derived.Test.YtmkpoldhgdbjiaaDoorVmNum
namespace Go.Proofs.YtmkpoldhgdbjiaaDoor.Vm
open Go Go.RowKit Go.Proofs
set_option linter.unusedVariables false
set_option linter.unusedSimpArgs false
theorem quiet_pure {α : Type} (P : Program) (a : α) : quiet P (pure a : Sem α) = some a := rfl
theorem q_index {P : Program} {T : Nat} (ht : P.underlying T = some .string) {s : ByteArray} {i : Nat} {b : UInt8} (h : s.data.toList[i]? = some b) : quiet P (Instr.index T (.string s) (.int .i64 i)) = some (.int .u8 b.toNat) := by
  have h1 : s[((i : Int)).toNat]? = some b := by
    have hl : i < s.data.size := by
      have := (List.getElem?_eq_some_iff.1 h).1
      simpa using this
    have h2 := (List.getElem?_eq_some_iff.1 h).2
    have hl2 : i < s.size := hl
    simp only [Int.toNat_natCast]
    rw [getElem?_pos s i hl2]
    congr 1
  unfold Instr.index
  simp only [asIntOf, quiet_bind, quiet_pure, Option.bind_some, quiet_und ht, h1, Int.natCast_nonneg, if_true]
theorem q_bound {P : Program} {n y : Nat} {c : BoundsCode} (h : n ≤ y) : quiet P (Instr.sliceBound (.int .i64 n) y c) = some n := by
  unfold Instr.sliceBound
  have : 0 ≤ (n : Int) ∧ (n : Int) ≤ y := by omega
  simp only [asIntOf, quiet_bind, quiet_pure, Option.bind_some, this, and_self, if_true, Int.toNat_natCast]
theorem q_piece {P : Program} {T : Nat} (ht : P.underlying T = some .string) {s : ByteArray} {l h : Nat} (h1 : l ≤ h) (h2 : h ≤ s.size) : quiet P (Instr.slice T (.string s) (some (.int .i64 l)) (some (.int .i64 h)) none) = some (.string (s.extract l h)) := by
  unfold Instr.slice Instr.sliceBounds
  simp only [quiet_bind, quiet_pure, Option.bind_some, quiet_und ht, Option.isSome_none, Bool.false_eq_true, if_false, q_bound h1, q_bound h2]
theorem q_from {P : Program} {T : Nat} (ht : P.underlying T = some .string) {s : ByteArray} {l : Nat} (h1 : l ≤ s.size) : quiet P (Instr.slice T (.string s) (some (.int .i64 l)) none none) = some (.string (s.extract l s.size)) := by
  unfold Instr.slice Instr.sliceBounds
  simp only [quiet_bind, quiet_pure, Option.bind_some, quiet_und ht, Option.isSome_none, Bool.false_eq_true, if_false, q_bound h1]
theorem q_upto {P : Program} {T : Nat} (ht : P.underlying T = some .string) {s : ByteArray} {h : Nat} (h2 : h ≤ s.size) : quiet P (Instr.slice T (.string s) none (some (.int .i64 h)) none) = some (.string (s.extract 0 h)) := by
  unfold Instr.slice Instr.sliceBounds
  simp only [quiet_bind, quiet_pure, Option.bind_some, quiet_und ht, Option.isSome_none, Bool.false_eq_true, if_false, q_bound h2]
theorem sub_bs (s : ByteArray) (a b : Nat) : s.extract a b = bs ((s.data.toList.take b).drop a) := by
  apply ba_ext
  rw [ByteArray.data_extract]
  simp [bs, List.drop_take]
end Go.Proofs.YtmkpoldhgdbjiaaDoor.Vm

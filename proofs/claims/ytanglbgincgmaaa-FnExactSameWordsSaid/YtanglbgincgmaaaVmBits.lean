/-
  Plain laws: sets of small numbers as bits.
-/
import Derived.Test.YtanglbgincgmaaaVmSimG
namespace Go.Proofs.Ytanglbgincgmaaa.Vm
open Go Go.RowKit Go.Proofs
set_option linter.unusedVariables false
theorem wrap32 {n : Nat} (h : n < 4294967296) : IntKind.wrap .u32 (n : Int) = (n : Int) := by
  simp [IntKind.wrap, IntKind.bits, IntKind.signed]
  omega
theorem wrap64u {n : Nat} (h : n < 18446744073709551616) : IntKind.wrap .u64 (n : Int) = (n : Int) := by
  simp [IntKind.wrap, IntKind.bits, IntKind.signed]
  omega
theorem ofInt32 {n : Nat} (h : n < 4294967296) : (BitVec.ofInt 32 (n : Int)).toNat = n := by
  rw [BitVec.ofInt_natCast, BitVec.toNat_ofNat]
  exact Nat.mod_eq_of_lt h
theorem or32 {a b : Nat} (ha : a < 4294967296) (hb : b < 4294967296) : orI .u32 (a : Int) (b : Int) = ((a ||| b : Nat) : Int) := by
  have h : a ||| b < 2 ^ 32 := Nat.or_lt_two_pow ha hb
  unfold orI
  have e : (BitVec.ofInt 32 (a : Int) ||| BitVec.ofInt 32 (b : Int)).toNat = a ||| b := by rw [BitVec.toNat_or, ofInt32 ha, ofInt32 hb]
  show IntKind.wrap .u32 (((BitVec.ofInt 32 (a : Int) ||| BitVec.ofInt 32 (b : Int)).toNat : Nat) : Int) = _
  rw [e]
  exact wrap32 h
theorem and32 {a b : Nat} (ha : a < 4294967296) (hb : b < 4294967296) : andI .u32 (a : Int) (b : Int) = ((a &&& b : Nat) : Int) := by
  have h : a &&& b < 2 ^ 32 := Nat.and_lt_two_pow a hb
  unfold andI
  have e : (BitVec.ofInt 32 (a : Int) &&& BitVec.ofInt 32 (b : Int)).toNat = a &&& b := by rw [BitVec.toNat_and, ofInt32 ha, ofInt32 hb]
  show IntKind.wrap .u32 (((BitVec.ofInt 32 (a : Int) &&& BitVec.ofInt 32 (b : Int)).toNat : Nat) : Int) = _
  rw [e]
  exact wrap32 h
theorem shl32 {k : Nat} (h : k < 32) : shlI .u32 1 (k : Int) = ((2 ^ k : Nat) : Int) := by
  have h2 : 2 ^ k < 2 ^ 32 := Nat.pow_lt_pow_right (by omega) h
  unfold shlI
  simp only [Int.toNat_natCast, IntKind.bits, Int.one_mul]
  rw [Nat.min_eq_left (by omega)]
  have := wrap32 (n := 2 ^ k) h2
  simpa using this
theorem shr32 {a k : Nat} (h : k < 32) : shrI .u32 (a : Int) (k : Int) = ((a >>> k : Nat) : Int) := by
  unfold shrI
  simp only [Int.toNat_natCast, IntKind.bits]
  rw [Nat.min_eq_left (by omega), Nat.shiftRight_eq_div_pow, Int.fdiv_eq_ediv_of_nonneg _ (Int.le_of_lt (Int.pow_pos (by decide)))]
  simp [Int.natCast_ediv, Int.natCast_pow]
/-- Whether k is in the set. -/
theorem has32 {a k : Nat} (ha : a < 4294967296) (h : k < 32) : andI .u32 (shrI .u32 (a : Int) (k : Int)) 1 = ((if a.testBit k then 1 else 0 : Nat) : Int) := by
  rw [shr32 h, show (1 : Int) = ((1 : Nat) : Int) from rfl, and32 (Nat.lt_of_le_of_lt (Nat.shiftRight_le a k) ha) (by omega)]
  rw [Nat.testBit_eq_decide_div_mod_eq, Nat.and_one_is_mod, Nat.shiftRight_eq_div_pow]
  congr 1
  by_cases h1 : a / 2 ^ k % 2 = 1
  · simp [h1]
  · have : a / 2 ^ k % 2 = 0 := by omega
    simp [this]
/-- The set with k in it. -/
def put (a k : Nat) : Nat := a ||| 2 ^ k
theorem put_bit (a k i : Nat) : (put a k).testBit i = (a.testBit i || decide (i = k)) := by
  unfold put
  rw [Nat.testBit_or, Nat.testBit_two_pow]
  congr 1
  by_cases h : k = i
  · simp [h]
  · have : ¬ i = k := fun e => h e.symm
    simp [h, this]
theorem put_lt {a k n : Nat} (ha : a < 2 ^ n) (hk : k < n) : put a k < 2 ^ n := Nat.or_lt_two_pow ha (Nat.pow_lt_pow_right (by omega) hk)
theorem put_has {a k : Nat} (h : a.testBit k = true) : put a k = a := by
  refine Nat.eq_of_testBit_eq (fun i => ?_)
  rw [put_bit]
  by_cases hi : i = k
  · subst hi; simp [h]
  · simp [hi]
theorem put32 {a k : Nat} (ha : a < 4294967296) (h : k < 32) : orI .u32 (a : Int) (shlI .u32 1 (k : Int)) = ((put a k : Nat) : Int) := by
  rw [shl32 h, or32 ha (show 2 ^ k < 2 ^ 32 from Nat.pow_lt_pow_right (by omega) h)]
  rfl
end Go.Proofs.Ytanglbgincgmaaa.Vm

/-
  The rules by which simp runs the small machine; texts (strings) as the machine has them.
-/
import Derived.Test.YtjdhdpbdaabdmaaDoorVmFactsG
import Derived.Laws.Strings
namespace Go.Proofs.YtjdhdpbdaabdmaaDoor.Vm
open Go Go.RowKit Go.Proofs
set_option linter.unusedVariables false
attribute [simp] ex_skip ex_region ex_seq thn_norm thn_exit thn_ret ex_cond iff_bool ex_block out_norm out_ret out_exit ex_exit ex_ret kept keep ro_nil ro_none ro_some gd_true gd_false ri_nil ri_cons ri_none wants runOp stepOp ev ev1 evL look lift putT stepB lenV loadV rd ru vu wu rdN ptrAdd isAggD natOf optN rowsH boxOf seenC stV foldL fold foldR putL TV.cells evs rowsIn partsV elemsV fillV part1 List.getElem?_cons_zero List.getElem?_cons_succ
attribute [simp] ints_len ints2_len ints3_len b_add b_sub b_mul b_lss b_leq b_gtr b_geq b_eql b_neq u_not tabCal tabOf seenTs seenT seenL seen bareT bare1 landC unflat cut Nat.add_assoc slots resT resL resV flatT flatL shT sh1 told body bytesV bytesR
/-- A region's operations. -/
def opsOf : Code → Array Oper
  | .region _ ops _ => ops
  | _ => #[]
/-- A text. -/
abbrev bs (l : List UInt8) : ByteArray := ⟨l.toArray⟩
@[simp] theorem bs_size (l : List UInt8) : (bs l).size = l.length := by simp [bs, ByteArray.size]
theorem ba_ext {a b : ByteArray} (h : a.data.toList = b.data.toList) : a = b := by
  cases a; cases b
  congr 1
  exact Array.toList_inj.1 h
theorem bs_data (a : ByteArray) : bs a.data.toList = a := ba_ext (by simp [bs])
theorem bs_cat (a b : List UInt8) : bs a ++ bs b = bs (a ++ b) := ba_ext (by simp [bs])
theorem ba_assoc (a b c : ByteArray) : a ++ b ++ c = a ++ (b ++ c) := ba_ext (by simp)
theorem ba_size (a b : ByteArray) : (a ++ b).size = a.size + b.size := ByteArray.size_append
theorem ba_nil (a : ByteArray) : bs [] ++ a = a := ba_ext (by simp [bs])
theorem ba_nil' (a : ByteArray) : a ++ bs [] = a := ba_ext (by simp [bs])
theorem ba_beq (a b : ByteArray) : (a.toList == b.toList) = decide (a = b) := by
  rw [ByteArray.toList_eq, ByteArray.toList_eq]
  by_cases h : a = b
  · simp [h]
  · have : ¬ a.data.toList = b.data.toList := fun e => h (ba_ext e)
    rw [decide_eq_false h]
    simpa using fun e => this (by rw [e])
section
variable (P : Program) (T : Nat) (x y : Operand) (a b : ByteArray)
@[simp] theorem b_seql : binV P .eql T x y (.string a) (.string b) = some (.bool (decide (a = b))) := by rw [← ba_beq]; rfl
@[simp] theorem b_sneq : binV P .neq T x y (.string a) (.string b) = some (.bool (!decide (a = b))) := by rw [← ba_beq]; rfl
theorem b_cat (h : a.size + b.size ≤ 9223372036854775807) : binV P .add T x y (.string a) (.string b) = some (.string (a ++ b)) := by
  show quiet P (do eqGuard .add T x y (.string a) (.string b); binOp .add T (.string a) (.string b)) = _
  have : ¬ ((a.size + b.size : Nat) : Int) > IntKind.i64.max := by
    simp [IntKind.max, IntKind.bits, IntKind.signed]
    omega
  simp only [eqGuard, binOp, Op.stringOp, if_neg this]
  rfl
end
end Go.Proofs.YtjdhdpbdaabdmaaDoor.Vm

/-
  The text of an outcome's code: spec.CodeText, impl.CodeText.
-/
import Derived.Test.YtmkpoldhgdbjiaaDoorVmIn
namespace Go.Proofs.YtmkpoldhgdbjiaaDoor.Vm
open Go Go.RowKit Go.Proofs
set_option linter.unusedVariables false
set_option linter.unusedSimpArgs false
set_option maxHeartbeats 4000000
def codes : List (List UInt8) := [[100, 111, 110, 101], [109, 117, 99, 104], [105, 110, 112, 117, 116], [103, 114, 97, 109], [102, 117, 108, 108], [99, 97, 110, 99, 101, 108], [98, 117, 100, 103, 101, 116]]
def code (k : Int) : ByteArray := if 0 ≤ k ∧ k ≤ 6 then bs (codes.getD k.toNat []) else bs []
theorem code_size (k : Int) : (code k).size ≤ 6 := by
  unfold code
  split
  · rename_i h
    have : k = 0 ∨ k = 1 ∨ k = 2 ∨ k = 3 ∨ k = 4 ∨ k = 5 ∨ k = 6 := by omega
    rcases this with rfl | rfl | rfl | rfl | rfl | rfl | rfl <;> simp [codes]
  · simp
noncomputable def FCode : Con := con (fun k : Int => [.one (.lit (.int .i64 k))]) (fun _ => True) (fun k => ((false, [none]), [.lit (.string (code k))]))
theorem callCode (k : Int) : FCode [.one (.lit (.int .i64 k))] = some ((false, [none]), [.lit (.string (code k))]) :=
  con_at (arg := fun k : Int => [.one (.lit (.int .i64 k))]) (by intro a b h; simpa using h) trivial
theorem fn_iCode : Fn Tryd.prog 17 FCode := by
  refine Fn.con [(28, FIn)] (by simp [fn_inRange]) mixed (fn := Tryd.f17) rfl rfl rfl (by kernel_rfl) 1 (by decide) (fun _ => rfl) (fun _ => ([], 0)) (fun k hk => ⟨1, ?_⟩)
  have hcall := callIn k 0 6
  by_cases h : 0 ≤ k ∧ k ≤ 6
  · have : k = 0 ∨ k = 1 ∨ k = 2 ∨ k = 3 ∨ k = 4 ∨ k = 5 ∨ k = 6 := by omega
    rcases this with rfl | rfl | rfl | rfl | rfl | rfl | rfl <;> simp (implicitDefEqProofs := false) [-getElem?_pos, -getElem?_neg, Tryd.f17, hcall, code, codes]
  · have h2 : (decide (0 ≤ k) && decide (k ≤ 6)) = false := by simpa using h
    rw [h2] at hcall
    simp (implicitDefEqProofs := false) [-getElem?_pos, -getElem?_neg, Tryd.f17, hcall, code, h]
theorem fn_sCode : Fn Tryd.prog 15 FCode := by
  refine Fn.con [(19, FIn)] (by simp [fn_l1In]) mixed (fn := Tryd.f15) rfl rfl rfl (by kernel_rfl) 1 (by decide) (fun _ => rfl) (fun _ => ([], 0)) (fun k hk => ⟨1, ?_⟩)
  have hcall := callIn k 0 6
  have hw : IntKind.i64.wrap 6 = 6 := wrap_id (by omega) (by omega)
  by_cases h : 0 ≤ k ∧ k ≤ 6
  · have : k = 0 ∨ k = 1 ∨ k = 2 ∨ k = 3 ∨ k = 4 ∨ k = 5 ∨ k = 6 := by omega
    rcases this with rfl | rfl | rfl | rfl | rfl | rfl | rfl <;> simp (implicitDefEqProofs := false) [-getElem?_pos, -getElem?_neg, Tryd.f15, hcall, code, codes, hw]
  · have h2 : (decide (0 ≤ k) && decide (k ≤ 6)) = false := by simpa using h
    rw [h2] at hcall
    simp (implicitDefEqProofs := false) [-getElem?_pos, -getElem?_neg, Tryd.f15, hcall, code, h, hw]
end Go.Proofs.YtmkpoldhgdbjiaaDoor.Vm

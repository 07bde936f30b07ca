/-
  What lies between two numbers: spec.l1In, impl.inRange.
-/
import Derived.Test.YtjdhdpbdaabdmaaDoorVmSim
namespace Go.Proofs.YtjdhdpbdaabdmaaDoor.Vm
open Go Go.RowKit Go.Proofs
set_option linter.unusedVariables false
set_option linter.unusedSimpArgs false
set_option maxHeartbeats 4000000
noncomputable def FIn : Con := con (fun p : Int × Int × Int => [.one (.lit (.int .i64 p.1)), .one (.lit (.int .i64 p.2.1)), .one (.lit (.int .i64 p.2.2))]) (fun _ => True) (fun p => ((false, [none]), [.lit (.bool (decide (p.2.1 ≤ p.1) && decide (p.1 ≤ p.2.2)))]))
theorem callIn (x lo hi : Int) : FIn [.one (.lit (.int .i64 x)), .one (.lit (.int .i64 lo)), .one (.lit (.int .i64 hi))] = some ((false, [none]), [.lit (.bool (decide (lo ≤ x) && decide (x ≤ hi)))]) :=
  con_at (arg := fun p : Int × Int × Int => [.one (.lit (.int .i64 p.1)), .one (.lit (.int .i64 p.2.1)), .one (.lit (.int .i64 p.2.2))]) (a := (x, lo, hi)) (by rintro ⟨a, b, c⟩ ⟨d, e, f⟩ h; simpa using h) trivial
theorem fn_l1In : Fn Tryd.prog 50 FIn := by
  refine Fn.con [] (by simp) mixed (fn := Tryd.f50) Tryd.func50 rfl rfl (by kernel_rfl) 3 (by decide) (fun _ => rfl) (fun _ => ([], 0)) (fun p hp => ⟨1, ?_⟩)
  obtain ⟨x, lo, hi⟩ := p
  by_cases hc : lo ≤ x
  · simp (implicitDefEqProofs := false) [-getElem?_pos, -getElem?_neg, Tryd.f50, hc]
  · simp (implicitDefEqProofs := false) [-getElem?_pos, -getElem?_neg, Tryd.f50, hc]
theorem fn_inRange : Fn Tryd.prog 70 FIn := by
  refine Fn.con [] (by simp) mixed (fn := Tryd.f70) Tryd.func70 rfl rfl (by kernel_rfl) 3 (by decide) (fun _ => rfl) (fun _ => ([], 0)) (fun p hp => ⟨1, ?_⟩)
  obtain ⟨x, lo, hi⟩ := p
  by_cases hc : lo ≤ x
  · simp (implicitDefEqProofs := false) [-getElem?_pos, -getElem?_neg, Tryd.f70, hc]
  · simp (implicitDefEqProofs := false) [-getElem?_pos, -getElem?_neg, Tryd.f70, hc]
end Go.Proofs.YtjdhdpbdaabdmaaDoor.Vm

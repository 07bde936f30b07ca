/-
  What lies between two numbers: spec.l1In, impl.inRange.
-/
import Derived.Test.YtmkpoldhgdbjiaaVmFacts
namespace Go.Proofs.Ytmkpoldhgdbjiaa.Vm
open Go Go.RowKit Go.Proofs
set_option linter.unusedVariables false
set_option linter.unusedSimpArgs false
set_option maxHeartbeats 4000000

noncomputable def F52 : Con := con (fun p : Int × Int × Int => [.one (.lit (.int .i64 p.1)), .one (.lit (.int .i64 p.2.1)), .one (.lit (.int .i64 p.2.2))]) (fun _ => True) (fun p => ((false, [none]), [.lit (.bool (decide (p.2.1 ≤ p.1) && decide (p.1 ≤ p.2.2)))]))
theorem fn52 : Fn Try.prog 52 F52 := by
  refine Fn.con [] (by simp) mixed (fn := Try.f52) rfl rfl rfl (by kernel_rfl) 3 (by decide) (fun _ => rfl) (fun _ => ([], 0)) (fun p hp => ⟨1, ?_⟩)
  obtain ⟨x, lo, hi⟩ := p
  by_cases hc : lo ≤ x
  · simp (implicitDefEqProofs := false) [told, body, Try.f52, slots, resT, resL, resV, flatT, flatL, shT, sh1, ex_skip, ex_region, ex_seq, thn_norm, thn_exit, thn_ret, ex_cond, iff_bool, ex_block, out_norm, out_ret, out_exit, ex_exit, ex_ret, kept, keep, ro_nil, ro_none, ro_some, gd_true, gd_false, ri_nil, ri_cons, ri_none, wants, runOp, stepOp, ev, ev1, evL, look, lift, putT, stepB, lenV, loadV, rd, ru, vu, wu, rdN, ptrAdd, isAggD, natOf, optN, rowsH, boxOf, seenC, stV, foldL, fold, foldR, putL, TV.cells, evs, rowsIn, partsV, elemsV, fillV, part1, -getElem?_pos, List.getElem?_cons_zero, List.getElem?_cons_succ, b_geq, b_leq, hc]
  · simp (implicitDefEqProofs := false) [told, body, Try.f52, slots, resT, resL, resV, flatT, flatL, shT, sh1, ex_skip, ex_region, ex_seq, thn_norm, thn_exit, thn_ret, ex_cond, iff_bool, ex_block, out_norm, out_ret, out_exit, ex_exit, ex_ret, kept, keep, ro_nil, ro_none, ro_some, gd_true, gd_false, ri_nil, ri_cons, ri_none, wants, runOp, stepOp, ev, ev1, evL, look, lift, putT, stepB, lenV, loadV, rd, ru, vu, wu, rdN, ptrAdd, isAggD, natOf, optN, rowsH, boxOf, seenC, stV, foldL, fold, foldR, putL, TV.cells, evs, rowsIn, partsV, elemsV, fillV, part1, -getElem?_pos, List.getElem?_cons_zero, List.getElem?_cons_succ, b_geq, b_leq, hc]
theorem call52 (x lo hi : Int) : F52 [.one (.lit (.int .i64 x)), .one (.lit (.int .i64 lo)), .one (.lit (.int .i64 hi))] = some ((false, [none]), [.lit (.bool (decide (lo ≤ x) && decide (x ≤ hi)))]) :=
  con_at (arg := fun p : Int × Int × Int => [.one (.lit (.int .i64 p.1)), .one (.lit (.int .i64 p.2.1)), .one (.lit (.int .i64 p.2.2))]) (a := (x, lo, hi)) (by rintro ⟨a, b, c⟩ ⟨d, e, f⟩ h; simpa using h) trivial

noncomputable def F54 : Con := con (fun p : Int × Int × Int => [.one (.lit (.int .i64 p.1)), .one (.lit (.int .i64 p.2.1)), .one (.lit (.int .i64 p.2.2))]) (fun _ => True) (fun p => ((false, [none]), [.lit (.bool (decide (p.2.1 ≤ p.1) && decide (p.1 ≤ p.2.2)))]))
theorem fn54 : Fn Try.prog 54 F54 := by
  refine Fn.con [] (by simp) mixed (fn := Try.f54) rfl rfl rfl (by kernel_rfl) 3 (by decide) (fun _ => rfl) (fun _ => ([], 0)) (fun p hp => ⟨1, ?_⟩)
  obtain ⟨x, lo, hi⟩ := p
  by_cases hc : lo ≤ x
  · simp (implicitDefEqProofs := false) [told, body, Try.f54, slots, resT, resL, resV, flatT, flatL, shT, sh1, ex_skip, ex_region, ex_seq, thn_norm, thn_exit, thn_ret, ex_cond, iff_bool, ex_block, out_norm, out_ret, out_exit, ex_exit, ex_ret, kept, keep, ro_nil, ro_none, ro_some, gd_true, gd_false, ri_nil, ri_cons, ri_none, wants, runOp, stepOp, ev, ev1, evL, look, lift, putT, stepB, lenV, loadV, rd, ru, vu, wu, rdN, ptrAdd, isAggD, natOf, optN, rowsH, boxOf, seenC, stV, foldL, fold, foldR, putL, TV.cells, evs, rowsIn, partsV, elemsV, fillV, part1, -getElem?_pos, List.getElem?_cons_zero, List.getElem?_cons_succ, b_geq, b_leq, hc]
  · simp (implicitDefEqProofs := false) [told, body, Try.f54, slots, resT, resL, resV, flatT, flatL, shT, sh1, ex_skip, ex_region, ex_seq, thn_norm, thn_exit, thn_ret, ex_cond, iff_bool, ex_block, out_norm, out_ret, out_exit, ex_exit, ex_ret, kept, keep, ro_nil, ro_none, ro_some, gd_true, gd_false, ri_nil, ri_cons, ri_none, wants, runOp, stepOp, ev, ev1, evL, look, lift, putT, stepB, lenV, loadV, rd, ru, vu, wu, rdN, ptrAdd, isAggD, natOf, optN, rowsH, boxOf, seenC, stV, foldL, fold, foldR, putL, TV.cells, evs, rowsIn, partsV, elemsV, fillV, part1, -getElem?_pos, List.getElem?_cons_zero, List.getElem?_cons_succ, b_geq, b_leq, hc]
theorem call54 (x lo hi : Int) : F54 [.one (.lit (.int .i64 x)), .one (.lit (.int .i64 lo)), .one (.lit (.int .i64 hi))] = some ((false, [none]), [.lit (.bool (decide (lo ≤ x) && decide (x ≤ hi)))]) :=
  con_at (arg := fun p : Int × Int × Int => [.one (.lit (.int .i64 p.1)), .one (.lit (.int .i64 p.2.1)), .one (.lit (.int .i64 p.2.2))]) (a := (x, lo, hi)) (by rintro ⟨a, b, c⟩ ⟨d, e, f⟩ h; simpa using h) trivial
end Go.Proofs.Ytmkpoldhgdbjiaa.Vm

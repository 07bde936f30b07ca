/-
  What spec.Plural yields.
-/
import Derived.Test.YtmkpoldhgdbjiaaVmOkS
import Derived.Test.YtmkpoldhgdbjiaaVmPlI
namespace Go.Proofs.Ytmkpoldhgdbjiaa.Vm
open Go Go.RowKit Go.Proofs
set_option linter.unusedVariables false
set_option linter.unusedSimpArgs false
set_option maxHeartbeats 4000000
noncomputable def L19 : Code := nav [1,1,1,0,1,0,0] (bodyOf Try.f19)
def lm19 : Nat → List Nat × Nat := fun _ => ([1, 3, 4], 1)
def T19 (l : List (List (List Int))) (i : Nat) : St := ⟨[(1, .one (.bp 1 1 0)), (3, .one (.lit (.int .i64 (psum l i)))), (4, .one (.lit (.int .i64 i)))], [none, some (.box 1 [.sl false 60 (ints3 false 48 l)])], 3⟩
theorem step19 {l : List (List (List Int))} {i k : Nat} {cal : Cal} (hi : i < l.length) (hl : l.length ≤ 20) (ha : ∀ a ∈ l, a.length ≤ 140737488355328) :
    kept 1 (lm19 0) (exec Try.prog cal k 1 lm19 0 L19 (T19 l i)) = some (.norm, T19 l (i + 1)) := by
  have hx : l[i]? = some l[i] := List.getElem?_eq_getElem hi
  have hi' : (i : Int) < l.length := by omega
  have hw := wrap_succ hi (by omega)
  have h1 := psum_le ha i (by omega)
  have h2 := ha _ (List.getElem_mem hi)
  have hs : IntKind.i64.wrap (psum l i + l[i].length) = psum l (i + 1) := by
    rw [psum_succ hi]
    have : (i : Int) * 140737488355328 ≤ 20 * 140737488355328 := Int.mul_le_mul_of_nonneg_right (by omega) (by omega)
    exact wrap_id (by omega) (by omega)
  simp (implicitDefEqProofs := false) [L19, bodyOf, Try.f19, nav, T19, lm19, ex_skip, ex_region, ex_seq, thn_norm, thn_exit, thn_ret, ex_cond, iff_bool, ex_block, out_norm, out_ret, out_exit, ex_exit, ex_ret, kept, keep, ro_nil, ro_none, ro_some, gd_true, gd_false, ri_nil, ri_cons, ri_none, wants, runOp, stepOp, ev, ev1, evL, look, lift, putT, stepB, lenV, loadV, rd, ru, vu, wu, rdN, ptrAdd, isAggD, natOf, optN, rowsH, boxOf, seenC, stV, foldL, fold, foldR, putL, TV.cells, evs, rowsIn, partsV, elemsV, fillV, part1, -getElem?_pos, List.getElem?_cons_zero, List.getElem?_cons_succ, cells3, cells48, cells60, cells37, cells39, cells42, und3, und48, und60, und37, Try.underlying42, ints_len, ints2_len, ints3_len, b_add, b_sub, b_mul, b_lss, b_leq, b_gtr, b_geq, b_eql, b_neq, u_not, tabCal, tabOf, seenTs, seenT, seenL, seen, bareT, bare1, landC, unflat, cut, Nat.add_assoc, ints3_get hx, hi', hi, hw, hs]
theorem end19 {l : List (List (List Int))} {k : Nat} {cal : Cal} :
    kept 1 (lm19 0) (exec Try.prog cal k 1 lm19 0 L19 (T19 l l.length)) = some (.exit 0, T19 l l.length) := by
  simp (implicitDefEqProofs := false) [L19, bodyOf, Try.f19, nav, T19, lm19, ex_skip, ex_region, ex_seq, thn_norm, thn_exit, thn_ret, ex_cond, iff_bool, ex_block, out_norm, out_ret, out_exit, ex_exit, ex_ret, kept, keep, ro_nil, ro_none, ro_some, gd_true, gd_false, ri_nil, ri_cons, ri_none, wants, runOp, stepOp, ev, ev1, evL, look, lift, putT, stepB, lenV, loadV, rd, ru, vu, wu, rdN, ptrAdd, isAggD, natOf, optN, rowsH, boxOf, seenC, stV, foldL, fold, foldR, putL, TV.cells, evs, rowsIn, partsV, elemsV, fillV, part1, -getElem?_pos, List.getElem?_cons_zero, List.getElem?_cons_succ, cells3, cells48, cells60, cells37, cells39, cells42, und3, und48, und60, und37, Try.underlying42, ints_len, ints2_len, ints3_len, b_add, b_sub, b_mul, b_lss, b_leq, b_gtr, b_geq, b_eql, b_neq, u_not, tabCal, tabOf, seenTs, seenT, seenL, seen, bareT, bare1, landC, unflat, cut, Nat.add_assoc]
noncomputable def F19 : Con := con (fun l : List (List (List Int)) => [A3 l]) okG (fun l => ((false, [none]), [.lit (.int .i64 (plural l))]))
theorem fn19 : Fn Try.prog 19 F19 := by
  refine Fn.con [(38, F38)] (by simp [fn38]) mixed (fn := Try.f19) rfl rfl rfl (by kernel_rfl) 1 (by decide) (fun _ => rfl) lm19 (fun l hl => ⟨l.length + 1, ?_⟩)
  have hcall := call38 hl
  unfold plural
  cases hq : gramOk l
  · rw [hq] at hcall
    simp (implicitDefEqProofs := false) [Try.f19, slots, resT, resL, resV, flatT, flatL, shT, sh1, told, body, ex_skip, ex_region, ex_seq, thn_norm, thn_exit, thn_ret, ex_cond, iff_bool, ex_block, out_norm, out_ret, out_exit, ex_exit, ex_ret, kept, keep, ro_nil, ro_none, ro_some, gd_true, gd_false, ri_nil, ri_cons, ri_none, wants, runOp, stepOp, ev, ev1, evL, look, lift, putT, stepB, lenV, loadV, rd, ru, vu, wu, rdN, ptrAdd, isAggD, natOf, optN, rowsH, boxOf, seenC, stV, foldL, fold, foldR, putL, TV.cells, evs, rowsIn, partsV, elemsV, fillV, part1, -getElem?_pos, List.getElem?_cons_zero, List.getElem?_cons_succ, cells3, cells48, cells60, cells37, cells39, cells42, und3, und48, und60, und37, Try.underlying42, ints_len, ints2_len, ints3_len, b_add, b_sub, b_mul, b_lss, b_leq, b_gtr, b_geq, b_eql, b_neq, u_not, tabCal, tabOf, seenTs, seenT, seenL, seen, bareT, bare1, landC, unflat, cut, Nat.add_assoc, hcall]
  · rw [hq] at hcall
    have h20 : l.length ≤ 20 := by
      unfold gramOk at hq
      simp at hq
      omega
    have hloop : exec Try.prog (tabCal (tabOf [(38, F38)])) (l.length + 1) 1 lm19 0 (.loop L19) (T19 l 0) = some (.exit 0, T19 l l.length) :=
      loop_to (T19 l) l.length (by simp) (by omega) (by simp [keep, lm19, T19, look]) (fun i hi => step19 hi h20 (fun a ha => (hl.2 a ha).1)) end19
    change loopAt _ _ _ _ _ _ _ _ = _ at hloop
    simp [L19, bodyOf, Try.f19, nav, T19, tabOf, psum] at hloop
    simp (implicitDefEqProofs := false) [Try.f19, slots, resT, resL, resV, flatT, flatL, shT, sh1, told, body, ex_skip, ex_region, ex_seq, thn_norm, thn_exit, thn_ret, ex_cond, iff_bool, ex_block, out_norm, out_ret, out_exit, ex_exit, ex_ret, kept, keep, ro_nil, ro_none, ro_some, gd_true, gd_false, ri_nil, ri_cons, ri_none, wants, runOp, stepOp, ev, ev1, evL, look, lift, putT, stepB, lenV, loadV, rd, ru, vu, wu, rdN, ptrAdd, isAggD, natOf, optN, rowsH, boxOf, seenC, stV, foldL, fold, foldR, putL, TV.cells, evs, rowsIn, partsV, elemsV, fillV, part1, -getElem?_pos, List.getElem?_cons_zero, List.getElem?_cons_succ, cells3, cells48, cells60, cells37, cells39, cells42, und3, und48, und60, und37, Try.underlying42, ints_len, ints2_len, ints3_len, b_add, b_sub, b_mul, b_lss, b_leq, b_gtr, b_geq, b_eql, b_neq, u_not, tabCal, tabOf, seenTs, seenT, seenL, seen, bareT, bare1, landC, unflat, cut, Nat.add_assoc, hcall, ex_loop, hloop, lm19, psum]
theorem call19 {l : List (List (List Int))} (h : okG l) : F19 [A3 l] = some ((false, [none]), [.lit (.int .i64 (plural l))]) :=
  con_at (arg := fun l : List (List (List Int)) => [A3 l]) (by intro a b h; simpa using h) h
end Go.Proofs.Ytmkpoldhgdbjiaa.Vm

/-
  What is a symbol: impl.isLetter, isPart, isSymbol, areSymbols.
-/
import Derived.Test.YtmkpoldhgdbjiaaVmIn
namespace Go.Proofs.Ytmkpoldhgdbjiaa.Vm
open Go Go.RowKit Go.Proofs
set_option linter.unusedVariables false
set_option linter.unusedSimpArgs false
set_option maxHeartbeats 4000000
def letter (s : Int) : Bool := decide (0 ≤ s) && decide (s ≤ 25)
def partOf (n : Nat) (s : Int) : Bool := decide (0 ≤ s) && decide (s ≤ (n : Int) - 1)
def sym (n : Nat) (s : Int) : Bool := letter s || (decide (100 ≤ s) && partOf n (s - 100))
noncomputable def F69 : Con := con (fun s : Int => [.one (.lit (.int .i64 s))]) (fun _ => True) (fun s => ((false, [none]), [.lit (.bool (letter s))]))
theorem fn69 : Fn Try.prog 69 F69 := by
  refine Fn.con [(54, F54)] (by simp [fn54]) mixed (fn := Try.f69) rfl rfl rfl (by kernel_rfl) 1 (by decide) (fun _ => rfl) (fun _ => ([], 0)) (fun s hp => ⟨1, ?_⟩)
  have hcall := call54 s 0 25
  simp (implicitDefEqProofs := false) [told, body, Try.f69, slots, resT, resL, resV, flatT, flatL, shT, sh1, ex_skip, ex_region, ex_seq, thn_norm, thn_exit, thn_ret, ex_cond, iff_bool, ex_block, out_norm, out_ret, out_exit, ex_exit, ex_ret, kept, keep, ro_nil, ro_none, ro_some, gd_true, gd_false, ri_nil, ri_cons, ri_none, wants, runOp, stepOp, ev, ev1, evL, look, lift, putT, stepB, lenV, loadV, rd, ru, vu, wu, rdN, ptrAdd, isAggD, natOf, optN, rowsH, boxOf, seenC, stV, foldL, fold, foldR, putL, TV.cells, evs, rowsIn, partsV, elemsV, fillV, part1, -getElem?_pos, List.getElem?_cons_zero, List.getElem?_cons_succ, tabCal, tabOf, seenTs, seenT, seen, bareT, bare1, landC, unflat, cut, hcall, letter]
theorem call69 (s : Int) : F69 [.one (.lit (.int .i64 s))] = some ((false, [none]), [.lit (.bool (letter s))]) :=
  con_at (arg := fun s : Int => [.one (.lit (.int .i64 s))]) (by intro a b h; simpa using h) trivial
abbrev A3 (l : List (List (List Int))) : TV := .agg [.sl false 60 (ints3 false 48 l)]
noncomputable def F70 : Con := con (fun p : List (List (List Int)) × Int => [A3 p.1, .one (.lit (.int .i64 p.2))]) (fun p => p.1.length ≤ 140737488355328) (fun p => ((false, [none]), [.lit (.bool (partOf p.1.length p.2))]))
theorem fn70 : Fn Try.prog 70 F70 := by
  refine Fn.con [(54, F54)] (by simp [fn54]) mixed (fn := Try.f70) rfl rfl rfl (by kernel_rfl) 2 (by decide) (fun _ => rfl) (fun _ => ([], 0)) (fun p hp => ⟨1, ?_⟩)
  obtain ⟨l, s⟩ := p
  simp only at hp ⊢
  have hw : IntKind.i64.wrap ((l.length : Int) - 1) = (l.length : Int) - 1 := wrap_id (by omega) (by omega)
  have hcall := call54 s 0 ((l.length : Int) - 1)
  simp (implicitDefEqProofs := false) [told, body, Try.f70, slots, resT, resL, resV, flatT, flatL, shT, sh1, ex_skip, ex_region, ex_seq, thn_norm, thn_exit, thn_ret, ex_cond, iff_bool, ex_block, out_norm, out_ret, out_exit, ex_exit, ex_ret, kept, keep, ro_nil, ro_none, ro_some, gd_true, gd_false, ri_nil, ri_cons, ri_none, wants, runOp, stepOp, ev, ev1, evL, look, lift, putT, stepB, lenV, loadV, rd, ru, vu, wu, rdN, ptrAdd, isAggD, natOf, optN, rowsH, boxOf, seenC, stV, foldL, fold, foldR, putL, TV.cells, evs, rowsIn, partsV, elemsV, fillV, part1, -getElem?_pos, List.getElem?_cons_zero, List.getElem?_cons_succ, und37, Try.underlying42, cells37, cells42, ints3_len, b_sub, hw, tabCal, tabOf, seenTs, seenT, seen, bareT, bare1, landC, unflat, cut, hcall, partOf]
theorem call70 {l : List (List (List Int))} (s : Int) (h : l.length ≤ 140737488355328) : F70 [A3 l, .one (.lit (.int .i64 s))] = some ((false, [none]), [.lit (.bool (partOf l.length s))]) :=
  con_at (arg := fun p : List (List (List Int)) × Int => [A3 p.1, .one (.lit (.int .i64 p.2))]) (a := (l, s)) (by rintro ⟨a, b⟩ ⟨c, d⟩ h; simpa using h) h
noncomputable def F65 : Con := con (fun p : List (List (List Int)) × Int => [A3 p.1, .one (.lit (.int .i64 p.2))]) (fun p => p.1.length ≤ 140737488355328 ∧ p.2 ≤ 9223372036854775807) (fun p => ((false, [none]), [.lit (.bool (sym p.1.length p.2))]))
theorem fn65 : Fn Try.prog 65 F65 := by
  refine Fn.con [(69, F69), (70, F70)] (by simp [fn69, fn70]) mixed (fn := Try.f65) rfl rfl rfl (by kernel_rfl) 2 (by decide) (fun _ => rfl) (fun _ => ([], 0)) (fun p hp => ⟨1, ?_⟩)
  obtain ⟨l, s⟩ := p
  obtain ⟨hp, hs⟩ := hp
  simp only at hp hs ⊢
  have h9 := call69 s
  have h70 := call70 (s - 100) hp
  by_cases hl : letter s = true
  · simp (implicitDefEqProofs := false) [told, body, Try.f65, slots, resT, resL, resV, flatT, flatL, shT, sh1, ex_skip, ex_region, ex_seq, thn_norm, thn_exit, thn_ret, ex_cond, iff_bool, ex_block, out_norm, out_ret, out_exit, ex_exit, ex_ret, kept, keep, ro_nil, ro_none, ro_some, gd_true, gd_false, ri_nil, ri_cons, ri_none, wants, runOp, stepOp, ev, ev1, evL, look, lift, putT, stepB, lenV, loadV, rd, ru, vu, wu, rdN, ptrAdd, isAggD, natOf, optN, rowsH, boxOf, seenC, stV, foldL, fold, foldR, putL, TV.cells, evs, rowsIn, partsV, elemsV, fillV, part1, -getElem?_pos, List.getElem?_cons_zero, List.getElem?_cons_succ, Try.underlying42, cells42, b_geq, b_sub, tabCal, tabOf, seenTs, seenT, seen, bareT, bare1, landC, unflat, cut, h9, hl, sym]
  · have hl : letter s = false := by simpa using hl
    by_cases hc : 100 ≤ s
    · have hw : IntKind.i64.wrap (s - 100) = s - 100 := wrap_id (by omega) (by omega)
      simp (implicitDefEqProofs := false) [told, body, Try.f65, slots, resT, resL, resV, flatT, flatL, shT, sh1, ex_skip, ex_region, ex_seq, thn_norm, thn_exit, thn_ret, ex_cond, iff_bool, ex_block, out_norm, out_ret, out_exit, ex_exit, ex_ret, kept, keep, ro_nil, ro_none, ro_some, gd_true, gd_false, ri_nil, ri_cons, ri_none, wants, runOp, stepOp, ev, ev1, evL, look, lift, putT, stepB, lenV, loadV, rd, ru, vu, wu, rdN, ptrAdd, isAggD, natOf, optN, rowsH, boxOf, seenC, stV, foldL, fold, foldR, putL, TV.cells, evs, rowsIn, partsV, elemsV, fillV, part1, -getElem?_pos, List.getElem?_cons_zero, List.getElem?_cons_succ, Try.underlying42, cells42, b_geq, b_sub, tabCal, tabOf, seenTs, seenT, seenL, seen, bareT, bare1, landC, unflat, cut, h9, h70, hl, hc, hw, sym]
    · simp (implicitDefEqProofs := false) [told, body, Try.f65, slots, resT, resL, resV, flatT, flatL, shT, sh1, ex_skip, ex_region, ex_seq, thn_norm, thn_exit, thn_ret, ex_cond, iff_bool, ex_block, out_norm, out_ret, out_exit, ex_exit, ex_ret, kept, keep, ro_nil, ro_none, ro_some, gd_true, gd_false, ri_nil, ri_cons, ri_none, wants, runOp, stepOp, ev, ev1, evL, look, lift, putT, stepB, lenV, loadV, rd, ru, vu, wu, rdN, ptrAdd, isAggD, natOf, optN, rowsH, boxOf, seenC, stV, foldL, fold, foldR, putL, TV.cells, evs, rowsIn, partsV, elemsV, fillV, part1, -getElem?_pos, List.getElem?_cons_zero, List.getElem?_cons_succ, Try.underlying42, cells42, b_geq, b_sub, tabCal, tabOf, seenTs, seenT, seen, bareT, bare1, landC, unflat, cut, h9, hl, hc, sym]
theorem call65 {l : List (List (List Int))} {s : Int} (h : l.length ≤ 140737488355328) (hs : s ≤ 9223372036854775807) : F65 [A3 l, .one (.lit (.int .i64 s))] = some ((false, [none]), [.lit (.bool (sym l.length s))]) :=
  con_at (arg := fun p : List (List (List Int)) × Int => [A3 p.1, .one (.lit (.int .i64 p.2))]) (a := (l, s)) (by rintro ⟨a, b⟩ ⟨c, d⟩ h; simpa using h) ⟨h, hs⟩
end Go.Proofs.Ytmkpoldhgdbjiaa.Vm

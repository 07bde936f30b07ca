/-
  What laws.toIntS, toIntSS, toIntSSS make: rows of their own.
-/
import Derived.Test.YtmkpoldhgdbjiaaVmFacts
namespace Go.Proofs.Ytmkpoldhgdbjiaa.Vm
open Go Go.RowKit Go.Proofs
set_option linter.unusedVariables false
set_option linter.unusedSimpArgs false
noncomputable def L64 : Code := nav [1,1,0,1,0,0] (bodyOf Try.f64)
def T64 (l : List Int) (ep i : Nat) : St := ⟨[(0, .one (.sl false 3 (ints l))), (3, .one (.ow 1 1)), (4, .one (.lit (.int .i64 i)))], [none, some (.rows 1 1 3 (upTo [.lit (.int .i64 0)] (ints l) i))], ep⟩
def lm64 : Nat → List Nat × Nat := fun _ => ([0, 3, 4], 1)
theorem step64 (cal : Cal) (k ep : Nat) (l : List Int) (i : Nat) (hi : i < l.length) (hl : l.length ≤ 9223372036854775807) :
    kept 1 (lm64 0) (exec Try.prog cal k 1 lm64 0 L64 (T64 l ep i)) = some (.norm, T64 l ep (i + 1)) := by
  have hx : l[i]? = some l[i] := List.getElem?_eq_getElem hi
  have hi' : (i : Int) < l.length := by omega
  have hi2 : i < (ints l).length := by rw [ints_len]; exact hi
  have hlen : (upTo [V.lit (.int .i64 0)] (ints l) i).length = l.length := by rw [upTo_len (by omega), ints_len]
  simp (implicitDefEqProofs := false) [L64, bodyOf, Try.f64, nav, T64, lm64, ex_skip, ex_region, ex_seq, thn_norm, thn_exit, thn_ret, ex_cond, iff_bool, ex_block, out_norm, out_ret, out_exit, ex_exit, ex_ret, kept, keep, ro_nil, ro_none, ro_some, gd_true, gd_false, ri_nil, ri_cons, ri_none, wants, runOp, stepOp, ev, ev1, evL, look, lift, putT, stepB, lenV, loadV, rd, ru, vu, wu, rdN, ptrAdd, isAggD, natOf, optN, rowsH, boxOf, seenC, stV, foldL, fold, foldR, putL, TV.cells, evs, rowsIn, partsV, elemsV, fillV, part1, -getElem?_pos, List.getElem?_cons_zero, List.getElem?_cons_succ, und48, und3, cells3, ints_get hx, upTo_get hi2, ints_len, hlen, b_add, b_lss, hi', wrap_succ hi hl, upTo_set (ints_get hx), hi]
theorem end64 (cal : Cal) (k ep : Nat) (l : List Int) :
    kept 1 (lm64 0) (exec Try.prog cal k 1 lm64 0 L64 (T64 l ep l.length)) = some (.exit 0, T64 l ep l.length) := by
  simp (implicitDefEqProofs := false) [L64, bodyOf, Try.f64, nav, T64, lm64, ex_skip, ex_region, ex_seq, thn_norm, thn_exit, thn_ret, ex_cond, iff_bool, ex_block, out_norm, out_ret, out_exit, ex_exit, ex_ret, kept, keep, ro_nil, ro_none, ro_some, gd_true, gd_false, ri_nil, ri_cons, ri_none, wants, runOp, stepOp, ev, ev1, evL, look, lift, putT, stepB, lenV, loadV, rd, ru, vu, wu, rdN, ptrAdd, isAggD, natOf, optN, rowsH, boxOf, seenC, stV, foldL, fold, foldR, putL, TV.cells, evs, rowsIn, partsV, elemsV, fillV, part1, -getElem?_pos, List.getElem?_cons_zero, List.getElem?_cons_succ, und48, ints_len, b_lss]
theorem upAll {z : List V} {r : List (List V)} {n : Nat} (h : r.length = n) : upTo z r n = r := by subst h; exact upTo_all z r
theorem upZero {z : List V} {r : List (List V)} {n : Nat} (h : r.length = n) : upTo z r 0 = List.replicate n z := by subst h; exact upTo_zero z r
noncomputable def F64 : Con := con (fun l : List Int => [.one (.sl false 3 (ints l))]) (fun l => l.length * 8 ≤ 140737488355328) (fun l => ((false, [none]), [.sl true 3 (ints l)]))
theorem fn64 : Fn Try.prog 64 F64 := by
  refine Fn.con [] (by simp) mixed (fn := Try.f64) rfl rfl rfl (by kernel_rfl) 1 (by decide) (fun _ => rfl) lm64 (fun l hl => ⟨l.length + 1, ?_⟩)
  have hloop : ∀ S, keep 1 (lm64 0) S = T64 l S.ep 0 → exec Try.prog (tabCal (tabOf [])) (l.length + 1) 1 lm64 0 (.loop L64) S = some (.exit 0, T64 l S.ep l.length) := fun S hS =>
    loop_to (T64 l S.ep) l.length (by simp) (by omega) hS (fun i hi => step64 _ _ S.ep l i hi (by omega)) (end64 _ _ S.ep l)
  simp only [L64, bodyOf, Try.f64, nav, Option.getD_some] at hloop
  have h63 : l.length ≤ 9223372036854775807 := by omega
  simp (implicitDefEqProofs := false) [told, body, Try.f64, slots, resT, resL, resV, flatT, flatL, shT, sh1, ex_skip, ex_region, ex_seq, thn_norm, thn_exit, thn_ret, ex_cond, iff_bool, ex_block, out_norm, out_ret, out_exit, ex_exit, ex_ret, kept, keep, ro_nil, ro_none, ro_some, gd_true, gd_false, ri_nil, ri_cons, ri_none, wants, runOp, stepOp, ev, ev1, evL, look, lift, putT, stepB, lenV, loadV, rd, ru, vu, wu, rdN, ptrAdd, isAggD, natOf, optN, rowsH, boxOf, seenC, stV, foldL, fold, foldR, putL, TV.cells, evs, rowsIn, partsV, elemsV, fillV, part1, -getElem?_pos, List.getElem?_cons_zero, List.getElem?_cons_succ, und48, cells3, bytes3, zero3, ints_len, hl, h63, hloop, T64, lm64, upZero (ints_len l), upAll (ints_len l)]

noncomputable def L53 : Code := nav [1,1,0,1,0,0] (bodyOf Try.f53)
def T53 (l : List (List Int)) (ep i : Nat) : St := ⟨[(0, .one (.sl false 48 (ints2 false l))), (3, .one (.ow 1 1)), (4, .one (.lit (.int .i64 i)))], [none, some (.rows 1 1 48 (upTo [.lit (.slice none 0 0)] (ints2 true l) i))], ep + i⟩
theorem call64 {l : List Int} (h : l.length * 8 ≤ 140737488355328) : F64 [.one (.sl false 3 (ints l))] = some ((false, [none]), [.sl true 3 (ints l)]) := con_at (by intro a b h; simpa using h) h
theorem step53 (k ep : Nat) (l : List (List Int)) (i : Nat) (hi : i < l.length) (hl : l.length ≤ 9223372036854775807) (hr : ∀ r ∈ l, r.length * 8 ≤ 140737488355328) :
    kept 1 (lm64 0) (exec Try.prog (tabCal (tabOf [(64, F64)])) k 1 lm64 0 L53 (T53 l ep i)) = some (.norm, T53 l ep (i + 1)) := by
  have hx : l[i]? = some l[i] := List.getElem?_eq_getElem hi
  have hi' : (i : Int) < l.length := by omega
  have hi2 : i < (ints2 true l).length := by rw [ints2_len]; exact hi
  have hlen : (upTo [V.lit (.slice none 0 0)] (ints2 true l) i).length = l.length := by rw [upTo_len (by omega), ints2_len]
  have hc := call64 (hr _ (List.getElem_mem hi))
  simp (implicitDefEqProofs := false) [L53, bodyOf, Try.f53, nav, T53, lm64, ex_skip, ex_region, ex_seq, thn_norm, thn_exit, thn_ret, ex_cond, iff_bool, ex_block, out_norm, out_ret, out_exit, ex_exit, ex_ret, kept, keep, ro_nil, ro_none, ro_some, gd_true, gd_false, ri_nil, ri_cons, ri_none, wants, runOp, stepOp, ev, ev1, evL, look, lift, putT, stepB, lenV, loadV, rd, ru, vu, wu, rdN, ptrAdd, isAggD, natOf, optN, rowsH, boxOf, seenC, stV, foldL, fold, foldR, putL, TV.cells, evs, rowsIn, partsV, elemsV, fillV, part1, -getElem?_pos, List.getElem?_cons_zero, List.getElem?_cons_succ, und48, und60, und3, cells3, cells48, ints2_get hx, upTo_get hi2, ints2_len, hlen, b_add, b_lss, hi', wrap_succ hi hl, upTo_set (ints2_get (own := true) hx), hi, tabCal, tabOf, seenTs, seenT, seen, hc, bareT, bare1, landC, unflat, cut, Nat.add_assoc]
theorem end53 (k ep : Nat) (l : List (List Int)) (cal : Cal) :
    kept 1 (lm64 0) (exec Try.prog cal k 1 lm64 0 L53 (T53 l ep l.length)) = some (.exit 0, T53 l ep l.length) := by
  simp (implicitDefEqProofs := false) [L53, bodyOf, Try.f53, nav, T53, lm64, ex_skip, ex_region, ex_seq, thn_norm, thn_exit, thn_ret, ex_cond, iff_bool, ex_block, out_norm, out_ret, out_exit, ex_exit, ex_ret, kept, keep, ro_nil, ro_none, ro_some, gd_true, gd_false, ri_nil, ri_cons, ri_none, wants, runOp, stepOp, ev, ev1, evL, look, lift, putT, stepB, lenV, loadV, rd, ru, vu, wu, rdN, ptrAdd, isAggD, natOf, optN, rowsH, boxOf, seenC, stV, foldL, fold, foldR, putL, TV.cells, evs, rowsIn, partsV, elemsV, fillV, part1, -getElem?_pos, List.getElem?_cons_zero, List.getElem?_cons_succ, und60, ints2_len, b_lss]
noncomputable def F53 : Con := con (fun l : List (List Int) => [.one (.sl false 48 (ints2 false l))]) (fun l => l.length * 24 ≤ 140737488355328 ∧ ∀ r ∈ l, r.length * 8 ≤ 140737488355328) (fun l => ((false, [none]), [.sl true 48 (ints2 true l)]))
theorem fn53 : Fn Try.prog 53 F53 := by
  refine Fn.con [(64, F64)] (by simp [fn64]) mixed (fn := Try.f53) rfl rfl rfl (by kernel_rfl) 1 (by decide) (fun _ => rfl) lm64 (fun l hl => ⟨l.length + 1, ?_⟩)
  obtain ⟨hl, hr⟩ := hl
  have hloop : ∀ S, keep 1 (lm64 0) S = T53 l S.ep 0 → exec Try.prog (tabCal (tabOf [(64, F64)])) (l.length + 1) 1 lm64 0 (.loop L53) S = some (.exit 0, T53 l S.ep l.length) := fun S hS =>
    loop_to (T53 l S.ep) l.length (by simp) (by omega) hS (fun i hi => step53 _ S.ep l i hi (by omega) hr) (end53 _ S.ep l _)
  simp only [L53, bodyOf, Try.f53, nav, Option.getD_some] at hloop
  have h63 : l.length ≤ 9223372036854775807 := by omega
  simp (implicitDefEqProofs := false) [told, body, Try.f53, slots, resT, resL, resV, flatT, flatL, shT, sh1, ex_skip, ex_region, ex_seq, thn_norm, thn_exit, thn_ret, ex_cond, iff_bool, ex_block, out_norm, out_ret, out_exit, ex_exit, ex_ret, kept, keep, ro_nil, ro_none, ro_some, gd_true, gd_false, ri_nil, ri_cons, ri_none, wants, runOp, stepOp, ev, ev1, evL, look, lift, putT, stepB, lenV, loadV, rd, ru, vu, wu, rdN, ptrAdd, isAggD, natOf, optN, rowsH, boxOf, seenC, stV, foldL, fold, foldR, putL, TV.cells, evs, rowsIn, partsV, elemsV, fillV, part1, -getElem?_pos, List.getElem?_cons_zero, List.getElem?_cons_succ, und60, cells48, bytes48, zero48, ints2_len, hl, h63, hloop, T53, lm64, upZero (ints2_len true l), upAll (ints2_len true l)]

noncomputable def L39 : Code := nav [1,1,0,1,0,0] (bodyOf Try.f39)
def T39 (l : List (List (List Int))) (ep i : Nat) : St := ⟨[(0, .one (.sl false 60 (ints3 false 48 l))), (3, .one (.ow 1 1)), (4, .one (.lit (.int .i64 i)))], [none, some (.rows 1 1 60 (upTo [.lit (.slice none 0 0)] (ints3 true 48 l) i))], ep + i⟩
def ok53 (l : List (List Int)) : Prop := l.length * 24 ≤ 140737488355328 ∧ ∀ r ∈ l, r.length * 8 ≤ 140737488355328
theorem call53 {l : List (List Int)} (h : ok53 l) : F53 [.one (.sl false 48 (ints2 false l))] = some ((false, [none]), [.sl true 48 (ints2 true l)]) := con_at (by intro a b h; simpa using h) h
theorem step39 (k ep : Nat) (l : List (List (List Int))) (i : Nat) (hi : i < l.length) (hl : l.length ≤ 9223372036854775807) (hr : ∀ r ∈ l, ok53 r) :
    kept 1 (lm64 0) (exec Try.prog (tabCal (tabOf [(53, F53)])) k 1 lm64 0 L39 (T39 l ep i)) = some (.norm, T39 l ep (i + 1)) := by
  have hx : l[i]? = some l[i] := List.getElem?_eq_getElem hi
  have hi' : (i : Int) < l.length := by omega
  have hi2 : i < (ints3 true 48 l).length := by rw [ints3_len]; exact hi
  have hlen : (upTo [V.lit (.slice none 0 0)] (ints3 true 48 l) i).length = l.length := by rw [upTo_len (by omega), ints3_len]
  have hc := call53 (hr _ (List.getElem_mem hi))
  simp (implicitDefEqProofs := false) [L39, bodyOf, Try.f39, nav, T39, lm64, ex_skip, ex_region, ex_seq, thn_norm, thn_exit, thn_ret, ex_cond, iff_bool, ex_block, out_norm, out_ret, out_exit, ex_exit, ex_ret, kept, keep, ro_nil, ro_none, ro_some, gd_true, gd_false, ri_nil, ri_cons, ri_none, wants, runOp, stepOp, ev, ev1, evL, look, lift, putT, stepB, lenV, loadV, rd, ru, vu, wu, rdN, ptrAdd, isAggD, natOf, optN, rowsH, boxOf, seenC, stV, foldL, fold, foldR, putL, TV.cells, evs, rowsIn, partsV, elemsV, fillV, part1, -getElem?_pos, List.getElem?_cons_zero, List.getElem?_cons_succ, und48, und60, und37, und3, cells3, cells48, cells60, ints3_get hx, upTo_get hi2, ints3_len, hlen, b_add, b_lss, hi', wrap_succ hi hl, upTo_set (ints3_get (own := true) (e := 48) hx), hi, tabCal, tabOf, seenTs, seenT, seen, hc, bareT, bare1, landC, unflat, cut, Nat.add_assoc]
theorem end39 (k ep : Nat) (l : List (List (List Int))) (cal : Cal) :
    kept 1 (lm64 0) (exec Try.prog cal k 1 lm64 0 L39 (T39 l ep l.length)) = some (.exit 0, T39 l ep l.length) := by
  simp (implicitDefEqProofs := false) [L39, bodyOf, Try.f39, nav, T39, lm64, ex_skip, ex_region, ex_seq, thn_norm, thn_exit, thn_ret, ex_cond, iff_bool, ex_block, out_norm, out_ret, out_exit, ex_exit, ex_ret, kept, keep, ro_nil, ro_none, ro_some, gd_true, gd_false, ri_nil, ri_cons, ri_none, wants, runOp, stepOp, ev, ev1, evL, look, lift, putT, stepB, lenV, loadV, rd, ru, vu, wu, rdN, ptrAdd, isAggD, natOf, optN, rowsH, boxOf, seenC, stV, foldL, fold, foldR, putL, TV.cells, evs, rowsIn, partsV, elemsV, fillV, part1, -getElem?_pos, List.getElem?_cons_zero, List.getElem?_cons_succ, und37, ints3_len, b_lss]
def ok39 (l : List (List (List Int))) : Prop := l.length * 24 ≤ 140737488355328 ∧ ∀ r ∈ l, ok53 r
noncomputable def F39 : Con := con (fun l : List (List (List Int)) => [.one (.sl false 60 (ints3 false 48 l))]) ok39 (fun l => ((false, [none]), [.sl true 60 (ints3 true 48 l)]))
theorem fn39 : Fn Try.prog 39 F39 := by
  refine Fn.con [(53, F53)] (by simp [fn53]) mixed (fn := Try.f39) rfl rfl rfl (by kernel_rfl) 1 (by decide) (fun _ => rfl) lm64 (fun l hl => ⟨l.length + 1, ?_⟩)
  obtain ⟨hl, hr⟩ := hl
  have hloop : ∀ S, keep 1 (lm64 0) S = T39 l S.ep 0 → exec Try.prog (tabCal (tabOf [(53, F53)])) (l.length + 1) 1 lm64 0 (.loop L39) S = some (.exit 0, T39 l S.ep l.length) := fun S hS =>
    loop_to (T39 l S.ep) l.length (by simp) (by omega) hS (fun i hi => step39 _ S.ep l i hi (by omega) hr) (end39 _ S.ep l _)
  simp only [L39, bodyOf, Try.f39, nav, Option.getD_some] at hloop
  have h63 : l.length ≤ 9223372036854775807 := by omega
  simp (implicitDefEqProofs := false) [told, body, Try.f39, slots, resT, resL, resV, flatT, flatL, shT, sh1, ex_skip, ex_region, ex_seq, thn_norm, thn_exit, thn_ret, ex_cond, iff_bool, ex_block, out_norm, out_ret, out_exit, ex_exit, ex_ret, kept, keep, ro_nil, ro_none, ro_some, gd_true, gd_false, ri_nil, ri_cons, ri_none, wants, runOp, stepOp, ev, ev1, evL, look, lift, putT, stepB, lenV, loadV, rd, ru, vu, wu, rdN, ptrAdd, isAggD, natOf, optN, rowsH, boxOf, seenC, stV, foldL, fold, foldR, putL, TV.cells, evs, rowsIn, partsV, elemsV, fillV, part1, -getElem?_pos, List.getElem?_cons_zero, List.getElem?_cons_succ, und37, cells60, bytes60, zero60, ints3_len, hl, h63, hloop, T39, lm64, upZero (ints3_len true 48 l), upAll (ints3_len true 48 l)]
theorem call39 {l : List (List (List Int))} (h : ok39 l) : F39 [.one (.sl false 60 (ints3 false 48 l))] = some ((false, [none]), [.sl true 60 (ints3 true 48 l)]) := con_at (by intro a b h; simpa using h) h
noncomputable def F20 : Con := con (fun l : List (List (List Int)) => [.agg [.sl false 60 (ints3 false 48 l)]]) ok39 (fun l => ((false, [some 1]), [.sl true 60 (ints3 true 48 l)]))
theorem fn20 : Fn Try.prog 20 F20 := by
  refine Fn.con [(39, F39)] (by simp [fn39]) mixed (fn := Try.f20) rfl rfl rfl (by kernel_rfl) 1 (by decide) (fun _ => rfl) lm64 (fun l hl => ⟨1, ?_⟩)
  have hc := call39 hl
  simp (implicitDefEqProofs := false) [told, body, Try.f20, slots, resT, resL, resV, flatT, flatL, shT, sh1, ex_skip, ex_region, ex_seq, thn_norm, thn_exit, thn_ret, ex_cond, iff_bool, ex_block, out_norm, out_ret, out_exit, ex_exit, ex_ret, kept, keep, ro_nil, ro_none, ro_some, gd_true, gd_false, ri_nil, ri_cons, ri_none, wants, runOp, stepOp, ev, ev1, evL, look, lift, putT, stepB, lenV, loadV, rd, ru, vu, wu, rdN, ptrAdd, isAggD, natOf, optN, rowsH, boxOf, seenC, stV, foldL, fold, foldR, putL, TV.cells, evs, rowsIn, partsV, elemsV, fillV, part1, -getElem?_pos, List.getElem?_cons_zero, List.getElem?_cons_succ, und37, Try.underlying39, Try.underlying42, cells37, cells39, cells42, zero42, hc, tabCal, tabOf, seenTs, seenT, seen, bareT, bare1, landC, unflat, cut]
end Go.Proofs.Ytmkpoldhgdbjiaa.Vm

/-
  Whether a grammar is in order: spec.GramOk.
-/
import Derived.Test.YtmkpoldhgdbjiaaVmOk
import Derived.Test.YtmkpoldhgdbjiaaVmScan
namespace Go.Proofs.Ytmkpoldhgdbjiaa.Vm
open Go Go.RowKit Go.Proofs
set_option linter.unusedVariables false
set_option linter.unusedSimpArgs false
set_option maxHeartbeats 4000000
theorem nav_nil (c : Code) : nav [] c = c := by cases c <;> rfl
theorem nav_s0 (r : List Nat) (x y : Code) : nav (0 :: r) (.seq x y) = nav r x := rfl
theorem nav_s1 (r : List Nat) (x y : Code) : nav (1 :: r) (.seq x y) = nav r y := rfl
theorem nav_b (r : List Nat) (i : Nat) (c : Code) : nav (0 :: r) (.block i c) = nav r c := rfl
theorem nav_l (r : List Nat) (c : Code) : nav (0 :: r) (.loop c) = nav r c := rfl
def far (n : Nat) (s : Int) : Bool := decide (100 ≤ s) && decide (s ≤ 100 + (n : Int) - 1)
theorem sym_far (n : Nat) (s : Int) : sym n s = (letter s || far n s) := by
  have : (decide (100 ≤ s) && partOf n (s - 100)) = far n s := by
    unfold partOf far
    rw [Bool.eq_iff_iff]
    simp only [Bool.and_eq_true, decide_eq_true_eq]
    omega
  rw [sym, this]
noncomputable def L38 : Code := nav [1,1,1,0,1,0,0] (bodyOf Try.f38)
noncomputable def M38 : Code := nav [1,0,0,1,1,0,0] L38
noncomputable def N38 : Code := nav [1,0,0,1,1,1,0,0] M38
def lm38 : Nat → List Nat × Nat := fun b => if b = 0 then ([1, 2, 3, 4], 1) else if b = 2 then ([1, 2, 3, 4, 5], 1) else ([1, 2, 3, 4, 5, 6, 7], 1)
noncomputable def C38 : Cal := tabCal (tabOf [(52, F52)])
def W38 (l : List (List (List Int))) (k i : Nat) (r : List Int) (s : Nat × Nat) : St := ⟨[(1, .one (.bp 1 1 0)), (2, .one (.lit (.bool false))), (3, .one (.lit (.int .i64 l.length))), (4, .one (.lit (.int .i64 k))), (5, .one (.lit (.int .i64 i))), (6, .one (.sl false 3 (ints r))), (7, .one (.lit (.int .i64 s.1)))], [none, some (.box 1 [.sl false 60 (ints3 false 48 l)])], s.2⟩
theorem in38 {l : List (List (List Int))} {r : List Int} {k i j ep q : Nat} (hj : j < r.length) (hl : l.length ≤ 140737488355328) (hr : r.length ≤ 140737488355328) :
    kept 1 (lm38 4) (exec Try.prog C38 q 1 lm38 4 N38 (W38 l k i r (j, ep))) = if letter r[j] then some (.norm, W38 l k i r (j + 1, ep + 1)) else if far l.length r[j] then some (.norm, W38 l k i r (j + 1, ep + 2)) else some (.ret, W38 l k i r (j, ep + 2)) := by
  have hx : r[j]? = some r[j] := List.getElem?_eq_getElem hj
  have hj' : (j : Int) < r.length := by omega
  have hw := wrap_succ hj (by omega)
  have hw1 : IntKind.i64.wrap (100 + (l.length : Int)) = 100 + l.length := wrap_id (by omega) (by omega)
  have hw2 : IntKind.i64.wrap (100 + (l.length : Int) - 1) = 100 + l.length - 1 := wrap_id (by omega) (by omega)
  have hc1 := call52 r[j] 0 25
  have hc2 := call52 r[j] 100 (100 + l.length - 1)
  unfold letter far
  generalize hq1 : (decide (0 ≤ r[j]) && decide (r[j] ≤ 25)) = q1 at hc1
  generalize hq2 : (decide (100 ≤ r[j]) && decide (r[j] ≤ 100 + (l.length : Int) - 1)) = q2 at hc2
  dsimp only [N38, M38, L38, bodyOf, Try.f38, nav_s0, nav_s1, nav_b, nav_l, Option.getD_some]
  simp only [nav_nil, nav_s0, nav_s1, nav_b, nav_l]
  cases q1 <;> cases q2 <;> simp (implicitDefEqProofs := false) [W38, lm38, C38, ex_skip, ex_region, ex_seq, thn_norm, thn_exit, thn_ret, ex_cond, iff_bool, ex_block, out_norm, out_ret, out_exit, ex_exit, ex_ret, kept, keep, ro_nil, ro_none, ro_some, gd_true, gd_false, ri_nil, ri_cons, ri_none, wants, runOp, stepOp, ev, ev1, evL, look, lift, putT, stepB, lenV, loadV, rd, ru, vu, wu, rdN, ptrAdd, isAggD, natOf, optN, rowsH, boxOf, seenC, stV, foldL, fold, foldR, putL, TV.cells, evs, rowsIn, partsV, elemsV, fillV, part1, -getElem?_pos, List.getElem?_cons_zero, List.getElem?_cons_succ, cells3, cells48, cells60, cells37, cells39, cells42, und3, und48, und60, und37, Try.underlying42, ints_len, ints2_len, ints3_len, b_add, b_sub, b_mul, b_lss, b_leq, b_gtr, b_geq, b_eql, b_neq, u_not, tabCal, tabOf, seenTs, seenT, seenL, seen, bareT, bare1, landC, unflat, cut, Nat.add_assoc, ints_get hx, hj', hj, hw, hw1, hw2, hc1, hc2]
theorem inEnd38 {l : List (List (List Int))} {r : List Int} {k i ep q : Nat} {cal : Cal} :
    kept 1 (lm38 4) (exec Try.prog cal q 1 lm38 4 N38 (W38 l k i r (r.length, ep))) = some (.exit 4, W38 l k i r (r.length, ep)) := by
  dsimp only [N38, M38, L38, bodyOf, Try.f38, nav_s0, nav_s1, nav_b, nav_l, Option.getD_some]
  simp only [nav_nil, nav_s0, nav_s1, nav_b, nav_l]
  simp (implicitDefEqProofs := false) [W38, lm38, ex_skip, ex_region, ex_seq, thn_norm, thn_exit, thn_ret, ex_cond, iff_bool, ex_block, out_norm, out_ret, out_exit, ex_exit, ex_ret, kept, keep, ro_nil, ro_none, ro_some, gd_true, gd_false, ri_nil, ri_cons, ri_none, wants, runOp, stepOp, ev, ev1, evL, look, lift, putT, stepB, lenV, loadV, rd, ru, vu, wu, rdN, ptrAdd, isAggD, natOf, optN, rowsH, boxOf, seenC, stV, foldL, fold, foldR, putL, TV.cells, evs, rowsIn, partsV, elemsV, fillV, part1, -getElem?_pos, List.getElem?_cons_zero, List.getElem?_cons_succ, cells3, cells48, cells60, cells37, cells39, cells42, und3, und48, und60, und37, Try.underlying42, ints_len, ints2_len, ints3_len, b_add, b_sub, b_mul, b_lss, b_leq, b_gtr, b_geq, b_eql, b_neq, u_not, tabCal, tabOf, seenTs, seenT, seenL, seen, bareT, bare1, landC, unflat, cut, Nat.add_assoc, ]
abbrev bad2 (x : X) (S' : St) : Prop := x = .ret ∧ look S'.tm 2 = some (.one (.lit (.bool false)))
theorem inLoop38 {l : List (List (List Int))} {r : List Int} {k i q : Nat} (e : Nat) (hl : l.length ≤ 140737488355328) (hr : r.length ≤ 140737488355328) (hk : r.length < q) :
    ∃ x S', loopAt Try.prog C38 q 1 lm38 4 N38 (W38 l k i r (0, e)) = some (x, S') ∧ if r.all (sym l.length) then x = .exit 4 ∧ ∃ e', S' = W38 l k i r (r.length, e') else x ≠ .norm ∧ bad2 x S' := by
  refine scan r (sym l.length) (W38 l k i r) bad2 (fun j e hj => ?_) (fun e => inEnd38) e (by simp [keep, lm38, W38, look]) hk
  have hst := in38 (l := l) (k := k) (i := i) (ep := e) (q := q) hj hl hr
  rw [sym_far]
  cases h1 : letter r[j] <;> cases h2 : far l.length r[j] <;> rw [h1, h2] at hst
  · exact ⟨_, _, hst, by simp, rfl, by simp [W38, look]⟩
  · exact ⟨_, hst⟩
  · exact ⟨_, hst⟩
  · exact ⟨_, hst⟩
def V38 (l : List (List (List Int))) (k : Nat) (s : Nat × Nat) : St := ⟨[(1, .one (.bp 1 1 0)), (2, .one (.lit (.bool false))), (3, .one (.lit (.int .i64 l.length))), (4, .one (.lit (.int .i64 k))), (5, .one (.lit (.int .i64 s.1)))], [none, some (.box 1 [.sl false 60 (ints3 false 48 l)])], s.2⟩
theorem mid38 {l : List (List (List Int))} {k i ep q : Nat} (hk : k < l.length) (hi : i < l[k].length) (hl : l.length ≤ 140737488355328) (ha : l[k].length ≤ 140737488355328) (hr : l[k][i].length ≤ 140737488355328) (hq : l[k][i].length < q) :
    if rowOk l.length l[k][i] then ∃ e', kept 1 (lm38 2) (exec Try.prog C38 q 1 lm38 2 M38 (V38 l k (i, ep))) = some (.norm, V38 l k (i + 1, e')) else ∃ x S', kept 1 (lm38 2) (exec Try.prog C38 q 1 lm38 2 M38 (V38 l k (i, ep))) = some (x, S') ∧ x ≠ .norm ∧ bad2 x S' := by
  have hx : l[k]? = some l[k] := List.getElem?_eq_getElem hk
  have hy : l[k][i]? = some l[k][i] := List.getElem?_eq_getElem hi
  have hk' : (k : Int) < l.length := by omega
  have hi' : (i : Int) < l[k].length := by omega
  have hw := wrap_succ hi (by omega)
  by_cases h8 : (l[k][i].length : Int) > 8
  · have : rowOk l.length l[k][i] = false := by simp [rowOk]; omega
    rw [this]
    refine ⟨.ret, V38 l k (i, ep), ?_, by simp, rfl, by simp [V38, look]⟩
    simp (implicitDefEqProofs := false) [M38, L38, bodyOf, Try.f38, nav, V38, lm38, C38, ex_skip, ex_region, ex_seq, thn_norm, thn_exit, thn_ret, ex_cond, iff_bool, ex_block, out_norm, out_ret, out_exit, ex_exit, ex_ret, kept, keep, ro_nil, ro_none, ro_some, gd_true, gd_false, ri_nil, ri_cons, ri_none, wants, runOp, stepOp, ev, ev1, evL, look, lift, putT, stepB, lenV, loadV, rd, ru, vu, wu, rdN, ptrAdd, isAggD, natOf, optN, rowsH, boxOf, seenC, stV, foldL, fold, foldR, putL, TV.cells, evs, rowsIn, partsV, elemsV, fillV, part1, -getElem?_pos, List.getElem?_cons_zero, List.getElem?_cons_succ, cells3, cells48, cells60, cells37, cells39, cells42, und3, und48, und60, und37, Try.underlying42, ints_len, ints2_len, ints3_len, b_add, b_sub, b_mul, b_lss, b_leq, b_gtr, b_geq, b_eql, b_neq, u_not, tabCal, tabOf, seenTs, seenT, seenL, seen, bareT, bare1, landC, unflat, cut, Nat.add_assoc, ints3_get hx, ints2_get hy, hi', hi, hk, h8]
  · have h8' : (l[k][i].length : Int) ≤ 8 := by omega
    obtain ⟨x, S', hloop, hR⟩ := inLoop38 (l := l) (r := l[k][i]) (k := k) (i := i) (q := q) ep hl hr hq
    have : rowOk l.length l[k][i] = l[k][i].all (sym l.length) := by unfold rowOk; simp [h8']
    rw [this]
    simp [N38, M38, L38, bodyOf, Try.f38, nav, W38, C38, tabOf] at hloop
    cases hall : l[k][i].all (sym l.length)
    · rw [hall] at hR
      obtain ⟨hn, rfl, hlook⟩ := hR
      refine ⟨.ret, keep 1 (lm38 2) S', ?_, by simp, rfl, ?_⟩
      · simp (implicitDefEqProofs := false) [M38, L38, bodyOf, Try.f38, nav, V38, lm38, C38, ex_skip, ex_region, ex_seq, thn_norm, thn_exit, thn_ret, ex_cond, iff_bool, ex_block, out_norm, out_ret, out_exit, ex_exit, ex_ret, kept, keep, ro_nil, ro_none, ro_some, gd_true, gd_false, ri_nil, ri_cons, ri_none, wants, runOp, stepOp, ev, ev1, evL, look, lift, putT, stepB, lenV, loadV, rd, ru, vu, wu, rdN, ptrAdd, isAggD, natOf, optN, rowsH, boxOf, seenC, stV, foldL, fold, foldR, putL, TV.cells, evs, rowsIn, partsV, elemsV, fillV, part1, -getElem?_pos, List.getElem?_cons_zero, List.getElem?_cons_succ, cells3, cells48, cells60, cells37, cells39, cells42, und3, und48, und60, und37, Try.underlying42, ints_len, ints2_len, ints3_len, b_add, b_sub, b_mul, b_lss, b_leq, b_gtr, b_geq, b_eql, b_neq, u_not, tabCal, tabOf, seenTs, seenT, seenL, seen, bareT, bare1, landC, unflat, cut, Nat.add_assoc, ints3_get hx, ints2_get hy, hi', hi, hk, h8, ex_loop, hloop]
      · simp only [keep]
        rw [look_filter, if_pos (by simp [lm38])]
        exact hlook
    · rw [hall] at hR
      obtain ⟨rfl, e', rfl⟩ := hR
      refine ⟨e', ?_⟩
      simp only [W38] at hloop
      simp (implicitDefEqProofs := false) [M38, L38, bodyOf, Try.f38, nav, V38, lm38, C38, ex_skip, ex_region, ex_seq, thn_norm, thn_exit, thn_ret, ex_cond, iff_bool, ex_block, out_norm, out_ret, out_exit, ex_exit, ex_ret, kept, keep, ro_nil, ro_none, ro_some, gd_true, gd_false, ri_nil, ri_cons, ri_none, wants, runOp, stepOp, ev, ev1, evL, look, lift, putT, stepB, lenV, loadV, rd, ru, vu, wu, rdN, ptrAdd, isAggD, natOf, optN, rowsH, boxOf, seenC, stV, foldL, fold, foldR, putL, TV.cells, evs, rowsIn, partsV, elemsV, fillV, part1, -getElem?_pos, List.getElem?_cons_zero, List.getElem?_cons_succ, cells3, cells48, cells60, cells37, cells39, cells42, und3, und48, und60, und37, Try.underlying42, ints_len, ints2_len, ints3_len, b_add, b_sub, b_mul, b_lss, b_leq, b_gtr, b_geq, b_eql, b_neq, u_not, tabCal, tabOf, seenTs, seenT, seenL, seen, bareT, bare1, landC, unflat, cut, Nat.add_assoc, ints3_get hx, ints2_get hy, hi', hi, hk, h8, ex_loop, hloop, hw]
theorem midEnd38 {l : List (List (List Int))} {k ep q : Nat} {cal : Cal} (hk : k < l.length) :
    kept 1 (lm38 2) (exec Try.prog cal q 1 lm38 2 M38 (V38 l k (l[k].length, ep))) = some (.exit 2, V38 l k (l[k].length, ep)) := by
  have hx : l[k]? = some l[k] := List.getElem?_eq_getElem hk
  simp (implicitDefEqProofs := false) [M38, L38, bodyOf, Try.f38, nav, V38, lm38, ex_skip, ex_region, ex_seq, thn_norm, thn_exit, thn_ret, ex_cond, iff_bool, ex_block, out_norm, out_ret, out_exit, ex_exit, ex_ret, kept, keep, ro_nil, ro_none, ro_some, gd_true, gd_false, ri_nil, ri_cons, ri_none, wants, runOp, stepOp, ev, ev1, evL, look, lift, putT, stepB, lenV, loadV, rd, ru, vu, wu, rdN, ptrAdd, isAggD, natOf, optN, rowsH, boxOf, seenC, stV, foldL, fold, foldR, putL, TV.cells, evs, rowsIn, partsV, elemsV, fillV, part1, -getElem?_pos, List.getElem?_cons_zero, List.getElem?_cons_succ, cells3, cells48, cells60, cells37, cells39, cells42, und3, und48, und60, und37, Try.underlying42, ints_len, ints2_len, ints3_len, b_add, b_sub, b_mul, b_lss, b_leq, b_gtr, b_geq, b_eql, b_neq, u_not, tabCal, tabOf, seenTs, seenT, seenL, seen, bareT, bare1, landC, unflat, cut, Nat.add_assoc, ints3_get hx, hk]
theorem midLoop38 {l : List (List (List Int))} {k q : Nat} (e : Nat) (hk : k < l.length) (hl : l.length ≤ 140737488355328) (ha : okA l[k]) (hq : 140737488355328 < q) :
    ∃ x S', loopAt Try.prog C38 q 1 lm38 2 M38 (V38 l k (0, e)) = some (x, S') ∧ if l[k].all (rowOk l.length) then x = .exit 2 ∧ ∃ e', S' = V38 l k (l[k].length, e') else x ≠ .norm ∧ bad2 x S' := by
  refine scan l[k] (rowOk l.length) (V38 l k) bad2 (fun j e hj => ?_) (fun e => midEnd38 hk) e (by simp [keep, lm38, V38, look]) (by have := ha.1; omega)
  have := (ha.2 _ (List.getElem_mem hj)).1
  exact mid38 hk hj hl ha.1 this (by omega)
def U38 (l : List (List (List Int))) (s : Nat × Nat) : St := ⟨[(1, .one (.bp 1 1 0)), (2, .one (.lit (.bool false))), (3, .one (.lit (.int .i64 l.length))), (4, .one (.lit (.int .i64 s.1)))], [none, some (.box 1 [.sl false 60 (ints3 false 48 l)])], s.2⟩
theorem out38 {l : List (List (List Int))} {k ep q : Nat} (hk : k < l.length) (hl : l.length ≤ 140737488355328) (ha : okA l[k]) (hq : 140737488355328 < q) :
    if altOk l.length l[k] then ∃ e', kept 1 (lm38 0) (exec Try.prog C38 q 1 lm38 0 L38 (U38 l (k, ep))) = some (.norm, U38 l (k + 1, e')) else ∃ x S', kept 1 (lm38 0) (exec Try.prog C38 q 1 lm38 0 L38 (U38 l (k, ep))) = some (x, S') ∧ x ≠ .norm ∧ bad2 x S' := by
  have hx : l[k]? = some l[k] := List.getElem?_eq_getElem hk
  have hk' : (k : Int) < l.length := by omega
  have hw := wrap_succ hk (by omega)
  have hcall := call52 l[k].length 1 8
  unfold altOk
  generalize hq1 : (decide (1 ≤ (l[k].length : Int)) && decide ((l[k].length : Int) ≤ 8)) = q1 at hcall
  cases q1
  · refine ⟨.ret, U38 l (k, ep + 1), ?_, by simp, rfl, by simp [U38, look]⟩
    simp (implicitDefEqProofs := false) [L38, bodyOf, Try.f38, nav, U38, lm38, C38, ex_skip, ex_region, ex_seq, thn_norm, thn_exit, thn_ret, ex_cond, iff_bool, ex_block, out_norm, out_ret, out_exit, ex_exit, ex_ret, kept, keep, ro_nil, ro_none, ro_some, gd_true, gd_false, ri_nil, ri_cons, ri_none, wants, runOp, stepOp, ev, ev1, evL, look, lift, putT, stepB, lenV, loadV, rd, ru, vu, wu, rdN, ptrAdd, isAggD, natOf, optN, rowsH, boxOf, seenC, stV, foldL, fold, foldR, putL, TV.cells, evs, rowsIn, partsV, elemsV, fillV, part1, -getElem?_pos, List.getElem?_cons_zero, List.getElem?_cons_succ, cells3, cells48, cells60, cells37, cells39, cells42, und3, und48, und60, und37, Try.underlying42, ints_len, ints2_len, ints3_len, b_add, b_sub, b_mul, b_lss, b_leq, b_gtr, b_geq, b_eql, b_neq, u_not, tabCal, tabOf, seenTs, seenT, seenL, seen, bareT, bare1, landC, unflat, cut, Nat.add_assoc, ints3_get hx, hk', hk, hw, hcall]
  · obtain ⟨x, S', hloop, hR⟩ := midLoop38 (ep + 1) hk hl ha hq
    rw [Bool.true_and]
    simp [M38, L38, bodyOf, Try.f38, nav, V38, C38, tabOf] at hloop
    cases hall : l[k].all (rowOk l.length)
    · rw [hall] at hR
      obtain ⟨hn, rfl, hlook⟩ := hR
      refine ⟨.ret, keep 1 (lm38 0) S', ?_, by simp, rfl, ?_⟩
      · simp (implicitDefEqProofs := false) [L38, bodyOf, Try.f38, nav, U38, lm38, C38, ex_skip, ex_region, ex_seq, thn_norm, thn_exit, thn_ret, ex_cond, iff_bool, ex_block, out_norm, out_ret, out_exit, ex_exit, ex_ret, kept, keep, ro_nil, ro_none, ro_some, gd_true, gd_false, ri_nil, ri_cons, ri_none, wants, runOp, stepOp, ev, ev1, evL, look, lift, putT, stepB, lenV, loadV, rd, ru, vu, wu, rdN, ptrAdd, isAggD, natOf, optN, rowsH, boxOf, seenC, stV, foldL, fold, foldR, putL, TV.cells, evs, rowsIn, partsV, elemsV, fillV, part1, -getElem?_pos, List.getElem?_cons_zero, List.getElem?_cons_succ, cells3, cells48, cells60, cells37, cells39, cells42, und3, und48, und60, und37, Try.underlying42, ints_len, ints2_len, ints3_len, b_add, b_sub, b_mul, b_lss, b_leq, b_gtr, b_geq, b_eql, b_neq, u_not, tabCal, tabOf, seenTs, seenT, seenL, seen, bareT, bare1, landC, unflat, cut, Nat.add_assoc, ints3_get hx, hk', hk, hw, hcall, ex_loop, hloop]
      · simp only [keep]
        rw [look_filter, if_pos (by simp [lm38])]
        exact hlook
    · rw [hall] at hR
      obtain ⟨rfl, e', rfl⟩ := hR
      refine ⟨e', ?_⟩
      simp only [V38] at hloop
      simp (implicitDefEqProofs := false) [L38, bodyOf, Try.f38, nav, U38, lm38, C38, ex_skip, ex_region, ex_seq, thn_norm, thn_exit, thn_ret, ex_cond, iff_bool, ex_block, out_norm, out_ret, out_exit, ex_exit, ex_ret, kept, keep, ro_nil, ro_none, ro_some, gd_true, gd_false, ri_nil, ri_cons, ri_none, wants, runOp, stepOp, ev, ev1, evL, look, lift, putT, stepB, lenV, loadV, rd, ru, vu, wu, rdN, ptrAdd, isAggD, natOf, optN, rowsH, boxOf, seenC, stV, foldL, fold, foldR, putL, TV.cells, evs, rowsIn, partsV, elemsV, fillV, part1, -getElem?_pos, List.getElem?_cons_zero, List.getElem?_cons_succ, cells3, cells48, cells60, cells37, cells39, cells42, und3, und48, und60, und37, Try.underlying42, ints_len, ints2_len, ints3_len, b_add, b_sub, b_mul, b_lss, b_leq, b_gtr, b_geq, b_eql, b_neq, u_not, tabCal, tabOf, seenTs, seenT, seenL, seen, bareT, bare1, landC, unflat, cut, Nat.add_assoc, ints3_get hx, hk', hk, hw, hcall, ex_loop, hloop]
theorem outEnd38 {l : List (List (List Int))} {ep q : Nat} {cal : Cal} :
    kept 1 (lm38 0) (exec Try.prog cal q 1 lm38 0 L38 (U38 l (l.length, ep))) = some (.exit 0, U38 l (l.length, ep)) := by
  simp (implicitDefEqProofs := false) [L38, bodyOf, Try.f38, nav, U38, lm38, ex_skip, ex_region, ex_seq, thn_norm, thn_exit, thn_ret, ex_cond, iff_bool, ex_block, out_norm, out_ret, out_exit, ex_exit, ex_ret, kept, keep, ro_nil, ro_none, ro_some, gd_true, gd_false, ri_nil, ri_cons, ri_none, wants, runOp, stepOp, ev, ev1, evL, look, lift, putT, stepB, lenV, loadV, rd, ru, vu, wu, rdN, ptrAdd, isAggD, natOf, optN, rowsH, boxOf, seenC, stV, foldL, fold, foldR, putL, TV.cells, evs, rowsIn, partsV, elemsV, fillV, part1, -getElem?_pos, List.getElem?_cons_zero, List.getElem?_cons_succ, cells3, cells48, cells60, cells37, cells39, cells42, und3, und48, und60, und37, Try.underlying42, ints_len, ints2_len, ints3_len, b_add, b_sub, b_mul, b_lss, b_leq, b_gtr, b_geq, b_eql, b_neq, u_not, tabCal, tabOf, seenTs, seenT, seenL, seen, bareT, bare1, landC, unflat, cut, Nat.add_assoc, ]
theorem outLoop38 {l : List (List (List Int))} {q : Nat} (e : Nat) (hl : okG l) (hq : 140737488355328 < q) :
    ∃ x S', loopAt Try.prog C38 q 1 lm38 0 L38 (U38 l (0, e)) = some (x, S') ∧ if l.all (altOk l.length) then x = .exit 0 ∧ ∃ e', S' = U38 l (l.length, e') else x ≠ .norm ∧ bad2 x S' := by
  refine scan l (altOk l.length) (U38 l) bad2 (fun j e hj => ?_) (fun e => outEnd38) e (by simp [keep, lm38, U38, look]) (by have := hl.1; omega)
  exact out38 hj hl.1 (hl.2 _ (List.getElem_mem hj)) hq
noncomputable def F38 : Con := con (fun l : List (List (List Int)) => [A3 l]) okG (fun l => ((false, [none]), [.lit (.bool (gramOk l))]))
theorem fn38 : Fn Try.prog 38 F38 := by
  refine Fn.con [(52, F52)] (by simp [fn52]) mixed (fn := Try.f38) rfl rfl rfl (by kernel_rfl) 1 (by decide) (fun _ => rfl) lm38 (fun l hl => ⟨140737488355329, ?_⟩)
  have hcall := call52 l.length 1 20
  unfold gramOk
  generalize hq1 : (decide (1 ≤ (l.length : Int)) && decide ((l.length : Int) ≤ 20)) = q1 at hcall
  cases q1
  · simp (implicitDefEqProofs := false) [Try.f38, slots, resT, resL, resV, flatT, flatL, shT, sh1, told, body, ex_skip, ex_region, ex_seq, thn_norm, thn_exit, thn_ret, ex_cond, iff_bool, ex_block, out_norm, out_ret, out_exit, ex_exit, ex_ret, kept, keep, ro_nil, ro_none, ro_some, gd_true, gd_false, ri_nil, ri_cons, ri_none, wants, runOp, stepOp, ev, ev1, evL, look, lift, putT, stepB, lenV, loadV, rd, ru, vu, wu, rdN, ptrAdd, isAggD, natOf, optN, rowsH, boxOf, seenC, stV, foldL, fold, foldR, putL, TV.cells, evs, rowsIn, partsV, elemsV, fillV, part1, -getElem?_pos, List.getElem?_cons_zero, List.getElem?_cons_succ, cells3, cells48, cells60, cells37, cells39, cells42, und3, und48, und60, und37, Try.underlying42, ints_len, ints2_len, ints3_len, b_add, b_sub, b_mul, b_lss, b_leq, b_gtr, b_geq, b_eql, b_neq, u_not, tabCal, tabOf, seenTs, seenT, seenL, seen, bareT, bare1, landC, unflat, cut, Nat.add_assoc, hcall]
  · obtain ⟨x, S', hloop, hR⟩ := outLoop38 (q := 140737488355329) 3 hl (by omega)
    rw [Bool.true_and]
    simp [L38, bodyOf, Try.f38, nav, U38, C38, tabOf] at hloop
    cases hall : l.all (altOk l.length)
    · rw [hall] at hR
      obtain ⟨hn, rfl, hlook⟩ := hR
      simp (implicitDefEqProofs := false) [Try.f38, slots, resT, resL, resV, flatT, flatL, shT, sh1, told, body, ex_skip, ex_region, ex_seq, thn_norm, thn_exit, thn_ret, ex_cond, iff_bool, ex_block, out_norm, out_ret, out_exit, ex_exit, ex_ret, kept, keep, ro_nil, ro_none, ro_some, gd_true, gd_false, ri_nil, ri_cons, ri_none, wants, runOp, stepOp, ev, ev1, evL, look, lift, putT, stepB, lenV, loadV, rd, ru, vu, wu, rdN, ptrAdd, isAggD, natOf, optN, rowsH, boxOf, seenC, stV, foldL, fold, foldR, putL, TV.cells, evs, rowsIn, partsV, elemsV, fillV, part1, -getElem?_pos, List.getElem?_cons_zero, List.getElem?_cons_succ, cells3, cells48, cells60, cells37, cells39, cells42, und3, und48, und60, und37, Try.underlying42, ints_len, ints2_len, ints3_len, b_add, b_sub, b_mul, b_lss, b_leq, b_gtr, b_geq, b_eql, b_neq, u_not, tabCal, tabOf, seenTs, seenT, seenL, seen, bareT, bare1, landC, unflat, cut, Nat.add_assoc, hcall, ex_loop, hloop, lm38, hlook]
    · rw [hall] at hR
      obtain ⟨rfl, e', rfl⟩ := hR
      simp only [U38] at hloop
      simp (implicitDefEqProofs := false) [Try.f38, slots, resT, resL, resV, flatT, flatL, shT, sh1, told, body, ex_skip, ex_region, ex_seq, thn_norm, thn_exit, thn_ret, ex_cond, iff_bool, ex_block, out_norm, out_ret, out_exit, ex_exit, ex_ret, kept, keep, ro_nil, ro_none, ro_some, gd_true, gd_false, ri_nil, ri_cons, ri_none, wants, runOp, stepOp, ev, ev1, evL, look, lift, putT, stepB, lenV, loadV, rd, ru, vu, wu, rdN, ptrAdd, isAggD, natOf, optN, rowsH, boxOf, seenC, stV, foldL, fold, foldR, putL, TV.cells, evs, rowsIn, partsV, elemsV, fillV, part1, -getElem?_pos, List.getElem?_cons_zero, List.getElem?_cons_succ, cells3, cells48, cells60, cells37, cells39, cells42, und3, und48, und60, und37, Try.underlying42, ints_len, ints2_len, ints3_len, b_add, b_sub, b_mul, b_lss, b_leq, b_gtr, b_geq, b_eql, b_neq, u_not, tabCal, tabOf, seenTs, seenT, seenL, seen, bareT, bare1, landC, unflat, cut, Nat.add_assoc, hcall, ex_loop, hloop, lm38]
theorem call38 {l : List (List (List Int))} (h : okG l) : F38 [A3 l] = some ((false, [none]), [.lit (.bool (gramOk l))]) :=
  con_at (arg := fun l : List (List (List Int)) => [A3 l]) (by intro a b h; simpa using h) h
end Go.Proofs.Ytmkpoldhgdbjiaa.Vm

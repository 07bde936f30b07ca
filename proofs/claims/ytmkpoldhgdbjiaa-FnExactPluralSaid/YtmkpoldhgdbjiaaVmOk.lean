/-
  Whether a grammar is in order: impl.GramOk.
-/
import Derived.Test.YtmkpoldhgdbjiaaVmSyms
namespace Go.Proofs.Ytmkpoldhgdbjiaa.Vm
open Go Go.RowKit Go.Proofs
set_option linter.unusedVariables false
set_option linter.unusedSimpArgs false
set_option maxHeartbeats 4000000
def rowOk (n : Nat) (r : List Int) : Bool := decide ((r.length : Int) ≤ 8) && r.all (sym n)
def altOk (n : Nat) (a : List (List Int)) : Bool := decide (1 ≤ (a.length : Int)) && decide ((a.length : Int) ≤ 8) && a.all (rowOk n)
def gramOk (l : List (List (List Int))) : Bool := decide (1 ≤ (l.length : Int)) && decide ((l.length : Int) ≤ 20) && l.all (altOk l.length)
abbrev okR (r : List Int) : Prop := r.length ≤ 140737488355328 ∧ ∀ s ∈ r, bnd s
abbrev okA (a : List (List Int)) : Prop := a.length ≤ 140737488355328 ∧ ∀ r ∈ a, okR r
abbrev okG (l : List (List (List Int))) : Prop := l.length ≤ 140737488355328 ∧ ∀ a ∈ l, okA a
noncomputable def L40 : Code := nav [1,1,0,1,0,0] (bodyOf Try.f40)
noncomputable def M40 : Code := nav [1,1,0,0,1,1,1,0,0] L40
def lm40 : Nat → List Nat × Nat := fun b => if b = 0 then ([1, 2, 13, 14, 15], 1) else ([1, 2, 13, 14, 15, 23, 24, 25], 1)
def U40 (l : List (List (List Int))) (i : Nat) (a : List (List Int)) (s : Nat × Nat) : St := ⟨[(1, .one (.bp 1 1 0)), (2, .one (.lit (.bool false))), (13, .one (.sl false 60 (ints3 false 48 l))), (14, .one (.lit (.int .i64 l.length))), (15, .one (.lit (.int .i64 i))), (23, .one (.sl false 48 (ints2 false a))), (24, .one (.lit (.int .i64 a.length))), (25, .one (.lit (.int .i64 s.1)))], [none, some (.box 1 [.sl false 60 (ints3 false 48 l)])], s.2⟩
def R40 (l : List (List (List Int))) (i : Nat) (a : List (List Int)) (s : Nat × Nat) (x : X) (S' : St) : Prop := if (a.drop s.1).all (rowOk l.length) then x = .exit 2 ∧ ∃ ep, S' = U40 l i a (a.length, ep) else x = .ret ∧ look S'.tm 2 = some (.one (.lit (.bool false)))
noncomputable def C40 : Cal := tabCal (tabOf [(54, F54), (55, F55)])
theorem in40 {l : List (List (List Int))} {a : List (List Int)} {i j ep k : Nat} (hj : j < a.length) (hl : l.length ≤ 140737488355328) (ha : a.length ≤ 140737488355328) (hr : okR a[j]) :
    kept 1 (lm40 2) (exec Try.prog C40 k 1 lm40 2 M40 (U40 l i a (j, ep))) = if (a[j].length : Int) > 8 then some (.ret, U40 l i a (j, ep)) else if a[j].all (sym l.length) then some (.norm, U40 l i a (j + 1, ep + 1)) else some (.ret, U40 l i a (j, ep + 1)) := by
  have hx : a[j]? = some a[j] := List.getElem?_eq_getElem hj
  have hj' : (j : Int) < a.length := by omega
  have hw := wrap_succ hj (by omega)
  have hcall := call55 (l := l) ⟨hl, hr⟩
  by_cases h8 : (a[j].length : Int) > 8
  · rw [if_pos h8]
    simp (implicitDefEqProofs := false) [M40, L40, bodyOf, Try.f40, nav, U40, lm40, C40, ex_skip, ex_region, ex_seq, thn_norm, thn_exit, thn_ret, ex_cond, iff_bool, ex_block, out_norm, out_ret, out_exit, ex_exit, ex_ret, kept, keep, ro_nil, ro_none, ro_some, gd_true, gd_false, ri_nil, ri_cons, ri_none, wants, runOp, stepOp, ev, ev1, evL, look, lift, putT, stepB, lenV, loadV, rd, ru, vu, wu, rdN, ptrAdd, isAggD, natOf, optN, rowsH, boxOf, seenC, stV, foldL, fold, foldR, putL, TV.cells, evs, rowsIn, partsV, elemsV, fillV, part1, -getElem?_pos, List.getElem?_cons_zero, List.getElem?_cons_succ, und60, und48, cells48, Try.underlying42, cells42, ints2_get hx, ints2_len, ints_len, b_add, b_lss, b_gtr, u_not, hj', hj, hw, h8, tabCal, tabOf, seenTs, seenT, seenL, seen, hcall, bareT, bare1, landC, unflat, cut, Nat.add_assoc]
  · rw [if_neg h8]
    generalize hq : a[j].all (sym l.length) = q at hcall
    cases q
    · simp (implicitDefEqProofs := false) [M40, L40, bodyOf, Try.f40, nav, U40, lm40, C40, ex_skip, ex_region, ex_seq, thn_norm, thn_exit, thn_ret, ex_cond, iff_bool, ex_block, out_norm, out_ret, out_exit, ex_exit, ex_ret, kept, keep, ro_nil, ro_none, ro_some, gd_true, gd_false, ri_nil, ri_cons, ri_none, wants, runOp, stepOp, ev, ev1, evL, look, lift, putT, stepB, lenV, loadV, rd, ru, vu, wu, rdN, ptrAdd, isAggD, natOf, optN, rowsH, boxOf, seenC, stV, foldL, fold, foldR, putL, TV.cells, evs, rowsIn, partsV, elemsV, fillV, part1, -getElem?_pos, List.getElem?_cons_zero, List.getElem?_cons_succ, und60, und48, cells48, Try.underlying42, cells42, ints2_get hx, ints2_len, ints_len, b_add, b_lss, b_gtr, u_not, hj', hj, hw, h8, tabCal, tabOf, seenTs, seenT, seenL, seen, hcall, bareT, bare1, landC, unflat, cut, Nat.add_assoc]
    · simp (implicitDefEqProofs := false) [M40, L40, bodyOf, Try.f40, nav, U40, lm40, C40, ex_skip, ex_region, ex_seq, thn_norm, thn_exit, thn_ret, ex_cond, iff_bool, ex_block, out_norm, out_ret, out_exit, ex_exit, ex_ret, kept, keep, ro_nil, ro_none, ro_some, gd_true, gd_false, ri_nil, ri_cons, ri_none, wants, runOp, stepOp, ev, ev1, evL, look, lift, putT, stepB, lenV, loadV, rd, ru, vu, wu, rdN, ptrAdd, isAggD, natOf, optN, rowsH, boxOf, seenC, stV, foldL, fold, foldR, putL, TV.cells, evs, rowsIn, partsV, elemsV, fillV, part1, -getElem?_pos, List.getElem?_cons_zero, List.getElem?_cons_succ, und60, und48, cells48, Try.underlying42, cells42, ints2_get hx, ints2_len, ints_len, b_add, b_lss, b_gtr, u_not, hj', hj, hw, h8, tabCal, tabOf, seenTs, seenT, seenL, seen, hcall, bareT, bare1, landC, unflat, cut, Nat.add_assoc]
theorem inEnd40 {l : List (List (List Int))} {a : List (List Int)} {i ep k : Nat} {cal : Cal} :
    kept 1 (lm40 2) (exec Try.prog cal k 1 lm40 2 M40 (U40 l i a (a.length, ep))) = some (.exit 2, U40 l i a (a.length, ep)) := by
  simp (implicitDefEqProofs := false) [M40, L40, bodyOf, Try.f40, nav, U40, lm40, ex_skip, ex_region, ex_seq, thn_norm, thn_exit, thn_ret, ex_cond, iff_bool, ex_block, out_norm, out_ret, out_exit, ex_exit, ex_ret, kept, keep, ro_nil, ro_none, ro_some, gd_true, gd_false, ri_nil, ri_cons, ri_none, wants, runOp, stepOp, ev, ev1, evL, look, lift, putT, stepB, lenV, loadV, rd, ru, vu, wu, rdN, ptrAdd, isAggD, natOf, optN, rowsH, boxOf, seenC, stV, foldL, fold, foldR, putL, TV.cells, evs, rowsIn, partsV, elemsV, fillV, part1, -getElem?_pos, List.getElem?_cons_zero, List.getElem?_cons_succ, b_lss]
theorem inLoop40 {l : List (List (List Int))} {a : List (List Int)} {i ep k : Nat} (hl : l.length ≤ 140737488355328) (ha : okA a) (hk : a.length < k) :
    ∃ x S', loopAt Try.prog C40 k 1 lm40 2 M40 (U40 l i a (0, ep)) = some (x, S') ∧ R40 l i a (0, ep) x S' := by
  obtain ⟨x, S', hloop, hQ⟩ := loop_run (P := Try.prog) (cal := C40) (k := k) (n0 := 1) (b := 2) (lm := lm40) (c := M40) (U40 l i a) (fun s => s.1 ≤ a.length) (fun s => a.length - s.1) (R40 l i a) (fun s q1 => by
      obtain ⟨j, e⟩ := s
      simp only at q1
      rcases Nat.lt_or_ge j a.length with hj | hj
      · have hst := in40 (l := l) (i := i) (ep := e) (k := k) hj hl ha.1 (ha.2 _ (List.getElem_mem hj))
        by_cases h8 : (a[j].length : Int) > 8
        · rw [if_pos h8] at hst
          refine .inr ⟨_, _, hst, by simp, ?_⟩
          unfold R40
          have : rowOk l.length a[j] = false := by simp [rowOk]; omega
          simp [all_drop hj, this, look, U40]
        · rw [if_neg h8] at hst
          have h8' : (a[j].length : Int) ≤ 8 := by omega
          by_cases hs : a[j].all (sym l.length) = true
          · rw [if_pos hs] at hst
            refine .inl ⟨_, hst, hj, by simp only; omega, fun x S' hq => ?_⟩
            unfold R40 at hq ⊢
            have : rowOk l.length a[j] = true := by unfold rowOk; rw [hs]; simp [h8']
            simpa only [all_drop hj, this, Bool.true_and] using hq
          · rw [if_neg hs] at hst
            refine .inr ⟨_, _, hst, by simp, ?_⟩
            unfold R40
            have hs : a[j].all (sym l.length) = false := by simpa using hs
            have : rowOk l.length a[j] = false := by unfold rowOk; rw [hs]; simp
            simp [all_drop hj, this, look, U40]
      · obtain rfl : j = a.length := by omega
        refine .inr ⟨_, _, inEnd40, by simp, ?_⟩
        unfold R40
        simp
        exact ⟨e, rfl⟩) (s := (0, ep)) (Nat.zero_le _) (by simp only; omega)
  exact ⟨x, S', hloop (U40 l i a (0, ep)) (by simp [keep, lm40, U40, look]), hQ⟩
def T40 (l : List (List (List Int))) (s : Nat × Nat) : St := ⟨[(1, .one (.bp 1 1 0)), (2, .one (.lit (.bool false))), (13, .one (.sl false 60 (ints3 false 48 l))), (14, .one (.lit (.int .i64 l.length))), (15, .one (.lit (.int .i64 s.1)))], [none, some (.box 1 [.sl false 60 (ints3 false 48 l)])], s.2⟩
theorem out40 {l : List (List (List Int))} {i ep k : Nat} (hi : i < l.length) (hl : l.length ≤ 140737488355328) (ha : okA l[i]) (hk : l[i].length < k) :
    ∃ x S', kept 1 (lm40 0) (exec Try.prog C40 k 1 lm40 0 L40 (T40 l (i, ep))) = some (x, S') ∧ if altOk l.length l[i] then x = .norm ∧ ∃ e, S' = T40 l (i + 1, e) else x = .ret ∧ look S'.tm 2 = some (.one (.lit (.bool false))) := by
  have hx : l[i]? = some l[i] := List.getElem?_eq_getElem hi
  have hi' : (i : Int) < l.length := by omega
  have hw := wrap_succ hi (by omega)
  have hcall := call54 l[i].length 1 8
  unfold altOk
  generalize hq : (decide (1 ≤ (l[i].length : Int)) && decide ((l[i].length : Int) ≤ 8)) = q at hcall
  cases q
  · refine ⟨.ret, T40 l (i, ep + 1), ?_, by simp [T40, look]⟩
    simp (implicitDefEqProofs := false) [L40, bodyOf, Try.f40, nav, T40, lm40, C40, ex_skip, ex_region, ex_seq, thn_norm, thn_exit, thn_ret, ex_cond, iff_bool, ex_block, out_norm, out_ret, out_exit, ex_exit, ex_ret, kept, keep, ro_nil, ro_none, ro_some, gd_true, gd_false, ri_nil, ri_cons, ri_none, wants, runOp, stepOp, ev, ev1, evL, look, lift, putT, stepB, lenV, loadV, rd, ru, vu, wu, rdN, ptrAdd, isAggD, natOf, optN, rowsH, boxOf, seenC, stV, foldL, fold, foldR, putL, TV.cells, evs, rowsIn, partsV, elemsV, fillV, part1, -getElem?_pos, List.getElem?_cons_zero, List.getElem?_cons_succ, und37, und60, cells60, ints3_get hx, ints3_len, ints2_len, b_add, b_lss, u_not, hi', hi, hw, tabCal, tabOf, seenTs, seenT, seenL, seen, hcall, bareT, bare1, landC, unflat, cut, Nat.add_assoc]
  · obtain ⟨x, S', hloop, hR⟩ := inLoop40 (l := l) (a := l[i]) (i := i) (ep := ep + 1) (k := k) hl ha hk
    simp [M40, L40, bodyOf, Try.f40, nav, U40, C40, tabOf] at hloop
    unfold R40 at hR
    simp only [List.drop_zero] at hR
    by_cases hall : l[i].all (rowOk l.length) = true
    · rw [if_pos hall] at hR
      obtain ⟨rfl, e, rfl⟩ := hR
      refine ⟨.norm, T40 l (i + 1, e), ?_, by rw [hall]; exact ⟨rfl, e, rfl⟩⟩
      simp only [U40] at hloop
      simp (implicitDefEqProofs := false) [L40, bodyOf, Try.f40, nav, T40, lm40, C40, ex_skip, ex_region, ex_seq, thn_norm, thn_exit, thn_ret, ex_cond, iff_bool, ex_block, out_norm, out_ret, out_exit, ex_exit, ex_ret, kept, keep, ro_nil, ro_none, ro_some, gd_true, gd_false, ri_nil, ri_cons, ri_none, wants, runOp, stepOp, ev, ev1, evL, look, lift, putT, stepB, lenV, loadV, rd, ru, vu, wu, rdN, ptrAdd, isAggD, natOf, optN, rowsH, boxOf, seenC, stV, foldL, fold, foldR, putL, TV.cells, evs, rowsIn, partsV, elemsV, fillV, part1, -getElem?_pos, List.getElem?_cons_zero, List.getElem?_cons_succ, und37, und60, cells60, ints3_get hx, ints3_len, ints2_len, b_add, b_lss, u_not, hi', hi, hw, tabCal, tabOf, seenTs, seenT, seenL, seen, hcall, bareT, bare1, landC, unflat, cut, Nat.add_assoc, ex_loop, hloop]
    · rw [if_neg hall] at hR
      obtain ⟨rfl, hlook⟩ := hR
      have hall : l[i].all (rowOk l.length) = false := by simpa using hall
      refine ⟨.ret, keep 1 (lm40 0) S', ?_, ?_⟩
      · simp (implicitDefEqProofs := false) [L40, bodyOf, Try.f40, nav, T40, lm40, C40, ex_skip, ex_region, ex_seq, thn_norm, thn_exit, thn_ret, ex_cond, iff_bool, ex_block, out_norm, out_ret, out_exit, ex_exit, ex_ret, kept, keep, ro_nil, ro_none, ro_some, gd_true, gd_false, ri_nil, ri_cons, ri_none, wants, runOp, stepOp, ev, ev1, evL, look, lift, putT, stepB, lenV, loadV, rd, ru, vu, wu, rdN, ptrAdd, isAggD, natOf, optN, rowsH, boxOf, seenC, stV, foldL, fold, foldR, putL, TV.cells, evs, rowsIn, partsV, elemsV, fillV, part1, -getElem?_pos, List.getElem?_cons_zero, List.getElem?_cons_succ, und37, und60, cells60, ints3_get hx, ints3_len, ints2_len, b_add, b_lss, u_not, hi', hi, hw, tabCal, tabOf, seenTs, seenT, seenL, seen, hcall, bareT, bare1, landC, unflat, cut, Nat.add_assoc, ex_loop, hloop]
      · rw [hall]
        simp only [Bool.and_false, Bool.false_eq_true, if_false, true_and]
        simp only [keep]
        rw [look_filter, if_pos (by simp [lm40])]
        exact hlook
theorem outEnd40 {l : List (List (List Int))} {ep k : Nat} {cal : Cal} :
    kept 1 (lm40 0) (exec Try.prog cal k 1 lm40 0 L40 (T40 l (l.length, ep))) = some (.exit 0, T40 l (l.length, ep)) := by
  simp (implicitDefEqProofs := false) [L40, bodyOf, Try.f40, nav, T40, lm40, ex_skip, ex_region, ex_seq, thn_norm, thn_exit, thn_ret, ex_cond, iff_bool, ex_block, out_norm, out_ret, out_exit, ex_exit, ex_ret, kept, keep, ro_nil, ro_none, ro_some, gd_true, gd_false, ri_nil, ri_cons, ri_none, wants, runOp, stepOp, ev, ev1, evL, look, lift, putT, stepB, lenV, loadV, rd, ru, vu, wu, rdN, ptrAdd, isAggD, natOf, optN, rowsH, boxOf, seenC, stV, foldL, fold, foldR, putL, TV.cells, evs, rowsIn, partsV, elemsV, fillV, part1, -getElem?_pos, List.getElem?_cons_zero, List.getElem?_cons_succ, b_lss]
def Q40 (l : List (List (List Int))) (s : Nat × Nat) (x : X) (S' : St) : Prop := if (l.drop s.1).all (altOk l.length) then x = .exit 0 else x = .ret ∧ look S'.tm 2 = some (.one (.lit (.bool false)))
theorem outLoop40 {l : List (List (List Int))} {k : Nat} (hl : okG l) (hk : 140737488355328 < k) :
    ∃ x S', loopAt Try.prog C40 k 1 lm40 0 L40 (T40 l (0, 3)) = some (x, S') ∧ Q40 l (0, 3) x S' := by
  obtain ⟨x, S', hloop, hQ⟩ := loop_run (P := Try.prog) (cal := C40) (k := k) (n0 := 1) (b := 0) (lm := lm40) (c := L40) (T40 l) (fun s => s.1 ≤ l.length) (fun s => l.length - s.1) (Q40 l) (fun s q1 => by
      obtain ⟨i, e⟩ := s
      simp only at q1
      rcases Nat.lt_or_ge i l.length with hi | hi
      · have ha := hl.2 _ (List.getElem_mem hi)
        obtain ⟨x, S', hst, hR⟩ := out40 (ep := e) (k := k) hi hl.1 ha (by have := ha.1; omega)
        by_cases hs : altOk l.length l[i] = true
        · rw [if_pos hs] at hR
          obtain ⟨rfl, e', rfl⟩ := hR
          refine .inl ⟨_, hst, hi, by simp only; omega, fun x S' hq => ?_⟩
          unfold Q40 at hq ⊢
          simpa only [all_drop hi, hs, Bool.true_and] using hq
        · rw [if_neg hs] at hR
          obtain ⟨rfl, hlook⟩ := hR
          refine .inr ⟨_, _, hst, by simp, ?_⟩
          unfold Q40
          have hs : altOk l.length l[i] = false := by simpa using hs
          simp [all_drop hi, hs, hlook]
      · obtain rfl : i = l.length := by omega
        refine .inr ⟨_, _, outEnd40, by simp, ?_⟩
        unfold Q40
        simp) (s := (0, 3)) (Nat.zero_le _) (by have := hl.1; simp only; omega)
  exact ⟨x, S', hloop (T40 l (0, 3)) (by simp [keep, lm40, T40, look]), hQ⟩
noncomputable def F40 : Con := con (fun l : List (List (List Int)) => [A3 l]) okG (fun l => ((false, [none]), [.lit (.bool (gramOk l))]))
theorem fn40 : Fn Try.prog 40 F40 := by
  refine Fn.con [(54, F54), (55, F55)] (by simp [fn54, fn55]) mixed (fn := Try.f40) rfl rfl rfl (by kernel_rfl) 1 (by decide) (fun _ => rfl) lm40 (fun l hl => ?_)
  obtain ⟨k, hk⟩ : ∃ k, 140737488355328 < k := ⟨_, Nat.lt_succ_self _⟩
  refine ⟨k, ?_⟩
  have hcall := call54 l.length 1 20
  obtain ⟨x, S', hloop, hQ⟩ := outLoop40 hl hk
  simp [L40, bodyOf, Try.f40, nav, T40, C40, tabOf] at hloop
  unfold Q40 at hQ
  simp only [List.drop_zero] at hQ
  unfold gramOk
  generalize hq : (decide (1 ≤ (l.length : Int)) && decide ((l.length : Int) ≤ 20)) = q at hcall
  cases q
  · simp (implicitDefEqProofs := false) [told, body, Try.f40, slots, resT, resL, resV, flatT, flatL, shT, sh1, ex_skip, ex_region, ex_seq, thn_norm, thn_exit, thn_ret, ex_cond, iff_bool, ex_block, out_norm, out_ret, out_exit, ex_exit, ex_ret, kept, keep, ro_nil, ro_none, ro_some, gd_true, gd_false, ri_nil, ri_cons, ri_none, wants, runOp, stepOp, ev, ev1, evL, look, lift, putT, stepB, lenV, loadV, rd, ru, vu, wu, rdN, ptrAdd, isAggD, natOf, optN, rowsH, boxOf, seenC, stV, foldL, fold, foldR, putL, TV.cells, evs, rowsIn, partsV, elemsV, fillV, part1, -getElem?_pos, List.getElem?_cons_zero, List.getElem?_cons_succ, und37, cells37, Try.underlying42, cells42, ints3_len, u_not, hcall, tabCal, tabOf, seenTs, seenT, seenL, seen, bareT, bare1, landC, unflat, cut]
  · by_cases hall : l.all (altOk l.length) = true
    · rw [if_pos hall] at hQ
      subst hQ
      rw [hall]
      simp (implicitDefEqProofs := false) [told, body, Try.f40, slots, resT, resL, resV, flatT, flatL, shT, sh1, ex_skip, ex_region, ex_seq, thn_norm, thn_exit, thn_ret, ex_cond, iff_bool, ex_block, out_norm, out_ret, out_exit, ex_exit, ex_ret, kept, keep, ro_nil, ro_none, ro_some, gd_true, gd_false, ri_nil, ri_cons, ri_none, wants, runOp, stepOp, ev, ev1, evL, look, lift, putT, stepB, lenV, loadV, rd, ru, vu, wu, rdN, ptrAdd, isAggD, natOf, optN, rowsH, boxOf, seenC, stV, foldL, fold, foldR, putL, TV.cells, evs, rowsIn, partsV, elemsV, fillV, part1, -getElem?_pos, List.getElem?_cons_zero, List.getElem?_cons_succ, und37, cells37, Try.underlying42, cells42, ints3_len, u_not, hcall, tabCal, tabOf, seenTs, seenT, seenL, seen, bareT, bare1, landC, unflat, cut, ex_loop, hloop, lm40]
    · rw [if_neg hall] at hQ
      obtain ⟨rfl, hlook⟩ := hQ
      have hall : l.all (altOk l.length) = false := by simpa using hall
      rw [hall]
      simp (implicitDefEqProofs := false) [told, body, Try.f40, slots, resT, resL, resV, flatT, flatL, shT, sh1, ex_skip, ex_region, ex_seq, thn_norm, thn_exit, thn_ret, ex_cond, iff_bool, ex_block, out_norm, out_ret, out_exit, ex_exit, ex_ret, kept, keep, ro_nil, ro_none, ro_some, gd_true, gd_false, ri_nil, ri_cons, ri_none, wants, runOp, stepOp, ev, ev1, evL, look, lift, putT, stepB, lenV, loadV, rd, ru, vu, wu, rdN, ptrAdd, isAggD, natOf, optN, rowsH, boxOf, seenC, stV, foldL, fold, foldR, putL, TV.cells, evs, rowsIn, partsV, elemsV, fillV, part1, -getElem?_pos, List.getElem?_cons_zero, List.getElem?_cons_succ, und37, cells37, Try.underlying42, cells42, ints3_len, u_not, hcall, tabCal, tabOf, seenTs, seenT, seenL, seen, bareT, bare1, landC, unflat, cut, ex_loop, hloop, lm40, hlook]
theorem call40 {l : List (List (List Int))} (h : okG l) : F40 [A3 l] = some ((false, [none]), [.lit (.bool (gramOk l))]) :=
  con_at (arg := fun l : List (List (List Int)) => [A3 l]) (by intro a b h; simpa using h) h
end Go.Proofs.Ytmkpoldhgdbjiaa.Vm

/-
  What laws.eqIntS, eqIntSS, eqIntSSS and eqGram yield: whether two are the same.
-/
import Derived.Test.YtmkpoldhgdbjiaaVmFacts
namespace Go.Proofs.Ytmkpoldhgdbjiaa.Vm
open Go Go.RowKit Go.Proofs
set_option linter.unusedVariables false
set_option linter.unusedSimpArgs false
set_option maxHeartbeats 4000000
def opsOf : Code → Array Oper
  | .region _ ops _ => ops
  | _ => #[]
theorem drop_eq {α : Type} {a b : List α} {i : Nat} (h1 : i < a.length) (h2 : i < b.length) : a.drop i = b.drop i ↔ a[i] = b[i] ∧ a.drop (i + 1) = b.drop (i + 1) := by
  rw [List.drop_eq_getElem_cons h1, List.drop_eq_getElem_cons h2, List.cons.injEq]

abbrev ok29 (l : List Int) : Prop := l.length ≤ 140737488355328
abbrev ok56 (l : List (List Int)) : Prop := l.length ≤ 140737488355328 ∧ ∀ r ∈ l, ok29 r
abbrev ok41 (l : List (List (List Int))) : Prop := l.length ≤ 140737488355328 ∧ ∀ r ∈ l, ok56 r

noncomputable def L29 : Code := nav [1,1,0,1,0,0] (bodyOf Try.f29)
def lm29 : Nat → List Nat × Nat := fun _ => ([0, 1, 4, 5], 0)
def T29 (a b : List (Int)) (i : Nat) : St := ⟨[(0, .one (.sl false 3 (ints a))), (1, .one (.sl false 3 (ints b))), (4, .one (.lit (.bool false))), (5, .one (.lit (.int .i64 i)))], [none], 1⟩
def Q29 (a b : List (Int)) (i : Nat) (x : X) (S' : St) : Prop := if a.drop i = b.drop i then x = .exit 0 else x = .ret ∧ look S'.tm 4 = some (.one (.lit (.bool false)))
noncomputable def F29 : Con := con (fun p : List (Int) × List (Int) => [.one (.sl false 3 (ints p.1)), .one (.sl false 3 (ints p.2))]) (fun p => ok29 p.1) (fun p => ((false, [none]), [.lit (.bool (decide (p.1 = p.2)))]))
theorem dr29 : drawn (opsOf (nav [1,0,0,0] L29)) = some ([0, 1, 2, 3, 4, 5, 6, 7, 8], []) := by kernel_rfl
theorem step29 {a b : List (Int)} {i k : Nat} (hi : i < a.length) (hj : i < b.length) (hl : a.length ≤ 140737488355328) :
    kept 1 (lm29 0) (exec Try.prog (tabCal (tabOf [])) k 1 lm29 0 L29 (T29 a b i)) = if a[i] = b[i] then some (.norm, T29 a b (i + 1)) else some (.ret, ⟨[(0, .one (.sl false 3 (ints a))), (1, .one (.sl false 3 (ints b))), (4, .one (.lit (.bool false))), (5, .one (.lit (.int .i64 i)))], [none], 1⟩) := by
  have hx : a[i]? = some a[i] := List.getElem?_eq_getElem hi
  have hy : b[i]? = some b[i] := List.getElem?_eq_getElem hj
  have hi' : (i : Int) < a.length := by omega
  have hw := wrap_succ hi (by omega)
  have hd := dr29
  simp only [L29, bodyOf, Try.f29, nav, opsOf, Option.getD_some] at hd
  split
  · rename_i hc
    have hc1 : (a[i] != b[i]) = false := by simp [hc]
    simp (implicitDefEqProofs := false) [L29, bodyOf, Try.f29, nav, T29, lm29, ex_draw2 _ _ hd, ex_skip, ex_region, ex_seq, thn_norm, thn_exit, thn_ret, ex_cond, iff_bool, ex_block, out_norm, out_ret, out_exit, ex_exit, ex_ret, kept, keep, ro_nil, ro_none, ro_some, gd_true, gd_false, ri_nil, ri_cons, ri_none, wants, runOp, stepOp, ev, ev1, evL, look, lift, putT, stepB, lenV, loadV, rd, ru, vu, wu, rdN, ptrAdd, isAggD, natOf, optN, rowsH, boxOf, seenC, stV, foldL, fold, foldR, putL, TV.cells, evs, rowsIn, partsV, elemsV, fillV, part1, -getElem?_pos, List.getElem?_cons_zero, List.getElem?_cons_succ, und48, cells3, und3, ints_get hx, ints_get hy, ints_len, b_add, b_lss, b_neq, u_not, hi', hi, hw, tabCal, tabOf, seenTs, seenT, seen, bareT, bare1, landC, unflat, cut, hc1, Nat.add_assoc]
  · rename_i hc
    have hc1 : (a[i] != b[i]) = true := by simp [hc]
    simp (implicitDefEqProofs := false) [L29, bodyOf, Try.f29, nav, T29, lm29, ex_draw2 _ _ hd, ex_skip, ex_region, ex_seq, thn_norm, thn_exit, thn_ret, ex_cond, iff_bool, ex_block, out_norm, out_ret, out_exit, ex_exit, ex_ret, kept, keep, ro_nil, ro_none, ro_some, gd_true, gd_false, ri_nil, ri_cons, ri_none, wants, runOp, stepOp, ev, ev1, evL, look, lift, putT, stepB, lenV, loadV, rd, ru, vu, wu, rdN, ptrAdd, isAggD, natOf, optN, rowsH, boxOf, seenC, stV, foldL, fold, foldR, putL, TV.cells, evs, rowsIn, partsV, elemsV, fillV, part1, -getElem?_pos, List.getElem?_cons_zero, List.getElem?_cons_succ, und48, cells3, und3, ints_get hx, ints_get hy, ints_len, b_add, b_lss, b_neq, u_not, hi', hi, hw, tabCal, tabOf, seenTs, seenT, seen, bareT, bare1, landC, unflat, cut, hc1, Nat.add_assoc]
theorem end29 {a b : List (Int)} {k : Nat} {cal : Cal} :
    kept 1 (lm29 0) (exec Try.prog cal k 1 lm29 0 L29 (T29 a b a.length)) = some (.exit 0, T29 a b a.length) := by
  simp (implicitDefEqProofs := false) [L29, bodyOf, Try.f29, nav, T29, lm29, ex_skip, ex_region, ex_seq, thn_norm, thn_exit, thn_ret, ex_cond, iff_bool, ex_block, out_norm, out_ret, out_exit, ex_exit, ex_ret, kept, keep, ro_nil, ro_none, ro_some, gd_true, gd_false, ri_nil, ri_cons, ri_none, wants, runOp, stepOp, ev, ev1, evL, look, lift, putT, stepB, lenV, loadV, rd, ru, vu, wu, rdN, ptrAdd, isAggD, natOf, optN, rowsH, boxOf, seenC, stV, foldL, fold, foldR, putL, TV.cells, evs, rowsIn, partsV, elemsV, fillV, part1, -getElem?_pos, List.getElem?_cons_zero, List.getElem?_cons_succ, und48, ints_len, b_lss]
theorem fn29 : Fn Try.prog 29 F29 := by
  refine Fn.con [] (by simp) mixed (fn := Try.f29) rfl rfl rfl (by kernel_rfl) 2 (by decide) (fun _ => rfl) lm29 (fun p hp => ⟨p.1.length + 1, ?_⟩)
  obtain ⟨a, b⟩ := p
  have hl : a.length ≤ 140737488355328 := hp
  simp only
  by_cases hab : a.length = b.length
  · obtain ⟨x, S', hloop, hQ⟩ := loop_run (P := Try.prog) (cal := tabCal (tabOf [])) (k := a.length + 1) (n0 := 1) (b := 0) (lm := lm29) (c := L29) (T29 a b) (fun i => i ≤ a.length) (fun i => a.length - i) (Q29 a b) (fun i q1 => by
        rcases Nat.lt_or_ge i a.length with hi | hi
        · have hj : i < b.length := by omega
          have hst := step29 (k := a.length + 1) hi hj hl
          by_cases hf : a[i] = b[i]
          · rw [if_pos hf] at hst
            refine .inl ⟨_, hst, hi, by omega, fun x S' hq => ?_⟩
            unfold Q29 at hq ⊢
            simpa only [drop_eq hi hj, hf, true_and] using hq
          · rw [if_neg hf] at hst
            refine .inr ⟨_, _, hst, by simp, ?_⟩
            unfold Q29
            simp [drop_eq hi hj, hf, look]
        · obtain rfl : i = a.length := by omega
          refine .inr ⟨_, _, end29, by simp, ?_⟩
          unfold Q29
          have : a.drop a.length = b.drop a.length := by simp [hab]
          rw [if_pos this]) (s := 0) (Nat.zero_le _) (by omega)
    have hab2 : ((a.length : Int) != b.length) = false := by simp [hab]
    replace hloop := hloop (T29 a b 0) (by simp [keep, lm29, T29, look])
    change loopAt _ _ _ _ _ _ _ _ = _ at hloop
    simp [L29, bodyOf, Try.f29, nav, T29] at hloop
    unfold Q29 at hQ
    simp only [List.drop_zero] at hQ
    split at hQ
    · rename_i he
      subst hQ
      subst he
      simp (implicitDefEqProofs := false) [told, body, Try.f29, slots, resT, resL, resV, flatT, flatL, shT, sh1, ex_skip, ex_region, ex_seq, thn_norm, thn_exit, thn_ret, ex_cond, iff_bool, ex_block, out_norm, out_ret, out_exit, ex_exit, ex_ret, kept, keep, ro_nil, ro_none, ro_some, gd_true, gd_false, ri_nil, ri_cons, ri_none, wants, runOp, stepOp, ev, ev1, evL, look, lift, putT, stepB, lenV, loadV, rd, ru, vu, wu, rdN, ptrAdd, isAggD, natOf, optN, rowsH, boxOf, seenC, stV, foldL, fold, foldR, putL, TV.cells, evs, rowsIn, partsV, elemsV, fillV, part1, -getElem?_pos, List.getElem?_cons_zero, List.getElem?_cons_succ, und48, ints_len, b_neq, ex_loop, hloop, lm29]
    · rename_i he
      obtain ⟨rfl, hlook⟩ := hQ
      simp (implicitDefEqProofs := false) [told, body, Try.f29, slots, resT, resL, resV, flatT, flatL, shT, sh1, ex_skip, ex_region, ex_seq, thn_norm, thn_exit, thn_ret, ex_cond, iff_bool, ex_block, out_norm, out_ret, out_exit, ex_exit, ex_ret, kept, keep, ro_nil, ro_none, ro_some, gd_true, gd_false, ri_nil, ri_cons, ri_none, wants, runOp, stepOp, ev, ev1, evL, look, lift, putT, stepB, lenV, loadV, rd, ru, vu, wu, rdN, ptrAdd, isAggD, natOf, optN, rowsH, boxOf, seenC, stV, foldL, fold, foldR, putL, TV.cells, evs, rowsIn, partsV, elemsV, fillV, part1, -getElem?_pos, List.getElem?_cons_zero, List.getElem?_cons_succ, und48, ints_len, b_neq, ex_loop, hloop, lm29, hlook, hab2, he]
  · have hne : ¬ a = b := fun h => hab (by rw [h])
    have hab' : ¬ (a.length : Int) = b.length := by omega
    simp (implicitDefEqProofs := false) [told, body, Try.f29, slots, resT, resL, resV, flatT, flatL, shT, sh1, ex_skip, ex_region, ex_seq, thn_norm, thn_exit, thn_ret, ex_cond, iff_bool, ex_block, out_norm, out_ret, out_exit, ex_exit, ex_ret, kept, keep, ro_nil, ro_none, ro_some, gd_true, gd_false, ri_nil, ri_cons, ri_none, wants, runOp, stepOp, ev, ev1, evL, look, lift, putT, stepB, lenV, loadV, rd, ru, vu, wu, rdN, ptrAdd, isAggD, natOf, optN, rowsH, boxOf, seenC, stV, foldL, fold, foldR, putL, TV.cells, evs, rowsIn, partsV, elemsV, fillV, part1, -getElem?_pos, List.getElem?_cons_zero, List.getElem?_cons_succ, und48, ints_len, b_neq, hab', hab, hne]
theorem call29 {a b : List (Int)} (h : ok29 a) : F29 [.one (.sl false 3 (ints a)), .one (.sl false 3 (ints b))] = some ((false, [none]), [.lit (.bool (decide (a = b)))]) :=
  con_at (arg := fun p : List (Int) × List (Int) => [.one (.sl false 3 (ints p.1)), .one (.sl false 3 (ints p.2))]) (a := (a, b)) (by rintro ⟨a, b⟩ ⟨c, d⟩ h; simpa using h) h

noncomputable def L56 : Code := nav [1,1,0,1,0,0] (bodyOf Try.f56)
def lm56 : Nat → List Nat × Nat := fun _ => ([0, 1, 4, 5], 0)
def T56 (a b : List (List Int)) (i : Nat) : St := ⟨[(0, .one (.sl false 48 (ints2 false a))), (1, .one (.sl false 48 (ints2 false b))), (4, .one (.lit (.bool false))), (5, .one (.lit (.int .i64 i)))], [none], 1 + i⟩
def Q56 (a b : List (List Int)) (i : Nat) (x : X) (S' : St) : Prop := if a.drop i = b.drop i then x = .exit 0 else x = .ret ∧ look S'.tm 4 = some (.one (.lit (.bool false)))
noncomputable def F56 : Con := con (fun p : List (List Int) × List (List Int) => [.one (.sl false 48 (ints2 false p.1)), .one (.sl false 48 (ints2 false p.2))]) (fun p => ok56 p.1) (fun p => ((false, [none]), [.lit (.bool (decide (p.1 = p.2)))]))
theorem dr56 : drawn (opsOf (nav [1,0,0,0] L56)) = some ([0, 1, 2, 3, 4, 5, 6, 7], [8, 9]) := by kernel_rfl
theorem step56 {a b : List (List Int)} {i k : Nat} (hi : i < a.length) (hj : i < b.length) (hl : a.length ≤ 140737488355328) (hr : ok29 a[i]) :
    kept 1 (lm56 0) (exec Try.prog (tabCal (tabOf [(29, F29)])) k 1 lm56 0 L56 (T56 a b i)) = if a[i] = b[i] then some (.norm, T56 a b (i + 1)) else some (.ret, ⟨[(0, .one (.sl false 48 (ints2 false a))), (1, .one (.sl false 48 (ints2 false b))), (4, .one (.lit (.bool false))), (5, .one (.lit (.int .i64 i)))], [none], 1 + i + 1⟩) := by
  have hx : a[i]? = some a[i] := List.getElem?_eq_getElem hi
  have hy : b[i]? = some b[i] := List.getElem?_eq_getElem hj
  have hi' : (i : Int) < a.length := by omega
  have hw := wrap_succ hi (by omega)
  have hd := dr56
  simp only [L56, bodyOf, Try.f56, nav, opsOf, Option.getD_some] at hd
  have hcall := call29 (b := b[i]) hr
  split
  · rename_i hc
    have hc1 : (decide (a[i] = b[i])) = true := by simp [hc]
    simp (implicitDefEqProofs := false) [L56, bodyOf, Try.f56, nav, T56, lm56, ex_draw2 _ _ hd, ex_skip, ex_region, ex_seq, thn_norm, thn_exit, thn_ret, ex_cond, iff_bool, ex_block, out_norm, out_ret, out_exit, ex_exit, ex_ret, kept, keep, ro_nil, ro_none, ro_some, gd_true, gd_false, ri_nil, ri_cons, ri_none, wants, runOp, stepOp, ev, ev1, evL, look, lift, putT, stepB, lenV, loadV, rd, ru, vu, wu, rdN, ptrAdd, isAggD, natOf, optN, rowsH, boxOf, seenC, stV, foldL, fold, foldR, putL, TV.cells, evs, rowsIn, partsV, elemsV, fillV, part1, -getElem?_pos, List.getElem?_cons_zero, List.getElem?_cons_succ, und60, cells48, und48, ints2_get hx, ints2_get hy, ints2_len, b_add, b_lss, b_neq, u_not, hi', hi, hw, tabCal, tabOf, seenTs, seenT, seen, hcall, bareT, bare1, landC, unflat, cut, hc1, Nat.add_assoc]
  · rename_i hc
    have hc1 : (decide (a[i] = b[i])) = false := by simp [hc]
    simp (implicitDefEqProofs := false) [L56, bodyOf, Try.f56, nav, T56, lm56, ex_draw2 _ _ hd, ex_skip, ex_region, ex_seq, thn_norm, thn_exit, thn_ret, ex_cond, iff_bool, ex_block, out_norm, out_ret, out_exit, ex_exit, ex_ret, kept, keep, ro_nil, ro_none, ro_some, gd_true, gd_false, ri_nil, ri_cons, ri_none, wants, runOp, stepOp, ev, ev1, evL, look, lift, putT, stepB, lenV, loadV, rd, ru, vu, wu, rdN, ptrAdd, isAggD, natOf, optN, rowsH, boxOf, seenC, stV, foldL, fold, foldR, putL, TV.cells, evs, rowsIn, partsV, elemsV, fillV, part1, -getElem?_pos, List.getElem?_cons_zero, List.getElem?_cons_succ, und60, cells48, und48, ints2_get hx, ints2_get hy, ints2_len, b_add, b_lss, b_neq, u_not, hi', hi, hw, tabCal, tabOf, seenTs, seenT, seen, hcall, bareT, bare1, landC, unflat, cut, hc1, Nat.add_assoc]
theorem end56 {a b : List (List Int)} {k : Nat} {cal : Cal} :
    kept 1 (lm56 0) (exec Try.prog cal k 1 lm56 0 L56 (T56 a b a.length)) = some (.exit 0, T56 a b a.length) := by
  simp (implicitDefEqProofs := false) [L56, bodyOf, Try.f56, nav, T56, lm56, ex_skip, ex_region, ex_seq, thn_norm, thn_exit, thn_ret, ex_cond, iff_bool, ex_block, out_norm, out_ret, out_exit, ex_exit, ex_ret, kept, keep, ro_nil, ro_none, ro_some, gd_true, gd_false, ri_nil, ri_cons, ri_none, wants, runOp, stepOp, ev, ev1, evL, look, lift, putT, stepB, lenV, loadV, rd, ru, vu, wu, rdN, ptrAdd, isAggD, natOf, optN, rowsH, boxOf, seenC, stV, foldL, fold, foldR, putL, TV.cells, evs, rowsIn, partsV, elemsV, fillV, part1, -getElem?_pos, List.getElem?_cons_zero, List.getElem?_cons_succ, und60, ints2_len, b_lss]
theorem fn56 : Fn Try.prog 56 F56 := by
  refine Fn.con [(29, F29)] (by simp [fn29]) mixed (fn := Try.f56) rfl rfl rfl (by kernel_rfl) 2 (by decide) (fun _ => rfl) lm56 (fun p hp => ⟨p.1.length + 1, ?_⟩)
  obtain ⟨a, b⟩ := p
  have hl : a.length ≤ 140737488355328 := hp.1
  simp only
  by_cases hab : a.length = b.length
  · obtain ⟨x, S', hloop, hQ⟩ := loop_run (P := Try.prog) (cal := tabCal (tabOf [(29, F29)])) (k := a.length + 1) (n0 := 1) (b := 0) (lm := lm56) (c := L56) (T56 a b) (fun i => i ≤ a.length) (fun i => a.length - i) (Q56 a b) (fun i q1 => by
        rcases Nat.lt_or_ge i a.length with hi | hi
        · have hj : i < b.length := by omega
          have hst := step56 (k := a.length + 1) hi hj hl (hp.2 _ (List.getElem_mem hi))
          by_cases hf : a[i] = b[i]
          · rw [if_pos hf] at hst
            refine .inl ⟨_, hst, hi, by omega, fun x S' hq => ?_⟩
            unfold Q56 at hq ⊢
            simpa only [drop_eq hi hj, hf, true_and] using hq
          · rw [if_neg hf] at hst
            refine .inr ⟨_, _, hst, by simp, ?_⟩
            unfold Q56
            simp [drop_eq hi hj, hf, look]
        · obtain rfl : i = a.length := by omega
          refine .inr ⟨_, _, end56, by simp, ?_⟩
          unfold Q56
          have : a.drop a.length = b.drop a.length := by simp [hab]
          rw [if_pos this]) (s := 0) (Nat.zero_le _) (by omega)
    have hab2 : ((a.length : Int) != b.length) = false := by simp [hab]
    replace hloop := hloop (T56 a b 0) (by simp [keep, lm56, T56, look])
    change loopAt _ _ _ _ _ _ _ _ = _ at hloop
    simp [L56, bodyOf, Try.f56, nav, T56] at hloop
    unfold Q56 at hQ
    simp only [List.drop_zero] at hQ
    split at hQ
    · rename_i he
      subst hQ
      subst he
      simp (implicitDefEqProofs := false) [told, body, Try.f56, slots, resT, resL, resV, flatT, flatL, shT, sh1, ex_skip, ex_region, ex_seq, thn_norm, thn_exit, thn_ret, ex_cond, iff_bool, ex_block, out_norm, out_ret, out_exit, ex_exit, ex_ret, kept, keep, ro_nil, ro_none, ro_some, gd_true, gd_false, ri_nil, ri_cons, ri_none, wants, runOp, stepOp, ev, ev1, evL, look, lift, putT, stepB, lenV, loadV, rd, ru, vu, wu, rdN, ptrAdd, isAggD, natOf, optN, rowsH, boxOf, seenC, stV, foldL, fold, foldR, putL, TV.cells, evs, rowsIn, partsV, elemsV, fillV, part1, -getElem?_pos, List.getElem?_cons_zero, List.getElem?_cons_succ, und60, ints2_len, b_neq, ex_loop, hloop, lm56]
    · rename_i he
      obtain ⟨rfl, hlook⟩ := hQ
      simp (implicitDefEqProofs := false) [told, body, Try.f56, slots, resT, resL, resV, flatT, flatL, shT, sh1, ex_skip, ex_region, ex_seq, thn_norm, thn_exit, thn_ret, ex_cond, iff_bool, ex_block, out_norm, out_ret, out_exit, ex_exit, ex_ret, kept, keep, ro_nil, ro_none, ro_some, gd_true, gd_false, ri_nil, ri_cons, ri_none, wants, runOp, stepOp, ev, ev1, evL, look, lift, putT, stepB, lenV, loadV, rd, ru, vu, wu, rdN, ptrAdd, isAggD, natOf, optN, rowsH, boxOf, seenC, stV, foldL, fold, foldR, putL, TV.cells, evs, rowsIn, partsV, elemsV, fillV, part1, -getElem?_pos, List.getElem?_cons_zero, List.getElem?_cons_succ, und60, ints2_len, b_neq, ex_loop, hloop, lm56, hlook, hab2, he]
  · have hne : ¬ a = b := fun h => hab (by rw [h])
    have hab' : ¬ (a.length : Int) = b.length := by omega
    simp (implicitDefEqProofs := false) [told, body, Try.f56, slots, resT, resL, resV, flatT, flatL, shT, sh1, ex_skip, ex_region, ex_seq, thn_norm, thn_exit, thn_ret, ex_cond, iff_bool, ex_block, out_norm, out_ret, out_exit, ex_exit, ex_ret, kept, keep, ro_nil, ro_none, ro_some, gd_true, gd_false, ri_nil, ri_cons, ri_none, wants, runOp, stepOp, ev, ev1, evL, look, lift, putT, stepB, lenV, loadV, rd, ru, vu, wu, rdN, ptrAdd, isAggD, natOf, optN, rowsH, boxOf, seenC, stV, foldL, fold, foldR, putL, TV.cells, evs, rowsIn, partsV, elemsV, fillV, part1, -getElem?_pos, List.getElem?_cons_zero, List.getElem?_cons_succ, und60, ints2_len, b_neq, hab', hab, hne]
theorem call56 {a b : List (List Int)} (h : ok56 a) : F56 [.one (.sl false 48 (ints2 false a)), .one (.sl false 48 (ints2 false b))] = some ((false, [none]), [.lit (.bool (decide (a = b)))]) :=
  con_at (arg := fun p : List (List Int) × List (List Int) => [.one (.sl false 48 (ints2 false p.1)), .one (.sl false 48 (ints2 false p.2))]) (a := (a, b)) (by rintro ⟨a, b⟩ ⟨c, d⟩ h; simpa using h) h

noncomputable def L41 : Code := nav [1,1,0,1,0,0] (bodyOf Try.f41)
def lm41 : Nat → List Nat × Nat := fun _ => ([0, 1, 4, 5], 0)
def T41 (a b : List (List (List Int))) (i : Nat) : St := ⟨[(0, .one (.sl false 60 (ints3 false 48 a))), (1, .one (.sl false 60 (ints3 false 48 b))), (4, .one (.lit (.bool false))), (5, .one (.lit (.int .i64 i)))], [none], 1 + i⟩
def Q41 (a b : List (List (List Int))) (i : Nat) (x : X) (S' : St) : Prop := if a.drop i = b.drop i then x = .exit 0 else x = .ret ∧ look S'.tm 4 = some (.one (.lit (.bool false)))
noncomputable def F41 : Con := con (fun p : List (List (List Int)) × List (List (List Int)) => [.one (.sl false 60 (ints3 false 48 p.1)), .one (.sl false 60 (ints3 false 48 p.2))]) (fun p => ok41 p.1) (fun p => ((false, [none]), [.lit (.bool (decide (p.1 = p.2)))]))
theorem dr41 : drawn (opsOf (nav [1,0,0,0] L41)) = some ([0, 1, 2, 3, 4, 5, 6, 7], [8, 9]) := by kernel_rfl
theorem step41 {a b : List (List (List Int))} {i k : Nat} (hi : i < a.length) (hj : i < b.length) (hl : a.length ≤ 140737488355328) (hr : ok56 a[i]) :
    kept 1 (lm41 0) (exec Try.prog (tabCal (tabOf [(56, F56)])) k 1 lm41 0 L41 (T41 a b i)) = if a[i] = b[i] then some (.norm, T41 a b (i + 1)) else some (.ret, ⟨[(0, .one (.sl false 60 (ints3 false 48 a))), (1, .one (.sl false 60 (ints3 false 48 b))), (4, .one (.lit (.bool false))), (5, .one (.lit (.int .i64 i)))], [none], 1 + i + 1⟩) := by
  have hx : a[i]? = some a[i] := List.getElem?_eq_getElem hi
  have hy : b[i]? = some b[i] := List.getElem?_eq_getElem hj
  have hi' : (i : Int) < a.length := by omega
  have hw := wrap_succ hi (by omega)
  have hd := dr41
  simp only [L41, bodyOf, Try.f41, nav, opsOf, Option.getD_some] at hd
  have hcall := call56 (b := b[i]) hr
  split
  · rename_i hc
    have hc1 : (decide (a[i] = b[i])) = true := by simp [hc]
    simp (implicitDefEqProofs := false) [L41, bodyOf, Try.f41, nav, T41, lm41, ex_draw2 _ _ hd, ex_skip, ex_region, ex_seq, thn_norm, thn_exit, thn_ret, ex_cond, iff_bool, ex_block, out_norm, out_ret, out_exit, ex_exit, ex_ret, kept, keep, ro_nil, ro_none, ro_some, gd_true, gd_false, ri_nil, ri_cons, ri_none, wants, runOp, stepOp, ev, ev1, evL, look, lift, putT, stepB, lenV, loadV, rd, ru, vu, wu, rdN, ptrAdd, isAggD, natOf, optN, rowsH, boxOf, seenC, stV, foldL, fold, foldR, putL, TV.cells, evs, rowsIn, partsV, elemsV, fillV, part1, -getElem?_pos, List.getElem?_cons_zero, List.getElem?_cons_succ, und37, cells60, und60, ints3_get hx, ints3_get hy, ints3_len, b_add, b_lss, b_neq, u_not, hi', hi, hw, tabCal, tabOf, seenTs, seenT, seen, hcall, bareT, bare1, landC, unflat, cut, hc1, Nat.add_assoc]
  · rename_i hc
    have hc1 : (decide (a[i] = b[i])) = false := by simp [hc]
    simp (implicitDefEqProofs := false) [L41, bodyOf, Try.f41, nav, T41, lm41, ex_draw2 _ _ hd, ex_skip, ex_region, ex_seq, thn_norm, thn_exit, thn_ret, ex_cond, iff_bool, ex_block, out_norm, out_ret, out_exit, ex_exit, ex_ret, kept, keep, ro_nil, ro_none, ro_some, gd_true, gd_false, ri_nil, ri_cons, ri_none, wants, runOp, stepOp, ev, ev1, evL, look, lift, putT, stepB, lenV, loadV, rd, ru, vu, wu, rdN, ptrAdd, isAggD, natOf, optN, rowsH, boxOf, seenC, stV, foldL, fold, foldR, putL, TV.cells, evs, rowsIn, partsV, elemsV, fillV, part1, -getElem?_pos, List.getElem?_cons_zero, List.getElem?_cons_succ, und37, cells60, und60, ints3_get hx, ints3_get hy, ints3_len, b_add, b_lss, b_neq, u_not, hi', hi, hw, tabCal, tabOf, seenTs, seenT, seen, hcall, bareT, bare1, landC, unflat, cut, hc1, Nat.add_assoc]
theorem end41 {a b : List (List (List Int))} {k : Nat} {cal : Cal} :
    kept 1 (lm41 0) (exec Try.prog cal k 1 lm41 0 L41 (T41 a b a.length)) = some (.exit 0, T41 a b a.length) := by
  simp (implicitDefEqProofs := false) [L41, bodyOf, Try.f41, nav, T41, lm41, ex_skip, ex_region, ex_seq, thn_norm, thn_exit, thn_ret, ex_cond, iff_bool, ex_block, out_norm, out_ret, out_exit, ex_exit, ex_ret, kept, keep, ro_nil, ro_none, ro_some, gd_true, gd_false, ri_nil, ri_cons, ri_none, wants, runOp, stepOp, ev, ev1, evL, look, lift, putT, stepB, lenV, loadV, rd, ru, vu, wu, rdN, ptrAdd, isAggD, natOf, optN, rowsH, boxOf, seenC, stV, foldL, fold, foldR, putL, TV.cells, evs, rowsIn, partsV, elemsV, fillV, part1, -getElem?_pos, List.getElem?_cons_zero, List.getElem?_cons_succ, und37, ints3_len, b_lss]
theorem fn41 : Fn Try.prog 41 F41 := by
  refine Fn.con [(56, F56)] (by simp [fn56]) mixed (fn := Try.f41) rfl rfl rfl (by kernel_rfl) 2 (by decide) (fun _ => rfl) lm41 (fun p hp => ⟨p.1.length + 1, ?_⟩)
  obtain ⟨a, b⟩ := p
  have hl : a.length ≤ 140737488355328 := hp.1
  simp only
  by_cases hab : a.length = b.length
  · obtain ⟨x, S', hloop, hQ⟩ := loop_run (P := Try.prog) (cal := tabCal (tabOf [(56, F56)])) (k := a.length + 1) (n0 := 1) (b := 0) (lm := lm41) (c := L41) (T41 a b) (fun i => i ≤ a.length) (fun i => a.length - i) (Q41 a b) (fun i q1 => by
        rcases Nat.lt_or_ge i a.length with hi | hi
        · have hj : i < b.length := by omega
          have hst := step41 (k := a.length + 1) hi hj hl (hp.2 _ (List.getElem_mem hi))
          by_cases hf : a[i] = b[i]
          · rw [if_pos hf] at hst
            refine .inl ⟨_, hst, hi, by omega, fun x S' hq => ?_⟩
            unfold Q41 at hq ⊢
            simpa only [drop_eq hi hj, hf, true_and] using hq
          · rw [if_neg hf] at hst
            refine .inr ⟨_, _, hst, by simp, ?_⟩
            unfold Q41
            simp [drop_eq hi hj, hf, look]
        · obtain rfl : i = a.length := by omega
          refine .inr ⟨_, _, end41, by simp, ?_⟩
          unfold Q41
          have : a.drop a.length = b.drop a.length := by simp [hab]
          rw [if_pos this]) (s := 0) (Nat.zero_le _) (by omega)
    have hab2 : ((a.length : Int) != b.length) = false := by simp [hab]
    replace hloop := hloop (T41 a b 0) (by simp [keep, lm41, T41, look])
    change loopAt _ _ _ _ _ _ _ _ = _ at hloop
    simp [L41, bodyOf, Try.f41, nav, T41] at hloop
    unfold Q41 at hQ
    simp only [List.drop_zero] at hQ
    split at hQ
    · rename_i he
      subst hQ
      subst he
      simp (implicitDefEqProofs := false) [told, body, Try.f41, slots, resT, resL, resV, flatT, flatL, shT, sh1, ex_skip, ex_region, ex_seq, thn_norm, thn_exit, thn_ret, ex_cond, iff_bool, ex_block, out_norm, out_ret, out_exit, ex_exit, ex_ret, kept, keep, ro_nil, ro_none, ro_some, gd_true, gd_false, ri_nil, ri_cons, ri_none, wants, runOp, stepOp, ev, ev1, evL, look, lift, putT, stepB, lenV, loadV, rd, ru, vu, wu, rdN, ptrAdd, isAggD, natOf, optN, rowsH, boxOf, seenC, stV, foldL, fold, foldR, putL, TV.cells, evs, rowsIn, partsV, elemsV, fillV, part1, -getElem?_pos, List.getElem?_cons_zero, List.getElem?_cons_succ, und37, ints3_len, b_neq, ex_loop, hloop, lm41]
    · rename_i he
      obtain ⟨rfl, hlook⟩ := hQ
      simp (implicitDefEqProofs := false) [told, body, Try.f41, slots, resT, resL, resV, flatT, flatL, shT, sh1, ex_skip, ex_region, ex_seq, thn_norm, thn_exit, thn_ret, ex_cond, iff_bool, ex_block, out_norm, out_ret, out_exit, ex_exit, ex_ret, kept, keep, ro_nil, ro_none, ro_some, gd_true, gd_false, ri_nil, ri_cons, ri_none, wants, runOp, stepOp, ev, ev1, evL, look, lift, putT, stepB, lenV, loadV, rd, ru, vu, wu, rdN, ptrAdd, isAggD, natOf, optN, rowsH, boxOf, seenC, stV, foldL, fold, foldR, putL, TV.cells, evs, rowsIn, partsV, elemsV, fillV, part1, -getElem?_pos, List.getElem?_cons_zero, List.getElem?_cons_succ, und37, ints3_len, b_neq, ex_loop, hloop, lm41, hlook, hab2, he]
  · have hne : ¬ a = b := fun h => hab (by rw [h])
    have hab' : ¬ (a.length : Int) = b.length := by omega
    simp (implicitDefEqProofs := false) [told, body, Try.f41, slots, resT, resL, resV, flatT, flatL, shT, sh1, ex_skip, ex_region, ex_seq, thn_norm, thn_exit, thn_ret, ex_cond, iff_bool, ex_block, out_norm, out_ret, out_exit, ex_exit, ex_ret, kept, keep, ro_nil, ro_none, ro_some, gd_true, gd_false, ri_nil, ri_cons, ri_none, wants, runOp, stepOp, ev, ev1, evL, look, lift, putT, stepB, lenV, loadV, rd, ru, vu, wu, rdN, ptrAdd, isAggD, natOf, optN, rowsH, boxOf, seenC, stV, foldL, fold, foldR, putL, TV.cells, evs, rowsIn, partsV, elemsV, fillV, part1, -getElem?_pos, List.getElem?_cons_zero, List.getElem?_cons_succ, und37, ints3_len, b_neq, hab', hab, hne]
theorem call41 {a b : List (List (List Int))} (h : ok41 a) : F41 [.one (.sl false 60 (ints3 false 48 a)), .one (.sl false 60 (ints3 false 48 b))] = some ((false, [none]), [.lit (.bool (decide (a = b)))]) :=
  con_at (arg := fun p : List (List (List Int)) × List (List (List Int)) => [.one (.sl false 60 (ints3 false 48 p.1)), .one (.sl false 60 (ints3 false 48 p.2))]) (a := (a, b)) (by rintro ⟨a, b⟩ ⟨c, d⟩ h; simpa using h) h

noncomputable def F22 : Con := con (fun p : List (List (List Int)) × List (List (List Int)) => [.agg [.sl false 60 (ints3 false 48 p.1)], .agg [.sl false 60 (ints3 false 48 p.2)]]) (fun p => ok41 p.1) (fun p => ((false, [none]), [.lit (.bool (decide (p.1 = p.2)))]))
theorem fn22 : Fn Try.prog 22 F22 := by
  refine Fn.con [(41, F41)] (by simp [fn41]) mixed (fn := Try.f22) rfl rfl rfl (by kernel_rfl) 2 (by decide) (fun _ => rfl) (fun _ => ([], 0)) (fun p hp => ⟨1, ?_⟩)
  obtain ⟨a, b⟩ := p
  simp only at hp ⊢
  have hcall := call41 (b := b) hp
  by_cases hc : a = b
  · subst hc
    simp (implicitDefEqProofs := false) [told, body, Try.f22, slots, resT, resL, resV, flatT, flatL, shT, sh1, ex_skip, ex_region, ex_seq, thn_norm, thn_exit, thn_ret, ex_cond, iff_bool, ex_block, out_norm, out_ret, out_exit, ex_exit, ex_ret, kept, keep, ro_nil, ro_none, ro_some, gd_true, gd_false, ri_nil, ri_cons, ri_none, wants, runOp, stepOp, ev, ev1, evL, look, lift, putT, stepB, lenV, loadV, rd, ru, vu, wu, rdN, ptrAdd, isAggD, natOf, optN, rowsH, boxOf, seenC, stV, foldL, fold, foldR, putL, TV.cells, evs, rowsIn, partsV, elemsV, fillV, part1, -getElem?_pos, List.getElem?_cons_zero, List.getElem?_cons_succ, und37, Try.underlying42, cells37, cells42, tabCal, tabOf, seenTs, seenT, seen, bareT, bare1, landC, unflat, cut, hcall, u_not]
  · simp (implicitDefEqProofs := false) [told, body, Try.f22, slots, resT, resL, resV, flatT, flatL, shT, sh1, ex_skip, ex_region, ex_seq, thn_norm, thn_exit, thn_ret, ex_cond, iff_bool, ex_block, out_norm, out_ret, out_exit, ex_exit, ex_ret, kept, keep, ro_nil, ro_none, ro_some, gd_true, gd_false, ri_nil, ri_cons, ri_none, wants, runOp, stepOp, ev, ev1, evL, look, lift, putT, stepB, lenV, loadV, rd, ru, vu, wu, rdN, ptrAdd, isAggD, natOf, optN, rowsH, boxOf, seenC, stV, foldL, fold, foldR, putL, TV.cells, evs, rowsIn, partsV, elemsV, fillV, part1, -getElem?_pos, List.getElem?_cons_zero, List.getElem?_cons_succ, und37, Try.underlying42, cells37, cells42, tabCal, tabOf, seenTs, seenT, seen, bareT, bare1, landC, unflat, cut, hcall, u_not, hc]
end Go.Proofs.Ytmkpoldhgdbjiaa.Vm

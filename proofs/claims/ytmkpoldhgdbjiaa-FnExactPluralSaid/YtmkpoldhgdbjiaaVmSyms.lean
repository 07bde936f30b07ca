/-
  Whether a row has none but symbols: impl.areSymbols.
-/
import Derived.Test.YtmkpoldhgdbjiaaVmSym
namespace Go.Proofs.Ytmkpoldhgdbjiaa.Vm
open Go Go.RowKit Go.Proofs
set_option linter.unusedVariables false
set_option linter.unusedSimpArgs false
set_option maxHeartbeats 4000000
theorem all_drop {α : Type} {p : α → Bool} {l : List α} {i : Nat} (h : i < l.length) : (l.drop i).all p = (p l[i] && (l.drop (i + 1)).all p) := by
  rw [List.drop_eq_getElem_cons h, List.all_cons]
abbrev bnd (s : Int) : Prop := s ≤ 9223372036854775807
noncomputable def L55 : Code := nav [1,0,1,0,0] (bodyOf Try.f55)
def lm55 : Nat → List Nat × Nat := fun _ => ([2, 4, 7, 8, 9], 1)
def T55 (l : List (List (List Int))) (r : List Int) (i : Nat) : St := ⟨[(2, .one (.bp 1 1 0)), (4, .one (.lit (.bool false))), (7, .one (.sl false 3 (ints r))), (8, .one (.lit (.int .i64 r.length))), (9, .one (.lit (.int .i64 i)))], [none, some (.box 1 [.sl false 60 (ints3 false 48 l)])], 2 + i⟩
def Q55 (n : Nat) (r : List Int) (i : Nat) (x : X) (S' : St) : Prop := if (r.drop i).all (sym n) then x = .exit 0 else x = .ret ∧ look S'.tm 4 = some (.one (.lit (.bool false)))
noncomputable def F55 : Con := con (fun p : List (List (List Int)) × List Int => [A3 p.1, .one (.sl false 3 (ints p.2))]) (fun p => p.1.length ≤ 140737488355328 ∧ p.2.length ≤ 140737488355328 ∧ ∀ s ∈ p.2, bnd s) (fun p => ((false, [none]), [.lit (.bool (p.2.all (sym p.1.length)))]))
theorem step55 {l : List (List (List Int))} {r : List Int} {i k : Nat} (hi : i < r.length) (hl : l.length ≤ 140737488355328) (hr : r.length ≤ 140737488355328) (hb : bnd r[i]) :
    kept 1 (lm55 0) (exec Try.prog (tabCal (tabOf [(65, F65)])) k 1 lm55 0 L55 (T55 l r i)) = if sym l.length r[i] then some (.norm, T55 l r (i + 1)) else some (.ret, ⟨[(2, .one (.bp 1 1 0)), (4, .one (.lit (.bool false))), (7, .one (.sl false 3 (ints r))), (8, .one (.lit (.int .i64 r.length))), (9, .one (.lit (.int .i64 i)))], [none, some (.box 1 [.sl false 60 (ints3 false 48 l)])], 2 + i + 1⟩) := by
  have hx : r[i]? = some r[i] := List.getElem?_eq_getElem hi
  have hi' : (i : Int) < r.length := by omega
  have hw := wrap_succ hi (by omega)
  have hcall := call65 (l := l) hl hb
  by_cases hc : sym l.length r[i] = true
  · simp (implicitDefEqProofs := false) [L55, bodyOf, Try.f55, nav, T55, lm55, ex_skip, ex_region, ex_seq, thn_norm, thn_exit, thn_ret, ex_cond, iff_bool, ex_block, out_norm, out_ret, out_exit, ex_exit, ex_ret, kept, keep, ro_nil, ro_none, ro_some, gd_true, gd_false, ri_nil, ri_cons, ri_none, wants, runOp, stepOp, ev, ev1, evL, look, lift, putT, stepB, lenV, loadV, rd, ru, vu, wu, rdN, ptrAdd, isAggD, natOf, optN, rowsH, boxOf, seenC, stV, foldL, fold, foldR, putL, TV.cells, evs, rowsIn, partsV, elemsV, fillV, part1, -getElem?_pos, List.getElem?_cons_zero, List.getElem?_cons_succ, und48, und3, cells3, Try.underlying42, cells42, ints_get hx, ints_len, b_add, b_lss, u_not, hi', hi, hw, tabCal, tabOf, seenTs, seenT, seenL, seen, hcall, bareT, bare1, landC, unflat, cut, hc, Nat.add_assoc]
  · simp (implicitDefEqProofs := false) [L55, bodyOf, Try.f55, nav, T55, lm55, ex_skip, ex_region, ex_seq, thn_norm, thn_exit, thn_ret, ex_cond, iff_bool, ex_block, out_norm, out_ret, out_exit, ex_exit, ex_ret, kept, keep, ro_nil, ro_none, ro_some, gd_true, gd_false, ri_nil, ri_cons, ri_none, wants, runOp, stepOp, ev, ev1, evL, look, lift, putT, stepB, lenV, loadV, rd, ru, vu, wu, rdN, ptrAdd, isAggD, natOf, optN, rowsH, boxOf, seenC, stV, foldL, fold, foldR, putL, TV.cells, evs, rowsIn, partsV, elemsV, fillV, part1, -getElem?_pos, List.getElem?_cons_zero, List.getElem?_cons_succ, und48, und3, cells3, Try.underlying42, cells42, ints_get hx, ints_len, b_add, b_lss, u_not, hi', hi, hw, tabCal, tabOf, seenTs, seenT, seenL, seen, hcall, bareT, bare1, landC, unflat, cut, hc, Nat.add_assoc]
theorem end55 {l : List (List (List Int))} {r : List Int} {k : Nat} {cal : Cal} :
    kept 1 (lm55 0) (exec Try.prog cal k 1 lm55 0 L55 (T55 l r r.length)) = some (.exit 0, T55 l r r.length) := by
  simp (implicitDefEqProofs := false) [L55, bodyOf, Try.f55, nav, T55, lm55, ex_skip, ex_region, ex_seq, thn_norm, thn_exit, thn_ret, ex_cond, iff_bool, ex_block, out_norm, out_ret, out_exit, ex_exit, ex_ret, kept, keep, ro_nil, ro_none, ro_some, gd_true, gd_false, ri_nil, ri_cons, ri_none, wants, runOp, stepOp, ev, ev1, evL, look, lift, putT, stepB, lenV, loadV, rd, ru, vu, wu, rdN, ptrAdd, isAggD, natOf, optN, rowsH, boxOf, seenC, stV, foldL, fold, foldR, putL, TV.cells, evs, rowsIn, partsV, elemsV, fillV, part1, -getElem?_pos, List.getElem?_cons_zero, List.getElem?_cons_succ, b_lss]
theorem fn55 : Fn Try.prog 55 F55 := by
  refine Fn.con [(65, F65)] (by simp [fn65]) mixed (fn := Try.f55) rfl rfl rfl (by kernel_rfl) 2 (by decide) (fun _ => rfl) lm55 (fun p hp => ⟨p.2.length + 1, ?_⟩)
  obtain ⟨l, r⟩ := p
  obtain ⟨hl, hr, hb⟩ := hp
  simp only at hl hr hb ⊢
  obtain ⟨x, S', hloop, hQ⟩ := loop_run (P := Try.prog) (cal := tabCal (tabOf [(65, F65)])) (k := r.length + 1) (n0 := 1) (b := 0) (lm := lm55) (c := L55) (T55 l r) (fun i => i ≤ r.length) (fun i => r.length - i) (Q55 l.length r) (fun i q1 => by
      rcases Nat.lt_or_ge i r.length with hi | hi
      · have hst := step55 (k := r.length + 1) hi hl hr (hb _ (List.getElem_mem hi))
        by_cases hf : sym l.length r[i] = true
        · rw [if_pos hf] at hst
          refine .inl ⟨_, hst, hi, by omega, fun x S' hq => ?_⟩
          unfold Q55 at hq ⊢
          simpa only [all_drop hi, hf, Bool.true_and] using hq
        · rw [if_neg hf] at hst
          refine .inr ⟨_, _, hst, by simp, ?_⟩
          unfold Q55
          simp [all_drop hi, hf, look]
      · obtain rfl : i = r.length := by omega
        refine .inr ⟨_, _, end55, by simp, ?_⟩
        unfold Q55
        simp) (s := 0) (Nat.zero_le _) (by omega)
  replace hloop := hloop (T55 l r 0) (by simp [keep, lm55, T55, look])
  change loopAt _ _ _ _ _ _ _ _ = _ at hloop
  simp [L55, bodyOf, Try.f55, nav, T55] at hloop
  unfold Q55 at hQ
  simp only [List.drop_zero] at hQ
  split at hQ
  · rename_i he
    subst hQ
    simp (implicitDefEqProofs := false) [told, body, Try.f55, slots, resT, resL, resV, flatT, flatL, shT, sh1, ex_skip, ex_region, ex_seq, thn_norm, thn_exit, thn_ret, ex_cond, iff_bool, ex_block, out_norm, out_ret, out_exit, ex_exit, ex_ret, kept, keep, ro_nil, ro_none, ro_some, gd_true, gd_false, ri_nil, ri_cons, ri_none, wants, runOp, stepOp, ev, ev1, evL, look, lift, putT, stepB, lenV, loadV, rd, ru, vu, wu, rdN, ptrAdd, isAggD, natOf, optN, rowsH, boxOf, seenC, stV, foldL, fold, foldR, putL, TV.cells, evs, rowsIn, partsV, elemsV, fillV, part1, -getElem?_pos, List.getElem?_cons_zero, List.getElem?_cons_succ, und48, ints_len, ex_loop, hloop, lm55]
    simpa using he
  · rename_i he
    obtain ⟨rfl, hlook⟩ := hQ
    have he : r.all (sym l.length) = false := by simpa using he
    simp (implicitDefEqProofs := false) [told, body, Try.f55, slots, resT, resL, resV, flatT, flatL, shT, sh1, ex_skip, ex_region, ex_seq, thn_norm, thn_exit, thn_ret, ex_cond, iff_bool, ex_block, out_norm, out_ret, out_exit, ex_exit, ex_ret, kept, keep, ro_nil, ro_none, ro_some, gd_true, gd_false, ri_nil, ri_cons, ri_none, wants, runOp, stepOp, ev, ev1, evL, look, lift, putT, stepB, lenV, loadV, rd, ru, vu, wu, rdN, ptrAdd, isAggD, natOf, optN, rowsH, boxOf, seenC, stV, foldL, fold, foldR, putL, TV.cells, evs, rowsIn, partsV, elemsV, fillV, part1, -getElem?_pos, List.getElem?_cons_zero, List.getElem?_cons_succ, und48, ints_len, ex_loop, hloop, lm55, hlook]
    simpa using he
theorem call55 {l : List (List (List Int))} {r : List Int} (h : l.length ≤ 140737488355328 ∧ r.length ≤ 140737488355328 ∧ ∀ s ∈ r, bnd s) : F55 [A3 l, .one (.sl false 3 (ints r))] = some ((false, [none]), [.lit (.bool (r.all (sym l.length)))]) :=
  con_at (arg := fun p : List (List (List Int)) × List Int => [A3 p.1, .one (.sl false 3 (ints p.2))]) (a := (l, r)) (by rintro ⟨a, b⟩ ⟨c, d⟩ h; simpa using h) h
end Go.Proofs.Ytmkpoldhgdbjiaa.Vm

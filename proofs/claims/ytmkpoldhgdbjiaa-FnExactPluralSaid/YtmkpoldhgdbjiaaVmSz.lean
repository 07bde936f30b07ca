/-
  What laws.szIntS, szIntSS, szIntSSS and szGram yield.
-/
import Derived.Test.YtmkpoldhgdbjiaaVmFacts
namespace Go.Proofs.Ytmkpoldhgdbjiaa.Vm
open Go Go.RowKit Go.Proofs
set_option linter.unusedVariables false
set_option linter.unusedSimpArgs false
def sz1 (l : List Int) (left : Int) : Int := if left - l.length < 0 then -1 else left - l.length
def szL {α : Type} (f : α → Int → Int) : List α → Int → Int
  | [], left => left
  | x :: r, left => if f x left < 0 then -1 else szL f r (f x left)
def szR {α : Type} (f : α → Int → Int) (l : List α) (left : Int) : Int := if left - l.length < 0 then -1 else szL f l (left - l.length)
def sz2 := szR sz1
def sz3 := szR sz2
theorem sz1_le (l : List Int) (left : Int) (h : 0 ≤ left) : sz1 l left ≤ left := by unfold sz1; split <;> omega
theorem szL_le {α : Type} {f : α → Int → Int} (hf : ∀ x left, 0 ≤ left → f x left ≤ left) : ∀ (l : List α) (left : Int), 0 ≤ left → szL f l left ≤ left := by
  intro l
  induction l with
  | nil => intro left h; simp [szL]
  | cons x l ih =>
    intro left h
    simp only [szL]
    split
    · omega
    · have := hf x left h
      have := ih (f x left) (by omega)
      omega
theorem szR_le {α : Type} {f : α → Int → Int} (hf : ∀ x left, 0 ≤ left → f x left ≤ left) (l : List α) (left : Int) (h : 0 ≤ left) : szR f l left ≤ left := by
  unfold szR
  split
  · omega
  · have := szL_le hf l (left - l.length) (by omega)
    omega
theorem szL_drop {α : Type} {f : α → Int → Int} {l : List α} {i : Nat} (h : i < l.length) (left : Int) : szL f (l.drop i) left = if f l[i] left < 0 then -1 else szL f (l.drop (i + 1)) (f l[i] left) := by
  rw [List.drop_eq_getElem_cons h]
  rfl
abbrev much : Int := 4611686018427387904
noncomputable def F63 : Con := con (fun a : List Int × Int => [.one (.sl false 3 (ints a.1)), .one (.lit (.int .i64 a.2))]) (fun a => 0 ≤ a.2 ∧ a.2 ≤ much ∧ a.1.length ≤ 140737488355328) (fun a => ((false, [none]), [.lit (.int .i64 (sz1 a.1 a.2))]))
theorem fn63 : Fn Try.prog 63 F63 := by
  refine Fn.con [] (by simp) mixed (fn := Try.f63) rfl rfl rfl (by kernel_rfl) 2 (by decide) (fun _ => rfl) (fun _ => ([], 0)) (fun a ha => ⟨1, ?_⟩)
  obtain ⟨l, left⟩ := a
  obtain ⟨h1, h2, h3⟩ := ha
  simp only [much] at h1 h2 h3 ⊢
  have hw : IntKind.i64.wrap (left - l.length) = left - l.length := wrap_id (by omega) (by omega)
  by_cases hc : left - (l.length : Int) < 0
  · simp (implicitDefEqProofs := false) [told, body, Try.f63, slots, resT, resL, resV, flatT, flatL, shT, sh1, ex_skip, ex_region, ex_seq, thn_norm, thn_exit, thn_ret, ex_cond, iff_bool, ex_block, out_norm, out_ret, out_exit, ex_exit, ex_ret, kept, keep, ro_nil, ro_none, ro_some, gd_true, gd_false, ri_nil, ri_cons, ri_none, wants, runOp, stepOp, ev, ev1, evL, look, lift, putT, stepB, lenV, loadV, rd, ru, vu, wu, rdN, ptrAdd, isAggD, natOf, optN, rowsH, boxOf, seenC, stV, foldL, fold, foldR, putL, TV.cells, evs, rowsIn, partsV, elemsV, fillV, part1, -getElem?_pos, List.getElem?_cons_zero, List.getElem?_cons_succ, und48, ints_len, b_sub, b_lss, hw, hc, sz1]
  · simp (implicitDefEqProofs := false) [told, body, Try.f63, slots, resT, resL, resV, flatT, flatL, shT, sh1, ex_skip, ex_region, ex_seq, thn_norm, thn_exit, thn_ret, ex_cond, iff_bool, ex_block, out_norm, out_ret, out_exit, ex_exit, ex_ret, kept, keep, ro_nil, ro_none, ro_some, gd_true, gd_false, ri_nil, ri_cons, ri_none, wants, runOp, stepOp, ev, ev1, evL, look, lift, putT, stepB, lenV, loadV, rd, ru, vu, wu, rdN, ptrAdd, isAggD, natOf, optN, rowsH, boxOf, seenC, stV, foldL, fold, foldR, putL, TV.cells, evs, rowsIn, partsV, elemsV, fillV, part1, -getElem?_pos, List.getElem?_cons_zero, List.getElem?_cons_succ, und48, ints_len, b_sub, b_lss, hw, hc, sz1]
theorem call63 {l : List Int} {left : Int} (h1 : 0 ≤ left) (h2 : left ≤ much) (h3 : l.length ≤ 140737488355328) : F63 [.one (.sl false 3 (ints l)), .one (.lit (.int .i64 left))] = some ((false, [none]), [.lit (.int .i64 (sz1 l left))]) :=
  con_at (arg := fun a : List Int × Int => [.one (.sl false 3 (ints a.1)), .one (.lit (.int .i64 a.2))]) (a := (l, left)) (by rintro ⟨a, b⟩ ⟨c, d⟩ h; simpa using h) ⟨h1, h2, h3⟩

abbrev big1 (l : List Int) : Prop := l.length ≤ 140737488355328
abbrev big2 (l : List (List Int)) : Prop := l.length ≤ 140737488355328 ∧ ∀ r ∈ l, big1 r
abbrev big3 (l : List (List (List Int))) : Prop := l.length ≤ 140737488355328 ∧ ∀ r ∈ l, big2 r

noncomputable def L51 : Code := nav [1,1,1,0,1,0,0] (bodyOf Try.f51)
def lm51 : Nat → List Nat × Nat := fun _ => ([0, 1, 4, 5], 0)
def T51 (l : List (List Int)) (s : Nat × Int) : St := ⟨[(0, .one (.sl false 48 (ints2 false l))), (1, .one (.lit (.int .i64 s.2))), (4, .one (.lit (.int .i64 0))), (5, .one (.lit (.int .i64 s.1)))], [none], 1 + s.1⟩
def Q51 (l : List (List Int)) (s : Nat × Int) (x : X) (S' : St) : Prop :=
  if szL sz1 (l.drop s.1) s.2 < 0 then x = .ret ∧ look S'.tm 4 = some (.one (.lit (.int .i64 (-1)))) ∧ szL sz1 (l.drop s.1) s.2 = -1 else x = .exit 0 ∧ look S'.tm 1 = some (.one (.lit (.int .i64 (szL sz1 (l.drop s.1) s.2))))
noncomputable def F51 : Con := con (fun a : List (List Int) × Int => [.one (.sl false 48 (ints2 false a.1)), .one (.lit (.int .i64 a.2))]) (fun a => 0 ≤ a.2 ∧ a.2 ≤ much ∧ big2 a.1) (fun a => ((false, [none]), [.lit (.int .i64 (sz2 a.1 a.2))]))
theorem step51 {l : List (List Int)} {i : Nat} {left : Int} {k : Nat} (hi : i < l.length) (hl : l.length ≤ 140737488355328) (h1 : 0 ≤ left) (h2 : left ≤ much) (hr : big1 l[i]) :
    kept 1 (lm51 0) (exec Try.prog (tabCal (tabOf [(63, F63)])) k 1 lm51 0 L51 (T51 l (i, left))) = if sz1 l[i] left < 0 then some (.ret, ⟨[(0, .one (.sl false 48 (ints2 false l))), (1, .one (.lit (.int .i64 (sz1 l[i] left)))), (4, .one (.lit (.int .i64 (-1)))), (5, .one (.lit (.int .i64 i)))], [none], 1 + i + 1⟩) else some (.norm, T51 l (i + 1, sz1 l[i] left)) := by
  have hx : l[i]? = some l[i] := List.getElem?_eq_getElem hi
  have hi' : (i : Int) < l.length := by omega
  have hcall := call63 h1 h2 hr
  have hw := wrap_succ hi (by omega)
  split
  · rename_i hc
    simp (implicitDefEqProofs := false) [L51, bodyOf, Try.f51, nav, T51, lm51, ex_skip, ex_region, ex_seq, thn_norm, thn_exit, thn_ret, ex_cond, iff_bool, ex_block, out_norm, out_ret, out_exit, ex_exit, ex_ret, kept, keep, ro_nil, ro_none, ro_some, gd_true, gd_false, ri_nil, ri_cons, ri_none, wants, runOp, stepOp, ev, ev1, evL, look, lift, putT, stepB, lenV, loadV, rd, ru, vu, wu, rdN, ptrAdd, isAggD, natOf, optN, rowsH, boxOf, seenC, stV, foldL, fold, foldR, putL, TV.cells, evs, rowsIn, partsV, elemsV, fillV, part1, -getElem?_pos, List.getElem?_cons_zero, List.getElem?_cons_succ, und60, cells48, und48, ints2_get hx, ints2_len, b_add, b_lss, hi', hi, tabCal, tabOf, seenTs, seenT, seen, hcall, bareT, bare1, landC, unflat, cut, hc, Nat.add_assoc]
  · rename_i hc
    simp (implicitDefEqProofs := false) [L51, bodyOf, Try.f51, nav, T51, lm51, ex_skip, ex_region, ex_seq, thn_norm, thn_exit, thn_ret, ex_cond, iff_bool, ex_block, out_norm, out_ret, out_exit, ex_exit, ex_ret, kept, keep, ro_nil, ro_none, ro_some, gd_true, gd_false, ri_nil, ri_cons, ri_none, wants, runOp, stepOp, ev, ev1, evL, look, lift, putT, stepB, lenV, loadV, rd, ru, vu, wu, rdN, ptrAdd, isAggD, natOf, optN, rowsH, boxOf, seenC, stV, foldL, fold, foldR, putL, TV.cells, evs, rowsIn, partsV, elemsV, fillV, part1, -getElem?_pos, List.getElem?_cons_zero, List.getElem?_cons_succ, und60, cells48, und48, ints2_get hx, ints2_len, b_add, b_lss, hi', hi, hw, tabCal, tabOf, seenTs, seenT, seen, hcall, bareT, bare1, landC, unflat, cut, hc, Nat.add_assoc]
theorem end51 {l : List (List Int)} {left : Int} {k : Nat} {cal : Cal} :
    kept 1 (lm51 0) (exec Try.prog cal k 1 lm51 0 L51 (T51 l (l.length, left))) = some (.exit 0, T51 l (l.length, left)) := by
  simp (implicitDefEqProofs := false) [L51, bodyOf, Try.f51, nav, T51, lm51, ex_skip, ex_region, ex_seq, thn_norm, thn_exit, thn_ret, ex_cond, iff_bool, ex_block, out_norm, out_ret, out_exit, ex_exit, ex_ret, kept, keep, ro_nil, ro_none, ro_some, gd_true, gd_false, ri_nil, ri_cons, ri_none, wants, runOp, stepOp, ev, ev1, evL, look, lift, putT, stepB, lenV, loadV, rd, ru, vu, wu, rdN, ptrAdd, isAggD, natOf, optN, rowsH, boxOf, seenC, stV, foldL, fold, foldR, putL, TV.cells, evs, rowsIn, partsV, elemsV, fillV, part1, -getElem?_pos, List.getElem?_cons_zero, List.getElem?_cons_succ, und60, ints2_len, b_lss]
theorem fn51 : Fn Try.prog 51 F51 := by
  refine Fn.con [(63, F63)] (by simp [fn63]) mixed (fn := Try.f51) rfl rfl rfl (by kernel_rfl) 2 (by decide) (fun _ => rfl) lm51 (fun a ha => ⟨a.1.length + 1, ?_⟩)
  obtain ⟨l, left⟩ := a
  obtain ⟨h1, h2, h3, h4⟩ := ha
  simp only at h1 h2 h3 h4 ⊢
  have hw : IntKind.i64.wrap (left - l.length) = left - l.length := wrap_id (by omega) (by simp only [much] at h2; omega)
  by_cases hc : left - (l.length : Int) < 0
  · simp (implicitDefEqProofs := false) [told, body, Try.f51, slots, resT, resL, resV, flatT, flatL, shT, sh1, ex_skip, ex_region, ex_seq, thn_norm, thn_exit, thn_ret, ex_cond, iff_bool, ex_block, out_norm, out_ret, out_exit, ex_exit, ex_ret, kept, keep, ro_nil, ro_none, ro_some, gd_true, gd_false, ri_nil, ri_cons, ri_none, wants, runOp, stepOp, ev, ev1, evL, look, lift, putT, stepB, lenV, loadV, rd, ru, vu, wu, rdN, ptrAdd, isAggD, natOf, optN, rowsH, boxOf, seenC, stV, foldL, fold, foldR, putL, TV.cells, evs, rowsIn, partsV, elemsV, fillV, part1, -getElem?_pos, List.getElem?_cons_zero, List.getElem?_cons_succ, und60, ints2_len, b_sub, b_lss, hw, hc, sz2, szR]
  · obtain ⟨x, S', hloop, hQ⟩ := loop_run (P := Try.prog) (cal := tabCal (tabOf [(63, F63)])) (k := l.length + 1) (n0 := 1) (b := 0) (lm := lm51) (c := L51) (T51 l) (fun s => s.1 ≤ l.length ∧ 0 ≤ s.2 ∧ s.2 ≤ much) (fun s => l.length - s.1) (Q51 l) (fun s hs => by
        obtain ⟨i, le⟩ := s
        obtain ⟨q1, q2, q3⟩ := hs
        simp only at q1 q2 q3
        rcases Nat.lt_or_ge i l.length with hi | hi
        · have hst := step51 (k := l.length + 1) hi h3 q2 q3 (h4 _ (List.getElem_mem hi))
          by_cases hf : sz1 l[i] le < 0
          · rw [if_pos hf] at hst
            refine .inr ⟨_, _, hst, by simp, ?_⟩
            unfold Q51
            simp only [szL_drop hi, if_pos hf]
            simp [look]
          · rw [if_neg hf] at hst
            refine .inl ⟨_, hst, ⟨hi, by simp only; omega, by have := sz1_le l[i] le q2; simp only; omega⟩, by simp only; omega, fun x S' hq => ?_⟩
            unfold Q51 at hq ⊢
            simp only [szL_drop hi, if_neg hf]
            exact hq
        · obtain rfl : i = l.length := by omega
          refine .inr ⟨_, _, end51, by simp, ?_⟩
          unfold Q51
          have : ¬ szL sz1 (l.drop l.length) le < 0 := by simp [szL]; exact q2
          simp only [if_neg this]
          simp [szL, look, T51]) (s := (0, left - l.length)) ⟨Nat.zero_le _, by simp only; omega, by simp only; omega⟩ (by simp only; omega)
    replace hloop := hloop (T51 l (0, left - l.length)) (by simp [keep, lm51, T51, look])
    change loopAt _ _ _ _ _ _ _ _ = _ at hloop
    simp [L51, bodyOf, Try.f51, nav, T51] at hloop
    unfold Q51 at hQ
    simp only [List.drop_zero] at hQ
    split at hQ
    · rename_i hneg
      obtain ⟨rfl, hlook, hm⟩ := hQ
      simp (implicitDefEqProofs := false) [told, body, Try.f51, slots, resT, resL, resV, flatT, flatL, shT, sh1, ex_skip, ex_region, ex_seq, thn_norm, thn_exit, thn_ret, ex_cond, iff_bool, ex_block, out_norm, out_ret, out_exit, ex_exit, ex_ret, kept, keep, ro_nil, ro_none, ro_some, gd_true, gd_false, ri_nil, ri_cons, ri_none, wants, runOp, stepOp, ev, ev1, evL, look, lift, putT, stepB, lenV, loadV, rd, ru, vu, wu, rdN, ptrAdd, isAggD, natOf, optN, rowsH, boxOf, seenC, stV, foldL, fold, foldR, putL, TV.cells, evs, rowsIn, partsV, elemsV, fillV, part1, -getElem?_pos, List.getElem?_cons_zero, List.getElem?_cons_succ, und60, ints2_len, b_sub, b_lss, hw, hc, sz2, szR, ex_loop, hloop, lm51, hlook, hm]
    · obtain ⟨rfl, hlook⟩ := hQ
      simp (implicitDefEqProofs := false) [told, body, Try.f51, slots, resT, resL, resV, flatT, flatL, shT, sh1, ex_skip, ex_region, ex_seq, thn_norm, thn_exit, thn_ret, ex_cond, iff_bool, ex_block, out_norm, out_ret, out_exit, ex_exit, ex_ret, kept, keep, ro_nil, ro_none, ro_some, gd_true, gd_false, ri_nil, ri_cons, ri_none, wants, runOp, stepOp, ev, ev1, evL, look, lift, putT, stepB, lenV, loadV, rd, ru, vu, wu, rdN, ptrAdd, isAggD, natOf, optN, rowsH, boxOf, seenC, stV, foldL, fold, foldR, putL, TV.cells, evs, rowsIn, partsV, elemsV, fillV, part1, -getElem?_pos, List.getElem?_cons_zero, List.getElem?_cons_succ, und60, ints2_len, b_sub, b_lss, hw, hc, sz2, szR, ex_loop, hloop, lm51, hlook]
theorem sz2_le (l : List (List Int)) (left : Int) (h : 0 ≤ left) : sz2 l left ≤ left := szR_le sz1_le l left h
theorem call51 {l : List (List Int)} {left : Int} (h1 : 0 ≤ left) (h2 : left ≤ much) (h3 : big2 l) : F51 [.one (.sl false 48 (ints2 false l)), .one (.lit (.int .i64 left))] = some ((false, [none]), [.lit (.int .i64 (sz2 l left))]) :=
  con_at (arg := fun a : List (List Int) × Int => [.one (.sl false 48 (ints2 false a.1)), .one (.lit (.int .i64 a.2))]) (a := (l, left)) (by rintro ⟨a, b⟩ ⟨c, d⟩ h; simpa using h) ⟨h1, h2, h3⟩

noncomputable def L37 : Code := nav [1,1,1,0,1,0,0] (bodyOf Try.f37)
def lm37 : Nat → List Nat × Nat := fun _ => ([0, 1, 4, 5], 0)
def T37 (l : List (List (List Int))) (s : Nat × Int) : St := ⟨[(0, .one (.sl false 60 (ints3 false 48 l))), (1, .one (.lit (.int .i64 s.2))), (4, .one (.lit (.int .i64 0))), (5, .one (.lit (.int .i64 s.1)))], [none], 1 + s.1⟩
def Q37 (l : List (List (List Int))) (s : Nat × Int) (x : X) (S' : St) : Prop :=
  if szL sz2 (l.drop s.1) s.2 < 0 then x = .ret ∧ look S'.tm 4 = some (.one (.lit (.int .i64 (-1)))) ∧ szL sz2 (l.drop s.1) s.2 = -1 else x = .exit 0 ∧ look S'.tm 1 = some (.one (.lit (.int .i64 (szL sz2 (l.drop s.1) s.2))))
noncomputable def F37 : Con := con (fun a : List (List (List Int)) × Int => [.one (.sl false 60 (ints3 false 48 a.1)), .one (.lit (.int .i64 a.2))]) (fun a => 0 ≤ a.2 ∧ a.2 ≤ much ∧ big3 a.1) (fun a => ((false, [none]), [.lit (.int .i64 (sz3 a.1 a.2))]))
theorem step37 {l : List (List (List Int))} {i : Nat} {left : Int} {k : Nat} (hi : i < l.length) (hl : l.length ≤ 140737488355328) (h1 : 0 ≤ left) (h2 : left ≤ much) (hr : big2 l[i]) :
    kept 1 (lm37 0) (exec Try.prog (tabCal (tabOf [(51, F51)])) k 1 lm37 0 L37 (T37 l (i, left))) = if sz2 l[i] left < 0 then some (.ret, ⟨[(0, .one (.sl false 60 (ints3 false 48 l))), (1, .one (.lit (.int .i64 (sz2 l[i] left)))), (4, .one (.lit (.int .i64 (-1)))), (5, .one (.lit (.int .i64 i)))], [none], 1 + i + 1⟩) else some (.norm, T37 l (i + 1, sz2 l[i] left)) := by
  have hx : l[i]? = some l[i] := List.getElem?_eq_getElem hi
  have hi' : (i : Int) < l.length := by omega
  have hcall := call51 h1 h2 hr
  have hw := wrap_succ hi (by omega)
  split
  · rename_i hc
    simp (implicitDefEqProofs := false) [L37, bodyOf, Try.f37, nav, T37, lm37, ex_skip, ex_region, ex_seq, thn_norm, thn_exit, thn_ret, ex_cond, iff_bool, ex_block, out_norm, out_ret, out_exit, ex_exit, ex_ret, kept, keep, ro_nil, ro_none, ro_some, gd_true, gd_false, ri_nil, ri_cons, ri_none, wants, runOp, stepOp, ev, ev1, evL, look, lift, putT, stepB, lenV, loadV, rd, ru, vu, wu, rdN, ptrAdd, isAggD, natOf, optN, rowsH, boxOf, seenC, stV, foldL, fold, foldR, putL, TV.cells, evs, rowsIn, partsV, elemsV, fillV, part1, -getElem?_pos, List.getElem?_cons_zero, List.getElem?_cons_succ, und37, cells60, und60, ints3_get hx, ints3_len, b_add, b_lss, hi', hi, tabCal, tabOf, seenTs, seenT, seen, hcall, bareT, bare1, landC, unflat, cut, hc, Nat.add_assoc]
  · rename_i hc
    simp (implicitDefEqProofs := false) [L37, bodyOf, Try.f37, nav, T37, lm37, ex_skip, ex_region, ex_seq, thn_norm, thn_exit, thn_ret, ex_cond, iff_bool, ex_block, out_norm, out_ret, out_exit, ex_exit, ex_ret, kept, keep, ro_nil, ro_none, ro_some, gd_true, gd_false, ri_nil, ri_cons, ri_none, wants, runOp, stepOp, ev, ev1, evL, look, lift, putT, stepB, lenV, loadV, rd, ru, vu, wu, rdN, ptrAdd, isAggD, natOf, optN, rowsH, boxOf, seenC, stV, foldL, fold, foldR, putL, TV.cells, evs, rowsIn, partsV, elemsV, fillV, part1, -getElem?_pos, List.getElem?_cons_zero, List.getElem?_cons_succ, und37, cells60, und60, ints3_get hx, ints3_len, b_add, b_lss, hi', hi, hw, tabCal, tabOf, seenTs, seenT, seen, hcall, bareT, bare1, landC, unflat, cut, hc, Nat.add_assoc]
theorem end37 {l : List (List (List Int))} {left : Int} {k : Nat} {cal : Cal} :
    kept 1 (lm37 0) (exec Try.prog cal k 1 lm37 0 L37 (T37 l (l.length, left))) = some (.exit 0, T37 l (l.length, left)) := by
  simp (implicitDefEqProofs := false) [L37, bodyOf, Try.f37, nav, T37, lm37, ex_skip, ex_region, ex_seq, thn_norm, thn_exit, thn_ret, ex_cond, iff_bool, ex_block, out_norm, out_ret, out_exit, ex_exit, ex_ret, kept, keep, ro_nil, ro_none, ro_some, gd_true, gd_false, ri_nil, ri_cons, ri_none, wants, runOp, stepOp, ev, ev1, evL, look, lift, putT, stepB, lenV, loadV, rd, ru, vu, wu, rdN, ptrAdd, isAggD, natOf, optN, rowsH, boxOf, seenC, stV, foldL, fold, foldR, putL, TV.cells, evs, rowsIn, partsV, elemsV, fillV, part1, -getElem?_pos, List.getElem?_cons_zero, List.getElem?_cons_succ, und37, ints3_len, b_lss]
theorem fn37 : Fn Try.prog 37 F37 := by
  refine Fn.con [(51, F51)] (by simp [fn51]) mixed (fn := Try.f37) rfl rfl rfl (by kernel_rfl) 2 (by decide) (fun _ => rfl) lm37 (fun a ha => ⟨a.1.length + 1, ?_⟩)
  obtain ⟨l, left⟩ := a
  obtain ⟨h1, h2, h3, h4⟩ := ha
  simp only at h1 h2 h3 h4 ⊢
  have hw : IntKind.i64.wrap (left - l.length) = left - l.length := wrap_id (by omega) (by simp only [much] at h2; omega)
  by_cases hc : left - (l.length : Int) < 0
  · simp (implicitDefEqProofs := false) [told, body, Try.f37, slots, resT, resL, resV, flatT, flatL, shT, sh1, ex_skip, ex_region, ex_seq, thn_norm, thn_exit, thn_ret, ex_cond, iff_bool, ex_block, out_norm, out_ret, out_exit, ex_exit, ex_ret, kept, keep, ro_nil, ro_none, ro_some, gd_true, gd_false, ri_nil, ri_cons, ri_none, wants, runOp, stepOp, ev, ev1, evL, look, lift, putT, stepB, lenV, loadV, rd, ru, vu, wu, rdN, ptrAdd, isAggD, natOf, optN, rowsH, boxOf, seenC, stV, foldL, fold, foldR, putL, TV.cells, evs, rowsIn, partsV, elemsV, fillV, part1, -getElem?_pos, List.getElem?_cons_zero, List.getElem?_cons_succ, und37, ints3_len, b_sub, b_lss, hw, hc, sz3, szR]
  · obtain ⟨x, S', hloop, hQ⟩ := loop_run (P := Try.prog) (cal := tabCal (tabOf [(51, F51)])) (k := l.length + 1) (n0 := 1) (b := 0) (lm := lm37) (c := L37) (T37 l) (fun s => s.1 ≤ l.length ∧ 0 ≤ s.2 ∧ s.2 ≤ much) (fun s => l.length - s.1) (Q37 l) (fun s hs => by
        obtain ⟨i, le⟩ := s
        obtain ⟨q1, q2, q3⟩ := hs
        simp only at q1 q2 q3
        rcases Nat.lt_or_ge i l.length with hi | hi
        · have hst := step37 (k := l.length + 1) hi h3 q2 q3 (h4 _ (List.getElem_mem hi))
          by_cases hf : sz2 l[i] le < 0
          · rw [if_pos hf] at hst
            refine .inr ⟨_, _, hst, by simp, ?_⟩
            unfold Q37
            simp only [szL_drop hi, if_pos hf]
            simp [look]
          · rw [if_neg hf] at hst
            refine .inl ⟨_, hst, ⟨hi, by simp only; omega, by have := sz2_le l[i] le q2; simp only; omega⟩, by simp only; omega, fun x S' hq => ?_⟩
            unfold Q37 at hq ⊢
            simp only [szL_drop hi, if_neg hf]
            exact hq
        · obtain rfl : i = l.length := by omega
          refine .inr ⟨_, _, end37, by simp, ?_⟩
          unfold Q37
          have : ¬ szL sz2 (l.drop l.length) le < 0 := by simp [szL]; exact q2
          simp only [if_neg this]
          simp [szL, look, T37]) (s := (0, left - l.length)) ⟨Nat.zero_le _, by simp only; omega, by simp only; omega⟩ (by simp only; omega)
    replace hloop := hloop (T37 l (0, left - l.length)) (by simp [keep, lm37, T37, look])
    change loopAt _ _ _ _ _ _ _ _ = _ at hloop
    simp [L37, bodyOf, Try.f37, nav, T37] at hloop
    unfold Q37 at hQ
    simp only [List.drop_zero] at hQ
    split at hQ
    · rename_i hneg
      obtain ⟨rfl, hlook, hm⟩ := hQ
      simp (implicitDefEqProofs := false) [told, body, Try.f37, slots, resT, resL, resV, flatT, flatL, shT, sh1, ex_skip, ex_region, ex_seq, thn_norm, thn_exit, thn_ret, ex_cond, iff_bool, ex_block, out_norm, out_ret, out_exit, ex_exit, ex_ret, kept, keep, ro_nil, ro_none, ro_some, gd_true, gd_false, ri_nil, ri_cons, ri_none, wants, runOp, stepOp, ev, ev1, evL, look, lift, putT, stepB, lenV, loadV, rd, ru, vu, wu, rdN, ptrAdd, isAggD, natOf, optN, rowsH, boxOf, seenC, stV, foldL, fold, foldR, putL, TV.cells, evs, rowsIn, partsV, elemsV, fillV, part1, -getElem?_pos, List.getElem?_cons_zero, List.getElem?_cons_succ, und37, ints3_len, b_sub, b_lss, hw, hc, sz3, szR, ex_loop, hloop, lm37, hlook, hm]
    · obtain ⟨rfl, hlook⟩ := hQ
      simp (implicitDefEqProofs := false) [told, body, Try.f37, slots, resT, resL, resV, flatT, flatL, shT, sh1, ex_skip, ex_region, ex_seq, thn_norm, thn_exit, thn_ret, ex_cond, iff_bool, ex_block, out_norm, out_ret, out_exit, ex_exit, ex_ret, kept, keep, ro_nil, ro_none, ro_some, gd_true, gd_false, ri_nil, ri_cons, ri_none, wants, runOp, stepOp, ev, ev1, evL, look, lift, putT, stepB, lenV, loadV, rd, ru, vu, wu, rdN, ptrAdd, isAggD, natOf, optN, rowsH, boxOf, seenC, stV, foldL, fold, foldR, putL, TV.cells, evs, rowsIn, partsV, elemsV, fillV, part1, -getElem?_pos, List.getElem?_cons_zero, List.getElem?_cons_succ, und37, ints3_len, b_sub, b_lss, hw, hc, sz3, szR, ex_loop, hloop, lm37, hlook]
theorem sz3_le (l : List (List (List Int))) (left : Int) (h : 0 ≤ left) : sz3 l left ≤ left := szR_le sz2_le l left h
theorem call37 {l : List (List (List Int))} {left : Int} (h1 : 0 ≤ left) (h2 : left ≤ much) (h3 : big3 l) : F37 [.one (.sl false 60 (ints3 false 48 l)), .one (.lit (.int .i64 left))] = some ((false, [none]), [.lit (.int .i64 (sz3 l left))]) :=
  con_at (arg := fun a : List (List (List Int)) × Int => [.one (.sl false 60 (ints3 false 48 a.1)), .one (.lit (.int .i64 a.2))]) (a := (l, left)) (by rintro ⟨a, b⟩ ⟨c, d⟩ h; simpa using h) ⟨h1, h2, h3⟩

noncomputable def F18 : Con := con (fun a : List (List (List Int)) × Int => [.agg [.sl false 60 (ints3 false 48 a.1)], .one (.lit (.int .i64 a.2))]) (fun a => 0 ≤ a.2 ∧ a.2 ≤ much ∧ big3 a.1) (fun a => ((false, [none]), [.lit (.int .i64 (if sz3 a.1 a.2 < 0 then -1 else sz3 a.1 a.2))]))
theorem fn18 : Fn Try.prog 18 F18 := by
  refine Fn.con [(37, F37)] (by simp [fn37]) mixed (fn := Try.f18) rfl rfl rfl (by kernel_rfl) 2 (by decide) (fun _ => rfl) (fun _ => ([], 0)) (fun a ha => ⟨1, ?_⟩)
  obtain ⟨l, left⟩ := a
  obtain ⟨h1, h2, h3⟩ := ha
  simp only at h1 h2 h3 ⊢
  have hcall := call37 h1 h2 h3
  by_cases hc : sz3 l left < 0
  · simp (implicitDefEqProofs := false) [told, body, Try.f18, slots, resT, resL, resV, flatT, flatL, shT, sh1, ex_skip, ex_region, ex_seq, thn_norm, thn_exit, thn_ret, ex_cond, iff_bool, ex_block, out_norm, out_ret, out_exit, ex_exit, ex_ret, kept, keep, ro_nil, ro_none, ro_some, gd_true, gd_false, ri_nil, ri_cons, ri_none, wants, runOp, stepOp, ev, ev1, evL, look, lift, putT, stepB, lenV, loadV, rd, ru, vu, wu, rdN, ptrAdd, isAggD, natOf, optN, rowsH, boxOf, seenC, stV, foldL, fold, foldR, putL, TV.cells, evs, rowsIn, partsV, elemsV, fillV, part1, -getElem?_pos, List.getElem?_cons_zero, List.getElem?_cons_succ, und37, Try.underlying39, cells37, cells39, tabCal, tabOf, seenTs, seenT, seen, bareT, bare1, landC, unflat, cut, hcall, b_lss, hc]
  · simp (implicitDefEqProofs := false) [told, body, Try.f18, slots, resT, resL, resV, flatT, flatL, shT, sh1, ex_skip, ex_region, ex_seq, thn_norm, thn_exit, thn_ret, ex_cond, iff_bool, ex_block, out_norm, out_ret, out_exit, ex_exit, ex_ret, kept, keep, ro_nil, ro_none, ro_some, gd_true, gd_false, ri_nil, ri_cons, ri_none, wants, runOp, stepOp, ev, ev1, evL, look, lift, putT, stepB, lenV, loadV, rd, ru, vu, wu, rdN, ptrAdd, isAggD, natOf, optN, rowsH, boxOf, seenC, stV, foldL, fold, foldR, putL, TV.cells, evs, rowsIn, partsV, elemsV, fillV, part1, -getElem?_pos, List.getElem?_cons_zero, List.getElem?_cons_succ, und37, Try.underlying39, cells37, cells39, tabCal, tabOf, seenTs, seenT, seen, bareT, bare1, landC, unflat, cut, hcall, b_lss, hc]
end Go.Proofs.Ytmkpoldhgdbjiaa.Vm

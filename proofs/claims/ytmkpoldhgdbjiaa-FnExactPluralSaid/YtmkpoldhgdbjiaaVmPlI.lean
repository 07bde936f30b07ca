/-
  What impl.Plural yields.
-/
import Derived.Test.YtmkpoldhgdbjiaaVmOk
namespace Go.Proofs.Ytmkpoldhgdbjiaa.Vm
open Go Go.RowKit Go.Proofs
set_option linter.unusedVariables false
set_option linter.unusedSimpArgs false
set_option maxHeartbeats 4000000
def psum (l : List (List (List Int))) (i : Nat) : Int := ((l.take i).map fun a => (a.length : Int)).sum
theorem psum_succ {l : List (List (List Int))} {i : Nat} (h : i < l.length) : psum l (i + 1) = psum l i + l[i].length := by
  unfold psum
  rw [List.take_succ_eq_append_getElem h, List.map_append, List.sum_append]
  simp only [List.map_cons, List.map_nil, List.sum_cons, List.sum_nil, Int.add_zero]
theorem psum_le {l : List (List (List Int))} (hl : ∀ a ∈ l, a.length ≤ 140737488355328) : ∀ i, i ≤ l.length → 0 ≤ psum l i ∧ psum l i ≤ i * 140737488355328 := by
  intro i
  induction i with
  | zero => intro _; simp [psum]
  | succ i ih =>
    intro h
    have h1 := ih (by omega)
    have h2 := hl _ (List.getElem_mem (show i < l.length by omega))
    rw [psum_succ (by omega)]
    constructor
    · omega
    · have : ((i + 1 : Nat) : Int) * 140737488355328 = (i : Int) * 140737488355328 + 140737488355328 := by rw [Int.natCast_add, Int.add_mul]; simp
      omega
def plural (l : List (List (List Int))) : Int := if gramOk l then psum l l.length else 0
noncomputable def L21 : Code := nav [1,1,1,0,1,0,0] (bodyOf Try.f21)
def lm21 : Nat → List Nat × Nat := fun _ => ([3, 10, 11, 12], 0)
def T21 (l : List (List (List Int))) (i : Nat) : St := ⟨[(3, .one (.lit (.int .i64 (psum l i)))), (10, .one (.sl false 60 (ints3 false 48 l))), (11, .one (.lit (.int .i64 l.length))), (12, .one (.lit (.int .i64 i)))], [none], 3⟩
theorem step21 {l : List (List (List Int))} {i k : Nat} {cal : Cal} (hi : i < l.length) (hl : l.length ≤ 20) (ha : ∀ a ∈ l, a.length ≤ 140737488355328) :
    kept 1 (lm21 0) (exec Try.prog cal k 1 lm21 0 L21 (T21 l i)) = some (.norm, T21 l (i + 1)) := by
  have hx : l[i]? = some l[i] := List.getElem?_eq_getElem hi
  have hi' : (i : Int) < l.length := by omega
  have hw := wrap_succ hi (by omega)
  have h1 := psum_le ha i (by omega)
  have h2 := ha _ (List.getElem_mem hi)
  have hs : IntKind.i64.wrap (psum l i + l[i].length) = psum l (i + 1) := by
    rw [psum_succ hi]
    have : (i : Int) * 140737488355328 ≤ 20 * 140737488355328 := Int.mul_le_mul_of_nonneg_right (by omega) (by omega)
    exact wrap_id (by omega) (by omega)
  simp (implicitDefEqProofs := false) [L21, bodyOf, Try.f21, nav, T21, lm21, ex_skip, ex_region, ex_seq, thn_norm, thn_exit, thn_ret, ex_cond, iff_bool, ex_block, out_norm, out_ret, out_exit, ex_exit, ex_ret, kept, keep, ro_nil, ro_none, ro_some, gd_true, gd_false, ri_nil, ri_cons, ri_none, wants, runOp, stepOp, ev, ev1, evL, look, lift, putT, stepB, lenV, loadV, rd, ru, vu, wu, rdN, ptrAdd, isAggD, natOf, optN, rowsH, boxOf, seenC, stV, foldL, fold, foldR, putL, TV.cells, evs, rowsIn, partsV, elemsV, fillV, part1, -getElem?_pos, List.getElem?_cons_zero, List.getElem?_cons_succ, und37, und60, cells60, ints3_get hx, ints2_len, b_add, b_lss, hi', hi, hw, hs]
theorem end21 {l : List (List (List Int))} {k : Nat} {cal : Cal} :
    kept 1 (lm21 0) (exec Try.prog cal k 1 lm21 0 L21 (T21 l l.length)) = some (.exit 0, T21 l l.length) := by
  simp (implicitDefEqProofs := false) [L21, bodyOf, Try.f21, nav, T21, lm21, ex_skip, ex_region, ex_seq, thn_norm, thn_exit, thn_ret, ex_cond, iff_bool, ex_block, out_norm, out_ret, out_exit, ex_exit, ex_ret, kept, keep, ro_nil, ro_none, ro_some, gd_true, gd_false, ri_nil, ri_cons, ri_none, wants, runOp, stepOp, ev, ev1, evL, look, lift, putT, stepB, lenV, loadV, rd, ru, vu, wu, rdN, ptrAdd, isAggD, natOf, optN, rowsH, boxOf, seenC, stV, foldL, fold, foldR, putL, TV.cells, evs, rowsIn, partsV, elemsV, fillV, part1, -getElem?_pos, List.getElem?_cons_zero, List.getElem?_cons_succ, b_lss]
noncomputable def F21 : Con := con (fun l : List (List (List Int)) => [A3 l]) okG (fun l => ((false, [none]), [.lit (.int .i64 (plural l))]))
theorem fn21 : Fn Try.prog 21 F21 := by
  refine Fn.con [(40, F40)] (by simp [fn40]) mixed (fn := Try.f21) rfl rfl rfl (by kernel_rfl) 1 (by decide) (fun _ => rfl) lm21 (fun l hl => ⟨l.length + 1, ?_⟩)
  have hcall := call40 hl
  unfold plural
  cases hq : gramOk l
  · rw [hq] at hcall
    simp (implicitDefEqProofs := false) [told, body, Try.f21, slots, resT, resL, resV, flatT, flatL, shT, sh1, ex_skip, ex_region, ex_seq, thn_norm, thn_exit, thn_ret, ex_cond, iff_bool, ex_block, out_norm, out_ret, out_exit, ex_exit, ex_ret, kept, keep, ro_nil, ro_none, ro_some, gd_true, gd_false, ri_nil, ri_cons, ri_none, wants, runOp, stepOp, ev, ev1, evL, look, lift, putT, stepB, lenV, loadV, rd, ru, vu, wu, rdN, ptrAdd, isAggD, natOf, optN, rowsH, boxOf, seenC, stV, foldL, fold, foldR, putL, TV.cells, evs, rowsIn, partsV, elemsV, fillV, part1, -getElem?_pos, List.getElem?_cons_zero, List.getElem?_cons_succ, Try.underlying42, cells42, u_not, hcall, tabCal, tabOf, seenTs, seenT, seenL, seen, bareT, bare1, landC, unflat, cut]
  · rw [hq] at hcall
    have h20 : l.length ≤ 20 := by
      unfold gramOk at hq
      simp at hq
      omega
    have hloop : exec Try.prog (tabCal (tabOf [(40, F40)])) (l.length + 1) 1 lm21 0 (.loop L21) (T21 l 0) = some (.exit 0, T21 l l.length) :=
      loop_to (T21 l) l.length (by simp) (by omega) (by simp [keep, lm21, T21, look]) (fun i hi => step21 hi h20 (fun a ha => (hl.2 a ha).1)) end21
    change loopAt _ _ _ _ _ _ _ _ = _ at hloop
    simp [L21, bodyOf, Try.f21, nav, T21, tabOf, psum] at hloop
    simp (implicitDefEqProofs := false) [told, body, Try.f21, slots, resT, resL, resV, flatT, flatL, shT, sh1, ex_skip, ex_region, ex_seq, thn_norm, thn_exit, thn_ret, ex_cond, iff_bool, ex_block, out_norm, out_ret, out_exit, ex_exit, ex_ret, kept, keep, ro_nil, ro_none, ro_some, gd_true, gd_false, ri_nil, ri_cons, ri_none, wants, runOp, stepOp, ev, ev1, evL, look, lift, putT, stepB, lenV, loadV, rd, ru, vu, wu, rdN, ptrAdd, isAggD, natOf, optN, rowsH, boxOf, seenC, stV, foldL, fold, foldR, putL, TV.cells, evs, rowsIn, partsV, elemsV, fillV, part1, -getElem?_pos, List.getElem?_cons_zero, List.getElem?_cons_succ, und37, cells37, Try.underlying42, cells42, ints3_len, u_not, hcall, tabCal, tabOf, seenTs, seenT, seenL, seen, bareT, bare1, landC, unflat, cut, ex_loop, hloop, lm21, psum]
theorem call21 {l : List (List (List Int))} (h : okG l) : F21 [A3 l] = some ((false, [none]), [.lit (.int .i64 (plural l))]) :=
  con_at (arg := fun l : List (List (List Int)) => [A3 l]) (by intro a b h; simpa using h) h
end Go.Proofs.Ytmkpoldhgdbjiaa.Vm

/-
  The law FnExactPlural: it tells true.
-/
import Derived.Test.YtmkpoldhgdbjiaaVmPlS
import Derived.Test.YtmkpoldhgdbjiaaVmTo
import Derived.Test.YtmkpoldhgdbjiaaVmSz
import Derived.Test.YtmkpoldhgdbjiaaVmEq
namespace Go.Proofs.Ytmkpoldhgdbjiaa.Vm
open Go Go.RowKit Go.Proofs
set_option linter.unusedVariables false
set_option linter.unusedSimpArgs false
set_option maxHeartbeats 4000000
theorem erRows_ints3 (own : Bool) (e : Nat) (l : List (List (List Int))) : erRows (ints3 own e l) = ints3 false e l := by
  cases own <;> simp [erRows_map, ints3, V.er, erRows_ints2] <;> intro a _ <;> simpa [erRows_map] using erRows_ints2 _ a
def okL (l : List (List (List Int))) : Prop := l.length * 24 ≤ 140737488351232 ∧ ∀ a ∈ l, a.length * 24 ≤ 140737488351232 ∧ ∀ r ∈ a, r.length * 8 ≤ 140737488351232 ∧ ∀ s ∈ r, (Lit.int .i64 s).wf = true
theorem wf_i64 {s : Int} (h : (Lit.int .i64 s).wf = true) : -9223372036854775808 ≤ s ∧ s ≤ 9223372036854775807 := by
  simp [Lit.wf, IntKind.min, IntKind.max, IntKind.bits, IntKind.signed] at h
  omega
theorem okL_39 {l : List (List (List Int))} (h : okL l) : ok39 l := ⟨by have := h.1; omega, fun a ha => ⟨by have := (h.2 a ha).1; omega, fun r hr => by have := ((h.2 a ha).2 r hr).1; omega⟩⟩
theorem okL_41 {l : List (List (List Int))} (h : okL l) : ok41 l := ⟨by have := h.1; omega, fun a ha => ⟨by have := (h.2 a ha).1; omega, fun r hr => by have := ((h.2 a ha).2 r hr).1; simp only [ok29]; omega⟩⟩
theorem okL_G {l : List (List (List Int))} (h : okL l) : okG l := ⟨by have := h.1; omega, fun a ha => ⟨by have := (h.2 a ha).1; omega, fun r hr => ⟨by have := ((h.2 a ha).2 r hr).1; omega, fun s hs => (wf_i64 (((h.2 a ha).2 r hr).2 s hs)).2⟩⟩⟩
theorem okL_big {l : List (List (List Int))} (h : okL l) : big3 l := ⟨by have := h.1; omega, fun a ha => ⟨by have := (h.2 a ha).1; omega, fun r hr => by have := ((h.2 a ha).2 r hr).1; simp only [big1]; omega⟩⟩
theorem call18 {l : List (List (List Int))} {left : Int} (h1 : 0 ≤ left) (h2 : left ≤ much) (h3 : big3 l) : F18 [A3 l, .one (.lit (.int .i64 left))] = some ((false, [none]), [.lit (.int .i64 (if sz3 l left < 0 then -1 else sz3 l left))]) :=
  con_at (arg := fun a : List (List (List Int)) × Int => [A3 a.1, .one (.lit (.int .i64 a.2))]) (a := (l, left)) (by rintro ⟨a, b⟩ ⟨c, d⟩ h; simpa using h) ⟨h1, h2, h3⟩
theorem call20 {l : List (List (List Int))} (h : ok39 l) : F20 [A3 l] = some ((false, [some 1]), [.sl true 60 (ints3 true 48 l)]) :=
  con_at (arg := fun l : List (List (List Int)) => [A3 l]) (by intro a b h; simpa using h) h
theorem call22 {a b : List (List (List Int))} (h : ok41 a) : F22 [A3 a, A3 b] = some ((false, [none]), [.lit (.bool (decide (a = b)))]) :=
  con_at (arg := fun p : List (List (List Int)) × List (List (List Int)) => [A3 p.1, A3 p.2]) (a := (a, b)) (by rintro ⟨a, b⟩ ⟨c, d⟩ h; simpa using h) h
noncomputable def F5 : Con := con (fun l : List (List (List Int)) => [A3 l]) okL (fun l => ((false, [none]), [.lit (.bool true)]))
theorem dr5 : drawn (opsOf (nav [1,1,1,1,1,1,1,1,0,0] (bodyOf Try.f5))) = some ([0, 1], [2, 3, 4]) := by kernel_rfl
theorem fn5 : Fn Try.prog 5 F5 := by
  refine Fn.con [(18, F18), (19, F19), (20, F20), (21, F21), (22, F22)] (by simp [fn18, fn19, fn20, fn21, fn22]) mixed (fn := Try.f5) rfl rfl rfl (by kernel_rfl) 1 (by decide) (fun _ => rfl) (fun _ => ([], 0)) (fun l hl => ⟨1, ?_⟩)
  have h18 := call18 (l := l) (left := 1048576) (by omega) (by simp [much]) (okL_big hl)
  have h19 := call19 (okL_G hl)
  have h20 := call20 (okL_39 hl)
  have h21 := call21 (okL_G hl)
  have h22 := call22 (b := l) (okL_41 hl)
  have hd := dr5
  simp only [bodyOf, Try.f5, nav, opsOf, Option.getD_some] at hd
  by_cases hz : sz3 l 1048576 < 0
  · simp only [hz, if_true] at h18
    simp (implicitDefEqProofs := false) [Try.f5, slots, resT, resL, resV, flatT, flatL, shT, sh1, told, body, ex_skip, ex_region, ex_seq, thn_norm, thn_exit, thn_ret, ex_cond, iff_bool, ex_block, out_norm, out_ret, out_exit, ex_exit, ex_ret, kept, keep, ro_nil, ro_none, ro_some, gd_true, gd_false, ri_nil, ri_cons, ri_none, wants, runOp, stepOp, ev, ev1, evL, look, lift, putT, stepB, lenV, loadV, rd, ru, vu, wu, rdN, ptrAdd, isAggD, natOf, optN, rowsH, boxOf, seenC, stV, foldL, fold, foldR, putL, TV.cells, evs, rowsIn, partsV, elemsV, fillV, part1, -getElem?_pos, List.getElem?_cons_zero, List.getElem?_cons_succ, cells3, cells48, cells60, cells37, cells39, cells42, und3, und48, und60, und37, Try.underlying42, ints_len, ints2_len, ints3_len, b_add, b_sub, b_mul, b_lss, b_leq, b_gtr, b_geq, b_eql, b_neq, u_not, tabCal, tabOf, seenTs, seenT, seenL, seen, bareT, bare1, landC, unflat, cut, Nat.add_assoc, h18]
  · simp only [hz, if_false] at h18
    simp (implicitDefEqProofs := false) [Try.f5, slots, resT, resL, resV, flatT, flatL, shT, sh1, told, body, ex_skip, ex_region, ex_seq, thn_norm, thn_exit, thn_ret, ex_cond, iff_bool, ex_block, out_norm, out_ret, out_exit, ex_exit, ex_ret, kept, keep, ro_nil, ro_none, ro_some, gd_true, gd_false, ri_nil, ri_cons, ri_none, wants, runOp, stepOp, ev, ev1, evL, look, lift, putT, stepB, lenV, loadV, rd, ru, vu, wu, rdN, ptrAdd, isAggD, natOf, optN, rowsH, boxOf, seenC, stV, foldL, fold, foldR, putL, TV.cells, evs, rowsIn, partsV, elemsV, fillV, part1, -getElem?_pos, List.getElem?_cons_zero, List.getElem?_cons_succ, cells3, cells48, cells60, cells37, cells39, cells42, und3, und48, und60, und37, Try.underlying42, ints_len, ints2_len, ints3_len, b_add, b_sub, b_mul, b_lss, b_leq, b_gtr, b_geq, b_eql, b_neq, u_not, tabCal, tabOf, seenTs, seenT, seenL, seen, bareT, bare1, landC, unflat, cut, Nat.add_assoc, h18, hz, h19, h20, h21, h22, zero42, Try.underlying39, erRows_ints3, ex_draw2 _ _ hd]
theorem call5 (l : List (List (List Int))) (h : okL l) : F5 [A3 l] = some ((false, [none]), [.lit (.bool true)]) :=
  con_at (arg := fun l : List (List (List Int)) => [A3 l]) (by intro a b h; simpa using h) h
end Go.Proofs.Ytmkpoldhgdbjiaa.Vm

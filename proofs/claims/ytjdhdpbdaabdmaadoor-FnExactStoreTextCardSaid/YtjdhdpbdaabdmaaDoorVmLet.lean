/-
  Letters, inputs and their texts: impl.isLetter, InputOk, InputText (spec, impl).
-/
import Derived.Test.YtjdhdpbdaabdmaaDoorVmIn
import Derived.Test.YtjdhdpbdaabdmaaDoorVmNum
import Derived.Test.YtjdhdpbdaabdmaaDoorVmScan
namespace Go.Proofs.YtjdhdpbdaabdmaaDoor.Vm
open Go Go.RowKit Go.Proofs
set_option linter.unusedVariables false
set_option linter.unusedSimpArgs false
set_option maxHeartbeats 4000000
def letter (s : Int) : Bool := decide (0 ≤ s) && decide (s ≤ 25)
noncomputable def FLet : Con := con (fun s : Int => [.one (.lit (.int .i64 s))]) (fun _ => True) (fun s => ((false, [none]), [.lit (.bool (letter s))]))
theorem callLet (s : Int) : FLet [.one (.lit (.int .i64 s))] = some ((false, [none]), [.lit (.bool (letter s))]) :=
  con_at (arg := fun s : Int => [.one (.lit (.int .i64 s))]) (by intro a b h; simpa using h) trivial
theorem fn_isLetter : Fn Tryd.prog 53 FLet := by
  refine Fn.con [(70, FIn)] (by simp [fn_inRange]) mixed (fn := Tryd.f53) Tryd.func53 rfl rfl (by kernel_rfl) 1 (by decide) (fun _ => rfl) (fun _ => ([], 0)) (fun s _ => ⟨1, ?_⟩)
  have hcall := callIn s 0 25
  simp (implicitDefEqProofs := false) [-getElem?_pos, -getElem?_neg, Tryd.f53, hcall, letter]
abbrev VI (l : List Int) : TV := .one (.sl false 3 (ints l))
theorem VI_inj : ∀ a b : List Int, [VI a] = [VI b] → a = b := by intro a b h; simpa using h
def inputOk (w : List Int) : Bool := decide (w.length ≤ 10) && w.all letter
abbrev okI (w : List Int) : Prop := w.length ≤ 140737488355328
noncomputable def FInputOk : Con := con (fun w : List Int => [VI w]) okI (fun w => ((false, [none]), [.lit (.bool (inputOk w))]))
theorem callInputOk {w : List Int} (h : okI w) : FInputOk [VI w] = some ((false, [none]), [.lit (.bool (inputOk w))]) := con_at (arg := fun w : List Int => [VI w]) VI_inj h
abbrev badB (t : Nat) (x : X) (S' : St) : Prop := x = .ret ∧ look S'.tm t = some (.one (.lit (.bool false)))
/-! ### spec.InputOk -/
noncomputable def LsIn : Code := nav [1,1,0,1,0,0] (bodyOf Tryd.f59)
def lmsIn : Nat → List Nat × Nat := fun _ => ([0, 2, 3], 0)
def TsIn (w : List Int) (s : Nat × Nat) : St := ⟨[(0, VI w), (2, .one (.lit (.bool false))), (3, .one (.lit (.int .i64 s.1)))], [none], s.2⟩
theorem stepsIn {w : List Int} {i e k : Nat} (hi : i < w.length) (hw : okI w) : if letter w[i] then ∃ e', kept 1 (lmsIn 0) (exec Tryd.prog (tabCal (tabOf [(50, FIn)])) k 1 lmsIn 0 LsIn (TsIn w (i, e))) = some (.norm, TsIn w (i + 1, e'))
    else ∃ x S', kept 1 (lmsIn 0) (exec Tryd.prog (tabCal (tabOf [(50, FIn)])) k 1 lmsIn 0 LsIn (TsIn w (i, e))) = some (x, S') ∧ x ≠ .norm ∧ badB 2 x S' := by
  have hx : w[i]? = some w[i] := List.getElem?_eq_getElem hi
  have hi' : (i : Int) < w.length := by omega
  have hw1 := wrap_succ hi (by omega)
  have hcall := callIn w[i] 0 25
  unfold letter
  generalize hq : (decide (0 ≤ w[i]) && decide (w[i] ≤ 25)) = q at hcall
  cases q
  · refine ⟨.ret, TsIn w (i, e + 1), ?_, by simp, rfl, by simp [TsIn, look]⟩
    simp (implicitDefEqProofs := false) [-getElem?_pos, -getElem?_neg, LsIn, bodyOf, Tryd.f59, nav, TsIn, lmsIn, ints_get hx, hi', hi, hcall]
  · refine ⟨e + 1, ?_⟩
    simp (implicitDefEqProofs := false) [-getElem?_pos, -getElem?_neg, LsIn, bodyOf, Tryd.f59, nav, TsIn, lmsIn, ints_get hx, hi', hi, hcall, hw1]
theorem endsIn {w : List Int} {e k : Nat} {cal : Cal} : kept 1 (lmsIn 0) (exec Tryd.prog cal k 1 lmsIn 0 LsIn (TsIn w (w.length, e))) = some (.exit 0, TsIn w (w.length, e)) := by
  simp (implicitDefEqProofs := false) [-getElem?_pos, -getElem?_neg, LsIn, bodyOf, Tryd.f59, nav, TsIn, lmsIn]
theorem fn_sInputOk : Fn Tryd.prog 59 FInputOk := by
  refine Fn.con [(50, FIn)] (by simp [fn_l1In]) mixed (fn := Tryd.f59) Tryd.func59 rfl rfl (by kernel_rfl) 1 (by decide) (fun _ => rfl) lmsIn (fun w hw => ⟨w.length + 1, ?_⟩)
  by_cases hl : w.length ≤ 10
  · have hl' : ¬ (w.length : Int) > 10 := by omega
    obtain ⟨x, S', hloop, hR⟩ := scan w letter (TsIn w) (badB 2) (fun i e hi => stepsIn (k := w.length + 1) hi hw) (fun e => endsIn) 1 (by simp [keep, lmsIn, TsIn, look]) (by omega)
    simp [LsIn, bodyOf, Tryd.f59, nav, TsIn, tabOf] at hloop
    cases hall : w.all letter
    · rw [hall] at hR
      obtain ⟨hn, rfl, hlook⟩ := hR
      simp (implicitDefEqProofs := false) [-getElem?_pos, -getElem?_neg, Tryd.f59, hl', ex_loop, hloop, lmsIn, hlook, inputOk, hl, hall]
    · rw [hall] at hR
      obtain ⟨rfl, e', rfl⟩ := hR
      simp only [TsIn] at hloop
      simp (implicitDefEqProofs := false) [-getElem?_pos, -getElem?_neg, Tryd.f59, hl', ex_loop, hloop, lmsIn, inputOk, hl, hall]
  · have hl' : (w.length : Int) > 10 := by omega
    simp (implicitDefEqProofs := false) [-getElem?_pos, -getElem?_neg, Tryd.f59, hl', inputOk, hl]
/-! ### impl.InputOk -/
noncomputable def LiIn : Code := nav [1,0,1,0,0] (bodyOf Tryd.f63)
def lmiIn : Nat → List Nat × Nat := fun _ => ([0, 2, 5, 6, 7], 0)
def TiIn (w : List Int) (s : Nat × Nat) : St := ⟨[(0, VI w), (2, .one (.lit (.bool false))), (5, VI w), (6, .one (.lit (.int .i64 w.length))), (7, .one (.lit (.int .i64 s.1)))], [none], s.2⟩
theorem stepiIn {w : List Int} {i e k : Nat} (hi : i < w.length) (hw : okI w) : if letter w[i] then ∃ e', kept 1 (lmiIn 0) (exec Tryd.prog (tabCal (tabOf [(53, FLet)])) k 1 lmiIn 0 LiIn (TiIn w (i, e))) = some (.norm, TiIn w (i + 1, e'))
    else ∃ x S', kept 1 (lmiIn 0) (exec Tryd.prog (tabCal (tabOf [(53, FLet)])) k 1 lmiIn 0 LiIn (TiIn w (i, e))) = some (x, S') ∧ x ≠ .norm ∧ badB 2 x S' := by
  have hx : w[i]? = some w[i] := List.getElem?_eq_getElem hi
  have hi' : (i : Int) < w.length := by omega
  have hw1 := wrap_succ hi (by omega)
  have hcall := callLet w[i]
  generalize letter w[i] = q at hcall
  cases q
  · refine ⟨.ret, TiIn w (i, e + 1), ?_, by simp, rfl, by simp [TiIn, look]⟩
    simp (implicitDefEqProofs := false) [-getElem?_pos, -getElem?_neg, LiIn, bodyOf, Tryd.f63, nav, TiIn, lmiIn, ints_get hx, hi', hi, hcall]
  · refine ⟨e + 1, ?_⟩
    simp (implicitDefEqProofs := false) [-getElem?_pos, -getElem?_neg, LiIn, bodyOf, Tryd.f63, nav, TiIn, lmiIn, ints_get hx, hi', hi, hcall, hw1]
theorem endiIn {w : List Int} {e k : Nat} {cal : Cal} : kept 1 (lmiIn 0) (exec Tryd.prog cal k 1 lmiIn 0 LiIn (TiIn w (w.length, e))) = some (.exit 0, TiIn w (w.length, e)) := by
  simp (implicitDefEqProofs := false) [-getElem?_pos, -getElem?_neg, LiIn, bodyOf, Tryd.f63, nav, TiIn, lmiIn]
theorem fn_iInputOk : Fn Tryd.prog 63 FInputOk := by
  refine Fn.con [(53, FLet)] (by simp [fn_isLetter]) mixed (fn := Tryd.f63) Tryd.func63 rfl rfl (by kernel_rfl) 1 (by decide) (fun _ => rfl) lmiIn (fun w hw => ⟨w.length + 1, ?_⟩)
  obtain ⟨x, S', hloop, hR⟩ := scan w letter (TiIn w) (badB 2) (fun i e hi => stepiIn (k := w.length + 1) hi hw) (fun e => endiIn) 1 (by simp [keep, lmiIn, TiIn, look]) (by omega)
  simp [LiIn, bodyOf, Tryd.f63, nav, TiIn, tabOf] at hloop
  have hl : decide ((w.length : Int) ≤ 10) = decide (w.length ≤ 10) := by rw [decide_eq_decide]; omega
  cases hall : w.all letter
  · rw [hall] at hR
    obtain ⟨hn, rfl, hlook⟩ := hR
    simp (implicitDefEqProofs := false) [-getElem?_pos, -getElem?_neg, Tryd.f63, ex_loop, hloop, lmiIn, hlook, inputOk, hall]
  · rw [hall] at hR
    obtain ⟨rfl, e', rfl⟩ := hR
    simp only [TiIn] at hloop
    simp (implicitDefEqProofs := false) [-getElem?_pos, -getElem?_neg, Tryd.f63, ex_loop, hloop, lmiIn, inputOk, hall, hl]
end Go.Proofs.YtjdhdpbdaabdmaaDoor.Vm

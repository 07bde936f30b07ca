/-
  An outcome's text: szOutcome, toOutcome, spec.OutcomeText, impl.OutcomeText; the law FnExactOutcomeText tells true.
-/
import Derived.Test.YtmkpoldhgdbjiaaDoorVmDig
import Derived.Test.YtmkpoldhgdbjiaaDoorVmCode
namespace Go.Proofs.YtmkpoldhgdbjiaaDoor.Vm
open Go Go.RowKit Go.Proofs
set_option linter.unusedVariables false
set_option linter.unusedSimpArgs false
set_option maxHeartbeats 4000000
/-- An outcome: its ticket, its code, its text. -/
abbrev Oc := Int × Int × ByteArray
abbrev ocV (o : Oc) : TV := .agg [.lit (.int .i64 o.1), .lit (.int .i64 o.2.1), .lit (.string o.2.2)]
abbrev okOc (o : Oc) : Prop := i64 o.1 ∧ i64 o.2.1 ∧ o.2.2.size ≤ 140737488351232
def ocText (o : Oc) : ByteArray := if o.2.2 = bs [] then dig o.1 ++ bs [32] ++ code o.2.1 else dig o.1 ++ bs [32] ++ code o.2.1 ++ bs [32] ++ o.2.2
theorem ocV_inj : ∀ a b : Oc, [ocV a] = [ocV b] → a = b := by
  rintro ⟨a, b, c⟩ ⟨d, e, f⟩ h
  simpa using h
noncomputable def FOcSz : Con := con (fun p : Oc × Int => [ocV p.1, .one (.lit (.int .i64 p.2))]) (fun p => okOc p.1 ∧ 0 ≤ p.2 ∧ p.2 ≤ 4611686018427387904) (fun p => ((false, [none]), [.lit (.int .i64 (if p.2 - p.1.2.2.size < 0 then -1 else p.2 - p.1.2.2.size))]))
theorem fn_szOutcome : Fn Tryd.prog 5 FOcSz := by
  refine Fn.con [] (by simp) mixed (fn := Tryd.f5) rfl rfl rfl (by kernel_rfl) 2 (by decide) (fun _ => rfl) (fun _ => ([], 0)) (fun p hp => ⟨1, ?_⟩)
  obtain ⟨⟨a, b, c⟩, left⟩ := p
  obtain ⟨⟨h1, h2, h3⟩, h4, h5⟩ := hp
  simp only at h1 h2 h3 h4 h5
  have hw : IntKind.i64.wrap (left - (c.size : Int)) = left - c.size := wrap_id (by omega) (by omega)
  by_cases hc : left - (c.size : Int) < 0
  · simp (implicitDefEqProofs := false) [-getElem?_pos, -getElem?_neg, Tryd.f5, hw, hc]
  · simp (implicitDefEqProofs := false) [-getElem?_pos, -getElem?_neg, Tryd.f5, hw, hc]
theorem callOcSz {o : Oc} {left : Int} (h : okOc o) (h1 : 0 ≤ left) (h2 : left ≤ 4611686018427387904) : FOcSz [ocV o, .one (.lit (.int .i64 left))] = some ((false, [none]), [.lit (.int .i64 (if left - o.2.2.size < 0 then -1 else left - o.2.2.size))]) :=
  con_at (arg := fun p : Oc × Int => [ocV p.1, .one (.lit (.int .i64 p.2))]) (a := (o, left)) (by rintro ⟨⟨a, b, c⟩, d⟩ ⟨⟨e, f, g⟩, i⟩ h; simpa [and_assoc] using h) ⟨h, h1, h2⟩
noncomputable def FOcTo : Con := con (fun o : Oc => [ocV o]) (fun _ => True) (fun o => ((false, [some 3]), [.lit (.int .i64 o.1), .lit (.int .i64 o.2.1), .lit (.string o.2.2)]))
theorem fn_toOutcome : Fn Tryd.prog 7 FOcTo := by
  refine Fn.con [] (by simp) mixed (fn := Tryd.f7) rfl rfl rfl (by kernel_rfl) 1 (by decide) (fun _ => rfl) (fun _ => ([], 0)) (fun o ho => ⟨1, ?_⟩)
  obtain ⟨a, b, c⟩ := o
  simp (implicitDefEqProofs := false) [-getElem?_pos, -getElem?_neg, Tryd.f7]
theorem callOcTo (o : Oc) : FOcTo [ocV o] = some ((false, [some 3]), [.lit (.int .i64 o.1), .lit (.int .i64 o.2.1), .lit (.string o.2.2)]) :=
  con_at (arg := fun o : Oc => [ocV o]) ocV_inj trivial
noncomputable def FOcText : Con := con (fun o : Oc => [ocV o]) okOc (fun o => ((false, [none]), [.lit (.string (ocText o))]))
theorem callOcText {o : Oc} (h : okOc o) : FOcText [ocV o] = some ((false, [none]), [.lit (.string (ocText o))]) := con_at (arg := fun o : Oc => [ocV o]) ocV_inj h
theorem dr_sOc : drawn (opsOf (nav [1,0] (bodyOf Tryd.f6))) = some ([0, 1, 4, 5], [2, 3, 6, 7, 8]) := by kernel_rfl
theorem dr_iOc : drawn (opsOf (nav [1,0] (bodyOf Tryd.f8))) = some ([0, 1, 4, 5], [2, 3, 6, 7, 8]) := by kernel_rfl
theorem fn_sOutcomeText : Fn Tryd.prog 6 FOcText := by
  refine Fn.con [(14, FDig), (15, FCode)] (by simp [fn_sDigits, fn_sCode]) mixed (fn := Tryd.f6) rfl rfl rfl (by kernel_rfl) 1 (by decide) (fun _ => rfl) (fun _ => ([], 0)) (fun o ho => ⟨1, ?_⟩)
  obtain ⟨a, b, c⟩ := o
  obtain ⟨h1, h2, h3⟩ := ho
  simp only at h1 h2 h3
  have hd := dr_sOc
  simp only [bodyOf, Tryd.f6, nav, opsOf, Option.getD_some] at hd
  have c1 := callDig h1
  have c2 := callCode b
  have s1 := dig_size h1
  have s2 := code_size b
  have e1 := fun P T x y => b_cat P T x y (dig a) (bs [32]) (by simp; omega)
  have e2 := fun P T x y => b_cat P T x y (dig a ++ bs [32]) (code b) (by simp [ba_size]; omega)
  have e3 := fun P T x y => b_cat P T x y (dig a ++ bs [32] ++ code b) (bs [32]) (by simp [ba_size]; omega)
  have e4 := fun P T x y => b_cat P T x y (dig a ++ bs [32] ++ code b ++ bs [32]) c (by simp [ba_size]; omega)
  by_cases hc : c = bs []
  · simp (implicitDefEqProofs := false) [-getElem?_pos, -getElem?_neg, Tryd.f6, ex_draw2 _ _ hd, c1, c2, e1, e2, hc, ocText]
  · simp (implicitDefEqProofs := false) [-getElem?_pos, -getElem?_neg, Tryd.f6, ex_draw2 _ _ hd, c1, c2, e1, e2, e3, e4, hc, ocText]
theorem fn_iOutcomeText : Fn Tryd.prog 8 FOcText Tab := by
  refine Fn.con [(16, FDig), (17, FCode)] (by simp [fn_iDigits, fn_iCode.any]) mixed (fn := Tryd.f8) rfl rfl rfl (by kernel_rfl) 1 (by decide) (fun _ => rfl) (fun _ => ([], 0)) (fun o ho => ⟨1, ?_⟩) stab_tab
  obtain ⟨a, b, c⟩ := o
  obtain ⟨h1, h2, h3⟩ := ho
  simp only at h1 h2 h3
  have hd := dr_iOc
  simp only [bodyOf, Tryd.f8, nav, opsOf, Option.getD_some] at hd
  have c1 := callDig h1
  have c2 := callCode b
  have s1 := dig_size h1
  have s2 := code_size b
  have e1 := fun P T x y => b_cat P T x y (dig a) (bs [32]) (by simp; omega)
  have e2 := fun P T x y => b_cat P T x y (dig a ++ bs [32]) (code b) (by simp [ba_size]; omega)
  have e3 := fun P T x y => b_cat P T x y (bs [32]) c (by simp; omega)
  have e4 : ∀ P T x y, binV P .add T x y (.string (dig a ++ bs [32] ++ code b)) (.string (bs [32] ++ c)) = some (.string (dig a ++ bs [32] ++ code b ++ bs [32] ++ c)) := fun P T x y => by rw [b_cat P T x y _ _ (by simp [ba_size]; omega), ← ba_assoc]
  by_cases hc : c = bs []
  · simp (implicitDefEqProofs := false) [-getElem?_pos, -getElem?_neg, Tryd.f8, ex_draw2 _ _ hd, c1, c2, e1, e2, hc, ocText]
  · simp (implicitDefEqProofs := false) [-getElem?_pos, -getElem?_neg, Tryd.f8, ex_draw2 _ _ hd, c1, c2, e1, e2, e3, e4, hc, ocText]
noncomputable def FLaw : Con := con (fun o : Oc => [ocV o]) okOc (fun o => ((false, [none]), [.lit (.bool true)]))
theorem fn_law : Fn Tryd.prog 3 FLaw Tab := by
  refine Fn.con [(5, FOcSz), (6, FOcText), (7, FOcTo), (8, FOcText)] (by simp [fn_szOutcome.any, fn_sOutcomeText.any, fn_toOutcome.any, fn_iOutcomeText]) mixed (fn := Tryd.f3) rfl rfl rfl (by kernel_rfl) 1 (by decide) (fun _ => rfl) (fun _ => ([], 0)) (fun o ho => ⟨1, ?_⟩) stab_tab
  have c1 := callOcSz ho (left := 1048576) (by omega) (by omega)
  have c2 := callOcTo o
  have c3 := callOcText ho
  obtain ⟨a, b, c⟩ := o
  simp only at c1 c2 c3
  by_cases hz : (1048576 : Int) - c.size < 0
  · rw [if_pos hz] at c1
    simp (implicitDefEqProofs := false) [-getElem?_pos, -getElem?_neg, Tryd.f3, c1, c2, c3]
  · rw [if_neg hz] at c1
    simp (implicitDefEqProofs := false) [-getElem?_pos, -getElem?_neg, Tryd.f3, c1, c2, c3, hz]
theorem callLaw (o : Oc) (h : (Lit.int .i64 o.1).wf = true ∧ (Lit.int .i64 o.2.1).wf = true ∧ o.2.2.size ≤ 140737488351232) : FLaw [ocV o] = some ((false, [none]), [.lit (.bool true)]) := con_at (arg := fun o : Oc => [ocV o]) ocV_inj ⟨wf_i64 h.1, wf_i64 h.2.1, h.2.2⟩
end Go.Proofs.YtmkpoldhgdbjiaaDoor.Vm

/-
  Orders and their texts: szOrder, toOrder, eqOrder; impl.orderOk; OrderText (spec, impl); the law FnExactOrderText tells true.
-/
import Derived.Test.YtmkpoldhgdbjiaaDoorVmDig
import Derived.Test.YtmkpoldhgdbjiaaDoorVmInText
import Derived.Test.YtmkpoldhgdbjiaaDoorVmParts
import Derived.Test.YtmkpoldhgdbjiaaDoorVmLaw1
namespace Go.Proofs.YtmkpoldhgdbjiaaDoor.Vm
open Go Go.RowKit Go.Proofs
set_option linter.unusedVariables false
set_option linter.unusedSimpArgs false
set_option maxHeartbeats 4000000
/-- An order: kind, three numbers, a text, an input. -/
abbrev Or := Int × Int × Int × Int × ByteArray × List Int
abbrev orC (own : Bool) (o : Or) : List V := [.lit (.int .i64 o.1), .lit (.int .i64 o.2.1), .lit (.int .i64 o.2.2.1), .lit (.int .i64 o.2.2.2.1), .lit (.string o.2.2.2.2.1), .sl own 3 (ints o.2.2.2.2.2)]
abbrev orV (o : Or) : TV := .agg (orC false o)
abbrev okOr (o : Or) : Prop := i64 o.1 ∧ i64 o.2.1 ∧ i64 o.2.2.1 ∧ i64 o.2.2.2.1 ∧ o.2.2.2.2.1.size ≤ 140737488351232 ∧ o.2.2.2.2.2.length * 8 ≤ 140737488351232
theorem orV_inj : ∀ a b : Or, [orV a] = [orV b] → a = b := by
  rintro ⟨a, b, c, d, e, f⟩ ⟨a', b', c', d', e', f'⟩ h
  simpa using h
def szOr (o : Or) (left : Int) : Int := if left - o.2.2.2.2.1.size < 0 then -1 else sz1 o.2.2.2.2.2 (left - o.2.2.2.2.1.size)
noncomputable def FOrSz : Con := con (fun p : Or × Int => [orV p.1, .one (.lit (.int .i64 p.2))]) (fun p => okOr p.1 ∧ 0 ≤ p.2 ∧ p.2 ≤ much) (fun p => ((false, [none]), [.lit (.int .i64 (szOr p.1 p.2))]))
theorem callOrSz {o : Or} {left : Int} (h : okOr o) (h1 : 0 ≤ left) (h2 : left ≤ much) : FOrSz [orV o, .one (.lit (.int .i64 left))] = some ((false, [none]), [.lit (.int .i64 (szOr o left))]) :=
  con_at (arg := fun p : Or × Int => [orV p.1, .one (.lit (.int .i64 p.2))]) (a := (o, left)) (by
    rintro ⟨⟨a, b, c, d, e, f⟩, i⟩ ⟨⟨a', b', c', d', e', f'⟩, i'⟩ h
    simpa [and_assoc] using h) ⟨h, h1, h2⟩
theorem fn_szOrder : Fn Tryd.prog 9 FOrSz := by
  refine Fn.con [(18, F63)] (by simp [fn63]) mixed (fn := Tryd.f9) rfl rfl rfl (by kernel_rfl) 2 (by decide) (fun _ => rfl) (fun _ => ([], 0)) (fun p hp => ⟨1, ?_⟩)
  obtain ⟨⟨k, a, b, c, t, w⟩, left⟩ := p
  obtain ⟨⟨h1, h2, h3, h4, h5, h6⟩, h7, h8⟩ := hp
  simp only [much] at h1 h2 h3 h4 h5 h6 h7 h8
  have hw : IntKind.i64.wrap (left - (t.size : Int)) = left - t.size := wrap_id (by omega) (by omega)
  unfold szOr
  by_cases hc : left - (t.size : Int) < 0
  · simp (implicitDefEqProofs := false) [-getElem?_pos, -getElem?_neg, Tryd.f9, hw, hc]
  · have hcall := call63 (l := w) (left := left - t.size) (by omega) (by simp only [much]; omega) (by omega)
    generalize hq : sz1 w (left - t.size) = q at hcall
    have hq2 : q < 0 → q = -1 := by
      intro h
      rw [← hq] at h ⊢
      unfold sz1 at h ⊢
      split at h
      · rename_i h2; rw [if_pos h2]
      · omega
    by_cases hn : q < 0
    · obtain rfl := hq2 hn
      simp (implicitDefEqProofs := false) [-getElem?_pos, -getElem?_neg, Tryd.f9, hw, hc, hcall, hq]
    · simp (implicitDefEqProofs := false) [-getElem?_pos, -getElem?_neg, Tryd.f9, hw, hc, hcall, hq, hn]
noncomputable def FOrTo : Con := con (fun o : Or => [orV o]) okOr (fun o => ((false, [some 6]), orC true o))
theorem callOrTo {o : Or} (h : okOr o) : FOrTo [orV o] = some ((false, [some 6]), orC true o) := con_at (arg := fun o : Or => [orV o]) orV_inj h
theorem fn_toOrder : Fn Tryd.prog 11 FOrTo := by
  refine Fn.con [(23, F64)] (by simp [fn64]) mixed (fn := Tryd.f11) rfl rfl rfl (by kernel_rfl) 1 (by decide) (fun _ => rfl) (fun _ => ([], 0)) (fun o ho => ⟨1, ?_⟩)
  obtain ⟨k, a, b, c, t, w⟩ := o
  obtain ⟨h1, h2, h3, h4, h5, h6⟩ := ho
  simp only at h1 h2 h3 h4 h5 h6
  have hcall := call64 (l := w) (by omega)
  simp (implicitDefEqProofs := false) [-getElem?_pos, -getElem?_neg, Tryd.f11, hcall]
noncomputable def FOrEq : Con := con (fun p : Or × Or => [orV p.1, orV p.2]) (fun p => okOr p.1) (fun p => ((false, [none]), [.lit (.bool (decide (p.1 = p.2)))]))
theorem callOrEq {o o' : Or} (h : okOr o) : FOrEq [orV o, orV o'] = some ((false, [none]), [.lit (.bool (decide (o = o')))]) :=
  con_at (arg := fun p : Or × Or => [orV p.1, orV p.2]) (a := (o, o')) (by
    rintro ⟨⟨a, b, c, d, e, f⟩, ⟨g, i, j, l, m, n⟩⟩ ⟨⟨a', b', c', d', e', f'⟩, ⟨g', i', j', l', m', n'⟩⟩ h
    simpa [and_assoc] using h) h
theorem fn_eqOrder : Fn Tryd.prog 13 FOrEq := by
  refine Fn.con [(26, F29)] (by simp [fn29]) mixed (fn := Tryd.f13) rfl rfl rfl (by kernel_rfl) 2 (by decide) (fun _ => rfl) (fun _ => ([], 0)) (fun p hp => ⟨1, ?_⟩)
  obtain ⟨⟨k, a, b, c, t, w⟩, ⟨k', a', b', c', t', w'⟩⟩ := p
  obtain ⟨h1, h2, h3, h4, h5, h6⟩ := hp
  simp only at h1 h2 h3 h4 h5 h6
  have hcall := call29 (a := w) (b := w') (by simp only [ok29]; omega)
  by_cases q1 : k = k'
  · subst q1
    by_cases q2 : a = a'
    · subst q2
      by_cases q3 : b = b'
      · subst q3
        by_cases q4 : c = c'
        · subst q4
          by_cases q5 : t = t'
          · subst q5
            by_cases q6 : w = w'
            · subst q6
              simp (implicitDefEqProofs := false) [-getElem?_pos, -getElem?_neg, Tryd.f13, hcall]
            · simp (implicitDefEqProofs := false) [-getElem?_pos, -getElem?_neg, Tryd.f13, hcall, q6]
          · simp (implicitDefEqProofs := false) [-getElem?_pos, -getElem?_neg, Tryd.f13, q5]
        · have e : (c != c') = true := by simp [q4]
          simp (implicitDefEqProofs := false) [-getElem?_pos, -getElem?_neg, Tryd.f13, q4, e]
      · have e : (b != b') = true := by simp [q3]
        simp (implicitDefEqProofs := false) [-getElem?_pos, -getElem?_neg, Tryd.f13, q3, e]
    · have e : (a != a') = true := by simp [q2]
      simp (implicitDefEqProofs := false) [-getElem?_pos, -getElem?_neg, Tryd.f13, q2, e]
  · have e : (k != k') = true := by simp [q1]
    simp (implicitDefEqProofs := false) [-getElem?_pos, -getElem?_neg, Tryd.f13, q1, e]
/-! ### the texts -/
def inR (lo hi x : Int) : Bool := decide (lo ≤ x) && decide (x ≤ hi)
theorem callR (x lo hi : Int) : FIn [.one (.lit (.int .i64 x)), .one (.lit (.int .i64 lo)), .one (.lit (.int .i64 hi))] = some ((false, [none]), [.lit (.bool (inR lo hi x))]) := callIn x lo hi
def ordOk (o : Or) : Bool := inR 0 5 o.1 && inR 0 999999 o.2.1 && inR 0 999999 o.2.2.1 && inR 0 999999 o.2.2.2.1 && inputOk o.2.2.2.2.2 && decide ((o.2.2.2.2.1.size : Int) ≤ 300) && !decide (10 ∈ o.2.2.2.2.1.data.toList)
def ordText (o : Or) : ByteArray := if ordOk o then dig o.1 ++ bs [32] ++ dig o.2.1 ++ bs [32] ++ dig o.2.2.1 ++ bs [32] ++ dig o.2.2.2.1 ++ bs [32] ++ inText o.2.2.2.2.2 ++ bs [32] ++ o.2.2.2.2.1 else bs []
noncomputable def FOrOk : Con := con (fun o : Or => [orV o]) okOr (fun o => ((false, [none]), [.lit (.bool (ordOk o))]))
theorem callOrOk {o : Or} (h : okOr o) : FOrOk [orV o] = some ((false, [none]), [.lit (.bool (ordOk o))]) := con_at (arg := fun o : Or => [orV o]) orV_inj h
noncomputable def FOrText : Con := con (fun o : Or => [orV o]) okOr (fun o => ((false, [none]), [.lit (.string (ordText o))]))
theorem callOrText {o : Or} (h : okOr o) : FOrText [orV o] = some ((false, [none]), [.lit (.string (ordText o))]) := con_at (arg := fun o : Or => [orV o]) orV_inj h
theorem fn_orderOk : Fn Tryd.prog 24 FOrOk := by
  refine Fn.con [(28, FIn), (29, FHas), (30, FInputOk)] (by simp [fn_inRange, fn_Contains, fn_iInputOk]) mixed (fn := Tryd.f24) rfl rfl rfl (by kernel_rfl) 1 (by decide) (fun _ => rfl) (fun _ => ([], 0)) (fun o ho => ⟨1, ?_⟩)
  obtain ⟨k, a, b, c, t, w⟩ := o
  obtain ⟨h1, h2, h3, h4, h5, h6⟩ := ho
  simp only at h1 h2 h3 h4 h5 h6
  have c1 := callR k 0 5
  have c2 := callR a 0 999999
  have c3 := callR b 0 999999
  have c4 := callR c 0 999999
  have c5 := callInputOk (w := w) (by simp only [okI]; omega)
  have c6 := callHas t
  unfold ordOk
  simp only
  generalize inR 0 5 k = q1 at *
  generalize inR 0 999999 a = q2 at *
  generalize inR 0 999999 b = q3 at *
  generalize inR 0 999999 c = q4 at *
  generalize inputOk w = q5 at *
  generalize decide (10 ∈ t.data.toList) = q7 at *
  cases q1
  · simp (implicitDefEqProofs := false) [-getElem?_pos, -getElem?_neg, Tryd.f24, c1]
  · cases q7
    · by_cases hs : (t.size : Int) ≤ 300
      · have hs' : ¬ (t.size : Int) > 300 := by omega
        cases q5
        · simp (implicitDefEqProofs := false) [-getElem?_pos, -getElem?_neg, Tryd.f24, c1, c6, hs', c5]
        · cases q2
          · simp (implicitDefEqProofs := false) [-getElem?_pos, -getElem?_neg, Tryd.f24, c1, c6, hs', c5, c2]
          · cases q3
            · simp (implicitDefEqProofs := false) [-getElem?_pos, -getElem?_neg, Tryd.f24, c1, c6, hs', c5, c2, c3]
            · cases q4
              · simp (implicitDefEqProofs := false) [-getElem?_pos, -getElem?_neg, Tryd.f24, c1, c6, hs', c5, c2, c3, c4]
              · simp (implicitDefEqProofs := false) [-getElem?_pos, -getElem?_neg, Tryd.f24, c1, c6, hs', hs, c5, c2, c3, c4]
      · have hs' : (t.size : Int) > 300 := by omega
        simp (implicitDefEqProofs := false) [-getElem?_pos, -getElem?_neg, Tryd.f24, c1, c6, hs', hs]
    · simp (implicitDefEqProofs := false) [-getElem?_pos, -getElem?_neg, Tryd.f24, c1, c6]
theorem dr_sOr : drawn (opsOf (nav [1,1,0] (bodyOf Tryd.f10))) = some ([0, 1, 4, 5, 9, 10, 14, 15, 19, 20, 24, 25], [2, 3, 6, 7, 8, 11, 12, 13, 16, 17, 18, 21, 22, 23, 26, 27]) := by kernel_rfl
theorem dr_iOr : drawn (opsOf (nav [1,1,0] (bodyOf Tryd.f12))) = some ([0, 1, 4, 5, 9, 10, 14, 15], [2, 3, 6, 7, 8, 11, 12, 13, 16, 17, 18]) := by kernel_rfl
theorem dr_iOr2 : drawn (opsOf (nav [1,1,1,0] (bodyOf Tryd.f12))) = some ([0, 1, 2, 3, 7, 8], [4, 5, 6, 9, 10]) := by kernel_rfl
theorem fn_sOrderText : Fn Tryd.prog 10 FOrText := by
  refine Fn.con [(19, FIn), (20, FInputOk), (21, FPar), (14, FDig), (22, FInText)] (by simp [fn_l1In, fn_sInputOk, fn_sParts, fn_sDigits, fn_sInText]) mixed (fn := Tryd.f10) rfl rfl rfl (by kernel_rfl) 1 (by decide) (fun _ => rfl) (fun _ => ([], 0)) (fun o ho => ⟨1, ?_⟩)
  obtain ⟨k, a, b, c, t, w⟩ := o
  obtain ⟨h1, h2, h3, h4, h5, h6⟩ := ho
  simp only at h1 h2 h3 h4 h5 h6
  have hwl : okI w := by simp only [okI]; omega
  have c1 := callR k 0 5
  have c2 := callR a 0 999999
  have c3 := callR b 0 999999
  have c4 := callR c 0 999999
  have c5 := callInputOk hwl
  unfold ordText ordOk
  simp only
  generalize inR 0 5 k = q1 at *
  generalize inR 0 999999 a = q2 at *
  generalize inR 0 999999 b = q3 at *
  generalize inR 0 999999 c = q4 at *
  generalize hq5 : inputOk w = q5 at *
  cases q1
  · simp (implicitDefEqProofs := false) [-getElem?_pos, -getElem?_neg, Tryd.f10, c1]
  cases q2
  · simp (implicitDefEqProofs := false) [-getElem?_pos, -getElem?_neg, Tryd.f10, c1, c2]
  cases q3
  · simp (implicitDefEqProofs := false) [-getElem?_pos, -getElem?_neg, Tryd.f10, c1, c2, c3]
  cases q4
  · simp (implicitDefEqProofs := false) [-getElem?_pos, -getElem?_neg, Tryd.f10, c1, c2, c3, c4]
  cases q5
  · simp (implicitDefEqProofs := false) [-getElem?_pos, -getElem?_neg, Tryd.f10, c1, c2, c3, c4, c5]
  by_cases hs : (t.size : Int) ≤ 300
  rotate_left
  · have hs' : (t.size : Int) > 300 := by omega
    simp (implicitDefEqProofs := false) [-getElem?_pos, -getElem?_neg, Tryd.f10, c1, c2, c3, c4, c5, hs', hs]
  have hs' : ¬ (t.size : Int) > 300 := by omega
  have c7 := callPar (s := t) 10 (by omega)
  have hp := partsF_one 10 t.data.toList []
  have e10 : ((10 : UInt8).toNat : Int) = 10 := rfl
  rw [e10] at c7
  by_cases hm : 10 ∈ t.data.toList
  · have hm' : ((parts 10 t).length : Int) > 1 := by
      have : 1 < (parts 10 t).length := hp.2 hm
      omega
    simp (implicitDefEqProofs := false) [-getElem?_pos, -getElem?_neg, Tryd.f10, c1, c2, c3, c4, c5, hs', c7, hm', hm]
  have hm' : ¬ ((parts 10 t).length : Int) > 1 := by
    have : ¬ 1 < (parts 10 t).length := fun h => hm (hp.1 h)
    omega
  have hd := dr_sOr
  simp only [bodyOf, Tryd.f10, nav, opsOf, Option.getD_some] at hd
  have d1 := callDig h1
  have d2 := callDig h2
  have d3 := callDig h3
  have d4 := callDig h4
  have d5 := callInText hwl
  have s1 := dig_size h1
  have s2 := dig_size h2
  have s3 := dig_size h3
  have s4 := dig_size h4
  have s5 := inText_size (w := w)
  have e0 := fun P T x y => b_cat P T x y (dig k) (bs [32]) (by simp only [ba_size, bs_size, List.length_cons, List.length_nil]; omega)
  have e1 := fun P T x y => b_cat P T x y (dig k ++ bs [32]) (dig a) (by simp only [ba_size, bs_size, List.length_cons, List.length_nil]; omega)
  have e2 := fun P T x y => b_cat P T x y (dig k ++ bs [32] ++ dig a) (bs [32]) (by simp only [ba_size, bs_size, List.length_cons, List.length_nil]; omega)
  have e3 := fun P T x y => b_cat P T x y (dig k ++ bs [32] ++ dig a ++ bs [32]) (dig b) (by simp only [ba_size, bs_size, List.length_cons, List.length_nil]; omega)
  have e4 := fun P T x y => b_cat P T x y (dig k ++ bs [32] ++ dig a ++ bs [32] ++ dig b) (bs [32]) (by simp only [ba_size, bs_size, List.length_cons, List.length_nil]; omega)
  have e5 := fun P T x y => b_cat P T x y (dig k ++ bs [32] ++ dig a ++ bs [32] ++ dig b ++ bs [32]) (dig c) (by simp only [ba_size, bs_size, List.length_cons, List.length_nil]; omega)
  have e6 := fun P T x y => b_cat P T x y (dig k ++ bs [32] ++ dig a ++ bs [32] ++ dig b ++ bs [32] ++ dig c) (bs [32]) (by simp only [ba_size, bs_size, List.length_cons, List.length_nil]; omega)
  have e7 := fun P T x y => b_cat P T x y (dig k ++ bs [32] ++ dig a ++ bs [32] ++ dig b ++ bs [32] ++ dig c ++ bs [32]) (inText w) (by simp only [ba_size, bs_size, List.length_cons, List.length_nil]; omega)
  have e8 := fun P T x y => b_cat P T x y (dig k ++ bs [32] ++ dig a ++ bs [32] ++ dig b ++ bs [32] ++ dig c ++ bs [32] ++ inText w) (bs [32]) (by simp only [ba_size, bs_size, List.length_cons, List.length_nil]; omega)
  have e9 := fun P T x y => b_cat P T x y (dig k ++ bs [32] ++ dig a ++ bs [32] ++ dig b ++ bs [32] ++ dig c ++ bs [32] ++ inText w ++ bs [32]) (t) (by simp only [ba_size, bs_size, List.length_cons, List.length_nil]; omega)
  simp (implicitDefEqProofs := false) [-getElem?_pos, -getElem?_neg, Tryd.f10, c1, c2, c3, c4, c5, hs', hs, c7, hm', hm, ex_draw2 _ _ hd, d1, d2, d3, d4, d5, e0, e1, e2, e3, e4, e5, e6, e7, e8, e9]
theorem fn_iOrderText : Fn Tryd.prog 12 FOrText Tab := by
  refine Fn.con [(24, FOrOk), (16, FDig), (25, FInText)] (by simp [fn_orderOk.any, fn_iDigits, fn_iInText.any]) mixed (fn := Tryd.f12) rfl rfl rfl (by kernel_rfl) 1 (by decide) (fun _ => rfl) (fun _ => ([], 0)) (fun o ho => ⟨1, ?_⟩) stab_tab
  have c1 := callOrOk ho
  obtain ⟨k, a, b, c, t, w⟩ := o
  obtain ⟨h1, h2, h3, h4, h5, h6⟩ := ho
  simp only at h1 h2 h3 h4 h5 h6 c1
  have hwl : okI w := by simp only [okI]; omega
  unfold ordText
  simp only
  generalize ordOk (k, a, b, c, t, w) = q at *
  cases q
  · simp (implicitDefEqProofs := false) [-getElem?_pos, -getElem?_neg, Tryd.f12, c1]
  have hd := dr_iOr
  simp only [bodyOf, Tryd.f12, nav, opsOf, Option.getD_some] at hd
  have hd2 := dr_iOr2
  simp only [bodyOf, Tryd.f12, nav, opsOf, Option.getD_some] at hd2
  have d1 := callDig h1
  have d2 := callDig h2
  have d3 := callDig h3
  have d4 := callDig h4
  have d5 := callInText hwl
  have s1 := dig_size h1
  have s2 := dig_size h2
  have s3 := dig_size h3
  have s4 := dig_size h4
  have s5 := inText_size (w := w)
  have e0 := fun P T x y => b_cat P T x y (dig k) (bs [32]) (by simp only [ba_size, bs_size, List.length_cons, List.length_nil]; omega)
  have e1 := fun P T x y => b_cat P T x y (dig k ++ bs [32]) (dig a) (by simp only [ba_size, bs_size, List.length_cons, List.length_nil]; omega)
  have e2 := fun P T x y => b_cat P T x y (dig k ++ bs [32] ++ dig a) (bs [32]) (by simp only [ba_size, bs_size, List.length_cons, List.length_nil]; omega)
  have e3 := fun P T x y => b_cat P T x y (dig k ++ bs [32] ++ dig a ++ bs [32]) (dig b) (by simp only [ba_size, bs_size, List.length_cons, List.length_nil]; omega)
  have e4 := fun P T x y => b_cat P T x y (dig k ++ bs [32] ++ dig a ++ bs [32] ++ dig b) (bs [32]) (by simp only [ba_size, bs_size, List.length_cons, List.length_nil]; omega)
  have e5 := fun P T x y => b_cat P T x y (dig k ++ bs [32] ++ dig a ++ bs [32] ++ dig b ++ bs [32]) (dig c) (by simp only [ba_size, bs_size, List.length_cons, List.length_nil]; omega)
  have e6 := fun P T x y => b_cat P T x y (dig k ++ bs [32] ++ dig a ++ bs [32] ++ dig b ++ bs [32] ++ dig c) (bs [32]) (by simp only [ba_size, bs_size, List.length_cons, List.length_nil]; omega)
  have e7 := fun P T x y => b_cat P T x y (dig k ++ bs [32] ++ dig a ++ bs [32] ++ dig b ++ bs [32] ++ dig c ++ bs [32]) (inText w) (by simp only [ba_size, bs_size, List.length_cons, List.length_nil]; omega)
  have e8 := fun P T x y => b_cat P T x y (dig k ++ bs [32] ++ dig a ++ bs [32] ++ dig b ++ bs [32] ++ dig c ++ bs [32] ++ inText w) (bs [32]) (by simp only [ba_size, bs_size, List.length_cons, List.length_nil]; omega)
  have e9 := fun P T x y => b_cat P T x y (dig k ++ bs [32] ++ dig a ++ bs [32] ++ dig b ++ bs [32] ++ dig c ++ bs [32] ++ inText w ++ bs [32]) (t) (by simp only [ba_size, bs_size, List.length_cons, List.length_nil]; omega)
  simp (implicitDefEqProofs := false) [-getElem?_pos, -getElem?_neg, Tryd.f12, c1, ex_draw2 _ _ hd, ex_draw2 _ _ hd2, d1, d2, d3, d4, d5, e0, e1, e2, e3, e4, e5, e6, e7, e8, e9]
noncomputable def FLawOr : Con := con (fun o : Or => [orV o]) okOr (fun o => ((false, [none]), [.lit (.bool true)]))
theorem dr_law : drawn (opsOf (nav [1,1,1,1,1,1,1,1,0,0] (bodyOf Tryd.f4))) = some ([0, 1], [2, 3, 4]) := by kernel_rfl
theorem fn_lawOr : Fn Tryd.prog 4 FLawOr Tab := by
  refine Fn.con [(9, FOrSz), (10, FOrText), (11, FOrTo), (12, FOrText), (13, FOrEq)] (by simp [fn_szOrder.any, fn_sOrderText.any, fn_toOrder.any, fn_iOrderText, fn_eqOrder.any]) mixed (fn := Tryd.f4) rfl rfl rfl (by kernel_rfl) 1 (by decide) (fun _ => rfl) (fun _ => ([], 0)) (fun o ho => ⟨1, ?_⟩) stab_tab
  have c1 := callOrSz ho (left := 1048576) (by omega) (by simp only [much]; omega)
  have c2 := callOrTo ho
  have c3 := callOrText ho
  have c4 := callOrEq (o' := o) ho
  obtain ⟨k, a, b, c, t, w⟩ := o
  simp only at c1 c2 c3 c4
  have hd := dr_law
  simp only [bodyOf, Tryd.f4, nav, opsOf, Option.getD_some] at hd
  generalize szOr (k, a, b, c, t, w) 1048576 = q at c1
  by_cases hz : q < 0
  · simp (implicitDefEqProofs := false) [-getElem?_pos, -getElem?_neg, Tryd.f4, c1, hz]
  · simp (implicitDefEqProofs := false) [-getElem?_pos, -getElem?_neg, Tryd.f4, c1, c2, c3, c4, hz, ex_draw2 _ _ hd, erRows_ints]
theorem callLawOr (o : Or) (h : (Lit.int .i64 o.1).wf = true ∧ (Lit.int .i64 o.2.1).wf = true ∧ (Lit.int .i64 o.2.2.1).wf = true ∧ (Lit.int .i64 o.2.2.2.1).wf = true ∧ o.2.2.2.2.1.size ≤ 140737488351232 ∧ (o.2.2.2.2.2.length * 8 ≤ 140737488351232 ∧ ∀ y ∈ o.2.2.2.2.2, (Lit.int .i64 y).wf = true)) : FLawOr [orV o] = some ((false, [none]), [.lit (.bool true)]) :=
  con_at (arg := fun o : Or => [orV o]) orV_inj ⟨wf_i64 h.1, wf_i64 h.2.1, wf_i64 h.2.2.1, wf_i64 h.2.2.2.1, h.2.2.2.2.1, h.2.2.2.2.2.1⟩
end Go.Proofs.YtmkpoldhgdbjiaaDoor.Vm

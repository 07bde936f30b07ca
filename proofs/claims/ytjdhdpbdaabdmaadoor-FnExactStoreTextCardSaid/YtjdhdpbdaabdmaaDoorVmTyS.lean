/-
  The laws' types: values, cells, how they are measured, copied, compared. Written by a program of mine (gentype.py).
-/
import Derived.Test.YtjdhdpbdaabdmaaDoorVmLaw1
import Derived.Test.YtjdhdpbdaabdmaaDoorVmNum
namespace Go.Proofs.YtjdhdpbdaabdmaaDoor.Vm
open Go Go.RowKit Go.Proofs
set_option linter.unusedVariables false
set_option linter.unusedSimpArgs false
set_option maxHeartbeats 8000000
def szThen (f g : Int → Int) (left : Int) : Int := if f left < 0 then -1 else g (f left)
theorem szThen_le {f g : Int → Int} (hf : ∀ l, 0 ≤ l → f l ≤ l) (hg : ∀ l, 0 ≤ l → g l ≤ l) (left : Int) (h : 0 ≤ left) : szThen f g left ≤ left := by
  unfold szThen
  split
  · omega
  · have := hf left h
    have := hg (f left) (by omega)
    omega
def sz0 {α : Type} (l : List α) (left : Int) : Int := if left - l.length < 0 then -1 else left - l.length
theorem sz0_le {α : Type} (l : List α) (left : Int) (h : 0 ≤ left) : sz0 l left ≤ left := by unfold sz0; split <;> omega
theorem rows_get {α : Type} {f : α → List V} {l : List α} {i : Nat} {x : α} (h : l[i]? = some x) : (l.map f)[i]? = some (f x) := by simp [h]
theorem rows_inj {α : Type} {f : α → List V} (hf : ∀ a b, f a = f b → a = b) {a b : List α} : a.map f = b.map f ↔ a = b := ⟨map_inj' hf a b, fun h => by rw [h]⟩
theorem rows_er {α : Type} {f g : α → List V} (h : ∀ a, (f a).map V.er = g a) (l : List α) : erRows (l.map f) = l.map g := by
  rw [erRows_map, List.map_map]
  exact List.map_congr_left fun a _ => h a
/-! ### Conf -/
abbrev TyConf := Int × (List (Int))
def cL_Conf (x : TyConf) : List V := [.lit (.int .i64 x.1), .sl false 3 (ints x.2)]
def cI_Conf (own : Bool) (x : TyConf) : List V := [.lit (.int .i64 x.1), .sl own 3 (ints x.2)]
abbrev ok_Conf (x : TyConf) : Prop := (Lit.int .i64 x.1).wf = true ∧ (x.2.length * 8 ≤ 140737488351232 ∧ ∀ y0 ∈ x.2, (Lit.int .i64 y0).wf = true)
theorem cL_Conf_inj : ∀ a b, cL_Conf a = cL_Conf b → a = b := by
  rintro ⟨a_0, a_1⟩ ⟨b_0, b_1⟩ h
  simpa [cL_Conf] using h
theorem cI_Conf_inj (own : Bool) : ∀ a b, cI_Conf own a = cI_Conf own b → a = b := by
  rintro ⟨a_0, a_1⟩ ⟨b_0, b_1⟩ h
  simpa [cI_Conf] using h
@[simp] theorem er_Conf (own : Bool) (x : TyConf) : (cI_Conf own x).map V.er = cI_Conf false x := by cases own <;> simp [cI_Conf, V.er, erRows_ints, erRows_ints2]
@[simp] theorem erR_Conf (own : Bool) (l : List TyConf) : erRows (l.map (cI_Conf own)) = l.map (cI_Conf false) := rows_er (er_Conf own) l
def sz_Conf (x : TyConf) : Int → Int := szThen (sz1 x.2) (id)
theorem sz_Conf_le (x : TyConf) (left : Int) (h : 0 ≤ left) : sz_Conf x left ≤ left := (szThen_le (sz1_le _) (fun l _ => Int.le_refl _)) left h
noncomputable def FSzConf : Con := con (fun p : TyConf × Int => [.agg (cL_Conf p.1), .one (.lit (.int .i64 p.2))]) (fun p => 0 ≤ p.2 ∧ p.2 ≤ much ∧ ok_Conf p.1) (fun p => ((false, [none]), [.lit (.int .i64 (sz_Conf p.1 p.2))]))
theorem callSzConf {x : TyConf} {left : Int} (h1 : 0 ≤ left) (h2 : left ≤ much) (h3 : ok_Conf x) : FSzConf [.agg (cL_Conf x), .one (.lit (.int .i64 left))] = some ((false, [none]), [.lit (.int .i64 (sz_Conf x left))]) :=
  con_at (arg := fun p : TyConf × Int => [.agg (cL_Conf p.1), .one (.lit (.int .i64 p.2))]) (a := (x, left)) (by
    rintro ⟨a, b⟩ ⟨c, d⟩ h
    simp only [List.cons.injEq, TV.agg.injEq, TV.one.injEq, V.lit.injEq, Value.int.injEq, true_and, and_true] at h
    rw [cL_Conf_inj _ _ h.1, h.2]) ⟨h1, h2, h3⟩
theorem fn_szConf : Fn Tryd.prog 90 FSzConf := by
  refine Fn.con [(29, F63)] (by simp [fn63]) mixed (fn := Tryd.f90) Tryd.func90 rfl rfl (by kernel_rfl) 2 (by decide) (fun _ => rfl) (fun _ => ([], 0)) (fun p hp => ⟨1, ?_⟩)
  obtain ⟨⟨v0, v1⟩, left⟩ := p
  obtain ⟨g1, g2, g3⟩ := hp
  simp only [much] at g1 g2
  simp only [ok_Conf] at g3
  simp only [sz_Conf, szThen, id]
  have c0 := call63 (l := v1) (left := left) (by omega) (by simp only [much]; omega) (by have := (g3.2).1; omega)
  have l0 := sz1_le v1 left (by omega : 0 ≤ left)
  generalize hq0 : sz1 v1 left = q0 at *
  skip
  by_cases hn0 : q0 < 0
  · simp (implicitDefEqProofs := false) [-getElem?_pos, -getElem?_neg, Tryd.f90, cL_Conf, cI_Conf, c0, hn0]
  simp (implicitDefEqProofs := false) [-getElem?_pos, -getElem?_neg, Tryd.f90, cL_Conf, cI_Conf, c0, hn0]
noncomputable def FSzConfS : Con := con (fun a : List TyConf × Int => [.one (.sl false 152 (a.1.map cL_Conf)), .one (.lit (.int .i64 a.2))]) (fun a => 0 ≤ a.2 ∧ a.2 ≤ much ∧ (a.1.length * 32 ≤ 140737488351232 ∧ ∀ y0 ∈ a.1, ok_Conf y0)) (fun a => ((false, [none]), [.lit (.int .i64 (szR sz_Conf a.1 a.2))]))
theorem callSzConfS {l : List TyConf} {left : Int} (h1 : 0 ≤ left) (h2 : left ≤ much) (h3 : (l.length * 32 ≤ 140737488351232 ∧ ∀ y0 ∈ l, ok_Conf y0)) : FSzConfS [.one (.sl false 152 (l.map cL_Conf)), .one (.lit (.int .i64 left))] = some ((false, [none]), [.lit (.int .i64 (szR sz_Conf l left))]) :=
  con_at (arg := fun a : List TyConf × Int => [.one (.sl false 152 (a.1.map cL_Conf)), .one (.lit (.int .i64 a.2))]) (a := (l, left)) (by rintro ⟨a, b⟩ ⟨c, d⟩ h; simpa [rows_inj cL_Conf_inj] using h) ⟨h1, h2, h3⟩
noncomputable def LSzConfS : Code := nav [1,1,1,0,1,0,0] (bodyOf Tryd.f75)
def lmSzConfS : Nat → List Nat × Nat := fun _ => ([0, 1, 4, 5], 0)
def TSzConfS (l : List TyConf) (s : Nat × Int) : St := ⟨[(0, .one (.sl false 152 (l.map cL_Conf))), (1, .one (.lit (.int .i64 s.2))), (4, .one (.lit (.int .i64 0))), (5, .one (.lit (.int .i64 s.1)))], [none], 1 + s.1⟩
def QSzConfS (l : List TyConf) (s : Nat × Int) (x : Vm.X) (S' : St) : Prop :=
  if szL sz_Conf (l.drop s.1) s.2 < 0 then x = .ret ∧ look S'.tm 4 = some (.one (.lit (.int .i64 (-1)))) ∧ szL sz_Conf (l.drop s.1) s.2 = -1 else x = .exit 0 ∧ look S'.tm 1 = some (.one (.lit (.int .i64 (szL sz_Conf (l.drop s.1) s.2))))
theorem stepSzConfS {l : List TyConf} {i : Nat} {left : Int} {k : Nat} (hi : i < l.length) (hl : l.length ≤ 140737488355328) (h1 : 0 ≤ left) (h2 : left ≤ much) (hr : ok_Conf l[i]) :
    kept 1 (lmSzConfS 0) (exec Tryd.prog (tabCal (tabOf [(90, FSzConf)])) k 1 lmSzConfS 0 LSzConfS (TSzConfS l (i, left))) = if sz_Conf l[i] left < 0 then some (.ret, ⟨[(0, .one (.sl false 152 (l.map cL_Conf))), (1, .one (.lit (.int .i64 (sz_Conf l[i] left)))), (4, .one (.lit (.int .i64 (-1)))), (5, .one (.lit (.int .i64 i)))], [none], 1 + i + 1⟩) else some (.norm, TSzConfS l (i + 1, sz_Conf l[i] left)) := by
  have hx : l[i]? = some l[i] := List.getElem?_eq_getElem hi
  have hi' : (i : Int) < l.length := by omega
  have hcall := callSzConf h1 h2 hr
  have hw := wrap_succ hi (by omega)
  simp only [cL_Conf, cI_Conf] at hcall
  generalize hq : sz_Conf l[i] left = q at *
  split
  · rename_i hc
    simp (implicitDefEqProofs := false) [-getElem?_pos, -getElem?_neg, LSzConfS, bodyOf, Tryd.f75, nav, TSzConfS, lmSzConfS, hx, cL_Conf, cI_Conf, hi', hi, hcall, hc]
  · rename_i hc
    simp (implicitDefEqProofs := false) [-getElem?_pos, -getElem?_neg, LSzConfS, bodyOf, Tryd.f75, nav, TSzConfS, lmSzConfS, hx, cL_Conf, cI_Conf, hi', hi, hw, hcall, hc]
theorem endSzConfS {l : List TyConf} {left : Int} {k : Nat} {cal : Cal} :
    kept 1 (lmSzConfS 0) (exec Tryd.prog cal k 1 lmSzConfS 0 LSzConfS (TSzConfS l (l.length, left))) = some (.exit 0, TSzConfS l (l.length, left)) := by
  simp (implicitDefEqProofs := false) [-getElem?_pos, -getElem?_neg, LSzConfS, bodyOf, Tryd.f75, nav, TSzConfS, lmSzConfS]
theorem fn_szConfS : Fn Tryd.prog 75 FSzConfS := by
  refine Fn.con [(90, FSzConf)] (by simp [fn_szConf]) mixed (fn := Tryd.f75) Tryd.func75 rfl rfl (by kernel_rfl) 2 (by decide) (fun _ => rfl) lmSzConfS (fun a ha => ⟨a.1.length + 1, ?_⟩)
  obtain ⟨l, left⟩ := a
  obtain ⟨h1, h2, h3, h4⟩ := ha
  simp only at h1 h2 h3 h4 ⊢
  have hl : l.length ≤ 140737488355328 := by omega
  have hw : IntKind.i64.wrap (left - l.length) = left - l.length := wrap_id (by omega) (by simp only [much] at h2; omega)
  by_cases hc : left - (l.length : Int) < 0
  · simp (implicitDefEqProofs := false) [-getElem?_pos, -getElem?_neg, Tryd.f75, hw, hc, szR]
  · obtain ⟨x, S', hloop, hQ⟩ := loop_run (P := Tryd.prog) (cal := tabCal (tabOf [(90, FSzConf)])) (k := l.length + 1) (n0 := 1) (b := 0) (lm := lmSzConfS) (c := LSzConfS) (TSzConfS l) (fun s => s.1 ≤ l.length ∧ 0 ≤ s.2 ∧ s.2 ≤ much) (fun s => l.length - s.1) (QSzConfS l) (fun s hs => by
        obtain ⟨i, le⟩ := s
        obtain ⟨q1, q2, q3⟩ := hs
        simp only at q1 q2 q3
        rcases Nat.lt_or_ge i l.length with hi | hi
        · have hst := stepSzConfS (k := l.length + 1) hi hl q2 q3 (h4 _ (List.getElem_mem hi))
          by_cases hf : sz_Conf l[i] le < 0
          · rw [if_pos hf] at hst
            refine .inr ⟨_, _, hst, by simp, ?_⟩
            unfold QSzConfS
            simp only [szL_drop hi, if_pos hf]
            simp [look]
          · rw [if_neg hf] at hst
            refine .inl ⟨_, hst, ⟨hi, by simp only; omega, by have := sz_Conf_le l[i] le q2; simp only; omega⟩, by simp only; omega, fun x S' hq => ?_⟩
            unfold QSzConfS at hq ⊢
            simp only [szL_drop hi, if_neg hf]
            exact hq
        · obtain rfl : i = l.length := by omega
          refine .inr ⟨_, _, endSzConfS, by simp, ?_⟩
          unfold QSzConfS
          have : ¬ szL sz_Conf (l.drop l.length) le < 0 := by simp [szL]; exact q2
          simp only [if_neg this]
          simp [szL, look, TSzConfS]) (s := (0, left - l.length)) ⟨Nat.zero_le _, by simp only; omega, by simp only; omega⟩ (by simp only; omega)
    replace hloop := hloop (TSzConfS l (0, left - l.length)) (by simp [keep, lmSzConfS, TSzConfS, look])
    change loopAt _ _ _ _ _ _ _ _ = _ at hloop
    simp [LSzConfS, bodyOf, Tryd.f75, nav, TSzConfS, tabOf] at hloop
    unfold QSzConfS at hQ
    simp only [List.drop_zero] at hQ
    split at hQ
    · rename_i hneg
      obtain ⟨rfl, hlook, hm⟩ := hQ
      simp (implicitDefEqProofs := false) [-getElem?_pos, -getElem?_neg, Tryd.f75, hw, hc, szR, ex_loop, hloop, lmSzConfS, hlook, hm]
    · obtain ⟨rfl, hlook⟩ := hQ
      simp (implicitDefEqProofs := false) [-getElem?_pos, -getElem?_neg, Tryd.f75, hw, hc, szR, ex_loop, hloop, lmSzConfS, hlook]
noncomputable def FToConf : Con := con (fun x : TyConf => [.agg (cL_Conf x)]) ok_Conf (fun x => ((false, [some 2]), cI_Conf true x))
theorem callToConf {x : TyConf} (h : ok_Conf x) : FToConf [.agg (cL_Conf x)] = some ((false, [some 2]), cI_Conf true x) := con_at (arg := fun x : TyConf => [.agg (cL_Conf x)]) (fun a b h => cL_Conf_inj a b (by simpa using h)) h
theorem fn_toConf : Fn Tryd.prog 91 FToConf := by
  refine Fn.con [(32, F64)] (by simp [fn64]) mixed (fn := Tryd.f91) Tryd.func91 rfl rfl (by kernel_rfl) 1 (by decide) (fun _ => rfl) (fun _ => ([], 0)) (fun x hx => ⟨1, ?_⟩)
  obtain ⟨v0, v1⟩ := x
  simp only [ok_Conf] at hx
  have c1 := call64 (l := v1) (by have := (hx.2).1; omega)
  simp (implicitDefEqProofs := false) [-getElem?_pos, -getElem?_neg, Tryd.f91, cL_Conf, cI_Conf, c1]
noncomputable def LToConfS : Code := nav [1,1,0,1,0,0] (bodyOf Tryd.f76)
def lmToConfS : Nat → List Nat × Nat := fun _ => ([0, 3, 4], 1)
def TToConfS (l : List TyConf) (ep i : Nat) : St := ⟨[(0, .one (.sl false 152 (l.map cL_Conf))), (3, .one (.ow 1 1)), (4, .one (.lit (.int .i64 i)))], [none, some (.rows 1 1 153 (upTo [.lit (.int .i64 0), .lit (.slice none 0 0)] (l.map (cI_Conf true)) i))], ep + i⟩
theorem stepToConfS (k ep : Nat) (l : List TyConf) (i : Nat) (hi : i < l.length) (hl : l.length ≤ 9223372036854775807) (hr : ∀ r ∈ l, ok_Conf r) :
    kept 1 (lmToConfS 0) (exec Tryd.prog (tabCal (tabOf [(91, FToConf)])) k 1 lmToConfS 0 LToConfS (TToConfS l ep i)) = some (.norm, TToConfS l ep (i + 1)) := by
  have hx : l[i]? = some l[i] := List.getElem?_eq_getElem hi
  have hi' : (i : Int) < l.length := by omega
  have hi2 : i < (l.map (cI_Conf true)).length := by rw [List.length_map]; exact hi
  have hlen : (upTo [V.lit (.int .i64 0), .lit (.slice none 0 0)] (l.map (cI_Conf true)) i).length = l.length := by rw [upTo_len (by omega), List.length_map]
  have hget := upTo_get (z := [V.lit (.int .i64 0), .lit (.slice none 0 0)]) hi2
  have hset := upTo_set (z := [V.lit (.int .i64 0), .lit (.slice none 0 0)]) (rows_get (f := cI_Conf true) hx)
  have hc := callToConf (hr _ (List.getElem_mem hi))
  have hw := wrap_succ hi hl
  generalize hP : upTo [V.lit (.int .i64 0), .lit (.slice none 0 0)] (l.map (cI_Conf true)) (i + 1) = P1 at *
  generalize hP0 : upTo [V.lit (.int .i64 0), .lit (.slice none 0 0)] (l.map (cI_Conf true)) i = P0 at *
  simp only [cL_Conf, cI_Conf] at hc hset
  simp only [TToConfS, hP, hP0]
  simp (implicitDefEqProofs := false) [-getElem?_pos, -getElem?_neg, LToConfS, bodyOf, Tryd.f76, nav, lmToConfS, hx, cL_Conf, cI_Conf, hget, hlen, hi', hw, hset, hi, hc, hP, hP0]
theorem endToConfS (k ep : Nat) (l : List TyConf) (cal : Cal) :
    kept 1 (lmToConfS 0) (exec Tryd.prog cal k 1 lmToConfS 0 LToConfS (TToConfS l ep l.length)) = some (.exit 0, TToConfS l ep l.length) := by
  simp (implicitDefEqProofs := false) [-getElem?_pos, -getElem?_neg, LToConfS, bodyOf, Tryd.f76, nav, TToConfS, lmToConfS]
noncomputable def FToConfS : Con := con (fun l : List TyConf => [.one (.sl false 152 (l.map cL_Conf))]) (fun l => (l.length * 32 ≤ 140737488351232 ∧ ∀ y0 ∈ l, ok_Conf y0)) (fun l => ((false, [none]), [.sl true 153 (l.map (cI_Conf true))]))
theorem callToConfS {l : List TyConf} (h : (l.length * 32 ≤ 140737488351232 ∧ ∀ y0 ∈ l, ok_Conf y0)) : FToConfS [.one (.sl false 152 (l.map cL_Conf))] = some ((false, [none]), [.sl true 153 (l.map (cI_Conf true))]) :=
  con_at (arg := fun l : List TyConf => [.one (.sl false 152 (l.map cL_Conf))]) (by intro a b h; simpa [rows_inj cL_Conf_inj] using h) h
theorem fn_toConfS : Fn Tryd.prog 76 FToConfS := by
  refine Fn.con [(91, FToConf)] (by simp [fn_toConf]) mixed (fn := Tryd.f76) Tryd.func76 rfl rfl (by kernel_rfl) 1 (by decide) (fun _ => rfl) lmToConfS (fun l hl => ⟨l.length + 1, ?_⟩)
  obtain ⟨hl, hr⟩ := hl
  have hloop : ∀ S, keep 1 (lmToConfS 0) S = TToConfS l S.ep 0 → exec Tryd.prog (tabCal (tabOf [(91, FToConf)])) (l.length + 1) 1 lmToConfS 0 (.loop LToConfS) S = some (.exit 0, TToConfS l S.ep l.length) := fun S hS =>
    loop_to (TToConfS l S.ep) l.length (by simp) (by omega) hS (fun i hi => stepToConfS _ S.ep l i hi (by omega) hr) (endToConfS _ S.ep l _)
  simp only [LToConfS, bodyOf, Tryd.f76, nav, Option.getD_some, tabOf] at hloop
  have h63 : l.length ≤ 9223372036854775807 := by omega
  have h47 : l.length * 32 ≤ 140737488355328 := by omega
  have hlm : (l.map (cI_Conf true)).length = l.length := List.length_map _
  simp (implicitDefEqProofs := false) [-getElem?_pos, -getElem?_neg, Tryd.f76, h47, h63, hloop, TToConfS, lmToConfS, upZero hlm, upAll hlm]
noncomputable def FEqConf : Con := con (fun p : TyConf × TyConf => [.agg (cI_Conf false p.1), .agg (cI_Conf false p.2)]) (fun p => ok_Conf p.1) (fun p => ((false, [none]), [.lit (.bool (decide (p.1 = p.2)))]))
theorem callEqConf {x y : TyConf} (h : ok_Conf x) : FEqConf [.agg (cI_Conf false x), .agg (cI_Conf false y)] = some ((false, [none]), [.lit (.bool (decide (x = y)))]) :=
  con_at (arg := fun p : TyConf × TyConf => [.agg (cI_Conf false p.1), .agg (cI_Conf false p.2)]) (a := (x, y)) (by
    rintro ⟨a, b⟩ ⟨c, d⟩ h
    simp only [List.cons.injEq, TV.agg.injEq, and_true] at h
    rw [cI_Conf_inj _ _ _ h.1, cI_Conf_inj _ _ _ h.2]) h
theorem fn_eqConf : Fn Tryd.prog 94 FEqConf := by
  refine Fn.con [(35, F29)] (by simp [fn29]) mixed (fn := Tryd.f94) Tryd.func94 rfl rfl (by kernel_rfl) 2 (by decide) (fun _ => rfl) (fun _ => ([], 0)) (fun p hp => ⟨1, ?_⟩)
  obtain ⟨⟨v0, v1⟩, ⟨v0', v1'⟩⟩ := p
  simp only [ok_Conf] at hp
  have c1 := call29 (a := v1) (b := v1') (by have := (hp.2).1; simp only [ok29]; omega)
  by_cases q0 : v0 = v0'
  rotate_left
  · have e : (v0 != v0') = true := by simp [q0]
    simp (implicitDefEqProofs := false) [-getElem?_pos, -getElem?_neg, Tryd.f94, cL_Conf, cI_Conf, c1, q0, e]
  subst q0
  by_cases q1 : v1 = v1'
  rotate_left
  · simp (implicitDefEqProofs := false) [-getElem?_pos, -getElem?_neg, Tryd.f94, cL_Conf, cI_Conf, c1, q1]
  subst q1
  simp (implicitDefEqProofs := false) [-getElem?_pos, -getElem?_neg, Tryd.f94, cL_Conf, cI_Conf, c1]
noncomputable def LEqConfS : Code := nav [1,1,0,1,0,0] (bodyOf Tryd.f79)
def lmEqConfS : Nat → List Nat × Nat := fun _ => ([0, 1, 4, 5], 0)
def TEqConfS (a b : List TyConf) (i : Nat) : St := ⟨[(0, .one (.sl false 153 (a.map (cI_Conf false)))), (1, .one (.sl false 153 (b.map (cI_Conf false)))), (4, .one (.lit (.bool false))), (5, .one (.lit (.int .i64 i)))], [none], 1 + i⟩
def QEqConfS (a b : List TyConf) (i : Nat) (x : Vm.X) (S' : St) : Prop := if a.drop i = b.drop i then x = .exit 0 else x = .ret ∧ look S'.tm 4 = some (.one (.lit (.bool false)))
noncomputable def FEqConfS : Con := con (fun p : List TyConf × List TyConf => [.one (.sl false 153 (p.1.map (cI_Conf false))), .one (.sl false 153 (p.2.map (cI_Conf false)))]) (fun p => (p.1.length * 32 ≤ 140737488351232 ∧ ∀ y0 ∈ p.1, ok_Conf y0)) (fun p => ((false, [none]), [.lit (.bool (decide (p.1 = p.2)))]))
theorem drEqConfS : drawn (opsOf (nav [1,0,0,0] LEqConfS)) = some ([0, 1, 2, 3, 4, 5, 6, 7], [8, 9]) := by kernel_rfl
theorem stepEqConfS {a b : List TyConf} {i k : Nat} (hi : i < a.length) (hj : i < b.length) (hl : a.length ≤ 140737488355328) (hr : ok_Conf a[i]) :
    kept 1 (lmEqConfS 0) (exec Tryd.prog (tabCal (tabOf [(94, FEqConf)])) k 1 lmEqConfS 0 LEqConfS (TEqConfS a b i)) = if a[i] = b[i] then some (.norm, TEqConfS a b (i + 1)) else some (.ret, ⟨[(0, .one (.sl false 153 (a.map (cI_Conf false)))), (1, .one (.sl false 153 (b.map (cI_Conf false)))), (4, .one (.lit (.bool false))), (5, .one (.lit (.int .i64 i)))], [none], 1 + i + 1⟩) := by
  have hx : a[i]? = some a[i] := List.getElem?_eq_getElem hi
  have hy : b[i]? = some b[i] := List.getElem?_eq_getElem hj
  have hi' : (i : Int) < a.length := by omega
  have hw := wrap_succ hi (by omega)
  have hd := drEqConfS
  simp only [LEqConfS, bodyOf, Tryd.f79, nav, opsOf, Option.getD_some] at hd
  have hcall := callEqConf (y := b[i]) hr
  simp only [cL_Conf, cI_Conf] at hcall
  split
  · rename_i hc
    have hc1 : (decide (a[i] = b[i])) = true := by simp [hc]
    rw [hc1] at hcall
    simp (implicitDefEqProofs := false) [-getElem?_pos, -getElem?_neg, LEqConfS, bodyOf, Tryd.f79, nav, TEqConfS, lmEqConfS, ex_draw2 _ _ hd, hx, hy, cL_Conf, cI_Conf, hi', hi, hw, hcall]
  · rename_i hc
    have hc1 : (decide (a[i] = b[i])) = false := by simp [hc]
    rw [hc1] at hcall
    simp (implicitDefEqProofs := false) [-getElem?_pos, -getElem?_neg, LEqConfS, bodyOf, Tryd.f79, nav, TEqConfS, lmEqConfS, ex_draw2 _ _ hd, hx, hy, cL_Conf, cI_Conf, hi', hi, hw, hcall]
theorem endEqConfS {a b : List TyConf} {k : Nat} {cal : Cal} :
    kept 1 (lmEqConfS 0) (exec Tryd.prog cal k 1 lmEqConfS 0 LEqConfS (TEqConfS a b a.length)) = some (.exit 0, TEqConfS a b a.length) := by
  simp (implicitDefEqProofs := false) [-getElem?_pos, -getElem?_neg, LEqConfS, bodyOf, Tryd.f79, nav, TEqConfS, lmEqConfS]
theorem fn_eqConfS : Fn Tryd.prog 79 FEqConfS := by
  refine Fn.con [(94, FEqConf)] (by simp [fn_eqConf]) mixed (fn := Tryd.f79) Tryd.func79 rfl rfl (by kernel_rfl) 2 (by decide) (fun _ => rfl) lmEqConfS (fun p hp => ⟨p.1.length + 1, ?_⟩)
  obtain ⟨a, b⟩ := p
  have hl : a.length ≤ 140737488355328 := by have := hp.1; simp only at this; omega
  simp only
  by_cases hab : a.length = b.length
  · obtain ⟨x, S', hloop, hQ⟩ := loop_run (P := Tryd.prog) (cal := tabCal (tabOf [(94, FEqConf)])) (k := a.length + 1) (n0 := 1) (b := 0) (lm := lmEqConfS) (c := LEqConfS) (TEqConfS a b) (fun i => i ≤ a.length) (fun i => a.length - i) (QEqConfS a b) (fun i q1 => by
        rcases Nat.lt_or_ge i a.length with hi | hi
        · have hj : i < b.length := by omega
          have hst := stepEqConfS (k := a.length + 1) hi hj hl (hp.2 _ (List.getElem_mem hi))
          by_cases hf : a[i] = b[i]
          · rw [if_pos hf] at hst
            refine .inl ⟨_, hst, hi, by omega, fun x S' hq => ?_⟩
            unfold QEqConfS at hq ⊢
            simpa only [drop_eq hi hj, hf, true_and] using hq
          · rw [if_neg hf] at hst
            refine .inr ⟨_, _, hst, by simp, ?_⟩
            unfold QEqConfS
            simp [drop_eq hi hj, hf, look]
        · obtain rfl : i = a.length := by omega
          refine .inr ⟨_, _, endEqConfS, by simp, ?_⟩
          unfold QEqConfS
          have : a.drop a.length = b.drop a.length := by simp [hab]
          rw [if_pos this]) (s := 0) (Nat.zero_le _) (by omega)
    have hab2 : ((a.length : Int) != b.length) = false := by simp [hab]
    replace hloop := hloop (TEqConfS a b 0) (by simp [keep, lmEqConfS, TEqConfS, look])
    change loopAt _ _ _ _ _ _ _ _ = _ at hloop
    simp [LEqConfS, bodyOf, Tryd.f79, nav, TEqConfS, tabOf] at hloop
    unfold QEqConfS at hQ
    simp only [List.drop_zero] at hQ
    split at hQ
    · rename_i he
      subst hQ
      subst he
      simp (implicitDefEqProofs := false) [-getElem?_pos, -getElem?_neg, Tryd.f79, ex_loop, hloop, lmEqConfS]
    · rename_i he
      obtain ⟨rfl, hlook⟩ := hQ
      simp (implicitDefEqProofs := false) [-getElem?_pos, -getElem?_neg, Tryd.f79, ex_loop, hloop, lmEqConfS, hlook, hab2, he]
  · have hne : ¬ a = b := fun h => hab (by rw [h])
    have hab' : ¬ (a.length : Int) = b.length := by omega
    simp (implicitDefEqProofs := false) [-getElem?_pos, -getElem?_neg, Tryd.f79, hab', hab, hne]
theorem callEqConfS {a b : List TyConf} (h : (a.length * 32 ≤ 140737488351232 ∧ ∀ y0 ∈ a, ok_Conf y0)) : FEqConfS [.one (.sl false 153 (a.map (cI_Conf false))), .one (.sl false 153 (b.map (cI_Conf false)))] = some ((false, [none]), [.lit (.bool (decide (a = b)))]) :=
  con_at (arg := fun p : List TyConf × List TyConf => [.one (.sl false 153 (p.1.map (cI_Conf false))), .one (.sl false 153 (p.2.map (cI_Conf false)))]) (a := (a, b)) (by rintro ⟨a, b⟩ ⟨c, d⟩ h; simpa [rows_inj (cI_Conf_inj false)] using h) h
/-! ### Line -/
abbrev TyLine := (List (TyConf)) × Int × (List (TyConf))
def cL_Line (x : TyLine) : List V := [.sl false 152 (x.1.map cL_Conf), .lit (.int .i64 x.2.1), .sl false 152 (x.2.2.map cL_Conf)]
def cI_Line (own : Bool) (x : TyLine) : List V := [.sl own 153 (x.1.map (cI_Conf own)), .lit (.int .i64 x.2.1), .sl own 153 (x.2.2.map (cI_Conf own))]
abbrev ok_Line (x : TyLine) : Prop := (x.1.length * 32 ≤ 140737488351232 ∧ ∀ y0 ∈ x.1, ok_Conf y0) ∧ (Lit.int .i64 x.2.1).wf = true ∧ (x.2.2.length * 32 ≤ 140737488351232 ∧ ∀ y0 ∈ x.2.2, ok_Conf y0)
theorem cL_Line_inj : ∀ a b, cL_Line a = cL_Line b → a = b := by
  rintro ⟨a_0, a_1, a_2⟩ ⟨b_0, b_1, b_2⟩ h
  simpa [cL_Line, rows_inj cL_Conf_inj] using h
theorem cI_Line_inj (own : Bool) : ∀ a b, cI_Line own a = cI_Line own b → a = b := by
  rintro ⟨a_0, a_1, a_2⟩ ⟨b_0, b_1, b_2⟩ h
  simpa [cI_Line, rows_inj (cI_Conf_inj own)] using h
@[simp] theorem er_Line (own : Bool) (x : TyLine) : (cI_Line own x).map V.er = cI_Line false x := by cases own <;> simp [cI_Line, V.er, erRows_ints, erRows_ints2, erR_Conf]
@[simp] theorem erR_Line (own : Bool) (l : List TyLine) : erRows (l.map (cI_Line own)) = l.map (cI_Line false) := rows_er (er_Line own) l
def sz_Line (x : TyLine) : Int → Int := szThen (szR sz_Conf x.1) (szThen (szR sz_Conf x.2.2) (id))
theorem sz_Line_le (x : TyLine) (left : Int) (h : 0 ≤ left) : sz_Line x left ≤ left := (szThen_le (fun l h => szR_le sz_Conf_le _ l h) (szThen_le (fun l h => szR_le sz_Conf_le _ l h) (fun l _ => Int.le_refl _))) left h
noncomputable def FSzLine : Con := con (fun p : TyLine × Int => [.agg (cL_Line p.1), .one (.lit (.int .i64 p.2))]) (fun p => 0 ≤ p.2 ∧ p.2 ≤ much ∧ ok_Line p.1) (fun p => ((false, [none]), [.lit (.int .i64 (sz_Line p.1 p.2))]))
theorem callSzLine {x : TyLine} {left : Int} (h1 : 0 ≤ left) (h2 : left ≤ much) (h3 : ok_Line x) : FSzLine [.agg (cL_Line x), .one (.lit (.int .i64 left))] = some ((false, [none]), [.lit (.int .i64 (sz_Line x left))]) :=
  con_at (arg := fun p : TyLine × Int => [.agg (cL_Line p.1), .one (.lit (.int .i64 p.2))]) (a := (x, left)) (by
    rintro ⟨a, b⟩ ⟨c, d⟩ h
    simp only [List.cons.injEq, TV.agg.injEq, TV.one.injEq, V.lit.injEq, Value.int.injEq, true_and, and_true] at h
    rw [cL_Line_inj _ _ h.1, h.2]) ⟨h1, h2, h3⟩
theorem fn_szLine : Fn Tryd.prog 49 FSzLine := by
  refine Fn.con [(75, FSzConfS)] (by simp [fn_szConfS]) mixed (fn := Tryd.f49) Tryd.func49 rfl rfl (by kernel_rfl) 2 (by decide) (fun _ => rfl) (fun _ => ([], 0)) (fun p hp => ⟨1, ?_⟩)
  obtain ⟨⟨v0, v1, v2⟩, left⟩ := p
  obtain ⟨g1, g2, g3⟩ := hp
  simp only [much] at g1 g2
  simp only [ok_Line] at g3
  simp only [sz_Line, szThen, id]
  have c0 := callSzConfS (l := v0) (left := left) (by omega) (by simp only [much]; omega) g3.1
  have l0 := (fun l h => szR_le sz_Conf_le v0 l h) left (by omega : 0 ≤ left)
  generalize hq0 : szR sz_Conf v0 left = q0 at *
  skip
  by_cases hn0 : q0 < 0
  · simp (implicitDefEqProofs := false) [-getElem?_pos, -getElem?_neg, Tryd.f49, cL_Conf, cI_Conf, cL_Line, cI_Line, c0, hn0]
  have c1 := callSzConfS (l := v2) (left := q0) (by omega) (by simp only [much]; omega) g3.2.2
  have l1 := (fun l h => szR_le sz_Conf_le v2 l h) q0 (by omega : 0 ≤ q0)
  generalize hq1 : szR sz_Conf v2 q0 = q1 at *
  skip
  by_cases hn1 : q1 < 0
  · simp (implicitDefEqProofs := false) [-getElem?_pos, -getElem?_neg, Tryd.f49, cL_Conf, cI_Conf, cL_Line, cI_Line, c0, hn0, c1, hn1]
  simp (implicitDefEqProofs := false) [-getElem?_pos, -getElem?_neg, Tryd.f49, cL_Conf, cI_Conf, cL_Line, cI_Line, c0, hn0, c1, hn1]
noncomputable def FSzLineS : Con := con (fun a : List TyLine × Int => [.one (.sl false 107 (a.1.map cL_Line)), .one (.lit (.int .i64 a.2))]) (fun a => 0 ≤ a.2 ∧ a.2 ≤ much ∧ (a.1.length * 56 ≤ 140737488351232 ∧ ∀ y0 ∈ a.1, ok_Line y0)) (fun a => ((false, [none]), [.lit (.int .i64 (szR sz_Line a.1 a.2))]))
theorem callSzLineS {l : List TyLine} {left : Int} (h1 : 0 ≤ left) (h2 : left ≤ much) (h3 : (l.length * 56 ≤ 140737488351232 ∧ ∀ y0 ∈ l, ok_Line y0)) : FSzLineS [.one (.sl false 107 (l.map cL_Line)), .one (.lit (.int .i64 left))] = some ((false, [none]), [.lit (.int .i64 (szR sz_Line l left))]) :=
  con_at (arg := fun a : List TyLine × Int => [.one (.sl false 107 (a.1.map cL_Line)), .one (.lit (.int .i64 a.2))]) (a := (l, left)) (by rintro ⟨a, b⟩ ⟨c, d⟩ h; simpa [rows_inj cL_Line_inj] using h) ⟨h1, h2, h3⟩
noncomputable def LSzLineS : Code := nav [1,1,1,0,1,0,0] (bodyOf Tryd.f21)
def lmSzLineS : Nat → List Nat × Nat := fun _ => ([0, 1, 4, 5], 0)
def TSzLineS (l : List TyLine) (s : Nat × Int) : St := ⟨[(0, .one (.sl false 107 (l.map cL_Line))), (1, .one (.lit (.int .i64 s.2))), (4, .one (.lit (.int .i64 0))), (5, .one (.lit (.int .i64 s.1)))], [none], 1 + s.1⟩
def QSzLineS (l : List TyLine) (s : Nat × Int) (x : Vm.X) (S' : St) : Prop :=
  if szL sz_Line (l.drop s.1) s.2 < 0 then x = .ret ∧ look S'.tm 4 = some (.one (.lit (.int .i64 (-1)))) ∧ szL sz_Line (l.drop s.1) s.2 = -1 else x = .exit 0 ∧ look S'.tm 1 = some (.one (.lit (.int .i64 (szL sz_Line (l.drop s.1) s.2))))
theorem stepSzLineS {l : List TyLine} {i : Nat} {left : Int} {k : Nat} (hi : i < l.length) (hl : l.length ≤ 140737488355328) (h1 : 0 ≤ left) (h2 : left ≤ much) (hr : ok_Line l[i]) :
    kept 1 (lmSzLineS 0) (exec Tryd.prog (tabCal (tabOf [(49, FSzLine)])) k 1 lmSzLineS 0 LSzLineS (TSzLineS l (i, left))) = if sz_Line l[i] left < 0 then some (.ret, ⟨[(0, .one (.sl false 107 (l.map cL_Line))), (1, .one (.lit (.int .i64 (sz_Line l[i] left)))), (4, .one (.lit (.int .i64 (-1)))), (5, .one (.lit (.int .i64 i)))], [none], 1 + i + 1⟩) else some (.norm, TSzLineS l (i + 1, sz_Line l[i] left)) := by
  have hx : l[i]? = some l[i] := List.getElem?_eq_getElem hi
  have hi' : (i : Int) < l.length := by omega
  have hcall := callSzLine h1 h2 hr
  have hw := wrap_succ hi (by omega)
  simp only [cL_Conf, cI_Conf, cL_Line, cI_Line] at hcall
  generalize hq : sz_Line l[i] left = q at *
  split
  · rename_i hc
    simp (implicitDefEqProofs := false) [-getElem?_pos, -getElem?_neg, LSzLineS, bodyOf, Tryd.f21, nav, TSzLineS, lmSzLineS, hx, cL_Conf, cI_Conf, cL_Line, cI_Line, hi', hi, hcall, hc]
  · rename_i hc
    simp (implicitDefEqProofs := false) [-getElem?_pos, -getElem?_neg, LSzLineS, bodyOf, Tryd.f21, nav, TSzLineS, lmSzLineS, hx, cL_Conf, cI_Conf, cL_Line, cI_Line, hi', hi, hw, hcall, hc]
theorem endSzLineS {l : List TyLine} {left : Int} {k : Nat} {cal : Cal} :
    kept 1 (lmSzLineS 0) (exec Tryd.prog cal k 1 lmSzLineS 0 LSzLineS (TSzLineS l (l.length, left))) = some (.exit 0, TSzLineS l (l.length, left)) := by
  simp (implicitDefEqProofs := false) [-getElem?_pos, -getElem?_neg, LSzLineS, bodyOf, Tryd.f21, nav, TSzLineS, lmSzLineS]
theorem fn_szLineS : Fn Tryd.prog 21 FSzLineS := by
  refine Fn.con [(49, FSzLine)] (by simp [fn_szLine]) mixed (fn := Tryd.f21) Tryd.func21 rfl rfl (by kernel_rfl) 2 (by decide) (fun _ => rfl) lmSzLineS (fun a ha => ⟨a.1.length + 1, ?_⟩)
  obtain ⟨l, left⟩ := a
  obtain ⟨h1, h2, h3, h4⟩ := ha
  simp only at h1 h2 h3 h4 ⊢
  have hl : l.length ≤ 140737488355328 := by omega
  have hw : IntKind.i64.wrap (left - l.length) = left - l.length := wrap_id (by omega) (by simp only [much] at h2; omega)
  by_cases hc : left - (l.length : Int) < 0
  · simp (implicitDefEqProofs := false) [-getElem?_pos, -getElem?_neg, Tryd.f21, hw, hc, szR]
  · obtain ⟨x, S', hloop, hQ⟩ := loop_run (P := Tryd.prog) (cal := tabCal (tabOf [(49, FSzLine)])) (k := l.length + 1) (n0 := 1) (b := 0) (lm := lmSzLineS) (c := LSzLineS) (TSzLineS l) (fun s => s.1 ≤ l.length ∧ 0 ≤ s.2 ∧ s.2 ≤ much) (fun s => l.length - s.1) (QSzLineS l) (fun s hs => by
        obtain ⟨i, le⟩ := s
        obtain ⟨q1, q2, q3⟩ := hs
        simp only at q1 q2 q3
        rcases Nat.lt_or_ge i l.length with hi | hi
        · have hst := stepSzLineS (k := l.length + 1) hi hl q2 q3 (h4 _ (List.getElem_mem hi))
          by_cases hf : sz_Line l[i] le < 0
          · rw [if_pos hf] at hst
            refine .inr ⟨_, _, hst, by simp, ?_⟩
            unfold QSzLineS
            simp only [szL_drop hi, if_pos hf]
            simp [look]
          · rw [if_neg hf] at hst
            refine .inl ⟨_, hst, ⟨hi, by simp only; omega, by have := sz_Line_le l[i] le q2; simp only; omega⟩, by simp only; omega, fun x S' hq => ?_⟩
            unfold QSzLineS at hq ⊢
            simp only [szL_drop hi, if_neg hf]
            exact hq
        · obtain rfl : i = l.length := by omega
          refine .inr ⟨_, _, endSzLineS, by simp, ?_⟩
          unfold QSzLineS
          have : ¬ szL sz_Line (l.drop l.length) le < 0 := by simp [szL]; exact q2
          simp only [if_neg this]
          simp [szL, look, TSzLineS]) (s := (0, left - l.length)) ⟨Nat.zero_le _, by simp only; omega, by simp only; omega⟩ (by simp only; omega)
    replace hloop := hloop (TSzLineS l (0, left - l.length)) (by simp [keep, lmSzLineS, TSzLineS, look])
    change loopAt _ _ _ _ _ _ _ _ = _ at hloop
    simp [LSzLineS, bodyOf, Tryd.f21, nav, TSzLineS, tabOf] at hloop
    unfold QSzLineS at hQ
    simp only [List.drop_zero] at hQ
    split at hQ
    · rename_i hneg
      obtain ⟨rfl, hlook, hm⟩ := hQ
      simp (implicitDefEqProofs := false) [-getElem?_pos, -getElem?_neg, Tryd.f21, hw, hc, szR, ex_loop, hloop, lmSzLineS, hlook, hm]
    · obtain ⟨rfl, hlook⟩ := hQ
      simp (implicitDefEqProofs := false) [-getElem?_pos, -getElem?_neg, Tryd.f21, hw, hc, szR, ex_loop, hloop, lmSzLineS, hlook]
noncomputable def FToLine : Con := con (fun x : TyLine => [.agg (cL_Line x)]) ok_Line (fun x => ((false, [some 3]), cI_Line true x))
theorem callToLine {x : TyLine} (h : ok_Line x) : FToLine [.agg (cL_Line x)] = some ((false, [some 3]), cI_Line true x) := con_at (arg := fun x : TyLine => [.agg (cL_Line x)]) (fun a b h => cL_Line_inj a b (by simpa using h)) h
theorem fn_toLine : Fn Tryd.prog 51 FToLine := by
  refine Fn.con [(76, FToConfS)] (by simp [fn_toConfS]) mixed (fn := Tryd.f51) Tryd.func51 rfl rfl (by kernel_rfl) 1 (by decide) (fun _ => rfl) (fun _ => ([], 0)) (fun x hx => ⟨1, ?_⟩)
  obtain ⟨v0, v1, v2⟩ := x
  simp only [ok_Line] at hx
  have c0 := callToConfS (l := v0) hx.1
  have c2 := callToConfS (l := v2) hx.2.2
  simp (implicitDefEqProofs := false) [-getElem?_pos, -getElem?_neg, Tryd.f51, cL_Conf, cI_Conf, cL_Line, cI_Line, c0, c2]
noncomputable def LToLineS : Code := nav [1,1,0,1,0,0] (bodyOf Tryd.f24)
def lmToLineS : Nat → List Nat × Nat := fun _ => ([0, 3, 4], 1)
def TToLineS (l : List TyLine) (ep i : Nat) : St := ⟨[(0, .one (.sl false 107 (l.map cL_Line))), (3, .one (.ow 1 1)), (4, .one (.lit (.int .i64 i)))], [none, some (.rows 1 1 74 (upTo [.lit (.slice none 0 0), .lit (.int .i64 0), .lit (.slice none 0 0)] (l.map (cI_Line true)) i))], ep + i⟩
theorem stepToLineS (k ep : Nat) (l : List TyLine) (i : Nat) (hi : i < l.length) (hl : l.length ≤ 9223372036854775807) (hr : ∀ r ∈ l, ok_Line r) :
    kept 1 (lmToLineS 0) (exec Tryd.prog (tabCal (tabOf [(51, FToLine)])) k 1 lmToLineS 0 LToLineS (TToLineS l ep i)) = some (.norm, TToLineS l ep (i + 1)) := by
  have hx : l[i]? = some l[i] := List.getElem?_eq_getElem hi
  have hi' : (i : Int) < l.length := by omega
  have hi2 : i < (l.map (cI_Line true)).length := by rw [List.length_map]; exact hi
  have hlen : (upTo [V.lit (.slice none 0 0), .lit (.int .i64 0), .lit (.slice none 0 0)] (l.map (cI_Line true)) i).length = l.length := by rw [upTo_len (by omega), List.length_map]
  have hget := upTo_get (z := [V.lit (.slice none 0 0), .lit (.int .i64 0), .lit (.slice none 0 0)]) hi2
  have hset := upTo_set (z := [V.lit (.slice none 0 0), .lit (.int .i64 0), .lit (.slice none 0 0)]) (rows_get (f := cI_Line true) hx)
  have hc := callToLine (hr _ (List.getElem_mem hi))
  have hw := wrap_succ hi hl
  generalize hP : upTo [V.lit (.slice none 0 0), .lit (.int .i64 0), .lit (.slice none 0 0)] (l.map (cI_Line true)) (i + 1) = P1 at *
  generalize hP0 : upTo [V.lit (.slice none 0 0), .lit (.int .i64 0), .lit (.slice none 0 0)] (l.map (cI_Line true)) i = P0 at *
  simp only [cL_Conf, cI_Conf, cL_Line, cI_Line] at hc hset
  simp only [TToLineS, hP, hP0]
  simp (implicitDefEqProofs := false) [-getElem?_pos, -getElem?_neg, LToLineS, bodyOf, Tryd.f24, nav, lmToLineS, hx, cL_Conf, cI_Conf, cL_Line, cI_Line, hget, hlen, hi', hw, hset, hi, hc, hP, hP0]
theorem endToLineS (k ep : Nat) (l : List TyLine) (cal : Cal) :
    kept 1 (lmToLineS 0) (exec Tryd.prog cal k 1 lmToLineS 0 LToLineS (TToLineS l ep l.length)) = some (.exit 0, TToLineS l ep l.length) := by
  simp (implicitDefEqProofs := false) [-getElem?_pos, -getElem?_neg, LToLineS, bodyOf, Tryd.f24, nav, TToLineS, lmToLineS]
noncomputable def FToLineS : Con := con (fun l : List TyLine => [.one (.sl false 107 (l.map cL_Line))]) (fun l => (l.length * 56 ≤ 140737488351232 ∧ ∀ y0 ∈ l, ok_Line y0)) (fun l => ((false, [none]), [.sl true 74 (l.map (cI_Line true))]))
theorem callToLineS {l : List TyLine} (h : (l.length * 56 ≤ 140737488351232 ∧ ∀ y0 ∈ l, ok_Line y0)) : FToLineS [.one (.sl false 107 (l.map cL_Line))] = some ((false, [none]), [.sl true 74 (l.map (cI_Line true))]) :=
  con_at (arg := fun l : List TyLine => [.one (.sl false 107 (l.map cL_Line))]) (by intro a b h; simpa [rows_inj cL_Line_inj] using h) h
theorem fn_toLineS : Fn Tryd.prog 24 FToLineS := by
  refine Fn.con [(51, FToLine)] (by simp [fn_toLine]) mixed (fn := Tryd.f24) Tryd.func24 rfl rfl (by kernel_rfl) 1 (by decide) (fun _ => rfl) lmToLineS (fun l hl => ⟨l.length + 1, ?_⟩)
  obtain ⟨hl, hr⟩ := hl
  have hloop : ∀ S, keep 1 (lmToLineS 0) S = TToLineS l S.ep 0 → exec Tryd.prog (tabCal (tabOf [(51, FToLine)])) (l.length + 1) 1 lmToLineS 0 (.loop LToLineS) S = some (.exit 0, TToLineS l S.ep l.length) := fun S hS =>
    loop_to (TToLineS l S.ep) l.length (by simp) (by omega) hS (fun i hi => stepToLineS _ S.ep l i hi (by omega) hr) (endToLineS _ S.ep l _)
  simp only [LToLineS, bodyOf, Tryd.f24, nav, Option.getD_some, tabOf] at hloop
  have h63 : l.length ≤ 9223372036854775807 := by omega
  have h47 : l.length * 56 ≤ 140737488355328 := by omega
  have hlm : (l.map (cI_Line true)).length = l.length := List.length_map _
  simp (implicitDefEqProofs := false) [-getElem?_pos, -getElem?_neg, Tryd.f24, h47, h63, hloop, TToLineS, lmToLineS, upZero hlm, upAll hlm]
noncomputable def FEqLine : Con := con (fun p : TyLine × TyLine => [.agg (cI_Line false p.1), .agg (cI_Line false p.2)]) (fun p => ok_Line p.1) (fun p => ((false, [none]), [.lit (.bool (decide (p.1 = p.2)))]))
theorem callEqLine {x y : TyLine} (h : ok_Line x) : FEqLine [.agg (cI_Line false x), .agg (cI_Line false y)] = some ((false, [none]), [.lit (.bool (decide (x = y)))]) :=
  con_at (arg := fun p : TyLine × TyLine => [.agg (cI_Line false p.1), .agg (cI_Line false p.2)]) (a := (x, y)) (by
    rintro ⟨a, b⟩ ⟨c, d⟩ h
    simp only [List.cons.injEq, TV.agg.injEq, and_true] at h
    rw [cI_Line_inj _ _ _ h.1, cI_Line_inj _ _ _ h.2]) h
theorem fn_eqLine : Fn Tryd.prog 55 FEqLine := by
  refine Fn.con [(79, FEqConfS)] (by simp [fn_eqConfS]) mixed (fn := Tryd.f55) Tryd.func55 rfl rfl (by kernel_rfl) 2 (by decide) (fun _ => rfl) (fun _ => ([], 0)) (fun p hp => ⟨1, ?_⟩)
  obtain ⟨⟨v0, v1, v2⟩, ⟨v0', v1', v2'⟩⟩ := p
  simp only [ok_Line] at hp
  have c0 := callEqConfS (a := v0) (b := v0') hp.1
  have c2 := callEqConfS (a := v2) (b := v2') hp.2.2
  by_cases q0 : v0 = v0'
  rotate_left
  · simp (implicitDefEqProofs := false) [-getElem?_pos, -getElem?_neg, Tryd.f55, cL_Conf, cI_Conf, cL_Line, cI_Line, c0, c2, q0]
  subst q0
  by_cases q1 : v1 = v1'
  rotate_left
  · have e : (v1 != v1') = true := by simp [q1]
    simp (implicitDefEqProofs := false) [-getElem?_pos, -getElem?_neg, Tryd.f55, cL_Conf, cI_Conf, cL_Line, cI_Line, c0, c2, q1, e]
  subst q1
  by_cases q2 : v2 = v2'
  rotate_left
  · simp (implicitDefEqProofs := false) [-getElem?_pos, -getElem?_neg, Tryd.f55, cL_Conf, cI_Conf, cL_Line, cI_Line, c0, c2, q2]
  subst q2
  simp (implicitDefEqProofs := false) [-getElem?_pos, -getElem?_neg, Tryd.f55, cL_Conf, cI_Conf, cL_Line, cI_Line, c0, c2]
noncomputable def LEqLineS : Code := nav [1,1,0,1,0,0] (bodyOf Tryd.f28)
def lmEqLineS : Nat → List Nat × Nat := fun _ => ([0, 1, 4, 5], 0)
def TEqLineS (a b : List TyLine) (i : Nat) : St := ⟨[(0, .one (.sl false 74 (a.map (cI_Line false)))), (1, .one (.sl false 74 (b.map (cI_Line false)))), (4, .one (.lit (.bool false))), (5, .one (.lit (.int .i64 i)))], [none], 1 + i⟩
def QEqLineS (a b : List TyLine) (i : Nat) (x : Vm.X) (S' : St) : Prop := if a.drop i = b.drop i then x = .exit 0 else x = .ret ∧ look S'.tm 4 = some (.one (.lit (.bool false)))
noncomputable def FEqLineS : Con := con (fun p : List TyLine × List TyLine => [.one (.sl false 74 (p.1.map (cI_Line false))), .one (.sl false 74 (p.2.map (cI_Line false)))]) (fun p => (p.1.length * 56 ≤ 140737488351232 ∧ ∀ y0 ∈ p.1, ok_Line y0)) (fun p => ((false, [none]), [.lit (.bool (decide (p.1 = p.2)))]))
theorem drEqLineS : drawn (opsOf (nav [1,0,0,0] LEqLineS)) = some ([0, 1, 2, 3, 4, 5, 6, 7], [8, 9]) := by kernel_rfl
theorem stepEqLineS {a b : List TyLine} {i k : Nat} (hi : i < a.length) (hj : i < b.length) (hl : a.length ≤ 140737488355328) (hr : ok_Line a[i]) :
    kept 1 (lmEqLineS 0) (exec Tryd.prog (tabCal (tabOf [(55, FEqLine)])) k 1 lmEqLineS 0 LEqLineS (TEqLineS a b i)) = if a[i] = b[i] then some (.norm, TEqLineS a b (i + 1)) else some (.ret, ⟨[(0, .one (.sl false 74 (a.map (cI_Line false)))), (1, .one (.sl false 74 (b.map (cI_Line false)))), (4, .one (.lit (.bool false))), (5, .one (.lit (.int .i64 i)))], [none], 1 + i + 1⟩) := by
  have hx : a[i]? = some a[i] := List.getElem?_eq_getElem hi
  have hy : b[i]? = some b[i] := List.getElem?_eq_getElem hj
  have hi' : (i : Int) < a.length := by omega
  have hw := wrap_succ hi (by omega)
  have hd := drEqLineS
  simp only [LEqLineS, bodyOf, Tryd.f28, nav, opsOf, Option.getD_some] at hd
  have hcall := callEqLine (y := b[i]) hr
  simp only [cL_Conf, cI_Conf, cL_Line, cI_Line] at hcall
  split
  · rename_i hc
    have hc1 : (decide (a[i] = b[i])) = true := by simp [hc]
    rw [hc1] at hcall
    simp (implicitDefEqProofs := false) [-getElem?_pos, -getElem?_neg, LEqLineS, bodyOf, Tryd.f28, nav, TEqLineS, lmEqLineS, ex_draw2 _ _ hd, hx, hy, cL_Conf, cI_Conf, cL_Line, cI_Line, hi', hi, hw, hcall]
  · rename_i hc
    have hc1 : (decide (a[i] = b[i])) = false := by simp [hc]
    rw [hc1] at hcall
    simp (implicitDefEqProofs := false) [-getElem?_pos, -getElem?_neg, LEqLineS, bodyOf, Tryd.f28, nav, TEqLineS, lmEqLineS, ex_draw2 _ _ hd, hx, hy, cL_Conf, cI_Conf, cL_Line, cI_Line, hi', hi, hw, hcall]
theorem endEqLineS {a b : List TyLine} {k : Nat} {cal : Cal} :
    kept 1 (lmEqLineS 0) (exec Tryd.prog cal k 1 lmEqLineS 0 LEqLineS (TEqLineS a b a.length)) = some (.exit 0, TEqLineS a b a.length) := by
  simp (implicitDefEqProofs := false) [-getElem?_pos, -getElem?_neg, LEqLineS, bodyOf, Tryd.f28, nav, TEqLineS, lmEqLineS]
theorem fn_eqLineS : Fn Tryd.prog 28 FEqLineS := by
  refine Fn.con [(55, FEqLine)] (by simp [fn_eqLine]) mixed (fn := Tryd.f28) Tryd.func28 rfl rfl (by kernel_rfl) 2 (by decide) (fun _ => rfl) lmEqLineS (fun p hp => ⟨p.1.length + 1, ?_⟩)
  obtain ⟨a, b⟩ := p
  have hl : a.length ≤ 140737488355328 := by have := hp.1; simp only at this; omega
  simp only
  by_cases hab : a.length = b.length
  · obtain ⟨x, S', hloop, hQ⟩ := loop_run (P := Tryd.prog) (cal := tabCal (tabOf [(55, FEqLine)])) (k := a.length + 1) (n0 := 1) (b := 0) (lm := lmEqLineS) (c := LEqLineS) (TEqLineS a b) (fun i => i ≤ a.length) (fun i => a.length - i) (QEqLineS a b) (fun i q1 => by
        rcases Nat.lt_or_ge i a.length with hi | hi
        · have hj : i < b.length := by omega
          have hst := stepEqLineS (k := a.length + 1) hi hj hl (hp.2 _ (List.getElem_mem hi))
          by_cases hf : a[i] = b[i]
          · rw [if_pos hf] at hst
            refine .inl ⟨_, hst, hi, by omega, fun x S' hq => ?_⟩
            unfold QEqLineS at hq ⊢
            simpa only [drop_eq hi hj, hf, true_and] using hq
          · rw [if_neg hf] at hst
            refine .inr ⟨_, _, hst, by simp, ?_⟩
            unfold QEqLineS
            simp [drop_eq hi hj, hf, look]
        · obtain rfl : i = a.length := by omega
          refine .inr ⟨_, _, endEqLineS, by simp, ?_⟩
          unfold QEqLineS
          have : a.drop a.length = b.drop a.length := by simp [hab]
          rw [if_pos this]) (s := 0) (Nat.zero_le _) (by omega)
    have hab2 : ((a.length : Int) != b.length) = false := by simp [hab]
    replace hloop := hloop (TEqLineS a b 0) (by simp [keep, lmEqLineS, TEqLineS, look])
    change loopAt _ _ _ _ _ _ _ _ = _ at hloop
    simp [LEqLineS, bodyOf, Tryd.f28, nav, TEqLineS, tabOf] at hloop
    unfold QEqLineS at hQ
    simp only [List.drop_zero] at hQ
    split at hQ
    · rename_i he
      subst hQ
      subst he
      simp (implicitDefEqProofs := false) [-getElem?_pos, -getElem?_neg, Tryd.f28, ex_loop, hloop, lmEqLineS]
    · rename_i he
      obtain ⟨rfl, hlook⟩ := hQ
      simp (implicitDefEqProofs := false) [-getElem?_pos, -getElem?_neg, Tryd.f28, ex_loop, hloop, lmEqLineS, hlook, hab2, he]
  · have hne : ¬ a = b := fun h => hab (by rw [h])
    have hab' : ¬ (a.length : Int) = b.length := by omega
    simp (implicitDefEqProofs := false) [-getElem?_pos, -getElem?_neg, Tryd.f28, hab', hab, hne]
theorem callEqLineS {a b : List TyLine} (h : (a.length * 56 ≤ 140737488351232 ∧ ∀ y0 ∈ a, ok_Line y0)) : FEqLineS [.one (.sl false 74 (a.map (cI_Line false))), .one (.sl false 74 (b.map (cI_Line false)))] = some ((false, [none]), [.lit (.bool (decide (a = b)))]) :=
  con_at (arg := fun p : List TyLine × List TyLine => [.one (.sl false 74 (p.1.map (cI_Line false))), .one (.sl false 74 (p.2.map (cI_Line false)))]) (a := (a, b)) (by rintro ⟨a, b⟩ ⟨c, d⟩ h; simpa [rows_inj (cI_Line_inj false)] using h) h
/-! ### Store -/
abbrev TyStore := Int × (List (TyLine))
def cL_Store (x : TyStore) : List V := [.lit (.int .i64 x.1), .sl false 107 (x.2.map cL_Line)]
def cI_Store (own : Bool) (x : TyStore) : List V := [.lit (.int .i64 x.1), .sl own 74 (x.2.map (cI_Line own))]
abbrev ok_Store (x : TyStore) : Prop := (Lit.int .i64 x.1).wf = true ∧ (x.2.length * 56 ≤ 140737488351232 ∧ ∀ y0 ∈ x.2, ok_Line y0)
theorem cL_Store_inj : ∀ a b, cL_Store a = cL_Store b → a = b := by
  rintro ⟨a_0, a_1⟩ ⟨b_0, b_1⟩ h
  simpa [cL_Store, rows_inj cL_Line_inj] using h
theorem cI_Store_inj (own : Bool) : ∀ a b, cI_Store own a = cI_Store own b → a = b := by
  rintro ⟨a_0, a_1⟩ ⟨b_0, b_1⟩ h
  simpa [cI_Store, rows_inj (cI_Line_inj own)] using h
@[simp] theorem er_Store (own : Bool) (x : TyStore) : (cI_Store own x).map V.er = cI_Store false x := by cases own <;> simp [cI_Store, V.er, erRows_ints, erRows_ints2, erR_Line]
@[simp] theorem erR_Store (own : Bool) (l : List TyStore) : erRows (l.map (cI_Store own)) = l.map (cI_Store false) := rows_er (er_Store own) l
def sz_Store (x : TyStore) : Int → Int := szThen (szR sz_Line x.2) (id)
theorem sz_Store_le (x : TyStore) (left : Int) (h : 0 ≤ left) : sz_Store x left ≤ left := (szThen_le (fun l h => szR_le sz_Line_le _ l h) (fun l _ => Int.le_refl _)) left h
noncomputable def FSzStore : Con := con (fun p : TyStore × Int => [.agg (cL_Store p.1), .one (.lit (.int .i64 p.2))]) (fun p => 0 ≤ p.2 ∧ p.2 ≤ much ∧ ok_Store p.1) (fun p => ((false, [none]), [.lit (.int .i64 (sz_Store p.1 p.2))]))
theorem callSzStore {x : TyStore} {left : Int} (h1 : 0 ≤ left) (h2 : left ≤ much) (h3 : ok_Store x) : FSzStore [.agg (cL_Store x), .one (.lit (.int .i64 left))] = some ((false, [none]), [.lit (.int .i64 (sz_Store x left))]) :=
  con_at (arg := fun p : TyStore × Int => [.agg (cL_Store p.1), .one (.lit (.int .i64 p.2))]) (a := (x, left)) (by
    rintro ⟨a, b⟩ ⟨c, d⟩ h
    simp only [List.cons.injEq, TV.agg.injEq, TV.one.injEq, V.lit.injEq, Value.int.injEq, true_and, and_true] at h
    rw [cL_Store_inj _ _ h.1, h.2]) ⟨h1, h2, h3⟩
theorem fn_szStore : Fn Tryd.prog 6 FSzStore := by
  refine Fn.con [(21, FSzLineS)] (by simp [fn_szLineS]) mixed (fn := Tryd.f6) Tryd.func6 rfl rfl (by kernel_rfl) 2 (by decide) (fun _ => rfl) (fun _ => ([], 0)) (fun p hp => ⟨1, ?_⟩)
  obtain ⟨⟨v0, v1⟩, left⟩ := p
  obtain ⟨g1, g2, g3⟩ := hp
  simp only [much] at g1 g2
  simp only [ok_Store] at g3
  simp only [sz_Store, szThen, id]
  have c0 := callSzLineS (l := v1) (left := left) (by omega) (by simp only [much]; omega) g3.2
  have l0 := (fun l h => szR_le sz_Line_le v1 l h) left (by omega : 0 ≤ left)
  generalize hq0 : szR sz_Line v1 left = q0 at *
  skip
  by_cases hn0 : q0 < 0
  · simp (implicitDefEqProofs := false) [-getElem?_pos, -getElem?_neg, Tryd.f6, cL_Conf, cI_Conf, cL_Line, cI_Line, cL_Store, cI_Store, c0, hn0]
  simp (implicitDefEqProofs := false) [-getElem?_pos, -getElem?_neg, Tryd.f6, cL_Conf, cI_Conf, cL_Line, cI_Line, cL_Store, cI_Store, c0, hn0]
noncomputable def FToStore : Con := con (fun x : TyStore => [.agg (cL_Store x)]) ok_Store (fun x => ((false, [some 2]), cI_Store true x))
theorem callToStore {x : TyStore} (h : ok_Store x) : FToStore [.agg (cL_Store x)] = some ((false, [some 2]), cI_Store true x) := con_at (arg := fun x : TyStore => [.agg (cL_Store x)]) (fun a b h => cL_Store_inj a b (by simpa using h)) h
theorem fn_toStore : Fn Tryd.prog 8 FToStore := by
  refine Fn.con [(24, FToLineS)] (by simp [fn_toLineS]) mixed (fn := Tryd.f8) Tryd.func8 rfl rfl (by kernel_rfl) 1 (by decide) (fun _ => rfl) (fun _ => ([], 0)) (fun x hx => ⟨1, ?_⟩)
  obtain ⟨v0, v1⟩ := x
  simp only [ok_Store] at hx
  have c1 := callToLineS (l := v1) hx.2
  simp (implicitDefEqProofs := false) [-getElem?_pos, -getElem?_neg, Tryd.f8, cL_Conf, cI_Conf, cL_Line, cI_Line, cL_Store, cI_Store, c1]
noncomputable def FEqStore : Con := con (fun p : TyStore × TyStore => [.agg (cI_Store false p.1), .agg (cI_Store false p.2)]) (fun p => ok_Store p.1) (fun p => ((false, [none]), [.lit (.bool (decide (p.1 = p.2)))]))
theorem callEqStore {x y : TyStore} (h : ok_Store x) : FEqStore [.agg (cI_Store false x), .agg (cI_Store false y)] = some ((false, [none]), [.lit (.bool (decide (x = y)))]) :=
  con_at (arg := fun p : TyStore × TyStore => [.agg (cI_Store false p.1), .agg (cI_Store false p.2)]) (a := (x, y)) (by
    rintro ⟨a, b⟩ ⟨c, d⟩ h
    simp only [List.cons.injEq, TV.agg.injEq, and_true] at h
    rw [cI_Store_inj _ _ _ h.1, cI_Store_inj _ _ _ h.2]) h
theorem fn_eqStore : Fn Tryd.prog 10 FEqStore := by
  refine Fn.con [(28, FEqLineS)] (by simp [fn_eqLineS]) mixed (fn := Tryd.f10) Tryd.func10 rfl rfl (by kernel_rfl) 2 (by decide) (fun _ => rfl) (fun _ => ([], 0)) (fun p hp => ⟨1, ?_⟩)
  obtain ⟨⟨v0, v1⟩, ⟨v0', v1'⟩⟩ := p
  simp only [ok_Store] at hp
  have c1 := callEqLineS (a := v1) (b := v1') hp.2
  by_cases q0 : v0 = v0'
  rotate_left
  · have e : (v0 != v0') = true := by simp [q0]
    simp (implicitDefEqProofs := false) [-getElem?_pos, -getElem?_neg, Tryd.f10, cL_Conf, cI_Conf, cL_Line, cI_Line, cL_Store, cI_Store, c1, q0, e]
  subst q0
  by_cases q1 : v1 = v1'
  rotate_left
  · simp (implicitDefEqProofs := false) [-getElem?_pos, -getElem?_neg, Tryd.f10, cL_Conf, cI_Conf, cL_Line, cI_Line, cL_Store, cI_Store, c1, q1]
  subst q1
  simp (implicitDefEqProofs := false) [-getElem?_pos, -getElem?_neg, Tryd.f10, cL_Conf, cI_Conf, cL_Line, cI_Line, cL_Store, cI_Store, c1]
end Go.Proofs.YtjdhdpbdaabdmaaDoor.Vm

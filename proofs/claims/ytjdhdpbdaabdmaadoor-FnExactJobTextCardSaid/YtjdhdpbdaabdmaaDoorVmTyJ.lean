/-
  The laws' types: values, cells, how they are measured, copied, compared. Written by a program of mine (gentype.py).
-/
import Derived.Test.YtjdhdpbdaabdmaaDoorVmLaw1
import Derived.Test.YtjdhdpbdaabdmaaDoorVmNum
namespace Go.Proofs.YtjdhdpbdaabdmaaDoor.Vm
open Go Go.RowKit Go.Proofs
set_option linter.unusedVariables false
set_option linter.unusedSimpArgs false
set_option maxHeartbeats 8000000
def szThen (f g : Int → Int) (left : Int) : Int := if f left < 0 then -1 else g (f left)
theorem szThen_le {f g : Int → Int} (hf : ∀ l, 0 ≤ l → f l ≤ l) (hg : ∀ l, 0 ≤ l → g l ≤ l) (left : Int) (h : 0 ≤ left) : szThen f g left ≤ left := by
  unfold szThen
  split
  · omega
  · have := hf left h
    have := hg (f left) (by omega)
    omega
def sz0 {α : Type} (l : List α) (left : Int) : Int := if left - l.length < 0 then -1 else left - l.length
theorem sz0_le {α : Type} (l : List α) (left : Int) (h : 0 ≤ left) : sz0 l left ≤ left := by unfold sz0; split <;> omega
theorem rows_get {α : Type} {f : α → List V} {l : List α} {i : Nat} {x : α} (h : l[i]? = some x) : (l.map f)[i]? = some (f x) := by simp [h]
theorem rows_inj {α : Type} {f : α → List V} (hf : ∀ a b, f a = f b → a = b) {a b : List α} : a.map f = b.map f ↔ a = b := ⟨map_inj' hf a b, fun h => by rw [h]⟩
theorem rows_er {α : Type} {f g : α → List V} (h : ∀ a, (f a).map V.er = g a) (l : List α) : erRows (l.map f) = l.map g := by
  rw [erRows_map, List.map_map]
  exact List.map_congr_left fun a _ => h a
/-! ### Slot -/
abbrev TySlot := Int × Int
def cL_Slot (x : TySlot) : List V := [.lit (.int .i64 x.1), .lit (.int .i64 x.2)]
def cI_Slot (own : Bool) (x : TySlot) : List V := [.lit (.int .i64 x.1), .lit (.int .i64 x.2)]
abbrev ok_Slot (x : TySlot) : Prop := (Lit.int .i64 x.1).wf = true ∧ (Lit.int .i64 x.2).wf = true
theorem cL_Slot_inj : ∀ a b, cL_Slot a = cL_Slot b → a = b := by
  rintro ⟨a_0, a_1⟩ ⟨b_0, b_1⟩ h
  simpa [cL_Slot] using h
theorem cI_Slot_inj (own : Bool) : ∀ a b, cI_Slot own a = cI_Slot own b → a = b := by
  rintro ⟨a_0, a_1⟩ ⟨b_0, b_1⟩ h
  simpa [cI_Slot] using h
@[simp] theorem er_Slot (own : Bool) (x : TySlot) : (cI_Slot own x).map V.er = cI_Slot false x := by cases own <;> simp [cI_Slot, V.er, erRows_ints, erRows_ints2]
@[simp] theorem erR_Slot (own : Bool) (l : List TySlot) : erRows (l.map (cI_Slot own)) = l.map (cI_Slot false) := rows_er (er_Slot own) l
noncomputable def FSzSlotS : Con := con (fun a : List TySlot × Int => [.one (.sl false 137 (a.1.map cL_Slot)), .one (.lit (.int .i64 a.2))]) (fun a => 0 ≤ a.2 ∧ a.2 ≤ much ∧ (a.1.length * 16 ≤ 140737488351232 ∧ ∀ y0 ∈ a.1, ok_Slot y0)) (fun a => ((false, [none]), [.lit (.int .i64 (sz0 a.1 a.2))]))
theorem callSzSlotS {l : List TySlot} {left : Int} (h1 : 0 ≤ left) (h2 : left ≤ much) (h3 : (l.length * 16 ≤ 140737488351232 ∧ ∀ y0 ∈ l, ok_Slot y0)) : FSzSlotS [.one (.sl false 137 (l.map cL_Slot)), .one (.lit (.int .i64 left))] = some ((false, [none]), [.lit (.int .i64 (sz0 l left))]) :=
  con_at (arg := fun a : List TySlot × Int => [.one (.sl false 137 (a.1.map cL_Slot)), .one (.lit (.int .i64 a.2))]) (a := (l, left)) (by rintro ⟨a, b⟩ ⟨c, d⟩ h; simpa [rows_inj cL_Slot_inj] using h) ⟨h1, h2, h3⟩
theorem fn_szSlotS : Fn Tryd.prog 56 FSzSlotS := by
  refine Fn.con [] (by simp) mixed (fn := Tryd.f56) Tryd.func56 rfl rfl (by kernel_rfl) 2 (by decide) (fun _ => rfl) (fun _ => ([], 0)) (fun a ha => ⟨1, ?_⟩)
  obtain ⟨l, left⟩ := a
  obtain ⟨h1, h2, h3, h4⟩ := ha
  simp only [much] at h1 h2 h3
  have hw : IntKind.i64.wrap (left - (l.length : Int)) = left - l.length := wrap_id (by omega) (by omega)
  by_cases hc : left - (l.length : Int) < 0
  · simp (implicitDefEqProofs := false) [-getElem?_pos, -getElem?_neg, Tryd.f56, hw, hc, sz0]
  · simp (implicitDefEqProofs := false) [-getElem?_pos, -getElem?_neg, Tryd.f56, hw, hc, sz0]
noncomputable def FToSlot : Con := con (fun x : TySlot => [.agg (cL_Slot x)]) ok_Slot (fun x => ((false, [some 2]), cI_Slot true x))
theorem callToSlot {x : TySlot} (h : ok_Slot x) : FToSlot [.agg (cL_Slot x)] = some ((false, [some 2]), cI_Slot true x) := con_at (arg := fun x : TySlot => [.agg (cL_Slot x)]) (fun a b h => cL_Slot_inj a b (by simpa using h)) h
theorem fn_toSlot : Fn Tryd.prog 81 FToSlot := by
  refine Fn.con [] (by simp) mixed (fn := Tryd.f81) Tryd.func81 rfl rfl (by kernel_rfl) 1 (by decide) (fun _ => rfl) (fun _ => ([], 0)) (fun x hx => ⟨1, ?_⟩)
  obtain ⟨v0, v1⟩ := x
  simp only [ok_Slot] at hx
  simp (implicitDefEqProofs := false) [-getElem?_pos, -getElem?_neg, Tryd.f81, cL_Slot, cI_Slot]
noncomputable def LToSlotS : Code := nav [1,1,0,1,0,0] (bodyOf Tryd.f60)
def lmToSlotS : Nat → List Nat × Nat := fun _ => ([0, 3, 4], 1)
def TToSlotS (l : List TySlot) (ep i : Nat) : St := ⟨[(0, .one (.sl false 137 (l.map cL_Slot))), (3, .one (.ow 1 1)), (4, .one (.lit (.int .i64 i)))], [none, some (.rows 1 1 135 (upTo [.lit (.int .i64 0), .lit (.int .i64 0)] (l.map (cI_Slot true)) i))], ep + i⟩
theorem stepToSlotS (k ep : Nat) (l : List TySlot) (i : Nat) (hi : i < l.length) (hl : l.length ≤ 9223372036854775807) (hr : ∀ r ∈ l, ok_Slot r) :
    kept 1 (lmToSlotS 0) (exec Tryd.prog (tabCal (tabOf [(81, FToSlot)])) k 1 lmToSlotS 0 LToSlotS (TToSlotS l ep i)) = some (.norm, TToSlotS l ep (i + 1)) := by
  have hx : l[i]? = some l[i] := List.getElem?_eq_getElem hi
  have hi' : (i : Int) < l.length := by omega
  have hi2 : i < (l.map (cI_Slot true)).length := by rw [List.length_map]; exact hi
  have hlen : (upTo [V.lit (.int .i64 0), .lit (.int .i64 0)] (l.map (cI_Slot true)) i).length = l.length := by rw [upTo_len (by omega), List.length_map]
  have hget := upTo_get (z := [V.lit (.int .i64 0), .lit (.int .i64 0)]) hi2
  have hset := upTo_set (z := [V.lit (.int .i64 0), .lit (.int .i64 0)]) (rows_get (f := cI_Slot true) hx)
  have hc := callToSlot (hr _ (List.getElem_mem hi))
  have hw := wrap_succ hi hl
  generalize hP : upTo [V.lit (.int .i64 0), .lit (.int .i64 0)] (l.map (cI_Slot true)) (i + 1) = P1 at *
  generalize hP0 : upTo [V.lit (.int .i64 0), .lit (.int .i64 0)] (l.map (cI_Slot true)) i = P0 at *
  simp only [cL_Slot, cI_Slot] at hc hset
  simp only [TToSlotS, hP, hP0]
  simp (implicitDefEqProofs := false) [-getElem?_pos, -getElem?_neg, LToSlotS, bodyOf, Tryd.f60, nav, lmToSlotS, hx, cL_Slot, cI_Slot, hget, hlen, hi', hw, hset, hi, hc, hP, hP0]
theorem endToSlotS (k ep : Nat) (l : List TySlot) (cal : Cal) :
    kept 1 (lmToSlotS 0) (exec Tryd.prog cal k 1 lmToSlotS 0 LToSlotS (TToSlotS l ep l.length)) = some (.exit 0, TToSlotS l ep l.length) := by
  simp (implicitDefEqProofs := false) [-getElem?_pos, -getElem?_neg, LToSlotS, bodyOf, Tryd.f60, nav, TToSlotS, lmToSlotS]
noncomputable def FToSlotS : Con := con (fun l : List TySlot => [.one (.sl false 137 (l.map cL_Slot))]) (fun l => (l.length * 16 ≤ 140737488351232 ∧ ∀ y0 ∈ l, ok_Slot y0)) (fun l => ((false, [none]), [.sl true 135 (l.map (cI_Slot true))]))
theorem callToSlotS {l : List TySlot} (h : (l.length * 16 ≤ 140737488351232 ∧ ∀ y0 ∈ l, ok_Slot y0)) : FToSlotS [.one (.sl false 137 (l.map cL_Slot))] = some ((false, [none]), [.sl true 135 (l.map (cI_Slot true))]) :=
  con_at (arg := fun l : List TySlot => [.one (.sl false 137 (l.map cL_Slot))]) (by intro a b h; simpa [rows_inj cL_Slot_inj] using h) h
theorem fn_toSlotS : Fn Tryd.prog 60 FToSlotS := by
  refine Fn.con [(81, FToSlot)] (by simp [fn_toSlot]) mixed (fn := Tryd.f60) Tryd.func60 rfl rfl (by kernel_rfl) 1 (by decide) (fun _ => rfl) lmToSlotS (fun l hl => ⟨l.length + 1, ?_⟩)
  obtain ⟨hl, hr⟩ := hl
  have hloop : ∀ S, keep 1 (lmToSlotS 0) S = TToSlotS l S.ep 0 → exec Tryd.prog (tabCal (tabOf [(81, FToSlot)])) (l.length + 1) 1 lmToSlotS 0 (.loop LToSlotS) S = some (.exit 0, TToSlotS l S.ep l.length) := fun S hS =>
    loop_to (TToSlotS l S.ep) l.length (by simp) (by omega) hS (fun i hi => stepToSlotS _ S.ep l i hi (by omega) hr) (endToSlotS _ S.ep l _)
  simp only [LToSlotS, bodyOf, Tryd.f60, nav, Option.getD_some, tabOf] at hloop
  have h63 : l.length ≤ 9223372036854775807 := by omega
  have h47 : l.length * 16 ≤ 140737488355328 := by omega
  have hlm : (l.map (cI_Slot true)).length = l.length := List.length_map _
  simp (implicitDefEqProofs := false) [-getElem?_pos, -getElem?_neg, Tryd.f60, h47, h63, hloop, TToSlotS, lmToSlotS, upZero hlm, upAll hlm]
noncomputable def FEqSlot : Con := con (fun p : TySlot × TySlot => [.agg (cI_Slot false p.1), .agg (cI_Slot false p.2)]) (fun p => ok_Slot p.1) (fun p => ((false, [none]), [.lit (.bool (decide (p.1 = p.2)))]))
theorem callEqSlot {x y : TySlot} (h : ok_Slot x) : FEqSlot [.agg (cI_Slot false x), .agg (cI_Slot false y)] = some ((false, [none]), [.lit (.bool (decide (x = y)))]) :=
  con_at (arg := fun p : TySlot × TySlot => [.agg (cI_Slot false p.1), .agg (cI_Slot false p.2)]) (a := (x, y)) (by
    rintro ⟨a, b⟩ ⟨c, d⟩ h
    simp only [List.cons.injEq, TV.agg.injEq, and_true] at h
    rw [cI_Slot_inj _ _ _ h.1, cI_Slot_inj _ _ _ h.2]) h
theorem fn_eqSlot : Fn Tryd.prog 84 FEqSlot := by
  refine Fn.con [] (by simp) mixed (fn := Tryd.f84) Tryd.func84 rfl rfl (by kernel_rfl) 2 (by decide) (fun _ => rfl) (fun _ => ([], 0)) (fun p hp => ⟨1, ?_⟩)
  obtain ⟨⟨v0, v1⟩, ⟨v0', v1'⟩⟩ := p
  simp only [ok_Slot] at hp
  by_cases q0 : v0 = v0'
  rotate_left
  · have e : (v0 != v0') = true := by simp [q0]
    simp (implicitDefEqProofs := false) [-getElem?_pos, -getElem?_neg, Tryd.f84, cL_Slot, cI_Slot, q0, e]
  subst q0
  by_cases q1 : v1 = v1'
  rotate_left
  · have e : (v1 != v1') = true := by simp [q1]
    simp (implicitDefEqProofs := false) [-getElem?_pos, -getElem?_neg, Tryd.f84, cL_Slot, cI_Slot, q1, e]
  subst q1
  simp (implicitDefEqProofs := false) [-getElem?_pos, -getElem?_neg, Tryd.f84, cL_Slot, cI_Slot]
noncomputable def LEqSlotS : Code := nav [1,1,0,1,0,0] (bodyOf Tryd.f64)
def lmEqSlotS : Nat → List Nat × Nat := fun _ => ([0, 1, 4, 5], 0)
def TEqSlotS (a b : List TySlot) (i : Nat) : St := ⟨[(0, .one (.sl false 135 (a.map (cI_Slot false)))), (1, .one (.sl false 135 (b.map (cI_Slot false)))), (4, .one (.lit (.bool false))), (5, .one (.lit (.int .i64 i)))], [none], 1 + i⟩
def QEqSlotS (a b : List TySlot) (i : Nat) (x : Vm.X) (S' : St) : Prop := if a.drop i = b.drop i then x = .exit 0 else x = .ret ∧ look S'.tm 4 = some (.one (.lit (.bool false)))
noncomputable def FEqSlotS : Con := con (fun p : List TySlot × List TySlot => [.one (.sl false 135 (p.1.map (cI_Slot false))), .one (.sl false 135 (p.2.map (cI_Slot false)))]) (fun p => (p.1.length * 16 ≤ 140737488351232 ∧ ∀ y0 ∈ p.1, ok_Slot y0)) (fun p => ((false, [none]), [.lit (.bool (decide (p.1 = p.2)))]))
theorem drEqSlotS : drawn (opsOf (nav [1,0,0,0] LEqSlotS)) = some ([0, 1, 2, 3, 4, 5, 6, 7], [8, 9]) := by kernel_rfl
theorem stepEqSlotS {a b : List TySlot} {i k : Nat} (hi : i < a.length) (hj : i < b.length) (hl : a.length ≤ 140737488355328) (hr : ok_Slot a[i]) :
    kept 1 (lmEqSlotS 0) (exec Tryd.prog (tabCal (tabOf [(84, FEqSlot)])) k 1 lmEqSlotS 0 LEqSlotS (TEqSlotS a b i)) = if a[i] = b[i] then some (.norm, TEqSlotS a b (i + 1)) else some (.ret, ⟨[(0, .one (.sl false 135 (a.map (cI_Slot false)))), (1, .one (.sl false 135 (b.map (cI_Slot false)))), (4, .one (.lit (.bool false))), (5, .one (.lit (.int .i64 i)))], [none], 1 + i + 1⟩) := by
  have hx : a[i]? = some a[i] := List.getElem?_eq_getElem hi
  have hy : b[i]? = some b[i] := List.getElem?_eq_getElem hj
  have hi' : (i : Int) < a.length := by omega
  have hw := wrap_succ hi (by omega)
  have hd := drEqSlotS
  simp only [LEqSlotS, bodyOf, Tryd.f64, nav, opsOf, Option.getD_some] at hd
  have hcall := callEqSlot (y := b[i]) hr
  simp only [cL_Slot, cI_Slot] at hcall
  split
  · rename_i hc
    have hc1 : (decide (a[i] = b[i])) = true := by simp [hc]
    rw [hc1] at hcall
    simp (implicitDefEqProofs := false) [-getElem?_pos, -getElem?_neg, LEqSlotS, bodyOf, Tryd.f64, nav, TEqSlotS, lmEqSlotS, ex_draw2 _ _ hd, hx, hy, cL_Slot, cI_Slot, hi', hi, hw, hcall]
  · rename_i hc
    have hc1 : (decide (a[i] = b[i])) = false := by simp [hc]
    rw [hc1] at hcall
    simp (implicitDefEqProofs := false) [-getElem?_pos, -getElem?_neg, LEqSlotS, bodyOf, Tryd.f64, nav, TEqSlotS, lmEqSlotS, ex_draw2 _ _ hd, hx, hy, cL_Slot, cI_Slot, hi', hi, hw, hcall]
theorem endEqSlotS {a b : List TySlot} {k : Nat} {cal : Cal} :
    kept 1 (lmEqSlotS 0) (exec Tryd.prog cal k 1 lmEqSlotS 0 LEqSlotS (TEqSlotS a b a.length)) = some (.exit 0, TEqSlotS a b a.length) := by
  simp (implicitDefEqProofs := false) [-getElem?_pos, -getElem?_neg, LEqSlotS, bodyOf, Tryd.f64, nav, TEqSlotS, lmEqSlotS]
theorem fn_eqSlotS : Fn Tryd.prog 64 FEqSlotS := by
  refine Fn.con [(84, FEqSlot)] (by simp [fn_eqSlot]) mixed (fn := Tryd.f64) Tryd.func64 rfl rfl (by kernel_rfl) 2 (by decide) (fun _ => rfl) lmEqSlotS (fun p hp => ⟨p.1.length + 1, ?_⟩)
  obtain ⟨a, b⟩ := p
  have hl : a.length ≤ 140737488355328 := by have := hp.1; simp only at this; omega
  simp only
  by_cases hab : a.length = b.length
  · obtain ⟨x, S', hloop, hQ⟩ := loop_run (P := Tryd.prog) (cal := tabCal (tabOf [(84, FEqSlot)])) (k := a.length + 1) (n0 := 1) (b := 0) (lm := lmEqSlotS) (c := LEqSlotS) (TEqSlotS a b) (fun i => i ≤ a.length) (fun i => a.length - i) (QEqSlotS a b) (fun i q1 => by
        rcases Nat.lt_or_ge i a.length with hi | hi
        · have hj : i < b.length := by omega
          have hst := stepEqSlotS (k := a.length + 1) hi hj hl (hp.2 _ (List.getElem_mem hi))
          by_cases hf : a[i] = b[i]
          · rw [if_pos hf] at hst
            refine .inl ⟨_, hst, hi, by omega, fun x S' hq => ?_⟩
            unfold QEqSlotS at hq ⊢
            simpa only [drop_eq hi hj, hf, true_and] using hq
          · rw [if_neg hf] at hst
            refine .inr ⟨_, _, hst, by simp, ?_⟩
            unfold QEqSlotS
            simp [drop_eq hi hj, hf, look]
        · obtain rfl : i = a.length := by omega
          refine .inr ⟨_, _, endEqSlotS, by simp, ?_⟩
          unfold QEqSlotS
          have : a.drop a.length = b.drop a.length := by simp [hab]
          rw [if_pos this]) (s := 0) (Nat.zero_le _) (by omega)
    have hab2 : ((a.length : Int) != b.length) = false := by simp [hab]
    replace hloop := hloop (TEqSlotS a b 0) (by simp [keep, lmEqSlotS, TEqSlotS, look])
    change loopAt _ _ _ _ _ _ _ _ = _ at hloop
    simp [LEqSlotS, bodyOf, Tryd.f64, nav, TEqSlotS, tabOf] at hloop
    unfold QEqSlotS at hQ
    simp only [List.drop_zero] at hQ
    split at hQ
    · rename_i he
      subst hQ
      subst he
      simp (implicitDefEqProofs := false) [-getElem?_pos, -getElem?_neg, Tryd.f64, ex_loop, hloop, lmEqSlotS]
    · rename_i he
      obtain ⟨rfl, hlook⟩ := hQ
      simp (implicitDefEqProofs := false) [-getElem?_pos, -getElem?_neg, Tryd.f64, ex_loop, hloop, lmEqSlotS, hlook, hab2, he]
  · have hne : ¬ a = b := fun h => hab (by rw [h])
    have hab' : ¬ (a.length : Int) = b.length := by omega
    simp (implicitDefEqProofs := false) [-getElem?_pos, -getElem?_neg, Tryd.f64, hab', hab, hne]
theorem callEqSlotS {a b : List TySlot} (h : (a.length * 16 ≤ 140737488351232 ∧ ∀ y0 ∈ a, ok_Slot y0)) : FEqSlotS [.one (.sl false 135 (a.map (cI_Slot false))), .one (.sl false 135 (b.map (cI_Slot false)))] = some ((false, [none]), [.lit (.bool (decide (a = b)))]) :=
  con_at (arg := fun p : List TySlot × List TySlot => [.one (.sl false 135 (p.1.map (cI_Slot false))), .one (.sl false 135 (p.2.map (cI_Slot false)))]) (a := (a, b)) (by rintro ⟨a, b⟩ ⟨c, d⟩ h; simpa [rows_inj (cI_Slot_inj false)] using h) h
/-! ### Err -/
abbrev TyErr := Int × Int × Int
def cL_Err (x : TyErr) : List V := [.lit (.int .i64 x.1), .lit (.int .i64 x.2.1), .lit (.int .i64 x.2.2)]
def cI_Err (own : Bool) (x : TyErr) : List V := [.lit (.int .i64 x.1), .lit (.int .i64 x.2.1), .lit (.int .i64 x.2.2)]
abbrev ok_Err (x : TyErr) : Prop := (Lit.int .i64 x.1).wf = true ∧ (Lit.int .i64 x.2.1).wf = true ∧ (Lit.int .i64 x.2.2).wf = true
theorem cL_Err_inj : ∀ a b, cL_Err a = cL_Err b → a = b := by
  rintro ⟨a_0, a_1, a_2⟩ ⟨b_0, b_1, b_2⟩ h
  simpa [cL_Err] using h
theorem cI_Err_inj (own : Bool) : ∀ a b, cI_Err own a = cI_Err own b → a = b := by
  rintro ⟨a_0, a_1, a_2⟩ ⟨b_0, b_1, b_2⟩ h
  simpa [cI_Err] using h
@[simp] theorem er_Err (own : Bool) (x : TyErr) : (cI_Err own x).map V.er = cI_Err false x := by cases own <;> simp [cI_Err, V.er, erRows_ints, erRows_ints2]
@[simp] theorem erR_Err (own : Bool) (l : List TyErr) : erRows (l.map (cI_Err own)) = l.map (cI_Err false) := rows_er (er_Err own) l
noncomputable def FSzErrS : Con := con (fun a : List TyErr × Int => [.one (.sl false 142 (a.1.map cL_Err)), .one (.lit (.int .i64 a.2))]) (fun a => 0 ≤ a.2 ∧ a.2 ≤ much ∧ (a.1.length * 24 ≤ 140737488351232 ∧ ∀ y0 ∈ a.1, ok_Err y0)) (fun a => ((false, [none]), [.lit (.int .i64 (sz0 a.1 a.2))]))
theorem callSzErrS {l : List TyErr} {left : Int} (h1 : 0 ≤ left) (h2 : left ≤ much) (h3 : (l.length * 24 ≤ 140737488351232 ∧ ∀ y0 ∈ l, ok_Err y0)) : FSzErrS [.one (.sl false 142 (l.map cL_Err)), .one (.lit (.int .i64 left))] = some ((false, [none]), [.lit (.int .i64 (sz0 l left))]) :=
  con_at (arg := fun a : List TyErr × Int => [.one (.sl false 142 (a.1.map cL_Err)), .one (.lit (.int .i64 a.2))]) (a := (l, left)) (by rintro ⟨a, b⟩ ⟨c, d⟩ h; simpa [rows_inj cL_Err_inj] using h) ⟨h1, h2, h3⟩
theorem fn_szErrS : Fn Tryd.prog 58 FSzErrS := by
  refine Fn.con [] (by simp) mixed (fn := Tryd.f58) Tryd.func58 rfl rfl (by kernel_rfl) 2 (by decide) (fun _ => rfl) (fun _ => ([], 0)) (fun a ha => ⟨1, ?_⟩)
  obtain ⟨l, left⟩ := a
  obtain ⟨h1, h2, h3, h4⟩ := ha
  simp only [much] at h1 h2 h3
  have hw : IntKind.i64.wrap (left - (l.length : Int)) = left - l.length := wrap_id (by omega) (by omega)
  by_cases hc : left - (l.length : Int) < 0
  · simp (implicitDefEqProofs := false) [-getElem?_pos, -getElem?_neg, Tryd.f58, hw, hc, sz0]
  · simp (implicitDefEqProofs := false) [-getElem?_pos, -getElem?_neg, Tryd.f58, hw, hc, sz0]
noncomputable def FToErr : Con := con (fun x : TyErr => [.agg (cL_Err x)]) ok_Err (fun x => ((false, [some 3]), cI_Err true x))
theorem callToErr {x : TyErr} (h : ok_Err x) : FToErr [.agg (cL_Err x)] = some ((false, [some 3]), cI_Err true x) := con_at (arg := fun x : TyErr => [.agg (cL_Err x)]) (fun a b h => cL_Err_inj a b (by simpa using h)) h
theorem fn_toErr : Fn Tryd.prog 83 FToErr := by
  refine Fn.con [] (by simp) mixed (fn := Tryd.f83) Tryd.func83 rfl rfl (by kernel_rfl) 1 (by decide) (fun _ => rfl) (fun _ => ([], 0)) (fun x hx => ⟨1, ?_⟩)
  obtain ⟨v0, v1, v2⟩ := x
  simp only [ok_Err] at hx
  simp (implicitDefEqProofs := false) [-getElem?_pos, -getElem?_neg, Tryd.f83, cL_Slot, cI_Slot, cL_Err, cI_Err]
noncomputable def LToErrS : Code := nav [1,1,0,1,0,0] (bodyOf Tryd.f62)
def lmToErrS : Nat → List Nat × Nat := fun _ => ([0, 3, 4], 1)
def TToErrS (l : List TyErr) (ep i : Nat) : St := ⟨[(0, .one (.sl false 142 (l.map cL_Err))), (3, .one (.ow 1 1)), (4, .one (.lit (.int .i64 i)))], [none, some (.rows 1 1 140 (upTo [.lit (.int .i64 0), .lit (.int .i64 0), .lit (.int .i64 0)] (l.map (cI_Err true)) i))], ep + i⟩
theorem stepToErrS (k ep : Nat) (l : List TyErr) (i : Nat) (hi : i < l.length) (hl : l.length ≤ 9223372036854775807) (hr : ∀ r ∈ l, ok_Err r) :
    kept 1 (lmToErrS 0) (exec Tryd.prog (tabCal (tabOf [(83, FToErr)])) k 1 lmToErrS 0 LToErrS (TToErrS l ep i)) = some (.norm, TToErrS l ep (i + 1)) := by
  have hx : l[i]? = some l[i] := List.getElem?_eq_getElem hi
  have hi' : (i : Int) < l.length := by omega
  have hi2 : i < (l.map (cI_Err true)).length := by rw [List.length_map]; exact hi
  have hlen : (upTo [V.lit (.int .i64 0), .lit (.int .i64 0), .lit (.int .i64 0)] (l.map (cI_Err true)) i).length = l.length := by rw [upTo_len (by omega), List.length_map]
  have hget := upTo_get (z := [V.lit (.int .i64 0), .lit (.int .i64 0), .lit (.int .i64 0)]) hi2
  have hset := upTo_set (z := [V.lit (.int .i64 0), .lit (.int .i64 0), .lit (.int .i64 0)]) (rows_get (f := cI_Err true) hx)
  have hc := callToErr (hr _ (List.getElem_mem hi))
  have hw := wrap_succ hi hl
  generalize hP : upTo [V.lit (.int .i64 0), .lit (.int .i64 0), .lit (.int .i64 0)] (l.map (cI_Err true)) (i + 1) = P1 at *
  generalize hP0 : upTo [V.lit (.int .i64 0), .lit (.int .i64 0), .lit (.int .i64 0)] (l.map (cI_Err true)) i = P0 at *
  simp only [cL_Slot, cI_Slot, cL_Err, cI_Err] at hc hset
  simp only [TToErrS, hP, hP0]
  simp (implicitDefEqProofs := false) [-getElem?_pos, -getElem?_neg, LToErrS, bodyOf, Tryd.f62, nav, lmToErrS, hx, cL_Slot, cI_Slot, cL_Err, cI_Err, hget, hlen, hi', hw, hset, hi, hc, hP, hP0]
theorem endToErrS (k ep : Nat) (l : List TyErr) (cal : Cal) :
    kept 1 (lmToErrS 0) (exec Tryd.prog cal k 1 lmToErrS 0 LToErrS (TToErrS l ep l.length)) = some (.exit 0, TToErrS l ep l.length) := by
  simp (implicitDefEqProofs := false) [-getElem?_pos, -getElem?_neg, LToErrS, bodyOf, Tryd.f62, nav, TToErrS, lmToErrS]
noncomputable def FToErrS : Con := con (fun l : List TyErr => [.one (.sl false 142 (l.map cL_Err))]) (fun l => (l.length * 24 ≤ 140737488351232 ∧ ∀ y0 ∈ l, ok_Err y0)) (fun l => ((false, [none]), [.sl true 140 (l.map (cI_Err true))]))
theorem callToErrS {l : List TyErr} (h : (l.length * 24 ≤ 140737488351232 ∧ ∀ y0 ∈ l, ok_Err y0)) : FToErrS [.one (.sl false 142 (l.map cL_Err))] = some ((false, [none]), [.sl true 140 (l.map (cI_Err true))]) :=
  con_at (arg := fun l : List TyErr => [.one (.sl false 142 (l.map cL_Err))]) (by intro a b h; simpa [rows_inj cL_Err_inj] using h) h
theorem fn_toErrS : Fn Tryd.prog 62 FToErrS := by
  refine Fn.con [(83, FToErr)] (by simp [fn_toErr]) mixed (fn := Tryd.f62) Tryd.func62 rfl rfl (by kernel_rfl) 1 (by decide) (fun _ => rfl) lmToErrS (fun l hl => ⟨l.length + 1, ?_⟩)
  obtain ⟨hl, hr⟩ := hl
  have hloop : ∀ S, keep 1 (lmToErrS 0) S = TToErrS l S.ep 0 → exec Tryd.prog (tabCal (tabOf [(83, FToErr)])) (l.length + 1) 1 lmToErrS 0 (.loop LToErrS) S = some (.exit 0, TToErrS l S.ep l.length) := fun S hS =>
    loop_to (TToErrS l S.ep) l.length (by simp) (by omega) hS (fun i hi => stepToErrS _ S.ep l i hi (by omega) hr) (endToErrS _ S.ep l _)
  simp only [LToErrS, bodyOf, Tryd.f62, nav, Option.getD_some, tabOf] at hloop
  have h63 : l.length ≤ 9223372036854775807 := by omega
  have h47 : l.length * 24 ≤ 140737488355328 := by omega
  have hlm : (l.map (cI_Err true)).length = l.length := List.length_map _
  simp (implicitDefEqProofs := false) [-getElem?_pos, -getElem?_neg, Tryd.f62, h47, h63, hloop, TToErrS, lmToErrS, upZero hlm, upAll hlm]
noncomputable def FEqErr : Con := con (fun p : TyErr × TyErr => [.agg (cI_Err false p.1), .agg (cI_Err false p.2)]) (fun p => ok_Err p.1) (fun p => ((false, [none]), [.lit (.bool (decide (p.1 = p.2)))]))
theorem callEqErr {x y : TyErr} (h : ok_Err x) : FEqErr [.agg (cI_Err false x), .agg (cI_Err false y)] = some ((false, [none]), [.lit (.bool (decide (x = y)))]) :=
  con_at (arg := fun p : TyErr × TyErr => [.agg (cI_Err false p.1), .agg (cI_Err false p.2)]) (a := (x, y)) (by
    rintro ⟨a, b⟩ ⟨c, d⟩ h
    simp only [List.cons.injEq, TV.agg.injEq, and_true] at h
    rw [cI_Err_inj _ _ _ h.1, cI_Err_inj _ _ _ h.2]) h
theorem fn_eqErr : Fn Tryd.prog 86 FEqErr := by
  refine Fn.con [] (by simp) mixed (fn := Tryd.f86) Tryd.func86 rfl rfl (by kernel_rfl) 2 (by decide) (fun _ => rfl) (fun _ => ([], 0)) (fun p hp => ⟨1, ?_⟩)
  obtain ⟨⟨v0, v1, v2⟩, ⟨v0', v1', v2'⟩⟩ := p
  simp only [ok_Err] at hp
  by_cases q0 : v0 = v0'
  rotate_left
  · have e : (v0 != v0') = true := by simp [q0]
    simp (implicitDefEqProofs := false) [-getElem?_pos, -getElem?_neg, Tryd.f86, cL_Slot, cI_Slot, cL_Err, cI_Err, q0, e]
  subst q0
  by_cases q1 : v1 = v1'
  rotate_left
  · have e : (v1 != v1') = true := by simp [q1]
    simp (implicitDefEqProofs := false) [-getElem?_pos, -getElem?_neg, Tryd.f86, cL_Slot, cI_Slot, cL_Err, cI_Err, q1, e]
  subst q1
  by_cases q2 : v2 = v2'
  rotate_left
  · have e : (v2 != v2') = true := by simp [q2]
    simp (implicitDefEqProofs := false) [-getElem?_pos, -getElem?_neg, Tryd.f86, cL_Slot, cI_Slot, cL_Err, cI_Err, q2, e]
  subst q2
  simp (implicitDefEqProofs := false) [-getElem?_pos, -getElem?_neg, Tryd.f86, cL_Slot, cI_Slot, cL_Err, cI_Err]
noncomputable def LEqErrS : Code := nav [1,1,0,1,0,0] (bodyOf Tryd.f66)
def lmEqErrS : Nat → List Nat × Nat := fun _ => ([0, 1, 4, 5], 0)
def TEqErrS (a b : List TyErr) (i : Nat) : St := ⟨[(0, .one (.sl false 140 (a.map (cI_Err false)))), (1, .one (.sl false 140 (b.map (cI_Err false)))), (4, .one (.lit (.bool false))), (5, .one (.lit (.int .i64 i)))], [none], 1 + i⟩
def QEqErrS (a b : List TyErr) (i : Nat) (x : Vm.X) (S' : St) : Prop := if a.drop i = b.drop i then x = .exit 0 else x = .ret ∧ look S'.tm 4 = some (.one (.lit (.bool false)))
noncomputable def FEqErrS : Con := con (fun p : List TyErr × List TyErr => [.one (.sl false 140 (p.1.map (cI_Err false))), .one (.sl false 140 (p.2.map (cI_Err false)))]) (fun p => (p.1.length * 24 ≤ 140737488351232 ∧ ∀ y0 ∈ p.1, ok_Err y0)) (fun p => ((false, [none]), [.lit (.bool (decide (p.1 = p.2)))]))
theorem drEqErrS : drawn (opsOf (nav [1,0,0,0] LEqErrS)) = some ([0, 1, 2, 3, 4, 5, 6, 7], [8, 9]) := by kernel_rfl
theorem stepEqErrS {a b : List TyErr} {i k : Nat} (hi : i < a.length) (hj : i < b.length) (hl : a.length ≤ 140737488355328) (hr : ok_Err a[i]) :
    kept 1 (lmEqErrS 0) (exec Tryd.prog (tabCal (tabOf [(86, FEqErr)])) k 1 lmEqErrS 0 LEqErrS (TEqErrS a b i)) = if a[i] = b[i] then some (.norm, TEqErrS a b (i + 1)) else some (.ret, ⟨[(0, .one (.sl false 140 (a.map (cI_Err false)))), (1, .one (.sl false 140 (b.map (cI_Err false)))), (4, .one (.lit (.bool false))), (5, .one (.lit (.int .i64 i)))], [none], 1 + i + 1⟩) := by
  have hx : a[i]? = some a[i] := List.getElem?_eq_getElem hi
  have hy : b[i]? = some b[i] := List.getElem?_eq_getElem hj
  have hi' : (i : Int) < a.length := by omega
  have hw := wrap_succ hi (by omega)
  have hd := drEqErrS
  simp only [LEqErrS, bodyOf, Tryd.f66, nav, opsOf, Option.getD_some] at hd
  have hcall := callEqErr (y := b[i]) hr
  simp only [cL_Slot, cI_Slot, cL_Err, cI_Err] at hcall
  split
  · rename_i hc
    have hc1 : (decide (a[i] = b[i])) = true := by simp [hc]
    rw [hc1] at hcall
    simp (implicitDefEqProofs := false) [-getElem?_pos, -getElem?_neg, LEqErrS, bodyOf, Tryd.f66, nav, TEqErrS, lmEqErrS, ex_draw2 _ _ hd, hx, hy, cL_Slot, cI_Slot, cL_Err, cI_Err, hi', hi, hw, hcall]
  · rename_i hc
    have hc1 : (decide (a[i] = b[i])) = false := by simp [hc]
    rw [hc1] at hcall
    simp (implicitDefEqProofs := false) [-getElem?_pos, -getElem?_neg, LEqErrS, bodyOf, Tryd.f66, nav, TEqErrS, lmEqErrS, ex_draw2 _ _ hd, hx, hy, cL_Slot, cI_Slot, cL_Err, cI_Err, hi', hi, hw, hcall]
theorem endEqErrS {a b : List TyErr} {k : Nat} {cal : Cal} :
    kept 1 (lmEqErrS 0) (exec Tryd.prog cal k 1 lmEqErrS 0 LEqErrS (TEqErrS a b a.length)) = some (.exit 0, TEqErrS a b a.length) := by
  simp (implicitDefEqProofs := false) [-getElem?_pos, -getElem?_neg, LEqErrS, bodyOf, Tryd.f66, nav, TEqErrS, lmEqErrS]
theorem fn_eqErrS : Fn Tryd.prog 66 FEqErrS := by
  refine Fn.con [(86, FEqErr)] (by simp [fn_eqErr]) mixed (fn := Tryd.f66) Tryd.func66 rfl rfl (by kernel_rfl) 2 (by decide) (fun _ => rfl) lmEqErrS (fun p hp => ⟨p.1.length + 1, ?_⟩)
  obtain ⟨a, b⟩ := p
  have hl : a.length ≤ 140737488355328 := by have := hp.1; simp only at this; omega
  simp only
  by_cases hab : a.length = b.length
  · obtain ⟨x, S', hloop, hQ⟩ := loop_run (P := Tryd.prog) (cal := tabCal (tabOf [(86, FEqErr)])) (k := a.length + 1) (n0 := 1) (b := 0) (lm := lmEqErrS) (c := LEqErrS) (TEqErrS a b) (fun i => i ≤ a.length) (fun i => a.length - i) (QEqErrS a b) (fun i q1 => by
        rcases Nat.lt_or_ge i a.length with hi | hi
        · have hj : i < b.length := by omega
          have hst := stepEqErrS (k := a.length + 1) hi hj hl (hp.2 _ (List.getElem_mem hi))
          by_cases hf : a[i] = b[i]
          · rw [if_pos hf] at hst
            refine .inl ⟨_, hst, hi, by omega, fun x S' hq => ?_⟩
            unfold QEqErrS at hq ⊢
            simpa only [drop_eq hi hj, hf, true_and] using hq
          · rw [if_neg hf] at hst
            refine .inr ⟨_, _, hst, by simp, ?_⟩
            unfold QEqErrS
            simp [drop_eq hi hj, hf, look]
        · obtain rfl : i = a.length := by omega
          refine .inr ⟨_, _, endEqErrS, by simp, ?_⟩
          unfold QEqErrS
          have : a.drop a.length = b.drop a.length := by simp [hab]
          rw [if_pos this]) (s := 0) (Nat.zero_le _) (by omega)
    have hab2 : ((a.length : Int) != b.length) = false := by simp [hab]
    replace hloop := hloop (TEqErrS a b 0) (by simp [keep, lmEqErrS, TEqErrS, look])
    change loopAt _ _ _ _ _ _ _ _ = _ at hloop
    simp [LEqErrS, bodyOf, Tryd.f66, nav, TEqErrS, tabOf] at hloop
    unfold QEqErrS at hQ
    simp only [List.drop_zero] at hQ
    split at hQ
    · rename_i he
      subst hQ
      subst he
      simp (implicitDefEqProofs := false) [-getElem?_pos, -getElem?_neg, Tryd.f66, ex_loop, hloop, lmEqErrS]
    · rename_i he
      obtain ⟨rfl, hlook⟩ := hQ
      simp (implicitDefEqProofs := false) [-getElem?_pos, -getElem?_neg, Tryd.f66, ex_loop, hloop, lmEqErrS, hlook, hab2, he]
  · have hne : ¬ a = b := fun h => hab (by rw [h])
    have hab' : ¬ (a.length : Int) = b.length := by omega
    simp (implicitDefEqProofs := false) [-getElem?_pos, -getElem?_neg, Tryd.f66, hab', hab, hne]
theorem callEqErrS {a b : List TyErr} (h : (a.length * 24 ≤ 140737488351232 ∧ ∀ y0 ∈ a, ok_Err y0)) : FEqErrS [.one (.sl false 140 (a.map (cI_Err false))), .one (.sl false 140 (b.map (cI_Err false)))] = some ((false, [none]), [.lit (.bool (decide (a = b)))]) :=
  con_at (arg := fun p : List TyErr × List TyErr => [.one (.sl false 140 (p.1.map (cI_Err false))), .one (.sl false 140 (p.2.map (cI_Err false)))]) (a := (a, b)) (by rintro ⟨a, b⟩ ⟨c, d⟩ h; simpa [rows_inj (cI_Err_inj false)] using h) h
/-! ### Node -/
abbrev TyNode := Int × Int × Int × Int × (List (Int))
instance decTyNode : DecidableEq TyNode := @instDecidableEqProd _ _ inferInstance (@instDecidableEqProd _ _ inferInstance (@instDecidableEqProd _ _ inferInstance (@instDecidableEqProd _ _ inferInstance (inferInstance))))
def cL_Node (x : TyNode) : List V := [.lit (.int .i64 x.1), .lit (.int .i64 x.2.1), .lit (.int .i64 x.2.2.1), .lit (.int .i64 x.2.2.2.1), .sl false 3 (ints x.2.2.2.2)]
def cI_Node (own : Bool) (x : TyNode) : List V := [.lit (.int .i64 x.1), .lit (.int .i64 x.2.1), .lit (.int .i64 x.2.2.1), .lit (.int .i64 x.2.2.2.1), .sl own 3 (ints x.2.2.2.2)]
abbrev ok_Node (x : TyNode) : Prop := (Lit.int .i64 x.1).wf = true ∧ (Lit.int .i64 x.2.1).wf = true ∧ (Lit.int .i64 x.2.2.1).wf = true ∧ (Lit.int .i64 x.2.2.2.1).wf = true ∧ (x.2.2.2.2.length * 8 ≤ 140737488351232 ∧ ∀ y0 ∈ x.2.2.2.2, (Lit.int .i64 y0).wf = true)
theorem cL_Node_inj : ∀ a b, cL_Node a = cL_Node b → a = b := by
  rintro ⟨a_0, a_1, a_2, a_3, a_4⟩ ⟨b_0, b_1, b_2, b_3, b_4⟩ h
  simpa [cL_Node] using h
theorem cI_Node_inj (own : Bool) : ∀ a b, cI_Node own a = cI_Node own b → a = b := by
  rintro ⟨a_0, a_1, a_2, a_3, a_4⟩ ⟨b_0, b_1, b_2, b_3, b_4⟩ h
  simpa [cI_Node] using h
@[simp] theorem er_Node (own : Bool) (x : TyNode) : (cI_Node own x).map V.er = cI_Node false x := by cases own <;> simp [cI_Node, V.er, erRows_ints, erRows_ints2]
@[simp] theorem erR_Node (own : Bool) (l : List TyNode) : erRows (l.map (cI_Node own)) = l.map (cI_Node false) := rows_er (er_Node own) l
def sz_Node (x : TyNode) : Int → Int := szThen (sz1 x.2.2.2.2) (id)
theorem sz_Node_le (x : TyNode) (left : Int) (h : 0 ≤ left) : sz_Node x left ≤ left := (szThen_le (sz1_le _) (fun l _ => Int.le_refl _)) left h
noncomputable def FSzNode : Con := con (fun p : TyNode × Int => [.agg (cL_Node p.1), .one (.lit (.int .i64 p.2))]) (fun p => 0 ≤ p.2 ∧ p.2 ≤ much ∧ ok_Node p.1) (fun p => ((false, [none]), [.lit (.int .i64 (sz_Node p.1 p.2))]))
theorem callSzNode {x : TyNode} {left : Int} (h1 : 0 ≤ left) (h2 : left ≤ much) (h3 : ok_Node x) : FSzNode [.agg (cL_Node x), .one (.lit (.int .i64 left))] = some ((false, [none]), [.lit (.int .i64 (sz_Node x left))]) :=
  con_at (arg := fun p : TyNode × Int => [.agg (cL_Node p.1), .one (.lit (.int .i64 p.2))]) (a := (x, left)) (by
    rintro ⟨a, b⟩ ⟨c, d⟩ h
    simp only [List.cons.injEq, TV.agg.injEq, TV.one.injEq, V.lit.injEq, Value.int.injEq, true_and, and_true] at h
    rw [cL_Node_inj _ _ h.1, h.2]) ⟨h1, h2, h3⟩
theorem fn_szNode : Fn Tryd.prog 95 FSzNode := by
  refine Fn.con [(29, F63)] (by simp [fn63]) mixed (fn := Tryd.f95) Tryd.func95 rfl rfl (by kernel_rfl) 2 (by decide) (fun _ => rfl) (fun _ => ([], 0)) (fun p hp => ⟨1, ?_⟩)
  obtain ⟨⟨v0, v1, v2, v3, v4⟩, left⟩ := p
  obtain ⟨g1, g2, g3⟩ := hp
  simp only [much] at g1 g2
  simp only [ok_Node] at g3
  simp only [sz_Node, szThen, id]
  have c0 := call63 (l := v4) (left := left) (by omega) (by simp only [much]; omega) (by have := (g3.2.2.2.2).1; omega)
  have l0 := sz1_le v4 left (by omega : 0 ≤ left)
  generalize hq0 : sz1 v4 left = q0 at *
  skip
  by_cases hn0 : q0 < 0
  · simp (implicitDefEqProofs := false) [-getElem?_pos, -getElem?_neg, Tryd.f95, cL_Slot, cI_Slot, cL_Err, cI_Err, cL_Node, cI_Node, c0, hn0]
  simp (implicitDefEqProofs := false) [-getElem?_pos, -getElem?_neg, Tryd.f95, cL_Slot, cI_Slot, cL_Err, cI_Err, cL_Node, cI_Node, c0, hn0]
noncomputable def FSzNodeS : Con := con (fun a : List TyNode × Int => [.one (.sl false 160 (a.1.map cL_Node)), .one (.lit (.int .i64 a.2))]) (fun a => 0 ≤ a.2 ∧ a.2 ≤ much ∧ (a.1.length * 56 ≤ 140737488351232 ∧ ∀ y0 ∈ a.1, ok_Node y0)) (fun a => ((false, [none]), [.lit (.int .i64 (szR sz_Node a.1 a.2))]))
theorem callSzNodeS {l : List TyNode} {left : Int} (h1 : 0 ≤ left) (h2 : left ≤ much) (h3 : (l.length * 56 ≤ 140737488351232 ∧ ∀ y0 ∈ l, ok_Node y0)) : FSzNodeS [.one (.sl false 160 (l.map cL_Node)), .one (.lit (.int .i64 left))] = some ((false, [none]), [.lit (.int .i64 (szR sz_Node l left))]) :=
  con_at (arg := fun a : List TyNode × Int => [.one (.sl false 160 (a.1.map cL_Node)), .one (.lit (.int .i64 a.2))]) (a := (l, left)) (by rintro ⟨a, b⟩ ⟨c, d⟩ h; simpa [rows_inj cL_Node_inj] using h) ⟨h1, h2, h3⟩
noncomputable def LSzNodeS : Code := nav [1,1,1,0,1,0,0] (bodyOf Tryd.f80)
def lmSzNodeS : Nat → List Nat × Nat := fun _ => ([0, 1, 4, 5], 0)
def TSzNodeS (l : List TyNode) (s : Nat × Int) : St := ⟨[(0, .one (.sl false 160 (l.map cL_Node))), (1, .one (.lit (.int .i64 s.2))), (4, .one (.lit (.int .i64 0))), (5, .one (.lit (.int .i64 s.1)))], [none], 1 + s.1⟩
def QSzNodeS (l : List TyNode) (s : Nat × Int) (x : Vm.X) (S' : St) : Prop :=
  if szL sz_Node (l.drop s.1) s.2 < 0 then x = .ret ∧ look S'.tm 4 = some (.one (.lit (.int .i64 (-1)))) ∧ szL sz_Node (l.drop s.1) s.2 = -1 else x = .exit 0 ∧ look S'.tm 1 = some (.one (.lit (.int .i64 (szL sz_Node (l.drop s.1) s.2))))
theorem stepSzNodeS {l : List TyNode} {i : Nat} {left : Int} {k : Nat} (hi : i < l.length) (hl : l.length ≤ 140737488355328) (h1 : 0 ≤ left) (h2 : left ≤ much) (hr : ok_Node l[i]) :
    kept 1 (lmSzNodeS 0) (exec Tryd.prog (tabCal (tabOf [(95, FSzNode)])) k 1 lmSzNodeS 0 LSzNodeS (TSzNodeS l (i, left))) = if sz_Node l[i] left < 0 then some (.ret, ⟨[(0, .one (.sl false 160 (l.map cL_Node))), (1, .one (.lit (.int .i64 (sz_Node l[i] left)))), (4, .one (.lit (.int .i64 (-1)))), (5, .one (.lit (.int .i64 i)))], [none], 1 + i + 1⟩) else some (.norm, TSzNodeS l (i + 1, sz_Node l[i] left)) := by
  have hx : l[i]? = some l[i] := List.getElem?_eq_getElem hi
  have hi' : (i : Int) < l.length := by omega
  have hcall := callSzNode h1 h2 hr
  have hw := wrap_succ hi (by omega)
  simp only [cL_Slot, cI_Slot, cL_Err, cI_Err, cL_Node, cI_Node] at hcall
  generalize hq : sz_Node l[i] left = q at *
  split
  · rename_i hc
    simp (implicitDefEqProofs := false) [-getElem?_pos, -getElem?_neg, LSzNodeS, bodyOf, Tryd.f80, nav, TSzNodeS, lmSzNodeS, hx, cL_Slot, cI_Slot, cL_Err, cI_Err, cL_Node, cI_Node, hi', hi, hcall, hc]
  · rename_i hc
    simp (implicitDefEqProofs := false) [-getElem?_pos, -getElem?_neg, LSzNodeS, bodyOf, Tryd.f80, nav, TSzNodeS, lmSzNodeS, hx, cL_Slot, cI_Slot, cL_Err, cI_Err, cL_Node, cI_Node, hi', hi, hw, hcall, hc]
theorem endSzNodeS {l : List TyNode} {left : Int} {k : Nat} {cal : Cal} :
    kept 1 (lmSzNodeS 0) (exec Tryd.prog cal k 1 lmSzNodeS 0 LSzNodeS (TSzNodeS l (l.length, left))) = some (.exit 0, TSzNodeS l (l.length, left)) := by
  simp (implicitDefEqProofs := false) [-getElem?_pos, -getElem?_neg, LSzNodeS, bodyOf, Tryd.f80, nav, TSzNodeS, lmSzNodeS]
theorem fn_szNodeS : Fn Tryd.prog 80 FSzNodeS := by
  refine Fn.con [(95, FSzNode)] (by simp [fn_szNode]) mixed (fn := Tryd.f80) Tryd.func80 rfl rfl (by kernel_rfl) 2 (by decide) (fun _ => rfl) lmSzNodeS (fun a ha => ⟨a.1.length + 1, ?_⟩)
  obtain ⟨l, left⟩ := a
  obtain ⟨h1, h2, h3, h4⟩ := ha
  simp only at h1 h2 h3 h4 ⊢
  have hl : l.length ≤ 140737488355328 := by omega
  have hw : IntKind.i64.wrap (left - l.length) = left - l.length := wrap_id (by omega) (by simp only [much] at h2; omega)
  by_cases hc : left - (l.length : Int) < 0
  · simp (implicitDefEqProofs := false) [-getElem?_pos, -getElem?_neg, Tryd.f80, hw, hc, szR]
  · obtain ⟨x, S', hloop, hQ⟩ := loop_run (P := Tryd.prog) (cal := tabCal (tabOf [(95, FSzNode)])) (k := l.length + 1) (n0 := 1) (b := 0) (lm := lmSzNodeS) (c := LSzNodeS) (TSzNodeS l) (fun s => s.1 ≤ l.length ∧ 0 ≤ s.2 ∧ s.2 ≤ much) (fun s => l.length - s.1) (QSzNodeS l) (fun s hs => by
        obtain ⟨i, le⟩ := s
        obtain ⟨q1, q2, q3⟩ := hs
        simp only at q1 q2 q3
        rcases Nat.lt_or_ge i l.length with hi | hi
        · have hst := stepSzNodeS (k := l.length + 1) hi hl q2 q3 (h4 _ (List.getElem_mem hi))
          by_cases hf : sz_Node l[i] le < 0
          · rw [if_pos hf] at hst
            refine .inr ⟨_, _, hst, by simp, ?_⟩
            unfold QSzNodeS
            simp only [szL_drop hi, if_pos hf]
            simp [look]
          · rw [if_neg hf] at hst
            refine .inl ⟨_, hst, ⟨hi, by simp only; omega, by have := sz_Node_le l[i] le q2; simp only; omega⟩, by simp only; omega, fun x S' hq => ?_⟩
            unfold QSzNodeS at hq ⊢
            simp only [szL_drop hi, if_neg hf]
            exact hq
        · obtain rfl : i = l.length := by omega
          refine .inr ⟨_, _, endSzNodeS, by simp, ?_⟩
          unfold QSzNodeS
          have : ¬ szL sz_Node (l.drop l.length) le < 0 := by simp [szL]; exact q2
          simp only [if_neg this]
          simp [szL, look, TSzNodeS]) (s := (0, left - l.length)) ⟨Nat.zero_le _, by simp only; omega, by simp only; omega⟩ (by simp only; omega)
    replace hloop := hloop (TSzNodeS l (0, left - l.length)) (by simp [keep, lmSzNodeS, TSzNodeS, look])
    change loopAt _ _ _ _ _ _ _ _ = _ at hloop
    simp [LSzNodeS, bodyOf, Tryd.f80, nav, TSzNodeS, tabOf] at hloop
    unfold QSzNodeS at hQ
    simp only [List.drop_zero] at hQ
    split at hQ
    · rename_i hneg
      obtain ⟨rfl, hlook, hm⟩ := hQ
      simp (implicitDefEqProofs := false) [-getElem?_pos, -getElem?_neg, Tryd.f80, hw, hc, szR, ex_loop, hloop, lmSzNodeS, hlook, hm]
    · obtain ⟨rfl, hlook⟩ := hQ
      simp (implicitDefEqProofs := false) [-getElem?_pos, -getElem?_neg, Tryd.f80, hw, hc, szR, ex_loop, hloop, lmSzNodeS, hlook]
noncomputable def FToNode : Con := con (fun x : TyNode => [.agg (cL_Node x)]) ok_Node (fun x => ((false, [some 5]), cI_Node true x))
theorem callToNode {x : TyNode} (h : ok_Node x) : FToNode [.agg (cL_Node x)] = some ((false, [some 5]), cI_Node true x) := con_at (arg := fun x : TyNode => [.agg (cL_Node x)]) (fun a b h => cL_Node_inj a b (by simpa using h)) h
theorem fn_toNode : Fn Tryd.prog 96 FToNode := by
  refine Fn.con [(32, F64)] (by simp [fn64]) mixed (fn := Tryd.f96) Tryd.func96 rfl rfl (by kernel_rfl) 1 (by decide) (fun _ => rfl) (fun _ => ([], 0)) (fun x hx => ⟨1, ?_⟩)
  obtain ⟨v0, v1, v2, v3, v4⟩ := x
  simp only [ok_Node] at hx
  have c4 := call64 (l := v4) (by have := (hx.2.2.2.2).1; omega)
  simp (implicitDefEqProofs := false) [-getElem?_pos, -getElem?_neg, Tryd.f96, cL_Slot, cI_Slot, cL_Err, cI_Err, cL_Node, cI_Node, c4]
noncomputable def LToNodeS : Code := nav [1,1,0,1,0,0] (bodyOf Tryd.f82)
def lmToNodeS : Nat → List Nat × Nat := fun _ => ([0, 3, 4], 1)
def TToNodeS (l : List TyNode) (ep i : Nat) : St := ⟨[(0, .one (.sl false 160 (l.map cL_Node))), (3, .one (.ow 1 1)), (4, .one (.lit (.int .i64 i)))], [none, some (.rows 1 1 161 (upTo [.lit (.int .i64 0), .lit (.int .i64 0), .lit (.int .i64 0), .lit (.int .i64 0), .lit (.slice none 0 0)] (l.map (cI_Node true)) i))], ep + i⟩
theorem stepToNodeS (k ep : Nat) (l : List TyNode) (i : Nat) (hi : i < l.length) (hl : l.length ≤ 9223372036854775807) (hr : ∀ r ∈ l, ok_Node r) :
    kept 1 (lmToNodeS 0) (exec Tryd.prog (tabCal (tabOf [(96, FToNode)])) k 1 lmToNodeS 0 LToNodeS (TToNodeS l ep i)) = some (.norm, TToNodeS l ep (i + 1)) := by
  have hx : l[i]? = some l[i] := List.getElem?_eq_getElem hi
  have hi' : (i : Int) < l.length := by omega
  have hi2 : i < (l.map (cI_Node true)).length := by rw [List.length_map]; exact hi
  have hlen : (upTo [V.lit (.int .i64 0), .lit (.int .i64 0), .lit (.int .i64 0), .lit (.int .i64 0), .lit (.slice none 0 0)] (l.map (cI_Node true)) i).length = l.length := by rw [upTo_len (by omega), List.length_map]
  have hget := upTo_get (z := [V.lit (.int .i64 0), .lit (.int .i64 0), .lit (.int .i64 0), .lit (.int .i64 0), .lit (.slice none 0 0)]) hi2
  have hset := upTo_set (z := [V.lit (.int .i64 0), .lit (.int .i64 0), .lit (.int .i64 0), .lit (.int .i64 0), .lit (.slice none 0 0)]) (rows_get (f := cI_Node true) hx)
  have hc := callToNode (hr _ (List.getElem_mem hi))
  have hw := wrap_succ hi hl
  generalize hP : upTo [V.lit (.int .i64 0), .lit (.int .i64 0), .lit (.int .i64 0), .lit (.int .i64 0), .lit (.slice none 0 0)] (l.map (cI_Node true)) (i + 1) = P1 at *
  generalize hP0 : upTo [V.lit (.int .i64 0), .lit (.int .i64 0), .lit (.int .i64 0), .lit (.int .i64 0), .lit (.slice none 0 0)] (l.map (cI_Node true)) i = P0 at *
  simp only [cL_Slot, cI_Slot, cL_Err, cI_Err, cL_Node, cI_Node] at hc hset
  simp only [TToNodeS, hP, hP0]
  simp (implicitDefEqProofs := false) [-getElem?_pos, -getElem?_neg, LToNodeS, bodyOf, Tryd.f82, nav, lmToNodeS, hx, cL_Slot, cI_Slot, cL_Err, cI_Err, cL_Node, cI_Node, hget, hlen, hi', hw, hset, hi, hc, hP, hP0]
theorem endToNodeS (k ep : Nat) (l : List TyNode) (cal : Cal) :
    kept 1 (lmToNodeS 0) (exec Tryd.prog cal k 1 lmToNodeS 0 LToNodeS (TToNodeS l ep l.length)) = some (.exit 0, TToNodeS l ep l.length) := by
  simp (implicitDefEqProofs := false) [-getElem?_pos, -getElem?_neg, LToNodeS, bodyOf, Tryd.f82, nav, TToNodeS, lmToNodeS]
noncomputable def FToNodeS : Con := con (fun l : List TyNode => [.one (.sl false 160 (l.map cL_Node))]) (fun l => (l.length * 56 ≤ 140737488351232 ∧ ∀ y0 ∈ l, ok_Node y0)) (fun l => ((false, [none]), [.sl true 161 (l.map (cI_Node true))]))
theorem callToNodeS {l : List TyNode} (h : (l.length * 56 ≤ 140737488351232 ∧ ∀ y0 ∈ l, ok_Node y0)) : FToNodeS [.one (.sl false 160 (l.map cL_Node))] = some ((false, [none]), [.sl true 161 (l.map (cI_Node true))]) :=
  con_at (arg := fun l : List TyNode => [.one (.sl false 160 (l.map cL_Node))]) (by intro a b h; simpa [rows_inj cL_Node_inj] using h) h
theorem fn_toNodeS : Fn Tryd.prog 82 FToNodeS := by
  refine Fn.con [(96, FToNode)] (by simp [fn_toNode]) mixed (fn := Tryd.f82) Tryd.func82 rfl rfl (by kernel_rfl) 1 (by decide) (fun _ => rfl) lmToNodeS (fun l hl => ⟨l.length + 1, ?_⟩)
  obtain ⟨hl, hr⟩ := hl
  have hloop : ∀ S, keep 1 (lmToNodeS 0) S = TToNodeS l S.ep 0 → exec Tryd.prog (tabCal (tabOf [(96, FToNode)])) (l.length + 1) 1 lmToNodeS 0 (.loop LToNodeS) S = some (.exit 0, TToNodeS l S.ep l.length) := fun S hS =>
    loop_to (TToNodeS l S.ep) l.length (by simp) (by omega) hS (fun i hi => stepToNodeS _ S.ep l i hi (by omega) hr) (endToNodeS _ S.ep l _)
  simp only [LToNodeS, bodyOf, Tryd.f82, nav, Option.getD_some, tabOf] at hloop
  have h63 : l.length ≤ 9223372036854775807 := by omega
  have h47 : l.length * 56 ≤ 140737488355328 := by omega
  have hlm : (l.map (cI_Node true)).length = l.length := List.length_map _
  simp (implicitDefEqProofs := false) [-getElem?_pos, -getElem?_neg, Tryd.f82, h47, h63, hloop, TToNodeS, lmToNodeS, upZero hlm, upAll hlm]
noncomputable def FEqNode : Con := con (fun p : TyNode × TyNode => [.agg (cI_Node false p.1), .agg (cI_Node false p.2)]) (fun p => ok_Node p.1) (fun p => ((false, [none]), [.lit (.bool (decide (p.1 = p.2)))]))
theorem callEqNode {x y : TyNode} (h : ok_Node x) : FEqNode [.agg (cI_Node false x), .agg (cI_Node false y)] = some ((false, [none]), [.lit (.bool (decide (x = y)))]) :=
  con_at (arg := fun p : TyNode × TyNode => [.agg (cI_Node false p.1), .agg (cI_Node false p.2)]) (a := (x, y)) (by
    rintro ⟨a, b⟩ ⟨c, d⟩ h
    simp only [List.cons.injEq, TV.agg.injEq, and_true] at h
    rw [cI_Node_inj _ _ _ h.1, cI_Node_inj _ _ _ h.2]) h
theorem fn_eqNode : Fn Tryd.prog 97 FEqNode := by
  refine Fn.con [(35, F29)] (by simp [fn29]) mixed (fn := Tryd.f97) Tryd.func97 rfl rfl (by kernel_rfl) 2 (by decide) (fun _ => rfl) (fun _ => ([], 0)) (fun p hp => ⟨1, ?_⟩)
  obtain ⟨⟨v0, v1, v2, v3, v4⟩, ⟨v0', v1', v2', v3', v4'⟩⟩ := p
  simp only [ok_Node] at hp
  have c4 := call29 (a := v4) (b := v4') (by have := (hp.2.2.2.2).1; simp only [ok29]; omega)
  by_cases q0 : v0 = v0'
  rotate_left
  · have e : (v0 != v0') = true := by simp [q0]
    simp (implicitDefEqProofs := false) [-getElem?_pos, -getElem?_neg, Tryd.f97, cL_Slot, cI_Slot, cL_Err, cI_Err, cL_Node, cI_Node, c4, q0, e]
  subst q0
  by_cases q1 : v1 = v1'
  rotate_left
  · have e : (v1 != v1') = true := by simp [q1]
    simp (implicitDefEqProofs := false) [-getElem?_pos, -getElem?_neg, Tryd.f97, cL_Slot, cI_Slot, cL_Err, cI_Err, cL_Node, cI_Node, c4, q1, e]
  subst q1
  by_cases q2 : v2 = v2'
  rotate_left
  · have e : (v2 != v2') = true := by simp [q2]
    simp (implicitDefEqProofs := false) [-getElem?_pos, -getElem?_neg, Tryd.f97, cL_Slot, cI_Slot, cL_Err, cI_Err, cL_Node, cI_Node, c4, q2, e]
  subst q2
  by_cases q3 : v3 = v3'
  rotate_left
  · have e : (v3 != v3') = true := by simp [q3]
    simp (implicitDefEqProofs := false) [-getElem?_pos, -getElem?_neg, Tryd.f97, cL_Slot, cI_Slot, cL_Err, cI_Err, cL_Node, cI_Node, c4, q3, e]
  subst q3
  by_cases q4 : v4 = v4'
  rotate_left
  · simp (implicitDefEqProofs := false) [-getElem?_pos, -getElem?_neg, Tryd.f97, cL_Slot, cI_Slot, cL_Err, cI_Err, cL_Node, cI_Node, c4, q4]
  subst q4
  simp (implicitDefEqProofs := false) [-getElem?_pos, -getElem?_neg, Tryd.f97, cL_Slot, cI_Slot, cL_Err, cI_Err, cL_Node, cI_Node, c4]
noncomputable def LEqNodeS : Code := nav [1,1,0,1,0,0] (bodyOf Tryd.f85)
def lmEqNodeS : Nat → List Nat × Nat := fun _ => ([0, 1, 4, 5], 0)
def TEqNodeS (a b : List TyNode) (i : Nat) : St := ⟨[(0, .one (.sl false 161 (a.map (cI_Node false)))), (1, .one (.sl false 161 (b.map (cI_Node false)))), (4, .one (.lit (.bool false))), (5, .one (.lit (.int .i64 i)))], [none], 1 + i⟩
def QEqNodeS (a b : List TyNode) (i : Nat) (x : Vm.X) (S' : St) : Prop := if a.drop i = b.drop i then x = .exit 0 else x = .ret ∧ look S'.tm 4 = some (.one (.lit (.bool false)))
noncomputable def FEqNodeS : Con := con (fun p : List TyNode × List TyNode => [.one (.sl false 161 (p.1.map (cI_Node false))), .one (.sl false 161 (p.2.map (cI_Node false)))]) (fun p => (p.1.length * 56 ≤ 140737488351232 ∧ ∀ y0 ∈ p.1, ok_Node y0)) (fun p => ((false, [none]), [.lit (.bool (decide (p.1 = p.2)))]))
theorem drEqNodeS : drawn (opsOf (nav [1,0,0,0] LEqNodeS)) = some ([0, 1, 2, 3, 4, 5, 6, 7], [8, 9]) := by kernel_rfl
theorem stepEqNodeS {a b : List TyNode} {i k : Nat} (hi : i < a.length) (hj : i < b.length) (hl : a.length ≤ 140737488355328) (hr : ok_Node a[i]) :
    kept 1 (lmEqNodeS 0) (exec Tryd.prog (tabCal (tabOf [(97, FEqNode)])) k 1 lmEqNodeS 0 LEqNodeS (TEqNodeS a b i)) = if a[i] = b[i] then some (.norm, TEqNodeS a b (i + 1)) else some (.ret, ⟨[(0, .one (.sl false 161 (a.map (cI_Node false)))), (1, .one (.sl false 161 (b.map (cI_Node false)))), (4, .one (.lit (.bool false))), (5, .one (.lit (.int .i64 i)))], [none], 1 + i + 1⟩) := by
  have hx : a[i]? = some a[i] := List.getElem?_eq_getElem hi
  have hy : b[i]? = some b[i] := List.getElem?_eq_getElem hj
  have hi' : (i : Int) < a.length := by omega
  have hw := wrap_succ hi (by omega)
  have hd := drEqNodeS
  simp only [LEqNodeS, bodyOf, Tryd.f85, nav, opsOf, Option.getD_some] at hd
  have hcall := callEqNode (y := b[i]) hr
  simp only [cL_Slot, cI_Slot, cL_Err, cI_Err, cL_Node, cI_Node] at hcall
  split
  · rename_i hc
    have hc1 : (decide (a[i] = b[i])) = true := by simp [hc]
    rw [hc1] at hcall
    simp (implicitDefEqProofs := false) [-getElem?_pos, -getElem?_neg, LEqNodeS, bodyOf, Tryd.f85, nav, TEqNodeS, lmEqNodeS, ex_draw2 _ _ hd, hx, hy, cL_Slot, cI_Slot, cL_Err, cI_Err, cL_Node, cI_Node, hi', hi, hw, hcall]
  · rename_i hc
    have hc1 : (decide (a[i] = b[i])) = false := by simp [hc]
    rw [hc1] at hcall
    simp (implicitDefEqProofs := false) [-getElem?_pos, -getElem?_neg, LEqNodeS, bodyOf, Tryd.f85, nav, TEqNodeS, lmEqNodeS, ex_draw2 _ _ hd, hx, hy, cL_Slot, cI_Slot, cL_Err, cI_Err, cL_Node, cI_Node, hi', hi, hw, hcall]
theorem endEqNodeS {a b : List TyNode} {k : Nat} {cal : Cal} :
    kept 1 (lmEqNodeS 0) (exec Tryd.prog cal k 1 lmEqNodeS 0 LEqNodeS (TEqNodeS a b a.length)) = some (.exit 0, TEqNodeS a b a.length) := by
  simp (implicitDefEqProofs := false) [-getElem?_pos, -getElem?_neg, LEqNodeS, bodyOf, Tryd.f85, nav, TEqNodeS, lmEqNodeS]
theorem fn_eqNodeS : Fn Tryd.prog 85 FEqNodeS := by
  refine Fn.con [(97, FEqNode)] (by simp [fn_eqNode]) mixed (fn := Tryd.f85) Tryd.func85 rfl rfl (by kernel_rfl) 2 (by decide) (fun _ => rfl) lmEqNodeS (fun p hp => ⟨p.1.length + 1, ?_⟩)
  obtain ⟨a, b⟩ := p
  have hl : a.length ≤ 140737488355328 := by have := hp.1; simp only at this; omega
  simp only
  by_cases hab : a.length = b.length
  · obtain ⟨x, S', hloop, hQ⟩ := loop_run (P := Tryd.prog) (cal := tabCal (tabOf [(97, FEqNode)])) (k := a.length + 1) (n0 := 1) (b := 0) (lm := lmEqNodeS) (c := LEqNodeS) (TEqNodeS a b) (fun i => i ≤ a.length) (fun i => a.length - i) (QEqNodeS a b) (fun i q1 => by
        rcases Nat.lt_or_ge i a.length with hi | hi
        · have hj : i < b.length := by omega
          have hst := stepEqNodeS (k := a.length + 1) hi hj hl (hp.2 _ (List.getElem_mem hi))
          by_cases hf : a[i] = b[i]
          · rw [if_pos hf] at hst
            refine .inl ⟨_, hst, hi, by omega, fun x S' hq => ?_⟩
            unfold QEqNodeS at hq ⊢
            simpa only [drop_eq hi hj, hf, true_and] using hq
          · rw [if_neg hf] at hst
            refine .inr ⟨_, _, hst, by simp, ?_⟩
            unfold QEqNodeS
            simp [drop_eq hi hj, hf, look]
        · obtain rfl : i = a.length := by omega
          refine .inr ⟨_, _, endEqNodeS, by simp, ?_⟩
          unfold QEqNodeS
          have : a.drop a.length = b.drop a.length := by simp [hab]
          rw [if_pos this]) (s := 0) (Nat.zero_le _) (by omega)
    have hab2 : ((a.length : Int) != b.length) = false := by simp [hab]
    replace hloop := hloop (TEqNodeS a b 0) (by simp [keep, lmEqNodeS, TEqNodeS, look])
    change loopAt _ _ _ _ _ _ _ _ = _ at hloop
    simp [LEqNodeS, bodyOf, Tryd.f85, nav, TEqNodeS, tabOf] at hloop
    unfold QEqNodeS at hQ
    simp only [List.drop_zero] at hQ
    split at hQ
    · rename_i he
      subst hQ
      subst he
      simp (implicitDefEqProofs := false) [-getElem?_pos, -getElem?_neg, Tryd.f85, ex_loop, hloop, lmEqNodeS]
    · rename_i he
      obtain ⟨rfl, hlook⟩ := hQ
      simp (implicitDefEqProofs := false) [-getElem?_pos, -getElem?_neg, Tryd.f85, ex_loop, hloop, lmEqNodeS, hlook, hab2, he]
  · have hne : ¬ a = b := fun h => hab (by rw [h])
    have hab' : ¬ (a.length : Int) = b.length := by omega
    simp (implicitDefEqProofs := false) [-getElem?_pos, -getElem?_neg, Tryd.f85, hab', hab, hne]
theorem callEqNodeS {a b : List TyNode} (h : (a.length * 56 ≤ 140737488351232 ∧ ∀ y0 ∈ a, ok_Node y0)) : FEqNodeS [.one (.sl false 161 (a.map (cI_Node false))), .one (.sl false 161 (b.map (cI_Node false)))] = some ((false, [none]), [.lit (.bool (decide (a = b)))]) :=
  con_at (arg := fun p : List TyNode × List TyNode => [.one (.sl false 161 (p.1.map (cI_Node false))), .one (.sl false 161 (p.2.map (cI_Node false)))]) (a := (a, b)) (by rintro ⟨a, b⟩ ⟨c, d⟩ h; simpa [rows_inj (cI_Node_inj false)] using h) h
/-! ### Tree -/
abbrev TyTree := (List (TyNode))
def cL_Tree (x : TyTree) : List V := [.sl false 160 (x.map cL_Node)]
def cI_Tree (own : Bool) (x : TyTree) : List V := [.sl own 161 (x.map (cI_Node own))]
abbrev ok_Tree (x : TyTree) : Prop := (x.length * 56 ≤ 140737488351232 ∧ ∀ y0 ∈ x, ok_Node y0)
theorem cL_Tree_inj : ∀ a b, cL_Tree a = cL_Tree b → a = b := by
  intro a b h
  simpa [cL_Tree, rows_inj cL_Node_inj] using h
theorem cI_Tree_inj (own : Bool) : ∀ a b, cI_Tree own a = cI_Tree own b → a = b := by
  intro a b h
  simpa [cI_Tree, rows_inj (cI_Node_inj own)] using h
@[simp] theorem er_Tree (own : Bool) (x : TyTree) : (cI_Tree own x).map V.er = cI_Tree false x := by cases own <;> simp [cI_Tree, V.er, erRows_ints, erRows_ints2, erR_Node]
@[simp] theorem erR_Tree (own : Bool) (l : List TyTree) : erRows (l.map (cI_Tree own)) = l.map (cI_Tree false) := rows_er (er_Tree own) l
def sz_Tree (x : TyTree) : Int → Int := szThen (szR sz_Node x) (id)
theorem sz_Tree_le (x : TyTree) (left : Int) (h : 0 ≤ left) : sz_Tree x left ≤ left := (szThen_le (fun l h => szR_le sz_Node_le _ l h) (fun l _ => Int.le_refl _)) left h
noncomputable def FSzTree : Con := con (fun p : TyTree × Int => [.agg (cL_Tree p.1), .one (.lit (.int .i64 p.2))]) (fun p => 0 ≤ p.2 ∧ p.2 ≤ much ∧ ok_Tree p.1) (fun p => ((false, [none]), [.lit (.int .i64 (sz_Tree p.1 p.2))]))
theorem callSzTree {x : TyTree} {left : Int} (h1 : 0 ≤ left) (h2 : left ≤ much) (h3 : ok_Tree x) : FSzTree [.agg (cL_Tree x), .one (.lit (.int .i64 left))] = some ((false, [none]), [.lit (.int .i64 (sz_Tree x left))]) :=
  con_at (arg := fun p : TyTree × Int => [.agg (cL_Tree p.1), .one (.lit (.int .i64 p.2))]) (a := (x, left)) (by
    rintro ⟨a, b⟩ ⟨c, d⟩ h
    simp only [List.cons.injEq, TV.agg.injEq, TV.one.injEq, V.lit.injEq, Value.int.injEq, true_and, and_true] at h
    rw [cL_Tree_inj _ _ h.1, h.2]) ⟨h1, h2, h3⟩
theorem fn_szTree : Fn Tryd.prog 57 FSzTree := by
  refine Fn.con [(80, FSzNodeS)] (by simp [fn_szNodeS]) mixed (fn := Tryd.f57) Tryd.func57 rfl rfl (by kernel_rfl) 2 (by decide) (fun _ => rfl) (fun _ => ([], 0)) (fun p hp => ⟨1, ?_⟩)
  obtain ⟨v0, left⟩ := p
  obtain ⟨g1, g2, g3⟩ := hp
  simp only [much] at g1 g2
  simp only [ok_Tree] at g3
  simp only [sz_Tree, szThen, id]
  have c0 := callSzNodeS (l := v0) (left := left) (by omega) (by simp only [much]; omega) g3
  have l0 := (fun l h => szR_le sz_Node_le v0 l h) left (by omega : 0 ≤ left)
  generalize hq0 : szR sz_Node v0 left = q0 at *
  skip
  by_cases hn0 : q0 < 0
  · simp (implicitDefEqProofs := false) [-getElem?_pos, -getElem?_neg, Tryd.f57, cL_Slot, cI_Slot, cL_Err, cI_Err, cL_Node, cI_Node, cL_Tree, cI_Tree, c0, hn0]
  simp (implicitDefEqProofs := false) [-getElem?_pos, -getElem?_neg, Tryd.f57, cL_Slot, cI_Slot, cL_Err, cI_Err, cL_Node, cI_Node, cL_Tree, cI_Tree, c0, hn0]
noncomputable def FToTree : Con := con (fun x : TyTree => [.agg (cL_Tree x)]) ok_Tree (fun x => ((false, [some 1]), cI_Tree true x))
theorem callToTree {x : TyTree} (h : ok_Tree x) : FToTree [.agg (cL_Tree x)] = some ((false, [some 1]), cI_Tree true x) := con_at (arg := fun x : TyTree => [.agg (cL_Tree x)]) (fun a b h => cL_Tree_inj a b (by simpa using h)) h
theorem fn_toTree : Fn Tryd.prog 61 FToTree := by
  refine Fn.con [(82, FToNodeS)] (by simp [fn_toNodeS]) mixed (fn := Tryd.f61) Tryd.func61 rfl rfl (by kernel_rfl) 1 (by decide) (fun _ => rfl) (fun _ => ([], 0)) (fun v0 hx => ⟨1, ?_⟩)
  simp only [ok_Tree] at hx
  have c0 := callToNodeS (l := v0) hx
  simp (implicitDefEqProofs := false) [-getElem?_pos, -getElem?_neg, Tryd.f61, cL_Slot, cI_Slot, cL_Err, cI_Err, cL_Node, cI_Node, cL_Tree, cI_Tree, c0]
noncomputable def FEqTree : Con := con (fun p : TyTree × TyTree => [.agg (cI_Tree false p.1), .agg (cI_Tree false p.2)]) (fun p => ok_Tree p.1) (fun p => ((false, [none]), [.lit (.bool (decide (p.1 = p.2)))]))
theorem callEqTree {x y : TyTree} (h : ok_Tree x) : FEqTree [.agg (cI_Tree false x), .agg (cI_Tree false y)] = some ((false, [none]), [.lit (.bool (decide (x = y)))]) :=
  con_at (arg := fun p : TyTree × TyTree => [.agg (cI_Tree false p.1), .agg (cI_Tree false p.2)]) (a := (x, y)) (by
    rintro ⟨a, b⟩ ⟨c, d⟩ h
    simp only [List.cons.injEq, TV.agg.injEq, and_true] at h
    rw [cI_Tree_inj _ _ _ h.1, cI_Tree_inj _ _ _ h.2]) h
theorem fn_eqTree : Fn Tryd.prog 65 FEqTree := by
  refine Fn.con [(85, FEqNodeS)] (by simp [fn_eqNodeS]) mixed (fn := Tryd.f65) Tryd.func65 rfl rfl (by kernel_rfl) 2 (by decide) (fun _ => rfl) (fun _ => ([], 0)) (fun p hp => ⟨1, ?_⟩)
  obtain ⟨v0, v0'⟩ := p
  simp only [ok_Tree] at hp
  have c0 := callEqNodeS (a := v0) (b := v0') hp
  by_cases q0 : v0 = v0'
  rotate_left
  · simp (implicitDefEqProofs := false) [-getElem?_pos, -getElem?_neg, Tryd.f65, cL_Slot, cI_Slot, cL_Err, cI_Err, cL_Node, cI_Node, cL_Tree, cI_Tree, c0, q0]
  subst q0
  simp (implicitDefEqProofs := false) [-getElem?_pos, -getElem?_neg, Tryd.f65, cL_Slot, cI_Slot, cL_Err, cI_Err, cL_Node, cI_Node, cL_Tree, cI_Tree, c0]
/-! ### Run -/
abbrev TyRun := Int × Int × Int × Int × (List (TySlot)) × TyTree × (List (TyErr))
instance decTyRun : DecidableEq TyRun := @instDecidableEqProd _ _ inferInstance (@instDecidableEqProd _ _ inferInstance (@instDecidableEqProd _ _ inferInstance (@instDecidableEqProd _ _ inferInstance (@instDecidableEqProd _ _ inferInstance (@instDecidableEqProd _ _ inferInstance (inferInstance))))))
def cL_Run (x : TyRun) : List V := [.lit (.int .i64 x.1), .lit (.int .i64 x.2.1), .lit (.int .i64 x.2.2.1), .lit (.int .i64 x.2.2.2.1), .sl false 137 (x.2.2.2.2.1.map cL_Slot), .sl false 160 (x.2.2.2.2.2.1.map cL_Node), .sl false 142 (x.2.2.2.2.2.2.map cL_Err)]
def cI_Run (own : Bool) (x : TyRun) : List V := [.lit (.int .i64 x.1), .lit (.int .i64 x.2.1), .lit (.int .i64 x.2.2.1), .lit (.int .i64 x.2.2.2.1), .sl own 135 (x.2.2.2.2.1.map (cI_Slot own)), .sl own 161 (x.2.2.2.2.2.1.map (cI_Node own)), .sl own 140 (x.2.2.2.2.2.2.map (cI_Err own))]
abbrev ok_Run (x : TyRun) : Prop := (Lit.int .i64 x.1).wf = true ∧ (Lit.int .i64 x.2.1).wf = true ∧ (Lit.int .i64 x.2.2.1).wf = true ∧ (Lit.int .i64 x.2.2.2.1).wf = true ∧ (x.2.2.2.2.1.length * 16 ≤ 140737488351232 ∧ ∀ y0 ∈ x.2.2.2.2.1, ok_Slot y0) ∧ ok_Tree x.2.2.2.2.2.1 ∧ (x.2.2.2.2.2.2.length * 24 ≤ 140737488351232 ∧ ∀ y0 ∈ x.2.2.2.2.2.2, ok_Err y0)
theorem cL_Run_inj : ∀ a b, cL_Run a = cL_Run b → a = b := by
  rintro ⟨a_0, a_1, a_2, a_3, a_4, a_5_0, a_6⟩ ⟨b_0, b_1, b_2, b_3, b_4, b_5_0, b_6⟩ h
  simpa [cL_Run, rows_inj cL_Err_inj, rows_inj cL_Node_inj, rows_inj cL_Slot_inj] using h
theorem cI_Run_inj (own : Bool) : ∀ a b, cI_Run own a = cI_Run own b → a = b := by
  rintro ⟨a_0, a_1, a_2, a_3, a_4, a_5_0, a_6⟩ ⟨b_0, b_1, b_2, b_3, b_4, b_5_0, b_6⟩ h
  simpa [cI_Run, rows_inj (cI_Err_inj own), rows_inj (cI_Node_inj own), rows_inj (cI_Slot_inj own)] using h
@[simp] theorem er_Run (own : Bool) (x : TyRun) : (cI_Run own x).map V.er = cI_Run false x := by cases own <;> simp [cI_Run, V.er, erRows_ints, erRows_ints2, erR_Err, erR_Node, erR_Slot]
@[simp] theorem erR_Run (own : Bool) (l : List TyRun) : erRows (l.map (cI_Run own)) = l.map (cI_Run false) := rows_er (er_Run own) l
def sz_Run (x : TyRun) : Int → Int := szThen (sz0 x.2.2.2.2.1) (szThen (sz_Tree x.2.2.2.2.2.1) (szThen (sz0 x.2.2.2.2.2.2) (id)))
theorem sz_Run_le (x : TyRun) (left : Int) (h : 0 ≤ left) : sz_Run x left ≤ left := (szThen_le (sz0_le _) (szThen_le (sz_Tree_le _) (szThen_le (sz0_le _) (fun l _ => Int.le_refl _)))) left h
noncomputable def FSzRun : Con := con (fun p : TyRun × Int => [.agg (cL_Run p.1), .one (.lit (.int .i64 p.2))]) (fun p => 0 ≤ p.2 ∧ p.2 ≤ much ∧ ok_Run p.1) (fun p => ((false, [none]), [.lit (.int .i64 (sz_Run p.1 p.2))]))
theorem callSzRun {x : TyRun} {left : Int} (h1 : 0 ≤ left) (h2 : left ≤ much) (h3 : ok_Run x) : FSzRun [.agg (cL_Run x), .one (.lit (.int .i64 left))] = some ((false, [none]), [.lit (.int .i64 (sz_Run x left))]) :=
  con_at (arg := fun p : TyRun × Int => [.agg (cL_Run p.1), .one (.lit (.int .i64 p.2))]) (a := (x, left)) (by
    rintro ⟨a, b⟩ ⟨c, d⟩ h
    simp only [List.cons.injEq, TV.agg.injEq, TV.one.injEq, V.lit.injEq, Value.int.injEq, true_and, and_true] at h
    rw [cL_Run_inj _ _ h.1, h.2]) ⟨h1, h2, h3⟩
theorem fn_szRun : Fn Tryd.prog 30 FSzRun := by
  refine Fn.con [(56, FSzSlotS), (57, FSzTree), (58, FSzErrS)] (by simp [fn_szSlotS, fn_szTree, fn_szErrS]) mixed (fn := Tryd.f30) Tryd.func30 rfl rfl (by kernel_rfl) 2 (by decide) (fun _ => rfl) (fun _ => ([], 0)) (fun p hp => ⟨1, ?_⟩)
  obtain ⟨⟨v0, v1, v2, v3, v4, v5, v6⟩, left⟩ := p
  obtain ⟨g1, g2, g3⟩ := hp
  simp only [much] at g1 g2
  simp only [ok_Run] at g3
  simp only [sz_Run, szThen, id]
  have c0 := callSzSlotS (l := v4) (left := left) (by omega) (by simp only [much]; omega) g3.2.2.2.2.1
  have l0 := sz0_le v4 left (by omega : 0 ≤ left)
  generalize hq0 : sz0 v4 left = q0 at *
  skip
  by_cases hn0 : q0 < 0
  · simp (implicitDefEqProofs := false) [-getElem?_pos, -getElem?_neg, Tryd.f30, cL_Slot, cI_Slot, cL_Err, cI_Err, cL_Node, cI_Node, cL_Tree, cI_Tree, cL_Run, cI_Run, c0, hn0]
  have c1 := callSzTree (x := v5) (left := q0) (by omega) (by simp only [much]; omega) g3.2.2.2.2.2.1
  have l1 := sz_Tree_le v5 q0 (by omega : 0 ≤ q0)
  generalize hq1 : sz_Tree v5 q0 = q1 at *
  simp only [cL_Slot, cI_Slot, cL_Err, cI_Err, cL_Node, cI_Node, cL_Tree, cI_Tree, cL_Run, cI_Run] at c1
  by_cases hn1 : q1 < 0
  · simp (implicitDefEqProofs := false) [-getElem?_pos, -getElem?_neg, Tryd.f30, cL_Slot, cI_Slot, cL_Err, cI_Err, cL_Node, cI_Node, cL_Tree, cI_Tree, cL_Run, cI_Run, c0, hn0, c1, hn1]
  have c2 := callSzErrS (l := v6) (left := q1) (by omega) (by simp only [much]; omega) g3.2.2.2.2.2.2
  have l2 := sz0_le v6 q1 (by omega : 0 ≤ q1)
  generalize hq2 : sz0 v6 q1 = q2 at *
  skip
  by_cases hn2 : q2 < 0
  · simp (implicitDefEqProofs := false) [-getElem?_pos, -getElem?_neg, Tryd.f30, cL_Slot, cI_Slot, cL_Err, cI_Err, cL_Node, cI_Node, cL_Tree, cI_Tree, cL_Run, cI_Run, c0, hn0, c1, hn1, c2, hn2]
  simp (implicitDefEqProofs := false) [-getElem?_pos, -getElem?_neg, Tryd.f30, cL_Slot, cI_Slot, cL_Err, cI_Err, cL_Node, cI_Node, cL_Tree, cI_Tree, cL_Run, cI_Run, c0, hn0, c1, hn1, c2, hn2]
noncomputable def FToRun : Con := con (fun x : TyRun => [.agg (cL_Run x)]) ok_Run (fun x => ((false, [some 7]), cI_Run true x))
theorem callToRun {x : TyRun} (h : ok_Run x) : FToRun [.agg (cL_Run x)] = some ((false, [some 7]), cI_Run true x) := con_at (arg := fun x : TyRun => [.agg (cL_Run x)]) (fun a b h => cL_Run_inj a b (by simpa using h)) h
theorem fn_toRun : Fn Tryd.prog 33 FToRun := by
  refine Fn.con [(60, FToSlotS), (61, FToTree), (62, FToErrS)] (by simp [fn_toSlotS, fn_toTree, fn_toErrS]) mixed (fn := Tryd.f33) Tryd.func33 rfl rfl (by kernel_rfl) 1 (by decide) (fun _ => rfl) (fun _ => ([], 0)) (fun x hx => ⟨1, ?_⟩)
  obtain ⟨v0, v1, v2, v3, v4, v5, v6⟩ := x
  simp only [ok_Run] at hx
  have c4 := callToSlotS (l := v4) hx.2.2.2.2.1
  have c5 := callToTree (x := v5) hx.2.2.2.2.2.1
  simp only [cL_Slot, cI_Slot, cL_Err, cI_Err, cL_Node, cI_Node, cL_Tree, cI_Tree, cL_Run, cI_Run] at c5
  have c6 := callToErrS (l := v6) hx.2.2.2.2.2.2
  simp (implicitDefEqProofs := false) [-getElem?_pos, -getElem?_neg, Tryd.f33, cL_Slot, cI_Slot, cL_Err, cI_Err, cL_Node, cI_Node, cL_Tree, cI_Tree, cL_Run, cI_Run, c4, c5, c6]
noncomputable def FEqRun : Con := con (fun p : TyRun × TyRun => [.agg (cI_Run false p.1), .agg (cI_Run false p.2)]) (fun p => ok_Run p.1) (fun p => ((false, [none]), [.lit (.bool (decide (p.1 = p.2)))]))
theorem callEqRun {x y : TyRun} (h : ok_Run x) : FEqRun [.agg (cI_Run false x), .agg (cI_Run false y)] = some ((false, [none]), [.lit (.bool (decide (x = y)))]) :=
  con_at (arg := fun p : TyRun × TyRun => [.agg (cI_Run false p.1), .agg (cI_Run false p.2)]) (a := (x, y)) (by
    rintro ⟨a, b⟩ ⟨c, d⟩ h
    simp only [List.cons.injEq, TV.agg.injEq, and_true] at h
    rw [cI_Run_inj _ _ _ h.1, cI_Run_inj _ _ _ h.2]) h
theorem fn_eqRun : Fn Tryd.prog 36 FEqRun := by
  refine Fn.con [(64, FEqSlotS), (65, FEqTree), (66, FEqErrS)] (by simp [fn_eqSlotS, fn_eqTree, fn_eqErrS]) mixed (fn := Tryd.f36) Tryd.func36 rfl rfl (by kernel_rfl) 2 (by decide) (fun _ => rfl) (fun _ => ([], 0)) (fun p hp => ⟨1, ?_⟩)
  obtain ⟨⟨v0, v1, v2, v3, v4, v5, v6⟩, ⟨v0', v1', v2', v3', v4', v5', v6'⟩⟩ := p
  simp only [ok_Run] at hp
  have c4 := callEqSlotS (a := v4) (b := v4') hp.2.2.2.2.1
  have c5 := callEqTree (x := v5) (y := v5') hp.2.2.2.2.2.1
  simp only [cL_Slot, cI_Slot, cL_Err, cI_Err, cL_Node, cI_Node, cL_Tree, cI_Tree, cL_Run, cI_Run] at c5
  have c6 := callEqErrS (a := v6) (b := v6') hp.2.2.2.2.2.2
  by_cases q0 : v0 = v0'
  rotate_left
  · have e : (v0 != v0') = true := by simp [q0]
    simp (implicitDefEqProofs := false) [-getElem?_pos, -getElem?_neg, Tryd.f36, cL_Slot, cI_Slot, cL_Err, cI_Err, cL_Node, cI_Node, cL_Tree, cI_Tree, cL_Run, cI_Run, c4, c5, c6, q0, e]
  subst q0
  by_cases q1 : v1 = v1'
  rotate_left
  · have e : (v1 != v1') = true := by simp [q1]
    simp (implicitDefEqProofs := false) [-getElem?_pos, -getElem?_neg, Tryd.f36, cL_Slot, cI_Slot, cL_Err, cI_Err, cL_Node, cI_Node, cL_Tree, cI_Tree, cL_Run, cI_Run, c4, c5, c6, q1, e]
  subst q1
  by_cases q2 : v2 = v2'
  rotate_left
  · have e : (v2 != v2') = true := by simp [q2]
    simp (implicitDefEqProofs := false) [-getElem?_pos, -getElem?_neg, Tryd.f36, cL_Slot, cI_Slot, cL_Err, cI_Err, cL_Node, cI_Node, cL_Tree, cI_Tree, cL_Run, cI_Run, c4, c5, c6, q2, e]
  subst q2
  by_cases q3 : v3 = v3'
  rotate_left
  · have e : (v3 != v3') = true := by simp [q3]
    simp (implicitDefEqProofs := false) [-getElem?_pos, -getElem?_neg, Tryd.f36, cL_Slot, cI_Slot, cL_Err, cI_Err, cL_Node, cI_Node, cL_Tree, cI_Tree, cL_Run, cI_Run, c4, c5, c6, q3, e]
  subst q3
  by_cases q4 : v4 = v4'
  rotate_left
  · simp (implicitDefEqProofs := false) [-getElem?_pos, -getElem?_neg, Tryd.f36, cL_Slot, cI_Slot, cL_Err, cI_Err, cL_Node, cI_Node, cL_Tree, cI_Tree, cL_Run, cI_Run, c4, c5, c6, q4]
  subst q4
  by_cases q5 : v5 = v5'
  rotate_left
  · simp (implicitDefEqProofs := false) [-getElem?_pos, -getElem?_neg, Tryd.f36, cL_Slot, cI_Slot, cL_Err, cI_Err, cL_Node, cI_Node, cL_Tree, cI_Tree, cL_Run, cI_Run, c4, c5, c6, q5]
  subst q5
  by_cases q6 : v6 = v6'
  rotate_left
  · simp (implicitDefEqProofs := false) [-getElem?_pos, -getElem?_neg, Tryd.f36, cL_Slot, cI_Slot, cL_Err, cI_Err, cL_Node, cI_Node, cL_Tree, cI_Tree, cL_Run, cI_Run, c4, c5, c6, q6]
  subst q6
  simp (implicitDefEqProofs := false) [-getElem?_pos, -getElem?_neg, Tryd.f36, cL_Slot, cI_Slot, cL_Err, cI_Err, cL_Node, cI_Node, cL_Tree, cI_Tree, cL_Run, cI_Run, c4, c5, c6]
/-! ### Job -/
abbrev TyJob := Int × Int × (List (Int)) × TyRun
instance decTyJob : DecidableEq TyJob := @instDecidableEqProd _ _ inferInstance (@instDecidableEqProd _ _ inferInstance (@instDecidableEqProd _ _ inferInstance (inferInstance)))
def cL_Job (x : TyJob) : List V := [.lit (.int .i64 x.1), .lit (.int .i64 x.2.1), .sl false 3 (ints x.2.2.1), .lit (.int .i64 x.2.2.2.1), .lit (.int .i64 x.2.2.2.2.1), .lit (.int .i64 x.2.2.2.2.2.1), .lit (.int .i64 x.2.2.2.2.2.2.1), .sl false 137 (x.2.2.2.2.2.2.2.1.map cL_Slot), .sl false 160 (x.2.2.2.2.2.2.2.2.1.map cL_Node), .sl false 142 (x.2.2.2.2.2.2.2.2.2.map cL_Err)]
def cI_Job (own : Bool) (x : TyJob) : List V := [.lit (.int .i64 x.1), .lit (.int .i64 x.2.1), .sl own 3 (ints x.2.2.1), .lit (.int .i64 x.2.2.2.1), .lit (.int .i64 x.2.2.2.2.1), .lit (.int .i64 x.2.2.2.2.2.1), .lit (.int .i64 x.2.2.2.2.2.2.1), .sl own 135 (x.2.2.2.2.2.2.2.1.map (cI_Slot own)), .sl own 161 (x.2.2.2.2.2.2.2.2.1.map (cI_Node own)), .sl own 140 (x.2.2.2.2.2.2.2.2.2.map (cI_Err own))]
abbrev ok_Job (x : TyJob) : Prop := (Lit.int .i64 x.1).wf = true ∧ (Lit.int .i64 x.2.1).wf = true ∧ (x.2.2.1.length * 8 ≤ 140737488351232 ∧ ∀ y0 ∈ x.2.2.1, (Lit.int .i64 y0).wf = true) ∧ ok_Run x.2.2.2
theorem cL_Job_inj : ∀ a b, cL_Job a = cL_Job b → a = b := by
  rintro ⟨a_0, a_1, a_2, ⟨a_3_0, a_3_1, a_3_2, a_3_3, a_3_4, a_3_5_0, a_3_6⟩⟩ ⟨b_0, b_1, b_2, ⟨b_3_0, b_3_1, b_3_2, b_3_3, b_3_4, b_3_5_0, b_3_6⟩⟩ h
  simpa [cL_Job, rows_inj cL_Err_inj, rows_inj cL_Node_inj, rows_inj cL_Slot_inj] using h
theorem cI_Job_inj (own : Bool) : ∀ a b, cI_Job own a = cI_Job own b → a = b := by
  rintro ⟨a_0, a_1, a_2, ⟨a_3_0, a_3_1, a_3_2, a_3_3, a_3_4, a_3_5_0, a_3_6⟩⟩ ⟨b_0, b_1, b_2, ⟨b_3_0, b_3_1, b_3_2, b_3_3, b_3_4, b_3_5_0, b_3_6⟩⟩ h
  simpa [cI_Job, rows_inj (cI_Err_inj own), rows_inj (cI_Node_inj own), rows_inj (cI_Slot_inj own)] using h
@[simp] theorem er_Job (own : Bool) (x : TyJob) : (cI_Job own x).map V.er = cI_Job false x := by cases own <;> simp [cI_Job, V.er, erRows_ints, erRows_ints2, erR_Err, erR_Node, erR_Slot]
@[simp] theorem erR_Job (own : Bool) (l : List TyJob) : erRows (l.map (cI_Job own)) = l.map (cI_Job false) := rows_er (er_Job own) l
def sz_Job (x : TyJob) : Int → Int := szThen (sz1 x.2.2.1) (szThen (sz_Run x.2.2.2) (id))
theorem sz_Job_le (x : TyJob) (left : Int) (h : 0 ≤ left) : sz_Job x left ≤ left := (szThen_le (sz1_le _) (szThen_le (sz_Run_le _) (fun l _ => Int.le_refl _))) left h
noncomputable def FSzJob : Con := con (fun p : TyJob × Int => [.agg (cL_Job p.1), .one (.lit (.int .i64 p.2))]) (fun p => 0 ≤ p.2 ∧ p.2 ≤ much ∧ ok_Job p.1) (fun p => ((false, [none]), [.lit (.int .i64 (sz_Job p.1 p.2))]))
theorem callSzJob {x : TyJob} {left : Int} (h1 : 0 ≤ left) (h2 : left ≤ much) (h3 : ok_Job x) : FSzJob [.agg (cL_Job x), .one (.lit (.int .i64 left))] = some ((false, [none]), [.lit (.int .i64 (sz_Job x left))]) :=
  con_at (arg := fun p : TyJob × Int => [.agg (cL_Job p.1), .one (.lit (.int .i64 p.2))]) (a := (x, left)) (by
    rintro ⟨a, b⟩ ⟨c, d⟩ h
    simp only [List.cons.injEq, TV.agg.injEq, TV.one.injEq, V.lit.injEq, Value.int.injEq, true_and, and_true] at h
    rw [cL_Job_inj _ _ h.1, h.2]) ⟨h1, h2, h3⟩
theorem fn_szJob : Fn Tryd.prog 11 FSzJob := by
  refine Fn.con [(29, F63), (30, FSzRun)] (by simp [fn63, fn_szRun]) mixed (fn := Tryd.f11) Tryd.func11 rfl rfl (by kernel_rfl) 2 (by decide) (fun _ => rfl) (fun _ => ([], 0)) (fun p hp => ⟨1, ?_⟩)
  obtain ⟨⟨v0, v1, v2, v3⟩, left⟩ := p
  obtain ⟨g1, g2, g3⟩ := hp
  simp only [much] at g1 g2
  simp only [ok_Job] at g3
  simp only [sz_Job, szThen, id]
  have c0 := call63 (l := v2) (left := left) (by omega) (by simp only [much]; omega) (by have := (g3.2.2.1).1; omega)
  have l0 := sz1_le v2 left (by omega : 0 ≤ left)
  generalize hq0 : sz1 v2 left = q0 at *
  skip
  by_cases hn0 : q0 < 0
  · simp (implicitDefEqProofs := false) [-getElem?_pos, -getElem?_neg, Tryd.f11, cL_Slot, cI_Slot, cL_Err, cI_Err, cL_Node, cI_Node, cL_Tree, cI_Tree, cL_Run, cI_Run, cL_Job, cI_Job, c0, hn0]
  have c1 := callSzRun (x := v3) (left := q0) (by omega) (by simp only [much]; omega) g3.2.2.2
  have l1 := sz_Run_le v3 q0 (by omega : 0 ≤ q0)
  generalize hq1 : sz_Run v3 q0 = q1 at *
  simp only [cL_Slot, cI_Slot, cL_Err, cI_Err, cL_Node, cI_Node, cL_Tree, cI_Tree, cL_Run, cI_Run, cL_Job, cI_Job] at c1
  by_cases hn1 : q1 < 0
  · simp (implicitDefEqProofs := false) [-getElem?_pos, -getElem?_neg, Tryd.f11, cL_Slot, cI_Slot, cL_Err, cI_Err, cL_Node, cI_Node, cL_Tree, cI_Tree, cL_Run, cI_Run, cL_Job, cI_Job, c0, hn0, c1, hn1]
  simp (implicitDefEqProofs := false) [-getElem?_pos, -getElem?_neg, Tryd.f11, cL_Slot, cI_Slot, cL_Err, cI_Err, cL_Node, cI_Node, cL_Tree, cI_Tree, cL_Run, cI_Run, cL_Job, cI_Job, c0, hn0, c1, hn1]
noncomputable def FSzJobS : Con := con (fun a : List TyJob × Int => [.one (.sl false 42 (a.1.map cL_Job)), .one (.lit (.int .i64 a.2))]) (fun a => 0 ≤ a.2 ∧ a.2 ≤ much ∧ (a.1.length * 144 ≤ 140737488351232 ∧ ∀ y0 ∈ a.1, ok_Job y0)) (fun a => ((false, [none]), [.lit (.int .i64 (szR sz_Job a.1 a.2))]))
theorem callSzJobS {l : List TyJob} {left : Int} (h1 : 0 ≤ left) (h2 : left ≤ much) (h3 : (l.length * 144 ≤ 140737488351232 ∧ ∀ y0 ∈ l, ok_Job y0)) : FSzJobS [.one (.sl false 42 (l.map cL_Job)), .one (.lit (.int .i64 left))] = some ((false, [none]), [.lit (.int .i64 (szR sz_Job l left))]) :=
  con_at (arg := fun a : List TyJob × Int => [.one (.sl false 42 (a.1.map cL_Job)), .one (.lit (.int .i64 a.2))]) (a := (l, left)) (by rintro ⟨a, b⟩ ⟨c, d⟩ h; simpa [rows_inj cL_Job_inj] using h) ⟨h1, h2, h3⟩
noncomputable def LSzJobS : Code := nav [1,1,1,0,1,0,0] (bodyOf Tryd.f37)
def lmSzJobS : Nat → List Nat × Nat := fun _ => ([0, 1, 4, 5], 0)
def TSzJobS (l : List TyJob) (s : Nat × Int) : St := ⟨[(0, .one (.sl false 42 (l.map cL_Job))), (1, .one (.lit (.int .i64 s.2))), (4, .one (.lit (.int .i64 0))), (5, .one (.lit (.int .i64 s.1)))], [none], 1 + s.1⟩
def QSzJobS (l : List TyJob) (s : Nat × Int) (x : Vm.X) (S' : St) : Prop :=
  if szL sz_Job (l.drop s.1) s.2 < 0 then x = .ret ∧ look S'.tm 4 = some (.one (.lit (.int .i64 (-1)))) ∧ szL sz_Job (l.drop s.1) s.2 = -1 else x = .exit 0 ∧ look S'.tm 1 = some (.one (.lit (.int .i64 (szL sz_Job (l.drop s.1) s.2))))
theorem stepSzJobS {l : List TyJob} {i : Nat} {left : Int} {k : Nat} (hi : i < l.length) (hl : l.length ≤ 140737488355328) (h1 : 0 ≤ left) (h2 : left ≤ much) (hr : ok_Job l[i]) :
    kept 1 (lmSzJobS 0) (exec Tryd.prog (tabCal (tabOf [(11, FSzJob)])) k 1 lmSzJobS 0 LSzJobS (TSzJobS l (i, left))) = if sz_Job l[i] left < 0 then some (.ret, ⟨[(0, .one (.sl false 42 (l.map cL_Job))), (1, .one (.lit (.int .i64 (sz_Job l[i] left)))), (4, .one (.lit (.int .i64 (-1)))), (5, .one (.lit (.int .i64 i)))], [none], 1 + i + 1⟩) else some (.norm, TSzJobS l (i + 1, sz_Job l[i] left)) := by
  have hx : l[i]? = some l[i] := List.getElem?_eq_getElem hi
  have hi' : (i : Int) < l.length := by omega
  have hcall := callSzJob h1 h2 hr
  have hw := wrap_succ hi (by omega)
  simp only [cL_Slot, cI_Slot, cL_Err, cI_Err, cL_Node, cI_Node, cL_Tree, cI_Tree, cL_Run, cI_Run, cL_Job, cI_Job] at hcall
  generalize hq : sz_Job l[i] left = q at *
  split
  · rename_i hc
    simp (implicitDefEqProofs := false) [-getElem?_pos, -getElem?_neg, LSzJobS, bodyOf, Tryd.f37, nav, TSzJobS, lmSzJobS, hx, cL_Slot, cI_Slot, cL_Err, cI_Err, cL_Node, cI_Node, cL_Tree, cI_Tree, cL_Run, cI_Run, cL_Job, cI_Job, hi', hi, hcall, hc]
  · rename_i hc
    simp (implicitDefEqProofs := false) [-getElem?_pos, -getElem?_neg, LSzJobS, bodyOf, Tryd.f37, nav, TSzJobS, lmSzJobS, hx, cL_Slot, cI_Slot, cL_Err, cI_Err, cL_Node, cI_Node, cL_Tree, cI_Tree, cL_Run, cI_Run, cL_Job, cI_Job, hi', hi, hw, hcall, hc]
theorem endSzJobS {l : List TyJob} {left : Int} {k : Nat} {cal : Cal} :
    kept 1 (lmSzJobS 0) (exec Tryd.prog cal k 1 lmSzJobS 0 LSzJobS (TSzJobS l (l.length, left))) = some (.exit 0, TSzJobS l (l.length, left)) := by
  simp (implicitDefEqProofs := false) [-getElem?_pos, -getElem?_neg, LSzJobS, bodyOf, Tryd.f37, nav, TSzJobS, lmSzJobS]
theorem fn_szJobS : Fn Tryd.prog 37 FSzJobS := by
  refine Fn.con [(11, FSzJob)] (by simp [fn_szJob]) mixed (fn := Tryd.f37) Tryd.func37 rfl rfl (by kernel_rfl) 2 (by decide) (fun _ => rfl) lmSzJobS (fun a ha => ⟨a.1.length + 1, ?_⟩)
  obtain ⟨l, left⟩ := a
  obtain ⟨h1, h2, h3, h4⟩ := ha
  simp only at h1 h2 h3 h4 ⊢
  have hl : l.length ≤ 140737488355328 := by omega
  have hw : IntKind.i64.wrap (left - l.length) = left - l.length := wrap_id (by omega) (by simp only [much] at h2; omega)
  by_cases hc : left - (l.length : Int) < 0
  · simp (implicitDefEqProofs := false) [-getElem?_pos, -getElem?_neg, Tryd.f37, hw, hc, szR]
  · obtain ⟨x, S', hloop, hQ⟩ := loop_run (P := Tryd.prog) (cal := tabCal (tabOf [(11, FSzJob)])) (k := l.length + 1) (n0 := 1) (b := 0) (lm := lmSzJobS) (c := LSzJobS) (TSzJobS l) (fun s => s.1 ≤ l.length ∧ 0 ≤ s.2 ∧ s.2 ≤ much) (fun s => l.length - s.1) (QSzJobS l) (fun s hs => by
        obtain ⟨i, le⟩ := s
        obtain ⟨q1, q2, q3⟩ := hs
        simp only at q1 q2 q3
        rcases Nat.lt_or_ge i l.length with hi | hi
        · have hst := stepSzJobS (k := l.length + 1) hi hl q2 q3 (h4 _ (List.getElem_mem hi))
          by_cases hf : sz_Job l[i] le < 0
          · rw [if_pos hf] at hst
            refine .inr ⟨_, _, hst, by simp, ?_⟩
            unfold QSzJobS
            simp only [szL_drop hi, if_pos hf]
            simp [look]
          · rw [if_neg hf] at hst
            refine .inl ⟨_, hst, ⟨hi, by simp only; omega, by have := sz_Job_le l[i] le q2; simp only; omega⟩, by simp only; omega, fun x S' hq => ?_⟩
            unfold QSzJobS at hq ⊢
            simp only [szL_drop hi, if_neg hf]
            exact hq
        · obtain rfl : i = l.length := by omega
          refine .inr ⟨_, _, endSzJobS, by simp, ?_⟩
          unfold QSzJobS
          have : ¬ szL sz_Job (l.drop l.length) le < 0 := by simp [szL]; exact q2
          simp only [if_neg this]
          simp [szL, look, TSzJobS]) (s := (0, left - l.length)) ⟨Nat.zero_le _, by simp only; omega, by simp only; omega⟩ (by simp only; omega)
    replace hloop := hloop (TSzJobS l (0, left - l.length)) (by simp [keep, lmSzJobS, TSzJobS, look])
    change loopAt _ _ _ _ _ _ _ _ = _ at hloop
    simp [LSzJobS, bodyOf, Tryd.f37, nav, TSzJobS, tabOf] at hloop
    unfold QSzJobS at hQ
    simp only [List.drop_zero] at hQ
    split at hQ
    · rename_i hneg
      obtain ⟨rfl, hlook, hm⟩ := hQ
      simp (implicitDefEqProofs := false) [-getElem?_pos, -getElem?_neg, Tryd.f37, hw, hc, szR, ex_loop, hloop, lmSzJobS, hlook, hm]
    · obtain ⟨rfl, hlook⟩ := hQ
      simp (implicitDefEqProofs := false) [-getElem?_pos, -getElem?_neg, Tryd.f37, hw, hc, szR, ex_loop, hloop, lmSzJobS, hlook]
noncomputable def FToJob : Con := con (fun x : TyJob => [.agg (cL_Job x)]) ok_Job (fun x => ((false, [some 10]), cI_Job true x))
theorem callToJob {x : TyJob} (h : ok_Job x) : FToJob [.agg (cL_Job x)] = some ((false, [some 10]), cI_Job true x) := con_at (arg := fun x : TyJob => [.agg (cL_Job x)]) (fun a b h => cL_Job_inj a b (by simpa using h)) h
theorem fn_toJob : Fn Tryd.prog 13 FToJob := by
  refine Fn.con [(32, F64), (33, FToRun)] (by simp [fn64, fn_toRun]) mixed (fn := Tryd.f13) Tryd.func13 rfl rfl (by kernel_rfl) 1 (by decide) (fun _ => rfl) (fun _ => ([], 0)) (fun x hx => ⟨1, ?_⟩)
  obtain ⟨v0, v1, v2, v3⟩ := x
  simp only [ok_Job] at hx
  have c2 := call64 (l := v2) (by have := (hx.2.2.1).1; omega)
  have c3 := callToRun (x := v3) hx.2.2.2
  simp only [cL_Slot, cI_Slot, cL_Err, cI_Err, cL_Node, cI_Node, cL_Tree, cI_Tree, cL_Run, cI_Run, cL_Job, cI_Job] at c3
  simp (implicitDefEqProofs := false) [-getElem?_pos, -getElem?_neg, Tryd.f13, cL_Slot, cI_Slot, cL_Err, cI_Err, cL_Node, cI_Node, cL_Tree, cI_Tree, cL_Run, cI_Run, cL_Job, cI_Job, c2, c3]
noncomputable def LToJobS : Code := nav [1,1,0,1,0,0] (bodyOf Tryd.f41)
def lmToJobS : Nat → List Nat × Nat := fun _ => ([0, 3, 4], 1)
def TToJobS (l : List TyJob) (ep i : Nat) : St := ⟨[(0, .one (.sl false 42 (l.map cL_Job))), (3, .one (.ow 1 1)), (4, .one (.lit (.int .i64 i)))], [none, some (.rows 1 1 53 (upTo [.lit (.int .i64 0), .lit (.int .i64 0), .lit (.slice none 0 0), .lit (.int .i64 0), .lit (.int .i64 0), .lit (.int .i64 0), .lit (.int .i64 0), .lit (.slice none 0 0), .lit (.slice none 0 0), .lit (.slice none 0 0)] (l.map (cI_Job true)) i))], ep + i⟩
theorem stepToJobS (k ep : Nat) (l : List TyJob) (i : Nat) (hi : i < l.length) (hl : l.length ≤ 9223372036854775807) (hr : ∀ r ∈ l, ok_Job r) :
    kept 1 (lmToJobS 0) (exec Tryd.prog (tabCal (tabOf [(13, FToJob)])) k 1 lmToJobS 0 LToJobS (TToJobS l ep i)) = some (.norm, TToJobS l ep (i + 1)) := by
  have hx : l[i]? = some l[i] := List.getElem?_eq_getElem hi
  have hi' : (i : Int) < l.length := by omega
  have hi2 : i < (l.map (cI_Job true)).length := by rw [List.length_map]; exact hi
  have hlen : (upTo [V.lit (.int .i64 0), .lit (.int .i64 0), .lit (.slice none 0 0), .lit (.int .i64 0), .lit (.int .i64 0), .lit (.int .i64 0), .lit (.int .i64 0), .lit (.slice none 0 0), .lit (.slice none 0 0), .lit (.slice none 0 0)] (l.map (cI_Job true)) i).length = l.length := by rw [upTo_len (by omega), List.length_map]
  have hget := upTo_get (z := [V.lit (.int .i64 0), .lit (.int .i64 0), .lit (.slice none 0 0), .lit (.int .i64 0), .lit (.int .i64 0), .lit (.int .i64 0), .lit (.int .i64 0), .lit (.slice none 0 0), .lit (.slice none 0 0), .lit (.slice none 0 0)]) hi2
  have hset := upTo_set (z := [V.lit (.int .i64 0), .lit (.int .i64 0), .lit (.slice none 0 0), .lit (.int .i64 0), .lit (.int .i64 0), .lit (.int .i64 0), .lit (.int .i64 0), .lit (.slice none 0 0), .lit (.slice none 0 0), .lit (.slice none 0 0)]) (rows_get (f := cI_Job true) hx)
  have hc := callToJob (hr _ (List.getElem_mem hi))
  have hw := wrap_succ hi hl
  generalize hP : upTo [V.lit (.int .i64 0), .lit (.int .i64 0), .lit (.slice none 0 0), .lit (.int .i64 0), .lit (.int .i64 0), .lit (.int .i64 0), .lit (.int .i64 0), .lit (.slice none 0 0), .lit (.slice none 0 0), .lit (.slice none 0 0)] (l.map (cI_Job true)) (i + 1) = P1 at *
  generalize hP0 : upTo [V.lit (.int .i64 0), .lit (.int .i64 0), .lit (.slice none 0 0), .lit (.int .i64 0), .lit (.int .i64 0), .lit (.int .i64 0), .lit (.int .i64 0), .lit (.slice none 0 0), .lit (.slice none 0 0), .lit (.slice none 0 0)] (l.map (cI_Job true)) i = P0 at *
  simp only [cL_Slot, cI_Slot, cL_Err, cI_Err, cL_Node, cI_Node, cL_Tree, cI_Tree, cL_Run, cI_Run, cL_Job, cI_Job] at hc hset
  simp only [TToJobS, hP, hP0]
  simp (implicitDefEqProofs := false) [-getElem?_pos, -getElem?_neg, LToJobS, bodyOf, Tryd.f41, nav, lmToJobS, hx, cL_Slot, cI_Slot, cL_Err, cI_Err, cL_Node, cI_Node, cL_Tree, cI_Tree, cL_Run, cI_Run, cL_Job, cI_Job, hget, hlen, hi', hw, hset, hi, hc, hP, hP0]
theorem endToJobS (k ep : Nat) (l : List TyJob) (cal : Cal) :
    kept 1 (lmToJobS 0) (exec Tryd.prog cal k 1 lmToJobS 0 LToJobS (TToJobS l ep l.length)) = some (.exit 0, TToJobS l ep l.length) := by
  simp (implicitDefEqProofs := false) [-getElem?_pos, -getElem?_neg, LToJobS, bodyOf, Tryd.f41, nav, TToJobS, lmToJobS]
noncomputable def FToJobS : Con := con (fun l : List TyJob => [.one (.sl false 42 (l.map cL_Job))]) (fun l => (l.length * 144 ≤ 140737488351232 ∧ ∀ y0 ∈ l, ok_Job y0)) (fun l => ((false, [none]), [.sl true 53 (l.map (cI_Job true))]))
theorem callToJobS {l : List TyJob} (h : (l.length * 144 ≤ 140737488351232 ∧ ∀ y0 ∈ l, ok_Job y0)) : FToJobS [.one (.sl false 42 (l.map cL_Job))] = some ((false, [none]), [.sl true 53 (l.map (cI_Job true))]) :=
  con_at (arg := fun l : List TyJob => [.one (.sl false 42 (l.map cL_Job))]) (by intro a b h; simpa [rows_inj cL_Job_inj] using h) h
theorem fn_toJobS : Fn Tryd.prog 41 FToJobS := by
  refine Fn.con [(13, FToJob)] (by simp [fn_toJob]) mixed (fn := Tryd.f41) Tryd.func41 rfl rfl (by kernel_rfl) 1 (by decide) (fun _ => rfl) lmToJobS (fun l hl => ⟨l.length + 1, ?_⟩)
  obtain ⟨hl, hr⟩ := hl
  have hloop : ∀ S, keep 1 (lmToJobS 0) S = TToJobS l S.ep 0 → exec Tryd.prog (tabCal (tabOf [(13, FToJob)])) (l.length + 1) 1 lmToJobS 0 (.loop LToJobS) S = some (.exit 0, TToJobS l S.ep l.length) := fun S hS =>
    loop_to (TToJobS l S.ep) l.length (by simp) (by omega) hS (fun i hi => stepToJobS _ S.ep l i hi (by omega) hr) (endToJobS _ S.ep l _)
  simp only [LToJobS, bodyOf, Tryd.f41, nav, Option.getD_some, tabOf] at hloop
  have h63 : l.length ≤ 9223372036854775807 := by omega
  have h47 : l.length * 144 ≤ 140737488355328 := by omega
  have hlm : (l.map (cI_Job true)).length = l.length := List.length_map _
  simp (implicitDefEqProofs := false) [-getElem?_pos, -getElem?_neg, Tryd.f41, h47, h63, hloop, TToJobS, lmToJobS, upZero hlm, upAll hlm]
noncomputable def FEqJob : Con := con (fun p : TyJob × TyJob => [.agg (cI_Job false p.1), .agg (cI_Job false p.2)]) (fun p => ok_Job p.1) (fun p => ((false, [none]), [.lit (.bool (decide (p.1 = p.2)))]))
theorem callEqJob {x y : TyJob} (h : ok_Job x) : FEqJob [.agg (cI_Job false x), .agg (cI_Job false y)] = some ((false, [none]), [.lit (.bool (decide (x = y)))]) :=
  con_at (arg := fun p : TyJob × TyJob => [.agg (cI_Job false p.1), .agg (cI_Job false p.2)]) (a := (x, y)) (by
    rintro ⟨a, b⟩ ⟨c, d⟩ h
    simp only [List.cons.injEq, TV.agg.injEq, and_true] at h
    rw [cI_Job_inj _ _ _ h.1, cI_Job_inj _ _ _ h.2]) h
theorem fn_eqJob : Fn Tryd.prog 15 FEqJob := by
  refine Fn.con [(35, F29), (36, FEqRun)] (by simp [fn29, fn_eqRun]) mixed (fn := Tryd.f15) Tryd.func15 rfl rfl (by kernel_rfl) 2 (by decide) (fun _ => rfl) (fun _ => ([], 0)) (fun p hp => ⟨1, ?_⟩)
  obtain ⟨⟨v0, v1, v2, v3⟩, ⟨v0', v1', v2', v3'⟩⟩ := p
  simp only [ok_Job] at hp
  have c2 := call29 (a := v2) (b := v2') (by have := (hp.2.2.1).1; simp only [ok29]; omega)
  have c3 := callEqRun (x := v3) (y := v3') hp.2.2.2
  simp only [cL_Slot, cI_Slot, cL_Err, cI_Err, cL_Node, cI_Node, cL_Tree, cI_Tree, cL_Run, cI_Run, cL_Job, cI_Job] at c3
  by_cases q0 : v0 = v0'
  rotate_left
  · have e : (v0 != v0') = true := by simp [q0]
    simp (implicitDefEqProofs := false) [-getElem?_pos, -getElem?_neg, Tryd.f15, cL_Slot, cI_Slot, cL_Err, cI_Err, cL_Node, cI_Node, cL_Tree, cI_Tree, cL_Run, cI_Run, cL_Job, cI_Job, c2, c3, q0, e]
  subst q0
  by_cases q1 : v1 = v1'
  rotate_left
  · have e : (v1 != v1') = true := by simp [q1]
    simp (implicitDefEqProofs := false) [-getElem?_pos, -getElem?_neg, Tryd.f15, cL_Slot, cI_Slot, cL_Err, cI_Err, cL_Node, cI_Node, cL_Tree, cI_Tree, cL_Run, cI_Run, cL_Job, cI_Job, c2, c3, q1, e]
  subst q1
  by_cases q2 : v2 = v2'
  rotate_left
  · simp (implicitDefEqProofs := false) [-getElem?_pos, -getElem?_neg, Tryd.f15, cL_Slot, cI_Slot, cL_Err, cI_Err, cL_Node, cI_Node, cL_Tree, cI_Tree, cL_Run, cI_Run, cL_Job, cI_Job, c2, c3, q2]
  subst q2
  by_cases q3 : v3 = v3'
  rotate_left
  · simp (implicitDefEqProofs := false) [-getElem?_pos, -getElem?_neg, Tryd.f15, cL_Slot, cI_Slot, cL_Err, cI_Err, cL_Node, cI_Node, cL_Tree, cI_Tree, cL_Run, cI_Run, cL_Job, cI_Job, c2, c3, q3]
  subst q3
  simp (implicitDefEqProofs := false) [-getElem?_pos, -getElem?_neg, Tryd.f15, cL_Slot, cI_Slot, cL_Err, cI_Err, cL_Node, cI_Node, cL_Tree, cI_Tree, cL_Run, cI_Run, cL_Job, cI_Job, c2, c3]
noncomputable def LEqJobS : Code := nav [1,1,0,1,0,0] (bodyOf Tryd.f47)
def lmEqJobS : Nat → List Nat × Nat := fun _ => ([0, 1, 4, 5], 0)
def TEqJobS (a b : List TyJob) (i : Nat) : St := ⟨[(0, .one (.sl false 53 (a.map (cI_Job false)))), (1, .one (.sl false 53 (b.map (cI_Job false)))), (4, .one (.lit (.bool false))), (5, .one (.lit (.int .i64 i)))], [none], 1 + i⟩
def QEqJobS (a b : List TyJob) (i : Nat) (x : Vm.X) (S' : St) : Prop := if a.drop i = b.drop i then x = .exit 0 else x = .ret ∧ look S'.tm 4 = some (.one (.lit (.bool false)))
noncomputable def FEqJobS : Con := con (fun p : List TyJob × List TyJob => [.one (.sl false 53 (p.1.map (cI_Job false))), .one (.sl false 53 (p.2.map (cI_Job false)))]) (fun p => (p.1.length * 144 ≤ 140737488351232 ∧ ∀ y0 ∈ p.1, ok_Job y0)) (fun p => ((false, [none]), [.lit (.bool (decide (p.1 = p.2)))]))
theorem drEqJobS : drawn (opsOf (nav [1,0,0,0] LEqJobS)) = some ([0, 1, 2, 3, 4, 5, 6, 7], [8, 9]) := by kernel_rfl
theorem stepEqJobS {a b : List TyJob} {i k : Nat} (hi : i < a.length) (hj : i < b.length) (hl : a.length ≤ 140737488355328) (hr : ok_Job a[i]) :
    kept 1 (lmEqJobS 0) (exec Tryd.prog (tabCal (tabOf [(15, FEqJob)])) k 1 lmEqJobS 0 LEqJobS (TEqJobS a b i)) = if a[i] = b[i] then some (.norm, TEqJobS a b (i + 1)) else some (.ret, ⟨[(0, .one (.sl false 53 (a.map (cI_Job false)))), (1, .one (.sl false 53 (b.map (cI_Job false)))), (4, .one (.lit (.bool false))), (5, .one (.lit (.int .i64 i)))], [none], 1 + i + 1⟩) := by
  have hx : a[i]? = some a[i] := List.getElem?_eq_getElem hi
  have hy : b[i]? = some b[i] := List.getElem?_eq_getElem hj
  have hi' : (i : Int) < a.length := by omega
  have hw := wrap_succ hi (by omega)
  have hd := drEqJobS
  simp only [LEqJobS, bodyOf, Tryd.f47, nav, opsOf, Option.getD_some] at hd
  have hcall := callEqJob (y := b[i]) hr
  simp only [cL_Slot, cI_Slot, cL_Err, cI_Err, cL_Node, cI_Node, cL_Tree, cI_Tree, cL_Run, cI_Run, cL_Job, cI_Job] at hcall
  split
  · rename_i hc
    have hc1 : (decide (a[i] = b[i])) = true := by simp [hc]
    rw [hc1] at hcall
    simp (implicitDefEqProofs := false) [-getElem?_pos, -getElem?_neg, LEqJobS, bodyOf, Tryd.f47, nav, TEqJobS, lmEqJobS, ex_draw2 _ _ hd, hx, hy, cL_Slot, cI_Slot, cL_Err, cI_Err, cL_Node, cI_Node, cL_Tree, cI_Tree, cL_Run, cI_Run, cL_Job, cI_Job, hi', hi, hw, hcall]
  · rename_i hc
    have hc1 : (decide (a[i] = b[i])) = false := by simp [hc]
    rw [hc1] at hcall
    simp (implicitDefEqProofs := false) [-getElem?_pos, -getElem?_neg, LEqJobS, bodyOf, Tryd.f47, nav, TEqJobS, lmEqJobS, ex_draw2 _ _ hd, hx, hy, cL_Slot, cI_Slot, cL_Err, cI_Err, cL_Node, cI_Node, cL_Tree, cI_Tree, cL_Run, cI_Run, cL_Job, cI_Job, hi', hi, hw, hcall]
theorem endEqJobS {a b : List TyJob} {k : Nat} {cal : Cal} :
    kept 1 (lmEqJobS 0) (exec Tryd.prog cal k 1 lmEqJobS 0 LEqJobS (TEqJobS a b a.length)) = some (.exit 0, TEqJobS a b a.length) := by
  simp (implicitDefEqProofs := false) [-getElem?_pos, -getElem?_neg, LEqJobS, bodyOf, Tryd.f47, nav, TEqJobS, lmEqJobS]
theorem fn_eqJobS : Fn Tryd.prog 47 FEqJobS := by
  refine Fn.con [(15, FEqJob)] (by simp [fn_eqJob]) mixed (fn := Tryd.f47) Tryd.func47 rfl rfl (by kernel_rfl) 2 (by decide) (fun _ => rfl) lmEqJobS (fun p hp => ⟨p.1.length + 1, ?_⟩)
  obtain ⟨a, b⟩ := p
  have hl : a.length ≤ 140737488355328 := by have := hp.1; simp only at this; omega
  simp only
  by_cases hab : a.length = b.length
  · obtain ⟨x, S', hloop, hQ⟩ := loop_run (P := Tryd.prog) (cal := tabCal (tabOf [(15, FEqJob)])) (k := a.length + 1) (n0 := 1) (b := 0) (lm := lmEqJobS) (c := LEqJobS) (TEqJobS a b) (fun i => i ≤ a.length) (fun i => a.length - i) (QEqJobS a b) (fun i q1 => by
        rcases Nat.lt_or_ge i a.length with hi | hi
        · have hj : i < b.length := by omega
          have hst := stepEqJobS (k := a.length + 1) hi hj hl (hp.2 _ (List.getElem_mem hi))
          by_cases hf : a[i] = b[i]
          · rw [if_pos hf] at hst
            refine .inl ⟨_, hst, hi, by omega, fun x S' hq => ?_⟩
            unfold QEqJobS at hq ⊢
            simpa only [drop_eq hi hj, hf, true_and] using hq
          · rw [if_neg hf] at hst
            refine .inr ⟨_, _, hst, by simp, ?_⟩
            unfold QEqJobS
            simp [drop_eq hi hj, hf, look]
        · obtain rfl : i = a.length := by omega
          refine .inr ⟨_, _, endEqJobS, by simp, ?_⟩
          unfold QEqJobS
          have : a.drop a.length = b.drop a.length := by simp [hab]
          rw [if_pos this]) (s := 0) (Nat.zero_le _) (by omega)
    have hab2 : ((a.length : Int) != b.length) = false := by simp [hab]
    replace hloop := hloop (TEqJobS a b 0) (by simp [keep, lmEqJobS, TEqJobS, look])
    change loopAt _ _ _ _ _ _ _ _ = _ at hloop
    simp [LEqJobS, bodyOf, Tryd.f47, nav, TEqJobS, tabOf] at hloop
    unfold QEqJobS at hQ
    simp only [List.drop_zero] at hQ
    split at hQ
    · rename_i he
      subst hQ
      subst he
      simp (implicitDefEqProofs := false) [-getElem?_pos, -getElem?_neg, Tryd.f47, ex_loop, hloop, lmEqJobS]
    · rename_i he
      obtain ⟨rfl, hlook⟩ := hQ
      simp (implicitDefEqProofs := false) [-getElem?_pos, -getElem?_neg, Tryd.f47, ex_loop, hloop, lmEqJobS, hlook, hab2, he]
  · have hne : ¬ a = b := fun h => hab (by rw [h])
    have hab' : ¬ (a.length : Int) = b.length := by omega
    simp (implicitDefEqProofs := false) [-getElem?_pos, -getElem?_neg, Tryd.f47, hab', hab, hne]
theorem callEqJobS {a b : List TyJob} (h : (a.length * 144 ≤ 140737488351232 ∧ ∀ y0 ∈ a, ok_Job y0)) : FEqJobS [.one (.sl false 53 (a.map (cI_Job false))), .one (.sl false 53 (b.map (cI_Job false)))] = some ((false, [none]), [.lit (.bool (decide (a = b)))]) :=
  con_at (arg := fun p : List TyJob × List TyJob => [.one (.sl false 53 (p.1.map (cI_Job false))), .one (.sl false 53 (p.2.map (cI_Job false)))]) (a := (a, b)) (by rintro ⟨a, b⟩ ⟨c, d⟩ h; simpa [rows_inj (cI_Job_inj false)] using h) h
end Go.Proofs.YtjdhdpbdaabdmaaDoor.Vm

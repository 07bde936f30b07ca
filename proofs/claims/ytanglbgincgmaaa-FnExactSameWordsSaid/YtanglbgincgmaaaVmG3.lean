/-
  Functions of the program as plain Lean ones, and that the model does as they say. Written by a program of mine (gen.py).
-/
import Derived.Test.YtanglbgincgmaaaVmG1
import Derived.Test.YtanglbgincgmaaaVmShare
namespace Go.Proofs.Ytanglbgincgmaaa.Vm
open Go Go.RowKit Go.Proofs
set_option linter.unusedVariables false
set_option linter.unusedSimpArgs false
set_option maxHeartbeats 8000000
def cal_spec_l23All (k : Nat) : Cal := calI (tabOf []) (inlOf [])
@[simp] theorem cal_spec_l23All_ap (k g : Nat) (vs : List TV) (mem : Mem) (ep : Nat) : cal_spec_l23All k g vs mem ep = calI (tabOf []) (inlOf []) g vs mem ep := rfl
theorem ok_spec_l23All (k : Nat) (w0 : World) (h0 : True) : CalOk Try.prog w0.heap.size w0 (cal_spec_l23All k) := by
  exact calI_ok (J := fun _ => True) stab_true (tabOf_ok _ (by simp [])) (inlOf_ok _ (by simp [])) h0
@[simp] def lm_spec_l23All : Nat → List Nat × Nat := fun b => if b = 4 then ([0, 1, 5, 6, 7, 8, 9], 3) else if b = 2000004 then ([], 8888888) else if b = 3000004 then ([0, 1, 5, 6, 7, 8], 3) else if b = 2 then ([0, 1, 5, 6, 7, 8], 3) else if b = 2000002 then ([], 8888888) else if b = 3000002 then ([0, 1, 6, 7], 3) else if b = 0 then ([0, 1, 5, 6], 2) else if b = 2000000 then ([1, 5, 0, 2], 8888888) else if b = 3000000 then ([5], 2) else if b = 6000012 then ([0, 1, 5, 6, 7, 8, 9, 24, 25, 26, 27, 30, 32, 33, 34, 35, 37, 38, 39, 40, 43, 44], 6) else ([], 0)
theorem dn_spec_l23All_12 : drawn (opsOf (nav [1, 1, 0, 1, 0, 0, 1, 0, 0, 1, 0, 1, 0, 0, 1, 0, 0, 1, 0, 0, 1, 0, 0] (bodyOf Try.f42))) = none := by kernel_rfl
theorem dr_spec_l23All_12 : drawnM (opsOf (nav [1, 1, 0, 1, 0, 0, 1, 0, 0, 1, 0, 1, 0, 0, 1, 0, 0, 1, 0, 0, 1, 0, 0] (bodyOf Try.f42))) = some ([2, 3, 4, 5], [[0, 7, 8, 1, 6, 9, 10, 11, 12, 13, 14, 15], [0, 7, 8, 1, 9, 6, 10, 11, 12, 13, 14, 15], [0, 7, 8, 1, 9, 10, 6, 11, 12, 13, 14, 15], [0, 7, 8, 1, 9, 10, 11, 6, 12, 13, 14, 15], [0, 7, 8, 9, 1, 6, 10, 11, 12, 13, 14, 15], [0, 7, 8, 9, 1, 10, 6, 11, 12, 13, 14, 15], [0, 7, 8, 9, 1, 10, 11, 6, 12, 13, 14, 15], [0, 7, 8, 9, 10, 1, 6, 11, 12, 13, 14, 15], [0, 7, 8, 9, 10, 1, 11, 6, 12, 13, 14, 15], [0, 7, 8, 9, 10, 11, 1, 6, 12, 13, 14, 15]]) := by kernel_rfl
@[simp] def arg_spec_l23All (a : LI × Int) : List TV := [.one (.sl false 3 (List.map cI a.1)), .one (.lit (.int .i64 a.2))]
@[simp] def res_spec_l23All (r : L2) : Sh × List V := ((false, [none]), [.sl true 31 (List.map (cL31 true) r)])
def p_spec_l23All_L4 (a0 : LI) (a1 : Int) (x6b0 : Int) (x8b2 : Int) (l2b0 : L2) (x9b4 : Int) (l3b4 : L2) : Option L2 :=
 if x9b4 < (a0.length : Int) then
  if 0 ≤ x8b2 then
   l2b0[x8b2.toNat]? >>= fun y233 =>
   if y233.length * 8 ≤ 140737488355328 then
    if 0 ≤ x9b4 then
     a0[x9b4.toNat]? >>= fun y238 =>
     if (y233.length + 1) * 8 ≤ 140737488355328 then
      some (y233 ++ [y238]) >>= fun l241 =>
      if (l3b4.length + 1) * 24 ≤ 140737488355328 then
       some (l3b4 ++ [l241]) >>= fun l244 =>
       p_spec_l23All_L4 a0 a1 x6b0 x8b2 l2b0 (IntKind.wrap .i64 (x9b4 + 1)) l244
      else none
     else none
    else none
   else none
  else none
 else
  some l3b4
partial_fixpoint
@[simp] noncomputable def L_spec_l23All_L4 : Code := nav [1, 1, 0, 1, 0, 0, 1, 0, 0, 1, 0, 1, 0, 0, 1, 0, 0, 1, 0, 0] (bodyOf Try.f42)
@[simp] def T_spec_l23All_L4 (a0 : LI) (a1 : Int) (x6b0 : Int) (x8b2 : Int) (l2b0 : L2) (x9b4 : Int) (l3b4 : L2) (st : Nat → Nat) : St := ⟨[(0, .one (.sl false 3 (List.map cI a0))), (1, .one (.lit (.int .i64 a1))), (5, .one (.ow 2 (st 1))), (6, .one (.lit (.int .i64 x6b0))), (7, .one (.ow 3 (st 2))), (8, .one (.lit (.int .i64 x8b2))), (9, .one (.lit (.int .i64 x9b4)))], [none, none, some (.rows (st 1) (st 1) 31 (List.map (cL31 true) l2b0)), some (.rows (st 2) (st 3) 31 (List.map (cL31 true) l3b4))], (st 0)⟩
@[simp] def U_spec_l23All_L4 (a0 : LI) (a1 : Int) (x6b0 : Int) (x8b2 : Int) (l2b0 : L2) (o : L2) (st : Nat → Nat) : St := ⟨[(0, .one (.sl false 3 (List.map cI a0))), (1, .one (.lit (.int .i64 a1))), (5, .one (.ow 2 (st 1))), (6, .one (.lit (.int .i64 x6b0))), (7, .one (.ow 3 (st 2))), (8, .one (.lit (.int .i64 x8b2)))], [none, none, some (.rows (st 1) (st 1) 31 (List.map (cL31 true) l2b0)), some (.rows (st 2) (st 3) 31 (List.map (cL31 true) o))], (st 0)⟩
abbrev Q_spec_l23All_L4 (a0 : LI) (a1 : Int) (x6b0 : Int) (x8b2 : Int) (l2b0 : L2) (x9b4 : Int) (l3b4 : L2) (o : L2) : Prop := ∀ st : Nat → Nat, LoopG Try.prog cal_spec_l23All 1 lm_spec_l23All 4 L_spec_l23All_L4 (U_spec_l23All_L4 a0 a1 x6b0 x8b2 l2b0) (T_spec_l23All_L4 a0 a1 x6b0 x8b2 l2b0 x9b4 l3b4 st) o
theorem l_spec_l23All_L4 {a0 : LI} {a1 : Int} {x6b0 : Int} {x8b2 : Int} {l2b0 : L2} {x9b4 : Int} {l3b4 : L2} {o : L2} (h : p_spec_l23All_L4 a0 a1 x6b0 x8b2 l2b0 x9b4 l3b4 = some o) : Q_spec_l23All_L4 a0 a1 x6b0 x8b2 l2b0 x9b4 l3b4 o := by
  refine p_spec_l23All_L4.partial_correctness a0 a1 x6b0 x8b2 l2b0 (motive := fun x9b4 l3b4 o => Q_spec_l23All_L4 a0 a1 x6b0 x8b2 l2b0 x9b4 l3b4 o) ?_ x9b4 l3b4 o h
  clear h o x9b4 l3b4
  intro p' ih x9b4 l3b4 r h st
  rcases ifc h with ⟨h231, h⟩ | ⟨h231, h⟩
  · obtain ⟨h232, h⟩ := ifg h
    obtain ⟨y233, h234, h⟩ := bd h
    have h234b := (List.getElem?_eq_some_iff.1 h234).1
    obtain ⟨h236, h⟩ := ifg h
    obtain ⟨h237, h⟩ := ifg h
    obtain ⟨y238, h239, h⟩ := bd h
    obtain ⟨h240, h⟩ := ifg h
    obtain ⟨l241, h242, h⟩ := bd h
    have h242r : List.map cI y233 ++ [[.lit (.int .i64 y238)]] = List.map cI l241 := by rw [← Option.some.inj h242]; simp
    obtain ⟨h243, h⟩ := ifg h
    obtain ⟨l244, h245, h⟩ := bd h
    have h245r : List.map (cL31 true) l3b4 ++ [[.sl true 3 (List.map cI l241)]] = List.map (cL31 true) l244 := by rw [← Option.some.inj h245]; simp
    refine LoopG.step 0 (fun k hk => ?_) (ih _ _ _ h (sl [((st 0) + 6), (st 1), ((st 0) + 5), (st 3)]))
    have hn_spec_l23All_12 := dn_spec_l23All_12
    simp only [opsOf, nav, bodyOf, Try.f42, Option.getD_some] at hn_spec_l23All_12
    have hd_spec_l23All_12 := dr_spec_l23All_12
    simp only [opsOf, nav, bodyOf, Try.f42, Option.getD_some] at hd_spec_l23All_12
    simp (implicitDefEqProofs := false) [-getElem?_pos, -getElem?_neg, Try.f42, h231, ex_drawM _ _ hn_spec_l23All_12 hd_spec_l23All_12, h232, h234, h234b, h236, h237, h239, h240, h242r, h243, h245r]
  obtain rfl := Option.some.inj h
  exact LoopG.exit (sl [(st 0), (st 1), (st 2), (st 3)]) 0 (fun k hk => by simp (implicitDefEqProofs := false) [-getElem?_pos, -getElem?_neg, Try.f42, h231])
def p_spec_l23All_L2 (a0 : LI) (a1 : Int) (x6b0 : Int) (l2b0 : L2) (x8b2 : Int) (l3b2 : L2) : Option L2 :=
 if x8b2 < (l2b0.length : Int) then
  p_spec_l23All_L4 a0 a1 x6b0 x8b2 l2b0 0 l3b2 >>= fun o247 =>
  p_spec_l23All_L2 a0 a1 x6b0 l2b0 (IntKind.wrap .i64 (x8b2 + 1)) o247
 else
  some l3b2
partial_fixpoint
@[simp] noncomputable def L_spec_l23All_L2 : Code := nav [1, 1, 0, 1, 0, 0, 1, 0, 0, 1, 0, 1, 0, 0] (bodyOf Try.f42)
@[simp] def T_spec_l23All_L2 (a0 : LI) (a1 : Int) (x6b0 : Int) (l2b0 : L2) (x8b2 : Int) (l3b2 : L2) (st : Nat → Nat) : St := ⟨[(0, .one (.sl false 3 (List.map cI a0))), (1, .one (.lit (.int .i64 a1))), (5, .one (.ow 2 (st 1))), (6, .one (.lit (.int .i64 x6b0))), (7, .one (.ow 3 (st 2))), (8, .one (.lit (.int .i64 x8b2)))], [none, none, some (.rows (st 1) (st 1) 31 (List.map (cL31 true) l2b0)), some (.rows (st 2) (st 3) 31 (List.map (cL31 true) l3b2))], (st 0)⟩
@[simp] def U_spec_l23All_L2 (a0 : LI) (a1 : Int) (x6b0 : Int) (l2b0 : L2) (o : L2) (st : Nat → Nat) : St := ⟨[(0, .one (.sl false 3 (List.map cI a0))), (1, .one (.lit (.int .i64 a1))), (6, .one (.lit (.int .i64 x6b0))), (7, .one (.ow 3 (st 1)))], [none, none, some (.rows (st 2) (st 2) 31 (List.map (cL31 true) l2b0)), some (.rows (st 1) (st 3) 31 (List.map (cL31 true) o))], (st 0)⟩
abbrev Q_spec_l23All_L2 (a0 : LI) (a1 : Int) (x6b0 : Int) (l2b0 : L2) (x8b2 : Int) (l3b2 : L2) (o : L2) : Prop := ∀ st : Nat → Nat, LoopG Try.prog cal_spec_l23All 1 lm_spec_l23All 2 L_spec_l23All_L2 (U_spec_l23All_L2 a0 a1 x6b0 l2b0) (T_spec_l23All_L2 a0 a1 x6b0 l2b0 x8b2 l3b2 st) o
theorem l_spec_l23All_L2 {a0 : LI} {a1 : Int} {x6b0 : Int} {l2b0 : L2} {x8b2 : Int} {l3b2 : L2} {o : L2} (h : p_spec_l23All_L2 a0 a1 x6b0 l2b0 x8b2 l3b2 = some o) : Q_spec_l23All_L2 a0 a1 x6b0 l2b0 x8b2 l3b2 o := by
  refine p_spec_l23All_L2.partial_correctness a0 a1 x6b0 l2b0 (motive := fun x8b2 l3b2 o => Q_spec_l23All_L2 a0 a1 x6b0 l2b0 x8b2 l3b2 o) ?_ x8b2 l3b2 o h
  clear h o x8b2 l3b2
  intro p' ih x8b2 l3b2 r h st
  rcases ifc h with ⟨h201, h⟩ | ⟨h201, h⟩
  · obtain ⟨o247, h246, h⟩ := bd h
    have qK248 := l_spec_l23All_L4 h246 (sl [(st 0), (st 1), (st 2), (st 3)])
    obtain ⟨s249, K248, qK248⟩ := qK248
    refine LoopG.step K248 (fun k hk => ?_) (ih _ _ _ h (sl [(s249 0), (s249 1), (s249 2), (s249 3)]))
    have jK248 := qK248 k (by omega) k (by omega)
    simp (implicitDefEqProofs := false) [-getElem?_pos, -getElem?_neg, Try.f42, h201] at jK248
    simp (implicitDefEqProofs := false) [-getElem?_pos, -getElem?_neg, Try.f42, h201, jK248]
  obtain rfl := Option.some.inj h
  exact LoopG.exit (sl [(st 0), (st 2), (st 1), (st 3)]) 0 (fun k hk => by simp (implicitDefEqProofs := false) [-getElem?_pos, -getElem?_neg, Try.f42, h201])
def p_spec_l23All_L0 (a0 : LI) (a1 : Int) (x6b0 : Int) (l2b0 : L2) : Option L2 :=
 if x6b0 < a1 then
  p_spec_l23All_L2 a0 a1 x6b0 l2b0 0 ([]) >>= fun o251 =>
  p_spec_l23All_L0 a0 a1 (IntKind.wrap .i64 (x6b0 + 1)) o251
 else
  some l2b0
partial_fixpoint
@[simp] noncomputable def L_spec_l23All_L0 : Code := nav [1, 1, 0, 1, 0, 0] (bodyOf Try.f42)
@[simp] def T_spec_l23All_L0 (a0 : LI) (a1 : Int) (x6b0 : Int) (l2b0 : L2) (st : Nat → Nat) : St := ⟨[(0, .one (.sl false 3 (List.map cI a0))), (1, .one (.lit (.int .i64 a1))), (5, .one (.ow 2 (st 1))), (6, .one (.lit (.int .i64 x6b0)))], [none, none, some (.rows (st 1) (st 1) 31 (List.map (cL31 true) l2b0))], (st 0)⟩
@[simp] def U_spec_l23All_L0 (a0 : LI) (a1 : Int) (o : L2) (st : Nat → Nat) : St := ⟨[(5, .one (.ow 2 (st 1)))], [none, none, some (.rows (st 1) (st 1) 31 (List.map (cL31 true) o))], (st 0)⟩
abbrev Q_spec_l23All_L0 (a0 : LI) (a1 : Int) (x6b0 : Int) (l2b0 : L2) (o : L2) : Prop := ∀ st : Nat → Nat, LoopG Try.prog cal_spec_l23All 1 lm_spec_l23All 0 L_spec_l23All_L0 (U_spec_l23All_L0 a0 a1) (T_spec_l23All_L0 a0 a1 x6b0 l2b0 st) o
theorem l_spec_l23All_L0 {a0 : LI} {a1 : Int} {x6b0 : Int} {l2b0 : L2} {o : L2} (h : p_spec_l23All_L0 a0 a1 x6b0 l2b0 = some o) : Q_spec_l23All_L0 a0 a1 x6b0 l2b0 o := by
  refine p_spec_l23All_L0.partial_correctness a0 a1 (motive := fun x6b0 l2b0 o => Q_spec_l23All_L0 a0 a1 x6b0 l2b0 o) ?_ x6b0 l2b0 o h
  clear h o x6b0 l2b0
  intro p' ih x6b0 l2b0 r h st
  rcases ifc h with ⟨h137, h⟩ | ⟨h137, h⟩
  · obtain ⟨o251, h250, h⟩ := bd h
    have qK252 := l_spec_l23All_L2 h250 (sl [((st 0) + 1), (st 1), (st 0), (st 0)])
    obtain ⟨s253, K252, qK252⟩ := qK252
    refine LoopG.step K252 (fun k hk => ?_) (ih _ _ _ h (sl [((s253 0) + 1), (s253 0)]))
    have jK252 := qK252 k (by omega) k (by omega)
    simp (implicitDefEqProofs := false) [-getElem?_pos, -getElem?_neg, Try.f42, h137] at jK252
    simp (implicitDefEqProofs := false) [-getElem?_pos, -getElem?_neg, Try.f42, h137, jK252]
  obtain rfl := Option.some.inj h
  exact LoopG.exit (sl [(st 0), (st 1)]) 0 (fun k hk => by simp (implicitDefEqProofs := false) [-getElem?_pos, -getElem?_neg, Try.f42, h137])
def p_spec_l23All (a0 : LI) (a1 : Int) : Option L2 :=
 p_spec_l23All_L0 a0 a1 0 ([[]]) >>= fun o255 =>
 some o255
theorem t_spec_l23All {a0 : LI} {a1 : Int} {r : L2} (h : p_spec_l23All a0 a1 = some r) : ∃ k, told Try.prog (cal_spec_l23All k) k lm_spec_l23All Try.f42 (arg_spec_l23All (a0, a1)) = some (res_spec_l23All r) := by
  unfold p_spec_l23All at h
  obtain ⟨o255, h254, h⟩ := bd h
  have qK256 := l_spec_l23All_L0 h254 (sl [4, 3])
  obtain ⟨s257, K256, qK256⟩ := qK256
  obtain rfl := Option.some.inj h
  obtain ⟨k, hk⟩ : ∃ k, K256 ≤ k := ⟨_, Nat.le_refl _⟩
  have jK256 := qK256 k (by omega) k (by omega)
  simp (implicitDefEqProofs := false) [-getElem?_pos, -getElem?_neg, Try.f42] at jK256
  refine ⟨k, ?_⟩
  simp (implicitDefEqProofs := false) [-getElem?_pos, -getElem?_neg, Try.f42, jK256]
theorem inj_spec_l23All : ∀ a b, arg_spec_l23All a = arg_spec_l23All b → a = b := by
  rintro ⟨x0, x1⟩ ⟨y0, y1⟩ h; simp [arg_spec_l23All] at h; simp [Prod.ext_iff, h]
noncomputable def F_spec_l23All : Con := nilfix [[some 3], [none]] (pcon arg_spec_l23All (fun a => p_spec_l23All a.1 a.2) res_spec_l23All)
theorem fn_spec_l23All : Fn Try.prog 42 F_spec_l23All := (Fn.pure cal_spec_l23All (fun k w0 h0 => ok_spec_l23All k w0 h0) mixed Try.func42 rfl rfl (by kernel_rfl) 2 (by decide) (fun _ => rfl) lm_spec_l23All (fun a b h => t_spec_l23All h)).nilfix _
theorem c_spec_l23All {a0 : LI} {a1 : Int} {r : L2} (h : p_spec_l23All a0 a1 = some r) : F_spec_l23All [.one (.sl false 3 (List.map cI a0)), .one (.lit (.int .i64 a1))] = some (((false, [none]), [.sl true 31 (List.map (cL31 true) r)])) := pcon_at (arg := arg_spec_l23All) (p := fun a => p_spec_l23All a.1 a.2) (res := res_spec_l23All) (a := (a0, a1)) (b := r) inj_spec_l23All h
@[simp] def cB (x : Bool) : List V := [.lit (.bool x)]
theorem cB_inj : ∀ a b : Bool, cB a = cB b → a = b := by
  intro a b h
  simp [cB] at h
  exact h
@[simp] theorem cB_m {a b : List (Bool)} : List.map cB a = List.map cB b ↔ a = b := ⟨map_inj' cB_inj a b, fun h => by rw [h]⟩
@[simp] theorem cB_e (l : List (Bool)) : erRows (List.map cB l) = List.map cB l := by
  rw [erRows_map, List.map_map]
  exact List.map_congr_left (fun x _ => by simp [V.er])
@[simp] theorem cB_p (l : List (Bool)) : pureRows (List.map cB l) = true := by
  induction l with
  | nil => rfl
  | cons x l ih => simpa [pureRows, pureRow, pure0] using ih
@[simp] def cL85 (own : Bool) (x : List (Bool)) : List V := [.sl own 4 (List.map cB x)]
theorem cL85_inj {own : Bool} : ∀ a b : List (Bool), cL85 own a = cL85 own b → a = b := by
  intro a b h
  simp [cL85] at h
  exact h
@[simp] theorem cL85_m {own : Bool} {a b : B2} : List.map (cL85 own) a = List.map (cL85 own) b ↔ a = b := ⟨map_inj' cL85_inj a b, fun h => by rw [h]⟩
@[simp] theorem cL85_e {own : Bool} (l : B2) : erRows (List.map (cL85 own) l) = List.map (cL85 false) l := by
  rw [erRows_map, List.map_map]
  exact List.map_congr_left (fun x _ => by cases own <;> simp [V.er, ← erRows_map])
@[simp] theorem cL85_p (l : B2) : pureRows (List.map (cL85 true) l) = true := by
  induction l with
  | nil => rfl
  | cons x l ih => simpa [pureRows, pureRow, pure0] using ih
@[simp] theorem cL85_n (j x : Nat) (l : B2) : List.map (nzRow j x) (List.map (cL85 true) l) = List.map (cL85 true) l := nz_map (fun a => by simp [noNil]) j x l
@[simp] theorem cL85_o (j x : Nat) (l : B2) : List.map (nzRow j x ∘ cL85 true) l = List.map (cL85 true) l := by rw [← List.map_map]; exact nz_map (fun a => by simp [noNil]) j x l
@[simp] def cL38m1 (x : L2) : List V := [.sl true 31 (List.map (cL31 false) x)]
theorem cL38m1_inj : ∀ a b : L2, cL38m1 a = cL38m1 b → a = b := by
  intro a b h
  simp [cL38m1] at h
  exact h
@[simp] theorem cL38m1_m {a b : L3} : List.map cL38m1 a = List.map cL38m1 b ↔ a = b := ⟨map_inj' cL38m1_inj a b, fun h => by rw [h]⟩
@[simp] theorem cL38m1_e (l : L3) : erRows (List.map cL38m1 l) = List.map (cL38 false) l := by
  rw [erRows_map, List.map_map]
  exact List.map_congr_left (fun x _ => by simp [V.er])
@[simp] theorem cL38m1_n (j x : Nat) (l : L3) : List.map (nzRow j x) (List.map cL38m1 l) = List.map cL38m1 l := nz_map (fun a => by simp [noNil]) j x l
@[simp] theorem cL38m1_o (j x : Nat) (l : L3) : List.map (nzRow j x ∘ cL38m1) l = List.map cL38m1 l := by rw [← List.map_map]; exact nz_map (fun a => by simp [noNil]) j x l
@[simp] theorem nd_cL38m1 (x : Nat) (l : L3) : List.map (nzDeep 0 x) (List.map cL38m1 l) = List.map cL38m1 l := by
  rw [List.map_map]
  exact List.map_congr_left (fun a _ => by
    have h := nz_map (c := (cL31 false)) (fun a => by simp [noNil]) 0 x a
    simp only [Function.comp_apply, cL38m1, nzDeep, List.getElem?_cons_zero, List.set_cons_zero, h])
@[simp] theorem ndo_cL38m1 (x : Nat) (l : L3) : List.map (nzDeep 0 x ∘ cL38m1) l = List.map cL38m1 l := by rw [← List.map_map]; exact nd_cL38m1 x l
def cal_spec_l7New (k : Nat) : Cal := calI (tabOf []) (inlOf [])
@[simp] theorem cal_spec_l7New_ap (k g : Nat) (vs : List TV) (mem : Mem) (ep : Nat) : cal_spec_l7New k g vs mem ep = calI (tabOf []) (inlOf []) g vs mem ep := rfl
theorem ok_spec_l7New (k : Nat) (w0 : World) (h0 : True) : CalOk Try.prog w0.heap.size w0 (cal_spec_l7New k) := by
  exact calI_ok (J := fun _ => True) stab_true (tabOf_ok _ (by simp [])) (inlOf_ok _ (by simp [])) h0
@[simp] def lm_spec_l7New : Nat → List Nat × Nat := fun b => if b = 0 then ([1, 2, 5, 6], 4) else if b = 2000000 then ([0, 5, 2, 38, 0, 5, 3, 85], 8888888) else if b = 3000000 then ([5], 4) else if b = 1000005 then ([4, 26, 0, 1000003, 5, 28, 0, 1000003], 8888888) else ([], 0)
theorem dr_spec_l7New_5 : drawn (opsOf (nav [1, 1, 0, 1, 0, 0, 1, 0, 0, 0] (bodyOf Try.f58))) = some ([1, 2, 3, 4, 5, 6, 0, 7, 8, 9], [10, 11, 12, 13]) := by kernel_rfl
theorem dr_spec_l7New_6 : drawn (opsOf (nav [1, 1, 0, 1, 0, 0, 1, 0, 0, 1] (bodyOf Try.f58))) = some ([1, 2, 3, 4, 5, 6, 0, 7, 8, 9], [10, 11, 12, 13]) := by kernel_rfl
@[simp] def arg_spec_l7New (a : L3 × LI) : List TV := [.agg [.sl false 38 (List.map (cL38 false) a.1)], .one (.sl false 3 (List.map cI a.2))]
@[simp] def res_spec_l7New (r : (L3 × LI × L3 × B2)) : List V := [.sl false 38 (List.map (cL38 false) r.1), .sl false 3 (List.map cI r.2.1), .sl true 38 (List.map cL38m1 r.2.2.1), .sl true 85 (List.map (cL85 true) r.2.2.2)]
def p_spec_l7New_L0 (a1 : LI) (a0 : L3) (x6b0 : Int) (l3b0 : L3) (l4b0 : B2) : Option (L3 × B2) :=
 if x6b0 < (a0.length : Int) then
  if 0 ≤ (IntKind.wrap .i64 ((a1.length : Int) + 1)) then
   if (IntKind.wrap .i64 ((a1.length : Int) + 1)).toNat * 24 ≤ 140737488355328 then
    some (List.replicate ((IntKind.wrap .i64 ((a1.length : Int) + 1)).toNat) ([])) >>= fun l40 =>
    if (l3b0.length + 1) * 24 ≤ 140737488355328 then
     some (l3b0 ++ [l40]) >>= fun l43 =>
     if (IntKind.wrap .i64 ((a1.length : Int) + 1)).toNat ≤ 140737488355328 then
      some (List.replicate ((IntKind.wrap .i64 ((a1.length : Int) + 1)).toNat) false) >>= fun l46 =>
      if (l4b0.length + 1) * 24 ≤ 140737488355328 then
       some (l4b0 ++ [l46]) >>= fun l49 =>
       p_spec_l7New_L0 a1 a0 (IntKind.wrap .i64 (x6b0 + 1)) l43 l49
      else none
     else none
    else none
   else none
  else none
 else
  some (l3b0, l4b0)
partial_fixpoint
@[simp] noncomputable def L_spec_l7New_L0 : Code := nav [1, 1, 0, 1, 0, 0] (bodyOf Try.f58)
@[simp] def T_spec_l7New_L0 (a1 : LI) (a0 : L3) (x6b0 : Int) (l3b0 : L3) (l4b0 : B2) (st : Nat → Nat) : St := ⟨[(1, .one (.sl false 3 (List.map cI a1))), (2, .one (.bp 1 1 0)), (5, .one (.bp 2 2 0)), (6, .one (.lit (.int .i64 x6b0)))], [none, some (.box 1 [.sl false 38 (List.map (cL38 false) a0)]), some (.box 2 [.sl false 38 (List.map (cL38 false) a0), .sl false 3 (List.map cI a1), .ow 3 (st 1), .ow 4 (st 2)]), some (.rows (st 1) (st 3) 38 (List.map cL38m1 l3b0)), some (.rows (st 2) 4 85 (List.map (cL85 true) l4b0))], (st 0)⟩
@[simp] def U_spec_l7New_L0 (a1 : LI) (a0 : L3) (o : L3 × B2) (st : Nat → Nat) : St := ⟨[(5, .one (.bp 2 2 0))], [none, some (.box 1 [.sl false 38 (List.map (cL38 false) a0)]), some (.box 2 [.sl false 38 (List.map (cL38 false) a0), .sl false 3 (List.map cI a1), .ow 3 (st 1), .ow 4 (st 2)]), some (.rows (st 1) (st 3) 38 (List.map cL38m1 o.1)), some (.rows (st 2) 4 85 (List.map (cL85 true) o.2))], (st 0)⟩
abbrev Q_spec_l7New_L0 (a1 : LI) (a0 : L3) (x6b0 : Int) (l3b0 : L3) (l4b0 : B2) (o : L3 × B2) : Prop := ∀ st : Nat → Nat, LoopG Try.prog cal_spec_l7New 1 lm_spec_l7New 0 L_spec_l7New_L0 (U_spec_l7New_L0 a1 a0) (T_spec_l7New_L0 a1 a0 x6b0 l3b0 l4b0 st) o
theorem l_spec_l7New_L0 {a1 : LI} {a0 : L3} {x6b0 : Int} {l3b0 : L3} {l4b0 : B2} {o : L3 × B2} (h : p_spec_l7New_L0 a1 a0 x6b0 l3b0 l4b0 = some o) : Q_spec_l7New_L0 a1 a0 x6b0 l3b0 l4b0 o := by
  refine p_spec_l7New_L0.partial_correctness a1 a0 (motive := fun x6b0 l3b0 l4b0 o => Q_spec_l7New_L0 a1 a0 x6b0 l3b0 l4b0 o) ?_ x6b0 l3b0 l4b0 o h
  clear h o x6b0 l3b0 l4b0
  intro p' ih x6b0 l3b0 l4b0 r h st
  rcases ifc h with ⟨h37, h⟩ | ⟨h37, h⟩
  · obtain ⟨h38, h⟩ := ifg h
    obtain ⟨h39, h⟩ := ifg h
    have h39b : (IntKind.wrap .i64 ((a1.length : Int) + 1)).toNat ≤ 9223372036854775807 := by omega
    obtain ⟨l40, h41, h⟩ := bd h
    have h41r : List.replicate ((IntKind.wrap .i64 ((a1.length : Int) + 1)).toNat) [.sl false 3 []] = List.map (cL31 false) l40 := by rw [← Option.some.inj h41]; simp
    obtain ⟨h42, h⟩ := ifg h
    obtain ⟨l43, h44, h⟩ := bd h
    have h44r : List.map cL38m1 l3b0 ++ [[.sl true 31 (List.map (cL31 false) l40)]] = List.map cL38m1 l43 := by rw [← Option.some.inj h44]; simp
    obtain ⟨h45, h⟩ := ifg h
    have h45b : (IntKind.wrap .i64 ((a1.length : Int) + 1)).toNat ≤ 9223372036854775807 := by omega
    have h45c : (IntKind.wrap .i64 ((a1.length : Int) + 1)) ≤ 140737488355328 := by omega
    obtain ⟨l46, h47, h⟩ := bd h
    have h47r : List.replicate ((IntKind.wrap .i64 ((a1.length : Int) + 1)).toNat) [.lit (.bool false)] = List.map cB l46 := by rw [← Option.some.inj h47]; simp
    obtain ⟨h48, h⟩ := ifg h
    obtain ⟨l49, h50, h⟩ := bd h
    have h50r : List.map (cL85 true) l4b0 ++ [[.sl true 4 (List.map cB l46)]] = List.map (cL85 true) l49 := by rw [← Option.some.inj h50]; simp
    refine LoopG.step 0 (fun k hk => ?_) (ih _ _ _ _ h (sl [((st 0) + 7), ((st 0) + 2), ((st 0) + 6), ((st 0) + 3)]))
    have hd_spec_l7New_5 := dr_spec_l7New_5
    simp only [opsOf, nav, bodyOf, Try.f58, Option.getD_some] at hd_spec_l7New_5
    have hd_spec_l7New_6 := dr_spec_l7New_6
    simp only [opsOf, nav, bodyOf, Try.f58, Option.getD_some] at hd_spec_l7New_6
    simp (implicitDefEqProofs := false) [-getElem?_pos, -getElem?_neg, Try.f58, h37, ex_draw2 _ _ hd_spec_l7New_5, h38, h39, h39b, h41r, h42, h44r, ex_draw2 _ _ hd_spec_l7New_6, h45, h45b, h45c, h47r, h48, h50r]
  obtain rfl := Option.some.inj h
  exact LoopG.exit (sl [(st 0), (st 1), (st 2), (st 3)]) 0 (fun k hk => by simp (implicitDefEqProofs := false) [-getElem?_pos, -getElem?_neg, Try.f58, h37])
def p_spec_l7New (a0 : L3) (a1 : LI) : Option ((L3 × LI × L3 × B2)) :=
 p_spec_l7New_L0 a1 a0 0 ([]) ([]) >>= fun o52 =>
 some (a0, a1, o52.1, o52.2)
theorem t_spec_l7New {a0 : L3} {a1 : LI} {r : (L3 × LI × L3 × B2)} (h : p_spec_l7New a0 a1 = some r) : ∃ k, toldP Try.prog (cal_spec_l7New k) k lm_spec_l7New Try.f58 (arg_spec_l7New (a0, a1)) = some (res_spec_l7New r) := by
  unfold p_spec_l7New at h
  obtain ⟨o52, h51, h⟩ := bd h
  have qK53 := l_spec_l7New_L0 h51 (sl [5, 3, 4, 3])
  obtain ⟨s54, K53, qK53⟩ := qK53
  obtain rfl := Option.some.inj h
  obtain ⟨k, hk⟩ : ∃ k, K53 ≤ k := ⟨_, Nat.le_refl _⟩
  have jK53 := qK53 k (by omega) k (by omega)
  simp (implicitDefEqProofs := false) [-getElem?_pos, -getElem?_neg, Try.f58] at jK53
  refine ⟨k, ?_⟩
  simp (implicitDefEqProofs := false) [-getElem?_pos, -getElem?_neg, Try.f58, jK53]
theorem inj_spec_l7New : ∀ a b, arg_spec_l7New a = arg_spec_l7New b → a = b := by
  rintro ⟨x0, x1⟩ ⟨y0, y1⟩ h; simp [arg_spec_l7New] at h; simp [Prod.ext_iff, h]
noncomputable def F_spec_l7New : PCon := ppcon arg_spec_l7New (fun a => p_spec_l7New a.1 a.2) res_spec_l7New
theorem fn_spec_l7New : PFn Try.prog 58 F_spec_l7New := PFn.pure cal_spec_l7New (fun k w0 h0 => ok_spec_l7New k w0 h0) mixed Try.func58 rfl rfl (by kernel_rfl) 2 (by decide) (fun _ => rfl) lm_spec_l7New (fun a b h => t_spec_l7New h)
theorem c_spec_l7New {a0 : L3} {a1 : LI} {r : (L3 × LI × L3 × B2)} (h : p_spec_l7New a0 a1 = some r) : F_spec_l7New [.agg [.sl false 38 (List.map (cL38 false) a0)], .one (.sl false 3 (List.map cI a1))] = some [.sl false 38 (List.map (cL38 false) r.1), .sl false 3 (List.map cI r.2.1), .sl true 38 (List.map cL38m1 r.2.2.1), .sl true 85 (List.map (cL85 true) r.2.2.2)] := ppcon_at (arg := arg_spec_l7New) (p := fun a => p_spec_l7New a.1 a.2) (res := res_spec_l7New) (a := (a0, a1)) (b := r) inj_spec_l7New h
def cal_spec_l7At (k : Nat) : Cal := calI (tabOf []) (inlOf [])
@[simp] theorem cal_spec_l7At_ap (k g : Nat) (vs : List TV) (mem : Mem) (ep : Nat) : cal_spec_l7At k g vs mem ep = calI (tabOf []) (inlOf []) g vs mem ep := rfl
theorem ok_spec_l7At (k : Nat) (w0 : World) (h0 : True) : CalOk Try.prog w0.heap.size w0 (cal_spec_l7At k) := by
  exact calI_ok (J := fun _ => True) stab_true (tabOf_ok _ (by simp [])) (inlOf_ok _ (by simp [])) h0
@[simp] def lm_spec_l7At : Nat → List Nat × Nat := fun b => ([], 0)
@[simp] def arg_spec_l7At (a : (L3 × LI × L3 × B2) × Int) : List TV := [.one (.rp [.sl false 38 (List.map (cL38 false) a.1.1), .sl false 3 (List.map cI a.1.2.1), .sl false 38 (List.map (cL38 false) a.1.2.2.1), .sl false 85 (List.map (cL85 false) a.1.2.2.2)] 0), .one (.lit (.int .i64 a.2))]
@[simp] def res_spec_l7At (r : LI) : Sh × List V := ((false, [none]), [.sl true 3 (List.map cI r)])
def p_spec_l7At (a0 : L3 × LI × L3 × B2) (a1 : Int) : Option LI :=
 if 0 ≤ (IntKind.wrap .i64 ((a0.2.1.length : Int) + 1)) then
  if (IntKind.wrap .i64 ((a0.2.1.length : Int) + 1)).toNat * 8 ≤ 140737488355328 then
   some (List.replicate ((IntKind.wrap .i64 ((a0.2.1.length : Int) + 1)).toNat) 0) >>= fun l3 =>
   if 0 ≤ a1 then
    l3[a1.toNat]? >>= fun y6 =>
    some (List.set l3 a1.toNat 1) >>= fun l8 =>
    some l8
   else none
  else none
 else none
theorem t_spec_l7At {a0 : L3 × LI × L3 × B2} {a1 : Int} {r : LI} (h : p_spec_l7At a0 a1 = some r) : ∃ k, told Try.prog (cal_spec_l7At k) k lm_spec_l7At Try.f60 (arg_spec_l7At (a0, a1)) = some (res_spec_l7At r) := by
  unfold p_spec_l7At at h
  obtain ⟨h1, h⟩ := ifg h
  obtain ⟨h2, h⟩ := ifg h
  have h2b : (IntKind.wrap .i64 ((a0.2.1.length : Int) + 1)).toNat ≤ 9223372036854775807 := by omega
  obtain ⟨l3, h4, h⟩ := bd h
  have h4r : List.replicate ((IntKind.wrap .i64 ((a0.2.1.length : Int) + 1)).toNat) [.lit (.int .i64 0)] = List.map cI l3 := by rw [← Option.some.inj h4]; simp
  obtain ⟨h5, h⟩ := ifg h
  obtain ⟨y6, h7, h⟩ := bd h
  have h7b := (List.getElem?_eq_some_iff.1 h7).1
  obtain ⟨l8, h9, h⟩ := bd h
  have h9r : (List.map cI l3).set a1.toNat [.lit (.int .i64 1)] = List.map cI l8 := by rw [← Option.some.inj h9]; simp
  obtain rfl := Option.some.inj h
  obtain ⟨k, hk⟩ : ∃ k, 0 ≤ k := ⟨_, Nat.le_refl _⟩
  refine ⟨k, ?_⟩
  simp (implicitDefEqProofs := false) [-getElem?_pos, -getElem?_neg, Try.f60, h1, h2, h2b, h4r, h5, h7, h7b, h9r]
theorem inj_spec_l7At : ∀ a b, arg_spec_l7At a = arg_spec_l7At b → a = b := by
  rintro ⟨x0, x1⟩ ⟨y0, y1⟩ h; simp [arg_spec_l7At] at h; simp [Prod.ext_iff, h]
noncomputable def F_spec_l7At : Con := nilfix [] (pcon arg_spec_l7At (fun a => p_spec_l7At a.1 a.2) res_spec_l7At)
theorem fn_spec_l7At : Fn Try.prog 60 F_spec_l7At := (Fn.pure cal_spec_l7At (fun k w0 h0 => ok_spec_l7At k w0 h0) mixed Try.func60 rfl rfl (by kernel_rfl) 2 (by decide) (fun _ => rfl) lm_spec_l7At (fun a b h => t_spec_l7At h)).nilfix _
theorem c_spec_l7At {a0 : L3 × LI × L3 × B2} {a1 : Int} {r : LI} (h : p_spec_l7At a0 a1 = some r) : F_spec_l7At [.one (.rp [.sl false 38 (List.map (cL38 false) a0.1), .sl false 3 (List.map cI a0.2.1), .sl false 38 (List.map (cL38 false) a0.2.2.1), .sl false 85 (List.map (cL85 false) a0.2.2.2)] 0), .one (.lit (.int .i64 a1))] = some (((false, [none]), [.sl true 3 (List.map cI r)])) := pcon_at (arg := arg_spec_l7At) (p := fun a => p_spec_l7At a.1 a.2) (res := res_spec_l7At) (a := (a0, a1)) (b := r) inj_spec_l7At h
@[simp] def arg_spec_l7Part (a : (L3 × LI × L3 × B2) × Int × Int) : List TV := [.one (.lit (.int .i64 a.2.1)), .one (.lit (.int .i64 a.2.2))]
@[simp] def H_spec_l7Part (a : (L3 × LI × L3 × B2) × Int × Int) : List V := [.sl false 38 (List.map (cL38 false) a.1.1), .sl false 3 (List.map cI a.1.2.1), .sl true 38 (List.map cL38m1 a.1.2.2.1), .sl true 85 (List.map (cL85 true) a.1.2.2.2)]
@[simp] def res_spec_l7Part (r : LI × (L3 × LI × L3 × B2)) : Sh × List V × List V := ((false, [none]), [.sl false 3 (List.map cI r.1)], [.sl false 38 (List.map (cL38 false) r.2.1), .sl false 3 (List.map cI r.2.2.1), .sl true 38 (List.map cL38m1 r.2.2.2.1), .sl true 85 (List.map (cL85 true) r.2.2.2.2)])
theorem inj_spec_l7Part : ∀ a b, H_spec_l7Part a = H_spec_l7Part b → arg_spec_l7Part a = arg_spec_l7Part b → a = b := by
  rintro ⟨x0, x1, x2⟩ ⟨y0, y1, y2⟩ h1 h2; simp [arg_spec_l7Part] at h2; simp [H_spec_l7Part] at h1; simp [Prod.ext_iff, h1, h2]
abbrev RT_spec_l7Part : Type := (L3 × LI × L3 × B2) → Int → Int → Option (LI × (L3 × LI × L3 × B2))
noncomputable def R_spec_l7Part (rec : RT_spec_l7Part) : BCon := (pbcon H_spec_l7Part arg_spec_l7Part (fun a => rec a.1 a.2.1 a.2.2) res_spec_l7Part)
abbrev HR_spec_l7Part (rec : RT_spec_l7Part) : Prop := BFn Try.prog 74 true (pbcon H_spec_l7Part arg_spec_l7Part (fun a => rec a.1 a.2.1 a.2.2) res_spec_l7Part)
theorem fR_spec_l7Part {rec : RT_spec_l7Part} (hrec : HR_spec_l7Part rec) : BFn Try.prog 74 true (R_spec_l7Part rec) := hrec
theorem cR_spec_l7Part {rec : RT_spec_l7Part} {a0 : L3 × LI × L3 × B2} {a1 : Int} {a2 : Int} {r : LI × (L3 × LI × L3 × B2)} (h : rec a0 a1 a2 = some r) : R_spec_l7Part rec ([.sl false 38 (List.map (cL38 false) a0.1), .sl false 3 (List.map cI a0.2.1), .sl true 38 (List.map cL38m1 a0.2.2.1), .sl true 85 (List.map (cL85 true) a0.2.2.2)]) [.one (.lit (.int .i64 a1)), .one (.lit (.int .i64 a2))] = some ((false, [none]), [.sl false 3 (List.map cI r.1)], [.sl false 38 (List.map (cL38 false) r.2.1), .sl false 3 (List.map cI r.2.2.1), .sl true 38 (List.map cL38m1 r.2.2.2.1), .sl true 85 (List.map (cL85 true) r.2.2.2.2)]) := pbcon_at (H := H_spec_l7Part) (arg := arg_spec_l7Part) (p := fun a => rec a.1 a.2.1 a.2.2) (res := res_spec_l7Part) (a := (a0, a1, a2)) (b := r) inj_spec_l7Part h
noncomputable def cal_spec_l7Go (rec : RT_spec_l7Part) (k : Nat) : Cal := calI (tabOf [(41, F_spec_l1Min)]) (inlOf [(74, bI true [some (false, 38), some (false, 3), some (true, 38), some (true, 85)] (R_spec_l7Part rec))])
@[simp] theorem cal_spec_l7Go_ap {rec : RT_spec_l7Part} (k g : Nat) (vs : List TV) (mem : Mem) (ep : Nat) : (cal_spec_l7Go rec) k g vs mem ep = calI (tabOf [(41, F_spec_l1Min)]) (inlOf [(74, bI true [some (false, 38), some (false, 3), some (true, 38), some (true, 85)] (R_spec_l7Part rec))]) g vs mem ep := rfl
theorem ok_spec_l7Go {rec : RT_spec_l7Part} (hrec : HR_spec_l7Part rec) (k : Nat) (w0 : World) (h0 : True) : CalOk Try.prog w0.heap.size w0 ((cal_spec_l7Go rec) k) := by
  exact calI_ok (J := fun _ => True) stab_true (tabOf_ok _ (by simp [fn_spec_l1Min])) (inlOf_ok _ (by simp [(BFn.inst stab_true (fR_spec_l7Part hrec))])) h0
@[simp] def lm_spec_l7Go : Nat → List Nat × Nat := fun b => if b = 2 then ([0, 1, 7, 8, 9, 10], 2) else if b = 2000002 then ([1, 0, 2, 2, 1, 0, 3, 3], 8888888) else if b = 3000002 then ([0, 1, 8, 9], 2) else if b = 0 then ([0, 1, 7, 8], 1) else if b = 2000000 then ([1, 7, 0, 4], 8888888) else if b = 3000000 then ([0, 7], 1) else if b = 4 then ([0, 1, 7, 8, 9, 10, 11, 12], 4) else if b = 2000004 then ([], 8888888) else if b = 3000004 then ([0, 1, 7, 8, 9, 10], 4) else ([], 0)
theorem dr_spec_l7Go_11 : drawn (opsOf (nav [1, 1, 0, 1, 0, 0, 1, 0, 0, 1, 0, 1, 0, 0, 1, 0, 0, 1, 0, 1, 0, 0, 0] (bodyOf Try.f59))) = some ([0, 1, 2, 3, 4, 5, 6, 7, 8, 9, 10, 11, 12, 13, 14, 15, 16, 17, 18, 19, 20], []) := by kernel_rfl
theorem dr_spec_l7Go_12 : drawn (opsOf (nav [1, 1, 0, 1, 0, 0, 1, 0, 0, 1, 0, 1, 0, 0, 1, 0, 0, 1, 0, 1, 0, 0, 1, 0] (bodyOf Try.f59))) = some ([0, 1, 2, 3, 4, 5, 6, 7, 8, 9, 10, 11, 12, 13], [14, 15]) := by kernel_rfl
theorem dr_spec_l7Go_17 : drawn (opsOf (nav [1, 1, 0, 1, 0, 0, 1, 0, 0, 1, 0, 1, 0, 0, 1, 0, 0, 1, 1, 1, 1, 0, 0, 1, 0, 0] (bodyOf Try.f59))) = some ([0, 1, 2, 3, 4, 5, 6, 7, 8, 9, 10, 11, 12, 13, 14, 15, 16], [17, 18]) := by kernel_rfl
@[simp] def arg_spec_l7Go (a : (L3 × LI × L3 × B2) × LI × LI) : List TV := [.one (.sl false 3 (List.map cI a.2.1)), .one (.sl false 3 (List.map cI a.2.2))]
@[simp] def H_spec_l7Go (a : (L3 × LI × L3 × B2) × LI × LI) : List V := [.sl false 38 (List.map (cL38 false) a.1.1), .sl false 3 (List.map cI a.1.2.1), .sl true 38 (List.map cL38m1 a.1.2.2.1), .sl true 85 (List.map (cL85 true) a.1.2.2.2)]
@[simp] def m0_spec_l7Go (a : (L3 × LI × L3 × B2) × LI × LI) : Mem := [none, some (.box 1 [.sl false 38 (List.map (cL38 false) a.1.1), .sl false 3 (List.map cI a.1.2.1), .ow 2 1, .ow 3 1]), some (.rows 1 1 38 (List.map cL38m1 a.1.2.2.1)), some (.rows 1 1 85 (List.map (cL85 true) a.1.2.2.2))]
@[simp] def res_spec_l7Go (r : LI × (L3 × LI × L3 × B2)) : Sh × List V × List V := ((false, [none]), [.sl true 3 (List.map cI r.1)], [.sl false 38 (List.map (cL38 false) r.2.1), .sl false 3 (List.map cI r.2.2.1), .sl true 38 (List.map cL38m1 r.2.2.2.1), .sl true 85 (List.map (cL85 true) r.2.2.2.2)])
def p_spec_l7Go_L4 (rec : RT_spec_l7Part) (a1 : LI) (x8b0 : Int) (x10b2 : Int) (y383 : LI × (L3 × LI × L3 × B2)) (l4b0 : LI) (x12b4 : Int) (l5b4 : LI) : Option LI :=
 if x12b4 ≤ (y383.2.2.1.length : Int) then
  if 0 ≤ x12b4 then
   l5b4[x12b4.toNat]? >>= fun y415 =>
   if 0 ≤ x10b2 then
    l4b0[x10b2.toNat]? >>= fun y419 =>
    y383.1[x12b4.toNat]? >>= fun y422 =>
    p_spec_l1Min (IntKind.wrap .i64 (y415 + (IntKind.wrap .i64 (y419 * y422)))) 1000 >>= fun y425 =>
    some (List.set l5b4 x12b4.toNat y425) >>= fun l426 =>
    p_spec_l7Go_L4 rec a1 x8b0 x10b2 y383 l4b0 (IntKind.wrap .i64 (x12b4 + 1)) l426
   else none
  else none
 else
  some l5b4
partial_fixpoint
@[simp] noncomputable def L_spec_l7Go_L4 : Code := nav [1, 1, 0, 1, 0, 0, 1, 0, 0, 1, 0, 1, 0, 0, 1, 0, 0, 1, 1, 1, 1, 0, 0] (bodyOf Try.f59)
@[simp] def T_spec_l7Go_L4 (a1 : LI) (x8b0 : Int) (x10b2 : Int) (y383 : LI × (L3 × LI × L3 × B2)) (l4b0 : LI) (x12b4 : Int) (l5b4 : LI) (st : Nat → Nat) : St := ⟨[(0, .one (.bp 1 1 0)), (1, .one (.sl false 3 (List.map cI a1))), (7, .one (.ow 4 (st 1))), (8, .one (.lit (.int .i64 x8b0))), (9, .one (.ow 5 (st 2))), (10, .one (.lit (.int .i64 x10b2))), (11, .one (.sl false 3 (List.map cI y383.1))), (12, .one (.lit (.int .i64 x12b4)))], [none, some (.box 1 [.sl false 38 (List.map (cL38 false) y383.2.1), .sl false 3 (List.map cI y383.2.2.1), .ow 6 (st 3), .ow 7 (st 3)]), none, none, some (.rows (st 1) (st 1) 3 (List.map cI l4b0)), some (.rows (st 2) (st 2) 3 (List.map cI l5b4)), some (.rows (st 3) (st 3) 38 (List.map cL38m1 y383.2.2.2.1)), some (.rows (st 3) (st 3) 85 (List.map (cL85 true) y383.2.2.2.2))], (st 0)⟩
@[simp] def U_spec_l7Go_L4 (a1 : LI) (x8b0 : Int) (x10b2 : Int) (y383 : LI × (L3 × LI × L3 × B2)) (l4b0 : LI) (o : LI) (st : Nat → Nat) : St := ⟨[(0, .one (.bp 1 1 0)), (1, .one (.sl false 3 (List.map cI a1))), (7, .one (.ow 4 (st 1))), (8, .one (.lit (.int .i64 x8b0))), (9, .one (.ow 5 (st 2))), (10, .one (.lit (.int .i64 x10b2)))], [none, some (.box 1 [.sl false 38 (List.map (cL38 false) y383.2.1), .sl false 3 (List.map cI y383.2.2.1), .ow 6 (st 3), .ow 7 (st 3)]), none, none, some (.rows (st 1) (st 1) 3 (List.map cI l4b0)), some (.rows (st 2) (st 2) 3 (List.map cI o)), some (.rows (st 3) (st 3) 38 (List.map cL38m1 y383.2.2.2.1)), some (.rows (st 3) (st 3) 85 (List.map (cL85 true) y383.2.2.2.2))], (st 0)⟩
abbrev Q_spec_l7Go_L4 (rec : RT_spec_l7Part) (a1 : LI) (x8b0 : Int) (x10b2 : Int) (y383 : LI × (L3 × LI × L3 × B2)) (l4b0 : LI) (x12b4 : Int) (l5b4 : LI) (o : LI) : Prop := ∀ st : Nat → Nat, LoopG Try.prog (cal_spec_l7Go rec) 4 lm_spec_l7Go 4 L_spec_l7Go_L4 (U_spec_l7Go_L4 a1 x8b0 x10b2 y383 l4b0) (T_spec_l7Go_L4 a1 x8b0 x10b2 y383 l4b0 x12b4 l5b4 st) o
theorem l_spec_l7Go_L4 {rec : RT_spec_l7Part} {a1 : LI} {x8b0 : Int} {x10b2 : Int} {y383 : LI × (L3 × LI × L3 × B2)} {l4b0 : LI} {x12b4 : Int} {l5b4 : LI} {o : LI} (h : p_spec_l7Go_L4 rec a1 x8b0 x10b2 y383 l4b0 x12b4 l5b4 = some o) : Q_spec_l7Go_L4 rec a1 x8b0 x10b2 y383 l4b0 x12b4 l5b4 o := by
  refine p_spec_l7Go_L4.partial_correctness rec a1 x8b0 x10b2 y383 l4b0 (motive := fun x12b4 l5b4 o => Q_spec_l7Go_L4 rec a1 x8b0 x10b2 y383 l4b0 x12b4 l5b4 o) ?_ x12b4 l5b4 o h
  clear h o x12b4 l5b4
  intro p' ih x12b4 l5b4 r h st
  rcases ifc h with ⟨h413, h⟩ | ⟨h413, h⟩
  · obtain ⟨h414, h⟩ := ifg h
    obtain ⟨y415, h416, h⟩ := bd h
    have h416b := (List.getElem?_eq_some_iff.1 h416).1
    obtain ⟨h418, h⟩ := ifg h
    obtain ⟨y419, h420, h⟩ := bd h
    have h420b := (List.getElem?_eq_some_iff.1 h420).1
    obtain ⟨y422, h423, h⟩ := bd h
    obtain ⟨y425, h424, h⟩ := bd h
    have h424c := c_spec_l1Min h424
    try simp (implicitDefEqProofs := false) [-getElem?_pos, -getElem?_neg] at h424c
    obtain ⟨l426, h427, h⟩ := bd h
    have h427r : (List.map cI l5b4).set x12b4.toNat [.lit (.int .i64 y425)] = List.map cI l426 := by rw [← Option.some.inj h427]; simp
    refine LoopG.step 0 (fun k hk => ?_) (ih _ _ _ h (sl [((st 0) + 1), (st 1), (st 2), (st 3)]))
    have hd_spec_l7Go_17 := dr_spec_l7Go_17
    simp only [opsOf, nav, bodyOf, Try.f59, Option.getD_some] at hd_spec_l7Go_17
    simp (implicitDefEqProofs := false) [-getElem?_pos, -getElem?_neg, Try.f59, h413, ex_draw2 _ _ hd_spec_l7Go_17, h414, h416, h416b, h418, h420, h420b, h423, h424c, h427r]
  obtain rfl := Option.some.inj h
  exact LoopG.exit (sl [(st 0), (st 1), (st 2), (st 3)]) 0 (fun k hk => by simp (implicitDefEqProofs := false) [-getElem?_pos, -getElem?_neg, Try.f59, h413])
def p_spec_l7Go_L2 (rec : RT_spec_l7Part) (a1 : LI) (x8b0 : Int) (l4b0 : LI) (x10b2 : Int) (b1_0b2 : L3) (b1_1b2 : LI) (l2b2 : L3) (l3b2 : B2) (l5b2 : LI) : Option (L3 × LI × L3 × B2 × LI) :=
 if x10b2 ≤ (b1_1b2.length : Int) then
  if 0 ≤ x10b2 then
   l4b0[x10b2.toNat]? >>= fun y361 =>
   if y361 = 0 then
    p_spec_l7Go_L2 rec a1 x8b0 l4b0 (IntKind.wrap .i64 (x10b2 + 1)) b1_0b2 b1_1b2 l2b2 l3b2 l5b2
   else
    if 0 ≤ x8b0 then
     a1[x8b0.toNat]? >>= fun y366 =>
     if y366 < 100 then
      if x10b2 < (b1_1b2.length : Int) then
       b1_1b2[x10b2.toNat]? >>= fun y370 =>
       if y370 = y366 then
        if 0 ≤ (IntKind.wrap .i64 (x10b2 + 1)) then
         l5b2[(IntKind.wrap .i64 (x10b2 + 1)).toNat]? >>= fun y374 =>
         p_spec_l1Min (IntKind.wrap .i64 (y374 + y361)) 1000 >>= fun y379 =>
         some (List.set l5b2 ((IntKind.wrap .i64 (x10b2 + 1)).toNat) y379) >>= fun l380 =>
         p_spec_l7Go_L2 rec a1 x8b0 l4b0 (IntKind.wrap .i64 (x10b2 + 1)) b1_0b2 b1_1b2 l2b2 l3b2 l380
        else none
       else
        p_spec_l7Go_L2 rec a1 x8b0 l4b0 (IntKind.wrap .i64 (x10b2 + 1)) b1_0b2 b1_1b2 l2b2 l3b2 l5b2
      else
       p_spec_l7Go_L2 rec a1 x8b0 l4b0 (IntKind.wrap .i64 (x10b2 + 1)) b1_0b2 b1_1b2 l2b2 l3b2 l5b2
     else
      rec (b1_0b2, b1_1b2, l2b2, l3b2) (IntKind.wrap .i64 (y366 - 100)) x10b2 >>= fun y383 =>
      p_spec_l7Go_L4 rec a1 x8b0 x10b2 y383 l4b0 x10b2 l5b2 >>= fun o429 =>
      p_spec_l7Go_L2 rec a1 x8b0 l4b0 (IntKind.wrap .i64 (x10b2 + 1)) y383.2.1 y383.2.2.1 y383.2.2.2.1 y383.2.2.2.2 o429
    else none
  else none
 else
  some (b1_0b2, b1_1b2, l2b2, l3b2, l5b2)
partial_fixpoint
@[simp] noncomputable def L_spec_l7Go_L2 : Code := nav [1, 1, 0, 1, 0, 0, 1, 0, 0, 1, 0, 1, 0, 0] (bodyOf Try.f59)
@[simp] def T_spec_l7Go_L2 (a1 : LI) (x8b0 : Int) (l4b0 : LI) (x10b2 : Int) (b1_0b2 : L3) (b1_1b2 : LI) (l2b2 : L3) (l3b2 : B2) (l5b2 : LI) (st : Nat → Nat) : St := ⟨[(0, .one (.bp 1 1 0)), (1, .one (.sl false 3 (List.map cI a1))), (7, .one (.ow 4 (st 1))), (8, .one (.lit (.int .i64 x8b0))), (9, .one (.ow 5 (st 2))), (10, .one (.lit (.int .i64 x10b2)))], [none, some (.box 1 [.sl false 38 (List.map (cL38 false) b1_0b2), .sl false 3 (List.map cI b1_1b2), .ow 2 (st 3), .ow 3 (st 4)]), some (.rows (st 3) (st 3) 38 (List.map cL38m1 l2b2)), some (.rows (st 4) (st 4) 85 (List.map (cL85 true) l3b2)), some (.rows (st 1) (st 1) 3 (List.map cI l4b0)), some (.rows (st 2) (st 2) 3 (List.map cI l5b2))], (st 0)⟩
@[simp] def U_spec_l7Go_L2 (a1 : LI) (x8b0 : Int) (l4b0 : LI) (o : L3 × LI × L3 × B2 × LI) (st : Nat → Nat) : St := ⟨[(0, .one (.bp 1 1 0)), (1, .one (.sl false 3 (List.map cI a1))), (8, .one (.lit (.int .i64 x8b0))), (9, .one (.ow 5 (st 1)))], [none, some (.box 1 [.sl false 38 (List.map (cL38 false) o.1), .sl false 3 (List.map cI o.2.1), .ow 2 (st 2), .ow 3 (st 3)]), some (.rows (st 2) (st 2) 38 (List.map cL38m1 o.2.2.1)), some (.rows (st 3) (st 3) 85 (List.map (cL85 true) o.2.2.2.1)), some (.rows (st 4) (st 4) 3 (List.map cI l4b0)), some (.rows (st 1) (st 1) 3 (List.map cI o.2.2.2.2))], (st 0)⟩
abbrev Q_spec_l7Go_L2 (rec : RT_spec_l7Part) (a1 : LI) (x8b0 : Int) (l4b0 : LI) (x10b2 : Int) (b1_0b2 : L3) (b1_1b2 : LI) (l2b2 : L3) (l3b2 : B2) (l5b2 : LI) (o : L3 × LI × L3 × B2 × LI) : Prop := ∀ st : Nat → Nat, LoopG Try.prog (cal_spec_l7Go rec) 4 lm_spec_l7Go 2 L_spec_l7Go_L2 (U_spec_l7Go_L2 a1 x8b0 l4b0) (T_spec_l7Go_L2 a1 x8b0 l4b0 x10b2 b1_0b2 b1_1b2 l2b2 l3b2 l5b2 st) o
theorem l_spec_l7Go_L2 {rec : RT_spec_l7Part} {a1 : LI} {x8b0 : Int} {l4b0 : LI} {x10b2 : Int} {b1_0b2 : L3} {b1_1b2 : LI} {l2b2 : L3} {l3b2 : B2} {l5b2 : LI} {o : L3 × LI × L3 × B2 × LI} (h : p_spec_l7Go_L2 rec a1 x8b0 l4b0 x10b2 b1_0b2 b1_1b2 l2b2 l3b2 l5b2 = some o) : Q_spec_l7Go_L2 rec a1 x8b0 l4b0 x10b2 b1_0b2 b1_1b2 l2b2 l3b2 l5b2 o := by
  refine p_spec_l7Go_L2.partial_correctness rec a1 x8b0 l4b0 (motive := fun x10b2 b1_0b2 b1_1b2 l2b2 l3b2 l5b2 o => Q_spec_l7Go_L2 rec a1 x8b0 l4b0 x10b2 b1_0b2 b1_1b2 l2b2 l3b2 l5b2 o) ?_ x10b2 b1_0b2 b1_1b2 l2b2 l3b2 l5b2 o h
  clear h o x10b2 b1_0b2 b1_1b2 l2b2 l3b2 l5b2
  intro p' ih x10b2 b1_0b2 b1_1b2 l2b2 l3b2 l5b2 r h st
  rcases ifc h with ⟨h359, h⟩ | ⟨h359, h⟩
  · obtain ⟨h360, h⟩ := ifg h
    obtain ⟨y361, h362, h⟩ := bd h
    have h362b := (List.getElem?_eq_some_iff.1 h362).1
    rcases ifc h with ⟨h364, h⟩ | ⟨h364, h⟩
    · exact LoopG.step 0 (fun k hk => by simp (implicitDefEqProofs := false) [-getElem?_pos, -getElem?_neg, Try.f59, h359, h360, h362, h362b, (eq_true h364)]) (ih _ _ _ _ _ _ _ h (sl [((st 0) + 2), (st 1), (st 2), (st 0), ((st 0) + 1)]))
    obtain ⟨h365, h⟩ := ifg h
    obtain ⟨y366, h367, h⟩ := bd h
    rcases ifc h with ⟨h368, h⟩ | ⟨h368, h⟩
    · rcases ifc h with ⟨h369, h⟩ | ⟨h369, h⟩
      · obtain ⟨y370, h371, h⟩ := bd h
        rcases ifc h with ⟨h372, h⟩ | ⟨h372, h⟩
        · obtain ⟨h373, h⟩ := ifg h
          obtain ⟨y374, h375, h⟩ := bd h
          have h375b := (List.getElem?_eq_some_iff.1 h375).1
          obtain ⟨y379, h378, h⟩ := bd h
          have h378c := c_spec_l1Min h378
          try simp (implicitDefEqProofs := false) [-getElem?_pos, -getElem?_neg] at h378c
          obtain ⟨l380, h381, h⟩ := bd h
          have h381r : (List.map cI l5b2).set ((IntKind.wrap .i64 (x10b2 + 1)).toNat) [.lit (.int .i64 y379)] = List.map cI l380 := by rw [← Option.some.inj h381]; simp
          refine LoopG.step 0 (fun k hk => ?_) (ih _ _ _ _ _ _ _ h (sl [((st 0) + 3), (st 1), (st 2), ((st 0) + 1), ((st 0) + 2)]))
          have hd_spec_l7Go_11 := dr_spec_l7Go_11
          simp only [opsOf, nav, bodyOf, Try.f59, Option.getD_some] at hd_spec_l7Go_11
          have hd_spec_l7Go_12 := dr_spec_l7Go_12
          simp only [opsOf, nav, bodyOf, Try.f59, Option.getD_some] at hd_spec_l7Go_12
          simp (implicitDefEqProofs := false) [-getElem?_pos, -getElem?_neg, Try.f59, h359, h360, h362, h362b, h364, h365, h367, h368, ex_draw2 _ _ hd_spec_l7Go_11, h369, h371, (eq_true h372), ex_draw2 _ _ hd_spec_l7Go_12, h373, h375, h375b, h378c, h381r]
        refine LoopG.step 0 (fun k hk => ?_) (ih _ _ _ _ _ _ _ h (sl [((st 0) + 2), (st 1), (st 2), (st 0), ((st 0) + 1)]))
        have hd_spec_l7Go_11 := dr_spec_l7Go_11
        simp only [opsOf, nav, bodyOf, Try.f59, Option.getD_some] at hd_spec_l7Go_11
        simp (implicitDefEqProofs := false) [-getElem?_pos, -getElem?_neg, Try.f59, h359, h360, h362, h362b, h364, h365, h367, h368, ex_draw2 _ _ hd_spec_l7Go_11, h369, h371, h372]
      refine LoopG.step 0 (fun k hk => ?_) (ih _ _ _ _ _ _ _ h (sl [((st 0) + 2), (st 1), (st 2), (st 0), ((st 0) + 1)]))
      have hd_spec_l7Go_11 := dr_spec_l7Go_11
      simp only [opsOf, nav, bodyOf, Try.f59, Option.getD_some] at hd_spec_l7Go_11
      simp (implicitDefEqProofs := false) [-getElem?_pos, -getElem?_neg, Try.f59, h359, h360, h362, h362b, h364, h365, h367, h368, ex_draw2 _ _ hd_spec_l7Go_11, h369]
    obtain ⟨y383, h382, h⟩ := bd h
    have h382c := cR_spec_l7Part h382
    obtain ⟨o429, h428, h⟩ := bd h
    have qK430 := l_spec_l7Go_L4 h428 (sl [((st 0) + 3), (st 1), (st 2), (st 0)])
    obtain ⟨s431, K430, qK430⟩ := qK430
    refine LoopG.step K430 (fun k hk => ?_) (ih _ _ _ _ _ _ _ h (sl [((s431 0) + 2), (s431 1), (s431 2), (s431 0), ((s431 0) + 1)]))
    have jK430 := qK430 k (by omega) k (by omega)
    simp (implicitDefEqProofs := false) [-getElem?_pos, -getElem?_neg, Try.f59, h359, h360, h362, h362b, h364, h365, h367, h368, h382c] at jK430
    simp (implicitDefEqProofs := false) [-getElem?_pos, -getElem?_neg, Try.f59, h359, h360, h362, h362b, h364, h365, h367, h368, h382c, jK430]
  obtain rfl := Option.some.inj h
  exact LoopG.exit (sl [(st 0), (st 2), (st 3), (st 4), (st 1)]) 0 (fun k hk => by simp (implicitDefEqProofs := false) [-getElem?_pos, -getElem?_neg, Try.f59, h359])
def p_spec_l7Go_L0 (rec : RT_spec_l7Part) (a1 : LI) (x8b0 : Int) (b1_0b0 : L3) (b1_1b0 : LI) (l2b0 : L3) (l3b0 : B2) (l4b0 : LI) : Option (L3 × LI × L3 × B2 × LI) :=
 if x8b0 < (a1.length : Int) then
  if 0 ≤ (IntKind.wrap .i64 ((b1_1b0.length : Int) + 1)) then
   if (IntKind.wrap .i64 ((b1_1b0.length : Int) + 1)).toNat * 8 ≤ 140737488355328 then
    some (List.replicate ((IntKind.wrap .i64 ((b1_1b0.length : Int) + 1)).toNat) 0) >>= fun l245 =>
    p_spec_l7Go_L2 rec a1 x8b0 l4b0 0 b1_0b0 b1_1b0 l2b0 l3b0 l245 >>= fun o433 =>
    p_spec_l7Go_L0 rec a1 (IntKind.wrap .i64 (x8b0 + 1)) o433.1 o433.2.1 o433.2.2.1 o433.2.2.2.1 o433.2.2.2.2
   else none
  else none
 else
  some (b1_0b0, b1_1b0, l2b0, l3b0, l4b0)
partial_fixpoint
@[simp] noncomputable def L_spec_l7Go_L0 : Code := nav [1, 1, 0, 1, 0, 0] (bodyOf Try.f59)
@[simp] def T_spec_l7Go_L0 (a1 : LI) (x8b0 : Int) (b1_0b0 : L3) (b1_1b0 : LI) (l2b0 : L3) (l3b0 : B2) (l4b0 : LI) (st : Nat → Nat) : St := ⟨[(0, .one (.bp 1 1 0)), (1, .one (.sl false 3 (List.map cI a1))), (7, .one (.ow 4 (st 1))), (8, .one (.lit (.int .i64 x8b0)))], [none, some (.box 1 [.sl false 38 (List.map (cL38 false) b1_0b0), .sl false 3 (List.map cI b1_1b0), .ow 2 (st 2), .ow 3 (st 3)]), some (.rows (st 2) (st 2) 38 (List.map cL38m1 l2b0)), some (.rows (st 3) (st 3) 85 (List.map (cL85 true) l3b0)), some (.rows (st 1) (st 1) 3 (List.map cI l4b0))], (st 0)⟩
@[simp] def U_spec_l7Go_L0 (a1 : LI) (o : L3 × LI × L3 × B2 × LI) (st : Nat → Nat) : St := ⟨[(0, .one (.bp 1 1 0)), (7, .one (.ow 4 (st 1)))], [none, some (.box 1 [.sl false 38 (List.map (cL38 false) o.1), .sl false 3 (List.map cI o.2.1), .ow 2 (st 2), .ow 3 (st 3)]), some (.rows (st 2) (st 2) 38 (List.map cL38m1 o.2.2.1)), some (.rows (st 3) (st 3) 85 (List.map (cL85 true) o.2.2.2.1)), some (.rows (st 1) (st 1) 3 (List.map cI o.2.2.2.2))], (st 0)⟩
abbrev Q_spec_l7Go_L0 (rec : RT_spec_l7Part) (a1 : LI) (x8b0 : Int) (b1_0b0 : L3) (b1_1b0 : LI) (l2b0 : L3) (l3b0 : B2) (l4b0 : LI) (o : L3 × LI × L3 × B2 × LI) : Prop := ∀ st : Nat → Nat, LoopG Try.prog (cal_spec_l7Go rec) 4 lm_spec_l7Go 0 L_spec_l7Go_L0 (U_spec_l7Go_L0 a1) (T_spec_l7Go_L0 a1 x8b0 b1_0b0 b1_1b0 l2b0 l3b0 l4b0 st) o
theorem l_spec_l7Go_L0 {rec : RT_spec_l7Part} {a1 : LI} {x8b0 : Int} {b1_0b0 : L3} {b1_1b0 : LI} {l2b0 : L3} {l3b0 : B2} {l4b0 : LI} {o : L3 × LI × L3 × B2 × LI} (h : p_spec_l7Go_L0 rec a1 x8b0 b1_0b0 b1_1b0 l2b0 l3b0 l4b0 = some o) : Q_spec_l7Go_L0 rec a1 x8b0 b1_0b0 b1_1b0 l2b0 l3b0 l4b0 o := by
  refine p_spec_l7Go_L0.partial_correctness rec a1 (motive := fun x8b0 b1_0b0 b1_1b0 l2b0 l3b0 l4b0 o => Q_spec_l7Go_L0 rec a1 x8b0 b1_0b0 b1_1b0 l2b0 l3b0 l4b0 o) ?_ x8b0 b1_0b0 b1_1b0 l2b0 l3b0 l4b0 o h
  clear h o x8b0 b1_0b0 b1_1b0 l2b0 l3b0 l4b0
  intro p' ih x8b0 b1_0b0 b1_1b0 l2b0 l3b0 l4b0 r h st
  rcases ifc h with ⟨h242, h⟩ | ⟨h242, h⟩
  · obtain ⟨h243, h⟩ := ifg h
    obtain ⟨h244, h⟩ := ifg h
    have h244b : (IntKind.wrap .i64 ((b1_1b0.length : Int) + 1)).toNat ≤ 9223372036854775807 := by omega
    obtain ⟨l245, h246, h⟩ := bd h
    have h246r : List.replicate ((IntKind.wrap .i64 ((b1_1b0.length : Int) + 1)).toNat) [.lit (.int .i64 0)] = List.map cI l245 := by rw [← Option.some.inj h246]; simp
    obtain ⟨o433, h432, h⟩ := bd h
    have qK434 := l_spec_l7Go_L2 h432 (sl [((st 0) + 3), (st 1), (st 0), ((st 0) + 1), ((st 0) + 2)])
    obtain ⟨s435, K434, qK434⟩ := qK434
    refine LoopG.step K434 (fun k hk => ?_) (ih _ _ _ _ _ _ _ h (sl [((s435 0) + 1), (s435 0), (s435 2), (s435 3)]))
    have jK434 := qK434 k (by omega) k (by omega)
    simp (implicitDefEqProofs := false) [-getElem?_pos, -getElem?_neg, Try.f59, h242, h243, h244, h244b, h246r] at jK434
    simp (implicitDefEqProofs := false) [-getElem?_pos, -getElem?_neg, Try.f59, h242, h243, h244, h244b, h246r, jK434]
  obtain rfl := Option.some.inj h
  exact LoopG.exit (sl [(st 0), (st 1), (st 2), (st 3)]) 0 (fun k hk => by simp (implicitDefEqProofs := false) [-getElem?_pos, -getElem?_neg, Try.f59, h242])
def p_spec_l7Go (rec : RT_spec_l7Part) (a0 : L3 × LI × L3 × B2) (a1 : LI) (a2 : LI) : Option (LI × (L3 × LI × L3 × B2)) :=
 if a2.length * 8 ≤ 140737488355328 then
  p_spec_l7Go_L0 rec a1 0 a0.1 a0.2.1 a0.2.2.1 a0.2.2.2 a2 >>= fun o437 =>
  some (o437.2.2.2.2, (o437.1, o437.2.1, o437.2.2.1, o437.2.2.2.1))
 else none
theorem t_spec_l7Go {rec : RT_spec_l7Part} {a0 : L3 × LI × L3 × B2} {a1 : LI} {a2 : LI} {r : LI × (L3 × LI × L3 × B2)} (h : p_spec_l7Go rec a0 a1 a2 = some r) : ∃ k, toldB Try.prog ((cal_spec_l7Go rec) k) k lm_spec_l7Go Try.f59 true (.bp 1 1 0) (m0_spec_l7Go (a0, a1, a2)) (arg_spec_l7Go (a0, a1, a2)) = some (res_spec_l7Go r) := by
  unfold p_spec_l7Go at h
  obtain ⟨h1, h⟩ := ifg h
  obtain ⟨o437, h436, h⟩ := bd h
  have qK438 := l_spec_l7Go_L0 h436 (sl [5, 4, 1, 1])
  obtain ⟨s439, K438, qK438⟩ := qK438
  obtain rfl := Option.some.inj h
  obtain ⟨k, hk⟩ : ∃ k, K438 ≤ k := ⟨_, Nat.le_refl _⟩
  have jK438 := qK438 k (by omega) k (by omega)
  simp (implicitDefEqProofs := false) [-getElem?_pos, -getElem?_neg, Try.f59, h1] at jK438
  refine ⟨k, ?_⟩
  simp (implicitDefEqProofs := false) [-getElem?_pos, -getElem?_neg, Try.f59, h1, jK438]
theorem inj_spec_l7Go : ∀ a b, H_spec_l7Go a = H_spec_l7Go b → arg_spec_l7Go a = arg_spec_l7Go b → a = b := by
  rintro ⟨x0, x1, x2⟩ ⟨y0, y1, y2⟩ h1 h2; simp [arg_spec_l7Go] at h2; simp [H_spec_l7Go] at h1; simp [Prod.ext_iff, h1, h2]
noncomputable def F_spec_l7Go (rec : RT_spec_l7Part) : BCon := pbcon H_spec_l7Go arg_spec_l7Go (fun a => p_spec_l7Go rec a.1 a.2.1 a.2.2) res_spec_l7Go
theorem fn_spec_l7Go {rec : RT_spec_l7Part} (hrec : HR_spec_l7Part rec) : BFn Try.prog 59 true (F_spec_l7Go rec) := BFn.pure (cal_spec_l7Go rec) (fun k w0 h0 => ok_spec_l7Go hrec k w0 h0) mixed Try.func59 rfl rfl (by kernel_rfl) 3 (by decide) (fun _ => rfl) lm_spec_l7Go (fun _ => .bp 1 1 0) m0_spec_l7Go (fun _ => rfl) (fun a b h => t_spec_l7Go h)
theorem c_spec_l7Go {rec : RT_spec_l7Part} {a0 : L3 × LI × L3 × B2} {a1 : LI} {a2 : LI} {r : LI × (L3 × LI × L3 × B2)} (h : p_spec_l7Go rec a0 a1 a2 = some r) : (F_spec_l7Go rec) [.sl false 38 (List.map (cL38 false) a0.1), .sl false 3 (List.map cI a0.2.1), .sl true 38 (List.map cL38m1 a0.2.2.1), .sl true 85 (List.map (cL85 true) a0.2.2.2)] [.one (.sl false 3 (List.map cI a1)), .one (.sl false 3 (List.map cI a2))] = some ((false, [none]), [.sl true 3 (List.map cI r.1)], [.sl false 38 (List.map (cL38 false) r.2.1), .sl false 3 (List.map cI r.2.2.1), .sl true 38 (List.map cL38m1 r.2.2.2.1), .sl true 85 (List.map (cL85 true) r.2.2.2.2)]) := pbcon_at (H := H_spec_l7Go) (arg := arg_spec_l7Go) (p := fun a => p_spec_l7Go rec a.1 a.2.1 a.2.2) (res := res_spec_l7Go) (a := (a0, a1, a2)) (b := r) inj_spec_l7Go h
noncomputable def cal_spec_l7Partb (rec : RT_spec_l7Part) (k : Nat) : Cal := calI (tabOf [(41, F_spec_l1Min), (60, F_spec_l7At)]) (inlOf [(59, shI (bI true [some (false, 38), some (false, 3), some (true, 38), some (true, 85)] (F_spec_l7Go rec)))])
@[simp] theorem cal_spec_l7Partb_ap {rec : RT_spec_l7Part} (k g : Nat) (vs : List TV) (mem : Mem) (ep : Nat) : (cal_spec_l7Partb rec) k g vs mem ep = calI (tabOf [(41, F_spec_l1Min), (60, F_spec_l7At)]) (inlOf [(59, shI (bI true [some (false, 38), some (false, 3), some (true, 38), some (true, 85)] (F_spec_l7Go rec)))]) g vs mem ep := rfl
theorem ok_spec_l7Partb {rec : RT_spec_l7Part} (hrec : HR_spec_l7Part rec) (k : Nat) (w0 : World) (h0 : True) : CalOk Try.prog w0.heap.size w0 ((cal_spec_l7Partb rec) k) := by
  exact calI_ok (J := fun _ => True) stab_true (tabOf_ok _ (by simp [fn_spec_l1Min, fn_spec_l7At])) (inlOf_ok _ (by simp [(IFn.share (BFn.inst stab_true (fn_spec_l7Go hrec)))])) h0
@[simp] def lm_spec_l7Partb : Nat → List Nat × Nat := fun b => if b = 0 then ([0, 1, 2, 7, 8], 1) else if b = 2000000 then ([1, 0, 2, 2, 1, 0, 3, 3], 8888888) else if b = 3000000 then ([0, 1, 2, 7], 1) else if b = 4000000 then ([2, 7, 0, 0], 8888888) else if b = 2 then ([0, 1, 2, 7, 8, 9, 10], 5) else if b = 2000002 then ([], 8888888) else if b = 3000002 then ([0, 1, 2, 7, 8], 5) else ([], 0)
theorem dr_spec_l7Partb_7 : drawn (opsOf (nav [1, 1, 1, 0, 1, 0, 0, 1, 0, 0, 0] (bodyOf Try.f74))) = some ([0, 1, 2, 3, 4, 5, 6, 7, 8, 9, 10, 11, 12, 13, 14], [15, 16]) := by kernel_rfl
theorem dr_spec_l7Partb_11 : drawn (opsOf (nav [1, 1, 1, 0, 1, 0, 0, 1, 0, 0, 1, 1, 0, 0, 1, 0, 0] (bodyOf Try.f74))) = some ([0, 1, 2, 3, 4, 5, 6, 7, 8, 9, 10, 11], [12, 13]) := by kernel_rfl
@[simp] def arg_spec_l7Partb (a : (L3 × LI × L3 × B2) × Int × Int) : List TV := [.one (.lit (.int .i64 a.2.1)), .one (.lit (.int .i64 a.2.2))]
@[simp] def H_spec_l7Partb (a : (L3 × LI × L3 × B2) × Int × Int) : List V := [.sl false 38 (List.map (cL38 false) a.1.1), .sl false 3 (List.map cI a.1.2.1), .sl true 38 (List.map cL38m1 a.1.2.2.1), .sl true 85 (List.map (cL85 true) a.1.2.2.2)]
@[simp] def m0_spec_l7Partb (a : (L3 × LI × L3 × B2) × Int × Int) : Mem := [none, some (.box 1 [.sl false 38 (List.map (cL38 false) a.1.1), .sl false 3 (List.map cI a.1.2.1), .ow 2 1, .ow 3 1]), some (.rows 1 1 38 (List.map cL38m1 a.1.2.2.1)), some (.rows 1 1 85 (List.map (cL85 true) a.1.2.2.2))]
@[simp] def res_spec_l7Partb (r : LI × (L3 × LI × L3 × B2)) : Sh × List V × List V := ((false, [none]), [.sl false 3 (List.map cI r.1)], [.sl false 38 (List.map (cL38 false) r.2.1), .sl false 3 (List.map cI r.2.2.1), .sl true 38 (List.map cL38m1 r.2.2.2.1), .sl true 85 (List.map (cL85 true) r.2.2.2.2)])
def p_spec_l7Partb_L2 (rec : RT_spec_l7Part) (a1 : Int) (a2 : Int) (x8b0 : Int) (y103 : LI × (L3 × LI × L3 × B2)) (x10b2 : Int) (l4b2 : LI) : Option LI :=
 if x10b2 ≤ (y103.2.2.1.length : Int) then
  if 0 ≤ x10b2 then
   l4b2[x10b2.toNat]? >>= fun y129 =>
   y103.1[x10b2.toNat]? >>= fun y132 =>
   p_spec_l1Min (IntKind.wrap .i64 (y129 + y132)) 1000 >>= fun y136 =>
   some (List.set l4b2 x10b2.toNat y136) >>= fun l137 =>
   p_spec_l7Partb_L2 rec a1 a2 x8b0 y103 (IntKind.wrap .i64 (x10b2 + 1)) l137
  else none
 else
  some l4b2
partial_fixpoint
@[simp] noncomputable def L_spec_l7Partb_L2 : Code := nav [1, 1, 1, 0, 1, 0, 0, 1, 0, 0, 1, 1, 0, 0] (bodyOf Try.f74)
@[simp] def T_spec_l7Partb_L2 (a1 : Int) (a2 : Int) (x8b0 : Int) (y103 : LI × (L3 × LI × L3 × B2)) (x10b2 : Int) (l4b2 : LI) (st : Nat → Nat) : St := ⟨[(0, .one (.bp 1 1 0)), (1, .one (.lit (.int .i64 a1))), (2, .one (.lit (.int .i64 a2))), (7, .one (.ow 4 2)), (8, .one (.lit (.int .i64 x8b0))), (9, .one (.ow 6 (st 1))), (10, .one (.lit (.int .i64 x10b2)))], [none, some (.box 1 [.sl false 38 (List.map (cL38 false) y103.2.1), .sl false 3 (List.map cI y103.2.2.1), .ow 7 (st 1), .ow 8 (st 1)]), none, none, some (.rows 2 2 3 (List.map cI l4b2)), none, some (.rows (st 1) (st 1) 3 (List.map cI y103.1)), some (.rows (st 1) (st 1) 38 (List.map cL38m1 y103.2.2.2.1)), some (.rows (st 1) (st 1) 85 (List.map (cL85 true) y103.2.2.2.2))], (st 0)⟩
@[simp] def U_spec_l7Partb_L2 (a1 : Int) (a2 : Int) (x8b0 : Int) (y103 : LI × (L3 × LI × L3 × B2)) (o : LI) (st : Nat → Nat) : St := ⟨[(0, .one (.bp 1 1 0)), (1, .one (.lit (.int .i64 a1))), (2, .one (.lit (.int .i64 a2))), (7, .one (.ow 4 2)), (8, .one (.lit (.int .i64 x8b0)))], [none, some (.box 1 [.sl false 38 (List.map (cL38 false) y103.2.1), .sl false 3 (List.map cI y103.2.2.1), .ow 7 (st 1), .ow 8 (st 1)]), none, none, some (.rows 2 2 3 (List.map cI o)), none, some (.rows (st 1) (st 1) 3 (List.map cI y103.1)), some (.rows (st 1) (st 1) 38 (List.map cL38m1 y103.2.2.2.1)), some (.rows (st 1) (st 1) 85 (List.map (cL85 true) y103.2.2.2.2))], (st 0)⟩
abbrev Q_spec_l7Partb_L2 (rec : RT_spec_l7Part) (a1 : Int) (a2 : Int) (x8b0 : Int) (y103 : LI × (L3 × LI × L3 × B2)) (x10b2 : Int) (l4b2 : LI) (o : LI) : Prop := ∀ st : Nat → Nat, LoopG Try.prog (cal_spec_l7Partb rec) 4 lm_spec_l7Partb 2 L_spec_l7Partb_L2 (U_spec_l7Partb_L2 a1 a2 x8b0 y103) (T_spec_l7Partb_L2 a1 a2 x8b0 y103 x10b2 l4b2 st) o
theorem l_spec_l7Partb_L2 {rec : RT_spec_l7Part} {a1 : Int} {a2 : Int} {x8b0 : Int} {y103 : LI × (L3 × LI × L3 × B2)} {x10b2 : Int} {l4b2 : LI} {o : LI} (h : p_spec_l7Partb_L2 rec a1 a2 x8b0 y103 x10b2 l4b2 = some o) : Q_spec_l7Partb_L2 rec a1 a2 x8b0 y103 x10b2 l4b2 o := by
  refine p_spec_l7Partb_L2.partial_correctness rec a1 a2 x8b0 y103 (motive := fun x10b2 l4b2 o => Q_spec_l7Partb_L2 rec a1 a2 x8b0 y103 x10b2 l4b2 o) ?_ x10b2 l4b2 o h
  clear h o x10b2 l4b2
  intro p' ih x10b2 l4b2 r h st
  rcases ifc h with ⟨h127, h⟩ | ⟨h127, h⟩
  · obtain ⟨h128, h⟩ := ifg h
    obtain ⟨y129, h130, h⟩ := bd h
    have h130b := (List.getElem?_eq_some_iff.1 h130).1
    obtain ⟨y132, h133, h⟩ := bd h
    have h133b := (List.getElem?_eq_some_iff.1 h133).1
    obtain ⟨y136, h135, h⟩ := bd h
    have h135c := c_spec_l1Min h135
    try simp (implicitDefEqProofs := false) [-getElem?_pos, -getElem?_neg] at h135c
    obtain ⟨l137, h138, h⟩ := bd h
    have h138r : (List.map cI l4b2).set x10b2.toNat [.lit (.int .i64 y136)] = List.map cI l137 := by rw [← Option.some.inj h138]; simp
    refine LoopG.step 0 (fun k hk => ?_) (ih _ _ _ h (sl [((st 0) + 1), (st 1)]))
    have hd_spec_l7Partb_11 := dr_spec_l7Partb_11
    simp only [opsOf, nav, bodyOf, Try.f74, Option.getD_some] at hd_spec_l7Partb_11
    simp (implicitDefEqProofs := false) [-getElem?_pos, -getElem?_neg, Try.f74, h127, ex_draw2 _ _ hd_spec_l7Partb_11, h128, h130, h130b, h133, h133b, h135c, h138r]
  obtain rfl := Option.some.inj h
  exact LoopG.exit (sl [(st 0), (st 1)]) 0 (fun k hk => by simp (implicitDefEqProofs := false) [-getElem?_pos, -getElem?_neg, Try.f74, h127])
def p_spec_l7Partb_L0 (rec : RT_spec_l7Part) (a1 : Int) (a2 : Int) (x8b0 : Int) (b1_0b0 : L3) (b1_1b0 : LI) (l2b0 : L3) (l3b0 : B2) (l4b0 : LI) : Option (LI × L3 × LI × L3 × B2) :=
 if 0 ≤ a1 then
  b1_0b0[a1.toNat]? >>= fun y94 =>
  if x8b0 < (y94.length : Int) then
   if 0 ≤ x8b0 then
    y94[x8b0.toNat]? >>= fun y98 =>
    p_spec_l7At (b1_0b0, b1_1b0, l2b0, l3b0) a2 >>= fun y101 =>
    p_spec_l7Go rec (b1_0b0, b1_1b0, l2b0, l3b0) y98 y101 >>= fun y103 =>
    p_spec_l7Partb_L2 rec a1 a2 x8b0 y103 0 l4b0 >>= fun o140 =>
    p_spec_l7Partb_L0 rec a1 a2 (IntKind.wrap .i64 (x8b0 + 1)) y103.2.1 y103.2.2.1 y103.2.2.2.1 y103.2.2.2.2 o140
   else none
  else
   some (l4b0, b1_0b0, b1_1b0, l2b0, l3b0)
 else none
partial_fixpoint
@[simp] noncomputable def L_spec_l7Partb_L0 : Code := nav [1, 1, 1, 0, 1, 0, 0] (bodyOf Try.f74)
@[simp] def T_spec_l7Partb_L0 (a1 : Int) (a2 : Int) (x8b0 : Int) (b1_0b0 : L3) (b1_1b0 : LI) (l2b0 : L3) (l3b0 : B2) (l4b0 : LI) (st : Nat → Nat) : St := ⟨[(0, .one (.bp 1 1 0)), (1, .one (.lit (.int .i64 a1))), (2, .one (.lit (.int .i64 a2))), (7, .one (.ow 4 2)), (8, .one (.lit (.int .i64 x8b0)))], [none, some (.box 1 [.sl false 38 (List.map (cL38 false) b1_0b0), .sl false 3 (List.map cI b1_1b0), .ow 2 (st 1), .ow 3 (st 2)]), some (.rows (st 1) (st 1) 38 (List.map cL38m1 l2b0)), some (.rows (st 2) (st 2) 85 (List.map (cL85 true) l3b0)), some (.rows 2 2 3 (List.map cI l4b0))], (st 0)⟩
@[simp] def U_spec_l7Partb_L0 (a1 : Int) (a2 : Int) (o : LI × L3 × LI × L3 × B2) (st : Nat → Nat) : St := ⟨[(0, .one (.bp 1 1 0)), (1, .one (.lit (.int .i64 a1))), (2, .one (.lit (.int .i64 a2))), (7, .one (.sl false 3 (List.map cI o.1)))], [none, some (.box 1 [.sl false 38 (List.map (cL38 false) o.2.1), .sl false 3 (List.map cI o.2.2.1), .ow 2 (st 1), .ow 3 (st 2)]), some (.rows (st 1) (st 1) 38 (List.map cL38m1 o.2.2.2.1)), some (.rows (st 2) (st 2) 85 (List.map (cL85 true) o.2.2.2.2)), none], (st 0)⟩
abbrev Q_spec_l7Partb_L0 (rec : RT_spec_l7Part) (a1 : Int) (a2 : Int) (x8b0 : Int) (b1_0b0 : L3) (b1_1b0 : LI) (l2b0 : L3) (l3b0 : B2) (l4b0 : LI) (o : LI × L3 × LI × L3 × B2) : Prop := ∀ st : Nat → Nat, LoopG Try.prog (cal_spec_l7Partb rec) 4 lm_spec_l7Partb 0 L_spec_l7Partb_L0 (U_spec_l7Partb_L0 a1 a2) (T_spec_l7Partb_L0 a1 a2 x8b0 b1_0b0 b1_1b0 l2b0 l3b0 l4b0 st) o
theorem l_spec_l7Partb_L0 {rec : RT_spec_l7Part} {a1 : Int} {a2 : Int} {x8b0 : Int} {b1_0b0 : L3} {b1_1b0 : LI} {l2b0 : L3} {l3b0 : B2} {l4b0 : LI} {o : LI × L3 × LI × L3 × B2} (h : p_spec_l7Partb_L0 rec a1 a2 x8b0 b1_0b0 b1_1b0 l2b0 l3b0 l4b0 = some o) : Q_spec_l7Partb_L0 rec a1 a2 x8b0 b1_0b0 b1_1b0 l2b0 l3b0 l4b0 o := by
  refine p_spec_l7Partb_L0.partial_correctness rec a1 a2 (motive := fun x8b0 b1_0b0 b1_1b0 l2b0 l3b0 l4b0 o => Q_spec_l7Partb_L0 rec a1 a2 x8b0 b1_0b0 b1_1b0 l2b0 l3b0 l4b0 o) ?_ x8b0 b1_0b0 b1_1b0 l2b0 l3b0 l4b0 o h
  clear h o x8b0 b1_0b0 b1_1b0 l2b0 l3b0 l4b0
  intro p' ih x8b0 b1_0b0 b1_1b0 l2b0 l3b0 l4b0 r h st
  obtain ⟨h93, h⟩ := ifg h
  obtain ⟨y94, h95, h⟩ := bd h
  rcases ifc h with ⟨h96, h⟩ | ⟨h96, h⟩
  · obtain ⟨h97, h⟩ := ifg h
    obtain ⟨y98, h99, h⟩ := bd h
    obtain ⟨y101, h100, h⟩ := bd h
    have h100c := c_spec_l7At h100
    try simp (implicitDefEqProofs := false) [-getElem?_pos, -getElem?_neg] at h100c
    obtain ⟨y103, h102, h⟩ := bd h
    have h102c := c_spec_l7Go h102
    obtain ⟨o140, h139, h⟩ := bd h
    have qK141 := l_spec_l7Partb_L2 h139 (sl [((st 0) + 4), ((st 0) + 1)])
    obtain ⟨s142, K141, qK141⟩ := qK141
    refine LoopG.step K141 (fun k hk => ?_) (ih _ _ _ _ _ _ _ h (sl [((s142 0) + 2), (s142 0), ((s142 0) + 1)]))
    have jK141 := qK141 k (by omega) k (by omega)
    simp (implicitDefEqProofs := false) [-getElem?_pos, -getElem?_neg, Try.f74, h93, h95, h96, h97, h99, h100c, h102c] at jK141
    have hd_spec_l7Partb_7 := dr_spec_l7Partb_7
    simp only [opsOf, nav, bodyOf, Try.f74, Option.getD_some] at hd_spec_l7Partb_7
    simp (implicitDefEqProofs := false) [-getElem?_pos, -getElem?_neg, Try.f74, h93, h95, h96, ex_draw2 _ _ hd_spec_l7Partb_7, h97, h99, h100c, h102c, jK141]
  obtain rfl := Option.some.inj h
  exact LoopG.exit (sl [(st 0), (st 1), (st 2)]) 0 (fun k hk => by simp (implicitDefEqProofs := false) [-getElem?_pos, -getElem?_neg, Try.f74, h93, h95, h96])
def p_spec_l7Partb (rec : RT_spec_l7Part) (a0 : L3 × LI × L3 × B2) (a1 : Int) (a2 : Int) : Option (LI × (L3 × LI × L3 × B2)) :=
 if 0 ≤ a1 then
  a0.2.2.2[a1.toNat]? >>= fun y2 =>
  if 0 ≤ a2 then
   y2[a2.toNat]? >>= fun y6 =>
   if y6 then
    a0.2.2.1[a1.toNat]? >>= fun y9 =>
    y9[a2.toNat]? >>= fun y12 =>
    some (y12, (a0.1, a0.2.1, a0.2.2.1, a0.2.2.2))
   else
    if 0 ≤ (IntKind.wrap .i64 ((a0.2.1.length : Int) + 1)) then
     if (IntKind.wrap .i64 ((a0.2.1.length : Int) + 1)).toNat * 8 ≤ 140737488355328 then
      some (List.replicate ((IntKind.wrap .i64 ((a0.2.1.length : Int) + 1)).toNat) 0) >>= fun l16 =>
      p_spec_l7Partb_L0 rec a1 a2 0 a0.1 a0.2.1 a0.2.2.1 a0.2.2.2 l16 >>= fun o144 =>
      o144.2.2.2.1[a1.toNat]? >>= fun y147 =>
      y147[a2.toNat]? >>= fun y150 =>
      some (List.set y147 a2.toNat o144.1) >>= fun l152 =>
      some (List.set o144.2.2.2.1 a1.toNat l152) >>= fun l154 =>
      o144.2.2.2.2[a1.toNat]? >>= fun y156 =>
      y156[a2.toNat]? >>= fun y159 =>
      some (List.set y156 a2.toNat true) >>= fun l161 =>
      some (List.set o144.2.2.2.2 a1.toNat l161) >>= fun l163 =>
      some (o144.1, (o144.2.1, o144.2.2.1, l154, l163))
     else none
    else none
  else none
 else none
theorem t_spec_l7Partb {rec : RT_spec_l7Part} {a0 : L3 × LI × L3 × B2} {a1 : Int} {a2 : Int} {r : LI × (L3 × LI × L3 × B2)} (h : p_spec_l7Partb rec a0 a1 a2 = some r) : ∃ k, toldB Try.prog ((cal_spec_l7Partb rec) k) k lm_spec_l7Partb Try.f74 true (.bp 1 1 0) (m0_spec_l7Partb (a0, a1, a2)) (arg_spec_l7Partb (a0, a1, a2)) = some (res_spec_l7Partb r) := by
  unfold p_spec_l7Partb at h
  obtain ⟨h1, h⟩ := ifg h
  obtain ⟨y2, h3, h⟩ := bd h
  have h3b := (List.getElem?_eq_some_iff.1 h3).1
  obtain ⟨h5, h⟩ := ifg h
  obtain ⟨y6, h7, h⟩ := bd h
  rcases ifb h with ⟨h8, h⟩ | ⟨h8, h⟩
  · obtain ⟨y9, h10, h⟩ := bd h
    have h10b := (List.getElem?_eq_some_iff.1 h10).1
    obtain ⟨y12, h13, h⟩ := bd h
    obtain rfl := Option.some.inj h
    obtain ⟨k, hk⟩ : ∃ k, 0 ≤ k := ⟨_, Nat.le_refl _⟩
    refine ⟨k, ?_⟩
    simp (implicitDefEqProofs := false) [-getElem?_pos, -getElem?_neg, Try.f74, h1, h3, h3b, h5, h7, h8, h10, h10b, h13]
  obtain ⟨h14, h⟩ := ifg h
  obtain ⟨h15, h⟩ := ifg h
  have h15b : (IntKind.wrap .i64 ((a0.2.1.length : Int) + 1)).toNat ≤ 9223372036854775807 := by omega
  obtain ⟨l16, h17, h⟩ := bd h
  have h17r : List.replicate ((IntKind.wrap .i64 ((a0.2.1.length : Int) + 1)).toNat) [.lit (.int .i64 0)] = List.map cI l16 := by rw [← Option.some.inj h17]; simp
  obtain ⟨o144, h143, h⟩ := bd h
  have qK145 := l_spec_l7Partb_L0 h143 (sl [5, 3, 4])
  obtain ⟨s146, K145, qK145⟩ := qK145
  obtain ⟨y147, h148, h⟩ := bd h
  have h148b := (List.getElem?_eq_some_iff.1 h148).1
  obtain ⟨y150, h151, h⟩ := bd h
  obtain ⟨l152, h153, h⟩ := bd h
  have h153r : (List.map (cL31 false) y147).set a2.toNat [.sl false 3 (List.map cI o144.1)] = List.map (cL31 false) l152 := by rw [← Option.some.inj h153]; simp
  obtain ⟨l154, h155, h⟩ := bd h
  have h155r : (List.map cL38m1 o144.2.2.2.1).set a1.toNat [.sl true 31 (List.map (cL31 false) l152)] = List.map cL38m1 l154 := by rw [← Option.some.inj h155]; simp
  obtain ⟨y156, h157, h⟩ := bd h
  have h157b := (List.getElem?_eq_some_iff.1 h157).1
  obtain ⟨y159, h160, h⟩ := bd h
  obtain ⟨l161, h162, h⟩ := bd h
  have h162r : (List.map cB y156).set a2.toNat [.lit (.bool true)] = List.map cB l161 := by rw [← Option.some.inj h162]; simp
  obtain ⟨l163, h164, h⟩ := bd h
  have h164r : (List.map (cL85 true) o144.2.2.2.2).set a1.toNat [.sl true 4 (List.map cB l161)] = List.map (cL85 true) l163 := by rw [← Option.some.inj h164]; simp
  obtain rfl := Option.some.inj h
  obtain ⟨k, hk⟩ : ∃ k, K145 ≤ k := ⟨_, Nat.le_refl _⟩
  have jK145 := qK145 k (by omega) k (by omega)
  simp (implicitDefEqProofs := false) [-getElem?_pos, -getElem?_neg, Try.f74, h1, h3, h3b, h5, h7, h8, h14, h15, h15b, h17r, h148, h148b, h151, h153r, h155r, h157, h157b, h160, h162r, h164r] at jK145
  refine ⟨k, ?_⟩
  simp (implicitDefEqProofs := false) [-getElem?_pos, -getElem?_neg, Try.f74, h1, h3, h3b, h5, h7, h8, h14, h15, h15b, h17r, h148, h148b, h151, h153r, h155r, h157, h157b, h160, h162r, h164r, jK145]
theorem inj_spec_l7Partb : ∀ a b, H_spec_l7Partb a = H_spec_l7Partb b → arg_spec_l7Partb a = arg_spec_l7Partb b → a = b := by
  rintro ⟨x0, x1, x2⟩ ⟨y0, y1, y2⟩ h1 h2; simp [arg_spec_l7Partb] at h2; simp [H_spec_l7Partb] at h1; simp [Prod.ext_iff, h1, h2]
noncomputable def F_spec_l7Partb (rec : RT_spec_l7Part) : BCon := pbcon H_spec_l7Partb arg_spec_l7Partb (fun a => p_spec_l7Partb rec a.1 a.2.1 a.2.2) res_spec_l7Partb
theorem fn_spec_l7Partb {rec : RT_spec_l7Part} (hrec : HR_spec_l7Part rec) : BFn Try.prog 74 true (F_spec_l7Partb rec) := BFn.pure (cal_spec_l7Partb rec) (fun k w0 h0 => ok_spec_l7Partb hrec k w0 h0) mixed Try.func74 rfl rfl (by kernel_rfl) 3 (by decide) (fun _ => rfl) lm_spec_l7Partb (fun _ => .bp 1 1 0) m0_spec_l7Partb (fun _ => rfl) (fun a b h => t_spec_l7Partb h)
theorem c_spec_l7Partb {rec : RT_spec_l7Part} {a0 : L3 × LI × L3 × B2} {a1 : Int} {a2 : Int} {r : LI × (L3 × LI × L3 × B2)} (h : p_spec_l7Partb rec a0 a1 a2 = some r) : (F_spec_l7Partb rec) [.sl false 38 (List.map (cL38 false) a0.1), .sl false 3 (List.map cI a0.2.1), .sl true 38 (List.map cL38m1 a0.2.2.1), .sl true 85 (List.map (cL85 true) a0.2.2.2)] [.one (.lit (.int .i64 a1)), .one (.lit (.int .i64 a2))] = some ((false, [none]), [.sl false 3 (List.map cI r.1)], [.sl false 38 (List.map (cL38 false) r.2.1), .sl false 3 (List.map cI r.2.2.1), .sl true 38 (List.map cL38m1 r.2.2.2.1), .sl true 85 (List.map (cL85 true) r.2.2.2.2)]) := pbcon_at (H := H_spec_l7Partb) (arg := arg_spec_l7Partb) (p := fun a => p_spec_l7Partb rec a.1 a.2.1 a.2.2) (res := res_spec_l7Partb) (a := (a0, a1, a2)) (b := r) inj_spec_l7Partb h
def p_spec_l7Part_n : Nat → RT_spec_l7Part
  | 0 => fun _ _ _ => none
  | n + 1 => fun a0 a1 a2 => p_spec_l7Partb (p_spec_l7Part_n n) a0 a1 a2
theorem fn_spec_l7Part_n : ∀ n, HR_spec_l7Part (p_spec_l7Part_n n)
  | 0 => BFn.none0 ⟨_, Try.func74, rfl, rfl⟩
  | n + 1 => fn_spec_l7Partb (fn_spec_l7Part_n n)
def p_spec_l7Part (a0 : L3 × LI × L3 × B2) (a1 : Int) (a2 : Int) : Option (LI × (L3 × LI × L3 × B2)) := p_spec_l7Part_n 1000 a0 a1 a2
theorem hr_spec_l7Part : HR_spec_l7Part p_spec_l7Part := fn_spec_l7Part_n 1000
noncomputable def F_spec_l7Part : BCon := (pbcon H_spec_l7Part arg_spec_l7Part (fun a => p_spec_l7Part a.1 a.2.1 a.2.2) res_spec_l7Part)
theorem fn_spec_l7Part : BFn Try.prog 74 true F_spec_l7Part := hr_spec_l7Part
theorem c_spec_l7Part {a0 : L3 × LI × L3 × B2} {a1 : Int} {a2 : Int} {r : LI × (L3 × LI × L3 × B2)} (h : p_spec_l7Part a0 a1 a2 = some r) : F_spec_l7Part ([.sl false 38 (List.map (cL38 false) a0.1), .sl false 3 (List.map cI a0.2.1), .sl true 38 (List.map cL38m1 a0.2.2.1), .sl true 85 (List.map (cL85 true) a0.2.2.2)]) [.one (.lit (.int .i64 a1)), .one (.lit (.int .i64 a2))] = some ((false, [none]), [.sl false 3 (List.map cI r.1)], [.sl false 38 (List.map (cL38 false) r.2.1), .sl false 3 (List.map cI r.2.2.1), .sl true 38 (List.map cL38m1 r.2.2.2.1), .sl true 85 (List.map (cL85 true) r.2.2.2.2)]) := pbcon_at (H := H_spec_l7Part) (arg := arg_spec_l7Part) (p := fun a => p_spec_l7Part a.1 a.2.1 a.2.2) (res := res_spec_l7Part) (a := (a0, a1, a2)) (b := r) inj_spec_l7Part h
noncomputable def cal_spec_l7Ways (k : Nat) : Cal := calI (tabOf [(60, F_spec_l7At)]) (inlOf [(58, pI [[some 38], [some 3]] F_spec_l7New), (59, shI (bI true [some (false, 38), some (false, 3), some (true, 38), some (true, 85)] (F_spec_l7Go p_spec_l7Part)))])
@[simp] theorem cal_spec_l7Ways_ap (k g : Nat) (vs : List TV) (mem : Mem) (ep : Nat) : cal_spec_l7Ways k g vs mem ep = calI (tabOf [(60, F_spec_l7At)]) (inlOf [(58, pI [[some 38], [some 3]] F_spec_l7New), (59, shI (bI true [some (false, 38), some (false, 3), some (true, 38), some (true, 85)] (F_spec_l7Go p_spec_l7Part)))]) g vs mem ep := rfl
theorem ok_spec_l7Ways (k : Nat) (w0 : World) (h0 : True) : CalOk Try.prog w0.heap.size w0 (cal_spec_l7Ways k) := by
  exact calI_ok (J := fun _ => True) stab_true (tabOf_ok _ (by simp [fn_spec_l7At])) (inlOf_ok _ (by simp [(PFn.inst stab_true fn_spec_l7New), (IFn.share (BFn.inst stab_true (fn_spec_l7Go hr_spec_l7Part)))])) h0
@[simp] def lm_spec_l7Ways : Nat → List Nat × Nat := fun b => ([], 0)
@[simp] def arg_spec_l7Ways (a : L3 × LI × LI) : List TV := [.agg [.sl false 38 (List.map (cL38 false) a.1)], .one (.sl false 3 (List.map cI a.2.1)), .one (.sl false 3 (List.map cI a.2.2))]
@[simp] def res_spec_l7Ways (r : Int) : Sh × List V := ((false, [none]), [.lit (.int .i64 r)])
def p_spec_l7Ways (a0 : L3) (a1 : LI) (a2 : LI) : Option Int :=
 p_spec_l7New a0 a2 >>= fun y2 =>
 p_spec_l7At (y2.1, y2.2.1, y2.2.2.1, y2.2.2.2) 0 >>= fun y4 =>
 p_spec_l7Go p_spec_l7Part (y2.1, y2.2.1, y2.2.2.1, y2.2.2.2) a1 y4 >>= fun y6 =>
 y6.1[a2.length]? >>= fun y7 =>
 some y7
theorem t_spec_l7Ways {a0 : L3} {a1 : LI} {a2 : LI} {r : Int} (h : p_spec_l7Ways a0 a1 a2 = some r) : ∃ k, told Try.prog (cal_spec_l7Ways k) k lm_spec_l7Ways Try.f43 (arg_spec_l7Ways (a0, a1, a2)) = some (res_spec_l7Ways r) := by
  unfold p_spec_l7Ways at h
  obtain ⟨y2, h1, h⟩ := bd h
  have h1c := c_spec_l7New h1
  obtain ⟨y4, h3, h⟩ := bd h
  have h3c := c_spec_l7At h3
  try simp (implicitDefEqProofs := false) [-getElem?_pos, -getElem?_neg] at h3c
  obtain ⟨y6, h5, h⟩ := bd h
  have h5c := c_spec_l7Go h5
  obtain ⟨y7, h8, h⟩ := bd h
  have h8b := (List.getElem?_eq_some_iff.1 h8).1
  obtain rfl := Option.some.inj h
  obtain ⟨k, hk⟩ : ∃ k, 0 ≤ k := ⟨_, Nat.le_refl _⟩
  refine ⟨k, ?_⟩
  simp (implicitDefEqProofs := false) [-getElem?_pos, -getElem?_neg, Try.f43, h1c, h3c, h5c, h8, h8b]
theorem inj_spec_l7Ways : ∀ a b, arg_spec_l7Ways a = arg_spec_l7Ways b → a = b := by
  rintro ⟨x0, x1, x2⟩ ⟨y0, y1, y2⟩ h; simp [arg_spec_l7Ways] at h; simp [Prod.ext_iff, h]
noncomputable def F_spec_l7Ways : Con := nilfix [[some 38], [some 3], [some 3]] (pcon arg_spec_l7Ways (fun a => p_spec_l7Ways a.1 a.2.1 a.2.2) res_spec_l7Ways)
theorem fn_spec_l7Ways : Fn Try.prog 43 F_spec_l7Ways := (Fn.pure cal_spec_l7Ways (fun k w0 h0 => ok_spec_l7Ways k w0 h0) mixed Try.func43 rfl rfl (by kernel_rfl) 3 (by decide) (fun _ => rfl) lm_spec_l7Ways (fun a b h => t_spec_l7Ways h)).nilfix _
theorem c_spec_l7Ways {a0 : L3} {a1 : LI} {a2 : LI} {r : Int} (h : p_spec_l7Ways a0 a1 a2 = some r) : F_spec_l7Ways [.agg [.sl false 38 (List.map (cL38 false) a0)], .one (.sl false 3 (List.map cI a1)), .one (.sl false 3 (List.map cI a2))] = some (((false, [none]), [.lit (.int .i64 r)])) := pcon_at (arg := arg_spec_l7Ways) (p := fun a => p_spec_l7Ways a.1 a.2.1 a.2.2) (res := res_spec_l7Ways) (a := (a0, a1, a2)) (b := r) inj_spec_l7Ways h
def cal_impl_rowsOfLetters (k : Nat) : Cal := calI (tabOf []) (inlOf [])
@[simp] theorem cal_impl_rowsOfLetters_ap (k g : Nat) (vs : List TV) (mem : Mem) (ep : Nat) : cal_impl_rowsOfLetters k g vs mem ep = calI (tabOf []) (inlOf []) g vs mem ep := rfl
theorem ok_impl_rowsOfLetters (k : Nat) (w0 : World) (h0 : True) : CalOk Try.prog w0.heap.size w0 (cal_impl_rowsOfLetters k) := by
  exact calI_ok (J := fun _ => True) stab_true (tabOf_ok _ (by simp [])) (inlOf_ok _ (by simp [])) h0
@[simp] def lm_impl_rowsOfLetters : Nat → List Nat × Nat := fun b => if b = 2 then ([0, 6, 13, 14, 16, 17, 18], 3) else if b = 2000002 then ([0, 6, 0, 31], 8888888) else if b = 3000002 then ([0, 6, 13, 14], 3) else if b = 0 then ([0, 5, 13, 14], 2) else if b = 2000000 then ([1, 5, 0, 2], 8888888) else if b = 3000000 then ([5], 2) else if b = 4 then ([0, 6, 8, 13, 14, 16, 17, 18, 22, 23, 24], 3) else if b = 2000004 then ([0, 6, 0, 31], 8888888) else if b = 3000004 then ([0, 6, 13, 14, 16, 17, 18], 3) else ([], 0)
@[simp] def arg_impl_rowsOfLetters (a : LI × Int) : List TV := [.one (.sl false 3 (List.map cI a.1)), .one (.lit (.int .i64 a.2))]
@[simp] def res_impl_rowsOfLetters (r : L2) : Sh × List V := ((false, [none]), [.sl true 31 (List.map (cL31 true) r)])
def p_impl_rowsOfLetters_L4 (a0 : LI) (x18b2 : Int) (y182 : LI) (a1 : Int) (x14b0 : Int) (l2b0 : L2) (x24b4 : Int) (l3b4 : L2) : Option L2 :=
 if x24b4 < (a0.length : Int) then
  if 0 ≤ x24b4 then
   a0[x24b4.toNat]? >>= fun y208 =>
   if y182.length * 8 ≤ 140737488355328 then
    if (y182.length + 1) * 8 ≤ 140737488355328 then
     some (y182 ++ [y208]) >>= fun l212 =>
     if (l3b4.length + 1) * 24 ≤ 140737488355328 then
      some (l3b4 ++ [l212]) >>= fun l215 =>
      p_impl_rowsOfLetters_L4 a0 x18b2 y182 a1 x14b0 l2b0 (IntKind.wrap .i64 (x24b4 + 1)) l215
     else none
    else none
   else none
  else none
 else
  some l3b4
partial_fixpoint
@[simp] noncomputable def L_impl_rowsOfLetters_L4 : Code := nav [1, 1, 0, 1, 0, 0, 1, 1, 0, 0, 1, 0, 1, 0, 0, 1, 1, 0, 0, 1, 1, 0, 0] (bodyOf Try.f45)
@[simp] def T_impl_rowsOfLetters_L4 (a0 : LI) (x18b2 : Int) (y182 : LI) (a1 : Int) (x14b0 : Int) (l2b0 : L2) (x24b4 : Int) (l3b4 : L2) (st : Nat → Nat) : St := ⟨[(0, .one (.sl false 3 (List.map cI a0))), (6, .one (.ow 3 (st 1))), (8, .one (.vw 2 (st 2) (some ((st 2), x18b2.toNat, 0)) 3 (List.map cI y182))), (13, .one (.lit (.int .i64 a1))), (14, .one (.lit (.int .i64 x14b0))), (16, .one (.ow 2 (st 2))), (17, .one (.lit (.int .i64 (l2b0.length : Int)))), (18, .one (.lit (.int .i64 x18b2))), (22, .one (.sl false 3 (List.map cI a0))), (23, .one (.lit (.int .i64 (a0.length : Int)))), (24, .one (.lit (.int .i64 x24b4)))], [none, none, some (.rows (st 2) (st 2) 31 (List.map (cL31 true) l2b0)), some (.rows (st 1) (st 3) 31 (List.map (cL31 true) l3b4))], (st 0)⟩
@[simp] def U_impl_rowsOfLetters_L4 (a0 : LI) (x18b2 : Int) (y182 : LI) (a1 : Int) (x14b0 : Int) (l2b0 : L2) (o : L2) (st : Nat → Nat) : St := ⟨[(0, .one (.sl false 3 (List.map cI a0))), (6, .one (.ow 3 (st 1))), (13, .one (.lit (.int .i64 a1))), (14, .one (.lit (.int .i64 x14b0))), (16, .one (.ow 2 (st 2))), (17, .one (.lit (.int .i64 (l2b0.length : Int)))), (18, .one (.lit (.int .i64 x18b2)))], [none, none, some (.rows (st 2) (st 2) 31 (List.map (cL31 true) l2b0)), some (.rows (st 1) (st 3) 31 (List.map (cL31 true) o))], (st 0)⟩
abbrev Q_impl_rowsOfLetters_L4 (a0 : LI) (x18b2 : Int) (y182 : LI) (a1 : Int) (x14b0 : Int) (l2b0 : L2) (x24b4 : Int) (l3b4 : L2) (o : L2) : Prop := ∀ st : Nat → Nat, LoopG Try.prog cal_impl_rowsOfLetters 1 lm_impl_rowsOfLetters 4 L_impl_rowsOfLetters_L4 (U_impl_rowsOfLetters_L4 a0 x18b2 y182 a1 x14b0 l2b0) (T_impl_rowsOfLetters_L4 a0 x18b2 y182 a1 x14b0 l2b0 x24b4 l3b4 st) o
theorem l_impl_rowsOfLetters_L4 {a0 : LI} {x18b2 : Int} {y182 : LI} {a1 : Int} {x14b0 : Int} {l2b0 : L2} {x24b4 : Int} {l3b4 : L2} {o : L2} (h : p_impl_rowsOfLetters_L4 a0 x18b2 y182 a1 x14b0 l2b0 x24b4 l3b4 = some o) : Q_impl_rowsOfLetters_L4 a0 x18b2 y182 a1 x14b0 l2b0 x24b4 l3b4 o := by
  refine p_impl_rowsOfLetters_L4.partial_correctness a0 x18b2 y182 a1 x14b0 l2b0 (motive := fun x24b4 l3b4 o => Q_impl_rowsOfLetters_L4 a0 x18b2 y182 a1 x14b0 l2b0 x24b4 l3b4 o) ?_ x24b4 l3b4 o h
  clear h o x24b4 l3b4
  intro p' ih x24b4 l3b4 r h st
  rcases ifc h with ⟨h206, h⟩ | ⟨h206, h⟩
  · obtain ⟨h207, h⟩ := ifg h
    obtain ⟨y208, h209, h⟩ := bd h
    obtain ⟨h210, h⟩ := ifg h
    obtain ⟨h211, h⟩ := ifg h
    obtain ⟨l212, h213, h⟩ := bd h
    have h213r : List.map cI y182 ++ [[.lit (.int .i64 y208)]] = List.map cI l212 := by rw [← Option.some.inj h213]; simp
    obtain ⟨h214, h⟩ := ifg h
    obtain ⟨l215, h216, h⟩ := bd h
    have h216r : List.map (cL31 true) l3b4 ++ [[.sl true 3 (List.map cI l212)]] = List.map (cL31 true) l215 := by rw [← Option.some.inj h216]; simp
    exact LoopG.step 0 (fun k hk => by simp (implicitDefEqProofs := false) [-getElem?_pos, -getElem?_neg, Try.f45, h206, h207, h209, h210, h211, h213r, h214, h216r]) (ih _ _ _ h (sl [((st 0) + 5), ((st 0) + 4), (st 2), (st 3)]))
  obtain rfl := Option.some.inj h
  exact LoopG.exit (sl [(st 0), (st 1), (st 2), (st 3)]) 0 (fun k hk => by simp (implicitDefEqProofs := false) [-getElem?_pos, -getElem?_neg, Try.f45, h206])
def p_impl_rowsOfLetters_L2 (a0 : LI) (a1 : Int) (x14b0 : Int) (l2b0 : L2) (x18b2 : Int) (l3b2 : L2) : Option L2 :=
 if x18b2 < (l2b0.length : Int) then
  if 0 ≤ x18b2 then
   l2b0[x18b2.toNat]? >>= fun y182 =>
   p_impl_rowsOfLetters_L4 a0 x18b2 y182 a1 x14b0 l2b0 0 l3b2 >>= fun o218 =>
   p_impl_rowsOfLetters_L2 a0 a1 x14b0 l2b0 (IntKind.wrap .i64 (x18b2 + 1)) o218
  else none
 else
  some l3b2
partial_fixpoint
@[simp] noncomputable def L_impl_rowsOfLetters_L2 : Code := nav [1, 1, 0, 1, 0, 0, 1, 1, 0, 0, 1, 0, 1, 0, 0] (bodyOf Try.f45)
@[simp] def T_impl_rowsOfLetters_L2 (a0 : LI) (a1 : Int) (x14b0 : Int) (l2b0 : L2) (x18b2 : Int) (l3b2 : L2) (st : Nat → Nat) : St := ⟨[(0, .one (.sl false 3 (List.map cI a0))), (6, .one (.ow 3 (st 1))), (13, .one (.lit (.int .i64 a1))), (14, .one (.lit (.int .i64 x14b0))), (16, .one (.ow 2 (st 2))), (17, .one (.lit (.int .i64 (l2b0.length : Int)))), (18, .one (.lit (.int .i64 x18b2)))], [none, none, some (.rows (st 2) (st 2) 31 (List.map (cL31 true) l2b0)), some (.rows (st 1) (st 3) 31 (List.map (cL31 true) l3b2))], (st 0)⟩
@[simp] def U_impl_rowsOfLetters_L2 (a0 : LI) (a1 : Int) (x14b0 : Int) (l2b0 : L2) (o : L2) (st : Nat → Nat) : St := ⟨[(0, .one (.sl false 3 (List.map cI a0))), (6, .one (.ow 3 (st 1))), (13, .one (.lit (.int .i64 a1))), (14, .one (.lit (.int .i64 x14b0)))], [none, none, some (.rows (st 2) (st 2) 31 (List.map (cL31 true) l2b0)), some (.rows (st 1) (st 3) 31 (List.map (cL31 true) o))], (st 0)⟩
abbrev Q_impl_rowsOfLetters_L2 (a0 : LI) (a1 : Int) (x14b0 : Int) (l2b0 : L2) (x18b2 : Int) (l3b2 : L2) (o : L2) : Prop := ∀ st : Nat → Nat, LoopG Try.prog cal_impl_rowsOfLetters 1 lm_impl_rowsOfLetters 2 L_impl_rowsOfLetters_L2 (U_impl_rowsOfLetters_L2 a0 a1 x14b0 l2b0) (T_impl_rowsOfLetters_L2 a0 a1 x14b0 l2b0 x18b2 l3b2 st) o
theorem l_impl_rowsOfLetters_L2 {a0 : LI} {a1 : Int} {x14b0 : Int} {l2b0 : L2} {x18b2 : Int} {l3b2 : L2} {o : L2} (h : p_impl_rowsOfLetters_L2 a0 a1 x14b0 l2b0 x18b2 l3b2 = some o) : Q_impl_rowsOfLetters_L2 a0 a1 x14b0 l2b0 x18b2 l3b2 o := by
  refine p_impl_rowsOfLetters_L2.partial_correctness a0 a1 x14b0 l2b0 (motive := fun x18b2 l3b2 o => Q_impl_rowsOfLetters_L2 a0 a1 x14b0 l2b0 x18b2 l3b2 o) ?_ x18b2 l3b2 o h
  clear h o x18b2 l3b2
  intro p' ih x18b2 l3b2 r h st
  rcases ifc h with ⟨h180, h⟩ | ⟨h180, h⟩
  · obtain ⟨h181, h⟩ := ifg h
    obtain ⟨y182, h183, h⟩ := bd h
    have h183b := (List.getElem?_eq_some_iff.1 h183).1
    obtain ⟨o218, h217, h⟩ := bd h
    have qK219 := l_impl_rowsOfLetters_L4 h217 (sl [(st 0), (st 1), (st 2), (st 3)])
    obtain ⟨s220, K219, qK219⟩ := qK219
    refine LoopG.step K219 (fun k hk => ?_) (ih _ _ _ h (sl [(s220 0), (s220 1), (s220 2), (s220 3)]))
    have jK219 := qK219 k (by omega) k (by omega)
    simp (implicitDefEqProofs := false) [-getElem?_pos, -getElem?_neg, Try.f45, h180, h181, h183, h183b] at jK219
    simp (implicitDefEqProofs := false) [-getElem?_pos, -getElem?_neg, Try.f45, h180, h181, h183, h183b, jK219]
  obtain rfl := Option.some.inj h
  exact LoopG.exit (sl [(st 0), (st 1), (st 2), (st 3)]) 0 (fun k hk => by simp (implicitDefEqProofs := false) [-getElem?_pos, -getElem?_neg, Try.f45, h180])
def p_impl_rowsOfLetters_L0 (a0 : LI) (a1 : Int) (x14b0 : Int) (l2b0 : L2) : Option L2 :=
 if x14b0 < a1 then
  p_impl_rowsOfLetters_L2 a0 a1 x14b0 l2b0 0 ([]) >>= fun o222 =>
  p_impl_rowsOfLetters_L0 a0 a1 (IntKind.wrap .i64 (x14b0 + 1)) o222
 else
  some l2b0
partial_fixpoint
@[simp] noncomputable def L_impl_rowsOfLetters_L0 : Code := nav [1, 1, 0, 1, 0, 0] (bodyOf Try.f45)
@[simp] def T_impl_rowsOfLetters_L0 (a0 : LI) (a1 : Int) (x14b0 : Int) (l2b0 : L2) (st : Nat → Nat) : St := ⟨[(0, .one (.sl false 3 (List.map cI a0))), (5, .one (.ow 2 (st 1))), (13, .one (.lit (.int .i64 a1))), (14, .one (.lit (.int .i64 x14b0)))], [none, none, some (.rows (st 1) (st 1) 31 (List.map (cL31 true) l2b0))], (st 0)⟩
@[simp] def U_impl_rowsOfLetters_L0 (a0 : LI) (a1 : Int) (o : L2) (st : Nat → Nat) : St := ⟨[(5, .one (.ow 2 (st 1)))], [none, none, some (.rows (st 1) (st 1) 31 (List.map (cL31 true) o))], (st 0)⟩
abbrev Q_impl_rowsOfLetters_L0 (a0 : LI) (a1 : Int) (x14b0 : Int) (l2b0 : L2) (o : L2) : Prop := ∀ st : Nat → Nat, LoopG Try.prog cal_impl_rowsOfLetters 1 lm_impl_rowsOfLetters 0 L_impl_rowsOfLetters_L0 (U_impl_rowsOfLetters_L0 a0 a1) (T_impl_rowsOfLetters_L0 a0 a1 x14b0 l2b0 st) o
theorem l_impl_rowsOfLetters_L0 {a0 : LI} {a1 : Int} {x14b0 : Int} {l2b0 : L2} {o : L2} (h : p_impl_rowsOfLetters_L0 a0 a1 x14b0 l2b0 = some o) : Q_impl_rowsOfLetters_L0 a0 a1 x14b0 l2b0 o := by
  refine p_impl_rowsOfLetters_L0.partial_correctness a0 a1 (motive := fun x14b0 l2b0 o => Q_impl_rowsOfLetters_L0 a0 a1 x14b0 l2b0 o) ?_ x14b0 l2b0 o h
  clear h o x14b0 l2b0
  intro p' ih x14b0 l2b0 r h st
  rcases ifc h with ⟨h123, h⟩ | ⟨h123, h⟩
  · obtain ⟨o222, h221, h⟩ := bd h
    have qK223 := l_impl_rowsOfLetters_L2 h221 (sl [((st 0) + 1), (st 0), (st 1), (st 0)])
    obtain ⟨s224, K223, qK223⟩ := qK223
    refine LoopG.step K223 (fun k hk => ?_) (ih _ _ _ h (sl [((s224 0) + 1), (s224 0)]))
    have jK223 := qK223 k (by omega) k (by omega)
    simp (implicitDefEqProofs := false) [-getElem?_pos, -getElem?_neg, Try.f45, h123] at jK223
    simp (implicitDefEqProofs := false) [-getElem?_pos, -getElem?_neg, Try.f45, h123, jK223]
  obtain rfl := Option.some.inj h
  exact LoopG.exit (sl [(st 0), (st 1)]) 0 (fun k hk => by simp (implicitDefEqProofs := false) [-getElem?_pos, -getElem?_neg, Try.f45, h123])
def p_impl_rowsOfLetters (a0 : LI) (a1 : Int) : Option L2 :=
 p_impl_rowsOfLetters_L0 a0 a1 0 ([[]]) >>= fun o226 =>
 some o226
theorem t_impl_rowsOfLetters {a0 : LI} {a1 : Int} {r : L2} (h : p_impl_rowsOfLetters a0 a1 = some r) : ∃ k, told Try.prog (cal_impl_rowsOfLetters k) k lm_impl_rowsOfLetters Try.f45 (arg_impl_rowsOfLetters (a0, a1)) = some (res_impl_rowsOfLetters r) := by
  unfold p_impl_rowsOfLetters at h
  obtain ⟨o226, h225, h⟩ := bd h
  have qK227 := l_impl_rowsOfLetters_L0 h225 (sl [4, 3])
  obtain ⟨s228, K227, qK227⟩ := qK227
  obtain rfl := Option.some.inj h
  obtain ⟨k, hk⟩ : ∃ k, K227 ≤ k := ⟨_, Nat.le_refl _⟩
  have jK227 := qK227 k (by omega) k (by omega)
  simp (implicitDefEqProofs := false) [-getElem?_pos, -getElem?_neg, Try.f45] at jK227
  refine ⟨k, ?_⟩
  simp (implicitDefEqProofs := false) [-getElem?_pos, -getElem?_neg, Try.f45, jK227]
theorem inj_impl_rowsOfLetters : ∀ a b, arg_impl_rowsOfLetters a = arg_impl_rowsOfLetters b → a = b := by
  rintro ⟨x0, x1⟩ ⟨y0, y1⟩ h; simp [arg_impl_rowsOfLetters] at h; simp [Prod.ext_iff, h]
noncomputable def F_impl_rowsOfLetters : Con := nilfix [[some 3], [none]] (pcon arg_impl_rowsOfLetters (fun a => p_impl_rowsOfLetters a.1 a.2) res_impl_rowsOfLetters)
theorem fn_impl_rowsOfLetters : Fn Try.prog 45 F_impl_rowsOfLetters := (Fn.pure cal_impl_rowsOfLetters (fun k w0 h0 => ok_impl_rowsOfLetters k w0 h0) mixed Try.func45 rfl rfl (by kernel_rfl) 2 (by decide) (fun _ => rfl) lm_impl_rowsOfLetters (fun a b h => t_impl_rowsOfLetters h)).nilfix _
theorem c_impl_rowsOfLetters {a0 : LI} {a1 : Int} {r : L2} (h : p_impl_rowsOfLetters a0 a1 = some r) : F_impl_rowsOfLetters [.one (.sl false 3 (List.map cI a0)), .one (.lit (.int .i64 a1))] = some (((false, [none]), [.sl true 31 (List.map (cL31 true) r)])) := pcon_at (arg := arg_impl_rowsOfLetters) (p := fun a => p_impl_rowsOfLetters a.1 a.2) (res := res_impl_rowsOfLetters) (a := (a0, a1)) (b := r) inj_impl_rowsOfLetters h
@[simp] def c71 (x : Int × Int × Bool) : List V := [.lit (.int .u32 x.1), .lit (.int .i64 x.2.1), .lit (.bool x.2.2)]
theorem c71_inj : ∀ a b : Int × Int × Bool, c71 a = c71 b → a = b := by
  intro a b h
  simp [c71] at h
  simpa [Prod.ext_iff, and_assoc] using h
@[simp] theorem c71_m {a b : List (Int × Int × Bool)} : List.map c71 a = List.map c71 b ↔ a = b := ⟨map_inj' c71_inj a b, fun h => by rw [h]⟩
@[simp] theorem c71_e (l : List (Int × Int × Bool)) : erRows (List.map c71 l) = List.map c71 l := by
  rw [erRows_map, List.map_map]
  exact List.map_congr_left (fun x _ => by simp [V.er])
@[simp] theorem c71_p (l : List (Int × Int × Bool)) : pureRows (List.map c71 l) = true := by
  induction l with
  | nil => rfl
  | cons x l ih => simpa [pureRows, pureRow, pure0] using ih
instance fk_c71 : FlatK c71 3 := ⟨fun _ => rfl, by decide, fun x u hu => by
  simp only [c71, List.mem_cons, List.not_mem_nil, or_false] at hu
  rcases hu with rfl | rfl | rfl <;> exact ⟨_, rfl⟩, c71_inj⟩
@[simp 2000] theorem zl_91 : zeroV Try.prog 91 = some ((.lit (.slice none 0 0)) :: (.lit (.slice none 0 0)) :: fl c71 (List.replicate 220 (0, 0, false))) := by kernel_rfl
def cal_impl_lookerOf (k : Nat) : Cal := calI (tabOf []) (inlOf [])
@[simp] theorem cal_impl_lookerOf_ap (k g : Nat) (vs : List TV) (mem : Mem) (ep : Nat) : cal_impl_lookerOf k g vs mem ep = calI (tabOf []) (inlOf []) g vs mem ep := rfl
theorem ok_impl_lookerOf (k : Nat) (w0 : World) (h0 : True) : CalOk Try.prog w0.heap.size w0 (cal_impl_lookerOf k) := by
  exact calI_ok (J := fun _ => True) stab_true (tabOf_ok _ (by simp [])) (inlOf_ok _ (by simp [])) h0
@[simp] def lm_impl_lookerOf : Nat → List Nat × Nat := fun b => ([], 0)
@[simp] def arg_impl_lookerOf (a : L3 × LI) : List TV := [.agg [.sl false 38 (List.map (cL38 false) a.1)], .one (.sl false 3 (List.map cI a.2))]
@[simp] def res_impl_lookerOf (r : (L3 × LI × (List (Int × Int × Bool)))) : List V := ((.sl false 38 (List.map (cL38 false) r.1)) :: (.sl false 3 (List.map cI r.2.1)) :: fl c71 r.2.2)
def p_impl_lookerOf (a0 : L3) (a1 : LI) : Option ((L3 × LI × (List (Int × Int × Bool)))) :=
 some (a0, a1, (List.replicate 220 (0, 0, false)))
theorem t_impl_lookerOf {a0 : L3} {a1 : LI} {r : (L3 × LI × (List (Int × Int × Bool)))} (h : p_impl_lookerOf a0 a1 = some r) : ∃ k, toldP Try.prog (cal_impl_lookerOf k) k lm_impl_lookerOf Try.f63 (arg_impl_lookerOf (a0, a1)) = some (res_impl_lookerOf r) := by
  unfold p_impl_lookerOf at h
  obtain rfl := Option.some.inj h
  obtain ⟨k, hk⟩ : ∃ k, 0 ≤ k := ⟨_, Nat.le_refl _⟩
  refine ⟨k, ?_⟩
  simp (implicitDefEqProofs := false) [-List.reduceReplicate, -getElem?_pos, -getElem?_neg, Try.f63]
theorem inj_impl_lookerOf : ∀ a b, arg_impl_lookerOf a = arg_impl_lookerOf b → a = b := by
  rintro ⟨x0, x1⟩ ⟨y0, y1⟩ h; simp [arg_impl_lookerOf] at h; simp [Prod.ext_iff, h]
noncomputable def F_impl_lookerOf : PCon := ppcon arg_impl_lookerOf (fun a => p_impl_lookerOf a.1 a.2) res_impl_lookerOf
theorem fn_impl_lookerOf : PFn Try.prog 63 F_impl_lookerOf := PFn.pure cal_impl_lookerOf (fun k w0 h0 => ok_impl_lookerOf k w0 h0) mixed Try.func63 rfl rfl (by kernel_rfl) 2 (by decide) (fun _ => rfl) lm_impl_lookerOf (fun a b h => t_impl_lookerOf h)
theorem c_impl_lookerOf {a0 : L3} {a1 : LI} {r : (L3 × LI × (List (Int × Int × Bool)))} (h : p_impl_lookerOf a0 a1 = some r) : F_impl_lookerOf [.agg [.sl false 38 (List.map (cL38 false) a0)], .one (.sl false 3 (List.map cI a1))] = some ((.sl false 38 (List.map (cL38 false) r.1)) :: (.sl false 3 (List.map cI r.2.1)) :: fl c71 r.2.2) := ppcon_at (arg := arg_impl_lookerOf) (p := fun a => p_impl_lookerOf a.1 a.2) (res := res_impl_lookerOf) (a := (a0, a1)) (b := r) inj_impl_lookerOf h
@[simp] def arg_impl_looker_part (a : (L3 × LI × (List (Int × Int × Bool))) × Int × Int) : List TV := [.one (.lit (.int .i64 a.2.1)), .one (.lit (.int .i64 a.2.2))]
@[simp] def H_impl_looker_part (a : (L3 × LI × (List (Int × Int × Bool))) × Int × Int) : List V := ((.sl false 38 (List.map (cL38 false) a.1.1)) :: (.sl false 3 (List.map cI a.1.2.1)) :: fl c71 a.1.2.2)
@[simp] def res_impl_looker_part (r : ((Int × Int × Bool)) × (L3 × LI × (List (Int × Int × Bool)))) : Sh × List V × List V := ((false, [some 3]), [.lit (.int .u32 r.1.1), .lit (.int .i64 r.1.2.1), .lit (.bool r.1.2.2)], ((.sl false 38 (List.map (cL38 false) r.2.1)) :: (.sl false 3 (List.map cI r.2.2.1)) :: fl c71 r.2.2.2))
theorem inj_impl_looker_part : ∀ a b, H_impl_looker_part a = H_impl_looker_part b → arg_impl_looker_part a = arg_impl_looker_part b → a = b := by
  rintro ⟨x0, x1, x2⟩ ⟨y0, y1, y2⟩ h1 h2; simp [arg_impl_looker_part] at h2; simp [H_impl_looker_part] at h1; simp [Prod.ext_iff, h1, h2]
abbrev RT_impl_looker_part : Type := (L3 × LI × (List (Int × Int × Bool))) → Int → Int → Option (((Int × Int × Bool)) × (L3 × LI × (List (Int × Int × Bool))))
noncomputable def R_impl_looker_part (rec : RT_impl_looker_part) : BCon := (pbcon H_impl_looker_part arg_impl_looker_part (fun a => rec a.1 a.2.1 a.2.2) res_impl_looker_part)
abbrev HR_impl_looker_part (rec : RT_impl_looker_part) : Prop := BFn Try.prog 64 true (pbcon H_impl_looker_part arg_impl_looker_part (fun a => rec a.1 a.2.1 a.2.2) res_impl_looker_part)
theorem fR_impl_looker_part {rec : RT_impl_looker_part} (hrec : HR_impl_looker_part rec) : BFn Try.prog 64 true (R_impl_looker_part rec) := hrec
theorem cR_impl_looker_part {rec : RT_impl_looker_part} {a0 : L3 × LI × (List (Int × Int × Bool))} {a1 : Int} {a2 : Int} {r : ((Int × Int × Bool)) × (L3 × LI × (List (Int × Int × Bool)))} (h : rec a0 a1 a2 = some r) : R_impl_looker_part rec ((.sl false 38 (List.map (cL38 false) a0.1)) :: (.sl false 3 (List.map cI a0.2.1)) :: fl c71 a0.2.2) [.one (.lit (.int .i64 a1)), .one (.lit (.int .i64 a2))] = some ((false, [some 3]), [.lit (.int .u32 r.1.1), .lit (.int .i64 r.1.2.1), .lit (.bool r.1.2.2)], ((.sl false 38 (List.map (cL38 false) r.2.1)) :: (.sl false 3 (List.map cI r.2.2.1)) :: fl c71 r.2.2.2)) := pbcon_at (H := H_impl_looker_part) (arg := arg_impl_looker_part) (p := fun a => rec a.1 a.2.1 a.2.2) (res := res_impl_looker_part) (a := (a0, a1, a2)) (b := r) inj_impl_looker_part h
noncomputable def cal_impl_looker_symbol (rec : RT_impl_looker_part) (k : Nat) : Cal := calI (tabOf []) (inlOf [(64, bI true [some (false, 38), some (false, 3)] (R_impl_looker_part rec))])
@[simp] theorem cal_impl_looker_symbol_ap {rec : RT_impl_looker_part} (k g : Nat) (vs : List TV) (mem : Mem) (ep : Nat) : (cal_impl_looker_symbol rec) k g vs mem ep = calI (tabOf []) (inlOf [(64, bI true [some (false, 38), some (false, 3)] (R_impl_looker_part rec))]) g vs mem ep := rfl
theorem ok_impl_looker_symbol {rec : RT_impl_looker_part} (hrec : HR_impl_looker_part rec) (k : Nat) (w0 : World) (h0 : True) : CalOk Try.prog w0.heap.size w0 ((cal_impl_looker_symbol rec) k) := by
  exact calI_ok (J := fun _ => True) stab_true (tabOf_ok _ (by simp [])) (inlOf_ok _ (by simp [(BFn.inst stab_true (fR_impl_looker_part hrec))])) h0
@[simp] def lm_impl_looker_symbol : Nat → List Nat × Nat := fun b => ([], 0)
@[simp] def arg_impl_looker_symbol (a : (L3 × LI × (List (Int × Int × Bool))) × Int × Int) : List TV := [.one (.lit (.int .i64 a.2.1)), .one (.lit (.int .i64 a.2.2))]
@[simp] def H_impl_looker_symbol (a : (L3 × LI × (List (Int × Int × Bool))) × Int × Int) : List V := ((.sl false 38 (List.map (cL38 false) a.1.1)) :: (.sl false 3 (List.map cI a.1.2.1)) :: fl c71 a.1.2.2)
@[simp] def m0_impl_looker_symbol (a : (L3 × LI × (List (Int × Int × Bool))) × Int × Int) : Mem := [none, some (.box 1 ((.sl false 38 (List.map (cL38 false) a.1.1)) :: (.sl false 3 (List.map cI a.1.2.1)) :: fl c71 a.1.2.2))]
@[simp] def res_impl_looker_symbol (r : ((Int × Int × Bool)) × (L3 × LI × (List (Int × Int × Bool)))) : Sh × List V × List V := ((false, [some 3]), [.lit (.int .u32 r.1.1), .lit (.int .i64 r.1.2.1), .lit (.bool r.1.2.2)], ((.sl false 38 (List.map (cL38 false) r.2.1)) :: (.sl false 3 (List.map cI r.2.2.1)) :: fl c71 r.2.2.2))
def p_impl_looker_symbol (rec : RT_impl_looker_part) (a0 : L3 × LI × (List (Int × Int × Bool))) (a1 : Int) (a2 : Int) : Option (((Int × Int × Bool)) × (L3 × LI × (List (Int × Int × Bool)))) :=
 if 100 ≤ a1 then
  rec (a0.1, a0.2.1, a0.2.2) (IntKind.wrap .i64 (a1 - 100)) a2 >>= fun y3 =>
  some ((y3.1.1, y3.1.2.1, y3.1.2.2), (y3.2.1, y3.2.2.1, y3.2.2.2))
 else
  if a2 < (a0.2.1.length : Int) then
   if 0 ≤ a2 then
    a0.2.1[a2.toNat]? >>= fun y6 =>
    if y6 = a1 then
     if (IntKind.wrap .u64 (IntKind.wrap .i64 (a2 + 1))) < 0 then
      none
     else
      some (((shlI .u32 1 (IntKind.wrap .u64 (IntKind.wrap .i64 (a2 + 1)))), (IntKind.wrap .i64 (a2 + 1)), false), (a0.1, a0.2.1, a0.2.2))
    else
     some ((0, a2, false), (a0.1, a0.2.1, a0.2.2))
   else none
  else
   some ((0, a2, false), (a0.1, a0.2.1, a0.2.2))
theorem t_impl_looker_symbol {rec : RT_impl_looker_part} {a0 : L3 × LI × (List (Int × Int × Bool))} {a1 : Int} {a2 : Int} {r : ((Int × Int × Bool)) × (L3 × LI × (List (Int × Int × Bool)))} (h : p_impl_looker_symbol rec a0 a1 a2 = some r) : ∃ k, toldB Try.prog ((cal_impl_looker_symbol rec) k) k lm_impl_looker_symbol Try.f90 true (.bp 1 1 0) (m0_impl_looker_symbol (a0, a1, a2)) (arg_impl_looker_symbol (a0, a1, a2)) = some (res_impl_looker_symbol r) := by
  unfold p_impl_looker_symbol at h
  rcases ifc h with ⟨h1, h⟩ | ⟨h1, h⟩
  · obtain ⟨y3, h2, h⟩ := bd h
    have h2c := cR_impl_looker_part h2
    obtain rfl := Option.some.inj h
    obtain ⟨k, hk⟩ : ∃ k, 0 ≤ k := ⟨_, Nat.le_refl _⟩
    refine ⟨k, ?_⟩
    simp (implicitDefEqProofs := false) [-getElem?_pos, -getElem?_neg, Try.f90, h1, h2c]
  rcases ifc h with ⟨h4, h⟩ | ⟨h4, h⟩
  · obtain ⟨h5, h⟩ := ifg h
    obtain ⟨y6, h7, h⟩ := bd h
    rcases ifc h with ⟨h8, h⟩ | ⟨h8, h⟩
    · rcases ifc h with ⟨h9, h⟩ | ⟨h9, h⟩
      · cases h
      obtain rfl := Option.some.inj h
      obtain ⟨k, hk⟩ : ∃ k, 0 ≤ k := ⟨_, Nat.le_refl _⟩
      refine ⟨k, ?_⟩
      simp (implicitDefEqProofs := false) [-getElem?_pos, -getElem?_neg, Try.f90, h1, h4, h5, h7, (eq_true h8), g_conv Try.underlying3 Try.underlying80, h9]
    obtain rfl := Option.some.inj h
    obtain ⟨k, hk⟩ : ∃ k, 0 ≤ k := ⟨_, Nat.le_refl _⟩
    refine ⟨k, ?_⟩
    simp (implicitDefEqProofs := false) [-getElem?_pos, -getElem?_neg, Try.f90, h1, h4, h5, h7, h8]
  obtain rfl := Option.some.inj h
  obtain ⟨k, hk⟩ : ∃ k, 0 ≤ k := ⟨_, Nat.le_refl _⟩
  refine ⟨k, ?_⟩
  simp (implicitDefEqProofs := false) [-getElem?_pos, -getElem?_neg, Try.f90, h1, h4]
theorem inj_impl_looker_symbol : ∀ a b, H_impl_looker_symbol a = H_impl_looker_symbol b → arg_impl_looker_symbol a = arg_impl_looker_symbol b → a = b := by
  rintro ⟨x0, x1, x2⟩ ⟨y0, y1, y2⟩ h1 h2; simp [arg_impl_looker_symbol] at h2; simp [H_impl_looker_symbol] at h1; simp [Prod.ext_iff, h1, h2]
noncomputable def F_impl_looker_symbol (rec : RT_impl_looker_part) : BCon := pbcon H_impl_looker_symbol arg_impl_looker_symbol (fun a => p_impl_looker_symbol rec a.1 a.2.1 a.2.2) res_impl_looker_symbol
theorem fn_impl_looker_symbol {rec : RT_impl_looker_part} (hrec : HR_impl_looker_part rec) : BFn Try.prog 90 true (F_impl_looker_symbol rec) := BFn.pure (cal_impl_looker_symbol rec) (fun k w0 h0 => ok_impl_looker_symbol hrec k w0 h0) mixed Try.func90 rfl rfl (by kernel_rfl) 3 (by decide) (fun _ => rfl) lm_impl_looker_symbol (fun _ => .bp 1 1 0) m0_impl_looker_symbol (fun _ => by simp [memB, landC]) (fun a b h => t_impl_looker_symbol h)
theorem c_impl_looker_symbol {rec : RT_impl_looker_part} {a0 : L3 × LI × (List (Int × Int × Bool))} {a1 : Int} {a2 : Int} {r : ((Int × Int × Bool)) × (L3 × LI × (List (Int × Int × Bool)))} (h : p_impl_looker_symbol rec a0 a1 a2 = some r) : (F_impl_looker_symbol rec) ((.sl false 38 (List.map (cL38 false) a0.1)) :: (.sl false 3 (List.map cI a0.2.1)) :: fl c71 a0.2.2) [.one (.lit (.int .i64 a1)), .one (.lit (.int .i64 a2))] = some ((false, [some 3]), [.lit (.int .u32 r.1.1), .lit (.int .i64 r.1.2.1), .lit (.bool r.1.2.2)], ((.sl false 38 (List.map (cL38 false) r.2.1)) :: (.sl false 3 (List.map cI r.2.2.1)) :: fl c71 r.2.2.2)) := pbcon_at (H := H_impl_looker_symbol) (arg := arg_impl_looker_symbol) (p := fun a => p_impl_looker_symbol rec a.1 a.2.1 a.2.2) (res := res_impl_looker_symbol) (a := (a0, a1, a2)) (b := r) inj_impl_looker_symbol h
noncomputable def cal_impl_looker_row (rec : RT_impl_looker_part) (k : Nat) : Cal := calI (tabOf [(65, F_impl_flags_has)]) (inlOf [(90, bI true [some (false, 38), some (false, 3)] (F_impl_looker_symbol rec))])
@[simp] theorem cal_impl_looker_row_ap {rec : RT_impl_looker_part} (k g : Nat) (vs : List TV) (mem : Mem) (ep : Nat) : (cal_impl_looker_row rec) k g vs mem ep = calI (tabOf [(65, F_impl_flags_has)]) (inlOf [(90, bI true [some (false, 38), some (false, 3)] (F_impl_looker_symbol rec))]) g vs mem ep := rfl
theorem ok_impl_looker_row {rec : RT_impl_looker_part} (hrec : HR_impl_looker_part rec) (k : Nat) (w0 : World) (h0 : True) : CalOk Try.prog w0.heap.size w0 ((cal_impl_looker_row rec) k) := by
  exact calI_ok (J := fun _ => True) stab_true (tabOf_ok _ (by simp [fn_impl_flags_has])) (inlOf_ok _ (by simp [(BFn.inst stab_true (fn_impl_looker_symbol hrec))])) h0
@[simp] def lm_impl_looker_row : Nat → List Nat × Nat := fun b => if b = 0 then ([0, 2, 6, 7, 18, 19, 20], 2) else if b = 2000000 then ([], 8888888) else if b = 3000000 then ([0, 6, 7], 2) else if b = 2 then ([0, 2, 6, 7, 9, 10, 11, 18, 19, 20], 2) else if b = 2000002 then ([], 8888888) else if b = 3000002 then ([0, 2, 6, 7, 10, 18, 19, 20], 2) else ([], 0)
@[simp] def arg_impl_looker_row (a : (L3 × LI × (List (Int × Int × Bool))) × LI × Int) : List TV := [.one (.sl false 3 (List.map cI a.2.1)), .one (.lit (.int .i64 a.2.2))]
@[simp] def H_impl_looker_row (a : (L3 × LI × (List (Int × Int × Bool))) × LI × Int) : List V := ((.sl false 38 (List.map (cL38 false) a.1.1)) :: (.sl false 3 (List.map cI a.1.2.1)) :: fl c71 a.1.2.2)
@[simp] def m0_impl_looker_row (a : (L3 × LI × (List (Int × Int × Bool))) × LI × Int) : Mem := [none, some (.box 1 ((.sl false 38 (List.map (cL38 false) a.1.1)) :: (.sl false 3 (List.map cI a.1.2.1)) :: fl c71 a.1.2.2))]
@[simp] def res_impl_looker_row (r : ((Int × Int × Bool)) × (L3 × LI × (List (Int × Int × Bool)))) : Sh × List V × List V := ((false, [some 3]), [.lit (.int .u32 r.1.1), .lit (.int .i64 r.1.2.1), .lit (.bool r.1.2.2)], ((.sl false 38 (List.map (cL38 false) r.2.1)) :: (.sl false 3 (List.map cI r.2.2.1)) :: fl c71 r.2.2.2))
def p_impl_looker_row_L2 (rec : RT_impl_looker_part) (a2 : Int) (y49 : Int) (a1 : LI) (x20b0 : Int) (b3_0b0 : Int) (x10b2 : Int) (x11b2 : Int) (b1_0b2 : L3) (b1_1b2 : LI) (b1_2b2 : List (Int × Int × Bool)) (b3_1b2 : Int) : Option (Int × L3 × LI × (List (Int × Int × Bool)) × Int) :=
 if x11b2 ≤ (b1_1b2.length : Int) then
  p_impl_flags_has b3_0b0 x11b2 >>= fun y67 =>
  if y67 then
   p_impl_looker_symbol rec (b1_0b2, b1_1b2, b1_2b2) y49 x11b2 >>= fun y70 =>
   if b3_1b2 < y70.1.2.1 then
    p_impl_looker_row_L2 rec a2 y49 a1 x20b0 b3_0b0 (orI .u32 x10b2 y70.1.1) (IntKind.wrap .i64 (x11b2 + 1)) y70.2.1 y70.2.2.1 y70.2.2.2 y70.1.2.1
   else
    p_impl_looker_row_L2 rec a2 y49 a1 x20b0 b3_0b0 (orI .u32 x10b2 y70.1.1) (IntKind.wrap .i64 (x11b2 + 1)) y70.2.1 y70.2.2.1 y70.2.2.2 b3_1b2
  else
   p_impl_looker_row_L2 rec a2 y49 a1 x20b0 b3_0b0 x10b2 (IntKind.wrap .i64 (x11b2 + 1)) b1_0b2 b1_1b2 b1_2b2 b3_1b2
 else
  some (x10b2, b1_0b2, b1_1b2, b1_2b2, b3_1b2)
partial_fixpoint
@[simp] noncomputable def L_impl_looker_row_L2 : Code := nav [1, 1, 0, 1, 0, 0, 1, 1, 0, 0, 1, 1, 0, 1, 0, 0] (bodyOf Try.f78)
@[simp] def T_impl_looker_row_L2 (a2 : Int) (y49 : Int) (a1 : LI) (x20b0 : Int) (b3_0b0 : Int) (x10b2 : Int) (x11b2 : Int) (b1_0b2 : L3) (b1_1b2 : LI) (b1_2b2 : List (Int × Int × Bool)) (b3_1b2 : Int) (st : Nat → Nat) : St := ⟨[(0, .one (.bp 1 1 0)), (2, .one (.lit (.int .i64 a2))), (6, .one (.bp 2 2 0)), (7, .one (.bp 3 3 0)), (9, .one (.lit (.int .i64 y49))), (10, .one (.lit (.int .u32 x10b2))), (11, .one (.lit (.int .i64 x11b2))), (18, .one (.sl false 3 (List.map cI a1))), (19, .one (.lit (.int .i64 (a1.length : Int)))), (20, .one (.lit (.int .i64 x20b0)))], [none, some (.box 1 ((.sl false 38 (List.map (cL38 false) b1_0b2)) :: (.sl false 3 (List.map cI b1_1b2)) :: fl c71 b1_2b2)), some (.box 2 [.lit (.int .u32 0), .lit (.int .i64 0), .lit (.bool false)]), some (.box 3 [.lit (.int .u32 b3_0b0), .lit (.int .i64 b3_1b2), .lit (.bool false)])], (st 0)⟩
@[simp] def U_impl_looker_row_L2 (a2 : Int) (y49 : Int) (a1 : LI) (x20b0 : Int) (b3_0b0 : Int) (o : Int × L3 × LI × (List (Int × Int × Bool)) × Int) (st : Nat → Nat) : St := ⟨[(0, .one (.bp 1 1 0)), (2, .one (.lit (.int .i64 a2))), (6, .one (.bp 2 2 0)), (7, .one (.bp 3 3 0)), (10, .one (.lit (.int .u32 o.1))), (18, .one (.sl false 3 (List.map cI a1))), (19, .one (.lit (.int .i64 (a1.length : Int)))), (20, .one (.lit (.int .i64 x20b0)))], [none, some (.box 1 ((.sl false 38 (List.map (cL38 false) o.2.1)) :: (.sl false 3 (List.map cI o.2.2.1)) :: fl c71 o.2.2.2.1)), some (.box 2 [.lit (.int .u32 0), .lit (.int .i64 0), .lit (.bool false)]), some (.box 3 [.lit (.int .u32 b3_0b0), .lit (.int .i64 o.2.2.2.2), .lit (.bool false)])], (st 0)⟩
abbrev Q_impl_looker_row_L2 (rec : RT_impl_looker_part) (a2 : Int) (y49 : Int) (a1 : LI) (x20b0 : Int) (b3_0b0 : Int) (x10b2 : Int) (x11b2 : Int) (b1_0b2 : L3) (b1_1b2 : LI) (b1_2b2 : List (Int × Int × Bool)) (b3_1b2 : Int) (o : Int × L3 × LI × (List (Int × Int × Bool)) × Int) : Prop := ∀ st : Nat → Nat, LoopG Try.prog (cal_impl_looker_row rec) 2 lm_impl_looker_row 2 L_impl_looker_row_L2 (U_impl_looker_row_L2 a2 y49 a1 x20b0 b3_0b0) (T_impl_looker_row_L2 a2 y49 a1 x20b0 b3_0b0 x10b2 x11b2 b1_0b2 b1_1b2 b1_2b2 b3_1b2 st) o
theorem l_impl_looker_row_L2 {rec : RT_impl_looker_part} {a2 : Int} {y49 : Int} {a1 : LI} {x20b0 : Int} {b3_0b0 : Int} {x10b2 : Int} {x11b2 : Int} {b1_0b2 : L3} {b1_1b2 : LI} {b1_2b2 : List (Int × Int × Bool)} {b3_1b2 : Int} {o : Int × L3 × LI × (List (Int × Int × Bool)) × Int} (h : p_impl_looker_row_L2 rec a2 y49 a1 x20b0 b3_0b0 x10b2 x11b2 b1_0b2 b1_1b2 b1_2b2 b3_1b2 = some o) : Q_impl_looker_row_L2 rec a2 y49 a1 x20b0 b3_0b0 x10b2 x11b2 b1_0b2 b1_1b2 b1_2b2 b3_1b2 o := by
  refine p_impl_looker_row_L2.partial_correctness rec a2 y49 a1 x20b0 b3_0b0 (motive := fun x10b2 x11b2 b1_0b2 b1_1b2 b1_2b2 b3_1b2 o => Q_impl_looker_row_L2 rec a2 y49 a1 x20b0 b3_0b0 x10b2 x11b2 b1_0b2 b1_1b2 b1_2b2 b3_1b2 o) ?_ x10b2 x11b2 b1_0b2 b1_1b2 b1_2b2 b3_1b2 o h
  clear h o x10b2 x11b2 b1_0b2 b1_1b2 b1_2b2 b3_1b2
  intro p' ih x10b2 x11b2 b1_0b2 b1_1b2 b1_2b2 b3_1b2 r h st
  rcases ifc h with ⟨h65, h⟩ | ⟨h65, h⟩
  · obtain ⟨y67, h66, h⟩ := bd h
    have h66c := c_impl_flags_has h66
    rcases ifb h with ⟨h68, h⟩ | ⟨h68, h⟩
    · obtain ⟨y70, h69, h⟩ := bd h
      have h69c := c_impl_looker_symbol h69
      rcases ifc h with ⟨h71, h⟩ | ⟨h71, h⟩
      · exact LoopG.step 0 (fun k hk => by simp (implicitDefEqProofs := false) [-getElem?_pos, -getElem?_neg, Try.f78, h65, h66c, h68, h69c, h71]) (ih _ _ _ _ _ _ _ h (sl [((st 0) + 5)]))
      exact LoopG.step 0 (fun k hk => by simp (implicitDefEqProofs := false) [-getElem?_pos, -getElem?_neg, Try.f78, h65, h66c, h68, h69c, h71]) (ih _ _ _ _ _ _ _ h (sl [((st 0) + 5)]))
    exact LoopG.step 0 (fun k hk => by simp (implicitDefEqProofs := false) [-getElem?_pos, -getElem?_neg, Try.f78, h65, h66c, h68]) (ih _ _ _ _ _ _ _ h (sl [((st 0) + 1)]))
  obtain rfl := Option.some.inj h
  exact LoopG.exit (sl [(st 0)]) 0 (fun k hk => by simp (implicitDefEqProofs := false) [-getElem?_pos, -getElem?_neg, Try.f78, h65])
def p_impl_looker_row_L0 (rec : RT_impl_looker_part) (a2 : Int) (a1 : LI) (x20b0 : Int) (b1_0b0 : L3) (b1_1b0 : LI) (b1_2b0 : List (Int × Int × Bool)) (b3_0b0 : Int) (b3_1b0 : Int) : Option (L3 × LI × (List (Int × Int × Bool)) × Int × Int) :=
 if x20b0 < (a1.length : Int) then
  if 0 ≤ x20b0 then
   a1[x20b0.toNat]? >>= fun y49 =>
   p_impl_looker_row_L2 rec a2 y49 a1 x20b0 b3_0b0 0 a2 b1_0b0 b1_1b0 b1_2b0 b3_1b0 >>= fun o73 =>
   if o73.1 = 0 then
    some (o73.2.1, o73.2.2.1, o73.2.2.2.1, o73.1, o73.2.2.2.2)
   else
    p_impl_looker_row_L0 rec a2 a1 (IntKind.wrap .i64 (x20b0 + 1)) o73.2.1 o73.2.2.1 o73.2.2.2.1 o73.1 o73.2.2.2.2
  else none
 else
  some (b1_0b0, b1_1b0, b1_2b0, b3_0b0, b3_1b0)
partial_fixpoint
@[simp] noncomputable def L_impl_looker_row_L0 : Code := nav [1, 1, 0, 1, 0, 0] (bodyOf Try.f78)
@[simp] def T_impl_looker_row_L0 (a2 : Int) (a1 : LI) (x20b0 : Int) (b1_0b0 : L3) (b1_1b0 : LI) (b1_2b0 : List (Int × Int × Bool)) (b3_0b0 : Int) (b3_1b0 : Int) (st : Nat → Nat) : St := ⟨[(0, .one (.bp 1 1 0)), (2, .one (.lit (.int .i64 a2))), (6, .one (.bp 2 2 0)), (7, .one (.bp 3 3 0)), (18, .one (.sl false 3 (List.map cI a1))), (19, .one (.lit (.int .i64 (a1.length : Int)))), (20, .one (.lit (.int .i64 x20b0)))], [none, some (.box 1 ((.sl false 38 (List.map (cL38 false) b1_0b0)) :: (.sl false 3 (List.map cI b1_1b0)) :: fl c71 b1_2b0)), some (.box 2 [.lit (.int .u32 0), .lit (.int .i64 0), .lit (.bool false)]), some (.box 3 [.lit (.int .u32 b3_0b0), .lit (.int .i64 b3_1b0), .lit (.bool false)])], (st 0)⟩
@[simp] def U_impl_looker_row_L0 (a2 : Int) (a1 : LI) (o : L3 × LI × (List (Int × Int × Bool)) × Int × Int) (st : Nat → Nat) : St := ⟨[(0, .one (.bp 1 1 0)), (6, .one (.bp 2 2 0)), (7, .one (.bp 3 3 0))], [none, some (.box 1 ((.sl false 38 (List.map (cL38 false) o.1)) :: (.sl false 3 (List.map cI o.2.1)) :: fl c71 o.2.2.1)), some (.box 2 [.lit (.int .u32 0), .lit (.int .i64 0), .lit (.bool false)]), some (.box 3 [.lit (.int .u32 o.2.2.2.1), .lit (.int .i64 o.2.2.2.2), .lit (.bool false)])], (st 0)⟩
abbrev Q_impl_looker_row_L0 (rec : RT_impl_looker_part) (a2 : Int) (a1 : LI) (x20b0 : Int) (b1_0b0 : L3) (b1_1b0 : LI) (b1_2b0 : List (Int × Int × Bool)) (b3_0b0 : Int) (b3_1b0 : Int) (o : L3 × LI × (List (Int × Int × Bool)) × Int × Int) : Prop := ∀ st : Nat → Nat, LoopG Try.prog (cal_impl_looker_row rec) 2 lm_impl_looker_row 0 L_impl_looker_row_L0 (U_impl_looker_row_L0 a2 a1) (T_impl_looker_row_L0 a2 a1 x20b0 b1_0b0 b1_1b0 b1_2b0 b3_0b0 b3_1b0 st) o
theorem l_impl_looker_row_L0 {rec : RT_impl_looker_part} {a2 : Int} {a1 : LI} {x20b0 : Int} {b1_0b0 : L3} {b1_1b0 : LI} {b1_2b0 : List (Int × Int × Bool)} {b3_0b0 : Int} {b3_1b0 : Int} {o : L3 × LI × (List (Int × Int × Bool)) × Int × Int} (h : p_impl_looker_row_L0 rec a2 a1 x20b0 b1_0b0 b1_1b0 b1_2b0 b3_0b0 b3_1b0 = some o) : Q_impl_looker_row_L0 rec a2 a1 x20b0 b1_0b0 b1_1b0 b1_2b0 b3_0b0 b3_1b0 o := by
  refine p_impl_looker_row_L0.partial_correctness rec a2 a1 (motive := fun x20b0 b1_0b0 b1_1b0 b1_2b0 b3_0b0 b3_1b0 o => Q_impl_looker_row_L0 rec a2 a1 x20b0 b1_0b0 b1_1b0 b1_2b0 b3_0b0 b3_1b0 o) ?_ x20b0 b1_0b0 b1_1b0 b1_2b0 b3_0b0 b3_1b0 o h
  clear h o x20b0 b1_0b0 b1_1b0 b1_2b0 b3_0b0 b3_1b0
  intro p' ih x20b0 b1_0b0 b1_1b0 b1_2b0 b3_0b0 b3_1b0 r h st
  rcases ifc h with ⟨h47, h⟩ | ⟨h47, h⟩
  · obtain ⟨h48, h⟩ := ifg h
    obtain ⟨y49, h50, h⟩ := bd h
    obtain ⟨o73, h72, h⟩ := bd h
    have qK74 := l_impl_looker_row_L2 h72 (sl [(st 0)])
    obtain ⟨s75, K74, qK74⟩ := qK74
    rcases ifc h with ⟨h76, h⟩ | ⟨h76, h⟩
    · obtain rfl := Option.some.inj h
      refine LoopG.exit (sl [(s75 0)]) K74 (fun k hk => ?_)
      have jK74 := qK74 k (by omega) k (by omega)
      simp (implicitDefEqProofs := false) [-getElem?_pos, -getElem?_neg, Try.f78, h47, h48, h50, (eq_true h76)] at jK74
      simp (implicitDefEqProofs := false) [-getElem?_pos, -getElem?_neg, Try.f78, h47, h48, h50, (eq_true h76), jK74]
    refine LoopG.step K74 (fun k hk => ?_) (ih _ _ _ _ _ _ _ h (sl [(s75 0)]))
    have jK74 := qK74 k (by omega) k (by omega)
    simp (implicitDefEqProofs := false) [-getElem?_pos, -getElem?_neg, Try.f78, h47, h48, h50, h76] at jK74
    simp (implicitDefEqProofs := false) [-getElem?_pos, -getElem?_neg, Try.f78, h47, h48, h50, h76, jK74]
  obtain rfl := Option.some.inj h
  exact LoopG.exit (sl [(st 0)]) 0 (fun k hk => by simp (implicitDefEqProofs := false) [-getElem?_pos, -getElem?_neg, Try.f78, h47])
def p_impl_looker_row (rec : RT_impl_looker_part) (a0 : L3 × LI × (List (Int × Int × Bool))) (a1 : LI) (a2 : Int) : Option (((Int × Int × Bool)) × (L3 × LI × (List (Int × Int × Bool)))) :=
 if (IntKind.wrap .u64 a2) < 0 then
  none
 else
  p_impl_looker_row_L0 rec a2 a1 0 a0.1 a0.2.1 a0.2.2 (shlI .u32 1 (IntKind.wrap .u64 a2)) a2 >>= fun o78 =>
  some ((o78.2.2.2.1, o78.2.2.2.2, false), (o78.1, o78.2.1, o78.2.2.1))
theorem t_impl_looker_row {rec : RT_impl_looker_part} {a0 : L3 × LI × (List (Int × Int × Bool))} {a1 : LI} {a2 : Int} {r : ((Int × Int × Bool)) × (L3 × LI × (List (Int × Int × Bool)))} (h : p_impl_looker_row rec a0 a1 a2 = some r) : ∃ k, toldB Try.prog ((cal_impl_looker_row rec) k) k lm_impl_looker_row Try.f78 true (.bp 1 1 0) (m0_impl_looker_row (a0, a1, a2)) (arg_impl_looker_row (a0, a1, a2)) = some (res_impl_looker_row r) := by
  unfold p_impl_looker_row at h
  rcases ifc h with ⟨h1, h⟩ | ⟨h1, h⟩
  · cases h
  obtain ⟨o78, h77, h⟩ := bd h
  have qK79 := l_impl_looker_row_L0 h77 (sl [4])
  obtain ⟨s80, K79, qK79⟩ := qK79
  obtain rfl := Option.some.inj h
  obtain ⟨k, hk⟩ : ∃ k, K79 ≤ k := ⟨_, Nat.le_refl _⟩
  have jK79 := qK79 k (by omega) k (by omega)
  simp (implicitDefEqProofs := false) [-getElem?_pos, -getElem?_neg, Try.f78, g_conv Try.underlying3 Try.underlying80, h1] at jK79
  refine ⟨k, ?_⟩
  simp (implicitDefEqProofs := false) [-getElem?_pos, -getElem?_neg, Try.f78, g_conv Try.underlying3 Try.underlying80, h1, jK79]
theorem inj_impl_looker_row : ∀ a b, H_impl_looker_row a = H_impl_looker_row b → arg_impl_looker_row a = arg_impl_looker_row b → a = b := by
  rintro ⟨x0, x1, x2⟩ ⟨y0, y1, y2⟩ h1 h2; simp [arg_impl_looker_row] at h2; simp [H_impl_looker_row] at h1; simp [Prod.ext_iff, h1, h2]
noncomputable def F_impl_looker_row (rec : RT_impl_looker_part) : BCon := pbcon H_impl_looker_row arg_impl_looker_row (fun a => p_impl_looker_row rec a.1 a.2.1 a.2.2) res_impl_looker_row
theorem fn_impl_looker_row {rec : RT_impl_looker_part} (hrec : HR_impl_looker_part rec) : BFn Try.prog 78 true (F_impl_looker_row rec) := BFn.pure (cal_impl_looker_row rec) (fun k w0 h0 => ok_impl_looker_row hrec k w0 h0) mixed Try.func78 rfl rfl (by kernel_rfl) 3 (by decide) (fun _ => rfl) lm_impl_looker_row (fun _ => .bp 1 1 0) m0_impl_looker_row (fun _ => by simp [memB, landC]) (fun a b h => t_impl_looker_row h)
theorem c_impl_looker_row {rec : RT_impl_looker_part} {a0 : L3 × LI × (List (Int × Int × Bool))} {a1 : LI} {a2 : Int} {r : ((Int × Int × Bool)) × (L3 × LI × (List (Int × Int × Bool)))} (h : p_impl_looker_row rec a0 a1 a2 = some r) : (F_impl_looker_row rec) ((.sl false 38 (List.map (cL38 false) a0.1)) :: (.sl false 3 (List.map cI a0.2.1)) :: fl c71 a0.2.2) [.one (.sl false 3 (List.map cI a1)), .one (.lit (.int .i64 a2))] = some ((false, [some 3]), [.lit (.int .u32 r.1.1), .lit (.int .i64 r.1.2.1), .lit (.bool r.1.2.2)], ((.sl false 38 (List.map (cL38 false) r.2.1)) :: (.sl false 3 (List.map cI r.2.2.1)) :: fl c71 r.2.2.2)) := pbcon_at (H := H_impl_looker_row) (arg := arg_impl_looker_row) (p := fun a => p_impl_looker_row rec a.1 a.2.1 a.2.2) (res := res_impl_looker_row) (a := (a0, a1, a2)) (b := r) inj_impl_looker_row h
noncomputable def cal_impl_looker_partb (rec : RT_impl_looker_part) (k : Nat) : Cal := calI (tabOf []) (inlOf [(78, bI true [some (false, 38), some (false, 3)] (F_impl_looker_row rec))])
@[simp] theorem cal_impl_looker_partb_ap {rec : RT_impl_looker_part} (k g : Nat) (vs : List TV) (mem : Mem) (ep : Nat) : (cal_impl_looker_partb rec) k g vs mem ep = calI (tabOf []) (inlOf [(78, bI true [some (false, 38), some (false, 3)] (F_impl_looker_row rec))]) g vs mem ep := rfl
theorem ok_impl_looker_partb {rec : RT_impl_looker_part} (hrec : HR_impl_looker_part rec) (k : Nat) (w0 : World) (h0 : True) : CalOk Try.prog w0.heap.size w0 ((cal_impl_looker_partb rec) k) := by
  exact calI_ok (J := fun _ => True) stab_true (tabOf_ok _ (by simp [])) (inlOf_ok _ (by simp [(BFn.inst stab_true (fn_impl_looker_row hrec))])) h0
@[simp] def lm_impl_looker_partb : Nat → List Nat × Nat := fun b => if b = 0 then ([0, 1, 2, 6, 8, 32, 33, 34], 3) else if b = 2000000 then ([], 8888888) else if b = 3000000 then ([0, 1, 2, 6, 8], 3) else ([], 0)
theorem dr_impl_looker_partb_12 : drawn (opsOf (nav [1, 1, 1, 1, 0] (bodyOf Try.f64))) = some ([0, 1, 2, 3, 4, 5, 6, 7], [8]) := by kernel_rfl
@[simp] def arg_impl_looker_partb (a : (L3 × LI × (List (Int × Int × Bool))) × Int × Int) : List TV := [.one (.lit (.int .i64 a.2.1)), .one (.lit (.int .i64 a.2.2))]
@[simp] def H_impl_looker_partb (a : (L3 × LI × (List (Int × Int × Bool))) × Int × Int) : List V := ((.sl false 38 (List.map (cL38 false) a.1.1)) :: (.sl false 3 (List.map cI a.1.2.1)) :: fl c71 a.1.2.2)
@[simp] def m0_impl_looker_partb (a : (L3 × LI × (List (Int × Int × Bool))) × Int × Int) : Mem := [none, some (.box 1 ((.sl false 38 (List.map (cL38 false) a.1.1)) :: (.sl false 3 (List.map cI a.1.2.1)) :: fl c71 a.1.2.2))]
@[simp] def res_impl_looker_partb (r : ((Int × Int × Bool)) × (L3 × LI × (List (Int × Int × Bool)))) : Sh × List V × List V := ((false, [some 3]), [.lit (.int .u32 r.1.1), .lit (.int .i64 r.1.2.1), .lit (.bool r.1.2.2)], ((.sl false 38 (List.map (cL38 false) r.2.1)) :: (.sl false 3 (List.map cI r.2.2.1)) :: fl c71 r.2.2.2))
def p_impl_looker_partb_L0 (rec : RT_impl_looker_part) (a1 : Int) (a2 : Int) (y8 : L2) (y5 : Int × Int × Bool) (x34b0 : Int) (b1_0b0 : L3) (b1_1b0 : LI) (b1_2b0 : List (Int × Int × Bool)) (b4_0b0 : Int) (b4_1b0 : Int) : Option (L3 × LI × (List (Int × Int × Bool)) × Int × Int) :=
 if x34b0 < (y8.length : Int) then
  if 0 ≤ x34b0 then
   y8[x34b0.toNat]? >>= fun y25 =>
   p_impl_looker_row rec (b1_0b0, b1_1b0, b1_2b0) y25 a2 >>= fun y28 =>
   if b4_1b0 < y28.1.2.1 then
    p_impl_looker_partb_L0 rec a1 a2 y8 y5 (IntKind.wrap .i64 (x34b0 + 1)) y28.2.1 y28.2.2.1 y28.2.2.2 (orI .u32 b4_0b0 y28.1.1) y28.1.2.1
   else
    p_impl_looker_partb_L0 rec a1 a2 y8 y5 (IntKind.wrap .i64 (x34b0 + 1)) y28.2.1 y28.2.2.1 y28.2.2.2 (orI .u32 b4_0b0 y28.1.1) b4_1b0
  else none
 else
  some (b1_0b0, b1_1b0, b1_2b0, b4_0b0, b4_1b0)
partial_fixpoint
@[simp] noncomputable def L_impl_looker_partb_L0 : Code := nav [1, 1, 1, 0, 1, 0, 0] (bodyOf Try.f64)
@[simp] def T_impl_looker_partb_L0 (a1 : Int) (a2 : Int) (y8 : L2) (y5 : Int × Int × Bool) (x34b0 : Int) (b1_0b0 : L3) (b1_1b0 : LI) (b1_2b0 : List (Int × Int × Bool)) (b4_0b0 : Int) (b4_1b0 : Int) (st : Nat → Nat) : St := ⟨[(0, .one (.bp 1 1 0)), (1, .one (.lit (.int .i64 a1))), (2, .one (.lit (.int .i64 a2))), (6, .one (.bp 2 2 0)), (8, .one (.bp 4 4 0)), (32, .one (.sl false 31 (List.map (cL31 false) y8))), (33, .one (.lit (.int .i64 (y8.length : Int)))), (34, .one (.lit (.int .i64 x34b0)))], [none, some (.box 1 ((.sl false 38 (List.map (cL38 false) b1_0b0)) :: (.sl false 3 (List.map cI b1_1b0)) :: fl c71 b1_2b0)), some (.box 2 [.lit (.int .u32 0), .lit (.int .i64 0), .lit (.bool false)]), some (.box 3 [.lit (.int .u32 y5.1), .lit (.int .i64 y5.2.1), .lit (.bool y5.2.2)]), some (.box 4 [.lit (.int .u32 b4_0b0), .lit (.int .i64 b4_1b0), .lit (.bool true)])], (st 0)⟩
@[simp] def U_impl_looker_partb_L0 (a1 : Int) (a2 : Int) (y8 : L2) (y5 : Int × Int × Bool) (o : L3 × LI × (List (Int × Int × Bool)) × Int × Int) (st : Nat → Nat) : St := ⟨[(0, .one (.bp 1 1 0)), (1, .one (.lit (.int .i64 a1))), (2, .one (.lit (.int .i64 a2))), (6, .one (.bp 2 2 0)), (8, .one (.bp 4 4 0))], [none, some (.box 1 ((.sl false 38 (List.map (cL38 false) o.1)) :: (.sl false 3 (List.map cI o.2.1)) :: fl c71 o.2.2.1)), some (.box 2 [.lit (.int .u32 0), .lit (.int .i64 0), .lit (.bool false)]), some (.box 3 [.lit (.int .u32 y5.1), .lit (.int .i64 y5.2.1), .lit (.bool y5.2.2)]), some (.box 4 [.lit (.int .u32 o.2.2.2.1), .lit (.int .i64 o.2.2.2.2), .lit (.bool true)])], (st 0)⟩
abbrev Q_impl_looker_partb_L0 (rec : RT_impl_looker_part) (a1 : Int) (a2 : Int) (y8 : L2) (y5 : Int × Int × Bool) (x34b0 : Int) (b1_0b0 : L3) (b1_1b0 : LI) (b1_2b0 : List (Int × Int × Bool)) (b4_0b0 : Int) (b4_1b0 : Int) (o : L3 × LI × (List (Int × Int × Bool)) × Int × Int) : Prop := ∀ st : Nat → Nat, LoopG Try.prog (cal_impl_looker_partb rec) 2 lm_impl_looker_partb 0 L_impl_looker_partb_L0 (U_impl_looker_partb_L0 a1 a2 y8 y5) (T_impl_looker_partb_L0 a1 a2 y8 y5 x34b0 b1_0b0 b1_1b0 b1_2b0 b4_0b0 b4_1b0 st) o
theorem l_impl_looker_partb_L0 {rec : RT_impl_looker_part} {a1 : Int} {a2 : Int} {y8 : L2} {y5 : Int × Int × Bool} {x34b0 : Int} {b1_0b0 : L3} {b1_1b0 : LI} {b1_2b0 : List (Int × Int × Bool)} {b4_0b0 : Int} {b4_1b0 : Int} {o : L3 × LI × (List (Int × Int × Bool)) × Int × Int} (h : p_impl_looker_partb_L0 rec a1 a2 y8 y5 x34b0 b1_0b0 b1_1b0 b1_2b0 b4_0b0 b4_1b0 = some o) : Q_impl_looker_partb_L0 rec a1 a2 y8 y5 x34b0 b1_0b0 b1_1b0 b1_2b0 b4_0b0 b4_1b0 o := by
  refine p_impl_looker_partb_L0.partial_correctness rec a1 a2 y8 y5 (motive := fun x34b0 b1_0b0 b1_1b0 b1_2b0 b4_0b0 b4_1b0 o => Q_impl_looker_partb_L0 rec a1 a2 y8 y5 x34b0 b1_0b0 b1_1b0 b1_2b0 b4_0b0 b4_1b0 o) ?_ x34b0 b1_0b0 b1_1b0 b1_2b0 b4_0b0 b4_1b0 o h
  clear h o x34b0 b1_0b0 b1_1b0 b1_2b0 b4_0b0 b4_1b0
  intro p' ih x34b0 b1_0b0 b1_1b0 b1_2b0 b4_0b0 b4_1b0 r h st
  rcases ifc h with ⟨h23, h⟩ | ⟨h23, h⟩
  · obtain ⟨h24, h⟩ := ifg h
    obtain ⟨y25, h26, h⟩ := bd h
    obtain ⟨y28, h27, h⟩ := bd h
    have h27c := c_impl_looker_row h27
    rcases ifc h with ⟨h29, h⟩ | ⟨h29, h⟩
    · exact LoopG.step 0 (fun k hk => by simp (implicitDefEqProofs := false) [-getElem?_pos, -getElem?_neg, Try.f64, h23, h24, h26, h27c, h29]) (ih _ _ _ _ _ _ _ h (sl [((st 0) + 4)]))
    exact LoopG.step 0 (fun k hk => by simp (implicitDefEqProofs := false) [-getElem?_pos, -getElem?_neg, Try.f64, h23, h24, h26, h27c, h29]) (ih _ _ _ _ _ _ _ h (sl [((st 0) + 4)]))
  obtain rfl := Option.some.inj h
  exact LoopG.exit (sl [(st 0)]) 0 (fun k hk => by simp (implicitDefEqProofs := false) [-getElem?_pos, -getElem?_neg, Try.f64, h23])
def p_impl_looker_partb (rec : RT_impl_looker_part) (a0 : L3 × LI × (List (Int × Int × Bool))) (a1 : Int) (a2 : Int) : Option (((Int × Int × Bool)) × (L3 × LI × (List (Int × Int × Bool)))) :=
 if 0 ≤ a1 then
  if a1.toNat < 20 then
   if 0 ≤ a2 then
    if a2.toNat < 11 then
     a0.2.2[(a1.toNat * 11 + a2.toNat)]? >>= fun y5 =>
     if y5.2.2 then
      some ((y5.1, y5.2.1, true), (a0.1, a0.2.1, a0.2.2))
     else
      a0.1[a1.toNat]? >>= fun y8 =>
      p_impl_looker_partb_L0 rec a1 a2 y8 y5 0 a0.1 a0.2.1 a0.2.2 0 a2 >>= fun o31 =>
      o31.2.2.1[(a1.toNat * 11 + a2.toNat)]? >>= fun y34 =>
      some (List.set o31.2.2.1 (a1.toNat * 11 + a2.toNat) (o31.2.2.2.1, o31.2.2.2.2, true)) >>= fun l36 =>
      some ((o31.2.2.2.1, o31.2.2.2.2, true), (o31.1, o31.2.1, l36))
    else none
   else none
  else none
 else none
theorem t_impl_looker_partb {rec : RT_impl_looker_part} {a0 : L3 × LI × (List (Int × Int × Bool))} {a1 : Int} {a2 : Int} {r : ((Int × Int × Bool)) × (L3 × LI × (List (Int × Int × Bool)))} (h : p_impl_looker_partb rec a0 a1 a2 = some r) : ∃ k, toldB Try.prog ((cal_impl_looker_partb rec) k) k lm_impl_looker_partb Try.f64 true (.bp 1 1 0) (m0_impl_looker_partb (a0, a1, a2)) (arg_impl_looker_partb (a0, a1, a2)) = some (res_impl_looker_partb r) := by
  unfold p_impl_looker_partb at h
  obtain ⟨h1, h⟩ := ifg h
  obtain ⟨h2, h⟩ := ifg h
  have h2i : a1 < 20 := by omega
  obtain ⟨h3, h⟩ := ifg h
  obtain ⟨h4, h⟩ := ifg h
  have h4i : a2 < 11 := by omega
  obtain ⟨y5, h6, h⟩ := bd h
  have h6b := (List.getElem?_eq_some_iff.1 h6).1
  have h6e0 := fl_el (k := c71) (a1.toNat * 11 + a2.toNat) 0 (by decide) a0.2.2
  have h6e1 := fl_el (k := c71) (a1.toNat * 11 + a2.toNat) 1 (by decide) a0.2.2
  have h6e2 := fl_el (k := c71) (a1.toNat * 11 + a2.toNat) 2 (by decide) a0.2.2
  rcases ifb h with ⟨h7, h⟩ | ⟨h7, h⟩
  · obtain rfl := Option.some.inj h
    obtain ⟨k, hk⟩ : ∃ k, 0 ≤ k := ⟨_, Nat.le_refl _⟩
    refine ⟨k, ?_⟩
    simp (implicitDefEqProofs := false) [-getElem?_pos, -getElem?_neg, Try.f64, h1, h2, h2i, h3, h4, h4i, h6, h6b, h6e0, h6e1, h6e2, h7]
  obtain ⟨y8, h9, h⟩ := bd h
  obtain ⟨o31, h30, h⟩ := bd h
  have qK32 := l_impl_looker_partb_L0 h30 (sl [5])
  obtain ⟨s33, K32, qK32⟩ := qK32
  obtain ⟨y34, h35, h⟩ := bd h
  have h35b := (List.getElem?_eq_some_iff.1 h35).1
  have h35e0 := fl_el (k := c71) (a1.toNat * 11 + a2.toNat) 0 (by decide) o31.2.2.1
  have h35e1 := fl_el (k := c71) (a1.toNat * 11 + a2.toNat) 1 (by decide) o31.2.2.1
  have h35e2 := fl_el (k := c71) (a1.toNat * 11 + a2.toNat) 2 (by decide) o31.2.2.1
  obtain ⟨l36, h37, h⟩ := bd h
  have h37r : putEl 3 (a1.toNat * 11 + a2.toNat) 0 [.lit (.int .u32 o31.2.2.2.1), .lit (.int .i64 o31.2.2.2.2), .lit (.bool true)] (fl c71 o31.2.2.1) = some (fl c71 l36) := by rw [← Option.some.inj h37]; exact fl_put (k := c71) (by assumption) (o31.2.2.2.1, o31.2.2.2.2, true)
  obtain rfl := Option.some.inj h
  obtain ⟨k, hk⟩ : ∃ k, K32 ≤ k := ⟨_, Nat.le_refl _⟩
  have jK32 := qK32 k (by omega) k (by omega)
  simp (implicitDefEqProofs := false) [-getElem?_pos, -getElem?_neg, Try.f64, h1, h2, h2i, h3, h4, h4i, h6, h6b, h6e0, h6e1, h6e2, h7, h9, h35, h35b, h35e0, h35e1, h35e2, h37r] at jK32
  have hd_impl_looker_partb_12 := dr_impl_looker_partb_12
  simp only [opsOf, nav, bodyOf, Try.f64, Option.getD_some] at hd_impl_looker_partb_12
  refine ⟨k, ?_⟩
  simp (implicitDefEqProofs := false) [-getElem?_pos, -getElem?_neg, Try.f64, h1, h2, h2i, h3, h4, h4i, h6, h6b, h6e0, h6e1, h6e2, h7, h9, ex_draw2 _ _ hd_impl_looker_partb_12, h35, h35b, h35e0, h35e1, h35e2, h37r, jK32]
theorem inj_impl_looker_partb : ∀ a b, H_impl_looker_partb a = H_impl_looker_partb b → arg_impl_looker_partb a = arg_impl_looker_partb b → a = b := by
  rintro ⟨x0, x1, x2⟩ ⟨y0, y1, y2⟩ h1 h2; simp [arg_impl_looker_partb] at h2; simp [H_impl_looker_partb] at h1; simp [Prod.ext_iff, h1, h2]
noncomputable def F_impl_looker_partb (rec : RT_impl_looker_part) : BCon := pbcon H_impl_looker_partb arg_impl_looker_partb (fun a => p_impl_looker_partb rec a.1 a.2.1 a.2.2) res_impl_looker_partb
theorem fn_impl_looker_partb {rec : RT_impl_looker_part} (hrec : HR_impl_looker_part rec) : BFn Try.prog 64 true (F_impl_looker_partb rec) := BFn.pure (cal_impl_looker_partb rec) (fun k w0 h0 => ok_impl_looker_partb hrec k w0 h0) mixed Try.func64 rfl rfl (by kernel_rfl) 3 (by decide) (fun _ => rfl) lm_impl_looker_partb (fun _ => .bp 1 1 0) m0_impl_looker_partb (fun _ => by simp [memB, landC]) (fun a b h => t_impl_looker_partb h)
theorem c_impl_looker_partb {rec : RT_impl_looker_part} {a0 : L3 × LI × (List (Int × Int × Bool))} {a1 : Int} {a2 : Int} {r : ((Int × Int × Bool)) × (L3 × LI × (List (Int × Int × Bool)))} (h : p_impl_looker_partb rec a0 a1 a2 = some r) : (F_impl_looker_partb rec) ((.sl false 38 (List.map (cL38 false) a0.1)) :: (.sl false 3 (List.map cI a0.2.1)) :: fl c71 a0.2.2) [.one (.lit (.int .i64 a1)), .one (.lit (.int .i64 a2))] = some ((false, [some 3]), [.lit (.int .u32 r.1.1), .lit (.int .i64 r.1.2.1), .lit (.bool r.1.2.2)], ((.sl false 38 (List.map (cL38 false) r.2.1)) :: (.sl false 3 (List.map cI r.2.2.1)) :: fl c71 r.2.2.2)) := pbcon_at (H := H_impl_looker_partb) (arg := arg_impl_looker_partb) (p := fun a => p_impl_looker_partb rec a.1 a.2.1 a.2.2) (res := res_impl_looker_partb) (a := (a0, a1, a2)) (b := r) inj_impl_looker_partb h
def p_impl_looker_part_n : Nat → RT_impl_looker_part
  | 0 => fun _ _ _ => none
  | n + 1 => fun a0 a1 a2 => p_impl_looker_partb (p_impl_looker_part_n n) a0 a1 a2
theorem fn_impl_looker_part_n : ∀ n, HR_impl_looker_part (p_impl_looker_part_n n)
  | 0 => BFn.none0 ⟨_, Try.func64, rfl, rfl⟩
  | n + 1 => fn_impl_looker_partb (fn_impl_looker_part_n n)
def p_impl_looker_part (a0 : L3 × LI × (List (Int × Int × Bool))) (a1 : Int) (a2 : Int) : Option (((Int × Int × Bool)) × (L3 × LI × (List (Int × Int × Bool)))) := p_impl_looker_part_n 1000 a0 a1 a2
theorem hr_impl_looker_part : HR_impl_looker_part p_impl_looker_part := fn_impl_looker_part_n 1000
noncomputable def F_impl_looker_part : BCon := (pbcon H_impl_looker_part arg_impl_looker_part (fun a => p_impl_looker_part a.1 a.2.1 a.2.2) res_impl_looker_part)
theorem fn_impl_looker_part : BFn Try.prog 64 true F_impl_looker_part := hr_impl_looker_part
theorem c_impl_looker_part {a0 : L3 × LI × (List (Int × Int × Bool))} {a1 : Int} {a2 : Int} {r : ((Int × Int × Bool)) × (L3 × LI × (List (Int × Int × Bool)))} (h : p_impl_looker_part a0 a1 a2 = some r) : F_impl_looker_part ((.sl false 38 (List.map (cL38 false) a0.1)) :: (.sl false 3 (List.map cI a0.2.1)) :: fl c71 a0.2.2) [.one (.lit (.int .i64 a1)), .one (.lit (.int .i64 a2))] = some ((false, [some 3]), [.lit (.int .u32 r.1.1), .lit (.int .i64 r.1.2.1), .lit (.bool r.1.2.2)], ((.sl false 38 (List.map (cL38 false) r.2.1)) :: (.sl false 3 (List.map cI r.2.2.1)) :: fl c71 r.2.2.2)) := pbcon_at (H := H_impl_looker_part) (arg := arg_impl_looker_part) (p := fun a => p_impl_looker_part a.1 a.2.1 a.2.2) (res := res_impl_looker_part) (a := (a0, a1, a2)) (b := r) inj_impl_looker_part h
noncomputable def cal_impl_accepts (k : Nat) : Cal := calI (tabOf [(65, F_impl_flags_has)]) (inlOf [(63, pI [[some 38], [some 3]] F_impl_lookerOf), (64, bI true [some (false, 38), some (false, 3)] F_impl_looker_part)])
@[simp] theorem cal_impl_accepts_ap (k g : Nat) (vs : List TV) (mem : Mem) (ep : Nat) : cal_impl_accepts k g vs mem ep = calI (tabOf [(65, F_impl_flags_has)]) (inlOf [(63, pI [[some 38], [some 3]] F_impl_lookerOf), (64, bI true [some (false, 38), some (false, 3)] F_impl_looker_part)]) g vs mem ep := rfl
theorem ok_impl_accepts (k : Nat) (w0 : World) (h0 : True) : CalOk Try.prog w0.heap.size w0 (cal_impl_accepts k) := by
  exact calI_ok (J := fun _ => True) stab_true (tabOf_ok _ (by simp [fn_impl_flags_has])) (inlOf_ok _ (by simp [(PFn.inst stab_true fn_impl_lookerOf), (BFn.inst stab_true fn_impl_looker_part)])) h0
@[simp] def lm_impl_accepts : Nat → List Nat × Nat := fun b => ([], 0)
@[simp] def arg_impl_accepts (a : L3 × LI) : List TV := [.agg [.sl false 38 (List.map (cL38 false) a.1)], .one (.sl false 3 (List.map cI a.2))]
@[simp] def res_impl_accepts (r : Bool) : Sh × List V := ((false, [none]), [.lit (.bool r)])
def p_impl_accepts (a0 : L3) (a1 : LI) : Option Bool :=
 p_impl_lookerOf a0 a1 >>= fun y2 =>
 p_impl_looker_part (y2.1, y2.2.1, y2.2.2) 0 0 >>= fun y4 =>
 p_impl_flags_has y4.1.1 (a1.length : Int) >>= fun y6 =>
 some y6
theorem t_impl_accepts {a0 : L3} {a1 : LI} {r : Bool} (h : p_impl_accepts a0 a1 = some r) : ∃ k, told Try.prog (cal_impl_accepts k) k lm_impl_accepts Try.f46 (arg_impl_accepts (a0, a1)) = some (res_impl_accepts r) := by
  unfold p_impl_accepts at h
  obtain ⟨y2, h1, h⟩ := bd h
  have h1c := c_impl_lookerOf h1
  obtain ⟨y4, h3, h⟩ := bd h
  have h3c := c_impl_looker_part h3
  obtain ⟨y6, h5, h⟩ := bd h
  have h5c := c_impl_flags_has h5
  try simp (implicitDefEqProofs := false) [-getElem?_pos, -getElem?_neg] at h5c
  obtain rfl := Option.some.inj h
  obtain ⟨k, hk⟩ : ∃ k, 0 ≤ k := ⟨_, Nat.le_refl _⟩
  refine ⟨k, ?_⟩
  simp (implicitDefEqProofs := false) [-getElem?_pos, -getElem?_neg, Try.f46, h1c, h3c, h5c]
theorem inj_impl_accepts : ∀ a b, arg_impl_accepts a = arg_impl_accepts b → a = b := by
  rintro ⟨x0, x1⟩ ⟨y0, y1⟩ h; simp [arg_impl_accepts] at h; simp [Prod.ext_iff, h]
noncomputable def F_impl_accepts : Con := nilfix [[some 38], [some 3]] (pcon arg_impl_accepts (fun a => p_impl_accepts a.1 a.2) res_impl_accepts)
theorem fn_impl_accepts : Fn Try.prog 46 F_impl_accepts := (Fn.pure cal_impl_accepts (fun k w0 h0 => ok_impl_accepts k w0 h0) mixed Try.func46 rfl rfl (by kernel_rfl) 2 (by decide) (fun _ => rfl) lm_impl_accepts (fun a b h => t_impl_accepts h)).nilfix _
theorem c_impl_accepts {a0 : L3} {a1 : LI} {r : Bool} (h : p_impl_accepts a0 a1 = some r) : F_impl_accepts [.agg [.sl false 38 (List.map (cL38 false) a0)], .one (.sl false 3 (List.map cI a1))] = some (((false, [none]), [.lit (.bool r)])) := pcon_at (arg := arg_impl_accepts) (p := fun a => p_impl_accepts a.1 a.2) (res := res_impl_accepts) (a := (a0, a1)) (b := r) inj_impl_accepts h
end Go.Proofs.Ytanglbgincgmaaa.Vm

/-
  Functions of the program as plain Lean ones, and that the model does as they say. Written by a program of mine (gen.py).
-/
import Derived.Test.YtanglbgincgmaaaVmG3
import Derived.Test.YtanglbgincgmaaaVmIns
namespace Go.Proofs.Ytanglbgincgmaaa.Vm
open Go Go.RowKit Go.Proofs
set_option linter.unusedVariables false
set_option linter.unusedSimpArgs false
set_option maxHeartbeats 8000000
noncomputable def cal_spec_Letters (k : Nat) : Cal := calI (tabOf [(48, F_spec_GramOk), (57, F_spec_SetAdd)]) (inlOf [])
@[simp] theorem cal_spec_Letters_ap (k g : Nat) (vs : List TV) (mem : Mem) (ep : Nat) : cal_spec_Letters k g vs mem ep = calI (tabOf [(48, F_spec_GramOk), (57, F_spec_SetAdd)]) (inlOf []) g vs mem ep := rfl
theorem ok_spec_Letters (k : Nat) (w0 : World) (h0 : True) : CalOk Try.prog w0.heap.size w0 (cal_spec_Letters k) := by
  exact calI_ok (J := fun _ => True) stab_true (tabOf_ok _ (by simp [fn_spec_GramOk, fn_spec_SetAdd])) (inlOf_ok _ (by simp [])) h0
@[simp] def lm_spec_Letters : Nat → List Nat × Nat := fun b => if b = 4 then ([1, 3, 4, 5, 6], 2) else if b = 2000004 then ([1, 3, 0, 2], 8888888) else if b = 3000004 then ([1, 3, 4, 5], 2) else if b = 2 then ([1, 3, 4, 5], 2) else if b = 2000002 then ([], 8888888) else if b = 3000002 then ([1, 3, 4], 2) else if b = 0 then ([1, 3, 4], 2) else if b = 2000000 then ([], 8888888) else if b = 3000000 then ([3], 2) else ([], 0)
@[simp] def arg_spec_Letters (a : L3) : List TV := [.agg [.sl false 38 (List.map (cL38 false) a)]]
@[simp] def res_spec_Letters (r : LI) : Sh × List V := ((false, [none]), [.sl true 3 (List.map cI r)])
def p_spec_Letters_L4 (x4b0 : Int) (x5b2 : Int) (a0 : L3) (x6b4 : Int) (l2b4 : LI) : Option LI :=
 if 0 ≤ x4b0 then
  a0[x4b0.toNat]? >>= fun y231 =>
  if 0 ≤ x5b2 then
   y231[x5b2.toNat]? >>= fun y234 =>
   if x6b4 < (y234.length : Int) then
    if 0 ≤ x6b4 then
     y234[x6b4.toNat]? >>= fun y238 =>
     if y238 < 100 then
      p_spec_SetAdd l2b4 y238 >>= fun y242 =>
      p_spec_Letters_L4 x4b0 x5b2 a0 (IntKind.wrap .i64 (x6b4 + 1)) y242
     else
      p_spec_Letters_L4 x4b0 x5b2 a0 (IntKind.wrap .i64 (x6b4 + 1)) l2b4
    else none
   else
    some l2b4
  else none
 else none
partial_fixpoint
@[simp] noncomputable def L_spec_Letters_L4 : Code := nav [1, 1, 1, 0, 1, 0, 0, 1, 0, 0, 1, 0, 0, 1, 0, 0, 1, 0, 0] (bodyOf Try.f40)
@[simp] def T_spec_Letters_L4 (x4b0 : Int) (x5b2 : Int) (a0 : L3) (x6b4 : Int) (l2b4 : LI) (st : Nat → Nat) : St := ⟨[(1, .one (.bp 1 (st 1) 0)), (3, .one (.ow 2 (st 2))), (4, .one (.lit (.int .i64 x4b0))), (5, .one (.lit (.int .i64 x5b2))), (6, .one (.lit (.int .i64 x6b4)))], [none, some (.box (st 1) [.sl false 38 (List.map (cL38 false) a0)]), some (.rows (st 2) (st 2) 3 (List.map cI l2b4))], (st 0)⟩
@[simp] def U_spec_Letters_L4 (x4b0 : Int) (x5b2 : Int) (a0 : L3) (o : LI) (st : Nat → Nat) : St := ⟨[(1, .one (.bp 1 (st 1) 0)), (3, .one (.ow 2 (st 2))), (4, .one (.lit (.int .i64 x4b0))), (5, .one (.lit (.int .i64 x5b2)))], [none, some (.box (st 1) [.sl false 38 (List.map (cL38 false) a0)]), some (.rows (st 2) (st 2) 3 (List.map cI o))], (st 0)⟩
abbrev Q_spec_Letters_L4 (x4b0 : Int) (x5b2 : Int) (a0 : L3) (x6b4 : Int) (l2b4 : LI) (o : LI) : Prop := ∀ st : Nat → Nat, LoopG Try.prog cal_spec_Letters 1 lm_spec_Letters 4 L_spec_Letters_L4 (U_spec_Letters_L4 x4b0 x5b2 a0) (T_spec_Letters_L4 x4b0 x5b2 a0 x6b4 l2b4 st) o
theorem l_spec_Letters_L4 {x4b0 : Int} {x5b2 : Int} {a0 : L3} {x6b4 : Int} {l2b4 : LI} {o : LI} (h : p_spec_Letters_L4 x4b0 x5b2 a0 x6b4 l2b4 = some o) : Q_spec_Letters_L4 x4b0 x5b2 a0 x6b4 l2b4 o := by
  refine p_spec_Letters_L4.partial_correctness x4b0 x5b2 a0 (motive := fun x6b4 l2b4 o => Q_spec_Letters_L4 x4b0 x5b2 a0 x6b4 l2b4 o) ?_ x6b4 l2b4 o h
  clear h o x6b4 l2b4
  intro p' ih x6b4 l2b4 r h st
  obtain ⟨h230, h⟩ := ifg h
  obtain ⟨y231, h232, h⟩ := bd h
  obtain ⟨h233, h⟩ := ifg h
  obtain ⟨y234, h235, h⟩ := bd h
  rcases ifc h with ⟨h236, h⟩ | ⟨h236, h⟩
  · obtain ⟨h237, h⟩ := ifg h
    obtain ⟨y238, h239, h⟩ := bd h
    rcases ifc h with ⟨h240, h⟩ | ⟨h240, h⟩
    · obtain ⟨y242, h241, h⟩ := bd h
      have h241c := c_spec_SetAdd h241
      exact LoopG.step 0 (fun k hk => by simp (implicitDefEqProofs := false) [-getElem?_pos, -getElem?_neg, Try.f40, h230, h232, h233, h235, h236, h237, h239, h240, h241c]) (ih _ _ _ h (sl [((st 0) + 2), (st 1), ((st 0) + 1)]))
    exact LoopG.step 0 (fun k hk => by simp (implicitDefEqProofs := false) [-getElem?_pos, -getElem?_neg, Try.f40, h230, h232, h233, h235, h236, h237, h239, h240]) (ih _ _ _ h (sl [((st 0) + 1), (st 1), (st 0)]))
  obtain rfl := Option.some.inj h
  exact LoopG.exit (sl [(st 0), (st 1), (st 2)]) 0 (fun k hk => by simp (implicitDefEqProofs := false) [-getElem?_pos, -getElem?_neg, Try.f40, h230, h232, h233, h235, h236])
def p_spec_Letters_L2 (x4b0 : Int) (a0 : L3) (x5b2 : Int) (l2b2 : LI) : Option LI :=
 if 0 ≤ x4b0 then
  a0[x4b0.toNat]? >>= fun y202 =>
  if x5b2 < (y202.length : Int) then
   p_spec_Letters_L4 x4b0 x5b2 a0 0 l2b2 >>= fun o244 =>
   p_spec_Letters_L2 x4b0 a0 (IntKind.wrap .i64 (x5b2 + 1)) o244
  else
   some l2b2
 else none
partial_fixpoint
@[simp] noncomputable def L_spec_Letters_L2 : Code := nav [1, 1, 1, 0, 1, 0, 0, 1, 0, 0, 1, 0, 0] (bodyOf Try.f40)
@[simp] def T_spec_Letters_L2 (x4b0 : Int) (a0 : L3) (x5b2 : Int) (l2b2 : LI) (st : Nat → Nat) : St := ⟨[(1, .one (.bp 1 (st 1) 0)), (3, .one (.ow 2 (st 2))), (4, .one (.lit (.int .i64 x4b0))), (5, .one (.lit (.int .i64 x5b2)))], [none, some (.box (st 1) [.sl false 38 (List.map (cL38 false) a0)]), some (.rows (st 2) (st 2) 3 (List.map cI l2b2))], (st 0)⟩
@[simp] def U_spec_Letters_L2 (x4b0 : Int) (a0 : L3) (o : LI) (st : Nat → Nat) : St := ⟨[(1, .one (.bp 1 (st 1) 0)), (3, .one (.ow 2 (st 2))), (4, .one (.lit (.int .i64 x4b0)))], [none, some (.box (st 1) [.sl false 38 (List.map (cL38 false) a0)]), some (.rows (st 2) (st 2) 3 (List.map cI o))], (st 0)⟩
abbrev Q_spec_Letters_L2 (x4b0 : Int) (a0 : L3) (x5b2 : Int) (l2b2 : LI) (o : LI) : Prop := ∀ st : Nat → Nat, LoopG Try.prog cal_spec_Letters 1 lm_spec_Letters 2 L_spec_Letters_L2 (U_spec_Letters_L2 x4b0 a0) (T_spec_Letters_L2 x4b0 a0 x5b2 l2b2 st) o
theorem l_spec_Letters_L2 {x4b0 : Int} {a0 : L3} {x5b2 : Int} {l2b2 : LI} {o : LI} (h : p_spec_Letters_L2 x4b0 a0 x5b2 l2b2 = some o) : Q_spec_Letters_L2 x4b0 a0 x5b2 l2b2 o := by
  refine p_spec_Letters_L2.partial_correctness x4b0 a0 (motive := fun x5b2 l2b2 o => Q_spec_Letters_L2 x4b0 a0 x5b2 l2b2 o) ?_ x5b2 l2b2 o h
  clear h o x5b2 l2b2
  intro p' ih x5b2 l2b2 r h st
  obtain ⟨h201, h⟩ := ifg h
  obtain ⟨y202, h203, h⟩ := bd h
  rcases ifc h with ⟨h204, h⟩ | ⟨h204, h⟩
  · obtain ⟨o244, h243, h⟩ := bd h
    have qK245 := l_spec_Letters_L4 h243 (sl [((st 0) + 1), (st 1), (st 0)])
    obtain ⟨s246, K245, qK245⟩ := qK245
    refine LoopG.step K245 (fun k hk => ?_) (ih _ _ _ h (sl [(s246 0), (s246 1), (s246 2)]))
    have jK245 := qK245 k (by omega) k (by omega)
    simp (implicitDefEqProofs := false) [-getElem?_pos, -getElem?_neg, Try.f40, h201, h203, h204] at jK245
    simp (implicitDefEqProofs := false) [-getElem?_pos, -getElem?_neg, Try.f40, h201, h203, h204, jK245]
  obtain rfl := Option.some.inj h
  exact LoopG.exit (sl [(st 0), (st 1), (st 2)]) 0 (fun k hk => by simp (implicitDefEqProofs := false) [-getElem?_pos, -getElem?_neg, Try.f40, h201, h203, h204])
def p_spec_Letters_L0 (a0 : L3) (x4b0 : Int) (l2b0 : LI) : Option LI :=
 if x4b0 < (a0.length : Int) then
  p_spec_Letters_L2 x4b0 a0 0 l2b0 >>= fun o248 =>
  p_spec_Letters_L0 a0 (IntKind.wrap .i64 (x4b0 + 1)) o248
 else
  some l2b0
partial_fixpoint
@[simp] noncomputable def L_spec_Letters_L0 : Code := nav [1, 1, 1, 0, 1, 0, 0] (bodyOf Try.f40)
@[simp] def T_spec_Letters_L0 (a0 : L3) (x4b0 : Int) (l2b0 : LI) (st : Nat → Nat) : St := ⟨[(1, .one (.bp 1 (st 1) 0)), (3, .one (.ow 2 (st 2))), (4, .one (.lit (.int .i64 x4b0)))], [none, some (.box (st 1) [.sl false 38 (List.map (cL38 false) a0)]), some (.rows (st 2) (st 2) 3 (List.map cI l2b0))], (st 0)⟩
@[simp] def U_spec_Letters_L0 (a0 : L3) (o : LI) (st : Nat → Nat) : St := ⟨[(3, .one (.ow 2 (st 1)))], [none, some (.box (st 2) [.sl false 38 (List.map (cL38 false) a0)]), some (.rows (st 1) (st 1) 3 (List.map cI o))], (st 0)⟩
abbrev Q_spec_Letters_L0 (a0 : L3) (x4b0 : Int) (l2b0 : LI) (o : LI) : Prop := ∀ st : Nat → Nat, LoopG Try.prog cal_spec_Letters 1 lm_spec_Letters 0 L_spec_Letters_L0 (U_spec_Letters_L0 a0) (T_spec_Letters_L0 a0 x4b0 l2b0 st) o
theorem l_spec_Letters_L0 {a0 : L3} {x4b0 : Int} {l2b0 : LI} {o : LI} (h : p_spec_Letters_L0 a0 x4b0 l2b0 = some o) : Q_spec_Letters_L0 a0 x4b0 l2b0 o := by
  refine p_spec_Letters_L0.partial_correctness a0 (motive := fun x4b0 l2b0 o => Q_spec_Letters_L0 a0 x4b0 l2b0 o) ?_ x4b0 l2b0 o h
  clear h o x4b0 l2b0
  intro p' ih x4b0 l2b0 r h st
  rcases ifc h with ⟨h136, h⟩ | ⟨h136, h⟩
  · obtain ⟨o248, h247, h⟩ := bd h
    have qK249 := l_spec_Letters_L2 h247 (sl [(st 0), (st 1), (st 2)])
    obtain ⟨s250, K249, qK249⟩ := qK249
    refine LoopG.step K249 (fun k hk => ?_) (ih _ _ _ h (sl [(s250 0), (s250 1), (s250 2)]))
    have jK249 := qK249 k (by omega) k (by omega)
    simp (implicitDefEqProofs := false) [-getElem?_pos, -getElem?_neg, Try.f40, h136] at jK249
    simp (implicitDefEqProofs := false) [-getElem?_pos, -getElem?_neg, Try.f40, h136, jK249]
  obtain rfl := Option.some.inj h
  exact LoopG.exit (sl [(st 0), (st 2), (st 1)]) 0 (fun k hk => by simp (implicitDefEqProofs := false) [-getElem?_pos, -getElem?_neg, Try.f40, h136])
def p_spec_Letters (a0 : L3) : Option LI :=
 p_spec_GramOk a0 >>= fun y2 =>
 if y2 then
  p_spec_Letters_L0 a0 0 ([]) >>= fun o252 =>
  some o252
 else
  some ([])
theorem t_spec_Letters {a0 : L3} {r : LI} (h : p_spec_Letters a0 = some r) : ∃ k, told Try.prog (cal_spec_Letters k) k lm_spec_Letters Try.f40 (arg_spec_Letters a0) = some (res_spec_Letters r) := by
  unfold p_spec_Letters at h
  obtain ⟨y2, h1, h⟩ := bd h
  have h1c := c_spec_GramOk h1
  rcases ifb h with ⟨h3, h⟩ | ⟨h3, h⟩
  · obtain ⟨o252, h251, h⟩ := bd h
    have qK253 := l_spec_Letters_L0 h251 (sl [4, 1, 2])
    obtain ⟨s254, K253, qK253⟩ := qK253
    obtain rfl := Option.some.inj h
    obtain ⟨k, hk⟩ : ∃ k, K253 ≤ k := ⟨_, Nat.le_refl _⟩
    have jK253 := qK253 k (by omega) k (by omega)
    simp (implicitDefEqProofs := false) [-getElem?_pos, -getElem?_neg, Try.f40, h1c, h3] at jK253
    refine ⟨k, ?_⟩
    simp (implicitDefEqProofs := false) [-getElem?_pos, -getElem?_neg, Try.f40, h1c, h3, jK253]
  obtain rfl := Option.some.inj h
  obtain ⟨k, hk⟩ : ∃ k, 0 ≤ k := ⟨_, Nat.le_refl _⟩
  refine ⟨k, ?_⟩
  simp (implicitDefEqProofs := false) [-getElem?_pos, -getElem?_neg, Try.f40, h1c, h3]
theorem inj_spec_Letters : ∀ a b, arg_spec_Letters a = arg_spec_Letters b → a = b := by
  intro x y h; simp [arg_spec_Letters] at h; simp [Prod.ext_iff, h]
noncomputable def F_spec_Letters : Con := nilfix [[some 38]] (pcon arg_spec_Letters (fun a => p_spec_Letters a) res_spec_Letters)
theorem fn_spec_Letters : Fn Try.prog 40 F_spec_Letters := (Fn.pure cal_spec_Letters (fun k w0 h0 => ok_spec_Letters k w0 h0) mixed Try.func40 rfl rfl (by kernel_rfl) 1 (by decide) (fun _ => rfl) lm_spec_Letters (fun a b h => t_spec_Letters h)).nilfix _
theorem c_spec_Letters {a0 : L3} {r : LI} (h : p_spec_Letters a0 = some r) : F_spec_Letters [.agg [.sl false 38 (List.map (cL38 false) a0)]] = some (((false, [none]), [.sl true 3 (List.map cI r)])) := pcon_at (arg := arg_spec_Letters) (p := fun a => p_spec_Letters a) (res := res_spec_Letters) (a := a0) (b := r) inj_spec_Letters h
def cal_slices_Index_int (k : Nat) : Cal := calI (tabOf []) (inlOf [])
@[simp] theorem cal_slices_Index_int_ap (k g : Nat) (vs : List TV) (mem : Mem) (ep : Nat) : cal_slices_Index_int k g vs mem ep = calI (tabOf []) (inlOf []) g vs mem ep := rfl
theorem ok_slices_Index_int (k : Nat) (w0 : World) (h0 : True) : CalOk Try.prog w0.heap.size w0 (cal_slices_Index_int k) := by
  exact calI_ok (J := fun _ => True) stab_true (tabOf_ok _ (by simp [])) (inlOf_ok _ (by simp [])) h0
@[simp] def lm_slices_Index_int : Nat → List Nat × Nat := fun b => if b = 0 then ([0, 1, 7, 8], 0) else if b = 2000000 then ([], 8888888) else if b = 3000000 then ([], 0) else ([], 0)
@[simp] def arg_slices_Index_int (a : LI × Int) : List TV := [.one (.sl false 3 (List.map cI a.1)), .one (.lit (.int .i64 a.2))]
@[simp] def res_slices_Index_int (r : Int) : Sh × List V := ((false, [none]), [.lit (.int .i64 r)])
def p_slices_Index_int_L0 (a0 : LI) (a1 : Int) (x8b0 : Int) : Option (Int ⊕ Unit) :=
 if x8b0 < (a0.length : Int) then
  if 0 ≤ x8b0 then
   a0[x8b0.toNat]? >>= fun y12 =>
   if a1 = y12 then
    some (.inl x8b0)
   else
    p_slices_Index_int_L0 a0 a1 (IntKind.wrap .i64 (x8b0 + 1))
  else none
 else
  some (.inr ())
partial_fixpoint
@[simp] noncomputable def L_slices_Index_int_L0 : Code := nav [1, 0, 1, 0, 0] (bodyOf Try.f87)
@[simp] def T_slices_Index_int_L0 (a0 : LI) (a1 : Int) (x8b0 : Int) (st : Nat → Nat) : St := ⟨[(0, .one (.sl false 3 (List.map cI a0))), (1, .one (.lit (.int .i64 a1))), (7, .one (.lit (.int .i64 (a0.length : Int)))), (8, .one (.lit (.int .i64 x8b0)))], [none], (st 0)⟩
@[simp] def U_slices_Index_int_L0 (a0 : LI) (a1 : Int) (o : Unit) (st : Nat → Nat) : St := ⟨[], [none], (st 0)⟩
abbrev Q_slices_Index_int_L0 (a0 : LI) (a1 : Int) (x8b0 : Int) (o : Int ⊕ Unit) : Prop := ∀ st : Nat → Nat, LoopT Try.prog cal_slices_Index_int 1 lm_slices_Index_int 0 L_slices_Index_int_L0 (tellS Try.prog lm_slices_Index_int [.tmp 4]) res_slices_Index_int (U_slices_Index_int_L0 a0 a1) (T_slices_Index_int_L0 a0 a1 x8b0 st) o
theorem l_slices_Index_int_L0 {a0 : LI} {a1 : Int} {x8b0 : Int} {o : Int ⊕ Unit} (h : p_slices_Index_int_L0 a0 a1 x8b0 = some o) : Q_slices_Index_int_L0 a0 a1 x8b0 o := by
  refine p_slices_Index_int_L0.partial_correctness a0 a1 (motive := fun x8b0 o => Q_slices_Index_int_L0 a0 a1 x8b0 o) ?_ x8b0 o h
  clear h o x8b0
  intro p' ih x8b0 r h st
  rcases ifc h with ⟨h10, h⟩ | ⟨h10, h⟩
  · obtain ⟨h11, h⟩ := ifg h
    obtain ⟨y12, h13, h⟩ := bd h
    rcases ifc h with ⟨h14, h⟩ | ⟨h14, h⟩
    · obtain rfl := Option.some.inj h
      exact LoopT.ret 0 (fun k hk => by simp (implicitDefEqProofs := false) [-getElem?_pos, -getElem?_neg, Try.f87, h10, h11, h13, (eq_true h14)])
    exact LoopT.step 0 (fun k hk => by simp (implicitDefEqProofs := false) [-getElem?_pos, -getElem?_neg, Try.f87, h10, h11, h13, h14]) (ih _ _ h (sl [(st 0)]))
  obtain rfl := Option.some.inj h
  exact LoopT.exit (sl [(st 0)]) 0 (fun k hk => by simp (implicitDefEqProofs := false) [-getElem?_pos, -getElem?_neg, Try.f87, h10])
def p_slices_Index_int (a0 : LI) (a1 : Int) : Option Int :=
 p_slices_Index_int_L0 a0 a1 0 >>= fun o16 => match o16 with
 | .inl o16 =>
  some o16
 | .inr o16 =>
  some (-1)
theorem t_slices_Index_int {a0 : LI} {a1 : Int} {r : Int} (h : p_slices_Index_int a0 a1 = some r) : ∃ k, told Try.prog (cal_slices_Index_int k) k lm_slices_Index_int Try.f87 (arg_slices_Index_int (a0, a1)) = some (res_slices_Index_int r) := by
  unfold p_slices_Index_int at h
  obtain ⟨o16, h15, h⟩ := bd h
  have qK17 := l_slices_Index_int_L0 h15 (sl [1])
  rcases o16 with o16 | o16
  · obtain ⟨K17, qK17⟩ := qK17
    obtain rfl := Option.some.inj h
    obtain ⟨k, hk⟩ : ∃ k, K17 ≤ k := ⟨_, Nat.le_refl _⟩
    obtain ⟨S_K17, jK17, iK17⟩ := qK17 k (by omega) k (by omega)
    simp (implicitDefEqProofs := false) [-getElem?_pos, -getElem?_neg, Try.f87] at jK17
    refine ⟨k, ?_⟩
    simp (implicitDefEqProofs := false) [-getElem?_pos, -getElem?_neg, Try.f87, iK17, jK17]
  obtain ⟨s18, K17, qK17⟩ := qK17
  obtain rfl := Option.some.inj h
  obtain ⟨k, hk⟩ : ∃ k, K17 ≤ k := ⟨_, Nat.le_refl _⟩
  have jK17 := qK17 k (by omega) k (by omega)
  simp (implicitDefEqProofs := false) [-getElem?_pos, -getElem?_neg, Try.f87] at jK17
  refine ⟨k, ?_⟩
  simp (implicitDefEqProofs := false) [-getElem?_pos, -getElem?_neg, Try.f87, jK17]
theorem inj_slices_Index_int : ∀ a b, arg_slices_Index_int a = arg_slices_Index_int b → a = b := by
  rintro ⟨x0, x1⟩ ⟨y0, y1⟩ h; simp [arg_slices_Index_int] at h; simp [Prod.ext_iff, h]
noncomputable def F_slices_Index_int : Con := nilfix [[some 3], [none]] (pcon arg_slices_Index_int (fun a => p_slices_Index_int a.1 a.2) res_slices_Index_int)
theorem fn_slices_Index_int : Fn Try.prog 87 F_slices_Index_int := (Fn.pure cal_slices_Index_int (fun k w0 h0 => ok_slices_Index_int k w0 h0) mixed Try.func87 rfl rfl (by kernel_rfl) 2 (by decide) (fun _ => rfl) lm_slices_Index_int (fun a b h => t_slices_Index_int h)).nilfix _
theorem c_slices_Index_int {a0 : LI} {a1 : Int} {r : Int} (h : p_slices_Index_int a0 a1 = some r) : F_slices_Index_int [.one (.sl false 3 (List.map cI a0)), .one (.lit (.int .i64 a1))] = some (((false, [none]), [.lit (.int .i64 r)])) := pcon_at (arg := arg_slices_Index_int) (p := fun a => p_slices_Index_int a.1 a.2) (res := res_slices_Index_int) (a := (a0, a1)) (b := r) inj_slices_Index_int h
noncomputable def cal_slices_Contains_int (k : Nat) : Cal := calI (tabOf [(87, F_slices_Index_int)]) (inlOf [])
@[simp] theorem cal_slices_Contains_int_ap (k g : Nat) (vs : List TV) (mem : Mem) (ep : Nat) : cal_slices_Contains_int k g vs mem ep = calI (tabOf [(87, F_slices_Index_int)]) (inlOf []) g vs mem ep := rfl
theorem ok_slices_Contains_int (k : Nat) (w0 : World) (h0 : True) : CalOk Try.prog w0.heap.size w0 (cal_slices_Contains_int k) := by
  exact calI_ok (J := fun _ => True) stab_true (tabOf_ok _ (by simp [fn_slices_Index_int])) (inlOf_ok _ (by simp [])) h0
@[simp] def lm_slices_Contains_int : Nat → List Nat × Nat := fun b => ([], 0)
@[simp] def arg_slices_Contains_int (a : LI × Int) : List TV := [.one (.sl false 3 (List.map cI a.1)), .one (.lit (.int .i64 a.2))]
@[simp] def res_slices_Contains_int (r : Bool) : Sh × List V := ((false, [none]), [.lit (.bool r)])
def p_slices_Contains_int (a0 : LI) (a1 : Int) : Option Bool :=
 p_slices_Index_int a0 a1 >>= fun y2 =>
 some (decide (0 ≤ y2))
theorem t_slices_Contains_int {a0 : LI} {a1 : Int} {r : Bool} (h : p_slices_Contains_int a0 a1 = some r) : ∃ k, told Try.prog (cal_slices_Contains_int k) k lm_slices_Contains_int Try.f76 (arg_slices_Contains_int (a0, a1)) = some (res_slices_Contains_int r) := by
  unfold p_slices_Contains_int at h
  obtain ⟨y2, h1, h⟩ := bd h
  have h1c := c_slices_Index_int h1
  obtain rfl := Option.some.inj h
  obtain ⟨k, hk⟩ : ∃ k, 0 ≤ k := ⟨_, Nat.le_refl _⟩
  refine ⟨k, ?_⟩
  simp (implicitDefEqProofs := false) [-getElem?_pos, -getElem?_neg, Try.f76, h1c]
theorem inj_slices_Contains_int : ∀ a b, arg_slices_Contains_int a = arg_slices_Contains_int b → a = b := by
  rintro ⟨x0, x1⟩ ⟨y0, y1⟩ h; simp [arg_slices_Contains_int] at h; simp [Prod.ext_iff, h]
noncomputable def F_slices_Contains_int : Con := nilfix [[some 3], [none]] (pcon arg_slices_Contains_int (fun a => p_slices_Contains_int a.1 a.2) res_slices_Contains_int)
theorem fn_slices_Contains_int : Fn Try.prog 76 F_slices_Contains_int := (Fn.pure cal_slices_Contains_int (fun k w0 h0 => ok_slices_Contains_int k w0 h0) mixed Try.func76 rfl rfl (by kernel_rfl) 2 (by decide) (fun _ => rfl) lm_slices_Contains_int (fun a b h => t_slices_Contains_int h)).nilfix _
theorem c_slices_Contains_int {a0 : LI} {a1 : Int} {r : Bool} (h : p_slices_Contains_int a0 a1 = some r) : F_slices_Contains_int [.one (.sl false 3 (List.map cI a0)), .one (.lit (.int .i64 a1))] = some (((false, [none]), [.lit (.bool r)])) := pcon_at (arg := arg_slices_Contains_int) (p := fun a => p_slices_Contains_int a.1 a.2) (res := res_slices_Contains_int) (a := (a0, a1)) (b := r) inj_slices_Contains_int h
noncomputable def cal_impl_addTo (k : Nat) : Cal := calI (tabOf [(76, F_slices_Contains_int)]) (inlOf [(77, insI)])
@[simp] theorem cal_impl_addTo_ap (k g : Nat) (vs : List TV) (mem : Mem) (ep : Nat) : cal_impl_addTo k g vs mem ep = calI (tabOf [(76, F_slices_Contains_int)]) (inlOf [(77, insI)]) g vs mem ep := rfl
theorem ok_impl_addTo (k : Nat) (w0 : World) (h0 : True) : CalOk Try.prog w0.heap.size w0 (cal_impl_addTo k) := by
  exact calI_ok (J := fun _ => True) stab_true (tabOf_ok _ (by simp [fn_slices_Contains_int])) (inlOf_ok _ (by simp [insI_ok])) h0
@[simp] def lm_impl_addTo : Nat → List Nat × Nat := fun b => if b = 0 then ([0, 1, 5], 0) else if b = 2000000 then ([], 8888888) else if b = 3000000 then ([0, 1, 5], 0) else ([], 0)
@[simp] def arg_impl_addTo (a : LI × Int) : List TV := [.one (.lit (.int .i64 a.2))]
@[simp] def H_impl_addTo (a : LI × Int) : List V := [.sl true 3 (List.map cI a.1)]
@[simp] def m0_impl_addTo (a : LI × Int) : Mem := [none, none, some (.rows 1 1 3 (List.map cI a.1))]
@[simp] def res_impl_addTo (r : LI) : Sh × List V × List V := ((false, [none]), [.sl true 3 (List.map cI r)], [])
def p_impl_addTo_L0 (a1 : Int) (a0 : LI) (x5b0 : Int) : Option (Int) :=
 if x5b0 < (a0.length : Int) then
  if 0 ≤ x5b0 then
   a0[x5b0.toNat]? >>= fun y23 =>
   if y23 ≤ a1 then
    p_impl_addTo_L0 a1 a0 (IntKind.wrap .i64 (x5b0 + 1))
   else
    some x5b0
  else none
 else
  some x5b0
partial_fixpoint
@[simp] noncomputable def L_impl_addTo_L0 : Code := nav [1, 1, 1, 0, 0, 0] (bodyOf Try.f62)
@[simp] def T_impl_addTo_L0 (a1 : Int) (a0 : LI) (x5b0 : Int) (st : Nat → Nat) : St := ⟨[(0, .one (.ow 2 1)), (1, .one (.lit (.int .i64 a1))), (5, .one (.lit (.int .i64 x5b0)))], [none, none, some (.rows 1 1 3 (List.map cI a0))], (st 0)⟩
@[simp] def U_impl_addTo_L0 (a1 : Int) (a0 : LI) (o : Int) (st : Nat → Nat) : St := ⟨[(0, .one (.ow 2 1)), (1, .one (.lit (.int .i64 a1))), (5, .one (.lit (.int .i64 o)))], [none, none, some (.rows 1 1 3 (List.map cI a0))], (st 0)⟩
abbrev Q_impl_addTo_L0 (a1 : Int) (a0 : LI) (x5b0 : Int) (o : Int) : Prop := ∀ st : Nat → Nat, LoopG Try.prog cal_impl_addTo 3 lm_impl_addTo 0 L_impl_addTo_L0 (U_impl_addTo_L0 a1 a0) (T_impl_addTo_L0 a1 a0 x5b0 st) o
theorem l_impl_addTo_L0 {a1 : Int} {a0 : LI} {x5b0 : Int} {o : Int} (h : p_impl_addTo_L0 a1 a0 x5b0 = some o) : Q_impl_addTo_L0 a1 a0 x5b0 o := by
  refine p_impl_addTo_L0.partial_correctness a1 a0 (motive := fun x5b0 o => Q_impl_addTo_L0 a1 a0 x5b0 o) ?_ x5b0 o h
  clear h o x5b0
  intro p' ih x5b0 r h st
  rcases ifc h with ⟨h21, h⟩ | ⟨h21, h⟩
  · obtain ⟨h22, h⟩ := ifg h
    obtain ⟨y23, h24, h⟩ := bd h
    have h24b := (List.getElem?_eq_some_iff.1 h24).1
    rcases ifc h with ⟨h26, h⟩ | ⟨h26, h⟩
    · exact LoopG.step 0 (fun k hk => by simp (implicitDefEqProofs := false) [-getElem?_pos, -getElem?_neg, Try.f62, h21, h22, h24, h24b, h26]) (ih _ _ h (sl [(st 0)]))
    obtain rfl := Option.some.inj h
    exact LoopG.exit (sl [(st 0)]) 0 (fun k hk => by simp (implicitDefEqProofs := false) [-getElem?_pos, -getElem?_neg, Try.f62, h21, h22, h24, h24b, h26])
  obtain rfl := Option.some.inj h
  exact LoopG.exit (sl [(st 0)]) 0 (fun k hk => by simp (implicitDefEqProofs := false) [-getElem?_pos, -getElem?_neg, Try.f62, h21])
def p_impl_addTo (a0 : LI) (a1 : Int) : Option LI :=
 p_slices_Contains_int a0 a1 >>= fun y2 =>
 if y2 then
  some a0
 else
  p_impl_addTo_L0 a1 a0 0 >>= fun o28 =>
  if 0 ≤ o28 then
   if o28.toNat ≤ a0.length then
    if (a0.length + 1) * 8 ≤ 140737488355328 then
     some (List.take o28.toNat a0 ++ a1 :: List.drop o28.toNat a0) >>= fun l34 =>
     some l34
    else none
   else none
  else none
theorem t_impl_addTo {a0 : LI} {a1 : Int} {r : LI} (h : p_impl_addTo a0 a1 = some r) : ∃ k, toldB Try.prog (cal_impl_addTo k) k lm_impl_addTo Try.f62 false (.ow 2 1) (m0_impl_addTo (a0, a1)) (arg_impl_addTo (a0, a1)) = some (res_impl_addTo r) := by
  unfold p_impl_addTo at h
  obtain ⟨y2, h1, h⟩ := bd h
  have h1c := c_slices_Contains_int h1
  rcases ifb h with ⟨h3, h⟩ | ⟨h3, h⟩
  · obtain rfl := Option.some.inj h
    obtain ⟨k, hk⟩ : ∃ k, 0 ≤ k := ⟨_, Nat.le_refl _⟩
    refine ⟨k, ?_⟩
    simp (implicitDefEqProofs := false) [-getElem?_pos, -getElem?_neg, Try.f62, h1c, h3]
  obtain ⟨o28, h27, h⟩ := bd h
  have qK29 := l_impl_addTo_L0 h27 (sl [3])
  obtain ⟨s30, K29, qK29⟩ := qK29
  obtain ⟨h31, h⟩ := ifg h
  obtain ⟨h32, h⟩ := ifg h
  have h32i : o28 ≤ (a0.length : Int) := by omega
  obtain ⟨h33, h⟩ := ifg h
  obtain ⟨l34, h35, h⟩ := bd h
  have h35r : List.take o28.toNat (List.map cI a0) ++ [.lit (.int .i64 a1)] :: List.drop o28.toNat (List.map cI a0) = List.map cI l34 := by rw [← Option.some.inj h35]; simp
  obtain rfl := Option.some.inj h
  obtain ⟨k, hk⟩ : ∃ k, K29 ≤ k := ⟨_, Nat.le_refl _⟩
  have jK29 := qK29 k (by omega) k (by omega)
  simp (implicitDefEqProofs := false) [-getElem?_pos, -getElem?_neg, Try.f62, h1c, h3, h31, h32, h32i, h33, h35r] at jK29
  refine ⟨k, ?_⟩
  simp (implicitDefEqProofs := false) [-getElem?_pos, -getElem?_neg, Try.f62, h1c, h3, h31, h32, h32i, h33, h35r, jK29]
theorem inj_impl_addTo : ∀ a b, H_impl_addTo a = H_impl_addTo b → arg_impl_addTo a = arg_impl_addTo b → a = b := by
  rintro ⟨x0, x1⟩ ⟨y0, y1⟩ h1 h2; simp [arg_impl_addTo] at h2; simp [H_impl_addTo] at h1; simp [Prod.ext_iff, h1, h2]
noncomputable def F_impl_addTo : BCon := pbcon H_impl_addTo arg_impl_addTo (fun a => p_impl_addTo a.1 a.2) res_impl_addTo
theorem fn_impl_addTo : BFn Try.prog 62 false F_impl_addTo := BFn.pure cal_impl_addTo (fun k w0 h0 => ok_impl_addTo k w0 h0) mixed Try.func62 rfl rfl (by kernel_rfl) 2 (by decide) (fun _ => rfl) lm_impl_addTo (fun _ => .ow 2 1) m0_impl_addTo (fun _ => rfl) (fun a b h => t_impl_addTo h)
theorem c_impl_addTo {a0 : LI} {a1 : Int} {r : LI} (h : p_impl_addTo a0 a1 = some r) : F_impl_addTo [.sl true 3 (List.map cI a0)] [.one (.lit (.int .i64 a1))] = some ((false, [none]), [.sl true 3 (List.map cI r)], []) := pbcon_at (H := H_impl_addTo) (arg := arg_impl_addTo) (p := fun a => p_impl_addTo a.1 a.2) (res := res_impl_addTo) (a := (a0, a1)) (b := r) inj_impl_addTo h
noncomputable def cal_impl_Letters (k : Nat) : Cal := calI (tabOf [(61, F_impl_GramOk)]) (inlOf [(62, bI false [some (true, 3)] F_impl_addTo)])
@[simp] theorem cal_impl_Letters_ap (k g : Nat) (vs : List TV) (mem : Mem) (ep : Nat) : cal_impl_Letters k g vs mem ep = calI (tabOf [(61, F_impl_GramOk)]) (inlOf [(62, bI false [some (true, 3)] F_impl_addTo)]) g vs mem ep := rfl
theorem ok_impl_Letters (k : Nat) (w0 : World) (h0 : True) : CalOk Try.prog w0.heap.size w0 (cal_impl_Letters k) := by
  exact calI_ok (J := fun _ => True) stab_true (tabOf_ok _ (by simp [fn_impl_GramOk])) (inlOf_ok _ (by simp [(BFn.inst stab_true fn_impl_addTo)])) h0
@[simp] def lm_impl_Letters : Nat → List Nat × Nat := fun b => if b = 0 then ([3, 14, 15, 16], 2) else if b = 2000000 then ([0, 3, 0, 3], 8888888) else if b = 3000000 then ([3], 2) else if b = 2 then ([3, 14, 15, 16, 20, 21, 22], 2) else if b = 2000002 then ([0, 3, 0, 3], 8888888) else if b = 3000002 then ([3, 14, 15, 16], 2) else if b = 4 then ([3, 14, 15, 16, 20, 21, 22, 26, 27, 28], 2) else if b = 2000004 then ([0, 3, 0, 3, 1, 3, 0, 2], 8888888) else if b = 3000004 then ([3, 14, 15, 16, 20, 21, 22], 2) else if b = 5000000 then ([0, 2, 0, 3], 8888888) else ([], 0)
@[simp] def arg_impl_Letters (a : L3) : List TV := [.agg [.sl false 38 (List.map (cL38 false) a)]]
@[simp] def res_impl_Letters (r : LI) : Sh × List V := ((false, [none]), [.sl true 3 (List.map cI r)])
def p_impl_Letters_L4 (a0 : L3) (x16b0 : Int) (y103 : L2) (x22b2 : Int) (y148 : LI) (x28b4 : Int) (l2b4 : LI) : Option LI :=
 if x28b4 < (y148.length : Int) then
  if 0 ≤ x28b4 then
   y148[x28b4.toNat]? >>= fun y165 =>
   if y165 < 100 then
    p_impl_addTo l2b4 y165 >>= fun y169 =>
    p_impl_Letters_L4 a0 x16b0 y103 x22b2 y148 (IntKind.wrap .i64 (x28b4 + 1)) y169
   else
    p_impl_Letters_L4 a0 x16b0 y103 x22b2 y148 (IntKind.wrap .i64 (x28b4 + 1)) l2b4
  else none
 else
  some l2b4
partial_fixpoint
@[simp] noncomputable def L_impl_Letters_L4 : Code := nav [1, 1, 1, 0, 1, 0, 0, 1, 1, 0, 0, 1, 1, 0, 0, 1, 1, 0, 0, 1, 1, 0, 0] (bodyOf Try.f44)
@[simp] def T_impl_Letters_L4 (a0 : L3) (x16b0 : Int) (y103 : L2) (x22b2 : Int) (y148 : LI) (x28b4 : Int) (l2b4 : LI) (st : Nat → Nat) : St := ⟨[(3, .one (.ow 2 (st 1))), (14, .one (.sl false 38 (List.map (cL38 false) a0))), (15, .one (.lit (.int .i64 (a0.length : Int)))), (16, .one (.lit (.int .i64 x16b0))), (20, .one (.sl false 31 (List.map (cL31 false) y103))), (21, .one (.lit (.int .i64 (y103.length : Int)))), (22, .one (.lit (.int .i64 x22b2))), (26, .one (.sl false 3 (List.map cI y148))), (27, .one (.lit (.int .i64 (y148.length : Int)))), (28, .one (.lit (.int .i64 x28b4)))], [none, some (.box (st 2) [.sl false 38 (List.map (cL38 false) a0)]), some (.rows (st 1) (st 1) 3 (List.map cI l2b4))], (st 0)⟩
@[simp] def U_impl_Letters_L4 (a0 : L3) (x16b0 : Int) (y103 : L2) (x22b2 : Int) (y148 : LI) (o : LI) (st : Nat → Nat) : St := ⟨[(3, .one (.ow 2 (st 1))), (14, .one (.sl false 38 (List.map (cL38 false) a0))), (15, .one (.lit (.int .i64 (a0.length : Int)))), (16, .one (.lit (.int .i64 x16b0))), (20, .one (.sl false 31 (List.map (cL31 false) y103))), (21, .one (.lit (.int .i64 (y103.length : Int)))), (22, .one (.lit (.int .i64 x22b2)))], [none, some (.box (st 2) [.sl false 38 (List.map (cL38 false) a0)]), some (.rows (st 1) (st 1) 3 (List.map cI o))], (st 0)⟩
abbrev Q_impl_Letters_L4 (a0 : L3) (x16b0 : Int) (y103 : L2) (x22b2 : Int) (y148 : LI) (x28b4 : Int) (l2b4 : LI) (o : LI) : Prop := ∀ st : Nat → Nat, LoopG Try.prog cal_impl_Letters 1 lm_impl_Letters 4 L_impl_Letters_L4 (U_impl_Letters_L4 a0 x16b0 y103 x22b2 y148) (T_impl_Letters_L4 a0 x16b0 y103 x22b2 y148 x28b4 l2b4 st) o
theorem l_impl_Letters_L4 {a0 : L3} {x16b0 : Int} {y103 : L2} {x22b2 : Int} {y148 : LI} {x28b4 : Int} {l2b4 : LI} {o : LI} (h : p_impl_Letters_L4 a0 x16b0 y103 x22b2 y148 x28b4 l2b4 = some o) : Q_impl_Letters_L4 a0 x16b0 y103 x22b2 y148 x28b4 l2b4 o := by
  refine p_impl_Letters_L4.partial_correctness a0 x16b0 y103 x22b2 y148 (motive := fun x28b4 l2b4 o => Q_impl_Letters_L4 a0 x16b0 y103 x22b2 y148 x28b4 l2b4 o) ?_ x28b4 l2b4 o h
  clear h o x28b4 l2b4
  intro p' ih x28b4 l2b4 r h st
  rcases ifc h with ⟨h163, h⟩ | ⟨h163, h⟩
  · obtain ⟨h164, h⟩ := ifg h
    obtain ⟨y165, h166, h⟩ := bd h
    rcases ifc h with ⟨h167, h⟩ | ⟨h167, h⟩
    · obtain ⟨y169, h168, h⟩ := bd h
      have h168c := c_impl_addTo h168
      exact LoopG.step 0 (fun k hk => by simp (implicitDefEqProofs := false) [-getElem?_pos, -getElem?_neg, Try.f44, h163, h164, h166, h167, h168c]) (ih _ _ _ h (sl [((st 0) + 4), ((st 0) + 3), (st 2)]))
    exact LoopG.step 0 (fun k hk => by simp (implicitDefEqProofs := false) [-getElem?_pos, -getElem?_neg, Try.f44, h163, h164, h166, h167]) (ih _ _ _ h (sl [((st 0) + 1), (st 0), (st 2)]))
  obtain rfl := Option.some.inj h
  exact LoopG.exit (sl [(st 0), (st 1), (st 2)]) 0 (fun k hk => by simp (implicitDefEqProofs := false) [-getElem?_pos, -getElem?_neg, Try.f44, h163])
def p_impl_Letters_L2 (a0 : L3) (x16b0 : Int) (y103 : L2) (x22b2 : Int) (l2b2 : LI) : Option LI :=
 if x22b2 < (y103.length : Int) then
  if 0 ≤ x22b2 then
   y103[x22b2.toNat]? >>= fun y148 =>
   p_impl_Letters_L4 a0 x16b0 y103 x22b2 y148 0 l2b2 >>= fun o171 =>
   p_impl_Letters_L2 a0 x16b0 y103 (IntKind.wrap .i64 (x22b2 + 1)) o171
  else none
 else
  some l2b2
partial_fixpoint
@[simp] noncomputable def L_impl_Letters_L2 : Code := nav [1, 1, 1, 0, 1, 0, 0, 1, 1, 0, 0, 1, 1, 0, 0] (bodyOf Try.f44)
@[simp] def T_impl_Letters_L2 (a0 : L3) (x16b0 : Int) (y103 : L2) (x22b2 : Int) (l2b2 : LI) (st : Nat → Nat) : St := ⟨[(3, .one (.ow 2 (st 1))), (14, .one (.sl false 38 (List.map (cL38 false) a0))), (15, .one (.lit (.int .i64 (a0.length : Int)))), (16, .one (.lit (.int .i64 x16b0))), (20, .one (.sl false 31 (List.map (cL31 false) y103))), (21, .one (.lit (.int .i64 (y103.length : Int)))), (22, .one (.lit (.int .i64 x22b2)))], [none, some (.box (st 2) [.sl false 38 (List.map (cL38 false) a0)]), some (.rows (st 1) (st 1) 3 (List.map cI l2b2))], (st 0)⟩
@[simp] def U_impl_Letters_L2 (a0 : L3) (x16b0 : Int) (y103 : L2) (o : LI) (st : Nat → Nat) : St := ⟨[(3, .one (.ow 2 (st 1))), (14, .one (.sl false 38 (List.map (cL38 false) a0))), (15, .one (.lit (.int .i64 (a0.length : Int)))), (16, .one (.lit (.int .i64 x16b0)))], [none, some (.box (st 2) [.sl false 38 (List.map (cL38 false) a0)]), some (.rows (st 1) (st 1) 3 (List.map cI o))], (st 0)⟩
abbrev Q_impl_Letters_L2 (a0 : L3) (x16b0 : Int) (y103 : L2) (x22b2 : Int) (l2b2 : LI) (o : LI) : Prop := ∀ st : Nat → Nat, LoopG Try.prog cal_impl_Letters 1 lm_impl_Letters 2 L_impl_Letters_L2 (U_impl_Letters_L2 a0 x16b0 y103) (T_impl_Letters_L2 a0 x16b0 y103 x22b2 l2b2 st) o
theorem l_impl_Letters_L2 {a0 : L3} {x16b0 : Int} {y103 : L2} {x22b2 : Int} {l2b2 : LI} {o : LI} (h : p_impl_Letters_L2 a0 x16b0 y103 x22b2 l2b2 = some o) : Q_impl_Letters_L2 a0 x16b0 y103 x22b2 l2b2 o := by
  refine p_impl_Letters_L2.partial_correctness a0 x16b0 y103 (motive := fun x22b2 l2b2 o => Q_impl_Letters_L2 a0 x16b0 y103 x22b2 l2b2 o) ?_ x22b2 l2b2 o h
  clear h o x22b2 l2b2
  intro p' ih x22b2 l2b2 r h st
  rcases ifc h with ⟨h146, h⟩ | ⟨h146, h⟩
  · obtain ⟨h147, h⟩ := ifg h
    obtain ⟨y148, h149, h⟩ := bd h
    obtain ⟨o171, h170, h⟩ := bd h
    have qK172 := l_impl_Letters_L4 h170 (sl [((st 0) + 1), (st 0), (st 2)])
    obtain ⟨s173, K172, qK172⟩ := qK172
    refine LoopG.step K172 (fun k hk => ?_) (ih _ _ _ h (sl [(s173 0), (s173 1), (s173 2)]))
    have jK172 := qK172 k (by omega) k (by omega)
    simp (implicitDefEqProofs := false) [-getElem?_pos, -getElem?_neg, Try.f44, h146, h147, h149] at jK172
    simp (implicitDefEqProofs := false) [-getElem?_pos, -getElem?_neg, Try.f44, h146, h147, h149, jK172]
  obtain rfl := Option.some.inj h
  exact LoopG.exit (sl [(st 0), (st 1), (st 2)]) 0 (fun k hk => by simp (implicitDefEqProofs := false) [-getElem?_pos, -getElem?_neg, Try.f44, h146])
def p_impl_Letters_L0 (a0 : L3) (x16b0 : Int) (l2b0 : LI) : Option LI :=
 if x16b0 < (a0.length : Int) then
  if 0 ≤ x16b0 then
   a0[x16b0.toNat]? >>= fun y103 =>
   p_impl_Letters_L2 a0 x16b0 y103 0 l2b0 >>= fun o175 =>
   p_impl_Letters_L0 a0 (IntKind.wrap .i64 (x16b0 + 1)) o175
  else none
 else
  some l2b0
partial_fixpoint
@[simp] noncomputable def L_impl_Letters_L0 : Code := nav [1, 1, 1, 0, 1, 0, 0] (bodyOf Try.f44)
@[simp] def T_impl_Letters_L0 (a0 : L3) (x16b0 : Int) (l2b0 : LI) (st : Nat → Nat) : St := ⟨[(3, .one (.ow 2 (st 1))), (14, .one (.sl false 38 (List.map (cL38 false) a0))), (15, .one (.lit (.int .i64 (a0.length : Int)))), (16, .one (.lit (.int .i64 x16b0)))], [none, some (.box (st 2) [.sl false 38 (List.map (cL38 false) a0)]), some (.rows (st 1) (st 1) 3 (List.map cI l2b0))], (st 0)⟩
@[simp] def U_impl_Letters_L0 (a0 : L3) (o : LI) (st : Nat → Nat) : St := ⟨[(3, .one (.ow 2 (st 1)))], [none, some (.box (st 2) [.sl false 38 (List.map (cL38 false) a0)]), some (.rows (st 1) (st 1) 3 (List.map cI o))], (st 0)⟩
abbrev Q_impl_Letters_L0 (a0 : L3) (x16b0 : Int) (l2b0 : LI) (o : LI) : Prop := ∀ st : Nat → Nat, LoopG Try.prog cal_impl_Letters 1 lm_impl_Letters 0 L_impl_Letters_L0 (U_impl_Letters_L0 a0) (T_impl_Letters_L0 a0 x16b0 l2b0 st) o
theorem l_impl_Letters_L0 {a0 : L3} {x16b0 : Int} {l2b0 : LI} {o : LI} (h : p_impl_Letters_L0 a0 x16b0 l2b0 = some o) : Q_impl_Letters_L0 a0 x16b0 l2b0 o := by
  refine p_impl_Letters_L0.partial_correctness a0 (motive := fun x16b0 l2b0 o => Q_impl_Letters_L0 a0 x16b0 l2b0 o) ?_ x16b0 l2b0 o h
  clear h o x16b0 l2b0
  intro p' ih x16b0 l2b0 r h st
  rcases ifc h with ⟨h101, h⟩ | ⟨h101, h⟩
  · obtain ⟨h102, h⟩ := ifg h
    obtain ⟨y103, h104, h⟩ := bd h
    obtain ⟨o175, h174, h⟩ := bd h
    have qK176 := l_impl_Letters_L2 h174 (sl [(st 0), (st 1), (st 2)])
    obtain ⟨s177, K176, qK176⟩ := qK176
    refine LoopG.step K176 (fun k hk => ?_) (ih _ _ _ h (sl [(s177 0), (s177 1), (s177 2)]))
    have jK176 := qK176 k (by omega) k (by omega)
    simp (implicitDefEqProofs := false) [-getElem?_pos, -getElem?_neg, Try.f44, h101, h102, h104] at jK176
    simp (implicitDefEqProofs := false) [-getElem?_pos, -getElem?_neg, Try.f44, h101, h102, h104, jK176]
  obtain rfl := Option.some.inj h
  exact LoopG.exit (sl [(st 0), (st 1), (st 2)]) 0 (fun k hk => by simp (implicitDefEqProofs := false) [-getElem?_pos, -getElem?_neg, Try.f44, h101])
def p_impl_Letters (a0 : L3) : Option LI :=
 p_impl_GramOk a0 >>= fun y2 =>
 if y2 then
  p_impl_Letters_L0 a0 0 ([]) >>= fun o179 =>
  some o179
 else
  some ([])
theorem t_impl_Letters {a0 : L3} {r : LI} (h : p_impl_Letters a0 = some r) : ∃ k, told Try.prog (cal_impl_Letters k) k lm_impl_Letters Try.f44 (arg_impl_Letters a0) = some (res_impl_Letters r) := by
  unfold p_impl_Letters at h
  obtain ⟨y2, h1, h⟩ := bd h
  have h1c := c_impl_GramOk h1
  rcases ifb h with ⟨h3, h⟩ | ⟨h3, h⟩
  · obtain ⟨o179, h178, h⟩ := bd h
    have qK180 := l_impl_Letters_L0 h178 (sl [4, 3, 1])
    obtain ⟨s181, K180, qK180⟩ := qK180
    obtain rfl := Option.some.inj h
    obtain ⟨k, hk⟩ : ∃ k, K180 ≤ k := ⟨_, Nat.le_refl _⟩
    have jK180 := qK180 k (by omega) k (by omega)
    simp (implicitDefEqProofs := false) [-getElem?_pos, -getElem?_neg, Try.f44, h1c, h3] at jK180
    refine ⟨k, ?_⟩
    simp (implicitDefEqProofs := false) [-getElem?_pos, -getElem?_neg, Try.f44, h1c, h3, jK180]
  obtain rfl := Option.some.inj h
  obtain ⟨k, hk⟩ : ∃ k, 0 ≤ k := ⟨_, Nat.le_refl _⟩
  refine ⟨k, ?_⟩
  simp (implicitDefEqProofs := false) [-getElem?_pos, -getElem?_neg, Try.f44, h1c, h3]
theorem inj_impl_Letters : ∀ a b, arg_impl_Letters a = arg_impl_Letters b → a = b := by
  intro x y h; simp [arg_impl_Letters] at h; simp [Prod.ext_iff, h]
noncomputable def F_impl_Letters : Con := nilfix [[some 38]] (pcon arg_impl_Letters (fun a => p_impl_Letters a) res_impl_Letters)
theorem fn_impl_Letters : Fn Try.prog 44 F_impl_Letters := (Fn.pure cal_impl_Letters (fun k w0 h0 => ok_impl_Letters k w0 h0) mixed Try.func44 rfl rfl (by kernel_rfl) 1 (by decide) (fun _ => rfl) lm_impl_Letters (fun a b h => t_impl_Letters h)).nilfix _
theorem c_impl_Letters {a0 : L3} {r : LI} (h : p_impl_Letters a0 = some r) : F_impl_Letters [.agg [.sl false 38 (List.map (cL38 false) a0)]] = some (((false, [none]), [.sl true 3 (List.map cI r)])) := pcon_at (arg := arg_impl_Letters) (p := fun a => p_impl_Letters a) (res := res_impl_Letters) (a := a0) (b := r) inj_impl_Letters h
noncomputable def cal_spec_Words3 (k : Nat) : Cal := calI (tabOf [(29, F_spec_Check), (40, F_spec_Letters), (41, F_spec_l1Min), (42, F_spec_l23All), (43, F_spec_l7Ways)]) (inlOf [])
@[simp] theorem cal_spec_Words3_ap (k g : Nat) (vs : List TV) (mem : Mem) (ep : Nat) : cal_spec_Words3 k g vs mem ep = calI (tabOf [(29, F_spec_Check), (40, F_spec_Letters), (41, F_spec_l1Min), (42, F_spec_l23All), (43, F_spec_l7Ways)]) (inlOf []) g vs mem ep := rfl
theorem ok_spec_Words3 (k : Nat) (w0 : World) (h0 : True) : CalOk Try.prog w0.heap.size w0 (cal_spec_Words3 k) := by
  exact calI_ok (J := fun _ => True) stab_true (tabOf_ok _ (by simp [fn_spec_Check, fn_spec_Letters, fn_spec_l1Min, fn_spec_l23All, fn_spec_l7Ways])) (inlOf_ok _ (by simp [])) h0
@[simp] def lm_spec_Words3 : Nat → List Nat × Nat := fun b => if b = 0 then ([1, 3, 4, 5], 3) else if b = 2000000 then ([], 8888888) else if b = 3000000 then ([3], 3) else if b = 2 then ([1, 3, 4, 5, 6, 7], 4) else if b = 2000002 then ([2, 6, 0, 0], 8888888) else if b = 3000002 then ([1, 3, 4, 5], 4) else ([], 0)
theorem dr_spec_Words3_13 : drawn (opsOf (nav [1, 1, 1, 1, 1, 0, 1, 0, 0, 1, 0, 0, 1, 1, 0, 0, 1, 0, 0, 0] (bodyOf Try.f21))) = some ([0, 2, 3, 4, 5, 1], [6, 7]) := by kernel_rfl
@[simp] def arg_spec_Words3 (a : L3) : List TV := [.agg [.sl false 38 (List.map (cL38 false) a)]]
@[simp] def res_spec_Words3 (r : L2) : Sh × List V := ((false, [none]), [.sl true 31 (List.map (cL31 false) r)])
def p_spec_Words3_L2 (x5b0 : Int) (y62 : L2) (a0 : L3) (l10 : LI) (x7b2 : Int) (l2b2 : L2) : Option L2 :=
 if x7b2 < (y62.length : Int) then
  if 0 ≤ x7b2 then
   y62[x7b2.toNat]? >>= fun y84 =>
   p_spec_l7Ways a0 ([100]) y84 >>= fun y87 =>
   if 0 < y87 then
    if (l2b2.length + 1) * 24 ≤ 140737488355328 then
     some (l2b2 ++ [y84]) >>= fun l90 =>
     p_spec_Words3_L2 x5b0 y62 a0 l10 (IntKind.wrap .i64 (x7b2 + 1)) l90
    else none
   else
    p_spec_Words3_L2 x5b0 y62 a0 l10 (IntKind.wrap .i64 (x7b2 + 1)) l2b2
  else none
 else
  some l2b2
partial_fixpoint
@[simp] noncomputable def L_spec_Words3_L2 : Code := nav [1, 1, 1, 1, 1, 0, 1, 0, 0, 1, 0, 0, 1, 1, 0, 0] (bodyOf Try.f21)
@[simp] def T_spec_Words3_L2 (x5b0 : Int) (y62 : L2) (a0 : L3) (l10 : LI) (x7b2 : Int) (l2b2 : L2) (st : Nat → Nat) : St := ⟨[(1, .one (.bp 1 (st 1) 0)), (3, .one (.ow 2 (st 2))), (4, .one (.ow 3 (st 3))), (5, .one (.lit (.int .i64 x5b0))), (6, .one (.sl false 31 (List.map (cL31 false) y62))), (7, .one (.lit (.int .i64 x7b2)))], [none, some (.box (st 1) [.sl false 38 (List.map (cL38 false) a0)]), some (.rows (st 2) (st 4) 31 (List.map (cL31 false) l2b2)), some (.rows (st 3) (st 5) 3 (List.map cI l10)), none], (st 0)⟩
@[simp] def U_spec_Words3_L2 (x5b0 : Int) (y62 : L2) (a0 : L3) (l10 : LI) (o : L2) (st : Nat → Nat) : St := ⟨[(1, .one (.bp 1 (st 1) 0)), (3, .one (.ow 2 (st 2))), (4, .one (.ow 3 (st 3))), (5, .one (.lit (.int .i64 x5b0)))], [none, some (.box (st 1) [.sl false 38 (List.map (cL38 false) a0)]), some (.rows (st 2) (st 4) 31 (List.map (cL31 false) o)), some (.rows (st 3) (st 5) 3 (List.map cI l10)), none], (st 0)⟩
abbrev Q_spec_Words3_L2 (x5b0 : Int) (y62 : L2) (a0 : L3) (l10 : LI) (x7b2 : Int) (l2b2 : L2) (o : L2) : Prop := ∀ st : Nat → Nat, LoopG Try.prog cal_spec_Words3 1 lm_spec_Words3 2 L_spec_Words3_L2 (U_spec_Words3_L2 x5b0 y62 a0 l10) (T_spec_Words3_L2 x5b0 y62 a0 l10 x7b2 l2b2 st) o
theorem l_spec_Words3_L2 {x5b0 : Int} {y62 : L2} {a0 : L3} {l10 : LI} {x7b2 : Int} {l2b2 : L2} {o : L2} (h : p_spec_Words3_L2 x5b0 y62 a0 l10 x7b2 l2b2 = some o) : Q_spec_Words3_L2 x5b0 y62 a0 l10 x7b2 l2b2 o := by
  refine p_spec_Words3_L2.partial_correctness x5b0 y62 a0 l10 (motive := fun x7b2 l2b2 o => Q_spec_Words3_L2 x5b0 y62 a0 l10 x7b2 l2b2 o) ?_ x7b2 l2b2 o h
  clear h o x7b2 l2b2
  intro p' ih x7b2 l2b2 r h st
  rcases ifc h with ⟨h82, h⟩ | ⟨h82, h⟩
  · obtain ⟨h83, h⟩ := ifg h
    obtain ⟨y84, h85, h⟩ := bd h
    obtain ⟨y87, h86, h⟩ := bd h
    have h86c := c_spec_l7Ways h86
    try simp (implicitDefEqProofs := false) [-getElem?_pos, -getElem?_neg] at h86c
    rcases ifc h with ⟨h88, h⟩ | ⟨h88, h⟩
    · obtain ⟨h89, h⟩ := ifg h
      obtain ⟨l90, h91, h⟩ := bd h
      have h91r : List.map (cL31 false) l2b2 ++ [[.sl false 3 (List.map cI y84)]] = List.map (cL31 false) l90 := by rw [← Option.some.inj h91]; simp
      refine LoopG.step 0 (fun k hk => ?_) (ih _ _ _ h (sl [((st 0) + 4), (st 1), ((st 0) + 3), (st 3), (st 4), (st 5)]))
      have hd_spec_Words3_13 := dr_spec_Words3_13
      simp only [opsOf, nav, bodyOf, Try.f21, Option.getD_some] at hd_spec_Words3_13
      simp (implicitDefEqProofs := false) [-getElem?_pos, -getElem?_neg, Try.f21, h82, ex_draw2 _ _ hd_spec_Words3_13, h83, h85, h86c, h88, h89, h91r]
    refine LoopG.step 0 (fun k hk => ?_) (ih _ _ _ h (sl [((st 0) + 2), (st 1), (st 2), (st 3), (st 4), (st 5)]))
    have hd_spec_Words3_13 := dr_spec_Words3_13
    simp only [opsOf, nav, bodyOf, Try.f21, Option.getD_some] at hd_spec_Words3_13
    simp (implicitDefEqProofs := false) [-getElem?_pos, -getElem?_neg, Try.f21, h82, ex_draw2 _ _ hd_spec_Words3_13, h83, h85, h86c, h88]
  obtain rfl := Option.some.inj h
  exact LoopG.exit (sl [(st 0), (st 1), (st 2), (st 3), (st 4), (st 5)]) 0 (fun k hk => by simp (implicitDefEqProofs := false) [-getElem?_pos, -getElem?_neg, Try.f21, h82])
def p_spec_Words3_L0 (a0 : L3) (l10 : LI) (x5b0 : Int) (l2b0 : L2) : Option L2 :=
 if x5b0 ≤ 3 then
  p_spec_l23All l10 x5b0 >>= fun y62 =>
  p_spec_Words3_L2 x5b0 y62 a0 l10 0 l2b0 >>= fun o93 =>
  p_spec_Words3_L0 a0 l10 (IntKind.wrap .i64 (x5b0 + 1)) o93
 else
  some l2b0
partial_fixpoint
@[simp] noncomputable def L_spec_Words3_L0 : Code := nav [1, 1, 1, 1, 1, 0, 1, 0, 0] (bodyOf Try.f21)
@[simp] def T_spec_Words3_L0 (a0 : L3) (l10 : LI) (x5b0 : Int) (l2b0 : L2) (st : Nat → Nat) : St := ⟨[(1, .one (.bp 1 (st 1) 0)), (3, .one (.ow 2 (st 2))), (4, .one (.ow 3 (st 3))), (5, .one (.lit (.int .i64 x5b0)))], [none, some (.box (st 1) [.sl false 38 (List.map (cL38 false) a0)]), some (.rows (st 2) (st 4) 31 (List.map (cL31 false) l2b0)), some (.rows (st 3) (st 5) 3 (List.map cI l10))], (st 0)⟩
@[simp] def U_spec_Words3_L0 (a0 : L3) (l10 : LI) (o : L2) (st : Nat → Nat) : St := ⟨[(3, .one (.ow 2 (st 1)))], [none, some (.box (st 2) [.sl false 38 (List.map (cL38 false) a0)]), some (.rows (st 1) (st 3) 31 (List.map (cL31 false) o)), some (.rows (st 4) (st 5) 3 (List.map cI l10))], (st 0)⟩
abbrev Q_spec_Words3_L0 (a0 : L3) (l10 : LI) (x5b0 : Int) (l2b0 : L2) (o : L2) : Prop := ∀ st : Nat → Nat, LoopG Try.prog cal_spec_Words3 1 lm_spec_Words3 0 L_spec_Words3_L0 (U_spec_Words3_L0 a0 l10) (T_spec_Words3_L0 a0 l10 x5b0 l2b0 st) o
theorem l_spec_Words3_L0 {a0 : L3} {l10 : LI} {x5b0 : Int} {l2b0 : L2} {o : L2} (h : p_spec_Words3_L0 a0 l10 x5b0 l2b0 = some o) : Q_spec_Words3_L0 a0 l10 x5b0 l2b0 o := by
  refine p_spec_Words3_L0.partial_correctness a0 l10 (motive := fun x5b0 l2b0 o => Q_spec_Words3_L0 a0 l10 x5b0 l2b0 o) ?_ x5b0 l2b0 o h
  clear h o x5b0 l2b0
  intro p' ih x5b0 l2b0 r h st
  rcases ifc h with ⟨h60, h⟩ | ⟨h60, h⟩
  · obtain ⟨y62, h61, h⟩ := bd h
    have h61c := c_spec_l23All h61
    obtain ⟨o93, h92, h⟩ := bd h
    have qK94 := l_spec_Words3_L2 h92 (sl [((st 0) + 1), (st 1), (st 2), (st 3), (st 4), (st 5)])
    obtain ⟨s95, K94, qK94⟩ := qK94
    refine LoopG.step K94 (fun k hk => ?_) (ih _ _ _ h (sl [(s95 0), (s95 1), (s95 2), (s95 3), (s95 4), (s95 5)]))
    have jK94 := qK94 k (by omega) k (by omega)
    simp (implicitDefEqProofs := false) [-getElem?_pos, -getElem?_neg, Try.f21, h60, h61c] at jK94
    simp (implicitDefEqProofs := false) [-getElem?_pos, -getElem?_neg, Try.f21, h60, h61c, jK94]
  obtain rfl := Option.some.inj h
  exact LoopG.exit (sl [(st 0), (st 2), (st 1), (st 4), (st 3), (st 5)]) 0 (fun k hk => by simp (implicitDefEqProofs := false) [-getElem?_pos, -getElem?_neg, Try.f21, h60])
def p_spec_Words3 (a0 : L3) : Option L2 :=
 p_spec_Check a0 >>= fun y2 =>
 if y2 = 0 then
  p_spec_Letters a0 >>= fun y5 =>
  p_spec_l1Min (y5.length : Int) 3 >>= fun y7 =>
  if 0 ≤ y7 then
   if y7.toNat ≤ y5.length then
    some (List.take y7.toNat y5) >>= fun l10 =>
    p_spec_Words3_L0 a0 l10 0 ([]) >>= fun o97 =>
    some o97
   else none
  else none
 else
  some ([])
theorem t_spec_Words3 {a0 : L3} {r : L2} (h : p_spec_Words3 a0 = some r) : ∃ k, told Try.prog (cal_spec_Words3 k) k lm_spec_Words3 Try.f21 (arg_spec_Words3 a0) = some (res_spec_Words3 r) := by
  unfold p_spec_Words3 at h
  obtain ⟨y2, h1, h⟩ := bd h
  have h1c := c_spec_Check h1
  rcases ifc h with ⟨h3, h⟩ | ⟨h3, h⟩
  · obtain ⟨y5, h4, h⟩ := bd h
    have h4c := c_spec_Letters h4
    obtain ⟨y7, h6, h⟩ := bd h
    have h6c := c_spec_l1Min h6
    try simp (implicitDefEqProofs := false) [-getElem?_pos, -getElem?_neg] at h6c
    obtain ⟨h8, h⟩ := ifg h
    obtain ⟨h9, h⟩ := ifg h
    have h9i : y7 ≤ (y5.length : Int) := by omega
    obtain ⟨l10, h11, h⟩ := bd h
    have h11r : List.take y7.toNat (List.map cI y5) = List.map cI l10 := by rw [← Option.some.inj h11]; simp
    obtain ⟨o97, h96, h⟩ := bd h
    have qK98 := l_spec_Words3_L0 h96 (sl [7, 1, 2, 6, 2, 4])
    obtain ⟨s99, K98, qK98⟩ := qK98
    obtain rfl := Option.some.inj h
    obtain ⟨k, hk⟩ : ∃ k, K98 ≤ k := ⟨_, Nat.le_refl _⟩
    have jK98 := qK98 k (by omega) k (by omega)
    simp (implicitDefEqProofs := false) [-getElem?_pos, -getElem?_neg, Try.f21, h1c, (eq_true h3), h4c, h6c, h8, h9, h9i, h11r] at jK98
    refine ⟨k, ?_⟩
    simp (implicitDefEqProofs := false) [-getElem?_pos, -getElem?_neg, Try.f21, h1c, (eq_true h3), h4c, h6c, h8, h9, h9i, h11r, jK98]
  obtain rfl := Option.some.inj h
  obtain ⟨k, hk⟩ : ∃ k, 0 ≤ k := ⟨_, Nat.le_refl _⟩
  refine ⟨k, ?_⟩
  simp (implicitDefEqProofs := false) [-getElem?_pos, -getElem?_neg, Try.f21, h1c, h3]
theorem inj_spec_Words3 : ∀ a b, arg_spec_Words3 a = arg_spec_Words3 b → a = b := by
  intro x y h; simp [arg_spec_Words3] at h; simp [Prod.ext_iff, h]
noncomputable def F_spec_Words3 : Con := nilfix [[some 38]] (pcon arg_spec_Words3 (fun a => p_spec_Words3 a) res_spec_Words3)
theorem fn_spec_Words3 : Fn Try.prog 21 F_spec_Words3 := (Fn.pure cal_spec_Words3 (fun k w0 h0 => ok_spec_Words3 k w0 h0) mixed Try.func21 rfl rfl (by kernel_rfl) 1 (by decide) (fun _ => rfl) lm_spec_Words3 (fun a b h => t_spec_Words3 h)).nilfix _
theorem c_spec_Words3 {a0 : L3} {r : L2} (h : p_spec_Words3 a0 = some r) : F_spec_Words3 [.agg [.sl false 38 (List.map (cL38 false) a0)]] = some (((false, [none]), [.sl true 31 (List.map (cL31 false) r)])) := pcon_at (arg := arg_spec_Words3) (p := fun a => p_spec_Words3 a) (res := res_spec_Words3) (a := a0) (b := r) inj_spec_Words3 h
noncomputable def cal_spec_Missing (k : Nat) : Cal := calI (tabOf [(21, F_spec_Words3), (29, F_spec_Check), (43, F_spec_l7Ways)]) (inlOf [])
@[simp] theorem cal_spec_Missing_ap (k g : Nat) (vs : List TV) (mem : Mem) (ep : Nat) : cal_spec_Missing k g vs mem ep = calI (tabOf [(21, F_spec_Words3), (29, F_spec_Check), (43, F_spec_l7Ways)]) (inlOf []) g vs mem ep := rfl
theorem ok_spec_Missing (k : Nat) (w0 : World) (h0 : True) : CalOk Try.prog w0.heap.size w0 (cal_spec_Missing k) := by
  exact calI_ok (J := fun _ => True) stab_true (tabOf_ok _ (by simp [fn_spec_Words3, fn_spec_Check, fn_spec_l7Ways])) (inlOf_ok _ (by simp [])) h0
@[simp] def lm_spec_Missing : Nat → List Nat × Nat := fun b => if b = 0 then ([3, 5, 6, 7], 4) else if b = 2000000 then ([], 8888888) else if b = 3000000 then ([5], 4) else ([], 0)
theorem dr_spec_Missing_8 : drawn (opsOf (nav [1, 1, 1, 1, 0, 1, 0, 0, 1, 0, 0, 0] (bodyOf Try.f26))) = some ([0, 2, 3, 4, 5, 1], [6, 7]) := by kernel_rfl
@[simp] def arg_spec_Missing (a : L3 × L3) : List TV := [.agg [.sl false 38 (List.map (cL38 false) a.1)], .agg [.sl false 38 (List.map (cL38 false) a.2)]]
@[simp] def res_spec_Missing (r : L2) : Sh × List V := ((false, [none]), [.sl true 31 (List.map (cL31 false) r)])
def p_spec_Missing_L0 (a0 : L3) (a1 : L3) (y8 : L2) (x7b0 : Int) (l3b0 : L2) : Option L2 :=
 if x7b0 < (y8.length : Int) then
  if 0 ≤ x7b0 then
   y8[x7b0.toNat]? >>= fun y43 =>
   p_spec_l7Ways a1 ([100]) y43 >>= fun y47 =>
   if y47 = 0 then
    if (l3b0.length + 1) * 24 ≤ 140737488355328 then
     some (l3b0 ++ [y43]) >>= fun l51 =>
     p_spec_Missing_L0 a0 a1 y8 (IntKind.wrap .i64 (x7b0 + 1)) l51
    else none
   else
    p_spec_Missing_L0 a0 a1 y8 (IntKind.wrap .i64 (x7b0 + 1)) l3b0
  else none
 else
  some l3b0
partial_fixpoint
@[simp] noncomputable def L_spec_Missing_L0 : Code := nav [1, 1, 1, 1, 0, 1, 0, 0] (bodyOf Try.f26)
@[simp] def T_spec_Missing_L0 (a0 : L3) (a1 : L3) (y8 : L2) (x7b0 : Int) (l3b0 : L2) (st : Nat → Nat) : St := ⟨[(3, .one (.bp 2 2 0)), (5, .one (.ow 3 (st 1))), (6, .one (.ow 4 6)), (7, .one (.lit (.int .i64 x7b0)))], [none, some (.box 1 [.sl false 38 (List.map (cL38 false) a0)]), some (.box 2 [.sl false 38 (List.map (cL38 false) a1)]), some (.rows (st 1) 3 31 (List.map (cL31 false) l3b0)), some (.rows 6 6 31 (List.map (cL31 false) y8))], (st 0)⟩
@[simp] def U_spec_Missing_L0 (a0 : L3) (a1 : L3) (y8 : L2) (o : L2) (st : Nat → Nat) : St := ⟨[(5, .one (.ow 3 (st 1)))], [none, some (.box 1 [.sl false 38 (List.map (cL38 false) a0)]), some (.box 2 [.sl false 38 (List.map (cL38 false) a1)]), some (.rows (st 1) 3 31 (List.map (cL31 false) o)), some (.rows 6 6 31 (List.map (cL31 false) y8))], (st 0)⟩
abbrev Q_spec_Missing_L0 (a0 : L3) (a1 : L3) (y8 : L2) (x7b0 : Int) (l3b0 : L2) (o : L2) : Prop := ∀ st : Nat → Nat, LoopG Try.prog cal_spec_Missing 1 lm_spec_Missing 0 L_spec_Missing_L0 (U_spec_Missing_L0 a0 a1 y8) (T_spec_Missing_L0 a0 a1 y8 x7b0 l3b0 st) o
theorem l_spec_Missing_L0 {a0 : L3} {a1 : L3} {y8 : L2} {x7b0 : Int} {l3b0 : L2} {o : L2} (h : p_spec_Missing_L0 a0 a1 y8 x7b0 l3b0 = some o) : Q_spec_Missing_L0 a0 a1 y8 x7b0 l3b0 o := by
  refine p_spec_Missing_L0.partial_correctness a0 a1 y8 (motive := fun x7b0 l3b0 o => Q_spec_Missing_L0 a0 a1 y8 x7b0 l3b0 o) ?_ x7b0 l3b0 o h
  clear h o x7b0 l3b0
  intro p' ih x7b0 l3b0 r h st
  rcases ifc h with ⟨h41, h⟩ | ⟨h41, h⟩
  · obtain ⟨h42, h⟩ := ifg h
    obtain ⟨y43, h44, h⟩ := bd h
    have h44b := (List.getElem?_eq_some_iff.1 h44).1
    obtain ⟨y47, h46, h⟩ := bd h
    have h46c := c_spec_l7Ways h46
    try simp (implicitDefEqProofs := false) [-getElem?_pos, -getElem?_neg] at h46c
    rcases ifc h with ⟨h48, h⟩ | ⟨h48, h⟩
    · obtain ⟨h50, h⟩ := ifg h
      obtain ⟨l51, h52, h⟩ := bd h
      have h52r : List.map (cL31 false) l3b0 ++ [[.sl false 3 (List.map cI y43)]] = List.map (cL31 false) l51 := by rw [← Option.some.inj h52]; simp
      refine LoopG.step 0 (fun k hk => ?_) (ih _ _ _ h (sl [((st 0) + 4), ((st 0) + 3)]))
      have hd_spec_Missing_8 := dr_spec_Missing_8
      simp only [opsOf, nav, bodyOf, Try.f26, Option.getD_some] at hd_spec_Missing_8
      simp (implicitDefEqProofs := false) [-getElem?_pos, -getElem?_neg, Try.f26, h41, ex_draw2 _ _ hd_spec_Missing_8, h42, h44, h44b, h46c, (eq_true h48), h50, h52r]
    refine LoopG.step 0 (fun k hk => ?_) (ih _ _ _ h (sl [((st 0) + 2), (st 1)]))
    have hd_spec_Missing_8 := dr_spec_Missing_8
    simp only [opsOf, nav, bodyOf, Try.f26, Option.getD_some] at hd_spec_Missing_8
    simp (implicitDefEqProofs := false) [-getElem?_pos, -getElem?_neg, Try.f26, h41, ex_draw2 _ _ hd_spec_Missing_8, h42, h44, h44b, h46c, h48]
  obtain rfl := Option.some.inj h
  exact LoopG.exit (sl [(st 0), (st 1)]) 0 (fun k hk => by simp (implicitDefEqProofs := false) [-getElem?_pos, -getElem?_neg, Try.f26, h41])
def p_spec_Missing (a0 : L3) (a1 : L3) : Option L2 :=
 p_spec_Check a0 >>= fun y2 =>
 if y2 = 0 then
  p_spec_Check a1 >>= fun y5 =>
  if y5 = 0 then
   p_spec_Words3 a0 >>= fun y8 =>
   p_spec_Missing_L0 a0 a1 y8 0 ([]) >>= fun o54 =>
   some o54
  else
   some ([])
 else
  some ([])
theorem t_spec_Missing {a0 : L3} {a1 : L3} {r : L2} (h : p_spec_Missing a0 a1 = some r) : ∃ k, told Try.prog (cal_spec_Missing k) k lm_spec_Missing Try.f26 (arg_spec_Missing (a0, a1)) = some (res_spec_Missing r) := by
  unfold p_spec_Missing at h
  obtain ⟨y2, h1, h⟩ := bd h
  have h1c := c_spec_Check h1
  rcases ifc h with ⟨h3, h⟩ | ⟨h3, h⟩
  · obtain ⟨y5, h4, h⟩ := bd h
    have h4c := c_spec_Check h4
    rcases ifc h with ⟨h6, h⟩ | ⟨h6, h⟩
    · obtain ⟨y8, h7, h⟩ := bd h
      have h7c := c_spec_Words3 h7
      obtain ⟨o54, h53, h⟩ := bd h
      have qK55 := l_spec_Missing_L0 h53 (sl [7, 3])
      obtain ⟨s56, K55, qK55⟩ := qK55
      obtain rfl := Option.some.inj h
      obtain ⟨k, hk⟩ : ∃ k, K55 ≤ k := ⟨_, Nat.le_refl _⟩
      have jK55 := qK55 k (by omega) k (by omega)
      simp (implicitDefEqProofs := false) [-getElem?_pos, -getElem?_neg, Try.f26, h1c, (eq_true h3), h4c, (eq_true h6), h7c] at jK55
      refine ⟨k, ?_⟩
      simp (implicitDefEqProofs := false) [-getElem?_pos, -getElem?_neg, Try.f26, h1c, (eq_true h3), h4c, (eq_true h6), h7c, jK55]
    obtain rfl := Option.some.inj h
    obtain ⟨k, hk⟩ : ∃ k, 0 ≤ k := ⟨_, Nat.le_refl _⟩
    refine ⟨k, ?_⟩
    simp (implicitDefEqProofs := false) [-getElem?_pos, -getElem?_neg, Try.f26, h1c, (eq_true h3), h4c, h6]
  obtain rfl := Option.some.inj h
  obtain ⟨k, hk⟩ : ∃ k, 0 ≤ k := ⟨_, Nat.le_refl _⟩
  refine ⟨k, ?_⟩
  simp (implicitDefEqProofs := false) [-getElem?_pos, -getElem?_neg, Try.f26, h1c, h3]
theorem inj_spec_Missing : ∀ a b, arg_spec_Missing a = arg_spec_Missing b → a = b := by
  rintro ⟨x0, x1⟩ ⟨y0, y1⟩ h; simp [arg_spec_Missing] at h; simp [Prod.ext_iff, h]
noncomputable def F_spec_Missing : Con := nilfix [[some 38], [some 38]] (pcon arg_spec_Missing (fun a => p_spec_Missing a.1 a.2) res_spec_Missing)
theorem fn_spec_Missing : Fn Try.prog 26 F_spec_Missing := (Fn.pure cal_spec_Missing (fun k w0 h0 => ok_spec_Missing k w0 h0) mixed Try.func26 rfl rfl (by kernel_rfl) 2 (by decide) (fun _ => rfl) lm_spec_Missing (fun a b h => t_spec_Missing h)).nilfix _
theorem c_spec_Missing {a0 : L3} {a1 : L3} {r : L2} (h : p_spec_Missing a0 a1 = some r) : F_spec_Missing [.agg [.sl false 38 (List.map (cL38 false) a0)], .agg [.sl false 38 (List.map (cL38 false) a1)]] = some (((false, [none]), [.sl true 31 (List.map (cL31 false) r)])) := pcon_at (arg := arg_spec_Missing) (p := fun a => p_spec_Missing a.1 a.2) (res := res_spec_Missing) (a := (a0, a1)) (b := r) inj_spec_Missing h
noncomputable def cal_spec_SameWords (k : Nat) : Cal := calI (tabOf [(26, F_spec_Missing), (29, F_spec_Check)]) (inlOf [])
@[simp] theorem cal_spec_SameWords_ap (k g : Nat) (vs : List TV) (mem : Mem) (ep : Nat) : cal_spec_SameWords k g vs mem ep = calI (tabOf [(26, F_spec_Missing), (29, F_spec_Check)]) (inlOf []) g vs mem ep := rfl
theorem ok_spec_SameWords (k : Nat) (w0 : World) (h0 : True) : CalOk Try.prog w0.heap.size w0 (cal_spec_SameWords k) := by
  exact calI_ok (J := fun _ => True) stab_true (tabOf_ok _ (by simp [fn_spec_Missing, fn_spec_Check])) (inlOf_ok _ (by simp [])) h0
@[simp] def lm_spec_SameWords : Nat → List Nat × Nat := fun b => ([], 0)
@[simp] def arg_spec_SameWords (a : L3 × L3) : List TV := [.agg [.sl false 38 (List.map (cL38 false) a.1)], .agg [.sl false 38 (List.map (cL38 false) a.2)]]
@[simp] def res_spec_SameWords (r : Bool) : Sh × List V := ((false, [none]), [.lit (.bool r)])
def p_spec_SameWords (a0 : L3) (a1 : L3) : Option Bool :=
 p_spec_Check a0 >>= fun y2 =>
 if y2 = 0 then
  p_spec_Check a1 >>= fun y5 =>
  if y5 = 0 then
   p_spec_Missing a0 a1 >>= fun y8 =>
   if (y8.length : Int) = 0 then
    p_spec_Missing a1 a0 >>= fun y11 =>
    some (decide ((y11.length : Int) = 0))
   else
    some false
  else
   some false
 else
  some false
theorem t_spec_SameWords {a0 : L3} {a1 : L3} {r : Bool} (h : p_spec_SameWords a0 a1 = some r) : ∃ k, told Try.prog (cal_spec_SameWords k) k lm_spec_SameWords Try.f19 (arg_spec_SameWords (a0, a1)) = some (res_spec_SameWords r) := by
  unfold p_spec_SameWords at h
  obtain ⟨y2, h1, h⟩ := bd h
  have h1c := c_spec_Check h1
  rcases ifc h with ⟨h3, h⟩ | ⟨h3, h⟩
  · obtain ⟨y5, h4, h⟩ := bd h
    have h4c := c_spec_Check h4
    rcases ifc h with ⟨h6, h⟩ | ⟨h6, h⟩
    · obtain ⟨y8, h7, h⟩ := bd h
      have h7c := c_spec_Missing h7
      rcases ifc h with ⟨h9, h⟩ | ⟨h9, h⟩
      · obtain ⟨y11, h10, h⟩ := bd h
        have h10c := c_spec_Missing h10
        obtain rfl := Option.some.inj h
        obtain ⟨k, hk⟩ : ∃ k, 0 ≤ k := ⟨_, Nat.le_refl _⟩
        refine ⟨k, ?_⟩
        simp (implicitDefEqProofs := false) [-getElem?_pos, -getElem?_neg, Try.f19, h1c, (eq_true h3), h4c, (eq_true h6), h7c, (eq_true h9), (eq_true (List.length_eq_zero_iff.1 (Int.natCast_eq_zero.1 h9))), h10c]
      obtain rfl := Option.some.inj h
      obtain ⟨k, hk⟩ : ∃ k, 0 ≤ k := ⟨_, Nat.le_refl _⟩
      refine ⟨k, ?_⟩
      simp (implicitDefEqProofs := false) [-getElem?_pos, -getElem?_neg, Try.f19, h1c, (eq_true h3), h4c, (eq_true h6), h7c, h9, (mt (fun q => Int.natCast_eq_zero.2 (List.length_eq_zero_iff.2 q)) h9)]
    obtain rfl := Option.some.inj h
    obtain ⟨k, hk⟩ : ∃ k, 0 ≤ k := ⟨_, Nat.le_refl _⟩
    refine ⟨k, ?_⟩
    simp (implicitDefEqProofs := false) [-getElem?_pos, -getElem?_neg, Try.f19, h1c, (eq_true h3), h4c, h6]
  obtain rfl := Option.some.inj h
  obtain ⟨k, hk⟩ : ∃ k, 0 ≤ k := ⟨_, Nat.le_refl _⟩
  refine ⟨k, ?_⟩
  simp (implicitDefEqProofs := false) [-getElem?_pos, -getElem?_neg, Try.f19, h1c, h3]
theorem inj_spec_SameWords : ∀ a b, arg_spec_SameWords a = arg_spec_SameWords b → a = b := by
  rintro ⟨x0, x1⟩ ⟨y0, y1⟩ h; simp [arg_spec_SameWords] at h; simp [Prod.ext_iff, h]
noncomputable def F_spec_SameWords : Con := nilfix [[some 38], [some 38]] (pcon arg_spec_SameWords (fun a => p_spec_SameWords a.1 a.2) res_spec_SameWords)
theorem fn_spec_SameWords : Fn Try.prog 19 F_spec_SameWords := (Fn.pure cal_spec_SameWords (fun k w0 h0 => ok_spec_SameWords k w0 h0) mixed Try.func19 rfl rfl (by kernel_rfl) 2 (by decide) (fun _ => rfl) lm_spec_SameWords (fun a b h => t_spec_SameWords h)).nilfix _
theorem c_spec_SameWords {a0 : L3} {a1 : L3} {r : Bool} (h : p_spec_SameWords a0 a1 = some r) : F_spec_SameWords [.agg [.sl false 38 (List.map (cL38 false) a0)], .agg [.sl false 38 (List.map (cL38 false) a1)]] = some (((false, [none]), [.lit (.bool r)])) := pcon_at (arg := arg_spec_SameWords) (p := fun a => p_spec_SameWords a.1 a.2) (res := res_spec_SameWords) (a := (a0, a1)) (b := r) inj_spec_SameWords h
noncomputable def cal_impl_Words3 (k : Nat) : Cal := calI (tabOf [(34, F_impl_isGood), (44, F_impl_Letters), (45, F_impl_rowsOfLetters), (46, F_impl_accepts)]) (inlOf [])
@[simp] theorem cal_impl_Words3_ap (k g : Nat) (vs : List TV) (mem : Mem) (ep : Nat) : cal_impl_Words3 k g vs mem ep = calI (tabOf [(34, F_impl_isGood), (44, F_impl_Letters), (45, F_impl_rowsOfLetters), (46, F_impl_accepts)]) (inlOf []) g vs mem ep := rfl
theorem ok_impl_Words3 (k : Nat) (w0 : World) (h0 : True) : CalOk Try.prog w0.heap.size w0 (cal_impl_Words3 k) := by
  exact calI_ok (J := fun _ => True) stab_true (tabOf_ok _ (by simp [fn_impl_isGood, fn_impl_Letters, fn_impl_rowsOfLetters, fn_impl_accepts])) (inlOf_ok _ (by simp [])) h0
@[simp] def lm_impl_Words3 : Nat → List Nat × Nat := fun b => if b = 0 then ([1, 3, 4, 18], 3) else if b = 2000000 then ([0, 4, 0, 31], 8888888) else if b = 3000000 then ([4], 3) else if b = 2 then ([1, 3, 4, 18, 23, 24, 25], 4) else if b = 2000002 then ([2, 23, 0, 0, 0, 4, 0, 31], 8888888) else if b = 3000002 then ([1, 3, 4, 18], 4) else if b = 5000000 then ([0, 2, 0, 31], 8888888) else ([], 0)
@[simp] def arg_impl_Words3 (a : L3) : List TV := [.agg [.sl false 38 (List.map (cL38 false) a)]]
@[simp] def res_impl_Words3 (r : L2) : Sh × List V := ((false, [none]), [.sl true 31 (List.map (cL31 false) r)])
def p_impl_Words3_L2 (x18b0 : Int) (y60 : L2) (a0 : L3) (l8 : LI) (x25b2 : Int) (l3b2 : L2) : Option L2 :=
 if x25b2 < (y60.length : Int) then
  if 0 ≤ x25b2 then
   y60[x25b2.toNat]? >>= fun y82 =>
   p_impl_accepts a0 y82 >>= fun y85 =>
   if y85 then
    if (l3b2.length + 1) * 24 ≤ 140737488355328 then
     some (l3b2 ++ [y82]) >>= fun l88 =>
     p_impl_Words3_L2 x18b0 y60 a0 l8 (IntKind.wrap .i64 (x25b2 + 1)) l88
    else none
   else
    p_impl_Words3_L2 x18b0 y60 a0 l8 (IntKind.wrap .i64 (x25b2 + 1)) l3b2
  else none
 else
  some l3b2
partial_fixpoint
@[simp] noncomputable def L_impl_Words3_L2 : Code := nav [1, 1, 1, 1, 1, 0, 1, 0, 0, 1, 1, 0, 0, 1, 1, 0, 0] (bodyOf Try.f22)
@[simp] def T_impl_Words3_L2 (x18b0 : Int) (y60 : L2) (a0 : L3) (l8 : LI) (x25b2 : Int) (l3b2 : L2) (st : Nat → Nat) : St := ⟨[(1, .one (.bp 1 (st 1) 0)), (3, .one (.ow 2 (st 2))), (4, .one (.ow 3 (st 3))), (18, .one (.lit (.int .i64 x18b0))), (23, .one (.sl false 31 (List.map (cL31 false) y60))), (24, .one (.lit (.int .i64 (y60.length : Int)))), (25, .one (.lit (.int .i64 x25b2)))], [none, some (.box (st 1) [.sl false 38 (List.map (cL38 false) a0)]), some (.rows (st 2) (st 4) 3 (List.map cI l8)), some (.rows (st 3) (st 5) 31 (List.map (cL31 false) l3b2)), none], (st 0)⟩
@[simp] def U_impl_Words3_L2 (x18b0 : Int) (y60 : L2) (a0 : L3) (l8 : LI) (o : L2) (st : Nat → Nat) : St := ⟨[(1, .one (.bp 1 (st 1) 0)), (3, .one (.ow 2 (st 2))), (4, .one (.ow 3 (st 3))), (18, .one (.lit (.int .i64 x18b0)))], [none, some (.box (st 1) [.sl false 38 (List.map (cL38 false) a0)]), some (.rows (st 2) (st 4) 3 (List.map cI l8)), some (.rows (st 3) (st 5) 31 (List.map (cL31 false) o)), none], (st 0)⟩
abbrev Q_impl_Words3_L2 (x18b0 : Int) (y60 : L2) (a0 : L3) (l8 : LI) (x25b2 : Int) (l3b2 : L2) (o : L2) : Prop := ∀ st : Nat → Nat, LoopG Try.prog cal_impl_Words3 1 lm_impl_Words3 2 L_impl_Words3_L2 (U_impl_Words3_L2 x18b0 y60 a0 l8) (T_impl_Words3_L2 x18b0 y60 a0 l8 x25b2 l3b2 st) o
theorem l_impl_Words3_L2 {x18b0 : Int} {y60 : L2} {a0 : L3} {l8 : LI} {x25b2 : Int} {l3b2 : L2} {o : L2} (h : p_impl_Words3_L2 x18b0 y60 a0 l8 x25b2 l3b2 = some o) : Q_impl_Words3_L2 x18b0 y60 a0 l8 x25b2 l3b2 o := by
  refine p_impl_Words3_L2.partial_correctness x18b0 y60 a0 l8 (motive := fun x25b2 l3b2 o => Q_impl_Words3_L2 x18b0 y60 a0 l8 x25b2 l3b2 o) ?_ x25b2 l3b2 o h
  clear h o x25b2 l3b2
  intro p' ih x25b2 l3b2 r h st
  rcases ifc h with ⟨h80, h⟩ | ⟨h80, h⟩
  · obtain ⟨h81, h⟩ := ifg h
    obtain ⟨y82, h83, h⟩ := bd h
    obtain ⟨y85, h84, h⟩ := bd h
    have h84c := c_impl_accepts h84
    rcases ifb h with ⟨h86, h⟩ | ⟨h86, h⟩
    · obtain ⟨h87, h⟩ := ifg h
      obtain ⟨l88, h89, h⟩ := bd h
      have h89r : List.map (cL31 false) l3b2 ++ [[.sl false 3 (List.map cI y82)]] = List.map (cL31 false) l88 := by rw [← Option.some.inj h89]; simp
      exact LoopG.step 0 (fun k hk => by simp (implicitDefEqProofs := false) [-getElem?_pos, -getElem?_neg, Try.f22, h80, h81, h83, h84c, h86, h87, h89r]) (ih _ _ _ h (sl [((st 0) + 3), (st 1), (st 2), ((st 0) + 2), (st 4), (st 5)]))
    exact LoopG.step 0 (fun k hk => by simp (implicitDefEqProofs := false) [-getElem?_pos, -getElem?_neg, Try.f22, h80, h81, h83, h84c, h86]) (ih _ _ _ h (sl [((st 0) + 1), (st 1), (st 2), (st 3), (st 4), (st 5)]))
  obtain rfl := Option.some.inj h
  exact LoopG.exit (sl [(st 0), (st 1), (st 2), (st 3), (st 4), (st 5)]) 0 (fun k hk => by simp (implicitDefEqProofs := false) [-getElem?_pos, -getElem?_neg, Try.f22, h80])
def p_impl_Words3_L0 (a0 : L3) (l8 : LI) (x18b0 : Int) (l3b0 : L2) : Option L2 :=
 if x18b0 < 4 then
  p_impl_rowsOfLetters l8 x18b0 >>= fun y60 =>
  p_impl_Words3_L2 x18b0 y60 a0 l8 0 l3b0 >>= fun o91 =>
  p_impl_Words3_L0 a0 l8 (IntKind.wrap .i64 (x18b0 + 1)) o91
 else
  some l3b0
partial_fixpoint
@[simp] noncomputable def L_impl_Words3_L0 : Code := nav [1, 1, 1, 1, 1, 0, 1, 0, 0] (bodyOf Try.f22)
@[simp] def T_impl_Words3_L0 (a0 : L3) (l8 : LI) (x18b0 : Int) (l3b0 : L2) (st : Nat → Nat) : St := ⟨[(1, .one (.bp 1 (st 1) 0)), (3, .one (.ow 2 (st 2))), (4, .one (.ow 3 (st 3))), (18, .one (.lit (.int .i64 x18b0)))], [none, some (.box (st 1) [.sl false 38 (List.map (cL38 false) a0)]), some (.rows (st 2) (st 4) 3 (List.map cI l8)), some (.rows (st 3) (st 5) 31 (List.map (cL31 false) l3b0))], (st 0)⟩
@[simp] def U_impl_Words3_L0 (a0 : L3) (l8 : LI) (o : L2) (st : Nat → Nat) : St := ⟨[(4, .one (.ow 3 (st 1)))], [none, some (.box (st 2) [.sl false 38 (List.map (cL38 false) a0)]), some (.rows (st 3) (st 4) 3 (List.map cI l8)), some (.rows (st 1) (st 5) 31 (List.map (cL31 false) o))], (st 0)⟩
abbrev Q_impl_Words3_L0 (a0 : L3) (l8 : LI) (x18b0 : Int) (l3b0 : L2) (o : L2) : Prop := ∀ st : Nat → Nat, LoopG Try.prog cal_impl_Words3 1 lm_impl_Words3 0 L_impl_Words3_L0 (U_impl_Words3_L0 a0 l8) (T_impl_Words3_L0 a0 l8 x18b0 l3b0 st) o
theorem l_impl_Words3_L0 {a0 : L3} {l8 : LI} {x18b0 : Int} {l3b0 : L2} {o : L2} (h : p_impl_Words3_L0 a0 l8 x18b0 l3b0 = some o) : Q_impl_Words3_L0 a0 l8 x18b0 l3b0 o := by
  refine p_impl_Words3_L0.partial_correctness a0 l8 (motive := fun x18b0 l3b0 o => Q_impl_Words3_L0 a0 l8 x18b0 l3b0 o) ?_ x18b0 l3b0 o h
  clear h o x18b0 l3b0
  intro p' ih x18b0 l3b0 r h st
  rcases ifc h with ⟨h58, h⟩ | ⟨h58, h⟩
  · obtain ⟨y60, h59, h⟩ := bd h
    have h59c := c_impl_rowsOfLetters h59
    obtain ⟨o91, h90, h⟩ := bd h
    have qK92 := l_impl_Words3_L2 h90 (sl [((st 0) + 1), (st 1), (st 2), (st 3), (st 4), (st 5)])
    obtain ⟨s93, K92, qK92⟩ := qK92
    refine LoopG.step K92 (fun k hk => ?_) (ih _ _ _ h (sl [(s93 0), (s93 1), (s93 2), (s93 3), (s93 4), (s93 5)]))
    have jK92 := qK92 k (by omega) k (by omega)
    simp (implicitDefEqProofs := false) [-getElem?_pos, -getElem?_neg, Try.f22, h58, h59c] at jK92
    simp (implicitDefEqProofs := false) [-getElem?_pos, -getElem?_neg, Try.f22, h58, h59c, jK92]
  obtain rfl := Option.some.inj h
  exact LoopG.exit (sl [(st 0), (st 3), (st 1), (st 2), (st 4), (st 5)]) 0 (fun k hk => by simp (implicitDefEqProofs := false) [-getElem?_pos, -getElem?_neg, Try.f22, h58])
def p_impl_Words3_L2v1 (x18b0 : Int) (y151 : L2) (a0 : L3) (l99 : LI) (x25b2 : Int) (l3b2 : L2) : Option L2 :=
 if x25b2 < (y151.length : Int) then
  if 0 ≤ x25b2 then
   y151[x25b2.toNat]? >>= fun y173 =>
   p_impl_accepts a0 y173 >>= fun y176 =>
   if y176 then
    if (l3b2.length + 1) * 24 ≤ 140737488355328 then
     some (l3b2 ++ [y173]) >>= fun l179 =>
     p_impl_Words3_L2v1 x18b0 y151 a0 l99 (IntKind.wrap .i64 (x25b2 + 1)) l179
    else none
   else
    p_impl_Words3_L2v1 x18b0 y151 a0 l99 (IntKind.wrap .i64 (x25b2 + 1)) l3b2
  else none
 else
  some l3b2
partial_fixpoint
@[simp] noncomputable def L_impl_Words3_L2v1 : Code := nav [1, 1, 1, 1, 1, 0, 1, 0, 0, 1, 1, 0, 0, 1, 1, 0, 0] (bodyOf Try.f22)
@[simp] def T_impl_Words3_L2v1 (x18b0 : Int) (y151 : L2) (a0 : L3) (l99 : LI) (x25b2 : Int) (l3b2 : L2) (st : Nat → Nat) : St := ⟨[(1, .one (.bp 1 (st 1) 0)), (3, .one (.ow 2 (st 2))), (4, .one (.ow 3 (st 3))), (18, .one (.lit (.int .i64 x18b0))), (23, .one (.sl false 31 (List.map (cL31 false) y151))), (24, .one (.lit (.int .i64 (y151.length : Int)))), (25, .one (.lit (.int .i64 x25b2)))], [none, some (.box (st 1) [.sl false 38 (List.map (cL38 false) a0)]), some (.rows (st 2) (st 4) 3 (List.map cI l99)), some (.rows (st 3) (st 5) 31 (List.map (cL31 false) l3b2)), none], (st 0)⟩
@[simp] def U_impl_Words3_L2v1 (x18b0 : Int) (y151 : L2) (a0 : L3) (l99 : LI) (o : L2) (st : Nat → Nat) : St := ⟨[(1, .one (.bp 1 (st 1) 0)), (3, .one (.ow 2 (st 2))), (4, .one (.ow 3 (st 3))), (18, .one (.lit (.int .i64 x18b0)))], [none, some (.box (st 1) [.sl false 38 (List.map (cL38 false) a0)]), some (.rows (st 2) (st 4) 3 (List.map cI l99)), some (.rows (st 3) (st 5) 31 (List.map (cL31 false) o)), none], (st 0)⟩
abbrev Q_impl_Words3_L2v1 (x18b0 : Int) (y151 : L2) (a0 : L3) (l99 : LI) (x25b2 : Int) (l3b2 : L2) (o : L2) : Prop := ∀ st : Nat → Nat, LoopG Try.prog cal_impl_Words3 1 lm_impl_Words3 2 L_impl_Words3_L2v1 (U_impl_Words3_L2v1 x18b0 y151 a0 l99) (T_impl_Words3_L2v1 x18b0 y151 a0 l99 x25b2 l3b2 st) o
theorem l_impl_Words3_L2v1 {x18b0 : Int} {y151 : L2} {a0 : L3} {l99 : LI} {x25b2 : Int} {l3b2 : L2} {o : L2} (h : p_impl_Words3_L2v1 x18b0 y151 a0 l99 x25b2 l3b2 = some o) : Q_impl_Words3_L2v1 x18b0 y151 a0 l99 x25b2 l3b2 o := by
  refine p_impl_Words3_L2v1.partial_correctness x18b0 y151 a0 l99 (motive := fun x25b2 l3b2 o => Q_impl_Words3_L2v1 x18b0 y151 a0 l99 x25b2 l3b2 o) ?_ x25b2 l3b2 o h
  clear h o x25b2 l3b2
  intro p' ih x25b2 l3b2 r h st
  rcases ifc h with ⟨h171, h⟩ | ⟨h171, h⟩
  · obtain ⟨h172, h⟩ := ifg h
    obtain ⟨y173, h174, h⟩ := bd h
    obtain ⟨y176, h175, h⟩ := bd h
    have h175c := c_impl_accepts h175
    rcases ifb h with ⟨h177, h⟩ | ⟨h177, h⟩
    · obtain ⟨h178, h⟩ := ifg h
      obtain ⟨l179, h180, h⟩ := bd h
      have h180r : List.map (cL31 false) l3b2 ++ [[.sl false 3 (List.map cI y173)]] = List.map (cL31 false) l179 := by rw [← Option.some.inj h180]; simp
      exact LoopG.step 0 (fun k hk => by simp (implicitDefEqProofs := false) [-getElem?_pos, -getElem?_neg, Try.f22, h171, h172, h174, h175c, h177, h178, h180r]) (ih _ _ _ h (sl [((st 0) + 3), (st 1), (st 2), ((st 0) + 2), (st 4), (st 5)]))
    exact LoopG.step 0 (fun k hk => by simp (implicitDefEqProofs := false) [-getElem?_pos, -getElem?_neg, Try.f22, h171, h172, h174, h175c, h177]) (ih _ _ _ h (sl [((st 0) + 1), (st 1), (st 2), (st 3), (st 4), (st 5)]))
  obtain rfl := Option.some.inj h
  exact LoopG.exit (sl [(st 0), (st 1), (st 2), (st 3), (st 4), (st 5)]) 0 (fun k hk => by simp (implicitDefEqProofs := false) [-getElem?_pos, -getElem?_neg, Try.f22, h171])
def p_impl_Words3_L0v1 (a0 : L3) (l99 : LI) (x18b0 : Int) (l3b0 : L2) : Option L2 :=
 if x18b0 < 4 then
  p_impl_rowsOfLetters l99 x18b0 >>= fun y151 =>
  p_impl_Words3_L2v1 x18b0 y151 a0 l99 0 l3b0 >>= fun o182 =>
  p_impl_Words3_L0v1 a0 l99 (IntKind.wrap .i64 (x18b0 + 1)) o182
 else
  some l3b0
partial_fixpoint
@[simp] noncomputable def L_impl_Words3_L0v1 : Code := nav [1, 1, 1, 1, 1, 0, 1, 0, 0] (bodyOf Try.f22)
@[simp] def T_impl_Words3_L0v1 (a0 : L3) (l99 : LI) (x18b0 : Int) (l3b0 : L2) (st : Nat → Nat) : St := ⟨[(1, .one (.bp 1 (st 1) 0)), (3, .one (.ow 2 (st 2))), (4, .one (.ow 3 (st 3))), (18, .one (.lit (.int .i64 x18b0)))], [none, some (.box (st 1) [.sl false 38 (List.map (cL38 false) a0)]), some (.rows (st 2) (st 4) 3 (List.map cI l99)), some (.rows (st 3) (st 5) 31 (List.map (cL31 false) l3b0))], (st 0)⟩
@[simp] def U_impl_Words3_L0v1 (a0 : L3) (l99 : LI) (o : L2) (st : Nat → Nat) : St := ⟨[(4, .one (.ow 3 (st 1)))], [none, some (.box (st 2) [.sl false 38 (List.map (cL38 false) a0)]), some (.rows (st 3) (st 4) 3 (List.map cI l99)), some (.rows (st 1) (st 5) 31 (List.map (cL31 false) o))], (st 0)⟩
abbrev Q_impl_Words3_L0v1 (a0 : L3) (l99 : LI) (x18b0 : Int) (l3b0 : L2) (o : L2) : Prop := ∀ st : Nat → Nat, LoopG Try.prog cal_impl_Words3 1 lm_impl_Words3 0 L_impl_Words3_L0v1 (U_impl_Words3_L0v1 a0 l99) (T_impl_Words3_L0v1 a0 l99 x18b0 l3b0 st) o
theorem l_impl_Words3_L0v1 {a0 : L3} {l99 : LI} {x18b0 : Int} {l3b0 : L2} {o : L2} (h : p_impl_Words3_L0v1 a0 l99 x18b0 l3b0 = some o) : Q_impl_Words3_L0v1 a0 l99 x18b0 l3b0 o := by
  refine p_impl_Words3_L0v1.partial_correctness a0 l99 (motive := fun x18b0 l3b0 o => Q_impl_Words3_L0v1 a0 l99 x18b0 l3b0 o) ?_ x18b0 l3b0 o h
  clear h o x18b0 l3b0
  intro p' ih x18b0 l3b0 r h st
  rcases ifc h with ⟨h149, h⟩ | ⟨h149, h⟩
  · obtain ⟨y151, h150, h⟩ := bd h
    have h150c := c_impl_rowsOfLetters h150
    obtain ⟨o182, h181, h⟩ := bd h
    have qK183 := l_impl_Words3_L2v1 h181 (sl [((st 0) + 1), (st 1), (st 2), (st 3), (st 4), (st 5)])
    obtain ⟨s184, K183, qK183⟩ := qK183
    refine LoopG.step K183 (fun k hk => ?_) (ih _ _ _ h (sl [(s184 0), (s184 1), (s184 2), (s184 3), (s184 4), (s184 5)]))
    have jK183 := qK183 k (by omega) k (by omega)
    simp (implicitDefEqProofs := false) [-getElem?_pos, -getElem?_neg, Try.f22, h149, h150c] at jK183
    simp (implicitDefEqProofs := false) [-getElem?_pos, -getElem?_neg, Try.f22, h149, h150c, jK183]
  obtain rfl := Option.some.inj h
  exact LoopG.exit (sl [(st 0), (st 3), (st 1), (st 2), (st 4), (st 5)]) 0 (fun k hk => by simp (implicitDefEqProofs := false) [-getElem?_pos, -getElem?_neg, Try.f22, h149])
def p_impl_Words3 (a0 : L3) : Option L2 :=
 p_impl_isGood a0 >>= fun y2 =>
 if y2 then
  p_impl_Letters a0 >>= fun y5 =>
  if 3 < (y5.length : Int) then
   if 3 ≤ y5.length then
    some (List.take 3 y5) >>= fun l8 =>
    p_impl_Words3_L0 a0 l8 0 ([]) >>= fun o95 =>
    some o95
   else none
  else
   if y5.length ≤ y5.length then
    some (List.take y5.length y5) >>= fun l99 =>
    p_impl_Words3_L0v1 a0 l99 0 ([]) >>= fun o186 =>
    some o186
   else none
 else
  some ([])
theorem t_impl_Words3 {a0 : L3} {r : L2} (h : p_impl_Words3 a0 = some r) : ∃ k, told Try.prog (cal_impl_Words3 k) k lm_impl_Words3 Try.f22 (arg_impl_Words3 a0) = some (res_impl_Words3 r) := by
  unfold p_impl_Words3 at h
  obtain ⟨y2, h1, h⟩ := bd h
  have h1c := c_impl_isGood h1
  rcases ifb h with ⟨h3, h⟩ | ⟨h3, h⟩
  · obtain ⟨y5, h4, h⟩ := bd h
    have h4c := c_impl_Letters h4
    rcases ifc h with ⟨h6, h⟩ | ⟨h6, h⟩
    · obtain ⟨h7, h⟩ := ifg h
      obtain ⟨l8, h9, h⟩ := bd h
      have h9r : List.take 3 (List.map cI y5) = List.map cI l8 := by rw [← Option.some.inj h9]; simp
      obtain ⟨o95, h94, h⟩ := bd h
      have qK96 := l_impl_Words3_L0 h94 (sl [6, 1, 4, 5, 3, 5])
      obtain ⟨s97, K96, qK96⟩ := qK96
      obtain rfl := Option.some.inj h
      obtain ⟨k, hk⟩ : ∃ k, K96 ≤ k := ⟨_, Nat.le_refl _⟩
      have jK96 := qK96 k (by omega) k (by omega)
      simp (implicitDefEqProofs := false) [-getElem?_pos, -getElem?_neg, Try.f22, h1c, h3, h4c, h6, h7, h9r] at jK96
      refine ⟨k, ?_⟩
      simp (implicitDefEqProofs := false) [-getElem?_pos, -getElem?_neg, Try.f22, h1c, h3, h4c, h6, h7, h9r, jK96]
    obtain ⟨h98, h⟩ := ifg h
    obtain ⟨l99, h100, h⟩ := bd h
    have h100r : List.take y5.length (List.map cI y5) = List.map cI l99 := by rw [← Option.some.inj h100]; exact List.map_take.symm
    obtain ⟨o186, h185, h⟩ := bd h
    have qK187 := l_impl_Words3_L0v1 h185 (sl [6, 1, 4, 5, 3, 5])
    obtain ⟨s188, K187, qK187⟩ := qK187
    obtain rfl := Option.some.inj h
    obtain ⟨k, hk⟩ : ∃ k, K187 ≤ k := ⟨_, Nat.le_refl _⟩
    have jK187 := qK187 k (by omega) k (by omega)
    simp (implicitDefEqProofs := false) [-getElem?_pos, -getElem?_neg, Try.f22, h1c, h3, h4c, h6, h98, h100r] at jK187
    refine ⟨k, ?_⟩
    simp (implicitDefEqProofs := false) [-getElem?_pos, -getElem?_neg, Try.f22, h1c, h3, h4c, h6, h98, h100r, jK187]
  obtain rfl := Option.some.inj h
  obtain ⟨k, hk⟩ : ∃ k, 0 ≤ k := ⟨_, Nat.le_refl _⟩
  refine ⟨k, ?_⟩
  simp (implicitDefEqProofs := false) [-getElem?_pos, -getElem?_neg, Try.f22, h1c, h3]
theorem inj_impl_Words3 : ∀ a b, arg_impl_Words3 a = arg_impl_Words3 b → a = b := by
  intro x y h; simp [arg_impl_Words3] at h; simp [Prod.ext_iff, h]
noncomputable def F_impl_Words3 : Con := nilfix [[some 38]] (pcon arg_impl_Words3 (fun a => p_impl_Words3 a) res_impl_Words3)
theorem fn_impl_Words3 : Fn Try.prog 22 F_impl_Words3 := (Fn.pure cal_impl_Words3 (fun k w0 h0 => ok_impl_Words3 k w0 h0) mixed Try.func22 rfl rfl (by kernel_rfl) 1 (by decide) (fun _ => rfl) lm_impl_Words3 (fun a b h => t_impl_Words3 h)).nilfix _
theorem c_impl_Words3 {a0 : L3} {r : L2} (h : p_impl_Words3 a0 = some r) : F_impl_Words3 [.agg [.sl false 38 (List.map (cL38 false) a0)]] = some (((false, [none]), [.sl true 31 (List.map (cL31 false) r)])) := pcon_at (arg := arg_impl_Words3) (p := fun a => p_impl_Words3 a) (res := res_impl_Words3) (a := a0) (b := r) inj_impl_Words3 h
noncomputable def cal_impl_Missing (k : Nat) : Cal := calI (tabOf [(22, F_impl_Words3), (34, F_impl_isGood), (46, F_impl_accepts)]) (inlOf [])
@[simp] theorem cal_impl_Missing_ap (k g : Nat) (vs : List TV) (mem : Mem) (ep : Nat) : cal_impl_Missing k g vs mem ep = calI (tabOf [(22, F_impl_Words3), (34, F_impl_isGood), (46, F_impl_accepts)]) (inlOf []) g vs mem ep := rfl
theorem ok_impl_Missing (k : Nat) (w0 : World) (h0 : True) : CalOk Try.prog w0.heap.size w0 (cal_impl_Missing k) := by
  exact calI_ok (J := fun _ => True) stab_true (tabOf_ok _ (by simp [fn_impl_Words3, fn_impl_isGood, fn_impl_accepts])) (inlOf_ok _ (by simp [])) h0
@[simp] def lm_impl_Missing : Nat → List Nat × Nat := fun b => if b = 0 then ([3, 5, 17, 18, 19], 4) else if b = 2000000 then ([0, 5, 0, 31], 8888888) else if b = 3000000 then ([5], 4) else if b = 5000000 then ([0, 4, 0, 31], 8888888) else ([], 0)
@[simp] def arg_impl_Missing (a : L3 × L3) : List TV := [.agg [.sl false 38 (List.map (cL38 false) a.1)], .agg [.sl false 38 (List.map (cL38 false) a.2)]]
@[simp] def res_impl_Missing (r : L2) : Sh × List V := ((false, [none]), [.sl true 31 (List.map (cL31 false) r)])
def p_impl_Missing_L0 (y8 : L2) (a0 : L3) (a1 : L3) (x19b0 : Int) (l4b0 : L2) : Option L2 :=
 if x19b0 < (y8.length : Int) then
  if 0 ≤ x19b0 then
   y8[x19b0.toNat]? >>= fun y40 =>
   p_impl_accepts a1 y40 >>= fun y44 =>
   if y44 then
    p_impl_Missing_L0 y8 a0 a1 (IntKind.wrap .i64 (x19b0 + 1)) l4b0
   else
    if (l4b0.length + 1) * 24 ≤ 140737488355328 then
     some (l4b0 ++ [y40]) >>= fun l47 =>
     p_impl_Missing_L0 y8 a0 a1 (IntKind.wrap .i64 (x19b0 + 1)) l47
    else none
  else none
 else
  some l4b0
partial_fixpoint
@[simp] noncomputable def L_impl_Missing_L0 : Code := nav [1, 1, 1, 0, 1, 0, 0] (bodyOf Try.f27)
@[simp] def T_impl_Missing_L0 (y8 : L2) (a0 : L3) (a1 : L3) (x19b0 : Int) (l4b0 : L2) (st : Nat → Nat) : St := ⟨[(3, .one (.bp 2 2 0)), (5, .one (.ow 4 (st 1))), (17, .one (.ow 3 5)), (18, .one (.lit (.int .i64 (y8.length : Int)))), (19, .one (.lit (.int .i64 x19b0)))], [none, some (.box 1 [.sl false 38 (List.map (cL38 false) a0)]), some (.box 2 [.sl false 38 (List.map (cL38 false) a1)]), some (.rows 5 5 31 (List.map (cL31 false) y8)), some (.rows (st 1) 6 31 (List.map (cL31 false) l4b0))], (st 0)⟩
@[simp] def U_impl_Missing_L0 (y8 : L2) (a0 : L3) (a1 : L3) (o : L2) (st : Nat → Nat) : St := ⟨[(5, .one (.ow 4 (st 1)))], [none, some (.box 1 [.sl false 38 (List.map (cL38 false) a0)]), some (.box 2 [.sl false 38 (List.map (cL38 false) a1)]), some (.rows 5 5 31 (List.map (cL31 false) y8)), some (.rows (st 1) 6 31 (List.map (cL31 false) o))], (st 0)⟩
abbrev Q_impl_Missing_L0 (y8 : L2) (a0 : L3) (a1 : L3) (x19b0 : Int) (l4b0 : L2) (o : L2) : Prop := ∀ st : Nat → Nat, LoopG Try.prog cal_impl_Missing 1 lm_impl_Missing 0 L_impl_Missing_L0 (U_impl_Missing_L0 y8 a0 a1) (T_impl_Missing_L0 y8 a0 a1 x19b0 l4b0 st) o
theorem l_impl_Missing_L0 {y8 : L2} {a0 : L3} {a1 : L3} {x19b0 : Int} {l4b0 : L2} {o : L2} (h : p_impl_Missing_L0 y8 a0 a1 x19b0 l4b0 = some o) : Q_impl_Missing_L0 y8 a0 a1 x19b0 l4b0 o := by
  refine p_impl_Missing_L0.partial_correctness y8 a0 a1 (motive := fun x19b0 l4b0 o => Q_impl_Missing_L0 y8 a0 a1 x19b0 l4b0 o) ?_ x19b0 l4b0 o h
  clear h o x19b0 l4b0
  intro p' ih x19b0 l4b0 r h st
  rcases ifc h with ⟨h38, h⟩ | ⟨h38, h⟩
  · obtain ⟨h39, h⟩ := ifg h
    obtain ⟨y40, h41, h⟩ := bd h
    have h41b := (List.getElem?_eq_some_iff.1 h41).1
    obtain ⟨y44, h43, h⟩ := bd h
    have h43c := c_impl_accepts h43
    rcases ifb h with ⟨h45, h⟩ | ⟨h45, h⟩
    · exact LoopG.step 0 (fun k hk => by simp (implicitDefEqProofs := false) [-getElem?_pos, -getElem?_neg, Try.f27, h38, h39, h41, h41b, h43c, h45]) (ih _ _ _ h (sl [((st 0) + 1), (st 1)]))
    obtain ⟨h46, h⟩ := ifg h
    obtain ⟨l47, h48, h⟩ := bd h
    have h48r : List.map (cL31 false) l4b0 ++ [[.sl false 3 (List.map cI y40)]] = List.map (cL31 false) l47 := by rw [← Option.some.inj h48]; simp
    exact LoopG.step 0 (fun k hk => by simp (implicitDefEqProofs := false) [-getElem?_pos, -getElem?_neg, Try.f27, h38, h39, h41, h41b, h43c, h45, h46, h48r]) (ih _ _ _ h (sl [((st 0) + 3), ((st 0) + 2)]))
  obtain rfl := Option.some.inj h
  exact LoopG.exit (sl [(st 0), (st 1)]) 0 (fun k hk => by simp (implicitDefEqProofs := false) [-getElem?_pos, -getElem?_neg, Try.f27, h38])
def p_impl_Missing (a0 : L3) (a1 : L3) : Option L2 :=
 p_impl_isGood a0 >>= fun y2 =>
 if y2 then
  p_impl_isGood a1 >>= fun y5 =>
  if y5 then
   p_impl_Words3 a0 >>= fun y8 =>
   p_impl_Missing_L0 y8 a0 a1 0 ([]) >>= fun o50 =>
   some o50
  else
   some ([])
 else
  some ([])
theorem t_impl_Missing {a0 : L3} {a1 : L3} {r : L2} (h : p_impl_Missing a0 a1 = some r) : ∃ k, told Try.prog (cal_impl_Missing k) k lm_impl_Missing Try.f27 (arg_impl_Missing (a0, a1)) = some (res_impl_Missing r) := by
  unfold p_impl_Missing at h
  obtain ⟨y2, h1, h⟩ := bd h
  have h1c := c_impl_isGood h1
  rcases ifb h with ⟨h3, h⟩ | ⟨h3, h⟩
  · obtain ⟨y5, h4, h⟩ := bd h
    have h4c := c_impl_isGood h4
    rcases ifb h with ⟨h6, h⟩ | ⟨h6, h⟩
    · obtain ⟨y8, h7, h⟩ := bd h
      have h7c := c_impl_Words3 h7
      obtain ⟨o50, h49, h⟩ := bd h
      have qK51 := l_impl_Missing_L0 h49 (sl [7, 6])
      obtain ⟨s52, K51, qK51⟩ := qK51
      obtain rfl := Option.some.inj h
      obtain ⟨k, hk⟩ : ∃ k, K51 ≤ k := ⟨_, Nat.le_refl _⟩
      have jK51 := qK51 k (by omega) k (by omega)
      simp (implicitDefEqProofs := false) [-getElem?_pos, -getElem?_neg, Try.f27, h1c, h3, h4c, h6, h7c] at jK51
      refine ⟨k, ?_⟩
      simp (implicitDefEqProofs := false) [-getElem?_pos, -getElem?_neg, Try.f27, h1c, h3, h4c, h6, h7c, jK51]
    obtain rfl := Option.some.inj h
    obtain ⟨k, hk⟩ : ∃ k, 0 ≤ k := ⟨_, Nat.le_refl _⟩
    refine ⟨k, ?_⟩
    simp (implicitDefEqProofs := false) [-getElem?_pos, -getElem?_neg, Try.f27, h1c, h3, h4c, h6]
  obtain rfl := Option.some.inj h
  obtain ⟨k, hk⟩ : ∃ k, 0 ≤ k := ⟨_, Nat.le_refl _⟩
  refine ⟨k, ?_⟩
  simp (implicitDefEqProofs := false) [-getElem?_pos, -getElem?_neg, Try.f27, h1c, h3]
theorem inj_impl_Missing : ∀ a b, arg_impl_Missing a = arg_impl_Missing b → a = b := by
  rintro ⟨x0, x1⟩ ⟨y0, y1⟩ h; simp [arg_impl_Missing] at h; simp [Prod.ext_iff, h]
noncomputable def F_impl_Missing : Con := nilfix [[some 38], [some 38]] (pcon arg_impl_Missing (fun a => p_impl_Missing a.1 a.2) res_impl_Missing)
theorem fn_impl_Missing : Fn Try.prog 27 F_impl_Missing := (Fn.pure cal_impl_Missing (fun k w0 h0 => ok_impl_Missing k w0 h0) mixed Try.func27 rfl rfl (by kernel_rfl) 2 (by decide) (fun _ => rfl) lm_impl_Missing (fun a b h => t_impl_Missing h)).nilfix _
theorem c_impl_Missing {a0 : L3} {a1 : L3} {r : L2} (h : p_impl_Missing a0 a1 = some r) : F_impl_Missing [.agg [.sl false 38 (List.map (cL38 false) a0)], .agg [.sl false 38 (List.map (cL38 false) a1)]] = some (((false, [none]), [.sl true 31 (List.map (cL31 false) r)])) := pcon_at (arg := arg_impl_Missing) (p := fun a => p_impl_Missing a.1 a.2) (res := res_impl_Missing) (a := (a0, a1)) (b := r) inj_impl_Missing h
noncomputable def cal_impl_SameWords (k : Nat) : Cal := calI (tabOf [(27, F_impl_Missing), (34, F_impl_isGood)]) (inlOf [])
@[simp] theorem cal_impl_SameWords_ap (k g : Nat) (vs : List TV) (mem : Mem) (ep : Nat) : cal_impl_SameWords k g vs mem ep = calI (tabOf [(27, F_impl_Missing), (34, F_impl_isGood)]) (inlOf []) g vs mem ep := rfl
theorem ok_impl_SameWords (k : Nat) (w0 : World) (h0 : True) : CalOk Try.prog w0.heap.size w0 (cal_impl_SameWords k) := by
  exact calI_ok (J := fun _ => True) stab_true (tabOf_ok _ (by simp [fn_impl_Missing, fn_impl_isGood])) (inlOf_ok _ (by simp [])) h0
@[simp] def lm_impl_SameWords : Nat → List Nat × Nat := fun b => ([], 0)
@[simp] def arg_impl_SameWords (a : L3 × L3) : List TV := [.agg [.sl false 38 (List.map (cL38 false) a.1)], .agg [.sl false 38 (List.map (cL38 false) a.2)]]
@[simp] def res_impl_SameWords (r : Bool) : Sh × List V := ((false, [none]), [.lit (.bool r)])
def p_impl_SameWords (a0 : L3) (a1 : L3) : Option Bool :=
 p_impl_isGood a0 >>= fun y2 =>
 if y2 then
  p_impl_isGood a1 >>= fun y5 =>
  if y5 then
   p_impl_Missing a0 a1 >>= fun y8 =>
   if (y8.length : Int) = 0 then
    p_impl_Missing a1 a0 >>= fun y11 =>
    some (decide ((y11.length : Int) = 0))
   else
    some false
  else
   some false
 else
  some false
theorem t_impl_SameWords {a0 : L3} {a1 : L3} {r : Bool} (h : p_impl_SameWords a0 a1 = some r) : ∃ k, told Try.prog (cal_impl_SameWords k) k lm_impl_SameWords Try.f20 (arg_impl_SameWords (a0, a1)) = some (res_impl_SameWords r) := by
  unfold p_impl_SameWords at h
  obtain ⟨y2, h1, h⟩ := bd h
  have h1c := c_impl_isGood h1
  rcases ifb h with ⟨h3, h⟩ | ⟨h3, h⟩
  · obtain ⟨y5, h4, h⟩ := bd h
    have h4c := c_impl_isGood h4
    rcases ifb h with ⟨h6, h⟩ | ⟨h6, h⟩
    · obtain ⟨y8, h7, h⟩ := bd h
      have h7c := c_impl_Missing h7
      rcases ifc h with ⟨h9, h⟩ | ⟨h9, h⟩
      · obtain ⟨y11, h10, h⟩ := bd h
        have h10c := c_impl_Missing h10
        obtain rfl := Option.some.inj h
        obtain ⟨k, hk⟩ : ∃ k, 0 ≤ k := ⟨_, Nat.le_refl _⟩
        refine ⟨k, ?_⟩
        simp (implicitDefEqProofs := false) [-getElem?_pos, -getElem?_neg, Try.f20, h1c, h3, h4c, h6, h7c, (eq_true h9), (eq_true (List.length_eq_zero_iff.1 (Int.natCast_eq_zero.1 h9))), h10c]
      obtain rfl := Option.some.inj h
      obtain ⟨k, hk⟩ : ∃ k, 0 ≤ k := ⟨_, Nat.le_refl _⟩
      refine ⟨k, ?_⟩
      simp (implicitDefEqProofs := false) [-getElem?_pos, -getElem?_neg, Try.f20, h1c, h3, h4c, h6, h7c, h9, (mt (fun q => Int.natCast_eq_zero.2 (List.length_eq_zero_iff.2 q)) h9)]
    obtain rfl := Option.some.inj h
    obtain ⟨k, hk⟩ : ∃ k, 0 ≤ k := ⟨_, Nat.le_refl _⟩
    refine ⟨k, ?_⟩
    simp (implicitDefEqProofs := false) [-getElem?_pos, -getElem?_neg, Try.f20, h1c, h3, h4c, h6]
  obtain rfl := Option.some.inj h
  obtain ⟨k, hk⟩ : ∃ k, 0 ≤ k := ⟨_, Nat.le_refl _⟩
  refine ⟨k, ?_⟩
  simp (implicitDefEqProofs := false) [-getElem?_pos, -getElem?_neg, Try.f20, h1c, h3]
theorem inj_impl_SameWords : ∀ a b, arg_impl_SameWords a = arg_impl_SameWords b → a = b := by
  rintro ⟨x0, x1⟩ ⟨y0, y1⟩ h; simp [arg_impl_SameWords] at h; simp [Prod.ext_iff, h]
noncomputable def F_impl_SameWords : Con := nilfix [[some 38], [some 38]] (pcon arg_impl_SameWords (fun a => p_impl_SameWords a.1 a.2) res_impl_SameWords)
theorem fn_impl_SameWords : Fn Try.prog 20 F_impl_SameWords := (Fn.pure cal_impl_SameWords (fun k w0 h0 => ok_impl_SameWords k w0 h0) mixed Try.func20 rfl rfl (by kernel_rfl) 2 (by decide) (fun _ => rfl) lm_impl_SameWords (fun a b h => t_impl_SameWords h)).nilfix _
theorem c_impl_SameWords {a0 : L3} {a1 : L3} {r : Bool} (h : p_impl_SameWords a0 a1 = some r) : F_impl_SameWords [.agg [.sl false 38 (List.map (cL38 false) a0)], .agg [.sl false 38 (List.map (cL38 false) a1)]] = some (((false, [none]), [.lit (.bool r)])) := pcon_at (arg := arg_impl_SameWords) (p := fun a => p_impl_SameWords a.1 a.2) (res := res_impl_SameWords) (a := (a0, a1)) (b := r) inj_impl_SameWords h
theorem bb_in {P : Program} {T : Nat} (ht : P.underlying T = some .bool) (a b : Bool) (d : Nat) : quiet P (Op.equalIn (d + 1) T (.bool a) (.bool b)) = some (a == b) := by
  unfold Op.equalIn
  rw [gq_bind, gq_und ht]
  rfl
theorem bb_eql {P : Program} {T : Nat} (ht : P.underlying T = some .bool) (x y : Operand) (a b : Bool) : binV P .eql T x y (.bool a) (.bool b) = some (.bool (a == b)) := by
  show quiet P ((Op.equalIn (9999 + 1) T (.bool a) (.bool b)) >>= fun r => (pure (.bool r) : Sem Value)) = _
  rw [gq_bind, bb_in ht]
  rfl
theorem bb_neq {P : Program} {T : Nat} (ht : P.underlying T = some .bool) (x y : Operand) (a b : Bool) : binV P .neq T x y (.bool a) (.bool b) = some (.bool (a != b)) := by
  show quiet P ((Op.equalIn (9999 + 1) T (.bool a) (.bool b)) >>= fun r => (pure (.bool (!r)) : Sem Value)) = _
  rw [gq_bind, bb_in ht]
  cases a <;> cases b <;> rfl
noncomputable def cal_laws_FnExactSameWords (k : Nat) : Cal := calI (tabOf [(8, F_laws_szGram), (10, F_laws_toGram), (12, F_laws_eqGram), (19, F_spec_SameWords), (20, F_impl_SameWords)]) (inlOf [])
@[simp] theorem cal_laws_FnExactSameWords_ap (k g : Nat) (vs : List TV) (mem : Mem) (ep : Nat) : cal_laws_FnExactSameWords k g vs mem ep = calI (tabOf [(8, F_laws_szGram), (10, F_laws_toGram), (12, F_laws_eqGram), (19, F_spec_SameWords), (20, F_impl_SameWords)]) (inlOf []) g vs mem ep := rfl
theorem ok_laws_FnExactSameWords (k : Nat) (w0 : World) (h0 : True) : CalOk Try.prog w0.heap.size w0 (cal_laws_FnExactSameWords k) := by
  exact calI_ok (J := fun _ => True) stab_true (tabOf_ok _ (by simp [fn_laws_szGram, fn_laws_toGram, fn_laws_eqGram, fn_spec_SameWords, fn_impl_SameWords])) (inlOf_ok _ (by simp [])) h0
@[simp] def lm_laws_FnExactSameWords : Nat → List Nat × Nat := fun b => ([], 0)
theorem dr_laws_FnExactSameWords_8 : drawn (opsOf (nav [1, 1, 1, 1, 1, 1, 0] (bodyOf Try.f5))) = some ([0, 2, 1], [3, 4, 5]) := by kernel_rfl
theorem dr_laws_FnExactSameWords_14 : drawn (opsOf (nav [1, 1, 1, 1, 1, 1, 1, 1, 1, 1, 1, 0, 0] (bodyOf Try.f5))) = some ([0, 1, 2], [3, 4]) := by kernel_rfl
theorem dr_laws_FnExactSameWords_16 : drawn (opsOf (nav [1, 1, 1, 1, 1, 1, 1, 1, 1, 1, 1, 1, 0, 0] (bodyOf Try.f5))) = some ([0, 1, 2], [3, 4]) := by kernel_rfl
@[simp] def arg_laws_FnExactSameWords (a : L3 × L3) : List TV := [.agg [.sl false 38 (List.map (cL38 false) a.1)], .agg [.sl false 38 (List.map (cL38 false) a.2)]]
@[simp] def res_laws_FnExactSameWords (r : Bool) : Sh × List V := ((false, [none]), [.lit (.bool r)])
def p_laws_FnExactSameWords (a0 : L3) (a1 : L3) : Option Bool :=
 p_laws_szGram a0 1048576 >>= fun y2 =>
 if y2 < 0 then
  some true
 else
  p_laws_szGram a1 y2 >>= fun y5 =>
  if y5 < 0 then
   some true
  else
   p_laws_toGram a0 >>= fun y8 =>
   p_laws_toGram a1 >>= fun y10 =>
   p_spec_SameWords y8 y10 >>= fun y12 =>
   p_impl_SameWords y8 y10 >>= fun y16 =>
   if y16 then
    if y12 then
     p_laws_eqGram y8 y8 >>= fun y21 =>
     if y21 then
      p_laws_eqGram y10 y10 >>= fun y25 =>
      if y25 then
       some true
      else
       some false
     else
      some false
    else
     some false
   else
    if y12 then
     some false
    else
     p_laws_eqGram y8 y8 >>= fun y30 =>
     if y30 then
      p_laws_eqGram y10 y10 >>= fun y34 =>
      if y34 then
       some true
      else
       some false
     else
      some false
theorem t_laws_FnExactSameWords {a0 : L3} {a1 : L3} {r : Bool} (h : p_laws_FnExactSameWords a0 a1 = some r) : ∃ k, told Try.prog (cal_laws_FnExactSameWords k) k lm_laws_FnExactSameWords Try.f5 (arg_laws_FnExactSameWords (a0, a1)) = some (res_laws_FnExactSameWords r) := by
  unfold p_laws_FnExactSameWords at h
  obtain ⟨y2, h1, h⟩ := bd h
  have h1c := c_laws_szGram h1
  rcases ifc h with ⟨h3, h⟩ | ⟨h3, h⟩
  · obtain rfl := Option.some.inj h
    obtain ⟨k, hk⟩ : ∃ k, 0 ≤ k := ⟨_, Nat.le_refl _⟩
    refine ⟨k, ?_⟩
    simp (implicitDefEqProofs := false) [-getElem?_pos, -getElem?_neg, Try.f5, h1c, h3]
  obtain ⟨y5, h4, h⟩ := bd h
  have h4c := c_laws_szGram h4
  rcases ifc h with ⟨h6, h⟩ | ⟨h6, h⟩
  · obtain rfl := Option.some.inj h
    obtain ⟨k, hk⟩ : ∃ k, 0 ≤ k := ⟨_, Nat.le_refl _⟩
    refine ⟨k, ?_⟩
    simp (implicitDefEqProofs := false) [-getElem?_pos, -getElem?_neg, Try.f5, h1c, h3, h4c, h6]
  obtain ⟨y8, h7, h⟩ := bd h
  have h7c := c_laws_toGram h7
  obtain ⟨y10, h9, h⟩ := bd h
  have h9c := c_laws_toGram h9
  obtain ⟨y12, h11, h⟩ := bd h
  have h11c := c_spec_SameWords h11
  obtain ⟨y16, h15, h⟩ := bd h
  have h15c := c_impl_SameWords h15
  rcases ifb h with ⟨h17, h⟩ | ⟨h17, h⟩
  · rcases ifb h with ⟨h18, h⟩ | ⟨h18, h⟩
    · obtain ⟨y21, h20, h⟩ := bd h
      have h20c := c_laws_eqGram h20
      rcases ifb h with ⟨h22, h⟩ | ⟨h22, h⟩
      · obtain ⟨y25, h24, h⟩ := bd h
        have h24c := c_laws_eqGram h24
        rcases ifb h with ⟨h26, h⟩ | ⟨h26, h⟩
        · obtain rfl := Option.some.inj h
          obtain ⟨k, hk⟩ : ∃ k, 0 ≤ k := ⟨_, Nat.le_refl _⟩
          have hd_laws_FnExactSameWords_8 := dr_laws_FnExactSameWords_8
          simp only [opsOf, nav, bodyOf, Try.f5, Option.getD_some] at hd_laws_FnExactSameWords_8
          have hd_laws_FnExactSameWords_14 := dr_laws_FnExactSameWords_14
          simp only [opsOf, nav, bodyOf, Try.f5, Option.getD_some] at hd_laws_FnExactSameWords_14
          have hd_laws_FnExactSameWords_16 := dr_laws_FnExactSameWords_16
          simp only [opsOf, nav, bodyOf, Try.f5, Option.getD_some] at hd_laws_FnExactSameWords_16
          refine ⟨k, ?_⟩
          simp (implicitDefEqProofs := false) [-getElem?_pos, -getElem?_neg, Try.f5, h1c, h3, h4c, h6, ex_draw2 _ _ hd_laws_FnExactSameWords_8, h7c, h9c, h11c, h15c, bb_eql Try.underlying4, bb_neq Try.underlying4, h17, h18, ex_draw2 _ _ hd_laws_FnExactSameWords_14, h20c, h22, ex_draw2 _ _ hd_laws_FnExactSameWords_16, h24c, h26]
        obtain rfl := Option.some.inj h
        obtain ⟨k, hk⟩ : ∃ k, 0 ≤ k := ⟨_, Nat.le_refl _⟩
        have hd_laws_FnExactSameWords_8 := dr_laws_FnExactSameWords_8
        simp only [opsOf, nav, bodyOf, Try.f5, Option.getD_some] at hd_laws_FnExactSameWords_8
        have hd_laws_FnExactSameWords_14 := dr_laws_FnExactSameWords_14
        simp only [opsOf, nav, bodyOf, Try.f5, Option.getD_some] at hd_laws_FnExactSameWords_14
        have hd_laws_FnExactSameWords_16 := dr_laws_FnExactSameWords_16
        simp only [opsOf, nav, bodyOf, Try.f5, Option.getD_some] at hd_laws_FnExactSameWords_16
        refine ⟨k, ?_⟩
        simp (implicitDefEqProofs := false) [-getElem?_pos, -getElem?_neg, Try.f5, h1c, h3, h4c, h6, ex_draw2 _ _ hd_laws_FnExactSameWords_8, h7c, h9c, h11c, h15c, bb_eql Try.underlying4, bb_neq Try.underlying4, h17, h18, ex_draw2 _ _ hd_laws_FnExactSameWords_14, h20c, h22, ex_draw2 _ _ hd_laws_FnExactSameWords_16, h24c, h26]
      obtain rfl := Option.some.inj h
      obtain ⟨k, hk⟩ : ∃ k, 0 ≤ k := ⟨_, Nat.le_refl _⟩
      have hd_laws_FnExactSameWords_8 := dr_laws_FnExactSameWords_8
      simp only [opsOf, nav, bodyOf, Try.f5, Option.getD_some] at hd_laws_FnExactSameWords_8
      have hd_laws_FnExactSameWords_14 := dr_laws_FnExactSameWords_14
      simp only [opsOf, nav, bodyOf, Try.f5, Option.getD_some] at hd_laws_FnExactSameWords_14
      refine ⟨k, ?_⟩
      simp (implicitDefEqProofs := false) [-getElem?_pos, -getElem?_neg, Try.f5, h1c, h3, h4c, h6, ex_draw2 _ _ hd_laws_FnExactSameWords_8, h7c, h9c, h11c, h15c, bb_eql Try.underlying4, bb_neq Try.underlying4, h17, h18, ex_draw2 _ _ hd_laws_FnExactSameWords_14, h20c, h22]
    obtain rfl := Option.some.inj h
    obtain ⟨k, hk⟩ : ∃ k, 0 ≤ k := ⟨_, Nat.le_refl _⟩
    have hd_laws_FnExactSameWords_8 := dr_laws_FnExactSameWords_8
    simp only [opsOf, nav, bodyOf, Try.f5, Option.getD_some] at hd_laws_FnExactSameWords_8
    refine ⟨k, ?_⟩
    simp (implicitDefEqProofs := false) [-getElem?_pos, -getElem?_neg, Try.f5, h1c, h3, h4c, h6, ex_draw2 _ _ hd_laws_FnExactSameWords_8, h7c, h9c, h11c, h15c, bb_eql Try.underlying4, bb_neq Try.underlying4, h17, h18]
  rcases ifb h with ⟨h27, h⟩ | ⟨h27, h⟩
  · obtain rfl := Option.some.inj h
    obtain ⟨k, hk⟩ : ∃ k, 0 ≤ k := ⟨_, Nat.le_refl _⟩
    have hd_laws_FnExactSameWords_8 := dr_laws_FnExactSameWords_8
    simp only [opsOf, nav, bodyOf, Try.f5, Option.getD_some] at hd_laws_FnExactSameWords_8
    refine ⟨k, ?_⟩
    simp (implicitDefEqProofs := false) [-getElem?_pos, -getElem?_neg, Try.f5, h1c, h3, h4c, h6, ex_draw2 _ _ hd_laws_FnExactSameWords_8, h7c, h9c, h11c, h15c, bb_eql Try.underlying4, bb_neq Try.underlying4, h17, h27]
  obtain ⟨y30, h29, h⟩ := bd h
  have h29c := c_laws_eqGram h29
  rcases ifb h with ⟨h31, h⟩ | ⟨h31, h⟩
  · obtain ⟨y34, h33, h⟩ := bd h
    have h33c := c_laws_eqGram h33
    rcases ifb h with ⟨h35, h⟩ | ⟨h35, h⟩
    · obtain rfl := Option.some.inj h
      obtain ⟨k, hk⟩ : ∃ k, 0 ≤ k := ⟨_, Nat.le_refl _⟩
      have hd_laws_FnExactSameWords_8 := dr_laws_FnExactSameWords_8
      simp only [opsOf, nav, bodyOf, Try.f5, Option.getD_some] at hd_laws_FnExactSameWords_8
      have hd_laws_FnExactSameWords_14 := dr_laws_FnExactSameWords_14
      simp only [opsOf, nav, bodyOf, Try.f5, Option.getD_some] at hd_laws_FnExactSameWords_14
      have hd_laws_FnExactSameWords_16 := dr_laws_FnExactSameWords_16
      simp only [opsOf, nav, bodyOf, Try.f5, Option.getD_some] at hd_laws_FnExactSameWords_16
      refine ⟨k, ?_⟩
      simp (implicitDefEqProofs := false) [-getElem?_pos, -getElem?_neg, Try.f5, h1c, h3, h4c, h6, ex_draw2 _ _ hd_laws_FnExactSameWords_8, h7c, h9c, h11c, h15c, bb_eql Try.underlying4, bb_neq Try.underlying4, h17, h27, ex_draw2 _ _ hd_laws_FnExactSameWords_14, h29c, h31, ex_draw2 _ _ hd_laws_FnExactSameWords_16, h33c, h35]
    obtain rfl := Option.some.inj h
    obtain ⟨k, hk⟩ : ∃ k, 0 ≤ k := ⟨_, Nat.le_refl _⟩
    have hd_laws_FnExactSameWords_8 := dr_laws_FnExactSameWords_8
    simp only [opsOf, nav, bodyOf, Try.f5, Option.getD_some] at hd_laws_FnExactSameWords_8
    have hd_laws_FnExactSameWords_14 := dr_laws_FnExactSameWords_14
    simp only [opsOf, nav, bodyOf, Try.f5, Option.getD_some] at hd_laws_FnExactSameWords_14
    have hd_laws_FnExactSameWords_16 := dr_laws_FnExactSameWords_16
    simp only [opsOf, nav, bodyOf, Try.f5, Option.getD_some] at hd_laws_FnExactSameWords_16
    refine ⟨k, ?_⟩
    simp (implicitDefEqProofs := false) [-getElem?_pos, -getElem?_neg, Try.f5, h1c, h3, h4c, h6, ex_draw2 _ _ hd_laws_FnExactSameWords_8, h7c, h9c, h11c, h15c, bb_eql Try.underlying4, bb_neq Try.underlying4, h17, h27, ex_draw2 _ _ hd_laws_FnExactSameWords_14, h29c, h31, ex_draw2 _ _ hd_laws_FnExactSameWords_16, h33c, h35]
  obtain rfl := Option.some.inj h
  obtain ⟨k, hk⟩ : ∃ k, 0 ≤ k := ⟨_, Nat.le_refl _⟩
  have hd_laws_FnExactSameWords_8 := dr_laws_FnExactSameWords_8
  simp only [opsOf, nav, bodyOf, Try.f5, Option.getD_some] at hd_laws_FnExactSameWords_8
  have hd_laws_FnExactSameWords_14 := dr_laws_FnExactSameWords_14
  simp only [opsOf, nav, bodyOf, Try.f5, Option.getD_some] at hd_laws_FnExactSameWords_14
  refine ⟨k, ?_⟩
  simp (implicitDefEqProofs := false) [-getElem?_pos, -getElem?_neg, Try.f5, h1c, h3, h4c, h6, ex_draw2 _ _ hd_laws_FnExactSameWords_8, h7c, h9c, h11c, h15c, bb_eql Try.underlying4, bb_neq Try.underlying4, h17, h27, ex_draw2 _ _ hd_laws_FnExactSameWords_14, h29c, h31]
theorem inj_laws_FnExactSameWords : ∀ a b, arg_laws_FnExactSameWords a = arg_laws_FnExactSameWords b → a = b := by
  rintro ⟨x0, x1⟩ ⟨y0, y1⟩ h; simp [arg_laws_FnExactSameWords] at h; simp [Prod.ext_iff, h]
noncomputable def F_laws_FnExactSameWords : Con := nilfix [[some 38], [some 38]] (pcon arg_laws_FnExactSameWords (fun a => p_laws_FnExactSameWords a.1 a.2) res_laws_FnExactSameWords)
theorem fn_laws_FnExactSameWords : Fn Try.prog 5 F_laws_FnExactSameWords := (Fn.pure cal_laws_FnExactSameWords (fun k w0 h0 => ok_laws_FnExactSameWords k w0 h0) mixed Try.func5 rfl rfl (by kernel_rfl) 2 (by decide) (fun _ => rfl) lm_laws_FnExactSameWords (fun a b h => t_laws_FnExactSameWords h)).nilfix _
theorem c_laws_FnExactSameWords {a0 : L3} {a1 : L3} {r : Bool} (h : p_laws_FnExactSameWords a0 a1 = some r) : F_laws_FnExactSameWords [.agg [.sl false 38 (List.map (cL38 false) a0)], .agg [.sl false 38 (List.map (cL38 false) a1)]] = some (((false, [none]), [.lit (.bool r)])) := pcon_at (arg := arg_laws_FnExactSameWords) (p := fun a => p_laws_FnExactSameWords a.1 a.2) (res := res_laws_FnExactSameWords) (a := (a0, a1)) (b := r) inj_laws_FnExactSameWords h
end Go.Proofs.Ytanglbgincgmaaa.Vm

/-
  Functions of the program as plain Lean ones, and that the model does as they say. Written by a program of mine (gen.py).
-/
import Derived.Test.YtmkpoldhgdbjiaaVmSimG
import Derived.Test.YtmkpoldhgdbjiaaVmG1
namespace Go.Proofs.Ytmkpoldhgdbjiaa.Vm
open Go Go.RowKit Go.Proofs
set_option linter.unusedVariables false
set_option linter.unusedSimpArgs false
set_option maxHeartbeats 8000000
noncomputable def cal0_laws_FnExactTrimmed (k : Nat) : Cal := calI (tabOf [(18, F_laws_szGram), (20, F_laws_toGram), (22, F_laws_eqGram), (23, F_spec_Trimmed), (24, F_impl_Trimmed), (26, F_laws_heldGram)]) (inlOf [(47, tI 60 F_laws_markIntSSS)])
@[simp] theorem cal0_laws_FnExactTrimmed_ap (k g : Nat) (vs : List TV) (mem : Mem) (ep : Nat) : cal0_laws_FnExactTrimmed k g vs mem ep = calI (tabOf [(18, F_laws_szGram), (20, F_laws_toGram), (22, F_laws_eqGram), (23, F_spec_Trimmed), (24, F_impl_Trimmed), (26, F_laws_heldGram)]) (inlOf [(47, tI 60 F_laws_markIntSSS)]) g vs mem ep := rfl
theorem ok0_laws_FnExactTrimmed (k : Nat) (w0 : World) (h0 : True) : CalOk Try.prog w0.heap.size w0 (cal0_laws_FnExactTrimmed k) := by
  exact calI_ok (J := fun _ => True) stab_true (tabOf_ok _ (by simp [fn_laws_szGram, fn_laws_toGram, fn_laws_eqGram, fn_spec_Trimmed, fn_impl_Trimmed, fn_laws_heldGram])) (inlOf_ok _ (by simp [tI_ok fn_laws_markIntSSS])) h0
noncomputable def cal1_laws_FnExactTrimmed (k : Nat) : Cal := calI (tabOf [(18, F_laws_szGram), (20, F_laws_toGram), (22, F_laws_eqGram), (23, F_spec_Trimmed), (24, F_impl_Trimmed), (26, F_laws_heldGram)]) (inlOf [(25, selfI Try.prog (cal0_laws_FnExactTrimmed k) k (fun _ => ([], 0)) Try.f25 2), (47, tI 60 F_laws_markIntSSS)])
@[simp] theorem cal1_laws_FnExactTrimmed_ap (k g : Nat) (vs : List TV) (mem : Mem) (ep : Nat) : cal1_laws_FnExactTrimmed k g vs mem ep = calI (tabOf [(18, F_laws_szGram), (20, F_laws_toGram), (22, F_laws_eqGram), (23, F_spec_Trimmed), (24, F_impl_Trimmed), (26, F_laws_heldGram)]) (inlOf [(25, selfI Try.prog (cal0_laws_FnExactTrimmed k) k (fun _ => ([], 0)) Try.f25 2), (47, tI 60 F_laws_markIntSSS)]) g vs mem ep := rfl
theorem ok1_laws_FnExactTrimmed (k : Nat) (w0 : World) (h0 : True) : CalOk Try.prog w0.heap.size w0 (cal1_laws_FnExactTrimmed k) := by
  have i25 := IFn.self (J := fun _ => True) (fun w0 h0 => ok0_laws_FnExactTrimmed k w0 h0) mixed Try.func25 rfl rfl (by kernel_rfl) (np := 2) (by decide) (lm := fun _ => ([], 0)) (k := k)
  exact calI_ok (J := fun _ => True) stab_true (tabOf_ok _ (by simp [fn_laws_szGram, fn_laws_toGram, fn_laws_eqGram, fn_spec_Trimmed, fn_impl_Trimmed, fn_laws_heldGram])) (inlOf_ok _ (by simp [i25, tI_ok fn_laws_markIntSSS])) h0
noncomputable def cal_laws_FnExactTrimmed (k : Nat) : Cal := calI (tabOf [(18, F_laws_szGram), (20, F_laws_toGram), (22, F_laws_eqGram), (23, F_spec_Trimmed), (24, F_impl_Trimmed), (26, F_laws_heldGram)]) (inlOf [(25, selfI Try.prog (cal1_laws_FnExactTrimmed k) k (fun _ => ([], 0)) Try.f25 2), (47, tI 60 F_laws_markIntSSS)])
@[simp] theorem cal_laws_FnExactTrimmed_ap (k g : Nat) (vs : List TV) (mem : Mem) (ep : Nat) : cal_laws_FnExactTrimmed k g vs mem ep = calI (tabOf [(18, F_laws_szGram), (20, F_laws_toGram), (22, F_laws_eqGram), (23, F_spec_Trimmed), (24, F_impl_Trimmed), (26, F_laws_heldGram)]) (inlOf [(25, selfI Try.prog (cal1_laws_FnExactTrimmed k) k (fun _ => ([], 0)) Try.f25 2), (47, tI 60 F_laws_markIntSSS)]) g vs mem ep := rfl
theorem ok_laws_FnExactTrimmed (k : Nat) (w0 : World) (h0 : True) : CalOk Try.prog w0.heap.size w0 (cal_laws_FnExactTrimmed k) := by
  have i25 := IFn.self (J := fun _ => True) (fun w0 h0 => ok1_laws_FnExactTrimmed k w0 h0) mixed Try.func25 rfl rfl (by kernel_rfl) (np := 2) (by decide) (lm := fun _ => ([], 0)) (k := k)
  exact calI_ok (J := fun _ => True) stab_true (tabOf_ok _ (by simp [fn_laws_szGram, fn_laws_toGram, fn_laws_eqGram, fn_spec_Trimmed, fn_impl_Trimmed, fn_laws_heldGram])) (inlOf_ok _ (by simp [i25, tI_ok fn_laws_markIntSSS])) h0
@[simp] def lm_laws_FnExactTrimmed : Nat → List Nat × Nat := fun b => ([], 0)
theorem dr_laws_FnExactTrimmed_10 : drawn (opsOf (nav [1, 1, 1, 1, 1, 1, 1, 1, 0, 0] (bodyOf Try.f6))) = some ([0, 1], [2, 3, 4]) := by kernel_rfl
@[simp] def arg_laws_FnExactTrimmed (a : List (List (List (Int)))) : List TV := [.agg [.sl false 60 (List.map (cL60 false) a)]]
@[simp] def res_laws_FnExactTrimmed (r : Bool) : Sh × List V := ((false, [none]), [.lit (.bool r)])
def p_laws_FnExactTrimmed (a0 : List (List (List (Int)))) : Option Bool :=
 p_laws_szGram a0 1048576 >>= fun y2 =>
 if y2 < 0 then
  some true
 else
  p_laws_toGram a0 >>= fun y5 =>
  p_spec_Trimmed y5 >>= fun y7 =>
  p_impl_Trimmed y5 >>= fun y10 =>
  p_laws_eqGram y10 y7 >>= fun y12 =>
  if y12 then
   p_laws_eqGram y5 y5 >>= fun y16 =>
   if y16 then
    p_laws_markIntSSS y5 1 >>= fun y19 =>
    if y19.1 < 0 then
     some false
    else
     p_laws_markIntSSS y10 1 >>= fun y23 =>
     p_laws_heldGram y23.2 1 >>= fun y25 =>
     if y25 < 0 then
      some false
     else
      if y25 = y23.1 then
       some true
      else
       some false
   else
    some false
  else
   some false
theorem t_laws_FnExactTrimmed {a0 : List (List (List (Int)))} {r : Bool} (h : p_laws_FnExactTrimmed a0 = some r) : ∃ k, told Try.prog (cal_laws_FnExactTrimmed k) k lm_laws_FnExactTrimmed Try.f6 (arg_laws_FnExactTrimmed a0) = some (res_laws_FnExactTrimmed r) := by
  unfold p_laws_FnExactTrimmed at h
  obtain ⟨y2, h1, h⟩ := bd h
  have h1c := c_laws_szGram h1
  rcases ifc h with ⟨h3, h⟩ | ⟨h3, h⟩
  · obtain rfl := Option.some.inj h
    obtain ⟨k, hk⟩ : ∃ k, 0 ≤ k := ⟨_, Nat.le_refl _⟩
    refine ⟨k, ?_⟩
    simp (implicitDefEqProofs := false) [-getElem?_pos, -getElem?_neg, Try.f6, Try.f25, h1c, h3]
  obtain ⟨y5, h4, h⟩ := bd h
  have h4c := c_laws_toGram h4
  obtain ⟨y7, h6, h⟩ := bd h
  have h6c := c_spec_Trimmed h6
  obtain ⟨y10, h9, h⟩ := bd h
  have h9c := c_impl_Trimmed h9
  obtain ⟨y12, h11, h⟩ := bd h
  have h11c := c_laws_eqGram h11
  rcases ifb h with ⟨h13, h⟩ | ⟨h13, h⟩
  · obtain ⟨y16, h15, h⟩ := bd h
    have h15c := c_laws_eqGram h15
    rcases ifb h with ⟨h17, h⟩ | ⟨h17, h⟩
    · obtain ⟨y19, h18, h⟩ := bd h
      have h18c := c_laws_markIntSSS h18
      rcases ifc h with ⟨h20, h⟩ | ⟨h20, h⟩
      · obtain rfl := Option.some.inj h
        obtain ⟨k, hk⟩ : ∃ k, 0 ≤ k := ⟨_, Nat.le_refl _⟩
        have hd_laws_FnExactTrimmed_10 := dr_laws_FnExactTrimmed_10
        simp only [opsOf, nav, bodyOf, Try.f6, Option.getD_some] at hd_laws_FnExactTrimmed_10
        refine ⟨k, ?_⟩
        simp (implicitDefEqProofs := false) [-getElem?_pos, -getElem?_neg, Try.f6, Try.f25, h1c, h3, h4c, h6c, h9c, h11c, h13, ex_draw2 _ _ hd_laws_FnExactTrimmed_10, h15c, h17, h18c, h20]
      obtain ⟨y23, h22, h⟩ := bd h
      have h22c := c_laws_markIntSSS h22
      obtain ⟨y25, h24, h⟩ := bd h
      have h24c := c_laws_heldGram h24
      rcases ifc h with ⟨h26, h⟩ | ⟨h26, h⟩
      · obtain rfl := Option.some.inj h
        obtain ⟨k, hk⟩ : ∃ k, 0 ≤ k := ⟨_, Nat.le_refl _⟩
        have hd_laws_FnExactTrimmed_10 := dr_laws_FnExactTrimmed_10
        simp only [opsOf, nav, bodyOf, Try.f6, Option.getD_some] at hd_laws_FnExactTrimmed_10
        refine ⟨k, ?_⟩
        simp (implicitDefEqProofs := false) [-getElem?_pos, -getElem?_neg, Try.f6, Try.f25, h1c, h3, h4c, h6c, h9c, h11c, h13, ex_draw2 _ _ hd_laws_FnExactTrimmed_10, h15c, h17, h18c, h20, h22c, h24c, h26]
      rcases ifc h with ⟨h27, h⟩ | ⟨h27, h⟩
      · obtain rfl := Option.some.inj h
        obtain ⟨k, hk⟩ : ∃ k, 0 ≤ k := ⟨_, Nat.le_refl _⟩
        have hd_laws_FnExactTrimmed_10 := dr_laws_FnExactTrimmed_10
        simp only [opsOf, nav, bodyOf, Try.f6, Option.getD_some] at hd_laws_FnExactTrimmed_10
        refine ⟨k, ?_⟩
        simp (implicitDefEqProofs := false) [-getElem?_pos, -getElem?_neg, Try.f6, Try.f25, h1c, h3, h4c, h6c, h9c, h11c, h13, ex_draw2 _ _ hd_laws_FnExactTrimmed_10, h15c, h17, h18c, h20, h22c, h24c, h26, (eq_true h27)]
      obtain rfl := Option.some.inj h
      obtain ⟨k, hk⟩ : ∃ k, 0 ≤ k := ⟨_, Nat.le_refl _⟩
      have hd_laws_FnExactTrimmed_10 := dr_laws_FnExactTrimmed_10
      simp only [opsOf, nav, bodyOf, Try.f6, Option.getD_some] at hd_laws_FnExactTrimmed_10
      refine ⟨k, ?_⟩
      simp (implicitDefEqProofs := false) [-getElem?_pos, -getElem?_neg, Try.f6, Try.f25, h1c, h3, h4c, h6c, h9c, h11c, h13, ex_draw2 _ _ hd_laws_FnExactTrimmed_10, h15c, h17, h18c, h20, h22c, h24c, h26, h27]
    obtain rfl := Option.some.inj h
    obtain ⟨k, hk⟩ : ∃ k, 0 ≤ k := ⟨_, Nat.le_refl _⟩
    have hd_laws_FnExactTrimmed_10 := dr_laws_FnExactTrimmed_10
    simp only [opsOf, nav, bodyOf, Try.f6, Option.getD_some] at hd_laws_FnExactTrimmed_10
    refine ⟨k, ?_⟩
    simp (implicitDefEqProofs := false) [-getElem?_pos, -getElem?_neg, Try.f6, Try.f25, h1c, h3, h4c, h6c, h9c, h11c, h13, ex_draw2 _ _ hd_laws_FnExactTrimmed_10, h15c, h17]
  obtain rfl := Option.some.inj h
  obtain ⟨k, hk⟩ : ∃ k, 0 ≤ k := ⟨_, Nat.le_refl _⟩
  refine ⟨k, ?_⟩
  simp (implicitDefEqProofs := false) [-getElem?_pos, -getElem?_neg, Try.f6, Try.f25, h1c, h3, h4c, h6c, h9c, h11c, h13]
theorem inj_laws_FnExactTrimmed : ∀ a b, arg_laws_FnExactTrimmed a = arg_laws_FnExactTrimmed b → a = b := by
  intro x y h; simp [arg_laws_FnExactTrimmed] at h; simp [Prod.ext_iff, h]
noncomputable def F_laws_FnExactTrimmed : Con := nilfix [[some 60]] (pcon arg_laws_FnExactTrimmed (fun a => p_laws_FnExactTrimmed a) res_laws_FnExactTrimmed)
theorem fn_laws_FnExactTrimmed : Fn Try.prog 6 F_laws_FnExactTrimmed := (Fn.pure cal_laws_FnExactTrimmed (fun k w0 h0 => ok_laws_FnExactTrimmed k w0 h0) mixed Try.func6 rfl rfl (by kernel_rfl) 1 (by decide) (fun _ => rfl) lm_laws_FnExactTrimmed (fun a b h => t_laws_FnExactTrimmed h)).nilfix _
theorem c_laws_FnExactTrimmed {a0 : List (List (List (Int)))} {r : Bool} (h : p_laws_FnExactTrimmed a0 = some r) : F_laws_FnExactTrimmed [.agg [.sl false 60 (List.map (cL60 false) a0)]] = some (((false, [none]), [.lit (.bool r)])) := pcon_at (arg := arg_laws_FnExactTrimmed) (p := fun a => p_laws_FnExactTrimmed a) (res := res_laws_FnExactTrimmed) (a := a0) (b := r) inj_laws_FnExactTrimmed h
def cal_spec_SetHas (k : Nat) : Cal := calI (tabOf []) (inlOf [])
@[simp] theorem cal_spec_SetHas_ap (k g : Nat) (vs : List TV) (mem : Mem) (ep : Nat) : cal_spec_SetHas k g vs mem ep = calI (tabOf []) (inlOf []) g vs mem ep := rfl
theorem ok_spec_SetHas (k : Nat) (w0 : World) (h0 : True) : CalOk Try.prog w0.heap.size w0 (cal_spec_SetHas k) := by
  exact calI_ok (J := fun _ => True) stab_true (tabOf_ok _ (by simp [])) (inlOf_ok _ (by simp [])) h0
@[simp] def lm_spec_SetHas : Nat → List Nat × Nat := fun b => if b = 0 then ([0, 1, 5], 0) else if b = 2000000 then ([], 8888888) else if b = 3000000 then ([], 0) else ([], 0)
@[simp] def arg_spec_SetHas (a : List (Int) × Int) : List TV := [.one (.sl false 3 (List.map cI a.1)), .one (.lit (.int .i64 a.2))]
@[simp] def res_spec_SetHas (r : Bool) : Sh × List V := ((false, [none]), [.lit (.bool r)])
def p_spec_SetHas_L0 (a0 : List (Int)) (a1 : Int) (x5b0 : Int) : Option (Bool ⊕ Unit) :=
 if x5b0 < (a0.length : Int) then
  if 0 ≤ x5b0 then
   a0[x5b0.toNat]? >>= fun y12 =>
   if y12 = a1 then
    some (.inl true)
   else
    p_spec_SetHas_L0 a0 a1 (IntKind.wrap .i64 (x5b0 + 1))
  else none
 else
  some (.inr ())
partial_fixpoint
@[simp] noncomputable def L_spec_SetHas_L0 : Code := nav [1, 0, 1, 0, 0] (bodyOf Try.f60)
@[simp] def T_spec_SetHas_L0 (a0 : List (Int)) (a1 : Int) (x5b0 : Int) (st : Nat → Nat) : St := ⟨[(0, .one (.sl false 3 (List.map cI a0))), (1, .one (.lit (.int .i64 a1))), (5, .one (.lit (.int .i64 x5b0)))], [none], (st 0)⟩
@[simp] def U_spec_SetHas_L0 (a0 : List (Int)) (a1 : Int) (o : Unit) (st : Nat → Nat) : St := ⟨[], [none], (st 0)⟩
abbrev Q_spec_SetHas_L0 (a0 : List (Int)) (a1 : Int) (x5b0 : Int) (o : Bool ⊕ Unit) : Prop := ∀ st : Nat → Nat, LoopT Try.prog cal_spec_SetHas 1 lm_spec_SetHas 0 L_spec_SetHas_L0 (tellS Try.prog lm_spec_SetHas [.tmp 4]) res_spec_SetHas (U_spec_SetHas_L0 a0 a1) (T_spec_SetHas_L0 a0 a1 x5b0 st) o
theorem l_spec_SetHas_L0 {a0 : List (Int)} {a1 : Int} {x5b0 : Int} {o : Bool ⊕ Unit} (h : p_spec_SetHas_L0 a0 a1 x5b0 = some o) : Q_spec_SetHas_L0 a0 a1 x5b0 o := by
  refine p_spec_SetHas_L0.partial_correctness a0 a1 (motive := fun x5b0 o => Q_spec_SetHas_L0 a0 a1 x5b0 o) ?_ x5b0 o h
  clear h o x5b0
  intro p' ih x5b0 r h st
  rcases ifc h with ⟨h10, h⟩ | ⟨h10, h⟩
  · obtain ⟨h11, h⟩ := ifg h
    obtain ⟨y12, h13, h⟩ := bd h
    rcases ifc h with ⟨h14, h⟩ | ⟨h14, h⟩
    · obtain rfl := Option.some.inj h
      exact LoopT.ret 0 (fun k hk => by simp (implicitDefEqProofs := false) [-getElem?_pos, -getElem?_neg, Try.f60, h10, h11, h13, (eq_true h14)])
    exact LoopT.step 0 (fun k hk => by simp (implicitDefEqProofs := false) [-getElem?_pos, -getElem?_neg, Try.f60, h10, h11, h13, h14]) (ih _ _ h (sl [(st 0)]))
  obtain rfl := Option.some.inj h
  exact LoopT.exit (sl [(st 0)]) 0 (fun k hk => by simp (implicitDefEqProofs := false) [-getElem?_pos, -getElem?_neg, Try.f60, h10])
def p_spec_SetHas (a0 : List (Int)) (a1 : Int) : Option Bool :=
 p_spec_SetHas_L0 a0 a1 0 >>= fun o16 => match o16 with
 | .inl o16 =>
  some o16
 | .inr o16 =>
  some false
theorem t_spec_SetHas {a0 : List (Int)} {a1 : Int} {r : Bool} (h : p_spec_SetHas a0 a1 = some r) : ∃ k, told Try.prog (cal_spec_SetHas k) k lm_spec_SetHas Try.f60 (arg_spec_SetHas (a0, a1)) = some (res_spec_SetHas r) := by
  unfold p_spec_SetHas at h
  obtain ⟨o16, h15, h⟩ := bd h
  have qK17 := l_spec_SetHas_L0 h15 (sl [1])
  rcases o16 with o16 | o16
  · obtain ⟨K17, qK17⟩ := qK17
    obtain rfl := Option.some.inj h
    obtain ⟨k, hk⟩ : ∃ k, K17 ≤ k := ⟨_, Nat.le_refl _⟩
    obtain ⟨S_K17, jK17, iK17⟩ := qK17 k (by omega) k (by omega)
    simp (implicitDefEqProofs := false) [-getElem?_pos, -getElem?_neg, Try.f60] at jK17
    refine ⟨k, ?_⟩
    simp (implicitDefEqProofs := false) [-getElem?_pos, -getElem?_neg, Try.f60, iK17, jK17]
  obtain ⟨s18, K17, qK17⟩ := qK17
  obtain rfl := Option.some.inj h
  obtain ⟨k, hk⟩ : ∃ k, K17 ≤ k := ⟨_, Nat.le_refl _⟩
  have jK17 := qK17 k (by omega) k (by omega)
  simp (implicitDefEqProofs := false) [-getElem?_pos, -getElem?_neg, Try.f60] at jK17
  refine ⟨k, ?_⟩
  simp (implicitDefEqProofs := false) [-getElem?_pos, -getElem?_neg, Try.f60, jK17]
theorem inj_spec_SetHas : ∀ a b, arg_spec_SetHas a = arg_spec_SetHas b → a = b := by
  rintro ⟨x0, x1⟩ ⟨y0, y1⟩ h; simp [arg_spec_SetHas] at h; simp [Prod.ext_iff, h]
noncomputable def F_spec_SetHas : Con := nilfix [[some 3], [none]] (pcon arg_spec_SetHas (fun a => p_spec_SetHas a.1 a.2) res_spec_SetHas)
theorem fn_spec_SetHas : Fn Try.prog 60 F_spec_SetHas := (Fn.pure cal_spec_SetHas (fun k w0 h0 => ok_spec_SetHas k w0 h0) mixed Try.func60 rfl rfl (by kernel_rfl) 2 (by decide) (fun _ => rfl) lm_spec_SetHas (fun a b h => t_spec_SetHas h)).nilfix _
theorem c_spec_SetHas {a0 : List (Int)} {a1 : Int} {r : Bool} (h : p_spec_SetHas a0 a1 = some r) : F_spec_SetHas [.one (.sl false 3 (List.map cI a0)), .one (.lit (.int .i64 a1))] = some (((false, [none]), [.lit (.bool r)])) := pcon_at (arg := arg_spec_SetHas) (p := fun a => p_spec_SetHas a.1 a.2) (res := res_spec_SetHas) (a := (a0, a1)) (b := r) inj_spec_SetHas h
noncomputable def cal_spec_SetAdd (k : Nat) : Cal := calI (tabOf [(60, F_spec_SetHas)]) (inlOf [])
@[simp] theorem cal_spec_SetAdd_ap (k g : Nat) (vs : List TV) (mem : Mem) (ep : Nat) : cal_spec_SetAdd k g vs mem ep = calI (tabOf [(60, F_spec_SetHas)]) (inlOf []) g vs mem ep := rfl
theorem ok_spec_SetAdd (k : Nat) (w0 : World) (h0 : True) : CalOk Try.prog w0.heap.size w0 (cal_spec_SetAdd k) := by
  exact calI_ok (J := fun _ => True) stab_true (tabOf_ok _ (by simp [fn_spec_SetHas])) (inlOf_ok _ (by simp [])) h0
@[simp] def lm_spec_SetAdd : Nat → List Nat × Nat := fun b => if b = 0 then ([0, 1, 5, 6], 0) else if b = 2000000 then ([], 8888888) else if b = 3000000 then ([0, 1, 5], 0) else ([], 0)
@[simp] def arg_spec_SetAdd (a : List (Int) × Int) : List TV := [.one (.sl false 3 (List.map cI a.1)), .one (.lit (.int .i64 a.2))]
@[simp] def res_spec_SetAdd (r : List (Int)) : Sh × List V := ((false, [none]), [.sl true 3 (List.map cI r)])
def p_spec_SetAdd_L0 (a0 : List (Int)) (a1 : Int) (x5b0 : Int) (x6b0 : Int) : Option (Int) :=
 if 0 ≤ x6b0 then
  a0[x6b0.toNat]? >>= fun y14 =>
  if a1 < y14 then
   p_spec_SetAdd_L0 a0 a1 x6b0 (IntKind.wrap .i64 (x6b0 - 1))
  else
   p_spec_SetAdd_L0 a0 a1 x5b0 (IntKind.wrap .i64 (x6b0 - 1))
 else
  some x5b0
partial_fixpoint
@[simp] noncomputable def L_spec_SetAdd_L0 : Code := nav [1, 1, 1, 0, 1, 0, 0] (bodyOf Try.f49)
@[simp] def T_spec_SetAdd_L0 (a0 : List (Int)) (a1 : Int) (x5b0 : Int) (x6b0 : Int) (st : Nat → Nat) : St := ⟨[(0, .one (.sl false 3 (List.map cI a0))), (1, .one (.lit (.int .i64 a1))), (5, .one (.lit (.int .i64 x5b0))), (6, .one (.lit (.int .i64 x6b0)))], [none], (st 0)⟩
@[simp] def U_spec_SetAdd_L0 (a0 : List (Int)) (a1 : Int) (o : Int) (st : Nat → Nat) : St := ⟨[(0, .one (.sl false 3 (List.map cI a0))), (1, .one (.lit (.int .i64 a1))), (5, .one (.lit (.int .i64 o)))], [none], (st 0)⟩
abbrev Q_spec_SetAdd_L0 (a0 : List (Int)) (a1 : Int) (x5b0 : Int) (x6b0 : Int) (o : Int) : Prop := ∀ st : Nat → Nat, LoopG Try.prog cal_spec_SetAdd 1 lm_spec_SetAdd 0 L_spec_SetAdd_L0 (U_spec_SetAdd_L0 a0 a1) (T_spec_SetAdd_L0 a0 a1 x5b0 x6b0 st) o
theorem l_spec_SetAdd_L0 {a0 : List (Int)} {a1 : Int} {x5b0 : Int} {x6b0 : Int} {o : Int} (h : p_spec_SetAdd_L0 a0 a1 x5b0 x6b0 = some o) : Q_spec_SetAdd_L0 a0 a1 x5b0 x6b0 o := by
  refine p_spec_SetAdd_L0.partial_correctness a0 a1 (motive := fun x5b0 x6b0 o => Q_spec_SetAdd_L0 a0 a1 x5b0 x6b0 o) ?_ x5b0 x6b0 o h
  clear h o x5b0 x6b0
  intro p' ih x5b0 x6b0 r h st
  rcases ifc h with ⟨h13, h⟩ | ⟨h13, h⟩
  · obtain ⟨y14, h15, h⟩ := bd h
    rcases ifc h with ⟨h16, h⟩ | ⟨h16, h⟩
    · exact LoopG.step 0 (fun k hk => by simp (implicitDefEqProofs := false) [-getElem?_pos, -getElem?_neg, Try.f49, h13, h15, h16]) (ih _ _ _ h (sl [(st 0)]))
    exact LoopG.step 0 (fun k hk => by simp (implicitDefEqProofs := false) [-getElem?_pos, -getElem?_neg, Try.f49, h13, h15, h16]) (ih _ _ _ h (sl [(st 0)]))
  obtain rfl := Option.some.inj h
  exact LoopG.exit (sl [(st 0)]) 0 (fun k hk => by simp (implicitDefEqProofs := false) [-getElem?_pos, -getElem?_neg, Try.f49, h13])
def p_spec_SetAdd (a0 : List (Int)) (a1 : Int) : Option (List (Int)) :=
 p_spec_SetHas a0 a1 >>= fun y2 =>
 if y2 then
  if a0.length * 8 ≤ 140737488355328 then
   some a0
  else none
 else
  p_spec_SetAdd_L0 a0 a1 (a0.length : Int) (IntKind.wrap .i64 ((a0.length : Int) - 1)) >>= fun o18 =>
  if 0 ≤ o18 then
   if o18.toNat ≤ a0.length then
    some (List.take o18.toNat a0) >>= fun l23 =>
    if l23.length * 8 ≤ 140737488355328 then
     if (l23.length + 1) * 8 ≤ 140737488355328 then
      some (l23 ++ [a1]) >>= fun l27 =>
      some (List.drop o18.toNat a0) >>= fun l29 =>
      if (l27.length + l29.length) * 8 ≤ 140737488355328 then
       some (l27 ++ l29) >>= fun l32 =>
       some l32
      else none
     else none
    else none
   else none
  else none
theorem t_spec_SetAdd {a0 : List (Int)} {a1 : Int} {r : List (Int)} (h : p_spec_SetAdd a0 a1 = some r) : ∃ k, told Try.prog (cal_spec_SetAdd k) k lm_spec_SetAdd Try.f49 (arg_spec_SetAdd (a0, a1)) = some (res_spec_SetAdd r) := by
  unfold p_spec_SetAdd at h
  obtain ⟨y2, h1, h⟩ := bd h
  have h1c := c_spec_SetHas h1
  rcases ifb h with ⟨h3, h⟩ | ⟨h3, h⟩
  · obtain ⟨h4, h⟩ := ifg h
    obtain rfl := Option.some.inj h
    obtain ⟨k, hk⟩ : ∃ k, 0 ≤ k := ⟨_, Nat.le_refl _⟩
    refine ⟨k, ?_⟩
    simp (implicitDefEqProofs := false) [-getElem?_pos, -getElem?_neg, Try.f49, h1c, h3, h4]
  obtain ⟨o18, h17, h⟩ := bd h
  have qK19 := l_spec_SetAdd_L0 h17 (sl [2])
  obtain ⟨s20, K19, qK19⟩ := qK19
  obtain ⟨h21, h⟩ := ifg h
  obtain ⟨h22, h⟩ := ifg h
  have h22i : o18 ≤ (a0.length : Int) := by omega
  obtain ⟨l23, h24, h⟩ := bd h
  have h24r : List.take o18.toNat (List.map cI a0) = List.map cI l23 := by rw [← Option.some.inj h24]; simp
  obtain ⟨h25, h⟩ := ifg h
  obtain ⟨h26, h⟩ := ifg h
  obtain ⟨l27, h28, h⟩ := bd h
  have h28r : List.map cI l23 ++ [[.lit (.int .i64 a1)]] = List.map cI l27 := by rw [← Option.some.inj h28]; simp
  obtain ⟨l29, h30, h⟩ := bd h
  have h30r : List.drop o18.toNat (List.map cI a0) = List.map cI l29 := by rw [← Option.some.inj h30]; simp
  obtain ⟨h31, h⟩ := ifg h
  obtain ⟨l32, h33, h⟩ := bd h
  have h33r : List.map cI l27 ++ List.map cI l29 = List.map cI l32 := by rw [← Option.some.inj h33]; simp
  obtain rfl := Option.some.inj h
  obtain ⟨k, hk⟩ : ∃ k, K19 ≤ k := ⟨_, Nat.le_refl _⟩
  have jK19 := qK19 k (by omega) k (by omega)
  simp (implicitDefEqProofs := false) [-getElem?_pos, -getElem?_neg, Try.f49, h1c, h3, h21, h22, h22i, h24r, h25, h26, h28r, h30r, h31, h33r] at jK19
  refine ⟨k, ?_⟩
  simp (implicitDefEqProofs := false) [-getElem?_pos, -getElem?_neg, Try.f49, h1c, h3, h21, h22, h22i, h24r, h25, h26, h28r, h30r, h31, h33r, jK19]
theorem inj_spec_SetAdd : ∀ a b, arg_spec_SetAdd a = arg_spec_SetAdd b → a = b := by
  rintro ⟨x0, x1⟩ ⟨y0, y1⟩ h; simp [arg_spec_SetAdd] at h; simp [Prod.ext_iff, h]
noncomputable def F_spec_SetAdd : Con := nilfix [[some 3], [none]] (pcon arg_spec_SetAdd (fun a => p_spec_SetAdd a.1 a.2) res_spec_SetAdd)
theorem fn_spec_SetAdd : Fn Try.prog 49 F_spec_SetAdd := (Fn.pure cal_spec_SetAdd (fun k w0 h0 => ok_spec_SetAdd k w0 h0) mixed Try.func49 rfl rfl (by kernel_rfl) 2 (by decide) (fun _ => rfl) lm_spec_SetAdd (fun a b h => t_spec_SetAdd h)).nilfix _
theorem c_spec_SetAdd {a0 : List (Int)} {a1 : Int} {r : List (Int)} (h : p_spec_SetAdd a0 a1 = some r) : F_spec_SetAdd [.one (.sl false 3 (List.map cI a0)), .one (.lit (.int .i64 a1))] = some (((false, [none]), [.sl true 3 (List.map cI r)])) := pcon_at (arg := arg_spec_SetAdd) (p := fun a => p_spec_SetAdd a.1 a.2) (res := res_spec_SetAdd) (a := (a0, a1)) (b := r) inj_spec_SetAdd h
def cal_slices_Index_int (k : Nat) : Cal := calI (tabOf []) (inlOf [])
@[simp] theorem cal_slices_Index_int_ap (k g : Nat) (vs : List TV) (mem : Mem) (ep : Nat) : cal_slices_Index_int k g vs mem ep = calI (tabOf []) (inlOf []) g vs mem ep := rfl
theorem ok_slices_Index_int (k : Nat) (w0 : World) (h0 : True) : CalOk Try.prog w0.heap.size w0 (cal_slices_Index_int k) := by
  exact calI_ok (J := fun _ => True) stab_true (tabOf_ok _ (by simp [])) (inlOf_ok _ (by simp [])) h0
@[simp] def lm_slices_Index_int : Nat → List Nat × Nat := fun b => if b = 0 then ([0, 1, 7, 8], 0) else if b = 2000000 then ([], 8888888) else if b = 3000000 then ([], 0) else ([], 0)
@[simp] def arg_slices_Index_int (a : List (Int) × Int) : List TV := [.one (.sl false 3 (List.map cI a.1)), .one (.lit (.int .i64 a.2))]
@[simp] def res_slices_Index_int (r : Int) : Sh × List V := ((false, [none]), [.lit (.int .i64 r)])
def p_slices_Index_int_L0 (a0 : List (Int)) (a1 : Int) (x8b0 : Int) : Option (Int ⊕ Unit) :=
 if x8b0 < (a0.length : Int) then
  if 0 ≤ x8b0 then
   a0[x8b0.toNat]? >>= fun y12 =>
   if a1 = y12 then
    some (.inl x8b0)
   else
    p_slices_Index_int_L0 a0 a1 (IntKind.wrap .i64 (x8b0 + 1))
  else none
 else
  some (.inr ())
partial_fixpoint
@[simp] noncomputable def L_slices_Index_int_L0 : Code := nav [1, 0, 1, 0, 0] (bodyOf Try.f66)
@[simp] def T_slices_Index_int_L0 (a0 : List (Int)) (a1 : Int) (x8b0 : Int) (st : Nat → Nat) : St := ⟨[(0, .one (.sl false 3 (List.map cI a0))), (1, .one (.lit (.int .i64 a1))), (7, .one (.lit (.int .i64 (a0.length : Int)))), (8, .one (.lit (.int .i64 x8b0)))], [none], (st 0)⟩
@[simp] def U_slices_Index_int_L0 (a0 : List (Int)) (a1 : Int) (o : Unit) (st : Nat → Nat) : St := ⟨[], [none], (st 0)⟩
abbrev Q_slices_Index_int_L0 (a0 : List (Int)) (a1 : Int) (x8b0 : Int) (o : Int ⊕ Unit) : Prop := ∀ st : Nat → Nat, LoopT Try.prog cal_slices_Index_int 1 lm_slices_Index_int 0 L_slices_Index_int_L0 (tellS Try.prog lm_slices_Index_int [.tmp 4]) res_slices_Index_int (U_slices_Index_int_L0 a0 a1) (T_slices_Index_int_L0 a0 a1 x8b0 st) o
theorem l_slices_Index_int_L0 {a0 : List (Int)} {a1 : Int} {x8b0 : Int} {o : Int ⊕ Unit} (h : p_slices_Index_int_L0 a0 a1 x8b0 = some o) : Q_slices_Index_int_L0 a0 a1 x8b0 o := by
  refine p_slices_Index_int_L0.partial_correctness a0 a1 (motive := fun x8b0 o => Q_slices_Index_int_L0 a0 a1 x8b0 o) ?_ x8b0 o h
  clear h o x8b0
  intro p' ih x8b0 r h st
  rcases ifc h with ⟨h10, h⟩ | ⟨h10, h⟩
  · obtain ⟨h11, h⟩ := ifg h
    obtain ⟨y12, h13, h⟩ := bd h
    rcases ifc h with ⟨h14, h⟩ | ⟨h14, h⟩
    · obtain rfl := Option.some.inj h
      exact LoopT.ret 0 (fun k hk => by simp (implicitDefEqProofs := false) [-getElem?_pos, -getElem?_neg, Try.f66, h10, h11, h13, (eq_true h14)])
    exact LoopT.step 0 (fun k hk => by simp (implicitDefEqProofs := false) [-getElem?_pos, -getElem?_neg, Try.f66, h10, h11, h13, h14]) (ih _ _ h (sl [(st 0)]))
  obtain rfl := Option.some.inj h
  exact LoopT.exit (sl [(st 0)]) 0 (fun k hk => by simp (implicitDefEqProofs := false) [-getElem?_pos, -getElem?_neg, Try.f66, h10])
def p_slices_Index_int (a0 : List (Int)) (a1 : Int) : Option Int :=
 p_slices_Index_int_L0 a0 a1 0 >>= fun o16 => match o16 with
 | .inl o16 =>
  some o16
 | .inr o16 =>
  some (-1)
theorem t_slices_Index_int {a0 : List (Int)} {a1 : Int} {r : Int} (h : p_slices_Index_int a0 a1 = some r) : ∃ k, told Try.prog (cal_slices_Index_int k) k lm_slices_Index_int Try.f66 (arg_slices_Index_int (a0, a1)) = some (res_slices_Index_int r) := by
  unfold p_slices_Index_int at h
  obtain ⟨o16, h15, h⟩ := bd h
  have qK17 := l_slices_Index_int_L0 h15 (sl [1])
  rcases o16 with o16 | o16
  · obtain ⟨K17, qK17⟩ := qK17
    obtain rfl := Option.some.inj h
    obtain ⟨k, hk⟩ : ∃ k, K17 ≤ k := ⟨_, Nat.le_refl _⟩
    obtain ⟨S_K17, jK17, iK17⟩ := qK17 k (by omega) k (by omega)
    simp (implicitDefEqProofs := false) [-getElem?_pos, -getElem?_neg, Try.f66] at jK17
    refine ⟨k, ?_⟩
    simp (implicitDefEqProofs := false) [-getElem?_pos, -getElem?_neg, Try.f66, iK17, jK17]
  obtain ⟨s18, K17, qK17⟩ := qK17
  obtain rfl := Option.some.inj h
  obtain ⟨k, hk⟩ : ∃ k, K17 ≤ k := ⟨_, Nat.le_refl _⟩
  have jK17 := qK17 k (by omega) k (by omega)
  simp (implicitDefEqProofs := false) [-getElem?_pos, -getElem?_neg, Try.f66] at jK17
  refine ⟨k, ?_⟩
  simp (implicitDefEqProofs := false) [-getElem?_pos, -getElem?_neg, Try.f66, jK17]
theorem inj_slices_Index_int : ∀ a b, arg_slices_Index_int a = arg_slices_Index_int b → a = b := by
  rintro ⟨x0, x1⟩ ⟨y0, y1⟩ h; simp [arg_slices_Index_int] at h; simp [Prod.ext_iff, h]
noncomputable def F_slices_Index_int : Con := nilfix [[some 3], [none]] (pcon arg_slices_Index_int (fun a => p_slices_Index_int a.1 a.2) res_slices_Index_int)
theorem fn_slices_Index_int : Fn Try.prog 66 F_slices_Index_int := (Fn.pure cal_slices_Index_int (fun k w0 h0 => ok_slices_Index_int k w0 h0) mixed Try.func66 rfl rfl (by kernel_rfl) 2 (by decide) (fun _ => rfl) lm_slices_Index_int (fun a b h => t_slices_Index_int h)).nilfix _
theorem c_slices_Index_int {a0 : List (Int)} {a1 : Int} {r : Int} (h : p_slices_Index_int a0 a1 = some r) : F_slices_Index_int [.one (.sl false 3 (List.map cI a0)), .one (.lit (.int .i64 a1))] = some (((false, [none]), [.lit (.int .i64 r)])) := pcon_at (arg := arg_slices_Index_int) (p := fun a => p_slices_Index_int a.1 a.2) (res := res_slices_Index_int) (a := (a0, a1)) (b := r) inj_slices_Index_int h
noncomputable def cal_slices_Contains_int (k : Nat) : Cal := calI (tabOf [(66, F_slices_Index_int)]) (inlOf [])
@[simp] theorem cal_slices_Contains_int_ap (k g : Nat) (vs : List TV) (mem : Mem) (ep : Nat) : cal_slices_Contains_int k g vs mem ep = calI (tabOf [(66, F_slices_Index_int)]) (inlOf []) g vs mem ep := rfl
theorem ok_slices_Contains_int (k : Nat) (w0 : World) (h0 : True) : CalOk Try.prog w0.heap.size w0 (cal_slices_Contains_int k) := by
  exact calI_ok (J := fun _ => True) stab_true (tabOf_ok _ (by simp [fn_slices_Index_int])) (inlOf_ok _ (by simp [])) h0
@[simp] def lm_slices_Contains_int : Nat → List Nat × Nat := fun b => ([], 0)
@[simp] def arg_slices_Contains_int (a : List (Int) × Int) : List TV := [.one (.sl false 3 (List.map cI a.1)), .one (.lit (.int .i64 a.2))]
@[simp] def res_slices_Contains_int (r : Bool) : Sh × List V := ((false, [none]), [.lit (.bool r)])
def p_slices_Contains_int (a0 : List (Int)) (a1 : Int) : Option Bool :=
 p_slices_Index_int a0 a1 >>= fun y2 =>
 some (decide (0 ≤ y2))
theorem t_slices_Contains_int {a0 : List (Int)} {a1 : Int} {r : Bool} (h : p_slices_Contains_int a0 a1 = some r) : ∃ k, told Try.prog (cal_slices_Contains_int k) k lm_slices_Contains_int Try.f61 (arg_slices_Contains_int (a0, a1)) = some (res_slices_Contains_int r) := by
  unfold p_slices_Contains_int at h
  obtain ⟨y2, h1, h⟩ := bd h
  have h1c := c_slices_Index_int h1
  obtain rfl := Option.some.inj h
  obtain ⟨k, hk⟩ : ∃ k, 0 ≤ k := ⟨_, Nat.le_refl _⟩
  refine ⟨k, ?_⟩
  simp (implicitDefEqProofs := false) [-getElem?_pos, -getElem?_neg, Try.f61, h1c]
theorem inj_slices_Contains_int : ∀ a b, arg_slices_Contains_int a = arg_slices_Contains_int b → a = b := by
  rintro ⟨x0, x1⟩ ⟨y0, y1⟩ h; simp [arg_slices_Contains_int] at h; simp [Prod.ext_iff, h]
noncomputable def F_slices_Contains_int : Con := nilfix [[some 3], [none]] (pcon arg_slices_Contains_int (fun a => p_slices_Contains_int a.1 a.2) res_slices_Contains_int)
theorem fn_slices_Contains_int : Fn Try.prog 61 F_slices_Contains_int := (Fn.pure cal_slices_Contains_int (fun k w0 h0 => ok_slices_Contains_int k w0 h0) mixed Try.func61 rfl rfl (by kernel_rfl) 2 (by decide) (fun _ => rfl) lm_slices_Contains_int (fun a b h => t_slices_Contains_int h)).nilfix _
theorem c_slices_Contains_int {a0 : List (Int)} {a1 : Int} {r : Bool} (h : p_slices_Contains_int a0 a1 = some r) : F_slices_Contains_int [.one (.sl false 3 (List.map cI a0)), .one (.lit (.int .i64 a1))] = some (((false, [none]), [.lit (.bool r)])) := pcon_at (arg := arg_slices_Contains_int) (p := fun a => p_slices_Contains_int a.1 a.2) (res := res_slices_Contains_int) (a := (a0, a1)) (b := r) inj_slices_Contains_int h
end Go.Proofs.Ytmkpoldhgdbjiaa.Vm

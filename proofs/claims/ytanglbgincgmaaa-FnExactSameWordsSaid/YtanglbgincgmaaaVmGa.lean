/-
  Functions of the program as plain Lean ones, and that the model does as they say. Written by a program of mine (gen.py).
-/
import Derived.Test.YtanglbgincgmaaaVmSimG
import Derived.Test.YtanglbgincgmaaaVmShare
namespace Go.Proofs.Ytanglbgincgmaaa.Vm
open Go Go.RowKit Go.Proofs
set_option linter.unusedVariables false
set_option linter.unusedSimpArgs false
set_option maxHeartbeats 8000000
abbrev LI := List Int
abbrev L2 := List (List Int)
abbrev L3 := List (List (List Int))
abbrev B2 := List (List Bool)
@[simp] def cI (x : Int) : List V := [.lit (.int .i64 x)]
theorem cI_inj : ∀ a b : Int, cI a = cI b → a = b := by
  intro a b h
  simp [cI] at h
  exact h
@[simp] theorem cI_m {a b : LI} : List.map cI a = List.map cI b ↔ a = b := ⟨map_inj' cI_inj a b, fun h => by rw [h]⟩
@[simp] theorem cI_e (l : LI) : erRows (List.map cI l) = List.map cI l := by
  rw [erRows_map, List.map_map]
  exact List.map_congr_left (fun x _ => by simp [V.er])
@[simp] theorem cI_p (l : LI) : pureRows (List.map cI l) = true := by
  induction l with
  | nil => rfl
  | cons x l ih => simpa [pureRows, pureRow, pure0] using ih
def cal_laws_szIntS (k : Nat) : Cal := calI (tabOf []) (inlOf [])
@[simp] theorem cal_laws_szIntS_ap (k g : Nat) (vs : List TV) (mem : Mem) (ep : Nat) : cal_laws_szIntS k g vs mem ep = calI (tabOf []) (inlOf []) g vs mem ep := rfl
theorem ok_laws_szIntS (k : Nat) (w0 : World) (h0 : True) : CalOk Try.prog w0.heap.size w0 (cal_laws_szIntS k) := by
  exact calI_ok (J := fun _ => True) stab_true (tabOf_ok _ (by simp [])) (inlOf_ok _ (by simp [])) h0
@[simp] def lm_laws_szIntS : Nat → List Nat × Nat := fun b => ([], 0)
@[simp] def arg_laws_szIntS (a : LI × Int) : List TV := [.one (.sl false 3 (List.map cI a.1)), .one (.lit (.int .i64 a.2))]
@[simp] def res_laws_szIntS (r : Int) : Sh × List V := ((false, [none]), [.lit (.int .i64 r)])
def p_laws_szIntS (a0 : LI) (a1 : Int) : Option Int :=
 if (IntKind.wrap .i64 (a1 - (a0.length : Int))) < 0 then
  some (-1)
 else
  some (IntKind.wrap .i64 (a1 - (a0.length : Int)))
theorem t_laws_szIntS {a0 : LI} {a1 : Int} {r : Int} (h : p_laws_szIntS a0 a1 = some r) : ∃ k, told Try.prog (cal_laws_szIntS k) k lm_laws_szIntS Try.f66 (arg_laws_szIntS (a0, a1)) = some (res_laws_szIntS r) := by
  unfold p_laws_szIntS at h
  rcases ifc h with ⟨h1, h⟩ | ⟨h1, h⟩
  · obtain rfl := Option.some.inj h
    obtain ⟨k, hk⟩ : ∃ k, 0 ≤ k := ⟨_, Nat.le_refl _⟩
    refine ⟨k, ?_⟩
    simp (implicitDefEqProofs := false) [-getElem?_pos, -getElem?_neg, Try.f66, h1]
  obtain rfl := Option.some.inj h
  obtain ⟨k, hk⟩ : ∃ k, 0 ≤ k := ⟨_, Nat.le_refl _⟩
  refine ⟨k, ?_⟩
  simp (implicitDefEqProofs := false) [-getElem?_pos, -getElem?_neg, Try.f66, h1]
theorem inj_laws_szIntS : ∀ a b, arg_laws_szIntS a = arg_laws_szIntS b → a = b := by
  rintro ⟨x0, x1⟩ ⟨y0, y1⟩ h; simp [arg_laws_szIntS] at h; simp [Prod.ext_iff, h]
noncomputable def F_laws_szIntS : Con := nilfix [[some 3], [none]] (pcon arg_laws_szIntS (fun a => p_laws_szIntS a.1 a.2) res_laws_szIntS)
theorem fn_laws_szIntS : Fn Try.prog 66 F_laws_szIntS := (Fn.pure cal_laws_szIntS (fun k w0 h0 => ok_laws_szIntS k w0 h0) mixed Try.func66 rfl rfl (by kernel_rfl) 2 (by decide) (fun _ => rfl) lm_laws_szIntS (fun a b h => t_laws_szIntS h)).nilfix _
theorem c_laws_szIntS {a0 : LI} {a1 : Int} {r : Int} (h : p_laws_szIntS a0 a1 = some r) : F_laws_szIntS [.one (.sl false 3 (List.map cI a0)), .one (.lit (.int .i64 a1))] = some (((false, [none]), [.lit (.int .i64 r)])) := pcon_at (arg := arg_laws_szIntS) (p := fun a => p_laws_szIntS a.1 a.2) (res := res_laws_szIntS) (a := (a0, a1)) (b := r) inj_laws_szIntS h
@[simp] def cL31 (own : Bool) (x : LI) : List V := [.sl own 3 (List.map cI x)]
theorem cL31_inj {own : Bool} : ∀ a b : LI, cL31 own a = cL31 own b → a = b := by
  intro a b h
  simp [cL31] at h
  exact h
@[simp] theorem cL31_m {own : Bool} {a b : L2} : List.map (cL31 own) a = List.map (cL31 own) b ↔ a = b := ⟨map_inj' cL31_inj a b, fun h => by rw [h]⟩
@[simp] theorem cL31_e {own : Bool} (l : L2) : erRows (List.map (cL31 own) l) = List.map (cL31 false) l := by
  rw [erRows_map, List.map_map]
  exact List.map_congr_left (fun x _ => by cases own <;> simp [V.er, ← erRows_map])
@[simp] theorem cL31_p (l : L2) : pureRows (List.map (cL31 true) l) = true := by
  induction l with
  | nil => rfl
  | cons x l ih => simpa [pureRows, pureRow, pure0] using ih
@[simp] theorem cL31_n (j x : Nat) (l : L2) : List.map (nzRow j x) (List.map (cL31 true) l) = List.map (cL31 true) l := nz_map (fun a => by simp [noNil]) j x l
@[simp] theorem cL31_o (j x : Nat) (l : L2) : List.map (nzRow j x ∘ cL31 true) l = List.map (cL31 true) l := by rw [← List.map_map]; exact nz_map (fun a => by simp [noNil]) j x l
noncomputable def cal_laws_szIntSS (k : Nat) : Cal := calI (tabOf [(66, F_laws_szIntS)]) (inlOf [])
@[simp] theorem cal_laws_szIntSS_ap (k g : Nat) (vs : List TV) (mem : Mem) (ep : Nat) : cal_laws_szIntSS k g vs mem ep = calI (tabOf [(66, F_laws_szIntS)]) (inlOf []) g vs mem ep := rfl
theorem ok_laws_szIntSS (k : Nat) (w0 : World) (h0 : True) : CalOk Try.prog w0.heap.size w0 (cal_laws_szIntSS k) := by
  exact calI_ok (J := fun _ => True) stab_true (tabOf_ok _ (by simp [fn_laws_szIntS])) (inlOf_ok _ (by simp [])) h0
@[simp] def lm_laws_szIntSS : Nat → List Nat × Nat := fun b => if b = 0 then ([0, 1, 5], 0) else if b = 2000000 then ([], 8888888) else if b = 3000000 then ([1], 0) else ([], 0)
@[simp] def arg_laws_szIntSS (a : L2 × Int) : List TV := [.one (.sl false 31 (List.map (cL31 false) a.1)), .one (.lit (.int .i64 a.2))]
@[simp] def res_laws_szIntSS (r : Int) : Sh × List V := ((false, [none]), [.lit (.int .i64 r)])
def p_laws_szIntSS_L0 (a0 : L2) (x1b0 : Int) (x5b0 : Int) : Option (Int ⊕ Int) :=
 if x5b0 < (a0.length : Int) then
  if 0 ≤ x5b0 then
   a0[x5b0.toNat]? >>= fun y17 =>
   p_laws_szIntS y17 x1b0 >>= fun y20 =>
   if y20 < 0 then
    some (.inl (-1))
   else
    p_laws_szIntSS_L0 a0 y20 (IntKind.wrap .i64 (x5b0 + 1))
  else none
 else
  some (.inr x1b0)
partial_fixpoint
@[simp] noncomputable def L_laws_szIntSS_L0 : Code := nav [1, 1, 1, 0, 1, 0, 0] (bodyOf Try.f47)
@[simp] def T_laws_szIntSS_L0 (a0 : L2) (x1b0 : Int) (x5b0 : Int) (st : Nat → Nat) : St := ⟨[(0, .one (.sl false 31 (List.map (cL31 false) a0))), (1, .one (.lit (.int .i64 x1b0))), (5, .one (.lit (.int .i64 x5b0)))], [none], (st 0)⟩
@[simp] def U_laws_szIntSS_L0 (a0 : L2) (o : Int) (st : Nat → Nat) : St := ⟨[(1, .one (.lit (.int .i64 o)))], [none], (st 0)⟩
abbrev Q_laws_szIntSS_L0 (a0 : L2) (x1b0 : Int) (x5b0 : Int) (o : Int ⊕ Int) : Prop := ∀ st : Nat → Nat, LoopT Try.prog cal_laws_szIntSS 1 lm_laws_szIntSS 0 L_laws_szIntSS_L0 (tellS Try.prog lm_laws_szIntSS [.tmp 4]) res_laws_szIntSS (U_laws_szIntSS_L0 a0) (T_laws_szIntSS_L0 a0 x1b0 x5b0 st) o
theorem l_laws_szIntSS_L0 {a0 : L2} {x1b0 : Int} {x5b0 : Int} {o : Int ⊕ Int} (h : p_laws_szIntSS_L0 a0 x1b0 x5b0 = some o) : Q_laws_szIntSS_L0 a0 x1b0 x5b0 o := by
  refine p_laws_szIntSS_L0.partial_correctness a0 (motive := fun x1b0 x5b0 o => Q_laws_szIntSS_L0 a0 x1b0 x5b0 o) ?_ x1b0 x5b0 o h
  clear h o x1b0 x5b0
  intro p' ih x1b0 x5b0 r h st
  rcases ifc h with ⟨h15, h⟩ | ⟨h15, h⟩
  · obtain ⟨h16, h⟩ := ifg h
    obtain ⟨y17, h18, h⟩ := bd h
    obtain ⟨y20, h19, h⟩ := bd h
    have h19c := c_laws_szIntS h19
    rcases ifc h with ⟨h21, h⟩ | ⟨h21, h⟩
    · obtain rfl := Option.some.inj h
      exact LoopT.ret 0 (fun k hk => by simp (implicitDefEqProofs := false) [-getElem?_pos, -getElem?_neg, Try.f47, h15, h16, h18, h19c, h21])
    exact LoopT.step 0 (fun k hk => by simp (implicitDefEqProofs := false) [-getElem?_pos, -getElem?_neg, Try.f47, h15, h16, h18, h19c, h21]) (ih _ _ _ h (sl [((st 0) + 1)]))
  obtain rfl := Option.some.inj h
  exact LoopT.exit (sl [(st 0)]) 0 (fun k hk => by simp (implicitDefEqProofs := false) [-getElem?_pos, -getElem?_neg, Try.f47, h15])
def p_laws_szIntSS (a0 : L2) (a1 : Int) : Option Int :=
 if (IntKind.wrap .i64 (a1 - (a0.length : Int))) < 0 then
  some (-1)
 else
  p_laws_szIntSS_L0 a0 (IntKind.wrap .i64 (a1 - (a0.length : Int))) 0 >>= fun o23 => match o23 with
  | .inl o23 =>
   some o23
  | .inr o23 =>
   some o23
theorem t_laws_szIntSS {a0 : L2} {a1 : Int} {r : Int} (h : p_laws_szIntSS a0 a1 = some r) : ∃ k, told Try.prog (cal_laws_szIntSS k) k lm_laws_szIntSS Try.f47 (arg_laws_szIntSS (a0, a1)) = some (res_laws_szIntSS r) := by
  unfold p_laws_szIntSS at h
  rcases ifc h with ⟨h1, h⟩ | ⟨h1, h⟩
  · obtain rfl := Option.some.inj h
    obtain ⟨k, hk⟩ : ∃ k, 0 ≤ k := ⟨_, Nat.le_refl _⟩
    refine ⟨k, ?_⟩
    simp (implicitDefEqProofs := false) [-getElem?_pos, -getElem?_neg, Try.f47, h1]
  obtain ⟨o23, h22, h⟩ := bd h
  have qK24 := l_laws_szIntSS_L0 h22 (sl [1])
  rcases o23 with o23 | o23
  · obtain ⟨K24, qK24⟩ := qK24
    obtain rfl := Option.some.inj h
    obtain ⟨k, hk⟩ : ∃ k, K24 ≤ k := ⟨_, Nat.le_refl _⟩
    obtain ⟨S_K24, jK24, iK24⟩ := qK24 k (by omega) k (by omega)
    simp (implicitDefEqProofs := false) [-getElem?_pos, -getElem?_neg, Try.f47, h1] at jK24
    refine ⟨k, ?_⟩
    simp (implicitDefEqProofs := false) [-getElem?_pos, -getElem?_neg, Try.f47, h1, iK24, jK24]
  obtain ⟨s25, K24, qK24⟩ := qK24
  obtain rfl := Option.some.inj h
  obtain ⟨k, hk⟩ : ∃ k, K24 ≤ k := ⟨_, Nat.le_refl _⟩
  have jK24 := qK24 k (by omega) k (by omega)
  simp (implicitDefEqProofs := false) [-getElem?_pos, -getElem?_neg, Try.f47, h1] at jK24
  refine ⟨k, ?_⟩
  simp (implicitDefEqProofs := false) [-getElem?_pos, -getElem?_neg, Try.f47, h1, jK24]
theorem inj_laws_szIntSS : ∀ a b, arg_laws_szIntSS a = arg_laws_szIntSS b → a = b := by
  rintro ⟨x0, x1⟩ ⟨y0, y1⟩ h; simp [arg_laws_szIntSS] at h; simp [Prod.ext_iff, h]
noncomputable def F_laws_szIntSS : Con := nilfix [[some 31], [none]] (pcon arg_laws_szIntSS (fun a => p_laws_szIntSS a.1 a.2) res_laws_szIntSS)
theorem fn_laws_szIntSS : Fn Try.prog 47 F_laws_szIntSS := (Fn.pure cal_laws_szIntSS (fun k w0 h0 => ok_laws_szIntSS k w0 h0) mixed Try.func47 rfl rfl (by kernel_rfl) 2 (by decide) (fun _ => rfl) lm_laws_szIntSS (fun a b h => t_laws_szIntSS h)).nilfix _
theorem c_laws_szIntSS {a0 : L2} {a1 : Int} {r : Int} (h : p_laws_szIntSS a0 a1 = some r) : F_laws_szIntSS [.one (.sl false 31 (List.map (cL31 false) a0)), .one (.lit (.int .i64 a1))] = some (((false, [none]), [.lit (.int .i64 r)])) := pcon_at (arg := arg_laws_szIntSS) (p := fun a => p_laws_szIntSS a.1 a.2) (res := res_laws_szIntSS) (a := (a0, a1)) (b := r) inj_laws_szIntSS h
@[simp] def cL38 (own : Bool) (x : L2) : List V := [.sl own 31 (List.map (cL31 own) x)]
theorem cL38_inj {own : Bool} : ∀ a b : L2, cL38 own a = cL38 own b → a = b := by
  intro a b h
  simp [cL38] at h
  exact h
@[simp] theorem cL38_m {own : Bool} {a b : L3} : List.map (cL38 own) a = List.map (cL38 own) b ↔ a = b := ⟨map_inj' cL38_inj a b, fun h => by rw [h]⟩
@[simp] theorem cL38_e {own : Bool} (l : L3) : erRows (List.map (cL38 own) l) = List.map (cL38 false) l := by
  rw [erRows_map, List.map_map]
  exact List.map_congr_left (fun x _ => by cases own <;> simp [V.er, ← erRows_map])
@[simp] theorem cL38_p (l : L3) : pureRows (List.map (cL38 true) l) = true := by
  induction l with
  | nil => rfl
  | cons x l ih => simpa [pureRows, pureRow, pure0] using ih
@[simp] theorem cL38_n (j x : Nat) (l : L3) : List.map (nzRow j x) (List.map (cL38 true) l) = List.map (cL38 true) l := nz_map (fun a => by simp [noNil]) j x l
@[simp] theorem cL38_o (j x : Nat) (l : L3) : List.map (nzRow j x ∘ cL38 true) l = List.map (cL38 true) l := by rw [← List.map_map]; exact nz_map (fun a => by simp [noNil]) j x l
noncomputable def cal_laws_szIntSSS (k : Nat) : Cal := calI (tabOf [(47, F_laws_szIntSS)]) (inlOf [])
@[simp] theorem cal_laws_szIntSSS_ap (k g : Nat) (vs : List TV) (mem : Mem) (ep : Nat) : cal_laws_szIntSSS k g vs mem ep = calI (tabOf [(47, F_laws_szIntSS)]) (inlOf []) g vs mem ep := rfl
theorem ok_laws_szIntSSS (k : Nat) (w0 : World) (h0 : True) : CalOk Try.prog w0.heap.size w0 (cal_laws_szIntSSS k) := by
  exact calI_ok (J := fun _ => True) stab_true (tabOf_ok _ (by simp [fn_laws_szIntSS])) (inlOf_ok _ (by simp [])) h0
@[simp] def lm_laws_szIntSSS : Nat → List Nat × Nat := fun b => if b = 0 then ([0, 1, 5], 0) else if b = 2000000 then ([], 8888888) else if b = 3000000 then ([1], 0) else ([], 0)
@[simp] def arg_laws_szIntSSS (a : L3 × Int) : List TV := [.one (.sl false 38 (List.map (cL38 false) a.1)), .one (.lit (.int .i64 a.2))]
@[simp] def res_laws_szIntSSS (r : Int) : Sh × List V := ((false, [none]), [.lit (.int .i64 r)])
def p_laws_szIntSSS_L0 (a0 : L3) (x1b0 : Int) (x5b0 : Int) : Option (Int ⊕ Int) :=
 if x5b0 < (a0.length : Int) then
  if 0 ≤ x5b0 then
   a0[x5b0.toNat]? >>= fun y17 =>
   p_laws_szIntSS y17 x1b0 >>= fun y20 =>
   if y20 < 0 then
    some (.inl (-1))
   else
    p_laws_szIntSSS_L0 a0 y20 (IntKind.wrap .i64 (x5b0 + 1))
  else none
 else
  some (.inr x1b0)
partial_fixpoint
@[simp] noncomputable def L_laws_szIntSSS_L0 : Code := nav [1, 1, 1, 0, 1, 0, 0] (bodyOf Try.f28)
@[simp] def T_laws_szIntSSS_L0 (a0 : L3) (x1b0 : Int) (x5b0 : Int) (st : Nat → Nat) : St := ⟨[(0, .one (.sl false 38 (List.map (cL38 false) a0))), (1, .one (.lit (.int .i64 x1b0))), (5, .one (.lit (.int .i64 x5b0)))], [none], (st 0)⟩
@[simp] def U_laws_szIntSSS_L0 (a0 : L3) (o : Int) (st : Nat → Nat) : St := ⟨[(1, .one (.lit (.int .i64 o)))], [none], (st 0)⟩
abbrev Q_laws_szIntSSS_L0 (a0 : L3) (x1b0 : Int) (x5b0 : Int) (o : Int ⊕ Int) : Prop := ∀ st : Nat → Nat, LoopT Try.prog cal_laws_szIntSSS 1 lm_laws_szIntSSS 0 L_laws_szIntSSS_L0 (tellS Try.prog lm_laws_szIntSSS [.tmp 4]) res_laws_szIntSSS (U_laws_szIntSSS_L0 a0) (T_laws_szIntSSS_L0 a0 x1b0 x5b0 st) o
theorem l_laws_szIntSSS_L0 {a0 : L3} {x1b0 : Int} {x5b0 : Int} {o : Int ⊕ Int} (h : p_laws_szIntSSS_L0 a0 x1b0 x5b0 = some o) : Q_laws_szIntSSS_L0 a0 x1b0 x5b0 o := by
  refine p_laws_szIntSSS_L0.partial_correctness a0 (motive := fun x1b0 x5b0 o => Q_laws_szIntSSS_L0 a0 x1b0 x5b0 o) ?_ x1b0 x5b0 o h
  clear h o x1b0 x5b0
  intro p' ih x1b0 x5b0 r h st
  rcases ifc h with ⟨h15, h⟩ | ⟨h15, h⟩
  · obtain ⟨h16, h⟩ := ifg h
    obtain ⟨y17, h18, h⟩ := bd h
    obtain ⟨y20, h19, h⟩ := bd h
    have h19c := c_laws_szIntSS h19
    rcases ifc h with ⟨h21, h⟩ | ⟨h21, h⟩
    · obtain rfl := Option.some.inj h
      exact LoopT.ret 0 (fun k hk => by simp (implicitDefEqProofs := false) [-getElem?_pos, -getElem?_neg, Try.f28, h15, h16, h18, h19c, h21])
    exact LoopT.step 0 (fun k hk => by simp (implicitDefEqProofs := false) [-getElem?_pos, -getElem?_neg, Try.f28, h15, h16, h18, h19c, h21]) (ih _ _ _ h (sl [((st 0) + 1)]))
  obtain rfl := Option.some.inj h
  exact LoopT.exit (sl [(st 0)]) 0 (fun k hk => by simp (implicitDefEqProofs := false) [-getElem?_pos, -getElem?_neg, Try.f28, h15])
def p_laws_szIntSSS (a0 : L3) (a1 : Int) : Option Int :=
 if (IntKind.wrap .i64 (a1 - (a0.length : Int))) < 0 then
  some (-1)
 else
  p_laws_szIntSSS_L0 a0 (IntKind.wrap .i64 (a1 - (a0.length : Int))) 0 >>= fun o23 => match o23 with
  | .inl o23 =>
   some o23
  | .inr o23 =>
   some o23
theorem t_laws_szIntSSS {a0 : L3} {a1 : Int} {r : Int} (h : p_laws_szIntSSS a0 a1 = some r) : ∃ k, told Try.prog (cal_laws_szIntSSS k) k lm_laws_szIntSSS Try.f28 (arg_laws_szIntSSS (a0, a1)) = some (res_laws_szIntSSS r) := by
  unfold p_laws_szIntSSS at h
  rcases ifc h with ⟨h1, h⟩ | ⟨h1, h⟩
  · obtain rfl := Option.some.inj h
    obtain ⟨k, hk⟩ : ∃ k, 0 ≤ k := ⟨_, Nat.le_refl _⟩
    refine ⟨k, ?_⟩
    simp (implicitDefEqProofs := false) [-getElem?_pos, -getElem?_neg, Try.f28, h1]
  obtain ⟨o23, h22, h⟩ := bd h
  have qK24 := l_laws_szIntSSS_L0 h22 (sl [1])
  rcases o23 with o23 | o23
  · obtain ⟨K24, qK24⟩ := qK24
    obtain rfl := Option.some.inj h
    obtain ⟨k, hk⟩ : ∃ k, K24 ≤ k := ⟨_, Nat.le_refl _⟩
    obtain ⟨S_K24, jK24, iK24⟩ := qK24 k (by omega) k (by omega)
    simp (implicitDefEqProofs := false) [-getElem?_pos, -getElem?_neg, Try.f28, h1] at jK24
    refine ⟨k, ?_⟩
    simp (implicitDefEqProofs := false) [-getElem?_pos, -getElem?_neg, Try.f28, h1, iK24, jK24]
  obtain ⟨s25, K24, qK24⟩ := qK24
  obtain rfl := Option.some.inj h
  obtain ⟨k, hk⟩ : ∃ k, K24 ≤ k := ⟨_, Nat.le_refl _⟩
  have jK24 := qK24 k (by omega) k (by omega)
  simp (implicitDefEqProofs := false) [-getElem?_pos, -getElem?_neg, Try.f28, h1] at jK24
  refine ⟨k, ?_⟩
  simp (implicitDefEqProofs := false) [-getElem?_pos, -getElem?_neg, Try.f28, h1, jK24]
theorem inj_laws_szIntSSS : ∀ a b, arg_laws_szIntSSS a = arg_laws_szIntSSS b → a = b := by
  rintro ⟨x0, x1⟩ ⟨y0, y1⟩ h; simp [arg_laws_szIntSSS] at h; simp [Prod.ext_iff, h]
noncomputable def F_laws_szIntSSS : Con := nilfix [[some 38], [none]] (pcon arg_laws_szIntSSS (fun a => p_laws_szIntSSS a.1 a.2) res_laws_szIntSSS)
theorem fn_laws_szIntSSS : Fn Try.prog 28 F_laws_szIntSSS := (Fn.pure cal_laws_szIntSSS (fun k w0 h0 => ok_laws_szIntSSS k w0 h0) mixed Try.func28 rfl rfl (by kernel_rfl) 2 (by decide) (fun _ => rfl) lm_laws_szIntSSS (fun a b h => t_laws_szIntSSS h)).nilfix _
theorem c_laws_szIntSSS {a0 : L3} {a1 : Int} {r : Int} (h : p_laws_szIntSSS a0 a1 = some r) : F_laws_szIntSSS [.one (.sl false 38 (List.map (cL38 false) a0)), .one (.lit (.int .i64 a1))] = some (((false, [none]), [.lit (.int .i64 r)])) := pcon_at (arg := arg_laws_szIntSSS) (p := fun a => p_laws_szIntSSS a.1 a.2) (res := res_laws_szIntSSS) (a := (a0, a1)) (b := r) inj_laws_szIntSSS h
noncomputable def cal_laws_szGram (k : Nat) : Cal := calI (tabOf [(28, F_laws_szIntSSS)]) (inlOf [])
@[simp] theorem cal_laws_szGram_ap (k g : Nat) (vs : List TV) (mem : Mem) (ep : Nat) : cal_laws_szGram k g vs mem ep = calI (tabOf [(28, F_laws_szIntSSS)]) (inlOf []) g vs mem ep := rfl
theorem ok_laws_szGram (k : Nat) (w0 : World) (h0 : True) : CalOk Try.prog w0.heap.size w0 (cal_laws_szGram k) := by
  exact calI_ok (J := fun _ => True) stab_true (tabOf_ok _ (by simp [fn_laws_szIntSSS])) (inlOf_ok _ (by simp [])) h0
@[simp] def lm_laws_szGram : Nat → List Nat × Nat := fun b => ([], 0)
@[simp] def arg_laws_szGram (a : L3 × Int) : List TV := [.agg [.sl false 38 (List.map (cL38 false) a.1)], .one (.lit (.int .i64 a.2))]
@[simp] def res_laws_szGram (r : Int) : Sh × List V := ((false, [none]), [.lit (.int .i64 r)])
def p_laws_szGram (a0 : L3) (a1 : Int) : Option Int :=
 p_laws_szIntSSS a0 a1 >>= fun y2 =>
 if y2 < 0 then
  some (-1)
 else
  some y2
theorem t_laws_szGram {a0 : L3} {a1 : Int} {r : Int} (h : p_laws_szGram a0 a1 = some r) : ∃ k, told Try.prog (cal_laws_szGram k) k lm_laws_szGram Try.f8 (arg_laws_szGram (a0, a1)) = some (res_laws_szGram r) := by
  unfold p_laws_szGram at h
  obtain ⟨y2, h1, h⟩ := bd h
  have h1c := c_laws_szIntSSS h1
  rcases ifc h with ⟨h3, h⟩ | ⟨h3, h⟩
  · obtain rfl := Option.some.inj h
    obtain ⟨k, hk⟩ : ∃ k, 0 ≤ k := ⟨_, Nat.le_refl _⟩
    refine ⟨k, ?_⟩
    simp (implicitDefEqProofs := false) [-getElem?_pos, -getElem?_neg, Try.f8, h1c, h3]
  obtain rfl := Option.some.inj h
  obtain ⟨k, hk⟩ : ∃ k, 0 ≤ k := ⟨_, Nat.le_refl _⟩
  refine ⟨k, ?_⟩
  simp (implicitDefEqProofs := false) [-getElem?_pos, -getElem?_neg, Try.f8, h1c, h3]
theorem inj_laws_szGram : ∀ a b, arg_laws_szGram a = arg_laws_szGram b → a = b := by
  rintro ⟨x0, x1⟩ ⟨y0, y1⟩ h; simp [arg_laws_szGram] at h; simp [Prod.ext_iff, h]
noncomputable def F_laws_szGram : Con := nilfix [[some 38], [none]] (pcon arg_laws_szGram (fun a => p_laws_szGram a.1 a.2) res_laws_szGram)
theorem fn_laws_szGram : Fn Try.prog 8 F_laws_szGram := (Fn.pure cal_laws_szGram (fun k w0 h0 => ok_laws_szGram k w0 h0) mixed Try.func8 rfl rfl (by kernel_rfl) 2 (by decide) (fun _ => rfl) lm_laws_szGram (fun a b h => t_laws_szGram h)).nilfix _
theorem c_laws_szGram {a0 : L3} {a1 : Int} {r : Int} (h : p_laws_szGram a0 a1 = some r) : F_laws_szGram [.agg [.sl false 38 (List.map (cL38 false) a0)], .one (.lit (.int .i64 a1))] = some (((false, [none]), [.lit (.int .i64 r)])) := pcon_at (arg := arg_laws_szGram) (p := fun a => p_laws_szGram a.1 a.2) (res := res_laws_szGram) (a := (a0, a1)) (b := r) inj_laws_szGram h
def cal_laws_toIntS (k : Nat) : Cal := calI (tabOf []) (inlOf [])
@[simp] theorem cal_laws_toIntS_ap (k g : Nat) (vs : List TV) (mem : Mem) (ep : Nat) : cal_laws_toIntS k g vs mem ep = calI (tabOf []) (inlOf []) g vs mem ep := rfl
theorem ok_laws_toIntS (k : Nat) (w0 : World) (h0 : True) : CalOk Try.prog w0.heap.size w0 (cal_laws_toIntS k) := by
  exact calI_ok (J := fun _ => True) stab_true (tabOf_ok _ (by simp [])) (inlOf_ok _ (by simp [])) h0
@[simp] def lm_laws_toIntS : Nat → List Nat × Nat := fun b => if b = 0 then ([0, 3, 4], 1) else if b = 2000000 then ([], 8888888) else if b = 3000000 then ([3], 1) else ([], 0)
@[simp] def arg_laws_toIntS (a : LI) : List TV := [.one (.sl false 3 (List.map cI a))]
@[simp] def res_laws_toIntS (r : LI) : Sh × List V := ((false, [none]), [.sl true 3 (List.map cI r)])
def p_laws_toIntS_L0 (a0 : LI) (x4b0 : Int) (l1b0 : LI) : Option LI :=
 if x4b0 < (a0.length : Int) then
  if 0 ≤ x4b0 then
   a0[x4b0.toNat]? >>= fun y29 =>
   l1b0[x4b0.toNat]? >>= fun y31 =>
   some (List.set l1b0 x4b0.toNat y29) >>= fun l33 =>
   p_laws_toIntS_L0 a0 (IntKind.wrap .i64 (x4b0 + 1)) l33
  else none
 else
  some l1b0
partial_fixpoint
@[simp] noncomputable def L_laws_toIntS_L0 : Code := nav [1, 1, 0, 1, 0, 0] (bodyOf Try.f70)
@[simp] def T_laws_toIntS_L0 (a0 : LI) (x4b0 : Int) (l1b0 : LI) (st : Nat → Nat) : St := ⟨[(0, .one (.sl false 3 (List.map cI a0))), (3, .one (.ow 1 1)), (4, .one (.lit (.int .i64 x4b0)))], [none, some (.rows 1 1 3 (List.map cI l1b0))], (st 0)⟩
@[simp] def U_laws_toIntS_L0 (a0 : LI) (o : LI) (st : Nat → Nat) : St := ⟨[(3, .one (.ow 1 1))], [none, some (.rows 1 1 3 (List.map cI o))], (st 0)⟩
abbrev Q_laws_toIntS_L0 (a0 : LI) (x4b0 : Int) (l1b0 : LI) (o : LI) : Prop := ∀ st : Nat → Nat, LoopG Try.prog cal_laws_toIntS 1 lm_laws_toIntS 0 L_laws_toIntS_L0 (U_laws_toIntS_L0 a0) (T_laws_toIntS_L0 a0 x4b0 l1b0 st) o
theorem l_laws_toIntS_L0 {a0 : LI} {x4b0 : Int} {l1b0 : LI} {o : LI} (h : p_laws_toIntS_L0 a0 x4b0 l1b0 = some o) : Q_laws_toIntS_L0 a0 x4b0 l1b0 o := by
  refine p_laws_toIntS_L0.partial_correctness a0 (motive := fun x4b0 l1b0 o => Q_laws_toIntS_L0 a0 x4b0 l1b0 o) ?_ x4b0 l1b0 o h
  clear h o x4b0 l1b0
  intro p' ih x4b0 l1b0 r h st
  rcases ifc h with ⟨h27, h⟩ | ⟨h27, h⟩
  · obtain ⟨h28, h⟩ := ifg h
    obtain ⟨y29, h30, h⟩ := bd h
    obtain ⟨y31, h32, h⟩ := bd h
    have h32b := (List.getElem?_eq_some_iff.1 h32).1
    obtain ⟨l33, h34, h⟩ := bd h
    have h34r : (List.map cI l1b0).set x4b0.toNat [.lit (.int .i64 y29)] = List.map cI l33 := by rw [← Option.some.inj h34]; simp
    exact LoopG.step 0 (fun k hk => by simp (implicitDefEqProofs := false) [-getElem?_pos, -getElem?_neg, Try.f70, h27, h28, h30, h32, h32b, h34r]) (ih _ _ _ h (sl [(st 0)]))
  obtain rfl := Option.some.inj h
  exact LoopG.exit (sl [(st 0)]) 0 (fun k hk => by simp (implicitDefEqProofs := false) [-getElem?_pos, -getElem?_neg, Try.f70, h27])
def p_laws_toIntS (a0 : LI) : Option LI :=
 if a0.length * 8 ≤ 140737488355328 then
  some (List.replicate a0.length 0) >>= fun l2 =>
  p_laws_toIntS_L0 a0 0 l2 >>= fun o36 =>
  some o36
 else none
theorem t_laws_toIntS {a0 : LI} {r : LI} (h : p_laws_toIntS a0 = some r) : ∃ k, told Try.prog (cal_laws_toIntS k) k lm_laws_toIntS Try.f70 (arg_laws_toIntS a0) = some (res_laws_toIntS r) := by
  unfold p_laws_toIntS at h
  obtain ⟨h1, h⟩ := ifg h
  have h1b : a0.length ≤ 9223372036854775807 := by omega
  obtain ⟨l2, h3, h⟩ := bd h
  have h3r : List.replicate a0.length [.lit (.int .i64 0)] = List.map cI l2 := by rw [← Option.some.inj h3]; simp
  obtain ⟨o36, h35, h⟩ := bd h
  have qK37 := l_laws_toIntS_L0 h35 (sl [2])
  obtain ⟨s38, K37, qK37⟩ := qK37
  obtain rfl := Option.some.inj h
  obtain ⟨k, hk⟩ : ∃ k, K37 ≤ k := ⟨_, Nat.le_refl _⟩
  have jK37 := qK37 k (by omega) k (by omega)
  simp (implicitDefEqProofs := false) [-getElem?_pos, -getElem?_neg, Try.f70, h1, h1b, h3r] at jK37
  refine ⟨k, ?_⟩
  simp (implicitDefEqProofs := false) [-getElem?_pos, -getElem?_neg, Try.f70, h1, h1b, h3r, jK37]
theorem inj_laws_toIntS : ∀ a b, arg_laws_toIntS a = arg_laws_toIntS b → a = b := by
  intro x y h; simp [arg_laws_toIntS] at h; simp [Prod.ext_iff, h]
noncomputable def F_laws_toIntS : Con := nilfix [[some 3]] (pcon arg_laws_toIntS (fun a => p_laws_toIntS a) res_laws_toIntS)
theorem fn_laws_toIntS : Fn Try.prog 70 F_laws_toIntS := (Fn.pure cal_laws_toIntS (fun k w0 h0 => ok_laws_toIntS k w0 h0) mixed Try.func70 rfl rfl (by kernel_rfl) 1 (by decide) (fun _ => rfl) lm_laws_toIntS (fun a b h => t_laws_toIntS h)).nilfix _
theorem c_laws_toIntS {a0 : LI} {r : LI} (h : p_laws_toIntS a0 = some r) : F_laws_toIntS [.one (.sl false 3 (List.map cI a0))] = some (((false, [none]), [.sl true 3 (List.map cI r)])) := pcon_at (arg := arg_laws_toIntS) (p := fun a => p_laws_toIntS a) (res := res_laws_toIntS) (a := a0) (b := r) inj_laws_toIntS h
noncomputable def cal_laws_toIntSS (k : Nat) : Cal := calI (tabOf [(70, F_laws_toIntS)]) (inlOf [])
@[simp] theorem cal_laws_toIntSS_ap (k g : Nat) (vs : List TV) (mem : Mem) (ep : Nat) : cal_laws_toIntSS k g vs mem ep = calI (tabOf [(70, F_laws_toIntS)]) (inlOf []) g vs mem ep := rfl
theorem ok_laws_toIntSS (k : Nat) (w0 : World) (h0 : True) : CalOk Try.prog w0.heap.size w0 (cal_laws_toIntSS k) := by
  exact calI_ok (J := fun _ => True) stab_true (tabOf_ok _ (by simp [fn_laws_toIntS])) (inlOf_ok _ (by simp [])) h0
@[simp] def lm_laws_toIntSS : Nat → List Nat × Nat := fun b => if b = 0 then ([0, 3, 4], 1) else if b = 2000000 then ([], 8888888) else if b = 3000000 then ([3], 1) else if b = 1000001 then ([4, 7, 0, 3], 8888888) else ([], 0)
@[simp] def arg_laws_toIntSS (a : L2) : List TV := [.one (.sl false 31 (List.map (cL31 false) a))]
@[simp] def res_laws_toIntSS (r : L2) : Sh × List V := ((false, [none]), [.sl true 31 (List.map (cL31 true) r)])
def p_laws_toIntSS_L0 (a0 : L2) (x4b0 : Int) (l1b0 : L2) : Option L2 :=
 if x4b0 < (a0.length : Int) then
  if 0 ≤ x4b0 then
   a0[x4b0.toNat]? >>= fun y35 =>
   p_laws_toIntS y35 >>= fun y38 =>
   l1b0[x4b0.toNat]? >>= fun y39 =>
   some (List.set l1b0 x4b0.toNat y38) >>= fun l41 =>
   p_laws_toIntSS_L0 a0 (IntKind.wrap .i64 (x4b0 + 1)) l41
  else none
 else
  some l1b0
partial_fixpoint
@[simp] noncomputable def L_laws_toIntSS_L0 : Code := nav [1, 1, 0, 1, 0, 0] (bodyOf Try.f54)
@[simp] def T_laws_toIntSS_L0 (a0 : L2) (x4b0 : Int) (l1b0 : L2) (st : Nat → Nat) : St := ⟨[(0, .one (.sl false 31 (List.map (cL31 false) a0))), (3, .one (.ow 1 1)), (4, .one (.lit (.int .i64 x4b0)))], [none, some (.rows 1 (st 1) 31 (List.map (cL31 true) l1b0))], (st 0)⟩
@[simp] def U_laws_toIntSS_L0 (a0 : L2) (o : L2) (st : Nat → Nat) : St := ⟨[(3, .one (.ow 1 1))], [none, some (.rows 1 (st 1) 31 (List.map (cL31 true) o))], (st 0)⟩
abbrev Q_laws_toIntSS_L0 (a0 : L2) (x4b0 : Int) (l1b0 : L2) (o : L2) : Prop := ∀ st : Nat → Nat, LoopG Try.prog cal_laws_toIntSS 1 lm_laws_toIntSS 0 L_laws_toIntSS_L0 (U_laws_toIntSS_L0 a0) (T_laws_toIntSS_L0 a0 x4b0 l1b0 st) o
theorem l_laws_toIntSS_L0 {a0 : L2} {x4b0 : Int} {l1b0 : L2} {o : L2} (h : p_laws_toIntSS_L0 a0 x4b0 l1b0 = some o) : Q_laws_toIntSS_L0 a0 x4b0 l1b0 o := by
  refine p_laws_toIntSS_L0.partial_correctness a0 (motive := fun x4b0 l1b0 o => Q_laws_toIntSS_L0 a0 x4b0 l1b0 o) ?_ x4b0 l1b0 o h
  clear h o x4b0 l1b0
  intro p' ih x4b0 l1b0 r h st
  rcases ifc h with ⟨h33, h⟩ | ⟨h33, h⟩
  · obtain ⟨h34, h⟩ := ifg h
    obtain ⟨y35, h36, h⟩ := bd h
    obtain ⟨y38, h37, h⟩ := bd h
    have h37c := c_laws_toIntS h37
    obtain ⟨y39, h40, h⟩ := bd h
    have h40b := (List.getElem?_eq_some_iff.1 h40).1
    obtain ⟨l41, h42, h⟩ := bd h
    have h42r : (List.map (cL31 true) l1b0).set x4b0.toNat [.sl true 3 (List.map cI y38)] = List.map (cL31 true) l41 := by rw [← Option.some.inj h42]; simp
    exact LoopG.step 0 (fun k hk => by simp (implicitDefEqProofs := false) [-getElem?_pos, -getElem?_neg, Try.f54, h33, h34, h36, h37c, h40, h40b, h42r]) (ih _ _ _ h (sl [((st 0) + 2), ((st 0) + 1)]))
  obtain rfl := Option.some.inj h
  exact LoopG.exit (sl [(st 0), (st 1)]) 0 (fun k hk => by simp (implicitDefEqProofs := false) [-getElem?_pos, -getElem?_neg, Try.f54, h33])
def p_laws_toIntSS (a0 : L2) : Option L2 :=
 if a0.length * 24 ≤ 140737488355328 then
  some (List.replicate a0.length ([])) >>= fun l2 =>
  p_laws_toIntSS_L0 a0 0 l2 >>= fun o44 =>
  some o44
 else none
theorem t_laws_toIntSS {a0 : L2} {r : L2} (h : p_laws_toIntSS a0 = some r) : ∃ k, told Try.prog (cal_laws_toIntSS k) k lm_laws_toIntSS Try.f54 (arg_laws_toIntSS a0) = some (res_laws_toIntSS r) := by
  unfold p_laws_toIntSS at h
  obtain ⟨h1, h⟩ := ifg h
  have h1b : a0.length ≤ 9223372036854775807 := by omega
  obtain ⟨l2, h3, h⟩ := bd h
  have h3r : List.replicate a0.length [.sl true 3 []] = List.map (cL31 true) l2 := by rw [← Option.some.inj h3]; simp
  obtain ⟨o44, h43, h⟩ := bd h
  have qK45 := l_laws_toIntSS_L0 h43 (sl [2, 1])
  obtain ⟨s46, K45, qK45⟩ := qK45
  obtain rfl := Option.some.inj h
  obtain ⟨k, hk⟩ : ∃ k, K45 ≤ k := ⟨_, Nat.le_refl _⟩
  have jK45 := qK45 k (by omega) k (by omega)
  simp (implicitDefEqProofs := false) [-getElem?_pos, -getElem?_neg, Try.f54, h1, h1b, h3r] at jK45
  refine ⟨k, ?_⟩
  simp (implicitDefEqProofs := false) [-getElem?_pos, -getElem?_neg, Try.f54, h1, h1b, h3r, jK45]
theorem inj_laws_toIntSS : ∀ a b, arg_laws_toIntSS a = arg_laws_toIntSS b → a = b := by
  intro x y h; simp [arg_laws_toIntSS] at h; simp [Prod.ext_iff, h]
noncomputable def F_laws_toIntSS : Con := nilfix [[some 31]] (pcon arg_laws_toIntSS (fun a => p_laws_toIntSS a) res_laws_toIntSS)
theorem fn_laws_toIntSS : Fn Try.prog 54 F_laws_toIntSS := (Fn.pure cal_laws_toIntSS (fun k w0 h0 => ok_laws_toIntSS k w0 h0) mixed Try.func54 rfl rfl (by kernel_rfl) 1 (by decide) (fun _ => rfl) lm_laws_toIntSS (fun a b h => t_laws_toIntSS h)).nilfix _
theorem c_laws_toIntSS {a0 : L2} {r : L2} (h : p_laws_toIntSS a0 = some r) : F_laws_toIntSS [.one (.sl false 31 (List.map (cL31 false) a0))] = some (((false, [none]), [.sl true 31 (List.map (cL31 true) r)])) := pcon_at (arg := arg_laws_toIntSS) (p := fun a => p_laws_toIntSS a) (res := res_laws_toIntSS) (a := a0) (b := r) inj_laws_toIntSS h
noncomputable def cal_laws_toIntSSS (k : Nat) : Cal := calI (tabOf [(54, F_laws_toIntSS)]) (inlOf [])
@[simp] theorem cal_laws_toIntSSS_ap (k g : Nat) (vs : List TV) (mem : Mem) (ep : Nat) : cal_laws_toIntSSS k g vs mem ep = calI (tabOf [(54, F_laws_toIntSS)]) (inlOf []) g vs mem ep := rfl
theorem ok_laws_toIntSSS (k : Nat) (w0 : World) (h0 : True) : CalOk Try.prog w0.heap.size w0 (cal_laws_toIntSSS k) := by
  exact calI_ok (J := fun _ => True) stab_true (tabOf_ok _ (by simp [fn_laws_toIntSS])) (inlOf_ok _ (by simp [])) h0
@[simp] def lm_laws_toIntSSS : Nat → List Nat × Nat := fun b => if b = 0 then ([0, 3, 4], 1) else if b = 2000000 then ([], 8888888) else if b = 3000000 then ([3], 1) else if b = 1000001 then ([4, 7, 0, 31], 8888888) else ([], 0)
@[simp] def arg_laws_toIntSSS (a : L3) : List TV := [.one (.sl false 38 (List.map (cL38 false) a))]
@[simp] def res_laws_toIntSSS (r : L3) : Sh × List V := ((false, [none]), [.sl true 38 (List.map (cL38 true) r)])
def p_laws_toIntSSS_L0 (a0 : L3) (x4b0 : Int) (l1b0 : L3) : Option L3 :=
 if x4b0 < (a0.length : Int) then
  if 0 ≤ x4b0 then
   a0[x4b0.toNat]? >>= fun y35 =>
   p_laws_toIntSS y35 >>= fun y38 =>
   l1b0[x4b0.toNat]? >>= fun y39 =>
   some (List.set l1b0 x4b0.toNat y38) >>= fun l41 =>
   p_laws_toIntSSS_L0 a0 (IntKind.wrap .i64 (x4b0 + 1)) l41
  else none
 else
  some l1b0
partial_fixpoint
@[simp] noncomputable def L_laws_toIntSSS_L0 : Code := nav [1, 1, 0, 1, 0, 0] (bodyOf Try.f32)
@[simp] def T_laws_toIntSSS_L0 (a0 : L3) (x4b0 : Int) (l1b0 : L3) (st : Nat → Nat) : St := ⟨[(0, .one (.sl false 38 (List.map (cL38 false) a0))), (3, .one (.ow 1 1)), (4, .one (.lit (.int .i64 x4b0)))], [none, some (.rows 1 (st 1) 38 (List.map (cL38 true) l1b0))], (st 0)⟩
@[simp] def U_laws_toIntSSS_L0 (a0 : L3) (o : L3) (st : Nat → Nat) : St := ⟨[(3, .one (.ow 1 1))], [none, some (.rows 1 (st 1) 38 (List.map (cL38 true) o))], (st 0)⟩
abbrev Q_laws_toIntSSS_L0 (a0 : L3) (x4b0 : Int) (l1b0 : L3) (o : L3) : Prop := ∀ st : Nat → Nat, LoopG Try.prog cal_laws_toIntSSS 1 lm_laws_toIntSSS 0 L_laws_toIntSSS_L0 (U_laws_toIntSSS_L0 a0) (T_laws_toIntSSS_L0 a0 x4b0 l1b0 st) o
theorem l_laws_toIntSSS_L0 {a0 : L3} {x4b0 : Int} {l1b0 : L3} {o : L3} (h : p_laws_toIntSSS_L0 a0 x4b0 l1b0 = some o) : Q_laws_toIntSSS_L0 a0 x4b0 l1b0 o := by
  refine p_laws_toIntSSS_L0.partial_correctness a0 (motive := fun x4b0 l1b0 o => Q_laws_toIntSSS_L0 a0 x4b0 l1b0 o) ?_ x4b0 l1b0 o h
  clear h o x4b0 l1b0
  intro p' ih x4b0 l1b0 r h st
  rcases ifc h with ⟨h33, h⟩ | ⟨h33, h⟩
  · obtain ⟨h34, h⟩ := ifg h
    obtain ⟨y35, h36, h⟩ := bd h
    obtain ⟨y38, h37, h⟩ := bd h
    have h37c := c_laws_toIntSS h37
    obtain ⟨y39, h40, h⟩ := bd h
    have h40b := (List.getElem?_eq_some_iff.1 h40).1
    obtain ⟨l41, h42, h⟩ := bd h
    have h42r : (List.map (cL38 true) l1b0).set x4b0.toNat [.sl true 31 (List.map (cL31 true) y38)] = List.map (cL38 true) l41 := by rw [← Option.some.inj h42]; simp
    exact LoopG.step 0 (fun k hk => by simp (implicitDefEqProofs := false) [-getElem?_pos, -getElem?_neg, Try.f32, h33, h34, h36, h37c, h40, h40b, h42r]) (ih _ _ _ h (sl [((st 0) + 2), ((st 0) + 1)]))
  obtain rfl := Option.some.inj h
  exact LoopG.exit (sl [(st 0), (st 1)]) 0 (fun k hk => by simp (implicitDefEqProofs := false) [-getElem?_pos, -getElem?_neg, Try.f32, h33])
def p_laws_toIntSSS (a0 : L3) : Option L3 :=
 if a0.length * 24 ≤ 140737488355328 then
  some (List.replicate a0.length ([])) >>= fun l2 =>
  p_laws_toIntSSS_L0 a0 0 l2 >>= fun o44 =>
  some o44
 else none
theorem t_laws_toIntSSS {a0 : L3} {r : L3} (h : p_laws_toIntSSS a0 = some r) : ∃ k, told Try.prog (cal_laws_toIntSSS k) k lm_laws_toIntSSS Try.f32 (arg_laws_toIntSSS a0) = some (res_laws_toIntSSS r) := by
  unfold p_laws_toIntSSS at h
  obtain ⟨h1, h⟩ := ifg h
  have h1b : a0.length ≤ 9223372036854775807 := by omega
  obtain ⟨l2, h3, h⟩ := bd h
  have h3r : List.replicate a0.length [.sl true 31 []] = List.map (cL38 true) l2 := by rw [← Option.some.inj h3]; simp
  obtain ⟨o44, h43, h⟩ := bd h
  have qK45 := l_laws_toIntSSS_L0 h43 (sl [2, 1])
  obtain ⟨s46, K45, qK45⟩ := qK45
  obtain rfl := Option.some.inj h
  obtain ⟨k, hk⟩ : ∃ k, K45 ≤ k := ⟨_, Nat.le_refl _⟩
  have jK45 := qK45 k (by omega) k (by omega)
  simp (implicitDefEqProofs := false) [-getElem?_pos, -getElem?_neg, Try.f32, h1, h1b, h3r] at jK45
  refine ⟨k, ?_⟩
  simp (implicitDefEqProofs := false) [-getElem?_pos, -getElem?_neg, Try.f32, h1, h1b, h3r, jK45]
theorem inj_laws_toIntSSS : ∀ a b, arg_laws_toIntSSS a = arg_laws_toIntSSS b → a = b := by
  intro x y h; simp [arg_laws_toIntSSS] at h; simp [Prod.ext_iff, h]
noncomputable def F_laws_toIntSSS : Con := nilfix [[some 38]] (pcon arg_laws_toIntSSS (fun a => p_laws_toIntSSS a) res_laws_toIntSSS)
theorem fn_laws_toIntSSS : Fn Try.prog 32 F_laws_toIntSSS := (Fn.pure cal_laws_toIntSSS (fun k w0 h0 => ok_laws_toIntSSS k w0 h0) mixed Try.func32 rfl rfl (by kernel_rfl) 1 (by decide) (fun _ => rfl) lm_laws_toIntSSS (fun a b h => t_laws_toIntSSS h)).nilfix _
theorem c_laws_toIntSSS {a0 : L3} {r : L3} (h : p_laws_toIntSSS a0 = some r) : F_laws_toIntSSS [.one (.sl false 38 (List.map (cL38 false) a0))] = some (((false, [none]), [.sl true 38 (List.map (cL38 true) r)])) := pcon_at (arg := arg_laws_toIntSSS) (p := fun a => p_laws_toIntSSS a) (res := res_laws_toIntSSS) (a := a0) (b := r) inj_laws_toIntSSS h
noncomputable def cal_laws_toGram (k : Nat) : Cal := calI (tabOf [(32, F_laws_toIntSSS)]) (inlOf [])
@[simp] theorem cal_laws_toGram_ap (k g : Nat) (vs : List TV) (mem : Mem) (ep : Nat) : cal_laws_toGram k g vs mem ep = calI (tabOf [(32, F_laws_toIntSSS)]) (inlOf []) g vs mem ep := rfl
theorem ok_laws_toGram (k : Nat) (w0 : World) (h0 : True) : CalOk Try.prog w0.heap.size w0 (cal_laws_toGram k) := by
  exact calI_ok (J := fun _ => True) stab_true (tabOf_ok _ (by simp [fn_laws_toIntSSS])) (inlOf_ok _ (by simp [])) h0
@[simp] def lm_laws_toGram : Nat → List Nat × Nat := fun b => ([], 0)
@[simp] def arg_laws_toGram (a : L3) : List TV := [.agg [.sl false 38 (List.map (cL38 false) a)]]
@[simp] def res_laws_toGram (r : L3) : Sh × List V := ((false, [some 1]), [.sl true 38 (List.map (cL38 true) r)])
def p_laws_toGram (a0 : L3) : Option L3 :=
 p_laws_toIntSSS a0 >>= fun y2 =>
 some y2
theorem t_laws_toGram {a0 : L3} {r : L3} (h : p_laws_toGram a0 = some r) : ∃ k, told Try.prog (cal_laws_toGram k) k lm_laws_toGram Try.f10 (arg_laws_toGram a0) = some (res_laws_toGram r) := by
  unfold p_laws_toGram at h
  obtain ⟨y2, h1, h⟩ := bd h
  have h1c := c_laws_toIntSSS h1
  obtain rfl := Option.some.inj h
  obtain ⟨k, hk⟩ : ∃ k, 0 ≤ k := ⟨_, Nat.le_refl _⟩
  refine ⟨k, ?_⟩
  simp (implicitDefEqProofs := false) [-getElem?_pos, -getElem?_neg, Try.f10, h1c]
theorem inj_laws_toGram : ∀ a b, arg_laws_toGram a = arg_laws_toGram b → a = b := by
  intro x y h; simp [arg_laws_toGram] at h; simp [Prod.ext_iff, h]
noncomputable def F_laws_toGram : Con := nilfix [[some 38]] (pcon arg_laws_toGram (fun a => p_laws_toGram a) res_laws_toGram)
theorem fn_laws_toGram : Fn Try.prog 10 F_laws_toGram := (Fn.pure cal_laws_toGram (fun k w0 h0 => ok_laws_toGram k w0 h0) mixed Try.func10 rfl rfl (by kernel_rfl) 1 (by decide) (fun _ => rfl) lm_laws_toGram (fun a b h => t_laws_toGram h)).nilfix _
theorem c_laws_toGram {a0 : L3} {r : L3} (h : p_laws_toGram a0 = some r) : F_laws_toGram [.agg [.sl false 38 (List.map (cL38 false) a0)]] = some (((false, [some 1]), [.sl true 38 (List.map (cL38 true) r)])) := pcon_at (arg := arg_laws_toGram) (p := fun a => p_laws_toGram a) (res := res_laws_toGram) (a := a0) (b := r) inj_laws_toGram h
def cal_spec_l1In (k : Nat) : Cal := calI (tabOf []) (inlOf [])
@[simp] theorem cal_spec_l1In_ap (k g : Nat) (vs : List TV) (mem : Mem) (ep : Nat) : cal_spec_l1In k g vs mem ep = calI (tabOf []) (inlOf []) g vs mem ep := rfl
theorem ok_spec_l1In (k : Nat) (w0 : World) (h0 : True) : CalOk Try.prog w0.heap.size w0 (cal_spec_l1In k) := by
  exact calI_ok (J := fun _ => True) stab_true (tabOf_ok _ (by simp [])) (inlOf_ok _ (by simp [])) h0
@[simp] def lm_spec_l1In : Nat → List Nat × Nat := fun b => ([], 0)
@[simp] def arg_spec_l1In (a : Int × Int × Int) : List TV := [.one (.lit (.int .i64 a.1)), .one (.lit (.int .i64 a.2.1)), .one (.lit (.int .i64 a.2.2))]
@[simp] def res_spec_l1In (r : Bool) : Sh × List V := ((false, [none]), [.lit (.bool r)])
def p_spec_l1In (a0 : Int) (a1 : Int) (a2 : Int) : Option Bool :=
 if a1 ≤ a0 then
  some (decide (a0 ≤ a2))
 else
  some false
theorem t_spec_l1In {a0 : Int} {a1 : Int} {a2 : Int} {r : Bool} (h : p_spec_l1In a0 a1 a2 = some r) : ∃ k, told Try.prog (cal_spec_l1In k) k lm_spec_l1In Try.f30 (arg_spec_l1In (a0, a1, a2)) = some (res_spec_l1In r) := by
  unfold p_spec_l1In at h
  rcases ifc h with ⟨h1, h⟩ | ⟨h1, h⟩
  · obtain rfl := Option.some.inj h
    obtain ⟨k, hk⟩ : ∃ k, 0 ≤ k := ⟨_, Nat.le_refl _⟩
    refine ⟨k, ?_⟩
    simp (implicitDefEqProofs := false) [-getElem?_pos, -getElem?_neg, Try.f30, h1]
  obtain rfl := Option.some.inj h
  obtain ⟨k, hk⟩ : ∃ k, 0 ≤ k := ⟨_, Nat.le_refl _⟩
  refine ⟨k, ?_⟩
  simp (implicitDefEqProofs := false) [-getElem?_pos, -getElem?_neg, Try.f30, h1]
theorem inj_spec_l1In : ∀ a b, arg_spec_l1In a = arg_spec_l1In b → a = b := by
  rintro ⟨x0, x1, x2⟩ ⟨y0, y1, y2⟩ h; simp [arg_spec_l1In] at h; simp [Prod.ext_iff, h]
noncomputable def F_spec_l1In : Con := nilfix [] (pcon arg_spec_l1In (fun a => p_spec_l1In a.1 a.2.1 a.2.2) res_spec_l1In)
theorem fn_spec_l1In : Fn Try.prog 30 F_spec_l1In := (Fn.pure cal_spec_l1In (fun k w0 h0 => ok_spec_l1In k w0 h0) mixed Try.func30 rfl rfl (by kernel_rfl) 3 (by decide) (fun _ => rfl) lm_spec_l1In (fun a b h => t_spec_l1In h)).nilfix _
theorem c_spec_l1In {a0 : Int} {a1 : Int} {a2 : Int} {r : Bool} (h : p_spec_l1In a0 a1 a2 = some r) : F_spec_l1In [.one (.lit (.int .i64 a0)), .one (.lit (.int .i64 a1)), .one (.lit (.int .i64 a2))] = some (((false, [none]), [.lit (.bool r)])) := pcon_at (arg := arg_spec_l1In) (p := fun a => p_spec_l1In a.1 a.2.1 a.2.2) (res := res_spec_l1In) (a := (a0, a1, a2)) (b := r) inj_spec_l1In h
noncomputable def cal_spec_GramOk (k : Nat) : Cal := calI (tabOf [(30, F_spec_l1In)]) (inlOf [])
@[simp] theorem cal_spec_GramOk_ap (k g : Nat) (vs : List TV) (mem : Mem) (ep : Nat) : cal_spec_GramOk k g vs mem ep = calI (tabOf [(30, F_spec_l1In)]) (inlOf []) g vs mem ep := rfl
theorem ok_spec_GramOk (k : Nat) (w0 : World) (h0 : True) : CalOk Try.prog w0.heap.size w0 (cal_spec_GramOk k) := by
  exact calI_ok (J := fun _ => True) stab_true (tabOf_ok _ (by simp [fn_spec_l1In])) (inlOf_ok _ (by simp [])) h0
@[simp] def lm_spec_GramOk : Nat → List Nat × Nat := fun b => if b = 2 then ([1, 3, 4, 5], 1) else if b = 2000002 then ([], 8888888) else if b = 3000002 then ([1, 3, 4], 1) else if b = 0 then ([1, 3, 4], 1) else if b = 2000000 then ([], 8888888) else if b = 3000000 then ([], 1) else if b = 4 then ([1, 3, 4, 5, 6, 7], 1) else if b = 2000004 then ([], 8888888) else if b = 3000004 then ([1, 3, 4, 5], 1) else ([], 0)
@[simp] def arg_spec_GramOk (a : L3) : List TV := [.agg [.sl false 38 (List.map (cL38 false) a)]]
@[simp] def res_spec_GramOk (r : Bool) : Sh × List V := ((false, [none]), [.lit (.bool r)])
def p_spec_GramOk_L4 (a0 : L3) (x4b0 : Int) (x5b2 : Int) (y218 : LI) (x7b4 : Int) : Option (Bool ⊕ Unit) :=
 if x7b4 < (y218.length : Int) then
  if 0 ≤ x7b4 then
   y218[x7b4.toNat]? >>= fun y242 =>
   p_spec_l1In y242 0 25 >>= fun y245 =>
   if y245 then
    p_spec_GramOk_L4 a0 x4b0 x5b2 y218 (IntKind.wrap .i64 (x7b4 + 1))
   else
    p_spec_l1In y242 100 (IntKind.wrap .i64 ((IntKind.wrap .i64 (100 + (a0.length : Int))) - 1)) >>= fun y248 =>
    if y248 then
     p_spec_GramOk_L4 a0 x4b0 x5b2 y218 (IntKind.wrap .i64 (x7b4 + 1))
    else
     some (.inl false)
  else none
 else
  some (.inr ())
partial_fixpoint
@[simp] noncomputable def L_spec_GramOk_L4 : Code := nav [1, 1, 1, 0, 1, 0, 0, 1, 0, 0, 1, 1, 0, 0, 1, 0, 0, 1, 1, 1, 0, 0] (bodyOf Try.f48)
@[simp] def T_spec_GramOk_L4 (a0 : L3) (x4b0 : Int) (x5b2 : Int) (y218 : LI) (x7b4 : Int) (st : Nat → Nat) : St := ⟨[(1, .one (.bp 1 (st 1) 0)), (3, .one (.lit (.int .i64 (a0.length : Int)))), (4, .one (.lit (.int .i64 x4b0))), (5, .one (.lit (.int .i64 x5b2))), (6, .one (.sl false 3 (List.map cI y218))), (7, .one (.lit (.int .i64 x7b4)))], [none, some (.box (st 1) [.sl false 38 (List.map (cL38 false) a0)])], (st 0)⟩
@[simp] def U_spec_GramOk_L4 (a0 : L3) (x4b0 : Int) (x5b2 : Int) (y218 : LI) (o : Unit) (st : Nat → Nat) : St := ⟨[(1, .one (.bp 1 (st 1) 0)), (3, .one (.lit (.int .i64 (a0.length : Int)))), (4, .one (.lit (.int .i64 x4b0))), (5, .one (.lit (.int .i64 x5b2)))], [none, some (.box (st 1) [.sl false 38 (List.map (cL38 false) a0)])], (st 0)⟩
abbrev Q_spec_GramOk_L4 (a0 : L3) (x4b0 : Int) (x5b2 : Int) (y218 : LI) (x7b4 : Int) (o : Bool ⊕ Unit) : Prop := ∀ st : Nat → Nat, LoopT Try.prog cal_spec_GramOk 1 lm_spec_GramOk 4 L_spec_GramOk_L4 (tellS Try.prog lm_spec_GramOk [.tmp 2]) res_spec_GramOk (U_spec_GramOk_L4 a0 x4b0 x5b2 y218) (T_spec_GramOk_L4 a0 x4b0 x5b2 y218 x7b4 st) o
theorem l_spec_GramOk_L4 {a0 : L3} {x4b0 : Int} {x5b2 : Int} {y218 : LI} {x7b4 : Int} {o : Bool ⊕ Unit} (h : p_spec_GramOk_L4 a0 x4b0 x5b2 y218 x7b4 = some o) : Q_spec_GramOk_L4 a0 x4b0 x5b2 y218 x7b4 o := by
  refine p_spec_GramOk_L4.partial_correctness a0 x4b0 x5b2 y218 (motive := fun x7b4 o => Q_spec_GramOk_L4 a0 x4b0 x5b2 y218 x7b4 o) ?_ x7b4 o h
  clear h o x7b4
  intro p' ih x7b4 r h st
  rcases ifc h with ⟨h240, h⟩ | ⟨h240, h⟩
  · obtain ⟨h241, h⟩ := ifg h
    obtain ⟨y242, h243, h⟩ := bd h
    obtain ⟨y245, h244, h⟩ := bd h
    have h244c := c_spec_l1In h244
    rcases ifb h with ⟨h246, h⟩ | ⟨h246, h⟩
    · exact LoopT.step 0 (fun k hk => by simp (implicitDefEqProofs := false) [-getElem?_pos, -getElem?_neg, Try.f48, h240, h241, h243, h244c, h246]) (ih _ _ h (sl [((st 0) + 1), (st 1)]))
    obtain ⟨y248, h247, h⟩ := bd h
    have h247c := c_spec_l1In h247
    try simp (implicitDefEqProofs := false) [-getElem?_pos, -getElem?_neg] at h247c
    rcases ifb h with ⟨h249, h⟩ | ⟨h249, h⟩
    · exact LoopT.step 0 (fun k hk => by simp (implicitDefEqProofs := false) [-getElem?_pos, -getElem?_neg, Try.f48, h240, h241, h243, h244c, h246, h247c, h249]) (ih _ _ h (sl [((st 0) + 2), (st 1)]))
    obtain rfl := Option.some.inj h
    exact LoopT.ret 0 (fun k hk => by simp (implicitDefEqProofs := false) [-getElem?_pos, -getElem?_neg, Try.f48, h240, h241, h243, h244c, h246, h247c, h249])
  obtain rfl := Option.some.inj h
  exact LoopT.exit (sl [(st 0), (st 1)]) 0 (fun k hk => by simp (implicitDefEqProofs := false) [-getElem?_pos, -getElem?_neg, Try.f48, h240])
def p_spec_GramOk_L2 (a0 : L3) (x4b0 : Int) (x5b2 : Int) : Option (Bool ⊕ Unit) :=
 if 0 ≤ x4b0 then
  a0[x4b0.toNat]? >>= fun y214 =>
  if x5b2 < (y214.length : Int) then
   if 0 ≤ x5b2 then
    y214[x5b2.toNat]? >>= fun y218 =>
    if 8 < (y218.length : Int) then
     some (.inl false)
    else
     p_spec_GramOk_L4 a0 x4b0 x5b2 y218 0 >>= fun o251 => match o251 with
     | .inl o251 =>
      some (.inl o251)
     | .inr o251 =>
      p_spec_GramOk_L2 a0 x4b0 (IntKind.wrap .i64 (x5b2 + 1))
   else none
  else
   some (.inr ())
 else none
partial_fixpoint
@[simp] noncomputable def L_spec_GramOk_L2 : Code := nav [1, 1, 1, 0, 1, 0, 0, 1, 0, 0, 1, 1, 0, 0] (bodyOf Try.f48)
@[simp] def T_spec_GramOk_L2 (a0 : L3) (x4b0 : Int) (x5b2 : Int) (st : Nat → Nat) : St := ⟨[(1, .one (.bp 1 (st 1) 0)), (3, .one (.lit (.int .i64 (a0.length : Int)))), (4, .one (.lit (.int .i64 x4b0))), (5, .one (.lit (.int .i64 x5b2)))], [none, some (.box (st 1) [.sl false 38 (List.map (cL38 false) a0)])], (st 0)⟩
@[simp] def U_spec_GramOk_L2 (a0 : L3) (x4b0 : Int) (o : Unit) (st : Nat → Nat) : St := ⟨[(1, .one (.bp 1 (st 1) 0)), (3, .one (.lit (.int .i64 (a0.length : Int)))), (4, .one (.lit (.int .i64 x4b0)))], [none, some (.box (st 1) [.sl false 38 (List.map (cL38 false) a0)])], (st 0)⟩
abbrev Q_spec_GramOk_L2 (a0 : L3) (x4b0 : Int) (x5b2 : Int) (o : Bool ⊕ Unit) : Prop := ∀ st : Nat → Nat, LoopT Try.prog cal_spec_GramOk 1 lm_spec_GramOk 2 L_spec_GramOk_L2 (tellS Try.prog lm_spec_GramOk [.tmp 2]) res_spec_GramOk (U_spec_GramOk_L2 a0 x4b0) (T_spec_GramOk_L2 a0 x4b0 x5b2 st) o
theorem l_spec_GramOk_L2 {a0 : L3} {x4b0 : Int} {x5b2 : Int} {o : Bool ⊕ Unit} (h : p_spec_GramOk_L2 a0 x4b0 x5b2 = some o) : Q_spec_GramOk_L2 a0 x4b0 x5b2 o := by
  refine p_spec_GramOk_L2.partial_correctness a0 x4b0 (motive := fun x5b2 o => Q_spec_GramOk_L2 a0 x4b0 x5b2 o) ?_ x5b2 o h
  clear h o x5b2
  intro p' ih x5b2 r h st
  obtain ⟨h213, h⟩ := ifg h
  obtain ⟨y214, h215, h⟩ := bd h
  rcases ifc h with ⟨h216, h⟩ | ⟨h216, h⟩
  · obtain ⟨h217, h⟩ := ifg h
    obtain ⟨y218, h219, h⟩ := bd h
    rcases ifc h with ⟨h220, h⟩ | ⟨h220, h⟩
    · obtain rfl := Option.some.inj h
      exact LoopT.ret 0 (fun k hk => by simp (implicitDefEqProofs := false) [-getElem?_pos, -getElem?_neg, Try.f48, h213, h215, h216, h217, h219, h220])
    obtain ⟨o251, h250, h⟩ := bd h
    have qK252 := l_spec_GramOk_L4 h250 (sl [(st 0), (st 1)])
    rcases o251 with o251 | o251
    · obtain ⟨K252, qK252⟩ := qK252
      obtain rfl := Option.some.inj h
      refine LoopT.ret K252 (fun k hk => ?_)
      obtain ⟨S_K252, jK252, iK252⟩ := qK252 k (by omega) k (by omega)
      simp (implicitDefEqProofs := false) [-getElem?_pos, -getElem?_neg, Try.f48, h213, h215, h216, h217, h219, h220] at jK252
      simp (implicitDefEqProofs := false) [-getElem?_pos, -getElem?_neg, Try.f48, h213, h215, h216, h217, h219, h220, iK252, jK252]
    obtain ⟨s253, K252, qK252⟩ := qK252
    refine LoopT.step K252 (fun k hk => ?_) (ih _ _ h (sl [(s253 0), (s253 1)]))
    have jK252 := qK252 k (by omega) k (by omega)
    simp (implicitDefEqProofs := false) [-getElem?_pos, -getElem?_neg, Try.f48, h213, h215, h216, h217, h219, h220] at jK252
    simp (implicitDefEqProofs := false) [-getElem?_pos, -getElem?_neg, Try.f48, h213, h215, h216, h217, h219, h220, jK252]
  obtain rfl := Option.some.inj h
  exact LoopT.exit (sl [(st 0), (st 1)]) 0 (fun k hk => by simp (implicitDefEqProofs := false) [-getElem?_pos, -getElem?_neg, Try.f48, h213, h215, h216])
def p_spec_GramOk_L0 (a0 : L3) (x4b0 : Int) : Option (Bool ⊕ Unit) :=
 if x4b0 < (a0.length : Int) then
  if 0 ≤ x4b0 then
   a0[x4b0.toNat]? >>= fun y147 =>
   p_spec_l1In (y147.length : Int) 1 8 >>= fun y150 =>
   if y150 then
    p_spec_GramOk_L2 a0 x4b0 0 >>= fun o255 => match o255 with
    | .inl o255 =>
     some (.inl o255)
    | .inr o255 =>
     p_spec_GramOk_L0 a0 (IntKind.wrap .i64 (x4b0 + 1))
   else
    some (.inl false)
  else none
 else
  some (.inr ())
partial_fixpoint
@[simp] noncomputable def L_spec_GramOk_L0 : Code := nav [1, 1, 1, 0, 1, 0, 0] (bodyOf Try.f48)
@[simp] def T_spec_GramOk_L0 (a0 : L3) (x4b0 : Int) (st : Nat → Nat) : St := ⟨[(1, .one (.bp 1 (st 1) 0)), (3, .one (.lit (.int .i64 (a0.length : Int)))), (4, .one (.lit (.int .i64 x4b0)))], [none, some (.box (st 1) [.sl false 38 (List.map (cL38 false) a0)])], (st 0)⟩
@[simp] def U_spec_GramOk_L0 (a0 : L3) (o : Unit) (st : Nat → Nat) : St := ⟨[], [none, some (.box (st 1) [.sl false 38 (List.map (cL38 false) a0)])], (st 0)⟩
abbrev Q_spec_GramOk_L0 (a0 : L3) (x4b0 : Int) (o : Bool ⊕ Unit) : Prop := ∀ st : Nat → Nat, LoopT Try.prog cal_spec_GramOk 1 lm_spec_GramOk 0 L_spec_GramOk_L0 (tellS Try.prog lm_spec_GramOk [.tmp 2]) res_spec_GramOk (U_spec_GramOk_L0 a0) (T_spec_GramOk_L0 a0 x4b0 st) o
theorem l_spec_GramOk_L0 {a0 : L3} {x4b0 : Int} {o : Bool ⊕ Unit} (h : p_spec_GramOk_L0 a0 x4b0 = some o) : Q_spec_GramOk_L0 a0 x4b0 o := by
  refine p_spec_GramOk_L0.partial_correctness a0 (motive := fun x4b0 o => Q_spec_GramOk_L0 a0 x4b0 o) ?_ x4b0 o h
  clear h o x4b0
  intro p' ih x4b0 r h st
  rcases ifc h with ⟨h145, h⟩ | ⟨h145, h⟩
  · obtain ⟨h146, h⟩ := ifg h
    obtain ⟨y147, h148, h⟩ := bd h
    obtain ⟨y150, h149, h⟩ := bd h
    have h149c := c_spec_l1In h149
    try simp (implicitDefEqProofs := false) [-getElem?_pos, -getElem?_neg] at h149c
    rcases ifb h with ⟨h151, h⟩ | ⟨h151, h⟩
    · obtain ⟨o255, h254, h⟩ := bd h
      have qK256 := l_spec_GramOk_L2 h254 (sl [((st 0) + 1), (st 1)])
      rcases o255 with o255 | o255
      · obtain ⟨K256, qK256⟩ := qK256
        obtain rfl := Option.some.inj h
        refine LoopT.ret K256 (fun k hk => ?_)
        obtain ⟨S_K256, jK256, iK256⟩ := qK256 k (by omega) k (by omega)
        simp (implicitDefEqProofs := false) [-getElem?_pos, -getElem?_neg, Try.f48, h145, h146, h148, h149c, h151] at jK256
        simp (implicitDefEqProofs := false) [-getElem?_pos, -getElem?_neg, Try.f48, h145, h146, h148, h149c, h151, iK256, jK256]
      obtain ⟨s257, K256, qK256⟩ := qK256
      refine LoopT.step K256 (fun k hk => ?_) (ih _ _ h (sl [(s257 0), (s257 1)]))
      have jK256 := qK256 k (by omega) k (by omega)
      simp (implicitDefEqProofs := false) [-getElem?_pos, -getElem?_neg, Try.f48, h145, h146, h148, h149c, h151] at jK256
      simp (implicitDefEqProofs := false) [-getElem?_pos, -getElem?_neg, Try.f48, h145, h146, h148, h149c, h151, jK256]
    obtain rfl := Option.some.inj h
    exact LoopT.ret 0 (fun k hk => by simp (implicitDefEqProofs := false) [-getElem?_pos, -getElem?_neg, Try.f48, h145, h146, h148, h149c, h151])
  obtain rfl := Option.some.inj h
  exact LoopT.exit (sl [(st 0), (st 1)]) 0 (fun k hk => by simp (implicitDefEqProofs := false) [-getElem?_pos, -getElem?_neg, Try.f48, h145])
def p_spec_GramOk (a0 : L3) : Option Bool :=
 p_spec_l1In (a0.length : Int) 1 20 >>= fun y2 =>
 if y2 then
  p_spec_GramOk_L0 a0 0 >>= fun o259 => match o259 with
  | .inl o259 =>
   some o259
  | .inr o259 =>
   some true
 else
  some false
theorem t_spec_GramOk {a0 : L3} {r : Bool} (h : p_spec_GramOk a0 = some r) : ∃ k, told Try.prog (cal_spec_GramOk k) k lm_spec_GramOk Try.f48 (arg_spec_GramOk a0) = some (res_spec_GramOk r) := by
  unfold p_spec_GramOk at h
  obtain ⟨y2, h1, h⟩ := bd h
  have h1c := c_spec_l1In h1
  try simp (implicitDefEqProofs := false) [-getElem?_pos, -getElem?_neg] at h1c
  rcases ifb h with ⟨h3, h⟩ | ⟨h3, h⟩
  · obtain ⟨o259, h258, h⟩ := bd h
    have qK260 := l_spec_GramOk_L0 h258 (sl [3, 1])
    rcases o259 with o259 | o259
    · obtain ⟨K260, qK260⟩ := qK260
      obtain rfl := Option.some.inj h
      obtain ⟨k, hk⟩ : ∃ k, K260 ≤ k := ⟨_, Nat.le_refl _⟩
      obtain ⟨S_K260, jK260, iK260⟩ := qK260 k (by omega) k (by omega)
      simp (implicitDefEqProofs := false) [-getElem?_pos, -getElem?_neg, Try.f48, h1c, h3] at jK260
      refine ⟨k, ?_⟩
      simp (implicitDefEqProofs := false) [-getElem?_pos, -getElem?_neg, Try.f48, h1c, h3, iK260, jK260]
    obtain ⟨s261, K260, qK260⟩ := qK260
    obtain rfl := Option.some.inj h
    obtain ⟨k, hk⟩ : ∃ k, K260 ≤ k := ⟨_, Nat.le_refl _⟩
    have jK260 := qK260 k (by omega) k (by omega)
    simp (implicitDefEqProofs := false) [-getElem?_pos, -getElem?_neg, Try.f48, h1c, h3] at jK260
    refine ⟨k, ?_⟩
    simp (implicitDefEqProofs := false) [-getElem?_pos, -getElem?_neg, Try.f48, h1c, h3, jK260]
  obtain rfl := Option.some.inj h
  obtain ⟨k, hk⟩ : ∃ k, 0 ≤ k := ⟨_, Nat.le_refl _⟩
  refine ⟨k, ?_⟩
  simp (implicitDefEqProofs := false) [-getElem?_pos, -getElem?_neg, Try.f48, h1c, h3]
theorem inj_spec_GramOk : ∀ a b, arg_spec_GramOk a = arg_spec_GramOk b → a = b := by
  intro x y h; simp [arg_spec_GramOk] at h; simp [Prod.ext_iff, h]
noncomputable def F_spec_GramOk : Con := nilfix [[some 38]] (pcon arg_spec_GramOk (fun a => p_spec_GramOk a) res_spec_GramOk)
theorem fn_spec_GramOk : Fn Try.prog 48 F_spec_GramOk := (Fn.pure cal_spec_GramOk (fun k w0 h0 => ok_spec_GramOk k w0 h0) mixed Try.func48 rfl rfl (by kernel_rfl) 1 (by decide) (fun _ => rfl) lm_spec_GramOk (fun a b h => t_spec_GramOk h)).nilfix _
theorem c_spec_GramOk {a0 : L3} {r : Bool} (h : p_spec_GramOk a0 = some r) : F_spec_GramOk [.agg [.sl false 38 (List.map (cL38 false) a0)]] = some (((false, [none]), [.lit (.bool r)])) := pcon_at (arg := arg_spec_GramOk) (p := fun a => p_spec_GramOk a) (res := res_spec_GramOk) (a := a0) (b := r) inj_spec_GramOk h
def cal_spec_SetHas (k : Nat) : Cal := calI (tabOf []) (inlOf [])
@[simp] theorem cal_spec_SetHas_ap (k g : Nat) (vs : List TV) (mem : Mem) (ep : Nat) : cal_spec_SetHas k g vs mem ep = calI (tabOf []) (inlOf []) g vs mem ep := rfl
theorem ok_spec_SetHas (k : Nat) (w0 : World) (h0 : True) : CalOk Try.prog w0.heap.size w0 (cal_spec_SetHas k) := by
  exact calI_ok (J := fun _ => True) stab_true (tabOf_ok _ (by simp [])) (inlOf_ok _ (by simp [])) h0
@[simp] def lm_spec_SetHas : Nat → List Nat × Nat := fun b => if b = 0 then ([0, 1, 5], 0) else if b = 2000000 then ([], 8888888) else if b = 3000000 then ([], 0) else ([], 0)
@[simp] def arg_spec_SetHas (a : LI × Int) : List TV := [.one (.sl false 3 (List.map cI a.1)), .one (.lit (.int .i64 a.2))]
@[simp] def res_spec_SetHas (r : Bool) : Sh × List V := ((false, [none]), [.lit (.bool r)])
def p_spec_SetHas_L0 (a0 : LI) (a1 : Int) (x5b0 : Int) : Option (Bool ⊕ Unit) :=
 if x5b0 < (a0.length : Int) then
  if 0 ≤ x5b0 then
   a0[x5b0.toNat]? >>= fun y12 =>
   if y12 = a1 then
    some (.inl true)
   else
    p_spec_SetHas_L0 a0 a1 (IntKind.wrap .i64 (x5b0 + 1))
  else none
 else
  some (.inr ())
partial_fixpoint
@[simp] noncomputable def L_spec_SetHas_L0 : Code := nav [1, 0, 1, 0, 0] (bodyOf Try.f50)
@[simp] def T_spec_SetHas_L0 (a0 : LI) (a1 : Int) (x5b0 : Int) (st : Nat → Nat) : St := ⟨[(0, .one (.sl false 3 (List.map cI a0))), (1, .one (.lit (.int .i64 a1))), (5, .one (.lit (.int .i64 x5b0)))], [none], (st 0)⟩
@[simp] def U_spec_SetHas_L0 (a0 : LI) (a1 : Int) (o : Unit) (st : Nat → Nat) : St := ⟨[], [none], (st 0)⟩
abbrev Q_spec_SetHas_L0 (a0 : LI) (a1 : Int) (x5b0 : Int) (o : Bool ⊕ Unit) : Prop := ∀ st : Nat → Nat, LoopT Try.prog cal_spec_SetHas 1 lm_spec_SetHas 0 L_spec_SetHas_L0 (tellS Try.prog lm_spec_SetHas [.tmp 4]) res_spec_SetHas (U_spec_SetHas_L0 a0 a1) (T_spec_SetHas_L0 a0 a1 x5b0 st) o
theorem l_spec_SetHas_L0 {a0 : LI} {a1 : Int} {x5b0 : Int} {o : Bool ⊕ Unit} (h : p_spec_SetHas_L0 a0 a1 x5b0 = some o) : Q_spec_SetHas_L0 a0 a1 x5b0 o := by
  refine p_spec_SetHas_L0.partial_correctness a0 a1 (motive := fun x5b0 o => Q_spec_SetHas_L0 a0 a1 x5b0 o) ?_ x5b0 o h
  clear h o x5b0
  intro p' ih x5b0 r h st
  rcases ifc h with ⟨h10, h⟩ | ⟨h10, h⟩
  · obtain ⟨h11, h⟩ := ifg h
    obtain ⟨y12, h13, h⟩ := bd h
    rcases ifc h with ⟨h14, h⟩ | ⟨h14, h⟩
    · obtain rfl := Option.some.inj h
      exact LoopT.ret 0 (fun k hk => by simp (implicitDefEqProofs := false) [-getElem?_pos, -getElem?_neg, Try.f50, h10, h11, h13, (eq_true h14)])
    exact LoopT.step 0 (fun k hk => by simp (implicitDefEqProofs := false) [-getElem?_pos, -getElem?_neg, Try.f50, h10, h11, h13, h14]) (ih _ _ h (sl [(st 0)]))
  obtain rfl := Option.some.inj h
  exact LoopT.exit (sl [(st 0)]) 0 (fun k hk => by simp (implicitDefEqProofs := false) [-getElem?_pos, -getElem?_neg, Try.f50, h10])
def p_spec_SetHas (a0 : LI) (a1 : Int) : Option Bool :=
 p_spec_SetHas_L0 a0 a1 0 >>= fun o16 => match o16 with
 | .inl o16 =>
  some o16
 | .inr o16 =>
  some false
theorem t_spec_SetHas {a0 : LI} {a1 : Int} {r : Bool} (h : p_spec_SetHas a0 a1 = some r) : ∃ k, told Try.prog (cal_spec_SetHas k) k lm_spec_SetHas Try.f50 (arg_spec_SetHas (a0, a1)) = some (res_spec_SetHas r) := by
  unfold p_spec_SetHas at h
  obtain ⟨o16, h15, h⟩ := bd h
  have qK17 := l_spec_SetHas_L0 h15 (sl [1])
  rcases o16 with o16 | o16
  · obtain ⟨K17, qK17⟩ := qK17
    obtain rfl := Option.some.inj h
    obtain ⟨k, hk⟩ : ∃ k, K17 ≤ k := ⟨_, Nat.le_refl _⟩
    obtain ⟨S_K17, jK17, iK17⟩ := qK17 k (by omega) k (by omega)
    simp (implicitDefEqProofs := false) [-getElem?_pos, -getElem?_neg, Try.f50] at jK17
    refine ⟨k, ?_⟩
    simp (implicitDefEqProofs := false) [-getElem?_pos, -getElem?_neg, Try.f50, iK17, jK17]
  obtain ⟨s18, K17, qK17⟩ := qK17
  obtain rfl := Option.some.inj h
  obtain ⟨k, hk⟩ : ∃ k, K17 ≤ k := ⟨_, Nat.le_refl _⟩
  have jK17 := qK17 k (by omega) k (by omega)
  simp (implicitDefEqProofs := false) [-getElem?_pos, -getElem?_neg, Try.f50] at jK17
  refine ⟨k, ?_⟩
  simp (implicitDefEqProofs := false) [-getElem?_pos, -getElem?_neg, Try.f50, jK17]
theorem inj_spec_SetHas : ∀ a b, arg_spec_SetHas a = arg_spec_SetHas b → a = b := by
  rintro ⟨x0, x1⟩ ⟨y0, y1⟩ h; simp [arg_spec_SetHas] at h; simp [Prod.ext_iff, h]
noncomputable def F_spec_SetHas : Con := nilfix [[some 3], [none]] (pcon arg_spec_SetHas (fun a => p_spec_SetHas a.1 a.2) res_spec_SetHas)
theorem fn_spec_SetHas : Fn Try.prog 50 F_spec_SetHas := (Fn.pure cal_spec_SetHas (fun k w0 h0 => ok_spec_SetHas k w0 h0) mixed Try.func50 rfl rfl (by kernel_rfl) 2 (by decide) (fun _ => rfl) lm_spec_SetHas (fun a b h => t_spec_SetHas h)).nilfix _
theorem c_spec_SetHas {a0 : LI} {a1 : Int} {r : Bool} (h : p_spec_SetHas a0 a1 = some r) : F_spec_SetHas [.one (.sl false 3 (List.map cI a0)), .one (.lit (.int .i64 a1))] = some (((false, [none]), [.lit (.bool r)])) := pcon_at (arg := arg_spec_SetHas) (p := fun a => p_spec_SetHas a.1 a.2) (res := res_spec_SetHas) (a := (a0, a1)) (b := r) inj_spec_SetHas h
noncomputable def cal_spec_l5All (k : Nat) : Cal := calI (tabOf [(50, F_spec_SetHas)]) (inlOf [])
@[simp] theorem cal_spec_l5All_ap (k g : Nat) (vs : List TV) (mem : Mem) (ep : Nat) : cal_spec_l5All k g vs mem ep = calI (tabOf [(50, F_spec_SetHas)]) (inlOf []) g vs mem ep := rfl
theorem ok_spec_l5All (k : Nat) (w0 : World) (h0 : True) : CalOk Try.prog w0.heap.size w0 (cal_spec_l5All k) := by
  exact calI_ok (J := fun _ => True) stab_true (tabOf_ok _ (by simp [fn_spec_SetHas])) (inlOf_ok _ (by simp [])) h0
@[simp] def lm_spec_l5All : Nat → List Nat × Nat := fun b => if b = 0 then ([0, 1, 5], 0) else if b = 2000000 then ([], 8888888) else if b = 3000000 then ([], 0) else ([], 0)
@[simp] def arg_spec_l5All (a : LI × LI) : List TV := [.one (.sl false 3 (List.map cI a.1)), .one (.sl false 3 (List.map cI a.2))]
@[simp] def res_spec_l5All (r : Bool) : Sh × List V := ((false, [none]), [.lit (.bool r)])
def p_spec_l5All_L0 (a0 : LI) (a1 : LI) (x5b0 : Int) : Option (Bool ⊕ Unit) :=
 if x5b0 < (a0.length : Int) then
  if 0 ≤ x5b0 then
   a0[x5b0.toNat]? >>= fun y18 =>
   if y18 < 100 then
    some (.inl false)
   else
    p_spec_SetHas a1 (IntKind.wrap .i64 (y18 - 100)) >>= fun y22 =>
    if y22 then
     p_spec_l5All_L0 a0 a1 (IntKind.wrap .i64 (x5b0 + 1))
    else
     some (.inl false)
  else none
 else
  some (.inr ())
partial_fixpoint
@[simp] noncomputable def L_spec_l5All_L0 : Code := nav [1, 0, 1, 0, 0] (bodyOf Try.f79)
@[simp] def T_spec_l5All_L0 (a0 : LI) (a1 : LI) (x5b0 : Int) (st : Nat → Nat) : St := ⟨[(0, .one (.sl false 3 (List.map cI a0))), (1, .one (.sl false 3 (List.map cI a1))), (5, .one (.lit (.int .i64 x5b0)))], [none], (st 0)⟩
@[simp] def U_spec_l5All_L0 (a0 : LI) (a1 : LI) (o : Unit) (st : Nat → Nat) : St := ⟨[], [none], (st 0)⟩
abbrev Q_spec_l5All_L0 (a0 : LI) (a1 : LI) (x5b0 : Int) (o : Bool ⊕ Unit) : Prop := ∀ st : Nat → Nat, LoopT Try.prog cal_spec_l5All 1 lm_spec_l5All 0 L_spec_l5All_L0 (tellS Try.prog lm_spec_l5All [.tmp 4]) res_spec_l5All (U_spec_l5All_L0 a0 a1) (T_spec_l5All_L0 a0 a1 x5b0 st) o
theorem l_spec_l5All_L0 {a0 : LI} {a1 : LI} {x5b0 : Int} {o : Bool ⊕ Unit} (h : p_spec_l5All_L0 a0 a1 x5b0 = some o) : Q_spec_l5All_L0 a0 a1 x5b0 o := by
  refine p_spec_l5All_L0.partial_correctness a0 a1 (motive := fun x5b0 o => Q_spec_l5All_L0 a0 a1 x5b0 o) ?_ x5b0 o h
  clear h o x5b0
  intro p' ih x5b0 r h st
  rcases ifc h with ⟨h16, h⟩ | ⟨h16, h⟩
  · obtain ⟨h17, h⟩ := ifg h
    obtain ⟨y18, h19, h⟩ := bd h
    rcases ifc h with ⟨h20, h⟩ | ⟨h20, h⟩
    · obtain rfl := Option.some.inj h
      exact LoopT.ret 0 (fun k hk => by simp (implicitDefEqProofs := false) [-getElem?_pos, -getElem?_neg, Try.f79, h16, h17, h19, h20])
    obtain ⟨y22, h21, h⟩ := bd h
    have h21c := c_spec_SetHas h21
    try simp (implicitDefEqProofs := false) [-getElem?_pos, -getElem?_neg] at h21c
    rcases ifb h with ⟨h23, h⟩ | ⟨h23, h⟩
    · exact LoopT.step 0 (fun k hk => by simp (implicitDefEqProofs := false) [-getElem?_pos, -getElem?_neg, Try.f79, h16, h17, h19, h20, h21c, h23]) (ih _ _ h (sl [((st 0) + 1)]))
    obtain rfl := Option.some.inj h
    exact LoopT.ret 0 (fun k hk => by simp (implicitDefEqProofs := false) [-getElem?_pos, -getElem?_neg, Try.f79, h16, h17, h19, h20, h21c, h23])
  obtain rfl := Option.some.inj h
  exact LoopT.exit (sl [(st 0)]) 0 (fun k hk => by simp (implicitDefEqProofs := false) [-getElem?_pos, -getElem?_neg, Try.f79, h16])
def p_spec_l5All (a0 : LI) (a1 : LI) : Option Bool :=
 p_spec_l5All_L0 a0 a1 0 >>= fun o25 => match o25 with
 | .inl o25 =>
  some o25
 | .inr o25 =>
  some true
theorem t_spec_l5All {a0 : LI} {a1 : LI} {r : Bool} (h : p_spec_l5All a0 a1 = some r) : ∃ k, told Try.prog (cal_spec_l5All k) k lm_spec_l5All Try.f79 (arg_spec_l5All (a0, a1)) = some (res_spec_l5All r) := by
  unfold p_spec_l5All at h
  obtain ⟨o25, h24, h⟩ := bd h
  have qK26 := l_spec_l5All_L0 h24 (sl [1])
  rcases o25 with o25 | o25
  · obtain ⟨K26, qK26⟩ := qK26
    obtain rfl := Option.some.inj h
    obtain ⟨k, hk⟩ : ∃ k, K26 ≤ k := ⟨_, Nat.le_refl _⟩
    obtain ⟨S_K26, jK26, iK26⟩ := qK26 k (by omega) k (by omega)
    simp (implicitDefEqProofs := false) [-getElem?_pos, -getElem?_neg, Try.f79] at jK26
    refine ⟨k, ?_⟩
    simp (implicitDefEqProofs := false) [-getElem?_pos, -getElem?_neg, Try.f79, iK26, jK26]
  obtain ⟨s27, K26, qK26⟩ := qK26
  obtain rfl := Option.some.inj h
  obtain ⟨k, hk⟩ : ∃ k, K26 ≤ k := ⟨_, Nat.le_refl _⟩
  have jK26 := qK26 k (by omega) k (by omega)
  simp (implicitDefEqProofs := false) [-getElem?_pos, -getElem?_neg, Try.f79] at jK26
  refine ⟨k, ?_⟩
  simp (implicitDefEqProofs := false) [-getElem?_pos, -getElem?_neg, Try.f79, jK26]
theorem inj_spec_l5All : ∀ a b, arg_spec_l5All a = arg_spec_l5All b → a = b := by
  rintro ⟨x0, x1⟩ ⟨y0, y1⟩ h; simp [arg_spec_l5All] at h; simp [Prod.ext_iff, h]
noncomputable def F_spec_l5All : Con := nilfix [[some 3], [some 3]] (pcon arg_spec_l5All (fun a => p_spec_l5All a.1 a.2) res_spec_l5All)
theorem fn_spec_l5All : Fn Try.prog 79 F_spec_l5All := (Fn.pure cal_spec_l5All (fun k w0 h0 => ok_spec_l5All k w0 h0) mixed Try.func79 rfl rfl (by kernel_rfl) 2 (by decide) (fun _ => rfl) lm_spec_l5All (fun a b h => t_spec_l5All h)).nilfix _
theorem c_spec_l5All {a0 : LI} {a1 : LI} {r : Bool} (h : p_spec_l5All a0 a1 = some r) : F_spec_l5All [.one (.sl false 3 (List.map cI a0)), .one (.sl false 3 (List.map cI a1))] = some (((false, [none]), [.lit (.bool r)])) := pcon_at (arg := arg_spec_l5All) (p := fun a => p_spec_l5All a.1 a.2) (res := res_spec_l5All) (a := (a0, a1)) (b := r) inj_spec_l5All h
noncomputable def cal_spec_SetAdd (k : Nat) : Cal := calI (tabOf [(50, F_spec_SetHas)]) (inlOf [])
@[simp] theorem cal_spec_SetAdd_ap (k g : Nat) (vs : List TV) (mem : Mem) (ep : Nat) : cal_spec_SetAdd k g vs mem ep = calI (tabOf [(50, F_spec_SetHas)]) (inlOf []) g vs mem ep := rfl
theorem ok_spec_SetAdd (k : Nat) (w0 : World) (h0 : True) : CalOk Try.prog w0.heap.size w0 (cal_spec_SetAdd k) := by
  exact calI_ok (J := fun _ => True) stab_true (tabOf_ok _ (by simp [fn_spec_SetHas])) (inlOf_ok _ (by simp [])) h0
@[simp] def lm_spec_SetAdd : Nat → List Nat × Nat := fun b => if b = 0 then ([0, 1, 5, 6], 0) else if b = 2000000 then ([], 8888888) else if b = 3000000 then ([0, 1, 5], 0) else ([], 0)
@[simp] def arg_spec_SetAdd (a : LI × Int) : List TV := [.one (.sl false 3 (List.map cI a.1)), .one (.lit (.int .i64 a.2))]
@[simp] def res_spec_SetAdd (r : LI) : Sh × List V := ((false, [none]), [.sl true 3 (List.map cI r)])
def p_spec_SetAdd_L0 (a0 : LI) (a1 : Int) (x5b0 : Int) (x6b0 : Int) : Option (Int) :=
 if 0 ≤ x6b0 then
  a0[x6b0.toNat]? >>= fun y14 =>
  if a1 < y14 then
   p_spec_SetAdd_L0 a0 a1 x6b0 (IntKind.wrap .i64 (x6b0 - 1))
  else
   p_spec_SetAdd_L0 a0 a1 x5b0 (IntKind.wrap .i64 (x6b0 - 1))
 else
  some x5b0
partial_fixpoint
@[simp] noncomputable def L_spec_SetAdd_L0 : Code := nav [1, 1, 1, 0, 1, 0, 0] (bodyOf Try.f57)
@[simp] def T_spec_SetAdd_L0 (a0 : LI) (a1 : Int) (x5b0 : Int) (x6b0 : Int) (st : Nat → Nat) : St := ⟨[(0, .one (.sl false 3 (List.map cI a0))), (1, .one (.lit (.int .i64 a1))), (5, .one (.lit (.int .i64 x5b0))), (6, .one (.lit (.int .i64 x6b0)))], [none], (st 0)⟩
@[simp] def U_spec_SetAdd_L0 (a0 : LI) (a1 : Int) (o : Int) (st : Nat → Nat) : St := ⟨[(0, .one (.sl false 3 (List.map cI a0))), (1, .one (.lit (.int .i64 a1))), (5, .one (.lit (.int .i64 o)))], [none], (st 0)⟩
abbrev Q_spec_SetAdd_L0 (a0 : LI) (a1 : Int) (x5b0 : Int) (x6b0 : Int) (o : Int) : Prop := ∀ st : Nat → Nat, LoopG Try.prog cal_spec_SetAdd 1 lm_spec_SetAdd 0 L_spec_SetAdd_L0 (U_spec_SetAdd_L0 a0 a1) (T_spec_SetAdd_L0 a0 a1 x5b0 x6b0 st) o
theorem l_spec_SetAdd_L0 {a0 : LI} {a1 : Int} {x5b0 : Int} {x6b0 : Int} {o : Int} (h : p_spec_SetAdd_L0 a0 a1 x5b0 x6b0 = some o) : Q_spec_SetAdd_L0 a0 a1 x5b0 x6b0 o := by
  refine p_spec_SetAdd_L0.partial_correctness a0 a1 (motive := fun x5b0 x6b0 o => Q_spec_SetAdd_L0 a0 a1 x5b0 x6b0 o) ?_ x5b0 x6b0 o h
  clear h o x5b0 x6b0
  intro p' ih x5b0 x6b0 r h st
  rcases ifc h with ⟨h13, h⟩ | ⟨h13, h⟩
  · obtain ⟨y14, h15, h⟩ := bd h
    rcases ifc h with ⟨h16, h⟩ | ⟨h16, h⟩
    · exact LoopG.step 0 (fun k hk => by simp (implicitDefEqProofs := false) [-getElem?_pos, -getElem?_neg, Try.f57, h13, h15, h16]) (ih _ _ _ h (sl [(st 0)]))
    exact LoopG.step 0 (fun k hk => by simp (implicitDefEqProofs := false) [-getElem?_pos, -getElem?_neg, Try.f57, h13, h15, h16]) (ih _ _ _ h (sl [(st 0)]))
  obtain rfl := Option.some.inj h
  exact LoopG.exit (sl [(st 0)]) 0 (fun k hk => by simp (implicitDefEqProofs := false) [-getElem?_pos, -getElem?_neg, Try.f57, h13])
def p_spec_SetAdd (a0 : LI) (a1 : Int) : Option LI :=
 p_spec_SetHas a0 a1 >>= fun y2 =>
 if y2 then
  if a0.length * 8 ≤ 140737488355328 then
   some a0
  else none
 else
  p_spec_SetAdd_L0 a0 a1 (a0.length : Int) (IntKind.wrap .i64 ((a0.length : Int) - 1)) >>= fun o18 =>
  if 0 ≤ o18 then
   if o18.toNat ≤ a0.length then
    some (List.take o18.toNat a0) >>= fun l23 =>
    if l23.length * 8 ≤ 140737488355328 then
     if (l23.length + 1) * 8 ≤ 140737488355328 then
      some (l23 ++ [a1]) >>= fun l27 =>
      some (List.drop o18.toNat a0) >>= fun l29 =>
      if (l27.length + l29.length) * 8 ≤ 140737488355328 then
       some (l27 ++ l29) >>= fun l32 =>
       some l32
      else none
     else none
    else none
   else none
  else none
theorem t_spec_SetAdd {a0 : LI} {a1 : Int} {r : LI} (h : p_spec_SetAdd a0 a1 = some r) : ∃ k, told Try.prog (cal_spec_SetAdd k) k lm_spec_SetAdd Try.f57 (arg_spec_SetAdd (a0, a1)) = some (res_spec_SetAdd r) := by
  unfold p_spec_SetAdd at h
  obtain ⟨y2, h1, h⟩ := bd h
  have h1c := c_spec_SetHas h1
  rcases ifb h with ⟨h3, h⟩ | ⟨h3, h⟩
  · obtain ⟨h4, h⟩ := ifg h
    obtain rfl := Option.some.inj h
    obtain ⟨k, hk⟩ : ∃ k, 0 ≤ k := ⟨_, Nat.le_refl _⟩
    refine ⟨k, ?_⟩
    simp (implicitDefEqProofs := false) [-getElem?_pos, -getElem?_neg, Try.f57, h1c, h3, h4]
  obtain ⟨o18, h17, h⟩ := bd h
  have qK19 := l_spec_SetAdd_L0 h17 (sl [2])
  obtain ⟨s20, K19, qK19⟩ := qK19
  obtain ⟨h21, h⟩ := ifg h
  obtain ⟨h22, h⟩ := ifg h
  have h22i : o18 ≤ (a0.length : Int) := by omega
  obtain ⟨l23, h24, h⟩ := bd h
  have h24r : List.take o18.toNat (List.map cI a0) = List.map cI l23 := by rw [← Option.some.inj h24]; simp
  obtain ⟨h25, h⟩ := ifg h
  obtain ⟨h26, h⟩ := ifg h
  obtain ⟨l27, h28, h⟩ := bd h
  have h28r : List.map cI l23 ++ [[.lit (.int .i64 a1)]] = List.map cI l27 := by rw [← Option.some.inj h28]; simp
  obtain ⟨l29, h30, h⟩ := bd h
  have h30r : List.drop o18.toNat (List.map cI a0) = List.map cI l29 := by rw [← Option.some.inj h30]; simp
  obtain ⟨h31, h⟩ := ifg h
  obtain ⟨l32, h33, h⟩ := bd h
  have h33r : List.map cI l27 ++ List.map cI l29 = List.map cI l32 := by rw [← Option.some.inj h33]; simp
  obtain rfl := Option.some.inj h
  obtain ⟨k, hk⟩ : ∃ k, K19 ≤ k := ⟨_, Nat.le_refl _⟩
  have jK19 := qK19 k (by omega) k (by omega)
  simp (implicitDefEqProofs := false) [-getElem?_pos, -getElem?_neg, Try.f57, h1c, h3, h21, h22, h22i, h24r, h25, h26, h28r, h30r, h31, h33r] at jK19
  refine ⟨k, ?_⟩
  simp (implicitDefEqProofs := false) [-getElem?_pos, -getElem?_neg, Try.f57, h1c, h3, h21, h22, h22i, h24r, h25, h26, h28r, h30r, h31, h33r, jK19]
theorem inj_spec_SetAdd : ∀ a b, arg_spec_SetAdd a = arg_spec_SetAdd b → a = b := by
  rintro ⟨x0, x1⟩ ⟨y0, y1⟩ h; simp [arg_spec_SetAdd] at h; simp [Prod.ext_iff, h]
noncomputable def F_spec_SetAdd : Con := nilfix [[some 3], [none]] (pcon arg_spec_SetAdd (fun a => p_spec_SetAdd a.1 a.2) res_spec_SetAdd)
theorem fn_spec_SetAdd : Fn Try.prog 57 F_spec_SetAdd := (Fn.pure cal_spec_SetAdd (fun k w0 h0 => ok_spec_SetAdd k w0 h0) mixed Try.func57 rfl rfl (by kernel_rfl) 2 (by decide) (fun _ => rfl) lm_spec_SetAdd (fun a b h => t_spec_SetAdd h)).nilfix _
theorem c_spec_SetAdd {a0 : LI} {a1 : Int} {r : LI} (h : p_spec_SetAdd a0 a1 = some r) : F_spec_SetAdd [.one (.sl false 3 (List.map cI a0)), .one (.lit (.int .i64 a1))] = some (((false, [none]), [.sl true 3 (List.map cI r)])) := pcon_at (arg := arg_spec_SetAdd) (p := fun a => p_spec_SetAdd a.1 a.2) (res := res_spec_SetAdd) (a := (a0, a1)) (b := r) inj_spec_SetAdd h
noncomputable def cal_spec_l5Empties (k : Nat) : Cal := calI (tabOf [(57, F_spec_SetAdd), (79, F_spec_l5All)]) (inlOf [])
@[simp] theorem cal_spec_l5Empties_ap (k g : Nat) (vs : List TV) (mem : Mem) (ep : Nat) : cal_spec_l5Empties k g vs mem ep = calI (tabOf [(57, F_spec_SetAdd), (79, F_spec_l5All)]) (inlOf []) g vs mem ep := rfl
theorem ok_spec_l5Empties (k : Nat) (w0 : World) (h0 : True) : CalOk Try.prog w0.heap.size w0 (cal_spec_l5Empties k) := by
  exact calI_ok (J := fun _ => True) stab_true (tabOf_ok _ (by simp [fn_spec_SetAdd, fn_spec_l5All])) (inlOf_ok _ (by simp [])) h0
@[simp] def lm_spec_l5Empties : Nat → List Nat × Nat := fun b => if b = 4 then ([1, 3, 4, 5, 6], 2) else if b = 2000004 then ([1, 3, 0, 2], 8888888) else if b = 3000004 then ([1, 3, 4, 5], 2) else if b = 2 then ([1, 3, 4, 5], 2) else if b = 2000002 then ([], 8888888) else if b = 3000002 then ([1, 3, 4], 2) else if b = 0 then ([1, 3, 4], 2) else if b = 2000000 then ([], 8888888) else if b = 3000000 then ([3], 2) else ([], 0)
@[simp] def arg_spec_l5Empties (a : L3) : List TV := [.agg [.sl false 38 (List.map (cL38 false) a)]]
@[simp] def res_spec_l5Empties (r : LI) : Sh × List V := ((false, [none]), [.sl true 3 (List.map cI r)])
def p_spec_l5Empties_L4 (x4b0 : Int) (x5b2 : Int) (a0 : L3) (x6b4 : Int) (l2b4 : LI) : Option LI :=
 if 0 ≤ x5b2 then
  a0[x5b2.toNat]? >>= fun y199 =>
  if x6b4 < (y199.length : Int) then
   if 0 ≤ x6b4 then
    y199[x6b4.toNat]? >>= fun y203 =>
    p_spec_l5All y203 l2b4 >>= fun y206 =>
    if y206 then
     p_spec_SetAdd l2b4 x5b2 >>= fun y209 =>
     p_spec_l5Empties_L4 x4b0 x5b2 a0 (IntKind.wrap .i64 (x6b4 + 1)) y209
    else
     p_spec_l5Empties_L4 x4b0 x5b2 a0 (IntKind.wrap .i64 (x6b4 + 1)) l2b4
   else none
  else
   some l2b4
 else none
partial_fixpoint
@[simp] noncomputable def L_spec_l5Empties_L4 : Code := nav [1, 1, 0, 1, 0, 0, 1, 0, 0, 1, 0, 0, 1, 0, 0, 1, 0, 0] (bodyOf Try.f67)
@[simp] def T_spec_l5Empties_L4 (x4b0 : Int) (x5b2 : Int) (a0 : L3) (x6b4 : Int) (l2b4 : LI) (st : Nat → Nat) : St := ⟨[(1, .one (.bp 1 (st 1) 0)), (3, .one (.ow 2 (st 2))), (4, .one (.lit (.int .i64 x4b0))), (5, .one (.lit (.int .i64 x5b2))), (6, .one (.lit (.int .i64 x6b4)))], [none, some (.box (st 1) [.sl false 38 (List.map (cL38 false) a0)]), some (.rows (st 2) (st 2) 3 (List.map cI l2b4))], (st 0)⟩
@[simp] def U_spec_l5Empties_L4 (x4b0 : Int) (x5b2 : Int) (a0 : L3) (o : LI) (st : Nat → Nat) : St := ⟨[(1, .one (.bp 1 (st 1) 0)), (3, .one (.ow 2 (st 2))), (4, .one (.lit (.int .i64 x4b0))), (5, .one (.lit (.int .i64 x5b2)))], [none, some (.box (st 1) [.sl false 38 (List.map (cL38 false) a0)]), some (.rows (st 2) (st 2) 3 (List.map cI o))], (st 0)⟩
abbrev Q_spec_l5Empties_L4 (x4b0 : Int) (x5b2 : Int) (a0 : L3) (x6b4 : Int) (l2b4 : LI) (o : LI) : Prop := ∀ st : Nat → Nat, LoopG Try.prog cal_spec_l5Empties 1 lm_spec_l5Empties 4 L_spec_l5Empties_L4 (U_spec_l5Empties_L4 x4b0 x5b2 a0) (T_spec_l5Empties_L4 x4b0 x5b2 a0 x6b4 l2b4 st) o
theorem l_spec_l5Empties_L4 {x4b0 : Int} {x5b2 : Int} {a0 : L3} {x6b4 : Int} {l2b4 : LI} {o : LI} (h : p_spec_l5Empties_L4 x4b0 x5b2 a0 x6b4 l2b4 = some o) : Q_spec_l5Empties_L4 x4b0 x5b2 a0 x6b4 l2b4 o := by
  refine p_spec_l5Empties_L4.partial_correctness x4b0 x5b2 a0 (motive := fun x6b4 l2b4 o => Q_spec_l5Empties_L4 x4b0 x5b2 a0 x6b4 l2b4 o) ?_ x6b4 l2b4 o h
  clear h o x6b4 l2b4
  intro p' ih x6b4 l2b4 r h st
  obtain ⟨h198, h⟩ := ifg h
  obtain ⟨y199, h200, h⟩ := bd h
  rcases ifc h with ⟨h201, h⟩ | ⟨h201, h⟩
  · obtain ⟨h202, h⟩ := ifg h
    obtain ⟨y203, h204, h⟩ := bd h
    obtain ⟨y206, h205, h⟩ := bd h
    have h205c := c_spec_l5All h205
    rcases ifb h with ⟨h207, h⟩ | ⟨h207, h⟩
    · obtain ⟨y209, h208, h⟩ := bd h
      have h208c := c_spec_SetAdd h208
      exact LoopG.step 0 (fun k hk => by simp (implicitDefEqProofs := false) [-getElem?_pos, -getElem?_neg, Try.f67, h198, h200, h201, h202, h204, h205c, h207, h208c]) (ih _ _ _ h (sl [((st 0) + 3), (st 1), ((st 0) + 2)]))
    exact LoopG.step 0 (fun k hk => by simp (implicitDefEqProofs := false) [-getElem?_pos, -getElem?_neg, Try.f67, h198, h200, h201, h202, h204, h205c, h207]) (ih _ _ _ h (sl [((st 0) + 2), (st 1), ((st 0) + 1)]))
  obtain rfl := Option.some.inj h
  exact LoopG.exit (sl [(st 0), (st 1), (st 2)]) 0 (fun k hk => by simp (implicitDefEqProofs := false) [-getElem?_pos, -getElem?_neg, Try.f67, h198, h200, h201])
def p_spec_l5Empties_L2 (x4b0 : Int) (a0 : L3) (x5b2 : Int) (l2b2 : LI) : Option LI :=
 if x5b2 < (a0.length : Int) then
  p_spec_l5Empties_L4 x4b0 x5b2 a0 0 l2b2 >>= fun o211 =>
  p_spec_l5Empties_L2 x4b0 a0 (IntKind.wrap .i64 (x5b2 + 1)) o211
 else
  some l2b2
partial_fixpoint
@[simp] noncomputable def L_spec_l5Empties_L2 : Code := nav [1, 1, 0, 1, 0, 0, 1, 0, 0, 1, 0, 0] (bodyOf Try.f67)
@[simp] def T_spec_l5Empties_L2 (x4b0 : Int) (a0 : L3) (x5b2 : Int) (l2b2 : LI) (st : Nat → Nat) : St := ⟨[(1, .one (.bp 1 (st 1) 0)), (3, .one (.ow 2 (st 2))), (4, .one (.lit (.int .i64 x4b0))), (5, .one (.lit (.int .i64 x5b2)))], [none, some (.box (st 1) [.sl false 38 (List.map (cL38 false) a0)]), some (.rows (st 2) (st 2) 3 (List.map cI l2b2))], (st 0)⟩
@[simp] def U_spec_l5Empties_L2 (x4b0 : Int) (a0 : L3) (o : LI) (st : Nat → Nat) : St := ⟨[(1, .one (.bp 1 (st 1) 0)), (3, .one (.ow 2 (st 2))), (4, .one (.lit (.int .i64 x4b0)))], [none, some (.box (st 1) [.sl false 38 (List.map (cL38 false) a0)]), some (.rows (st 2) (st 2) 3 (List.map cI o))], (st 0)⟩
abbrev Q_spec_l5Empties_L2 (x4b0 : Int) (a0 : L3) (x5b2 : Int) (l2b2 : LI) (o : LI) : Prop := ∀ st : Nat → Nat, LoopG Try.prog cal_spec_l5Empties 1 lm_spec_l5Empties 2 L_spec_l5Empties_L2 (U_spec_l5Empties_L2 x4b0 a0) (T_spec_l5Empties_L2 x4b0 a0 x5b2 l2b2 st) o
theorem l_spec_l5Empties_L2 {x4b0 : Int} {a0 : L3} {x5b2 : Int} {l2b2 : LI} {o : LI} (h : p_spec_l5Empties_L2 x4b0 a0 x5b2 l2b2 = some o) : Q_spec_l5Empties_L2 x4b0 a0 x5b2 l2b2 o := by
  refine p_spec_l5Empties_L2.partial_correctness x4b0 a0 (motive := fun x5b2 l2b2 o => Q_spec_l5Empties_L2 x4b0 a0 x5b2 l2b2 o) ?_ x5b2 l2b2 o h
  clear h o x5b2 l2b2
  intro p' ih x5b2 l2b2 r h st
  rcases ifc h with ⟨h174, h⟩ | ⟨h174, h⟩
  · obtain ⟨o211, h210, h⟩ := bd h
    have qK212 := l_spec_l5Empties_L4 h210 (sl [((st 0) + 1), (st 1), (st 0)])
    obtain ⟨s213, K212, qK212⟩ := qK212
    refine LoopG.step K212 (fun k hk => ?_) (ih _ _ _ h (sl [(s213 0), (s213 1), (s213 2)]))
    have jK212 := qK212 k (by omega) k (by omega)
    simp (implicitDefEqProofs := false) [-getElem?_pos, -getElem?_neg, Try.f67, h174] at jK212
    simp (implicitDefEqProofs := false) [-getElem?_pos, -getElem?_neg, Try.f67, h174, jK212]
  obtain rfl := Option.some.inj h
  exact LoopG.exit (sl [(st 0), (st 1), (st 2)]) 0 (fun k hk => by simp (implicitDefEqProofs := false) [-getElem?_pos, -getElem?_neg, Try.f67, h174])
def p_spec_l5Empties_L0 (a0 : L3) (x4b0 : Int) (l2b0 : LI) : Option LI :=
 if x4b0 ≤ (a0.length : Int) then
  p_spec_l5Empties_L2 x4b0 a0 0 l2b0 >>= fun o215 =>
  p_spec_l5Empties_L0 a0 (IntKind.wrap .i64 (x4b0 + 1)) o215
 else
  some l2b0
partial_fixpoint
@[simp] noncomputable def L_spec_l5Empties_L0 : Code := nav [1, 1, 0, 1, 0, 0] (bodyOf Try.f67)
@[simp] def T_spec_l5Empties_L0 (a0 : L3) (x4b0 : Int) (l2b0 : LI) (st : Nat → Nat) : St := ⟨[(1, .one (.bp 1 (st 1) 0)), (3, .one (.ow 2 (st 2))), (4, .one (.lit (.int .i64 x4b0)))], [none, some (.box (st 1) [.sl false 38 (List.map (cL38 false) a0)]), some (.rows (st 2) (st 2) 3 (List.map cI l2b0))], (st 0)⟩
@[simp] def U_spec_l5Empties_L0 (a0 : L3) (o : LI) (st : Nat → Nat) : St := ⟨[(3, .one (.ow 2 (st 1)))], [none, some (.box (st 2) [.sl false 38 (List.map (cL38 false) a0)]), some (.rows (st 1) (st 1) 3 (List.map cI o))], (st 0)⟩
abbrev Q_spec_l5Empties_L0 (a0 : L3) (x4b0 : Int) (l2b0 : LI) (o : LI) : Prop := ∀ st : Nat → Nat, LoopG Try.prog cal_spec_l5Empties 1 lm_spec_l5Empties 0 L_spec_l5Empties_L0 (U_spec_l5Empties_L0 a0) (T_spec_l5Empties_L0 a0 x4b0 l2b0 st) o
theorem l_spec_l5Empties_L0 {a0 : L3} {x4b0 : Int} {l2b0 : LI} {o : LI} (h : p_spec_l5Empties_L0 a0 x4b0 l2b0 = some o) : Q_spec_l5Empties_L0 a0 x4b0 l2b0 o := by
  refine p_spec_l5Empties_L0.partial_correctness a0 (motive := fun x4b0 l2b0 o => Q_spec_l5Empties_L0 a0 x4b0 l2b0 o) ?_ x4b0 l2b0 o h
  clear h o x4b0 l2b0
  intro p' ih x4b0 l2b0 r h st
  rcases ifc h with ⟨h119, h⟩ | ⟨h119, h⟩
  · obtain ⟨o215, h214, h⟩ := bd h
    have qK216 := l_spec_l5Empties_L2 h214 (sl [(st 0), (st 1), (st 2)])
    obtain ⟨s217, K216, qK216⟩ := qK216
    refine LoopG.step K216 (fun k hk => ?_) (ih _ _ _ h (sl [(s217 0), (s217 1), (s217 2)]))
    have jK216 := qK216 k (by omega) k (by omega)
    simp (implicitDefEqProofs := false) [-getElem?_pos, -getElem?_neg, Try.f67, h119] at jK216
    simp (implicitDefEqProofs := false) [-getElem?_pos, -getElem?_neg, Try.f67, h119, jK216]
  obtain rfl := Option.some.inj h
  exact LoopG.exit (sl [(st 0), (st 2), (st 1)]) 0 (fun k hk => by simp (implicitDefEqProofs := false) [-getElem?_pos, -getElem?_neg, Try.f67, h119])
def p_spec_l5Empties (a0 : L3) : Option LI :=
 p_spec_l5Empties_L0 a0 0 ([]) >>= fun o219 =>
 some o219
theorem t_spec_l5Empties {a0 : L3} {r : LI} (h : p_spec_l5Empties a0 = some r) : ∃ k, told Try.prog (cal_spec_l5Empties k) k lm_spec_l5Empties Try.f67 (arg_spec_l5Empties a0) = some (res_spec_l5Empties r) := by
  unfold p_spec_l5Empties at h
  obtain ⟨o219, h218, h⟩ := bd h
  have qK220 := l_spec_l5Empties_L0 h218 (sl [3, 1, 2])
  obtain ⟨s221, K220, qK220⟩ := qK220
  obtain rfl := Option.some.inj h
  obtain ⟨k, hk⟩ : ∃ k, K220 ≤ k := ⟨_, Nat.le_refl _⟩
  have jK220 := qK220 k (by omega) k (by omega)
  simp (implicitDefEqProofs := false) [-getElem?_pos, -getElem?_neg, Try.f67] at jK220
  refine ⟨k, ?_⟩
  simp (implicitDefEqProofs := false) [-getElem?_pos, -getElem?_neg, Try.f67, jK220]
theorem inj_spec_l5Empties : ∀ a b, arg_spec_l5Empties a = arg_spec_l5Empties b → a = b := by
  intro x y h; simp [arg_spec_l5Empties] at h; simp [Prod.ext_iff, h]
noncomputable def F_spec_l5Empties : Con := nilfix [[some 38]] (pcon arg_spec_l5Empties (fun a => p_spec_l5Empties a) res_spec_l5Empties)
theorem fn_spec_l5Empties : Fn Try.prog 67 F_spec_l5Empties := (Fn.pure cal_spec_l5Empties (fun k w0 h0 => ok_spec_l5Empties k w0 h0) mixed Try.func67 rfl rfl (by kernel_rfl) 1 (by decide) (fun _ => rfl) lm_spec_l5Empties (fun a b h => t_spec_l5Empties h)).nilfix _
theorem c_spec_l5Empties {a0 : L3} {r : LI} (h : p_spec_l5Empties a0 = some r) : F_spec_l5Empties [.agg [.sl false 38 (List.map (cL38 false) a0)]] = some (((false, [none]), [.sl true 3 (List.map cI r)])) := pcon_at (arg := arg_spec_l5Empties) (p := fun a => p_spec_l5Empties a) (res := res_spec_l5Empties) (a := a0) (b := r) inj_spec_l5Empties h
noncomputable def cal_spec_SetJoin (k : Nat) : Cal := calI (tabOf [(57, F_spec_SetAdd)]) (inlOf [])
@[simp] theorem cal_spec_SetJoin_ap (k g : Nat) (vs : List TV) (mem : Mem) (ep : Nat) : cal_spec_SetJoin k g vs mem ep = calI (tabOf [(57, F_spec_SetAdd)]) (inlOf []) g vs mem ep := rfl
theorem ok_spec_SetJoin (k : Nat) (w0 : World) (h0 : True) : CalOk Try.prog w0.heap.size w0 (cal_spec_SetJoin k) := by
  exact calI_ok (J := fun _ => True) stab_true (tabOf_ok _ (by simp [fn_spec_SetAdd])) (inlOf_ok _ (by simp [])) h0
@[simp] def lm_spec_SetJoin : Nat → List Nat × Nat := fun b => if b = 0 then ([1, 5, 6], 1) else if b = 2000000 then ([1, 5, 0, 1], 8888888) else if b = 3000000 then ([5], 1) else ([], 0)
@[simp] def arg_spec_SetJoin (a : LI × LI) : List TV := [.one (.sl false 3 (List.map cI a.1)), .one (.sl false 3 (List.map cI a.2))]
@[simp] def res_spec_SetJoin (r : LI) : Sh × List V := ((false, [none]), [.sl true 3 (List.map cI r)])
def p_spec_SetJoin_L0 (a1 : LI) (x6b0 : Int) (l1b0 : LI) : Option LI :=
 if x6b0 < (a1.length : Int) then
  if 0 ≤ x6b0 then
   a1[x6b0.toNat]? >>= fun y15 =>
   p_spec_SetAdd l1b0 y15 >>= fun y18 =>
   p_spec_SetJoin_L0 a1 (IntKind.wrap .i64 (x6b0 + 1)) y18
  else none
 else
  some l1b0
partial_fixpoint
@[simp] noncomputable def L_spec_SetJoin_L0 : Code := nav [1, 1, 0, 1, 0, 0] (bodyOf Try.f68)
@[simp] def T_spec_SetJoin_L0 (a1 : LI) (x6b0 : Int) (l1b0 : LI) (st : Nat → Nat) : St := ⟨[(1, .one (.sl false 3 (List.map cI a1))), (5, .one (.ow 1 (st 1))), (6, .one (.lit (.int .i64 x6b0)))], [none, some (.rows (st 1) (st 1) 3 (List.map cI l1b0))], (st 0)⟩
@[simp] def U_spec_SetJoin_L0 (a1 : LI) (o : LI) (st : Nat → Nat) : St := ⟨[(5, .one (.ow 1 (st 1)))], [none, some (.rows (st 1) (st 1) 3 (List.map cI o))], (st 0)⟩
abbrev Q_spec_SetJoin_L0 (a1 : LI) (x6b0 : Int) (l1b0 : LI) (o : LI) : Prop := ∀ st : Nat → Nat, LoopG Try.prog cal_spec_SetJoin 1 lm_spec_SetJoin 0 L_spec_SetJoin_L0 (U_spec_SetJoin_L0 a1) (T_spec_SetJoin_L0 a1 x6b0 l1b0 st) o
theorem l_spec_SetJoin_L0 {a1 : LI} {x6b0 : Int} {l1b0 : LI} {o : LI} (h : p_spec_SetJoin_L0 a1 x6b0 l1b0 = some o) : Q_spec_SetJoin_L0 a1 x6b0 l1b0 o := by
  refine p_spec_SetJoin_L0.partial_correctness a1 (motive := fun x6b0 l1b0 o => Q_spec_SetJoin_L0 a1 x6b0 l1b0 o) ?_ x6b0 l1b0 o h
  clear h o x6b0 l1b0
  intro p' ih x6b0 l1b0 r h st
  rcases ifc h with ⟨h13, h⟩ | ⟨h13, h⟩
  · obtain ⟨h14, h⟩ := ifg h
    obtain ⟨y15, h16, h⟩ := bd h
    obtain ⟨y18, h17, h⟩ := bd h
    have h17c := c_spec_SetAdd h17
    exact LoopG.step 0 (fun k hk => by simp (implicitDefEqProofs := false) [-getElem?_pos, -getElem?_neg, Try.f68, h13, h14, h16, h17c]) (ih _ _ _ h (sl [((st 0) + 2), ((st 0) + 1)]))
  obtain rfl := Option.some.inj h
  exact LoopG.exit (sl [(st 0), (st 1)]) 0 (fun k hk => by simp (implicitDefEqProofs := false) [-getElem?_pos, -getElem?_neg, Try.f68, h13])
def p_spec_SetJoin (a0 : LI) (a1 : LI) : Option LI :=
 if a0.length * 8 ≤ 140737488355328 then
  p_spec_SetJoin_L0 a1 0 a0 >>= fun o20 =>
  some o20
 else none
theorem t_spec_SetJoin {a0 : LI} {a1 : LI} {r : LI} (h : p_spec_SetJoin a0 a1 = some r) : ∃ k, told Try.prog (cal_spec_SetJoin k) k lm_spec_SetJoin Try.f68 (arg_spec_SetJoin (a0, a1)) = some (res_spec_SetJoin r) := by
  unfold p_spec_SetJoin at h
  obtain ⟨h1, h⟩ := ifg h
  obtain ⟨o20, h19, h⟩ := bd h
  have qK21 := l_spec_SetJoin_L0 h19 (sl [4, 3])
  obtain ⟨s22, K21, qK21⟩ := qK21
  obtain rfl := Option.some.inj h
  obtain ⟨k, hk⟩ : ∃ k, K21 ≤ k := ⟨_, Nat.le_refl _⟩
  have jK21 := qK21 k (by omega) k (by omega)
  simp (implicitDefEqProofs := false) [-getElem?_pos, -getElem?_neg, Try.f68, h1] at jK21
  refine ⟨k, ?_⟩
  simp (implicitDefEqProofs := false) [-getElem?_pos, -getElem?_neg, Try.f68, h1, jK21]
theorem inj_spec_SetJoin : ∀ a b, arg_spec_SetJoin a = arg_spec_SetJoin b → a = b := by
  rintro ⟨x0, x1⟩ ⟨y0, y1⟩ h; simp [arg_spec_SetJoin] at h; simp [Prod.ext_iff, h]
noncomputable def F_spec_SetJoin : Con := nilfix [[some 3], [some 3]] (pcon arg_spec_SetJoin (fun a => p_spec_SetJoin a.1 a.2) res_spec_SetJoin)
theorem fn_spec_SetJoin : Fn Try.prog 68 F_spec_SetJoin := (Fn.pure cal_spec_SetJoin (fun k w0 h0 => ok_spec_SetJoin k w0 h0) mixed Try.func68 rfl rfl (by kernel_rfl) 2 (by decide) (fun _ => rfl) lm_spec_SetJoin (fun a b h => t_spec_SetJoin h)).nilfix _
theorem c_spec_SetJoin {a0 : LI} {a1 : LI} {r : LI} (h : p_spec_SetJoin a0 a1 = some r) : F_spec_SetJoin [.one (.sl false 3 (List.map cI a0)), .one (.sl false 3 (List.map cI a1))] = some (((false, [none]), [.sl true 3 (List.map cI r)])) := pcon_at (arg := arg_spec_SetJoin) (p := fun a => p_spec_SetJoin a.1 a.2) (res := res_spec_SetJoin) (a := (a0, a1)) (b := r) inj_spec_SetJoin h
noncomputable def cal_spec_l5Starts (k : Nat) : Cal := calI (tabOf [(50, F_spec_SetHas), (57, F_spec_SetAdd), (67, F_spec_l5Empties), (68, F_spec_SetJoin)]) (inlOf [])
@[simp] theorem cal_spec_l5Starts_ap (k g : Nat) (vs : List TV) (mem : Mem) (ep : Nat) : cal_spec_l5Starts k g vs mem ep = calI (tabOf [(50, F_spec_SetHas), (57, F_spec_SetAdd), (67, F_spec_l5Empties), (68, F_spec_SetJoin)]) (inlOf []) g vs mem ep := rfl
theorem ok_spec_l5Starts (k : Nat) (w0 : World) (h0 : True) : CalOk Try.prog w0.heap.size w0 (cal_spec_l5Starts k) := by
  exact calI_ok (J := fun _ => True) stab_true (tabOf_ok _ (by simp [fn_spec_SetHas, fn_spec_SetAdd, fn_spec_l5Empties, fn_spec_SetJoin])) (inlOf_ok _ (by simp [])) h0
@[simp] def lm_spec_l5Starts : Nat → List Nat × Nat := fun b => if b = 4 then ([1, 3, 4, 5, 6, 7], 3) else if b = 2000004 then ([], 8888888) else if b = 3000004 then ([1, 3, 4, 5, 6], 3) else if b = 2 then ([1, 3, 4, 5, 6], 3) else if b = 2000002 then ([], 8888888) else if b = 3000002 then ([1, 3, 4, 5], 3) else if b = 0 then ([1, 3, 4, 5], 3) else if b = 2000000 then ([], 8888888) else if b = 3000000 then ([4], 3) else if b = 6 then ([1, 3, 4, 5, 6, 7, 8, 9], 3) else if b = 2000006 then ([], 8888888) else if b = 3000006 then ([1, 3, 4, 5, 6, 7], 3) else if b = 1000002 then ([4, 16, 0, 3], 8888888) else ([], 0)
theorem dr_spec_l5Starts_17 : drawn (opsOf (nav [1, 1, 1, 0, 1, 0, 0, 1, 0, 0, 1, 0, 0, 1, 0, 0, 1, 0, 0, 1, 0, 0, 1, 1, 0, 0, 1, 0, 0, 1, 0] (bodyOf Try.f49))) = some ([0, 1, 2, 3, 4, 5, 6, 8, 9, 10, 11, 7, 12], [13, 14]) := by kernel_rfl
@[simp] def arg_spec_l5Starts (a : L3) : List TV := [.agg [.sl false 38 (List.map (cL38 false) a)]]
@[simp] def res_spec_l5Starts (r : L2) : Sh × List V := ((false, [none]), [.sl true 31 (List.map (cL31 true) r)])
def p_spec_l5Starts_L6 (x5b0 : Int) (x6b2 : Int) (x7b4 : Int) (y784 : LI) (a0 : L3) (y2 : LI) (x9b6 : Int) (l3b6 : L2) : Option L2 :=
 if x9b6 < (y784.length : Int) then
  if 0 ≤ x9b6 then
   y784[x9b6.toNat]? >>= fun y831 =>
   if 100 ≤ y831 then
    if 0 ≤ x6b2 then
     l3b6[x6b2.toNat]? >>= fun y835 =>
     if 0 ≤ (IntKind.wrap .i64 (y831 - 100)) then
      l3b6[(IntKind.wrap .i64 (y831 - 100)).toNat]? >>= fun y839 =>
      p_spec_SetAdd y835 (IntKind.wrap .i64 (y831 - 100)) >>= fun y843 =>
      p_spec_SetJoin y843 y839 >>= fun y845 =>
      some (List.set l3b6 x6b2.toNat y845) >>= fun l846 =>
      p_spec_SetHas y2 (IntKind.wrap .i64 (y831 - 100)) >>= fun y849 =>
      if y849 then
       p_spec_l5Starts_L6 x5b0 x6b2 x7b4 y784 a0 y2 (IntKind.wrap .i64 (x9b6 + 1)) l846
      else
       some l846
     else none
    else none
   else
    some l3b6
  else none
 else
  some l3b6
partial_fixpoint
@[simp] noncomputable def L_spec_l5Starts_L6 : Code := nav [1, 1, 1, 0, 1, 0, 0, 1, 0, 0, 1, 0, 0, 1, 0, 0, 1, 0, 0, 1, 0, 0, 1, 1, 0, 0] (bodyOf Try.f49)
@[simp] def T_spec_l5Starts_L6 (x5b0 : Int) (x6b2 : Int) (x7b4 : Int) (y784 : LI) (a0 : L3) (y2 : LI) (x9b6 : Int) (l3b6 : L2) (st : Nat → Nat) : St := ⟨[(1, .one (.bp 1 (st 1) 0)), (3, .one (.ow 2 (st 2))), (4, .one (.ow 3 (st 3))), (5, .one (.lit (.int .i64 x5b0))), (6, .one (.lit (.int .i64 x6b2))), (7, .one (.lit (.int .i64 x7b4))), (8, .one (.sl false 3 (List.map cI y784))), (9, .one (.lit (.int .i64 x9b6)))], [none, some (.box (st 1) [.sl false 38 (List.map (cL38 false) a0)]), some (.rows (st 2) (st 2) 3 (List.map cI y2)), some (.rows (st 3) (st 4) 31 (List.map (cL31 true) l3b6))], (st 0)⟩
@[simp] def U_spec_l5Starts_L6 (x5b0 : Int) (x6b2 : Int) (x7b4 : Int) (y784 : LI) (a0 : L3) (y2 : LI) (o : L2) (st : Nat → Nat) : St := ⟨[(1, .one (.bp 1 (st 1) 0)), (3, .one (.ow 2 (st 2))), (4, .one (.ow 3 (st 3))), (5, .one (.lit (.int .i64 x5b0))), (6, .one (.lit (.int .i64 x6b2))), (7, .one (.lit (.int .i64 x7b4)))], [none, some (.box (st 1) [.sl false 38 (List.map (cL38 false) a0)]), some (.rows (st 2) (st 2) 3 (List.map cI y2)), some (.rows (st 3) (st 4) 31 (List.map (cL31 true) o))], (st 0)⟩
abbrev Q_spec_l5Starts_L6 (x5b0 : Int) (x6b2 : Int) (x7b4 : Int) (y784 : LI) (a0 : L3) (y2 : LI) (x9b6 : Int) (l3b6 : L2) (o : L2) : Prop := ∀ st : Nat → Nat, LoopG Try.prog cal_spec_l5Starts 1 lm_spec_l5Starts 6 L_spec_l5Starts_L6 (U_spec_l5Starts_L6 x5b0 x6b2 x7b4 y784 a0 y2) (T_spec_l5Starts_L6 x5b0 x6b2 x7b4 y784 a0 y2 x9b6 l3b6 st) o
theorem l_spec_l5Starts_L6 {x5b0 : Int} {x6b2 : Int} {x7b4 : Int} {y784 : LI} {a0 : L3} {y2 : LI} {x9b6 : Int} {l3b6 : L2} {o : L2} (h : p_spec_l5Starts_L6 x5b0 x6b2 x7b4 y784 a0 y2 x9b6 l3b6 = some o) : Q_spec_l5Starts_L6 x5b0 x6b2 x7b4 y784 a0 y2 x9b6 l3b6 o := by
  refine p_spec_l5Starts_L6.partial_correctness x5b0 x6b2 x7b4 y784 a0 y2 (motive := fun x9b6 l3b6 o => Q_spec_l5Starts_L6 x5b0 x6b2 x7b4 y784 a0 y2 x9b6 l3b6 o) ?_ x9b6 l3b6 o h
  clear h o x9b6 l3b6
  intro p' ih x9b6 l3b6 r h st
  rcases ifc h with ⟨h829, h⟩ | ⟨h829, h⟩
  · obtain ⟨h830, h⟩ := ifg h
    obtain ⟨y831, h832, h⟩ := bd h
    rcases ifc h with ⟨h833, h⟩ | ⟨h833, h⟩
    · obtain ⟨h834, h⟩ := ifg h
      obtain ⟨y835, h836, h⟩ := bd h
      have h836b := (List.getElem?_eq_some_iff.1 h836).1
      obtain ⟨h838, h⟩ := ifg h
      obtain ⟨y839, h840, h⟩ := bd h
      have h840b := (List.getElem?_eq_some_iff.1 h840).1
      obtain ⟨y843, h842, h⟩ := bd h
      have h842c := c_spec_SetAdd h842
      try simp (implicitDefEqProofs := false) [-getElem?_pos, -getElem?_neg] at h842c
      obtain ⟨y845, h844, h⟩ := bd h
      have h844c := c_spec_SetJoin h844
      obtain ⟨l846, h847, h⟩ := bd h
      have h847r : (List.map (cL31 true) l3b6).set x6b2.toNat [.sl true 3 (List.map cI y845)] = List.map (cL31 true) l846 := by rw [← Option.some.inj h847]; simp
      obtain ⟨y849, h848, h⟩ := bd h
      have h848c := c_spec_SetHas h848
      try simp (implicitDefEqProofs := false) [-getElem?_pos, -getElem?_neg] at h848c
      rcases ifb h with ⟨h850, h⟩ | ⟨h850, h⟩
      · refine LoopG.step 0 (fun k hk => ?_) (ih _ _ _ h (sl [((st 0) + 4), (st 1), (st 2), (st 3), ((st 0) + 2)]))
        have hd_spec_l5Starts_17 := dr_spec_l5Starts_17
        simp only [opsOf, nav, bodyOf, Try.f49, Option.getD_some] at hd_spec_l5Starts_17
        simp (implicitDefEqProofs := false) [-getElem?_pos, -getElem?_neg, Try.f49, h829, h830, h832, h833, ex_draw2 _ _ hd_spec_l5Starts_17, h834, h836, h836b, h838, h840, h840b, h842c, h844c, h847r, h848c, h850]
      obtain rfl := Option.some.inj h
      refine LoopG.exit (sl [((st 0) + 4), (st 1), (st 2), (st 3), ((st 0) + 2)]) 0 (fun k hk => ?_)
      have hd_spec_l5Starts_17 := dr_spec_l5Starts_17
      simp only [opsOf, nav, bodyOf, Try.f49, Option.getD_some] at hd_spec_l5Starts_17
      simp (implicitDefEqProofs := false) [-getElem?_pos, -getElem?_neg, Try.f49, h829, h830, h832, h833, ex_draw2 _ _ hd_spec_l5Starts_17, h834, h836, h836b, h838, h840, h840b, h842c, h844c, h847r, h848c, h850]
    obtain rfl := Option.some.inj h
    exact LoopG.exit (sl [(st 0), (st 1), (st 2), (st 3), (st 4)]) 0 (fun k hk => by simp (implicitDefEqProofs := false) [-getElem?_pos, -getElem?_neg, Try.f49, h829, h830, h832, h833])
  obtain rfl := Option.some.inj h
  exact LoopG.exit (sl [(st 0), (st 1), (st 2), (st 3), (st 4)]) 0 (fun k hk => by simp (implicitDefEqProofs := false) [-getElem?_pos, -getElem?_neg, Try.f49, h829])
def p_spec_l5Starts_L4 (x5b0 : Int) (x6b2 : Int) (a0 : L3) (y2 : LI) (x7b4 : Int) (l3b4 : L2) : Option L2 :=
 if 0 ≤ x6b2 then
  a0[x6b2.toNat]? >>= fun y780 =>
  if x7b4 < (y780.length : Int) then
   if 0 ≤ x7b4 then
    y780[x7b4.toNat]? >>= fun y784 =>
    p_spec_l5Starts_L6 x5b0 x6b2 x7b4 y784 a0 y2 0 l3b4 >>= fun o852 =>
    p_spec_l5Starts_L4 x5b0 x6b2 a0 y2 (IntKind.wrap .i64 (x7b4 + 1)) o852
   else none
  else
   some l3b4
 else none
partial_fixpoint
@[simp] noncomputable def L_spec_l5Starts_L4 : Code := nav [1, 1, 1, 0, 1, 0, 0, 1, 0, 0, 1, 0, 0, 1, 0, 0, 1, 0, 0] (bodyOf Try.f49)
@[simp] def T_spec_l5Starts_L4 (x5b0 : Int) (x6b2 : Int) (a0 : L3) (y2 : LI) (x7b4 : Int) (l3b4 : L2) (st : Nat → Nat) : St := ⟨[(1, .one (.bp 1 (st 1) 0)), (3, .one (.ow 2 (st 2))), (4, .one (.ow 3 (st 3))), (5, .one (.lit (.int .i64 x5b0))), (6, .one (.lit (.int .i64 x6b2))), (7, .one (.lit (.int .i64 x7b4)))], [none, some (.box (st 1) [.sl false 38 (List.map (cL38 false) a0)]), some (.rows (st 2) (st 2) 3 (List.map cI y2)), some (.rows (st 3) (st 4) 31 (List.map (cL31 true) l3b4))], (st 0)⟩
@[simp] def U_spec_l5Starts_L4 (x5b0 : Int) (x6b2 : Int) (a0 : L3) (y2 : LI) (o : L2) (st : Nat → Nat) : St := ⟨[(1, .one (.bp 1 (st 1) 0)), (3, .one (.ow 2 (st 2))), (4, .one (.ow 3 (st 3))), (5, .one (.lit (.int .i64 x5b0))), (6, .one (.lit (.int .i64 x6b2)))], [none, some (.box (st 1) [.sl false 38 (List.map (cL38 false) a0)]), some (.rows (st 2) (st 2) 3 (List.map cI y2)), some (.rows (st 3) (st 4) 31 (List.map (cL31 true) o))], (st 0)⟩
abbrev Q_spec_l5Starts_L4 (x5b0 : Int) (x6b2 : Int) (a0 : L3) (y2 : LI) (x7b4 : Int) (l3b4 : L2) (o : L2) : Prop := ∀ st : Nat → Nat, LoopG Try.prog cal_spec_l5Starts 1 lm_spec_l5Starts 4 L_spec_l5Starts_L4 (U_spec_l5Starts_L4 x5b0 x6b2 a0 y2) (T_spec_l5Starts_L4 x5b0 x6b2 a0 y2 x7b4 l3b4 st) o
theorem l_spec_l5Starts_L4 {x5b0 : Int} {x6b2 : Int} {a0 : L3} {y2 : LI} {x7b4 : Int} {l3b4 : L2} {o : L2} (h : p_spec_l5Starts_L4 x5b0 x6b2 a0 y2 x7b4 l3b4 = some o) : Q_spec_l5Starts_L4 x5b0 x6b2 a0 y2 x7b4 l3b4 o := by
  refine p_spec_l5Starts_L4.partial_correctness x5b0 x6b2 a0 y2 (motive := fun x7b4 l3b4 o => Q_spec_l5Starts_L4 x5b0 x6b2 a0 y2 x7b4 l3b4 o) ?_ x7b4 l3b4 o h
  clear h o x7b4 l3b4
  intro p' ih x7b4 l3b4 r h st
  obtain ⟨h779, h⟩ := ifg h
  obtain ⟨y780, h781, h⟩ := bd h
  rcases ifc h with ⟨h782, h⟩ | ⟨h782, h⟩
  · obtain ⟨h783, h⟩ := ifg h
    obtain ⟨y784, h785, h⟩ := bd h
    obtain ⟨o852, h851, h⟩ := bd h
    have qK853 := l_spec_l5Starts_L6 h851 (sl [(st 0), (st 1), (st 2), (st 3), (st 4)])
    obtain ⟨s854, K853, qK853⟩ := qK853
    refine LoopG.step K853 (fun k hk => ?_) (ih _ _ _ h (sl [(s854 0), (s854 1), (s854 2), (s854 3), (s854 4)]))
    have jK853 := qK853 k (by omega) k (by omega)
    simp (implicitDefEqProofs := false) [-getElem?_pos, -getElem?_neg, Try.f49, h779, h781, h782, h783, h785] at jK853
    simp (implicitDefEqProofs := false) [-getElem?_pos, -getElem?_neg, Try.f49, h779, h781, h782, h783, h785, jK853]
  obtain rfl := Option.some.inj h
  exact LoopG.exit (sl [(st 0), (st 1), (st 2), (st 3), (st 4)]) 0 (fun k hk => by simp (implicitDefEqProofs := false) [-getElem?_pos, -getElem?_neg, Try.f49, h779, h781, h782])
def p_spec_l5Starts_L2 (x5b0 : Int) (a0 : L3) (y2 : LI) (x6b2 : Int) (l3b2 : L2) : Option L2 :=
 if x6b2 < (a0.length : Int) then
  p_spec_l5Starts_L4 x5b0 x6b2 a0 y2 0 l3b2 >>= fun o856 =>
  p_spec_l5Starts_L2 x5b0 a0 y2 (IntKind.wrap .i64 (x6b2 + 1)) o856
 else
  some l3b2
partial_fixpoint
@[simp] noncomputable def L_spec_l5Starts_L2 : Code := nav [1, 1, 1, 0, 1, 0, 0, 1, 0, 0, 1, 0, 0] (bodyOf Try.f49)
@[simp] def T_spec_l5Starts_L2 (x5b0 : Int) (a0 : L3) (y2 : LI) (x6b2 : Int) (l3b2 : L2) (st : Nat → Nat) : St := ⟨[(1, .one (.bp 1 (st 1) 0)), (3, .one (.ow 2 (st 2))), (4, .one (.ow 3 (st 3))), (5, .one (.lit (.int .i64 x5b0))), (6, .one (.lit (.int .i64 x6b2)))], [none, some (.box (st 1) [.sl false 38 (List.map (cL38 false) a0)]), some (.rows (st 2) (st 2) 3 (List.map cI y2)), some (.rows (st 3) (st 4) 31 (List.map (cL31 true) l3b2))], (st 0)⟩
@[simp] def U_spec_l5Starts_L2 (x5b0 : Int) (a0 : L3) (y2 : LI) (o : L2) (st : Nat → Nat) : St := ⟨[(1, .one (.bp 1 (st 1) 0)), (3, .one (.ow 2 (st 2))), (4, .one (.ow 3 (st 3))), (5, .one (.lit (.int .i64 x5b0)))], [none, some (.box (st 1) [.sl false 38 (List.map (cL38 false) a0)]), some (.rows (st 2) (st 2) 3 (List.map cI y2)), some (.rows (st 3) (st 4) 31 (List.map (cL31 true) o))], (st 0)⟩
abbrev Q_spec_l5Starts_L2 (x5b0 : Int) (a0 : L3) (y2 : LI) (x6b2 : Int) (l3b2 : L2) (o : L2) : Prop := ∀ st : Nat → Nat, LoopG Try.prog cal_spec_l5Starts 1 lm_spec_l5Starts 2 L_spec_l5Starts_L2 (U_spec_l5Starts_L2 x5b0 a0 y2) (T_spec_l5Starts_L2 x5b0 a0 y2 x6b2 l3b2 st) o
theorem l_spec_l5Starts_L2 {x5b0 : Int} {a0 : L3} {y2 : LI} {x6b2 : Int} {l3b2 : L2} {o : L2} (h : p_spec_l5Starts_L2 x5b0 a0 y2 x6b2 l3b2 = some o) : Q_spec_l5Starts_L2 x5b0 a0 y2 x6b2 l3b2 o := by
  refine p_spec_l5Starts_L2.partial_correctness x5b0 a0 y2 (motive := fun x6b2 l3b2 o => Q_spec_l5Starts_L2 x5b0 a0 y2 x6b2 l3b2 o) ?_ x6b2 l3b2 o h
  clear h o x6b2 l3b2
  intro p' ih x6b2 l3b2 r h st
  rcases ifc h with ⟨h671, h⟩ | ⟨h671, h⟩
  · obtain ⟨o856, h855, h⟩ := bd h
    have qK857 := l_spec_l5Starts_L4 h855 (sl [(st 0), (st 1), (st 2), (st 3), (st 4)])
    obtain ⟨s858, K857, qK857⟩ := qK857
    refine LoopG.step K857 (fun k hk => ?_) (ih _ _ _ h (sl [(s858 0), (s858 1), (s858 2), (s858 3), (s858 4)]))
    have jK857 := qK857 k (by omega) k (by omega)
    simp (implicitDefEqProofs := false) [-getElem?_pos, -getElem?_neg, Try.f49, h671] at jK857
    simp (implicitDefEqProofs := false) [-getElem?_pos, -getElem?_neg, Try.f49, h671, jK857]
  obtain rfl := Option.some.inj h
  exact LoopG.exit (sl [(st 0), (st 1), (st 2), (st 3), (st 4)]) 0 (fun k hk => by simp (implicitDefEqProofs := false) [-getElem?_pos, -getElem?_neg, Try.f49, h671])
def p_spec_l5Starts_L0 (a0 : L3) (y2 : LI) (x5b0 : Int) (l3b0 : L2) : Option L2 :=
 if x5b0 ≤ (a0.length : Int) then
  p_spec_l5Starts_L2 x5b0 a0 y2 0 l3b0 >>= fun o860 =>
  p_spec_l5Starts_L0 a0 y2 (IntKind.wrap .i64 (x5b0 + 1)) o860
 else
  some l3b0
partial_fixpoint
@[simp] noncomputable def L_spec_l5Starts_L0 : Code := nav [1, 1, 1, 0, 1, 0, 0] (bodyOf Try.f49)
@[simp] def T_spec_l5Starts_L0 (a0 : L3) (y2 : LI) (x5b0 : Int) (l3b0 : L2) (st : Nat → Nat) : St := ⟨[(1, .one (.bp 1 (st 1) 0)), (3, .one (.ow 2 (st 2))), (4, .one (.ow 3 (st 3))), (5, .one (.lit (.int .i64 x5b0)))], [none, some (.box (st 1) [.sl false 38 (List.map (cL38 false) a0)]), some (.rows (st 2) (st 2) 3 (List.map cI y2)), some (.rows (st 3) (st 4) 31 (List.map (cL31 true) l3b0))], (st 0)⟩
@[simp] def U_spec_l5Starts_L0 (a0 : L3) (y2 : LI) (o : L2) (st : Nat → Nat) : St := ⟨[(4, .one (.ow 3 (st 1)))], [none, some (.box (st 2) [.sl false 38 (List.map (cL38 false) a0)]), some (.rows (st 3) (st 3) 3 (List.map cI y2)), some (.rows (st 1) (st 4) 31 (List.map (cL31 true) o))], (st 0)⟩
abbrev Q_spec_l5Starts_L0 (a0 : L3) (y2 : LI) (x5b0 : Int) (l3b0 : L2) (o : L2) : Prop := ∀ st : Nat → Nat, LoopG Try.prog cal_spec_l5Starts 1 lm_spec_l5Starts 0 L_spec_l5Starts_L0 (U_spec_l5Starts_L0 a0 y2) (T_spec_l5Starts_L0 a0 y2 x5b0 l3b0 st) o
theorem l_spec_l5Starts_L0 {a0 : L3} {y2 : LI} {x5b0 : Int} {l3b0 : L2} {o : L2} (h : p_spec_l5Starts_L0 a0 y2 x5b0 l3b0 = some o) : Q_spec_l5Starts_L0 a0 y2 x5b0 l3b0 o := by
  refine p_spec_l5Starts_L0.partial_correctness a0 y2 (motive := fun x5b0 l3b0 o => Q_spec_l5Starts_L0 a0 y2 x5b0 l3b0 o) ?_ x5b0 l3b0 o h
  clear h o x5b0 l3b0
  intro p' ih x5b0 l3b0 r h st
  rcases ifc h with ⟨h452, h⟩ | ⟨h452, h⟩
  · obtain ⟨o860, h859, h⟩ := bd h
    have qK861 := l_spec_l5Starts_L2 h859 (sl [(st 0), (st 1), (st 2), (st 3), (st 4)])
    obtain ⟨s862, K861, qK861⟩ := qK861
    refine LoopG.step K861 (fun k hk => ?_) (ih _ _ _ h (sl [(s862 0), (s862 1), (s862 2), (s862 3), (s862 4)]))
    have jK861 := qK861 k (by omega) k (by omega)
    simp (implicitDefEqProofs := false) [-getElem?_pos, -getElem?_neg, Try.f49, h452] at jK861
    simp (implicitDefEqProofs := false) [-getElem?_pos, -getElem?_neg, Try.f49, h452, jK861]
  obtain rfl := Option.some.inj h
  exact LoopG.exit (sl [(st 0), (st 3), (st 1), (st 2), (st 4)]) 0 (fun k hk => by simp (implicitDefEqProofs := false) [-getElem?_pos, -getElem?_neg, Try.f49, h452])
def p_spec_l5Starts (a0 : L3) : Option L2 :=
 p_spec_l5Empties a0 >>= fun y2 =>
 if a0.length * 24 ≤ 140737488355328 then
  some (List.replicate a0.length ([])) >>= fun l4 =>
  p_spec_l5Starts_L0 a0 y2 0 l4 >>= fun o864 =>
  some o864
 else none
theorem t_spec_l5Starts {a0 : L3} {r : L2} (h : p_spec_l5Starts a0 = some r) : ∃ k, told Try.prog (cal_spec_l5Starts k) k lm_spec_l5Starts Try.f49 (arg_spec_l5Starts a0) = some (res_spec_l5Starts r) := by
  unfold p_spec_l5Starts at h
  obtain ⟨y2, h1, h⟩ := bd h
  have h1c := c_spec_l5Empties h1
  obtain ⟨h3, h⟩ := ifg h
  have h3b : a0.length ≤ 9223372036854775807 := by omega
  obtain ⟨l4, h5, h⟩ := bd h
  have h5r : List.replicate a0.length [.sl true 3 []] = List.map (cL31 true) l4 := by rw [← Option.some.inj h5]; simp
  obtain ⟨o864, h863, h⟩ := bd h
  have qK865 := l_spec_l5Starts_L0 h863 (sl [4, 1, 2, 3, 3])
  obtain ⟨s866, K865, qK865⟩ := qK865
  obtain rfl := Option.some.inj h
  obtain ⟨k, hk⟩ : ∃ k, K865 ≤ k := ⟨_, Nat.le_refl _⟩
  have jK865 := qK865 k (by omega) k (by omega)
  simp (implicitDefEqProofs := false) [-getElem?_pos, -getElem?_neg, Try.f49, h1c, h3, h3b, h5r] at jK865
  refine ⟨k, ?_⟩
  simp (implicitDefEqProofs := false) [-getElem?_pos, -getElem?_neg, Try.f49, h1c, h3, h3b, h5r, jK865]
theorem inj_spec_l5Starts : ∀ a b, arg_spec_l5Starts a = arg_spec_l5Starts b → a = b := by
  intro x y h; simp [arg_spec_l5Starts] at h; simp [Prod.ext_iff, h]
noncomputable def F_spec_l5Starts : Con := nilfix [[some 38]] (pcon arg_spec_l5Starts (fun a => p_spec_l5Starts a) res_spec_l5Starts)
theorem fn_spec_l5Starts : Fn Try.prog 49 F_spec_l5Starts := (Fn.pure cal_spec_l5Starts (fun k w0 h0 => ok_spec_l5Starts k w0 h0) mixed Try.func49 rfl rfl (by kernel_rfl) 1 (by decide) (fun _ => rfl) lm_spec_l5Starts (fun a b h => t_spec_l5Starts h)).nilfix _
theorem c_spec_l5Starts {a0 : L3} {r : L2} (h : p_spec_l5Starts a0 = some r) : F_spec_l5Starts [.agg [.sl false 38 (List.map (cL38 false) a0)]] = some (((false, [none]), [.sl true 31 (List.map (cL31 true) r)])) := pcon_at (arg := arg_spec_l5Starts) (p := fun a => p_spec_l5Starts a) (res := res_spec_l5Starts) (a := a0) (b := r) inj_spec_l5Starts h
noncomputable def cal_spec_l6Alive (k : Nat) : Cal := calI (tabOf [(50, F_spec_SetHas)]) (inlOf [])
@[simp] theorem cal_spec_l6Alive_ap (k g : Nat) (vs : List TV) (mem : Mem) (ep : Nat) : cal_spec_l6Alive k g vs mem ep = calI (tabOf [(50, F_spec_SetHas)]) (inlOf []) g vs mem ep := rfl
theorem ok_spec_l6Alive (k : Nat) (w0 : World) (h0 : True) : CalOk Try.prog w0.heap.size w0 (cal_spec_l6Alive k) := by
  exact calI_ok (J := fun _ => True) stab_true (tabOf_ok _ (by simp [fn_spec_SetHas])) (inlOf_ok _ (by simp [])) h0
@[simp] def lm_spec_l6Alive : Nat → List Nat × Nat := fun b => if b = 0 then ([0, 1, 5], 0) else if b = 2000000 then ([], 8888888) else if b = 3000000 then ([], 0) else ([], 0)
@[simp] def arg_spec_l6Alive (a : LI × LI) : List TV := [.one (.sl false 3 (List.map cI a.1)), .one (.sl false 3 (List.map cI a.2))]
@[simp] def res_spec_l6Alive (r : Bool) : Sh × List V := ((false, [none]), [.lit (.bool r)])
def p_spec_l6Alive_L0 (a0 : LI) (a1 : LI) (x5b0 : Int) : Option (Bool ⊕ Unit) :=
 if x5b0 < (a0.length : Int) then
  if 0 ≤ x5b0 then
   a0[x5b0.toNat]? >>= fun y18 =>
   if 100 ≤ y18 then
    p_spec_SetHas a1 (IntKind.wrap .i64 (y18 - 100)) >>= fun y22 =>
    if y22 then
     p_spec_l6Alive_L0 a0 a1 (IntKind.wrap .i64 (x5b0 + 1))
    else
     some (.inl false)
   else
    p_spec_l6Alive_L0 a0 a1 (IntKind.wrap .i64 (x5b0 + 1))
  else none
 else
  some (.inr ())
partial_fixpoint
@[simp] noncomputable def L_spec_l6Alive_L0 : Code := nav [1, 0, 1, 0, 0] (bodyOf Try.f69)
@[simp] def T_spec_l6Alive_L0 (a0 : LI) (a1 : LI) (x5b0 : Int) (st : Nat → Nat) : St := ⟨[(0, .one (.sl false 3 (List.map cI a0))), (1, .one (.sl false 3 (List.map cI a1))), (5, .one (.lit (.int .i64 x5b0)))], [none], (st 0)⟩
@[simp] def U_spec_l6Alive_L0 (a0 : LI) (a1 : LI) (o : Unit) (st : Nat → Nat) : St := ⟨[], [none], (st 0)⟩
abbrev Q_spec_l6Alive_L0 (a0 : LI) (a1 : LI) (x5b0 : Int) (o : Bool ⊕ Unit) : Prop := ∀ st : Nat → Nat, LoopT Try.prog cal_spec_l6Alive 1 lm_spec_l6Alive 0 L_spec_l6Alive_L0 (tellS Try.prog lm_spec_l6Alive [.tmp 4]) res_spec_l6Alive (U_spec_l6Alive_L0 a0 a1) (T_spec_l6Alive_L0 a0 a1 x5b0 st) o
theorem l_spec_l6Alive_L0 {a0 : LI} {a1 : LI} {x5b0 : Int} {o : Bool ⊕ Unit} (h : p_spec_l6Alive_L0 a0 a1 x5b0 = some o) : Q_spec_l6Alive_L0 a0 a1 x5b0 o := by
  refine p_spec_l6Alive_L0.partial_correctness a0 a1 (motive := fun x5b0 o => Q_spec_l6Alive_L0 a0 a1 x5b0 o) ?_ x5b0 o h
  clear h o x5b0
  intro p' ih x5b0 r h st
  rcases ifc h with ⟨h16, h⟩ | ⟨h16, h⟩
  · obtain ⟨h17, h⟩ := ifg h
    obtain ⟨y18, h19, h⟩ := bd h
    rcases ifc h with ⟨h20, h⟩ | ⟨h20, h⟩
    · obtain ⟨y22, h21, h⟩ := bd h
      have h21c := c_spec_SetHas h21
      try simp (implicitDefEqProofs := false) [-getElem?_pos, -getElem?_neg] at h21c
      rcases ifb h with ⟨h23, h⟩ | ⟨h23, h⟩
      · exact LoopT.step 0 (fun k hk => by simp (implicitDefEqProofs := false) [-getElem?_pos, -getElem?_neg, Try.f69, h16, h17, h19, h20, h21c, h23]) (ih _ _ h (sl [((st 0) + 1)]))
      obtain rfl := Option.some.inj h
      exact LoopT.ret 0 (fun k hk => by simp (implicitDefEqProofs := false) [-getElem?_pos, -getElem?_neg, Try.f69, h16, h17, h19, h20, h21c, h23])
    exact LoopT.step 0 (fun k hk => by simp (implicitDefEqProofs := false) [-getElem?_pos, -getElem?_neg, Try.f69, h16, h17, h19, h20]) (ih _ _ h (sl [(st 0)]))
  obtain rfl := Option.some.inj h
  exact LoopT.exit (sl [(st 0)]) 0 (fun k hk => by simp (implicitDefEqProofs := false) [-getElem?_pos, -getElem?_neg, Try.f69, h16])
def p_spec_l6Alive (a0 : LI) (a1 : LI) : Option Bool :=
 p_spec_l6Alive_L0 a0 a1 0 >>= fun o25 => match o25 with
 | .inl o25 =>
  some o25
 | .inr o25 =>
  some true
theorem t_spec_l6Alive {a0 : LI} {a1 : LI} {r : Bool} (h : p_spec_l6Alive a0 a1 = some r) : ∃ k, told Try.prog (cal_spec_l6Alive k) k lm_spec_l6Alive Try.f69 (arg_spec_l6Alive (a0, a1)) = some (res_spec_l6Alive r) := by
  unfold p_spec_l6Alive at h
  obtain ⟨o25, h24, h⟩ := bd h
  have qK26 := l_spec_l6Alive_L0 h24 (sl [1])
  rcases o25 with o25 | o25
  · obtain ⟨K26, qK26⟩ := qK26
    obtain rfl := Option.some.inj h
    obtain ⟨k, hk⟩ : ∃ k, K26 ≤ k := ⟨_, Nat.le_refl _⟩
    obtain ⟨S_K26, jK26, iK26⟩ := qK26 k (by omega) k (by omega)
    simp (implicitDefEqProofs := false) [-getElem?_pos, -getElem?_neg, Try.f69] at jK26
    refine ⟨k, ?_⟩
    simp (implicitDefEqProofs := false) [-getElem?_pos, -getElem?_neg, Try.f69, iK26, jK26]
  obtain ⟨s27, K26, qK26⟩ := qK26
  obtain rfl := Option.some.inj h
  obtain ⟨k, hk⟩ : ∃ k, K26 ≤ k := ⟨_, Nat.le_refl _⟩
  have jK26 := qK26 k (by omega) k (by omega)
  simp (implicitDefEqProofs := false) [-getElem?_pos, -getElem?_neg, Try.f69] at jK26
  refine ⟨k, ?_⟩
  simp (implicitDefEqProofs := false) [-getElem?_pos, -getElem?_neg, Try.f69, jK26]
theorem inj_spec_l6Alive : ∀ a b, arg_spec_l6Alive a = arg_spec_l6Alive b → a = b := by
  rintro ⟨x0, x1⟩ ⟨y0, y1⟩ h; simp [arg_spec_l6Alive] at h; simp [Prod.ext_iff, h]
noncomputable def F_spec_l6Alive : Con := nilfix [[some 3], [some 3]] (pcon arg_spec_l6Alive (fun a => p_spec_l6Alive a.1 a.2) res_spec_l6Alive)
theorem fn_spec_l6Alive : Fn Try.prog 69 F_spec_l6Alive := (Fn.pure cal_spec_l6Alive (fun k w0 h0 => ok_spec_l6Alive k w0 h0) mixed Try.func69 rfl rfl (by kernel_rfl) 2 (by decide) (fun _ => rfl) lm_spec_l6Alive (fun a b h => t_spec_l6Alive h)).nilfix _
theorem c_spec_l6Alive {a0 : LI} {a1 : LI} {r : Bool} (h : p_spec_l6Alive a0 a1 = some r) : F_spec_l6Alive [.one (.sl false 3 (List.map cI a0)), .one (.sl false 3 (List.map cI a1))] = some (((false, [none]), [.lit (.bool r)])) := pcon_at (arg := arg_spec_l6Alive) (p := fun a => p_spec_l6Alive a.1 a.2) (res := res_spec_l6Alive) (a := (a0, a1)) (b := r) inj_spec_l6Alive h
noncomputable def cal_spec_Productive (k : Nat) : Cal := calI (tabOf [(48, F_spec_GramOk), (57, F_spec_SetAdd), (69, F_spec_l6Alive)]) (inlOf [])
@[simp] theorem cal_spec_Productive_ap (k g : Nat) (vs : List TV) (mem : Mem) (ep : Nat) : cal_spec_Productive k g vs mem ep = calI (tabOf [(48, F_spec_GramOk), (57, F_spec_SetAdd), (69, F_spec_l6Alive)]) (inlOf []) g vs mem ep := rfl
theorem ok_spec_Productive (k : Nat) (w0 : World) (h0 : True) : CalOk Try.prog w0.heap.size w0 (cal_spec_Productive k) := by
  exact calI_ok (J := fun _ => True) stab_true (tabOf_ok _ (by simp [fn_spec_GramOk, fn_spec_SetAdd, fn_spec_l6Alive])) (inlOf_ok _ (by simp [])) h0
@[simp] def lm_spec_Productive : Nat → List Nat × Nat := fun b => if b = 4 then ([1, 3, 4, 5, 6], 2) else if b = 2000004 then ([1, 3, 0, 2], 8888888) else if b = 3000004 then ([1, 3, 4, 5], 2) else if b = 2 then ([1, 3, 4, 5], 2) else if b = 2000002 then ([], 8888888) else if b = 3000002 then ([1, 3, 4], 2) else if b = 0 then ([1, 3, 4], 2) else if b = 2000000 then ([], 8888888) else if b = 3000000 then ([3], 2) else ([], 0)
@[simp] def arg_spec_Productive (a : L3) : List TV := [.agg [.sl false 38 (List.map (cL38 false) a)]]
@[simp] def res_spec_Productive (r : LI) : Sh × List V := ((false, [none]), [.sl true 3 (List.map cI r)])
def p_spec_Productive_L4 (x4b0 : Int) (x5b2 : Int) (a0 : L3) (x6b4 : Int) (l2b4 : LI) : Option LI :=
 if 0 ≤ x5b2 then
  a0[x5b2.toNat]? >>= fun y202 =>
  if x6b4 < (y202.length : Int) then
   if 0 ≤ x6b4 then
    y202[x6b4.toNat]? >>= fun y206 =>
    p_spec_l6Alive y206 l2b4 >>= fun y209 =>
    if y209 then
     p_spec_SetAdd l2b4 x5b2 >>= fun y212 =>
     p_spec_Productive_L4 x4b0 x5b2 a0 (IntKind.wrap .i64 (x6b4 + 1)) y212
    else
     p_spec_Productive_L4 x4b0 x5b2 a0 (IntKind.wrap .i64 (x6b4 + 1)) l2b4
   else none
  else
   some l2b4
 else none
partial_fixpoint
@[simp] noncomputable def L_spec_Productive_L4 : Code := nav [1, 1, 1, 0, 1, 0, 0, 1, 0, 0, 1, 0, 0, 1, 0, 0, 1, 0, 0] (bodyOf Try.f51)
@[simp] def T_spec_Productive_L4 (x4b0 : Int) (x5b2 : Int) (a0 : L3) (x6b4 : Int) (l2b4 : LI) (st : Nat → Nat) : St := ⟨[(1, .one (.bp 1 (st 1) 0)), (3, .one (.ow 2 (st 2))), (4, .one (.lit (.int .i64 x4b0))), (5, .one (.lit (.int .i64 x5b2))), (6, .one (.lit (.int .i64 x6b4)))], [none, some (.box (st 1) [.sl false 38 (List.map (cL38 false) a0)]), some (.rows (st 2) (st 2) 3 (List.map cI l2b4))], (st 0)⟩
@[simp] def U_spec_Productive_L4 (x4b0 : Int) (x5b2 : Int) (a0 : L3) (o : LI) (st : Nat → Nat) : St := ⟨[(1, .one (.bp 1 (st 1) 0)), (3, .one (.ow 2 (st 2))), (4, .one (.lit (.int .i64 x4b0))), (5, .one (.lit (.int .i64 x5b2)))], [none, some (.box (st 1) [.sl false 38 (List.map (cL38 false) a0)]), some (.rows (st 2) (st 2) 3 (List.map cI o))], (st 0)⟩
abbrev Q_spec_Productive_L4 (x4b0 : Int) (x5b2 : Int) (a0 : L3) (x6b4 : Int) (l2b4 : LI) (o : LI) : Prop := ∀ st : Nat → Nat, LoopG Try.prog cal_spec_Productive 1 lm_spec_Productive 4 L_spec_Productive_L4 (U_spec_Productive_L4 x4b0 x5b2 a0) (T_spec_Productive_L4 x4b0 x5b2 a0 x6b4 l2b4 st) o
theorem l_spec_Productive_L4 {x4b0 : Int} {x5b2 : Int} {a0 : L3} {x6b4 : Int} {l2b4 : LI} {o : LI} (h : p_spec_Productive_L4 x4b0 x5b2 a0 x6b4 l2b4 = some o) : Q_spec_Productive_L4 x4b0 x5b2 a0 x6b4 l2b4 o := by
  refine p_spec_Productive_L4.partial_correctness x4b0 x5b2 a0 (motive := fun x6b4 l2b4 o => Q_spec_Productive_L4 x4b0 x5b2 a0 x6b4 l2b4 o) ?_ x6b4 l2b4 o h
  clear h o x6b4 l2b4
  intro p' ih x6b4 l2b4 r h st
  obtain ⟨h201, h⟩ := ifg h
  obtain ⟨y202, h203, h⟩ := bd h
  rcases ifc h with ⟨h204, h⟩ | ⟨h204, h⟩
  · obtain ⟨h205, h⟩ := ifg h
    obtain ⟨y206, h207, h⟩ := bd h
    obtain ⟨y209, h208, h⟩ := bd h
    have h208c := c_spec_l6Alive h208
    rcases ifb h with ⟨h210, h⟩ | ⟨h210, h⟩
    · obtain ⟨y212, h211, h⟩ := bd h
      have h211c := c_spec_SetAdd h211
      exact LoopG.step 0 (fun k hk => by simp (implicitDefEqProofs := false) [-getElem?_pos, -getElem?_neg, Try.f51, h201, h203, h204, h205, h207, h208c, h210, h211c]) (ih _ _ _ h (sl [((st 0) + 3), (st 1), ((st 0) + 2)]))
    exact LoopG.step 0 (fun k hk => by simp (implicitDefEqProofs := false) [-getElem?_pos, -getElem?_neg, Try.f51, h201, h203, h204, h205, h207, h208c, h210]) (ih _ _ _ h (sl [((st 0) + 2), (st 1), ((st 0) + 1)]))
  obtain rfl := Option.some.inj h
  exact LoopG.exit (sl [(st 0), (st 1), (st 2)]) 0 (fun k hk => by simp (implicitDefEqProofs := false) [-getElem?_pos, -getElem?_neg, Try.f51, h201, h203, h204])
def p_spec_Productive_L2 (x4b0 : Int) (a0 : L3) (x5b2 : Int) (l2b2 : LI) : Option LI :=
 if x5b2 < (a0.length : Int) then
  p_spec_Productive_L4 x4b0 x5b2 a0 0 l2b2 >>= fun o214 =>
  p_spec_Productive_L2 x4b0 a0 (IntKind.wrap .i64 (x5b2 + 1)) o214
 else
  some l2b2
partial_fixpoint
@[simp] noncomputable def L_spec_Productive_L2 : Code := nav [1, 1, 1, 0, 1, 0, 0, 1, 0, 0, 1, 0, 0] (bodyOf Try.f51)
@[simp] def T_spec_Productive_L2 (x4b0 : Int) (a0 : L3) (x5b2 : Int) (l2b2 : LI) (st : Nat → Nat) : St := ⟨[(1, .one (.bp 1 (st 1) 0)), (3, .one (.ow 2 (st 2))), (4, .one (.lit (.int .i64 x4b0))), (5, .one (.lit (.int .i64 x5b2)))], [none, some (.box (st 1) [.sl false 38 (List.map (cL38 false) a0)]), some (.rows (st 2) (st 2) 3 (List.map cI l2b2))], (st 0)⟩
@[simp] def U_spec_Productive_L2 (x4b0 : Int) (a0 : L3) (o : LI) (st : Nat → Nat) : St := ⟨[(1, .one (.bp 1 (st 1) 0)), (3, .one (.ow 2 (st 2))), (4, .one (.lit (.int .i64 x4b0)))], [none, some (.box (st 1) [.sl false 38 (List.map (cL38 false) a0)]), some (.rows (st 2) (st 2) 3 (List.map cI o))], (st 0)⟩
abbrev Q_spec_Productive_L2 (x4b0 : Int) (a0 : L3) (x5b2 : Int) (l2b2 : LI) (o : LI) : Prop := ∀ st : Nat → Nat, LoopG Try.prog cal_spec_Productive 1 lm_spec_Productive 2 L_spec_Productive_L2 (U_spec_Productive_L2 x4b0 a0) (T_spec_Productive_L2 x4b0 a0 x5b2 l2b2 st) o
theorem l_spec_Productive_L2 {x4b0 : Int} {a0 : L3} {x5b2 : Int} {l2b2 : LI} {o : LI} (h : p_spec_Productive_L2 x4b0 a0 x5b2 l2b2 = some o) : Q_spec_Productive_L2 x4b0 a0 x5b2 l2b2 o := by
  refine p_spec_Productive_L2.partial_correctness x4b0 a0 (motive := fun x5b2 l2b2 o => Q_spec_Productive_L2 x4b0 a0 x5b2 l2b2 o) ?_ x5b2 l2b2 o h
  clear h o x5b2 l2b2
  intro p' ih x5b2 l2b2 r h st
  rcases ifc h with ⟨h177, h⟩ | ⟨h177, h⟩
  · obtain ⟨o214, h213, h⟩ := bd h
    have qK215 := l_spec_Productive_L4 h213 (sl [((st 0) + 1), (st 1), (st 0)])
    obtain ⟨s216, K215, qK215⟩ := qK215
    refine LoopG.step K215 (fun k hk => ?_) (ih _ _ _ h (sl [(s216 0), (s216 1), (s216 2)]))
    have jK215 := qK215 k (by omega) k (by omega)
    simp (implicitDefEqProofs := false) [-getElem?_pos, -getElem?_neg, Try.f51, h177] at jK215
    simp (implicitDefEqProofs := false) [-getElem?_pos, -getElem?_neg, Try.f51, h177, jK215]
  obtain rfl := Option.some.inj h
  exact LoopG.exit (sl [(st 0), (st 1), (st 2)]) 0 (fun k hk => by simp (implicitDefEqProofs := false) [-getElem?_pos, -getElem?_neg, Try.f51, h177])
def p_spec_Productive_L0 (a0 : L3) (x4b0 : Int) (l2b0 : LI) : Option LI :=
 if x4b0 ≤ (a0.length : Int) then
  p_spec_Productive_L2 x4b0 a0 0 l2b0 >>= fun o218 =>
  p_spec_Productive_L0 a0 (IntKind.wrap .i64 (x4b0 + 1)) o218
 else
  some l2b0
partial_fixpoint
@[simp] noncomputable def L_spec_Productive_L0 : Code := nav [1, 1, 1, 0, 1, 0, 0] (bodyOf Try.f51)
@[simp] def T_spec_Productive_L0 (a0 : L3) (x4b0 : Int) (l2b0 : LI) (st : Nat → Nat) : St := ⟨[(1, .one (.bp 1 (st 1) 0)), (3, .one (.ow 2 (st 2))), (4, .one (.lit (.int .i64 x4b0)))], [none, some (.box (st 1) [.sl false 38 (List.map (cL38 false) a0)]), some (.rows (st 2) (st 2) 3 (List.map cI l2b0))], (st 0)⟩
@[simp] def U_spec_Productive_L0 (a0 : L3) (o : LI) (st : Nat → Nat) : St := ⟨[(3, .one (.ow 2 (st 1)))], [none, some (.box (st 2) [.sl false 38 (List.map (cL38 false) a0)]), some (.rows (st 1) (st 1) 3 (List.map cI o))], (st 0)⟩
abbrev Q_spec_Productive_L0 (a0 : L3) (x4b0 : Int) (l2b0 : LI) (o : LI) : Prop := ∀ st : Nat → Nat, LoopG Try.prog cal_spec_Productive 1 lm_spec_Productive 0 L_spec_Productive_L0 (U_spec_Productive_L0 a0) (T_spec_Productive_L0 a0 x4b0 l2b0 st) o
theorem l_spec_Productive_L0 {a0 : L3} {x4b0 : Int} {l2b0 : LI} {o : LI} (h : p_spec_Productive_L0 a0 x4b0 l2b0 = some o) : Q_spec_Productive_L0 a0 x4b0 l2b0 o := by
  refine p_spec_Productive_L0.partial_correctness a0 (motive := fun x4b0 l2b0 o => Q_spec_Productive_L0 a0 x4b0 l2b0 o) ?_ x4b0 l2b0 o h
  clear h o x4b0 l2b0
  intro p' ih x4b0 l2b0 r h st
  rcases ifc h with ⟨h122, h⟩ | ⟨h122, h⟩
  · obtain ⟨o218, h217, h⟩ := bd h
    have qK219 := l_spec_Productive_L2 h217 (sl [(st 0), (st 1), (st 2)])
    obtain ⟨s220, K219, qK219⟩ := qK219
    refine LoopG.step K219 (fun k hk => ?_) (ih _ _ _ h (sl [(s220 0), (s220 1), (s220 2)]))
    have jK219 := qK219 k (by omega) k (by omega)
    simp (implicitDefEqProofs := false) [-getElem?_pos, -getElem?_neg, Try.f51, h122] at jK219
    simp (implicitDefEqProofs := false) [-getElem?_pos, -getElem?_neg, Try.f51, h122, jK219]
  obtain rfl := Option.some.inj h
  exact LoopG.exit (sl [(st 0), (st 2), (st 1)]) 0 (fun k hk => by simp (implicitDefEqProofs := false) [-getElem?_pos, -getElem?_neg, Try.f51, h122])
def p_spec_Productive (a0 : L3) : Option LI :=
 p_spec_GramOk a0 >>= fun y2 =>
 if y2 then
  p_spec_Productive_L0 a0 0 ([]) >>= fun o222 =>
  some o222
 else
  some ([])
theorem t_spec_Productive {a0 : L3} {r : LI} (h : p_spec_Productive a0 = some r) : ∃ k, told Try.prog (cal_spec_Productive k) k lm_spec_Productive Try.f51 (arg_spec_Productive a0) = some (res_spec_Productive r) := by
  unfold p_spec_Productive at h
  obtain ⟨y2, h1, h⟩ := bd h
  have h1c := c_spec_GramOk h1
  rcases ifb h with ⟨h3, h⟩ | ⟨h3, h⟩
  · obtain ⟨o222, h221, h⟩ := bd h
    have qK223 := l_spec_Productive_L0 h221 (sl [4, 1, 2])
    obtain ⟨s224, K223, qK223⟩ := qK223
    obtain rfl := Option.some.inj h
    obtain ⟨k, hk⟩ : ∃ k, K223 ≤ k := ⟨_, Nat.le_refl _⟩
    have jK223 := qK223 k (by omega) k (by omega)
    simp (implicitDefEqProofs := false) [-getElem?_pos, -getElem?_neg, Try.f51, h1c, h3] at jK223
    refine ⟨k, ?_⟩
    simp (implicitDefEqProofs := false) [-getElem?_pos, -getElem?_neg, Try.f51, h1c, h3, jK223]
  obtain rfl := Option.some.inj h
  obtain ⟨k, hk⟩ : ∃ k, 0 ≤ k := ⟨_, Nat.le_refl _⟩
  refine ⟨k, ?_⟩
  simp (implicitDefEqProofs := false) [-getElem?_pos, -getElem?_neg, Try.f51, h1c, h3]
theorem inj_spec_Productive : ∀ a b, arg_spec_Productive a = arg_spec_Productive b → a = b := by
  intro x y h; simp [arg_spec_Productive] at h; simp [Prod.ext_iff, h]
noncomputable def F_spec_Productive : Con := nilfix [[some 38]] (pcon arg_spec_Productive (fun a => p_spec_Productive a) res_spec_Productive)
theorem fn_spec_Productive : Fn Try.prog 51 F_spec_Productive := (Fn.pure cal_spec_Productive (fun k w0 h0 => ok_spec_Productive k w0 h0) mixed Try.func51 rfl rfl (by kernel_rfl) 1 (by decide) (fun _ => rfl) lm_spec_Productive (fun a b h => t_spec_Productive h)).nilfix _
theorem c_spec_Productive {a0 : L3} {r : LI} (h : p_spec_Productive a0 = some r) : F_spec_Productive [.agg [.sl false 38 (List.map (cL38 false) a0)]] = some (((false, [none]), [.sl true 3 (List.map cI r)])) := pcon_at (arg := arg_spec_Productive) (p := fun a => p_spec_Productive a) (res := res_spec_Productive) (a := a0) (b := r) inj_spec_Productive h
noncomputable def cal_spec_Reachable (k : Nat) : Cal := calI (tabOf [(48, F_spec_GramOk), (50, F_spec_SetHas), (57, F_spec_SetAdd)]) (inlOf [])
@[simp] theorem cal_spec_Reachable_ap (k g : Nat) (vs : List TV) (mem : Mem) (ep : Nat) : cal_spec_Reachable k g vs mem ep = calI (tabOf [(48, F_spec_GramOk), (50, F_spec_SetHas), (57, F_spec_SetAdd)]) (inlOf []) g vs mem ep := rfl
theorem ok_spec_Reachable (k : Nat) (w0 : World) (h0 : True) : CalOk Try.prog w0.heap.size w0 (cal_spec_Reachable k) := by
  exact calI_ok (J := fun _ => True) stab_true (tabOf_ok _ (by simp [fn_spec_GramOk, fn_spec_SetHas, fn_spec_SetAdd])) (inlOf_ok _ (by simp [])) h0
@[simp] def lm_spec_Reachable : Nat → List Nat × Nat := fun b => if b = 6 then ([1, 3, 4, 5, 6, 7], 2) else if b = 2000006 then ([1, 3, 0, 2], 8888888) else if b = 3000006 then ([1, 3, 4, 5, 6], 2) else if b = 4 then ([1, 3, 4, 5, 6], 2) else if b = 2000004 then ([], 8888888) else if b = 3000004 then ([1, 3, 4, 5], 2) else if b = 2 then ([1, 3, 4, 5], 2) else if b = 2000002 then ([], 8888888) else if b = 3000002 then ([1, 3, 4], 2) else if b = 0 then ([1, 3, 4], 2) else if b = 2000000 then ([], 8888888) else if b = 3000000 then ([3], 2) else ([], 0)
@[simp] def arg_spec_Reachable (a : L3) : List TV := [.agg [.sl false 38 (List.map (cL38 false) a)]]
@[simp] def res_spec_Reachable (r : LI) : Sh × List V := ((false, [none]), [.sl true 3 (List.map cI r)])
def p_spec_Reachable_L6 (x4b0 : Int) (x5b2 : Int) (x6b4 : Int) (a0 : L3) (x7b6 : Int) (l2b6 : LI) : Option LI :=
 if 0 ≤ x5b2 then
  a0[x5b2.toNat]? >>= fun y527 =>
  if 0 ≤ x6b4 then
   y527[x6b4.toNat]? >>= fun y530 =>
   if x7b6 < (y530.length : Int) then
    if 0 ≤ x7b6 then
     y530[x7b6.toNat]? >>= fun y534 =>
     if 100 ≤ y534 then
      p_spec_SetAdd l2b6 (IntKind.wrap .i64 (y534 - 100)) >>= fun y538 =>
      p_spec_Reachable_L6 x4b0 x5b2 x6b4 a0 (IntKind.wrap .i64 (x7b6 + 1)) y538
     else
      p_spec_Reachable_L6 x4b0 x5b2 x6b4 a0 (IntKind.wrap .i64 (x7b6 + 1)) l2b6
    else none
   else
    some l2b6
  else none
 else none
partial_fixpoint
@[simp] noncomputable def L_spec_Reachable_L6 : Code := nav [1, 1, 1, 0, 1, 0, 0, 1, 0, 0, 1, 0, 0, 1, 0, 0, 1, 1, 0, 0, 1, 0, 0, 1, 0, 0] (bodyOf Try.f52)
@[simp] def T_spec_Reachable_L6 (x4b0 : Int) (x5b2 : Int) (x6b4 : Int) (a0 : L3) (x7b6 : Int) (l2b6 : LI) (st : Nat → Nat) : St := ⟨[(1, .one (.bp 1 (st 1) 0)), (3, .one (.ow 2 (st 2))), (4, .one (.lit (.int .i64 x4b0))), (5, .one (.lit (.int .i64 x5b2))), (6, .one (.lit (.int .i64 x6b4))), (7, .one (.lit (.int .i64 x7b6)))], [none, some (.box (st 1) [.sl false 38 (List.map (cL38 false) a0)]), some (.rows (st 2) (st 2) 3 (List.map cI l2b6))], (st 0)⟩
@[simp] def U_spec_Reachable_L6 (x4b0 : Int) (x5b2 : Int) (x6b4 : Int) (a0 : L3) (o : LI) (st : Nat → Nat) : St := ⟨[(1, .one (.bp 1 (st 1) 0)), (3, .one (.ow 2 (st 2))), (4, .one (.lit (.int .i64 x4b0))), (5, .one (.lit (.int .i64 x5b2))), (6, .one (.lit (.int .i64 x6b4)))], [none, some (.box (st 1) [.sl false 38 (List.map (cL38 false) a0)]), some (.rows (st 2) (st 2) 3 (List.map cI o))], (st 0)⟩
abbrev Q_spec_Reachable_L6 (x4b0 : Int) (x5b2 : Int) (x6b4 : Int) (a0 : L3) (x7b6 : Int) (l2b6 : LI) (o : LI) : Prop := ∀ st : Nat → Nat, LoopG Try.prog cal_spec_Reachable 1 lm_spec_Reachable 6 L_spec_Reachable_L6 (U_spec_Reachable_L6 x4b0 x5b2 x6b4 a0) (T_spec_Reachable_L6 x4b0 x5b2 x6b4 a0 x7b6 l2b6 st) o
theorem l_spec_Reachable_L6 {x4b0 : Int} {x5b2 : Int} {x6b4 : Int} {a0 : L3} {x7b6 : Int} {l2b6 : LI} {o : LI} (h : p_spec_Reachable_L6 x4b0 x5b2 x6b4 a0 x7b6 l2b6 = some o) : Q_spec_Reachable_L6 x4b0 x5b2 x6b4 a0 x7b6 l2b6 o := by
  refine p_spec_Reachable_L6.partial_correctness x4b0 x5b2 x6b4 a0 (motive := fun x7b6 l2b6 o => Q_spec_Reachable_L6 x4b0 x5b2 x6b4 a0 x7b6 l2b6 o) ?_ x7b6 l2b6 o h
  clear h o x7b6 l2b6
  intro p' ih x7b6 l2b6 r h st
  obtain ⟨h526, h⟩ := ifg h
  obtain ⟨y527, h528, h⟩ := bd h
  obtain ⟨h529, h⟩ := ifg h
  obtain ⟨y530, h531, h⟩ := bd h
  rcases ifc h with ⟨h532, h⟩ | ⟨h532, h⟩
  · obtain ⟨h533, h⟩ := ifg h
    obtain ⟨y534, h535, h⟩ := bd h
    rcases ifc h with ⟨h536, h⟩ | ⟨h536, h⟩
    · obtain ⟨y538, h537, h⟩ := bd h
      have h537c := c_spec_SetAdd h537
      try simp (implicitDefEqProofs := false) [-getElem?_pos, -getElem?_neg] at h537c
      exact LoopG.step 0 (fun k hk => by simp (implicitDefEqProofs := false) [-getElem?_pos, -getElem?_neg, Try.f52, h526, h528, h529, h531, h532, h533, h535, h536, h537c]) (ih _ _ _ h (sl [((st 0) + 2), (st 1), ((st 0) + 1)]))
    exact LoopG.step 0 (fun k hk => by simp (implicitDefEqProofs := false) [-getElem?_pos, -getElem?_neg, Try.f52, h526, h528, h529, h531, h532, h533, h535, h536]) (ih _ _ _ h (sl [((st 0) + 1), (st 1), (st 0)]))
  obtain rfl := Option.some.inj h
  exact LoopG.exit (sl [(st 0), (st 1), (st 2)]) 0 (fun k hk => by simp (implicitDefEqProofs := false) [-getElem?_pos, -getElem?_neg, Try.f52, h526, h528, h529, h531, h532])
def p_spec_Reachable_L4 (x4b0 : Int) (x5b2 : Int) (a0 : L3) (x6b4 : Int) (l2b4 : LI) : Option LI :=
 if 0 ≤ x5b2 then
  a0[x5b2.toNat]? >>= fun y498 =>
  if x6b4 < (y498.length : Int) then
   p_spec_Reachable_L6 x4b0 x5b2 x6b4 a0 0 l2b4 >>= fun o540 =>
   p_spec_Reachable_L4 x4b0 x5b2 a0 (IntKind.wrap .i64 (x6b4 + 1)) o540
  else
   some l2b4
 else none
partial_fixpoint
@[simp] noncomputable def L_spec_Reachable_L4 : Code := nav [1, 1, 1, 0, 1, 0, 0, 1, 0, 0, 1, 0, 0, 1, 0, 0, 1, 1, 0, 0] (bodyOf Try.f52)
@[simp] def T_spec_Reachable_L4 (x4b0 : Int) (x5b2 : Int) (a0 : L3) (x6b4 : Int) (l2b4 : LI) (st : Nat → Nat) : St := ⟨[(1, .one (.bp 1 (st 1) 0)), (3, .one (.ow 2 (st 2))), (4, .one (.lit (.int .i64 x4b0))), (5, .one (.lit (.int .i64 x5b2))), (6, .one (.lit (.int .i64 x6b4)))], [none, some (.box (st 1) [.sl false 38 (List.map (cL38 false) a0)]), some (.rows (st 2) (st 2) 3 (List.map cI l2b4))], (st 0)⟩
@[simp] def U_spec_Reachable_L4 (x4b0 : Int) (x5b2 : Int) (a0 : L3) (o : LI) (st : Nat → Nat) : St := ⟨[(1, .one (.bp 1 (st 1) 0)), (3, .one (.ow 2 (st 2))), (4, .one (.lit (.int .i64 x4b0))), (5, .one (.lit (.int .i64 x5b2)))], [none, some (.box (st 1) [.sl false 38 (List.map (cL38 false) a0)]), some (.rows (st 2) (st 2) 3 (List.map cI o))], (st 0)⟩
abbrev Q_spec_Reachable_L4 (x4b0 : Int) (x5b2 : Int) (a0 : L3) (x6b4 : Int) (l2b4 : LI) (o : LI) : Prop := ∀ st : Nat → Nat, LoopG Try.prog cal_spec_Reachable 1 lm_spec_Reachable 4 L_spec_Reachable_L4 (U_spec_Reachable_L4 x4b0 x5b2 a0) (T_spec_Reachable_L4 x4b0 x5b2 a0 x6b4 l2b4 st) o
theorem l_spec_Reachable_L4 {x4b0 : Int} {x5b2 : Int} {a0 : L3} {x6b4 : Int} {l2b4 : LI} {o : LI} (h : p_spec_Reachable_L4 x4b0 x5b2 a0 x6b4 l2b4 = some o) : Q_spec_Reachable_L4 x4b0 x5b2 a0 x6b4 l2b4 o := by
  refine p_spec_Reachable_L4.partial_correctness x4b0 x5b2 a0 (motive := fun x6b4 l2b4 o => Q_spec_Reachable_L4 x4b0 x5b2 a0 x6b4 l2b4 o) ?_ x6b4 l2b4 o h
  clear h o x6b4 l2b4
  intro p' ih x6b4 l2b4 r h st
  obtain ⟨h497, h⟩ := ifg h
  obtain ⟨y498, h499, h⟩ := bd h
  rcases ifc h with ⟨h500, h⟩ | ⟨h500, h⟩
  · obtain ⟨o540, h539, h⟩ := bd h
    have qK541 := l_spec_Reachable_L6 h539 (sl [((st 0) + 1), (st 1), (st 0)])
    obtain ⟨s542, K541, qK541⟩ := qK541
    refine LoopG.step K541 (fun k hk => ?_) (ih _ _ _ h (sl [(s542 0), (s542 1), (s542 2)]))
    have jK541 := qK541 k (by omega) k (by omega)
    simp (implicitDefEqProofs := false) [-getElem?_pos, -getElem?_neg, Try.f52, h497, h499, h500] at jK541
    simp (implicitDefEqProofs := false) [-getElem?_pos, -getElem?_neg, Try.f52, h497, h499, h500, jK541]
  obtain rfl := Option.some.inj h
  exact LoopG.exit (sl [(st 0), (st 1), (st 2)]) 0 (fun k hk => by simp (implicitDefEqProofs := false) [-getElem?_pos, -getElem?_neg, Try.f52, h497, h499, h500])
def p_spec_Reachable_L2 (x4b0 : Int) (a0 : L3) (x5b2 : Int) (l2b2 : LI) : Option LI :=
 if x5b2 < (a0.length : Int) then
  p_spec_SetHas l2b2 x5b2 >>= fun y431 =>
  if y431 then
   p_spec_Reachable_L4 x4b0 x5b2 a0 0 l2b2 >>= fun o544 =>
   p_spec_Reachable_L2 x4b0 a0 (IntKind.wrap .i64 (x5b2 + 1)) o544
  else
   p_spec_Reachable_L2 x4b0 a0 (IntKind.wrap .i64 (x5b2 + 1)) l2b2
 else
  some l2b2
partial_fixpoint
@[simp] noncomputable def L_spec_Reachable_L2 : Code := nav [1, 1, 1, 0, 1, 0, 0, 1, 0, 0, 1, 0, 0] (bodyOf Try.f52)
@[simp] def T_spec_Reachable_L2 (x4b0 : Int) (a0 : L3) (x5b2 : Int) (l2b2 : LI) (st : Nat → Nat) : St := ⟨[(1, .one (.bp 1 (st 1) 0)), (3, .one (.ow 2 (st 2))), (4, .one (.lit (.int .i64 x4b0))), (5, .one (.lit (.int .i64 x5b2)))], [none, some (.box (st 1) [.sl false 38 (List.map (cL38 false) a0)]), some (.rows (st 2) (st 2) 3 (List.map cI l2b2))], (st 0)⟩
@[simp] def U_spec_Reachable_L2 (x4b0 : Int) (a0 : L3) (o : LI) (st : Nat → Nat) : St := ⟨[(1, .one (.bp 1 (st 1) 0)), (3, .one (.ow 2 (st 2))), (4, .one (.lit (.int .i64 x4b0)))], [none, some (.box (st 1) [.sl false 38 (List.map (cL38 false) a0)]), some (.rows (st 2) (st 2) 3 (List.map cI o))], (st 0)⟩
abbrev Q_spec_Reachable_L2 (x4b0 : Int) (a0 : L3) (x5b2 : Int) (l2b2 : LI) (o : LI) : Prop := ∀ st : Nat → Nat, LoopG Try.prog cal_spec_Reachable 1 lm_spec_Reachable 2 L_spec_Reachable_L2 (U_spec_Reachable_L2 x4b0 a0) (T_spec_Reachable_L2 x4b0 a0 x5b2 l2b2 st) o
theorem l_spec_Reachable_L2 {x4b0 : Int} {a0 : L3} {x5b2 : Int} {l2b2 : LI} {o : LI} (h : p_spec_Reachable_L2 x4b0 a0 x5b2 l2b2 = some o) : Q_spec_Reachable_L2 x4b0 a0 x5b2 l2b2 o := by
  refine p_spec_Reachable_L2.partial_correctness x4b0 a0 (motive := fun x5b2 l2b2 o => Q_spec_Reachable_L2 x4b0 a0 x5b2 l2b2 o) ?_ x5b2 l2b2 o h
  clear h o x5b2 l2b2
  intro p' ih x5b2 l2b2 r h st
  rcases ifc h with ⟨h429, h⟩ | ⟨h429, h⟩
  · obtain ⟨y431, h430, h⟩ := bd h
    have h430c := c_spec_SetHas h430
    rcases ifb h with ⟨h432, h⟩ | ⟨h432, h⟩
    · obtain ⟨o544, h543, h⟩ := bd h
      have qK545 := l_spec_Reachable_L4 h543 (sl [((st 0) + 1), (st 1), (st 2)])
      obtain ⟨s546, K545, qK545⟩ := qK545
      refine LoopG.step K545 (fun k hk => ?_) (ih _ _ _ h (sl [(s546 0), (s546 1), (s546 2)]))
      have jK545 := qK545 k (by omega) k (by omega)
      simp (implicitDefEqProofs := false) [-getElem?_pos, -getElem?_neg, Try.f52, h429, h430c, h432] at jK545
      simp (implicitDefEqProofs := false) [-getElem?_pos, -getElem?_neg, Try.f52, h429, h430c, h432, jK545]
    exact LoopG.step 0 (fun k hk => by simp (implicitDefEqProofs := false) [-getElem?_pos, -getElem?_neg, Try.f52, h429, h430c, h432]) (ih _ _ _ h (sl [((st 0) + 1), (st 1), (st 2)]))
  obtain rfl := Option.some.inj h
  exact LoopG.exit (sl [(st 0), (st 1), (st 2)]) 0 (fun k hk => by simp (implicitDefEqProofs := false) [-getElem?_pos, -getElem?_neg, Try.f52, h429])
def p_spec_Reachable_L0 (a0 : L3) (x4b0 : Int) (l2b0 : LI) : Option LI :=
 if x4b0 ≤ (a0.length : Int) then
  p_spec_Reachable_L2 x4b0 a0 0 l2b0 >>= fun o548 =>
  p_spec_Reachable_L0 a0 (IntKind.wrap .i64 (x4b0 + 1)) o548
 else
  some l2b0
partial_fixpoint
@[simp] noncomputable def L_spec_Reachable_L0 : Code := nav [1, 1, 1, 0, 1, 0, 0] (bodyOf Try.f52)
@[simp] def T_spec_Reachable_L0 (a0 : L3) (x4b0 : Int) (l2b0 : LI) (st : Nat → Nat) : St := ⟨[(1, .one (.bp 1 (st 1) 0)), (3, .one (.ow 2 (st 2))), (4, .one (.lit (.int .i64 x4b0)))], [none, some (.box (st 1) [.sl false 38 (List.map (cL38 false) a0)]), some (.rows (st 2) (st 2) 3 (List.map cI l2b0))], (st 0)⟩
@[simp] def U_spec_Reachable_L0 (a0 : L3) (o : LI) (st : Nat → Nat) : St := ⟨[(3, .one (.ow 2 (st 1)))], [none, some (.box (st 2) [.sl false 38 (List.map (cL38 false) a0)]), some (.rows (st 1) (st 1) 3 (List.map cI o))], (st 0)⟩
abbrev Q_spec_Reachable_L0 (a0 : L3) (x4b0 : Int) (l2b0 : LI) (o : LI) : Prop := ∀ st : Nat → Nat, LoopG Try.prog cal_spec_Reachable 1 lm_spec_Reachable 0 L_spec_Reachable_L0 (U_spec_Reachable_L0 a0) (T_spec_Reachable_L0 a0 x4b0 l2b0 st) o
theorem l_spec_Reachable_L0 {a0 : L3} {x4b0 : Int} {l2b0 : LI} {o : LI} (h : p_spec_Reachable_L0 a0 x4b0 l2b0 = some o) : Q_spec_Reachable_L0 a0 x4b0 l2b0 o := by
  refine p_spec_Reachable_L0.partial_correctness a0 (motive := fun x4b0 l2b0 o => Q_spec_Reachable_L0 a0 x4b0 l2b0 o) ?_ x4b0 l2b0 o h
  clear h o x4b0 l2b0
  intro p' ih x4b0 l2b0 r h st
  rcases ifc h with ⟨h290, h⟩ | ⟨h290, h⟩
  · obtain ⟨o548, h547, h⟩ := bd h
    have qK549 := l_spec_Reachable_L2 h547 (sl [(st 0), (st 1), (st 2)])
    obtain ⟨s550, K549, qK549⟩ := qK549
    refine LoopG.step K549 (fun k hk => ?_) (ih _ _ _ h (sl [(s550 0), (s550 1), (s550 2)]))
    have jK549 := qK549 k (by omega) k (by omega)
    simp (implicitDefEqProofs := false) [-getElem?_pos, -getElem?_neg, Try.f52, h290] at jK549
    simp (implicitDefEqProofs := false) [-getElem?_pos, -getElem?_neg, Try.f52, h290, jK549]
  obtain rfl := Option.some.inj h
  exact LoopG.exit (sl [(st 0), (st 2), (st 1)]) 0 (fun k hk => by simp (implicitDefEqProofs := false) [-getElem?_pos, -getElem?_neg, Try.f52, h290])
def p_spec_Reachable (a0 : L3) : Option LI :=
 p_spec_GramOk a0 >>= fun y2 =>
 if y2 then
  p_spec_Reachable_L0 a0 0 ([0]) >>= fun o552 =>
  some o552
 else
  some ([])
theorem t_spec_Reachable {a0 : L3} {r : LI} (h : p_spec_Reachable a0 = some r) : ∃ k, told Try.prog (cal_spec_Reachable k) k lm_spec_Reachable Try.f52 (arg_spec_Reachable a0) = some (res_spec_Reachable r) := by
  unfold p_spec_Reachable at h
  obtain ⟨y2, h1, h⟩ := bd h
  have h1c := c_spec_GramOk h1
  rcases ifb h with ⟨h3, h⟩ | ⟨h3, h⟩
  · obtain ⟨o552, h551, h⟩ := bd h
    have qK553 := l_spec_Reachable_L0 h551 (sl [4, 1, 3])
    obtain ⟨s554, K553, qK553⟩ := qK553
    obtain rfl := Option.some.inj h
    obtain ⟨k, hk⟩ : ∃ k, K553 ≤ k := ⟨_, Nat.le_refl _⟩
    have jK553 := qK553 k (by omega) k (by omega)
    simp (implicitDefEqProofs := false) [-getElem?_pos, -getElem?_neg, Try.f52, h1c, h3] at jK553
    refine ⟨k, ?_⟩
    simp (implicitDefEqProofs := false) [-getElem?_pos, -getElem?_neg, Try.f52, h1c, h3, jK553]
  obtain rfl := Option.some.inj h
  obtain ⟨k, hk⟩ : ∃ k, 0 ≤ k := ⟨_, Nat.le_refl _⟩
  refine ⟨k, ?_⟩
  simp (implicitDefEqProofs := false) [-getElem?_pos, -getElem?_neg, Try.f52, h1c, h3]
theorem inj_spec_Reachable : ∀ a b, arg_spec_Reachable a = arg_spec_Reachable b → a = b := by
  intro x y h; simp [arg_spec_Reachable] at h; simp [Prod.ext_iff, h]
noncomputable def F_spec_Reachable : Con := nilfix [[some 38]] (pcon arg_spec_Reachable (fun a => p_spec_Reachable a) res_spec_Reachable)
theorem fn_spec_Reachable : Fn Try.prog 52 F_spec_Reachable := (Fn.pure cal_spec_Reachable (fun k w0 h0 => ok_spec_Reachable k w0 h0) mixed Try.func52 rfl rfl (by kernel_rfl) 1 (by decide) (fun _ => rfl) lm_spec_Reachable (fun a b h => t_spec_Reachable h)).nilfix _
theorem c_spec_Reachable {a0 : L3} {r : LI} (h : p_spec_Reachable a0 = some r) : F_spec_Reachable [.agg [.sl false 38 (List.map (cL38 false) a0)]] = some (((false, [none]), [.sl true 3 (List.map cI r)])) := pcon_at (arg := arg_spec_Reachable) (p := fun a => p_spec_Reachable a) (res := res_spec_Reachable) (a := a0) (b := r) inj_spec_Reachable h
noncomputable def cal_spec_Check (k : Nat) : Cal := calI (tabOf [(48, F_spec_GramOk), (49, F_spec_l5Starts), (50, F_spec_SetHas), (51, F_spec_Productive), (52, F_spec_Reachable)]) (inlOf [])
@[simp] theorem cal_spec_Check_ap (k g : Nat) (vs : List TV) (mem : Mem) (ep : Nat) : cal_spec_Check k g vs mem ep = calI (tabOf [(48, F_spec_GramOk), (49, F_spec_l5Starts), (50, F_spec_SetHas), (51, F_spec_Productive), (52, F_spec_Reachable)]) (inlOf []) g vs mem ep := rfl
theorem ok_spec_Check (k : Nat) (w0 : World) (h0 : True) : CalOk Try.prog w0.heap.size w0 (cal_spec_Check k) := by
  exact calI_ok (J := fun _ => True) stab_true (tabOf_ok _ (by simp [fn_spec_GramOk, fn_spec_l5Starts, fn_spec_SetHas, fn_spec_Productive, fn_spec_Reachable])) (inlOf_ok _ (by simp [])) h0
@[simp] def lm_spec_Check : Nat → List Nat × Nat := fun b => if b = 0 then ([1, 3, 4], 2) else if b = 2000000 then ([], 8888888) else if b = 3000000 then ([1], 2) else ([], 0)
theorem dr_spec_Check_9 : drawn (opsOf (nav [1, 1, 1, 1, 0, 0] (bodyOf Try.f29))) = some ([0, 3, 4, 5, 1, 2], [6]) := by kernel_rfl
theorem dr_spec_Check_11 : drawn (opsOf (nav [1, 1, 1, 1, 1, 0, 0] (bodyOf Try.f29))) = some ([0, 3, 4, 5, 1, 2], [6]) := by kernel_rfl
@[simp] def arg_spec_Check (a : L3) : List TV := [.agg [.sl false 38 (List.map (cL38 false) a)]]
@[simp] def res_spec_Check (r : Int) : Sh × List V := ((false, [none]), [.lit (.int .i64 r)])
def p_spec_Check_L0 (a0 : L3) (y5 : L2) (x4b0 : Int) : Option (Int ⊕ Unit) :=
 if x4b0 < (y5.length : Int) then
  if 0 ≤ x4b0 then
   y5[x4b0.toNat]? >>= fun y31 =>
   p_spec_SetHas y31 x4b0 >>= fun y35 =>
   if y35 then
    some (.inl 2)
   else
    p_spec_Check_L0 a0 y5 (IntKind.wrap .i64 (x4b0 + 1))
  else none
 else
  some (.inr ())
partial_fixpoint
@[simp] noncomputable def L_spec_Check_L0 : Code := nav [1, 1, 1, 0, 1, 0, 0] (bodyOf Try.f29)
@[simp] def T_spec_Check_L0 (a0 : L3) (y5 : L2) (x4b0 : Int) (st : Nat → Nat) : St := ⟨[(1, .one (.bp 1 1 0)), (3, .one (.ow 2 3)), (4, .one (.lit (.int .i64 x4b0)))], [none, some (.box 1 [.sl false 38 (List.map (cL38 false) a0)]), some (.rows 3 3 31 (List.map (cL31 true) y5))], (st 0)⟩
@[simp] def U_spec_Check_L0 (a0 : L3) (y5 : L2) (o : Unit) (st : Nat → Nat) : St := ⟨[(1, .one (.bp 1 1 0))], [none, some (.box 1 [.sl false 38 (List.map (cL38 false) a0)]), some (.rows 3 3 31 (List.map (cL31 true) y5))], (st 0)⟩
abbrev Q_spec_Check_L0 (a0 : L3) (y5 : L2) (x4b0 : Int) (o : Int ⊕ Unit) : Prop := ∀ st : Nat → Nat, LoopT Try.prog cal_spec_Check 1 lm_spec_Check 0 L_spec_Check_L0 (tellS Try.prog lm_spec_Check [.tmp 2]) res_spec_Check (U_spec_Check_L0 a0 y5) (T_spec_Check_L0 a0 y5 x4b0 st) o
theorem l_spec_Check_L0 {a0 : L3} {y5 : L2} {x4b0 : Int} {o : Int ⊕ Unit} (h : p_spec_Check_L0 a0 y5 x4b0 = some o) : Q_spec_Check_L0 a0 y5 x4b0 o := by
  refine p_spec_Check_L0.partial_correctness a0 y5 (motive := fun x4b0 o => Q_spec_Check_L0 a0 y5 x4b0 o) ?_ x4b0 o h
  clear h o x4b0
  intro p' ih x4b0 r h st
  rcases ifc h with ⟨h29, h⟩ | ⟨h29, h⟩
  · obtain ⟨h30, h⟩ := ifg h
    obtain ⟨y31, h32, h⟩ := bd h
    have h32b := (List.getElem?_eq_some_iff.1 h32).1
    obtain ⟨y35, h34, h⟩ := bd h
    have h34c := c_spec_SetHas h34
    rcases ifb h with ⟨h36, h⟩ | ⟨h36, h⟩
    · obtain rfl := Option.some.inj h
      exact LoopT.ret 0 (fun k hk => by simp (implicitDefEqProofs := false) [-getElem?_pos, -getElem?_neg, Try.f29, h29, h30, h32, h32b, h34c, h36])
    exact LoopT.step 0 (fun k hk => by simp (implicitDefEqProofs := false) [-getElem?_pos, -getElem?_neg, Try.f29, h29, h30, h32, h32b, h34c, h36]) (ih _ _ h (sl [((st 0) + 1)]))
  obtain rfl := Option.some.inj h
  exact LoopT.exit (sl [(st 0)]) 0 (fun k hk => by simp (implicitDefEqProofs := false) [-getElem?_pos, -getElem?_neg, Try.f29, h29])
def p_spec_Check (a0 : L3) : Option Int :=
 p_spec_GramOk a0 >>= fun y2 =>
 if y2 then
  p_spec_l5Starts a0 >>= fun y5 =>
  p_spec_Check_L0 a0 y5 0 >>= fun o38 => match o38 with
  | .inl o38 =>
   some o38
  | .inr o38 =>
   p_spec_Productive a0 >>= fun y42 =>
   if (y42.length : Int) < (a0.length : Int) then
    some 3
   else
    p_spec_Reachable a0 >>= fun y45 =>
    if (y45.length : Int) < (a0.length : Int) then
     some 4
    else
     some 0
 else
  some 1
theorem t_spec_Check {a0 : L3} {r : Int} (h : p_spec_Check a0 = some r) : ∃ k, told Try.prog (cal_spec_Check k) k lm_spec_Check Try.f29 (arg_spec_Check a0) = some (res_spec_Check r) := by
  unfold p_spec_Check at h
  obtain ⟨y2, h1, h⟩ := bd h
  have h1c := c_spec_GramOk h1
  rcases ifb h with ⟨h3, h⟩ | ⟨h3, h⟩
  · obtain ⟨y5, h4, h⟩ := bd h
    have h4c := c_spec_l5Starts h4
    obtain ⟨o38, h37, h⟩ := bd h
    have qK39 := l_spec_Check_L0 h37 (sl [4])
    rcases o38 with o38 | o38
    · obtain ⟨K39, qK39⟩ := qK39
      obtain rfl := Option.some.inj h
      obtain ⟨k, hk⟩ : ∃ k, K39 ≤ k := ⟨_, Nat.le_refl _⟩
      obtain ⟨S_K39, jK39, iK39⟩ := qK39 k (by omega) k (by omega)
      simp (implicitDefEqProofs := false) [-getElem?_pos, -getElem?_neg, Try.f29, h1c, h3, h4c] at jK39
      refine ⟨k, ?_⟩
      simp (implicitDefEqProofs := false) [-getElem?_pos, -getElem?_neg, Try.f29, h1c, h3, h4c, iK39, jK39]
    obtain ⟨s40, K39, qK39⟩ := qK39
    obtain ⟨y42, h41, h⟩ := bd h
    have h41c := c_spec_Productive h41
    rcases ifc h with ⟨h43, h⟩ | ⟨h43, h⟩
    · obtain rfl := Option.some.inj h
      obtain ⟨k, hk⟩ : ∃ k, K39 ≤ k := ⟨_, Nat.le_refl _⟩
      have jK39 := qK39 k (by omega) k (by omega)
      simp (implicitDefEqProofs := false) [-getElem?_pos, -getElem?_neg, Try.f29, h1c, h3, h4c, h41c, h43] at jK39
      have hd_spec_Check_9 := dr_spec_Check_9
      simp only [opsOf, nav, bodyOf, Try.f29, Option.getD_some] at hd_spec_Check_9
      refine ⟨k, ?_⟩
      simp (implicitDefEqProofs := false) [-getElem?_pos, -getElem?_neg, Try.f29, h1c, h3, h4c, ex_draw2 _ _ hd_spec_Check_9, h41c, h43, jK39]
    obtain ⟨y45, h44, h⟩ := bd h
    have h44c := c_spec_Reachable h44
    rcases ifc h with ⟨h46, h⟩ | ⟨h46, h⟩
    · obtain rfl := Option.some.inj h
      obtain ⟨k, hk⟩ : ∃ k, K39 ≤ k := ⟨_, Nat.le_refl _⟩
      have jK39 := qK39 k (by omega) k (by omega)
      simp (implicitDefEqProofs := false) [-getElem?_pos, -getElem?_neg, Try.f29, h1c, h3, h4c, h41c, h43, h44c, h46] at jK39
      have hd_spec_Check_9 := dr_spec_Check_9
      simp only [opsOf, nav, bodyOf, Try.f29, Option.getD_some] at hd_spec_Check_9
      have hd_spec_Check_11 := dr_spec_Check_11
      simp only [opsOf, nav, bodyOf, Try.f29, Option.getD_some] at hd_spec_Check_11
      refine ⟨k, ?_⟩
      simp (implicitDefEqProofs := false) [-getElem?_pos, -getElem?_neg, Try.f29, h1c, h3, h4c, ex_draw2 _ _ hd_spec_Check_9, h41c, h43, ex_draw2 _ _ hd_spec_Check_11, h44c, h46, jK39]
    obtain rfl := Option.some.inj h
    obtain ⟨k, hk⟩ : ∃ k, K39 ≤ k := ⟨_, Nat.le_refl _⟩
    have jK39 := qK39 k (by omega) k (by omega)
    simp (implicitDefEqProofs := false) [-getElem?_pos, -getElem?_neg, Try.f29, h1c, h3, h4c, h41c, h43, h44c, h46] at jK39
    have hd_spec_Check_9 := dr_spec_Check_9
    simp only [opsOf, nav, bodyOf, Try.f29, Option.getD_some] at hd_spec_Check_9
    have hd_spec_Check_11 := dr_spec_Check_11
    simp only [opsOf, nav, bodyOf, Try.f29, Option.getD_some] at hd_spec_Check_11
    refine ⟨k, ?_⟩
    simp (implicitDefEqProofs := false) [-getElem?_pos, -getElem?_neg, Try.f29, h1c, h3, h4c, ex_draw2 _ _ hd_spec_Check_9, h41c, h43, ex_draw2 _ _ hd_spec_Check_11, h44c, h46, jK39]
  obtain rfl := Option.some.inj h
  obtain ⟨k, hk⟩ : ∃ k, 0 ≤ k := ⟨_, Nat.le_refl _⟩
  refine ⟨k, ?_⟩
  simp (implicitDefEqProofs := false) [-getElem?_pos, -getElem?_neg, Try.f29, h1c, h3]
theorem inj_spec_Check : ∀ a b, arg_spec_Check a = arg_spec_Check b → a = b := by
  intro x y h; simp [arg_spec_Check] at h; simp [Prod.ext_iff, h]
noncomputable def F_spec_Check : Con := nilfix [[some 38]] (pcon arg_spec_Check (fun a => p_spec_Check a) res_spec_Check)
theorem fn_spec_Check : Fn Try.prog 29 F_spec_Check := (Fn.pure cal_spec_Check (fun k w0 h0 => ok_spec_Check k w0 h0) mixed Try.func29 rfl rfl (by kernel_rfl) 1 (by decide) (fun _ => rfl) lm_spec_Check (fun a b h => t_spec_Check h)).nilfix _
theorem c_spec_Check {a0 : L3} {r : Int} (h : p_spec_Check a0 = some r) : F_spec_Check [.agg [.sl false 38 (List.map (cL38 false) a0)]] = some (((false, [none]), [.lit (.int .i64 r)])) := pcon_at (arg := arg_spec_Check) (p := fun a => p_spec_Check a) (res := res_spec_Check) (a := a0) (b := r) inj_spec_Check h
def cal_spec_l1Min (k : Nat) : Cal := calI (tabOf []) (inlOf [])
@[simp] theorem cal_spec_l1Min_ap (k g : Nat) (vs : List TV) (mem : Mem) (ep : Nat) : cal_spec_l1Min k g vs mem ep = calI (tabOf []) (inlOf []) g vs mem ep := rfl
theorem ok_spec_l1Min (k : Nat) (w0 : World) (h0 : True) : CalOk Try.prog w0.heap.size w0 (cal_spec_l1Min k) := by
  exact calI_ok (J := fun _ => True) stab_true (tabOf_ok _ (by simp [])) (inlOf_ok _ (by simp [])) h0
@[simp] def lm_spec_l1Min : Nat → List Nat × Nat := fun b => ([], 0)
@[simp] def arg_spec_l1Min (a : Int × Int) : List TV := [.one (.lit (.int .i64 a.1)), .one (.lit (.int .i64 a.2))]
@[simp] def res_spec_l1Min (r : Int) : Sh × List V := ((false, [none]), [.lit (.int .i64 r)])
def p_spec_l1Min (a0 : Int) (a1 : Int) : Option Int :=
 if a0 < a1 then
  some a0
 else
  some a1
theorem t_spec_l1Min {a0 : Int} {a1 : Int} {r : Int} (h : p_spec_l1Min a0 a1 = some r) : ∃ k, told Try.prog (cal_spec_l1Min k) k lm_spec_l1Min Try.f41 (arg_spec_l1Min (a0, a1)) = some (res_spec_l1Min r) := by
  unfold p_spec_l1Min at h
  rcases ifc h with ⟨h1, h⟩ | ⟨h1, h⟩
  · obtain rfl := Option.some.inj h
    obtain ⟨k, hk⟩ : ∃ k, 0 ≤ k := ⟨_, Nat.le_refl _⟩
    refine ⟨k, ?_⟩
    simp (implicitDefEqProofs := false) [-getElem?_pos, -getElem?_neg, Try.f41, h1]
  obtain rfl := Option.some.inj h
  obtain ⟨k, hk⟩ : ∃ k, 0 ≤ k := ⟨_, Nat.le_refl _⟩
  refine ⟨k, ?_⟩
  simp (implicitDefEqProofs := false) [-getElem?_pos, -getElem?_neg, Try.f41, h1]
theorem inj_spec_l1Min : ∀ a b, arg_spec_l1Min a = arg_spec_l1Min b → a = b := by
  rintro ⟨x0, x1⟩ ⟨y0, y1⟩ h; simp [arg_spec_l1Min] at h; simp [Prod.ext_iff, h]
noncomputable def F_spec_l1Min : Con := nilfix [] (pcon arg_spec_l1Min (fun a => p_spec_l1Min a.1 a.2) res_spec_l1Min)
theorem fn_spec_l1Min : Fn Try.prog 41 F_spec_l1Min := (Fn.pure cal_spec_l1Min (fun k w0 h0 => ok_spec_l1Min k w0 h0) mixed Try.func41 rfl rfl (by kernel_rfl) 2 (by decide) (fun _ => rfl) lm_spec_l1Min (fun a b h => t_spec_l1Min h)).nilfix _
theorem c_spec_l1Min {a0 : Int} {a1 : Int} {r : Int} (h : p_spec_l1Min a0 a1 = some r) : F_spec_l1Min [.one (.lit (.int .i64 a0)), .one (.lit (.int .i64 a1))] = some (((false, [none]), [.lit (.int .i64 r)])) := pcon_at (arg := arg_spec_l1Min) (p := fun a => p_spec_l1Min a.1 a.2) (res := res_spec_l1Min) (a := (a0, a1)) (b := r) inj_spec_l1Min h
end Go.Proofs.Ytanglbgincgmaaa.Vm

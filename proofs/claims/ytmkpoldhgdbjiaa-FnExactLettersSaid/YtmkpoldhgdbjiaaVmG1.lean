/-
  Functions of the program as plain Lean ones, and that the model does as they say. Written by a program of mine (gen.py).
-/
import Derived.Test.YtmkpoldhgdbjiaaVmSimG
import Derived.Test.YtmkpoldhgdbjiaaVmIns
namespace Go.Proofs.Ytmkpoldhgdbjiaa.Vm
open Go Go.RowKit Go.Proofs
set_option linter.unusedVariables false
set_option linter.unusedSimpArgs false
set_option maxHeartbeats 8000000
@[simp] def cI (x : Int) : List V := [.lit (.int .i64 x)]
theorem cI_inj : ∀ a b : Int, cI a = cI b → a = b := by
  intro a b h
  simp [cI] at h
  exact h
@[simp] theorem cI_m {a b : List (Int)} : List.map cI a = List.map cI b ↔ a = b := ⟨map_inj' cI_inj a b, fun h => by rw [h]⟩
@[simp] theorem cI_e (l : List (Int)) : erRows (List.map cI l) = List.map cI l := by
  rw [erRows_map, List.map_map]
  exact List.map_congr_left (fun x _ => by simp [V.er])
@[simp] theorem cI_p (l : List (Int)) : pureRows (List.map cI l) = true := by
  induction l with
  | nil => rfl
  | cons x l ih => simpa [pureRows, pureRow, pure0] using ih
@[simp] def cL48 (own : Bool) (x : List (Int)) : List V := [.sl own 3 (List.map cI x)]
theorem cL48_inj {own : Bool} : ∀ a b : List (Int), cL48 own a = cL48 own b → a = b := by
  intro a b h
  simp [cL48] at h
  exact h
@[simp] theorem cL48_m {own : Bool} {a b : List (List (Int))} : List.map (cL48 own) a = List.map (cL48 own) b ↔ a = b := ⟨map_inj' cL48_inj a b, fun h => by rw [h]⟩
@[simp] theorem cL48_e {own : Bool} (l : List (List (Int))) : erRows (List.map (cL48 own) l) = List.map (cL48 false) l := by
  rw [erRows_map, List.map_map]
  exact List.map_congr_left (fun x _ => by cases own <;> simp [V.er, ← erRows_map])
@[simp] theorem cL48_p (l : List (List (Int))) : pureRows (List.map (cL48 true) l) = true := by
  induction l with
  | nil => rfl
  | cons x l ih => simpa [pureRows, pureRow, pure0] using ih
@[simp] theorem cL48_n (j x : Nat) (l : List (List (Int))) : List.map (nzRow j x) (List.map (cL48 true) l) = List.map (cL48 true) l := nz_map (fun a => by simp [noNil]) j x l
@[simp] theorem cL48_o (j x : Nat) (l : List (List (Int))) : List.map (nzRow j x ∘ cL48 true) l = List.map (cL48 true) l := by rw [← List.map_map]; exact nz_map (fun a => by simp [noNil]) j x l
@[simp] def cL60 (own : Bool) (x : List (List (Int))) : List V := [.sl own 48 (List.map (cL48 own) x)]
theorem cL60_inj {own : Bool} : ∀ a b : List (List (Int)), cL60 own a = cL60 own b → a = b := by
  intro a b h
  simp [cL60] at h
  exact h
@[simp] theorem cL60_m {own : Bool} {a b : List (List (List (Int)))} : List.map (cL60 own) a = List.map (cL60 own) b ↔ a = b := ⟨map_inj' cL60_inj a b, fun h => by rw [h]⟩
@[simp] theorem cL60_e {own : Bool} (l : List (List (List (Int)))) : erRows (List.map (cL60 own) l) = List.map (cL60 false) l := by
  rw [erRows_map, List.map_map]
  exact List.map_congr_left (fun x _ => by cases own <;> simp [V.er, ← erRows_map])
@[simp] theorem cL60_p (l : List (List (List (Int)))) : pureRows (List.map (cL60 true) l) = true := by
  induction l with
  | nil => rfl
  | cons x l ih => simpa [pureRows, pureRow, pure0] using ih
@[simp] theorem cL60_n (j x : Nat) (l : List (List (List (Int)))) : List.map (nzRow j x) (List.map (cL60 true) l) = List.map (cL60 true) l := nz_map (fun a => by simp [noNil]) j x l
@[simp] theorem cL60_o (j x : Nat) (l : List (List (List (Int)))) : List.map (nzRow j x ∘ cL60 true) l = List.map (cL60 true) l := by rw [← List.map_map]; exact nz_map (fun a => by simp [noNil]) j x l
def cal_laws_szIntS (k : Nat) : Cal := calI (tabOf []) (inlOf [])
@[simp] theorem cal_laws_szIntS_ap (k g : Nat) (vs : List TV) (mem : Mem) (ep : Nat) : cal_laws_szIntS k g vs mem ep = calI (tabOf []) (inlOf []) g vs mem ep := rfl
theorem ok_laws_szIntS (k : Nat) (w0 : World) (h0 : True) : CalOk Try.prog w0.heap.size w0 (cal_laws_szIntS k) := by
  exact calI_ok (J := fun _ => True) stab_true (tabOf_ok _ (by simp [])) (inlOf_ok _ (by simp [])) h0
@[simp] def lm_laws_szIntS : Nat → List Nat × Nat := fun b => ([], 0)
@[simp] def arg_laws_szIntS (a : List (Int) × Int) : List TV := [.one (.sl false 3 (List.map cI a.1)), .one (.lit (.int .i64 a.2))]
@[simp] def res_laws_szIntS (r : Int) : Sh × List V := ((false, [none]), [.lit (.int .i64 r)])
def p_laws_szIntS (a0 : List (Int)) (a1 : Int) : Option Int :=
 if (IntKind.wrap .i64 (a1 - (a0.length : Int))) < 0 then
  some (-1)
 else
  some (IntKind.wrap .i64 (a1 - (a0.length : Int)))
theorem t_laws_szIntS {a0 : List (Int)} {a1 : Int} {r : Int} (h : p_laws_szIntS a0 a1 = some r) : ∃ k, told Try.prog (cal_laws_szIntS k) k lm_laws_szIntS Try.f63 (arg_laws_szIntS (a0, a1)) = some (res_laws_szIntS r) := by
  unfold p_laws_szIntS at h
  rcases ifc h with ⟨h1, h⟩ | ⟨h1, h⟩
  · obtain rfl := Option.some.inj h
    obtain ⟨k, hk⟩ : ∃ k, 0 ≤ k := ⟨_, Nat.le_refl _⟩
    refine ⟨k, ?_⟩
    simp (implicitDefEqProofs := false) [-getElem?_pos, -getElem?_neg, Try.f63, h1]
  obtain rfl := Option.some.inj h
  obtain ⟨k, hk⟩ : ∃ k, 0 ≤ k := ⟨_, Nat.le_refl _⟩
  refine ⟨k, ?_⟩
  simp (implicitDefEqProofs := false) [-getElem?_pos, -getElem?_neg, Try.f63, h1]
theorem inj_laws_szIntS : ∀ a b, arg_laws_szIntS a = arg_laws_szIntS b → a = b := by
  rintro ⟨x0, x1⟩ ⟨y0, y1⟩ h; simp [arg_laws_szIntS] at h; simp [Prod.ext_iff, h]
noncomputable def F_laws_szIntS : Con := nilfix [[some 3], [none]] (pcon arg_laws_szIntS (fun a => p_laws_szIntS a.1 a.2) res_laws_szIntS)
theorem fn_laws_szIntS : Fn Try.prog 63 F_laws_szIntS := (Fn.pure cal_laws_szIntS (fun k w0 h0 => ok_laws_szIntS k w0 h0) mixed Try.func63 rfl rfl (by kernel_rfl) 2 (by decide) (fun _ => rfl) lm_laws_szIntS (fun a b h => t_laws_szIntS h)).nilfix _
theorem c_laws_szIntS {a0 : List (Int)} {a1 : Int} {r : Int} (h : p_laws_szIntS a0 a1 = some r) : F_laws_szIntS [.one (.sl false 3 (List.map cI a0)), .one (.lit (.int .i64 a1))] = some (((false, [none]), [.lit (.int .i64 r)])) := pcon_at (arg := arg_laws_szIntS) (p := fun a => p_laws_szIntS a.1 a.2) (res := res_laws_szIntS) (a := (a0, a1)) (b := r) inj_laws_szIntS h
noncomputable def cal_laws_szIntSS (k : Nat) : Cal := calI (tabOf [(63, F_laws_szIntS)]) (inlOf [])
@[simp] theorem cal_laws_szIntSS_ap (k g : Nat) (vs : List TV) (mem : Mem) (ep : Nat) : cal_laws_szIntSS k g vs mem ep = calI (tabOf [(63, F_laws_szIntS)]) (inlOf []) g vs mem ep := rfl
theorem ok_laws_szIntSS (k : Nat) (w0 : World) (h0 : True) : CalOk Try.prog w0.heap.size w0 (cal_laws_szIntSS k) := by
  exact calI_ok (J := fun _ => True) stab_true (tabOf_ok _ (by simp [fn_laws_szIntS])) (inlOf_ok _ (by simp [])) h0
@[simp] def lm_laws_szIntSS : Nat → List Nat × Nat := fun b => if b = 0 then ([0, 1, 5], 0) else if b = 2000000 then ([], 8888888) else if b = 3000000 then ([1], 0) else ([], 0)
@[simp] def arg_laws_szIntSS (a : List (List (Int)) × Int) : List TV := [.one (.sl false 48 (List.map (cL48 false) a.1)), .one (.lit (.int .i64 a.2))]
@[simp] def res_laws_szIntSS (r : Int) : Sh × List V := ((false, [none]), [.lit (.int .i64 r)])
def p_laws_szIntSS_L0 (a0 : List (List (Int))) (x1b0 : Int) (x5b0 : Int) : Option (Int ⊕ Int) :=
 if x5b0 < (a0.length : Int) then
  if 0 ≤ x5b0 then
   a0[x5b0.toNat]? >>= fun y17 =>
   p_laws_szIntS y17 x1b0 >>= fun y20 =>
   if y20 < 0 then
    some (.inl (-1))
   else
    p_laws_szIntSS_L0 a0 y20 (IntKind.wrap .i64 (x5b0 + 1))
  else none
 else
  some (.inr x1b0)
partial_fixpoint
@[simp] noncomputable def L_laws_szIntSS_L0 : Code := nav [1, 1, 1, 0, 1, 0, 0] (bodyOf Try.f51)
@[simp] def T_laws_szIntSS_L0 (a0 : List (List (Int))) (x1b0 : Int) (x5b0 : Int) (st : Nat → Nat) : St := ⟨[(0, .one (.sl false 48 (List.map (cL48 false) a0))), (1, .one (.lit (.int .i64 x1b0))), (5, .one (.lit (.int .i64 x5b0)))], [none], (st 0)⟩
@[simp] def U_laws_szIntSS_L0 (a0 : List (List (Int))) (o : Int) (st : Nat → Nat) : St := ⟨[(1, .one (.lit (.int .i64 o)))], [none], (st 0)⟩
abbrev Q_laws_szIntSS_L0 (a0 : List (List (Int))) (x1b0 : Int) (x5b0 : Int) (o : Int ⊕ Int) : Prop := ∀ st : Nat → Nat, LoopT Try.prog cal_laws_szIntSS 1 lm_laws_szIntSS 0 L_laws_szIntSS_L0 (tellS Try.prog lm_laws_szIntSS [.tmp 4]) res_laws_szIntSS (U_laws_szIntSS_L0 a0) (T_laws_szIntSS_L0 a0 x1b0 x5b0 st) o
theorem l_laws_szIntSS_L0 {a0 : List (List (Int))} {x1b0 : Int} {x5b0 : Int} {o : Int ⊕ Int} (h : p_laws_szIntSS_L0 a0 x1b0 x5b0 = some o) : Q_laws_szIntSS_L0 a0 x1b0 x5b0 o := by
  refine p_laws_szIntSS_L0.partial_correctness a0 (motive := fun x1b0 x5b0 o => Q_laws_szIntSS_L0 a0 x1b0 x5b0 o) ?_ x1b0 x5b0 o h
  clear h o x1b0 x5b0
  intro p' ih x1b0 x5b0 r h st
  rcases ifc h with ⟨h15, h⟩ | ⟨h15, h⟩
  · obtain ⟨h16, h⟩ := ifg h
    obtain ⟨y17, h18, h⟩ := bd h
    obtain ⟨y20, h19, h⟩ := bd h
    have h19c := c_laws_szIntS h19
    rcases ifc h with ⟨h21, h⟩ | ⟨h21, h⟩
    · obtain rfl := Option.some.inj h
      exact LoopT.ret 0 (fun k hk => by simp (implicitDefEqProofs := false) [-getElem?_pos, -getElem?_neg, Try.f51, h15, h16, h18, h19c, h21])
    exact LoopT.step 0 (fun k hk => by simp (implicitDefEqProofs := false) [-getElem?_pos, -getElem?_neg, Try.f51, h15, h16, h18, h19c, h21]) (ih _ _ _ h (sl [((st 0) + 1)]))
  obtain rfl := Option.some.inj h
  exact LoopT.exit (sl [(st 0)]) 0 (fun k hk => by simp (implicitDefEqProofs := false) [-getElem?_pos, -getElem?_neg, Try.f51, h15])
def p_laws_szIntSS (a0 : List (List (Int))) (a1 : Int) : Option Int :=
 if (IntKind.wrap .i64 (a1 - (a0.length : Int))) < 0 then
  some (-1)
 else
  p_laws_szIntSS_L0 a0 (IntKind.wrap .i64 (a1 - (a0.length : Int))) 0 >>= fun o23 => match o23 with
  | .inl o23 =>
   some o23
  | .inr o23 =>
   some o23
theorem t_laws_szIntSS {a0 : List (List (Int))} {a1 : Int} {r : Int} (h : p_laws_szIntSS a0 a1 = some r) : ∃ k, told Try.prog (cal_laws_szIntSS k) k lm_laws_szIntSS Try.f51 (arg_laws_szIntSS (a0, a1)) = some (res_laws_szIntSS r) := by
  unfold p_laws_szIntSS at h
  rcases ifc h with ⟨h1, h⟩ | ⟨h1, h⟩
  · obtain rfl := Option.some.inj h
    obtain ⟨k, hk⟩ : ∃ k, 0 ≤ k := ⟨_, Nat.le_refl _⟩
    refine ⟨k, ?_⟩
    simp (implicitDefEqProofs := false) [-getElem?_pos, -getElem?_neg, Try.f51, h1]
  obtain ⟨o23, h22, h⟩ := bd h
  have qK24 := l_laws_szIntSS_L0 h22 (sl [1])
  rcases o23 with o23 | o23
  · obtain ⟨K24, qK24⟩ := qK24
    obtain rfl := Option.some.inj h
    obtain ⟨k, hk⟩ : ∃ k, K24 ≤ k := ⟨_, Nat.le_refl _⟩
    obtain ⟨S_K24, jK24, iK24⟩ := qK24 k (by omega) k (by omega)
    simp (implicitDefEqProofs := false) [-getElem?_pos, -getElem?_neg, Try.f51, h1] at jK24
    refine ⟨k, ?_⟩
    simp (implicitDefEqProofs := false) [-getElem?_pos, -getElem?_neg, Try.f51, h1, iK24, jK24]
  obtain ⟨s25, K24, qK24⟩ := qK24
  obtain rfl := Option.some.inj h
  obtain ⟨k, hk⟩ : ∃ k, K24 ≤ k := ⟨_, Nat.le_refl _⟩
  have jK24 := qK24 k (by omega) k (by omega)
  simp (implicitDefEqProofs := false) [-getElem?_pos, -getElem?_neg, Try.f51, h1] at jK24
  refine ⟨k, ?_⟩
  simp (implicitDefEqProofs := false) [-getElem?_pos, -getElem?_neg, Try.f51, h1, jK24]
theorem inj_laws_szIntSS : ∀ a b, arg_laws_szIntSS a = arg_laws_szIntSS b → a = b := by
  rintro ⟨x0, x1⟩ ⟨y0, y1⟩ h; simp [arg_laws_szIntSS] at h; simp [Prod.ext_iff, h]
noncomputable def F_laws_szIntSS : Con := nilfix [[some 48], [none]] (pcon arg_laws_szIntSS (fun a => p_laws_szIntSS a.1 a.2) res_laws_szIntSS)
theorem fn_laws_szIntSS : Fn Try.prog 51 F_laws_szIntSS := (Fn.pure cal_laws_szIntSS (fun k w0 h0 => ok_laws_szIntSS k w0 h0) mixed Try.func51 rfl rfl (by kernel_rfl) 2 (by decide) (fun _ => rfl) lm_laws_szIntSS (fun a b h => t_laws_szIntSS h)).nilfix _
theorem c_laws_szIntSS {a0 : List (List (Int))} {a1 : Int} {r : Int} (h : p_laws_szIntSS a0 a1 = some r) : F_laws_szIntSS [.one (.sl false 48 (List.map (cL48 false) a0)), .one (.lit (.int .i64 a1))] = some (((false, [none]), [.lit (.int .i64 r)])) := pcon_at (arg := arg_laws_szIntSS) (p := fun a => p_laws_szIntSS a.1 a.2) (res := res_laws_szIntSS) (a := (a0, a1)) (b := r) inj_laws_szIntSS h
noncomputable def cal_laws_szIntSSS (k : Nat) : Cal := calI (tabOf [(51, F_laws_szIntSS)]) (inlOf [])
@[simp] theorem cal_laws_szIntSSS_ap (k g : Nat) (vs : List TV) (mem : Mem) (ep : Nat) : cal_laws_szIntSSS k g vs mem ep = calI (tabOf [(51, F_laws_szIntSS)]) (inlOf []) g vs mem ep := rfl
theorem ok_laws_szIntSSS (k : Nat) (w0 : World) (h0 : True) : CalOk Try.prog w0.heap.size w0 (cal_laws_szIntSSS k) := by
  exact calI_ok (J := fun _ => True) stab_true (tabOf_ok _ (by simp [fn_laws_szIntSS])) (inlOf_ok _ (by simp [])) h0
@[simp] def lm_laws_szIntSSS : Nat → List Nat × Nat := fun b => if b = 0 then ([0, 1, 5], 0) else if b = 2000000 then ([], 8888888) else if b = 3000000 then ([1], 0) else ([], 0)
@[simp] def arg_laws_szIntSSS (a : List (List (List (Int))) × Int) : List TV := [.one (.sl false 60 (List.map (cL60 false) a.1)), .one (.lit (.int .i64 a.2))]
@[simp] def res_laws_szIntSSS (r : Int) : Sh × List V := ((false, [none]), [.lit (.int .i64 r)])
def p_laws_szIntSSS_L0 (a0 : List (List (List (Int)))) (x1b0 : Int) (x5b0 : Int) : Option (Int ⊕ Int) :=
 if x5b0 < (a0.length : Int) then
  if 0 ≤ x5b0 then
   a0[x5b0.toNat]? >>= fun y17 =>
   p_laws_szIntSS y17 x1b0 >>= fun y20 =>
   if y20 < 0 then
    some (.inl (-1))
   else
    p_laws_szIntSSS_L0 a0 y20 (IntKind.wrap .i64 (x5b0 + 1))
  else none
 else
  some (.inr x1b0)
partial_fixpoint
@[simp] noncomputable def L_laws_szIntSSS_L0 : Code := nav [1, 1, 1, 0, 1, 0, 0] (bodyOf Try.f37)
@[simp] def T_laws_szIntSSS_L0 (a0 : List (List (List (Int)))) (x1b0 : Int) (x5b0 : Int) (st : Nat → Nat) : St := ⟨[(0, .one (.sl false 60 (List.map (cL60 false) a0))), (1, .one (.lit (.int .i64 x1b0))), (5, .one (.lit (.int .i64 x5b0)))], [none], (st 0)⟩
@[simp] def U_laws_szIntSSS_L0 (a0 : List (List (List (Int)))) (o : Int) (st : Nat → Nat) : St := ⟨[(1, .one (.lit (.int .i64 o)))], [none], (st 0)⟩
abbrev Q_laws_szIntSSS_L0 (a0 : List (List (List (Int)))) (x1b0 : Int) (x5b0 : Int) (o : Int ⊕ Int) : Prop := ∀ st : Nat → Nat, LoopT Try.prog cal_laws_szIntSSS 1 lm_laws_szIntSSS 0 L_laws_szIntSSS_L0 (tellS Try.prog lm_laws_szIntSSS [.tmp 4]) res_laws_szIntSSS (U_laws_szIntSSS_L0 a0) (T_laws_szIntSSS_L0 a0 x1b0 x5b0 st) o
theorem l_laws_szIntSSS_L0 {a0 : List (List (List (Int)))} {x1b0 : Int} {x5b0 : Int} {o : Int ⊕ Int} (h : p_laws_szIntSSS_L0 a0 x1b0 x5b0 = some o) : Q_laws_szIntSSS_L0 a0 x1b0 x5b0 o := by
  refine p_laws_szIntSSS_L0.partial_correctness a0 (motive := fun x1b0 x5b0 o => Q_laws_szIntSSS_L0 a0 x1b0 x5b0 o) ?_ x1b0 x5b0 o h
  clear h o x1b0 x5b0
  intro p' ih x1b0 x5b0 r h st
  rcases ifc h with ⟨h15, h⟩ | ⟨h15, h⟩
  · obtain ⟨h16, h⟩ := ifg h
    obtain ⟨y17, h18, h⟩ := bd h
    obtain ⟨y20, h19, h⟩ := bd h
    have h19c := c_laws_szIntSS h19
    rcases ifc h with ⟨h21, h⟩ | ⟨h21, h⟩
    · obtain rfl := Option.some.inj h
      exact LoopT.ret 0 (fun k hk => by simp (implicitDefEqProofs := false) [-getElem?_pos, -getElem?_neg, Try.f37, h15, h16, h18, h19c, h21])
    exact LoopT.step 0 (fun k hk => by simp (implicitDefEqProofs := false) [-getElem?_pos, -getElem?_neg, Try.f37, h15, h16, h18, h19c, h21]) (ih _ _ _ h (sl [((st 0) + 1)]))
  obtain rfl := Option.some.inj h
  exact LoopT.exit (sl [(st 0)]) 0 (fun k hk => by simp (implicitDefEqProofs := false) [-getElem?_pos, -getElem?_neg, Try.f37, h15])
def p_laws_szIntSSS (a0 : List (List (List (Int)))) (a1 : Int) : Option Int :=
 if (IntKind.wrap .i64 (a1 - (a0.length : Int))) < 0 then
  some (-1)
 else
  p_laws_szIntSSS_L0 a0 (IntKind.wrap .i64 (a1 - (a0.length : Int))) 0 >>= fun o23 => match o23 with
  | .inl o23 =>
   some o23
  | .inr o23 =>
   some o23
theorem t_laws_szIntSSS {a0 : List (List (List (Int)))} {a1 : Int} {r : Int} (h : p_laws_szIntSSS a0 a1 = some r) : ∃ k, told Try.prog (cal_laws_szIntSSS k) k lm_laws_szIntSSS Try.f37 (arg_laws_szIntSSS (a0, a1)) = some (res_laws_szIntSSS r) := by
  unfold p_laws_szIntSSS at h
  rcases ifc h with ⟨h1, h⟩ | ⟨h1, h⟩
  · obtain rfl := Option.some.inj h
    obtain ⟨k, hk⟩ : ∃ k, 0 ≤ k := ⟨_, Nat.le_refl _⟩
    refine ⟨k, ?_⟩
    simp (implicitDefEqProofs := false) [-getElem?_pos, -getElem?_neg, Try.f37, h1]
  obtain ⟨o23, h22, h⟩ := bd h
  have qK24 := l_laws_szIntSSS_L0 h22 (sl [1])
  rcases o23 with o23 | o23
  · obtain ⟨K24, qK24⟩ := qK24
    obtain rfl := Option.some.inj h
    obtain ⟨k, hk⟩ : ∃ k, K24 ≤ k := ⟨_, Nat.le_refl _⟩
    obtain ⟨S_K24, jK24, iK24⟩ := qK24 k (by omega) k (by omega)
    simp (implicitDefEqProofs := false) [-getElem?_pos, -getElem?_neg, Try.f37, h1] at jK24
    refine ⟨k, ?_⟩
    simp (implicitDefEqProofs := false) [-getElem?_pos, -getElem?_neg, Try.f37, h1, iK24, jK24]
  obtain ⟨s25, K24, qK24⟩ := qK24
  obtain rfl := Option.some.inj h
  obtain ⟨k, hk⟩ : ∃ k, K24 ≤ k := ⟨_, Nat.le_refl _⟩
  have jK24 := qK24 k (by omega) k (by omega)
  simp (implicitDefEqProofs := false) [-getElem?_pos, -getElem?_neg, Try.f37, h1] at jK24
  refine ⟨k, ?_⟩
  simp (implicitDefEqProofs := false) [-getElem?_pos, -getElem?_neg, Try.f37, h1, jK24]
theorem inj_laws_szIntSSS : ∀ a b, arg_laws_szIntSSS a = arg_laws_szIntSSS b → a = b := by
  rintro ⟨x0, x1⟩ ⟨y0, y1⟩ h; simp [arg_laws_szIntSSS] at h; simp [Prod.ext_iff, h]
noncomputable def F_laws_szIntSSS : Con := nilfix [[some 60], [none]] (pcon arg_laws_szIntSSS (fun a => p_laws_szIntSSS a.1 a.2) res_laws_szIntSSS)
theorem fn_laws_szIntSSS : Fn Try.prog 37 F_laws_szIntSSS := (Fn.pure cal_laws_szIntSSS (fun k w0 h0 => ok_laws_szIntSSS k w0 h0) mixed Try.func37 rfl rfl (by kernel_rfl) 2 (by decide) (fun _ => rfl) lm_laws_szIntSSS (fun a b h => t_laws_szIntSSS h)).nilfix _
theorem c_laws_szIntSSS {a0 : List (List (List (Int)))} {a1 : Int} {r : Int} (h : p_laws_szIntSSS a0 a1 = some r) : F_laws_szIntSSS [.one (.sl false 60 (List.map (cL60 false) a0)), .one (.lit (.int .i64 a1))] = some (((false, [none]), [.lit (.int .i64 r)])) := pcon_at (arg := arg_laws_szIntSSS) (p := fun a => p_laws_szIntSSS a.1 a.2) (res := res_laws_szIntSSS) (a := (a0, a1)) (b := r) inj_laws_szIntSSS h
noncomputable def cal_laws_szGram (k : Nat) : Cal := calI (tabOf [(37, F_laws_szIntSSS)]) (inlOf [])
@[simp] theorem cal_laws_szGram_ap (k g : Nat) (vs : List TV) (mem : Mem) (ep : Nat) : cal_laws_szGram k g vs mem ep = calI (tabOf [(37, F_laws_szIntSSS)]) (inlOf []) g vs mem ep := rfl
theorem ok_laws_szGram (k : Nat) (w0 : World) (h0 : True) : CalOk Try.prog w0.heap.size w0 (cal_laws_szGram k) := by
  exact calI_ok (J := fun _ => True) stab_true (tabOf_ok _ (by simp [fn_laws_szIntSSS])) (inlOf_ok _ (by simp [])) h0
@[simp] def lm_laws_szGram : Nat → List Nat × Nat := fun b => ([], 0)
@[simp] def arg_laws_szGram (a : List (List (List (Int))) × Int) : List TV := [.agg [.sl false 60 (List.map (cL60 false) a.1)], .one (.lit (.int .i64 a.2))]
@[simp] def res_laws_szGram (r : Int) : Sh × List V := ((false, [none]), [.lit (.int .i64 r)])
def p_laws_szGram (a0 : List (List (List (Int)))) (a1 : Int) : Option Int :=
 p_laws_szIntSSS a0 a1 >>= fun y2 =>
 if y2 < 0 then
  some (-1)
 else
  some y2
theorem t_laws_szGram {a0 : List (List (List (Int)))} {a1 : Int} {r : Int} (h : p_laws_szGram a0 a1 = some r) : ∃ k, told Try.prog (cal_laws_szGram k) k lm_laws_szGram Try.f18 (arg_laws_szGram (a0, a1)) = some (res_laws_szGram r) := by
  unfold p_laws_szGram at h
  obtain ⟨y2, h1, h⟩ := bd h
  have h1c := c_laws_szIntSSS h1
  rcases ifc h with ⟨h3, h⟩ | ⟨h3, h⟩
  · obtain rfl := Option.some.inj h
    obtain ⟨k, hk⟩ : ∃ k, 0 ≤ k := ⟨_, Nat.le_refl _⟩
    refine ⟨k, ?_⟩
    simp (implicitDefEqProofs := false) [-getElem?_pos, -getElem?_neg, Try.f18, h1c, h3]
  obtain rfl := Option.some.inj h
  obtain ⟨k, hk⟩ : ∃ k, 0 ≤ k := ⟨_, Nat.le_refl _⟩
  refine ⟨k, ?_⟩
  simp (implicitDefEqProofs := false) [-getElem?_pos, -getElem?_neg, Try.f18, h1c, h3]
theorem inj_laws_szGram : ∀ a b, arg_laws_szGram a = arg_laws_szGram b → a = b := by
  rintro ⟨x0, x1⟩ ⟨y0, y1⟩ h; simp [arg_laws_szGram] at h; simp [Prod.ext_iff, h]
noncomputable def F_laws_szGram : Con := nilfix [[some 60], [none]] (pcon arg_laws_szGram (fun a => p_laws_szGram a.1 a.2) res_laws_szGram)
theorem fn_laws_szGram : Fn Try.prog 18 F_laws_szGram := (Fn.pure cal_laws_szGram (fun k w0 h0 => ok_laws_szGram k w0 h0) mixed Try.func18 rfl rfl (by kernel_rfl) 2 (by decide) (fun _ => rfl) lm_laws_szGram (fun a b h => t_laws_szGram h)).nilfix _
theorem c_laws_szGram {a0 : List (List (List (Int)))} {a1 : Int} {r : Int} (h : p_laws_szGram a0 a1 = some r) : F_laws_szGram [.agg [.sl false 60 (List.map (cL60 false) a0)], .one (.lit (.int .i64 a1))] = some (((false, [none]), [.lit (.int .i64 r)])) := pcon_at (arg := arg_laws_szGram) (p := fun a => p_laws_szGram a.1 a.2) (res := res_laws_szGram) (a := (a0, a1)) (b := r) inj_laws_szGram h
def cal_laws_toIntS (k : Nat) : Cal := calI (tabOf []) (inlOf [])
@[simp] theorem cal_laws_toIntS_ap (k g : Nat) (vs : List TV) (mem : Mem) (ep : Nat) : cal_laws_toIntS k g vs mem ep = calI (tabOf []) (inlOf []) g vs mem ep := rfl
theorem ok_laws_toIntS (k : Nat) (w0 : World) (h0 : True) : CalOk Try.prog w0.heap.size w0 (cal_laws_toIntS k) := by
  exact calI_ok (J := fun _ => True) stab_true (tabOf_ok _ (by simp [])) (inlOf_ok _ (by simp [])) h0
@[simp] def lm_laws_toIntS : Nat → List Nat × Nat := fun b => if b = 0 then ([0, 3, 4], 1) else if b = 2000000 then ([], 8888888) else if b = 3000000 then ([3], 1) else ([], 0)
@[simp] def arg_laws_toIntS (a : List (Int)) : List TV := [.one (.sl false 3 (List.map cI a))]
@[simp] def res_laws_toIntS (r : List (Int)) : Sh × List V := ((false, [none]), [.sl true 3 (List.map cI r)])
def p_laws_toIntS_L0 (a0 : List (Int)) (x4b0 : Int) (l1b0 : List (Int)) : Option (List (Int)) :=
 if x4b0 < (a0.length : Int) then
  if 0 ≤ x4b0 then
   a0[x4b0.toNat]? >>= fun y29 =>
   l1b0[x4b0.toNat]? >>= fun y31 =>
   some (List.set l1b0 x4b0.toNat y29) >>= fun l33 =>
   p_laws_toIntS_L0 a0 (IntKind.wrap .i64 (x4b0 + 1)) l33
  else none
 else
  some l1b0
partial_fixpoint
@[simp] noncomputable def L_laws_toIntS_L0 : Code := nav [1, 1, 0, 1, 0, 0] (bodyOf Try.f64)
@[simp] def T_laws_toIntS_L0 (a0 : List (Int)) (x4b0 : Int) (l1b0 : List (Int)) (st : Nat → Nat) : St := ⟨[(0, .one (.sl false 3 (List.map cI a0))), (3, .one (.ow 1 1)), (4, .one (.lit (.int .i64 x4b0)))], [none, some (.rows 1 1 3 (List.map cI l1b0))], (st 0)⟩
@[simp] def U_laws_toIntS_L0 (a0 : List (Int)) (o : List (Int)) (st : Nat → Nat) : St := ⟨[(3, .one (.ow 1 1))], [none, some (.rows 1 1 3 (List.map cI o))], (st 0)⟩
abbrev Q_laws_toIntS_L0 (a0 : List (Int)) (x4b0 : Int) (l1b0 : List (Int)) (o : List (Int)) : Prop := ∀ st : Nat → Nat, LoopG Try.prog cal_laws_toIntS 1 lm_laws_toIntS 0 L_laws_toIntS_L0 (U_laws_toIntS_L0 a0) (T_laws_toIntS_L0 a0 x4b0 l1b0 st) o
theorem l_laws_toIntS_L0 {a0 : List (Int)} {x4b0 : Int} {l1b0 : List (Int)} {o : List (Int)} (h : p_laws_toIntS_L0 a0 x4b0 l1b0 = some o) : Q_laws_toIntS_L0 a0 x4b0 l1b0 o := by
  refine p_laws_toIntS_L0.partial_correctness a0 (motive := fun x4b0 l1b0 o => Q_laws_toIntS_L0 a0 x4b0 l1b0 o) ?_ x4b0 l1b0 o h
  clear h o x4b0 l1b0
  intro p' ih x4b0 l1b0 r h st
  rcases ifc h with ⟨h27, h⟩ | ⟨h27, h⟩
  · obtain ⟨h28, h⟩ := ifg h
    obtain ⟨y29, h30, h⟩ := bd h
    obtain ⟨y31, h32, h⟩ := bd h
    have h32b := (List.getElem?_eq_some_iff.1 h32).1
    obtain ⟨l33, h34, h⟩ := bd h
    have h34r : (List.map cI l1b0).set x4b0.toNat [.lit (.int .i64 y29)] = List.map cI l33 := by rw [← Option.some.inj h34]; simp
    exact LoopG.step 0 (fun k hk => by simp (implicitDefEqProofs := false) [-getElem?_pos, -getElem?_neg, Try.f64, h27, h28, h30, h32, h32b, h34r]) (ih _ _ _ h (sl [(st 0)]))
  obtain rfl := Option.some.inj h
  exact LoopG.exit (sl [(st 0)]) 0 (fun k hk => by simp (implicitDefEqProofs := false) [-getElem?_pos, -getElem?_neg, Try.f64, h27])
def p_laws_toIntS (a0 : List (Int)) : Option (List (Int)) :=
 if a0.length * 8 ≤ 140737488355328 then
  some (List.replicate a0.length 0) >>= fun l2 =>
  p_laws_toIntS_L0 a0 0 l2 >>= fun o36 =>
  some o36
 else none
theorem t_laws_toIntS {a0 : List (Int)} {r : List (Int)} (h : p_laws_toIntS a0 = some r) : ∃ k, told Try.prog (cal_laws_toIntS k) k lm_laws_toIntS Try.f64 (arg_laws_toIntS a0) = some (res_laws_toIntS r) := by
  unfold p_laws_toIntS at h
  obtain ⟨h1, h⟩ := ifg h
  have h1b : a0.length ≤ 9223372036854775807 := by omega
  obtain ⟨l2, h3, h⟩ := bd h
  have h3r : List.replicate a0.length [.lit (.int .i64 0)] = List.map cI l2 := by rw [← Option.some.inj h3]; simp
  obtain ⟨o36, h35, h⟩ := bd h
  have qK37 := l_laws_toIntS_L0 h35 (sl [2])
  obtain ⟨s38, K37, qK37⟩ := qK37
  obtain rfl := Option.some.inj h
  obtain ⟨k, hk⟩ : ∃ k, K37 ≤ k := ⟨_, Nat.le_refl _⟩
  have jK37 := qK37 k (by omega) k (by omega)
  simp (implicitDefEqProofs := false) [-getElem?_pos, -getElem?_neg, Try.f64, h1, h1b, h3r] at jK37
  refine ⟨k, ?_⟩
  simp (implicitDefEqProofs := false) [-getElem?_pos, -getElem?_neg, Try.f64, h1, h1b, h3r, jK37]
theorem inj_laws_toIntS : ∀ a b, arg_laws_toIntS a = arg_laws_toIntS b → a = b := by
  intro x y h; simp [arg_laws_toIntS] at h; simp [Prod.ext_iff, h]
noncomputable def F_laws_toIntS : Con := nilfix [[some 3]] (pcon arg_laws_toIntS (fun a => p_laws_toIntS a) res_laws_toIntS)
theorem fn_laws_toIntS : Fn Try.prog 64 F_laws_toIntS := (Fn.pure cal_laws_toIntS (fun k w0 h0 => ok_laws_toIntS k w0 h0) mixed Try.func64 rfl rfl (by kernel_rfl) 1 (by decide) (fun _ => rfl) lm_laws_toIntS (fun a b h => t_laws_toIntS h)).nilfix _
theorem c_laws_toIntS {a0 : List (Int)} {r : List (Int)} (h : p_laws_toIntS a0 = some r) : F_laws_toIntS [.one (.sl false 3 (List.map cI a0))] = some (((false, [none]), [.sl true 3 (List.map cI r)])) := pcon_at (arg := arg_laws_toIntS) (p := fun a => p_laws_toIntS a) (res := res_laws_toIntS) (a := a0) (b := r) inj_laws_toIntS h
noncomputable def cal_laws_toIntSS (k : Nat) : Cal := calI (tabOf [(64, F_laws_toIntS)]) (inlOf [])
@[simp] theorem cal_laws_toIntSS_ap (k g : Nat) (vs : List TV) (mem : Mem) (ep : Nat) : cal_laws_toIntSS k g vs mem ep = calI (tabOf [(64, F_laws_toIntS)]) (inlOf []) g vs mem ep := rfl
theorem ok_laws_toIntSS (k : Nat) (w0 : World) (h0 : True) : CalOk Try.prog w0.heap.size w0 (cal_laws_toIntSS k) := by
  exact calI_ok (J := fun _ => True) stab_true (tabOf_ok _ (by simp [fn_laws_toIntS])) (inlOf_ok _ (by simp [])) h0
@[simp] def lm_laws_toIntSS : Nat → List Nat × Nat := fun b => if b = 0 then ([0, 3, 4], 1) else if b = 2000000 then ([], 8888888) else if b = 3000000 then ([3], 1) else if b = 1000001 then ([4, 7, 0, 3], 8888888) else ([], 0)
@[simp] def arg_laws_toIntSS (a : List (List (Int))) : List TV := [.one (.sl false 48 (List.map (cL48 false) a))]
@[simp] def res_laws_toIntSS (r : List (List (Int))) : Sh × List V := ((false, [none]), [.sl true 48 (List.map (cL48 true) r)])
def p_laws_toIntSS_L0 (a0 : List (List (Int))) (x4b0 : Int) (l1b0 : List (List (Int))) : Option (List (List (Int))) :=
 if x4b0 < (a0.length : Int) then
  if 0 ≤ x4b0 then
   a0[x4b0.toNat]? >>= fun y35 =>
   p_laws_toIntS y35 >>= fun y38 =>
   l1b0[x4b0.toNat]? >>= fun y39 =>
   some (List.set l1b0 x4b0.toNat y38) >>= fun l41 =>
   p_laws_toIntSS_L0 a0 (IntKind.wrap .i64 (x4b0 + 1)) l41
  else none
 else
  some l1b0
partial_fixpoint
@[simp] noncomputable def L_laws_toIntSS_L0 : Code := nav [1, 1, 0, 1, 0, 0] (bodyOf Try.f53)
@[simp] def T_laws_toIntSS_L0 (a0 : List (List (Int))) (x4b0 : Int) (l1b0 : List (List (Int))) (st : Nat → Nat) : St := ⟨[(0, .one (.sl false 48 (List.map (cL48 false) a0))), (3, .one (.ow 1 1)), (4, .one (.lit (.int .i64 x4b0)))], [none, some (.rows 1 (st 1) 48 (List.map (cL48 true) l1b0))], (st 0)⟩
@[simp] def U_laws_toIntSS_L0 (a0 : List (List (Int))) (o : List (List (Int))) (st : Nat → Nat) : St := ⟨[(3, .one (.ow 1 1))], [none, some (.rows 1 (st 1) 48 (List.map (cL48 true) o))], (st 0)⟩
abbrev Q_laws_toIntSS_L0 (a0 : List (List (Int))) (x4b0 : Int) (l1b0 : List (List (Int))) (o : List (List (Int))) : Prop := ∀ st : Nat → Nat, LoopG Try.prog cal_laws_toIntSS 1 lm_laws_toIntSS 0 L_laws_toIntSS_L0 (U_laws_toIntSS_L0 a0) (T_laws_toIntSS_L0 a0 x4b0 l1b0 st) o
theorem l_laws_toIntSS_L0 {a0 : List (List (Int))} {x4b0 : Int} {l1b0 : List (List (Int))} {o : List (List (Int))} (h : p_laws_toIntSS_L0 a0 x4b0 l1b0 = some o) : Q_laws_toIntSS_L0 a0 x4b0 l1b0 o := by
  refine p_laws_toIntSS_L0.partial_correctness a0 (motive := fun x4b0 l1b0 o => Q_laws_toIntSS_L0 a0 x4b0 l1b0 o) ?_ x4b0 l1b0 o h
  clear h o x4b0 l1b0
  intro p' ih x4b0 l1b0 r h st
  rcases ifc h with ⟨h33, h⟩ | ⟨h33, h⟩
  · obtain ⟨h34, h⟩ := ifg h
    obtain ⟨y35, h36, h⟩ := bd h
    obtain ⟨y38, h37, h⟩ := bd h
    have h37c := c_laws_toIntS h37
    obtain ⟨y39, h40, h⟩ := bd h
    have h40b := (List.getElem?_eq_some_iff.1 h40).1
    obtain ⟨l41, h42, h⟩ := bd h
    have h42r : (List.map (cL48 true) l1b0).set x4b0.toNat [.sl true 3 (List.map cI y38)] = List.map (cL48 true) l41 := by rw [← Option.some.inj h42]; simp
    exact LoopG.step 0 (fun k hk => by simp (implicitDefEqProofs := false) [-getElem?_pos, -getElem?_neg, Try.f53, h33, h34, h36, h37c, h40, h40b, h42r]) (ih _ _ _ h (sl [((st 0) + 2), ((st 0) + 1)]))
  obtain rfl := Option.some.inj h
  exact LoopG.exit (sl [(st 0), (st 1)]) 0 (fun k hk => by simp (implicitDefEqProofs := false) [-getElem?_pos, -getElem?_neg, Try.f53, h33])
def p_laws_toIntSS (a0 : List (List (Int))) : Option (List (List (Int))) :=
 if a0.length * 24 ≤ 140737488355328 then
  some (List.replicate a0.length ([])) >>= fun l2 =>
  p_laws_toIntSS_L0 a0 0 l2 >>= fun o44 =>
  some o44
 else none
theorem t_laws_toIntSS {a0 : List (List (Int))} {r : List (List (Int))} (h : p_laws_toIntSS a0 = some r) : ∃ k, told Try.prog (cal_laws_toIntSS k) k lm_laws_toIntSS Try.f53 (arg_laws_toIntSS a0) = some (res_laws_toIntSS r) := by
  unfold p_laws_toIntSS at h
  obtain ⟨h1, h⟩ := ifg h
  have h1b : a0.length ≤ 9223372036854775807 := by omega
  obtain ⟨l2, h3, h⟩ := bd h
  have h3r : List.replicate a0.length [.sl true 3 []] = List.map (cL48 true) l2 := by rw [← Option.some.inj h3]; simp
  obtain ⟨o44, h43, h⟩ := bd h
  have qK45 := l_laws_toIntSS_L0 h43 (sl [2, 1])
  obtain ⟨s46, K45, qK45⟩ := qK45
  obtain rfl := Option.some.inj h
  obtain ⟨k, hk⟩ : ∃ k, K45 ≤ k := ⟨_, Nat.le_refl _⟩
  have jK45 := qK45 k (by omega) k (by omega)
  simp (implicitDefEqProofs := false) [-getElem?_pos, -getElem?_neg, Try.f53, h1, h1b, h3r] at jK45
  refine ⟨k, ?_⟩
  simp (implicitDefEqProofs := false) [-getElem?_pos, -getElem?_neg, Try.f53, h1, h1b, h3r, jK45]
theorem inj_laws_toIntSS : ∀ a b, arg_laws_toIntSS a = arg_laws_toIntSS b → a = b := by
  intro x y h; simp [arg_laws_toIntSS] at h; simp [Prod.ext_iff, h]
noncomputable def F_laws_toIntSS : Con := nilfix [[some 48]] (pcon arg_laws_toIntSS (fun a => p_laws_toIntSS a) res_laws_toIntSS)
theorem fn_laws_toIntSS : Fn Try.prog 53 F_laws_toIntSS := (Fn.pure cal_laws_toIntSS (fun k w0 h0 => ok_laws_toIntSS k w0 h0) mixed Try.func53 rfl rfl (by kernel_rfl) 1 (by decide) (fun _ => rfl) lm_laws_toIntSS (fun a b h => t_laws_toIntSS h)).nilfix _
theorem c_laws_toIntSS {a0 : List (List (Int))} {r : List (List (Int))} (h : p_laws_toIntSS a0 = some r) : F_laws_toIntSS [.one (.sl false 48 (List.map (cL48 false) a0))] = some (((false, [none]), [.sl true 48 (List.map (cL48 true) r)])) := pcon_at (arg := arg_laws_toIntSS) (p := fun a => p_laws_toIntSS a) (res := res_laws_toIntSS) (a := a0) (b := r) inj_laws_toIntSS h
noncomputable def cal_laws_toIntSSS (k : Nat) : Cal := calI (tabOf [(53, F_laws_toIntSS)]) (inlOf [])
@[simp] theorem cal_laws_toIntSSS_ap (k g : Nat) (vs : List TV) (mem : Mem) (ep : Nat) : cal_laws_toIntSSS k g vs mem ep = calI (tabOf [(53, F_laws_toIntSS)]) (inlOf []) g vs mem ep := rfl
theorem ok_laws_toIntSSS (k : Nat) (w0 : World) (h0 : True) : CalOk Try.prog w0.heap.size w0 (cal_laws_toIntSSS k) := by
  exact calI_ok (J := fun _ => True) stab_true (tabOf_ok _ (by simp [fn_laws_toIntSS])) (inlOf_ok _ (by simp [])) h0
@[simp] def lm_laws_toIntSSS : Nat → List Nat × Nat := fun b => if b = 0 then ([0, 3, 4], 1) else if b = 2000000 then ([], 8888888) else if b = 3000000 then ([3], 1) else if b = 1000001 then ([4, 7, 0, 48], 8888888) else ([], 0)
@[simp] def arg_laws_toIntSSS (a : List (List (List (Int)))) : List TV := [.one (.sl false 60 (List.map (cL60 false) a))]
@[simp] def res_laws_toIntSSS (r : List (List (List (Int)))) : Sh × List V := ((false, [none]), [.sl true 60 (List.map (cL60 true) r)])
def p_laws_toIntSSS_L0 (a0 : List (List (List (Int)))) (x4b0 : Int) (l1b0 : List (List (List (Int)))) : Option (List (List (List (Int)))) :=
 if x4b0 < (a0.length : Int) then
  if 0 ≤ x4b0 then
   a0[x4b0.toNat]? >>= fun y35 =>
   p_laws_toIntSS y35 >>= fun y38 =>
   l1b0[x4b0.toNat]? >>= fun y39 =>
   some (List.set l1b0 x4b0.toNat y38) >>= fun l41 =>
   p_laws_toIntSSS_L0 a0 (IntKind.wrap .i64 (x4b0 + 1)) l41
  else none
 else
  some l1b0
partial_fixpoint
@[simp] noncomputable def L_laws_toIntSSS_L0 : Code := nav [1, 1, 0, 1, 0, 0] (bodyOf Try.f39)
@[simp] def T_laws_toIntSSS_L0 (a0 : List (List (List (Int)))) (x4b0 : Int) (l1b0 : List (List (List (Int)))) (st : Nat → Nat) : St := ⟨[(0, .one (.sl false 60 (List.map (cL60 false) a0))), (3, .one (.ow 1 1)), (4, .one (.lit (.int .i64 x4b0)))], [none, some (.rows 1 (st 1) 60 (List.map (cL60 true) l1b0))], (st 0)⟩
@[simp] def U_laws_toIntSSS_L0 (a0 : List (List (List (Int)))) (o : List (List (List (Int)))) (st : Nat → Nat) : St := ⟨[(3, .one (.ow 1 1))], [none, some (.rows 1 (st 1) 60 (List.map (cL60 true) o))], (st 0)⟩
abbrev Q_laws_toIntSSS_L0 (a0 : List (List (List (Int)))) (x4b0 : Int) (l1b0 : List (List (List (Int)))) (o : List (List (List (Int)))) : Prop := ∀ st : Nat → Nat, LoopG Try.prog cal_laws_toIntSSS 1 lm_laws_toIntSSS 0 L_laws_toIntSSS_L0 (U_laws_toIntSSS_L0 a0) (T_laws_toIntSSS_L0 a0 x4b0 l1b0 st) o
theorem l_laws_toIntSSS_L0 {a0 : List (List (List (Int)))} {x4b0 : Int} {l1b0 : List (List (List (Int)))} {o : List (List (List (Int)))} (h : p_laws_toIntSSS_L0 a0 x4b0 l1b0 = some o) : Q_laws_toIntSSS_L0 a0 x4b0 l1b0 o := by
  refine p_laws_toIntSSS_L0.partial_correctness a0 (motive := fun x4b0 l1b0 o => Q_laws_toIntSSS_L0 a0 x4b0 l1b0 o) ?_ x4b0 l1b0 o h
  clear h o x4b0 l1b0
  intro p' ih x4b0 l1b0 r h st
  rcases ifc h with ⟨h33, h⟩ | ⟨h33, h⟩
  · obtain ⟨h34, h⟩ := ifg h
    obtain ⟨y35, h36, h⟩ := bd h
    obtain ⟨y38, h37, h⟩ := bd h
    have h37c := c_laws_toIntSS h37
    obtain ⟨y39, h40, h⟩ := bd h
    have h40b := (List.getElem?_eq_some_iff.1 h40).1
    obtain ⟨l41, h42, h⟩ := bd h
    have h42r : (List.map (cL60 true) l1b0).set x4b0.toNat [.sl true 48 (List.map (cL48 true) y38)] = List.map (cL60 true) l41 := by rw [← Option.some.inj h42]; simp
    exact LoopG.step 0 (fun k hk => by simp (implicitDefEqProofs := false) [-getElem?_pos, -getElem?_neg, Try.f39, h33, h34, h36, h37c, h40, h40b, h42r]) (ih _ _ _ h (sl [((st 0) + 2), ((st 0) + 1)]))
  obtain rfl := Option.some.inj h
  exact LoopG.exit (sl [(st 0), (st 1)]) 0 (fun k hk => by simp (implicitDefEqProofs := false) [-getElem?_pos, -getElem?_neg, Try.f39, h33])
def p_laws_toIntSSS (a0 : List (List (List (Int)))) : Option (List (List (List (Int)))) :=
 if a0.length * 24 ≤ 140737488355328 then
  some (List.replicate a0.length ([])) >>= fun l2 =>
  p_laws_toIntSSS_L0 a0 0 l2 >>= fun o44 =>
  some o44
 else none
theorem t_laws_toIntSSS {a0 : List (List (List (Int)))} {r : List (List (List (Int)))} (h : p_laws_toIntSSS a0 = some r) : ∃ k, told Try.prog (cal_laws_toIntSSS k) k lm_laws_toIntSSS Try.f39 (arg_laws_toIntSSS a0) = some (res_laws_toIntSSS r) := by
  unfold p_laws_toIntSSS at h
  obtain ⟨h1, h⟩ := ifg h
  have h1b : a0.length ≤ 9223372036854775807 := by omega
  obtain ⟨l2, h3, h⟩ := bd h
  have h3r : List.replicate a0.length [.sl true 48 []] = List.map (cL60 true) l2 := by rw [← Option.some.inj h3]; simp
  obtain ⟨o44, h43, h⟩ := bd h
  have qK45 := l_laws_toIntSSS_L0 h43 (sl [2, 1])
  obtain ⟨s46, K45, qK45⟩ := qK45
  obtain rfl := Option.some.inj h
  obtain ⟨k, hk⟩ : ∃ k, K45 ≤ k := ⟨_, Nat.le_refl _⟩
  have jK45 := qK45 k (by omega) k (by omega)
  simp (implicitDefEqProofs := false) [-getElem?_pos, -getElem?_neg, Try.f39, h1, h1b, h3r] at jK45
  refine ⟨k, ?_⟩
  simp (implicitDefEqProofs := false) [-getElem?_pos, -getElem?_neg, Try.f39, h1, h1b, h3r, jK45]
theorem inj_laws_toIntSSS : ∀ a b, arg_laws_toIntSSS a = arg_laws_toIntSSS b → a = b := by
  intro x y h; simp [arg_laws_toIntSSS] at h; simp [Prod.ext_iff, h]
noncomputable def F_laws_toIntSSS : Con := nilfix [[some 60]] (pcon arg_laws_toIntSSS (fun a => p_laws_toIntSSS a) res_laws_toIntSSS)
theorem fn_laws_toIntSSS : Fn Try.prog 39 F_laws_toIntSSS := (Fn.pure cal_laws_toIntSSS (fun k w0 h0 => ok_laws_toIntSSS k w0 h0) mixed Try.func39 rfl rfl (by kernel_rfl) 1 (by decide) (fun _ => rfl) lm_laws_toIntSSS (fun a b h => t_laws_toIntSSS h)).nilfix _
theorem c_laws_toIntSSS {a0 : List (List (List (Int)))} {r : List (List (List (Int)))} (h : p_laws_toIntSSS a0 = some r) : F_laws_toIntSSS [.one (.sl false 60 (List.map (cL60 false) a0))] = some (((false, [none]), [.sl true 60 (List.map (cL60 true) r)])) := pcon_at (arg := arg_laws_toIntSSS) (p := fun a => p_laws_toIntSSS a) (res := res_laws_toIntSSS) (a := a0) (b := r) inj_laws_toIntSSS h
noncomputable def cal_laws_toGram (k : Nat) : Cal := calI (tabOf [(39, F_laws_toIntSSS)]) (inlOf [])
@[simp] theorem cal_laws_toGram_ap (k g : Nat) (vs : List TV) (mem : Mem) (ep : Nat) : cal_laws_toGram k g vs mem ep = calI (tabOf [(39, F_laws_toIntSSS)]) (inlOf []) g vs mem ep := rfl
theorem ok_laws_toGram (k : Nat) (w0 : World) (h0 : True) : CalOk Try.prog w0.heap.size w0 (cal_laws_toGram k) := by
  exact calI_ok (J := fun _ => True) stab_true (tabOf_ok _ (by simp [fn_laws_toIntSSS])) (inlOf_ok _ (by simp [])) h0
@[simp] def lm_laws_toGram : Nat → List Nat × Nat := fun b => ([], 0)
@[simp] def arg_laws_toGram (a : List (List (List (Int)))) : List TV := [.agg [.sl false 60 (List.map (cL60 false) a)]]
@[simp] def res_laws_toGram (r : List (List (List (Int)))) : Sh × List V := ((false, [some 1]), [.sl true 60 (List.map (cL60 true) r)])
def p_laws_toGram (a0 : List (List (List (Int)))) : Option (List (List (List (Int)))) :=
 p_laws_toIntSSS a0 >>= fun y2 =>
 some y2
theorem t_laws_toGram {a0 : List (List (List (Int)))} {r : List (List (List (Int)))} (h : p_laws_toGram a0 = some r) : ∃ k, told Try.prog (cal_laws_toGram k) k lm_laws_toGram Try.f20 (arg_laws_toGram a0) = some (res_laws_toGram r) := by
  unfold p_laws_toGram at h
  obtain ⟨y2, h1, h⟩ := bd h
  have h1c := c_laws_toIntSSS h1
  obtain rfl := Option.some.inj h
  obtain ⟨k, hk⟩ : ∃ k, 0 ≤ k := ⟨_, Nat.le_refl _⟩
  refine ⟨k, ?_⟩
  simp (implicitDefEqProofs := false) [-getElem?_pos, -getElem?_neg, Try.f20, h1c]
theorem inj_laws_toGram : ∀ a b, arg_laws_toGram a = arg_laws_toGram b → a = b := by
  intro x y h; simp [arg_laws_toGram] at h; simp [Prod.ext_iff, h]
noncomputable def F_laws_toGram : Con := nilfix [[some 60]] (pcon arg_laws_toGram (fun a => p_laws_toGram a) res_laws_toGram)
theorem fn_laws_toGram : Fn Try.prog 20 F_laws_toGram := (Fn.pure cal_laws_toGram (fun k w0 h0 => ok_laws_toGram k w0 h0) mixed Try.func20 rfl rfl (by kernel_rfl) 1 (by decide) (fun _ => rfl) lm_laws_toGram (fun a b h => t_laws_toGram h)).nilfix _
theorem c_laws_toGram {a0 : List (List (List (Int)))} {r : List (List (List (Int)))} (h : p_laws_toGram a0 = some r) : F_laws_toGram [.agg [.sl false 60 (List.map (cL60 false) a0)]] = some (((false, [some 1]), [.sl true 60 (List.map (cL60 true) r)])) := pcon_at (arg := arg_laws_toGram) (p := fun a => p_laws_toGram a) (res := res_laws_toGram) (a := a0) (b := r) inj_laws_toGram h
def cal_spec_l1In (k : Nat) : Cal := calI (tabOf []) (inlOf [])
@[simp] theorem cal_spec_l1In_ap (k g : Nat) (vs : List TV) (mem : Mem) (ep : Nat) : cal_spec_l1In k g vs mem ep = calI (tabOf []) (inlOf []) g vs mem ep := rfl
theorem ok_spec_l1In (k : Nat) (w0 : World) (h0 : True) : CalOk Try.prog w0.heap.size w0 (cal_spec_l1In k) := by
  exact calI_ok (J := fun _ => True) stab_true (tabOf_ok _ (by simp [])) (inlOf_ok _ (by simp [])) h0
@[simp] def lm_spec_l1In : Nat → List Nat × Nat := fun b => ([], 0)
@[simp] def arg_spec_l1In (a : Int × Int × Int) : List TV := [.one (.lit (.int .i64 a.1)), .one (.lit (.int .i64 a.2.1)), .one (.lit (.int .i64 a.2.2))]
@[simp] def res_spec_l1In (r : Bool) : Sh × List V := ((false, [none]), [.lit (.bool r)])
def p_spec_l1In (a0 : Int) (a1 : Int) (a2 : Int) : Option Bool :=
 if a1 ≤ a0 then
  some (decide (a0 ≤ a2))
 else
  some false
theorem t_spec_l1In {a0 : Int} {a1 : Int} {a2 : Int} {r : Bool} (h : p_spec_l1In a0 a1 a2 = some r) : ∃ k, told Try.prog (cal_spec_l1In k) k lm_spec_l1In Try.f52 (arg_spec_l1In (a0, a1, a2)) = some (res_spec_l1In r) := by
  unfold p_spec_l1In at h
  rcases ifc h with ⟨h1, h⟩ | ⟨h1, h⟩
  · obtain rfl := Option.some.inj h
    obtain ⟨k, hk⟩ : ∃ k, 0 ≤ k := ⟨_, Nat.le_refl _⟩
    refine ⟨k, ?_⟩
    simp (implicitDefEqProofs := false) [-getElem?_pos, -getElem?_neg, Try.f52, h1]
  obtain rfl := Option.some.inj h
  obtain ⟨k, hk⟩ : ∃ k, 0 ≤ k := ⟨_, Nat.le_refl _⟩
  refine ⟨k, ?_⟩
  simp (implicitDefEqProofs := false) [-getElem?_pos, -getElem?_neg, Try.f52, h1]
theorem inj_spec_l1In : ∀ a b, arg_spec_l1In a = arg_spec_l1In b → a = b := by
  rintro ⟨x0, x1, x2⟩ ⟨y0, y1, y2⟩ h; simp [arg_spec_l1In] at h; simp [Prod.ext_iff, h]
noncomputable def F_spec_l1In : Con := nilfix [] (pcon arg_spec_l1In (fun a => p_spec_l1In a.1 a.2.1 a.2.2) res_spec_l1In)
theorem fn_spec_l1In : Fn Try.prog 52 F_spec_l1In := (Fn.pure cal_spec_l1In (fun k w0 h0 => ok_spec_l1In k w0 h0) mixed Try.func52 rfl rfl (by kernel_rfl) 3 (by decide) (fun _ => rfl) lm_spec_l1In (fun a b h => t_spec_l1In h)).nilfix _
theorem c_spec_l1In {a0 : Int} {a1 : Int} {a2 : Int} {r : Bool} (h : p_spec_l1In a0 a1 a2 = some r) : F_spec_l1In [.one (.lit (.int .i64 a0)), .one (.lit (.int .i64 a1)), .one (.lit (.int .i64 a2))] = some (((false, [none]), [.lit (.bool r)])) := pcon_at (arg := arg_spec_l1In) (p := fun a => p_spec_l1In a.1 a.2.1 a.2.2) (res := res_spec_l1In) (a := (a0, a1, a2)) (b := r) inj_spec_l1In h
noncomputable def cal_spec_GramOk (k : Nat) : Cal := calI (tabOf [(52, F_spec_l1In)]) (inlOf [])
@[simp] theorem cal_spec_GramOk_ap (k g : Nat) (vs : List TV) (mem : Mem) (ep : Nat) : cal_spec_GramOk k g vs mem ep = calI (tabOf [(52, F_spec_l1In)]) (inlOf []) g vs mem ep := rfl
theorem ok_spec_GramOk (k : Nat) (w0 : World) (h0 : True) : CalOk Try.prog w0.heap.size w0 (cal_spec_GramOk k) := by
  exact calI_ok (J := fun _ => True) stab_true (tabOf_ok _ (by simp [fn_spec_l1In])) (inlOf_ok _ (by simp [])) h0
@[simp] def lm_spec_GramOk : Nat → List Nat × Nat := fun b => if b = 2 then ([1, 3, 4, 5], 1) else if b = 2000002 then ([], 8888888) else if b = 3000002 then ([1, 3, 4], 1) else if b = 0 then ([1, 3, 4], 1) else if b = 2000000 then ([], 8888888) else if b = 3000000 then ([], 1) else if b = 4 then ([1, 3, 4, 5, 6, 7], 1) else if b = 2000004 then ([], 8888888) else if b = 3000004 then ([1, 3, 4, 5], 1) else ([], 0)
@[simp] def arg_spec_GramOk (a : List (List (List (Int)))) : List TV := [.agg [.sl false 60 (List.map (cL60 false) a)]]
@[simp] def res_spec_GramOk (r : Bool) : Sh × List V := ((false, [none]), [.lit (.bool r)])
def p_spec_GramOk_L4 (a0 : List (List (List (Int)))) (x4b0 : Int) (x5b2 : Int) (y218 : List (Int)) (x7b4 : Int) : Option (Bool ⊕ Unit) :=
 if x7b4 < (y218.length : Int) then
  if 0 ≤ x7b4 then
   y218[x7b4.toNat]? >>= fun y242 =>
   p_spec_l1In y242 0 25 >>= fun y245 =>
   if y245 then
    p_spec_GramOk_L4 a0 x4b0 x5b2 y218 (IntKind.wrap .i64 (x7b4 + 1))
   else
    p_spec_l1In y242 100 (IntKind.wrap .i64 ((IntKind.wrap .i64 (100 + (a0.length : Int))) - 1)) >>= fun y248 =>
    if y248 then
     p_spec_GramOk_L4 a0 x4b0 x5b2 y218 (IntKind.wrap .i64 (x7b4 + 1))
    else
     some (.inl false)
  else none
 else
  some (.inr ())
partial_fixpoint
@[simp] noncomputable def L_spec_GramOk_L4 : Code := nav [1, 1, 1, 0, 1, 0, 0, 1, 0, 0, 1, 1, 0, 0, 1, 0, 0, 1, 1, 1, 0, 0] (bodyOf Try.f38)
@[simp] def T_spec_GramOk_L4 (a0 : List (List (List (Int)))) (x4b0 : Int) (x5b2 : Int) (y218 : List (Int)) (x7b4 : Int) (st : Nat → Nat) : St := ⟨[(1, .one (.bp 1 (st 1) 0)), (3, .one (.lit (.int .i64 (a0.length : Int)))), (4, .one (.lit (.int .i64 x4b0))), (5, .one (.lit (.int .i64 x5b2))), (6, .one (.sl false 3 (List.map cI y218))), (7, .one (.lit (.int .i64 x7b4)))], [none, some (.box (st 1) [.sl false 60 (List.map (cL60 false) a0)])], (st 0)⟩
@[simp] def U_spec_GramOk_L4 (a0 : List (List (List (Int)))) (x4b0 : Int) (x5b2 : Int) (y218 : List (Int)) (o : Unit) (st : Nat → Nat) : St := ⟨[(1, .one (.bp 1 (st 1) 0)), (3, .one (.lit (.int .i64 (a0.length : Int)))), (4, .one (.lit (.int .i64 x4b0))), (5, .one (.lit (.int .i64 x5b2)))], [none, some (.box (st 1) [.sl false 60 (List.map (cL60 false) a0)])], (st 0)⟩
abbrev Q_spec_GramOk_L4 (a0 : List (List (List (Int)))) (x4b0 : Int) (x5b2 : Int) (y218 : List (Int)) (x7b4 : Int) (o : Bool ⊕ Unit) : Prop := ∀ st : Nat → Nat, LoopT Try.prog cal_spec_GramOk 1 lm_spec_GramOk 4 L_spec_GramOk_L4 (tellS Try.prog lm_spec_GramOk [.tmp 2]) res_spec_GramOk (U_spec_GramOk_L4 a0 x4b0 x5b2 y218) (T_spec_GramOk_L4 a0 x4b0 x5b2 y218 x7b4 st) o
theorem l_spec_GramOk_L4 {a0 : List (List (List (Int)))} {x4b0 : Int} {x5b2 : Int} {y218 : List (Int)} {x7b4 : Int} {o : Bool ⊕ Unit} (h : p_spec_GramOk_L4 a0 x4b0 x5b2 y218 x7b4 = some o) : Q_spec_GramOk_L4 a0 x4b0 x5b2 y218 x7b4 o := by
  refine p_spec_GramOk_L4.partial_correctness a0 x4b0 x5b2 y218 (motive := fun x7b4 o => Q_spec_GramOk_L4 a0 x4b0 x5b2 y218 x7b4 o) ?_ x7b4 o h
  clear h o x7b4
  intro p' ih x7b4 r h st
  rcases ifc h with ⟨h240, h⟩ | ⟨h240, h⟩
  · obtain ⟨h241, h⟩ := ifg h
    obtain ⟨y242, h243, h⟩ := bd h
    obtain ⟨y245, h244, h⟩ := bd h
    have h244c := c_spec_l1In h244
    rcases ifb h with ⟨h246, h⟩ | ⟨h246, h⟩
    · exact LoopT.step 0 (fun k hk => by simp (implicitDefEqProofs := false) [-getElem?_pos, -getElem?_neg, Try.f38, h240, h241, h243, h244c, h246]) (ih _ _ h (sl [((st 0) + 1), (st 1)]))
    obtain ⟨y248, h247, h⟩ := bd h
    have h247c := c_spec_l1In h247
    try simp (implicitDefEqProofs := false) [-getElem?_pos, -getElem?_neg] at h247c
    rcases ifb h with ⟨h249, h⟩ | ⟨h249, h⟩
    · exact LoopT.step 0 (fun k hk => by simp (implicitDefEqProofs := false) [-getElem?_pos, -getElem?_neg, Try.f38, h240, h241, h243, h244c, h246, h247c, h249]) (ih _ _ h (sl [((st 0) + 2), (st 1)]))
    obtain rfl := Option.some.inj h
    exact LoopT.ret 0 (fun k hk => by simp (implicitDefEqProofs := false) [-getElem?_pos, -getElem?_neg, Try.f38, h240, h241, h243, h244c, h246, h247c, h249])
  obtain rfl := Option.some.inj h
  exact LoopT.exit (sl [(st 0), (st 1)]) 0 (fun k hk => by simp (implicitDefEqProofs := false) [-getElem?_pos, -getElem?_neg, Try.f38, h240])
def p_spec_GramOk_L2 (a0 : List (List (List (Int)))) (x4b0 : Int) (x5b2 : Int) : Option (Bool ⊕ Unit) :=
 if 0 ≤ x4b0 then
  a0[x4b0.toNat]? >>= fun y214 =>
  if x5b2 < (y214.length : Int) then
   if 0 ≤ x5b2 then
    y214[x5b2.toNat]? >>= fun y218 =>
    if 8 < (y218.length : Int) then
     some (.inl false)
    else
     p_spec_GramOk_L4 a0 x4b0 x5b2 y218 0 >>= fun o251 => match o251 with
     | .inl o251 =>
      some (.inl o251)
     | .inr o251 =>
      p_spec_GramOk_L2 a0 x4b0 (IntKind.wrap .i64 (x5b2 + 1))
   else none
  else
   some (.inr ())
 else none
partial_fixpoint
@[simp] noncomputable def L_spec_GramOk_L2 : Code := nav [1, 1, 1, 0, 1, 0, 0, 1, 0, 0, 1, 1, 0, 0] (bodyOf Try.f38)
@[simp] def T_spec_GramOk_L2 (a0 : List (List (List (Int)))) (x4b0 : Int) (x5b2 : Int) (st : Nat → Nat) : St := ⟨[(1, .one (.bp 1 (st 1) 0)), (3, .one (.lit (.int .i64 (a0.length : Int)))), (4, .one (.lit (.int .i64 x4b0))), (5, .one (.lit (.int .i64 x5b2)))], [none, some (.box (st 1) [.sl false 60 (List.map (cL60 false) a0)])], (st 0)⟩
@[simp] def U_spec_GramOk_L2 (a0 : List (List (List (Int)))) (x4b0 : Int) (o : Unit) (st : Nat → Nat) : St := ⟨[(1, .one (.bp 1 (st 1) 0)), (3, .one (.lit (.int .i64 (a0.length : Int)))), (4, .one (.lit (.int .i64 x4b0)))], [none, some (.box (st 1) [.sl false 60 (List.map (cL60 false) a0)])], (st 0)⟩
abbrev Q_spec_GramOk_L2 (a0 : List (List (List (Int)))) (x4b0 : Int) (x5b2 : Int) (o : Bool ⊕ Unit) : Prop := ∀ st : Nat → Nat, LoopT Try.prog cal_spec_GramOk 1 lm_spec_GramOk 2 L_spec_GramOk_L2 (tellS Try.prog lm_spec_GramOk [.tmp 2]) res_spec_GramOk (U_spec_GramOk_L2 a0 x4b0) (T_spec_GramOk_L2 a0 x4b0 x5b2 st) o
theorem l_spec_GramOk_L2 {a0 : List (List (List (Int)))} {x4b0 : Int} {x5b2 : Int} {o : Bool ⊕ Unit} (h : p_spec_GramOk_L2 a0 x4b0 x5b2 = some o) : Q_spec_GramOk_L2 a0 x4b0 x5b2 o := by
  refine p_spec_GramOk_L2.partial_correctness a0 x4b0 (motive := fun x5b2 o => Q_spec_GramOk_L2 a0 x4b0 x5b2 o) ?_ x5b2 o h
  clear h o x5b2
  intro p' ih x5b2 r h st
  obtain ⟨h213, h⟩ := ifg h
  obtain ⟨y214, h215, h⟩ := bd h
  rcases ifc h with ⟨h216, h⟩ | ⟨h216, h⟩
  · obtain ⟨h217, h⟩ := ifg h
    obtain ⟨y218, h219, h⟩ := bd h
    rcases ifc h with ⟨h220, h⟩ | ⟨h220, h⟩
    · obtain rfl := Option.some.inj h
      exact LoopT.ret 0 (fun k hk => by simp (implicitDefEqProofs := false) [-getElem?_pos, -getElem?_neg, Try.f38, h213, h215, h216, h217, h219, h220])
    obtain ⟨o251, h250, h⟩ := bd h
    have qK252 := l_spec_GramOk_L4 h250 (sl [(st 0), (st 1)])
    rcases o251 with o251 | o251
    · obtain ⟨K252, qK252⟩ := qK252
      obtain rfl := Option.some.inj h
      refine LoopT.ret K252 (fun k hk => ?_)
      obtain ⟨S_K252, jK252, iK252⟩ := qK252 k (by omega) k (by omega)
      simp (implicitDefEqProofs := false) [-getElem?_pos, -getElem?_neg, Try.f38, h213, h215, h216, h217, h219, h220] at jK252
      simp (implicitDefEqProofs := false) [-getElem?_pos, -getElem?_neg, Try.f38, h213, h215, h216, h217, h219, h220, iK252, jK252]
    obtain ⟨s253, K252, qK252⟩ := qK252
    refine LoopT.step K252 (fun k hk => ?_) (ih _ _ h (sl [(s253 0), (s253 1)]))
    have jK252 := qK252 k (by omega) k (by omega)
    simp (implicitDefEqProofs := false) [-getElem?_pos, -getElem?_neg, Try.f38, h213, h215, h216, h217, h219, h220] at jK252
    simp (implicitDefEqProofs := false) [-getElem?_pos, -getElem?_neg, Try.f38, h213, h215, h216, h217, h219, h220, jK252]
  obtain rfl := Option.some.inj h
  exact LoopT.exit (sl [(st 0), (st 1)]) 0 (fun k hk => by simp (implicitDefEqProofs := false) [-getElem?_pos, -getElem?_neg, Try.f38, h213, h215, h216])
def p_spec_GramOk_L0 (a0 : List (List (List (Int)))) (x4b0 : Int) : Option (Bool ⊕ Unit) :=
 if x4b0 < (a0.length : Int) then
  if 0 ≤ x4b0 then
   a0[x4b0.toNat]? >>= fun y147 =>
   p_spec_l1In (y147.length : Int) 1 8 >>= fun y150 =>
   if y150 then
    p_spec_GramOk_L2 a0 x4b0 0 >>= fun o255 => match o255 with
    | .inl o255 =>
     some (.inl o255)
    | .inr o255 =>
     p_spec_GramOk_L0 a0 (IntKind.wrap .i64 (x4b0 + 1))
   else
    some (.inl false)
  else none
 else
  some (.inr ())
partial_fixpoint
@[simp] noncomputable def L_spec_GramOk_L0 : Code := nav [1, 1, 1, 0, 1, 0, 0] (bodyOf Try.f38)
@[simp] def T_spec_GramOk_L0 (a0 : List (List (List (Int)))) (x4b0 : Int) (st : Nat → Nat) : St := ⟨[(1, .one (.bp 1 (st 1) 0)), (3, .one (.lit (.int .i64 (a0.length : Int)))), (4, .one (.lit (.int .i64 x4b0)))], [none, some (.box (st 1) [.sl false 60 (List.map (cL60 false) a0)])], (st 0)⟩
@[simp] def U_spec_GramOk_L0 (a0 : List (List (List (Int)))) (o : Unit) (st : Nat → Nat) : St := ⟨[], [none, some (.box (st 1) [.sl false 60 (List.map (cL60 false) a0)])], (st 0)⟩
abbrev Q_spec_GramOk_L0 (a0 : List (List (List (Int)))) (x4b0 : Int) (o : Bool ⊕ Unit) : Prop := ∀ st : Nat → Nat, LoopT Try.prog cal_spec_GramOk 1 lm_spec_GramOk 0 L_spec_GramOk_L0 (tellS Try.prog lm_spec_GramOk [.tmp 2]) res_spec_GramOk (U_spec_GramOk_L0 a0) (T_spec_GramOk_L0 a0 x4b0 st) o
theorem l_spec_GramOk_L0 {a0 : List (List (List (Int)))} {x4b0 : Int} {o : Bool ⊕ Unit} (h : p_spec_GramOk_L0 a0 x4b0 = some o) : Q_spec_GramOk_L0 a0 x4b0 o := by
  refine p_spec_GramOk_L0.partial_correctness a0 (motive := fun x4b0 o => Q_spec_GramOk_L0 a0 x4b0 o) ?_ x4b0 o h
  clear h o x4b0
  intro p' ih x4b0 r h st
  rcases ifc h with ⟨h145, h⟩ | ⟨h145, h⟩
  · obtain ⟨h146, h⟩ := ifg h
    obtain ⟨y147, h148, h⟩ := bd h
    obtain ⟨y150, h149, h⟩ := bd h
    have h149c := c_spec_l1In h149
    try simp (implicitDefEqProofs := false) [-getElem?_pos, -getElem?_neg] at h149c
    rcases ifb h with ⟨h151, h⟩ | ⟨h151, h⟩
    · obtain ⟨o255, h254, h⟩ := bd h
      have qK256 := l_spec_GramOk_L2 h254 (sl [((st 0) + 1), (st 1)])
      rcases o255 with o255 | o255
      · obtain ⟨K256, qK256⟩ := qK256
        obtain rfl := Option.some.inj h
        refine LoopT.ret K256 (fun k hk => ?_)
        obtain ⟨S_K256, jK256, iK256⟩ := qK256 k (by omega) k (by omega)
        simp (implicitDefEqProofs := false) [-getElem?_pos, -getElem?_neg, Try.f38, h145, h146, h148, h149c, h151] at jK256
        simp (implicitDefEqProofs := false) [-getElem?_pos, -getElem?_neg, Try.f38, h145, h146, h148, h149c, h151, iK256, jK256]
      obtain ⟨s257, K256, qK256⟩ := qK256
      refine LoopT.step K256 (fun k hk => ?_) (ih _ _ h (sl [(s257 0), (s257 1)]))
      have jK256 := qK256 k (by omega) k (by omega)
      simp (implicitDefEqProofs := false) [-getElem?_pos, -getElem?_neg, Try.f38, h145, h146, h148, h149c, h151] at jK256
      simp (implicitDefEqProofs := false) [-getElem?_pos, -getElem?_neg, Try.f38, h145, h146, h148, h149c, h151, jK256]
    obtain rfl := Option.some.inj h
    exact LoopT.ret 0 (fun k hk => by simp (implicitDefEqProofs := false) [-getElem?_pos, -getElem?_neg, Try.f38, h145, h146, h148, h149c, h151])
  obtain rfl := Option.some.inj h
  exact LoopT.exit (sl [(st 0), (st 1)]) 0 (fun k hk => by simp (implicitDefEqProofs := false) [-getElem?_pos, -getElem?_neg, Try.f38, h145])
def p_spec_GramOk (a0 : List (List (List (Int)))) : Option Bool :=
 p_spec_l1In (a0.length : Int) 1 20 >>= fun y2 =>
 if y2 then
  p_spec_GramOk_L0 a0 0 >>= fun o259 => match o259 with
  | .inl o259 =>
   some o259
  | .inr o259 =>
   some true
 else
  some false
theorem t_spec_GramOk {a0 : List (List (List (Int)))} {r : Bool} (h : p_spec_GramOk a0 = some r) : ∃ k, told Try.prog (cal_spec_GramOk k) k lm_spec_GramOk Try.f38 (arg_spec_GramOk a0) = some (res_spec_GramOk r) := by
  unfold p_spec_GramOk at h
  obtain ⟨y2, h1, h⟩ := bd h
  have h1c := c_spec_l1In h1
  try simp (implicitDefEqProofs := false) [-getElem?_pos, -getElem?_neg] at h1c
  rcases ifb h with ⟨h3, h⟩ | ⟨h3, h⟩
  · obtain ⟨o259, h258, h⟩ := bd h
    have qK260 := l_spec_GramOk_L0 h258 (sl [3, 1])
    rcases o259 with o259 | o259
    · obtain ⟨K260, qK260⟩ := qK260
      obtain rfl := Option.some.inj h
      obtain ⟨k, hk⟩ : ∃ k, K260 ≤ k := ⟨_, Nat.le_refl _⟩
      obtain ⟨S_K260, jK260, iK260⟩ := qK260 k (by omega) k (by omega)
      simp (implicitDefEqProofs := false) [-getElem?_pos, -getElem?_neg, Try.f38, h1c, h3] at jK260
      refine ⟨k, ?_⟩
      simp (implicitDefEqProofs := false) [-getElem?_pos, -getElem?_neg, Try.f38, h1c, h3, iK260, jK260]
    obtain ⟨s261, K260, qK260⟩ := qK260
    obtain rfl := Option.some.inj h
    obtain ⟨k, hk⟩ : ∃ k, K260 ≤ k := ⟨_, Nat.le_refl _⟩
    have jK260 := qK260 k (by omega) k (by omega)
    simp (implicitDefEqProofs := false) [-getElem?_pos, -getElem?_neg, Try.f38, h1c, h3] at jK260
    refine ⟨k, ?_⟩
    simp (implicitDefEqProofs := false) [-getElem?_pos, -getElem?_neg, Try.f38, h1c, h3, jK260]
  obtain rfl := Option.some.inj h
  obtain ⟨k, hk⟩ : ∃ k, 0 ≤ k := ⟨_, Nat.le_refl _⟩
  refine ⟨k, ?_⟩
  simp (implicitDefEqProofs := false) [-getElem?_pos, -getElem?_neg, Try.f38, h1c, h3]
theorem inj_spec_GramOk : ∀ a b, arg_spec_GramOk a = arg_spec_GramOk b → a = b := by
  intro x y h; simp [arg_spec_GramOk] at h; simp [Prod.ext_iff, h]
noncomputable def F_spec_GramOk : Con := nilfix [[some 60]] (pcon arg_spec_GramOk (fun a => p_spec_GramOk a) res_spec_GramOk)
theorem fn_spec_GramOk : Fn Try.prog 38 F_spec_GramOk := (Fn.pure cal_spec_GramOk (fun k w0 h0 => ok_spec_GramOk k w0 h0) mixed Try.func38 rfl rfl (by kernel_rfl) 1 (by decide) (fun _ => rfl) lm_spec_GramOk (fun a b h => t_spec_GramOk h)).nilfix _
theorem c_spec_GramOk {a0 : List (List (List (Int)))} {r : Bool} (h : p_spec_GramOk a0 = some r) : F_spec_GramOk [.agg [.sl false 60 (List.map (cL60 false) a0)]] = some (((false, [none]), [.lit (.bool r)])) := pcon_at (arg := arg_spec_GramOk) (p := fun a => p_spec_GramOk a) (res := res_spec_GramOk) (a := a0) (b := r) inj_spec_GramOk h
def cal_spec_SetHas (k : Nat) : Cal := calI (tabOf []) (inlOf [])
@[simp] theorem cal_spec_SetHas_ap (k g : Nat) (vs : List TV) (mem : Mem) (ep : Nat) : cal_spec_SetHas k g vs mem ep = calI (tabOf []) (inlOf []) g vs mem ep := rfl
theorem ok_spec_SetHas (k : Nat) (w0 : World) (h0 : True) : CalOk Try.prog w0.heap.size w0 (cal_spec_SetHas k) := by
  exact calI_ok (J := fun _ => True) stab_true (tabOf_ok _ (by simp [])) (inlOf_ok _ (by simp [])) h0
@[simp] def lm_spec_SetHas : Nat → List Nat × Nat := fun b => if b = 0 then ([0, 1, 5], 0) else if b = 2000000 then ([], 8888888) else if b = 3000000 then ([], 0) else ([], 0)
@[simp] def arg_spec_SetHas (a : List (Int) × Int) : List TV := [.one (.sl false 3 (List.map cI a.1)), .one (.lit (.int .i64 a.2))]
@[simp] def res_spec_SetHas (r : Bool) : Sh × List V := ((false, [none]), [.lit (.bool r)])
def p_spec_SetHas_L0 (a0 : List (Int)) (a1 : Int) (x5b0 : Int) : Option (Bool ⊕ Unit) :=
 if x5b0 < (a0.length : Int) then
  if 0 ≤ x5b0 then
   a0[x5b0.toNat]? >>= fun y12 =>
   if y12 = a1 then
    some (.inl true)
   else
    p_spec_SetHas_L0 a0 a1 (IntKind.wrap .i64 (x5b0 + 1))
  else none
 else
  some (.inr ())
partial_fixpoint
@[simp] noncomputable def L_spec_SetHas_L0 : Code := nav [1, 0, 1, 0, 0] (bodyOf Try.f60)
@[simp] def T_spec_SetHas_L0 (a0 : List (Int)) (a1 : Int) (x5b0 : Int) (st : Nat → Nat) : St := ⟨[(0, .one (.sl false 3 (List.map cI a0))), (1, .one (.lit (.int .i64 a1))), (5, .one (.lit (.int .i64 x5b0)))], [none], (st 0)⟩
@[simp] def U_spec_SetHas_L0 (a0 : List (Int)) (a1 : Int) (o : Unit) (st : Nat → Nat) : St := ⟨[], [none], (st 0)⟩
abbrev Q_spec_SetHas_L0 (a0 : List (Int)) (a1 : Int) (x5b0 : Int) (o : Bool ⊕ Unit) : Prop := ∀ st : Nat → Nat, LoopT Try.prog cal_spec_SetHas 1 lm_spec_SetHas 0 L_spec_SetHas_L0 (tellS Try.prog lm_spec_SetHas [.tmp 4]) res_spec_SetHas (U_spec_SetHas_L0 a0 a1) (T_spec_SetHas_L0 a0 a1 x5b0 st) o
theorem l_spec_SetHas_L0 {a0 : List (Int)} {a1 : Int} {x5b0 : Int} {o : Bool ⊕ Unit} (h : p_spec_SetHas_L0 a0 a1 x5b0 = some o) : Q_spec_SetHas_L0 a0 a1 x5b0 o := by
  refine p_spec_SetHas_L0.partial_correctness a0 a1 (motive := fun x5b0 o => Q_spec_SetHas_L0 a0 a1 x5b0 o) ?_ x5b0 o h
  clear h o x5b0
  intro p' ih x5b0 r h st
  rcases ifc h with ⟨h10, h⟩ | ⟨h10, h⟩
  · obtain ⟨h11, h⟩ := ifg h
    obtain ⟨y12, h13, h⟩ := bd h
    rcases ifc h with ⟨h14, h⟩ | ⟨h14, h⟩
    · obtain rfl := Option.some.inj h
      exact LoopT.ret 0 (fun k hk => by simp (implicitDefEqProofs := false) [-getElem?_pos, -getElem?_neg, Try.f60, h10, h11, h13, (eq_true h14)])
    exact LoopT.step 0 (fun k hk => by simp (implicitDefEqProofs := false) [-getElem?_pos, -getElem?_neg, Try.f60, h10, h11, h13, h14]) (ih _ _ h (sl [(st 0)]))
  obtain rfl := Option.some.inj h
  exact LoopT.exit (sl [(st 0)]) 0 (fun k hk => by simp (implicitDefEqProofs := false) [-getElem?_pos, -getElem?_neg, Try.f60, h10])
def p_spec_SetHas (a0 : List (Int)) (a1 : Int) : Option Bool :=
 p_spec_SetHas_L0 a0 a1 0 >>= fun o16 => match o16 with
 | .inl o16 =>
  some o16
 | .inr o16 =>
  some false
theorem t_spec_SetHas {a0 : List (Int)} {a1 : Int} {r : Bool} (h : p_spec_SetHas a0 a1 = some r) : ∃ k, told Try.prog (cal_spec_SetHas k) k lm_spec_SetHas Try.f60 (arg_spec_SetHas (a0, a1)) = some (res_spec_SetHas r) := by
  unfold p_spec_SetHas at h
  obtain ⟨o16, h15, h⟩ := bd h
  have qK17 := l_spec_SetHas_L0 h15 (sl [1])
  rcases o16 with o16 | o16
  · obtain ⟨K17, qK17⟩ := qK17
    obtain rfl := Option.some.inj h
    obtain ⟨k, hk⟩ : ∃ k, K17 ≤ k := ⟨_, Nat.le_refl _⟩
    obtain ⟨S_K17, jK17, iK17⟩ := qK17 k (by omega) k (by omega)
    simp (implicitDefEqProofs := false) [-getElem?_pos, -getElem?_neg, Try.f60] at jK17
    refine ⟨k, ?_⟩
    simp (implicitDefEqProofs := false) [-getElem?_pos, -getElem?_neg, Try.f60, iK17, jK17]
  obtain ⟨s18, K17, qK17⟩ := qK17
  obtain rfl := Option.some.inj h
  obtain ⟨k, hk⟩ : ∃ k, K17 ≤ k := ⟨_, Nat.le_refl _⟩
  have jK17 := qK17 k (by omega) k (by omega)
  simp (implicitDefEqProofs := false) [-getElem?_pos, -getElem?_neg, Try.f60] at jK17
  refine ⟨k, ?_⟩
  simp (implicitDefEqProofs := false) [-getElem?_pos, -getElem?_neg, Try.f60, jK17]
theorem inj_spec_SetHas : ∀ a b, arg_spec_SetHas a = arg_spec_SetHas b → a = b := by
  rintro ⟨x0, x1⟩ ⟨y0, y1⟩ h; simp [arg_spec_SetHas] at h; simp [Prod.ext_iff, h]
noncomputable def F_spec_SetHas : Con := nilfix [[some 3], [none]] (pcon arg_spec_SetHas (fun a => p_spec_SetHas a.1 a.2) res_spec_SetHas)
theorem fn_spec_SetHas : Fn Try.prog 60 F_spec_SetHas := (Fn.pure cal_spec_SetHas (fun k w0 h0 => ok_spec_SetHas k w0 h0) mixed Try.func60 rfl rfl (by kernel_rfl) 2 (by decide) (fun _ => rfl) lm_spec_SetHas (fun a b h => t_spec_SetHas h)).nilfix _
theorem c_spec_SetHas {a0 : List (Int)} {a1 : Int} {r : Bool} (h : p_spec_SetHas a0 a1 = some r) : F_spec_SetHas [.one (.sl false 3 (List.map cI a0)), .one (.lit (.int .i64 a1))] = some (((false, [none]), [.lit (.bool r)])) := pcon_at (arg := arg_spec_SetHas) (p := fun a => p_spec_SetHas a.1 a.2) (res := res_spec_SetHas) (a := (a0, a1)) (b := r) inj_spec_SetHas h
noncomputable def cal_spec_SetAdd (k : Nat) : Cal := calI (tabOf [(60, F_spec_SetHas)]) (inlOf [])
@[simp] theorem cal_spec_SetAdd_ap (k g : Nat) (vs : List TV) (mem : Mem) (ep : Nat) : cal_spec_SetAdd k g vs mem ep = calI (tabOf [(60, F_spec_SetHas)]) (inlOf []) g vs mem ep := rfl
theorem ok_spec_SetAdd (k : Nat) (w0 : World) (h0 : True) : CalOk Try.prog w0.heap.size w0 (cal_spec_SetAdd k) := by
  exact calI_ok (J := fun _ => True) stab_true (tabOf_ok _ (by simp [fn_spec_SetHas])) (inlOf_ok _ (by simp [])) h0
@[simp] def lm_spec_SetAdd : Nat → List Nat × Nat := fun b => if b = 0 then ([0, 1, 5, 6], 0) else if b = 2000000 then ([], 8888888) else if b = 3000000 then ([0, 1, 5], 0) else ([], 0)
@[simp] def arg_spec_SetAdd (a : List (Int) × Int) : List TV := [.one (.sl false 3 (List.map cI a.1)), .one (.lit (.int .i64 a.2))]
@[simp] def res_spec_SetAdd (r : List (Int)) : Sh × List V := ((false, [none]), [.sl true 3 (List.map cI r)])
def p_spec_SetAdd_L0 (a0 : List (Int)) (a1 : Int) (x5b0 : Int) (x6b0 : Int) : Option (Int) :=
 if 0 ≤ x6b0 then
  a0[x6b0.toNat]? >>= fun y14 =>
  if a1 < y14 then
   p_spec_SetAdd_L0 a0 a1 x6b0 (IntKind.wrap .i64 (x6b0 - 1))
  else
   p_spec_SetAdd_L0 a0 a1 x5b0 (IntKind.wrap .i64 (x6b0 - 1))
 else
  some x5b0
partial_fixpoint
@[simp] noncomputable def L_spec_SetAdd_L0 : Code := nav [1, 1, 1, 0, 1, 0, 0] (bodyOf Try.f49)
@[simp] def T_spec_SetAdd_L0 (a0 : List (Int)) (a1 : Int) (x5b0 : Int) (x6b0 : Int) (st : Nat → Nat) : St := ⟨[(0, .one (.sl false 3 (List.map cI a0))), (1, .one (.lit (.int .i64 a1))), (5, .one (.lit (.int .i64 x5b0))), (6, .one (.lit (.int .i64 x6b0)))], [none], (st 0)⟩
@[simp] def U_spec_SetAdd_L0 (a0 : List (Int)) (a1 : Int) (o : Int) (st : Nat → Nat) : St := ⟨[(0, .one (.sl false 3 (List.map cI a0))), (1, .one (.lit (.int .i64 a1))), (5, .one (.lit (.int .i64 o)))], [none], (st 0)⟩
abbrev Q_spec_SetAdd_L0 (a0 : List (Int)) (a1 : Int) (x5b0 : Int) (x6b0 : Int) (o : Int) : Prop := ∀ st : Nat → Nat, LoopG Try.prog cal_spec_SetAdd 1 lm_spec_SetAdd 0 L_spec_SetAdd_L0 (U_spec_SetAdd_L0 a0 a1) (T_spec_SetAdd_L0 a0 a1 x5b0 x6b0 st) o
theorem l_spec_SetAdd_L0 {a0 : List (Int)} {a1 : Int} {x5b0 : Int} {x6b0 : Int} {o : Int} (h : p_spec_SetAdd_L0 a0 a1 x5b0 x6b0 = some o) : Q_spec_SetAdd_L0 a0 a1 x5b0 x6b0 o := by
  refine p_spec_SetAdd_L0.partial_correctness a0 a1 (motive := fun x5b0 x6b0 o => Q_spec_SetAdd_L0 a0 a1 x5b0 x6b0 o) ?_ x5b0 x6b0 o h
  clear h o x5b0 x6b0
  intro p' ih x5b0 x6b0 r h st
  rcases ifc h with ⟨h13, h⟩ | ⟨h13, h⟩
  · obtain ⟨y14, h15, h⟩ := bd h
    rcases ifc h with ⟨h16, h⟩ | ⟨h16, h⟩
    · exact LoopG.step 0 (fun k hk => by simp (implicitDefEqProofs := false) [-getElem?_pos, -getElem?_neg, Try.f49, h13, h15, h16]) (ih _ _ _ h (sl [(st 0)]))
    exact LoopG.step 0 (fun k hk => by simp (implicitDefEqProofs := false) [-getElem?_pos, -getElem?_neg, Try.f49, h13, h15, h16]) (ih _ _ _ h (sl [(st 0)]))
  obtain rfl := Option.some.inj h
  exact LoopG.exit (sl [(st 0)]) 0 (fun k hk => by simp (implicitDefEqProofs := false) [-getElem?_pos, -getElem?_neg, Try.f49, h13])
def p_spec_SetAdd (a0 : List (Int)) (a1 : Int) : Option (List (Int)) :=
 p_spec_SetHas a0 a1 >>= fun y2 =>
 if y2 then
  if a0.length * 8 ≤ 140737488355328 then
   some a0
  else none
 else
  p_spec_SetAdd_L0 a0 a1 (a0.length : Int) (IntKind.wrap .i64 ((a0.length : Int) - 1)) >>= fun o18 =>
  if 0 ≤ o18 then
   if o18.toNat ≤ a0.length then
    some (List.take o18.toNat a0) >>= fun l23 =>
    if l23.length * 8 ≤ 140737488355328 then
     if (l23.length + 1) * 8 ≤ 140737488355328 then
      some (l23 ++ [a1]) >>= fun l27 =>
      some (List.drop o18.toNat a0) >>= fun l29 =>
      if (l27.length + l29.length) * 8 ≤ 140737488355328 then
       some (l27 ++ l29) >>= fun l32 =>
       some l32
      else none
     else none
    else none
   else none
  else none
theorem t_spec_SetAdd {a0 : List (Int)} {a1 : Int} {r : List (Int)} (h : p_spec_SetAdd a0 a1 = some r) : ∃ k, told Try.prog (cal_spec_SetAdd k) k lm_spec_SetAdd Try.f49 (arg_spec_SetAdd (a0, a1)) = some (res_spec_SetAdd r) := by
  unfold p_spec_SetAdd at h
  obtain ⟨y2, h1, h⟩ := bd h
  have h1c := c_spec_SetHas h1
  rcases ifb h with ⟨h3, h⟩ | ⟨h3, h⟩
  · obtain ⟨h4, h⟩ := ifg h
    obtain rfl := Option.some.inj h
    obtain ⟨k, hk⟩ : ∃ k, 0 ≤ k := ⟨_, Nat.le_refl _⟩
    refine ⟨k, ?_⟩
    simp (implicitDefEqProofs := false) [-getElem?_pos, -getElem?_neg, Try.f49, h1c, h3, h4]
  obtain ⟨o18, h17, h⟩ := bd h
  have qK19 := l_spec_SetAdd_L0 h17 (sl [2])
  obtain ⟨s20, K19, qK19⟩ := qK19
  obtain ⟨h21, h⟩ := ifg h
  obtain ⟨h22, h⟩ := ifg h
  have h22i : o18 ≤ (a0.length : Int) := by omega
  obtain ⟨l23, h24, h⟩ := bd h
  have h24r : List.take o18.toNat (List.map cI a0) = List.map cI l23 := by rw [← Option.some.inj h24]; simp
  obtain ⟨h25, h⟩ := ifg h
  obtain ⟨h26, h⟩ := ifg h
  obtain ⟨l27, h28, h⟩ := bd h
  have h28r : List.map cI l23 ++ [[.lit (.int .i64 a1)]] = List.map cI l27 := by rw [← Option.some.inj h28]; simp
  obtain ⟨l29, h30, h⟩ := bd h
  have h30r : List.drop o18.toNat (List.map cI a0) = List.map cI l29 := by rw [← Option.some.inj h30]; simp
  obtain ⟨h31, h⟩ := ifg h
  obtain ⟨l32, h33, h⟩ := bd h
  have h33r : List.map cI l27 ++ List.map cI l29 = List.map cI l32 := by rw [← Option.some.inj h33]; simp
  obtain rfl := Option.some.inj h
  obtain ⟨k, hk⟩ : ∃ k, K19 ≤ k := ⟨_, Nat.le_refl _⟩
  have jK19 := qK19 k (by omega) k (by omega)
  simp (implicitDefEqProofs := false) [-getElem?_pos, -getElem?_neg, Try.f49, h1c, h3, h21, h22, h22i, h24r, h25, h26, h28r, h30r, h31, h33r] at jK19
  refine ⟨k, ?_⟩
  simp (implicitDefEqProofs := false) [-getElem?_pos, -getElem?_neg, Try.f49, h1c, h3, h21, h22, h22i, h24r, h25, h26, h28r, h30r, h31, h33r, jK19]
theorem inj_spec_SetAdd : ∀ a b, arg_spec_SetAdd a = arg_spec_SetAdd b → a = b := by
  rintro ⟨x0, x1⟩ ⟨y0, y1⟩ h; simp [arg_spec_SetAdd] at h; simp [Prod.ext_iff, h]
noncomputable def F_spec_SetAdd : Con := nilfix [[some 3], [none]] (pcon arg_spec_SetAdd (fun a => p_spec_SetAdd a.1 a.2) res_spec_SetAdd)
theorem fn_spec_SetAdd : Fn Try.prog 49 F_spec_SetAdd := (Fn.pure cal_spec_SetAdd (fun k w0 h0 => ok_spec_SetAdd k w0 h0) mixed Try.func49 rfl rfl (by kernel_rfl) 2 (by decide) (fun _ => rfl) lm_spec_SetAdd (fun a b h => t_spec_SetAdd h)).nilfix _
theorem c_spec_SetAdd {a0 : List (Int)} {a1 : Int} {r : List (Int)} (h : p_spec_SetAdd a0 a1 = some r) : F_spec_SetAdd [.one (.sl false 3 (List.map cI a0)), .one (.lit (.int .i64 a1))] = some (((false, [none]), [.sl true 3 (List.map cI r)])) := pcon_at (arg := arg_spec_SetAdd) (p := fun a => p_spec_SetAdd a.1 a.2) (res := res_spec_SetAdd) (a := (a0, a1)) (b := r) inj_spec_SetAdd h
noncomputable def cal_spec_Letters (k : Nat) : Cal := calI (tabOf [(38, F_spec_GramOk), (49, F_spec_SetAdd)]) (inlOf [])
@[simp] theorem cal_spec_Letters_ap (k g : Nat) (vs : List TV) (mem : Mem) (ep : Nat) : cal_spec_Letters k g vs mem ep = calI (tabOf [(38, F_spec_GramOk), (49, F_spec_SetAdd)]) (inlOf []) g vs mem ep := rfl
theorem ok_spec_Letters (k : Nat) (w0 : World) (h0 : True) : CalOk Try.prog w0.heap.size w0 (cal_spec_Letters k) := by
  exact calI_ok (J := fun _ => True) stab_true (tabOf_ok _ (by simp [fn_spec_GramOk, fn_spec_SetAdd])) (inlOf_ok _ (by simp [])) h0
@[simp] def lm_spec_Letters : Nat → List Nat × Nat := fun b => if b = 4 then ([1, 3, 4, 5, 6], 2) else if b = 2000004 then ([1, 3, 0, 2], 8888888) else if b = 3000004 then ([1, 3, 4, 5], 2) else if b = 2 then ([1, 3, 4, 5], 2) else if b = 2000002 then ([], 8888888) else if b = 3000002 then ([1, 3, 4], 2) else if b = 0 then ([1, 3, 4], 2) else if b = 2000000 then ([], 8888888) else if b = 3000000 then ([3], 2) else ([], 0)
@[simp] def arg_spec_Letters (a : List (List (List (Int)))) : List TV := [.agg [.sl false 60 (List.map (cL60 false) a)]]
@[simp] def res_spec_Letters (r : List (Int)) : Sh × List V := ((false, [none]), [.sl true 3 (List.map cI r)])
def p_spec_Letters_L4 (x4b0 : Int) (x5b2 : Int) (a0 : List (List (List (Int)))) (x6b4 : Int) (l2b4 : List (Int)) : Option (List (Int)) :=
 if 0 ≤ x4b0 then
  a0[x4b0.toNat]? >>= fun y231 =>
  if 0 ≤ x5b2 then
   y231[x5b2.toNat]? >>= fun y234 =>
   if x6b4 < (y234.length : Int) then
    if 0 ≤ x6b4 then
     y234[x6b4.toNat]? >>= fun y238 =>
     if y238 < 100 then
      p_spec_SetAdd l2b4 y238 >>= fun y242 =>
      p_spec_Letters_L4 x4b0 x5b2 a0 (IntKind.wrap .i64 (x6b4 + 1)) y242
     else
      p_spec_Letters_L4 x4b0 x5b2 a0 (IntKind.wrap .i64 (x6b4 + 1)) l2b4
    else none
   else
    some l2b4
  else none
 else none
partial_fixpoint
@[simp] noncomputable def L_spec_Letters_L4 : Code := nav [1, 1, 1, 0, 1, 0, 0, 1, 0, 0, 1, 0, 0, 1, 0, 0, 1, 0, 0] (bodyOf Try.f27)
@[simp] def T_spec_Letters_L4 (x4b0 : Int) (x5b2 : Int) (a0 : List (List (List (Int)))) (x6b4 : Int) (l2b4 : List (Int)) (st : Nat → Nat) : St := ⟨[(1, .one (.bp 1 (st 1) 0)), (3, .one (.ow 2 (st 2))), (4, .one (.lit (.int .i64 x4b0))), (5, .one (.lit (.int .i64 x5b2))), (6, .one (.lit (.int .i64 x6b4)))], [none, some (.box (st 1) [.sl false 60 (List.map (cL60 false) a0)]), some (.rows (st 2) (st 2) 3 (List.map cI l2b4))], (st 0)⟩
@[simp] def U_spec_Letters_L4 (x4b0 : Int) (x5b2 : Int) (a0 : List (List (List (Int)))) (o : List (Int)) (st : Nat → Nat) : St := ⟨[(1, .one (.bp 1 (st 1) 0)), (3, .one (.ow 2 (st 2))), (4, .one (.lit (.int .i64 x4b0))), (5, .one (.lit (.int .i64 x5b2)))], [none, some (.box (st 1) [.sl false 60 (List.map (cL60 false) a0)]), some (.rows (st 2) (st 2) 3 (List.map cI o))], (st 0)⟩
abbrev Q_spec_Letters_L4 (x4b0 : Int) (x5b2 : Int) (a0 : List (List (List (Int)))) (x6b4 : Int) (l2b4 : List (Int)) (o : List (Int)) : Prop := ∀ st : Nat → Nat, LoopG Try.prog cal_spec_Letters 1 lm_spec_Letters 4 L_spec_Letters_L4 (U_spec_Letters_L4 x4b0 x5b2 a0) (T_spec_Letters_L4 x4b0 x5b2 a0 x6b4 l2b4 st) o
theorem l_spec_Letters_L4 {x4b0 : Int} {x5b2 : Int} {a0 : List (List (List (Int)))} {x6b4 : Int} {l2b4 : List (Int)} {o : List (Int)} (h : p_spec_Letters_L4 x4b0 x5b2 a0 x6b4 l2b4 = some o) : Q_spec_Letters_L4 x4b0 x5b2 a0 x6b4 l2b4 o := by
  refine p_spec_Letters_L4.partial_correctness x4b0 x5b2 a0 (motive := fun x6b4 l2b4 o => Q_spec_Letters_L4 x4b0 x5b2 a0 x6b4 l2b4 o) ?_ x6b4 l2b4 o h
  clear h o x6b4 l2b4
  intro p' ih x6b4 l2b4 r h st
  obtain ⟨h230, h⟩ := ifg h
  obtain ⟨y231, h232, h⟩ := bd h
  obtain ⟨h233, h⟩ := ifg h
  obtain ⟨y234, h235, h⟩ := bd h
  rcases ifc h with ⟨h236, h⟩ | ⟨h236, h⟩
  · obtain ⟨h237, h⟩ := ifg h
    obtain ⟨y238, h239, h⟩ := bd h
    rcases ifc h with ⟨h240, h⟩ | ⟨h240, h⟩
    · obtain ⟨y242, h241, h⟩ := bd h
      have h241c := c_spec_SetAdd h241
      exact LoopG.step 0 (fun k hk => by simp (implicitDefEqProofs := false) [-getElem?_pos, -getElem?_neg, Try.f27, h230, h232, h233, h235, h236, h237, h239, h240, h241c]) (ih _ _ _ h (sl [((st 0) + 2), (st 1), ((st 0) + 1)]))
    exact LoopG.step 0 (fun k hk => by simp (implicitDefEqProofs := false) [-getElem?_pos, -getElem?_neg, Try.f27, h230, h232, h233, h235, h236, h237, h239, h240]) (ih _ _ _ h (sl [((st 0) + 1), (st 1), (st 0)]))
  obtain rfl := Option.some.inj h
  exact LoopG.exit (sl [(st 0), (st 1), (st 2)]) 0 (fun k hk => by simp (implicitDefEqProofs := false) [-getElem?_pos, -getElem?_neg, Try.f27, h230, h232, h233, h235, h236])
def p_spec_Letters_L2 (x4b0 : Int) (a0 : List (List (List (Int)))) (x5b2 : Int) (l2b2 : List (Int)) : Option (List (Int)) :=
 if 0 ≤ x4b0 then
  a0[x4b0.toNat]? >>= fun y202 =>
  if x5b2 < (y202.length : Int) then
   p_spec_Letters_L4 x4b0 x5b2 a0 0 l2b2 >>= fun o244 =>
   p_spec_Letters_L2 x4b0 a0 (IntKind.wrap .i64 (x5b2 + 1)) o244
  else
   some l2b2
 else none
partial_fixpoint
@[simp] noncomputable def L_spec_Letters_L2 : Code := nav [1, 1, 1, 0, 1, 0, 0, 1, 0, 0, 1, 0, 0] (bodyOf Try.f27)
@[simp] def T_spec_Letters_L2 (x4b0 : Int) (a0 : List (List (List (Int)))) (x5b2 : Int) (l2b2 : List (Int)) (st : Nat → Nat) : St := ⟨[(1, .one (.bp 1 (st 1) 0)), (3, .one (.ow 2 (st 2))), (4, .one (.lit (.int .i64 x4b0))), (5, .one (.lit (.int .i64 x5b2)))], [none, some (.box (st 1) [.sl false 60 (List.map (cL60 false) a0)]), some (.rows (st 2) (st 2) 3 (List.map cI l2b2))], (st 0)⟩
@[simp] def U_spec_Letters_L2 (x4b0 : Int) (a0 : List (List (List (Int)))) (o : List (Int)) (st : Nat → Nat) : St := ⟨[(1, .one (.bp 1 (st 1) 0)), (3, .one (.ow 2 (st 2))), (4, .one (.lit (.int .i64 x4b0)))], [none, some (.box (st 1) [.sl false 60 (List.map (cL60 false) a0)]), some (.rows (st 2) (st 2) 3 (List.map cI o))], (st 0)⟩
abbrev Q_spec_Letters_L2 (x4b0 : Int) (a0 : List (List (List (Int)))) (x5b2 : Int) (l2b2 : List (Int)) (o : List (Int)) : Prop := ∀ st : Nat → Nat, LoopG Try.prog cal_spec_Letters 1 lm_spec_Letters 2 L_spec_Letters_L2 (U_spec_Letters_L2 x4b0 a0) (T_spec_Letters_L2 x4b0 a0 x5b2 l2b2 st) o
theorem l_spec_Letters_L2 {x4b0 : Int} {a0 : List (List (List (Int)))} {x5b2 : Int} {l2b2 : List (Int)} {o : List (Int)} (h : p_spec_Letters_L2 x4b0 a0 x5b2 l2b2 = some o) : Q_spec_Letters_L2 x4b0 a0 x5b2 l2b2 o := by
  refine p_spec_Letters_L2.partial_correctness x4b0 a0 (motive := fun x5b2 l2b2 o => Q_spec_Letters_L2 x4b0 a0 x5b2 l2b2 o) ?_ x5b2 l2b2 o h
  clear h o x5b2 l2b2
  intro p' ih x5b2 l2b2 r h st
  obtain ⟨h201, h⟩ := ifg h
  obtain ⟨y202, h203, h⟩ := bd h
  rcases ifc h with ⟨h204, h⟩ | ⟨h204, h⟩
  · obtain ⟨o244, h243, h⟩ := bd h
    have qK245 := l_spec_Letters_L4 h243 (sl [((st 0) + 1), (st 1), (st 0)])
    obtain ⟨s246, K245, qK245⟩ := qK245
    refine LoopG.step K245 (fun k hk => ?_) (ih _ _ _ h (sl [(s246 0), (s246 1), (s246 2)]))
    have jK245 := qK245 k (by omega) k (by omega)
    simp (implicitDefEqProofs := false) [-getElem?_pos, -getElem?_neg, Try.f27, h201, h203, h204] at jK245
    simp (implicitDefEqProofs := false) [-getElem?_pos, -getElem?_neg, Try.f27, h201, h203, h204, jK245]
  obtain rfl := Option.some.inj h
  exact LoopG.exit (sl [(st 0), (st 1), (st 2)]) 0 (fun k hk => by simp (implicitDefEqProofs := false) [-getElem?_pos, -getElem?_neg, Try.f27, h201, h203, h204])
def p_spec_Letters_L0 (a0 : List (List (List (Int)))) (x4b0 : Int) (l2b0 : List (Int)) : Option (List (Int)) :=
 if x4b0 < (a0.length : Int) then
  p_spec_Letters_L2 x4b0 a0 0 l2b0 >>= fun o248 =>
  p_spec_Letters_L0 a0 (IntKind.wrap .i64 (x4b0 + 1)) o248
 else
  some l2b0
partial_fixpoint
@[simp] noncomputable def L_spec_Letters_L0 : Code := nav [1, 1, 1, 0, 1, 0, 0] (bodyOf Try.f27)
@[simp] def T_spec_Letters_L0 (a0 : List (List (List (Int)))) (x4b0 : Int) (l2b0 : List (Int)) (st : Nat → Nat) : St := ⟨[(1, .one (.bp 1 (st 1) 0)), (3, .one (.ow 2 (st 2))), (4, .one (.lit (.int .i64 x4b0)))], [none, some (.box (st 1) [.sl false 60 (List.map (cL60 false) a0)]), some (.rows (st 2) (st 2) 3 (List.map cI l2b0))], (st 0)⟩
@[simp] def U_spec_Letters_L0 (a0 : List (List (List (Int)))) (o : List (Int)) (st : Nat → Nat) : St := ⟨[(3, .one (.ow 2 (st 1)))], [none, some (.box (st 2) [.sl false 60 (List.map (cL60 false) a0)]), some (.rows (st 1) (st 1) 3 (List.map cI o))], (st 0)⟩
abbrev Q_spec_Letters_L0 (a0 : List (List (List (Int)))) (x4b0 : Int) (l2b0 : List (Int)) (o : List (Int)) : Prop := ∀ st : Nat → Nat, LoopG Try.prog cal_spec_Letters 1 lm_spec_Letters 0 L_spec_Letters_L0 (U_spec_Letters_L0 a0) (T_spec_Letters_L0 a0 x4b0 l2b0 st) o
theorem l_spec_Letters_L0 {a0 : List (List (List (Int)))} {x4b0 : Int} {l2b0 : List (Int)} {o : List (Int)} (h : p_spec_Letters_L0 a0 x4b0 l2b0 = some o) : Q_spec_Letters_L0 a0 x4b0 l2b0 o := by
  refine p_spec_Letters_L0.partial_correctness a0 (motive := fun x4b0 l2b0 o => Q_spec_Letters_L0 a0 x4b0 l2b0 o) ?_ x4b0 l2b0 o h
  clear h o x4b0 l2b0
  intro p' ih x4b0 l2b0 r h st
  rcases ifc h with ⟨h136, h⟩ | ⟨h136, h⟩
  · obtain ⟨o248, h247, h⟩ := bd h
    have qK249 := l_spec_Letters_L2 h247 (sl [(st 0), (st 1), (st 2)])
    obtain ⟨s250, K249, qK249⟩ := qK249
    refine LoopG.step K249 (fun k hk => ?_) (ih _ _ _ h (sl [(s250 0), (s250 1), (s250 2)]))
    have jK249 := qK249 k (by omega) k (by omega)
    simp (implicitDefEqProofs := false) [-getElem?_pos, -getElem?_neg, Try.f27, h136] at jK249
    simp (implicitDefEqProofs := false) [-getElem?_pos, -getElem?_neg, Try.f27, h136, jK249]
  obtain rfl := Option.some.inj h
  exact LoopG.exit (sl [(st 0), (st 2), (st 1)]) 0 (fun k hk => by simp (implicitDefEqProofs := false) [-getElem?_pos, -getElem?_neg, Try.f27, h136])
def p_spec_Letters (a0 : List (List (List (Int)))) : Option (List (Int)) :=
 p_spec_GramOk a0 >>= fun y2 =>
 if y2 then
  p_spec_Letters_L0 a0 0 ([]) >>= fun o252 =>
  some o252
 else
  some ([])
theorem t_spec_Letters {a0 : List (List (List (Int)))} {r : List (Int)} (h : p_spec_Letters a0 = some r) : ∃ k, told Try.prog (cal_spec_Letters k) k lm_spec_Letters Try.f27 (arg_spec_Letters a0) = some (res_spec_Letters r) := by
  unfold p_spec_Letters at h
  obtain ⟨y2, h1, h⟩ := bd h
  have h1c := c_spec_GramOk h1
  rcases ifb h with ⟨h3, h⟩ | ⟨h3, h⟩
  · obtain ⟨o252, h251, h⟩ := bd h
    have qK253 := l_spec_Letters_L0 h251 (sl [4, 1, 2])
    obtain ⟨s254, K253, qK253⟩ := qK253
    obtain rfl := Option.some.inj h
    obtain ⟨k, hk⟩ : ∃ k, K253 ≤ k := ⟨_, Nat.le_refl _⟩
    have jK253 := qK253 k (by omega) k (by omega)
    simp (implicitDefEqProofs := false) [-getElem?_pos, -getElem?_neg, Try.f27, h1c, h3] at jK253
    refine ⟨k, ?_⟩
    simp (implicitDefEqProofs := false) [-getElem?_pos, -getElem?_neg, Try.f27, h1c, h3, jK253]
  obtain rfl := Option.some.inj h
  obtain ⟨k, hk⟩ : ∃ k, 0 ≤ k := ⟨_, Nat.le_refl _⟩
  refine ⟨k, ?_⟩
  simp (implicitDefEqProofs := false) [-getElem?_pos, -getElem?_neg, Try.f27, h1c, h3]
theorem inj_spec_Letters : ∀ a b, arg_spec_Letters a = arg_spec_Letters b → a = b := by
  intro x y h; simp [arg_spec_Letters] at h; simp [Prod.ext_iff, h]
noncomputable def F_spec_Letters : Con := nilfix [[some 60]] (pcon arg_spec_Letters (fun a => p_spec_Letters a) res_spec_Letters)
theorem fn_spec_Letters : Fn Try.prog 27 F_spec_Letters := (Fn.pure cal_spec_Letters (fun k w0 h0 => ok_spec_Letters k w0 h0) mixed Try.func27 rfl rfl (by kernel_rfl) 1 (by decide) (fun _ => rfl) lm_spec_Letters (fun a b h => t_spec_Letters h)).nilfix _
theorem c_spec_Letters {a0 : List (List (List (Int)))} {r : List (Int)} (h : p_spec_Letters a0 = some r) : F_spec_Letters [.agg [.sl false 60 (List.map (cL60 false) a0)]] = some (((false, [none]), [.sl true 3 (List.map cI r)])) := pcon_at (arg := arg_spec_Letters) (p := fun a => p_spec_Letters a) (res := res_spec_Letters) (a := a0) (b := r) inj_spec_Letters h
def cal_impl_inRange (k : Nat) : Cal := calI (tabOf []) (inlOf [])
@[simp] theorem cal_impl_inRange_ap (k g : Nat) (vs : List TV) (mem : Mem) (ep : Nat) : cal_impl_inRange k g vs mem ep = calI (tabOf []) (inlOf []) g vs mem ep := rfl
theorem ok_impl_inRange (k : Nat) (w0 : World) (h0 : True) : CalOk Try.prog w0.heap.size w0 (cal_impl_inRange k) := by
  exact calI_ok (J := fun _ => True) stab_true (tabOf_ok _ (by simp [])) (inlOf_ok _ (by simp [])) h0
@[simp] def lm_impl_inRange : Nat → List Nat × Nat := fun b => ([], 0)
@[simp] def arg_impl_inRange (a : Int × Int × Int) : List TV := [.one (.lit (.int .i64 a.1)), .one (.lit (.int .i64 a.2.1)), .one (.lit (.int .i64 a.2.2))]
@[simp] def res_impl_inRange (r : Bool) : Sh × List V := ((false, [none]), [.lit (.bool r)])
def p_impl_inRange (a0 : Int) (a1 : Int) (a2 : Int) : Option Bool :=
 if a1 ≤ a0 then
  some (decide (a0 ≤ a2))
 else
  some false
theorem t_impl_inRange {a0 : Int} {a1 : Int} {a2 : Int} {r : Bool} (h : p_impl_inRange a0 a1 a2 = some r) : ∃ k, told Try.prog (cal_impl_inRange k) k lm_impl_inRange Try.f54 (arg_impl_inRange (a0, a1, a2)) = some (res_impl_inRange r) := by
  unfold p_impl_inRange at h
  rcases ifc h with ⟨h1, h⟩ | ⟨h1, h⟩
  · obtain rfl := Option.some.inj h
    obtain ⟨k, hk⟩ : ∃ k, 0 ≤ k := ⟨_, Nat.le_refl _⟩
    refine ⟨k, ?_⟩
    simp (implicitDefEqProofs := false) [-getElem?_pos, -getElem?_neg, Try.f54, h1]
  obtain rfl := Option.some.inj h
  obtain ⟨k, hk⟩ : ∃ k, 0 ≤ k := ⟨_, Nat.le_refl _⟩
  refine ⟨k, ?_⟩
  simp (implicitDefEqProofs := false) [-getElem?_pos, -getElem?_neg, Try.f54, h1]
theorem inj_impl_inRange : ∀ a b, arg_impl_inRange a = arg_impl_inRange b → a = b := by
  rintro ⟨x0, x1, x2⟩ ⟨y0, y1, y2⟩ h; simp [arg_impl_inRange] at h; simp [Prod.ext_iff, h]
noncomputable def F_impl_inRange : Con := nilfix [] (pcon arg_impl_inRange (fun a => p_impl_inRange a.1 a.2.1 a.2.2) res_impl_inRange)
theorem fn_impl_inRange : Fn Try.prog 54 F_impl_inRange := (Fn.pure cal_impl_inRange (fun k w0 h0 => ok_impl_inRange k w0 h0) mixed Try.func54 rfl rfl (by kernel_rfl) 3 (by decide) (fun _ => rfl) lm_impl_inRange (fun a b h => t_impl_inRange h)).nilfix _
theorem c_impl_inRange {a0 : Int} {a1 : Int} {a2 : Int} {r : Bool} (h : p_impl_inRange a0 a1 a2 = some r) : F_impl_inRange [.one (.lit (.int .i64 a0)), .one (.lit (.int .i64 a1)), .one (.lit (.int .i64 a2))] = some (((false, [none]), [.lit (.bool r)])) := pcon_at (arg := arg_impl_inRange) (p := fun a => p_impl_inRange a.1 a.2.1 a.2.2) (res := res_impl_inRange) (a := (a0, a1, a2)) (b := r) inj_impl_inRange h
noncomputable def cal_impl_isLetter (k : Nat) : Cal := calI (tabOf [(54, F_impl_inRange)]) (inlOf [])
@[simp] theorem cal_impl_isLetter_ap (k g : Nat) (vs : List TV) (mem : Mem) (ep : Nat) : cal_impl_isLetter k g vs mem ep = calI (tabOf [(54, F_impl_inRange)]) (inlOf []) g vs mem ep := rfl
theorem ok_impl_isLetter (k : Nat) (w0 : World) (h0 : True) : CalOk Try.prog w0.heap.size w0 (cal_impl_isLetter k) := by
  exact calI_ok (J := fun _ => True) stab_true (tabOf_ok _ (by simp [fn_impl_inRange])) (inlOf_ok _ (by simp [])) h0
@[simp] def lm_impl_isLetter : Nat → List Nat × Nat := fun b => ([], 0)
@[simp] def arg_impl_isLetter (a : Int) : List TV := [.one (.lit (.int .i64 a))]
@[simp] def res_impl_isLetter (r : Bool) : Sh × List V := ((false, [none]), [.lit (.bool r)])
def p_impl_isLetter (a0 : Int) : Option Bool :=
 p_impl_inRange a0 0 25 >>= fun y2 =>
 some y2
theorem t_impl_isLetter {a0 : Int} {r : Bool} (h : p_impl_isLetter a0 = some r) : ∃ k, told Try.prog (cal_impl_isLetter k) k lm_impl_isLetter Try.f69 (arg_impl_isLetter a0) = some (res_impl_isLetter r) := by
  unfold p_impl_isLetter at h
  obtain ⟨y2, h1, h⟩ := bd h
  have h1c := c_impl_inRange h1
  obtain rfl := Option.some.inj h
  obtain ⟨k, hk⟩ : ∃ k, 0 ≤ k := ⟨_, Nat.le_refl _⟩
  refine ⟨k, ?_⟩
  simp (implicitDefEqProofs := false) [-getElem?_pos, -getElem?_neg, Try.f69, h1c]
theorem inj_impl_isLetter : ∀ a b, arg_impl_isLetter a = arg_impl_isLetter b → a = b := by
  intro x y h; simp [arg_impl_isLetter] at h; simp [Prod.ext_iff, h]
noncomputable def F_impl_isLetter : Con := nilfix [] (pcon arg_impl_isLetter (fun a => p_impl_isLetter a) res_impl_isLetter)
theorem fn_impl_isLetter : Fn Try.prog 69 F_impl_isLetter := (Fn.pure cal_impl_isLetter (fun k w0 h0 => ok_impl_isLetter k w0 h0) mixed Try.func69 rfl rfl (by kernel_rfl) 1 (by decide) (fun _ => rfl) lm_impl_isLetter (fun a b h => t_impl_isLetter h)).nilfix _
theorem c_impl_isLetter {a0 : Int} {r : Bool} (h : p_impl_isLetter a0 = some r) : F_impl_isLetter [.one (.lit (.int .i64 a0))] = some (((false, [none]), [.lit (.bool r)])) := pcon_at (arg := arg_impl_isLetter) (p := fun a => p_impl_isLetter a) (res := res_impl_isLetter) (a := a0) (b := r) inj_impl_isLetter h
noncomputable def cal_impl_isPart (k : Nat) : Cal := calI (tabOf [(54, F_impl_inRange)]) (inlOf [])
@[simp] theorem cal_impl_isPart_ap (k g : Nat) (vs : List TV) (mem : Mem) (ep : Nat) : cal_impl_isPart k g vs mem ep = calI (tabOf [(54, F_impl_inRange)]) (inlOf []) g vs mem ep := rfl
theorem ok_impl_isPart (k : Nat) (w0 : World) (h0 : True) : CalOk Try.prog w0.heap.size w0 (cal_impl_isPart k) := by
  exact calI_ok (J := fun _ => True) stab_true (tabOf_ok _ (by simp [fn_impl_inRange])) (inlOf_ok _ (by simp [])) h0
@[simp] def lm_impl_isPart : Nat → List Nat × Nat := fun b => ([], 0)
@[simp] def arg_impl_isPart (a : List (List (List (Int))) × Int) : List TV := [.agg [.sl false 60 (List.map (cL60 false) a.1)], .one (.lit (.int .i64 a.2))]
@[simp] def res_impl_isPart (r : Bool) : Sh × List V := ((false, [none]), [.lit (.bool r)])
def p_impl_isPart (a0 : List (List (List (Int)))) (a1 : Int) : Option Bool :=
 p_impl_inRange a1 0 (IntKind.wrap .i64 ((a0.length : Int) - 1)) >>= fun y2 =>
 some y2
theorem t_impl_isPart {a0 : List (List (List (Int)))} {a1 : Int} {r : Bool} (h : p_impl_isPart a0 a1 = some r) : ∃ k, told Try.prog (cal_impl_isPart k) k lm_impl_isPart Try.f70 (arg_impl_isPart (a0, a1)) = some (res_impl_isPart r) := by
  unfold p_impl_isPart at h
  obtain ⟨y2, h1, h⟩ := bd h
  have h1c := c_impl_inRange h1
  try simp (implicitDefEqProofs := false) [-getElem?_pos, -getElem?_neg] at h1c
  obtain rfl := Option.some.inj h
  obtain ⟨k, hk⟩ : ∃ k, 0 ≤ k := ⟨_, Nat.le_refl _⟩
  refine ⟨k, ?_⟩
  simp (implicitDefEqProofs := false) [-getElem?_pos, -getElem?_neg, Try.f70, h1c]
theorem inj_impl_isPart : ∀ a b, arg_impl_isPart a = arg_impl_isPart b → a = b := by
  rintro ⟨x0, x1⟩ ⟨y0, y1⟩ h; simp [arg_impl_isPart] at h; simp [Prod.ext_iff, h]
noncomputable def F_impl_isPart : Con := nilfix [[some 60], [none]] (pcon arg_impl_isPart (fun a => p_impl_isPart a.1 a.2) res_impl_isPart)
theorem fn_impl_isPart : Fn Try.prog 70 F_impl_isPart := (Fn.pure cal_impl_isPart (fun k w0 h0 => ok_impl_isPart k w0 h0) mixed Try.func70 rfl rfl (by kernel_rfl) 2 (by decide) (fun _ => rfl) lm_impl_isPart (fun a b h => t_impl_isPart h)).nilfix _
theorem c_impl_isPart {a0 : List (List (List (Int)))} {a1 : Int} {r : Bool} (h : p_impl_isPart a0 a1 = some r) : F_impl_isPart [.agg [.sl false 60 (List.map (cL60 false) a0)], .one (.lit (.int .i64 a1))] = some (((false, [none]), [.lit (.bool r)])) := pcon_at (arg := arg_impl_isPart) (p := fun a => p_impl_isPart a.1 a.2) (res := res_impl_isPart) (a := (a0, a1)) (b := r) inj_impl_isPart h
noncomputable def cal_impl_isSymbol (k : Nat) : Cal := calI (tabOf [(69, F_impl_isLetter), (70, F_impl_isPart)]) (inlOf [])
@[simp] theorem cal_impl_isSymbol_ap (k g : Nat) (vs : List TV) (mem : Mem) (ep : Nat) : cal_impl_isSymbol k g vs mem ep = calI (tabOf [(69, F_impl_isLetter), (70, F_impl_isPart)]) (inlOf []) g vs mem ep := rfl
theorem ok_impl_isSymbol (k : Nat) (w0 : World) (h0 : True) : CalOk Try.prog w0.heap.size w0 (cal_impl_isSymbol k) := by
  exact calI_ok (J := fun _ => True) stab_true (tabOf_ok _ (by simp [fn_impl_isLetter, fn_impl_isPart])) (inlOf_ok _ (by simp [])) h0
@[simp] def lm_impl_isSymbol : Nat → List Nat × Nat := fun b => ([], 0)
@[simp] def arg_impl_isSymbol (a : List (List (List (Int))) × Int) : List TV := [.agg [.sl false 60 (List.map (cL60 false) a.1)], .one (.lit (.int .i64 a.2))]
@[simp] def res_impl_isSymbol (r : Bool) : Sh × List V := ((false, [none]), [.lit (.bool r)])
def p_impl_isSymbol (a0 : List (List (List (Int)))) (a1 : Int) : Option Bool :=
 p_impl_isLetter a1 >>= fun y2 =>
 if y2 then
  some true
 else
  if 100 ≤ a1 then
   p_impl_isPart a0 (IntKind.wrap .i64 (a1 - 100)) >>= fun y6 =>
   some y6
  else
   some false
theorem t_impl_isSymbol {a0 : List (List (List (Int)))} {a1 : Int} {r : Bool} (h : p_impl_isSymbol a0 a1 = some r) : ∃ k, told Try.prog (cal_impl_isSymbol k) k lm_impl_isSymbol Try.f65 (arg_impl_isSymbol (a0, a1)) = some (res_impl_isSymbol r) := by
  unfold p_impl_isSymbol at h
  obtain ⟨y2, h1, h⟩ := bd h
  have h1c := c_impl_isLetter h1
  rcases ifb h with ⟨h3, h⟩ | ⟨h3, h⟩
  · obtain rfl := Option.some.inj h
    obtain ⟨k, hk⟩ : ∃ k, 0 ≤ k := ⟨_, Nat.le_refl _⟩
    refine ⟨k, ?_⟩
    simp (implicitDefEqProofs := false) [-getElem?_pos, -getElem?_neg, Try.f65, h1c, h3]
  rcases ifc h with ⟨h4, h⟩ | ⟨h4, h⟩
  · obtain ⟨y6, h5, h⟩ := bd h
    have h5c := c_impl_isPart h5
    try simp (implicitDefEqProofs := false) [-getElem?_pos, -getElem?_neg] at h5c
    obtain rfl := Option.some.inj h
    obtain ⟨k, hk⟩ : ∃ k, 0 ≤ k := ⟨_, Nat.le_refl _⟩
    refine ⟨k, ?_⟩
    simp (implicitDefEqProofs := false) [-getElem?_pos, -getElem?_neg, Try.f65, h1c, h3, h4, h5c]
  obtain rfl := Option.some.inj h
  obtain ⟨k, hk⟩ : ∃ k, 0 ≤ k := ⟨_, Nat.le_refl _⟩
  refine ⟨k, ?_⟩
  simp (implicitDefEqProofs := false) [-getElem?_pos, -getElem?_neg, Try.f65, h1c, h3, h4]
theorem inj_impl_isSymbol : ∀ a b, arg_impl_isSymbol a = arg_impl_isSymbol b → a = b := by
  rintro ⟨x0, x1⟩ ⟨y0, y1⟩ h; simp [arg_impl_isSymbol] at h; simp [Prod.ext_iff, h]
noncomputable def F_impl_isSymbol : Con := nilfix [[some 60], [none]] (pcon arg_impl_isSymbol (fun a => p_impl_isSymbol a.1 a.2) res_impl_isSymbol)
theorem fn_impl_isSymbol : Fn Try.prog 65 F_impl_isSymbol := (Fn.pure cal_impl_isSymbol (fun k w0 h0 => ok_impl_isSymbol k w0 h0) mixed Try.func65 rfl rfl (by kernel_rfl) 2 (by decide) (fun _ => rfl) lm_impl_isSymbol (fun a b h => t_impl_isSymbol h)).nilfix _
theorem c_impl_isSymbol {a0 : List (List (List (Int)))} {a1 : Int} {r : Bool} (h : p_impl_isSymbol a0 a1 = some r) : F_impl_isSymbol [.agg [.sl false 60 (List.map (cL60 false) a0)], .one (.lit (.int .i64 a1))] = some (((false, [none]), [.lit (.bool r)])) := pcon_at (arg := arg_impl_isSymbol) (p := fun a => p_impl_isSymbol a.1 a.2) (res := res_impl_isSymbol) (a := (a0, a1)) (b := r) inj_impl_isSymbol h
noncomputable def cal_impl_areSymbols (k : Nat) : Cal := calI (tabOf [(65, F_impl_isSymbol)]) (inlOf [])
@[simp] theorem cal_impl_areSymbols_ap (k g : Nat) (vs : List TV) (mem : Mem) (ep : Nat) : cal_impl_areSymbols k g vs mem ep = calI (tabOf [(65, F_impl_isSymbol)]) (inlOf []) g vs mem ep := rfl
theorem ok_impl_areSymbols (k : Nat) (w0 : World) (h0 : True) : CalOk Try.prog w0.heap.size w0 (cal_impl_areSymbols k) := by
  exact calI_ok (J := fun _ => True) stab_true (tabOf_ok _ (by simp [fn_impl_isSymbol])) (inlOf_ok _ (by simp [])) h0
@[simp] def lm_impl_areSymbols : Nat → List Nat × Nat := fun b => if b = 0 then ([2, 7, 8, 9], 1) else if b = 2000000 then ([], 8888888) else if b = 3000000 then ([], 1) else ([], 0)
@[simp] def arg_impl_areSymbols (a : List (List (List (Int))) × List (Int)) : List TV := [.agg [.sl false 60 (List.map (cL60 false) a.1)], .one (.sl false 3 (List.map cI a.2))]
@[simp] def res_impl_areSymbols (r : Bool) : Sh × List V := ((false, [none]), [.lit (.bool r)])
def p_impl_areSymbols_L0 (a1 : List (Int)) (a0 : List (List (List (Int)))) (x9b0 : Int) : Option (Bool ⊕ Unit) :=
 if x9b0 < (a1.length : Int) then
  if 0 ≤ x9b0 then
   a1[x9b0.toNat]? >>= fun y23 =>
   p_impl_isSymbol a0 y23 >>= fun y26 =>
   if y26 then
    p_impl_areSymbols_L0 a1 a0 (IntKind.wrap .i64 (x9b0 + 1))
   else
    some (.inl false)
  else none
 else
  some (.inr ())
partial_fixpoint
@[simp] noncomputable def L_impl_areSymbols_L0 : Code := nav [1, 0, 1, 0, 0] (bodyOf Try.f55)
@[simp] def T_impl_areSymbols_L0 (a1 : List (Int)) (a0 : List (List (List (Int)))) (x9b0 : Int) (st : Nat → Nat) : St := ⟨[(2, .one (.bp 1 1 0)), (7, .one (.sl false 3 (List.map cI a1))), (8, .one (.lit (.int .i64 (a1.length : Int)))), (9, .one (.lit (.int .i64 x9b0)))], [none, some (.box 1 [.sl false 60 (List.map (cL60 false) a0)])], (st 0)⟩
@[simp] def U_impl_areSymbols_L0 (a1 : List (Int)) (a0 : List (List (List (Int)))) (o : Unit) (st : Nat → Nat) : St := ⟨[], [none, some (.box 1 [.sl false 60 (List.map (cL60 false) a0)])], (st 0)⟩
abbrev Q_impl_areSymbols_L0 (a1 : List (Int)) (a0 : List (List (List (Int)))) (x9b0 : Int) (o : Bool ⊕ Unit) : Prop := ∀ st : Nat → Nat, LoopT Try.prog cal_impl_areSymbols 1 lm_impl_areSymbols 0 L_impl_areSymbols_L0 (tellS Try.prog lm_impl_areSymbols [.tmp 4]) res_impl_areSymbols (U_impl_areSymbols_L0 a1 a0) (T_impl_areSymbols_L0 a1 a0 x9b0 st) o
theorem l_impl_areSymbols_L0 {a1 : List (Int)} {a0 : List (List (List (Int)))} {x9b0 : Int} {o : Bool ⊕ Unit} (h : p_impl_areSymbols_L0 a1 a0 x9b0 = some o) : Q_impl_areSymbols_L0 a1 a0 x9b0 o := by
  refine p_impl_areSymbols_L0.partial_correctness a1 a0 (motive := fun x9b0 o => Q_impl_areSymbols_L0 a1 a0 x9b0 o) ?_ x9b0 o h
  clear h o x9b0
  intro p' ih x9b0 r h st
  rcases ifc h with ⟨h21, h⟩ | ⟨h21, h⟩
  · obtain ⟨h22, h⟩ := ifg h
    obtain ⟨y23, h24, h⟩ := bd h
    obtain ⟨y26, h25, h⟩ := bd h
    have h25c := c_impl_isSymbol h25
    rcases ifb h with ⟨h27, h⟩ | ⟨h27, h⟩
    · exact LoopT.step 0 (fun k hk => by simp (implicitDefEqProofs := false) [-getElem?_pos, -getElem?_neg, Try.f55, h21, h22, h24, h25c, h27]) (ih _ _ h (sl [((st 0) + 1)]))
    obtain rfl := Option.some.inj h
    exact LoopT.ret 0 (fun k hk => by simp (implicitDefEqProofs := false) [-getElem?_pos, -getElem?_neg, Try.f55, h21, h22, h24, h25c, h27])
  obtain rfl := Option.some.inj h
  exact LoopT.exit (sl [(st 0)]) 0 (fun k hk => by simp (implicitDefEqProofs := false) [-getElem?_pos, -getElem?_neg, Try.f55, h21])
def p_impl_areSymbols (a0 : List (List (List (Int)))) (a1 : List (Int)) : Option Bool :=
 p_impl_areSymbols_L0 a1 a0 0 >>= fun o29 => match o29 with
 | .inl o29 =>
  some o29
 | .inr o29 =>
  some true
theorem t_impl_areSymbols {a0 : List (List (List (Int)))} {a1 : List (Int)} {r : Bool} (h : p_impl_areSymbols a0 a1 = some r) : ∃ k, told Try.prog (cal_impl_areSymbols k) k lm_impl_areSymbols Try.f55 (arg_impl_areSymbols (a0, a1)) = some (res_impl_areSymbols r) := by
  unfold p_impl_areSymbols at h
  obtain ⟨o29, h28, h⟩ := bd h
  have qK30 := l_impl_areSymbols_L0 h28 (sl [2])
  rcases o29 with o29 | o29
  · obtain ⟨K30, qK30⟩ := qK30
    obtain rfl := Option.some.inj h
    obtain ⟨k, hk⟩ : ∃ k, K30 ≤ k := ⟨_, Nat.le_refl _⟩
    obtain ⟨S_K30, jK30, iK30⟩ := qK30 k (by omega) k (by omega)
    simp (implicitDefEqProofs := false) [-getElem?_pos, -getElem?_neg, Try.f55] at jK30
    refine ⟨k, ?_⟩
    simp (implicitDefEqProofs := false) [-getElem?_pos, -getElem?_neg, Try.f55, iK30, jK30]
  obtain ⟨s31, K30, qK30⟩ := qK30
  obtain rfl := Option.some.inj h
  obtain ⟨k, hk⟩ : ∃ k, K30 ≤ k := ⟨_, Nat.le_refl _⟩
  have jK30 := qK30 k (by omega) k (by omega)
  simp (implicitDefEqProofs := false) [-getElem?_pos, -getElem?_neg, Try.f55] at jK30
  refine ⟨k, ?_⟩
  simp (implicitDefEqProofs := false) [-getElem?_pos, -getElem?_neg, Try.f55, jK30]
theorem inj_impl_areSymbols : ∀ a b, arg_impl_areSymbols a = arg_impl_areSymbols b → a = b := by
  rintro ⟨x0, x1⟩ ⟨y0, y1⟩ h; simp [arg_impl_areSymbols] at h; simp [Prod.ext_iff, h]
noncomputable def F_impl_areSymbols : Con := nilfix [[some 60], [some 3]] (pcon arg_impl_areSymbols (fun a => p_impl_areSymbols a.1 a.2) res_impl_areSymbols)
theorem fn_impl_areSymbols : Fn Try.prog 55 F_impl_areSymbols := (Fn.pure cal_impl_areSymbols (fun k w0 h0 => ok_impl_areSymbols k w0 h0) mixed Try.func55 rfl rfl (by kernel_rfl) 2 (by decide) (fun _ => rfl) lm_impl_areSymbols (fun a b h => t_impl_areSymbols h)).nilfix _
theorem c_impl_areSymbols {a0 : List (List (List (Int)))} {a1 : List (Int)} {r : Bool} (h : p_impl_areSymbols a0 a1 = some r) : F_impl_areSymbols [.agg [.sl false 60 (List.map (cL60 false) a0)], .one (.sl false 3 (List.map cI a1))] = some (((false, [none]), [.lit (.bool r)])) := pcon_at (arg := arg_impl_areSymbols) (p := fun a => p_impl_areSymbols a.1 a.2) (res := res_impl_areSymbols) (a := (a0, a1)) (b := r) inj_impl_areSymbols h
noncomputable def cal_impl_GramOk (k : Nat) : Cal := calI (tabOf [(54, F_impl_inRange), (55, F_impl_areSymbols)]) (inlOf [])
@[simp] theorem cal_impl_GramOk_ap (k g : Nat) (vs : List TV) (mem : Mem) (ep : Nat) : cal_impl_GramOk k g vs mem ep = calI (tabOf [(54, F_impl_inRange), (55, F_impl_areSymbols)]) (inlOf []) g vs mem ep := rfl
theorem ok_impl_GramOk (k : Nat) (w0 : World) (h0 : True) : CalOk Try.prog w0.heap.size w0 (cal_impl_GramOk k) := by
  exact calI_ok (J := fun _ => True) stab_true (tabOf_ok _ (by simp [fn_impl_inRange, fn_impl_areSymbols])) (inlOf_ok _ (by simp [])) h0
@[simp] def lm_impl_GramOk : Nat → List Nat × Nat := fun b => if b = 0 then ([1, 13, 14, 15], 1) else if b = 2000000 then ([], 8888888) else if b = 3000000 then ([], 1) else if b = 2 then ([1, 13, 14, 15, 23, 24, 25], 1) else if b = 2000002 then ([], 8888888) else if b = 3000002 then ([1, 13, 14, 15], 1) else ([], 0)
@[simp] def arg_impl_GramOk (a : List (List (List (Int)))) : List TV := [.agg [.sl false 60 (List.map (cL60 false) a)]]
@[simp] def res_impl_GramOk (r : Bool) : Sh × List V := ((false, [none]), [.lit (.bool r)])
def p_impl_GramOk_L2 (a0 : List (List (List (Int)))) (x15b0 : Int) (y57 : List (List (Int))) (x25b2 : Int) : Option (Bool ⊕ Unit) :=
 if x25b2 < (y57.length : Int) then
  if 0 ≤ x25b2 then
   y57[x25b2.toNat]? >>= fun y79 =>
   if 8 < (y79.length : Int) then
    some (.inl false)
   else
    p_impl_areSymbols a0 y79 >>= fun y83 =>
    if y83 then
     p_impl_GramOk_L2 a0 x15b0 y57 (IntKind.wrap .i64 (x25b2 + 1))
    else
     some (.inl false)
  else none
 else
  some (.inr ())
partial_fixpoint
@[simp] noncomputable def L_impl_GramOk_L2 : Code := nav [1, 1, 0, 1, 0, 0, 1, 1, 0, 0, 1, 1, 1, 0, 0] (bodyOf Try.f40)
@[simp] def T_impl_GramOk_L2 (a0 : List (List (List (Int)))) (x15b0 : Int) (y57 : List (List (Int))) (x25b2 : Int) (st : Nat → Nat) : St := ⟨[(1, .one (.bp 1 (st 1) 0)), (13, .one (.sl false 60 (List.map (cL60 false) a0))), (14, .one (.lit (.int .i64 (a0.length : Int)))), (15, .one (.lit (.int .i64 x15b0))), (23, .one (.sl false 48 (List.map (cL48 false) y57))), (24, .one (.lit (.int .i64 (y57.length : Int)))), (25, .one (.lit (.int .i64 x25b2)))], [none, some (.box (st 1) [.sl false 60 (List.map (cL60 false) a0)])], (st 0)⟩
@[simp] def U_impl_GramOk_L2 (a0 : List (List (List (Int)))) (x15b0 : Int) (y57 : List (List (Int))) (o : Unit) (st : Nat → Nat) : St := ⟨[(1, .one (.bp 1 (st 1) 0)), (13, .one (.sl false 60 (List.map (cL60 false) a0))), (14, .one (.lit (.int .i64 (a0.length : Int)))), (15, .one (.lit (.int .i64 x15b0)))], [none, some (.box (st 1) [.sl false 60 (List.map (cL60 false) a0)])], (st 0)⟩
abbrev Q_impl_GramOk_L2 (a0 : List (List (List (Int)))) (x15b0 : Int) (y57 : List (List (Int))) (x25b2 : Int) (o : Bool ⊕ Unit) : Prop := ∀ st : Nat → Nat, LoopT Try.prog cal_impl_GramOk 1 lm_impl_GramOk 2 L_impl_GramOk_L2 (tellS Try.prog lm_impl_GramOk [.tmp 2]) res_impl_GramOk (U_impl_GramOk_L2 a0 x15b0 y57) (T_impl_GramOk_L2 a0 x15b0 y57 x25b2 st) o
theorem l_impl_GramOk_L2 {a0 : List (List (List (Int)))} {x15b0 : Int} {y57 : List (List (Int))} {x25b2 : Int} {o : Bool ⊕ Unit} (h : p_impl_GramOk_L2 a0 x15b0 y57 x25b2 = some o) : Q_impl_GramOk_L2 a0 x15b0 y57 x25b2 o := by
  refine p_impl_GramOk_L2.partial_correctness a0 x15b0 y57 (motive := fun x25b2 o => Q_impl_GramOk_L2 a0 x15b0 y57 x25b2 o) ?_ x25b2 o h
  clear h o x25b2
  intro p' ih x25b2 r h st
  rcases ifc h with ⟨h77, h⟩ | ⟨h77, h⟩
  · obtain ⟨h78, h⟩ := ifg h
    obtain ⟨y79, h80, h⟩ := bd h
    rcases ifc h with ⟨h81, h⟩ | ⟨h81, h⟩
    · obtain rfl := Option.some.inj h
      exact LoopT.ret 0 (fun k hk => by simp (implicitDefEqProofs := false) [-getElem?_pos, -getElem?_neg, Try.f40, h77, h78, h80, h81])
    obtain ⟨y83, h82, h⟩ := bd h
    have h82c := c_impl_areSymbols h82
    rcases ifb h with ⟨h84, h⟩ | ⟨h84, h⟩
    · exact LoopT.step 0 (fun k hk => by simp (implicitDefEqProofs := false) [-getElem?_pos, -getElem?_neg, Try.f40, h77, h78, h80, h81, h82c, h84]) (ih _ _ h (sl [((st 0) + 1), (st 1)]))
    obtain rfl := Option.some.inj h
    exact LoopT.ret 0 (fun k hk => by simp (implicitDefEqProofs := false) [-getElem?_pos, -getElem?_neg, Try.f40, h77, h78, h80, h81, h82c, h84])
  obtain rfl := Option.some.inj h
  exact LoopT.exit (sl [(st 0), (st 1)]) 0 (fun k hk => by simp (implicitDefEqProofs := false) [-getElem?_pos, -getElem?_neg, Try.f40, h77])
def p_impl_GramOk_L0 (a0 : List (List (List (Int)))) (x15b0 : Int) : Option (Bool ⊕ Unit) :=
 if x15b0 < (a0.length : Int) then
  if 0 ≤ x15b0 then
   a0[x15b0.toNat]? >>= fun y57 =>
   p_impl_inRange (y57.length : Int) 1 8 >>= fun y60 =>
   if y60 then
    p_impl_GramOk_L2 a0 x15b0 y57 0 >>= fun o86 => match o86 with
    | .inl o86 =>
     some (.inl o86)
    | .inr o86 =>
     p_impl_GramOk_L0 a0 (IntKind.wrap .i64 (x15b0 + 1))
   else
    some (.inl false)
  else none
 else
  some (.inr ())
partial_fixpoint
@[simp] noncomputable def L_impl_GramOk_L0 : Code := nav [1, 1, 0, 1, 0, 0] (bodyOf Try.f40)
@[simp] def T_impl_GramOk_L0 (a0 : List (List (List (Int)))) (x15b0 : Int) (st : Nat → Nat) : St := ⟨[(1, .one (.bp 1 (st 1) 0)), (13, .one (.sl false 60 (List.map (cL60 false) a0))), (14, .one (.lit (.int .i64 (a0.length : Int)))), (15, .one (.lit (.int .i64 x15b0)))], [none, some (.box (st 1) [.sl false 60 (List.map (cL60 false) a0)])], (st 0)⟩
@[simp] def U_impl_GramOk_L0 (a0 : List (List (List (Int)))) (o : Unit) (st : Nat → Nat) : St := ⟨[], [none, some (.box (st 1) [.sl false 60 (List.map (cL60 false) a0)])], (st 0)⟩
abbrev Q_impl_GramOk_L0 (a0 : List (List (List (Int)))) (x15b0 : Int) (o : Bool ⊕ Unit) : Prop := ∀ st : Nat → Nat, LoopT Try.prog cal_impl_GramOk 1 lm_impl_GramOk 0 L_impl_GramOk_L0 (tellS Try.prog lm_impl_GramOk [.tmp 2]) res_impl_GramOk (U_impl_GramOk_L0 a0) (T_impl_GramOk_L0 a0 x15b0 st) o
theorem l_impl_GramOk_L0 {a0 : List (List (List (Int)))} {x15b0 : Int} {o : Bool ⊕ Unit} (h : p_impl_GramOk_L0 a0 x15b0 = some o) : Q_impl_GramOk_L0 a0 x15b0 o := by
  refine p_impl_GramOk_L0.partial_correctness a0 (motive := fun x15b0 o => Q_impl_GramOk_L0 a0 x15b0 o) ?_ x15b0 o h
  clear h o x15b0
  intro p' ih x15b0 r h st
  rcases ifc h with ⟨h55, h⟩ | ⟨h55, h⟩
  · obtain ⟨h56, h⟩ := ifg h
    obtain ⟨y57, h58, h⟩ := bd h
    obtain ⟨y60, h59, h⟩ := bd h
    have h59c := c_impl_inRange h59
    try simp (implicitDefEqProofs := false) [-getElem?_pos, -getElem?_neg] at h59c
    rcases ifb h with ⟨h61, h⟩ | ⟨h61, h⟩
    · obtain ⟨o86, h85, h⟩ := bd h
      have qK87 := l_impl_GramOk_L2 h85 (sl [((st 0) + 1), (st 1)])
      rcases o86 with o86 | o86
      · obtain ⟨K87, qK87⟩ := qK87
        obtain rfl := Option.some.inj h
        refine LoopT.ret K87 (fun k hk => ?_)
        obtain ⟨S_K87, jK87, iK87⟩ := qK87 k (by omega) k (by omega)
        simp (implicitDefEqProofs := false) [-getElem?_pos, -getElem?_neg, Try.f40, h55, h56, h58, h59c, h61] at jK87
        simp (implicitDefEqProofs := false) [-getElem?_pos, -getElem?_neg, Try.f40, h55, h56, h58, h59c, h61, iK87, jK87]
      obtain ⟨s88, K87, qK87⟩ := qK87
      refine LoopT.step K87 (fun k hk => ?_) (ih _ _ h (sl [(s88 0), (s88 1)]))
      have jK87 := qK87 k (by omega) k (by omega)
      simp (implicitDefEqProofs := false) [-getElem?_pos, -getElem?_neg, Try.f40, h55, h56, h58, h59c, h61] at jK87
      simp (implicitDefEqProofs := false) [-getElem?_pos, -getElem?_neg, Try.f40, h55, h56, h58, h59c, h61, jK87]
    obtain rfl := Option.some.inj h
    exact LoopT.ret 0 (fun k hk => by simp (implicitDefEqProofs := false) [-getElem?_pos, -getElem?_neg, Try.f40, h55, h56, h58, h59c, h61])
  obtain rfl := Option.some.inj h
  exact LoopT.exit (sl [(st 0), (st 1)]) 0 (fun k hk => by simp (implicitDefEqProofs := false) [-getElem?_pos, -getElem?_neg, Try.f40, h55])
def p_impl_GramOk (a0 : List (List (List (Int)))) : Option Bool :=
 p_impl_inRange (a0.length : Int) 1 20 >>= fun y2 =>
 if y2 then
  p_impl_GramOk_L0 a0 0 >>= fun o90 => match o90 with
  | .inl o90 =>
   some o90
  | .inr o90 =>
   some true
 else
  some false
theorem t_impl_GramOk {a0 : List (List (List (Int)))} {r : Bool} (h : p_impl_GramOk a0 = some r) : ∃ k, told Try.prog (cal_impl_GramOk k) k lm_impl_GramOk Try.f40 (arg_impl_GramOk a0) = some (res_impl_GramOk r) := by
  unfold p_impl_GramOk at h
  obtain ⟨y2, h1, h⟩ := bd h
  have h1c := c_impl_inRange h1
  try simp (implicitDefEqProofs := false) [-getElem?_pos, -getElem?_neg] at h1c
  rcases ifb h with ⟨h3, h⟩ | ⟨h3, h⟩
  · obtain ⟨o90, h89, h⟩ := bd h
    have qK91 := l_impl_GramOk_L0 h89 (sl [3, 1])
    rcases o90 with o90 | o90
    · obtain ⟨K91, qK91⟩ := qK91
      obtain rfl := Option.some.inj h
      obtain ⟨k, hk⟩ : ∃ k, K91 ≤ k := ⟨_, Nat.le_refl _⟩
      obtain ⟨S_K91, jK91, iK91⟩ := qK91 k (by omega) k (by omega)
      simp (implicitDefEqProofs := false) [-getElem?_pos, -getElem?_neg, Try.f40, h1c, h3] at jK91
      refine ⟨k, ?_⟩
      simp (implicitDefEqProofs := false) [-getElem?_pos, -getElem?_neg, Try.f40, h1c, h3, iK91, jK91]
    obtain ⟨s92, K91, qK91⟩ := qK91
    obtain rfl := Option.some.inj h
    obtain ⟨k, hk⟩ : ∃ k, K91 ≤ k := ⟨_, Nat.le_refl _⟩
    have jK91 := qK91 k (by omega) k (by omega)
    simp (implicitDefEqProofs := false) [-getElem?_pos, -getElem?_neg, Try.f40, h1c, h3] at jK91
    refine ⟨k, ?_⟩
    simp (implicitDefEqProofs := false) [-getElem?_pos, -getElem?_neg, Try.f40, h1c, h3, jK91]
  obtain rfl := Option.some.inj h
  obtain ⟨k, hk⟩ : ∃ k, 0 ≤ k := ⟨_, Nat.le_refl _⟩
  refine ⟨k, ?_⟩
  simp (implicitDefEqProofs := false) [-getElem?_pos, -getElem?_neg, Try.f40, h1c, h3]
theorem inj_impl_GramOk : ∀ a b, arg_impl_GramOk a = arg_impl_GramOk b → a = b := by
  intro x y h; simp [arg_impl_GramOk] at h; simp [Prod.ext_iff, h]
noncomputable def F_impl_GramOk : Con := nilfix [[some 60]] (pcon arg_impl_GramOk (fun a => p_impl_GramOk a) res_impl_GramOk)
theorem fn_impl_GramOk : Fn Try.prog 40 F_impl_GramOk := (Fn.pure cal_impl_GramOk (fun k w0 h0 => ok_impl_GramOk k w0 h0) mixed Try.func40 rfl rfl (by kernel_rfl) 1 (by decide) (fun _ => rfl) lm_impl_GramOk (fun a b h => t_impl_GramOk h)).nilfix _
theorem c_impl_GramOk {a0 : List (List (List (Int)))} {r : Bool} (h : p_impl_GramOk a0 = some r) : F_impl_GramOk [.agg [.sl false 60 (List.map (cL60 false) a0)]] = some (((false, [none]), [.lit (.bool r)])) := pcon_at (arg := arg_impl_GramOk) (p := fun a => p_impl_GramOk a) (res := res_impl_GramOk) (a := a0) (b := r) inj_impl_GramOk h
def cal_slices_Index_int (k : Nat) : Cal := calI (tabOf []) (inlOf [])
@[simp] theorem cal_slices_Index_int_ap (k g : Nat) (vs : List TV) (mem : Mem) (ep : Nat) : cal_slices_Index_int k g vs mem ep = calI (tabOf []) (inlOf []) g vs mem ep := rfl
theorem ok_slices_Index_int (k : Nat) (w0 : World) (h0 : True) : CalOk Try.prog w0.heap.size w0 (cal_slices_Index_int k) := by
  exact calI_ok (J := fun _ => True) stab_true (tabOf_ok _ (by simp [])) (inlOf_ok _ (by simp [])) h0
@[simp] def lm_slices_Index_int : Nat → List Nat × Nat := fun b => if b = 0 then ([0, 1, 7, 8], 0) else if b = 2000000 then ([], 8888888) else if b = 3000000 then ([], 0) else ([], 0)
@[simp] def arg_slices_Index_int (a : List (Int) × Int) : List TV := [.one (.sl false 3 (List.map cI a.1)), .one (.lit (.int .i64 a.2))]
@[simp] def res_slices_Index_int (r : Int) : Sh × List V := ((false, [none]), [.lit (.int .i64 r)])
def p_slices_Index_int_L0 (a0 : List (Int)) (a1 : Int) (x8b0 : Int) : Option (Int ⊕ Unit) :=
 if x8b0 < (a0.length : Int) then
  if 0 ≤ x8b0 then
   a0[x8b0.toNat]? >>= fun y12 =>
   if a1 = y12 then
    some (.inl x8b0)
   else
    p_slices_Index_int_L0 a0 a1 (IntKind.wrap .i64 (x8b0 + 1))
  else none
 else
  some (.inr ())
partial_fixpoint
@[simp] noncomputable def L_slices_Index_int_L0 : Code := nav [1, 0, 1, 0, 0] (bodyOf Try.f66)
@[simp] def T_slices_Index_int_L0 (a0 : List (Int)) (a1 : Int) (x8b0 : Int) (st : Nat → Nat) : St := ⟨[(0, .one (.sl false 3 (List.map cI a0))), (1, .one (.lit (.int .i64 a1))), (7, .one (.lit (.int .i64 (a0.length : Int)))), (8, .one (.lit (.int .i64 x8b0)))], [none], (st 0)⟩
@[simp] def U_slices_Index_int_L0 (a0 : List (Int)) (a1 : Int) (o : Unit) (st : Nat → Nat) : St := ⟨[], [none], (st 0)⟩
abbrev Q_slices_Index_int_L0 (a0 : List (Int)) (a1 : Int) (x8b0 : Int) (o : Int ⊕ Unit) : Prop := ∀ st : Nat → Nat, LoopT Try.prog cal_slices_Index_int 1 lm_slices_Index_int 0 L_slices_Index_int_L0 (tellS Try.prog lm_slices_Index_int [.tmp 4]) res_slices_Index_int (U_slices_Index_int_L0 a0 a1) (T_slices_Index_int_L0 a0 a1 x8b0 st) o
theorem l_slices_Index_int_L0 {a0 : List (Int)} {a1 : Int} {x8b0 : Int} {o : Int ⊕ Unit} (h : p_slices_Index_int_L0 a0 a1 x8b0 = some o) : Q_slices_Index_int_L0 a0 a1 x8b0 o := by
  refine p_slices_Index_int_L0.partial_correctness a0 a1 (motive := fun x8b0 o => Q_slices_Index_int_L0 a0 a1 x8b0 o) ?_ x8b0 o h
  clear h o x8b0
  intro p' ih x8b0 r h st
  rcases ifc h with ⟨h10, h⟩ | ⟨h10, h⟩
  · obtain ⟨h11, h⟩ := ifg h
    obtain ⟨y12, h13, h⟩ := bd h
    rcases ifc h with ⟨h14, h⟩ | ⟨h14, h⟩
    · obtain rfl := Option.some.inj h
      exact LoopT.ret 0 (fun k hk => by simp (implicitDefEqProofs := false) [-getElem?_pos, -getElem?_neg, Try.f66, h10, h11, h13, (eq_true h14)])
    exact LoopT.step 0 (fun k hk => by simp (implicitDefEqProofs := false) [-getElem?_pos, -getElem?_neg, Try.f66, h10, h11, h13, h14]) (ih _ _ h (sl [(st 0)]))
  obtain rfl := Option.some.inj h
  exact LoopT.exit (sl [(st 0)]) 0 (fun k hk => by simp (implicitDefEqProofs := false) [-getElem?_pos, -getElem?_neg, Try.f66, h10])
def p_slices_Index_int (a0 : List (Int)) (a1 : Int) : Option Int :=
 p_slices_Index_int_L0 a0 a1 0 >>= fun o16 => match o16 with
 | .inl o16 =>
  some o16
 | .inr o16 =>
  some (-1)
theorem t_slices_Index_int {a0 : List (Int)} {a1 : Int} {r : Int} (h : p_slices_Index_int a0 a1 = some r) : ∃ k, told Try.prog (cal_slices_Index_int k) k lm_slices_Index_int Try.f66 (arg_slices_Index_int (a0, a1)) = some (res_slices_Index_int r) := by
  unfold p_slices_Index_int at h
  obtain ⟨o16, h15, h⟩ := bd h
  have qK17 := l_slices_Index_int_L0 h15 (sl [1])
  rcases o16 with o16 | o16
  · obtain ⟨K17, qK17⟩ := qK17
    obtain rfl := Option.some.inj h
    obtain ⟨k, hk⟩ : ∃ k, K17 ≤ k := ⟨_, Nat.le_refl _⟩
    obtain ⟨S_K17, jK17, iK17⟩ := qK17 k (by omega) k (by omega)
    simp (implicitDefEqProofs := false) [-getElem?_pos, -getElem?_neg, Try.f66] at jK17
    refine ⟨k, ?_⟩
    simp (implicitDefEqProofs := false) [-getElem?_pos, -getElem?_neg, Try.f66, iK17, jK17]
  obtain ⟨s18, K17, qK17⟩ := qK17
  obtain rfl := Option.some.inj h
  obtain ⟨k, hk⟩ : ∃ k, K17 ≤ k := ⟨_, Nat.le_refl _⟩
  have jK17 := qK17 k (by omega) k (by omega)
  simp (implicitDefEqProofs := false) [-getElem?_pos, -getElem?_neg, Try.f66] at jK17
  refine ⟨k, ?_⟩
  simp (implicitDefEqProofs := false) [-getElem?_pos, -getElem?_neg, Try.f66, jK17]
theorem inj_slices_Index_int : ∀ a b, arg_slices_Index_int a = arg_slices_Index_int b → a = b := by
  rintro ⟨x0, x1⟩ ⟨y0, y1⟩ h; simp [arg_slices_Index_int] at h; simp [Prod.ext_iff, h]
noncomputable def F_slices_Index_int : Con := nilfix [[some 3], [none]] (pcon arg_slices_Index_int (fun a => p_slices_Index_int a.1 a.2) res_slices_Index_int)
theorem fn_slices_Index_int : Fn Try.prog 66 F_slices_Index_int := (Fn.pure cal_slices_Index_int (fun k w0 h0 => ok_slices_Index_int k w0 h0) mixed Try.func66 rfl rfl (by kernel_rfl) 2 (by decide) (fun _ => rfl) lm_slices_Index_int (fun a b h => t_slices_Index_int h)).nilfix _
theorem c_slices_Index_int {a0 : List (Int)} {a1 : Int} {r : Int} (h : p_slices_Index_int a0 a1 = some r) : F_slices_Index_int [.one (.sl false 3 (List.map cI a0)), .one (.lit (.int .i64 a1))] = some (((false, [none]), [.lit (.int .i64 r)])) := pcon_at (arg := arg_slices_Index_int) (p := fun a => p_slices_Index_int a.1 a.2) (res := res_slices_Index_int) (a := (a0, a1)) (b := r) inj_slices_Index_int h
noncomputable def cal_slices_Contains_int (k : Nat) : Cal := calI (tabOf [(66, F_slices_Index_int)]) (inlOf [])
@[simp] theorem cal_slices_Contains_int_ap (k g : Nat) (vs : List TV) (mem : Mem) (ep : Nat) : cal_slices_Contains_int k g vs mem ep = calI (tabOf [(66, F_slices_Index_int)]) (inlOf []) g vs mem ep := rfl
theorem ok_slices_Contains_int (k : Nat) (w0 : World) (h0 : True) : CalOk Try.prog w0.heap.size w0 (cal_slices_Contains_int k) := by
  exact calI_ok (J := fun _ => True) stab_true (tabOf_ok _ (by simp [fn_slices_Index_int])) (inlOf_ok _ (by simp [])) h0
@[simp] def lm_slices_Contains_int : Nat → List Nat × Nat := fun b => ([], 0)
@[simp] def arg_slices_Contains_int (a : List (Int) × Int) : List TV := [.one (.sl false 3 (List.map cI a.1)), .one (.lit (.int .i64 a.2))]
@[simp] def res_slices_Contains_int (r : Bool) : Sh × List V := ((false, [none]), [.lit (.bool r)])
def p_slices_Contains_int (a0 : List (Int)) (a1 : Int) : Option Bool :=
 p_slices_Index_int a0 a1 >>= fun y2 =>
 some (decide (0 ≤ y2))
theorem t_slices_Contains_int {a0 : List (Int)} {a1 : Int} {r : Bool} (h : p_slices_Contains_int a0 a1 = some r) : ∃ k, told Try.prog (cal_slices_Contains_int k) k lm_slices_Contains_int Try.f61 (arg_slices_Contains_int (a0, a1)) = some (res_slices_Contains_int r) := by
  unfold p_slices_Contains_int at h
  obtain ⟨y2, h1, h⟩ := bd h
  have h1c := c_slices_Index_int h1
  obtain rfl := Option.some.inj h
  obtain ⟨k, hk⟩ : ∃ k, 0 ≤ k := ⟨_, Nat.le_refl _⟩
  refine ⟨k, ?_⟩
  simp (implicitDefEqProofs := false) [-getElem?_pos, -getElem?_neg, Try.f61, h1c]
theorem inj_slices_Contains_int : ∀ a b, arg_slices_Contains_int a = arg_slices_Contains_int b → a = b := by
  rintro ⟨x0, x1⟩ ⟨y0, y1⟩ h; simp [arg_slices_Contains_int] at h; simp [Prod.ext_iff, h]
noncomputable def F_slices_Contains_int : Con := nilfix [[some 3], [none]] (pcon arg_slices_Contains_int (fun a => p_slices_Contains_int a.1 a.2) res_slices_Contains_int)
theorem fn_slices_Contains_int : Fn Try.prog 61 F_slices_Contains_int := (Fn.pure cal_slices_Contains_int (fun k w0 h0 => ok_slices_Contains_int k w0 h0) mixed Try.func61 rfl rfl (by kernel_rfl) 2 (by decide) (fun _ => rfl) lm_slices_Contains_int (fun a b h => t_slices_Contains_int h)).nilfix _
theorem c_slices_Contains_int {a0 : List (Int)} {a1 : Int} {r : Bool} (h : p_slices_Contains_int a0 a1 = some r) : F_slices_Contains_int [.one (.sl false 3 (List.map cI a0)), .one (.lit (.int .i64 a1))] = some (((false, [none]), [.lit (.bool r)])) := pcon_at (arg := arg_slices_Contains_int) (p := fun a => p_slices_Contains_int a.1 a.2) (res := res_slices_Contains_int) (a := (a0, a1)) (b := r) inj_slices_Contains_int h
noncomputable def cal_impl_addTo (k : Nat) : Cal := calI (tabOf [(61, F_slices_Contains_int)]) (inlOf [(62, insI)])
@[simp] theorem cal_impl_addTo_ap (k g : Nat) (vs : List TV) (mem : Mem) (ep : Nat) : cal_impl_addTo k g vs mem ep = calI (tabOf [(61, F_slices_Contains_int)]) (inlOf [(62, insI)]) g vs mem ep := rfl
theorem ok_impl_addTo (k : Nat) (w0 : World) (h0 : True) : CalOk Try.prog w0.heap.size w0 (cal_impl_addTo k) := by
  exact calI_ok (J := fun _ => True) stab_true (tabOf_ok _ (by simp [fn_slices_Contains_int])) (inlOf_ok _ (by simp [insI_ok])) h0
@[simp] def lm_impl_addTo : Nat → List Nat × Nat := fun b => if b = 0 then ([0, 1, 5], 0) else if b = 2000000 then ([], 8888888) else if b = 3000000 then ([0, 1, 5], 0) else ([], 0)
@[simp] def arg_impl_addTo (a : List (Int) × Int) : List TV := [.one (.lit (.int .i64 a.2))]
@[simp] def H_impl_addTo (a : List (Int) × Int) : List V := [.sl true 3 (List.map cI a.1)]
@[simp] def m0_impl_addTo (a : List (Int) × Int) : Mem := [none, none, some (.rows 1 1 3 (List.map cI a.1))]
@[simp] def res_impl_addTo (r : List (Int)) : Sh × List V × List V := ((false, [none]), [.sl true 3 (List.map cI r)], [])
def p_impl_addTo_L0 (a1 : Int) (a0 : List (Int)) (x5b0 : Int) : Option (Int) :=
 if x5b0 < (a0.length : Int) then
  if 0 ≤ x5b0 then
   a0[x5b0.toNat]? >>= fun y23 =>
   if y23 ≤ a1 then
    p_impl_addTo_L0 a1 a0 (IntKind.wrap .i64 (x5b0 + 1))
   else
    some x5b0
  else none
 else
  some x5b0
partial_fixpoint
@[simp] noncomputable def L_impl_addTo_L0 : Code := nav [1, 1, 1, 0, 0, 0] (bodyOf Try.f50)
@[simp] def T_impl_addTo_L0 (a1 : Int) (a0 : List (Int)) (x5b0 : Int) (st : Nat → Nat) : St := ⟨[(0, .one (.ow 2 1)), (1, .one (.lit (.int .i64 a1))), (5, .one (.lit (.int .i64 x5b0)))], [none, none, some (.rows 1 1 3 (List.map cI a0))], (st 0)⟩
@[simp] def U_impl_addTo_L0 (a1 : Int) (a0 : List (Int)) (o : Int) (st : Nat → Nat) : St := ⟨[(0, .one (.ow 2 1)), (1, .one (.lit (.int .i64 a1))), (5, .one (.lit (.int .i64 o)))], [none, none, some (.rows 1 1 3 (List.map cI a0))], (st 0)⟩
abbrev Q_impl_addTo_L0 (a1 : Int) (a0 : List (Int)) (x5b0 : Int) (o : Int) : Prop := ∀ st : Nat → Nat, LoopG Try.prog cal_impl_addTo 3 lm_impl_addTo 0 L_impl_addTo_L0 (U_impl_addTo_L0 a1 a0) (T_impl_addTo_L0 a1 a0 x5b0 st) o
theorem l_impl_addTo_L0 {a1 : Int} {a0 : List (Int)} {x5b0 : Int} {o : Int} (h : p_impl_addTo_L0 a1 a0 x5b0 = some o) : Q_impl_addTo_L0 a1 a0 x5b0 o := by
  refine p_impl_addTo_L0.partial_correctness a1 a0 (motive := fun x5b0 o => Q_impl_addTo_L0 a1 a0 x5b0 o) ?_ x5b0 o h
  clear h o x5b0
  intro p' ih x5b0 r h st
  rcases ifc h with ⟨h21, h⟩ | ⟨h21, h⟩
  · obtain ⟨h22, h⟩ := ifg h
    obtain ⟨y23, h24, h⟩ := bd h
    have h24b := (List.getElem?_eq_some_iff.1 h24).1
    rcases ifc h with ⟨h26, h⟩ | ⟨h26, h⟩
    · exact LoopG.step 0 (fun k hk => by simp (implicitDefEqProofs := false) [-getElem?_pos, -getElem?_neg, Try.f50, h21, h22, h24, h24b, h26]) (ih _ _ h (sl [(st 0)]))
    obtain rfl := Option.some.inj h
    exact LoopG.exit (sl [(st 0)]) 0 (fun k hk => by simp (implicitDefEqProofs := false) [-getElem?_pos, -getElem?_neg, Try.f50, h21, h22, h24, h24b, h26])
  obtain rfl := Option.some.inj h
  exact LoopG.exit (sl [(st 0)]) 0 (fun k hk => by simp (implicitDefEqProofs := false) [-getElem?_pos, -getElem?_neg, Try.f50, h21])
def p_impl_addTo (a0 : List (Int)) (a1 : Int) : Option (List (Int)) :=
 p_slices_Contains_int a0 a1 >>= fun y2 =>
 if y2 then
  some a0
 else
  p_impl_addTo_L0 a1 a0 0 >>= fun o28 =>
  if 0 ≤ o28 then
   if o28.toNat ≤ a0.length then
    if (a0.length + 1) * 8 ≤ 140737488355328 then
     some (List.take o28.toNat a0 ++ a1 :: List.drop o28.toNat a0) >>= fun l34 =>
     some l34
    else none
   else none
  else none
theorem t_impl_addTo {a0 : List (Int)} {a1 : Int} {r : List (Int)} (h : p_impl_addTo a0 a1 = some r) : ∃ k, toldB Try.prog (cal_impl_addTo k) k lm_impl_addTo Try.f50 false (.ow 2 1) (m0_impl_addTo (a0, a1)) (arg_impl_addTo (a0, a1)) = some (res_impl_addTo r) := by
  unfold p_impl_addTo at h
  obtain ⟨y2, h1, h⟩ := bd h
  have h1c := c_slices_Contains_int h1
  rcases ifb h with ⟨h3, h⟩ | ⟨h3, h⟩
  · obtain rfl := Option.some.inj h
    obtain ⟨k, hk⟩ : ∃ k, 0 ≤ k := ⟨_, Nat.le_refl _⟩
    refine ⟨k, ?_⟩
    simp (implicitDefEqProofs := false) [-getElem?_pos, -getElem?_neg, Try.f50, h1c, h3]
  obtain ⟨o28, h27, h⟩ := bd h
  have qK29 := l_impl_addTo_L0 h27 (sl [3])
  obtain ⟨s30, K29, qK29⟩ := qK29
  obtain ⟨h31, h⟩ := ifg h
  obtain ⟨h32, h⟩ := ifg h
  have h32i : o28 ≤ (a0.length : Int) := by omega
  obtain ⟨h33, h⟩ := ifg h
  obtain ⟨l34, h35, h⟩ := bd h
  have h35r : List.take o28.toNat (List.map cI a0) ++ [.lit (.int .i64 a1)] :: List.drop o28.toNat (List.map cI a0) = List.map cI l34 := by rw [← Option.some.inj h35]; simp
  obtain rfl := Option.some.inj h
  obtain ⟨k, hk⟩ : ∃ k, K29 ≤ k := ⟨_, Nat.le_refl _⟩
  have jK29 := qK29 k (by omega) k (by omega)
  simp (implicitDefEqProofs := false) [-getElem?_pos, -getElem?_neg, Try.f50, h1c, h3, h31, h32, h32i, h33, h35r] at jK29
  refine ⟨k, ?_⟩
  simp (implicitDefEqProofs := false) [-getElem?_pos, -getElem?_neg, Try.f50, h1c, h3, h31, h32, h32i, h33, h35r, jK29]
theorem inj_impl_addTo : ∀ a b, H_impl_addTo a = H_impl_addTo b → arg_impl_addTo a = arg_impl_addTo b → a = b := by
  rintro ⟨x0, x1⟩ ⟨y0, y1⟩ h1 h2; simp [arg_impl_addTo] at h2; simp [H_impl_addTo] at h1; simp [Prod.ext_iff, h1, h2]
noncomputable def F_impl_addTo : BCon := pbcon H_impl_addTo arg_impl_addTo (fun a => p_impl_addTo a.1 a.2) res_impl_addTo
theorem fn_impl_addTo : BFn Try.prog 50 false F_impl_addTo := BFn.pure cal_impl_addTo (fun k w0 h0 => ok_impl_addTo k w0 h0) mixed Try.func50 rfl rfl (by kernel_rfl) 2 (by decide) (fun _ => rfl) lm_impl_addTo (fun _ => .ow 2 1) m0_impl_addTo (fun _ => rfl) (fun a b h => t_impl_addTo h)
theorem c_impl_addTo {a0 : List (Int)} {a1 : Int} {r : List (Int)} (h : p_impl_addTo a0 a1 = some r) : F_impl_addTo [.sl true 3 (List.map cI a0)] [.one (.lit (.int .i64 a1))] = some ((false, [none]), [.sl true 3 (List.map cI r)], []) := pbcon_at (H := H_impl_addTo) (arg := arg_impl_addTo) (p := fun a => p_impl_addTo a.1 a.2) (res := res_impl_addTo) (a := (a0, a1)) (b := r) inj_impl_addTo h
noncomputable def cal_impl_Letters (k : Nat) : Cal := calI (tabOf [(40, F_impl_GramOk)]) (inlOf [(50, bI false [some (true, 3)] F_impl_addTo)])
@[simp] theorem cal_impl_Letters_ap (k g : Nat) (vs : List TV) (mem : Mem) (ep : Nat) : cal_impl_Letters k g vs mem ep = calI (tabOf [(40, F_impl_GramOk)]) (inlOf [(50, bI false [some (true, 3)] F_impl_addTo)]) g vs mem ep := rfl
theorem ok_impl_Letters (k : Nat) (w0 : World) (h0 : True) : CalOk Try.prog w0.heap.size w0 (cal_impl_Letters k) := by
  exact calI_ok (J := fun _ => True) stab_true (tabOf_ok _ (by simp [fn_impl_GramOk])) (inlOf_ok _ (by simp [(BFn.inst stab_true fn_impl_addTo)])) h0
@[simp] def lm_impl_Letters : Nat → List Nat × Nat := fun b => if b = 0 then ([3, 14, 15, 16], 2) else if b = 2000000 then ([0, 3, 0, 3], 8888888) else if b = 3000000 then ([3], 2) else if b = 2 then ([3, 14, 15, 16, 20, 21, 22], 2) else if b = 2000002 then ([0, 3, 0, 3], 8888888) else if b = 3000002 then ([3, 14, 15, 16], 2) else if b = 4 then ([3, 14, 15, 16, 20, 21, 22, 26, 27, 28], 2) else if b = 2000004 then ([0, 3, 0, 3, 1, 3, 0, 2], 8888888) else if b = 3000004 then ([3, 14, 15, 16, 20, 21, 22], 2) else if b = 5000000 then ([0, 2, 0, 3], 8888888) else ([], 0)
@[simp] def arg_impl_Letters (a : List (List (List (Int)))) : List TV := [.agg [.sl false 60 (List.map (cL60 false) a)]]
@[simp] def res_impl_Letters (r : List (Int)) : Sh × List V := ((false, [none]), [.sl true 3 (List.map cI r)])
def p_impl_Letters_L4 (a0 : List (List (List (Int)))) (x16b0 : Int) (y103 : List (List (Int))) (x22b2 : Int) (y148 : List (Int)) (x28b4 : Int) (l2b4 : List (Int)) : Option (List (Int)) :=
 if x28b4 < (y148.length : Int) then
  if 0 ≤ x28b4 then
   y148[x28b4.toNat]? >>= fun y165 =>
   if y165 < 100 then
    p_impl_addTo l2b4 y165 >>= fun y169 =>
    p_impl_Letters_L4 a0 x16b0 y103 x22b2 y148 (IntKind.wrap .i64 (x28b4 + 1)) y169
   else
    p_impl_Letters_L4 a0 x16b0 y103 x22b2 y148 (IntKind.wrap .i64 (x28b4 + 1)) l2b4
  else none
 else
  some l2b4
partial_fixpoint
@[simp] noncomputable def L_impl_Letters_L4 : Code := nav [1, 1, 1, 0, 1, 0, 0, 1, 1, 0, 0, 1, 1, 0, 0, 1, 1, 0, 0, 1, 1, 0, 0] (bodyOf Try.f28)
@[simp] def T_impl_Letters_L4 (a0 : List (List (List (Int)))) (x16b0 : Int) (y103 : List (List (Int))) (x22b2 : Int) (y148 : List (Int)) (x28b4 : Int) (l2b4 : List (Int)) (st : Nat → Nat) : St := ⟨[(3, .one (.ow 2 (st 1))), (14, .one (.sl false 60 (List.map (cL60 false) a0))), (15, .one (.lit (.int .i64 (a0.length : Int)))), (16, .one (.lit (.int .i64 x16b0))), (20, .one (.sl false 48 (List.map (cL48 false) y103))), (21, .one (.lit (.int .i64 (y103.length : Int)))), (22, .one (.lit (.int .i64 x22b2))), (26, .one (.sl false 3 (List.map cI y148))), (27, .one (.lit (.int .i64 (y148.length : Int)))), (28, .one (.lit (.int .i64 x28b4)))], [none, some (.box (st 2) [.sl false 60 (List.map (cL60 false) a0)]), some (.rows (st 1) (st 1) 3 (List.map cI l2b4))], (st 0)⟩
@[simp] def U_impl_Letters_L4 (a0 : List (List (List (Int)))) (x16b0 : Int) (y103 : List (List (Int))) (x22b2 : Int) (y148 : List (Int)) (o : List (Int)) (st : Nat → Nat) : St := ⟨[(3, .one (.ow 2 (st 1))), (14, .one (.sl false 60 (List.map (cL60 false) a0))), (15, .one (.lit (.int .i64 (a0.length : Int)))), (16, .one (.lit (.int .i64 x16b0))), (20, .one (.sl false 48 (List.map (cL48 false) y103))), (21, .one (.lit (.int .i64 (y103.length : Int)))), (22, .one (.lit (.int .i64 x22b2)))], [none, some (.box (st 2) [.sl false 60 (List.map (cL60 false) a0)]), some (.rows (st 1) (st 1) 3 (List.map cI o))], (st 0)⟩
abbrev Q_impl_Letters_L4 (a0 : List (List (List (Int)))) (x16b0 : Int) (y103 : List (List (Int))) (x22b2 : Int) (y148 : List (Int)) (x28b4 : Int) (l2b4 : List (Int)) (o : List (Int)) : Prop := ∀ st : Nat → Nat, LoopG Try.prog cal_impl_Letters 1 lm_impl_Letters 4 L_impl_Letters_L4 (U_impl_Letters_L4 a0 x16b0 y103 x22b2 y148) (T_impl_Letters_L4 a0 x16b0 y103 x22b2 y148 x28b4 l2b4 st) o
theorem l_impl_Letters_L4 {a0 : List (List (List (Int)))} {x16b0 : Int} {y103 : List (List (Int))} {x22b2 : Int} {y148 : List (Int)} {x28b4 : Int} {l2b4 : List (Int)} {o : List (Int)} (h : p_impl_Letters_L4 a0 x16b0 y103 x22b2 y148 x28b4 l2b4 = some o) : Q_impl_Letters_L4 a0 x16b0 y103 x22b2 y148 x28b4 l2b4 o := by
  refine p_impl_Letters_L4.partial_correctness a0 x16b0 y103 x22b2 y148 (motive := fun x28b4 l2b4 o => Q_impl_Letters_L4 a0 x16b0 y103 x22b2 y148 x28b4 l2b4 o) ?_ x28b4 l2b4 o h
  clear h o x28b4 l2b4
  intro p' ih x28b4 l2b4 r h st
  rcases ifc h with ⟨h163, h⟩ | ⟨h163, h⟩
  · obtain ⟨h164, h⟩ := ifg h
    obtain ⟨y165, h166, h⟩ := bd h
    rcases ifc h with ⟨h167, h⟩ | ⟨h167, h⟩
    · obtain ⟨y169, h168, h⟩ := bd h
      have h168c := c_impl_addTo h168
      exact LoopG.step 0 (fun k hk => by simp (implicitDefEqProofs := false) [-getElem?_pos, -getElem?_neg, Try.f28, h163, h164, h166, h167, h168c]) (ih _ _ _ h (sl [((st 0) + 4), ((st 0) + 3), (st 2)]))
    exact LoopG.step 0 (fun k hk => by simp (implicitDefEqProofs := false) [-getElem?_pos, -getElem?_neg, Try.f28, h163, h164, h166, h167]) (ih _ _ _ h (sl [((st 0) + 1), (st 0), (st 2)]))
  obtain rfl := Option.some.inj h
  exact LoopG.exit (sl [(st 0), (st 1), (st 2)]) 0 (fun k hk => by simp (implicitDefEqProofs := false) [-getElem?_pos, -getElem?_neg, Try.f28, h163])
def p_impl_Letters_L2 (a0 : List (List (List (Int)))) (x16b0 : Int) (y103 : List (List (Int))) (x22b2 : Int) (l2b2 : List (Int)) : Option (List (Int)) :=
 if x22b2 < (y103.length : Int) then
  if 0 ≤ x22b2 then
   y103[x22b2.toNat]? >>= fun y148 =>
   p_impl_Letters_L4 a0 x16b0 y103 x22b2 y148 0 l2b2 >>= fun o171 =>
   p_impl_Letters_L2 a0 x16b0 y103 (IntKind.wrap .i64 (x22b2 + 1)) o171
  else none
 else
  some l2b2
partial_fixpoint
@[simp] noncomputable def L_impl_Letters_L2 : Code := nav [1, 1, 1, 0, 1, 0, 0, 1, 1, 0, 0, 1, 1, 0, 0] (bodyOf Try.f28)
@[simp] def T_impl_Letters_L2 (a0 : List (List (List (Int)))) (x16b0 : Int) (y103 : List (List (Int))) (x22b2 : Int) (l2b2 : List (Int)) (st : Nat → Nat) : St := ⟨[(3, .one (.ow 2 (st 1))), (14, .one (.sl false 60 (List.map (cL60 false) a0))), (15, .one (.lit (.int .i64 (a0.length : Int)))), (16, .one (.lit (.int .i64 x16b0))), (20, .one (.sl false 48 (List.map (cL48 false) y103))), (21, .one (.lit (.int .i64 (y103.length : Int)))), (22, .one (.lit (.int .i64 x22b2)))], [none, some (.box (st 2) [.sl false 60 (List.map (cL60 false) a0)]), some (.rows (st 1) (st 1) 3 (List.map cI l2b2))], (st 0)⟩
@[simp] def U_impl_Letters_L2 (a0 : List (List (List (Int)))) (x16b0 : Int) (y103 : List (List (Int))) (o : List (Int)) (st : Nat → Nat) : St := ⟨[(3, .one (.ow 2 (st 1))), (14, .one (.sl false 60 (List.map (cL60 false) a0))), (15, .one (.lit (.int .i64 (a0.length : Int)))), (16, .one (.lit (.int .i64 x16b0)))], [none, some (.box (st 2) [.sl false 60 (List.map (cL60 false) a0)]), some (.rows (st 1) (st 1) 3 (List.map cI o))], (st 0)⟩
abbrev Q_impl_Letters_L2 (a0 : List (List (List (Int)))) (x16b0 : Int) (y103 : List (List (Int))) (x22b2 : Int) (l2b2 : List (Int)) (o : List (Int)) : Prop := ∀ st : Nat → Nat, LoopG Try.prog cal_impl_Letters 1 lm_impl_Letters 2 L_impl_Letters_L2 (U_impl_Letters_L2 a0 x16b0 y103) (T_impl_Letters_L2 a0 x16b0 y103 x22b2 l2b2 st) o
theorem l_impl_Letters_L2 {a0 : List (List (List (Int)))} {x16b0 : Int} {y103 : List (List (Int))} {x22b2 : Int} {l2b2 : List (Int)} {o : List (Int)} (h : p_impl_Letters_L2 a0 x16b0 y103 x22b2 l2b2 = some o) : Q_impl_Letters_L2 a0 x16b0 y103 x22b2 l2b2 o := by
  refine p_impl_Letters_L2.partial_correctness a0 x16b0 y103 (motive := fun x22b2 l2b2 o => Q_impl_Letters_L2 a0 x16b0 y103 x22b2 l2b2 o) ?_ x22b2 l2b2 o h
  clear h o x22b2 l2b2
  intro p' ih x22b2 l2b2 r h st
  rcases ifc h with ⟨h146, h⟩ | ⟨h146, h⟩
  · obtain ⟨h147, h⟩ := ifg h
    obtain ⟨y148, h149, h⟩ := bd h
    obtain ⟨o171, h170, h⟩ := bd h
    have qK172 := l_impl_Letters_L4 h170 (sl [((st 0) + 1), (st 0), (st 2)])
    obtain ⟨s173, K172, qK172⟩ := qK172
    refine LoopG.step K172 (fun k hk => ?_) (ih _ _ _ h (sl [(s173 0), (s173 1), (s173 2)]))
    have jK172 := qK172 k (by omega) k (by omega)
    simp (implicitDefEqProofs := false) [-getElem?_pos, -getElem?_neg, Try.f28, h146, h147, h149] at jK172
    simp (implicitDefEqProofs := false) [-getElem?_pos, -getElem?_neg, Try.f28, h146, h147, h149, jK172]
  obtain rfl := Option.some.inj h
  exact LoopG.exit (sl [(st 0), (st 1), (st 2)]) 0 (fun k hk => by simp (implicitDefEqProofs := false) [-getElem?_pos, -getElem?_neg, Try.f28, h146])
def p_impl_Letters_L0 (a0 : List (List (List (Int)))) (x16b0 : Int) (l2b0 : List (Int)) : Option (List (Int)) :=
 if x16b0 < (a0.length : Int) then
  if 0 ≤ x16b0 then
   a0[x16b0.toNat]? >>= fun y103 =>
   p_impl_Letters_L2 a0 x16b0 y103 0 l2b0 >>= fun o175 =>
   p_impl_Letters_L0 a0 (IntKind.wrap .i64 (x16b0 + 1)) o175
  else none
 else
  some l2b0
partial_fixpoint
@[simp] noncomputable def L_impl_Letters_L0 : Code := nav [1, 1, 1, 0, 1, 0, 0] (bodyOf Try.f28)
@[simp] def T_impl_Letters_L0 (a0 : List (List (List (Int)))) (x16b0 : Int) (l2b0 : List (Int)) (st : Nat → Nat) : St := ⟨[(3, .one (.ow 2 (st 1))), (14, .one (.sl false 60 (List.map (cL60 false) a0))), (15, .one (.lit (.int .i64 (a0.length : Int)))), (16, .one (.lit (.int .i64 x16b0)))], [none, some (.box (st 2) [.sl false 60 (List.map (cL60 false) a0)]), some (.rows (st 1) (st 1) 3 (List.map cI l2b0))], (st 0)⟩
@[simp] def U_impl_Letters_L0 (a0 : List (List (List (Int)))) (o : List (Int)) (st : Nat → Nat) : St := ⟨[(3, .one (.ow 2 (st 1)))], [none, some (.box (st 2) [.sl false 60 (List.map (cL60 false) a0)]), some (.rows (st 1) (st 1) 3 (List.map cI o))], (st 0)⟩
abbrev Q_impl_Letters_L0 (a0 : List (List (List (Int)))) (x16b0 : Int) (l2b0 : List (Int)) (o : List (Int)) : Prop := ∀ st : Nat → Nat, LoopG Try.prog cal_impl_Letters 1 lm_impl_Letters 0 L_impl_Letters_L0 (U_impl_Letters_L0 a0) (T_impl_Letters_L0 a0 x16b0 l2b0 st) o
theorem l_impl_Letters_L0 {a0 : List (List (List (Int)))} {x16b0 : Int} {l2b0 : List (Int)} {o : List (Int)} (h : p_impl_Letters_L0 a0 x16b0 l2b0 = some o) : Q_impl_Letters_L0 a0 x16b0 l2b0 o := by
  refine p_impl_Letters_L0.partial_correctness a0 (motive := fun x16b0 l2b0 o => Q_impl_Letters_L0 a0 x16b0 l2b0 o) ?_ x16b0 l2b0 o h
  clear h o x16b0 l2b0
  intro p' ih x16b0 l2b0 r h st
  rcases ifc h with ⟨h101, h⟩ | ⟨h101, h⟩
  · obtain ⟨h102, h⟩ := ifg h
    obtain ⟨y103, h104, h⟩ := bd h
    obtain ⟨o175, h174, h⟩ := bd h
    have qK176 := l_impl_Letters_L2 h174 (sl [(st 0), (st 1), (st 2)])
    obtain ⟨s177, K176, qK176⟩ := qK176
    refine LoopG.step K176 (fun k hk => ?_) (ih _ _ _ h (sl [(s177 0), (s177 1), (s177 2)]))
    have jK176 := qK176 k (by omega) k (by omega)
    simp (implicitDefEqProofs := false) [-getElem?_pos, -getElem?_neg, Try.f28, h101, h102, h104] at jK176
    simp (implicitDefEqProofs := false) [-getElem?_pos, -getElem?_neg, Try.f28, h101, h102, h104, jK176]
  obtain rfl := Option.some.inj h
  exact LoopG.exit (sl [(st 0), (st 1), (st 2)]) 0 (fun k hk => by simp (implicitDefEqProofs := false) [-getElem?_pos, -getElem?_neg, Try.f28, h101])
def p_impl_Letters (a0 : List (List (List (Int)))) : Option (List (Int)) :=
 p_impl_GramOk a0 >>= fun y2 =>
 if y2 then
  p_impl_Letters_L0 a0 0 ([]) >>= fun o179 =>
  some o179
 else
  some ([])
theorem t_impl_Letters {a0 : List (List (List (Int)))} {r : List (Int)} (h : p_impl_Letters a0 = some r) : ∃ k, told Try.prog (cal_impl_Letters k) k lm_impl_Letters Try.f28 (arg_impl_Letters a0) = some (res_impl_Letters r) := by
  unfold p_impl_Letters at h
  obtain ⟨y2, h1, h⟩ := bd h
  have h1c := c_impl_GramOk h1
  rcases ifb h with ⟨h3, h⟩ | ⟨h3, h⟩
  · obtain ⟨o179, h178, h⟩ := bd h
    have qK180 := l_impl_Letters_L0 h178 (sl [4, 3, 1])
    obtain ⟨s181, K180, qK180⟩ := qK180
    obtain rfl := Option.some.inj h
    obtain ⟨k, hk⟩ : ∃ k, K180 ≤ k := ⟨_, Nat.le_refl _⟩
    have jK180 := qK180 k (by omega) k (by omega)
    simp (implicitDefEqProofs := false) [-getElem?_pos, -getElem?_neg, Try.f28, h1c, h3] at jK180
    refine ⟨k, ?_⟩
    simp (implicitDefEqProofs := false) [-getElem?_pos, -getElem?_neg, Try.f28, h1c, h3, jK180]
  obtain rfl := Option.some.inj h
  obtain ⟨k, hk⟩ : ∃ k, 0 ≤ k := ⟨_, Nat.le_refl _⟩
  refine ⟨k, ?_⟩
  simp (implicitDefEqProofs := false) [-getElem?_pos, -getElem?_neg, Try.f28, h1c, h3]
theorem inj_impl_Letters : ∀ a b, arg_impl_Letters a = arg_impl_Letters b → a = b := by
  intro x y h; simp [arg_impl_Letters] at h; simp [Prod.ext_iff, h]
noncomputable def F_impl_Letters : Con := nilfix [[some 60]] (pcon arg_impl_Letters (fun a => p_impl_Letters a) res_impl_Letters)
theorem fn_impl_Letters : Fn Try.prog 28 F_impl_Letters := (Fn.pure cal_impl_Letters (fun k w0 h0 => ok_impl_Letters k w0 h0) mixed Try.func28 rfl rfl (by kernel_rfl) 1 (by decide) (fun _ => rfl) lm_impl_Letters (fun a b h => t_impl_Letters h)).nilfix _
theorem c_impl_Letters {a0 : List (List (List (Int)))} {r : List (Int)} (h : p_impl_Letters a0 = some r) : F_impl_Letters [.agg [.sl false 60 (List.map (cL60 false) a0)]] = some (((false, [none]), [.sl true 3 (List.map cI r)])) := pcon_at (arg := arg_impl_Letters) (p := fun a => p_impl_Letters a) (res := res_impl_Letters) (a := a0) (b := r) inj_impl_Letters h
def cal_laws_eqIntS (k : Nat) : Cal := calI (tabOf []) (inlOf [])
@[simp] theorem cal_laws_eqIntS_ap (k g : Nat) (vs : List TV) (mem : Mem) (ep : Nat) : cal_laws_eqIntS k g vs mem ep = calI (tabOf []) (inlOf []) g vs mem ep := rfl
theorem ok_laws_eqIntS (k : Nat) (w0 : World) (h0 : True) : CalOk Try.prog w0.heap.size w0 (cal_laws_eqIntS k) := by
  exact calI_ok (J := fun _ => True) stab_true (tabOf_ok _ (by simp [])) (inlOf_ok _ (by simp [])) h0
@[simp] def lm_laws_eqIntS : Nat → List Nat × Nat := fun b => if b = 0 then ([0, 1, 5], 0) else if b = 2000000 then ([], 8888888) else if b = 3000000 then ([], 0) else ([], 0)
theorem dr_laws_eqIntS_6 : drawn (opsOf (nav [1, 1, 0, 1, 0, 0, 1, 0, 0, 0] (bodyOf Try.f29))) = some ([0, 1, 2, 3, 4, 5, 6, 7, 8], []) := by kernel_rfl
@[simp] def arg_laws_eqIntS (a : List (Int) × List (Int)) : List TV := [.one (.sl false 3 (List.map cI a.1)), .one (.sl false 3 (List.map cI a.2))]
@[simp] def res_laws_eqIntS (r : Bool) : Sh × List V := ((false, [none]), [.lit (.bool r)])
def p_laws_eqIntS_L0 (a0 : List (Int)) (a1 : List (Int)) (x5b0 : Int) : Option (Bool ⊕ Unit) :=
 if x5b0 < (a0.length : Int) then
  if 0 ≤ x5b0 then
   a0[x5b0.toNat]? >>= fun y17 =>
   a1[x5b0.toNat]? >>= fun y19 =>
   if y17 = y19 then
    p_laws_eqIntS_L0 a0 a1 (IntKind.wrap .i64 (x5b0 + 1))
   else
    some (.inl false)
  else none
 else
  some (.inr ())
partial_fixpoint
@[simp] noncomputable def L_laws_eqIntS_L0 : Code := nav [1, 1, 0, 1, 0, 0] (bodyOf Try.f29)
@[simp] def T_laws_eqIntS_L0 (a0 : List (Int)) (a1 : List (Int)) (x5b0 : Int) (st : Nat → Nat) : St := ⟨[(0, .one (.sl false 3 (List.map cI a0))), (1, .one (.sl false 3 (List.map cI a1))), (5, .one (.lit (.int .i64 x5b0)))], [none], (st 0)⟩
@[simp] def U_laws_eqIntS_L0 (a0 : List (Int)) (a1 : List (Int)) (o : Unit) (st : Nat → Nat) : St := ⟨[], [none], (st 0)⟩
abbrev Q_laws_eqIntS_L0 (a0 : List (Int)) (a1 : List (Int)) (x5b0 : Int) (o : Bool ⊕ Unit) : Prop := ∀ st : Nat → Nat, LoopT Try.prog cal_laws_eqIntS 1 lm_laws_eqIntS 0 L_laws_eqIntS_L0 (tellS Try.prog lm_laws_eqIntS [.tmp 4]) res_laws_eqIntS (U_laws_eqIntS_L0 a0 a1) (T_laws_eqIntS_L0 a0 a1 x5b0 st) o
theorem l_laws_eqIntS_L0 {a0 : List (Int)} {a1 : List (Int)} {x5b0 : Int} {o : Bool ⊕ Unit} (h : p_laws_eqIntS_L0 a0 a1 x5b0 = some o) : Q_laws_eqIntS_L0 a0 a1 x5b0 o := by
  refine p_laws_eqIntS_L0.partial_correctness a0 a1 (motive := fun x5b0 o => Q_laws_eqIntS_L0 a0 a1 x5b0 o) ?_ x5b0 o h
  clear h o x5b0
  intro p' ih x5b0 r h st
  rcases ifc h with ⟨h15, h⟩ | ⟨h15, h⟩
  · obtain ⟨h16, h⟩ := ifg h
    obtain ⟨y17, h18, h⟩ := bd h
    obtain ⟨y19, h20, h⟩ := bd h
    rcases ifc h with ⟨h21, h⟩ | ⟨h21, h⟩
    · refine LoopT.step 0 (fun k hk => ?_) (ih _ _ h (sl [(st 0)]))
      have hd_laws_eqIntS_6 := dr_laws_eqIntS_6
      simp only [opsOf, nav, bodyOf, Try.f29, Option.getD_some] at hd_laws_eqIntS_6
      simp (implicitDefEqProofs := false) [-getElem?_pos, -getElem?_neg, Try.f29, h15, ex_draw2 _ _ hd_laws_eqIntS_6, h16, h18, h20, (eq_true h21)]
    obtain rfl := Option.some.inj h
    refine LoopT.ret 0 (fun k hk => ?_)
    have hd_laws_eqIntS_6 := dr_laws_eqIntS_6
    simp only [opsOf, nav, bodyOf, Try.f29, Option.getD_some] at hd_laws_eqIntS_6
    simp (implicitDefEqProofs := false) [-getElem?_pos, -getElem?_neg, Try.f29, h15, ex_draw2 _ _ hd_laws_eqIntS_6, h16, h18, h20, h21]
  obtain rfl := Option.some.inj h
  exact LoopT.exit (sl [(st 0)]) 0 (fun k hk => by simp (implicitDefEqProofs := false) [-getElem?_pos, -getElem?_neg, Try.f29, h15])
def p_laws_eqIntS (a0 : List (Int)) (a1 : List (Int)) : Option Bool :=
 if (a0.length : Int) = (a1.length : Int) then
  p_laws_eqIntS_L0 a0 a1 0 >>= fun o23 => match o23 with
  | .inl o23 =>
   some o23
  | .inr o23 =>
   some true
 else
  some false
theorem t_laws_eqIntS {a0 : List (Int)} {a1 : List (Int)} {r : Bool} (h : p_laws_eqIntS a0 a1 = some r) : ∃ k, told Try.prog (cal_laws_eqIntS k) k lm_laws_eqIntS Try.f29 (arg_laws_eqIntS (a0, a1)) = some (res_laws_eqIntS r) := by
  unfold p_laws_eqIntS at h
  rcases ifc h with ⟨h1, h⟩ | ⟨h1, h⟩
  · obtain ⟨o23, h22, h⟩ := bd h
    have qK24 := l_laws_eqIntS_L0 h22 (sl [1])
    rcases o23 with o23 | o23
    · obtain ⟨K24, qK24⟩ := qK24
      obtain rfl := Option.some.inj h
      obtain ⟨k, hk⟩ : ∃ k, K24 ≤ k := ⟨_, Nat.le_refl _⟩
      obtain ⟨S_K24, jK24, iK24⟩ := qK24 k (by omega) k (by omega)
      simp (implicitDefEqProofs := false) [-getElem?_pos, -getElem?_neg, Try.f29, (eq_true h1)] at jK24
      refine ⟨k, ?_⟩
      simp (implicitDefEqProofs := false) [-getElem?_pos, -getElem?_neg, Try.f29, (eq_true h1), iK24, jK24]
    obtain ⟨s25, K24, qK24⟩ := qK24
    obtain rfl := Option.some.inj h
    obtain ⟨k, hk⟩ : ∃ k, K24 ≤ k := ⟨_, Nat.le_refl _⟩
    have jK24 := qK24 k (by omega) k (by omega)
    simp (implicitDefEqProofs := false) [-getElem?_pos, -getElem?_neg, Try.f29, (eq_true h1)] at jK24
    refine ⟨k, ?_⟩
    simp (implicitDefEqProofs := false) [-getElem?_pos, -getElem?_neg, Try.f29, (eq_true h1), jK24]
  obtain rfl := Option.some.inj h
  obtain ⟨k, hk⟩ : ∃ k, 0 ≤ k := ⟨_, Nat.le_refl _⟩
  refine ⟨k, ?_⟩
  simp (implicitDefEqProofs := false) [-getElem?_pos, -getElem?_neg, Try.f29, h1]
theorem inj_laws_eqIntS : ∀ a b, arg_laws_eqIntS a = arg_laws_eqIntS b → a = b := by
  rintro ⟨x0, x1⟩ ⟨y0, y1⟩ h; simp [arg_laws_eqIntS] at h; simp [Prod.ext_iff, h]
noncomputable def F_laws_eqIntS : Con := nilfix [[some 3], [some 3]] (pcon arg_laws_eqIntS (fun a => p_laws_eqIntS a.1 a.2) res_laws_eqIntS)
theorem fn_laws_eqIntS : Fn Try.prog 29 F_laws_eqIntS := (Fn.pure cal_laws_eqIntS (fun k w0 h0 => ok_laws_eqIntS k w0 h0) mixed Try.func29 rfl rfl (by kernel_rfl) 2 (by decide) (fun _ => rfl) lm_laws_eqIntS (fun a b h => t_laws_eqIntS h)).nilfix _
theorem c_laws_eqIntS {a0 : List (Int)} {a1 : List (Int)} {r : Bool} (h : p_laws_eqIntS a0 a1 = some r) : F_laws_eqIntS [.one (.sl false 3 (List.map cI a0)), .one (.sl false 3 (List.map cI a1))] = some (((false, [none]), [.lit (.bool r)])) := pcon_at (arg := arg_laws_eqIntS) (p := fun a => p_laws_eqIntS a.1 a.2) (res := res_laws_eqIntS) (a := (a0, a1)) (b := r) inj_laws_eqIntS h
noncomputable def cal_laws_eqIntSS (k : Nat) : Cal := calI (tabOf [(29, F_laws_eqIntS)]) (inlOf [])
@[simp] theorem cal_laws_eqIntSS_ap (k g : Nat) (vs : List TV) (mem : Mem) (ep : Nat) : cal_laws_eqIntSS k g vs mem ep = calI (tabOf [(29, F_laws_eqIntS)]) (inlOf []) g vs mem ep := rfl
theorem ok_laws_eqIntSS (k : Nat) (w0 : World) (h0 : True) : CalOk Try.prog w0.heap.size w0 (cal_laws_eqIntSS k) := by
  exact calI_ok (J := fun _ => True) stab_true (tabOf_ok _ (by simp [fn_laws_eqIntS])) (inlOf_ok _ (by simp [])) h0
@[simp] def lm_laws_eqIntSS : Nat → List Nat × Nat := fun b => if b = 0 then ([0, 1, 5], 0) else if b = 2000000 then ([], 8888888) else if b = 3000000 then ([], 0) else ([], 0)
theorem dr_laws_eqIntSS_6 : drawn (opsOf (nav [1, 1, 0, 1, 0, 0, 1, 0, 0, 0] (bodyOf Try.f56))) = some ([0, 1, 2, 3, 4, 5, 6, 7], [8, 9]) := by kernel_rfl
@[simp] def arg_laws_eqIntSS (a : List (List (Int)) × List (List (Int))) : List TV := [.one (.sl false 48 (List.map (cL48 false) a.1)), .one (.sl false 48 (List.map (cL48 false) a.2))]
@[simp] def res_laws_eqIntSS (r : Bool) : Sh × List V := ((false, [none]), [.lit (.bool r)])
def p_laws_eqIntSS_L0 (a0 : List (List (Int))) (a1 : List (List (Int))) (x5b0 : Int) : Option (Bool ⊕ Unit) :=
 if x5b0 < (a0.length : Int) then
  if 0 ≤ x5b0 then
   a0[x5b0.toNat]? >>= fun y21 =>
   a1[x5b0.toNat]? >>= fun y23 =>
   p_laws_eqIntS y21 y23 >>= fun y26 =>
   if y26 then
    p_laws_eqIntSS_L0 a0 a1 (IntKind.wrap .i64 (x5b0 + 1))
   else
    some (.inl false)
  else none
 else
  some (.inr ())
partial_fixpoint
@[simp] noncomputable def L_laws_eqIntSS_L0 : Code := nav [1, 1, 0, 1, 0, 0] (bodyOf Try.f56)
@[simp] def T_laws_eqIntSS_L0 (a0 : List (List (Int))) (a1 : List (List (Int))) (x5b0 : Int) (st : Nat → Nat) : St := ⟨[(0, .one (.sl false 48 (List.map (cL48 false) a0))), (1, .one (.sl false 48 (List.map (cL48 false) a1))), (5, .one (.lit (.int .i64 x5b0)))], [none], (st 0)⟩
@[simp] def U_laws_eqIntSS_L0 (a0 : List (List (Int))) (a1 : List (List (Int))) (o : Unit) (st : Nat → Nat) : St := ⟨[], [none], (st 0)⟩
abbrev Q_laws_eqIntSS_L0 (a0 : List (List (Int))) (a1 : List (List (Int))) (x5b0 : Int) (o : Bool ⊕ Unit) : Prop := ∀ st : Nat → Nat, LoopT Try.prog cal_laws_eqIntSS 1 lm_laws_eqIntSS 0 L_laws_eqIntSS_L0 (tellS Try.prog lm_laws_eqIntSS [.tmp 4]) res_laws_eqIntSS (U_laws_eqIntSS_L0 a0 a1) (T_laws_eqIntSS_L0 a0 a1 x5b0 st) o
theorem l_laws_eqIntSS_L0 {a0 : List (List (Int))} {a1 : List (List (Int))} {x5b0 : Int} {o : Bool ⊕ Unit} (h : p_laws_eqIntSS_L0 a0 a1 x5b0 = some o) : Q_laws_eqIntSS_L0 a0 a1 x5b0 o := by
  refine p_laws_eqIntSS_L0.partial_correctness a0 a1 (motive := fun x5b0 o => Q_laws_eqIntSS_L0 a0 a1 x5b0 o) ?_ x5b0 o h
  clear h o x5b0
  intro p' ih x5b0 r h st
  rcases ifc h with ⟨h19, h⟩ | ⟨h19, h⟩
  · obtain ⟨h20, h⟩ := ifg h
    obtain ⟨y21, h22, h⟩ := bd h
    obtain ⟨y23, h24, h⟩ := bd h
    obtain ⟨y26, h25, h⟩ := bd h
    have h25c := c_laws_eqIntS h25
    rcases ifb h with ⟨h27, h⟩ | ⟨h27, h⟩
    · refine LoopT.step 0 (fun k hk => ?_) (ih _ _ h (sl [((st 0) + 1)]))
      have hd_laws_eqIntSS_6 := dr_laws_eqIntSS_6
      simp only [opsOf, nav, bodyOf, Try.f56, Option.getD_some] at hd_laws_eqIntSS_6
      simp (implicitDefEqProofs := false) [-getElem?_pos, -getElem?_neg, Try.f56, h19, ex_draw2 _ _ hd_laws_eqIntSS_6, h20, h22, h24, h25c, h27]
    obtain rfl := Option.some.inj h
    refine LoopT.ret 0 (fun k hk => ?_)
    have hd_laws_eqIntSS_6 := dr_laws_eqIntSS_6
    simp only [opsOf, nav, bodyOf, Try.f56, Option.getD_some] at hd_laws_eqIntSS_6
    simp (implicitDefEqProofs := false) [-getElem?_pos, -getElem?_neg, Try.f56, h19, ex_draw2 _ _ hd_laws_eqIntSS_6, h20, h22, h24, h25c, h27]
  obtain rfl := Option.some.inj h
  exact LoopT.exit (sl [(st 0)]) 0 (fun k hk => by simp (implicitDefEqProofs := false) [-getElem?_pos, -getElem?_neg, Try.f56, h19])
def p_laws_eqIntSS (a0 : List (List (Int))) (a1 : List (List (Int))) : Option Bool :=
 if (a0.length : Int) = (a1.length : Int) then
  p_laws_eqIntSS_L0 a0 a1 0 >>= fun o29 => match o29 with
  | .inl o29 =>
   some o29
  | .inr o29 =>
   some true
 else
  some false
theorem t_laws_eqIntSS {a0 : List (List (Int))} {a1 : List (List (Int))} {r : Bool} (h : p_laws_eqIntSS a0 a1 = some r) : ∃ k, told Try.prog (cal_laws_eqIntSS k) k lm_laws_eqIntSS Try.f56 (arg_laws_eqIntSS (a0, a1)) = some (res_laws_eqIntSS r) := by
  unfold p_laws_eqIntSS at h
  rcases ifc h with ⟨h1, h⟩ | ⟨h1, h⟩
  · obtain ⟨o29, h28, h⟩ := bd h
    have qK30 := l_laws_eqIntSS_L0 h28 (sl [1])
    rcases o29 with o29 | o29
    · obtain ⟨K30, qK30⟩ := qK30
      obtain rfl := Option.some.inj h
      obtain ⟨k, hk⟩ : ∃ k, K30 ≤ k := ⟨_, Nat.le_refl _⟩
      obtain ⟨S_K30, jK30, iK30⟩ := qK30 k (by omega) k (by omega)
      simp (implicitDefEqProofs := false) [-getElem?_pos, -getElem?_neg, Try.f56, (eq_true h1)] at jK30
      refine ⟨k, ?_⟩
      simp (implicitDefEqProofs := false) [-getElem?_pos, -getElem?_neg, Try.f56, (eq_true h1), iK30, jK30]
    obtain ⟨s31, K30, qK30⟩ := qK30
    obtain rfl := Option.some.inj h
    obtain ⟨k, hk⟩ : ∃ k, K30 ≤ k := ⟨_, Nat.le_refl _⟩
    have jK30 := qK30 k (by omega) k (by omega)
    simp (implicitDefEqProofs := false) [-getElem?_pos, -getElem?_neg, Try.f56, (eq_true h1)] at jK30
    refine ⟨k, ?_⟩
    simp (implicitDefEqProofs := false) [-getElem?_pos, -getElem?_neg, Try.f56, (eq_true h1), jK30]
  obtain rfl := Option.some.inj h
  obtain ⟨k, hk⟩ : ∃ k, 0 ≤ k := ⟨_, Nat.le_refl _⟩
  refine ⟨k, ?_⟩
  simp (implicitDefEqProofs := false) [-getElem?_pos, -getElem?_neg, Try.f56, h1]
theorem inj_laws_eqIntSS : ∀ a b, arg_laws_eqIntSS a = arg_laws_eqIntSS b → a = b := by
  rintro ⟨x0, x1⟩ ⟨y0, y1⟩ h; simp [arg_laws_eqIntSS] at h; simp [Prod.ext_iff, h]
noncomputable def F_laws_eqIntSS : Con := nilfix [[some 48], [some 48]] (pcon arg_laws_eqIntSS (fun a => p_laws_eqIntSS a.1 a.2) res_laws_eqIntSS)
theorem fn_laws_eqIntSS : Fn Try.prog 56 F_laws_eqIntSS := (Fn.pure cal_laws_eqIntSS (fun k w0 h0 => ok_laws_eqIntSS k w0 h0) mixed Try.func56 rfl rfl (by kernel_rfl) 2 (by decide) (fun _ => rfl) lm_laws_eqIntSS (fun a b h => t_laws_eqIntSS h)).nilfix _
theorem c_laws_eqIntSS {a0 : List (List (Int))} {a1 : List (List (Int))} {r : Bool} (h : p_laws_eqIntSS a0 a1 = some r) : F_laws_eqIntSS [.one (.sl false 48 (List.map (cL48 false) a0)), .one (.sl false 48 (List.map (cL48 false) a1))] = some (((false, [none]), [.lit (.bool r)])) := pcon_at (arg := arg_laws_eqIntSS) (p := fun a => p_laws_eqIntSS a.1 a.2) (res := res_laws_eqIntSS) (a := (a0, a1)) (b := r) inj_laws_eqIntSS h
noncomputable def cal_laws_eqIntSSS (k : Nat) : Cal := calI (tabOf [(56, F_laws_eqIntSS)]) (inlOf [])
@[simp] theorem cal_laws_eqIntSSS_ap (k g : Nat) (vs : List TV) (mem : Mem) (ep : Nat) : cal_laws_eqIntSSS k g vs mem ep = calI (tabOf [(56, F_laws_eqIntSS)]) (inlOf []) g vs mem ep := rfl
theorem ok_laws_eqIntSSS (k : Nat) (w0 : World) (h0 : True) : CalOk Try.prog w0.heap.size w0 (cal_laws_eqIntSSS k) := by
  exact calI_ok (J := fun _ => True) stab_true (tabOf_ok _ (by simp [fn_laws_eqIntSS])) (inlOf_ok _ (by simp [])) h0
@[simp] def lm_laws_eqIntSSS : Nat → List Nat × Nat := fun b => if b = 0 then ([0, 1, 5], 0) else if b = 2000000 then ([], 8888888) else if b = 3000000 then ([], 0) else ([], 0)
theorem dr_laws_eqIntSSS_6 : drawn (opsOf (nav [1, 1, 0, 1, 0, 0, 1, 0, 0, 0] (bodyOf Try.f41))) = some ([0, 1, 2, 3, 4, 5, 6, 7], [8, 9]) := by kernel_rfl
@[simp] def arg_laws_eqIntSSS (a : List (List (List (Int))) × List (List (List (Int)))) : List TV := [.one (.sl false 60 (List.map (cL60 false) a.1)), .one (.sl false 60 (List.map (cL60 false) a.2))]
@[simp] def res_laws_eqIntSSS (r : Bool) : Sh × List V := ((false, [none]), [.lit (.bool r)])
def p_laws_eqIntSSS_L0 (a0 : List (List (List (Int)))) (a1 : List (List (List (Int)))) (x5b0 : Int) : Option (Bool ⊕ Unit) :=
 if x5b0 < (a0.length : Int) then
  if 0 ≤ x5b0 then
   a0[x5b0.toNat]? >>= fun y21 =>
   a1[x5b0.toNat]? >>= fun y23 =>
   p_laws_eqIntSS y21 y23 >>= fun y26 =>
   if y26 then
    p_laws_eqIntSSS_L0 a0 a1 (IntKind.wrap .i64 (x5b0 + 1))
   else
    some (.inl false)
  else none
 else
  some (.inr ())
partial_fixpoint
@[simp] noncomputable def L_laws_eqIntSSS_L0 : Code := nav [1, 1, 0, 1, 0, 0] (bodyOf Try.f41)
@[simp] def T_laws_eqIntSSS_L0 (a0 : List (List (List (Int)))) (a1 : List (List (List (Int)))) (x5b0 : Int) (st : Nat → Nat) : St := ⟨[(0, .one (.sl false 60 (List.map (cL60 false) a0))), (1, .one (.sl false 60 (List.map (cL60 false) a1))), (5, .one (.lit (.int .i64 x5b0)))], [none], (st 0)⟩
@[simp] def U_laws_eqIntSSS_L0 (a0 : List (List (List (Int)))) (a1 : List (List (List (Int)))) (o : Unit) (st : Nat → Nat) : St := ⟨[], [none], (st 0)⟩
abbrev Q_laws_eqIntSSS_L0 (a0 : List (List (List (Int)))) (a1 : List (List (List (Int)))) (x5b0 : Int) (o : Bool ⊕ Unit) : Prop := ∀ st : Nat → Nat, LoopT Try.prog cal_laws_eqIntSSS 1 lm_laws_eqIntSSS 0 L_laws_eqIntSSS_L0 (tellS Try.prog lm_laws_eqIntSSS [.tmp 4]) res_laws_eqIntSSS (U_laws_eqIntSSS_L0 a0 a1) (T_laws_eqIntSSS_L0 a0 a1 x5b0 st) o
theorem l_laws_eqIntSSS_L0 {a0 : List (List (List (Int)))} {a1 : List (List (List (Int)))} {x5b0 : Int} {o : Bool ⊕ Unit} (h : p_laws_eqIntSSS_L0 a0 a1 x5b0 = some o) : Q_laws_eqIntSSS_L0 a0 a1 x5b0 o := by
  refine p_laws_eqIntSSS_L0.partial_correctness a0 a1 (motive := fun x5b0 o => Q_laws_eqIntSSS_L0 a0 a1 x5b0 o) ?_ x5b0 o h
  clear h o x5b0
  intro p' ih x5b0 r h st
  rcases ifc h with ⟨h19, h⟩ | ⟨h19, h⟩
  · obtain ⟨h20, h⟩ := ifg h
    obtain ⟨y21, h22, h⟩ := bd h
    obtain ⟨y23, h24, h⟩ := bd h
    obtain ⟨y26, h25, h⟩ := bd h
    have h25c := c_laws_eqIntSS h25
    rcases ifb h with ⟨h27, h⟩ | ⟨h27, h⟩
    · refine LoopT.step 0 (fun k hk => ?_) (ih _ _ h (sl [((st 0) + 1)]))
      have hd_laws_eqIntSSS_6 := dr_laws_eqIntSSS_6
      simp only [opsOf, nav, bodyOf, Try.f41, Option.getD_some] at hd_laws_eqIntSSS_6
      simp (implicitDefEqProofs := false) [-getElem?_pos, -getElem?_neg, Try.f41, h19, ex_draw2 _ _ hd_laws_eqIntSSS_6, h20, h22, h24, h25c, h27]
    obtain rfl := Option.some.inj h
    refine LoopT.ret 0 (fun k hk => ?_)
    have hd_laws_eqIntSSS_6 := dr_laws_eqIntSSS_6
    simp only [opsOf, nav, bodyOf, Try.f41, Option.getD_some] at hd_laws_eqIntSSS_6
    simp (implicitDefEqProofs := false) [-getElem?_pos, -getElem?_neg, Try.f41, h19, ex_draw2 _ _ hd_laws_eqIntSSS_6, h20, h22, h24, h25c, h27]
  obtain rfl := Option.some.inj h
  exact LoopT.exit (sl [(st 0)]) 0 (fun k hk => by simp (implicitDefEqProofs := false) [-getElem?_pos, -getElem?_neg, Try.f41, h19])
def p_laws_eqIntSSS (a0 : List (List (List (Int)))) (a1 : List (List (List (Int)))) : Option Bool :=
 if (a0.length : Int) = (a1.length : Int) then
  p_laws_eqIntSSS_L0 a0 a1 0 >>= fun o29 => match o29 with
  | .inl o29 =>
   some o29
  | .inr o29 =>
   some true
 else
  some false
theorem t_laws_eqIntSSS {a0 : List (List (List (Int)))} {a1 : List (List (List (Int)))} {r : Bool} (h : p_laws_eqIntSSS a0 a1 = some r) : ∃ k, told Try.prog (cal_laws_eqIntSSS k) k lm_laws_eqIntSSS Try.f41 (arg_laws_eqIntSSS (a0, a1)) = some (res_laws_eqIntSSS r) := by
  unfold p_laws_eqIntSSS at h
  rcases ifc h with ⟨h1, h⟩ | ⟨h1, h⟩
  · obtain ⟨o29, h28, h⟩ := bd h
    have qK30 := l_laws_eqIntSSS_L0 h28 (sl [1])
    rcases o29 with o29 | o29
    · obtain ⟨K30, qK30⟩ := qK30
      obtain rfl := Option.some.inj h
      obtain ⟨k, hk⟩ : ∃ k, K30 ≤ k := ⟨_, Nat.le_refl _⟩
      obtain ⟨S_K30, jK30, iK30⟩ := qK30 k (by omega) k (by omega)
      simp (implicitDefEqProofs := false) [-getElem?_pos, -getElem?_neg, Try.f41, (eq_true h1)] at jK30
      refine ⟨k, ?_⟩
      simp (implicitDefEqProofs := false) [-getElem?_pos, -getElem?_neg, Try.f41, (eq_true h1), iK30, jK30]
    obtain ⟨s31, K30, qK30⟩ := qK30
    obtain rfl := Option.some.inj h
    obtain ⟨k, hk⟩ : ∃ k, K30 ≤ k := ⟨_, Nat.le_refl _⟩
    have jK30 := qK30 k (by omega) k (by omega)
    simp (implicitDefEqProofs := false) [-getElem?_pos, -getElem?_neg, Try.f41, (eq_true h1)] at jK30
    refine ⟨k, ?_⟩
    simp (implicitDefEqProofs := false) [-getElem?_pos, -getElem?_neg, Try.f41, (eq_true h1), jK30]
  obtain rfl := Option.some.inj h
  obtain ⟨k, hk⟩ : ∃ k, 0 ≤ k := ⟨_, Nat.le_refl _⟩
  refine ⟨k, ?_⟩
  simp (implicitDefEqProofs := false) [-getElem?_pos, -getElem?_neg, Try.f41, h1]
theorem inj_laws_eqIntSSS : ∀ a b, arg_laws_eqIntSSS a = arg_laws_eqIntSSS b → a = b := by
  rintro ⟨x0, x1⟩ ⟨y0, y1⟩ h; simp [arg_laws_eqIntSSS] at h; simp [Prod.ext_iff, h]
noncomputable def F_laws_eqIntSSS : Con := nilfix [[some 60], [some 60]] (pcon arg_laws_eqIntSSS (fun a => p_laws_eqIntSSS a.1 a.2) res_laws_eqIntSSS)
theorem fn_laws_eqIntSSS : Fn Try.prog 41 F_laws_eqIntSSS := (Fn.pure cal_laws_eqIntSSS (fun k w0 h0 => ok_laws_eqIntSSS k w0 h0) mixed Try.func41 rfl rfl (by kernel_rfl) 2 (by decide) (fun _ => rfl) lm_laws_eqIntSSS (fun a b h => t_laws_eqIntSSS h)).nilfix _
theorem c_laws_eqIntSSS {a0 : List (List (List (Int)))} {a1 : List (List (List (Int)))} {r : Bool} (h : p_laws_eqIntSSS a0 a1 = some r) : F_laws_eqIntSSS [.one (.sl false 60 (List.map (cL60 false) a0)), .one (.sl false 60 (List.map (cL60 false) a1))] = some (((false, [none]), [.lit (.bool r)])) := pcon_at (arg := arg_laws_eqIntSSS) (p := fun a => p_laws_eqIntSSS a.1 a.2) (res := res_laws_eqIntSSS) (a := (a0, a1)) (b := r) inj_laws_eqIntSSS h
noncomputable def cal_laws_eqGram (k : Nat) : Cal := calI (tabOf [(41, F_laws_eqIntSSS)]) (inlOf [])
@[simp] theorem cal_laws_eqGram_ap (k g : Nat) (vs : List TV) (mem : Mem) (ep : Nat) : cal_laws_eqGram k g vs mem ep = calI (tabOf [(41, F_laws_eqIntSSS)]) (inlOf []) g vs mem ep := rfl
theorem ok_laws_eqGram (k : Nat) (w0 : World) (h0 : True) : CalOk Try.prog w0.heap.size w0 (cal_laws_eqGram k) := by
  exact calI_ok (J := fun _ => True) stab_true (tabOf_ok _ (by simp [fn_laws_eqIntSSS])) (inlOf_ok _ (by simp [])) h0
@[simp] def lm_laws_eqGram : Nat → List Nat × Nat := fun b => ([], 0)
@[simp] def arg_laws_eqGram (a : List (List (List (Int))) × List (List (List (Int)))) : List TV := [.agg [.sl false 60 (List.map (cL60 false) a.1)], .agg [.sl false 60 (List.map (cL60 false) a.2)]]
@[simp] def res_laws_eqGram (r : Bool) : Sh × List V := ((false, [none]), [.lit (.bool r)])
def p_laws_eqGram (a0 : List (List (List (Int)))) (a1 : List (List (List (Int)))) : Option Bool :=
 p_laws_eqIntSSS a0 a1 >>= fun y2 =>
 if y2 then
  some true
 else
  some false
theorem t_laws_eqGram {a0 : List (List (List (Int)))} {a1 : List (List (List (Int)))} {r : Bool} (h : p_laws_eqGram a0 a1 = some r) : ∃ k, told Try.prog (cal_laws_eqGram k) k lm_laws_eqGram Try.f22 (arg_laws_eqGram (a0, a1)) = some (res_laws_eqGram r) := by
  unfold p_laws_eqGram at h
  obtain ⟨y2, h1, h⟩ := bd h
  have h1c := c_laws_eqIntSSS h1
  rcases ifb h with ⟨h3, h⟩ | ⟨h3, h⟩
  · obtain rfl := Option.some.inj h
    obtain ⟨k, hk⟩ : ∃ k, 0 ≤ k := ⟨_, Nat.le_refl _⟩
    refine ⟨k, ?_⟩
    simp (implicitDefEqProofs := false) [-getElem?_pos, -getElem?_neg, Try.f22, h1c, h3]
  obtain rfl := Option.some.inj h
  obtain ⟨k, hk⟩ : ∃ k, 0 ≤ k := ⟨_, Nat.le_refl _⟩
  refine ⟨k, ?_⟩
  simp (implicitDefEqProofs := false) [-getElem?_pos, -getElem?_neg, Try.f22, h1c, h3]
theorem inj_laws_eqGram : ∀ a b, arg_laws_eqGram a = arg_laws_eqGram b → a = b := by
  rintro ⟨x0, x1⟩ ⟨y0, y1⟩ h; simp [arg_laws_eqGram] at h; simp [Prod.ext_iff, h]
noncomputable def F_laws_eqGram : Con := nilfix [[some 60], [some 60]] (pcon arg_laws_eqGram (fun a => p_laws_eqGram a.1 a.2) res_laws_eqGram)
theorem fn_laws_eqGram : Fn Try.prog 22 F_laws_eqGram := (Fn.pure cal_laws_eqGram (fun k w0 h0 => ok_laws_eqGram k w0 h0) mixed Try.func22 rfl rfl (by kernel_rfl) 2 (by decide) (fun _ => rfl) lm_laws_eqGram (fun a b h => t_laws_eqGram h)).nilfix _
theorem c_laws_eqGram {a0 : List (List (List (Int)))} {a1 : List (List (List (Int)))} {r : Bool} (h : p_laws_eqGram a0 a1 = some r) : F_laws_eqGram [.agg [.sl false 60 (List.map (cL60 false) a0)], .agg [.sl false 60 (List.map (cL60 false) a1)]] = some (((false, [none]), [.lit (.bool r)])) := pcon_at (arg := arg_laws_eqGram) (p := fun a => p_laws_eqGram a.1 a.2) (res := res_laws_eqGram) (a := (a0, a1)) (b := r) inj_laws_eqGram h
def cal_laws_markIntS (k : Nat) : Cal := calI (tabOf []) (inlOf [])
@[simp] theorem cal_laws_markIntS_ap (k g : Nat) (vs : List TV) (mem : Mem) (ep : Nat) : cal_laws_markIntS k g vs mem ep = calI (tabOf []) (inlOf []) g vs mem ep := rfl
theorem ok_laws_markIntS (k : Nat) (w0 : World) (h0 : True) : CalOk Try.prog w0.heap.size w0 (cal_laws_markIntS k) := by
  exact calI_ok (J := fun _ => True) stab_true (tabOf_ok _ (by simp [])) (inlOf_ok _ (by simp [])) h0
@[simp] def lm_laws_markIntS : Nat → List Nat × Nat := fun b => if b = 0 then ([0, 1, 5], 0) else if b = 2000000 then ([], 8888888) else if b = 3000000 then ([1], 0) else ([], 0)
@[simp] def arg_laws_markIntS (a : List (Int) × Int) : List TV := [.one (.lit (.int .i64 a.2))]
@[simp] def rows_laws_markIntS (a : List (Int) × Int) : List (List V) := List.map cI a.1
@[simp] def res_laws_markIntS (r : Int × List (Int)) : Value × List (List V) := (.int .i64 r.1, List.map cI r.2)
def p_laws_markIntS_L0  (x1b0 : Int) (x5b0 : Int) (l1b0 : List (Int)) : Option (Int × List (Int)) :=
 if x5b0 < (l1b0.length : Int) then
  if 0 ≤ x5b0 then
   l1b0[x5b0.toNat]? >>= fun y20 =>
   some (List.set l1b0 x5b0.toNat x1b0) >>= fun l22 =>
   p_laws_markIntS_L0 (IntKind.wrap .i64 (x1b0 + 1)) (IntKind.wrap .i64 (x5b0 + 1)) l22
  else none
 else
  some (x1b0, l1b0)
partial_fixpoint
@[simp] noncomputable def L_laws_markIntS_L0 : Code := nav [1, 0, 1, 0, 0] (bodyOf Try.f30)
@[simp] def T_laws_markIntS_L0  (x1b0 : Int) (x5b0 : Int) (l1b0 : List (Int)) (st : Nat → Nat) : St := ⟨[(0, .one (.ow 1 1)), (1, .one (.lit (.int .i64 x1b0))), (5, .one (.lit (.int .i64 x5b0)))], [none, some (.rows 1 1 3 (List.map cI l1b0))], (st 0)⟩
@[simp] def U_laws_markIntS_L0  (o : Int × List (Int)) (st : Nat → Nat) : St := ⟨[(1, .one (.lit (.int .i64 o.1)))], [none, some (.rows 1 1 3 (List.map cI o.2))], (st 0)⟩
abbrev Q_laws_markIntS_L0  (x1b0 : Int) (x5b0 : Int) (l1b0 : List (Int)) (o : Int × List (Int)) : Prop := ∀ st : Nat → Nat, LoopG Try.prog cal_laws_markIntS 2 lm_laws_markIntS 0 L_laws_markIntS_L0 (U_laws_markIntS_L0 ) (T_laws_markIntS_L0  x1b0 x5b0 l1b0 st) o
theorem l_laws_markIntS_L0 {x1b0 : Int} {x5b0 : Int} {l1b0 : List (Int)} {o : Int × List (Int)} (h : p_laws_markIntS_L0  x1b0 x5b0 l1b0 = some o) : Q_laws_markIntS_L0  x1b0 x5b0 l1b0 o := by
  refine p_laws_markIntS_L0.partial_correctness  (motive := fun x1b0 x5b0 l1b0 o => Q_laws_markIntS_L0  x1b0 x5b0 l1b0 o) ?_ x1b0 x5b0 l1b0 o h
  clear h o x1b0 x5b0 l1b0
  intro p' ih x1b0 x5b0 l1b0 r h st
  rcases ifc h with ⟨h18, h⟩ | ⟨h18, h⟩
  · obtain ⟨h19, h⟩ := ifg h
    obtain ⟨y20, h21, h⟩ := bd h
    have h21b := (List.getElem?_eq_some_iff.1 h21).1
    obtain ⟨l22, h23, h⟩ := bd h
    have h23r : (List.map cI l1b0).set x5b0.toNat [.lit (.int .i64 x1b0)] = List.map cI l22 := by rw [← Option.some.inj h23]; simp
    exact LoopG.step 0 (fun k hk => by simp (implicitDefEqProofs := false) [-getElem?_pos, -getElem?_neg, Try.f30, h18, h19, h21, h21b, h23r]) (ih _ _ _ _ h (sl [(st 0)]))
  obtain rfl := Option.some.inj h
  exact LoopG.exit (sl [(st 0)]) 0 (fun k hk => by simp (implicitDefEqProofs := false) [-getElem?_pos, -getElem?_neg, Try.f30, h18])
def p_laws_markIntS (a0 : List (Int)) (a1 : Int) : Option (Int × List (Int)) :=
 p_laws_markIntS_L0 a1 0 a0 >>= fun o25 =>
 some (o25.1, o25.2)
theorem t_laws_markIntS {a0 : List (Int)} {a1 : Int} {r : Int × List (Int)} (h : p_laws_markIntS a0 a1 = some r) : ∃ k, toldT Try.prog (cal_laws_markIntS k) k lm_laws_markIntS Try.f30 3 (rows_laws_markIntS (a0, a1)) (arg_laws_markIntS (a0, a1)) = some (res_laws_markIntS r) := by
  unfold p_laws_markIntS at h
  obtain ⟨o25, h24, h⟩ := bd h
  have qK26 := l_laws_markIntS_L0 h24 (sl [2])
  obtain ⟨s27, K26, qK26⟩ := qK26
  obtain rfl := Option.some.inj h
  obtain ⟨k, hk⟩ : ∃ k, K26 ≤ k := ⟨_, Nat.le_refl _⟩
  have jK26 := qK26 k (by omega) k (by omega)
  simp (implicitDefEqProofs := false) [-getElem?_pos, -getElem?_neg, Try.f30] at jK26
  refine ⟨k, ?_⟩
  simp (implicitDefEqProofs := false) [-getElem?_pos, -getElem?_neg, Try.f30, jK26]
theorem inj_laws_markIntS : ∀ a b, rows_laws_markIntS a = rows_laws_markIntS b → arg_laws_markIntS a = arg_laws_markIntS b → a = b := by
  rintro ⟨x0, x1⟩ ⟨y0, y1⟩ h1 h2; simp [arg_laws_markIntS] at h2; simp [rows_laws_markIntS] at h1; simp [Prod.ext_iff, h1, h2]
noncomputable def F_laws_markIntS : TCon := ptcon rows_laws_markIntS arg_laws_markIntS (fun a => p_laws_markIntS a.1 a.2) (fun r => (res_laws_markIntS r).1) (fun r => (res_laws_markIntS r).2)
theorem fn_laws_markIntS : TFn Try.prog 30 3 F_laws_markIntS := TFn.pure cal_laws_markIntS (fun k w0 h0 => ok_laws_markIntS k w0 h0) mixed Try.func30 rfl rfl (by kernel_rfl) 2 (by decide) (fun _ => rfl) lm_laws_markIntS (fun a b h => t_laws_markIntS h)
theorem c_laws_markIntS {a0 : List (Int)} {a1 : Int} {r : Int × List (Int)} (h : p_laws_markIntS a0 a1 = some r) : F_laws_markIntS (List.map cI a0) [.one (.lit (.int .i64 a1))] = some (.int .i64 r.1, List.map cI r.2) := ptcon_at (rows := rows_laws_markIntS) (arg := arg_laws_markIntS) (p := fun a => p_laws_markIntS a.1 a.2) (val := fun r => (res_laws_markIntS r).1) (rows' := fun r => (res_laws_markIntS r).2) (a := (a0, a1)) (b := r) inj_laws_markIntS h
noncomputable def cal_laws_markIntSS (k : Nat) : Cal := calI (tabOf []) (inlOf [(30, tI 3 F_laws_markIntS)])
@[simp] theorem cal_laws_markIntSS_ap (k g : Nat) (vs : List TV) (mem : Mem) (ep : Nat) : cal_laws_markIntSS k g vs mem ep = calI (tabOf []) (inlOf [(30, tI 3 F_laws_markIntS)]) g vs mem ep := rfl
theorem ok_laws_markIntSS (k : Nat) (w0 : World) (h0 : True) : CalOk Try.prog w0.heap.size w0 (cal_laws_markIntSS k) := by
  exact calI_ok (J := fun _ => True) stab_true (tabOf_ok _ (by simp [])) (inlOf_ok _ (by simp [tI_ok fn_laws_markIntS])) h0
@[simp] def lm_laws_markIntSS : Nat → List Nat × Nat := fun b => if b = 0 then ([0, 1, 5], 0) else if b = 2000000 then ([], 8888888) else if b = 3000000 then ([1], 0) else ([], 0)
@[simp] def arg_laws_markIntSS (a : List (List (Int)) × Int) : List TV := [.one (.lit (.int .i64 a.2))]
@[simp] def rows_laws_markIntSS (a : List (List (Int)) × Int) : List (List V) := List.map (cL48 true) a.1
@[simp] def res_laws_markIntSS (r : Int × List (List (Int))) : Value × List (List V) := (.int .i64 r.1, List.map (cL48 true) r.2)
def p_laws_markIntSS_L0  (x1b0 : Int) (x5b0 : Int) (l1b0 : List (List (Int))) : Option (Int × List (List (Int))) :=
 if x5b0 < (l1b0.length : Int) then
  if 0 ≤ x5b0 then
   l1b0[x5b0.toNat]? >>= fun y29 =>
   p_laws_markIntS y29 x1b0 >>= fun y33 =>
   some (List.set l1b0 x5b0.toNat y33.2) >>= fun l34 =>
   p_laws_markIntSS_L0 y33.1 (IntKind.wrap .i64 (x5b0 + 1)) l34
  else none
 else
  some (x1b0, l1b0)
partial_fixpoint
@[simp] noncomputable def L_laws_markIntSS_L0 : Code := nav [1, 0, 1, 0, 0] (bodyOf Try.f58)
@[simp] def T_laws_markIntSS_L0  (x1b0 : Int) (x5b0 : Int) (l1b0 : List (List (Int))) (st : Nat → Nat) : St := ⟨[(0, .one (.ow 1 1)), (1, .one (.lit (.int .i64 x1b0))), (5, .one (.lit (.int .i64 x5b0)))], [none, some (.rows 1 (st 1) 48 (List.map (cL48 true) l1b0))], (st 0)⟩
@[simp] def U_laws_markIntSS_L0  (o : Int × List (List (Int))) (st : Nat → Nat) : St := ⟨[(1, .one (.lit (.int .i64 o.1)))], [none, some (.rows 1 (st 1) 48 (List.map (cL48 true) o.2))], (st 0)⟩
abbrev Q_laws_markIntSS_L0  (x1b0 : Int) (x5b0 : Int) (l1b0 : List (List (Int))) (o : Int × List (List (Int))) : Prop := ∀ st : Nat → Nat, LoopG Try.prog cal_laws_markIntSS 2 lm_laws_markIntSS 0 L_laws_markIntSS_L0 (U_laws_markIntSS_L0 ) (T_laws_markIntSS_L0  x1b0 x5b0 l1b0 st) o
theorem l_laws_markIntSS_L0 {x1b0 : Int} {x5b0 : Int} {l1b0 : List (List (Int))} {o : Int × List (List (Int))} (h : p_laws_markIntSS_L0  x1b0 x5b0 l1b0 = some o) : Q_laws_markIntSS_L0  x1b0 x5b0 l1b0 o := by
  refine p_laws_markIntSS_L0.partial_correctness  (motive := fun x1b0 x5b0 l1b0 o => Q_laws_markIntSS_L0  x1b0 x5b0 l1b0 o) ?_ x1b0 x5b0 l1b0 o h
  clear h o x1b0 x5b0 l1b0
  intro p' ih x1b0 x5b0 l1b0 r h st
  rcases ifc h with ⟨h27, h⟩ | ⟨h27, h⟩
  · obtain ⟨h28, h⟩ := ifg h
    obtain ⟨y29, h30, h⟩ := bd h
    have h30b := (List.getElem?_eq_some_iff.1 h30).1
    obtain ⟨y33, h32, h⟩ := bd h
    have h32c := c_laws_markIntS h32
    obtain ⟨l34, h35, h⟩ := bd h
    have h35r : (List.map (cL48 true) l1b0).set x5b0.toNat [.sl true 3 (List.map cI y33.2)] = List.map (cL48 true) l34 := by rw [← Option.some.inj h35]; simp
    exact LoopG.step 0 (fun k hk => by simp (implicitDefEqProofs := false) [-getElem?_pos, -getElem?_neg, Try.f58, h27, h28, h30, h30b, h32c, h35r]) (ih _ _ _ _ h (sl [((st 0) + 3), (st 0)]))
  obtain rfl := Option.some.inj h
  exact LoopG.exit (sl [(st 0), (st 1)]) 0 (fun k hk => by simp (implicitDefEqProofs := false) [-getElem?_pos, -getElem?_neg, Try.f58, h27])
def p_laws_markIntSS (a0 : List (List (Int))) (a1 : Int) : Option (Int × List (List (Int))) :=
 p_laws_markIntSS_L0 a1 0 a0 >>= fun o37 =>
 some (o37.1, o37.2)
theorem t_laws_markIntSS {a0 : List (List (Int))} {a1 : Int} {r : Int × List (List (Int))} (h : p_laws_markIntSS a0 a1 = some r) : ∃ k, toldT Try.prog (cal_laws_markIntSS k) k lm_laws_markIntSS Try.f58 48 (rows_laws_markIntSS (a0, a1)) (arg_laws_markIntSS (a0, a1)) = some (res_laws_markIntSS r) := by
  unfold p_laws_markIntSS at h
  obtain ⟨o37, h36, h⟩ := bd h
  have qK38 := l_laws_markIntSS_L0 h36 (sl [2, 1])
  obtain ⟨s39, K38, qK38⟩ := qK38
  obtain rfl := Option.some.inj h
  obtain ⟨k, hk⟩ : ∃ k, K38 ≤ k := ⟨_, Nat.le_refl _⟩
  have jK38 := qK38 k (by omega) k (by omega)
  simp (implicitDefEqProofs := false) [-getElem?_pos, -getElem?_neg, Try.f58] at jK38
  refine ⟨k, ?_⟩
  simp (implicitDefEqProofs := false) [-getElem?_pos, -getElem?_neg, Try.f58, jK38]
theorem inj_laws_markIntSS : ∀ a b, rows_laws_markIntSS a = rows_laws_markIntSS b → arg_laws_markIntSS a = arg_laws_markIntSS b → a = b := by
  rintro ⟨x0, x1⟩ ⟨y0, y1⟩ h1 h2; simp [arg_laws_markIntSS] at h2; simp [rows_laws_markIntSS] at h1; simp [Prod.ext_iff, h1, h2]
noncomputable def F_laws_markIntSS : TCon := ptcon rows_laws_markIntSS arg_laws_markIntSS (fun a => p_laws_markIntSS a.1 a.2) (fun r => (res_laws_markIntSS r).1) (fun r => (res_laws_markIntSS r).2)
theorem fn_laws_markIntSS : TFn Try.prog 58 48 F_laws_markIntSS := TFn.pure cal_laws_markIntSS (fun k w0 h0 => ok_laws_markIntSS k w0 h0) mixed Try.func58 rfl rfl (by kernel_rfl) 2 (by decide) (fun _ => rfl) lm_laws_markIntSS (fun a b h => t_laws_markIntSS h)
theorem c_laws_markIntSS {a0 : List (List (Int))} {a1 : Int} {r : Int × List (List (Int))} (h : p_laws_markIntSS a0 a1 = some r) : F_laws_markIntSS (List.map (cL48 true) a0) [.one (.lit (.int .i64 a1))] = some (.int .i64 r.1, List.map (cL48 true) r.2) := ptcon_at (rows := rows_laws_markIntSS) (arg := arg_laws_markIntSS) (p := fun a => p_laws_markIntSS a.1 a.2) (val := fun r => (res_laws_markIntSS r).1) (rows' := fun r => (res_laws_markIntSS r).2) (a := (a0, a1)) (b := r) inj_laws_markIntSS h
noncomputable def cal_laws_markIntSSS (k : Nat) : Cal := calI (tabOf []) (inlOf [(58, tI 48 F_laws_markIntSS)])
@[simp] theorem cal_laws_markIntSSS_ap (k g : Nat) (vs : List TV) (mem : Mem) (ep : Nat) : cal_laws_markIntSSS k g vs mem ep = calI (tabOf []) (inlOf [(58, tI 48 F_laws_markIntSS)]) g vs mem ep := rfl
theorem ok_laws_markIntSSS (k : Nat) (w0 : World) (h0 : True) : CalOk Try.prog w0.heap.size w0 (cal_laws_markIntSSS k) := by
  exact calI_ok (J := fun _ => True) stab_true (tabOf_ok _ (by simp [])) (inlOf_ok _ (by simp [tI_ok fn_laws_markIntSS])) h0
@[simp] def lm_laws_markIntSSS : Nat → List Nat × Nat := fun b => if b = 0 then ([0, 1, 5], 0) else if b = 2000000 then ([], 8888888) else if b = 3000000 then ([1], 0) else ([], 0)
@[simp] def arg_laws_markIntSSS (a : List (List (List (Int))) × Int) : List TV := [.one (.lit (.int .i64 a.2))]
@[simp] def rows_laws_markIntSSS (a : List (List (List (Int))) × Int) : List (List V) := List.map (cL60 true) a.1
@[simp] def res_laws_markIntSSS (r : Int × List (List (List (Int)))) : Value × List (List V) := (.int .i64 r.1, List.map (cL60 true) r.2)
def p_laws_markIntSSS_L0  (x1b0 : Int) (x5b0 : Int) (l1b0 : List (List (List (Int)))) : Option (Int × List (List (List (Int)))) :=
 if x5b0 < (l1b0.length : Int) then
  if 0 ≤ x5b0 then
   l1b0[x5b0.toNat]? >>= fun y29 =>
   p_laws_markIntSS y29 x1b0 >>= fun y33 =>
   some (List.set l1b0 x5b0.toNat y33.2) >>= fun l34 =>
   p_laws_markIntSSS_L0 y33.1 (IntKind.wrap .i64 (x5b0 + 1)) l34
  else none
 else
  some (x1b0, l1b0)
partial_fixpoint
@[simp] noncomputable def L_laws_markIntSSS_L0 : Code := nav [1, 0, 1, 0, 0] (bodyOf Try.f47)
@[simp] def T_laws_markIntSSS_L0  (x1b0 : Int) (x5b0 : Int) (l1b0 : List (List (List (Int)))) (st : Nat → Nat) : St := ⟨[(0, .one (.ow 1 1)), (1, .one (.lit (.int .i64 x1b0))), (5, .one (.lit (.int .i64 x5b0)))], [none, some (.rows 1 (st 1) 60 (List.map (cL60 true) l1b0))], (st 0)⟩
@[simp] def U_laws_markIntSSS_L0  (o : Int × List (List (List (Int)))) (st : Nat → Nat) : St := ⟨[(1, .one (.lit (.int .i64 o.1)))], [none, some (.rows 1 (st 1) 60 (List.map (cL60 true) o.2))], (st 0)⟩
abbrev Q_laws_markIntSSS_L0  (x1b0 : Int) (x5b0 : Int) (l1b0 : List (List (List (Int)))) (o : Int × List (List (List (Int)))) : Prop := ∀ st : Nat → Nat, LoopG Try.prog cal_laws_markIntSSS 2 lm_laws_markIntSSS 0 L_laws_markIntSSS_L0 (U_laws_markIntSSS_L0 ) (T_laws_markIntSSS_L0  x1b0 x5b0 l1b0 st) o
theorem l_laws_markIntSSS_L0 {x1b0 : Int} {x5b0 : Int} {l1b0 : List (List (List (Int)))} {o : Int × List (List (List (Int)))} (h : p_laws_markIntSSS_L0  x1b0 x5b0 l1b0 = some o) : Q_laws_markIntSSS_L0  x1b0 x5b0 l1b0 o := by
  refine p_laws_markIntSSS_L0.partial_correctness  (motive := fun x1b0 x5b0 l1b0 o => Q_laws_markIntSSS_L0  x1b0 x5b0 l1b0 o) ?_ x1b0 x5b0 l1b0 o h
  clear h o x1b0 x5b0 l1b0
  intro p' ih x1b0 x5b0 l1b0 r h st
  rcases ifc h with ⟨h27, h⟩ | ⟨h27, h⟩
  · obtain ⟨h28, h⟩ := ifg h
    obtain ⟨y29, h30, h⟩ := bd h
    have h30b := (List.getElem?_eq_some_iff.1 h30).1
    obtain ⟨y33, h32, h⟩ := bd h
    have h32c := c_laws_markIntSS h32
    obtain ⟨l34, h35, h⟩ := bd h
    have h35r : (List.map (cL60 true) l1b0).set x5b0.toNat [.sl true 48 (List.map (cL48 true) y33.2)] = List.map (cL60 true) l34 := by rw [← Option.some.inj h35]; simp
    exact LoopG.step 0 (fun k hk => by simp (implicitDefEqProofs := false) [-getElem?_pos, -getElem?_neg, Try.f47, h27, h28, h30, h30b, h32c, h35r]) (ih _ _ _ _ h (sl [((st 0) + 3), (st 0)]))
  obtain rfl := Option.some.inj h
  exact LoopG.exit (sl [(st 0), (st 1)]) 0 (fun k hk => by simp (implicitDefEqProofs := false) [-getElem?_pos, -getElem?_neg, Try.f47, h27])
def p_laws_markIntSSS (a0 : List (List (List (Int)))) (a1 : Int) : Option (Int × List (List (List (Int)))) :=
 p_laws_markIntSSS_L0 a1 0 a0 >>= fun o37 =>
 some (o37.1, o37.2)
theorem t_laws_markIntSSS {a0 : List (List (List (Int)))} {a1 : Int} {r : Int × List (List (List (Int)))} (h : p_laws_markIntSSS a0 a1 = some r) : ∃ k, toldT Try.prog (cal_laws_markIntSSS k) k lm_laws_markIntSSS Try.f47 60 (rows_laws_markIntSSS (a0, a1)) (arg_laws_markIntSSS (a0, a1)) = some (res_laws_markIntSSS r) := by
  unfold p_laws_markIntSSS at h
  obtain ⟨o37, h36, h⟩ := bd h
  have qK38 := l_laws_markIntSSS_L0 h36 (sl [2, 1])
  obtain ⟨s39, K38, qK38⟩ := qK38
  obtain rfl := Option.some.inj h
  obtain ⟨k, hk⟩ : ∃ k, K38 ≤ k := ⟨_, Nat.le_refl _⟩
  have jK38 := qK38 k (by omega) k (by omega)
  simp (implicitDefEqProofs := false) [-getElem?_pos, -getElem?_neg, Try.f47] at jK38
  refine ⟨k, ?_⟩
  simp (implicitDefEqProofs := false) [-getElem?_pos, -getElem?_neg, Try.f47, jK38]
theorem inj_laws_markIntSSS : ∀ a b, rows_laws_markIntSSS a = rows_laws_markIntSSS b → arg_laws_markIntSSS a = arg_laws_markIntSSS b → a = b := by
  rintro ⟨x0, x1⟩ ⟨y0, y1⟩ h1 h2; simp [arg_laws_markIntSSS] at h2; simp [rows_laws_markIntSSS] at h1; simp [Prod.ext_iff, h1, h2]
noncomputable def F_laws_markIntSSS : TCon := ptcon rows_laws_markIntSSS arg_laws_markIntSSS (fun a => p_laws_markIntSSS a.1 a.2) (fun r => (res_laws_markIntSSS r).1) (fun r => (res_laws_markIntSSS r).2)
theorem fn_laws_markIntSSS : TFn Try.prog 47 60 F_laws_markIntSSS := TFn.pure cal_laws_markIntSSS (fun k w0 h0 => ok_laws_markIntSSS k w0 h0) mixed Try.func47 rfl rfl (by kernel_rfl) 2 (by decide) (fun _ => rfl) lm_laws_markIntSSS (fun a b h => t_laws_markIntSSS h)
theorem c_laws_markIntSSS {a0 : List (List (List (Int)))} {a1 : Int} {r : Int × List (List (List (Int)))} (h : p_laws_markIntSSS a0 a1 = some r) : F_laws_markIntSSS (List.map (cL60 true) a0) [.one (.lit (.int .i64 a1))] = some (.int .i64 r.1, List.map (cL60 true) r.2) := ptcon_at (rows := rows_laws_markIntSSS) (arg := arg_laws_markIntSSS) (p := fun a => p_laws_markIntSSS a.1 a.2) (val := fun r => (res_laws_markIntSSS r).1) (rows' := fun r => (res_laws_markIntSSS r).2) (a := (a0, a1)) (b := r) inj_laws_markIntSSS h
def cal_laws_heldIntS (k : Nat) : Cal := calI (tabOf []) (inlOf [])
@[simp] theorem cal_laws_heldIntS_ap (k g : Nat) (vs : List TV) (mem : Mem) (ep : Nat) : cal_laws_heldIntS k g vs mem ep = calI (tabOf []) (inlOf []) g vs mem ep := rfl
theorem ok_laws_heldIntS (k : Nat) (w0 : World) (h0 : True) : CalOk Try.prog w0.heap.size w0 (cal_laws_heldIntS k) := by
  exact calI_ok (J := fun _ => True) stab_true (tabOf_ok _ (by simp [])) (inlOf_ok _ (by simp [])) h0
@[simp] def lm_laws_heldIntS : Nat → List Nat × Nat := fun b => if b = 0 then ([0, 1, 5], 0) else if b = 2000000 then ([], 8888888) else if b = 3000000 then ([1], 0) else ([], 0)
@[simp] def arg_laws_heldIntS (a : List (Int) × Int) : List TV := [.one (.sl false 3 (List.map cI a.1)), .one (.lit (.int .i64 a.2))]
@[simp] def res_laws_heldIntS (r : Int) : Sh × List V := ((false, [none]), [.lit (.int .i64 r)])
def p_laws_heldIntS_L0 (a0 : List (Int)) (x1b0 : Int) (x5b0 : Int) : Option (Int ⊕ Int) :=
 if x5b0 < (a0.length : Int) then
  if 0 ≤ x5b0 then
   a0[x5b0.toNat]? >>= fun y12 =>
   if y12 = x1b0 then
    p_laws_heldIntS_L0 a0 (IntKind.wrap .i64 (x1b0 + 1)) (IntKind.wrap .i64 (x5b0 + 1))
   else
    some (.inl (-1))
  else none
 else
  some (.inr x1b0)
partial_fixpoint
@[simp] noncomputable def L_laws_heldIntS_L0 : Code := nav [1, 0, 1, 0, 0] (bodyOf Try.f31)
@[simp] def T_laws_heldIntS_L0 (a0 : List (Int)) (x1b0 : Int) (x5b0 : Int) (st : Nat → Nat) : St := ⟨[(0, .one (.sl false 3 (List.map cI a0))), (1, .one (.lit (.int .i64 x1b0))), (5, .one (.lit (.int .i64 x5b0)))], [none], (st 0)⟩
@[simp] def U_laws_heldIntS_L0 (a0 : List (Int)) (o : Int) (st : Nat → Nat) : St := ⟨[(1, .one (.lit (.int .i64 o)))], [none], (st 0)⟩
abbrev Q_laws_heldIntS_L0 (a0 : List (Int)) (x1b0 : Int) (x5b0 : Int) (o : Int ⊕ Int) : Prop := ∀ st : Nat → Nat, LoopT Try.prog cal_laws_heldIntS 1 lm_laws_heldIntS 0 L_laws_heldIntS_L0 (tellS Try.prog lm_laws_heldIntS [.tmp 4]) res_laws_heldIntS (U_laws_heldIntS_L0 a0) (T_laws_heldIntS_L0 a0 x1b0 x5b0 st) o
theorem l_laws_heldIntS_L0 {a0 : List (Int)} {x1b0 : Int} {x5b0 : Int} {o : Int ⊕ Int} (h : p_laws_heldIntS_L0 a0 x1b0 x5b0 = some o) : Q_laws_heldIntS_L0 a0 x1b0 x5b0 o := by
  refine p_laws_heldIntS_L0.partial_correctness a0 (motive := fun x1b0 x5b0 o => Q_laws_heldIntS_L0 a0 x1b0 x5b0 o) ?_ x1b0 x5b0 o h
  clear h o x1b0 x5b0
  intro p' ih x1b0 x5b0 r h st
  rcases ifc h with ⟨h10, h⟩ | ⟨h10, h⟩
  · obtain ⟨h11, h⟩ := ifg h
    obtain ⟨y12, h13, h⟩ := bd h
    rcases ifc h with ⟨h14, h⟩ | ⟨h14, h⟩
    · exact LoopT.step 0 (fun k hk => by simp (implicitDefEqProofs := false) [-getElem?_pos, -getElem?_neg, Try.f31, h10, h11, h13, (eq_true h14)]) (ih _ _ _ h (sl [(st 0)]))
    obtain rfl := Option.some.inj h
    exact LoopT.ret 0 (fun k hk => by simp (implicitDefEqProofs := false) [-getElem?_pos, -getElem?_neg, Try.f31, h10, h11, h13, h14])
  obtain rfl := Option.some.inj h
  exact LoopT.exit (sl [(st 0)]) 0 (fun k hk => by simp (implicitDefEqProofs := false) [-getElem?_pos, -getElem?_neg, Try.f31, h10])
def p_laws_heldIntS (a0 : List (Int)) (a1 : Int) : Option Int :=
 p_laws_heldIntS_L0 a0 a1 0 >>= fun o16 => match o16 with
 | .inl o16 =>
  some o16
 | .inr o16 =>
  some o16
theorem t_laws_heldIntS {a0 : List (Int)} {a1 : Int} {r : Int} (h : p_laws_heldIntS a0 a1 = some r) : ∃ k, told Try.prog (cal_laws_heldIntS k) k lm_laws_heldIntS Try.f31 (arg_laws_heldIntS (a0, a1)) = some (res_laws_heldIntS r) := by
  unfold p_laws_heldIntS at h
  obtain ⟨o16, h15, h⟩ := bd h
  have qK17 := l_laws_heldIntS_L0 h15 (sl [1])
  rcases o16 with o16 | o16
  · obtain ⟨K17, qK17⟩ := qK17
    obtain rfl := Option.some.inj h
    obtain ⟨k, hk⟩ : ∃ k, K17 ≤ k := ⟨_, Nat.le_refl _⟩
    obtain ⟨S_K17, jK17, iK17⟩ := qK17 k (by omega) k (by omega)
    simp (implicitDefEqProofs := false) [-getElem?_pos, -getElem?_neg, Try.f31] at jK17
    refine ⟨k, ?_⟩
    simp (implicitDefEqProofs := false) [-getElem?_pos, -getElem?_neg, Try.f31, iK17, jK17]
  obtain ⟨s18, K17, qK17⟩ := qK17
  obtain rfl := Option.some.inj h
  obtain ⟨k, hk⟩ : ∃ k, K17 ≤ k := ⟨_, Nat.le_refl _⟩
  have jK17 := qK17 k (by omega) k (by omega)
  simp (implicitDefEqProofs := false) [-getElem?_pos, -getElem?_neg, Try.f31] at jK17
  refine ⟨k, ?_⟩
  simp (implicitDefEqProofs := false) [-getElem?_pos, -getElem?_neg, Try.f31, jK17]
theorem inj_laws_heldIntS : ∀ a b, arg_laws_heldIntS a = arg_laws_heldIntS b → a = b := by
  rintro ⟨x0, x1⟩ ⟨y0, y1⟩ h; simp [arg_laws_heldIntS] at h; simp [Prod.ext_iff, h]
noncomputable def F_laws_heldIntS : Con := nilfix [[some 3], [none]] (pcon arg_laws_heldIntS (fun a => p_laws_heldIntS a.1 a.2) res_laws_heldIntS)
theorem fn_laws_heldIntS : Fn Try.prog 31 F_laws_heldIntS := (Fn.pure cal_laws_heldIntS (fun k w0 h0 => ok_laws_heldIntS k w0 h0) mixed Try.func31 rfl rfl (by kernel_rfl) 2 (by decide) (fun _ => rfl) lm_laws_heldIntS (fun a b h => t_laws_heldIntS h)).nilfix _
theorem c_laws_heldIntS {a0 : List (Int)} {a1 : Int} {r : Int} (h : p_laws_heldIntS a0 a1 = some r) : F_laws_heldIntS [.one (.sl false 3 (List.map cI a0)), .one (.lit (.int .i64 a1))] = some (((false, [none]), [.lit (.int .i64 r)])) := pcon_at (arg := arg_laws_heldIntS) (p := fun a => p_laws_heldIntS a.1 a.2) (res := res_laws_heldIntS) (a := (a0, a1)) (b := r) inj_laws_heldIntS h
noncomputable def cal_laws_heldIntSS (k : Nat) : Cal := calI (tabOf [(31, F_laws_heldIntS)]) (inlOf [])
@[simp] theorem cal_laws_heldIntSS_ap (k g : Nat) (vs : List TV) (mem : Mem) (ep : Nat) : cal_laws_heldIntSS k g vs mem ep = calI (tabOf [(31, F_laws_heldIntS)]) (inlOf []) g vs mem ep := rfl
theorem ok_laws_heldIntSS (k : Nat) (w0 : World) (h0 : True) : CalOk Try.prog w0.heap.size w0 (cal_laws_heldIntSS k) := by
  exact calI_ok (J := fun _ => True) stab_true (tabOf_ok _ (by simp [fn_laws_heldIntS])) (inlOf_ok _ (by simp [])) h0
@[simp] def lm_laws_heldIntSS : Nat → List Nat × Nat := fun b => if b = 0 then ([0, 1, 5], 0) else if b = 2000000 then ([], 8888888) else if b = 3000000 then ([1], 0) else ([], 0)
@[simp] def arg_laws_heldIntSS (a : List (List (Int)) × Int) : List TV := [.one (.sl false 48 (List.map (cL48 false) a.1)), .one (.lit (.int .i64 a.2))]
@[simp] def res_laws_heldIntSS (r : Int) : Sh × List V := ((false, [none]), [.lit (.int .i64 r)])
def p_laws_heldIntSS_L0 (a0 : List (List (Int))) (x1b0 : Int) (x5b0 : Int) : Option (Int ⊕ Int) :=
 if x5b0 < (a0.length : Int) then
  if 0 ≤ x5b0 then
   a0[x5b0.toNat]? >>= fun y16 =>
   p_laws_heldIntS y16 x1b0 >>= fun y19 =>
   if y19 < 0 then
    some (.inl (-1))
   else
    p_laws_heldIntSS_L0 a0 y19 (IntKind.wrap .i64 (x5b0 + 1))
  else none
 else
  some (.inr x1b0)
partial_fixpoint
@[simp] noncomputable def L_laws_heldIntSS_L0 : Code := nav [1, 0, 1, 0, 0] (bodyOf Try.f59)
@[simp] def T_laws_heldIntSS_L0 (a0 : List (List (Int))) (x1b0 : Int) (x5b0 : Int) (st : Nat → Nat) : St := ⟨[(0, .one (.sl false 48 (List.map (cL48 false) a0))), (1, .one (.lit (.int .i64 x1b0))), (5, .one (.lit (.int .i64 x5b0)))], [none], (st 0)⟩
@[simp] def U_laws_heldIntSS_L0 (a0 : List (List (Int))) (o : Int) (st : Nat → Nat) : St := ⟨[(1, .one (.lit (.int .i64 o)))], [none], (st 0)⟩
abbrev Q_laws_heldIntSS_L0 (a0 : List (List (Int))) (x1b0 : Int) (x5b0 : Int) (o : Int ⊕ Int) : Prop := ∀ st : Nat → Nat, LoopT Try.prog cal_laws_heldIntSS 1 lm_laws_heldIntSS 0 L_laws_heldIntSS_L0 (tellS Try.prog lm_laws_heldIntSS [.tmp 4]) res_laws_heldIntSS (U_laws_heldIntSS_L0 a0) (T_laws_heldIntSS_L0 a0 x1b0 x5b0 st) o
theorem l_laws_heldIntSS_L0 {a0 : List (List (Int))} {x1b0 : Int} {x5b0 : Int} {o : Int ⊕ Int} (h : p_laws_heldIntSS_L0 a0 x1b0 x5b0 = some o) : Q_laws_heldIntSS_L0 a0 x1b0 x5b0 o := by
  refine p_laws_heldIntSS_L0.partial_correctness a0 (motive := fun x1b0 x5b0 o => Q_laws_heldIntSS_L0 a0 x1b0 x5b0 o) ?_ x1b0 x5b0 o h
  clear h o x1b0 x5b0
  intro p' ih x1b0 x5b0 r h st
  rcases ifc h with ⟨h14, h⟩ | ⟨h14, h⟩
  · obtain ⟨h15, h⟩ := ifg h
    obtain ⟨y16, h17, h⟩ := bd h
    obtain ⟨y19, h18, h⟩ := bd h
    have h18c := c_laws_heldIntS h18
    rcases ifc h with ⟨h20, h⟩ | ⟨h20, h⟩
    · obtain rfl := Option.some.inj h
      exact LoopT.ret 0 (fun k hk => by simp (implicitDefEqProofs := false) [-getElem?_pos, -getElem?_neg, Try.f59, h14, h15, h17, h18c, h20])
    exact LoopT.step 0 (fun k hk => by simp (implicitDefEqProofs := false) [-getElem?_pos, -getElem?_neg, Try.f59, h14, h15, h17, h18c, h20]) (ih _ _ _ h (sl [((st 0) + 1)]))
  obtain rfl := Option.some.inj h
  exact LoopT.exit (sl [(st 0)]) 0 (fun k hk => by simp (implicitDefEqProofs := false) [-getElem?_pos, -getElem?_neg, Try.f59, h14])
def p_laws_heldIntSS (a0 : List (List (Int))) (a1 : Int) : Option Int :=
 p_laws_heldIntSS_L0 a0 a1 0 >>= fun o22 => match o22 with
 | .inl o22 =>
  some o22
 | .inr o22 =>
  some o22
theorem t_laws_heldIntSS {a0 : List (List (Int))} {a1 : Int} {r : Int} (h : p_laws_heldIntSS a0 a1 = some r) : ∃ k, told Try.prog (cal_laws_heldIntSS k) k lm_laws_heldIntSS Try.f59 (arg_laws_heldIntSS (a0, a1)) = some (res_laws_heldIntSS r) := by
  unfold p_laws_heldIntSS at h
  obtain ⟨o22, h21, h⟩ := bd h
  have qK23 := l_laws_heldIntSS_L0 h21 (sl [1])
  rcases o22 with o22 | o22
  · obtain ⟨K23, qK23⟩ := qK23
    obtain rfl := Option.some.inj h
    obtain ⟨k, hk⟩ : ∃ k, K23 ≤ k := ⟨_, Nat.le_refl _⟩
    obtain ⟨S_K23, jK23, iK23⟩ := qK23 k (by omega) k (by omega)
    simp (implicitDefEqProofs := false) [-getElem?_pos, -getElem?_neg, Try.f59] at jK23
    refine ⟨k, ?_⟩
    simp (implicitDefEqProofs := false) [-getElem?_pos, -getElem?_neg, Try.f59, iK23, jK23]
  obtain ⟨s24, K23, qK23⟩ := qK23
  obtain rfl := Option.some.inj h
  obtain ⟨k, hk⟩ : ∃ k, K23 ≤ k := ⟨_, Nat.le_refl _⟩
  have jK23 := qK23 k (by omega) k (by omega)
  simp (implicitDefEqProofs := false) [-getElem?_pos, -getElem?_neg, Try.f59] at jK23
  refine ⟨k, ?_⟩
  simp (implicitDefEqProofs := false) [-getElem?_pos, -getElem?_neg, Try.f59, jK23]
theorem inj_laws_heldIntSS : ∀ a b, arg_laws_heldIntSS a = arg_laws_heldIntSS b → a = b := by
  rintro ⟨x0, x1⟩ ⟨y0, y1⟩ h; simp [arg_laws_heldIntSS] at h; simp [Prod.ext_iff, h]
noncomputable def F_laws_heldIntSS : Con := nilfix [[some 48], [none]] (pcon arg_laws_heldIntSS (fun a => p_laws_heldIntSS a.1 a.2) res_laws_heldIntSS)
theorem fn_laws_heldIntSS : Fn Try.prog 59 F_laws_heldIntSS := (Fn.pure cal_laws_heldIntSS (fun k w0 h0 => ok_laws_heldIntSS k w0 h0) mixed Try.func59 rfl rfl (by kernel_rfl) 2 (by decide) (fun _ => rfl) lm_laws_heldIntSS (fun a b h => t_laws_heldIntSS h)).nilfix _
theorem c_laws_heldIntSS {a0 : List (List (Int))} {a1 : Int} {r : Int} (h : p_laws_heldIntSS a0 a1 = some r) : F_laws_heldIntSS [.one (.sl false 48 (List.map (cL48 false) a0)), .one (.lit (.int .i64 a1))] = some (((false, [none]), [.lit (.int .i64 r)])) := pcon_at (arg := arg_laws_heldIntSS) (p := fun a => p_laws_heldIntSS a.1 a.2) (res := res_laws_heldIntSS) (a := (a0, a1)) (b := r) inj_laws_heldIntSS h
noncomputable def cal_laws_heldIntSSS (k : Nat) : Cal := calI (tabOf [(59, F_laws_heldIntSS)]) (inlOf [])
@[simp] theorem cal_laws_heldIntSSS_ap (k g : Nat) (vs : List TV) (mem : Mem) (ep : Nat) : cal_laws_heldIntSSS k g vs mem ep = calI (tabOf [(59, F_laws_heldIntSS)]) (inlOf []) g vs mem ep := rfl
theorem ok_laws_heldIntSSS (k : Nat) (w0 : World) (h0 : True) : CalOk Try.prog w0.heap.size w0 (cal_laws_heldIntSSS k) := by
  exact calI_ok (J := fun _ => True) stab_true (tabOf_ok _ (by simp [fn_laws_heldIntSS])) (inlOf_ok _ (by simp [])) h0
@[simp] def lm_laws_heldIntSSS : Nat → List Nat × Nat := fun b => if b = 0 then ([0, 1, 5], 0) else if b = 2000000 then ([], 8888888) else if b = 3000000 then ([1], 0) else ([], 0)
@[simp] def arg_laws_heldIntSSS (a : List (List (List (Int))) × Int) : List TV := [.one (.sl false 60 (List.map (cL60 false) a.1)), .one (.lit (.int .i64 a.2))]
@[simp] def res_laws_heldIntSSS (r : Int) : Sh × List V := ((false, [none]), [.lit (.int .i64 r)])
def p_laws_heldIntSSS_L0 (a0 : List (List (List (Int)))) (x1b0 : Int) (x5b0 : Int) : Option (Int ⊕ Int) :=
 if x5b0 < (a0.length : Int) then
  if 0 ≤ x5b0 then
   a0[x5b0.toNat]? >>= fun y16 =>
   p_laws_heldIntSS y16 x1b0 >>= fun y19 =>
   if y19 < 0 then
    some (.inl (-1))
   else
    p_laws_heldIntSSS_L0 a0 y19 (IntKind.wrap .i64 (x5b0 + 1))
  else none
 else
  some (.inr x1b0)
partial_fixpoint
@[simp] noncomputable def L_laws_heldIntSSS_L0 : Code := nav [1, 0, 1, 0, 0] (bodyOf Try.f48)
@[simp] def T_laws_heldIntSSS_L0 (a0 : List (List (List (Int)))) (x1b0 : Int) (x5b0 : Int) (st : Nat → Nat) : St := ⟨[(0, .one (.sl false 60 (List.map (cL60 false) a0))), (1, .one (.lit (.int .i64 x1b0))), (5, .one (.lit (.int .i64 x5b0)))], [none], (st 0)⟩
@[simp] def U_laws_heldIntSSS_L0 (a0 : List (List (List (Int)))) (o : Int) (st : Nat → Nat) : St := ⟨[(1, .one (.lit (.int .i64 o)))], [none], (st 0)⟩
abbrev Q_laws_heldIntSSS_L0 (a0 : List (List (List (Int)))) (x1b0 : Int) (x5b0 : Int) (o : Int ⊕ Int) : Prop := ∀ st : Nat → Nat, LoopT Try.prog cal_laws_heldIntSSS 1 lm_laws_heldIntSSS 0 L_laws_heldIntSSS_L0 (tellS Try.prog lm_laws_heldIntSSS [.tmp 4]) res_laws_heldIntSSS (U_laws_heldIntSSS_L0 a0) (T_laws_heldIntSSS_L0 a0 x1b0 x5b0 st) o
theorem l_laws_heldIntSSS_L0 {a0 : List (List (List (Int)))} {x1b0 : Int} {x5b0 : Int} {o : Int ⊕ Int} (h : p_laws_heldIntSSS_L0 a0 x1b0 x5b0 = some o) : Q_laws_heldIntSSS_L0 a0 x1b0 x5b0 o := by
  refine p_laws_heldIntSSS_L0.partial_correctness a0 (motive := fun x1b0 x5b0 o => Q_laws_heldIntSSS_L0 a0 x1b0 x5b0 o) ?_ x1b0 x5b0 o h
  clear h o x1b0 x5b0
  intro p' ih x1b0 x5b0 r h st
  rcases ifc h with ⟨h14, h⟩ | ⟨h14, h⟩
  · obtain ⟨h15, h⟩ := ifg h
    obtain ⟨y16, h17, h⟩ := bd h
    obtain ⟨y19, h18, h⟩ := bd h
    have h18c := c_laws_heldIntSS h18
    rcases ifc h with ⟨h20, h⟩ | ⟨h20, h⟩
    · obtain rfl := Option.some.inj h
      exact LoopT.ret 0 (fun k hk => by simp (implicitDefEqProofs := false) [-getElem?_pos, -getElem?_neg, Try.f48, h14, h15, h17, h18c, h20])
    exact LoopT.step 0 (fun k hk => by simp (implicitDefEqProofs := false) [-getElem?_pos, -getElem?_neg, Try.f48, h14, h15, h17, h18c, h20]) (ih _ _ _ h (sl [((st 0) + 1)]))
  obtain rfl := Option.some.inj h
  exact LoopT.exit (sl [(st 0)]) 0 (fun k hk => by simp (implicitDefEqProofs := false) [-getElem?_pos, -getElem?_neg, Try.f48, h14])
def p_laws_heldIntSSS (a0 : List (List (List (Int)))) (a1 : Int) : Option Int :=
 p_laws_heldIntSSS_L0 a0 a1 0 >>= fun o22 => match o22 with
 | .inl o22 =>
  some o22
 | .inr o22 =>
  some o22
theorem t_laws_heldIntSSS {a0 : List (List (List (Int)))} {a1 : Int} {r : Int} (h : p_laws_heldIntSSS a0 a1 = some r) : ∃ k, told Try.prog (cal_laws_heldIntSSS k) k lm_laws_heldIntSSS Try.f48 (arg_laws_heldIntSSS (a0, a1)) = some (res_laws_heldIntSSS r) := by
  unfold p_laws_heldIntSSS at h
  obtain ⟨o22, h21, h⟩ := bd h
  have qK23 := l_laws_heldIntSSS_L0 h21 (sl [1])
  rcases o22 with o22 | o22
  · obtain ⟨K23, qK23⟩ := qK23
    obtain rfl := Option.some.inj h
    obtain ⟨k, hk⟩ : ∃ k, K23 ≤ k := ⟨_, Nat.le_refl _⟩
    obtain ⟨S_K23, jK23, iK23⟩ := qK23 k (by omega) k (by omega)
    simp (implicitDefEqProofs := false) [-getElem?_pos, -getElem?_neg, Try.f48] at jK23
    refine ⟨k, ?_⟩
    simp (implicitDefEqProofs := false) [-getElem?_pos, -getElem?_neg, Try.f48, iK23, jK23]
  obtain ⟨s24, K23, qK23⟩ := qK23
  obtain rfl := Option.some.inj h
  obtain ⟨k, hk⟩ : ∃ k, K23 ≤ k := ⟨_, Nat.le_refl _⟩
  have jK23 := qK23 k (by omega) k (by omega)
  simp (implicitDefEqProofs := false) [-getElem?_pos, -getElem?_neg, Try.f48] at jK23
  refine ⟨k, ?_⟩
  simp (implicitDefEqProofs := false) [-getElem?_pos, -getElem?_neg, Try.f48, jK23]
theorem inj_laws_heldIntSSS : ∀ a b, arg_laws_heldIntSSS a = arg_laws_heldIntSSS b → a = b := by
  rintro ⟨x0, x1⟩ ⟨y0, y1⟩ h; simp [arg_laws_heldIntSSS] at h; simp [Prod.ext_iff, h]
noncomputable def F_laws_heldIntSSS : Con := nilfix [[some 60], [none]] (pcon arg_laws_heldIntSSS (fun a => p_laws_heldIntSSS a.1 a.2) res_laws_heldIntSSS)
theorem fn_laws_heldIntSSS : Fn Try.prog 48 F_laws_heldIntSSS := (Fn.pure cal_laws_heldIntSSS (fun k w0 h0 => ok_laws_heldIntSSS k w0 h0) mixed Try.func48 rfl rfl (by kernel_rfl) 2 (by decide) (fun _ => rfl) lm_laws_heldIntSSS (fun a b h => t_laws_heldIntSSS h)).nilfix _
theorem c_laws_heldIntSSS {a0 : List (List (List (Int)))} {a1 : Int} {r : Int} (h : p_laws_heldIntSSS a0 a1 = some r) : F_laws_heldIntSSS [.one (.sl false 60 (List.map (cL60 false) a0)), .one (.lit (.int .i64 a1))] = some (((false, [none]), [.lit (.int .i64 r)])) := pcon_at (arg := arg_laws_heldIntSSS) (p := fun a => p_laws_heldIntSSS a.1 a.2) (res := res_laws_heldIntSSS) (a := (a0, a1)) (b := r) inj_laws_heldIntSSS h
noncomputable def cal_laws_heldGram (k : Nat) : Cal := calI (tabOf [(48, F_laws_heldIntSSS)]) (inlOf [])
@[simp] theorem cal_laws_heldGram_ap (k g : Nat) (vs : List TV) (mem : Mem) (ep : Nat) : cal_laws_heldGram k g vs mem ep = calI (tabOf [(48, F_laws_heldIntSSS)]) (inlOf []) g vs mem ep := rfl
theorem ok_laws_heldGram (k : Nat) (w0 : World) (h0 : True) : CalOk Try.prog w0.heap.size w0 (cal_laws_heldGram k) := by
  exact calI_ok (J := fun _ => True) stab_true (tabOf_ok _ (by simp [fn_laws_heldIntSSS])) (inlOf_ok _ (by simp [])) h0
@[simp] def lm_laws_heldGram : Nat → List Nat × Nat := fun b => ([], 0)
@[simp] def arg_laws_heldGram (a : List (List (List (Int))) × Int) : List TV := [.agg [.sl false 60 (List.map (cL60 false) a.1)], .one (.lit (.int .i64 a.2))]
@[simp] def res_laws_heldGram (r : Int) : Sh × List V := ((false, [none]), [.lit (.int .i64 r)])
def p_laws_heldGram (a0 : List (List (List (Int)))) (a1 : Int) : Option Int :=
 p_laws_heldIntSSS a0 a1 >>= fun y2 =>
 if y2 < 0 then
  some (-1)
 else
  some y2
theorem t_laws_heldGram {a0 : List (List (List (Int)))} {a1 : Int} {r : Int} (h : p_laws_heldGram a0 a1 = some r) : ∃ k, told Try.prog (cal_laws_heldGram k) k lm_laws_heldGram Try.f26 (arg_laws_heldGram (a0, a1)) = some (res_laws_heldGram r) := by
  unfold p_laws_heldGram at h
  obtain ⟨y2, h1, h⟩ := bd h
  have h1c := c_laws_heldIntSSS h1
  rcases ifc h with ⟨h3, h⟩ | ⟨h3, h⟩
  · obtain rfl := Option.some.inj h
    obtain ⟨k, hk⟩ : ∃ k, 0 ≤ k := ⟨_, Nat.le_refl _⟩
    refine ⟨k, ?_⟩
    simp (implicitDefEqProofs := false) [-getElem?_pos, -getElem?_neg, Try.f26, h1c, h3]
  obtain rfl := Option.some.inj h
  obtain ⟨k, hk⟩ : ∃ k, 0 ≤ k := ⟨_, Nat.le_refl _⟩
  refine ⟨k, ?_⟩
  simp (implicitDefEqProofs := false) [-getElem?_pos, -getElem?_neg, Try.f26, h1c, h3]
theorem inj_laws_heldGram : ∀ a b, arg_laws_heldGram a = arg_laws_heldGram b → a = b := by
  rintro ⟨x0, x1⟩ ⟨y0, y1⟩ h; simp [arg_laws_heldGram] at h; simp [Prod.ext_iff, h]
noncomputable def F_laws_heldGram : Con := nilfix [[some 60], [none]] (pcon arg_laws_heldGram (fun a => p_laws_heldGram a.1 a.2) res_laws_heldGram)
theorem fn_laws_heldGram : Fn Try.prog 26 F_laws_heldGram := (Fn.pure cal_laws_heldGram (fun k w0 h0 => ok_laws_heldGram k w0 h0) mixed Try.func26 rfl rfl (by kernel_rfl) 2 (by decide) (fun _ => rfl) lm_laws_heldGram (fun a b h => t_laws_heldGram h)).nilfix _
theorem c_laws_heldGram {a0 : List (List (List (Int)))} {a1 : Int} {r : Int} (h : p_laws_heldGram a0 a1 = some r) : F_laws_heldGram [.agg [.sl false 60 (List.map (cL60 false) a0)], .one (.lit (.int .i64 a1))] = some (((false, [none]), [.lit (.int .i64 r)])) := pcon_at (arg := arg_laws_heldGram) (p := fun a => p_laws_heldGram a.1 a.2) (res := res_laws_heldGram) (a := (a0, a1)) (b := r) inj_laws_heldGram h
noncomputable def cal0_laws_FnExactLetters (k : Nat) : Cal := calI (tabOf [(18, F_laws_szGram), (20, F_laws_toGram), (22, F_laws_eqGram), (27, F_spec_Letters), (28, F_impl_Letters), (29, F_laws_eqIntS), (31, F_laws_heldIntS)]) (inlOf [(30, tI 3 F_laws_markIntS), (47, tI 60 F_laws_markIntSSS)])
@[simp] theorem cal0_laws_FnExactLetters_ap (k g : Nat) (vs : List TV) (mem : Mem) (ep : Nat) : cal0_laws_FnExactLetters k g vs mem ep = calI (tabOf [(18, F_laws_szGram), (20, F_laws_toGram), (22, F_laws_eqGram), (27, F_spec_Letters), (28, F_impl_Letters), (29, F_laws_eqIntS), (31, F_laws_heldIntS)]) (inlOf [(30, tI 3 F_laws_markIntS), (47, tI 60 F_laws_markIntSSS)]) g vs mem ep := rfl
theorem ok0_laws_FnExactLetters (k : Nat) (w0 : World) (h0 : True) : CalOk Try.prog w0.heap.size w0 (cal0_laws_FnExactLetters k) := by
  exact calI_ok (J := fun _ => True) stab_true (tabOf_ok _ (by simp [fn_laws_szGram, fn_laws_toGram, fn_laws_eqGram, fn_spec_Letters, fn_impl_Letters, fn_laws_eqIntS, fn_laws_heldIntS])) (inlOf_ok _ (by simp [tI_ok fn_laws_markIntS, tI_ok fn_laws_markIntSSS])) h0
noncomputable def cal_laws_FnExactLetters (k : Nat) : Cal := calI (tabOf [(18, F_laws_szGram), (20, F_laws_toGram), (22, F_laws_eqGram), (27, F_spec_Letters), (28, F_impl_Letters), (29, F_laws_eqIntS), (31, F_laws_heldIntS)]) (inlOf [(25, selfI Try.prog (cal0_laws_FnExactLetters k) k (fun _ => ([], 0)) Try.f25 2), (30, tI 3 F_laws_markIntS), (47, tI 60 F_laws_markIntSSS)])
@[simp] theorem cal_laws_FnExactLetters_ap (k g : Nat) (vs : List TV) (mem : Mem) (ep : Nat) : cal_laws_FnExactLetters k g vs mem ep = calI (tabOf [(18, F_laws_szGram), (20, F_laws_toGram), (22, F_laws_eqGram), (27, F_spec_Letters), (28, F_impl_Letters), (29, F_laws_eqIntS), (31, F_laws_heldIntS)]) (inlOf [(25, selfI Try.prog (cal0_laws_FnExactLetters k) k (fun _ => ([], 0)) Try.f25 2), (30, tI 3 F_laws_markIntS), (47, tI 60 F_laws_markIntSSS)]) g vs mem ep := rfl
theorem ok_laws_FnExactLetters (k : Nat) (w0 : World) (h0 : True) : CalOk Try.prog w0.heap.size w0 (cal_laws_FnExactLetters k) := by
  have i25 := IFn.self (J := fun _ => True) (fun w0 h0 => ok0_laws_FnExactLetters k w0 h0) mixed Try.func25 rfl rfl (by kernel_rfl) (np := 2) (by decide) (lm := fun _ => ([], 0)) (k := k)
  exact calI_ok (J := fun _ => True) stab_true (tabOf_ok _ (by simp [fn_laws_szGram, fn_laws_toGram, fn_laws_eqGram, fn_spec_Letters, fn_impl_Letters, fn_laws_eqIntS, fn_laws_heldIntS])) (inlOf_ok _ (by simp [i25, tI_ok fn_laws_markIntS, tI_ok fn_laws_markIntSSS])) h0
@[simp] def lm_laws_FnExactLetters : Nat → List Nat × Nat := fun b => ([], 0)
theorem dr_laws_FnExactLetters_10 : drawn (opsOf (nav [1, 1, 1, 1, 1, 1, 1, 1, 0, 0] (bodyOf Try.f7))) = some ([0, 1], [2, 3, 4]) := by kernel_rfl
@[simp] def arg_laws_FnExactLetters (a : List (List (List (Int)))) : List TV := [.agg [.sl false 60 (List.map (cL60 false) a)]]
@[simp] def res_laws_FnExactLetters (r : Bool) : Sh × List V := ((false, [none]), [.lit (.bool r)])
def p_laws_FnExactLetters (a0 : List (List (List (Int)))) : Option Bool :=
 p_laws_szGram a0 1048576 >>= fun y2 =>
 if y2 < 0 then
  some true
 else
  p_laws_toGram a0 >>= fun y5 =>
  p_spec_Letters y5 >>= fun y7 =>
  p_impl_Letters y5 >>= fun y10 =>
  p_laws_eqIntS y10 y7 >>= fun y12 =>
  if y12 then
   p_laws_eqGram y5 y5 >>= fun y16 =>
   if y16 then
    p_laws_markIntSSS y5 1 >>= fun y19 =>
    if y19.1 < 0 then
     some false
    else
     p_laws_markIntS y10 1 >>= fun y23 =>
     p_laws_heldIntS y23.2 1 >>= fun y25 =>
     if y25 < 0 then
      some false
     else
      if y25 = y23.1 then
       some true
      else
       some false
   else
    some false
  else
   some false
theorem t_laws_FnExactLetters {a0 : List (List (List (Int)))} {r : Bool} (h : p_laws_FnExactLetters a0 = some r) : ∃ k, told Try.prog (cal_laws_FnExactLetters k) k lm_laws_FnExactLetters Try.f7 (arg_laws_FnExactLetters a0) = some (res_laws_FnExactLetters r) := by
  unfold p_laws_FnExactLetters at h
  obtain ⟨y2, h1, h⟩ := bd h
  have h1c := c_laws_szGram h1
  rcases ifc h with ⟨h3, h⟩ | ⟨h3, h⟩
  · obtain rfl := Option.some.inj h
    obtain ⟨k, hk⟩ : ∃ k, 0 ≤ k := ⟨_, Nat.le_refl _⟩
    refine ⟨k, ?_⟩
    simp (implicitDefEqProofs := false) [-getElem?_pos, -getElem?_neg, Try.f7, Try.f25, h1c, h3]
  obtain ⟨y5, h4, h⟩ := bd h
  have h4c := c_laws_toGram h4
  obtain ⟨y7, h6, h⟩ := bd h
  have h6c := c_spec_Letters h6
  obtain ⟨y10, h9, h⟩ := bd h
  have h9c := c_impl_Letters h9
  obtain ⟨y12, h11, h⟩ := bd h
  have h11c := c_laws_eqIntS h11
  rcases ifb h with ⟨h13, h⟩ | ⟨h13, h⟩
  · obtain ⟨y16, h15, h⟩ := bd h
    have h15c := c_laws_eqGram h15
    rcases ifb h with ⟨h17, h⟩ | ⟨h17, h⟩
    · obtain ⟨y19, h18, h⟩ := bd h
      have h18c := c_laws_markIntSSS h18
      rcases ifc h with ⟨h20, h⟩ | ⟨h20, h⟩
      · obtain rfl := Option.some.inj h
        obtain ⟨k, hk⟩ : ∃ k, 0 ≤ k := ⟨_, Nat.le_refl _⟩
        have hd_laws_FnExactLetters_10 := dr_laws_FnExactLetters_10
        simp only [opsOf, nav, bodyOf, Try.f7, Option.getD_some] at hd_laws_FnExactLetters_10
        refine ⟨k, ?_⟩
        simp (implicitDefEqProofs := false) [-getElem?_pos, -getElem?_neg, Try.f7, Try.f25, h1c, h3, h4c, h6c, h9c, h11c, h13, ex_draw2 _ _ hd_laws_FnExactLetters_10, h15c, h17, h18c, h20]
      obtain ⟨y23, h22, h⟩ := bd h
      have h22c := c_laws_markIntS h22
      obtain ⟨y25, h24, h⟩ := bd h
      have h24c := c_laws_heldIntS h24
      rcases ifc h with ⟨h26, h⟩ | ⟨h26, h⟩
      · obtain rfl := Option.some.inj h
        obtain ⟨k, hk⟩ : ∃ k, 0 ≤ k := ⟨_, Nat.le_refl _⟩
        have hd_laws_FnExactLetters_10 := dr_laws_FnExactLetters_10
        simp only [opsOf, nav, bodyOf, Try.f7, Option.getD_some] at hd_laws_FnExactLetters_10
        refine ⟨k, ?_⟩
        simp (implicitDefEqProofs := false) [-getElem?_pos, -getElem?_neg, Try.f7, Try.f25, h1c, h3, h4c, h6c, h9c, h11c, h13, ex_draw2 _ _ hd_laws_FnExactLetters_10, h15c, h17, h18c, h20, h22c, h24c, h26]
      rcases ifc h with ⟨h27, h⟩ | ⟨h27, h⟩
      · obtain rfl := Option.some.inj h
        obtain ⟨k, hk⟩ : ∃ k, 0 ≤ k := ⟨_, Nat.le_refl _⟩
        have hd_laws_FnExactLetters_10 := dr_laws_FnExactLetters_10
        simp only [opsOf, nav, bodyOf, Try.f7, Option.getD_some] at hd_laws_FnExactLetters_10
        refine ⟨k, ?_⟩
        simp (implicitDefEqProofs := false) [-getElem?_pos, -getElem?_neg, Try.f7, Try.f25, h1c, h3, h4c, h6c, h9c, h11c, h13, ex_draw2 _ _ hd_laws_FnExactLetters_10, h15c, h17, h18c, h20, h22c, h24c, h26, (eq_true h27)]
      obtain rfl := Option.some.inj h
      obtain ⟨k, hk⟩ : ∃ k, 0 ≤ k := ⟨_, Nat.le_refl _⟩
      have hd_laws_FnExactLetters_10 := dr_laws_FnExactLetters_10
      simp only [opsOf, nav, bodyOf, Try.f7, Option.getD_some] at hd_laws_FnExactLetters_10
      refine ⟨k, ?_⟩
      simp (implicitDefEqProofs := false) [-getElem?_pos, -getElem?_neg, Try.f7, Try.f25, h1c, h3, h4c, h6c, h9c, h11c, h13, ex_draw2 _ _ hd_laws_FnExactLetters_10, h15c, h17, h18c, h20, h22c, h24c, h26, h27]
    obtain rfl := Option.some.inj h
    obtain ⟨k, hk⟩ : ∃ k, 0 ≤ k := ⟨_, Nat.le_refl _⟩
    have hd_laws_FnExactLetters_10 := dr_laws_FnExactLetters_10
    simp only [opsOf, nav, bodyOf, Try.f7, Option.getD_some] at hd_laws_FnExactLetters_10
    refine ⟨k, ?_⟩
    simp (implicitDefEqProofs := false) [-getElem?_pos, -getElem?_neg, Try.f7, Try.f25, h1c, h3, h4c, h6c, h9c, h11c, h13, ex_draw2 _ _ hd_laws_FnExactLetters_10, h15c, h17]
  obtain rfl := Option.some.inj h
  obtain ⟨k, hk⟩ : ∃ k, 0 ≤ k := ⟨_, Nat.le_refl _⟩
  refine ⟨k, ?_⟩
  simp (implicitDefEqProofs := false) [-getElem?_pos, -getElem?_neg, Try.f7, Try.f25, h1c, h3, h4c, h6c, h9c, h11c, h13]
theorem inj_laws_FnExactLetters : ∀ a b, arg_laws_FnExactLetters a = arg_laws_FnExactLetters b → a = b := by
  intro x y h; simp [arg_laws_FnExactLetters] at h; simp [Prod.ext_iff, h]
noncomputable def F_laws_FnExactLetters : Con := nilfix [[some 60]] (pcon arg_laws_FnExactLetters (fun a => p_laws_FnExactLetters a) res_laws_FnExactLetters)
theorem fn_laws_FnExactLetters : Fn Try.prog 7 F_laws_FnExactLetters := (Fn.pure cal_laws_FnExactLetters (fun k w0 h0 => ok_laws_FnExactLetters k w0 h0) mixed Try.func7 rfl rfl (by kernel_rfl) 1 (by decide) (fun _ => rfl) lm_laws_FnExactLetters (fun a b h => t_laws_FnExactLetters h)).nilfix _
theorem c_laws_FnExactLetters {a0 : List (List (List (Int)))} {r : Bool} (h : p_laws_FnExactLetters a0 = some r) : F_laws_FnExactLetters [.agg [.sl false 60 (List.map (cL60 false) a0)]] = some (((false, [none]), [.lit (.bool r)])) := pcon_at (arg := arg_laws_FnExactLetters) (p := fun a => p_laws_FnExactLetters a) (res := res_laws_FnExactLetters) (a := a0) (b := r) inj_laws_FnExactLetters h
end Go.Proofs.Ytmkpoldhgdbjiaa.Vm

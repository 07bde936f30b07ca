/-
  Functions of the program as plain Lean ones, and that the model does as they say. Written by a program of mine (gen.py).
-/
import Derived.Test.YtmkpoldhgdbjiaaVmSimG
import Derived.Test.YtmkpoldhgdbjiaaVmGen
namespace Go.Proofs.Ytmkpoldhgdbjiaa.Vm
open Go Go.RowKit Go.Proofs
set_option linter.unusedVariables false
set_option linter.unusedSimpArgs false
set_option maxHeartbeats 8000000
@[simp] def cI (x : Int) : List V := [.lit (.int .i64 x)]
theorem cI_inj : ∀ a b : Int, cI a = cI b → a = b := by
  intro a b h
  simp [cI] at h
  exact h
@[simp] theorem cI_m {a b : List (Int)} : List.map cI a = List.map cI b ↔ a = b := ⟨map_inj' cI_inj a b, fun h => by rw [h]⟩
@[simp] theorem cI_e (l : List (Int)) : erRows (List.map cI l) = List.map cI l := by
  rw [erRows_map, List.map_map]
  exact List.map_congr_left (fun x _ => by simp [V.er])
@[simp] theorem cI_p (l : List (Int)) : pureRows (List.map cI l) = true := by
  induction l with
  | nil => rfl
  | cons x l ih => simpa [pureRows, pureRow, pure0] using ih
@[simp] def cL48 (own : Bool) (x : List (Int)) : List V := [.sl own 3 (List.map cI x)]
theorem cL48_inj {own : Bool} : ∀ a b : List (Int), cL48 own a = cL48 own b → a = b := by
  intro a b h
  simp [cL48] at h
  exact h
@[simp] theorem cL48_m {own : Bool} {a b : List (List (Int))} : List.map (cL48 own) a = List.map (cL48 own) b ↔ a = b := ⟨map_inj' cL48_inj a b, fun h => by rw [h]⟩
@[simp] theorem cL48_e {own : Bool} (l : List (List (Int))) : erRows (List.map (cL48 own) l) = List.map (cL48 false) l := by
  rw [erRows_map, List.map_map]
  exact List.map_congr_left (fun x _ => by cases own <;> simp [V.er, ← erRows_map])
@[simp] theorem cL48_p (l : List (List (Int))) : pureRows (List.map (cL48 true) l) = true := by
  induction l with
  | nil => rfl
  | cons x l ih => simpa [pureRows, pureRow, pure0] using ih
@[simp] theorem cL48_n (j x : Nat) (l : List (List (Int))) : List.map (nzRow j x) (List.map (cL48 true) l) = List.map (cL48 true) l := nz_map (fun a => by simp [noNil]) j x l
@[simp] theorem cL48_o (j x : Nat) (l : List (List (Int))) : List.map (nzRow j x ∘ cL48 true) l = List.map (cL48 true) l := by rw [← List.map_map]; exact nz_map (fun a => by simp [noNil]) j x l
@[simp] def cL60 (own : Bool) (x : List (List (Int))) : List V := [.sl own 48 (List.map (cL48 own) x)]
theorem cL60_inj {own : Bool} : ∀ a b : List (List (Int)), cL60 own a = cL60 own b → a = b := by
  intro a b h
  simp [cL60] at h
  exact h
@[simp] theorem cL60_m {own : Bool} {a b : List (List (List (Int)))} : List.map (cL60 own) a = List.map (cL60 own) b ↔ a = b := ⟨map_inj' cL60_inj a b, fun h => by rw [h]⟩
@[simp] theorem cL60_e {own : Bool} (l : List (List (List (Int)))) : erRows (List.map (cL60 own) l) = List.map (cL60 false) l := by
  rw [erRows_map, List.map_map]
  exact List.map_congr_left (fun x _ => by cases own <;> simp [V.er, ← erRows_map])
@[simp] theorem cL60_p (l : List (List (List (Int)))) : pureRows (List.map (cL60 true) l) = true := by
  induction l with
  | nil => rfl
  | cons x l ih => simpa [pureRows, pureRow, pure0] using ih
@[simp] theorem cL60_n (j x : Nat) (l : List (List (List (Int)))) : List.map (nzRow j x) (List.map (cL60 true) l) = List.map (cL60 true) l := nz_map (fun a => by simp [noNil]) j x l
@[simp] theorem cL60_o (j x : Nat) (l : List (List (List (Int)))) : List.map (nzRow j x ∘ cL60 true) l = List.map (cL60 true) l := by rw [← List.map_map]; exact nz_map (fun a => by simp [noNil]) j x l
def cal_laws_szIntS (k : Nat) : Cal := calI (tabOf []) (inlOf [])
@[simp] theorem cal_laws_szIntS_ap (k g : Nat) (vs : List TV) (mem : Mem) (ep : Nat) : cal_laws_szIntS k g vs mem ep = calI (tabOf []) (inlOf []) g vs mem ep := rfl
theorem ok_laws_szIntS (k : Nat) (w0 : World) (h0 : True) : CalOk Try.prog w0.heap.size w0 (cal_laws_szIntS k) := by
  exact calI_ok (J := fun _ => True) stab_true (tabOf_ok _ (by simp [])) (inlOf_ok _ (by simp [])) h0
@[simp] def lm_laws_szIntS : Nat → List Nat × Nat := fun b => ([], 0)
@[simp] def arg_laws_szIntS (a : List (Int) × Int) : List TV := [.one (.sl false 3 (List.map cI a.1)), .one (.lit (.int .i64 a.2))]
@[simp] def res_laws_szIntS (r : Int) : Sh × List V := ((false, [none]), [.lit (.int .i64 r)])
def p_laws_szIntS (a0 : List (Int)) (a1 : Int) : Option Int :=
 if (IntKind.wrap .i64 (a1 - (a0.length : Int))) < 0 then
  some (-1)
 else
  some (IntKind.wrap .i64 (a1 - (a0.length : Int)))
theorem t_laws_szIntS {a0 : List (Int)} {a1 : Int} {r : Int} (h : p_laws_szIntS a0 a1 = some r) : ∃ k, told Try.prog (cal_laws_szIntS k) k lm_laws_szIntS Try.f63 (arg_laws_szIntS (a0, a1)) = some (res_laws_szIntS r) := by
  unfold p_laws_szIntS at h
  rcases ifc h with ⟨h1, h⟩ | ⟨h1, h⟩
  · obtain rfl := Option.some.inj h
    obtain ⟨k, hk⟩ : ∃ k, 0 ≤ k := ⟨_, Nat.le_refl _⟩
    refine ⟨k, ?_⟩
    simp (implicitDefEqProofs := false) [-getElem?_pos, -getElem?_neg, Try.f63, h1]
  obtain rfl := Option.some.inj h
  obtain ⟨k, hk⟩ : ∃ k, 0 ≤ k := ⟨_, Nat.le_refl _⟩
  refine ⟨k, ?_⟩
  simp (implicitDefEqProofs := false) [-getElem?_pos, -getElem?_neg, Try.f63, h1]
theorem inj_laws_szIntS : ∀ a b, arg_laws_szIntS a = arg_laws_szIntS b → a = b := by
  rintro ⟨x0, x1⟩ ⟨y0, y1⟩ h; simp [arg_laws_szIntS] at h; simp [Prod.ext_iff, h]
noncomputable def F_laws_szIntS : Con := nilfix [[some 3], [none]] (pcon arg_laws_szIntS (fun a => p_laws_szIntS a.1 a.2) res_laws_szIntS)
theorem fn_laws_szIntS : Fn Try.prog 63 F_laws_szIntS := (Fn.pure cal_laws_szIntS (fun k w0 h0 => ok_laws_szIntS k w0 h0) mixed Try.func63 rfl rfl (by kernel_rfl) 2 (by decide) (fun _ => rfl) lm_laws_szIntS (fun a b h => t_laws_szIntS h)).nilfix _
theorem c_laws_szIntS {a0 : List (Int)} {a1 : Int} {r : Int} (h : p_laws_szIntS a0 a1 = some r) : F_laws_szIntS [.one (.sl false 3 (List.map cI a0)), .one (.lit (.int .i64 a1))] = some (((false, [none]), [.lit (.int .i64 r)])) := pcon_at (arg := arg_laws_szIntS) (p := fun a => p_laws_szIntS a.1 a.2) (res := res_laws_szIntS) (a := (a0, a1)) (b := r) inj_laws_szIntS h
noncomputable def cal_laws_szIntSS (k : Nat) : Cal := calI (tabOf [(63, F_laws_szIntS)]) (inlOf [])
@[simp] theorem cal_laws_szIntSS_ap (k g : Nat) (vs : List TV) (mem : Mem) (ep : Nat) : cal_laws_szIntSS k g vs mem ep = calI (tabOf [(63, F_laws_szIntS)]) (inlOf []) g vs mem ep := rfl
theorem ok_laws_szIntSS (k : Nat) (w0 : World) (h0 : True) : CalOk Try.prog w0.heap.size w0 (cal_laws_szIntSS k) := by
  exact calI_ok (J := fun _ => True) stab_true (tabOf_ok _ (by simp [fn_laws_szIntS])) (inlOf_ok _ (by simp [])) h0
@[simp] def lm_laws_szIntSS : Nat → List Nat × Nat := fun b => if b = 0 then ([0, 1, 5], 0) else if b = 2000000 then ([], 8888888) else if b = 3000000 then ([1], 0) else ([], 0)
@[simp] def arg_laws_szIntSS (a : List (List (Int)) × Int) : List TV := [.one (.sl false 48 (List.map (cL48 false) a.1)), .one (.lit (.int .i64 a.2))]
@[simp] def res_laws_szIntSS (r : Int) : Sh × List V := ((false, [none]), [.lit (.int .i64 r)])
def p_laws_szIntSS_L0 (a0 : List (List (Int))) (x1b0 : Int) (x5b0 : Int) : Option (Int ⊕ Int) :=
 if x5b0 < (a0.length : Int) then
  if 0 ≤ x5b0 then
   a0[x5b0.toNat]? >>= fun y17 =>
   p_laws_szIntS y17 x1b0 >>= fun y20 =>
   if y20 < 0 then
    some (.inl (-1))
   else
    p_laws_szIntSS_L0 a0 y20 (IntKind.wrap .i64 (x5b0 + 1))
  else none
 else
  some (.inr x1b0)
partial_fixpoint
@[simp] noncomputable def L_laws_szIntSS_L0 : Code := nav [1, 1, 1, 0, 1, 0, 0] (bodyOf Try.f51)
@[simp] def T_laws_szIntSS_L0 (a0 : List (List (Int))) (x1b0 : Int) (x5b0 : Int) (st : Nat → Nat) : St := ⟨[(0, .one (.sl false 48 (List.map (cL48 false) a0))), (1, .one (.lit (.int .i64 x1b0))), (5, .one (.lit (.int .i64 x5b0)))], [none], (st 0)⟩
@[simp] def U_laws_szIntSS_L0 (a0 : List (List (Int))) (o : Int) (st : Nat → Nat) : St := ⟨[(1, .one (.lit (.int .i64 o)))], [none], (st 0)⟩
abbrev Q_laws_szIntSS_L0 (a0 : List (List (Int))) (x1b0 : Int) (x5b0 : Int) (o : Int ⊕ Int) : Prop := ∀ st : Nat → Nat, LoopT Try.prog cal_laws_szIntSS 1 lm_laws_szIntSS 0 L_laws_szIntSS_L0 (tellS Try.prog lm_laws_szIntSS [.tmp 4]) res_laws_szIntSS (U_laws_szIntSS_L0 a0) (T_laws_szIntSS_L0 a0 x1b0 x5b0 st) o
theorem l_laws_szIntSS_L0 {a0 : List (List (Int))} {x1b0 : Int} {x5b0 : Int} {o : Int ⊕ Int} (h : p_laws_szIntSS_L0 a0 x1b0 x5b0 = some o) : Q_laws_szIntSS_L0 a0 x1b0 x5b0 o := by
  refine p_laws_szIntSS_L0.partial_correctness a0 (motive := fun x1b0 x5b0 o => Q_laws_szIntSS_L0 a0 x1b0 x5b0 o) ?_ x1b0 x5b0 o h
  clear h o x1b0 x5b0
  intro p' ih x1b0 x5b0 r h st
  rcases ifc h with ⟨h15, h⟩ | ⟨h15, h⟩
  · obtain ⟨h16, h⟩ := ifg h
    obtain ⟨y17, h18, h⟩ := bd h
    obtain ⟨y20, h19, h⟩ := bd h
    have h19c := c_laws_szIntS h19
    rcases ifc h with ⟨h21, h⟩ | ⟨h21, h⟩
    · obtain rfl := Option.some.inj h
      exact LoopT.ret 0 (fun k hk => by simp (implicitDefEqProofs := false) [-getElem?_pos, -getElem?_neg, Try.f51, h15, h16, h18, h19c, h21])
    exact LoopT.step 0 (fun k hk => by simp (implicitDefEqProofs := false) [-getElem?_pos, -getElem?_neg, Try.f51, h15, h16, h18, h19c, h21]) (ih _ _ _ h (sl [((st 0) + 1)]))
  obtain rfl := Option.some.inj h
  exact LoopT.exit (sl [(st 0)]) 0 (fun k hk => by simp (implicitDefEqProofs := false) [-getElem?_pos, -getElem?_neg, Try.f51, h15])
def p_laws_szIntSS (a0 : List (List (Int))) (a1 : Int) : Option Int :=
 if (IntKind.wrap .i64 (a1 - (a0.length : Int))) < 0 then
  some (-1)
 else
  p_laws_szIntSS_L0 a0 (IntKind.wrap .i64 (a1 - (a0.length : Int))) 0 >>= fun o23 => match o23 with
  | .inl o23 =>
   some o23
  | .inr o23 =>
   some o23
theorem t_laws_szIntSS {a0 : List (List (Int))} {a1 : Int} {r : Int} (h : p_laws_szIntSS a0 a1 = some r) : ∃ k, told Try.prog (cal_laws_szIntSS k) k lm_laws_szIntSS Try.f51 (arg_laws_szIntSS (a0, a1)) = some (res_laws_szIntSS r) := by
  unfold p_laws_szIntSS at h
  rcases ifc h with ⟨h1, h⟩ | ⟨h1, h⟩
  · obtain rfl := Option.some.inj h
    obtain ⟨k, hk⟩ : ∃ k, 0 ≤ k := ⟨_, Nat.le_refl _⟩
    refine ⟨k, ?_⟩
    simp (implicitDefEqProofs := false) [-getElem?_pos, -getElem?_neg, Try.f51, h1]
  obtain ⟨o23, h22, h⟩ := bd h
  have qK24 := l_laws_szIntSS_L0 h22 (sl [1])
  rcases o23 with o23 | o23
  · obtain ⟨K24, qK24⟩ := qK24
    obtain rfl := Option.some.inj h
    obtain ⟨k, hk⟩ : ∃ k, K24 ≤ k := ⟨_, Nat.le_refl _⟩
    obtain ⟨S_K24, jK24, iK24⟩ := qK24 k (by omega) k (by omega)
    simp (implicitDefEqProofs := false) [-getElem?_pos, -getElem?_neg, Try.f51, h1] at jK24
    refine ⟨k, ?_⟩
    simp (implicitDefEqProofs := false) [-getElem?_pos, -getElem?_neg, Try.f51, h1, iK24, jK24]
  obtain ⟨s25, K24, qK24⟩ := qK24
  obtain rfl := Option.some.inj h
  obtain ⟨k, hk⟩ : ∃ k, K24 ≤ k := ⟨_, Nat.le_refl _⟩
  have jK24 := qK24 k (by omega) k (by omega)
  simp (implicitDefEqProofs := false) [-getElem?_pos, -getElem?_neg, Try.f51, h1] at jK24
  refine ⟨k, ?_⟩
  simp (implicitDefEqProofs := false) [-getElem?_pos, -getElem?_neg, Try.f51, h1, jK24]
theorem inj_laws_szIntSS : ∀ a b, arg_laws_szIntSS a = arg_laws_szIntSS b → a = b := by
  rintro ⟨x0, x1⟩ ⟨y0, y1⟩ h; simp [arg_laws_szIntSS] at h; simp [Prod.ext_iff, h]
noncomputable def F_laws_szIntSS : Con := nilfix [[some 48], [none]] (pcon arg_laws_szIntSS (fun a => p_laws_szIntSS a.1 a.2) res_laws_szIntSS)
theorem fn_laws_szIntSS : Fn Try.prog 51 F_laws_szIntSS := (Fn.pure cal_laws_szIntSS (fun k w0 h0 => ok_laws_szIntSS k w0 h0) mixed Try.func51 rfl rfl (by kernel_rfl) 2 (by decide) (fun _ => rfl) lm_laws_szIntSS (fun a b h => t_laws_szIntSS h)).nilfix _
theorem c_laws_szIntSS {a0 : List (List (Int))} {a1 : Int} {r : Int} (h : p_laws_szIntSS a0 a1 = some r) : F_laws_szIntSS [.one (.sl false 48 (List.map (cL48 false) a0)), .one (.lit (.int .i64 a1))] = some (((false, [none]), [.lit (.int .i64 r)])) := pcon_at (arg := arg_laws_szIntSS) (p := fun a => p_laws_szIntSS a.1 a.2) (res := res_laws_szIntSS) (a := (a0, a1)) (b := r) inj_laws_szIntSS h
noncomputable def cal_laws_szIntSSS (k : Nat) : Cal := calI (tabOf [(51, F_laws_szIntSS)]) (inlOf [])
@[simp] theorem cal_laws_szIntSSS_ap (k g : Nat) (vs : List TV) (mem : Mem) (ep : Nat) : cal_laws_szIntSSS k g vs mem ep = calI (tabOf [(51, F_laws_szIntSS)]) (inlOf []) g vs mem ep := rfl
theorem ok_laws_szIntSSS (k : Nat) (w0 : World) (h0 : True) : CalOk Try.prog w0.heap.size w0 (cal_laws_szIntSSS k) := by
  exact calI_ok (J := fun _ => True) stab_true (tabOf_ok _ (by simp [fn_laws_szIntSS])) (inlOf_ok _ (by simp [])) h0
@[simp] def lm_laws_szIntSSS : Nat → List Nat × Nat := fun b => if b = 0 then ([0, 1, 5], 0) else if b = 2000000 then ([], 8888888) else if b = 3000000 then ([1], 0) else ([], 0)
@[simp] def arg_laws_szIntSSS (a : List (List (List (Int))) × Int) : List TV := [.one (.sl false 60 (List.map (cL60 false) a.1)), .one (.lit (.int .i64 a.2))]
@[simp] def res_laws_szIntSSS (r : Int) : Sh × List V := ((false, [none]), [.lit (.int .i64 r)])
def p_laws_szIntSSS_L0 (a0 : List (List (List (Int)))) (x1b0 : Int) (x5b0 : Int) : Option (Int ⊕ Int) :=
 if x5b0 < (a0.length : Int) then
  if 0 ≤ x5b0 then
   a0[x5b0.toNat]? >>= fun y17 =>
   p_laws_szIntSS y17 x1b0 >>= fun y20 =>
   if y20 < 0 then
    some (.inl (-1))
   else
    p_laws_szIntSSS_L0 a0 y20 (IntKind.wrap .i64 (x5b0 + 1))
  else none
 else
  some (.inr x1b0)
partial_fixpoint
@[simp] noncomputable def L_laws_szIntSSS_L0 : Code := nav [1, 1, 1, 0, 1, 0, 0] (bodyOf Try.f37)
@[simp] def T_laws_szIntSSS_L0 (a0 : List (List (List (Int)))) (x1b0 : Int) (x5b0 : Int) (st : Nat → Nat) : St := ⟨[(0, .one (.sl false 60 (List.map (cL60 false) a0))), (1, .one (.lit (.int .i64 x1b0))), (5, .one (.lit (.int .i64 x5b0)))], [none], (st 0)⟩
@[simp] def U_laws_szIntSSS_L0 (a0 : List (List (List (Int)))) (o : Int) (st : Nat → Nat) : St := ⟨[(1, .one (.lit (.int .i64 o)))], [none], (st 0)⟩
abbrev Q_laws_szIntSSS_L0 (a0 : List (List (List (Int)))) (x1b0 : Int) (x5b0 : Int) (o : Int ⊕ Int) : Prop := ∀ st : Nat → Nat, LoopT Try.prog cal_laws_szIntSSS 1 lm_laws_szIntSSS 0 L_laws_szIntSSS_L0 (tellS Try.prog lm_laws_szIntSSS [.tmp 4]) res_laws_szIntSSS (U_laws_szIntSSS_L0 a0) (T_laws_szIntSSS_L0 a0 x1b0 x5b0 st) o
theorem l_laws_szIntSSS_L0 {a0 : List (List (List (Int)))} {x1b0 : Int} {x5b0 : Int} {o : Int ⊕ Int} (h : p_laws_szIntSSS_L0 a0 x1b0 x5b0 = some o) : Q_laws_szIntSSS_L0 a0 x1b0 x5b0 o := by
  refine p_laws_szIntSSS_L0.partial_correctness a0 (motive := fun x1b0 x5b0 o => Q_laws_szIntSSS_L0 a0 x1b0 x5b0 o) ?_ x1b0 x5b0 o h
  clear h o x1b0 x5b0
  intro p' ih x1b0 x5b0 r h st
  rcases ifc h with ⟨h15, h⟩ | ⟨h15, h⟩
  · obtain ⟨h16, h⟩ := ifg h
    obtain ⟨y17, h18, h⟩ := bd h
    obtain ⟨y20, h19, h⟩ := bd h
    have h19c := c_laws_szIntSS h19
    rcases ifc h with ⟨h21, h⟩ | ⟨h21, h⟩
    · obtain rfl := Option.some.inj h
      exact LoopT.ret 0 (fun k hk => by simp (implicitDefEqProofs := false) [-getElem?_pos, -getElem?_neg, Try.f37, h15, h16, h18, h19c, h21])
    exact LoopT.step 0 (fun k hk => by simp (implicitDefEqProofs := false) [-getElem?_pos, -getElem?_neg, Try.f37, h15, h16, h18, h19c, h21]) (ih _ _ _ h (sl [((st 0) + 1)]))
  obtain rfl := Option.some.inj h
  exact LoopT.exit (sl [(st 0)]) 0 (fun k hk => by simp (implicitDefEqProofs := false) [-getElem?_pos, -getElem?_neg, Try.f37, h15])
def p_laws_szIntSSS (a0 : List (List (List (Int)))) (a1 : Int) : Option Int :=
 if (IntKind.wrap .i64 (a1 - (a0.length : Int))) < 0 then
  some (-1)
 else
  p_laws_szIntSSS_L0 a0 (IntKind.wrap .i64 (a1 - (a0.length : Int))) 0 >>= fun o23 => match o23 with
  | .inl o23 =>
   some o23
  | .inr o23 =>
   some o23
theorem t_laws_szIntSSS {a0 : List (List (List (Int)))} {a1 : Int} {r : Int} (h : p_laws_szIntSSS a0 a1 = some r) : ∃ k, told Try.prog (cal_laws_szIntSSS k) k lm_laws_szIntSSS Try.f37 (arg_laws_szIntSSS (a0, a1)) = some (res_laws_szIntSSS r) := by
  unfold p_laws_szIntSSS at h
  rcases ifc h with ⟨h1, h⟩ | ⟨h1, h⟩
  · obtain rfl := Option.some.inj h
    obtain ⟨k, hk⟩ : ∃ k, 0 ≤ k := ⟨_, Nat.le_refl _⟩
    refine ⟨k, ?_⟩
    simp (implicitDefEqProofs := false) [-getElem?_pos, -getElem?_neg, Try.f37, h1]
  obtain ⟨o23, h22, h⟩ := bd h
  have qK24 := l_laws_szIntSSS_L0 h22 (sl [1])
  rcases o23 with o23 | o23
  · obtain ⟨K24, qK24⟩ := qK24
    obtain rfl := Option.some.inj h
    obtain ⟨k, hk⟩ : ∃ k, K24 ≤ k := ⟨_, Nat.le_refl _⟩
    obtain ⟨S_K24, jK24, iK24⟩ := qK24 k (by omega) k (by omega)
    simp (implicitDefEqProofs := false) [-getElem?_pos, -getElem?_neg, Try.f37, h1] at jK24
    refine ⟨k, ?_⟩
    simp (implicitDefEqProofs := false) [-getElem?_pos, -getElem?_neg, Try.f37, h1, iK24, jK24]
  obtain ⟨s25, K24, qK24⟩ := qK24
  obtain rfl := Option.some.inj h
  obtain ⟨k, hk⟩ : ∃ k, K24 ≤ k := ⟨_, Nat.le_refl _⟩
  have jK24 := qK24 k (by omega) k (by omega)
  simp (implicitDefEqProofs := false) [-getElem?_pos, -getElem?_neg, Try.f37, h1] at jK24
  refine ⟨k, ?_⟩
  simp (implicitDefEqProofs := false) [-getElem?_pos, -getElem?_neg, Try.f37, h1, jK24]
theorem inj_laws_szIntSSS : ∀ a b, arg_laws_szIntSSS a = arg_laws_szIntSSS b → a = b := by
  rintro ⟨x0, x1⟩ ⟨y0, y1⟩ h; simp [arg_laws_szIntSSS] at h; simp [Prod.ext_iff, h]
noncomputable def F_laws_szIntSSS : Con := nilfix [[some 60], [none]] (pcon arg_laws_szIntSSS (fun a => p_laws_szIntSSS a.1 a.2) res_laws_szIntSSS)
theorem fn_laws_szIntSSS : Fn Try.prog 37 F_laws_szIntSSS := (Fn.pure cal_laws_szIntSSS (fun k w0 h0 => ok_laws_szIntSSS k w0 h0) mixed Try.func37 rfl rfl (by kernel_rfl) 2 (by decide) (fun _ => rfl) lm_laws_szIntSSS (fun a b h => t_laws_szIntSSS h)).nilfix _
theorem c_laws_szIntSSS {a0 : List (List (List (Int)))} {a1 : Int} {r : Int} (h : p_laws_szIntSSS a0 a1 = some r) : F_laws_szIntSSS [.one (.sl false 60 (List.map (cL60 false) a0)), .one (.lit (.int .i64 a1))] = some (((false, [none]), [.lit (.int .i64 r)])) := pcon_at (arg := arg_laws_szIntSSS) (p := fun a => p_laws_szIntSSS a.1 a.2) (res := res_laws_szIntSSS) (a := (a0, a1)) (b := r) inj_laws_szIntSSS h
noncomputable def cal_laws_szGram (k : Nat) : Cal := calI (tabOf [(37, F_laws_szIntSSS)]) (inlOf [])
@[simp] theorem cal_laws_szGram_ap (k g : Nat) (vs : List TV) (mem : Mem) (ep : Nat) : cal_laws_szGram k g vs mem ep = calI (tabOf [(37, F_laws_szIntSSS)]) (inlOf []) g vs mem ep := rfl
theorem ok_laws_szGram (k : Nat) (w0 : World) (h0 : True) : CalOk Try.prog w0.heap.size w0 (cal_laws_szGram k) := by
  exact calI_ok (J := fun _ => True) stab_true (tabOf_ok _ (by simp [fn_laws_szIntSSS])) (inlOf_ok _ (by simp [])) h0
@[simp] def lm_laws_szGram : Nat → List Nat × Nat := fun b => ([], 0)
@[simp] def arg_laws_szGram (a : List (List (List (Int))) × Int) : List TV := [.agg [.sl false 60 (List.map (cL60 false) a.1)], .one (.lit (.int .i64 a.2))]
@[simp] def res_laws_szGram (r : Int) : Sh × List V := ((false, [none]), [.lit (.int .i64 r)])
def p_laws_szGram (a0 : List (List (List (Int)))) (a1 : Int) : Option Int :=
 p_laws_szIntSSS a0 a1 >>= fun y2 =>
 if y2 < 0 then
  some (-1)
 else
  some y2
theorem t_laws_szGram {a0 : List (List (List (Int)))} {a1 : Int} {r : Int} (h : p_laws_szGram a0 a1 = some r) : ∃ k, told Try.prog (cal_laws_szGram k) k lm_laws_szGram Try.f18 (arg_laws_szGram (a0, a1)) = some (res_laws_szGram r) := by
  unfold p_laws_szGram at h
  obtain ⟨y2, h1, h⟩ := bd h
  have h1c := c_laws_szIntSSS h1
  rcases ifc h with ⟨h3, h⟩ | ⟨h3, h⟩
  · obtain rfl := Option.some.inj h
    obtain ⟨k, hk⟩ : ∃ k, 0 ≤ k := ⟨_, Nat.le_refl _⟩
    refine ⟨k, ?_⟩
    simp (implicitDefEqProofs := false) [-getElem?_pos, -getElem?_neg, Try.f18, h1c, h3]
  obtain rfl := Option.some.inj h
  obtain ⟨k, hk⟩ : ∃ k, 0 ≤ k := ⟨_, Nat.le_refl _⟩
  refine ⟨k, ?_⟩
  simp (implicitDefEqProofs := false) [-getElem?_pos, -getElem?_neg, Try.f18, h1c, h3]
theorem inj_laws_szGram : ∀ a b, arg_laws_szGram a = arg_laws_szGram b → a = b := by
  rintro ⟨x0, x1⟩ ⟨y0, y1⟩ h; simp [arg_laws_szGram] at h; simp [Prod.ext_iff, h]
noncomputable def F_laws_szGram : Con := nilfix [[some 60], [none]] (pcon arg_laws_szGram (fun a => p_laws_szGram a.1 a.2) res_laws_szGram)
theorem fn_laws_szGram : Fn Try.prog 18 F_laws_szGram := (Fn.pure cal_laws_szGram (fun k w0 h0 => ok_laws_szGram k w0 h0) mixed Try.func18 rfl rfl (by kernel_rfl) 2 (by decide) (fun _ => rfl) lm_laws_szGram (fun a b h => t_laws_szGram h)).nilfix _
theorem c_laws_szGram {a0 : List (List (List (Int)))} {a1 : Int} {r : Int} (h : p_laws_szGram a0 a1 = some r) : F_laws_szGram [.agg [.sl false 60 (List.map (cL60 false) a0)], .one (.lit (.int .i64 a1))] = some (((false, [none]), [.lit (.int .i64 r)])) := pcon_at (arg := arg_laws_szGram) (p := fun a => p_laws_szGram a.1 a.2) (res := res_laws_szGram) (a := (a0, a1)) (b := r) inj_laws_szGram h
def cal_laws_toIntS (k : Nat) : Cal := calI (tabOf []) (inlOf [])
@[simp] theorem cal_laws_toIntS_ap (k g : Nat) (vs : List TV) (mem : Mem) (ep : Nat) : cal_laws_toIntS k g vs mem ep = calI (tabOf []) (inlOf []) g vs mem ep := rfl
theorem ok_laws_toIntS (k : Nat) (w0 : World) (h0 : True) : CalOk Try.prog w0.heap.size w0 (cal_laws_toIntS k) := by
  exact calI_ok (J := fun _ => True) stab_true (tabOf_ok _ (by simp [])) (inlOf_ok _ (by simp [])) h0
@[simp] def lm_laws_toIntS : Nat → List Nat × Nat := fun b => if b = 0 then ([0, 3, 4], 1) else if b = 2000000 then ([], 8888888) else if b = 3000000 then ([3], 1) else ([], 0)
@[simp] def arg_laws_toIntS (a : List (Int)) : List TV := [.one (.sl false 3 (List.map cI a))]
@[simp] def res_laws_toIntS (r : List (Int)) : Sh × List V := ((false, [none]), [.sl true 3 (List.map cI r)])
def p_laws_toIntS_L0 (a0 : List (Int)) (x4b0 : Int) (l1b0 : List (Int)) : Option (List (Int)) :=
 if x4b0 < (a0.length : Int) then
  if 0 ≤ x4b0 then
   a0[x4b0.toNat]? >>= fun y29 =>
   l1b0[x4b0.toNat]? >>= fun y31 =>
   some (List.set l1b0 x4b0.toNat y29) >>= fun l33 =>
   p_laws_toIntS_L0 a0 (IntKind.wrap .i64 (x4b0 + 1)) l33
  else none
 else
  some l1b0
partial_fixpoint
@[simp] noncomputable def L_laws_toIntS_L0 : Code := nav [1, 1, 0, 1, 0, 0] (bodyOf Try.f64)
@[simp] def T_laws_toIntS_L0 (a0 : List (Int)) (x4b0 : Int) (l1b0 : List (Int)) (st : Nat → Nat) : St := ⟨[(0, .one (.sl false 3 (List.map cI a0))), (3, .one (.ow 1 1)), (4, .one (.lit (.int .i64 x4b0)))], [none, some (.rows 1 1 3 (List.map cI l1b0))], (st 0)⟩
@[simp] def U_laws_toIntS_L0 (a0 : List (Int)) (o : List (Int)) (st : Nat → Nat) : St := ⟨[(3, .one (.ow 1 1))], [none, some (.rows 1 1 3 (List.map cI o))], (st 0)⟩
abbrev Q_laws_toIntS_L0 (a0 : List (Int)) (x4b0 : Int) (l1b0 : List (Int)) (o : List (Int)) : Prop := ∀ st : Nat → Nat, LoopG Try.prog cal_laws_toIntS 1 lm_laws_toIntS 0 L_laws_toIntS_L0 (U_laws_toIntS_L0 a0) (T_laws_toIntS_L0 a0 x4b0 l1b0 st) o
theorem l_laws_toIntS_L0 {a0 : List (Int)} {x4b0 : Int} {l1b0 : List (Int)} {o : List (Int)} (h : p_laws_toIntS_L0 a0 x4b0 l1b0 = some o) : Q_laws_toIntS_L0 a0 x4b0 l1b0 o := by
  refine p_laws_toIntS_L0.partial_correctness a0 (motive := fun x4b0 l1b0 o => Q_laws_toIntS_L0 a0 x4b0 l1b0 o) ?_ x4b0 l1b0 o h
  clear h o x4b0 l1b0
  intro p' ih x4b0 l1b0 r h st
  rcases ifc h with ⟨h27, h⟩ | ⟨h27, h⟩
  · obtain ⟨h28, h⟩ := ifg h
    obtain ⟨y29, h30, h⟩ := bd h
    obtain ⟨y31, h32, h⟩ := bd h
    have h32b := (List.getElem?_eq_some_iff.1 h32).1
    obtain ⟨l33, h34, h⟩ := bd h
    have h34r : (List.map cI l1b0).set x4b0.toNat [.lit (.int .i64 y29)] = List.map cI l33 := by rw [← Option.some.inj h34]; simp
    exact LoopG.step 0 (fun k hk => by simp (implicitDefEqProofs := false) [-getElem?_pos, -getElem?_neg, Try.f64, h27, h28, h30, h32, h32b, h34r]) (ih _ _ _ h (sl [(st 0)]))
  obtain rfl := Option.some.inj h
  exact LoopG.exit (sl [(st 0)]) 0 (fun k hk => by simp (implicitDefEqProofs := false) [-getElem?_pos, -getElem?_neg, Try.f64, h27])
def p_laws_toIntS (a0 : List (Int)) : Option (List (Int)) :=
 if a0.length * 8 ≤ 140737488355328 then
  some (List.replicate a0.length 0) >>= fun l2 =>
  p_laws_toIntS_L0 a0 0 l2 >>= fun o36 =>
  some o36
 else none
theorem t_laws_toIntS {a0 : List (Int)} {r : List (Int)} (h : p_laws_toIntS a0 = some r) : ∃ k, told Try.prog (cal_laws_toIntS k) k lm_laws_toIntS Try.f64 (arg_laws_toIntS a0) = some (res_laws_toIntS r) := by
  unfold p_laws_toIntS at h
  obtain ⟨h1, h⟩ := ifg h
  have h1b : a0.length ≤ 9223372036854775807 := by omega
  obtain ⟨l2, h3, h⟩ := bd h
  have h3r : List.replicate a0.length [.lit (.int .i64 0)] = List.map cI l2 := by rw [← Option.some.inj h3]; simp
  obtain ⟨o36, h35, h⟩ := bd h
  have qK37 := l_laws_toIntS_L0 h35 (sl [2])
  obtain ⟨s38, K37, qK37⟩ := qK37
  obtain rfl := Option.some.inj h
  obtain ⟨k, hk⟩ : ∃ k, K37 ≤ k := ⟨_, Nat.le_refl _⟩
  have jK37 := qK37 k (by omega) k (by omega)
  simp (implicitDefEqProofs := false) [-getElem?_pos, -getElem?_neg, Try.f64, h1, h1b, h3r] at jK37
  refine ⟨k, ?_⟩
  simp (implicitDefEqProofs := false) [-getElem?_pos, -getElem?_neg, Try.f64, h1, h1b, h3r, jK37]
theorem inj_laws_toIntS : ∀ a b, arg_laws_toIntS a = arg_laws_toIntS b → a = b := by
  intro x y h; simp [arg_laws_toIntS] at h; simp [Prod.ext_iff, h]
noncomputable def F_laws_toIntS : Con := nilfix [[some 3]] (pcon arg_laws_toIntS (fun a => p_laws_toIntS a) res_laws_toIntS)
theorem fn_laws_toIntS : Fn Try.prog 64 F_laws_toIntS := (Fn.pure cal_laws_toIntS (fun k w0 h0 => ok_laws_toIntS k w0 h0) mixed Try.func64 rfl rfl (by kernel_rfl) 1 (by decide) (fun _ => rfl) lm_laws_toIntS (fun a b h => t_laws_toIntS h)).nilfix _
theorem c_laws_toIntS {a0 : List (Int)} {r : List (Int)} (h : p_laws_toIntS a0 = some r) : F_laws_toIntS [.one (.sl false 3 (List.map cI a0))] = some (((false, [none]), [.sl true 3 (List.map cI r)])) := pcon_at (arg := arg_laws_toIntS) (p := fun a => p_laws_toIntS a) (res := res_laws_toIntS) (a := a0) (b := r) inj_laws_toIntS h
noncomputable def cal_laws_toIntSS (k : Nat) : Cal := calI (tabOf [(64, F_laws_toIntS)]) (inlOf [])
@[simp] theorem cal_laws_toIntSS_ap (k g : Nat) (vs : List TV) (mem : Mem) (ep : Nat) : cal_laws_toIntSS k g vs mem ep = calI (tabOf [(64, F_laws_toIntS)]) (inlOf []) g vs mem ep := rfl
theorem ok_laws_toIntSS (k : Nat) (w0 : World) (h0 : True) : CalOk Try.prog w0.heap.size w0 (cal_laws_toIntSS k) := by
  exact calI_ok (J := fun _ => True) stab_true (tabOf_ok _ (by simp [fn_laws_toIntS])) (inlOf_ok _ (by simp [])) h0
@[simp] def lm_laws_toIntSS : Nat → List Nat × Nat := fun b => if b = 0 then ([0, 3, 4], 1) else if b = 2000000 then ([], 8888888) else if b = 3000000 then ([3], 1) else if b = 1000001 then ([4, 7, 0, 3], 8888888) else ([], 0)
@[simp] def arg_laws_toIntSS (a : List (List (Int))) : List TV := [.one (.sl false 48 (List.map (cL48 false) a))]
@[simp] def res_laws_toIntSS (r : List (List (Int))) : Sh × List V := ((false, [none]), [.sl true 48 (List.map (cL48 true) r)])
def p_laws_toIntSS_L0 (a0 : List (List (Int))) (x4b0 : Int) (l1b0 : List (List (Int))) : Option (List (List (Int))) :=
 if x4b0 < (a0.length : Int) then
  if 0 ≤ x4b0 then
   a0[x4b0.toNat]? >>= fun y35 =>
   p_laws_toIntS y35 >>= fun y38 =>
   l1b0[x4b0.toNat]? >>= fun y39 =>
   some (List.set l1b0 x4b0.toNat y38) >>= fun l41 =>
   p_laws_toIntSS_L0 a0 (IntKind.wrap .i64 (x4b0 + 1)) l41
  else none
 else
  some l1b0
partial_fixpoint
@[simp] noncomputable def L_laws_toIntSS_L0 : Code := nav [1, 1, 0, 1, 0, 0] (bodyOf Try.f53)
@[simp] def T_laws_toIntSS_L0 (a0 : List (List (Int))) (x4b0 : Int) (l1b0 : List (List (Int))) (st : Nat → Nat) : St := ⟨[(0, .one (.sl false 48 (List.map (cL48 false) a0))), (3, .one (.ow 1 1)), (4, .one (.lit (.int .i64 x4b0)))], [none, some (.rows 1 (st 1) 48 (List.map (cL48 true) l1b0))], (st 0)⟩
@[simp] def U_laws_toIntSS_L0 (a0 : List (List (Int))) (o : List (List (Int))) (st : Nat → Nat) : St := ⟨[(3, .one (.ow 1 1))], [none, some (.rows 1 (st 1) 48 (List.map (cL48 true) o))], (st 0)⟩
abbrev Q_laws_toIntSS_L0 (a0 : List (List (Int))) (x4b0 : Int) (l1b0 : List (List (Int))) (o : List (List (Int))) : Prop := ∀ st : Nat → Nat, LoopG Try.prog cal_laws_toIntSS 1 lm_laws_toIntSS 0 L_laws_toIntSS_L0 (U_laws_toIntSS_L0 a0) (T_laws_toIntSS_L0 a0 x4b0 l1b0 st) o
theorem l_laws_toIntSS_L0 {a0 : List (List (Int))} {x4b0 : Int} {l1b0 : List (List (Int))} {o : List (List (Int))} (h : p_laws_toIntSS_L0 a0 x4b0 l1b0 = some o) : Q_laws_toIntSS_L0 a0 x4b0 l1b0 o := by
  refine p_laws_toIntSS_L0.partial_correctness a0 (motive := fun x4b0 l1b0 o => Q_laws_toIntSS_L0 a0 x4b0 l1b0 o) ?_ x4b0 l1b0 o h
  clear h o x4b0 l1b0
  intro p' ih x4b0 l1b0 r h st
  rcases ifc h with ⟨h33, h⟩ | ⟨h33, h⟩
  · obtain ⟨h34, h⟩ := ifg h
    obtain ⟨y35, h36, h⟩ := bd h
    obtain ⟨y38, h37, h⟩ := bd h
    have h37c := c_laws_toIntS h37
    obtain ⟨y39, h40, h⟩ := bd h
    have h40b := (List.getElem?_eq_some_iff.1 h40).1
    obtain ⟨l41, h42, h⟩ := bd h
    have h42r : (List.map (cL48 true) l1b0).set x4b0.toNat [.sl true 3 (List.map cI y38)] = List.map (cL48 true) l41 := by rw [← Option.some.inj h42]; simp
    exact LoopG.step 0 (fun k hk => by simp (implicitDefEqProofs := false) [-getElem?_pos, -getElem?_neg, Try.f53, h33, h34, h36, h37c, h40, h40b, h42r]) (ih _ _ _ h (sl [((st 0) + 2), ((st 0) + 1)]))
  obtain rfl := Option.some.inj h
  exact LoopG.exit (sl [(st 0), (st 1)]) 0 (fun k hk => by simp (implicitDefEqProofs := false) [-getElem?_pos, -getElem?_neg, Try.f53, h33])
def p_laws_toIntSS (a0 : List (List (Int))) : Option (List (List (Int))) :=
 if a0.length * 24 ≤ 140737488355328 then
  some (List.replicate a0.length ([])) >>= fun l2 =>
  p_laws_toIntSS_L0 a0 0 l2 >>= fun o44 =>
  some o44
 else none
theorem t_laws_toIntSS {a0 : List (List (Int))} {r : List (List (Int))} (h : p_laws_toIntSS a0 = some r) : ∃ k, told Try.prog (cal_laws_toIntSS k) k lm_laws_toIntSS Try.f53 (arg_laws_toIntSS a0) = some (res_laws_toIntSS r) := by
  unfold p_laws_toIntSS at h
  obtain ⟨h1, h⟩ := ifg h
  have h1b : a0.length ≤ 9223372036854775807 := by omega
  obtain ⟨l2, h3, h⟩ := bd h
  have h3r : List.replicate a0.length [.sl true 3 []] = List.map (cL48 true) l2 := by rw [← Option.some.inj h3]; simp
  obtain ⟨o44, h43, h⟩ := bd h
  have qK45 := l_laws_toIntSS_L0 h43 (sl [2, 1])
  obtain ⟨s46, K45, qK45⟩ := qK45
  obtain rfl := Option.some.inj h
  obtain ⟨k, hk⟩ : ∃ k, K45 ≤ k := ⟨_, Nat.le_refl _⟩
  have jK45 := qK45 k (by omega) k (by omega)
  simp (implicitDefEqProofs := false) [-getElem?_pos, -getElem?_neg, Try.f53, h1, h1b, h3r] at jK45
  refine ⟨k, ?_⟩
  simp (implicitDefEqProofs := false) [-getElem?_pos, -getElem?_neg, Try.f53, h1, h1b, h3r, jK45]
theorem inj_laws_toIntSS : ∀ a b, arg_laws_toIntSS a = arg_laws_toIntSS b → a = b := by
  intro x y h; simp [arg_laws_toIntSS] at h; simp [Prod.ext_iff, h]
noncomputable def F_laws_toIntSS : Con := nilfix [[some 48]] (pcon arg_laws_toIntSS (fun a => p_laws_toIntSS a) res_laws_toIntSS)
theorem fn_laws_toIntSS : Fn Try.prog 53 F_laws_toIntSS := (Fn.pure cal_laws_toIntSS (fun k w0 h0 => ok_laws_toIntSS k w0 h0) mixed Try.func53 rfl rfl (by kernel_rfl) 1 (by decide) (fun _ => rfl) lm_laws_toIntSS (fun a b h => t_laws_toIntSS h)).nilfix _
theorem c_laws_toIntSS {a0 : List (List (Int))} {r : List (List (Int))} (h : p_laws_toIntSS a0 = some r) : F_laws_toIntSS [.one (.sl false 48 (List.map (cL48 false) a0))] = some (((false, [none]), [.sl true 48 (List.map (cL48 true) r)])) := pcon_at (arg := arg_laws_toIntSS) (p := fun a => p_laws_toIntSS a) (res := res_laws_toIntSS) (a := a0) (b := r) inj_laws_toIntSS h
noncomputable def cal_laws_toIntSSS (k : Nat) : Cal := calI (tabOf [(53, F_laws_toIntSS)]) (inlOf [])
@[simp] theorem cal_laws_toIntSSS_ap (k g : Nat) (vs : List TV) (mem : Mem) (ep : Nat) : cal_laws_toIntSSS k g vs mem ep = calI (tabOf [(53, F_laws_toIntSS)]) (inlOf []) g vs mem ep := rfl
theorem ok_laws_toIntSSS (k : Nat) (w0 : World) (h0 : True) : CalOk Try.prog w0.heap.size w0 (cal_laws_toIntSSS k) := by
  exact calI_ok (J := fun _ => True) stab_true (tabOf_ok _ (by simp [fn_laws_toIntSS])) (inlOf_ok _ (by simp [])) h0
@[simp] def lm_laws_toIntSSS : Nat → List Nat × Nat := fun b => if b = 0 then ([0, 3, 4], 1) else if b = 2000000 then ([], 8888888) else if b = 3000000 then ([3], 1) else if b = 1000001 then ([4, 7, 0, 48], 8888888) else ([], 0)
@[simp] def arg_laws_toIntSSS (a : List (List (List (Int)))) : List TV := [.one (.sl false 60 (List.map (cL60 false) a))]
@[simp] def res_laws_toIntSSS (r : List (List (List (Int)))) : Sh × List V := ((false, [none]), [.sl true 60 (List.map (cL60 true) r)])
def p_laws_toIntSSS_L0 (a0 : List (List (List (Int)))) (x4b0 : Int) (l1b0 : List (List (List (Int)))) : Option (List (List (List (Int)))) :=
 if x4b0 < (a0.length : Int) then
  if 0 ≤ x4b0 then
   a0[x4b0.toNat]? >>= fun y35 =>
   p_laws_toIntSS y35 >>= fun y38 =>
   l1b0[x4b0.toNat]? >>= fun y39 =>
   some (List.set l1b0 x4b0.toNat y38) >>= fun l41 =>
   p_laws_toIntSSS_L0 a0 (IntKind.wrap .i64 (x4b0 + 1)) l41
  else none
 else
  some l1b0
partial_fixpoint
@[simp] noncomputable def L_laws_toIntSSS_L0 : Code := nav [1, 1, 0, 1, 0, 0] (bodyOf Try.f39)
@[simp] def T_laws_toIntSSS_L0 (a0 : List (List (List (Int)))) (x4b0 : Int) (l1b0 : List (List (List (Int)))) (st : Nat → Nat) : St := ⟨[(0, .one (.sl false 60 (List.map (cL60 false) a0))), (3, .one (.ow 1 1)), (4, .one (.lit (.int .i64 x4b0)))], [none, some (.rows 1 (st 1) 60 (List.map (cL60 true) l1b0))], (st 0)⟩
@[simp] def U_laws_toIntSSS_L0 (a0 : List (List (List (Int)))) (o : List (List (List (Int)))) (st : Nat → Nat) : St := ⟨[(3, .one (.ow 1 1))], [none, some (.rows 1 (st 1) 60 (List.map (cL60 true) o))], (st 0)⟩
abbrev Q_laws_toIntSSS_L0 (a0 : List (List (List (Int)))) (x4b0 : Int) (l1b0 : List (List (List (Int)))) (o : List (List (List (Int)))) : Prop := ∀ st : Nat → Nat, LoopG Try.prog cal_laws_toIntSSS 1 lm_laws_toIntSSS 0 L_laws_toIntSSS_L0 (U_laws_toIntSSS_L0 a0) (T_laws_toIntSSS_L0 a0 x4b0 l1b0 st) o
theorem l_laws_toIntSSS_L0 {a0 : List (List (List (Int)))} {x4b0 : Int} {l1b0 : List (List (List (Int)))} {o : List (List (List (Int)))} (h : p_laws_toIntSSS_L0 a0 x4b0 l1b0 = some o) : Q_laws_toIntSSS_L0 a0 x4b0 l1b0 o := by
  refine p_laws_toIntSSS_L0.partial_correctness a0 (motive := fun x4b0 l1b0 o => Q_laws_toIntSSS_L0 a0 x4b0 l1b0 o) ?_ x4b0 l1b0 o h
  clear h o x4b0 l1b0
  intro p' ih x4b0 l1b0 r h st
  rcases ifc h with ⟨h33, h⟩ | ⟨h33, h⟩
  · obtain ⟨h34, h⟩ := ifg h
    obtain ⟨y35, h36, h⟩ := bd h
    obtain ⟨y38, h37, h⟩ := bd h
    have h37c := c_laws_toIntSS h37
    obtain ⟨y39, h40, h⟩ := bd h
    have h40b := (List.getElem?_eq_some_iff.1 h40).1
    obtain ⟨l41, h42, h⟩ := bd h
    have h42r : (List.map (cL60 true) l1b0).set x4b0.toNat [.sl true 48 (List.map (cL48 true) y38)] = List.map (cL60 true) l41 := by rw [← Option.some.inj h42]; simp
    exact LoopG.step 0 (fun k hk => by simp (implicitDefEqProofs := false) [-getElem?_pos, -getElem?_neg, Try.f39, h33, h34, h36, h37c, h40, h40b, h42r]) (ih _ _ _ h (sl [((st 0) + 2), ((st 0) + 1)]))
  obtain rfl := Option.some.inj h
  exact LoopG.exit (sl [(st 0), (st 1)]) 0 (fun k hk => by simp (implicitDefEqProofs := false) [-getElem?_pos, -getElem?_neg, Try.f39, h33])
def p_laws_toIntSSS (a0 : List (List (List (Int)))) : Option (List (List (List (Int)))) :=
 if a0.length * 24 ≤ 140737488355328 then
  some (List.replicate a0.length ([])) >>= fun l2 =>
  p_laws_toIntSSS_L0 a0 0 l2 >>= fun o44 =>
  some o44
 else none
theorem t_laws_toIntSSS {a0 : List (List (List (Int)))} {r : List (List (List (Int)))} (h : p_laws_toIntSSS a0 = some r) : ∃ k, told Try.prog (cal_laws_toIntSSS k) k lm_laws_toIntSSS Try.f39 (arg_laws_toIntSSS a0) = some (res_laws_toIntSSS r) := by
  unfold p_laws_toIntSSS at h
  obtain ⟨h1, h⟩ := ifg h
  have h1b : a0.length ≤ 9223372036854775807 := by omega
  obtain ⟨l2, h3, h⟩ := bd h
  have h3r : List.replicate a0.length [.sl true 48 []] = List.map (cL60 true) l2 := by rw [← Option.some.inj h3]; simp
  obtain ⟨o44, h43, h⟩ := bd h
  have qK45 := l_laws_toIntSSS_L0 h43 (sl [2, 1])
  obtain ⟨s46, K45, qK45⟩ := qK45
  obtain rfl := Option.some.inj h
  obtain ⟨k, hk⟩ : ∃ k, K45 ≤ k := ⟨_, Nat.le_refl _⟩
  have jK45 := qK45 k (by omega) k (by omega)
  simp (implicitDefEqProofs := false) [-getElem?_pos, -getElem?_neg, Try.f39, h1, h1b, h3r] at jK45
  refine ⟨k, ?_⟩
  simp (implicitDefEqProofs := false) [-getElem?_pos, -getElem?_neg, Try.f39, h1, h1b, h3r, jK45]
theorem inj_laws_toIntSSS : ∀ a b, arg_laws_toIntSSS a = arg_laws_toIntSSS b → a = b := by
  intro x y h; simp [arg_laws_toIntSSS] at h; simp [Prod.ext_iff, h]
noncomputable def F_laws_toIntSSS : Con := nilfix [[some 60]] (pcon arg_laws_toIntSSS (fun a => p_laws_toIntSSS a) res_laws_toIntSSS)
theorem fn_laws_toIntSSS : Fn Try.prog 39 F_laws_toIntSSS := (Fn.pure cal_laws_toIntSSS (fun k w0 h0 => ok_laws_toIntSSS k w0 h0) mixed Try.func39 rfl rfl (by kernel_rfl) 1 (by decide) (fun _ => rfl) lm_laws_toIntSSS (fun a b h => t_laws_toIntSSS h)).nilfix _
theorem c_laws_toIntSSS {a0 : List (List (List (Int)))} {r : List (List (List (Int)))} (h : p_laws_toIntSSS a0 = some r) : F_laws_toIntSSS [.one (.sl false 60 (List.map (cL60 false) a0))] = some (((false, [none]), [.sl true 60 (List.map (cL60 true) r)])) := pcon_at (arg := arg_laws_toIntSSS) (p := fun a => p_laws_toIntSSS a) (res := res_laws_toIntSSS) (a := a0) (b := r) inj_laws_toIntSSS h
noncomputable def cal_laws_toGram (k : Nat) : Cal := calI (tabOf [(39, F_laws_toIntSSS)]) (inlOf [])
@[simp] theorem cal_laws_toGram_ap (k g : Nat) (vs : List TV) (mem : Mem) (ep : Nat) : cal_laws_toGram k g vs mem ep = calI (tabOf [(39, F_laws_toIntSSS)]) (inlOf []) g vs mem ep := rfl
theorem ok_laws_toGram (k : Nat) (w0 : World) (h0 : True) : CalOk Try.prog w0.heap.size w0 (cal_laws_toGram k) := by
  exact calI_ok (J := fun _ => True) stab_true (tabOf_ok _ (by simp [fn_laws_toIntSSS])) (inlOf_ok _ (by simp [])) h0
@[simp] def lm_laws_toGram : Nat → List Nat × Nat := fun b => ([], 0)
@[simp] def arg_laws_toGram (a : List (List (List (Int)))) : List TV := [.agg [.sl false 60 (List.map (cL60 false) a)]]
@[simp] def res_laws_toGram (r : List (List (List (Int)))) : Sh × List V := ((false, [some 1]), [.sl true 60 (List.map (cL60 true) r)])
def p_laws_toGram (a0 : List (List (List (Int)))) : Option (List (List (List (Int)))) :=
 p_laws_toIntSSS a0 >>= fun y2 =>
 some y2
theorem t_laws_toGram {a0 : List (List (List (Int)))} {r : List (List (List (Int)))} (h : p_laws_toGram a0 = some r) : ∃ k, told Try.prog (cal_laws_toGram k) k lm_laws_toGram Try.f20 (arg_laws_toGram a0) = some (res_laws_toGram r) := by
  unfold p_laws_toGram at h
  obtain ⟨y2, h1, h⟩ := bd h
  have h1c := c_laws_toIntSSS h1
  obtain rfl := Option.some.inj h
  obtain ⟨k, hk⟩ : ∃ k, 0 ≤ k := ⟨_, Nat.le_refl _⟩
  refine ⟨k, ?_⟩
  simp (implicitDefEqProofs := false) [-getElem?_pos, -getElem?_neg, Try.f20, h1c]
theorem inj_laws_toGram : ∀ a b, arg_laws_toGram a = arg_laws_toGram b → a = b := by
  intro x y h; simp [arg_laws_toGram] at h; simp [Prod.ext_iff, h]
noncomputable def F_laws_toGram : Con := nilfix [[some 60]] (pcon arg_laws_toGram (fun a => p_laws_toGram a) res_laws_toGram)
theorem fn_laws_toGram : Fn Try.prog 20 F_laws_toGram := (Fn.pure cal_laws_toGram (fun k w0 h0 => ok_laws_toGram k w0 h0) mixed Try.func20 rfl rfl (by kernel_rfl) 1 (by decide) (fun _ => rfl) lm_laws_toGram (fun a b h => t_laws_toGram h)).nilfix _
theorem c_laws_toGram {a0 : List (List (List (Int)))} {r : List (List (List (Int)))} (h : p_laws_toGram a0 = some r) : F_laws_toGram [.agg [.sl false 60 (List.map (cL60 false) a0)]] = some (((false, [some 1]), [.sl true 60 (List.map (cL60 true) r)])) := pcon_at (arg := arg_laws_toGram) (p := fun a => p_laws_toGram a) (res := res_laws_toGram) (a := a0) (b := r) inj_laws_toGram h
def cal_spec_l1In (k : Nat) : Cal := calI (tabOf []) (inlOf [])
@[simp] theorem cal_spec_l1In_ap (k g : Nat) (vs : List TV) (mem : Mem) (ep : Nat) : cal_spec_l1In k g vs mem ep = calI (tabOf []) (inlOf []) g vs mem ep := rfl
theorem ok_spec_l1In (k : Nat) (w0 : World) (h0 : True) : CalOk Try.prog w0.heap.size w0 (cal_spec_l1In k) := by
  exact calI_ok (J := fun _ => True) stab_true (tabOf_ok _ (by simp [])) (inlOf_ok _ (by simp [])) h0
@[simp] def lm_spec_l1In : Nat → List Nat × Nat := fun b => ([], 0)
@[simp] def arg_spec_l1In (a : Int × Int × Int) : List TV := [.one (.lit (.int .i64 a.1)), .one (.lit (.int .i64 a.2.1)), .one (.lit (.int .i64 a.2.2))]
@[simp] def res_spec_l1In (r : Bool) : Sh × List V := ((false, [none]), [.lit (.bool r)])
def p_spec_l1In (a0 : Int) (a1 : Int) (a2 : Int) : Option Bool :=
 if a1 ≤ a0 then
  some (decide (a0 ≤ a2))
 else
  some false
theorem t_spec_l1In {a0 : Int} {a1 : Int} {a2 : Int} {r : Bool} (h : p_spec_l1In a0 a1 a2 = some r) : ∃ k, told Try.prog (cal_spec_l1In k) k lm_spec_l1In Try.f52 (arg_spec_l1In (a0, a1, a2)) = some (res_spec_l1In r) := by
  unfold p_spec_l1In at h
  rcases ifc h with ⟨h1, h⟩ | ⟨h1, h⟩
  · obtain rfl := Option.some.inj h
    obtain ⟨k, hk⟩ : ∃ k, 0 ≤ k := ⟨_, Nat.le_refl _⟩
    refine ⟨k, ?_⟩
    simp (implicitDefEqProofs := false) [-getElem?_pos, -getElem?_neg, Try.f52, h1]
  obtain rfl := Option.some.inj h
  obtain ⟨k, hk⟩ : ∃ k, 0 ≤ k := ⟨_, Nat.le_refl _⟩
  refine ⟨k, ?_⟩
  simp (implicitDefEqProofs := false) [-getElem?_pos, -getElem?_neg, Try.f52, h1]
theorem inj_spec_l1In : ∀ a b, arg_spec_l1In a = arg_spec_l1In b → a = b := by
  rintro ⟨x0, x1, x2⟩ ⟨y0, y1, y2⟩ h; simp [arg_spec_l1In] at h; simp [Prod.ext_iff, h]
noncomputable def F_spec_l1In : Con := nilfix [] (pcon arg_spec_l1In (fun a => p_spec_l1In a.1 a.2.1 a.2.2) res_spec_l1In)
theorem fn_spec_l1In : Fn Try.prog 52 F_spec_l1In := (Fn.pure cal_spec_l1In (fun k w0 h0 => ok_spec_l1In k w0 h0) mixed Try.func52 rfl rfl (by kernel_rfl) 3 (by decide) (fun _ => rfl) lm_spec_l1In (fun a b h => t_spec_l1In h)).nilfix _
theorem c_spec_l1In {a0 : Int} {a1 : Int} {a2 : Int} {r : Bool} (h : p_spec_l1In a0 a1 a2 = some r) : F_spec_l1In [.one (.lit (.int .i64 a0)), .one (.lit (.int .i64 a1)), .one (.lit (.int .i64 a2))] = some (((false, [none]), [.lit (.bool r)])) := pcon_at (arg := arg_spec_l1In) (p := fun a => p_spec_l1In a.1 a.2.1 a.2.2) (res := res_spec_l1In) (a := (a0, a1, a2)) (b := r) inj_spec_l1In h
noncomputable def cal_spec_GramOk (k : Nat) : Cal := calI (tabOf [(52, F_spec_l1In)]) (inlOf [])
@[simp] theorem cal_spec_GramOk_ap (k g : Nat) (vs : List TV) (mem : Mem) (ep : Nat) : cal_spec_GramOk k g vs mem ep = calI (tabOf [(52, F_spec_l1In)]) (inlOf []) g vs mem ep := rfl
theorem ok_spec_GramOk (k : Nat) (w0 : World) (h0 : True) : CalOk Try.prog w0.heap.size w0 (cal_spec_GramOk k) := by
  exact calI_ok (J := fun _ => True) stab_true (tabOf_ok _ (by simp [fn_spec_l1In])) (inlOf_ok _ (by simp [])) h0
@[simp] def lm_spec_GramOk : Nat → List Nat × Nat := fun b => if b = 2 then ([1, 3, 4, 5], 1) else if b = 2000002 then ([], 8888888) else if b = 3000002 then ([1, 3, 4], 1) else if b = 0 then ([1, 3, 4], 1) else if b = 2000000 then ([], 8888888) else if b = 3000000 then ([], 1) else if b = 4 then ([1, 3, 4, 5, 6, 7], 1) else if b = 2000004 then ([], 8888888) else if b = 3000004 then ([1, 3, 4, 5], 1) else ([], 0)
@[simp] def arg_spec_GramOk (a : List (List (List (Int)))) : List TV := [.agg [.sl false 60 (List.map (cL60 false) a)]]
@[simp] def res_spec_GramOk (r : Bool) : Sh × List V := ((false, [none]), [.lit (.bool r)])
def p_spec_GramOk_L4 (a0 : List (List (List (Int)))) (x4b0 : Int) (x5b2 : Int) (y218 : List (Int)) (x7b4 : Int) : Option (Bool ⊕ Unit) :=
 if x7b4 < (y218.length : Int) then
  if 0 ≤ x7b4 then
   y218[x7b4.toNat]? >>= fun y242 =>
   p_spec_l1In y242 0 25 >>= fun y245 =>
   if y245 then
    p_spec_GramOk_L4 a0 x4b0 x5b2 y218 (IntKind.wrap .i64 (x7b4 + 1))
   else
    p_spec_l1In y242 100 (IntKind.wrap .i64 ((IntKind.wrap .i64 (100 + (a0.length : Int))) - 1)) >>= fun y248 =>
    if y248 then
     p_spec_GramOk_L4 a0 x4b0 x5b2 y218 (IntKind.wrap .i64 (x7b4 + 1))
    else
     some (.inl false)
  else none
 else
  some (.inr ())
partial_fixpoint
@[simp] noncomputable def L_spec_GramOk_L4 : Code := nav [1, 1, 1, 0, 1, 0, 0, 1, 0, 0, 1, 1, 0, 0, 1, 0, 0, 1, 1, 1, 0, 0] (bodyOf Try.f38)
@[simp] def T_spec_GramOk_L4 (a0 : List (List (List (Int)))) (x4b0 : Int) (x5b2 : Int) (y218 : List (Int)) (x7b4 : Int) (st : Nat → Nat) : St := ⟨[(1, .one (.bp 1 (st 1) 0)), (3, .one (.lit (.int .i64 (a0.length : Int)))), (4, .one (.lit (.int .i64 x4b0))), (5, .one (.lit (.int .i64 x5b2))), (6, .one (.sl false 3 (List.map cI y218))), (7, .one (.lit (.int .i64 x7b4)))], [none, some (.box (st 1) [.sl false 60 (List.map (cL60 false) a0)])], (st 0)⟩
@[simp] def U_spec_GramOk_L4 (a0 : List (List (List (Int)))) (x4b0 : Int) (x5b2 : Int) (y218 : List (Int)) (o : Unit) (st : Nat → Nat) : St := ⟨[(1, .one (.bp 1 (st 1) 0)), (3, .one (.lit (.int .i64 (a0.length : Int)))), (4, .one (.lit (.int .i64 x4b0))), (5, .one (.lit (.int .i64 x5b2)))], [none, some (.box (st 1) [.sl false 60 (List.map (cL60 false) a0)])], (st 0)⟩
abbrev Q_spec_GramOk_L4 (a0 : List (List (List (Int)))) (x4b0 : Int) (x5b2 : Int) (y218 : List (Int)) (x7b4 : Int) (o : Bool ⊕ Unit) : Prop := ∀ st : Nat → Nat, LoopT Try.prog cal_spec_GramOk 1 lm_spec_GramOk 4 L_spec_GramOk_L4 (tellS Try.prog lm_spec_GramOk [.tmp 2]) res_spec_GramOk (U_spec_GramOk_L4 a0 x4b0 x5b2 y218) (T_spec_GramOk_L4 a0 x4b0 x5b2 y218 x7b4 st) o
theorem l_spec_GramOk_L4 {a0 : List (List (List (Int)))} {x4b0 : Int} {x5b2 : Int} {y218 : List (Int)} {x7b4 : Int} {o : Bool ⊕ Unit} (h : p_spec_GramOk_L4 a0 x4b0 x5b2 y218 x7b4 = some o) : Q_spec_GramOk_L4 a0 x4b0 x5b2 y218 x7b4 o := by
  refine p_spec_GramOk_L4.partial_correctness a0 x4b0 x5b2 y218 (motive := fun x7b4 o => Q_spec_GramOk_L4 a0 x4b0 x5b2 y218 x7b4 o) ?_ x7b4 o h
  clear h o x7b4
  intro p' ih x7b4 r h st
  rcases ifc h with ⟨h240, h⟩ | ⟨h240, h⟩
  · obtain ⟨h241, h⟩ := ifg h
    obtain ⟨y242, h243, h⟩ := bd h
    obtain ⟨y245, h244, h⟩ := bd h
    have h244c := c_spec_l1In h244
    rcases ifb h with ⟨h246, h⟩ | ⟨h246, h⟩
    · exact LoopT.step 0 (fun k hk => by simp (implicitDefEqProofs := false) [-getElem?_pos, -getElem?_neg, Try.f38, h240, h241, h243, h244c, h246]) (ih _ _ h (sl [((st 0) + 1), (st 1)]))
    obtain ⟨y248, h247, h⟩ := bd h
    have h247c := c_spec_l1In h247
    try simp (implicitDefEqProofs := false) [-getElem?_pos, -getElem?_neg] at h247c
    rcases ifb h with ⟨h249, h⟩ | ⟨h249, h⟩
    · exact LoopT.step 0 (fun k hk => by simp (implicitDefEqProofs := false) [-getElem?_pos, -getElem?_neg, Try.f38, h240, h241, h243, h244c, h246, h247c, h249]) (ih _ _ h (sl [((st 0) + 2), (st 1)]))
    obtain rfl := Option.some.inj h
    exact LoopT.ret 0 (fun k hk => by simp (implicitDefEqProofs := false) [-getElem?_pos, -getElem?_neg, Try.f38, h240, h241, h243, h244c, h246, h247c, h249])
  obtain rfl := Option.some.inj h
  exact LoopT.exit (sl [(st 0), (st 1)]) 0 (fun k hk => by simp (implicitDefEqProofs := false) [-getElem?_pos, -getElem?_neg, Try.f38, h240])
def p_spec_GramOk_L2 (a0 : List (List (List (Int)))) (x4b0 : Int) (x5b2 : Int) : Option (Bool ⊕ Unit) :=
 if 0 ≤ x4b0 then
  a0[x4b0.toNat]? >>= fun y214 =>
  if x5b2 < (y214.length : Int) then
   if 0 ≤ x5b2 then
    y214[x5b2.toNat]? >>= fun y218 =>
    if 8 < (y218.length : Int) then
     some (.inl false)
    else
     p_spec_GramOk_L4 a0 x4b0 x5b2 y218 0 >>= fun o251 => match o251 with
     | .inl o251 =>
      some (.inl o251)
     | .inr o251 =>
      p_spec_GramOk_L2 a0 x4b0 (IntKind.wrap .i64 (x5b2 + 1))
   else none
  else
   some (.inr ())
 else none
partial_fixpoint
@[simp] noncomputable def L_spec_GramOk_L2 : Code := nav [1, 1, 1, 0, 1, 0, 0, 1, 0, 0, 1, 1, 0, 0] (bodyOf Try.f38)
@[simp] def T_spec_GramOk_L2 (a0 : List (List (List (Int)))) (x4b0 : Int) (x5b2 : Int) (st : Nat → Nat) : St := ⟨[(1, .one (.bp 1 (st 1) 0)), (3, .one (.lit (.int .i64 (a0.length : Int)))), (4, .one (.lit (.int .i64 x4b0))), (5, .one (.lit (.int .i64 x5b2)))], [none, some (.box (st 1) [.sl false 60 (List.map (cL60 false) a0)])], (st 0)⟩
@[simp] def U_spec_GramOk_L2 (a0 : List (List (List (Int)))) (x4b0 : Int) (o : Unit) (st : Nat → Nat) : St := ⟨[(1, .one (.bp 1 (st 1) 0)), (3, .one (.lit (.int .i64 (a0.length : Int)))), (4, .one (.lit (.int .i64 x4b0)))], [none, some (.box (st 1) [.sl false 60 (List.map (cL60 false) a0)])], (st 0)⟩
abbrev Q_spec_GramOk_L2 (a0 : List (List (List (Int)))) (x4b0 : Int) (x5b2 : Int) (o : Bool ⊕ Unit) : Prop := ∀ st : Nat → Nat, LoopT Try.prog cal_spec_GramOk 1 lm_spec_GramOk 2 L_spec_GramOk_L2 (tellS Try.prog lm_spec_GramOk [.tmp 2]) res_spec_GramOk (U_spec_GramOk_L2 a0 x4b0) (T_spec_GramOk_L2 a0 x4b0 x5b2 st) o
theorem l_spec_GramOk_L2 {a0 : List (List (List (Int)))} {x4b0 : Int} {x5b2 : Int} {o : Bool ⊕ Unit} (h : p_spec_GramOk_L2 a0 x4b0 x5b2 = some o) : Q_spec_GramOk_L2 a0 x4b0 x5b2 o := by
  refine p_spec_GramOk_L2.partial_correctness a0 x4b0 (motive := fun x5b2 o => Q_spec_GramOk_L2 a0 x4b0 x5b2 o) ?_ x5b2 o h
  clear h o x5b2
  intro p' ih x5b2 r h st
  obtain ⟨h213, h⟩ := ifg h
  obtain ⟨y214, h215, h⟩ := bd h
  rcases ifc h with ⟨h216, h⟩ | ⟨h216, h⟩
  · obtain ⟨h217, h⟩ := ifg h
    obtain ⟨y218, h219, h⟩ := bd h
    rcases ifc h with ⟨h220, h⟩ | ⟨h220, h⟩
    · obtain rfl := Option.some.inj h
      exact LoopT.ret 0 (fun k hk => by simp (implicitDefEqProofs := false) [-getElem?_pos, -getElem?_neg, Try.f38, h213, h215, h216, h217, h219, h220])
    obtain ⟨o251, h250, h⟩ := bd h
    have qK252 := l_spec_GramOk_L4 h250 (sl [(st 0), (st 1)])
    rcases o251 with o251 | o251
    · obtain ⟨K252, qK252⟩ := qK252
      obtain rfl := Option.some.inj h
      refine LoopT.ret K252 (fun k hk => ?_)
      obtain ⟨S_K252, jK252, iK252⟩ := qK252 k (by omega) k (by omega)
      simp (implicitDefEqProofs := false) [-getElem?_pos, -getElem?_neg, Try.f38, h213, h215, h216, h217, h219, h220] at jK252
      simp (implicitDefEqProofs := false) [-getElem?_pos, -getElem?_neg, Try.f38, h213, h215, h216, h217, h219, h220, iK252, jK252]
    obtain ⟨s253, K252, qK252⟩ := qK252
    refine LoopT.step K252 (fun k hk => ?_) (ih _ _ h (sl [(s253 0), (s253 1)]))
    have jK252 := qK252 k (by omega) k (by omega)
    simp (implicitDefEqProofs := false) [-getElem?_pos, -getElem?_neg, Try.f38, h213, h215, h216, h217, h219, h220] at jK252
    simp (implicitDefEqProofs := false) [-getElem?_pos, -getElem?_neg, Try.f38, h213, h215, h216, h217, h219, h220, jK252]
  obtain rfl := Option.some.inj h
  exact LoopT.exit (sl [(st 0), (st 1)]) 0 (fun k hk => by simp (implicitDefEqProofs := false) [-getElem?_pos, -getElem?_neg, Try.f38, h213, h215, h216])
def p_spec_GramOk_L0 (a0 : List (List (List (Int)))) (x4b0 : Int) : Option (Bool ⊕ Unit) :=
 if x4b0 < (a0.length : Int) then
  if 0 ≤ x4b0 then
   a0[x4b0.toNat]? >>= fun y147 =>
   p_spec_l1In (y147.length : Int) 1 8 >>= fun y150 =>
   if y150 then
    p_spec_GramOk_L2 a0 x4b0 0 >>= fun o255 => match o255 with
    | .inl o255 =>
     some (.inl o255)
    | .inr o255 =>
     p_spec_GramOk_L0 a0 (IntKind.wrap .i64 (x4b0 + 1))
   else
    some (.inl false)
  else none
 else
  some (.inr ())
partial_fixpoint
@[simp] noncomputable def L_spec_GramOk_L0 : Code := nav [1, 1, 1, 0, 1, 0, 0] (bodyOf Try.f38)
@[simp] def T_spec_GramOk_L0 (a0 : List (List (List (Int)))) (x4b0 : Int) (st : Nat → Nat) : St := ⟨[(1, .one (.bp 1 (st 1) 0)), (3, .one (.lit (.int .i64 (a0.length : Int)))), (4, .one (.lit (.int .i64 x4b0)))], [none, some (.box (st 1) [.sl false 60 (List.map (cL60 false) a0)])], (st 0)⟩
@[simp] def U_spec_GramOk_L0 (a0 : List (List (List (Int)))) (o : Unit) (st : Nat → Nat) : St := ⟨[], [none, some (.box (st 1) [.sl false 60 (List.map (cL60 false) a0)])], (st 0)⟩
abbrev Q_spec_GramOk_L0 (a0 : List (List (List (Int)))) (x4b0 : Int) (o : Bool ⊕ Unit) : Prop := ∀ st : Nat → Nat, LoopT Try.prog cal_spec_GramOk 1 lm_spec_GramOk 0 L_spec_GramOk_L0 (tellS Try.prog lm_spec_GramOk [.tmp 2]) res_spec_GramOk (U_spec_GramOk_L0 a0) (T_spec_GramOk_L0 a0 x4b0 st) o
theorem l_spec_GramOk_L0 {a0 : List (List (List (Int)))} {x4b0 : Int} {o : Bool ⊕ Unit} (h : p_spec_GramOk_L0 a0 x4b0 = some o) : Q_spec_GramOk_L0 a0 x4b0 o := by
  refine p_spec_GramOk_L0.partial_correctness a0 (motive := fun x4b0 o => Q_spec_GramOk_L0 a0 x4b0 o) ?_ x4b0 o h
  clear h o x4b0
  intro p' ih x4b0 r h st
  rcases ifc h with ⟨h145, h⟩ | ⟨h145, h⟩
  · obtain ⟨h146, h⟩ := ifg h
    obtain ⟨y147, h148, h⟩ := bd h
    obtain ⟨y150, h149, h⟩ := bd h
    have h149c := c_spec_l1In h149
    try simp (implicitDefEqProofs := false) [-getElem?_pos, -getElem?_neg] at h149c
    rcases ifb h with ⟨h151, h⟩ | ⟨h151, h⟩
    · obtain ⟨o255, h254, h⟩ := bd h
      have qK256 := l_spec_GramOk_L2 h254 (sl [((st 0) + 1), (st 1)])
      rcases o255 with o255 | o255
      · obtain ⟨K256, qK256⟩ := qK256
        obtain rfl := Option.some.inj h
        refine LoopT.ret K256 (fun k hk => ?_)
        obtain ⟨S_K256, jK256, iK256⟩ := qK256 k (by omega) k (by omega)
        simp (implicitDefEqProofs := false) [-getElem?_pos, -getElem?_neg, Try.f38, h145, h146, h148, h149c, h151] at jK256
        simp (implicitDefEqProofs := false) [-getElem?_pos, -getElem?_neg, Try.f38, h145, h146, h148, h149c, h151, iK256, jK256]
      obtain ⟨s257, K256, qK256⟩ := qK256
      refine LoopT.step K256 (fun k hk => ?_) (ih _ _ h (sl [(s257 0), (s257 1)]))
      have jK256 := qK256 k (by omega) k (by omega)
      simp (implicitDefEqProofs := false) [-getElem?_pos, -getElem?_neg, Try.f38, h145, h146, h148, h149c, h151] at jK256
      simp (implicitDefEqProofs := false) [-getElem?_pos, -getElem?_neg, Try.f38, h145, h146, h148, h149c, h151, jK256]
    obtain rfl := Option.some.inj h
    exact LoopT.ret 0 (fun k hk => by simp (implicitDefEqProofs := false) [-getElem?_pos, -getElem?_neg, Try.f38, h145, h146, h148, h149c, h151])
  obtain rfl := Option.some.inj h
  exact LoopT.exit (sl [(st 0), (st 1)]) 0 (fun k hk => by simp (implicitDefEqProofs := false) [-getElem?_pos, -getElem?_neg, Try.f38, h145])
def p_spec_GramOk (a0 : List (List (List (Int)))) : Option Bool :=
 p_spec_l1In (a0.length : Int) 1 20 >>= fun y2 =>
 if y2 then
  p_spec_GramOk_L0 a0 0 >>= fun o259 => match o259 with
  | .inl o259 =>
   some o259
  | .inr o259 =>
   some true
 else
  some false
theorem t_spec_GramOk {a0 : List (List (List (Int)))} {r : Bool} (h : p_spec_GramOk a0 = some r) : ∃ k, told Try.prog (cal_spec_GramOk k) k lm_spec_GramOk Try.f38 (arg_spec_GramOk a0) = some (res_spec_GramOk r) := by
  unfold p_spec_GramOk at h
  obtain ⟨y2, h1, h⟩ := bd h
  have h1c := c_spec_l1In h1
  try simp (implicitDefEqProofs := false) [-getElem?_pos, -getElem?_neg] at h1c
  rcases ifb h with ⟨h3, h⟩ | ⟨h3, h⟩
  · obtain ⟨o259, h258, h⟩ := bd h
    have qK260 := l_spec_GramOk_L0 h258 (sl [3, 1])
    rcases o259 with o259 | o259
    · obtain ⟨K260, qK260⟩ := qK260
      obtain rfl := Option.some.inj h
      obtain ⟨k, hk⟩ : ∃ k, K260 ≤ k := ⟨_, Nat.le_refl _⟩
      obtain ⟨S_K260, jK260, iK260⟩ := qK260 k (by omega) k (by omega)
      simp (implicitDefEqProofs := false) [-getElem?_pos, -getElem?_neg, Try.f38, h1c, h3] at jK260
      refine ⟨k, ?_⟩
      simp (implicitDefEqProofs := false) [-getElem?_pos, -getElem?_neg, Try.f38, h1c, h3, iK260, jK260]
    obtain ⟨s261, K260, qK260⟩ := qK260
    obtain rfl := Option.some.inj h
    obtain ⟨k, hk⟩ : ∃ k, K260 ≤ k := ⟨_, Nat.le_refl _⟩
    have jK260 := qK260 k (by omega) k (by omega)
    simp (implicitDefEqProofs := false) [-getElem?_pos, -getElem?_neg, Try.f38, h1c, h3] at jK260
    refine ⟨k, ?_⟩
    simp (implicitDefEqProofs := false) [-getElem?_pos, -getElem?_neg, Try.f38, h1c, h3, jK260]
  obtain rfl := Option.some.inj h
  obtain ⟨k, hk⟩ : ∃ k, 0 ≤ k := ⟨_, Nat.le_refl _⟩
  refine ⟨k, ?_⟩
  simp (implicitDefEqProofs := false) [-getElem?_pos, -getElem?_neg, Try.f38, h1c, h3]
theorem inj_spec_GramOk : ∀ a b, arg_spec_GramOk a = arg_spec_GramOk b → a = b := by
  intro x y h; simp [arg_spec_GramOk] at h; simp [Prod.ext_iff, h]
noncomputable def F_spec_GramOk : Con := nilfix [[some 60]] (pcon arg_spec_GramOk (fun a => p_spec_GramOk a) res_spec_GramOk)
theorem fn_spec_GramOk : Fn Try.prog 38 F_spec_GramOk := (Fn.pure cal_spec_GramOk (fun k w0 h0 => ok_spec_GramOk k w0 h0) mixed Try.func38 rfl rfl (by kernel_rfl) 1 (by decide) (fun _ => rfl) lm_spec_GramOk (fun a b h => t_spec_GramOk h)).nilfix _
theorem c_spec_GramOk {a0 : List (List (List (Int)))} {r : Bool} (h : p_spec_GramOk a0 = some r) : F_spec_GramOk [.agg [.sl false 60 (List.map (cL60 false) a0)]] = some (((false, [none]), [.lit (.bool r)])) := pcon_at (arg := arg_spec_GramOk) (p := fun a => p_spec_GramOk a) (res := res_spec_GramOk) (a := a0) (b := r) inj_spec_GramOk h
def cal_spec_l1Same (k : Nat) : Cal := calI (tabOf []) (inlOf [])
@[simp] theorem cal_spec_l1Same_ap (k g : Nat) (vs : List TV) (mem : Mem) (ep : Nat) : cal_spec_l1Same k g vs mem ep = calI (tabOf []) (inlOf []) g vs mem ep := rfl
theorem ok_spec_l1Same (k : Nat) (w0 : World) (h0 : True) : CalOk Try.prog w0.heap.size w0 (cal_spec_l1Same k) := by
  exact calI_ok (J := fun _ => True) stab_true (tabOf_ok _ (by simp [])) (inlOf_ok _ (by simp [])) h0
@[simp] def lm_spec_l1Same : Nat → List Nat × Nat := fun b => if b = 0 then ([0, 1, 5], 0) else if b = 2000000 then ([], 8888888) else if b = 3000000 then ([], 0) else ([], 0)
theorem dr_spec_l1Same_6 : drawn (opsOf (nav [1, 1, 0, 1, 0, 0, 1, 0, 0, 0] (bodyOf Try.f42))) = some ([0, 1, 2, 3, 4, 5, 6, 7, 8], []) := by kernel_rfl
@[simp] def arg_spec_l1Same (a : List (Int) × List (Int)) : List TV := [.one (.sl false 3 (List.map cI a.1)), .one (.sl false 3 (List.map cI a.2))]
@[simp] def res_spec_l1Same (r : Bool) : Sh × List V := ((false, [none]), [.lit (.bool r)])
def p_spec_l1Same_L0 (a0 : List (Int)) (a1 : List (Int)) (x5b0 : Int) : Option (Bool ⊕ Unit) :=
 if x5b0 < (a0.length : Int) then
  if 0 ≤ x5b0 then
   a0[x5b0.toNat]? >>= fun y17 =>
   a1[x5b0.toNat]? >>= fun y19 =>
   if y17 = y19 then
    p_spec_l1Same_L0 a0 a1 (IntKind.wrap .i64 (x5b0 + 1))
   else
    some (.inl false)
  else none
 else
  some (.inr ())
partial_fixpoint
@[simp] noncomputable def L_spec_l1Same_L0 : Code := nav [1, 1, 0, 1, 0, 0] (bodyOf Try.f42)
@[simp] def T_spec_l1Same_L0 (a0 : List (Int)) (a1 : List (Int)) (x5b0 : Int) (st : Nat → Nat) : St := ⟨[(0, .one (.sl false 3 (List.map cI a0))), (1, .one (.sl false 3 (List.map cI a1))), (5, .one (.lit (.int .i64 x5b0)))], [none], (st 0)⟩
@[simp] def U_spec_l1Same_L0 (a0 : List (Int)) (a1 : List (Int)) (o : Unit) (st : Nat → Nat) : St := ⟨[], [none], (st 0)⟩
abbrev Q_spec_l1Same_L0 (a0 : List (Int)) (a1 : List (Int)) (x5b0 : Int) (o : Bool ⊕ Unit) : Prop := ∀ st : Nat → Nat, LoopT Try.prog cal_spec_l1Same 1 lm_spec_l1Same 0 L_spec_l1Same_L0 (tellS Try.prog lm_spec_l1Same [.tmp 4]) res_spec_l1Same (U_spec_l1Same_L0 a0 a1) (T_spec_l1Same_L0 a0 a1 x5b0 st) o
theorem l_spec_l1Same_L0 {a0 : List (Int)} {a1 : List (Int)} {x5b0 : Int} {o : Bool ⊕ Unit} (h : p_spec_l1Same_L0 a0 a1 x5b0 = some o) : Q_spec_l1Same_L0 a0 a1 x5b0 o := by
  refine p_spec_l1Same_L0.partial_correctness a0 a1 (motive := fun x5b0 o => Q_spec_l1Same_L0 a0 a1 x5b0 o) ?_ x5b0 o h
  clear h o x5b0
  intro p' ih x5b0 r h st
  rcases ifc h with ⟨h15, h⟩ | ⟨h15, h⟩
  · obtain ⟨h16, h⟩ := ifg h
    obtain ⟨y17, h18, h⟩ := bd h
    obtain ⟨y19, h20, h⟩ := bd h
    rcases ifc h with ⟨h21, h⟩ | ⟨h21, h⟩
    · refine LoopT.step 0 (fun k hk => ?_) (ih _ _ h (sl [(st 0)]))
      have hd_spec_l1Same_6 := dr_spec_l1Same_6
      simp only [opsOf, nav, bodyOf, Try.f42, Option.getD_some] at hd_spec_l1Same_6
      simp (implicitDefEqProofs := false) [-getElem?_pos, -getElem?_neg, Try.f42, h15, ex_draw2 _ _ hd_spec_l1Same_6, h16, h18, h20, (eq_true h21)]
    obtain rfl := Option.some.inj h
    refine LoopT.ret 0 (fun k hk => ?_)
    have hd_spec_l1Same_6 := dr_spec_l1Same_6
    simp only [opsOf, nav, bodyOf, Try.f42, Option.getD_some] at hd_spec_l1Same_6
    simp (implicitDefEqProofs := false) [-getElem?_pos, -getElem?_neg, Try.f42, h15, ex_draw2 _ _ hd_spec_l1Same_6, h16, h18, h20, h21]
  obtain rfl := Option.some.inj h
  exact LoopT.exit (sl [(st 0)]) 0 (fun k hk => by simp (implicitDefEqProofs := false) [-getElem?_pos, -getElem?_neg, Try.f42, h15])
def p_spec_l1Same (a0 : List (Int)) (a1 : List (Int)) : Option Bool :=
 if (a0.length : Int) = (a1.length : Int) then
  p_spec_l1Same_L0 a0 a1 0 >>= fun o23 => match o23 with
  | .inl o23 =>
   some o23
  | .inr o23 =>
   some true
 else
  some false
theorem t_spec_l1Same {a0 : List (Int)} {a1 : List (Int)} {r : Bool} (h : p_spec_l1Same a0 a1 = some r) : ∃ k, told Try.prog (cal_spec_l1Same k) k lm_spec_l1Same Try.f42 (arg_spec_l1Same (a0, a1)) = some (res_spec_l1Same r) := by
  unfold p_spec_l1Same at h
  rcases ifc h with ⟨h1, h⟩ | ⟨h1, h⟩
  · obtain ⟨o23, h22, h⟩ := bd h
    have qK24 := l_spec_l1Same_L0 h22 (sl [1])
    rcases o23 with o23 | o23
    · obtain ⟨K24, qK24⟩ := qK24
      obtain rfl := Option.some.inj h
      obtain ⟨k, hk⟩ : ∃ k, K24 ≤ k := ⟨_, Nat.le_refl _⟩
      obtain ⟨S_K24, jK24, iK24⟩ := qK24 k (by omega) k (by omega)
      simp (implicitDefEqProofs := false) [-getElem?_pos, -getElem?_neg, Try.f42, (eq_true h1)] at jK24
      refine ⟨k, ?_⟩
      simp (implicitDefEqProofs := false) [-getElem?_pos, -getElem?_neg, Try.f42, (eq_true h1), iK24, jK24]
    obtain ⟨s25, K24, qK24⟩ := qK24
    obtain rfl := Option.some.inj h
    obtain ⟨k, hk⟩ : ∃ k, K24 ≤ k := ⟨_, Nat.le_refl _⟩
    have jK24 := qK24 k (by omega) k (by omega)
    simp (implicitDefEqProofs := false) [-getElem?_pos, -getElem?_neg, Try.f42, (eq_true h1)] at jK24
    refine ⟨k, ?_⟩
    simp (implicitDefEqProofs := false) [-getElem?_pos, -getElem?_neg, Try.f42, (eq_true h1), jK24]
  obtain rfl := Option.some.inj h
  obtain ⟨k, hk⟩ : ∃ k, 0 ≤ k := ⟨_, Nat.le_refl _⟩
  refine ⟨k, ?_⟩
  simp (implicitDefEqProofs := false) [-getElem?_pos, -getElem?_neg, Try.f42, h1]
theorem inj_spec_l1Same : ∀ a b, arg_spec_l1Same a = arg_spec_l1Same b → a = b := by
  rintro ⟨x0, x1⟩ ⟨y0, y1⟩ h; simp [arg_spec_l1Same] at h; simp [Prod.ext_iff, h]
noncomputable def F_spec_l1Same : Con := nilfix [[some 3], [some 3]] (pcon arg_spec_l1Same (fun a => p_spec_l1Same a.1 a.2) res_spec_l1Same)
theorem fn_spec_l1Same : Fn Try.prog 42 F_spec_l1Same := (Fn.pure cal_spec_l1Same (fun k w0 h0 => ok_spec_l1Same k w0 h0) mixed Try.func42 rfl rfl (by kernel_rfl) 2 (by decide) (fun _ => rfl) lm_spec_l1Same (fun a b h => t_spec_l1Same h)).nilfix _
theorem c_spec_l1Same {a0 : List (Int)} {a1 : List (Int)} {r : Bool} (h : p_spec_l1Same a0 a1 = some r) : F_spec_l1Same [.one (.sl false 3 (List.map cI a0)), .one (.sl false 3 (List.map cI a1))] = some (((false, [none]), [.lit (.bool r)])) := pcon_at (arg := arg_spec_l1Same) (p := fun a => p_spec_l1Same a.1 a.2) (res := res_spec_l1Same) (a := (a0, a1)) (b := r) inj_spec_l1Same h
noncomputable def cal_spec_Trimmed (k : Nat) : Cal := calI (tabOf [(38, F_spec_GramOk), (42, F_spec_l1Same)]) (inlOf [])
@[simp] theorem cal_spec_Trimmed_ap (k g : Nat) (vs : List TV) (mem : Mem) (ep : Nat) : cal_spec_Trimmed k g vs mem ep = calI (tabOf [(38, F_spec_GramOk), (42, F_spec_l1Same)]) (inlOf []) g vs mem ep := rfl
theorem ok_spec_Trimmed (k : Nat) (w0 : World) (h0 : True) : CalOk Try.prog w0.heap.size w0 (cal_spec_Trimmed k) := by
  exact calI_ok (J := fun _ => True) stab_true (tabOf_ok _ (by simp [fn_spec_GramOk, fn_spec_l1Same])) (inlOf_ok _ (by simp [])) h0
@[simp] def lm_spec_Trimmed : Nat → List Nat × Nat := fun b => if b = 4 then ([1, 2, 3, 4, 5, 6, 7, 8], 5) else if b = 2000004 then ([], 8888888) else if b = 3000004 then ([1, 2, 3, 4, 5, 6, 7], 5) else if b = 2 then ([1, 2, 3, 4, 5, 6], 5) else if b = 2000002 then ([], 8888888) else if b = 3000002 then ([1, 2, 3, 4, 5], 5) else if b = 0 then ([1, 2, 3, 4], 4) else if b = 2000000 then ([0, 3, 0, 60], 8888888) else if b = 3000000 then ([2, 3], 4) else if b = 5000000 then ([0, 2, 0, 60], 8888888) else ([], 0)
theorem dr_spec_Trimmed_15 : drawn (opsOf (nav [1, 1, 1, 0, 1, 0, 0, 1, 0, 0, 1, 0, 1, 0, 0, 1, 0, 0, 1, 0, 1, 0, 0, 1, 0, 0] (bodyOf Try.f23))) = some ([0, 1, 2, 3, 4, 5, 6, 7, 8, 9, 10, 11, 12, 13, 14, 15, 16, 17], [18, 19, 20]) := by kernel_rfl
@[simp] def arg_spec_Trimmed (a : List (List (List (Int)))) : List TV := [.agg [.sl false 60 (List.map (cL60 false) a)]]
@[simp] def res_spec_Trimmed (r : List (List (List (Int)))) : Sh × List V := ((false, [some 1]), [.sl true 60 (List.map (cL60 true) r)])
def p_spec_Trimmed_L4 (x4b0 : Int) (x6b2 : Int) (a0 : List (List (List (Int)))) (l4b0 : List (List (List (Int)))) (l5b2 : List (List (Int))) (x7b4 : Bool) (x8b4 : Int) : Option (Bool) :=
 if x8b4 < x6b2 then
  if x7b4 then
   p_spec_Trimmed_L4 x4b0 x6b2 a0 l4b0 l5b2 true (IntKind.wrap .i64 (x8b4 + 1))
  else
   if 0 ≤ x4b0 then
    a0[x4b0.toNat]? >>= fun y198 =>
    if 0 ≤ x6b2 then
     y198[x6b2.toNat]? >>= fun y201 =>
     if 0 ≤ x8b4 then
      y198[x8b4.toNat]? >>= fun y204 =>
      p_spec_l1Same y201 y204 >>= fun y207 =>
      p_spec_Trimmed_L4 x4b0 x6b2 a0 l4b0 l5b2 y207 (IntKind.wrap .i64 (x8b4 + 1))
     else none
    else none
   else none
 else
  some x7b4
partial_fixpoint
@[simp] noncomputable def L_spec_Trimmed_L4 : Code := nav [1, 1, 1, 0, 1, 0, 0, 1, 0, 0, 1, 0, 1, 0, 0, 1, 0, 0, 1, 0, 1, 0, 0] (bodyOf Try.f23)
@[simp] def T_spec_Trimmed_L4 (x4b0 : Int) (x6b2 : Int) (a0 : List (List (List (Int)))) (l4b0 : List (List (List (Int)))) (l5b2 : List (List (Int))) (x7b4 : Bool) (x8b4 : Int) (st : Nat → Nat) : St := ⟨[(1, .one (.bp 1 (st 1) 0)), (2, .one (.bp 2 (st 2) 0)), (3, .one (.bp 3 (st 3) 0)), (4, .one (.lit (.int .i64 x4b0))), (5, .one (.ow 5 (st 4))), (6, .one (.lit (.int .i64 x6b2))), (7, .one (.lit (.bool x7b4))), (8, .one (.lit (.int .i64 x8b4)))], [none, some (.box (st 1) [.sl false 60 (List.map (cL60 false) a0)]), some (.box (st 2) [.lit (.slice none 0 0)]), some (.box (st 3) [.ow 4 (st 5)]), some (.rows (st 5) (st 6) 60 (List.map (cL60 true) l4b0)), some (.rows (st 4) (st 7) 48 (List.map (cL48 true) l5b2))], (st 0)⟩
@[simp] def U_spec_Trimmed_L4 (x4b0 : Int) (x6b2 : Int) (a0 : List (List (List (Int)))) (l4b0 : List (List (List (Int)))) (l5b2 : List (List (Int))) (o : Bool) (st : Nat → Nat) : St := ⟨[(1, .one (.bp 1 (st 1) 0)), (2, .one (.bp 2 (st 2) 0)), (3, .one (.bp 3 (st 3) 0)), (4, .one (.lit (.int .i64 x4b0))), (5, .one (.ow 5 (st 4))), (6, .one (.lit (.int .i64 x6b2))), (7, .one (.lit (.bool o)))], [none, some (.box (st 1) [.sl false 60 (List.map (cL60 false) a0)]), some (.box (st 2) [.lit (.slice none 0 0)]), some (.box (st 3) [.ow 4 (st 5)]), some (.rows (st 5) (st 6) 60 (List.map (cL60 true) l4b0)), some (.rows (st 4) (st 7) 48 (List.map (cL48 true) l5b2))], (st 0)⟩
abbrev Q_spec_Trimmed_L4 (x4b0 : Int) (x6b2 : Int) (a0 : List (List (List (Int)))) (l4b0 : List (List (List (Int)))) (l5b2 : List (List (Int))) (x7b4 : Bool) (x8b4 : Int) (o : Bool) : Prop := ∀ st : Nat → Nat, LoopG Try.prog cal_spec_Trimmed 1 lm_spec_Trimmed 4 L_spec_Trimmed_L4 (U_spec_Trimmed_L4 x4b0 x6b2 a0 l4b0 l5b2) (T_spec_Trimmed_L4 x4b0 x6b2 a0 l4b0 l5b2 x7b4 x8b4 st) o
theorem l_spec_Trimmed_L4 {x4b0 : Int} {x6b2 : Int} {a0 : List (List (List (Int)))} {l4b0 : List (List (List (Int)))} {l5b2 : List (List (Int))} {x7b4 : Bool} {x8b4 : Int} {o : Bool} (h : p_spec_Trimmed_L4 x4b0 x6b2 a0 l4b0 l5b2 x7b4 x8b4 = some o) : Q_spec_Trimmed_L4 x4b0 x6b2 a0 l4b0 l5b2 x7b4 x8b4 o := by
  refine p_spec_Trimmed_L4.partial_correctness x4b0 x6b2 a0 l4b0 l5b2 (motive := fun x7b4 x8b4 o => Q_spec_Trimmed_L4 x4b0 x6b2 a0 l4b0 l5b2 x7b4 x8b4 o) ?_ x7b4 x8b4 o h
  clear h o x7b4 x8b4
  intro p' ih x7b4 x8b4 r h st
  rcases ifc h with ⟨h195, h⟩ | ⟨h195, h⟩
  · rcases ifb h with ⟨h196, h⟩ | ⟨h196, h⟩
    · refine LoopG.step 0 (fun k hk => ?_) (ih _ _ _ h (sl [(st 0), (st 1), (st 2), (st 3), (st 4), (st 5), (st 6), (st 7)]))
      have hd_spec_Trimmed_15 := dr_spec_Trimmed_15
      simp only [opsOf, nav, bodyOf, Try.f23, Option.getD_some] at hd_spec_Trimmed_15
      simp (implicitDefEqProofs := false) [-getElem?_pos, -getElem?_neg, Try.f23, h195, ex_draw2 _ _ hd_spec_Trimmed_15, h196]
    obtain ⟨h197, h⟩ := ifg h
    obtain ⟨y198, h199, h⟩ := bd h
    obtain ⟨h200, h⟩ := ifg h
    obtain ⟨y201, h202, h⟩ := bd h
    obtain ⟨h203, h⟩ := ifg h
    obtain ⟨y204, h205, h⟩ := bd h
    obtain ⟨y207, h206, h⟩ := bd h
    have h206c := c_spec_l1Same h206
    refine LoopG.step 0 (fun k hk => ?_) (ih _ _ _ h (sl [((st 0) + 1), (st 1), (st 2), (st 3), (st 4), (st 5), (st 6), (st 7)]))
    have hd_spec_Trimmed_15 := dr_spec_Trimmed_15
    simp only [opsOf, nav, bodyOf, Try.f23, Option.getD_some] at hd_spec_Trimmed_15
    simp (implicitDefEqProofs := false) [-getElem?_pos, -getElem?_neg, Try.f23, h195, ex_draw2 _ _ hd_spec_Trimmed_15, h196, h197, h199, h200, h202, h203, h205, h206c]
  obtain rfl := Option.some.inj h
  exact LoopG.exit (sl [(st 0), (st 1), (st 2), (st 3), (st 4), (st 5), (st 6), (st 7)]) 0 (fun k hk => by simp (implicitDefEqProofs := false) [-getElem?_pos, -getElem?_neg, Try.f23, h195])
def p_spec_Trimmed_L2 (x4b0 : Int) (a0 : List (List (List (Int)))) (l4b0 : List (List (List (Int)))) (x6b2 : Int) (l5b2 : List (List (Int))) : Option (List (List (Int))) :=
 if 0 ≤ x4b0 then
  a0[x4b0.toNat]? >>= fun y168 =>
  if x6b2 < (y168.length : Int) then
   p_spec_Trimmed_L4 x4b0 x6b2 a0 l4b0 l5b2 false 0 >>= fun o209 =>
   if o209 then
    p_spec_Trimmed_L2 x4b0 a0 l4b0 (IntKind.wrap .i64 (x6b2 + 1)) l5b2
   else
    if 0 ≤ x6b2 then
     y168[x6b2.toNat]? >>= fun y214 =>
     if y214.length * 8 ≤ 140737488355328 then
      if (l5b2.length + 1) * 24 ≤ 140737488355328 then
       some (l5b2 ++ [y214]) >>= fun l218 =>
       p_spec_Trimmed_L2 x4b0 a0 l4b0 (IntKind.wrap .i64 (x6b2 + 1)) l218
      else none
     else none
    else none
  else
   some l5b2
 else none
partial_fixpoint
@[simp] noncomputable def L_spec_Trimmed_L2 : Code := nav [1, 1, 1, 0, 1, 0, 0, 1, 0, 0, 1, 0, 1, 0, 0] (bodyOf Try.f23)
@[simp] def T_spec_Trimmed_L2 (x4b0 : Int) (a0 : List (List (List (Int)))) (l4b0 : List (List (List (Int)))) (x6b2 : Int) (l5b2 : List (List (Int))) (st : Nat → Nat) : St := ⟨[(1, .one (.bp 1 (st 1) 0)), (2, .one (.bp 2 (st 2) 0)), (3, .one (.bp 3 (st 3) 0)), (4, .one (.lit (.int .i64 x4b0))), (5, .one (.ow 5 (st 4))), (6, .one (.lit (.int .i64 x6b2)))], [none, some (.box (st 1) [.sl false 60 (List.map (cL60 false) a0)]), some (.box (st 2) [.lit (.slice none 0 0)]), some (.box (st 3) [.ow 4 (st 5)]), some (.rows (st 5) (st 6) 60 (List.map (cL60 true) l4b0)), some (.rows (st 4) (st 7) 48 (List.map (cL48 true) l5b2))], (st 0)⟩
@[simp] def U_spec_Trimmed_L2 (x4b0 : Int) (a0 : List (List (List (Int)))) (l4b0 : List (List (List (Int)))) (o : List (List (Int))) (st : Nat → Nat) : St := ⟨[(1, .one (.bp 1 (st 1) 0)), (2, .one (.bp 2 (st 2) 0)), (3, .one (.bp 3 (st 3) 0)), (4, .one (.lit (.int .i64 x4b0))), (5, .one (.ow 5 (st 4)))], [none, some (.box (st 1) [.sl false 60 (List.map (cL60 false) a0)]), some (.box (st 2) [.lit (.slice none 0 0)]), some (.box (st 3) [.ow 4 (st 5)]), some (.rows (st 5) (st 6) 60 (List.map (cL60 true) l4b0)), some (.rows (st 4) (st 7) 48 (List.map (cL48 true) o))], (st 0)⟩
abbrev Q_spec_Trimmed_L2 (x4b0 : Int) (a0 : List (List (List (Int)))) (l4b0 : List (List (List (Int)))) (x6b2 : Int) (l5b2 : List (List (Int))) (o : List (List (Int))) : Prop := ∀ st : Nat → Nat, LoopG Try.prog cal_spec_Trimmed 1 lm_spec_Trimmed 2 L_spec_Trimmed_L2 (U_spec_Trimmed_L2 x4b0 a0 l4b0) (T_spec_Trimmed_L2 x4b0 a0 l4b0 x6b2 l5b2 st) o
theorem l_spec_Trimmed_L2 {x4b0 : Int} {a0 : List (List (List (Int)))} {l4b0 : List (List (List (Int)))} {x6b2 : Int} {l5b2 : List (List (Int))} {o : List (List (Int))} (h : p_spec_Trimmed_L2 x4b0 a0 l4b0 x6b2 l5b2 = some o) : Q_spec_Trimmed_L2 x4b0 a0 l4b0 x6b2 l5b2 o := by
  refine p_spec_Trimmed_L2.partial_correctness x4b0 a0 l4b0 (motive := fun x6b2 l5b2 o => Q_spec_Trimmed_L2 x4b0 a0 l4b0 x6b2 l5b2 o) ?_ x6b2 l5b2 o h
  clear h o x6b2 l5b2
  intro p' ih x6b2 l5b2 r h st
  obtain ⟨h167, h⟩ := ifg h
  obtain ⟨y168, h169, h⟩ := bd h
  rcases ifc h with ⟨h170, h⟩ | ⟨h170, h⟩
  · obtain ⟨o209, h208, h⟩ := bd h
    have qK210 := l_spec_Trimmed_L4 h208 (sl [(st 0), (st 1), (st 2), (st 3), (st 4), (st 5), (st 6), (st 7)])
    obtain ⟨s211, K210, qK210⟩ := qK210
    rcases ifb h with ⟨h212, h⟩ | ⟨h212, h⟩
    · refine LoopG.step K210 (fun k hk => ?_) (ih _ _ _ h (sl [(s211 0), (s211 1), (s211 2), (s211 3), (s211 4), (s211 5), (s211 6), (s211 7)]))
      have jK210 := qK210 k (by omega) k (by omega)
      simp (implicitDefEqProofs := false) [-getElem?_pos, -getElem?_neg, Try.f23, h167, h169, h170, h212] at jK210
      simp (implicitDefEqProofs := false) [-getElem?_pos, -getElem?_neg, Try.f23, h167, h169, h170, h212, jK210]
    obtain ⟨h213, h⟩ := ifg h
    obtain ⟨y214, h215, h⟩ := bd h
    obtain ⟨h216, h⟩ := ifg h
    obtain ⟨h217, h⟩ := ifg h
    obtain ⟨l218, h219, h⟩ := bd h
    have h219r : List.map (cL48 true) l5b2 ++ [[.sl true 3 (List.map cI y214)]] = List.map (cL48 true) l218 := by rw [← Option.some.inj h219]; simp
    refine LoopG.step K210 (fun k hk => ?_) (ih _ _ _ h (sl [((s211 0) + 4), (s211 1), (s211 2), (s211 3), ((s211 0) + 3), (s211 5), (s211 6), (s211 7)]))
    have jK210 := qK210 k (by omega) k (by omega)
    simp (implicitDefEqProofs := false) [-getElem?_pos, -getElem?_neg, Try.f23, h167, h169, h170, h212, h213, h215, h216, h217, h219r] at jK210
    simp (implicitDefEqProofs := false) [-getElem?_pos, -getElem?_neg, Try.f23, h167, h169, h170, h212, h213, h215, h216, h217, h219r, jK210]
  obtain rfl := Option.some.inj h
  exact LoopG.exit (sl [(st 0), (st 1), (st 2), (st 3), (st 4), (st 5), (st 6), (st 7)]) 0 (fun k hk => by simp (implicitDefEqProofs := false) [-getElem?_pos, -getElem?_neg, Try.f23, h167, h169, h170])
def p_spec_Trimmed_L0 (a0 : List (List (List (Int)))) (x4b0 : Int) (l4b0 : List (List (List (Int)))) : Option (List (List (List (Int)))) :=
 if x4b0 < (a0.length : Int) then
  p_spec_Trimmed_L2 x4b0 a0 l4b0 0 ([]) >>= fun o221 =>
  if (l4b0.length + 1) * 24 ≤ 140737488355328 then
   some (l4b0 ++ [o221]) >>= fun l225 =>
   p_spec_Trimmed_L0 a0 (IntKind.wrap .i64 (x4b0 + 1)) l225
  else none
 else
  some l4b0
partial_fixpoint
@[simp] noncomputable def L_spec_Trimmed_L0 : Code := nav [1, 1, 1, 0, 1, 0, 0] (bodyOf Try.f23)
@[simp] def T_spec_Trimmed_L0 (a0 : List (List (List (Int)))) (x4b0 : Int) (l4b0 : List (List (List (Int)))) (st : Nat → Nat) : St := ⟨[(1, .one (.bp 1 (st 1) 0)), (2, .one (.bp 2 (st 2) 0)), (3, .one (.bp 3 (st 3) 0)), (4, .one (.lit (.int .i64 x4b0)))], [none, some (.box (st 1) [.sl false 60 (List.map (cL60 false) a0)]), some (.box (st 2) [.lit (.slice none 0 0)]), some (.box (st 3) [.ow 4 (st 4)]), some (.rows (st 4) (st 5) 60 (List.map (cL60 true) l4b0))], (st 0)⟩
@[simp] def U_spec_Trimmed_L0 (a0 : List (List (List (Int)))) (o : List (List (List (Int)))) (st : Nat → Nat) : St := ⟨[(2, .one (.bp 2 (st 1) 0)), (3, .one (.bp 3 (st 2) 0))], [none, some (.box (st 3) [.sl false 60 (List.map (cL60 false) a0)]), some (.box (st 1) [.lit (.slice none 0 0)]), some (.box (st 2) [.ow 4 (st 4)]), some (.rows (st 4) (st 5) 60 (List.map (cL60 true) o))], (st 0)⟩
abbrev Q_spec_Trimmed_L0 (a0 : List (List (List (Int)))) (x4b0 : Int) (l4b0 : List (List (List (Int)))) (o : List (List (List (Int)))) : Prop := ∀ st : Nat → Nat, LoopG Try.prog cal_spec_Trimmed 1 lm_spec_Trimmed 0 L_spec_Trimmed_L0 (U_spec_Trimmed_L0 a0) (T_spec_Trimmed_L0 a0 x4b0 l4b0 st) o
theorem l_spec_Trimmed_L0 {a0 : List (List (List (Int)))} {x4b0 : Int} {l4b0 : List (List (List (Int)))} {o : List (List (List (Int)))} (h : p_spec_Trimmed_L0 a0 x4b0 l4b0 = some o) : Q_spec_Trimmed_L0 a0 x4b0 l4b0 o := by
  refine p_spec_Trimmed_L0.partial_correctness a0 (motive := fun x4b0 l4b0 o => Q_spec_Trimmed_L0 a0 x4b0 l4b0 o) ?_ x4b0 l4b0 o h
  clear h o x4b0 l4b0
  intro p' ih x4b0 l4b0 r h st
  rcases ifc h with ⟨h115, h⟩ | ⟨h115, h⟩
  · obtain ⟨o221, h220, h⟩ := bd h
    have qK222 := l_spec_Trimmed_L2 h220 (sl [((st 0) + 1), (st 1), (st 2), (st 3), (st 0), (st 4), (st 5), (st 0)])
    obtain ⟨s223, K222, qK222⟩ := qK222
    obtain ⟨h224, h⟩ := ifg h
    obtain ⟨l225, h226, h⟩ := bd h
    have h226r : List.map (cL60 true) l4b0 ++ [[.sl true 48 (List.map (cL48 true) o221)]] = List.map (cL60 true) l225 := by rw [← Option.some.inj h226]; simp
    refine LoopG.step K222 (fun k hk => ?_) (ih _ _ _ h (sl [((s223 0) + 2), (s223 1), (s223 2), (s223 3), ((s223 0) + 1), (s223 6)]))
    have jK222 := qK222 k (by omega) k (by omega)
    simp (implicitDefEqProofs := false) [-getElem?_pos, -getElem?_neg, Try.f23, h115, h224, h226r] at jK222
    simp (implicitDefEqProofs := false) [-getElem?_pos, -getElem?_neg, Try.f23, h115, h224, h226r, jK222]
  obtain rfl := Option.some.inj h
  exact LoopG.exit (sl [(st 0), (st 2), (st 3), (st 1), (st 4), (st 5)]) 0 (fun k hk => by simp (implicitDefEqProofs := false) [-getElem?_pos, -getElem?_neg, Try.f23, h115])
def p_spec_Trimmed (a0 : List (List (List (Int)))) : Option (List (List (List (Int)))) :=
 p_spec_GramOk a0 >>= fun y2 =>
 if y2 then
  p_spec_Trimmed_L0 a0 0 ([]) >>= fun o228 =>
  some o228
 else
  some ([])
theorem t_spec_Trimmed {a0 : List (List (List (Int)))} {r : List (List (List (Int)))} (h : p_spec_Trimmed a0 = some r) : ∃ k, told Try.prog (cal_spec_Trimmed k) k lm_spec_Trimmed Try.f23 (arg_spec_Trimmed a0) = some (res_spec_Trimmed r) := by
  unfold p_spec_Trimmed at h
  obtain ⟨y2, h1, h⟩ := bd h
  have h1c := c_spec_GramOk h1
  rcases ifb h with ⟨h3, h⟩ | ⟨h3, h⟩
  · obtain ⟨o228, h227, h⟩ := bd h
    have qK229 := l_spec_Trimmed_L0 h227 (sl [6, 1, 2, 3, 5, 5])
    obtain ⟨s230, K229, qK229⟩ := qK229
    obtain rfl := Option.some.inj h
    obtain ⟨k, hk⟩ : ∃ k, K229 ≤ k := ⟨_, Nat.le_refl _⟩
    have jK229 := qK229 k (by omega) k (by omega)
    simp (implicitDefEqProofs := false) [-getElem?_pos, -getElem?_neg, Try.f23, h1c, h3] at jK229
    refine ⟨k, ?_⟩
    simp (implicitDefEqProofs := false) [-getElem?_pos, -getElem?_neg, Try.f23, h1c, h3, jK229]
  obtain rfl := Option.some.inj h
  obtain ⟨k, hk⟩ : ∃ k, 0 ≤ k := ⟨_, Nat.le_refl _⟩
  refine ⟨k, ?_⟩
  simp (implicitDefEqProofs := false) [-getElem?_pos, -getElem?_neg, Try.f23, h1c, h3]
theorem inj_spec_Trimmed : ∀ a b, arg_spec_Trimmed a = arg_spec_Trimmed b → a = b := by
  intro x y h; simp [arg_spec_Trimmed] at h; simp [Prod.ext_iff, h]
noncomputable def F_spec_Trimmed : Con := nilfix [[some 60]] (pcon arg_spec_Trimmed (fun a => p_spec_Trimmed a) res_spec_Trimmed)
theorem fn_spec_Trimmed : Fn Try.prog 23 F_spec_Trimmed := (Fn.pure cal_spec_Trimmed (fun k w0 h0 => ok_spec_Trimmed k w0 h0) mixed Try.func23 rfl rfl (by kernel_rfl) 1 (by decide) (fun _ => rfl) lm_spec_Trimmed (fun a b h => t_spec_Trimmed h)).nilfix _
theorem c_spec_Trimmed {a0 : List (List (List (Int)))} {r : List (List (List (Int)))} (h : p_spec_Trimmed a0 = some r) : F_spec_Trimmed [.agg [.sl false 60 (List.map (cL60 false) a0)]] = some (((false, [some 1]), [.sl true 60 (List.map (cL60 true) r)])) := pcon_at (arg := arg_spec_Trimmed) (p := fun a => p_spec_Trimmed a) (res := res_spec_Trimmed) (a := a0) (b := r) inj_spec_Trimmed h
def cal_impl_inRange (k : Nat) : Cal := calI (tabOf []) (inlOf [])
@[simp] theorem cal_impl_inRange_ap (k g : Nat) (vs : List TV) (mem : Mem) (ep : Nat) : cal_impl_inRange k g vs mem ep = calI (tabOf []) (inlOf []) g vs mem ep := rfl
theorem ok_impl_inRange (k : Nat) (w0 : World) (h0 : True) : CalOk Try.prog w0.heap.size w0 (cal_impl_inRange k) := by
  exact calI_ok (J := fun _ => True) stab_true (tabOf_ok _ (by simp [])) (inlOf_ok _ (by simp [])) h0
@[simp] def lm_impl_inRange : Nat → List Nat × Nat := fun b => ([], 0)
@[simp] def arg_impl_inRange (a : Int × Int × Int) : List TV := [.one (.lit (.int .i64 a.1)), .one (.lit (.int .i64 a.2.1)), .one (.lit (.int .i64 a.2.2))]
@[simp] def res_impl_inRange (r : Bool) : Sh × List V := ((false, [none]), [.lit (.bool r)])
def p_impl_inRange (a0 : Int) (a1 : Int) (a2 : Int) : Option Bool :=
 if a1 ≤ a0 then
  some (decide (a0 ≤ a2))
 else
  some false
theorem t_impl_inRange {a0 : Int} {a1 : Int} {a2 : Int} {r : Bool} (h : p_impl_inRange a0 a1 a2 = some r) : ∃ k, told Try.prog (cal_impl_inRange k) k lm_impl_inRange Try.f54 (arg_impl_inRange (a0, a1, a2)) = some (res_impl_inRange r) := by
  unfold p_impl_inRange at h
  rcases ifc h with ⟨h1, h⟩ | ⟨h1, h⟩
  · obtain rfl := Option.some.inj h
    obtain ⟨k, hk⟩ : ∃ k, 0 ≤ k := ⟨_, Nat.le_refl _⟩
    refine ⟨k, ?_⟩
    simp (implicitDefEqProofs := false) [-getElem?_pos, -getElem?_neg, Try.f54, h1]
  obtain rfl := Option.some.inj h
  obtain ⟨k, hk⟩ : ∃ k, 0 ≤ k := ⟨_, Nat.le_refl _⟩
  refine ⟨k, ?_⟩
  simp (implicitDefEqProofs := false) [-getElem?_pos, -getElem?_neg, Try.f54, h1]
theorem inj_impl_inRange : ∀ a b, arg_impl_inRange a = arg_impl_inRange b → a = b := by
  rintro ⟨x0, x1, x2⟩ ⟨y0, y1, y2⟩ h; simp [arg_impl_inRange] at h; simp [Prod.ext_iff, h]
noncomputable def F_impl_inRange : Con := nilfix [] (pcon arg_impl_inRange (fun a => p_impl_inRange a.1 a.2.1 a.2.2) res_impl_inRange)
theorem fn_impl_inRange : Fn Try.prog 54 F_impl_inRange := (Fn.pure cal_impl_inRange (fun k w0 h0 => ok_impl_inRange k w0 h0) mixed Try.func54 rfl rfl (by kernel_rfl) 3 (by decide) (fun _ => rfl) lm_impl_inRange (fun a b h => t_impl_inRange h)).nilfix _
theorem c_impl_inRange {a0 : Int} {a1 : Int} {a2 : Int} {r : Bool} (h : p_impl_inRange a0 a1 a2 = some r) : F_impl_inRange [.one (.lit (.int .i64 a0)), .one (.lit (.int .i64 a1)), .one (.lit (.int .i64 a2))] = some (((false, [none]), [.lit (.bool r)])) := pcon_at (arg := arg_impl_inRange) (p := fun a => p_impl_inRange a.1 a.2.1 a.2.2) (res := res_impl_inRange) (a := (a0, a1, a2)) (b := r) inj_impl_inRange h
noncomputable def cal_impl_isLetter (k : Nat) : Cal := calI (tabOf [(54, F_impl_inRange)]) (inlOf [])
@[simp] theorem cal_impl_isLetter_ap (k g : Nat) (vs : List TV) (mem : Mem) (ep : Nat) : cal_impl_isLetter k g vs mem ep = calI (tabOf [(54, F_impl_inRange)]) (inlOf []) g vs mem ep := rfl
theorem ok_impl_isLetter (k : Nat) (w0 : World) (h0 : True) : CalOk Try.prog w0.heap.size w0 (cal_impl_isLetter k) := by
  exact calI_ok (J := fun _ => True) stab_true (tabOf_ok _ (by simp [fn_impl_inRange])) (inlOf_ok _ (by simp [])) h0
@[simp] def lm_impl_isLetter : Nat → List Nat × Nat := fun b => ([], 0)
@[simp] def arg_impl_isLetter (a : Int) : List TV := [.one (.lit (.int .i64 a))]
@[simp] def res_impl_isLetter (r : Bool) : Sh × List V := ((false, [none]), [.lit (.bool r)])
def p_impl_isLetter (a0 : Int) : Option Bool :=
 p_impl_inRange a0 0 25 >>= fun y2 =>
 some y2
theorem t_impl_isLetter {a0 : Int} {r : Bool} (h : p_impl_isLetter a0 = some r) : ∃ k, told Try.prog (cal_impl_isLetter k) k lm_impl_isLetter Try.f69 (arg_impl_isLetter a0) = some (res_impl_isLetter r) := by
  unfold p_impl_isLetter at h
  obtain ⟨y2, h1, h⟩ := bd h
  have h1c := c_impl_inRange h1
  obtain rfl := Option.some.inj h
  obtain ⟨k, hk⟩ : ∃ k, 0 ≤ k := ⟨_, Nat.le_refl _⟩
  refine ⟨k, ?_⟩
  simp (implicitDefEqProofs := false) [-getElem?_pos, -getElem?_neg, Try.f69, h1c]
theorem inj_impl_isLetter : ∀ a b, arg_impl_isLetter a = arg_impl_isLetter b → a = b := by
  intro x y h; simp [arg_impl_isLetter] at h; simp [Prod.ext_iff, h]
noncomputable def F_impl_isLetter : Con := nilfix [] (pcon arg_impl_isLetter (fun a => p_impl_isLetter a) res_impl_isLetter)
theorem fn_impl_isLetter : Fn Try.prog 69 F_impl_isLetter := (Fn.pure cal_impl_isLetter (fun k w0 h0 => ok_impl_isLetter k w0 h0) mixed Try.func69 rfl rfl (by kernel_rfl) 1 (by decide) (fun _ => rfl) lm_impl_isLetter (fun a b h => t_impl_isLetter h)).nilfix _
theorem c_impl_isLetter {a0 : Int} {r : Bool} (h : p_impl_isLetter a0 = some r) : F_impl_isLetter [.one (.lit (.int .i64 a0))] = some (((false, [none]), [.lit (.bool r)])) := pcon_at (arg := arg_impl_isLetter) (p := fun a => p_impl_isLetter a) (res := res_impl_isLetter) (a := a0) (b := r) inj_impl_isLetter h
noncomputable def cal_impl_isPart (k : Nat) : Cal := calI (tabOf [(54, F_impl_inRange)]) (inlOf [])
@[simp] theorem cal_impl_isPart_ap (k g : Nat) (vs : List TV) (mem : Mem) (ep : Nat) : cal_impl_isPart k g vs mem ep = calI (tabOf [(54, F_impl_inRange)]) (inlOf []) g vs mem ep := rfl
theorem ok_impl_isPart (k : Nat) (w0 : World) (h0 : True) : CalOk Try.prog w0.heap.size w0 (cal_impl_isPart k) := by
  exact calI_ok (J := fun _ => True) stab_true (tabOf_ok _ (by simp [fn_impl_inRange])) (inlOf_ok _ (by simp [])) h0
@[simp] def lm_impl_isPart : Nat → List Nat × Nat := fun b => ([], 0)
@[simp] def arg_impl_isPart (a : List (List (List (Int))) × Int) : List TV := [.agg [.sl false 60 (List.map (cL60 false) a.1)], .one (.lit (.int .i64 a.2))]
@[simp] def res_impl_isPart (r : Bool) : Sh × List V := ((false, [none]), [.lit (.bool r)])
def p_impl_isPart (a0 : List (List (List (Int)))) (a1 : Int) : Option Bool :=
 p_impl_inRange a1 0 (IntKind.wrap .i64 ((a0.length : Int) - 1)) >>= fun y2 =>
 some y2
theorem t_impl_isPart {a0 : List (List (List (Int)))} {a1 : Int} {r : Bool} (h : p_impl_isPart a0 a1 = some r) : ∃ k, told Try.prog (cal_impl_isPart k) k lm_impl_isPart Try.f70 (arg_impl_isPart (a0, a1)) = some (res_impl_isPart r) := by
  unfold p_impl_isPart at h
  obtain ⟨y2, h1, h⟩ := bd h
  have h1c := c_impl_inRange h1
  try simp (implicitDefEqProofs := false) [-getElem?_pos, -getElem?_neg] at h1c
  obtain rfl := Option.some.inj h
  obtain ⟨k, hk⟩ : ∃ k, 0 ≤ k := ⟨_, Nat.le_refl _⟩
  refine ⟨k, ?_⟩
  simp (implicitDefEqProofs := false) [-getElem?_pos, -getElem?_neg, Try.f70, h1c]
theorem inj_impl_isPart : ∀ a b, arg_impl_isPart a = arg_impl_isPart b → a = b := by
  rintro ⟨x0, x1⟩ ⟨y0, y1⟩ h; simp [arg_impl_isPart] at h; simp [Prod.ext_iff, h]
noncomputable def F_impl_isPart : Con := nilfix [[some 60], [none]] (pcon arg_impl_isPart (fun a => p_impl_isPart a.1 a.2) res_impl_isPart)
theorem fn_impl_isPart : Fn Try.prog 70 F_impl_isPart := (Fn.pure cal_impl_isPart (fun k w0 h0 => ok_impl_isPart k w0 h0) mixed Try.func70 rfl rfl (by kernel_rfl) 2 (by decide) (fun _ => rfl) lm_impl_isPart (fun a b h => t_impl_isPart h)).nilfix _
theorem c_impl_isPart {a0 : List (List (List (Int)))} {a1 : Int} {r : Bool} (h : p_impl_isPart a0 a1 = some r) : F_impl_isPart [.agg [.sl false 60 (List.map (cL60 false) a0)], .one (.lit (.int .i64 a1))] = some (((false, [none]), [.lit (.bool r)])) := pcon_at (arg := arg_impl_isPart) (p := fun a => p_impl_isPart a.1 a.2) (res := res_impl_isPart) (a := (a0, a1)) (b := r) inj_impl_isPart h
noncomputable def cal_impl_isSymbol (k : Nat) : Cal := calI (tabOf [(69, F_impl_isLetter), (70, F_impl_isPart)]) (inlOf [])
@[simp] theorem cal_impl_isSymbol_ap (k g : Nat) (vs : List TV) (mem : Mem) (ep : Nat) : cal_impl_isSymbol k g vs mem ep = calI (tabOf [(69, F_impl_isLetter), (70, F_impl_isPart)]) (inlOf []) g vs mem ep := rfl
theorem ok_impl_isSymbol (k : Nat) (w0 : World) (h0 : True) : CalOk Try.prog w0.heap.size w0 (cal_impl_isSymbol k) := by
  exact calI_ok (J := fun _ => True) stab_true (tabOf_ok _ (by simp [fn_impl_isLetter, fn_impl_isPart])) (inlOf_ok _ (by simp [])) h0
@[simp] def lm_impl_isSymbol : Nat → List Nat × Nat := fun b => ([], 0)
@[simp] def arg_impl_isSymbol (a : List (List (List (Int))) × Int) : List TV := [.agg [.sl false 60 (List.map (cL60 false) a.1)], .one (.lit (.int .i64 a.2))]
@[simp] def res_impl_isSymbol (r : Bool) : Sh × List V := ((false, [none]), [.lit (.bool r)])
def p_impl_isSymbol (a0 : List (List (List (Int)))) (a1 : Int) : Option Bool :=
 p_impl_isLetter a1 >>= fun y2 =>
 if y2 then
  some true
 else
  if 100 ≤ a1 then
   p_impl_isPart a0 (IntKind.wrap .i64 (a1 - 100)) >>= fun y6 =>
   some y6
  else
   some false
theorem t_impl_isSymbol {a0 : List (List (List (Int)))} {a1 : Int} {r : Bool} (h : p_impl_isSymbol a0 a1 = some r) : ∃ k, told Try.prog (cal_impl_isSymbol k) k lm_impl_isSymbol Try.f65 (arg_impl_isSymbol (a0, a1)) = some (res_impl_isSymbol r) := by
  unfold p_impl_isSymbol at h
  obtain ⟨y2, h1, h⟩ := bd h
  have h1c := c_impl_isLetter h1
  rcases ifb h with ⟨h3, h⟩ | ⟨h3, h⟩
  · obtain rfl := Option.some.inj h
    obtain ⟨k, hk⟩ : ∃ k, 0 ≤ k := ⟨_, Nat.le_refl _⟩
    refine ⟨k, ?_⟩
    simp (implicitDefEqProofs := false) [-getElem?_pos, -getElem?_neg, Try.f65, h1c, h3]
  rcases ifc h with ⟨h4, h⟩ | ⟨h4, h⟩
  · obtain ⟨y6, h5, h⟩ := bd h
    have h5c := c_impl_isPart h5
    try simp (implicitDefEqProofs := false) [-getElem?_pos, -getElem?_neg] at h5c
    obtain rfl := Option.some.inj h
    obtain ⟨k, hk⟩ : ∃ k, 0 ≤ k := ⟨_, Nat.le_refl _⟩
    refine ⟨k, ?_⟩
    simp (implicitDefEqProofs := false) [-getElem?_pos, -getElem?_neg, Try.f65, h1c, h3, h4, h5c]
  obtain rfl := Option.some.inj h
  obtain ⟨k, hk⟩ : ∃ k, 0 ≤ k := ⟨_, Nat.le_refl _⟩
  refine ⟨k, ?_⟩
  simp (implicitDefEqProofs := false) [-getElem?_pos, -getElem?_neg, Try.f65, h1c, h3, h4]
theorem inj_impl_isSymbol : ∀ a b, arg_impl_isSymbol a = arg_impl_isSymbol b → a = b := by
  rintro ⟨x0, x1⟩ ⟨y0, y1⟩ h; simp [arg_impl_isSymbol] at h; simp [Prod.ext_iff, h]
noncomputable def F_impl_isSymbol : Con := nilfix [[some 60], [none]] (pcon arg_impl_isSymbol (fun a => p_impl_isSymbol a.1 a.2) res_impl_isSymbol)
theorem fn_impl_isSymbol : Fn Try.prog 65 F_impl_isSymbol := (Fn.pure cal_impl_isSymbol (fun k w0 h0 => ok_impl_isSymbol k w0 h0) mixed Try.func65 rfl rfl (by kernel_rfl) 2 (by decide) (fun _ => rfl) lm_impl_isSymbol (fun a b h => t_impl_isSymbol h)).nilfix _
theorem c_impl_isSymbol {a0 : List (List (List (Int)))} {a1 : Int} {r : Bool} (h : p_impl_isSymbol a0 a1 = some r) : F_impl_isSymbol [.agg [.sl false 60 (List.map (cL60 false) a0)], .one (.lit (.int .i64 a1))] = some (((false, [none]), [.lit (.bool r)])) := pcon_at (arg := arg_impl_isSymbol) (p := fun a => p_impl_isSymbol a.1 a.2) (res := res_impl_isSymbol) (a := (a0, a1)) (b := r) inj_impl_isSymbol h
noncomputable def cal_impl_areSymbols (k : Nat) : Cal := calI (tabOf [(65, F_impl_isSymbol)]) (inlOf [])
@[simp] theorem cal_impl_areSymbols_ap (k g : Nat) (vs : List TV) (mem : Mem) (ep : Nat) : cal_impl_areSymbols k g vs mem ep = calI (tabOf [(65, F_impl_isSymbol)]) (inlOf []) g vs mem ep := rfl
theorem ok_impl_areSymbols (k : Nat) (w0 : World) (h0 : True) : CalOk Try.prog w0.heap.size w0 (cal_impl_areSymbols k) := by
  exact calI_ok (J := fun _ => True) stab_true (tabOf_ok _ (by simp [fn_impl_isSymbol])) (inlOf_ok _ (by simp [])) h0
@[simp] def lm_impl_areSymbols : Nat → List Nat × Nat := fun b => if b = 0 then ([2, 7, 8, 9], 1) else if b = 2000000 then ([], 8888888) else if b = 3000000 then ([], 1) else ([], 0)
@[simp] def arg_impl_areSymbols (a : List (List (List (Int))) × List (Int)) : List TV := [.agg [.sl false 60 (List.map (cL60 false) a.1)], .one (.sl false 3 (List.map cI a.2))]
@[simp] def res_impl_areSymbols (r : Bool) : Sh × List V := ((false, [none]), [.lit (.bool r)])
def p_impl_areSymbols_L0 (a1 : List (Int)) (a0 : List (List (List (Int)))) (x9b0 : Int) : Option (Bool ⊕ Unit) :=
 if x9b0 < (a1.length : Int) then
  if 0 ≤ x9b0 then
   a1[x9b0.toNat]? >>= fun y23 =>
   p_impl_isSymbol a0 y23 >>= fun y26 =>
   if y26 then
    p_impl_areSymbols_L0 a1 a0 (IntKind.wrap .i64 (x9b0 + 1))
   else
    some (.inl false)
  else none
 else
  some (.inr ())
partial_fixpoint
@[simp] noncomputable def L_impl_areSymbols_L0 : Code := nav [1, 0, 1, 0, 0] (bodyOf Try.f55)
@[simp] def T_impl_areSymbols_L0 (a1 : List (Int)) (a0 : List (List (List (Int)))) (x9b0 : Int) (st : Nat → Nat) : St := ⟨[(2, .one (.bp 1 1 0)), (7, .one (.sl false 3 (List.map cI a1))), (8, .one (.lit (.int .i64 (a1.length : Int)))), (9, .one (.lit (.int .i64 x9b0)))], [none, some (.box 1 [.sl false 60 (List.map (cL60 false) a0)])], (st 0)⟩
@[simp] def U_impl_areSymbols_L0 (a1 : List (Int)) (a0 : List (List (List (Int)))) (o : Unit) (st : Nat → Nat) : St := ⟨[], [none, some (.box 1 [.sl false 60 (List.map (cL60 false) a0)])], (st 0)⟩
abbrev Q_impl_areSymbols_L0 (a1 : List (Int)) (a0 : List (List (List (Int)))) (x9b0 : Int) (o : Bool ⊕ Unit) : Prop := ∀ st : Nat → Nat, LoopT Try.prog cal_impl_areSymbols 1 lm_impl_areSymbols 0 L_impl_areSymbols_L0 (tellS Try.prog lm_impl_areSymbols [.tmp 4]) res_impl_areSymbols (U_impl_areSymbols_L0 a1 a0) (T_impl_areSymbols_L0 a1 a0 x9b0 st) o
theorem l_impl_areSymbols_L0 {a1 : List (Int)} {a0 : List (List (List (Int)))} {x9b0 : Int} {o : Bool ⊕ Unit} (h : p_impl_areSymbols_L0 a1 a0 x9b0 = some o) : Q_impl_areSymbols_L0 a1 a0 x9b0 o := by
  refine p_impl_areSymbols_L0.partial_correctness a1 a0 (motive := fun x9b0 o => Q_impl_areSymbols_L0 a1 a0 x9b0 o) ?_ x9b0 o h
  clear h o x9b0
  intro p' ih x9b0 r h st
  rcases ifc h with ⟨h21, h⟩ | ⟨h21, h⟩
  · obtain ⟨h22, h⟩ := ifg h
    obtain ⟨y23, h24, h⟩ := bd h
    obtain ⟨y26, h25, h⟩ := bd h
    have h25c := c_impl_isSymbol h25
    rcases ifb h with ⟨h27, h⟩ | ⟨h27, h⟩
    · exact LoopT.step 0 (fun k hk => by simp (implicitDefEqProofs := false) [-getElem?_pos, -getElem?_neg, Try.f55, h21, h22, h24, h25c, h27]) (ih _ _ h (sl [((st 0) + 1)]))
    obtain rfl := Option.some.inj h
    exact LoopT.ret 0 (fun k hk => by simp (implicitDefEqProofs := false) [-getElem?_pos, -getElem?_neg, Try.f55, h21, h22, h24, h25c, h27])
  obtain rfl := Option.some.inj h
  exact LoopT.exit (sl [(st 0)]) 0 (fun k hk => by simp (implicitDefEqProofs := false) [-getElem?_pos, -getElem?_neg, Try.f55, h21])
def p_impl_areSymbols (a0 : List (List (List (Int)))) (a1 : List (Int)) : Option Bool :=
 p_impl_areSymbols_L0 a1 a0 0 >>= fun o29 => match o29 with
 | .inl o29 =>
  some o29
 | .inr o29 =>
  some true
theorem t_impl_areSymbols {a0 : List (List (List (Int)))} {a1 : List (Int)} {r : Bool} (h : p_impl_areSymbols a0 a1 = some r) : ∃ k, told Try.prog (cal_impl_areSymbols k) k lm_impl_areSymbols Try.f55 (arg_impl_areSymbols (a0, a1)) = some (res_impl_areSymbols r) := by
  unfold p_impl_areSymbols at h
  obtain ⟨o29, h28, h⟩ := bd h
  have qK30 := l_impl_areSymbols_L0 h28 (sl [2])
  rcases o29 with o29 | o29
  · obtain ⟨K30, qK30⟩ := qK30
    obtain rfl := Option.some.inj h
    obtain ⟨k, hk⟩ : ∃ k, K30 ≤ k := ⟨_, Nat.le_refl _⟩
    obtain ⟨S_K30, jK30, iK30⟩ := qK30 k (by omega) k (by omega)
    simp (implicitDefEqProofs := false) [-getElem?_pos, -getElem?_neg, Try.f55] at jK30
    refine ⟨k, ?_⟩
    simp (implicitDefEqProofs := false) [-getElem?_pos, -getElem?_neg, Try.f55, iK30, jK30]
  obtain ⟨s31, K30, qK30⟩ := qK30
  obtain rfl := Option.some.inj h
  obtain ⟨k, hk⟩ : ∃ k, K30 ≤ k := ⟨_, Nat.le_refl _⟩
  have jK30 := qK30 k (by omega) k (by omega)
  simp (implicitDefEqProofs := false) [-getElem?_pos, -getElem?_neg, Try.f55] at jK30
  refine ⟨k, ?_⟩
  simp (implicitDefEqProofs := false) [-getElem?_pos, -getElem?_neg, Try.f55, jK30]
theorem inj_impl_areSymbols : ∀ a b, arg_impl_areSymbols a = arg_impl_areSymbols b → a = b := by
  rintro ⟨x0, x1⟩ ⟨y0, y1⟩ h; simp [arg_impl_areSymbols] at h; simp [Prod.ext_iff, h]
noncomputable def F_impl_areSymbols : Con := nilfix [[some 60], [some 3]] (pcon arg_impl_areSymbols (fun a => p_impl_areSymbols a.1 a.2) res_impl_areSymbols)
theorem fn_impl_areSymbols : Fn Try.prog 55 F_impl_areSymbols := (Fn.pure cal_impl_areSymbols (fun k w0 h0 => ok_impl_areSymbols k w0 h0) mixed Try.func55 rfl rfl (by kernel_rfl) 2 (by decide) (fun _ => rfl) lm_impl_areSymbols (fun a b h => t_impl_areSymbols h)).nilfix _
theorem c_impl_areSymbols {a0 : List (List (List (Int)))} {a1 : List (Int)} {r : Bool} (h : p_impl_areSymbols a0 a1 = some r) : F_impl_areSymbols [.agg [.sl false 60 (List.map (cL60 false) a0)], .one (.sl false 3 (List.map cI a1))] = some (((false, [none]), [.lit (.bool r)])) := pcon_at (arg := arg_impl_areSymbols) (p := fun a => p_impl_areSymbols a.1 a.2) (res := res_impl_areSymbols) (a := (a0, a1)) (b := r) inj_impl_areSymbols h
noncomputable def cal_impl_GramOk (k : Nat) : Cal := calI (tabOf [(54, F_impl_inRange), (55, F_impl_areSymbols)]) (inlOf [])
@[simp] theorem cal_impl_GramOk_ap (k g : Nat) (vs : List TV) (mem : Mem) (ep : Nat) : cal_impl_GramOk k g vs mem ep = calI (tabOf [(54, F_impl_inRange), (55, F_impl_areSymbols)]) (inlOf []) g vs mem ep := rfl
theorem ok_impl_GramOk (k : Nat) (w0 : World) (h0 : True) : CalOk Try.prog w0.heap.size w0 (cal_impl_GramOk k) := by
  exact calI_ok (J := fun _ => True) stab_true (tabOf_ok _ (by simp [fn_impl_inRange, fn_impl_areSymbols])) (inlOf_ok _ (by simp [])) h0
@[simp] def lm_impl_GramOk : Nat → List Nat × Nat := fun b => if b = 0 then ([1, 13, 14, 15], 1) else if b = 2000000 then ([], 8888888) else if b = 3000000 then ([], 1) else if b = 2 then ([1, 13, 14, 15, 23, 24, 25], 1) else if b = 2000002 then ([], 8888888) else if b = 3000002 then ([1, 13, 14, 15], 1) else ([], 0)
@[simp] def arg_impl_GramOk (a : List (List (List (Int)))) : List TV := [.agg [.sl false 60 (List.map (cL60 false) a)]]
@[simp] def res_impl_GramOk (r : Bool) : Sh × List V := ((false, [none]), [.lit (.bool r)])
def p_impl_GramOk_L2 (a0 : List (List (List (Int)))) (x15b0 : Int) (y57 : List (List (Int))) (x25b2 : Int) : Option (Bool ⊕ Unit) :=
 if x25b2 < (y57.length : Int) then
  if 0 ≤ x25b2 then
   y57[x25b2.toNat]? >>= fun y79 =>
   if 8 < (y79.length : Int) then
    some (.inl false)
   else
    p_impl_areSymbols a0 y79 >>= fun y83 =>
    if y83 then
     p_impl_GramOk_L2 a0 x15b0 y57 (IntKind.wrap .i64 (x25b2 + 1))
    else
     some (.inl false)
  else none
 else
  some (.inr ())
partial_fixpoint
@[simp] noncomputable def L_impl_GramOk_L2 : Code := nav [1, 1, 0, 1, 0, 0, 1, 1, 0, 0, 1, 1, 1, 0, 0] (bodyOf Try.f40)
@[simp] def T_impl_GramOk_L2 (a0 : List (List (List (Int)))) (x15b0 : Int) (y57 : List (List (Int))) (x25b2 : Int) (st : Nat → Nat) : St := ⟨[(1, .one (.bp 1 (st 1) 0)), (13, .one (.sl false 60 (List.map (cL60 false) a0))), (14, .one (.lit (.int .i64 (a0.length : Int)))), (15, .one (.lit (.int .i64 x15b0))), (23, .one (.sl false 48 (List.map (cL48 false) y57))), (24, .one (.lit (.int .i64 (y57.length : Int)))), (25, .one (.lit (.int .i64 x25b2)))], [none, some (.box (st 1) [.sl false 60 (List.map (cL60 false) a0)])], (st 0)⟩
@[simp] def U_impl_GramOk_L2 (a0 : List (List (List (Int)))) (x15b0 : Int) (y57 : List (List (Int))) (o : Unit) (st : Nat → Nat) : St := ⟨[(1, .one (.bp 1 (st 1) 0)), (13, .one (.sl false 60 (List.map (cL60 false) a0))), (14, .one (.lit (.int .i64 (a0.length : Int)))), (15, .one (.lit (.int .i64 x15b0)))], [none, some (.box (st 1) [.sl false 60 (List.map (cL60 false) a0)])], (st 0)⟩
abbrev Q_impl_GramOk_L2 (a0 : List (List (List (Int)))) (x15b0 : Int) (y57 : List (List (Int))) (x25b2 : Int) (o : Bool ⊕ Unit) : Prop := ∀ st : Nat → Nat, LoopT Try.prog cal_impl_GramOk 1 lm_impl_GramOk 2 L_impl_GramOk_L2 (tellS Try.prog lm_impl_GramOk [.tmp 2]) res_impl_GramOk (U_impl_GramOk_L2 a0 x15b0 y57) (T_impl_GramOk_L2 a0 x15b0 y57 x25b2 st) o
theorem l_impl_GramOk_L2 {a0 : List (List (List (Int)))} {x15b0 : Int} {y57 : List (List (Int))} {x25b2 : Int} {o : Bool ⊕ Unit} (h : p_impl_GramOk_L2 a0 x15b0 y57 x25b2 = some o) : Q_impl_GramOk_L2 a0 x15b0 y57 x25b2 o := by
  refine p_impl_GramOk_L2.partial_correctness a0 x15b0 y57 (motive := fun x25b2 o => Q_impl_GramOk_L2 a0 x15b0 y57 x25b2 o) ?_ x25b2 o h
  clear h o x25b2
  intro p' ih x25b2 r h st
  rcases ifc h with ⟨h77, h⟩ | ⟨h77, h⟩
  · obtain ⟨h78, h⟩ := ifg h
    obtain ⟨y79, h80, h⟩ := bd h
    rcases ifc h with ⟨h81, h⟩ | ⟨h81, h⟩
    · obtain rfl := Option.some.inj h
      exact LoopT.ret 0 (fun k hk => by simp (implicitDefEqProofs := false) [-getElem?_pos, -getElem?_neg, Try.f40, h77, h78, h80, h81])
    obtain ⟨y83, h82, h⟩ := bd h
    have h82c := c_impl_areSymbols h82
    rcases ifb h with ⟨h84, h⟩ | ⟨h84, h⟩
    · exact LoopT.step 0 (fun k hk => by simp (implicitDefEqProofs := false) [-getElem?_pos, -getElem?_neg, Try.f40, h77, h78, h80, h81, h82c, h84]) (ih _ _ h (sl [((st 0) + 1), (st 1)]))
    obtain rfl := Option.some.inj h
    exact LoopT.ret 0 (fun k hk => by simp (implicitDefEqProofs := false) [-getElem?_pos, -getElem?_neg, Try.f40, h77, h78, h80, h81, h82c, h84])
  obtain rfl := Option.some.inj h
  exact LoopT.exit (sl [(st 0), (st 1)]) 0 (fun k hk => by simp (implicitDefEqProofs := false) [-getElem?_pos, -getElem?_neg, Try.f40, h77])
def p_impl_GramOk_L0 (a0 : List (List (List (Int)))) (x15b0 : Int) : Option (Bool ⊕ Unit) :=
 if x15b0 < (a0.length : Int) then
  if 0 ≤ x15b0 then
   a0[x15b0.toNat]? >>= fun y57 =>
   p_impl_inRange (y57.length : Int) 1 8 >>= fun y60 =>
   if y60 then
    p_impl_GramOk_L2 a0 x15b0 y57 0 >>= fun o86 => match o86 with
    | .inl o86 =>
     some (.inl o86)
    | .inr o86 =>
     p_impl_GramOk_L0 a0 (IntKind.wrap .i64 (x15b0 + 1))
   else
    some (.inl false)
  else none
 else
  some (.inr ())
partial_fixpoint
@[simp] noncomputable def L_impl_GramOk_L0 : Code := nav [1, 1, 0, 1, 0, 0] (bodyOf Try.f40)
@[simp] def T_impl_GramOk_L0 (a0 : List (List (List (Int)))) (x15b0 : Int) (st : Nat → Nat) : St := ⟨[(1, .one (.bp 1 (st 1) 0)), (13, .one (.sl false 60 (List.map (cL60 false) a0))), (14, .one (.lit (.int .i64 (a0.length : Int)))), (15, .one (.lit (.int .i64 x15b0)))], [none, some (.box (st 1) [.sl false 60 (List.map (cL60 false) a0)])], (st 0)⟩
@[simp] def U_impl_GramOk_L0 (a0 : List (List (List (Int)))) (o : Unit) (st : Nat → Nat) : St := ⟨[], [none, some (.box (st 1) [.sl false 60 (List.map (cL60 false) a0)])], (st 0)⟩
abbrev Q_impl_GramOk_L0 (a0 : List (List (List (Int)))) (x15b0 : Int) (o : Bool ⊕ Unit) : Prop := ∀ st : Nat → Nat, LoopT Try.prog cal_impl_GramOk 1 lm_impl_GramOk 0 L_impl_GramOk_L0 (tellS Try.prog lm_impl_GramOk [.tmp 2]) res_impl_GramOk (U_impl_GramOk_L0 a0) (T_impl_GramOk_L0 a0 x15b0 st) o
theorem l_impl_GramOk_L0 {a0 : List (List (List (Int)))} {x15b0 : Int} {o : Bool ⊕ Unit} (h : p_impl_GramOk_L0 a0 x15b0 = some o) : Q_impl_GramOk_L0 a0 x15b0 o := by
  refine p_impl_GramOk_L0.partial_correctness a0 (motive := fun x15b0 o => Q_impl_GramOk_L0 a0 x15b0 o) ?_ x15b0 o h
  clear h o x15b0
  intro p' ih x15b0 r h st
  rcases ifc h with ⟨h55, h⟩ | ⟨h55, h⟩
  · obtain ⟨h56, h⟩ := ifg h
    obtain ⟨y57, h58, h⟩ := bd h
    obtain ⟨y60, h59, h⟩ := bd h
    have h59c := c_impl_inRange h59
    try simp (implicitDefEqProofs := false) [-getElem?_pos, -getElem?_neg] at h59c
    rcases ifb h with ⟨h61, h⟩ | ⟨h61, h⟩
    · obtain ⟨o86, h85, h⟩ := bd h
      have qK87 := l_impl_GramOk_L2 h85 (sl [((st 0) + 1), (st 1)])
      rcases o86 with o86 | o86
      · obtain ⟨K87, qK87⟩ := qK87
        obtain rfl := Option.some.inj h
        refine LoopT.ret K87 (fun k hk => ?_)
        obtain ⟨S_K87, jK87, iK87⟩ := qK87 k (by omega) k (by omega)
        simp (implicitDefEqProofs := false) [-getElem?_pos, -getElem?_neg, Try.f40, h55, h56, h58, h59c, h61] at jK87
        simp (implicitDefEqProofs := false) [-getElem?_pos, -getElem?_neg, Try.f40, h55, h56, h58, h59c, h61, iK87, jK87]
      obtain ⟨s88, K87, qK87⟩ := qK87
      refine LoopT.step K87 (fun k hk => ?_) (ih _ _ h (sl [(s88 0), (s88 1)]))
      have jK87 := qK87 k (by omega) k (by omega)
      simp (implicitDefEqProofs := false) [-getElem?_pos, -getElem?_neg, Try.f40, h55, h56, h58, h59c, h61] at jK87
      simp (implicitDefEqProofs := false) [-getElem?_pos, -getElem?_neg, Try.f40, h55, h56, h58, h59c, h61, jK87]
    obtain rfl := Option.some.inj h
    exact LoopT.ret 0 (fun k hk => by simp (implicitDefEqProofs := false) [-getElem?_pos, -getElem?_neg, Try.f40, h55, h56, h58, h59c, h61])
  obtain rfl := Option.some.inj h
  exact LoopT.exit (sl [(st 0), (st 1)]) 0 (fun k hk => by simp (implicitDefEqProofs := false) [-getElem?_pos, -getElem?_neg, Try.f40, h55])
def p_impl_GramOk (a0 : List (List (List (Int)))) : Option Bool :=
 p_impl_inRange (a0.length : Int) 1 20 >>= fun y2 =>
 if y2 then
  p_impl_GramOk_L0 a0 0 >>= fun o90 => match o90 with
  | .inl o90 =>
   some o90
  | .inr o90 =>
   some true
 else
  some false
theorem t_impl_GramOk {a0 : List (List (List (Int)))} {r : Bool} (h : p_impl_GramOk a0 = some r) : ∃ k, told Try.prog (cal_impl_GramOk k) k lm_impl_GramOk Try.f40 (arg_impl_GramOk a0) = some (res_impl_GramOk r) := by
  unfold p_impl_GramOk at h
  obtain ⟨y2, h1, h⟩ := bd h
  have h1c := c_impl_inRange h1
  try simp (implicitDefEqProofs := false) [-getElem?_pos, -getElem?_neg] at h1c
  rcases ifb h with ⟨h3, h⟩ | ⟨h3, h⟩
  · obtain ⟨o90, h89, h⟩ := bd h
    have qK91 := l_impl_GramOk_L0 h89 (sl [3, 1])
    rcases o90 with o90 | o90
    · obtain ⟨K91, qK91⟩ := qK91
      obtain rfl := Option.some.inj h
      obtain ⟨k, hk⟩ : ∃ k, K91 ≤ k := ⟨_, Nat.le_refl _⟩
      obtain ⟨S_K91, jK91, iK91⟩ := qK91 k (by omega) k (by omega)
      simp (implicitDefEqProofs := false) [-getElem?_pos, -getElem?_neg, Try.f40, h1c, h3] at jK91
      refine ⟨k, ?_⟩
      simp (implicitDefEqProofs := false) [-getElem?_pos, -getElem?_neg, Try.f40, h1c, h3, iK91, jK91]
    obtain ⟨s92, K91, qK91⟩ := qK91
    obtain rfl := Option.some.inj h
    obtain ⟨k, hk⟩ : ∃ k, K91 ≤ k := ⟨_, Nat.le_refl _⟩
    have jK91 := qK91 k (by omega) k (by omega)
    simp (implicitDefEqProofs := false) [-getElem?_pos, -getElem?_neg, Try.f40, h1c, h3] at jK91
    refine ⟨k, ?_⟩
    simp (implicitDefEqProofs := false) [-getElem?_pos, -getElem?_neg, Try.f40, h1c, h3, jK91]
  obtain rfl := Option.some.inj h
  obtain ⟨k, hk⟩ : ∃ k, 0 ≤ k := ⟨_, Nat.le_refl _⟩
  refine ⟨k, ?_⟩
  simp (implicitDefEqProofs := false) [-getElem?_pos, -getElem?_neg, Try.f40, h1c, h3]
theorem inj_impl_GramOk : ∀ a b, arg_impl_GramOk a = arg_impl_GramOk b → a = b := by
  intro x y h; simp [arg_impl_GramOk] at h; simp [Prod.ext_iff, h]
noncomputable def F_impl_GramOk : Con := nilfix [[some 60]] (pcon arg_impl_GramOk (fun a => p_impl_GramOk a) res_impl_GramOk)
theorem fn_impl_GramOk : Fn Try.prog 40 F_impl_GramOk := (Fn.pure cal_impl_GramOk (fun k w0 h0 => ok_impl_GramOk k w0 h0) mixed Try.func40 rfl rfl (by kernel_rfl) 1 (by decide) (fun _ => rfl) lm_impl_GramOk (fun a b h => t_impl_GramOk h)).nilfix _
theorem c_impl_GramOk {a0 : List (List (List (Int)))} {r : Bool} (h : p_impl_GramOk a0 = some r) : F_impl_GramOk [.agg [.sl false 60 (List.map (cL60 false) a0)]] = some (((false, [none]), [.lit (.bool r)])) := pcon_at (arg := arg_impl_GramOk) (p := fun a => p_impl_GramOk a) (res := res_impl_GramOk) (a := a0) (b := r) inj_impl_GramOk h
def cal_slices_Equal_int (k : Nat) : Cal := calI (tabOf []) (inlOf [])
@[simp] theorem cal_slices_Equal_int_ap (k g : Nat) (vs : List TV) (mem : Mem) (ep : Nat) : cal_slices_Equal_int k g vs mem ep = calI (tabOf []) (inlOf []) g vs mem ep := rfl
theorem ok_slices_Equal_int (k : Nat) (w0 : World) (h0 : True) : CalOk Try.prog w0.heap.size w0 (cal_slices_Equal_int k) := by
  exact calI_ok (J := fun _ => True) stab_true (tabOf_ok _ (by simp [])) (inlOf_ok _ (by simp [])) h0
@[simp] def lm_slices_Equal_int : Nat → List Nat × Nat := fun b => if b = 0 then ([0, 1, 12, 13], 0) else if b = 2000000 then ([], 8888888) else if b = 3000000 then ([], 0) else ([], 0)
theorem dr_slices_Equal_int_6 : drawn (opsOf (nav [1, 1, 0, 1, 0, 0, 1, 1, 0, 0, 1, 0] (bodyOf Try.f45))) = some ([0, 1, 2, 3, 4, 5, 6, 7, 8], []) := by kernel_rfl
@[simp] def arg_slices_Equal_int (a : List (Int) × List (Int)) : List TV := [.one (.sl false 3 (List.map cI a.1)), .one (.sl false 3 (List.map cI a.2))]
@[simp] def res_slices_Equal_int (r : Bool) : Sh × List V := ((false, [none]), [.lit (.bool r)])
def p_slices_Equal_int_L0 (a0 : List (Int)) (a1 : List (Int)) (x13b0 : Int) : Option (Bool ⊕ Unit) :=
 if x13b0 < (a0.length : Int) then
  if 0 ≤ x13b0 then
   a0[x13b0.toNat]? >>= fun y17 =>
   a1[x13b0.toNat]? >>= fun y19 =>
   if y17 = y19 then
    p_slices_Equal_int_L0 a0 a1 (IntKind.wrap .i64 (x13b0 + 1))
   else
    some (.inl false)
  else none
 else
  some (.inr ())
partial_fixpoint
@[simp] noncomputable def L_slices_Equal_int_L0 : Code := nav [1, 1, 0, 1, 0, 0] (bodyOf Try.f45)
@[simp] def T_slices_Equal_int_L0 (a0 : List (Int)) (a1 : List (Int)) (x13b0 : Int) (st : Nat → Nat) : St := ⟨[(0, .one (.sl false 3 (List.map cI a0))), (1, .one (.sl false 3 (List.map cI a1))), (12, .one (.lit (.int .i64 (a0.length : Int)))), (13, .one (.lit (.int .i64 x13b0)))], [none], (st 0)⟩
@[simp] def U_slices_Equal_int_L0 (a0 : List (Int)) (a1 : List (Int)) (o : Unit) (st : Nat → Nat) : St := ⟨[], [none], (st 0)⟩
abbrev Q_slices_Equal_int_L0 (a0 : List (Int)) (a1 : List (Int)) (x13b0 : Int) (o : Bool ⊕ Unit) : Prop := ∀ st : Nat → Nat, LoopT Try.prog cal_slices_Equal_int 1 lm_slices_Equal_int 0 L_slices_Equal_int_L0 (tellS Try.prog lm_slices_Equal_int [.tmp 4]) res_slices_Equal_int (U_slices_Equal_int_L0 a0 a1) (T_slices_Equal_int_L0 a0 a1 x13b0 st) o
theorem l_slices_Equal_int_L0 {a0 : List (Int)} {a1 : List (Int)} {x13b0 : Int} {o : Bool ⊕ Unit} (h : p_slices_Equal_int_L0 a0 a1 x13b0 = some o) : Q_slices_Equal_int_L0 a0 a1 x13b0 o := by
  refine p_slices_Equal_int_L0.partial_correctness a0 a1 (motive := fun x13b0 o => Q_slices_Equal_int_L0 a0 a1 x13b0 o) ?_ x13b0 o h
  clear h o x13b0
  intro p' ih x13b0 r h st
  rcases ifc h with ⟨h15, h⟩ | ⟨h15, h⟩
  · obtain ⟨h16, h⟩ := ifg h
    obtain ⟨y17, h18, h⟩ := bd h
    obtain ⟨y19, h20, h⟩ := bd h
    rcases ifc h with ⟨h21, h⟩ | ⟨h21, h⟩
    · refine LoopT.step 0 (fun k hk => ?_) (ih _ _ h (sl [(st 0)]))
      have hd_slices_Equal_int_6 := dr_slices_Equal_int_6
      simp only [opsOf, nav, bodyOf, Try.f45, Option.getD_some] at hd_slices_Equal_int_6
      simp (implicitDefEqProofs := false) [-getElem?_pos, -getElem?_neg, Try.f45, h15, ex_draw2 _ _ hd_slices_Equal_int_6, h16, h18, h20, (eq_true h21)]
    obtain rfl := Option.some.inj h
    refine LoopT.ret 0 (fun k hk => ?_)
    have hd_slices_Equal_int_6 := dr_slices_Equal_int_6
    simp only [opsOf, nav, bodyOf, Try.f45, Option.getD_some] at hd_slices_Equal_int_6
    simp (implicitDefEqProofs := false) [-getElem?_pos, -getElem?_neg, Try.f45, h15, ex_draw2 _ _ hd_slices_Equal_int_6, h16, h18, h20, h21]
  obtain rfl := Option.some.inj h
  exact LoopT.exit (sl [(st 0)]) 0 (fun k hk => by simp (implicitDefEqProofs := false) [-getElem?_pos, -getElem?_neg, Try.f45, h15])
def p_slices_Equal_int (a0 : List (Int)) (a1 : List (Int)) : Option Bool :=
 if (a0.length : Int) = (a1.length : Int) then
  p_slices_Equal_int_L0 a0 a1 0 >>= fun o23 => match o23 with
  | .inl o23 =>
   some o23
  | .inr o23 =>
   some true
 else
  some false
theorem t_slices_Equal_int {a0 : List (Int)} {a1 : List (Int)} {r : Bool} (h : p_slices_Equal_int a0 a1 = some r) : ∃ k, told Try.prog (cal_slices_Equal_int k) k lm_slices_Equal_int Try.f45 (arg_slices_Equal_int (a0, a1)) = some (res_slices_Equal_int r) := by
  unfold p_slices_Equal_int at h
  rcases ifc h with ⟨h1, h⟩ | ⟨h1, h⟩
  · obtain ⟨o23, h22, h⟩ := bd h
    have qK24 := l_slices_Equal_int_L0 h22 (sl [1])
    rcases o23 with o23 | o23
    · obtain ⟨K24, qK24⟩ := qK24
      obtain rfl := Option.some.inj h
      obtain ⟨k, hk⟩ : ∃ k, K24 ≤ k := ⟨_, Nat.le_refl _⟩
      obtain ⟨S_K24, jK24, iK24⟩ := qK24 k (by omega) k (by omega)
      simp (implicitDefEqProofs := false) [-getElem?_pos, -getElem?_neg, Try.f45, (eq_true h1)] at jK24
      refine ⟨k, ?_⟩
      simp (implicitDefEqProofs := false) [-getElem?_pos, -getElem?_neg, Try.f45, (eq_true h1), iK24, jK24]
    obtain ⟨s25, K24, qK24⟩ := qK24
    obtain rfl := Option.some.inj h
    obtain ⟨k, hk⟩ : ∃ k, K24 ≤ k := ⟨_, Nat.le_refl _⟩
    have jK24 := qK24 k (by omega) k (by omega)
    simp (implicitDefEqProofs := false) [-getElem?_pos, -getElem?_neg, Try.f45, (eq_true h1)] at jK24
    refine ⟨k, ?_⟩
    simp (implicitDefEqProofs := false) [-getElem?_pos, -getElem?_neg, Try.f45, (eq_true h1), jK24]
  obtain rfl := Option.some.inj h
  obtain ⟨k, hk⟩ : ∃ k, 0 ≤ k := ⟨_, Nat.le_refl _⟩
  refine ⟨k, ?_⟩
  simp (implicitDefEqProofs := false) [-getElem?_pos, -getElem?_neg, Try.f45, h1]
theorem inj_slices_Equal_int : ∀ a b, arg_slices_Equal_int a = arg_slices_Equal_int b → a = b := by
  rintro ⟨x0, x1⟩ ⟨y0, y1⟩ h; simp [arg_slices_Equal_int] at h; simp [Prod.ext_iff, h]
noncomputable def F_slices_Equal_int : Con := nilfix [[some 3], [some 3]] (pcon arg_slices_Equal_int (fun a => p_slices_Equal_int a.1 a.2) res_slices_Equal_int)
theorem fn_slices_Equal_int : Fn Try.prog 45 F_slices_Equal_int := (Fn.pure cal_slices_Equal_int (fun k w0 h0 => ok_slices_Equal_int k w0 h0) mixed Try.func45 rfl rfl (by kernel_rfl) 2 (by decide) (fun _ => rfl) lm_slices_Equal_int (fun a b h => t_slices_Equal_int h)).nilfix _
theorem c_slices_Equal_int {a0 : List (Int)} {a1 : List (Int)} {r : Bool} (h : p_slices_Equal_int a0 a1 = some r) : F_slices_Equal_int [.one (.sl false 3 (List.map cI a0)), .one (.sl false 3 (List.map cI a1))] = some (((false, [none]), [.lit (.bool r)])) := pcon_at (arg := arg_slices_Equal_int) (p := fun a => p_slices_Equal_int a.1 a.2) (res := res_slices_Equal_int) (a := (a0, a1)) (b := r) inj_slices_Equal_int h
noncomputable def cal_impl_Trimmed_1 (k : Nat) : Cal := calI (tabOf [(45, F_slices_Equal_int)]) (inlOf [])
@[simp] theorem cal_impl_Trimmed_1_ap (k g : Nat) (vs : List TV) (mem : Mem) (ep : Nat) : cal_impl_Trimmed_1 k g vs mem ep = calI (tabOf [(45, F_slices_Equal_int)]) (inlOf []) g vs mem ep := rfl
theorem ok_impl_Trimmed_1 (k : Nat) (w0 : World) (h0 : True) : CalOk Try.prog w0.heap.size w0 (cal_impl_Trimmed_1 k) := by
  exact calI_ok (J := fun _ => True) stab_true (tabOf_ok _ (by simp [fn_slices_Equal_int])) (inlOf_ok _ (by simp [])) h0
@[simp] def lm_impl_Trimmed_1 : Nat → List Nat × Nat := fun b => ([], 0)
@[simp] def arg_impl_Trimmed_1 (a : List (Int) × List (Int)) : List TV := [.one (.sl false 3 (List.map cI a.1)), .one (.rp [.sl false 3 (List.map cI a.2)] 0)]
@[simp] def res_impl_Trimmed_1 (r : Bool) : Sh × List V := ((false, [none]), [.lit (.bool r)])
def p_impl_Trimmed_1 (a0 : List (Int)) (a1 : List (Int)) : Option Bool :=
 p_slices_Equal_int a0 a1 >>= fun y2 =>
 some y2
theorem t_impl_Trimmed_1 {a0 : List (Int)} {a1 : List (Int)} {r : Bool} (h : p_impl_Trimmed_1 a0 a1 = some r) : ∃ k, told Try.prog (cal_impl_Trimmed_1 k) k lm_impl_Trimmed_1 Try.f44 (arg_impl_Trimmed_1 (a0, a1)) = some (res_impl_Trimmed_1 r) := by
  unfold p_impl_Trimmed_1 at h
  obtain ⟨y2, h1, h⟩ := bd h
  have h1c := c_slices_Equal_int h1
  obtain rfl := Option.some.inj h
  obtain ⟨k, hk⟩ : ∃ k, 0 ≤ k := ⟨_, Nat.le_refl _⟩
  refine ⟨k, ?_⟩
  simp (implicitDefEqProofs := false) [-getElem?_pos, -getElem?_neg, Try.f44, h1c]
theorem inj_impl_Trimmed_1 : ∀ a b, arg_impl_Trimmed_1 a = arg_impl_Trimmed_1 b → a = b := by
  rintro ⟨x0, x1⟩ ⟨y0, y1⟩ h; simp [arg_impl_Trimmed_1] at h; simp [Prod.ext_iff, h]
noncomputable def F_impl_Trimmed_1 : Con := nilfix [[some 3], []] (pcon arg_impl_Trimmed_1 (fun a => p_impl_Trimmed_1 a.1 a.2) res_impl_Trimmed_1)
theorem fn_impl_Trimmed_1 : Fn Try.prog 44 F_impl_Trimmed_1 := (Fn.pure cal_impl_Trimmed_1 (fun k w0 h0 => ok_impl_Trimmed_1 k w0 h0) mixed Try.func44 rfl rfl (by kernel_rfl) 2 (by decide) (fun _ => rfl) lm_impl_Trimmed_1 (fun a b h => t_impl_Trimmed_1 h)).nilfix _
theorem c_impl_Trimmed_1 {a0 : List (Int)} {a1 : List (Int)} {r : Bool} (h : p_impl_Trimmed_1 a0 a1 = some r) : F_impl_Trimmed_1 [.one (.sl false 3 (List.map cI a0)), .one (.rp [.sl false 3 (List.map cI a1)] 0)] = some (((false, [none]), [.lit (.bool r)])) := pcon_at (arg := arg_impl_Trimmed_1) (p := fun a => p_impl_Trimmed_1 a.1 a.2) (res := res_impl_Trimmed_1) (a := (a0, a1)) (b := r) inj_impl_Trimmed_1 h
/-! slices.Clone. -/
def p_slices_Clone_int (l : List (Int)) : Option (List (Int)) := if l.length * 8 ≤ 140737488355328 then some l else none
@[simp] def lm_slices_Clone_int : Nat → List Nat × Nat := fun b => if b = 5000000 then ([0, 2, 0, 3], 8888888) else ([], 0)
def arg_slices_Clone_int : List (Int) ⊕ (Option Addr × Nat) → List TV
  | .inl l => [.one (.sl false 3 (List.map cI l))]
  | .inr p => [.one (.lit (.slice p.1 0 p.2))]
noncomputable def F0_slices_Clone_int : Con := con arg_slices_Clone_int (fun a => match a with | .inl l => l ≠ [] ∧ l.length * 8 ≤ 140737488355328 | .inr _ => True) (fun a => match a with | .inl l => ((false, [none]), [.sl true 3 (List.map cI l)]) | .inr _ => ((false, [none]), [.sl true 3 []]))
theorem fn0_slices_Clone_int : Fn Try.prog 46 F0_slices_Clone_int := by
  refine Fn.con [] (by simp) mixed (fn := Try.f46) Try.func46 rfl rfl (by kernel_rfl) 1 (by decide) (fun a => by cases a <;> rfl) lm_slices_Clone_int (fun a ha => ⟨1, ?_⟩)
  rcases a with l | ⟨A, c⟩
  · obtain ⟨h1, h2⟩ := ha
    cases l with
    | nil => exact absurd rfl h1
    | cons x l =>
      have h2 : (l.length + 1) * 8 ≤ 140737488355328 := h2
      simp only [arg_slices_Clone_int]
      simp (implicitDefEqProofs := false) [-getElem?_pos, -getElem?_neg, Try.f46, h2]
  · cases A with
    | none => simp (implicitDefEqProofs := false) [-getElem?_pos, -getElem?_neg, Try.f46, arg_slices_Clone_int]
    | some A => simp (implicitDefEqProofs := false) [-getElem?_pos, -getElem?_neg, Try.f46, arg_slices_Clone_int]
theorem inj_slices_Clone_int : ∀ a b, arg_slices_Clone_int a = arg_slices_Clone_int b → a = b := by
  rintro (a | ⟨A, c⟩) (b | ⟨A', c'⟩) h <;> simp [arg_slices_Clone_int] at h
  · rw [h]
  · rw [h.1, h.2]
noncomputable def F_slices_Clone_int : Con := pcon (fun l : List (Int) => [.one (.sl false 3 (List.map cI l))]) p_slices_Clone_int (fun r => ((false, [none]), [.sl true 3 (List.map cI r)]))
theorem fn_slices_Clone_int : Fn Try.prog 46 F_slices_Clone_int := by
  refine fn0_slices_Clone_int.empty1 (fun vs r hr => ?_)
  obtain ⟨l, b, rfl, hl, rfl⟩ := pcon_of hr
  obtain ⟨h1, h2⟩ := ifg hl
  obtain rfl := Option.some.inj h2
  by_cases h : l = []
  · subst h
    exact .inr ⟨3, rfl, fun A c => con_at (arg := arg_slices_Clone_int) (a := .inr (A, c)) inj_slices_Clone_int trivial⟩
  · exact .inl (con_at (arg := arg_slices_Clone_int) (a := .inl l) inj_slices_Clone_int ⟨h, h1⟩)
theorem c_slices_Clone_int {l : List (Int)} {r : List (Int)} (h : p_slices_Clone_int l = some r) : F_slices_Clone_int [.one (.sl false 3 (List.map cI l))] = some ((false, [none]), [.sl true 3 (List.map cI r)]) := pcon_at (by intro a b h; simpa using h) h
noncomputable def cal_slices_IndexFunc_LLint_Lint_cl44 (k : Nat) : Cal := calI (tabOf [(44, F_impl_Trimmed_1)]) (inlOf [])
@[simp] theorem cal_slices_IndexFunc_LLint_Lint_cl44_ap (k g : Nat) (vs : List TV) (mem : Mem) (ep : Nat) : cal_slices_IndexFunc_LLint_Lint_cl44 k g vs mem ep = calI (tabOf [(44, F_impl_Trimmed_1)]) (inlOf []) g vs mem ep := rfl
theorem ok_slices_IndexFunc_LLint_Lint_cl44 (k : Nat) (w0 : World) (h0 : True) : CalOk Try.prog w0.heap.size w0 (cal_slices_IndexFunc_LLint_Lint_cl44 k) := by
  exact calI_ok (J := fun _ => True) stab_true (tabOf_ok _ (by simp [fn_impl_Trimmed_1])) (inlOf_ok _ (by simp [])) h0
@[simp] def lm_slices_IndexFunc_LLint_Lint_cl44 : Nat → List Nat × Nat := fun b => if b = 0 then ([0, 1, 7, 8], 0) else if b = 2000000 then ([], 8888888) else if b = 3000000 then ([], 0) else ([], 0)
@[simp] def arg_slices_IndexFunc_LLint_Lint_cl44 (a : List (List (Int)) × List (Int)) : List TV := [.one (.sl false 48 (List.map (cL48 false) a.1)), .one (.cl 44 [.rp [.sl false 3 (List.map cI a.2)] 0])]
@[simp] def res_slices_IndexFunc_LLint_Lint_cl44 (r : Int) : Sh × List V := ((false, [none]), [.lit (.int .i64 r)])
def p_slices_IndexFunc_LLint_Lint_cl44_L0 (a0 : List (List (Int))) (a1c0 : List (Int)) (x8b0 : Int) : Option (Int ⊕ Unit) :=
 if x8b0 < (a0.length : Int) then
  if 0 ≤ x8b0 then
   a0[x8b0.toNat]? >>= fun y16 =>
   p_impl_Trimmed_1 y16 a1c0 >>= fun y19 =>
   if y19 then
    some (.inl x8b0)
   else
    p_slices_IndexFunc_LLint_Lint_cl44_L0 a0 a1c0 (IntKind.wrap .i64 (x8b0 + 1))
  else none
 else
  some (.inr ())
partial_fixpoint
@[simp] noncomputable def L_slices_IndexFunc_LLint_Lint_cl44_L0 : Code := nav [1, 0, 1, 0, 0] (bodyOf Try.f57)
@[simp] def T_slices_IndexFunc_LLint_Lint_cl44_L0 (a0 : List (List (Int))) (a1c0 : List (Int)) (x8b0 : Int) (st : Nat → Nat) : St := ⟨[(0, .one (.sl false 48 (List.map (cL48 false) a0))), (1, .one (.cl 44 [.rp [.sl false 3 (List.map cI a1c0)] 0])), (7, .one (.lit (.int .i64 (a0.length : Int)))), (8, .one (.lit (.int .i64 x8b0)))], [none], (st 0)⟩
@[simp] def U_slices_IndexFunc_LLint_Lint_cl44_L0 (a0 : List (List (Int))) (a1c0 : List (Int)) (o : Unit) (st : Nat → Nat) : St := ⟨[], [none], (st 0)⟩
abbrev Q_slices_IndexFunc_LLint_Lint_cl44_L0 (a0 : List (List (Int))) (a1c0 : List (Int)) (x8b0 : Int) (o : Int ⊕ Unit) : Prop := ∀ st : Nat → Nat, LoopT Try.prog cal_slices_IndexFunc_LLint_Lint_cl44 1 lm_slices_IndexFunc_LLint_Lint_cl44 0 L_slices_IndexFunc_LLint_Lint_cl44_L0 (tellS Try.prog lm_slices_IndexFunc_LLint_Lint_cl44 [.tmp 4]) res_slices_IndexFunc_LLint_Lint_cl44 (U_slices_IndexFunc_LLint_Lint_cl44_L0 a0 a1c0) (T_slices_IndexFunc_LLint_Lint_cl44_L0 a0 a1c0 x8b0 st) o
theorem l_slices_IndexFunc_LLint_Lint_cl44_L0 {a0 : List (List (Int))} {a1c0 : List (Int)} {x8b0 : Int} {o : Int ⊕ Unit} (h : p_slices_IndexFunc_LLint_Lint_cl44_L0 a0 a1c0 x8b0 = some o) : Q_slices_IndexFunc_LLint_Lint_cl44_L0 a0 a1c0 x8b0 o := by
  refine p_slices_IndexFunc_LLint_Lint_cl44_L0.partial_correctness a0 a1c0 (motive := fun x8b0 o => Q_slices_IndexFunc_LLint_Lint_cl44_L0 a0 a1c0 x8b0 o) ?_ x8b0 o h
  clear h o x8b0
  intro p' ih x8b0 r h st
  rcases ifc h with ⟨h14, h⟩ | ⟨h14, h⟩
  · obtain ⟨h15, h⟩ := ifg h
    obtain ⟨y16, h17, h⟩ := bd h
    obtain ⟨y19, h18, h⟩ := bd h
    have h18c := c_impl_Trimmed_1 h18
    rcases ifb h with ⟨h20, h⟩ | ⟨h20, h⟩
    · obtain rfl := Option.some.inj h
      exact LoopT.ret 0 (fun k hk => by simp (implicitDefEqProofs := false) [-getElem?_pos, -getElem?_neg, Try.f57, h14, h15, h17, h18c, h20])
    exact LoopT.step 0 (fun k hk => by simp (implicitDefEqProofs := false) [-getElem?_pos, -getElem?_neg, Try.f57, h14, h15, h17, h18c, h20]) (ih _ _ h (sl [((st 0) + 1)]))
  obtain rfl := Option.some.inj h
  exact LoopT.exit (sl [(st 0)]) 0 (fun k hk => by simp (implicitDefEqProofs := false) [-getElem?_pos, -getElem?_neg, Try.f57, h14])
def p_slices_IndexFunc_LLint_Lint_cl44 (a0 : List (List (Int))) (a1c0 : List (Int)) : Option Int :=
 p_slices_IndexFunc_LLint_Lint_cl44_L0 a0 a1c0 0 >>= fun o22 => match o22 with
 | .inl o22 =>
  some o22
 | .inr o22 =>
  some (-1)
theorem t_slices_IndexFunc_LLint_Lint_cl44 {a0 : List (List (Int))} {a1c0 : List (Int)} {r : Int} (h : p_slices_IndexFunc_LLint_Lint_cl44 a0 a1c0 = some r) : ∃ k, told Try.prog (cal_slices_IndexFunc_LLint_Lint_cl44 k) k lm_slices_IndexFunc_LLint_Lint_cl44 Try.f57 (arg_slices_IndexFunc_LLint_Lint_cl44 (a0, a1c0)) = some (res_slices_IndexFunc_LLint_Lint_cl44 r) := by
  unfold p_slices_IndexFunc_LLint_Lint_cl44 at h
  obtain ⟨o22, h21, h⟩ := bd h
  have qK23 := l_slices_IndexFunc_LLint_Lint_cl44_L0 h21 (sl [1])
  rcases o22 with o22 | o22
  · obtain ⟨K23, qK23⟩ := qK23
    obtain rfl := Option.some.inj h
    obtain ⟨k, hk⟩ : ∃ k, K23 ≤ k := ⟨_, Nat.le_refl _⟩
    obtain ⟨S_K23, jK23, iK23⟩ := qK23 k (by omega) k (by omega)
    simp (implicitDefEqProofs := false) [-getElem?_pos, -getElem?_neg, Try.f57] at jK23
    refine ⟨k, ?_⟩
    simp (implicitDefEqProofs := false) [-getElem?_pos, -getElem?_neg, Try.f57, iK23, jK23]
  obtain ⟨s24, K23, qK23⟩ := qK23
  obtain rfl := Option.some.inj h
  obtain ⟨k, hk⟩ : ∃ k, K23 ≤ k := ⟨_, Nat.le_refl _⟩
  have jK23 := qK23 k (by omega) k (by omega)
  simp (implicitDefEqProofs := false) [-getElem?_pos, -getElem?_neg, Try.f57] at jK23
  refine ⟨k, ?_⟩
  simp (implicitDefEqProofs := false) [-getElem?_pos, -getElem?_neg, Try.f57, jK23]
theorem inj_slices_IndexFunc_LLint_Lint_cl44 : ∀ a b, arg_slices_IndexFunc_LLint_Lint_cl44 a = arg_slices_IndexFunc_LLint_Lint_cl44 b → a = b := by
  rintro ⟨x0, x1⟩ ⟨y0, y1⟩ h; simp [arg_slices_IndexFunc_LLint_Lint_cl44] at h; simp [Prod.ext_iff, h]
noncomputable def F_slices_IndexFunc_LLint_Lint_cl44 : Con := nilfix [[some 48], []] (pcon arg_slices_IndexFunc_LLint_Lint_cl44 (fun a => p_slices_IndexFunc_LLint_Lint_cl44 a.1 a.2) res_slices_IndexFunc_LLint_Lint_cl44)
theorem fn_slices_IndexFunc_LLint_Lint_cl44 : Fn Try.prog 57 F_slices_IndexFunc_LLint_Lint_cl44 := (Fn.pure cal_slices_IndexFunc_LLint_Lint_cl44 (fun k w0 h0 => ok_slices_IndexFunc_LLint_Lint_cl44 k w0 h0) mixed Try.func57 rfl rfl (by kernel_rfl) 2 (by decide) (fun _ => rfl) lm_slices_IndexFunc_LLint_Lint_cl44 (fun a b h => t_slices_IndexFunc_LLint_Lint_cl44 h)).nilfix _
theorem c_slices_IndexFunc_LLint_Lint_cl44 {a0 : List (List (Int))} {a1c0 : List (Int)} {r : Int} (h : p_slices_IndexFunc_LLint_Lint_cl44 a0 a1c0 = some r) : F_slices_IndexFunc_LLint_Lint_cl44 [.one (.sl false 48 (List.map (cL48 false) a0)), .one (.cl 44 [.rp [.sl false 3 (List.map cI a1c0)] 0])] = some (((false, [none]), [.lit (.int .i64 r)])) := pcon_at (arg := arg_slices_IndexFunc_LLint_Lint_cl44) (p := fun a => p_slices_IndexFunc_LLint_Lint_cl44 a.1 a.2) (res := res_slices_IndexFunc_LLint_Lint_cl44) (a := (a0, a1c0)) (b := r) inj_slices_IndexFunc_LLint_Lint_cl44 h
noncomputable def cal_slices_ContainsFunc_LLint_Lint_cl44 (k : Nat) : Cal := calI (tabOf [(57, F_slices_IndexFunc_LLint_Lint_cl44)]) (inlOf [])
@[simp] theorem cal_slices_ContainsFunc_LLint_Lint_cl44_ap (k g : Nat) (vs : List TV) (mem : Mem) (ep : Nat) : cal_slices_ContainsFunc_LLint_Lint_cl44 k g vs mem ep = calI (tabOf [(57, F_slices_IndexFunc_LLint_Lint_cl44)]) (inlOf []) g vs mem ep := rfl
theorem ok_slices_ContainsFunc_LLint_Lint_cl44 (k : Nat) (w0 : World) (h0 : True) : CalOk Try.prog w0.heap.size w0 (cal_slices_ContainsFunc_LLint_Lint_cl44 k) := by
  exact calI_ok (J := fun _ => True) stab_true (tabOf_ok _ (by simp [fn_slices_IndexFunc_LLint_Lint_cl44])) (inlOf_ok _ (by simp [])) h0
@[simp] def lm_slices_ContainsFunc_LLint_Lint_cl44 : Nat → List Nat × Nat := fun b => ([], 0)
@[simp] def arg_slices_ContainsFunc_LLint_Lint_cl44 (a : List (List (Int)) × List (Int)) : List TV := [.one (.sl false 48 (List.map (cL48 false) a.1)), .one (.cl 44 [.rp [.sl false 3 (List.map cI a.2)] 0])]
@[simp] def res_slices_ContainsFunc_LLint_Lint_cl44 (r : Bool) : Sh × List V := ((false, [none]), [.lit (.bool r)])
def p_slices_ContainsFunc_LLint_Lint_cl44 (a0 : List (List (Int))) (a1c0 : List (Int)) : Option Bool :=
 p_slices_IndexFunc_LLint_Lint_cl44 a0 a1c0 >>= fun y2 =>
 some (decide (0 ≤ y2))
theorem t_slices_ContainsFunc_LLint_Lint_cl44 {a0 : List (List (Int))} {a1c0 : List (Int)} {r : Bool} (h : p_slices_ContainsFunc_LLint_Lint_cl44 a0 a1c0 = some r) : ∃ k, told Try.prog (cal_slices_ContainsFunc_LLint_Lint_cl44 k) k lm_slices_ContainsFunc_LLint_Lint_cl44 Try.f43 (arg_slices_ContainsFunc_LLint_Lint_cl44 (a0, a1c0)) = some (res_slices_ContainsFunc_LLint_Lint_cl44 r) := by
  unfold p_slices_ContainsFunc_LLint_Lint_cl44 at h
  obtain ⟨y2, h1, h⟩ := bd h
  have h1c := c_slices_IndexFunc_LLint_Lint_cl44 h1
  obtain rfl := Option.some.inj h
  obtain ⟨k, hk⟩ : ∃ k, 0 ≤ k := ⟨_, Nat.le_refl _⟩
  refine ⟨k, ?_⟩
  simp (implicitDefEqProofs := false) [-getElem?_pos, -getElem?_neg, Try.f43, h1c]
theorem inj_slices_ContainsFunc_LLint_Lint_cl44 : ∀ a b, arg_slices_ContainsFunc_LLint_Lint_cl44 a = arg_slices_ContainsFunc_LLint_Lint_cl44 b → a = b := by
  rintro ⟨x0, x1⟩ ⟨y0, y1⟩ h; simp [arg_slices_ContainsFunc_LLint_Lint_cl44] at h; simp [Prod.ext_iff, h]
noncomputable def F_slices_ContainsFunc_LLint_Lint_cl44 : Con := nilfix [[some 48], []] (pcon arg_slices_ContainsFunc_LLint_Lint_cl44 (fun a => p_slices_ContainsFunc_LLint_Lint_cl44 a.1 a.2) res_slices_ContainsFunc_LLint_Lint_cl44)
theorem fn_slices_ContainsFunc_LLint_Lint_cl44 : Fn Try.prog 43 F_slices_ContainsFunc_LLint_Lint_cl44 := (Fn.pure cal_slices_ContainsFunc_LLint_Lint_cl44 (fun k w0 h0 => ok_slices_ContainsFunc_LLint_Lint_cl44 k w0 h0) mixed Try.func43 rfl rfl (by kernel_rfl) 2 (by decide) (fun _ => rfl) lm_slices_ContainsFunc_LLint_Lint_cl44 (fun a b h => t_slices_ContainsFunc_LLint_Lint_cl44 h)).nilfix _
theorem c_slices_ContainsFunc_LLint_Lint_cl44 {a0 : List (List (Int))} {a1c0 : List (Int)} {r : Bool} (h : p_slices_ContainsFunc_LLint_Lint_cl44 a0 a1c0 = some r) : F_slices_ContainsFunc_LLint_Lint_cl44 [.one (.sl false 48 (List.map (cL48 false) a0)), .one (.cl 44 [.rp [.sl false 3 (List.map cI a1c0)] 0])] = some (((false, [none]), [.lit (.bool r)])) := pcon_at (arg := arg_slices_ContainsFunc_LLint_Lint_cl44) (p := fun a => p_slices_ContainsFunc_LLint_Lint_cl44 a.1 a.2) (res := res_slices_ContainsFunc_LLint_Lint_cl44) (a := (a0, a1c0)) (b := r) inj_slices_ContainsFunc_LLint_Lint_cl44 h
noncomputable def cal_impl_Trimmed (k : Nat) : Cal := calI (tabOf [(40, F_impl_GramOk), (43, F_slices_ContainsFunc_LLint_Lint_cl44), (46, F_slices_Clone_int)]) (inlOf [])
@[simp] theorem cal_impl_Trimmed_ap (k g : Nat) (vs : List TV) (mem : Mem) (ep : Nat) : cal_impl_Trimmed k g vs mem ep = calI (tabOf [(40, F_impl_GramOk), (43, F_slices_ContainsFunc_LLint_Lint_cl44), (46, F_slices_Clone_int)]) (inlOf []) g vs mem ep := rfl
theorem ok_impl_Trimmed (k : Nat) (w0 : World) (h0 : True) : CalOk Try.prog w0.heap.size w0 (cal_impl_Trimmed k) := by
  exact calI_ok (J := fun _ => True) stab_true (tabOf_ok _ (by simp [fn_impl_GramOk, fn_slices_ContainsFunc_LLint_Lint_cl44, fn_slices_Clone_int])) (inlOf_ok _ (by simp [])) h0
@[simp] def lm_impl_Trimmed : Nat → List Nat × Nat := fun b => if b = 0 then ([2, 3, 15, 16, 17], 4) else if b = 2000000 then ([0, 3, 0, 60], 8888888) else if b = 3000000 then ([2, 3], 4) else if b = 2 then ([2, 3, 6, 15, 16, 17, 21, 22, 23], 5) else if b = 2000002 then ([0, 6, 0, 48], 8888888) else if b = 3000002 then ([2, 3, 6, 15, 16, 17], 5) else if b = 5000000 then ([0, 2, 0, 60], 8888888) else ([], 0)
@[simp] def arg_impl_Trimmed (a : List (List (List (Int)))) : List TV := [.agg [.sl false 60 (List.map (cL60 false) a)]]
@[simp] def res_impl_Trimmed (r : List (List (List (Int)))) : Sh × List V := ((false, [some 1]), [.sl true 60 (List.map (cL60 true) r)])
def p_impl_Trimmed_L2 (a0 : List (List (List (Int)))) (x17b0 : Int) (y64 : List (List (Int))) (l4b0 : List (List (List (Int)))) (x23b2 : Int) (l5b2 : List (List (Int))) : Option (List (List (Int))) :=
 if x23b2 < (y64.length : Int) then
  if 0 ≤ x23b2 then
   y64[x23b2.toNat]? >>= fun y88 =>
   p_slices_ContainsFunc_LLint_Lint_cl44 l5b2 y88 >>= fun y91 =>
   if y91 then
    p_impl_Trimmed_L2 a0 x17b0 y64 l4b0 (IntKind.wrap .i64 (x23b2 + 1)) l5b2
   else
    p_slices_Clone_int y88 >>= fun y94 =>
    if (l5b2.length + 1) * 24 ≤ 140737488355328 then
     some (l5b2 ++ [y94]) >>= fun l96 =>
     p_impl_Trimmed_L2 a0 x17b0 y64 l4b0 (IntKind.wrap .i64 (x23b2 + 1)) l96
    else none
  else none
 else
  some l5b2
partial_fixpoint
@[simp] noncomputable def L_impl_Trimmed_L2 : Code := nav [1, 1, 1, 0, 1, 0, 0, 1, 1, 0, 0, 1, 1, 0, 1, 0, 0] (bodyOf Try.f24)
@[simp] def T_impl_Trimmed_L2 (a0 : List (List (List (Int)))) (x17b0 : Int) (y64 : List (List (Int))) (l4b0 : List (List (List (Int)))) (x23b2 : Int) (l5b2 : List (List (Int))) (st : Nat → Nat) : St := ⟨[(2, .one (.bp 2 (st 1) 0)), (3, .one (.bp 3 (st 2) 0)), (6, .one (.ow 5 (st 3))), (15, .one (.sl false 60 (List.map (cL60 false) a0))), (16, .one (.lit (.int .i64 (a0.length : Int)))), (17, .one (.lit (.int .i64 x17b0))), (21, .one (.sl false 48 (List.map (cL48 false) y64))), (22, .one (.lit (.int .i64 (y64.length : Int)))), (23, .one (.lit (.int .i64 x23b2)))], [none, some (.box (st 4) [.sl false 60 (List.map (cL60 false) a0)]), some (.box (st 1) [.lit (.slice none 0 0)]), some (.box (st 2) [.ow 4 (st 5)]), some (.rows (st 5) (st 6) 60 (List.map (cL60 true) l4b0)), some (.rows (st 3) (st 7) 48 (List.map (cL48 true) l5b2))], (st 0)⟩
@[simp] def U_impl_Trimmed_L2 (a0 : List (List (List (Int)))) (x17b0 : Int) (y64 : List (List (Int))) (l4b0 : List (List (List (Int)))) (o : List (List (Int))) (st : Nat → Nat) : St := ⟨[(2, .one (.bp 2 (st 1) 0)), (3, .one (.bp 3 (st 2) 0)), (6, .one (.ow 5 (st 3))), (15, .one (.sl false 60 (List.map (cL60 false) a0))), (16, .one (.lit (.int .i64 (a0.length : Int)))), (17, .one (.lit (.int .i64 x17b0)))], [none, some (.box (st 4) [.sl false 60 (List.map (cL60 false) a0)]), some (.box (st 1) [.lit (.slice none 0 0)]), some (.box (st 2) [.ow 4 (st 5)]), some (.rows (st 5) (st 6) 60 (List.map (cL60 true) l4b0)), some (.rows (st 3) (st 7) 48 (List.map (cL48 true) o))], (st 0)⟩
abbrev Q_impl_Trimmed_L2 (a0 : List (List (List (Int)))) (x17b0 : Int) (y64 : List (List (Int))) (l4b0 : List (List (List (Int)))) (x23b2 : Int) (l5b2 : List (List (Int))) (o : List (List (Int))) : Prop := ∀ st : Nat → Nat, LoopG Try.prog cal_impl_Trimmed 1 lm_impl_Trimmed 2 L_impl_Trimmed_L2 (U_impl_Trimmed_L2 a0 x17b0 y64 l4b0) (T_impl_Trimmed_L2 a0 x17b0 y64 l4b0 x23b2 l5b2 st) o
theorem l_impl_Trimmed_L2 {a0 : List (List (List (Int)))} {x17b0 : Int} {y64 : List (List (Int))} {l4b0 : List (List (List (Int)))} {x23b2 : Int} {l5b2 : List (List (Int))} {o : List (List (Int))} (h : p_impl_Trimmed_L2 a0 x17b0 y64 l4b0 x23b2 l5b2 = some o) : Q_impl_Trimmed_L2 a0 x17b0 y64 l4b0 x23b2 l5b2 o := by
  refine p_impl_Trimmed_L2.partial_correctness a0 x17b0 y64 l4b0 (motive := fun x23b2 l5b2 o => Q_impl_Trimmed_L2 a0 x17b0 y64 l4b0 x23b2 l5b2 o) ?_ x23b2 l5b2 o h
  clear h o x23b2 l5b2
  intro p' ih x23b2 l5b2 r h st
  rcases ifc h with ⟨h86, h⟩ | ⟨h86, h⟩
  · obtain ⟨h87, h⟩ := ifg h
    obtain ⟨y88, h89, h⟩ := bd h
    obtain ⟨y91, h90, h⟩ := bd h
    have h90c := c_slices_ContainsFunc_LLint_Lint_cl44 h90
    rcases ifb h with ⟨h92, h⟩ | ⟨h92, h⟩
    · exact LoopG.step 0 (fun k hk => by simp (implicitDefEqProofs := false) [-getElem?_pos, -getElem?_neg, Try.f24, h86, h87, h89, h90c, h92]) (ih _ _ _ h (sl [((st 0) + 2), (st 1), (st 2), (st 3), (st 4), (st 5), (st 6), (st 7)]))
    obtain ⟨y94, h93, h⟩ := bd h
    have h93c := c_slices_Clone_int h93
    obtain ⟨h95, h⟩ := ifg h
    obtain ⟨l96, h97, h⟩ := bd h
    have h97r : List.map (cL48 true) l5b2 ++ [[.sl true 3 (List.map cI y94)]] = List.map (cL48 true) l96 := by rw [← Option.some.inj h97]; simp
    exact LoopG.step 0 (fun k hk => by simp (implicitDefEqProofs := false) [-getElem?_pos, -getElem?_neg, Try.f24, h86, h87, h89, h90c, h92, h93c, h95, h97r]) (ih _ _ _ h (sl [((st 0) + 5), (st 1), (st 2), ((st 0) + 4), (st 4), (st 5), (st 6), (st 7)]))
  obtain rfl := Option.some.inj h
  exact LoopG.exit (sl [(st 0), (st 1), (st 2), (st 3), (st 4), (st 5), (st 6), (st 7)]) 0 (fun k hk => by simp (implicitDefEqProofs := false) [-getElem?_pos, -getElem?_neg, Try.f24, h86])
def p_impl_Trimmed_L0 (a0 : List (List (List (Int)))) (x17b0 : Int) (l4b0 : List (List (List (Int)))) : Option (List (List (List (Int)))) :=
 if x17b0 < (a0.length : Int) then
  if 0 ≤ x17b0 then
   a0[x17b0.toNat]? >>= fun y64 =>
   p_impl_Trimmed_L2 a0 x17b0 y64 l4b0 0 ([]) >>= fun o99 =>
   if (l4b0.length + 1) * 24 ≤ 140737488355328 then
    some (l4b0 ++ [o99]) >>= fun l103 =>
    p_impl_Trimmed_L0 a0 (IntKind.wrap .i64 (x17b0 + 1)) l103
   else none
  else none
 else
  some l4b0
partial_fixpoint
@[simp] noncomputable def L_impl_Trimmed_L0 : Code := nav [1, 1, 1, 0, 1, 0, 0] (bodyOf Try.f24)
@[simp] def T_impl_Trimmed_L0 (a0 : List (List (List (Int)))) (x17b0 : Int) (l4b0 : List (List (List (Int)))) (st : Nat → Nat) : St := ⟨[(2, .one (.bp 2 (st 1) 0)), (3, .one (.bp 3 (st 2) 0)), (15, .one (.sl false 60 (List.map (cL60 false) a0))), (16, .one (.lit (.int .i64 (a0.length : Int)))), (17, .one (.lit (.int .i64 x17b0)))], [none, some (.box (st 3) [.sl false 60 (List.map (cL60 false) a0)]), some (.box (st 1) [.lit (.slice none 0 0)]), some (.box (st 2) [.ow 4 (st 4)]), some (.rows (st 4) (st 5) 60 (List.map (cL60 true) l4b0))], (st 0)⟩
@[simp] def U_impl_Trimmed_L0 (a0 : List (List (List (Int)))) (o : List (List (List (Int)))) (st : Nat → Nat) : St := ⟨[(2, .one (.bp 2 (st 1) 0)), (3, .one (.bp 3 (st 2) 0))], [none, some (.box (st 3) [.sl false 60 (List.map (cL60 false) a0)]), some (.box (st 1) [.lit (.slice none 0 0)]), some (.box (st 2) [.ow 4 (st 4)]), some (.rows (st 4) (st 5) 60 (List.map (cL60 true) o))], (st 0)⟩
abbrev Q_impl_Trimmed_L0 (a0 : List (List (List (Int)))) (x17b0 : Int) (l4b0 : List (List (List (Int)))) (o : List (List (List (Int)))) : Prop := ∀ st : Nat → Nat, LoopG Try.prog cal_impl_Trimmed 1 lm_impl_Trimmed 0 L_impl_Trimmed_L0 (U_impl_Trimmed_L0 a0) (T_impl_Trimmed_L0 a0 x17b0 l4b0 st) o
theorem l_impl_Trimmed_L0 {a0 : List (List (List (Int)))} {x17b0 : Int} {l4b0 : List (List (List (Int)))} {o : List (List (List (Int)))} (h : p_impl_Trimmed_L0 a0 x17b0 l4b0 = some o) : Q_impl_Trimmed_L0 a0 x17b0 l4b0 o := by
  refine p_impl_Trimmed_L0.partial_correctness a0 (motive := fun x17b0 l4b0 o => Q_impl_Trimmed_L0 a0 x17b0 l4b0 o) ?_ x17b0 l4b0 o h
  clear h o x17b0 l4b0
  intro p' ih x17b0 l4b0 r h st
  rcases ifc h with ⟨h62, h⟩ | ⟨h62, h⟩
  · obtain ⟨h63, h⟩ := ifg h
    obtain ⟨y64, h65, h⟩ := bd h
    obtain ⟨o99, h98, h⟩ := bd h
    have qK100 := l_impl_Trimmed_L2 h98 (sl [((st 0) + 1), (st 1), (st 2), (st 0), (st 3), (st 4), (st 5), (st 0)])
    obtain ⟨s101, K100, qK100⟩ := qK100
    obtain ⟨h102, h⟩ := ifg h
    obtain ⟨l103, h104, h⟩ := bd h
    have h104r : List.map (cL60 true) l4b0 ++ [[.sl true 48 (List.map (cL48 true) o99)]] = List.map (cL60 true) l103 := by rw [← Option.some.inj h104]; simp
    refine LoopG.step K100 (fun k hk => ?_) (ih _ _ _ h (sl [((s101 0) + 2), (s101 1), (s101 2), (s101 4), ((s101 0) + 1), (s101 6)]))
    have jK100 := qK100 k (by omega) k (by omega)
    simp (implicitDefEqProofs := false) [-getElem?_pos, -getElem?_neg, Try.f24, h62, h63, h65, h102, h104r] at jK100
    simp (implicitDefEqProofs := false) [-getElem?_pos, -getElem?_neg, Try.f24, h62, h63, h65, h102, h104r, jK100]
  obtain rfl := Option.some.inj h
  exact LoopG.exit (sl [(st 0), (st 1), (st 2), (st 3), (st 4), (st 5)]) 0 (fun k hk => by simp (implicitDefEqProofs := false) [-getElem?_pos, -getElem?_neg, Try.f24, h62])
def p_impl_Trimmed (a0 : List (List (List (Int)))) : Option (List (List (List (Int)))) :=
 p_impl_GramOk a0 >>= fun y2 =>
 if y2 then
  p_impl_Trimmed_L0 a0 0 ([]) >>= fun o106 =>
  some o106
 else
  some ([])
theorem t_impl_Trimmed {a0 : List (List (List (Int)))} {r : List (List (List (Int)))} (h : p_impl_Trimmed a0 = some r) : ∃ k, told Try.prog (cal_impl_Trimmed k) k lm_impl_Trimmed Try.f24 (arg_impl_Trimmed a0) = some (res_impl_Trimmed r) := by
  unfold p_impl_Trimmed at h
  obtain ⟨y2, h1, h⟩ := bd h
  have h1c := c_impl_GramOk h1
  rcases ifb h with ⟨h3, h⟩ | ⟨h3, h⟩
  · obtain ⟨o106, h105, h⟩ := bd h
    have qK107 := l_impl_Trimmed_L0 h105 (sl [6, 2, 4, 1, 5, 5])
    obtain ⟨s108, K107, qK107⟩ := qK107
    obtain rfl := Option.some.inj h
    obtain ⟨k, hk⟩ : ∃ k, K107 ≤ k := ⟨_, Nat.le_refl _⟩
    have jK107 := qK107 k (by omega) k (by omega)
    simp (implicitDefEqProofs := false) [-getElem?_pos, -getElem?_neg, Try.f24, h1c, h3] at jK107
    refine ⟨k, ?_⟩
    simp (implicitDefEqProofs := false) [-getElem?_pos, -getElem?_neg, Try.f24, h1c, h3, jK107]
  obtain rfl := Option.some.inj h
  obtain ⟨k, hk⟩ : ∃ k, 0 ≤ k := ⟨_, Nat.le_refl _⟩
  refine ⟨k, ?_⟩
  simp (implicitDefEqProofs := false) [-getElem?_pos, -getElem?_neg, Try.f24, h1c, h3]
theorem inj_impl_Trimmed : ∀ a b, arg_impl_Trimmed a = arg_impl_Trimmed b → a = b := by
  intro x y h; simp [arg_impl_Trimmed] at h; simp [Prod.ext_iff, h]
noncomputable def F_impl_Trimmed : Con := nilfix [[some 60]] (pcon arg_impl_Trimmed (fun a => p_impl_Trimmed a) res_impl_Trimmed)
theorem fn_impl_Trimmed : Fn Try.prog 24 F_impl_Trimmed := (Fn.pure cal_impl_Trimmed (fun k w0 h0 => ok_impl_Trimmed k w0 h0) mixed Try.func24 rfl rfl (by kernel_rfl) 1 (by decide) (fun _ => rfl) lm_impl_Trimmed (fun a b h => t_impl_Trimmed h)).nilfix _
theorem c_impl_Trimmed {a0 : List (List (List (Int)))} {r : List (List (List (Int)))} (h : p_impl_Trimmed a0 = some r) : F_impl_Trimmed [.agg [.sl false 60 (List.map (cL60 false) a0)]] = some (((false, [some 1]), [.sl true 60 (List.map (cL60 true) r)])) := pcon_at (arg := arg_impl_Trimmed) (p := fun a => p_impl_Trimmed a) (res := res_impl_Trimmed) (a := a0) (b := r) inj_impl_Trimmed h
def cal_laws_eqIntS (k : Nat) : Cal := calI (tabOf []) (inlOf [])
@[simp] theorem cal_laws_eqIntS_ap (k g : Nat) (vs : List TV) (mem : Mem) (ep : Nat) : cal_laws_eqIntS k g vs mem ep = calI (tabOf []) (inlOf []) g vs mem ep := rfl
theorem ok_laws_eqIntS (k : Nat) (w0 : World) (h0 : True) : CalOk Try.prog w0.heap.size w0 (cal_laws_eqIntS k) := by
  exact calI_ok (J := fun _ => True) stab_true (tabOf_ok _ (by simp [])) (inlOf_ok _ (by simp [])) h0
@[simp] def lm_laws_eqIntS : Nat → List Nat × Nat := fun b => if b = 0 then ([0, 1, 5], 0) else if b = 2000000 then ([], 8888888) else if b = 3000000 then ([], 0) else ([], 0)
theorem dr_laws_eqIntS_6 : drawn (opsOf (nav [1, 1, 0, 1, 0, 0, 1, 0, 0, 0] (bodyOf Try.f29))) = some ([0, 1, 2, 3, 4, 5, 6, 7, 8], []) := by kernel_rfl
@[simp] def arg_laws_eqIntS (a : List (Int) × List (Int)) : List TV := [.one (.sl false 3 (List.map cI a.1)), .one (.sl false 3 (List.map cI a.2))]
@[simp] def res_laws_eqIntS (r : Bool) : Sh × List V := ((false, [none]), [.lit (.bool r)])
def p_laws_eqIntS_L0 (a0 : List (Int)) (a1 : List (Int)) (x5b0 : Int) : Option (Bool ⊕ Unit) :=
 if x5b0 < (a0.length : Int) then
  if 0 ≤ x5b0 then
   a0[x5b0.toNat]? >>= fun y17 =>
   a1[x5b0.toNat]? >>= fun y19 =>
   if y17 = y19 then
    p_laws_eqIntS_L0 a0 a1 (IntKind.wrap .i64 (x5b0 + 1))
   else
    some (.inl false)
  else none
 else
  some (.inr ())
partial_fixpoint
@[simp] noncomputable def L_laws_eqIntS_L0 : Code := nav [1, 1, 0, 1, 0, 0] (bodyOf Try.f29)
@[simp] def T_laws_eqIntS_L0 (a0 : List (Int)) (a1 : List (Int)) (x5b0 : Int) (st : Nat → Nat) : St := ⟨[(0, .one (.sl false 3 (List.map cI a0))), (1, .one (.sl false 3 (List.map cI a1))), (5, .one (.lit (.int .i64 x5b0)))], [none], (st 0)⟩
@[simp] def U_laws_eqIntS_L0 (a0 : List (Int)) (a1 : List (Int)) (o : Unit) (st : Nat → Nat) : St := ⟨[], [none], (st 0)⟩
abbrev Q_laws_eqIntS_L0 (a0 : List (Int)) (a1 : List (Int)) (x5b0 : Int) (o : Bool ⊕ Unit) : Prop := ∀ st : Nat → Nat, LoopT Try.prog cal_laws_eqIntS 1 lm_laws_eqIntS 0 L_laws_eqIntS_L0 (tellS Try.prog lm_laws_eqIntS [.tmp 4]) res_laws_eqIntS (U_laws_eqIntS_L0 a0 a1) (T_laws_eqIntS_L0 a0 a1 x5b0 st) o
theorem l_laws_eqIntS_L0 {a0 : List (Int)} {a1 : List (Int)} {x5b0 : Int} {o : Bool ⊕ Unit} (h : p_laws_eqIntS_L0 a0 a1 x5b0 = some o) : Q_laws_eqIntS_L0 a0 a1 x5b0 o := by
  refine p_laws_eqIntS_L0.partial_correctness a0 a1 (motive := fun x5b0 o => Q_laws_eqIntS_L0 a0 a1 x5b0 o) ?_ x5b0 o h
  clear h o x5b0
  intro p' ih x5b0 r h st
  rcases ifc h with ⟨h15, h⟩ | ⟨h15, h⟩
  · obtain ⟨h16, h⟩ := ifg h
    obtain ⟨y17, h18, h⟩ := bd h
    obtain ⟨y19, h20, h⟩ := bd h
    rcases ifc h with ⟨h21, h⟩ | ⟨h21, h⟩
    · refine LoopT.step 0 (fun k hk => ?_) (ih _ _ h (sl [(st 0)]))
      have hd_laws_eqIntS_6 := dr_laws_eqIntS_6
      simp only [opsOf, nav, bodyOf, Try.f29, Option.getD_some] at hd_laws_eqIntS_6
      simp (implicitDefEqProofs := false) [-getElem?_pos, -getElem?_neg, Try.f29, h15, ex_draw2 _ _ hd_laws_eqIntS_6, h16, h18, h20, (eq_true h21)]
    obtain rfl := Option.some.inj h
    refine LoopT.ret 0 (fun k hk => ?_)
    have hd_laws_eqIntS_6 := dr_laws_eqIntS_6
    simp only [opsOf, nav, bodyOf, Try.f29, Option.getD_some] at hd_laws_eqIntS_6
    simp (implicitDefEqProofs := false) [-getElem?_pos, -getElem?_neg, Try.f29, h15, ex_draw2 _ _ hd_laws_eqIntS_6, h16, h18, h20, h21]
  obtain rfl := Option.some.inj h
  exact LoopT.exit (sl [(st 0)]) 0 (fun k hk => by simp (implicitDefEqProofs := false) [-getElem?_pos, -getElem?_neg, Try.f29, h15])
def p_laws_eqIntS (a0 : List (Int)) (a1 : List (Int)) : Option Bool :=
 if (a0.length : Int) = (a1.length : Int) then
  p_laws_eqIntS_L0 a0 a1 0 >>= fun o23 => match o23 with
  | .inl o23 =>
   some o23
  | .inr o23 =>
   some true
 else
  some false
theorem t_laws_eqIntS {a0 : List (Int)} {a1 : List (Int)} {r : Bool} (h : p_laws_eqIntS a0 a1 = some r) : ∃ k, told Try.prog (cal_laws_eqIntS k) k lm_laws_eqIntS Try.f29 (arg_laws_eqIntS (a0, a1)) = some (res_laws_eqIntS r) := by
  unfold p_laws_eqIntS at h
  rcases ifc h with ⟨h1, h⟩ | ⟨h1, h⟩
  · obtain ⟨o23, h22, h⟩ := bd h
    have qK24 := l_laws_eqIntS_L0 h22 (sl [1])
    rcases o23 with o23 | o23
    · obtain ⟨K24, qK24⟩ := qK24
      obtain rfl := Option.some.inj h
      obtain ⟨k, hk⟩ : ∃ k, K24 ≤ k := ⟨_, Nat.le_refl _⟩
      obtain ⟨S_K24, jK24, iK24⟩ := qK24 k (by omega) k (by omega)
      simp (implicitDefEqProofs := false) [-getElem?_pos, -getElem?_neg, Try.f29, (eq_true h1)] at jK24
      refine ⟨k, ?_⟩
      simp (implicitDefEqProofs := false) [-getElem?_pos, -getElem?_neg, Try.f29, (eq_true h1), iK24, jK24]
    obtain ⟨s25, K24, qK24⟩ := qK24
    obtain rfl := Option.some.inj h
    obtain ⟨k, hk⟩ : ∃ k, K24 ≤ k := ⟨_, Nat.le_refl _⟩
    have jK24 := qK24 k (by omega) k (by omega)
    simp (implicitDefEqProofs := false) [-getElem?_pos, -getElem?_neg, Try.f29, (eq_true h1)] at jK24
    refine ⟨k, ?_⟩
    simp (implicitDefEqProofs := false) [-getElem?_pos, -getElem?_neg, Try.f29, (eq_true h1), jK24]
  obtain rfl := Option.some.inj h
  obtain ⟨k, hk⟩ : ∃ k, 0 ≤ k := ⟨_, Nat.le_refl _⟩
  refine ⟨k, ?_⟩
  simp (implicitDefEqProofs := false) [-getElem?_pos, -getElem?_neg, Try.f29, h1]
theorem inj_laws_eqIntS : ∀ a b, arg_laws_eqIntS a = arg_laws_eqIntS b → a = b := by
  rintro ⟨x0, x1⟩ ⟨y0, y1⟩ h; simp [arg_laws_eqIntS] at h; simp [Prod.ext_iff, h]
noncomputable def F_laws_eqIntS : Con := nilfix [[some 3], [some 3]] (pcon arg_laws_eqIntS (fun a => p_laws_eqIntS a.1 a.2) res_laws_eqIntS)
theorem fn_laws_eqIntS : Fn Try.prog 29 F_laws_eqIntS := (Fn.pure cal_laws_eqIntS (fun k w0 h0 => ok_laws_eqIntS k w0 h0) mixed Try.func29 rfl rfl (by kernel_rfl) 2 (by decide) (fun _ => rfl) lm_laws_eqIntS (fun a b h => t_laws_eqIntS h)).nilfix _
theorem c_laws_eqIntS {a0 : List (Int)} {a1 : List (Int)} {r : Bool} (h : p_laws_eqIntS a0 a1 = some r) : F_laws_eqIntS [.one (.sl false 3 (List.map cI a0)), .one (.sl false 3 (List.map cI a1))] = some (((false, [none]), [.lit (.bool r)])) := pcon_at (arg := arg_laws_eqIntS) (p := fun a => p_laws_eqIntS a.1 a.2) (res := res_laws_eqIntS) (a := (a0, a1)) (b := r) inj_laws_eqIntS h
noncomputable def cal_laws_eqIntSS (k : Nat) : Cal := calI (tabOf [(29, F_laws_eqIntS)]) (inlOf [])
@[simp] theorem cal_laws_eqIntSS_ap (k g : Nat) (vs : List TV) (mem : Mem) (ep : Nat) : cal_laws_eqIntSS k g vs mem ep = calI (tabOf [(29, F_laws_eqIntS)]) (inlOf []) g vs mem ep := rfl
theorem ok_laws_eqIntSS (k : Nat) (w0 : World) (h0 : True) : CalOk Try.prog w0.heap.size w0 (cal_laws_eqIntSS k) := by
  exact calI_ok (J := fun _ => True) stab_true (tabOf_ok _ (by simp [fn_laws_eqIntS])) (inlOf_ok _ (by simp [])) h0
@[simp] def lm_laws_eqIntSS : Nat → List Nat × Nat := fun b => if b = 0 then ([0, 1, 5], 0) else if b = 2000000 then ([], 8888888) else if b = 3000000 then ([], 0) else ([], 0)
theorem dr_laws_eqIntSS_6 : drawn (opsOf (nav [1, 1, 0, 1, 0, 0, 1, 0, 0, 0] (bodyOf Try.f56))) = some ([0, 1, 2, 3, 4, 5, 6, 7], [8, 9]) := by kernel_rfl
@[simp] def arg_laws_eqIntSS (a : List (List (Int)) × List (List (Int))) : List TV := [.one (.sl false 48 (List.map (cL48 false) a.1)), .one (.sl false 48 (List.map (cL48 false) a.2))]
@[simp] def res_laws_eqIntSS (r : Bool) : Sh × List V := ((false, [none]), [.lit (.bool r)])
def p_laws_eqIntSS_L0 (a0 : List (List (Int))) (a1 : List (List (Int))) (x5b0 : Int) : Option (Bool ⊕ Unit) :=
 if x5b0 < (a0.length : Int) then
  if 0 ≤ x5b0 then
   a0[x5b0.toNat]? >>= fun y21 =>
   a1[x5b0.toNat]? >>= fun y23 =>
   p_laws_eqIntS y21 y23 >>= fun y26 =>
   if y26 then
    p_laws_eqIntSS_L0 a0 a1 (IntKind.wrap .i64 (x5b0 + 1))
   else
    some (.inl false)
  else none
 else
  some (.inr ())
partial_fixpoint
@[simp] noncomputable def L_laws_eqIntSS_L0 : Code := nav [1, 1, 0, 1, 0, 0] (bodyOf Try.f56)
@[simp] def T_laws_eqIntSS_L0 (a0 : List (List (Int))) (a1 : List (List (Int))) (x5b0 : Int) (st : Nat → Nat) : St := ⟨[(0, .one (.sl false 48 (List.map (cL48 false) a0))), (1, .one (.sl false 48 (List.map (cL48 false) a1))), (5, .one (.lit (.int .i64 x5b0)))], [none], (st 0)⟩
@[simp] def U_laws_eqIntSS_L0 (a0 : List (List (Int))) (a1 : List (List (Int))) (o : Unit) (st : Nat → Nat) : St := ⟨[], [none], (st 0)⟩
abbrev Q_laws_eqIntSS_L0 (a0 : List (List (Int))) (a1 : List (List (Int))) (x5b0 : Int) (o : Bool ⊕ Unit) : Prop := ∀ st : Nat → Nat, LoopT Try.prog cal_laws_eqIntSS 1 lm_laws_eqIntSS 0 L_laws_eqIntSS_L0 (tellS Try.prog lm_laws_eqIntSS [.tmp 4]) res_laws_eqIntSS (U_laws_eqIntSS_L0 a0 a1) (T_laws_eqIntSS_L0 a0 a1 x5b0 st) o
theorem l_laws_eqIntSS_L0 {a0 : List (List (Int))} {a1 : List (List (Int))} {x5b0 : Int} {o : Bool ⊕ Unit} (h : p_laws_eqIntSS_L0 a0 a1 x5b0 = some o) : Q_laws_eqIntSS_L0 a0 a1 x5b0 o := by
  refine p_laws_eqIntSS_L0.partial_correctness a0 a1 (motive := fun x5b0 o => Q_laws_eqIntSS_L0 a0 a1 x5b0 o) ?_ x5b0 o h
  clear h o x5b0
  intro p' ih x5b0 r h st
  rcases ifc h with ⟨h19, h⟩ | ⟨h19, h⟩
  · obtain ⟨h20, h⟩ := ifg h
    obtain ⟨y21, h22, h⟩ := bd h
    obtain ⟨y23, h24, h⟩ := bd h
    obtain ⟨y26, h25, h⟩ := bd h
    have h25c := c_laws_eqIntS h25
    rcases ifb h with ⟨h27, h⟩ | ⟨h27, h⟩
    · refine LoopT.step 0 (fun k hk => ?_) (ih _ _ h (sl [((st 0) + 1)]))
      have hd_laws_eqIntSS_6 := dr_laws_eqIntSS_6
      simp only [opsOf, nav, bodyOf, Try.f56, Option.getD_some] at hd_laws_eqIntSS_6
      simp (implicitDefEqProofs := false) [-getElem?_pos, -getElem?_neg, Try.f56, h19, ex_draw2 _ _ hd_laws_eqIntSS_6, h20, h22, h24, h25c, h27]
    obtain rfl := Option.some.inj h
    refine LoopT.ret 0 (fun k hk => ?_)
    have hd_laws_eqIntSS_6 := dr_laws_eqIntSS_6
    simp only [opsOf, nav, bodyOf, Try.f56, Option.getD_some] at hd_laws_eqIntSS_6
    simp (implicitDefEqProofs := false) [-getElem?_pos, -getElem?_neg, Try.f56, h19, ex_draw2 _ _ hd_laws_eqIntSS_6, h20, h22, h24, h25c, h27]
  obtain rfl := Option.some.inj h
  exact LoopT.exit (sl [(st 0)]) 0 (fun k hk => by simp (implicitDefEqProofs := false) [-getElem?_pos, -getElem?_neg, Try.f56, h19])
def p_laws_eqIntSS (a0 : List (List (Int))) (a1 : List (List (Int))) : Option Bool :=
 if (a0.length : Int) = (a1.length : Int) then
  p_laws_eqIntSS_L0 a0 a1 0 >>= fun o29 => match o29 with
  | .inl o29 =>
   some o29
  | .inr o29 =>
   some true
 else
  some false
theorem t_laws_eqIntSS {a0 : List (List (Int))} {a1 : List (List (Int))} {r : Bool} (h : p_laws_eqIntSS a0 a1 = some r) : ∃ k, told Try.prog (cal_laws_eqIntSS k) k lm_laws_eqIntSS Try.f56 (arg_laws_eqIntSS (a0, a1)) = some (res_laws_eqIntSS r) := by
  unfold p_laws_eqIntSS at h
  rcases ifc h with ⟨h1, h⟩ | ⟨h1, h⟩
  · obtain ⟨o29, h28, h⟩ := bd h
    have qK30 := l_laws_eqIntSS_L0 h28 (sl [1])
    rcases o29 with o29 | o29
    · obtain ⟨K30, qK30⟩ := qK30
      obtain rfl := Option.some.inj h
      obtain ⟨k, hk⟩ : ∃ k, K30 ≤ k := ⟨_, Nat.le_refl _⟩
      obtain ⟨S_K30, jK30, iK30⟩ := qK30 k (by omega) k (by omega)
      simp (implicitDefEqProofs := false) [-getElem?_pos, -getElem?_neg, Try.f56, (eq_true h1)] at jK30
      refine ⟨k, ?_⟩
      simp (implicitDefEqProofs := false) [-getElem?_pos, -getElem?_neg, Try.f56, (eq_true h1), iK30, jK30]
    obtain ⟨s31, K30, qK30⟩ := qK30
    obtain rfl := Option.some.inj h
    obtain ⟨k, hk⟩ : ∃ k, K30 ≤ k := ⟨_, Nat.le_refl _⟩
    have jK30 := qK30 k (by omega) k (by omega)
    simp (implicitDefEqProofs := false) [-getElem?_pos, -getElem?_neg, Try.f56, (eq_true h1)] at jK30
    refine ⟨k, ?_⟩
    simp (implicitDefEqProofs := false) [-getElem?_pos, -getElem?_neg, Try.f56, (eq_true h1), jK30]
  obtain rfl := Option.some.inj h
  obtain ⟨k, hk⟩ : ∃ k, 0 ≤ k := ⟨_, Nat.le_refl _⟩
  refine ⟨k, ?_⟩
  simp (implicitDefEqProofs := false) [-getElem?_pos, -getElem?_neg, Try.f56, h1]
theorem inj_laws_eqIntSS : ∀ a b, arg_laws_eqIntSS a = arg_laws_eqIntSS b → a = b := by
  rintro ⟨x0, x1⟩ ⟨y0, y1⟩ h; simp [arg_laws_eqIntSS] at h; simp [Prod.ext_iff, h]
noncomputable def F_laws_eqIntSS : Con := nilfix [[some 48], [some 48]] (pcon arg_laws_eqIntSS (fun a => p_laws_eqIntSS a.1 a.2) res_laws_eqIntSS)
theorem fn_laws_eqIntSS : Fn Try.prog 56 F_laws_eqIntSS := (Fn.pure cal_laws_eqIntSS (fun k w0 h0 => ok_laws_eqIntSS k w0 h0) mixed Try.func56 rfl rfl (by kernel_rfl) 2 (by decide) (fun _ => rfl) lm_laws_eqIntSS (fun a b h => t_laws_eqIntSS h)).nilfix _
theorem c_laws_eqIntSS {a0 : List (List (Int))} {a1 : List (List (Int))} {r : Bool} (h : p_laws_eqIntSS a0 a1 = some r) : F_laws_eqIntSS [.one (.sl false 48 (List.map (cL48 false) a0)), .one (.sl false 48 (List.map (cL48 false) a1))] = some (((false, [none]), [.lit (.bool r)])) := pcon_at (arg := arg_laws_eqIntSS) (p := fun a => p_laws_eqIntSS a.1 a.2) (res := res_laws_eqIntSS) (a := (a0, a1)) (b := r) inj_laws_eqIntSS h
noncomputable def cal_laws_eqIntSSS (k : Nat) : Cal := calI (tabOf [(56, F_laws_eqIntSS)]) (inlOf [])
@[simp] theorem cal_laws_eqIntSSS_ap (k g : Nat) (vs : List TV) (mem : Mem) (ep : Nat) : cal_laws_eqIntSSS k g vs mem ep = calI (tabOf [(56, F_laws_eqIntSS)]) (inlOf []) g vs mem ep := rfl
theorem ok_laws_eqIntSSS (k : Nat) (w0 : World) (h0 : True) : CalOk Try.prog w0.heap.size w0 (cal_laws_eqIntSSS k) := by
  exact calI_ok (J := fun _ => True) stab_true (tabOf_ok _ (by simp [fn_laws_eqIntSS])) (inlOf_ok _ (by simp [])) h0
@[simp] def lm_laws_eqIntSSS : Nat → List Nat × Nat := fun b => if b = 0 then ([0, 1, 5], 0) else if b = 2000000 then ([], 8888888) else if b = 3000000 then ([], 0) else ([], 0)
theorem dr_laws_eqIntSSS_6 : drawn (opsOf (nav [1, 1, 0, 1, 0, 0, 1, 0, 0, 0] (bodyOf Try.f41))) = some ([0, 1, 2, 3, 4, 5, 6, 7], [8, 9]) := by kernel_rfl
@[simp] def arg_laws_eqIntSSS (a : List (List (List (Int))) × List (List (List (Int)))) : List TV := [.one (.sl false 60 (List.map (cL60 false) a.1)), .one (.sl false 60 (List.map (cL60 false) a.2))]
@[simp] def res_laws_eqIntSSS (r : Bool) : Sh × List V := ((false, [none]), [.lit (.bool r)])
def p_laws_eqIntSSS_L0 (a0 : List (List (List (Int)))) (a1 : List (List (List (Int)))) (x5b0 : Int) : Option (Bool ⊕ Unit) :=
 if x5b0 < (a0.length : Int) then
  if 0 ≤ x5b0 then
   a0[x5b0.toNat]? >>= fun y21 =>
   a1[x5b0.toNat]? >>= fun y23 =>
   p_laws_eqIntSS y21 y23 >>= fun y26 =>
   if y26 then
    p_laws_eqIntSSS_L0 a0 a1 (IntKind.wrap .i64 (x5b0 + 1))
   else
    some (.inl false)
  else none
 else
  some (.inr ())
partial_fixpoint
@[simp] noncomputable def L_laws_eqIntSSS_L0 : Code := nav [1, 1, 0, 1, 0, 0] (bodyOf Try.f41)
@[simp] def T_laws_eqIntSSS_L0 (a0 : List (List (List (Int)))) (a1 : List (List (List (Int)))) (x5b0 : Int) (st : Nat → Nat) : St := ⟨[(0, .one (.sl false 60 (List.map (cL60 false) a0))), (1, .one (.sl false 60 (List.map (cL60 false) a1))), (5, .one (.lit (.int .i64 x5b0)))], [none], (st 0)⟩
@[simp] def U_laws_eqIntSSS_L0 (a0 : List (List (List (Int)))) (a1 : List (List (List (Int)))) (o : Unit) (st : Nat → Nat) : St := ⟨[], [none], (st 0)⟩
abbrev Q_laws_eqIntSSS_L0 (a0 : List (List (List (Int)))) (a1 : List (List (List (Int)))) (x5b0 : Int) (o : Bool ⊕ Unit) : Prop := ∀ st : Nat → Nat, LoopT Try.prog cal_laws_eqIntSSS 1 lm_laws_eqIntSSS 0 L_laws_eqIntSSS_L0 (tellS Try.prog lm_laws_eqIntSSS [.tmp 4]) res_laws_eqIntSSS (U_laws_eqIntSSS_L0 a0 a1) (T_laws_eqIntSSS_L0 a0 a1 x5b0 st) o
theorem l_laws_eqIntSSS_L0 {a0 : List (List (List (Int)))} {a1 : List (List (List (Int)))} {x5b0 : Int} {o : Bool ⊕ Unit} (h : p_laws_eqIntSSS_L0 a0 a1 x5b0 = some o) : Q_laws_eqIntSSS_L0 a0 a1 x5b0 o := by
  refine p_laws_eqIntSSS_L0.partial_correctness a0 a1 (motive := fun x5b0 o => Q_laws_eqIntSSS_L0 a0 a1 x5b0 o) ?_ x5b0 o h
  clear h o x5b0
  intro p' ih x5b0 r h st
  rcases ifc h with ⟨h19, h⟩ | ⟨h19, h⟩
  · obtain ⟨h20, h⟩ := ifg h
    obtain ⟨y21, h22, h⟩ := bd h
    obtain ⟨y23, h24, h⟩ := bd h
    obtain ⟨y26, h25, h⟩ := bd h
    have h25c := c_laws_eqIntSS h25
    rcases ifb h with ⟨h27, h⟩ | ⟨h27, h⟩
    · refine LoopT.step 0 (fun k hk => ?_) (ih _ _ h (sl [((st 0) + 1)]))
      have hd_laws_eqIntSSS_6 := dr_laws_eqIntSSS_6
      simp only [opsOf, nav, bodyOf, Try.f41, Option.getD_some] at hd_laws_eqIntSSS_6
      simp (implicitDefEqProofs := false) [-getElem?_pos, -getElem?_neg, Try.f41, h19, ex_draw2 _ _ hd_laws_eqIntSSS_6, h20, h22, h24, h25c, h27]
    obtain rfl := Option.some.inj h
    refine LoopT.ret 0 (fun k hk => ?_)
    have hd_laws_eqIntSSS_6 := dr_laws_eqIntSSS_6
    simp only [opsOf, nav, bodyOf, Try.f41, Option.getD_some] at hd_laws_eqIntSSS_6
    simp (implicitDefEqProofs := false) [-getElem?_pos, -getElem?_neg, Try.f41, h19, ex_draw2 _ _ hd_laws_eqIntSSS_6, h20, h22, h24, h25c, h27]
  obtain rfl := Option.some.inj h
  exact LoopT.exit (sl [(st 0)]) 0 (fun k hk => by simp (implicitDefEqProofs := false) [-getElem?_pos, -getElem?_neg, Try.f41, h19])
def p_laws_eqIntSSS (a0 : List (List (List (Int)))) (a1 : List (List (List (Int)))) : Option Bool :=
 if (a0.length : Int) = (a1.length : Int) then
  p_laws_eqIntSSS_L0 a0 a1 0 >>= fun o29 => match o29 with
  | .inl o29 =>
   some o29
  | .inr o29 =>
   some true
 else
  some false
theorem t_laws_eqIntSSS {a0 : List (List (List (Int)))} {a1 : List (List (List (Int)))} {r : Bool} (h : p_laws_eqIntSSS a0 a1 = some r) : ∃ k, told Try.prog (cal_laws_eqIntSSS k) k lm_laws_eqIntSSS Try.f41 (arg_laws_eqIntSSS (a0, a1)) = some (res_laws_eqIntSSS r) := by
  unfold p_laws_eqIntSSS at h
  rcases ifc h with ⟨h1, h⟩ | ⟨h1, h⟩
  · obtain ⟨o29, h28, h⟩ := bd h
    have qK30 := l_laws_eqIntSSS_L0 h28 (sl [1])
    rcases o29 with o29 | o29
    · obtain ⟨K30, qK30⟩ := qK30
      obtain rfl := Option.some.inj h
      obtain ⟨k, hk⟩ : ∃ k, K30 ≤ k := ⟨_, Nat.le_refl _⟩
      obtain ⟨S_K30, jK30, iK30⟩ := qK30 k (by omega) k (by omega)
      simp (implicitDefEqProofs := false) [-getElem?_pos, -getElem?_neg, Try.f41, (eq_true h1)] at jK30
      refine ⟨k, ?_⟩
      simp (implicitDefEqProofs := false) [-getElem?_pos, -getElem?_neg, Try.f41, (eq_true h1), iK30, jK30]
    obtain ⟨s31, K30, qK30⟩ := qK30
    obtain rfl := Option.some.inj h
    obtain ⟨k, hk⟩ : ∃ k, K30 ≤ k := ⟨_, Nat.le_refl _⟩
    have jK30 := qK30 k (by omega) k (by omega)
    simp (implicitDefEqProofs := false) [-getElem?_pos, -getElem?_neg, Try.f41, (eq_true h1)] at jK30
    refine ⟨k, ?_⟩
    simp (implicitDefEqProofs := false) [-getElem?_pos, -getElem?_neg, Try.f41, (eq_true h1), jK30]
  obtain rfl := Option.some.inj h
  obtain ⟨k, hk⟩ : ∃ k, 0 ≤ k := ⟨_, Nat.le_refl _⟩
  refine ⟨k, ?_⟩
  simp (implicitDefEqProofs := false) [-getElem?_pos, -getElem?_neg, Try.f41, h1]
theorem inj_laws_eqIntSSS : ∀ a b, arg_laws_eqIntSSS a = arg_laws_eqIntSSS b → a = b := by
  rintro ⟨x0, x1⟩ ⟨y0, y1⟩ h; simp [arg_laws_eqIntSSS] at h; simp [Prod.ext_iff, h]
noncomputable def F_laws_eqIntSSS : Con := nilfix [[some 60], [some 60]] (pcon arg_laws_eqIntSSS (fun a => p_laws_eqIntSSS a.1 a.2) res_laws_eqIntSSS)
theorem fn_laws_eqIntSSS : Fn Try.prog 41 F_laws_eqIntSSS := (Fn.pure cal_laws_eqIntSSS (fun k w0 h0 => ok_laws_eqIntSSS k w0 h0) mixed Try.func41 rfl rfl (by kernel_rfl) 2 (by decide) (fun _ => rfl) lm_laws_eqIntSSS (fun a b h => t_laws_eqIntSSS h)).nilfix _
theorem c_laws_eqIntSSS {a0 : List (List (List (Int)))} {a1 : List (List (List (Int)))} {r : Bool} (h : p_laws_eqIntSSS a0 a1 = some r) : F_laws_eqIntSSS [.one (.sl false 60 (List.map (cL60 false) a0)), .one (.sl false 60 (List.map (cL60 false) a1))] = some (((false, [none]), [.lit (.bool r)])) := pcon_at (arg := arg_laws_eqIntSSS) (p := fun a => p_laws_eqIntSSS a.1 a.2) (res := res_laws_eqIntSSS) (a := (a0, a1)) (b := r) inj_laws_eqIntSSS h
noncomputable def cal_laws_eqGram (k : Nat) : Cal := calI (tabOf [(41, F_laws_eqIntSSS)]) (inlOf [])
@[simp] theorem cal_laws_eqGram_ap (k g : Nat) (vs : List TV) (mem : Mem) (ep : Nat) : cal_laws_eqGram k g vs mem ep = calI (tabOf [(41, F_laws_eqIntSSS)]) (inlOf []) g vs mem ep := rfl
theorem ok_laws_eqGram (k : Nat) (w0 : World) (h0 : True) : CalOk Try.prog w0.heap.size w0 (cal_laws_eqGram k) := by
  exact calI_ok (J := fun _ => True) stab_true (tabOf_ok _ (by simp [fn_laws_eqIntSSS])) (inlOf_ok _ (by simp [])) h0
@[simp] def lm_laws_eqGram : Nat → List Nat × Nat := fun b => ([], 0)
@[simp] def arg_laws_eqGram (a : List (List (List (Int))) × List (List (List (Int)))) : List TV := [.agg [.sl false 60 (List.map (cL60 false) a.1)], .agg [.sl false 60 (List.map (cL60 false) a.2)]]
@[simp] def res_laws_eqGram (r : Bool) : Sh × List V := ((false, [none]), [.lit (.bool r)])
def p_laws_eqGram (a0 : List (List (List (Int)))) (a1 : List (List (List (Int)))) : Option Bool :=
 p_laws_eqIntSSS a0 a1 >>= fun y2 =>
 if y2 then
  some true
 else
  some false
theorem t_laws_eqGram {a0 : List (List (List (Int)))} {a1 : List (List (List (Int)))} {r : Bool} (h : p_laws_eqGram a0 a1 = some r) : ∃ k, told Try.prog (cal_laws_eqGram k) k lm_laws_eqGram Try.f22 (arg_laws_eqGram (a0, a1)) = some (res_laws_eqGram r) := by
  unfold p_laws_eqGram at h
  obtain ⟨y2, h1, h⟩ := bd h
  have h1c := c_laws_eqIntSSS h1
  rcases ifb h with ⟨h3, h⟩ | ⟨h3, h⟩
  · obtain rfl := Option.some.inj h
    obtain ⟨k, hk⟩ : ∃ k, 0 ≤ k := ⟨_, Nat.le_refl _⟩
    refine ⟨k, ?_⟩
    simp (implicitDefEqProofs := false) [-getElem?_pos, -getElem?_neg, Try.f22, h1c, h3]
  obtain rfl := Option.some.inj h
  obtain ⟨k, hk⟩ : ∃ k, 0 ≤ k := ⟨_, Nat.le_refl _⟩
  refine ⟨k, ?_⟩
  simp (implicitDefEqProofs := false) [-getElem?_pos, -getElem?_neg, Try.f22, h1c, h3]
theorem inj_laws_eqGram : ∀ a b, arg_laws_eqGram a = arg_laws_eqGram b → a = b := by
  rintro ⟨x0, x1⟩ ⟨y0, y1⟩ h; simp [arg_laws_eqGram] at h; simp [Prod.ext_iff, h]
noncomputable def F_laws_eqGram : Con := nilfix [[some 60], [some 60]] (pcon arg_laws_eqGram (fun a => p_laws_eqGram a.1 a.2) res_laws_eqGram)
theorem fn_laws_eqGram : Fn Try.prog 22 F_laws_eqGram := (Fn.pure cal_laws_eqGram (fun k w0 h0 => ok_laws_eqGram k w0 h0) mixed Try.func22 rfl rfl (by kernel_rfl) 2 (by decide) (fun _ => rfl) lm_laws_eqGram (fun a b h => t_laws_eqGram h)).nilfix _
theorem c_laws_eqGram {a0 : List (List (List (Int)))} {a1 : List (List (List (Int)))} {r : Bool} (h : p_laws_eqGram a0 a1 = some r) : F_laws_eqGram [.agg [.sl false 60 (List.map (cL60 false) a0)], .agg [.sl false 60 (List.map (cL60 false) a1)]] = some (((false, [none]), [.lit (.bool r)])) := pcon_at (arg := arg_laws_eqGram) (p := fun a => p_laws_eqGram a.1 a.2) (res := res_laws_eqGram) (a := (a0, a1)) (b := r) inj_laws_eqGram h
def cal_laws_markIntS (k : Nat) : Cal := calI (tabOf []) (inlOf [])
@[simp] theorem cal_laws_markIntS_ap (k g : Nat) (vs : List TV) (mem : Mem) (ep : Nat) : cal_laws_markIntS k g vs mem ep = calI (tabOf []) (inlOf []) g vs mem ep := rfl
theorem ok_laws_markIntS (k : Nat) (w0 : World) (h0 : True) : CalOk Try.prog w0.heap.size w0 (cal_laws_markIntS k) := by
  exact calI_ok (J := fun _ => True) stab_true (tabOf_ok _ (by simp [])) (inlOf_ok _ (by simp [])) h0
@[simp] def lm_laws_markIntS : Nat → List Nat × Nat := fun b => if b = 0 then ([0, 1, 5], 0) else if b = 2000000 then ([], 8888888) else if b = 3000000 then ([1], 0) else ([], 0)
@[simp] def arg_laws_markIntS (a : List (Int) × Int) : List TV := [.one (.lit (.int .i64 a.2))]
@[simp] def rows_laws_markIntS (a : List (Int) × Int) : List (List V) := List.map cI a.1
@[simp] def res_laws_markIntS (r : Int × List (Int)) : Value × List (List V) := (.int .i64 r.1, List.map cI r.2)
def p_laws_markIntS_L0  (x1b0 : Int) (x5b0 : Int) (l1b0 : List (Int)) : Option (Int × List (Int)) :=
 if x5b0 < (l1b0.length : Int) then
  if 0 ≤ x5b0 then
   l1b0[x5b0.toNat]? >>= fun y20 =>
   some (List.set l1b0 x5b0.toNat x1b0) >>= fun l22 =>
   p_laws_markIntS_L0 (IntKind.wrap .i64 (x1b0 + 1)) (IntKind.wrap .i64 (x5b0 + 1)) l22
  else none
 else
  some (x1b0, l1b0)
partial_fixpoint
@[simp] noncomputable def L_laws_markIntS_L0 : Code := nav [1, 0, 1, 0, 0] (bodyOf Try.f30)
@[simp] def T_laws_markIntS_L0  (x1b0 : Int) (x5b0 : Int) (l1b0 : List (Int)) (st : Nat → Nat) : St := ⟨[(0, .one (.ow 1 1)), (1, .one (.lit (.int .i64 x1b0))), (5, .one (.lit (.int .i64 x5b0)))], [none, some (.rows 1 1 3 (List.map cI l1b0))], (st 0)⟩
@[simp] def U_laws_markIntS_L0  (o : Int × List (Int)) (st : Nat → Nat) : St := ⟨[(1, .one (.lit (.int .i64 o.1)))], [none, some (.rows 1 1 3 (List.map cI o.2))], (st 0)⟩
abbrev Q_laws_markIntS_L0  (x1b0 : Int) (x5b0 : Int) (l1b0 : List (Int)) (o : Int × List (Int)) : Prop := ∀ st : Nat → Nat, LoopG Try.prog cal_laws_markIntS 2 lm_laws_markIntS 0 L_laws_markIntS_L0 (U_laws_markIntS_L0 ) (T_laws_markIntS_L0  x1b0 x5b0 l1b0 st) o
theorem l_laws_markIntS_L0 {x1b0 : Int} {x5b0 : Int} {l1b0 : List (Int)} {o : Int × List (Int)} (h : p_laws_markIntS_L0  x1b0 x5b0 l1b0 = some o) : Q_laws_markIntS_L0  x1b0 x5b0 l1b0 o := by
  refine p_laws_markIntS_L0.partial_correctness  (motive := fun x1b0 x5b0 l1b0 o => Q_laws_markIntS_L0  x1b0 x5b0 l1b0 o) ?_ x1b0 x5b0 l1b0 o h
  clear h o x1b0 x5b0 l1b0
  intro p' ih x1b0 x5b0 l1b0 r h st
  rcases ifc h with ⟨h18, h⟩ | ⟨h18, h⟩
  · obtain ⟨h19, h⟩ := ifg h
    obtain ⟨y20, h21, h⟩ := bd h
    have h21b := (List.getElem?_eq_some_iff.1 h21).1
    obtain ⟨l22, h23, h⟩ := bd h
    have h23r : (List.map cI l1b0).set x5b0.toNat [.lit (.int .i64 x1b0)] = List.map cI l22 := by rw [← Option.some.inj h23]; simp
    exact LoopG.step 0 (fun k hk => by simp (implicitDefEqProofs := false) [-getElem?_pos, -getElem?_neg, Try.f30, h18, h19, h21, h21b, h23r]) (ih _ _ _ _ h (sl [(st 0)]))
  obtain rfl := Option.some.inj h
  exact LoopG.exit (sl [(st 0)]) 0 (fun k hk => by simp (implicitDefEqProofs := false) [-getElem?_pos, -getElem?_neg, Try.f30, h18])
def p_laws_markIntS (a0 : List (Int)) (a1 : Int) : Option (Int × List (Int)) :=
 p_laws_markIntS_L0 a1 0 a0 >>= fun o25 =>
 some (o25.1, o25.2)
theorem t_laws_markIntS {a0 : List (Int)} {a1 : Int} {r : Int × List (Int)} (h : p_laws_markIntS a0 a1 = some r) : ∃ k, toldT Try.prog (cal_laws_markIntS k) k lm_laws_markIntS Try.f30 3 (rows_laws_markIntS (a0, a1)) (arg_laws_markIntS (a0, a1)) = some (res_laws_markIntS r) := by
  unfold p_laws_markIntS at h
  obtain ⟨o25, h24, h⟩ := bd h
  have qK26 := l_laws_markIntS_L0 h24 (sl [2])
  obtain ⟨s27, K26, qK26⟩ := qK26
  obtain rfl := Option.some.inj h
  obtain ⟨k, hk⟩ : ∃ k, K26 ≤ k := ⟨_, Nat.le_refl _⟩
  have jK26 := qK26 k (by omega) k (by omega)
  simp (implicitDefEqProofs := false) [-getElem?_pos, -getElem?_neg, Try.f30] at jK26
  refine ⟨k, ?_⟩
  simp (implicitDefEqProofs := false) [-getElem?_pos, -getElem?_neg, Try.f30, jK26]
theorem inj_laws_markIntS : ∀ a b, rows_laws_markIntS a = rows_laws_markIntS b → arg_laws_markIntS a = arg_laws_markIntS b → a = b := by
  rintro ⟨x0, x1⟩ ⟨y0, y1⟩ h1 h2; simp [arg_laws_markIntS] at h2; simp [rows_laws_markIntS] at h1; simp [Prod.ext_iff, h1, h2]
noncomputable def F_laws_markIntS : TCon := ptcon rows_laws_markIntS arg_laws_markIntS (fun a => p_laws_markIntS a.1 a.2) (fun r => (res_laws_markIntS r).1) (fun r => (res_laws_markIntS r).2)
theorem fn_laws_markIntS : TFn Try.prog 30 3 F_laws_markIntS := TFn.pure cal_laws_markIntS (fun k w0 h0 => ok_laws_markIntS k w0 h0) mixed Try.func30 rfl rfl (by kernel_rfl) 2 (by decide) (fun _ => rfl) lm_laws_markIntS (fun a b h => t_laws_markIntS h)
theorem c_laws_markIntS {a0 : List (Int)} {a1 : Int} {r : Int × List (Int)} (h : p_laws_markIntS a0 a1 = some r) : F_laws_markIntS (List.map cI a0) [.one (.lit (.int .i64 a1))] = some (.int .i64 r.1, List.map cI r.2) := ptcon_at (rows := rows_laws_markIntS) (arg := arg_laws_markIntS) (p := fun a => p_laws_markIntS a.1 a.2) (val := fun r => (res_laws_markIntS r).1) (rows' := fun r => (res_laws_markIntS r).2) (a := (a0, a1)) (b := r) inj_laws_markIntS h
noncomputable def cal_laws_markIntSS (k : Nat) : Cal := calI (tabOf []) (inlOf [(30, tI 3 F_laws_markIntS)])
@[simp] theorem cal_laws_markIntSS_ap (k g : Nat) (vs : List TV) (mem : Mem) (ep : Nat) : cal_laws_markIntSS k g vs mem ep = calI (tabOf []) (inlOf [(30, tI 3 F_laws_markIntS)]) g vs mem ep := rfl
theorem ok_laws_markIntSS (k : Nat) (w0 : World) (h0 : True) : CalOk Try.prog w0.heap.size w0 (cal_laws_markIntSS k) := by
  exact calI_ok (J := fun _ => True) stab_true (tabOf_ok _ (by simp [])) (inlOf_ok _ (by simp [tI_ok fn_laws_markIntS])) h0
@[simp] def lm_laws_markIntSS : Nat → List Nat × Nat := fun b => if b = 0 then ([0, 1, 5], 0) else if b = 2000000 then ([], 8888888) else if b = 3000000 then ([1], 0) else ([], 0)
@[simp] def arg_laws_markIntSS (a : List (List (Int)) × Int) : List TV := [.one (.lit (.int .i64 a.2))]
@[simp] def rows_laws_markIntSS (a : List (List (Int)) × Int) : List (List V) := List.map (cL48 true) a.1
@[simp] def res_laws_markIntSS (r : Int × List (List (Int))) : Value × List (List V) := (.int .i64 r.1, List.map (cL48 true) r.2)
def p_laws_markIntSS_L0  (x1b0 : Int) (x5b0 : Int) (l1b0 : List (List (Int))) : Option (Int × List (List (Int))) :=
 if x5b0 < (l1b0.length : Int) then
  if 0 ≤ x5b0 then
   l1b0[x5b0.toNat]? >>= fun y29 =>
   p_laws_markIntS y29 x1b0 >>= fun y33 =>
   some (List.set l1b0 x5b0.toNat y33.2) >>= fun l34 =>
   p_laws_markIntSS_L0 y33.1 (IntKind.wrap .i64 (x5b0 + 1)) l34
  else none
 else
  some (x1b0, l1b0)
partial_fixpoint
@[simp] noncomputable def L_laws_markIntSS_L0 : Code := nav [1, 0, 1, 0, 0] (bodyOf Try.f58)
@[simp] def T_laws_markIntSS_L0  (x1b0 : Int) (x5b0 : Int) (l1b0 : List (List (Int))) (st : Nat → Nat) : St := ⟨[(0, .one (.ow 1 1)), (1, .one (.lit (.int .i64 x1b0))), (5, .one (.lit (.int .i64 x5b0)))], [none, some (.rows 1 (st 1) 48 (List.map (cL48 true) l1b0))], (st 0)⟩
@[simp] def U_laws_markIntSS_L0  (o : Int × List (List (Int))) (st : Nat → Nat) : St := ⟨[(1, .one (.lit (.int .i64 o.1)))], [none, some (.rows 1 (st 1) 48 (List.map (cL48 true) o.2))], (st 0)⟩
abbrev Q_laws_markIntSS_L0  (x1b0 : Int) (x5b0 : Int) (l1b0 : List (List (Int))) (o : Int × List (List (Int))) : Prop := ∀ st : Nat → Nat, LoopG Try.prog cal_laws_markIntSS 2 lm_laws_markIntSS 0 L_laws_markIntSS_L0 (U_laws_markIntSS_L0 ) (T_laws_markIntSS_L0  x1b0 x5b0 l1b0 st) o
theorem l_laws_markIntSS_L0 {x1b0 : Int} {x5b0 : Int} {l1b0 : List (List (Int))} {o : Int × List (List (Int))} (h : p_laws_markIntSS_L0  x1b0 x5b0 l1b0 = some o) : Q_laws_markIntSS_L0  x1b0 x5b0 l1b0 o := by
  refine p_laws_markIntSS_L0.partial_correctness  (motive := fun x1b0 x5b0 l1b0 o => Q_laws_markIntSS_L0  x1b0 x5b0 l1b0 o) ?_ x1b0 x5b0 l1b0 o h
  clear h o x1b0 x5b0 l1b0
  intro p' ih x1b0 x5b0 l1b0 r h st
  rcases ifc h with ⟨h27, h⟩ | ⟨h27, h⟩
  · obtain ⟨h28, h⟩ := ifg h
    obtain ⟨y29, h30, h⟩ := bd h
    have h30b := (List.getElem?_eq_some_iff.1 h30).1
    obtain ⟨y33, h32, h⟩ := bd h
    have h32c := c_laws_markIntS h32
    obtain ⟨l34, h35, h⟩ := bd h
    have h35r : (List.map (cL48 true) l1b0).set x5b0.toNat [.sl true 3 (List.map cI y33.2)] = List.map (cL48 true) l34 := by rw [← Option.some.inj h35]; simp
    exact LoopG.step 0 (fun k hk => by simp (implicitDefEqProofs := false) [-getElem?_pos, -getElem?_neg, Try.f58, h27, h28, h30, h30b, h32c, h35r]) (ih _ _ _ _ h (sl [((st 0) + 3), (st 0)]))
  obtain rfl := Option.some.inj h
  exact LoopG.exit (sl [(st 0), (st 1)]) 0 (fun k hk => by simp (implicitDefEqProofs := false) [-getElem?_pos, -getElem?_neg, Try.f58, h27])
def p_laws_markIntSS (a0 : List (List (Int))) (a1 : Int) : Option (Int × List (List (Int))) :=
 p_laws_markIntSS_L0 a1 0 a0 >>= fun o37 =>
 some (o37.1, o37.2)
theorem t_laws_markIntSS {a0 : List (List (Int))} {a1 : Int} {r : Int × List (List (Int))} (h : p_laws_markIntSS a0 a1 = some r) : ∃ k, toldT Try.prog (cal_laws_markIntSS k) k lm_laws_markIntSS Try.f58 48 (rows_laws_markIntSS (a0, a1)) (arg_laws_markIntSS (a0, a1)) = some (res_laws_markIntSS r) := by
  unfold p_laws_markIntSS at h
  obtain ⟨o37, h36, h⟩ := bd h
  have qK38 := l_laws_markIntSS_L0 h36 (sl [2, 1])
  obtain ⟨s39, K38, qK38⟩ := qK38
  obtain rfl := Option.some.inj h
  obtain ⟨k, hk⟩ : ∃ k, K38 ≤ k := ⟨_, Nat.le_refl _⟩
  have jK38 := qK38 k (by omega) k (by omega)
  simp (implicitDefEqProofs := false) [-getElem?_pos, -getElem?_neg, Try.f58] at jK38
  refine ⟨k, ?_⟩
  simp (implicitDefEqProofs := false) [-getElem?_pos, -getElem?_neg, Try.f58, jK38]
theorem inj_laws_markIntSS : ∀ a b, rows_laws_markIntSS a = rows_laws_markIntSS b → arg_laws_markIntSS a = arg_laws_markIntSS b → a = b := by
  rintro ⟨x0, x1⟩ ⟨y0, y1⟩ h1 h2; simp [arg_laws_markIntSS] at h2; simp [rows_laws_markIntSS] at h1; simp [Prod.ext_iff, h1, h2]
noncomputable def F_laws_markIntSS : TCon := ptcon rows_laws_markIntSS arg_laws_markIntSS (fun a => p_laws_markIntSS a.1 a.2) (fun r => (res_laws_markIntSS r).1) (fun r => (res_laws_markIntSS r).2)
theorem fn_laws_markIntSS : TFn Try.prog 58 48 F_laws_markIntSS := TFn.pure cal_laws_markIntSS (fun k w0 h0 => ok_laws_markIntSS k w0 h0) mixed Try.func58 rfl rfl (by kernel_rfl) 2 (by decide) (fun _ => rfl) lm_laws_markIntSS (fun a b h => t_laws_markIntSS h)
theorem c_laws_markIntSS {a0 : List (List (Int))} {a1 : Int} {r : Int × List (List (Int))} (h : p_laws_markIntSS a0 a1 = some r) : F_laws_markIntSS (List.map (cL48 true) a0) [.one (.lit (.int .i64 a1))] = some (.int .i64 r.1, List.map (cL48 true) r.2) := ptcon_at (rows := rows_laws_markIntSS) (arg := arg_laws_markIntSS) (p := fun a => p_laws_markIntSS a.1 a.2) (val := fun r => (res_laws_markIntSS r).1) (rows' := fun r => (res_laws_markIntSS r).2) (a := (a0, a1)) (b := r) inj_laws_markIntSS h
noncomputable def cal_laws_markIntSSS (k : Nat) : Cal := calI (tabOf []) (inlOf [(58, tI 48 F_laws_markIntSS)])
@[simp] theorem cal_laws_markIntSSS_ap (k g : Nat) (vs : List TV) (mem : Mem) (ep : Nat) : cal_laws_markIntSSS k g vs mem ep = calI (tabOf []) (inlOf [(58, tI 48 F_laws_markIntSS)]) g vs mem ep := rfl
theorem ok_laws_markIntSSS (k : Nat) (w0 : World) (h0 : True) : CalOk Try.prog w0.heap.size w0 (cal_laws_markIntSSS k) := by
  exact calI_ok (J := fun _ => True) stab_true (tabOf_ok _ (by simp [])) (inlOf_ok _ (by simp [tI_ok fn_laws_markIntSS])) h0
@[simp] def lm_laws_markIntSSS : Nat → List Nat × Nat := fun b => if b = 0 then ([0, 1, 5], 0) else if b = 2000000 then ([], 8888888) else if b = 3000000 then ([1], 0) else ([], 0)
@[simp] def arg_laws_markIntSSS (a : List (List (List (Int))) × Int) : List TV := [.one (.lit (.int .i64 a.2))]
@[simp] def rows_laws_markIntSSS (a : List (List (List (Int))) × Int) : List (List V) := List.map (cL60 true) a.1
@[simp] def res_laws_markIntSSS (r : Int × List (List (List (Int)))) : Value × List (List V) := (.int .i64 r.1, List.map (cL60 true) r.2)
def p_laws_markIntSSS_L0  (x1b0 : Int) (x5b0 : Int) (l1b0 : List (List (List (Int)))) : Option (Int × List (List (List (Int)))) :=
 if x5b0 < (l1b0.length : Int) then
  if 0 ≤ x5b0 then
   l1b0[x5b0.toNat]? >>= fun y29 =>
   p_laws_markIntSS y29 x1b0 >>= fun y33 =>
   some (List.set l1b0 x5b0.toNat y33.2) >>= fun l34 =>
   p_laws_markIntSSS_L0 y33.1 (IntKind.wrap .i64 (x5b0 + 1)) l34
  else none
 else
  some (x1b0, l1b0)
partial_fixpoint
@[simp] noncomputable def L_laws_markIntSSS_L0 : Code := nav [1, 0, 1, 0, 0] (bodyOf Try.f47)
@[simp] def T_laws_markIntSSS_L0  (x1b0 : Int) (x5b0 : Int) (l1b0 : List (List (List (Int)))) (st : Nat → Nat) : St := ⟨[(0, .one (.ow 1 1)), (1, .one (.lit (.int .i64 x1b0))), (5, .one (.lit (.int .i64 x5b0)))], [none, some (.rows 1 (st 1) 60 (List.map (cL60 true) l1b0))], (st 0)⟩
@[simp] def U_laws_markIntSSS_L0  (o : Int × List (List (List (Int)))) (st : Nat → Nat) : St := ⟨[(1, .one (.lit (.int .i64 o.1)))], [none, some (.rows 1 (st 1) 60 (List.map (cL60 true) o.2))], (st 0)⟩
abbrev Q_laws_markIntSSS_L0  (x1b0 : Int) (x5b0 : Int) (l1b0 : List (List (List (Int)))) (o : Int × List (List (List (Int)))) : Prop := ∀ st : Nat → Nat, LoopG Try.prog cal_laws_markIntSSS 2 lm_laws_markIntSSS 0 L_laws_markIntSSS_L0 (U_laws_markIntSSS_L0 ) (T_laws_markIntSSS_L0  x1b0 x5b0 l1b0 st) o
theorem l_laws_markIntSSS_L0 {x1b0 : Int} {x5b0 : Int} {l1b0 : List (List (List (Int)))} {o : Int × List (List (List (Int)))} (h : p_laws_markIntSSS_L0  x1b0 x5b0 l1b0 = some o) : Q_laws_markIntSSS_L0  x1b0 x5b0 l1b0 o := by
  refine p_laws_markIntSSS_L0.partial_correctness  (motive := fun x1b0 x5b0 l1b0 o => Q_laws_markIntSSS_L0  x1b0 x5b0 l1b0 o) ?_ x1b0 x5b0 l1b0 o h
  clear h o x1b0 x5b0 l1b0
  intro p' ih x1b0 x5b0 l1b0 r h st
  rcases ifc h with ⟨h27, h⟩ | ⟨h27, h⟩
  · obtain ⟨h28, h⟩ := ifg h
    obtain ⟨y29, h30, h⟩ := bd h
    have h30b := (List.getElem?_eq_some_iff.1 h30).1
    obtain ⟨y33, h32, h⟩ := bd h
    have h32c := c_laws_markIntSS h32
    obtain ⟨l34, h35, h⟩ := bd h
    have h35r : (List.map (cL60 true) l1b0).set x5b0.toNat [.sl true 48 (List.map (cL48 true) y33.2)] = List.map (cL60 true) l34 := by rw [← Option.some.inj h35]; simp
    exact LoopG.step 0 (fun k hk => by simp (implicitDefEqProofs := false) [-getElem?_pos, -getElem?_neg, Try.f47, h27, h28, h30, h30b, h32c, h35r]) (ih _ _ _ _ h (sl [((st 0) + 3), (st 0)]))
  obtain rfl := Option.some.inj h
  exact LoopG.exit (sl [(st 0), (st 1)]) 0 (fun k hk => by simp (implicitDefEqProofs := false) [-getElem?_pos, -getElem?_neg, Try.f47, h27])
def p_laws_markIntSSS (a0 : List (List (List (Int)))) (a1 : Int) : Option (Int × List (List (List (Int)))) :=
 p_laws_markIntSSS_L0 a1 0 a0 >>= fun o37 =>
 some (o37.1, o37.2)
theorem t_laws_markIntSSS {a0 : List (List (List (Int)))} {a1 : Int} {r : Int × List (List (List (Int)))} (h : p_laws_markIntSSS a0 a1 = some r) : ∃ k, toldT Try.prog (cal_laws_markIntSSS k) k lm_laws_markIntSSS Try.f47 60 (rows_laws_markIntSSS (a0, a1)) (arg_laws_markIntSSS (a0, a1)) = some (res_laws_markIntSSS r) := by
  unfold p_laws_markIntSSS at h
  obtain ⟨o37, h36, h⟩ := bd h
  have qK38 := l_laws_markIntSSS_L0 h36 (sl [2, 1])
  obtain ⟨s39, K38, qK38⟩ := qK38
  obtain rfl := Option.some.inj h
  obtain ⟨k, hk⟩ : ∃ k, K38 ≤ k := ⟨_, Nat.le_refl _⟩
  have jK38 := qK38 k (by omega) k (by omega)
  simp (implicitDefEqProofs := false) [-getElem?_pos, -getElem?_neg, Try.f47] at jK38
  refine ⟨k, ?_⟩
  simp (implicitDefEqProofs := false) [-getElem?_pos, -getElem?_neg, Try.f47, jK38]
theorem inj_laws_markIntSSS : ∀ a b, rows_laws_markIntSSS a = rows_laws_markIntSSS b → arg_laws_markIntSSS a = arg_laws_markIntSSS b → a = b := by
  rintro ⟨x0, x1⟩ ⟨y0, y1⟩ h1 h2; simp [arg_laws_markIntSSS] at h2; simp [rows_laws_markIntSSS] at h1; simp [Prod.ext_iff, h1, h2]
noncomputable def F_laws_markIntSSS : TCon := ptcon rows_laws_markIntSSS arg_laws_markIntSSS (fun a => p_laws_markIntSSS a.1 a.2) (fun r => (res_laws_markIntSSS r).1) (fun r => (res_laws_markIntSSS r).2)
theorem fn_laws_markIntSSS : TFn Try.prog 47 60 F_laws_markIntSSS := TFn.pure cal_laws_markIntSSS (fun k w0 h0 => ok_laws_markIntSSS k w0 h0) mixed Try.func47 rfl rfl (by kernel_rfl) 2 (by decide) (fun _ => rfl) lm_laws_markIntSSS (fun a b h => t_laws_markIntSSS h)
theorem c_laws_markIntSSS {a0 : List (List (List (Int)))} {a1 : Int} {r : Int × List (List (List (Int)))} (h : p_laws_markIntSSS a0 a1 = some r) : F_laws_markIntSSS (List.map (cL60 true) a0) [.one (.lit (.int .i64 a1))] = some (.int .i64 r.1, List.map (cL60 true) r.2) := ptcon_at (rows := rows_laws_markIntSSS) (arg := arg_laws_markIntSSS) (p := fun a => p_laws_markIntSSS a.1 a.2) (val := fun r => (res_laws_markIntSSS r).1) (rows' := fun r => (res_laws_markIntSSS r).2) (a := (a0, a1)) (b := r) inj_laws_markIntSSS h
def cal_laws_heldIntS (k : Nat) : Cal := calI (tabOf []) (inlOf [])
@[simp] theorem cal_laws_heldIntS_ap (k g : Nat) (vs : List TV) (mem : Mem) (ep : Nat) : cal_laws_heldIntS k g vs mem ep = calI (tabOf []) (inlOf []) g vs mem ep := rfl
theorem ok_laws_heldIntS (k : Nat) (w0 : World) (h0 : True) : CalOk Try.prog w0.heap.size w0 (cal_laws_heldIntS k) := by
  exact calI_ok (J := fun _ => True) stab_true (tabOf_ok _ (by simp [])) (inlOf_ok _ (by simp [])) h0
@[simp] def lm_laws_heldIntS : Nat → List Nat × Nat := fun b => if b = 0 then ([0, 1, 5], 0) else if b = 2000000 then ([], 8888888) else if b = 3000000 then ([1], 0) else ([], 0)
@[simp] def arg_laws_heldIntS (a : List (Int) × Int) : List TV := [.one (.sl false 3 (List.map cI a.1)), .one (.lit (.int .i64 a.2))]
@[simp] def res_laws_heldIntS (r : Int) : Sh × List V := ((false, [none]), [.lit (.int .i64 r)])
def p_laws_heldIntS_L0 (a0 : List (Int)) (x1b0 : Int) (x5b0 : Int) : Option (Int ⊕ Int) :=
 if x5b0 < (a0.length : Int) then
  if 0 ≤ x5b0 then
   a0[x5b0.toNat]? >>= fun y12 =>
   if y12 = x1b0 then
    p_laws_heldIntS_L0 a0 (IntKind.wrap .i64 (x1b0 + 1)) (IntKind.wrap .i64 (x5b0 + 1))
   else
    some (.inl (-1))
  else none
 else
  some (.inr x1b0)
partial_fixpoint
@[simp] noncomputable def L_laws_heldIntS_L0 : Code := nav [1, 0, 1, 0, 0] (bodyOf Try.f31)
@[simp] def T_laws_heldIntS_L0 (a0 : List (Int)) (x1b0 : Int) (x5b0 : Int) (st : Nat → Nat) : St := ⟨[(0, .one (.sl false 3 (List.map cI a0))), (1, .one (.lit (.int .i64 x1b0))), (5, .one (.lit (.int .i64 x5b0)))], [none], (st 0)⟩
@[simp] def U_laws_heldIntS_L0 (a0 : List (Int)) (o : Int) (st : Nat → Nat) : St := ⟨[(1, .one (.lit (.int .i64 o)))], [none], (st 0)⟩
abbrev Q_laws_heldIntS_L0 (a0 : List (Int)) (x1b0 : Int) (x5b0 : Int) (o : Int ⊕ Int) : Prop := ∀ st : Nat → Nat, LoopT Try.prog cal_laws_heldIntS 1 lm_laws_heldIntS 0 L_laws_heldIntS_L0 (tellS Try.prog lm_laws_heldIntS [.tmp 4]) res_laws_heldIntS (U_laws_heldIntS_L0 a0) (T_laws_heldIntS_L0 a0 x1b0 x5b0 st) o
theorem l_laws_heldIntS_L0 {a0 : List (Int)} {x1b0 : Int} {x5b0 : Int} {o : Int ⊕ Int} (h : p_laws_heldIntS_L0 a0 x1b0 x5b0 = some o) : Q_laws_heldIntS_L0 a0 x1b0 x5b0 o := by
  refine p_laws_heldIntS_L0.partial_correctness a0 (motive := fun x1b0 x5b0 o => Q_laws_heldIntS_L0 a0 x1b0 x5b0 o) ?_ x1b0 x5b0 o h
  clear h o x1b0 x5b0
  intro p' ih x1b0 x5b0 r h st
  rcases ifc h with ⟨h10, h⟩ | ⟨h10, h⟩
  · obtain ⟨h11, h⟩ := ifg h
    obtain ⟨y12, h13, h⟩ := bd h
    rcases ifc h with ⟨h14, h⟩ | ⟨h14, h⟩
    · exact LoopT.step 0 (fun k hk => by simp (implicitDefEqProofs := false) [-getElem?_pos, -getElem?_neg, Try.f31, h10, h11, h13, (eq_true h14)]) (ih _ _ _ h (sl [(st 0)]))
    obtain rfl := Option.some.inj h
    exact LoopT.ret 0 (fun k hk => by simp (implicitDefEqProofs := false) [-getElem?_pos, -getElem?_neg, Try.f31, h10, h11, h13, h14])
  obtain rfl := Option.some.inj h
  exact LoopT.exit (sl [(st 0)]) 0 (fun k hk => by simp (implicitDefEqProofs := false) [-getElem?_pos, -getElem?_neg, Try.f31, h10])
def p_laws_heldIntS (a0 : List (Int)) (a1 : Int) : Option Int :=
 p_laws_heldIntS_L0 a0 a1 0 >>= fun o16 => match o16 with
 | .inl o16 =>
  some o16
 | .inr o16 =>
  some o16
theorem t_laws_heldIntS {a0 : List (Int)} {a1 : Int} {r : Int} (h : p_laws_heldIntS a0 a1 = some r) : ∃ k, told Try.prog (cal_laws_heldIntS k) k lm_laws_heldIntS Try.f31 (arg_laws_heldIntS (a0, a1)) = some (res_laws_heldIntS r) := by
  unfold p_laws_heldIntS at h
  obtain ⟨o16, h15, h⟩ := bd h
  have qK17 := l_laws_heldIntS_L0 h15 (sl [1])
  rcases o16 with o16 | o16
  · obtain ⟨K17, qK17⟩ := qK17
    obtain rfl := Option.some.inj h
    obtain ⟨k, hk⟩ : ∃ k, K17 ≤ k := ⟨_, Nat.le_refl _⟩
    obtain ⟨S_K17, jK17, iK17⟩ := qK17 k (by omega) k (by omega)
    simp (implicitDefEqProofs := false) [-getElem?_pos, -getElem?_neg, Try.f31] at jK17
    refine ⟨k, ?_⟩
    simp (implicitDefEqProofs := false) [-getElem?_pos, -getElem?_neg, Try.f31, iK17, jK17]
  obtain ⟨s18, K17, qK17⟩ := qK17
  obtain rfl := Option.some.inj h
  obtain ⟨k, hk⟩ : ∃ k, K17 ≤ k := ⟨_, Nat.le_refl _⟩
  have jK17 := qK17 k (by omega) k (by omega)
  simp (implicitDefEqProofs := false) [-getElem?_pos, -getElem?_neg, Try.f31] at jK17
  refine ⟨k, ?_⟩
  simp (implicitDefEqProofs := false) [-getElem?_pos, -getElem?_neg, Try.f31, jK17]
theorem inj_laws_heldIntS : ∀ a b, arg_laws_heldIntS a = arg_laws_heldIntS b → a = b := by
  rintro ⟨x0, x1⟩ ⟨y0, y1⟩ h; simp [arg_laws_heldIntS] at h; simp [Prod.ext_iff, h]
noncomputable def F_laws_heldIntS : Con := nilfix [[some 3], [none]] (pcon arg_laws_heldIntS (fun a => p_laws_heldIntS a.1 a.2) res_laws_heldIntS)
theorem fn_laws_heldIntS : Fn Try.prog 31 F_laws_heldIntS := (Fn.pure cal_laws_heldIntS (fun k w0 h0 => ok_laws_heldIntS k w0 h0) mixed Try.func31 rfl rfl (by kernel_rfl) 2 (by decide) (fun _ => rfl) lm_laws_heldIntS (fun a b h => t_laws_heldIntS h)).nilfix _
theorem c_laws_heldIntS {a0 : List (Int)} {a1 : Int} {r : Int} (h : p_laws_heldIntS a0 a1 = some r) : F_laws_heldIntS [.one (.sl false 3 (List.map cI a0)), .one (.lit (.int .i64 a1))] = some (((false, [none]), [.lit (.int .i64 r)])) := pcon_at (arg := arg_laws_heldIntS) (p := fun a => p_laws_heldIntS a.1 a.2) (res := res_laws_heldIntS) (a := (a0, a1)) (b := r) inj_laws_heldIntS h
noncomputable def cal_laws_heldIntSS (k : Nat) : Cal := calI (tabOf [(31, F_laws_heldIntS)]) (inlOf [])
@[simp] theorem cal_laws_heldIntSS_ap (k g : Nat) (vs : List TV) (mem : Mem) (ep : Nat) : cal_laws_heldIntSS k g vs mem ep = calI (tabOf [(31, F_laws_heldIntS)]) (inlOf []) g vs mem ep := rfl
theorem ok_laws_heldIntSS (k : Nat) (w0 : World) (h0 : True) : CalOk Try.prog w0.heap.size w0 (cal_laws_heldIntSS k) := by
  exact calI_ok (J := fun _ => True) stab_true (tabOf_ok _ (by simp [fn_laws_heldIntS])) (inlOf_ok _ (by simp [])) h0
@[simp] def lm_laws_heldIntSS : Nat → List Nat × Nat := fun b => if b = 0 then ([0, 1, 5], 0) else if b = 2000000 then ([], 8888888) else if b = 3000000 then ([1], 0) else ([], 0)
@[simp] def arg_laws_heldIntSS (a : List (List (Int)) × Int) : List TV := [.one (.sl false 48 (List.map (cL48 false) a.1)), .one (.lit (.int .i64 a.2))]
@[simp] def res_laws_heldIntSS (r : Int) : Sh × List V := ((false, [none]), [.lit (.int .i64 r)])
def p_laws_heldIntSS_L0 (a0 : List (List (Int))) (x1b0 : Int) (x5b0 : Int) : Option (Int ⊕ Int) :=
 if x5b0 < (a0.length : Int) then
  if 0 ≤ x5b0 then
   a0[x5b0.toNat]? >>= fun y16 =>
   p_laws_heldIntS y16 x1b0 >>= fun y19 =>
   if y19 < 0 then
    some (.inl (-1))
   else
    p_laws_heldIntSS_L0 a0 y19 (IntKind.wrap .i64 (x5b0 + 1))
  else none
 else
  some (.inr x1b0)
partial_fixpoint
@[simp] noncomputable def L_laws_heldIntSS_L0 : Code := nav [1, 0, 1, 0, 0] (bodyOf Try.f59)
@[simp] def T_laws_heldIntSS_L0 (a0 : List (List (Int))) (x1b0 : Int) (x5b0 : Int) (st : Nat → Nat) : St := ⟨[(0, .one (.sl false 48 (List.map (cL48 false) a0))), (1, .one (.lit (.int .i64 x1b0))), (5, .one (.lit (.int .i64 x5b0)))], [none], (st 0)⟩
@[simp] def U_laws_heldIntSS_L0 (a0 : List (List (Int))) (o : Int) (st : Nat → Nat) : St := ⟨[(1, .one (.lit (.int .i64 o)))], [none], (st 0)⟩
abbrev Q_laws_heldIntSS_L0 (a0 : List (List (Int))) (x1b0 : Int) (x5b0 : Int) (o : Int ⊕ Int) : Prop := ∀ st : Nat → Nat, LoopT Try.prog cal_laws_heldIntSS 1 lm_laws_heldIntSS 0 L_laws_heldIntSS_L0 (tellS Try.prog lm_laws_heldIntSS [.tmp 4]) res_laws_heldIntSS (U_laws_heldIntSS_L0 a0) (T_laws_heldIntSS_L0 a0 x1b0 x5b0 st) o
theorem l_laws_heldIntSS_L0 {a0 : List (List (Int))} {x1b0 : Int} {x5b0 : Int} {o : Int ⊕ Int} (h : p_laws_heldIntSS_L0 a0 x1b0 x5b0 = some o) : Q_laws_heldIntSS_L0 a0 x1b0 x5b0 o := by
  refine p_laws_heldIntSS_L0.partial_correctness a0 (motive := fun x1b0 x5b0 o => Q_laws_heldIntSS_L0 a0 x1b0 x5b0 o) ?_ x1b0 x5b0 o h
  clear h o x1b0 x5b0
  intro p' ih x1b0 x5b0 r h st
  rcases ifc h with ⟨h14, h⟩ | ⟨h14, h⟩
  · obtain ⟨h15, h⟩ := ifg h
    obtain ⟨y16, h17, h⟩ := bd h
    obtain ⟨y19, h18, h⟩ := bd h
    have h18c := c_laws_heldIntS h18
    rcases ifc h with ⟨h20, h⟩ | ⟨h20, h⟩
    · obtain rfl := Option.some.inj h
      exact LoopT.ret 0 (fun k hk => by simp (implicitDefEqProofs := false) [-getElem?_pos, -getElem?_neg, Try.f59, h14, h15, h17, h18c, h20])
    exact LoopT.step 0 (fun k hk => by simp (implicitDefEqProofs := false) [-getElem?_pos, -getElem?_neg, Try.f59, h14, h15, h17, h18c, h20]) (ih _ _ _ h (sl [((st 0) + 1)]))
  obtain rfl := Option.some.inj h
  exact LoopT.exit (sl [(st 0)]) 0 (fun k hk => by simp (implicitDefEqProofs := false) [-getElem?_pos, -getElem?_neg, Try.f59, h14])
def p_laws_heldIntSS (a0 : List (List (Int))) (a1 : Int) : Option Int :=
 p_laws_heldIntSS_L0 a0 a1 0 >>= fun o22 => match o22 with
 | .inl o22 =>
  some o22
 | .inr o22 =>
  some o22
theorem t_laws_heldIntSS {a0 : List (List (Int))} {a1 : Int} {r : Int} (h : p_laws_heldIntSS a0 a1 = some r) : ∃ k, told Try.prog (cal_laws_heldIntSS k) k lm_laws_heldIntSS Try.f59 (arg_laws_heldIntSS (a0, a1)) = some (res_laws_heldIntSS r) := by
  unfold p_laws_heldIntSS at h
  obtain ⟨o22, h21, h⟩ := bd h
  have qK23 := l_laws_heldIntSS_L0 h21 (sl [1])
  rcases o22 with o22 | o22
  · obtain ⟨K23, qK23⟩ := qK23
    obtain rfl := Option.some.inj h
    obtain ⟨k, hk⟩ : ∃ k, K23 ≤ k := ⟨_, Nat.le_refl _⟩
    obtain ⟨S_K23, jK23, iK23⟩ := qK23 k (by omega) k (by omega)
    simp (implicitDefEqProofs := false) [-getElem?_pos, -getElem?_neg, Try.f59] at jK23
    refine ⟨k, ?_⟩
    simp (implicitDefEqProofs := false) [-getElem?_pos, -getElem?_neg, Try.f59, iK23, jK23]
  obtain ⟨s24, K23, qK23⟩ := qK23
  obtain rfl := Option.some.inj h
  obtain ⟨k, hk⟩ : ∃ k, K23 ≤ k := ⟨_, Nat.le_refl _⟩
  have jK23 := qK23 k (by omega) k (by omega)
  simp (implicitDefEqProofs := false) [-getElem?_pos, -getElem?_neg, Try.f59] at jK23
  refine ⟨k, ?_⟩
  simp (implicitDefEqProofs := false) [-getElem?_pos, -getElem?_neg, Try.f59, jK23]
theorem inj_laws_heldIntSS : ∀ a b, arg_laws_heldIntSS a = arg_laws_heldIntSS b → a = b := by
  rintro ⟨x0, x1⟩ ⟨y0, y1⟩ h; simp [arg_laws_heldIntSS] at h; simp [Prod.ext_iff, h]
noncomputable def F_laws_heldIntSS : Con := nilfix [[some 48], [none]] (pcon arg_laws_heldIntSS (fun a => p_laws_heldIntSS a.1 a.2) res_laws_heldIntSS)
theorem fn_laws_heldIntSS : Fn Try.prog 59 F_laws_heldIntSS := (Fn.pure cal_laws_heldIntSS (fun k w0 h0 => ok_laws_heldIntSS k w0 h0) mixed Try.func59 rfl rfl (by kernel_rfl) 2 (by decide) (fun _ => rfl) lm_laws_heldIntSS (fun a b h => t_laws_heldIntSS h)).nilfix _
theorem c_laws_heldIntSS {a0 : List (List (Int))} {a1 : Int} {r : Int} (h : p_laws_heldIntSS a0 a1 = some r) : F_laws_heldIntSS [.one (.sl false 48 (List.map (cL48 false) a0)), .one (.lit (.int .i64 a1))] = some (((false, [none]), [.lit (.int .i64 r)])) := pcon_at (arg := arg_laws_heldIntSS) (p := fun a => p_laws_heldIntSS a.1 a.2) (res := res_laws_heldIntSS) (a := (a0, a1)) (b := r) inj_laws_heldIntSS h
noncomputable def cal_laws_heldIntSSS (k : Nat) : Cal := calI (tabOf [(59, F_laws_heldIntSS)]) (inlOf [])
@[simp] theorem cal_laws_heldIntSSS_ap (k g : Nat) (vs : List TV) (mem : Mem) (ep : Nat) : cal_laws_heldIntSSS k g vs mem ep = calI (tabOf [(59, F_laws_heldIntSS)]) (inlOf []) g vs mem ep := rfl
theorem ok_laws_heldIntSSS (k : Nat) (w0 : World) (h0 : True) : CalOk Try.prog w0.heap.size w0 (cal_laws_heldIntSSS k) := by
  exact calI_ok (J := fun _ => True) stab_true (tabOf_ok _ (by simp [fn_laws_heldIntSS])) (inlOf_ok _ (by simp [])) h0
@[simp] def lm_laws_heldIntSSS : Nat → List Nat × Nat := fun b => if b = 0 then ([0, 1, 5], 0) else if b = 2000000 then ([], 8888888) else if b = 3000000 then ([1], 0) else ([], 0)
@[simp] def arg_laws_heldIntSSS (a : List (List (List (Int))) × Int) : List TV := [.one (.sl false 60 (List.map (cL60 false) a.1)), .one (.lit (.int .i64 a.2))]
@[simp] def res_laws_heldIntSSS (r : Int) : Sh × List V := ((false, [none]), [.lit (.int .i64 r)])
def p_laws_heldIntSSS_L0 (a0 : List (List (List (Int)))) (x1b0 : Int) (x5b0 : Int) : Option (Int ⊕ Int) :=
 if x5b0 < (a0.length : Int) then
  if 0 ≤ x5b0 then
   a0[x5b0.toNat]? >>= fun y16 =>
   p_laws_heldIntSS y16 x1b0 >>= fun y19 =>
   if y19 < 0 then
    some (.inl (-1))
   else
    p_laws_heldIntSSS_L0 a0 y19 (IntKind.wrap .i64 (x5b0 + 1))
  else none
 else
  some (.inr x1b0)
partial_fixpoint
@[simp] noncomputable def L_laws_heldIntSSS_L0 : Code := nav [1, 0, 1, 0, 0] (bodyOf Try.f48)
@[simp] def T_laws_heldIntSSS_L0 (a0 : List (List (List (Int)))) (x1b0 : Int) (x5b0 : Int) (st : Nat → Nat) : St := ⟨[(0, .one (.sl false 60 (List.map (cL60 false) a0))), (1, .one (.lit (.int .i64 x1b0))), (5, .one (.lit (.int .i64 x5b0)))], [none], (st 0)⟩
@[simp] def U_laws_heldIntSSS_L0 (a0 : List (List (List (Int)))) (o : Int) (st : Nat → Nat) : St := ⟨[(1, .one (.lit (.int .i64 o)))], [none], (st 0)⟩
abbrev Q_laws_heldIntSSS_L0 (a0 : List (List (List (Int)))) (x1b0 : Int) (x5b0 : Int) (o : Int ⊕ Int) : Prop := ∀ st : Nat → Nat, LoopT Try.prog cal_laws_heldIntSSS 1 lm_laws_heldIntSSS 0 L_laws_heldIntSSS_L0 (tellS Try.prog lm_laws_heldIntSSS [.tmp 4]) res_laws_heldIntSSS (U_laws_heldIntSSS_L0 a0) (T_laws_heldIntSSS_L0 a0 x1b0 x5b0 st) o
theorem l_laws_heldIntSSS_L0 {a0 : List (List (List (Int)))} {x1b0 : Int} {x5b0 : Int} {o : Int ⊕ Int} (h : p_laws_heldIntSSS_L0 a0 x1b0 x5b0 = some o) : Q_laws_heldIntSSS_L0 a0 x1b0 x5b0 o := by
  refine p_laws_heldIntSSS_L0.partial_correctness a0 (motive := fun x1b0 x5b0 o => Q_laws_heldIntSSS_L0 a0 x1b0 x5b0 o) ?_ x1b0 x5b0 o h
  clear h o x1b0 x5b0
  intro p' ih x1b0 x5b0 r h st
  rcases ifc h with ⟨h14, h⟩ | ⟨h14, h⟩
  · obtain ⟨h15, h⟩ := ifg h
    obtain ⟨y16, h17, h⟩ := bd h
    obtain ⟨y19, h18, h⟩ := bd h
    have h18c := c_laws_heldIntSS h18
    rcases ifc h with ⟨h20, h⟩ | ⟨h20, h⟩
    · obtain rfl := Option.some.inj h
      exact LoopT.ret 0 (fun k hk => by simp (implicitDefEqProofs := false) [-getElem?_pos, -getElem?_neg, Try.f48, h14, h15, h17, h18c, h20])
    exact LoopT.step 0 (fun k hk => by simp (implicitDefEqProofs := false) [-getElem?_pos, -getElem?_neg, Try.f48, h14, h15, h17, h18c, h20]) (ih _ _ _ h (sl [((st 0) + 1)]))
  obtain rfl := Option.some.inj h
  exact LoopT.exit (sl [(st 0)]) 0 (fun k hk => by simp (implicitDefEqProofs := false) [-getElem?_pos, -getElem?_neg, Try.f48, h14])
def p_laws_heldIntSSS (a0 : List (List (List (Int)))) (a1 : Int) : Option Int :=
 p_laws_heldIntSSS_L0 a0 a1 0 >>= fun o22 => match o22 with
 | .inl o22 =>
  some o22
 | .inr o22 =>
  some o22
theorem t_laws_heldIntSSS {a0 : List (List (List (Int)))} {a1 : Int} {r : Int} (h : p_laws_heldIntSSS a0 a1 = some r) : ∃ k, told Try.prog (cal_laws_heldIntSSS k) k lm_laws_heldIntSSS Try.f48 (arg_laws_heldIntSSS (a0, a1)) = some (res_laws_heldIntSSS r) := by
  unfold p_laws_heldIntSSS at h
  obtain ⟨o22, h21, h⟩ := bd h
  have qK23 := l_laws_heldIntSSS_L0 h21 (sl [1])
  rcases o22 with o22 | o22
  · obtain ⟨K23, qK23⟩ := qK23
    obtain rfl := Option.some.inj h
    obtain ⟨k, hk⟩ : ∃ k, K23 ≤ k := ⟨_, Nat.le_refl _⟩
    obtain ⟨S_K23, jK23, iK23⟩ := qK23 k (by omega) k (by omega)
    simp (implicitDefEqProofs := false) [-getElem?_pos, -getElem?_neg, Try.f48] at jK23
    refine ⟨k, ?_⟩
    simp (implicitDefEqProofs := false) [-getElem?_pos, -getElem?_neg, Try.f48, iK23, jK23]
  obtain ⟨s24, K23, qK23⟩ := qK23
  obtain rfl := Option.some.inj h
  obtain ⟨k, hk⟩ : ∃ k, K23 ≤ k := ⟨_, Nat.le_refl _⟩
  have jK23 := qK23 k (by omega) k (by omega)
  simp (implicitDefEqProofs := false) [-getElem?_pos, -getElem?_neg, Try.f48] at jK23
  refine ⟨k, ?_⟩
  simp (implicitDefEqProofs := false) [-getElem?_pos, -getElem?_neg, Try.f48, jK23]
theorem inj_laws_heldIntSSS : ∀ a b, arg_laws_heldIntSSS a = arg_laws_heldIntSSS b → a = b := by
  rintro ⟨x0, x1⟩ ⟨y0, y1⟩ h; simp [arg_laws_heldIntSSS] at h; simp [Prod.ext_iff, h]
noncomputable def F_laws_heldIntSSS : Con := nilfix [[some 60], [none]] (pcon arg_laws_heldIntSSS (fun a => p_laws_heldIntSSS a.1 a.2) res_laws_heldIntSSS)
theorem fn_laws_heldIntSSS : Fn Try.prog 48 F_laws_heldIntSSS := (Fn.pure cal_laws_heldIntSSS (fun k w0 h0 => ok_laws_heldIntSSS k w0 h0) mixed Try.func48 rfl rfl (by kernel_rfl) 2 (by decide) (fun _ => rfl) lm_laws_heldIntSSS (fun a b h => t_laws_heldIntSSS h)).nilfix _
theorem c_laws_heldIntSSS {a0 : List (List (List (Int)))} {a1 : Int} {r : Int} (h : p_laws_heldIntSSS a0 a1 = some r) : F_laws_heldIntSSS [.one (.sl false 60 (List.map (cL60 false) a0)), .one (.lit (.int .i64 a1))] = some (((false, [none]), [.lit (.int .i64 r)])) := pcon_at (arg := arg_laws_heldIntSSS) (p := fun a => p_laws_heldIntSSS a.1 a.2) (res := res_laws_heldIntSSS) (a := (a0, a1)) (b := r) inj_laws_heldIntSSS h
noncomputable def cal_laws_heldGram (k : Nat) : Cal := calI (tabOf [(48, F_laws_heldIntSSS)]) (inlOf [])
@[simp] theorem cal_laws_heldGram_ap (k g : Nat) (vs : List TV) (mem : Mem) (ep : Nat) : cal_laws_heldGram k g vs mem ep = calI (tabOf [(48, F_laws_heldIntSSS)]) (inlOf []) g vs mem ep := rfl
theorem ok_laws_heldGram (k : Nat) (w0 : World) (h0 : True) : CalOk Try.prog w0.heap.size w0 (cal_laws_heldGram k) := by
  exact calI_ok (J := fun _ => True) stab_true (tabOf_ok _ (by simp [fn_laws_heldIntSSS])) (inlOf_ok _ (by simp [])) h0
@[simp] def lm_laws_heldGram : Nat → List Nat × Nat := fun b => ([], 0)
@[simp] def arg_laws_heldGram (a : List (List (List (Int))) × Int) : List TV := [.agg [.sl false 60 (List.map (cL60 false) a.1)], .one (.lit (.int .i64 a.2))]
@[simp] def res_laws_heldGram (r : Int) : Sh × List V := ((false, [none]), [.lit (.int .i64 r)])
def p_laws_heldGram (a0 : List (List (List (Int)))) (a1 : Int) : Option Int :=
 p_laws_heldIntSSS a0 a1 >>= fun y2 =>
 if y2 < 0 then
  some (-1)
 else
  some y2
theorem t_laws_heldGram {a0 : List (List (List (Int)))} {a1 : Int} {r : Int} (h : p_laws_heldGram a0 a1 = some r) : ∃ k, told Try.prog (cal_laws_heldGram k) k lm_laws_heldGram Try.f26 (arg_laws_heldGram (a0, a1)) = some (res_laws_heldGram r) := by
  unfold p_laws_heldGram at h
  obtain ⟨y2, h1, h⟩ := bd h
  have h1c := c_laws_heldIntSSS h1
  rcases ifc h with ⟨h3, h⟩ | ⟨h3, h⟩
  · obtain rfl := Option.some.inj h
    obtain ⟨k, hk⟩ : ∃ k, 0 ≤ k := ⟨_, Nat.le_refl _⟩
    refine ⟨k, ?_⟩
    simp (implicitDefEqProofs := false) [-getElem?_pos, -getElem?_neg, Try.f26, h1c, h3]
  obtain rfl := Option.some.inj h
  obtain ⟨k, hk⟩ : ∃ k, 0 ≤ k := ⟨_, Nat.le_refl _⟩
  refine ⟨k, ?_⟩
  simp (implicitDefEqProofs := false) [-getElem?_pos, -getElem?_neg, Try.f26, h1c, h3]
theorem inj_laws_heldGram : ∀ a b, arg_laws_heldGram a = arg_laws_heldGram b → a = b := by
  rintro ⟨x0, x1⟩ ⟨y0, y1⟩ h; simp [arg_laws_heldGram] at h; simp [Prod.ext_iff, h]
noncomputable def F_laws_heldGram : Con := nilfix [[some 60], [none]] (pcon arg_laws_heldGram (fun a => p_laws_heldGram a.1 a.2) res_laws_heldGram)
theorem fn_laws_heldGram : Fn Try.prog 26 F_laws_heldGram := (Fn.pure cal_laws_heldGram (fun k w0 h0 => ok_laws_heldGram k w0 h0) mixed Try.func26 rfl rfl (by kernel_rfl) 2 (by decide) (fun _ => rfl) lm_laws_heldGram (fun a b h => t_laws_heldGram h)).nilfix _
theorem c_laws_heldGram {a0 : List (List (List (Int)))} {a1 : Int} {r : Int} (h : p_laws_heldGram a0 a1 = some r) : F_laws_heldGram [.agg [.sl false 60 (List.map (cL60 false) a0)], .one (.lit (.int .i64 a1))] = some (((false, [none]), [.lit (.int .i64 r)])) := pcon_at (arg := arg_laws_heldGram) (p := fun a => p_laws_heldGram a.1 a.2) (res := res_laws_heldGram) (a := (a0, a1)) (b := r) inj_laws_heldGram h
end Go.Proofs.Ytmkpoldhgdbjiaa.Vm

/-
  Functions of the program as plain Lean ones, and that the model does as they say. Written by a program of mine (gen.py).
-/
import Derived.Test.YtanglbgincgmaaaVmGa
namespace Go.Proofs.Ytanglbgincgmaaa.Vm
open Go Go.RowKit Go.Proofs
set_option linter.unusedVariables false
set_option linter.unusedSimpArgs false
set_option maxHeartbeats 8000000
def cal_impl_inRange (k : Nat) : Cal := calI (tabOf []) (inlOf [])
@[simp] theorem cal_impl_inRange_ap (k g : Nat) (vs : List TV) (mem : Mem) (ep : Nat) : cal_impl_inRange k g vs mem ep = calI (tabOf []) (inlOf []) g vs mem ep := rfl
theorem ok_impl_inRange (k : Nat) (w0 : World) (h0 : True) : CalOk Try.prog w0.heap.size w0 (cal_impl_inRange k) := by
  exact calI_ok (J := fun _ => True) stab_true (tabOf_ok _ (by simp [])) (inlOf_ok _ (by simp [])) h0
@[simp] def lm_impl_inRange : Nat → List Nat × Nat := fun b => ([], 0)
@[simp] def arg_impl_inRange (a : Int × Int × Int) : List TV := [.one (.lit (.int .i64 a.1)), .one (.lit (.int .i64 a.2.1)), .one (.lit (.int .i64 a.2.2))]
@[simp] def res_impl_inRange (r : Bool) : Sh × List V := ((false, [none]), [.lit (.bool r)])
def p_impl_inRange (a0 : Int) (a1 : Int) (a2 : Int) : Option Bool :=
 if a1 ≤ a0 then
  some (decide (a0 ≤ a2))
 else
  some false
theorem t_impl_inRange {a0 : Int} {a1 : Int} {a2 : Int} {r : Bool} (h : p_impl_inRange a0 a1 a2 = some r) : ∃ k, told Try.prog (cal_impl_inRange k) k lm_impl_inRange Try.f55 (arg_impl_inRange (a0, a1, a2)) = some (res_impl_inRange r) := by
  unfold p_impl_inRange at h
  rcases ifc h with ⟨h1, h⟩ | ⟨h1, h⟩
  · obtain rfl := Option.some.inj h
    obtain ⟨k, hk⟩ : ∃ k, 0 ≤ k := ⟨_, Nat.le_refl _⟩
    refine ⟨k, ?_⟩
    simp (implicitDefEqProofs := false) [-getElem?_pos, -getElem?_neg, Try.f55, h1]
  obtain rfl := Option.some.inj h
  obtain ⟨k, hk⟩ : ∃ k, 0 ≤ k := ⟨_, Nat.le_refl _⟩
  refine ⟨k, ?_⟩
  simp (implicitDefEqProofs := false) [-getElem?_pos, -getElem?_neg, Try.f55, h1]
theorem inj_impl_inRange : ∀ a b, arg_impl_inRange a = arg_impl_inRange b → a = b := by
  rintro ⟨x0, x1, x2⟩ ⟨y0, y1, y2⟩ h; simp [arg_impl_inRange] at h; simp [Prod.ext_iff, h]
noncomputable def F_impl_inRange : Con := nilfix [] (pcon arg_impl_inRange (fun a => p_impl_inRange a.1 a.2.1 a.2.2) res_impl_inRange)
theorem fn_impl_inRange : Fn Try.prog 55 F_impl_inRange := (Fn.pure cal_impl_inRange (fun k w0 h0 => ok_impl_inRange k w0 h0) mixed Try.func55 rfl rfl (by kernel_rfl) 3 (by decide) (fun _ => rfl) lm_impl_inRange (fun a b h => t_impl_inRange h)).nilfix _
theorem c_impl_inRange {a0 : Int} {a1 : Int} {a2 : Int} {r : Bool} (h : p_impl_inRange a0 a1 a2 = some r) : F_impl_inRange [.one (.lit (.int .i64 a0)), .one (.lit (.int .i64 a1)), .one (.lit (.int .i64 a2))] = some (((false, [none]), [.lit (.bool r)])) := pcon_at (arg := arg_impl_inRange) (p := fun a => p_impl_inRange a.1 a.2.1 a.2.2) (res := res_impl_inRange) (a := (a0, a1, a2)) (b := r) inj_impl_inRange h
noncomputable def cal_impl_isPart (k : Nat) : Cal := calI (tabOf [(55, F_impl_inRange)]) (inlOf [])
@[simp] theorem cal_impl_isPart_ap (k g : Nat) (vs : List TV) (mem : Mem) (ep : Nat) : cal_impl_isPart k g vs mem ep = calI (tabOf [(55, F_impl_inRange)]) (inlOf []) g vs mem ep := rfl
theorem ok_impl_isPart (k : Nat) (w0 : World) (h0 : True) : CalOk Try.prog w0.heap.size w0 (cal_impl_isPart k) := by
  exact calI_ok (J := fun _ => True) stab_true (tabOf_ok _ (by simp [fn_impl_inRange])) (inlOf_ok _ (by simp [])) h0
@[simp] def lm_impl_isPart : Nat → List Nat × Nat := fun b => ([], 0)
@[simp] def arg_impl_isPart (a : L3 × Int) : List TV := [.agg [.sl false 38 (List.map (cL38 false) a.1)], .one (.lit (.int .i64 a.2))]
@[simp] def res_impl_isPart (r : Bool) : Sh × List V := ((false, [none]), [.lit (.bool r)])
def p_impl_isPart (a0 : L3) (a1 : Int) : Option Bool :=
 p_impl_inRange a1 0 (IntKind.wrap .i64 ((a0.length : Int) - 1)) >>= fun y2 =>
 some y2
theorem t_impl_isPart {a0 : L3} {a1 : Int} {r : Bool} (h : p_impl_isPart a0 a1 = some r) : ∃ k, told Try.prog (cal_impl_isPart k) k lm_impl_isPart Try.f33 (arg_impl_isPart (a0, a1)) = some (res_impl_isPart r) := by
  unfold p_impl_isPart at h
  obtain ⟨y2, h1, h⟩ := bd h
  have h1c := c_impl_inRange h1
  try simp (implicitDefEqProofs := false) [-getElem?_pos, -getElem?_neg] at h1c
  obtain rfl := Option.some.inj h
  obtain ⟨k, hk⟩ : ∃ k, 0 ≤ k := ⟨_, Nat.le_refl _⟩
  refine ⟨k, ?_⟩
  simp (implicitDefEqProofs := false) [-getElem?_pos, -getElem?_neg, Try.f33, h1c]
theorem inj_impl_isPart : ∀ a b, arg_impl_isPart a = arg_impl_isPart b → a = b := by
  rintro ⟨x0, x1⟩ ⟨y0, y1⟩ h; simp [arg_impl_isPart] at h; simp [Prod.ext_iff, h]
noncomputable def F_impl_isPart : Con := nilfix [[some 38], [none]] (pcon arg_impl_isPart (fun a => p_impl_isPart a.1 a.2) res_impl_isPart)
theorem fn_impl_isPart : Fn Try.prog 33 F_impl_isPart := (Fn.pure cal_impl_isPart (fun k w0 h0 => ok_impl_isPart k w0 h0) mixed Try.func33 rfl rfl (by kernel_rfl) 2 (by decide) (fun _ => rfl) lm_impl_isPart (fun a b h => t_impl_isPart h)).nilfix _
theorem c_impl_isPart {a0 : L3} {a1 : Int} {r : Bool} (h : p_impl_isPart a0 a1 = some r) : F_impl_isPart [.agg [.sl false 38 (List.map (cL38 false) a0)], .one (.lit (.int .i64 a1))] = some (((false, [none]), [.lit (.bool r)])) := pcon_at (arg := arg_impl_isPart) (p := fun a => p_impl_isPart a.1 a.2) (res := res_impl_isPart) (a := (a0, a1)) (b := r) inj_impl_isPart h
noncomputable def cal_impl_isLetter (k : Nat) : Cal := calI (tabOf [(55, F_impl_inRange)]) (inlOf [])
@[simp] theorem cal_impl_isLetter_ap (k g : Nat) (vs : List TV) (mem : Mem) (ep : Nat) : cal_impl_isLetter k g vs mem ep = calI (tabOf [(55, F_impl_inRange)]) (inlOf []) g vs mem ep := rfl
theorem ok_impl_isLetter (k : Nat) (w0 : World) (h0 : True) : CalOk Try.prog w0.heap.size w0 (cal_impl_isLetter k) := by
  exact calI_ok (J := fun _ => True) stab_true (tabOf_ok _ (by simp [fn_impl_inRange])) (inlOf_ok _ (by simp [])) h0
@[simp] def lm_impl_isLetter : Nat → List Nat × Nat := fun b => ([], 0)
@[simp] def arg_impl_isLetter (a : Int) : List TV := [.one (.lit (.int .i64 a))]
@[simp] def res_impl_isLetter (r : Bool) : Sh × List V := ((false, [none]), [.lit (.bool r)])
def p_impl_isLetter (a0 : Int) : Option Bool :=
 p_impl_inRange a0 0 25 >>= fun y2 =>
 some y2
theorem t_impl_isLetter {a0 : Int} {r : Bool} (h : p_impl_isLetter a0 = some r) : ∃ k, told Try.prog (cal_impl_isLetter k) k lm_impl_isLetter Try.f92 (arg_impl_isLetter a0) = some (res_impl_isLetter r) := by
  unfold p_impl_isLetter at h
  obtain ⟨y2, h1, h⟩ := bd h
  have h1c := c_impl_inRange h1
  obtain rfl := Option.some.inj h
  obtain ⟨k, hk⟩ : ∃ k, 0 ≤ k := ⟨_, Nat.le_refl _⟩
  refine ⟨k, ?_⟩
  simp (implicitDefEqProofs := false) [-getElem?_pos, -getElem?_neg, Try.f92, h1c]
theorem inj_impl_isLetter : ∀ a b, arg_impl_isLetter a = arg_impl_isLetter b → a = b := by
  intro x y h; simp [arg_impl_isLetter] at h; simp [Prod.ext_iff, h]
noncomputable def F_impl_isLetter : Con := nilfix [] (pcon arg_impl_isLetter (fun a => p_impl_isLetter a) res_impl_isLetter)
theorem fn_impl_isLetter : Fn Try.prog 92 F_impl_isLetter := (Fn.pure cal_impl_isLetter (fun k w0 h0 => ok_impl_isLetter k w0 h0) mixed Try.func92 rfl rfl (by kernel_rfl) 1 (by decide) (fun _ => rfl) lm_impl_isLetter (fun a b h => t_impl_isLetter h)).nilfix _
theorem c_impl_isLetter {a0 : Int} {r : Bool} (h : p_impl_isLetter a0 = some r) : F_impl_isLetter [.one (.lit (.int .i64 a0))] = some (((false, [none]), [.lit (.bool r)])) := pcon_at (arg := arg_impl_isLetter) (p := fun a => p_impl_isLetter a) (res := res_impl_isLetter) (a := a0) (b := r) inj_impl_isLetter h
noncomputable def cal_impl_isSymbol (k : Nat) : Cal := calI (tabOf [(33, F_impl_isPart), (92, F_impl_isLetter)]) (inlOf [])
@[simp] theorem cal_impl_isSymbol_ap (k g : Nat) (vs : List TV) (mem : Mem) (ep : Nat) : cal_impl_isSymbol k g vs mem ep = calI (tabOf [(33, F_impl_isPart), (92, F_impl_isLetter)]) (inlOf []) g vs mem ep := rfl
theorem ok_impl_isSymbol (k : Nat) (w0 : World) (h0 : True) : CalOk Try.prog w0.heap.size w0 (cal_impl_isSymbol k) := by
  exact calI_ok (J := fun _ => True) stab_true (tabOf_ok _ (by simp [fn_impl_isPart, fn_impl_isLetter])) (inlOf_ok _ (by simp [])) h0
@[simp] def lm_impl_isSymbol : Nat → List Nat × Nat := fun b => ([], 0)
@[simp] def arg_impl_isSymbol (a : L3 × Int) : List TV := [.agg [.sl false 38 (List.map (cL38 false) a.1)], .one (.lit (.int .i64 a.2))]
@[simp] def res_impl_isSymbol (r : Bool) : Sh × List V := ((false, [none]), [.lit (.bool r)])
def p_impl_isSymbol (a0 : L3) (a1 : Int) : Option Bool :=
 p_impl_isLetter a1 >>= fun y2 =>
 if y2 then
  some true
 else
  if 100 ≤ a1 then
   p_impl_isPart a0 (IntKind.wrap .i64 (a1 - 100)) >>= fun y6 =>
   some y6
  else
   some false
theorem t_impl_isSymbol {a0 : L3} {a1 : Int} {r : Bool} (h : p_impl_isSymbol a0 a1 = some r) : ∃ k, told Try.prog (cal_impl_isSymbol k) k lm_impl_isSymbol Try.f86 (arg_impl_isSymbol (a0, a1)) = some (res_impl_isSymbol r) := by
  unfold p_impl_isSymbol at h
  obtain ⟨y2, h1, h⟩ := bd h
  have h1c := c_impl_isLetter h1
  rcases ifb h with ⟨h3, h⟩ | ⟨h3, h⟩
  · obtain rfl := Option.some.inj h
    obtain ⟨k, hk⟩ : ∃ k, 0 ≤ k := ⟨_, Nat.le_refl _⟩
    refine ⟨k, ?_⟩
    simp (implicitDefEqProofs := false) [-getElem?_pos, -getElem?_neg, Try.f86, h1c, h3]
  rcases ifc h with ⟨h4, h⟩ | ⟨h4, h⟩
  · obtain ⟨y6, h5, h⟩ := bd h
    have h5c := c_impl_isPart h5
    try simp (implicitDefEqProofs := false) [-getElem?_pos, -getElem?_neg] at h5c
    obtain rfl := Option.some.inj h
    obtain ⟨k, hk⟩ : ∃ k, 0 ≤ k := ⟨_, Nat.le_refl _⟩
    refine ⟨k, ?_⟩
    simp (implicitDefEqProofs := false) [-getElem?_pos, -getElem?_neg, Try.f86, h1c, h3, h4, h5c]
  obtain rfl := Option.some.inj h
  obtain ⟨k, hk⟩ : ∃ k, 0 ≤ k := ⟨_, Nat.le_refl _⟩
  refine ⟨k, ?_⟩
  simp (implicitDefEqProofs := false) [-getElem?_pos, -getElem?_neg, Try.f86, h1c, h3, h4]
theorem inj_impl_isSymbol : ∀ a b, arg_impl_isSymbol a = arg_impl_isSymbol b → a = b := by
  rintro ⟨x0, x1⟩ ⟨y0, y1⟩ h; simp [arg_impl_isSymbol] at h; simp [Prod.ext_iff, h]
noncomputable def F_impl_isSymbol : Con := nilfix [[some 38], [none]] (pcon arg_impl_isSymbol (fun a => p_impl_isSymbol a.1 a.2) res_impl_isSymbol)
theorem fn_impl_isSymbol : Fn Try.prog 86 F_impl_isSymbol := (Fn.pure cal_impl_isSymbol (fun k w0 h0 => ok_impl_isSymbol k w0 h0) mixed Try.func86 rfl rfl (by kernel_rfl) 2 (by decide) (fun _ => rfl) lm_impl_isSymbol (fun a b h => t_impl_isSymbol h)).nilfix _
theorem c_impl_isSymbol {a0 : L3} {a1 : Int} {r : Bool} (h : p_impl_isSymbol a0 a1 = some r) : F_impl_isSymbol [.agg [.sl false 38 (List.map (cL38 false) a0)], .one (.lit (.int .i64 a1))] = some (((false, [none]), [.lit (.bool r)])) := pcon_at (arg := arg_impl_isSymbol) (p := fun a => p_impl_isSymbol a.1 a.2) (res := res_impl_isSymbol) (a := (a0, a1)) (b := r) inj_impl_isSymbol h
noncomputable def cal_impl_areSymbols (k : Nat) : Cal := calI (tabOf [(86, F_impl_isSymbol)]) (inlOf [])
@[simp] theorem cal_impl_areSymbols_ap (k g : Nat) (vs : List TV) (mem : Mem) (ep : Nat) : cal_impl_areSymbols k g vs mem ep = calI (tabOf [(86, F_impl_isSymbol)]) (inlOf []) g vs mem ep := rfl
theorem ok_impl_areSymbols (k : Nat) (w0 : World) (h0 : True) : CalOk Try.prog w0.heap.size w0 (cal_impl_areSymbols k) := by
  exact calI_ok (J := fun _ => True) stab_true (tabOf_ok _ (by simp [fn_impl_isSymbol])) (inlOf_ok _ (by simp [])) h0
@[simp] def lm_impl_areSymbols : Nat → List Nat × Nat := fun b => if b = 0 then ([2, 7, 8, 9], 1) else if b = 2000000 then ([], 8888888) else if b = 3000000 then ([], 1) else ([], 0)
@[simp] def arg_impl_areSymbols (a : L3 × LI) : List TV := [.agg [.sl false 38 (List.map (cL38 false) a.1)], .one (.sl false 3 (List.map cI a.2))]
@[simp] def res_impl_areSymbols (r : Bool) : Sh × List V := ((false, [none]), [.lit (.bool r)])
def p_impl_areSymbols_L0 (a1 : LI) (a0 : L3) (x9b0 : Int) : Option (Bool ⊕ Unit) :=
 if x9b0 < (a1.length : Int) then
  if 0 ≤ x9b0 then
   a1[x9b0.toNat]? >>= fun y23 =>
   p_impl_isSymbol a0 y23 >>= fun y26 =>
   if y26 then
    p_impl_areSymbols_L0 a1 a0 (IntKind.wrap .i64 (x9b0 + 1))
   else
    some (.inl false)
  else none
 else
  some (.inr ())
partial_fixpoint
@[simp] noncomputable def L_impl_areSymbols_L0 : Code := nav [1, 0, 1, 0, 0] (bodyOf Try.f75)
@[simp] def T_impl_areSymbols_L0 (a1 : LI) (a0 : L3) (x9b0 : Int) (st : Nat → Nat) : St := ⟨[(2, .one (.bp 1 1 0)), (7, .one (.sl false 3 (List.map cI a1))), (8, .one (.lit (.int .i64 (a1.length : Int)))), (9, .one (.lit (.int .i64 x9b0)))], [none, some (.box 1 [.sl false 38 (List.map (cL38 false) a0)])], (st 0)⟩
@[simp] def U_impl_areSymbols_L0 (a1 : LI) (a0 : L3) (o : Unit) (st : Nat → Nat) : St := ⟨[], [none, some (.box 1 [.sl false 38 (List.map (cL38 false) a0)])], (st 0)⟩
abbrev Q_impl_areSymbols_L0 (a1 : LI) (a0 : L3) (x9b0 : Int) (o : Bool ⊕ Unit) : Prop := ∀ st : Nat → Nat, LoopT Try.prog cal_impl_areSymbols 1 lm_impl_areSymbols 0 L_impl_areSymbols_L0 (tellS Try.prog lm_impl_areSymbols [.tmp 4]) res_impl_areSymbols (U_impl_areSymbols_L0 a1 a0) (T_impl_areSymbols_L0 a1 a0 x9b0 st) o
theorem l_impl_areSymbols_L0 {a1 : LI} {a0 : L3} {x9b0 : Int} {o : Bool ⊕ Unit} (h : p_impl_areSymbols_L0 a1 a0 x9b0 = some o) : Q_impl_areSymbols_L0 a1 a0 x9b0 o := by
  refine p_impl_areSymbols_L0.partial_correctness a1 a0 (motive := fun x9b0 o => Q_impl_areSymbols_L0 a1 a0 x9b0 o) ?_ x9b0 o h
  clear h o x9b0
  intro p' ih x9b0 r h st
  rcases ifc h with ⟨h21, h⟩ | ⟨h21, h⟩
  · obtain ⟨h22, h⟩ := ifg h
    obtain ⟨y23, h24, h⟩ := bd h
    obtain ⟨y26, h25, h⟩ := bd h
    have h25c := c_impl_isSymbol h25
    rcases ifb h with ⟨h27, h⟩ | ⟨h27, h⟩
    · exact LoopT.step 0 (fun k hk => by simp (implicitDefEqProofs := false) [-getElem?_pos, -getElem?_neg, Try.f75, h21, h22, h24, h25c, h27]) (ih _ _ h (sl [((st 0) + 1)]))
    obtain rfl := Option.some.inj h
    exact LoopT.ret 0 (fun k hk => by simp (implicitDefEqProofs := false) [-getElem?_pos, -getElem?_neg, Try.f75, h21, h22, h24, h25c, h27])
  obtain rfl := Option.some.inj h
  exact LoopT.exit (sl [(st 0)]) 0 (fun k hk => by simp (implicitDefEqProofs := false) [-getElem?_pos, -getElem?_neg, Try.f75, h21])
def p_impl_areSymbols (a0 : L3) (a1 : LI) : Option Bool :=
 p_impl_areSymbols_L0 a1 a0 0 >>= fun o29 => match o29 with
 | .inl o29 =>
  some o29
 | .inr o29 =>
  some true
theorem t_impl_areSymbols {a0 : L3} {a1 : LI} {r : Bool} (h : p_impl_areSymbols a0 a1 = some r) : ∃ k, told Try.prog (cal_impl_areSymbols k) k lm_impl_areSymbols Try.f75 (arg_impl_areSymbols (a0, a1)) = some (res_impl_areSymbols r) := by
  unfold p_impl_areSymbols at h
  obtain ⟨o29, h28, h⟩ := bd h
  have qK30 := l_impl_areSymbols_L0 h28 (sl [2])
  rcases o29 with o29 | o29
  · obtain ⟨K30, qK30⟩ := qK30
    obtain rfl := Option.some.inj h
    obtain ⟨k, hk⟩ : ∃ k, K30 ≤ k := ⟨_, Nat.le_refl _⟩
    obtain ⟨S_K30, jK30, iK30⟩ := qK30 k (by omega) k (by omega)
    simp (implicitDefEqProofs := false) [-getElem?_pos, -getElem?_neg, Try.f75] at jK30
    refine ⟨k, ?_⟩
    simp (implicitDefEqProofs := false) [-getElem?_pos, -getElem?_neg, Try.f75, iK30, jK30]
  obtain ⟨s31, K30, qK30⟩ := qK30
  obtain rfl := Option.some.inj h
  obtain ⟨k, hk⟩ : ∃ k, K30 ≤ k := ⟨_, Nat.le_refl _⟩
  have jK30 := qK30 k (by omega) k (by omega)
  simp (implicitDefEqProofs := false) [-getElem?_pos, -getElem?_neg, Try.f75] at jK30
  refine ⟨k, ?_⟩
  simp (implicitDefEqProofs := false) [-getElem?_pos, -getElem?_neg, Try.f75, jK30]
theorem inj_impl_areSymbols : ∀ a b, arg_impl_areSymbols a = arg_impl_areSymbols b → a = b := by
  rintro ⟨x0, x1⟩ ⟨y0, y1⟩ h; simp [arg_impl_areSymbols] at h; simp [Prod.ext_iff, h]
noncomputable def F_impl_areSymbols : Con := nilfix [[some 38], [some 3]] (pcon arg_impl_areSymbols (fun a => p_impl_areSymbols a.1 a.2) res_impl_areSymbols)
theorem fn_impl_areSymbols : Fn Try.prog 75 F_impl_areSymbols := (Fn.pure cal_impl_areSymbols (fun k w0 h0 => ok_impl_areSymbols k w0 h0) mixed Try.func75 rfl rfl (by kernel_rfl) 2 (by decide) (fun _ => rfl) lm_impl_areSymbols (fun a b h => t_impl_areSymbols h)).nilfix _
theorem c_impl_areSymbols {a0 : L3} {a1 : LI} {r : Bool} (h : p_impl_areSymbols a0 a1 = some r) : F_impl_areSymbols [.agg [.sl false 38 (List.map (cL38 false) a0)], .one (.sl false 3 (List.map cI a1))] = some (((false, [none]), [.lit (.bool r)])) := pcon_at (arg := arg_impl_areSymbols) (p := fun a => p_impl_areSymbols a.1 a.2) (res := res_impl_areSymbols) (a := (a0, a1)) (b := r) inj_impl_areSymbols h
noncomputable def cal_impl_GramOk (k : Nat) : Cal := calI (tabOf [(55, F_impl_inRange), (75, F_impl_areSymbols)]) (inlOf [])
@[simp] theorem cal_impl_GramOk_ap (k g : Nat) (vs : List TV) (mem : Mem) (ep : Nat) : cal_impl_GramOk k g vs mem ep = calI (tabOf [(55, F_impl_inRange), (75, F_impl_areSymbols)]) (inlOf []) g vs mem ep := rfl
theorem ok_impl_GramOk (k : Nat) (w0 : World) (h0 : True) : CalOk Try.prog w0.heap.size w0 (cal_impl_GramOk k) := by
  exact calI_ok (J := fun _ => True) stab_true (tabOf_ok _ (by simp [fn_impl_inRange, fn_impl_areSymbols])) (inlOf_ok _ (by simp [])) h0
@[simp] def lm_impl_GramOk : Nat → List Nat × Nat := fun b => if b = 0 then ([1, 13, 14, 15], 1) else if b = 2000000 then ([], 8888888) else if b = 3000000 then ([], 1) else if b = 2 then ([1, 13, 14, 15, 23, 24, 25], 1) else if b = 2000002 then ([], 8888888) else if b = 3000002 then ([1, 13, 14, 15], 1) else ([], 0)
@[simp] def arg_impl_GramOk (a : L3) : List TV := [.agg [.sl false 38 (List.map (cL38 false) a)]]
@[simp] def res_impl_GramOk (r : Bool) : Sh × List V := ((false, [none]), [.lit (.bool r)])
def p_impl_GramOk_L2 (a0 : L3) (x15b0 : Int) (y57 : L2) (x25b2 : Int) : Option (Bool ⊕ Unit) :=
 if x25b2 < (y57.length : Int) then
  if 0 ≤ x25b2 then
   y57[x25b2.toNat]? >>= fun y79 =>
   if 8 < (y79.length : Int) then
    some (.inl false)
   else
    p_impl_areSymbols a0 y79 >>= fun y83 =>
    if y83 then
     p_impl_GramOk_L2 a0 x15b0 y57 (IntKind.wrap .i64 (x25b2 + 1))
    else
     some (.inl false)
  else none
 else
  some (.inr ())
partial_fixpoint
@[simp] noncomputable def L_impl_GramOk_L2 : Code := nav [1, 1, 0, 1, 0, 0, 1, 1, 0, 0, 1, 1, 1, 0, 0] (bodyOf Try.f61)
@[simp] def T_impl_GramOk_L2 (a0 : L3) (x15b0 : Int) (y57 : L2) (x25b2 : Int) (st : Nat → Nat) : St := ⟨[(1, .one (.bp 1 (st 1) 0)), (13, .one (.sl false 38 (List.map (cL38 false) a0))), (14, .one (.lit (.int .i64 (a0.length : Int)))), (15, .one (.lit (.int .i64 x15b0))), (23, .one (.sl false 31 (List.map (cL31 false) y57))), (24, .one (.lit (.int .i64 (y57.length : Int)))), (25, .one (.lit (.int .i64 x25b2)))], [none, some (.box (st 1) [.sl false 38 (List.map (cL38 false) a0)])], (st 0)⟩
@[simp] def U_impl_GramOk_L2 (a0 : L3) (x15b0 : Int) (y57 : L2) (o : Unit) (st : Nat → Nat) : St := ⟨[(1, .one (.bp 1 (st 1) 0)), (13, .one (.sl false 38 (List.map (cL38 false) a0))), (14, .one (.lit (.int .i64 (a0.length : Int)))), (15, .one (.lit (.int .i64 x15b0)))], [none, some (.box (st 1) [.sl false 38 (List.map (cL38 false) a0)])], (st 0)⟩
abbrev Q_impl_GramOk_L2 (a0 : L3) (x15b0 : Int) (y57 : L2) (x25b2 : Int) (o : Bool ⊕ Unit) : Prop := ∀ st : Nat → Nat, LoopT Try.prog cal_impl_GramOk 1 lm_impl_GramOk 2 L_impl_GramOk_L2 (tellS Try.prog lm_impl_GramOk [.tmp 2]) res_impl_GramOk (U_impl_GramOk_L2 a0 x15b0 y57) (T_impl_GramOk_L2 a0 x15b0 y57 x25b2 st) o
theorem l_impl_GramOk_L2 {a0 : L3} {x15b0 : Int} {y57 : L2} {x25b2 : Int} {o : Bool ⊕ Unit} (h : p_impl_GramOk_L2 a0 x15b0 y57 x25b2 = some o) : Q_impl_GramOk_L2 a0 x15b0 y57 x25b2 o := by
  refine p_impl_GramOk_L2.partial_correctness a0 x15b0 y57 (motive := fun x25b2 o => Q_impl_GramOk_L2 a0 x15b0 y57 x25b2 o) ?_ x25b2 o h
  clear h o x25b2
  intro p' ih x25b2 r h st
  rcases ifc h with ⟨h77, h⟩ | ⟨h77, h⟩
  · obtain ⟨h78, h⟩ := ifg h
    obtain ⟨y79, h80, h⟩ := bd h
    rcases ifc h with ⟨h81, h⟩ | ⟨h81, h⟩
    · obtain rfl := Option.some.inj h
      exact LoopT.ret 0 (fun k hk => by simp (implicitDefEqProofs := false) [-getElem?_pos, -getElem?_neg, Try.f61, h77, h78, h80, h81])
    obtain ⟨y83, h82, h⟩ := bd h
    have h82c := c_impl_areSymbols h82
    rcases ifb h with ⟨h84, h⟩ | ⟨h84, h⟩
    · exact LoopT.step 0 (fun k hk => by simp (implicitDefEqProofs := false) [-getElem?_pos, -getElem?_neg, Try.f61, h77, h78, h80, h81, h82c, h84]) (ih _ _ h (sl [((st 0) + 1), (st 1)]))
    obtain rfl := Option.some.inj h
    exact LoopT.ret 0 (fun k hk => by simp (implicitDefEqProofs := false) [-getElem?_pos, -getElem?_neg, Try.f61, h77, h78, h80, h81, h82c, h84])
  obtain rfl := Option.some.inj h
  exact LoopT.exit (sl [(st 0), (st 1)]) 0 (fun k hk => by simp (implicitDefEqProofs := false) [-getElem?_pos, -getElem?_neg, Try.f61, h77])
def p_impl_GramOk_L0 (a0 : L3) (x15b0 : Int) : Option (Bool ⊕ Unit) :=
 if x15b0 < (a0.length : Int) then
  if 0 ≤ x15b0 then
   a0[x15b0.toNat]? >>= fun y57 =>
   p_impl_inRange (y57.length : Int) 1 8 >>= fun y60 =>
   if y60 then
    p_impl_GramOk_L2 a0 x15b0 y57 0 >>= fun o86 => match o86 with
    | .inl o86 =>
     some (.inl o86)
    | .inr o86 =>
     p_impl_GramOk_L0 a0 (IntKind.wrap .i64 (x15b0 + 1))
   else
    some (.inl false)
  else none
 else
  some (.inr ())
partial_fixpoint
@[simp] noncomputable def L_impl_GramOk_L0 : Code := nav [1, 1, 0, 1, 0, 0] (bodyOf Try.f61)
@[simp] def T_impl_GramOk_L0 (a0 : L3) (x15b0 : Int) (st : Nat → Nat) : St := ⟨[(1, .one (.bp 1 (st 1) 0)), (13, .one (.sl false 38 (List.map (cL38 false) a0))), (14, .one (.lit (.int .i64 (a0.length : Int)))), (15, .one (.lit (.int .i64 x15b0)))], [none, some (.box (st 1) [.sl false 38 (List.map (cL38 false) a0)])], (st 0)⟩
@[simp] def U_impl_GramOk_L0 (a0 : L3) (o : Unit) (st : Nat → Nat) : St := ⟨[], [none, some (.box (st 1) [.sl false 38 (List.map (cL38 false) a0)])], (st 0)⟩
abbrev Q_impl_GramOk_L0 (a0 : L3) (x15b0 : Int) (o : Bool ⊕ Unit) : Prop := ∀ st : Nat → Nat, LoopT Try.prog cal_impl_GramOk 1 lm_impl_GramOk 0 L_impl_GramOk_L0 (tellS Try.prog lm_impl_GramOk [.tmp 2]) res_impl_GramOk (U_impl_GramOk_L0 a0) (T_impl_GramOk_L0 a0 x15b0 st) o
theorem l_impl_GramOk_L0 {a0 : L3} {x15b0 : Int} {o : Bool ⊕ Unit} (h : p_impl_GramOk_L0 a0 x15b0 = some o) : Q_impl_GramOk_L0 a0 x15b0 o := by
  refine p_impl_GramOk_L0.partial_correctness a0 (motive := fun x15b0 o => Q_impl_GramOk_L0 a0 x15b0 o) ?_ x15b0 o h
  clear h o x15b0
  intro p' ih x15b0 r h st
  rcases ifc h with ⟨h55, h⟩ | ⟨h55, h⟩
  · obtain ⟨h56, h⟩ := ifg h
    obtain ⟨y57, h58, h⟩ := bd h
    obtain ⟨y60, h59, h⟩ := bd h
    have h59c := c_impl_inRange h59
    try simp (implicitDefEqProofs := false) [-getElem?_pos, -getElem?_neg] at h59c
    rcases ifb h with ⟨h61, h⟩ | ⟨h61, h⟩
    · obtain ⟨o86, h85, h⟩ := bd h
      have qK87 := l_impl_GramOk_L2 h85 (sl [((st 0) + 1), (st 1)])
      rcases o86 with o86 | o86
      · obtain ⟨K87, qK87⟩ := qK87
        obtain rfl := Option.some.inj h
        refine LoopT.ret K87 (fun k hk => ?_)
        obtain ⟨S_K87, jK87, iK87⟩ := qK87 k (by omega) k (by omega)
        simp (implicitDefEqProofs := false) [-getElem?_pos, -getElem?_neg, Try.f61, h55, h56, h58, h59c, h61] at jK87
        simp (implicitDefEqProofs := false) [-getElem?_pos, -getElem?_neg, Try.f61, h55, h56, h58, h59c, h61, iK87, jK87]
      obtain ⟨s88, K87, qK87⟩ := qK87
      refine LoopT.step K87 (fun k hk => ?_) (ih _ _ h (sl [(s88 0), (s88 1)]))
      have jK87 := qK87 k (by omega) k (by omega)
      simp (implicitDefEqProofs := false) [-getElem?_pos, -getElem?_neg, Try.f61, h55, h56, h58, h59c, h61] at jK87
      simp (implicitDefEqProofs := false) [-getElem?_pos, -getElem?_neg, Try.f61, h55, h56, h58, h59c, h61, jK87]
    obtain rfl := Option.some.inj h
    exact LoopT.ret 0 (fun k hk => by simp (implicitDefEqProofs := false) [-getElem?_pos, -getElem?_neg, Try.f61, h55, h56, h58, h59c, h61])
  obtain rfl := Option.some.inj h
  exact LoopT.exit (sl [(st 0), (st 1)]) 0 (fun k hk => by simp (implicitDefEqProofs := false) [-getElem?_pos, -getElem?_neg, Try.f61, h55])
def p_impl_GramOk (a0 : L3) : Option Bool :=
 p_impl_inRange (a0.length : Int) 1 20 >>= fun y2 =>
 if y2 then
  p_impl_GramOk_L0 a0 0 >>= fun o90 => match o90 with
  | .inl o90 =>
   some o90
  | .inr o90 =>
   some true
 else
  some false
theorem t_impl_GramOk {a0 : L3} {r : Bool} (h : p_impl_GramOk a0 = some r) : ∃ k, told Try.prog (cal_impl_GramOk k) k lm_impl_GramOk Try.f61 (arg_impl_GramOk a0) = some (res_impl_GramOk r) := by
  unfold p_impl_GramOk at h
  obtain ⟨y2, h1, h⟩ := bd h
  have h1c := c_impl_inRange h1
  try simp (implicitDefEqProofs := false) [-getElem?_pos, -getElem?_neg] at h1c
  rcases ifb h with ⟨h3, h⟩ | ⟨h3, h⟩
  · obtain ⟨o90, h89, h⟩ := bd h
    have qK91 := l_impl_GramOk_L0 h89 (sl [3, 1])
    rcases o90 with o90 | o90
    · obtain ⟨K91, qK91⟩ := qK91
      obtain rfl := Option.some.inj h
      obtain ⟨k, hk⟩ : ∃ k, K91 ≤ k := ⟨_, Nat.le_refl _⟩
      obtain ⟨S_K91, jK91, iK91⟩ := qK91 k (by omega) k (by omega)
      simp (implicitDefEqProofs := false) [-getElem?_pos, -getElem?_neg, Try.f61, h1c, h3] at jK91
      refine ⟨k, ?_⟩
      simp (implicitDefEqProofs := false) [-getElem?_pos, -getElem?_neg, Try.f61, h1c, h3, iK91, jK91]
    obtain ⟨s92, K91, qK91⟩ := qK91
    obtain rfl := Option.some.inj h
    obtain ⟨k, hk⟩ : ∃ k, K91 ≤ k := ⟨_, Nat.le_refl _⟩
    have jK91 := qK91 k (by omega) k (by omega)
    simp (implicitDefEqProofs := false) [-getElem?_pos, -getElem?_neg, Try.f61, h1c, h3] at jK91
    refine ⟨k, ?_⟩
    simp (implicitDefEqProofs := false) [-getElem?_pos, -getElem?_neg, Try.f61, h1c, h3, jK91]
  obtain rfl := Option.some.inj h
  obtain ⟨k, hk⟩ : ∃ k, 0 ≤ k := ⟨_, Nat.le_refl _⟩
  refine ⟨k, ?_⟩
  simp (implicitDefEqProofs := false) [-getElem?_pos, -getElem?_neg, Try.f61, h1c, h3]
theorem inj_impl_GramOk : ∀ a b, arg_impl_GramOk a = arg_impl_GramOk b → a = b := by
  intro x y h; simp [arg_impl_GramOk] at h; simp [Prod.ext_iff, h]
noncomputable def F_impl_GramOk : Con := nilfix [[some 38]] (pcon arg_impl_GramOk (fun a => p_impl_GramOk a) res_impl_GramOk)
theorem fn_impl_GramOk : Fn Try.prog 61 F_impl_GramOk := (Fn.pure cal_impl_GramOk (fun k w0 h0 => ok_impl_GramOk k w0 h0) mixed Try.func61 rfl rfl (by kernel_rfl) 1 (by decide) (fun _ => rfl) lm_impl_GramOk (fun a b h => t_impl_GramOk h)).nilfix _
theorem c_impl_GramOk {a0 : L3} {r : Bool} (h : p_impl_GramOk a0 = some r) : F_impl_GramOk [.agg [.sl false 38 (List.map (cL38 false) a0)]] = some (((false, [none]), [.lit (.bool r)])) := pcon_at (arg := arg_impl_GramOk) (p := fun a => p_impl_GramOk a) (res := res_impl_GramOk) (a := a0) (b := r) inj_impl_GramOk h
def cal_impl_flags_has (k : Nat) : Cal := calI (tabOf []) (inlOf [])
@[simp] theorem cal_impl_flags_has_ap (k g : Nat) (vs : List TV) (mem : Mem) (ep : Nat) : cal_impl_flags_has k g vs mem ep = calI (tabOf []) (inlOf []) g vs mem ep := rfl
theorem ok_impl_flags_has (k : Nat) (w0 : World) (h0 : True) : CalOk Try.prog w0.heap.size w0 (cal_impl_flags_has k) := by
  exact calI_ok (J := fun _ => True) stab_true (tabOf_ok _ (by simp [])) (inlOf_ok _ (by simp [])) h0
@[simp] def lm_impl_flags_has : Nat → List Nat × Nat := fun b => ([], 0)
@[simp] def arg_impl_flags_has (a : Int × Int) : List TV := [.one (.lit (.int .u32 a.1)), .one (.lit (.int .i64 a.2))]
@[simp] def res_impl_flags_has (r : Bool) : Sh × List V := ((false, [none]), [.lit (.bool r)])
def p_impl_flags_has (a0 : Int) (a1 : Int) : Option Bool :=
 if (IntKind.wrap .u64 a1) < 0 then
  none
 else
  some (decide ((andI .u32 (shrI .u32 a0 (IntKind.wrap .u64 a1)) 1) = 1))
theorem t_impl_flags_has {a0 : Int} {a1 : Int} {r : Bool} (h : p_impl_flags_has a0 a1 = some r) : ∃ k, told Try.prog (cal_impl_flags_has k) k lm_impl_flags_has Try.f65 (arg_impl_flags_has (a0, a1)) = some (res_impl_flags_has r) := by
  unfold p_impl_flags_has at h
  rcases ifc h with ⟨h1, h⟩ | ⟨h1, h⟩
  · cases h
  obtain rfl := Option.some.inj h
  obtain ⟨k, hk⟩ : ∃ k, 0 ≤ k := ⟨_, Nat.le_refl _⟩
  refine ⟨k, ?_⟩
  simp (implicitDefEqProofs := false) [-getElem?_pos, -getElem?_neg, Try.f65, g_conv Try.underlying3 Try.underlying80, h1]
theorem inj_impl_flags_has : ∀ a b, arg_impl_flags_has a = arg_impl_flags_has b → a = b := by
  rintro ⟨x0, x1⟩ ⟨y0, y1⟩ h; simp [arg_impl_flags_has] at h; simp [Prod.ext_iff, h]
noncomputable def F_impl_flags_has : Con := nilfix [] (pcon arg_impl_flags_has (fun a => p_impl_flags_has a.1 a.2) res_impl_flags_has)
theorem fn_impl_flags_has : Fn Try.prog 65 F_impl_flags_has := (Fn.pure cal_impl_flags_has (fun k w0 h0 => ok_impl_flags_has k w0 h0) mixed Try.func65 rfl rfl (by kernel_rfl) 2 (by decide) (fun _ => rfl) lm_impl_flags_has (fun a b h => t_impl_flags_has h)).nilfix _
theorem c_impl_flags_has {a0 : Int} {a1 : Int} {r : Bool} (h : p_impl_flags_has a0 a1 = some r) : F_impl_flags_has [.one (.lit (.int .u32 a0)), .one (.lit (.int .i64 a1))] = some (((false, [none]), [.lit (.bool r)])) := pcon_at (arg := arg_impl_flags_has) (p := fun a => p_impl_flags_has a.1 a.2) (res := res_impl_flags_has) (a := (a0, a1)) (b := r) inj_impl_flags_has h
noncomputable def cal_impl_emptyIn (k : Nat) : Cal := calI (tabOf [(65, F_impl_flags_has)]) (inlOf [])
@[simp] theorem cal_impl_emptyIn_ap (k g : Nat) (vs : List TV) (mem : Mem) (ep : Nat) : cal_impl_emptyIn k g vs mem ep = calI (tabOf [(65, F_impl_flags_has)]) (inlOf []) g vs mem ep := rfl
theorem ok_impl_emptyIn (k : Nat) (w0 : World) (h0 : True) : CalOk Try.prog w0.heap.size w0 (cal_impl_emptyIn k) := by
  exact calI_ok (J := fun _ => True) stab_true (tabOf_ok _ (by simp [fn_impl_flags_has])) (inlOf_ok _ (by simp [])) h0
@[simp] def lm_impl_emptyIn : Nat → List Nat × Nat := fun b => if b = 0 then ([1, 7, 8, 9], 0) else if b = 2000000 then ([], 8888888) else if b = 3000000 then ([], 0) else ([], 0)
@[simp] def arg_impl_emptyIn (a : LI × Int) : List TV := [.one (.sl false 3 (List.map cI a.1)), .one (.lit (.int .u32 a.2))]
@[simp] def res_impl_emptyIn (r : Bool) : Sh × List V := ((false, [none]), [.lit (.bool r)])
def p_impl_emptyIn_L0 (a1 : Int) (a0 : LI) (x9b0 : Int) : Option (Bool ⊕ Unit) :=
 if x9b0 < (a0.length : Int) then
  if 0 ≤ x9b0 then
   a0[x9b0.toNat]? >>= fun y20 =>
   if y20 < 100 then
    some (.inl false)
   else
    if 120 ≤ y20 then
     some (.inl false)
    else
     p_impl_flags_has a1 (IntKind.wrap .i64 (y20 - 100)) >>= fun y25 =>
     if y25 then
      p_impl_emptyIn_L0 a1 a0 (IntKind.wrap .i64 (x9b0 + 1))
     else
      some (.inl false)
  else none
 else
  some (.inr ())
partial_fixpoint
@[simp] noncomputable def L_impl_emptyIn_L0 : Code := nav [1, 0, 1, 0, 0] (bodyOf Try.f81)
@[simp] def T_impl_emptyIn_L0 (a1 : Int) (a0 : LI) (x9b0 : Int) (st : Nat → Nat) : St := ⟨[(1, .one (.lit (.int .u32 a1))), (7, .one (.sl false 3 (List.map cI a0))), (8, .one (.lit (.int .i64 (a0.length : Int)))), (9, .one (.lit (.int .i64 x9b0)))], [none], (st 0)⟩
@[simp] def U_impl_emptyIn_L0 (a1 : Int) (a0 : LI) (o : Unit) (st : Nat → Nat) : St := ⟨[], [none], (st 0)⟩
abbrev Q_impl_emptyIn_L0 (a1 : Int) (a0 : LI) (x9b0 : Int) (o : Bool ⊕ Unit) : Prop := ∀ st : Nat → Nat, LoopT Try.prog cal_impl_emptyIn 1 lm_impl_emptyIn 0 L_impl_emptyIn_L0 (tellS Try.prog lm_impl_emptyIn [.tmp 4]) res_impl_emptyIn (U_impl_emptyIn_L0 a1 a0) (T_impl_emptyIn_L0 a1 a0 x9b0 st) o
theorem l_impl_emptyIn_L0 {a1 : Int} {a0 : LI} {x9b0 : Int} {o : Bool ⊕ Unit} (h : p_impl_emptyIn_L0 a1 a0 x9b0 = some o) : Q_impl_emptyIn_L0 a1 a0 x9b0 o := by
  refine p_impl_emptyIn_L0.partial_correctness a1 a0 (motive := fun x9b0 o => Q_impl_emptyIn_L0 a1 a0 x9b0 o) ?_ x9b0 o h
  clear h o x9b0
  intro p' ih x9b0 r h st
  rcases ifc h with ⟨h18, h⟩ | ⟨h18, h⟩
  · obtain ⟨h19, h⟩ := ifg h
    obtain ⟨y20, h21, h⟩ := bd h
    rcases ifc h with ⟨h22, h⟩ | ⟨h22, h⟩
    · obtain rfl := Option.some.inj h
      exact LoopT.ret 0 (fun k hk => by simp (implicitDefEqProofs := false) [-getElem?_pos, -getElem?_neg, Try.f81, h18, h19, h21, h22])
    rcases ifc h with ⟨h23, h⟩ | ⟨h23, h⟩
    · obtain rfl := Option.some.inj h
      exact LoopT.ret 0 (fun k hk => by simp (implicitDefEqProofs := false) [-getElem?_pos, -getElem?_neg, Try.f81, h18, h19, h21, h22, h23])
    obtain ⟨y25, h24, h⟩ := bd h
    have h24c := c_impl_flags_has h24
    try simp (implicitDefEqProofs := false) [-getElem?_pos, -getElem?_neg] at h24c
    rcases ifb h with ⟨h26, h⟩ | ⟨h26, h⟩
    · exact LoopT.step 0 (fun k hk => by simp (implicitDefEqProofs := false) [-getElem?_pos, -getElem?_neg, Try.f81, h18, h19, h21, h22, h23, h24c, h26]) (ih _ _ h (sl [((st 0) + 1)]))
    obtain rfl := Option.some.inj h
    exact LoopT.ret 0 (fun k hk => by simp (implicitDefEqProofs := false) [-getElem?_pos, -getElem?_neg, Try.f81, h18, h19, h21, h22, h23, h24c, h26])
  obtain rfl := Option.some.inj h
  exact LoopT.exit (sl [(st 0)]) 0 (fun k hk => by simp (implicitDefEqProofs := false) [-getElem?_pos, -getElem?_neg, Try.f81, h18])
def p_impl_emptyIn (a0 : LI) (a1 : Int) : Option Bool :=
 p_impl_emptyIn_L0 a1 a0 0 >>= fun o28 => match o28 with
 | .inl o28 =>
  some o28
 | .inr o28 =>
  some true
theorem t_impl_emptyIn {a0 : LI} {a1 : Int} {r : Bool} (h : p_impl_emptyIn a0 a1 = some r) : ∃ k, told Try.prog (cal_impl_emptyIn k) k lm_impl_emptyIn Try.f81 (arg_impl_emptyIn (a0, a1)) = some (res_impl_emptyIn r) := by
  unfold p_impl_emptyIn at h
  obtain ⟨o28, h27, h⟩ := bd h
  have qK29 := l_impl_emptyIn_L0 h27 (sl [1])
  rcases o28 with o28 | o28
  · obtain ⟨K29, qK29⟩ := qK29
    obtain rfl := Option.some.inj h
    obtain ⟨k, hk⟩ : ∃ k, K29 ≤ k := ⟨_, Nat.le_refl _⟩
    obtain ⟨S_K29, jK29, iK29⟩ := qK29 k (by omega) k (by omega)
    simp (implicitDefEqProofs := false) [-getElem?_pos, -getElem?_neg, Try.f81] at jK29
    refine ⟨k, ?_⟩
    simp (implicitDefEqProofs := false) [-getElem?_pos, -getElem?_neg, Try.f81, iK29, jK29]
  obtain ⟨s30, K29, qK29⟩ := qK29
  obtain rfl := Option.some.inj h
  obtain ⟨k, hk⟩ : ∃ k, K29 ≤ k := ⟨_, Nat.le_refl _⟩
  have jK29 := qK29 k (by omega) k (by omega)
  simp (implicitDefEqProofs := false) [-getElem?_pos, -getElem?_neg, Try.f81] at jK29
  refine ⟨k, ?_⟩
  simp (implicitDefEqProofs := false) [-getElem?_pos, -getElem?_neg, Try.f81, jK29]
theorem inj_impl_emptyIn : ∀ a b, arg_impl_emptyIn a = arg_impl_emptyIn b → a = b := by
  rintro ⟨x0, x1⟩ ⟨y0, y1⟩ h; simp [arg_impl_emptyIn] at h; simp [Prod.ext_iff, h]
noncomputable def F_impl_emptyIn : Con := nilfix [[some 3], [none]] (pcon arg_impl_emptyIn (fun a => p_impl_emptyIn a.1 a.2) res_impl_emptyIn)
theorem fn_impl_emptyIn : Fn Try.prog 81 F_impl_emptyIn := (Fn.pure cal_impl_emptyIn (fun k w0 h0 => ok_impl_emptyIn k w0 h0) mixed Try.func81 rfl rfl (by kernel_rfl) 2 (by decide) (fun _ => rfl) lm_impl_emptyIn (fun a b h => t_impl_emptyIn h)).nilfix _
theorem c_impl_emptyIn {a0 : LI} {a1 : Int} {r : Bool} (h : p_impl_emptyIn a0 a1 = some r) : F_impl_emptyIn [.one (.sl false 3 (List.map cI a0)), .one (.lit (.int .u32 a1))] = some (((false, [none]), [.lit (.bool r)])) := pcon_at (arg := arg_impl_emptyIn) (p := fun a => p_impl_emptyIn a.1 a.2) (res := res_impl_emptyIn) (a := (a0, a1)) (b := r) inj_impl_emptyIn h
noncomputable def cal_impl_empties_1 (k : Nat) : Cal := calI (tabOf [(81, F_impl_emptyIn)]) (inlOf [])
@[simp] theorem cal_impl_empties_1_ap (k g : Nat) (vs : List TV) (mem : Mem) (ep : Nat) : cal_impl_empties_1 k g vs mem ep = calI (tabOf [(81, F_impl_emptyIn)]) (inlOf []) g vs mem ep := rfl
theorem ok_impl_empties_1 (k : Nat) (w0 : World) (h0 : True) : CalOk Try.prog w0.heap.size w0 (cal_impl_empties_1 k) := by
  exact calI_ok (J := fun _ => True) stab_true (tabOf_ok _ (by simp [fn_impl_emptyIn])) (inlOf_ok _ (by simp [])) h0
@[simp] def lm_impl_empties_1 : Nat → List Nat × Nat := fun b => if b = 0 then ([0, 9, 10, 11], 0) else if b = 2000000 then ([], 8888888) else if b = 3000000 then ([0], 0) else if b = 2 then ([0, 4, 9, 10, 11, 16, 17, 18], 0) else if b = 2000002 then ([], 8888888) else if b = 3000002 then ([0, 9, 10, 11], 0) else ([], 0)
@[simp] def arg_impl_empties_1 (a : Int × L3) : List TV := [.one (.lit (.int .u32 a.1)), .one (.rp [.sl false 38 (List.map (cL38 false) a.2)] 0)]
@[simp] def res_impl_empties_1 (r : Int) : Sh × List V := ((false, [none]), [.lit (.int .u32 r)])
def p_impl_empties_1_L2 (x11b0 : Int) (a1 : L3) (y46 : L2) (x0b2 : Int) (x18b2 : Int) : Option (Int) :=
 if x18b2 < (y46.length : Int) then
  if 0 ≤ x18b2 then
   y46[x18b2.toNat]? >>= fun y65 =>
   p_impl_emptyIn y65 x0b2 >>= fun y68 =>
   if y68 then
    if (IntKind.wrap .u64 x11b0) < 0 then
     none
    else
     p_impl_empties_1_L2 x11b0 a1 y46 (orI .u32 x0b2 (shlI .u32 1 (IntKind.wrap .u64 x11b0))) (IntKind.wrap .i64 (x18b2 + 1))
   else
    p_impl_empties_1_L2 x11b0 a1 y46 x0b2 (IntKind.wrap .i64 (x18b2 + 1))
  else none
 else
  some x0b2
partial_fixpoint
@[simp] noncomputable def L_impl_empties_1_L2 : Code := nav [1, 0, 1, 0, 0, 1, 1, 0, 0, 1, 1, 0, 0] (bodyOf Try.f91)
@[simp] def T_impl_empties_1_L2 (x11b0 : Int) (a1 : L3) (y46 : L2) (x0b2 : Int) (x18b2 : Int) (st : Nat → Nat) : St := ⟨[(0, .one (.lit (.int .u32 x0b2))), (4, .one (.lit (.int .i64 x11b0))), (9, .one (.sl false 38 (List.map (cL38 false) a1))), (10, .one (.lit (.int .i64 (a1.length : Int)))), (11, .one (.lit (.int .i64 x11b0))), (16, .one (.sl false 31 (List.map (cL31 false) y46))), (17, .one (.lit (.int .i64 (y46.length : Int)))), (18, .one (.lit (.int .i64 x18b2)))], [none], (st 0)⟩
@[simp] def U_impl_empties_1_L2 (x11b0 : Int) (a1 : L3) (y46 : L2) (o : Int) (st : Nat → Nat) : St := ⟨[(0, .one (.lit (.int .u32 o))), (9, .one (.sl false 38 (List.map (cL38 false) a1))), (10, .one (.lit (.int .i64 (a1.length : Int)))), (11, .one (.lit (.int .i64 x11b0)))], [none], (st 0)⟩
abbrev Q_impl_empties_1_L2 (x11b0 : Int) (a1 : L3) (y46 : L2) (x0b2 : Int) (x18b2 : Int) (o : Int) : Prop := ∀ st : Nat → Nat, LoopG Try.prog cal_impl_empties_1 1 lm_impl_empties_1 2 L_impl_empties_1_L2 (U_impl_empties_1_L2 x11b0 a1 y46) (T_impl_empties_1_L2 x11b0 a1 y46 x0b2 x18b2 st) o
theorem l_impl_empties_1_L2 {x11b0 : Int} {a1 : L3} {y46 : L2} {x0b2 : Int} {x18b2 : Int} {o : Int} (h : p_impl_empties_1_L2 x11b0 a1 y46 x0b2 x18b2 = some o) : Q_impl_empties_1_L2 x11b0 a1 y46 x0b2 x18b2 o := by
  refine p_impl_empties_1_L2.partial_correctness x11b0 a1 y46 (motive := fun x0b2 x18b2 o => Q_impl_empties_1_L2 x11b0 a1 y46 x0b2 x18b2 o) ?_ x0b2 x18b2 o h
  clear h o x0b2 x18b2
  intro p' ih x0b2 x18b2 r h st
  rcases ifc h with ⟨h63, h⟩ | ⟨h63, h⟩
  · obtain ⟨h64, h⟩ := ifg h
    obtain ⟨y65, h66, h⟩ := bd h
    obtain ⟨y68, h67, h⟩ := bd h
    have h67c := c_impl_emptyIn h67
    rcases ifb h with ⟨h69, h⟩ | ⟨h69, h⟩
    · rcases ifc h with ⟨h70, h⟩ | ⟨h70, h⟩
      · cases h
      exact LoopG.step 0 (fun k hk => by simp (implicitDefEqProofs := false) [-getElem?_pos, -getElem?_neg, Try.f91, h63, h64, h66, h67c, h69, g_conv Try.underlying3 Try.underlying80, h70]) (ih _ _ _ h (sl [((st 0) + 1)]))
    exact LoopG.step 0 (fun k hk => by simp (implicitDefEqProofs := false) [-getElem?_pos, -getElem?_neg, Try.f91, h63, h64, h66, h67c, h69]) (ih _ _ _ h (sl [((st 0) + 1)]))
  obtain rfl := Option.some.inj h
  exact LoopG.exit (sl [(st 0)]) 0 (fun k hk => by simp (implicitDefEqProofs := false) [-getElem?_pos, -getElem?_neg, Try.f91, h63])
def p_impl_empties_1_L0 (a1 : L3) (x0b0 : Int) (x11b0 : Int) : Option (Int) :=
 if x11b0 < (a1.length : Int) then
  if 0 ≤ x11b0 then
   a1[x11b0.toNat]? >>= fun y46 =>
   p_impl_empties_1_L2 x11b0 a1 y46 x0b0 0 >>= fun o72 =>
   p_impl_empties_1_L0 a1 o72 (IntKind.wrap .i64 (x11b0 + 1))
  else none
 else
  some x0b0
partial_fixpoint
@[simp] noncomputable def L_impl_empties_1_L0 : Code := nav [1, 0, 1, 0, 0] (bodyOf Try.f91)
@[simp] def T_impl_empties_1_L0 (a1 : L3) (x0b0 : Int) (x11b0 : Int) (st : Nat → Nat) : St := ⟨[(0, .one (.lit (.int .u32 x0b0))), (9, .one (.sl false 38 (List.map (cL38 false) a1))), (10, .one (.lit (.int .i64 (a1.length : Int)))), (11, .one (.lit (.int .i64 x11b0)))], [none], (st 0)⟩
@[simp] def U_impl_empties_1_L0 (a1 : L3) (o : Int) (st : Nat → Nat) : St := ⟨[(0, .one (.lit (.int .u32 o)))], [none], (st 0)⟩
abbrev Q_impl_empties_1_L0 (a1 : L3) (x0b0 : Int) (x11b0 : Int) (o : Int) : Prop := ∀ st : Nat → Nat, LoopG Try.prog cal_impl_empties_1 1 lm_impl_empties_1 0 L_impl_empties_1_L0 (U_impl_empties_1_L0 a1) (T_impl_empties_1_L0 a1 x0b0 x11b0 st) o
theorem l_impl_empties_1_L0 {a1 : L3} {x0b0 : Int} {x11b0 : Int} {o : Int} (h : p_impl_empties_1_L0 a1 x0b0 x11b0 = some o) : Q_impl_empties_1_L0 a1 x0b0 x11b0 o := by
  refine p_impl_empties_1_L0.partial_correctness a1 (motive := fun x0b0 x11b0 o => Q_impl_empties_1_L0 a1 x0b0 x11b0 o) ?_ x0b0 x11b0 o h
  clear h o x0b0 x11b0
  intro p' ih x0b0 x11b0 r h st
  rcases ifc h with ⟨h44, h⟩ | ⟨h44, h⟩
  · obtain ⟨h45, h⟩ := ifg h
    obtain ⟨y46, h47, h⟩ := bd h
    obtain ⟨o72, h71, h⟩ := bd h
    have qK73 := l_impl_empties_1_L2 h71 (sl [(st 0)])
    obtain ⟨s74, K73, qK73⟩ := qK73
    refine LoopG.step K73 (fun k hk => ?_) (ih _ _ _ h (sl [(s74 0)]))
    have jK73 := qK73 k (by omega) k (by omega)
    simp (implicitDefEqProofs := false) [-getElem?_pos, -getElem?_neg, Try.f91, h44, h45, h47] at jK73
    simp (implicitDefEqProofs := false) [-getElem?_pos, -getElem?_neg, Try.f91, h44, h45, h47, jK73]
  obtain rfl := Option.some.inj h
  exact LoopG.exit (sl [(st 0)]) 0 (fun k hk => by simp (implicitDefEqProofs := false) [-getElem?_pos, -getElem?_neg, Try.f91, h44])
def p_impl_empties_1 (a0 : Int) (a1 : L3) : Option Int :=
 p_impl_empties_1_L0 a1 a0 0 >>= fun o76 =>
 some o76
theorem t_impl_empties_1 {a0 : Int} {a1 : L3} {r : Int} (h : p_impl_empties_1 a0 a1 = some r) : ∃ k, told Try.prog (cal_impl_empties_1 k) k lm_impl_empties_1 Try.f91 (arg_impl_empties_1 (a0, a1)) = some (res_impl_empties_1 r) := by
  unfold p_impl_empties_1 at h
  obtain ⟨o76, h75, h⟩ := bd h
  have qK77 := l_impl_empties_1_L0 h75 (sl [1])
  obtain ⟨s78, K77, qK77⟩ := qK77
  obtain rfl := Option.some.inj h
  obtain ⟨k, hk⟩ : ∃ k, K77 ≤ k := ⟨_, Nat.le_refl _⟩
  have jK77 := qK77 k (by omega) k (by omega)
  simp (implicitDefEqProofs := false) [-getElem?_pos, -getElem?_neg, Try.f91] at jK77
  refine ⟨k, ?_⟩
  simp (implicitDefEqProofs := false) [-getElem?_pos, -getElem?_neg, Try.f91, jK77]
theorem inj_impl_empties_1 : ∀ a b, arg_impl_empties_1 a = arg_impl_empties_1 b → a = b := by
  rintro ⟨x0, x1⟩ ⟨y0, y1⟩ h; simp [arg_impl_empties_1] at h; simp [Prod.ext_iff, h]
noncomputable def F_impl_empties_1 : Con := nilfix [] (pcon arg_impl_empties_1 (fun a => p_impl_empties_1 a.1 a.2) res_impl_empties_1)
theorem fn_impl_empties_1 : Fn Try.prog 91 F_impl_empties_1 := (Fn.pure cal_impl_empties_1 (fun k w0 h0 => ok_impl_empties_1 k w0 h0) mixed Try.func91 rfl rfl (by kernel_rfl) 2 (by decide) (fun _ => rfl) lm_impl_empties_1 (fun a b h => t_impl_empties_1 h)).nilfix _
theorem c_impl_empties_1 {a0 : Int} {a1 : L3} {r : Int} (h : p_impl_empties_1 a0 a1 = some r) : F_impl_empties_1 [.one (.lit (.int .u32 a0)), .one (.rp [.sl false 38 (List.map (cL38 false) a1)] 0)] = some (((false, [none]), [.lit (.int .u32 r)])) := pcon_at (arg := arg_impl_empties_1) (p := fun a => p_impl_empties_1 a.1 a.2) (res := res_impl_empties_1) (a := (a0, a1)) (b := r) inj_impl_empties_1 h
noncomputable def cal_impl_growing_cl_empties_1 (k : Nat) : Cal := calI (tabOf [(91, F_impl_empties_1)]) (inlOf [])
@[simp] theorem cal_impl_growing_cl_empties_1_ap (k g : Nat) (vs : List TV) (mem : Mem) (ep : Nat) : cal_impl_growing_cl_empties_1 k g vs mem ep = calI (tabOf [(91, F_impl_empties_1)]) (inlOf []) g vs mem ep := rfl
theorem ok_impl_growing_cl_empties_1 (k : Nat) (w0 : World) (h0 : True) : CalOk Try.prog w0.heap.size w0 (cal_impl_growing_cl_empties_1 k) := by
  exact calI_ok (J := fun _ => True) stab_true (tabOf_ok _ (by simp [fn_impl_empties_1])) (inlOf_ok _ (by simp [])) h0
@[simp] def lm_impl_growing_cl_empties_1 : Nat → List Nat × Nat := fun b => if b = 0 then ([0, 3], 0) else if b = 2000000 then ([], 8888888) else ([], 0)
@[simp] def arg_impl_growing_cl_empties_1 (a : L3) : List TV := [.one (.cl 91 [.rp [.sl false 38 (List.map (cL38 false) a)] 0])]
@[simp] def res_impl_growing_cl_empties_1 (r : Int) : Sh × List V := ((false, [none]), [.lit (.int .u32 r)])
def p_impl_growing_cl_empties_1_L0 (a0c0 : L3) (x3b0 : Int) : Option (Int) :=
 p_impl_empties_1 x3b0 a0c0 >>= fun y8 =>
 if y8 = x3b0 then
  some x3b0
 else
  p_impl_growing_cl_empties_1_L0 a0c0 y8
partial_fixpoint
@[simp] noncomputable def L_impl_growing_cl_empties_1_L0 : Code := nav [1, 1, 0, 0] (bodyOf Try.f82)
@[simp] def T_impl_growing_cl_empties_1_L0 (a0c0 : L3) (x3b0 : Int) (st : Nat → Nat) : St := ⟨[(0, .one (.cl 91 [.rp [.sl false 38 (List.map (cL38 false) a0c0)] 0])), (3, .one (.lit (.int .u32 x3b0)))], [none], (st 0)⟩
abbrev Q_impl_growing_cl_empties_1_L0 (a0c0 : L3) (x3b0 : Int) (o : Int) : Prop := ∀ st : Nat → Nat, LoopsR Try.prog cal_impl_growing_cl_empties_1 1 lm_impl_growing_cl_empties_1 0 L_impl_growing_cl_empties_1_L0 (T_impl_growing_cl_empties_1_L0 a0c0 x3b0 st) (tellS Try.prog lm_impl_growing_cl_empties_1 [.tmp 2]) (res_impl_growing_cl_empties_1 o)
theorem l_impl_growing_cl_empties_1_L0 {a0c0 : L3} {x3b0 : Int} {o : Int} (h : p_impl_growing_cl_empties_1_L0 a0c0 x3b0 = some o) : Q_impl_growing_cl_empties_1_L0 a0c0 x3b0 o := by
  refine p_impl_growing_cl_empties_1_L0.partial_correctness a0c0 (motive := fun x3b0 o => Q_impl_growing_cl_empties_1_L0 a0c0 x3b0 o) ?_ x3b0 o h
  clear h o x3b0
  intro p' ih x3b0 r h st
  obtain ⟨y8, h7, h⟩ := bd h
  have h7c := c_impl_empties_1 h7
  rcases ifc h with ⟨h9, h⟩ | ⟨h9, h⟩
  · obtain rfl := Option.some.inj h
    exact LoopsR.stop 0 (fun k hk => by simp (implicitDefEqProofs := false) [-getElem?_pos, -getElem?_neg, Try.f82, h7c, (eq_true h9)])
  exact LoopsR.step 0 (fun k hk => by simp (implicitDefEqProofs := false) [-getElem?_pos, -getElem?_neg, Try.f82, h7c, h9]) (ih _ _ h (sl [((st 0) + 1)]))
def p_impl_growing_cl_empties_1 (a0c0 : L3) : Option Int :=
 p_impl_growing_cl_empties_1_L0 a0c0 0 >>= fun o11 =>
 some o11
theorem t_impl_growing_cl_empties_1 {a0c0 : L3} {r : Int} (h : p_impl_growing_cl_empties_1 a0c0 = some r) : ∃ k, told Try.prog (cal_impl_growing_cl_empties_1 k) k lm_impl_growing_cl_empties_1 Try.f82 (arg_impl_growing_cl_empties_1 a0c0) = some (res_impl_growing_cl_empties_1 r) := by
  unfold p_impl_growing_cl_empties_1 at h
  obtain ⟨o11, h10, h⟩ := bd h
  have qK12 := l_impl_growing_cl_empties_1_L0 h10 (sl [1])
  obtain ⟨K12, qK12⟩ := qK12
  obtain rfl := Option.some.inj h
  obtain ⟨k, hk⟩ : ∃ k, K12 ≤ k := ⟨_, Nat.le_refl _⟩
  obtain ⟨S_K12, jK12, iK12⟩ := qK12 k (by omega) k (by omega)
  simp (implicitDefEqProofs := false) [-getElem?_pos, -getElem?_neg, Try.f82] at jK12
  refine ⟨k, ?_⟩
  simp (implicitDefEqProofs := false) [-getElem?_pos, -getElem?_neg, Try.f82, iK12, jK12]
theorem inj_impl_growing_cl_empties_1 : ∀ a b, arg_impl_growing_cl_empties_1 a = arg_impl_growing_cl_empties_1 b → a = b := by
  intro x y h; simp [arg_impl_growing_cl_empties_1] at h; simp [Prod.ext_iff, h]
noncomputable def F_impl_growing_cl_empties_1 : Con := nilfix [] (pcon arg_impl_growing_cl_empties_1 (fun a => p_impl_growing_cl_empties_1 a) res_impl_growing_cl_empties_1)
theorem fn_impl_growing_cl_empties_1 : Fn Try.prog 82 F_impl_growing_cl_empties_1 := (Fn.pure cal_impl_growing_cl_empties_1 (fun k w0 h0 => ok_impl_growing_cl_empties_1 k w0 h0) mixed Try.func82 rfl rfl (by kernel_rfl) 1 (by decide) (fun _ => rfl) lm_impl_growing_cl_empties_1 (fun a b h => t_impl_growing_cl_empties_1 h)).nilfix _
theorem c_impl_growing_cl_empties_1 {a0c0 : L3} {r : Int} (h : p_impl_growing_cl_empties_1 a0c0 = some r) : F_impl_growing_cl_empties_1 [.one (.cl 91 [.rp [.sl false 38 (List.map (cL38 false) a0c0)] 0])] = some (((false, [none]), [.lit (.int .u32 r)])) := pcon_at (arg := arg_impl_growing_cl_empties_1) (p := fun a => p_impl_growing_cl_empties_1 a) (res := res_impl_growing_cl_empties_1) (a := a0c0) (b := r) inj_impl_growing_cl_empties_1 h
noncomputable def cal_impl_empties (k : Nat) : Cal := calI (tabOf [(82, F_impl_growing_cl_empties_1)]) (inlOf [])
@[simp] theorem cal_impl_empties_ap (k g : Nat) (vs : List TV) (mem : Mem) (ep : Nat) : cal_impl_empties k g vs mem ep = calI (tabOf [(82, F_impl_growing_cl_empties_1)]) (inlOf []) g vs mem ep := rfl
theorem ok_impl_empties (k : Nat) (w0 : World) (h0 : True) : CalOk Try.prog w0.heap.size w0 (cal_impl_empties k) := by
  exact calI_ok (J := fun _ => True) stab_true (tabOf_ok _ (by simp [fn_impl_growing_cl_empties_1])) (inlOf_ok _ (by simp [])) h0
@[simp] def lm_impl_empties : Nat → List Nat × Nat := fun b => ([], 0)
@[simp] def arg_impl_empties (a : L3) : List TV := [.agg [.sl false 38 (List.map (cL38 false) a)]]
@[simp] def res_impl_empties (r : Int) : Sh × List V := ((false, [none]), [.lit (.int .u32 r)])
def p_impl_empties (a0 : L3) : Option Int :=
 p_impl_growing_cl_empties_1 a0 >>= fun y2 =>
 some y2
theorem t_impl_empties {a0 : L3} {r : Int} (h : p_impl_empties a0 = some r) : ∃ k, told Try.prog (cal_impl_empties k) k lm_impl_empties Try.f80 (arg_impl_empties a0) = some (res_impl_empties r) := by
  unfold p_impl_empties at h
  obtain ⟨y2, h1, h⟩ := bd h
  have h1c := c_impl_growing_cl_empties_1 h1
  obtain rfl := Option.some.inj h
  obtain ⟨k, hk⟩ : ∃ k, 0 ≤ k := ⟨_, Nat.le_refl _⟩
  refine ⟨k, ?_⟩
  simp (implicitDefEqProofs := false) [-getElem?_pos, -getElem?_neg, Try.f80, h1c]
theorem inj_impl_empties : ∀ a b, arg_impl_empties a = arg_impl_empties b → a = b := by
  intro x y h; simp [arg_impl_empties] at h; simp [Prod.ext_iff, h]
noncomputable def F_impl_empties : Con := nilfix [[some 38]] (pcon arg_impl_empties (fun a => p_impl_empties a) res_impl_empties)
theorem fn_impl_empties : Fn Try.prog 80 F_impl_empties := (Fn.pure cal_impl_empties (fun k w0 h0 => ok_impl_empties k w0 h0) mixed Try.func80 rfl rfl (by kernel_rfl) 1 (by decide) (fun _ => rfl) lm_impl_empties (fun a b h => t_impl_empties h)).nilfix _
theorem c_impl_empties {a0 : L3} {r : Int} (h : p_impl_empties a0 = some r) : F_impl_empties [.agg [.sl false 38 (List.map (cL38 false) a0)]] = some (((false, [none]), [.lit (.int .u32 r)])) := pcon_at (arg := arg_impl_empties) (p := fun a => p_impl_empties a) (res := res_impl_empties) (a := a0) (b := r) inj_impl_empties h
@[simp 2000] theorem la_78 (mem : Mem) (id bv : Nat) : loadV Try.prog mem 78 (.bp id bv 0) = (boxOf mem id bv).bind fun cells => if cells.length = 20 then some (.agg cells) else if 20 ≤ cells.length then some (.agg (cells.take 20)) else none := arr_load Try.underlying78 (n := 20) (by kernel_rfl) (by decide) mem id bv
noncomputable def cal_impl_startsOf (k : Nat) : Cal := calI (tabOf [(80, F_impl_empties), (81, F_impl_emptyIn)]) (inlOf [])
@[simp] theorem cal_impl_startsOf_ap (k g : Nat) (vs : List TV) (mem : Mem) (ep : Nat) : cal_impl_startsOf k g vs mem ep = calI (tabOf [(80, F_impl_empties), (81, F_impl_emptyIn)]) (inlOf []) g vs mem ep := rfl
theorem ok_impl_startsOf (k : Nat) (w0 : World) (h0 : True) : CalOk Try.prog w0.heap.size w0 (cal_impl_startsOf k) := by
  exact calI_ok (J := fun _ => True) stab_true (tabOf_ok _ (by simp [fn_impl_empties, fn_impl_emptyIn])) (inlOf_ok _ (by simp [])) h0
@[simp] def lm_impl_startsOf : Nat → List Nat × Nat := fun b => if b = 2 then ([1, 2, 3, 4, 5, 17, 18, 19], 3) else if b = 2000002 then ([], 8888888) else if b = 3000002 then ([1, 2, 3, 4, 5], 3) else if b = 0 then ([1, 2, 3, 4, 5], 3) else if b = 2000000 then ([], 8888888) else if b = 3000000 then ([2, 4], 3) else if b = 4 then ([1, 2, 3, 4, 5, 6, 8, 17, 18, 19, 27, 28, 29], 3) else if b = 2000004 then ([], 8888888) else if b = 3000004 then ([1, 2, 3, 4, 5, 6, 8, 17, 18, 19], 3) else if b = 6 then ([1, 2, 3, 4, 5, 6, 8, 10, 17, 18, 19, 27, 28, 29, 33, 34, 35], 3) else if b = 2000006 then ([], 8888888) else if b = 3000006 then ([1, 2, 3, 4, 5, 6, 8, 17, 18, 19, 27, 28, 29], 3) else ([], 0)
theorem dr_impl_startsOf_17 : drawn (opsOf (nav [1, 1, 1, 0, 1, 0, 0, 1, 0, 1, 1, 0, 0, 1, 1, 0, 0, 1, 1, 0, 1, 0, 0, 1, 1, 0, 0, 1, 1, 0, 0, 1, 1, 0, 0, 1, 1, 0] (bodyOf Try.f71))) = some ([0, 1, 2, 3, 4, 5, 6, 7, 8, 9, 10, 11, 12, 13], [14]) := by kernel_rfl
@[simp] def arg_impl_startsOf (a : L3) : List TV := [.agg [.sl false 38 (List.map (cL38 false) a)]]
@[simp] def res_impl_startsOf (r : LI) : Sh × List V := ((false, [some 20]), (List.map (kI .u32) r))
def p_impl_startsOf_L6 (y4 : Int) (x5b2 : Bool) (x19b2 : Int) (y683 : Int) (y788 : LI) (a0 : L3) (y680 : L2) (x29b4 : Int) (l1 : LI) (x35b6 : Int) (b3_0b6 : LI) : Option LI :=
 if x35b6 < (y788.length : Int) then
  if 0 ≤ x35b6 then
   y788[x35b6.toNat]? >>= fun y835 =>
   if 100 ≤ y835 then
    if x35b6.toNat ≤ y788.length then
     some (List.take x35b6.toNat y788) >>= fun l839 =>
     p_impl_emptyIn l839 y4 >>= fun y842 =>
     if y842 then
      if 0 ≤ x19b2 then
       if x19b2.toNat < 20 then
        b3_0b6[x19b2.toNat]? >>= fun y846 =>
        if (IntKind.wrap .u64 (IntKind.wrap .i64 (y835 - 100))) < 0 then
         none
        else
         if 0 ≤ (IntKind.wrap .i64 (y835 - 100)) then
          if (IntKind.wrap .i64 (y835 - 100)).toNat < 20 then
           b3_0b6[(IntKind.wrap .i64 (y835 - 100)).toNat]? >>= fun y851 =>
           some (List.set b3_0b6 x19b2.toNat (orI .u32 y846 (orI .u32 (shlI .u32 1 (IntKind.wrap .u64 (IntKind.wrap .i64 (y835 - 100)))) y851))) >>= fun l853 =>
           p_impl_startsOf_L6 y4 x5b2 x19b2 y683 y788 a0 y680 x29b4 l1 (IntKind.wrap .i64 (x35b6 + 1)) l853
          else none
         else none
       else none
      else none
     else
      p_impl_startsOf_L6 y4 x5b2 x19b2 y683 y788 a0 y680 x29b4 l1 (IntKind.wrap .i64 (x35b6 + 1)) b3_0b6
    else none
   else
    p_impl_startsOf_L6 y4 x5b2 x19b2 y683 y788 a0 y680 x29b4 l1 (IntKind.wrap .i64 (x35b6 + 1)) b3_0b6
  else none
 else
  some b3_0b6
partial_fixpoint
@[simp] noncomputable def L_impl_startsOf_L6 : Code := nav [1, 1, 1, 0, 1, 0, 0, 1, 0, 1, 1, 0, 0, 1, 1, 0, 0, 1, 1, 0, 1, 0, 0, 1, 1, 0, 0, 1, 1, 0, 0] (bodyOf Try.f71)
@[simp] def T_impl_startsOf_L6 (y4 : Int) (x5b2 : Bool) (x19b2 : Int) (y683 : Int) (y788 : LI) (a0 : L3) (y680 : L2) (x29b4 : Int) (l1 : LI) (x35b6 : Int) (b3_0b6 : LI) (st : Nat → Nat) : St := ⟨[(1, .one (.bp 1 (st 1) 0)), (2, .one (.bp 2 (st 2) 0)), (3, .one (.lit (.int .u32 y4))), (4, .one (.bp 3 (st 3) 0)), (5, .one (.lit (.bool x5b2))), (6, .one (.lit (.int .i64 x19b2))), (8, .one (.lit (.int .u32 y683))), (10, .one (.sl false 3 (List.map cI y788))), (17, .one (.sl false 38 (List.map (cL38 false) a0))), (18, .one (.lit (.int .i64 (a0.length : Int)))), (19, .one (.lit (.int .i64 x19b2))), (27, .one (.sl false 31 (List.map (cL31 false) y680))), (28, .one (.lit (.int .i64 (y680.length : Int)))), (29, .one (.lit (.int .i64 x29b4))), (33, .one (.sl false 3 (List.map cI y788))), (34, .one (.lit (.int .i64 (y788.length : Int)))), (35, .one (.lit (.int .i64 x35b6)))], [none, some (.box (st 1) [.sl false 38 (List.map (cL38 false) a0)]), some (.box (st 2) (List.map (kI .u32) l1)), some (.box (st 3) (List.map (kI .u32) b3_0b6))], (st 0)⟩
@[simp] def U_impl_startsOf_L6 (y4 : Int) (x5b2 : Bool) (x19b2 : Int) (y683 : Int) (y788 : LI) (a0 : L3) (y680 : L2) (x29b4 : Int) (l1 : LI) (o : LI) (st : Nat → Nat) : St := ⟨[(1, .one (.bp 1 (st 1) 0)), (2, .one (.bp 2 (st 2) 0)), (3, .one (.lit (.int .u32 y4))), (4, .one (.bp 3 (st 3) 0)), (5, .one (.lit (.bool x5b2))), (6, .one (.lit (.int .i64 x19b2))), (8, .one (.lit (.int .u32 y683))), (17, .one (.sl false 38 (List.map (cL38 false) a0))), (18, .one (.lit (.int .i64 (a0.length : Int)))), (19, .one (.lit (.int .i64 x19b2))), (27, .one (.sl false 31 (List.map (cL31 false) y680))), (28, .one (.lit (.int .i64 (y680.length : Int)))), (29, .one (.lit (.int .i64 x29b4)))], [none, some (.box (st 1) [.sl false 38 (List.map (cL38 false) a0)]), some (.box (st 2) (List.map (kI .u32) l1)), some (.box (st 3) (List.map (kI .u32) o))], (st 0)⟩
abbrev Q_impl_startsOf_L6 (y4 : Int) (x5b2 : Bool) (x19b2 : Int) (y683 : Int) (y788 : LI) (a0 : L3) (y680 : L2) (x29b4 : Int) (l1 : LI) (x35b6 : Int) (b3_0b6 : LI) (o : LI) : Prop := ∀ st : Nat → Nat, LoopG Try.prog cal_impl_startsOf 1 lm_impl_startsOf 6 L_impl_startsOf_L6 (U_impl_startsOf_L6 y4 x5b2 x19b2 y683 y788 a0 y680 x29b4 l1) (T_impl_startsOf_L6 y4 x5b2 x19b2 y683 y788 a0 y680 x29b4 l1 x35b6 b3_0b6 st) o
theorem l_impl_startsOf_L6 {y4 : Int} {x5b2 : Bool} {x19b2 : Int} {y683 : Int} {y788 : LI} {a0 : L3} {y680 : L2} {x29b4 : Int} {l1 : LI} {x35b6 : Int} {b3_0b6 : LI} {o : LI} (h : p_impl_startsOf_L6 y4 x5b2 x19b2 y683 y788 a0 y680 x29b4 l1 x35b6 b3_0b6 = some o) : Q_impl_startsOf_L6 y4 x5b2 x19b2 y683 y788 a0 y680 x29b4 l1 x35b6 b3_0b6 o := by
  refine p_impl_startsOf_L6.partial_correctness y4 x5b2 x19b2 y683 y788 a0 y680 x29b4 l1 (motive := fun x35b6 b3_0b6 o => Q_impl_startsOf_L6 y4 x5b2 x19b2 y683 y788 a0 y680 x29b4 l1 x35b6 b3_0b6 o) ?_ x35b6 b3_0b6 o h
  clear h o x35b6 b3_0b6
  intro p' ih x35b6 b3_0b6 r h st
  rcases ifc h with ⟨h833, h⟩ | ⟨h833, h⟩
  · obtain ⟨h834, h⟩ := ifg h
    obtain ⟨y835, h836, h⟩ := bd h
    rcases ifc h with ⟨h837, h⟩ | ⟨h837, h⟩
    · obtain ⟨h838, h⟩ := ifg h
      have h838i : x35b6 ≤ (y788.length : Int) := by omega
      obtain ⟨l839, h840, h⟩ := bd h
      have h840r : List.take x35b6.toNat (List.map cI y788) = List.map cI l839 := by rw [← Option.some.inj h840]; simp
      obtain ⟨y842, h841, h⟩ := bd h
      have h841c := c_impl_emptyIn h841
      rcases ifb h with ⟨h843, h⟩ | ⟨h843, h⟩
      · obtain ⟨h844, h⟩ := ifg h
        obtain ⟨h845, h⟩ := ifg h
        have h845i : x19b2 < 20 := by omega
        obtain ⟨y846, h847, h⟩ := bd h
        have h847b := (List.getElem?_eq_some_iff.1 h847).1
        have h847c : x19b2.toNat + 1 ≤ b3_0b6.length := h847b
        rcases ifc h with ⟨h848, h⟩ | ⟨h848, h⟩
        · cases h
        obtain ⟨h849, h⟩ := ifg h
        obtain ⟨h850, h⟩ := ifg h
        have h850i : (IntKind.wrap .i64 (y835 - 100)) < 20 := by omega
        obtain ⟨y851, h852, h⟩ := bd h
        have h852b := (List.getElem?_eq_some_iff.1 h852).1
        have h852c : (IntKind.wrap .i64 (y835 - 100)).toNat + 1 ≤ b3_0b6.length := h852b
        obtain ⟨l853, h854, h⟩ := bd h
        have h854r : (List.map (kI .u32) b3_0b6).set x19b2.toNat (.lit (.int .u32 (orI .u32 y846 (orI .u32 (shlI .u32 1 (IntKind.wrap .u64 (IntKind.wrap .i64 (y835 - 100)))) y851)))) = List.map (kI .u32) l853 := by rw [← Option.some.inj h854]; simp
        refine LoopG.step 0 (fun k hk => ?_) (ih _ _ _ h (sl [((st 0) + 1), (st 1), (st 2), (st 3)]))
        have hd_impl_startsOf_17 := dr_impl_startsOf_17
        simp only [opsOf, nav, bodyOf, Try.f71, Option.getD_some] at hd_impl_startsOf_17
        simp (implicitDefEqProofs := false) [-getElem?_pos, -getElem?_neg, Try.f71, h833, h834, h836, h837, h838, h838i, h840r, h841c, h843, ex_draw2 _ _ hd_impl_startsOf_17, h844, h845, h845i, h847, h847b, h847c, g_conv Try.underlying3 Try.underlying80, h848, h849, h850, h850i, h852, h852b, h852c, h854r]
      exact LoopG.step 0 (fun k hk => by simp (implicitDefEqProofs := false) [-getElem?_pos, -getElem?_neg, Try.f71, h833, h834, h836, h837, h838, h838i, h840r, h841c, h843]) (ih _ _ _ h (sl [((st 0) + 1), (st 1), (st 2), (st 3)]))
    exact LoopG.step 0 (fun k hk => by simp (implicitDefEqProofs := false) [-getElem?_pos, -getElem?_neg, Try.f71, h833, h834, h836, h837]) (ih _ _ _ h (sl [(st 0), (st 1), (st 2), (st 3)]))
  obtain rfl := Option.some.inj h
  exact LoopG.exit (sl [(st 0), (st 1), (st 2), (st 3)]) 0 (fun k hk => by simp (implicitDefEqProofs := false) [-getElem?_pos, -getElem?_neg, Try.f71, h833])
def p_impl_startsOf_L4 (y4 : Int) (x5b2 : Bool) (x19b2 : Int) (y683 : Int) (a0 : L3) (y680 : L2) (l1 : LI) (x29b4 : Int) (b3_0b4 : LI) : Option LI :=
 if x29b4 < (y680.length : Int) then
  if 0 ≤ x29b4 then
   y680[x29b4.toNat]? >>= fun y788 =>
   p_impl_startsOf_L6 y4 x5b2 x19b2 y683 y788 a0 y680 x29b4 l1 0 b3_0b4 >>= fun o856 =>
   p_impl_startsOf_L4 y4 x5b2 x19b2 y683 a0 y680 l1 (IntKind.wrap .i64 (x29b4 + 1)) o856
  else none
 else
  some b3_0b4
partial_fixpoint
@[simp] noncomputable def L_impl_startsOf_L4 : Code := nav [1, 1, 1, 0, 1, 0, 0, 1, 0, 1, 1, 0, 0, 1, 1, 0, 0, 1, 1, 0, 1, 0, 0] (bodyOf Try.f71)
@[simp] def T_impl_startsOf_L4 (y4 : Int) (x5b2 : Bool) (x19b2 : Int) (y683 : Int) (a0 : L3) (y680 : L2) (l1 : LI) (x29b4 : Int) (b3_0b4 : LI) (st : Nat → Nat) : St := ⟨[(1, .one (.bp 1 (st 1) 0)), (2, .one (.bp 2 (st 2) 0)), (3, .one (.lit (.int .u32 y4))), (4, .one (.bp 3 (st 3) 0)), (5, .one (.lit (.bool x5b2))), (6, .one (.lit (.int .i64 x19b2))), (8, .one (.lit (.int .u32 y683))), (17, .one (.sl false 38 (List.map (cL38 false) a0))), (18, .one (.lit (.int .i64 (a0.length : Int)))), (19, .one (.lit (.int .i64 x19b2))), (27, .one (.sl false 31 (List.map (cL31 false) y680))), (28, .one (.lit (.int .i64 (y680.length : Int)))), (29, .one (.lit (.int .i64 x29b4)))], [none, some (.box (st 1) [.sl false 38 (List.map (cL38 false) a0)]), some (.box (st 2) (List.map (kI .u32) l1)), some (.box (st 3) (List.map (kI .u32) b3_0b4))], (st 0)⟩
@[simp] def U_impl_startsOf_L4 (y4 : Int) (x5b2 : Bool) (x19b2 : Int) (y683 : Int) (a0 : L3) (y680 : L2) (l1 : LI) (o : LI) (st : Nat → Nat) : St := ⟨[(1, .one (.bp 1 (st 1) 0)), (2, .one (.bp 2 (st 2) 0)), (3, .one (.lit (.int .u32 y4))), (4, .one (.bp 3 (st 3) 0)), (5, .one (.lit (.bool x5b2))), (6, .one (.lit (.int .i64 x19b2))), (8, .one (.lit (.int .u32 y683))), (17, .one (.sl false 38 (List.map (cL38 false) a0))), (18, .one (.lit (.int .i64 (a0.length : Int)))), (19, .one (.lit (.int .i64 x19b2)))], [none, some (.box (st 1) [.sl false 38 (List.map (cL38 false) a0)]), some (.box (st 2) (List.map (kI .u32) l1)), some (.box (st 3) (List.map (kI .u32) o))], (st 0)⟩
abbrev Q_impl_startsOf_L4 (y4 : Int) (x5b2 : Bool) (x19b2 : Int) (y683 : Int) (a0 : L3) (y680 : L2) (l1 : LI) (x29b4 : Int) (b3_0b4 : LI) (o : LI) : Prop := ∀ st : Nat → Nat, LoopG Try.prog cal_impl_startsOf 1 lm_impl_startsOf 4 L_impl_startsOf_L4 (U_impl_startsOf_L4 y4 x5b2 x19b2 y683 a0 y680 l1) (T_impl_startsOf_L4 y4 x5b2 x19b2 y683 a0 y680 l1 x29b4 b3_0b4 st) o
theorem l_impl_startsOf_L4 {y4 : Int} {x5b2 : Bool} {x19b2 : Int} {y683 : Int} {a0 : L3} {y680 : L2} {l1 : LI} {x29b4 : Int} {b3_0b4 : LI} {o : LI} (h : p_impl_startsOf_L4 y4 x5b2 x19b2 y683 a0 y680 l1 x29b4 b3_0b4 = some o) : Q_impl_startsOf_L4 y4 x5b2 x19b2 y683 a0 y680 l1 x29b4 b3_0b4 o := by
  refine p_impl_startsOf_L4.partial_correctness y4 x5b2 x19b2 y683 a0 y680 l1 (motive := fun x29b4 b3_0b4 o => Q_impl_startsOf_L4 y4 x5b2 x19b2 y683 a0 y680 l1 x29b4 b3_0b4 o) ?_ x29b4 b3_0b4 o h
  clear h o x29b4 b3_0b4
  intro p' ih x29b4 b3_0b4 r h st
  rcases ifc h with ⟨h786, h⟩ | ⟨h786, h⟩
  · obtain ⟨h787, h⟩ := ifg h
    obtain ⟨y788, h789, h⟩ := bd h
    obtain ⟨o856, h855, h⟩ := bd h
    have qK857 := l_impl_startsOf_L6 h855 (sl [(st 0), (st 1), (st 2), (st 3)])
    obtain ⟨s858, K857, qK857⟩ := qK857
    refine LoopG.step K857 (fun k hk => ?_) (ih _ _ _ h (sl [(s858 0), (s858 1), (s858 2), (s858 3)]))
    have jK857 := qK857 k (by omega) k (by omega)
    simp (implicitDefEqProofs := false) [-getElem?_pos, -getElem?_neg, Try.f71, h786, h787, h789] at jK857
    simp (implicitDefEqProofs := false) [-getElem?_pos, -getElem?_neg, Try.f71, h786, h787, h789, jK857]
  obtain rfl := Option.some.inj h
  exact LoopG.exit (sl [(st 0), (st 1), (st 2), (st 3)]) 0 (fun k hk => by simp (implicitDefEqProofs := false) [-getElem?_pos, -getElem?_neg, Try.f71, h786])
def p_impl_startsOf_L2 (y4 : Int) (a0 : L3) (l1 : LI) (x5b2 : Bool) (x19b2 : Int) (b3_0b2 : LI) : Option (Bool × LI) :=
 if x19b2 < (a0.length : Int) then
  if 0 ≤ x19b2 then
   a0[x19b2.toNat]? >>= fun y680 =>
   if x19b2.toNat < 20 then
    b3_0b2[x19b2.toNat]? >>= fun y683 =>
    p_impl_startsOf_L4 y4 x5b2 x19b2 y683 a0 y680 l1 0 b3_0b2 >>= fun o860 =>
    if x5b2 then
     p_impl_startsOf_L2 y4 a0 l1 true (IntKind.wrap .i64 (x19b2 + 1)) o860
    else
     o860[x19b2.toNat]? >>= fun y864 =>
     if y864 = y683 then
      p_impl_startsOf_L2 y4 a0 l1 false (IntKind.wrap .i64 (x19b2 + 1)) o860
     else
      p_impl_startsOf_L2 y4 a0 l1 true (IntKind.wrap .i64 (x19b2 + 1)) o860
   else none
  else none
 else
  some (x5b2, b3_0b2)
partial_fixpoint
@[simp] noncomputable def L_impl_startsOf_L2 : Code := nav [1, 1, 1, 0, 1, 0, 0, 1, 0, 1, 1, 0, 0] (bodyOf Try.f71)
@[simp] def T_impl_startsOf_L2 (y4 : Int) (a0 : L3) (l1 : LI) (x5b2 : Bool) (x19b2 : Int) (b3_0b2 : LI) (st : Nat → Nat) : St := ⟨[(1, .one (.bp 1 (st 1) 0)), (2, .one (.bp 2 (st 2) 0)), (3, .one (.lit (.int .u32 y4))), (4, .one (.bp 3 (st 3) 0)), (5, .one (.lit (.bool x5b2))), (17, .one (.sl false 38 (List.map (cL38 false) a0))), (18, .one (.lit (.int .i64 (a0.length : Int)))), (19, .one (.lit (.int .i64 x19b2)))], [none, some (.box (st 1) [.sl false 38 (List.map (cL38 false) a0)]), some (.box (st 2) (List.map (kI .u32) l1)), some (.box (st 3) (List.map (kI .u32) b3_0b2))], (st 0)⟩
@[simp] def U_impl_startsOf_L2 (y4 : Int) (a0 : L3) (l1 : LI) (o : Bool × LI) (st : Nat → Nat) : St := ⟨[(1, .one (.bp 1 (st 1) 0)), (2, .one (.bp 2 (st 2) 0)), (3, .one (.lit (.int .u32 y4))), (4, .one (.bp 3 (st 3) 0)), (5, .one (.lit (.bool o.1)))], [none, some (.box (st 1) [.sl false 38 (List.map (cL38 false) a0)]), some (.box (st 2) (List.map (kI .u32) l1)), some (.box (st 3) (List.map (kI .u32) o.2))], (st 0)⟩
abbrev Q_impl_startsOf_L2 (y4 : Int) (a0 : L3) (l1 : LI) (x5b2 : Bool) (x19b2 : Int) (b3_0b2 : LI) (o : Bool × LI) : Prop := ∀ st : Nat → Nat, LoopG Try.prog cal_impl_startsOf 1 lm_impl_startsOf 2 L_impl_startsOf_L2 (U_impl_startsOf_L2 y4 a0 l1) (T_impl_startsOf_L2 y4 a0 l1 x5b2 x19b2 b3_0b2 st) o
theorem l_impl_startsOf_L2 {y4 : Int} {a0 : L3} {l1 : LI} {x5b2 : Bool} {x19b2 : Int} {b3_0b2 : LI} {o : Bool × LI} (h : p_impl_startsOf_L2 y4 a0 l1 x5b2 x19b2 b3_0b2 = some o) : Q_impl_startsOf_L2 y4 a0 l1 x5b2 x19b2 b3_0b2 o := by
  refine p_impl_startsOf_L2.partial_correctness y4 a0 l1 (motive := fun x5b2 x19b2 b3_0b2 o => Q_impl_startsOf_L2 y4 a0 l1 x5b2 x19b2 b3_0b2 o) ?_ x5b2 x19b2 b3_0b2 o h
  clear h o x5b2 x19b2 b3_0b2
  intro p' ih x5b2 x19b2 b3_0b2 r h st
  rcases ifc h with ⟨h678, h⟩ | ⟨h678, h⟩
  · obtain ⟨h679, h⟩ := ifg h
    obtain ⟨y680, h681, h⟩ := bd h
    obtain ⟨h682, h⟩ := ifg h
    have h682i : x19b2 < 20 := by omega
    obtain ⟨y683, h684, h⟩ := bd h
    have h684b := (List.getElem?_eq_some_iff.1 h684).1
    have h684c : x19b2.toNat + 1 ≤ b3_0b2.length := h684b
    obtain ⟨o860, h859, h⟩ := bd h
    have qK861 := l_impl_startsOf_L4 h859 (sl [(st 0), (st 1), (st 2), (st 3)])
    obtain ⟨s862, K861, qK861⟩ := qK861
    rcases ifb h with ⟨h863, h⟩ | ⟨h863, h⟩
    · refine LoopG.step K861 (fun k hk => ?_) (ih _ _ _ _ h (sl [(s862 0), (s862 1), (s862 2), (s862 3)]))
      have jK861 := qK861 k (by omega) k (by omega)
      simp (implicitDefEqProofs := false) [-getElem?_pos, -getElem?_neg, Try.f71, h678, h679, h681, h682, h682i, h684, h684b, h684c, h863] at jK861
      simp (implicitDefEqProofs := false) [-getElem?_pos, -getElem?_neg, Try.f71, h678, h679, h681, h682, h682i, h684, h684b, h684c, h863, jK861]
    obtain ⟨y864, h865, h⟩ := bd h
    have h865b := (List.getElem?_eq_some_iff.1 h865).1
    have h865c : x19b2.toNat + 1 ≤ o860.length := h865b
    rcases ifc h with ⟨h866, h⟩ | ⟨h866, h⟩
    · refine LoopG.step K861 (fun k hk => ?_) (ih _ _ _ _ h (sl [(s862 0), (s862 1), (s862 2), (s862 3)]))
      have jK861 := qK861 k (by omega) k (by omega)
      simp (implicitDefEqProofs := false) [-getElem?_pos, -getElem?_neg, Try.f71, h678, h679, h681, h682, h682i, h684, h684b, h684c, h863, h865, h865b, h865c, (eq_true h866)] at jK861
      simp (implicitDefEqProofs := false) [-getElem?_pos, -getElem?_neg, Try.f71, h678, h679, h681, h682, h682i, h684, h684b, h684c, h863, h865, h865b, h865c, (eq_true h866), jK861]
    refine LoopG.step K861 (fun k hk => ?_) (ih _ _ _ _ h (sl [(s862 0), (s862 1), (s862 2), (s862 3)]))
    have jK861 := qK861 k (by omega) k (by omega)
    simp (implicitDefEqProofs := false) [-getElem?_pos, -getElem?_neg, Try.f71, h678, h679, h681, h682, h682i, h684, h684b, h684c, h863, h865, h865b, h865c, h866] at jK861
    simp (implicitDefEqProofs := false) [-getElem?_pos, -getElem?_neg, Try.f71, h678, h679, h681, h682, h682i, h684, h684b, h684c, h863, h865, h865b, h865c, h866, jK861]
  obtain rfl := Option.some.inj h
  exact LoopG.exit (sl [(st 0), (st 1), (st 2), (st 3)]) 0 (fun k hk => by simp (implicitDefEqProofs := false) [-getElem?_pos, -getElem?_neg, Try.f71, h678])
def p_impl_startsOf_L0 (y4 : Int) (a0 : L3) (l1 : LI) (x5b0 : Bool) (b3_0b0 : LI) : Option LI :=
 if x5b0 then
  p_impl_startsOf_L2 y4 a0 l1 false 0 b3_0b0 >>= fun o868 =>
  p_impl_startsOf_L0 y4 a0 l1 o868.1 o868.2
 else
  some b3_0b0
partial_fixpoint
@[simp] noncomputable def L_impl_startsOf_L0 : Code := nav [1, 1, 1, 0, 1, 0, 0] (bodyOf Try.f71)
@[simp] def T_impl_startsOf_L0 (y4 : Int) (a0 : L3) (l1 : LI) (x5b0 : Bool) (b3_0b0 : LI) (st : Nat → Nat) : St := ⟨[(1, .one (.bp 1 (st 1) 0)), (2, .one (.bp 2 (st 2) 0)), (3, .one (.lit (.int .u32 y4))), (4, .one (.bp 3 (st 3) 0)), (5, .one (.lit (.bool x5b0)))], [none, some (.box (st 1) [.sl false 38 (List.map (cL38 false) a0)]), some (.box (st 2) (List.map (kI .u32) l1)), some (.box (st 3) (List.map (kI .u32) b3_0b0))], (st 0)⟩
@[simp] def U_impl_startsOf_L0 (y4 : Int) (a0 : L3) (l1 : LI) (o : LI) (st : Nat → Nat) : St := ⟨[(2, .one (.bp 2 (st 1) 0)), (4, .one (.bp 3 (st 2) 0))], [none, some (.box (st 3) [.sl false 38 (List.map (cL38 false) a0)]), some (.box (st 1) (List.map (kI .u32) l1)), some (.box (st 2) (List.map (kI .u32) o))], (st 0)⟩
abbrev Q_impl_startsOf_L0 (y4 : Int) (a0 : L3) (l1 : LI) (x5b0 : Bool) (b3_0b0 : LI) (o : LI) : Prop := ∀ st : Nat → Nat, LoopG Try.prog cal_impl_startsOf 1 lm_impl_startsOf 0 L_impl_startsOf_L0 (U_impl_startsOf_L0 y4 a0 l1) (T_impl_startsOf_L0 y4 a0 l1 x5b0 b3_0b0 st) o
theorem l_impl_startsOf_L0 {y4 : Int} {a0 : L3} {l1 : LI} {x5b0 : Bool} {b3_0b0 : LI} {o : LI} (h : p_impl_startsOf_L0 y4 a0 l1 x5b0 b3_0b0 = some o) : Q_impl_startsOf_L0 y4 a0 l1 x5b0 b3_0b0 o := by
  refine p_impl_startsOf_L0.partial_correctness y4 a0 l1 (motive := fun x5b0 b3_0b0 o => Q_impl_startsOf_L0 y4 a0 l1 x5b0 b3_0b0 o) ?_ x5b0 b3_0b0 o h
  clear h o x5b0 b3_0b0
  intro p' ih x5b0 b3_0b0 r h st
  rcases ifb h with ⟨h456, h⟩ | ⟨h456, h⟩
  · obtain ⟨o868, h867, h⟩ := bd h
    have qK869 := l_impl_startsOf_L2 h867 (sl [(st 0), (st 1), (st 2), (st 3)])
    obtain ⟨s870, K869, qK869⟩ := qK869
    refine LoopG.step K869 (fun k hk => ?_) (ih _ _ _ h (sl [(s870 0), (s870 1), (s870 2), (s870 3)]))
    have jK869 := qK869 k (by omega) k (by omega)
    simp (implicitDefEqProofs := false) [-getElem?_pos, -getElem?_neg, Try.f71, h456] at jK869
    simp (implicitDefEqProofs := false) [-getElem?_pos, -getElem?_neg, Try.f71, h456, jK869]
  obtain rfl := Option.some.inj h
  exact LoopG.exit (sl [(st 0), (st 2), (st 3), (st 1)]) 0 (fun k hk => by simp (implicitDefEqProofs := false) [-getElem?_pos, -getElem?_neg, Try.f71, h456])
def p_impl_startsOf (a0 : L3) : Option LI :=
 some (List.replicate 20 (0 : Int)) >>= fun l1 =>
 p_impl_empties a0 >>= fun y4 =>
 p_impl_startsOf_L0 y4 a0 l1 true l1 >>= fun o872 =>
 if o872.length = 20 then
  if l1.length = 20 then
   some () >>= fun u877 =>
   some o872
  else none
 else none
theorem t_impl_startsOf {a0 : L3} {r : LI} (h : p_impl_startsOf a0 = some r) : ∃ k, told Try.prog (cal_impl_startsOf k) k lm_impl_startsOf Try.f71 (arg_impl_startsOf a0) = some (res_impl_startsOf r) := by
  unfold p_impl_startsOf at h
  obtain ⟨l1, h2, h⟩ := bd h
  have h2r : [.lit (.int .u32 0), .lit (.int .u32 0), .lit (.int .u32 0), .lit (.int .u32 0), .lit (.int .u32 0), .lit (.int .u32 0), .lit (.int .u32 0), .lit (.int .u32 0), .lit (.int .u32 0), .lit (.int .u32 0), .lit (.int .u32 0), .lit (.int .u32 0), .lit (.int .u32 0), .lit (.int .u32 0), .lit (.int .u32 0), .lit (.int .u32 0), .lit (.int .u32 0), .lit (.int .u32 0), .lit (.int .u32 0), .lit (.int .u32 0)] = List.map (kI .u32) l1 := by rw [← Option.some.inj h2]; rfl
  obtain ⟨y4, h3, h⟩ := bd h
  have h3c := c_impl_empties h3
  obtain ⟨o872, h871, h⟩ := bd h
  have qK873 := l_impl_startsOf_L0 h871 (sl [5, 1, 2, 4])
  obtain ⟨s874, K873, qK873⟩ := qK873
  obtain ⟨h875, h⟩ := ifg h
  obtain ⟨h876, h⟩ := ifg h
  obtain ⟨u877, h878, h⟩ := bd h
  have h878p := arr_put (n := 20) (a := l1) (b := o872) (by assumption) (by assumption) (kI .u32)
  obtain rfl := Option.some.inj h
  obtain ⟨k, hk⟩ : ∃ k, K873 ≤ k := ⟨_, Nat.le_refl _⟩
  have jK873 := qK873 k (by omega) k (by omega)
  simp (implicitDefEqProofs := false) [-getElem?_pos, -getElem?_neg, Try.f71, h2r, h3c, h875, h876, h878p] at jK873
  refine ⟨k, ?_⟩
  simp (implicitDefEqProofs := false) [-getElem?_pos, -getElem?_neg, Try.f71, h2r, h3c, h875, h876, h878p, jK873]
theorem inj_impl_startsOf : ∀ a b, arg_impl_startsOf a = arg_impl_startsOf b → a = b := by
  intro x y h; simp [arg_impl_startsOf] at h; simp [Prod.ext_iff, h]
noncomputable def F_impl_startsOf : Con := nilfix [[some 38]] (pcon arg_impl_startsOf (fun a => p_impl_startsOf a) res_impl_startsOf)
theorem fn_impl_startsOf : Fn Try.prog 71 F_impl_startsOf := (Fn.pure cal_impl_startsOf (fun k w0 h0 => ok_impl_startsOf k w0 h0) mixed Try.func71 rfl rfl (by kernel_rfl) 1 (by decide) (fun _ => rfl) lm_impl_startsOf (fun a b h => t_impl_startsOf h)).nilfix _
theorem c_impl_startsOf {a0 : L3} {r : LI} (h : p_impl_startsOf a0 = some r) : F_impl_startsOf [.agg [.sl false 38 (List.map (cL38 false) a0)]] = some (((false, [some 20]), (List.map (kI .u32) r))) := pcon_at (arg := arg_impl_startsOf) (p := fun a => p_impl_startsOf a) (res := res_impl_startsOf) (a := a0) (b := r) inj_impl_startsOf h
noncomputable def cal_impl_isProductive (k : Nat) : Cal := calI (tabOf [(65, F_impl_flags_has)]) (inlOf [])
@[simp] theorem cal_impl_isProductive_ap (k g : Nat) (vs : List TV) (mem : Mem) (ep : Nat) : cal_impl_isProductive k g vs mem ep = calI (tabOf [(65, F_impl_flags_has)]) (inlOf []) g vs mem ep := rfl
theorem ok_impl_isProductive (k : Nat) (w0 : World) (h0 : True) : CalOk Try.prog w0.heap.size w0 (cal_impl_isProductive k) := by
  exact calI_ok (J := fun _ => True) stab_true (tabOf_ok _ (by simp [fn_impl_flags_has])) (inlOf_ok _ (by simp [])) h0
@[simp] def lm_impl_isProductive : Nat → List Nat × Nat := fun b => if b = 0 then ([1, 7, 8, 9], 0) else if b = 2000000 then ([], 8888888) else if b = 3000000 then ([], 0) else ([], 0)
@[simp] def arg_impl_isProductive (a : LI × Int) : List TV := [.one (.sl false 3 (List.map cI a.1)), .one (.lit (.int .u32 a.2))]
@[simp] def res_impl_isProductive (r : Bool) : Sh × List V := ((false, [none]), [.lit (.bool r)])
def p_impl_isProductive_L0 (a1 : Int) (a0 : LI) (x9b0 : Int) : Option (Bool ⊕ Unit) :=
 if x9b0 < (a0.length : Int) then
  if 0 ≤ x9b0 then
   a0[x9b0.toNat]? >>= fun y18 =>
   if 100 ≤ y18 then
    p_impl_flags_has a1 (IntKind.wrap .i64 (y18 - 100)) >>= fun y22 =>
    if y22 then
     p_impl_isProductive_L0 a1 a0 (IntKind.wrap .i64 (x9b0 + 1))
    else
     some (.inl false)
   else
    p_impl_isProductive_L0 a1 a0 (IntKind.wrap .i64 (x9b0 + 1))
  else none
 else
  some (.inr ())
partial_fixpoint
@[simp] noncomputable def L_impl_isProductive_L0 : Code := nav [1, 0, 1, 0, 0] (bodyOf Try.f84)
@[simp] def T_impl_isProductive_L0 (a1 : Int) (a0 : LI) (x9b0 : Int) (st : Nat → Nat) : St := ⟨[(1, .one (.lit (.int .u32 a1))), (7, .one (.sl false 3 (List.map cI a0))), (8, .one (.lit (.int .i64 (a0.length : Int)))), (9, .one (.lit (.int .i64 x9b0)))], [none], (st 0)⟩
@[simp] def U_impl_isProductive_L0 (a1 : Int) (a0 : LI) (o : Unit) (st : Nat → Nat) : St := ⟨[], [none], (st 0)⟩
abbrev Q_impl_isProductive_L0 (a1 : Int) (a0 : LI) (x9b0 : Int) (o : Bool ⊕ Unit) : Prop := ∀ st : Nat → Nat, LoopT Try.prog cal_impl_isProductive 1 lm_impl_isProductive 0 L_impl_isProductive_L0 (tellS Try.prog lm_impl_isProductive [.tmp 4]) res_impl_isProductive (U_impl_isProductive_L0 a1 a0) (T_impl_isProductive_L0 a1 a0 x9b0 st) o
theorem l_impl_isProductive_L0 {a1 : Int} {a0 : LI} {x9b0 : Int} {o : Bool ⊕ Unit} (h : p_impl_isProductive_L0 a1 a0 x9b0 = some o) : Q_impl_isProductive_L0 a1 a0 x9b0 o := by
  refine p_impl_isProductive_L0.partial_correctness a1 a0 (motive := fun x9b0 o => Q_impl_isProductive_L0 a1 a0 x9b0 o) ?_ x9b0 o h
  clear h o x9b0
  intro p' ih x9b0 r h st
  rcases ifc h with ⟨h16, h⟩ | ⟨h16, h⟩
  · obtain ⟨h17, h⟩ := ifg h
    obtain ⟨y18, h19, h⟩ := bd h
    rcases ifc h with ⟨h20, h⟩ | ⟨h20, h⟩
    · obtain ⟨y22, h21, h⟩ := bd h
      have h21c := c_impl_flags_has h21
      try simp (implicitDefEqProofs := false) [-getElem?_pos, -getElem?_neg] at h21c
      rcases ifb h with ⟨h23, h⟩ | ⟨h23, h⟩
      · exact LoopT.step 0 (fun k hk => by simp (implicitDefEqProofs := false) [-getElem?_pos, -getElem?_neg, Try.f84, h16, h17, h19, h20, h21c, h23]) (ih _ _ h (sl [((st 0) + 1)]))
      obtain rfl := Option.some.inj h
      exact LoopT.ret 0 (fun k hk => by simp (implicitDefEqProofs := false) [-getElem?_pos, -getElem?_neg, Try.f84, h16, h17, h19, h20, h21c, h23])
    exact LoopT.step 0 (fun k hk => by simp (implicitDefEqProofs := false) [-getElem?_pos, -getElem?_neg, Try.f84, h16, h17, h19, h20]) (ih _ _ h (sl [(st 0)]))
  obtain rfl := Option.some.inj h
  exact LoopT.exit (sl [(st 0)]) 0 (fun k hk => by simp (implicitDefEqProofs := false) [-getElem?_pos, -getElem?_neg, Try.f84, h16])
def p_impl_isProductive (a0 : LI) (a1 : Int) : Option Bool :=
 p_impl_isProductive_L0 a1 a0 0 >>= fun o25 => match o25 with
 | .inl o25 =>
  some o25
 | .inr o25 =>
  some true
theorem t_impl_isProductive {a0 : LI} {a1 : Int} {r : Bool} (h : p_impl_isProductive a0 a1 = some r) : ∃ k, told Try.prog (cal_impl_isProductive k) k lm_impl_isProductive Try.f84 (arg_impl_isProductive (a0, a1)) = some (res_impl_isProductive r) := by
  unfold p_impl_isProductive at h
  obtain ⟨o25, h24, h⟩ := bd h
  have qK26 := l_impl_isProductive_L0 h24 (sl [1])
  rcases o25 with o25 | o25
  · obtain ⟨K26, qK26⟩ := qK26
    obtain rfl := Option.some.inj h
    obtain ⟨k, hk⟩ : ∃ k, K26 ≤ k := ⟨_, Nat.le_refl _⟩
    obtain ⟨S_K26, jK26, iK26⟩ := qK26 k (by omega) k (by omega)
    simp (implicitDefEqProofs := false) [-getElem?_pos, -getElem?_neg, Try.f84] at jK26
    refine ⟨k, ?_⟩
    simp (implicitDefEqProofs := false) [-getElem?_pos, -getElem?_neg, Try.f84, iK26, jK26]
  obtain ⟨s27, K26, qK26⟩ := qK26
  obtain rfl := Option.some.inj h
  obtain ⟨k, hk⟩ : ∃ k, K26 ≤ k := ⟨_, Nat.le_refl _⟩
  have jK26 := qK26 k (by omega) k (by omega)
  simp (implicitDefEqProofs := false) [-getElem?_pos, -getElem?_neg, Try.f84] at jK26
  refine ⟨k, ?_⟩
  simp (implicitDefEqProofs := false) [-getElem?_pos, -getElem?_neg, Try.f84, jK26]
theorem inj_impl_isProductive : ∀ a b, arg_impl_isProductive a = arg_impl_isProductive b → a = b := by
  rintro ⟨x0, x1⟩ ⟨y0, y1⟩ h; simp [arg_impl_isProductive] at h; simp [Prod.ext_iff, h]
noncomputable def F_impl_isProductive : Con := nilfix [[some 3], [none]] (pcon arg_impl_isProductive (fun a => p_impl_isProductive a.1 a.2) res_impl_isProductive)
theorem fn_impl_isProductive : Fn Try.prog 84 F_impl_isProductive := (Fn.pure cal_impl_isProductive (fun k w0 h0 => ok_impl_isProductive k w0 h0) mixed Try.func84 rfl rfl (by kernel_rfl) 2 (by decide) (fun _ => rfl) lm_impl_isProductive (fun a b h => t_impl_isProductive h)).nilfix _
theorem c_impl_isProductive {a0 : LI} {a1 : Int} {r : Bool} (h : p_impl_isProductive a0 a1 = some r) : F_impl_isProductive [.one (.sl false 3 (List.map cI a0)), .one (.lit (.int .u32 a1))] = some (((false, [none]), [.lit (.bool r)])) := pcon_at (arg := arg_impl_isProductive) (p := fun a => p_impl_isProductive a.1 a.2) (res := res_impl_isProductive) (a := (a0, a1)) (b := r) inj_impl_isProductive h
noncomputable def cal_impl_productive_1 (k : Nat) : Cal := calI (tabOf [(84, F_impl_isProductive)]) (inlOf [])
@[simp] theorem cal_impl_productive_1_ap (k g : Nat) (vs : List TV) (mem : Mem) (ep : Nat) : cal_impl_productive_1 k g vs mem ep = calI (tabOf [(84, F_impl_isProductive)]) (inlOf []) g vs mem ep := rfl
theorem ok_impl_productive_1 (k : Nat) (w0 : World) (h0 : True) : CalOk Try.prog w0.heap.size w0 (cal_impl_productive_1 k) := by
  exact calI_ok (J := fun _ => True) stab_true (tabOf_ok _ (by simp [fn_impl_isProductive])) (inlOf_ok _ (by simp [])) h0
@[simp] def lm_impl_productive_1 : Nat → List Nat × Nat := fun b => if b = 0 then ([0, 9, 10, 11], 0) else if b = 2000000 then ([], 8888888) else if b = 3000000 then ([0], 0) else if b = 2 then ([0, 4, 9, 10, 11, 16, 17, 18], 0) else if b = 2000002 then ([], 8888888) else if b = 3000002 then ([0, 9, 10, 11], 0) else ([], 0)
@[simp] def arg_impl_productive_1 (a : Int × L3) : List TV := [.one (.lit (.int .u32 a.1)), .one (.rp [.sl false 38 (List.map (cL38 false) a.2)] 0)]
@[simp] def res_impl_productive_1 (r : Int) : Sh × List V := ((false, [none]), [.lit (.int .u32 r)])
def p_impl_productive_1_L2 (x11b0 : Int) (a1 : L3) (y46 : L2) (x0b2 : Int) (x18b2 : Int) : Option (Int) :=
 if x18b2 < (y46.length : Int) then
  if 0 ≤ x18b2 then
   y46[x18b2.toNat]? >>= fun y65 =>
   p_impl_isProductive y65 x0b2 >>= fun y68 =>
   if y68 then
    if (IntKind.wrap .u64 x11b0) < 0 then
     none
    else
     p_impl_productive_1_L2 x11b0 a1 y46 (orI .u32 x0b2 (shlI .u32 1 (IntKind.wrap .u64 x11b0))) (IntKind.wrap .i64 (x18b2 + 1))
   else
    p_impl_productive_1_L2 x11b0 a1 y46 x0b2 (IntKind.wrap .i64 (x18b2 + 1))
  else none
 else
  some x0b2
partial_fixpoint
@[simp] noncomputable def L_impl_productive_1_L2 : Code := nav [1, 0, 1, 0, 0, 1, 1, 0, 0, 1, 1, 0, 0] (bodyOf Try.f83)
@[simp] def T_impl_productive_1_L2 (x11b0 : Int) (a1 : L3) (y46 : L2) (x0b2 : Int) (x18b2 : Int) (st : Nat → Nat) : St := ⟨[(0, .one (.lit (.int .u32 x0b2))), (4, .one (.lit (.int .i64 x11b0))), (9, .one (.sl false 38 (List.map (cL38 false) a1))), (10, .one (.lit (.int .i64 (a1.length : Int)))), (11, .one (.lit (.int .i64 x11b0))), (16, .one (.sl false 31 (List.map (cL31 false) y46))), (17, .one (.lit (.int .i64 (y46.length : Int)))), (18, .one (.lit (.int .i64 x18b2)))], [none], (st 0)⟩
@[simp] def U_impl_productive_1_L2 (x11b0 : Int) (a1 : L3) (y46 : L2) (o : Int) (st : Nat → Nat) : St := ⟨[(0, .one (.lit (.int .u32 o))), (9, .one (.sl false 38 (List.map (cL38 false) a1))), (10, .one (.lit (.int .i64 (a1.length : Int)))), (11, .one (.lit (.int .i64 x11b0)))], [none], (st 0)⟩
abbrev Q_impl_productive_1_L2 (x11b0 : Int) (a1 : L3) (y46 : L2) (x0b2 : Int) (x18b2 : Int) (o : Int) : Prop := ∀ st : Nat → Nat, LoopG Try.prog cal_impl_productive_1 1 lm_impl_productive_1 2 L_impl_productive_1_L2 (U_impl_productive_1_L2 x11b0 a1 y46) (T_impl_productive_1_L2 x11b0 a1 y46 x0b2 x18b2 st) o
theorem l_impl_productive_1_L2 {x11b0 : Int} {a1 : L3} {y46 : L2} {x0b2 : Int} {x18b2 : Int} {o : Int} (h : p_impl_productive_1_L2 x11b0 a1 y46 x0b2 x18b2 = some o) : Q_impl_productive_1_L2 x11b0 a1 y46 x0b2 x18b2 o := by
  refine p_impl_productive_1_L2.partial_correctness x11b0 a1 y46 (motive := fun x0b2 x18b2 o => Q_impl_productive_1_L2 x11b0 a1 y46 x0b2 x18b2 o) ?_ x0b2 x18b2 o h
  clear h o x0b2 x18b2
  intro p' ih x0b2 x18b2 r h st
  rcases ifc h with ⟨h63, h⟩ | ⟨h63, h⟩
  · obtain ⟨h64, h⟩ := ifg h
    obtain ⟨y65, h66, h⟩ := bd h
    obtain ⟨y68, h67, h⟩ := bd h
    have h67c := c_impl_isProductive h67
    rcases ifb h with ⟨h69, h⟩ | ⟨h69, h⟩
    · rcases ifc h with ⟨h70, h⟩ | ⟨h70, h⟩
      · cases h
      exact LoopG.step 0 (fun k hk => by simp (implicitDefEqProofs := false) [-getElem?_pos, -getElem?_neg, Try.f83, h63, h64, h66, h67c, h69, g_conv Try.underlying3 Try.underlying80, h70]) (ih _ _ _ h (sl [((st 0) + 1)]))
    exact LoopG.step 0 (fun k hk => by simp (implicitDefEqProofs := false) [-getElem?_pos, -getElem?_neg, Try.f83, h63, h64, h66, h67c, h69]) (ih _ _ _ h (sl [((st 0) + 1)]))
  obtain rfl := Option.some.inj h
  exact LoopG.exit (sl [(st 0)]) 0 (fun k hk => by simp (implicitDefEqProofs := false) [-getElem?_pos, -getElem?_neg, Try.f83, h63])
def p_impl_productive_1_L0 (a1 : L3) (x0b0 : Int) (x11b0 : Int) : Option (Int) :=
 if x11b0 < (a1.length : Int) then
  if 0 ≤ x11b0 then
   a1[x11b0.toNat]? >>= fun y46 =>
   p_impl_productive_1_L2 x11b0 a1 y46 x0b0 0 >>= fun o72 =>
   p_impl_productive_1_L0 a1 o72 (IntKind.wrap .i64 (x11b0 + 1))
  else none
 else
  some x0b0
partial_fixpoint
@[simp] noncomputable def L_impl_productive_1_L0 : Code := nav [1, 0, 1, 0, 0] (bodyOf Try.f83)
@[simp] def T_impl_productive_1_L0 (a1 : L3) (x0b0 : Int) (x11b0 : Int) (st : Nat → Nat) : St := ⟨[(0, .one (.lit (.int .u32 x0b0))), (9, .one (.sl false 38 (List.map (cL38 false) a1))), (10, .one (.lit (.int .i64 (a1.length : Int)))), (11, .one (.lit (.int .i64 x11b0)))], [none], (st 0)⟩
@[simp] def U_impl_productive_1_L0 (a1 : L3) (o : Int) (st : Nat → Nat) : St := ⟨[(0, .one (.lit (.int .u32 o)))], [none], (st 0)⟩
abbrev Q_impl_productive_1_L0 (a1 : L3) (x0b0 : Int) (x11b0 : Int) (o : Int) : Prop := ∀ st : Nat → Nat, LoopG Try.prog cal_impl_productive_1 1 lm_impl_productive_1 0 L_impl_productive_1_L0 (U_impl_productive_1_L0 a1) (T_impl_productive_1_L0 a1 x0b0 x11b0 st) o
theorem l_impl_productive_1_L0 {a1 : L3} {x0b0 : Int} {x11b0 : Int} {o : Int} (h : p_impl_productive_1_L0 a1 x0b0 x11b0 = some o) : Q_impl_productive_1_L0 a1 x0b0 x11b0 o := by
  refine p_impl_productive_1_L0.partial_correctness a1 (motive := fun x0b0 x11b0 o => Q_impl_productive_1_L0 a1 x0b0 x11b0 o) ?_ x0b0 x11b0 o h
  clear h o x0b0 x11b0
  intro p' ih x0b0 x11b0 r h st
  rcases ifc h with ⟨h44, h⟩ | ⟨h44, h⟩
  · obtain ⟨h45, h⟩ := ifg h
    obtain ⟨y46, h47, h⟩ := bd h
    obtain ⟨o72, h71, h⟩ := bd h
    have qK73 := l_impl_productive_1_L2 h71 (sl [(st 0)])
    obtain ⟨s74, K73, qK73⟩ := qK73
    refine LoopG.step K73 (fun k hk => ?_) (ih _ _ _ h (sl [(s74 0)]))
    have jK73 := qK73 k (by omega) k (by omega)
    simp (implicitDefEqProofs := false) [-getElem?_pos, -getElem?_neg, Try.f83, h44, h45, h47] at jK73
    simp (implicitDefEqProofs := false) [-getElem?_pos, -getElem?_neg, Try.f83, h44, h45, h47, jK73]
  obtain rfl := Option.some.inj h
  exact LoopG.exit (sl [(st 0)]) 0 (fun k hk => by simp (implicitDefEqProofs := false) [-getElem?_pos, -getElem?_neg, Try.f83, h44])
def p_impl_productive_1 (a0 : Int) (a1 : L3) : Option Int :=
 p_impl_productive_1_L0 a1 a0 0 >>= fun o76 =>
 some o76
theorem t_impl_productive_1 {a0 : Int} {a1 : L3} {r : Int} (h : p_impl_productive_1 a0 a1 = some r) : ∃ k, told Try.prog (cal_impl_productive_1 k) k lm_impl_productive_1 Try.f83 (arg_impl_productive_1 (a0, a1)) = some (res_impl_productive_1 r) := by
  unfold p_impl_productive_1 at h
  obtain ⟨o76, h75, h⟩ := bd h
  have qK77 := l_impl_productive_1_L0 h75 (sl [1])
  obtain ⟨s78, K77, qK77⟩ := qK77
  obtain rfl := Option.some.inj h
  obtain ⟨k, hk⟩ : ∃ k, K77 ≤ k := ⟨_, Nat.le_refl _⟩
  have jK77 := qK77 k (by omega) k (by omega)
  simp (implicitDefEqProofs := false) [-getElem?_pos, -getElem?_neg, Try.f83] at jK77
  refine ⟨k, ?_⟩
  simp (implicitDefEqProofs := false) [-getElem?_pos, -getElem?_neg, Try.f83, jK77]
theorem inj_impl_productive_1 : ∀ a b, arg_impl_productive_1 a = arg_impl_productive_1 b → a = b := by
  rintro ⟨x0, x1⟩ ⟨y0, y1⟩ h; simp [arg_impl_productive_1] at h; simp [Prod.ext_iff, h]
noncomputable def F_impl_productive_1 : Con := nilfix [] (pcon arg_impl_productive_1 (fun a => p_impl_productive_1 a.1 a.2) res_impl_productive_1)
theorem fn_impl_productive_1 : Fn Try.prog 83 F_impl_productive_1 := (Fn.pure cal_impl_productive_1 (fun k w0 h0 => ok_impl_productive_1 k w0 h0) mixed Try.func83 rfl rfl (by kernel_rfl) 2 (by decide) (fun _ => rfl) lm_impl_productive_1 (fun a b h => t_impl_productive_1 h)).nilfix _
theorem c_impl_productive_1 {a0 : Int} {a1 : L3} {r : Int} (h : p_impl_productive_1 a0 a1 = some r) : F_impl_productive_1 [.one (.lit (.int .u32 a0)), .one (.rp [.sl false 38 (List.map (cL38 false) a1)] 0)] = some (((false, [none]), [.lit (.int .u32 r)])) := pcon_at (arg := arg_impl_productive_1) (p := fun a => p_impl_productive_1 a.1 a.2) (res := res_impl_productive_1) (a := (a0, a1)) (b := r) inj_impl_productive_1 h
noncomputable def cal_impl_growing_cl_productive_1 (k : Nat) : Cal := calI (tabOf [(83, F_impl_productive_1)]) (inlOf [])
@[simp] theorem cal_impl_growing_cl_productive_1_ap (k g : Nat) (vs : List TV) (mem : Mem) (ep : Nat) : cal_impl_growing_cl_productive_1 k g vs mem ep = calI (tabOf [(83, F_impl_productive_1)]) (inlOf []) g vs mem ep := rfl
theorem ok_impl_growing_cl_productive_1 (k : Nat) (w0 : World) (h0 : True) : CalOk Try.prog w0.heap.size w0 (cal_impl_growing_cl_productive_1 k) := by
  exact calI_ok (J := fun _ => True) stab_true (tabOf_ok _ (by simp [fn_impl_productive_1])) (inlOf_ok _ (by simp [])) h0
@[simp] def lm_impl_growing_cl_productive_1 : Nat → List Nat × Nat := fun b => if b = 0 then ([0, 3], 0) else if b = 2000000 then ([], 8888888) else ([], 0)
@[simp] def arg_impl_growing_cl_productive_1 (a : L3) : List TV := [.one (.cl 83 [.rp [.sl false 38 (List.map (cL38 false) a)] 0])]
@[simp] def res_impl_growing_cl_productive_1 (r : Int) : Sh × List V := ((false, [none]), [.lit (.int .u32 r)])
def p_impl_growing_cl_productive_1_L0 (a0c0 : L3) (x3b0 : Int) : Option (Int) :=
 p_impl_productive_1 x3b0 a0c0 >>= fun y8 =>
 if y8 = x3b0 then
  some x3b0
 else
  p_impl_growing_cl_productive_1_L0 a0c0 y8
partial_fixpoint
@[simp] noncomputable def L_impl_growing_cl_productive_1_L0 : Code := nav [1, 1, 0, 0] (bodyOf Try.f82)
@[simp] def T_impl_growing_cl_productive_1_L0 (a0c0 : L3) (x3b0 : Int) (st : Nat → Nat) : St := ⟨[(0, .one (.cl 83 [.rp [.sl false 38 (List.map (cL38 false) a0c0)] 0])), (3, .one (.lit (.int .u32 x3b0)))], [none], (st 0)⟩
abbrev Q_impl_growing_cl_productive_1_L0 (a0c0 : L3) (x3b0 : Int) (o : Int) : Prop := ∀ st : Nat → Nat, LoopsR Try.prog cal_impl_growing_cl_productive_1 1 lm_impl_growing_cl_productive_1 0 L_impl_growing_cl_productive_1_L0 (T_impl_growing_cl_productive_1_L0 a0c0 x3b0 st) (tellS Try.prog lm_impl_growing_cl_productive_1 [.tmp 2]) (res_impl_growing_cl_productive_1 o)
theorem l_impl_growing_cl_productive_1_L0 {a0c0 : L3} {x3b0 : Int} {o : Int} (h : p_impl_growing_cl_productive_1_L0 a0c0 x3b0 = some o) : Q_impl_growing_cl_productive_1_L0 a0c0 x3b0 o := by
  refine p_impl_growing_cl_productive_1_L0.partial_correctness a0c0 (motive := fun x3b0 o => Q_impl_growing_cl_productive_1_L0 a0c0 x3b0 o) ?_ x3b0 o h
  clear h o x3b0
  intro p' ih x3b0 r h st
  obtain ⟨y8, h7, h⟩ := bd h
  have h7c := c_impl_productive_1 h7
  rcases ifc h with ⟨h9, h⟩ | ⟨h9, h⟩
  · obtain rfl := Option.some.inj h
    exact LoopsR.stop 0 (fun k hk => by simp (implicitDefEqProofs := false) [-getElem?_pos, -getElem?_neg, Try.f82, h7c, (eq_true h9)])
  exact LoopsR.step 0 (fun k hk => by simp (implicitDefEqProofs := false) [-getElem?_pos, -getElem?_neg, Try.f82, h7c, h9]) (ih _ _ h (sl [((st 0) + 1)]))
def p_impl_growing_cl_productive_1 (a0c0 : L3) : Option Int :=
 p_impl_growing_cl_productive_1_L0 a0c0 0 >>= fun o11 =>
 some o11
theorem t_impl_growing_cl_productive_1 {a0c0 : L3} {r : Int} (h : p_impl_growing_cl_productive_1 a0c0 = some r) : ∃ k, told Try.prog (cal_impl_growing_cl_productive_1 k) k lm_impl_growing_cl_productive_1 Try.f82 (arg_impl_growing_cl_productive_1 a0c0) = some (res_impl_growing_cl_productive_1 r) := by
  unfold p_impl_growing_cl_productive_1 at h
  obtain ⟨o11, h10, h⟩ := bd h
  have qK12 := l_impl_growing_cl_productive_1_L0 h10 (sl [1])
  obtain ⟨K12, qK12⟩ := qK12
  obtain rfl := Option.some.inj h
  obtain ⟨k, hk⟩ : ∃ k, K12 ≤ k := ⟨_, Nat.le_refl _⟩
  obtain ⟨S_K12, jK12, iK12⟩ := qK12 k (by omega) k (by omega)
  simp (implicitDefEqProofs := false) [-getElem?_pos, -getElem?_neg, Try.f82] at jK12
  refine ⟨k, ?_⟩
  simp (implicitDefEqProofs := false) [-getElem?_pos, -getElem?_neg, Try.f82, iK12, jK12]
theorem inj_impl_growing_cl_productive_1 : ∀ a b, arg_impl_growing_cl_productive_1 a = arg_impl_growing_cl_productive_1 b → a = b := by
  intro x y h; simp [arg_impl_growing_cl_productive_1] at h; simp [Prod.ext_iff, h]
noncomputable def F_impl_growing_cl_productive_1 : Con := nilfix [] (pcon arg_impl_growing_cl_productive_1 (fun a => p_impl_growing_cl_productive_1 a) res_impl_growing_cl_productive_1)
theorem fn_impl_growing_cl_productive_1 : Fn Try.prog 82 F_impl_growing_cl_productive_1 := (Fn.pure cal_impl_growing_cl_productive_1 (fun k w0 h0 => ok_impl_growing_cl_productive_1 k w0 h0) mixed Try.func82 rfl rfl (by kernel_rfl) 1 (by decide) (fun _ => rfl) lm_impl_growing_cl_productive_1 (fun a b h => t_impl_growing_cl_productive_1 h)).nilfix _
theorem c_impl_growing_cl_productive_1 {a0c0 : L3} {r : Int} (h : p_impl_growing_cl_productive_1 a0c0 = some r) : F_impl_growing_cl_productive_1 [.one (.cl 83 [.rp [.sl false 38 (List.map (cL38 false) a0c0)] 0])] = some (((false, [none]), [.lit (.int .u32 r)])) := pcon_at (arg := arg_impl_growing_cl_productive_1) (p := fun a => p_impl_growing_cl_productive_1 a) (res := res_impl_growing_cl_productive_1) (a := a0c0) (b := r) inj_impl_growing_cl_productive_1 h
noncomputable def cal_impl_productive (k : Nat) : Cal := calI (tabOf [(82, F_impl_growing_cl_productive_1)]) (inlOf [])
@[simp] theorem cal_impl_productive_ap (k g : Nat) (vs : List TV) (mem : Mem) (ep : Nat) : cal_impl_productive k g vs mem ep = calI (tabOf [(82, F_impl_growing_cl_productive_1)]) (inlOf []) g vs mem ep := rfl
theorem ok_impl_productive (k : Nat) (w0 : World) (h0 : True) : CalOk Try.prog w0.heap.size w0 (cal_impl_productive k) := by
  exact calI_ok (J := fun _ => True) stab_true (tabOf_ok _ (by simp [fn_impl_growing_cl_productive_1])) (inlOf_ok _ (by simp [])) h0
@[simp] def lm_impl_productive : Nat → List Nat × Nat := fun b => ([], 0)
@[simp] def arg_impl_productive (a : L3) : List TV := [.agg [.sl false 38 (List.map (cL38 false) a)]]
@[simp] def res_impl_productive (r : Int) : Sh × List V := ((false, [none]), [.lit (.int .u32 r)])
def p_impl_productive (a0 : L3) : Option Int :=
 p_impl_growing_cl_productive_1 a0 >>= fun y2 =>
 some y2
theorem t_impl_productive {a0 : L3} {r : Int} (h : p_impl_productive a0 = some r) : ∃ k, told Try.prog (cal_impl_productive k) k lm_impl_productive Try.f72 (arg_impl_productive a0) = some (res_impl_productive r) := by
  unfold p_impl_productive at h
  obtain ⟨y2, h1, h⟩ := bd h
  have h1c := c_impl_growing_cl_productive_1 h1
  obtain rfl := Option.some.inj h
  obtain ⟨k, hk⟩ : ∃ k, 0 ≤ k := ⟨_, Nat.le_refl _⟩
  refine ⟨k, ?_⟩
  simp (implicitDefEqProofs := false) [-getElem?_pos, -getElem?_neg, Try.f72, h1c]
theorem inj_impl_productive : ∀ a b, arg_impl_productive a = arg_impl_productive b → a = b := by
  intro x y h; simp [arg_impl_productive] at h; simp [Prod.ext_iff, h]
noncomputable def F_impl_productive : Con := nilfix [[some 38]] (pcon arg_impl_productive (fun a => p_impl_productive a) res_impl_productive)
theorem fn_impl_productive : Fn Try.prog 72 F_impl_productive := (Fn.pure cal_impl_productive (fun k w0 h0 => ok_impl_productive k w0 h0) mixed Try.func72 rfl rfl (by kernel_rfl) 1 (by decide) (fun _ => rfl) lm_impl_productive (fun a b h => t_impl_productive h)).nilfix _
theorem c_impl_productive {a0 : L3} {r : Int} (h : p_impl_productive a0 = some r) : F_impl_productive [.agg [.sl false 38 (List.map (cL38 false) a0)]] = some (((false, [none]), [.lit (.int .u32 r)])) := pcon_at (arg := arg_impl_productive) (p := fun a => p_impl_productive a) (res := res_impl_productive) (a := a0) (b := r) inj_impl_productive h
noncomputable def cal_impl_reachable_1 (k : Nat) : Cal := calI (tabOf [(65, F_impl_flags_has)]) (inlOf [])
@[simp] theorem cal_impl_reachable_1_ap (k g : Nat) (vs : List TV) (mem : Mem) (ep : Nat) : cal_impl_reachable_1 k g vs mem ep = calI (tabOf [(65, F_impl_flags_has)]) (inlOf []) g vs mem ep := rfl
theorem ok_impl_reachable_1 (k : Nat) (w0 : World) (h0 : True) : CalOk Try.prog w0.heap.size w0 (cal_impl_reachable_1 k) := by
  exact calI_ok (J := fun _ => True) stab_true (tabOf_ok _ (by simp [fn_impl_flags_has])) (inlOf_ok _ (by simp [])) h0
@[simp] def lm_impl_reachable_1 : Nat → List Nat × Nat := fun b => if b = 0 then ([0, 13, 14, 15], 0) else if b = 2000000 then ([], 8888888) else if b = 3000000 then ([0], 0) else if b = 2 then ([0, 13, 14, 15, 24, 25, 26], 0) else if b = 2000002 then ([], 8888888) else if b = 3000002 then ([0, 13, 14, 15], 0) else if b = 4 then ([0, 13, 14, 15, 24, 25, 26, 30, 31, 32], 0) else if b = 2000004 then ([], 8888888) else if b = 3000004 then ([0, 13, 14, 15, 24, 25, 26], 0) else ([], 0)
@[simp] def arg_impl_reachable_1 (a : Int × L3) : List TV := [.one (.lit (.int .u32 a.1)), .one (.rp [.sl false 38 (List.map (cL38 false) a.2)] 0)]
@[simp] def res_impl_reachable_1 (r : Int) : Sh × List V := ((false, [none]), [.lit (.int .u32 r)])
def p_impl_reachable_1_L4 (a1 : L3) (x15b0 : Int) (y98 : L2) (x26b2 : Int) (y142 : LI) (x0b4 : Int) (x32b4 : Int) : Option (Int) :=
 if x32b4 < (y142.length : Int) then
  if 0 ≤ x32b4 then
   y142[x32b4.toNat]? >>= fun y157 =>
   if 100 ≤ y157 then
    if (IntKind.wrap .u64 (IntKind.wrap .i64 (y157 - 100))) < 0 then
     none
    else
     p_impl_reachable_1_L4 a1 x15b0 y98 x26b2 y142 (orI .u32 x0b4 (shlI .u32 1 (IntKind.wrap .u64 (IntKind.wrap .i64 (y157 - 100))))) (IntKind.wrap .i64 (x32b4 + 1))
   else
    p_impl_reachable_1_L4 a1 x15b0 y98 x26b2 y142 x0b4 (IntKind.wrap .i64 (x32b4 + 1))
  else none
 else
  some x0b4
partial_fixpoint
@[simp] noncomputable def L_impl_reachable_1_L4 : Code := nav [1, 1, 0, 1, 0, 0, 1, 1, 0, 0, 1, 1, 1, 0, 0, 1, 1, 0, 0, 1, 1, 0, 0] (bodyOf Try.f85)
@[simp] def T_impl_reachable_1_L4 (a1 : L3) (x15b0 : Int) (y98 : L2) (x26b2 : Int) (y142 : LI) (x0b4 : Int) (x32b4 : Int) (st : Nat → Nat) : St := ⟨[(0, .one (.lit (.int .u32 x0b4))), (13, .one (.sl false 38 (List.map (cL38 false) a1))), (14, .one (.lit (.int .i64 (a1.length : Int)))), (15, .one (.lit (.int .i64 x15b0))), (24, .one (.sl false 31 (List.map (cL31 false) y98))), (25, .one (.lit (.int .i64 (y98.length : Int)))), (26, .one (.lit (.int .i64 x26b2))), (30, .one (.sl false 3 (List.map cI y142))), (31, .one (.lit (.int .i64 (y142.length : Int)))), (32, .one (.lit (.int .i64 x32b4)))], [none], (st 0)⟩
@[simp] def U_impl_reachable_1_L4 (a1 : L3) (x15b0 : Int) (y98 : L2) (x26b2 : Int) (y142 : LI) (o : Int) (st : Nat → Nat) : St := ⟨[(0, .one (.lit (.int .u32 o))), (13, .one (.sl false 38 (List.map (cL38 false) a1))), (14, .one (.lit (.int .i64 (a1.length : Int)))), (15, .one (.lit (.int .i64 x15b0))), (24, .one (.sl false 31 (List.map (cL31 false) y98))), (25, .one (.lit (.int .i64 (y98.length : Int)))), (26, .one (.lit (.int .i64 x26b2)))], [none], (st 0)⟩
abbrev Q_impl_reachable_1_L4 (a1 : L3) (x15b0 : Int) (y98 : L2) (x26b2 : Int) (y142 : LI) (x0b4 : Int) (x32b4 : Int) (o : Int) : Prop := ∀ st : Nat → Nat, LoopG Try.prog cal_impl_reachable_1 1 lm_impl_reachable_1 4 L_impl_reachable_1_L4 (U_impl_reachable_1_L4 a1 x15b0 y98 x26b2 y142) (T_impl_reachable_1_L4 a1 x15b0 y98 x26b2 y142 x0b4 x32b4 st) o
theorem l_impl_reachable_1_L4 {a1 : L3} {x15b0 : Int} {y98 : L2} {x26b2 : Int} {y142 : LI} {x0b4 : Int} {x32b4 : Int} {o : Int} (h : p_impl_reachable_1_L4 a1 x15b0 y98 x26b2 y142 x0b4 x32b4 = some o) : Q_impl_reachable_1_L4 a1 x15b0 y98 x26b2 y142 x0b4 x32b4 o := by
  refine p_impl_reachable_1_L4.partial_correctness a1 x15b0 y98 x26b2 y142 (motive := fun x0b4 x32b4 o => Q_impl_reachable_1_L4 a1 x15b0 y98 x26b2 y142 x0b4 x32b4 o) ?_ x0b4 x32b4 o h
  clear h o x0b4 x32b4
  intro p' ih x0b4 x32b4 r h st
  rcases ifc h with ⟨h155, h⟩ | ⟨h155, h⟩
  · obtain ⟨h156, h⟩ := ifg h
    obtain ⟨y157, h158, h⟩ := bd h
    rcases ifc h with ⟨h159, h⟩ | ⟨h159, h⟩
    · rcases ifc h with ⟨h160, h⟩ | ⟨h160, h⟩
      · cases h
      exact LoopG.step 0 (fun k hk => by simp (implicitDefEqProofs := false) [-getElem?_pos, -getElem?_neg, Try.f85, h155, h156, h158, h159, g_conv Try.underlying3 Try.underlying80, h160]) (ih _ _ _ h (sl [(st 0)]))
    exact LoopG.step 0 (fun k hk => by simp (implicitDefEqProofs := false) [-getElem?_pos, -getElem?_neg, Try.f85, h155, h156, h158, h159]) (ih _ _ _ h (sl [(st 0)]))
  obtain rfl := Option.some.inj h
  exact LoopG.exit (sl [(st 0)]) 0 (fun k hk => by simp (implicitDefEqProofs := false) [-getElem?_pos, -getElem?_neg, Try.f85, h155])
def p_impl_reachable_1_L2 (a1 : L3) (x15b0 : Int) (y98 : L2) (x0b2 : Int) (x26b2 : Int) : Option (Int) :=
 if x26b2 < (y98.length : Int) then
  if 0 ≤ x26b2 then
   y98[x26b2.toNat]? >>= fun y142 =>
   p_impl_reachable_1_L4 a1 x15b0 y98 x26b2 y142 x0b2 0 >>= fun o162 =>
   p_impl_reachable_1_L2 a1 x15b0 y98 o162 (IntKind.wrap .i64 (x26b2 + 1))
  else none
 else
  some x0b2
partial_fixpoint
@[simp] noncomputable def L_impl_reachable_1_L2 : Code := nav [1, 1, 0, 1, 0, 0, 1, 1, 0, 0, 1, 1, 1, 0, 0] (bodyOf Try.f85)
@[simp] def T_impl_reachable_1_L2 (a1 : L3) (x15b0 : Int) (y98 : L2) (x0b2 : Int) (x26b2 : Int) (st : Nat → Nat) : St := ⟨[(0, .one (.lit (.int .u32 x0b2))), (13, .one (.sl false 38 (List.map (cL38 false) a1))), (14, .one (.lit (.int .i64 (a1.length : Int)))), (15, .one (.lit (.int .i64 x15b0))), (24, .one (.sl false 31 (List.map (cL31 false) y98))), (25, .one (.lit (.int .i64 (y98.length : Int)))), (26, .one (.lit (.int .i64 x26b2)))], [none], (st 0)⟩
@[simp] def U_impl_reachable_1_L2 (a1 : L3) (x15b0 : Int) (y98 : L2) (o : Int) (st : Nat → Nat) : St := ⟨[(0, .one (.lit (.int .u32 o))), (13, .one (.sl false 38 (List.map (cL38 false) a1))), (14, .one (.lit (.int .i64 (a1.length : Int)))), (15, .one (.lit (.int .i64 x15b0)))], [none], (st 0)⟩
abbrev Q_impl_reachable_1_L2 (a1 : L3) (x15b0 : Int) (y98 : L2) (x0b2 : Int) (x26b2 : Int) (o : Int) : Prop := ∀ st : Nat → Nat, LoopG Try.prog cal_impl_reachable_1 1 lm_impl_reachable_1 2 L_impl_reachable_1_L2 (U_impl_reachable_1_L2 a1 x15b0 y98) (T_impl_reachable_1_L2 a1 x15b0 y98 x0b2 x26b2 st) o
theorem l_impl_reachable_1_L2 {a1 : L3} {x15b0 : Int} {y98 : L2} {x0b2 : Int} {x26b2 : Int} {o : Int} (h : p_impl_reachable_1_L2 a1 x15b0 y98 x0b2 x26b2 = some o) : Q_impl_reachable_1_L2 a1 x15b0 y98 x0b2 x26b2 o := by
  refine p_impl_reachable_1_L2.partial_correctness a1 x15b0 y98 (motive := fun x0b2 x26b2 o => Q_impl_reachable_1_L2 a1 x15b0 y98 x0b2 x26b2 o) ?_ x0b2 x26b2 o h
  clear h o x0b2 x26b2
  intro p' ih x0b2 x26b2 r h st
  rcases ifc h with ⟨h140, h⟩ | ⟨h140, h⟩
  · obtain ⟨h141, h⟩ := ifg h
    obtain ⟨y142, h143, h⟩ := bd h
    obtain ⟨o162, h161, h⟩ := bd h
    have qK163 := l_impl_reachable_1_L4 h161 (sl [(st 0)])
    obtain ⟨s164, K163, qK163⟩ := qK163
    refine LoopG.step K163 (fun k hk => ?_) (ih _ _ _ h (sl [(s164 0)]))
    have jK163 := qK163 k (by omega) k (by omega)
    simp (implicitDefEqProofs := false) [-getElem?_pos, -getElem?_neg, Try.f85, h140, h141, h143] at jK163
    simp (implicitDefEqProofs := false) [-getElem?_pos, -getElem?_neg, Try.f85, h140, h141, h143, jK163]
  obtain rfl := Option.some.inj h
  exact LoopG.exit (sl [(st 0)]) 0 (fun k hk => by simp (implicitDefEqProofs := false) [-getElem?_pos, -getElem?_neg, Try.f85, h140])
def p_impl_reachable_1_L0 (a1 : L3) (x0b0 : Int) (x15b0 : Int) : Option (Int) :=
 if x15b0 < (a1.length : Int) then
  if 0 ≤ x15b0 then
   a1[x15b0.toNat]? >>= fun y98 =>
   p_impl_flags_has x0b0 x15b0 >>= fun y101 =>
   if y101 then
    p_impl_reachable_1_L2 a1 x15b0 y98 x0b0 0 >>= fun o166 =>
    p_impl_reachable_1_L0 a1 o166 (IntKind.wrap .i64 (x15b0 + 1))
   else
    p_impl_reachable_1_L0 a1 x0b0 (IntKind.wrap .i64 (x15b0 + 1))
  else none
 else
  some x0b0
partial_fixpoint
@[simp] noncomputable def L_impl_reachable_1_L0 : Code := nav [1, 1, 0, 1, 0, 0] (bodyOf Try.f85)
@[simp] def T_impl_reachable_1_L0 (a1 : L3) (x0b0 : Int) (x15b0 : Int) (st : Nat → Nat) : St := ⟨[(0, .one (.lit (.int .u32 x0b0))), (13, .one (.sl false 38 (List.map (cL38 false) a1))), (14, .one (.lit (.int .i64 (a1.length : Int)))), (15, .one (.lit (.int .i64 x15b0)))], [none], (st 0)⟩
@[simp] def U_impl_reachable_1_L0 (a1 : L3) (o : Int) (st : Nat → Nat) : St := ⟨[(0, .one (.lit (.int .u32 o)))], [none], (st 0)⟩
abbrev Q_impl_reachable_1_L0 (a1 : L3) (x0b0 : Int) (x15b0 : Int) (o : Int) : Prop := ∀ st : Nat → Nat, LoopG Try.prog cal_impl_reachable_1 1 lm_impl_reachable_1 0 L_impl_reachable_1_L0 (U_impl_reachable_1_L0 a1) (T_impl_reachable_1_L0 a1 x0b0 x15b0 st) o
theorem l_impl_reachable_1_L0 {a1 : L3} {x0b0 : Int} {x15b0 : Int} {o : Int} (h : p_impl_reachable_1_L0 a1 x0b0 x15b0 = some o) : Q_impl_reachable_1_L0 a1 x0b0 x15b0 o := by
  refine p_impl_reachable_1_L0.partial_correctness a1 (motive := fun x0b0 x15b0 o => Q_impl_reachable_1_L0 a1 x0b0 x15b0 o) ?_ x0b0 x15b0 o h
  clear h o x0b0 x15b0
  intro p' ih x0b0 x15b0 r h st
  rcases ifc h with ⟨h96, h⟩ | ⟨h96, h⟩
  · obtain ⟨h97, h⟩ := ifg h
    obtain ⟨y98, h99, h⟩ := bd h
    obtain ⟨y101, h100, h⟩ := bd h
    have h100c := c_impl_flags_has h100
    rcases ifb h with ⟨h102, h⟩ | ⟨h102, h⟩
    · obtain ⟨o166, h165, h⟩ := bd h
      have qK167 := l_impl_reachable_1_L2 h165 (sl [((st 0) + 1)])
      obtain ⟨s168, K167, qK167⟩ := qK167
      refine LoopG.step K167 (fun k hk => ?_) (ih _ _ _ h (sl [(s168 0)]))
      have jK167 := qK167 k (by omega) k (by omega)
      simp (implicitDefEqProofs := false) [-getElem?_pos, -getElem?_neg, Try.f85, h96, h97, h99, h100c, h102] at jK167
      simp (implicitDefEqProofs := false) [-getElem?_pos, -getElem?_neg, Try.f85, h96, h97, h99, h100c, h102, jK167]
    exact LoopG.step 0 (fun k hk => by simp (implicitDefEqProofs := false) [-getElem?_pos, -getElem?_neg, Try.f85, h96, h97, h99, h100c, h102]) (ih _ _ _ h (sl [((st 0) + 1)]))
  obtain rfl := Option.some.inj h
  exact LoopG.exit (sl [(st 0)]) 0 (fun k hk => by simp (implicitDefEqProofs := false) [-getElem?_pos, -getElem?_neg, Try.f85, h96])
def p_impl_reachable_1 (a0 : Int) (a1 : L3) : Option Int :=
 p_impl_reachable_1_L0 a1 (orI .u32 a0 1) 0 >>= fun o170 =>
 some o170
theorem t_impl_reachable_1 {a0 : Int} {a1 : L3} {r : Int} (h : p_impl_reachable_1 a0 a1 = some r) : ∃ k, told Try.prog (cal_impl_reachable_1 k) k lm_impl_reachable_1 Try.f85 (arg_impl_reachable_1 (a0, a1)) = some (res_impl_reachable_1 r) := by
  unfold p_impl_reachable_1 at h
  obtain ⟨o170, h169, h⟩ := bd h
  have qK171 := l_impl_reachable_1_L0 h169 (sl [1])
  obtain ⟨s172, K171, qK171⟩ := qK171
  obtain rfl := Option.some.inj h
  obtain ⟨k, hk⟩ : ∃ k, K171 ≤ k := ⟨_, Nat.le_refl _⟩
  have jK171 := qK171 k (by omega) k (by omega)
  simp (implicitDefEqProofs := false) [-getElem?_pos, -getElem?_neg, Try.f85] at jK171
  refine ⟨k, ?_⟩
  simp (implicitDefEqProofs := false) [-getElem?_pos, -getElem?_neg, Try.f85, jK171]
theorem inj_impl_reachable_1 : ∀ a b, arg_impl_reachable_1 a = arg_impl_reachable_1 b → a = b := by
  rintro ⟨x0, x1⟩ ⟨y0, y1⟩ h; simp [arg_impl_reachable_1] at h; simp [Prod.ext_iff, h]
noncomputable def F_impl_reachable_1 : Con := nilfix [] (pcon arg_impl_reachable_1 (fun a => p_impl_reachable_1 a.1 a.2) res_impl_reachable_1)
theorem fn_impl_reachable_1 : Fn Try.prog 85 F_impl_reachable_1 := (Fn.pure cal_impl_reachable_1 (fun k w0 h0 => ok_impl_reachable_1 k w0 h0) mixed Try.func85 rfl rfl (by kernel_rfl) 2 (by decide) (fun _ => rfl) lm_impl_reachable_1 (fun a b h => t_impl_reachable_1 h)).nilfix _
theorem c_impl_reachable_1 {a0 : Int} {a1 : L3} {r : Int} (h : p_impl_reachable_1 a0 a1 = some r) : F_impl_reachable_1 [.one (.lit (.int .u32 a0)), .one (.rp [.sl false 38 (List.map (cL38 false) a1)] 0)] = some (((false, [none]), [.lit (.int .u32 r)])) := pcon_at (arg := arg_impl_reachable_1) (p := fun a => p_impl_reachable_1 a.1 a.2) (res := res_impl_reachable_1) (a := (a0, a1)) (b := r) inj_impl_reachable_1 h
noncomputable def cal_impl_growing_cl_reachable_1 (k : Nat) : Cal := calI (tabOf [(85, F_impl_reachable_1)]) (inlOf [])
@[simp] theorem cal_impl_growing_cl_reachable_1_ap (k g : Nat) (vs : List TV) (mem : Mem) (ep : Nat) : cal_impl_growing_cl_reachable_1 k g vs mem ep = calI (tabOf [(85, F_impl_reachable_1)]) (inlOf []) g vs mem ep := rfl
theorem ok_impl_growing_cl_reachable_1 (k : Nat) (w0 : World) (h0 : True) : CalOk Try.prog w0.heap.size w0 (cal_impl_growing_cl_reachable_1 k) := by
  exact calI_ok (J := fun _ => True) stab_true (tabOf_ok _ (by simp [fn_impl_reachable_1])) (inlOf_ok _ (by simp [])) h0
@[simp] def lm_impl_growing_cl_reachable_1 : Nat → List Nat × Nat := fun b => if b = 0 then ([0, 3], 0) else if b = 2000000 then ([], 8888888) else ([], 0)
@[simp] def arg_impl_growing_cl_reachable_1 (a : L3) : List TV := [.one (.cl 85 [.rp [.sl false 38 (List.map (cL38 false) a)] 0])]
@[simp] def res_impl_growing_cl_reachable_1 (r : Int) : Sh × List V := ((false, [none]), [.lit (.int .u32 r)])
def p_impl_growing_cl_reachable_1_L0 (a0c0 : L3) (x3b0 : Int) : Option (Int) :=
 p_impl_reachable_1 x3b0 a0c0 >>= fun y8 =>
 if y8 = x3b0 then
  some x3b0
 else
  p_impl_growing_cl_reachable_1_L0 a0c0 y8
partial_fixpoint
@[simp] noncomputable def L_impl_growing_cl_reachable_1_L0 : Code := nav [1, 1, 0, 0] (bodyOf Try.f82)
@[simp] def T_impl_growing_cl_reachable_1_L0 (a0c0 : L3) (x3b0 : Int) (st : Nat → Nat) : St := ⟨[(0, .one (.cl 85 [.rp [.sl false 38 (List.map (cL38 false) a0c0)] 0])), (3, .one (.lit (.int .u32 x3b0)))], [none], (st 0)⟩
abbrev Q_impl_growing_cl_reachable_1_L0 (a0c0 : L3) (x3b0 : Int) (o : Int) : Prop := ∀ st : Nat → Nat, LoopsR Try.prog cal_impl_growing_cl_reachable_1 1 lm_impl_growing_cl_reachable_1 0 L_impl_growing_cl_reachable_1_L0 (T_impl_growing_cl_reachable_1_L0 a0c0 x3b0 st) (tellS Try.prog lm_impl_growing_cl_reachable_1 [.tmp 2]) (res_impl_growing_cl_reachable_1 o)
theorem l_impl_growing_cl_reachable_1_L0 {a0c0 : L3} {x3b0 : Int} {o : Int} (h : p_impl_growing_cl_reachable_1_L0 a0c0 x3b0 = some o) : Q_impl_growing_cl_reachable_1_L0 a0c0 x3b0 o := by
  refine p_impl_growing_cl_reachable_1_L0.partial_correctness a0c0 (motive := fun x3b0 o => Q_impl_growing_cl_reachable_1_L0 a0c0 x3b0 o) ?_ x3b0 o h
  clear h o x3b0
  intro p' ih x3b0 r h st
  obtain ⟨y8, h7, h⟩ := bd h
  have h7c := c_impl_reachable_1 h7
  rcases ifc h with ⟨h9, h⟩ | ⟨h9, h⟩
  · obtain rfl := Option.some.inj h
    exact LoopsR.stop 0 (fun k hk => by simp (implicitDefEqProofs := false) [-getElem?_pos, -getElem?_neg, Try.f82, h7c, (eq_true h9)])
  exact LoopsR.step 0 (fun k hk => by simp (implicitDefEqProofs := false) [-getElem?_pos, -getElem?_neg, Try.f82, h7c, h9]) (ih _ _ h (sl [((st 0) + 1)]))
def p_impl_growing_cl_reachable_1 (a0c0 : L3) : Option Int :=
 p_impl_growing_cl_reachable_1_L0 a0c0 0 >>= fun o11 =>
 some o11
theorem t_impl_growing_cl_reachable_1 {a0c0 : L3} {r : Int} (h : p_impl_growing_cl_reachable_1 a0c0 = some r) : ∃ k, told Try.prog (cal_impl_growing_cl_reachable_1 k) k lm_impl_growing_cl_reachable_1 Try.f82 (arg_impl_growing_cl_reachable_1 a0c0) = some (res_impl_growing_cl_reachable_1 r) := by
  unfold p_impl_growing_cl_reachable_1 at h
  obtain ⟨o11, h10, h⟩ := bd h
  have qK12 := l_impl_growing_cl_reachable_1_L0 h10 (sl [1])
  obtain ⟨K12, qK12⟩ := qK12
  obtain rfl := Option.some.inj h
  obtain ⟨k, hk⟩ : ∃ k, K12 ≤ k := ⟨_, Nat.le_refl _⟩
  obtain ⟨S_K12, jK12, iK12⟩ := qK12 k (by omega) k (by omega)
  simp (implicitDefEqProofs := false) [-getElem?_pos, -getElem?_neg, Try.f82] at jK12
  refine ⟨k, ?_⟩
  simp (implicitDefEqProofs := false) [-getElem?_pos, -getElem?_neg, Try.f82, iK12, jK12]
theorem inj_impl_growing_cl_reachable_1 : ∀ a b, arg_impl_growing_cl_reachable_1 a = arg_impl_growing_cl_reachable_1 b → a = b := by
  intro x y h; simp [arg_impl_growing_cl_reachable_1] at h; simp [Prod.ext_iff, h]
noncomputable def F_impl_growing_cl_reachable_1 : Con := nilfix [] (pcon arg_impl_growing_cl_reachable_1 (fun a => p_impl_growing_cl_reachable_1 a) res_impl_growing_cl_reachable_1)
theorem fn_impl_growing_cl_reachable_1 : Fn Try.prog 82 F_impl_growing_cl_reachable_1 := (Fn.pure cal_impl_growing_cl_reachable_1 (fun k w0 h0 => ok_impl_growing_cl_reachable_1 k w0 h0) mixed Try.func82 rfl rfl (by kernel_rfl) 1 (by decide) (fun _ => rfl) lm_impl_growing_cl_reachable_1 (fun a b h => t_impl_growing_cl_reachable_1 h)).nilfix _
theorem c_impl_growing_cl_reachable_1 {a0c0 : L3} {r : Int} (h : p_impl_growing_cl_reachable_1 a0c0 = some r) : F_impl_growing_cl_reachable_1 [.one (.cl 85 [.rp [.sl false 38 (List.map (cL38 false) a0c0)] 0])] = some (((false, [none]), [.lit (.int .u32 r)])) := pcon_at (arg := arg_impl_growing_cl_reachable_1) (p := fun a => p_impl_growing_cl_reachable_1 a) (res := res_impl_growing_cl_reachable_1) (a := a0c0) (b := r) inj_impl_growing_cl_reachable_1 h
noncomputable def cal_impl_reachable (k : Nat) : Cal := calI (tabOf [(82, F_impl_growing_cl_reachable_1)]) (inlOf [])
@[simp] theorem cal_impl_reachable_ap (k g : Nat) (vs : List TV) (mem : Mem) (ep : Nat) : cal_impl_reachable k g vs mem ep = calI (tabOf [(82, F_impl_growing_cl_reachable_1)]) (inlOf []) g vs mem ep := rfl
theorem ok_impl_reachable (k : Nat) (w0 : World) (h0 : True) : CalOk Try.prog w0.heap.size w0 (cal_impl_reachable k) := by
  exact calI_ok (J := fun _ => True) stab_true (tabOf_ok _ (by simp [fn_impl_growing_cl_reachable_1])) (inlOf_ok _ (by simp [])) h0
@[simp] def lm_impl_reachable : Nat → List Nat × Nat := fun b => ([], 0)
@[simp] def arg_impl_reachable (a : L3) : List TV := [.agg [.sl false 38 (List.map (cL38 false) a)]]
@[simp] def res_impl_reachable (r : Int) : Sh × List V := ((false, [none]), [.lit (.int .u32 r)])
def p_impl_reachable (a0 : L3) : Option Int :=
 p_impl_growing_cl_reachable_1 a0 >>= fun y2 =>
 some y2
theorem t_impl_reachable {a0 : L3} {r : Int} (h : p_impl_reachable a0 = some r) : ∃ k, told Try.prog (cal_impl_reachable k) k lm_impl_reachable Try.f73 (arg_impl_reachable a0) = some (res_impl_reachable r) := by
  unfold p_impl_reachable at h
  obtain ⟨y2, h1, h⟩ := bd h
  have h1c := c_impl_growing_cl_reachable_1 h1
  obtain rfl := Option.some.inj h
  obtain ⟨k, hk⟩ : ∃ k, 0 ≤ k := ⟨_, Nat.le_refl _⟩
  refine ⟨k, ?_⟩
  simp (implicitDefEqProofs := false) [-getElem?_pos, -getElem?_neg, Try.f73, h1c]
theorem inj_impl_reachable : ∀ a b, arg_impl_reachable a = arg_impl_reachable b → a = b := by
  intro x y h; simp [arg_impl_reachable] at h; simp [Prod.ext_iff, h]
noncomputable def F_impl_reachable : Con := nilfix [[some 38]] (pcon arg_impl_reachable (fun a => p_impl_reachable a) res_impl_reachable)
theorem fn_impl_reachable : Fn Try.prog 73 F_impl_reachable := (Fn.pure cal_impl_reachable (fun k w0 h0 => ok_impl_reachable k w0 h0) mixed Try.func73 rfl rfl (by kernel_rfl) 1 (by decide) (fun _ => rfl) lm_impl_reachable (fun a b h => t_impl_reachable h)).nilfix _
theorem c_impl_reachable {a0 : L3} {r : Int} (h : p_impl_reachable a0 = some r) : F_impl_reachable [.agg [.sl false 38 (List.map (cL38 false) a0)]] = some (((false, [none]), [.lit (.int .u32 r)])) := pcon_at (arg := arg_impl_reachable) (p := fun a => p_impl_reachable a) (res := res_impl_reachable) (a := a0) (b := r) inj_impl_reachable h
noncomputable def cal_impl_Check (k : Nat) : Cal := calI (tabOf [(61, F_impl_GramOk), (65, F_impl_flags_has), (71, F_impl_startsOf), (72, F_impl_productive), (73, F_impl_reachable)]) (inlOf [])
@[simp] theorem cal_impl_Check_ap (k g : Nat) (vs : List TV) (mem : Mem) (ep : Nat) : cal_impl_Check k g vs mem ep = calI (tabOf [(61, F_impl_GramOk), (65, F_impl_flags_has), (71, F_impl_startsOf), (72, F_impl_productive), (73, F_impl_reachable)]) (inlOf []) g vs mem ep := rfl
theorem ok_impl_Check (k : Nat) (w0 : World) (h0 : True) : CalOk Try.prog w0.heap.size w0 (cal_impl_Check k) := by
  exact calI_ok (J := fun _ => True) stab_true (tabOf_ok _ (by simp [fn_impl_GramOk, fn_impl_flags_has, fn_impl_startsOf, fn_impl_productive, fn_impl_reachable])) (inlOf_ok _ (by simp [])) h0
@[simp] def lm_impl_Check : Nat → List Nat × Nat := fun b => if b = 0 then ([1, 3, 13, 14], 2) else if b = 2000000 then ([], 8888888) else if b = 3000000 then ([1], 2) else ([], 0)
@[simp] def arg_impl_Check (a : L3) : List TV := [.agg [.sl false 38 (List.map (cL38 false) a)]]
@[simp] def res_impl_Check (r : Int) : Sh × List V := ((false, [none]), [.lit (.int .i64 r)])
def p_impl_Check_L0 (a0 : L3) (y5 : LI) (x14b0 : Int) : Option (Int ⊕ Unit) :=
 if x14b0 < (a0.length : Int) then
  if 0 ≤ x14b0 then
   if x14b0.toNat < 20 then
    y5[x14b0.toNat]? >>= fun y37 =>
    p_impl_flags_has y37 x14b0 >>= fun y40 =>
    if y40 then
     some (.inl 2)
    else
     p_impl_Check_L0 a0 y5 (IntKind.wrap .i64 (x14b0 + 1))
   else none
  else none
 else
  some (.inr ())
partial_fixpoint
@[simp] noncomputable def L_impl_Check_L0 : Code := nav [1, 1, 1, 0, 1, 0, 0] (bodyOf Try.f56)
@[simp] def T_impl_Check_L0 (a0 : L3) (y5 : LI) (x14b0 : Int) (st : Nat → Nat) : St := ⟨[(1, .one (.bp 1 1 0)), (3, .one (.bp 2 4 0)), (13, .one (.lit (.int .i64 (a0.length : Int)))), (14, .one (.lit (.int .i64 x14b0)))], [none, some (.box 1 [.sl false 38 (List.map (cL38 false) a0)]), some (.box 4 (List.map (kI .u32) y5))], (st 0)⟩
@[simp] def U_impl_Check_L0 (a0 : L3) (y5 : LI) (o : Unit) (st : Nat → Nat) : St := ⟨[(1, .one (.bp 1 1 0))], [none, some (.box 1 [.sl false 38 (List.map (cL38 false) a0)]), some (.box 4 (List.map (kI .u32) y5))], (st 0)⟩
abbrev Q_impl_Check_L0 (a0 : L3) (y5 : LI) (x14b0 : Int) (o : Int ⊕ Unit) : Prop := ∀ st : Nat → Nat, LoopT Try.prog cal_impl_Check 1 lm_impl_Check 0 L_impl_Check_L0 (tellS Try.prog lm_impl_Check [.tmp 2]) res_impl_Check (U_impl_Check_L0 a0 y5) (T_impl_Check_L0 a0 y5 x14b0 st) o
theorem l_impl_Check_L0 {a0 : L3} {y5 : LI} {x14b0 : Int} {o : Int ⊕ Unit} (h : p_impl_Check_L0 a0 y5 x14b0 = some o) : Q_impl_Check_L0 a0 y5 x14b0 o := by
  refine p_impl_Check_L0.partial_correctness a0 y5 (motive := fun x14b0 o => Q_impl_Check_L0 a0 y5 x14b0 o) ?_ x14b0 o h
  clear h o x14b0
  intro p' ih x14b0 r h st
  rcases ifc h with ⟨h34, h⟩ | ⟨h34, h⟩
  · obtain ⟨h35, h⟩ := ifg h
    obtain ⟨h36, h⟩ := ifg h
    have h36i : x14b0 < 20 := by omega
    obtain ⟨y37, h38, h⟩ := bd h
    have h38b := (List.getElem?_eq_some_iff.1 h38).1
    have h38c : x14b0.toNat + 1 ≤ y5.length := h38b
    obtain ⟨y40, h39, h⟩ := bd h
    have h39c := c_impl_flags_has h39
    rcases ifb h with ⟨h41, h⟩ | ⟨h41, h⟩
    · obtain rfl := Option.some.inj h
      exact LoopT.ret 0 (fun k hk => by simp (implicitDefEqProofs := false) [-getElem?_pos, -getElem?_neg, Try.f56, h34, h35, h36, h36i, h38, h38b, h38c, h39c, h41])
    exact LoopT.step 0 (fun k hk => by simp (implicitDefEqProofs := false) [-getElem?_pos, -getElem?_neg, Try.f56, h34, h35, h36, h36i, h38, h38b, h38c, h39c, h41]) (ih _ _ h (sl [((st 0) + 1)]))
  obtain rfl := Option.some.inj h
  exact LoopT.exit (sl [(st 0)]) 0 (fun k hk => by simp (implicitDefEqProofs := false) [-getElem?_pos, -getElem?_neg, Try.f56, h34])
def p_impl_Check (a0 : L3) : Option Int :=
 p_impl_GramOk a0 >>= fun y2 =>
 if y2 then
  p_impl_startsOf a0 >>= fun y5 =>
  if y5.length = 20 then
   some (List.replicate 20 (0 : Int)) >>= fun l7 =>
   if l7.length = 20 then
    some () >>= fun u10 =>
    p_impl_Check_L0 a0 y5 0 >>= fun o43 => match o43 with
    | .inl o43 =>
     some o43
    | .inr o43 =>
     if (IntKind.wrap .u64 (a0.length : Int)) < 0 then
      none
     else
      p_impl_productive a0 >>= fun y48 =>
      if y48 = (IntKind.wrap .u32 ((shlI .u32 1 (IntKind.wrap .u64 (a0.length : Int))) - 1)) then
       p_impl_reachable a0 >>= fun y51 =>
       if y51 = (IntKind.wrap .u32 ((shlI .u32 1 (IntKind.wrap .u64 (a0.length : Int))) - 1)) then
        some 0
       else
        some 4
      else
       some 3
   else none
  else none
 else
  some 1
theorem t_impl_Check {a0 : L3} {r : Int} (h : p_impl_Check a0 = some r) : ∃ k, told Try.prog (cal_impl_Check k) k lm_impl_Check Try.f56 (arg_impl_Check a0) = some (res_impl_Check r) := by
  unfold p_impl_Check at h
  obtain ⟨y2, h1, h⟩ := bd h
  have h1c := c_impl_GramOk h1
  rcases ifb h with ⟨h3, h⟩ | ⟨h3, h⟩
  · obtain ⟨y5, h4, h⟩ := bd h
    have h4c := c_impl_startsOf h4
    obtain ⟨h6, h⟩ := ifg h
    have h6t : List.take 20 (List.map (kI .u32) y5) = List.map (kI .u32) y5 := List.take_of_length_le (by rw [List.length_map]; omega)
    obtain ⟨l7, h8, h⟩ := bd h
    have h8r : [.lit (.int .u32 0), .lit (.int .u32 0), .lit (.int .u32 0), .lit (.int .u32 0), .lit (.int .u32 0), .lit (.int .u32 0), .lit (.int .u32 0), .lit (.int .u32 0), .lit (.int .u32 0), .lit (.int .u32 0), .lit (.int .u32 0), .lit (.int .u32 0), .lit (.int .u32 0), .lit (.int .u32 0), .lit (.int .u32 0), .lit (.int .u32 0), .lit (.int .u32 0), .lit (.int .u32 0), .lit (.int .u32 0), .lit (.int .u32 0)] = List.map (kI .u32) l7 := by rw [← Option.some.inj h8]; rfl
    obtain ⟨h9, h⟩ := ifg h
    obtain ⟨u10, h11, h⟩ := bd h
    have h11p := arr_put (n := 20) (a := l7) (b := y5) (by assumption) (by assumption) (kI .u32)
    obtain ⟨o43, h42, h⟩ := bd h
    have qK44 := l_impl_Check_L0 h42 (sl [5])
    rcases o43 with o43 | o43
    · obtain ⟨K44, qK44⟩ := qK44
      obtain rfl := Option.some.inj h
      obtain ⟨k, hk⟩ : ∃ k, K44 ≤ k := ⟨_, Nat.le_refl _⟩
      obtain ⟨S_K44, jK44, iK44⟩ := qK44 k (by omega) k (by omega)
      simp (implicitDefEqProofs := false) [-getElem?_pos, -getElem?_neg, Try.f56, h1c, h3, h4c, h6, h6t, h8r, h9, h11p] at jK44
      refine ⟨k, ?_⟩
      simp (implicitDefEqProofs := false) [-getElem?_pos, -getElem?_neg, Try.f56, h1c, h3, h4c, h6, h6t, h8r, h9, h11p, iK44, jK44]
    obtain ⟨s45, K44, qK44⟩ := qK44
    rcases ifc h with ⟨h46, h⟩ | ⟨h46, h⟩
    · cases h
    obtain ⟨y48, h47, h⟩ := bd h
    have h47c := c_impl_productive h47
    rcases ifc h with ⟨h49, h⟩ | ⟨h49, h⟩
    · obtain ⟨y51, h50, h⟩ := bd h
      have h50c := c_impl_reachable h50
      rcases ifc h with ⟨h52, h⟩ | ⟨h52, h⟩
      · obtain rfl := Option.some.inj h
        obtain ⟨k, hk⟩ : ∃ k, K44 ≤ k := ⟨_, Nat.le_refl _⟩
        have jK44 := qK44 k (by omega) k (by omega)
        simp (implicitDefEqProofs := false) [-getElem?_pos, -getElem?_neg, Try.f56, h1c, h3, h4c, h6, h6t, h8r, h9, h11p, g_conv Try.underlying3 Try.underlying80, h46, h47c, (eq_true h49), h50c, (eq_true h52)] at jK44
        refine ⟨k, ?_⟩
        simp (implicitDefEqProofs := false) [-getElem?_pos, -getElem?_neg, Try.f56, h1c, h3, h4c, h6, h6t, h8r, h9, h11p, g_conv Try.underlying3 Try.underlying80, h46, h47c, (eq_true h49), h50c, (eq_true h52), jK44]
      obtain rfl := Option.some.inj h
      obtain ⟨k, hk⟩ : ∃ k, K44 ≤ k := ⟨_, Nat.le_refl _⟩
      have jK44 := qK44 k (by omega) k (by omega)
      simp (implicitDefEqProofs := false) [-getElem?_pos, -getElem?_neg, Try.f56, h1c, h3, h4c, h6, h6t, h8r, h9, h11p, g_conv Try.underlying3 Try.underlying80, h46, h47c, (eq_true h49), h50c, h52] at jK44
      refine ⟨k, ?_⟩
      simp (implicitDefEqProofs := false) [-getElem?_pos, -getElem?_neg, Try.f56, h1c, h3, h4c, h6, h6t, h8r, h9, h11p, g_conv Try.underlying3 Try.underlying80, h46, h47c, (eq_true h49), h50c, h52, jK44]
    obtain rfl := Option.some.inj h
    obtain ⟨k, hk⟩ : ∃ k, K44 ≤ k := ⟨_, Nat.le_refl _⟩
    have jK44 := qK44 k (by omega) k (by omega)
    simp (implicitDefEqProofs := false) [-getElem?_pos, -getElem?_neg, Try.f56, h1c, h3, h4c, h6, h6t, h8r, h9, h11p, g_conv Try.underlying3 Try.underlying80, h46, h47c, h49] at jK44
    refine ⟨k, ?_⟩
    simp (implicitDefEqProofs := false) [-getElem?_pos, -getElem?_neg, Try.f56, h1c, h3, h4c, h6, h6t, h8r, h9, h11p, g_conv Try.underlying3 Try.underlying80, h46, h47c, h49, jK44]
  obtain rfl := Option.some.inj h
  obtain ⟨k, hk⟩ : ∃ k, 0 ≤ k := ⟨_, Nat.le_refl _⟩
  refine ⟨k, ?_⟩
  simp (implicitDefEqProofs := false) [-getElem?_pos, -getElem?_neg, Try.f56, h1c, h3]
theorem inj_impl_Check : ∀ a b, arg_impl_Check a = arg_impl_Check b → a = b := by
  intro x y h; simp [arg_impl_Check] at h; simp [Prod.ext_iff, h]
noncomputable def F_impl_Check : Con := nilfix [[some 38]] (pcon arg_impl_Check (fun a => p_impl_Check a) res_impl_Check)
theorem fn_impl_Check : Fn Try.prog 56 F_impl_Check := (Fn.pure cal_impl_Check (fun k w0 h0 => ok_impl_Check k w0 h0) mixed Try.func56 rfl rfl (by kernel_rfl) 1 (by decide) (fun _ => rfl) lm_impl_Check (fun a b h => t_impl_Check h)).nilfix _
theorem c_impl_Check {a0 : L3} {r : Int} (h : p_impl_Check a0 = some r) : F_impl_Check [.agg [.sl false 38 (List.map (cL38 false) a0)]] = some (((false, [none]), [.lit (.int .i64 r)])) := pcon_at (arg := arg_impl_Check) (p := fun a => p_impl_Check a) (res := res_impl_Check) (a := a0) (b := r) inj_impl_Check h
noncomputable def cal_impl_isGood (k : Nat) : Cal := calI (tabOf [(56, F_impl_Check)]) (inlOf [])
@[simp] theorem cal_impl_isGood_ap (k g : Nat) (vs : List TV) (mem : Mem) (ep : Nat) : cal_impl_isGood k g vs mem ep = calI (tabOf [(56, F_impl_Check)]) (inlOf []) g vs mem ep := rfl
theorem ok_impl_isGood (k : Nat) (w0 : World) (h0 : True) : CalOk Try.prog w0.heap.size w0 (cal_impl_isGood k) := by
  exact calI_ok (J := fun _ => True) stab_true (tabOf_ok _ (by simp [fn_impl_Check])) (inlOf_ok _ (by simp [])) h0
@[simp] def lm_impl_isGood : Nat → List Nat × Nat := fun b => ([], 0)
@[simp] def arg_impl_isGood (a : L3) : List TV := [.agg [.sl false 38 (List.map (cL38 false) a)]]
@[simp] def res_impl_isGood (r : Bool) : Sh × List V := ((false, [none]), [.lit (.bool r)])
def p_impl_isGood (a0 : L3) : Option Bool :=
 p_impl_Check a0 >>= fun y2 =>
 some (decide (y2 = 0))
theorem t_impl_isGood {a0 : L3} {r : Bool} (h : p_impl_isGood a0 = some r) : ∃ k, told Try.prog (cal_impl_isGood k) k lm_impl_isGood Try.f34 (arg_impl_isGood a0) = some (res_impl_isGood r) := by
  unfold p_impl_isGood at h
  obtain ⟨y2, h1, h⟩ := bd h
  have h1c := c_impl_Check h1
  obtain rfl := Option.some.inj h
  obtain ⟨k, hk⟩ : ∃ k, 0 ≤ k := ⟨_, Nat.le_refl _⟩
  refine ⟨k, ?_⟩
  simp (implicitDefEqProofs := false) [-getElem?_pos, -getElem?_neg, Try.f34, h1c]
theorem inj_impl_isGood : ∀ a b, arg_impl_isGood a = arg_impl_isGood b → a = b := by
  intro x y h; simp [arg_impl_isGood] at h; simp [Prod.ext_iff, h]
noncomputable def F_impl_isGood : Con := nilfix [[some 38]] (pcon arg_impl_isGood (fun a => p_impl_isGood a) res_impl_isGood)
theorem fn_impl_isGood : Fn Try.prog 34 F_impl_isGood := (Fn.pure cal_impl_isGood (fun k w0 h0 => ok_impl_isGood k w0 h0) mixed Try.func34 rfl rfl (by kernel_rfl) 1 (by decide) (fun _ => rfl) lm_impl_isGood (fun a b h => t_impl_isGood h)).nilfix _
theorem c_impl_isGood {a0 : L3} {r : Bool} (h : p_impl_isGood a0 = some r) : F_impl_isGood [.agg [.sl false 38 (List.map (cL38 false) a0)]] = some (((false, [none]), [.lit (.bool r)])) := pcon_at (arg := arg_impl_isGood) (p := fun a => p_impl_isGood a) (res := res_impl_isGood) (a := a0) (b := r) inj_impl_isGood h
def cal_laws_eqIntS (k : Nat) : Cal := calI (tabOf []) (inlOf [])
@[simp] theorem cal_laws_eqIntS_ap (k g : Nat) (vs : List TV) (mem : Mem) (ep : Nat) : cal_laws_eqIntS k g vs mem ep = calI (tabOf []) (inlOf []) g vs mem ep := rfl
theorem ok_laws_eqIntS (k : Nat) (w0 : World) (h0 : True) : CalOk Try.prog w0.heap.size w0 (cal_laws_eqIntS k) := by
  exact calI_ok (J := fun _ => True) stab_true (tabOf_ok _ (by simp [])) (inlOf_ok _ (by simp [])) h0
@[simp] def lm_laws_eqIntS : Nat → List Nat × Nat := fun b => if b = 0 then ([0, 1, 5], 0) else if b = 2000000 then ([], 8888888) else if b = 3000000 then ([], 0) else ([], 0)
theorem dr_laws_eqIntS_6 : drawn (opsOf (nav [1, 1, 0, 1, 0, 0, 1, 0, 0, 0] (bodyOf Try.f15))) = some ([0, 1, 2, 3, 4, 5, 6, 7, 8], []) := by kernel_rfl
@[simp] def arg_laws_eqIntS (a : LI × LI) : List TV := [.one (.sl false 3 (List.map cI a.1)), .one (.sl false 3 (List.map cI a.2))]
@[simp] def res_laws_eqIntS (r : Bool) : Sh × List V := ((false, [none]), [.lit (.bool r)])
def p_laws_eqIntS_L0 (a0 : LI) (a1 : LI) (x5b0 : Int) : Option (Bool ⊕ Unit) :=
 if x5b0 < (a0.length : Int) then
  if 0 ≤ x5b0 then
   a0[x5b0.toNat]? >>= fun y17 =>
   a1[x5b0.toNat]? >>= fun y19 =>
   if y17 = y19 then
    p_laws_eqIntS_L0 a0 a1 (IntKind.wrap .i64 (x5b0 + 1))
   else
    some (.inl false)
  else none
 else
  some (.inr ())
partial_fixpoint
@[simp] noncomputable def L_laws_eqIntS_L0 : Code := nav [1, 1, 0, 1, 0, 0] (bodyOf Try.f15)
@[simp] def T_laws_eqIntS_L0 (a0 : LI) (a1 : LI) (x5b0 : Int) (st : Nat → Nat) : St := ⟨[(0, .one (.sl false 3 (List.map cI a0))), (1, .one (.sl false 3 (List.map cI a1))), (5, .one (.lit (.int .i64 x5b0)))], [none], (st 0)⟩
@[simp] def U_laws_eqIntS_L0 (a0 : LI) (a1 : LI) (o : Unit) (st : Nat → Nat) : St := ⟨[], [none], (st 0)⟩
abbrev Q_laws_eqIntS_L0 (a0 : LI) (a1 : LI) (x5b0 : Int) (o : Bool ⊕ Unit) : Prop := ∀ st : Nat → Nat, LoopT Try.prog cal_laws_eqIntS 1 lm_laws_eqIntS 0 L_laws_eqIntS_L0 (tellS Try.prog lm_laws_eqIntS [.tmp 4]) res_laws_eqIntS (U_laws_eqIntS_L0 a0 a1) (T_laws_eqIntS_L0 a0 a1 x5b0 st) o
theorem l_laws_eqIntS_L0 {a0 : LI} {a1 : LI} {x5b0 : Int} {o : Bool ⊕ Unit} (h : p_laws_eqIntS_L0 a0 a1 x5b0 = some o) : Q_laws_eqIntS_L0 a0 a1 x5b0 o := by
  refine p_laws_eqIntS_L0.partial_correctness a0 a1 (motive := fun x5b0 o => Q_laws_eqIntS_L0 a0 a1 x5b0 o) ?_ x5b0 o h
  clear h o x5b0
  intro p' ih x5b0 r h st
  rcases ifc h with ⟨h15, h⟩ | ⟨h15, h⟩
  · obtain ⟨h16, h⟩ := ifg h
    obtain ⟨y17, h18, h⟩ := bd h
    obtain ⟨y19, h20, h⟩ := bd h
    rcases ifc h with ⟨h21, h⟩ | ⟨h21, h⟩
    · refine LoopT.step 0 (fun k hk => ?_) (ih _ _ h (sl [(st 0)]))
      have hd_laws_eqIntS_6 := dr_laws_eqIntS_6
      simp only [opsOf, nav, bodyOf, Try.f15, Option.getD_some] at hd_laws_eqIntS_6
      simp (implicitDefEqProofs := false) [-getElem?_pos, -getElem?_neg, Try.f15, h15, ex_draw2 _ _ hd_laws_eqIntS_6, h16, h18, h20, (eq_true h21)]
    obtain rfl := Option.some.inj h
    refine LoopT.ret 0 (fun k hk => ?_)
    have hd_laws_eqIntS_6 := dr_laws_eqIntS_6
    simp only [opsOf, nav, bodyOf, Try.f15, Option.getD_some] at hd_laws_eqIntS_6
    simp (implicitDefEqProofs := false) [-getElem?_pos, -getElem?_neg, Try.f15, h15, ex_draw2 _ _ hd_laws_eqIntS_6, h16, h18, h20, h21]
  obtain rfl := Option.some.inj h
  exact LoopT.exit (sl [(st 0)]) 0 (fun k hk => by simp (implicitDefEqProofs := false) [-getElem?_pos, -getElem?_neg, Try.f15, h15])
def p_laws_eqIntS (a0 : LI) (a1 : LI) : Option Bool :=
 if (a0.length : Int) = (a1.length : Int) then
  p_laws_eqIntS_L0 a0 a1 0 >>= fun o23 => match o23 with
  | .inl o23 =>
   some o23
  | .inr o23 =>
   some true
 else
  some false
theorem t_laws_eqIntS {a0 : LI} {a1 : LI} {r : Bool} (h : p_laws_eqIntS a0 a1 = some r) : ∃ k, told Try.prog (cal_laws_eqIntS k) k lm_laws_eqIntS Try.f15 (arg_laws_eqIntS (a0, a1)) = some (res_laws_eqIntS r) := by
  unfold p_laws_eqIntS at h
  rcases ifc h with ⟨h1, h⟩ | ⟨h1, h⟩
  · obtain ⟨o23, h22, h⟩ := bd h
    have qK24 := l_laws_eqIntS_L0 h22 (sl [1])
    rcases o23 with o23 | o23
    · obtain ⟨K24, qK24⟩ := qK24
      obtain rfl := Option.some.inj h
      obtain ⟨k, hk⟩ : ∃ k, K24 ≤ k := ⟨_, Nat.le_refl _⟩
      obtain ⟨S_K24, jK24, iK24⟩ := qK24 k (by omega) k (by omega)
      simp (implicitDefEqProofs := false) [-getElem?_pos, -getElem?_neg, Try.f15, (eq_true h1)] at jK24
      refine ⟨k, ?_⟩
      simp (implicitDefEqProofs := false) [-getElem?_pos, -getElem?_neg, Try.f15, (eq_true h1), iK24, jK24]
    obtain ⟨s25, K24, qK24⟩ := qK24
    obtain rfl := Option.some.inj h
    obtain ⟨k, hk⟩ : ∃ k, K24 ≤ k := ⟨_, Nat.le_refl _⟩
    have jK24 := qK24 k (by omega) k (by omega)
    simp (implicitDefEqProofs := false) [-getElem?_pos, -getElem?_neg, Try.f15, (eq_true h1)] at jK24
    refine ⟨k, ?_⟩
    simp (implicitDefEqProofs := false) [-getElem?_pos, -getElem?_neg, Try.f15, (eq_true h1), jK24]
  obtain rfl := Option.some.inj h
  obtain ⟨k, hk⟩ : ∃ k, 0 ≤ k := ⟨_, Nat.le_refl _⟩
  refine ⟨k, ?_⟩
  simp (implicitDefEqProofs := false) [-getElem?_pos, -getElem?_neg, Try.f15, h1]
theorem inj_laws_eqIntS : ∀ a b, arg_laws_eqIntS a = arg_laws_eqIntS b → a = b := by
  rintro ⟨x0, x1⟩ ⟨y0, y1⟩ h; simp [arg_laws_eqIntS] at h; simp [Prod.ext_iff, h]
noncomputable def F_laws_eqIntS : Con := nilfix [[some 3], [some 3]] (pcon arg_laws_eqIntS (fun a => p_laws_eqIntS a.1 a.2) res_laws_eqIntS)
theorem fn_laws_eqIntS : Fn Try.prog 15 F_laws_eqIntS := (Fn.pure cal_laws_eqIntS (fun k w0 h0 => ok_laws_eqIntS k w0 h0) mixed Try.func15 rfl rfl (by kernel_rfl) 2 (by decide) (fun _ => rfl) lm_laws_eqIntS (fun a b h => t_laws_eqIntS h)).nilfix _
theorem c_laws_eqIntS {a0 : LI} {a1 : LI} {r : Bool} (h : p_laws_eqIntS a0 a1 = some r) : F_laws_eqIntS [.one (.sl false 3 (List.map cI a0)), .one (.sl false 3 (List.map cI a1))] = some (((false, [none]), [.lit (.bool r)])) := pcon_at (arg := arg_laws_eqIntS) (p := fun a => p_laws_eqIntS a.1 a.2) (res := res_laws_eqIntS) (a := (a0, a1)) (b := r) inj_laws_eqIntS h
noncomputable def cal_laws_eqIntSS (k : Nat) : Cal := calI (tabOf [(15, F_laws_eqIntS)]) (inlOf [])
@[simp] theorem cal_laws_eqIntSS_ap (k g : Nat) (vs : List TV) (mem : Mem) (ep : Nat) : cal_laws_eqIntSS k g vs mem ep = calI (tabOf [(15, F_laws_eqIntS)]) (inlOf []) g vs mem ep := rfl
theorem ok_laws_eqIntSS (k : Nat) (w0 : World) (h0 : True) : CalOk Try.prog w0.heap.size w0 (cal_laws_eqIntSS k) := by
  exact calI_ok (J := fun _ => True) stab_true (tabOf_ok _ (by simp [fn_laws_eqIntS])) (inlOf_ok _ (by simp [])) h0
@[simp] def lm_laws_eqIntSS : Nat → List Nat × Nat := fun b => if b = 0 then ([0, 1, 5], 0) else if b = 2000000 then ([], 8888888) else if b = 3000000 then ([], 0) else ([], 0)
theorem dr_laws_eqIntSS_6 : drawn (opsOf (nav [1, 1, 0, 1, 0, 0, 1, 0, 0, 0] (bodyOf Try.f23))) = some ([0, 1, 2, 3, 4, 5, 6, 7], [8, 9]) := by kernel_rfl
@[simp] def arg_laws_eqIntSS (a : L2 × L2) : List TV := [.one (.sl false 31 (List.map (cL31 false) a.1)), .one (.sl false 31 (List.map (cL31 false) a.2))]
@[simp] def res_laws_eqIntSS (r : Bool) : Sh × List V := ((false, [none]), [.lit (.bool r)])
def p_laws_eqIntSS_L0 (a0 : L2) (a1 : L2) (x5b0 : Int) : Option (Bool ⊕ Unit) :=
 if x5b0 < (a0.length : Int) then
  if 0 ≤ x5b0 then
   a0[x5b0.toNat]? >>= fun y21 =>
   a1[x5b0.toNat]? >>= fun y23 =>
   p_laws_eqIntS y21 y23 >>= fun y26 =>
   if y26 then
    p_laws_eqIntSS_L0 a0 a1 (IntKind.wrap .i64 (x5b0 + 1))
   else
    some (.inl false)
  else none
 else
  some (.inr ())
partial_fixpoint
@[simp] noncomputable def L_laws_eqIntSS_L0 : Code := nav [1, 1, 0, 1, 0, 0] (bodyOf Try.f23)
@[simp] def T_laws_eqIntSS_L0 (a0 : L2) (a1 : L2) (x5b0 : Int) (st : Nat → Nat) : St := ⟨[(0, .one (.sl false 31 (List.map (cL31 false) a0))), (1, .one (.sl false 31 (List.map (cL31 false) a1))), (5, .one (.lit (.int .i64 x5b0)))], [none], (st 0)⟩
@[simp] def U_laws_eqIntSS_L0 (a0 : L2) (a1 : L2) (o : Unit) (st : Nat → Nat) : St := ⟨[], [none], (st 0)⟩
abbrev Q_laws_eqIntSS_L0 (a0 : L2) (a1 : L2) (x5b0 : Int) (o : Bool ⊕ Unit) : Prop := ∀ st : Nat → Nat, LoopT Try.prog cal_laws_eqIntSS 1 lm_laws_eqIntSS 0 L_laws_eqIntSS_L0 (tellS Try.prog lm_laws_eqIntSS [.tmp 4]) res_laws_eqIntSS (U_laws_eqIntSS_L0 a0 a1) (T_laws_eqIntSS_L0 a0 a1 x5b0 st) o
theorem l_laws_eqIntSS_L0 {a0 : L2} {a1 : L2} {x5b0 : Int} {o : Bool ⊕ Unit} (h : p_laws_eqIntSS_L0 a0 a1 x5b0 = some o) : Q_laws_eqIntSS_L0 a0 a1 x5b0 o := by
  refine p_laws_eqIntSS_L0.partial_correctness a0 a1 (motive := fun x5b0 o => Q_laws_eqIntSS_L0 a0 a1 x5b0 o) ?_ x5b0 o h
  clear h o x5b0
  intro p' ih x5b0 r h st
  rcases ifc h with ⟨h19, h⟩ | ⟨h19, h⟩
  · obtain ⟨h20, h⟩ := ifg h
    obtain ⟨y21, h22, h⟩ := bd h
    obtain ⟨y23, h24, h⟩ := bd h
    obtain ⟨y26, h25, h⟩ := bd h
    have h25c := c_laws_eqIntS h25
    rcases ifb h with ⟨h27, h⟩ | ⟨h27, h⟩
    · refine LoopT.step 0 (fun k hk => ?_) (ih _ _ h (sl [((st 0) + 1)]))
      have hd_laws_eqIntSS_6 := dr_laws_eqIntSS_6
      simp only [opsOf, nav, bodyOf, Try.f23, Option.getD_some] at hd_laws_eqIntSS_6
      simp (implicitDefEqProofs := false) [-getElem?_pos, -getElem?_neg, Try.f23, h19, ex_draw2 _ _ hd_laws_eqIntSS_6, h20, h22, h24, h25c, h27]
    obtain rfl := Option.some.inj h
    refine LoopT.ret 0 (fun k hk => ?_)
    have hd_laws_eqIntSS_6 := dr_laws_eqIntSS_6
    simp only [opsOf, nav, bodyOf, Try.f23, Option.getD_some] at hd_laws_eqIntSS_6
    simp (implicitDefEqProofs := false) [-getElem?_pos, -getElem?_neg, Try.f23, h19, ex_draw2 _ _ hd_laws_eqIntSS_6, h20, h22, h24, h25c, h27]
  obtain rfl := Option.some.inj h
  exact LoopT.exit (sl [(st 0)]) 0 (fun k hk => by simp (implicitDefEqProofs := false) [-getElem?_pos, -getElem?_neg, Try.f23, h19])
def p_laws_eqIntSS (a0 : L2) (a1 : L2) : Option Bool :=
 if (a0.length : Int) = (a1.length : Int) then
  p_laws_eqIntSS_L0 a0 a1 0 >>= fun o29 => match o29 with
  | .inl o29 =>
   some o29
  | .inr o29 =>
   some true
 else
  some false
theorem t_laws_eqIntSS {a0 : L2} {a1 : L2} {r : Bool} (h : p_laws_eqIntSS a0 a1 = some r) : ∃ k, told Try.prog (cal_laws_eqIntSS k) k lm_laws_eqIntSS Try.f23 (arg_laws_eqIntSS (a0, a1)) = some (res_laws_eqIntSS r) := by
  unfold p_laws_eqIntSS at h
  rcases ifc h with ⟨h1, h⟩ | ⟨h1, h⟩
  · obtain ⟨o29, h28, h⟩ := bd h
    have qK30 := l_laws_eqIntSS_L0 h28 (sl [1])
    rcases o29 with o29 | o29
    · obtain ⟨K30, qK30⟩ := qK30
      obtain rfl := Option.some.inj h
      obtain ⟨k, hk⟩ : ∃ k, K30 ≤ k := ⟨_, Nat.le_refl _⟩
      obtain ⟨S_K30, jK30, iK30⟩ := qK30 k (by omega) k (by omega)
      simp (implicitDefEqProofs := false) [-getElem?_pos, -getElem?_neg, Try.f23, (eq_true h1)] at jK30
      refine ⟨k, ?_⟩
      simp (implicitDefEqProofs := false) [-getElem?_pos, -getElem?_neg, Try.f23, (eq_true h1), iK30, jK30]
    obtain ⟨s31, K30, qK30⟩ := qK30
    obtain rfl := Option.some.inj h
    obtain ⟨k, hk⟩ : ∃ k, K30 ≤ k := ⟨_, Nat.le_refl _⟩
    have jK30 := qK30 k (by omega) k (by omega)
    simp (implicitDefEqProofs := false) [-getElem?_pos, -getElem?_neg, Try.f23, (eq_true h1)] at jK30
    refine ⟨k, ?_⟩
    simp (implicitDefEqProofs := false) [-getElem?_pos, -getElem?_neg, Try.f23, (eq_true h1), jK30]
  obtain rfl := Option.some.inj h
  obtain ⟨k, hk⟩ : ∃ k, 0 ≤ k := ⟨_, Nat.le_refl _⟩
  refine ⟨k, ?_⟩
  simp (implicitDefEqProofs := false) [-getElem?_pos, -getElem?_neg, Try.f23, h1]
theorem inj_laws_eqIntSS : ∀ a b, arg_laws_eqIntSS a = arg_laws_eqIntSS b → a = b := by
  rintro ⟨x0, x1⟩ ⟨y0, y1⟩ h; simp [arg_laws_eqIntSS] at h; simp [Prod.ext_iff, h]
noncomputable def F_laws_eqIntSS : Con := nilfix [[some 31], [some 31]] (pcon arg_laws_eqIntSS (fun a => p_laws_eqIntSS a.1 a.2) res_laws_eqIntSS)
theorem fn_laws_eqIntSS : Fn Try.prog 23 F_laws_eqIntSS := (Fn.pure cal_laws_eqIntSS (fun k w0 h0 => ok_laws_eqIntSS k w0 h0) mixed Try.func23 rfl rfl (by kernel_rfl) 2 (by decide) (fun _ => rfl) lm_laws_eqIntSS (fun a b h => t_laws_eqIntSS h)).nilfix _
theorem c_laws_eqIntSS {a0 : L2} {a1 : L2} {r : Bool} (h : p_laws_eqIntSS a0 a1 = some r) : F_laws_eqIntSS [.one (.sl false 31 (List.map (cL31 false) a0)), .one (.sl false 31 (List.map (cL31 false) a1))] = some (((false, [none]), [.lit (.bool r)])) := pcon_at (arg := arg_laws_eqIntSS) (p := fun a => p_laws_eqIntSS a.1 a.2) (res := res_laws_eqIntSS) (a := (a0, a1)) (b := r) inj_laws_eqIntSS h
noncomputable def cal_laws_eqIntSSS (k : Nat) : Cal := calI (tabOf [(23, F_laws_eqIntSS)]) (inlOf [])
@[simp] theorem cal_laws_eqIntSSS_ap (k g : Nat) (vs : List TV) (mem : Mem) (ep : Nat) : cal_laws_eqIntSSS k g vs mem ep = calI (tabOf [(23, F_laws_eqIntSS)]) (inlOf []) g vs mem ep := rfl
theorem ok_laws_eqIntSSS (k : Nat) (w0 : World) (h0 : True) : CalOk Try.prog w0.heap.size w0 (cal_laws_eqIntSSS k) := by
  exact calI_ok (J := fun _ => True) stab_true (tabOf_ok _ (by simp [fn_laws_eqIntSS])) (inlOf_ok _ (by simp [])) h0
@[simp] def lm_laws_eqIntSSS : Nat → List Nat × Nat := fun b => if b = 0 then ([0, 1, 5], 0) else if b = 2000000 then ([], 8888888) else if b = 3000000 then ([], 0) else ([], 0)
theorem dr_laws_eqIntSSS_6 : drawn (opsOf (nav [1, 1, 0, 1, 0, 0, 1, 0, 0, 0] (bodyOf Try.f36))) = some ([0, 1, 2, 3, 4, 5, 6, 7], [8, 9]) := by kernel_rfl
@[simp] def arg_laws_eqIntSSS (a : L3 × L3) : List TV := [.one (.sl false 38 (List.map (cL38 false) a.1)), .one (.sl false 38 (List.map (cL38 false) a.2))]
@[simp] def res_laws_eqIntSSS (r : Bool) : Sh × List V := ((false, [none]), [.lit (.bool r)])
def p_laws_eqIntSSS_L0 (a0 : L3) (a1 : L3) (x5b0 : Int) : Option (Bool ⊕ Unit) :=
 if x5b0 < (a0.length : Int) then
  if 0 ≤ x5b0 then
   a0[x5b0.toNat]? >>= fun y21 =>
   a1[x5b0.toNat]? >>= fun y23 =>
   p_laws_eqIntSS y21 y23 >>= fun y26 =>
   if y26 then
    p_laws_eqIntSSS_L0 a0 a1 (IntKind.wrap .i64 (x5b0 + 1))
   else
    some (.inl false)
  else none
 else
  some (.inr ())
partial_fixpoint
@[simp] noncomputable def L_laws_eqIntSSS_L0 : Code := nav [1, 1, 0, 1, 0, 0] (bodyOf Try.f36)
@[simp] def T_laws_eqIntSSS_L0 (a0 : L3) (a1 : L3) (x5b0 : Int) (st : Nat → Nat) : St := ⟨[(0, .one (.sl false 38 (List.map (cL38 false) a0))), (1, .one (.sl false 38 (List.map (cL38 false) a1))), (5, .one (.lit (.int .i64 x5b0)))], [none], (st 0)⟩
@[simp] def U_laws_eqIntSSS_L0 (a0 : L3) (a1 : L3) (o : Unit) (st : Nat → Nat) : St := ⟨[], [none], (st 0)⟩
abbrev Q_laws_eqIntSSS_L0 (a0 : L3) (a1 : L3) (x5b0 : Int) (o : Bool ⊕ Unit) : Prop := ∀ st : Nat → Nat, LoopT Try.prog cal_laws_eqIntSSS 1 lm_laws_eqIntSSS 0 L_laws_eqIntSSS_L0 (tellS Try.prog lm_laws_eqIntSSS [.tmp 4]) res_laws_eqIntSSS (U_laws_eqIntSSS_L0 a0 a1) (T_laws_eqIntSSS_L0 a0 a1 x5b0 st) o
theorem l_laws_eqIntSSS_L0 {a0 : L3} {a1 : L3} {x5b0 : Int} {o : Bool ⊕ Unit} (h : p_laws_eqIntSSS_L0 a0 a1 x5b0 = some o) : Q_laws_eqIntSSS_L0 a0 a1 x5b0 o := by
  refine p_laws_eqIntSSS_L0.partial_correctness a0 a1 (motive := fun x5b0 o => Q_laws_eqIntSSS_L0 a0 a1 x5b0 o) ?_ x5b0 o h
  clear h o x5b0
  intro p' ih x5b0 r h st
  rcases ifc h with ⟨h19, h⟩ | ⟨h19, h⟩
  · obtain ⟨h20, h⟩ := ifg h
    obtain ⟨y21, h22, h⟩ := bd h
    obtain ⟨y23, h24, h⟩ := bd h
    obtain ⟨y26, h25, h⟩ := bd h
    have h25c := c_laws_eqIntSS h25
    rcases ifb h with ⟨h27, h⟩ | ⟨h27, h⟩
    · refine LoopT.step 0 (fun k hk => ?_) (ih _ _ h (sl [((st 0) + 1)]))
      have hd_laws_eqIntSSS_6 := dr_laws_eqIntSSS_6
      simp only [opsOf, nav, bodyOf, Try.f36, Option.getD_some] at hd_laws_eqIntSSS_6
      simp (implicitDefEqProofs := false) [-getElem?_pos, -getElem?_neg, Try.f36, h19, ex_draw2 _ _ hd_laws_eqIntSSS_6, h20, h22, h24, h25c, h27]
    obtain rfl := Option.some.inj h
    refine LoopT.ret 0 (fun k hk => ?_)
    have hd_laws_eqIntSSS_6 := dr_laws_eqIntSSS_6
    simp only [opsOf, nav, bodyOf, Try.f36, Option.getD_some] at hd_laws_eqIntSSS_6
    simp (implicitDefEqProofs := false) [-getElem?_pos, -getElem?_neg, Try.f36, h19, ex_draw2 _ _ hd_laws_eqIntSSS_6, h20, h22, h24, h25c, h27]
  obtain rfl := Option.some.inj h
  exact LoopT.exit (sl [(st 0)]) 0 (fun k hk => by simp (implicitDefEqProofs := false) [-getElem?_pos, -getElem?_neg, Try.f36, h19])
def p_laws_eqIntSSS (a0 : L3) (a1 : L3) : Option Bool :=
 if (a0.length : Int) = (a1.length : Int) then
  p_laws_eqIntSSS_L0 a0 a1 0 >>= fun o29 => match o29 with
  | .inl o29 =>
   some o29
  | .inr o29 =>
   some true
 else
  some false
theorem t_laws_eqIntSSS {a0 : L3} {a1 : L3} {r : Bool} (h : p_laws_eqIntSSS a0 a1 = some r) : ∃ k, told Try.prog (cal_laws_eqIntSSS k) k lm_laws_eqIntSSS Try.f36 (arg_laws_eqIntSSS (a0, a1)) = some (res_laws_eqIntSSS r) := by
  unfold p_laws_eqIntSSS at h
  rcases ifc h with ⟨h1, h⟩ | ⟨h1, h⟩
  · obtain ⟨o29, h28, h⟩ := bd h
    have qK30 := l_laws_eqIntSSS_L0 h28 (sl [1])
    rcases o29 with o29 | o29
    · obtain ⟨K30, qK30⟩ := qK30
      obtain rfl := Option.some.inj h
      obtain ⟨k, hk⟩ : ∃ k, K30 ≤ k := ⟨_, Nat.le_refl _⟩
      obtain ⟨S_K30, jK30, iK30⟩ := qK30 k (by omega) k (by omega)
      simp (implicitDefEqProofs := false) [-getElem?_pos, -getElem?_neg, Try.f36, (eq_true h1)] at jK30
      refine ⟨k, ?_⟩
      simp (implicitDefEqProofs := false) [-getElem?_pos, -getElem?_neg, Try.f36, (eq_true h1), iK30, jK30]
    obtain ⟨s31, K30, qK30⟩ := qK30
    obtain rfl := Option.some.inj h
    obtain ⟨k, hk⟩ : ∃ k, K30 ≤ k := ⟨_, Nat.le_refl _⟩
    have jK30 := qK30 k (by omega) k (by omega)
    simp (implicitDefEqProofs := false) [-getElem?_pos, -getElem?_neg, Try.f36, (eq_true h1)] at jK30
    refine ⟨k, ?_⟩
    simp (implicitDefEqProofs := false) [-getElem?_pos, -getElem?_neg, Try.f36, (eq_true h1), jK30]
  obtain rfl := Option.some.inj h
  obtain ⟨k, hk⟩ : ∃ k, 0 ≤ k := ⟨_, Nat.le_refl _⟩
  refine ⟨k, ?_⟩
  simp (implicitDefEqProofs := false) [-getElem?_pos, -getElem?_neg, Try.f36, h1]
theorem inj_laws_eqIntSSS : ∀ a b, arg_laws_eqIntSSS a = arg_laws_eqIntSSS b → a = b := by
  rintro ⟨x0, x1⟩ ⟨y0, y1⟩ h; simp [arg_laws_eqIntSSS] at h; simp [Prod.ext_iff, h]
noncomputable def F_laws_eqIntSSS : Con := nilfix [[some 38], [some 38]] (pcon arg_laws_eqIntSSS (fun a => p_laws_eqIntSSS a.1 a.2) res_laws_eqIntSSS)
theorem fn_laws_eqIntSSS : Fn Try.prog 36 F_laws_eqIntSSS := (Fn.pure cal_laws_eqIntSSS (fun k w0 h0 => ok_laws_eqIntSSS k w0 h0) mixed Try.func36 rfl rfl (by kernel_rfl) 2 (by decide) (fun _ => rfl) lm_laws_eqIntSSS (fun a b h => t_laws_eqIntSSS h)).nilfix _
theorem c_laws_eqIntSSS {a0 : L3} {a1 : L3} {r : Bool} (h : p_laws_eqIntSSS a0 a1 = some r) : F_laws_eqIntSSS [.one (.sl false 38 (List.map (cL38 false) a0)), .one (.sl false 38 (List.map (cL38 false) a1))] = some (((false, [none]), [.lit (.bool r)])) := pcon_at (arg := arg_laws_eqIntSSS) (p := fun a => p_laws_eqIntSSS a.1 a.2) (res := res_laws_eqIntSSS) (a := (a0, a1)) (b := r) inj_laws_eqIntSSS h
noncomputable def cal_laws_eqGram (k : Nat) : Cal := calI (tabOf [(36, F_laws_eqIntSSS)]) (inlOf [])
@[simp] theorem cal_laws_eqGram_ap (k g : Nat) (vs : List TV) (mem : Mem) (ep : Nat) : cal_laws_eqGram k g vs mem ep = calI (tabOf [(36, F_laws_eqIntSSS)]) (inlOf []) g vs mem ep := rfl
theorem ok_laws_eqGram (k : Nat) (w0 : World) (h0 : True) : CalOk Try.prog w0.heap.size w0 (cal_laws_eqGram k) := by
  exact calI_ok (J := fun _ => True) stab_true (tabOf_ok _ (by simp [fn_laws_eqIntSSS])) (inlOf_ok _ (by simp [])) h0
@[simp] def lm_laws_eqGram : Nat → List Nat × Nat := fun b => ([], 0)
@[simp] def arg_laws_eqGram (a : L3 × L3) : List TV := [.agg [.sl false 38 (List.map (cL38 false) a.1)], .agg [.sl false 38 (List.map (cL38 false) a.2)]]
@[simp] def res_laws_eqGram (r : Bool) : Sh × List V := ((false, [none]), [.lit (.bool r)])
def p_laws_eqGram (a0 : L3) (a1 : L3) : Option Bool :=
 p_laws_eqIntSSS a0 a1 >>= fun y2 =>
 if y2 then
  some true
 else
  some false
theorem t_laws_eqGram {a0 : L3} {a1 : L3} {r : Bool} (h : p_laws_eqGram a0 a1 = some r) : ∃ k, told Try.prog (cal_laws_eqGram k) k lm_laws_eqGram Try.f12 (arg_laws_eqGram (a0, a1)) = some (res_laws_eqGram r) := by
  unfold p_laws_eqGram at h
  obtain ⟨y2, h1, h⟩ := bd h
  have h1c := c_laws_eqIntSSS h1
  rcases ifb h with ⟨h3, h⟩ | ⟨h3, h⟩
  · obtain rfl := Option.some.inj h
    obtain ⟨k, hk⟩ : ∃ k, 0 ≤ k := ⟨_, Nat.le_refl _⟩
    refine ⟨k, ?_⟩
    simp (implicitDefEqProofs := false) [-getElem?_pos, -getElem?_neg, Try.f12, h1c, h3]
  obtain rfl := Option.some.inj h
  obtain ⟨k, hk⟩ : ∃ k, 0 ≤ k := ⟨_, Nat.le_refl _⟩
  refine ⟨k, ?_⟩
  simp (implicitDefEqProofs := false) [-getElem?_pos, -getElem?_neg, Try.f12, h1c, h3]
theorem inj_laws_eqGram : ∀ a b, arg_laws_eqGram a = arg_laws_eqGram b → a = b := by
  rintro ⟨x0, x1⟩ ⟨y0, y1⟩ h; simp [arg_laws_eqGram] at h; simp [Prod.ext_iff, h]
noncomputable def F_laws_eqGram : Con := nilfix [[some 38], [some 38]] (pcon arg_laws_eqGram (fun a => p_laws_eqGram a.1 a.2) res_laws_eqGram)
theorem fn_laws_eqGram : Fn Try.prog 12 F_laws_eqGram := (Fn.pure cal_laws_eqGram (fun k w0 h0 => ok_laws_eqGram k w0 h0) mixed Try.func12 rfl rfl (by kernel_rfl) 2 (by decide) (fun _ => rfl) lm_laws_eqGram (fun a b h => t_laws_eqGram h)).nilfix _
theorem c_laws_eqGram {a0 : L3} {a1 : L3} {r : Bool} (h : p_laws_eqGram a0 a1 = some r) : F_laws_eqGram [.agg [.sl false 38 (List.map (cL38 false) a0)], .agg [.sl false 38 (List.map (cL38 false) a1)]] = some (((false, [none]), [.lit (.bool r)])) := pcon_at (arg := arg_laws_eqGram) (p := fun a => p_laws_eqGram a.1 a.2) (res := res_laws_eqGram) (a := (a0, a1)) (b := r) inj_laws_eqGram h
end Go.Proofs.Ytanglbgincgmaaa.Vm

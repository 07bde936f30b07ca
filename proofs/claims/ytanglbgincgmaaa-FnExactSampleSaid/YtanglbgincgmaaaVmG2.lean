/-
  Functions of the program as plain Lean ones, and that the model does as they say. Written by a program of mine (gen.py).
-/
import Derived.Test.YtanglbgincgmaaaVmG1
namespace Go.Proofs.Ytanglbgincgmaaa.Vm
open Go Go.RowKit Go.Proofs
set_option linter.unusedVariables false
set_option linter.unusedSimpArgs false
set_option maxHeartbeats 8000000
@[simp] def arg_spec_l23Word (a : List (List (List (Int))) × List (Int) × Int) : List TV := [.agg [.sl false 38 (List.map (cL38 false) a.1)], .one (.sl false 3 (List.map cI a.2.1)), .one (.lit (.int .i64 a.2.2))]
@[simp] def res_spec_l23Word (r : List (Int)) : Sh × List V := ((false, [none]), [.sl true 3 (List.map cI r)])
theorem inj_spec_l23Word : ∀ a b, arg_spec_l23Word a = arg_spec_l23Word b → a = b := by
  rintro ⟨x0, x1, x2⟩ ⟨y0, y1, y2⟩ h; simp [arg_spec_l23Word] at h; simp [Prod.ext_iff, h]
abbrev RT_spec_l23Word : Type := (List (List (List (Int)))) → (List (Int)) → Int → Option (List (Int))
noncomputable def R_spec_l23Word (rec : RT_spec_l23Word) : Con := nilfix [[some 38], [some 3], [none]] (pcon arg_spec_l23Word (fun a => rec a.1 a.2.1 a.2.2) res_spec_l23Word)
abbrev HR_spec_l23Word (rec : RT_spec_l23Word) : Prop := Fn Try.prog 37 (pcon arg_spec_l23Word (fun a => rec a.1 a.2.1 a.2.2) res_spec_l23Word)
theorem fR_spec_l23Word {rec : RT_spec_l23Word} (hrec : HR_spec_l23Word rec) : Fn Try.prog 37 (R_spec_l23Word rec) := hrec.nilfix _
theorem cR_spec_l23Word {rec : RT_spec_l23Word} {a0 : List (List (List (Int)))} {a1 : List (Int)} {a2 : Int} {r : List (Int)} (h : rec a0 a1 a2 = some r) : R_spec_l23Word rec [.agg [.sl false 38 (List.map (cL38 false) a0)], .one (.sl false 3 (List.map cI a1)), .one (.lit (.int .i64 a2))] = some (((false, [none]), [.sl true 3 (List.map cI r)])) := pcon_at (arg := arg_spec_l23Word) (p := fun a => rec a.1 a.2.1 a.2.2) (res := res_spec_l23Word) (a := (a0, a1, a2)) (b := r) inj_spec_l23Word h
noncomputable def cal_spec_l23Wordb (rec : RT_spec_l23Word) (k : Nat) : Cal := calI (tabOf [(37, (R_spec_l23Word rec)), (53, F_spec_l23Sum)]) (inlOf [])
@[simp] theorem cal_spec_l23Wordb_ap {rec : RT_spec_l23Word} (k g : Nat) (vs : List TV) (mem : Mem) (ep : Nat) : (cal_spec_l23Wordb rec) k g vs mem ep = calI (tabOf [(37, (R_spec_l23Word rec)), (53, F_spec_l23Sum)]) (inlOf []) g vs mem ep := rfl
theorem ok_spec_l23Wordb {rec : RT_spec_l23Word} (hrec : HR_spec_l23Word rec) (k : Nat) (w0 : World) (h0 : True) : CalOk Try.prog w0.heap.size w0 ((cal_spec_l23Wordb rec) k) := by
  exact calI_ok (J := fun _ => True) stab_true (tabOf_ok _ (by simp [(fR_spec_l23Word hrec), fn_spec_l23Sum])) (inlOf_ok _ (by simp [])) h0
@[simp] def lm_spec_l23Wordb : Nat → List Nat × Nat := fun b => if b = 0 then ([1, 2, 3, 7, 8], 1) else if b = 2000000 then ([], 8888888) else if b = 3000000 then ([1, 2, 3, 7], 1) else if b = 2 then ([1, 3, 9, 10, 11], 2) else if b = 2000002 then ([], 8888888) else if b = 3000002 then ([9], 2) else ([], 0)
theorem dr_spec_l23Wordb_5 : drawn (opsOf (nav [1, 1, 0, 1, 0, 0, 1, 0, 0, 0] (bodyOf Try.f37))) = some ([0, 1, 2, 3, 4, 5, 6, 7, 8, 10, 11, 12, 13, 14, 15, 16, 17, 18], [9, 19, 20]) := by kernel_rfl
theorem dr_spec_l23Wordb_15 : drawn (opsOf (nav [1, 1, 1, 1, 1, 0, 1, 0, 0, 1, 0, 0, 1, 1, 1, 0] (bodyOf Try.f37))) = some ([0, 1, 2, 3, 4, 5, 6, 7], [8, 9, 10]) := by kernel_rfl
@[simp] def arg_spec_l23Wordb (a : List (List (List (Int))) × List (Int) × Int) : List TV := [.agg [.sl false 38 (List.map (cL38 false) a.1)], .one (.sl false 3 (List.map cI a.2.1)), .one (.lit (.int .i64 a.2.2))]
@[simp] def res_spec_l23Wordb (r : List (Int)) : Sh × List V := ((false, [none]), [.sl true 3 (List.map cI r)])
def p_spec_l23Wordb_L0 (rec : RT_spec_l23Word) (a1 : List (Int)) (a2 : Int) (a0 : List (List (List (Int)))) (x7b0 : Int) (x8b0 : Int) : Option (Int) :=
 if 0 ≤ a2 then
  a0[a2.toNat]? >>= fun y45 =>
  if x8b0 < (y45.length : Int) then
   if 0 ≤ x8b0 then
    y45[x8b0.toNat]? >>= fun y49 =>
    if 0 ≤ x7b0 then
     y45[x7b0.toNat]? >>= fun y52 =>
     p_spec_l23Sum y49 a1 >>= fun y55 =>
     p_spec_l23Sum y52 a1 >>= fun y57 =>
     if y55 < y57 then
      p_spec_l23Wordb_L0 rec a1 a2 a0 x8b0 (IntKind.wrap .i64 (x8b0 + 1))
     else
      p_spec_l23Wordb_L0 rec a1 a2 a0 x7b0 (IntKind.wrap .i64 (x8b0 + 1))
    else none
   else none
  else
   some x7b0
 else none
partial_fixpoint
@[simp] noncomputable def L_spec_l23Wordb_L0 : Code := nav [1, 1, 0, 1, 0, 0] (bodyOf Try.f37)
@[simp] def T_spec_l23Wordb_L0 (a1 : List (Int)) (a2 : Int) (a0 : List (List (List (Int)))) (x7b0 : Int) (x8b0 : Int) (st : Nat → Nat) : St := ⟨[(1, .one (.sl false 3 (List.map cI a1))), (2, .one (.lit (.int .i64 a2))), (3, .one (.bp 1 1 0)), (7, .one (.lit (.int .i64 x7b0))), (8, .one (.lit (.int .i64 x8b0)))], [none, some (.box 1 [.sl false 38 (List.map (cL38 false) a0)])], (st 0)⟩
@[simp] def U_spec_l23Wordb_L0 (a1 : List (Int)) (a2 : Int) (a0 : List (List (List (Int)))) (o : Int) (st : Nat → Nat) : St := ⟨[(1, .one (.sl false 3 (List.map cI a1))), (2, .one (.lit (.int .i64 a2))), (3, .one (.bp 1 1 0)), (7, .one (.lit (.int .i64 o)))], [none, some (.box 1 [.sl false 38 (List.map (cL38 false) a0)])], (st 0)⟩
abbrev Q_spec_l23Wordb_L0 (rec : RT_spec_l23Word) (a1 : List (Int)) (a2 : Int) (a0 : List (List (List (Int)))) (x7b0 : Int) (x8b0 : Int) (o : Int) : Prop := ∀ st : Nat → Nat, LoopG Try.prog (cal_spec_l23Wordb rec) 1 lm_spec_l23Wordb 0 L_spec_l23Wordb_L0 (U_spec_l23Wordb_L0 a1 a2 a0) (T_spec_l23Wordb_L0 a1 a2 a0 x7b0 x8b0 st) o
theorem l_spec_l23Wordb_L0 {rec : RT_spec_l23Word} {a1 : List (Int)} {a2 : Int} {a0 : List (List (List (Int)))} {x7b0 : Int} {x8b0 : Int} {o : Int} (h : p_spec_l23Wordb_L0 rec a1 a2 a0 x7b0 x8b0 = some o) : Q_spec_l23Wordb_L0 rec a1 a2 a0 x7b0 x8b0 o := by
  refine p_spec_l23Wordb_L0.partial_correctness rec a1 a2 a0 (motive := fun x7b0 x8b0 o => Q_spec_l23Wordb_L0 rec a1 a2 a0 x7b0 x8b0 o) ?_ x7b0 x8b0 o h
  clear h o x7b0 x8b0
  intro p' ih x7b0 x8b0 r h st
  obtain ⟨h44, h⟩ := ifg h
  obtain ⟨y45, h46, h⟩ := bd h
  rcases ifc h with ⟨h47, h⟩ | ⟨h47, h⟩
  · obtain ⟨h48, h⟩ := ifg h
    obtain ⟨y49, h50, h⟩ := bd h
    obtain ⟨h51, h⟩ := ifg h
    obtain ⟨y52, h53, h⟩ := bd h
    obtain ⟨y55, h54, h⟩ := bd h
    have h54c := c_spec_l23Sum h54
    obtain ⟨y57, h56, h⟩ := bd h
    have h56c := c_spec_l23Sum h56
    rcases ifc h with ⟨h58, h⟩ | ⟨h58, h⟩
    · refine LoopG.step 0 (fun k hk => ?_) (ih _ _ _ h (sl [((st 0) + 2)]))
      have hd_spec_l23Wordb_5 := dr_spec_l23Wordb_5
      simp only [opsOf, nav, bodyOf, Try.f37, Option.getD_some] at hd_spec_l23Wordb_5
      simp (implicitDefEqProofs := false) [-getElem?_pos, -getElem?_neg, Try.f37, h44, h46, h47, ex_draw2 _ _ hd_spec_l23Wordb_5, h48, h50, h51, h53, h54c, h56c, h58]
    refine LoopG.step 0 (fun k hk => ?_) (ih _ _ _ h (sl [((st 0) + 2)]))
    have hd_spec_l23Wordb_5 := dr_spec_l23Wordb_5
    simp only [opsOf, nav, bodyOf, Try.f37, Option.getD_some] at hd_spec_l23Wordb_5
    simp (implicitDefEqProofs := false) [-getElem?_pos, -getElem?_neg, Try.f37, h44, h46, h47, ex_draw2 _ _ hd_spec_l23Wordb_5, h48, h50, h51, h53, h54c, h56c, h58]
  obtain rfl := Option.some.inj h
  exact LoopG.exit (sl [(st 0)]) 0 (fun k hk => by simp (implicitDefEqProofs := false) [-getElem?_pos, -getElem?_neg, Try.f37, h44, h46, h47])
def p_spec_l23Wordb_L2 (rec : RT_spec_l23Word) (a1 : List (Int)) (y67 : List (Int)) (a0 : List (List (List (Int)))) (x11b2 : Int) (l2b2 : List (Int)) : Option (List (Int)) :=
 if x11b2 < (y67.length : Int) then
  if 0 ≤ x11b2 then
   y67[x11b2.toNat]? >>= fun y116 =>
   if y116 < 100 then
    if (l2b2.length + 1) * 8 ≤ 140737488355328 then
     some (l2b2 ++ [y116]) >>= fun l120 =>
     p_spec_l23Wordb_L2 rec a1 y67 a0 (IntKind.wrap .i64 (x11b2 + 1)) l120
    else none
   else
    if 0 ≤ (IntKind.wrap .i64 (y116 - 100)) then
     a1[(IntKind.wrap .i64 (y116 - 100)).toNat]? >>= fun y123 =>
     if 0 < y123 then
      rec a0 a1 (IntKind.wrap .i64 (y116 - 100)) >>= fun y127 =>
      if (l2b2.length + y127.length) * 8 ≤ 140737488355328 then
       some (l2b2 ++ y127) >>= fun l129 =>
       p_spec_l23Wordb_L2 rec a1 y67 a0 (IntKind.wrap .i64 (x11b2 + 1)) l129
      else none
     else
      p_spec_l23Wordb_L2 rec a1 y67 a0 (IntKind.wrap .i64 (x11b2 + 1)) l2b2
    else none
  else none
 else
  some l2b2
partial_fixpoint
@[simp] noncomputable def L_spec_l23Wordb_L2 : Code := nav [1, 1, 1, 1, 1, 0, 1, 0, 0] (bodyOf Try.f37)
@[simp] def T_spec_l23Wordb_L2 (a1 : List (Int)) (y67 : List (Int)) (a0 : List (List (List (Int)))) (x11b2 : Int) (l2b2 : List (Int)) (st : Nat → Nat) : St := ⟨[(1, .one (.sl false 3 (List.map cI a1))), (3, .one (.bp 1 1 0)), (9, .one (.ow 2 (st 1))), (10, .one (.sl false 3 (List.map cI y67))), (11, .one (.lit (.int .i64 x11b2)))], [none, some (.box 1 [.sl false 38 (List.map (cL38 false) a0)]), some (.rows (st 1) (st 2) 3 (List.map cI l2b2))], (st 0)⟩
@[simp] def U_spec_l23Wordb_L2 (a1 : List (Int)) (y67 : List (Int)) (a0 : List (List (List (Int)))) (o : List (Int)) (st : Nat → Nat) : St := ⟨[(9, .one (.ow 2 (st 1)))], [none, some (.box 1 [.sl false 38 (List.map (cL38 false) a0)]), some (.rows (st 1) (st 2) 3 (List.map cI o))], (st 0)⟩
abbrev Q_spec_l23Wordb_L2 (rec : RT_spec_l23Word) (a1 : List (Int)) (y67 : List (Int)) (a0 : List (List (List (Int)))) (x11b2 : Int) (l2b2 : List (Int)) (o : List (Int)) : Prop := ∀ st : Nat → Nat, LoopG Try.prog (cal_spec_l23Wordb rec) 1 lm_spec_l23Wordb 2 L_spec_l23Wordb_L2 (U_spec_l23Wordb_L2 a1 y67 a0) (T_spec_l23Wordb_L2 a1 y67 a0 x11b2 l2b2 st) o
theorem l_spec_l23Wordb_L2 {rec : RT_spec_l23Word} {a1 : List (Int)} {y67 : List (Int)} {a0 : List (List (List (Int)))} {x11b2 : Int} {l2b2 : List (Int)} {o : List (Int)} (h : p_spec_l23Wordb_L2 rec a1 y67 a0 x11b2 l2b2 = some o) : Q_spec_l23Wordb_L2 rec a1 y67 a0 x11b2 l2b2 o := by
  refine p_spec_l23Wordb_L2.partial_correctness rec a1 y67 a0 (motive := fun x11b2 l2b2 o => Q_spec_l23Wordb_L2 rec a1 y67 a0 x11b2 l2b2 o) ?_ x11b2 l2b2 o h
  clear h o x11b2 l2b2
  intro p' ih x11b2 l2b2 r h st
  rcases ifc h with ⟨h114, h⟩ | ⟨h114, h⟩
  · obtain ⟨h115, h⟩ := ifg h
    obtain ⟨y116, h117, h⟩ := bd h
    rcases ifc h with ⟨h118, h⟩ | ⟨h118, h⟩
    · obtain ⟨h119, h⟩ := ifg h
      obtain ⟨l120, h121, h⟩ := bd h
      have h121r : List.map cI l2b2 ++ [[.lit (.int .i64 y116)]] = List.map cI l120 := by rw [← Option.some.inj h121]; simp
      exact LoopG.step 0 (fun k hk => by simp (implicitDefEqProofs := false) [-getElem?_pos, -getElem?_neg, Try.f37, h114, h115, h117, h118, h119, h121r]) (ih _ _ _ h (sl [((st 0) + 2), ((st 0) + 1), (st 2)]))
    obtain ⟨h122, h⟩ := ifg h
    obtain ⟨y123, h124, h⟩ := bd h
    rcases ifc h with ⟨h125, h⟩ | ⟨h125, h⟩
    · obtain ⟨y127, h126, h⟩ := bd h
      have h126c := cR_spec_l23Word h126
      try simp (implicitDefEqProofs := false) [-getElem?_pos, -getElem?_neg] at h126c
      obtain ⟨h128, h⟩ := ifg h
      obtain ⟨l129, h130, h⟩ := bd h
      have h130r : List.map cI l2b2 ++ List.map cI y127 = List.map cI l129 := by rw [← Option.some.inj h130]; simp
      refine LoopG.step 0 (fun k hk => ?_) (ih _ _ _ h (sl [((st 0) + 2), ((st 0) + 1), (st 2)]))
      have hd_spec_l23Wordb_15 := dr_spec_l23Wordb_15
      simp only [opsOf, nav, bodyOf, Try.f37, Option.getD_some] at hd_spec_l23Wordb_15
      simp (implicitDefEqProofs := false) [-getElem?_pos, -getElem?_neg, Try.f37, h114, h115, h117, h118, h122, h124, h125, ex_draw2 _ _ hd_spec_l23Wordb_15, h126c, h128, h130r]
    exact LoopG.step 0 (fun k hk => by simp (implicitDefEqProofs := false) [-getElem?_pos, -getElem?_neg, Try.f37, h114, h115, h117, h118, h122, h124, h125]) (ih _ _ _ h (sl [(st 0), (st 1), (st 2)]))
  obtain rfl := Option.some.inj h
  exact LoopG.exit (sl [(st 0), (st 1), (st 2)]) 0 (fun k hk => by simp (implicitDefEqProofs := false) [-getElem?_pos, -getElem?_neg, Try.f37, h114])
def p_spec_l23Wordb (rec : RT_spec_l23Word) (a0 : List (List (List (Int)))) (a1 : List (Int)) (a2 : Int) : Option (List (Int)) :=
 p_spec_l23Wordb_L0 rec a1 a2 a0 0 1 >>= fun o60 =>
 if 0 ≤ a2 then
  a0[a2.toNat]? >>= fun y64 =>
  if 0 ≤ o60 then
   y64[o60.toNat]? >>= fun y67 =>
   p_spec_l23Wordb_L2 rec a1 y67 a0 0 ([]) >>= fun o132 =>
   some o132
  else none
 else none
theorem t_spec_l23Wordb {rec : RT_spec_l23Word} {a0 : List (List (List (Int)))} {a1 : List (Int)} {a2 : Int} {r : List (Int)} (h : p_spec_l23Wordb rec a0 a1 a2 = some r) : ∃ k, told Try.prog ((cal_spec_l23Wordb rec) k) k lm_spec_l23Wordb Try.f37 (arg_spec_l23Wordb (a0, a1, a2)) = some (res_spec_l23Wordb r) := by
  unfold p_spec_l23Wordb at h
  obtain ⟨o60, h59, h⟩ := bd h
  have qK61 := l_spec_l23Wordb_L0 h59 (sl [2])
  obtain ⟨s62, K61, qK61⟩ := qK61
  obtain ⟨h63, h⟩ := ifg h
  obtain ⟨y64, h65, h⟩ := bd h
  obtain ⟨h66, h⟩ := ifg h
  obtain ⟨y67, h68, h⟩ := bd h
  obtain ⟨o132, h131, h⟩ := bd h
  have qK133 := l_spec_l23Wordb_L2 h131 (sl [((s62 0) + 1), (s62 0), (s62 0)])
  obtain ⟨s134, K133, qK133⟩ := qK133
  obtain rfl := Option.some.inj h
  obtain ⟨k, hk⟩ : ∃ k, K61 + K133 ≤ k := ⟨_, Nat.le_refl _⟩
  have jK61 := qK61 k (by omega) k (by omega)
  simp (implicitDefEqProofs := false) [-getElem?_pos, -getElem?_neg, Try.f37, h63, h65, h66, h68] at jK61
  have jK133 := qK133 k (by omega) k (by omega)
  simp (implicitDefEqProofs := false) [-getElem?_pos, -getElem?_neg, Try.f37, h63, h65, h66, h68] at jK133
  refine ⟨k, ?_⟩
  simp (implicitDefEqProofs := false) [-getElem?_pos, -getElem?_neg, Try.f37, h63, h65, h66, h68, jK61, jK133]
theorem inj_spec_l23Wordb : ∀ a b, arg_spec_l23Wordb a = arg_spec_l23Wordb b → a = b := by
  rintro ⟨x0, x1, x2⟩ ⟨y0, y1, y2⟩ h; simp [arg_spec_l23Wordb] at h; simp [Prod.ext_iff, h]
noncomputable def F_spec_l23Wordb (rec : RT_spec_l23Word) : Con := nilfix [[some 38], [some 3], [none]] (pcon arg_spec_l23Wordb (fun a => p_spec_l23Wordb rec a.1 a.2.1 a.2.2) res_spec_l23Wordb)
theorem fw_spec_l23Wordb {rec : RT_spec_l23Word} (hrec : HR_spec_l23Word rec) : Fn Try.prog 37 (pcon arg_spec_l23Wordb (fun a => p_spec_l23Wordb rec a.1 a.2.1 a.2.2) res_spec_l23Wordb) := Fn.pure (cal_spec_l23Wordb rec) (fun k w0 h0 => ok_spec_l23Wordb hrec k w0 h0) mixed Try.func37 rfl rfl (by kernel_rfl) 3 (by decide) (fun _ => rfl) lm_spec_l23Wordb (fun a b h => t_spec_l23Wordb h)
theorem fn_spec_l23Wordb {rec : RT_spec_l23Word} (hrec : HR_spec_l23Word rec) : Fn Try.prog 37 (F_spec_l23Wordb rec) := (fw_spec_l23Wordb hrec).nilfix _
theorem c_spec_l23Wordb {rec : RT_spec_l23Word} {a0 : List (List (List (Int)))} {a1 : List (Int)} {a2 : Int} {r : List (Int)} (h : p_spec_l23Wordb rec a0 a1 a2 = some r) : (F_spec_l23Wordb rec) [.agg [.sl false 38 (List.map (cL38 false) a0)], .one (.sl false 3 (List.map cI a1)), .one (.lit (.int .i64 a2))] = some (((false, [none]), [.sl true 3 (List.map cI r)])) := pcon_at (arg := arg_spec_l23Wordb) (p := fun a => p_spec_l23Wordb rec a.1 a.2.1 a.2.2) (res := res_spec_l23Wordb) (a := (a0, a1, a2)) (b := r) inj_spec_l23Wordb h
def p_spec_l23Word_n : Nat → RT_spec_l23Word
  | 0 => fun _ _ _ => none
  | n + 1 => fun a0 a1 a2 => p_spec_l23Wordb (p_spec_l23Word_n n) a0 a1 a2
theorem fn_spec_l23Word_n : ∀ n, HR_spec_l23Word (p_spec_l23Word_n n)
  | 0 => Fn.none0 ⟨_, Try.func37, rfl, rfl⟩
  | n + 1 => fw_spec_l23Wordb (fn_spec_l23Word_n n)
noncomputable def p_spec_l23Word (a0 : List (List (List (Int)))) (a1 : List (Int)) (a2 : Int) : Option (List (Int)) := lim (fun n (a : List (List (List (Int))) × List (Int) × Int) => p_spec_l23Word_n n a.1 a.2.1 a.2.2) (a0, a1, a2)
theorem hr_spec_l23Word : HR_spec_l23Word p_spec_l23Word := Fn.lim (p := fun n (a : List (List (List (Int))) × List (Int) × Int) => p_spec_l23Word_n n a.1 a.2.1 a.2.2) inj_spec_l23Word fn_spec_l23Word_n
noncomputable def F_spec_l23Word : Con := nilfix [[some 38], [some 3], [none]] (pcon arg_spec_l23Word (fun a => p_spec_l23Word a.1 a.2.1 a.2.2) res_spec_l23Word)
theorem fn_spec_l23Word : Fn Try.prog 37 F_spec_l23Word := hr_spec_l23Word.nilfix _
theorem c_spec_l23Word {a0 : List (List (List (Int)))} {a1 : List (Int)} {a2 : Int} {r : List (Int)} (h : p_spec_l23Word a0 a1 a2 = some r) : F_spec_l23Word [.agg [.sl false 38 (List.map (cL38 false) a0)], .one (.sl false 3 (List.map cI a1)), .one (.lit (.int .i64 a2))] = some (((false, [none]), [.sl true 3 (List.map cI r)])) := pcon_at (arg := arg_spec_l23Word) (p := fun a => p_spec_l23Word a.1 a.2.1 a.2.2) (res := res_spec_l23Word) (a := (a0, a1, a2)) (b := r) inj_spec_l23Word h
noncomputable def cal_spec_Sample (k : Nat) : Cal := calI (tabOf [(29, F_spec_Check), (31, F_spec_l23Least), (37, F_spec_l23Word)]) (inlOf [])
@[simp] theorem cal_spec_Sample_ap (k g : Nat) (vs : List TV) (mem : Mem) (ep : Nat) : cal_spec_Sample k g vs mem ep = calI (tabOf [(29, F_spec_Check), (31, F_spec_l23Least), (37, F_spec_l23Word)]) (inlOf []) g vs mem ep := rfl
theorem ok_spec_Sample (k : Nat) (w0 : World) (h0 : True) : CalOk Try.prog w0.heap.size w0 (cal_spec_Sample k) := by
  exact calI_ok (J := fun _ => True) stab_true (tabOf_ok _ (by simp [fn_spec_Check, fn_spec_l23Least, fn_spec_l23Word])) (inlOf_ok _ (by simp [])) h0
@[simp] def lm_spec_Sample : Nat → List Nat × Nat := fun b => ([], 0)
@[simp] def arg_spec_Sample (a : List (List (List (Int)))) : List TV := [.agg [.sl false 38 (List.map (cL38 false) a)]]
@[simp] def res_spec_Sample (r : List (Int) × Bool) : Sh × List V := ((true, [none, none]), [.sl true 3 (List.map cI r.1), .lit (.bool r.2)])
noncomputable def p_spec_Sample (a0 : List (List (List (Int)))) : Option (List (Int) × Bool) :=
 p_spec_Check a0 >>= fun y2 =>
 if y2 = 0 then
  p_spec_l23Least a0 >>= fun y5 =>
  y5[0]? >>= fun y6 =>
  if 10 < y6 then
   some ([], false)
  else
   p_spec_l23Word a0 y5 0 >>= fun y11 =>
   some (y11, true)
 else
  some ([], false)
theorem t_spec_Sample {a0 : List (List (List (Int)))} {r : List (Int) × Bool} (h : p_spec_Sample a0 = some r) : ∃ k, told Try.prog (cal_spec_Sample k) k lm_spec_Sample Try.f13 (arg_spec_Sample a0) = some (res_spec_Sample r) := by
  unfold p_spec_Sample at h
  obtain ⟨y2, h1, h⟩ := bd h
  have h1c := c_spec_Check h1
  rcases ifc h with ⟨h3, h⟩ | ⟨h3, h⟩
  · obtain ⟨y5, h4, h⟩ := bd h
    have h4c := c_spec_l23Least h4
    obtain ⟨y6, h7, h⟩ := bd h
    have h7b := (List.getElem?_eq_some_iff.1 h7).1
    rcases ifc h with ⟨h9, h⟩ | ⟨h9, h⟩
    · obtain rfl := Option.some.inj h
      obtain ⟨k, hk⟩ : ∃ k, 0 ≤ k := ⟨_, Nat.le_refl _⟩
      refine ⟨k, ?_⟩
      simp (implicitDefEqProofs := false) [-getElem?_pos, -getElem?_neg, Try.f13, shL, sh1, h1c, (eq_true h3), h4c, h7, h7b, h9]
    obtain ⟨y11, h10, h⟩ := bd h
    have h10c := c_spec_l23Word h10
    obtain rfl := Option.some.inj h
    obtain ⟨k, hk⟩ : ∃ k, 0 ≤ k := ⟨_, Nat.le_refl _⟩
    refine ⟨k, ?_⟩
    simp (implicitDefEqProofs := false) [-getElem?_pos, -getElem?_neg, Try.f13, shL, sh1, h1c, (eq_true h3), h4c, h7, h7b, h9, h10c]
  obtain rfl := Option.some.inj h
  obtain ⟨k, hk⟩ : ∃ k, 0 ≤ k := ⟨_, Nat.le_refl _⟩
  refine ⟨k, ?_⟩
  simp (implicitDefEqProofs := false) [-getElem?_pos, -getElem?_neg, Try.f13, shL, sh1, h1c, h3]
theorem inj_spec_Sample : ∀ a b, arg_spec_Sample a = arg_spec_Sample b → a = b := by
  intro x y h; simp [arg_spec_Sample] at h; simp [Prod.ext_iff, h]
noncomputable def F_spec_Sample : Con := nilfix [[some 38]] (pcon arg_spec_Sample (fun a => p_spec_Sample a) res_spec_Sample)
theorem fn_spec_Sample : Fn Try.prog 13 F_spec_Sample := (Fn.pure cal_spec_Sample (fun k w0 h0 => ok_spec_Sample k w0 h0) mixed Try.func13 rfl rfl (by kernel_rfl) 1 (by decide) (fun _ => rfl) lm_spec_Sample (fun a b h => t_spec_Sample h)).nilfix _
theorem c_spec_Sample {a0 : List (List (List (Int)))} {r : List (Int) × Bool} (h : p_spec_Sample a0 = some r) : F_spec_Sample [.agg [.sl false 38 (List.map (cL38 false) a0)]] = some (((true, [none, none]), [.sl true 3 (List.map cI r.1), .lit (.bool r.2)])) := pcon_at (arg := arg_spec_Sample) (p := fun a => p_spec_Sample a) (res := res_spec_Sample) (a := a0) (b := r) inj_spec_Sample h
noncomputable def cal_impl_Sample (k : Nat) : Cal := calI (tabOf [(34, F_impl_isGood), (38, F_impl_shortRow)]) (inlOf [(35, pI [[some 38]] F_impl_shortest)])
@[simp] theorem cal_impl_Sample_ap (k g : Nat) (vs : List TV) (mem : Mem) (ep : Nat) : cal_impl_Sample k g vs mem ep = calI (tabOf [(34, F_impl_isGood), (38, F_impl_shortRow)]) (inlOf [(35, pI [[some 38]] F_impl_shortest)]) g vs mem ep := rfl
theorem ok_impl_Sample (k : Nat) (w0 : World) (h0 : True) : CalOk Try.prog w0.heap.size w0 (cal_impl_Sample k) := by
  exact calI_ok (J := fun _ => True) stab_true (tabOf_ok _ (by simp [fn_impl_isGood, fn_impl_shortRow])) (inlOf_ok _ (by simp [(PFn.inst stab_true fn_impl_shortest)])) h0
@[simp] def lm_impl_Sample : Nat → List Nat × Nat := fun b => if b = 0 then ([1, 4, 5, 6], 4) else if b = 2000000 then ([0, 5, 0, 3], 8888888) else if b = 3000000 then ([5], 4) else if b = 2 then ([1, 4, 5, 6, 8, 9, 50, 51, 52], 4) else if b = 2000002 then ([3, 8, 0, 3], 8888888) else if b = 3000002 then ([1, 4, 5, 6, 8], 4) else if b = 4 then ([1, 4, 5, 6, 8, 13], 4) else if b = 2000004 then ([], 8888888) else if b = 3000004 then ([1, 4, 5, 6], 4) else if b = 5000000 then ([0, 2, 0, 3], 8888888) else ([], 0)
@[simp] def arg_impl_Sample (a : List (List (List (Int)))) : List TV := [.agg [.sl false 38 (List.map (cL38 false) a)]]
@[simp] def res_impl_Sample (r : List (Int) × Bool) : Sh × List V := ((true, [none, none]), [.sl true 3 (List.map cI r.1), .lit (.bool r.2)])
def p_impl_Sample_L2 (y115 : List (List (Int))) (a0 : List (List (List (Int)))) (y5 : List (Int)) (l108 : List (Int)) (l4b0 : List (Int)) (x8b2 : List (Int)) (x9b2 : Int) (x52b2 : Int) : Option (List (Int)) :=
 if x52b2 < (y115.length : Int) then
  if 0 ≤ x52b2 then
   y115[x52b2.toNat]? >>= fun y132 =>
   p_impl_shortRow y132 y5 >>= fun y135 =>
   if y135 < x9b2 then
    p_impl_Sample_L2 y115 a0 y5 l108 l4b0 y132 y135 (IntKind.wrap .i64 (x52b2 + 1))
   else
    p_impl_Sample_L2 y115 a0 y5 l108 l4b0 x8b2 x9b2 (IntKind.wrap .i64 (x52b2 + 1))
  else none
 else
  some x8b2
partial_fixpoint
@[simp] noncomputable def L_impl_Sample_L2 : Code := nav [1, 1, 1, 1, 1, 1, 0, 0, 0, 1, 0, 1, 1, 1, 1, 1, 0, 1, 0, 0] (bodyOf Try.f14)
@[simp] def T_impl_Sample_L2 (y115 : List (List (Int))) (a0 : List (List (List (Int)))) (y5 : List (Int)) (l108 : List (Int)) (l4b0 : List (Int)) (x8b2 : List (Int)) (x9b2 : Int) (x52b2 : Int) (st : Nat → Nat) : St := ⟨[(1, .one (.bp 1 (st 1) 0)), (4, .one (.bp 2 (st 2) 0)), (5, .one (.ow 4 (st 3))), (6, .one (.ow 3 (st 4))), (8, .one (.sl false 3 (List.map cI x8b2))), (9, .one (.lit (.int .i64 x9b2))), (50, .one (.sl false 31 (List.map (cL31 false) y115))), (51, .one (.lit (.int .i64 (y115.length : Int)))), (52, .one (.lit (.int .i64 x52b2)))], [none, some (.box (st 1) [.sl false 38 (List.map (cL38 false) a0)]), some (.box (st 2) (List.map (kI .i64) y5)), some (.rows (st 4) (st 5) 3 (List.map cI l108)), some (.rows (st 3) (st 6) 3 (List.map cI l4b0))], (st 0)⟩
@[simp] def U_impl_Sample_L2 (y115 : List (List (Int))) (a0 : List (List (List (Int)))) (y5 : List (Int)) (l108 : List (Int)) (l4b0 : List (Int)) (o : List (Int)) (st : Nat → Nat) : St := ⟨[(1, .one (.bp 1 (st 1) 0)), (4, .one (.bp 2 (st 2) 0)), (5, .one (.ow 4 (st 3))), (6, .one (.ow 3 (st 4))), (8, .one (.sl false 3 (List.map cI o)))], [none, some (.box (st 1) [.sl false 38 (List.map (cL38 false) a0)]), some (.box (st 2) (List.map (kI .i64) y5)), some (.rows (st 4) (st 5) 3 (List.map cI l108)), some (.rows (st 3) (st 6) 3 (List.map cI l4b0))], (st 0)⟩
abbrev Q_impl_Sample_L2 (y115 : List (List (Int))) (a0 : List (List (List (Int)))) (y5 : List (Int)) (l108 : List (Int)) (l4b0 : List (Int)) (x8b2 : List (Int)) (x9b2 : Int) (x52b2 : Int) (o : List (Int)) : Prop := ∀ st : Nat → Nat, LoopG Try.prog cal_impl_Sample 1 lm_impl_Sample 2 L_impl_Sample_L2 (U_impl_Sample_L2 y115 a0 y5 l108 l4b0) (T_impl_Sample_L2 y115 a0 y5 l108 l4b0 x8b2 x9b2 x52b2 st) o
theorem l_impl_Sample_L2 {y115 : List (List (Int))} {a0 : List (List (List (Int)))} {y5 : List (Int)} {l108 : List (Int)} {l4b0 : List (Int)} {x8b2 : List (Int)} {x9b2 : Int} {x52b2 : Int} {o : List (Int)} (h : p_impl_Sample_L2 y115 a0 y5 l108 l4b0 x8b2 x9b2 x52b2 = some o) : Q_impl_Sample_L2 y115 a0 y5 l108 l4b0 x8b2 x9b2 x52b2 o := by
  refine p_impl_Sample_L2.partial_correctness y115 a0 y5 l108 l4b0 (motive := fun x8b2 x9b2 x52b2 o => Q_impl_Sample_L2 y115 a0 y5 l108 l4b0 x8b2 x9b2 x52b2 o) ?_ x8b2 x9b2 x52b2 o h
  clear h o x8b2 x9b2 x52b2
  intro p' ih x8b2 x9b2 x52b2 r h st
  rcases ifc h with ⟨h130, h⟩ | ⟨h130, h⟩
  · obtain ⟨h131, h⟩ := ifg h
    obtain ⟨y132, h133, h⟩ := bd h
    obtain ⟨y135, h134, h⟩ := bd h
    have h134c := c_impl_shortRow h134
    rcases ifc h with ⟨h136, h⟩ | ⟨h136, h⟩
    · exact LoopG.step 0 (fun k hk => by simp (implicitDefEqProofs := false) [-getElem?_pos, -getElem?_neg, Try.f14, shL, sh1, h130, h131, h133, h134c, h136]) (ih _ _ _ _ h (sl [((st 0) + 1), (st 1), (st 2), (st 3), (st 4), (st 5), (st 6)]))
    exact LoopG.step 0 (fun k hk => by simp (implicitDefEqProofs := false) [-getElem?_pos, -getElem?_neg, Try.f14, shL, sh1, h130, h131, h133, h134c, h136]) (ih _ _ _ _ h (sl [((st 0) + 1), (st 1), (st 2), (st 3), (st 4), (st 5), (st 6)]))
  obtain rfl := Option.some.inj h
  exact LoopG.exit (sl [(st 0), (st 1), (st 2), (st 3), (st 4), (st 5), (st 6)]) 0 (fun k hk => by simp (implicitDefEqProofs := false) [-getElem?_pos, -getElem?_neg, Try.f14, shL, sh1, h130])
def p_impl_Sample_L4 (o138 : List (Int)) (a0 : List (List (List (Int)))) (y5 : List (Int)) (l4b0 : List (Int)) (x13b4 : Int) (l3b4 : List (Int)) : Option (List (Int)) :=
 if 0 ≤ x13b4 then
  o138[x13b4.toNat]? >>= fun y154 =>
  if (l3b4.length + 1) * 8 ≤ 140737488355328 then
   some (l3b4 ++ [y154]) >>= fun l157 =>
   p_impl_Sample_L4 o138 a0 y5 l4b0 (IntKind.wrap .i64 (x13b4 - 1)) l157
  else none
 else
  some l3b4
partial_fixpoint
@[simp] noncomputable def L_impl_Sample_L4 : Code := nav [1, 1, 1, 1, 1, 1, 0, 0, 0, 1, 0, 1, 1, 1, 1, 1, 1, 1, 0, 0] (bodyOf Try.f14)
@[simp] def T_impl_Sample_L4 (o138 : List (Int)) (a0 : List (List (List (Int)))) (y5 : List (Int)) (l4b0 : List (Int)) (x13b4 : Int) (l3b4 : List (Int)) (st : Nat → Nat) : St := ⟨[(1, .one (.bp 1 (st 1) 0)), (4, .one (.bp 2 (st 2) 0)), (5, .one (.ow 4 (st 3))), (6, .one (.ow 3 (st 4))), (8, .one (.sl false 3 (List.map cI o138))), (13, .one (.lit (.int .i64 x13b4)))], [none, some (.box (st 1) [.sl false 38 (List.map (cL38 false) a0)]), some (.box (st 2) (List.map (kI .i64) y5)), some (.rows (st 4) (st 5) 3 (List.map cI l3b4)), some (.rows (st 3) (st 6) 3 (List.map cI l4b0))], (st 0)⟩
@[simp] def U_impl_Sample_L4 (o138 : List (Int)) (a0 : List (List (List (Int)))) (y5 : List (Int)) (l4b0 : List (Int)) (o : List (Int)) (st : Nat → Nat) : St := ⟨[(1, .one (.bp 1 (st 1) 0)), (4, .one (.bp 2 (st 2) 0)), (5, .one (.ow 4 (st 3))), (6, .one (.ow 3 (st 4)))], [none, some (.box (st 1) [.sl false 38 (List.map (cL38 false) a0)]), some (.box (st 2) (List.map (kI .i64) y5)), some (.rows (st 4) (st 5) 3 (List.map cI o)), some (.rows (st 3) (st 6) 3 (List.map cI l4b0))], (st 0)⟩
abbrev Q_impl_Sample_L4 (o138 : List (Int)) (a0 : List (List (List (Int)))) (y5 : List (Int)) (l4b0 : List (Int)) (x13b4 : Int) (l3b4 : List (Int)) (o : List (Int)) : Prop := ∀ st : Nat → Nat, LoopG Try.prog cal_impl_Sample 1 lm_impl_Sample 4 L_impl_Sample_L4 (U_impl_Sample_L4 o138 a0 y5 l4b0) (T_impl_Sample_L4 o138 a0 y5 l4b0 x13b4 l3b4 st) o
theorem l_impl_Sample_L4 {o138 : List (Int)} {a0 : List (List (List (Int)))} {y5 : List (Int)} {l4b0 : List (Int)} {x13b4 : Int} {l3b4 : List (Int)} {o : List (Int)} (h : p_impl_Sample_L4 o138 a0 y5 l4b0 x13b4 l3b4 = some o) : Q_impl_Sample_L4 o138 a0 y5 l4b0 x13b4 l3b4 o := by
  refine p_impl_Sample_L4.partial_correctness o138 a0 y5 l4b0 (motive := fun x13b4 l3b4 o => Q_impl_Sample_L4 o138 a0 y5 l4b0 x13b4 l3b4 o) ?_ x13b4 l3b4 o h
  clear h o x13b4 l3b4
  intro p' ih x13b4 l3b4 r h st
  rcases ifc h with ⟨h153, h⟩ | ⟨h153, h⟩
  · obtain ⟨y154, h155, h⟩ := bd h
    obtain ⟨h156, h⟩ := ifg h
    obtain ⟨l157, h158, h⟩ := bd h
    have h158r : List.map cI l3b4 ++ [[.lit (.int .i64 y154)]] = List.map cI l157 := by rw [← Option.some.inj h158]; simp
    exact LoopG.step 0 (fun k hk => by simp (implicitDefEqProofs := false) [-getElem?_pos, -getElem?_neg, Try.f14, shL, sh1, h153, h155, h156, h158r]) (ih _ _ _ h (sl [((st 0) + 2), (st 1), (st 2), (st 3), ((st 0) + 1), (st 5), (st 6)]))
  obtain rfl := Option.some.inj h
  exact LoopG.exit (sl [(st 0), (st 1), (st 2), (st 3), (st 4), (st 5), (st 6)]) 0 (fun k hk => by simp (implicitDefEqProofs := false) [-getElem?_pos, -getElem?_neg, Try.f14, shL, sh1, h153])
def p_impl_Sample_L0 (a0 : List (List (List (Int)))) (y5 : List (Int)) (l3b0 : List (Int)) (l4b0 : List (Int)) : Option (List (Int) × List (Int)) :=
 if 0 < (l3b0.length : Int) then
  if 0 ≤ (IntKind.wrap .i64 ((l3b0.length : Int) - 1)) then
   l3b0[(IntKind.wrap .i64 ((l3b0.length : Int) - 1)).toNat]? >>= fun y104 =>
   if (IntKind.wrap .i64 ((l3b0.length : Int) - 1)).toNat ≤ l3b0.length then
    some (List.take ((IntKind.wrap .i64 ((l3b0.length : Int) - 1)).toNat) l3b0) >>= fun l108 =>
    if y104 < 100 then
     if (l4b0.length + 1) * 8 ≤ 140737488355328 then
      some (l4b0 ++ [y104]) >>= fun l112 =>
      p_impl_Sample_L0 a0 y5 l108 l112
     else none
    else
     if 0 ≤ (IntKind.wrap .i64 (y104 - 100)) then
      a0[(IntKind.wrap .i64 (y104 - 100)).toNat]? >>= fun y115 =>
      p_impl_Sample_L2 y115 a0 y5 l108 l4b0 ([]) 1000000001 0 >>= fun o138 =>
      p_impl_Sample_L4 o138 a0 y5 l4b0 (IntKind.wrap .i64 ((o138.length : Int) - 1)) l108 >>= fun o160 =>
      p_impl_Sample_L0 a0 y5 o160 l4b0
     else none
   else none
  else none
 else
  some (l3b0, l4b0)
partial_fixpoint
@[simp] noncomputable def L_impl_Sample_L0 : Code := nav [1, 1, 1, 1, 1, 1, 0, 0, 0] (bodyOf Try.f14)
@[simp] def T_impl_Sample_L0 (a0 : List (List (List (Int)))) (y5 : List (Int)) (l3b0 : List (Int)) (l4b0 : List (Int)) (st : Nat → Nat) : St := ⟨[(1, .one (.bp 1 (st 1) 0)), (4, .one (.bp 2 (st 2) 0)), (5, .one (.ow 4 (st 3))), (6, .one (.ow 3 (st 4)))], [none, some (.box (st 1) [.sl false 38 (List.map (cL38 false) a0)]), some (.box (st 2) (List.map (kI .i64) y5)), some (.rows (st 4) (st 5) 3 (List.map cI l3b0)), some (.rows (st 3) (st 6) 3 (List.map cI l4b0))], (st 0)⟩
@[simp] def U_impl_Sample_L0 (a0 : List (List (List (Int)))) (y5 : List (Int)) (o : List (Int) × List (Int)) (st : Nat → Nat) : St := ⟨[(5, .one (.ow 4 (st 1)))], [none, some (.box (st 2) [.sl false 38 (List.map (cL38 false) a0)]), some (.box (st 3) (List.map (kI .i64) y5)), some (.rows (st 4) (st 5) 3 (List.map cI o.1)), some (.rows (st 1) (st 6) 3 (List.map cI o.2))], (st 0)⟩
abbrev Q_impl_Sample_L0 (a0 : List (List (List (Int)))) (y5 : List (Int)) (l3b0 : List (Int)) (l4b0 : List (Int)) (o : List (Int) × List (Int)) : Prop := ∀ st : Nat → Nat, LoopG Try.prog cal_impl_Sample 1 lm_impl_Sample 0 L_impl_Sample_L0 (U_impl_Sample_L0 a0 y5) (T_impl_Sample_L0 a0 y5 l3b0 l4b0 st) o
theorem l_impl_Sample_L0 {a0 : List (List (List (Int)))} {y5 : List (Int)} {l3b0 : List (Int)} {l4b0 : List (Int)} {o : List (Int) × List (Int)} (h : p_impl_Sample_L0 a0 y5 l3b0 l4b0 = some o) : Q_impl_Sample_L0 a0 y5 l3b0 l4b0 o := by
  refine p_impl_Sample_L0.partial_correctness a0 y5 (motive := fun l3b0 l4b0 o => Q_impl_Sample_L0 a0 y5 l3b0 l4b0 o) ?_ l3b0 l4b0 o h
  clear h o l3b0 l4b0
  intro p' ih l3b0 l4b0 r h st
  rcases ifc h with ⟨h102, h⟩ | ⟨h102, h⟩
  · obtain ⟨h103, h⟩ := ifg h
    obtain ⟨y104, h105, h⟩ := bd h
    have h105b := (List.getElem?_eq_some_iff.1 h105).1
    obtain ⟨h107, h⟩ := ifg h
    have h107i : (IntKind.wrap .i64 ((l3b0.length : Int) - 1)) ≤ (l3b0.length : Int) := by omega
    obtain ⟨l108, h109, h⟩ := bd h
    have h109r : List.take ((IntKind.wrap .i64 ((l3b0.length : Int) - 1)).toNat) (List.map cI l3b0) = List.map cI l108 := by rw [← Option.some.inj h109]; simp
    rcases ifc h with ⟨h110, h⟩ | ⟨h110, h⟩
    · obtain ⟨h111, h⟩ := ifg h
      obtain ⟨l112, h113, h⟩ := bd h
      have h113r : List.map cI l4b0 ++ [[.lit (.int .i64 y104)]] = List.map cI l112 := by rw [← Option.some.inj h113]; simp
      exact LoopG.step 0 (fun k hk => by simp (implicitDefEqProofs := false) [-getElem?_pos, -getElem?_neg, Try.f14, shL, sh1, h102, (Int.natCast_pos.1 h102), h103, h105, h105b, h107, h107i, h109r, h110, h111, h113r]) (ih _ _ _ h (sl [((st 0) + 3), (st 1), (st 2), ((st 0) + 2), (st 0), (st 5), (st 6)]))
    obtain ⟨h114, h⟩ := ifg h
    obtain ⟨y115, h116, h⟩ := bd h
    obtain ⟨o138, h137, h⟩ := bd h
    have qK139 := l_impl_Sample_L2 h137 (sl [((st 0) + 1), (st 1), (st 2), (st 3), (st 0), (st 5), (st 6)])
    obtain ⟨s140, K139, qK139⟩ := qK139
    obtain ⟨o160, h159, h⟩ := bd h
    have qK161 := l_impl_Sample_L4 h159 (sl [(s140 0), (s140 1), (s140 2), (s140 3), (s140 4), (s140 5), (s140 6)])
    obtain ⟨s162, K161, qK161⟩ := qK161
    refine LoopG.step (K139 + K161) (fun k hk => ?_) (ih _ _ _ h (sl [(s162 0), (s162 1), (s162 2), (s162 3), (s162 4), (s162 5), (s162 6)]))
    have jK139 := qK139 k (by omega) k (by omega)
    simp (implicitDefEqProofs := false) [-getElem?_pos, -getElem?_neg, Try.f14, shL, sh1, h102, (Int.natCast_pos.1 h102), h103, h105, h105b, h107, h107i, h109r, h110, h114, h116] at jK139
    have jK161 := qK161 k (by omega) k (by omega)
    simp (implicitDefEqProofs := false) [-getElem?_pos, -getElem?_neg, Try.f14, shL, sh1, h102, (Int.natCast_pos.1 h102), h103, h105, h105b, h107, h107i, h109r, h110, h114, h116] at jK161
    simp (implicitDefEqProofs := false) [-getElem?_pos, -getElem?_neg, Try.f14, shL, sh1, h102, (Int.natCast_pos.1 h102), h103, h105, h105b, h107, h107i, h109r, h110, h114, h116, jK139, jK161]
  obtain rfl := Option.some.inj h
  exact LoopG.exit (sl [(st 0), (st 3), (st 1), (st 2), (st 4), (st 5), (st 6)]) 0 (fun k hk => by simp (implicitDefEqProofs := false) [-getElem?_pos, -getElem?_neg, Try.f14, shL, sh1, h102, (mt Int.natCast_pos.2 h102)])
def p_impl_Sample (a0 : List (List (List (Int)))) : Option (List (Int) × Bool) :=
 p_impl_isGood a0 >>= fun y2 =>
 if y2 then
  p_impl_shortest a0 >>= fun y5 =>
  y5[0]? >>= fun y6 =>
  if 10 < y6 then
   some ([], false)
  else
   p_impl_Sample_L0 a0 y5 ([100]) ([]) >>= fun o164 =>
   some (o164.2, true)
 else
  some ([], false)
theorem t_impl_Sample {a0 : List (List (List (Int)))} {r : List (Int) × Bool} (h : p_impl_Sample a0 = some r) : ∃ k, told Try.prog (cal_impl_Sample k) k lm_impl_Sample Try.f14 (arg_impl_Sample a0) = some (res_impl_Sample r) := by
  unfold p_impl_Sample at h
  obtain ⟨y2, h1, h⟩ := bd h
  have h1c := c_impl_isGood h1
  rcases ifb h with ⟨h3, h⟩ | ⟨h3, h⟩
  · obtain ⟨y5, h4, h⟩ := bd h
    have h4c := c_impl_shortest h4
    obtain ⟨y6, h7, h⟩ := bd h
    have h7b := (List.getElem?_eq_some_iff.1 h7).1
    have h7c : 0 + 1 ≤ y5.length := h7b
    rcases ifc h with ⟨h8, h⟩ | ⟨h8, h⟩
    · obtain rfl := Option.some.inj h
      obtain ⟨k, hk⟩ : ∃ k, 0 ≤ k := ⟨_, Nat.le_refl _⟩
      refine ⟨k, ?_⟩
      simp (implicitDefEqProofs := false) [-getElem?_pos, -getElem?_neg, Try.f14, shL, sh1, h1c, h3, h4c, h7, h7b, h7c, h8]
    obtain ⟨o164, h163, h⟩ := bd h
    have qK165 := l_impl_Sample_L0 h163 (sl [8, 1, 3, 7, 6, 6, 7])
    obtain ⟨s166, K165, qK165⟩ := qK165
    obtain rfl := Option.some.inj h
    obtain ⟨k, hk⟩ : ∃ k, K165 ≤ k := ⟨_, Nat.le_refl _⟩
    have jK165 := qK165 k (by omega) k (by omega)
    simp (implicitDefEqProofs := false) [-getElem?_pos, -getElem?_neg, Try.f14, shL, sh1, h1c, h3, h4c, h7, h7b, h7c, h8] at jK165
    refine ⟨k, ?_⟩
    simp (implicitDefEqProofs := false) [-getElem?_pos, -getElem?_neg, Try.f14, shL, sh1, h1c, h3, h4c, h7, h7b, h7c, h8, jK165]
  obtain rfl := Option.some.inj h
  obtain ⟨k, hk⟩ : ∃ k, 0 ≤ k := ⟨_, Nat.le_refl _⟩
  refine ⟨k, ?_⟩
  simp (implicitDefEqProofs := false) [-getElem?_pos, -getElem?_neg, Try.f14, shL, sh1, h1c, h3]
theorem inj_impl_Sample : ∀ a b, arg_impl_Sample a = arg_impl_Sample b → a = b := by
  intro x y h; simp [arg_impl_Sample] at h; simp [Prod.ext_iff, h]
noncomputable def F_impl_Sample : Con := nilfix [[some 38]] (pcon arg_impl_Sample (fun a => p_impl_Sample a) res_impl_Sample)
theorem fn_impl_Sample : Fn Try.prog 14 F_impl_Sample := (Fn.pure cal_impl_Sample (fun k w0 h0 => ok_impl_Sample k w0 h0) mixed Try.func14 rfl rfl (by kernel_rfl) 1 (by decide) (fun _ => rfl) lm_impl_Sample (fun a b h => t_impl_Sample h)).nilfix _
theorem c_impl_Sample {a0 : List (List (List (Int)))} {r : List (Int) × Bool} (h : p_impl_Sample a0 = some r) : F_impl_Sample [.agg [.sl false 38 (List.map (cL38 false) a0)]] = some (((true, [none, none]), [.sl true 3 (List.map cI r.1), .lit (.bool r.2)])) := pcon_at (arg := arg_impl_Sample) (p := fun a => p_impl_Sample a) (res := res_impl_Sample) (a := a0) (b := r) inj_impl_Sample h
def cal_laws_markIntS (k : Nat) : Cal := calI (tabOf []) (inlOf [])
@[simp] theorem cal_laws_markIntS_ap (k g : Nat) (vs : List TV) (mem : Mem) (ep : Nat) : cal_laws_markIntS k g vs mem ep = calI (tabOf []) (inlOf []) g vs mem ep := rfl
theorem ok_laws_markIntS (k : Nat) (w0 : World) (h0 : True) : CalOk Try.prog w0.heap.size w0 (cal_laws_markIntS k) := by
  exact calI_ok (J := fun _ => True) stab_true (tabOf_ok _ (by simp [])) (inlOf_ok _ (by simp [])) h0
@[simp] def lm_laws_markIntS : Nat → List Nat × Nat := fun b => if b = 0 then ([0, 1, 5], 0) else if b = 2000000 then ([], 8888888) else if b = 3000000 then ([1], 0) else ([], 0)
@[simp] def arg_laws_markIntS (a : List (Int) × Int) : List TV := [.one (.lit (.int .i64 a.2))]
@[simp] def rows_laws_markIntS (a : List (Int) × Int) : List (List V) := List.map cI a.1
@[simp] def res_laws_markIntS (r : Int × List (Int)) : Value × List (List V) := (.int .i64 r.1, List.map cI r.2)
def p_laws_markIntS_L0  (x1b0 : Int) (x5b0 : Int) (l1b0 : List (Int)) : Option (Int × List (Int)) :=
 if x5b0 < (l1b0.length : Int) then
  if 0 ≤ x5b0 then
   l1b0[x5b0.toNat]? >>= fun y20 =>
   some (List.set l1b0 x5b0.toNat x1b0) >>= fun l22 =>
   p_laws_markIntS_L0 (IntKind.wrap .i64 (x1b0 + 1)) (IntKind.wrap .i64 (x5b0 + 1)) l22
  else none
 else
  some (x1b0, l1b0)
partial_fixpoint
@[simp] noncomputable def L_laws_markIntS_L0 : Code := nav [1, 0, 1, 0, 0] (bodyOf Try.f17)
@[simp] def T_laws_markIntS_L0  (x1b0 : Int) (x5b0 : Int) (l1b0 : List (Int)) (st : Nat → Nat) : St := ⟨[(0, .one (.ow 1 1)), (1, .one (.lit (.int .i64 x1b0))), (5, .one (.lit (.int .i64 x5b0)))], [none, some (.rows 1 1 3 (List.map cI l1b0))], (st 0)⟩
@[simp] def U_laws_markIntS_L0  (o : Int × List (Int)) (st : Nat → Nat) : St := ⟨[(1, .one (.lit (.int .i64 o.1)))], [none, some (.rows 1 1 3 (List.map cI o.2))], (st 0)⟩
abbrev Q_laws_markIntS_L0  (x1b0 : Int) (x5b0 : Int) (l1b0 : List (Int)) (o : Int × List (Int)) : Prop := ∀ st : Nat → Nat, LoopG Try.prog cal_laws_markIntS 2 lm_laws_markIntS 0 L_laws_markIntS_L0 (U_laws_markIntS_L0 ) (T_laws_markIntS_L0  x1b0 x5b0 l1b0 st) o
theorem l_laws_markIntS_L0 {x1b0 : Int} {x5b0 : Int} {l1b0 : List (Int)} {o : Int × List (Int)} (h : p_laws_markIntS_L0  x1b0 x5b0 l1b0 = some o) : Q_laws_markIntS_L0  x1b0 x5b0 l1b0 o := by
  refine p_laws_markIntS_L0.partial_correctness  (motive := fun x1b0 x5b0 l1b0 o => Q_laws_markIntS_L0  x1b0 x5b0 l1b0 o) ?_ x1b0 x5b0 l1b0 o h
  clear h o x1b0 x5b0 l1b0
  intro p' ih x1b0 x5b0 l1b0 r h st
  rcases ifc h with ⟨h18, h⟩ | ⟨h18, h⟩
  · obtain ⟨h19, h⟩ := ifg h
    obtain ⟨y20, h21, h⟩ := bd h
    have h21b := (List.getElem?_eq_some_iff.1 h21).1
    obtain ⟨l22, h23, h⟩ := bd h
    have h23r : (List.map cI l1b0).set x5b0.toNat [.lit (.int .i64 x1b0)] = List.map cI l22 := by rw [← Option.some.inj h23]; simp
    exact LoopG.step 0 (fun k hk => by simp (implicitDefEqProofs := false) [-getElem?_pos, -getElem?_neg, Try.f17, h18, h19, h21, h21b, h23r]) (ih _ _ _ _ h (sl [(st 0)]))
  obtain rfl := Option.some.inj h
  exact LoopG.exit (sl [(st 0)]) 0 (fun k hk => by simp (implicitDefEqProofs := false) [-getElem?_pos, -getElem?_neg, Try.f17, h18])
def p_laws_markIntS (a0 : List (Int)) (a1 : Int) : Option (Int × List (Int)) :=
 p_laws_markIntS_L0 a1 0 a0 >>= fun o25 =>
 some (o25.1, o25.2)
theorem t_laws_markIntS {a0 : List (Int)} {a1 : Int} {r : Int × List (Int)} (h : p_laws_markIntS a0 a1 = some r) : ∃ k, toldT Try.prog (cal_laws_markIntS k) k lm_laws_markIntS Try.f17 3 (rows_laws_markIntS (a0, a1)) (arg_laws_markIntS (a0, a1)) = some (res_laws_markIntS r) := by
  unfold p_laws_markIntS at h
  obtain ⟨o25, h24, h⟩ := bd h
  have qK26 := l_laws_markIntS_L0 h24 (sl [2])
  obtain ⟨s27, K26, qK26⟩ := qK26
  obtain rfl := Option.some.inj h
  obtain ⟨k, hk⟩ : ∃ k, K26 ≤ k := ⟨_, Nat.le_refl _⟩
  have jK26 := qK26 k (by omega) k (by omega)
  simp (implicitDefEqProofs := false) [-getElem?_pos, -getElem?_neg, Try.f17] at jK26
  refine ⟨k, ?_⟩
  simp (implicitDefEqProofs := false) [-getElem?_pos, -getElem?_neg, Try.f17, jK26]
theorem inj_laws_markIntS : ∀ a b, rows_laws_markIntS a = rows_laws_markIntS b → arg_laws_markIntS a = arg_laws_markIntS b → a = b := by
  rintro ⟨x0, x1⟩ ⟨y0, y1⟩ h1 h2; simp [arg_laws_markIntS] at h2; simp [rows_laws_markIntS] at h1; simp [Prod.ext_iff, h1, h2]
noncomputable def F_laws_markIntS : TCon := ptcon rows_laws_markIntS arg_laws_markIntS (fun a => p_laws_markIntS a.1 a.2) (fun r => (res_laws_markIntS r).1) (fun r => (res_laws_markIntS r).2)
theorem fn_laws_markIntS : TFn Try.prog 17 3 F_laws_markIntS := TFn.pure cal_laws_markIntS (fun k w0 h0 => ok_laws_markIntS k w0 h0) mixed Try.func17 rfl rfl (by kernel_rfl) 2 (by decide) (fun _ => rfl) lm_laws_markIntS (fun a b h => t_laws_markIntS h)
theorem c_laws_markIntS {a0 : List (Int)} {a1 : Int} {r : Int × List (Int)} (h : p_laws_markIntS a0 a1 = some r) : F_laws_markIntS (List.map cI a0) [.one (.lit (.int .i64 a1))] = some (.int .i64 r.1, List.map cI r.2) := ptcon_at (rows := rows_laws_markIntS) (arg := arg_laws_markIntS) (p := fun a => p_laws_markIntS a.1 a.2) (val := fun r => (res_laws_markIntS r).1) (rows' := fun r => (res_laws_markIntS r).2) (a := (a0, a1)) (b := r) inj_laws_markIntS h
noncomputable def cal_laws_markIntSS (k : Nat) : Cal := calI (tabOf []) (inlOf [(17, tI 3 F_laws_markIntS)])
@[simp] theorem cal_laws_markIntSS_ap (k g : Nat) (vs : List TV) (mem : Mem) (ep : Nat) : cal_laws_markIntSS k g vs mem ep = calI (tabOf []) (inlOf [(17, tI 3 F_laws_markIntS)]) g vs mem ep := rfl
theorem ok_laws_markIntSS (k : Nat) (w0 : World) (h0 : True) : CalOk Try.prog w0.heap.size w0 (cal_laws_markIntSS k) := by
  exact calI_ok (J := fun _ => True) stab_true (tabOf_ok _ (by simp [])) (inlOf_ok _ (by simp [tI_ok fn_laws_markIntS])) h0
@[simp] def lm_laws_markIntSS : Nat → List Nat × Nat := fun b => if b = 0 then ([0, 1, 5], 0) else if b = 2000000 then ([], 8888888) else if b = 3000000 then ([1], 0) else ([], 0)
@[simp] def arg_laws_markIntSS (a : List (List (Int)) × Int) : List TV := [.one (.lit (.int .i64 a.2))]
@[simp] def rows_laws_markIntSS (a : List (List (Int)) × Int) : List (List V) := List.map (cL31 true) a.1
@[simp] def res_laws_markIntSS (r : Int × List (List (Int))) : Value × List (List V) := (.int .i64 r.1, List.map (cL31 true) r.2)
def p_laws_markIntSS_L0  (x1b0 : Int) (x5b0 : Int) (l1b0 : List (List (Int))) : Option (Int × List (List (Int))) :=
 if x5b0 < (l1b0.length : Int) then
  if 0 ≤ x5b0 then
   l1b0[x5b0.toNat]? >>= fun y29 =>
   p_laws_markIntS y29 x1b0 >>= fun y33 =>
   some (List.set l1b0 x5b0.toNat y33.2) >>= fun l34 =>
   p_laws_markIntSS_L0 y33.1 (IntKind.wrap .i64 (x5b0 + 1)) l34
  else none
 else
  some (x1b0, l1b0)
partial_fixpoint
@[simp] noncomputable def L_laws_markIntSS_L0 : Code := nav [1, 0, 1, 0, 0] (bodyOf Try.f24)
@[simp] def T_laws_markIntSS_L0  (x1b0 : Int) (x5b0 : Int) (l1b0 : List (List (Int))) (st : Nat → Nat) : St := ⟨[(0, .one (.ow 1 1)), (1, .one (.lit (.int .i64 x1b0))), (5, .one (.lit (.int .i64 x5b0)))], [none, some (.rows 1 (st 1) 31 (List.map (cL31 true) l1b0))], (st 0)⟩
@[simp] def U_laws_markIntSS_L0  (o : Int × List (List (Int))) (st : Nat → Nat) : St := ⟨[(1, .one (.lit (.int .i64 o.1)))], [none, some (.rows 1 (st 1) 31 (List.map (cL31 true) o.2))], (st 0)⟩
abbrev Q_laws_markIntSS_L0  (x1b0 : Int) (x5b0 : Int) (l1b0 : List (List (Int))) (o : Int × List (List (Int))) : Prop := ∀ st : Nat → Nat, LoopG Try.prog cal_laws_markIntSS 2 lm_laws_markIntSS 0 L_laws_markIntSS_L0 (U_laws_markIntSS_L0 ) (T_laws_markIntSS_L0  x1b0 x5b0 l1b0 st) o
theorem l_laws_markIntSS_L0 {x1b0 : Int} {x5b0 : Int} {l1b0 : List (List (Int))} {o : Int × List (List (Int))} (h : p_laws_markIntSS_L0  x1b0 x5b0 l1b0 = some o) : Q_laws_markIntSS_L0  x1b0 x5b0 l1b0 o := by
  refine p_laws_markIntSS_L0.partial_correctness  (motive := fun x1b0 x5b0 l1b0 o => Q_laws_markIntSS_L0  x1b0 x5b0 l1b0 o) ?_ x1b0 x5b0 l1b0 o h
  clear h o x1b0 x5b0 l1b0
  intro p' ih x1b0 x5b0 l1b0 r h st
  rcases ifc h with ⟨h27, h⟩ | ⟨h27, h⟩
  · obtain ⟨h28, h⟩ := ifg h
    obtain ⟨y29, h30, h⟩ := bd h
    have h30b := (List.getElem?_eq_some_iff.1 h30).1
    obtain ⟨y33, h32, h⟩ := bd h
    have h32c := c_laws_markIntS h32
    obtain ⟨l34, h35, h⟩ := bd h
    have h35r : (List.map (cL31 true) l1b0).set x5b0.toNat [.sl true 3 (List.map cI y33.2)] = List.map (cL31 true) l34 := by rw [← Option.some.inj h35]; simp
    exact LoopG.step 0 (fun k hk => by simp (implicitDefEqProofs := false) [-getElem?_pos, -getElem?_neg, Try.f24, h27, h28, h30, h30b, h32c, h35r]) (ih _ _ _ _ h (sl [((st 0) + 3), (st 0)]))
  obtain rfl := Option.some.inj h
  exact LoopG.exit (sl [(st 0), (st 1)]) 0 (fun k hk => by simp (implicitDefEqProofs := false) [-getElem?_pos, -getElem?_neg, Try.f24, h27])
def p_laws_markIntSS (a0 : List (List (Int))) (a1 : Int) : Option (Int × List (List (Int))) :=
 p_laws_markIntSS_L0 a1 0 a0 >>= fun o37 =>
 some (o37.1, o37.2)
theorem t_laws_markIntSS {a0 : List (List (Int))} {a1 : Int} {r : Int × List (List (Int))} (h : p_laws_markIntSS a0 a1 = some r) : ∃ k, toldT Try.prog (cal_laws_markIntSS k) k lm_laws_markIntSS Try.f24 31 (rows_laws_markIntSS (a0, a1)) (arg_laws_markIntSS (a0, a1)) = some (res_laws_markIntSS r) := by
  unfold p_laws_markIntSS at h
  obtain ⟨o37, h36, h⟩ := bd h
  have qK38 := l_laws_markIntSS_L0 h36 (sl [2, 1])
  obtain ⟨s39, K38, qK38⟩ := qK38
  obtain rfl := Option.some.inj h
  obtain ⟨k, hk⟩ : ∃ k, K38 ≤ k := ⟨_, Nat.le_refl _⟩
  have jK38 := qK38 k (by omega) k (by omega)
  simp (implicitDefEqProofs := false) [-getElem?_pos, -getElem?_neg, Try.f24] at jK38
  refine ⟨k, ?_⟩
  simp (implicitDefEqProofs := false) [-getElem?_pos, -getElem?_neg, Try.f24, jK38]
theorem inj_laws_markIntSS : ∀ a b, rows_laws_markIntSS a = rows_laws_markIntSS b → arg_laws_markIntSS a = arg_laws_markIntSS b → a = b := by
  rintro ⟨x0, x1⟩ ⟨y0, y1⟩ h1 h2; simp [arg_laws_markIntSS] at h2; simp [rows_laws_markIntSS] at h1; simp [Prod.ext_iff, h1, h2]
noncomputable def F_laws_markIntSS : TCon := ptcon rows_laws_markIntSS arg_laws_markIntSS (fun a => p_laws_markIntSS a.1 a.2) (fun r => (res_laws_markIntSS r).1) (fun r => (res_laws_markIntSS r).2)
theorem fn_laws_markIntSS : TFn Try.prog 24 31 F_laws_markIntSS := TFn.pure cal_laws_markIntSS (fun k w0 h0 => ok_laws_markIntSS k w0 h0) mixed Try.func24 rfl rfl (by kernel_rfl) 2 (by decide) (fun _ => rfl) lm_laws_markIntSS (fun a b h => t_laws_markIntSS h)
theorem c_laws_markIntSS {a0 : List (List (Int))} {a1 : Int} {r : Int × List (List (Int))} (h : p_laws_markIntSS a0 a1 = some r) : F_laws_markIntSS (List.map (cL31 true) a0) [.one (.lit (.int .i64 a1))] = some (.int .i64 r.1, List.map (cL31 true) r.2) := ptcon_at (rows := rows_laws_markIntSS) (arg := arg_laws_markIntSS) (p := fun a => p_laws_markIntSS a.1 a.2) (val := fun r => (res_laws_markIntSS r).1) (rows' := fun r => (res_laws_markIntSS r).2) (a := (a0, a1)) (b := r) inj_laws_markIntSS h
noncomputable def cal_laws_markIntSSS (k : Nat) : Cal := calI (tabOf []) (inlOf [(24, tI 31 F_laws_markIntSS)])
@[simp] theorem cal_laws_markIntSSS_ap (k g : Nat) (vs : List TV) (mem : Mem) (ep : Nat) : cal_laws_markIntSSS k g vs mem ep = calI (tabOf []) (inlOf [(24, tI 31 F_laws_markIntSS)]) g vs mem ep := rfl
theorem ok_laws_markIntSSS (k : Nat) (w0 : World) (h0 : True) : CalOk Try.prog w0.heap.size w0 (cal_laws_markIntSSS k) := by
  exact calI_ok (J := fun _ => True) stab_true (tabOf_ok _ (by simp [])) (inlOf_ok _ (by simp [tI_ok fn_laws_markIntSS])) h0
@[simp] def lm_laws_markIntSSS : Nat → List Nat × Nat := fun b => if b = 0 then ([0, 1, 5], 0) else if b = 2000000 then ([], 8888888) else if b = 3000000 then ([1], 0) else ([], 0)
@[simp] def arg_laws_markIntSSS (a : List (List (List (Int))) × Int) : List TV := [.one (.lit (.int .i64 a.2))]
@[simp] def rows_laws_markIntSSS (a : List (List (List (Int))) × Int) : List (List V) := List.map (cL38 true) a.1
@[simp] def res_laws_markIntSSS (r : Int × List (List (List (Int)))) : Value × List (List V) := (.int .i64 r.1, List.map (cL38 true) r.2)
def p_laws_markIntSSS_L0  (x1b0 : Int) (x5b0 : Int) (l1b0 : List (List (List (Int)))) : Option (Int × List (List (List (Int)))) :=
 if x5b0 < (l1b0.length : Int) then
  if 0 ≤ x5b0 then
   l1b0[x5b0.toNat]? >>= fun y29 =>
   p_laws_markIntSS y29 x1b0 >>= fun y33 =>
   some (List.set l1b0 x5b0.toNat y33.2) >>= fun l34 =>
   p_laws_markIntSSS_L0 y33.1 (IntKind.wrap .i64 (x5b0 + 1)) l34
  else none
 else
  some (x1b0, l1b0)
partial_fixpoint
@[simp] noncomputable def L_laws_markIntSSS_L0 : Code := nav [1, 0, 1, 0, 0] (bodyOf Try.f39)
@[simp] def T_laws_markIntSSS_L0  (x1b0 : Int) (x5b0 : Int) (l1b0 : List (List (List (Int)))) (st : Nat → Nat) : St := ⟨[(0, .one (.ow 1 1)), (1, .one (.lit (.int .i64 x1b0))), (5, .one (.lit (.int .i64 x5b0)))], [none, some (.rows 1 (st 1) 38 (List.map (cL38 true) l1b0))], (st 0)⟩
@[simp] def U_laws_markIntSSS_L0  (o : Int × List (List (List (Int)))) (st : Nat → Nat) : St := ⟨[(1, .one (.lit (.int .i64 o.1)))], [none, some (.rows 1 (st 1) 38 (List.map (cL38 true) o.2))], (st 0)⟩
abbrev Q_laws_markIntSSS_L0  (x1b0 : Int) (x5b0 : Int) (l1b0 : List (List (List (Int)))) (o : Int × List (List (List (Int)))) : Prop := ∀ st : Nat → Nat, LoopG Try.prog cal_laws_markIntSSS 2 lm_laws_markIntSSS 0 L_laws_markIntSSS_L0 (U_laws_markIntSSS_L0 ) (T_laws_markIntSSS_L0  x1b0 x5b0 l1b0 st) o
theorem l_laws_markIntSSS_L0 {x1b0 : Int} {x5b0 : Int} {l1b0 : List (List (List (Int)))} {o : Int × List (List (List (Int)))} (h : p_laws_markIntSSS_L0  x1b0 x5b0 l1b0 = some o) : Q_laws_markIntSSS_L0  x1b0 x5b0 l1b0 o := by
  refine p_laws_markIntSSS_L0.partial_correctness  (motive := fun x1b0 x5b0 l1b0 o => Q_laws_markIntSSS_L0  x1b0 x5b0 l1b0 o) ?_ x1b0 x5b0 l1b0 o h
  clear h o x1b0 x5b0 l1b0
  intro p' ih x1b0 x5b0 l1b0 r h st
  rcases ifc h with ⟨h27, h⟩ | ⟨h27, h⟩
  · obtain ⟨h28, h⟩ := ifg h
    obtain ⟨y29, h30, h⟩ := bd h
    have h30b := (List.getElem?_eq_some_iff.1 h30).1
    obtain ⟨y33, h32, h⟩ := bd h
    have h32c := c_laws_markIntSS h32
    obtain ⟨l34, h35, h⟩ := bd h
    have h35r : (List.map (cL38 true) l1b0).set x5b0.toNat [.sl true 31 (List.map (cL31 true) y33.2)] = List.map (cL38 true) l34 := by rw [← Option.some.inj h35]; simp
    exact LoopG.step 0 (fun k hk => by simp (implicitDefEqProofs := false) [-getElem?_pos, -getElem?_neg, Try.f39, h27, h28, h30, h30b, h32c, h35r]) (ih _ _ _ _ h (sl [((st 0) + 3), (st 0)]))
  obtain rfl := Option.some.inj h
  exact LoopG.exit (sl [(st 0), (st 1)]) 0 (fun k hk => by simp (implicitDefEqProofs := false) [-getElem?_pos, -getElem?_neg, Try.f39, h27])
def p_laws_markIntSSS (a0 : List (List (List (Int)))) (a1 : Int) : Option (Int × List (List (List (Int)))) :=
 p_laws_markIntSSS_L0 a1 0 a0 >>= fun o37 =>
 some (o37.1, o37.2)
theorem t_laws_markIntSSS {a0 : List (List (List (Int)))} {a1 : Int} {r : Int × List (List (List (Int)))} (h : p_laws_markIntSSS a0 a1 = some r) : ∃ k, toldT Try.prog (cal_laws_markIntSSS k) k lm_laws_markIntSSS Try.f39 38 (rows_laws_markIntSSS (a0, a1)) (arg_laws_markIntSSS (a0, a1)) = some (res_laws_markIntSSS r) := by
  unfold p_laws_markIntSSS at h
  obtain ⟨o37, h36, h⟩ := bd h
  have qK38 := l_laws_markIntSSS_L0 h36 (sl [2, 1])
  obtain ⟨s39, K38, qK38⟩ := qK38
  obtain rfl := Option.some.inj h
  obtain ⟨k, hk⟩ : ∃ k, K38 ≤ k := ⟨_, Nat.le_refl _⟩
  have jK38 := qK38 k (by omega) k (by omega)
  simp (implicitDefEqProofs := false) [-getElem?_pos, -getElem?_neg, Try.f39] at jK38
  refine ⟨k, ?_⟩
  simp (implicitDefEqProofs := false) [-getElem?_pos, -getElem?_neg, Try.f39, jK38]
theorem inj_laws_markIntSSS : ∀ a b, rows_laws_markIntSSS a = rows_laws_markIntSSS b → arg_laws_markIntSSS a = arg_laws_markIntSSS b → a = b := by
  rintro ⟨x0, x1⟩ ⟨y0, y1⟩ h1 h2; simp [arg_laws_markIntSSS] at h2; simp [rows_laws_markIntSSS] at h1; simp [Prod.ext_iff, h1, h2]
noncomputable def F_laws_markIntSSS : TCon := ptcon rows_laws_markIntSSS arg_laws_markIntSSS (fun a => p_laws_markIntSSS a.1 a.2) (fun r => (res_laws_markIntSSS r).1) (fun r => (res_laws_markIntSSS r).2)
theorem fn_laws_markIntSSS : TFn Try.prog 39 38 F_laws_markIntSSS := TFn.pure cal_laws_markIntSSS (fun k w0 h0 => ok_laws_markIntSSS k w0 h0) mixed Try.func39 rfl rfl (by kernel_rfl) 2 (by decide) (fun _ => rfl) lm_laws_markIntSSS (fun a b h => t_laws_markIntSSS h)
theorem c_laws_markIntSSS {a0 : List (List (List (Int)))} {a1 : Int} {r : Int × List (List (List (Int)))} (h : p_laws_markIntSSS a0 a1 = some r) : F_laws_markIntSSS (List.map (cL38 true) a0) [.one (.lit (.int .i64 a1))] = some (.int .i64 r.1, List.map (cL38 true) r.2) := ptcon_at (rows := rows_laws_markIntSSS) (arg := arg_laws_markIntSSS) (p := fun a => p_laws_markIntSSS a.1 a.2) (val := fun r => (res_laws_markIntSSS r).1) (rows' := fun r => (res_laws_markIntSSS r).2) (a := (a0, a1)) (b := r) inj_laws_markIntSSS h
def cal_laws_heldIntS (k : Nat) : Cal := calI (tabOf []) (inlOf [])
@[simp] theorem cal_laws_heldIntS_ap (k g : Nat) (vs : List TV) (mem : Mem) (ep : Nat) : cal_laws_heldIntS k g vs mem ep = calI (tabOf []) (inlOf []) g vs mem ep := rfl
theorem ok_laws_heldIntS (k : Nat) (w0 : World) (h0 : True) : CalOk Try.prog w0.heap.size w0 (cal_laws_heldIntS k) := by
  exact calI_ok (J := fun _ => True) stab_true (tabOf_ok _ (by simp [])) (inlOf_ok _ (by simp [])) h0
@[simp] def lm_laws_heldIntS : Nat → List Nat × Nat := fun b => if b = 0 then ([0, 1, 5], 0) else if b = 2000000 then ([], 8888888) else if b = 3000000 then ([1], 0) else ([], 0)
@[simp] def arg_laws_heldIntS (a : List (Int) × Int) : List TV := [.one (.sl false 3 (List.map cI a.1)), .one (.lit (.int .i64 a.2))]
@[simp] def res_laws_heldIntS (r : Int) : Sh × List V := ((false, [none]), [.lit (.int .i64 r)])
def p_laws_heldIntS_L0 (a0 : List (Int)) (x1b0 : Int) (x5b0 : Int) : Option (Int ⊕ Int) :=
 if x5b0 < (a0.length : Int) then
  if 0 ≤ x5b0 then
   a0[x5b0.toNat]? >>= fun y12 =>
   if y12 = x1b0 then
    p_laws_heldIntS_L0 a0 (IntKind.wrap .i64 (x1b0 + 1)) (IntKind.wrap .i64 (x5b0 + 1))
   else
    some (.inl (-1))
  else none
 else
  some (.inr x1b0)
partial_fixpoint
@[simp] noncomputable def L_laws_heldIntS_L0 : Code := nav [1, 0, 1, 0, 0] (bodyOf Try.f18)
@[simp] def T_laws_heldIntS_L0 (a0 : List (Int)) (x1b0 : Int) (x5b0 : Int) (st : Nat → Nat) : St := ⟨[(0, .one (.sl false 3 (List.map cI a0))), (1, .one (.lit (.int .i64 x1b0))), (5, .one (.lit (.int .i64 x5b0)))], [none], (st 0)⟩
@[simp] def U_laws_heldIntS_L0 (a0 : List (Int)) (o : Int) (st : Nat → Nat) : St := ⟨[(1, .one (.lit (.int .i64 o)))], [none], (st 0)⟩
abbrev Q_laws_heldIntS_L0 (a0 : List (Int)) (x1b0 : Int) (x5b0 : Int) (o : Int ⊕ Int) : Prop := ∀ st : Nat → Nat, LoopT Try.prog cal_laws_heldIntS 1 lm_laws_heldIntS 0 L_laws_heldIntS_L0 (tellS Try.prog lm_laws_heldIntS [.tmp 4]) res_laws_heldIntS (U_laws_heldIntS_L0 a0) (T_laws_heldIntS_L0 a0 x1b0 x5b0 st) o
theorem l_laws_heldIntS_L0 {a0 : List (Int)} {x1b0 : Int} {x5b0 : Int} {o : Int ⊕ Int} (h : p_laws_heldIntS_L0 a0 x1b0 x5b0 = some o) : Q_laws_heldIntS_L0 a0 x1b0 x5b0 o := by
  refine p_laws_heldIntS_L0.partial_correctness a0 (motive := fun x1b0 x5b0 o => Q_laws_heldIntS_L0 a0 x1b0 x5b0 o) ?_ x1b0 x5b0 o h
  clear h o x1b0 x5b0
  intro p' ih x1b0 x5b0 r h st
  rcases ifc h with ⟨h10, h⟩ | ⟨h10, h⟩
  · obtain ⟨h11, h⟩ := ifg h
    obtain ⟨y12, h13, h⟩ := bd h
    rcases ifc h with ⟨h14, h⟩ | ⟨h14, h⟩
    · exact LoopT.step 0 (fun k hk => by simp (implicitDefEqProofs := false) [-getElem?_pos, -getElem?_neg, Try.f18, h10, h11, h13, (eq_true h14)]) (ih _ _ _ h (sl [(st 0)]))
    obtain rfl := Option.some.inj h
    exact LoopT.ret 0 (fun k hk => by simp (implicitDefEqProofs := false) [-getElem?_pos, -getElem?_neg, Try.f18, h10, h11, h13, h14])
  obtain rfl := Option.some.inj h
  exact LoopT.exit (sl [(st 0)]) 0 (fun k hk => by simp (implicitDefEqProofs := false) [-getElem?_pos, -getElem?_neg, Try.f18, h10])
def p_laws_heldIntS (a0 : List (Int)) (a1 : Int) : Option Int :=
 p_laws_heldIntS_L0 a0 a1 0 >>= fun o16 => match o16 with
 | .inl o16 =>
  some o16
 | .inr o16 =>
  some o16
theorem t_laws_heldIntS {a0 : List (Int)} {a1 : Int} {r : Int} (h : p_laws_heldIntS a0 a1 = some r) : ∃ k, told Try.prog (cal_laws_heldIntS k) k lm_laws_heldIntS Try.f18 (arg_laws_heldIntS (a0, a1)) = some (res_laws_heldIntS r) := by
  unfold p_laws_heldIntS at h
  obtain ⟨o16, h15, h⟩ := bd h
  have qK17 := l_laws_heldIntS_L0 h15 (sl [1])
  rcases o16 with o16 | o16
  · obtain ⟨K17, qK17⟩ := qK17
    obtain rfl := Option.some.inj h
    obtain ⟨k, hk⟩ : ∃ k, K17 ≤ k := ⟨_, Nat.le_refl _⟩
    obtain ⟨S_K17, jK17, iK17⟩ := qK17 k (by omega) k (by omega)
    simp (implicitDefEqProofs := false) [-getElem?_pos, -getElem?_neg, Try.f18] at jK17
    refine ⟨k, ?_⟩
    simp (implicitDefEqProofs := false) [-getElem?_pos, -getElem?_neg, Try.f18, iK17, jK17]
  obtain ⟨s18, K17, qK17⟩ := qK17
  obtain rfl := Option.some.inj h
  obtain ⟨k, hk⟩ : ∃ k, K17 ≤ k := ⟨_, Nat.le_refl _⟩
  have jK17 := qK17 k (by omega) k (by omega)
  simp (implicitDefEqProofs := false) [-getElem?_pos, -getElem?_neg, Try.f18] at jK17
  refine ⟨k, ?_⟩
  simp (implicitDefEqProofs := false) [-getElem?_pos, -getElem?_neg, Try.f18, jK17]
theorem inj_laws_heldIntS : ∀ a b, arg_laws_heldIntS a = arg_laws_heldIntS b → a = b := by
  rintro ⟨x0, x1⟩ ⟨y0, y1⟩ h; simp [arg_laws_heldIntS] at h; simp [Prod.ext_iff, h]
noncomputable def F_laws_heldIntS : Con := nilfix [[some 3], [none]] (pcon arg_laws_heldIntS (fun a => p_laws_heldIntS a.1 a.2) res_laws_heldIntS)
theorem fn_laws_heldIntS : Fn Try.prog 18 F_laws_heldIntS := (Fn.pure cal_laws_heldIntS (fun k w0 h0 => ok_laws_heldIntS k w0 h0) mixed Try.func18 rfl rfl (by kernel_rfl) 2 (by decide) (fun _ => rfl) lm_laws_heldIntS (fun a b h => t_laws_heldIntS h)).nilfix _
theorem c_laws_heldIntS {a0 : List (Int)} {a1 : Int} {r : Int} (h : p_laws_heldIntS a0 a1 = some r) : F_laws_heldIntS [.one (.sl false 3 (List.map cI a0)), .one (.lit (.int .i64 a1))] = some (((false, [none]), [.lit (.int .i64 r)])) := pcon_at (arg := arg_laws_heldIntS) (p := fun a => p_laws_heldIntS a.1 a.2) (res := res_laws_heldIntS) (a := (a0, a1)) (b := r) inj_laws_heldIntS h
noncomputable def cal_laws_heldIntSS (k : Nat) : Cal := calI (tabOf [(18, F_laws_heldIntS)]) (inlOf [])
@[simp] theorem cal_laws_heldIntSS_ap (k g : Nat) (vs : List TV) (mem : Mem) (ep : Nat) : cal_laws_heldIntSS k g vs mem ep = calI (tabOf [(18, F_laws_heldIntS)]) (inlOf []) g vs mem ep := rfl
theorem ok_laws_heldIntSS (k : Nat) (w0 : World) (h0 : True) : CalOk Try.prog w0.heap.size w0 (cal_laws_heldIntSS k) := by
  exact calI_ok (J := fun _ => True) stab_true (tabOf_ok _ (by simp [fn_laws_heldIntS])) (inlOf_ok _ (by simp [])) h0
@[simp] def lm_laws_heldIntSS : Nat → List Nat × Nat := fun b => if b = 0 then ([0, 1, 5], 0) else if b = 2000000 then ([], 8888888) else if b = 3000000 then ([1], 0) else ([], 0)
@[simp] def arg_laws_heldIntSS (a : List (List (Int)) × Int) : List TV := [.one (.sl false 31 (List.map (cL31 false) a.1)), .one (.lit (.int .i64 a.2))]
@[simp] def res_laws_heldIntSS (r : Int) : Sh × List V := ((false, [none]), [.lit (.int .i64 r)])
def p_laws_heldIntSS_L0 (a0 : List (List (Int))) (x1b0 : Int) (x5b0 : Int) : Option (Int ⊕ Int) :=
 if x5b0 < (a0.length : Int) then
  if 0 ≤ x5b0 then
   a0[x5b0.toNat]? >>= fun y16 =>
   p_laws_heldIntS y16 x1b0 >>= fun y19 =>
   if y19 < 0 then
    some (.inl (-1))
   else
    p_laws_heldIntSS_L0 a0 y19 (IntKind.wrap .i64 (x5b0 + 1))
  else none
 else
  some (.inr x1b0)
partial_fixpoint
@[simp] noncomputable def L_laws_heldIntSS_L0 : Code := nav [1, 0, 1, 0, 0] (bodyOf Try.f25)
@[simp] def T_laws_heldIntSS_L0 (a0 : List (List (Int))) (x1b0 : Int) (x5b0 : Int) (st : Nat → Nat) : St := ⟨[(0, .one (.sl false 31 (List.map (cL31 false) a0))), (1, .one (.lit (.int .i64 x1b0))), (5, .one (.lit (.int .i64 x5b0)))], [none], (st 0)⟩
@[simp] def U_laws_heldIntSS_L0 (a0 : List (List (Int))) (o : Int) (st : Nat → Nat) : St := ⟨[(1, .one (.lit (.int .i64 o)))], [none], (st 0)⟩
abbrev Q_laws_heldIntSS_L0 (a0 : List (List (Int))) (x1b0 : Int) (x5b0 : Int) (o : Int ⊕ Int) : Prop := ∀ st : Nat → Nat, LoopT Try.prog cal_laws_heldIntSS 1 lm_laws_heldIntSS 0 L_laws_heldIntSS_L0 (tellS Try.prog lm_laws_heldIntSS [.tmp 4]) res_laws_heldIntSS (U_laws_heldIntSS_L0 a0) (T_laws_heldIntSS_L0 a0 x1b0 x5b0 st) o
theorem l_laws_heldIntSS_L0 {a0 : List (List (Int))} {x1b0 : Int} {x5b0 : Int} {o : Int ⊕ Int} (h : p_laws_heldIntSS_L0 a0 x1b0 x5b0 = some o) : Q_laws_heldIntSS_L0 a0 x1b0 x5b0 o := by
  refine p_laws_heldIntSS_L0.partial_correctness a0 (motive := fun x1b0 x5b0 o => Q_laws_heldIntSS_L0 a0 x1b0 x5b0 o) ?_ x1b0 x5b0 o h
  clear h o x1b0 x5b0
  intro p' ih x1b0 x5b0 r h st
  rcases ifc h with ⟨h14, h⟩ | ⟨h14, h⟩
  · obtain ⟨h15, h⟩ := ifg h
    obtain ⟨y16, h17, h⟩ := bd h
    obtain ⟨y19, h18, h⟩ := bd h
    have h18c := c_laws_heldIntS h18
    rcases ifc h with ⟨h20, h⟩ | ⟨h20, h⟩
    · obtain rfl := Option.some.inj h
      exact LoopT.ret 0 (fun k hk => by simp (implicitDefEqProofs := false) [-getElem?_pos, -getElem?_neg, Try.f25, h14, h15, h17, h18c, h20])
    exact LoopT.step 0 (fun k hk => by simp (implicitDefEqProofs := false) [-getElem?_pos, -getElem?_neg, Try.f25, h14, h15, h17, h18c, h20]) (ih _ _ _ h (sl [((st 0) + 1)]))
  obtain rfl := Option.some.inj h
  exact LoopT.exit (sl [(st 0)]) 0 (fun k hk => by simp (implicitDefEqProofs := false) [-getElem?_pos, -getElem?_neg, Try.f25, h14])
def p_laws_heldIntSS (a0 : List (List (Int))) (a1 : Int) : Option Int :=
 p_laws_heldIntSS_L0 a0 a1 0 >>= fun o22 => match o22 with
 | .inl o22 =>
  some o22
 | .inr o22 =>
  some o22
theorem t_laws_heldIntSS {a0 : List (List (Int))} {a1 : Int} {r : Int} (h : p_laws_heldIntSS a0 a1 = some r) : ∃ k, told Try.prog (cal_laws_heldIntSS k) k lm_laws_heldIntSS Try.f25 (arg_laws_heldIntSS (a0, a1)) = some (res_laws_heldIntSS r) := by
  unfold p_laws_heldIntSS at h
  obtain ⟨o22, h21, h⟩ := bd h
  have qK23 := l_laws_heldIntSS_L0 h21 (sl [1])
  rcases o22 with o22 | o22
  · obtain ⟨K23, qK23⟩ := qK23
    obtain rfl := Option.some.inj h
    obtain ⟨k, hk⟩ : ∃ k, K23 ≤ k := ⟨_, Nat.le_refl _⟩
    obtain ⟨S_K23, jK23, iK23⟩ := qK23 k (by omega) k (by omega)
    simp (implicitDefEqProofs := false) [-getElem?_pos, -getElem?_neg, Try.f25] at jK23
    refine ⟨k, ?_⟩
    simp (implicitDefEqProofs := false) [-getElem?_pos, -getElem?_neg, Try.f25, iK23, jK23]
  obtain ⟨s24, K23, qK23⟩ := qK23
  obtain rfl := Option.some.inj h
  obtain ⟨k, hk⟩ : ∃ k, K23 ≤ k := ⟨_, Nat.le_refl _⟩
  have jK23 := qK23 k (by omega) k (by omega)
  simp (implicitDefEqProofs := false) [-getElem?_pos, -getElem?_neg, Try.f25] at jK23
  refine ⟨k, ?_⟩
  simp (implicitDefEqProofs := false) [-getElem?_pos, -getElem?_neg, Try.f25, jK23]
theorem inj_laws_heldIntSS : ∀ a b, arg_laws_heldIntSS a = arg_laws_heldIntSS b → a = b := by
  rintro ⟨x0, x1⟩ ⟨y0, y1⟩ h; simp [arg_laws_heldIntSS] at h; simp [Prod.ext_iff, h]
noncomputable def F_laws_heldIntSS : Con := nilfix [[some 31], [none]] (pcon arg_laws_heldIntSS (fun a => p_laws_heldIntSS a.1 a.2) res_laws_heldIntSS)
theorem fn_laws_heldIntSS : Fn Try.prog 25 F_laws_heldIntSS := (Fn.pure cal_laws_heldIntSS (fun k w0 h0 => ok_laws_heldIntSS k w0 h0) mixed Try.func25 rfl rfl (by kernel_rfl) 2 (by decide) (fun _ => rfl) lm_laws_heldIntSS (fun a b h => t_laws_heldIntSS h)).nilfix _
theorem c_laws_heldIntSS {a0 : List (List (Int))} {a1 : Int} {r : Int} (h : p_laws_heldIntSS a0 a1 = some r) : F_laws_heldIntSS [.one (.sl false 31 (List.map (cL31 false) a0)), .one (.lit (.int .i64 a1))] = some (((false, [none]), [.lit (.int .i64 r)])) := pcon_at (arg := arg_laws_heldIntSS) (p := fun a => p_laws_heldIntSS a.1 a.2) (res := res_laws_heldIntSS) (a := (a0, a1)) (b := r) inj_laws_heldIntSS h
theorem bb_in {P : Program} {T : Nat} (ht : P.underlying T = some .bool) (a b : Bool) (d : Nat) : quiet P (Op.equalIn (d + 1) T (.bool a) (.bool b)) = some (a == b) := by
  unfold Op.equalIn
  rw [gq_bind, gq_und ht]
  rfl
theorem bb_eql {P : Program} {T : Nat} (ht : P.underlying T = some .bool) (x y : Operand) (a b : Bool) : binV P .eql T x y (.bool a) (.bool b) = some (.bool (a == b)) := by
  show quiet P ((Op.equalIn (9999 + 1) T (.bool a) (.bool b)) >>= fun r => (pure (.bool r) : Sem Value)) = _
  rw [gq_bind, bb_in ht]
  rfl
theorem bb_neq {P : Program} {T : Nat} (ht : P.underlying T = some .bool) (x y : Operand) (a b : Bool) : binV P .neq T x y (.bool a) (.bool b) = some (.bool (a != b)) := by
  show quiet P ((Op.equalIn (9999 + 1) T (.bool a) (.bool b)) >>= fun r => (pure (.bool (!r)) : Sem Value)) = _
  rw [gq_bind, bb_in ht]
  cases a <;> cases b <;> rfl
noncomputable def cal0_laws_FnExactSample (k : Nat) : Cal := calI (tabOf [(8, F_laws_szGram), (10, F_laws_toGram), (12, F_laws_eqGram), (13, F_spec_Sample), (14, F_impl_Sample), (15, F_laws_eqIntS), (18, F_laws_heldIntS)]) (inlOf [(17, tI 3 F_laws_markIntS), (39, tI 38 F_laws_markIntSSS)])
@[simp] theorem cal0_laws_FnExactSample_ap (k g : Nat) (vs : List TV) (mem : Mem) (ep : Nat) : cal0_laws_FnExactSample k g vs mem ep = calI (tabOf [(8, F_laws_szGram), (10, F_laws_toGram), (12, F_laws_eqGram), (13, F_spec_Sample), (14, F_impl_Sample), (15, F_laws_eqIntS), (18, F_laws_heldIntS)]) (inlOf [(17, tI 3 F_laws_markIntS), (39, tI 38 F_laws_markIntSSS)]) g vs mem ep := rfl
theorem ok0_laws_FnExactSample (k : Nat) (w0 : World) (h0 : True) : CalOk Try.prog w0.heap.size w0 (cal0_laws_FnExactSample k) := by
  exact calI_ok (J := fun _ => True) stab_true (tabOf_ok _ (by simp [fn_laws_szGram, fn_laws_toGram, fn_laws_eqGram, fn_spec_Sample, fn_impl_Sample, fn_laws_eqIntS, fn_laws_heldIntS])) (inlOf_ok _ (by simp [tI_ok fn_laws_markIntS, tI_ok fn_laws_markIntSSS])) h0
noncomputable def cal_laws_FnExactSample (k : Nat) : Cal := calI (tabOf [(8, F_laws_szGram), (10, F_laws_toGram), (12, F_laws_eqGram), (13, F_spec_Sample), (14, F_impl_Sample), (15, F_laws_eqIntS), (18, F_laws_heldIntS)]) (inlOf [(16, selfI Try.prog (cal0_laws_FnExactSample k) k (fun _ => ([], 0)) Try.f16 2), (17, tI 3 F_laws_markIntS), (39, tI 38 F_laws_markIntSSS)])
@[simp] theorem cal_laws_FnExactSample_ap (k g : Nat) (vs : List TV) (mem : Mem) (ep : Nat) : cal_laws_FnExactSample k g vs mem ep = calI (tabOf [(8, F_laws_szGram), (10, F_laws_toGram), (12, F_laws_eqGram), (13, F_spec_Sample), (14, F_impl_Sample), (15, F_laws_eqIntS), (18, F_laws_heldIntS)]) (inlOf [(16, selfI Try.prog (cal0_laws_FnExactSample k) k (fun _ => ([], 0)) Try.f16 2), (17, tI 3 F_laws_markIntS), (39, tI 38 F_laws_markIntSSS)]) g vs mem ep := rfl
theorem ok_laws_FnExactSample (k : Nat) (w0 : World) (h0 : True) : CalOk Try.prog w0.heap.size w0 (cal_laws_FnExactSample k) := by
  have i16 := IFn.self (J := fun _ => True) (fun w0 h0 => ok0_laws_FnExactSample k w0 h0) mixed Try.func16 rfl rfl (by kernel_rfl) (np := 2) (by decide) (lm := fun _ => ([], 0)) (k := k)
  exact calI_ok (J := fun _ => True) stab_true (tabOf_ok _ (by simp [fn_laws_szGram, fn_laws_toGram, fn_laws_eqGram, fn_spec_Sample, fn_impl_Sample, fn_laws_eqIntS, fn_laws_heldIntS])) (inlOf_ok _ (by simp [i16, tI_ok fn_laws_markIntS, tI_ok fn_laws_markIntSSS])) h0
@[simp] def lm_laws_FnExactSample : Nat → List Nat × Nat := fun b => ([], 0)
theorem dr_laws_FnExactSample_10 : drawn (opsOf (nav [1, 1, 1, 1, 1, 1, 1, 1, 0, 0] (bodyOf Try.f4))) = some ([0, 1], [2, 3, 4]) := by kernel_rfl
@[simp] def arg_laws_FnExactSample (a : List (List (List (Int)))) : List TV := [.agg [.sl false 38 (List.map (cL38 false) a)]]
@[simp] def res_laws_FnExactSample (r : Bool) : Sh × List V := ((false, [none]), [.lit (.bool r)])
noncomputable def p_laws_FnExactSample (a0 : List (List (List (Int)))) : Option Bool :=
 p_laws_szGram a0 1048576 >>= fun y2 =>
 if y2 < 0 then
  some true
 else
  p_laws_toGram a0 >>= fun y5 =>
  p_spec_Sample y5 >>= fun y7 =>
  p_impl_Sample y5 >>= fun y10 =>
  p_laws_eqIntS y10.1 y7.1 >>= fun y12 =>
  if y12 then
   if y10.2 then
    if y7.2 then
     p_laws_eqGram y5 y5 >>= fun y18 =>
     if y18 then
      p_laws_markIntSSS y5 1 >>= fun y21 =>
      if y21.1 < 0 then
       some false
      else
       p_laws_markIntS y10.1 1 >>= fun y25 =>
       p_laws_heldIntS y25.2 1 >>= fun y27 =>
       if y27 < 0 then
        some false
       else
        if y27 = y25.1 then
         some true
        else
         some false
     else
      some false
    else
     some false
   else
    if y7.2 then
     some false
    else
     p_laws_eqGram y5 y5 >>= fun y37 =>
     if y37 then
      p_laws_markIntSSS y5 1 >>= fun y40 =>
      if y40.1 < 0 then
       some false
      else
       p_laws_markIntS y10.1 1 >>= fun y44 =>
       p_laws_heldIntS y44.2 1 >>= fun y46 =>
       if y46 < 0 then
        some false
       else
        if y46 = y44.1 then
         some true
        else
         some false
     else
      some false
  else
   some false
theorem t_laws_FnExactSample {a0 : List (List (List (Int)))} {r : Bool} (h : p_laws_FnExactSample a0 = some r) : ∃ k, told Try.prog (cal_laws_FnExactSample k) k lm_laws_FnExactSample Try.f4 (arg_laws_FnExactSample a0) = some (res_laws_FnExactSample r) := by
  unfold p_laws_FnExactSample at h
  obtain ⟨y2, h1, h⟩ := bd h
  have h1c := c_laws_szGram h1
  rcases ifc h with ⟨h3, h⟩ | ⟨h3, h⟩
  · obtain rfl := Option.some.inj h
    obtain ⟨k, hk⟩ : ∃ k, 0 ≤ k := ⟨_, Nat.le_refl _⟩
    refine ⟨k, ?_⟩
    simp (implicitDefEqProofs := false) [-getElem?_pos, -getElem?_neg, Try.f4, Try.f16, h1c, h3]
  obtain ⟨y5, h4, h⟩ := bd h
  have h4c := c_laws_toGram h4
  obtain ⟨y7, h6, h⟩ := bd h
  have h6c := c_spec_Sample h6
  obtain ⟨y10, h9, h⟩ := bd h
  have h9c := c_impl_Sample h9
  obtain ⟨y12, h11, h⟩ := bd h
  have h11c := c_laws_eqIntS h11
  rcases ifb h with ⟨h13, h⟩ | ⟨h13, h⟩
  · rcases ifb h with ⟨h14, h⟩ | ⟨h14, h⟩
    · rcases ifb h with ⟨h15, h⟩ | ⟨h15, h⟩
      · obtain ⟨y18, h17, h⟩ := bd h
        have h17c := c_laws_eqGram h17
        rcases ifb h with ⟨h19, h⟩ | ⟨h19, h⟩
        · obtain ⟨y21, h20, h⟩ := bd h
          have h20c := c_laws_markIntSSS h20
          rcases ifc h with ⟨h22, h⟩ | ⟨h22, h⟩
          · obtain rfl := Option.some.inj h
            obtain ⟨k, hk⟩ : ∃ k, 0 ≤ k := ⟨_, Nat.le_refl _⟩
            have hd_laws_FnExactSample_10 := dr_laws_FnExactSample_10
            simp only [opsOf, nav, bodyOf, Try.f4, Option.getD_some] at hd_laws_FnExactSample_10
            refine ⟨k, ?_⟩
            simp (implicitDefEqProofs := false) [-getElem?_pos, -getElem?_neg, Try.f4, Try.f16, h1c, h3, h4c, h6c, h9c, h11c, h13, bb_eql Try.underlying4, bb_neq Try.underlying4, h14, h15, ex_draw2 _ _ hd_laws_FnExactSample_10, h17c, h19, h20c, h22]
          obtain ⟨y25, h24, h⟩ := bd h
          have h24c := c_laws_markIntS h24
          obtain ⟨y27, h26, h⟩ := bd h
          have h26c := c_laws_heldIntS h26
          rcases ifc h with ⟨h28, h⟩ | ⟨h28, h⟩
          · obtain rfl := Option.some.inj h
            obtain ⟨k, hk⟩ : ∃ k, 0 ≤ k := ⟨_, Nat.le_refl _⟩
            have hd_laws_FnExactSample_10 := dr_laws_FnExactSample_10
            simp only [opsOf, nav, bodyOf, Try.f4, Option.getD_some] at hd_laws_FnExactSample_10
            refine ⟨k, ?_⟩
            simp (implicitDefEqProofs := false) [-getElem?_pos, -getElem?_neg, Try.f4, Try.f16, h1c, h3, h4c, h6c, h9c, h11c, h13, bb_eql Try.underlying4, bb_neq Try.underlying4, h14, h15, ex_draw2 _ _ hd_laws_FnExactSample_10, h17c, h19, h20c, h22, h24c, h26c, h28]
          rcases ifc h with ⟨h29, h⟩ | ⟨h29, h⟩
          · obtain rfl := Option.some.inj h
            obtain ⟨k, hk⟩ : ∃ k, 0 ≤ k := ⟨_, Nat.le_refl _⟩
            have hd_laws_FnExactSample_10 := dr_laws_FnExactSample_10
            simp only [opsOf, nav, bodyOf, Try.f4, Option.getD_some] at hd_laws_FnExactSample_10
            refine ⟨k, ?_⟩
            simp (implicitDefEqProofs := false) [-getElem?_pos, -getElem?_neg, Try.f4, Try.f16, h1c, h3, h4c, h6c, h9c, h11c, h13, bb_eql Try.underlying4, bb_neq Try.underlying4, h14, h15, ex_draw2 _ _ hd_laws_FnExactSample_10, h17c, h19, h20c, h22, h24c, h26c, h28, (eq_true h29)]
          obtain rfl := Option.some.inj h
          obtain ⟨k, hk⟩ : ∃ k, 0 ≤ k := ⟨_, Nat.le_refl _⟩
          have hd_laws_FnExactSample_10 := dr_laws_FnExactSample_10
          simp only [opsOf, nav, bodyOf, Try.f4, Option.getD_some] at hd_laws_FnExactSample_10
          refine ⟨k, ?_⟩
          simp (implicitDefEqProofs := false) [-getElem?_pos, -getElem?_neg, Try.f4, Try.f16, h1c, h3, h4c, h6c, h9c, h11c, h13, bb_eql Try.underlying4, bb_neq Try.underlying4, h14, h15, ex_draw2 _ _ hd_laws_FnExactSample_10, h17c, h19, h20c, h22, h24c, h26c, h28, h29]
        obtain rfl := Option.some.inj h
        obtain ⟨k, hk⟩ : ∃ k, 0 ≤ k := ⟨_, Nat.le_refl _⟩
        have hd_laws_FnExactSample_10 := dr_laws_FnExactSample_10
        simp only [opsOf, nav, bodyOf, Try.f4, Option.getD_some] at hd_laws_FnExactSample_10
        refine ⟨k, ?_⟩
        simp (implicitDefEqProofs := false) [-getElem?_pos, -getElem?_neg, Try.f4, Try.f16, h1c, h3, h4c, h6c, h9c, h11c, h13, bb_eql Try.underlying4, bb_neq Try.underlying4, h14, h15, ex_draw2 _ _ hd_laws_FnExactSample_10, h17c, h19]
      obtain rfl := Option.some.inj h
      obtain ⟨k, hk⟩ : ∃ k, 0 ≤ k := ⟨_, Nat.le_refl _⟩
      refine ⟨k, ?_⟩
      simp (implicitDefEqProofs := false) [-getElem?_pos, -getElem?_neg, Try.f4, Try.f16, h1c, h3, h4c, h6c, h9c, h11c, h13, bb_eql Try.underlying4, bb_neq Try.underlying4, h14, h15]
    rcases ifb h with ⟨h34, h⟩ | ⟨h34, h⟩
    · obtain rfl := Option.some.inj h
      obtain ⟨k, hk⟩ : ∃ k, 0 ≤ k := ⟨_, Nat.le_refl _⟩
      refine ⟨k, ?_⟩
      simp (implicitDefEqProofs := false) [-getElem?_pos, -getElem?_neg, Try.f4, Try.f16, h1c, h3, h4c, h6c, h9c, h11c, h13, bb_eql Try.underlying4, bb_neq Try.underlying4, h14, h34]
    obtain ⟨y37, h36, h⟩ := bd h
    have h36c := c_laws_eqGram h36
    rcases ifb h with ⟨h38, h⟩ | ⟨h38, h⟩
    · obtain ⟨y40, h39, h⟩ := bd h
      have h39c := c_laws_markIntSSS h39
      rcases ifc h with ⟨h41, h⟩ | ⟨h41, h⟩
      · obtain rfl := Option.some.inj h
        obtain ⟨k, hk⟩ : ∃ k, 0 ≤ k := ⟨_, Nat.le_refl _⟩
        have hd_laws_FnExactSample_10 := dr_laws_FnExactSample_10
        simp only [opsOf, nav, bodyOf, Try.f4, Option.getD_some] at hd_laws_FnExactSample_10
        refine ⟨k, ?_⟩
        simp (implicitDefEqProofs := false) [-getElem?_pos, -getElem?_neg, Try.f4, Try.f16, h1c, h3, h4c, h6c, h9c, h11c, h13, bb_eql Try.underlying4, bb_neq Try.underlying4, h14, h34, ex_draw2 _ _ hd_laws_FnExactSample_10, h36c, h38, h39c, h41]
      obtain ⟨y44, h43, h⟩ := bd h
      have h43c := c_laws_markIntS h43
      obtain ⟨y46, h45, h⟩ := bd h
      have h45c := c_laws_heldIntS h45
      rcases ifc h with ⟨h47, h⟩ | ⟨h47, h⟩
      · obtain rfl := Option.some.inj h
        obtain ⟨k, hk⟩ : ∃ k, 0 ≤ k := ⟨_, Nat.le_refl _⟩
        have hd_laws_FnExactSample_10 := dr_laws_FnExactSample_10
        simp only [opsOf, nav, bodyOf, Try.f4, Option.getD_some] at hd_laws_FnExactSample_10
        refine ⟨k, ?_⟩
        simp (implicitDefEqProofs := false) [-getElem?_pos, -getElem?_neg, Try.f4, Try.f16, h1c, h3, h4c, h6c, h9c, h11c, h13, bb_eql Try.underlying4, bb_neq Try.underlying4, h14, h34, ex_draw2 _ _ hd_laws_FnExactSample_10, h36c, h38, h39c, h41, h43c, h45c, h47]
      rcases ifc h with ⟨h48, h⟩ | ⟨h48, h⟩
      · obtain rfl := Option.some.inj h
        obtain ⟨k, hk⟩ : ∃ k, 0 ≤ k := ⟨_, Nat.le_refl _⟩
        have hd_laws_FnExactSample_10 := dr_laws_FnExactSample_10
        simp only [opsOf, nav, bodyOf, Try.f4, Option.getD_some] at hd_laws_FnExactSample_10
        refine ⟨k, ?_⟩
        simp (implicitDefEqProofs := false) [-getElem?_pos, -getElem?_neg, Try.f4, Try.f16, h1c, h3, h4c, h6c, h9c, h11c, h13, bb_eql Try.underlying4, bb_neq Try.underlying4, h14, h34, ex_draw2 _ _ hd_laws_FnExactSample_10, h36c, h38, h39c, h41, h43c, h45c, h47, (eq_true h48)]
      obtain rfl := Option.some.inj h
      obtain ⟨k, hk⟩ : ∃ k, 0 ≤ k := ⟨_, Nat.le_refl _⟩
      have hd_laws_FnExactSample_10 := dr_laws_FnExactSample_10
      simp only [opsOf, nav, bodyOf, Try.f4, Option.getD_some] at hd_laws_FnExactSample_10
      refine ⟨k, ?_⟩
      simp (implicitDefEqProofs := false) [-getElem?_pos, -getElem?_neg, Try.f4, Try.f16, h1c, h3, h4c, h6c, h9c, h11c, h13, bb_eql Try.underlying4, bb_neq Try.underlying4, h14, h34, ex_draw2 _ _ hd_laws_FnExactSample_10, h36c, h38, h39c, h41, h43c, h45c, h47, h48]
    obtain rfl := Option.some.inj h
    obtain ⟨k, hk⟩ : ∃ k, 0 ≤ k := ⟨_, Nat.le_refl _⟩
    have hd_laws_FnExactSample_10 := dr_laws_FnExactSample_10
    simp only [opsOf, nav, bodyOf, Try.f4, Option.getD_some] at hd_laws_FnExactSample_10
    refine ⟨k, ?_⟩
    simp (implicitDefEqProofs := false) [-getElem?_pos, -getElem?_neg, Try.f4, Try.f16, h1c, h3, h4c, h6c, h9c, h11c, h13, bb_eql Try.underlying4, bb_neq Try.underlying4, h14, h34, ex_draw2 _ _ hd_laws_FnExactSample_10, h36c, h38]
  obtain rfl := Option.some.inj h
  obtain ⟨k, hk⟩ : ∃ k, 0 ≤ k := ⟨_, Nat.le_refl _⟩
  refine ⟨k, ?_⟩
  simp (implicitDefEqProofs := false) [-getElem?_pos, -getElem?_neg, Try.f4, Try.f16, h1c, h3, h4c, h6c, h9c, h11c, h13]
theorem inj_laws_FnExactSample : ∀ a b, arg_laws_FnExactSample a = arg_laws_FnExactSample b → a = b := by
  intro x y h; simp [arg_laws_FnExactSample] at h; simp [Prod.ext_iff, h]
noncomputable def F_laws_FnExactSample : Con := nilfix [[some 38]] (pcon arg_laws_FnExactSample (fun a => p_laws_FnExactSample a) res_laws_FnExactSample)
theorem fn_laws_FnExactSample : Fn Try.prog 4 F_laws_FnExactSample := (Fn.pure cal_laws_FnExactSample (fun k w0 h0 => ok_laws_FnExactSample k w0 h0) mixed Try.func4 rfl rfl (by kernel_rfl) 1 (by decide) (fun _ => rfl) lm_laws_FnExactSample (fun a b h => t_laws_FnExactSample h)).nilfix _
theorem c_laws_FnExactSample {a0 : List (List (List (Int)))} {r : Bool} (h : p_laws_FnExactSample a0 = some r) : F_laws_FnExactSample [.agg [.sl false 38 (List.map (cL38 false) a0)]] = some (((false, [none]), [.lit (.bool r)])) := pcon_at (arg := arg_laws_FnExactSample) (p := fun a => p_laws_FnExactSample a) (res := res_laws_FnExactSample) (a := a0) (b := r) inj_laws_FnExactSample h
end Go.Proofs.Ytanglbgincgmaaa.Vm

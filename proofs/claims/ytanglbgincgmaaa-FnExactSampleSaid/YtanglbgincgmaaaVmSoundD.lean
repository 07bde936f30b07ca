/-
  The small machine is true to the model: indexes, cuts, lengths.
-/
import Derived.Test.YtanglbgincgmaaaVmSoundC
namespace Go.Proofs.Ytanglbgincgmaaa.Vm
open Go Go.RowKit
set_option linter.unusedVariables false
section
variable {P : Program} {S : St} {m : Mp} {w w0 : World} {a : Act} {B : Nat}

theorem info_of_cells {T : Nat} (hz : P.cellsOf T ≠ 0) : ∃ i, P.info? T = some i ∧ P.cellsOf T = i.size := by
  cases hi : P.info? T with
  | none => simp [Program.cellsOf, hi] at hz
  | some i => exact ⟨i, rfl, by simp [Program.cellsOf, hi]⟩
theorem run_size {T : Nat} (hz : P.cellsOf T ≠ 0) (w : World) : (sizeOf T).run P w = .ok (P.cellsOf T) w := by
  obtain ⟨i, hi, he⟩ := info_of_cells hz
  rw [he]; exact run_sizeOf hi w

theorem step_index (hg : Good P.cellsOf B w0 S.mem S.ep m w) (hT : Tms P.cellsOf S m w a.tmps) {o : Oper} {T : Nat} {x i : Operand} {r : TV × Mem × Nat} (ho : o.op = .index T x i) (h : stepOp P S o = some r) : StepOk P B w0 S m w a o r := by
  unfold stepOp at h
  simp only [ho, Option.bind_eq_some_iff] at h
  obtain ⟨n, hn, h⟩ := h
  obtain ⟨ei, _⟩ := evL_eq hT hn
  split at h
  · rename_i cs hcs
    simp only [Option.bind_eq_some_iff] at h
    obtain ⟨d, hd, h⟩ := h
    split at h
    · rename_i len e
      simp only [Option.bind_eq_some_iff] at h
      obtain ⟨j, hj, h⟩ := h
      split at h
      · rename_i hlt
        simp only [Option.bind_eq_some_iff, Option.some.injEq] at h
        obtain ⟨r', hr, rfl⟩ := h
        have hn' := natOf_some hj
        subst hn'
        have h1 := ev_rtv hT hcs
        generalize hy : a.eval x = y at h1
        cases h1 with
        | agg hs hh =>
          have hz : ∃ de, P.underlying e = some de := by
            unfold part1 at hr
            simp only [Option.bind_eq_some_iff] at hr
            exact ⟨_, hr.choose_spec.1⟩
          obtain ⟨de, hde⟩ := hz
          obtain ⟨v, hv, hrv⟩ := part1_run (P := P) hs hh hr
          refine StepOk.value hg (s := Instr.index T (a.eval x) (a.eval i)) (by unfold execOp; simp only [ho]) (fun w' _ => ?_) hrv
          unfold Instr.index
          rw [ei, hy]
          have h2 : (0 : Int) ≤ (j : Int) ∧ (j : Int) < (len : Int) := ⟨by omega, by omega⟩
          simp [asIntOf, run_underlying hd, hlt, run_sizeOf' hde, hv]
      · cases h
    · cases h
  · rename_i v hv
    simp only [Option.bind_eq_some_iff, Option.some.injEq] at h
    obtain ⟨v', hq, tv, hl, rfl⟩ := h
    have hx : evL S x = some v := by unfold evL ev1; rw [hv]
    obtain ⟨ex, _⟩ := evL_eq hT hx
    refine StepOk.value hg ?_ (fun w' _ => quiet_run hq w') (lift_rtv hl)
    unfold execOp
    simp only [ho, ex, ei]
  · cases h

theorem step_indexAddr (hg : Good P.cellsOf B w0 S.mem S.ep m w) (hT : Tms P.cellsOf S m w a.tmps) {o : Oper} {T : Nat} {x i : Operand} {r : TV × Mem × Nat} (ho : o.op = .indexAddr T x i) (h : stepOp P S o = some r) : StepOk P B w0 S m w a o r := by
  unfold stepOp at h
  simp only [ho, Option.bind_eq_some_iff] at h
  obtain ⟨n, hn, j, hj, p, hp, d, hd, h⟩ := h
  obtain ⟨ei, _⟩ := evL_eq hT hn
  have hn' := natOf_some hj
  subst hn'
  have hrv := ev1_rv hT hp
  have key : ∀ (e : Nat) (ad : Addr) (len cap : Nat) (q : V), d = .slice e → P.cellsOf e ≠ 0 → a.eval x = .slice (some ad) len cap → j < len → RV P.cellsOf S.mem S.ep m w q (.pointer (some (ad.add (j * P.cellsOf e)))) → StepOk P B w0 S m w a o (.one q, S.mem, S.ep) := by
    intro e ad len cap q he hz hy hlt hq
    subst he
    refine StepOk.value hg (s := Instr.indexAt T (a.eval x) (a.eval i)) (by unfold execOp; simp only [ho]) (fun w' _ => ?_) (.one hq)
    rw [ei, hy]
    unfold Instr.indexAt
    have h2 : (j : Int) < (len : Int) := by omega
    simp [asIntOf, run_underlying hd, hlt, run_size hz]
  split at h
  · rename_i e
    split at h
    · cases h
    · rename_i hz
      generalize hy : a.eval x = y at hrv key
      cases hrv with
      | ro hrep =>
        rename_i e2 rows2
        simp only at h
        split at h
        · rename_i he
          subst he
          simp only [Option.bind_eq_some_iff, Option.some.injEq] at h
          obtain ⟨row, hrow, rfl⟩ := h
          have hlt := (List.getElem?_eq_some_iff.1 hrow).1
          cases hrep with
          | roS ad f hc hm hlen hA hro hcell hr =>
            have hA' := hA (fun e => by rw [e] at hrow; simp at hrow)
            subst hA'
            refine key _ ad _ _ (.rp row 0) rfl hz rfl hlt ?_
            have e0 : ad.add (j * P.cellsOf e2) = (ad.add (j * P.cellsOf e2)).add 0 := by simp [Addr.add]
            rw [e0]
            exact .rp (ad.add (j * P.cellsOf e2)) (f j) (fun k u hu => by rw [add_block]; exact hro j k row u hrow hu) (fun k u hu => by rw [Go.Deep.add_add]; exact hcell j k row u hrow hu) (fun k u hu => hr j k row u hrow hu)
        · cases h
      | vw hid h1 hh hpp =>
        rename_i id2 cv2 e2 p2 rows2
        simp only at h
        split at h
        · rename_i he
          obtain ⟨he, hs⟩ := he
          subst he
          obtain ⟨hv, e', rs, hm⟩ := seenC_some hs
          have hrep := hh _ _ _ hm
          simp only [Option.bind_eq_some_iff, Option.some.injEq] at h
          obtain ⟨row, hrow, rfl⟩ := h
          have hlt := (List.getElem?_eq_some_iff.1 hrow).1
          cases hrep with
          | roS ad f hc hm' hlen hA hro hcell hr =>
            have hA' := hA (fun e => by rw [e] at hrow; simp at hrow)
            subst hA'
            refine key _ ad _ _ (.vp _ _ row 0) rfl hz rfl hlt ?_
            refine .vp hid rfl (fun hv' e'' rs' hm'' => ⟨ad.add (j * P.cellsOf e2), f j, by simp [Addr.add], fun k u hu => by rw [add_block]; exact hro j k row u hrow hu, fun k u hu => by rw [Go.Deep.add_add]; exact hcell j k row u hrow hu, fun k u hu => hr j k row u hrow hu⟩)
        · cases h
      | ow hid h1 hh =>
        simp only [Option.bind_eq_some_iff] at h
        obtain ⟨b, hb, h⟩ := h
        split at h
        · rename_i hc
          obtain ⟨hlt, he⟩ := hc
          simp only [Option.some.injEq] at h
          subst h
          have hb' := rowsH_some hb
          have hy' := hh _ _ _ hb'
          subst hy'
          obtain ⟨_, _, cs, f, hown, hG, hlen, hrep⟩ := hg.blk _ _ hb'
          obtain ⟨A, c, hx, hn, hm, hcs⟩ := ownsRow_slice hown
          obtain ⟨g, hA, hgb, _⟩ := hcs (by omega)
          subst hA
          rw [hx] at hy
          refine key e ⟨g, 0, none⟩ b.2.2.length c (.ip _ _ j 0) rfl hz hx hlt ?_
          refine .ip hid rfl (fun cv e' rs hm' => ⟨g, hgb, ?_⟩)
          rw [hb'] at hm'
          simp only [Option.some.injEq, Blk.rows.injEq] at hm'
          obtain ⟨_, _, rfl, _⟩ := hm'
          rw [add0, he]
          rfl
        · cases h
      | _ => cases h
  · rename_i len e
    split at h
    · cases h
    · rename_i hz
      split at h
      · rename_i hlt
        simp only [Option.bind_eq_some_iff, Option.some.injEq] at h
        obtain ⟨q, hq, rfl⟩ := h
        obtain ⟨ad, hy, hrq⟩ := ptrAdd_rv hg hrv hq
        refine StepOk.value hg (s := Instr.indexAt T (a.eval x) (a.eval i)) (by unfold execOp; simp only [ho]) (fun w' _ => ?_) (.one hrq)
        rw [ei, hy]
        unfold Instr.indexAt
        simp [asIntOf, run_underlying hd, hlt, run_size hz, Instr.sureAddr]
      · cases h
  · cases h

theorem execOp_builtin {o : Oper} {b : Builtin} {c : Call} (ho : o.op = .call c) (hb : c.callee = .builtin b) : ∃ cs, execOp a.eval o = builtin b c.argTypes o.type cs (c.args.map a.eval) := by
  refine ⟨c.args.map fun | .const _ => true | _ => false, ?_⟩
  unfold execOp
  simp only [ho, resolve, hb, invoke]
  rfl
theorem lenV_slice (hg : Good P.cellsOf B w0 S.mem S.ep m w) {v : V} {y : Value} (hv : RV P.cellsOf S.mem S.ep m w v y) {n : Nat} (h : lenV S.mem v = some n) : ∃ A c, y = .slice A n c := by
  cases hv with
  | lit hc =>
    unfold lenV at h
    split at h <;> first | cases h | skip
    all_goals (rename_i he; cases he)
    exact ⟨none, 0, rfl⟩
  | ro hrep =>
    simp only [lenV, Option.some.injEq] at h
    subst h
    cases hrep with
    | roS => exact ⟨_, _, rfl⟩
  | ow hid h1 hh =>
    simp only [lenV, Option.bind_eq_some_iff, Option.some.injEq] at h
    obtain ⟨b, hb, rfl⟩ := h
    have hb' := rowsH_some hb
    have hy' := hh _ _ _ hb'
    subst hy'
    obtain ⟨_, _, cs, f, hown, hG, hlen, hrep⟩ := hg.blk _ _ hb'
    obtain ⟨A, c, hx, hn, hm, hcs⟩ := ownsRow_slice hown
    exact ⟨A, c, hx⟩
  | vw hid h1 hh hpp =>
    simp only [lenV] at h
    split at h
    · rename_i hs
      simp only [Option.some.injEq] at h
      subst h
      obtain ⟨hv, e', rs, hm⟩ := seenC_some hs
      have hrep := hh _ _ _ hm
      cases hrep with
      | roS => exact ⟨_, _, rfl⟩
    · cases h
  | _ => simp [lenV] at h
theorem toList_one {α : Type} {l : Array α} {x : α} (h : l.toList = [x]) : l = #[x] := by cases l; simp_all
theorem toList_two {α : Type} {l : Array α} {x y : α} (h : l.toList = [x, y]) : l = #[x, y] := by cases l; simp_all
theorem step_B (hg : Good P.cellsOf B w0 S.mem S.ep m w) (hT : Tms P.cellsOf S m w a.tmps) {o : Oper} {b : Builtin} {c : Call} {r : TV × Mem × Nat} (ho : o.op = .call c) (hb : c.callee = .builtin b) (hna : b ≠ .append)
    (h : stepB P S b c.args.toList c.argTypes.toList = some r) : StepOk P B w0 S m w a o r := by
  obtain ⟨cs, hex⟩ := execOp_builtin (a := a) ho hb
  generalize hA : c.args.toList = al at h
  generalize hTt : c.argTypes.toList = tl at h
  unfold stepB at h
  split at h
  · rename_i x T
    rw [toList_one hA, toList_one hTt] at hex
    simp only [Option.bind_eq_some_iff] at h
    obtain ⟨v, hv, d, hd, h⟩ := h
    have hrv := ev1_rv hT hv
    have key : ∀ n : Nat, (∀ w' : World, (Builtin.len_ #[T] o.type #[a.eval x]).run P w' = .ok (goInt n) w') → StepOk P B w0 S m w a o (.one (.lit (.int .i64 n)), S.mem, S.ep) := by
      intro n hn
      refine StepOk.quiet hg (fun w' _ => ?_) (.one (.lit rfl))
      rw [hex]
      have e1 : Array.map a.eval #[x] = #[a.eval x] := by simp
      rw [e1]
      unfold builtin
      simp only [Sem.run_bind, hn w', Result.andThen_ok, Sem.run_pure]
      rfl
    split at h
    · rename_i e
      simp only [Option.bind_eq_some_iff, Option.some.injEq] at h
      obtain ⟨n, hn, rfl⟩ := h
      obtain ⟨A, c, hy⟩ := lenV_slice hg hrv hn
      refine key n (fun w' => ?_)
      rw [hy]
      simp [Builtin.len_, run_underlying hd]
    · split at h
      · rename_i s
        simp only [Option.some.injEq] at h
        subst h
        refine key s.size (fun w' => ?_)
        generalize hy : a.eval x = y at hrv
        cases hrv with
        | lit hc => simp [Builtin.len_, run_underlying hd]
      · cases h
    · cases h
  · exact absurd rfl hna
  · rename_i x y
    rw [toList_two hA] at hex
    simp only [Option.bind_eq_some_iff] at h
    obtain ⟨vx, hx, vy, hy, h⟩ := h
    obtain ⟨ex, _⟩ := evL_eq hT hx
    obtain ⟨ey, _⟩ := evL_eq hT hy
    split at h
    · split at h
      · rename_i k i k' j hk
        simp only [Option.some.injEq] at h
        subst h; subst hk
        refine StepOk.quiet hg (fun w' _ => ?_) (.one (.lit rfl))
        rw [hex]
        have e1 : Array.map a.eval #[x, y] = #[a.eval x, a.eval y] := by simp
        rw [e1]
        unfold builtin
        simp only [ex, ey, Builtin.min_, List.foldlM_cons, List.foldlM_nil, Builtin.min2, Sem.run_bind, Result.andThen_ok, Sem.run_pure]
      · cases h
    · cases h
  · rename_i x y
    rw [toList_two hA] at hex
    simp only [Option.bind_eq_some_iff] at h
    obtain ⟨vx, hx, vy, hy, h⟩ := h
    obtain ⟨ex, _⟩ := evL_eq hT hx
    obtain ⟨ey, _⟩ := evL_eq hT hy
    split at h
    · split at h
      · rename_i k i k' j hk
        simp only [Option.some.injEq] at h
        subst h; subst hk
        refine StepOk.quiet hg (fun w' _ => ?_) (.one (.lit rfl))
        rw [hex]
        have e1 : Array.map a.eval #[x, y] = #[a.eval x, a.eval y] := by simp
        rw [e1]
        unfold builtin
        simp only [ex, ey, Builtin.max_, List.foldlM_cons, List.foldlM_nil, Builtin.max2, gt_iff_lt, Sem.run_bind, Result.andThen_ok, Sem.run_pure]
      · cases h
    · cases h
  · cases h
end
end Go.Proofs.Ytanglbgincgmaaa.Vm

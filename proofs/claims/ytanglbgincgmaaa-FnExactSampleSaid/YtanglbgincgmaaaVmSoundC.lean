/-
  The small machine is true to the model: operations that only compute or read.
-/
import Derived.Test.YtanglbgincgmaaaVmSoundB
namespace Go.Proofs.Ytanglbgincgmaaa.Vm
open Go Go.RowKit
set_option linter.unusedVariables false
section
variable {P : Program} {S : St} {m : Mp} {w w0 : World} {a : Act} {B : Nat}

/-- A quiet step yields one value, whatever has come behind. -/
def StepQ (P : Program) (S : St) (m : Mp) (w : World) (a : Act) (o : Oper) (r : TV × Mem × Nat) : Prop :=
  r.2 = (S.mem, S.ep) ∧ ∃ v, (∀ w', Ext w w' → (execOp a.eval o).run P w' = .ok (.value v) w') ∧ RTV P.cellsOf S.mem S.ep m w r.1 v
/-- An operation's step is the model's. -/
def StepOk (P : Program) (B : Nat) (w0 : World) (S : St) (m : Mp) (w : World) (a : Act) (o : Oper) (r : TV × Mem × Nat) : Prop :=
  (quietKind o = true → StepQ P S m w a o r) ∧ ∃ v w', (execOp a.eval o).run P w = .ok (.value v) w' ∧ (freshKind o = true → Ext w w') ∧ Res P.cellsOf B w0 S m w r v w'

theorem StepOk.quiet (hg : Good P.cellsOf B w0 S.mem S.ep m w) {o : Oper} {tv : TV} {v : Value} (hs : ∀ w', Ext w w' → (execOp a.eval o).run P w' = .ok (.value v) w') (h : RTV P.cellsOf S.mem S.ep m w tv v) :
    StepOk P B w0 S m w a o (tv, S.mem, S.ep) := ⟨fun _ => ⟨rfl, v, hs, h⟩, v, w, hs w (Ext.refl w), fun _ => Ext.refl w, Res.same hg h⟩
theorem StepOk.value (hg : Good P.cellsOf B w0 S.mem S.ep m w) {o : Oper} {tv : TV} {s : Sem Value} {v : Value} (he : execOp a.eval o = (do let x ← s; pure (Next.value x))) (hs : ∀ w', Ext w w' → s.run P w' = .ok v w') (h : RTV P.cellsOf S.mem S.ep m w tv v) :
    StepOk P B w0 S m w a o (tv, S.mem, S.ep) := StepOk.quiet hg (fun w' hw => by rw [he]; exact run_value (hs w' hw)) h

theorem natOf_some {v : Value} {n : Nat} (h : natOf v = some n) : v = .int .i64 n := by
  unfold natOf at h
  split at h
  · rename_i k
    split at h
    · simp only [Option.some.injEq] at h
      subst h
      rw [Int.toNat_of_nonneg (by assumption)]
    · cases h
  · cases h

theorem ptrAdd_rv {z : Nat → Nat} {mem : Mem} {ep k : Nat} (hg : Good z B w0 mem ep m w) {p q : V} {y : Value} (hp : RV z mem ep m w p y) (h : ptrAdd mem k p = some q) :
    ∃ ad, y = .pointer (some ad) ∧ RV z mem ep m w q (.pointer (some (ad.add k))) := by
  cases hp with
  | lit _ => simp [ptrAdd] at h
  | ro _ => simp [ptrAdd] at h
  | ow _ _ _ => simp [ptrAdd] at h
  | cl _ _ => simp [ptrAdd] at h
  | vw _ _ _ _ => simp [ptrAdd] at h
  | bp hid h1 hh =>
    simp only [ptrAdd, Option.bind_eq_some_iff, Option.some.injEq] at h
    obtain ⟨cells, hb, rfl⟩ := h
    obtain ⟨g, hd, rfl⟩ := hh _ (boxOf_some hb)
    refine ⟨_, rfl, .bp hid rfl (fun c hc => ?_)⟩
    exact ⟨g, hd, by rw [addO]⟩
  | ip hid h1 hh =>
    simp only [ptrAdd, Option.bind_eq_some_iff, Option.some.injEq] at h
    obtain ⟨b, hb, rfl⟩ := h
    have hb' := rowsH_some hb
    obtain ⟨g, hd, rfl⟩ := hh _ _ _ hb'
    refine ⟨_, rfl, .ip hid rfl (fun cv e rs hc => ?_)⟩
    rw [hb'] at hc
    simp only [Option.some.injEq, Blk.rows.injEq] at hc
    obtain ⟨_, _, rfl, _⟩ := hc
    exact ⟨g, hd, by rw [addO, Nat.add_assoc]⟩
  | rp ad f hro hcell hr =>
    simp only [ptrAdd, Option.some.injEq] at h
    subst h
    refine ⟨_, rfl, ?_⟩
    rw [Go.Deep.add_add]
    exact .rp ad f hro hcell hr
  | vp hid h1 hh =>
    simp only [ptrAdd] at h
    split at h
    · rename_i hs
      simp only [Option.some.injEq] at h
      subst h
      obtain ⟨hv, e, rs, hm⟩ := seenC_some hs
      obtain ⟨ad, f, rfl, hro, hcell, hr⟩ := hh _ _ _ hm
      refine ⟨_, rfl, .vp hid rfl (fun hv' e' rs' hm' => ⟨ad, f, by rw [Go.Deep.add_add], hro, hcell, hr⟩)⟩
    · cases h

theorem part1_run {z : Nat → Nat} {mem : Mem} {ep : Nat} {T off : Nat} {cs : List V} {ys : Array Value} {r : TV} (hs : ys.size = cs.length)
    (h : ∀ (j : Nat) (u : V) (y : Value), cs[j]? = some u → ys[j]? = some y → RV z mem ep m w u y) (hp : part1 P T cs off = some r) : ∃ v, (∀ w' : World, (part T ys off).run P w' = .ok v w') ∧ RTV z mem ep m w r v := by
  unfold part1 at hp
  simp only [Option.bind_eq_some_iff] at hp
  obtain ⟨d, hd, hp⟩ := hp
  unfold part
  split at hp
  · rename_i hag
    split at hp
    · rename_i hle
      simp only [Option.some.injEq] at hp
      subst hp
      refine ⟨.agg (ys.extract off (off + P.cellsOf T)), fun w' => by simp [run_isAgg hd, hag, run_sizeOf' hd], .agg (by simp; omega) (fun j u y h1 h2 => ?_)⟩
      have hj : j < P.cellsOf T := by
        have := (List.getElem?_eq_some_iff.1 h1).1
        simp at this
        omega
      rw [List.getElem?_take, if_pos hj, List.getElem?_drop] at h1
      refine h (off + j) u y h1 ?_
      rw [← h2]
      simp [Array.getElem?_extract]
      omega
    · cases hp
  · rename_i hag
    simp only [Option.bind_eq_some_iff, Option.some.injEq] at hp
    obtain ⟨v, hv, rfl⟩ := hp
    have hlt : off < ys.size := by rw [hs]; exact (List.getElem?_eq_some_iff.1 hv).1
    have he : ys[off]? = some ys[off] := Array.getElem?_eq_getElem hlt
    exact ⟨ys[off], fun w' => by simp [run_isAgg hd, hag, he], .one (h _ _ _ hv he)⟩

theorem step_move (hg : Good P.cellsOf B w0 S.mem S.ep m w) (hT : Tms P.cellsOf S m w a.tmps) {o : Oper} {x : Operand} {r : TV × Mem × Nat} (ho : o.op = .move x ∨ o.op = .assign x) (h : ((ev S x).bind fun v => some (v, S.mem, S.ep)) = some r) : StepOk P B w0 S m w a o r := by
  simp only [Option.bind_eq_some_iff, Option.some.injEq] at h
  obtain ⟨v, hv, rfl⟩ := h
  refine StepOk.quiet hg (fun w' _ => ?_) (ev_rtv hT hv)
  unfold execOp
  rcases ho with ho | ho <;> simp [ho]
theorem step_pick (hg : Good P.cellsOf B w0 S.mem S.ep m w) (hT : Tms P.cellsOf S m w a.tmps) {o : Oper} {c x y : Operand} {r : TV × Mem × Nat} (ho : o.op = .pick c x y) (h : stepOp P S o = some r) : StepOk P B w0 S m w a o r := by
  unfold stepOp at h
  simp only [ho, Option.bind_eq_some_iff] at h
  obtain ⟨b, hb, h⟩ := h
  obtain ⟨hc, _⟩ := evL_eq hT hb
  cases b with
  | bool t =>
    cases t with
    | false =>
      replace h : ((ev S y).bind fun v => some (v, S.mem, S.ep)) = some r := h
      simp only [Option.bind_eq_some_iff, Option.some.injEq] at h
      obtain ⟨v, hv, rfl⟩ := h
      refine StepOk.quiet hg (fun w' _ => ?_) (ev_rtv hT hv)
      unfold execOp
      simp [ho, hc, asBool]
    | true =>
      replace h : ((ev S x).bind fun v => some (v, S.mem, S.ep)) = some r := h
      simp only [Option.bind_eq_some_iff, Option.some.injEq] at h
      obtain ⟨v, hv, rfl⟩ := h
      refine StepOk.quiet hg (fun w' _ => ?_) (ev_rtv hT hv)
      unfold execOp
      simp [ho, hc, asBool]
  | _ => cases h
theorem nilV_run (hT : Tms P.cellsOf S m w a.tmps) {op : BinOp} {T : Nat} {x : Operand} {t : Bool} (h : nilV P S op T x = some t) (w' : World) : (do eqGuard op T x (.const (.slice none 0 0)) (a.eval x) (.slice none 0 0); binOp op T (a.eval x) (.slice none 0 0) : Sem Value).run P w' = .ok (.bool t) w' := by
  unfold nilV at h
  simp only [Option.bind_eq_some_iff] at h
  obtain ⟨d, hd, h⟩ := h
  split at h
  · rename_i e
    simp only [Option.bind_eq_some_iff] at h
    obtain ⟨t0, h0, h⟩ := h
    obtain ⟨A, n, c, hy, hA⟩ : ∃ A n c, a.eval x = .slice A n c ∧ A.isNone = t0 := by
      split at h0
      · rename_i A n c hx
        simp only [Option.some.injEq] at h0
        have hrv := ev1_rv hT hx
        generalize a.eval x = y at hrv
        cases hrv with
        | lit _ => exact ⟨_, _, _, rfl, h0⟩
      · rename_i e' row rows hx
        simp only [Option.some.injEq] at h0
        have hrv := ev1_rv hT hx
        generalize a.eval x = y at hrv
        cases hrv with
        | ro hr =>
          cases hr with
          | roS ad y hc hm hrow hA h1 hcell hr =>
            have := hA (by simp)
            subst this
            exact ⟨_, _, _, rfl, h0⟩
      · cases h0
    have e1 : ∀ op', (eqGuard op' T x (.const (.slice none 0 0)) (.slice A n c) (.slice none 0 0)).run P w' = .ok () w' := by
      intro op'
      unfold eqGuard
      cases op' <;> rfl
    rw [hy]
    split at h
    · simp only [Option.some.injEq] at h
      subst h
      rw [Sem.run_bind, e1]
      simp only [Result.andThen_ok]
      rw [Go.Lib.run_eql_slice_nil w' T e A n c 0 0 hd, hA]
    · simp only [Option.some.injEq] at h
      subst h
      rw [Sem.run_bind, e1]
      simp only [Result.andThen_ok]
      simp only [binOp]
      simp [Op.equal, Op.maxDepth, Go.Lib.run_equalIn_slice_nil w' 9999 T e A n c 0 0 hd, hA]
    · cases h
  · cases h
theorem step_binOp (hg : Good P.cellsOf B w0 S.mem S.ep m w) (hT : Tms P.cellsOf S m w a.tmps) {o : Oper} {op : BinOp} {T T' : Nat} {x y : Operand} {r : TV × Mem × Nat} (ho : o.op = .binOp op T x y T') (h : stepOp P S o = some r) : StepOk P B w0 S m w a o r := by
  unfold stepOp at h
  simp only [ho] at h
  split at h
  · simp only [Option.bind_eq_some_iff, Option.some.injEq] at h
    obtain ⟨t, ht, rfl⟩ := h
    refine StepOk.value hg ?_ (fun w' _ => nilV_run hT ht w') (.one (.lit rfl))
    unfold execOp
    simp only [ho]
    rfl
  simp only [Option.bind_eq_some_iff, Option.some.injEq] at h
  obtain ⟨vx, hx, vy, hy, v, hq, tv, hl, rfl⟩ := h
  obtain ⟨ex, _⟩ := evL_eq hT hx
  obtain ⟨ey, _⟩ := evL_eq hT hy
  refine StepOk.value hg ?_ (fun w' _ => quiet_run (show quiet P _ = some v from hq) w') (lift_rtv hl)
  unfold execOp
  simp only [ho, ex, ey]
theorem step_unOp (hg : Good P.cellsOf B w0 S.mem S.ep m w) (hT : Tms P.cellsOf S m w a.tmps) {o : Oper} {op : UnOp} {T : Nat} {x : Operand} {r : TV × Mem × Nat} (ho : o.op = .unOp op T x) (h : stepOp P S o = some r) : StepOk P B w0 S m w a o r := by
  unfold stepOp at h
  simp only [ho, Option.bind_eq_some_iff, Option.some.injEq] at h
  obtain ⟨vx, hx, v, hq, tv, hl, rfl⟩ := h
  obtain ⟨ex, _⟩ := evL_eq hT hx
  refine StepOk.value hg ?_ (fun w' _ => quiet_run (show quiet P _ = some v from hq) w') (lift_rtv hl)
  unfold execOp
  simp only [ho, ex]
theorem step_load (hg : Good P.cellsOf B w0 S.mem S.ep m w) (hT : Tms P.cellsOf S m w a.tmps) {o : Oper} {T : Nat} {x : Operand} {r : TV × Mem × Nat} (ho : o.op = .load T x) (h : stepOp P S o = some r) (h0 : P.cellsOf T ≠ 0) : StepOk P B w0 S m w a o r := by
  unfold stepOp at h
  simp only [ho, if_neg h0, Option.bind_eq_some_iff, Option.some.injEq] at h
  obtain ⟨p, hp, tv, hl, rfl⟩ := h
  obtain ⟨v, hr, ht⟩ := loadV_run hg (ev1_rv hT hp) hl h0
  refine StepOk.value hg ?_ hr ht
  unfold execOp
  simp only [ho]
theorem step_fieldAddr (hg : Good P.cellsOf B w0 S.mem S.ep m w) (hT : Tms P.cellsOf S m w a.tmps) {o : Oper} {T f : Nat} {x : Operand} {r : TV × Mem × Nat} (ho : o.op = .fieldAddr T x f) (h : stepOp P S o = some r) : StepOk P B w0 S m w a o r := by
  unfold stepOp at h
  simp only [ho, Option.bind_eq_some_iff] at h
  obtain ⟨d, hd, h⟩ := h
  split at h
  · rename_i fs
    simp only [Option.bind_eq_some_iff] at h
    obtain ⟨fd, hf, h⟩ := h
    split at h
    · cases h
    · rename_i hz
      simp only [Option.bind_eq_some_iff, Option.some.injEq] at h
      obtain ⟨p, hp, q, hq, rfl⟩ := h
      obtain ⟨ad, hy, hrv⟩ := ptrAdd_rv hg (ev1_rv hT hp) hq
      obtain ⟨i, hi, hsz⟩ : ∃ i, P.info? fd.type = some i ∧ P.cellsOf fd.type = i.size := by
        cases hi : P.info? fd.type with
        | none => simp [Program.cellsOf, hi] at hz
        | some i => exact ⟨i, rfl, by simp [Program.cellsOf, hi]⟩
      refine StepOk.value hg (s := Instr.fieldAt T (a.eval x) f) (by unfold execOp; simp only [ho]) (fun w' _ => ?_) (.one hrv)
      unfold Instr.fieldAt fieldPlace
      rw [hsz] at hz
      simp [run_underlying hd, hf, hy, Instr.sureAddr, run_sizeOf hi, hz]
  · cases h
theorem step_field (hg : Good P.cellsOf B w0 S.mem S.ep m w) (hT : Tms P.cellsOf S m w a.tmps) {o : Oper} {T f : Nat} {x : Operand} {r : TV × Mem × Nat} (ho : o.op = .field T x f) (h : stepOp P S o = some r) : StepOk P B w0 S m w a o r := by
  unfold stepOp at h
  simp only [ho, Option.bind_eq_some_iff] at h
  obtain ⟨d, hd, h⟩ := h
  split at h
  · rename_i fs
    simp only [Option.bind_eq_some_iff] at h
    obtain ⟨fd, hf, tv, htv, h⟩ := h
    split at h
    · rename_i cs
      simp only [Option.bind_eq_some_iff, Option.some.injEq] at h
      obtain ⟨r', hr, rfl⟩ := h
      have h1 := ev_rtv hT htv
      generalize hy : a.eval x = y at h1
      cases h1 with
      | agg hs hh =>
        obtain ⟨v, hv, hrv⟩ := part1_run (P := P) hs hh hr
        refine StepOk.value hg (s := Instr.field T (a.eval x) f) (by unfold execOp; simp only [ho]) (fun w' _ => ?_) hrv
        unfold Instr.field
        simp [run_underlying hd, hf, hy, asAgg, hv]
    · cases h
  · cases h
theorem step_extract (hg : Good P.cellsOf B w0 S.mem S.ep m w) (hT : Tms P.cellsOf S m w a.tmps) {o : Oper} {i : Nat} {x : Operand} {r : TV × Mem × Nat} (ho : o.op = .extract x i) (h : stepOp P S o = some r) : StepOk P B w0 S m w a o r := by
  unfold stepOp at h
  simp only [ho, Option.bind_eq_some_iff] at h
  obtain ⟨tv, htv, h⟩ := h
  split at h
  · rename_i l
    simp only [Option.bind_eq_some_iff, Option.some.injEq] at h
    obtain ⟨v, hv, rfl⟩ := h
    have h1 := ev_rtv hT htv
    generalize hy : a.eval x = y at h1
    cases h1 with
    | tup hs hh =>
      rename_i ys
      have hlt : i < ys.size := by rw [hs]; exact (List.getElem?_eq_some_iff.1 hv).1
      have he : ys[i]? = some ys[i] := Array.getElem?_eq_getElem hlt
      refine StepOk.value hg (s := Instr.extract (a.eval x) i) (by unfold execOp; simp only [ho]) (fun w' _ => ?_) (hh _ _ _ hv he)
      unfold Instr.extract
      simp [hy, he]
  · cases h
end
end Go.Proofs.Ytanglbgincgmaaa.Vm

/-
  The small machine is true to the model: literals of structs and arrays.
-/
import Derived.Test.YtanglbgincgmaaaVmSB
import Derived.Tactics
namespace Go.Proofs.Ytanglbgincgmaaa.Vm
open Go Go.RowKit
set_option linter.unusedVariables false
section
variable {P : Program} {S : St} {m : Mp} {w w' w0 : World} {a : Act} {B : Nat} {z : Nat → Nat} {mem mem1 mem' : Mem} {ep ep' : Nat}

theorem fillV_rep (hT : Tms P.cellsOf S m w a.tmps) (place : Nat → Option (Nat × Nat)) : ∀ (parts : List (Nat × Operand)) (ps : List (Nat × List V)) (cells out : List V) (cs : Array Value), partsV S parts = some ps → cs.size = cells.length →
    (∀ (j : Nat) (u : V) (y : Value), cells[j]? = some u → cs[j]? = some y → RV P.cellsOf S.mem S.ep m w u y) → fillV place cells ps = some out →
    ∃ out', Instr.fill place cs (parts.map fun p => (p.1, a.eval p.2)) = some out' ∧ out'.size = out.length ∧ ∀ (j : Nat) (u : V) (y : Value), out[j]? = some u → out'[j]? = some y → RV P.cellsOf S.mem S.ep m w u y := by
  intro parts
  induction parts with
  | nil =>
    intro ps cells out cs hp hs hr h
    simp only [partsV, Option.some.injEq] at hp
    subst hp
    simp only [fillV, Option.some.injEq] at h
    subst h
    exact ⟨cs, rfl, hs, hr⟩
  | cons p parts ih =>
    intro ps cells out cs hp hs hr h
    obtain ⟨i, x⟩ := p
    simp only [partsV, Option.bind_eq_some_iff, Option.some.injEq] at hp
    obtain ⟨tv, htv, l, hl, r, hrest, rfl⟩ := hp
    simp only [fillV, Option.bind_eq_some_iff] at h
    obtain ⟨⟨off, size⟩, hpl, h⟩ := h
    split at h
    · rename_i hc
      obtain ⟨hc1, hc2⟩ := hc
      simp only at hc1 hc2
      obtain ⟨hs2, hr2⟩ := cells_rtv (ev_rtv hT htv) hl
      have hle : off + (a.eval x).cells.size ≤ cs.size := by omega
      have hput := put_toList (a.eval x) off cs hle
      have hseg : (cs.toList.take off ++ (a.eval x).cells.toList ++ cs.toList.drop (off + (a.eval x).cells.size)).length = cs.size := by simp; omega
      have hcl : (a.eval x).cells.toList.length = (a.eval x).cells.size := Array.length_toList
      have hcl2 : cs.toList.length = cs.size := Array.length_toList
      obtain ⟨out', h1, h2, h3⟩ := ih r (putL cells off l) out ((a.eval x).cells.zipIdx.foldl (fun cs (p : Value × Nat) => cs.setIfInBounds (off + p.2) p.1) cs) hrest (by
        rw [putL_seg _ _ _ hc2, seg_len hc2, ← Array.length_toList, hput, hseg, hs]) (fun j u y hu hy => by
        rw [putL_seg _ _ _ hc2] at hu
        rw [← Array.getElem?_toList, hput, ← hcl] at hy
        rcases seg_get hc2 hu with ⟨q1, q2⟩ | ⟨d, rfl, q2⟩
        · rcases seg_get (by omega) hy with ⟨q3, q4⟩ | ⟨d, q3, q4⟩
          · exact hr j u y q2 (by simpa using q4)
          · have := (List.getElem?_eq_some_iff.1 q4).1
            omega
        · have hlt := (List.getElem?_eq_some_iff.1 q2).1
          rcases seg_get (by omega) hy with ⟨q3, q4⟩ | ⟨d', q3, q4⟩
          · omega
          · have : d' = d := by omega
            subst this
            exact hr2 _ u y q2 (by simpa using q4)) h
      refine ⟨out', ?_, h2, h3⟩
      simp only [List.map_cons]
      unfold Instr.fill
      simp only [hpl]
      rw [if_neg (by simp; omega)]
      exact h1
    · cases h

theorem step_build (hg : Good P.cellsOf B w0 S.mem S.ep m w) (hT : Tms P.cellsOf S m w a.tmps) {o : Oper} {T : Nat} {parts : Array (Nat × Operand)} {r : TV × Mem × Nat} (ho : o.op = .build T parts) (h : stepOp P S o = some r) : StepOk P B w0 S m w a o r := by
  unfold stepOp at h
  simp only [ho, Option.bind_eq_some_iff] at h
  obtain ⟨zs, hzs, ps, hps, d, hd, h⟩ := h
  obtain ⟨vz, hvz, hz1, hz2⟩ := zeroV_run hzs w
  obtain ⟨hsz, hrz⟩ := zeroV_rv (z := P.cellsOf) (mem := S.mem) (ep := S.ep) (m := m) (w := w) (T := T) hz1 hz2
  obtain ⟨it, hit, _⟩ := info_some hd
  have hzero : it.zero = some vz := by
    unfold zeroValue typeInfo at hvz
    simp [hit] at hvz
    cases hiz : it.zero with
    | none => rw [hiz] at hvz; simp [unsupported, Sem.run] at hvz
    | some v => rw [hiz] at hvz; simp at hvz; rw [hvz]
  have fin : ∀ (out : List V) (out' : Array Value), P.built T (parts.map fun (p : Nat × Operand) => (p.1, a.eval p.2)).toList = some out' → out'.size = out.length → (∀ (j : Nat) (u : V) (y : Value), out[j]? = some u → out'[j]? = some y → RV P.cellsOf S.mem S.ep m w u y) →
      StepOk P B w0 S m w a o (.agg out, S.mem, S.ep) := by
    intro out out' hb h1 h2
    refine StepOk.value hg (s := Instr.build T (parts.map fun (p : Nat × Operand) => (p.1, a.eval p.2))) (by unfold execOp; simp only [ho]) (fun w' _ => run_build w' T _ out' hb) (.agg h1 h2)
  split at h
  · rename_i fs
    simp only [Option.bind_eq_some_iff, Option.some.injEq] at h
    obtain ⟨places, hpl, out, hf, rfl⟩ := h
    obtain ⟨out', h1, h2, h3⟩ := fillV_rep hT (places[·]?) parts.toList ps zs out vz.cells hps hsz hrz hf
    refine fin out out' ?_ h2 h3
    unfold Program.built
    rw [hit, hd]
    simp only [hzero, hpl]
    simpa using h1
  · rename_i n e
    simp only [Option.bind_eq_some_iff, Option.some.injEq] at h
    obtain ⟨ie, hie, out, hf, rfl⟩ := h
    obtain ⟨out', h1, h2, h3⟩ := fillV_rep hT _ parts.toList ps zs out vz.cells hps hsz hrz hf
    refine fin out out' ?_ h2 h3
    unfold Program.built
    rw [hit, hd]
    simp only [hzero, hie]
    simpa using h1
  · cases h

theorem step_nilCheck (hg : Good P.cellsOf B w0 S.mem S.ep m w) (hT : Tms P.cellsOf S m w a.tmps) {o : Oper} {x : Operand} {r : TV × Mem × Nat} (ho : o.op = .nilCheck x) (h : stepOp P S o = some r) : StepOk P B w0 S m w a o r := by
  unfold stepOp at h
  simp only [ho, Option.bind_eq_some_iff] at h
  obtain ⟨p, hp, h⟩ := h
  have hrv := ev1_rv hT hp
  split at h
  · rename_i g first cap
    simp only [Option.some.injEq] at h
    subst h
    refine StepOk.quiet hg (v := a.eval x) (fun w' _ => ?_) (.one hrv)
    generalize a.eval x = y at hrv
    cases hrv with
    | lit hc =>
      unfold execOp
      simp only [ho]
      have : a.eval x = .func (.func g) first cap := (evL_eq hT (by unfold evL; rw [hp])).1
      rw [this]
      rfl
  · simp only [Option.some.injEq] at h
    subst h
    refine StepOk.quiet hg (v := a.eval x) (fun w' _ => ?_) (.one hrv)
    generalize hy : a.eval x = y at hrv
    cases hrv with
    | cl hn hh =>
      unfold execOp
      simp only [ho, hy]
      rfl
  · simp only [Option.bind_eq_some_iff, Option.some.injEq] at h
    obtain ⟨q, hq, rfl⟩ := h
    obtain ⟨ad, hy, _⟩ := ptrAdd_rv hg hrv hq
    refine StepOk.quiet hg (v := a.eval x) (fun w' _ => ?_) (.one hrv)
    unfold execOp
    simp only [ho, hy]
    rfl

theorem ev1s_rv (hT : Tms P.cellsOf S m w a.tmps) : ∀ (xs : List Operand) (vs : List V), ev1s S xs = some vs → vs.length = xs.length ∧ ∀ (j : Nat) (v : V) (x : Operand), vs[j]? = some v → xs[j]? = some x → RV P.cellsOf S.mem S.ep m w v (a.eval x) := by
  intro xs
  induction xs with
  | nil => intro vs h; simp only [ev1s, Option.some.injEq] at h; subst h; exact ⟨rfl, by simp⟩
  | cons x xs ih =>
    intro vs h
    simp only [ev1s, Option.bind_eq_some_iff, Option.some.injEq] at h
    obtain ⟨v, hv, vs', hvs, rfl⟩ := h
    obtain ⟨h1, h2⟩ := ih vs' hvs
    refine ⟨by simp [h1], fun j u y hu hy => ?_⟩
    cases j with
    | zero => simp at hu hy; subst hu; subst hy; exact ev1_rv hT hv
    | succ j => simp at hu hy; exact h2 j u y hu hy
theorem step_makeFunc (hg : Good P.cellsOf B w0 S.mem S.ep m w) (hT : Tms P.cellsOf S m w a.tmps) {o : Oper} {fn : Fn} {first captured : Array Operand} {r : TV × Mem × Nat} (ho : o.op = .makeFunc fn first captured) (h : stepOp P S o = some r) : StepOk P B w0 S m w a o r := by
  unfold stepOp at h
  simp only [ho] at h
  split at h
  · rename_i g
    split at h
    · rename_i hf
      simp only [Option.bind_eq_some_iff, Option.some.injEq] at h
      obtain ⟨cs, hcs, rfl⟩ := h
      obtain ⟨e1, e2⟩ := ev1s_rv hT _ _ hcs
      have hf : first = #[] := Array.eq_empty_of_size_eq_zero hf
      subst hf
      refine StepOk.quiet hg (v := .func (.func g) #[] (captured.map a.eval)) (fun w' _ => ?_) (.one (.cl (by simp [e1]) (fun j u y hu hy => ?_)))
      · unfold execOp
        simp only [ho]
        simp [Instr.makeFunc]
      · rw [Array.getElem?_map] at hy
        obtain ⟨x, hx, rfl⟩ := Option.map_eq_some_iff.1 hy
        exact e2 j u x hu (by simpa using hx)
    · cases h
  · cases h
/-- All that yields a value. -/
theorem bytesR_some : ∀ (rs : List (List V)) (l : List Int), bytesR rs = some l → rs = l.map fun n => [.lit (.int .u8 n)] := by
  intro rs
  induction rs with
  | nil => intro l h; simp only [bytesR, Option.some.injEq] at h; subst h; rfl
  | cons r rs ih =>
    intro l h
    simp only [bytesR] at h
    split at h
    · simp only [Option.bind_eq_some_iff, Option.some.injEq] at h
      obtain ⟨l', h1, rfl⟩ := h
      rw [ih l' h1]
      rfl
    · cases h
theorem bytesV_run (hg : Good P.cellsOf B w0 S.mem S.ep m w) {src dst : Nat} {v : V} {y : Value} (hv : RV P.cellsOf S.mem S.ep m w v y) {l : List Int} (h : bytesV P S.mem src dst v = some l) :
    ∀ w', Ext w w' → (convert src dst y).run P w' = .ok (.string (strOfNums l)) w' := by
  intro w' hw
  unfold bytesV at h
  simp only [Option.bind_eq_some_iff] at h
  obtain ⟨d, hd, h⟩ := h
  split at h
  · rename_i e
    simp only [Option.bind_eq_some_iff] at h
    obtain ⟨d1, hc1, h⟩ := h
    split at h
    rotate_left
    · cases h
    simp only [Option.bind_eq_some_iff] at h
    obtain ⟨d2, hc2, h⟩ := h
    split at h
    rotate_left
    · cases h
    split at h
    · rename_i hc3
      simp only [Option.bind_eq_some_iff] at h
      obtain ⟨⟨rows, mem1⟩, hin, hb⟩ := h
      have hb := bytesR_some _ _ hb
      simp only at hb
      obtain ⟨A, c, cells, D, f, rfl, hlen, hone, hrow, hat, hfold⟩ := rowsIn_rep hg hv (by omega) hin
      have hcells : cells = l.map (Value.int .u8) := by
        apply List.ext_getElem?
        intro i
        rcases Nat.lt_or_ge i l.length with hi | hi
        · have hr1 : rows[i]? = some [.lit (.int .u8 l[i])] := by rw [hb]; simp [hi]
          have hi2 : i < cells.length := by rw [hlen, hb]; simp [hc3, hi]
          have hk := fun y hy => hfold.rep i 0 _ (.lit (.int .u8 l[i])) y hr1 rfl hy
          obtain ⟨y, hy⟩ : ∃ y, cells[i]? = some y := ⟨_, List.getElem?_eq_getElem hi2⟩
          have hk2 := hk y (by simpa [hc3] using hy)
          cases hk2 with
          | lit _ => rw [hy]; simp [hi]
        · rw [List.getElem?_eq_none (by rw [hlen, hb]; simp [hc3]; omega), List.getElem?_eq_none (by simpa using hi)]
      have hrl : rows.length = l.length := by rw [hb]; simp
      rw [run_convert_bytes_string w' src dst e _ _ _ hd hc1 hc2, hrl]
      cases A with
      | none =>
        have : l = [] := by
          cases l with
          | nil => rfl
          | cons x l =>
            obtain ⟨ad, h1, _⟩ := hat (by rw [hrl]; simp)
            cases h1
        subst this
        simp [Conv.bytesToString, strOfNums]
        rfl
      | some ad =>
        have hl : (loadCells ad l.length).run P w' = .ok (l.map (Value.int .u8)).toArray w' := by
          have := run_loadCells_list (P := P) w' ad (l.map (Value.int .u8)) (fun j v hj => by
            have hn : rows.length ≠ 0 := by
              rw [hrl]
              have := (List.getElem?_eq_some_iff.1 hj).1
              rw [List.length_map] at this
              omega
            obtain ⟨ad', h1, h2⟩ := hat hn
            simp only [Option.some.injEq] at h1
            subst h1
            exact hw.cell (h2 j v (by rw [hcells]; exact hj)))
          simpa using this
        rw [run_bytesToString w' ad l.length c l hl, foldl_push_bytes]
        simp [strOfNums, ByteArray.empty, ByteArray.emptyWithCapacity]
        rfl
    · cases h
  · cases h
theorem step_convert (hg : Good P.cellsOf B w0 S.mem S.ep m w) (hT : Tms P.cellsOf S m w a.tmps) {o : Oper} {s t : Nat} {x : Operand} {r : TV × Mem × Nat} (ho : o.op = .convert s t x) (h : stepOp P S o = some r) : StepOk P B w0 S m w a o r := by
  unfold stepOp at h
  simp only [ho, Option.bind_eq_some_iff] at h
  obtain ⟨vx, hx, h⟩ := h
  have he : execOp a.eval o = (do let y ← convert s t (a.eval x); pure (Next.value y)) := by
    unfold execOp
    simp only [ho]
  split at h
  · rename_i b
    simp only [Option.bind_eq_some_iff, Option.some.injEq] at h
    obtain ⟨v, hq, tv, hl, rfl⟩ := h
    obtain ⟨ex, _⟩ := evL_eq hT (x := x) (v := b) (by unfold evL; rw [hx])
    refine StepOk.value hg he (fun w' _ => ?_) (lift_rtv hl)
    rw [ex]
    exact quiet_run (show quiet P _ = some v from hq) w'
  · simp only [Option.bind_eq_some_iff, Option.some.injEq] at h
    obtain ⟨l, hl, rfl⟩ := h
    exact StepOk.value hg he (bytesV_run hg (ev1_rv hT hx) hl) (.one (.lit rfl))
theorem step_sound (hg : Good P.cellsOf B w0 S.mem S.ep m w) (hT : Tms P.cellsOf S m w a.tmps) {o : Oper} {r : TV × Mem × Nat} (h : stepOp P S o = some r) : StepOk P B w0 S m w a o r := by
  cases ho : o.op with
  | move x =>
    refine step_move hg hT (.inl ho) (?_ : ((ev S x).bind fun v => some (v, S.mem, S.ep)) = some r)
    unfold stepOp at h
    simp only [ho] at h
    exact h
  | assign x =>
    refine step_move hg hT (.inr ho) (?_ : ((ev S x).bind fun v => some (v, S.mem, S.ep)) = some r)
    unfold stepOp at h
    simp only [ho] at h
    exact h
  | pick c x y => exact step_pick hg hT ho h
  | alloc T => exact step_alloc hg hT ho h
  | box T x => exact step_box hg hT ho h
  | build T parts => exact step_build hg hT ho h
  | buildSlice T len parts => exact step_buildSlice hg hT ho h
  | load T x =>
    have hz : P.cellsOf T ≠ 0 := by
      unfold stepOp at h
      simp only [ho] at h
      intro h0
      rw [if_pos h0] at h
      cases h
    refine step_load hg hT ho h hz
  | binOp op T x y t => exact step_binOp hg hT ho h
  | unOp op T x => exact step_unOp hg hT ho h
  | convert s t x => exact step_convert hg hT ho h
  | makeSlice T l c => exact step_makeSlice hg hT ho h
  | slice T x lo hi mx =>
    cases mx with
    | none => exact step_slice hg hT ho h
    | some y =>
      unfold stepOp at h
      simp only [ho] at h
      cases h
  | fieldAddr T x f => exact step_fieldAddr hg hT ho h
  | field T x f => exact step_field hg hT ho h
  | indexAddr T x i => exact step_indexAddr hg hT ho h
  | index T x i => exact step_index hg hT ho h
  | extract x i => exact step_extract hg hT ho h
  | nilCheck x => exact step_nilCheck hg hT ho h
  | makeFunc fn first cap => exact step_makeFunc hg hT ho h
  | call c =>
    unfold stepOp at h
    simp only [ho] at h
    split at h
    · rename_i b hb
      by_cases hna : b = .append
      · subst hna
        exact step_append hg hT ho hb h
      · exact step_B hg hT ho hb hna h
    · cases h
  | _ =>
    unfold stepOp at h
    simp only [ho] at h
    cases h
end
end Go.Proofs.Ytanglbgincgmaaa.Vm
namespace Go.Proofs.Ytanglbgincgmaaa.Vm
open Go Go.RowKit
set_option linter.unusedVariables false
section
variable {P : Program} {S S' : St} {m : Mp} {w w' w0 : World} {a : Act} {B : Nat} {z : Nat → Nat} {mem mem1 mem' : Mem} {ep ep' : Nat} {cal : Cal}

/-- What is called does as it is told. -/
def CalOk (P : Program) (B : Nat) (w0 : World) (cal : Cal) (x : Bool := false) : Prop := ∀ g vs mem ep r, cal g vs mem ep = some r → ∀ (m : Mp) (w : World) (ys : Array Value), Good P.cellsOf B w0 mem ep m w → ys.size = vs.length →
  (∀ (j : Nat) (v : TV) (y : Value), vs[j]? = some v → ys[j]? = some y → RTV P.cellsOf mem ep m w v y) →
  (∃ fn, P.funcs[g]? = some fn ∧ (fn.name == "runtime.NumGoroutine") = false ∧ fn.body.isNone = false) ∧
  Calls P g ys w fun e w' => ∃ v, e = .returned v ∧ (x = true ∨ r.2.2 = ep + 1 → Ext w w') ∧ ∃ m', RTV P.cellsOf r.2.1 r.2.2 m' w' r.1 v ∧ Good P.cellsOf B w0 r.2.1 r.2.2 m' w' ∧ Evo ep r.2.2 mem r.2.1 m m' w w'
theorem CalOk.draw {P : Program} {B : Nat} {w0 : World} {cal : Cal} (h : CalOk P B w0 cal) : CalOk P B w0 (cal1 cal) true := by
  intro g vs mem ep r hr m w ys hg hl ha
  unfold cal1 at hr
  simp only [Option.bind_eq_some_iff] at hr
  obtain ⟨r0, h0, hr⟩ := hr
  split at hr
  · rename_i he
    simp only [Option.some.injEq] at hr
    subst hr
    obtain ⟨h1, h2⟩ := h g vs mem ep _ h0 m w ys hg hl ha
    refine ⟨h1, h2.mono fun e w' h3 => ?_⟩
    obtain ⟨v, h4, h5, h6⟩ := h3
    exact ⟨v, h4, fun _ => h5 (.inr he), h6⟩
  · cases hr

theorem Evo.heap {ep : Nat} {mem : Mem} (hh : w'.heap = w.heap) : Evo ep ep mem mem m m w w' :=
  ⟨Nat.le_refl _, by rw [hh]; exact Nat.le_refl _, fun k hk => ⟨hk.1, by rw [hh]⟩, fun k hk _ => ⟨hk, by rw [hh]⟩, fun id bv c h => .inr ⟨c, h, rfl⟩, fun id hv cv e rs h => .inr ⟨cv, rs, h, rfl⟩, fun id hv cv e rs h => .inr ⟨hv, e, rs, h, fun k hk => ⟨⟨hk.1, hk.2.1, by rw [hh]; exact hk.2.2⟩, by rw [hh]⟩⟩, fun id hv cv e rs rs' h1 h2 _ _ => by
    obtain ⟨_, _, _, rfl⟩ := rows_inj4 h1 h2
    exact NestEq.same (fun _ _ _ => by rw [hh])⟩
theorem Good.heap (hg : Good z B w0 mem ep m w) (hh : w'.heap = w.heap) (hb : Below B w w') : Good z B w0 mem ep m w' :=
  ⟨fun id b h => (hg.blk id b h).keep (Evo.heap hh) rfl (fun k hk _ => ⟨hk, by rw [hh]⟩), fun k hk => by rw [hh]; exact hg.lab k hk, hg.below.trans hb, by rw [hh]; exact hg.hB, hg.fst⟩
theorem Tms.evo {S' : St} {m' : Mp} (hT : Tms z S m w a.tmps) (he : Evo S.ep S'.ep S.mem S'.mem m m' w w') (ht : S'.tm = S.tm) : Tms z S' m' w' a.tmps := fun t tv h => (hT t tv (by rw [← ht]; exact h)).evo he

/-- A temporary that is written. -/
theorem tms_put (hT : Tms z S m w a.tmps) {dst : Option Tmp} (hd : ∀ d, dst = some d → d < a.tmps.size) {r : TV × Mem × Nat} {v : Value} {m' : Mp} (he : Evo S.ep r.2.2 S.mem r.2.1 m m' w w') (hv : RTV z r.2.1 r.2.2 m' w' r.1 v) :
    Tms z (putT S dst r) m' w' (a.put dst v).tmps := by
  intro t tv h
  cases dst with
  | none =>
    simp only [putT, Act.put] at h ⊢
    exact (hT t tv h).evo he
  | some d =>
    have hlt := hd d rfl
    simp only [putT, look] at h
    simp only [putT, Act.put]
    split at h
    · rename_i hdt
      subst hdt
      simp only [Option.some.injEq] at h
      subst h
      simpa [hlt] using hv
    · rename_i hdt
      have := (hT t tv h).evo he
      have hq : (a.tmps.setIfInBounds d v).getD t undef = a.tmps.getD t undef := by
        simp [Array.getElem?_setIfInBounds_ne hdt]
      rw [hq]
      exact this
theorem undef_rtv {mem : Mem} {ep : Nat} : RTV z mem ep m w (.tup []) undef := .tup rfl (by simp)

theorem evs_rtv (hT : Tms z S m w a.tmps) : ∀ (xs : List Operand) (vs : List TV), evs S xs = some vs → vs.length = xs.length ∧ ∀ (j : Nat) (v : TV) (x : Operand), vs[j]? = some v → xs[j]? = some x → RTV z S.mem S.ep m w v (a.eval x) := by
  intro xs
  induction xs with
  | nil => intro vs h; simp only [evs, Option.some.injEq] at h; subst h; exact ⟨rfl, by simp⟩
  | cons x xs ih =>
    intro vs h
    simp only [evs, Option.bind_eq_some_iff, Option.some.injEq] at h
    obtain ⟨v, hv, vs', hvs, rfl⟩ := h
    obtain ⟨h1, h2⟩ := ih vs' hvs
    refine ⟨by simp [h1], fun j u y hu hy => ?_⟩
    cases j with
    | zero => simp at hu hy; subst hu; subst hy; exact ev_rtv hT hv
    | succ j => simp at hu hy; exact h2 j u y hu hy

theorem run_callFunc {g : Nat} {args : Array Value} (h : ∃ fn, P.funcs[g]? = some fn ∧ (fn.name == "runtime.NumGoroutine") = false ∧ fn.body.isNone = false) (w : World) : (callFunc g args).run P w = .ok (.enter g args) w := by
  obtain ⟨fn, h1, h2, h3⟩ := h
  have h2' : ¬ fn.name = "runtime.NumGoroutine" := by simpa using h2
  have h3' : ¬ fn.body = none := by
    intro h
    rw [h] at h3
    cases h3
  unfold callFunc
  simp [program, Sem.run, h1, h2', h3']

/-- What holds behind an operation. -/
def After (x : Bool) (P : Program) (B : Nat) (w0 : World) (S S' : St) (m : Mp) (w : World) (a : Act) (o : Oper) (K : Act → World → Prop) : Prop :=
  ∀ v m' w', Good P.cellsOf B w0 S'.mem S'.ep m' w' → Tms P.cellsOf S' m' w' (a.put o.dst v).tmps → Evo S.ep S'.ep S.mem S'.mem m m' w w' → ((freshKind o || (x && isCall o)) = true → Ext w w') → K (a.put o.dst v) w'

theorem runOp_sound {x : Bool} (hcal : CalOk P B w0 cal x) (hg : Good P.cellsOf B w0 S.mem S.ep m w) (hT : Tms P.cellsOf S m w a.tmps) {o : Oper} (hd : ∀ d, o.dst = some d → d < a.tmps.size) (h : runOp P cal S o = some S')
    {K : Act → World → Prop} {Q : Exit → Act → World → Prop} (hK : After x P B w0 S S' m w a o K) : o.wp P a w K Q := by
  unfold runOp at h
  split at h
  · rename_i T x v ho
    simp only [Option.bind_eq_some_iff] at h
    obtain ⟨p, hp, tv, htv, cs, hcs, h⟩ := h
    split at h
    · rename_i hc
      obtain ⟨hc1, hc2, hc3⟩ := hc
      simp only [Option.bind_eq_some_iff, Option.some.injEq] at h
      obtain ⟨mem', hm', rfl⟩ := h
      obtain ⟨w', hr, m', g1, g2⟩ := step_store hg hT ho hp htv hcs hc1 hc2 hm'
      unfold Oper.wp
      rw [hr]
      simp only [Oper.upon]
      refine hK undef m' w' g1 ?_ g2 (fun hf => ?_)
      · rw [hc3]
        exact Tms.evo (S' := ⟨S.tm, mem'.1, mem'.2⟩) hT g2 rfl
      · simp [freshKind, quietKind, isCall, ho] at hf
    · cases h
  · rename_i f args ts ho
    simp only [Option.bind_eq_some_iff] at h
    obtain ⟨fv, hf, h⟩ := h
    have hfr := ev1_rv hT hf
    have go : ∀ (g : Nat) (cs : List V) (ps : Array Value) (vs : List TV) (r : TV × Mem × Nat), a.eval f = .func (.func g) #[] ps → ps.size = cs.length → (∀ (j : Nat) (u : V) (y : Value), cs[j]? = some u → ps[j]? = some y → RV P.cellsOf S.mem S.ep m w u y) →
        evs S args.toList = some vs → cal g (vs ++ cs.map .one) S.mem S.ep = some r → S' = putT S o.dst r → o.wp P a w K Q := by
      intro g cs ps vs r hev hpl hps hvs hr hS
      subst hS
      obtain ⟨e1, e2⟩ := evs_rtv hT _ _ hvs
      have hal : (args.map a.eval).size = vs.length := by simp [e1]
      obtain ⟨hfn, hcalls⟩ := hcal g _ S.mem S.ep r hr m w (args.map a.eval ++ ps) hg (by simp [e1, hpl]) (fun j v y hv hy => by
        rcases Nat.lt_or_ge j vs.length with hj | hj
        · rw [List.getElem?_append_left hj] at hv
          rw [Array.getElem?_append_left (by omega), Array.getElem?_map] at hy
          obtain ⟨x, hx, rfl⟩ := Option.map_eq_some_iff.1 hy
          exact e2 j v x hv (by simpa using hx)
        · rw [List.getElem?_append_right hj, List.getElem?_map] at hv
          obtain ⟨u, hu, rfl⟩ := Option.map_eq_some_iff.1 hv
          rw [Array.getElem?_append_right (by omega), hal] at hy
          exact .one (hps _ u y hu hy))
      have hex : (execOp a.eval o).run P w = .ok (.enter g (args.map a.eval ++ ps)) w := by
        unfold execOp
        simp only [ho, resolve, hev, Deferred.ofValue]
        simp only [invoke, Sem.run_bind, Sem.run_pure, Result.andThen_ok]
        simpa using run_callFunc (args := args.map a.eval ++ ps) hfn w
      unfold Oper.wp
      rw [hex]
      simp only [Oper.upon]
      refine hcalls.mono fun e w' he => ?_
      obtain ⟨v, rfl, hE, m', q1, q2, q3⟩ := he
      refine hK v m' w' ?_ ?_ ?_ (fun hx => hE (.inl ?_))
      rotate_left 3
      · simp only [freshKind, quietKind, ho, Bool.false_or, Bool.and_eq_true] at hx
        exact hx.1
      · cases o.dst <;> exact q2
      · exact tms_put hT hd q3 q1
      · cases o.dst <;> exact q3
    split at h
    · rename_i g first cap
      split at h
      · rename_i hc
        obtain ⟨hc1, hc2⟩ := hc
        have hc1 : first = #[] := Array.eq_empty_of_size_eq_zero hc1
        have hc2 : cap = #[] := Array.eq_empty_of_size_eq_zero hc2
        subst hc1
        subst hc2
        simp only [Option.bind_eq_some_iff, Option.some.injEq] at h
        obtain ⟨vs, hvs, r, hr, rfl⟩ := h
        have hev := (evL_eq hT (show evL S f = some _ by unfold evL; rw [hf])).1
        exact go g [] #[] vs r hev rfl (by simp) hvs (by simpa using hr) rfl
      · cases h
    · rename_i g cs
      simp only [Option.bind_eq_some_iff, Option.some.injEq] at h
      obtain ⟨vs, hvs, r, hr, rfl⟩ := h
      generalize hy : a.eval f = y at hfr
      cases hfr with
      | cl hn hh => exact go g cs _ vs r hy hn hh hvs hr rfl
    · cases h
  · simp only [Option.bind_eq_some_iff, Option.some.injEq] at h
    obtain ⟨r, hr, rfl⟩ := h
    obtain ⟨_, v, w', hex, hE, m', q1, q2, q3⟩ := step_sound hg hT hr
    unfold Oper.wp
    rw [hex]
    simp only [Oper.upon]
    refine hK v m' w' ?_ ?_ ?_ (fun hf => hE ?_)
    · cases o.dst <;> exact q2
    · exact tms_put hT hd q3 q1
    · cases o.dst <;> exact q3
    · rcases Bool.or_eq_true_iff.1 hf with hf | hf
      · exact hf
      · exfalso
        rw [Bool.and_eq_true] at hf
        replace hf := hf.2
        unfold stepOp at hr
        unfold isCall at hf
        split at hf
        · rename_i c hc
          rw [hc] at hr
          simp only at hr
          split at hf
          · rename_i hcv
            rw [hcv] at hr
            cases hr
          · cases hf
        · cases hf

theorem wants_wanted (hT : Tms P.cellsOf S m w a.tmps) {ops : Array Oper} {o : Oper} {b : Bool} (h : wants S ops o = some b) : Region.wanted o (yielded ops a.tmps) = b := by
  unfold wants at h
  unfold Region.wanted
  split at h
  · rename_i hgd
    simp only [Option.some.injEq] at h
    rw [hgd]
    exact h
  · rename_i j want hgd
    rw [hgd]
    simp only [Option.bind_eq_some_iff] at h
    obtain ⟨oj, hj, d, hdst, tv, hlk, h⟩ := h
    split at h
    · rename_i t
      simp only [Option.some.injEq] at h
      subst h
      have := hT _ _ hlk
      have hb : a.tmps.getD d undef = .bool t := by
        generalize a.tmps.getD d undef = y at this
        cases this with
        | one hh => cases hh with | lit => rfl
      have hb2 : a.tmps[d]? = some (.bool t) := by
        cases hq : a.tmps[d]? with
        | none => simp [hq, undef] at hb
        | some y => simp [hq] at hb; rw [hb]
      have : yielded ops a.tmps j = some t := by
        unfold yielded
        simp [hj, hdst, hb2]
      simp only [this]
      cases t <;> cases want <;> rfl
    · simp only [Option.some.injEq] at h
      subst h
      have hR := hT _ _ hlk
      have hy : yielded ops a.tmps j = none := by
        unfold yielded
        cases hq : a.tmps[d]? with
        | none => simp [hj, hdst, hq]
        | some y =>
          have he : a.tmps.getD d undef = y := by simp [hq]
          rw [he] at hR
          cases hR with
          | tup => simp [hj, hdst, hq]
      simp only [hy]
      cases want <;> rfl
    · cases h
end
end Go.Proofs.Ytanglbgincgmaaa.Vm
namespace Go.Proofs.Ytanglbgincgmaaa.Vm
open Go Go.RowKit Go.Proofs.Ytanglbgincgmaaa.VmLast
set_option linter.unusedVariables false
section
variable {P : Program} {B nt : Nat} {w0 : World} {cal : Cal} {Q : Exit → Act → World → Prop} {ops : Array Oper}

/-- What holds behind a piece of code. -/
def Ends (P : Program) (B : Nat) (w0 : World) (nt : Nat) (S S' : St) (m : Mp) (w : World) (a' : Act) (w' : World) : Prop :=
  a'.tmps.size = nt ∧ a'.defers = [] ∧ ∃ m', Good P.cellsOf B w0 S'.mem S'.ep m' w' ∧ Tms P.cellsOf S' m' w' a'.tmps ∧ Evo S.ep S'.ep S.mem S'.mem m m' w w'
theorem Ends.trans {S S1 S' : St} {m m1 : Mp} {w w1 : World} {a' : Act} {w' : World} (h : Evo S.ep S1.ep S.mem S1.mem m m1 w w1) (k : Ends P B w0 nt S1 S' m1 w1 a' w') : Ends P B w0 nt S S' m w a' w' := by
  obtain ⟨h1, h2, m', h3, h4, h5⟩ := k
  exact ⟨h1, h2, m', h3, h4, h.trans h5⟩
theorem put_size (a : Act) (dst : Option Tmp) (v : Value) : (a.put dst v).tmps.size = a.tmps.size := by cases dst <;> simp [Act.put]
theorem put_defers (a : Act) (dst : Option Tmp) (v : Value) : (a.put dst v).defers = a.defers := by cases dst <;> simp [Act.put]
theorem dstOk_spec {o : Oper} (h : dstOk nt o = true) : ∀ d, o.dst = some d → d < nt := by
  intro d hd
  unfold dstOk at h
  rw [hd] at h
  simpa using h

/-- One operation, wanted or not. -/
theorem one_sound {x : Bool} (hcal : CalOk P B w0 cal x) {S S1 : St} {m : Mp} {w : World} {a : Act} (hg : Good P.cellsOf B w0 S.mem S.ep m w) (hT : Tms P.cellsOf S m w a.tmps) {o : Oper} (hd : ∀ d, o.dst = some d → d < a.tmps.size) {b : Bool}
    (hw : wants S ops o = some b) (h : (if b then runOp P cal S o else some (putT S o.dst (.tup [], S.mem, S.ep))) = some S1) {K : Act → World → Prop} (hK : After x P B w0 S S1 m w a o K) :
    if Region.wanted o (yielded ops a.tmps) then o.wp P a w K Q else K (a.put o.dst undef) w := by
  rw [wants_wanted hT hw]
  cases b with
  | true =>
    simp only [if_true] at h ⊢
    exact runOp_sound hcal hg hT hd h hK
  | false =>
    simp only [Bool.false_eq_true, if_false, Option.some.injEq] at h ⊢
    subst h
    refine hK undef m w ?_ (tms_put hT hd Evo.refl undef_rtv) ?_ (fun _ => Ext.refl w)
    · cases o.dst <;> exact hg
    · cases o.dst <;> exact Evo.refl

theorem runOps_sound (hcal : CalOk P B w0 cal) : ∀ (l : List Oper) {S S' : St} {m : Mp} {w : World} {a : Act}, runOps P cal ops l S = some S' → Good P.cellsOf B w0 S.mem S.ep m w → Tms P.cellsOf S m w a.tmps → a.tmps.size = nt → a.defers = [] →
    (∀ o ∈ l, dstOk nt o = true) → (∀ a' w', Ends P B w0 nt S S' m w a' w' → Q .normal a' w') → wpList P ops Q l a w := by
  intro l
  induction l with
  | nil =>
    intro S S' m w a h hg hT hs hde _ hQ
    simp only [runOps, Option.some.injEq] at h
    subst h
    exact hQ a w ⟨hs, hde, m, hg, hT, Evo.refl⟩
  | cons o l ih =>
    intro S S' m w a h hg hT hs hde hl hQ
    simp only [runOps, Option.bind_eq_some_iff] at h
    obtain ⟨b, hb, h⟩ := h
    obtain ⟨S1, h1, h2⟩ : ∃ S1, (if b then runOp P cal S o else some (putT S o.dst (.tup [], S.mem, S.ep))) = some S1 ∧ runOps P cal ops l S1 = some S' := by
      cases b with
      | true =>
        simp only [if_true, Option.bind_eq_some_iff] at h
        exact h
      | false => exact ⟨_, rfl, h⟩
    have hd := dstOk_spec (hl o List.mem_cons_self)
    refine wpList_step fun K hKK => one_sound hcal hg hT (fun d h => by rw [hs]; exact hd d h) hb h1 (fun v m' w' q1 q2 q3 _ => hKK _ _ ?_)
    exact ih h2 q1 q2 (by rw [put_size]; exact hs) (by rw [put_defers]; exact hde) (fun o ho => hl o (List.mem_cons_of_mem _ ho)) (fun a' w'' he => hQ a' w'' (he.trans q3))

theorem addr_any {S : St} {m : Mp} {w : World} {a : Act} (hg : Good P.cellsOf B w0 S.mem S.ep m w) (hT : Tms P.cellsOf S m w a.tmps) {o : Oper} (hk : addrKind o = true) {r : TV × Mem × Nat} (h : stepOp P S o = some r) :
    ∃ v, (∀ w', (execOp a.eval o).run P w' = .ok (.value v) w') ∧ RTV P.cellsOf S.mem S.ep m w r.1 v ∧ r.2 = (S.mem, S.ep) := by
  have mv : ∀ x, (o.op = .move x ∨ o.op = .assign x) → ((ev S x).bind fun v => some (v, S.mem, S.ep)) = some r → ∃ v, (∀ w', (execOp a.eval o).run P w' = .ok (.value v) w') ∧ RTV P.cellsOf S.mem S.ep m w r.1 v ∧ r.2 = (S.mem, S.ep) := by
    intro x ho h
    simp only [Option.bind_eq_some_iff, Option.some.injEq] at h
    obtain ⟨v, hv, rfl⟩ := h
    refine ⟨_, fun w' => ?_, ev_rtv hT hv, rfl⟩
    unfold execOp
    rcases ho with ho | ho <;> simp [ho]
  unfold addrKind at hk
  split at hk
  · rename_i x ho
    exact mv x (.inl ho) (by unfold stepOp at h; simpa only [ho] using h)
  · rename_i x ho
    exact mv x (.inr ho) (by unfold stepOp at h; simpa only [ho] using h)
  · rename_i x ho
    unfold stepOp at h
    simp only [ho, Option.bind_eq_some_iff] at h
    obtain ⟨p, hp, h⟩ := h
    have hrv := ev1_rv hT hp
    split at h
    · rename_i g first cap
      simp only [Option.some.injEq] at h
      subst h
      refine ⟨a.eval x, fun w' => ?_, .one hrv, rfl⟩
      generalize a.eval x = y at hrv
      cases hrv with
      | lit hc =>
        unfold execOp
        simp only [ho]
        have : a.eval x = .func (.func g) first cap := (evL_eq hT (by unfold evL; rw [hp])).1
        rw [this]
        rfl
    · simp only [Option.some.injEq] at h
      subst h
      refine ⟨a.eval x, fun w' => ?_, .one hrv, rfl⟩
      generalize hy : a.eval x = y at hrv
      cases hrv with
      | cl hn hh =>
        unfold execOp
        simp only [ho, hy]
        rfl
    · simp only [Option.bind_eq_some_iff, Option.some.injEq] at h
      obtain ⟨q, hq, rfl⟩ := h
      obtain ⟨ad, hy, _⟩ := ptrAdd_rv hg hrv hq
      refine ⟨a.eval x, fun w' => ?_, .one hrv, rfl⟩
      unfold execOp
      simp only [ho, hy]
      rfl
  · rename_i T x f ho
    unfold stepOp at h
    simp only [ho, Option.bind_eq_some_iff] at h
    obtain ⟨d, hd, h⟩ := h
    split at h
    · rename_i fs
      simp only [Option.bind_eq_some_iff] at h
      obtain ⟨fd, hf, h⟩ := h
      split at h
      · cases h
      · rename_i hz
        simp only [Option.bind_eq_some_iff, Option.some.injEq] at h
        obtain ⟨p, hp, q, hq, rfl⟩ := h
        obtain ⟨ad, hy, hrv⟩ := ptrAdd_rv hg (ev1_rv hT hp) hq
        obtain ⟨i, hi, hsz⟩ : ∃ i, P.info? fd.type = some i ∧ P.cellsOf fd.type = i.size := by
          cases hi : P.info? fd.type with
          | none => simp [Program.cellsOf, hi] at hz
          | some i => exact ⟨i, rfl, by simp [Program.cellsOf, hi]⟩
        refine ⟨_, fun w' => ?_, .one hrv, rfl⟩
        have he : execOp a.eval o = (do let x ← Instr.fieldAt T (a.eval x) f; pure (Next.value x)) := by
          unfold execOp
          simp only [ho]
        rw [he]
        refine run_value ?_
        unfold Instr.fieldAt fieldPlace
        rw [hsz] at hz
        simp [run_underlying hd, hf, hy, Instr.sureAddr, run_sizeOf hi, hz]
    · cases h
  · cases hk
theorem lit_any {S : St} {m : Mp} {w : World} {a : Act} (hg : Good P.cellsOf B w0 S.mem S.ep m w) (hT : Tms P.cellsOf S m w a.tmps) {o : Oper} (hk : litKind o = true) {r : TV × Mem × Nat} (h : stepOp P S o = some r) :
    ∃ v, (∀ w', (execOp a.eval o).run P w' = .ok (.value v) w') ∧ RTV P.cellsOf S.mem S.ep m w r.1 v ∧ r.2 = (S.mem, S.ep) := by
  unfold litKind at hk
  split at hk
  · rename_i op T x y T' ho
    unfold stepOp at h
    simp only [ho] at h
    split at h
    · simp only [Option.bind_eq_some_iff, Option.some.injEq] at h
      obtain ⟨t, ht, rfl⟩ := h
      refine ⟨.bool t, fun w' => ?_, .one (.lit rfl), rfl⟩
      have he : execOp a.eval o = (do let x ← (do eqGuard op T x (.const (.slice none 0 0)) (a.eval x) (.slice none 0 0); binOp op T (a.eval x) (.slice none 0 0)); pure (Next.value x)) := by
        unfold execOp
        simp only [ho]
        rfl
      rw [he]
      exact run_value (nilV_run hT ht w')
    simp only [Option.bind_eq_some_iff, Option.some.injEq] at h
    obtain ⟨vx, hx, vy, hy, v, hq, tv, hl, rfl⟩ := h
    obtain ⟨ex, _⟩ := evL_eq hT hx
    obtain ⟨ey, _⟩ := evL_eq hT hy
    refine ⟨v, fun w' => ?_, lift_rtv hl, rfl⟩
    have he : execOp a.eval o = (do let x ← (do eqGuard op T x y vx vy; binOp op T vx vy); pure (Next.value x)) := by
      unfold execOp
      simp only [ho, ex, ey]
    rw [he]
    exact run_value (quiet_run (show quiet P _ = some v from hq) w')
  · rename_i op T x ho
    unfold stepOp at h
    simp only [ho, Option.bind_eq_some_iff, Option.some.injEq] at h
    obtain ⟨vx, hx, v, hq, tv, hl, rfl⟩ := h
    obtain ⟨ex, _⟩ := evL_eq hT hx
    refine ⟨v, fun w' => ?_, lift_rtv hl, rfl⟩
    have he : execOp a.eval o = (do let x ← Op.unary op vx; pure (Next.value x)) := by
      unfold execOp
      simp only [ho, ex]
    rw [he]
    exact run_value (quiet_run (show quiet P _ = some v from hq) w')
  · exact addr_any hg hT hk h

theorem singles_sound {x : Bool} (hcal : CalOk P B w0 cal x) {ds : List Nat} {wI : World} (hQ0 : ∀ c a w, ¬ Q (.panic c) a w) (hl : ∀ (i : Nat) (o : Oper), ops[i]? = some o → dstOk nt o = true) (s2 : List Nat) : ∀ (s : List Nat) (l : Array Bool) {S S' : St} {m : Mp} {w : World} {a : Act} (fuel : Nat), (x = true ∨ ∀ i ∈ s, i ∈ ds) → (s ++ s2).length ≤ fuel → chkS ops ds (s ++ s2) l = true → runI P cal ops s S = some S' →
    Good P.cellsOf B w0 S.mem S.ep m w → Tms P.cellsOf S m w a.tmps → a.tmps.size = nt → a.defers = [] →
    (∀ (l' : Array Bool) (a' : Act) (w' : World) (m' : Mp) (fuel' : Nat), s2.length ≤ fuel' → chkS ops ds s2 l' = true → Good P.cellsOf B w0 S'.mem S'.ep m' w' → Tms P.cellsOf S' m' w' a'.tmps → a'.tmps.size = nt → a'.defers = [] → Evo S.ep S'.ep S.mem S'.mem m m' w w' → wpAnyLast P .any ops Q (Ext wI) ds fuel' l' a' w') → wpAnyLast P .any ops Q (Ext wI) ds fuel l a w := by
  intro s
  induction s with
  | nil =>
    intro l S S' m w a fuel _ hf hc h hg hT hs hde hQ
    simp only [runI, Option.some.injEq] at h
    subst h
    exact hQ l a w m fuel (by simpa using hf) (by simpa using hc) hg hT hs hde Evo.refl
  | cons i s ih =>
    intro l S S' m w a fuel hx hf hc h hg hT hs hde hQ
    obtain ⟨fuel, rfl⟩ : ∃ n, fuel = n + 1 := ⟨fuel - 1, by simp at hf; omega⟩
    have hx' : x = true ∨ ∀ i ∈ s, i ∈ ds := hx.imp id (fun h j hj => h j (List.mem_cons_of_mem _ hj))
    simp only [runI, Option.bind_eq_some_iff] at h
    obtain ⟨o, ho, b, hb, h⟩ := h
    obtain ⟨S1, h1, h2⟩ : ∃ S1, (if b then runOp P cal S o else some (putT S o.dst (.tup [], S.mem, S.ep))) = some S1 ∧ runI P cal ops s S1 = some S' := by
      cases b with
      | true =>
        simp only [if_true, Option.bind_eq_some_iff] at h
        exact h
      | false => exact ⟨_, rfl, h⟩
    have hd : ∀ d, o.dst = some d → d < a.tmps.size := fun d h => by rw [hs]; exact dstOk_spec (hl i o ho) d h
    rw [List.cons_append] at hc
    simp only [chkS] at hc
    rw [Bool.and_eq_true, Bool.or_eq_true] at hc
    obtain ⟨hc, hc3⟩ := hc
    have hf' : (s ++ s2).length ≤ fuel := by simp at hf ⊢; omega
    rcases hc with hc | hc
    rotate_left
    · simp only [Bool.and_eq_true, ho, Option.elim_some] at hc
      obtain ⟨hk, hany⟩ := hc
      have go : ∀ (v : Value), Yields P ops o v a → S1.mem = S.mem → S1.ep = S.ep → Tms P.cellsOf S1 m w (a.put o.dst v).tmps → wpAnyLast P .any ops Q (Ext wI) ds (fuel + 1) l a w := by
        intro v hy e1 e2 hT1
        refine pure_ (l.setIfInBounds i true) ho rfl hany (fun c a' w' hq => absurd hq (hQ0 _ _ _)) hy rfl ?_
        refine ih _ fuel hx' hf' hc3 h2 (by rw [e1, e2]; exact hg) hT1 (by rw [put_size]; exact hs) (by rw [put_defers]; exact hde) (fun l' a' w' m' fuel' z1 z2 z3 z4 z5 z6 z7 => hQ l' a' w' m' fuel' z1 z2 z3 z4 z5 z6 ?_)
        rw [e1, e2] at z7
        exact z7
      cases b with
      | true =>
        simp only [if_true] at h1
        obtain ⟨r, hr, rfl⟩ : ∃ r, stepOp P S o = some r ∧ S1 = putT S o.dst r := by
          unfold runOp at h1
          split at h1
          · rename_i ho'; simp [litKind, addrKind, ho'] at hk
          · rename_i ho'; simp [litKind, addrKind, ho'] at hk
          · simp only [Option.bind_eq_some_iff, Option.some.injEq] at h1
            obtain ⟨r, hr, h1⟩ := h1
            exact ⟨r, hr, h1.symm⟩
        obtain ⟨v, hv, hrt, he⟩ := lit_any hg hT hk hr
        obtain ⟨tv, mm, ee⟩ := r
        simp only [Prod.mk.injEq] at he
        obtain ⟨rfl, rfl⟩ := he
        refine go v (.inl ⟨wants_wanted hT hb, hv⟩) ?_ ?_ (tms_put hT hd Evo.refl hrt)
        · cases o.dst <;> rfl
        · cases o.dst <;> rfl
      | false =>
        simp only [Bool.false_eq_true, if_false, Option.some.injEq] at h1
        subst h1
        refine go undef (.inr ⟨wants_wanted hT hb, rfl⟩) ?_ ?_ (tms_put hT hd Evo.refl undef_rtv)
        · cases o.dst <;> rfl
        · cases o.dst <;> rfl
    simp only [Bool.and_eq_true, Bool.or_eq_true, beq_iff_eq] at hc
    obtain ⟨hc1, hc2⟩ := hc
    refine wpAnyLast_all hc1 (by simp) (fun j hj => ?_)
    obtain rfl : j = i := by simpa using hj
    have hK := one_sound (K := fun a' w' => (j ∉ ds → Ext wI w → Ext wI w') ∧ wpAnyLast P .any ops Q (Ext wI) ds fuel (l.setIfInBounds j true) a' w') (Q := Q) hcal hg hT (fun d h => by rw [hs]; exact dstOk_spec (hl j o ho) d h) hb h1 (fun v m' w' q1 q2 q3 q4 => by
      refine ⟨fun hn he => he.trans (q4 ?_), ?_⟩
      · rcases hx with rfl | hx
        · rcases hc2 with hc2 | hc2
          · exact absurd (by simpa using hc2) hn
          · rw [ho] at hc2
            simpa using hc2
        · exact absurd (hx j List.mem_cons_self) hn
      · exact ih _ fuel hx' hf' hc3 h2 q1 q2 (by rw [put_size]; exact hs) (by rw [put_defers]; exact hde) (fun l' a' w'' m'' fuel' z1 z2 z3 z4 z5 z6 z7 => hQ l' a' w'' m'' fuel' z1 z2 z3 z4 z5 z6 (q3.trans z7)))
    unfold wpOp
    simp only [ho]
    split
    · rename_i hwt
      rw [if_pos hwt] at hK
      exact .inl hK
    · rename_i hwt
      rw [if_neg hwt] at hK
      exact hK

theorem takes_sound (hcal : CalOk P B w0 cal true) {ds : List Nat} (hQ0 : ∀ c a w, ¬ Q (.panic c) a w) (hl : ∀ (i : Nat) (o : Oper), ops[i]? = some o → dstOk nt o = true) {m : Mp} {w : World} : ∀ (t : List Nat) (l : Array Bool) {S S' : St} {a : Act} (fuel : Nat), t.length ≤ fuel → chkT ops ds t l = true → runI P cal ops t S = some S' →
    Good P.cellsOf B w0 S.mem S.ep m w → Tms P.cellsOf S m w a.tmps → a.tmps.size = nt → a.defers = [] →
    (∀ a', Good P.cellsOf B w0 S'.mem S'.ep m w → Tms P.cellsOf S' m w a'.tmps → Evo S.ep S'.ep S.mem S'.mem m m w w → a'.tmps.size = nt → a'.defers = [] → wpAnyLast P .any ops Q (Ext w) ds (fuel - t.length) (marked l t) a' w) → wpAnyLast P .any ops Q (Ext w) ds fuel l a w := by
  intro t
  induction t with
  | nil =>
    intro l S S' a fuel _ hc h hg hT hs hde hQ
    simp only [runI, Option.some.injEq] at h
    subst h
    exact hQ a hg hT Evo.refl hs hde
  | cons i t ih =>
    intro l S S' a fuel hf hc h hg hT hs hde hQ
    obtain ⟨fuel, rfl⟩ : ∃ n, fuel = n + 1 := ⟨fuel - 1, by simp at hf; omega⟩
    simp only [runI, Option.bind_eq_some_iff] at h
    obtain ⟨o, ho, b, hb, h⟩ := h
    simp only [chkT, Bool.and_eq_true, ho] at hc
    obtain ⟨⟨hc1, hc2⟩, hc3⟩ := hc
    have hc2 : quietKind o = true := hc2
    have hd : ∀ d, o.dst = some d → d < a.tmps.size := fun d h => by rw [hs]; exact dstOk_spec (hl i o ho) d h
    have hlen : fuel + 1 - (i :: t).length = fuel - t.length := by simp
    rw [hlen] at hQ
    have go : ∀ (v : Value) (S1 : St), YieldsIf P ops (Ext w) o v a → S1.mem = S.mem → S1.ep = S.ep → Tms P.cellsOf S1 m w (a.put o.dst v).tmps → runI P cal ops t S1 = some S' → wpAnyLast P .any ops Q (Ext w) ds (fuel + 1) l a w := by
      intro v S1 hy e1 e2 hT1 h1
      refine take_ (l.setIfInBounds i true) ho rfl hc1 (fun c a' w' hq => absurd hq (hQ0 _ _ _)) hy (Ext.refl w) rfl ?_
      refine ih _ fuel (by simp at hf; omega) hc3 h1 (by rw [e1, e2]; exact hg) hT1 (by rw [put_size]; exact hs) (by rw [put_defers]; exact hde) (fun a' g1 g2 g3 g4 g5 => hQ a' g1 g2 ?_ g4 g5)
      rw [← e1, ← e2]
      exact g3
    cases b with
    | true =>
      simp only [if_true, Option.bind_eq_some_iff] at h
      obtain ⟨S1, h1, h2⟩ := h
      obtain ⟨r, hr, rfl⟩ : ∃ r, stepOp P S o = some r ∧ S1 = putT S o.dst r := by
        unfold runOp at h1
        split at h1
        · rename_i ho'; simp [quietKind, ho'] at hc2
        · rename_i ho'; simp [quietKind, ho'] at hc2
        · simp only [Option.bind_eq_some_iff, Option.some.injEq] at h1
          obtain ⟨r, hr, h1⟩ := h1
          exact ⟨r, hr, h1.symm⟩
      obtain ⟨hq, _⟩ := step_sound hg hT hr
      obtain ⟨e1, v, hv, hrt⟩ := hq hc2
      obtain ⟨tv, mm, ee⟩ := r
      simp only [Prod.mk.injEq] at e1
      obtain ⟨rfl, rfl⟩ := e1
      refine go v _ (.inl ⟨?_, hv⟩) ?_ ?_ (tms_put hT hd Evo.refl hrt) h2
      · exact wants_wanted hT hb
      · cases o.dst <;> rfl
      · cases o.dst <;> rfl
    | false =>
      simp only [Bool.false_eq_true, if_false] at h
      refine go undef _ (.inr ⟨wants_wanted hT hb, rfl⟩) ?_ ?_ (tms_put hT hd Evo.refl undef_rtv) h
      · cases o.dst <;> rfl
      · cases o.dst <;> rfl

theorem drawn_spec {p : List Nat × List Nat} (h : drawn ops = some p) : ∃ ds t s1, p.1 = t ++ s1 ∧ (∀ i ∈ p.2, i ∈ ds) ∧ t.length + (s1 ++ p.2).length ≤ ops.size ∧ chkT ops ds t (Array.replicate ops.size false) = true ∧ chkS ops ds (s1 ++ p.2) (marked (Array.replicate ops.size false) t) = true := by
  have key : ∀ pr, drawnT pr ops = some p → ∃ ds t s1, p.1 = t ++ s1 ∧ (∀ i ∈ p.2, i ∈ ds) ∧ t.length + (s1 ++ p.2).length ≤ ops.size ∧ chkT ops ds t (Array.replicate ops.size false) = true ∧ chkS ops ds (s1 ++ p.2) (marked (Array.replicate ops.size false) t) = true := by
    intro pr h
    unfold drawnT at h
    simp only [Option.bind_eq_some_iff] at h
    obtain ⟨s, hs, h⟩ := h
    split at h
    · rename_i hc
      simp only [Option.some.injEq] at h
      subst h
      obtain ⟨c1, c2, c3, c4⟩ := hc
      refine ⟨s.filter fun j => (takesF pr ops ops.size (Array.replicate ops.size false)).1.all fun i => Region.reachB .any ops i ops.size j, _, _, rfl, fun i hi => ?_, ?_⟩
      · exact List.contains_iff_mem.1 (List.all_eq_true.1 c4 i hi)
      · simp only [cutD, List.take_append_drop]
        exact ⟨c1, c2, c3⟩
    · cases h
  unfold drawn at h
  split at h
  · rename_i q hq
    obtain rfl := Option.some.inj h
    exact key _ hq
  · exact key _ h
theorem runI_append (l1 l2 : List Nat) : ∀ S : St, runI P cal ops (l1 ++ l2) S = (runI P cal ops l1 S).bind (runI P cal ops l2) := by
  induction l1 with
  | nil => intro S; rfl
  | cons i l1 ih =>
    intro S
    rw [List.cons_append]
    simp only [runI]
    cases ops[i]? with
    | none => rfl
    | some o =>
      simp only [Option.bind_some]
      cases wants S ops o with
      | none => rfl
      | some b =>
        simp only [Option.bind_some]
        cases b with
        | true =>
          simp only [if_true]
          cases runOp P cal S o with
          | none => rfl
          | some S1 => exact ih S1
        | false => exact ih _

def one1 (P : Program) (cal : Cal) (ops : Array Oper) (i : Nat) (S : St) : Option St := (ops[i]?).bind fun o => (wants S ops o).bind fun b => if b then runOp P cal S o else some (putT S o.dst (.tup [], S.mem, S.ep))
theorem runI_one (i : Nat) (r : List Nat) (S : St) : runI P cal ops (i :: r) S = (one1 P cal ops i S).bind (runI P cal ops r) := by
  unfold one1
  simp only [runI]
  cases ops[i]? with
  | none => rfl
  | some o =>
    simp only [Option.bind_some]
    cases wants S ops o with
    | none => rfl
    | some b => cases b <;> rfl
theorem one1_some {i : Nat} {S S1 : St} (h : one1 P cal ops i S = some S1) : ∃ o b, ops[i]? = some o ∧ wants S ops o = some b ∧ (if b then runOp P cal S o else some (putT S o.dst (.tup [], S.mem, S.ep))) = some S1 := by
  unfold one1 at h
  simp only [Option.bind_eq_some_iff] at h
  obtain ⟨o, ho, b, hb, h⟩ := h
  exact ⟨o, b, ho, hb, h⟩
theorem mem_tails {i : Nat} {r : List Nat} : ∀ {os : List (List Nat)}, r ∈ tails i os → i :: r ∈ os
  | [] :: os, h => List.mem_cons_of_mem _ (mem_tails (os := os) h)
  | (j :: q) :: os, h => by
    unfold tails at h
    split at h
    · rename_i hj
      subst hj
      rcases List.mem_cons.1 h with rfl | h
      · exact List.mem_cons_self
      · exact List.mem_cons_of_mem _ (mem_tails h)
    · exact List.mem_cons_of_mem _ (mem_tails h)

theorem orders_sound (hcal : CalOk P B w0 cal true) {ds : List Nat} {wI : World} (hQ0 : ∀ c a w, ¬ Q (.panic c) a w) (hl : ∀ (i : Nat) (o : Oper), ops[i]? = some o → dstOk nt o = true) (R : St → Prop) : ∀ (n : Nat) (os : List (List Nat)) (l : Array Bool) {S : St} {m : Mp} {w : World} {a : Act} (fuel : Nat), n ≤ fuel → chkO ops ds n os l = true → (∀ o ∈ os, ∃ S', runI P cal ops o S = some S' ∧ R S') →
    Good P.cellsOf B w0 S.mem S.ep m w → Tms P.cellsOf S m w a.tmps → a.tmps.size = nt → a.defers = [] →
    (∀ (S' : St) (a' : Act) (w' : World), R S' → Ends P B w0 nt S S' m w a' w' → Q .normal a' w') → wpAnyLast P .any ops Q (Ext wI) ds fuel l a w := by
  intro n
  have stop : ∀ (os : List (List Nat)) (l : Array Bool) {S : St} {m : Mp} {w : World} {a : Act} (fuel : Nat), (Region.ready .any ops l == [] && os.contains []) = true → (∀ o ∈ os, ∃ S', runI P cal ops o S = some S' ∧ R S') →
    Good P.cellsOf B w0 S.mem S.ep m w → Tms P.cellsOf S m w a.tmps → a.tmps.size = nt → a.defers = [] →
    (∀ (S' : St) (a' : Act) (w' : World), R S' → Ends P B w0 nt S S' m w a' w' → Q .normal a' w') → wpAnyLast P .any ops Q (Ext wI) ds fuel l a w := by
    intro os l S m w a fuel hc hr hg hT hs hde hQ
    rw [Bool.and_eq_true] at hc
    obtain ⟨S', h1, h2⟩ := hr [] (List.contains_iff_mem.1 hc.2)
    simp only [runI, Option.some.injEq] at h1
    subst h1
    exact done_ hc.1 (hQ S a w h2 ⟨hs, hde, m, hg, hT, Evo.refl⟩)
  induction n with
  | zero =>
    intro os l S m w a fuel _ hc hr hg hT hs hde hQ
    exact stop os l fuel hc hr hg hT hs hde hQ
  | succ n ih =>
    intro os l S m w a fuel hf hc hr hg hT hs hde hQ
    obtain ⟨fuel, rfl⟩ : ∃ n, fuel = n + 1 := ⟨fuel - 1, by omega⟩
    have next : ∀ i, (tails i os).isEmpty = false → ∃ S1, one1 P cal ops i S = some S1 ∧ ∀ o ∈ tails i os, ∃ S', runI P cal ops o S1 = some S' ∧ R S' := by
      intro i hi
      obtain ⟨r, rs, hrs⟩ : ∃ r rs, tails i os = r :: rs := by
        cases h : tails i os with
        | nil => rw [h] at hi; cases hi
        | cons r rs => exact ⟨r, rs, rfl⟩
      obtain ⟨S', h1, _⟩ := hr (i :: r) (mem_tails (by rw [hrs]; exact List.mem_cons_self))
      rw [runI_one] at h1
      simp only [Option.bind_eq_some_iff] at h1
      obtain ⟨S1, h1, _⟩ := h1
      refine ⟨S1, h1, fun o ho => ?_⟩
      obtain ⟨S2, h2, h3⟩ := hr (i :: o) (mem_tails ho)
      rw [runI_one, h1, Option.bind_some] at h2
      exact ⟨S2, h2, h3⟩
    simp only [chkO] at hc
    rw [Bool.or_eq_true, Bool.or_eq_true] at hc
    rcases hc with (hc | hc) | hc
    · exact stop os l _ hc hr hg hT hs hde hQ
    · obtain ⟨i, _, hc⟩ := List.any_eq_true.1 hc
      simp only [Bool.and_eq_true, Bool.not_eq_true'] at hc
      obtain ⟨⟨⟨hk, hany⟩, hne⟩, hc⟩ := hc
      obtain ⟨S1, h1, h2⟩ := next i hne
      obtain ⟨o, b, ho, hb, h1⟩ := one1_some h1
      have hd : ∀ d, o.dst = some d → d < a.tmps.size := fun d h => by rw [hs]; exact dstOk_spec (hl i o ho) d h
      rw [ho, Option.elim_some] at hk
      have go : ∀ (v : Value), Yields P ops o v a → S1.mem = S.mem → S1.ep = S.ep → Tms P.cellsOf S1 m w (a.put o.dst v).tmps → wpAnyLast P .any ops Q (Ext wI) ds (fuel + 1) l a w := by
        intro v hy e1 e2 hT1
        refine pure_ (l.setIfInBounds i true) ho rfl hany (fun c a' w' hq => absurd hq (hQ0 _ _ _)) hy rfl ?_
        refine ih _ _ fuel (by omega) hc h2 (by rw [e1, e2]; exact hg) hT1 (by rw [put_size]; exact hs) (by rw [put_defers]; exact hde) (fun S' a' w' z1 z2 => hQ S' a' w' z1 (Ends.trans ?_ z2))
        rw [e1, e2]
        exact Evo.refl
      cases b with
      | true =>
        simp only [if_true] at h1
        obtain ⟨r, hr, rfl⟩ : ∃ r, stepOp P S o = some r ∧ S1 = putT S o.dst r := by
          unfold runOp at h1
          split at h1
          · rename_i ho'; simp [litKind, addrKind, ho'] at hk
          · rename_i ho'; simp [litKind, addrKind, ho'] at hk
          · simp only [Option.bind_eq_some_iff, Option.some.injEq] at h1
            obtain ⟨r, hr, h1⟩ := h1
            exact ⟨r, hr, h1.symm⟩
        obtain ⟨v, hv, hrt, he⟩ := lit_any hg hT hk hr
        obtain ⟨tv, mm, ee⟩ := r
        simp only [Prod.mk.injEq] at he
        obtain ⟨rfl, rfl⟩ := he
        refine go v (.inl ⟨wants_wanted hT hb, hv⟩) ?_ ?_ (tms_put hT hd Evo.refl hrt)
        · cases o.dst <;> rfl
        · cases o.dst <;> rfl
      | false =>
        simp only [Bool.false_eq_true, if_false, Option.some.injEq] at h1
        subst h1
        refine go undef (.inr ⟨wants_wanted hT hb, rfl⟩) ?_ ?_ (tms_put hT hd Evo.refl undef_rtv)
        · cases o.dst <;> rfl
        · cases o.dst <;> rfl
    · rw [Bool.and_eq_true] at hc
      obtain ⟨hc0, hc⟩ := hc
      refine wpAnyLast_all (rs := Region.ready .any ops l) rfl (by
        intro h
        rw [h] at hc0
        cases hc0) (fun i hi => ?_)
      have hc := List.all_eq_true.1 hc i hi
      simp only [Bool.and_eq_true, Bool.not_eq_true', Bool.or_eq_true] at hc
      obtain ⟨⟨hkind, hne⟩, hc⟩ := hc
      obtain ⟨S1, h1, h2⟩ := next i hne
      obtain ⟨o, b, ho, hb, h1⟩ := one1_some h1
      have hK := one_sound (K := fun a' w' => (i ∉ ds → Ext wI w → Ext wI w') ∧ wpAnyLast P .any ops Q (Ext wI) ds fuel (l.setIfInBounds i true) a' w') (Q := Q) hcal hg hT (fun d h => by rw [hs]; exact dstOk_spec (hl i o ho) d h) hb h1 (fun v m' w' q1 q2 q3 q4 => by
        refine ⟨fun hn he => he.trans (q4 ?_), ?_⟩
        · rcases hkind with hk | hk
          · exact absurd (by simpa using hk) hn
          · rw [ho] at hk
            simpa using hk
        · exact ih _ _ fuel (by omega) hc h2 q1 q2 (by rw [put_size]; exact hs) (by rw [put_defers]; exact hde) (fun S' a' w'' z1 z2 => hQ S' a' w'' z1 (Ends.trans q3 z2)))
      unfold wpOp
      simp only [ho]
      split
      · rename_i hwt
        rw [if_pos hwt] at hK
        exact .inl hK
      · rename_i hwt
        rw [if_neg hwt] at hK
        exact hK

theorem sameO_spec {nf : St → St} {S S1 S' : St} : ∀ {os : List (List Nat)}, sameO P cal ops nf S S1 os = some S' → S' = S1 ∧ ∀ o ∈ os, ∃ S2, runI P cal ops o S = some S2 ∧ nf S2 = S1
  | [], h => ⟨by simpa [sameO] using h.symm, fun _ h => by cases h⟩
  | o :: r, h => by
    simp only [sameO, Option.bind_eq_some_iff] at h
    obtain ⟨S2, h1, h2⟩ := h
    split at h2
    · rename_i he
      obtain ⟨h3, h4⟩ := sameO_spec h2
      refine ⟨h3, fun q hq => ?_⟩
      rcases List.mem_cons.1 hq with rfl | hq
      · exact ⟨S2, h1, he⟩
      · exact h4 q hq
    · cases h2
theorem allO_spec {nf : St → St} {S S' : St} {os : List (List Nat)} (h : allO P cal ops nf S os = some S') : ∀ o ∈ os, ∃ S2, runI P cal ops o S = some S2 ∧ nf S2 = S' := by
  cases os with
  | nil => exact fun _ h => by cases h
  | cons o r =>
    simp only [allO, Option.bind_eq_some_iff] at h
    obtain ⟨S1, h1, h2⟩ := h
    obtain ⟨rfl, h4⟩ := sameO_spec h2
    intro q hq
    rcases List.mem_cons.1 hq with rfl | hq
    · exact ⟨S1, h1, rfl⟩
    · exact h4 q hq
theorem drawnM_spec {p : List Nat × List (List Nat)} (h : drawnM ops = some p) : ∃ ds, p.1.length ≤ ops.size ∧ chkT ops ds p.1 (Array.replicate ops.size false) = true ∧ chkO ops ds (ops.size - p.1.length) p.2 (marked (Array.replicate ops.size false) p.1) = true := by
  unfold drawnM at h
  simp only [Option.bind_eq_some_iff] at h
  obtain ⟨os, hos, h⟩ := h
  split at h
  · rename_i hc
    simp only [Option.some.injEq] at h
    subst h
    exact ⟨_, hc.1, hc.2.1, hc.2.2⟩
  · cases h
theorem regD_norm {nf : St → St} {S S' : St} {x : X} (h : regD P cal ops nf S = some (x, S')) : x = .norm := by
  unfold regD at h
  split at h
  · simp only [Option.bind_eq_some_iff, Option.some.injEq, Prod.mk.injEq] at h
    obtain ⟨_, _, _, _, h, _⟩ := h
    exact h.symm
  · simp only [Option.bind_eq_some_iff, Option.some.injEq, Prod.mk.injEq] at h
    obtain ⟨_, _, _, _, _, _, h, _⟩ := h
    exact h.symm

theorem region_sound (hcal : CalOk P B w0 cal) (hm : P.follows .mixedOrders = true) {id : Nat} {draw : Bool} {S S' : St} {m : Mp} {w : World} {a : Act}
    {nf : St → St} (hnf : ∀ {S' : St} {a' : Act} {w' : World}, Ends P B w0 nt S S' m w a' w' → Ends P B w0 nt S (nf S') m w a' w') (h : (if draw then regD P cal ops nf S else (runOps P cal ops ops.toList S).bind fun S' => some (.norm, S')) = some (X.norm, S'))
    (hg : Good P.cellsOf B w0 S.mem S.ep m w) (hT : Tms P.cellsOf S m w a.tmps) (hs : a.tmps.size = nt) (hde : a.defers = []) (hl : ops.toList.all (dstOk nt) = true) (hQ0 : ∀ c a w, ¬ Q (.panic c) a w) (hQ : ∀ a' w', Ends P B w0 nt S S' m w a' w' → Q .normal a' w') :
    (Code.region id ops draw).wp P Q a w := by
  have hl' : ∀ o ∈ ops.toList, dstOk nt o = true := List.all_eq_true.1 hl
  cases draw with
  | false =>
    simp only [Bool.false_eq_true, if_false, Option.bind_eq_some_iff, Option.some.injEq, Prod.mk.injEq, true_and] at h
    obtain ⟨S1, h1, rfl⟩ := h
    exact wp_region_list (runOps_sound hcal _ h1 hg hT hs hde hl' hQ)
  | true =>
    simp only [if_true] at h
    unfold regD at h
    split at h
    rotate_left
    · simp only [Option.bind_eq_some_iff, Option.some.injEq, Prod.mk.injEq, true_and] at h
      obtain ⟨p, hp, S1, h1, S2, h2, rfl⟩ := h
      obtain ⟨ds, hlen, hct, hco⟩ := drawnM_spec hp
      have hbel : Below B w { w with drawn := w.drawn + 1 } := ⟨rfl, rfl, rfl, Nat.le_refl _, fun _ _ => rfl⟩
      have hE : Evo S.ep S.ep S.mem S.mem m m w { w with drawn := w.drawn + 1 } := Evo.heap rfl
      have hl2 : ∀ (i : Nat) (o : Oper), ops[i]? = some o → dstOk nt o = true := fun i o ho => hl' o (Array.mem_toList_iff.2 (Array.mem_of_getElem? ho))
      refine wp_region_last (S := Ext { w with drawn := w.drawn + 1 }) (ds := ds) hm ?_
      refine takes_sound hcal.draw hQ0 hl2 p.1 _ ops.size hlen hct h1 (hg.heap rfl hbel) (Tms.evo (S' := S) hT hE rfl) hs hde (fun a' g1 g2 g3 g4 g5 => ?_)
      exact orders_sound hcal.draw hQ0 hl2 (fun S' => nf S' = S2) _ p.2 _ _ (Nat.le_refl _) hco (allO_spec h2) g1 g2 g4 g5 (fun S' a' w' z1 z2 => by
        subst z1
        exact hQ a' w' (hnf (Ends.trans (S := S) (hE.trans g3) z2)))
    rename_i p hp
    simp only [Option.bind_eq_some_iff, Option.some.injEq, Prod.mk.injEq, true_and] at h
    obtain ⟨S1, h1, S2, h2, rfl⟩ := h
    obtain ⟨ds, t, s1, hp1, hds, hlen, hct, hcs⟩ := drawn_spec hp
    rw [hp1, runI_append] at h1
    simp only [Option.bind_eq_some_iff] at h1
    obtain ⟨S0, h0, h1⟩ := h1
    have hbel : Below B w { w with drawn := w.drawn + 1 } := ⟨rfl, rfl, rfl, Nat.le_refl _, fun _ _ => rfl⟩
    have hE : Evo S.ep S.ep S.mem S.mem m m w { w with drawn := w.drawn + 1 } := Evo.heap rfl
    have hl2 : ∀ (i : Nat) (o : Oper), ops[i]? = some o → dstOk nt o = true := fun i o ho => hl' o (Array.mem_toList_iff.2 (Array.mem_of_getElem? ho))
    refine wp_region_last (S := Ext { w with drawn := w.drawn + 1 }) (ds := ds) hm ?_
    refine takes_sound hcal.draw hQ0 hl2 t _ ops.size (by omega) hct h0 (hg.heap rfl hbel) (Tms.evo (S' := S) hT hE rfl) hs hde (fun a' g1 g2 g3 g4 g5 => ?_)
    refine singles_sound hcal.draw hQ0 hl2 p.2 s1 _ _ (.inl rfl) (by omega) hcs h1 g1 g2 g4 g5 (fun l' a1 w1 m1 fuel' z1 z2 z3 z4 z5 z6 z7 => ?_)
    refine singles_sound hcal hQ0 hl2 [] p.2 l' fuel' (.inr hds) (by simpa using z1) (by simpa using z2) h2 z3 z4 z5 z6 (fun l'' a2 w2 m2 fuel'' _ y2 y3 y4 y5 y6 y7 => ?_)
    simp only [chkS] at y2
    exact done_ y2 (hQ a2 w2 (Ends.trans (S := S) (S1 := S2) (m1 := m2) (w1 := w2) (((hE.trans g3).trans z7).trans y7) ⟨y5, y6, m2, y3, y4, Evo.refl⟩))
end
end Go.Proofs.Ytanglbgincgmaaa.Vm
namespace Go.Proofs.Ytanglbgincgmaaa.Vm
open Go Go.RowKit
set_option linter.unusedVariables false
section
variable {P : Program} {B nt : Nat} {w0 w : World} {cal : Cal} {z : Nat → Nat} {mem : Mem} {ep : Nat} {m : Mp}

def exitOf : X → Exit
  | .norm => .normal
  | .exit id => .exit id
  | .ret => .ret
/-- Blocks that are no longer told. -/
def Sub (mem mem' : Mem) : Prop := ∀ (id : Nat) (b : Blk), mem'[id]? = some (some b) → mem[id]? = some (some b)
theorem Sub.evo {mem mem' : Mem} {ep : Nat} {m : Mp} {w : World} (h : Sub mem mem') : Evo ep ep mem mem' m m w w :=
  ⟨Nat.le_refl _, Nat.le_refl _, fun k hk => ⟨hk.1, rfl⟩, fun k hk _ => ⟨hk, rfl⟩, fun id bv c hc => .inr ⟨c, h _ _ hc, rfl⟩, fun id hv cv e rs hc => .inr ⟨cv, rs, h _ _ hc, rfl⟩, fun id hv cv e rs hc => .inr ⟨hv, e, rs, h _ _ hc, fun k hk => ⟨hk, rfl⟩⟩, fun id hv cv e rs rs' h1 h2 _ _ => by
    obtain ⟨_, _, _, rfl⟩ := rows_inj4 h1 (h _ _ h2)
    exact NestEq.same (fun _ _ _ => rfl)⟩
theorem Sub.good {mem mem' : Mem} {ep : Nat} {m : Mp} {w : World} (h : Sub mem mem') (h0 : mem'[0]? = some none) (hg : Good z B w0 mem ep m w) : Good z B w0 mem' ep m w :=
  ⟨fun id b hb => (hg.blk id b (h _ _ hb)).keep h.evo rfl (fun k hk _ => ⟨hk, rfl⟩), hg.lab, hg.below, hg.hB, h0⟩
theorem Sub.take (mem : Mem) (n : Nat) : Sub mem (mem.take n) := by
  intro id b h
  rw [List.getElem?_take] at h
  split at h
  · exact h
  · cases h
theorem look_keep (tm : List (Nat × TV)) : ∀ (l : List Nat) (t : Nat) (v : TV), look (l.filterMap fun t => (look tm t).map fun v => (t, v)) t = some v → look tm t = some v := by
  intro l
  induction l with
  | nil => intro t v h; simp [look] at h
  | cons x l ih =>
    intro t v h
    simp only [List.filterMap_cons] at h
    cases hx : look tm x with
    | none =>
      simp only [hx, Option.map_none] at h
      exact ih t v h
    | some u =>
      simp only [hx, Option.map_some, look] at h
      split at h
      · rename_i he
        subst he
        rw [hx]
        exact h
      · exact ih t v h

theorem wp_loop_fuel {c : Code} {Q : Exit → Act → World → Prop} (I : Nat → Act → World → Prop) (h00 : ∀ a w, ¬ I 0 a w) (round : ∀ n a w, I (n + 1) a w → c.wp P (Exit.then (I n) Q) a w) {n : Nat} {a : Act} {w : World} (h : I n a w) : (Code.loop c).wp P Q a w := by
  classical
  have least : ∀ a w, (∃ n, I n a w) → ∃ n, I n a w ∧ ∀ k, I k a w → n ≤ k := by
    intro a w ⟨n, hn⟩
    induction n using Nat.strongRecOn with
    | _ n ih =>
      by_cases hk : ∃ k, k < n ∧ I k a w
      · obtain ⟨k, hk1, hk2⟩ := hk
        exact ih k hk1 hk2
      · exact ⟨n, hn, fun k hIk => Nat.le_of_not_lt fun hlt => hk ⟨k, hlt, hIk⟩⟩
  refine wp_loop (fun a w => ∃ n, I n a w) (fun a w => if h : ∃ n, I n a w then (least a w h).choose else 0) ⟨n, h⟩ (fun a w hI => ?_)
  obtain ⟨h1, h2⟩ := (least a w hI).choose_spec
  simp only [dif_pos hI]
  generalize (least a w hI).choose = q at h1 h2
  cases q with
  | zero => exact absurd h1 (h00 a w)
  | succ q =>
    refine wp_mono (round q a w h1) (fun e a' w' he => ?_)
    cases e with
    | normal =>
      have hex : ∃ n, I n a' w' := ⟨q, he⟩
      refine ⟨hex, ?_⟩
      simp only [dif_pos hex]
      have := (least a' w' hex).choose_spec.2 q he
      omega
    | _ => exact he

theorem nil_new (hg : Good z B w0 mem ep m w) (e : Nat) : ∃ m', Good z B w0 (mem ++ [some (.rows ep ep e [])]) (ep + 1) m' w ∧ Evo ep (ep + 1) mem (mem ++ [some (.rows ep ep e [])]) m m' w w ∧ m'.hd mem.length = .slice none 0 0 := by
  obtain ⟨h1, h2⟩ := new_good (x := .slice none 0 0) (G := m.G) (b := .rows ep ep e []) hg (Gone.refl mem) ⟨rfl, rfl⟩ (Below.refl _ _) (fun k hk => .inl rfl)
    (fun k hk => by
      refine .inl ?_
      rcases Nat.eq_zero_or_pos (m.G k) with h | h
      · exact h
      · have := (hg.lab k (by omega)).1; omega)
    (fun hE => ⟨by omega, by omega, [], fun _ => (0, 0), by rw [Mp.add_same]; exact ⟨by simp, .inl ⟨rfl, rfl⟩⟩, by rw [Mp.add_same]; simp [Value.ownBlock], by simp, by simp⟩)
  exact ⟨_, h1, h2, Mp.add_same _ _ _ _⟩
theorem nil1_ok {S : St} {tmps : Array Value} (hg : Good z B w0 S.mem S.ep m w) (hT : Tms z S m w tmps) (t j e : Nat) : ∃ m', Good z B w0 (nil1 t j e S).mem (nil1 t j e S).ep m' w ∧ Tms z (nil1 t j e S) m' w tmps ∧ Evo S.ep (nil1 t j e S).ep S.mem (nil1 t j e S).mem m m' w w := by
  unfold nil1
  split
  · rename_i hlk
    obtain ⟨m', h1, h2, h3⟩ := nil_new hg e
    refine ⟨m', h1, fun t' tv ht => ?_, h2⟩
    simp only [look] at ht
    split at ht
    · rename_i htt
      subst htt
      simp only [Option.some.injEq] at ht
      subst ht
      have hn : tmps.getD t undef = .slice none 0 0 := by
        have := hT t _ hlk
        generalize tmps.getD t undef = y at this
        cases this with
        | one h => cases h with | lit _ => rfl
      rw [hn]
      exact .one (.ow (Nat.lt_succ_self _) rfl (fun _ _ _ _ => h3.symm))
    · exact (hT t' tv ht).evo h2
  · rename_i id bv off hlk
    split
    · rename_i cells hb
      split
      · rename_i hc
        obtain ⟨m1, h1, h2, h3⟩ := nil_new hg e
        have hb' := boxOf_some hb
        have hlt : id < S.mem.length := (List.getElem?_eq_some_iff.1 hb').1
        have hb1 : (S.mem ++ [some (.rows S.ep S.ep e [])])[id]? = some (some (.box bv cells)) := by rw [List.getElem?_append_left hlt]; exact hb'
        obtain ⟨q1, q2⟩ := set_good (b := .box bv (cells.set (off + j) (.ow S.mem.length S.ep))) (x := m1.hd id) (G := m1.G) (ep' := S.ep + 1) h1 (Gone.refl _) hb1 (Nat.le_refl _) (Below.refl _ _) (fun _ _ _ => rfl) (fun _ _ => .inl rfl) (fun k hk => by
            refine .inl ?_
            rcases Nat.eq_zero_or_pos (m1.G k) with h | h
            · exact h
            · have := (h1.lab k (by omega)).1; omega)
          (fun bv' c hc' => by cases hc'; exact .inr ⟨_, rfl, rfl⟩) (fun _ _ _ _ h => by cases h) (fun _ _ _ _ h => by cases h) (fun _ _ _ _ _ h => by cases h)
          (fun hE => by
            obtain ⟨g0, g, T, cs, g1, g2, g3, g4, g5⟩ := h1.blk _ _ hb1
            refine ⟨g0, g, T, cs, by rw [Mp.add_same]; exact g1, g2, g3, by rw [g4, List.length_set], fun i u y a b => ?_⟩
            by_cases hi : i = off + j
            · subst hi
              have hl2 := (List.getElem?_eq_some_iff.1 hc).1
              rw [List.getElem?_set_self hl2] at a
              simp only [Option.some.injEq] at a
              subst a
              have hy : y = .slice none 0 0 := by
                have := g5 _ _ y hc b
                cases this with | lit _ => rfl
              subst hy
              refine .ow (by omega) rfl (fun _ _ _ _ => ?_)
              by_cases hid : S.mem.length = id
              · omega
              · rw [Mp.add_ne _ _ _ hid, h3]
            · rw [List.getElem?_set_ne (fun e => hi e.symm)] at a
              exact (g5 i u y a b).evo hE)
        exact ⟨_, q1, fun t' tv ht => ((hT t' tv ht).evo h2).evo q2, h2.trans q2⟩
      · exact ⟨m, hg, hT, Evo.refl⟩
    · exact ⟨m, hg, hT, Evo.refl⟩
  · exact ⟨m, hg, hT, Evo.refl⟩
theorem nilS_ok {tmps : Array Value} : ∀ (n : Nat) (l : List Nat) (S : St) (m : Mp), l.length ≤ n → Good z B w0 S.mem S.ep m w → Tms z S m w tmps → ∃ m', Good z B w0 (nilS l S).mem (nilS l S).ep m' w ∧ Tms z (nilS l S) m' w tmps ∧ Evo S.ep (nilS l S).ep S.mem (nilS l S).mem m m' w w := by
  intro n
  induction n with
  | zero =>
    intro l S m hl hg hT
    have : l = [] := List.length_eq_zero_iff.1 (by omega)
    subst this
    exact ⟨m, hg, hT, Evo.refl⟩
  | succ n ih =>
    intro l S m hl hg hT
    match l with
    | [] => exact ⟨m, hg, hT, Evo.refl⟩
    | [_] => exact ⟨m, hg, hT, Evo.refl⟩
    | [_, _] => exact ⟨m, hg, hT, Evo.refl⟩
    | t :: j :: e :: r =>
      obtain ⟨m1, h1, h2, h3⟩ := nil1_ok hg hT t j e
      obtain ⟨m2, h4, h5, h6⟩ := ih r _ m1 (by simp at hl; omega) h1 h2
      exact ⟨m2, h4, h5, h3.trans h6⟩
theorem put_good {mem1 : Mem} (hg : Good z B w0 mem ep m w) (hG : Gone mem mem1) {id : Nat} (h0 : mem1[id]? = some none) (hne : id ≠ 0) {b : Blk} (hb : b.fresh ep) {x : Value} {G : Nat → Nat}
    (h1 : ∀ k, G k = m.G k ∨ (G k = id + 1 ∧ m.G k ≠ 0 ∧ m.G k ≠ 1 ∧ mem1[m.G k - 1]? = some none))
    (hr : Evo ep (ep + 1) mem (mem1.set id (some b)) m (m.add id x G) w w → RBlk z (mem1.set id (some b)) (ep + 1) (m.add id x G) w id b) :
    Good z B w0 (mem1.set id (some b)) (ep + 1) (m.add id x G) w ∧ Evo ep (ep + 1) mem (mem1.set id (some b)) m (m.add id x G) w w := by
  have hid : id < mem1.length := (List.getElem?_eq_some_iff.1 h0).1
  have old : ∀ (i : Nat) (c : Blk), (mem1.set id (some b))[i]? = some (some c) → i ≠ id → mem[i]? = some (some c) ∧ mem1[i]? = some (some c) := by
    intro i c h hn
    rw [List.getElem?_set_ne (Ne.symm hn)] at h
    exact ⟨hG.2 _ _ h, h⟩
  have new : ∀ (c : Blk), (mem1.set id (some b))[id]? = some (some c) → c = b := by
    intro c h
    rw [List.getElem?_set_self hid] at h
    simpa using h.symm
  have lab : ∀ (i : Nat) (c : Blk), mem1[i]? = some (some c) → ∀ k, m.G k = i + 1 → G k = i + 1 := by
    intro i c hc k hk
    rcases h1 k with h | ⟨_, _, _, h⟩
    · rw [h, hk]
    · rw [hk] at h
      simp [hc] at h
  have hE : Evo ep (ep + 1) mem (mem1.set id (some b)) m (m.add id x G) w w := by
    refine ⟨by omega, Nat.le_refl _, fun k hk => ⟨?_, rfl⟩, fun k hk hlt => ⟨?_, rfl⟩, fun i bv c hc => ?_, fun i hv cv e rs hc => ?_, fun i hv cv e rs hc => ?_, fun i hv cv e rs rs' h3 hc l1 l2 => ?_⟩
    · rcases h1 k with h | ⟨_, h, _⟩
      · exact h.trans hk.1
      · exact absurd hk.1 h
    · rcases h1 k with h | ⟨_, _, h, _⟩
      · exact h.trans hk
      · exact absurd hk h
    · by_cases hi : i = id
      · subst hi
        have := new _ hc
        subst this
        exact .inl (Nat.le_of_eq hb.symm)
      · exact .inr ⟨c, (old _ _ hc hi).1, Mp.add_ne _ _ _ hi⟩
    · by_cases hi : i = id
      · subst hi
        have := new _ hc
        subst this
        exact .inl (Nat.le_of_eq hb.1.symm)
      · exact .inr ⟨cv, rs, (old _ _ hc hi).1, Mp.add_ne _ _ _ hi⟩
    · by_cases hi : i = id
      · subst hi
        have := new _ hc
        subst this
        exact .inl (Nat.le_of_eq hb.2.symm)
      · exact .inr ⟨hv, e, rs, (old _ _ hc hi).1, fun k hk => ⟨⟨lab _ _ (old _ _ hc hi).2 k hk.1, by rw [Mp.add_ne _ _ _ hi]; exact hk.2.1, hk.2.2⟩, rfl⟩⟩
    · by_cases hi : i = id
      · subst hi
        have := new _ hc
        subst this
        have := hb.1
        omega
      · obtain ⟨_, _, _, rfl⟩ := rows_inj4 h3 (old _ _ hc hi).1
        exact NestEq.same (fun _ _ _ => rfl)
  refine ⟨⟨fun i c hc => ?_, fun k hk => ?_, hg.below, hg.hB, ?_⟩, hE⟩
  · by_cases hi : i = id
    · subst hi
      have := new _ hc
      subst this
      exact hr hE
    · exact (hg.blk i c (old _ _ hc hi).1).keep hE (Mp.add_ne _ _ _ hi) (fun k hk hlt => ⟨lab _ _ (old _ _ hc hi).2 k hk, rfl⟩)
  · rcases h1 k with h | ⟨_, h, h5, _⟩
    · have := hg.lab k (by rw [← h]; exact hk)
      exact ⟨this.1, this.2.imp (fun e => e) (fun e => h.trans e)⟩
    · exact ⟨(hg.lab k h).1, .inl ((hg.lab k h).2.resolve_right h5)⟩
  · have h6 := dead_stays hG hg.fst
    rw [List.getElem?_set_ne (fun he => hne he)]
    exact h6
/-- An own slice becomes one that is read alone. -/
theorem free_good (hg : Good z B w0 mem ep m w) {id hv : Nat} {b : Nat × Nat × List (List V)} (hb : rowsH mem id hv = some b) : ∃ m1, Good z B w0 (mem.set id none) ep m1 w ∧ Evo ep ep mem (mem.set id none) m m1 w w ∧ RV z (mem.set id none) ep m1 w (.sl false b.2.1 (erRows b.2.2)) (m.hd id) := by
  have hb' := rowsH_some hb
  have hlt : id < mem.length := (List.getElem?_eq_some_iff.1 hb').1
  have hne : id ≠ 0 := by
    rintro rfl
    rw [hg.fst] at hb'
    cases hb'
  have hG : Gone mem (mem.set id none) := Gone.set _ _
  have old : ∀ (i : Nat) (c : Blk), (mem.set id none)[i]? = some (some c) → i ≠ id := by
    rintro i c h rfl
    rw [List.getElem?_set_self hlt] at h
    cases h
  let m1 : Mp := ⟨fun k => if m.G k = id + 1 then 0 else m.G k, m.hd⟩
  have q0 : ∀ k, m.G k = 0 → m1.G k = 0 := fun k hk => by show (if m.G k = id + 1 then 0 else m.G k) = 0; split <;> simp_all
  have q1 : ∀ i k, i ≠ id → m.G k = i + 1 → m1.G k = i + 1 := fun i k hi hk => by
    show (if m.G k = id + 1 then 0 else m.G k) = i + 1
    rw [if_neg (by omega)]
    exact hk
  have q2 : ∀ k, m1.G k ≠ 0 → m1.G k = m.G k ∧ m.G k ≠ 0 := fun k hk => by
    have h : (if m.G k = id + 1 then 0 else m.G k) ≠ 0 := hk
    split at h
    · exact absurd rfl h
    · rename_i h2
      exact ⟨if_neg h2, h⟩
  have hE : Evo ep ep mem (mem.set id none) m m1 w w := by
    refine ⟨Nat.le_refl _, Nat.le_refl _, fun k hk => ⟨q0 k hk.1, rfl⟩, fun k hk hl => ⟨by have := q1 0 k (Ne.symm hne) hk; simpa using this, rfl⟩, fun i bv c hc => .inr ⟨c, hG.2 _ _ hc, rfl⟩, fun i hv cv e rs hc => .inr ⟨cv, rs, hG.2 _ _ hc, rfl⟩, fun i hv cv e rs hc => .inr ⟨hv, e, rs, hG.2 _ _ hc, fun k hk => ⟨⟨q1 i k (old _ _ hc) hk.1, hk.2⟩, rfl⟩⟩, fun i hv cv e rs rs' h1 h2 _ _ => ?_⟩
    obtain ⟨_, _, _, rfl⟩ := rows_inj4 h1 (hG.2 _ _ h2)
    exact NestEq.same (fun _ _ _ => rfl)
  refine ⟨m1, ⟨fun i c hc => (hg.blk i c (hG.2 _ _ hc)).keep hE rfl (fun k hk _ => ⟨q1 i k (old _ _ hc) hk, rfl⟩), fun k hk => ?_, hg.below, hg.hB, dead_stays hG hg.fst⟩, hE, ?_⟩
  · obtain ⟨h1, h2⟩ := q2 k hk
    have := hg.lab k h2
    exact ⟨this.1, this.2.imp (fun e => e) (fun e => h1.trans e)⟩
  · obtain ⟨_, _, cs, f, ho, hG1, hlen, hrep⟩ := hg.blk _ _ hb'
    have hown : Rep z w (roG m w) (fun k => m.G k = id + 1 ∧ k < w.heap.size) (.sl true b.2.1 b.2.2) (m.hd id) := .own cs f ho (fun k hk => ⟨hG1 k hk, ownsRow_lt ho hk⟩) hlen (fun i j row u y a b c => (hrep i j row u y a b c).mono (fun _ h => h) (fun k hk => ⟨⟨hk.1.1, hk.1.2.2⟩, hk.1.2.1, hk.2⟩))
    have he := hown.erase (ok' := fun _ => False)
    refine .ro (he.mono (fun k hk => ?_) (fun _ h => h))
    rcases hk with hk | hk
    · exact ⟨q0 k hk.1, hk.2⟩
    · exact ⟨if_pos hk.1, hk.2⟩
theorem setAt_ok {S S1 : St} {m1 : Mp} {tmps : Array Value} (hg : Good z B w0 S.mem S.ep m w) (hT : Tms z S m w tmps) (htm : S1.tm = S.tm) (h1 : Good z B w0 S1.mem S1.ep m1 w) (hE : Evo S.ep S1.ep S.mem S1.mem m m1 w w)
    (hbx : ∀ (id bv : Nat) (c : List V), S1.mem[id]? = some (some (Blk.box bv c)) → S.mem[id]? = some (some (Blk.box bv c))) {t j : Nat} {u v : V} (hc : cellAt S t j = some u) (hv : ∀ y, RV z S.mem S.ep m w u y → RV z S1.mem S1.ep m1 w v y) :
    ∃ m2, Good z B w0 (setAt S1 t j v).mem (setAt S1 t j v).ep m2 w ∧ Tms z (setAt S1 t j v) m2 w tmps ∧ Evo S.ep (setAt S1 t j v).ep S.mem (setAt S1 t j v).mem m m2 w w := by
  have hT1 : Tms z S1 m1 w tmps := fun t' tv ht => (hT t' tv (by rw [← htm]; exact ht)).evo hE
  unfold cellAt at hc
  unfold setAt
  rw [htm]
  split at hc
  · rename_i id bv off hlk
    simp only [Option.bind_eq_some_iff] at hc
    obtain ⟨cells, hb, hc⟩ := hc
    have hb' := boxOf_some hb
    split
    · rename_i cells1 hb1
      have hb1' := boxOf_some hb1
      have h3 := hbx _ _ _ hb1'
      rw [hb'] at h3
      simp only [Option.some.injEq, Blk.box.injEq, true_and] at h3
      subst h3
      obtain ⟨_, g', T', cs', e1, e2, _, e4, e5⟩ := hg.blk _ _ hb'
      have hbv : bv < S.ep := by assumption
      have hhd : m1.hd id = m.hd id := by
        rcases hE.box _ _ _ hb1' with h | ⟨_, _, h⟩
        · omega
        · exact h
      obtain ⟨p1, p2⟩ := set_good (b := .box bv (cells.set (off + j) v)) (x := m1.hd id) (G := m1.G) (ep' := S1.ep) h1 (Gone.refl _) hb1' (Nat.le_refl _) (Below.refl _ _) (fun _ _ _ => rfl) (fun _ _ => .inl rfl) (fun k hk => by
            refine .inl ?_
            rcases Nat.eq_zero_or_pos (m1.G k) with h | h
            · exact h
            · have := (h1.lab k (by omega)).1; omega)
          (fun bv' c hc' => by cases hc'; exact .inr ⟨_, rfl, rfl⟩) (fun _ _ _ _ h => by cases h) (fun _ _ _ _ h => by cases h) (fun _ _ _ _ _ h => by cases h)
          (fun hE2 => by
            obtain ⟨g0, g, T, cs, g1, g2, g3, g4, g5⟩ := h1.blk _ _ hb1'
            refine ⟨g0, g, T, cs, by rw [Mp.add_same]; exact g1, g2, g3, by rw [g4, List.length_set], fun i x y a b => ?_⟩
            by_cases hi : i = off + j
            · subst hi
              have hl2 := (List.getElem?_eq_some_iff.1 hc).1
              rw [List.getElem?_set_self hl2] at a
              simp only [Option.some.injEq] at a
              subst a
              have hgg : g' = g := by
                rw [hhd, e1] at g1
                simpa using g1
              subst hgg
              have hcs : cs' = cs := by
                rw [e2] at g2
                simp only [Option.some.injEq, Obj.cells.injEq] at g2
                exact g2.1
              subst hcs
              exact (hv y (e5 _ u y hc b)).evo hE2
            · rw [List.getElem?_set_ne (fun e => hi e.symm)] at a
              exact (g5 i x y a b).evo hE2)
      exact ⟨_, p1, fun t' tv ht => (hT1 t' tv (by rw [htm]; exact ht)).evo p2, hE.trans p2⟩
    · exact ⟨m1, h1, hT1, hE⟩
  · rename_i cs hlk
    simp only [hlk]
    refine ⟨m1, h1, fun t' tv ht => ?_, hE⟩
    simp only [look] at ht
    split at ht
    · rename_i htt
      subst htt
      simp only [Option.some.injEq] at ht
      subst ht
      have h0 := hT t _ hlk
      generalize tmps.getD t undef = y at h0
      cases h0 with
      | agg hs h =>
        refine .agg (by simpa using hs) (fun i x y a b => ?_)
        by_cases hi : i = j
        · subst hi
          have hl2 := (List.getElem?_eq_some_iff.1 hc).1
          rw [List.getElem?_set_self hl2] at a
          simp only [Option.some.injEq] at a
          subst a
          exact hv y (h _ u y hc b)
        · rw [List.getElem?_set_ne (fun e => hi e.symm)] at a
          exact (h i x y a b).evo hE
    · exact hT1 t' tv (by rw [htm]; exact ht)
  · rename_i v0 hnb hlk
    simp only [Option.some.injEq] at hc
    subst hc
    simp only [hlk]
    refine ⟨m1, h1, fun t' tv ht => ?_, hE⟩
    simp only [look] at ht
    split at ht
    · rename_i htt
      subst htt
      simp only [Option.some.injEq] at ht
      subst ht
      have h0 := hT t _ hlk
      generalize tmps.getD t undef = y at h0
      cases h0 with
      | one h => exact .one (hv y h)
    · exact hT1 t' tv (by rw [htm]; exact ht)
  · cases hc
theorem hint1_ok {S : St} {tmps : Array Value} (hg : Good z B w0 S.mem S.ep m w) (hT : Tms z S m w tmps) (kind t j x : Nat) : ∃ m', Good z B w0 (hint1 kind t j x S).mem (hint1 kind t j x S).ep m' w ∧ Tms z (hint1 kind t j x S) m' w tmps ∧ Evo S.ep (hint1 kind t j x S).ep S.mem (hint1 kind t j x S).mem m m' w w := by
  have triv : ∃ m', Good z B w0 S.mem S.ep m' w ∧ Tms z S m' w tmps ∧ Evo S.ep S.ep S.mem S.mem m m' w w := ⟨m, hg, hT, Evo.refl⟩
  unfold hint1
  split
  · rename_i hc
    split
    · obtain ⟨m1, h1, h2, h3⟩ := nil_new hg x
      refine setAt_ok (S1 := ⟨S.tm, S.mem ++ [some (.rows S.ep S.ep x [])], S.ep + 1⟩) hg hT rfl h1 h2 (fun id bv c h => ?_) hc (fun y hy => ?_)
      · simp only at h
        rcases Nat.lt_or_ge id S.mem.length with hi | hi
        · rwa [List.getElem?_append_left hi] at h
        · rw [List.getElem?_append_right hi] at h
          cases hd : id - S.mem.length with
          | zero => rw [hd] at h; simp at h
          | succ n => rw [hd] at h; simp at h
      · have : y = .slice none 0 0 := by cases hy with | lit _ => rfl
        subst this
        exact .ow (Nat.lt_succ_self _) rfl (fun _ _ _ _ => h3.symm)
    · split
      · refine setAt_ok (S1 := S) hg hT rfl hg Evo.refl (fun _ _ _ h => h) hc (fun y hy => ?_)
        have : y = .slice none 0 0 := by cases hy with | lit _ => rfl
        subst this
        exact .ro (.roS ⟨0, 0, none⟩ (fun _ _ => .bool false) (Nat.zero_le _) (by simp [maxLen]) (by simp) (fun hn => absurd rfl hn) (by simp) (by simp) (by simp))
      · exact triv
  · rename_i id hv hc
    split
    · rename_i b hb
      have hb' := rowsH_some hb
      have hlt : id < S.mem.length := (List.getElem?_eq_some_iff.1 hb').1
      have hne : id ≠ 0 := by
        rintro rfl
        rw [hg.fst] at hb'
        cases hb'
      split
      · split
        · rename_i hx
          have hG : Gone S.mem ((S.mem.set id none).set x none) := (Gone.set _ _).trans (Gone.set _ _)
          have hxl : ((S.mem.set id none).set x none)[x]? = some none := List.getElem?_set_self (by simpa using hx.2)
          obtain ⟨_, _, cs, f, ho, hG1, hlen, hrep⟩ := hg.blk _ _ hb'
          have q1 : ∀ k, m.G k = id + 1 → (if m.G k = id + 1 then x + 1 else m.G k) = x + 1 := fun k hk => if_pos hk
          obtain ⟨p1, p2⟩ := put_good (b := .rows S.ep S.ep b.2.1 b.2.2) (x := m.hd id) (G := fun k => if m.G k = id + 1 then x + 1 else m.G k) hg hG hxl (by omega) ⟨rfl, rfl⟩ (fun k => by
              by_cases hk : m.G k = id + 1
              · refine .inr ⟨if_pos hk, by omega, by omega, ?_⟩
                rw [hk]
                show ((S.mem.set id none).set x none)[id]? = some none
                by_cases hxi : x = id
                · subst hxi; exact hxl
                · rw [List.getElem?_set_ne hxi, List.getElem?_set_self hlt]
              · exact .inl (if_neg hk))
            (fun hE => by
              refine ⟨by omega, by omega, cs, f, by rw [Mp.add_same]; exact ho, fun k hk => ?_, hlen, fun i j row u y a b c => ?_⟩
              · rw [Mp.add_same] at hk
                exact q1 k (hG1 k hk)
              · refine (hrep i j row u y a b c).mono (fun k hk => ⟨?_, hk.2⟩) (fun k hk => ⟨⟨q1 k hk.1.1, by rw [Mp.add_same]; exact hk.1.2.1, hk.1.2.2⟩, hk.2⟩)
                show (if m.G k = id + 1 then x + 1 else m.G k) = 0
                rw [if_neg (by have := hk.1; omega)]
                exact hk.1)
          refine setAt_ok (S1 := ⟨S.tm, ((S.mem.set id none).set x none).set x (some (.rows S.ep S.ep b.2.1 b.2.2)), S.ep + 1⟩) hg hT rfl p1 p2 (fun i bv c h => ?_) hc (fun y hy => ?_)
          · simp only at h
            by_cases hxi : i = x
            · subst hxi
              rw [List.getElem?_set_self (by simpa using hx.2)] at h
              simp at h
            · rw [List.getElem?_set_ne (Ne.symm hxi)] at h
              exact hG.2 _ _ h
          · cases hy with
            | ow h1 h2 h3 => exact .ow (Nat.lt_succ_self _) h2 (fun _ _ _ _ => by rw [Mp.add_same]; exact h3 _ _ _ hb')
        · exact triv
      · split
        · obtain ⟨m1, h1, h2, h3⟩ := free_good hg hb
          refine setAt_ok (S1 := ⟨S.tm, S.mem.set id none, S.ep⟩) hg hT rfl h1 h2 (fun i bv c h => (Gone.set _ _).2 _ _ h) hc (fun y hy => ?_)
          cases hy with
          | ow _ _ h5 =>
            rw [h5 _ _ _ hb']
            exact h3
        · exact triv
    · exact triv
  · exact triv
theorem nzRow_get {j x i : Nat} {row : List V} {u : V} (h : (nzRow j x row)[i]? = some u) : row[i]? = some u ∨ (row[i]? = some (.lit (.slice none 0 0)) ∧ u = .sl (decide (x < 1000000)) (x % 1000000) []) := by
  unfold nzRow at h
  split at h
  · rename_i hj
    by_cases hi : i = j
    · subst hi
      rw [List.getElem?_set_self (List.getElem?_eq_some_iff.1 hj).1] at h
      exact .inr ⟨hj, (Option.some.inj h).symm⟩
    · rw [List.getElem?_set_ne (Ne.symm hi)] at h
      exact .inl h
  · exact .inl h
theorem nzRow_len (j x : Nat) (row : List V) : (nzRow j x row).length = row.length := by
  unfold nzRow
  split <;> simp
theorem nzRow_own {j x i e2 : Nat} {row : List V} {r2 : List (List V)} (h : row[i]? = some (.sl true e2 r2)) : (nzRow j x row)[i]? = some (.sl true e2 r2) := by
  unfold nzRow
  split
  · rename_i hj
    by_cases hi : i = j
    · subst hi
      rw [h] at hj
      cases hj
    · rw [List.getElem?_set_ne (Ne.symm hi)]
      exact h
  · exact h
theorem hint4_ok {S : St} {tmps : Array Value} (hg : Good z B w0 S.mem S.ep m w) (hT : Tms z S m w tmps) (t j x : Nat) : ∃ m', Good z B w0 (hint4 t j x S).mem (hint4 t j x S).ep m' w ∧ Tms z (hint4 t j x S) m' w tmps ∧ Evo S.ep (hint4 t j x S).ep S.mem (hint4 t j x S).mem m m' w w := by
  have triv : ∃ m', Good z B w0 S.mem S.ep m' w ∧ Tms z S m' w tmps ∧ Evo S.ep S.ep S.mem S.mem m m' w w := ⟨m, hg, hT, Evo.refl⟩
  unfold hint4
  split
  · rename_i id hv hlk
    split
    · rename_i b hb
      have hb' := rowsH_some hb
      obtain ⟨q0, q00, cs, f, ho, hG1, hlen, hrep⟩ := hg.blk _ _ hb'
      have lenr : ∀ row ∈ b.2.2.map (nzRow j x), row.length = z b.2.1 := by
        intro row hr
        obtain ⟨r0, h1, rfl⟩ := List.mem_map.1 hr
        rw [nzRow_len]
        exact hlen r0 h1
      obtain ⟨p1, p2⟩ := set_good (b := .rows hv b.1 b.2.1 (b.2.2.map (nzRow j x))) (x := m.hd id) (G := m.G) (ep' := S.ep) hg (Gone.refl _) hb' (Nat.le_refl _) (Below.refl _ _) (fun _ _ _ => rfl) (fun _ _ => .inl rfl) (fun k hk => by
            refine .inl ?_
            rcases Nat.eq_zero_or_pos (m.G k) with h | h
            · exact h
            · have := (hg.lab k (by omega)).1; omega)
          (fun _ _ h => by cases h) (fun hv' cv' e' rs' h => by cases h; exact .inr ⟨_, _, rfl, rfl⟩)
          (fun hv' cv' e' rs' h => by
            cases h
            exact .inr ⟨_, _, _, rfl, fun k hk => ⟨⟨hk.1, by rw [Mp.add_same]; exact hk.2.1, hk.2.2⟩, rfl⟩⟩)
          (fun hv' cv' e' rs rs' h1 h2 _ _ => by
            cases h1
            cases h2
            intro i i2 row e2 r2 a1 a2
            refine ⟨⟨nzRow j x row, r2, by rw [List.getElem?_map, a1]; rfl, nzRow_len _ _ _, nzRow_own a2⟩, fun g y _ hy => hy⟩)
          (fun hE => by
            refine ⟨q0, q00, cs, f, by rw [Mp.add_same, List.length_map]; exact ho, fun k hk => hG1 k (by rw [Mp.add_same] at hk; exact hk), lenr, fun i i2 row u y a1 a2 a3 => ?_⟩
            rw [List.getElem?_map] at a1
            obtain ⟨r0, h1, rfl⟩ := Option.map_eq_some_iff.1 a1
            have mono : ∀ v, Rep z w (roG m w) (fun k => inG m w id k ∧ f k = (i, i2)) v y → Rep z w (roG (m.add id (m.hd id) m.G) w) (fun k => inG (m.add id (m.hd id) m.G) w id k ∧ f k = (i, i2)) v y := fun v h => h.mono (fun _ h => h) (fun k hk => ⟨⟨hk.1.1, by rw [Mp.add_same]; exact hk.1.2.1, hk.1.2.2⟩, hk.2⟩)
            rcases nzRow_get a2 with h2 | ⟨h2, rfl⟩
            · exact mono _ (hrep i i2 r0 u y h1 h2 a3)
            · have h3 := hrep i i2 r0 _ y h1 h2 a3
              have hy : y = .slice none 0 0 := by cases h3 with | lit _ => rfl
              subst hy
              cases decide (x < 1000000) with
              | true => exact .own [] (fun _ => (0, 0)) ⟨by simp, .inl ⟨rfl, rfl⟩⟩ (by simp [Value.ownBlock]) (by simp) (by simp)
              | false => exact .roS ⟨0, 0, none⟩ (fun _ _ => .bool false) (Nat.zero_le _) (by simp [maxLen]) (by simp) (fun hn => absurd rfl hn) (by simp) (by simp) (by simp))
      exact ⟨_, p1, fun t' tv ht => (hT t' tv ht).evo p2, p2⟩
    · exact triv
  · exact triv
theorem nzDeep_get {j x i : Nat} {row : List V} {u : V} (h : (nzDeep j x row)[i]? = some u) : row[i]? = some u ∨ ∃ e rows, row[i]? = some (.sl true e rows) ∧ u = .sl true e (rows.map (nzRow 0 x)) := by
  unfold nzDeep at h
  split at h
  · rename_i hj
    by_cases hi : i = j
    · subst hi
      rw [List.getElem?_set_self (List.getElem?_eq_some_iff.1 hj).1] at h
      exact .inr ⟨_, _, hj, (Option.some.inj h).symm⟩
    · rw [List.getElem?_set_ne (Ne.symm hi)] at h
      exact .inl h
  · exact .inl h
theorem nzDeep_len (j x : Nat) (row : List V) : (nzDeep j x row).length = row.length := by
  unfold nzDeep
  split <;> simp
theorem nz_rep {ro ok : Nat → Prop} {j x e : Nat} {rows : List (List V)} {y : Value} (h : Rep z w ro ok (.sl true e rows) y) : Rep z w ro ok (.sl true e (rows.map (nzRow j x))) y := by
  cases h with
  | own cells f ho hok hrow hr =>
    refine .own cells f (by rw [List.length_map]; exact ho) hok (fun row hr => ?_) (fun i i2 row u y a1 a2 a3 => ?_)
    · obtain ⟨r0, h1, rfl⟩ := List.mem_map.1 hr
      rw [nzRow_len]
      exact hrow r0 h1
    · rw [List.getElem?_map] at a1
      obtain ⟨r0, h1, rfl⟩ := Option.map_eq_some_iff.1 a1
      rcases nzRow_get a2 with h2 | ⟨h2, rfl⟩
      · exact hr i i2 r0 u y h1 h2 a3
      · have h3 := hr i i2 r0 _ y h1 h2 a3
        have hy : y = .slice none 0 0 := by cases h3 with | lit _ => rfl
        subst hy
        cases decide (x < 1000000) with
        | true => exact .own [] (fun _ => (0, 0)) ⟨by simp, .inl ⟨rfl, rfl⟩⟩ (by simp [Value.ownBlock]) (by simp) (by simp)
        | false => exact .roS ⟨0, 0, none⟩ (fun _ _ => .bool false) (Nat.zero_le _) (by simp [maxLen]) (by simp) (fun hn => absurd rfl hn) (by simp) (by simp) (by simp)
theorem hint5_ok {S : St} {tmps : Array Value} (hg : Good z B w0 S.mem S.ep m w) (hT : Tms z S m w tmps) (t j x : Nat) : ∃ m', Good z B w0 (hint5 t j x S).mem (hint5 t j x S).ep m' w ∧ Tms z (hint5 t j x S) m' w tmps ∧ Evo S.ep (hint5 t j x S).ep S.mem (hint5 t j x S).mem m m' w w := by
  have triv : ∃ m', Good z B w0 S.mem S.ep m' w ∧ Tms z S m' w tmps ∧ Evo S.ep S.ep S.mem S.mem m m' w w := ⟨m, hg, hT, Evo.refl⟩
  unfold hint5
  split
  · rename_i id hv hlk
    split
    · rename_i b hb
      have hb' := rowsH_some hb
      obtain ⟨q0, q00, cs, f, ho, hG1, hlen, hrep⟩ := hg.blk _ _ hb'
      have lenr : ∀ row ∈ b.2.2.map (nzDeep j x), row.length = z b.2.1 := by
        intro row hr
        obtain ⟨r0, h1, rfl⟩ := List.mem_map.1 hr
        rw [nzDeep_len]
        exact hlen r0 h1
      obtain ⟨p1, p2⟩ := set_good (b := .rows hv S.ep b.2.1 (b.2.2.map (nzDeep j x))) (x := m.hd id) (G := m.G) (ep' := S.ep + 1) hg (Gone.refl _) hb' (Nat.le_succ _) (Below.refl _ _) (fun _ _ _ => rfl) (fun _ _ => .inl rfl) (fun k hk => by
            refine .inl ?_
            rcases Nat.eq_zero_or_pos (m.G k) with h | h
            · exact h
            · have := (hg.lab k (by omega)).1; omega)
          (fun _ _ h => by cases h) (fun hv' cv' e' rs' h => by cases h; exact .inr ⟨_, _, rfl, rfl⟩)
          (fun hv' cv' e' rs' h => by
            cases h
            exact .inl (Nat.le_refl _))
          (fun hv' cv' e' rs rs' h1 h2 _ h4 => by
            cases h2
            exact absurd h4 (Nat.lt_irrefl _))
          (fun hE => by
            refine ⟨by omega, by omega, cs, f, by rw [Mp.add_same, List.length_map]; exact ho, fun k hk => hG1 k (by rw [Mp.add_same] at hk; exact hk), lenr, fun i i2 row u y a1 a2 a3 => ?_⟩
            rw [List.getElem?_map] at a1
            obtain ⟨r0, h1, rfl⟩ := Option.map_eq_some_iff.1 a1
            have mono : ∀ v, Rep z w (roG m w) (fun k => inG m w id k ∧ f k = (i, i2)) v y → Rep z w (roG (m.add id (m.hd id) m.G) w) (fun k => inG (m.add id (m.hd id) m.G) w id k ∧ f k = (i, i2)) v y := fun v h => h.mono (fun _ h => h) (fun k hk => ⟨⟨hk.1.1, by rw [Mp.add_same]; exact hk.1.2.1, hk.1.2.2⟩, hk.2⟩)
            rcases nzDeep_get a2 with h2 | ⟨e2, r2, h2, rfl⟩
            · exact mono _ (hrep i i2 r0 u y h1 h2 a3)
            · exact nz_rep (mono _ (hrep i i2 r0 _ y h1 h2 a3)))
      exact ⟨_, p1, fun t' tv ht => (hT t' tv ht).evo p2, p2⟩
    · exact triv
  · exact triv
theorem hintS_ok {tmps : Array Value} : ∀ (n : Nat) (l : List Nat) (S : St) (m : Mp), l.length ≤ n → Good z B w0 S.mem S.ep m w → Tms z S m w tmps → ∃ m', Good z B w0 (hintS l S).mem (hintS l S).ep m' w ∧ Tms z (hintS l S) m' w tmps ∧ Evo S.ep (hintS l S).ep S.mem (hintS l S).mem m m' w w := by
  intro n
  induction n with
  | zero =>
    intro l S m hl hg hT
    have : l = [] := List.length_eq_zero_iff.1 (by omega)
    subst this
    exact ⟨m, hg, hT, Evo.refl⟩
  | succ n ih =>
    intro l S m hl hg hT
    match l with
    | [] => exact ⟨m, hg, hT, Evo.refl⟩
    | [_] => exact ⟨m, hg, hT, Evo.refl⟩
    | [_, _] => exact ⟨m, hg, hT, Evo.refl⟩
    | [_, _, _] => exact ⟨m, hg, hT, Evo.refl⟩
    | k :: t :: j :: x :: r =>
      have key : ∃ m1, Good z B w0 (if k = 4 then hint4 t j x S else if k = 5 then hint5 t j x S else hint1 k t j x S).mem (if k = 4 then hint4 t j x S else if k = 5 then hint5 t j x S else hint1 k t j x S).ep m1 w ∧ Tms z (if k = 4 then hint4 t j x S else if k = 5 then hint5 t j x S else hint1 k t j x S) m1 w tmps ∧ Evo S.ep (if k = 4 then hint4 t j x S else if k = 5 then hint5 t j x S else hint1 k t j x S).ep S.mem (if k = 4 then hint4 t j x S else if k = 5 then hint5 t j x S else hint1 k t j x S).mem m m1 w w := by
        split
        · exact hint4_ok hg hT t j x
        · split
          · exact hint5_ok hg hT t j x
          · exact hint1_ok hg hT k t j x
      obtain ⟨m1, h1, h2, h3⟩ := key
      obtain ⟨m2, h4, h5, h6⟩ := ih r _ m1 (by simp at hl; omega) h1 h2
      exact ⟨m2, h4, h5, h3.trans h6⟩
theorem finH_ok {tmps : Array Value} (ann : List Nat × Nat) {S : St} {m : Mp} (hg : Good z B w0 S.mem S.ep m w) (hT : Tms z S m w tmps) : ∃ m', Good z B w0 (finH ann S).mem (finH ann S).ep m' w ∧ Tms z (finH ann S) m' w tmps ∧ Evo S.ep (finH ann S).ep S.mem (finH ann S).mem m m' w w := by
  unfold finH
  split
  · exact hintS_ok _ _ _ _ (Nat.le_refl _) hg hT
  · exact ⟨m, hg, hT, Evo.refl⟩
theorem finH_ends {S S' : St} {a' : Act} {w' : World} (ann : List Nat × Nat) (h : Ends P B w0 nt S S' m w a' w') : Ends P B w0 nt S (finH ann S') m w a' w' := by
  obtain ⟨h1, h2, m', h3, h4, h5⟩ := h
  obtain ⟨m2, h6, h7, h8⟩ := finH_ok ann h3 h4
  exact ⟨h1, h2, m2, h6, h7, h5.trans h8⟩
theorem keep_ends {S S' : St} {a' : Act} {w' : World} {n0 : Nat} (hn0 : 0 < n0) (ann : List Nat × Nat) (h : Ends P B w0 nt S S' m w a' w') : Ends P B w0 nt S (keep n0 ann S') m w a' w' := by
  obtain ⟨hs1, hde1, m1, q1, q2, q3⟩ := h
  have hsub : Sub S'.mem (keep n0 ann S').mem := Sub.take _ _
  exact ⟨hs1, hde1, m1, hsub.good (by have h6 := q1.fst; show (S'.mem.take (n0 + ann.2))[0]? = _; rw [List.getElem?_take, if_pos (by omega)]; exact h6) q1, fun t tv ht => (q2 t tv (look_keep _ _ _ _ ht)).evo hsub.evo, q3.trans (hsub.evo (ep := S'.ep))⟩
theorem fin_ends {S S' : St} {a' : Act} {w' : World} (ann : List Nat × Nat) (h : Ends P B w0 nt S S' m w a' w') : Ends P B w0 nt S (fin ann S') m w a' w' := by
  unfold fin
  split
  · obtain ⟨h1, h2, m', h3, h4, h5⟩ := h
    obtain ⟨m2, h6, h7, h8⟩ := nilS_ok _ _ _ _ (Nat.le_refl _) h3 h4
    exact ⟨h1, h2, m2, h6, h7, h5.trans h8⟩
  · exact finH_ends ann h

theorem exec_sound (hcal : CalOk P B w0 cal) (hm : P.follows .mixedOrders = true) {k n0 : Nat} (hn0 : 0 < n0) {lm : Nat → List Nat × Nat} : ∀ (c : Code) (b : Nat) {S : St} {x : X} {S' : St} {m : Mp} {w : World} {a : Act}, exec P cal k n0 lm b c S = some (x, S') →
    Good P.cellsOf B w0 S.mem S.ep m w → Tms P.cellsOf S m w a.tmps → a.tmps.size = nt → a.defers = [] → dsts nt c = true → c.wp P (fun e a' w' => e = exitOf x ∧ Ends P B w0 nt S S' m w a' w') a w := by
  intro c
  induction c with
  | skip =>
    intro b S x S' m w a h hg hT hs hde hd
    simp only [exec, Option.some.injEq, Prod.mk.injEq] at h
    obtain ⟨rfl, rfl⟩ := h
    exact wp_skip ⟨rfl, hs, hde, m, hg, hT, Evo.refl⟩
  | region id ops draw =>
    intro b S x S' m w a h hg hT hs hde hd
    simp only [exec, Option.bind_eq_some_iff, Option.some.injEq, Prod.mk.injEq] at h
    obtain ⟨⟨x1, S1⟩, h, e1, rfl⟩ := h
    simp only at e1
    subst e1
    have hx : x1 = .norm := by
      cases draw
      · simp only [Bool.false_eq_true, if_false, Option.bind_eq_some_iff, Option.some.injEq, Prod.mk.injEq] at h
        obtain ⟨_, _, h, _⟩ := h
        exact h.symm
      · simp only [if_true] at h
        exact regD_norm h
    subst hx
    exact region_sound hcal hm (fun he => keep_ends hn0 _ (finH_ends _ he)) h hg hT hs hde hd (fun c a w hq => by cases hq.1) (fun a' w' he => ⟨rfl, fin_ends _ he⟩)
  | seq c1 c2 ih1 ih2 =>
    intro b S x S' m w a h hg hT hs hde hd
    simp only [exec, Option.bind_eq_some_iff] at h
    obtain ⟨⟨x1, S1⟩, h1, h2⟩ := h
    simp only [dsts, Bool.and_eq_true] at hd
    refine wp_seq (wp_mono (ih1 b h1 hg hT hs hde hd.1) (fun e a1 w1 he => ?_))
    obtain ⟨rfl, hs1, hde1, m1, g1, g2, g3⟩ := he
    cases x1 with
    | norm =>
      simp only at h2
      exact wp_mono (ih2 b h2 g1 g2 hs1 hde1 hd.2) (fun e a2 w2 ⟨he, hen⟩ => ⟨he, hen.trans g3⟩)
    | exit id =>
      simp only [Option.some.injEq, Prod.mk.injEq] at h2
      obtain ⟨rfl, rfl⟩ := h2
      exact ⟨rfl, hs1, hde1, m1, g1, g2, g3⟩
    | ret =>
      simp only [Option.some.injEq, Prod.mk.injEq] at h2
      obtain ⟨rfl, rfl⟩ := h2
      exact ⟨rfl, hs1, hde1, m1, g1, g2, g3⟩
  | cond c c1 c2 ih1 ih2 =>
    intro b S x S' m w a h hg hT hs hde hd
    simp only [exec, Option.bind_eq_some_iff] at h
    obtain ⟨v, hv, h⟩ := h
    simp only [dsts, Bool.and_eq_true] at hd
    split at h
    · rename_i t
      have hc := (evL_eq hT hv).1
      cases t with
      | true => exact wp_cond_true hc (ih1 b (by simpa using h) hg hT hs hde hd.1)
      | false => exact wp_cond_false hc (ih2 b (by simpa using h) hg hT hs hde hd.2)
    · cases h
  | block id c ih =>
    intro b S x S' m w a h hg hT hs hde hd
    simp only [exec, Option.bind_eq_some_iff] at h
    obtain ⟨⟨x1, S1⟩, h1, h2⟩ := h
    refine wp_block (wp_mono (ih id h1 hg hT hs hde hd) (fun e a1 w1 he => ?_))
    obtain ⟨rfl, hen⟩ := he
    cases x1 with
    | norm =>
      simp only [Option.some.injEq, Prod.mk.injEq] at h2
      obtain ⟨rfl, rfl⟩ := h2
      exact ⟨rfl, hen⟩
    | exit id' =>
      simp only at h2
      simp only [exitOf, Exit.inBlock]
      split at h2
      · rename_i he
        simp only [Option.some.injEq, Prod.mk.injEq] at h2
        obtain ⟨rfl, rfl⟩ := h2
        rw [if_pos he]
        exact ⟨rfl, hen⟩
      · rename_i he
        simp only [Option.some.injEq, Prod.mk.injEq] at h2
        obtain ⟨rfl, rfl⟩ := h2
        rw [if_neg he]
        exact ⟨rfl, hen⟩
    | ret =>
      simp only [Option.some.injEq, Prod.mk.injEq] at h2
      obtain ⟨rfl, rfl⟩ := h2
      exact ⟨rfl, hen⟩
  | loop c ih =>
    intro b S x S' m w a h hg hT hs hde hd
    simp only [exec] at h
    split at h
    · simp only [Option.bind_eq_some_iff, Option.some.injEq] at h
      obtain ⟨⟨x0, S0⟩, h, hxx⟩ := h
      suffices hW : (Code.loop c).wp P (fun e a' w' => e = exitOf x0 ∧ Ends P B w0 nt S S0 m w a' w') a w by
        refine wp_mono hW (fun e a1 w1 he => ?_)
        obtain ⟨rfl, hen⟩ := he
        unfold endF at hxx
        cases x0 with
        | ret =>
          simp only [Prod.mk.injEq] at hxx
          obtain ⟨rfl, rfl⟩ := hxx
          exact ⟨rfl, hen⟩
        | norm =>
          simp only [Prod.mk.injEq] at hxx
          obtain ⟨rfl, rfl⟩ := hxx
          exact ⟨rfl, keep_ends hn0 _ (finH_ends _ hen)⟩
        | exit id =>
          simp only [Prod.mk.injEq] at hxx
          obtain ⟨rfl, rfl⟩ := hxx
          exact ⟨rfl, keep_ends hn0 _ (finH_ends _ hen)⟩
      refine wp_loop_fuel (fun n a1 w1 => ∃ S1, iterF (fun S => exec P cal k n0 lm b c S) (keepF n0 lm b) n S1 = some (x0, S0) ∧ Ends P B w0 nt S S1 m w a1 w1)
        (fun a1 w1 ⟨S1, hi, _⟩ => by simp [iterF] at hi) (fun n a1 w1 hI => ?_) (n := k) ⟨S, h, hs, hde, m, hg, hT, Evo.refl⟩
      obtain ⟨S1, hi, hen⟩ := hI
      simp only [iterF, Option.bind_eq_some_iff] at hi
      obtain ⟨⟨x2, S2⟩, h1, h2⟩ := hi
      obtain ⟨g3, g4, m1, g1, g2, g5⟩ : Ends P B w0 nt S (keepF n0 lm b S1) m w a1 w1 := keep_ends hn0 _ (finH_ends _ hen)
      refine wp_mono (ih b h1 g1 g2 g3 g4 hd) (fun e a2 w2 he => ?_)
      obtain ⟨rfl, hs2, hde2, m2, q1, q2, q3⟩ := he
      have hev := g5.trans q3
      cases x2 with
      | norm => exact ⟨S2, h2, hs2, hde2, m2, q1, q2, hev⟩
      | exit id =>
        simp only [Option.some.injEq, Prod.mk.injEq] at h2
        obtain ⟨rfl, rfl⟩ := h2
        exact ⟨rfl, hs2, hde2, m2, q1, q2, hev⟩
      | ret =>
        simp only [Option.some.injEq, Prod.mk.injEq] at h2
        obtain ⟨rfl, rfl⟩ := h2
        exact ⟨rfl, hs2, hde2, m2, q1, q2, hev⟩
    simp only [Option.bind_eq_some_iff, Option.some.injEq, Prod.mk.injEq] at h
    obtain ⟨⟨x0, S0⟩, h, hxx, rfl⟩ := h
    simp only at hxx
    subst hxx
    suffices hW : (Code.loop c).wp P (fun e a' w' => e = exitOf x0 ∧ Ends P B w0 nt S S0 m w a' w') a w by
      refine wp_mono hW (fun e a1 w1 he => ?_)
      obtain ⟨rfl, hs1, hde1, m1, q1, q2, q3⟩ := he
      have hsub : Sub S0.mem (keep n0 (lm b) S0).mem := Sub.take _ _
      refine ⟨rfl, hs1, hde1, m1, hsub.good (by have h6 := q1.fst; show (S0.mem.take (n0 + (lm b).2))[0]? = _; rw [List.getElem?_take, if_pos (by omega)]; exact h6) q1, fun t tv ht => (q2 t tv (look_keep _ _ _ _ ht)).evo hsub.evo, q3.trans (hsub.evo (ep := S0.ep))⟩
    refine wp_loop_fuel (fun n a1 w1 => ∃ S1 m1, iter (fun S => exec P cal k n0 lm b c (keep n0 (lm b) S)) n S1 = some (x0, S0) ∧ Good P.cellsOf B w0 S1.mem S1.ep m1 w1 ∧ Tms P.cellsOf S1 m1 w1 a1.tmps ∧ a1.tmps.size = nt ∧ a1.defers = [] ∧ Evo S.ep S1.ep S.mem S1.mem m m1 w w1)
      (fun a1 w1 ⟨S1, m1, hi, _⟩ => by simp [iter] at hi) (fun n a1 w1 hI => ?_) (n := k) ⟨S, m, h, hg, hT, hs, hde, Evo.refl⟩
    obtain ⟨S1, m1, hi, g1, g2, g3, g4, g5⟩ := hI
    simp only [iter, Option.bind_eq_some_iff] at hi
    obtain ⟨⟨x2, S2⟩, h1, h2⟩ := hi
    have hsub : Sub S1.mem (keep n0 (lm b) S1).mem := Sub.take _ _
    have hTk : Tms P.cellsOf (keep n0 (lm b) S1) m1 w1 a1.tmps := fun t tv ht => (g2 t tv (look_keep _ _ _ _ ht)).evo hsub.evo
    refine wp_mono (ih b h1 (hsub.good (by have h6 := g1.fst; show (S1.mem.take (n0 + (lm b).2))[0]? = _; rw [List.getElem?_take, if_pos (by omega)]; exact h6) g1) hTk g3 g4 hd) (fun e a2 w2 he => ?_)
    obtain ⟨rfl, hs2, hde2, m2, q1, q2, q3⟩ := he
    have hev : Evo S.ep S2.ep S.mem S2.mem m m2 w w2 := (g5.trans (hsub.evo (ep := S1.ep))).trans q3
    cases x2 with
    | norm => exact ⟨S2, m2, h2, q1, q2, hs2, hde2, hev⟩
    | exit id =>
      simp only [Option.some.injEq, Prod.mk.injEq] at h2
      obtain ⟨rfl, rfl⟩ := h2
      exact ⟨rfl, hs2, hde2, m2, q1, q2, hev⟩
    | ret =>
      simp only [Option.some.injEq, Prod.mk.injEq] at h2
      obtain ⟨rfl, rfl⟩ := h2
      exact ⟨rfl, hs2, hde2, m2, q1, q2, hev⟩
  | exit id =>
    intro b S x S' m w a h hg hT hs hde hd
    simp only [exec, Option.some.injEq, Prod.mk.injEq] at h
    obtain ⟨rfl, rfl⟩ := h
    exact wp_exit ⟨rfl, hs, hde, m, hg, hT, Evo.refl⟩
  | ret =>
    intro b S x S' m w a h hg hT hs hde hd
    simp only [exec, Option.some.injEq, Prod.mk.injEq] at h
    obtain ⟨rfl, rfl⟩ := h
    exact wp_ret ⟨rfl, hs, hde, m, hg, hT, Evo.refl⟩
  | _ =>
    intro b S x S' m w a h
    simp [exec] at h

/-- What a result stands for. -/
def resF (tmps : Array Value) : ResultVar → Sem Value
  | .tmp t => pure (tmps.getD t undef)
  | .cell a t => do loadVar t (← asAddr (tmps.getD a undef))
theorem resL_run {S : St} {m : Mp} {w : World} {tmps : Array Value} (hg : Good P.cellsOf B w0 S.mem S.ep m w) (hT : Tms P.cellsOf S m w tmps) : ∀ (l : List ResultVar) (tvs : List TV), resL P S l = some tvs →
    ∃ vs : List Value, (l.mapM (resF tmps)).run P w = .ok vs w ∧ vs.length = tvs.length ∧
      ∀ (j : Nat) (u : TV) (y : Value), tvs[j]? = some u → vs[j]? = some y → RTV P.cellsOf S.mem S.ep m w u y := by
  intro l
  induction l with
  | nil => intro tvs h; simp only [resL, Option.some.injEq] at h; subst h; exact ⟨[], by simp, rfl, by simp⟩
  | cons x l ih =>
    intro tvs h
    simp only [resL, Option.bind_eq_some_iff, Option.some.injEq] at h
    obtain ⟨tv, htv, tvs', htvs, rfl⟩ := h
    obtain ⟨vs, h1, h2, h3⟩ := ih tvs' htvs
    have fin : ∀ (v : Value), (resF tmps x).run P w = .ok v w → RTV P.cellsOf S.mem S.ep m w tv v →
        ∃ vs : List Value, ((x :: l).mapM (resF tmps)).run P w = .ok vs w ∧ vs.length = (tv :: tvs').length ∧
          ∀ (j : Nat) (u : TV) (y : Value), (tv :: tvs')[j]? = some u → vs[j]? = some y → RTV P.cellsOf S.mem S.ep m w u y := by
      intro v hv hr
      refine ⟨v :: vs, ?_, by simp [h2], fun j u y a b => ?_⟩
      · rw [List.mapM_cons]
        simp only [Sem.run_bind, hv, Result.andThen_ok, h1, Sem.run_pure]
      · cases j with
        | zero => simp at a b; subst a; subst b; exact hr
        | succ j => simp at a b; exact h3 j u y a b
    cases x with
    | tmp t => exact fin _ rfl (hT t tv htv)
    | cell a T =>
      simp only [resV] at htv
      split at htv
      · cases htv
      · rename_i h0
        simp only [Option.bind_eq_some_iff] at htv
        obtain ⟨p, hp, hl⟩ := htv
        have hrp : RV P.cellsOf S.mem S.ep m w p (tmps.getD a undef) := by
          unfold ev1 at hp
          split at hp
          · rename_i v' he
            simp only [Option.some.injEq] at hp
            subst hp
            have := hT a _ he
            cases this with
            | one h => exact h
          · cases hp
        obtain ⟨v, hv, hr⟩ := loadV_run hg hrp hl h0
        refine fin v ?_ hr
        have := hv w (Ext.refl w)
        unfold Instr.loadAt at this
        show (do loadVar T (← asAddr (tmps.getD a undef)) : Sem Value).run P w = .ok v w
        generalize tmps.getD a undef = y at this hrp ⊢
        cases y with
        | pointer o =>
          cases o with
          | none => simp [Instr.sureAddr, stuck, Sem.run] at this
          | some ad => simpa [Instr.sureAddr, asAddr] using this
        | _ => simp [Instr.sureAddr, stuck, Sem.run] at this

theorem slots_look : ∀ (args : List TV) (k t : Nat) (v : TV), look (slots k args) t = some v → k ≤ t ∧ args[t - k]? = some v := by
  intro args
  induction args with
  | nil => intro k t v h; simp [slots, look] at h
  | cons x args ih =>
    intro k t v h
    simp only [slots, look] at h
    split at h
    · rename_i he
      subst he
      simpa using h
    · rename_i he
      obtain ⟨h1, h2⟩ := ih (k + 1) t v h
      refine ⟨by omega, ?_⟩
      obtain ⟨d, rfl⟩ : ∃ d, t = k + 1 + d := ⟨t - (k + 1), by omega⟩
      rw [show k + 1 + d - k = d + 1 from by omega]
      rw [show k + 1 + d - (k + 1) = d from by omega] at h2
      simpa using h2

/-- What a function's body does. -/
theorem body_sound (hcal : CalOk P B w0 cal) (hm : P.follows .mixedOrders = true) {f : Nat} {fn : Func} {c : Code} (hf : P.funcs[f]? = some fn) (hb : fn.body = some c) (hd : dsts fn.ntmps c = true) {args : List TV} {ys : Array Value} (hsz : ys.size ≤ fn.ntmps) (hl : ys.size = args.length)
    {k : Nat} {lm : Nat → List Nat × Nat} {mem : Mem} {ep : Nat} {r : TV × Mem × Nat} (h : body P cal k lm fn args mem ep = some r) {m : Mp} {w : World} (hg : Good P.cellsOf B w0 mem ep m w)
    (ha : ∀ (j : Nat) (v : TV) (y : Value), args[j]? = some v → ys[j]? = some y → RTV P.cellsOf mem ep m w v y) :
    Calls P f ys w fun e w' => ∃ v, e = .returned v ∧ ∃ m', RTV P.cellsOf r.2.1 r.2.2 m' w' r.1 v ∧ Good P.cellsOf B w0 r.2.1 r.2.2 m' w' ∧ Evo ep r.2.2 mem r.2.1 m m' w w' := by
  unfold body at h
  simp only [hb, Option.bind_some, Option.bind_eq_some_iff] at h
  obtain ⟨⟨x, S'⟩, hex, h⟩ := h
  obtain ⟨tv, htv, hr⟩ : ∃ tv, resT P (finH (lm 5000000) S') fn = some tv ∧ r = (tv, (finH (lm 5000000) S').mem, (finH (lm 5000000) S').ep) ∧ (x = .norm ∨ x = .ret) := by
    cases x with
    | exit id => cases h
    | norm =>
      simp only [Option.bind_eq_some_iff, Option.some.injEq] at h
      obtain ⟨v, hv, rfl⟩ := h
      exact ⟨v, hv, rfl, .inl rfl⟩
    | ret =>
      simp only [Option.bind_eq_some_iff, Option.some.injEq] at h
      obtain ⟨v, hv, rfl⟩ := h
      exact ⟨v, hv, rfl, .inr rfl⟩
  obtain ⟨rfl, hx⟩ := hr
  have hT : Tms P.cellsOf ⟨slots 0 args, mem, ep⟩ m w (ys ++ Array.replicate (fn.ntmps - ys.size) undef) := by
    intro t v ht
    obtain ⟨_, h2⟩ := slots_look _ _ _ _ ht
    simp only [Nat.sub_zero] at h2
    have hlt : t < ys.size := by rw [hl]; exact (List.getElem?_eq_some_iff.1 h2).1
    have e1 : (ys ++ Array.replicate (fn.ntmps - ys.size) undef).getD t undef = ys[t] := by
      simp [Array.getElem?_append_left hlt, hlt]
    rw [e1]
    exact ha t v _ h2 (Array.getElem?_eq_getElem hlt)
  refine calls_of_wp hf hb (wp_mono (exec_sound (nt := fn.ntmps) hcal hm (List.getElem?_eq_some_iff.1 hg.fst).1 c 0 hex hg hT (by simp; omega) rfl hd) (fun e a' w' he => ?_))
  obtain ⟨rfl, hen⟩ := he
  obtain ⟨hs', hde', m', g1, g2, g3⟩ := finH_ends (lm 5000000) hen
  generalize finH (lm 5000000) S' = S' at g1 g2 g3 htv ⊢
  have key : ∃ v, (results fn a'.tmps).run P w' = .ok v w' ∧ RTV P.cellsOf S'.mem S'.ep m' w' tv v := by
    unfold resT at htv
    simp only [Option.bind_eq_some_iff] at htv
    obtain ⟨tvs, htvs, htv⟩ := htv
    obtain ⟨vs, h1, h2, h3⟩ := resL_run g1 g2 _ _ htvs
    have hres : results fn a'.tmps = (do let vs ← fn.results.mapM (resF a'.tmps); pure (if h : vs.size = 1 then vs[0] else .tuple vs)) := rfl
    rw [hres, Array.mapM_eq_mapM_toList]
    refine ⟨if h : vs.toArray.size = 1 then vs.toArray[0] else .tuple vs.toArray, ?_, ?_⟩
    · simp only [Sem.run_bind, Sem.run_map, h1]
      rfl
    · split at htv
      · rename_i v
        simp only [Option.some.injEq] at htv
        subst htv
        obtain ⟨y, rfl⟩ : ∃ y, vs = [y] := List.length_eq_one_iff.1 (by simpa using h2)
        exact h3 0 v y rfl rfl
      · rename_i hne
        simp only [Option.some.injEq] at htv
        subst htv
        have : ¬ vs.toArray.size = 1 := by
          intro h1
          rw [List.size_toArray, h2] at h1
          obtain ⟨v, rfl⟩ := List.length_eq_one_iff.1 h1
          exact hne v rfl
        rw [dif_neg this]
        exact .tup (by simpa using h2) (fun j u y a b => h3 j u y a (by simpa using b))
  obtain ⟨v, hv, hr⟩ := key
  rcases hx with rfl | rfl
  · exact ⟨hde', v, hv, v, rfl, m', hr, g1, g3⟩
  · exact ⟨hde', v, hv, v, rfl, m', hr, g1, g3⟩
end
end Go.Proofs.Ytanglbgincgmaaa.Vm

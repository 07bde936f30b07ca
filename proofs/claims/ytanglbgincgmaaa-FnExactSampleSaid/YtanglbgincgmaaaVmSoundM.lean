/-
  The small machine is true to the model: literals of structs and arrays.
-/
import Derived.Test.YtanglbgincgmaaaVmSoundL
namespace Go.Proofs.Ytanglbgincgmaaa.Vm
open Go Go.RowKit
set_option linter.unusedVariables false
section
variable {P : Program} {S : St} {m : Mp} {w w' w0 : World} {a : Act} {B : Nat} {z : Nat → Nat} {mem mem1 mem' : Mem} {ep ep' : Nat}

theorem fillV_rep (hT : Tms P.cellsOf S m w a.tmps) (place : Nat → Option (Nat × Nat)) : ∀ (parts : List (Nat × Operand)) (ps : List (Nat × List V)) (cells out : List V) (cs : Array Value), partsV S parts = some ps → cs.size = cells.length →
    (∀ (j : Nat) (u : V) (y : Value), cells[j]? = some u → cs[j]? = some y → RV P.cellsOf S.mem S.ep m w u y) → fillV place cells ps = some out →
    ∃ out', Instr.fill place cs (parts.map fun p => (p.1, a.eval p.2)) = some out' ∧ out'.size = out.length ∧ ∀ (j : Nat) (u : V) (y : Value), out[j]? = some u → out'[j]? = some y → RV P.cellsOf S.mem S.ep m w u y := by
  intro parts
  induction parts with
  | nil =>
    intro ps cells out cs hp hs hr h
    simp only [partsV, Option.some.injEq] at hp
    subst hp
    simp only [fillV, Option.some.injEq] at h
    subst h
    exact ⟨cs, rfl, hs, hr⟩
  | cons p parts ih =>
    intro ps cells out cs hp hs hr h
    obtain ⟨i, x⟩ := p
    simp only [partsV, Option.bind_eq_some_iff, Option.some.injEq] at hp
    obtain ⟨tv, htv, l, hl, r, hrest, rfl⟩ := hp
    simp only [fillV, Option.bind_eq_some_iff] at h
    obtain ⟨⟨off, size⟩, hpl, h⟩ := h
    split at h
    · rename_i hc
      obtain ⟨hc1, hc2⟩ := hc
      simp only at hc1 hc2
      obtain ⟨hs2, hr2⟩ := cells_rtv (ev_rtv hT htv) hl
      have hle : off + (a.eval x).cells.size ≤ cs.size := by omega
      have hput := put_toList (a.eval x) off cs hle
      have hseg : (cs.toList.take off ++ (a.eval x).cells.toList ++ cs.toList.drop (off + (a.eval x).cells.size)).length = cs.size := by simp; omega
      have hcl : (a.eval x).cells.toList.length = (a.eval x).cells.size := Array.length_toList
      have hcl2 : cs.toList.length = cs.size := Array.length_toList
      obtain ⟨out', h1, h2, h3⟩ := ih r (putL cells off l) out ((a.eval x).cells.zipIdx.foldl (fun cs (p : Value × Nat) => cs.setIfInBounds (off + p.2) p.1) cs) hrest (by
        rw [putL_seg _ _ _ hc2, seg_len hc2, ← Array.length_toList, hput, hseg, hs]) (fun j u y hu hy => by
        rw [putL_seg _ _ _ hc2] at hu
        rw [← Array.getElem?_toList, hput, ← hcl] at hy
        rcases seg_get hc2 hu with ⟨q1, q2⟩ | ⟨d, rfl, q2⟩
        · rcases seg_get (by omega) hy with ⟨q3, q4⟩ | ⟨d, q3, q4⟩
          · exact hr j u y q2 (by simpa using q4)
          · have := (List.getElem?_eq_some_iff.1 q4).1
            omega
        · have hlt := (List.getElem?_eq_some_iff.1 q2).1
          rcases seg_get (by omega) hy with ⟨q3, q4⟩ | ⟨d', q3, q4⟩
          · omega
          · have : d' = d := by omega
            subst this
            exact hr2 _ u y q2 (by simpa using q4)) h
      refine ⟨out', ?_, h2, h3⟩
      simp only [List.map_cons]
      unfold Instr.fill
      simp only [hpl]
      rw [if_neg (by simp; omega)]
      exact h1
    · cases h

theorem step_build (hg : Good P.cellsOf B w0 S.mem S.ep m w) (hT : Tms P.cellsOf S m w a.tmps) {o : Oper} {T : Nat} {parts : Array (Nat × Operand)} {r : TV × Mem × Nat} (ho : o.op = .build T parts) (h : stepOp P S o = some r) : StepOk P B w0 S m w a o r := by
  unfold stepOp at h
  simp only [ho, Option.bind_eq_some_iff] at h
  obtain ⟨zs, hzs, ps, hps, d, hd, h⟩ := h
  obtain ⟨vz, hvz, hz1, hz2⟩ := zeroV_run hzs w
  obtain ⟨hsz, hrz⟩ := zeroV_rv (z := P.cellsOf) (mem := S.mem) (ep := S.ep) (m := m) (w := w) (T := T) hz1 hz2
  obtain ⟨it, hit, _⟩ := info_some hd
  have hzero : it.zero = some vz := by
    unfold zeroValue typeInfo at hvz
    simp [hit] at hvz
    cases hiz : it.zero with
    | none => rw [hiz] at hvz; simp [unsupported, Sem.run] at hvz
    | some v => rw [hiz] at hvz; simp at hvz; rw [hvz]
  have fin : ∀ (out : List V) (out' : Array Value), P.built T (parts.map fun (p : Nat × Operand) => (p.1, a.eval p.2)).toList = some out' → out'.size = out.length → (∀ (j : Nat) (u : V) (y : Value), out[j]? = some u → out'[j]? = some y → RV P.cellsOf S.mem S.ep m w u y) →
      StepOk P B w0 S m w a o (.agg out, S.mem, S.ep) := by
    intro out out' hb h1 h2
    refine StepOk.value hg (s := Instr.build T (parts.map fun (p : Nat × Operand) => (p.1, a.eval p.2))) (by unfold execOp; simp only [ho]) (fun w' _ => run_build w' T _ out' hb) (.agg h1 h2)
  split at h
  · rename_i fs
    simp only [Option.bind_eq_some_iff, Option.some.injEq] at h
    obtain ⟨places, hpl, out, hf, rfl⟩ := h
    obtain ⟨out', h1, h2, h3⟩ := fillV_rep hT (places[·]?) parts.toList ps zs out vz.cells hps hsz hrz hf
    refine fin out out' ?_ h2 h3
    unfold Program.built
    rw [hit, hd]
    simp only [hzero, hpl]
    simpa using h1
  · rename_i n e
    simp only [Option.bind_eq_some_iff, Option.some.injEq] at h
    obtain ⟨ie, hie, out, hf, rfl⟩ := h
    obtain ⟨out', h1, h2, h3⟩ := fillV_rep hT _ parts.toList ps zs out vz.cells hps hsz hrz hf
    refine fin out out' ?_ h2 h3
    unfold Program.built
    rw [hit, hd]
    simp only [hzero, hie]
    simpa using h1
  · cases h

theorem step_nilCheck (hg : Good P.cellsOf B w0 S.mem S.ep m w) (hT : Tms P.cellsOf S m w a.tmps) {o : Oper} {x : Operand} {r : TV × Mem × Nat} (ho : o.op = .nilCheck x) (h : stepOp P S o = some r) : StepOk P B w0 S m w a o r := by
  unfold stepOp at h
  simp only [ho, Option.bind_eq_some_iff] at h
  obtain ⟨p, hp, h⟩ := h
  have hrv := ev1_rv hT hp
  split at h
  · rename_i g first cap
    simp only [Option.some.injEq] at h
    subst h
    refine StepOk.quiet hg (v := a.eval x) (fun w' _ => ?_) (.one hrv)
    generalize a.eval x = y at hrv
    cases hrv with
    | lit hc =>
      unfold execOp
      simp only [ho]
      have : a.eval x = .func (.func g) first cap := (evL_eq hT (by unfold evL; rw [hp])).1
      rw [this]
      rfl
  · simp only [Option.some.injEq] at h
    subst h
    refine StepOk.quiet hg (v := a.eval x) (fun w' _ => ?_) (.one hrv)
    generalize hy : a.eval x = y at hrv
    cases hrv with
    | cl hn hh =>
      unfold execOp
      simp only [ho, hy]
      rfl
  · simp only [Option.bind_eq_some_iff, Option.some.injEq] at h
    obtain ⟨q, hq, rfl⟩ := h
    obtain ⟨ad, hy, _⟩ := ptrAdd_rv hg hrv hq
    refine StepOk.quiet hg (v := a.eval x) (fun w' _ => ?_) (.one hrv)
    unfold execOp
    simp only [ho, hy]
    rfl

theorem ev1s_rv (hT : Tms P.cellsOf S m w a.tmps) : ∀ (xs : List Operand) (vs : List V), ev1s S xs = some vs → vs.length = xs.length ∧ ∀ (j : Nat) (v : V) (x : Operand), vs[j]? = some v → xs[j]? = some x → RV P.cellsOf S.mem S.ep m w v (a.eval x) := by
  intro xs
  induction xs with
  | nil => intro vs h; simp only [ev1s, Option.some.injEq] at h; subst h; exact ⟨rfl, by simp⟩
  | cons x xs ih =>
    intro vs h
    simp only [ev1s, Option.bind_eq_some_iff, Option.some.injEq] at h
    obtain ⟨v, hv, vs', hvs, rfl⟩ := h
    obtain ⟨h1, h2⟩ := ih vs' hvs
    refine ⟨by simp [h1], fun j u y hu hy => ?_⟩
    cases j with
    | zero => simp at hu hy; subst hu; subst hy; exact ev1_rv hT hv
    | succ j => simp at hu hy; exact h2 j u y hu hy
theorem step_makeFunc (hg : Good P.cellsOf B w0 S.mem S.ep m w) (hT : Tms P.cellsOf S m w a.tmps) {o : Oper} {fn : Fn} {first captured : Array Operand} {r : TV × Mem × Nat} (ho : o.op = .makeFunc fn first captured) (h : stepOp P S o = some r) : StepOk P B w0 S m w a o r := by
  unfold stepOp at h
  simp only [ho] at h
  split at h
  · rename_i g
    split at h
    · rename_i hf
      simp only [Option.bind_eq_some_iff, Option.some.injEq] at h
      obtain ⟨cs, hcs, rfl⟩ := h
      obtain ⟨e1, e2⟩ := ev1s_rv hT _ _ hcs
      have hf : first = #[] := Array.eq_empty_of_size_eq_zero hf
      subst hf
      refine StepOk.quiet hg (v := .func (.func g) #[] (captured.map a.eval)) (fun w' _ => ?_) (.one (.cl (by simp [e1]) (fun j u y hu hy => ?_)))
      · unfold execOp
        simp only [ho]
        simp [Instr.makeFunc]
      · rw [Array.getElem?_map] at hy
        obtain ⟨x, hx, rfl⟩ := Option.map_eq_some_iff.1 hy
        exact e2 j u x hu (by simpa using hx)
    · cases h
  · cases h
/-- All that yields a value. -/
theorem bytesR_some : ∀ (rs : List (List V)) (l : List Int), bytesR rs = some l → rs = l.map fun n => [.lit (.int .u8 n)] := by
  intro rs
  induction rs with
  | nil => intro l h; simp only [bytesR, Option.some.injEq] at h; subst h; rfl
  | cons r rs ih =>
    intro l h
    simp only [bytesR] at h
    split at h
    · simp only [Option.bind_eq_some_iff, Option.some.injEq] at h
      obtain ⟨l', h1, rfl⟩ := h
      rw [ih l' h1]
      rfl
    · cases h
theorem bytesV_run (hg : Good P.cellsOf B w0 S.mem S.ep m w) {src dst : Nat} {v : V} {y : Value} (hv : RV P.cellsOf S.mem S.ep m w v y) {l : List Int} (h : bytesV P S.mem src dst v = some l) :
    ∀ w', Ext w w' → (convert src dst y).run P w' = .ok (.string (strOfNums l)) w' := by
  intro w' hw
  unfold bytesV at h
  simp only [Option.bind_eq_some_iff] at h
  obtain ⟨d, hd, h⟩ := h
  split at h
  · rename_i e
    simp only [Option.bind_eq_some_iff] at h
    obtain ⟨d1, hc1, h⟩ := h
    split at h
    rotate_left
    · cases h
    simp only [Option.bind_eq_some_iff] at h
    obtain ⟨d2, hc2, h⟩ := h
    split at h
    rotate_left
    · cases h
    split at h
    · rename_i hc3
      simp only [Option.bind_eq_some_iff] at h
      obtain ⟨⟨rows, mem1⟩, hin, hb⟩ := h
      have hb := bytesR_some _ _ hb
      simp only at hb
      obtain ⟨A, c, cells, D, f, rfl, hlen, hone, hrow, hat, hfold⟩ := rowsIn_rep hg hv (by omega) hin
      have hcells : cells = l.map (Value.int .u8) := by
        apply List.ext_getElem?
        intro i
        rcases Nat.lt_or_ge i l.length with hi | hi
        · have hr1 : rows[i]? = some [.lit (.int .u8 l[i])] := by rw [hb]; simp [hi]
          have hi2 : i < cells.length := by rw [hlen, hb]; simp [hc3, hi]
          have hk := fun y hy => hfold.rep i 0 _ (.lit (.int .u8 l[i])) y hr1 rfl hy
          obtain ⟨y, hy⟩ : ∃ y, cells[i]? = some y := ⟨_, List.getElem?_eq_getElem hi2⟩
          have hk2 := hk y (by simpa [hc3] using hy)
          cases hk2 with
          | lit _ => rw [hy]; simp [hi]
        · rw [List.getElem?_eq_none (by rw [hlen, hb]; simp [hc3]; omega), List.getElem?_eq_none (by simpa using hi)]
      have hrl : rows.length = l.length := by rw [hb]; simp
      rw [run_convert_bytes_string w' src dst e _ _ _ hd hc1 hc2, hrl]
      cases A with
      | none =>
        have : l = [] := by
          cases l with
          | nil => rfl
          | cons x l =>
            obtain ⟨ad, h1, _⟩ := hat (by rw [hrl]; simp)
            cases h1
        subst this
        simp [Conv.bytesToString, strOfNums]
        rfl
      | some ad =>
        have hl : (loadCells ad l.length).run P w' = .ok (l.map (Value.int .u8)).toArray w' := by
          have := run_loadCells_list (P := P) w' ad (l.map (Value.int .u8)) (fun j v hj => by
            have hn : rows.length ≠ 0 := by
              rw [hrl]
              have := (List.getElem?_eq_some_iff.1 hj).1
              rw [List.length_map] at this
              omega
            obtain ⟨ad', h1, h2⟩ := hat hn
            simp only [Option.some.injEq] at h1
            subst h1
            exact hw.cell (h2 j v (by rw [hcells]; exact hj)))
          simpa using this
        rw [run_bytesToString w' ad l.length c l hl, foldl_push_bytes]
        simp [strOfNums, ByteArray.empty, ByteArray.emptyWithCapacity]
        rfl
    · cases h
  · cases h
theorem step_convert (hg : Good P.cellsOf B w0 S.mem S.ep m w) (hT : Tms P.cellsOf S m w a.tmps) {o : Oper} {s t : Nat} {x : Operand} {r : TV × Mem × Nat} (ho : o.op = .convert s t x) (h : stepOp P S o = some r) : StepOk P B w0 S m w a o r := by
  unfold stepOp at h
  simp only [ho, Option.bind_eq_some_iff] at h
  obtain ⟨vx, hx, h⟩ := h
  have he : execOp a.eval o = (do let y ← convert s t (a.eval x); pure (Next.value y)) := by
    unfold execOp
    simp only [ho]
  split at h
  · rename_i b
    simp only [Option.bind_eq_some_iff, Option.some.injEq] at h
    obtain ⟨v, hq, tv, hl, rfl⟩ := h
    obtain ⟨ex, _⟩ := evL_eq hT (x := x) (v := b) (by unfold evL; rw [hx])
    refine StepOk.value hg he (fun w' _ => ?_) (lift_rtv hl)
    rw [ex]
    exact quiet_run (show quiet P _ = some v from hq) w'
  · simp only [Option.bind_eq_some_iff, Option.some.injEq] at h
    obtain ⟨l, hl, rfl⟩ := h
    exact StepOk.value hg he (bytesV_run hg (ev1_rv hT hx) hl) (.one (.lit rfl))
theorem step_sound (hg : Good P.cellsOf B w0 S.mem S.ep m w) (hT : Tms P.cellsOf S m w a.tmps) {o : Oper} {r : TV × Mem × Nat} (h : stepOp P S o = some r) : StepOk P B w0 S m w a o r := by
  cases ho : o.op with
  | move x =>
    refine step_move hg hT (.inl ho) (?_ : ((ev S x).bind fun v => some (v, S.mem, S.ep)) = some r)
    unfold stepOp at h
    simp only [ho] at h
    exact h
  | assign x =>
    refine step_move hg hT (.inr ho) (?_ : ((ev S x).bind fun v => some (v, S.mem, S.ep)) = some r)
    unfold stepOp at h
    simp only [ho] at h
    exact h
  | pick c x y => exact step_pick hg hT ho h
  | alloc T => exact step_alloc hg hT ho h
  | box T x => exact step_box hg hT ho h
  | build T parts => exact step_build hg hT ho h
  | buildSlice T len parts => exact step_buildSlice hg hT ho h
  | load T x =>
    have hz : P.cellsOf T ≠ 0 := by
      unfold stepOp at h
      simp only [ho] at h
      intro h0
      rw [if_pos h0] at h
      cases h
    refine step_load hg hT ho h hz
  | binOp op T x y t => exact step_binOp hg hT ho h
  | unOp op T x => exact step_unOp hg hT ho h
  | convert s t x => exact step_convert hg hT ho h
  | makeSlice T l c => exact step_makeSlice hg hT ho h
  | slice T x lo hi mx =>
    cases mx with
    | none => exact step_slice hg hT ho h
    | some y =>
      unfold stepOp at h
      simp only [ho] at h
      cases h
  | fieldAddr T x f => exact step_fieldAddr hg hT ho h
  | field T x f => exact step_field hg hT ho h
  | indexAddr T x i => exact step_indexAddr hg hT ho h
  | index T x i => exact step_index hg hT ho h
  | extract x i => exact step_extract hg hT ho h
  | nilCheck x => exact step_nilCheck hg hT ho h
  | makeFunc fn first cap => exact step_makeFunc hg hT ho h
  | call c =>
    unfold stepOp at h
    simp only [ho] at h
    split at h
    · rename_i b hb
      by_cases hna : b = .append
      · subst hna
        exact step_append hg hT ho hb h
      · exact step_B hg hT ho hb hna h
    · cases h
  | _ =>
    unfold stepOp at h
    simp only [ho] at h
    cases h
end
end Go.Proofs.Ytanglbgincgmaaa.Vm

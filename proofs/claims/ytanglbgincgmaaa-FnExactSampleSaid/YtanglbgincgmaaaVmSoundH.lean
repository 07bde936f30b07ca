/-
  The small machine is true to the model: slices that are written out or made.
-/
import Derived.Test.YtanglbgincgmaaaVmSoundG
import Derived.Laws.OwnMore
namespace Go.Proofs.Ytanglbgincgmaaa.Vm
open Go Go.RowKit
set_option linter.unusedVariables false
section
variable {P : Program} {S : St} {m : Mp} {w w' w0 : World} {a : Act} {B : Nat} {z : Nat → Nat} {mem mem1 : Mem} {ep : Nat}

theorem foldl_put (off : Nat) : ∀ (l : List Value) (k : Nat) (cs : Array Value), off + k + l.length ≤ cs.size →
    ((l.zipIdx k).foldl (fun cs (p : Value × Nat) => cs.setIfInBounds (off + p.2) p.1) cs).toList = cs.toList.take (off + k) ++ l ++ cs.toList.drop (off + k + l.length) := by
  intro l
  induction l with
  | nil => intro k cs h; simp
  | cons v l ih =>
    intro k cs h
    simp only [List.zipIdx_cons, List.foldl_cons]
    rw [ih (k + 1) _ (by simp at h ⊢; omega)]
    simp only [Array.toList_setIfInBounds, List.length_cons] at h ⊢
    have h1 : off + k < cs.toList.length := by simp; omega
    have e1 : (cs.toList.set (off + k) v).take (off + (k + 1)) = cs.toList.take (off + k) ++ [v] := by
      rw [show off + (k + 1) = off + k + 1 from by omega, List.take_succ_eq_append_getElem (by simpa using h1), List.take_set_of_le (Nat.le_refl _)]
      simp
    have e2 : (cs.toList.set (off + k) v).drop (off + (k + 1) + l.length) = cs.toList.drop (off + k + (l.length + 1)) := by
      rw [List.drop_set_of_lt (by omega), show off + (k + 1) + l.length = off + k + (l.length + 1) from by omega]
    rw [e1, e2]
    simp
theorem put_toList (v : Value) (off : Nat) (cs : Array Value) (h : off + v.cells.size ≤ cs.size) :
    (v.cells.zipIdx.foldl (fun cs (p : Value × Nat) => cs.setIfInBounds (off + p.2) p.1) cs).toList = cs.toList.take off ++ v.cells.toList ++ cs.toList.drop (off + v.cells.size) := by
  rw [← Array.foldl_toList, Array.toList_zipIdx]
  have := foldl_put off v.cells.toList 0 cs (by simpa using h)
  simpa using this
theorem fill_all (n : Nat) : ∀ (ps : List (Nat × Value)) (k : Nat) (cs : Array Value), (∀ (i : Nat) (p : Nat × Value), ps[i]? = some p → p.1 = k + i ∧ p.2.cells.size = n) → (k + ps.length) * n ≤ cs.size →
    ∃ cs', Instr.fill (fun i => some (i * n, n)) cs ps = some cs' ∧ cs'.toList = cs.toList.take (k * n) ++ (ps.map (·.2.cells.toList)).flatten ++ cs.toList.drop ((k + ps.length) * n) := by
  intro ps
  induction ps with
  | nil => intro k cs hp h; exact ⟨cs, rfl, by simp⟩
  | cons p ps ih =>
    intro k cs hp h
    obtain ⟨h1, h2⟩ := hp 0 p rfl
    obtain ⟨i, v⟩ := p
    simp only [Nat.add_zero] at h1
    subst h1
    have hle : i * n + v.cells.size ≤ cs.size := by
      simp only at h2
      rw [h2]
      have : (i + 1) * n ≤ (i + (ps.length + 1)) * n := Nat.mul_le_mul_right _ (by omega)
      rw [Nat.succ_mul] at this
      simp only [List.length_cons] at h
      omega
    have hput := put_toList v (i * n) cs hle
    obtain ⟨cs', hf, hl⟩ := ih (i + 1) (v.cells.zipIdx.foldl (fun cs (p : Value × Nat) => cs.setIfInBounds (i * n + p.2) p.1) cs) (fun j q hq => by
      have := hp (j + 1) q (by simpa using hq)
      exact ⟨by omega, this.2⟩) (by
        have : (v.cells.zipIdx.foldl (fun cs (p : Value × Nat) => cs.setIfInBounds (i * n + p.2) p.1) cs).size = cs.size := by
          have h3 : (v.cells.zipIdx.foldl (fun cs (p : Value × Nat) => cs.setIfInBounds (i * n + p.2) p.1) cs).toList.length = cs.toList.length := by
            rw [hput]
            simp only [List.length_append, List.length_take, List.length_drop, Array.length_toList]
            omega
          rw [← Array.length_toList, h3, Array.length_toList]
        rw [this]
        simp only [List.length_cons] at h
        rw [show i + 1 + ps.length = i + (ps.length + 1) from by omega]
        exact h)
    refine ⟨cs', ?_, ?_⟩
    · unfold Instr.fill
      simp only at h2
      simp only [h2]
      rw [if_neg (by simp; omega)]
      exact hf
    · rw [hl, hput]
      simp only at h2
      have e1 : (i + 1) * n = i * n + v.cells.size := by rw [h2, Nat.succ_mul]
      have e2 : (i + 1 + ps.length) * n = (i + (ps.length + 1)) * n := by rw [show i + 1 + ps.length = i + (ps.length + 1) from by omega]
      have hL : (cs.toList.take (i * n) ++ v.cells.toList).length = (i + 1) * n := by
        rw [e1, List.length_append, List.length_take, Array.length_toList, Array.length_toList]
        omega
      rw [List.take_append_of_le_length (by omega), List.take_of_length_le (by omega), List.map_cons, List.flatten_cons]
      have hD : (cs.toList.take (i * n) ++ v.cells.toList ++ cs.toList.drop (i * n + v.cells.size)).drop ((i + 1 + ps.length) * n) = cs.toList.drop ((i + (ps.length + 1)) * n) := by
        have h4 : (i + 1) * n ≤ (i + 1 + ps.length) * n := Nat.mul_le_mul_right _ (by omega)
        rw [List.drop_append, hL, List.drop_of_length_le (by omega), List.nil_append, List.drop_drop, ← e1, e2]
        congr 1
        omega
      rw [hD]
      simp [List.append_assoc]

theorem elems_rep (hT : Tms P.cellsOf S m w a.tmps) (n : Nat) : ∀ (ps : List (Nat × Operand)) (k : Nat) (rs : List (List V)), elemsV S n k ps = some rs →
    rs.length = ps.length ∧ (∀ (i : Nat) (p : Nat × Operand), ps[i]? = some p → p.1 = k + i ∧ (a.eval p.2).cells.size = n) ∧ (∀ row ∈ rs, row.length = n) ∧
    ∀ (i : Nat) (row : List V) (p : Nat × Operand), rs[i]? = some row → ps[i]? = some p → ∀ (j : Nat) (u : V) (y : Value), row[j]? = some u → (a.eval p.2).cells.toList[j]? = some y → RV P.cellsOf S.mem S.ep m w u y := by
  intro ps
  induction ps with
  | nil =>
    intro k rs h
    simp only [elemsV, Option.some.injEq] at h
    subst h
    exact ⟨rfl, by simp, by simp, by simp⟩
  | cons p ps ih =>
    intro k rs h
    obtain ⟨i, x⟩ := p
    simp only [elemsV] at h
    split at h
    · rename_i hik
      simp only [Option.bind_eq_some_iff] at h
      obtain ⟨tv, htv, cs, hcs, h⟩ := h
      split at h
      · rename_i hl
        simp only [Option.bind_eq_some_iff, Option.some.injEq] at h
        obtain ⟨r, hr, rfl⟩ := h
        obtain ⟨h1, h2, h3, h4⟩ := ih (k + 1) r hr
        obtain ⟨hs, hh⟩ := cells_rtv (ev_rtv hT htv) hcs
        refine ⟨by simp [h1], fun j q hq => ?_, fun row hrow => ?_, fun j row q hrow hq l u y hu hy => ?_⟩
        · cases j with
          | zero => simp at hq; subst hq; exact ⟨by simpa using hik, by simpa [hl] using hs⟩
          | succ j =>
            simp at hq
            have := h2 j q hq
            exact ⟨by omega, this.2⟩
        · rcases List.mem_cons.1 hrow with rfl | h5
          · exact hl
          · exact h3 row h5
        · cases j with
          | zero => simp at hq hrow; subst hq; subst hrow; exact hh l u y hu (by simpa using hy)
          | succ j => simp at hq hrow; exact h4 j row q hrow hq l u y hu hy
      · cases h
    · cases h

theorem step_buildSlice (hg : Good P.cellsOf B w0 S.mem S.ep m w) (hT : Tms P.cellsOf S m w a.tmps) {o : Oper} {T len : Nat} {parts : Array (Nat × Operand)} {r : TV × Mem × Nat} (ho : o.op = .buildSlice T len parts) (h : stepOp P S o = some r) : StepOk P B w0 S m w a o r := by
  unfold stepOp at h
  simp only [ho, Option.bind_eq_some_iff] at h
  obtain ⟨d, hd, h⟩ := h
  split at h
  · rename_i e
    simp only [Option.bind_eq_some_iff] at h
    obtain ⟨zs, hzs, rs, hrs, ⟨rs', mem1⟩, hf, h⟩ := h
    split at h
    · rename_i hc
      obtain ⟨hc1, hc2, hc3, hc4⟩ := hc
      simp only [Option.some.injEq] at h
      subst h
      obtain ⟨h1, h2, h3, h4⟩ := elems_rep hT _ _ _ _ hrs
      obtain ⟨vz, hvz, hz1, hz2⟩ := zeroV_run hzs w
      have hzl : vz.cells.size = P.cellsOf e := by rw [hz1] at hc2; simpa using hc2
      let yss : List (List Value) := parts.toList.map fun p => (a.eval p.2).cells.toList
      have hyl : ∀ r ∈ yss, r.length = P.cellsOf e := by
        intro r hr
        obtain ⟨p, hp, rfl⟩ := List.mem_map.1 hr
        obtain ⟨i, hi⟩ := List.mem_iff_getElem?.1 hp
        simpa using (h2 i p hi).2
      obtain ⟨hl1, hl2, L, hF⟩ := foldR_rep rs yss S.mem mem1 rs' hg (by simp [yss, h1]) (fun i row ys hrow hys => by
        simp only [yss, List.getElem?_map] at hys
        obtain ⟨p, hp, rfl⟩ := Option.map_eq_some_iff.1 hys
        exact ⟨by rw [Array.length_toList, (h2 i p hp).2, h3 row (List.mem_of_getElem? hrow)], fun j u y hu hy => h4 i row p hrow hp j u y hu hy⟩) hf
      have hlen' : ∀ row ∈ rs', row.length = P.cellsOf e := by
        intro row hrow
        obtain ⟨i, hi⟩ := List.mem_iff_getElem?.1 hrow
        have hlt : i < rs.length := by rw [← hl1]; exact (List.getElem?_eq_some_iff.1 hi).1
        rw [hl2 i row _ hi (List.getElem?_eq_getElem hlt)]
        exact h3 _ (List.getElem_mem hlt)
      have hparts : (parts.map fun (p : Nat × Operand) => (p.1, a.eval p.2)).toList = parts.toList.map fun p => (p.1, a.eval p.2) := by simp
      obtain ⟨cs', hfill, hcs'⟩ := fill_all (P.cellsOf e) (parts.toList.map fun p => (p.1, a.eval p.2)) 0 ((Array.range (len * P.cellsOf e)).map (vz.cells[· % vz.cells.size]!)) (fun i p hp => by
        rw [List.getElem?_map] at hp
        obtain ⟨q, hq, rfl⟩ := Option.map_eq_some_iff.1 hp
        exact h2 i q hq) (by
        have hps : parts.size = len := by rw [← Array.length_toList, ← h1, hc4]
        simp [hps])
      have hlp : parts.toList.length = len := by rw [← h1]; exact hc4
      have hcs2 : cs'.toList = yss.flatten := by
        rw [hcs']
        simp only [Nat.zero_mul, List.take_zero, List.nil_append, List.length_map, Nat.zero_add, hlp]
        rw [List.drop_of_length_le (by simp)]
        simp [yss, List.map_map, Function.comp_def]
      have hflen : yss.flatten.length = len * P.cellsOf e := by rw [flatten_len yss hyl]; simp [yss, hlp]
      have hF' : FoldedL P.cellsOf m w S.mem mem1 rs' L (fun i j => yss.flatten[i * P.cellsOf e + j]?) := by
        refine ⟨hF.gone, fun i j row u y hrow hu hy => hF.rep i j row u y hrow hu ?_, hF.inj, hF.dead⟩
        have hi : i < yss.length := by
          have := (List.getElem?_eq_some_iff.1 hrow).1
          rw [hl1, h1] at this
          simpa [yss] using this
        have hj : j < P.cellsOf e := by
          have := (List.getElem?_eq_some_iff.1 hu).1
          rwa [hlen' row (List.mem_of_getElem? hrow)] at this
        rw [flatten_get yss hyl i j _ (List.getElem?_eq_getElem hi) hj] at hy
        rw [List.getElem?_eq_getElem hi]
        exact hy
      have hlr : rs'.length = len := by rw [hl1, hc4]
      obtain ⟨m', r1, r2, r3⟩ := rows_res hg (e := e) (cs := yss.flatten) (x := .slice (some ⟨w.heap.size, 0, none⟩) len len) (w' := w.alloc (.cells cs' e)) hF'.to hlen' (push_below _ _)
        (by
          rw [hlr]
          refine ⟨hflen, .inr ⟨w.heap.size, len, cs', rfl, Nat.zero_le _, push_at _ _, Nat.le_refl _, ?_, ?_, ?_⟩⟩
          · simp only [maxLen]
            have h6 : len ≤ len * P.cellsOf e := Nat.le_mul_of_pos_right _ (by omega)
            have h7 : len ≤ 16777216 := Nat.le_trans h6 hc1
            exact Nat.le_trans h7 (by decide)
          · rw [← Array.length_toList, hcs2]; exact hflen
          · rw [hcs2, List.take_of_length_le (by rw [hflen]; exact Nat.le_refl _)])
        (fun k hk => by simp [Value.ownBlock] at hk; omega)
      refine ⟨fun hq => by simp [quietKind, ho] at hq, _, _, ?_, fun _ => Ext.of_below (push_below _ _), m', r1, r2, r3⟩
      unfold execOp
      simp only [ho]
      refine run_value ?_
      unfold Instr.buildSlice
      have hnot : ¬ len * P.cellsOf e > 2 ^ 24 := by omega
      simp only [Sem.run_bind, run_underlying hd, Result.andThen_ok, run_size hc3, hnot, if_false, hparts]
      by_cases h0 : len * P.cellsOf e = 0
      · have hl0 : len = 0 := (Nat.mul_eq_zero.1 h0).resolve_right hc3
        subst hl0
        have hp0 : parts.toList = [] := List.length_eq_zero_iff.1 hlp
        rw [hp0] at hfill ⊢
        simp [Instr.fill] at hfill ⊢
        subst hfill
        have e0 : Array.range 0 = #[] := rfl
        simp [newRow, newObj, Sem.run, e0]
      · simp only [h0, if_false, Sem.run_bind, hvz, Result.andThen_ok, Sem.run_pure]
        rw [hfill]
        simp [newRow, newObj, Sem.run]
    · cases h
  · cases h
theorem step_makeSlice (hg : Good P.cellsOf B w0 S.mem S.ep m w) (hT : Tms P.cellsOf S m w a.tmps) {o : Oper} {T : Nat} {l c : Operand} {r : TV × Mem × Nat} (ho : o.op = .makeSlice T l c) (h : stepOp P S o = some r) : StepOk P B w0 S m w a o r := by
  unfold stepOp at h
  simp only [ho, Option.bind_eq_some_iff] at h
  obtain ⟨d, hd, h⟩ := h
  split at h
  · rename_i e
    simp only [Option.bind_eq_some_iff] at h
    obtain ⟨zs, hzs, vl, hvl, n, hn, vc, hvc, n', hn', h⟩ := h
    split at h
    · rename_i hc
      obtain ⟨rfl, hb, hm, hz, hz0⟩ := hc
      simp only [Option.some.injEq] at h
      subst h
      obtain ⟨el, _⟩ := evL_eq hT hvl
      obtain ⟨ec, _⟩ := evL_eq hT hvc
      rw [natOf_some hn] at el
      rw [natOf_some hn'] at ec
      obtain ⟨vz, hvz, hz1, hz2⟩ := zeroV_run hzs w
      obtain ⟨i, hi, hsz⟩ := info_of_cells hz0
      have hby : P.bytesOf e = i.bytes := by simp [Program.bytesOf, hi]
      have hzero : i.zero = some vz := by
        unfold zeroValue typeInfo at hvz
        simp [hi] at hvz
        cases hiz : i.zero with
        | none => rw [hiz] at hvz; simp [unsupported, Sem.run] at hvz
        | some v => rw [hiz] at hvz; simp at hvz; rw [hvz]
      have hzl : vz.cells.size = P.cellsOf e := by rw [hz1] at hz; simpa using hz
      obtain ⟨w', hrun, hown, hgrow⟩ := run_make_full (P := P) (w := w) 0 T e i vz (P.cellsOf e) hd hi hzero hsz.symm .i64 .i64 n (by rw [← hby, Nat.mul_comm]; omega) (by simp only [maxLen]; omega) (Nat.zero_le _)
      have hbel : Below w.heap.size w w' := ⟨hgrow.os, hgrow.tape, hgrow.output, hgrow.size, fun k hk => hgrow.block k hk (by simp)⟩
      have hcell : ∀ i j, i < n → j < P.cellsOf e → (madeCells vz.cells (n * P.cellsOf e)).toList[i * P.cellsOf e + j]? = vz.cells.toList[j]? := by
        intro i j hi hj
        have hlt : i * P.cellsOf e + j < n * P.cellsOf e := by
          have : (i + 1) * P.cellsOf e ≤ n * P.cellsOf e := Nat.mul_le_mul_right _ hi
          rw [Nat.succ_mul] at this
          omega
        have hmod : (i * P.cellsOf e + j) % vz.cells.size = j := by
          rw [hzl, Nat.mul_comm, Nat.mul_add_mod, Nat.mod_eq_of_lt hj]
        have hj' : j < vz.cells.size := by rw [hzl]; exact hj
        simp [madeCells, hlt, hmod, hj']
      have hF : FoldedR P.cellsOf m w S.mem S.mem (List.replicate n zs) (fun _ => False) (fun _ => (0, 0)) (fun i j => (madeCells vz.cells (n * P.cellsOf e)).toList[i * P.cellsOf e + j]?) := by
        refine ⟨Gone.refl _, fun i j row u y hrow hu hy => ?_, fun _ h => h.elim⟩
        have hi : i < n := by simpa using (List.getElem?_eq_some_iff.1 hrow).1
        have hrow' : row = zs := by
          rw [List.getElem?_replicate, if_pos hi] at hrow
          exact (Option.some.inj hrow).symm
        subst hrow'
        have hj : j < P.cellsOf e := by rw [← hz]; exact (List.getElem?_eq_some_iff.1 hu).1
        rw [hcell i j hi hj] at hy
        rw [hz1, List.getElem?_map, hy] at hu
        simp only [Option.map_some, Option.some.injEq] at hu
        subst hu
        exact .lit (hz2 _ (List.mem_of_getElem? hy))
      obtain ⟨m', r1, r2, r3⟩ := rows_res hg (e := e) (w' := w') hF (fun row hrow => by rw [(List.mem_replicate.1 hrow).2]; exact hz) hbel (by simpa using hown) (fun k hk => by simp [Value.ownBlock] at hk; omega)
      refine ⟨fun hq => by simp [quietKind, ho] at hq, _, _, ?_, fun _ => Ext.of_below hbel, m', r1, r2, r3⟩
      unfold execOp
      simp only [ho, el, ec]
      exact run_value hrun
    · cases h
  · cases h
end
end Go.Proofs.Ytanglbgincgmaaa.Vm

/-
  The small machine is true to the model: slices that are written out or made.
-/
import Derived.Test.YtanglbgincgmaaaVmSA
import Derived.Laws.OwnMore
import Derived.Laws.CopyRow
import Derived.Laws.CopyOwn
namespace Go.Proofs.Ytanglbgincgmaaa.Vm
open Go Go.RowKit
set_option linter.unusedVariables false
section
variable {P : Program} {S : St} {m : Mp} {w w' w0 : World} {a : Act} {B : Nat} {z : Nat → Nat} {mem mem1 : Mem} {ep : Nat}

theorem foldl_put (off : Nat) : ∀ (l : List Value) (k : Nat) (cs : Array Value), off + k + l.length ≤ cs.size →
    ((l.zipIdx k).foldl (fun cs (p : Value × Nat) => cs.setIfInBounds (off + p.2) p.1) cs).toList = cs.toList.take (off + k) ++ l ++ cs.toList.drop (off + k + l.length) := by
  intro l
  induction l with
  | nil => intro k cs h; simp
  | cons v l ih =>
    intro k cs h
    simp only [List.zipIdx_cons, List.foldl_cons]
    rw [ih (k + 1) _ (by simp at h ⊢; omega)]
    simp only [Array.toList_setIfInBounds, List.length_cons] at h ⊢
    have h1 : off + k < cs.toList.length := by simp; omega
    have e1 : (cs.toList.set (off + k) v).take (off + (k + 1)) = cs.toList.take (off + k) ++ [v] := by
      rw [show off + (k + 1) = off + k + 1 from by omega, List.take_succ_eq_append_getElem (by simpa using h1), List.take_set_of_le (Nat.le_refl _)]
      simp
    have e2 : (cs.toList.set (off + k) v).drop (off + (k + 1) + l.length) = cs.toList.drop (off + k + (l.length + 1)) := by
      rw [List.drop_set_of_lt (by omega), show off + (k + 1) + l.length = off + k + (l.length + 1) from by omega]
    rw [e1, e2]
    simp
theorem put_toList (v : Value) (off : Nat) (cs : Array Value) (h : off + v.cells.size ≤ cs.size) :
    (v.cells.zipIdx.foldl (fun cs (p : Value × Nat) => cs.setIfInBounds (off + p.2) p.1) cs).toList = cs.toList.take off ++ v.cells.toList ++ cs.toList.drop (off + v.cells.size) := by
  rw [← Array.foldl_toList, Array.toList_zipIdx]
  have := foldl_put off v.cells.toList 0 cs (by simpa using h)
  simpa using this
theorem fill_all (n : Nat) : ∀ (ps : List (Nat × Value)) (k : Nat) (cs : Array Value), (∀ (i : Nat) (p : Nat × Value), ps[i]? = some p → p.1 = k + i ∧ p.2.cells.size = n) → (k + ps.length) * n ≤ cs.size →
    ∃ cs', Instr.fill (fun i => some (i * n, n)) cs ps = some cs' ∧ cs'.toList = cs.toList.take (k * n) ++ (ps.map (·.2.cells.toList)).flatten ++ cs.toList.drop ((k + ps.length) * n) := by
  intro ps
  induction ps with
  | nil => intro k cs hp h; exact ⟨cs, rfl, by simp⟩
  | cons p ps ih =>
    intro k cs hp h
    obtain ⟨h1, h2⟩ := hp 0 p rfl
    obtain ⟨i, v⟩ := p
    simp only [Nat.add_zero] at h1
    subst h1
    have hle : i * n + v.cells.size ≤ cs.size := by
      simp only at h2
      rw [h2]
      have : (i + 1) * n ≤ (i + (ps.length + 1)) * n := Nat.mul_le_mul_right _ (by omega)
      rw [Nat.succ_mul] at this
      simp only [List.length_cons] at h
      omega
    have hput := put_toList v (i * n) cs hle
    obtain ⟨cs', hf, hl⟩ := ih (i + 1) (v.cells.zipIdx.foldl (fun cs (p : Value × Nat) => cs.setIfInBounds (i * n + p.2) p.1) cs) (fun j q hq => by
      have := hp (j + 1) q (by simpa using hq)
      exact ⟨by omega, this.2⟩) (by
        have : (v.cells.zipIdx.foldl (fun cs (p : Value × Nat) => cs.setIfInBounds (i * n + p.2) p.1) cs).size = cs.size := by
          have h3 : (v.cells.zipIdx.foldl (fun cs (p : Value × Nat) => cs.setIfInBounds (i * n + p.2) p.1) cs).toList.length = cs.toList.length := by
            rw [hput]
            simp only [List.length_append, List.length_take, List.length_drop, Array.length_toList]
            omega
          rw [← Array.length_toList, h3, Array.length_toList]
        rw [this]
        simp only [List.length_cons] at h
        rw [show i + 1 + ps.length = i + (ps.length + 1) from by omega]
        exact h)
    refine ⟨cs', ?_, ?_⟩
    · unfold Instr.fill
      simp only at h2
      simp only [h2]
      rw [if_neg (by simp; omega)]
      exact hf
    · rw [hl, hput]
      simp only at h2
      have e1 : (i + 1) * n = i * n + v.cells.size := by rw [h2, Nat.succ_mul]
      have e2 : (i + 1 + ps.length) * n = (i + (ps.length + 1)) * n := by rw [show i + 1 + ps.length = i + (ps.length + 1) from by omega]
      have hL : (cs.toList.take (i * n) ++ v.cells.toList).length = (i + 1) * n := by
        rw [e1, List.length_append, List.length_take, Array.length_toList, Array.length_toList]
        omega
      rw [List.take_append_of_le_length (by omega), List.take_of_length_le (by omega), List.map_cons, List.flatten_cons]
      have hD : (cs.toList.take (i * n) ++ v.cells.toList ++ cs.toList.drop (i * n + v.cells.size)).drop ((i + 1 + ps.length) * n) = cs.toList.drop ((i + (ps.length + 1)) * n) := by
        have h4 : (i + 1) * n ≤ (i + 1 + ps.length) * n := Nat.mul_le_mul_right _ (by omega)
        rw [List.drop_append, hL, List.drop_of_length_le (by omega), List.nil_append, List.drop_drop, ← e1, e2]
        congr 1
        omega
      rw [hD]
      simp [List.append_assoc]

theorem elems_rep (hT : Tms P.cellsOf S m w a.tmps) (n : Nat) : ∀ (ps : List (Nat × Operand)) (k : Nat) (rs : List (List V)), elemsV S n k ps = some rs →
    rs.length = ps.length ∧ (∀ (i : Nat) (p : Nat × Operand), ps[i]? = some p → p.1 = k + i ∧ (a.eval p.2).cells.size = n) ∧ (∀ row ∈ rs, row.length = n) ∧
    ∀ (i : Nat) (row : List V) (p : Nat × Operand), rs[i]? = some row → ps[i]? = some p → ∀ (j : Nat) (u : V) (y : Value), row[j]? = some u → (a.eval p.2).cells.toList[j]? = some y → RV P.cellsOf S.mem S.ep m w u y := by
  intro ps
  induction ps with
  | nil =>
    intro k rs h
    simp only [elemsV, Option.some.injEq] at h
    subst h
    exact ⟨rfl, by simp, by simp, by simp⟩
  | cons p ps ih =>
    intro k rs h
    obtain ⟨i, x⟩ := p
    simp only [elemsV] at h
    split at h
    · rename_i hik
      simp only [Option.bind_eq_some_iff] at h
      obtain ⟨tv, htv, cs, hcs, h⟩ := h
      split at h
      · rename_i hl
        simp only [Option.bind_eq_some_iff, Option.some.injEq] at h
        obtain ⟨r, hr, rfl⟩ := h
        obtain ⟨h1, h2, h3, h4⟩ := ih (k + 1) r hr
        obtain ⟨hs, hh⟩ := cells_rtv (ev_rtv hT htv) hcs
        refine ⟨by simp [h1], fun j q hq => ?_, fun row hrow => ?_, fun j row q hrow hq l u y hu hy => ?_⟩
        · cases j with
          | zero => simp at hq; subst hq; exact ⟨by simpa using hik, by simpa [hl] using hs⟩
          | succ j =>
            simp at hq
            have := h2 j q hq
            exact ⟨by omega, this.2⟩
        · rcases List.mem_cons.1 hrow with rfl | h5
          · exact hl
          · exact h3 row h5
        · cases j with
          | zero => simp at hq hrow; subst hq; subst hrow; exact hh l u y hu (by simpa using hy)
          | succ j => simp at hq hrow; exact h4 j row q hrow hq l u y hu hy
      · cases h
    · cases h

theorem step_buildSlice (hg : Good P.cellsOf B w0 S.mem S.ep m w) (hT : Tms P.cellsOf S m w a.tmps) {o : Oper} {T len : Nat} {parts : Array (Nat × Operand)} {r : TV × Mem × Nat} (ho : o.op = .buildSlice T len parts) (h : stepOp P S o = some r) : StepOk P B w0 S m w a o r := by
  unfold stepOp at h
  simp only [ho, Option.bind_eq_some_iff] at h
  obtain ⟨d, hd, h⟩ := h
  split at h
  · rename_i e
    simp only [Option.bind_eq_some_iff] at h
    obtain ⟨zs, hzs, rs, hrs, ⟨rs', mem1⟩, hf, h⟩ := h
    split at h
    · rename_i hc
      obtain ⟨hc1, hc2, hc3, hc4⟩ := hc
      simp only [Option.some.injEq] at h
      subst h
      obtain ⟨h1, h2, h3, h4⟩ := elems_rep hT _ _ _ _ hrs
      obtain ⟨vz, hvz, hz1, hz2⟩ := zeroV_run hzs w
      have hzl : vz.cells.size = P.cellsOf e := by rw [hz1] at hc2; simpa using hc2
      let yss : List (List Value) := parts.toList.map fun p => (a.eval p.2).cells.toList
      have hyl : ∀ r ∈ yss, r.length = P.cellsOf e := by
        intro r hr
        obtain ⟨p, hp, rfl⟩ := List.mem_map.1 hr
        obtain ⟨i, hi⟩ := List.mem_iff_getElem?.1 hp
        simpa using (h2 i p hi).2
      obtain ⟨hl1, hl2, L, hF⟩ := foldR_rep rs yss S.mem mem1 rs' hg (by simp [yss, h1]) (fun i row ys hrow hys => by
        simp only [yss, List.getElem?_map] at hys
        obtain ⟨p, hp, rfl⟩ := Option.map_eq_some_iff.1 hys
        exact ⟨by rw [Array.length_toList, (h2 i p hp).2, h3 row (List.mem_of_getElem? hrow)], fun j u y hu hy => h4 i row p hrow hp j u y hu hy⟩) hf
      have hlen' : ∀ row ∈ rs', row.length = P.cellsOf e := by
        intro row hrow
        obtain ⟨i, hi⟩ := List.mem_iff_getElem?.1 hrow
        have hlt : i < rs.length := by rw [← hl1]; exact (List.getElem?_eq_some_iff.1 hi).1
        rw [hl2 i row _ hi (List.getElem?_eq_getElem hlt)]
        exact h3 _ (List.getElem_mem hlt)
      have hparts : (parts.map fun (p : Nat × Operand) => (p.1, a.eval p.2)).toList = parts.toList.map fun p => (p.1, a.eval p.2) := by simp
      obtain ⟨cs', hfill, hcs'⟩ := fill_all (P.cellsOf e) (parts.toList.map fun p => (p.1, a.eval p.2)) 0 ((Array.range (len * P.cellsOf e)).map (vz.cells[· % vz.cells.size]!)) (fun i p hp => by
        rw [List.getElem?_map] at hp
        obtain ⟨q, hq, rfl⟩ := Option.map_eq_some_iff.1 hp
        exact h2 i q hq) (by
        have hps : parts.size = len := by rw [← Array.length_toList, ← h1, hc4]
        simp [hps])
      have hlp : parts.toList.length = len := by rw [← h1]; exact hc4
      have hcs2 : cs'.toList = yss.flatten := by
        rw [hcs']
        simp only [Nat.zero_mul, List.take_zero, List.nil_append, List.length_map, Nat.zero_add, hlp]
        rw [List.drop_of_length_le (by simp)]
        simp [yss, List.map_map, Function.comp_def]
      have hflen : yss.flatten.length = len * P.cellsOf e := by rw [flatten_len yss hyl]; simp [yss, hlp]
      have hF' : FoldedL P.cellsOf m w S.mem mem1 rs' L (fun i j => yss.flatten[i * P.cellsOf e + j]?) := by
        refine ⟨hF.gone, fun i j row u y hrow hu hy => hF.rep i j row u y hrow hu ?_, hF.inj, hF.dead⟩
        have hi : i < yss.length := by
          have := (List.getElem?_eq_some_iff.1 hrow).1
          rw [hl1, h1] at this
          simpa [yss] using this
        have hj : j < P.cellsOf e := by
          have := (List.getElem?_eq_some_iff.1 hu).1
          rwa [hlen' row (List.mem_of_getElem? hrow)] at this
        rw [flatten_get yss hyl i j _ (List.getElem?_eq_getElem hi) hj] at hy
        rw [List.getElem?_eq_getElem hi]
        exact hy
      have hlr : rs'.length = len := by rw [hl1, hc4]
      obtain ⟨m', r1, r2, r3⟩ := rows_res hg (e := e) (cs := yss.flatten) (x := .slice (some ⟨w.heap.size, 0, none⟩) len len) (w' := w.alloc (.cells cs' e)) hF'.to hlen' (push_below _ _)
        (by
          rw [hlr]
          refine ⟨hflen, .inr ⟨w.heap.size, len, cs', rfl, Nat.zero_le _, push_at _ _, Nat.le_refl _, ?_, ?_, ?_⟩⟩
          · simp only [maxLen]
            have h6 : len ≤ len * P.cellsOf e := Nat.le_mul_of_pos_right _ (by omega)
            have h7 : len ≤ 16777216 := Nat.le_trans h6 hc1
            exact Nat.le_trans h7 (by decide)
          · rw [← Array.length_toList, hcs2]; exact hflen
          · rw [hcs2, List.take_of_length_le (by rw [hflen]; exact Nat.le_refl _)])
        (fun k hk => by simp [Value.ownBlock] at hk; omega)
      refine ⟨fun hq => by simp [quietKind, ho] at hq, _, _, ?_, fun _ => Ext.of_below (push_below _ _), m', r1, r2, r3⟩
      unfold execOp
      simp only [ho]
      refine run_value ?_
      unfold Instr.buildSlice
      have hnot : ¬ len * P.cellsOf e > 2 ^ 24 := by omega
      simp only [Sem.run_bind, run_underlying hd, Result.andThen_ok, run_size hc3, hnot, if_false, hparts]
      by_cases h0 : len * P.cellsOf e = 0
      · have hl0 : len = 0 := (Nat.mul_eq_zero.1 h0).resolve_right hc3
        subst hl0
        have hp0 : parts.toList = [] := List.length_eq_zero_iff.1 hlp
        rw [hp0] at hfill ⊢
        simp [Instr.fill] at hfill ⊢
        subst hfill
        have e0 : Array.range 0 = #[] := rfl
        simp [newRow, newObj, Sem.run, e0]
      · simp only [h0, if_false, Sem.run_bind, hvz, Result.andThen_ok, Sem.run_pure]
        rw [hfill]
        simp [newRow, newObj, Sem.run]
    · cases h
  · cases h
theorem step_makeSlice (hg : Good P.cellsOf B w0 S.mem S.ep m w) (hT : Tms P.cellsOf S m w a.tmps) {o : Oper} {T : Nat} {l c : Operand} {r : TV × Mem × Nat} (ho : o.op = .makeSlice T l c) (h : stepOp P S o = some r) : StepOk P B w0 S m w a o r := by
  unfold stepOp at h
  simp only [ho, Option.bind_eq_some_iff] at h
  obtain ⟨d, hd, h⟩ := h
  split at h
  · rename_i e
    simp only [Option.bind_eq_some_iff] at h
    obtain ⟨zs, hzs, vl, hvl, n, hn, vc, hvc, n', hn', h⟩ := h
    split at h
    · rename_i hc
      obtain ⟨rfl, hb, hm, hz, hz0⟩ := hc
      simp only [Option.some.injEq] at h
      subst h
      obtain ⟨el, _⟩ := evL_eq hT hvl
      obtain ⟨ec, _⟩ := evL_eq hT hvc
      rw [natOf_some hn] at el
      rw [natOf_some hn'] at ec
      obtain ⟨vz, hvz, hz1, hz2⟩ := zeroV_run hzs w
      obtain ⟨i, hi, hsz⟩ := info_of_cells hz0
      have hby : P.bytesOf e = i.bytes := by simp [Program.bytesOf, hi]
      have hzero : i.zero = some vz := by
        unfold zeroValue typeInfo at hvz
        simp [hi] at hvz
        cases hiz : i.zero with
        | none => rw [hiz] at hvz; simp [unsupported, Sem.run] at hvz
        | some v => rw [hiz] at hvz; simp at hvz; rw [hvz]
      have hzl : vz.cells.size = P.cellsOf e := by rw [hz1] at hz; simpa using hz
      obtain ⟨w', hrun, hown, hgrow⟩ := run_make_full (P := P) (w := w) 0 T e i vz (P.cellsOf e) hd hi hzero hsz.symm .i64 .i64 n (by rw [← hby, Nat.mul_comm]; omega) (by simp only [maxLen]; omega) (Nat.zero_le _)
      have hbel : Below w.heap.size w w' := ⟨hgrow.os, hgrow.tape, hgrow.output, hgrow.size, fun k hk => hgrow.block k hk (by simp)⟩
      have hcell : ∀ i j, i < n → j < P.cellsOf e → (madeCells vz.cells (n * P.cellsOf e)).toList[i * P.cellsOf e + j]? = vz.cells.toList[j]? := by
        intro i j hi hj
        have hlt : i * P.cellsOf e + j < n * P.cellsOf e := by
          have : (i + 1) * P.cellsOf e ≤ n * P.cellsOf e := Nat.mul_le_mul_right _ hi
          rw [Nat.succ_mul] at this
          omega
        have hmod : (i * P.cellsOf e + j) % vz.cells.size = j := by
          rw [hzl, Nat.mul_comm, Nat.mul_add_mod, Nat.mod_eq_of_lt hj]
        have hj' : j < vz.cells.size := by rw [hzl]; exact hj
        simp [madeCells, hlt, hmod, hj']
      have hF : FoldedR P.cellsOf m w S.mem S.mem (List.replicate n zs) (fun _ => False) (fun _ => (0, 0)) (fun i j => (madeCells vz.cells (n * P.cellsOf e)).toList[i * P.cellsOf e + j]?) := by
        refine ⟨Gone.refl _, fun i j row u y hrow hu hy => ?_, fun _ h => h.elim⟩
        have hi : i < n := by simpa using (List.getElem?_eq_some_iff.1 hrow).1
        have hrow' : row = zs := by
          rw [List.getElem?_replicate, if_pos hi] at hrow
          exact (Option.some.inj hrow).symm
        subst hrow'
        have hj : j < P.cellsOf e := by rw [← hz]; exact (List.getElem?_eq_some_iff.1 hu).1
        rw [hcell i j hi hj] at hy
        rw [hz1, List.getElem?_map, hy] at hu
        simp only [Option.map_some, Option.some.injEq] at hu
        subst hu
        exact .lit (hz2 _ (List.mem_of_getElem? hy))
      obtain ⟨m', r1, r2, r3⟩ := rows_res hg (e := e) (w' := w') hF (fun row hrow => by rw [(List.mem_replicate.1 hrow).2]; exact hz) hbel (by simpa using hown) (fun k hk => by simp [Value.ownBlock] at hk; omega)
      refine ⟨fun hq => by simp [quietKind, ho] at hq, _, _, ?_, fun _ => Ext.of_below hbel, m', r1, r2, r3⟩
      unfold execOp
      simp only [ho, el, ec]
      exact run_value hrun
    · cases h
  · cases h
end
end Go.Proofs.Ytanglbgincgmaaa.Vm
namespace Go.Proofs.Ytanglbgincgmaaa.Vm
open Go Go.RowKit
set_option linter.unusedVariables false
section
variable {P : Program} {S : St} {m : Mp} {w w' w0 : World} {a : Act} {B : Nat} {z : Nat → Nat} {mem mem1 : Mem} {ep ep' : Nat}

/-- A block that turns. -/
theorem set_good (hg : Good z B w0 mem ep m w) (hG : Gone mem mem1) {id : Nat} {b0 b : Blk} (h0 : mem1[id]? = some (some b0)) (hep : ep ≤ ep') {x : Value} {G : Nat → Nat} (hbel : Below B w w')
    (hoth : ∀ k, k < w.heap.size → m.G k ≠ id + 1 → w'.heap[k]? = w.heap[k]?)
    (h1 : ∀ k, k < w.heap.size → G k = m.G k ∨ (G k = id + 1 ∧ m.G k ≠ 0 ∧ m.G k ≠ 1 ∧ mem1[m.G k - 1]? = some none)) (h2 : ∀ k, w.heap.size ≤ k → G k = 0 ∨ (G k = id + 1 ∧ k < w'.heap.size))
    (hbox : ∀ bv c, b = .box bv c → ep ≤ bv ∨ ∃ c', b0 = .box bv c' ∧ x = m.hd id) (hrows : ∀ hv cv e rs, b = .rows hv cv e rs → ep ≤ hv ∨ ∃ cv' rs', b0 = .rows hv cv' e rs' ∧ x = m.hd id)
    (hview : ∀ hv cv e rs, b = .rows hv cv e rs → ep ≤ cv ∨ ∃ hv' e' rs', b0 = .rows hv' cv e' rs' ∧ ∀ k, inG m w id k → inG (m.add id x G) w' id k ∧ w'.heap[k]? = w.heap[k]?)
    (hnest : ∀ hv cv e rs rs', b0 = .rows hv cv e rs → b = .rows hv cv e rs' → hv < ep → cv < ep → NestEq m w w' id rs rs')
    (hr : Evo ep ep' mem (mem1.set id (some b)) m (m.add id x G) w w' → RBlk z (mem1.set id (some b)) ep' (m.add id x G) w' id b) :
    Good z B w0 (mem1.set id (some b)) ep' (m.add id x G) w' ∧ Evo ep ep' mem (mem1.set id (some b)) m (m.add id x G) w w' := by
  have hid : id < mem1.length := (List.getElem?_eq_some_iff.1 h0).1
  have hm0 := hG.2 _ _ h0
  have old : ∀ (i : Nat) (c : Blk), (mem1.set id (some b))[i]? = some (some c) → i ≠ id → mem[i]? = some (some c) ∧ mem1[i]? = some (some c) := by
    intro i c h hne
    rw [List.getElem?_set_ne (Ne.symm hne)] at h
    exact ⟨hG.2 _ _ h, h⟩
  have new : ∀ (c : Blk), (mem1.set id (some b))[id]? = some (some c) → c = b := by
    intro c h
    rw [List.getElem?_set_self hid] at h
    simpa using h.symm
  have lab : ∀ (i : Nat) (c : Blk), mem1[i]? = some (some c) → ∀ k, m.G k = i + 1 → k < w.heap.size → G k = i + 1 := by
    intro i c hc k hk hlt
    rcases h1 k hlt with h | ⟨_, _, _, h⟩
    · rw [h, hk]
    · rw [hk] at h
      simp [hc] at h
  have hE : Evo ep ep' mem (mem1.set id (some b)) m (m.add id x G) w w' := by
    refine ⟨hep, hbel.size, fun k hk => ?_, fun k hk hlt => ⟨by
      rcases h1 k hlt with h | ⟨_, _, h, _⟩
      · exact h.trans hk
      · exact absurd hk h, hoth k hlt (by
        rw [hk]
        intro h7
        have h6 := hg.fst
        obtain rfl : id = 0 := by omega
        rw [hm0] at h6
        cases h6)⟩, fun i bv c hc => ?_, fun i hv cv e rs hc => ?_, fun i hv cv e rs hc => ?_, fun i hv cv e rs rs' h3 hc l1 l2 => ?_⟩
    · refine ⟨?_, hoth k hk.2 (by rw [hk.1]; omega)⟩
      rcases h1 k hk.2 with h | ⟨_, h, _⟩
      · exact h.trans hk.1
      · exact absurd hk.1 h
    · by_cases hi : i = id
      · subst hi
        rcases hbox bv c (new _ hc).symm with h | ⟨c', hb, hx⟩
        · exact .inl h
        · exact .inr ⟨c', by rw [hm0, hb], by rw [Mp.add_same]; exact hx⟩
      · exact .inr ⟨c, (old _ _ hc hi).1, Mp.add_ne _ _ _ hi⟩
    · by_cases hi : i = id
      · subst hi
        rcases hrows hv cv e rs (new _ hc).symm with h | ⟨cv', rs', hb, hx⟩
        · exact .inl h
        · exact .inr ⟨cv', rs', by rw [hm0, hb], by rw [Mp.add_same]; exact hx⟩
      · exact .inr ⟨cv, rs, (old _ _ hc hi).1, Mp.add_ne _ _ _ hi⟩
    · by_cases hi : i = id
      · subst hi
        rcases hview hv cv e rs (new _ hc).symm with h | ⟨hv', e', rs', hb, hx⟩
        · exact .inl h
        · exact .inr ⟨hv', e', rs', by rw [hm0, hb], hx⟩
      · refine .inr ⟨hv, e, rs, (old _ _ hc hi).1, fun k hk => ⟨⟨lab _ _ (old _ _ hc hi).2 k hk.1 hk.2.2, by rw [Mp.add_ne _ _ _ hi]; exact hk.2.1, Nat.lt_of_lt_of_le hk.2.2 hbel.size⟩, hoth k hk.2.2 (by rw [hk.1]; omega)⟩⟩
    · by_cases hi : i = id
      · subst hi
        refine hnest hv cv e rs rs' ?_ (new _ hc).symm l1 l2
        rw [hm0] at h3
        simpa using h3
      · obtain ⟨_, _, _, rfl⟩ := rows_inj4 h3 (old _ _ hc hi).1
        obtain ⟨_, _, _, _, _, hG, _⟩ := hg.blk _ _ h3
        exact NestEq.same (fun g hgb hlt => hoth g hlt (by rw [hG g hgb]; omega))
  refine ⟨⟨fun i c hc => ?_, fun k hk => ?_, hg.below.trans hbel, Nat.le_trans hg.hB hbel.size, ?_⟩, hE⟩
  · by_cases hi : i = id
    · subst hi
      have := new _ hc
      subst this
      exact hr hE
    · exact (hg.blk i c (old _ _ hc hi).1).keep hE (Mp.add_ne _ _ _ hi) (fun k hk hlt => ⟨lab _ _ (old _ _ hc hi).2 k hk hlt, hoth k hlt (by rw [hk]; omega)⟩)
  · rcases Nat.lt_or_ge k w.heap.size with hlt | hge
    · rcases h1 k hlt with h | ⟨_, h, h5, _⟩
      · have := hg.lab k (by rw [← h]; exact hk)
        exact ⟨Nat.lt_of_lt_of_le hlt hbel.size, this.2.imp (fun e => e) (fun e => h.trans e)⟩
      · exact ⟨Nat.lt_of_lt_of_le hlt hbel.size, .inl ((hg.lab k h).2.resolve_right h5)⟩
    · rcases h2 k hge with h | ⟨_, h⟩
      · exact absurd h hk
      · exact ⟨h, .inl (Nat.le_trans hg.hB hge)⟩
  · have h6 := dead_stays hG hg.fst
    rw [List.getElem?_set_ne (fun he => by subst he; rw [h0] at h6; cases h6)]
    exact h6

theorem idx_split {n k : Nat} (hn : 0 < n) : k / n * n + k % n = k := by rw [Nat.mul_comm]; exact Nat.div_add_mod k n
/-- What is read of rows that lie in memory as they are. -/
theorem ro_cells {ro : Nat → Prop} {e : Nat} {rows : List (List V)} {y : Value} (h : Rep z w ro (fun _ => False) (.sl false e rows) y) (hz : z e ≠ 0) :
    ∃ (A : Option Addr) (c : Nat) (cells : List Value), y = .slice A rows.length c ∧ cells.length = rows.length * z e ∧ (∀ u ∈ cells, u.oneCell' = true) ∧ (∀ row ∈ rows, row.length = z e) ∧
      (rows.length ≠ 0 → ∃ ad, A = some ad ∧ ∀ (j : Nat) (u : Value), cells[j]? = some u → w.cell? (ad.add j) = some u) ∧
      ∀ (i j : Nat) (row : List V) (u : V) (x : Value), rows[i]? = some row → row[j]? = some u → cells[i * z e + j]? = some x → Rep z w ro (fun _ => False) u x := by
  cases h with
  | roS ad f hc hm hrow hA hro hcell hr =>
    have hzp : 0 < z e := by omega
    have hat : ∀ k, k < rows.length * z e → ∃ row u, rows[k / z e]? = some row ∧ row[k % z e]? = some u := by
      intro k hk
      have h1 : k / z e < rows.length := by rw [Nat.div_lt_iff_lt_mul hzp]; exact hk
      have h2 : k % z e < (rows[k / z e]).length := by rw [hrow _ (List.getElem_mem h1)]; exact Nat.mod_lt _ hzp
      exact ⟨_, _, List.getElem?_eq_getElem h1, List.getElem?_eq_getElem h2⟩
    have hget : ∀ (k : Nat) (u : Value), ((List.range (rows.length * z e)).map fun k => f (k / z e) (k % z e))[k]? = some u → k < rows.length * z e ∧ u = f (k / z e) (k % z e) := by
      intro k u h
      have hk : k < rows.length * z e := by
        have := (List.getElem?_eq_some_iff.1 h).1
        simpa using this
      rw [List.getElem?_map, List.getElem?_range hk] at h
      simp only [Option.map_some, Option.some.injEq] at h
      exact ⟨hk, h.symm⟩
    refine ⟨_, _, (List.range (rows.length * z e)).map fun k => f (k / z e) (k % z e), rfl, by simp, fun u hu => ?_, hrow, fun hn => ⟨ad, hA (fun e => hn (by simp [e])), fun k u hk => ?_⟩, fun i j row u x h1 h2 h3 => ?_⟩
    · obtain ⟨k, hk⟩ := List.mem_iff_getElem?.1 hu
      obtain ⟨hlt, rfl⟩ := hget k u hk
      obtain ⟨row, v, a, b⟩ := hat k hlt
      exact rep_one (hr _ _ row v a b)
    · obtain ⟨hlt, rfl⟩ := hget k u hk
      obtain ⟨row, v, a, b⟩ := hat k hlt
      have := hcell _ _ row v a b
      rwa [idx_split hzp] at this
    · obtain ⟨hlt, rfl⟩ := hget _ x h3
      have hj : j < z e := by
        have := (List.getElem?_eq_some_iff.1 h2).1
        rwa [hrow row (List.mem_of_getElem? h1)] at this
      have e1 : (i * z e + j) / z e = i := by rw [Nat.mul_comm, Nat.mul_add_div hzp, Nat.div_eq_of_lt hj]; omega
      have e2 : (i * z e + j) % z e = j := by rw [Nat.mul_comm, Nat.mul_add_mod, Nat.mod_eq_of_lt hj]
      rw [e1, e2]
      exact hr i j row u h1 h2

theorem rowsIn_rep (hg : Good z B w0 mem ep m w) {v : V} {y : Value} {e : Nat} {rows : List (List V)} (hv : RV z mem ep m w v y) (hz : z e ≠ 0) (h : rowsIn mem e v = some (rows, mem1)) :
    ∃ (A : Option Addr) (c : Nat) (cells : List Value) (D : Nat → Prop) (f : Nat → Nat × Nat), y = .slice A rows.length c ∧ cells.length = rows.length * z e ∧ (∀ u ∈ cells, u.oneCell' = true) ∧ (∀ row ∈ rows, row.length = z e) ∧
      (rows.length ≠ 0 → ∃ ad, A = some ad ∧ ∀ (j : Nat) (u : Value), cells[j]? = some u → w.cell? (ad.add j) = some u) ∧ FoldedR z m w mem mem1 rows D f (fun i j => cells[i * z e + j]?) := by
  cases hv with
  | lit hc =>
    unfold rowsIn at h
    split at h <;> first | cases h | skip
    all_goals (rename_i he; cases he)
    exact ⟨_, _, [], fun _ => False, fun _ => (0, 0), rfl, by simp, by simp, by simp, fun h => absurd rfl h, ⟨Gone.refl _, by simp, fun _ h => h.elim⟩⟩
  | ro hr =>
    simp only [rowsIn] at h
    split at h
    · rename_i he
      subst he
      simp only [Option.some.injEq, Prod.mk.injEq] at h
      obtain ⟨rfl, rfl⟩ := h
      obtain ⟨A, c, cells, h1, h2, h3, h4, h5, h6⟩ := ro_cells hr hz
      exact ⟨A, c, cells, fun _ => False, fun _ => (0, 0), h1, h2, h3, h4, h5, ⟨Gone.refl _, fun i j row u y a b d => (h6 i j row u y a b d).mono (fun _ h => h) (fun _ h => h.elim), fun _ h => h.elim⟩⟩
    · cases h
  | ow hid h1 hh =>
    rename_i id hv
    simp only [rowsIn, Option.bind_eq_some_iff] at h
    obtain ⟨b, hb, h⟩ := h
    split at h
    · rename_i he
      subst he
      simp only [Option.some.injEq, Prod.mk.injEq] at h
      obtain ⟨rfl, rfl⟩ := h
      have hb' := rowsH_some hb
      have hy := hh _ _ _ hb'
      subst hy
      obtain ⟨_, _, cs, f, ho, hG, hlen, hrep⟩ := hg.blk _ _ hb'
      obtain ⟨A, c, hx, hn, hm, hcs⟩ := ownsRow_slice ho
      have hlt : id < mem.length := (List.getElem?_eq_some_iff.1 hb').1
      refine ⟨A, c, cs, fun l => l = id + 1, f, hx, ho.1, fun u hu => ?_, hlen, fun hn0 => ?_, ⟨Gone.set _ _, fun i j row u y a b d => ?_, fun l hl h0 => ?_⟩⟩
      · obtain ⟨k, hk⟩ := List.mem_iff_getElem?.1 hu
        have hkl := (List.getElem?_eq_some_iff.1 hk).1
        rw [ho.1] at hkl
        have hzp : 0 < z b.2.1 := by omega
        have h1 : k / z b.2.1 < b.2.2.length := by rw [Nat.div_lt_iff_lt_mul hzp]; exact hkl
        have h2 : k % z b.2.1 < (b.2.2[k / z b.2.1]).length := by rw [hlen _ (List.getElem_mem h1)]; exact Nat.mod_lt _ hzp
        exact rep_one (hrep _ _ _ _ u (List.getElem?_eq_getElem h1) (List.getElem?_eq_getElem h2) (by rw [idx_split hzp]; exact hk))
      · obtain ⟨g, hA, _, h3⟩ := hcs hn0
        exact ⟨_, hA, h3⟩
      · exact (hrep i j row u y a b d).mono (fun _ h => h) (fun k hk => ⟨hk.1.1, by rw [hk.1.1]; omega, hk.1.2.2, hk.2⟩)
      · subst hl
        exact ⟨⟨_, hb'⟩, by simp [hlt]⟩
    · cases h
  | vw hid h1 hh hpp =>
    simp only [rowsIn] at h
    split at h
    · rename_i hc
      obtain ⟨he, hs, hfl⟩ := hc
      subst he
      simp only [Option.some.injEq, Prod.mk.injEq] at h
      obtain ⟨rfl, rfl⟩ := h
      obtain ⟨hv, e', rs, hm⟩ := seenC_some hs
      obtain ⟨A, c, cells, g1, g2, g3, g4, g5, g6⟩ := ro_cells (hh _ _ _ hm) hz
      refine ⟨A, c, cells, fun _ => False, fun _ => (0, 0), g1, g2, g3, g4, g5, ⟨Gone.refl _, fun i j row u y a b d => ?_, fun _ h => h.elim⟩⟩
      have hrow := List.all_eq_true.1 hfl row (List.mem_of_getElem? a)
      have hu := List.all_eq_true.1 hrow u (List.mem_of_getElem? b)
      have hrep := g6 i j row u y a b d
      cases u with
      | lit v =>
        cases hrep with
        | lit h => exact .lit h
      | _ => simp at hu
    · cases h
  | _ => simp [rowsIn] at h

theorem run_append_zero (t ty e : TypeId) (i : TypeInfo) (size c : Nat) (ht : P.underlying t = some (.slice e)) (hi : P.info? e = some i) (v : Value) (n : Nat) (xs : List Value) (hown : w.ownsRow 0 e size v n xs) :
    (Builtin.append_ #[t, t] ty #[v, .slice none 0 c]).run P w = .ok v w := by
  rcases hown.2 with ⟨rfl, rfl⟩ | ⟨g, cap, cur, rfl, _, _, hnc, _⟩
  · simp [Builtin.append_, run_underlying ht, sizeOf, typeInfo, hi, Builtin.lenOf, Builtin.firstCells]
  · simp [Builtin.append_, run_underlying ht, sizeOf, typeInfo, hi, Builtin.lenOf, Builtin.firstCells, hnc, storeCells]

/-- What an append does, whatever was there. -/
theorem append_run {t ty e : TypeId} (hd : P.underlying t = some (.slice e)) (hz : P.cellsOf e ≠ 0) (hb : P.bytesOf e ≠ 0) (hzero : ∃ i v, P.info? e = some i ∧ i.zero = some v ∧ v.cells.size = P.cellsOf e) {v : Value} {n : Nat} {xs : List Value} (hown : w.ownsRow 0 e (P.cellsOf e) v n xs)
    {A : Option Addr} {k c : Nat} {news : List Value} (hl : news.length = k * P.cellsOf e) (h1 : ∀ u ∈ news, u.oneCell' = true) (hat : k ≠ 0 → ∃ ad, A = some ad ∧ ∀ (j : Nat) (u : Value), news[j]? = some u → w.cell? (ad.add j) = some u)
    (hbytes : (n + k) * P.bytesOf e ≤ 140737488355328) :
    ∃ v' w', (Builtin.append_ #[t, t] ty #[v, .slice A k c]).run P w = .ok v' w' ∧ w'.ownsRow 0 e (P.cellsOf e) v' (n + k) (xs ++ news) ∧ w.grownBy w' v.ownBlock ∧ (v'.ownBlock = v.ownBlock ∨ v'.ownBlock = some w.heap.size) := by
  obtain ⟨i, zv, hi, hiz, hzs⟩ := hzero
  have hsz : P.cellsOf e = i.size := by simp [Program.cellsOf, hi]
  have hby : P.bytesOf e = i.bytes := by simp [Program.bytesOf, hi]
  have hn63 : n + k ≤ maxLen := by
    have h2 : n + k ≤ (n + k) * P.bytesOf e := Nat.le_mul_of_pos_right _ (by omega)
    simp only [maxLen]
    omega
  have main : ∀ ad : Addr, A = some ad → (∀ (j : Nat) (u : Value), news[j]? = some u → w.cell? (ad.add j) = some u) → ∃ v' w', (Builtin.append_ #[t, t] ty #[v, .slice A k c]).run P w = .ok v' w' ∧ w'.ownsRow 0 e (P.cellsOf e) v' (n + k) (xs ++ news) ∧ w.grownBy w' v.ownBlock ∧ (v'.ownBlock = v.ownBlock ∨ v'.ownBlock = some w.heap.size) := by
    intro ad hA hc
    subst hA
    obtain ⟨v', w', g1, g2, g3, _, g5⟩ := run_append_own_at (P := P) w 0 t ty e i zv (P.cellsOf e) (P.bytesOf e) hd hi hiz hsz.symm hby.symm hzs (by omega) v n xs hown ad k c news hl hc h1 hn63 hbytes (Nat.zero_le _)
    exact ⟨v', w', g1, g2, g3, g5⟩
  by_cases hk : k = 0
  · subst hk
    have hnil : news = [] := by
      rw [Nat.zero_mul] at hl
      exact List.length_eq_zero_iff.1 hl
    subst hnil
    cases A with
    | none =>
      refine ⟨v, w, run_append_zero t ty e i (P.cellsOf e) c hd hi v n xs hown, by simpa using hown, ?_, .inl rfl⟩
      exact ⟨rfl, rfl, rfl, Nat.le_refl _, fun _ _ _ => rfl⟩
    | some ad => exact main ad rfl (by simp)
  · obtain ⟨ad, hA, hc⟩ := hat hk
    exact main ad hA hc
end
end Go.Proofs.Ytanglbgincgmaaa.Vm
namespace Go.Proofs.Ytanglbgincgmaaa.Vm
open Go Go.RowKit
set_option linter.unusedVariables false
section
variable {P : Program} {S : St} {m : Mp} {w w' w0 : World} {a : Act} {B : Nat} {z : Nat → Nat} {mem mem1 : Mem} {ep ep' : Nat}

theorem zero_info {e : Nat} {zs : List V} (hz0 : P.cellsOf e ≠ 0) (hzs : zeroV P e = some zs) (hl : zs.length = P.cellsOf e) : ∃ i v, P.info? e = some i ∧ i.zero = some v ∧ v.cells.size = P.cellsOf e := by
  obtain ⟨vz, hvz, hz1, hz2⟩ := zeroV_run hzs (default : World)
  obtain ⟨i, hi, hsz⟩ := info_of_cells hz0
  have hzero : i.zero = some vz := by
    unfold zeroValue typeInfo at hvz
    simp [hi] at hvz
    cases hiz : i.zero with
    | none => rw [hiz] at hvz; simp [unsupported, Sem.run] at hvz
    | some v => rw [hiz] at hvz; simp at hvz; rw [hvz]
  exact ⟨i, vz, hi, hzero, by rw [hz1] at hl; simpa using hl⟩
theorem grown_below {o : Option Nat} (h : w.grownBy w' o) (hB : B ≤ w.heap.size) (ho : ∀ k, o = some k → B ≤ k) : Below B w w' :=
  ⟨h.os, h.tape, h.output, h.size, fun k hk => h.block k (by omega) (fun he => by have := ho k he.symm; omega)⟩

/-- An own row that grows. -/
theorem grow_res (hg : Good z B w0 mem ep m w) {id hv cv e : Nat} {rs news : List (List V)} {cells : List Value} {D : Nat → Prop} {f2 : Nat → Nat × Nat} {xs : List Value} {f : Nat → Nat × Nat} {x : Value}
    (h0 : mem1[id]? = some (some (.rows hv cv e rs))) (hF : FoldedR z m w mem mem1 news D f2 (fun i j => cells[i * z e + j]?)) (hlen : ∀ row ∈ news, row.length = z e) (hcv : cv < ep)
    (hown : w.ownsRow 0 e (z e) (m.hd id) rs.length xs) (hG : ∀ k, (m.hd id).ownBlock = some k → m.G k = id + 1) (hlen0 : ∀ row ∈ rs, row.length = z e)
    (hrep : ∀ (i j : Nat) (row : List V) (u : V) (y : Value), rs[i]? = some row → row[j]? = some u → xs[i * z e + j]? = some y → Rep z w (roG m w) (fun k => inG m w id k ∧ f k = (i, j)) u y)
    (ho : w'.ownsRow 0 e (z e) x (rs.length + news.length) (xs ++ cells)) (hgr : w.grownBy w' (m.hd id).ownBlock) (hx : x.ownBlock = (m.hd id).ownBlock ∨ x.ownBlock = some w.heap.size) :
    ∃ m', RTV z (mem1.set id (some (.rows ep cv e (rs ++ news)))) (ep + 1) m' w' (.one (.ow id ep)) x ∧ Good z B w0 (mem1.set id (some (.rows ep cv e (rs ++ news)))) (ep + 1) m' w' ∧ Evo ep (ep + 1) mem (mem1.set id (some (.rows ep cv e (rs ++ news)))) m m' w w' := by
  classical
  have hx1 : x.oneCell' = true := by
    rcases ho.2 with ⟨rfl, _⟩ | ⟨g, cap, cur, rfl, _⟩ <;> rfl
  have hnD : ¬ D (id + 1) := by
    intro hd
    have := (hF.dead _ hd (by omega)).2
    simp [h0] at this
  have hoth : ∀ k, k < w.heap.size → m.G k ≠ id + 1 → w'.heap[k]? = w.heap[k]? := fun k hk hn => hgr.block k hk (fun he => hn (hG k he.symm))
  have hin : ∀ k, inG m w id k → inG (m.add id x (relabel m w.heap.size (fun k => x.ownBlock = some k) D id)) w' id k ∧ w'.heap[k]? = w.heap[k]? := by
    intro k hk
    obtain ⟨h1, h2, h3⟩ := hk
    refine ⟨⟨?_, ?_, Nat.lt_of_lt_of_le h3 hgr.size⟩, hgr.block k h3 h2⟩
    · show relabel m w.heap.size (fun k => x.ownBlock = some k) D id k = id + 1
      unfold relabel
      rw [if_neg (by omega)]
      split
      · rfl
      · exact h1
    · rw [Mp.add_same]
      rcases hx with hx | hx
      · rw [hx]; exact h2
      · rw [hx]; intro he; simp only [Option.some.injEq] at he; omega
  obtain ⟨h1, h2⟩ := set_good (ep' := ep + 1) (x := x) (G := relabel m w.heap.size (fun k => x.ownBlock = some k) D id) (b := .rows ep cv e (rs ++ news)) hg hF.gone h0 (by omega) (grown_below hgr hg.hB (fun k hk => hg.ge (hF.gone.2 _ _ h0) (hG k hk))) hoth
    (fun k hk => relabel_lt (fun l h h0 => ⟨hg.ne1 (hF.dead l h h0).1, (hF.dead l h h0).2⟩) hk)
    (fun k hk => by
      by_cases h : x.ownBlock = some k
      · exact .inr ⟨(relabel_ge hk).1 h, ownsRow_lt ho h⟩
      · exact .inl ((relabel_ge hk).2 h)) (fun bv c hb => by cases hb) (fun hv' cv' e' rs' hb => by cases hb; exact .inl (Nat.le_refl _))
    (fun hv' cv' e' rs' hb => by cases hb; exact .inr ⟨_, _, _, rfl, hin⟩) (fun hv' cv' e' rs1 rs2 _ hb l1 _ => by cases hb; omega) (fun hE => by
      refine ⟨by omega, by omega, xs ++ cells, fun k => if D (m.G k) ∧ m.G k ≠ 0 then (rs.length + (f2 k).1, (f2 k).2) else f k, ?_, fun k hk => ?_, fun row hrow => ?_, fun i j row u y hrow hu hy => ?_⟩
      · rw [Mp.add_same, List.length_append]; exact ho
      · rw [Mp.add_same] at hk
        show relabel m w.heap.size (fun k => x.ownBlock = some k) D id k = id + 1
        rcases hx with hx | hx
        · rw [hx] at hk
          have hlt := ownsRow_lt hown hk
          unfold relabel
          rw [if_neg (by omega)]
          split
          · rfl
          · exact hG k hk
        · rw [hx] at hk
          simp only [Option.some.injEq] at hk
          exact (relabel_ge (m := m) (new := fun k => x.ownBlock = some k) (D := D) (id := id) (by omega)).1 (by rw [hx, hk])
      · rcases List.mem_append.1 hrow with h | h
        · exact hlen0 row h
        · exact hlen row h
      · have hj : j < z e := by
          have h3 := (List.getElem?_eq_some_iff.1 hu).1
          rcases List.mem_append.1 (List.mem_of_getElem? hrow) with h | h
          · rwa [hlen0 row h] at h3
          · rwa [hlen row h] at h3
        rcases Nat.lt_or_ge i rs.length with hi | hi
        · rw [List.getElem?_append_left hi] at hrow
          have hlt : i * z e + j < xs.length := by
            rw [hown.1]
            have : (i + 1) * z e ≤ rs.length * z e := Nat.mul_le_mul_right _ hi
            rw [Nat.succ_mul] at this
            omega
          rw [List.getElem?_append_left hlt] at hy
          refine (hE.ro_move (hrep i j row u y hrow hu hy) (fun k h4 h5 => (hin k h4.1).2)).mono (fun _ h => h) (fun k h4 => ⟨(hin k h4.1).1, ?_⟩)
          have h5 : m.G k = id + 1 := h4.1.1
          show (if D (m.G k) ∧ m.G k ≠ 0 then (rs.length + (f2 k).1, (f2 k).2) else f k) = (i, j)
          rw [if_neg (by rw [h5]; exact fun h => hnD h.1)]
          exact h4.2
        · rw [List.getElem?_append_right hi] at hrow
          have he : i * z e + j - xs.length = (i - rs.length) * z e + j := by
            rw [hown.1, Nat.sub_mul]
            have : rs.length * z e ≤ i * z e := Nat.mul_le_mul_right _ hi
            omega
          rw [List.getElem?_append_right (by rw [hown.1]; have : rs.length * z e ≤ i * z e := Nat.mul_le_mul_right _ hi; omega), he] at hy
          refine (hE.ro_move (hF.rep (i - rs.length) j row u y hrow hu hy) (fun k h4 h5 => hoth k h5 (fun h6 => hnD (by rw [← h6]; exact h4.1)))).mono (fun _ h => h) (fun k h4 => ?_)
          obtain ⟨h5, h6, h7, h8⟩ := h4
          refine ⟨⟨relabel_in (m := m) (new := fun k => x.ownBlock = some k) (D := D) (id := id) h7 h5 h6, ?_, Nat.lt_of_lt_of_le h7 hgr.size⟩, ?_⟩
          · rw [Mp.add_same]
            intro hk
            rcases hx with hx | hx
            · rw [hx] at hk
              exact hnD (by rw [← hG k hk.symm]; exact h5)
            · rw [hx] at hk
              simp only [Option.some.injEq] at hk
              omega
          · show (if D (m.G k) ∧ m.G k ≠ 0 then (rs.length + (f2 k).1, (f2 k).2) else f k) = (i, j)
            rw [if_pos ⟨h5, h6⟩, h8]
            simp only [Prod.mk.injEq, and_true]
            omega)
  exact ⟨_, .one (.ow (by omega) hx1 (fun cv' e' rs' hm => (Mp.add_same _ _ _ _).symm)), h1, h2⟩

theorem step_append (hg : Good P.cellsOf B w0 S.mem S.ep m w) (hT : Tms P.cellsOf S m w a.tmps) {o : Oper} {c : Call} {r : TV × Mem × Nat} (ho : o.op = .call c) (hb : c.callee = .builtin .append)
    (h : stepB P S .append c.args.toList c.argTypes.toList = some r) : StepOk P B w0 S m w a o r := by
  obtain ⟨cs, hex⟩ := execOp_builtin (a := a) ho hb
  generalize hA : c.args.toList = al at h
  generalize hTt : c.argTypes.toList = tl at h
  unfold stepB at h
  split at h
  · rename_i hbb; cases hbb
  · rename_i x y T T' hbb
    rw [toList_two hA, toList_two hTt] at hex
    split at h
    · rename_i hTT
      subst hTT
      simp only [Option.bind_eq_some_iff] at h
      obtain ⟨d, hd, h⟩ := h
      split at h
      · rename_i e
        simp only [Option.bind_eq_some_iff] at h
        obtain ⟨zs, hzs, va, hva, vb, hvb, ⟨news, mem1⟩, hin, h⟩ := h
        have e1 : Array.map a.eval #[x, y] = #[a.eval x, a.eval y] := by simp
        have fin : ∀ v' w', (Builtin.append_ #[T, T] o.type #[a.eval x, a.eval y]).run P w = .ok v' w' → (execOp a.eval o).run P w = .ok (.value v') w' := by
          intro v' w' hr
          rw [hex, e1]
          unfold builtin
          exact run_value hr
        split at h
        · split at h
          · rename_i hc
            obtain ⟨hc1, hc2, hc3, hc4⟩ := hc
            simp only [Option.some.injEq] at h
            subst h
            have hzero := zero_info hc3 hzs hc2
            have hx : a.eval x = .slice none 0 0 := (evL_eq hT (by unfold evL; rw [hva])).1
            obtain ⟨A, cp, cells, D, f, g1, g2, g3, g4, g5, g6⟩ := rowsIn_rep hg (ev1_rv hT hvb) hc3 hin
            obtain ⟨v', w', q1, q2, q3, q4⟩ := append_run (ty := o.type) (w := w) (c := cp) hd hc3 hc4 hzero (v := .slice none 0 0) (n := 0) (xs := []) ⟨by simp, .inl ⟨rfl, rfl⟩⟩ g2 g3 g5 (by simpa using hc1)
            obtain ⟨m', r1, r2, r3⟩ := rows_res hg (e := e) (cs := cells) (x := v') (w' := w') g6 g4 (grown_below q3 (Nat.le_refl _) (fun k hk => by cases hk)) (by simpa using q2) (fun k hk => by
              rcases q4 with q4 | q4
              · rw [hk] at q4; cases q4
              · rw [hk] at q4; simp only [Option.some.injEq] at q4; omega)
            exact ⟨fun hq => by simp [quietKind, ho, hb] at hq, v', w', fin _ _ (by rw [hx, g1]; exact q1), fun hq => by simp [freshKind, quietKind, ho, hb] at hq, m', r1, r2, r3⟩
          · cases h
        · rename_i id hv
          simp only [Option.bind_eq_some_iff] at h
          obtain ⟨q, hq, h⟩ := h
          split at h
          · rename_i hc
            obtain ⟨hc1, hc2, hce, hc3, hc4⟩ := hc
            simp only [Option.some.injEq] at h
            subst h
            have hzero := zero_info hc3 hzs hc2
            obtain ⟨A, cp, cells, D, f, g1, g2, g3, g4, g5, g6⟩ := rowsIn_rep hg (ev1_rv hT hvb) hc3 hin
            have hq' := rowsH_some hq
            have hq0 := g6.gone.2 _ _ hq'
            obtain ⟨_, hcv, xs, f0, hown, hG, hlen0, hrep⟩ := hg.blk _ _ hq0
            have hxv : a.eval x = m.hd id := by
              have hrv := ev1_rv hT hva
              generalize a.eval x = y' at hrv
              cases hrv with
              | ow hid h1 hh => exact hh _ _ _ hq0
            rw [hce] at hown hlen0 hrep hq'
            obtain ⟨v', w', q1, q2, q3, q4⟩ := append_run (ty := o.type) (w := w) (c := cp) hd hc3 hc4 hzero hown g2 g3 g5 (by simpa using hc1)
            obtain ⟨m', r1, r2, r3⟩ := grow_res hg hq' g6 g4 hcv hown hG hlen0 hrep q2 q3 q4
            exact ⟨fun hq => by simp [quietKind, ho, hb] at hq, v', w', fin _ _ (by rw [hxv, g1]; exact q1), fun hq => by simp [freshKind, quietKind, ho, hb] at hq, m', r1, r2, r3⟩
          · cases h
        · cases h
      · cases h
    · cases h
  · rename_i hbb; cases hbb
  · rename_i hbb; cases hbb
  · cases h
end
end Go.Proofs.Ytanglbgincgmaaa.Vm
namespace Go.Proofs.Ytanglbgincgmaaa.Vm
open Go Go.RowKit
set_option linter.unusedVariables false
section
variable {P : Program} {S : St} {m : Mp} {w w' w0 : World} {a : Act} {B : Nat} {z : Nat → Nat} {mem mem1 : Mem} {ep ep' : Nat}

def Opt (d k : Nat) (o : Option Value) : Prop := (o = none ∧ k = d) ∨ o = some (.int .i64 k)
theorem optN_opt (hT : Tms P.cellsOf S m w a.tmps) {d k : Nat} {o : Option Operand} (h : optN S d o = some k) : Opt d k (o.map a.eval) := by
  cases o with
  | none => simp only [optN, Option.some.injEq] at h; exact .inl ⟨rfl, h.symm⟩
  | some x =>
    simp only [optN, Option.bind_eq_some_iff] at h
    obtain ⟨v, hv, hn⟩ := h
    right
    simp only [Option.map_some, (evL_eq hT hv).1, natOf_some hn]
theorem bound_run {k y : Nat} {c : BoundsCode} (h : k ≤ y) (w : World) : (Instr.sliceBound (.int .i64 k) y c).run P w = .ok k w := by
  unfold Instr.sliceBound asIntOf
  have : (k : Int) ≤ (y : Int) := by omega
  simp [this]
theorem cut_run {T e l h n c : Nat} {A : Option Addr} {lo hi : Option Value} (hT : P.underlying T = some (.slice e)) (hz : P.cellsOf e ≠ 0) (hl : Opt 0 l lo) (hh : Opt n h hi) (h1 : l ≤ h) (h2 : h ≤ n) (h3 : n ≤ c) (w : World) :
    (Instr.sliceAt T (.slice A n c) lo hi none).run P w = .ok (.slice (if c = l then A else A.map (·.add (l * P.cellsOf e))) (h - l) (c - l)) w := by
  unfold Instr.sliceAt Instr.slice Instr.sliceBounds
  rcases hl with ⟨rfl, rfl⟩ | rfl <;> rcases hh with ⟨rfl, rfl⟩ | rfl <;> simp [run_underlying hT, run_size hz, bound_run h1, bound_run (Nat.le_trans h2 h3)]

theorem sub_rep {ro ok : Nat → Prop} {e n c : Nat} {A : Option Addr} {rows : List (List V)} (h : Rep z w ro ok (.sl false e rows) (.slice A n c)) {l k : Nat} (hl : l ≤ k) (hk : k ≤ rows.length) :
    n = rows.length ∧ n ≤ c ∧ Rep z w ro ok (.sl false e ((rows.take k).drop l)) (.slice (if c = l then A else A.map (·.add (l * z e))) (k - l) (c - l)) := by
  cases h with
  | roS ad y hc hm hrow hA hro hcell hr =>
    refine ⟨rfl, hc, ?_⟩
    have hlen : ((rows.take k).drop l).length = k - l := by simp; omega
    have hget : ∀ (i : Nat) (row : List V), ((rows.take k).drop l)[i]? = some row → rows[l + i]? = some row := by
      intro i row h
      rw [List.getElem?_drop, List.getElem?_take] at h
      split at h
      · exact h
      · cases h
    rw [← hlen]
    refine .roS (ad.add (l * z e)) (fun i j => y (l + i) j) (by rw [hlen]; omega) (by omega) (fun row hrow' => ?_) (fun hne => ?_) (fun i j row u a b => ?_) (fun i j row u a b => ?_) (fun i j row u a b => hr (l + i) j row u (hget i row a) b)
    · exact hrow row (List.mem_of_mem_take (List.mem_of_mem_drop hrow'))
    · have h0 : k - l ≠ 0 := by
        intro h0
        apply hne
        exact List.length_eq_zero_iff.1 (by rw [hlen, h0])
      rw [if_neg (by omega), hA (by intro he; rw [he] at hk; simp at hk; omega)]
      rfl
    · rw [add_block]
      exact hro (l + i) j row u (hget i row a) b
    · rw [Go.Deep.add_add, ← hcell (l + i) j row u (hget i row a) b, Nat.add_mul, Nat.add_assoc]

/-- An own row that is cut at its end. -/
theorem trunc_res (hg : Good z B w0 mem ep m w) {id hv cv e : Nat} {rs : List (List V)} (h0 : mem[id]? = some (some (.rows hv cv e rs))) {A : Option Addr} {n c k : Nat} (hx : m.hd id = .slice A n c) (hk : k ≤ rs.length) :
    ∃ m', RTV z (mem.set id (some (.rows ep cv e (rs.take k)))) (ep + 1) m' w (.one (.ow id ep)) (.slice A k c) ∧ Good z B w0 (mem.set id (some (.rows ep cv e (rs.take k)))) (ep + 1) m' w ∧ Evo ep (ep + 1) mem (mem.set id (some (.rows ep cv e (rs.take k)))) m m' w w := by
  obtain ⟨_, hcv, xs, f, hown, hG, hlen, hrep⟩ := hg.blk _ _ h0
  have hb : (Value.slice A k c).ownBlock = (m.hd id).ownBlock := by rw [hx]; cases A <;> rfl
  have hin : ∀ j, inG m w id j → inG (m.add id (.slice A k c) m.G) w id j := by
    intro j hj
    exact ⟨hj.1, by rw [Mp.add_same, hb]; exact hj.2.1, hj.2.2⟩
  obtain ⟨h1, h2⟩ := set_good (ep' := ep + 1) (x := .slice A k c) (G := m.G) (b := .rows ep cv e (rs.take k)) hg (Gone.refl mem) h0 (by omega) (Below.refl _ _) (fun _ _ _ => rfl)
    (fun k hk => .inl rfl) (fun k hk => .inl (by
      rcases Nat.eq_zero_or_pos (m.G k) with h | h
      · exact h
      · have := (hg.lab k (by omega)).1; omega)) (fun bv c hb => by cases hb) (fun hv' cv' e' rs' hb => by cases hb; exact .inl (Nat.le_refl _))
    (fun hv' cv' e' rs' hb => by cases hb; exact .inr ⟨_, _, _, rfl, fun k hk => ⟨hin k hk, rfl⟩⟩) (fun hv' cv' e' rs1 rs2 _ hb l1 _ => by cases hb; omega) (fun hE => by
      refine ⟨by omega, by omega, xs.take (k * z e), f, ?_, fun j hj => ?_, fun row hrow => hlen row (List.mem_of_mem_take hrow), fun i j row u y hrow hu hy => ?_⟩
      · rw [Mp.add_same]
        have hle : k * z e ≤ rs.length * z e := Nat.mul_le_mul_right _ hk
        have hl2 : (rs.take k).length = k := by simp; omega
        rw [hl2]
        refine ⟨by rw [List.length_take, hown.1]; omega, ?_⟩
        rcases hown.2 with ⟨h3, h4⟩ | ⟨g, cap, cur, h3, h4, h5, h6, h7, h8, h9⟩
        · rw [hx] at h3
          cases h3
          have : k = 0 := by omega
          subst this
          exact .inl ⟨rfl, rfl⟩
        · rw [hx] at h3
          cases h3
          exact .inr ⟨g, c, cur, rfl, h4, h5, by omega, h7, h8, by rw [← h9, List.take_take]; congr 1; omega⟩
      · rw [Mp.add_same, hb] at hj
        exact hG j hj
      · have hrow' : rs[i]? = some row := by
          rw [List.getElem?_take] at hrow
          split at hrow
          · exact hrow
          · cases hrow
        have hy' : xs[i * z e + j]? = some y := by
          rw [List.getElem?_take] at hy
          split at hy
          · exact hy
          · cases hy
        exact (hE.ro_move (hrep i j row u y hrow' hu hy') (fun _ _ _ => rfl)).mono (fun _ h => h) (fun k hk => ⟨hin k hk.1, hk.2⟩))
  exact ⟨_, .one (.ow (by omega) rfl (fun cv' e' rs' hm => (Mp.add_same _ _ _ _).symm)), h1, h2⟩

/-- A row that nobody writes any more. -/
theorem freeze (hg : Good z B w0 mem ep m w) {id hv cv e : Nat} {rs : List (List V)} (h0 : mem[id]? = some (some (.rows hv cv e rs))) :
    ∃ m', Good z B w0 (mem.set id none) ep m' w ∧ Evo ep ep mem (mem.set id none) m m' w w ∧ Rep z w (roG m' w) (fun _ => False) (.sl false e (erRows rs)) (m.hd id) := by
  obtain ⟨_, hcv, xs, f, hown, hG, hlen, hrep⟩ := hg.blk _ _ h0
  let m' : Mp := ⟨fun k => if m.G k = id + 1 then 0 else m.G k, m.hd⟩
  have hg0 := (Gone.set mem id).good hg
  have hne : ∀ (i : Nat) (b : Blk), (mem.set id none)[i]? = some (some b) → i ≠ id ∧ mem[i]? = some (some b) := by
    intro i b h
    refine ⟨fun he => ?_, (Gone.set mem id).2 _ _ h⟩
    subst he
    have hlt : i < mem.length := (List.getElem?_eq_some_iff.1 h0).1
    rw [List.getElem?_set_self hlt] at h
    cases h
  have hlab : ∀ i k, i ≠ id → m.G k = i + 1 → m'.G k = i + 1 := by
    intro i k hi hk
    show (if m.G k = id + 1 then 0 else m.G k) = i + 1
    rw [if_neg (by omega), hk]
  have hE : Evo ep ep mem (mem.set id none) m m' w w := by
    refine ⟨Nat.le_refl _, Nat.le_refl _, fun k hk => ⟨?_, rfl⟩, fun k hk _ => ?_, fun i bv c hc => .inr ⟨c, (hne _ _ hc).2, rfl⟩, fun i hv cv e rs hc => .inr ⟨cv, rs, (hne _ _ hc).2, rfl⟩, fun i hv cv e rs hc => .inr ⟨hv, e, rs, (hne _ _ hc).2, fun k hk => ⟨⟨hlab _ _ (hne _ _ hc).1 hk.1, hk.2⟩, rfl⟩⟩, fun i hv cv e rs rs' h3 hc _ _ => by
      obtain ⟨_, _, _, rfl⟩ := rows_inj4 h3 (hne _ _ hc).2
      exact NestEq.same (fun _ _ _ => rfl)⟩
    · show (if m.G k = id + 1 then 0 else m.G k) = 0
      rw [hk.1]
      simp
    · refine ⟨?_, rfl⟩
      show (if m.G k = id + 1 then 0 else m.G k) = 1
      rw [if_neg, hk]
      rw [hk]
      have h6 := hg.fst
      intro h7
      obtain rfl : id = 0 := by omega
      rw [h0] at h6
      cases h6
  refine ⟨m', ⟨fun i b hb => (hg.blk i b (hne _ _ hb).2).keep hE rfl (fun k hk _ => ⟨hlab _ _ (hne _ _ hb).1 hk, rfl⟩), fun k hk => ?_, hg.below, hg.hB, hg0.fst⟩, hE, ?_⟩
  · have hk' : (if m.G k = id + 1 then 0 else m.G k) ≠ 0 := hk
    split at hk'
    · exact absurd rfl hk'
    · rename_i hne'
      have h6 := hg.lab k hk'
      refine ⟨h6.1, h6.2.imp (fun e => e) (fun e => ?_)⟩
      show (if m.G k = id + 1 then 0 else m.G k) = 1
      rw [if_neg hne', e]
  · have hR : Rep z w (roG m w) (fun k => m.G k = id + 1 ∧ k < w.heap.size) (.sl true e rs) (m.hd id) :=
      .own xs f hown (fun k hk => ⟨hG k hk, ownsRow_lt hown hk⟩) hlen (fun i j row u y a b c => (hrep i j row u y a b c).mono (fun _ h => h) (fun k hk => ⟨⟨hk.1.1, hk.1.2.2⟩, hk.1.2.1, hk.2⟩))
    have := hR.erase (ok' := fun _ => False)
    simp only [V.er] at this
    refine this.mono (fun k hk => ?_) (fun _ h => h)
    rcases hk with hk | hk
    · refine ⟨?_, hk.2⟩
      show (if m.G k = id + 1 then 0 else m.G k) = 0
      rw [hk.1]
      simp
    · refine ⟨?_, hk.2⟩
      show (if m.G k = id + 1 then 0 else m.G k) = 0
      rw [if_pos hk.1]

theorem step_slice (hg : Good P.cellsOf B w0 S.mem S.ep m w) (hT : Tms P.cellsOf S m w a.tmps) {o : Oper} {T : Nat} {x : Operand} {lo hi : Option Operand} {r : TV × Mem × Nat} (ho : o.op = .slice T x lo hi none) (h : stepOp P S o = some r) : StepOk P B w0 S m w a o r := by
  have hex : execOp a.eval o = (do let x ← Instr.sliceAt T (a.eval x) (lo.map a.eval) (hi.map a.eval) none; pure (Next.value x)) := by
    unfold execOp
    simp only [ho]
    rfl
  unfold stepOp at h
  simp only [ho, Option.bind_eq_some_iff] at h
  obtain ⟨v, hv, h⟩ := h
  have hrv := ev1_rv hT hv
  split at h
  · rename_i v
    simp only [Option.bind_eq_some_iff] at h
    obtain ⟨d, hd, h⟩ := h
    split at h
    · simp only [Option.bind_eq_some_iff, Option.some.injEq] at h
      obtain ⟨lo', hlo, hi', hhi, v', hq, tv, hl, rfl⟩ := h
      have ex : a.eval x = v := (evL_eq hT (by unfold evL; rw [hv])).1
      have el : lo.map a.eval = lo' := by
        cases lo with
        | none => simpa using hlo
        | some y =>
          simp only [Option.map_eq_some_iff] at hlo
          obtain ⟨u, hu, rfl⟩ := hlo
          simp [(evL_eq hT hu).1]
      have eh : hi.map a.eval = hi' := by
        cases hi with
        | none => simpa using hhi
        | some y =>
          simp only [Option.map_eq_some_iff] at hhi
          obtain ⟨u, hu, rfl⟩ := hhi
          simp [(evL_eq hT hu).1]
      refine StepOk.value hg hex (fun w' _ => ?_) (lift_rtv hl)
      rw [ex, el, eh]
      have h2 := quiet_run hq w'
      unfold Instr.sliceAt
      simp [run_underlying hd, h2]
    · cases h
  · rename_i e rows
    simp only [Option.bind_eq_some_iff] at h
    obtain ⟨l, hl, k, hk, d, hd, h⟩ := h
    split at h
    · split at h
      · rename_i hc
        obtain ⟨h1, h2, rfl, h3⟩ := hc
        simp only [Option.some.injEq] at h
        subst h
        generalize hy : a.eval x = y at hrv
        cases hrv with
        | ro hrep =>
          obtain ⟨A, n, c, rfl⟩ : ∃ A n c, y = .slice A n c := by cases hrep; exact ⟨_, _, _, rfl⟩
          obtain ⟨g1, g2, g3⟩ := sub_rep hrep h1 h2
          subst g1
          exact StepOk.value hg hex (fun w' _ => by rw [hy]; exact cut_run hd h3 (optN_opt hT hl) (optN_opt hT hk) h1 h2 g2 w') (.one (.ro g3))
      · cases h
    · cases h
  · rename_i id cv e rows
    simp only [Option.bind_eq_some_iff] at h
    obtain ⟨l, hl, k, hk, d, hd, h⟩ := h
    split at h
    · split at h
      · rename_i hc
        obtain ⟨h1, h2, rfl, h3, hs⟩ := hc
        simp only [Option.some.injEq] at h
        subst h
        generalize hy : a.eval x = y at hrv
        cases hrv with
        | vw hid hone hh hpp =>
          obtain ⟨hv, e', rs, hm⟩ := seenC_some hs
          have hrep := hh _ _ _ hm
          obtain ⟨A, n, c, rfl⟩ : ∃ A n c, y = .slice A n c := by cases hrep; exact ⟨_, _, _, rfl⟩
          obtain ⟨g1, g2, g3⟩ := sub_rep hrep h1 h2
          subst g1
          exact StepOk.value hg hex (fun w' _ => by rw [hy]; exact cut_run hd h3 (optN_opt hT hl) (optN_opt hT hk) h1 h2 g2 w') (.one (.vw hid rfl (fun _ _ _ _ => g3) PosOk.none))
      · cases h
    · cases h
  · rename_i id hv
    simp only [Option.bind_eq_some_iff] at h
    obtain ⟨b, hb, l, hl, k, hk, d, hd, h⟩ := h
    split at h
    · split at h
      · rename_i hc
        obtain ⟨h1, h2, rfl, h3⟩ := hc
        have hb' := rowsH_some hb
        generalize hy : a.eval x = y at hrv
        cases hrv with
        | ow hid hone hh =>
          have hy' := hh _ _ _ hb'
          subst hy'
          obtain ⟨_, _, xs, f, hown, hG, hlen, hrep⟩ := hg.blk _ _ hb'
          obtain ⟨A, c, hx, hn, hm, hcs⟩ := ownsRow_slice hown
          split at h
          · rename_i hl0
            subst hl0
            simp only [Option.some.injEq] at h
            subst h
            obtain ⟨m', r1, r2, r3⟩ := trunc_res hg hb' hx h2
            refine ⟨fun hq => by simp [quietKind, ho] at hq, _, _, ?_, fun hq => by simp [freshKind, quietKind, ho] at hq, m', r1, r2, r3⟩
            rw [hex, hy, hx]
            refine run_value ?_
            rw [cut_run hd h3 (optN_opt hT hl) (optN_opt hT hk) h1 h2 hn w]
            have : (if c = 0 then A else A.map (·.add (0 * P.cellsOf b.2.1))) = A := by
              split
              · rfl
              · cases A with
                | none => rfl
                | some ad => simp [Addr.add]
            rw [this]
            simp
          · simp only [Option.some.injEq] at h
            subst h
            obtain ⟨m', r1, r2, r3⟩ := freeze hg hb'
            rw [hx] at r3
            have hle : (erRows b.2.2).length = b.2.2.length := by rw [erRows_map]; simp
            obtain ⟨g1, g2, g3⟩ := sub_rep r3 h1 (by rw [hle]; exact h2)
            have he : erRows ((b.2.2.take k).drop l) = ((erRows b.2.2).take k).drop l := by
              simp [erRows_map, List.map_drop, List.map_take]
            have hrun := cut_run hd h3 (optN_opt hT hl) (optN_opt hT hk) h1 h2 hn w (A := A) (c := c)
            refine ⟨fun hq => by simp [quietKind, ho] at hq, _, w, ?_, fun hq => by simp [freshKind, quietKind, ho] at hq, m', .one (.ro (he ▸ g3)), r1, r2⟩
            rw [hex, hy, hx]
            exact run_value hrun
      · cases h
    · cases h
  · cases h
end
end Go.Proofs.Ytanglbgincgmaaa.Vm
namespace Go.Proofs.Ytanglbgincgmaaa.Vm
open Go Go.RowKit
set_option linter.unusedVariables false
section
variable {P : Program} {S : St} {m : Mp} {w w' w0 : World} {a : Act} {B : Nat} {z : Nat → Nat} {mem mem1 mem' : Mem} {ep ep' : Nat}

theorem putL_seg {α : Type} : ∀ (cs l : List α) (k : Nat), k + cs.length ≤ l.length → putL l k cs = l.take k ++ cs ++ l.drop (k + cs.length) := by
  intro cs
  induction cs with
  | nil => intro l k h; simp [putL]
  | cons c cs ih =>
    intro l k h
    simp only [List.length_cons] at h
    simp only [putL]
    rw [ih (l.set k c) (k + 1) (by simp; omega)]
    apply List.ext_getElem?
    intro j
    have hk : (l.take k).length = k := by simp; omega
    have hk1 : ((l.set k c).take (k + 1)).length = k + 1 := by simp; omega
    simp only [List.append_assoc]
    rcases Nat.lt_or_ge j k with h1 | h1
    · rw [List.getElem?_append_left (by omega), List.getElem?_append_left (by omega), List.getElem?_take, List.getElem?_take, if_pos (by omega), if_pos h1, List.getElem?_set_ne (by omega)]
    · rcases Nat.eq_or_lt_of_le h1 with h2 | h2
      · subst h2
        rw [List.getElem?_append_left (by omega), List.getElem?_append_right (by omega), List.getElem?_take, if_pos (by omega), hk, List.getElem?_set_self (by omega)]
        simp
      · rw [List.getElem?_append_right (l₁ := (l.set k c).take (k + 1)) (by omega), List.getElem?_append_right (l₁ := l.take k) (by omega), hk1, hk]
        obtain ⟨d, rfl⟩ : ∃ d, j = k + 1 + d := ⟨j - (k + 1), by omega⟩
        rw [show k + 1 + d - (k + 1) = d from by omega, show k + 1 + d - k = d + 1 from by omega]
        simp only [List.cons_append, List.getElem?_cons_succ, List.length_cons]
        rw [show k + (cs.length + 1) = k + 1 + cs.length from by omega]
        rcases Nat.lt_or_ge d cs.length with h3 | h3
        · rw [List.getElem?_append_left h3, List.getElem?_append_left h3]
        · rw [List.getElem?_append_right h3, List.getElem?_append_right h3, List.getElem?_drop, List.getElem?_drop, List.getElem?_set_ne (by omega)]
/-- What stands in a list that was written to. -/
theorem seg_get {α : Type} {l cs : List α} {k : Nat} (h : k + cs.length ≤ l.length) {j : Nat} {x : α} (hj : (l.take k ++ cs ++ l.drop (k + cs.length))[j]? = some x) :
    ((j < k ∨ k + cs.length ≤ j) ∧ l[j]? = some x) ∨ ∃ d, j = k + d ∧ cs[d]? = some x := by
  have hk : (l.take k).length = k := by simp; omega
  rw [List.append_assoc] at hj
  rcases Nat.lt_or_ge j k with h1 | h1
  · rw [List.getElem?_append_left (by omega), List.getElem?_take, if_pos h1] at hj
    exact .inl ⟨.inl h1, hj⟩
  · rw [List.getElem?_append_right (by omega), hk] at hj
    rcases Nat.lt_or_ge (j - k) cs.length with h2 | h2
    · rw [List.getElem?_append_left h2] at hj
      exact .inr ⟨j - k, by omega, hj⟩
    · rw [List.getElem?_append_right h2, List.getElem?_drop, show k + cs.length + (j - k - cs.length) = j from by omega] at hj
      exact .inl ⟨.inr (by omega), hj⟩
theorem seg_len {α : Type} {l cs : List α} {k : Nat} (h : k + cs.length ≤ l.length) : (l.take k ++ cs ++ l.drop (k + cs.length)).length = l.length := by simp; omega

def SetOk (z : Nat → Nat) (B : Nat) (w0 : World) (mem : Mem) (ep : Nat) (m : Mp) (w : World) (mem' : Mem) (ep' : Nat) (w' : World) : Prop := ∃ m', Good z B w0 mem' ep' m' w' ∧ Evo ep ep' mem mem' m m' w w'

/-- A box that is written to. -/
theorem box_set (hg : Good z B w0 mem ep m w) {id bv : Nat} {cells : List V} (h0 : mem[id]? = some (some (.box bv cells))) {cs : List V} {ys : List Value} {off : Nat} (hl : ys.length = cs.length)
    (hr : ∀ (j : Nat) (u : V) (y : Value), cs[j]? = some u → ys[j]? = some y → RV z mem ep m w u y) (hle : off + cs.length ≤ cells.length) :
    ∃ g cur T, m.hd id = .pointer (some ⟨g, 0, none⟩) ∧ w.heap[g]? = some (.cells cur T (0, 0)) ∧ off + ys.length ≤ cur.size ∧
      SetOk z B w0 mem ep m w (mem.set id (some (.box bv (putL cells off cs)))) ep (w.setRow g (cur.toList.take off ++ ys ++ cur.toList.drop (off + ys.length)).toArray) := by
  obtain ⟨hbv, g, T, cur, hd, hheap, hG, hsz, hrv⟩ := hg.blk _ _ h0
  have hcl : cur.toList.length = cur.size := Array.length_toList
  have hfit : off + ys.length ≤ cur.toList.length := by omega
  have hB := hg.ge h0 hG
  have heap : (w.setRow g (cur.toList.take off ++ ys ++ cur.toList.drop (off + ys.length)).toArray).heap[g]? = some (.cells (cur.toList.take off ++ ys ++ cur.toList.drop (off + ys.length)).toArray T (0, 0)) := setRow_heap w g cur _ T _ hheap
  have hoth : ∀ k, k ≠ g → (w.setRow g (cur.toList.take off ++ ys ++ cur.toList.drop (off + ys.length)).toArray).heap[k]? = w.heap[k]? := fun k hk => setRow_other w g k _ hk
  have hsize : (w.setRow g (cur.toList.take off ++ ys ++ cur.toList.drop (off + ys.length)).toArray).heap.size = w.heap.size := size_setRow w g _
  have hbel : Below B w (w.setRow g (cur.toList.take off ++ ys ++ cur.toList.drop (off + ys.length)).toArray) := below_setRow (Below.refl _ _) hB _
  refine ⟨g, cur, T, hd, hheap, by omega, ?_⟩
  generalize w.setRow g (cur.toList.take off ++ ys ++ cur.toList.drop (off + ys.length)).toArray = w' at heap hoth hsize hbel ⊢
  refine ⟨m.add id (m.hd id) m.G, ?_⟩
  refine set_good (ep' := ep) (x := m.hd id) (G := m.G) (b := .box bv (putL cells off cs)) hg (Gone.refl mem) h0 (Nat.le_refl _) hbel (fun k hk hn => hoth k (fun he => hn (by rw [he]; exact hG)))
    (fun k hk => .inl rfl) (fun k hk => .inl (by
      rcases Nat.eq_zero_or_pos (m.G k) with h | h
      · exact h
      · have := (hg.lab k (by omega)).1; omega)) (fun bv' c hb => by cases hb; exact .inr ⟨_, rfl, rfl⟩) (fun _ _ _ _ hb => by cases hb) (fun _ _ _ _ hb => by cases hb) (fun _ _ _ _ _ hb => by cases hb) (fun hE => ?_)
  refine ⟨hbv, g, T, _, by rw [Mp.add_same]; exact hd, heap, hG, ?_, fun j u y hu hy => ?_⟩
  · rw [putL_seg _ _ _ hle, seg_len hle, List.size_toArray, seg_len hfit, Array.length_toList, hsz]
  · rw [putL_seg _ _ _ hle] at hu
    rw [List.getElem?_toArray] at hy
    rcases seg_get hle hu with ⟨h1, h2⟩ | ⟨d, rfl, h2⟩
    · rcases seg_get hfit hy with ⟨h3, h4⟩ | ⟨d, h3, h4⟩
      · exact (hrv j u y h2 (by simpa using h4)).evo hE
      · have := (List.getElem?_eq_some_iff.1 h4).1
        omega
    · have hlt := (List.getElem?_eq_some_iff.1 h2).1
      rcases seg_get hfit hy with ⟨h3, h4⟩ | ⟨d', h3, h4⟩
      · omega
      · have : d' = d := by omega
        subst this
        exact (hr _ u y h2 h4).evo hE

/-- A row of an own slice that is written to. -/
theorem row_set (ov : Bool) (hg : Good z B w0 mem ep m w) {id hv cv e i off : Nat} {rs : List (List V)} {row : List V} {cs cs' : List V} {ys : List Value} (hl : ys.length = cs.length)
    (hr : ∀ (j : Nat) (u : V) (y : Value), cs[j]? = some u → ys[j]? = some y → RV z mem ep m w u y) (hf : foldL mem cs = some (cs', mem1)) (h0 : mem1[id]? = some (some (.rows hv cv e rs))) (hrow : rs[i]? = some row) (hle : off + cs.length ≤ row.length) (hov : ov = overB row off cs.length) :
    ∃ g cur T, (m.hd id).ownBlock = some g ∧ w.heap[g]? = some (.cells cur T (0, 0)) ∧ i * z e + off + ys.length ≤ cur.size ∧
      SetOk z B w0 mem ep m w (mem1.set id (some (.rows hv (if ov then ep else cv) e (rs.set i (putL row off cs'))))) (if ov then ep + 1 else ep) (w.setRow g (cur.toList.take (i * z e + off) ++ ys ++ cur.toList.drop (i * z e + off + ys.length)).toArray) := by
  classical
  obtain ⟨hl', hG1, L, hF, hinj, hdead⟩ := foldL_rep cs mem mem1 cs' ys hg hl hr hf
  have hm0 := hG1.2 _ _ h0
  obtain ⟨hhv, hcv, xs, f, hown, hG, hlen, hrep⟩ := hg.blk _ _ hm0
  have hi := (List.getElem?_eq_some_iff.1 hrow).1
  have hrl := hlen row (List.mem_of_getElem? hrow)
  have hown2 := hown
  obtain ⟨hxl, h2⟩ := hown
  rcases h2 with ⟨h3, h4⟩ | ⟨g, cap, cur, h3, h4, h5, h6, h7, h8, h9⟩
  · omega
  have hgb : (m.hd id).ownBlock = some g := by rw [h3]; rfl
  have hGg := hG g hgb
  have hmul : (i + 1) * z e ≤ rs.length * z e := Nat.mul_le_mul_right _ hi
  have hmul2 : rs.length * z e ≤ cap * z e := Nat.mul_le_mul_right _ h6
  rw [Nat.succ_mul] at hmul
  have hcl : cur.toList.length = cur.size := Array.length_toList
  have hfit : i * z e + off + ys.length ≤ cur.toList.length := by omega
  have hfit2 : i * z e + off + ys.length ≤ xs.length := by rw [hxl]; omega
  have hB := hg.ge hm0 hGg
  have heap : (w.setRow g (cur.toList.take (i * z e + off) ++ ys ++ cur.toList.drop (i * z e + off + ys.length)).toArray).heap[g]? = some (.cells (cur.toList.take (i * z e + off) ++ ys ++ cur.toList.drop (i * z e + off + ys.length)).toArray e (0, 0)) := setRow_heap w g cur _ e _ h5
  have hoth : ∀ k, k ≠ g → (w.setRow g (cur.toList.take (i * z e + off) ++ ys ++ cur.toList.drop (i * z e + off + ys.length)).toArray).heap[k]? = w.heap[k]? := fun k hk => setRow_other w g k _ hk
  have hsize : (w.setRow g (cur.toList.take (i * z e + off) ++ ys ++ cur.toList.drop (i * z e + off + ys.length)).toArray).heap.size = w.heap.size := size_setRow w g _
  have hbel : Below B w (w.setRow g (cur.toList.take (i * z e + off) ++ ys ++ cur.toList.drop (i * z e + off + ys.length)).toArray) := below_setRow (Below.refl _ _) hB _
  refine ⟨g, cur, e, hgb, h5, by simpa using hfit, ?_⟩
  generalize w.setRow g (cur.toList.take (i * z e + off) ++ ys ++ cur.toList.drop (i * z e + off + ys.length)).toArray = w' at heap hoth hsize hbel ⊢
  let D : Nat → Prop := fun l => ∃ j, L j ≠ 0 ∧ L j = l
  have hD : ∀ l, D l → l ≠ 0 → l ≠ 1 ∧ mem1[l - 1]? = some none := by
    intro l hl h0'
    obtain ⟨j, h1, h2⟩ := hl
    rw [← h2]
    exact ⟨hg.ne1 (hdead j h1).1, (hdead j h1).2⟩
  have hnD : ¬ D (id + 1) := by
    intro hd
    have := (hD _ hd (by omega)).2
    simp [h0] at this
  let pl : Nat → Nat := fun l => if h : ∃ j, L j ≠ 0 ∧ L j = l then h.choose else 0
  have hpl : ∀ j, L j ≠ 0 → pl (L j) = j := by
    intro j hj
    have hex : ∃ j', L j' ≠ 0 ∧ L j' = L j := ⟨j, hj, rfl⟩
    show (if h : ∃ j', L j' ≠ 0 ∧ L j' = L j then h.choose else 0) = j
    rw [dif_pos hex]
    exact hinj _ _ hex.choose_spec.1 hex.choose_spec.2
  have hin : ∀ k, inG m w id k → inG (m.add id (m.hd id) (relabel m w.heap.size (fun _ => False) D id)) w' id k ∧ w'.heap[k]? = w.heap[k]? := by
    intro k hk
    obtain ⟨q1, q2, q3⟩ := hk
    refine ⟨⟨?_, by rw [Mp.add_same]; exact q2, by omega⟩, hoth k (fun he => q2 (by rw [he]; exact hgb.symm))⟩
    show relabel m w.heap.size (fun _ => False) D id k = id + 1
    unfold relabel
    rw [if_neg (by omega)]
    split
    · rfl
    · exact q1
  refine ⟨m.add id (m.hd id) (relabel m w.heap.size (fun _ => False) D id), ?_⟩
  refine set_good (ep' := if ov then ep + 1 else ep) (x := m.hd id) (G := relabel m w.heap.size (fun _ => False) D id) (b := .rows hv (if ov then ep else cv) e (rs.set i (putL row off cs'))) hg hG1 h0 (by split <;> omega) hbel (fun k hk hn => hoth k (fun he => hn (by rw [he]; exact hGg)))
    (fun k hk => relabel_lt hD hk) (fun k hk => .inl ((relabel_ge hk).2 (fun h => h))) (fun _ _ hb => by cases hb) (fun _ _ _ _ hb => by cases hb; exact .inr ⟨_, _, rfl, rfl⟩) (fun _ _ _ _ hb => by
      cases hb
      cases ov with
      | true => exact .inl (Nat.le_refl _)
      | false => exact .inr ⟨_, _, _, rfl, hin⟩) (fun hv2 cv2 e2 rs1 rs2 hb1 hb2 l1 l2 => ?_) (fun hE => ?_)
  · cases hb1
    cases ov with
    | true =>
      simp only [if_true, Blk.rows.injEq] at hb2
      omega
    | false =>
      simp only [Bool.false_eq_true, if_false, Blk.rows.injEq, true_and] at hb2
      subst hb2
      intro i2 j2 row2 f2 r2 q1 q2
      have hr2 := hlen row2 (List.mem_of_getElem? q1)
      have hj2 : j2 < row2.length := (List.getElem?_eq_some_iff.1 q2).1
      have hi2 := (List.getElem?_eq_some_iff.1 q1).1
      have hnot : i2 = i → j2 < off ∨ off + cs.length ≤ j2 := by
        intro he
        subst he
        rw [hrow] at q1
        simp only [Option.some.injEq] at q1
        subst q1
        rcases Nat.lt_or_ge j2 off with h | h
        · exact .inl h
        rcases Nat.lt_or_ge j2 (off + cs.length) with h5 | h5
        · exfalso
          have hm : V.sl true f2 r2 ∈ (row.drop off).take cs.length := by
            refine List.mem_of_getElem? (i := j2 - off) ?_
            rw [List.getElem?_take, if_pos (by omega), List.getElem?_drop, show off + (j2 - off) = j2 from by omega]
            exact q2
          have : overB row off cs.length = true := List.any_eq_true.2 ⟨_, hm, rfl⟩
          rw [this] at hov
          cases hov
        · exact .inr h5
      refine ⟨?_, fun g2 x2 hg2 hx2 => ?_⟩
      · by_cases he : i2 = i
        · subst he
          rw [hrow] at q1
          simp only [Option.some.injEq] at q1
          subst q1
          refine ⟨putL row off cs', r2, by rw [List.getElem?_set_self hi], by rw [putL_seg _ _ _ (by omega), seg_len (by omega)], ?_⟩
          rw [putL_seg _ _ _ (by omega)]
          have hk : (row.take off).length = off := by rw [List.length_take]; omega
          rcases hnot rfl with h | h
          · rw [List.append_assoc, List.getElem?_append_left (by omega), List.getElem?_take, if_pos h]
            exact q2
          · rw [List.getElem?_append_right (by rw [List.length_append]; omega), List.length_append, hk, List.getElem?_drop, show off + cs'.length + (j2 - (off + cs'.length)) = j2 from by omega]
            exact q2
        · exact ⟨row2, r2, by rw [List.getElem?_set_ne (Ne.symm he)]; exact q1, rfl, q2⟩
      · rw [hgb] at hg2
        simp only [Option.some.injEq] at hg2
        subst hg2
        have hidx : i2 * row2.length + j2 < i * z e + off ∨ i * z e + off + ys.length ≤ i2 * row2.length + j2 := by
          rw [hr2]
          rcases Nat.lt_trichotomy i2 i with h | h | h
          · have : (i2 + 1) * z e ≤ i * z e := Nat.mul_le_mul_right _ h
            rw [Nat.succ_mul] at this
            omega
          · subst h
            rcases hnot rfl with h | h <;> omega
          · have : (i + 1) * z e ≤ i2 * z e := Nat.mul_le_mul_right _ h
            rw [Nat.succ_mul] at this
            omega
        simp only [World.cell?, h5, heap, Option.isSome_none, Bool.false_eq_true, if_false] at hx2 ⊢
        rw [List.getElem?_toArray]
        have hx3 : cur.toList[i2 * row2.length + j2]? = some x2 := by simpa using hx2
        have hk : (cur.toList.take (i * z e + off)).length = i * z e + off := by rw [List.length_take]; omega
        rcases hidx with h | h
        · rw [List.append_assoc, List.getElem?_append_left (by omega), List.getElem?_take, if_pos h]
          exact hx3
        · rw [List.getElem?_append_right (by rw [List.length_append]; omega), List.length_append, hk, List.getElem?_drop, show i * z e + off + ys.length + (i2 * row2.length + j2 - (i * z e + off + ys.length)) = i2 * row2.length + j2 from by omega]
          exact hx3
  have hle' : off + cs'.length ≤ row.length := by omega
  refine ⟨by split <;> omega, by split <;> omega, xs.take (i * z e + off) ++ ys ++ xs.drop (i * z e + off + ys.length), fun k => if D (m.G k) ∧ m.G k ≠ 0 then (i, off + pl (m.G k)) else f k, ?_, fun k hk => ?_, fun r hr' => ?_, fun i' j r u y hr' hu hy => ?_⟩
  · rw [Mp.add_same, List.length_set]
    refine ⟨by rw [seg_len hfit2, hxl], .inr ⟨g, cap, _, h3, h4, heap, h6, h7, by rw [List.size_toArray, seg_len hfit, Array.length_toList, h8], ?_⟩⟩
    rw [List.toList_toArray, ← h9]
    apply List.ext_getElem?
    intro j
    have e1 : (cur.toList.take (i * z e + off)).length = i * z e + off := by rw [List.length_take]; omega
    have hc : (cur.toList.take (rs.length * z e)).length = rs.length * z e := by rw [List.length_take]; omega
    have e2 : ((cur.toList.take (rs.length * z e)).take (i * z e + off)).length = i * z e + off := by rw [List.length_take]; omega
    simp only [List.append_assoc]
    rw [List.getElem?_take]
    rcases Nat.lt_or_ge j (rs.length * z e) with q | q
    · rw [if_pos q]
      rcases Nat.lt_or_ge j (i * z e + off) with q1 | q1
      · rw [List.getElem?_append_left (by omega), List.getElem?_append_left (by omega), List.getElem?_take, List.getElem?_take, List.getElem?_take, if_pos q1, if_pos q1, if_pos q]
      · rw [List.getElem?_append_right (l₁ := cur.toList.take (i * z e + off)) (by omega), List.getElem?_append_right (l₁ := (cur.toList.take (rs.length * z e)).take (i * z e + off)) (by omega), e1, e2]
        rcases Nat.lt_or_ge (j - (i * z e + off)) ys.length with q2 | q2
        · rw [List.getElem?_append_left q2, List.getElem?_append_left q2]
        · rw [List.getElem?_append_right q2, List.getElem?_append_right q2, List.getElem?_drop, List.getElem?_drop, List.getElem?_take, if_pos (by omega)]
    · rw [if_neg (by omega)]
      symm
      rw [List.getElem?_eq_none_iff, ← List.append_assoc, seg_len (by rw [hc]; omega), hc]
      exact q
  · rw [Mp.add_same] at hk
    have hkg : k = g := by rw [hgb] at hk; exact (Option.some.inj hk).symm
    subst hkg
    show relabel m w.heap.size (fun _ => False) D id k = id + 1
    unfold relabel
    rw [if_neg (by have := ownsRow_lt hown2 hgb; omega)]
    split
    · rfl
    · exact hGg
  · rcases List.mem_or_eq_of_mem_set hr' with h | h
    · exact hlen r h
    · rw [h, putL_seg _ _ _ hle', seg_len hle', hrl]
  · -- what stands at each place
    have old : ∀ (u : V) (y : Value) (r0 : List V), rs[i']? = some r0 → r0[j]? = some u → xs[i' * z e + j]? = some y → Rep z w' (roG (m.add id (m.hd id) (relabel m w.heap.size (fun _ => False) D id)) w') (fun k => inG (m.add id (m.hd id) (relabel m w.heap.size (fun _ => False) D id)) w' id k ∧ (if D (m.G k) ∧ m.G k ≠ 0 then (i, off + pl (m.G k)) else f k) = (i', j)) u y := by
      intro u y r0 a b c
      refine (hE.ro_move (hrep i' j r0 u y a b c) (fun k h4 h5 => (hin k h4.1).2)).mono (fun _ h => h) (fun k h4 => ⟨(hin k h4.1).1, ?_⟩)
      have h5 : m.G k = id + 1 := h4.1.1
      rw [if_neg (by rw [h5]; exact fun h => hnD h.1)]
      exact h4.2
    by_cases hii : i' = i
    · subst hii
      rw [List.getElem?_set_self hi] at hr'
      simp only [Option.some.injEq] at hr'
      subst hr'
      rw [putL_seg _ _ _ hle'] at hu
      have hj : j < row.length := by
        have := (List.getElem?_eq_some_iff.1 hu).1
        rwa [seg_len hle'] at this
      rcases seg_get hle' hu with ⟨q1, q2⟩ | ⟨d, rfl, q2⟩
      · rcases seg_get hfit2 hy with ⟨q3, q4⟩ | ⟨d, q3, q4⟩
        · exact old u y row hrow q2 q4
        · have := (List.getElem?_eq_some_iff.1 q4).1
          omega
      · have hlt := (List.getElem?_eq_some_iff.1 q2).1
        rcases seg_get hfit2 hy with ⟨q3, q4⟩ | ⟨d', q3, q4⟩
        · omega
        · have : d' = d := by omega
          subst this
          refine (hE.ro_move (hF _ u y q2 q4) (fun k h4 h5 => hoth k (fun he => ?_))).mono (fun _ h => h) (fun k h4 => ?_)
          · obtain ⟨q5, q6, q7⟩ := h4
            exact hnD ⟨_, q5, by rw [← q6, he, hGg]⟩
          · obtain ⟨q5, q6, q7⟩ := h4
            have hDk : D (m.G k) := ⟨_, q5, q6.symm⟩
            have h0k : m.G k ≠ 0 := by rw [q6]; exact q5
            refine ⟨⟨relabel_in (m := m) (new := fun _ => False) (D := D) (id := id) q7 hDk h0k, ?_, by omega⟩, ?_⟩
            · rw [Mp.add_same, hgb]
              intro he
              simp only [Option.some.injEq] at he
              subst he
              exact hnD (by rw [← hGg]; exact hDk)
            · show (if D (m.G k) ∧ m.G k ≠ 0 then (i', off + pl (m.G k)) else f k) = _
              rw [if_pos ⟨hDk, h0k⟩, q6, hpl _ q5]
    · rw [List.getElem?_set_ne (Ne.symm hii)] at hr'
      have hj : j < z e := by
        have := (List.getElem?_eq_some_iff.1 hu).1
        rwa [hlen r (List.mem_of_getElem? hr')] at this
      rcases seg_get hfit2 hy with ⟨q3, q4⟩ | ⟨d, q3, q4⟩
      · exact old u y r hr' hu q4
      · exfalso
        have hd := (List.getElem?_eq_some_iff.1 q4).1
        rcases Nat.lt_or_gt_of_ne hii with q5 | q5
        · have : (i' + 1) * z e ≤ i * z e := Nat.mul_le_mul_right _ q5
          rw [Nat.succ_mul] at this
          omega
        · have : (i + 1) * z e ≤ i' * z e := Nat.mul_le_mul_right _ q5
          rw [Nat.succ_mul] at this
          omega

/-- A row of a nested own slice that is written to. -/
theorem nest_set (hg : Good z B w0 mem ep m w) {id hv cv e i j e2 n off : Nat} {rs r2 : List (List V)} {row nr : List V} {cs : List V} {ys : List Value} (hl : ys.length = cs.length)
    (hr : ∀ (j : Nat) (u : V) (y : Value), cs[j]? = some u → ys[j]? = some y → RV z mem ep m w u y) (h0 : mem[id]? = some (some (.rows hv cv e rs))) (hrow : rs[i]? = some row) (hcell : row[j]? = some (.sl true e2 r2)) (hnr : r2[n]? = some nr)
    (hle : off + cs.length ≤ nr.length) (htame : cs.all tame = true) {x : Value} {g0 : Nat} (hg0 : (m.hd id).ownBlock = some g0) (hx : w.cell? ⟨g0, i * row.length + j, none⟩ = some x) :
    ∃ g cur T, x.ownBlock = some g ∧ w.heap[g]? = some (.cells cur T (0, 0)) ∧ n * z e2 + off + ys.length ≤ cur.size ∧
      SetOk z B w0 mem ep m w (mem.set id (some (.rows hv ep e (rs.set i (row.set j (.sl true e2 (r2.set n (putL nr off cs)))))))) (ep + 1) (w.setRow g (cur.toList.take (n * z e2 + off) ++ ys ++ cur.toList.drop (n * z e2 + off + ys.length)).toArray) := by
  obtain ⟨hhv, hcv, xs, f, hown, hG, hlen, hrep⟩ := hg.blk _ _ h0
  have hi := (List.getElem?_eq_some_iff.1 hrow).1
  have hj := (List.getElem?_eq_some_iff.1 hcell).1
  have hrl := hlen row (List.mem_of_getElem? hrow)
  have hlt : i * z e + j < xs.length := by
    rw [hown.1]
    have : (i + 1) * z e ≤ rs.length * z e := Nat.mul_le_mul_right _ hi
    rw [Nat.succ_mul] at this
    omega
  have hc0 := List.getElem?_eq_getElem hlt
  have hcc := own_cell hown hg0 hc0
  rw [hrl, hcc] at hx
  simp only [Option.some.injEq] at hx
  have hr0 := hrep i j row _ _ hrow hcell hc0
  rw [hx] at hr0 hc0
  cases hr0 with
  | own cells2 f2 ho2 hok2 hlen2 hrep2 =>
    have hn := (List.getElem?_eq_some_iff.1 hnr).1
    have hnl := hlen2 nr (List.mem_of_getElem? hnr)
    have ho2' := ho2
    obtain ⟨hxl, h2⟩ := ho2
    rcases h2 with ⟨h3, h4⟩ | ⟨g, cap, cur, h3, h4, h5, h6, h7, h8, h9⟩
    · omega
    have hgb : x.ownBlock = some g := by rw [h3]; rfl
    obtain ⟨⟨hGg, hgne, hgs⟩, hfg⟩ := hok2 g hgb
    have hmul : (n + 1) * z e2 ≤ r2.length * z e2 := Nat.mul_le_mul_right _ hn
    have hmul2 : r2.length * z e2 ≤ cap * z e2 := Nat.mul_le_mul_right _ h6
    rw [Nat.succ_mul] at hmul
    have hcl : cur.toList.length = cur.size := Array.length_toList
    have hfit : n * z e2 + off + ys.length ≤ cur.toList.length := by omega
    have hfit2 : n * z e2 + off + ys.length ≤ cells2.length := by rw [hxl]; omega
    have hB := hg.ge h0 hGg
    have heap : (w.setRow g (cur.toList.take (n * z e2 + off) ++ ys ++ cur.toList.drop (n * z e2 + off + ys.length)).toArray).heap[g]? = some (.cells (cur.toList.take (n * z e2 + off) ++ ys ++ cur.toList.drop (n * z e2 + off + ys.length)).toArray e2 (0, 0)) := setRow_heap w g cur _ e2 _ h5
    have hoth : ∀ k, k ≠ g → (w.setRow g (cur.toList.take (n * z e2 + off) ++ ys ++ cur.toList.drop (n * z e2 + off + ys.length)).toArray).heap[k]? = w.heap[k]? := fun k hk => setRow_other w g k _ hk
    have hsize : (w.setRow g (cur.toList.take (n * z e2 + off) ++ ys ++ cur.toList.drop (n * z e2 + off + ys.length)).toArray).heap.size = w.heap.size := size_setRow w g _
    have hbel : Below B w (w.setRow g (cur.toList.take (n * z e2 + off) ++ ys ++ cur.toList.drop (n * z e2 + off + ys.length)).toArray) := below_setRow (Below.refl _ _) hB _
    refine ⟨g, cur, e2, hgb, h5, by simpa using hfit, ?_⟩
    generalize w.setRow g (cur.toList.take (n * z e2 + off) ++ ys ++ cur.toList.drop (n * z e2 + off + ys.length)).toArray = w' at heap hoth hsize hbel ⊢
    have hgg0 : g ≠ g0 := fun he => hgne (by rw [he]; exact hg0.symm)
    refine ⟨m.add id (m.hd id) m.G, ?_⟩
    refine set_good (ep' := ep + 1) (x := m.hd id) (G := m.G) (b := .rows hv ep e (rs.set i (row.set j (.sl true e2 (r2.set n (putL nr off cs)))))) hg (Gone.refl mem) h0 (by omega) hbel (fun k hk hne => hoth k (fun he => hne (by rw [he]; exact hGg)))
      (fun k hk => .inl rfl) (fun k hk => .inl (by
        rcases Nat.eq_zero_or_pos (m.G k) with h | h
        · exact h
        · have := (hg.lab k (by omega)).1; omega)) (fun _ _ hb => by cases hb) (fun _ _ _ _ hb => by cases hb; exact .inr ⟨_, _, rfl, rfl⟩) (fun _ _ _ _ hb => by cases hb; exact .inl (Nat.le_refl _)) (fun _ _ _ _ _ hb1 hb2 l1 l2 => by
        cases hb2
        omega) (fun hE => ?_)
    have hin : ∀ k, inG m w id k → inG (m.add id (m.hd id) m.G) w' id k := fun k hk => ⟨hk.1, by rw [Mp.add_same]; exact hk.2.1, by rw [hsize]; exact hk.2.2⟩
    refine ⟨by omega, by omega, xs, f, ?_, fun k hk => ?_, fun r hr' => ?_, fun i' j' r u y hr' hu hy => ?_⟩
    · rw [Mp.add_same, List.length_set]
      refine ⟨hown.1, ?_⟩
      rcases hown.2 with q1 | ⟨g', cap', cur', q1, q2, q3, q4⟩
      · exact .inl q1
      · have hq : (m.hd id).ownBlock = some g' := by rw [q1]; rfl
        rw [hg0] at hq
        simp only [Option.some.injEq] at hq
        exact .inr ⟨g', cap', cur', q1, q2, (hoth g' (by rw [← hq]; exact fun he => hgg0 he.symm)).trans q3, q4⟩
    · rw [Mp.add_same] at hk
      exact hG k hk
    · rcases List.mem_or_eq_of_mem_set hr' with h | h
      · exact hlen r h
      · rw [h, List.length_set, hrl]
    · have old : ∀ (r0 : List V), rs[i']? = some r0 → r0[j']? = some u → (i', j') ≠ (i, j) → Rep z w' (roG (m.add id (m.hd id) m.G) w') (fun k => inG (m.add id (m.hd id) m.G) w' id k ∧ f k = (i', j')) u y := fun r0 a b hne => by
        refine (hE.ro_move (hrep i' j' r0 u y a b hy) (fun k h10 _ => hoth k (fun he => ?_))).mono (fun _ h => h) (fun k h10 => ⟨hin k h10.1, h10.2⟩)
        rw [he, hfg] at h10
        exact hne h10.2.symm
      by_cases hii : i' = i
      · subst hii
        rw [List.getElem?_set_self hi] at hr'
        simp only [Option.some.injEq] at hr'
        subst hr'
        by_cases hjj : j' = j
        · subst hjj
          rw [List.getElem?_set_self hj] at hu
          simp only [Option.some.injEq] at hu
          subst hu
          rw [hc0] at hy
          simp only [Option.some.injEq] at hy
          subst hy
          have hsub : ∀ (n' j2 : Nat) (r0 : List V) (u2 : V) (y2 : Value), r2[n']? = some r0 → r0[j2]? = some u2 → cells2[n' * z e2 + j2]? = some y2 → Rep z w' (roG (m.add id (m.hd id) m.G) w') (fun k => (inG (m.add id (m.hd id) m.G) w' id k ∧ f k = (i', j')) ∧ some k ≠ x.ownBlock ∧ f2 k = (n', j2)) u2 y2 := fun n' j2 r0 u2 y2 a b c => by
            refine (hE.ro_move (hrep2 n' j2 r0 u2 y2 a b c) (fun k h10 _ => hoth k (fun he => ?_))).mono (fun _ h => h) (fun k h10 => ⟨⟨hin k h10.1.1, h10.1.2⟩, h10.2⟩)
            rw [he, hgb] at h10
            exact h10.2.1 rfl
          refine .own (cells2.take (n * z e2 + off) ++ ys ++ cells2.drop (n * z e2 + off + ys.length)) f2 ?_ (fun k hk => ?_) (fun r hr' => ?_) (fun n' j2 r u2 y2 hr' hu2 hy2 => ?_)
          · rw [List.length_set]
            refine ⟨by rw [seg_len hfit2, hxl], .inr ⟨g, cap, _, h3, h4, heap, h6, h7, by rw [List.size_toArray, seg_len hfit, Array.length_toList, h8], ?_⟩⟩
            rw [List.toList_toArray, ← h9]
            apply List.ext_getElem?
            intro q
            have e1 : (cur.toList.take (n * z e2 + off)).length = n * z e2 + off := by rw [List.length_take]; omega
            have hc : (cur.toList.take (r2.length * z e2)).length = r2.length * z e2 := by rw [List.length_take]; omega
            have e3 : ((cur.toList.take (r2.length * z e2)).take (n * z e2 + off)).length = n * z e2 + off := by rw [List.length_take]; omega
            simp only [List.append_assoc]
            rw [List.getElem?_take]
            rcases Nat.lt_or_ge q (r2.length * z e2) with q0 | q0
            · rw [if_pos q0]
              rcases Nat.lt_or_ge q (n * z e2 + off) with q1 | q1
              · rw [List.getElem?_append_left (by omega), List.getElem?_append_left (by omega), List.getElem?_take, List.getElem?_take, List.getElem?_take, if_pos q1, if_pos q1, if_pos q0]
              · rw [List.getElem?_append_right (l₁ := cur.toList.take (n * z e2 + off)) (by omega), List.getElem?_append_right (l₁ := (cur.toList.take (r2.length * z e2)).take (n * z e2 + off)) (by omega), e1, e3]
                rcases Nat.lt_or_ge (q - (n * z e2 + off)) ys.length with q2 | q2
                · rw [List.getElem?_append_left q2, List.getElem?_append_left q2]
                · rw [List.getElem?_append_right q2, List.getElem?_append_right q2, List.getElem?_drop, List.getElem?_drop, List.getElem?_take, if_pos (by omega)]
            · rw [if_neg (by omega)]
              symm
              rw [List.getElem?_eq_none_iff, ← List.append_assoc, seg_len (by rw [hc]; omega), hc]
              exact q0
          · rw [hgb] at hk
            simp only [Option.some.injEq] at hk
            subst hk
            exact ⟨hin g ⟨hGg, hgne, hgs⟩, hfg⟩
          · rcases List.mem_or_eq_of_mem_set hr' with h | h
            · exact hlen2 r h
            · rw [h, putL_seg _ _ _ hle, seg_len hle, hnl]
          · by_cases hnn : n' = n
            · subst hnn
              rw [List.getElem?_set_self hn] at hr'
              simp only [Option.some.injEq] at hr'
              subst hr'
              rw [putL_seg _ _ _ hle] at hu2
              have hj2 : j2 < nr.length := by
                have := (List.getElem?_eq_some_iff.1 hu2).1
                rwa [seg_len hle] at this
              rcases seg_get hle hu2 with ⟨q1, q2⟩ | ⟨d, rfl, q2⟩
              · rcases seg_get hfit2 hy2 with ⟨q3, q4⟩ | ⟨d, q3, q4⟩
                · exact hsub n' j2 nr u2 y2 hnr q2 q4
                · have := (List.getElem?_eq_some_iff.1 q4).1
                  omega
              · have hltd := (List.getElem?_eq_some_iff.1 q2).1
                rcases seg_get hfit2 hy2 with ⟨q3, q4⟩ | ⟨d', q3, q4⟩
                · omega
                · have : d' = d := by omega
                  subst this
                  have hrv := hr _ u2 y2 q2 q4
                  have ht := List.all_eq_true.1 htame u2 (List.mem_of_getElem? q2)
                  cases u2 with
                  | lit v =>
                    cases hrv with
                    | lit h => exact .lit h
                  | sl own e3 rows3 =>
                    cases own with
                    | true => simp [tame] at ht
                    | false =>
                      cases hrv with
                      | ro h => exact rep_ro (hE.ro_move h (fun k hk => hk.elim))
                  | _ => simp [tame] at ht
            · rw [List.getElem?_set_ne (Ne.symm hnn)] at hr'
              have hj2 : j2 < z e2 := by
                have := (List.getElem?_eq_some_iff.1 hu2).1
                rwa [hlen2 r (List.mem_of_getElem? hr')] at this
              rcases seg_get hfit2 hy2 with ⟨q3, q4⟩ | ⟨d, q3, q4⟩
              · exact hsub n' j2 r u2 y2 hr' hu2 q4
              · exfalso
                have hd := (List.getElem?_eq_some_iff.1 q4).1
                rcases Nat.lt_or_gt_of_ne hnn with q5 | q5
                · have : (n' + 1) * z e2 ≤ n * z e2 := Nat.mul_le_mul_right _ q5
                  rw [Nat.succ_mul] at this
                  omega
                · have : (n + 1) * z e2 ≤ n' * z e2 := Nat.mul_le_mul_right _ q5
                  rw [Nat.succ_mul] at this
                  omega
        · rw [List.getElem?_set_ne (Ne.symm hjj)] at hu
          exact old row hrow hu (fun he => hjj (by simpa using he))
      · rw [List.getElem?_set_ne (Ne.symm hii)] at hr'
        exact old r hr' hu (fun he => hii (by simp only [Prod.mk.injEq] at he; exact he.1))

theorem step_store {S' : Mem × Nat} (hg : Good P.cellsOf B w0 S.mem S.ep m w) (hT : Tms P.cellsOf S m w a.tmps) {o : Oper} {T : Nat} {x v : Operand} {p : V} {tv : TV} {cs : List V} (ho : o.op = .store T x v) (hp : ev1 S x = some p) (hv : ev S v = some tv) (hcs : tv.cells = some cs)
    (hl : cs.length = P.cellsOf T) (h0 : P.cellsOf T ≠ 0) (h : stV S.mem S.ep p cs = some S') : ∃ w', (execOp a.eval o).run P w = .ok .skip w' ∧ SetOk P.cellsOf B w0 S.mem S.ep m w S'.1 S'.2 w' := by
  have hrp := ev1_rv hT hp
  obtain ⟨hs, hh⟩ := cells_rtv (ev_rtv hT hv) hcs
  have hex : execOp a.eval o = (do Instr.storeAt T (a.eval x) (a.eval v); pure Next.skip) := by
    unfold execOp
    simp only [ho]
  have h1c : ∀ u ∈ (a.eval v).cells.toList, u.oneCell' = true := by
    intro u hu
    obtain ⟨j, hj⟩ := List.mem_iff_getElem?.1 hu
    have hlt : j < cs.length := by rw [← hs]; simpa using (List.getElem?_eq_some_iff.1 hj).1
    exact (hh j _ u (List.getElem?_eq_getElem hlt) (by simpa using hj)).one_cell
  have fin : ∀ (g o' : Nat) (cur : Array Value) (T' : Nat), a.eval x = .pointer (some ⟨g, o', none⟩) → w.heap[g]? = some (.cells cur T' (0, 0)) → o' + (a.eval v).cells.toList.length ≤ cur.size →
      (execOp a.eval o).run P w = .ok .skip (w.setRow g (cur.toList.take o' ++ (a.eval v).cells.toList ++ cur.toList.drop (o' + (a.eval v).cells.toList.length)).toArray) := by
    intro g o' cur T' hx hheap hfit
    rw [hex, hx]
    have hst := run_storeCells_at P g o' T' (a.eval v).cells.toList 0 cur w hheap (by simpa using hfit) h1c
    unfold Instr.storeAt Instr.sureAddr storeVar
    have hsz : (a.eval v).cells.size = P.cellsOf T := by rw [hs, hl]
    simp only [Sem.run_bind, Sem.run_pure, Result.andThen_ok, run_size h0, hsz, ne_eq, not_true, if_false, hst]
    simp
  have hyl : (a.eval v).cells.toList.length = cs.length := by rw [Array.length_toList]; exact hs
  have hr : ∀ (j : Nat) (u : V) (y : Value), cs[j]? = some u → (a.eval v).cells.toList[j]? = some y → RV P.cellsOf S.mem S.ep m w u y := fun j u y a' b' => hh j u y a' (by simpa using b')
  unfold stV at h
  split at h
  · rename_i id bv base n i off
    simp only [Option.bind_eq_some_iff] at h
    obtain ⟨cells, hb, new, hnew, h⟩ := h
    unfold putEl at hnew
    split at hnew
    · rename_i hle
      simp only [Option.some.injEq] at hnew h
      subst hnew
      subst h
      have hb' := boxOf_some hb
      rw [List.length_drop] at hle
      by_cases hz : cs.length = 0
      · exact absurd (hl.symm.trans hz) h0
      have hle2 : base + (i * n + off) + cs.length ≤ cells.length := by omega
      have hput : cells.take base ++ putL (cells.drop base) (i * n + off) cs = putL cells (base + (i * n + off)) cs := by
        rw [putL_seg _ _ _ hle2, putL_seg _ _ _ (by rw [List.length_drop]; omega)]
        simp [List.take_add, Nat.add_assoc, Nat.add_comm, Nat.add_left_comm]
      rw [hput]
      obtain ⟨g, cur, T', h3, h4, h5, h6⟩ := box_set hg hb' hyl hr hle2
      generalize hy : a.eval x = y at hrp
      cases hrp with
      | ap hq =>
        cases hq with
        | bp hid hone hh' =>
          obtain ⟨g', h7, h8⟩ := hh' _ hb'
          rw [h3] at h7
          simp only [Value.pointer.injEq, Option.some.injEq, Addr.mk.injEq, and_true] at h7
          subst h7
          simp only [Value.pointer.injEq, Option.some.injEq] at h8
          subst h8
          rw [addO] at hy
          exact ⟨_, fin g _ cur T' hy h4 h5, h6⟩
    · cases hnew
  · rename_i id cv pl row0 off
    simp only [Option.bind_eq_some_iff] at h
    obtain ⟨b, hb, h⟩ := h
    split at h
    · rename_i hcv
      simp only [Option.bind_eq_some_iff, Option.some.injEq] at h
      obtain ⟨r0, hr0, u, hu, u', hu', rfl⟩ := h
      have hb' := rowsH_some hb
      rw [hcv] at hb'
      unfold nestSet at hu'
      split at hu'
      · rename_i e2 r2
        split at hu'
        · rename_i he2
          simp only [Option.bind_eq_some_iff] at hu'
          obtain ⟨nr, hnr, hu'⟩ := hu'
          split at hu'
          · rename_i hcond
            simp only [Option.some.injEq] at hu'
            subst hu'
            generalize hy : a.eval x = y at hrp
            cases hrp with
            | np hvp xv hpos hxx =>
              obtain ⟨_, hpos2⟩ := hpos _ _ _ rfl
              obtain ⟨row', f2, r2', g0, k1, k2, k3, k4⟩ := hpos2 _ _ hb'
              rw [hr0] at k1
              simp only [Option.some.injEq] at k1
              subst k1
              obtain ⟨g2, k5, k6⟩ := hxx _ _ hb'
              obtain ⟨g, cur, T', h3, h4, h5, h6⟩ := nest_set hg hyl hr hb' hr0 hu hnr hcond.1 hcond.2 k3 k4
              rw [h3] at k5
              simp only [Option.some.injEq] at k5
              subst k5
              rw [← he2] at k6
              rw [k6] at hy
              exact ⟨_, fin g _ cur T' hy h4 h5, h6⟩
          · cases hu'
        · cases hu'
      · cases hu'
    · cases h
  · rename_i id bv off
    simp only [Option.bind_eq_some_iff] at h
    obtain ⟨cells, hb, h⟩ := h
    split at h
    · rename_i hle
      simp only [Option.some.injEq] at h
      subst h
      have hb' := boxOf_some hb
      obtain ⟨g, cur, T', h3, h4, h5, h6⟩ := box_set hg hb' hyl hr hle
      generalize hy : a.eval x = y at hrp
      cases hrp with
      | bp hid hone hh' =>
        obtain ⟨g', h7, rfl⟩ := hh' _ hb'
        rw [h3] at h7
        simp only [Value.pointer.injEq, Option.some.injEq, Addr.mk.injEq, and_true] at h7
        subst h7
        exact ⟨_, fin g off cur T' hy h4 h5, h6⟩
    · cases h
  · rename_i id hv i off
    simp only [Option.bind_eq_some_iff] at h
    obtain ⟨⟨cs', mem1⟩, hf, b, hb, row, hrow, h⟩ := h
    split at h
    · rename_i hle
      have hb' := rowsH_some hb
      obtain ⟨hl', hG1, _⟩ := foldL_rep cs S.mem mem1 cs' _ hg hyl hr hf
      obtain ⟨g, cur, T', h3, h4, h5, h6⟩ := row_set (overB row off cs.length) hg hyl hr hf hb' hrow (by omega) rfl
      have hS : S' = (mem1.set id (some (.rows hv (if overB row off cs.length then S.ep else b.1) b.2.1 (b.2.2.set i (putL row off cs')))), if overB row off cs.length then S.ep + 1 else S.ep) := by
        split at h
        · rename_i ho2
          simp only [Option.some.injEq] at h
          rw [← h, ho2]
          rfl
        · rename_i ho2
          have ho2 : overB row off cs.length = false := by simpa using ho2
          simp only [Option.some.injEq] at h
          rw [← h, ho2]
          rfl
      subst hS
      generalize hy : a.eval x = y at hrp
      cases hrp with
      | ip hid hone hh' =>
        obtain ⟨g', h7, rfl⟩ := hh' _ _ _ (hG1.2 _ _ hb')
        rw [h3] at h7
        simp only [Option.some.injEq] at h7
        subst h7
        exact ⟨_, fin g _ cur T' hy h4 h5, h6⟩
    · cases h
  · cases h
end
end Go.Proofs.Ytanglbgincgmaaa.Vm

/-
  The small machine is true to the model: reading.
-/
import Derived.Test.YtanglbgincgmaaaVmSoundA
namespace Go.Proofs.Ytanglbgincgmaaa.Vm
open Go Go.RowKit
set_option linter.unusedVariables false
section
variable {P : Program} {S : St} {m : Mp} {w w0 : World} {a : Act} {z : Nat → Nat} {B : Nat} {mem : Mem} {ep : Nat}

theorem addO (g o n : Nat) : (⟨g, o, none⟩ : Addr).add n = ⟨g, o + n, none⟩ := by
  unfold Addr.add
  split
  · rename_i h; subst h; rfl
  · simp
theorem boxOf_some {id bv : Nat} {cells : List V} (h : boxOf mem id bv = some cells) : mem[id]? = some (some (.box bv cells)) := by
  unfold boxOf at h
  split at h
  · rename_i bv' c he
    split at h
    · rename_i hb
      simp only [Option.some.injEq] at h
      subst h; subst hb
      exact he
    · cases h
  · cases h
theorem rowsH_some {id hv : Nat} {b : Nat × Nat × List (List V)} (h : rowsH mem id hv = some b) : mem[id]? = some (some (.rows hv b.1 b.2.1 b.2.2)) := by
  unfold rowsH at h
  split at h
  · rename_i hv' cv e rs he
    split at h
    · rename_i hb
      simp only [Option.some.injEq] at h
      subst h; subst hb
      exact he
    · cases h
  · cases h
theorem seenC_some {id cv : Nat} (h : seenC mem id cv = true) : ∃ hv e rs, mem[id]? = some (some (.rows hv cv e rs)) := by
  unfold seenC at h
  split at h
  · rename_i hv' cv' e rs he
    have := of_decide_eq_true h
    subst this
    exact ⟨_, _, _, he⟩
  · cases h
theorem rep_ro {ro ok ok' : Nat → Prop} {e : Nat} {rows : List (List V)} {y : Value} (h : Rep z w ro ok (.sl false e rows) y) : Rep z w ro ok' (.sl false e rows) y := by
  cases h with
  | roS ad y hc hm hrow hA h1 hcell hr => exact .roS ad y hc hm hrow hA h1 hcell hr
theorem rep_one {ro ok : Nat → Prop} {v : V} {y : Value} (h : Rep z w ro ok v y) : y.oneCell' = true := by
  cases h with
  | lit h => exact h
  | roS => rfl
  | own cells f ho _ _ _ =>
    rcases ho.2 with ⟨rfl, _⟩ | ⟨g, cap, cur, rfl, _⟩ <;> rfl
  | rp => rfl
  | cl => rfl
theorem own_cell {e n : Nat} {x : Value} {cs : List Value} {g : Nat} (ho : w.ownsRow 0 e (z e) x n cs) (hx : x.ownBlock = some g) {k : Nat} {y : Value} (hy : cs[k]? = some y) : w.cell? ⟨g, k, none⟩ = some y := by
  obtain ⟨A, c, rfl, hc, hm, hcs⟩ := ownsRow_slice ho
  have hn : n ≠ 0 := by
    rintro rfl
    have := ho.1
    simp at this
    subst this
    simp at hy
  obtain ⟨g', rfl, h1, h2⟩ := hcs hn
  simp [Value.ownBlock] at hx
  subst hx
  have := h2 _ _ hy
  rwa [add0] at this

theorem rd_rv (hg : Good z B w0 mem ep m w) {p : V} {y : Value} (hp : RV z mem ep m w p y) {j : Nat} {u : V} (h : rd mem j p = some u) :
    ∃ ad x, y = .pointer (some ad) ∧ w.cell? (ad.add j) = some x ∧ RV z mem ep m w u x := by
  cases hp with
  | lit _ => simp [rd] at h
  | ro _ => simp [rd] at h
  | ow _ _ _ => simp [rd] at h
  | cl _ _ => simp [rd] at h
  | vw _ _ _ _ => simp [rd] at h
  | bp hid h1 hh =>
    simp only [rd, Option.bind_eq_some_iff] at h
    obtain ⟨cells, hb, hu⟩ := h
    have hb' := boxOf_some hb
    obtain ⟨g, hd, rfl⟩ := hh _ hb'
    obtain ⟨hbv, g', T, cs, hd', hheap, hG, hsz, hrv⟩ := hg.blk _ _ hb'
    rw [hd] at hd'
    simp only [Value.pointer.injEq, Option.some.injEq, Addr.mk.injEq, and_true] at hd'
    subst hd'
    rename_i id bv off
    have hlt : off + j < cs.size := by rw [hsz]; exact (List.getElem?_eq_some_iff.1 hu).1
    have he : cs[off + j]? = some cs[off + j] := Array.getElem?_eq_getElem hlt
    refine ⟨_, cs[off + j], rfl, ?_, hrv _ _ _ hu he⟩
    rw [addO]
    simp [World.cell?, hheap, hlt]
  | ip hid h1 hh =>
    rename_i id hv i off
    simp only [rd, Option.bind_eq_some_iff] at h
    obtain ⟨b, hb, row, hrow, u', hu', hvu⟩ := h
    have hb' := rowsH_some hb
    obtain ⟨g, hown, rfl⟩ := hh _ _ _ hb'
    obtain ⟨hhv, hcv, cs, f, ho, hG, hlen, hrep⟩ := hg.blk _ _ hb'
    have hi := (List.getElem?_eq_some_iff.1 hrow).1
    have hj := (List.getElem?_eq_some_iff.1 hu').1
    rw [hlen row (List.mem_of_getElem? hrow)] at hj
    have hlt : i * z b.2.1 + (off + j) < cs.length := by
      rw [ho.1]
      have : (i + 1) * z b.2.1 ≤ b.2.2.length * z b.2.1 := Nat.mul_le_mul_right _ hi
      rw [Nat.succ_mul] at this
      omega
    have he : cs[i * z b.2.1 + (off + j)]? = some cs[i * z b.2.1 + (off + j)] := List.getElem?_eq_getElem hlt
    have hr := hrep i (off + j) row u' _ hrow hu' he
    refine ⟨_, cs[i * z b.2.1 + (off + j)], rfl, ?_, ?_⟩
    · rw [addO, Nat.add_assoc]
      exact own_cell ho hown he
    · have hcell := own_cell ho hown he
      generalize cs[i * z b.2.1 + (off + j)] = x at hr hcell
      cases u' with
      | lit v =>
        simp only [vu, Option.some.injEq] at hvu
        subst hvu
        cases hr with
        | lit h => exact .lit h
      | sl own e rows =>
        cases own with
        | true =>
          simp only [vu, Option.some.injEq] at hvu
          subst hvu
          refine .vw hcv (rep_one hr) (fun hv' e' rs' hm' => ?_) (fun hv' i' j' hp => ?_)
          · have := hr.erase (ok' := fun _ => False)
            simp only [V.er] at this
            exact this.mono (fun k hk => hk.elim .inl (fun h => .inr h.1)) (fun _ h => h)
          · simp only [Option.some.injEq, Prod.mk.injEq] at hp
            obtain ⟨rfl, rfl, rfl⟩ := hp
            refine ⟨hhv, fun e' rs' hm' => ?_⟩
            obtain ⟨_, _, _, rfl⟩ := rows_inj4 hb' hm'
            exact ⟨row, _, _, g, hrow, hu', hown, by rw [hlen row (List.mem_of_getElem? hrow)]; exact hcell⟩
        | false =>
          simp only [vu, Option.some.injEq] at hvu
          subst hvu
          exact .ro (rep_ro hr)
      | _ => simp [vu] at hvu
  | rp ad f hro hcell hr =>
    simp only [rd, Option.bind_eq_some_iff] at h
    obtain ⟨u', hu', hru⟩ := h
    rename_i row off
    refine ⟨_, f (off + j), rfl, ?_, ?_⟩
    · rw [Go.Deep.add_add]
      exact hcell _ _ hu'
    · have hr' := hr _ _ hu'
      cases u' with
      | lit v =>
        simp only [ru, Option.some.injEq] at hru
        subst hru
        generalize f (off + j) = x at hr' ⊢
        cases hr' with
        | lit h => exact .lit h
      | sl own e rows =>
        cases own with
        | true => simp [ru] at hru
        | false =>
          simp only [ru, Option.some.injEq] at hru
          subst hru
          exact .ro hr'
      | _ => simp [ru] at hru
  | vp hid h1 hh =>
    rename_i id cv row off
    simp only [rd] at h
    split at h
    · rename_i hs
      obtain ⟨hv, e, rs, hm⟩ := seenC_some hs
      obtain ⟨ad, f, rfl, hro, hcell, hr⟩ := hh _ _ _ hm
      simp only [Option.bind_eq_some_iff] at h
      obtain ⟨u', hu', hwu⟩ := h
      refine ⟨_, f (off + j), rfl, ?_, ?_⟩
      · rw [Go.Deep.add_add]
        exact hcell _ _ hu'
      · have hr' := hr _ _ hu'
        cases u' with
        | lit v =>
          simp only [wu, Option.some.injEq] at hwu
          subst hwu
          generalize f (off + j) = x at hr' ⊢
          cases hr' with
          | lit h => exact .lit h
        | sl own e rows =>
          cases own with
          | true => simp [wu] at hwu
          | false =>
            simp only [wu, Option.some.injEq] at hwu
            subst hwu
            exact .vw hid (rep_one hr') (fun hv' e' rs' hm' => hr') PosOk.none
        | _ => simp [wu] at hwu
    · cases h

theorem rdN_rv (hg : Good z B w0 mem ep m w) {p : V} {y : Value} (hp : RV z mem ep m w p y) : ∀ (n j : Nat) (cs : List V), rdN mem p j n = some cs → 0 < n →
    ∃ (ad : Addr) (xs : List Value), y = .pointer (some ad) ∧ xs.length = n ∧ cs.length = n ∧ (∀ (i : Nat) (x : Value), xs[i]? = some x → w.cell? (ad.add (j + i)) = some x) ∧ ∀ (i : Nat) (u : V) (x : Value), cs[i]? = some u → xs[i]? = some x → RV z mem ep m w u x := by
  intro n
  induction n with
  | zero => intro j cs h h0; omega
  | succ n ih =>
    intro j cs h _
    simp only [rdN, Option.bind_eq_some_iff] at h
    obtain ⟨v, hv, vs, hvs, he⟩ := h
    simp only [Option.some.injEq] at he
    subst he
    obtain ⟨ad, x, hy, hc, hr⟩ := rd_rv hg hp hv
    rcases Nat.eq_zero_or_pos n with h0 | h0
    · subst h0
      simp only [rdN, Option.some.injEq] at hvs
      subst hvs
      refine ⟨ad, [x], hy, rfl, rfl, fun i x' hx => ?_, fun i u x' hu hx => ?_⟩
      · cases i with
        | zero => simp at hx; subst hx; exact hc
        | succ i => simp at hx
      · cases i with
        | zero => simp at hx hu; subst hx; subst hu; exact hr
        | succ i => simp at hx
    · obtain ⟨ad', xs, hy', h1, h2, h3, h4⟩ := ih (j + 1) vs hvs h0
      rw [hy] at hy'
      simp only [Value.pointer.injEq, Option.some.injEq] at hy'
      subst hy'
      refine ⟨ad, x :: xs, hy, by simp [h1], by simp [h2], fun i x' hx => ?_, fun i u x' hu hx => ?_⟩
      · cases i with
        | zero => simp at hx; subst hx; exact hc
        | succ i =>
          simp at hx
          have := h3 i x' hx
          rwa [show j + 1 + i = j + (i + 1) from by omega] at this
      · cases i with
        | zero => simp at hx hu; subst hx; subst hu; exact hr
        | succ i => simp at hx hu; exact h4 i u x' hu hx

theorem run_isAgg {T : Nat} {d : TypeDesc} (h : P.underlying T = some d) (w : World) : (isAgg T).run P w = .ok (isAggD d) w := by
  unfold isAgg
  rw [Sem.run_bind, run_underlying h]
  simp only [Result.andThen_ok]
  cases d <;> rfl
theorem info_some {T : Nat} {d : TypeDesc} (h : P.underlying T = some d) : ∃ i, P.info? T = some i ∧ P.cellsOf T = i.size := by
  unfold Program.underlying at h
  cases hi : P.info? T with
  | none => rw [hi] at h; cases h
  | some i => exact ⟨i, rfl, by simp [Program.cellsOf, hi]⟩
theorem run_sizeOf {T : Nat} {i : TypeInfo} (h : P.info? T = some i) (w : World) : (sizeOf T).run P w = .ok i.size w := by
  simp [sizeOf, typeInfo, h]
theorem run_sizeOf' {T : Nat} {d : TypeDesc} (h : P.underlying T = some d) (w : World) : (sizeOf T).run P w = .ok (P.cellsOf T) w := by
  obtain ⟨i, hi, he⟩ := info_some h
  rw [he]; exact run_sizeOf hi w

/-- What was there stands as it stood. -/
def Ext (w w' : World) : Prop := w.heap.size ≤ w'.heap.size ∧ ∀ k, k < w.heap.size → w'.heap[k]? = w.heap[k]?
theorem Ext.refl (w : World) : Ext w w := ⟨Nat.le_refl _, fun _ _ => rfl⟩
theorem Ext.of_below {w w' : World} (h : Below w.heap.size w w') : Ext w w' := ⟨h.size, fun k hk => h.block k hk⟩
theorem Ext.trans {a b c : World} (h : Ext a b) (k : Ext b c) : Ext a c := ⟨Nat.le_trans h.1 k.1, fun x hx => (k.2 x (Nat.lt_of_lt_of_le hx h.1)).trans (h.2 x hx)⟩
theorem Ext.cell {w w' : World} (h : Ext w w') {a : Addr} {v : Value} (hc : w.cell? a = some v) : w'.cell? a = some v := by
  rw [← hc]
  exact World.cell?_of_block (h.2 _ (cell_lt hc))

theorem loadV_run (hg : Good z B w0 mem ep m w) {T : Nat} {p : V} {y : Value} (hp : RV z mem ep m w p y) {tv : TV} (h : loadV P mem T p = some tv) (h0 : P.cellsOf T ≠ 0) :
    ∃ v, (∀ w', Ext w w' → (Instr.loadAt T y).run P w' = .ok v w') ∧ RTV z mem ep m w tv v := by
  unfold loadV at h
  simp only [Option.bind_eq_some_iff] at h
  obtain ⟨d, hd, h⟩ := h
  split at h
  · rename_i hag
    simp only [Option.bind_eq_some_iff, Option.some.injEq] at h
    obtain ⟨cs, hcs, rfl⟩ := h
    obtain ⟨ad, xs, rfl, h1, h2, h3, h4⟩ := rdN_rv hg hp _ _ _ hcs (by omega)
    refine ⟨.agg xs.toArray, fun w' hw => ?_, .agg (by simp [h1, h2]) (fun j u x hu hx => h4 j u x hu (by simpa using hx))⟩
    unfold Instr.loadAt Instr.sureAddr loadVar
    have := run_loadCells_list (P := P) (w := w') ad xs (fun j v hv => by have := h3 j v hv; exact hw.cell (by simpa using this))
    rw [h1] at this
    simp [run_isAgg hd, hag, run_sizeOf' hd, this]
  · rename_i hag
    simp only [Option.bind_eq_some_iff, Option.some.injEq] at h
    obtain ⟨v, hv, rfl⟩ := h
    obtain ⟨ad, x, rfl, hc, hr⟩ := rd_rv hg hp hv
    refine ⟨x, fun w' hw => ?_, .one hr⟩
    unfold Instr.loadAt Instr.sureAddr loadVar
    have e0 : ad.add 0 = ad := by simp [Addr.add]
    rw [e0] at hc
    simp [run_isAgg hd, hag, load, Sem.run, hw.cell hc]
end
end Go.Proofs.Ytanglbgincgmaaa.Vm

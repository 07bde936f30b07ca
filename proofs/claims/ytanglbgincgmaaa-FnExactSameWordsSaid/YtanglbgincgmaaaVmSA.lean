/-
  The small machine is true to the model: operations that make no memory.
-/
import Derived.Test.YtanglbgincgmaaaVmExec
import Derived.Laws.Entries
import Derived.Laws.Cells
namespace Go.Proofs.Ytanglbgincgmaaa.Vm
open Go Go.RowKit
set_option linter.unusedVariables false

def Tms (z : Nat → Nat) (S : St) (m : Mp) (w : World) (tmps : Array Value) : Prop := ∀ t tv, look S.tm t = some tv → RTV z S.mem S.ep m w tv (tmps.getD t undef)

/-- What a step leaves. -/
def Res (z : Nat → Nat) (B : Nat) (w0 : World) (S : St) (m : Mp) (w : World) (r : TV × Mem × Nat) (v : Value) (w' : World) : Prop :=
  ∃ m', RTV z r.2.1 r.2.2 m' w' r.1 v ∧ Good z B w0 r.2.1 r.2.2 m' w' ∧ Evo S.ep r.2.2 S.mem r.2.1 m m' w w'

section
variable {P : Program} {S : St} {m : Mp} {w w0 : World} {a : Act} {z : Nat → Nat} {B : Nat}

theorem Res.same (hg : Good z B w0 S.mem S.ep m w) {tv : TV} {v : Value} (h : RTV z S.mem S.ep m w tv v) : Res z B w0 S m w (tv, S.mem, S.ep) v w := ⟨m, h, hg, Evo.refl⟩

theorem lift_rtv {mem : Mem} {ep : Nat} {v : Value} {tv : TV} (h : lift v = some tv) : RTV z mem ep m w tv v := by
  cases v <;> simp only [lift] at h
  case agg cs =>
    split at h
    · rename_i hc
      simp only [Option.some.injEq] at h
      subst h
      refine .agg (by simp) (fun j u y h1 h2 => ?_)
      rw [List.getElem?_map] at h1
      obtain ⟨y', h3, rfl⟩ := Option.map_eq_some_iff.1 h1
      have : y' = y := by
        have : cs.toList[j]? = cs[j]? := by simp
        rw [this, h2] at h3
        exact (Option.some.inj h3).symm
      subst this
      exact .lit (List.all_eq_true.1 hc _ (List.mem_of_getElem? h3))
    · cases h
  case tuple => cases h
  all_goals
    simp only [Option.some.injEq] at h
    subst h
    exact .one (.lit rfl)
theorem ev_rtv (hT : Tms z S m w a.tmps) {x : Operand} {tv : TV} (h : ev S x = some tv) : RTV z S.mem S.ep m w tv (a.eval x) := by
  cases x with
  | tmp t => exact hT t tv h
  | const v => exact lift_rtv h
  | func f =>
    simp only [ev, Option.some.injEq] at h
    subst h
    exact .one (.lit rfl)
  | global g => simp [ev] at h
theorem ev1_rv (hT : Tms z S m w a.tmps) {x : Operand} {v : V} (h : ev1 S x = some v) : RV z S.mem S.ep m w v (a.eval x) := by
  unfold ev1 at h
  split at h
  · rename_i v' he
    simp only [Option.some.injEq] at h
    subst h
    have := ev_rtv hT he
    cases this with
    | one h => exact h
  · cases h
theorem evL_eq (hT : Tms z S m w a.tmps) {x : Operand} {v : Value} (h : evL S x = some v) : a.eval x = v ∧ v.oneCell' = true := by
  unfold evL at h
  split at h
  · rename_i v' he
    simp only [Option.some.injEq] at h
    subst h
    have h1 := ev1_rv hT he
    generalize hy : a.eval x = y at h1
    cases h1 with
    | lit h => exact ⟨rfl, h⟩
  · cases h

theorem run_value {s : Sem Value} {v : Value} {w w' : World} (h : s.run P w = .ok v w') : (do let x ← s; pure (Next.value x) : Sem Next).run P w = .ok (.value v) w' := by
  simp [h]
theorem cells_rtv {mem : Mem} {ep : Nat} {tv : TV} {y : Value} {cs : List V} (h : RTV z mem ep m w tv y) (hc : tv.cells = some cs) : y.cells.size = cs.length ∧ ∀ (j : Nat) (u : V) (x : Value), cs[j]? = some u → y.cells[j]? = some x → RV z mem ep m w u x := by
  cases h with
  | one h =>
    simp only [TV.cells, Option.some.injEq] at hc
    subst hc
    have h1 := h.one_cell
    rename_i v
    have hy : y.cells = #[y] := by cases y <;> first | rfl | cases h1
    rw [hy]
    refine ⟨rfl, fun j u x h2 h3 => ?_⟩
    cases j with
    | zero => simp at h2 h3; subst h2; subst h3; exact h
    | succ j => simp at h2
  | agg hs h =>
    simp only [TV.cells, Option.some.injEq] at hc
    subst hc
    exact ⟨hs, h⟩
  | tup => simp [TV.cells] at hc
end
end Go.Proofs.Ytanglbgincgmaaa.Vm
namespace Go.Proofs.Ytanglbgincgmaaa.Vm
open Go Go.RowKit
set_option linter.unusedVariables false
section
variable {P : Program} {S : St} {m : Mp} {w w0 : World} {a : Act} {z : Nat → Nat} {B : Nat} {mem : Mem} {ep : Nat}

theorem addO (g o n : Nat) : (⟨g, o, none⟩ : Addr).add n = ⟨g, o + n, none⟩ := by
  unfold Addr.add
  split
  · rename_i h; subst h; rfl
  · simp
theorem boxOf_some {id bv : Nat} {cells : List V} (h : boxOf mem id bv = some cells) : mem[id]? = some (some (.box bv cells)) := by
  unfold boxOf at h
  split at h
  · rename_i bv' c he
    split at h
    · rename_i hb
      simp only [Option.some.injEq] at h
      subst h; subst hb
      exact he
    · cases h
  · cases h
theorem rowsH_some {id hv : Nat} {b : Nat × Nat × List (List V)} (h : rowsH mem id hv = some b) : mem[id]? = some (some (.rows hv b.1 b.2.1 b.2.2)) := by
  unfold rowsH at h
  split at h
  · rename_i hv' cv e rs he
    split at h
    · rename_i hb
      simp only [Option.some.injEq] at h
      subst h; subst hb
      exact he
    · cases h
  · cases h
theorem seenC_some {id cv : Nat} (h : seenC mem id cv = true) : ∃ hv e rs, mem[id]? = some (some (.rows hv cv e rs)) := by
  unfold seenC at h
  split at h
  · rename_i hv' cv' e rs he
    have := of_decide_eq_true h
    subst this
    exact ⟨_, _, _, he⟩
  · cases h
theorem rep_ro {ro ok ok' : Nat → Prop} {e : Nat} {rows : List (List V)} {y : Value} (h : Rep z w ro ok (.sl false e rows) y) : Rep z w ro ok' (.sl false e rows) y := by
  cases h with
  | roS ad y hc hm hrow hA h1 hcell hr => exact .roS ad y hc hm hrow hA h1 hcell hr
theorem rep_one {ro ok : Nat → Prop} {v : V} {y : Value} (h : Rep z w ro ok v y) : y.oneCell' = true := by
  cases h with
  | lit h => exact h
  | roS => rfl
  | own cells f ho _ _ _ =>
    rcases ho.2 with ⟨rfl, _⟩ | ⟨g, cap, cur, rfl, _⟩ <;> rfl
  | rp => rfl
  | cl => rfl
theorem own_cell {e n : Nat} {x : Value} {cs : List Value} {g : Nat} (ho : w.ownsRow 0 e (z e) x n cs) (hx : x.ownBlock = some g) {k : Nat} {y : Value} (hy : cs[k]? = some y) : w.cell? ⟨g, k, none⟩ = some y := by
  obtain ⟨A, c, rfl, hc, hm, hcs⟩ := ownsRow_slice ho
  have hn : n ≠ 0 := by
    rintro rfl
    have := ho.1
    simp at this
    subst this
    simp at hy
  obtain ⟨g', rfl, h1, h2⟩ := hcs hn
  simp [Value.ownBlock] at hx
  subst hx
  have := h2 _ _ hy
  rwa [add0] at this

theorem rd_vp (hg : Good z B w0 mem ep m w) {id cv off : Nat} {row : List V} {y : Value} (hp : RV z mem ep m w (.vp id cv row off) y) {j : Nat} {u : V} (h : rd mem j (.vp id cv row off) = some u) :
    ∃ ad x, y = .pointer (some ad) ∧ w.cell? (ad.add j) = some x ∧ RV z mem ep m w u x := by
  cases hp with
  | vp hid h1 hh =>
    simp only [rd] at h
    split at h
    · rename_i hs
      obtain ⟨hv, e, rs, hm⟩ := seenC_some hs
      obtain ⟨ad, f, rfl, hro, hcell, hr⟩ := hh _ _ _ hm
      simp only [Option.bind_eq_some_iff] at h
      obtain ⟨u', hu', hwu⟩ := h
      refine ⟨_, f (off + j), rfl, ?_, ?_⟩
      · rw [Go.Deep.add_add]
        exact hcell _ _ hu'
      · have hr' := hr _ _ hu'
        cases u' with
        | lit v =>
          simp only [wu, Option.some.injEq] at hwu
          subst hwu
          generalize f (off + j) = x at hr' ⊢
          cases hr' with
          | lit h => exact .lit h
        | sl own e rows =>
          cases own with
          | true => simp [wu] at hwu
          | false =>
            simp only [wu, Option.some.injEq] at hwu
            subst hwu
            exact .vw hid (rep_one hr') (fun hv' e' rs' hm' => hr') PosOk.none
        | _ => simp [wu] at hwu
    · cases h
theorem rdA_rd {n i c : Nat} {q u : V} (h : rdA mem n i c q = some u) : rd mem (i * n + c) q = some u := by
  cases q with
  | bp id bv base =>
    simp only [rdA, Option.bind_eq_some_iff] at h
    obtain ⟨cells, h1, h2⟩ := h
    simp only [rd, h1, Option.bind_some]
    unfold el at h2
    rwa [List.getElem?_drop] at h2
  | rp row base =>
    simp only [rdA, Option.bind_eq_some_iff] at h
    obtain ⟨x, h1, h2⟩ := h
    unfold el at h1
    rw [List.getElem?_drop] at h1
    simp only [rd, h1, Option.bind_some]
    exact h2
  | _ => simp [rdA] at h
theorem rd_np (hg : Good z B w0 mem ep m w) {id cv off : Nat} {pl : Nat × Nat × Nat × Nat × Nat} {row : List V} {y : Value} (hp : RV z mem ep m w (.np id cv pl row off) y) {j : Nat} {u : V} (h : rd mem j (.np id cv pl row off) = some u) :
    ∃ ad x, y = .pointer (some ad) ∧ w.cell? (ad.add j) = some x ∧ RV z mem ep m w u x := by
  cases hp with
  | np hv x hpos hx =>
    simp only [rd] at h
    split at h
    · rename_i b hb
      split at h
      · rename_i hcv
        simp only [Option.bind_eq_some_iff] at h
        obtain ⟨r0, hr0, u0, hu0, u1, hu1, hnu⟩ := h
        have hb' := rowsH_some hb
        rw [hcv] at hb'
        unfold nestGet at hu1
        split at hu1
        · rename_i e2 r2
          split at hu1
          · rename_i he2
            simp only [Option.bind_eq_some_iff] at hu1
            obtain ⟨nr, hnr, hu1⟩ := hu1
            obtain ⟨_, hpos2⟩ := hpos _ _ _ rfl
            obtain ⟨row', f2, r2', g0, k1, k2, k3, k4⟩ := hpos2 _ _ hb'
            rw [hr0] at k1
            simp only [Option.some.injEq] at k1
            subst k1
            obtain ⟨g2, k5, k6⟩ := hx _ _ hb'
            obtain ⟨hhv, hcv2, xs, f, hown, hG, hlen, hrep⟩ := hg.blk _ _ hb'
            have hi := (List.getElem?_eq_some_iff.1 hr0).1
            have hj := (List.getElem?_eq_some_iff.1 hu0).1
            have hrl := hlen r0 (List.mem_of_getElem? hr0)
            have hlt : pl.2.1 * z b.2.1 + pl.2.2.1 < xs.length := by
              rw [hown.1]
              have : (pl.2.1 + 1) * z b.2.1 ≤ b.2.2.length * z b.2.1 := Nat.mul_le_mul_right _ hi
              rw [Nat.succ_mul] at this
              omega
            have hc0 := List.getElem?_eq_getElem hlt
            have hcc := own_cell hown k3 hc0
            rw [hrl, hcc] at k4
            simp only [Option.some.injEq] at k4
            have hr1 := hrep _ _ r0 _ _ hr0 hu0 hc0
            rw [k4] at hr1
            cases hr1 with
            | own cells2 fn ho2 hok2 hlen2 hrep2 =>
              have hn := (List.getElem?_eq_some_iff.1 hnr).1
              have hnl := hlen2 nr (List.mem_of_getElem? hnr)
              have hcj := (List.getElem?_eq_some_iff.1 hu1).1
              have hlt2 : pl.2.2.2.2 * z e2 + (off + j) < cells2.length := by
                rw [ho2.1]
                have : (pl.2.2.2.2 + 1) * z e2 ≤ r2.length * z e2 := Nat.mul_le_mul_right _ hn
                rw [Nat.succ_mul] at this
                omega
              have hd0 := List.getElem?_eq_getElem hlt2
              have hdc := own_cell ho2 k5 hd0
              have hr2 := hrep2 _ _ nr _ _ hnr hu1 hd0
              generalize cells2[pl.2.2.2.2 * z e2 + (off + j)] = x2 at hr2 hdc
              refine ⟨_, x2, k6, ?_, ?_⟩
              · rw [addO, ← he2, Nat.add_assoc]
                exact hdc
              · cases u1 with
                | lit v =>
                  simp only [nu, Option.some.injEq] at hnu
                  subst hnu
                  cases hr2 with
                  | lit h => exact .lit h
                | sl own e rows =>
                  cases own with
                  | true =>
                    simp only [nu, Option.some.injEq] at hnu
                    subst hnu
                    refine .vw hcv2 (rep_one hr2) (fun hv' e' rs' hm' => ?_) PosOk.none
                    have := hr2.erase (ok' := fun _ => False)
                    simp only [V.er] at this
                    exact this.mono (fun k hk => hk.elim .inl (fun h => .inr h.1.1)) (fun _ h => h)
                  | false =>
                    simp only [nu, Option.some.injEq] at hnu
                    subst hnu
                    exact .ro (rep_ro hr2)
                | _ => simp [nu] at hnu
          · cases hu1
        · cases hu1
      · cases h
    · exact rd_vp hg hv h
theorem rd_rv0 (hg : Good z B w0 mem ep m w) {p : V} {y : Value} (hp : RV z mem ep m w p y) (hna : ∀ q n i off, p ≠ .ap q n i off) {j : Nat} {u : V} (h : rd mem j p = some u) :
    ∃ ad x, y = .pointer (some ad) ∧ w.cell? (ad.add j) = some x ∧ RV z mem ep m w u x := by
  cases hp with
  | ap hq => exact absurd rfl (hna _ _ _ _)
  | lit _ => simp [rd] at h
  | ro _ => simp [rd] at h
  | ow _ _ _ => simp [rd] at h
  | cl _ _ => simp [rd] at h
  | vw _ _ _ _ => simp [rd] at h
  | bp hid h1 hh =>
    simp only [rd, Option.bind_eq_some_iff] at h
    obtain ⟨cells, hb, hu⟩ := h
    have hb' := boxOf_some hb
    obtain ⟨g, hd, rfl⟩ := hh _ hb'
    obtain ⟨hbv, g', T, cs, hd', hheap, hG, hsz, hrv⟩ := hg.blk _ _ hb'
    rw [hd] at hd'
    simp only [Value.pointer.injEq, Option.some.injEq, Addr.mk.injEq, and_true] at hd'
    subst hd'
    rename_i id bv off
    have hlt : off + j < cs.size := by rw [hsz]; exact (List.getElem?_eq_some_iff.1 hu).1
    have he : cs[off + j]? = some cs[off + j] := Array.getElem?_eq_getElem hlt
    refine ⟨_, cs[off + j], rfl, ?_, hrv _ _ _ hu he⟩
    rw [addO]
    simp [World.cell?, hheap, hlt]
  | ip hid h1 hh =>
    rename_i id hv i off
    simp only [rd, Option.bind_eq_some_iff] at h
    obtain ⟨b, hb, row, hrow, u', hu', hvu⟩ := h
    have hb' := rowsH_some hb
    obtain ⟨g, hown, rfl⟩ := hh _ _ _ hb'
    obtain ⟨hhv, hcv, cs, f, ho, hG, hlen, hrep⟩ := hg.blk _ _ hb'
    have hi := (List.getElem?_eq_some_iff.1 hrow).1
    have hj := (List.getElem?_eq_some_iff.1 hu').1
    rw [hlen row (List.mem_of_getElem? hrow)] at hj
    have hlt : i * z b.2.1 + (off + j) < cs.length := by
      rw [ho.1]
      have : (i + 1) * z b.2.1 ≤ b.2.2.length * z b.2.1 := Nat.mul_le_mul_right _ hi
      rw [Nat.succ_mul] at this
      omega
    have he : cs[i * z b.2.1 + (off + j)]? = some cs[i * z b.2.1 + (off + j)] := List.getElem?_eq_getElem hlt
    have hr := hrep i (off + j) row u' _ hrow hu' he
    refine ⟨_, cs[i * z b.2.1 + (off + j)], rfl, ?_, ?_⟩
    · rw [addO, Nat.add_assoc]
      exact own_cell ho hown he
    · have hcell := own_cell ho hown he
      generalize cs[i * z b.2.1 + (off + j)] = x at hr hcell
      cases u' with
      | lit v =>
        simp only [vu, Option.some.injEq] at hvu
        subst hvu
        cases hr with
        | lit h => exact .lit h
      | sl own e rows =>
        cases own with
        | true =>
          simp only [vu, Option.some.injEq] at hvu
          subst hvu
          refine .vw hcv (rep_one hr) (fun hv' e' rs' hm' => ?_) (fun hv' i' j' hp => ?_)
          · have := hr.erase (ok' := fun _ => False)
            simp only [V.er] at this
            exact this.mono (fun k hk => hk.elim .inl (fun h => .inr h.1)) (fun _ h => h)
          · simp only [Option.some.injEq, Prod.mk.injEq] at hp
            obtain ⟨rfl, rfl, rfl⟩ := hp
            refine ⟨hhv, fun e' rs' hm' => ?_⟩
            obtain ⟨_, _, _, rfl⟩ := rows_inj4 hb' hm'
            exact ⟨row, _, _, g, hrow, hu', hown, by rw [hlen row (List.mem_of_getElem? hrow)]; exact hcell⟩
        | false =>
          simp only [vu, Option.some.injEq] at hvu
          subst hvu
          exact .ro (rep_ro hr)
      | _ => simp [vu] at hvu
  | rp ad f hro hcell hr =>
    simp only [rd, Option.bind_eq_some_iff] at h
    obtain ⟨u', hu', hru⟩ := h
    rename_i row off
    refine ⟨_, f (off + j), rfl, ?_, ?_⟩
    · rw [Go.Deep.add_add]
      exact hcell _ _ hu'
    · have hr' := hr _ _ hu'
      cases u' with
      | lit v =>
        simp only [ru, Option.some.injEq] at hru
        subst hru
        generalize f (off + j) = x at hr' ⊢
        cases hr' with
        | lit h => exact .lit h
      | sl own e rows =>
        cases own with
        | true => simp [ru] at hru
        | false =>
          simp only [ru, Option.some.injEq] at hru
          subst hru
          exact .ro hr'
      | _ => simp [ru] at hru
  | vp hid h1 hh => exact rd_vp hg (.vp hid h1 hh) h
  | np hv x hp hx => exact rd_np hg (.np hv x hp hx) h
theorem rd_rv (hg : Good z B w0 mem ep m w) {p : V} {y : Value} (hp : RV z mem ep m w p y) {j : Nat} {u : V} (h : rd mem j p = some u) :
    ∃ ad x, y = .pointer (some ad) ∧ w.cell? (ad.add j) = some x ∧ RV z mem ep m w u x := by
  cases p with
  | ap q n i off =>
    cases hp with
    | ap hq =>
      have h0 : rdA mem n i (off + j) q = some u := h
      have hna : ∀ q' n i off, q ≠ .ap q' n i off := by
        rintro q' n' i' off' rfl
        simp [rdA] at h0
      obtain ⟨ad', x, h1, h2, h3⟩ := rd_rv0 hg hq hna (rdA_rd h0)
      simp only [Value.pointer.injEq, Option.some.injEq] at h1
      subst h1
      exact ⟨_, x, rfl, by rw [Go.Deep.add_add, Nat.add_assoc]; exact h2, h3⟩
  | _ => exact rd_rv0 hg hp (fun _ _ _ _ e => by cases e) h

theorem rdN_rv (hg : Good z B w0 mem ep m w) {p : V} {y : Value} (hp : RV z mem ep m w p y) : ∀ (n j : Nat) (cs : List V), rdN mem p j n = some cs → 0 < n →
    ∃ (ad : Addr) (xs : List Value), y = .pointer (some ad) ∧ xs.length = n ∧ cs.length = n ∧ (∀ (i : Nat) (x : Value), xs[i]? = some x → w.cell? (ad.add (j + i)) = some x) ∧ ∀ (i : Nat) (u : V) (x : Value), cs[i]? = some u → xs[i]? = some x → RV z mem ep m w u x := by
  intro n
  induction n with
  | zero => intro j cs h h0; omega
  | succ n ih =>
    intro j cs h _
    simp only [rdN, Option.bind_eq_some_iff] at h
    obtain ⟨v, hv, vs, hvs, he⟩ := h
    simp only [Option.some.injEq] at he
    subst he
    obtain ⟨ad, x, hy, hc, hr⟩ := rd_rv hg hp hv
    rcases Nat.eq_zero_or_pos n with h0 | h0
    · subst h0
      simp only [rdN, Option.some.injEq] at hvs
      subst hvs
      refine ⟨ad, [x], hy, rfl, rfl, fun i x' hx => ?_, fun i u x' hu hx => ?_⟩
      · cases i with
        | zero => simp at hx; subst hx; exact hc
        | succ i => simp at hx
      · cases i with
        | zero => simp at hx hu; subst hx; subst hu; exact hr
        | succ i => simp at hx
    · obtain ⟨ad', xs, hy', h1, h2, h3, h4⟩ := ih (j + 1) vs hvs h0
      rw [hy] at hy'
      simp only [Value.pointer.injEq, Option.some.injEq] at hy'
      subst hy'
      refine ⟨ad, x :: xs, hy, by simp [h1], by simp [h2], fun i x' hx => ?_, fun i u x' hu hx => ?_⟩
      · cases i with
        | zero => simp at hx; subst hx; exact hc
        | succ i =>
          simp at hx
          have := h3 i x' hx
          rwa [show j + 1 + i = j + (i + 1) from by omega] at this
      · cases i with
        | zero => simp at hx hu; subst hx; subst hu; exact hr
        | succ i => simp at hx hu; exact h4 i u x' hu hx

theorem run_isAgg {T : Nat} {d : TypeDesc} (h : P.underlying T = some d) (w : World) : (isAgg T).run P w = .ok (isAggD d) w := by
  unfold isAgg
  rw [Sem.run_bind, run_underlying h]
  simp only [Result.andThen_ok]
  cases d <;> rfl
theorem info_some {T : Nat} {d : TypeDesc} (h : P.underlying T = some d) : ∃ i, P.info? T = some i ∧ P.cellsOf T = i.size := by
  unfold Program.underlying at h
  cases hi : P.info? T with
  | none => rw [hi] at h; cases h
  | some i => exact ⟨i, rfl, by simp [Program.cellsOf, hi]⟩
theorem run_sizeOf {T : Nat} {i : TypeInfo} (h : P.info? T = some i) (w : World) : (sizeOf T).run P w = .ok i.size w := by
  simp [sizeOf, typeInfo, h]
theorem run_sizeOf' {T : Nat} {d : TypeDesc} (h : P.underlying T = some d) (w : World) : (sizeOf T).run P w = .ok (P.cellsOf T) w := by
  obtain ⟨i, hi, he⟩ := info_some h
  rw [he]; exact run_sizeOf hi w

/-- What was there stands as it stood. -/
def Ext (w w' : World) : Prop := w.heap.size ≤ w'.heap.size ∧ ∀ k, k < w.heap.size → w'.heap[k]? = w.heap[k]?
theorem Ext.refl (w : World) : Ext w w := ⟨Nat.le_refl _, fun _ _ => rfl⟩
theorem Ext.of_below {w w' : World} (h : Below w.heap.size w w') : Ext w w' := ⟨h.size, fun k hk => h.block k hk⟩
theorem Ext.trans {a b c : World} (h : Ext a b) (k : Ext b c) : Ext a c := ⟨Nat.le_trans h.1 k.1, fun x hx => (k.2 x (Nat.lt_of_lt_of_le hx h.1)).trans (h.2 x hx)⟩
theorem Ext.cell {w w' : World} (h : Ext w w') {a : Addr} {v : Value} (hc : w.cell? a = some v) : w'.cell? a = some v := by
  rw [← hc]
  exact World.cell?_of_block (h.2 _ (cell_lt hc))

theorem loadV_run (hg : Good z B w0 mem ep m w) {T : Nat} {p : V} {y : Value} (hp : RV z mem ep m w p y) {tv : TV} (h : loadV P mem T p = some tv) (h0 : P.cellsOf T ≠ 0) :
    ∃ v, (∀ w', Ext w w' → (Instr.loadAt T y).run P w' = .ok v w') ∧ RTV z mem ep m w tv v := by
  unfold loadV at h
  simp only [Option.bind_eq_some_iff] at h
  obtain ⟨d, hd, h⟩ := h
  split at h
  · rename_i hag
    simp only [Option.bind_eq_some_iff, Option.some.injEq] at h
    obtain ⟨cs, hcs, rfl⟩ := h
    obtain ⟨ad, xs, rfl, h1, h2, h3, h4⟩ := rdN_rv hg hp _ _ _ hcs (by omega)
    refine ⟨.agg xs.toArray, fun w' hw => ?_, .agg (by simp [h1, h2]) (fun j u x hu hx => h4 j u x hu (by simpa using hx))⟩
    unfold Instr.loadAt Instr.sureAddr loadVar
    have := run_loadCells_list (P := P) (w := w') ad xs (fun j v hv => by have := h3 j v hv; exact hw.cell (by simpa using this))
    rw [h1] at this
    simp [run_isAgg hd, hag, run_sizeOf' hd, this]
  · rename_i hag
    simp only [Option.bind_eq_some_iff, Option.some.injEq] at h
    obtain ⟨v, hv, rfl⟩ := h
    obtain ⟨ad, x, rfl, hc, hr⟩ := rd_rv hg hp hv
    refine ⟨x, fun w' hw => ?_, .one hr⟩
    unfold Instr.loadAt Instr.sureAddr loadVar
    have e0 : ad.add 0 = ad := by simp [Addr.add]
    rw [e0] at hc
    simp [run_isAgg hd, hag, load, Sem.run, hw.cell hc]
end
end Go.Proofs.Ytanglbgincgmaaa.Vm
namespace Go.Proofs.Ytanglbgincgmaaa.Vm
open Go Go.RowKit
set_option linter.unusedVariables false
section
variable {P : Program} {S : St} {m : Mp} {w w0 : World} {a : Act} {B : Nat}

/-- A quiet step yields one value, whatever has come behind. -/
def StepQ (P : Program) (S : St) (m : Mp) (w : World) (a : Act) (o : Oper) (r : TV × Mem × Nat) : Prop :=
  r.2 = (S.mem, S.ep) ∧ ∃ v, (∀ w', Ext w w' → (execOp a.eval o).run P w' = .ok (.value v) w') ∧ RTV P.cellsOf S.mem S.ep m w r.1 v
/-- An operation's step is the model's. -/
def StepOk (P : Program) (B : Nat) (w0 : World) (S : St) (m : Mp) (w : World) (a : Act) (o : Oper) (r : TV × Mem × Nat) : Prop :=
  (quietKind o = true → StepQ P S m w a o r) ∧ ∃ v w', (execOp a.eval o).run P w = .ok (.value v) w' ∧ (freshKind o = true → Ext w w') ∧ Res P.cellsOf B w0 S m w r v w'

theorem StepOk.quiet (hg : Good P.cellsOf B w0 S.mem S.ep m w) {o : Oper} {tv : TV} {v : Value} (hs : ∀ w', Ext w w' → (execOp a.eval o).run P w' = .ok (.value v) w') (h : RTV P.cellsOf S.mem S.ep m w tv v) :
    StepOk P B w0 S m w a o (tv, S.mem, S.ep) := ⟨fun _ => ⟨rfl, v, hs, h⟩, v, w, hs w (Ext.refl w), fun _ => Ext.refl w, Res.same hg h⟩
theorem StepOk.value (hg : Good P.cellsOf B w0 S.mem S.ep m w) {o : Oper} {tv : TV} {s : Sem Value} {v : Value} (he : execOp a.eval o = (do let x ← s; pure (Next.value x))) (hs : ∀ w', Ext w w' → s.run P w' = .ok v w') (h : RTV P.cellsOf S.mem S.ep m w tv v) :
    StepOk P B w0 S m w a o (tv, S.mem, S.ep) := StepOk.quiet hg (fun w' hw => by rw [he]; exact run_value (hs w' hw)) h

theorem natOf_some {v : Value} {n : Nat} (h : natOf v = some n) : v = .int .i64 n := by
  unfold natOf at h
  split at h
  · rename_i k
    split at h
    · simp only [Option.some.injEq] at h
      subst h
      rw [Int.toNat_of_nonneg (by assumption)]
    · cases h
  · cases h

theorem ptrAdd_rv {z : Nat → Nat} {mem : Mem} {ep k : Nat} (hg : Good z B w0 mem ep m w) {p q : V} {y : Value} (hp : RV z mem ep m w p y) (h : ptrAdd mem k p = some q) :
    ∃ ad, y = .pointer (some ad) ∧ RV z mem ep m w q (.pointer (some (ad.add k))) := by
  cases hp with
  | lit _ => simp [ptrAdd] at h
  | ro _ => simp [ptrAdd] at h
  | ow _ _ _ => simp [ptrAdd] at h
  | cl _ _ => simp [ptrAdd] at h
  | vw _ _ _ _ => simp [ptrAdd] at h
  | bp hid h1 hh =>
    simp only [ptrAdd, Option.bind_eq_some_iff, Option.some.injEq] at h
    obtain ⟨cells, hb, rfl⟩ := h
    obtain ⟨g, hd, rfl⟩ := hh _ (boxOf_some hb)
    refine ⟨_, rfl, .bp hid rfl (fun c hc => ?_)⟩
    exact ⟨g, hd, by rw [addO]⟩
  | ip hid h1 hh =>
    simp only [ptrAdd, Option.bind_eq_some_iff, Option.some.injEq] at h
    obtain ⟨b, hb, rfl⟩ := h
    have hb' := rowsH_some hb
    obtain ⟨g, hd, rfl⟩ := hh _ _ _ hb'
    refine ⟨_, rfl, .ip hid rfl (fun cv e rs hc => ?_)⟩
    rw [hb'] at hc
    simp only [Option.some.injEq, Blk.rows.injEq] at hc
    obtain ⟨_, _, rfl, _⟩ := hc
    exact ⟨g, hd, by rw [addO, Nat.add_assoc]⟩
  | rp ad f hro hcell hr =>
    simp only [ptrAdd, Option.some.injEq] at h
    subst h
    refine ⟨_, rfl, ?_⟩
    rw [Go.Deep.add_add]
    exact .rp ad f hro hcell hr
  | vp hid h1 hh =>
    simp only [ptrAdd] at h
    split at h
    · rename_i hs
      simp only [Option.some.injEq] at h
      subst h
      obtain ⟨hv, e, rs, hm⟩ := seenC_some hs
      obtain ⟨ad, f, rfl, hro, hcell, hr⟩ := hh _ _ _ hm
      refine ⟨_, rfl, .vp hid rfl (fun hv' e' rs' hm' => ⟨ad, f, by rw [Go.Deep.add_add], hro, hcell, hr⟩)⟩
    · cases h
  | ap hq =>
    simp only [ptrAdd, Option.some.injEq] at h
    subst h
    refine ⟨_, rfl, ?_⟩
    rw [Go.Deep.add_add, Nat.add_assoc]
    exact .ap hq
  | np hvp x hp hx =>
    simp only [ptrAdd] at h
    split at h
    · rename_i hs
      simp only [Option.some.injEq] at h
      subst h
      obtain ⟨hv, e, rs, hm⟩ := seenC_some hs
      cases hvp with
      | vp hid h1 hh =>
        obtain ⟨ad, f, rfl, hro, hcell, hr⟩ := hh _ _ _ hm
        refine ⟨_, rfl, .np (.vp hid rfl (fun hv' e' rs' hm' => ⟨ad, f, by rw [Go.Deep.add_add], hro, hcell, hr⟩)) x hp (fun ee rr hmm => ?_)⟩
        obtain ⟨g2, h2, h3⟩ := hx ee rr hmm
        simp only [Value.pointer.injEq, Option.some.injEq] at h3
        refine ⟨g2, h2, ?_⟩
        rw [h3, addO, Nat.add_assoc]
    · cases h

theorem idxA_rv {z : Nat → Nat} {mem : Mem} {ep len n j : Nat} (hg : Good z B w0 mem ep m w) {p q : V} {y : Value} (hp : RV z mem ep m w p y) (h : idxA mem len n j p = some q) :
    ∃ ad, y = .pointer (some ad) ∧ RV z mem ep m w q (.pointer (some (ad.add (j * n)))) := by
  cases p with
  | ap q0 n2 i off =>
    simp only [idxA] at h
    split at h
    · rename_i hc
      simp only [Option.some.injEq] at h
      subst h
      obtain ⟨rfl, rfl⟩ := hc
      cases hp with
      | ap hq =>
        refine ⟨_, rfl, ?_⟩
        rw [Go.Deep.add_add]
        have : i * (len * n) + 0 + j * n = (i * len + j) * n + 0 := by rw [Nat.add_mul, Nat.mul_assoc]; omega
        rw [this]
        exact .ap hq
    · cases h
  | bp id bv off =>
    simp only [idxA] at h
    split at h
    · exact ptrAdd_rv hg hp h
    · simp only [Option.bind_eq_some_iff, Option.some.injEq] at h
      obtain ⟨q0, h1, rfl⟩ := h
      obtain ⟨ad, h2, h3⟩ := ptrAdd_rv hg hp h1
      refine ⟨ad, h2, ?_⟩
      have := RV.ap (n := n) (i := j) (off := 0) h3
      rwa [Go.Deep.add_add, Nat.zero_add, Nat.add_zero] at this
  | rp row off =>
    simp only [idxA] at h
    split at h
    · exact ptrAdd_rv hg hp h
    · simp only [Option.some.injEq] at h
      subst h
      have h1 : ptrAdd mem 0 (.rp row off) = some (.rp row (off + 0)) := rfl
      obtain ⟨ad, h2, h3⟩ := ptrAdd_rv hg hp h1
      refine ⟨ad, h2, ?_⟩
      rw [Nat.add_zero] at h3
      have := RV.ap (n := n) (i := j) (off := 0) h3
      rwa [Go.Deep.add_add, Nat.zero_add, Nat.add_zero] at this
  | _ => exact ptrAdd_rv hg hp h
theorem part1_run {z : Nat → Nat} {mem : Mem} {ep : Nat} {T off : Nat} {cs : List V} {ys : Array Value} {r : TV} (hs : ys.size = cs.length)
    (h : ∀ (j : Nat) (u : V) (y : Value), cs[j]? = some u → ys[j]? = some y → RV z mem ep m w u y) (hp : part1 P T cs off = some r) : ∃ v, (∀ w' : World, (part T ys off).run P w' = .ok v w') ∧ RTV z mem ep m w r v := by
  unfold part1 at hp
  simp only [Option.bind_eq_some_iff] at hp
  obtain ⟨d, hd, hp⟩ := hp
  unfold part
  split at hp
  · rename_i hag
    split at hp
    · rename_i hle
      simp only [Option.some.injEq] at hp
      subst hp
      refine ⟨.agg (ys.extract off (off + P.cellsOf T)), fun w' => by simp [run_isAgg hd, hag, run_sizeOf' hd], .agg (by simp; omega) (fun j u y h1 h2 => ?_)⟩
      have hj : j < P.cellsOf T := by
        have := (List.getElem?_eq_some_iff.1 h1).1
        simp at this
        omega
      rw [List.getElem?_take, if_pos hj, List.getElem?_drop] at h1
      refine h (off + j) u y h1 ?_
      rw [← h2]
      simp [Array.getElem?_extract]
      omega
    · cases hp
  · rename_i hag
    simp only [Option.bind_eq_some_iff, Option.some.injEq] at hp
    obtain ⟨v, hv, rfl⟩ := hp
    have hlt : off < ys.size := by rw [hs]; exact (List.getElem?_eq_some_iff.1 hv).1
    have he : ys[off]? = some ys[off] := Array.getElem?_eq_getElem hlt
    exact ⟨ys[off], fun w' => by simp [run_isAgg hd, hag, he], .one (h _ _ _ hv he)⟩

theorem step_move (hg : Good P.cellsOf B w0 S.mem S.ep m w) (hT : Tms P.cellsOf S m w a.tmps) {o : Oper} {x : Operand} {r : TV × Mem × Nat} (ho : o.op = .move x ∨ o.op = .assign x) (h : ((ev S x).bind fun v => some (v, S.mem, S.ep)) = some r) : StepOk P B w0 S m w a o r := by
  simp only [Option.bind_eq_some_iff, Option.some.injEq] at h
  obtain ⟨v, hv, rfl⟩ := h
  refine StepOk.quiet hg (fun w' _ => ?_) (ev_rtv hT hv)
  unfold execOp
  rcases ho with ho | ho <;> simp [ho]
theorem step_pick (hg : Good P.cellsOf B w0 S.mem S.ep m w) (hT : Tms P.cellsOf S m w a.tmps) {o : Oper} {c x y : Operand} {r : TV × Mem × Nat} (ho : o.op = .pick c x y) (h : stepOp P S o = some r) : StepOk P B w0 S m w a o r := by
  unfold stepOp at h
  simp only [ho, Option.bind_eq_some_iff] at h
  obtain ⟨b, hb, h⟩ := h
  obtain ⟨hc, _⟩ := evL_eq hT hb
  cases b with
  | bool t =>
    cases t with
    | false =>
      replace h : ((ev S y).bind fun v => some (v, S.mem, S.ep)) = some r := h
      simp only [Option.bind_eq_some_iff, Option.some.injEq] at h
      obtain ⟨v, hv, rfl⟩ := h
      refine StepOk.quiet hg (fun w' _ => ?_) (ev_rtv hT hv)
      unfold execOp
      simp [ho, hc, asBool]
    | true =>
      replace h : ((ev S x).bind fun v => some (v, S.mem, S.ep)) = some r := h
      simp only [Option.bind_eq_some_iff, Option.some.injEq] at h
      obtain ⟨v, hv, rfl⟩ := h
      refine StepOk.quiet hg (fun w' _ => ?_) (ev_rtv hT hv)
      unfold execOp
      simp [ho, hc, asBool]
  | _ => cases h
theorem nilV_run (hT : Tms P.cellsOf S m w a.tmps) {op : BinOp} {T : Nat} {x : Operand} {t : Bool} (h : nilV P S op T x = some t) (w' : World) : (do eqGuard op T x (.const (.slice none 0 0)) (a.eval x) (.slice none 0 0); binOp op T (a.eval x) (.slice none 0 0) : Sem Value).run P w' = .ok (.bool t) w' := by
  unfold nilV at h
  simp only [Option.bind_eq_some_iff] at h
  obtain ⟨d, hd, h⟩ := h
  split at h
  · rename_i e
    simp only [Option.bind_eq_some_iff] at h
    obtain ⟨t0, h0, h⟩ := h
    obtain ⟨A, n, c, hy, hA⟩ : ∃ A n c, a.eval x = .slice A n c ∧ A.isNone = t0 := by
      split at h0
      · rename_i A n c hx
        simp only [Option.some.injEq] at h0
        have hrv := ev1_rv hT hx
        generalize a.eval x = y at hrv
        cases hrv with
        | lit _ => exact ⟨_, _, _, rfl, h0⟩
      · rename_i e' row rows hx
        simp only [Option.some.injEq] at h0
        have hrv := ev1_rv hT hx
        generalize a.eval x = y at hrv
        cases hrv with
        | ro hr =>
          cases hr with
          | roS ad y hc hm hrow hA h1 hcell hr =>
            have := hA (by simp)
            subst this
            exact ⟨_, _, _, rfl, h0⟩
      · cases h0
    have e1 : ∀ op', (eqGuard op' T x (.const (.slice none 0 0)) (.slice A n c) (.slice none 0 0)).run P w' = .ok () w' := by
      intro op'
      unfold eqGuard
      cases op' <;> rfl
    rw [hy]
    split at h
    · simp only [Option.some.injEq] at h
      subst h
      rw [Sem.run_bind, e1]
      simp only [Result.andThen_ok]
      rw [Go.Lib.run_eql_slice_nil w' T e A n c 0 0 hd, hA]
    · simp only [Option.some.injEq] at h
      subst h
      rw [Sem.run_bind, e1]
      simp only [Result.andThen_ok]
      simp only [binOp]
      simp [Op.equal, Op.maxDepth, Go.Lib.run_equalIn_slice_nil w' 9999 T e A n c 0 0 hd, hA]
    · cases h
  · cases h
theorem step_binOp (hg : Good P.cellsOf B w0 S.mem S.ep m w) (hT : Tms P.cellsOf S m w a.tmps) {o : Oper} {op : BinOp} {T T' : Nat} {x y : Operand} {r : TV × Mem × Nat} (ho : o.op = .binOp op T x y T') (h : stepOp P S o = some r) : StepOk P B w0 S m w a o r := by
  unfold stepOp at h
  simp only [ho] at h
  split at h
  · simp only [Option.bind_eq_some_iff, Option.some.injEq] at h
    obtain ⟨t, ht, rfl⟩ := h
    refine StepOk.value hg ?_ (fun w' _ => nilV_run hT ht w') (.one (.lit rfl))
    unfold execOp
    simp only [ho]
    rfl
  simp only [Option.bind_eq_some_iff, Option.some.injEq] at h
  obtain ⟨vx, hx, vy, hy, v, hq, tv, hl, rfl⟩ := h
  obtain ⟨ex, _⟩ := evL_eq hT hx
  obtain ⟨ey, _⟩ := evL_eq hT hy
  refine StepOk.value hg ?_ (fun w' _ => quiet_run (show quiet P _ = some v from hq) w') (lift_rtv hl)
  unfold execOp
  simp only [ho, ex, ey]
theorem step_unOp (hg : Good P.cellsOf B w0 S.mem S.ep m w) (hT : Tms P.cellsOf S m w a.tmps) {o : Oper} {op : UnOp} {T : Nat} {x : Operand} {r : TV × Mem × Nat} (ho : o.op = .unOp op T x) (h : stepOp P S o = some r) : StepOk P B w0 S m w a o r := by
  unfold stepOp at h
  simp only [ho, Option.bind_eq_some_iff, Option.some.injEq] at h
  obtain ⟨vx, hx, v, hq, tv, hl, rfl⟩ := h
  obtain ⟨ex, _⟩ := evL_eq hT hx
  refine StepOk.value hg ?_ (fun w' _ => quiet_run (show quiet P _ = some v from hq) w') (lift_rtv hl)
  unfold execOp
  simp only [ho, ex]
theorem step_load (hg : Good P.cellsOf B w0 S.mem S.ep m w) (hT : Tms P.cellsOf S m w a.tmps) {o : Oper} {T : Nat} {x : Operand} {r : TV × Mem × Nat} (ho : o.op = .load T x) (h : stepOp P S o = some r) (h0 : P.cellsOf T ≠ 0) : StepOk P B w0 S m w a o r := by
  unfold stepOp at h
  simp only [ho, if_neg h0, Option.bind_eq_some_iff, Option.some.injEq] at h
  obtain ⟨p, hp, tv, hl, rfl⟩ := h
  obtain ⟨v, hr, ht⟩ := loadV_run hg (ev1_rv hT hp) hl h0
  refine StepOk.value hg ?_ hr ht
  unfold execOp
  simp only [ho]
theorem step_fieldAddr (hg : Good P.cellsOf B w0 S.mem S.ep m w) (hT : Tms P.cellsOf S m w a.tmps) {o : Oper} {T f : Nat} {x : Operand} {r : TV × Mem × Nat} (ho : o.op = .fieldAddr T x f) (h : stepOp P S o = some r) : StepOk P B w0 S m w a o r := by
  unfold stepOp at h
  simp only [ho, Option.bind_eq_some_iff] at h
  obtain ⟨d, hd, h⟩ := h
  split at h
  · rename_i fs
    simp only [Option.bind_eq_some_iff] at h
    obtain ⟨fd, hf, h⟩ := h
    split at h
    · cases h
    · rename_i hz
      simp only [Option.bind_eq_some_iff, Option.some.injEq] at h
      obtain ⟨p, hp, q, hq, rfl⟩ := h
      obtain ⟨ad, hy, hrv⟩ := ptrAdd_rv hg (ev1_rv hT hp) hq
      obtain ⟨i, hi, hsz⟩ : ∃ i, P.info? fd.type = some i ∧ P.cellsOf fd.type = i.size := by
        cases hi : P.info? fd.type with
        | none => simp [Program.cellsOf, hi] at hz
        | some i => exact ⟨i, rfl, by simp [Program.cellsOf, hi]⟩
      refine StepOk.value hg (s := Instr.fieldAt T (a.eval x) f) (by unfold execOp; simp only [ho]) (fun w' _ => ?_) (.one hrv)
      unfold Instr.fieldAt fieldPlace
      rw [hsz] at hz
      simp [run_underlying hd, hf, hy, Instr.sureAddr, run_sizeOf hi, hz]
  · cases h
theorem step_field (hg : Good P.cellsOf B w0 S.mem S.ep m w) (hT : Tms P.cellsOf S m w a.tmps) {o : Oper} {T f : Nat} {x : Operand} {r : TV × Mem × Nat} (ho : o.op = .field T x f) (h : stepOp P S o = some r) : StepOk P B w0 S m w a o r := by
  unfold stepOp at h
  simp only [ho, Option.bind_eq_some_iff] at h
  obtain ⟨d, hd, h⟩ := h
  split at h
  · rename_i fs
    simp only [Option.bind_eq_some_iff] at h
    obtain ⟨fd, hf, tv, htv, h⟩ := h
    split at h
    · rename_i cs
      simp only [Option.bind_eq_some_iff, Option.some.injEq] at h
      obtain ⟨r', hr, rfl⟩ := h
      have h1 := ev_rtv hT htv
      generalize hy : a.eval x = y at h1
      cases h1 with
      | agg hs hh =>
        obtain ⟨v, hv, hrv⟩ := part1_run (P := P) hs hh hr
        refine StepOk.value hg (s := Instr.field T (a.eval x) f) (by unfold execOp; simp only [ho]) (fun w' _ => ?_) hrv
        unfold Instr.field
        simp [run_underlying hd, hf, hy, asAgg, hv]
    · cases h
  · cases h
theorem step_extract (hg : Good P.cellsOf B w0 S.mem S.ep m w) (hT : Tms P.cellsOf S m w a.tmps) {o : Oper} {i : Nat} {x : Operand} {r : TV × Mem × Nat} (ho : o.op = .extract x i) (h : stepOp P S o = some r) : StepOk P B w0 S m w a o r := by
  unfold stepOp at h
  simp only [ho, Option.bind_eq_some_iff] at h
  obtain ⟨tv, htv, h⟩ := h
  split at h
  · rename_i l
    simp only [Option.bind_eq_some_iff, Option.some.injEq] at h
    obtain ⟨v, hv, rfl⟩ := h
    have h1 := ev_rtv hT htv
    generalize hy : a.eval x = y at h1
    cases h1 with
    | tup hs hh =>
      rename_i ys
      have hlt : i < ys.size := by rw [hs]; exact (List.getElem?_eq_some_iff.1 hv).1
      have he : ys[i]? = some ys[i] := Array.getElem?_eq_getElem hlt
      refine StepOk.value hg (s := Instr.extract (a.eval x) i) (by unfold execOp; simp only [ho]) (fun w' _ => ?_) (hh _ _ _ hv he)
      unfold Instr.extract
      simp [hy, he]
  · cases h
end
end Go.Proofs.Ytanglbgincgmaaa.Vm
namespace Go.Proofs.Ytanglbgincgmaaa.Vm
open Go Go.RowKit
set_option linter.unusedVariables false
section
variable {P : Program} {S : St} {m : Mp} {w w0 : World} {a : Act} {B : Nat}

theorem info_of_cells {T : Nat} (hz : P.cellsOf T ≠ 0) : ∃ i, P.info? T = some i ∧ P.cellsOf T = i.size := by
  cases hi : P.info? T with
  | none => simp [Program.cellsOf, hi] at hz
  | some i => exact ⟨i, rfl, by simp [Program.cellsOf, hi]⟩
theorem run_size {T : Nat} (hz : P.cellsOf T ≠ 0) (w : World) : (sizeOf T).run P w = .ok (P.cellsOf T) w := by
  obtain ⟨i, hi, he⟩ := info_of_cells hz
  rw [he]; exact run_sizeOf hi w

theorem step_index (hg : Good P.cellsOf B w0 S.mem S.ep m w) (hT : Tms P.cellsOf S m w a.tmps) {o : Oper} {T : Nat} {x i : Operand} {r : TV × Mem × Nat} (ho : o.op = .index T x i) (h : stepOp P S o = some r) : StepOk P B w0 S m w a o r := by
  unfold stepOp at h
  simp only [ho, Option.bind_eq_some_iff] at h
  obtain ⟨n, hn, h⟩ := h
  obtain ⟨ei, _⟩ := evL_eq hT hn
  split at h
  · rename_i cs hcs
    simp only [Option.bind_eq_some_iff] at h
    obtain ⟨d, hd, h⟩ := h
    split at h
    · rename_i len e
      simp only [Option.bind_eq_some_iff] at h
      obtain ⟨j, hj, h⟩ := h
      split at h
      · rename_i hlt
        simp only [Option.bind_eq_some_iff, Option.some.injEq] at h
        obtain ⟨r', hr, rfl⟩ := h
        have hn' := natOf_some hj
        subst hn'
        have h1 := ev_rtv hT hcs
        generalize hy : a.eval x = y at h1
        cases h1 with
        | agg hs hh =>
          have hz : ∃ de, P.underlying e = some de := by
            unfold part1 at hr
            simp only [Option.bind_eq_some_iff] at hr
            exact ⟨_, hr.choose_spec.1⟩
          obtain ⟨de, hde⟩ := hz
          obtain ⟨v, hv, hrv⟩ := part1_run (P := P) hs hh hr
          refine StepOk.value hg (s := Instr.index T (a.eval x) (a.eval i)) (by unfold execOp; simp only [ho]) (fun w' _ => ?_) hrv
          unfold Instr.index
          rw [ei, hy]
          have h2 : (0 : Int) ≤ (j : Int) ∧ (j : Int) < (len : Int) := ⟨by omega, by omega⟩
          simp [asIntOf, run_underlying hd, hlt, run_sizeOf' hde, hv]
      · cases h
    · cases h
  · rename_i v hv
    simp only [Option.bind_eq_some_iff, Option.some.injEq] at h
    obtain ⟨v', hq, tv, hl, rfl⟩ := h
    have hx : evL S x = some v := by unfold evL ev1; rw [hv]
    obtain ⟨ex, _⟩ := evL_eq hT hx
    refine StepOk.value hg ?_ (fun w' _ => quiet_run hq w') (lift_rtv hl)
    unfold execOp
    simp only [ho, ex, ei]
  · cases h

theorem step_indexAddr (hg : Good P.cellsOf B w0 S.mem S.ep m w) (hT : Tms P.cellsOf S m w a.tmps) {o : Oper} {T : Nat} {x i : Operand} {r : TV × Mem × Nat} (ho : o.op = .indexAddr T x i) (h : stepOp P S o = some r) : StepOk P B w0 S m w a o r := by
  unfold stepOp at h
  simp only [ho, Option.bind_eq_some_iff] at h
  obtain ⟨n, hn, j, hj, p, hp, d, hd, h⟩ := h
  obtain ⟨ei, _⟩ := evL_eq hT hn
  have hn' := natOf_some hj
  subst hn'
  have hrv := ev1_rv hT hp
  have key : ∀ (e : Nat) (ad : Addr) (len cap : Nat) (q : V), d = .slice e → P.cellsOf e ≠ 0 → a.eval x = .slice (some ad) len cap → j < len → RV P.cellsOf S.mem S.ep m w q (.pointer (some (ad.add (j * P.cellsOf e)))) → StepOk P B w0 S m w a o (.one q, S.mem, S.ep) := by
    intro e ad len cap q he hz hy hlt hq
    subst he
    refine StepOk.value hg (s := Instr.indexAt T (a.eval x) (a.eval i)) (by unfold execOp; simp only [ho]) (fun w' _ => ?_) (.one hq)
    rw [ei, hy]
    unfold Instr.indexAt
    have h2 : (j : Int) < (len : Int) := by omega
    simp [asIntOf, run_underlying hd, hlt, run_size hz]
  split at h
  · rename_i e
    split at h
    · cases h
    · rename_i hz
      generalize hy : a.eval x = y at hrv key
      cases hrv with
      | ro hrep =>
        rename_i e2 rows2
        simp only at h
        split at h
        · rename_i he
          subst he
          simp only [Option.bind_eq_some_iff, Option.some.injEq] at h
          obtain ⟨row, hrow, rfl⟩ := h
          have hlt := (List.getElem?_eq_some_iff.1 hrow).1
          cases hrep with
          | roS ad f hc hm hlen hA hro hcell hr =>
            have hA' := hA (fun e => by rw [e] at hrow; simp at hrow)
            subst hA'
            refine key _ ad _ _ (.rp row 0) rfl hz rfl hlt ?_
            have e0 : ad.add (j * P.cellsOf e2) = (ad.add (j * P.cellsOf e2)).add 0 := by simp [Addr.add]
            rw [e0]
            exact .rp (ad.add (j * P.cellsOf e2)) (f j) (fun k u hu => by rw [add_block]; exact hro j k row u hrow hu) (fun k u hu => by rw [Go.Deep.add_add]; exact hcell j k row u hrow hu) (fun k u hu => hr j k row u hrow hu)
        · cases h
      | vw hid h1 hh hpp =>
        rename_i id2 cv2 e2 p2 rows2
        simp only at h
        split at h
        · rename_i he
          obtain ⟨he, hs⟩ := he
          subst he
          obtain ⟨hv, e', rs, hm⟩ := seenC_some hs
          have hrep := hh _ _ _ hm
          simp only [Option.bind_eq_some_iff, Option.some.injEq] at h
          obtain ⟨row, hrow, rfl⟩ := h
          have hlt := (List.getElem?_eq_some_iff.1 hrow).1
          cases hrep with
          | roS ad f hc hm' hlen hA hro hcell hr =>
            have hA' := hA (fun e => by rw [e] at hrow; simp at hrow)
            subst hA'
            have hvp : RV P.cellsOf S.mem S.ep m w (.vp id2 cv2 row 0) (.pointer (some (ad.add (j * P.cellsOf e2)))) := .vp hid rfl (fun hv' e'' rs' hm'' => ⟨ad.add (j * P.cellsOf e2), f j, by simp [Addr.add], fun k u hu => by rw [add_block]; exact hro j k row u hrow hu, fun k u hu => by rw [Go.Deep.add_add]; exact hcell j k row u hrow hu, fun k u hu => hr j k row u hrow hu⟩)
            refine key _ ad _ _ (ptrIn p2 id2 cv2 e2 j row) rfl hz rfl hlt ?_
            cases p2 with
            | none => exact hvp
            | some q =>
              obtain ⟨q1, q2, q3⟩ := q
              refine .np hvp _ hpp (fun ee rr hmm => ?_)
              obtain ⟨_, hpos⟩ := hpp q1 q2 q3 rfl
              obtain ⟨row0, f2, r2, g, k1, k2, k3, k4⟩ := hpos _ _ hmm
              obtain ⟨_, _, xs, f', hown, hG, hlen0, hrep0⟩ := hg.blk _ _ hmm
              have hz0 := hlen0 row0 (List.mem_of_getElem? k1)
              have hj0 := (List.getElem?_eq_some_iff.1 k2).1
              have hi0 := (List.getElem?_eq_some_iff.1 k1).1
              have hlt0 : q2 * P.cellsOf ee + q3 < xs.length := by
                rw [hown.1]
                have : (q2 + 1) * P.cellsOf ee ≤ rr.length * P.cellsOf ee := Nat.mul_le_mul_right _ hi0
                rw [Nat.succ_mul] at this
                omega
              have hc0 := List.getElem?_eq_getElem hlt0
              have hcc := own_cell hown k3 hc0
              rw [hz0, hcc] at k4
              simp only [Option.some.injEq] at k4
              have hr0 := hrep0 q2 q3 row0 _ _ k1 k2 hc0
              rw [k4] at hr0
              cases hr0 with
              | own cells f2 ho hok hrow2 hr2 =>
                obtain ⟨A, c, hxx, hcl, hmm2, hcs⟩ := ownsRow_slice ho
                simp only [Value.slice.injEq] at hxx
                obtain ⟨g', hA'', hgb, _⟩ := hcs (by omega)
                refine ⟨g', hgb, ?_⟩
                rw [hA''] at hxx
                have := hxx.1
                simp only [Option.some.injEq] at this
                rw [this, add0]
                rfl
        · cases h
      | ow hid h1 hh =>
        simp only [Option.bind_eq_some_iff] at h
        obtain ⟨b, hb, h⟩ := h
        split at h
        · rename_i hc
          obtain ⟨hlt, he⟩ := hc
          simp only [Option.some.injEq] at h
          subst h
          have hb' := rowsH_some hb
          have hy' := hh _ _ _ hb'
          subst hy'
          obtain ⟨_, _, cs, f, hown, hG, hlen, hrep⟩ := hg.blk _ _ hb'
          obtain ⟨A, c, hx, hn, hm, hcs⟩ := ownsRow_slice hown
          obtain ⟨g, hA, hgb, _⟩ := hcs (by omega)
          subst hA
          rw [hx] at hy
          refine key e ⟨g, 0, none⟩ b.2.2.length c (.ip _ _ j 0) rfl hz hx hlt ?_
          refine .ip hid rfl (fun cv e' rs hm' => ⟨g, hgb, ?_⟩)
          rw [hb'] at hm'
          simp only [Option.some.injEq, Blk.rows.injEq] at hm'
          obtain ⟨_, _, rfl, _⟩ := hm'
          rw [add0, he]
          rfl
        · cases h
      | _ => cases h
  · rename_i len e
    split at h
    · cases h
    · rename_i hz
      split at h
      · rename_i hlt
        simp only [Option.bind_eq_some_iff, Option.some.injEq] at h
        obtain ⟨q, hq, rfl⟩ := h
        obtain ⟨ad, hy, hrq⟩ := idxA_rv hg hrv hq
        refine StepOk.value hg (s := Instr.indexAt T (a.eval x) (a.eval i)) (by unfold execOp; simp only [ho]) (fun w' _ => ?_) (.one hrq)
        rw [ei, hy]
        unfold Instr.indexAt
        simp [asIntOf, run_underlying hd, hlt, run_size hz, Instr.sureAddr]
      · cases h
  · cases h

theorem execOp_builtin {o : Oper} {b : Builtin} {c : Call} (ho : o.op = .call c) (hb : c.callee = .builtin b) : ∃ cs, execOp a.eval o = builtin b c.argTypes o.type cs (c.args.map a.eval) := by
  refine ⟨c.args.map fun | .const _ => true | _ => false, ?_⟩
  unfold execOp
  simp only [ho, resolve, hb, invoke]
  rfl
theorem lenV_slice (hg : Good P.cellsOf B w0 S.mem S.ep m w) {v : V} {y : Value} (hv : RV P.cellsOf S.mem S.ep m w v y) {n : Nat} (h : lenV S.mem v = some n) : ∃ A c, y = .slice A n c := by
  cases hv with
  | lit hc =>
    unfold lenV at h
    split at h <;> first | cases h | skip
    all_goals (rename_i he; cases he)
    exact ⟨none, 0, rfl⟩
  | ro hrep =>
    simp only [lenV, Option.some.injEq] at h
    subst h
    cases hrep with
    | roS => exact ⟨_, _, rfl⟩
  | ow hid h1 hh =>
    simp only [lenV, Option.bind_eq_some_iff, Option.some.injEq] at h
    obtain ⟨b, hb, rfl⟩ := h
    have hb' := rowsH_some hb
    have hy' := hh _ _ _ hb'
    subst hy'
    obtain ⟨_, _, cs, f, hown, hG, hlen, hrep⟩ := hg.blk _ _ hb'
    obtain ⟨A, c, hx, hn, hm, hcs⟩ := ownsRow_slice hown
    exact ⟨A, c, hx⟩
  | vw hid h1 hh hpp =>
    simp only [lenV] at h
    split at h
    · rename_i hs
      simp only [Option.some.injEq] at h
      subst h
      obtain ⟨hv, e', rs, hm⟩ := seenC_some hs
      have hrep := hh _ _ _ hm
      cases hrep with
      | roS => exact ⟨_, _, rfl⟩
    · cases h
  | _ => simp [lenV] at h
theorem toList_one {α : Type} {l : Array α} {x : α} (h : l.toList = [x]) : l = #[x] := by cases l; simp_all
theorem toList_two {α : Type} {l : Array α} {x y : α} (h : l.toList = [x, y]) : l = #[x, y] := by cases l; simp_all
theorem step_B (hg : Good P.cellsOf B w0 S.mem S.ep m w) (hT : Tms P.cellsOf S m w a.tmps) {o : Oper} {b : Builtin} {c : Call} {r : TV × Mem × Nat} (ho : o.op = .call c) (hb : c.callee = .builtin b) (hna : b ≠ .append)
    (h : stepB P S b c.args.toList c.argTypes.toList = some r) : StepOk P B w0 S m w a o r := by
  obtain ⟨cs, hex⟩ := execOp_builtin (a := a) ho hb
  generalize hA : c.args.toList = al at h
  generalize hTt : c.argTypes.toList = tl at h
  unfold stepB at h
  split at h
  · rename_i x T
    rw [toList_one hA, toList_one hTt] at hex
    simp only [Option.bind_eq_some_iff] at h
    obtain ⟨v, hv, d, hd, h⟩ := h
    have hrv := ev1_rv hT hv
    have key : ∀ n : Nat, (∀ w' : World, (Builtin.len_ #[T] o.type #[a.eval x]).run P w' = .ok (goInt n) w') → StepOk P B w0 S m w a o (.one (.lit (.int .i64 n)), S.mem, S.ep) := by
      intro n hn
      refine StepOk.quiet hg (fun w' _ => ?_) (.one (.lit rfl))
      rw [hex]
      have e1 : Array.map a.eval #[x] = #[a.eval x] := by simp
      rw [e1]
      unfold builtin
      simp only [Sem.run_bind, hn w', Result.andThen_ok, Sem.run_pure]
      rfl
    split at h
    · rename_i e
      simp only [Option.bind_eq_some_iff, Option.some.injEq] at h
      obtain ⟨n, hn, rfl⟩ := h
      obtain ⟨A, c, hy⟩ := lenV_slice hg hrv hn
      refine key n (fun w' => ?_)
      rw [hy]
      simp [Builtin.len_, run_underlying hd]
    · split at h
      · rename_i s
        simp only [Option.some.injEq] at h
        subst h
        refine key s.size (fun w' => ?_)
        generalize hy : a.eval x = y at hrv
        cases hrv with
        | lit hc => simp [Builtin.len_, run_underlying hd]
      · cases h
    · cases h
  · exact absurd rfl hna
  · rename_i x y
    rw [toList_two hA] at hex
    simp only [Option.bind_eq_some_iff] at h
    obtain ⟨vx, hx, vy, hy, h⟩ := h
    obtain ⟨ex, _⟩ := evL_eq hT hx
    obtain ⟨ey, _⟩ := evL_eq hT hy
    split at h
    · split at h
      · rename_i k i k' j hk
        simp only [Option.some.injEq] at h
        subst h; subst hk
        refine StepOk.quiet hg (fun w' _ => ?_) (.one (.lit rfl))
        rw [hex]
        have e1 : Array.map a.eval #[x, y] = #[a.eval x, a.eval y] := by simp
        rw [e1]
        unfold builtin
        simp only [ex, ey, Builtin.min_, List.foldlM_cons, List.foldlM_nil, Builtin.min2, Sem.run_bind, Result.andThen_ok, Sem.run_pure]
      · cases h
    · cases h
  · rename_i x y
    rw [toList_two hA] at hex
    simp only [Option.bind_eq_some_iff] at h
    obtain ⟨vx, hx, vy, hy, h⟩ := h
    obtain ⟨ex, _⟩ := evL_eq hT hx
    obtain ⟨ey, _⟩ := evL_eq hT hy
    split at h
    · split at h
      · rename_i k i k' j hk
        simp only [Option.some.injEq] at h
        subst h; subst hk
        refine StepOk.quiet hg (fun w' _ => ?_) (.one (.lit rfl))
        rw [hex]
        have e1 : Array.map a.eval #[x, y] = #[a.eval x, a.eval y] := by simp
        rw [e1]
        unfold builtin
        simp only [ex, ey, Builtin.max_, List.foldlM_cons, List.foldlM_nil, Builtin.max2, gt_iff_lt, Sem.run_bind, Result.andThen_ok, Sem.run_pure]
      · cases h
    · cases h
  · cases h
end
end Go.Proofs.Ytanglbgincgmaaa.Vm
namespace Go.Proofs.Ytanglbgincgmaaa.Vm
open Go Go.RowKit
set_option linter.unusedVariables false
section
variable {P : Program} {S : St} {m m' : Mp} {w w' w0 : World} {a : Act} {B : Nat} {z : Nat → Nat} {mem mem' : Mem} {ep ep' : Nat}

/-- A block that nothing has touched. -/
theorem RBlk.keep {id : Nat} {b : Blk} (h : RBlk z mem ep m w id b) (e : Evo ep ep' mem mem' m m' w w') (hd : m'.hd id = m.hd id) (hk : ∀ k, m.G k = id + 1 → k < w.heap.size → m'.G k = id + 1 ∧ w'.heap[k]? = w.heap[k]?) : RBlk z mem' ep' m' w' id b := by
  have hep := e.le
  cases b with
  | box bv cells =>
    obtain ⟨h0, g, T, cs, h1, h2, h3, h4, h5⟩ := h
    have hlt := (Array.getElem?_eq_some_iff.1 h2).1
    exact ⟨by omega, g, T, cs, hd.trans h1, (hk g h3 hlt).2.trans h2, (hk g h3 hlt).1, h4, fun j u y a b => (h5 j u y a b).evo e⟩
  | rows hv cv e' rs =>
    obtain ⟨h0, h0', cs, f, h1, h2, h3, h4⟩ := h
    refine ⟨by omega, by omega, cs, f, ?_, fun k hk' => ?_, h3, fun i j row u y a b c => ?_⟩
    · rw [hd]
      refine ⟨h1.1, ?_⟩
      rcases h1.2 with h5 | ⟨g, cap, cur, h5, hg, hh, r⟩
      · exact .inl h5
      · have hb : (m.hd id).ownBlock = some g := by rw [h5]; rfl
        exact .inr ⟨g, cap, cur, h5, hg, (hk g (h2 g hb) (Array.getElem?_eq_some_iff.1 hh).1).2.trans hh, r⟩
    · rw [hd] at hk'
      exact (hk k (h2 k hk') (ownsRow_lt h1 hk')).1
    · refine (e.ro_move (h4 i j row u y a b c) (fun k h5 h6 => (hk k h5.1.1 h6).2)).mono (fun _ h => h) (fun k h5 => ?_)
      exact ⟨⟨(hk k h5.1.1 h5.1.2.2).1, by rw [hd]; exact h5.1.2.1, Nat.lt_of_lt_of_le h5.1.2.2 e.size⟩, h5.2⟩

/-- A mapping with one block more, and labels turned. -/
def Mp.add (m : Mp) (id : Nat) (x : Value) (G : Nat → Nat) : Mp := ⟨G, fun i => if i = id then x else m.hd i⟩
theorem Mp.add_same (m : Mp) (id : Nat) (x : Value) (G : Nat → Nat) : (m.add id x G).hd id = x := by simp [Mp.add]
theorem Mp.add_ne (m : Mp) {id i : Nat} (x : Value) (G : Nat → Nat) (h : i ≠ id) : (m.add id x G).hd i = m.hd i := by simp [Mp.add, h]

/-- Blocks that are gone. -/
def Gone (mem mem' : Mem) : Prop := mem'.length = mem.length ∧ ∀ (id : Nat) (b : Blk), mem'[id]? = some (some b) → mem[id]? = some (some b)
theorem Gone.refl (mem : Mem) : Gone mem mem := ⟨rfl, fun _ _ h => h⟩
theorem Gone.trans {a b c : Mem} (h : Gone a b) (k : Gone b c) : Gone a c := ⟨k.1.trans h.1, fun id x hx => h.2 id x (k.2 id x hx)⟩
theorem Gone.set (mem : Mem) (id : Nat) : Gone mem (mem.set id none) := by
  refine ⟨by simp, fun i b h => ?_⟩
  rw [List.getElem?_set] at h
  split at h
  · split at h <;> simp at h
  · exact h
theorem dead_stays {mem mem1 : Mem} (h : Gone mem mem1) {i : Nat} (hd : mem[i]? = some none) : mem1[i]? = some none := by
  have hlt : i < mem.length := (List.getElem?_eq_some_iff.1 hd).1
  cases hm : mem1[i]? with
  | none => rw [List.getElem?_eq_none_iff, h.1] at hm; omega
  | some b =>
    cases b with
    | none => rfl
    | some b =>
      have := h.2 _ _ hm
      rw [hd] at this
      simp at this


theorem Gone.evo (h : Gone mem mem') : Evo ep ep mem mem' m m w w :=
  ⟨Nat.le_refl _, Nat.le_refl _, fun k hk => ⟨hk.1, rfl⟩, fun k hk _ => ⟨hk, rfl⟩, fun id bv c hc => .inr ⟨c, h.2 _ _ hc, rfl⟩, fun id hv cv e rs hc => .inr ⟨cv, rs, h.2 _ _ hc, rfl⟩, fun id hv cv e rs hc => .inr ⟨hv, e, rs, h.2 _ _ hc, fun k hk => ⟨hk, rfl⟩⟩, fun id hv cv e rs rs' h1 h2 _ _ => by
    obtain ⟨_, _, _, rfl⟩ := rows_inj4 h1 (h.2 _ _ h2)
    exact NestEq.same (fun _ _ _ => rfl)⟩
theorem Gone.good (h : Gone mem mem') (hg : Good z B w0 mem ep m w) : Good z B w0 mem' ep m w :=
  ⟨fun id b hb => (hg.blk id b (h.2 _ _ hb)).keep h.evo rfl (fun k hk _ => ⟨hk, rfl⟩), hg.lab, hg.below, hg.hB, dead_stays h hg.fst⟩

/-- What is folded: which label it bears (0: none). -/
def Folded (z : Nat → Nat) (m : Mp) (w : World) (L : Nat) (v : V) (y : Value) : Prop := Rep z w (roG m w) (fun k => L ≠ 0 ∧ m.G k = L ∧ k < w.heap.size) v y
theorem fold_rep (hg : Good z B w0 mem ep m w) {v v' : V} {y : Value} (hv : RV z mem ep m w v y) (h : fold mem v = some (v', mem')) :
    ∃ L, Folded z m w L v' y ∧ Gone mem mem' ∧ (L ≠ 0 → (∃ b, mem[L - 1]? = some (some b)) ∧ mem'[L - 1]? = some none) := by
  cases hv with
  | lit hc =>
    simp only [fold, Option.some.injEq, Prod.mk.injEq] at h
    obtain ⟨rfl, rfl⟩ := h
    exact ⟨0, .lit hc, Gone.refl _, fun h => absurd rfl h⟩
  | ro hr =>
    simp only [fold, Option.some.injEq, Prod.mk.injEq] at h
    obtain ⟨rfl, rfl⟩ := h
    exact ⟨0, rep_ro hr, Gone.refl _, fun h => absurd rfl h⟩
  | ow hid h1 hh =>
    rename_i id hv
    simp only [fold, Option.bind_eq_some_iff, Option.some.injEq, Prod.mk.injEq] at h
    obtain ⟨b, hb, rfl, rfl⟩ := h
    have hb' := rowsH_some hb
    have hy := hh _ _ _ hb'
    subst hy
    obtain ⟨_, _, cs, f, ho, hG, hlen, hrep⟩ := hg.blk _ _ hb'
    refine ⟨id + 1, ?_, Gone.set _ _, fun _ => ⟨⟨_, hb'⟩, ?_⟩⟩
    · exact .own cs f ho (fun k hk => ⟨by omega, hG k hk, ownsRow_lt ho hk⟩) hlen (fun i j row u y a b c => (hrep i j row u y a b c).mono (fun _ h => h) (fun k hk => ⟨⟨by omega, hk.1.1, hk.1.2.2⟩, hk.1.2.1, hk.2⟩))
    · have hlt : id < mem.length := (List.getElem?_eq_some_iff.1 hb').1
      simp [hlt]
  | _ => simp [fold] at h

theorem foldL_rep : ∀ (cs : List V) (mem mem' : Mem) (cs' : List V) (ys : List Value), Good z B w0 mem ep m w → ys.length = cs.length → (∀ (j : Nat) (u : V) (y : Value), cs[j]? = some u → ys[j]? = some y → RV z mem ep m w u y) →
    foldL mem cs = some (cs', mem') → cs'.length = cs.length ∧ Gone mem mem' ∧ ∃ L : Nat → Nat, (∀ (j : Nat) (u : V) (y : Value), cs'[j]? = some u → ys[j]? = some y → Folded z m w (L j) u y) ∧
      (∀ i j, L i ≠ 0 → L i = L j → i = j) ∧ ∀ j, L j ≠ 0 → (∃ b, mem[L j - 1]? = some (some b)) ∧ mem'[L j - 1]? = some none := by
  intro cs
  induction cs with
  | nil =>
    intro mem mem' cs' ys hg hl hr h
    simp only [foldL, Option.some.injEq, Prod.mk.injEq] at h
    obtain ⟨rfl, rfl⟩ := h
    exact ⟨rfl, Gone.refl _, fun _ => 0, by simp, fun _ _ h => absurd rfl h, fun _ h => absurd rfl h⟩
  | cons v vs ih =>
    intro mem mem' cs' ys hg hl hr h
    simp only [foldL, Option.bind_eq_some_iff, Option.some.injEq, Prod.mk.injEq] at h
    obtain ⟨⟨v', m1⟩, hf, ⟨vs', m2⟩, hfl, rfl, rfl⟩ := h
    obtain ⟨y, ys, rfl⟩ : ∃ y t, ys = y :: t := by cases ys with | nil => simp at hl | cons y t => exact ⟨y, t, rfl⟩
    obtain ⟨L0, hF, hG1, hL0⟩ := fold_rep hg (hr 0 v y rfl rfl) hf
    have hg1 := hG1.good hg
    obtain ⟨hl', hG2, L, hF', hinj, hL⟩ := ih m1 m2 vs' ys hg1 (by simpa using hl) (fun j u x a b => (hr (j + 1) u x (by simpa using a) (by simpa using b)).evo hG1.evo) hfl
    refine ⟨by simp [hl'], hG1.trans hG2, fun j => match j with | 0 => L0 | j + 1 => L j, fun j u x a b => ?_, fun i j hi hij => ?_, fun j hj => ?_⟩
    · cases j with
      | zero => simp at a b; subst a; subst b; exact hF
      | succ j => simp at a b; exact hF' j u x a b
    · cases i with
      | zero =>
        cases j with
        | zero => rfl
        | succ j =>
          exfalso
          try dsimp only at hi hij
          have h1 := (hL0 hi).2
          obtain ⟨⟨b, h2⟩, _⟩ := hL j (by rw [← hij]; exact hi)
          rw [← hij] at h2
          try dsimp only at h1
          rw [h1] at h2
          simp at h2
      | succ i =>
        cases j with
        | zero =>
          exfalso
          try dsimp only at hi hij
          have h1 := (hL0 (by rw [← hij]; exact hi)).2
          obtain ⟨⟨b, h2⟩, _⟩ := hL i hi
          rw [hij] at h2
          try dsimp only at h1
          rw [h1] at h2
          simp at h2
        | succ j => try dsimp only at hi hij
                    rw [hinj i j hi hij]
    · cases j with
      | zero =>
        try dsimp only at hj ⊢
        obtain ⟨h1, h2⟩ := hL0 hj
        refine ⟨h1, ?_⟩
        try dsimp only at h2
        have hlt : L0 - 1 < m1.length := (List.getElem?_eq_some_iff.1 h2).1
        have hlt2 : L0 - 1 < m2.length := by rw [hG2.1]; exact hlt
        cases hm : m2[L0 - 1]? with
        | none => rw [List.getElem?_eq_none_iff] at hm; omega
        | some b =>
          cases b with
          | none => rfl
          | some b =>
            have := hG2.2 _ _ hm
            rw [h2] at this
            simp at this
      | succ j =>
        try dsimp only at hj ⊢
        obtain ⟨⟨b, h1⟩, h2⟩ := hL j hj
        exact ⟨⟨b, hG1.2 _ _ h1⟩, h2⟩
end
end Go.Proofs.Ytanglbgincgmaaa.Vm
namespace Go.Proofs.Ytanglbgincgmaaa.Vm
open Go Go.RowKit
set_option linter.unusedVariables false
def Blk.fresh (ep : Nat) : Blk → Prop
  | .box bv _ => bv = ep
  | .rows hv cv _ _ => hv = ep ∧ cv = ep
section
variable {P : Program} {S : St} {m : Mp} {w w' w0 : World} {a : Act} {B : Nat} {z : Nat → Nat} {mem mem1 : Mem} {ep : Nat}

/-- One block more; labels of what is gone may turn into its own. -/
theorem new_good (hg : Good z B w0 mem ep m w) (hG : Gone mem mem1) {b : Blk} (hb : b.fresh ep) {x : Value} {G : Nat → Nat} (hbel : Below w.heap.size w w')
    (h1 : ∀ k, k < w.heap.size → G k = m.G k ∨ (G k = mem1.length + 1 ∧ m.G k ≠ 0 ∧ m.G k ≠ 1 ∧ mem1[m.G k - 1]? = some none)) (h2 : ∀ k, w.heap.size ≤ k → G k = 0 ∨ (G k = mem1.length + 1 ∧ k < w'.heap.size))
    (hr : Evo ep (ep + 1) mem (mem1 ++ [some b]) m (m.add mem1.length x G) w w' → RBlk z (mem1 ++ [some b]) (ep + 1) (m.add mem1.length x G) w' mem1.length b) :
    Good z B w0 (mem1 ++ [some b]) (ep + 1) (m.add mem1.length x G) w' ∧ Evo ep (ep + 1) mem (mem1 ++ [some b]) m (m.add mem1.length x G) w w' := by
  have old : ∀ (id : Nat) (c : Blk), (mem1 ++ [some b])[id]? = some (some c) → id ≠ mem1.length → mem[id]? = some (some c) ∧ mem1[id]? = some (some c) := by
    intro id c h hne
    rcases Nat.lt_or_ge id mem1.length with hi | hi
    · rw [List.getElem?_append_left hi] at h
      exact ⟨hG.2 _ _ h, h⟩
    · rw [List.getElem?_append_right hi] at h
      have : id - mem1.length ≠ 0 := by omega
      rw [List.getElem?_eq_none (by simp; omega)] at h
      cases h
  have new : ∀ (c : Blk), (mem1 ++ [some b])[mem1.length]? = some (some c) → c = b := by
    intro c h
    simp at h
    exact h.symm
  have lab : ∀ (id : Nat) (c : Blk), mem1[id]? = some (some c) → ∀ k, m.G k = id + 1 → k < w.heap.size → G k = id + 1 := by
    intro id c hc k hk hlt
    rcases h1 k hlt with h | ⟨_, _, _, h⟩
    · rw [h, hk]
    · rw [hk] at h
      simp [hc] at h
  have hE : Evo ep (ep + 1) mem (mem1 ++ [some b]) m (m.add mem1.length x G) w w' := by
    refine ⟨by omega, hbel.size, fun k hk => ?_, fun k hk hlt => ⟨by
      rcases h1 k hlt with h | ⟨_, _, h, _⟩
      · exact h.trans hk
      · exact absurd hk h, hbel.block k hlt⟩, fun id bv c hc => ?_, fun id hv cv e rs hc => ?_, fun id hv cv e rs hc => ?_, fun id hv cv e rs rs' h3 hc l1 l2 => ?_⟩
    · refine ⟨?_, hbel.block k hk.2⟩
      rcases h1 k hk.2 with h | ⟨_, h, _⟩
      · exact h.trans hk.1
      · exact absurd hk.1 h
    · by_cases hid : id = mem1.length
      · subst hid
        have := new _ hc
        subst this
        exact .inl (Nat.le_of_eq hb.symm)
      · exact .inr ⟨c, (old _ _ hc hid).1, Mp.add_ne _ _ _ hid⟩
    · by_cases hid : id = mem1.length
      · subst hid
        have := new _ hc
        subst this
        exact .inl (Nat.le_of_eq hb.1.symm)
      · exact .inr ⟨cv, rs, (old _ _ hc hid).1, Mp.add_ne _ _ _ hid⟩
    · by_cases hid : id = mem1.length
      · subst hid
        have := new _ hc
        subst this
        exact .inl (Nat.le_of_eq hb.2.symm)
      · refine .inr ⟨hv, e, rs, (old _ _ hc hid).1, fun k hk => ⟨⟨lab _ _ (old _ _ hc hid).2 k hk.1 hk.2.2, by rw [Mp.add_ne _ _ _ hid]; exact hk.2.1, Nat.lt_of_lt_of_le hk.2.2 hbel.size⟩, hbel.block k hk.2.2⟩⟩
    · by_cases hid : id = mem1.length
      · subst hid
        have := new _ hc
        subst this
        have := hb.1
        omega
      · obtain ⟨_, _, _, rfl⟩ := rows_inj4 h3 (old _ _ hc hid).1
        exact NestEq.same (fun g _ hlt => hbel.block g hlt)
  refine ⟨⟨fun id c hc => ?_, fun k hk => ?_, hg.below.trans (hbel.mono hg.hB), Nat.le_trans hg.hB hbel.size, ?_⟩, hE⟩
  · by_cases hid : id = mem1.length
    · subst hid
      have := new _ hc
      subst this
      exact hr hE
    · exact (hg.blk id c (old _ _ hc hid).1).keep hE (Mp.add_ne _ _ _ hid) (fun k hk hlt => ⟨lab _ _ (old _ _ hc hid).2 k hk hlt, hbel.block k hlt⟩)
  · rcases Nat.lt_or_ge k w.heap.size with hlt | hge
    · rcases h1 k hlt with h | ⟨_, h, h5, _⟩
      · have := hg.lab k (by rw [← h]; exact hk)
        exact ⟨Nat.lt_of_lt_of_le hlt hbel.size, this.2.imp (fun e => e) (fun e => h.trans e)⟩
      · exact ⟨Nat.lt_of_lt_of_le hlt hbel.size, .inl ((hg.lab k h).2.resolve_right h5)⟩
    · rcases h2 k hge with h | ⟨_, h⟩
      · exact absurd h hk
      · exact ⟨h, .inl (Nat.le_trans hg.hB hge)⟩
  · have h6 := dead_stays hG hg.fst
    rw [List.getElem?_append_left (List.getElem?_eq_some_iff.1 h6).1]
    exact h6

theorem push_below (w : World) (o : Obj) : Below w.heap.size w (w.alloc o) := (Below.refl _ _).alloc (Nat.le_refl _) o
theorem push_at (w : World) (o : Obj) : (w.alloc o).heap[w.heap.size]? = some o := by unfold World.alloc; simp
theorem push_size (w : World) (o : Obj) : (w.alloc o).heap.size = w.heap.size + 1 := by unfold World.alloc; simp

/-- A box is made. -/
theorem box_res (hg : Good z B w0 mem ep m w) {cs : List V} {ys : Array Value} (T : Nat) (hs : ys.size = cs.length) (h : ∀ (j : Nat) (u : V) (y : Value), cs[j]? = some u → ys[j]? = some y → RV z mem ep m w u y) :
    ∃ m', RTV z (mem ++ [some (.box ep cs)]) (ep + 1) m' (w.alloc (.cells ys T)) (.one (.bp mem.length ep 0)) (.pointer (some ⟨w.heap.size, 0, none⟩)) ∧
      Good z B w0 (mem ++ [some (.box ep cs)]) (ep + 1) m' (w.alloc (.cells ys T)) ∧ Evo ep (ep + 1) mem (mem ++ [some (.box ep cs)]) m m' w (w.alloc (.cells ys T)) := by
  let G : Nat → Nat := fun k => if k = w.heap.size then mem.length + 1 else m.G k
  have hG0 : ∀ k, w.heap.size ≤ k → m.G k = 0 := by
    intro k hk
    rcases Nat.eq_zero_or_pos (m.G k) with h | h
    · exact h
    · have := (hg.lab k (by omega)).1; omega
  obtain ⟨h1, h2⟩ := new_good (x := .pointer (some ⟨w.heap.size, 0, none⟩)) (G := G) (b := .box ep cs) hg (Gone.refl mem) rfl (push_below w (.cells ys T))
    (fun k hk => .inl (by simp [G, Nat.ne_of_lt hk]))
    (fun k hk => by
      by_cases he : k = w.heap.size
      · exact .inr ⟨by simp [G, he], by rw [push_size]; omega⟩
      · exact .inl (by simp [G, he, hG0 k hk]))
    (fun hE => ⟨by omega, w.heap.size, T, ys, Mp.add_same _ _ _ _, push_at _ _, by simp [Mp.add, G], hs, fun j u y a b => (h j u y a b).evo hE⟩)
  exact ⟨_, .one (.bp (by omega) rfl (fun c hc => ⟨_, Mp.add_same _ _ _ _, rfl⟩)), h1, h2⟩

theorem step_box (hg : Good P.cellsOf B w0 S.mem S.ep m w) (hT : Tms P.cellsOf S m w a.tmps) {o : Oper} {T : Nat} {x : Operand} {r : TV × Mem × Nat} (ho : o.op = .box T x) (h : stepOp P S o = some r) : StepOk P B w0 S m w a o r := by
  unfold stepOp at h
  simp only [ho, Option.bind_eq_some_iff, Option.some.injEq] at h
  obtain ⟨tv, htv, cs, hcs, rfl⟩ := h
  obtain ⟨hs, hh⟩ := cells_rtv (ev_rtv hT htv) hcs
  obtain ⟨m', h1, h2, h3⟩ := box_res hg T hs hh
  refine ⟨fun hq => by simp [quietKind, ho] at hq, _, _, ?_, fun _ => Ext.of_below (push_below _ _), m', h1, h2, h3⟩
  unfold execOp
  simp only [ho]
  exact run_value (by simp [Instr.box, newVar, newRow, newObj, Sem.run])
theorem zeroV_run {T : Nat} {cs : List V} (h : zeroV P T = some cs) (w : World) : ∃ v, (zeroValue T).run P w = .ok v w ∧ cs = v.cells.toList.map .lit ∧ ∀ u ∈ v.cells.toList, u.oneCell' = true := by
  unfold zeroV at h
  simp only [Option.bind_eq_some_iff] at h
  obtain ⟨v, hv, h⟩ := h
  split at h
  · rename_i hc
    simp only [Option.some.injEq] at h
    exact ⟨v, quiet_run hv w, h.symm, List.all_eq_true.1 hc⟩
  · cases h
theorem zeroV_rv {T : Nat} {cs : List V} {v : Value} (hc : cs = v.cells.toList.map .lit) (h1 : ∀ u ∈ v.cells.toList, u.oneCell' = true) : v.cells.size = cs.length ∧ ∀ (j : Nat) (u : V) (y : Value), cs[j]? = some u → v.cells[j]? = some y → RV z mem ep m w u y := by
  subst hc
  refine ⟨by simp, fun j u y a b => ?_⟩
  rw [List.getElem?_map] at a
  obtain ⟨y', h2, rfl⟩ := Option.map_eq_some_iff.1 a
  have : y' = y := by
    have h3 : v.cells.toList[j]? = v.cells[j]? := by simp
    rw [h3, b] at h2
    exact (Option.some.inj h2).symm
  subst this
  exact .lit (h1 _ (List.mem_of_getElem? h2))
theorem step_alloc (hg : Good P.cellsOf B w0 S.mem S.ep m w) (hT : Tms P.cellsOf S m w a.tmps) {o : Oper} {T : Nat} {r : TV × Mem × Nat} (ho : o.op = .alloc T) (h : stepOp P S o = some r) : StepOk P B w0 S m w a o r := by
  unfold stepOp at h
  simp only [ho, Option.bind_eq_some_iff, Option.some.injEq] at h
  obtain ⟨cs, hcs, rfl⟩ := h
  obtain ⟨v, hv, hc, h1⟩ := zeroV_run hcs w
  obtain ⟨hs, hh⟩ := zeroV_rv (z := P.cellsOf) (mem := S.mem) (ep := S.ep) (m := m) (w := w) (T := T) hc h1
  obtain ⟨m', h1, h2, h3⟩ := box_res hg T hs hh
  refine ⟨fun hq => by simp [quietKind, ho] at hq, _, _, ?_, fun _ => Ext.of_below (push_below _ _), m', h1, h2, h3⟩
  unfold execOp
  simp only [ho]
  exact run_value (by simp [Instr.alloc, hv, newVar, newRow, newObj, Sem.run])
end
end Go.Proofs.Ytanglbgincgmaaa.Vm
namespace Go.Proofs.Ytanglbgincgmaaa.Vm
open Go Go.RowKit
set_option linter.unusedVariables false
section
variable {P : Program} {S : St} {m : Mp} {w w' w0 : World} {a : Act} {B : Nat} {z : Nat → Nat} {mem mem1 : Mem} {ep : Nat}

theorem flatten_get {α : Type} {n : Nat} : ∀ (l : List (List α)), (∀ r ∈ l, r.length = n) → ∀ (i j : Nat) (r : List α), l[i]? = some r → j < n → l.flatten[i * n + j]? = r[j]? := by
  intro l
  induction l with
  | nil => intro _ i j r h; simp at h
  | cons x l ih =>
    intro hl i j r h hj
    have hx := hl x List.mem_cons_self
    cases i with
    | zero =>
      simp at h
      subst h
      simp only [List.flatten_cons, Nat.zero_mul, Nat.zero_add]
      rw [List.getElem?_append_left (by omega)]
    | succ i =>
      simp only [List.getElem?_cons_succ] at h
      simp only [List.flatten_cons]
      rw [List.getElem?_append_right (by rw [hx, Nat.succ_mul]; omega), hx, show (i + 1) * n + j - n = i * n + j from by rw [Nat.succ_mul]; omega]
      exact ih (fun r hr => hl r (List.mem_cons_of_mem _ hr)) i j r h hj
theorem flatten_len {α : Type} {n : Nat} : ∀ (l : List (List α)), (∀ r ∈ l, r.length = n) → l.flatten.length = l.length * n := by
  intro l
  induction l with
  | nil => intro _; simp
  | cons x l ih =>
    intro hl
    simp only [List.flatten_cons, List.length_append, List.length_cons, ih (fun r hr => hl r (List.mem_cons_of_mem _ hr)), hl x List.mem_cons_self, Nat.succ_mul]
    omega

/-- Rows that are folded: their labels. -/
structure FoldedL (z : Nat → Nat) (m : Mp) (w : World) (mem mem1 : Mem) (rs : List (List V)) (L : Nat → Nat → Nat) (x : Nat → Nat → Option Value) : Prop where
  gone : Gone mem mem1
  rep : ∀ (i j : Nat) (row : List V) (u : V) (y : Value), rs[i]? = some row → row[j]? = some u → x i j = some y → Folded z m w (L i j) u y
  inj : ∀ i j i' j', L i j ≠ 0 → L i j = L i' j' → i = i' ∧ j = j'
  dead : ∀ i j, L i j ≠ 0 → (∃ b, mem[L i j - 1]? = some (some b)) ∧ mem1[L i j - 1]? = some none

theorem foldR_rep : ∀ (rs : List (List V)) (yss : List (List Value)) (mem mem1 : Mem) (rs' : List (List V)), Good z B w0 mem ep m w → yss.length = rs.length →
    (∀ (i : Nat) (row : List V) (ys : List Value), rs[i]? = some row → yss[i]? = some ys → ys.length = row.length ∧ ∀ (j : Nat) (u : V) (y : Value), row[j]? = some u → ys[j]? = some y → RV z mem ep m w u y) →
    foldR mem rs = some (rs', mem1) → rs'.length = rs.length ∧ (∀ (i : Nat) (row' row : List V), rs'[i]? = some row' → rs[i]? = some row → row'.length = row.length) ∧
      ∃ L, FoldedL z m w mem mem1 rs' L (fun i j => (yss[i]?).bind (·[j]?)) := by
  intro rs
  induction rs with
  | nil =>
    intro yss mem mem1 rs' hg hl hr h
    simp only [foldR, Option.some.injEq, Prod.mk.injEq] at h
    obtain ⟨rfl, rfl⟩ := h
    exact ⟨rfl, by simp, fun _ _ => 0, ⟨Gone.refl _, by simp, fun _ _ _ _ h => absurd rfl h, fun _ _ h => absurd rfl h⟩⟩
  | cons r rs ih =>
    intro yss mem mem1 rs' hg hl hr h
    simp only [foldR, Option.bind_eq_some_iff, Option.some.injEq, Prod.mk.injEq] at h
    obtain ⟨⟨r', m1⟩, hf, ⟨rs2, m2⟩, hfr, rfl, rfl⟩ := h
    obtain ⟨ys, yss, rfl⟩ : ∃ y t, yss = y :: t := by cases yss with | nil => simp at hl | cons y t => exact ⟨y, t, rfl⟩
    obtain ⟨hyl, hrv⟩ := hr 0 r ys rfl rfl
    obtain ⟨hl0, hG1, L0, hF0, hi0, hd0⟩ := foldL_rep r mem m1 r' ys hg hyl hrv hf
    have hg1 := hG1.good hg
    obtain ⟨hl1, hlen, L, hF⟩ := ih yss m1 m2 rs2 hg1 (by simpa using hl) (fun i row ys' a b => by
      obtain ⟨c, d⟩ := hr (i + 1) row ys' (by simpa using a) (by simpa using b)
      exact ⟨c, fun j u y e f => (d j u y e f).evo hG1.evo⟩) hfr
    refine ⟨by simp [hl1], fun i row' row a b => ?_, fun i j => match i with | 0 => L0 j | i + 1 => L i j, ⟨hG1.trans hF.gone, fun i j row u y a b c => ?_, fun i j i' j' hn he => ?_, fun i j hn => ?_⟩⟩
    · cases i with
      | zero => simp at a b; subst a; subst b; exact hl0
      | succ i => simp at a b; exact hlen i row' row a b
    · cases i with
      | zero => simp at a c; subst a; exact hF0 j u y b c
      | succ i => simp at a c; exact hF.rep i j row u y a b (by simpa using c)
    · cases i with
      | zero =>
        cases i' with
        | zero => exact ⟨rfl, hi0 j j' hn he⟩
        | succ i' =>
          exfalso
          have h1 := (hd0 j hn).2
          obtain ⟨⟨b, h2⟩, _⟩ := hF.dead i' j' (by intro h0; exact hn (he.trans h0))
          have he' : L0 j = L i' j' := he
          rw [← he', h1] at h2
          simp at h2
      | succ i =>
        cases i' with
        | zero =>
          exfalso
          have he' : L i j = L0 j' := he
          have h1 := (hd0 j' (by rw [← he']; exact hn)).2
          obtain ⟨⟨b, h2⟩, _⟩ := hF.dead i j hn
          rw [he', h1] at h2
          simp at h2
        | succ i' =>
          obtain ⟨h1, h2⟩ := hF.inj i j i' j' hn he
          exact ⟨by rw [h1], h2⟩
    · cases i with
      | zero =>
        obtain ⟨h1, h2⟩ := hd0 j hn
        exact ⟨h1, dead_stays hF.gone h2⟩
      | succ i =>
        obtain ⟨⟨b, h1⟩, h2⟩ := hF.dead i j hn
        exact ⟨⟨b, hG1.2 _ _ h1⟩, h2⟩

open Classical in
/-- The place that a label stands for. -/
noncomputable def placeL (L : Nat → Nat → Nat) (l : Nat) : Nat × Nat := if h : ∃ p : Nat × Nat, L p.1 p.2 ≠ 0 ∧ L p.1 p.2 = l then h.choose else (0, 0)
theorem placeL_at {L : Nat → Nat → Nat} (inj : ∀ i j i' j', L i j ≠ 0 → L i j = L i' j' → i = i' ∧ j = j') {i j l : Nat} (h0 : L i j ≠ 0) (h : l = L i j) : placeL L l = (i, j) := by
  subst h
  have hex : ∃ p : Nat × Nat, L p.1 p.2 ≠ 0 ∧ L p.1 p.2 = L i j := ⟨(i, j), h0, rfl⟩
  unfold placeL
  rw [dif_pos hex]
  have := hex.choose_spec
  obtain ⟨a, b⟩ := inj _ _ _ _ this.1 this.2
  exact Prod.ext a b
/-- Rows that are folded: which labels are theirs (D), and which block is which place's (f). -/
structure FoldedR (z : Nat → Nat) (m : Mp) (w : World) (mem mem1 : Mem) (rs : List (List V)) (D : Nat → Prop) (f : Nat → Nat × Nat) (x : Nat → Nat → Option Value) : Prop where
  gone : Gone mem mem1
  rep : ∀ (i j : Nat) (row : List V) (u : V) (y : Value), rs[i]? = some row → row[j]? = some u → x i j = some y → Rep z w (roG m w) (fun k => D (m.G k) ∧ m.G k ≠ 0 ∧ k < w.heap.size ∧ f k = (i, j)) u y
  dead : ∀ l, D l → l ≠ 0 → (∃ b, mem[l - 1]? = some (some b)) ∧ mem1[l - 1]? = some none
theorem FoldedL.to {rs : List (List V)} {L : Nat → Nat → Nat} {x : Nat → Nat → Option Value} (h : FoldedL z m w mem mem1 rs L x) : FoldedR z m w mem mem1 rs (fun l => ∃ p : Nat × Nat, L p.1 p.2 ≠ 0 ∧ L p.1 p.2 = l) (fun k => placeL L (m.G k)) x :=
  ⟨h.gone, fun i j row u y a b c => (h.rep i j row u y a b c).mono (fun _ h => h) (fun k hk => ⟨⟨(i, j), hk.1, hk.2.1.symm⟩, by rw [hk.2.1]; exact hk.1, hk.2.2, placeL_at h.inj hk.1 hk.2.1⟩), fun l hl h0 => by
    obtain ⟨p, h1, h2⟩ := hl
    rw [← h2]
    exact h.dead _ _ h1⟩
open Classical in
noncomputable def relabel (m : Mp) (size : Nat) (new : Nat → Prop) (D : Nat → Prop) (id : Nat) : Nat → Nat :=
  fun k => if size ≤ k then (if new k then id + 1 else 0) else if D (m.G k) ∧ m.G k ≠ 0 then id + 1 else m.G k
theorem relabel_lt {size : Nat} {new D : Nat → Prop} {id k : Nat} (hD : ∀ l, D l → l ≠ 0 → l ≠ 1 ∧ mem1[l - 1]? = some none) (hk : k < size) :
    relabel m size new D id k = m.G k ∨ (relabel m size new D id k = id + 1 ∧ m.G k ≠ 0 ∧ m.G k ≠ 1 ∧ mem1[m.G k - 1]? = some none) := by
  unfold relabel
  rw [if_neg (by omega)]
  by_cases h : D (m.G k) ∧ m.G k ≠ 0
  · right
    rw [if_pos h]
    exact ⟨rfl, h.2, hD _ h.1 h.2⟩
  · left; rw [if_neg h]
theorem relabel_in {size : Nat} {new D : Nat → Prop} {id k : Nat} (hk : k < size) (h : D (m.G k)) (h0 : m.G k ≠ 0) : relabel m size new D id k = id + 1 := by
  unfold relabel
  rw [if_neg (by omega), if_pos ⟨h, h0⟩]
theorem relabel_ge {size : Nat} {new D : Nat → Prop} {id k : Nat} (hk : size ≤ k) : (new k → relabel m size new D id k = id + 1) ∧ (¬ new k → relabel m size new D id k = 0) := by
  unfold relabel
  rw [if_pos hk]
  exact ⟨fun h => if_pos h, fun h => if_neg h⟩

/-- A new row of rows. -/
theorem rows_res (hg : Good z B w0 mem ep m w) {rs : List (List V)} {D : Nat → Prop} {f : Nat → Nat × Nat} {e : Nat} {cs : List Value} {x : Value}
    (hF : FoldedR z m w mem mem1 rs D f (fun i j => cs[i * z e + j]?)) (hlen : ∀ row ∈ rs, row.length = z e) (hbel : Below w.heap.size w w')
    (ho : w'.ownsRow 0 e (z e) x rs.length cs) (hx : ∀ k, x.ownBlock = some k → w.heap.size ≤ k) :
    ∃ m', RTV z (mem1 ++ [some (.rows ep ep e rs)]) (ep + 1) m' w' (.one (.ow mem1.length ep)) x ∧ Good z B w0 (mem1 ++ [some (.rows ep ep e rs)]) (ep + 1) m' w' ∧ Evo ep (ep + 1) mem (mem1 ++ [some (.rows ep ep e rs)]) m m' w w' := by
  have hx1 : x.oneCell' = true := by
    rcases ho.2 with ⟨rfl, _⟩ | ⟨g, cap, cur, rfl, _⟩ <;> rfl
  obtain ⟨h1, h2⟩ := new_good (x := x) (G := relabel m w.heap.size (fun k => x.ownBlock = some k) D mem1.length) (b := .rows ep ep e rs) hg hF.gone ⟨rfl, rfl⟩ hbel (fun k hk => relabel_lt (fun l h h0 => ⟨hg.ne1 (hF.dead l h h0).1, (hF.dead l h h0).2⟩) hk)
    (fun k hk => by
      by_cases h : x.ownBlock = some k
      · exact .inr ⟨(relabel_ge hk).1 h, ownsRow_lt ho h⟩
      · exact .inl ((relabel_ge hk).2 h)) (fun hE => by
    refine ⟨by omega, by omega, cs, f, ?_, fun k hk => ?_, hlen, fun i j row u y a b c => ?_⟩
    · rw [Mp.add_same]; exact ho
    · rw [Mp.add_same] at hk
      exact (relabel_ge (m := m) (new := fun k => x.ownBlock = some k) (D := D) (id := mem1.length) (hx k hk)).1 hk
    · refine (hE.ro_move (hF.rep i j row u y a b c) (fun k h4 h5 => hbel.block k h5)).mono (fun _ h => h) (fun k h4 => ?_)
      obtain ⟨h5, h6, h7, h8⟩ := h4
      refine ⟨⟨relabel_in (m := m) (new := fun k => x.ownBlock = some k) (D := D) (id := mem1.length) h7 h5 h6, ?_, Nat.lt_of_lt_of_le h7 hbel.size⟩, h8⟩
      rw [Mp.add_same]
      intro he
      have := hx k he.symm
      omega)
  exact ⟨_, .one (.ow (by omega) hx1 (fun cv e' rs' hm => (Mp.add_same _ _ _ _).symm)), h1, h2⟩
end
end Go.Proofs.Ytanglbgincgmaaa.Vm

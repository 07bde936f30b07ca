/-
  The small machine is true to the model: cuts.
-/
import Derived.Test.YtanglbgincgmaaaVmSoundJ
namespace Go.Proofs.Ytanglbgincgmaaa.Vm
open Go Go.RowKit
set_option linter.unusedVariables false
section
variable {P : Program} {S : St} {m : Mp} {w w' w0 : World} {a : Act} {B : Nat} {z : Nat → Nat} {mem mem1 : Mem} {ep ep' : Nat}

def Opt (d k : Nat) (o : Option Value) : Prop := (o = none ∧ k = d) ∨ o = some (.int .i64 k)
theorem optN_opt (hT : Tms P.cellsOf S m w a.tmps) {d k : Nat} {o : Option Operand} (h : optN S d o = some k) : Opt d k (o.map a.eval) := by
  cases o with
  | none => simp only [optN, Option.some.injEq] at h; exact .inl ⟨rfl, h.symm⟩
  | some x =>
    simp only [optN, Option.bind_eq_some_iff] at h
    obtain ⟨v, hv, hn⟩ := h
    right
    simp only [Option.map_some, (evL_eq hT hv).1, natOf_some hn]
theorem bound_run {k y : Nat} {c : BoundsCode} (h : k ≤ y) (w : World) : (Instr.sliceBound (.int .i64 k) y c).run P w = .ok k w := by
  unfold Instr.sliceBound asIntOf
  have : (k : Int) ≤ (y : Int) := by omega
  simp [this]
theorem cut_run {T e l h n c : Nat} {A : Option Addr} {lo hi : Option Value} (hT : P.underlying T = some (.slice e)) (hz : P.cellsOf e ≠ 0) (hl : Opt 0 l lo) (hh : Opt n h hi) (h1 : l ≤ h) (h2 : h ≤ n) (h3 : n ≤ c) (w : World) :
    (Instr.sliceAt T (.slice A n c) lo hi none).run P w = .ok (.slice (if c = l then A else A.map (·.add (l * P.cellsOf e))) (h - l) (c - l)) w := by
  unfold Instr.sliceAt Instr.slice Instr.sliceBounds
  rcases hl with ⟨rfl, rfl⟩ | rfl <;> rcases hh with ⟨rfl, rfl⟩ | rfl <;> simp [run_underlying hT, run_size hz, bound_run h1, bound_run (Nat.le_trans h2 h3)]

theorem sub_rep {ro ok : Nat → Prop} {e n c : Nat} {A : Option Addr} {rows : List (List V)} (h : Rep z w ro ok (.sl false e rows) (.slice A n c)) {l k : Nat} (hl : l ≤ k) (hk : k ≤ rows.length) :
    n = rows.length ∧ n ≤ c ∧ Rep z w ro ok (.sl false e ((rows.take k).drop l)) (.slice (if c = l then A else A.map (·.add (l * z e))) (k - l) (c - l)) := by
  cases h with
  | roS ad y hc hm hrow hA hro hcell hr =>
    refine ⟨rfl, hc, ?_⟩
    have hlen : ((rows.take k).drop l).length = k - l := by simp; omega
    have hget : ∀ (i : Nat) (row : List V), ((rows.take k).drop l)[i]? = some row → rows[l + i]? = some row := by
      intro i row h
      rw [List.getElem?_drop, List.getElem?_take] at h
      split at h
      · exact h
      · cases h
    rw [← hlen]
    refine .roS (ad.add (l * z e)) (fun i j => y (l + i) j) (by rw [hlen]; omega) (by omega) (fun row hrow' => ?_) (fun hne => ?_) (fun i j row u a b => ?_) (fun i j row u a b => ?_) (fun i j row u a b => hr (l + i) j row u (hget i row a) b)
    · exact hrow row (List.mem_of_mem_take (List.mem_of_mem_drop hrow'))
    · have h0 : k - l ≠ 0 := by
        intro h0
        apply hne
        exact List.length_eq_zero_iff.1 (by rw [hlen, h0])
      rw [if_neg (by omega), hA (by intro he; rw [he] at hk; simp at hk; omega)]
      rfl
    · rw [add_block]
      exact hro (l + i) j row u (hget i row a) b
    · rw [Go.Deep.add_add, ← hcell (l + i) j row u (hget i row a) b, Nat.add_mul, Nat.add_assoc]

/-- An own row that is cut at its end. -/
theorem trunc_res (hg : Good z B w0 mem ep m w) {id hv cv e : Nat} {rs : List (List V)} (h0 : mem[id]? = some (some (.rows hv cv e rs))) {A : Option Addr} {n c k : Nat} (hx : m.hd id = .slice A n c) (hk : k ≤ rs.length) :
    ∃ m', RTV z (mem.set id (some (.rows ep cv e (rs.take k)))) (ep + 1) m' w (.one (.ow id ep)) (.slice A k c) ∧ Good z B w0 (mem.set id (some (.rows ep cv e (rs.take k)))) (ep + 1) m' w ∧ Evo ep (ep + 1) mem (mem.set id (some (.rows ep cv e (rs.take k)))) m m' w w := by
  obtain ⟨_, hcv, xs, f, hown, hG, hlen, hrep⟩ := hg.blk _ _ h0
  have hb : (Value.slice A k c).ownBlock = (m.hd id).ownBlock := by rw [hx]; cases A <;> rfl
  have hin : ∀ j, inG m w id j → inG (m.add id (.slice A k c) m.G) w id j := by
    intro j hj
    exact ⟨hj.1, by rw [Mp.add_same, hb]; exact hj.2.1, hj.2.2⟩
  obtain ⟨h1, h2⟩ := set_good (ep' := ep + 1) (x := .slice A k c) (G := m.G) (b := .rows ep cv e (rs.take k)) hg (Gone.refl mem) h0 (by omega) (Below.refl _ _) (fun _ _ _ => rfl)
    (fun k hk => .inl rfl) (fun k hk => .inl (by
      rcases Nat.eq_zero_or_pos (m.G k) with h | h
      · exact h
      · have := (hg.lab k (by omega)).1; omega)) (fun bv c hb => by cases hb) (fun hv' cv' e' rs' hb => by cases hb; exact .inl (Nat.le_refl _))
    (fun hv' cv' e' rs' hb => by cases hb; exact .inr ⟨_, _, _, rfl, fun k hk => ⟨hin k hk, rfl⟩⟩) (fun hv' cv' e' rs1 rs2 _ hb l1 _ => by cases hb; omega) (fun hE => by
      refine ⟨by omega, by omega, xs.take (k * z e), f, ?_, fun j hj => ?_, fun row hrow => hlen row (List.mem_of_mem_take hrow), fun i j row u y hrow hu hy => ?_⟩
      · rw [Mp.add_same]
        have hle : k * z e ≤ rs.length * z e := Nat.mul_le_mul_right _ hk
        have hl2 : (rs.take k).length = k := by simp; omega
        rw [hl2]
        refine ⟨by rw [List.length_take, hown.1]; omega, ?_⟩
        rcases hown.2 with ⟨h3, h4⟩ | ⟨g, cap, cur, h3, h4, h5, h6, h7, h8, h9⟩
        · rw [hx] at h3
          cases h3
          have : k = 0 := by omega
          subst this
          exact .inl ⟨rfl, rfl⟩
        · rw [hx] at h3
          cases h3
          exact .inr ⟨g, c, cur, rfl, h4, h5, by omega, h7, h8, by rw [← h9, List.take_take]; congr 1; omega⟩
      · rw [Mp.add_same, hb] at hj
        exact hG j hj
      · have hrow' : rs[i]? = some row := by
          rw [List.getElem?_take] at hrow
          split at hrow
          · exact hrow
          · cases hrow
        have hy' : xs[i * z e + j]? = some y := by
          rw [List.getElem?_take] at hy
          split at hy
          · exact hy
          · cases hy
        exact (hE.ro_move (hrep i j row u y hrow' hu hy') (fun _ _ _ => rfl)).mono (fun _ h => h) (fun k hk => ⟨hin k hk.1, hk.2⟩))
  exact ⟨_, .one (.ow (by omega) rfl (fun cv' e' rs' hm => (Mp.add_same _ _ _ _).symm)), h1, h2⟩

/-- A row that nobody writes any more. -/
theorem freeze (hg : Good z B w0 mem ep m w) {id hv cv e : Nat} {rs : List (List V)} (h0 : mem[id]? = some (some (.rows hv cv e rs))) :
    ∃ m', Good z B w0 (mem.set id none) ep m' w ∧ Evo ep ep mem (mem.set id none) m m' w w ∧ Rep z w (roG m' w) (fun _ => False) (.sl false e (erRows rs)) (m.hd id) := by
  obtain ⟨_, hcv, xs, f, hown, hG, hlen, hrep⟩ := hg.blk _ _ h0
  let m' : Mp := ⟨fun k => if m.G k = id + 1 then 0 else m.G k, m.hd⟩
  have hg0 := (Gone.set mem id).good hg
  have hne : ∀ (i : Nat) (b : Blk), (mem.set id none)[i]? = some (some b) → i ≠ id ∧ mem[i]? = some (some b) := by
    intro i b h
    refine ⟨fun he => ?_, (Gone.set mem id).2 _ _ h⟩
    subst he
    have hlt : i < mem.length := (List.getElem?_eq_some_iff.1 h0).1
    rw [List.getElem?_set_self hlt] at h
    cases h
  have hlab : ∀ i k, i ≠ id → m.G k = i + 1 → m'.G k = i + 1 := by
    intro i k hi hk
    show (if m.G k = id + 1 then 0 else m.G k) = i + 1
    rw [if_neg (by omega), hk]
  have hE : Evo ep ep mem (mem.set id none) m m' w w := by
    refine ⟨Nat.le_refl _, Nat.le_refl _, fun k hk => ⟨?_, rfl⟩, fun k hk _ => ?_, fun i bv c hc => .inr ⟨c, (hne _ _ hc).2, rfl⟩, fun i hv cv e rs hc => .inr ⟨cv, rs, (hne _ _ hc).2, rfl⟩, fun i hv cv e rs hc => .inr ⟨hv, e, rs, (hne _ _ hc).2, fun k hk => ⟨⟨hlab _ _ (hne _ _ hc).1 hk.1, hk.2⟩, rfl⟩⟩, fun i hv cv e rs rs' h3 hc _ _ => by
      obtain ⟨_, _, _, rfl⟩ := rows_inj4 h3 (hne _ _ hc).2
      exact NestEq.same (fun _ _ _ => rfl)⟩
    · show (if m.G k = id + 1 then 0 else m.G k) = 0
      rw [hk.1]
      simp
    · refine ⟨?_, rfl⟩
      show (if m.G k = id + 1 then 0 else m.G k) = 1
      rw [if_neg, hk]
      rw [hk]
      have h6 := hg.fst
      intro h7
      obtain rfl : id = 0 := by omega
      rw [h0] at h6
      cases h6
  refine ⟨m', ⟨fun i b hb => (hg.blk i b (hne _ _ hb).2).keep hE rfl (fun k hk _ => ⟨hlab _ _ (hne _ _ hb).1 hk, rfl⟩), fun k hk => ?_, hg.below, hg.hB, hg0.fst⟩, hE, ?_⟩
  · have hk' : (if m.G k = id + 1 then 0 else m.G k) ≠ 0 := hk
    split at hk'
    · exact absurd rfl hk'
    · rename_i hne'
      have h6 := hg.lab k hk'
      refine ⟨h6.1, h6.2.imp (fun e => e) (fun e => ?_)⟩
      show (if m.G k = id + 1 then 0 else m.G k) = 1
      rw [if_neg hne', e]
  · have hR : Rep z w (roG m w) (fun k => m.G k = id + 1 ∧ k < w.heap.size) (.sl true e rs) (m.hd id) :=
      .own xs f hown (fun k hk => ⟨hG k hk, ownsRow_lt hown hk⟩) hlen (fun i j row u y a b c => (hrep i j row u y a b c).mono (fun _ h => h) (fun k hk => ⟨⟨hk.1.1, hk.1.2.2⟩, hk.1.2.1, hk.2⟩))
    have := hR.erase (ok' := fun _ => False)
    simp only [V.er] at this
    refine this.mono (fun k hk => ?_) (fun _ h => h)
    rcases hk with hk | hk
    · refine ⟨?_, hk.2⟩
      show (if m.G k = id + 1 then 0 else m.G k) = 0
      rw [hk.1]
      simp
    · refine ⟨?_, hk.2⟩
      show (if m.G k = id + 1 then 0 else m.G k) = 0
      rw [if_pos hk.1]

theorem step_slice (hg : Good P.cellsOf B w0 S.mem S.ep m w) (hT : Tms P.cellsOf S m w a.tmps) {o : Oper} {T : Nat} {x : Operand} {lo hi : Option Operand} {r : TV × Mem × Nat} (ho : o.op = .slice T x lo hi none) (h : stepOp P S o = some r) : StepOk P B w0 S m w a o r := by
  have hex : execOp a.eval o = (do let x ← Instr.sliceAt T (a.eval x) (lo.map a.eval) (hi.map a.eval) none; pure (Next.value x)) := by
    unfold execOp
    simp only [ho]
    rfl
  unfold stepOp at h
  simp only [ho, Option.bind_eq_some_iff] at h
  obtain ⟨v, hv, h⟩ := h
  have hrv := ev1_rv hT hv
  split at h
  · rename_i v
    simp only [Option.bind_eq_some_iff] at h
    obtain ⟨d, hd, h⟩ := h
    split at h
    · simp only [Option.bind_eq_some_iff, Option.some.injEq] at h
      obtain ⟨lo', hlo, hi', hhi, v', hq, tv, hl, rfl⟩ := h
      have ex : a.eval x = v := (evL_eq hT (by unfold evL; rw [hv])).1
      have el : lo.map a.eval = lo' := by
        cases lo with
        | none => simpa using hlo
        | some y =>
          simp only [Option.map_eq_some_iff] at hlo
          obtain ⟨u, hu, rfl⟩ := hlo
          simp [(evL_eq hT hu).1]
      have eh : hi.map a.eval = hi' := by
        cases hi with
        | none => simpa using hhi
        | some y =>
          simp only [Option.map_eq_some_iff] at hhi
          obtain ⟨u, hu, rfl⟩ := hhi
          simp [(evL_eq hT hu).1]
      refine StepOk.value hg hex (fun w' _ => ?_) (lift_rtv hl)
      rw [ex, el, eh]
      have h2 := quiet_run hq w'
      unfold Instr.sliceAt
      simp [run_underlying hd, h2]
    · cases h
  · rename_i e rows
    simp only [Option.bind_eq_some_iff] at h
    obtain ⟨l, hl, k, hk, d, hd, h⟩ := h
    split at h
    · split at h
      · rename_i hc
        obtain ⟨h1, h2, rfl, h3⟩ := hc
        simp only [Option.some.injEq] at h
        subst h
        generalize hy : a.eval x = y at hrv
        cases hrv with
        | ro hrep =>
          obtain ⟨A, n, c, rfl⟩ : ∃ A n c, y = .slice A n c := by cases hrep; exact ⟨_, _, _, rfl⟩
          obtain ⟨g1, g2, g3⟩ := sub_rep hrep h1 h2
          subst g1
          exact StepOk.value hg hex (fun w' _ => by rw [hy]; exact cut_run hd h3 (optN_opt hT hl) (optN_opt hT hk) h1 h2 g2 w') (.one (.ro g3))
      · cases h
    · cases h
  · rename_i id cv e rows
    simp only [Option.bind_eq_some_iff] at h
    obtain ⟨l, hl, k, hk, d, hd, h⟩ := h
    split at h
    · split at h
      · rename_i hc
        obtain ⟨h1, h2, rfl, h3, hs⟩ := hc
        simp only [Option.some.injEq] at h
        subst h
        generalize hy : a.eval x = y at hrv
        cases hrv with
        | vw hid hone hh hpp =>
          obtain ⟨hv, e', rs, hm⟩ := seenC_some hs
          have hrep := hh _ _ _ hm
          obtain ⟨A, n, c, rfl⟩ : ∃ A n c, y = .slice A n c := by cases hrep; exact ⟨_, _, _, rfl⟩
          obtain ⟨g1, g2, g3⟩ := sub_rep hrep h1 h2
          subst g1
          exact StepOk.value hg hex (fun w' _ => by rw [hy]; exact cut_run hd h3 (optN_opt hT hl) (optN_opt hT hk) h1 h2 g2 w') (.one (.vw hid rfl (fun _ _ _ _ => g3) PosOk.none))
      · cases h
    · cases h
  · rename_i id hv
    simp only [Option.bind_eq_some_iff] at h
    obtain ⟨b, hb, l, hl, k, hk, d, hd, h⟩ := h
    split at h
    · split at h
      · rename_i hc
        obtain ⟨h1, h2, rfl, h3⟩ := hc
        have hb' := rowsH_some hb
        generalize hy : a.eval x = y at hrv
        cases hrv with
        | ow hid hone hh =>
          have hy' := hh _ _ _ hb'
          subst hy'
          obtain ⟨_, _, xs, f, hown, hG, hlen, hrep⟩ := hg.blk _ _ hb'
          obtain ⟨A, c, hx, hn, hm, hcs⟩ := ownsRow_slice hown
          split at h
          · rename_i hl0
            subst hl0
            simp only [Option.some.injEq] at h
            subst h
            obtain ⟨m', r1, r2, r3⟩ := trunc_res hg hb' hx h2
            refine ⟨fun hq => by simp [quietKind, ho] at hq, _, _, ?_, fun hq => by simp [freshKind, quietKind, ho] at hq, m', r1, r2, r3⟩
            rw [hex, hy, hx]
            refine run_value ?_
            rw [cut_run hd h3 (optN_opt hT hl) (optN_opt hT hk) h1 h2 hn w]
            have : (if c = 0 then A else A.map (·.add (0 * P.cellsOf b.2.1))) = A := by
              split
              · rfl
              · cases A with
                | none => rfl
                | some ad => simp [Addr.add]
            rw [this]
            simp
          · simp only [Option.some.injEq] at h
            subst h
            obtain ⟨m', r1, r2, r3⟩ := freeze hg hb'
            rw [hx] at r3
            have hle : (erRows b.2.2).length = b.2.2.length := by rw [erRows_map]; simp
            obtain ⟨g1, g2, g3⟩ := sub_rep r3 h1 (by rw [hle]; exact h2)
            have he : erRows ((b.2.2.take k).drop l) = ((erRows b.2.2).take k).drop l := by
              simp [erRows_map, List.map_drop, List.map_take]
            have hrun := cut_run hd h3 (optN_opt hT hl) (optN_opt hT hk) h1 h2 hn w (A := A) (c := c)
            refine ⟨fun hq => by simp [quietKind, ho] at hq, _, w, ?_, fun hq => by simp [freshKind, quietKind, ho] at hq, m', .one (.ro (he ▸ g3)), r1, r2⟩
            rw [hex, hy, hx]
            exact run_value hrun
      · cases h
    · cases h
  · cases h
end
end Go.Proofs.Ytanglbgincgmaaa.Vm

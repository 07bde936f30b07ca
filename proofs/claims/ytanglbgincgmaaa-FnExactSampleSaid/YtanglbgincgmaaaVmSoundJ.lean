/-
  The small machine is true to the model: append.
-/
import Derived.Test.YtanglbgincgmaaaVmSoundI
namespace Go.Proofs.Ytanglbgincgmaaa.Vm
open Go Go.RowKit
set_option linter.unusedVariables false
section
variable {P : Program} {S : St} {m : Mp} {w w' w0 : World} {a : Act} {B : Nat} {z : Nat → Nat} {mem mem1 : Mem} {ep ep' : Nat}

theorem zero_info {e : Nat} {zs : List V} (hz0 : P.cellsOf e ≠ 0) (hzs : zeroV P e = some zs) (hl : zs.length = P.cellsOf e) : ∃ i v, P.info? e = some i ∧ i.zero = some v ∧ v.cells.size = P.cellsOf e := by
  obtain ⟨vz, hvz, hz1, hz2⟩ := zeroV_run hzs (default : World)
  obtain ⟨i, hi, hsz⟩ := info_of_cells hz0
  have hzero : i.zero = some vz := by
    unfold zeroValue typeInfo at hvz
    simp [hi] at hvz
    cases hiz : i.zero with
    | none => rw [hiz] at hvz; simp [unsupported, Sem.run] at hvz
    | some v => rw [hiz] at hvz; simp at hvz; rw [hvz]
  exact ⟨i, vz, hi, hzero, by rw [hz1] at hl; simpa using hl⟩
theorem grown_below {o : Option Nat} (h : w.grownBy w' o) (hB : B ≤ w.heap.size) (ho : ∀ k, o = some k → B ≤ k) : Below B w w' :=
  ⟨h.os, h.tape, h.output, h.size, fun k hk => h.block k (by omega) (fun he => by have := ho k he.symm; omega)⟩

/-- An own row that grows. -/
theorem grow_res (hg : Good z B w0 mem ep m w) {id hv cv e : Nat} {rs news : List (List V)} {cells : List Value} {D : Nat → Prop} {f2 : Nat → Nat × Nat} {xs : List Value} {f : Nat → Nat × Nat} {x : Value}
    (h0 : mem1[id]? = some (some (.rows hv cv e rs))) (hF : FoldedR z m w mem mem1 news D f2 (fun i j => cells[i * z e + j]?)) (hlen : ∀ row ∈ news, row.length = z e) (hcv : cv < ep)
    (hown : w.ownsRow 0 e (z e) (m.hd id) rs.length xs) (hG : ∀ k, (m.hd id).ownBlock = some k → m.G k = id + 1) (hlen0 : ∀ row ∈ rs, row.length = z e)
    (hrep : ∀ (i j : Nat) (row : List V) (u : V) (y : Value), rs[i]? = some row → row[j]? = some u → xs[i * z e + j]? = some y → Rep z w (roG m w) (fun k => inG m w id k ∧ f k = (i, j)) u y)
    (ho : w'.ownsRow 0 e (z e) x (rs.length + news.length) (xs ++ cells)) (hgr : w.grownBy w' (m.hd id).ownBlock) (hx : x.ownBlock = (m.hd id).ownBlock ∨ x.ownBlock = some w.heap.size) :
    ∃ m', RTV z (mem1.set id (some (.rows ep cv e (rs ++ news)))) (ep + 1) m' w' (.one (.ow id ep)) x ∧ Good z B w0 (mem1.set id (some (.rows ep cv e (rs ++ news)))) (ep + 1) m' w' ∧ Evo ep (ep + 1) mem (mem1.set id (some (.rows ep cv e (rs ++ news)))) m m' w w' := by
  classical
  have hx1 : x.oneCell' = true := by
    rcases ho.2 with ⟨rfl, _⟩ | ⟨g, cap, cur, rfl, _⟩ <;> rfl
  have hnD : ¬ D (id + 1) := by
    intro hd
    have := (hF.dead _ hd (by omega)).2
    simp [h0] at this
  have hoth : ∀ k, k < w.heap.size → m.G k ≠ id + 1 → w'.heap[k]? = w.heap[k]? := fun k hk hn => hgr.block k hk (fun he => hn (hG k he.symm))
  have hin : ∀ k, inG m w id k → inG (m.add id x (relabel m w.heap.size (fun k => x.ownBlock = some k) D id)) w' id k ∧ w'.heap[k]? = w.heap[k]? := by
    intro k hk
    obtain ⟨h1, h2, h3⟩ := hk
    refine ⟨⟨?_, ?_, Nat.lt_of_lt_of_le h3 hgr.size⟩, hgr.block k h3 h2⟩
    · show relabel m w.heap.size (fun k => x.ownBlock = some k) D id k = id + 1
      unfold relabel
      rw [if_neg (by omega)]
      split
      · rfl
      · exact h1
    · rw [Mp.add_same]
      rcases hx with hx | hx
      · rw [hx]; exact h2
      · rw [hx]; intro he; simp only [Option.some.injEq] at he; omega
  obtain ⟨h1, h2⟩ := set_good (ep' := ep + 1) (x := x) (G := relabel m w.heap.size (fun k => x.ownBlock = some k) D id) (b := .rows ep cv e (rs ++ news)) hg hF.gone h0 (by omega) (grown_below hgr hg.hB (fun k hk => hg.ge (hF.gone.2 _ _ h0) (hG k hk))) hoth
    (fun k hk => relabel_lt (fun l h h0 => ⟨hg.ne1 (hF.dead l h h0).1, (hF.dead l h h0).2⟩) hk)
    (fun k hk => by
      by_cases h : x.ownBlock = some k
      · exact .inr ⟨(relabel_ge hk).1 h, ownsRow_lt ho h⟩
      · exact .inl ((relabel_ge hk).2 h)) (fun bv c hb => by cases hb) (fun hv' cv' e' rs' hb => by cases hb; exact .inl (Nat.le_refl _))
    (fun hv' cv' e' rs' hb => by cases hb; exact .inr ⟨_, _, _, rfl, hin⟩) (fun hv' cv' e' rs1 rs2 _ hb l1 _ => by cases hb; omega) (fun hE => by
      refine ⟨by omega, by omega, xs ++ cells, fun k => if D (m.G k) ∧ m.G k ≠ 0 then (rs.length + (f2 k).1, (f2 k).2) else f k, ?_, fun k hk => ?_, fun row hrow => ?_, fun i j row u y hrow hu hy => ?_⟩
      · rw [Mp.add_same, List.length_append]; exact ho
      · rw [Mp.add_same] at hk
        show relabel m w.heap.size (fun k => x.ownBlock = some k) D id k = id + 1
        rcases hx with hx | hx
        · rw [hx] at hk
          have hlt := ownsRow_lt hown hk
          unfold relabel
          rw [if_neg (by omega)]
          split
          · rfl
          · exact hG k hk
        · rw [hx] at hk
          simp only [Option.some.injEq] at hk
          exact (relabel_ge (m := m) (new := fun k => x.ownBlock = some k) (D := D) (id := id) (by omega)).1 (by rw [hx, hk])
      · rcases List.mem_append.1 hrow with h | h
        · exact hlen0 row h
        · exact hlen row h
      · have hj : j < z e := by
          have h3 := (List.getElem?_eq_some_iff.1 hu).1
          rcases List.mem_append.1 (List.mem_of_getElem? hrow) with h | h
          · rwa [hlen0 row h] at h3
          · rwa [hlen row h] at h3
        rcases Nat.lt_or_ge i rs.length with hi | hi
        · rw [List.getElem?_append_left hi] at hrow
          have hlt : i * z e + j < xs.length := by
            rw [hown.1]
            have : (i + 1) * z e ≤ rs.length * z e := Nat.mul_le_mul_right _ hi
            rw [Nat.succ_mul] at this
            omega
          rw [List.getElem?_append_left hlt] at hy
          refine (hE.ro_move (hrep i j row u y hrow hu hy) (fun k h4 h5 => (hin k h4.1).2)).mono (fun _ h => h) (fun k h4 => ⟨(hin k h4.1).1, ?_⟩)
          have h5 : m.G k = id + 1 := h4.1.1
          show (if D (m.G k) ∧ m.G k ≠ 0 then (rs.length + (f2 k).1, (f2 k).2) else f k) = (i, j)
          rw [if_neg (by rw [h5]; exact fun h => hnD h.1)]
          exact h4.2
        · rw [List.getElem?_append_right hi] at hrow
          have he : i * z e + j - xs.length = (i - rs.length) * z e + j := by
            rw [hown.1, Nat.sub_mul]
            have : rs.length * z e ≤ i * z e := Nat.mul_le_mul_right _ hi
            omega
          rw [List.getElem?_append_right (by rw [hown.1]; have : rs.length * z e ≤ i * z e := Nat.mul_le_mul_right _ hi; omega), he] at hy
          refine (hE.ro_move (hF.rep (i - rs.length) j row u y hrow hu hy) (fun k h4 h5 => hoth k h5 (fun h6 => hnD (by rw [← h6]; exact h4.1)))).mono (fun _ h => h) (fun k h4 => ?_)
          obtain ⟨h5, h6, h7, h8⟩ := h4
          refine ⟨⟨relabel_in (m := m) (new := fun k => x.ownBlock = some k) (D := D) (id := id) h7 h5 h6, ?_, Nat.lt_of_lt_of_le h7 hgr.size⟩, ?_⟩
          · rw [Mp.add_same]
            intro hk
            rcases hx with hx | hx
            · rw [hx] at hk
              exact hnD (by rw [← hG k hk.symm]; exact h5)
            · rw [hx] at hk
              simp only [Option.some.injEq] at hk
              omega
          · show (if D (m.G k) ∧ m.G k ≠ 0 then (rs.length + (f2 k).1, (f2 k).2) else f k) = (i, j)
            rw [if_pos ⟨h5, h6⟩, h8]
            simp only [Prod.mk.injEq, and_true]
            omega)
  exact ⟨_, .one (.ow (by omega) hx1 (fun cv' e' rs' hm => (Mp.add_same _ _ _ _).symm)), h1, h2⟩

theorem step_append (hg : Good P.cellsOf B w0 S.mem S.ep m w) (hT : Tms P.cellsOf S m w a.tmps) {o : Oper} {c : Call} {r : TV × Mem × Nat} (ho : o.op = .call c) (hb : c.callee = .builtin .append)
    (h : stepB P S .append c.args.toList c.argTypes.toList = some r) : StepOk P B w0 S m w a o r := by
  obtain ⟨cs, hex⟩ := execOp_builtin (a := a) ho hb
  generalize hA : c.args.toList = al at h
  generalize hTt : c.argTypes.toList = tl at h
  unfold stepB at h
  split at h
  · rename_i hbb; cases hbb
  · rename_i x y T T' hbb
    rw [toList_two hA, toList_two hTt] at hex
    split at h
    · rename_i hTT
      subst hTT
      simp only [Option.bind_eq_some_iff] at h
      obtain ⟨d, hd, h⟩ := h
      split at h
      · rename_i e
        simp only [Option.bind_eq_some_iff] at h
        obtain ⟨zs, hzs, va, hva, vb, hvb, ⟨news, mem1⟩, hin, h⟩ := h
        have e1 : Array.map a.eval #[x, y] = #[a.eval x, a.eval y] := by simp
        have fin : ∀ v' w', (Builtin.append_ #[T, T] o.type #[a.eval x, a.eval y]).run P w = .ok v' w' → (execOp a.eval o).run P w = .ok (.value v') w' := by
          intro v' w' hr
          rw [hex, e1]
          unfold builtin
          exact run_value hr
        split at h
        · split at h
          · rename_i hc
            obtain ⟨hc1, hc2, hc3, hc4⟩ := hc
            simp only [Option.some.injEq] at h
            subst h
            have hzero := zero_info hc3 hzs hc2
            have hx : a.eval x = .slice none 0 0 := (evL_eq hT (by unfold evL; rw [hva])).1
            obtain ⟨A, cp, cells, D, f, g1, g2, g3, g4, g5, g6⟩ := rowsIn_rep hg (ev1_rv hT hvb) hc3 hin
            obtain ⟨v', w', q1, q2, q3, q4⟩ := append_run (ty := o.type) (w := w) (c := cp) hd hc3 hc4 hzero (v := .slice none 0 0) (n := 0) (xs := []) ⟨by simp, .inl ⟨rfl, rfl⟩⟩ g2 g3 g5 (by simpa using hc1)
            obtain ⟨m', r1, r2, r3⟩ := rows_res hg (e := e) (cs := cells) (x := v') (w' := w') g6 g4 (grown_below q3 (Nat.le_refl _) (fun k hk => by cases hk)) (by simpa using q2) (fun k hk => by
              rcases q4 with q4 | q4
              · rw [hk] at q4; cases q4
              · rw [hk] at q4; simp only [Option.some.injEq] at q4; omega)
            exact ⟨fun hq => by simp [quietKind, ho, hb] at hq, v', w', fin _ _ (by rw [hx, g1]; exact q1), fun hq => by simp [freshKind, quietKind, ho, hb] at hq, m', r1, r2, r3⟩
          · cases h
        · rename_i id hv
          simp only [Option.bind_eq_some_iff] at h
          obtain ⟨q, hq, h⟩ := h
          split at h
          · rename_i hc
            obtain ⟨hc1, hc2, hce, hc3, hc4⟩ := hc
            simp only [Option.some.injEq] at h
            subst h
            have hzero := zero_info hc3 hzs hc2
            obtain ⟨A, cp, cells, D, f, g1, g2, g3, g4, g5, g6⟩ := rowsIn_rep hg (ev1_rv hT hvb) hc3 hin
            have hq' := rowsH_some hq
            have hq0 := g6.gone.2 _ _ hq'
            obtain ⟨_, hcv, xs, f0, hown, hG, hlen0, hrep⟩ := hg.blk _ _ hq0
            have hxv : a.eval x = m.hd id := by
              have hrv := ev1_rv hT hva
              generalize a.eval x = y' at hrv
              cases hrv with
              | ow hid h1 hh => exact hh _ _ _ hq0
            rw [hce] at hown hlen0 hrep hq'
            obtain ⟨v', w', q1, q2, q3, q4⟩ := append_run (ty := o.type) (w := w) (c := cp) hd hc3 hc4 hzero hown g2 g3 g5 (by simpa using hc1)
            obtain ⟨m', r1, r2, r3⟩ := grow_res hg hq' g6 g4 hcv hown hG hlen0 hrep q2 q3 q4
            exact ⟨fun hq => by simp [quietKind, ho, hb] at hq, v', w', fin _ _ (by rw [hxv, g1]; exact q1), fun hq => by simp [freshKind, quietKind, ho, hb] at hq, m', r1, r2, r3⟩
          · cases h
        · cases h
      · cases h
    · cases h
  · rename_i hbb; cases hbb
  · rename_i hbb; cases hbb
  · cases h
end
end Go.Proofs.Ytanglbgincgmaaa.Vm

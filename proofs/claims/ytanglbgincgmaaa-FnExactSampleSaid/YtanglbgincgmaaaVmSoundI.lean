/-
  The small machine is true to the model: blocks that turn; what is appended.
-/
import Derived.Test.YtanglbgincgmaaaVmSoundH
namespace Go.Proofs.Ytanglbgincgmaaa.Vm
open Go Go.RowKit
set_option linter.unusedVariables false
section
variable {P : Program} {S : St} {m : Mp} {w w' w0 : World} {a : Act} {B : Nat} {z : Nat → Nat} {mem mem1 : Mem} {ep ep' : Nat}

/-- A block that turns. -/
theorem set_good (hg : Good z B w0 mem ep m w) (hG : Gone mem mem1) {id : Nat} {b0 b : Blk} (h0 : mem1[id]? = some (some b0)) (hep : ep ≤ ep') {x : Value} {G : Nat → Nat} (hbel : Below B w w')
    (hoth : ∀ k, k < w.heap.size → m.G k ≠ id + 1 → w'.heap[k]? = w.heap[k]?)
    (h1 : ∀ k, k < w.heap.size → G k = m.G k ∨ (G k = id + 1 ∧ m.G k ≠ 0 ∧ m.G k ≠ 1 ∧ mem1[m.G k - 1]? = some none)) (h2 : ∀ k, w.heap.size ≤ k → G k = 0 ∨ (G k = id + 1 ∧ k < w'.heap.size))
    (hbox : ∀ bv c, b = .box bv c → ep ≤ bv ∨ ∃ c', b0 = .box bv c' ∧ x = m.hd id) (hrows : ∀ hv cv e rs, b = .rows hv cv e rs → ep ≤ hv ∨ ∃ cv' rs', b0 = .rows hv cv' e rs' ∧ x = m.hd id)
    (hview : ∀ hv cv e rs, b = .rows hv cv e rs → ep ≤ cv ∨ ∃ hv' e' rs', b0 = .rows hv' cv e' rs' ∧ ∀ k, inG m w id k → inG (m.add id x G) w' id k ∧ w'.heap[k]? = w.heap[k]?)
    (hnest : ∀ hv cv e rs rs', b0 = .rows hv cv e rs → b = .rows hv cv e rs' → hv < ep → cv < ep → NestEq m w w' id rs rs')
    (hr : Evo ep ep' mem (mem1.set id (some b)) m (m.add id x G) w w' → RBlk z (mem1.set id (some b)) ep' (m.add id x G) w' id b) :
    Good z B w0 (mem1.set id (some b)) ep' (m.add id x G) w' ∧ Evo ep ep' mem (mem1.set id (some b)) m (m.add id x G) w w' := by
  have hid : id < mem1.length := (List.getElem?_eq_some_iff.1 h0).1
  have hm0 := hG.2 _ _ h0
  have old : ∀ (i : Nat) (c : Blk), (mem1.set id (some b))[i]? = some (some c) → i ≠ id → mem[i]? = some (some c) ∧ mem1[i]? = some (some c) := by
    intro i c h hne
    rw [List.getElem?_set_ne (Ne.symm hne)] at h
    exact ⟨hG.2 _ _ h, h⟩
  have new : ∀ (c : Blk), (mem1.set id (some b))[id]? = some (some c) → c = b := by
    intro c h
    rw [List.getElem?_set_self hid] at h
    simpa using h.symm
  have lab : ∀ (i : Nat) (c : Blk), mem1[i]? = some (some c) → ∀ k, m.G k = i + 1 → k < w.heap.size → G k = i + 1 := by
    intro i c hc k hk hlt
    rcases h1 k hlt with h | ⟨_, _, _, h⟩
    · rw [h, hk]
    · rw [hk] at h
      simp [hc] at h
  have hE : Evo ep ep' mem (mem1.set id (some b)) m (m.add id x G) w w' := by
    refine ⟨hep, hbel.size, fun k hk => ?_, fun k hk hlt => ⟨by
      rcases h1 k hlt with h | ⟨_, _, h, _⟩
      · exact h.trans hk
      · exact absurd hk h, hoth k hlt (by
        rw [hk]
        intro h7
        have h6 := hg.fst
        obtain rfl : id = 0 := by omega
        rw [hm0] at h6
        cases h6)⟩, fun i bv c hc => ?_, fun i hv cv e rs hc => ?_, fun i hv cv e rs hc => ?_, fun i hv cv e rs rs' h3 hc l1 l2 => ?_⟩
    · refine ⟨?_, hoth k hk.2 (by rw [hk.1]; omega)⟩
      rcases h1 k hk.2 with h | ⟨_, h, _⟩
      · exact h.trans hk.1
      · exact absurd hk.1 h
    · by_cases hi : i = id
      · subst hi
        rcases hbox bv c (new _ hc).symm with h | ⟨c', hb, hx⟩
        · exact .inl h
        · exact .inr ⟨c', by rw [hm0, hb], by rw [Mp.add_same]; exact hx⟩
      · exact .inr ⟨c, (old _ _ hc hi).1, Mp.add_ne _ _ _ hi⟩
    · by_cases hi : i = id
      · subst hi
        rcases hrows hv cv e rs (new _ hc).symm with h | ⟨cv', rs', hb, hx⟩
        · exact .inl h
        · exact .inr ⟨cv', rs', by rw [hm0, hb], by rw [Mp.add_same]; exact hx⟩
      · exact .inr ⟨cv, rs, (old _ _ hc hi).1, Mp.add_ne _ _ _ hi⟩
    · by_cases hi : i = id
      · subst hi
        rcases hview hv cv e rs (new _ hc).symm with h | ⟨hv', e', rs', hb, hx⟩
        · exact .inl h
        · exact .inr ⟨hv', e', rs', by rw [hm0, hb], hx⟩
      · refine .inr ⟨hv, e, rs, (old _ _ hc hi).1, fun k hk => ⟨⟨lab _ _ (old _ _ hc hi).2 k hk.1 hk.2.2, by rw [Mp.add_ne _ _ _ hi]; exact hk.2.1, Nat.lt_of_lt_of_le hk.2.2 hbel.size⟩, hoth k hk.2.2 (by rw [hk.1]; omega)⟩⟩
    · by_cases hi : i = id
      · subst hi
        refine hnest hv cv e rs rs' ?_ (new _ hc).symm l1 l2
        rw [hm0] at h3
        simpa using h3
      · obtain ⟨_, _, _, rfl⟩ := rows_inj4 h3 (old _ _ hc hi).1
        obtain ⟨_, _, _, _, _, hG, _⟩ := hg.blk _ _ h3
        exact NestEq.same (fun g hgb hlt => hoth g hlt (by rw [hG g hgb]; omega))
  refine ⟨⟨fun i c hc => ?_, fun k hk => ?_, hg.below.trans hbel, Nat.le_trans hg.hB hbel.size, ?_⟩, hE⟩
  · by_cases hi : i = id
    · subst hi
      have := new _ hc
      subst this
      exact hr hE
    · exact (hg.blk i c (old _ _ hc hi).1).keep hE (Mp.add_ne _ _ _ hi) (fun k hk hlt => ⟨lab _ _ (old _ _ hc hi).2 k hk hlt, hoth k hlt (by rw [hk]; omega)⟩)
  · rcases Nat.lt_or_ge k w.heap.size with hlt | hge
    · rcases h1 k hlt with h | ⟨_, h, h5, _⟩
      · have := hg.lab k (by rw [← h]; exact hk)
        exact ⟨Nat.lt_of_lt_of_le hlt hbel.size, this.2.imp (fun e => e) (fun e => h.trans e)⟩
      · exact ⟨Nat.lt_of_lt_of_le hlt hbel.size, .inl ((hg.lab k h).2.resolve_right h5)⟩
    · rcases h2 k hge with h | ⟨_, h⟩
      · exact absurd h hk
      · exact ⟨h, .inl (Nat.le_trans hg.hB hge)⟩
  · have h6 := dead_stays hG hg.fst
    rw [List.getElem?_set_ne (fun he => by subst he; rw [h0] at h6; cases h6)]
    exact h6

theorem idx_split {n k : Nat} (hn : 0 < n) : k / n * n + k % n = k := by rw [Nat.mul_comm]; exact Nat.div_add_mod k n
/-- What is read of rows that lie in memory as they are. -/
theorem ro_cells {ro : Nat → Prop} {e : Nat} {rows : List (List V)} {y : Value} (h : Rep z w ro (fun _ => False) (.sl false e rows) y) (hz : z e ≠ 0) :
    ∃ (A : Option Addr) (c : Nat) (cells : List Value), y = .slice A rows.length c ∧ cells.length = rows.length * z e ∧ (∀ u ∈ cells, u.oneCell' = true) ∧ (∀ row ∈ rows, row.length = z e) ∧
      (rows.length ≠ 0 → ∃ ad, A = some ad ∧ ∀ (j : Nat) (u : Value), cells[j]? = some u → w.cell? (ad.add j) = some u) ∧
      ∀ (i j : Nat) (row : List V) (u : V) (x : Value), rows[i]? = some row → row[j]? = some u → cells[i * z e + j]? = some x → Rep z w ro (fun _ => False) u x := by
  cases h with
  | roS ad f hc hm hrow hA hro hcell hr =>
    have hzp : 0 < z e := by omega
    have hat : ∀ k, k < rows.length * z e → ∃ row u, rows[k / z e]? = some row ∧ row[k % z e]? = some u := by
      intro k hk
      have h1 : k / z e < rows.length := by rw [Nat.div_lt_iff_lt_mul hzp]; exact hk
      have h2 : k % z e < (rows[k / z e]).length := by rw [hrow _ (List.getElem_mem h1)]; exact Nat.mod_lt _ hzp
      exact ⟨_, _, List.getElem?_eq_getElem h1, List.getElem?_eq_getElem h2⟩
    have hget : ∀ (k : Nat) (u : Value), ((List.range (rows.length * z e)).map fun k => f (k / z e) (k % z e))[k]? = some u → k < rows.length * z e ∧ u = f (k / z e) (k % z e) := by
      intro k u h
      have hk : k < rows.length * z e := by
        have := (List.getElem?_eq_some_iff.1 h).1
        simpa using this
      rw [List.getElem?_map, List.getElem?_range hk] at h
      simp only [Option.map_some, Option.some.injEq] at h
      exact ⟨hk, h.symm⟩
    refine ⟨_, _, (List.range (rows.length * z e)).map fun k => f (k / z e) (k % z e), rfl, by simp, fun u hu => ?_, hrow, fun hn => ⟨ad, hA (fun e => hn (by simp [e])), fun k u hk => ?_⟩, fun i j row u x h1 h2 h3 => ?_⟩
    · obtain ⟨k, hk⟩ := List.mem_iff_getElem?.1 hu
      obtain ⟨hlt, rfl⟩ := hget k u hk
      obtain ⟨row, v, a, b⟩ := hat k hlt
      exact rep_one (hr _ _ row v a b)
    · obtain ⟨hlt, rfl⟩ := hget k u hk
      obtain ⟨row, v, a, b⟩ := hat k hlt
      have := hcell _ _ row v a b
      rwa [idx_split hzp] at this
    · obtain ⟨hlt, rfl⟩ := hget _ x h3
      have hj : j < z e := by
        have := (List.getElem?_eq_some_iff.1 h2).1
        rwa [hrow row (List.mem_of_getElem? h1)] at this
      have e1 : (i * z e + j) / z e = i := by rw [Nat.mul_comm, Nat.mul_add_div hzp, Nat.div_eq_of_lt hj]; omega
      have e2 : (i * z e + j) % z e = j := by rw [Nat.mul_comm, Nat.mul_add_mod, Nat.mod_eq_of_lt hj]
      rw [e1, e2]
      exact hr i j row u h1 h2

theorem rowsIn_rep (hg : Good z B w0 mem ep m w) {v : V} {y : Value} {e : Nat} {rows : List (List V)} (hv : RV z mem ep m w v y) (hz : z e ≠ 0) (h : rowsIn mem e v = some (rows, mem1)) :
    ∃ (A : Option Addr) (c : Nat) (cells : List Value) (D : Nat → Prop) (f : Nat → Nat × Nat), y = .slice A rows.length c ∧ cells.length = rows.length * z e ∧ (∀ u ∈ cells, u.oneCell' = true) ∧ (∀ row ∈ rows, row.length = z e) ∧
      (rows.length ≠ 0 → ∃ ad, A = some ad ∧ ∀ (j : Nat) (u : Value), cells[j]? = some u → w.cell? (ad.add j) = some u) ∧ FoldedR z m w mem mem1 rows D f (fun i j => cells[i * z e + j]?) := by
  cases hv with
  | lit hc =>
    unfold rowsIn at h
    split at h <;> first | cases h | skip
    all_goals (rename_i he; cases he)
    exact ⟨_, _, [], fun _ => False, fun _ => (0, 0), rfl, by simp, by simp, by simp, fun h => absurd rfl h, ⟨Gone.refl _, by simp, fun _ h => h.elim⟩⟩
  | ro hr =>
    simp only [rowsIn] at h
    split at h
    · rename_i he
      subst he
      simp only [Option.some.injEq, Prod.mk.injEq] at h
      obtain ⟨rfl, rfl⟩ := h
      obtain ⟨A, c, cells, h1, h2, h3, h4, h5, h6⟩ := ro_cells hr hz
      exact ⟨A, c, cells, fun _ => False, fun _ => (0, 0), h1, h2, h3, h4, h5, ⟨Gone.refl _, fun i j row u y a b d => (h6 i j row u y a b d).mono (fun _ h => h) (fun _ h => h.elim), fun _ h => h.elim⟩⟩
    · cases h
  | ow hid h1 hh =>
    rename_i id hv
    simp only [rowsIn, Option.bind_eq_some_iff] at h
    obtain ⟨b, hb, h⟩ := h
    split at h
    · rename_i he
      subst he
      simp only [Option.some.injEq, Prod.mk.injEq] at h
      obtain ⟨rfl, rfl⟩ := h
      have hb' := rowsH_some hb
      have hy := hh _ _ _ hb'
      subst hy
      obtain ⟨_, _, cs, f, ho, hG, hlen, hrep⟩ := hg.blk _ _ hb'
      obtain ⟨A, c, hx, hn, hm, hcs⟩ := ownsRow_slice ho
      have hlt : id < mem.length := (List.getElem?_eq_some_iff.1 hb').1
      refine ⟨A, c, cs, fun l => l = id + 1, f, hx, ho.1, fun u hu => ?_, hlen, fun hn0 => ?_, ⟨Gone.set _ _, fun i j row u y a b d => ?_, fun l hl h0 => ?_⟩⟩
      · obtain ⟨k, hk⟩ := List.mem_iff_getElem?.1 hu
        have hkl := (List.getElem?_eq_some_iff.1 hk).1
        rw [ho.1] at hkl
        have hzp : 0 < z b.2.1 := by omega
        have h1 : k / z b.2.1 < b.2.2.length := by rw [Nat.div_lt_iff_lt_mul hzp]; exact hkl
        have h2 : k % z b.2.1 < (b.2.2[k / z b.2.1]).length := by rw [hlen _ (List.getElem_mem h1)]; exact Nat.mod_lt _ hzp
        exact rep_one (hrep _ _ _ _ u (List.getElem?_eq_getElem h1) (List.getElem?_eq_getElem h2) (by rw [idx_split hzp]; exact hk))
      · obtain ⟨g, hA, _, h3⟩ := hcs hn0
        exact ⟨_, hA, h3⟩
      · exact (hrep i j row u y a b d).mono (fun _ h => h) (fun k hk => ⟨hk.1.1, by rw [hk.1.1]; omega, hk.1.2.2, hk.2⟩)
      · subst hl
        exact ⟨⟨_, hb'⟩, by simp [hlt]⟩
    · cases h
  | vw hid h1 hh hpp =>
    simp only [rowsIn] at h
    split at h
    · rename_i hc
      obtain ⟨he, hs, hfl⟩ := hc
      subst he
      simp only [Option.some.injEq, Prod.mk.injEq] at h
      obtain ⟨rfl, rfl⟩ := h
      obtain ⟨hv, e', rs, hm⟩ := seenC_some hs
      obtain ⟨A, c, cells, g1, g2, g3, g4, g5, g6⟩ := ro_cells (hh _ _ _ hm) hz
      refine ⟨A, c, cells, fun _ => False, fun _ => (0, 0), g1, g2, g3, g4, g5, ⟨Gone.refl _, fun i j row u y a b d => ?_, fun _ h => h.elim⟩⟩
      have hrow := List.all_eq_true.1 hfl row (List.mem_of_getElem? a)
      have hu := List.all_eq_true.1 hrow u (List.mem_of_getElem? b)
      have hrep := g6 i j row u y a b d
      cases u with
      | lit v =>
        cases hrep with
        | lit h => exact .lit h
      | _ => simp at hu
    · cases h
  | _ => simp [rowsIn] at h

theorem run_append_zero (t ty e : TypeId) (i : TypeInfo) (size c : Nat) (ht : P.underlying t = some (.slice e)) (hi : P.info? e = some i) (v : Value) (n : Nat) (xs : List Value) (hown : w.ownsRow 0 e size v n xs) :
    (Builtin.append_ #[t, t] ty #[v, .slice none 0 c]).run P w = .ok v w := by
  rcases hown.2 with ⟨rfl, rfl⟩ | ⟨g, cap, cur, rfl, _, _, hnc, _⟩
  · simp [Builtin.append_, run_underlying ht, sizeOf, typeInfo, hi, Builtin.lenOf, Builtin.firstCells]
  · simp [Builtin.append_, run_underlying ht, sizeOf, typeInfo, hi, Builtin.lenOf, Builtin.firstCells, hnc, storeCells]

/-- What an append does, whatever was there. -/
theorem append_run {t ty e : TypeId} (hd : P.underlying t = some (.slice e)) (hz : P.cellsOf e ≠ 0) (hb : P.bytesOf e ≠ 0) (hzero : ∃ i v, P.info? e = some i ∧ i.zero = some v ∧ v.cells.size = P.cellsOf e) {v : Value} {n : Nat} {xs : List Value} (hown : w.ownsRow 0 e (P.cellsOf e) v n xs)
    {A : Option Addr} {k c : Nat} {news : List Value} (hl : news.length = k * P.cellsOf e) (h1 : ∀ u ∈ news, u.oneCell' = true) (hat : k ≠ 0 → ∃ ad, A = some ad ∧ ∀ (j : Nat) (u : Value), news[j]? = some u → w.cell? (ad.add j) = some u)
    (hbytes : (n + k) * P.bytesOf e ≤ 140737488355328) :
    ∃ v' w', (Builtin.append_ #[t, t] ty #[v, .slice A k c]).run P w = .ok v' w' ∧ w'.ownsRow 0 e (P.cellsOf e) v' (n + k) (xs ++ news) ∧ w.grownBy w' v.ownBlock ∧ (v'.ownBlock = v.ownBlock ∨ v'.ownBlock = some w.heap.size) := by
  obtain ⟨i, zv, hi, hiz, hzs⟩ := hzero
  have hsz : P.cellsOf e = i.size := by simp [Program.cellsOf, hi]
  have hby : P.bytesOf e = i.bytes := by simp [Program.bytesOf, hi]
  have hn63 : n + k ≤ maxLen := by
    have h2 : n + k ≤ (n + k) * P.bytesOf e := Nat.le_mul_of_pos_right _ (by omega)
    simp only [maxLen]
    omega
  have main : ∀ ad : Addr, A = some ad → (∀ (j : Nat) (u : Value), news[j]? = some u → w.cell? (ad.add j) = some u) → ∃ v' w', (Builtin.append_ #[t, t] ty #[v, .slice A k c]).run P w = .ok v' w' ∧ w'.ownsRow 0 e (P.cellsOf e) v' (n + k) (xs ++ news) ∧ w.grownBy w' v.ownBlock ∧ (v'.ownBlock = v.ownBlock ∨ v'.ownBlock = some w.heap.size) := by
    intro ad hA hc
    subst hA
    obtain ⟨v', w', g1, g2, g3, _, g5⟩ := run_append_own_at (P := P) w 0 t ty e i zv (P.cellsOf e) (P.bytesOf e) hd hi hiz hsz.symm hby.symm hzs (by omega) v n xs hown ad k c news hl hc h1 hn63 hbytes (Nat.zero_le _)
    exact ⟨v', w', g1, g2, g3, g5⟩
  by_cases hk : k = 0
  · subst hk
    have hnil : news = [] := by
      rw [Nat.zero_mul] at hl
      exact List.length_eq_zero_iff.1 hl
    subst hnil
    cases A with
    | none =>
      refine ⟨v, w, run_append_zero t ty e i (P.cellsOf e) c hd hi v n xs hown, by simpa using hown, ?_, .inl rfl⟩
      exact ⟨rfl, rfl, rfl, Nat.le_refl _, fun _ _ _ => rfl⟩
    | some ad => exact main ad rfl (by simp)
  · obtain ⟨ad, hA, hc⟩ := hat hk
    exact main ad hA hc
end
end Go.Proofs.Ytanglbgincgmaaa.Vm

/-
  The program's looker: where a part that starts at a place may end, as bits.
-/
import Derived.Test.YtanglbgincgmaaaVmQN
namespace Go.Proofs.Ytanglbgincgmaaa.Vm
open Go Go.RowKit Go.Proofs
set_option linter.unusedVariables false
theorem invLoop2 {σ ρ : Type} {n : Nat} (L : Int → σ → Option ρ) (Inv : Nat → σ → Prop) (Fin : ρ → Prop)
    (hs : ∀ i, i < n → ∀ s, Inv i s → (∃ s', Inv (i + 1) s' ∧ L (i : Int) s = L ((i + 1 : Nat) : Int) s') ∨ ∃ r, L (i : Int) s = some r ∧ Fin r) (he : ∀ s, Inv n s → ∃ r, L (n : Int) s = some r ∧ Fin r) (i : Nat) (hi : i ≤ n) (s : σ) (h : Inv i s) : ∃ r, L (i : Int) s = some r ∧ Fin r := by
  have key : ∀ d i s, i + d = n → Inv i s → ∃ r, L (i : Int) s = some r ∧ Fin r := by
    intro d
    induction d with
    | zero =>
      intro i s hi h
      obtain rfl : i = n := by omega
      exact he s h
    | succ d ih =>
      intro i s hi h
      rcases hs i (by omega) s h with ⟨s', h1, h2⟩ | h
      · rw [h2]
        exact ih (i + 1) s' (by omega) h1
      · exact h
  exact key (n - i) i s (by omega) h
/-- Bits that tell of D. -/
def EndsOk (n : Nat) (D : Nat → Prop) (x : Int) : Prop := ∃ a : Nat, x = (a : Int) ∧ a < 2 ^ (n + 1) ∧ ∀ j, j ≤ n → (a.testBit j = true ↔ D j)
theorem pow11 {n : Nat} (hn : n ≤ 10) : 2 ^ (n + 1) ≤ 2048 := Nat.pow_le_pow_right (n := 2) (by omega) (show n + 1 ≤ 11 by omega)
section
variable {n : Nat} {D E : Nat → Prop} {x y : Int}
theorem EndsOk.congr (h : EndsOk n D x) (k : ∀ j, j ≤ n → (D j ↔ E j)) : EndsOk n E x := by
  obtain ⟨a, h1, h2, h3⟩ := h
  exact ⟨a, h1, h2, fun j hj => (h3 j hj).trans (k j hj)⟩
theorem EndsOk.zero (n : Nat) : EndsOk n (fun _ => False) 0 := ⟨0, rfl, Nat.two_pow_pos _, fun j _ => by simp⟩
theorem EndsOk.one (hn : n ≤ 10) {i : Nat} (hi : i ≤ n) : EndsOk n (fun j => j = i) (shlI .u32 1 (i : Int)) :=
  ⟨2 ^ i, shl32 (by omega), Nat.pow_lt_pow_right (by omega) (by omega), fun j _ => by rw [Nat.testBit_two_pow]; simp [eq_comm]⟩
theorem EndsOk.or (hn : n ≤ 10) (h : EndsOk n D x) (k : EndsOk n E y) : EndsOk n (fun j => D j ∨ E j) (orI .u32 x y) := by
  obtain ⟨a, rfl, h2, h3⟩ := h
  obtain ⟨b, rfl, k2, k3⟩ := k
  have := pow11 hn
  refine ⟨a ||| b, or32 (by omega) (by omega), Nat.or_lt_two_pow h2 k2, fun j hj => ?_⟩
  rw [Nat.testBit_or, Bool.or_eq_true, h3 j hj, k3 j hj]
theorem EndsOk.has (hn : n ≤ 10) (h : EndsOk n D x) {i : Nat} (hi : i ≤ n) : ∃ b, p_impl_flags_has x (i : Int) = some b ∧ (b = true ↔ D i) := by
  obtain ⟨a, rfl, h2, h3⟩ := h
  have := pow11 hn
  exact ⟨a.testBit i, has_ok (by omega) (by omega), h3 i hi⟩
theorem EndsOk.none (h : EndsOk n D 0) (j : Nat) (hj : j ≤ n) : ¬ D j := by
  obtain ⟨a, h1, h2, h3⟩ := h
  obtain rfl : a = 0 := by omega
  intro hD
  have := (h3 j hj).2 hD
  simp at this
end
abbrev TI := List (List (List Int)) × List Int × List (Int × Int × Bool)
structure IInv (g : List (List (List Int))) (w : List Int) (t : TI) : Prop where
  eg : t.1 = g
  ew : t.2.1 = w
  len : t.2.2.length = 220
  ok : ∀ k i, k < g.length → i ≤ w.length → (t.2.2.getD (k * 11 + i) (0, 0, false)).2.2 = true → EndsOk w.length (DerP g w k i) (t.2.2.getD (k * 11 + i) (0, 0, false)).1
def HI (g : List (List (List Int))) (w : List Int) (rec : TI → Int → Int → Option ((Int × Int × Bool) × TI)) (M : Nat) : Prop := ∀ (t : TI) (k i : Nat), IInv g w t → k < g.length → i ≤ w.length → mu g w.length k i < M → ∃ r, rec t (k : Int) (i : Int) = some r ∧ IInv g w r.2 ∧ EndsOk w.length (DerP g w k i) r.1.1
section
variable {g : List (List (List Int))} {w : List Int} {rec : TI → Int → Int → Option ((Int × Int × Bool) × TI)} {M : Nat}
theorem symbol_ok (hg : GR g) (hn : w.length ≤ 10) (hS : HI g w rec M) {x : Int} (hx : (0 ≤ x ∧ x ≤ 25) ∨ (100 ≤ x ∧ x < 100 + (g.length : Int))) {i : Nat} (hi : i ≤ w.length) (hmu : 100 ≤ x → mu g w.length (x - 100).toNat i < M) {t : TI} (ht : IInv g w t) :
    ∃ r, p_impl_looker_symbol rec t x (i : Int) = some r ∧ IInv g w r.2 ∧ EndsOk w.length (DerR g w [x] i) r.1.1 := by
  unfold p_impl_looker_symbol
  by_cases h100 : 100 ≤ x
  · rw [if_pos h100]
    have hlt : (x - 100).toNat < g.length := by omega
    rw [wrapSub h100 hlt hg.n20]
    obtain ⟨y, hy, hyT, hyE⟩ := hS t _ i ht hlt hi (hmu h100)
    rw [show rec (t.1, t.2.1, t.2.2) (((x - 100).toNat : Nat) : Int) (i : Int) = some y from hy]
    exact ⟨_, rfl, hyT, hyE.congr (fun j _ => (der_part h100).symm)⟩
  · rw [if_neg h100, show t.2.1.length = w.length by rw [ht.ew]]
    have hx1 : x < 100 := by omega
    have none : (∀ q, q ≤ w.length → ¬ DerR g w [x] i q) → ∃ r, some (((0, (i : Int), false), (t.1, t.2.1, t.2.2)) : (Int × Int × Bool) × TI) = some r ∧ IInv g w r.2 ∧ EndsOk w.length (DerR g w [x] i) r.1.1 := fun h =>
      ⟨_, rfl, ht, (EndsOk.zero _).congr (fun j hj => ⟨False.elim, fun k => h j hj k⟩)⟩
    by_cases hin : i < w.length
    · rw [if_pos (show (i : Int) < (w.length : Int) by omega)]
      simp only [nonneg_int, if_true, Int.toNat_natCast, show t.2.1[i]? = some w[i] by rw [ht.ew, List.getElem?_eq_getElem hin], Option.bind_eq_bind, Option.bind_some]
      by_cases he : w[i] = x
      · rw [if_pos he, wsucc (n := 11) (by omega) (by omega), wrap64u (by omega), if_neg (by omega)]
        refine ⟨_, rfl, ht, (EndsOk.one hn (show i + 1 ≤ w.length by omega)).congr (fun j _ => ?_)⟩
        rw [der_letter hx1, List.getElem?_eq_getElem hin, he]
        simp
      · rw [if_neg he]
        exact none (fun q _ h => by
          rw [der_letter hx1, List.getElem?_eq_getElem hin] at h
          exact he (Option.some.inj h.1))
    · rw [if_neg (show ¬ (i : Int) < (w.length : Int) by omega)]
      exact none (fun q _ h => by
        rw [der_letter hx1] at h
        exact hin (List.getElem?_eq_some_iff.1 h.1).1)
theorem irow2 (hg : GR g) (hn : w.length ≤ 10) {x : Int} {i : Nat} (hi : i ≤ w.length) (row : List Int) (s : Int) {A : Nat → Prop} {cur : Int} (hcur : EndsOk w.length A cur) (hAi : ∀ p, A p → i ≤ p)
    (hr : ∀ (t : TI) (p : Nat), IInv g w t → p ≤ w.length → A p → ∃ r, p_impl_looker_symbol rec t x (p : Int) = some r ∧ IInv g w r.2 ∧ EndsOk w.length (DerR g w [x] p) r.1.1) {t : TI} (ht : IInv g w t) (far : Int) :
    ∃ r, p_impl_looker_row_L2 rec (i : Int) x row s cur 0 (i : Int) t.1 t.2.1 t.2.2 far = some r ∧ IInv g w (r.2.1, r.2.2.1, r.2.2.2.1) ∧ EndsOk w.length (fun q => ∃ p, p ≤ w.length ∧ A p ∧ DerR g w [x] p q) r.1 := by
  refine invLoop (n := w.length + 1) (fun j (s' : TI × Int × Int) => p_impl_looker_row_L2 rec (i : Int) x row s cur s'.2.1 j s'.1.1 s'.1.2.1 s'.1.2.2 s'.2.2) (fun j s' => IInv g w s'.1 ∧ EndsOk w.length (fun q => ∃ p, p < j ∧ A p ∧ DerR g w [x] p q) s'.2.1)
    (fun r => IInv g w (r.2.1, r.2.2.1, r.2.2.2.1) ∧ EndsOk w.length (fun q => ∃ p, p ≤ w.length ∧ A p ∧ DerR g w [x] p q) r.1) (fun j hj st hst => ?_) (fun st hst => ?_) i (by omega) (t, 0, far) ⟨ht, (EndsOk.zero _).congr (fun q _ => ⟨False.elim, fun ⟨p, h1, h2, _⟩ => by have := hAi p h2; omega⟩)⟩
  · obtain ⟨t, acc, far⟩ := st
    obtain ⟨hT, hacc⟩ := hst
    replace hT : IInv g w t := hT
    replace hacc : EndsOk w.length (fun q => ∃ p, p < j ∧ A p ∧ DerR g w [x] p q) acc := hacc
    obtain ⟨b, hb, hbA⟩ := hcur.has hn (show j ≤ w.length by omega)
    show ∃ s', _ ∧ p_impl_looker_row_L2 rec (i : Int) x row s cur acc (j : Int) t.1 t.2.1 t.2.2 far = _
    rw [p_impl_looker_row_L2, show t.2.1.length = w.length by rw [hT.ew]]
    rw [if_pos (show (j : Int) ≤ (w.length : Int) by omega), hb]
    simp only [Option.bind_eq_bind, Option.bind_some, wsucc (show j < w.length + 1 by omega) (by omega)]
    by_cases hbt : b = true
    · rw [if_pos hbt]
      obtain ⟨y, hy, hyT, hyE⟩ := hr t j hT (by omega) (hbA.1 hbt)
      rw [show p_impl_looker_symbol rec (t.1, t.2.1, t.2.2) x (j : Int) = some y from hy]
      simp only [Option.bind_some]
      have hnew : EndsOk w.length (fun q => ∃ p, p < j + 1 ∧ A p ∧ DerR g w [x] p q) (orI .u32 acc y.1.1) := (hacc.or hn hyE).congr (fun q hq => by
        constructor
        · rintro (⟨p, h1, h2⟩ | h)
          · exact ⟨p, by omega, h2⟩
          · exact ⟨j, by omega, hbA.1 hbt, h⟩
        · rintro ⟨p, h1, h2, h3⟩
          by_cases hp : p = j
          · subst hp; exact .inr h3
          · exact .inl ⟨p, by omega, h2, h3⟩)
      split
      · exact ⟨(y.2, _, _), ⟨hyT, hnew⟩, rfl⟩
      · exact ⟨(y.2, _, _), ⟨hyT, hnew⟩, rfl⟩
    · rw [if_neg hbt]
      refine ⟨(t, acc, far), ⟨hT, hacc.congr (fun q hq => ?_)⟩, rfl⟩
      constructor
      · exact fun ⟨p, h1, h2⟩ => ⟨p, by omega, h2⟩
      · rintro ⟨p, h1, h2, h3⟩
        by_cases hp : p = j
        · subst hp
          exact absurd (hbA.2 h2) hbt
        · exact ⟨p, by omega, h2, h3⟩
  · obtain ⟨t, acc, far⟩ := st
    obtain ⟨hT, hacc⟩ := hst
    replace hT : IInv g w t := hT
    refine ⟨(acc, t.1, t.2.1, t.2.2, far), ?_, hT, hacc.congr (fun q hq => ⟨fun ⟨p, h1, h2⟩ => ⟨p, by omega, h2⟩, fun ⟨p, h1, h2⟩ => ⟨p, by omega, h2⟩⟩)⟩
    show p_impl_looker_row_L2 rec (i : Int) x row s cur acc ((w.length + 1 : Nat) : Int) t.1 t.2.1 t.2.2 far = _
    rw [p_impl_looker_row_L2, show t.2.1.length = w.length by rw [hT.ew], if_neg (by omega)]
theorem irow_ok (hg : GR g) (hn : w.length ≤ 10) (hS : HI g w rec M) {row : List Int} (hx : ∀ x ∈ row, (0 ≤ x ∧ x ≤ 25) ∨ (100 ≤ x ∧ x < 100 + (g.length : Int))) (hl : row.length ≤ 8) {i : Nat} (hi : i ≤ w.length)
    (hmu : ∀ (pre suf : List Int) (x : Int) (m : Nat), row = pre ++ x :: suf → 100 ≤ x → DerR g w pre i m → mu g w.length (x - 100).toNat m < M) {t : TI} (ht : IInv g w t) :
    ∃ r, p_impl_looker_row rec t row (i : Int) = some r ∧ IInv g w r.2 ∧ EndsOk w.length (DerR g w row i) r.1.1 := by
  have hstart : EndsOk w.length (DerR g w (row.take 0) i) (shlI .u32 1 (i : Int)) := (EndsOk.one hn hi).congr (fun j _ => by
    rw [List.take_zero]
    constructor
    · rintro rfl; exact .nil _
    · intro h
      cases h with
      | nil => rfl)
  have h0 := invLoop2 (n := row.length) (fun s (s' : TI × Int × Int) => p_impl_looker_row_L0 rec (i : Int) row s s'.1.1 s'.1.2.1 s'.1.2.2 s'.2.1 s'.2.2) (fun s s' => IInv g w s'.1 ∧ EndsOk w.length (DerR g w (row.take s) i) s'.2.1)
    (fun r => IInv g w (r.1, r.2.1, r.2.2.1) ∧ EndsOk w.length (DerR g w row i) r.2.2.2.1) (fun s hs st hst => by
      obtain ⟨t, cur, far⟩ := st
      obtain ⟨hT, hcur⟩ := hst
      replace hT : IInv g w t := hT
      replace hcur : EndsOk w.length (DerR g w (row.take s) i) cur := hcur
      have hsplit : row = row.take s ++ row[s] :: row.drop (s + 1) := by rw [← List.drop_eq_getElem_cons hs, List.take_append_drop]
      obtain ⟨r, h1, h2, h3⟩ := irow2 hg hn (x := row[s]) hi row (s : Int) hcur (fun p hp => hp.le) (fun t p hT hp hA => symbol_ok hg hn hS (hx _ (List.getElem_mem hs)) hp (fun h100 => hmu _ _ _ _ hsplit h100 hA) hT) hT far
      have h4 : EndsOk w.length (DerR g w (row.take (s + 1)) i) r.1 := h3.congr (fun q hq => by
        rw [← List.take_append_getElem hs]
        constructor
        · rintro ⟨m, _, h5, h6⟩
          exact h5.app h6
        · intro h5
          obtain ⟨m, h6, h7⟩ := h5.split
          exact ⟨m, h6.bound hi, h6, h7⟩)
      have hrun : p_impl_looker_row_L0 rec (i : Int) row (s : Int) t.1 t.2.1 t.2.2 cur far = if r.1 = 0 then some (r.2.1, r.2.2.1, r.2.2.2.1, r.1, r.2.2.2.2) else p_impl_looker_row_L0 rec (i : Int) row ((s + 1 : Nat) : Int) r.2.1 r.2.2.1 r.2.2.2.1 r.1 r.2.2.2.2 := by
        rw [p_impl_looker_row_L0]
        simp only [lt_int hs, if_true, nonneg_int, Int.toNat_natCast, List.getElem?_eq_getElem hs, Option.bind_eq_bind, Option.bind_some, h1, wsucc hs (by omega)]
      by_cases hz : r.1 = 0
      · refine .inr ⟨(r.2.1, r.2.2.1, r.2.2.2.1, r.1, r.2.2.2.2), ?_, h2, ?_⟩
        · show p_impl_looker_row_L0 rec (i : Int) row (s : Int) t.1 t.2.1 t.2.2 cur far = _
          rw [hrun, if_pos hz]
        · show EndsOk w.length (DerR g w row i) r.1
          rw [hz] at h4 ⊢
          refine (EndsOk.zero _).congr (fun q hq => ⟨False.elim, fun h5 => ?_⟩)
          rw [← List.take_append_drop (s + 1) row] at h5
          obtain ⟨m, h6, h7⟩ := h5.split
          exact h4.none m (h6.bound hi) h6
      · refine .inl ⟨((r.2.1, r.2.2.1, r.2.2.2.1), r.1, r.2.2.2.2), ⟨h2, h4⟩, ?_⟩
        show p_impl_looker_row_L0 rec (i : Int) row (s : Int) t.1 t.2.1 t.2.2 cur far = _
        rw [hrun, if_neg hz]) (fun st hst => by
      obtain ⟨t, cur, far⟩ := st
      refine ⟨(t.1, t.2.1, t.2.2, cur, far), ?_, hst.1, by have := hst.2; rwa [List.take_length] at this⟩
      show p_impl_looker_row_L0 rec (i : Int) row (row.length : Int) t.1 t.2.1 t.2.2 cur far = _
      rw [p_impl_looker_row_L0, if_neg (by omega)]) 0 (by omega) (t, shlI .u32 1 (i : Int), (i : Int)) ⟨ht, hstart⟩
  obtain ⟨r, h1, h2, h3⟩ := h0
  refine ⟨((r.2.2.2.1, r.2.2.2.2, false), (r.1, r.2.1, r.2.2.1)), ?_, h2, h3⟩
  unfold p_impl_looker_row
  rw [wrap64u (by omega), if_neg (by omega), show p_impl_looker_row_L0 rec (i : Int) row 0 t.1 t.2.1 t.2.2 (shlI .u32 1 (i : Int)) (i : Int) = some r from h1]
  rfl
end
end Go.Proofs.Ytanglbgincgmaaa.Vm

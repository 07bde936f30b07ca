/-
  The specification's looker: rows, parts, ways.
-/
import Derived.Test.YtanglbgincgmaaaVmQJ
namespace Go.Proofs.Ytanglbgincgmaaa.Vm
open Go Go.RowKit Go.Proofs
set_option linter.unusedVariables false
section
variable {g : List (List (List Int))} {w : List Int} {rec : TS → Int → Int → Option (List Int × TS)}
theorem go2 (hg : GR g) (hn : w.length ≤ 10) {row : List Int} {s : Nat} (hs : s < row.length) (hx : (0 ≤ row[s] ∧ row[s] ≤ 25) ∨ (100 ≤ row[s] ∧ row[s] < 100 + (g.length : Int))) {A : Nat → Prop} {now : List Int} (hnow : VecOk w.length A now)
    (hr : ∀ (t : TS) (p : Nat), TInv g w t → p ≤ w.length → A p → 100 ≤ row[s] → ∃ r, rec t (((row[s] - 100).toNat : Nat) : Int) (p : Int) = some r ∧ TInv g w r.2 ∧ VecOk w.length (DerP g w (row[s] - 100).toNat p) r.1)
    {t : TS} (ht : TInv g w t) :
    ∃ r, p_spec_l7Go_L2 rec row (s : Int) now 0 t.1 t.2.1 t.2.2.1 t.2.2.2 (List.replicate (w.length + 1) 0) = some r ∧ TInv g w (r.1, r.2.1, r.2.2.1, r.2.2.2.1) ∧ VecOk w.length (fun q => ∃ p, p ≤ w.length ∧ A p ∧ DerR g w [row[s]] p q) r.2.2.2.2 := by
  refine invLoop (n := w.length + 1) (fun i (s' : TS × List Int) => p_spec_l7Go_L2 rec row (s : Int) now i s'.1.1 s'.1.2.1 s'.1.2.2.1 s'.1.2.2.2 s'.2) (fun i s' => TInv g w s'.1 ∧ VecOk w.length (fun q => ∃ p, p < i ∧ A p ∧ DerR g w [row[s]] p q) s'.2)
    (fun r => TInv g w (r.1, r.2.1, r.2.2.1, r.2.2.2.1) ∧ VecOk w.length (fun q => ∃ p, p ≤ w.length ∧ A p ∧ DerR g w [row[s]] p q) r.2.2.2.2) (fun i hi st hst => ?_) (fun st hst => ?_) 0 (by omega) (t, List.replicate (w.length + 1) 0) ⟨ht, (VecOk.zero _).congr (fun j _ => ⟨False.elim, fun ⟨p, h, _⟩ => by omega⟩)⟩
  · obtain ⟨t, l⟩ := st
    obtain ⟨hT, hl⟩ := hst
    replace hl : VecOk w.length (fun q => ∃ p, p < i ∧ A p ∧ DerR g w [row[s]] p q) l := hl
    replace hT : TInv g w t := hT
    obtain ⟨a1, a2, a3⟩ := hnow.2 i (by omega)
    have hw := hT.ew
    show ∃ s', _ ∧ p_spec_l7Go_L2 rec row (s : Int) now (i : Int) t.1 t.2.1 t.2.2.1 t.2.2.2 l = _
    rw [p_spec_l7Go_L2, hw]
    rw [if_pos (show (i : Int) ≤ (w.length : Int) by omega)]
    simp only [nonneg_int, if_true, Int.toNat_natCast, hnow.get (show i ≤ w.length by omega), List.getElem?_eq_getElem hs, Option.bind_eq_bind, Option.bind_some, wsucc (show i < w.length + 1 by omega) (by omega)]
    have skip : (¬ A i ∨ ∀ q, q ≤ w.length → ¬ DerR g w [row[s]] i q) → VecOk w.length (fun q => ∃ p, p < i + 1 ∧ A p ∧ DerR g w [row[s]] p q) l := fun h => hl.congr (fun q hq => ⟨fun ⟨p, h1, h2⟩ => ⟨p, by omega, h2⟩, fun ⟨p, h1, h2, h3⟩ => by
      by_cases hp : p = i
      · subst hp
        rcases h with h | h
        · exact absurd h2 h
        · exact absurd h3 (h q hq)
      · exact ⟨p, by omega, h2, h3⟩⟩)
    by_cases h0 : lv now i = 0
    · rw [if_pos h0]
      exact ⟨(t, l), ⟨hT, skip (.inl (fun h => by have := a3.2 h; omega))⟩, by rw [← hw]⟩
    · rw [if_neg h0]
      have hA : A i := a3.1 (by omega)
      by_cases hlet : row[s] < 100
      · rw [if_pos hlet]
        by_cases hin : i < w.length
        · rw [if_pos (show (i : Int) < (w.length : Int) by omega)]
          simp only [List.getElem?_eq_getElem hin, Option.bind_some]
          by_cases he : w[i] = row[s]
          · rw [if_pos he]
            simp only [hl.get (show i + 1 ≤ w.length by omega), Option.bind_some, l1Min_ok]
            obtain ⟨b1, b2, b3⟩ := hl.2 (i + 1) (by omega)
            rw [wrap_id (n := lv l (i + 1) + lv now i) (by omega) (by omega)]
            have hder : ∀ q, DerR g w [row[s]] i q ↔ q = i + 1 := fun q => by
              rw [der_letter hlet, List.getElem?_eq_getElem hin, he]
              simp
            refine ⟨(t, l.set (i + 1) (min (lv l (i + 1) + lv now i) 1000)), ⟨hT, hl.add (j0 := i + 1) (by omega) a1 (F := fun q => ∃ p, p < i + 1 ∧ A p ∧ DerR g w [row[s]] p q) ?_ (fun q hq => ?_)⟩, by rw [← hw]⟩
            · constructor
              · rintro (⟨p, h1, h2⟩ | h)
                · exact ⟨p, by omega, h2⟩
                · exact ⟨i, by omega, hA, (hder _).2 rfl⟩
              · intro _
                exact .inr (by omega)
            · constructor
              · exact fun ⟨p, h1, h2⟩ => ⟨p, by omega, h2⟩
              · rintro ⟨p, h1, h2, h3⟩
                by_cases hp : p = i
                · subst hp
                  exact absurd ((hder q).1 h3) hq
                · exact ⟨p, by omega, h2, h3⟩
          · rw [if_neg he]
            exact ⟨(t, l), ⟨hT, skip (.inr (fun q _ h => by
              rw [der_letter hlet, List.getElem?_eq_getElem hin] at h
              exact he (Option.some.inj h.1)))⟩, by rw [← hw]⟩
        · rw [if_neg (show ¬ (i : Int) < (w.length : Int) by omega)]
          exact ⟨(t, l), ⟨hT, skip (.inr (fun q _ h => by
            rw [der_letter hlet] at h
            exact hin (List.getElem?_eq_some_iff.1 h.1).1))⟩, by rw [← hw]⟩
      · rw [if_neg hlet]
        have h100 : 100 ≤ row[s] := by omega
        have hlt : (row[s] - 100).toNat < g.length := by omega
        rw [wrapSub h100 hlt hg.n20]
        obtain ⟨y, hy, hyT, hyV⟩ := hr t i hT (by omega) hA h100
        have hy' : rec (t.1, w, t.2.2.1, t.2.2.2) (((row[s] - 100).toNat : Nat) : Int) (i : Int) = some y := by rw [← hw]; exact hy
        rw [hy']
        simp only [Option.bind_some]
        obtain ⟨o, ho, hoV⟩ := go4 (rec := rec) row (s : Int) hn (show i ≤ w.length by omega) (y := y) hyT.ew hnow hA hyV (fun j ⟨r, _, h⟩ => h.le) hl
        rw [ho]
        simp only [Option.bind_some]
        refine ⟨(y.2, o), ⟨hyT, hoV.congr (fun q hq => ?_)⟩, rfl⟩
        constructor
        · rintro (⟨p, h1, h2⟩ | h)
          · exact ⟨p, by omega, h2⟩
          · exact ⟨i, by omega, hA, (der_part h100).2 h⟩
        · rintro ⟨p, h1, h2, h3⟩
          by_cases hp : p = i
          · subst hp
            exact .inr ((der_part h100).1 h3)
          · exact .inl ⟨p, by omega, h2, h3⟩
  · obtain ⟨t, l⟩ := st
    obtain ⟨hT, hl⟩ := hst
    refine ⟨(t.1, t.2.1, t.2.2.1, t.2.2.2, l), ?_, hT, hl.congr (fun q hq => ⟨fun ⟨p, h1, h2⟩ => ⟨p, by omega, h2⟩, fun ⟨p, h1, h2⟩ => ⟨p, by omega, h2⟩⟩)⟩
    show p_spec_l7Go_L2 rec row (s : Int) now ((w.length + 1 : Nat) : Int) t.1 t.2.1 t.2.2.1 t.2.2.2 l = _
    rw [p_spec_l7Go_L2, hT.ew]
    rw [if_neg (by omega)]
theorem go_ok (hg : GR g) (hn : w.length ≤ 10) {M : Nat} (hS : HS g w rec M) {row : List Int} (hx : ∀ x ∈ row, (0 ≤ x ∧ x ≤ 25) ∨ (100 ≤ x ∧ x < 100 + (g.length : Int))) (hl : row.length ≤ 8) {F : Nat → Prop} (hF : ∀ p, F p → p ≤ w.length)
    (hmu : ∀ (pre suf : List Int) (x : Int) (p m : Nat), row = pre ++ x :: suf → 100 ≤ x → F p → DerR g w pre p m → mu g w.length (x - 100).toNat m < M) {from_ : List Int} (hf : VecOk w.length F from_) {t : TS} (ht : TInv g w t) :
    ∃ r, p_spec_l7Go rec t row from_ = some r ∧ TInv g w r.2 ∧ VecOk w.length (fun q => ∃ p, F p ∧ DerR g w row p q) r.1 := by
  have h0 := invLoop (n := row.length) (fun i (s' : TS × List Int) => p_spec_l7Go_L0 rec row i s'.1.1 s'.1.2.1 s'.1.2.2.1 s'.1.2.2.2 s'.2) (fun i s' => TInv g w s'.1 ∧ VecOk w.length (fun q => ∃ p, F p ∧ DerR g w (row.take i) p q) s'.2)
    (fun r => TInv g w (r.1, r.2.1, r.2.2.1, r.2.2.2.1) ∧ VecOk w.length (fun q => ∃ p, F p ∧ DerR g w row p q) r.2.2.2.2) (fun s hs st hst => by
      obtain ⟨t, now⟩ := st
      obtain ⟨hT, hnow⟩ := hst
      have hw := hT.ew
      obtain ⟨r, h1, h2, h3⟩ := go2 hg hn hs (hx _ (List.getElem_mem hs)) hnow (fun t p hT hp hA h100 => by
        obtain ⟨q, hFq, hd⟩ := hA
        have hsym := hx _ (List.getElem_mem hs)
        refine hS t _ p hT (by omega) hp (hmu (row.take s) (row.drop (s + 1)) row[s] q p ?_ h100 hFq hd)
        rw [← List.drop_eq_getElem_cons hs, List.take_append_drop]) hT
      refine ⟨((r.1, r.2.1, r.2.2.1, r.2.2.2.1), r.2.2.2.2), ⟨h2, h3.congr (fun q hq => ?_)⟩, ?_⟩
      · rw [← List.take_append_getElem hs]
        constructor
        · rintro ⟨m, _, ⟨p, h4, h5⟩, h6⟩
          exact ⟨p, h4, h5.app h6⟩
        · rintro ⟨p, h4, h5⟩
          obtain ⟨m, h6, h7⟩ := h5.split
          exact ⟨m, h6.bound (hF p h4), ⟨p, h4, h6⟩, h7⟩
      · show p_spec_l7Go_L0 rec row (s : Int) t.1 t.2.1 t.2.2.1 t.2.2.2 now = _
        rw [p_spec_l7Go_L0]
        simp only [lt_int hs, if_true, Option.bind_eq_bind, Option.bind_some]
        rw [show t.2.1.length = w.length by rw [hw], wrapN hn]
        simp only [nonneg_int, if_true, Int.toNat_natCast]
        rw [if_pos (by omega), h1]
        simp only [Option.bind_some, wsucc hs (by omega)]) (fun st hst => by
      obtain ⟨t, now⟩ := st
      refine ⟨(t.1, t.2.1, t.2.2.1, t.2.2.2, now), ?_, hst.1, by have := hst.2; rwa [List.take_length] at this⟩
      show p_spec_l7Go_L0 rec row (row.length : Int) t.1 t.2.1 t.2.2.1 t.2.2.2 now = _
      rw [p_spec_l7Go_L0, if_neg (by omega)]) 0 (by omega) (t, from_) ⟨ht, hf.congr (fun q hq => by
      rw [List.take_zero]
      constructor
      · exact fun h => ⟨q, h, .nil q⟩
      · rintro ⟨p, h1, h2⟩
        cases h2 with
        | nil => exact h1)⟩
  obtain ⟨r, h1, h2, h3⟩ := h0
  refine ⟨(r.2.2.2.2, (r.1, r.2.1, r.2.2.1, r.2.2.2.1)), ?_, h2, h3⟩
  unfold p_spec_l7Go
  rw [if_pos (by have := hf.1; omega), show p_spec_l7Go_L0 rec row 0 t.1 t.2.1 t.2.2.1 t.2.2.2 from_ = some r from h1]
  rfl
end
end Go.Proofs.Ytanglbgincgmaaa.Vm

/-
  The specification's looker: parts, and all.
-/
import Derived.Test.YtanglbgincgmaaaVmQK
namespace Go.Proofs.Ytanglbgincgmaaa.Vm
open Go Go.RowKit Go.Proofs
set_option linter.unusedVariables false
section
variable {g : List (List (List Int))} {w : List Int} {rec : TS → Int → Int → Option (List Int × TS)} {M : Nat}
theorem sum2 (k i a : Int) (hn : w.length ≤ 10) {y : List Int × TS} (hw : y.2.2.1 = w) {P D : Nat → Prop} (hy : VecOk w.length P y.1) {l0 : List Int} (hl0 : VecOk w.length D l0) :
    ∃ r, p_spec_l7Partb_L2 rec k i a y 0 l0 = some r ∧ VecOk w.length (fun j => D j ∨ P j) r := by
  refine invLoop (n := w.length + 1) (fun j l => p_spec_l7Partb_L2 rec k i a y j l) (fun j l => VecOk w.length (fun q => D q ∨ (q < j ∧ P q)) l) _ (fun j hj l hl => ?_) (fun l hl => ?_) 0 (by omega) l0 (hl0.congr (fun j hj => ⟨.inl, fun h => h.elim id (fun h => by omega)⟩))
  · obtain ⟨b1, b2, b3⟩ := hy.2 j (by omega)
    have l1 := hl.2 j (by omega)
    refine ⟨_, hl.add (j0 := j) (by omega) b1 (F := fun q => D q ∨ (q < j + 1 ∧ P q)) ?_ (fun q hq => ?_), ?_⟩
    · rw [b3]
      constructor
      · rintro ((h | h) | h)
        · exact .inl h
        · exact .inr ⟨by omega, h.2⟩
        · exact .inr ⟨by omega, h⟩
      · rintro (h | h)
        · exact .inl (.inl h)
        · exact .inr h.2
    · constructor
      · exact fun h => h.imp id (fun h => ⟨by omega, h.2⟩)
      · exact fun h => h.imp id (fun h => ⟨by omega, h.2⟩)
    · show p_spec_l7Partb_L2 rec k i a y (j : Int) l = _
      rw [p_spec_l7Partb_L2, hw]
      rw [if_pos (show (j : Int) ≤ (w.length : Int) by omega)]
      simp only [nonneg_int, if_true, Int.toNat_natCast, hl.get (show j ≤ w.length by omega), hy.get (show j ≤ w.length by omega), Option.bind_eq_bind, Option.bind_some, l1Min_ok, wsucc (show j < w.length + 1 by omega) (by omega)]
      rw [wrap_id (by omega) (by omega)]
  · refine ⟨l, ?_, hl.congr (fun j hj => ⟨fun h => h.imp id (·.2), fun h => h.imp id (fun h => ⟨by omega, h⟩)⟩)⟩
    rw [p_spec_l7Partb_L2, hw]
    rw [if_neg (by omega)]
theorem rows0 (hc : check g = 0) (hn : w.length ≤ 10) (hS : HS g w rec M) {k i : Nat} (hk : k < g.length) (hi : i ≤ w.length) (hM : mu g w.length k i < M + 1) {t : TS} (ht : TInv g w t) :
    ∃ r, p_spec_l7Partb_L0 rec (k : Int) (i : Int) 0 t.1 t.2.1 t.2.2.1 t.2.2.2 (List.replicate (w.length + 1) 0) = some r ∧ TInv g w (r.2.1, r.2.2.1, r.2.2.2.1, r.2.2.2.2) ∧ VecOk w.length (DerP g w k i) r.1 := by
  have hg := GR.of (check_gram hc)
  have h8 := (hg.alts _ (List.getElem_mem hk)).2
  refine invLoop (n := g[k].length) (fun a (s : TS × List Int) => p_spec_l7Partb_L0 rec (k : Int) (i : Int) a s.1.1 s.1.2.1 s.1.2.2.1 s.1.2.2.2 s.2) (fun a s => TInv g w s.1 ∧ VecOk w.length (fun q => ∃ row ∈ g[k].take a, DerR g w row i q) s.2)
    (fun r => TInv g w (r.2.1, r.2.2.1, r.2.2.2.1, r.2.2.2.2) ∧ VecOk w.length (DerP g w k i) r.1) (fun a ha s hs => ?_) (fun s hs => ?_) 0 (by omega) (t, List.replicate (w.length + 1) 0) ⟨ht, (VecOk.zero _).congr (fun j _ => by simp)⟩
  · obtain ⟨t, l⟩ := s
    obtain ⟨hT, hl⟩ := hs
    replace hT : TInv g w t := hT
    replace hl : VecOk w.length (fun q => ∃ row ∈ g[k].take a, DerR g w row i q) l := hl
    have hrow := List.getElem_mem ha
    obtain ⟨v, hv, hvV⟩ := l7At_ok hn hT.ew hi
    obtain ⟨y, hy, hyT, hyV⟩ := go_ok hg hn hS (row := g[k][a]) (hg.sym _ (List.getElem_mem hk) _ hrow) (hg.row _ (List.getElem_mem hk) _ hrow) (F := fun j => j = i) (fun p hp => by omega) (fun pre suf x p m he h100 hp hd => by
      subst hp
      have := mu_lt hc hk hrow he hd (hd.bound hi) h100
      omega) hvV hT
    obtain ⟨o, ho, hoV⟩ := sum2 (rec := rec) (k : Int) (i : Int) (a : Int) hn hyT.ew hyV hl
    refine ⟨(y.2, o), ⟨hyT, hoV.congr (fun q hq => ?_)⟩, ?_⟩
    · rw [← List.take_append_getElem ha]
      simp only [List.mem_append, List.mem_singleton]
      constructor
      · rintro (⟨row, h1, h2⟩ | ⟨p, rfl, h2⟩)
        · exact ⟨row, .inl h1, h2⟩
        · exact ⟨_, .inr rfl, h2⟩
      · rintro ⟨row, h1 | rfl, h2⟩
        · exact .inl ⟨row, h1, h2⟩
        · exact .inr ⟨i, rfl, h2⟩
    · show p_spec_l7Partb_L0 rec (k : Int) (i : Int) (a : Int) t.1 t.2.1 t.2.2.1 t.2.2.2 l = _
      rw [p_spec_l7Partb_L0]
      have hge : t.1[k]? = some g[k] := by rw [hT.eg, List.getElem?_eq_getElem hk]
      simp only [nonneg_int, if_true, Int.toNat_natCast, hge, Option.bind_eq_bind, Option.bind_some, lt_int ha, List.getElem?_eq_getElem ha, hv, hy, ho, wsucc ha (by omega)]
  · obtain ⟨t, l⟩ := s
    obtain ⟨hT, hl⟩ := hs
    replace hT : TInv g w t := hT
    refine ⟨(l, t.1, t.2.1, t.2.2.1, t.2.2.2), ?_, hT, hl.congr (fun q hq => ?_)⟩
    · show p_spec_l7Partb_L0 rec (k : Int) (i : Int) (g[k].length : Int) t.1 t.2.1 t.2.2.1 t.2.2.2 l = _
      rw [p_spec_l7Partb_L0]
      have hge : t.1[k]? = some g[k] := by rw [hT.eg, List.getElem?_eq_getElem hk]
      simp only [nonneg_int, if_true, Int.toNat_natCast, hge, Option.bind_eq_bind, Option.bind_some]
      rw [if_neg (by omega)]
    · unfold DerP
      rw [List.take_length, getD_get hk]
theorem partb_ok (hc : check g = 0) (hn : w.length ≤ 10) (hS : HS g w rec M) : HS g w (p_spec_l7Partb rec) (M + 1) := by
  intro t k i hT hk hi hM
  have hd := hT.rd k hk
  have hwy := hT.rw k hk
  unfold p_spec_l7Partb
  simp only [nonneg_int, if_true, Int.toNat_natCast, get_getD (show k < t.2.2.2.length by rw [hT.ld]; exact hk) [], get_getD (show k < t.2.2.1.length by rw [hT.lw]; exact hk) [], Option.bind_eq_bind, Option.bind_some, get_getD (show i < (t.2.2.2.getD k []).length by omega) false, get_getD (show i < (t.2.2.1.getD k []).length by omega) []]
  by_cases hdone : (t.2.2.2.getD k []).getD i false = true
  · rw [if_pos hdone]
    exact ⟨_, rfl, hT, hT.ok k i hk hi hdone⟩
  · rw [if_neg hdone]
    rw [show t.2.1.length = w.length by rw [hT.ew], wrapN hn]
    simp only [nonneg_int, if_true, Int.toNat_natCast]
    rw [if_pos (by omega)]
    obtain ⟨o, ho, hoT, hoV⟩ := rows0 hc hn hS hk hi hM hT
    rw [ho]
    have hd2 := hoT.rd k hk
    have hw2 := hoT.rw k hk
    have hld := hoT.ld
    have hlw := hoT.lw
    simp only at hd2 hw2 hld hlw
    simp only [Option.bind_some, get_getD (show k < o.2.2.2.1.length by omega) [], get_getD (show k < o.2.2.2.2.length by omega) [], get_getD (show i < (o.2.2.2.1.getD k []).length by omega) [], get_getD (show i < (o.2.2.2.2.getD k []).length by omega) false]
    refine ⟨_, rfl, ⟨hoT.eg, hoT.ew, ?_, ?_, fun p hp => ?_, fun p hp => ?_, fun p q hp hq h => ?_⟩, hoV⟩
    · simp only [List.length_set]; exact hlw
    · simp only [List.length_set]; exact hld
    · simp only
      rw [getD_set (by omega)]
      split
      · rw [List.length_set]; exact hw2
      · exact hoT.rw p hp
    · simp only
      rw [getD_set (by omega)]
      split
      · rw [List.length_set]; exact hd2
      · exact hoT.rd p hp
    · simp only at h ⊢
      rw [get2_set (by omega) (by omega)] at h ⊢
      split
      · rename_i hpq
        rw [hpq.1, hpq.2]
        exact hoV
      · rename_i hpq
        rw [if_neg hpq] at h
        exact hoT.ok p q hp hq h
theorem part_n (hc : check g = 0) (hn : w.length ≤ 10) : ∀ n, HS g w (p_spec_l7Part_n n) n
  | 0 => fun t k i _ _ _ h => by omega
  | n + 1 => partb_ok hc hn (part_n hc hn n)
theorem l7New_ok (hg : GR g) (hn : w.length ≤ 10) : ∃ t, p_spec_l7New g w = some t ∧ TInv g w t := by
  have h0 := invLoop (n := g.length) (fun i (s : List (List (List Int)) × List (List Bool)) => p_spec_l7New_L0 w g i s.1 s.2) (fun i s => s = (List.replicate i (List.replicate (w.length + 1) []), List.replicate i (List.replicate (w.length + 1) false))) (fun r => r = (List.replicate g.length (List.replicate (w.length + 1) []), List.replicate g.length (List.replicate (w.length + 1) false))) (fun i hi s hs => by
      have h20 := hg.n20
      refine ⟨_, rfl, ?_⟩
      subst hs
      show p_spec_l7New_L0 w g (i : Int) _ _ = _
      rw [p_spec_l7New_L0]
      simp only [lt_int hi, if_true, wrapN hn, nonneg_int, Int.toNat_natCast, Option.bind_eq_bind, Option.bind_some, List.length_replicate, wsucc hi (by omega)]
      rw [if_pos (by omega), if_pos (by omega), if_pos (by omega), if_pos (by omega), ← List.replicate_succ', ← List.replicate_succ']) (fun s hs => by
      subst hs
      refine ⟨_, ?_, rfl⟩
      show p_spec_l7New_L0 w g (g.length : Int) _ _ = _
      rw [p_spec_l7New_L0, if_neg (by omega)]) 0 (by omega) ([], []) rfl
  obtain ⟨r, h1, h2⟩ := h0
  subst h2
  refine ⟨(g, w, List.replicate g.length (List.replicate (w.length + 1) []), List.replicate g.length (List.replicate (w.length + 1) false)), ?_, ⟨rfl, rfl, by simp, by simp, fun k hk => ?_, fun k hk => ?_, fun k i hk hi h => ?_⟩⟩
  · unfold p_spec_l7New
    rw [show p_spec_l7New_L0 w g 0 [] [] = _ from h1]
    rfl
  · simp only
    rw [getD_get (by simpa using hk), List.getElem_replicate]; simp
  · simp only
    rw [getD_get (by simpa using hk), List.getElem_replicate]; simp
  · unfold get2 at h
    simp only at h
    have e1 : (List.replicate g.length (List.replicate (w.length + 1) false)).getD k [] = List.replicate (w.length + 1) false := by
      rw [getD_get (by simpa using hk), List.getElem_replicate]
    rw [e1, getD_get (by simp; omega), List.getElem_replicate] at h
    cases h
/-- In how many ways: none, or some. -/
theorem l7Ways_ok (hc : check g = 0) (hn : w.length ≤ 10) : ∃ v, p_spec_l7Ways g [100] w = some v ∧ 0 ≤ v ∧ (0 < v ↔ DerP g w 0 0 w.length) := by
  have hg := GR.of (check_gram hc)
  have h1 := hg.n1
  obtain ⟨t, ht, hT⟩ := l7New_ok hg hn
  obtain ⟨v, hv, hvV⟩ := l7At_ok hn hT.ew (show 0 ≤ w.length by omega)
  have hS : HS g w p_spec_l7Part 1000 := part_n hc hn 1000
  obtain ⟨y, hy, hyT, hyV⟩ := go_ok hg hn hS (row := [100]) (fun x hx => by
    obtain rfl : x = 100 := by simpa using hx
    omega) (by simp) (F := fun j => j = 0) (fun p hp => by omega) (fun pre suf x p m he h100 hp hd => by
    have := mu_top (g := g) (n := w.length) (k := (x - 100).toNat) (i := m)
    omega) hvV hT
  obtain ⟨q1, q2, q3⟩ := hyV.2 w.length (by omega)
  refine ⟨lv y.1 w.length, ?_, q1, q3.trans ⟨?_, ?_⟩⟩
  · unfold p_spec_l7Ways
    simp only [Option.bind_eq_bind, ht, Option.bind_some]
    rw [show p_spec_l7At (t.1, t.2.1, t.2.2.1, t.2.2.2) 0 = some v from hv]
    simp only [Option.bind_some]
    rw [show p_spec_l7Go p_spec_l7Part (t.1, t.2.1, t.2.2.1, t.2.2.2) [100] v = some y from hy]
    simp only [Option.bind_some, hyV.get (show w.length ≤ w.length by omega)]
  · rintro ⟨p, rfl, h⟩
    exact (der_part (x := 100) (by omega)).1 h
  · intro h
    exact ⟨0, rfl, (der_part (x := 100) (by omega)).2 h⟩
end
end Go.Proofs.Ytanglbgincgmaaa.Vm

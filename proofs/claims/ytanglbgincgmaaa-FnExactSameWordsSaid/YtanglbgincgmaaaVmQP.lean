/-
  The program's looker: parts, and all.
-/
import Derived.Test.YtanglbgincgmaaaVmQO
namespace Go.Proofs.Ytanglbgincgmaaa.Vm
open Go Go.RowKit Go.Proofs
set_option linter.unusedVariables false
section
variable {g : List (List (List Int))} {w : List Int} {rec : TI → Int → Int → Option ((Int × Int × Bool) × TI)} {M : Nat}
theorem irows0 (hc : check g = 0) (hn : w.length ≤ 10) (hS : HI g w rec M) {k i : Nat} (hk : k < g.length) (hi : i ≤ w.length) (hM : mu g w.length k i < M + 1) (y5 : Int × Int × Bool) {t : TI} (ht : IInv g w t) (far : Int) :
    ∃ r, p_impl_looker_partb_L0 rec (k : Int) (i : Int) g[k] y5 0 t.1 t.2.1 t.2.2 0 far = some r ∧ IInv g w (r.1, r.2.1, r.2.2.1) ∧ EndsOk w.length (DerP g w k i) r.2.2.2.1 := by
  have hg := GR.of (check_gram hc)
  have h8 := (hg.alts _ (List.getElem_mem hk)).2
  refine invLoop (n := g[k].length) (fun a (s : TI × Int × Int) => p_impl_looker_partb_L0 rec (k : Int) (i : Int) g[k] y5 a s.1.1 s.1.2.1 s.1.2.2 s.2.1 s.2.2) (fun a s => IInv g w s.1 ∧ EndsOk w.length (fun q => ∃ row ∈ g[k].take a, DerR g w row i q) s.2.1)
    (fun r => IInv g w (r.1, r.2.1, r.2.2.1) ∧ EndsOk w.length (DerP g w k i) r.2.2.2.1) (fun a ha s hs => ?_) (fun s hs => ?_) 0 (by omega) (t, 0, far) ⟨ht, (EndsOk.zero _).congr (fun j _ => by simp)⟩
  · obtain ⟨t, acc, far⟩ := s
    obtain ⟨hT, hacc⟩ := hs
    replace hT : IInv g w t := hT
    replace hacc : EndsOk w.length (fun q => ∃ row ∈ g[k].take a, DerR g w row i q) acc := hacc
    have hrow := List.getElem_mem ha
    obtain ⟨y, hy, hyT, hyE⟩ := irow_ok hg hn hS (row := g[k][a]) (hg.sym _ (List.getElem_mem hk) _ hrow) (hg.row _ (List.getElem_mem hk) _ hrow) hi (fun pre suf x m he h100 hd => by
      have := mu_lt hc hk hrow he hd (hd.bound hi) h100
      omega) hT
    have hnew : EndsOk w.length (fun q => ∃ row ∈ g[k].take (a + 1), DerR g w row i q) (orI .u32 acc y.1.1) := (hacc.or hn hyE).congr (fun q hq => by
      rw [← List.take_append_getElem ha]
      simp only [List.mem_append, List.mem_singleton]
      constructor
      · rintro (⟨row, h1, h2⟩ | h2)
        · exact ⟨row, .inl h1, h2⟩
        · exact ⟨_, .inr rfl, h2⟩
      · rintro ⟨row, h1 | rfl, h2⟩
        · exact .inl ⟨row, h1, h2⟩
        · exact .inr h2)
    show ∃ s', _ ∧ p_impl_looker_partb_L0 rec (k : Int) (i : Int) g[k] y5 (a : Int) t.1 t.2.1 t.2.2 acc far = _
    rw [p_impl_looker_partb_L0]
    simp only [lt_int ha, if_true, nonneg_int, Int.toNat_natCast, List.getElem?_eq_getElem ha, Option.bind_eq_bind, Option.bind_some]
    rw [show p_impl_looker_row rec (t.1, t.2.1, t.2.2) g[k][a] (i : Int) = some y from hy]
    simp only [Option.bind_some, wsucc ha (by omega)]
    split
    · exact ⟨(y.2, _, _), ⟨hyT, hnew⟩, rfl⟩
    · exact ⟨(y.2, _, _), ⟨hyT, hnew⟩, rfl⟩
  · obtain ⟨t, acc, far⟩ := s
    obtain ⟨hT, hacc⟩ := hs
    replace hT : IInv g w t := hT
    refine ⟨(t.1, t.2.1, t.2.2, acc, far), ?_, hT, hacc.congr (fun q hq => ?_)⟩
    · show p_impl_looker_partb_L0 rec (k : Int) (i : Int) g[k] y5 (g[k].length : Int) t.1 t.2.1 t.2.2 acc far = _
      rw [p_impl_looker_partb_L0, if_neg (by omega)]
    · unfold DerP
      rw [List.take_length, getD_get hk]
theorem ipartb_ok (hc : check g = 0) (hn : w.length ≤ 10) (hS : HI g w rec M) : HI g w (p_impl_looker_partb rec) (M + 1) := by
  intro t k i hT hk hi hM
  have hg := GR.of (check_gram hc)
  have h20 := hg.n20
  have hidx : k * 11 + i < 220 := by omega
  unfold p_impl_looker_partb
  simp only [nonneg_int, if_true, Int.toNat_natCast, get_getD (show k * 11 + i < t.2.2.length by rw [hT.len]; exact hidx) (0, 0, false), Option.bind_eq_bind, Option.bind_some]
  rw [if_pos (show k < 20 by omega), if_pos (show i < 11 by omega)]
  by_cases hdone : (t.2.2.getD (k * 11 + i) (0, 0, false)).2.2 = true
  · rw [if_pos hdone]
    exact ⟨_, rfl, hT, hT.ok k i hk hi hdone⟩
  · rw [if_neg hdone]
    have hge : t.1[k]? = some g[k] := by rw [hT.eg, List.getElem?_eq_getElem hk]
    rw [hge]
    simp only [Option.bind_some]
    obtain ⟨o, ho, hoT, hoE⟩ := irows0 hc hn hS hk hi hM (t.2.2.getD (k * 11 + i) (0, 0, false)) hT (i : Int)
    rw [ho]
    have hlen := hoT.len
    simp only at hlen
    simp only [Option.bind_some, get_getD (show k * 11 + i < o.2.2.1.length by omega) (0, 0, false)]
    refine ⟨_, rfl, ⟨hoT.eg, hoT.ew, ?_, fun p q hp hq h => ?_⟩, hoE⟩
    · simp only [List.length_set]; exact hlen
    · simp only at h ⊢
      rw [getD_set (by omega)] at h ⊢
      by_cases hpq : p * 11 + q = k * 11 + i
      · rw [if_pos hpq]
        have e1 : p = k := by omega
        have e2 : q = i := by omega
        rw [e1, e2]
        exact hoE
      · rw [if_neg hpq] at h ⊢
        exact hoT.ok p q hp hq h
theorem ipart_n (hc : check g = 0) (hn : w.length ≤ 10) : ∀ n, HI g w (p_impl_looker_part_n n) n
  | 0 => fun t k i _ _ _ h => by omega
  | n + 1 => ipartb_ok hc hn (ipart_n hc hn n)
/-- Whether the grammar has the input. -/
theorem accepts_ok (hc : check g = 0) (hn : w.length ≤ 10) : ∃ b, p_impl_accepts g w = some b ∧ (b = true ↔ DerP g w 0 0 w.length) := by
  have hg := GR.of (check_gram hc)
  have h1 := hg.n1
  have hS : HI g w p_impl_looker_part 1000 := ipart_n hc hn 1000
  have hT : IInv g w (g, w, List.replicate 220 (0, 0, false)) := ⟨rfl, rfl, List.length_replicate, fun k i hk hi h => by
    have h20 := hg.n20
    rw [getD_get (by rw [List.length_replicate]; omega), List.getElem_replicate] at h
    cases h⟩
  obtain ⟨y, hy, hyT, hyE⟩ := hS _ 0 0 hT (by omega) (by omega) (by have := mu_top (g := g) (n := w.length) (k := 0) (i := 0); omega)
  obtain ⟨b, hb, hbD⟩ := hyE.has hn (show w.length ≤ w.length by omega)
  refine ⟨b, ?_, hbD⟩
  unfold p_impl_accepts p_impl_lookerOf
  simp only [Option.bind_eq_bind, Option.bind_some]
  rw [show p_impl_looker_part (g, w, List.replicate 220 (0, 0, false)) 0 0 = some y from hy]
  simp only [Option.bind_some, hb]
/-- The two lookers tell the same. -/
theorem ways_accepts (hc : check g = 0) (hn : w.length ≤ 10) : ∃ v b, p_spec_l7Ways g [100] w = some v ∧ p_impl_accepts g w = some b ∧ 0 ≤ v ∧ (0 < v ↔ b = true) := by
  obtain ⟨v, h1, h2, h3⟩ := l7Ways_ok hc hn
  obtain ⟨b, h4, h5⟩ := accepts_ok hc hn
  exact ⟨v, b, h1, h4, h2, h3.trans h5.symm⟩
end
end Go.Proofs.Ytanglbgincgmaaa.Vm

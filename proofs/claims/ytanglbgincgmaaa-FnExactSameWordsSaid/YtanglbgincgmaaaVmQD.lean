/-
  Plain laws: Check, fourth part: the program's rounds.
-/
import Derived.Test.YtanglbgincgmaaaVmQC
namespace Go.Proofs.Ytanglbgincgmaaa.Vm
open Go Go.RowKit Go.Proofs
set_option linter.unusedVariables false
theorem pow20 {n : Nat} (h : n ≤ 20) : 2 ^ n ≤ 1048576 := Nat.pow_le_pow_right (n := 2) (by omega) h
theorem put_ok {a k : Nat} (ha : a < 1048576) (hk : k < 20) : orI .u32 (a : Int) (shlI .u32 1 (IntKind.wrap .u64 (k : Int))) = ((put a k : Nat) : Int) := by
  rw [wrap64u (by omega), put32 (by omega) (by omega)]
theorem wrapu_nn {k : Nat} (hk : k < 20) : ¬ IntKind.wrap .u64 (k : Int) < 0 := by rw [wrap64u (by omega)]; omega
theorem small_len {l : List Int} (h : l.length ≤ 8) : l.length ≤ 1048576 := by omega
theorem GR.small {g : List (List (List Int))} (hg : GR g) {i j : Nat} (h1 : i < g.length) (h2 : j < g[i].length) : g[i][j].length ≤ 1048576 ∧ ∀ y ∈ g[i][j], y < 120 ∧ y ≤ 9223372036854775807 := by
  have h3 := hg.row _ (List.getElem_mem h1) _ (List.getElem_mem h2)
  refine ⟨by omega, fun y hy => ?_⟩
  have h4 := hg.sym _ (List.getElem_mem h1) _ (List.getElem_mem h2) y hy
  have := hg.n20
  omega
/-- A set as a number of the program. -/
def U32 (n : Nat) (a : Nat) (s : Int) : Prop := s = (a : Int) ∧ a < 2 ^ n
theorem empties_round {g : List (List (List Int))} (hg : GR g) {a : Nat} (ha : a < 2 ^ g.length) : p_impl_empties_1 (a : Int) g = some ((sround inSet g a : Nat) : Int) ∧ sround inSet g a < 2 ^ g.length := by
  have hp := pow20 hg.n20
  have hn := hg.n20
  obtain ⟨r, h1, h2⟩ := relLoop (n := g.length) (fun i s => p_impl_empties_1_L0 g s i) (fun k a => (g.getD k []).foldl (fun t row => sstep inSet t (k, row)) a) (U32 g.length) (U32 g.length) (fun i hi t s hR => by
    obtain ⟨rfl, ht⟩ := hR
    have ha := hg.alts _ (List.getElem_mem hi)
    obtain ⟨r, h3, h4⟩ := relLoopL (a := g[i]) (fun j s => p_impl_empties_1_L2 i g g[i] s j) (fun t row => sstep inSet t (i, row)) (U32 g.length) (U32 g.length) (fun j hj t s hR => by
      obtain ⟨rfl, ht⟩ := hR
      have hs := hg.small hi hj
      refine ⟨_, ⟨rfl, ?_⟩, ?_⟩
      · show sstep inSet t (i, _) < _
        unfold sstep
        split
        · exact put_lt ht hi
        · exact ht
      · show p_impl_empties_1_L2 i g g[i] t j = _
        rw [p_impl_empties_1_L2]
        simp only [lt_int hj, if_true, nonneg_int, Int.toNat_natCast, List.getElem?_eq_getElem hj, Option.bind_eq_bind, Option.bind_some, emptyIn_ok (show t < 4294967296 by omega) hs.1, wsucc hj (by omega)]
        unfold sstep
        cases (g[i][j].all (inSet t)) with
        | false => rfl
        | true => simp only [if_true, if_neg (wrapu_nn (show i < 20 by omega)), put_ok (show t < 1048576 by omega) (show i < 20 by omega)]) (fun t s hR => ⟨s, by
      show p_impl_empties_1_L2 i g g[i] s g[i].length = _
      rw [p_impl_empties_1_L2]; simp, hR⟩) t _ ⟨rfl, ht⟩
    refine ⟨r, ?_, ?_⟩
    · rw [getD_get hi]; exact h4
    · show p_impl_empties_1_L0 g t i = _
      rw [p_impl_empties_1_L0]
      simp only [lt_int hi, if_true, nonneg_int, Int.toNat_natCast, List.getElem?_eq_getElem hi, Option.bind_eq_bind, Option.bind_some, h3, wsucc hi (by omega)]) (fun t s hR => ⟨s, by
    show p_impl_empties_1_L0 g s g.length = _
    rw [p_impl_empties_1_L0]; simp, hR⟩) a _ ⟨rfl, ha⟩
  unfold p_impl_empties_1
  rw [h1]
  obtain ⟨h3, h4⟩ := h2
  rw [← rows_foldl] at h3 h4
  exact ⟨by rw [h3]; rfl, h4⟩
theorem empties_ok {g : List (List (List Int))} (hg : GR g) : p_impl_empties g = some ((emp g : Nat) : Int) := by
  unfold p_impl_empties p_impl_growing_cl_empties_1
  have h0 := untilLoop (f := sround inSet g) (Inv := fun a => a < 2 ^ g.length) (fun a ha => sround_lt inSet a ha) (fun a => p_impl_growing_cl_empties_1_L0 g (a : Int)) (fun a => (a : Int)) (fun a ha he => by
    show p_impl_growing_cl_empties_1_L0 g (a : Int) = _
    rw [p_impl_growing_cl_empties_1_L0, (empties_round hg ha).1]
    simp [he]) (fun a ha he => by
    show p_impl_growing_cl_empties_1_L0 g (a : Int) = _
    rw [p_impl_growing_cl_empties_1_L0, (empties_round hg ha).1]
    have : ¬ ((sround inSet g a : Nat) : Int) = (a : Int) := by omega
    simp [this]) g.length 0 (two_pos _) (sfix_fix inSet g)
  rw [show p_impl_growing_cl_empties_1_L0 g 0 = _ from h0]
  rfl
theorem productive_round {g : List (List (List Int))} (hg : GR g) {a : Nat} (ha : a < 2 ^ g.length) : p_impl_productive_1 (a : Int) g = some ((sround okSet g a : Nat) : Int) := by
  have hp := pow20 hg.n20
  have hn := hg.n20
  obtain ⟨r, h1, h2⟩ := relLoop (n := g.length) (fun i s => p_impl_productive_1_L0 g s i) (fun k a => (g.getD k []).foldl (fun t row => sstep okSet t (k, row)) a) (U32 g.length) (U32 g.length) (fun i hi t s hR => by
    obtain ⟨rfl, ht⟩ := hR
    have ha := hg.alts _ (List.getElem_mem hi)
    obtain ⟨r, h3, h4⟩ := relLoopL (a := g[i]) (fun j s => p_impl_productive_1_L2 i g g[i] s j) (fun t row => sstep okSet t (i, row)) (U32 g.length) (U32 g.length) (fun j hj t s hR => by
      obtain ⟨rfl, ht⟩ := hR
      have hs := hg.small hi hj
      refine ⟨_, ⟨rfl, ?_⟩, ?_⟩
      · show sstep okSet t (i, _) < _
        unfold sstep
        split
        · exact put_lt ht hi
        · exact ht
      · show p_impl_productive_1_L2 i g g[i] t j = _
        rw [p_impl_productive_1_L2]
        simp only [lt_int hj, if_true, nonneg_int, Int.toNat_natCast, List.getElem?_eq_getElem hj, Option.bind_eq_bind, Option.bind_some, isProductive_ok (show t < 4294967296 by omega) hs.1 (fun y hy => (hs.2 y hy).1), wsucc hj (by omega)]
        unfold sstep
        cases (g[i][j].all (okSet t)) with
        | false => rfl
        | true => simp only [if_true, if_neg (wrapu_nn (show i < 20 by omega)), put_ok (show t < 1048576 by omega) (show i < 20 by omega)]) (fun t s hR => ⟨s, by
      show p_impl_productive_1_L2 i g g[i] s g[i].length = _
      rw [p_impl_productive_1_L2]; simp, hR⟩) t _ ⟨rfl, ht⟩
    refine ⟨r, ?_, ?_⟩
    · rw [getD_get hi]; exact h4
    · show p_impl_productive_1_L0 g t i = _
      rw [p_impl_productive_1_L0]
      simp only [lt_int hi, if_true, nonneg_int, Int.toNat_natCast, List.getElem?_eq_getElem hi, Option.bind_eq_bind, Option.bind_some, h3, wsucc hi (by omega)]) (fun t s hR => ⟨s, by
    show p_impl_productive_1_L0 g s g.length = _
    rw [p_impl_productive_1_L0]; simp, hR⟩) a _ ⟨rfl, ha⟩
  unfold p_impl_productive_1
  rw [h1]
  obtain ⟨h3, h4⟩ := h2
  rw [← rows_foldl] at h3
  rw [h3]; rfl
theorem productive_ok {g : List (List (List Int))} (hg : GR g) : p_impl_productive g = some ((sfix okSet g : Nat) : Int) := by
  unfold p_impl_productive p_impl_growing_cl_productive_1
  have h0 := untilLoop (f := sround okSet g) (Inv := fun a => a < 2 ^ g.length) (fun a ha => sround_lt okSet a ha) (fun a => p_impl_growing_cl_productive_1_L0 g (a : Int)) (fun a => (a : Int)) (fun a ha he => by
    show p_impl_growing_cl_productive_1_L0 g (a : Int) = _
    rw [p_impl_growing_cl_productive_1_L0, productive_round hg ha]
    simp [he]) (fun a ha he => by
    show p_impl_growing_cl_productive_1_L0 g (a : Int) = _
    rw [p_impl_growing_cl_productive_1_L0, productive_round hg ha]
    have : ¬ ((sround okSet g a : Nat) : Int) = (a : Int) := by omega
    simp [this]) g.length 0 (two_pos _) (sfix_fix okSet g)
  rw [show p_impl_growing_cl_productive_1_L0 g 0 = _ from h0]
  rfl
theorem wrapSub {y : Int} {n : Nat} (h1 : 100 ≤ y) (h2 : (y - 100).toNat < n) (hn : n ≤ 20) : IntKind.wrap .i64 (y - 100) = (((y - 100).toNat : Nat) : Int) := by
  rw [wrap_id (by omega) (by omega)]; omega
theorem reachable_round {g : List (List (List Int))} (hg : GR g) {a : Nat} (ha : a < 2 ^ g.length) : p_impl_reachable_1 (a : Int) g = some ((rround g (a ||| 1) : Nat) : Int) := by
  have hp := pow20 hg.n20
  have hn := hg.n20
  have h1n := hg.n1
  have ha1 : a ||| 1 < 2 ^ g.length := Nat.or_lt_two_pow ha (one_lt hg.n1)
  have hor : orI .u32 (a : Int) 1 = ((a ||| 1 : Nat) : Int) := or32 (a := a) (b := 1) (by omega) (by omega)
  obtain ⟨r, h1, h2⟩ := relLoop (n := g.length) (fun i s => p_impl_reachable_1_L0 g s i) (fun k a => rstep g a k) (U32 g.length) (U32 g.length) (fun i hi t s hR => by
    obtain ⟨rfl, ht⟩ := hR
    have hal := hg.alts _ (List.getElem_mem hi)
    obtain ⟨r, h3, h4⟩ := relLoopL (a := g[i]) (fun j s => p_impl_reachable_1_L2 g i g[i] s j) (fun a row => row.foldl (fun a x => if (100 : Int) ≤ x then put a (x - 100).toNat else a) a) (U32 g.length) (U32 g.length) (fun j hj t s hR => by
      obtain ⟨rfl, ht⟩ := hR
      have hs := hg.small hi hj
      obtain ⟨r, h5, h6⟩ := relLoopL (a := g[i][j]) (fun q s => p_impl_reachable_1_L4 g i g[i] j g[i][j] s q) (fun a x => if (100 : Int) ≤ x then put a (x - 100).toNat else a) (U32 g.length) (U32 g.length) (fun q hq t s hR => by
        obtain ⟨rfl, ht⟩ := hR
        have hsym := hg.sym _ (List.getElem_mem hi) _ (List.getElem_mem hj) _ (List.getElem_mem hq)
        refine ⟨_, ⟨rfl, ?_⟩, ?_⟩
        · show (if (100 : Int) ≤ g[i][j][q] then put t (g[i][j][q] - 100).toNat else t) < _
          split
          · exact put_lt ht (by omega)
          · exact ht
        · show p_impl_reachable_1_L4 g i g[i] j g[i][j] t q = _
          rw [p_impl_reachable_1_L4]
          simp only [lt_int hq, if_true, nonneg_int, Int.toNat_natCast, List.getElem?_eq_getElem hq, Option.bind_eq_bind, Option.bind_some, wsucc hq (by omega)]
          by_cases h100 : (100 : Int) ≤ g[i][j][q]
          · have hlt : (g[i][j][q] - 100).toNat < 20 := by omega
            rw [if_pos h100, wrapSub h100 hlt (Nat.le_refl _), if_neg (wrapu_nn hlt), put_ok (by omega) hlt, if_pos h100]
          · rw [if_neg h100, if_neg h100]) (fun t s hR => ⟨s, by
        show p_impl_reachable_1_L4 g i g[i] j g[i][j] s g[i][j].length = _
        rw [p_impl_reachable_1_L4]; simp, hR⟩) t _ ⟨rfl, ht⟩
      refine ⟨r, h6, ?_⟩
      show p_impl_reachable_1_L2 g i g[i] t j = _
      rw [p_impl_reachable_1_L2]
      simp only [lt_int hj, if_true, nonneg_int, Int.toNat_natCast, List.getElem?_eq_getElem hj, Option.bind_eq_bind, Option.bind_some, h5, wsucc hj (by omega)]) (fun t s hR => ⟨s, by
      show p_impl_reachable_1_L2 g i g[i] s g[i].length = _
      rw [p_impl_reachable_1_L2]; simp, hR⟩) t _ ⟨rfl, ht⟩
    by_cases hb : t.testBit i = true
    · refine ⟨r, ?_, ?_⟩
      · unfold rstep
        rw [if_pos hb, getD_get hi]; exact h4
      · show p_impl_reachable_1_L0 g t i = _
        rw [p_impl_reachable_1_L0]
        simp only [lt_int hi, if_true, nonneg_int, Int.toNat_natCast, List.getElem?_eq_getElem hi, Option.bind_eq_bind, Option.bind_some, has_ok (show t < 4294967296 by omega) (show i < 32 by omega), hb, h3, wsucc hi (by omega)]
    · refine ⟨_, ⟨rfl, ?_⟩, ?_⟩
      · unfold rstep
        rw [if_neg hb]; exact ht
      · show p_impl_reachable_1_L0 g t i = _
        rw [p_impl_reachable_1_L0]
        unfold rstep
        simp only [lt_int hi, if_true, nonneg_int, Int.toNat_natCast, List.getElem?_eq_getElem hi, Option.bind_eq_bind, Option.bind_some, has_ok (show t < 4294967296 by omega) (show i < 32 by omega), if_neg hb, wsucc hi (by omega)]) (fun t s hR => ⟨s, by
    show p_impl_reachable_1_L0 g s g.length = _
    rw [p_impl_reachable_1_L0]; simp, hR⟩) (a ||| 1) _ ⟨rfl, ha1⟩
  unfold p_impl_reachable_1
  rw [hor, h1]
  obtain ⟨h3, h4⟩ := h2
  rw [h3]; rfl
theorem or_one {a : Nat} (h : a.testBit 0 = true) : a ||| 1 = a := by
  have := put_has h
  unfold put at this
  exact this
theorem reachable_ok {g : List (List (List Int))} (hg : GR g) : p_impl_reachable g = some ((rfix g : Nat) : Int) := by
  unfold p_impl_reachable p_impl_growing_cl_reachable_1
  have h1n := hg.n1
  have key : ∀ a : Nat, a < 2 ^ g.length → a.testBit 0 = true → p_impl_reachable_1 (a : Int) g = some ((rround g a : Nat) : Int) := fun a ha h => by rw [reachable_round hg ha, or_one h]
  have h0 := untilLoop (f := rround g) (Inv := fun a => a < 2 ^ g.length ∧ a.testBit 0 = true) (fun a ha => ⟨rround_lt hg a ha.1, rround_grows g a 0 ha.2⟩) (fun a => p_impl_growing_cl_reachable_1_L0 g (a : Int)) (fun a => (a : Int)) (fun a ha he => by
    show p_impl_growing_cl_reachable_1_L0 g (a : Int) = _
    rw [p_impl_growing_cl_reachable_1_L0, key a ha.1 ha.2]
    simp [he]) (fun a ha he => by
    show p_impl_growing_cl_reachable_1_L0 g (a : Int) = _
    rw [p_impl_growing_cl_reachable_1_L0, key a ha.1 ha.2]
    have : ¬ ((rround g a : Nat) : Int) = (a : Int) := by omega
    simp [this]) g.length 1 ⟨one_lt hg.n1, by decide⟩ (rfix_fix hg)
  have hr : rround g 1 ≠ 0 := fun e => by
    have := rround_grows g 1 0 (by decide)
    rw [e] at this
    simp at this
  have hfirst : p_impl_growing_cl_reachable_1_L0 g 0 = p_impl_growing_cl_reachable_1_L0 g ((1 : Nat) : Int) := by
    rw [p_impl_growing_cl_reachable_1_L0, show (0 : Int) = ((0 : Nat) : Int) from rfl, reachable_round hg (two_pos _)]
    have h2 : ¬ ((rround g 1 : Nat) : Int) = 0 := by omega
    simp only [Nat.zero_or, Option.bind_eq_bind, Option.bind_some]
    rw [if_neg (by simpa using h2)]
    by_cases he : rround g 1 = 1
    · rw [he]
    · rw [p_impl_growing_cl_reachable_1_L0.eq_1 g ((1 : Nat) : Int), key 1 (one_lt hg.n1) (by decide)]
      have : ¬ ((rround g 1 : Nat) : Int) = ((1 : Nat) : Int) := by omega
      simp only [Option.bind_eq_bind, Option.bind_some]
      rw [if_neg this]
  rw [hfirst, h0]
  rfl
end Go.Proofs.Ytanglbgincgmaaa.Vm

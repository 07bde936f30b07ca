/-
  Plain laws: Sample.
-/
import Derived.Test.YtanglbgincgmaaaVmQH
import Derived.Test.YtanglbgincgmaaaVmQM
namespace Go.Proofs.Ytanglbgincgmaaa.Vm
open Go Go.RowKit Go.Proofs
set_option linter.unusedVariables false
/-- What a symbol becomes at the shortest. -/
def symWord (W : Nat → List Int) (x : Int) : List Int := if x < 100 then [x] else W (x - 100).toNat
theorem word_succ {g : List (List (List Int))} {k : Nat} (hk : k < g.length) (n : Nat) : word g (n + 1) k = (bestRow (least g) g[k]).flatMap (symWord (word g n)) := by
  rw [word, getD_get hk]; rfl
/-! The reference. -/
theorem best_spec {g : List (List (List Int))} (hg : GR g) (rec : RT_spec_l23Word) {k : Nat} (hk : k < g.length) : p_spec_l23Wordb_L0 rec (least g) k g 0 1 = some ((bidx (least g) g[k] g[k].length : Nat) : Int) := by
  have hV := (least_lim hg).2
  have hal := hg.alts _ (List.getElem_mem hk)
  have key : ∀ d i, i + d = g[k].length → 1 ≤ i → p_spec_l23Wordb_L0 rec (least g) k g (bidx (least g) g[k] i : Nat) i = some ((bidx (least g) g[k] g[k].length : Nat) : Int) := by
    intro d
    induction d with
    | zero =>
      intro i hi h1
      obtain rfl : i = g[k].length := by omega
      rw [p_spec_l23Wordb_L0]
      simp [List.getElem?_eq_getElem hk]
    | succ d ih =>
      intro i hi h1
      have hlt : i < g[k].length := by omega
      have hb := bidx_lt (least g) g[k] i (by omega)
      have hb2 : bidx (least g) g[k] i < g[k].length := by omega
      obtain ⟨j, rfl⟩ : ∃ j, i = j + 1 := ⟨i - 1, by omega⟩
      rw [p_spec_l23Wordb_L0]
      simp only [nonneg_int, if_true, Int.toNat_natCast, List.getElem?_eq_getElem hk, List.getElem?_eq_getElem hlt, List.getElem?_eq_getElem hb2, lt_int hlt, Option.bind_eq_bind, Option.bind_some, l23Sum_ok hg hV hk hlt, l23Sum_ok hg hV hk hb2, wsucc hlt (by omega)]
      have e : bidx (least g) g[k] (j + 1 + 1) = if rowMin (least g) g[k][j + 1] < rowMin (least g) g[k][bidx (least g) g[k] (j + 1)] then j + 1 else bidx (least g) g[k] (j + 1) := by
        rw [bidx, getD_get hlt, getD_get hb2]
      by_cases hc : rowMin (least g) g[k][j + 1] < rowMin (least g) g[k][bidx (least g) g[k] (j + 1)]
      · rw [if_pos hc] at e
        rw [if_pos hc, ← ih (j + 1 + 1) (by omega) (by omega), e]
      · rw [if_neg hc] at e
        rw [if_neg hc, ← ih (j + 1 + 1) (by omega) (by omega), e]
  exact key (g[k].length - 1) 1 (by omega) (by omega)
theorem word_row {g : List (List (List Int))} (hg : GR g) (rec : RT_spec_l23Word) {row : List Int} (hlen : row.length ≤ 8) (W : Nat → List Int) (hW : ∀ x ∈ row, (0 ≤ x ∧ x ≤ 25) ∨ (100 ≤ x ∧ (x - 100).toNat < g.length ∧ ((W (x - 100).toNat).length : Int) = lv (least g) (x - 100).toNat ∧ lv (least g) (x - 100).toNat ≤ 10 ∧ rec g (least g) ((x - 100).toNat : Int) = some (W (x - 100).toNat))) :
    p_spec_l23Wordb_L2 rec (least g) row g 0 [] = some (row.flatMap (symWord W)) := by
  have hn := hg.n20
  have hV := (least_lim hg).2
  have h0 := foldLoop (a := row) (fun i s => p_spec_l23Wordb_L2 rec (least g) row g i s) (fun s x => s ++ symWord W x) (fun s => s) (fun i s => s.length ≤ 10 * i) (fun i hi s hs => by
    have hx := hW _ (List.getElem_mem hi)
    show p_spec_l23Wordb_L2 rec (least g) row g i s = p_spec_l23Wordb_L2 rec (least g) row g ((i + 1 : Nat) : Int) (s ++ symWord W row[i]) ∧ (s ++ symWord W row[i]).length ≤ 10 * (i + 1)
    rw [p_spec_l23Wordb_L2]
    simp only [lt_int hi, if_true, nonneg_int, Int.toNat_natCast, List.getElem?_eq_getElem hi, Option.bind_eq_bind, Option.bind_some, wsucc hi (by omega)]
    unfold symWord
    rcases hx with hx | ⟨h1, h2, h3, h4, h5⟩
    · have e1 : row[i] < 100 := by omega
      simp only [if_pos e1, if_pos (show (s.length + 1) * 8 ≤ 140737488355328 by omega), Option.bind_some, List.length_append, List.length_singleton, true_and]
      omega
    · have e1 : ¬ row[i] < 100 := by omega
      rw [wrapSub h1 h2 hn]
      simp only [if_neg e1, nonneg_int, if_true, Int.toNat_natCast, lv_get (show (row[i] - 100).toNat < (least g).length by rw [hV.len]; exact h2), Option.bind_some, List.length_append]
      by_cases hz : 0 < lv (least g) (row[i] - 100).toNat
      · rw [if_pos hz, h5]
        simp only [Option.bind_some, if_pos (show (s.length + (W (row[i] - 100).toNat).length) * 8 ≤ 140737488355328 by omega), true_and]
        omega
      · have hp := hV.pos (row[i] - 100).toNat
        have : W (row[i] - 100).toNat = [] := List.length_eq_zero_iff.1 (by omega)
        rw [if_neg hz, this, List.append_nil]
        exact ⟨rfl, by simp; omega⟩) (fun s hs => by
    show p_spec_l23Wordb_L2 rec (least g) row g row.length s = _
    rw [p_spec_l23Wordb_L2]; simp) [] (by simp)
  rw [show p_spec_l23Wordb_L2 rec (least g) row g 0 [] = _ from h0]
  congr 1
  have : ∀ (l acc : List Int), l.foldl (fun s x => s ++ symWord W x) acc = acc ++ l.flatMap (symWord W) := by
    intro l
    induction l with
    | nil => intro acc; simp
    | cons x l ih => intro acc; rw [List.foldl_cons, ih, List.flatMap_cons, List.append_assoc]
  rw [this]; rfl
theorem word_spec {g : List (List (List Int))} (h : check g = 0) : ∀ n k, k < g.length → lv (least g) k ≤ 10 → meas g k < n → ∀ f, n ≤ f → p_spec_l23Word_n f g (least g) k = some (word g n k) := by
  have hg := GR.of (check_gram h)
  intro n
  induction n with
  | zero => intro k _ _ hm; omega
  | succ n ih =>
    intro k hk hf hm f hfn
    obtain ⟨f, rfl⟩ : ∃ f', f = f' + 1 := ⟨f - 1, by omega⟩
    show p_spec_l23Wordb (p_spec_l23Word_n f) g (least g) k = _
    have hal := hg.alts _ (List.getElem_mem hk)
    have hmem := bestRow_mem (least g) (show 0 < g[k].length by omega)
    have hb := bidx_lt (least g) g[k] g[k].length (by omega)
    have hbr : g[k][bidx (least g) g[k] g[k].length] = bestRow (least g) g[k] := by unfold bestRow; rw [getD_get hb]
    have hrow := word_row hg (p_spec_l23Word_n f) (row := bestRow (least g) g[k]) (hg.row _ (List.getElem_mem hk) _ hmem) (word g n) (fun x hx => by
      have hsym := hg.sym _ (List.getElem_mem hk) _ hmem x hx
      rcases hsym with h1 | h1
      · exact .inl h1
      · right
        obtain ⟨h2, h3, h4⟩ := meas_lt h hk (by omega) hx h1.1
        exact ⟨h1.1, h2, word_len h n _ h2 (by omega) (by omega), by omega, ih _ h2 (by omega) (by omega) f (by omega)⟩)
    unfold p_spec_l23Wordb
    rw [best_spec hg _ hk]
    simp only [Option.bind_eq_bind, Option.bind_some, nonneg_int, if_true, Int.toNat_natCast, List.getElem?_eq_getElem hk, List.getElem?_eq_getElem hb, hbr, hrow]
    rw [word_succ hk]
def sample (g : List (List (List Int))) : List Int × Bool := if check g = 0 ∧ lv (least g) 0 ≤ 10 then (word g 1000 0, true) else ([], false)
theorem meas_small {g : List (List (List Int))} {k : Nat} (h : lv (least g) k ≤ 10) : meas g k < 1000 := by
  have := pop_le ((starts g).getD k 0)
  unfold meas
  omega
theorem sample_spec {g : List (List (List Int))} (h0 : gOk g) : p_spec_Sample g = some (sample g) := by
  unfold p_spec_Sample sample
  simp only [check_spec h0, Option.bind_eq_bind, Option.bind_some]
  by_cases hc : check g = 0
  · have hg := GR.of (check_gram hc)
    have hn1 := hg.n1
    have hl := (least_lim hg).2.len
    simp only [hc, if_true, l23Least_ok hg, Option.bind_some, lv_get (show 0 < (least g).length by omega), true_and]
    by_cases h1 : 10 < lv (least g) 0
    · have h2 : ¬ lv (least g) 0 ≤ 10 := by omega
      rw [if_pos h1, if_neg h2]
    · have h2 : lv (least g) 0 ≤ 10 := by omega
      rw [if_neg h1, if_pos h2]
      have h3 : p_spec_l23Word g (least g) 0 = some (word g 1000 0) := lim_of ⟨1000, fun n hn => word_spec hc 1000 0 (by omega) h2 (meas_small h2) n hn⟩
      rw [h3]; rfl
  · simp only [hc, if_false, false_and]
/-! The program. -/
theorem best_impl {g : List (List (List Int))} (hg : GR g) {k : Nat} (hk : k < g.length) (y5 l1 l2 : List Int) (hy : y5 = arrL (least g)) : p_impl_Sample_L2 g[k] g y5 l1 l2 [] 1000000001 0 = some (bestRow (least g) g[k]) := by
  have hV := (least_lim hg).2
  have hal := hg.alts _ (List.getElem_mem hk)
  have key : ∀ d i, i + d = g[k].length → 1 ≤ i → p_impl_Sample_L2 g[k] g y5 l1 l2 (g[k].getD (bidx (least g) g[k] i) []) (rowMin (least g) (g[k].getD (bidx (least g) g[k] i) [])) i = some (bestRow (least g) g[k]) := by
    intro d
    induction d with
    | zero =>
      intro i hi h1
      obtain rfl : i = g[k].length := by omega
      rw [p_impl_Sample_L2]
      simp [bestRow]
    | succ d ih =>
      intro i hi h1
      have hlt : i < g[k].length := by omega
      obtain ⟨j, rfl⟩ : ∃ j, i = j + 1 := ⟨i - 1, by omega⟩
      rw [p_impl_Sample_L2]
      simp only [nonneg_int, if_true, Int.toNat_natCast, List.getElem?_eq_getElem hlt, lt_int hlt, Option.bind_eq_bind, Option.bind_some, hy, shortRow_ok hg hV hk hlt, wsucc hlt (by omega)]
      have e : bidx (least g) g[k] (j + 1 + 1) = if rowMin (least g) g[k][j + 1] < rowMin (least g) (g[k].getD (bidx (least g) g[k] (j + 1)) []) then j + 1 else bidx (least g) g[k] (j + 1) := by
        rw [bidx, getD_get hlt]
      have := ih (j + 1 + 1) (by omega) (by omega)
      rw [hy] at this
      by_cases hc : rowMin (least g) g[k][j + 1] < rowMin (least g) (g[k].getD (bidx (least g) g[k] (j + 1)) [])
      · rw [if_pos hc] at e
        rw [if_pos hc, ← this, e, getD_get hlt]
      · rw [if_neg hc] at e
        rw [if_neg hc, ← this, e]
  rw [p_impl_Sample_L2]
  have h0 : 0 < g[k].length := by omega
  have hr := rowMin_ok hg hV g[k][0]
  have hlt : rowMin (least g) g[k][0] < 1000000001 := by omega
  simp only [show (0 : Int) < (g[k].length : Int) by omega, if_true, Int.le_refl, Int.toNat_zero, List.getElem?_eq_getElem h0, Option.bind_eq_bind, Option.bind_some, hy, shortRow_ok hg hV hk h0, hlt]
  have := key (g[k].length - 1) 1 (by omega) (by omega)
  simp only [bidx] at this
  rw [getD_get h0, hy] at this
  have hw : IntKind.wrap .i64 (0 + 1) = ((1 : Nat) : Int) := wsucc (i := 0) (n := 1) (by omega) (by omega)
  rw [hw]
  exact this
theorem push_impl (row : List Int) (g : List (List (List Int))) (y5 l2 : List Int) : ∀ (i : Nat) (st : List Int), i ≤ row.length → row.length ≤ 8 → st.length + i ≤ 1000000 → p_impl_Sample_L4 row g y5 l2 ((i : Int) - 1) st = some (st ++ (row.take i).reverse) := by
  intro i
  induction i with
  | zero => intro st _ _ _; rw [p_impl_Sample_L4]; simp
  | succ i ih =>
    intro st hi h8 hs
    have hlt : i < row.length := by omega
    rw [p_impl_Sample_L4, show (((i + 1 : Nat) : Int) - 1) = (i : Int) by omega]
    have hw : IntKind.wrap .i64 ((i : Int) - 1) = (i : Int) - 1 := wrap_id (by omega) (by omega)
    simp only [nonneg_int, if_true, Int.toNat_natCast, List.getElem?_eq_getElem hlt, Option.bind_eq_bind, Option.bind_some, if_pos (show (st.length + 1) * 8 ≤ 140737488355328 by omega), hw]
    rw [ih (st ++ [row[i]]) (by omega) h8 (by simp; omega), List.take_succ_eq_append_getElem hlt, List.reverse_append]
    simp
theorem pop_letter {g : List (List (List Int))} {y5 s out : List Int} {x : Int} (hs : s.length ≤ 200000) (ho : out.length ≤ 2000000) (hx : x < 100) : p_impl_Sample_L0 g y5 (s ++ [x]) out = p_impl_Sample_L0 g y5 s (out ++ [x]) := by
  rw [p_impl_Sample_L0.eq_1 g y5 (s ++ [x]) out]
  have hl : ((s ++ [x]).length : Int) - 1 = (s.length : Int) := by simp
  have hw : IntKind.wrap .i64 (((s ++ [x]).length : Int) - 1) = (s.length : Int) := by rw [hl, wrap_id (by omega) (by omega)]
  have hget : (s ++ [x])[s.length]? = some x := by simp
  have htake : (s ++ [x]).take s.length = s := by simp
  simp only [hw, show (0 : Int) < ((s ++ [x]).length : Int) by simp, if_true, nonneg_int, Int.toNat_natCast, hget, Option.bind_eq_bind, Option.bind_some, show s.length ≤ (s ++ [x]).length by simp, htake, hx, show (out.length + 1) * 8 ≤ 140737488355328 by omega]
theorem pop_part {g : List (List (List Int))} (hg : GR g) {y5 : List Int} (hy : y5 = arrL (least g)) {k : Nat} (hk : k < g.length) {s out : List Int} (hs : s.length ≤ 200000) : p_impl_Sample_L0 g y5 (s ++ [100 + (k : Int)]) out = p_impl_Sample_L0 g y5 (s ++ (bestRow (least g) g[k]).reverse) out := by
  have hn20 := hg.n20
  have hal := hg.alts _ (List.getElem_mem hk)
  have hmem := bestRow_mem (least g) (show 0 < g[k].length by omega)
  have h8 := hg.row _ (List.getElem_mem hk) _ hmem
  rw [p_impl_Sample_L0.eq_1 g y5 (s ++ [100 + (k : Int)]) out]
  have hl : ((s ++ [100 + (k : Int)]).length : Int) - 1 = (s.length : Int) := by simp
  have hw : IntKind.wrap .i64 (((s ++ [100 + (k : Int)]).length : Int) - 1) = (s.length : Int) := by rw [hl, wrap_id (by omega) (by omega)]
  have hget : (s ++ [100 + (k : Int)])[s.length]? = some (100 + (k : Int)) := by simp
  have htake : (s ++ [100 + (k : Int)]).take s.length = s := by simp
  have hwk : IntKind.wrap .i64 (100 + (k : Int) - 100) = (k : Int) := by rw [wrap_id (by omega) (by omega)]; omega
  have hwr : IntKind.wrap .i64 (((bestRow (least g) g[k]).length : Int) - 1) = ((bestRow (least g) g[k]).length : Int) - 1 := wrap_id (by omega) (by omega)
  simp only [hw, show (0 : Int) < ((s ++ [100 + (k : Int)]).length : Int) by simp, if_true, nonneg_int, Int.toNat_natCast, hget, Option.bind_eq_bind, Option.bind_some, show s.length ≤ (s ++ [100 + (k : Int)]).length by simp, htake, show ¬ (100 + (k : Int) < 100) by omega, if_false, hwk, List.getElem?_eq_getElem hk, best_impl hg hk y5 s out hy, hwr]
  rw [push_impl _ g y5 out (bestRow (least g) g[k]).length s (Nat.le_refl _) h8 (by omega)]
  simp
theorem run_impl {g : List (List (List Int))} (h : check g = 0) (y5 : List Int) (hy : y5 = arrL (least g)) : ∀ n k, k < g.length → lv (least g) k ≤ 10 → meas g k < n → ∀ st out : List Int, st.length + 8 * n ≤ 100000 → out.length + 100 * n ≤ 1000000 →
    p_impl_Sample_L0 g y5 (st ++ [100 + (k : Int)]) out = p_impl_Sample_L0 g y5 st (out ++ word g n k) := by
  have hg := GR.of (check_gram h)
  have hn20 := hg.n20
  intro n
  induction n with
  | zero => intro k _ _ hm; omega
  | succ n ih =>
    intro k hk hf hm st out hst hout
    have hal := hg.alts _ (List.getElem_mem hk)
    have hmem := bestRow_mem (least g) (show 0 < g[k].length by omega)
    have h8 := hg.row _ (List.getElem_mem hk) _ hmem
    have hsym := hg.sym _ (List.getElem_mem hk) _ hmem
    have hml := fun (x : Int) (hx : x ∈ bestRow (least g) g[k]) (h100 : 100 ≤ x) => meas_lt h hk (show lv (least g) k < 1000000000 by omega) hx h100
    rw [pop_part hg hy hk (by omega), word_succ hk]
    generalize bestRow (least g) g[k] = row at *
    have hseq : ∀ (r : List Int), r.length ≤ 8 → (∀ x ∈ r, x ∈ row) → ∀ out : List Int, out.length + 10 * r.length + 100 * n ≤ 1000000 → p_impl_Sample_L0 g y5 (st ++ r.reverse) out = p_impl_Sample_L0 g y5 st (out ++ r.flatMap (symWord (word g n))) := by
      intro r
      induction r with
      | nil => intro _ _ out _; simp
      | cons x r ihr =>
        intro hr hsub out ho
        simp only [List.length_cons] at hr ho
        have hx := hsym x (hsub x List.mem_cons_self)
        rw [List.reverse_cons, ← List.append_assoc, List.flatMap_cons, ← List.append_assoc]
        by_cases h1 : x < 100
        · rw [pop_letter (by simp; omega) (by omega) h1, ihr (by omega) (fun y hy => hsub y (List.mem_cons_of_mem _ hy)) _ (by simp; omega)]
          simp [symWord, h1]
        · obtain ⟨h2, h3, h4⟩ := hml x (hsub x List.mem_cons_self) (by omega)
          have hlw := word_len h n _ h2 (by omega) (by omega)
          have hxe : x = 100 + (((x - 100).toNat : Nat) : Int) := by omega
          have hstep := ih _ h2 (by omega) (by omega) (st ++ r.reverse) out (by simp; omega) (by omega)
          rw [← hxe] at hstep
          rw [hstep, ihr (by omega) (fun y hy => hsub y (List.mem_cons_of_mem _ hy)) _ (by simp; omega)]
          simp [symWord, h1]
    exact hseq row h8 (fun x hx => hx) out (by omega)
theorem sample_impl {g : List (List (List Int))} (h0 : gOk g) (hw : gWf g) : p_impl_Sample g = some (sample g) := by
  unfold p_impl_Sample sample
  simp only [isGood_ok h0 hw, Option.bind_eq_bind, Option.bind_some]
  by_cases hc : check g = 0
  · have hg := GR.of (check_gram hc)
    have hn1 := hg.n1
    have hl := (least_lim hg).2.len
    simp only [hc, decide_true, if_true, shortest_ok hg, Option.bind_some, arrL_get (show 0 < (least g).length by omega), true_and]
    by_cases h1 : 10 < lv (least g) 0
    · have h2 : ¬ lv (least g) 0 ≤ 10 := by omega
      rw [if_pos h1, if_neg h2]
    · have h2 : lv (least g) 0 ≤ 10 := by omega
      rw [if_neg h1, if_pos h2]
      have h3 := run_impl hc (arrL (least g)) rfl 1000 0 (by omega) h2 (meas_small h2) [] [] (by simp) (by simp)
      simp only [List.nil_append, Int.natCast_zero, Int.add_zero] at h3
      rw [h3, p_impl_Sample_L0]
      simp
  · simp only [hc, decide_false, Bool.false_eq_true, if_false, false_and]
theorem sample_len (g : List (List (List Int))) : (sample g).1.length ≤ 10 := by
  unfold sample
  split
  · rename_i h
    have hg := GR.of (check_gram h.1)
    have := word_len h.1 1000 0 (by have := hg.n1; omega) (by omega) (meas_small h.2)
    show (word g 1000 0).length ≤ 10
    omega
  · simp
theorem lawSample {x : List (List (List Int))} (h : rowG x) : p_laws_FnExactSample x = some true := by
  obtain ⟨r, h1, h2⟩ := sized h
  unfold p_laws_FnExactSample
  simp only [h1, Option.bind_eq_bind, Option.bind_some]
  rcases h2 with h2 | ⟨h2, hg⟩
  · rw [if_pos h2]
  · have hw := rowG_wf h
    have hl := sample_len x
    obtain ⟨n1, g1, p1, q1⟩ := markedG hg
    obtain ⟨l2, q2, r2⟩ := markIntS_h (sample x).1 (by omega) 1 (by omega) (by omega)
    have e1 : ¬ r < 0 := by omega
    have e2 : ¬ n1 < 0 := by omega
    have e3 : ¬ (1 + ((sample x).1.length : Int) < 0) := by omega
    cases hs : (sample x).2 <;> simp [e1, toGram_ok hg, sample_spec hg, sample_impl hg hw, eqIntS_ok (a := (sample x).1) (b := (sample x).1) (by omega), hs, eqGram_ok hg, q1, e2, q2, r2, e3]
end Go.Proofs.Ytanglbgincgmaaa.Vm

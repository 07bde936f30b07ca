/-
  Plain laws: the shortest lengths, by the program and by the reference.
-/
import Derived.Test.YtanglbgincgmaaaVmQF
namespace Go.Proofs.Ytanglbgincgmaaa.Vm
open Go Go.RowKit Go.Proofs
set_option linter.unusedVariables false
/-- Lengths over a grammar. -/
structure VOk (g : List (List (List Int))) (v : List Int) : Prop where
  len : v.length = g.length
  pos : ∀ k, 0 ≤ lv v k
  le : ∀ k, lv v k ≤ 1000000000
theorem lv_get {v : List Int} {k : Nat} (h : k < v.length) : v[k]? = some (lv v k) := by
  unfold lv
  rw [getD_get h, List.getElem?_eq_getElem h]
theorem symVal_pos {g : List (List (List Int))} {v : List Int} (h : VOk g v) (x : Int) : 0 ≤ symVal v x ∧ symVal v x ≤ 1000000000 := by
  unfold symVal
  split
  · omega
  · exact ⟨h.pos _, h.le _⟩
theorem sum_snoc (f : Int → Int) (l : List Int) (s : Int) : l.foldl (fun s x => s + f x) s = s + (l.map f).sum := by
  induction l generalizing s with
  | nil => simp
  | cons x l ih => rw [List.foldl_cons, ih, List.map_cons, List.sum_cons]; omega
theorem sum_pos {f : Int → Int} (h : ∀ x, 0 ≤ f x) (l : List Int) : 0 ≤ (l.map f).sum := by
  induction l with
  | nil => simp
  | cons x l ih => rw [List.map_cons, List.sum_cons]; have := h x; omega
theorem sum_clamp {f : Int → Int} (h : ∀ x, 0 ≤ f x) (M : Int) (l : List Int) (s : Int) (hs : s ≤ M) : l.foldl (fun s x => min (s + f x) M) s = min (s + (l.map f).sum) M := by
  induction l generalizing s with
  | nil => simp; omega
  | cons x l ih =>
    rw [List.foldl_cons, ih _ (Int.min_le_right _ _), List.map_cons, List.sum_cons]
    have h1 := h x
    have h2 := sum_pos h l
    omega
theorem rowMin_ok {g : List (List (List Int))} (hg : GR g) {v : List Int} (h : VOk g v) (row : List Int) : 0 ≤ rowMin v row ∧ rowMin v row ≤ 1000000000 := by
  have := sum_pos (fun x => (symVal_pos h x).1) row
  unfold rowMin rowSum
  omega
theorem l1Min_ok (a b : Int) : p_spec_l1Min a b = some (min a b) := by
  unfold p_spec_l1Min
  by_cases h : a < b
  · rw [if_pos h]; congr 1; omega
  · rw [if_neg h]; congr 1; omega
theorem l23Sum_ok {g : List (List (List Int))} (hg : GR g) {v : List Int} (h : VOk g v) {i j : Nat} (hi : i < g.length) (hj : j < g[i].length) : p_spec_l23Sum g[i][j] v = some (rowMin v g[i][j]) := by
  have hn := hg.n20
  have hrow8 := hg.row _ (List.getElem_mem hi) _ (List.getElem_mem hj)
  have hsym := hg.sym _ (List.getElem_mem hi) _ (List.getElem_mem hj)
  generalize g[i][j] = row at *
  have h0 := foldLoop (a := row) (fun q s => p_spec_l23Sum_L0 row v s q) (fun s x => s + symVal v x) (fun s => s) (fun q s => 0 ≤ s ∧ s ≤ 1000000000 * q) (fun q hq s hs => by
    have hx := hsym _ (List.getElem_mem hq)
    have hv := symVal_pos h row[q]
    refine ⟨?_, by omega, by push_cast; omega⟩
    show p_spec_l23Sum_L0 row v s q = _
    rw [p_spec_l23Sum_L0]
    simp only [lt_int hq, if_true, nonneg_int, Int.toNat_natCast, List.getElem?_eq_getElem hq, Option.bind_eq_bind, Option.bind_some, wsucc hq (by omega)]
    unfold symVal at hv ⊢
    by_cases h1 : row[q] < 100
    · simp only [if_pos h1]
      rw [wrap_id (by omega) (by omega)]
    · simp only [if_neg h1] at hv ⊢
      have hlt : (row[q] - 100).toNat < g.length := by omega
      rw [wrapSub (by omega) hlt hn]
      simp only [nonneg_int, if_true, Int.toNat_natCast, lv_get (show (row[q] - 100).toNat < v.length by rw [h.len]; exact hlt), Option.bind_some]
      rw [wrap_id (by omega) (by omega)]) (fun s hs => by
    show p_spec_l23Sum_L0 row v s row.length = _
    rw [p_spec_l23Sum_L0]; simp) 0 (by omega)
  unfold p_spec_l23Sum
  rw [show p_spec_l23Sum_L0 row v 0 0 = _ from h0, sum_snoc]
  simp only [Option.bind_eq_bind, Option.bind_some, l1Min_ok, Int.zero_add]
  rfl
/-- The program's row of lengths. -/
def arrL (v : List Int) : List Int := v ++ List.replicate (20 - v.length) 1000000000
theorem arrL_get {v : List Int} {k : Nat} (hk : k < v.length) : (arrL v)[k]? = some (lv v k) := by
  unfold arrL
  rw [List.getElem?_append_left hk, lv_get hk]
theorem arrL_set {v : List Int} {k : Nat} (hk : k < v.length) (x : Int) : (arrL v).set k x = arrL (v.set k x) := by
  unfold arrL
  rw [List.length_set, ← List.set_append_left _ _ hk]
theorem shortRow_ok {g : List (List (List Int))} (hg : GR g) {v : List Int} (h : VOk g v) {i j : Nat} (hi : i < g.length) (hj : j < g[i].length) : p_impl_shortRow g[i][j] (arrL v) = some (rowMin v g[i][j]) := by
  have hn := hg.n20
  have hrow8 := hg.row _ (List.getElem_mem hi) _ (List.getElem_mem hj)
  have hsym := hg.sym _ (List.getElem_mem hi) _ (List.getElem_mem hj)
  generalize g[i][j] = row at *
  have h0 := foldLoop (a := row) (fun q s => p_impl_shortRow_L0 (arrL v) row s q) (fun s x => min (s + symVal v x) 1000000000) (fun s => s) (fun q s => 0 ≤ s ∧ s ≤ 1000000000) (fun q hq s hs => by
    have hx := hsym _ (List.getElem_mem hq)
    have hv := symVal_pos h row[q]
    refine ⟨?_, by omega, by omega⟩
    show p_impl_shortRow_L0 (arrL v) row s q = _
    rw [p_impl_shortRow_L0]
    simp only [lt_int hq, if_true, nonneg_int, Int.toNat_natCast, List.getElem?_eq_getElem hq, Option.bind_eq_bind, Option.bind_some, wsucc hq (by omega)]
    unfold symVal at hv ⊢
    by_cases h1 : row[q] < 100
    · simp only [if_pos h1]
      rw [wrap_id (n := s + 1) (by omega) (by omega)]
      by_cases h2 : 1000000000 < s + 1
      · rw [if_pos h2, show min (s + 1) 1000000000 = 1000000000 by omega]
      · rw [if_neg h2, show min (s + 1) 1000000000 = s + 1 by omega]
    · simp only [if_neg h1] at hv ⊢
      have hlt : (row[q] - 100).toNat < g.length := by omega
      have hlt20 : (row[q] - 100).toNat < 20 := by omega
      rw [wrapSub (by omega) hlt hn]
      simp only [nonneg_int, if_true, Int.toNat_natCast, hlt20, arrL_get (show (row[q] - 100).toNat < v.length by rw [h.len]; exact hlt), Option.bind_some]
      generalize lv v (row[q] - 100).toNat = y at hv
      rw [wrap_id (n := s + y) (by omega) (by omega)]
      by_cases h2 : 1000000000 < s + y
      · rw [if_pos h2, show min (s + y) 1000000000 = 1000000000 by omega]
      · rw [if_neg h2, show min (s + y) 1000000000 = s + y by omega]) (fun s hs => by
    show p_impl_shortRow_L0 (arrL v) row s row.length = _
    rw [p_impl_shortRow_L0]; simp) 0 (by omega)
  unfold p_impl_shortRow
  rw [show p_impl_shortRow_L0 (arrL v) row 0 0 = _ from h0, sum_clamp (fun x => (symVal_pos h x).1) _ _ _ (by omega)]
  simp only [Option.bind_eq_bind, Option.bind_some, Int.zero_add]
  rfl
theorem lstep_ok {g : List (List (List Int))} (hg : GR g) {v : List Int} (h : VOk g v) {e : Nat × List Int} : VOk g (lstep v e) := by
  refine ⟨by rw [lstep_len, h.len], fun k => ?_, fun k => Int.le_trans (lstep_le v e k) (h.le k)⟩
  exact lround_pos (E := [e]) h.pos k
theorem lround_ok {g : List (List (List Int))} (hg : GR g) (E : List (Nat × List Int)) {v : List Int} (h : VOk g v) : VOk g (lround E v) :=
  ⟨by rw [lround_len, h.len], lround_pos h.pos, fun k => Int.le_trans (lround_le E v k) (h.le k)⟩
/-- All lengths too great. -/
def far (g : List (List (List Int))) : List Int := List.replicate g.length 1000000000
theorem far_lv {g : List (List (List Int))} {k : Nat} (h : k < g.length) : lv (far g) k = 1000000000 := by
  unfold lv far
  rw [List.getD_eq_getElem?_getD, List.getElem?_replicate, if_pos h]; rfl
theorem far_ok (g : List (List (List Int))) : VOk g (far g) := by
  have key : ∀ k, lv (far g) k = 1000000000 ∨ lv (far g) k = 0 := fun k => by
    rcases Nat.lt_or_ge k g.length with h | h
    · exact .inl (far_lv h)
    · right
      unfold lv far
      rw [List.getD_eq_getElem?_getD, List.getElem?_replicate, if_neg (by omega)]; rfl
  exact ⟨by simp [far], fun k => by have := key k; omega, fun k => by have := key k; omega⟩
def least (g : List (List (List Int))) : List Int := iterN (lround (rowsOf g)) g.length (far g)
theorem rows_sym {g : List (List (List Int))} (hg : GR g) : ∀ e ∈ rowsOf g, ∀ x ∈ e.2, 100 ≤ x → (x - 100).toNat < g.length := fun e he x hx h => by
  have := hg.rsym he hx; omega
theorem least_lim {g : List (List (List Int))} (hg : GR g) : Lim (rowsOf g) g.length (far g) (least g) ∧ VOk g (least g) := by
  obtain ⟨vs, h1, h2, d, h3⟩ := lim_exists (rows_sym hg) (v0 := far g) (by simp [far]) (fun k hk => far_lv hk)
  have h4 := lround_n h1 (rows_sym hg) (far_ok g).le
  have h5 : least g = vs := h4
  rw [h5]
  exact ⟨h1, h1.len, h2, fun k => Int.le_trans (h1.le k) ((far_ok g).le k)⟩
theorem l23Least_round {g : List (List (List Int))} (hg : GR g) (turn : Int) {v : List Int} (h : VOk g v) : p_spec_l23Least_L4 turn g 0 v = some (lround (rowsOf g) v) := by
  have hn := hg.n20
  obtain ⟨r, h1, h2⟩ := relLoop (n := g.length) (fun i s => p_spec_l23Least_L4 turn g i s) (fun k v => (g.getD k []).foldl (fun v row => lstep v (k, row)) v) (fun t s => s = t ∧ VOk g t) (fun t s => s = t) (fun i hi t s hR => by
    obtain ⟨rfl, ht⟩ := hR
    have hal := hg.alts _ (List.getElem_mem hi)
    obtain ⟨r, h3, h4⟩ := relLoopL (a := g[i]) (fun j s => p_spec_l23Least_L6 turn i g j s) (fun v row => lstep v (i, row)) (fun t s => s = t ∧ VOk g t) (fun t s => s = t ∧ VOk g t) (fun j hj t s hR => by
      obtain ⟨rfl, ht⟩ := hR
      refine ⟨_, ⟨rfl, lstep_ok hg ht⟩, ?_⟩
      show p_spec_l23Least_L6 turn i g j s = _
      rw [p_spec_l23Least_L6]
      have hl := ht.len
      simp only [lt_int hj, if_true, nonneg_int, Int.toNat_natCast, List.getElem?_eq_getElem hi, List.getElem?_eq_getElem hj, lv_get (show i < s.length by omega), Option.bind_eq_bind, Option.bind_some, l23Sum_ok hg ht hi hj, l1Min_ok, wsucc hj (by omega)]
      rfl) (fun t s hR => ⟨s, by
      show p_spec_l23Least_L6 turn i g g[i].length s = _
      rw [p_spec_l23Least_L6]; simp [List.getElem?_eq_getElem hi], hR⟩) s s ⟨rfl, ht⟩
    obtain ⟨rfl, h5⟩ := h4
    refine ⟨_, ⟨rfl, by rw [getD_get hi]; exact h5⟩, ?_⟩
    · show p_spec_l23Least_L4 turn g i s = _
      rw [p_spec_l23Least_L4]
      simp only [lt_int hi, if_true, Option.bind_eq_bind, Option.bind_some, show p_spec_l23Least_L6 turn i g 0 s = _ from h3, wsucc hi (by omega), getD_get hi]) (fun t s hR => ⟨s, by
    show p_spec_l23Least_L4 turn g g.length s = _
    rw [p_spec_l23Least_L4]; simp, hR.1⟩) v v ⟨rfl, h⟩
  rw [← rows_foldl] at h2
  rw [show p_spec_l23Least_L4 turn g 0 v = _ from h1, h2]
  rfl
theorem l23Least_ok {g : List (List (List Int))} (hg : GR g) : p_spec_l23Least g = some (least g) := by
  have hn := hg.n20
  have hi := foldLoop (a := g) (fun i s => p_spec_l23Least_L0 g i s) (fun s _ => s ++ [1000000000]) (fun s => s) (fun i s => s = List.replicate i 1000000000) (fun i hi s hs => by
    refine ⟨?_, by rw [hs, List.replicate_succ']⟩
    show p_spec_l23Least_L0 g i s = _
    rw [p_spec_l23Least_L0]
    have : (s.length + 1) * 8 ≤ 140737488355328 := by rw [hs, List.length_replicate]; omega
    simp only [lt_int hi, if_true, this, Option.bind_eq_bind, Option.bind_some, wsucc hi (by omega)]) (fun s hs => by
    show p_spec_l23Least_L0 g g.length s = _
    rw [p_spec_l23Least_L0]; simp) [] rfl
  have hfold : ∀ (l : List (List (List Int))) (k : Nat), l.foldl (fun (s : List Int) _ => s ++ [1000000000]) (List.replicate k 1000000000) = List.replicate (k + l.length) 1000000000 := by
    intro l
    induction l with
    | nil => intro k; rfl
    | cons x l ih => intro k; rw [List.foldl_cons, ← List.replicate_succ', ih, List.length_cons]; congr 1; omega
  have hf := hfold g 0
  simp only [List.replicate_zero, Nat.zero_add] at hf
  obtain ⟨r, h1, h2⟩ := relLoop (n := g.length + 1) (fun i s => p_spec_l23Least_L2 g i s) (fun _ v => lround (rowsOf g) v) (fun t s => s = t ∧ VOk g t) (fun t s => s = t) (fun i hi t s hR => by
    obtain ⟨rfl, ht⟩ := hR
    refine ⟨_, ⟨rfl, lround_ok hg _ ht⟩, ?_⟩
    show p_spec_l23Least_L2 g i s = _
    rw [p_spec_l23Least_L2]
    simp only [turn_le hi, if_true, Option.bind_eq_bind, Option.bind_some, l23Least_round hg i ht, wtwice (show i ≤ 20 by omega) (by omega)]) (fun t s hR => ⟨s, by
    show p_spec_l23Least_L2 g ((g.length + 1 : Nat) : Int) s = _
    rw [p_spec_l23Least_L2, if_neg (by omega)], hR.1⟩) (far g) (far g) ⟨rfl, far_ok g⟩
  unfold p_spec_l23Least
  rw [show p_spec_l23Least_L0 g 0 [] = _ from hi, hf]
  simp only [Option.bind_eq_bind, Option.bind_some]
  rw [show p_spec_l23Least_L2 g 0 (List.replicate g.length 1000000000) = _ from h1, h2, foldl_const, iterN_succ]
  rw [show lround (rowsOf g) (iterN (lround (rowsOf g)) g.length (far g)) = least g from (least_lim hg).1.fix]
  rfl
theorem shortest_row {g : List (List (List Int))} (hg : GR g) {k : Nat} (hk : k < g.length) {v0 v : List Int} (h : VOk g v) (hle : lle v v0) (hl0 : v0.length = v.length) :
    ∃ w, p_impl_shortest_L6 k g g[k] (decide (v ≠ v0)) 0 (arrL v) = some (decide (w ≠ v0), arrL w) ∧ w = g[k].foldl (fun v row => lstep v (k, row)) v ∧ VOk g w ∧ lle w v0 := by
  have hn := hg.n20
  have hal := hg.alts _ (List.getElem_mem hk)
  obtain ⟨r, h1, h2⟩ := relLoopL (a := g[k]) (fun j (s : Bool × List Int) => p_impl_shortest_L6 k g g[k] s.1 j s.2) (fun v row => lstep v (k, row)) (fun t s => s = (decide (t ≠ v0), arrL t) ∧ VOk g t ∧ lle t v0) (fun t s => s = (decide (t ≠ v0), arrL t) ∧ VOk g t ∧ lle t v0) (fun j hj t s hR => by
    obtain ⟨rfl, ht, hlt⟩ := hR
    refine ⟨_, ⟨rfl, lstep_ok hg ht, (lstep_le t _).trans hlt⟩, ?_⟩
    show p_impl_shortest_L6 k g g[k] (decide (t ≠ v0)) j (arrL t) = p_impl_shortest_L6 k g g[k] (decide (lstep t (k, g[k][j]) ≠ v0)) ((j + 1 : Nat) : Int) (arrL (lstep t (k, g[k][j])))
    rw [p_impl_shortest_L6]
    have hl := ht.len
    have hkl : k < t.length := by omega
    simp only [lt_int hj, if_true, nonneg_int, Int.toNat_natCast, List.getElem?_eq_getElem hj, Option.bind_eq_bind, Option.bind_some, shortRow_ok hg ht hk hj, show k < 20 by omega, arrL_get hkl, wsucc hj (by omega)]
    by_cases hc : rowMin t g[k][j] < lv t k
    · have e1 : lstep t (k, g[k][j]) = t.set k (rowMin t g[k][j]) := by
        unfold lstep
        simp only
        rw [show min (lv t k) (rowMin t g[k][j]) = rowMin t g[k][j] by omega]
      have e2 : lstep t (k, g[k][j]) ≠ v0 := fun he => by
        have e3 := lv_set t k k (rowMin t g[k][j]) hkl
        rw [← e1, he, if_pos rfl] at e3
        have := hlt k
        omega
      rw [if_pos hc, arrL_set hkl, ← e1]
      simp [e2]
    · have e1 : lstep t (k, g[k][j]) = t := by
        unfold lstep
        simp only
        rw [show min (lv t k) (rowMin t g[k][j]) = lv t k by omega]
        refine lv_ext (by simp) (fun p => ?_)
        rw [lv_set _ _ _ _ hkl]
        split
        · rename_i hp; rw [hp]
        · rfl
      rw [if_neg hc, e1]) (fun t s hR => ⟨s, by
    show p_impl_shortest_L6 k g g[k] s.1 g[k].length s.2 = _
    rw [p_impl_shortest_L6]; simp, hR⟩) v (decide (v ≠ v0), arrL v) ⟨rfl, h, hle⟩
  exact ⟨_, by rw [show p_impl_shortest_L6 k g g[k] (decide (v ≠ v0)) 0 (arrL v) = _ from h1, h2.1], rfl, h2.2⟩
theorem shortest_round {g : List (List (List Int))} (hg : GR g) {v : List Int} (h : VOk g v) : p_impl_shortest_L4 g false 0 (arrL v) = some (decide (lround (rowsOf g) v ≠ v), arrL (lround (rowsOf g) v)) := by
  have hn := hg.n20
  obtain ⟨r, h1, h2⟩ := relLoop (n := g.length) (fun i (s : Bool × List Int) => p_impl_shortest_L4 g s.1 i s.2) (fun k v => (g.getD k []).foldl (fun v row => lstep v (k, row)) v) (fun t s => s = (decide (t ≠ v), arrL t) ∧ VOk g t ∧ lle t v) (fun t s => s = (decide (t ≠ v), arrL t)) (fun k hk t s hR => by
    obtain ⟨rfl, ht, hlt⟩ := hR
    obtain ⟨w, w1, w2, w3, w4⟩ := shortest_row hg hk ht hlt (by rw [h.len, ht.len])
    refine ⟨(decide (w ≠ v), arrL w), ?_, ?_⟩
    · rw [getD_get hk, ← w2]; exact ⟨rfl, w3, w4⟩
    · show p_impl_shortest_L4 g (decide (t ≠ v)) k (arrL t) = p_impl_shortest_L4 g (decide (w ≠ v)) ((k + 1 : Nat) : Int) (arrL w)
      rw [p_impl_shortest_L4]
      simp only [lt_int hk, if_true, nonneg_int, Int.toNat_natCast, List.getElem?_eq_getElem hk, Option.bind_eq_bind, Option.bind_some, w1, wsucc hk (by omega)]) (fun t s hR => ⟨s, by
    show p_impl_shortest_L4 g s.1 g.length s.2 = _
    rw [p_impl_shortest_L4]; simp, hR.1⟩) v (false, arrL v) ⟨by simp, h, lle.refl v⟩
  rw [show p_impl_shortest_L4 g false 0 (arrL v) = _ from h1, h2]
  rw [← rows_foldl]
  rfl
theorem shortest_ok {g : List (List (List Int))} (hg : GR g) : p_impl_shortest g = some (arrL (least g)) := by
  have hn := hg.n20
  have hi := copyLoop (a := List.replicate 20 (0 : Int)) (z := (0 : Int)) (fun i s => p_impl_shortest_L0 g i s) (fun _ => 1000000000) (fun i hi m hm hl => by
    rw [List.length_replicate] at hi
    show p_impl_shortest_L0 g i m = _
    rw [p_impl_shortest_L0]
    simp only [show (i : Int) < 20 by omega, if_true, nonneg_int, Int.toNat_natCast, hi, List.getElem?_eq_getElem hm, Option.bind_eq_bind, Option.bind_some, wtwice (show i ≤ 20 by omega) (by omega)]) (fun m hl => by
    show p_impl_shortest_L0 g ((List.replicate 20 (0 : Int)).length : Int) m = _
    rw [List.length_replicate, p_impl_shortest_L0]; simp)
  rw [List.length_replicate, List.map_replicate] at hi
  have h0 := untilLoop (f := lround (rowsOf g)) (Inv := VOk g) (fun v hv => lround_ok hg _ hv) (fun v => p_impl_shortest_L2 g true (arrL v)) (fun v => arrL v) (fun v hv hf => by
    have r1 := shortest_round hg hv
    show p_impl_shortest_L2 g true (arrL v) = _
    rw [hf, show decide (v ≠ v) = false by simp] at r1
    rw [p_impl_shortest_L2.eq_1 _ true, r1]
    simp only [if_true, Option.bind_eq_bind, Option.bind_some]
    rw [p_impl_shortest_L2.eq_1 _ false]
    rfl) (fun v hv hf => by
    have r1 := shortest_round hg hv
    show p_impl_shortest_L2 g true (arrL v) = p_impl_shortest_L2 g true (arrL (lround (rowsOf g) v))
    rw [show decide (lround (rowsOf g) v ≠ v) = true by simpa using hf] at r1
    rw [p_impl_shortest_L2.eq_1 _ true (arrL v), r1]
    rfl) g.length (far g) (far_ok g) (least_lim hg).1.fix
  have hfar : arrL (far g) = List.replicate 20 1000000000 := by
    unfold arrL far
    rw [List.length_replicate, List.replicate_append_replicate]
    congr 1; omega
  rw [hfar] at h0
  unfold p_impl_shortest
  simp only [Option.bind_eq_bind, Option.bind_some, show p_impl_shortest_L0 g 0 (List.replicate 20 0) = _ from hi, show p_impl_shortest_L2 g true (List.replicate 20 1000000000) = _ from h0]
  rfl
end Go.Proofs.Ytanglbgincgmaaa.Vm

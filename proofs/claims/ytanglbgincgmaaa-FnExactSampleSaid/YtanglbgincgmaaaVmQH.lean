/-
  Plain laws: what the shortest lengths say of rows: best rows, what is nothing, what comes first.
-/
import Derived.Test.YtanglbgincgmaaaVmQG
namespace Go.Proofs.Ytanglbgincgmaaa.Vm
open Go Go.RowKit Go.Proofs
set_option linter.unusedVariables false
/-- The place of the first shortest row among the first i. -/
def bidx (v : List Int) (alts : List (List Int)) : Nat → Nat
  | 0 => 0
  | 1 => 0
  | i + 2 => if rowMin v (alts.getD (i + 1) []) < rowMin v (alts.getD (bidx v alts (i + 1)) []) then i + 1 else bidx v alts (i + 1)
theorem bidx_lt (v : List Int) (alts : List (List Int)) : ∀ i, 0 < i → bidx v alts i < i := by
  intro i
  induction i with
  | zero => intro h; omega
  | succ i ih =>
    intro _
    cases i with
    | zero => simp [bidx]
    | succ i =>
      have := ih (by omega)
      simp only [bidx]
      split <;> omega
theorem bidx_le (v : List Int) (alts : List (List Int)) : ∀ i j, j < i → rowMin v (alts.getD (bidx v alts i) []) ≤ rowMin v (alts.getD j []) := by
  intro i
  induction i with
  | zero => intro j h; omega
  | succ i ih =>
    intro j hj
    cases i with
    | zero =>
      obtain rfl : j = 0 := by omega
      simp [bidx]
    | succ i =>
      simp only [bidx]
      by_cases hji : j = i + 1
      · subst hji
        split <;> omega
      · have := ih j (by omega)
        split <;> omega
def bestRow (v : List Int) (alts : List (List Int)) : List Int := alts.getD (bidx v alts alts.length) []
theorem bestRow_mem (v : List Int) {alts : List (List Int)} (h : 0 < alts.length) : bestRow v alts ∈ alts := by
  have := bidx_lt v alts alts.length h
  unfold bestRow
  rw [getD_get this]
  exact List.getElem_mem this
theorem bestRow_le (v : List Int) {alts : List (List Int)} {row : List Int} (h : row ∈ alts) : rowMin v (bestRow v alts) ≤ rowMin v row := by
  obtain ⟨j, hj, rfl⟩ := List.mem_iff_getElem.1 h
  have := bidx_le v alts alts.length j hj
  rwa [getD_get hj] at this
/-- A part's best row is as long as the part is at least. -/
theorem best_len {g : List (List (List Int))} (hg : GR g) {k : Nat} (hk : k < g.length) (hf : lv (least g) k < 1000000000) : rowSum (least g) (bestRow (least g) g[k]) = lv (least g) k := by
  obtain ⟨hL, hV⟩ := least_lim hg
  have hst := lround_fix_step hL.fix
  have hlow : ∀ row ∈ g[k], lv (least g) k ≤ rowMin (least g) row := fun row hr => by
    have h1 := hst (k, row) (mem_rowsOf.2 ⟨hk, hr⟩)
    have h2 := congrArg (fun v => lv v k) h1
    simp only [lstep] at h2
    rw [lv_set _ _ _ _ (by rw [hL.len]; exact hk), if_pos rfl] at h2
    omega
  have hsup := hL.sup (fun k => lv (least g) k = 1000000000 ∨ ∃ e ∈ rowsOf g, e.1 = k ∧ rowMin (least g) e.2 = lv (least g) k) (fun k _ h => .inl h) (fun e he _ _ h => .inr ⟨e, he, rfl, h⟩) k hk
  rcases hsup with h | ⟨e, he, h1, h2⟩
  · omega
  · obtain ⟨h3, h4⟩ := mem_rowsOf.1 he
    subst h1
    have h5 := bestRow_le (least g) h4
    have h6 := hlow _ (bestRow_mem (least g) (show 0 < g[e.1].length by have := (hg.alts _ (List.getElem_mem hk)).1; omega))
    unfold rowMin at h2 h5 h6
    omega
/-- What can be nothing has length 0. -/
theorem emp_zero {g : List (List (List Int))} (hg : GR g) {k : Nat} (hk : k < g.length) : lv (least g) k = 0 ↔ (emp g).testBit k = true := by
  let Z : Nat → List Int → Prop := fun a v => VOk g v ∧ a < 2 ^ g.length ∧ ∀ k, k < g.length → (lv v k = 0 ↔ a.testBit k = true)
  have hn := hg.n20
  have row : ∀ (a : Nat) (v : List Int), Z a v → ∀ row : List Int, (∀ x ∈ row, (0 ≤ x ∧ x ≤ 25) ∨ (100 ≤ x ∧ (x - 100).toNat < g.length)) → (rowSum v row = 0 ↔ row.all (inSet a) = true) := by
    intro a v hZ row
    induction row with
    | nil => intro _; simp [rowSum]
    | cons x row ih =>
      intro h
      have h1 := ih (fun y hy => h y (List.mem_cons_of_mem _ hy))
      have h2 := symVal_pos hZ.1 x
      have h3 := sum_pos (fun x => (symVal_pos hZ.1 x).1) row
      unfold rowSum at h1 ⊢
      rw [List.map_cons, List.sum_cons, List.all_cons, Bool.and_eq_true, ← h1]
      have h4 : symVal v x = 0 ↔ inSet a x = true := by
        unfold symVal inSet
        rcases h x List.mem_cons_self with hx | ⟨hx, hx2⟩
        · have e1 : x < 100 := by omega
          have e2 : ¬ 100 ≤ x := by omega
          simp [e1, e2]
        · have e1 : ¬ x < 100 := by omega
          have e2 : x < 120 := by omega
          simp only [e1, if_false, hx, e2, decide_true, Bool.true_and]
          exact hZ.2.2 _ hx2
      constructor
      · intro h5
        exact ⟨h4.1 (by omega), by omega⟩
      · rintro ⟨h5, h6⟩
        have := h4.2 h5
        omega
  have step : ∀ (E : List (Nat × List Int)) (a : Nat) (v : List Int), (∀ e ∈ E, e ∈ rowsOf g) → Z a v → Z (E.foldl (sstep inSet) a) (lround E v) := by
    intro E
    induction E with
    | nil => intro a v _ h; exact h
    | cons e E ih =>
      intro a v hE hZ
      refine ih _ _ (fun x hx => hE x (List.mem_cons_of_mem _ hx)) ?_
      have he := hE e List.mem_cons_self
      have hek := (mem_rowsOf.1 he).1
      have hr := row a v hZ e.2 (fun x hx => hg.rsym he hx)
      have hpos := sum_pos (fun x => (symVal_pos hZ.1 x).1) e.2
      refine ⟨lstep_ok hg hZ.1, ?_, fun k hk => ?_⟩
      · unfold sstep
        split
        · exact put_lt hZ.2.1 hek
        · exact hZ.2.1
      · have hlen := hZ.1.len
        unfold lstep sstep
        rw [lv_set _ _ _ _ (by omega)]
        have h0 := hZ.2.2 k hk
        have hp := hZ.1.pos k
        by_cases hke : k = e.1
        · subst hke
          rw [if_pos rfl]
          by_cases ha : e.2.all (inSet a) = true
          · have h1 := hr.2 ha
            rw [if_pos ha, put_bit]
            have : min (lv v e.1) (rowMin v e.2) = 0 := by unfold rowMin; omega
            simp [this]
          · have h1 : rowSum v e.2 ≠ 0 := fun h => ha (hr.1 h)
            rw [if_neg ha, ← h0]
            unfold rowMin
            unfold rowSum at h1 ⊢
            constructor
            · intro h; omega
            · intro h; omega
        · rw [if_neg hke]
          split
          · rw [put_bit, h0]
            simp [hke]
          · exact h0
  have rounds : ∀ d a v, Z a v → Z (iterN (sround inSet g) d a) (iterN (lround (rowsOf g)) d v) := by
    intro d
    induction d with
    | zero => intro a v h; exact h
    | succ d ih => intro a v h; exact ih _ _ (step (rowsOf g) a v (fun _ h => h) h)
  have h0 : Z 0 (far g) := ⟨far_ok g, two_pos _, fun k hk => by rw [far_lv hk]; simp⟩
  exact (rounds g.length 0 (far g) h0).2.2 k hk
/-- What a part starts with. -/
theorem tstep_fix : ∀ {E : List (Nat × Nat)} {S : List Nat}, E.foldl tstep S = S → ∀ p ∈ E, tstep S p = S := by
  intro E
  induction E with
  | nil => intro S _ p h; cases h
  | cons q E ih =>
    intro S h p hp
    have h0 : E.foldl tstep (tstep S q) = S := h
    have h1 : tstep S q = S := by
      refine List.ext_getElem (tstep_len S q) (fun i h1 h2 => Nat.eq_of_testBit_eq (fun m => ?_))
      have g1 := tfold_grows [q] S i m
      have g2 := tfold_grows E (tstep S q) i m
      rw [h0] at g2
      simp only [List.foldl_cons, List.foldl_nil] at g1
      rw [getD_get h1] at g1 g2
      rw [getD_get h2] at g1 g2
      cases ha : S[i].testBit m with
      | true => exact g1 ha
      | false =>
        cases hb : (tstep S q)[i].testBit m with
        | false => rfl
        | true => rw [g2 hb] at ha; cases ha
    rcases List.mem_cons.1 hp with rfl | hp
    · exact h1
    · rw [h1] at h0
      exact ih h0 p hp
theorem starts_edge {g : List (List (List Int))} (hg : GR g) {k t : Nat} (hk : k < g.length) (h : (k, t) ∈ edgesOf (emp g) g) : ((starts g).getD k 0).testBit t = true ∧ ∀ i, ((starts g).getD t 0).testBit i = true → ((starts g).getD k 0).testBit i = true := by
  have h1 := tstep_fix (tfix_fix (emp g) g) (k, t) h
  have hl : (starts g).length = g.length := (startsOf_ok hg).2.1
  have h2 := congrArg (fun S => S.getD k 0) h1
  simp only [tstep] at h2
  change (List.set (starts g) k (put ((starts g).getD k 0) t ||| (starts g).getD t 0)).getD k 0 = (starts g).getD k 0 at h2
  rw [List.getD_eq_getElem?_getD, List.getElem?_set_self (by omega)] at h2
  simp only [Option.getD_some] at h2
  refine ⟨?_, fun i hi => ?_⟩
  · rw [← h2, Nat.testBit_or, put_bit]; simp
  · rw [← h2, Nat.testBit_or, hi]; simp
def pop (a : Nat) : Nat := (List.range 20).countP fun i => a.testBit i
theorem pop_le (a : Nat) : pop a ≤ 20 := by
  have := List.countP_le_length (p := fun i => a.testBit i) (l := List.range 20)
  simpa [pop] using this
theorem check_loop {g : List (List (List Int))} (h : check g = 0) {k : Nat} (hk : k < g.length) : ((starts g).getD k 0).testBit k = false := by
  unfold check at h
  rw [if_neg (by rw [check_gram h]; simp)] at h
  split at h
  · cases h
  · rename_i h1
    cases hb : ((starts g).getD k 0).testBit k with
    | false => rfl
    | true =>
      have h2 : (List.range g.length).any (fun k => ((starts g).getD k 0).testBit k) = true := List.any_eq_true.2 ⟨k, List.mem_range.2 hk, hb⟩
      exact absurd h2 h1
theorem pop_edge {g : List (List (List Int))} (h : check g = 0) {k t : Nat} (hk : k < g.length) (ht : t < g.length) (he : (k, t) ∈ edgesOf (emp g) g) : pop ((starts g).getD t 0) < pop ((starts g).getD k 0) := by
  have hg := GR.of (check_gram h)
  obtain ⟨h1, h2⟩ := starts_edge hg hk he
  exact countP_lt (fun i _ hi => h2 i hi) ⟨t, List.mem_range.2 (by have := hg.n20; omega), h1, check_loop h ht⟩
theorem rowEdges_mem {e : Nat} : ∀ {pre suf : List Int} {x : Int}, pre.all (inSet e) = true → 100 ≤ x → (x - 100).toNat ∈ rowEdges e (pre ++ x :: suf) := by
  intro pre
  induction pre with
  | nil => intro suf x _ hx; simp [rowEdges, hx]
  | cons y pre ih =>
    intro suf x h hx
    rw [List.all_cons, Bool.and_eq_true] at h
    have h1 := h.1
    unfold inSet at h1
    simp only [Bool.and_eq_true, decide_eq_true_eq] at h1
    rw [List.cons_append, rowEdges, if_pos h1.1.1, if_pos h1.2]
    exact List.mem_cons_of_mem _ (ih h.2 hx)
theorem edge_mem {g : List (List (List Int))} {e k : Nat} (hk : k < g.length) {row pre suf : List Int} {x : Int} (hr : row ∈ g[k]) (hrow : row = pre ++ x :: suf) (hp : pre.all (inSet e) = true) (hx : 100 ≤ x) : (k, (x - 100).toNat) ∈ edgesOf e g := by
  unfold edgesOf
  refine List.mem_flatMap.2 ⟨(k, row), mem_rowsOf.2 ⟨hk, hr⟩, List.mem_map.2 ⟨_, ?_, rfl⟩⟩
  rw [hrow]
  exact rowEdges_mem hp hx
/-- A number that goes down from a part to the parts of its best row. -/
def meas (g : List (List (List Int))) (k : Nat) : Nat := (lv (least g) k).toNat * 21 + pop ((starts g).getD k 0)
theorem sum_split (f : Int → Int) (pre suf : List Int) (x : Int) : ((pre ++ x :: suf).map f).sum = (pre.map f).sum + f x + (suf.map f).sum := by
  induction pre with
  | nil => simp
  | cons y pre ih => rw [List.cons_append, List.map_cons, List.sum_cons, ih, List.map_cons, List.sum_cons]; omega
theorem sum_zero {f : Int → Int} (h : ∀ x, 0 ≤ f x) : ∀ {l : List Int}, (l.map f).sum = 0 → ∀ x ∈ l, f x = 0 := by
  intro l
  induction l with
  | nil => intro _ x hx; cases hx
  | cons y l ih =>
    intro hs x hx
    rw [List.map_cons, List.sum_cons] at hs
    have h1 := h y
    have h2 := sum_pos h l
    rcases List.mem_cons.1 hx with rfl | hx
    · omega
    · exact ih (by omega) x hx
theorem meas_lt {g : List (List (List Int))} (h : check g = 0) {k : Nat} (hk : k < g.length) (hf : lv (least g) k < 1000000000) {x : Int} (hx : x ∈ bestRow (least g) g[k]) (h100 : 100 ≤ x) : (x - 100).toNat < g.length ∧ lv (least g) (x - 100).toNat ≤ lv (least g) k ∧ meas g (x - 100).toNat < meas g k := by
  have hg := GR.of (check_gram h)
  obtain ⟨hL, hV⟩ := least_lim hg
  have hlen := best_len hg hk hf
  have hmem := bestRow_mem (least g) (show 0 < g[k].length by have := (hg.alts _ (List.getElem_mem hk)).1; omega)
  have hsym := hg.sym _ (List.getElem_mem hk) _ hmem
  generalize bestRow (least g) g[k] = row at *
  have ht : (x - 100).toNat < g.length := by have := hsym x hx; omega
  obtain ⟨pre, suf, hrow⟩ := List.append_of_mem hx
  have hpos : ∀ y, 0 ≤ symVal (least g) y := fun y => (symVal_pos hV y).1
  have hs := sum_split (symVal (least g)) pre suf x
  rw [← hrow] at hs
  have h1 := sum_pos hpos pre
  have h2 := sum_pos hpos suf
  have h3 : symVal (least g) x = lv (least g) (x - 100).toNat := by unfold symVal; rw [if_neg (by omega)]
  unfold rowSum at hlen
  have hp1 := hV.pos (x - 100).toNat
  have hle : lv (least g) (x - 100).toNat ≤ lv (least g) k := by omega
  refine ⟨ht, hle, ?_⟩
  have hpop := pop_le ((starts g).getD (x - 100).toNat 0)
  unfold meas
  by_cases heq : lv (least g) (x - 100).toNat = lv (least g) k
  · have hz := sum_zero hpos (show (pre.map (symVal (least g))).sum = 0 by omega)
    have hall : pre.all (inSet (emp g)) = true := List.all_eq_true.2 (fun y hy => by
      have h4 := hz y hy
      have h5 := hsym y (by rw [hrow]; exact List.mem_append_left _ hy)
      unfold symVal at h4
      split at h4
      · cases h4
      · have h6 : (y - 100).toNat < g.length := by omega
        have h7 := (emp_zero hg h6).1 h4
        have := hg.n20
        have h8 : 100 ≤ y := by omega
        have h9 : y < 120 := by omega
        unfold inSet
        simp [h7, h8, h9])
    have he := edge_mem hk hmem hrow hall h100
    have := pop_edge h hk ht he
    rw [heq]
    omega
  · omega
/-- The shortest word of a part. -/
def word (g : List (List (List Int))) : Nat → Nat → List Int
  | 0, _ => []
  | n + 1, k => (bestRow (least g) (g.getD k [])).flatMap fun x => if x < 100 then [x] else word g n (x - 100).toNat
theorem flat_len {f : Int → List Int} {v : Int → Int} : ∀ {l : List Int}, (∀ x ∈ l, ((f x).length : Int) = v x) → ((l.flatMap f).length : Int) = (l.map v).sum := by
  intro l
  induction l with
  | nil => intro _; rfl
  | cons x l ih =>
    intro h
    rw [List.flatMap_cons, List.length_append, List.map_cons, List.sum_cons, ← ih (fun y hy => h y (List.mem_cons_of_mem _ hy)), ← h x List.mem_cons_self]
    push_cast
    rfl
theorem word_len {g : List (List (List Int))} (h : check g = 0) : ∀ n k, k < g.length → lv (least g) k < 1000000000 → meas g k < n → ((word g n k).length : Int) = lv (least g) k := by
  intro n
  induction n with
  | zero => intro k _ _ hm; omega
  | succ n ih =>
    intro k hk hf hm
    have hg := GR.of (check_gram h)
    rw [word, getD_get hk, ← best_len hg hk hf]
    refine flat_len (fun x hx => ?_)
    unfold symVal
    by_cases h1 : x < 100
    · simp [h1]
    · obtain ⟨h2, h3, h4⟩ := meas_lt h hk hf hx (by omega)
      simp only [if_neg h1]
      exact ih _ h2 (by omega) (by omega)
end Go.Proofs.Ytanglbgincgmaaa.Vm

/-
  What a right grammar makes of an input, between two places; the measure by which the lookers come to an end.
-/
import Derived.Test.YtanglbgincgmaaaVmQH0
namespace Go.Proofs.Ytanglbgincgmaaa.Vm
open Go Go.RowKit Go.Proofs
set_option linter.unusedVariables false
/-- A loop that keeps an invariant. -/
theorem invLoop {σ ρ : Type} {n : Nat} (L : Int → σ → Option ρ) (Inv : Nat → σ → Prop) (Fin : ρ → Prop)
    (hs : ∀ i, i < n → ∀ s, Inv i s → ∃ s', Inv (i + 1) s' ∧ L (i : Int) s = L ((i + 1 : Nat) : Int) s') (he : ∀ s, Inv n s → ∃ r, L (n : Int) s = some r ∧ Fin r) (i : Nat) (hi : i ≤ n) (s : σ) (h : Inv i s) : ∃ r, L (i : Int) s = some r ∧ Fin r := by
  have key : ∀ d i s, i + d = n → Inv i s → ∃ r, L (i : Int) s = some r ∧ Fin r := by
    intro d
    induction d with
    | zero =>
      intro i s hi h
      obtain rfl : i = n := by omega
      exact he s h
    | succ d ih =>
      intro i s hi h
      obtain ⟨s', h1, h2⟩ := hs i (by omega) s h
      rw [h2]
      exact ih (i + 1) s' (by omega) h1
  exact key (n - i) i s (by omega) h

/-- A row makes the input's letters from a place to a place. -/
inductive DerR (g : List (List (List Int))) (w : List Int) : List Int → Nat → Nat → Prop
  | nil (i : Nat) : DerR g w [] i i
  | sym {x : Int} {r : List Int} {i j : Nat} (h1 : x < 100) (h2 : w[i]? = some x) (h3 : DerR g w r (i + 1) j) : DerR g w (x :: r) i j
  | part {x : Int} {r row : List Int} {i m j : Nat} (h1 : 100 ≤ x) (h2 : row ∈ g.getD (x - 100).toNat []) (h3 : DerR g w row i m) (h4 : DerR g w r m j) : DerR g w (x :: r) i j
/-- A part does. -/
def DerP (g : List (List (List Int))) (w : List Int) (k i j : Nat) : Prop := ∃ row ∈ g.getD k [], DerR g w row i j
section
variable {g : List (List (List Int))} {w : List Int}
theorem DerR.le {r : List Int} {i j : Nat} (h : DerR g w r i j) : i ≤ j := by
  induction h with
  | nil => omega
  | sym _ _ _ ih => omega
  | part _ _ _ _ ih1 ih2 => omega
theorem DerR.bound {r : List Int} {i j : Nat} (h : DerR g w r i j) (hi : i ≤ w.length) : j ≤ w.length := by
  induction h with
  | nil => exact hi
  | sym h1 h2 h3 ih => exact ih (List.getElem?_eq_some_iff.1 h2).1
  | part h1 h2 h3 h4 ih1 ih2 => exact ih2 (ih1 hi)
theorem DerR.app {r1 r2 : List Int} {i m j : Nat} (h : DerR g w r1 i m) (k : DerR g w r2 m j) : DerR g w (r1 ++ r2) i j := by
  induction h with
  | nil => exact k
  | sym h1 h2 h3 ih => exact .sym h1 h2 (ih k)
  | part h1 h2 h3 h4 ih1 ih2 => exact .part h1 h2 h3 (ih2 k)
theorem DerR.split : ∀ {r1 r2 : List Int} {i j : Nat}, DerR g w (r1 ++ r2) i j → ∃ m, DerR g w r1 i m ∧ DerR g w r2 m j
  | [], r2, i, j, h => ⟨i, .nil i, h⟩
  | x :: r1, r2, i, j, h => by
    cases h with
    | sym h1 h2 h3 =>
      obtain ⟨m, a, b⟩ := DerR.split h3
      exact ⟨m, .sym h1 h2 a, b⟩
    | part h1 h2 h3 h4 =>
      obtain ⟨m, a, b⟩ := DerR.split h4
      exact ⟨m, .part h1 h2 h3 a, b⟩
theorem der_letter {x : Int} (h : x < 100) {i j : Nat} : DerR g w [x] i j ↔ w[i]? = some x ∧ j = i + 1 := by
  constructor
  · intro k
    cases k with
    | sym h1 h2 h3 =>
      cases h3 with
      | nil => exact ⟨h2, rfl⟩
    | part h1 => omega
  · rintro ⟨h1, rfl⟩
    exact .sym h h1 (.nil _)
theorem der_part {x : Int} (h : 100 ≤ x) {i j : Nat} : DerR g w [x] i j ↔ DerP g w (x - 100).toNat i j := by
  constructor
  · intro k
    cases k with
    | sym h1 => omega
    | part h1 h2 h3 h4 =>
      cases h4 with
      | nil => exact ⟨_, h2, h3⟩
  · rintro ⟨row, h1, h2⟩
    exact .part h h1 h2 (.nil _)
theorem mem_getD {k : Nat} {row : List Int} (h : row ∈ g.getD k []) : ∃ (hk : k < g.length), row ∈ g[k] := by
  rw [List.getD_eq_getElem?_getD] at h
  by_cases hk : k < g.length
  · rw [List.getElem?_eq_getElem hk] at h
    exact ⟨hk, h⟩
  · rw [List.getElem?_eq_none (by omega)] at h
    cases h
theorem sstep_fix {c : Nat → Int → Bool} : ∀ {E : List (Nat × List Int)} {a : Nat}, E.foldl (sstep c) a = a → ∀ e ∈ E, sstep c a e = a := by
  have gr : ∀ e, grows (fun a => sstep c a e) := fun e a i h => by
    show (if e.2.all (c a) = true then put a e.1 else a).testBit i = true
    split
    · rw [put_bit, h]; rfl
    · exact h
  intro E
  induction E with
  | nil => intro a _ e he; cases he
  | cons e0 E ih =>
    intro a h e he
    rw [List.foldl_cons] at h
    have h0 : sstep c a e0 = a := Nat.eq_of_testBit_eq (fun i => by
      cases h1 : a.testBit i with
      | true => exact gr e0 a i h1
      | false =>
        cases h2 : (sstep c a e0).testBit i with
        | false => rfl
        | true =>
          have : (E.foldl (sstep c) (sstep c a e0)).testBit i = true := grows_foldl (fun e => gr e) E (sstep c a e0) i h2
          rw [h, h1] at this
          exact this.symm)
    rw [h0] at h
    rcases List.mem_cons.1 he with rfl | he
    · exact h0
    · exact ih h e he
/-- A row of parts that can be nothing makes its part one. -/
theorem emp_row {k : Nat} {row : List Int} (hr : row ∈ g.getD k []) (h : row.all (inSet (emp g)) = true) : (emp g).testBit k = true := by
  obtain ⟨hk, hr⟩ := mem_getD hr
  have h1 := sstep_fix (c := inSet) (a := emp g) (E := rowsOf g) (sfix_fix inSet g) (k, row) (mem_rowsOf.2 ⟨hk, hr⟩)
  unfold sstep at h1
  simp only [h, if_true] at h1
  rw [← h1, put_bit]
  simp
theorem DerR.emp (hg : GR g) {r : List Int} {i j : Nat} (h : DerR g w r i j) : i = j → r.all (inSet (emp g)) = true := by
  induction h with
  | nil => intro _; rfl
  | sym h1 h2 h3 ih => intro hij; have := h3.le; omega
  | @part x r row i m j h1 h2 h3 h4 ih1 ih2 =>
    intro hij
    have l1 := h3.le
    have l2 := h4.le
    have e1 := emp_row h2 (ih1 (by omega))
    obtain ⟨hk, _⟩ := mem_getD h2
    have := hg.n20
    rw [List.all_cons, ih2 (by omega), Bool.and_true]
    unfold inSet
    simp [e1, h1, show x < 120 by omega]
/-- What is left to look at. -/
def mu (g : List (List (List Int))) (n k i : Nat) : Nat := (n - i) * 21 + pop ((starts g).getD k 0)
theorem mu_lt (h : check g = 0) {k : Nat} (hk : k < g.length) {row pre suf : List Int} {x : Int} (hr : row ∈ g[k]) (hrow : row = pre ++ x :: suf) {i m : Nat} (hd : DerR g w pre i m) (hm : m ≤ w.length) (hx : 100 ≤ x) : (x - 100).toNat < g.length ∧ mu g w.length (x - 100).toNat m < mu g w.length k i := by
  have hg := GR.of (check_gram h)
  have hsym := hg.sym _ (List.getElem_mem hk) _ hr
  have ht : (x - 100).toNat < g.length := by
    have := hsym x (by rw [hrow]; simp)
    omega
  refine ⟨ht, ?_⟩
  have hle := hd.le
  have hpop := pop_le ((starts g).getD (x - 100).toNat 0)
  unfold mu
  by_cases hmi : m = i
  · subst hmi
    have he := edge_mem hk hr hrow (hd.emp hg rfl) hx
    have := pop_edge h hk ht he
    omega
  · omega
theorem mu_top {n k i : Nat} : mu g n k i ≤ n * 21 + 20 := by
  have := pop_le ((starts g).getD k 0)
  unfold mu
  have : (n - i) * 21 ≤ n * 21 := Nat.mul_le_mul_right _ (by omega)
  omega
end
end Go.Proofs.Ytanglbgincgmaaa.Vm

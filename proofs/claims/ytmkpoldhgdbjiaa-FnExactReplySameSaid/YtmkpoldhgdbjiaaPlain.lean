/-
  Plain lemmas on the print's pure functions: rounds of loops over lists, copies, sizes.
-/
import Derived.Test.YtmkpoldhgdbjiaaWMore
namespace Go.Proofs.Ytmkpoldhgdbjiaa.Pln
open Go.RowKit Go.Proofs.YtmkpoldhgdbjiaaW.PrintWords Go.Proofs.YtmkpoldhgdbjiaaW.PrintLast Go.Proofs.YtmkpoldhgdbjiaaW.PrintMore
set_option linter.unusedVariables false

theorem wrap_id {x : Int} (h0 : -9223372036854775808 ≤ x) (h1 : x ≤ 9223372036854775807) : wrap64 x = x := by unfold wrap64; omega
theorem wf_bounds {x : Int} (h : (Lit.int .i64 x).wf = true) : -9223372036854775808 ≤ x ∧ x ≤ 9223372036854775807 := by
  have h1 : IntKind.i64.min = -9223372036854775808 := by decide
  have h2 : IntKind.i64.max = 9223372036854775807 := by decide
  simp [Lit.wf, h1, h2] at h
  omega
theorem wrap_next {i n : Nat} (h : i < n) (hn : n ≤ 140737488351232) : wrap64 ((i : Int) + 1) = ((i + 1 : Nat) : Int) := by unfold wrap64; omega

/-- Induction downwards. -/
theorem down {Q : Nat → Prop} {n : Nat} (hn : Q n) (hs : ∀ i, i < n → Q (i + 1) → Q i) : ∀ i, i ≤ n → Q i := by
  intro i hi
  obtain ⟨d, rfl⟩ : ∃ d, i = n - d := ⟨n - i, by omega⟩
  induction d with
  | zero => simpa using hn
  | succ d ih =>
    by_cases h : d < n
    · exact hs _ (by omega) (by rw [show n - (d + 1) + 1 = n - d from by omega]; exact ih (by omega))
    · rw [show n - (d + 1) = n - d from by omega]; exact ih (by omega)

theorem getD_nat {α : Type} (l : List α) (z : α) (i : Nat) (h : i < l.length) : l.getD ((i : Int).toNat) z = l[i] := by
  simp [List.getD_eq_getElem?_getD, List.getElem?_eq_getElem h]
theorem drop_cons {α : Type} {l : List α} {i : Nat} (h : i < l.length) : l.drop i = l[i] :: l.drop (i + 1) := (List.drop_eq_getElem_cons h)

/-- A copy into a new list, element by element. -/
theorem to_loop {α β : Type} (l : List α) (conv : α → β) (z : β) (g : Nat → List β → Int → Option (List β))
    (hstop : ∀ k ys, ys.length = l.length → g (k + 1) ys l.length = some ys)
    (hstep : ∀ (i : Nat) (h : i < l.length) ys r, ys.length = l.length → Ev (fun k => g k (ys.set i (conv l[i])) ((i + 1 : Nat) : Int)) r → Ev (fun k => g k ys (i : Int)) r) :
    Ev (fun k => g k (List.replicate l.length z) 0) (l.map conv) := by
  have key : ∀ i, i ≤ l.length → ∀ ys : List β, ys.length = l.length → Ev (fun k => g k ys (i : Int)) (ys.take i ++ (l.map conv).drop i) := by
    refine down ?_ ?_
    · intro ys hy
      refine Ev.step (f := fun _ => some ys) (fun k => hstop k ys hy) ?_
      have : ys.take l.length ++ (l.map conv).drop l.length = ys := by
        rw [List.take_of_length_le (by omega), List.drop_of_length_le (by simp), List.append_nil]
      rw [this]
      exact Ev.now _
    · intro i hi ih ys hy
      refine hstep i hi ys _ hy ?_
      have h1 := ih (ys.set i (conv l[i])) (by simp [hy])
      have h2 : (ys.set i (conv l[i])).take (i + 1) ++ (l.map conv).drop (i + 1) = ys.take i ++ (l.map conv).drop i := by
        rw [List.drop_eq_getElem_cons (i := i) (l := l.map conv) (by simpa using hi), List.take_succ_eq_append_getElem (by simp; omega), List.take_set_of_le (Nat.le_refl _)]
        simp
      rw [h2] at h1
      exact h1
  have := key 0 (by omega) (List.replicate l.length z) (by simp)
  simpa using this

/-- What is counted down by a list's elements: below 0, or their sizes are paid. -/
def total {α : Type} (sz : α → Nat) (l : List α) : Nat := (l.map sz).sum
theorem total_cons {α : Type} (sz : α → Nat) (x : α) (l : List α) : total sz (x :: l) = sz x + total sz l := by simp [total]
theorem total_mem {α : Type} {sz : α → Nat} {l : List α} {x : α} (h : x ∈ l) : sz x ≤ total sz l := by
  induction l with
  | nil => cases h
  | cons y l ih =>
    rw [total_cons]
    rcases List.mem_cons.1 h with rfl | h
    · omega
    · have := ih h; omega
theorem total_le {α : Type} {s s' : α → Nat} {l : List α} (h : ∀ x ∈ l, s x ≤ s' x) : total s l ≤ total s' l := by
  induction l with
  | nil => simp [total]
  | cons y l ih =>
    rw [total_cons, total_cons]
    have := h y List.mem_cons_self
    have := ih (fun x hx => h x (List.mem_cons_of_mem _ hx))
    omega
/-- Sizes left: r is what is told of x with 'left' ahead. -/
def Paid (left : Int) (size : Nat) (r : Int) : Prop := r = -1 ∨ (0 ≤ r ∧ r + size = left)
theorem sz_loop {α : Type} (l : List α) (sz : α → Nat) (g : Nat → Int → Int → Option Int)
    (hstop : ∀ k left, g (k + 1) left l.length = some left)
    (hstep : ∀ (i : Nat) (h : i < l.length) left, 0 ≤ left → left ≤ 1048576 → ∃ r, Paid left (sz l[i]) r ∧ (r = -1 → Ev (fun k => g k left (i : Int)) (-1)) ∧ (0 ≤ r → ∀ q, Ev (fun k => g k r ((i + 1 : Nat) : Int)) q → Ev (fun k => g k left (i : Int)) q)) :
    ∀ left, 0 ≤ left → left ≤ 1048576 → ∃ r, Ev (fun k => g k left 0) r ∧ Paid left (total sz l) r := by
  have key : ∀ i, i ≤ l.length → ∀ left, 0 ≤ left → left ≤ 1048576 → ∃ r, Ev (fun k => g k left (i : Int)) r ∧ Paid left (total sz (l.drop i)) r := by
    refine down ?_ ?_
    · intro left h0 h1
      exact ⟨left, Ev.step (f := fun _ => some left) (fun k => hstop k left) (Ev.now _), .inr ⟨h0, by simp [total]⟩⟩
    · intro i hi ih left h0 h1
      obtain ⟨r, hL, hm, hp⟩ := hstep i hi left h0 h1
      rcases hL with rfl | ⟨hr0, hr⟩
      · exact ⟨-1, hm rfl, .inl rfl⟩
      · obtain ⟨q, hq, hLq⟩ := ih r hr0 (by omega)
        refine ⟨q, hp hr0 q hq, ?_⟩
        rw [drop_cons hi, total_cons]
        rcases hLq with rfl | ⟨a, b⟩
        · exact .inl rfl
        · exact .inr ⟨a, by omega⟩
  intro left h0 h1
  simpa using key 0 (by omega) left h0 h1

/-- A loop that tells a Bool of the list from place i on. -/
theorem all_loop {α ρ : Type} (l : List α) (g : Nat → Int → Option ρ) (F : List α → Nat → ρ)
    (hstop : ∀ k, g (k + 1) l.length = some (F [] l.length))
    (hstep : ∀ (i : Nat) (h : i < l.length), Ev (fun k => g k ((i + 1 : Nat) : Int)) (F (l.drop (i + 1)) (i + 1)) → Ev (fun k => g k (i : Int)) (F (l[i] :: l.drop (i + 1)) i)) :
    Ev (fun k => g k 0) (F l 0) := by
  have key : ∀ i, i ≤ l.length → Ev (fun k => g k (i : Int)) (F (l.drop i) i) := by
    refine down ?_ ?_
    · rw [List.drop_of_length_le (Nat.le_refl _)]
      exact Ev.step (f := fun _ => some (F [] l.length)) (fun k => hstop k) (Ev.now _)
    · intro i hi ih
      rw [drop_cons hi]
      exact hstep i hi ih
  simpa using key 0 (by omega)
theorem all2_loop {α β ρ : Type} (l : List α) (m : List β) (hm : m.length = l.length) (g : Nat → Int → Option ρ) (F : List α → List β → ρ)
    (hstop : ∀ k, g (k + 1) l.length = some (F [] []))
    (hstep : ∀ (i : Nat) (h : i < l.length) (h' : i < m.length), Ev (fun k => g k ((i + 1 : Nat) : Int)) (F (l.drop (i + 1)) (m.drop (i + 1))) → Ev (fun k => g k (i : Int)) (F (l[i] :: l.drop (i + 1)) (m[i] :: m.drop (i + 1)))) :
    Ev (fun k => g k 0) (F l m) := by
  have key : ∀ i, i ≤ l.length → Ev (fun k => g k (i : Int)) (F (l.drop i) (m.drop i)) := by
    refine down ?_ ?_
    · rw [List.drop_of_length_le (Nat.le_refl _), List.drop_of_length_le (by omega)]
      exact Ev.step (f := fun _ => some (F [] [])) (fun k => hstop k) (Ev.now _)
    · intro i hi ih
      rw [drop_cons hi, drop_cons (l := m) (by omega)]
      exact hstep i hi (by omega) ih
  simpa using key 0 (by omega)
end Go.Proofs.Ytmkpoldhgdbjiaa.Pln

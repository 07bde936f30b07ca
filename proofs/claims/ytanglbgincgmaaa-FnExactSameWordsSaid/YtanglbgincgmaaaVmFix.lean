/-
  Plain laws: rounds that settle; the least numbers of a row of rules.
-/
import Derived.Test.YtanglbgincgmaaaVmPA
namespace Go.Proofs.Ytanglbgincgmaaa.Vm
open Go Go.RowKit Go.Proofs
set_option linter.unusedVariables false
/-- So many rounds. -/
def iterN {σ : Type} (f : σ → σ) : Nat → σ → σ
  | 0, s => s
  | n + 1, s => iterN f n (f s)
theorem iterN_succ {σ : Type} (f : σ → σ) (n : Nat) (s : σ) : iterN f (n + 1) s = f (iterN f n s) := by
  induction n generalizing s with
  | zero => rfl
  | succ n ih => rw [iterN, ih, iterN]
theorem iterN_fix {σ : Type} (f : σ → σ) (n : Nat) (s : σ) (h : f s = s) : iterN f n s = s := by
  induction n with
  | zero => rfl
  | succ n ih => rw [iterN, h, ih]
theorem iterN_inv {σ : Type} {f : σ → σ} {Inv : σ → Prop} (hI : ∀ s, Inv s → Inv (f s)) (n : Nat) (s : σ) (h : Inv s) : Inv (iterN f n s) := by
  induction n generalizing s with
  | zero => exact h
  | succ n ih => exact ih _ (hI s h)
/-- Where each round that turns something makes a number less, as many rounds do as that number says. -/
theorem settle {σ : Type} {f : σ → σ} {Inv : σ → Prop} {μ : σ → Nat} (hI : ∀ s, Inv s → Inv (f s)) (hd : ∀ s, Inv s → f s ≠ s → μ (f s) < μ s) : ∀ (d : Nat) (s : σ), Inv s → μ s ≤ d → f (iterN f d s) = iterN f d s := by
  intro d
  induction d with
  | zero =>
    intro s hs h
    by_cases he : f s = s
    · exact he
    · have := hd s hs he; omega
  | succ d ih =>
    intro s hs h
    by_cases he : f s = s
    · rw [iterN_fix f _ s he]; exact he
    · have := hd s hs he
      exact ih _ (hI s hs) (by omega)
/-- A loop that goes on till nothing turns. -/
theorem settleLoop {σ ρ : Type} {f : σ → σ} {Inv : σ → Prop} {μ : σ → Nat} (hI : ∀ s, Inv s → Inv (f s)) (hd : ∀ s, Inv s → f s ≠ s → μ (f s) < μ s) (L : σ → Option ρ) (fin : σ → ρ) (hy : ∀ s, Inv s → f s = s → L s = some (fin s)) (hn : ∀ s, Inv s → f s ≠ s → L s = L (f s)) : ∀ (d : Nat) (s : σ), Inv s → μ s ≤ d → L s = some (fin (iterN f d s)) := by
  intro d
  induction d with
  | zero =>
    intro s hs h
    by_cases he : f s = s
    · exact hy s hs he
    · have := hd s hs he; omega
  | succ d ih =>
    intro s hs h
    by_cases he : f s = s
    · rw [iterN_fix f _ s he]; exact hy s hs he
    · have := hd s hs he
      rw [hn s hs he, ih _ (hI s hs) (by omega)]
      rfl
theorem iterN_more {σ : Type} {f : σ → σ} {d : Nat} {s : σ} (h : f (iterN f d s) = iterN f d s) (e : Nat) : iterN f (d + e) s = iterN f d s := by
  induction e with
  | zero => rfl
  | succ e ih => rw [Nat.add_succ, iterN_succ, ih, h]
theorem countP_lt {α : Type} {p q : α → Bool} : ∀ {l : List α}, (∀ x ∈ l, p x = true → q x = true) → (∃ x ∈ l, q x = true ∧ p x = false) → l.countP p < l.countP q := by
  intro l
  induction l with
  | nil => rintro _ ⟨x, h, _⟩; cases h
  | cons y l ih =>
    rintro h ⟨x, hx, h1, h2⟩
    have hle : l.countP p ≤ l.countP q := List.countP_mono_left (fun z hz => h z (List.mem_cons_of_mem _ hz))
    rw [List.countP_cons, List.countP_cons]
    rcases List.mem_cons.1 hx with rfl | hx
    · rw [h1, h2]; simp; omega
    · have := ih (fun z hz => h z (List.mem_cons_of_mem _ hz)) ⟨x, hx, h1, h2⟩
      have h3 := h y List.mem_cons_self
      cases hp : p y with
      | false => simp; omega
      | true => rw [h3 hp]; simp; omega

/-! Least numbers. -/
def lv (v : List Int) (p : Nat) : Int := v.getD p 0
theorem lv_set (v : List Int) (k p : Nat) (x : Int) (hk : k < v.length) : lv (v.set k x) p = if p = k then x else lv v p := by
  unfold lv
  rw [List.getD_eq_getElem?_getD, List.getD_eq_getElem?_getD, List.getElem?_set]
  by_cases h : p = k
  · subst h; simp [hk]
  · have : ¬ k = p := fun e => h e.symm
    simp [h, this]
end Go.Proofs.Ytanglbgincgmaaa.Vm

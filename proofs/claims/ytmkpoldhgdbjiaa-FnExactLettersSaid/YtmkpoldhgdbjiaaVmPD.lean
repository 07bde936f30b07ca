/-
  Plain laws: grammars of the laws' rows.
-/
import Derived.Test.YtmkpoldhgdbjiaaVmPC
namespace Go.Proofs.Ytmkpoldhgdbjiaa.Vm
open Go Go.RowKit Go.Proofs
set_option linter.unusedVariables false
theorem cntL_max {α : Type} {cnt : α → Nat} {M : Nat} : ∀ {l : List α}, (∀ x ∈ l, cnt x ≤ M) → cntL cnt l ≤ l.length * M := by
  intro l
  induction l with
  | nil => intro _; simp [cntL]
  | cons x l ih =>
    intro h
    rw [cntL_cons, List.length_cons, Nat.succ_mul]
    have h1 := h x List.mem_cons_self
    have h2 := ih (fun y hy => h y (List.mem_cons_of_mem _ hy))
    omega
theorem gOk_cnt {g : List (List (List Int))} (h : gOk g) : cntL (cntL List.length) g ≤ 1152921504606846976 := by
  have h1 : ∀ x ∈ g, cntL List.length x ≤ 1048576 * 1048576 := fun x hx => Nat.le_trans (cntL_max (h.2 x hx).2) (Nat.mul_le_mul_right _ (h.2 x hx).1)
  exact Nat.le_trans (cntL_max h1) (Nat.mul_le_mul_right _ h.1)
/-- Marks in a grammar are found again. -/
theorem marks {g : List (List (List Int))} (h : gOk g) : ∃ (n : Int) (g' : List (List (List Int))), 0 < n ∧ p_laws_markIntSSS g 1 = some (n, g') ∧ p_laws_heldGram g' 1 = some n := by
  have hc := gOk_cnt h
  obtain ⟨g', h1, h2⟩ := markIntSSS_ok g h 1 (by omega) (by omega)
  have hn : ¬ (1 + ((cntL (cntL List.length) g : Nat) : Int) < 0) := by omega
  exact ⟨_, g', by omega, h1, by unfold p_laws_heldGram; simp [h2, hn]⟩
def rowG (x : List (List (List Int))) : Prop := x.length * 24 ≤ 140737488351232 ∧ ∀ y0 ∈ x, (y0.length * 24 ≤ 140737488351232 ∧ ∀ y1 ∈ y0, (y1.length * 8 ≤ 140737488351232 ∧ ∀ y2 ∈ y1, (Lit.int .i64 y2).wf = true))
theorem wf64 {s : Int} (h : (Lit.int .i64 s).wf = true) : -9223372036854775808 ≤ s ∧ s ≤ 9223372036854775807 := by
  simp [Lit.wf, IntKind.min, IntKind.max, IntKind.bits, IntKind.signed] at h
  omega
theorem rowG_wf {x : List (List (List Int))} (h : rowG x) : gWf x := fun a ha b hb c hc => wf64 (((h.2 a ha).2 b hb).2 c hc)
theorem sized {x : List (List (List Int))} (h : rowG x) : ∃ r, p_laws_szGram x 1048576 = some r ∧ (r < 0 ∨ (0 ≤ r ∧ gOk x)) :=
  szGram_ok (by have := h.1; omega) (fun y hy => by have := (h.2 y hy).1; omega) (fun y hy z hz => by have := ((h.2 y hy).2 z hz).1; omega)
end Go.Proofs.Ytmkpoldhgdbjiaa.Vm

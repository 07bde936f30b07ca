/-
  Plain laws: grammars of the laws' rows.
-/
import Derived.Test.YtanglbgincgmaaaVmPC
namespace Go.Proofs.Ytanglbgincgmaaa.Vm
open Go Go.RowKit Go.Proofs
set_option linter.unusedVariables false
def rowG (x : List (List (List Int))) : Prop := x.length * 24 ≤ 140737488351232 ∧ ∀ y0 ∈ x, (y0.length * 24 ≤ 140737488351232 ∧ ∀ y1 ∈ y0, (y1.length * 8 ≤ 140737488351232 ∧ ∀ y2 ∈ y1, (Lit.int .i64 y2).wf = true))
theorem wf64 {s : Int} (h : (Lit.int .i64 s).wf = true) : -9223372036854775808 ≤ s ∧ s ≤ 9223372036854775807 := by
  simp [Lit.wf, IntKind.min, IntKind.max, IntKind.bits, IntKind.signed] at h
  omega
theorem rowG_wf {x : List (List (List Int))} (h : rowG x) : gWf x := fun a ha b hb c hc => wf64 (((h.2 a ha).2 b hb).2 c hc)
theorem sized {x : List (List (List Int))} (h : rowG x) : ∃ r, p_laws_szGram x 1048576 = some r ∧ (r < 0 ∨ (0 ≤ r ∧ gOk x)) :=
  szGram_ok (by have := h.1; omega) (fun y hy => by have := (h.2 y hy).1; omega) (fun y hy z hz => by have := ((h.2 y hy).2 z hz).1; omega)
end Go.Proofs.Ytanglbgincgmaaa.Vm

/-
  The small machine is true to the model: operations that make no memory.
-/
import Derived.Test.YtanglbgincgmaaaVmExec
import Derived.Laws.Entries
import Derived.Laws.Cells
namespace Go.Proofs.Ytanglbgincgmaaa.Vm
open Go Go.RowKit
set_option linter.unusedVariables false

def Tms (z : Nat → Nat) (S : St) (m : Mp) (w : World) (tmps : Array Value) : Prop := ∀ t tv, look S.tm t = some tv → RTV z S.mem S.ep m w tv (tmps.getD t undef)

/-- What a step leaves. -/
def Res (z : Nat → Nat) (B : Nat) (w0 : World) (S : St) (m : Mp) (w : World) (r : TV × Mem × Nat) (v : Value) (w' : World) : Prop :=
  ∃ m', RTV z r.2.1 r.2.2 m' w' r.1 v ∧ Good z B w0 r.2.1 r.2.2 m' w' ∧ Evo S.ep r.2.2 S.mem r.2.1 m m' w w'

section
variable {P : Program} {S : St} {m : Mp} {w w0 : World} {a : Act} {z : Nat → Nat} {B : Nat}

theorem Res.same (hg : Good z B w0 S.mem S.ep m w) {tv : TV} {v : Value} (h : RTV z S.mem S.ep m w tv v) : Res z B w0 S m w (tv, S.mem, S.ep) v w := ⟨m, h, hg, Evo.refl⟩

theorem lift_rtv {mem : Mem} {ep : Nat} {v : Value} {tv : TV} (h : lift v = some tv) : RTV z mem ep m w tv v := by
  cases v <;> simp only [lift] at h
  case agg cs =>
    split at h
    · rename_i hc
      simp only [Option.some.injEq] at h
      subst h
      refine .agg (by simp) (fun j u y h1 h2 => ?_)
      rw [List.getElem?_map] at h1
      obtain ⟨y', h3, rfl⟩ := Option.map_eq_some_iff.1 h1
      have : y' = y := by
        have : cs.toList[j]? = cs[j]? := by simp
        rw [this, h2] at h3
        exact (Option.some.inj h3).symm
      subst this
      exact .lit (List.all_eq_true.1 hc _ (List.mem_of_getElem? h3))
    · cases h
  case tuple => cases h
  all_goals
    simp only [Option.some.injEq] at h
    subst h
    exact .one (.lit rfl)
theorem ev_rtv (hT : Tms z S m w a.tmps) {x : Operand} {tv : TV} (h : ev S x = some tv) : RTV z S.mem S.ep m w tv (a.eval x) := by
  cases x with
  | tmp t => exact hT t tv h
  | const v => exact lift_rtv h
  | func f =>
    simp only [ev, Option.some.injEq] at h
    subst h
    exact .one (.lit rfl)
  | global g => simp [ev] at h
theorem ev1_rv (hT : Tms z S m w a.tmps) {x : Operand} {v : V} (h : ev1 S x = some v) : RV z S.mem S.ep m w v (a.eval x) := by
  unfold ev1 at h
  split at h
  · rename_i v' he
    simp only [Option.some.injEq] at h
    subst h
    have := ev_rtv hT he
    cases this with
    | one h => exact h
  · cases h
theorem evL_eq (hT : Tms z S m w a.tmps) {x : Operand} {v : Value} (h : evL S x = some v) : a.eval x = v ∧ v.oneCell' = true := by
  unfold evL at h
  split at h
  · rename_i v' he
    simp only [Option.some.injEq] at h
    subst h
    have h1 := ev1_rv hT he
    generalize hy : a.eval x = y at h1
    cases h1 with
    | lit h => exact ⟨rfl, h⟩
  · cases h

theorem run_value {s : Sem Value} {v : Value} {w w' : World} (h : s.run P w = .ok v w') : (do let x ← s; pure (Next.value x) : Sem Next).run P w = .ok (.value v) w' := by
  simp [h]
theorem cells_rtv {mem : Mem} {ep : Nat} {tv : TV} {y : Value} {cs : List V} (h : RTV z mem ep m w tv y) (hc : tv.cells = some cs) : y.cells.size = cs.length ∧ ∀ (j : Nat) (u : V) (x : Value), cs[j]? = some u → y.cells[j]? = some x → RV z mem ep m w u x := by
  cases h with
  | one h =>
    simp only [TV.cells, Option.some.injEq] at hc
    subst hc
    have h1 := h.one_cell
    rename_i v
    have hy : y.cells = #[y] := by cases y <;> first | rfl | cases h1
    rw [hy]
    refine ⟨rfl, fun j u x h2 h3 => ?_⟩
    cases j with
    | zero => simp at h2 h3; subst h2; subst h3; exact h
    | succ j => simp at h2
  | agg hs h =>
    simp only [TV.cells, Option.some.injEq] at hc
    subst hc
    exact ⟨hs, h⟩
  | tup => simp [TV.cells] at hc
end
end Go.Proofs.Ytanglbgincgmaaa.Vm

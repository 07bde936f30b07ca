/-
  More rules: rest and quotient, kinds of integers.
-/
import Derived.Test.YtjdhdpbdaabdmaaDoorVmSim
namespace Go.Proofs.YtjdhdpbdaabdmaaDoor.Vm
open Go Go.RowKit Go.Proofs
set_option linter.unusedVariables false
set_option linter.unusedSimpArgs false
theorem quiet_bind {α β : Type} (P : Program) (s : Sem α) (f : α → Sem β) : quiet P (s >>= f) = (quiet P s).bind fun a => quiet P (f a) := by
  show quiet P (Sem.bind s f) = _
  induction s with
  | pure a => rfl
  | program k ih => exact ih P
  | _ => rfl
theorem quiet_und {P : Program} {t : TypeId} {d : TypeDesc} (h : P.underlying t = some d) : quiet P (underlying t) = some d := by
  unfold underlying
  show quiet P (Sem.bind program _) = _
  simp only [program, Sem.bind, quiet, h]
  rfl
section
variable (P : Program) (T : Nat) (x y : Operand) (k : IntKind) (a b : Int)
@[simp] theorem b_rem (h : b ≠ 0) : binV P .rem T x y (.int k a) (.int k b) = some (.int k (a.tmod b)) := by
  show quiet P (do eqGuard .rem T x y (.int k a) (.int k b); binOp .rem T (.int k a) (.int k b)) = _
  simp only [eqGuard, binOp, Op.intDiv, if_neg h]
  simp [quiet, Bind.bind, Pure.pure, Sem.bind]
@[simp] theorem b_quo (h : b ≠ 0) : binV P .quo T x y (.int k a) (.int k b) = some (.int k (k.wrap (a.tdiv b))) := by
  show quiet P (do eqGuard .quo T x y (.int k a) (.int k b); binOp .quo T (.int k a) (.int k b)) = _
  simp only [eqGuard, binOp, Op.intDiv, if_neg h]
  simp [quiet, Bind.bind, Pure.pure, Sem.bind]
theorem c_int {src dst : Nat} {d : TypeDesc} {k' : IntKind} (hs : P.underlying src = some d) (hd : P.underlying dst = some (.int k')) : convV P src dst (.int k a) = some (.int k' (k'.wrap a)) := by
  unfold convV convert
  rw [quiet_bind, quiet_und hs, Option.bind_some, quiet_bind, quiet_und hd, Option.bind_some]
  rfl
end
@[simp] theorem b_eqk (P : Program) (T : Nat) (x y : Operand) (k : IntKind) (a b : Int) : binV P .eql T x y (.int k a) (.int k b) = some (.bool (a == b)) := by cases k <;> rfl
@[simp] theorem b_nek (P : Program) (T : Nat) (x y : Operand) (k : IntKind) (a b : Int) : binV P .neq T x y (.int k a) (.int k b) = some (.bool (a != b)) := by cases k <;> rfl
theorem wrap_u8 {n : Int} (h1 : 0 ≤ n) (h2 : n ≤ 255) : IntKind.u8.wrap n = n := by
  unfold IntKind.wrap
  simp [IntKind.bits, IntKind.signed]
  omega
theorem wf_i64 {s : Int} (h : (Lit.int .i64 s).wf = true) : -9223372036854775808 ≤ s ∧ s ≤ 9223372036854775807 := by
  simp [Lit.wf, IntKind.min, IntKind.max, IntKind.bits, IntKind.signed] at h
  omega
end Go.Proofs.YtjdhdpbdaabdmaaDoor.Vm

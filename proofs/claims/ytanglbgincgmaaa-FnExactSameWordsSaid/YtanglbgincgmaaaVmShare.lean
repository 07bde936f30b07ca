/-
  The small machine: an own slice that is handed on beside what is handed over is read alone from then on.
-/
import Derived.Test.YtanglbgincgmaaaVmRec
namespace Go.Proofs.Ytanglbgincgmaaa.Vm
open Go Go.RowKit
set_option linter.unusedVariables false

def shArg : TV → Mem → TV × Mem
  | .one (.ow id hv), mem => match rowsH mem id hv with
    | some b => (.one (.sl false b.2.1 (erRows b.2.2)), mem.set id none)
    | none => (.one (.ow id hv), mem)
  | v, mem => (v, mem)
def shArgs : List TV → Mem → List TV × Mem
  | [], mem => ([], mem)
  | v :: r, mem => ((shArg v mem).1 :: (shArgs r (shArg v mem).2).1, (shArgs r (shArg v mem).2).2)
def shI (I : ICon) : ICon := fun vs mem ep => match vs with
  | x :: rest => I (x :: (shArgs rest mem).1) (shArgs rest mem).2 ep
  | [] => none
section
variable {z : Nat → Nat} {B : Nat} {w0 w : World} {mem : Mem} {ep : Nat} {m : Mp}
theorem shArg_ok (hg : Good z B w0 mem ep m w) (v : TV) : ∃ m1, Good z B w0 (shArg v mem).2 ep m1 w ∧ Evo ep ep mem (shArg v mem).2 m m1 w w ∧ ∀ y, RTV z mem ep m w v y → RTV z (shArg v mem).2 ep m1 w (shArg v mem).1 y := by
  unfold shArg
  split
  · rename_i id hv
    split
    · rename_i b hb
      obtain ⟨m1, h1, h2, h3⟩ := free_good hg hb
      refine ⟨m1, h1, h2, fun y hy => ?_⟩
      cases hy with
      | one hy =>
        cases hy with
        | ow _ _ h5 =>
          rw [h5 _ _ _ (rowsH_some hb)]
          exact .one h3
    · exact ⟨m, hg, Evo.refl, fun y hy => hy⟩
  · exact ⟨m, hg, Evo.refl, fun y hy => hy⟩
theorem shArgs_len : ∀ (vs : List TV) (mem : Mem), (shArgs vs mem).1.length = vs.length
  | [], _ => rfl
  | v :: r, mem => by simp [shArgs, shArgs_len r]
theorem shArgs_ok : ∀ (vs : List TV) {mem : Mem} {m : Mp}, Good z B w0 mem ep m w → ∃ m1, Good z B w0 (shArgs vs mem).2 ep m1 w ∧ Evo ep ep mem (shArgs vs mem).2 m m1 w w ∧ ∀ (ys : List Value), ys.length = vs.length → (∀ (j : Nat) (v : TV) (y : Value), vs[j]? = some v → ys[j]? = some y → RTV z mem ep m w v y) → ∀ (j : Nat) (v : TV) (y : Value), (shArgs vs mem).1[j]? = some v → ys[j]? = some y → RTV z (shArgs vs mem).2 ep m1 w v y
  | [], mem, m, hg => ⟨m, hg, Evo.refl, fun ys _ h j v y a => by simp [shArgs] at a⟩
  | v :: r, mem, m, hg => by
    obtain ⟨m1, h1, h2, h3⟩ := shArg_ok hg v
    obtain ⟨m2, i1, i2, i3⟩ := shArgs_ok r h1
    refine ⟨m2, i1, h2.trans i2, fun ys hl h j u y a c => ?_⟩
    cases ys with
    | nil => simp at hl
    | cons y0 ys =>
      cases j with
      | zero =>
        simp only [shArgs, List.getElem?_cons_zero, Option.some.injEq] at a c
        subst a
        subst c
        exact (h3 _ (h 0 v y0 rfl rfl)).evo i2
      | succ j =>
        simp only [shArgs, List.getElem?_cons_succ] at a c
        exact i3 ys (by simpa using hl) (fun j v y a c => (h (j + 1) v y (by simpa using a) (by simpa using c)).evo h2) j u y a c
end
theorem IFn.share {P : Program} {g : Nat} {I : ICon} {J : World → Prop} (h : IFn P g I J) : IFn P g (shI I) J := by
  refine ⟨h.1, fun w0 hJ vs mem ep r hr m w ys hg hl ha => ?_⟩
  unfold shI at hr
  split at hr
  · rename_i x rest
    obtain ⟨m1, h1, h2, h3⟩ := shArgs_ok rest hg
    have hl' : ys.size = rest.length + 1 := by simpa using hl
    obtain ⟨y0, ys', hys⟩ : ∃ y0 ys', ys.toList = y0 :: ys' := by
      cases hq : ys.toList with
      | nil => rw [← Array.length_toList, hq] at hl'; simp at hl'
      | cons a b => exact ⟨a, b, rfl⟩
    have hyl : ys'.length = rest.length := by
      have : ys.toList.length = rest.length + 1 := by rw [Array.length_toList, hl']
      rw [hys] at this; simpa using this
    have hget : ∀ j, ys[j]? = (y0 :: ys')[j]? := fun j => by rw [← hys, Array.getElem?_toList]
    have h4 := h3 ys' hyl (fun j v y a c => ha (j + 1) v y (by simpa using a) (by rw [hget]; simpa using c))
    refine (h.2 w0 hJ _ _ ep r hr m1 w ys h1 (by simp [shArgs_len, hl']) (fun j v y a c => ?_)).mono fun ex w' he => ?_
    · cases j with
      | zero => simp at a; subst a; exact (ha 0 x y rfl c).evo h2
      | succ j => exact h4 j v y (by simpa using a) (by rw [hget] at c; simpa using c)
    · obtain ⟨v, rfl, m', t1, t2, t3⟩ := he
      exact ⟨v, rfl, m', t1, t2, h2.trans t3⟩
  · cases hr
@[simp] theorem erRows_lit (v : Value) (l : List (List V)) : erRows ([V.lit v] :: l) = [V.lit v] :: erRows l := rfl
@[simp] theorem erRows_nil0 : erRows [] = [] := rfl
@[simp] theorem flatRow_lit (v : Value) : flatRow [V.lit v] = true := rfl
@[simp] theorem shI_cons (I : ICon) (x : TV) (rest : List TV) (mem : Mem) (ep : Nat) : shI I (x :: rest) mem ep = I (x :: (shArgs rest mem).1) (shArgs rest mem).2 ep := rfl
@[simp] theorem shArgs_nil (mem : Mem) : shArgs [] mem = ([], mem) := rfl
@[simp] theorem shArgs_cons (v : TV) (r : List TV) (mem : Mem) : shArgs (v :: r) mem = ((shArg v mem).1 :: (shArgs r (shArg v mem).2).1, (shArgs r (shArg v mem).2).2) := rfl
@[simp] theorem shArg_lit (v : Value) (mem : Mem) : shArg (.one (.lit v)) mem = (.one (.lit v), mem) := rfl
@[simp] theorem shArg_sl (o : Bool) (e : Nat) (r : List (List V)) (mem : Mem) : shArg (.one (.sl o e r)) mem = (.one (.sl o e r), mem) := rfl
@[simp] theorem shArg_rp (r : List V) (o : Nat) (mem : Mem) : shArg (.one (.rp r o)) mem = (.one (.rp r o), mem) := rfl
@[simp] theorem shArg_cl (g : Nat) (r : List V) (mem : Mem) : shArg (.one (.cl g r)) mem = (.one (.cl g r), mem) := rfl
@[simp] theorem shArg_agg (r : List V) (mem : Mem) : shArg (.agg r) mem = (.agg r, mem) := rfl
@[simp] theorem shArg_ow (id hv : Nat) (mem : Mem) : shArg (.one (.ow id hv)) mem = match rowsH mem id hv with
  | some b => (.one (.sl false b.2.1 (erRows b.2.2)), mem.set id none)
  | none => (.one (.ow id hv), mem) := rfl
end Go.Proofs.Ytanglbgincgmaaa.Vm

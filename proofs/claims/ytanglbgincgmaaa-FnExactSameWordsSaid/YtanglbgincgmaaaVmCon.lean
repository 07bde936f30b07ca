/-
  Contracts that are told by their arguments; rows of rows of numbers.
-/
import Derived.Test.YtanglbgincgmaaaVmRun
namespace Go.Proofs.Ytanglbgincgmaaa.Vm
open Go Go.RowKit
set_option linter.unusedVariables false

open Classical in
/-- What is told of a function: arg a: its arguments, where ok a: what comes back. -/
noncomputable def con {α : Type} (arg : α → List TV) (ok : α → Prop) (res : α → Sh × List V) : Con := fun vs => if h : ∃ a, arg a = vs ∧ ok a then some (res h.choose) else none
theorem con_at {α : Type} {arg : α → List TV} {ok : α → Prop} {res : α → Sh × List V} (inj : ∀ a b, arg a = arg b → a = b) {a : α} (h : ok a) : con arg ok res (arg a) = some (res a) := by
  have hex : ∃ b, arg b = arg a ∧ ok b := ⟨a, rfl, h⟩
  unfold con
  rw [dif_pos hex, inj _ _ hex.choose_spec.1]
theorem con_of {α : Type} {arg : α → List TV} {ok : α → Prop} {res : α → Sh × List V} {vs : List TV} {r : Sh × List V} (h : con arg ok res vs = some r) : ∃ a, vs = arg a ∧ ok a ∧ r = res a := by
  unfold con at h
  split at h
  · rename_i hex
    simp only [Option.some.injEq] at h
    exact ⟨hex.choose, hex.choose_spec.1.symm, hex.choose_spec.2, h.symm⟩
  · cases h
def tabOf : List (Nat × Con) → Nat → Option Con
  | [], _ => none
  | (k, F) :: r, g => if k = g then some F else tabOf r g
theorem tabOf_ok {P : Program} {J : World → Prop} : ∀ (l : List (Nat × Con)), (∀ p ∈ l, Fn P p.1 p.2 J) → ∀ g F, tabOf l g = some F → Fn P g F J := by
  intro l
  induction l with
  | nil => intro _ g F h; cases h
  | cons p l ih =>
    intro hl g F h
    obtain ⟨k, F'⟩ := p
    simp only [tabOf] at h
    split at h
    · rename_i he
      subst he
      simp only [Option.some.injEq] at h
      subst h
      exact hl _ List.mem_cons_self
    · exact ih (fun p hp => hl p (List.mem_cons_of_mem _ hp)) g F h
/-- A function does as is told, if its body's run says so. -/
theorem Fn.con {P : Program} {α : Type} {arg : α → List TV} {ok : α → Prop} {res : α → Sh × List V} (l : List (Nat × Con)) {J : World → Prop} (hl : ∀ p ∈ l, Fn P p.1 p.2 J) (hm : P.follows .mixedOrders = true) {g : Nat} {fn : Func} {c : Code} (hf : P.funcs[g]? = some fn) (hn : (fn.name == "runtime.NumGoroutine") = false) (hb : fn.body = some c) (hd : dsts fn.ntmps c = true) (np : Nat) (hnp : np ≤ fn.ntmps) (harg : ∀ a, (arg a).length = np) (lm : Nat → List Nat × Nat)
    (h : ∀ a, ok a → ∃ k, told P (tabCal (tabOf l)) k lm fn (arg a) = some (res a)) (hst : Stab J := by exact stab_true) : Fn P g (Vm.con arg ok res) J :=
  Fn.of_body (fun w0 h0 => tabCal_ok hst (tabOf_ok l hl) h0) hm hf hn hb hd hnp (fun vs r hr => by
    obtain ⟨a, rfl, ha, rfl⟩ := con_of hr
    exact ⟨harg a, h a ha⟩)

@[simp] theorem ints_inj {a b : List Int} : ints a = ints b ↔ a = b := by
  constructor
  · intro h
    have := congrArg deInts h
    rw [deInts_ints, deInts_ints] at this
    exact Option.some.inj this
  · rintro rfl; rfl
/-- Rows of slices of numbers. -/
def ints2 (own : Bool) (l : List (List Int)) : List (List V) := l.map fun r => [.sl own 3 (ints r)]
/-- And of slices of those; e: their type's number. -/
def ints3 (own : Bool) (e : Nat) (l : List (List (List Int))) : List (List V) := l.map fun r => [.sl own e (ints2 own r)]
theorem ints2_get {own : Bool} {l : List (List Int)} {i : Nat} {x : List Int} (h : l[i]? = some x) : (ints2 own l)[i]? = some [.sl own 3 (ints x)] := by simp [ints2, h]
theorem ints3_get {own : Bool} {e : Nat} {l : List (List (List Int))} {i : Nat} {x : List (List Int)} (h : l[i]? = some x) : (ints3 own e l)[i]? = some [.sl own e (ints2 own x)] := by simp [ints3, h]
theorem ints2_len (own : Bool) (l : List (List Int)) : (ints2 own l).length = l.length := by simp [ints2]
theorem ints3_len (own : Bool) (e : Nat) (l : List (List (List Int))) : (ints3 own e l).length = l.length := by simp [ints3]
theorem map_inj' {α β : Type} {f : α → β} (hf : ∀ a b, f a = f b → a = b) : ∀ (a b : List α), a.map f = b.map f → a = b := by
  intro a
  induction a with
  | nil => intro b h; cases b with | nil => rfl | cons => simp at h
  | cons x a ih =>
    intro b h
    cases b with
    | nil => simp at h
    | cons y b => simp only [List.map_cons, List.cons.injEq] at h; rw [hf _ _ h.1, ih b h.2]
@[simp] theorem ints2_inj {own : Bool} {a b : List (List Int)} : ints2 own a = ints2 own b ↔ a = b :=
  ⟨map_inj' (fun a b h => by simpa using h) a b, fun h => by rw [h]⟩
@[simp] theorem ints3_inj {own : Bool} {e : Nat} {a b : List (List (List Int))} : ints3 own e a = ints3 own e b ↔ a = b :=
  ⟨map_inj' (fun a b h => by simpa using h) a b, fun h => by rw [h]⟩
theorem erRows_ints (l : List Int) : erRows (ints l) = ints l := by simp [erRows_map, ints, V.er]
theorem erRows_ints2 (own : Bool) (l : List (List Int)) : erRows (ints2 own l) = ints2 false l := by
  cases own <;> simp [erRows_map, ints2, V.er, erRows_ints] <;> intro a _ <;> simpa [erRows_map] using erRows_ints a
theorem pure_ints (l : List Int) : pureRows (ints l) = true := by
  induction l with
  | nil => rfl
  | cons x l ih => simpa [ints, pureRows, pureRow, pure0] using ih
theorem pure_ints2 (l : List (List Int)) : pureRows (ints2 true l) = true := by
  induction l with
  | nil => rfl
  | cons x l ih => simpa [ints2, pureRows, pureRow, pure0, pure_ints] using ih
theorem pure_ints3 (e : Nat) (l : List (List (List Int))) : pureRows (ints3 true e l) = true := by
  induction l with
  | nil => rfl
  | cons x l ih => simpa [ints3, pureRows, pureRow, pure0, pure_ints2] using ih
end Go.Proofs.Ytanglbgincgmaaa.Vm

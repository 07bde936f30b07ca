/-
  Functions that call themselves: plain ones by rounds, and what they come to.
-/
import Derived.Test.YtanglbgincgmaaaVmPtr
namespace Go.Proofs.Ytanglbgincgmaaa.Vm
open Go Go.RowKit
set_option linter.unusedVariables false

open Classical in
/-- What all but some rounds yield. -/
noncomputable def lim {α β : Type} (p : Nat → α → Option β) (a : α) : Option β := if h : ∃ r, ∃ N, ∀ n, N ≤ n → p n a = some r then some h.choose else none
theorem lim_of {α β : Type} {p : Nat → α → Option β} {a : α} {r : β} (h : ∃ N, ∀ n, N ≤ n → p n a = some r) : lim p a = some r := by
  have hex : ∃ r, ∃ N, ∀ n, N ≤ n → p n a = some r := ⟨r, h⟩
  unfold lim
  rw [dif_pos hex]
  obtain ⟨N, hN⟩ := h
  obtain ⟨M, hM⟩ := hex.choose_spec
  have h1 := hN (N + M) (by omega)
  have h2 := hM (N + M) (by omega)
  rw [h1] at h2
  exact h2.symm
theorem lim_some {α β : Type} {p : Nat → α → Option β} {a : α} {r : β} (h : lim p a = some r) : ∃ n, p n a = some r := by
  unfold lim at h
  split at h
  · rename_i hex
    obtain ⟨M, hM⟩ := hex.choose_spec
    exact ⟨M, by rw [hM M (Nat.le_refl _)]; exact h⟩
  · cases h
theorem Fn.none0 {P : Program} {g : Nat} {J : World → Prop} {α β : Type} {arg : α → List TV} {res : β → Sh × List V} (hh : Has P g) : Fn P g (pcon arg (fun _ => none) res) J :=
  Fn.of_at hh (fun a b h => by cases h)
theorem Fn.lim {P : Program} {g : Nat} {J : World → Prop} {α β : Type} {arg : α → List TV} {p : Nat → α → Option β} {res : β → Sh × List V} (inj : ∀ a b, arg a = arg b → a = b) (h : ∀ n, Fn P g (pcon arg (p n) res) J) : Fn P g (pcon arg (Vm.lim p) res) J :=
  Fn.of_at (h 0).1 (fun a b hab => by
    obtain ⟨n, hn⟩ := lim_some hab
    exact (h n).2 _ _ (pcon_at inj hn))
theorem BFn.none0 {P : Program} {g : Nat} {bb : Bool} {J : World → Prop} {α β : Type} {H : α → List V} {arg : α → List TV} {res : β → Sh × List V × List V} (hh : Has P g) : BFn P g bb (pbcon H arg (fun _ => none) res) J :=
  BFn.of_at hh (fun a b h => by cases h)
theorem BFn.lim {P : Program} {g : Nat} {bb : Bool} {J : World → Prop} {α β : Type} {H : α → List V} {arg : α → List TV} {p : Nat → α → Option β} {res : β → Sh × List V × List V} (inj : ∀ a b, H a = H b → arg a = arg b → a = b) (h : ∀ n, BFn P g bb (pbcon H arg (p n) res) J) : BFn P g bb (pbcon H arg (Vm.lim p) res) J :=
  BFn.of_at (h 0).1 (fun a b hab => by
    obtain ⟨n, hn⟩ := lim_some hab
    exact (h n).2 _ _ _ (pbcon_at inj hn))
end Go.Proofs.Ytanglbgincgmaaa.Vm

/-
  Loops that scan a row and leave at the first that fails.
-/
import Derived.Test.YtjdhdpbdaabdmaaDoorVmCon
namespace Go.Proofs.YtjdhdpbdaabdmaaDoor.Vm
open Go Go.RowKit Go.Proofs
set_option linter.unusedVariables false
/-- From i on: all are passed (then the loop is left at its end), or one is bad (then what 'bad' says holds). -/
theorem scan {P : Program} {cal : Cal} {k n0 b : Nat} {lm : Nat → List Nat × Nat} {c : Code} {α : Type} (l : List α) (p : α → Bool) (T : Nat × Nat → St) (bad : X → St → Prop)
    (hs : ∀ i e (h : i < l.length), if p l[i] then ∃ e', kept n0 (lm b) (exec P cal k n0 lm b c (T (i, e))) = some (.norm, T (i + 1, e')) else ∃ x S', kept n0 (lm b) (exec P cal k n0 lm b c (T (i, e))) = some (x, S') ∧ x ≠ .norm ∧ bad x S')
    (he : ∀ e, kept n0 (lm b) (exec P cal k n0 lm b c (T (l.length, e))) = some (.exit b, T (l.length, e)))
    (e : Nat) (h0 : keep n0 (lm b) (T (0, e)) = T (0, e)) (hk : l.length < k) :
    ∃ x S', loopAt P cal k n0 lm b c (T (0, e)) = some (x, S') ∧ if l.all p then x = .exit b ∧ ∃ e', S' = T (l.length, e') else x ≠ .norm ∧ bad x S' := by
  obtain ⟨x, S', hloop, hQ⟩ := loop_run (P := P) (cal := cal) (k := k) (n0 := n0) (b := b) (lm := lm) (c := c) T (fun s => s.1 ≤ l.length) (fun s => l.length - s.1)
    (fun s x S' => if (l.drop s.1).all p then x = .exit b ∧ ∃ e', S' = T (l.length, e') else x ≠ .norm ∧ bad x S') (fun s q1 => by
      obtain ⟨i, e⟩ := s
      simp only at q1
      rcases Nat.lt_or_ge i l.length with hi | hi
      · have hst := hs i e hi
        have hd : (l.drop i).all p = (p l[i] && (l.drop (i + 1)).all p) := by rw [List.drop_eq_getElem_cons hi, List.all_cons]
        by_cases hp : p l[i] = true
        · rw [if_pos hp] at hst
          obtain ⟨e', h1⟩ := hst
          refine .inl ⟨_, h1, hi, by simp only; omega, fun x S' hq => ?_⟩
          simpa only [hd, hp, Bool.true_and] using hq
        · rw [if_neg hp] at hst
          obtain ⟨x, S', h1, h2, h3⟩ := hst
          have hp : p l[i] = false := by simpa using hp
          refine .inr ⟨x, S', h1, h2, ?_⟩
          simp only [hd, hp, Bool.false_and, Bool.false_eq_true, if_false]
          exact ⟨h2, h3⟩
      · obtain rfl : i = l.length := by omega
        refine .inr ⟨_, _, he e, by simp, ?_⟩
        simp only [List.drop_length, List.all_nil, if_true]
        exact ⟨trivial, e, rfl⟩) (s := (0, e)) (Nat.zero_le _) (by simp only; omega)
  simp only [List.drop_zero] at hQ
  exact ⟨x, S', hloop (T (0, e)) h0, hQ⟩
/-- Step by step to the end; what else turns (stamps) is told by some e. -/
theorem steps {P : Program} {cal : Cal} {k n0 b : Nat} {lm : Nat → List Nat × Nat} {c : Code} {σ : Type} (n : Nat) (T : Nat × σ → St)
    (hs : ∀ i e, i < n → ∃ e', kept n0 (lm b) (exec P cal k n0 lm b c (T (i, e))) = some (.norm, T (i + 1, e')))
    (he : ∀ e, kept n0 (lm b) (exec P cal k n0 lm b c (T (n, e))) = some (.exit b, T (n, e)))
    (e : σ) (h0 : keep n0 (lm b) (T (0, e)) = T (0, e)) (hk : n < k) : ∃ e', loopAt P cal k n0 lm b c (T (0, e)) = some (.exit b, T (n, e')) := by
  obtain ⟨x, S', hloop, hx, e', rfl⟩ := loop_run (P := P) (cal := cal) (k := k) (n0 := n0) (b := b) (lm := lm) (c := c) T (fun s => s.1 ≤ n) (fun s => n - s.1)
    (fun s x S' => x = .exit b ∧ ∃ e', S' = T (n, e')) (fun s q1 => by
      obtain ⟨i, e⟩ := s
      simp only at q1
      rcases Nat.lt_or_ge i n with hi | hi
      · obtain ⟨e', h1⟩ := hs i e hi
        exact .inl ⟨_, h1, hi, by simp only; omega, fun x S' hq => hq⟩
      · obtain rfl : i = n := by omega
        exact .inr ⟨_, _, he e, by simp, rfl, e, rfl⟩) (s := (0, e)) (Nat.zero_le _) (by simp only; omega)
  subst hx
  exact ⟨e', hloop (T (0, e)) h0⟩
end Go.Proofs.YtjdhdpbdaabdmaaDoor.Vm

/- Outcomes: their sizes, copies, equality, as the laws' helpers have them. -/
import Derived.Test.YtmkpoldhgdbjiaaPFnExactReplySamex3
import Derived.Test.YtmkpoldhgdbjiaaPlain
namespace Go.Proofs.Ytmkpoldhgdbjiaa.PureReplySame
open Go.RowKit Go.Proofs.YtmkpoldhgdbjiaaW.PrintWords Go.Proofs.YtmkpoldhgdbjiaaW.PrintLast Go.Proofs.YtmkpoldhgdbjiaaW.PrintMore Go.Proofs.Ytmkpoldhgdbjiaa.Pln Go.Proofs.Ytmkpoldhgdbjiaa.PFnExactReplySame
set_option linter.unusedVariables false

theorem rd54 (l : List S54) (i : Nat) (h : i < l.length) : rd_T54 l (i : Int) = l[i] := getD_nat l z54 i h
theorem rd55 (l : List S55) (i : Nat) (h : i < l.length) : rd_T55 l (i : Int) = l[i] := getD_nat l z55 i h
def cv (x : S54) : S55 := ⟨x.f0, x.f1, x.f2⟩

theorem sz_one (x : S54) (left : Int) (h0 : 0 ≤ left) (h1 : left ≤ 1048576) (h2 : x.f2.size ≤ 140737488351232) : ∃ r, laws_szOutcome.f x.f0 x.f1 x.f2 left = some r ∧ Paid left x.f2.size r := by
  unfold laws_szOutcome.f
  rw [wrap_id (by omega) (by omega)]
  by_cases h : left - (x.f2.size : Int) < 0
  · exact ⟨-1, by rw [if_pos h], .inl rfl⟩
  · exact ⟨_, by rw [if_neg h], .inr ⟨by omega, by omega⟩⟩
theorem sz_all (l : List S54) (hl : l.length * 32 ≤ 140737488351232) (hx : ∀ x ∈ l, x.f2.size ≤ 140737488351232) (left : Int) (h0 : 0 ≤ left) (h1 : left ≤ 1048576) :
    ∃ r, Ev (fun k => laws_szOutcomeS.f k l left) r ∧ Paid left (l.length + total (fun x => x.f2.size) l) r := by
  unfold laws_szOutcomeS.f
  rw [wrap_id (by omega) (by omega)]
  by_cases h : left - (l.length : Int) < 0
  · exact ⟨-1, Ev.congr (fun k => by rw [if_pos h]) (Ev.now _), .inl rfl⟩
  · obtain ⟨r, hr, hL⟩ := sz_loop l (fun x => x.f2.size) (fun k left i => laws_szOutcomeS.l0 k l left i) (fun k left => by simp only [laws_szOutcomeS.l0]; rw [if_neg (by omega)])
      (fun i hi left h0 h1 => by
        obtain ⟨r, hr, hL⟩ := sz_one l[i] left h0 h1 (hx _ (List.getElem_mem hi))
        refine ⟨r, hL, ?_, ?_⟩
        · rintro rfl
          refine Ev.step (f := fun _ => some (-1)) (fun k => ?_) (Ev.now _)
          simp only [laws_szOutcomeS.l0]
          rw [if_pos (by omega), if_pos (by omega), rd54 l i hi, hr]
          rfl
        · intro hr0 q hq
          refine Ev.step (f := fun k => laws_szOutcomeS.l0 k l r ((i + 1 : Nat) : Int)) (fun k => ?_) hq
          simp only [laws_szOutcomeS.l0]
          rw [if_pos (by omega), if_pos (by omega), rd54 l i hi, hr]
          simp only [Option.bind_some]
          rw [if_neg (by omega), wrap_next hi (by omega)])
      (left - l.length) (by omega) (by omega)
    refine ⟨r, Ev.congr (fun k => by rw [if_neg h]) hr, ?_⟩
    rcases hL with rfl | ⟨a, b⟩
    · exact .inl rfl
    · exact .inr ⟨a, by omega⟩
theorem to_all (l : List S54) (hl : l.length * 32 ≤ 140737488351232) : Ev (fun k => laws_toOutcomeS.f k l) (l.map cv) := by
  have h := to_loop l cv z55 (fun k ys i => laws_toOutcomeS.l0 k l ys i) (fun k ys hy => by simp only [laws_toOutcomeS.l0]; rw [if_neg (by omega)])
    (fun i hi ys r hy hr => by
      refine Ev.step (fun k => ?_) hr
      simp only [laws_toOutcomeS.l0, laws_toOutcome.f, Option.bind_some]
      rw [if_pos (by omega), if_pos (by omega), if_pos (by omega), rd54 l i hi, wrap_next hi (by omega)]
      rfl)
  refine Ev.congr (fun k => ?_) h
  unfold laws_toOutcomeS.f
  rw [if_pos (by omega), if_pos (by simp; omega)]
  simp
theorem eq_all (l : List S55) (hl : l.length * 32 ≤ 140737488351232) : Ev (fun k => laws_eqOutcomeS.f k l l) true := by
  have h := all_loop l (fun k i => laws_eqOutcomeS.l0 k l l i) (fun _ _ => true) (fun k => by simp only [laws_eqOutcomeS.l0]; rw [if_neg (by omega)])
    (fun i hi ih => by
      refine Ev.step (fun k => ?_) ih
      simp only [laws_eqOutcomeS.l0, laws_eqOutcome.f, if_true, Option.bind_some]
      rw [if_pos (by omega), if_pos (by omega), if_pos (by omega), wrap_next hi (by omega)])
  refine Ev.congr (fun k => ?_) h
  unfold laws_eqOutcomeS.f
  rw [if_pos rfl]
end Go.Proofs.Ytmkpoldhgdbjiaa.PureReplySame

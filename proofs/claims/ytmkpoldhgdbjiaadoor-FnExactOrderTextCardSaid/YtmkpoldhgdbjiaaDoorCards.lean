/-
  DERIVED. GIVEN WITH THE SEED: THE CARDS: each row of YtmkpoldhgdbjiaaDoorRows.lean that lists a variable, with what it lists TIED to the program's text (the seventh form; the later family's looks); each row that meets fmt, with fmt's text TOLD by the authors' own Lean function (tested against real Go, not proved from fmt's source: count such statements apart). THE CARD IS WHAT COUNTS. Prove the row's statement (the work); the ties are given (YtmkpoldhgdbjiaaDoorTie.lean); close each card by the builder's one call (the guide's Derived/Test/ToyasCard.lean, 'card_holds'). Laid BY PROGRAM, IN A SANDBOX (cutbox-door.mjs). By AI agents, Wed Nov 11 2026. No macro, syntax, notation, axiom, sorry.
-/
import Derived.Test.YtmkpoldhgdbjiaaDoorRows
import GoSem.ClaimSeven
namespace Go.Proofs.YtmkpoldhgdbjiaaDoor
namespace Rows

/-- THE TIED CARD OF 'laws.FnExactOutcomeText'. -/
def fnExactOutcomeTextCard : Claim7 := { stood := { row := fnExactOutcomeTextRow, standIns := [], harness := (true, "7dd4872f4bac0b12bb63f482d50b3d6e708bc69ea52ad1eb11b989becb4a1b48"), looks := false }, kinds := [], alts := [], laidByText := true, laidKinds := [.data, .data, .data], laidTests := true, laidLooks := .later }
def FnExactOutcomeTextCardSaid : Prop := Claim7.holds Tryd.pinned (.plain (OpenSpec.ofChange fnExactOutcomeTextSpec)) fnExactOutcomeTextCard

/-- THE TIED CARD OF 'laws.FnExactOrderText'. -/
def fnExactOrderTextCard : Claim7 := { stood := { row := fnExactOrderTextRow, standIns := [], harness := (true, "7dd4872f4bac0b12bb63f482d50b3d6e708bc69ea52ad1eb11b989becb4a1b48"), looks := false }, kinds := [], alts := [], laidByText := true, laidKinds := [.data, .data, .data], laidTests := true, laidLooks := .later }
def FnExactOrderTextCardSaid : Prop := Claim7.holds Tryd.pinned (.plain (OpenSpec.ofChange fnExactOrderTextSpec)) fnExactOrderTextCard

/-- THE SECOND FORM's CARD OF 'laws.FnExactOutcomeText'. -/
def fnExactOutcomeTextUptoCard : Claim7 := { stood := { row := fnExactOutcomeTextUptoRow, standIns := [], harness := (true, "7dd4872f4bac0b12bb63f482d50b3d6e708bc69ea52ad1eb11b989becb4a1b48"), looks := false }, kinds := [], alts := [], laidByText := true, laidKinds := [.data, .data, .data], laidTests := true, laidLooks := .later }
def FnExactOutcomeTextUptoCardSaid : Prop := Claim7.holds Tryd.pinned (.plain (OpenSpec.upto fnExactOutcomeTextSpec)) fnExactOutcomeTextUptoCard

/-- THE SECOND FORM's CARD OF 'laws.FnExactOrderText'. -/
def fnExactOrderTextUptoCard : Claim7 := { stood := { row := fnExactOrderTextUptoRow, standIns := [], harness := (true, "7dd4872f4bac0b12bb63f482d50b3d6e708bc69ea52ad1eb11b989becb4a1b48"), looks := false }, kinds := [], alts := [], laidByText := true, laidKinds := [.data, .data, .data], laidTests := true, laidLooks := .later }
def FnExactOrderTextUptoCardSaid : Prop := Claim7.holds Tryd.pinned (.plain (OpenSpec.upto fnExactOrderTextSpec)) fnExactOrderTextUptoCard
end Rows
end Go.Proofs.YtmkpoldhgdbjiaaDoor

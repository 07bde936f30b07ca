/-
  DERIVED. GIVEN WITH THE SEED: THE CARDS: each row of YtjdhdpbdaabdmaaDoorRows.lean that lists a variable, with what it lists TIED to the program's text (the seventh form; the later family's looks); each row that meets fmt, with fmt's text TOLD by the authors' own Lean function (tested against real Go, not proved from fmt's source: count such statements apart). THE CARD IS WHAT COUNTS. Prove the row's statement (the work); the ties are given (YtjdhdpbdaabdmaaDoorTie.lean); close each card by the builder's one call (the guide's Derived/Test/ToyasCard.lean, 'card_holds'). Laid BY PROGRAM, IN A SANDBOX (cutbox-door.mjs). By AI agents, Wed Nov 11 2026. No macro, syntax, notation, axiom, sorry.
-/
import Derived.Test.YtjdhdpbdaabdmaaDoorRows
import GoSem.ClaimSeven
namespace Go.Proofs.YtjdhdpbdaabdmaaDoor
namespace Rows

/-- THE TIED CARD OF 'laws.FnExactStoreText'. -/
def fnExactStoreTextCard : Claim7 := { stood := { row := fnExactStoreTextRow, standIns := [], harness := (true, "bd1e927bf7a6bad5e491e98df87aca56def555dbcfc10f8fad977a4352f21493"), looks := false }, kinds := [], alts := [], laidByText := true, laidKinds := [.data, .data, .data], laidTests := true, laidLooks := .later }
def FnExactStoreTextCardSaid : Prop := Claim7.holds Tryd.pinned (.plain (OpenSpec.ofChange fnExactStoreTextSpec)) fnExactStoreTextCard

/-- THE TIED CARD OF 'laws.FnExactJobText'. -/
def fnExactJobTextCard : Claim7 := { stood := { row := fnExactJobTextRow, standIns := [], harness := (true, "bd1e927bf7a6bad5e491e98df87aca56def555dbcfc10f8fad977a4352f21493"), looks := false }, kinds := [], alts := [], laidByText := true, laidKinds := [.data, .data, .data], laidTests := true, laidLooks := .later }
def FnExactJobTextCardSaid : Prop := Claim7.holds Tryd.pinned (.plain (OpenSpec.ofChange fnExactJobTextSpec)) fnExactJobTextCard

/-- THE TIED CARD OF 'laws.FnExactTenantText'. -/
def fnExactTenantTextCard : Claim7 := { stood := { row := fnExactTenantTextRow, standIns := [], harness := (true, "bd1e927bf7a6bad5e491e98df87aca56def555dbcfc10f8fad977a4352f21493"), looks := false }, kinds := [], alts := [], laidByText := true, laidKinds := [.data, .data, .data], laidTests := true, laidLooks := .later }
def FnExactTenantTextCardSaid : Prop := Claim7.holds Tryd.pinned (.plain (OpenSpec.ofChange fnExactTenantTextSpec)) fnExactTenantTextCard

/-- THE SECOND FORM's CARD OF 'laws.FnExactStoreText'. -/
def fnExactStoreTextUptoCard : Claim7 := { stood := { row := fnExactStoreTextUptoRow, standIns := [], harness := (true, "bd1e927bf7a6bad5e491e98df87aca56def555dbcfc10f8fad977a4352f21493"), looks := false }, kinds := [], alts := [], laidByText := true, laidKinds := [.data, .data, .data], laidTests := true, laidLooks := .later }
def FnExactStoreTextUptoCardSaid : Prop := Claim7.holds Tryd.pinned (.plain (OpenSpec.upto fnExactStoreTextSpec)) fnExactStoreTextUptoCard

/-- THE SECOND FORM's CARD OF 'laws.FnExactJobText'. -/
def fnExactJobTextUptoCard : Claim7 := { stood := { row := fnExactJobTextUptoRow, standIns := [], harness := (true, "bd1e927bf7a6bad5e491e98df87aca56def555dbcfc10f8fad977a4352f21493"), looks := false }, kinds := [], alts := [], laidByText := true, laidKinds := [.data, .data, .data], laidTests := true, laidLooks := .later }
def FnExactJobTextUptoCardSaid : Prop := Claim7.holds Tryd.pinned (.plain (OpenSpec.upto fnExactJobTextSpec)) fnExactJobTextUptoCard

/-- THE SECOND FORM's CARD OF 'laws.FnExactTenantText'. -/
def fnExactTenantTextUptoCard : Claim7 := { stood := { row := fnExactTenantTextUptoRow, standIns := [], harness := (true, "bd1e927bf7a6bad5e491e98df87aca56def555dbcfc10f8fad977a4352f21493"), looks := false }, kinds := [], alts := [], laidByText := true, laidKinds := [.data, .data, .data], laidTests := true, laidLooks := .later }
def FnExactTenantTextUptoCardSaid : Prop := Claim7.holds Tryd.pinned (.plain (OpenSpec.upto fnExactTenantTextSpec)) fnExactTenantTextUptoCard
end Rows
end Go.Proofs.YtjdhdpbdaabdmaaDoor

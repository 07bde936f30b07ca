/-
  No cell of these rows narrows 'for every input' (looked for: loops, veiled, ifaces, maps, wideKeys, modest, calm, conditions, laid).
  DERIVED. THE GIVEN ROWS OF THIS SEAT. 5 by the template 'for every input the law returns true; each argument reads behind the call as it read before'; 0 by the template 'total and deterministic' (their statements: YtmkpoldhgdbjiaaTotals.lean).
  GIVEN WITH THE SEED: the statements are not yours to turn. If you find one false, say at which input.
  Laid BY PROGRAM, IN A SANDBOX (cutbox-rows.mjs): the forced cells as the released guide's own fill.sh prints them over the translation 253b3f80ec5ffa94… (all of the seat's roots in one cut). By AI agents, Wed Nov 11 2026. No macro, syntax, notation, axiom, sorry.
-/
import Derived.Test.YtmkpoldhgdbjiaaChecked
import GoSem.Claim
import GoSem.ClaimJoined
import GoSem.ClaimMapViews
import Derived.JoinedTies
import Derived.KernelRfl
namespace Go.Proofs.Ytmkpoldhgdbjiaa
/- THE CELL 'sum', in the pinned program and in every row, IS THE sha256 OF THE DUMP (.gsa) THAT YtmkpoldhgdbjiaaProg.lean LOADS. Nothing in Lean hashes anything: it is a label: what it is worth is what the hold of that sum in a sandbox is worth. -/
noncomputable def Try.pinned : Pinned := { name := "ytmkpoldhgdbjiaa", sum := "253b3f80ec5ffa9473928465f15cc47dc38f0b515cb0e44c03ba8d04f4f7094d", checked := Try.checked }
namespace Rows
def none {H : Type} : Left H := { results := [], args := [] }

/-- 'laws.FnExactInOrder': WHATEVER THE INPUT: true; the input reads as it did. -/
def fnExactInOrderSpec : ChangeSpec := { name := "fnExactInOrder", fn := fun _ => fun
  | [d1, d2] => { results := [.lit (.bool true)], args := [d1, d2] }
  | _ => none }
def fnExactInOrderRow : OpenClaim := { program := "ytmkpoldhgdbjiaa", sum := "253b3f80ec5ffa9473928465f15cc47dc38f0b515cb0e44c03ba8d04f4f7094d", func := "loop.example/g00485/laws.FnExactInOrder", spec := "fnExactInOrder", apart := false }
def FnExactInOrderSaid : Prop := fnExactInOrderRow.holds Try.pinned (OpenSpec.ofChange fnExactInOrderSpec)

/-- ITS FALSE NEIGHBOUR: 'it returns false'. Refute it at one input. -/
def fnExactInOrderWrong : ChangeSpec := { name := "fnExactInOrder", fn := fun _ => fun
  | [d1, d2] => { results := [.lit (.bool false)], args := [d1, d2] }
  | _ => none }
def FnExactInOrderWrongFalsely : Prop := fnExactInOrderRow.holds Try.pinned (OpenSpec.ofChange fnExactInOrderWrong)

/-- 'laws.FnExactReplySame': WHATEVER THE INPUT: true; the input reads as it did. -/
def fnExactReplySameSpec : ChangeSpec := { name := "fnExactReplySame", fn := fun _ => fun
  | [d1, d2] => { results := [.lit (.bool true)], args := [d1, d2] }
  | _ => none }
def fnExactReplySameRow : OpenClaim := { program := "ytmkpoldhgdbjiaa", sum := "253b3f80ec5ffa9473928465f15cc47dc38f0b515cb0e44c03ba8d04f4f7094d", func := "loop.example/g00485/laws.FnExactReplySame", spec := "fnExactReplySame", apart := false }
def FnExactReplySameSaid : Prop := fnExactReplySameRow.holds Try.pinned (OpenSpec.ofChange fnExactReplySameSpec)

/-- ITS FALSE NEIGHBOUR: 'it returns false'. Refute it at one input. -/
def fnExactReplySameWrong : ChangeSpec := { name := "fnExactReplySame", fn := fun _ => fun
  | [d1, d2] => { results := [.lit (.bool false)], args := [d1, d2] }
  | _ => none }
def FnExactReplySameWrongFalsely : Prop := fnExactReplySameRow.holds Try.pinned (OpenSpec.ofChange fnExactReplySameWrong)

/-- 'laws.FnExactPlural': WHATEVER THE INPUT: true; the input reads as it did. -/
def fnExactPluralSpec : ChangeSpec := { name := "fnExactPlural", fn := fun _ => fun
  | [d] => { results := [.lit (.bool true)], args := [d] }
  | _ => none }
def fnExactPluralRow : OpenClaim := { program := "ytmkpoldhgdbjiaa", sum := "253b3f80ec5ffa9473928465f15cc47dc38f0b515cb0e44c03ba8d04f4f7094d", func := "loop.example/g00485/laws.FnExactPlural", spec := "fnExactPlural", apart := false }
def FnExactPluralSaid : Prop := fnExactPluralRow.holds Try.pinned (OpenSpec.ofChange fnExactPluralSpec)

/-- ITS FALSE NEIGHBOUR: 'it returns false'. Refute it at one input. -/
def fnExactPluralWrong : ChangeSpec := { name := "fnExactPlural", fn := fun _ => fun
  | [d] => { results := [.lit (.bool false)], args := [d] }
  | _ => none }
def FnExactPluralWrongFalsely : Prop := fnExactPluralRow.holds Try.pinned (OpenSpec.ofChange fnExactPluralWrong)

/-- 'laws.FnExactTrimmed': WHATEVER THE INPUT: true; the input reads as it did. -/
def fnExactTrimmedSpec : ChangeSpec := { name := "fnExactTrimmed", fn := fun _ => fun
  | [d] => { results := [.lit (.bool true)], args := [d] }
  | _ => none }
def fnExactTrimmedRow : OpenClaim := { program := "ytmkpoldhgdbjiaa", sum := "253b3f80ec5ffa9473928465f15cc47dc38f0b515cb0e44c03ba8d04f4f7094d", func := "loop.example/g00485/laws.FnExactTrimmed", spec := "fnExactTrimmed", unfollowed := true, recurses := true, apart := false }
def FnExactTrimmedSaid : Prop := fnExactTrimmedRow.holds Try.pinned (OpenSpec.ofChange fnExactTrimmedSpec)

/-- ITS FALSE NEIGHBOUR: 'it returns false'. Refute it at one input. -/
def fnExactTrimmedWrong : ChangeSpec := { name := "fnExactTrimmed", fn := fun _ => fun
  | [d] => { results := [.lit (.bool false)], args := [d] }
  | _ => none }
def FnExactTrimmedWrongFalsely : Prop := fnExactTrimmedRow.holds Try.pinned (OpenSpec.ofChange fnExactTrimmedWrong)

/-- 'laws.FnExactLetters': WHATEVER THE INPUT: true; the input reads as it did. -/
def fnExactLettersSpec : ChangeSpec := { name := "fnExactLetters", fn := fun _ => fun
  | [d] => { results := [.lit (.bool true)], args := [d] }
  | _ => none }
def fnExactLettersRow : OpenClaim := { program := "ytmkpoldhgdbjiaa", sum := "253b3f80ec5ffa9473928465f15cc47dc38f0b515cb0e44c03ba8d04f4f7094d", func := "loop.example/g00485/laws.FnExactLetters", spec := "fnExactLetters", inPlace := ["slices.overlaps[int]"], apart := false }
def FnExactLettersSaid : Prop := fnExactLettersRow.holds Try.pinned (OpenSpec.ofChange fnExactLettersSpec)

/-- ITS FALSE NEIGHBOUR: 'it returns false'. Refute it at one input. -/
def fnExactLettersWrong : ChangeSpec := { name := "fnExactLetters", fn := fun _ => fun
  | [d] => { results := [.lit (.bool false)], args := [d] }
  | _ => none }
def FnExactLettersWrongFalsely : Prop := fnExactLettersRow.holds Try.pinned (OpenSpec.ofChange fnExactLettersWrong)

/- THE SECOND FORM. 'bulk': how many values and letters a reading holds, each counted each time it is reached (what is shared counts as often as it is met; a slice's spare places count too). A statement '..UptoSaid' is the law's where the arguments, and the package variables that the reading takes, are together of bulk at most 1048576: NARROWER than '..Said'. Prove '..Said' where nothing that the law and all that it calls make is longer than what came in: it says more and counts as full. Else prove '..UptoSaid'. A law counts once. -/
mutual
def uptoBulk {H : Type} : DataW H → Nat
  | .lit (.string bytes) => bytes.length + 1
  | .lit _ => 1
  | .nil => 1
  | .ptr d => uptoBulk d + 1
  | .slice elems spare => uptoBulkAll elems + uptoBulkAll spare + 1
  | .agg parts => uptoBulkAll parts + 1
  | .iface _ d => uptoBulk d + 1
  | .map entries => uptoBulkEntries entries + 1
  | .held _ => 1
def uptoBulkAll {H : Type} : List (DataW H) → Nat
  | [] => 0
  | d :: r => uptoBulk d + uptoBulkAll r
def uptoBulkEntries {H : Type} : List (Lit × DataW H) → Nat
  | [] => 0
  | x :: r => uptoBulkEntry x + uptoBulkEntries r
def uptoBulkEntry {H : Type} : Lit × DataW H → Nat
  | (.string bytes, d) => bytes.length + uptoBulk d + 1
  | (_, d) => uptoBulk d + 1
 end
def uptoSmall : (H : Type) → List (DataW H) → Bool := fun _ ds => decide (uptoBulkAll ds ≤ 1048576)
def OpenSpec.upto (s : _root_.Go.ChangeSpec) : _root_.Go.OpenSpec := { _root_.Go.OpenSpec.ofChange s with cond := some uptoSmall }

/-- 'laws.FnExactInOrder', WHERE WHAT IT READS IS OF BULK AT MOST 1048576: true; the input reads as it did. -/
def fnExactInOrderUptoRow : OpenClaim := { program := "ytmkpoldhgdbjiaa", sum := "253b3f80ec5ffa9473928465f15cc47dc38f0b515cb0e44c03ba8d04f4f7094d", func := "loop.example/g00485/laws.FnExactInOrder", spec := "fnExactInOrder", apart := false, narrowed := true }
def FnExactInOrderUptoSaid : Prop := fnExactInOrderUptoRow.holds Try.pinned (OpenSpec.upto fnExactInOrderSpec)

/-- 'laws.FnExactReplySame', WHERE WHAT IT READS IS OF BULK AT MOST 1048576: true; the input reads as it did. -/
def fnExactReplySameUptoRow : OpenClaim := { program := "ytmkpoldhgdbjiaa", sum := "253b3f80ec5ffa9473928465f15cc47dc38f0b515cb0e44c03ba8d04f4f7094d", func := "loop.example/g00485/laws.FnExactReplySame", spec := "fnExactReplySame", apart := false, narrowed := true }
def FnExactReplySameUptoSaid : Prop := fnExactReplySameUptoRow.holds Try.pinned (OpenSpec.upto fnExactReplySameSpec)

/-- 'laws.FnExactPlural', WHERE WHAT IT READS IS OF BULK AT MOST 1048576: true; the input reads as it did. -/
def fnExactPluralUptoRow : OpenClaim := { program := "ytmkpoldhgdbjiaa", sum := "253b3f80ec5ffa9473928465f15cc47dc38f0b515cb0e44c03ba8d04f4f7094d", func := "loop.example/g00485/laws.FnExactPlural", spec := "fnExactPlural", apart := false, narrowed := true }
def FnExactPluralUptoSaid : Prop := fnExactPluralUptoRow.holds Try.pinned (OpenSpec.upto fnExactPluralSpec)

/-- 'laws.FnExactTrimmed', WHERE WHAT IT READS IS OF BULK AT MOST 1048576: true; the input reads as it did. -/
def fnExactTrimmedUptoRow : OpenClaim := { program := "ytmkpoldhgdbjiaa", sum := "253b3f80ec5ffa9473928465f15cc47dc38f0b515cb0e44c03ba8d04f4f7094d", func := "loop.example/g00485/laws.FnExactTrimmed", spec := "fnExactTrimmed", unfollowed := true, recurses := true, apart := false, narrowed := true }
def FnExactTrimmedUptoSaid : Prop := fnExactTrimmedUptoRow.holds Try.pinned (OpenSpec.upto fnExactTrimmedSpec)

/-- 'laws.FnExactLetters', WHERE WHAT IT READS IS OF BULK AT MOST 1048576: true; the input reads as it did. -/
def fnExactLettersUptoRow : OpenClaim := { program := "ytmkpoldhgdbjiaa", sum := "253b3f80ec5ffa9473928465f15cc47dc38f0b515cb0e44c03ba8d04f4f7094d", func := "loop.example/g00485/laws.FnExactLetters", spec := "fnExactLetters", inPlace := ["slices.overlaps[int]"], apart := false, narrowed := true }
def FnExactLettersUptoSaid : Prop := fnExactLettersUptoRow.holds Try.pinned (OpenSpec.upto fnExactLettersSpec)

end Rows
end Go.Proofs.Ytmkpoldhgdbjiaa

/-
  No cell of these rows narrows 'for every input' (looked for: loops, veiled, ifaces, maps, wideKeys, modest, calm, conditions, laid).
  DERIVED. THE GIVEN ROWS OF THIS SEAT. 5 by the template 'for every input the law returns true; each argument reads behind the call as it read before'; 0 by the template 'total and deterministic' (their statements: YtanglbgincgmaaaTotals.lean).
  GIVEN WITH THE SEED: the statements are not yours to turn. If you find one false, say at which input.
  Laid BY PROGRAM, IN A SANDBOX (cutbox-rows.mjs): the forced cells as the released guide's own fill.sh prints them over the translation 1b4ba33cd2ce49f5… (all of the seat's roots in one cut). By AI agents, Wed Nov 11 2026. No macro, syntax, notation, axiom, sorry.
-/
import Derived.Test.YtanglbgincgmaaaChecked
import GoSem.Claim
import GoSem.ClaimJoined
import GoSem.ClaimMapViews
import Derived.JoinedTies
import Derived.KernelRfl
namespace Go.Proofs.Ytanglbgincgmaaa
/- THE CELL 'sum', in the pinned program and in every row, IS THE sha256 OF THE DUMP (.gsa) THAT YtanglbgincgmaaaProg.lean LOADS. Nothing in Lean hashes anything: it is a label: what it is worth is what the hold of that sum in a sandbox is worth. -/
noncomputable def Try.pinned : Pinned := { name := "ytanglbgincgmaaa", sum := "1b4ba33cd2ce49f5d1ef1f3eb2a1c981edfceb5055a6af20ce03c8dd45ed094e", checked := Try.checked }
namespace Rows
def none {H : Type} : Left H := { results := [], args := [] }

/-- 'laws.FnExactShortest': WHATEVER THE INPUT: true; the input reads as it did. -/
def fnExactShortestSpec : ChangeSpec := { name := "fnExactShortest", fn := fun _ => fun
  | [d1, d2] => { results := [.lit (.bool true)], args := [d1, d2] }
  | _ => none }
def fnExactShortestRow : OpenClaim := { program := "ytanglbgincgmaaa", sum := "1b4ba33cd2ce49f5d1ef1f3eb2a1c981edfceb5055a6af20ce03c8dd45ed094e", func := "loop.example/g00485/laws.FnExactShortest", spec := "fnExactShortest", unfollowed := true, recurses := true, apart := false }
def FnExactShortestSaid : Prop := fnExactShortestRow.holds Try.pinned (OpenSpec.ofChange fnExactShortestSpec)

/-- ITS FALSE NEIGHBOUR: 'it returns false'. Refute it at one input. -/
def fnExactShortestWrong : ChangeSpec := { name := "fnExactShortest", fn := fun _ => fun
  | [d1, d2] => { results := [.lit (.bool false)], args := [d1, d2] }
  | _ => none }
def FnExactShortestWrongFalsely : Prop := fnExactShortestRow.holds Try.pinned (OpenSpec.ofChange fnExactShortestWrong)

/-- 'laws.FnExactSample': WHATEVER THE INPUT: true; the input reads as it did. -/
def fnExactSampleSpec : ChangeSpec := { name := "fnExactSample", fn := fun _ => fun
  | [d] => { results := [.lit (.bool true)], args := [d] }
  | _ => none }
def fnExactSampleRow : OpenClaim := { program := "ytanglbgincgmaaa", sum := "1b4ba33cd2ce49f5d1ef1f3eb2a1c981edfceb5055a6af20ce03c8dd45ed094e", func := "loop.example/g00485/laws.FnExactSample", spec := "fnExactSample", unfollowed := true, recurses := true, apart := false }
def FnExactSampleSaid : Prop := fnExactSampleRow.holds Try.pinned (OpenSpec.ofChange fnExactSampleSpec)

/-- ITS FALSE NEIGHBOUR: 'it returns false'. Refute it at one input. -/
def fnExactSampleWrong : ChangeSpec := { name := "fnExactSample", fn := fun _ => fun
  | [d] => { results := [.lit (.bool false)], args := [d] }
  | _ => none }
def FnExactSampleWrongFalsely : Prop := fnExactSampleRow.holds Try.pinned (OpenSpec.ofChange fnExactSampleWrong)

/-- 'laws.FnExactSameWords': WHATEVER THE INPUT: true; the input reads as it did. -/
def fnExactSameWordsSpec : ChangeSpec := { name := "fnExactSameWords", fn := fun _ => fun
  | [d1, d2] => { results := [.lit (.bool true)], args := [d1, d2] }
  | _ => none }
def fnExactSameWordsRow : OpenClaim := { program := "ytanglbgincgmaaa", sum := "1b4ba33cd2ce49f5d1ef1f3eb2a1c981edfceb5055a6af20ce03c8dd45ed094e", func := "loop.example/g00485/laws.FnExactSameWords", spec := "fnExactSameWords", inPlace := ["slices.overlaps[int]"], unfollowed := true, recurses := true, apart := false }
def FnExactSameWordsSaid : Prop := fnExactSameWordsRow.holds Try.pinned (OpenSpec.ofChange fnExactSameWordsSpec)

/-- ITS FALSE NEIGHBOUR: 'it returns false'. Refute it at one input. -/
def fnExactSameWordsWrong : ChangeSpec := { name := "fnExactSameWords", fn := fun _ => fun
  | [d1, d2] => { results := [.lit (.bool false)], args := [d1, d2] }
  | _ => none }
def FnExactSameWordsWrongFalsely : Prop := fnExactSameWordsRow.holds Try.pinned (OpenSpec.ofChange fnExactSameWordsWrong)

/-- 'laws.FnExactWords3': WHATEVER THE INPUT: true; the input reads as it did. -/
def fnExactWords3Spec : ChangeSpec := { name := "fnExactWords3", fn := fun _ => fun
  | [d] => { results := [.lit (.bool true)], args := [d] }
  | _ => none }
def fnExactWords3Row : OpenClaim := { program := "ytanglbgincgmaaa", sum := "1b4ba33cd2ce49f5d1ef1f3eb2a1c981edfceb5055a6af20ce03c8dd45ed094e", func := "loop.example/g00485/laws.FnExactWords3", spec := "fnExactWords3", inPlace := ["slices.overlaps[int]"], unfollowed := true, recurses := true, apart := false }
def FnExactWords3Said : Prop := fnExactWords3Row.holds Try.pinned (OpenSpec.ofChange fnExactWords3Spec)

/-- ITS FALSE NEIGHBOUR: 'it returns false'. Refute it at one input. -/
def fnExactWords3Wrong : ChangeSpec := { name := "fnExactWords3", fn := fun _ => fun
  | [d] => { results := [.lit (.bool false)], args := [d] }
  | _ => none }
def FnExactWords3WrongFalsely : Prop := fnExactWords3Row.holds Try.pinned (OpenSpec.ofChange fnExactWords3Wrong)

/-- 'laws.FnExactMissing': WHATEVER THE INPUT: true; the input reads as it did. -/
def fnExactMissingSpec : ChangeSpec := { name := "fnExactMissing", fn := fun _ => fun
  | [d1, d2] => { results := [.lit (.bool true)], args := [d1, d2] }
  | _ => none }
def fnExactMissingRow : OpenClaim := { program := "ytanglbgincgmaaa", sum := "1b4ba33cd2ce49f5d1ef1f3eb2a1c981edfceb5055a6af20ce03c8dd45ed094e", func := "loop.example/g00485/laws.FnExactMissing", spec := "fnExactMissing", inPlace := ["slices.overlaps[int]"], unfollowed := true, recurses := true, apart := false }
def FnExactMissingSaid : Prop := fnExactMissingRow.holds Try.pinned (OpenSpec.ofChange fnExactMissingSpec)

/-- ITS FALSE NEIGHBOUR: 'it returns false'. Refute it at one input. -/
def fnExactMissingWrong : ChangeSpec := { name := "fnExactMissing", fn := fun _ => fun
  | [d1, d2] => { results := [.lit (.bool false)], args := [d1, d2] }
  | _ => none }
def FnExactMissingWrongFalsely : Prop := fnExactMissingRow.holds Try.pinned (OpenSpec.ofChange fnExactMissingWrong)

/- THE SECOND FORM. 'bulk': how many values and letters a reading holds, each counted each time it is reached (what is shared counts as often as it is met; a slice's spare places count too). A statement '..UptoSaid' is the law's where the arguments, and the package variables that the reading takes, are together of bulk at most 1048576: NARROWER than '..Said'. Prove '..Said' where nothing that the law and all that it calls make is longer than what came in: it says more and counts as full. Else prove '..UptoSaid'. A law counts once. -/
mutual
def uptoBulk {H : Type} : DataW H → Nat
  | .lit (.string bytes) => bytes.length + 1
  | .lit _ => 1
  | .nil => 1
  | .ptr d => uptoBulk d + 1
  | .slice elems spare => uptoBulkAll elems + uptoBulkAll spare + 1
  | .agg parts => uptoBulkAll parts + 1
  | .iface _ d => uptoBulk d + 1
  | .map entries => uptoBulkEntries entries + 1
  | .held _ => 1
def uptoBulkAll {H : Type} : List (DataW H) → Nat
  | [] => 0
  | d :: r => uptoBulk d + uptoBulkAll r
def uptoBulkEntries {H : Type} : List (Lit × DataW H) → Nat
  | [] => 0
  | x :: r => uptoBulkEntry x + uptoBulkEntries r
def uptoBulkEntry {H : Type} : Lit × DataW H → Nat
  | (.string bytes, d) => bytes.length + uptoBulk d + 1
  | (_, d) => uptoBulk d + 1
 end
def uptoSmall : (H : Type) → List (DataW H) → Bool := fun _ ds => decide (uptoBulkAll ds ≤ 1048576)
def OpenSpec.upto (s : _root_.Go.ChangeSpec) : _root_.Go.OpenSpec := { _root_.Go.OpenSpec.ofChange s with cond := some uptoSmall }

/-- 'laws.FnExactShortest', WHERE WHAT IT READS IS OF BULK AT MOST 1048576: true; the input reads as it did. -/
def fnExactShortestUptoRow : OpenClaim := { program := "ytanglbgincgmaaa", sum := "1b4ba33cd2ce49f5d1ef1f3eb2a1c981edfceb5055a6af20ce03c8dd45ed094e", func := "loop.example/g00485/laws.FnExactShortest", spec := "fnExactShortest", unfollowed := true, recurses := true, apart := false, narrowed := true }
def FnExactShortestUptoSaid : Prop := fnExactShortestUptoRow.holds Try.pinned (OpenSpec.upto fnExactShortestSpec)

/-- 'laws.FnExactSample', WHERE WHAT IT READS IS OF BULK AT MOST 1048576: true; the input reads as it did. -/
def fnExactSampleUptoRow : OpenClaim := { program := "ytanglbgincgmaaa", sum := "1b4ba33cd2ce49f5d1ef1f3eb2a1c981edfceb5055a6af20ce03c8dd45ed094e", func := "loop.example/g00485/laws.FnExactSample", spec := "fnExactSample", unfollowed := true, recurses := true, apart := false, narrowed := true }
def FnExactSampleUptoSaid : Prop := fnExactSampleUptoRow.holds Try.pinned (OpenSpec.upto fnExactSampleSpec)

/-- 'laws.FnExactSameWords', WHERE WHAT IT READS IS OF BULK AT MOST 1048576: true; the input reads as it did. -/
def fnExactSameWordsUptoRow : OpenClaim := { program := "ytanglbgincgmaaa", sum := "1b4ba33cd2ce49f5d1ef1f3eb2a1c981edfceb5055a6af20ce03c8dd45ed094e", func := "loop.example/g00485/laws.FnExactSameWords", spec := "fnExactSameWords", inPlace := ["slices.overlaps[int]"], unfollowed := true, recurses := true, apart := false, narrowed := true }
def FnExactSameWordsUptoSaid : Prop := fnExactSameWordsUptoRow.holds Try.pinned (OpenSpec.upto fnExactSameWordsSpec)

/-- 'laws.FnExactWords3', WHERE WHAT IT READS IS OF BULK AT MOST 1048576: true; the input reads as it did. -/
def fnExactWords3UptoRow : OpenClaim := { program := "ytanglbgincgmaaa", sum := "1b4ba33cd2ce49f5d1ef1f3eb2a1c981edfceb5055a6af20ce03c8dd45ed094e", func := "loop.example/g00485/laws.FnExactWords3", spec := "fnExactWords3", inPlace := ["slices.overlaps[int]"], unfollowed := true, recurses := true, apart := false, narrowed := true }
def FnExactWords3UptoSaid : Prop := fnExactWords3UptoRow.holds Try.pinned (OpenSpec.upto fnExactWords3Spec)

/-- 'laws.FnExactMissing', WHERE WHAT IT READS IS OF BULK AT MOST 1048576: true; the input reads as it did. -/
def fnExactMissingUptoRow : OpenClaim := { program := "ytanglbgincgmaaa", sum := "1b4ba33cd2ce49f5d1ef1f3eb2a1c981edfceb5055a6af20ce03c8dd45ed094e", func := "loop.example/g00485/laws.FnExactMissing", spec := "fnExactMissing", inPlace := ["slices.overlaps[int]"], unfollowed := true, recurses := true, apart := false, narrowed := true }
def FnExactMissingUptoSaid : Prop := fnExactMissingUptoRow.holds Try.pinned (OpenSpec.upto fnExactMissingSpec)

end Rows
end Go.Proofs.Ytanglbgincgmaaa

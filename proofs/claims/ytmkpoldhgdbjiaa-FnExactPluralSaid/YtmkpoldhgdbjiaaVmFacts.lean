/-
  Facts of the program's types.
-/
import Derived.Test.YtmkpoldhgdbjiaaVmCon
import Derived.Test.YtmkpoldhgdbjiaaProg
namespace Go.Proofs.Ytmkpoldhgdbjiaa.Vm
open Go Go.RowKit Go.Proofs
set_option linter.unusedVariables false
theorem mixed : Try.prog.follows .mixedOrders = true := by kernel_rfl
theorem cells3 : Try.prog.cellsOf 3 = 1 := by kernel_rfl
theorem bytes3 : Try.prog.bytesOf 3 = 8 := by kernel_rfl
theorem zero3 : zeroV Try.prog 3 = some [.lit (.int .i64 0)] := by kernel_rfl
theorem cells48 : Try.prog.cellsOf 48 = 1 := by kernel_rfl
theorem bytes48 : Try.prog.bytesOf 48 = 24 := by kernel_rfl
theorem zero48 : zeroV Try.prog 48 = some [.lit (.slice none 0 0)] := by kernel_rfl
theorem cells60 : Try.prog.cellsOf 60 = 1 := by kernel_rfl
theorem bytes60 : Try.prog.bytesOf 60 = 24 := by kernel_rfl
theorem zero60 : zeroV Try.prog 60 = some [.lit (.slice none 0 0)] := by kernel_rfl
theorem cells37 : Try.prog.cellsOf 37 = 1 := by kernel_rfl
theorem cells39 : Try.prog.cellsOf 39 = 1 := by kernel_rfl
theorem cells42 : Try.prog.cellsOf 42 = 1 := by kernel_rfl
theorem zero42 : zeroV Try.prog 42 = some [.lit (.slice none 0 0)] := by kernel_rfl
theorem und48 : Try.prog.underlying 48 = some (.slice 3) := by kernel_rfl
theorem und60 : Try.prog.underlying 60 = some (.slice 48) := by kernel_rfl
theorem und37 : Try.prog.underlying 37 = some (.slice 60) := by kernel_rfl
theorem und3 : Try.prog.underlying 3 = some (.int .i64) := by kernel_rfl
end Go.Proofs.Ytmkpoldhgdbjiaa.Vm

/-
  The facts of the seat's types. Written by a program of mine (facts.py).
-/
import Derived.Test.YtmkpoldhgdbjiaaDoorVmCon
import Derived.Test.YtmkpoldhgdbjiaaDoorProg
namespace Go.Proofs.YtmkpoldhgdbjiaaDoor.Vm
open Go Go.RowKit Go.Proofs
set_option linter.unusedVariables false
theorem mixed : Tryd.prog.follows .mixedOrders = true := by kernel_rfl
@[simp] theorem tc2 : Tryd.prog.cellsOf 2 = 1 := by kernel_rfl
@[simp] theorem tb2 : Tryd.prog.bytesOf 2 = 8 := by kernel_rfl
attribute [simp] Tryd.underlying2
noncomputable def ti2 : TypeInfo := (Tryd.prog.info? 2).getD default
@[simp] theorem te2 : Tryd.prog.info? 2 = some ti2 := by kernel_rfl
@[simp] theorem ts2 : ti2.size = 1 := by kernel_rfl
@[simp] theorem tz2 : zeroV Tryd.prog 2 = some [.lit (.int .i64 0)] := by kernel_rfl
@[simp] theorem tc3 : Tryd.prog.cellsOf 3 = 1 := by kernel_rfl
@[simp] theorem tb3 : Tryd.prog.bytesOf 3 = 8 := by kernel_rfl
attribute [simp] Tryd.underlying3
noncomputable def ti3 : TypeInfo := (Tryd.prog.info? 3).getD default
@[simp] theorem te3 : Tryd.prog.info? 3 = some ti3 := by kernel_rfl
@[simp] theorem ts3 : ti3.size = 1 := by kernel_rfl
@[simp] theorem tz3 : zeroV Tryd.prog 3 = some [.lit (.int .i64 0)] := by kernel_rfl
@[simp] theorem tc4 : Tryd.prog.cellsOf 4 = 1 := by kernel_rfl
@[simp] theorem tb4 : Tryd.prog.bytesOf 4 = 1 := by kernel_rfl
attribute [simp] Tryd.underlying4
noncomputable def ti4 : TypeInfo := (Tryd.prog.info? 4).getD default
@[simp] theorem te4 : Tryd.prog.info? 4 = some ti4 := by kernel_rfl
@[simp] theorem ts4 : ti4.size = 1 := by kernel_rfl
@[simp] theorem tz4 : zeroV Tryd.prog 4 = some [.lit (.bool false)] := by kernel_rfl
@[simp] theorem tc5 : Tryd.prog.cellsOf 5 = 1 := by kernel_rfl
@[simp] theorem tb5 : Tryd.prog.bytesOf 5 = 1 := by kernel_rfl
attribute [simp] Tryd.underlying5
noncomputable def ti5 : TypeInfo := (Tryd.prog.info? 5).getD default
@[simp] theorem te5 : Tryd.prog.info? 5 = some ti5 := by kernel_rfl
@[simp] theorem ts5 : ti5.size = 1 := by kernel_rfl
@[simp] theorem tz5 : zeroV Tryd.prog 5 = some [.lit (.int .u8 0)] := by kernel_rfl
@[simp] theorem tc6 : Tryd.prog.cellsOf 6 = 1 := by kernel_rfl
@[simp] theorem tb6 : Tryd.prog.bytesOf 6 = 1 := by kernel_rfl
attribute [simp] Tryd.underlying6
noncomputable def ti6 : TypeInfo := (Tryd.prog.info? 6).getD default
@[simp] theorem te6 : Tryd.prog.info? 6 = some ti6 := by kernel_rfl
@[simp] theorem ts6 : ti6.size = 1 := by kernel_rfl
@[simp] theorem tz6 : zeroV Tryd.prog 6 = some [.lit (.int .u8 0)] := by kernel_rfl
@[simp] theorem tc7 : Tryd.prog.cellsOf 7 = 4 := by kernel_rfl
@[simp] theorem tb7 : Tryd.prog.bytesOf 7 = 24 := by kernel_rfl
attribute [simp] Tryd.underlying7
noncomputable def ti7 : TypeInfo := (Tryd.prog.info? 7).getD default
@[simp] theorem te7 : Tryd.prog.info? 7 = some ti7 := by kernel_rfl
@[simp] theorem ts7 : ti7.size = 4 := by kernel_rfl
@[simp] theorem tz7 : zeroV Tryd.prog 7 = some [.lit (.int .i64 0), .lit (.int .i64 0), .lit (.bool false), .lit (.int .u8 0)] := by kernel_rfl
@[simp] theorem tc8 : Tryd.prog.cellsOf 8 = 4 := by kernel_rfl
@[simp] theorem tb8 : Tryd.prog.bytesOf 8 = 24 := by kernel_rfl
attribute [simp] Tryd.underlying8
noncomputable def ti8 : TypeInfo := (Tryd.prog.info? 8).getD default
@[simp] theorem te8 : Tryd.prog.info? 8 = some ti8 := by kernel_rfl
@[simp] theorem ts8 : ti8.size = 4 := by kernel_rfl
@[simp] theorem tz8 : zeroV Tryd.prog 8 = some [.lit (.int .i64 0), .lit (.int .i64 0), .lit (.bool false), .lit (.int .u8 0)] := by kernel_rfl
@[simp] theorem tc9 : Tryd.prog.cellsOf 9 = 1 := by kernel_rfl
@[simp] theorem tb9 : Tryd.prog.bytesOf 9 = 16 := by kernel_rfl
attribute [simp] Tryd.underlying9
noncomputable def ti9 : TypeInfo := (Tryd.prog.info? 9).getD default
@[simp] theorem te9 : Tryd.prog.info? 9 = some ti9 := by kernel_rfl
@[simp] theorem ts9 : ti9.size = 1 := by kernel_rfl
@[simp] theorem tz9 : zeroV Tryd.prog 9 = some [.lit (.string ByteArray.empty)] := by kernel_rfl
@[simp] theorem tc10 : Tryd.prog.cellsOf 10 = 1 := by kernel_rfl
@[simp] theorem tb10 : Tryd.prog.bytesOf 10 = 16 := by kernel_rfl
attribute [simp] Tryd.underlying10
noncomputable def ti10 : TypeInfo := (Tryd.prog.info? 10).getD default
@[simp] theorem te10 : Tryd.prog.info? 10 = some ti10 := by kernel_rfl
@[simp] theorem ts10 : ti10.size = 1 := by kernel_rfl
@[simp] theorem tz10 : zeroV Tryd.prog 10 = some [.lit (.string ByteArray.empty)] := by kernel_rfl
@[simp] theorem tc11 : Tryd.prog.cellsOf 11 = 1 := by kernel_rfl
@[simp] theorem tb11 : Tryd.prog.bytesOf 11 = 16 := by kernel_rfl
attribute [simp] Tryd.underlying11
noncomputable def ti11 : TypeInfo := (Tryd.prog.info? 11).getD default
@[simp] theorem te11 : Tryd.prog.info? 11 = some ti11 := by kernel_rfl
@[simp] theorem ts11 : ti11.size = 1 := by kernel_rfl
@[simp] theorem tz11 : zeroV Tryd.prog 11 = some [.lit (.string ByteArray.empty)] := by kernel_rfl
@[simp] theorem tc12 : Tryd.prog.cellsOf 12 = 1 := by kernel_rfl
@[simp] theorem tb12 : Tryd.prog.bytesOf 12 = 8 := by kernel_rfl
attribute [simp] Tryd.underlying12
noncomputable def ti12 : TypeInfo := (Tryd.prog.info? 12).getD default
@[simp] theorem te12 : Tryd.prog.info? 12 = some ti12 := by kernel_rfl
@[simp] theorem ts12 : ti12.size = 1 := by kernel_rfl
@[simp] theorem tz12 : zeroV Tryd.prog 12 = some [.lit (.int .u64 0)] := by kernel_rfl
@[simp] theorem tc13 : Tryd.prog.cellsOf 13 = 2 := by kernel_rfl
@[simp] theorem tb13 : Tryd.prog.bytesOf 13 = 24 := by kernel_rfl
attribute [simp] Tryd.underlying13
noncomputable def ti13 : TypeInfo := (Tryd.prog.info? 13).getD default
@[simp] theorem te13 : Tryd.prog.info? 13 = some ti13 := by kernel_rfl
@[simp] theorem ts13 : ti13.size = 2 := by kernel_rfl
@[simp] theorem tz13 : zeroV Tryd.prog 13 = some [.lit (.string ByteArray.empty), .lit (.int .u64 0)] := by kernel_rfl
@[simp] theorem tc14 : Tryd.prog.cellsOf 14 = 2 := by kernel_rfl
@[simp] theorem tb14 : Tryd.prog.bytesOf 14 = 24 := by kernel_rfl
attribute [simp] Tryd.underlying14
noncomputable def ti14 : TypeInfo := (Tryd.prog.info? 14).getD default
@[simp] theorem te14 : Tryd.prog.info? 14 = some ti14 := by kernel_rfl
@[simp] theorem ts14 : ti14.size = 2 := by kernel_rfl
@[simp] theorem tz14 : zeroV Tryd.prog 14 = some [.lit (.string ByteArray.empty), .lit (.int .u64 0)] := by kernel_rfl
@[simp] theorem tc18 : Tryd.prog.cellsOf 18 = 1 := by kernel_rfl
@[simp] theorem tb18 : Tryd.prog.bytesOf 18 = 8 := by kernel_rfl
attribute [simp] Tryd.underlying18
noncomputable def ti18 : TypeInfo := (Tryd.prog.info? 18).getD default
@[simp] theorem te18 : Tryd.prog.info? 18 = some ti18 := by kernel_rfl
@[simp] theorem ts18 : ti18.size = 1 := by kernel_rfl
@[simp] theorem tc19 : Tryd.prog.cellsOf 19 = 1 := by kernel_rfl
@[simp] theorem tb19 : Tryd.prog.bytesOf 19 = 8 := by kernel_rfl
attribute [simp] Tryd.underlying19
noncomputable def ti19 : TypeInfo := (Tryd.prog.info? 19).getD default
@[simp] theorem te19 : Tryd.prog.info? 19 = some ti19 := by kernel_rfl
@[simp] theorem ts19 : ti19.size = 1 := by kernel_rfl
@[simp] theorem tc21 : Tryd.prog.cellsOf 21 = 1 := by kernel_rfl
@[simp] theorem tb21 : Tryd.prog.bytesOf 21 = 4 := by kernel_rfl
attribute [simp] Tryd.underlying21
noncomputable def ti21 : TypeInfo := (Tryd.prog.info? 21).getD default
@[simp] theorem te21 : Tryd.prog.info? 21 = some ti21 := by kernel_rfl
@[simp] theorem ts21 : ti21.size = 1 := by kernel_rfl
@[simp] theorem tz21 : zeroV Tryd.prog 21 = some [.lit (.int .i32 0)] := by kernel_rfl
@[simp] theorem tc22 : Tryd.prog.cellsOf 22 = 3 := by kernel_rfl
@[simp] theorem tb22 : Tryd.prog.bytesOf 22 = 32 := by kernel_rfl
attribute [simp] Tryd.underlying22
noncomputable def ti22 : TypeInfo := (Tryd.prog.info? 22).getD default
@[simp] theorem te22 : Tryd.prog.info? 22 = some ti22 := by kernel_rfl
@[simp] theorem ts22 : ti22.size = 3 := by kernel_rfl
@[simp] theorem tz22 : zeroV Tryd.prog 22 = some [.lit (.int .i64 0), .lit (.int .i64 0), .lit (.string ByteArray.empty)] := by kernel_rfl
@[simp] theorem tc23 : Tryd.prog.cellsOf 23 = 3 := by kernel_rfl
@[simp] theorem tb23 : Tryd.prog.bytesOf 23 = 32 := by kernel_rfl
attribute [simp] Tryd.underlying23
noncomputable def ti23 : TypeInfo := (Tryd.prog.info? 23).getD default
@[simp] theorem te23 : Tryd.prog.info? 23 = some ti23 := by kernel_rfl
@[simp] theorem ts23 : ti23.size = 3 := by kernel_rfl
@[simp] theorem tz23 : zeroV Tryd.prog 23 = some [.lit (.int .i64 0), .lit (.int .i64 0), .lit (.string ByteArray.empty)] := by kernel_rfl
@[simp] theorem tc26 : Tryd.prog.cellsOf 26 = 3 := by kernel_rfl
@[simp] theorem tb26 : Tryd.prog.bytesOf 26 = 32 := by kernel_rfl
attribute [simp] Tryd.underlying26
noncomputable def ti26 : TypeInfo := (Tryd.prog.info? 26).getD default
@[simp] theorem te26 : Tryd.prog.info? 26 = some ti26 := by kernel_rfl
@[simp] theorem ts26 : ti26.size = 3 := by kernel_rfl
@[simp] theorem tz26 : zeroV Tryd.prog 26 = some [.lit (.int .i64 0), .lit (.int .i64 0), .lit (.string ByteArray.empty)] := by kernel_rfl
@[simp] theorem tc29 : Tryd.prog.cellsOf 29 = 1 := by kernel_rfl
@[simp] theorem tb29 : Tryd.prog.bytesOf 29 = 24 := by kernel_rfl
attribute [simp] Tryd.underlying29
noncomputable def ti29 : TypeInfo := (Tryd.prog.info? 29).getD default
@[simp] theorem te29 : Tryd.prog.info? 29 = some ti29 := by kernel_rfl
@[simp] theorem ts29 : ti29.size = 1 := by kernel_rfl
@[simp] theorem tz29 : zeroV Tryd.prog 29 = some [.lit (.slice none 0 0)] := by kernel_rfl
@[simp] theorem tc30 : Tryd.prog.cellsOf 30 = 6 := by kernel_rfl
@[simp] theorem tb30 : Tryd.prog.bytesOf 30 = 72 := by kernel_rfl
attribute [simp] Tryd.underlying30
noncomputable def ti30 : TypeInfo := (Tryd.prog.info? 30).getD default
@[simp] theorem te30 : Tryd.prog.info? 30 = some ti30 := by kernel_rfl
@[simp] theorem ts30 : ti30.size = 6 := by kernel_rfl
@[simp] theorem tz30 : zeroV Tryd.prog 30 = some [.lit (.int .i64 0), .lit (.int .i64 0), .lit (.int .i64 0), .lit (.int .i64 0), .lit (.string ByteArray.empty), .lit (.slice none 0 0)] := by kernel_rfl
@[simp] theorem tc31 : Tryd.prog.cellsOf 31 = 6 := by kernel_rfl
@[simp] theorem tb31 : Tryd.prog.bytesOf 31 = 72 := by kernel_rfl
attribute [simp] Tryd.underlying31
noncomputable def ti31 : TypeInfo := (Tryd.prog.info? 31).getD default
@[simp] theorem te31 : Tryd.prog.info? 31 = some ti31 := by kernel_rfl
@[simp] theorem ts31 : ti31.size = 6 := by kernel_rfl
@[simp] theorem tz31 : zeroV Tryd.prog 31 = some [.lit (.int .i64 0), .lit (.int .i64 0), .lit (.int .i64 0), .lit (.int .i64 0), .lit (.string ByteArray.empty), .lit (.slice none 0 0)] := by kernel_rfl
@[simp] theorem tc34 : Tryd.prog.cellsOf 34 = 6 := by kernel_rfl
@[simp] theorem tb34 : Tryd.prog.bytesOf 34 = 72 := by kernel_rfl
attribute [simp] Tryd.underlying34
noncomputable def ti34 : TypeInfo := (Tryd.prog.info? 34).getD default
@[simp] theorem te34 : Tryd.prog.info? 34 = some ti34 := by kernel_rfl
@[simp] theorem ts34 : ti34.size = 6 := by kernel_rfl
@[simp] theorem tz34 : zeroV Tryd.prog 34 = some [.lit (.int .i64 0), .lit (.int .i64 0), .lit (.int .i64 0), .lit (.int .i64 0), .lit (.string ByteArray.empty), .lit (.slice none 0 0)] := by kernel_rfl
@[simp] theorem tc42 : Tryd.prog.cellsOf 42 = 1 := by kernel_rfl
@[simp] theorem tb42 : Tryd.prog.bytesOf 42 = 24 := by kernel_rfl
attribute [simp] Tryd.underlying42
noncomputable def ti42 : TypeInfo := (Tryd.prog.info? 42).getD default
@[simp] theorem te42 : Tryd.prog.info? 42 = some ti42 := by kernel_rfl
@[simp] theorem ts42 : ti42.size = 1 := by kernel_rfl
@[simp] theorem tz42 : zeroV Tryd.prog 42 = some [.lit (.slice none 0 0)] := by kernel_rfl
@[simp] theorem tc48 : Tryd.prog.cellsOf 48 = 1 := by kernel_rfl
@[simp] theorem tb48 : Tryd.prog.bytesOf 48 = 24 := by kernel_rfl
attribute [simp] Tryd.underlying48
noncomputable def ti48 : TypeInfo := (Tryd.prog.info? 48).getD default
@[simp] theorem te48 : Tryd.prog.info? 48 = some ti48 := by kernel_rfl
@[simp] theorem ts48 : ti48.size = 1 := by kernel_rfl
@[simp] theorem tz48 : zeroV Tryd.prog 48 = some [.lit (.slice none 0 0)] := by kernel_rfl
@[simp] theorem tc49 : Tryd.prog.cellsOf 49 = 7 := by kernel_rfl
@[simp] theorem tb49 : Tryd.prog.bytesOf 49 = 112 := by kernel_rfl
attribute [simp] Tryd.underlying49
noncomputable def ti49 : TypeInfo := (Tryd.prog.info? 49).getD default
@[simp] theorem te49 : Tryd.prog.info? 49 = some ti49 := by kernel_rfl
@[simp] theorem ts49 : ti49.size = 7 := by kernel_rfl
@[simp] theorem tz49 : zeroV Tryd.prog 49 = some [.lit (.string ByteArray.empty), .lit (.string ByteArray.empty), .lit (.string ByteArray.empty), .lit (.string ByteArray.empty), .lit (.string ByteArray.empty), .lit (.string ByteArray.empty), .lit (.string ByteArray.empty)] := by kernel_rfl
@[simp] theorem tc54 : Tryd.prog.cellsOf 54 = 24 := by kernel_rfl
@[simp] theorem tb54 : Tryd.prog.bytesOf 54 = 24 := by kernel_rfl
attribute [simp] Tryd.underlying54
noncomputable def ti54 : TypeInfo := (Tryd.prog.info? 54).getD default
@[simp] theorem te54 : Tryd.prog.info? 54 = some ti54 := by kernel_rfl
@[simp] theorem ts54 : ti54.size = 24 := by kernel_rfl
@[simp] theorem tz54 : zeroV Tryd.prog 54 = some [.lit (.int .u8 0), .lit (.int .u8 0), .lit (.int .u8 0), .lit (.int .u8 0), .lit (.int .u8 0), .lit (.int .u8 0), .lit (.int .u8 0), .lit (.int .u8 0), .lit (.int .u8 0), .lit (.int .u8 0), .lit (.int .u8 0), .lit (.int .u8 0), .lit (.int .u8 0), .lit (.int .u8 0), .lit (.int .u8 0), .lit (.int .u8 0), .lit (.int .u8 0), .lit (.int .u8 0), .lit (.int .u8 0), .lit (.int .u8 0), .lit (.int .u8 0), .lit (.int .u8 0), .lit (.int .u8 0), .lit (.int .u8 0)] := by kernel_rfl
@[simp] theorem tc55 : Tryd.prog.cellsOf 55 = 1 := by kernel_rfl
@[simp] theorem tb55 : Tryd.prog.bytesOf 55 = 8 := by kernel_rfl
attribute [simp] Tryd.underlying55
noncomputable def ti55 : TypeInfo := (Tryd.prog.info? 55).getD default
@[simp] theorem te55 : Tryd.prog.info? 55 = some ti55 := by kernel_rfl
@[simp] theorem ts55 : ti55.size = 1 := by kernel_rfl
@[simp] theorem tz55 : zeroV Tryd.prog 55 = some [.lit (.int .u64 0)] := by kernel_rfl
@[simp] theorem tc62 : Tryd.prog.cellsOf 62 = 1 := by kernel_rfl
@[simp] theorem tb62 : Tryd.prog.bytesOf 62 = 8 := by kernel_rfl
attribute [simp] Tryd.underlying62
noncomputable def ti62 : TypeInfo := (Tryd.prog.info? 62).getD default
@[simp] theorem te62 : Tryd.prog.info? 62 = some ti62 := by kernel_rfl
@[simp] theorem ts62 : ti62.size = 1 := by kernel_rfl
@[simp] theorem tz62 : zeroV Tryd.prog 62 = some [.lit (.int .u64 0)] := by kernel_rfl
@[simp] theorem tc64 : Tryd.prog.cellsOf 64 = 20 := by kernel_rfl
@[simp] theorem tb64 : Tryd.prog.bytesOf 64 = 160 := by kernel_rfl
attribute [simp] Tryd.underlying64
noncomputable def ti64 : TypeInfo := (Tryd.prog.info? 64).getD default
@[simp] theorem te64 : Tryd.prog.info? 64 = some ti64 := by kernel_rfl
@[simp] theorem ts64 : ti64.size = 20 := by kernel_rfl
@[simp] theorem tz64 : zeroV Tryd.prog 64 = some [.lit (.int .u64 0), .lit (.int .u64 0), .lit (.int .u64 0), .lit (.int .u64 0), .lit (.int .u64 0), .lit (.int .u64 0), .lit (.int .u64 0), .lit (.int .u64 0), .lit (.int .u64 0), .lit (.int .u64 0), .lit (.int .u64 0), .lit (.int .u64 0), .lit (.int .u64 0), .lit (.int .u64 0), .lit (.int .u64 0), .lit (.int .u64 0), .lit (.int .u64 0), .lit (.int .u64 0), .lit (.int .u64 0), .lit (.int .u64 0)] := by kernel_rfl
@[simp] theorem tc65 : Tryd.prog.cellsOf 65 = 1 := by kernel_rfl
@[simp] theorem tb65 : Tryd.prog.bytesOf 65 = 4 := by kernel_rfl
attribute [simp] Tryd.underlying65
noncomputable def ti65 : TypeInfo := (Tryd.prog.info? 65).getD default
@[simp] theorem te65 : Tryd.prog.info? 65 = some ti65 := by kernel_rfl
@[simp] theorem ts65 : ti65.size = 1 := by kernel_rfl
@[simp] theorem tz65 : zeroV Tryd.prog 65 = some [.lit (.int .u32 0)] := by kernel_rfl
@[simp] theorem tc66 : Tryd.prog.cellsOf 66 = 65 := by kernel_rfl
@[simp] theorem tb66 : Tryd.prog.bytesOf 66 = 65 := by kernel_rfl
attribute [simp] Tryd.underlying66
noncomputable def ti66 : TypeInfo := (Tryd.prog.info? 66).getD default
@[simp] theorem te66 : Tryd.prog.info? 66 = some ti66 := by kernel_rfl
@[simp] theorem ts66 : ti66.size = 65 := by kernel_rfl
@[simp] theorem tc71 : Tryd.prog.cellsOf 71 = 32 := by kernel_rfl
@[simp] theorem tb71 : Tryd.prog.bytesOf 71 = 32 := by kernel_rfl
attribute [simp] Tryd.underlying71
noncomputable def ti71 : TypeInfo := (Tryd.prog.info? 71).getD default
@[simp] theorem te71 : Tryd.prog.info? 71 = some ti71 := by kernel_rfl
@[simp] theorem ts71 : ti71.size = 32 := by kernel_rfl
@[simp] theorem tz71 : zeroV Tryd.prog 71 = some [.lit (.int .u8 0), .lit (.int .u8 0), .lit (.int .u8 0), .lit (.int .u8 0), .lit (.int .u8 0), .lit (.int .u8 0), .lit (.int .u8 0), .lit (.int .u8 0), .lit (.int .u8 0), .lit (.int .u8 0), .lit (.int .u8 0), .lit (.int .u8 0), .lit (.int .u8 0), .lit (.int .u8 0), .lit (.int .u8 0), .lit (.int .u8 0), .lit (.int .u8 0), .lit (.int .u8 0), .lit (.int .u8 0), .lit (.int .u8 0), .lit (.int .u8 0), .lit (.int .u8 0), .lit (.int .u8 0), .lit (.int .u8 0), .lit (.int .u8 0), .lit (.int .u8 0), .lit (.int .u8 0), .lit (.int .u8 0), .lit (.int .u8 0), .lit (.int .u8 0), .lit (.int .u8 0), .lit (.int .u8 0)] := by kernel_rfl
@[simp] theorem tc72 : Tryd.prog.cellsOf 72 = 64 := by kernel_rfl
@[simp] theorem tb72 : Tryd.prog.bytesOf 72 = 64 := by kernel_rfl
attribute [simp] Tryd.underlying72
noncomputable def ti72 : TypeInfo := (Tryd.prog.info? 72).getD default
@[simp] theorem te72 : Tryd.prog.info? 72 = some ti72 := by kernel_rfl
@[simp] theorem ts72 : ti72.size = 64 := by kernel_rfl
@[simp] theorem tc74 : Tryd.prog.cellsOf 74 = 4 := by kernel_rfl
@[simp] theorem tb74 : Tryd.prog.bytesOf 74 = 40 := by kernel_rfl
attribute [simp] Tryd.underlying74
noncomputable def ti74 : TypeInfo := (Tryd.prog.info? 74).getD default
@[simp] theorem te74 : Tryd.prog.info? 74 = some ti74 := by kernel_rfl
@[simp] theorem ts74 : ti74.size = 4 := by kernel_rfl
@[simp] theorem tc75 : Tryd.prog.cellsOf 75 = 4 := by kernel_rfl
@[simp] theorem tb75 : Tryd.prog.bytesOf 75 = 40 := by kernel_rfl
attribute [simp] Tryd.underlying75
noncomputable def ti75 : TypeInfo := (Tryd.prog.info? 75).getD default
@[simp] theorem te75 : Tryd.prog.info? 75 = some ti75 := by kernel_rfl
@[simp] theorem ts75 : ti75.size = 4 := by kernel_rfl
@[simp] theorem tc76 : Tryd.prog.cellsOf 76 = 0 := by kernel_rfl
@[simp] theorem tb76 : Tryd.prog.bytesOf 76 = 0 := by kernel_rfl
attribute [simp] Tryd.underlying76
noncomputable def ti76 : TypeInfo := (Tryd.prog.info? 76).getD default
@[simp] theorem te76 : Tryd.prog.info? 76 = some ti76 := by kernel_rfl
@[simp] theorem ts76 : ti76.size = 0 := by kernel_rfl
@[simp] theorem tc77 : Tryd.prog.cellsOf 77 = 0 := by kernel_rfl
@[simp] theorem tb77 : Tryd.prog.bytesOf 77 = 0 := by kernel_rfl
attribute [simp] Tryd.underlying77
noncomputable def ti77 : TypeInfo := (Tryd.prog.info? 77).getD default
@[simp] theorem te77 : Tryd.prog.info? 77 = some ti77 := by kernel_rfl
@[simp] theorem ts77 : ti77.size = 0 := by kernel_rfl
@[simp] theorem tc78 : Tryd.prog.cellsOf 78 = 0 := by kernel_rfl
@[simp] theorem tb78 : Tryd.prog.bytesOf 78 = 0 := by kernel_rfl
attribute [simp] Tryd.underlying78
noncomputable def ti78 : TypeInfo := (Tryd.prog.info? 78).getD default
@[simp] theorem te78 : Tryd.prog.info? 78 = some ti78 := by kernel_rfl
@[simp] theorem ts78 : ti78.size = 0 := by kernel_rfl
@[simp] theorem tc80 : Tryd.prog.cellsOf 80 = 1 := by kernel_rfl
@[simp] theorem tb80 : Tryd.prog.bytesOf 80 = 1 := by kernel_rfl
attribute [simp] Tryd.underlying80
noncomputable def ti80 : TypeInfo := (Tryd.prog.info? 80).getD default
@[simp] theorem te80 : Tryd.prog.info? 80 = some ti80 := by kernel_rfl
@[simp] theorem ts80 : ti80.size = 1 := by kernel_rfl
@[simp] theorem tz80 : zeroV Tryd.prog 80 = some [.lit (.int .u8 0)] := by kernel_rfl
@[simp] theorem tc81 : Tryd.prog.cellsOf 81 = 1 := by kernel_rfl
@[simp] theorem tb81 : Tryd.prog.bytesOf 81 = 1 := by kernel_rfl
attribute [simp] Tryd.underlying81
noncomputable def ti81 : TypeInfo := (Tryd.prog.info? 81).getD default
@[simp] theorem te81 : Tryd.prog.info? 81 = some ti81 := by kernel_rfl
@[simp] theorem ts81 : ti81.size = 1 := by kernel_rfl
@[simp] theorem tz81 : zeroV Tryd.prog 81 = some [.lit (.int .u8 0)] := by kernel_rfl
@[simp] theorem tc84 : Tryd.prog.cellsOf 84 = 1 := by kernel_rfl
@[simp] theorem tb84 : Tryd.prog.bytesOf 84 = 4 := by kernel_rfl
attribute [simp] Tryd.underlying84
noncomputable def ti84 : TypeInfo := (Tryd.prog.info? 84).getD default
@[simp] theorem te84 : Tryd.prog.info? 84 = some ti84 := by kernel_rfl
@[simp] theorem ts84 : ti84.size = 1 := by kernel_rfl
@[simp] theorem tz84 : zeroV Tryd.prog 84 = some [.lit (.int .i32 0)] := by kernel_rfl
@[simp] theorem tc85 : Tryd.prog.cellsOf 85 = 1 := by kernel_rfl
@[simp] theorem tb85 : Tryd.prog.bytesOf 85 = 4 := by kernel_rfl
attribute [simp] Tryd.underlying85
noncomputable def ti85 : TypeInfo := (Tryd.prog.info? 85).getD default
@[simp] theorem te85 : Tryd.prog.info? 85 = some ti85 := by kernel_rfl
@[simp] theorem ts85 : ti85.size = 1 := by kernel_rfl
@[simp] theorem tz85 : zeroV Tryd.prog 85 = some [.lit (.int .i32 0)] := by kernel_rfl
@[simp] theorem tc86 : Tryd.prog.cellsOf 86 = 11 := by kernel_rfl
@[simp] theorem tb86 : Tryd.prog.bytesOf 86 = 48 := by kernel_rfl
attribute [simp] Tryd.underlying86
noncomputable def ti86 : TypeInfo := (Tryd.prog.info? 86).getD default
@[simp] theorem te86 : Tryd.prog.info? 86 = some ti86 := by kernel_rfl
@[simp] theorem ts86 : ti86.size = 11 := by kernel_rfl
@[simp] theorem tc87 : Tryd.prog.cellsOf 87 = 11 := by kernel_rfl
@[simp] theorem tb87 : Tryd.prog.bytesOf 87 = 48 := by kernel_rfl
attribute [simp] Tryd.underlying87
noncomputable def ti87 : TypeInfo := (Tryd.prog.info? 87).getD default
@[simp] theorem te87 : Tryd.prog.info? 87 = some ti87 := by kernel_rfl
@[simp] theorem ts87 : ti87.size = 11 := by kernel_rfl
end Go.Proofs.YtmkpoldhgdbjiaaDoor.Vm

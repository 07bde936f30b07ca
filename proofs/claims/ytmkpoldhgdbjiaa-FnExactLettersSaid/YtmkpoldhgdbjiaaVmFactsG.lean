/-
  The facts of the seat's types. Written by a program of mine (facts.py).
-/
import Derived.Test.YtmkpoldhgdbjiaaVmTree
import Derived.Test.YtmkpoldhgdbjiaaProg
namespace Go.Proofs.Ytmkpoldhgdbjiaa.Vm
open Go Go.RowKit Go.Proofs
set_option linter.unusedVariables false
theorem mixed : Try.prog.follows .mixedOrders = true := by kernel_rfl
@[simp] theorem tc2 : Try.prog.cellsOf 2 = 1 := by kernel_rfl
@[simp] theorem tb2 : Try.prog.bytesOf 2 = 8 := by kernel_rfl
attribute [simp] Try.underlying2
noncomputable def ti2 : TypeInfo := (Try.prog.info? 2).getD default
@[simp] theorem te2 : Try.prog.info? 2 = some ti2 := by kernel_rfl
@[simp] theorem ts2 : ti2.size = 1 := by kernel_rfl
@[simp] theorem tz2 : zeroV Try.prog 2 = some [.lit (.int .i64 0)] := by kernel_rfl
@[simp] theorem tc3 : Try.prog.cellsOf 3 = 1 := by kernel_rfl
@[simp] theorem tb3 : Try.prog.bytesOf 3 = 8 := by kernel_rfl
attribute [simp] Try.underlying3
noncomputable def ti3 : TypeInfo := (Try.prog.info? 3).getD default
@[simp] theorem te3 : Try.prog.info? 3 = some ti3 := by kernel_rfl
@[simp] theorem ts3 : ti3.size = 1 := by kernel_rfl
@[simp] theorem tz3 : zeroV Try.prog 3 = some [.lit (.int .i64 0)] := by kernel_rfl
@[simp] theorem tc4 : Try.prog.cellsOf 4 = 1 := by kernel_rfl
@[simp] theorem tb4 : Try.prog.bytesOf 4 = 1 := by kernel_rfl
attribute [simp] Try.underlying4
noncomputable def ti4 : TypeInfo := (Try.prog.info? 4).getD default
@[simp] theorem te4 : Try.prog.info? 4 = some ti4 := by kernel_rfl
@[simp] theorem ts4 : ti4.size = 1 := by kernel_rfl
@[simp] theorem tz4 : zeroV Try.prog 4 = some [.lit (.bool false)] := by kernel_rfl
@[simp] theorem tc5 : Try.prog.cellsOf 5 = 1 := by kernel_rfl
@[simp] theorem tb5 : Try.prog.bytesOf 5 = 1 := by kernel_rfl
attribute [simp] Try.underlying5
noncomputable def ti5 : TypeInfo := (Try.prog.info? 5).getD default
@[simp] theorem te5 : Try.prog.info? 5 = some ti5 := by kernel_rfl
@[simp] theorem ts5 : ti5.size = 1 := by kernel_rfl
@[simp] theorem tz5 : zeroV Try.prog 5 = some [.lit (.int .u8 0)] := by kernel_rfl
@[simp] theorem tc6 : Try.prog.cellsOf 6 = 1 := by kernel_rfl
@[simp] theorem tb6 : Try.prog.bytesOf 6 = 1 := by kernel_rfl
attribute [simp] Try.underlying6
noncomputable def ti6 : TypeInfo := (Try.prog.info? 6).getD default
@[simp] theorem te6 : Try.prog.info? 6 = some ti6 := by kernel_rfl
@[simp] theorem ts6 : ti6.size = 1 := by kernel_rfl
@[simp] theorem tz6 : zeroV Try.prog 6 = some [.lit (.int .u8 0)] := by kernel_rfl
@[simp] theorem tc7 : Try.prog.cellsOf 7 = 4 := by kernel_rfl
@[simp] theorem tb7 : Try.prog.bytesOf 7 = 24 := by kernel_rfl
attribute [simp] Try.underlying7
noncomputable def ti7 : TypeInfo := (Try.prog.info? 7).getD default
@[simp] theorem te7 : Try.prog.info? 7 = some ti7 := by kernel_rfl
@[simp] theorem ts7 : ti7.size = 4 := by kernel_rfl
@[simp] theorem tz7 : zeroV Try.prog 7 = some [.lit (.int .i64 0), .lit (.int .i64 0), .lit (.bool false), .lit (.int .u8 0)] := by kernel_rfl
@[simp] theorem tc8 : Try.prog.cellsOf 8 = 4 := by kernel_rfl
@[simp] theorem tb8 : Try.prog.bytesOf 8 = 24 := by kernel_rfl
attribute [simp] Try.underlying8
noncomputable def ti8 : TypeInfo := (Try.prog.info? 8).getD default
@[simp] theorem te8 : Try.prog.info? 8 = some ti8 := by kernel_rfl
@[simp] theorem ts8 : ti8.size = 4 := by kernel_rfl
@[simp] theorem tz8 : zeroV Try.prog 8 = some [.lit (.int .i64 0), .lit (.int .i64 0), .lit (.bool false), .lit (.int .u8 0)] := by kernel_rfl
@[simp] theorem tc9 : Try.prog.cellsOf 9 = 1 := by kernel_rfl
@[simp] theorem tb9 : Try.prog.bytesOf 9 = 16 := by kernel_rfl
attribute [simp] Try.underlying9
noncomputable def ti9 : TypeInfo := (Try.prog.info? 9).getD default
@[simp] theorem te9 : Try.prog.info? 9 = some ti9 := by kernel_rfl
@[simp] theorem ts9 : ti9.size = 1 := by kernel_rfl
@[simp] theorem tz9 : zeroV Try.prog 9 = some [.lit (.string ByteArray.empty)] := by kernel_rfl
@[simp] theorem tc10 : Try.prog.cellsOf 10 = 1 := by kernel_rfl
@[simp] theorem tb10 : Try.prog.bytesOf 10 = 16 := by kernel_rfl
attribute [simp] Try.underlying10
noncomputable def ti10 : TypeInfo := (Try.prog.info? 10).getD default
@[simp] theorem te10 : Try.prog.info? 10 = some ti10 := by kernel_rfl
@[simp] theorem ts10 : ti10.size = 1 := by kernel_rfl
@[simp] theorem tz10 : zeroV Try.prog 10 = some [.lit (.string ByteArray.empty)] := by kernel_rfl
@[simp] theorem tc11 : Try.prog.cellsOf 11 = 1 := by kernel_rfl
@[simp] theorem tb11 : Try.prog.bytesOf 11 = 16 := by kernel_rfl
attribute [simp] Try.underlying11
noncomputable def ti11 : TypeInfo := (Try.prog.info? 11).getD default
@[simp] theorem te11 : Try.prog.info? 11 = some ti11 := by kernel_rfl
@[simp] theorem ts11 : ti11.size = 1 := by kernel_rfl
@[simp] theorem tz11 : zeroV Try.prog 11 = some [.lit (.string ByteArray.empty)] := by kernel_rfl
@[simp] theorem tc12 : Try.prog.cellsOf 12 = 1 := by kernel_rfl
@[simp] theorem tb12 : Try.prog.bytesOf 12 = 8 := by kernel_rfl
attribute [simp] Try.underlying12
noncomputable def ti12 : TypeInfo := (Try.prog.info? 12).getD default
@[simp] theorem te12 : Try.prog.info? 12 = some ti12 := by kernel_rfl
@[simp] theorem ts12 : ti12.size = 1 := by kernel_rfl
@[simp] theorem tz12 : zeroV Try.prog 12 = some [.lit (.int .u64 0)] := by kernel_rfl
@[simp] theorem tc13 : Try.prog.cellsOf 13 = 2 := by kernel_rfl
@[simp] theorem tb13 : Try.prog.bytesOf 13 = 24 := by kernel_rfl
attribute [simp] Try.underlying13
noncomputable def ti13 : TypeInfo := (Try.prog.info? 13).getD default
@[simp] theorem te13 : Try.prog.info? 13 = some ti13 := by kernel_rfl
@[simp] theorem ts13 : ti13.size = 2 := by kernel_rfl
@[simp] theorem tz13 : zeroV Try.prog 13 = some [.lit (.string ByteArray.empty), .lit (.int .u64 0)] := by kernel_rfl
@[simp] theorem tc14 : Try.prog.cellsOf 14 = 2 := by kernel_rfl
@[simp] theorem tb14 : Try.prog.bytesOf 14 = 24 := by kernel_rfl
attribute [simp] Try.underlying14
noncomputable def ti14 : TypeInfo := (Try.prog.info? 14).getD default
@[simp] theorem te14 : Try.prog.info? 14 = some ti14 := by kernel_rfl
@[simp] theorem ts14 : ti14.size = 2 := by kernel_rfl
@[simp] theorem tz14 : zeroV Try.prog 14 = some [.lit (.string ByteArray.empty), .lit (.int .u64 0)] := by kernel_rfl
@[simp] theorem tc18 : Try.prog.cellsOf 18 = 1 := by kernel_rfl
@[simp] theorem tb18 : Try.prog.bytesOf 18 = 8 := by kernel_rfl
attribute [simp] Try.underlying18
noncomputable def ti18 : TypeInfo := (Try.prog.info? 18).getD default
@[simp] theorem te18 : Try.prog.info? 18 = some ti18 := by kernel_rfl
@[simp] theorem ts18 : ti18.size = 1 := by kernel_rfl
@[simp] theorem tc19 : Try.prog.cellsOf 19 = 1 := by kernel_rfl
@[simp] theorem tb19 : Try.prog.bytesOf 19 = 8 := by kernel_rfl
attribute [simp] Try.underlying19
noncomputable def ti19 : TypeInfo := (Try.prog.info? 19).getD default
@[simp] theorem te19 : Try.prog.info? 19 = some ti19 := by kernel_rfl
@[simp] theorem ts19 : ti19.size = 1 := by kernel_rfl
@[simp] theorem tc21 : Try.prog.cellsOf 21 = 1 := by kernel_rfl
@[simp] theorem tb21 : Try.prog.bytesOf 21 = 4 := by kernel_rfl
attribute [simp] Try.underlying21
noncomputable def ti21 : TypeInfo := (Try.prog.info? 21).getD default
@[simp] theorem te21 : Try.prog.info? 21 = some ti21 := by kernel_rfl
@[simp] theorem ts21 : ti21.size = 1 := by kernel_rfl
@[simp] theorem tz21 : zeroV Try.prog 21 = some [.lit (.int .i32 0)] := by kernel_rfl
@[simp] theorem tc22 : Try.prog.cellsOf 22 = 1 := by kernel_rfl
@[simp] theorem tb22 : Try.prog.bytesOf 22 = 24 := by kernel_rfl
attribute [simp] Try.underlying22
noncomputable def ti22 : TypeInfo := (Try.prog.info? 22).getD default
@[simp] theorem te22 : Try.prog.info? 22 = some ti22 := by kernel_rfl
@[simp] theorem ts22 : ti22.size = 1 := by kernel_rfl
@[simp] theorem tz22 : zeroV Try.prog 22 = some [.lit (.slice none 0 0)] := by kernel_rfl
@[simp] theorem tc25 : Try.prog.cellsOf 25 = 1 := by kernel_rfl
@[simp] theorem tb25 : Try.prog.bytesOf 25 = 24 := by kernel_rfl
attribute [simp] Try.underlying25
noncomputable def ti25 : TypeInfo := (Try.prog.info? 25).getD default
@[simp] theorem te25 : Try.prog.info? 25 = some ti25 := by kernel_rfl
@[simp] theorem ts25 : ti25.size = 1 := by kernel_rfl
@[simp] theorem tz25 : zeroV Try.prog 25 = some [.lit (.slice none 0 0)] := by kernel_rfl
@[simp] theorem tc29 : Try.prog.cellsOf 29 = 2 := by kernel_rfl
@[simp] theorem tb29 : Try.prog.bytesOf 29 = 32 := by kernel_rfl
attribute [simp] Try.underlying29
noncomputable def ti29 : TypeInfo := (Try.prog.info? 29).getD default
@[simp] theorem te29 : Try.prog.info? 29 = some ti29 := by kernel_rfl
@[simp] theorem ts29 : ti29.size = 2 := by kernel_rfl
@[simp] theorem tz29 : zeroV Try.prog 29 = some [.lit (.int .i64 0), .lit (.slice none 0 0)] := by kernel_rfl
@[simp] theorem tc30 : Try.prog.cellsOf 30 = 2 := by kernel_rfl
@[simp] theorem tb30 : Try.prog.bytesOf 30 = 32 := by kernel_rfl
attribute [simp] Try.underlying30
noncomputable def ti30 : TypeInfo := (Try.prog.info? 30).getD default
@[simp] theorem te30 : Try.prog.info? 30 = some ti30 := by kernel_rfl
@[simp] theorem ts30 : ti30.size = 2 := by kernel_rfl
@[simp] theorem tz30 : zeroV Try.prog 30 = some [.lit (.int .i64 0), .lit (.slice none 0 0)] := by kernel_rfl
@[simp] theorem tc33 : Try.prog.cellsOf 33 = 2 := by kernel_rfl
@[simp] theorem tb33 : Try.prog.bytesOf 33 = 32 := by kernel_rfl
attribute [simp] Try.underlying33
noncomputable def ti33 : TypeInfo := (Try.prog.info? 33).getD default
@[simp] theorem te33 : Try.prog.info? 33 = some ti33 := by kernel_rfl
@[simp] theorem ts33 : ti33.size = 2 := by kernel_rfl
@[simp] theorem tz33 : zeroV Try.prog 33 = some [.lit (.int .i64 0), .lit (.slice none 0 0)] := by kernel_rfl
@[simp] theorem tc34 : Try.prog.cellsOf 34 = 2 := by kernel_rfl
@[simp] theorem tb34 : Try.prog.bytesOf 34 = 32 := by kernel_rfl
attribute [simp] Try.underlying34
noncomputable def ti34 : TypeInfo := (Try.prog.info? 34).getD default
@[simp] theorem te34 : Try.prog.info? 34 = some ti34 := by kernel_rfl
@[simp] theorem ts34 : ti34.size = 2 := by kernel_rfl
@[simp] theorem tz34 : zeroV Try.prog 34 = some [.lit (.int .i64 0), .lit (.slice none 0 0)] := by kernel_rfl
@[simp] theorem tc37 : Try.prog.cellsOf 37 = 1 := by kernel_rfl
@[simp] theorem tb37 : Try.prog.bytesOf 37 = 24 := by kernel_rfl
attribute [simp] Try.underlying37
noncomputable def ti37 : TypeInfo := (Try.prog.info? 37).getD default
@[simp] theorem te37 : Try.prog.info? 37 = some ti37 := by kernel_rfl
@[simp] theorem ts37 : ti37.size = 1 := by kernel_rfl
@[simp] theorem tz37 : zeroV Try.prog 37 = some [.lit (.slice none 0 0)] := by kernel_rfl
@[simp] theorem tc38 : Try.prog.cellsOf 38 = 1 := by kernel_rfl
@[simp] theorem tb38 : Try.prog.bytesOf 38 = 24 := by kernel_rfl
attribute [simp] Try.underlying38
noncomputable def ti38 : TypeInfo := (Try.prog.info? 38).getD default
@[simp] theorem te38 : Try.prog.info? 38 = some ti38 := by kernel_rfl
@[simp] theorem ts38 : ti38.size = 1 := by kernel_rfl
@[simp] theorem tz38 : zeroV Try.prog 38 = some [.lit (.slice none 0 0)] := by kernel_rfl
@[simp] theorem tc39 : Try.prog.cellsOf 39 = 1 := by kernel_rfl
@[simp] theorem tb39 : Try.prog.bytesOf 39 = 24 := by kernel_rfl
attribute [simp] Try.underlying39
noncomputable def ti39 : TypeInfo := (Try.prog.info? 39).getD default
@[simp] theorem te39 : Try.prog.info? 39 = some ti39 := by kernel_rfl
@[simp] theorem ts39 : ti39.size = 1 := by kernel_rfl
@[simp] theorem tz39 : zeroV Try.prog 39 = some [.lit (.slice none 0 0)] := by kernel_rfl
@[simp] theorem tc42 : Try.prog.cellsOf 42 = 1 := by kernel_rfl
@[simp] theorem tb42 : Try.prog.bytesOf 42 = 24 := by kernel_rfl
attribute [simp] Try.underlying42
noncomputable def ti42 : TypeInfo := (Try.prog.info? 42).getD default
@[simp] theorem te42 : Try.prog.info? 42 = some ti42 := by kernel_rfl
@[simp] theorem ts42 : ti42.size = 1 := by kernel_rfl
@[simp] theorem tz42 : zeroV Try.prog 42 = some [.lit (.slice none 0 0)] := by kernel_rfl
@[simp] theorem tc48 : Try.prog.cellsOf 48 = 1 := by kernel_rfl
@[simp] theorem tb48 : Try.prog.bytesOf 48 = 24 := by kernel_rfl
attribute [simp] Try.underlying48
noncomputable def ti48 : TypeInfo := (Try.prog.info? 48).getD default
@[simp] theorem te48 : Try.prog.info? 48 = some ti48 := by kernel_rfl
@[simp] theorem ts48 : ti48.size = 1 := by kernel_rfl
@[simp] theorem tz48 : zeroV Try.prog 48 = some [.lit (.slice none 0 0)] := by kernel_rfl
@[simp] theorem tc53 : Try.prog.cellsOf 53 = 3 := by kernel_rfl
@[simp] theorem tb53 : Try.prog.bytesOf 53 = 32 := by kernel_rfl
attribute [simp] Try.underlying53
noncomputable def ti53 : TypeInfo := (Try.prog.info? 53).getD default
@[simp] theorem te53 : Try.prog.info? 53 = some ti53 := by kernel_rfl
@[simp] theorem ts53 : ti53.size = 3 := by kernel_rfl
@[simp] theorem tz53 : zeroV Try.prog 53 = some [.lit (.int .i64 0), .lit (.int .i64 0), .lit (.string ByteArray.empty)] := by kernel_rfl
@[simp] theorem tc54 : Try.prog.cellsOf 54 = 3 := by kernel_rfl
@[simp] theorem tb54 : Try.prog.bytesOf 54 = 32 := by kernel_rfl
attribute [simp] Try.underlying54
noncomputable def ti54 : TypeInfo := (Try.prog.info? 54).getD default
@[simp] theorem te54 : Try.prog.info? 54 = some ti54 := by kernel_rfl
@[simp] theorem ts54 : ti54.size = 3 := by kernel_rfl
@[simp] theorem tz54 : zeroV Try.prog 54 = some [.lit (.int .i64 0), .lit (.int .i64 0), .lit (.string ByteArray.empty)] := by kernel_rfl
@[simp] theorem tc55 : Try.prog.cellsOf 55 = 3 := by kernel_rfl
@[simp] theorem tb55 : Try.prog.bytesOf 55 = 32 := by kernel_rfl
attribute [simp] Try.underlying55
noncomputable def ti55 : TypeInfo := (Try.prog.info? 55).getD default
@[simp] theorem te55 : Try.prog.info? 55 = some ti55 := by kernel_rfl
@[simp] theorem ts55 : ti55.size = 3 := by kernel_rfl
@[simp] theorem tz55 : zeroV Try.prog 55 = some [.lit (.int .i64 0), .lit (.int .i64 0), .lit (.string ByteArray.empty)] := by kernel_rfl
@[simp] theorem tc60 : Try.prog.cellsOf 60 = 1 := by kernel_rfl
@[simp] theorem tb60 : Try.prog.bytesOf 60 = 24 := by kernel_rfl
attribute [simp] Try.underlying60
noncomputable def ti60 : TypeInfo := (Try.prog.info? 60).getD default
@[simp] theorem te60 : Try.prog.info? 60 = some ti60 := by kernel_rfl
@[simp] theorem ts60 : ti60.size = 1 := by kernel_rfl
@[simp] theorem tz60 : zeroV Try.prog 60 = some [.lit (.slice none 0 0)] := by kernel_rfl
@[simp] theorem tc80 : Try.prog.cellsOf 80 = 4 := by kernel_rfl
@[simp] theorem tb80 : Try.prog.bytesOf 80 = 40 := by kernel_rfl
attribute [simp] Try.underlying80
noncomputable def ti80 : TypeInfo := (Try.prog.info? 80).getD default
@[simp] theorem te80 : Try.prog.info? 80 = some ti80 := by kernel_rfl
@[simp] theorem ts80 : ti80.size = 4 := by kernel_rfl
@[simp] theorem tc81 : Try.prog.cellsOf 81 = 4 := by kernel_rfl
@[simp] theorem tb81 : Try.prog.bytesOf 81 = 40 := by kernel_rfl
attribute [simp] Try.underlying81
noncomputable def ti81 : TypeInfo := (Try.prog.info? 81).getD default
@[simp] theorem te81 : Try.prog.info? 81 = some ti81 := by kernel_rfl
@[simp] theorem ts81 : ti81.size = 4 := by kernel_rfl
@[simp] theorem tc82 : Try.prog.cellsOf 82 = 0 := by kernel_rfl
@[simp] theorem tb82 : Try.prog.bytesOf 82 = 0 := by kernel_rfl
attribute [simp] Try.underlying82
noncomputable def ti82 : TypeInfo := (Try.prog.info? 82).getD default
@[simp] theorem te82 : Try.prog.info? 82 = some ti82 := by kernel_rfl
@[simp] theorem ts82 : ti82.size = 0 := by kernel_rfl
@[simp] theorem tc83 : Try.prog.cellsOf 83 = 0 := by kernel_rfl
@[simp] theorem tb83 : Try.prog.bytesOf 83 = 0 := by kernel_rfl
attribute [simp] Try.underlying83
noncomputable def ti83 : TypeInfo := (Try.prog.info? 83).getD default
@[simp] theorem te83 : Try.prog.info? 83 = some ti83 := by kernel_rfl
@[simp] theorem ts83 : ti83.size = 0 := by kernel_rfl
@[simp] theorem tc84 : Try.prog.cellsOf 84 = 0 := by kernel_rfl
@[simp] theorem tb84 : Try.prog.bytesOf 84 = 0 := by kernel_rfl
attribute [simp] Try.underlying84
noncomputable def ti84 : TypeInfo := (Try.prog.info? 84).getD default
@[simp] theorem te84 : Try.prog.info? 84 = some ti84 := by kernel_rfl
@[simp] theorem ts84 : ti84.size = 0 := by kernel_rfl
@[simp] theorem tc86 : Try.prog.cellsOf 86 = 1 := by kernel_rfl
@[simp] theorem tb86 : Try.prog.bytesOf 86 = 4 := by kernel_rfl
attribute [simp] Try.underlying86
noncomputable def ti86 : TypeInfo := (Try.prog.info? 86).getD default
@[simp] theorem te86 : Try.prog.info? 86 = some ti86 := by kernel_rfl
@[simp] theorem ts86 : ti86.size = 1 := by kernel_rfl
@[simp] theorem tz86 : zeroV Try.prog 86 = some [.lit (.int .u32 0)] := by kernel_rfl
@[simp] theorem tc87 : Try.prog.cellsOf 87 = 1 := by kernel_rfl
@[simp] theorem tb87 : Try.prog.bytesOf 87 = 1 := by kernel_rfl
attribute [simp] Try.underlying87
noncomputable def ti87 : TypeInfo := (Try.prog.info? 87).getD default
@[simp] theorem te87 : Try.prog.info? 87 = some ti87 := by kernel_rfl
@[simp] theorem ts87 : ti87.size = 1 := by kernel_rfl
@[simp] theorem tz87 : zeroV Try.prog 87 = some [.lit (.int .u8 0)] := by kernel_rfl
@[simp] theorem tc88 : Try.prog.cellsOf 88 = 1 := by kernel_rfl
@[simp] theorem tb88 : Try.prog.bytesOf 88 = 1 := by kernel_rfl
attribute [simp] Try.underlying88
noncomputable def ti88 : TypeInfo := (Try.prog.info? 88).getD default
@[simp] theorem te88 : Try.prog.info? 88 = some ti88 := by kernel_rfl
@[simp] theorem ts88 : ti88.size = 1 := by kernel_rfl
@[simp] theorem tz88 : zeroV Try.prog 88 = some [.lit (.int .u8 0)] := by kernel_rfl
@[simp] theorem tc91 : Try.prog.cellsOf 91 = 1 := by kernel_rfl
@[simp] theorem tb91 : Try.prog.bytesOf 91 = 4 := by kernel_rfl
attribute [simp] Try.underlying91
noncomputable def ti91 : TypeInfo := (Try.prog.info? 91).getD default
@[simp] theorem te91 : Try.prog.info? 91 = some ti91 := by kernel_rfl
@[simp] theorem ts91 : ti91.size = 1 := by kernel_rfl
@[simp] theorem tz91 : zeroV Try.prog 91 = some [.lit (.int .i32 0)] := by kernel_rfl
@[simp] theorem tc92 : Try.prog.cellsOf 92 = 1 := by kernel_rfl
@[simp] theorem tb92 : Try.prog.bytesOf 92 = 4 := by kernel_rfl
attribute [simp] Try.underlying92
noncomputable def ti92 : TypeInfo := (Try.prog.info? 92).getD default
@[simp] theorem te92 : Try.prog.info? 92 = some ti92 := by kernel_rfl
@[simp] theorem ts92 : ti92.size = 1 := by kernel_rfl
@[simp] theorem tz92 : zeroV Try.prog 92 = some [.lit (.int .i32 0)] := by kernel_rfl
@[simp] theorem tc93 : Try.prog.cellsOf 93 = 11 := by kernel_rfl
@[simp] theorem tb93 : Try.prog.bytesOf 93 = 48 := by kernel_rfl
attribute [simp] Try.underlying93
noncomputable def ti93 : TypeInfo := (Try.prog.info? 93).getD default
@[simp] theorem te93 : Try.prog.info? 93 = some ti93 := by kernel_rfl
@[simp] theorem ts93 : ti93.size = 11 := by kernel_rfl
@[simp] theorem tc94 : Try.prog.cellsOf 94 = 11 := by kernel_rfl
@[simp] theorem tb94 : Try.prog.bytesOf 94 = 48 := by kernel_rfl
attribute [simp] Try.underlying94
noncomputable def ti94 : TypeInfo := (Try.prog.info? 94).getD default
@[simp] theorem te94 : Try.prog.info? 94 = some ti94 := by kernel_rfl
@[simp] theorem ts94 : ti94.size = 11 := by kernel_rfl
end Go.Proofs.Ytmkpoldhgdbjiaa.Vm

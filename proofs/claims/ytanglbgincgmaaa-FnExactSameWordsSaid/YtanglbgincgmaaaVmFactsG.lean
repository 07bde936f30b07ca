/-
  The facts of the seat's types. Written by a program of mine (facts.py).
-/
import Derived.Test.YtanglbgincgmaaaVmTree
import Derived.Test.YtanglbgincgmaaaProg
namespace Go.Proofs.Ytanglbgincgmaaa.Vm
open Go Go.RowKit Go.Proofs
set_option linter.unusedVariables false
theorem mixed : Try.prog.follows .mixedOrders = true := by kernel_rfl
@[simp] theorem tc2 : Try.prog.cellsOf 2 = 1 := by kernel_rfl
@[simp] theorem tb2 : Try.prog.bytesOf 2 = 8 := by kernel_rfl
attribute [simp] Try.underlying2
noncomputable def ti2 : TypeInfo := (Try.prog.info? 2).getD default
@[simp] theorem te2 : Try.prog.info? 2 = some ti2 := by kernel_rfl
@[simp] theorem ts2 : ti2.size = 1 := by kernel_rfl
@[simp] theorem tz2 : zeroV Try.prog 2 = some [.lit (.int .i64 0)] := by kernel_rfl
@[simp] theorem tc3 : Try.prog.cellsOf 3 = 1 := by kernel_rfl
@[simp] theorem tb3 : Try.prog.bytesOf 3 = 8 := by kernel_rfl
attribute [simp] Try.underlying3
noncomputable def ti3 : TypeInfo := (Try.prog.info? 3).getD default
@[simp] theorem te3 : Try.prog.info? 3 = some ti3 := by kernel_rfl
@[simp] theorem ts3 : ti3.size = 1 := by kernel_rfl
@[simp] theorem tz3 : zeroV Try.prog 3 = some [.lit (.int .i64 0)] := by kernel_rfl
@[simp] theorem tc4 : Try.prog.cellsOf 4 = 1 := by kernel_rfl
@[simp] theorem tb4 : Try.prog.bytesOf 4 = 1 := by kernel_rfl
attribute [simp] Try.underlying4
noncomputable def ti4 : TypeInfo := (Try.prog.info? 4).getD default
@[simp] theorem te4 : Try.prog.info? 4 = some ti4 := by kernel_rfl
@[simp] theorem ts4 : ti4.size = 1 := by kernel_rfl
@[simp] theorem tz4 : zeroV Try.prog 4 = some [.lit (.bool false)] := by kernel_rfl
@[simp] theorem tc5 : Try.prog.cellsOf 5 = 1 := by kernel_rfl
@[simp] theorem tb5 : Try.prog.bytesOf 5 = 1 := by kernel_rfl
attribute [simp] Try.underlying5
noncomputable def ti5 : TypeInfo := (Try.prog.info? 5).getD default
@[simp] theorem te5 : Try.prog.info? 5 = some ti5 := by kernel_rfl
@[simp] theorem ts5 : ti5.size = 1 := by kernel_rfl
@[simp] theorem tz5 : zeroV Try.prog 5 = some [.lit (.int .u8 0)] := by kernel_rfl
@[simp] theorem tc6 : Try.prog.cellsOf 6 = 1 := by kernel_rfl
@[simp] theorem tb6 : Try.prog.bytesOf 6 = 1 := by kernel_rfl
attribute [simp] Try.underlying6
noncomputable def ti6 : TypeInfo := (Try.prog.info? 6).getD default
@[simp] theorem te6 : Try.prog.info? 6 = some ti6 := by kernel_rfl
@[simp] theorem ts6 : ti6.size = 1 := by kernel_rfl
@[simp] theorem tz6 : zeroV Try.prog 6 = some [.lit (.int .u8 0)] := by kernel_rfl
@[simp] theorem tc7 : Try.prog.cellsOf 7 = 4 := by kernel_rfl
@[simp] theorem tb7 : Try.prog.bytesOf 7 = 24 := by kernel_rfl
attribute [simp] Try.underlying7
noncomputable def ti7 : TypeInfo := (Try.prog.info? 7).getD default
@[simp] theorem te7 : Try.prog.info? 7 = some ti7 := by kernel_rfl
@[simp] theorem ts7 : ti7.size = 4 := by kernel_rfl
@[simp] theorem tz7 : zeroV Try.prog 7 = some [.lit (.int .i64 0), .lit (.int .i64 0), .lit (.bool false), .lit (.int .u8 0)] := by kernel_rfl
@[simp] theorem tc8 : Try.prog.cellsOf 8 = 4 := by kernel_rfl
@[simp] theorem tb8 : Try.prog.bytesOf 8 = 24 := by kernel_rfl
attribute [simp] Try.underlying8
noncomputable def ti8 : TypeInfo := (Try.prog.info? 8).getD default
@[simp] theorem te8 : Try.prog.info? 8 = some ti8 := by kernel_rfl
@[simp] theorem ts8 : ti8.size = 4 := by kernel_rfl
@[simp] theorem tz8 : zeroV Try.prog 8 = some [.lit (.int .i64 0), .lit (.int .i64 0), .lit (.bool false), .lit (.int .u8 0)] := by kernel_rfl
@[simp] theorem tc9 : Try.prog.cellsOf 9 = 1 := by kernel_rfl
@[simp] theorem tb9 : Try.prog.bytesOf 9 = 16 := by kernel_rfl
attribute [simp] Try.underlying9
noncomputable def ti9 : TypeInfo := (Try.prog.info? 9).getD default
@[simp] theorem te9 : Try.prog.info? 9 = some ti9 := by kernel_rfl
@[simp] theorem ts9 : ti9.size = 1 := by kernel_rfl
@[simp] theorem tz9 : zeroV Try.prog 9 = some [.lit (.string ByteArray.empty)] := by kernel_rfl
@[simp] theorem tc10 : Try.prog.cellsOf 10 = 1 := by kernel_rfl
@[simp] theorem tb10 : Try.prog.bytesOf 10 = 16 := by kernel_rfl
attribute [simp] Try.underlying10
noncomputable def ti10 : TypeInfo := (Try.prog.info? 10).getD default
@[simp] theorem te10 : Try.prog.info? 10 = some ti10 := by kernel_rfl
@[simp] theorem ts10 : ti10.size = 1 := by kernel_rfl
@[simp] theorem tz10 : zeroV Try.prog 10 = some [.lit (.string ByteArray.empty)] := by kernel_rfl
@[simp] theorem tc11 : Try.prog.cellsOf 11 = 1 := by kernel_rfl
@[simp] theorem tb11 : Try.prog.bytesOf 11 = 16 := by kernel_rfl
attribute [simp] Try.underlying11
noncomputable def ti11 : TypeInfo := (Try.prog.info? 11).getD default
@[simp] theorem te11 : Try.prog.info? 11 = some ti11 := by kernel_rfl
@[simp] theorem ts11 : ti11.size = 1 := by kernel_rfl
@[simp] theorem tz11 : zeroV Try.prog 11 = some [.lit (.string ByteArray.empty)] := by kernel_rfl
@[simp] theorem tc12 : Try.prog.cellsOf 12 = 1 := by kernel_rfl
@[simp] theorem tb12 : Try.prog.bytesOf 12 = 8 := by kernel_rfl
attribute [simp] Try.underlying12
noncomputable def ti12 : TypeInfo := (Try.prog.info? 12).getD default
@[simp] theorem te12 : Try.prog.info? 12 = some ti12 := by kernel_rfl
@[simp] theorem ts12 : ti12.size = 1 := by kernel_rfl
@[simp] theorem tz12 : zeroV Try.prog 12 = some [.lit (.int .u64 0)] := by kernel_rfl
@[simp] theorem tc13 : Try.prog.cellsOf 13 = 2 := by kernel_rfl
@[simp] theorem tb13 : Try.prog.bytesOf 13 = 24 := by kernel_rfl
attribute [simp] Try.underlying13
noncomputable def ti13 : TypeInfo := (Try.prog.info? 13).getD default
@[simp] theorem te13 : Try.prog.info? 13 = some ti13 := by kernel_rfl
@[simp] theorem ts13 : ti13.size = 2 := by kernel_rfl
@[simp] theorem tz13 : zeroV Try.prog 13 = some [.lit (.string ByteArray.empty), .lit (.int .u64 0)] := by kernel_rfl
@[simp] theorem tc14 : Try.prog.cellsOf 14 = 2 := by kernel_rfl
@[simp] theorem tb14 : Try.prog.bytesOf 14 = 24 := by kernel_rfl
attribute [simp] Try.underlying14
noncomputable def ti14 : TypeInfo := (Try.prog.info? 14).getD default
@[simp] theorem te14 : Try.prog.info? 14 = some ti14 := by kernel_rfl
@[simp] theorem ts14 : ti14.size = 2 := by kernel_rfl
@[simp] theorem tz14 : zeroV Try.prog 14 = some [.lit (.string ByteArray.empty), .lit (.int .u64 0)] := by kernel_rfl
@[simp] theorem tc18 : Try.prog.cellsOf 18 = 1 := by kernel_rfl
@[simp] theorem tb18 : Try.prog.bytesOf 18 = 8 := by kernel_rfl
attribute [simp] Try.underlying18
noncomputable def ti18 : TypeInfo := (Try.prog.info? 18).getD default
@[simp] theorem te18 : Try.prog.info? 18 = some ti18 := by kernel_rfl
@[simp] theorem ts18 : ti18.size = 1 := by kernel_rfl
@[simp] theorem tc19 : Try.prog.cellsOf 19 = 1 := by kernel_rfl
@[simp] theorem tb19 : Try.prog.bytesOf 19 = 8 := by kernel_rfl
attribute [simp] Try.underlying19
noncomputable def ti19 : TypeInfo := (Try.prog.info? 19).getD default
@[simp] theorem te19 : Try.prog.info? 19 = some ti19 := by kernel_rfl
@[simp] theorem ts19 : ti19.size = 1 := by kernel_rfl
@[simp] theorem tc21 : Try.prog.cellsOf 21 = 1 := by kernel_rfl
@[simp] theorem tb21 : Try.prog.bytesOf 21 = 4 := by kernel_rfl
attribute [simp] Try.underlying21
noncomputable def ti21 : TypeInfo := (Try.prog.info? 21).getD default
@[simp] theorem te21 : Try.prog.info? 21 = some ti21 := by kernel_rfl
@[simp] theorem ts21 : ti21.size = 1 := by kernel_rfl
@[simp] theorem tz21 : zeroV Try.prog 21 = some [.lit (.int .i32 0)] := by kernel_rfl
@[simp] theorem tc22 : Try.prog.cellsOf 22 = 1 := by kernel_rfl
@[simp] theorem tb22 : Try.prog.bytesOf 22 = 24 := by kernel_rfl
attribute [simp] Try.underlying22
noncomputable def ti22 : TypeInfo := (Try.prog.info? 22).getD default
@[simp] theorem te22 : Try.prog.info? 22 = some ti22 := by kernel_rfl
@[simp] theorem ts22 : ti22.size = 1 := by kernel_rfl
@[simp] theorem tz22 : zeroV Try.prog 22 = some [.lit (.slice none 0 0)] := by kernel_rfl
@[simp] theorem tc23 : Try.prog.cellsOf 23 = 1 := by kernel_rfl
@[simp] theorem tb23 : Try.prog.bytesOf 23 = 24 := by kernel_rfl
attribute [simp] Try.underlying23
noncomputable def ti23 : TypeInfo := (Try.prog.info? 23).getD default
@[simp] theorem te23 : Try.prog.info? 23 = some ti23 := by kernel_rfl
@[simp] theorem ts23 : ti23.size = 1 := by kernel_rfl
@[simp] theorem tz23 : zeroV Try.prog 23 = some [.lit (.slice none 0 0)] := by kernel_rfl
@[simp] theorem tc24 : Try.prog.cellsOf 24 = 1 := by kernel_rfl
@[simp] theorem tb24 : Try.prog.bytesOf 24 = 24 := by kernel_rfl
attribute [simp] Try.underlying24
noncomputable def ti24 : TypeInfo := (Try.prog.info? 24).getD default
@[simp] theorem te24 : Try.prog.info? 24 = some ti24 := by kernel_rfl
@[simp] theorem ts24 : ti24.size = 1 := by kernel_rfl
@[simp] theorem tz24 : zeroV Try.prog 24 = some [.lit (.slice none 0 0)] := by kernel_rfl
@[simp] theorem tc27 : Try.prog.cellsOf 27 = 1 := by kernel_rfl
@[simp] theorem tb27 : Try.prog.bytesOf 27 = 24 := by kernel_rfl
attribute [simp] Try.underlying27
noncomputable def ti27 : TypeInfo := (Try.prog.info? 27).getD default
@[simp] theorem te27 : Try.prog.info? 27 = some ti27 := by kernel_rfl
@[simp] theorem ts27 : ti27.size = 1 := by kernel_rfl
@[simp] theorem tz27 : zeroV Try.prog 27 = some [.lit (.slice none 0 0)] := by kernel_rfl
@[simp] theorem tc31 : Try.prog.cellsOf 31 = 1 := by kernel_rfl
@[simp] theorem tb31 : Try.prog.bytesOf 31 = 24 := by kernel_rfl
attribute [simp] Try.underlying31
noncomputable def ti31 : TypeInfo := (Try.prog.info? 31).getD default
@[simp] theorem te31 : Try.prog.info? 31 = some ti31 := by kernel_rfl
@[simp] theorem ts31 : ti31.size = 1 := by kernel_rfl
@[simp] theorem tz31 : zeroV Try.prog 31 = some [.lit (.slice none 0 0)] := by kernel_rfl
@[simp] theorem tc38 : Try.prog.cellsOf 38 = 1 := by kernel_rfl
@[simp] theorem tb38 : Try.prog.bytesOf 38 = 24 := by kernel_rfl
attribute [simp] Try.underlying38
noncomputable def ti38 : TypeInfo := (Try.prog.info? 38).getD default
@[simp] theorem te38 : Try.prog.info? 38 = some ti38 := by kernel_rfl
@[simp] theorem ts38 : ti38.size = 1 := by kernel_rfl
@[simp] theorem tz38 : zeroV Try.prog 38 = some [.lit (.slice none 0 0)] := by kernel_rfl
@[simp] theorem tc62 : Try.prog.cellsOf 62 = 20 := by kernel_rfl
@[simp] theorem tb62 : Try.prog.bytesOf 62 = 160 := by kernel_rfl
attribute [simp] Try.underlying62
noncomputable def ti62 : TypeInfo := (Try.prog.info? 62).getD default
@[simp] theorem te62 : Try.prog.info? 62 = some ti62 := by kernel_rfl
@[simp] theorem ts62 : ti62.size = 20 := by kernel_rfl
@[simp] theorem tz62 : zeroV Try.prog 62 = some [.lit (.int .i64 0), .lit (.int .i64 0), .lit (.int .i64 0), .lit (.int .i64 0), .lit (.int .i64 0), .lit (.int .i64 0), .lit (.int .i64 0), .lit (.int .i64 0), .lit (.int .i64 0), .lit (.int .i64 0), .lit (.int .i64 0), .lit (.int .i64 0), .lit (.int .i64 0), .lit (.int .i64 0), .lit (.int .i64 0), .lit (.int .i64 0), .lit (.int .i64 0), .lit (.int .i64 0), .lit (.int .i64 0), .lit (.int .i64 0)] := by kernel_rfl
@[simp] theorem tc68 : Try.prog.cellsOf 68 = 1 := by kernel_rfl
@[simp] theorem tb68 : Try.prog.bytesOf 68 = 4 := by kernel_rfl
attribute [simp] Try.underlying68
noncomputable def ti68 : TypeInfo := (Try.prog.info? 68).getD default
@[simp] theorem te68 : Try.prog.info? 68 = some ti68 := by kernel_rfl
@[simp] theorem ts68 : ti68.size = 1 := by kernel_rfl
@[simp] theorem tz68 : zeroV Try.prog 68 = some [.lit (.int .u32 0)] := by kernel_rfl
@[simp] theorem tc69 : Try.prog.cellsOf 69 = 1 := by kernel_rfl
@[simp] theorem tb69 : Try.prog.bytesOf 69 = 4 := by kernel_rfl
attribute [simp] Try.underlying69
noncomputable def ti69 : TypeInfo := (Try.prog.info? 69).getD default
@[simp] theorem te69 : Try.prog.info? 69 = some ti69 := by kernel_rfl
@[simp] theorem ts69 : ti69.size = 1 := by kernel_rfl
@[simp] theorem tz69 : zeroV Try.prog 69 = some [.lit (.int .u32 0)] := by kernel_rfl
@[simp] theorem tc70 : Try.prog.cellsOf 70 = 3 := by kernel_rfl
@[simp] theorem tb70 : Try.prog.bytesOf 70 = 24 := by kernel_rfl
attribute [simp] Try.underlying70
noncomputable def ti70 : TypeInfo := (Try.prog.info? 70).getD default
@[simp] theorem te70 : Try.prog.info? 70 = some ti70 := by kernel_rfl
@[simp] theorem ts70 : ti70.size = 3 := by kernel_rfl
@[simp] theorem tz70 : zeroV Try.prog 70 = some [.lit (.int .u32 0), .lit (.int .i64 0), .lit (.bool false)] := by kernel_rfl
@[simp] theorem tc71 : Try.prog.cellsOf 71 = 3 := by kernel_rfl
@[simp] theorem tb71 : Try.prog.bytesOf 71 = 24 := by kernel_rfl
attribute [simp] Try.underlying71
noncomputable def ti71 : TypeInfo := (Try.prog.info? 71).getD default
@[simp] theorem te71 : Try.prog.info? 71 = some ti71 := by kernel_rfl
@[simp] theorem ts71 : ti71.size = 3 := by kernel_rfl
@[simp] theorem tz71 : zeroV Try.prog 71 = some [.lit (.int .u32 0), .lit (.int .i64 0), .lit (.bool false)] := by kernel_rfl
@[simp] theorem tc78 : Try.prog.cellsOf 78 = 20 := by kernel_rfl
@[simp] theorem tb78 : Try.prog.bytesOf 78 = 80 := by kernel_rfl
attribute [simp] Try.underlying78
noncomputable def ti78 : TypeInfo := (Try.prog.info? 78).getD default
@[simp] theorem te78 : Try.prog.info? 78 = some ti78 := by kernel_rfl
@[simp] theorem ts78 : ti78.size = 20 := by kernel_rfl
@[simp] theorem tz78 : zeroV Try.prog 78 = some [.lit (.int .u32 0), .lit (.int .u32 0), .lit (.int .u32 0), .lit (.int .u32 0), .lit (.int .u32 0), .lit (.int .u32 0), .lit (.int .u32 0), .lit (.int .u32 0), .lit (.int .u32 0), .lit (.int .u32 0), .lit (.int .u32 0), .lit (.int .u32 0), .lit (.int .u32 0), .lit (.int .u32 0), .lit (.int .u32 0), .lit (.int .u32 0), .lit (.int .u32 0), .lit (.int .u32 0), .lit (.int .u32 0), .lit (.int .u32 0)] := by kernel_rfl
@[simp] theorem tc80 : Try.prog.cellsOf 80 = 1 := by kernel_rfl
@[simp] theorem tb80 : Try.prog.bytesOf 80 = 8 := by kernel_rfl
attribute [simp] Try.underlying80
noncomputable def ti80 : TypeInfo := (Try.prog.info? 80).getD default
@[simp] theorem te80 : Try.prog.info? 80 = some ti80 := by kernel_rfl
@[simp] theorem ts80 : ti80.size = 1 := by kernel_rfl
@[simp] theorem tz80 : zeroV Try.prog 80 = some [.lit (.int .u64 0)] := by kernel_rfl
@[simp] theorem tc82 : Try.prog.cellsOf 82 = 1 := by kernel_rfl
@[simp] theorem tb82 : Try.prog.bytesOf 82 = 24 := by kernel_rfl
attribute [simp] Try.underlying82
noncomputable def ti82 : TypeInfo := (Try.prog.info? 82).getD default
@[simp] theorem te82 : Try.prog.info? 82 = some ti82 := by kernel_rfl
@[simp] theorem ts82 : ti82.size = 1 := by kernel_rfl
@[simp] theorem tz82 : zeroV Try.prog 82 = some [.lit (.slice none 0 0)] := by kernel_rfl
@[simp] theorem tc83 : Try.prog.cellsOf 83 = 4 := by kernel_rfl
@[simp] theorem tb83 : Try.prog.bytesOf 83 = 96 := by kernel_rfl
attribute [simp] Try.underlying83
noncomputable def ti83 : TypeInfo := (Try.prog.info? 83).getD default
@[simp] theorem te83 : Try.prog.info? 83 = some ti83 := by kernel_rfl
@[simp] theorem ts83 : ti83.size = 4 := by kernel_rfl
@[simp] theorem tz83 : zeroV Try.prog 83 = some [.lit (.slice none 0 0), .lit (.slice none 0 0), .lit (.slice none 0 0), .lit (.slice none 0 0)] := by kernel_rfl
@[simp] theorem tc84 : Try.prog.cellsOf 84 = 4 := by kernel_rfl
@[simp] theorem tb84 : Try.prog.bytesOf 84 = 96 := by kernel_rfl
attribute [simp] Try.underlying84
noncomputable def ti84 : TypeInfo := (Try.prog.info? 84).getD default
@[simp] theorem te84 : Try.prog.info? 84 = some ti84 := by kernel_rfl
@[simp] theorem ts84 : ti84.size = 4 := by kernel_rfl
@[simp] theorem tz84 : zeroV Try.prog 84 = some [.lit (.slice none 0 0), .lit (.slice none 0 0), .lit (.slice none 0 0), .lit (.slice none 0 0)] := by kernel_rfl
@[simp] theorem tc85 : Try.prog.cellsOf 85 = 1 := by kernel_rfl
@[simp] theorem tb85 : Try.prog.bytesOf 85 = 24 := by kernel_rfl
attribute [simp] Try.underlying85
noncomputable def ti85 : TypeInfo := (Try.prog.info? 85).getD default
@[simp] theorem te85 : Try.prog.info? 85 = some ti85 := by kernel_rfl
@[simp] theorem ts85 : ti85.size = 1 := by kernel_rfl
@[simp] theorem tz85 : zeroV Try.prog 85 = some [.lit (.slice none 0 0)] := by kernel_rfl
@[simp] theorem tc88 : Try.prog.cellsOf 88 = 33 := by kernel_rfl
@[simp] theorem tb88 : Try.prog.bytesOf 88 = 264 := by kernel_rfl
attribute [simp] Try.underlying88
noncomputable def ti88 : TypeInfo := (Try.prog.info? 88).getD default
@[simp] theorem te88 : Try.prog.info? 88 = some ti88 := by kernel_rfl
@[simp] theorem ts88 : ti88.size = 33 := by kernel_rfl
@[simp] theorem tz88 : zeroV Try.prog 88 = some [.lit (.int .u32 0), .lit (.int .i64 0), .lit (.bool false), .lit (.int .u32 0), .lit (.int .i64 0), .lit (.bool false), .lit (.int .u32 0), .lit (.int .i64 0), .lit (.bool false), .lit (.int .u32 0), .lit (.int .i64 0), .lit (.bool false), .lit (.int .u32 0), .lit (.int .i64 0), .lit (.bool false), .lit (.int .u32 0), .lit (.int .i64 0), .lit (.bool false), .lit (.int .u32 0), .lit (.int .i64 0), .lit (.bool false), .lit (.int .u32 0), .lit (.int .i64 0), .lit (.bool false), .lit (.int .u32 0), .lit (.int .i64 0), .lit (.bool false), .lit (.int .u32 0), .lit (.int .i64 0), .lit (.bool false), .lit (.int .u32 0), .lit (.int .i64 0), .lit (.bool false)] := by kernel_rfl
@[simp] theorem tc89 : Try.prog.cellsOf 89 = 660 := by kernel_rfl
@[simp] theorem tb89 : Try.prog.bytesOf 89 = 5280 := by kernel_rfl
attribute [simp] Try.underlying89
noncomputable def ti89 : TypeInfo := (Try.prog.info? 89).getD default
@[simp] theorem te89 : Try.prog.info? 89 = some ti89 := by kernel_rfl
@[simp] theorem ts89 : ti89.size = 660 := by kernel_rfl
@[simp] theorem tc90 : Try.prog.cellsOf 90 = 662 := by kernel_rfl
@[simp] theorem tb90 : Try.prog.bytesOf 90 = 5328 := by kernel_rfl
attribute [simp] Try.underlying90
noncomputable def ti90 : TypeInfo := (Try.prog.info? 90).getD default
@[simp] theorem te90 : Try.prog.info? 90 = some ti90 := by kernel_rfl
@[simp] theorem ts90 : ti90.size = 662 := by kernel_rfl
@[simp] theorem tc91 : Try.prog.cellsOf 91 = 662 := by kernel_rfl
@[simp] theorem tb91 : Try.prog.bytesOf 91 = 5328 := by kernel_rfl
attribute [simp] Try.underlying91
noncomputable def ti91 : TypeInfo := (Try.prog.info? 91).getD default
@[simp] theorem te91 : Try.prog.info? 91 = some ti91 := by kernel_rfl
@[simp] theorem ts91 : ti91.size = 662 := by kernel_rfl
@[simp] theorem tc99 : Try.prog.cellsOf 99 = 4 := by kernel_rfl
@[simp] theorem tb99 : Try.prog.bytesOf 99 = 40 := by kernel_rfl
attribute [simp] Try.underlying99
noncomputable def ti99 : TypeInfo := (Try.prog.info? 99).getD default
@[simp] theorem te99 : Try.prog.info? 99 = some ti99 := by kernel_rfl
@[simp] theorem ts99 : ti99.size = 4 := by kernel_rfl
@[simp] theorem tc100 : Try.prog.cellsOf 100 = 4 := by kernel_rfl
@[simp] theorem tb100 : Try.prog.bytesOf 100 = 40 := by kernel_rfl
attribute [simp] Try.underlying100
noncomputable def ti100 : TypeInfo := (Try.prog.info? 100).getD default
@[simp] theorem te100 : Try.prog.info? 100 = some ti100 := by kernel_rfl
@[simp] theorem ts100 : ti100.size = 4 := by kernel_rfl
@[simp] theorem tc101 : Try.prog.cellsOf 101 = 0 := by kernel_rfl
@[simp] theorem tb101 : Try.prog.bytesOf 101 = 0 := by kernel_rfl
attribute [simp] Try.underlying101
noncomputable def ti101 : TypeInfo := (Try.prog.info? 101).getD default
@[simp] theorem te101 : Try.prog.info? 101 = some ti101 := by kernel_rfl
@[simp] theorem ts101 : ti101.size = 0 := by kernel_rfl
@[simp] theorem tc102 : Try.prog.cellsOf 102 = 0 := by kernel_rfl
@[simp] theorem tb102 : Try.prog.bytesOf 102 = 0 := by kernel_rfl
attribute [simp] Try.underlying102
noncomputable def ti102 : TypeInfo := (Try.prog.info? 102).getD default
@[simp] theorem te102 : Try.prog.info? 102 = some ti102 := by kernel_rfl
@[simp] theorem ts102 : ti102.size = 0 := by kernel_rfl
@[simp] theorem tc103 : Try.prog.cellsOf 103 = 0 := by kernel_rfl
@[simp] theorem tb103 : Try.prog.bytesOf 103 = 0 := by kernel_rfl
attribute [simp] Try.underlying103
noncomputable def ti103 : TypeInfo := (Try.prog.info? 103).getD default
@[simp] theorem te103 : Try.prog.info? 103 = some ti103 := by kernel_rfl
@[simp] theorem ts103 : ti103.size = 0 := by kernel_rfl
@[simp] theorem tc105 : Try.prog.cellsOf 105 = 1 := by kernel_rfl
@[simp] theorem tb105 : Try.prog.bytesOf 105 = 1 := by kernel_rfl
attribute [simp] Try.underlying105
noncomputable def ti105 : TypeInfo := (Try.prog.info? 105).getD default
@[simp] theorem te105 : Try.prog.info? 105 = some ti105 := by kernel_rfl
@[simp] theorem ts105 : ti105.size = 1 := by kernel_rfl
@[simp] theorem tz105 : zeroV Try.prog 105 = some [.lit (.int .u8 0)] := by kernel_rfl
@[simp] theorem tc106 : Try.prog.cellsOf 106 = 1 := by kernel_rfl
@[simp] theorem tb106 : Try.prog.bytesOf 106 = 1 := by kernel_rfl
attribute [simp] Try.underlying106
noncomputable def ti106 : TypeInfo := (Try.prog.info? 106).getD default
@[simp] theorem te106 : Try.prog.info? 106 = some ti106 := by kernel_rfl
@[simp] theorem ts106 : ti106.size = 1 := by kernel_rfl
@[simp] theorem tz106 : zeroV Try.prog 106 = some [.lit (.int .u8 0)] := by kernel_rfl
@[simp] theorem tc109 : Try.prog.cellsOf 109 = 1 := by kernel_rfl
@[simp] theorem tb109 : Try.prog.bytesOf 109 = 4 := by kernel_rfl
attribute [simp] Try.underlying109
noncomputable def ti109 : TypeInfo := (Try.prog.info? 109).getD default
@[simp] theorem te109 : Try.prog.info? 109 = some ti109 := by kernel_rfl
@[simp] theorem ts109 : ti109.size = 1 := by kernel_rfl
@[simp] theorem tz109 : zeroV Try.prog 109 = some [.lit (.int .i32 0)] := by kernel_rfl
@[simp] theorem tc110 : Try.prog.cellsOf 110 = 1 := by kernel_rfl
@[simp] theorem tb110 : Try.prog.bytesOf 110 = 4 := by kernel_rfl
attribute [simp] Try.underlying110
noncomputable def ti110 : TypeInfo := (Try.prog.info? 110).getD default
@[simp] theorem te110 : Try.prog.info? 110 = some ti110 := by kernel_rfl
@[simp] theorem ts110 : ti110.size = 1 := by kernel_rfl
@[simp] theorem tz110 : zeroV Try.prog 110 = some [.lit (.int .i32 0)] := by kernel_rfl
@[simp] theorem tc111 : Try.prog.cellsOf 111 = 11 := by kernel_rfl
@[simp] theorem tb111 : Try.prog.bytesOf 111 = 48 := by kernel_rfl
attribute [simp] Try.underlying111
noncomputable def ti111 : TypeInfo := (Try.prog.info? 111).getD default
@[simp] theorem te111 : Try.prog.info? 111 = some ti111 := by kernel_rfl
@[simp] theorem ts111 : ti111.size = 11 := by kernel_rfl
@[simp] theorem tc112 : Try.prog.cellsOf 112 = 11 := by kernel_rfl
@[simp] theorem tb112 : Try.prog.bytesOf 112 = 48 := by kernel_rfl
attribute [simp] Try.underlying112
noncomputable def ti112 : TypeInfo := (Try.prog.info? 112).getD default
@[simp] theorem te112 : Try.prog.info? 112 = some ti112 := by kernel_rfl
@[simp] theorem ts112 : ti112.size = 11 := by kernel_rfl
end Go.Proofs.Ytanglbgincgmaaa.Vm

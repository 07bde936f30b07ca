/-
  The facts of the seat's types. Written by a program of mine (facts.py).
-/
import Derived.Test.YtjdhdpbdaabdmaaDoorVmCon
import Derived.Test.YtjdhdpbdaabdmaaDoorProg
namespace Go.Proofs.YtjdhdpbdaabdmaaDoor.Vm
open Go Go.RowKit Go.Proofs
set_option linter.unusedVariables false
theorem mixed : Tryd.prog.follows .mixedOrders = true := by kernel_rfl
@[simp] theorem tc2 : Tryd.prog.cellsOf 2 = 1 := by kernel_rfl
@[simp] theorem tb2 : Tryd.prog.bytesOf 2 = 8 := by kernel_rfl
attribute [simp] Tryd.underlying2
noncomputable def ti2 : TypeInfo := (Tryd.prog.info? 2).getD default
@[simp] theorem te2 : Tryd.prog.info? 2 = some ti2 := by kernel_rfl
@[simp] theorem ts2 : ti2.size = 1 := by kernel_rfl
@[simp] theorem tz2 : zeroV Tryd.prog 2 = some [.lit (.int .i64 0)] := by kernel_rfl
@[simp] theorem tc3 : Tryd.prog.cellsOf 3 = 1 := by kernel_rfl
@[simp] theorem tb3 : Tryd.prog.bytesOf 3 = 8 := by kernel_rfl
attribute [simp] Tryd.underlying3
noncomputable def ti3 : TypeInfo := (Tryd.prog.info? 3).getD default
@[simp] theorem te3 : Tryd.prog.info? 3 = some ti3 := by kernel_rfl
@[simp] theorem ts3 : ti3.size = 1 := by kernel_rfl
@[simp] theorem tz3 : zeroV Tryd.prog 3 = some [.lit (.int .i64 0)] := by kernel_rfl
@[simp] theorem tc4 : Tryd.prog.cellsOf 4 = 1 := by kernel_rfl
@[simp] theorem tb4 : Tryd.prog.bytesOf 4 = 1 := by kernel_rfl
attribute [simp] Tryd.underlying4
noncomputable def ti4 : TypeInfo := (Tryd.prog.info? 4).getD default
@[simp] theorem te4 : Tryd.prog.info? 4 = some ti4 := by kernel_rfl
@[simp] theorem ts4 : ti4.size = 1 := by kernel_rfl
@[simp] theorem tz4 : zeroV Tryd.prog 4 = some [.lit (.bool false)] := by kernel_rfl
@[simp] theorem tc5 : Tryd.prog.cellsOf 5 = 1 := by kernel_rfl
@[simp] theorem tb5 : Tryd.prog.bytesOf 5 = 1 := by kernel_rfl
attribute [simp] Tryd.underlying5
noncomputable def ti5 : TypeInfo := (Tryd.prog.info? 5).getD default
@[simp] theorem te5 : Tryd.prog.info? 5 = some ti5 := by kernel_rfl
@[simp] theorem ts5 : ti5.size = 1 := by kernel_rfl
@[simp] theorem tz5 : zeroV Tryd.prog 5 = some [.lit (.int .u8 0)] := by kernel_rfl
@[simp] theorem tc6 : Tryd.prog.cellsOf 6 = 1 := by kernel_rfl
@[simp] theorem tb6 : Tryd.prog.bytesOf 6 = 1 := by kernel_rfl
attribute [simp] Tryd.underlying6
noncomputable def ti6 : TypeInfo := (Tryd.prog.info? 6).getD default
@[simp] theorem te6 : Tryd.prog.info? 6 = some ti6 := by kernel_rfl
@[simp] theorem ts6 : ti6.size = 1 := by kernel_rfl
@[simp] theorem tz6 : zeroV Tryd.prog 6 = some [.lit (.int .u8 0)] := by kernel_rfl
@[simp] theorem tc7 : Tryd.prog.cellsOf 7 = 4 := by kernel_rfl
@[simp] theorem tb7 : Tryd.prog.bytesOf 7 = 24 := by kernel_rfl
attribute [simp] Tryd.underlying7
noncomputable def ti7 : TypeInfo := (Tryd.prog.info? 7).getD default
@[simp] theorem te7 : Tryd.prog.info? 7 = some ti7 := by kernel_rfl
@[simp] theorem ts7 : ti7.size = 4 := by kernel_rfl
@[simp] theorem tz7 : zeroV Tryd.prog 7 = some [.lit (.int .i64 0), .lit (.int .i64 0), .lit (.bool false), .lit (.int .u8 0)] := by kernel_rfl
@[simp] theorem tc8 : Tryd.prog.cellsOf 8 = 4 := by kernel_rfl
@[simp] theorem tb8 : Tryd.prog.bytesOf 8 = 24 := by kernel_rfl
attribute [simp] Tryd.underlying8
noncomputable def ti8 : TypeInfo := (Tryd.prog.info? 8).getD default
@[simp] theorem te8 : Tryd.prog.info? 8 = some ti8 := by kernel_rfl
@[simp] theorem ts8 : ti8.size = 4 := by kernel_rfl
@[simp] theorem tz8 : zeroV Tryd.prog 8 = some [.lit (.int .i64 0), .lit (.int .i64 0), .lit (.bool false), .lit (.int .u8 0)] := by kernel_rfl
@[simp] theorem tc9 : Tryd.prog.cellsOf 9 = 1 := by kernel_rfl
@[simp] theorem tb9 : Tryd.prog.bytesOf 9 = 16 := by kernel_rfl
attribute [simp] Tryd.underlying9
noncomputable def ti9 : TypeInfo := (Tryd.prog.info? 9).getD default
@[simp] theorem te9 : Tryd.prog.info? 9 = some ti9 := by kernel_rfl
@[simp] theorem ts9 : ti9.size = 1 := by kernel_rfl
@[simp] theorem tz9 : zeroV Tryd.prog 9 = some [.lit (.string ByteArray.empty)] := by kernel_rfl
@[simp] theorem tc10 : Tryd.prog.cellsOf 10 = 1 := by kernel_rfl
@[simp] theorem tb10 : Tryd.prog.bytesOf 10 = 16 := by kernel_rfl
attribute [simp] Tryd.underlying10
noncomputable def ti10 : TypeInfo := (Tryd.prog.info? 10).getD default
@[simp] theorem te10 : Tryd.prog.info? 10 = some ti10 := by kernel_rfl
@[simp] theorem ts10 : ti10.size = 1 := by kernel_rfl
@[simp] theorem tz10 : zeroV Tryd.prog 10 = some [.lit (.string ByteArray.empty)] := by kernel_rfl
@[simp] theorem tc11 : Tryd.prog.cellsOf 11 = 1 := by kernel_rfl
@[simp] theorem tb11 : Tryd.prog.bytesOf 11 = 16 := by kernel_rfl
attribute [simp] Tryd.underlying11
noncomputable def ti11 : TypeInfo := (Tryd.prog.info? 11).getD default
@[simp] theorem te11 : Tryd.prog.info? 11 = some ti11 := by kernel_rfl
@[simp] theorem ts11 : ti11.size = 1 := by kernel_rfl
@[simp] theorem tz11 : zeroV Tryd.prog 11 = some [.lit (.string ByteArray.empty)] := by kernel_rfl
@[simp] theorem tc12 : Tryd.prog.cellsOf 12 = 1 := by kernel_rfl
@[simp] theorem tb12 : Tryd.prog.bytesOf 12 = 8 := by kernel_rfl
attribute [simp] Tryd.underlying12
noncomputable def ti12 : TypeInfo := (Tryd.prog.info? 12).getD default
@[simp] theorem te12 : Tryd.prog.info? 12 = some ti12 := by kernel_rfl
@[simp] theorem ts12 : ti12.size = 1 := by kernel_rfl
@[simp] theorem tz12 : zeroV Tryd.prog 12 = some [.lit (.int .u64 0)] := by kernel_rfl
@[simp] theorem tc13 : Tryd.prog.cellsOf 13 = 2 := by kernel_rfl
@[simp] theorem tb13 : Tryd.prog.bytesOf 13 = 24 := by kernel_rfl
attribute [simp] Tryd.underlying13
noncomputable def ti13 : TypeInfo := (Tryd.prog.info? 13).getD default
@[simp] theorem te13 : Tryd.prog.info? 13 = some ti13 := by kernel_rfl
@[simp] theorem ts13 : ti13.size = 2 := by kernel_rfl
@[simp] theorem tz13 : zeroV Tryd.prog 13 = some [.lit (.string ByteArray.empty), .lit (.int .u64 0)] := by kernel_rfl
@[simp] theorem tc14 : Tryd.prog.cellsOf 14 = 2 := by kernel_rfl
@[simp] theorem tb14 : Tryd.prog.bytesOf 14 = 24 := by kernel_rfl
attribute [simp] Tryd.underlying14
noncomputable def ti14 : TypeInfo := (Tryd.prog.info? 14).getD default
@[simp] theorem te14 : Tryd.prog.info? 14 = some ti14 := by kernel_rfl
@[simp] theorem ts14 : ti14.size = 2 := by kernel_rfl
@[simp] theorem tz14 : zeroV Tryd.prog 14 = some [.lit (.string ByteArray.empty), .lit (.int .u64 0)] := by kernel_rfl
@[simp] theorem tc18 : Tryd.prog.cellsOf 18 = 1 := by kernel_rfl
@[simp] theorem tb18 : Tryd.prog.bytesOf 18 = 8 := by kernel_rfl
attribute [simp] Tryd.underlying18
noncomputable def ti18 : TypeInfo := (Tryd.prog.info? 18).getD default
@[simp] theorem te18 : Tryd.prog.info? 18 = some ti18 := by kernel_rfl
@[simp] theorem ts18 : ti18.size = 1 := by kernel_rfl
@[simp] theorem tc19 : Tryd.prog.cellsOf 19 = 1 := by kernel_rfl
@[simp] theorem tb19 : Tryd.prog.bytesOf 19 = 8 := by kernel_rfl
attribute [simp] Tryd.underlying19
noncomputable def ti19 : TypeInfo := (Tryd.prog.info? 19).getD default
@[simp] theorem te19 : Tryd.prog.info? 19 = some ti19 := by kernel_rfl
@[simp] theorem ts19 : ti19.size = 1 := by kernel_rfl
@[simp] theorem tc21 : Tryd.prog.cellsOf 21 = 1 := by kernel_rfl
@[simp] theorem tb21 : Tryd.prog.bytesOf 21 = 4 := by kernel_rfl
attribute [simp] Tryd.underlying21
noncomputable def ti21 : TypeInfo := (Tryd.prog.info? 21).getD default
@[simp] theorem te21 : Tryd.prog.info? 21 = some ti21 := by kernel_rfl
@[simp] theorem ts21 : ti21.size = 1 := by kernel_rfl
@[simp] theorem tz21 : zeroV Tryd.prog 21 = some [.lit (.int .i32 0)] := by kernel_rfl
@[simp] theorem tc22 : Tryd.prog.cellsOf 22 = 1 := by kernel_rfl
@[simp] theorem tb22 : Tryd.prog.bytesOf 22 = 24 := by kernel_rfl
attribute [simp] Tryd.underlying22
noncomputable def ti22 : TypeInfo := (Tryd.prog.info? 22).getD default
@[simp] theorem te22 : Tryd.prog.info? 22 = some ti22 := by kernel_rfl
@[simp] theorem ts22 : ti22.size = 1 := by kernel_rfl
@[simp] theorem tz22 : zeroV Tryd.prog 22 = some [.lit (.slice none 0 0)] := by kernel_rfl
@[simp] theorem tc23 : Tryd.prog.cellsOf 23 = 2 := by kernel_rfl
@[simp] theorem tb23 : Tryd.prog.bytesOf 23 = 32 := by kernel_rfl
attribute [simp] Tryd.underlying23
noncomputable def ti23 : TypeInfo := (Tryd.prog.info? 23).getD default
@[simp] theorem te23 : Tryd.prog.info? 23 = some ti23 := by kernel_rfl
@[simp] theorem ts23 : ti23.size = 2 := by kernel_rfl
@[simp] theorem tz23 : zeroV Tryd.prog 23 = some [.lit (.int .i64 0), .lit (.slice none 0 0)] := by kernel_rfl
@[simp] theorem tc24 : Tryd.prog.cellsOf 24 = 2 := by kernel_rfl
@[simp] theorem tb24 : Tryd.prog.bytesOf 24 = 32 := by kernel_rfl
attribute [simp] Tryd.underlying24
noncomputable def ti24 : TypeInfo := (Tryd.prog.info? 24).getD default
@[simp] theorem te24 : Tryd.prog.info? 24 = some ti24 := by kernel_rfl
@[simp] theorem ts24 : ti24.size = 2 := by kernel_rfl
@[simp] theorem tz24 : zeroV Tryd.prog 24 = some [.lit (.int .i64 0), .lit (.slice none 0 0)] := by kernel_rfl
@[simp] theorem tc27 : Tryd.prog.cellsOf 27 = 1 := by kernel_rfl
@[simp] theorem tb27 : Tryd.prog.bytesOf 27 = 24 := by kernel_rfl
attribute [simp] Tryd.underlying27
noncomputable def ti27 : TypeInfo := (Tryd.prog.info? 27).getD default
@[simp] theorem te27 : Tryd.prog.info? 27 = some ti27 := by kernel_rfl
@[simp] theorem ts27 : ti27.size = 1 := by kernel_rfl
@[simp] theorem tz27 : zeroV Tryd.prog 27 = some [.lit (.slice none 0 0)] := by kernel_rfl
@[simp] theorem tc28 : Tryd.prog.cellsOf 28 = 2 := by kernel_rfl
@[simp] theorem tb28 : Tryd.prog.bytesOf 28 = 32 := by kernel_rfl
attribute [simp] Tryd.underlying28
noncomputable def ti28 : TypeInfo := (Tryd.prog.info? 28).getD default
@[simp] theorem te28 : Tryd.prog.info? 28 = some ti28 := by kernel_rfl
@[simp] theorem ts28 : ti28.size = 2 := by kernel_rfl
@[simp] theorem tz28 : zeroV Tryd.prog 28 = some [.lit (.int .i64 0), .lit (.slice none 0 0)] := by kernel_rfl
@[simp] theorem tc29 : Tryd.prog.cellsOf 29 = 2 := by kernel_rfl
@[simp] theorem tb29 : Tryd.prog.bytesOf 29 = 32 := by kernel_rfl
attribute [simp] Tryd.underlying29
noncomputable def ti29 : TypeInfo := (Tryd.prog.info? 29).getD default
@[simp] theorem te29 : Tryd.prog.info? 29 = some ti29 := by kernel_rfl
@[simp] theorem ts29 : ti29.size = 2 := by kernel_rfl
@[simp] theorem tz29 : zeroV Tryd.prog 29 = some [.lit (.int .i64 0), .lit (.slice none 0 0)] := by kernel_rfl
@[simp] theorem tc33 : Tryd.prog.cellsOf 33 = 1 := by kernel_rfl
@[simp] theorem tb33 : Tryd.prog.bytesOf 33 = 24 := by kernel_rfl
attribute [simp] Tryd.underlying33
noncomputable def ti33 : TypeInfo := (Tryd.prog.info? 33).getD default
@[simp] theorem te33 : Tryd.prog.info? 33 = some ti33 := by kernel_rfl
@[simp] theorem ts33 : ti33.size = 1 := by kernel_rfl
@[simp] theorem tz33 : zeroV Tryd.prog 33 = some [.lit (.slice none 0 0)] := by kernel_rfl
@[simp] theorem tc34 : Tryd.prog.cellsOf 34 = 1 := by kernel_rfl
@[simp] theorem tb34 : Tryd.prog.bytesOf 34 = 24 := by kernel_rfl
attribute [simp] Tryd.underlying34
noncomputable def ti34 : TypeInfo := (Tryd.prog.info? 34).getD default
@[simp] theorem te34 : Tryd.prog.info? 34 = some ti34 := by kernel_rfl
@[simp] theorem ts34 : ti34.size = 1 := by kernel_rfl
@[simp] theorem tz34 : zeroV Tryd.prog 34 = some [.lit (.slice none 0 0)] := by kernel_rfl
@[simp] theorem tc35 : Tryd.prog.cellsOf 35 = 1 := by kernel_rfl
@[simp] theorem tb35 : Tryd.prog.bytesOf 35 = 24 := by kernel_rfl
attribute [simp] Tryd.underlying35
noncomputable def ti35 : TypeInfo := (Tryd.prog.info? 35).getD default
@[simp] theorem te35 : Tryd.prog.info? 35 = some ti35 := by kernel_rfl
@[simp] theorem ts35 : ti35.size = 1 := by kernel_rfl
@[simp] theorem tz35 : zeroV Tryd.prog 35 = some [.lit (.slice none 0 0)] := by kernel_rfl
@[simp] theorem tc36 : Tryd.prog.cellsOf 36 = 1 := by kernel_rfl
@[simp] theorem tb36 : Tryd.prog.bytesOf 36 = 24 := by kernel_rfl
attribute [simp] Tryd.underlying36
noncomputable def ti36 : TypeInfo := (Tryd.prog.info? 36).getD default
@[simp] theorem te36 : Tryd.prog.info? 36 = some ti36 := by kernel_rfl
@[simp] theorem ts36 : ti36.size = 1 := by kernel_rfl
@[simp] theorem tz36 : zeroV Tryd.prog 36 = some [.lit (.slice none 0 0)] := by kernel_rfl
@[simp] theorem tc37 : Tryd.prog.cellsOf 37 = 1 := by kernel_rfl
@[simp] theorem tb37 : Tryd.prog.bytesOf 37 = 24 := by kernel_rfl
attribute [simp] Tryd.underlying37
noncomputable def ti37 : TypeInfo := (Tryd.prog.info? 37).getD default
@[simp] theorem te37 : Tryd.prog.info? 37 = some ti37 := by kernel_rfl
@[simp] theorem ts37 : ti37.size = 1 := by kernel_rfl
@[simp] theorem tz37 : zeroV Tryd.prog 37 = some [.lit (.slice none 0 0)] := by kernel_rfl
@[simp] theorem tc38 : Tryd.prog.cellsOf 38 = 1 := by kernel_rfl
@[simp] theorem tb38 : Tryd.prog.bytesOf 38 = 24 := by kernel_rfl
attribute [simp] Tryd.underlying38
noncomputable def ti38 : TypeInfo := (Tryd.prog.info? 38).getD default
@[simp] theorem te38 : Tryd.prog.info? 38 = some ti38 := by kernel_rfl
@[simp] theorem ts38 : ti38.size = 1 := by kernel_rfl
@[simp] theorem tz38 : zeroV Tryd.prog 38 = some [.lit (.slice none 0 0)] := by kernel_rfl
@[simp] theorem tc39 : Tryd.prog.cellsOf 39 = 7 := by kernel_rfl
@[simp] theorem tb39 : Tryd.prog.bytesOf 39 = 104 := by kernel_rfl
attribute [simp] Tryd.underlying39
noncomputable def ti39 : TypeInfo := (Tryd.prog.info? 39).getD default
@[simp] theorem te39 : Tryd.prog.info? 39 = some ti39 := by kernel_rfl
@[simp] theorem ts39 : ti39.size = 7 := by kernel_rfl
@[simp] theorem tz39 : zeroV Tryd.prog 39 = some [.lit (.int .i64 0), .lit (.int .i64 0), .lit (.int .i64 0), .lit (.int .i64 0), .lit (.slice none 0 0), .lit (.slice none 0 0), .lit (.slice none 0 0)] := by kernel_rfl
@[simp] theorem tc40 : Tryd.prog.cellsOf 40 = 7 := by kernel_rfl
@[simp] theorem tb40 : Tryd.prog.bytesOf 40 = 104 := by kernel_rfl
attribute [simp] Tryd.underlying40
noncomputable def ti40 : TypeInfo := (Tryd.prog.info? 40).getD default
@[simp] theorem te40 : Tryd.prog.info? 40 = some ti40 := by kernel_rfl
@[simp] theorem ts40 : ti40.size = 7 := by kernel_rfl
@[simp] theorem tz40 : zeroV Tryd.prog 40 = some [.lit (.int .i64 0), .lit (.int .i64 0), .lit (.int .i64 0), .lit (.int .i64 0), .lit (.slice none 0 0), .lit (.slice none 0 0), .lit (.slice none 0 0)] := by kernel_rfl
@[simp] theorem tc41 : Tryd.prog.cellsOf 41 = 10 := by kernel_rfl
@[simp] theorem tb41 : Tryd.prog.bytesOf 41 = 144 := by kernel_rfl
attribute [simp] Tryd.underlying41
noncomputable def ti41 : TypeInfo := (Tryd.prog.info? 41).getD default
@[simp] theorem te41 : Tryd.prog.info? 41 = some ti41 := by kernel_rfl
@[simp] theorem ts41 : ti41.size = 10 := by kernel_rfl
@[simp] theorem tz41 : zeroV Tryd.prog 41 = some [.lit (.int .i64 0), .lit (.int .i64 0), .lit (.slice none 0 0), .lit (.int .i64 0), .lit (.int .i64 0), .lit (.int .i64 0), .lit (.int .i64 0), .lit (.slice none 0 0), .lit (.slice none 0 0), .lit (.slice none 0 0)] := by kernel_rfl
@[simp] theorem tc42 : Tryd.prog.cellsOf 42 = 10 := by kernel_rfl
@[simp] theorem tb42 : Tryd.prog.bytesOf 42 = 144 := by kernel_rfl
attribute [simp] Tryd.underlying42
noncomputable def ti42 : TypeInfo := (Tryd.prog.info? 42).getD default
@[simp] theorem te42 : Tryd.prog.info? 42 = some ti42 := by kernel_rfl
@[simp] theorem ts42 : ti42.size = 10 := by kernel_rfl
@[simp] theorem tz42 : zeroV Tryd.prog 42 = some [.lit (.int .i64 0), .lit (.int .i64 0), .lit (.slice none 0 0), .lit (.int .i64 0), .lit (.int .i64 0), .lit (.int .i64 0), .lit (.int .i64 0), .lit (.slice none 0 0), .lit (.slice none 0 0), .lit (.slice none 0 0)] := by kernel_rfl
@[simp] theorem tc45 : Tryd.prog.cellsOf 45 = 1 := by kernel_rfl
@[simp] theorem tb45 : Tryd.prog.bytesOf 45 = 24 := by kernel_rfl
attribute [simp] Tryd.underlying45
noncomputable def ti45 : TypeInfo := (Tryd.prog.info? 45).getD default
@[simp] theorem te45 : Tryd.prog.info? 45 = some ti45 := by kernel_rfl
@[simp] theorem ts45 : ti45.size = 1 := by kernel_rfl
@[simp] theorem tz45 : zeroV Tryd.prog 45 = some [.lit (.slice none 0 0)] := by kernel_rfl
@[simp] theorem tc46 : Tryd.prog.cellsOf 46 = 1 := by kernel_rfl
@[simp] theorem tb46 : Tryd.prog.bytesOf 46 = 24 := by kernel_rfl
attribute [simp] Tryd.underlying46
noncomputable def ti46 : TypeInfo := (Tryd.prog.info? 46).getD default
@[simp] theorem te46 : Tryd.prog.info? 46 = some ti46 := by kernel_rfl
@[simp] theorem ts46 : ti46.size = 1 := by kernel_rfl
@[simp] theorem tz46 : zeroV Tryd.prog 46 = some [.lit (.slice none 0 0)] := by kernel_rfl
@[simp] theorem tc47 : Tryd.prog.cellsOf 47 = 1 := by kernel_rfl
@[simp] theorem tb47 : Tryd.prog.bytesOf 47 = 24 := by kernel_rfl
attribute [simp] Tryd.underlying47
noncomputable def ti47 : TypeInfo := (Tryd.prog.info? 47).getD default
@[simp] theorem te47 : Tryd.prog.info? 47 = some ti47 := by kernel_rfl
@[simp] theorem ts47 : ti47.size = 1 := by kernel_rfl
@[simp] theorem tz47 : zeroV Tryd.prog 47 = some [.lit (.slice none 0 0)] := by kernel_rfl
@[simp] theorem tc48 : Tryd.prog.cellsOf 48 = 1 := by kernel_rfl
@[simp] theorem tb48 : Tryd.prog.bytesOf 48 = 24 := by kernel_rfl
attribute [simp] Tryd.underlying48
noncomputable def ti48 : TypeInfo := (Tryd.prog.info? 48).getD default
@[simp] theorem te48 : Tryd.prog.info? 48 = some ti48 := by kernel_rfl
@[simp] theorem ts48 : ti48.size = 1 := by kernel_rfl
@[simp] theorem tz48 : zeroV Tryd.prog 48 = some [.lit (.slice none 0 0)] := by kernel_rfl
@[simp] theorem tc49 : Tryd.prog.cellsOf 49 = 1 := by kernel_rfl
@[simp] theorem tb49 : Tryd.prog.bytesOf 49 = 24 := by kernel_rfl
attribute [simp] Tryd.underlying49
noncomputable def ti49 : TypeInfo := (Tryd.prog.info? 49).getD default
@[simp] theorem te49 : Tryd.prog.info? 49 = some ti49 := by kernel_rfl
@[simp] theorem ts49 : ti49.size = 1 := by kernel_rfl
@[simp] theorem tz49 : zeroV Tryd.prog 49 = some [.lit (.slice none 0 0)] := by kernel_rfl
@[simp] theorem tc50 : Tryd.prog.cellsOf 50 = 7 := by kernel_rfl
@[simp] theorem tb50 : Tryd.prog.bytesOf 50 = 104 := by kernel_rfl
attribute [simp] Tryd.underlying50
noncomputable def ti50 : TypeInfo := (Tryd.prog.info? 50).getD default
@[simp] theorem te50 : Tryd.prog.info? 50 = some ti50 := by kernel_rfl
@[simp] theorem ts50 : ti50.size = 7 := by kernel_rfl
@[simp] theorem tz50 : zeroV Tryd.prog 50 = some [.lit (.int .i64 0), .lit (.int .i64 0), .lit (.int .i64 0), .lit (.int .i64 0), .lit (.slice none 0 0), .lit (.slice none 0 0), .lit (.slice none 0 0)] := by kernel_rfl
@[simp] theorem tc51 : Tryd.prog.cellsOf 51 = 7 := by kernel_rfl
@[simp] theorem tb51 : Tryd.prog.bytesOf 51 = 104 := by kernel_rfl
attribute [simp] Tryd.underlying51
noncomputable def ti51 : TypeInfo := (Tryd.prog.info? 51).getD default
@[simp] theorem te51 : Tryd.prog.info? 51 = some ti51 := by kernel_rfl
@[simp] theorem ts51 : ti51.size = 7 := by kernel_rfl
@[simp] theorem tz51 : zeroV Tryd.prog 51 = some [.lit (.int .i64 0), .lit (.int .i64 0), .lit (.int .i64 0), .lit (.int .i64 0), .lit (.slice none 0 0), .lit (.slice none 0 0), .lit (.slice none 0 0)] := by kernel_rfl
@[simp] theorem tc52 : Tryd.prog.cellsOf 52 = 10 := by kernel_rfl
@[simp] theorem tb52 : Tryd.prog.bytesOf 52 = 144 := by kernel_rfl
attribute [simp] Tryd.underlying52
noncomputable def ti52 : TypeInfo := (Tryd.prog.info? 52).getD default
@[simp] theorem te52 : Tryd.prog.info? 52 = some ti52 := by kernel_rfl
@[simp] theorem ts52 : ti52.size = 10 := by kernel_rfl
@[simp] theorem tz52 : zeroV Tryd.prog 52 = some [.lit (.int .i64 0), .lit (.int .i64 0), .lit (.slice none 0 0), .lit (.int .i64 0), .lit (.int .i64 0), .lit (.int .i64 0), .lit (.int .i64 0), .lit (.slice none 0 0), .lit (.slice none 0 0), .lit (.slice none 0 0)] := by kernel_rfl
@[simp] theorem tc53 : Tryd.prog.cellsOf 53 = 10 := by kernel_rfl
@[simp] theorem tb53 : Tryd.prog.bytesOf 53 = 144 := by kernel_rfl
attribute [simp] Tryd.underlying53
noncomputable def ti53 : TypeInfo := (Tryd.prog.info? 53).getD default
@[simp] theorem te53 : Tryd.prog.info? 53 = some ti53 := by kernel_rfl
@[simp] theorem ts53 : ti53.size = 10 := by kernel_rfl
@[simp] theorem tz53 : zeroV Tryd.prog 53 = some [.lit (.int .i64 0), .lit (.int .i64 0), .lit (.slice none 0 0), .lit (.int .i64 0), .lit (.int .i64 0), .lit (.int .i64 0), .lit (.int .i64 0), .lit (.slice none 0 0), .lit (.slice none 0 0), .lit (.slice none 0 0)] := by kernel_rfl
@[simp] theorem tc57 : Tryd.prog.cellsOf 57 = 1 := by kernel_rfl
@[simp] theorem tb57 : Tryd.prog.bytesOf 57 = 24 := by kernel_rfl
attribute [simp] Tryd.underlying57
noncomputable def ti57 : TypeInfo := (Tryd.prog.info? 57).getD default
@[simp] theorem te57 : Tryd.prog.info? 57 = some ti57 := by kernel_rfl
@[simp] theorem ts57 : ti57.size = 1 := by kernel_rfl
@[simp] theorem tz57 : zeroV Tryd.prog 57 = some [.lit (.slice none 0 0)] := by kernel_rfl
@[simp] theorem tc58 : Tryd.prog.cellsOf 58 = 1 := by kernel_rfl
@[simp] theorem tb58 : Tryd.prog.bytesOf 58 = 24 := by kernel_rfl
attribute [simp] Tryd.underlying58
noncomputable def ti58 : TypeInfo := (Tryd.prog.info? 58).getD default
@[simp] theorem te58 : Tryd.prog.info? 58 = some ti58 := by kernel_rfl
@[simp] theorem ts58 : ti58.size = 1 := by kernel_rfl
@[simp] theorem tz58 : zeroV Tryd.prog 58 = some [.lit (.slice none 0 0)] := by kernel_rfl
@[simp] theorem tc59 : Tryd.prog.cellsOf 59 = 10 := by kernel_rfl
@[simp] theorem tb59 : Tryd.prog.bytesOf 59 = 112 := by kernel_rfl
attribute [simp] Tryd.underlying59
noncomputable def ti59 : TypeInfo := (Tryd.prog.info? 59).getD default
@[simp] theorem te59 : Tryd.prog.info? 59 = some ti59 := by kernel_rfl
@[simp] theorem ts59 : ti59.size = 10 := by kernel_rfl
@[simp] theorem tz59 : zeroV Tryd.prog 59 = some [.lit (.int .i64 0), .lit (.int .i64 0), .lit (.int .i64 0), .lit (.int .i64 0), .lit (.int .i64 0), .lit (.int .i64 0), .lit (.int .i64 0), .lit (.int .i64 0), .lit (.slice none 0 0), .lit (.slice none 0 0)] := by kernel_rfl
@[simp] theorem tc60 : Tryd.prog.cellsOf 60 = 10 := by kernel_rfl
@[simp] theorem tb60 : Tryd.prog.bytesOf 60 = 112 := by kernel_rfl
attribute [simp] Tryd.underlying60
noncomputable def ti60 : TypeInfo := (Tryd.prog.info? 60).getD default
@[simp] theorem te60 : Tryd.prog.info? 60 = some ti60 := by kernel_rfl
@[simp] theorem ts60 : ti60.size = 10 := by kernel_rfl
@[simp] theorem tz60 : zeroV Tryd.prog 60 = some [.lit (.int .i64 0), .lit (.int .i64 0), .lit (.int .i64 0), .lit (.int .i64 0), .lit (.int .i64 0), .lit (.int .i64 0), .lit (.int .i64 0), .lit (.int .i64 0), .lit (.slice none 0 0), .lit (.slice none 0 0)] := by kernel_rfl
@[simp] theorem tc63 : Tryd.prog.cellsOf 63 = 1 := by kernel_rfl
@[simp] theorem tb63 : Tryd.prog.bytesOf 63 = 24 := by kernel_rfl
attribute [simp] Tryd.underlying63
noncomputable def ti63 : TypeInfo := (Tryd.prog.info? 63).getD default
@[simp] theorem te63 : Tryd.prog.info? 63 = some ti63 := by kernel_rfl
@[simp] theorem ts63 : ti63.size = 1 := by kernel_rfl
@[simp] theorem tz63 : zeroV Tryd.prog 63 = some [.lit (.slice none 0 0)] := by kernel_rfl
@[simp] theorem tc64 : Tryd.prog.cellsOf 64 = 1 := by kernel_rfl
@[simp] theorem tb64 : Tryd.prog.bytesOf 64 = 24 := by kernel_rfl
attribute [simp] Tryd.underlying64
noncomputable def ti64 : TypeInfo := (Tryd.prog.info? 64).getD default
@[simp] theorem te64 : Tryd.prog.info? 64 = some ti64 := by kernel_rfl
@[simp] theorem ts64 : ti64.size = 1 := by kernel_rfl
@[simp] theorem tz64 : zeroV Tryd.prog 64 = some [.lit (.slice none 0 0)] := by kernel_rfl
@[simp] theorem tc65 : Tryd.prog.cellsOf 65 = 10 := by kernel_rfl
@[simp] theorem tb65 : Tryd.prog.bytesOf 65 = 112 := by kernel_rfl
attribute [simp] Tryd.underlying65
noncomputable def ti65 : TypeInfo := (Tryd.prog.info? 65).getD default
@[simp] theorem te65 : Tryd.prog.info? 65 = some ti65 := by kernel_rfl
@[simp] theorem ts65 : ti65.size = 10 := by kernel_rfl
@[simp] theorem tz65 : zeroV Tryd.prog 65 = some [.lit (.int .i64 0), .lit (.int .i64 0), .lit (.int .i64 0), .lit (.int .i64 0), .lit (.int .i64 0), .lit (.int .i64 0), .lit (.int .i64 0), .lit (.int .i64 0), .lit (.slice none 0 0), .lit (.slice none 0 0)] := by kernel_rfl
@[simp] theorem tc66 : Tryd.prog.cellsOf 66 = 10 := by kernel_rfl
@[simp] theorem tb66 : Tryd.prog.bytesOf 66 = 112 := by kernel_rfl
attribute [simp] Tryd.underlying66
noncomputable def ti66 : TypeInfo := (Tryd.prog.info? 66).getD default
@[simp] theorem te66 : Tryd.prog.info? 66 = some ti66 := by kernel_rfl
@[simp] theorem ts66 : ti66.size = 10 := by kernel_rfl
@[simp] theorem tz66 : zeroV Tryd.prog 66 = some [.lit (.int .i64 0), .lit (.int .i64 0), .lit (.int .i64 0), .lit (.int .i64 0), .lit (.int .i64 0), .lit (.int .i64 0), .lit (.int .i64 0), .lit (.int .i64 0), .lit (.slice none 0 0), .lit (.slice none 0 0)] := by kernel_rfl
@[simp] theorem tc72 : Tryd.prog.cellsOf 72 = 1 := by kernel_rfl
@[simp] theorem tb72 : Tryd.prog.bytesOf 72 = 24 := by kernel_rfl
attribute [simp] Tryd.underlying72
noncomputable def ti72 : TypeInfo := (Tryd.prog.info? 72).getD default
@[simp] theorem te72 : Tryd.prog.info? 72 = some ti72 := by kernel_rfl
@[simp] theorem ts72 : ti72.size = 1 := by kernel_rfl
@[simp] theorem tz72 : zeroV Tryd.prog 72 = some [.lit (.slice none 0 0)] := by kernel_rfl
@[simp] theorem tc73 : Tryd.prog.cellsOf 73 = 3 := by kernel_rfl
@[simp] theorem tb73 : Tryd.prog.bytesOf 73 = 56 := by kernel_rfl
attribute [simp] Tryd.underlying73
noncomputable def ti73 : TypeInfo := (Tryd.prog.info? 73).getD default
@[simp] theorem te73 : Tryd.prog.info? 73 = some ti73 := by kernel_rfl
@[simp] theorem ts73 : ti73.size = 3 := by kernel_rfl
@[simp] theorem tz73 : zeroV Tryd.prog 73 = some [.lit (.slice none 0 0), .lit (.int .i64 0), .lit (.slice none 0 0)] := by kernel_rfl
@[simp] theorem tc74 : Tryd.prog.cellsOf 74 = 3 := by kernel_rfl
@[simp] theorem tb74 : Tryd.prog.bytesOf 74 = 56 := by kernel_rfl
attribute [simp] Tryd.underlying74
noncomputable def ti74 : TypeInfo := (Tryd.prog.info? 74).getD default
@[simp] theorem te74 : Tryd.prog.info? 74 = some ti74 := by kernel_rfl
@[simp] theorem ts74 : ti74.size = 3 := by kernel_rfl
@[simp] theorem tz74 : zeroV Tryd.prog 74 = some [.lit (.slice none 0 0), .lit (.int .i64 0), .lit (.slice none 0 0)] := by kernel_rfl
@[simp] theorem tc76 : Tryd.prog.cellsOf 76 = 1 := by kernel_rfl
@[simp] theorem tb76 : Tryd.prog.bytesOf 76 = 24 := by kernel_rfl
attribute [simp] Tryd.underlying76
noncomputable def ti76 : TypeInfo := (Tryd.prog.info? 76).getD default
@[simp] theorem te76 : Tryd.prog.info? 76 = some ti76 := by kernel_rfl
@[simp] theorem ts76 : ti76.size = 1 := by kernel_rfl
@[simp] theorem tz76 : zeroV Tryd.prog 76 = some [.lit (.slice none 0 0)] := by kernel_rfl
@[simp] theorem tc89 : Tryd.prog.cellsOf 89 = 3 := by kernel_rfl
@[simp] theorem tb89 : Tryd.prog.bytesOf 89 = 32 := by kernel_rfl
attribute [simp] Tryd.underlying89
noncomputable def ti89 : TypeInfo := (Tryd.prog.info? 89).getD default
@[simp] theorem te89 : Tryd.prog.info? 89 = some ti89 := by kernel_rfl
@[simp] theorem ts89 : ti89.size = 3 := by kernel_rfl
@[simp] theorem tz89 : zeroV Tryd.prog 89 = some [.lit (.int .i64 0), .lit (.int .i64 0), .lit (.string ByteArray.empty)] := by kernel_rfl
@[simp] theorem tc90 : Tryd.prog.cellsOf 90 = 3 := by kernel_rfl
@[simp] theorem tb90 : Tryd.prog.bytesOf 90 = 32 := by kernel_rfl
attribute [simp] Tryd.underlying90
noncomputable def ti90 : TypeInfo := (Tryd.prog.info? 90).getD default
@[simp] theorem te90 : Tryd.prog.info? 90 = some ti90 := by kernel_rfl
@[simp] theorem ts90 : ti90.size = 3 := by kernel_rfl
@[simp] theorem tz90 : zeroV Tryd.prog 90 = some [.lit (.int .i64 0), .lit (.int .i64 0), .lit (.string ByteArray.empty)] := by kernel_rfl
@[simp] theorem tc94 : Tryd.prog.cellsOf 94 = 1 := by kernel_rfl
@[simp] theorem tb94 : Tryd.prog.bytesOf 94 = 24 := by kernel_rfl
attribute [simp] Tryd.underlying94
noncomputable def ti94 : TypeInfo := (Tryd.prog.info? 94).getD default
@[simp] theorem te94 : Tryd.prog.info? 94 = some ti94 := by kernel_rfl
@[simp] theorem ts94 : ti94.size = 1 := by kernel_rfl
@[simp] theorem tz94 : zeroV Tryd.prog 94 = some [.lit (.slice none 0 0)] := by kernel_rfl
@[simp] theorem tc95 : Tryd.prog.cellsOf 95 = 2 := by kernel_rfl
@[simp] theorem tb95 : Tryd.prog.bytesOf 95 = 32 := by kernel_rfl
attribute [simp] Tryd.underlying95
noncomputable def ti95 : TypeInfo := (Tryd.prog.info? 95).getD default
@[simp] theorem te95 : Tryd.prog.info? 95 = some ti95 := by kernel_rfl
@[simp] theorem ts95 : ti95.size = 2 := by kernel_rfl
@[simp] theorem tc96 : Tryd.prog.cellsOf 96 = 2 := by kernel_rfl
@[simp] theorem tb96 : Tryd.prog.bytesOf 96 = 32 := by kernel_rfl
attribute [simp] Tryd.underlying96
noncomputable def ti96 : TypeInfo := (Tryd.prog.info? 96).getD default
@[simp] theorem te96 : Tryd.prog.info? 96 = some ti96 := by kernel_rfl
@[simp] theorem ts96 : ti96.size = 2 := by kernel_rfl
@[simp] theorem tc105 : Tryd.prog.cellsOf 105 = 1 := by kernel_rfl
@[simp] theorem tb105 : Tryd.prog.bytesOf 105 = 24 := by kernel_rfl
attribute [simp] Tryd.underlying105
noncomputable def ti105 : TypeInfo := (Tryd.prog.info? 105).getD default
@[simp] theorem te105 : Tryd.prog.info? 105 = some ti105 := by kernel_rfl
@[simp] theorem ts105 : ti105.size = 1 := by kernel_rfl
@[simp] theorem tz105 : zeroV Tryd.prog 105 = some [.lit (.slice none 0 0)] := by kernel_rfl
@[simp] theorem tc106 : Tryd.prog.cellsOf 106 = 3 := by kernel_rfl
@[simp] theorem tb106 : Tryd.prog.bytesOf 106 = 56 := by kernel_rfl
attribute [simp] Tryd.underlying106
noncomputable def ti106 : TypeInfo := (Tryd.prog.info? 106).getD default
@[simp] theorem te106 : Tryd.prog.info? 106 = some ti106 := by kernel_rfl
@[simp] theorem ts106 : ti106.size = 3 := by kernel_rfl
@[simp] theorem tz106 : zeroV Tryd.prog 106 = some [.lit (.slice none 0 0), .lit (.int .i64 0), .lit (.slice none 0 0)] := by kernel_rfl
@[simp] theorem tc107 : Tryd.prog.cellsOf 107 = 3 := by kernel_rfl
@[simp] theorem tb107 : Tryd.prog.bytesOf 107 = 56 := by kernel_rfl
attribute [simp] Tryd.underlying107
noncomputable def ti107 : TypeInfo := (Tryd.prog.info? 107).getD default
@[simp] theorem te107 : Tryd.prog.info? 107 = some ti107 := by kernel_rfl
@[simp] theorem ts107 : ti107.size = 3 := by kernel_rfl
@[simp] theorem tz107 : zeroV Tryd.prog 107 = some [.lit (.slice none 0 0), .lit (.int .i64 0), .lit (.slice none 0 0)] := by kernel_rfl
@[simp] theorem tc124 : Tryd.prog.cellsOf 124 = 3 := by kernel_rfl
@[simp] theorem tb124 : Tryd.prog.bytesOf 124 = 32 := by kernel_rfl
attribute [simp] Tryd.underlying124
noncomputable def ti124 : TypeInfo := (Tryd.prog.info? 124).getD default
@[simp] theorem te124 : Tryd.prog.info? 124 = some ti124 := by kernel_rfl
@[simp] theorem ts124 : ti124.size = 3 := by kernel_rfl
@[simp] theorem tz124 : zeroV Tryd.prog 124 = some [.lit (.int .i64 0), .lit (.int .i64 0), .lit (.string ByteArray.empty)] := by kernel_rfl
@[simp] theorem tc127 : Tryd.prog.cellsOf 127 = 7 := by kernel_rfl
@[simp] theorem tb127 : Tryd.prog.bytesOf 127 = 112 := by kernel_rfl
attribute [simp] Tryd.underlying127
noncomputable def ti127 : TypeInfo := (Tryd.prog.info? 127).getD default
@[simp] theorem te127 : Tryd.prog.info? 127 = some ti127 := by kernel_rfl
@[simp] theorem ts127 : ti127.size = 7 := by kernel_rfl
@[simp] theorem tz127 : zeroV Tryd.prog 127 = some [.lit (.string ByteArray.empty), .lit (.string ByteArray.empty), .lit (.string ByteArray.empty), .lit (.string ByteArray.empty), .lit (.string ByteArray.empty), .lit (.string ByteArray.empty), .lit (.string ByteArray.empty)] := by kernel_rfl
@[simp] theorem tc134 : Tryd.prog.cellsOf 134 = 2 := by kernel_rfl
@[simp] theorem tb134 : Tryd.prog.bytesOf 134 = 16 := by kernel_rfl
attribute [simp] Tryd.underlying134
noncomputable def ti134 : TypeInfo := (Tryd.prog.info? 134).getD default
@[simp] theorem te134 : Tryd.prog.info? 134 = some ti134 := by kernel_rfl
@[simp] theorem ts134 : ti134.size = 2 := by kernel_rfl
@[simp] theorem tz134 : zeroV Tryd.prog 134 = some [.lit (.int .i64 0), .lit (.int .i64 0)] := by kernel_rfl
@[simp] theorem tc135 : Tryd.prog.cellsOf 135 = 2 := by kernel_rfl
@[simp] theorem tb135 : Tryd.prog.bytesOf 135 = 16 := by kernel_rfl
attribute [simp] Tryd.underlying135
noncomputable def ti135 : TypeInfo := (Tryd.prog.info? 135).getD default
@[simp] theorem te135 : Tryd.prog.info? 135 = some ti135 := by kernel_rfl
@[simp] theorem ts135 : ti135.size = 2 := by kernel_rfl
@[simp] theorem tz135 : zeroV Tryd.prog 135 = some [.lit (.int .i64 0), .lit (.int .i64 0)] := by kernel_rfl
@[simp] theorem tc137 : Tryd.prog.cellsOf 137 = 2 := by kernel_rfl
@[simp] theorem tb137 : Tryd.prog.bytesOf 137 = 16 := by kernel_rfl
attribute [simp] Tryd.underlying137
noncomputable def ti137 : TypeInfo := (Tryd.prog.info? 137).getD default
@[simp] theorem te137 : Tryd.prog.info? 137 = some ti137 := by kernel_rfl
@[simp] theorem ts137 : ti137.size = 2 := by kernel_rfl
@[simp] theorem tz137 : zeroV Tryd.prog 137 = some [.lit (.int .i64 0), .lit (.int .i64 0)] := by kernel_rfl
@[simp] theorem tc139 : Tryd.prog.cellsOf 139 = 3 := by kernel_rfl
@[simp] theorem tb139 : Tryd.prog.bytesOf 139 = 24 := by kernel_rfl
attribute [simp] Tryd.underlying139
noncomputable def ti139 : TypeInfo := (Tryd.prog.info? 139).getD default
@[simp] theorem te139 : Tryd.prog.info? 139 = some ti139 := by kernel_rfl
@[simp] theorem ts139 : ti139.size = 3 := by kernel_rfl
@[simp] theorem tz139 : zeroV Tryd.prog 139 = some [.lit (.int .i64 0), .lit (.int .i64 0), .lit (.int .i64 0)] := by kernel_rfl
@[simp] theorem tc140 : Tryd.prog.cellsOf 140 = 3 := by kernel_rfl
@[simp] theorem tb140 : Tryd.prog.bytesOf 140 = 24 := by kernel_rfl
attribute [simp] Tryd.underlying140
noncomputable def ti140 : TypeInfo := (Tryd.prog.info? 140).getD default
@[simp] theorem te140 : Tryd.prog.info? 140 = some ti140 := by kernel_rfl
@[simp] theorem ts140 : ti140.size = 3 := by kernel_rfl
@[simp] theorem tz140 : zeroV Tryd.prog 140 = some [.lit (.int .i64 0), .lit (.int .i64 0), .lit (.int .i64 0)] := by kernel_rfl
@[simp] theorem tc142 : Tryd.prog.cellsOf 142 = 3 := by kernel_rfl
@[simp] theorem tb142 : Tryd.prog.bytesOf 142 = 24 := by kernel_rfl
attribute [simp] Tryd.underlying142
noncomputable def ti142 : TypeInfo := (Tryd.prog.info? 142).getD default
@[simp] theorem te142 : Tryd.prog.info? 142 = some ti142 := by kernel_rfl
@[simp] theorem ts142 : ti142.size = 3 := by kernel_rfl
@[simp] theorem tz142 : zeroV Tryd.prog 142 = some [.lit (.int .i64 0), .lit (.int .i64 0), .lit (.int .i64 0)] := by kernel_rfl
@[simp] theorem tc151 : Tryd.prog.cellsOf 151 = 2 := by kernel_rfl
@[simp] theorem tb151 : Tryd.prog.bytesOf 151 = 32 := by kernel_rfl
attribute [simp] Tryd.underlying151
noncomputable def ti151 : TypeInfo := (Tryd.prog.info? 151).getD default
@[simp] theorem te151 : Tryd.prog.info? 151 = some ti151 := by kernel_rfl
@[simp] theorem ts151 : ti151.size = 2 := by kernel_rfl
@[simp] theorem tz151 : zeroV Tryd.prog 151 = some [.lit (.int .i64 0), .lit (.slice none 0 0)] := by kernel_rfl
@[simp] theorem tc152 : Tryd.prog.cellsOf 152 = 2 := by kernel_rfl
@[simp] theorem tb152 : Tryd.prog.bytesOf 152 = 32 := by kernel_rfl
attribute [simp] Tryd.underlying152
noncomputable def ti152 : TypeInfo := (Tryd.prog.info? 152).getD default
@[simp] theorem te152 : Tryd.prog.info? 152 = some ti152 := by kernel_rfl
@[simp] theorem ts152 : ti152.size = 2 := by kernel_rfl
@[simp] theorem tz152 : zeroV Tryd.prog 152 = some [.lit (.int .i64 0), .lit (.slice none 0 0)] := by kernel_rfl
@[simp] theorem tc153 : Tryd.prog.cellsOf 153 = 2 := by kernel_rfl
@[simp] theorem tb153 : Tryd.prog.bytesOf 153 = 32 := by kernel_rfl
attribute [simp] Tryd.underlying153
noncomputable def ti153 : TypeInfo := (Tryd.prog.info? 153).getD default
@[simp] theorem te153 : Tryd.prog.info? 153 = some ti153 := by kernel_rfl
@[simp] theorem ts153 : ti153.size = 2 := by kernel_rfl
@[simp] theorem tz153 : zeroV Tryd.prog 153 = some [.lit (.int .i64 0), .lit (.slice none 0 0)] := by kernel_rfl
@[simp] theorem tc159 : Tryd.prog.cellsOf 159 = 5 := by kernel_rfl
@[simp] theorem tb159 : Tryd.prog.bytesOf 159 = 56 := by kernel_rfl
attribute [simp] Tryd.underlying159
noncomputable def ti159 : TypeInfo := (Tryd.prog.info? 159).getD default
@[simp] theorem te159 : Tryd.prog.info? 159 = some ti159 := by kernel_rfl
@[simp] theorem ts159 : ti159.size = 5 := by kernel_rfl
@[simp] theorem tz159 : zeroV Tryd.prog 159 = some [.lit (.int .i64 0), .lit (.int .i64 0), .lit (.int .i64 0), .lit (.int .i64 0), .lit (.slice none 0 0)] := by kernel_rfl
@[simp] theorem tc160 : Tryd.prog.cellsOf 160 = 5 := by kernel_rfl
@[simp] theorem tb160 : Tryd.prog.bytesOf 160 = 56 := by kernel_rfl
attribute [simp] Tryd.underlying160
noncomputable def ti160 : TypeInfo := (Tryd.prog.info? 160).getD default
@[simp] theorem te160 : Tryd.prog.info? 160 = some ti160 := by kernel_rfl
@[simp] theorem ts160 : ti160.size = 5 := by kernel_rfl
@[simp] theorem tz160 : zeroV Tryd.prog 160 = some [.lit (.int .i64 0), .lit (.int .i64 0), .lit (.int .i64 0), .lit (.int .i64 0), .lit (.slice none 0 0)] := by kernel_rfl
@[simp] theorem tc161 : Tryd.prog.cellsOf 161 = 5 := by kernel_rfl
@[simp] theorem tb161 : Tryd.prog.bytesOf 161 = 56 := by kernel_rfl
attribute [simp] Tryd.underlying161
noncomputable def ti161 : TypeInfo := (Tryd.prog.info? 161).getD default
@[simp] theorem te161 : Tryd.prog.info? 161 = some ti161 := by kernel_rfl
@[simp] theorem ts161 : ti161.size = 5 := by kernel_rfl
@[simp] theorem tz161 : zeroV Tryd.prog 161 = some [.lit (.int .i64 0), .lit (.int .i64 0), .lit (.int .i64 0), .lit (.int .i64 0), .lit (.slice none 0 0)] := by kernel_rfl
@[simp] theorem tc164 : Tryd.prog.cellsOf 164 = 24 := by kernel_rfl
@[simp] theorem tb164 : Tryd.prog.bytesOf 164 = 24 := by kernel_rfl
attribute [simp] Tryd.underlying164
noncomputable def ti164 : TypeInfo := (Tryd.prog.info? 164).getD default
@[simp] theorem te164 : Tryd.prog.info? 164 = some ti164 := by kernel_rfl
@[simp] theorem ts164 : ti164.size = 24 := by kernel_rfl
@[simp] theorem tz164 : zeroV Tryd.prog 164 = some [.lit (.int .u8 0), .lit (.int .u8 0), .lit (.int .u8 0), .lit (.int .u8 0), .lit (.int .u8 0), .lit (.int .u8 0), .lit (.int .u8 0), .lit (.int .u8 0), .lit (.int .u8 0), .lit (.int .u8 0), .lit (.int .u8 0), .lit (.int .u8 0), .lit (.int .u8 0), .lit (.int .u8 0), .lit (.int .u8 0), .lit (.int .u8 0), .lit (.int .u8 0), .lit (.int .u8 0), .lit (.int .u8 0), .lit (.int .u8 0), .lit (.int .u8 0), .lit (.int .u8 0), .lit (.int .u8 0), .lit (.int .u8 0)] := by kernel_rfl
@[simp] theorem tc165 : Tryd.prog.cellsOf 165 = 1 := by kernel_rfl
@[simp] theorem tb165 : Tryd.prog.bytesOf 165 = 8 := by kernel_rfl
attribute [simp] Tryd.underlying165
noncomputable def ti165 : TypeInfo := (Tryd.prog.info? 165).getD default
@[simp] theorem te165 : Tryd.prog.info? 165 = some ti165 := by kernel_rfl
@[simp] theorem ts165 : ti165.size = 1 := by kernel_rfl
@[simp] theorem tz165 : zeroV Tryd.prog 165 = some [.lit (.int .u64 0)] := by kernel_rfl
@[simp] theorem tc171 : Tryd.prog.cellsOf 171 = 20 := by kernel_rfl
@[simp] theorem tb171 : Tryd.prog.bytesOf 171 = 160 := by kernel_rfl
attribute [simp] Tryd.underlying171
noncomputable def ti171 : TypeInfo := (Tryd.prog.info? 171).getD default
@[simp] theorem te171 : Tryd.prog.info? 171 = some ti171 := by kernel_rfl
@[simp] theorem ts171 : ti171.size = 20 := by kernel_rfl
@[simp] theorem tz171 : zeroV Tryd.prog 171 = some [.lit (.int .u64 0), .lit (.int .u64 0), .lit (.int .u64 0), .lit (.int .u64 0), .lit (.int .u64 0), .lit (.int .u64 0), .lit (.int .u64 0), .lit (.int .u64 0), .lit (.int .u64 0), .lit (.int .u64 0), .lit (.int .u64 0), .lit (.int .u64 0), .lit (.int .u64 0), .lit (.int .u64 0), .lit (.int .u64 0), .lit (.int .u64 0), .lit (.int .u64 0), .lit (.int .u64 0), .lit (.int .u64 0), .lit (.int .u64 0)] := by kernel_rfl
@[simp] theorem tc172 : Tryd.prog.cellsOf 172 = 1 := by kernel_rfl
@[simp] theorem tb172 : Tryd.prog.bytesOf 172 = 4 := by kernel_rfl
attribute [simp] Tryd.underlying172
noncomputable def ti172 : TypeInfo := (Tryd.prog.info? 172).getD default
@[simp] theorem te172 : Tryd.prog.info? 172 = some ti172 := by kernel_rfl
@[simp] theorem ts172 : ti172.size = 1 := by kernel_rfl
@[simp] theorem tz172 : zeroV Tryd.prog 172 = some [.lit (.int .u32 0)] := by kernel_rfl
@[simp] theorem tc173 : Tryd.prog.cellsOf 173 = 65 := by kernel_rfl
@[simp] theorem tb173 : Tryd.prog.bytesOf 173 = 65 := by kernel_rfl
attribute [simp] Tryd.underlying173
noncomputable def ti173 : TypeInfo := (Tryd.prog.info? 173).getD default
@[simp] theorem te173 : Tryd.prog.info? 173 = some ti173 := by kernel_rfl
@[simp] theorem ts173 : ti173.size = 65 := by kernel_rfl
@[simp] theorem tc174 : Tryd.prog.cellsOf 174 = 1 := by kernel_rfl
@[simp] theorem tb174 : Tryd.prog.bytesOf 174 = 8 := by kernel_rfl
attribute [simp] Tryd.underlying174
noncomputable def ti174 : TypeInfo := (Tryd.prog.info? 174).getD default
@[simp] theorem te174 : Tryd.prog.info? 174 = some ti174 := by kernel_rfl
@[simp] theorem ts174 : ti174.size = 1 := by kernel_rfl
@[simp] theorem tz174 : zeroV Tryd.prog 174 = some [.lit (.int .u64 0)] := by kernel_rfl
@[simp] theorem tc177 : Tryd.prog.cellsOf 177 = 32 := by kernel_rfl
@[simp] theorem tb177 : Tryd.prog.bytesOf 177 = 32 := by kernel_rfl
attribute [simp] Tryd.underlying177
noncomputable def ti177 : TypeInfo := (Tryd.prog.info? 177).getD default
@[simp] theorem te177 : Tryd.prog.info? 177 = some ti177 := by kernel_rfl
@[simp] theorem ts177 : ti177.size = 32 := by kernel_rfl
@[simp] theorem tz177 : zeroV Tryd.prog 177 = some [.lit (.int .u8 0), .lit (.int .u8 0), .lit (.int .u8 0), .lit (.int .u8 0), .lit (.int .u8 0), .lit (.int .u8 0), .lit (.int .u8 0), .lit (.int .u8 0), .lit (.int .u8 0), .lit (.int .u8 0), .lit (.int .u8 0), .lit (.int .u8 0), .lit (.int .u8 0), .lit (.int .u8 0), .lit (.int .u8 0), .lit (.int .u8 0), .lit (.int .u8 0), .lit (.int .u8 0), .lit (.int .u8 0), .lit (.int .u8 0), .lit (.int .u8 0), .lit (.int .u8 0), .lit (.int .u8 0), .lit (.int .u8 0), .lit (.int .u8 0), .lit (.int .u8 0), .lit (.int .u8 0), .lit (.int .u8 0), .lit (.int .u8 0), .lit (.int .u8 0), .lit (.int .u8 0), .lit (.int .u8 0)] := by kernel_rfl
@[simp] theorem tc178 : Tryd.prog.cellsOf 178 = 64 := by kernel_rfl
@[simp] theorem tb178 : Tryd.prog.bytesOf 178 = 64 := by kernel_rfl
attribute [simp] Tryd.underlying178
noncomputable def ti178 : TypeInfo := (Tryd.prog.info? 178).getD default
@[simp] theorem te178 : Tryd.prog.info? 178 = some ti178 := by kernel_rfl
@[simp] theorem ts178 : ti178.size = 64 := by kernel_rfl
@[simp] theorem tc179 : Tryd.prog.cellsOf 179 = 4 := by kernel_rfl
@[simp] theorem tb179 : Tryd.prog.bytesOf 179 = 40 := by kernel_rfl
attribute [simp] Tryd.underlying179
noncomputable def ti179 : TypeInfo := (Tryd.prog.info? 179).getD default
@[simp] theorem te179 : Tryd.prog.info? 179 = some ti179 := by kernel_rfl
@[simp] theorem ts179 : ti179.size = 4 := by kernel_rfl
@[simp] theorem tc180 : Tryd.prog.cellsOf 180 = 4 := by kernel_rfl
@[simp] theorem tb180 : Tryd.prog.bytesOf 180 = 40 := by kernel_rfl
attribute [simp] Tryd.underlying180
noncomputable def ti180 : TypeInfo := (Tryd.prog.info? 180).getD default
@[simp] theorem te180 : Tryd.prog.info? 180 = some ti180 := by kernel_rfl
@[simp] theorem ts180 : ti180.size = 4 := by kernel_rfl
@[simp] theorem tc181 : Tryd.prog.cellsOf 181 = 0 := by kernel_rfl
@[simp] theorem tb181 : Tryd.prog.bytesOf 181 = 0 := by kernel_rfl
attribute [simp] Tryd.underlying181
noncomputable def ti181 : TypeInfo := (Tryd.prog.info? 181).getD default
@[simp] theorem te181 : Tryd.prog.info? 181 = some ti181 := by kernel_rfl
@[simp] theorem ts181 : ti181.size = 0 := by kernel_rfl
@[simp] theorem tc182 : Tryd.prog.cellsOf 182 = 0 := by kernel_rfl
@[simp] theorem tb182 : Tryd.prog.bytesOf 182 = 0 := by kernel_rfl
attribute [simp] Tryd.underlying182
noncomputable def ti182 : TypeInfo := (Tryd.prog.info? 182).getD default
@[simp] theorem te182 : Tryd.prog.info? 182 = some ti182 := by kernel_rfl
@[simp] theorem ts182 : ti182.size = 0 := by kernel_rfl
@[simp] theorem tc183 : Tryd.prog.cellsOf 183 = 0 := by kernel_rfl
@[simp] theorem tb183 : Tryd.prog.bytesOf 183 = 0 := by kernel_rfl
attribute [simp] Tryd.underlying183
noncomputable def ti183 : TypeInfo := (Tryd.prog.info? 183).getD default
@[simp] theorem te183 : Tryd.prog.info? 183 = some ti183 := by kernel_rfl
@[simp] theorem ts183 : ti183.size = 0 := by kernel_rfl
@[simp] theorem tc185 : Tryd.prog.cellsOf 185 = 1 := by kernel_rfl
@[simp] theorem tb185 : Tryd.prog.bytesOf 185 = 1 := by kernel_rfl
attribute [simp] Tryd.underlying185
noncomputable def ti185 : TypeInfo := (Tryd.prog.info? 185).getD default
@[simp] theorem te185 : Tryd.prog.info? 185 = some ti185 := by kernel_rfl
@[simp] theorem ts185 : ti185.size = 1 := by kernel_rfl
@[simp] theorem tz185 : zeroV Tryd.prog 185 = some [.lit (.int .u8 0)] := by kernel_rfl
@[simp] theorem tc186 : Tryd.prog.cellsOf 186 = 1 := by kernel_rfl
@[simp] theorem tb186 : Tryd.prog.bytesOf 186 = 1 := by kernel_rfl
attribute [simp] Tryd.underlying186
noncomputable def ti186 : TypeInfo := (Tryd.prog.info? 186).getD default
@[simp] theorem te186 : Tryd.prog.info? 186 = some ti186 := by kernel_rfl
@[simp] theorem ts186 : ti186.size = 1 := by kernel_rfl
@[simp] theorem tz186 : zeroV Tryd.prog 186 = some [.lit (.int .u8 0)] := by kernel_rfl
@[simp] theorem tc188 : Tryd.prog.cellsOf 188 = 1 := by kernel_rfl
@[simp] theorem tb188 : Tryd.prog.bytesOf 188 = 4 := by kernel_rfl
attribute [simp] Tryd.underlying188
noncomputable def ti188 : TypeInfo := (Tryd.prog.info? 188).getD default
@[simp] theorem te188 : Tryd.prog.info? 188 = some ti188 := by kernel_rfl
@[simp] theorem ts188 : ti188.size = 1 := by kernel_rfl
@[simp] theorem tz188 : zeroV Tryd.prog 188 = some [.lit (.int .i32 0)] := by kernel_rfl
@[simp] theorem tc189 : Tryd.prog.cellsOf 189 = 1 := by kernel_rfl
@[simp] theorem tb189 : Tryd.prog.bytesOf 189 = 4 := by kernel_rfl
attribute [simp] Tryd.underlying189
noncomputable def ti189 : TypeInfo := (Tryd.prog.info? 189).getD default
@[simp] theorem te189 : Tryd.prog.info? 189 = some ti189 := by kernel_rfl
@[simp] theorem ts189 : ti189.size = 1 := by kernel_rfl
@[simp] theorem tz189 : zeroV Tryd.prog 189 = some [.lit (.int .i32 0)] := by kernel_rfl
@[simp] theorem tc190 : Tryd.prog.cellsOf 190 = 11 := by kernel_rfl
@[simp] theorem tb190 : Tryd.prog.bytesOf 190 = 48 := by kernel_rfl
attribute [simp] Tryd.underlying190
noncomputable def ti190 : TypeInfo := (Tryd.prog.info? 190).getD default
@[simp] theorem te190 : Tryd.prog.info? 190 = some ti190 := by kernel_rfl
@[simp] theorem ts190 : ti190.size = 11 := by kernel_rfl
@[simp] theorem tc191 : Tryd.prog.cellsOf 191 = 11 := by kernel_rfl
@[simp] theorem tb191 : Tryd.prog.bytesOf 191 = 48 := by kernel_rfl
attribute [simp] Tryd.underlying191
noncomputable def ti191 : TypeInfo := (Tryd.prog.info? 191).getD default
@[simp] theorem te191 : Tryd.prog.info? 191 = some ti191 := by kernel_rfl
@[simp] theorem ts191 : ti191.size = 11 := by kernel_rfl
end Go.Proofs.YtjdhdpbdaabdmaaDoor.Vm

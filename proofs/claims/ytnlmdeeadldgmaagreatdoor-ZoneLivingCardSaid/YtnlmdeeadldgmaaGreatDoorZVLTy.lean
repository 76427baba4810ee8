/- The facts on the program's types that walks rewrite by (printed by gen_ty.py). -/
import Derived.Test.YtnlmdeeadldgmaaGreatDoorZG14
import Derived.Test.YtnlmdeeadldgmaaGreatDoorProg
import Derived.KernelRfl
set_option linter.unusedVariables false
namespace Go.Proofs.YtnlmdeeadldgmaaGreatDoor.VL
open Go Go.RowKit Go.Lib
attribute [go_sem] Tryz.underlying1
@[go_sem] theorem ce1 : Tryz.prog.cellsOf 1 = 1 := by kernel_rfl
@[go_sem] theorem by1 : Tryz.prog.bytesOf 1 = 8 := by kernel_rfl
@[go_sem] theorem ag1 : isAg Tryz.prog 1 = false := by kernel_rfl
@[go_sem] theorem ze1 : zeroCs Tryz.prog 1 = some [.v .nilFunc] := by kernel_rfl
@[go_sem] theorem se1 : selfTy Tryz.prog 1 = false := by kernel_rfl
attribute [go_sem] Tryz.underlying2
@[go_sem] theorem ce2 : Tryz.prog.cellsOf 2 = 1 := by kernel_rfl
@[go_sem] theorem by2 : Tryz.prog.bytesOf 2 = 8 := by kernel_rfl
@[go_sem] theorem ag2 : isAg Tryz.prog 2 = false := by kernel_rfl
@[go_sem] theorem ze2 : zeroCs Tryz.prog 2 = some [.v (.int .i64 0)] := by kernel_rfl
@[go_sem] theorem se2 : selfTy Tryz.prog 2 = false := by kernel_rfl
attribute [go_sem] Tryz.underlying3
@[go_sem] theorem ce3 : Tryz.prog.cellsOf 3 = 1 := by kernel_rfl
@[go_sem] theorem by3 : Tryz.prog.bytesOf 3 = 8 := by kernel_rfl
@[go_sem] theorem ag3 : isAg Tryz.prog 3 = false := by kernel_rfl
@[go_sem] theorem ze3 : zeroCs Tryz.prog 3 = some [.v (.int .i64 0)] := by kernel_rfl
@[go_sem] theorem se3 : selfTy Tryz.prog 3 = false := by kernel_rfl
attribute [go_sem] Tryz.underlying4
@[go_sem] theorem ce4 : Tryz.prog.cellsOf 4 = 1 := by kernel_rfl
@[go_sem] theorem by4 : Tryz.prog.bytesOf 4 = 1 := by kernel_rfl
@[go_sem] theorem ag4 : isAg Tryz.prog 4 = false := by kernel_rfl
@[go_sem] theorem ze4 : zeroCs Tryz.prog 4 = some [.v (.bool false)] := by kernel_rfl
@[go_sem] theorem se4 : selfTy Tryz.prog 4 = false := by kernel_rfl
attribute [go_sem] Tryz.underlying5
@[go_sem] theorem ce5 : Tryz.prog.cellsOf 5 = 1 := by kernel_rfl
@[go_sem] theorem by5 : Tryz.prog.bytesOf 5 = 1 := by kernel_rfl
@[go_sem] theorem ag5 : isAg Tryz.prog 5 = false := by kernel_rfl
@[go_sem] theorem ze5 : zeroCs Tryz.prog 5 = some [.v (.int .u8 0)] := by kernel_rfl
@[go_sem] theorem se5 : selfTy Tryz.prog 5 = false := by kernel_rfl
attribute [go_sem] Tryz.underlying9
@[go_sem] theorem ce9 : Tryz.prog.cellsOf 9 = 1 := by kernel_rfl
@[go_sem] theorem by9 : Tryz.prog.bytesOf 9 = 16 := by kernel_rfl
@[go_sem] theorem ag9 : isAg Tryz.prog 9 = false := by kernel_rfl
@[go_sem] theorem ze9 : zeroCs Tryz.prog 9 = some [.v (.string { data := #[] })] := by kernel_rfl
@[go_sem] theorem se9 : selfTy Tryz.prog 9 = false := by kernel_rfl
attribute [go_sem] Tryz.underlying12
@[go_sem] theorem ce12 : Tryz.prog.cellsOf 12 = 1 := by kernel_rfl
@[go_sem] theorem by12 : Tryz.prog.bytesOf 12 = 8 := by kernel_rfl
@[go_sem] theorem ag12 : isAg Tryz.prog 12 = false := by kernel_rfl
@[go_sem] theorem ze12 : zeroCs Tryz.prog 12 = some [.v (.int .u64 0)] := by kernel_rfl
@[go_sem] theorem se12 : selfTy Tryz.prog 12 = false := by kernel_rfl
attribute [go_sem] Tryz.underlying13
@[go_sem] theorem ce13 : Tryz.prog.cellsOf 13 = 2 := by kernel_rfl
@[go_sem] theorem by13 : Tryz.prog.bytesOf 13 = 24 := by kernel_rfl
@[go_sem] theorem ag13 : isAg Tryz.prog 13 = true := by kernel_rfl
@[go_sem] theorem ze13 : zeroCs Tryz.prog 13 = some [.v (.string { data := #[] }), .v (.int .u64 0)] := by kernel_rfl
@[go_sem] theorem se13 : selfTy Tryz.prog 13 = false := by kernel_rfl
@[go_sem] theorem fi13_0 : fieldOf Tryz.prog 13 0 = some { name := "msg", type := 9, offset := 0, embedded := false, tag := "", pkgPath := "runtime", byteOffset := 0 } := by kernel_rfl
@[go_sem] theorem fi13_1 : fieldOf Tryz.prog 13 1 = some { name := "addr", type := 12, offset := 1, embedded := false, tag := "", pkgPath := "runtime", byteOffset := 16 } := by kernel_rfl
attribute [go_sem] Tryz.underlying20
attribute [go_sem] Tryz.underlying21
@[go_sem] theorem ce21 : Tryz.prog.cellsOf 21 = 1 := by kernel_rfl
@[go_sem] theorem by21 : Tryz.prog.bytesOf 21 = 4 := by kernel_rfl
@[go_sem] theorem ag21 : isAg Tryz.prog 21 = false := by kernel_rfl
@[go_sem] theorem ze21 : zeroCs Tryz.prog 21 = some [.v (.int .i32 0)] := by kernel_rfl
@[go_sem] theorem se21 : selfTy Tryz.prog 21 = false := by kernel_rfl
attribute [go_sem] Tryz.underlying22
@[go_sem] theorem ce22 : Tryz.prog.cellsOf 22 = 1 := by kernel_rfl
@[go_sem] theorem by22 : Tryz.prog.bytesOf 22 = 24 := by kernel_rfl
@[go_sem] theorem ag22 : isAg Tryz.prog 22 = false := by kernel_rfl
@[go_sem] theorem el22 : elemTy Tryz.prog 22 = some 46 := by kernel_rfl
@[go_sem] theorem ze22 : zeroCs Tryz.prog 22 = some [.emp] := by kernel_rfl
@[go_sem] theorem se22 : selfTy Tryz.prog 22 = false := by kernel_rfl
attribute [go_sem] Tryz.underlying23
@[go_sem] theorem ce23 : Tryz.prog.cellsOf 23 = 1 := by kernel_rfl
@[go_sem] theorem by23 : Tryz.prog.bytesOf 23 = 24 := by kernel_rfl
@[go_sem] theorem ag23 : isAg Tryz.prog 23 = false := by kernel_rfl
@[go_sem] theorem el23 : elemTy Tryz.prog 23 = some 3 := by kernel_rfl
@[go_sem] theorem ze23 : zeroCs Tryz.prog 23 = some [.emp] := by kernel_rfl
@[go_sem] theorem se23 : selfTy Tryz.prog 23 = false := by kernel_rfl
attribute [go_sem] Tryz.underlying24
@[go_sem] theorem ce24 : Tryz.prog.cellsOf 24 = 3 := by kernel_rfl
@[go_sem] theorem by24 : Tryz.prog.bytesOf 24 = 64 := by kernel_rfl
@[go_sem] theorem ag24 : isAg Tryz.prog 24 = true := by kernel_rfl
@[go_sem] theorem ze24 : zeroCs Tryz.prog 24 = some [.emp, .emp, .v (.string { data := #[] })] := by kernel_rfl
@[go_sem] theorem se24 : selfTy Tryz.prog 24 = false := by kernel_rfl
@[go_sem] theorem fi24_0 : fieldOf Tryz.prog 24 0 = some { name := "View", type := 22, offset := 0, embedded := false, tag := "", pkgPath := "", byteOffset := 0 } := by kernel_rfl
@[go_sem] theorem fi24_1 : fieldOf Tryz.prog 24 1 = some { name := "Alive", type := 23, offset := 1, embedded := false, tag := "", pkgPath := "", byteOffset := 24 } := by kernel_rfl
@[go_sem] theorem fi24_2 : fieldOf Tryz.prog 24 2 = some { name := "Domain", type := 9, offset := 2, embedded := false, tag := "", pkgPath := "", byteOffset := 48 } := by kernel_rfl
attribute [go_sem] Tryz.underlying25
@[go_sem] theorem ce25 : Tryz.prog.cellsOf 25 = 3 := by kernel_rfl
@[go_sem] theorem by25 : Tryz.prog.bytesOf 25 = 64 := by kernel_rfl
@[go_sem] theorem ag25 : isAg Tryz.prog 25 = true := by kernel_rfl
@[go_sem] theorem ze25 : zeroCs Tryz.prog 25 = some [.emp, .emp, .v (.string { data := #[] })] := by kernel_rfl
@[go_sem] theorem se25 : selfTy Tryz.prog 25 = false := by kernel_rfl
@[go_sem] theorem fi25_0 : fieldOf Tryz.prog 25 0 = some { name := "View", type := 22, offset := 0, embedded := false, tag := "", pkgPath := "", byteOffset := 0 } := by kernel_rfl
@[go_sem] theorem fi25_1 : fieldOf Tryz.prog 25 1 = some { name := "Alive", type := 23, offset := 1, embedded := false, tag := "", pkgPath := "", byteOffset := 24 } := by kernel_rfl
@[go_sem] theorem fi25_2 : fieldOf Tryz.prog 25 2 = some { name := "Domain", type := 9, offset := 2, embedded := false, tag := "", pkgPath := "", byteOffset := 48 } := by kernel_rfl
attribute [go_sem] Tryz.underlying26
@[go_sem] theorem ce26 : Tryz.prog.cellsOf 26 = 1 := by kernel_rfl
@[go_sem] theorem by26 : Tryz.prog.bytesOf 26 = 8 := by kernel_rfl
@[go_sem] theorem ag26 : isAg Tryz.prog 26 = false := by kernel_rfl
@[go_sem] theorem ze26 : zeroCs Tryz.prog 26 = some [.v .nilFunc] := by kernel_rfl
@[go_sem] theorem se26 : selfTy Tryz.prog 26 = false := by kernel_rfl
attribute [go_sem] Tryz.underlying27
@[go_sem] theorem ce27 : Tryz.prog.cellsOf 27 = 1 := by kernel_rfl
@[go_sem] theorem by27 : Tryz.prog.bytesOf 27 = 8 := by kernel_rfl
@[go_sem] theorem ag27 : isAg Tryz.prog 27 = false := by kernel_rfl
@[go_sem] theorem ze27 : zeroCs Tryz.prog 27 = some [.v .nilFunc] := by kernel_rfl
@[go_sem] theorem se27 : selfTy Tryz.prog 27 = false := by kernel_rfl
attribute [go_sem] Tryz.underlying28
@[go_sem] theorem ce28 : Tryz.prog.cellsOf 28 = 1 := by kernel_rfl
@[go_sem] theorem by28 : Tryz.prog.bytesOf 28 = 8 := by kernel_rfl
@[go_sem] theorem ag28 : isAg Tryz.prog 28 = false := by kernel_rfl
@[go_sem] theorem ze28 : zeroCs Tryz.prog 28 = some [.v .nilFunc] := by kernel_rfl
@[go_sem] theorem se28 : selfTy Tryz.prog 28 = false := by kernel_rfl
attribute [go_sem] Tryz.underlying30
@[go_sem] theorem ce30 : Tryz.prog.cellsOf 30 = 1 := by kernel_rfl
@[go_sem] theorem by30 : Tryz.prog.bytesOf 30 = 8 := by kernel_rfl
@[go_sem] theorem ag30 : isAg Tryz.prog 30 = false := by kernel_rfl
@[go_sem] theorem ze30 : zeroCs Tryz.prog 30 = some [.v .nilFunc] := by kernel_rfl
@[go_sem] theorem se30 : selfTy Tryz.prog 30 = false := by kernel_rfl
attribute [go_sem] Tryz.underlying31
@[go_sem] theorem ce31 : Tryz.prog.cellsOf 31 = 5 := by kernel_rfl
@[go_sem] theorem by31 : Tryz.prog.bytesOf 31 = 56 := by kernel_rfl
@[go_sem] theorem ag31 : isAg Tryz.prog 31 = true := by kernel_rfl
@[go_sem] theorem ze31 : zeroCs Tryz.prog 31 = some [.v (.string { data := #[] }), .v (.int .i64 0), .v (.int .i64 0), .v (.int .i64 0), .v (.string { data := #[] })] := by kernel_rfl
@[go_sem] theorem se31 : selfTy Tryz.prog 31 = false := by kernel_rfl
@[go_sem] theorem fi31_0 : fieldOf Tryz.prog 31 0 = some { name := "Name", type := 9, offset := 0, embedded := false, tag := "", pkgPath := "", byteOffset := 0 } := by kernel_rfl
@[go_sem] theorem fi31_1 : fieldOf Tryz.prog 31 1 = some { name := "Type", type := 3, offset := 1, embedded := false, tag := "", pkgPath := "", byteOffset := 16 } := by kernel_rfl
@[go_sem] theorem fi31_2 : fieldOf Tryz.prog 31 2 = some { name := "Class", type := 3, offset := 2, embedded := false, tag := "", pkgPath := "", byteOffset := 24 } := by kernel_rfl
@[go_sem] theorem fi31_3 : fieldOf Tryz.prog 31 3 = some { name := "TTL", type := 3, offset := 3, embedded := false, tag := "", pkgPath := "", byteOffset := 32 } := by kernel_rfl
@[go_sem] theorem fi31_4 : fieldOf Tryz.prog 31 4 = some { name := "Data", type := 9, offset := 4, embedded := false, tag := "", pkgPath := "", byteOffset := 40 } := by kernel_rfl
attribute [go_sem] Tryz.underlying32
@[go_sem] theorem ce32 : Tryz.prog.cellsOf 32 = 5 := by kernel_rfl
@[go_sem] theorem by32 : Tryz.prog.bytesOf 32 = 56 := by kernel_rfl
@[go_sem] theorem ag32 : isAg Tryz.prog 32 = true := by kernel_rfl
@[go_sem] theorem fl32 : flatTags Tryz.prog 32 = some [1, 0, 0, 0, 1] := by kernel_rfl
@[go_sem] theorem ze32 : zeroCs Tryz.prog 32 = some [.v (.string { data := #[] }), .v (.int .i64 0), .v (.int .i64 0), .v (.int .i64 0), .v (.string { data := #[] })] := by kernel_rfl
@[go_sem] theorem se32 : selfTy Tryz.prog 32 = false := by kernel_rfl
@[go_sem] theorem fi32_0 : fieldOf Tryz.prog 32 0 = some { name := "Name", type := 9, offset := 0, embedded := false, tag := "", pkgPath := "", byteOffset := 0 } := by kernel_rfl
@[go_sem] theorem fi32_1 : fieldOf Tryz.prog 32 1 = some { name := "Type", type := 3, offset := 1, embedded := false, tag := "", pkgPath := "", byteOffset := 16 } := by kernel_rfl
@[go_sem] theorem fi32_2 : fieldOf Tryz.prog 32 2 = some { name := "Class", type := 3, offset := 2, embedded := false, tag := "", pkgPath := "", byteOffset := 24 } := by kernel_rfl
@[go_sem] theorem fi32_3 : fieldOf Tryz.prog 32 3 = some { name := "TTL", type := 3, offset := 3, embedded := false, tag := "", pkgPath := "", byteOffset := 32 } := by kernel_rfl
@[go_sem] theorem fi32_4 : fieldOf Tryz.prog 32 4 = some { name := "Data", type := 9, offset := 4, embedded := false, tag := "", pkgPath := "", byteOffset := 40 } := by kernel_rfl
attribute [go_sem] Tryz.underlying34
@[go_sem] theorem ce34 : Tryz.prog.cellsOf 34 = 1 := by kernel_rfl
@[go_sem] theorem by34 : Tryz.prog.bytesOf 34 = 8 := by kernel_rfl
@[go_sem] theorem ag34 : isAg Tryz.prog 34 = false := by kernel_rfl
@[go_sem] theorem ze34 : zeroCs Tryz.prog 34 = some [.v .nilFunc] := by kernel_rfl
@[go_sem] theorem se34 : selfTy Tryz.prog 34 = false := by kernel_rfl
attribute [go_sem] Tryz.underlying35
@[go_sem] theorem ce35 : Tryz.prog.cellsOf 35 = 1 := by kernel_rfl
@[go_sem] theorem by35 : Tryz.prog.bytesOf 35 = 8 := by kernel_rfl
@[go_sem] theorem ag35 : isAg Tryz.prog 35 = false := by kernel_rfl
@[go_sem] theorem ze35 : zeroCs Tryz.prog 35 = some [.v .nilFunc] := by kernel_rfl
@[go_sem] theorem se35 : selfTy Tryz.prog 35 = false := by kernel_rfl
attribute [go_sem] Tryz.underlying36
@[go_sem] theorem ce36 : Tryz.prog.cellsOf 36 = 1 := by kernel_rfl
@[go_sem] theorem by36 : Tryz.prog.bytesOf 36 = 8 := by kernel_rfl
@[go_sem] theorem ag36 : isAg Tryz.prog 36 = false := by kernel_rfl
@[go_sem] theorem ze36 : zeroCs Tryz.prog 36 = some [.v .nilFunc] := by kernel_rfl
@[go_sem] theorem se36 : selfTy Tryz.prog 36 = false := by kernel_rfl
attribute [go_sem] Tryz.underlying37
@[go_sem] theorem ce37 : Tryz.prog.cellsOf 37 = 1 := by kernel_rfl
@[go_sem] theorem by37 : Tryz.prog.bytesOf 37 = 8 := by kernel_rfl
@[go_sem] theorem ag37 : isAg Tryz.prog 37 = false := by kernel_rfl
@[go_sem] theorem ze37 : zeroCs Tryz.prog 37 = some [.v .nilFunc] := by kernel_rfl
@[go_sem] theorem se37 : selfTy Tryz.prog 37 = false := by kernel_rfl
attribute [go_sem] Tryz.underlying38
@[go_sem] theorem ce38 : Tryz.prog.cellsOf 38 = 1 := by kernel_rfl
@[go_sem] theorem by38 : Tryz.prog.bytesOf 38 = 8 := by kernel_rfl
@[go_sem] theorem ag38 : isAg Tryz.prog 38 = false := by kernel_rfl
@[go_sem] theorem ze38 : zeroCs Tryz.prog 38 = some [.v .nilFunc] := by kernel_rfl
@[go_sem] theorem se38 : selfTy Tryz.prog 38 = false := by kernel_rfl
attribute [go_sem] Tryz.underlying39
@[go_sem] theorem ce39 : Tryz.prog.cellsOf 39 = 1 := by kernel_rfl
@[go_sem] theorem by39 : Tryz.prog.bytesOf 39 = 24 := by kernel_rfl
@[go_sem] theorem ag39 : isAg Tryz.prog 39 = false := by kernel_rfl
@[go_sem] theorem el39 : elemTy Tryz.prog 39 = some 32 := by kernel_rfl
@[go_sem] theorem ze39 : zeroCs Tryz.prog 39 = some [.emp] := by kernel_rfl
@[go_sem] theorem se39 : selfTy Tryz.prog 39 = false := by kernel_rfl
attribute [go_sem] Tryz.underlying40
@[go_sem] theorem ce40 : Tryz.prog.cellsOf 40 = 1 := by kernel_rfl
@[go_sem] theorem by40 : Tryz.prog.bytesOf 40 = 8 := by kernel_rfl
@[go_sem] theorem ag40 : isAg Tryz.prog 40 = false := by kernel_rfl
@[go_sem] theorem ze40 : zeroCs Tryz.prog 40 = some [.v .nilFunc] := by kernel_rfl
@[go_sem] theorem se40 : selfTy Tryz.prog 40 = false := by kernel_rfl
attribute [go_sem] Tryz.underlying41
@[go_sem] theorem ce41 : Tryz.prog.cellsOf 41 = 1 := by kernel_rfl
@[go_sem] theorem by41 : Tryz.prog.bytesOf 41 = 8 := by kernel_rfl
@[go_sem] theorem ag41 : isAg Tryz.prog 41 = false := by kernel_rfl
@[go_sem] theorem ze41 : zeroCs Tryz.prog 41 = some [.v .nilFunc] := by kernel_rfl
@[go_sem] theorem se41 : selfTy Tryz.prog 41 = false := by kernel_rfl
attribute [go_sem] Tryz.underlying42
@[go_sem] theorem ce42 : Tryz.prog.cellsOf 42 = 1 := by kernel_rfl
@[go_sem] theorem by42 : Tryz.prog.bytesOf 42 = 24 := by kernel_rfl
@[go_sem] theorem ag42 : isAg Tryz.prog 42 = false := by kernel_rfl
@[go_sem] theorem el42 : elemTy Tryz.prog 42 = some 48 := by kernel_rfl
@[go_sem] theorem ze42 : zeroCs Tryz.prog 42 = some [.emp] := by kernel_rfl
@[go_sem] theorem se42 : selfTy Tryz.prog 42 = false := by kernel_rfl
attribute [go_sem] Tryz.underlying43
@[go_sem] theorem ce43 : Tryz.prog.cellsOf 43 = 3 := by kernel_rfl
@[go_sem] theorem by43 : Tryz.prog.bytesOf 43 = 40 := by kernel_rfl
@[go_sem] theorem ag43 : isAg Tryz.prog 43 = true := by kernel_rfl
@[go_sem] theorem ze43 : zeroCs Tryz.prog 43 = some [.v (.int .i64 0), .v (.int .i64 0), .emp] := by kernel_rfl
@[go_sem] theorem se43 : selfTy Tryz.prog 43 = false := by kernel_rfl
@[go_sem] theorem fi43_0 : fieldOf Tryz.prog 43 0 = some { name := "Gen", type := 3, offset := 0, embedded := false, tag := "", pkgPath := "", byteOffset := 0 } := by kernel_rfl
@[go_sem] theorem fi43_1 : fieldOf Tryz.prog 43 1 = some { name := "Beat", type := 3, offset := 1, embedded := false, tag := "", pkgPath := "", byteOffset := 8 } := by kernel_rfl
@[go_sem] theorem fi43_2 : fieldOf Tryz.prog 43 2 = some { name := "Apps", type := 42, offset := 2, embedded := false, tag := "", pkgPath := "", byteOffset := 16 } := by kernel_rfl
attribute [go_sem] Tryz.underlying44
@[go_sem] theorem ce44 : Tryz.prog.cellsOf 44 = 3 := by kernel_rfl
@[go_sem] theorem by44 : Tryz.prog.bytesOf 44 = 40 := by kernel_rfl
@[go_sem] theorem ag44 : isAg Tryz.prog 44 = true := by kernel_rfl
@[go_sem] theorem ze44 : zeroCs Tryz.prog 44 = some [.v (.int .i64 0), .v (.int .i64 0), .emp] := by kernel_rfl
@[go_sem] theorem se44 : selfTy Tryz.prog 44 = false := by kernel_rfl
@[go_sem] theorem fi44_0 : fieldOf Tryz.prog 44 0 = some { name := "Gen", type := 3, offset := 0, embedded := false, tag := "", pkgPath := "", byteOffset := 0 } := by kernel_rfl
@[go_sem] theorem fi44_1 : fieldOf Tryz.prog 44 1 = some { name := "Beat", type := 3, offset := 1, embedded := false, tag := "", pkgPath := "", byteOffset := 8 } := by kernel_rfl
@[go_sem] theorem fi44_2 : fieldOf Tryz.prog 44 2 = some { name := "Apps", type := 42, offset := 2, embedded := false, tag := "", pkgPath := "", byteOffset := 16 } := by kernel_rfl
attribute [go_sem] Tryz.underlying45
@[go_sem] theorem ce45 : Tryz.prog.cellsOf 45 = 4 := by kernel_rfl
@[go_sem] theorem by45 : Tryz.prog.bytesOf 45 = 48 := by kernel_rfl
@[go_sem] theorem ag45 : isAg Tryz.prog 45 = true := by kernel_rfl
@[go_sem] theorem ze45 : zeroCs Tryz.prog 45 = some [.v (.int .i64 0), .v (.int .i64 0), .v (.int .i64 0), .emp] := by kernel_rfl
@[go_sem] theorem se45 : selfTy Tryz.prog 45 = false := by kernel_rfl
@[go_sem] theorem fi45_0 : fieldOf Tryz.prog 45 0 = some { name := "Node", type := 3, offset := 0, embedded := false, tag := "", pkgPath := "", byteOffset := 0 } := by kernel_rfl
@[go_sem] theorem fi45_1 : fieldOf Tryz.prog 45 1 = some { name := "State", type := 44, offset := 1, embedded := false, tag := "", pkgPath := "", byteOffset := 8 } := by kernel_rfl
attribute [go_sem] Tryz.underlying46
@[go_sem] theorem ce46 : Tryz.prog.cellsOf 46 = 4 := by kernel_rfl
@[go_sem] theorem by46 : Tryz.prog.bytesOf 46 = 48 := by kernel_rfl
@[go_sem] theorem ag46 : isAg Tryz.prog 46 = true := by kernel_rfl
@[go_sem] theorem ze46 : zeroCs Tryz.prog 46 = some [.v (.int .i64 0), .v (.int .i64 0), .v (.int .i64 0), .emp] := by kernel_rfl
@[go_sem] theorem se46 : selfTy Tryz.prog 46 = false := by kernel_rfl
@[go_sem] theorem fi46_0 : fieldOf Tryz.prog 46 0 = some { name := "Node", type := 3, offset := 0, embedded := false, tag := "", pkgPath := "", byteOffset := 0 } := by kernel_rfl
@[go_sem] theorem fi46_1 : fieldOf Tryz.prog 46 1 = some { name := "State", type := 44, offset := 1, embedded := false, tag := "", pkgPath := "", byteOffset := 8 } := by kernel_rfl
attribute [go_sem] Tryz.underlying47
@[go_sem] theorem ce47 : Tryz.prog.cellsOf 47 = 3 := by kernel_rfl
@[go_sem] theorem by47 : Tryz.prog.bytesOf 47 = 32 := by kernel_rfl
@[go_sem] theorem ag47 : isAg Tryz.prog 47 = true := by kernel_rfl
@[go_sem] theorem ze47 : zeroCs Tryz.prog 47 = some [.v (.int .i64 0), .v (.int .i64 0), .v (.string { data := #[] })] := by kernel_rfl
@[go_sem] theorem se47 : selfTy Tryz.prog 47 = false := by kernel_rfl
@[go_sem] theorem fi47_0 : fieldOf Tryz.prog 47 0 = some { name := "Key", type := 3, offset := 0, embedded := false, tag := "", pkgPath := "", byteOffset := 0 } := by kernel_rfl
@[go_sem] theorem fi47_1 : fieldOf Tryz.prog 47 1 = some { name := "Ver", type := 3, offset := 1, embedded := false, tag := "", pkgPath := "", byteOffset := 8 } := by kernel_rfl
@[go_sem] theorem fi47_2 : fieldOf Tryz.prog 47 2 = some { name := "Val", type := 9, offset := 2, embedded := false, tag := "", pkgPath := "", byteOffset := 16 } := by kernel_rfl
attribute [go_sem] Tryz.underlying48
@[go_sem] theorem ce48 : Tryz.prog.cellsOf 48 = 3 := by kernel_rfl
@[go_sem] theorem by48 : Tryz.prog.bytesOf 48 = 32 := by kernel_rfl
@[go_sem] theorem ag48 : isAg Tryz.prog 48 = true := by kernel_rfl
@[go_sem] theorem fl48 : flatTags Tryz.prog 48 = some [0, 0, 1] := by kernel_rfl
@[go_sem] theorem ze48 : zeroCs Tryz.prog 48 = some [.v (.int .i64 0), .v (.int .i64 0), .v (.string { data := #[] })] := by kernel_rfl
@[go_sem] theorem se48 : selfTy Tryz.prog 48 = false := by kernel_rfl
@[go_sem] theorem fi48_0 : fieldOf Tryz.prog 48 0 = some { name := "Key", type := 3, offset := 0, embedded := false, tag := "", pkgPath := "", byteOffset := 0 } := by kernel_rfl
@[go_sem] theorem fi48_1 : fieldOf Tryz.prog 48 1 = some { name := "Ver", type := 3, offset := 1, embedded := false, tag := "", pkgPath := "", byteOffset := 8 } := by kernel_rfl
@[go_sem] theorem fi48_2 : fieldOf Tryz.prog 48 2 = some { name := "Val", type := 9, offset := 2, embedded := false, tag := "", pkgPath := "", byteOffset := 16 } := by kernel_rfl
attribute [go_sem] Tryz.underlying50
@[go_sem] theorem ce50 : Tryz.prog.cellsOf 50 = 1 := by kernel_rfl
@[go_sem] theorem by50 : Tryz.prog.bytesOf 50 = 8 := by kernel_rfl
@[go_sem] theorem ag50 : isAg Tryz.prog 50 = false := by kernel_rfl
@[go_sem] theorem ze50 : zeroCs Tryz.prog 50 = some [.v .nilFunc] := by kernel_rfl
@[go_sem] theorem se50 : selfTy Tryz.prog 50 = false := by kernel_rfl
attribute [go_sem] Tryz.underlying51
@[go_sem] theorem ce51 : Tryz.prog.cellsOf 51 = 1 := by kernel_rfl
@[go_sem] theorem by51 : Tryz.prog.bytesOf 51 = 8 := by kernel_rfl
@[go_sem] theorem ag51 : isAg Tryz.prog 51 = false := by kernel_rfl
@[go_sem] theorem ze51 : zeroCs Tryz.prog 51 = some [.v .nilFunc] := by kernel_rfl
@[go_sem] theorem se51 : selfTy Tryz.prog 51 = false := by kernel_rfl
attribute [go_sem] Tryz.underlying52
@[go_sem] theorem ce52 : Tryz.prog.cellsOf 52 = 1 := by kernel_rfl
@[go_sem] theorem by52 : Tryz.prog.bytesOf 52 = 8 := by kernel_rfl
@[go_sem] theorem ag52 : isAg Tryz.prog 52 = false := by kernel_rfl
@[go_sem] theorem ze52 : zeroCs Tryz.prog 52 = some [.v .nilFunc] := by kernel_rfl
@[go_sem] theorem se52 : selfTy Tryz.prog 52 = false := by kernel_rfl
attribute [go_sem] Tryz.underlying53
@[go_sem] theorem ce53 : Tryz.prog.cellsOf 53 = 1 := by kernel_rfl
@[go_sem] theorem by53 : Tryz.prog.bytesOf 53 = 8 := by kernel_rfl
@[go_sem] theorem ag53 : isAg Tryz.prog 53 = false := by kernel_rfl
@[go_sem] theorem ze53 : zeroCs Tryz.prog 53 = some [.v .nilFunc] := by kernel_rfl
@[go_sem] theorem se53 : selfTy Tryz.prog 53 = false := by kernel_rfl
attribute [go_sem] Tryz.underlying55
@[go_sem] theorem ce55 : Tryz.prog.cellsOf 55 = 1 := by kernel_rfl
@[go_sem] theorem by55 : Tryz.prog.bytesOf 55 = 8 := by kernel_rfl
@[go_sem] theorem ag55 : isAg Tryz.prog 55 = false := by kernel_rfl
@[go_sem] theorem ze55 : zeroCs Tryz.prog 55 = some [.v .nilFunc] := by kernel_rfl
@[go_sem] theorem se55 : selfTy Tryz.prog 55 = false := by kernel_rfl
attribute [go_sem] Tryz.underlying56
@[go_sem] theorem ce56 : Tryz.prog.cellsOf 56 = 1 := by kernel_rfl
@[go_sem] theorem by56 : Tryz.prog.bytesOf 56 = 8 := by kernel_rfl
@[go_sem] theorem ag56 : isAg Tryz.prog 56 = false := by kernel_rfl
@[go_sem] theorem ze56 : zeroCs Tryz.prog 56 = some [.v .nilFunc] := by kernel_rfl
@[go_sem] theorem se56 : selfTy Tryz.prog 56 = false := by kernel_rfl
attribute [go_sem] Tryz.underlying57
@[go_sem] theorem ce57 : Tryz.prog.cellsOf 57 = 1 := by kernel_rfl
@[go_sem] theorem by57 : Tryz.prog.bytesOf 57 = 8 := by kernel_rfl
@[go_sem] theorem ag57 : isAg Tryz.prog 57 = false := by kernel_rfl
@[go_sem] theorem ze57 : zeroCs Tryz.prog 57 = some [.v .nilFunc] := by kernel_rfl
@[go_sem] theorem se57 : selfTy Tryz.prog 57 = false := by kernel_rfl
attribute [go_sem] Tryz.underlying58
@[go_sem] theorem ce58 : Tryz.prog.cellsOf 58 = 1 := by kernel_rfl
@[go_sem] theorem by58 : Tryz.prog.bytesOf 58 = 8 := by kernel_rfl
@[go_sem] theorem ag58 : isAg Tryz.prog 58 = false := by kernel_rfl
@[go_sem] theorem ze58 : zeroCs Tryz.prog 58 = some [.v .nilFunc] := by kernel_rfl
@[go_sem] theorem se58 : selfTy Tryz.prog 58 = false := by kernel_rfl
attribute [go_sem] Tryz.underlying59
@[go_sem] theorem ce59 : Tryz.prog.cellsOf 59 = 1 := by kernel_rfl
@[go_sem] theorem by59 : Tryz.prog.bytesOf 59 = 8 := by kernel_rfl
@[go_sem] theorem ag59 : isAg Tryz.prog 59 = false := by kernel_rfl
@[go_sem] theorem ze59 : zeroCs Tryz.prog 59 = some [.v .nilFunc] := by kernel_rfl
@[go_sem] theorem se59 : selfTy Tryz.prog 59 = false := by kernel_rfl
attribute [go_sem] Tryz.underlying60
@[go_sem] theorem ce60 : Tryz.prog.cellsOf 60 = 1 := by kernel_rfl
@[go_sem] theorem by60 : Tryz.prog.bytesOf 60 = 24 := by kernel_rfl
@[go_sem] theorem ag60 : isAg Tryz.prog 60 = false := by kernel_rfl
@[go_sem] theorem el60 : elemTy Tryz.prog 60 = some 5 := by kernel_rfl
@[go_sem] theorem ze60 : zeroCs Tryz.prog 60 = some [.emp] := by kernel_rfl
@[go_sem] theorem se60 : selfTy Tryz.prog 60 = false := by kernel_rfl
attribute [go_sem] Tryz.underlying61
@[go_sem] theorem ce61 : Tryz.prog.cellsOf 61 = 1 := by kernel_rfl
@[go_sem] theorem by61 : Tryz.prog.bytesOf 61 = 8 := by kernel_rfl
@[go_sem] theorem ag61 : isAg Tryz.prog 61 = false := by kernel_rfl
@[go_sem] theorem ze61 : zeroCs Tryz.prog 61 = some [.v .nilFunc] := by kernel_rfl
@[go_sem] theorem se61 : selfTy Tryz.prog 61 = false := by kernel_rfl
attribute [go_sem] Tryz.underlying63
@[go_sem] theorem ce63 : Tryz.prog.cellsOf 63 = 1 := by kernel_rfl
@[go_sem] theorem by63 : Tryz.prog.bytesOf 63 = 8 := by kernel_rfl
@[go_sem] theorem ag63 : isAg Tryz.prog 63 = false := by kernel_rfl
@[go_sem] theorem ze63 : zeroCs Tryz.prog 63 = some [.v .nilFunc] := by kernel_rfl
@[go_sem] theorem se63 : selfTy Tryz.prog 63 = false := by kernel_rfl
attribute [go_sem] Tryz.underlying64
@[go_sem] theorem ce64 : Tryz.prog.cellsOf 64 = 1 := by kernel_rfl
@[go_sem] theorem by64 : Tryz.prog.bytesOf 64 = 24 := by kernel_rfl
@[go_sem] theorem ag64 : isAg Tryz.prog 64 = false := by kernel_rfl
@[go_sem] theorem el64 : elemTy Tryz.prog 64 = some 81 := by kernel_rfl
@[go_sem] theorem ze64 : zeroCs Tryz.prog 64 = some [.emp] := by kernel_rfl
@[go_sem] theorem se64 : selfTy Tryz.prog 64 = false := by kernel_rfl
attribute [go_sem] Tryz.underlying65
@[go_sem] theorem ce65 : Tryz.prog.cellsOf 65 = 6 := by kernel_rfl
@[go_sem] theorem by65 : Tryz.prog.bytesOf 65 = 112 := by kernel_rfl
@[go_sem] theorem ag65 : isAg Tryz.prog 65 = true := by kernel_rfl
@[go_sem] theorem ze65 : zeroCs Tryz.prog 65 = some [.v (.int .i64 0), .v (.int .i64 0), .emp, .emp, .emp, .emp] := by kernel_rfl
@[go_sem] theorem se65 : selfTy Tryz.prog 65 = false := by kernel_rfl
@[go_sem] theorem fi65_0 : fieldOf Tryz.prog 65 0 = some { name := "ID", type := 3, offset := 0, embedded := false, tag := "", pkgPath := "", byteOffset := 0 } := by kernel_rfl
@[go_sem] theorem fi65_1 : fieldOf Tryz.prog 65 1 = some { name := "Flags", type := 3, offset := 1, embedded := false, tag := "", pkgPath := "", byteOffset := 8 } := by kernel_rfl
@[go_sem] theorem fi65_2 : fieldOf Tryz.prog 65 2 = some { name := "Question", type := 64, offset := 2, embedded := false, tag := "", pkgPath := "", byteOffset := 16 } := by kernel_rfl
@[go_sem] theorem fi65_3 : fieldOf Tryz.prog 65 3 = some { name := "Answer", type := 39, offset := 3, embedded := false, tag := "", pkgPath := "", byteOffset := 40 } := by kernel_rfl
@[go_sem] theorem fi65_4 : fieldOf Tryz.prog 65 4 = some { name := "Auth", type := 39, offset := 4, embedded := false, tag := "", pkgPath := "", byteOffset := 64 } := by kernel_rfl
@[go_sem] theorem fi65_5 : fieldOf Tryz.prog 65 5 = some { name := "More", type := 39, offset := 5, embedded := false, tag := "", pkgPath := "", byteOffset := 88 } := by kernel_rfl
attribute [go_sem] Tryz.underlying66
@[go_sem] theorem ce66 : Tryz.prog.cellsOf 66 = 6 := by kernel_rfl
@[go_sem] theorem by66 : Tryz.prog.bytesOf 66 = 112 := by kernel_rfl
@[go_sem] theorem ag66 : isAg Tryz.prog 66 = true := by kernel_rfl
@[go_sem] theorem ze66 : zeroCs Tryz.prog 66 = some [.v (.int .i64 0), .v (.int .i64 0), .emp, .emp, .emp, .emp] := by kernel_rfl
@[go_sem] theorem se66 : selfTy Tryz.prog 66 = false := by kernel_rfl
@[go_sem] theorem fi66_0 : fieldOf Tryz.prog 66 0 = some { name := "ID", type := 3, offset := 0, embedded := false, tag := "", pkgPath := "", byteOffset := 0 } := by kernel_rfl
@[go_sem] theorem fi66_1 : fieldOf Tryz.prog 66 1 = some { name := "Flags", type := 3, offset := 1, embedded := false, tag := "", pkgPath := "", byteOffset := 8 } := by kernel_rfl
@[go_sem] theorem fi66_2 : fieldOf Tryz.prog 66 2 = some { name := "Question", type := 64, offset := 2, embedded := false, tag := "", pkgPath := "", byteOffset := 16 } := by kernel_rfl
@[go_sem] theorem fi66_3 : fieldOf Tryz.prog 66 3 = some { name := "Answer", type := 39, offset := 3, embedded := false, tag := "", pkgPath := "", byteOffset := 40 } := by kernel_rfl
@[go_sem] theorem fi66_4 : fieldOf Tryz.prog 66 4 = some { name := "Auth", type := 39, offset := 4, embedded := false, tag := "", pkgPath := "", byteOffset := 64 } := by kernel_rfl
@[go_sem] theorem fi66_5 : fieldOf Tryz.prog 66 5 = some { name := "More", type := 39, offset := 5, embedded := false, tag := "", pkgPath := "", byteOffset := 88 } := by kernel_rfl
attribute [go_sem] Tryz.underlying68
@[go_sem] theorem ce68 : Tryz.prog.cellsOf 68 = 1 := by kernel_rfl
@[go_sem] theorem by68 : Tryz.prog.bytesOf 68 = 8 := by kernel_rfl
@[go_sem] theorem ag68 : isAg Tryz.prog 68 = false := by kernel_rfl
@[go_sem] theorem ze68 : zeroCs Tryz.prog 68 = some [.v .nilFunc] := by kernel_rfl
@[go_sem] theorem se68 : selfTy Tryz.prog 68 = false := by kernel_rfl
attribute [go_sem] Tryz.underlying69
@[go_sem] theorem ce69 : Tryz.prog.cellsOf 69 = 1 := by kernel_rfl
@[go_sem] theorem by69 : Tryz.prog.bytesOf 69 = 8 := by kernel_rfl
@[go_sem] theorem ag69 : isAg Tryz.prog 69 = false := by kernel_rfl
@[go_sem] theorem ze69 : zeroCs Tryz.prog 69 = some [.v .nilFunc] := by kernel_rfl
@[go_sem] theorem se69 : selfTy Tryz.prog 69 = false := by kernel_rfl
attribute [go_sem] Tryz.underlying70
@[go_sem] theorem ce70 : Tryz.prog.cellsOf 70 = 1 := by kernel_rfl
@[go_sem] theorem by70 : Tryz.prog.bytesOf 70 = 8 := by kernel_rfl
@[go_sem] theorem ag70 : isAg Tryz.prog 70 = false := by kernel_rfl
@[go_sem] theorem ze70 : zeroCs Tryz.prog 70 = some [.v .nilFunc] := by kernel_rfl
@[go_sem] theorem se70 : selfTy Tryz.prog 70 = false := by kernel_rfl
attribute [go_sem] Tryz.underlying71
@[go_sem] theorem ce71 : Tryz.prog.cellsOf 71 = 1 := by kernel_rfl
@[go_sem] theorem by71 : Tryz.prog.bytesOf 71 = 8 := by kernel_rfl
@[go_sem] theorem ag71 : isAg Tryz.prog 71 = false := by kernel_rfl
@[go_sem] theorem ze71 : zeroCs Tryz.prog 71 = some [.v .nilFunc] := by kernel_rfl
@[go_sem] theorem se71 : selfTy Tryz.prog 71 = false := by kernel_rfl
attribute [go_sem] Tryz.underlying72
@[go_sem] theorem ce72 : Tryz.prog.cellsOf 72 = 1 := by kernel_rfl
@[go_sem] theorem by72 : Tryz.prog.bytesOf 72 = 8 := by kernel_rfl
@[go_sem] theorem ag72 : isAg Tryz.prog 72 = false := by kernel_rfl
@[go_sem] theorem ze72 : zeroCs Tryz.prog 72 = some [.v .nilFunc] := by kernel_rfl
@[go_sem] theorem se72 : selfTy Tryz.prog 72 = false := by kernel_rfl
attribute [go_sem] Tryz.underlying73
@[go_sem] theorem ce73 : Tryz.prog.cellsOf 73 = 1 := by kernel_rfl
@[go_sem] theorem by73 : Tryz.prog.bytesOf 73 = 8 := by kernel_rfl
@[go_sem] theorem ag73 : isAg Tryz.prog 73 = false := by kernel_rfl
@[go_sem] theorem ze73 : zeroCs Tryz.prog 73 = some [.v (.int .i64 0)] := by kernel_rfl
@[go_sem] theorem se73 : selfTy Tryz.prog 73 = false := by kernel_rfl
attribute [go_sem] Tryz.underlying75
@[go_sem] theorem ce75 : Tryz.prog.cellsOf 75 = 1 := by kernel_rfl
@[go_sem] theorem by75 : Tryz.prog.bytesOf 75 = 8 := by kernel_rfl
@[go_sem] theorem ag75 : isAg Tryz.prog 75 = false := by kernel_rfl
@[go_sem] theorem ze75 : zeroCs Tryz.prog 75 = some [.v .nilFunc] := by kernel_rfl
@[go_sem] theorem se75 : selfTy Tryz.prog 75 = false := by kernel_rfl
attribute [go_sem] Tryz.underlying76
@[go_sem] theorem ce76 : Tryz.prog.cellsOf 76 = 6 := by kernel_rfl
@[go_sem] theorem by76 : Tryz.prog.bytesOf 76 = 64 := by kernel_rfl
@[go_sem] theorem ag76 : isAg Tryz.prog 76 = true := by kernel_rfl
@[go_sem] theorem ze76 : zeroCs Tryz.prog 76 = some [.v (.string { data := #[] }), .v (.string { data := #[] }), .v (.int .i64 0), .v (.int .i64 0), .v (.int .i64 0), .v (.bool false)] := by kernel_rfl
@[go_sem] theorem se76 : selfTy Tryz.prog 76 = false := by kernel_rfl
@[go_sem] theorem fi76_0 : fieldOf Tryz.prog 76 0 = some { name := "Name", type := 9, offset := 0, embedded := false, tag := "", pkgPath := "", byteOffset := 0 } := by kernel_rfl
@[go_sem] theorem fi76_1 : fieldOf Tryz.prog 76 1 = some { name := "Proto", type := 9, offset := 1, embedded := false, tag := "", pkgPath := "", byteOffset := 16 } := by kernel_rfl
@[go_sem] theorem fi76_2 : fieldOf Tryz.prog 76 2 = some { name := "Port", type := 3, offset := 2, embedded := false, tag := "", pkgPath := "", byteOffset := 32 } := by kernel_rfl
@[go_sem] theorem fi76_3 : fieldOf Tryz.prog 76 3 = some { name := "Priority", type := 3, offset := 3, embedded := false, tag := "", pkgPath := "", byteOffset := 40 } := by kernel_rfl
@[go_sem] theorem fi76_4 : fieldOf Tryz.prog 76 4 = some { name := "Weight", type := 3, offset := 4, embedded := false, tag := "", pkgPath := "", byteOffset := 48 } := by kernel_rfl
@[go_sem] theorem fi76_5 : fieldOf Tryz.prog 76 5 = some { name := "Well", type := 4, offset := 5, embedded := false, tag := "", pkgPath := "", byteOffset := 56 } := by kernel_rfl
attribute [go_sem] Tryz.underlying77
@[go_sem] theorem ce77 : Tryz.prog.cellsOf 77 = 6 := by kernel_rfl
@[go_sem] theorem by77 : Tryz.prog.bytesOf 77 = 64 := by kernel_rfl
@[go_sem] theorem ag77 : isAg Tryz.prog 77 = true := by kernel_rfl
@[go_sem] theorem fl77 : flatTags Tryz.prog 77 = some [1, 1, 0, 0, 0, 2] := by kernel_rfl
@[go_sem] theorem ze77 : zeroCs Tryz.prog 77 = some [.v (.string { data := #[] }), .v (.string { data := #[] }), .v (.int .i64 0), .v (.int .i64 0), .v (.int .i64 0), .v (.bool false)] := by kernel_rfl
@[go_sem] theorem se77 : selfTy Tryz.prog 77 = false := by kernel_rfl
@[go_sem] theorem fi77_0 : fieldOf Tryz.prog 77 0 = some { name := "Name", type := 9, offset := 0, embedded := false, tag := "", pkgPath := "", byteOffset := 0 } := by kernel_rfl
@[go_sem] theorem fi77_1 : fieldOf Tryz.prog 77 1 = some { name := "Proto", type := 9, offset := 1, embedded := false, tag := "", pkgPath := "", byteOffset := 16 } := by kernel_rfl
@[go_sem] theorem fi77_2 : fieldOf Tryz.prog 77 2 = some { name := "Port", type := 3, offset := 2, embedded := false, tag := "", pkgPath := "", byteOffset := 32 } := by kernel_rfl
@[go_sem] theorem fi77_3 : fieldOf Tryz.prog 77 3 = some { name := "Priority", type := 3, offset := 3, embedded := false, tag := "", pkgPath := "", byteOffset := 40 } := by kernel_rfl
@[go_sem] theorem fi77_4 : fieldOf Tryz.prog 77 4 = some { name := "Weight", type := 3, offset := 4, embedded := false, tag := "", pkgPath := "", byteOffset := 48 } := by kernel_rfl
@[go_sem] theorem fi77_5 : fieldOf Tryz.prog 77 5 = some { name := "Well", type := 4, offset := 5, embedded := false, tag := "", pkgPath := "", byteOffset := 56 } := by kernel_rfl
attribute [go_sem] Tryz.underlying78
@[go_sem] theorem ce78 : Tryz.prog.cellsOf 78 = 1 := by kernel_rfl
@[go_sem] theorem by78 : Tryz.prog.bytesOf 78 = 2 := by kernel_rfl
@[go_sem] theorem ag78 : isAg Tryz.prog 78 = false := by kernel_rfl
@[go_sem] theorem ze78 : zeroCs Tryz.prog 78 = some [.v (.int .u16 0)] := by kernel_rfl
@[go_sem] theorem se78 : selfTy Tryz.prog 78 = false := by kernel_rfl
attribute [go_sem] Tryz.underlying79
@[go_sem] theorem ce79 : Tryz.prog.cellsOf 79 = 1 := by kernel_rfl
@[go_sem] theorem by79 : Tryz.prog.bytesOf 79 = 8 := by kernel_rfl
@[go_sem] theorem ag79 : isAg Tryz.prog 79 = false := by kernel_rfl
@[go_sem] theorem ze79 : zeroCs Tryz.prog 79 = some [.v .nilFunc] := by kernel_rfl
@[go_sem] theorem se79 : selfTy Tryz.prog 79 = false := by kernel_rfl
attribute [go_sem] Tryz.underlying80
@[go_sem] theorem ce80 : Tryz.prog.cellsOf 80 = 3 := by kernel_rfl
@[go_sem] theorem by80 : Tryz.prog.bytesOf 80 = 32 := by kernel_rfl
@[go_sem] theorem ag80 : isAg Tryz.prog 80 = true := by kernel_rfl
@[go_sem] theorem ze80 : zeroCs Tryz.prog 80 = some [.v (.string { data := #[] }), .v (.int .i64 0), .v (.int .i64 0)] := by kernel_rfl
@[go_sem] theorem se80 : selfTy Tryz.prog 80 = false := by kernel_rfl
@[go_sem] theorem fi80_0 : fieldOf Tryz.prog 80 0 = some { name := "Name", type := 9, offset := 0, embedded := false, tag := "", pkgPath := "", byteOffset := 0 } := by kernel_rfl
@[go_sem] theorem fi80_1 : fieldOf Tryz.prog 80 1 = some { name := "Type", type := 3, offset := 1, embedded := false, tag := "", pkgPath := "", byteOffset := 16 } := by kernel_rfl
@[go_sem] theorem fi80_2 : fieldOf Tryz.prog 80 2 = some { name := "Class", type := 3, offset := 2, embedded := false, tag := "", pkgPath := "", byteOffset := 24 } := by kernel_rfl
attribute [go_sem] Tryz.underlying81
@[go_sem] theorem ce81 : Tryz.prog.cellsOf 81 = 3 := by kernel_rfl
@[go_sem] theorem by81 : Tryz.prog.bytesOf 81 = 32 := by kernel_rfl
@[go_sem] theorem ag81 : isAg Tryz.prog 81 = true := by kernel_rfl
@[go_sem] theorem fl81 : flatTags Tryz.prog 81 = some [1, 0, 0] := by kernel_rfl
@[go_sem] theorem ze81 : zeroCs Tryz.prog 81 = some [.v (.string { data := #[] }), .v (.int .i64 0), .v (.int .i64 0)] := by kernel_rfl
@[go_sem] theorem se81 : selfTy Tryz.prog 81 = false := by kernel_rfl
@[go_sem] theorem fi81_0 : fieldOf Tryz.prog 81 0 = some { name := "Name", type := 9, offset := 0, embedded := false, tag := "", pkgPath := "", byteOffset := 0 } := by kernel_rfl
@[go_sem] theorem fi81_1 : fieldOf Tryz.prog 81 1 = some { name := "Type", type := 3, offset := 1, embedded := false, tag := "", pkgPath := "", byteOffset := 16 } := by kernel_rfl
@[go_sem] theorem fi81_2 : fieldOf Tryz.prog 81 2 = some { name := "Class", type := 3, offset := 2, embedded := false, tag := "", pkgPath := "", byteOffset := 24 } := by kernel_rfl
attribute [go_sem] Tryz.underlying82
@[go_sem] theorem ce82 : Tryz.prog.cellsOf 82 = 1 := by kernel_rfl
@[go_sem] theorem by82 : Tryz.prog.bytesOf 82 = 24 := by kernel_rfl
@[go_sem] theorem ag82 : isAg Tryz.prog 82 = false := by kernel_rfl
@[go_sem] theorem el82 : elemTy Tryz.prog 82 = some 77 := by kernel_rfl
@[go_sem] theorem ze82 : zeroCs Tryz.prog 82 = some [.emp] := by kernel_rfl
@[go_sem] theorem se82 : selfTy Tryz.prog 82 = false := by kernel_rfl
attribute [go_sem] Tryz.underlying83
@[go_sem] theorem ce83 : Tryz.prog.cellsOf 83 = 1 := by kernel_rfl
@[go_sem] theorem by83 : Tryz.prog.bytesOf 83 = 8 := by kernel_rfl
@[go_sem] theorem ag83 : isAg Tryz.prog 83 = false := by kernel_rfl
@[go_sem] theorem ze83 : zeroCs Tryz.prog 83 = some [.v .nilFunc] := by kernel_rfl
@[go_sem] theorem se83 : selfTy Tryz.prog 83 = false := by kernel_rfl
attribute [go_sem] Tryz.underlying84
@[go_sem] theorem ce84 : Tryz.prog.cellsOf 84 = 1 := by kernel_rfl
@[go_sem] theorem by84 : Tryz.prog.bytesOf 84 = 8 := by kernel_rfl
@[go_sem] theorem ag84 : isAg Tryz.prog 84 = false := by kernel_rfl
@[go_sem] theorem ze84 : zeroCs Tryz.prog 84 = some [.v .nilFunc] := by kernel_rfl
@[go_sem] theorem se84 : selfTy Tryz.prog 84 = false := by kernel_rfl
attribute [go_sem] Tryz.underlying85
@[go_sem] theorem ce85 : Tryz.prog.cellsOf 85 = 1 := by kernel_rfl
@[go_sem] theorem by85 : Tryz.prog.bytesOf 85 = 8 := by kernel_rfl
@[go_sem] theorem ag85 : isAg Tryz.prog 85 = false := by kernel_rfl
@[go_sem] theorem ze85 : zeroCs Tryz.prog 85 = some [.v .nilFunc] := by kernel_rfl
@[go_sem] theorem se85 : selfTy Tryz.prog 85 = false := by kernel_rfl
attribute [go_sem] Tryz.underlying86
@[go_sem] theorem ce86 : Tryz.prog.cellsOf 86 = 2 := by kernel_rfl
@[go_sem] theorem by86 : Tryz.prog.bytesOf 86 = 4 := by kernel_rfl
@[go_sem] theorem ag86 : isAg Tryz.prog 86 = true := by kernel_rfl
@[go_sem] theorem ar86 : arrTy Tryz.prog 86 = some (2, 78) := by kernel_rfl
@[go_sem] theorem ze86 : zeroCs Tryz.prog 86 = some [.v (.int .u16 0), .v (.int .u16 0)] := by kernel_rfl
@[go_sem] theorem se86 : selfTy Tryz.prog 86 = false := by kernel_rfl
attribute [go_sem] Tryz.underlying87
@[go_sem] theorem ce87 : Tryz.prog.cellsOf 87 = 1 := by kernel_rfl
@[go_sem] theorem by87 : Tryz.prog.bytesOf 87 = 8 := by kernel_rfl
@[go_sem] theorem ag87 : isAg Tryz.prog 87 = false := by kernel_rfl
@[go_sem] theorem ze87 : zeroCs Tryz.prog 87 = some [.v .nilFunc] := by kernel_rfl
@[go_sem] theorem se87 : selfTy Tryz.prog 87 = false := by kernel_rfl
attribute [go_sem] Tryz.underlying89
@[go_sem] theorem ce89 : Tryz.prog.cellsOf 89 = 1 := by kernel_rfl
@[go_sem] theorem by89 : Tryz.prog.bytesOf 89 = 8 := by kernel_rfl
@[go_sem] theorem ag89 : isAg Tryz.prog 89 = false := by kernel_rfl
@[go_sem] theorem ze89 : zeroCs Tryz.prog 89 = some [.v .nilFunc] := by kernel_rfl
@[go_sem] theorem se89 : selfTy Tryz.prog 89 = false := by kernel_rfl
attribute [go_sem] Tryz.underlying90
@[go_sem] theorem ce90 : Tryz.prog.cellsOf 90 = 1 := by kernel_rfl
@[go_sem] theorem by90 : Tryz.prog.bytesOf 90 = 8 := by kernel_rfl
@[go_sem] theorem ag90 : isAg Tryz.prog 90 = false := by kernel_rfl
@[go_sem] theorem ze90 : zeroCs Tryz.prog 90 = some [.v .nilFunc] := by kernel_rfl
@[go_sem] theorem se90 : selfTy Tryz.prog 90 = false := by kernel_rfl
attribute [go_sem] Tryz.underlying91
@[go_sem] theorem ce91 : Tryz.prog.cellsOf 91 = 1 := by kernel_rfl
@[go_sem] theorem by91 : Tryz.prog.bytesOf 91 = 8 := by kernel_rfl
@[go_sem] theorem ag91 : isAg Tryz.prog 91 = false := by kernel_rfl
@[go_sem] theorem ze91 : zeroCs Tryz.prog 91 = some [.v .nilFunc] := by kernel_rfl
@[go_sem] theorem se91 : selfTy Tryz.prog 91 = false := by kernel_rfl
attribute [go_sem] Tryz.underlying92
@[go_sem] theorem ce92 : Tryz.prog.cellsOf 92 = 1 := by kernel_rfl
@[go_sem] theorem by92 : Tryz.prog.bytesOf 92 = 8 := by kernel_rfl
@[go_sem] theorem ag92 : isAg Tryz.prog 92 = false := by kernel_rfl
@[go_sem] theorem ze92 : zeroCs Tryz.prog 92 = some [.v .nilFunc] := by kernel_rfl
@[go_sem] theorem se92 : selfTy Tryz.prog 92 = false := by kernel_rfl
attribute [go_sem] Tryz.underlying93
@[go_sem] theorem ce93 : Tryz.prog.cellsOf 93 = 1 := by kernel_rfl
@[go_sem] theorem by93 : Tryz.prog.bytesOf 93 = 8 := by kernel_rfl
@[go_sem] theorem ag93 : isAg Tryz.prog 93 = false := by kernel_rfl
@[go_sem] theorem ze93 : zeroCs Tryz.prog 93 = some [.v .nilFunc] := by kernel_rfl
@[go_sem] theorem se93 : selfTy Tryz.prog 93 = false := by kernel_rfl
attribute [go_sem] Tryz.underlying94
@[go_sem] theorem ce94 : Tryz.prog.cellsOf 94 = 1 := by kernel_rfl
@[go_sem] theorem by94 : Tryz.prog.bytesOf 94 = 8 := by kernel_rfl
@[go_sem] theorem ag94 : isAg Tryz.prog 94 = false := by kernel_rfl
@[go_sem] theorem ze94 : zeroCs Tryz.prog 94 = some [.v .nilFunc] := by kernel_rfl
@[go_sem] theorem se94 : selfTy Tryz.prog 94 = false := by kernel_rfl
attribute [go_sem] Tryz.underlying96
@[go_sem] theorem ce96 : Tryz.prog.cellsOf 96 = 1 := by kernel_rfl
@[go_sem] theorem by96 : Tryz.prog.bytesOf 96 = 8 := by kernel_rfl
@[go_sem] theorem ag96 : isAg Tryz.prog 96 = false := by kernel_rfl
@[go_sem] theorem ze96 : zeroCs Tryz.prog 96 = some [.v .nilFunc] := by kernel_rfl
@[go_sem] theorem se96 : selfTy Tryz.prog 96 = false := by kernel_rfl
attribute [go_sem] Tryz.underlying97
@[go_sem] theorem ce97 : Tryz.prog.cellsOf 97 = 1 := by kernel_rfl
@[go_sem] theorem by97 : Tryz.prog.bytesOf 97 = 8 := by kernel_rfl
@[go_sem] theorem ag97 : isAg Tryz.prog 97 = false := by kernel_rfl
@[go_sem] theorem ze97 : zeroCs Tryz.prog 97 = some [.v .nilFunc] := by kernel_rfl
@[go_sem] theorem se97 : selfTy Tryz.prog 97 = false := by kernel_rfl
attribute [go_sem] Tryz.underlying98
@[go_sem] theorem ce98 : Tryz.prog.cellsOf 98 = 1 := by kernel_rfl
@[go_sem] theorem by98 : Tryz.prog.bytesOf 98 = 8 := by kernel_rfl
@[go_sem] theorem ag98 : isAg Tryz.prog 98 = false := by kernel_rfl
@[go_sem] theorem ze98 : zeroCs Tryz.prog 98 = some [.v .nilFunc] := by kernel_rfl
@[go_sem] theorem se98 : selfTy Tryz.prog 98 = false := by kernel_rfl
attribute [go_sem] Tryz.underlying99
@[go_sem] theorem ce99 : Tryz.prog.cellsOf 99 = 1 := by kernel_rfl
@[go_sem] theorem by99 : Tryz.prog.bytesOf 99 = 8 := by kernel_rfl
@[go_sem] theorem ag99 : isAg Tryz.prog 99 = false := by kernel_rfl
@[go_sem] theorem ze99 : zeroCs Tryz.prog 99 = some [.v .nilFunc] := by kernel_rfl
@[go_sem] theorem se99 : selfTy Tryz.prog 99 = false := by kernel_rfl
attribute [go_sem] Tryz.underlying100
@[go_sem] theorem ce100 : Tryz.prog.cellsOf 100 = 1 := by kernel_rfl
@[go_sem] theorem by100 : Tryz.prog.bytesOf 100 = 8 := by kernel_rfl
@[go_sem] theorem ag100 : isAg Tryz.prog 100 = false := by kernel_rfl
@[go_sem] theorem ze100 : zeroCs Tryz.prog 100 = some [.v .nilFunc] := by kernel_rfl
@[go_sem] theorem se100 : selfTy Tryz.prog 100 = false := by kernel_rfl
attribute [go_sem] Tryz.underlying101
@[go_sem] theorem ce101 : Tryz.prog.cellsOf 101 = 1 := by kernel_rfl
@[go_sem] theorem by101 : Tryz.prog.bytesOf 101 = 8 := by kernel_rfl
@[go_sem] theorem ag101 : isAg Tryz.prog 101 = false := by kernel_rfl
@[go_sem] theorem ze101 : zeroCs Tryz.prog 101 = some [.v .nilFunc] := by kernel_rfl
@[go_sem] theorem se101 : selfTy Tryz.prog 101 = false := by kernel_rfl
attribute [go_sem] Tryz.underlying102
@[go_sem] theorem ce102 : Tryz.prog.cellsOf 102 = 1 := by kernel_rfl
@[go_sem] theorem by102 : Tryz.prog.bytesOf 102 = 8 := by kernel_rfl
@[go_sem] theorem ag102 : isAg Tryz.prog 102 = false := by kernel_rfl
@[go_sem] theorem ze102 : zeroCs Tryz.prog 102 = some [.v .nilFunc] := by kernel_rfl
@[go_sem] theorem se102 : selfTy Tryz.prog 102 = false := by kernel_rfl
attribute [go_sem] Tryz.underlying103
@[go_sem] theorem ce103 : Tryz.prog.cellsOf 103 = 1 := by kernel_rfl
@[go_sem] theorem by103 : Tryz.prog.bytesOf 103 = 8 := by kernel_rfl
@[go_sem] theorem ag103 : isAg Tryz.prog 103 = false := by kernel_rfl
@[go_sem] theorem ze103 : zeroCs Tryz.prog 103 = some [.v .nilFunc] := by kernel_rfl
@[go_sem] theorem se103 : selfTy Tryz.prog 103 = false := by kernel_rfl
attribute [go_sem] Tryz.underlying104
@[go_sem] theorem ce104 : Tryz.prog.cellsOf 104 = 1 := by kernel_rfl
@[go_sem] theorem by104 : Tryz.prog.bytesOf 104 = 8 := by kernel_rfl
@[go_sem] theorem ag104 : isAg Tryz.prog 104 = false := by kernel_rfl
@[go_sem] theorem ze104 : zeroCs Tryz.prog 104 = some [.v .nilFunc] := by kernel_rfl
@[go_sem] theorem se104 : selfTy Tryz.prog 104 = false := by kernel_rfl
attribute [go_sem] Tryz.underlying105
@[go_sem] theorem ce105 : Tryz.prog.cellsOf 105 = 1 := by kernel_rfl
@[go_sem] theorem by105 : Tryz.prog.bytesOf 105 = 8 := by kernel_rfl
@[go_sem] theorem ag105 : isAg Tryz.prog 105 = false := by kernel_rfl
@[go_sem] theorem ze105 : zeroCs Tryz.prog 105 = some [.v (.map none)] := by kernel_rfl
@[go_sem] theorem se105 : selfTy Tryz.prog 105 = false := by kernel_rfl
attribute [go_sem] Tryz.underlying107
@[go_sem] theorem ce107 : Tryz.prog.cellsOf 107 = 1 := by kernel_rfl
@[go_sem] theorem by107 : Tryz.prog.bytesOf 107 = 24 := by kernel_rfl
@[go_sem] theorem ag107 : isAg Tryz.prog 107 = false := by kernel_rfl
@[go_sem] theorem el107 : elemTy Tryz.prog 107 = some 9 := by kernel_rfl
@[go_sem] theorem ze107 : zeroCs Tryz.prog 107 = some [.emp] := by kernel_rfl
@[go_sem] theorem se107 : selfTy Tryz.prog 107 = false := by kernel_rfl
attribute [go_sem] Tryz.underlying108
@[go_sem] theorem ce108 : Tryz.prog.cellsOf 108 = 1 := by kernel_rfl
@[go_sem] theorem by108 : Tryz.prog.bytesOf 108 = 8 := by kernel_rfl
@[go_sem] theorem ag108 : isAg Tryz.prog 108 = false := by kernel_rfl
@[go_sem] theorem ze108 : zeroCs Tryz.prog 108 = some [.v .nilFunc] := by kernel_rfl
@[go_sem] theorem se108 : selfTy Tryz.prog 108 = false := by kernel_rfl
attribute [go_sem] Tryz.underlying109
@[go_sem] theorem ce109 : Tryz.prog.cellsOf 109 = 1 := by kernel_rfl
@[go_sem] theorem by109 : Tryz.prog.bytesOf 109 = 8 := by kernel_rfl
@[go_sem] theorem ag109 : isAg Tryz.prog 109 = false := by kernel_rfl
@[go_sem] theorem ze109 : zeroCs Tryz.prog 109 = some [.v .nilFunc] := by kernel_rfl
@[go_sem] theorem se109 : selfTy Tryz.prog 109 = false := by kernel_rfl
attribute [go_sem] Tryz.underlying111
@[go_sem] theorem ce111 : Tryz.prog.cellsOf 111 = 1 := by kernel_rfl
@[go_sem] theorem by111 : Tryz.prog.bytesOf 111 = 8 := by kernel_rfl
@[go_sem] theorem ag111 : isAg Tryz.prog 111 = false := by kernel_rfl
@[go_sem] theorem ze111 : zeroCs Tryz.prog 111 = some [.v .nilFunc] := by kernel_rfl
@[go_sem] theorem se111 : selfTy Tryz.prog 111 = false := by kernel_rfl
attribute [go_sem] Tryz.underlying112
@[go_sem] theorem ce112 : Tryz.prog.cellsOf 112 = 1 := by kernel_rfl
@[go_sem] theorem by112 : Tryz.prog.bytesOf 112 = 8 := by kernel_rfl
@[go_sem] theorem ag112 : isAg Tryz.prog 112 = false := by kernel_rfl
@[go_sem] theorem ze112 : zeroCs Tryz.prog 112 = some [.v .nilFunc] := by kernel_rfl
@[go_sem] theorem se112 : selfTy Tryz.prog 112 = false := by kernel_rfl
attribute [go_sem] Tryz.underlying114
@[go_sem] theorem ce114 : Tryz.prog.cellsOf 114 = 1 := by kernel_rfl
@[go_sem] theorem by114 : Tryz.prog.bytesOf 114 = 8 := by kernel_rfl
@[go_sem] theorem ag114 : isAg Tryz.prog 114 = false := by kernel_rfl
@[go_sem] theorem ze114 : zeroCs Tryz.prog 114 = some [.v .nilFunc] := by kernel_rfl
@[go_sem] theorem se114 : selfTy Tryz.prog 114 = false := by kernel_rfl
attribute [go_sem] Tryz.underlying115
@[go_sem] theorem ce115 : Tryz.prog.cellsOf 115 = 1 := by kernel_rfl
@[go_sem] theorem by115 : Tryz.prog.bytesOf 115 = 8 := by kernel_rfl
@[go_sem] theorem ag115 : isAg Tryz.prog 115 = false := by kernel_rfl
@[go_sem] theorem ze115 : zeroCs Tryz.prog 115 = some [.v .nilFunc] := by kernel_rfl
@[go_sem] theorem se115 : selfTy Tryz.prog 115 = false := by kernel_rfl
attribute [go_sem] Tryz.underlying116
@[go_sem] theorem ce116 : Tryz.prog.cellsOf 116 = 1 := by kernel_rfl
@[go_sem] theorem by116 : Tryz.prog.bytesOf 116 = 8 := by kernel_rfl
@[go_sem] theorem ag116 : isAg Tryz.prog 116 = false := by kernel_rfl
@[go_sem] theorem ze116 : zeroCs Tryz.prog 116 = some [.v .nilFunc] := by kernel_rfl
@[go_sem] theorem se116 : selfTy Tryz.prog 116 = false := by kernel_rfl
attribute [go_sem] Tryz.underlying117
@[go_sem] theorem ce117 : Tryz.prog.cellsOf 117 = 1 := by kernel_rfl
@[go_sem] theorem by117 : Tryz.prog.bytesOf 117 = 8 := by kernel_rfl
@[go_sem] theorem ag117 : isAg Tryz.prog 117 = false := by kernel_rfl
@[go_sem] theorem ze117 : zeroCs Tryz.prog 117 = some [.v (.pointer none)] := by kernel_rfl
@[go_sem] theorem se117 : selfTy Tryz.prog 117 = false := by kernel_rfl
attribute [go_sem] Tryz.underlying118
@[go_sem] theorem ce118 : Tryz.prog.cellsOf 118 = 1 := by kernel_rfl
@[go_sem] theorem by118 : Tryz.prog.bytesOf 118 = 8 := by kernel_rfl
@[go_sem] theorem ag118 : isAg Tryz.prog 118 = false := by kernel_rfl
@[go_sem] theorem ze118 : zeroCs Tryz.prog 118 = some [.v .nilFunc] := by kernel_rfl
@[go_sem] theorem se118 : selfTy Tryz.prog 118 = false := by kernel_rfl
attribute [go_sem] Tryz.underlying119
@[go_sem] theorem ce119 : Tryz.prog.cellsOf 119 = 1 := by kernel_rfl
@[go_sem] theorem by119 : Tryz.prog.bytesOf 119 = 8 := by kernel_rfl
@[go_sem] theorem ag119 : isAg Tryz.prog 119 = false := by kernel_rfl
@[go_sem] theorem ze119 : zeroCs Tryz.prog 119 = some [.v .nilFunc] := by kernel_rfl
@[go_sem] theorem se119 : selfTy Tryz.prog 119 = false := by kernel_rfl
attribute [go_sem] Tryz.underlying121
@[go_sem] theorem ce121 : Tryz.prog.cellsOf 121 = 1 := by kernel_rfl
@[go_sem] theorem by121 : Tryz.prog.bytesOf 121 = 8 := by kernel_rfl
@[go_sem] theorem ag121 : isAg Tryz.prog 121 = false := by kernel_rfl
@[go_sem] theorem ze121 : zeroCs Tryz.prog 121 = some [.v .nilFunc] := by kernel_rfl
@[go_sem] theorem se121 : selfTy Tryz.prog 121 = false := by kernel_rfl
attribute [go_sem] Tryz.underlying123
@[go_sem] theorem ce123 : Tryz.prog.cellsOf 123 = 1 := by kernel_rfl
@[go_sem] theorem by123 : Tryz.prog.bytesOf 123 = 8 := by kernel_rfl
@[go_sem] theorem ag123 : isAg Tryz.prog 123 = false := by kernel_rfl
@[go_sem] theorem ze123 : zeroCs Tryz.prog 123 = some [.v .nilFunc] := by kernel_rfl
@[go_sem] theorem se123 : selfTy Tryz.prog 123 = false := by kernel_rfl
attribute [go_sem] Tryz.underlying124
@[go_sem] theorem ce124 : Tryz.prog.cellsOf 124 = 1 := by kernel_rfl
@[go_sem] theorem by124 : Tryz.prog.bytesOf 124 = 8 := by kernel_rfl
@[go_sem] theorem ag124 : isAg Tryz.prog 124 = false := by kernel_rfl
@[go_sem] theorem ze124 : zeroCs Tryz.prog 124 = some [.v .nilFunc] := by kernel_rfl
@[go_sem] theorem se124 : selfTy Tryz.prog 124 = false := by kernel_rfl
attribute [go_sem] Tryz.underlying125
@[go_sem] theorem ce125 : Tryz.prog.cellsOf 125 = 1 := by kernel_rfl
@[go_sem] theorem by125 : Tryz.prog.bytesOf 125 = 8 := by kernel_rfl
@[go_sem] theorem ag125 : isAg Tryz.prog 125 = false := by kernel_rfl
@[go_sem] theorem ze125 : zeroCs Tryz.prog 125 = some [.v .nilFunc] := by kernel_rfl
@[go_sem] theorem se125 : selfTy Tryz.prog 125 = false := by kernel_rfl
attribute [go_sem] Tryz.underlying127
@[go_sem] theorem ce127 : Tryz.prog.cellsOf 127 = 1 := by kernel_rfl
@[go_sem] theorem by127 : Tryz.prog.bytesOf 127 = 8 := by kernel_rfl
@[go_sem] theorem ag127 : isAg Tryz.prog 127 = false := by kernel_rfl
@[go_sem] theorem ze127 : zeroCs Tryz.prog 127 = some [.v .nilFunc] := by kernel_rfl
@[go_sem] theorem se127 : selfTy Tryz.prog 127 = false := by kernel_rfl
attribute [go_sem] Tryz.underlying128
@[go_sem] theorem ce128 : Tryz.prog.cellsOf 128 = 1 := by kernel_rfl
@[go_sem] theorem by128 : Tryz.prog.bytesOf 128 = 8 := by kernel_rfl
@[go_sem] theorem ag128 : isAg Tryz.prog 128 = false := by kernel_rfl
@[go_sem] theorem ze128 : zeroCs Tryz.prog 128 = some [.v .nilFunc] := by kernel_rfl
@[go_sem] theorem se128 : selfTy Tryz.prog 128 = false := by kernel_rfl
attribute [go_sem] Tryz.underlying129
@[go_sem] theorem ce129 : Tryz.prog.cellsOf 129 = 1 := by kernel_rfl
@[go_sem] theorem by129 : Tryz.prog.bytesOf 129 = 8 := by kernel_rfl
@[go_sem] theorem ag129 : isAg Tryz.prog 129 = false := by kernel_rfl
@[go_sem] theorem ze129 : zeroCs Tryz.prog 129 = some [.v .nilFunc] := by kernel_rfl
@[go_sem] theorem se129 : selfTy Tryz.prog 129 = false := by kernel_rfl
attribute [go_sem] Tryz.underlying130
@[go_sem] theorem ce130 : Tryz.prog.cellsOf 130 = 1 := by kernel_rfl
@[go_sem] theorem by130 : Tryz.prog.bytesOf 130 = 8 := by kernel_rfl
@[go_sem] theorem ag130 : isAg Tryz.prog 130 = false := by kernel_rfl
@[go_sem] theorem ze130 : zeroCs Tryz.prog 130 = some [.v .nilFunc] := by kernel_rfl
@[go_sem] theorem se130 : selfTy Tryz.prog 130 = false := by kernel_rfl
attribute [go_sem] Tryz.underlying131
@[go_sem] theorem ce131 : Tryz.prog.cellsOf 131 = 1 := by kernel_rfl
@[go_sem] theorem by131 : Tryz.prog.bytesOf 131 = 8 := by kernel_rfl
@[go_sem] theorem ag131 : isAg Tryz.prog 131 = false := by kernel_rfl
@[go_sem] theorem ze131 : zeroCs Tryz.prog 131 = some [.v .nilFunc] := by kernel_rfl
@[go_sem] theorem se131 : selfTy Tryz.prog 131 = false := by kernel_rfl
attribute [go_sem] Tryz.underlying132
@[go_sem] theorem ce132 : Tryz.prog.cellsOf 132 = 1 := by kernel_rfl
@[go_sem] theorem by132 : Tryz.prog.bytesOf 132 = 8 := by kernel_rfl
@[go_sem] theorem ag132 : isAg Tryz.prog 132 = false := by kernel_rfl
@[go_sem] theorem ze132 : zeroCs Tryz.prog 132 = some [.v .nilFunc] := by kernel_rfl
@[go_sem] theorem se132 : selfTy Tryz.prog 132 = false := by kernel_rfl
attribute [go_sem] Tryz.underlying133
@[go_sem] theorem ce133 : Tryz.prog.cellsOf 133 = 1 := by kernel_rfl
@[go_sem] theorem by133 : Tryz.prog.bytesOf 133 = 8 := by kernel_rfl
@[go_sem] theorem ag133 : isAg Tryz.prog 133 = false := by kernel_rfl
@[go_sem] theorem ze133 : zeroCs Tryz.prog 133 = some [.v .nilFunc] := by kernel_rfl
@[go_sem] theorem se133 : selfTy Tryz.prog 133 = false := by kernel_rfl
attribute [go_sem] Tryz.underlying134
@[go_sem] theorem ce134 : Tryz.prog.cellsOf 134 = 1 := by kernel_rfl
@[go_sem] theorem by134 : Tryz.prog.bytesOf 134 = 8 := by kernel_rfl
@[go_sem] theorem ag134 : isAg Tryz.prog 134 = false := by kernel_rfl
@[go_sem] theorem ze134 : zeroCs Tryz.prog 134 = some [.v .nilFunc] := by kernel_rfl
@[go_sem] theorem se134 : selfTy Tryz.prog 134 = false := by kernel_rfl
attribute [go_sem] Tryz.underlying135
@[go_sem] theorem ce135 : Tryz.prog.cellsOf 135 = 1 := by kernel_rfl
@[go_sem] theorem by135 : Tryz.prog.bytesOf 135 = 8 := by kernel_rfl
@[go_sem] theorem ag135 : isAg Tryz.prog 135 = false := by kernel_rfl
@[go_sem] theorem ze135 : zeroCs Tryz.prog 135 = some [.v .nilFunc] := by kernel_rfl
@[go_sem] theorem se135 : selfTy Tryz.prog 135 = false := by kernel_rfl
attribute [go_sem] Tryz.underlying136
@[go_sem] theorem ce136 : Tryz.prog.cellsOf 136 = 1 := by kernel_rfl
@[go_sem] theorem by136 : Tryz.prog.bytesOf 136 = 8 := by kernel_rfl
@[go_sem] theorem ag136 : isAg Tryz.prog 136 = false := by kernel_rfl
@[go_sem] theorem ze136 : zeroCs Tryz.prog 136 = some [.v (.int .u64 0)] := by kernel_rfl
@[go_sem] theorem se136 : selfTy Tryz.prog 136 = false := by kernel_rfl
attribute [go_sem] Tryz.underlying137
@[go_sem] theorem ce137 : Tryz.prog.cellsOf 137 = 1 := by kernel_rfl
@[go_sem] theorem by137 : Tryz.prog.bytesOf 137 = 8 := by kernel_rfl
@[go_sem] theorem ag137 : isAg Tryz.prog 137 = false := by kernel_rfl
@[go_sem] theorem ze137 : zeroCs Tryz.prog 137 = some [.v .nilFunc] := by kernel_rfl
@[go_sem] theorem se137 : selfTy Tryz.prog 137 = false := by kernel_rfl
attribute [go_sem] Tryz.underlying138
@[go_sem] theorem ce138 : Tryz.prog.cellsOf 138 = 3 := by kernel_rfl
@[go_sem] theorem by138 : Tryz.prog.bytesOf 138 = 24 := by kernel_rfl
@[go_sem] theorem ag138 : isAg Tryz.prog 138 = true := by kernel_rfl
@[go_sem] theorem ar138 : arrTy Tryz.prog 138 = some (3, 3) := by kernel_rfl
@[go_sem] theorem ze138 : zeroCs Tryz.prog 138 = some [.v (.int .i64 0), .v (.int .i64 0), .v (.int .i64 0)] := by kernel_rfl
@[go_sem] theorem se138 : selfTy Tryz.prog 138 = false := by kernel_rfl
attribute [go_sem] Tryz.underlying139
@[go_sem] theorem ce139 : Tryz.prog.cellsOf 139 = 1 := by kernel_rfl
@[go_sem] theorem by139 : Tryz.prog.bytesOf 139 = 8 := by kernel_rfl
@[go_sem] theorem ag139 : isAg Tryz.prog 139 = false := by kernel_rfl
@[go_sem] theorem ze139 : zeroCs Tryz.prog 139 = some [.v (.pointer none)] := by kernel_rfl
@[go_sem] theorem se139 : selfTy Tryz.prog 139 = false := by kernel_rfl
attribute [go_sem] Tryz.underlying140
@[go_sem] theorem ce140 : Tryz.prog.cellsOf 140 = 3 := by kernel_rfl
@[go_sem] theorem by140 : Tryz.prog.bytesOf 140 = 24 := by kernel_rfl
@[go_sem] theorem ag140 : isAg Tryz.prog 140 = true := by kernel_rfl
@[go_sem] theorem ar140 : arrTy Tryz.prog 140 = some (3, 139) := by kernel_rfl
@[go_sem] theorem ze140 : zeroCs Tryz.prog 140 = some [.v (.pointer none), .v (.pointer none), .v (.pointer none)] := by kernel_rfl
@[go_sem] theorem se140 : selfTy Tryz.prog 140 = false := by kernel_rfl
attribute [go_sem] Tryz.underlying141
@[go_sem] theorem ce141 : Tryz.prog.cellsOf 141 = 1 := by kernel_rfl
@[go_sem] theorem by141 : Tryz.prog.bytesOf 141 = 8 := by kernel_rfl
@[go_sem] theorem ag141 : isAg Tryz.prog 141 = false := by kernel_rfl
@[go_sem] theorem ze141 : zeroCs Tryz.prog 141 = some [.v .nilFunc] := by kernel_rfl
@[go_sem] theorem se141 : selfTy Tryz.prog 141 = false := by kernel_rfl
attribute [go_sem] Tryz.underlying142
@[go_sem] theorem ce142 : Tryz.prog.cellsOf 142 = 1 := by kernel_rfl
@[go_sem] theorem by142 : Tryz.prog.bytesOf 142 = 8 := by kernel_rfl
@[go_sem] theorem ag142 : isAg Tryz.prog 142 = false := by kernel_rfl
@[go_sem] theorem ze142 : zeroCs Tryz.prog 142 = some [.v .nilFunc] := by kernel_rfl
@[go_sem] theorem se142 : selfTy Tryz.prog 142 = false := by kernel_rfl
attribute [go_sem] Tryz.underlying143
@[go_sem] theorem ce143 : Tryz.prog.cellsOf 143 = 1 := by kernel_rfl
@[go_sem] theorem by143 : Tryz.prog.bytesOf 143 = 8 := by kernel_rfl
@[go_sem] theorem ag143 : isAg Tryz.prog 143 = false := by kernel_rfl
@[go_sem] theorem ze143 : zeroCs Tryz.prog 143 = some [.v .nilFunc] := by kernel_rfl
@[go_sem] theorem se143 : selfTy Tryz.prog 143 = false := by kernel_rfl
attribute [go_sem] Tryz.underlying144
@[go_sem] theorem ce144 : Tryz.prog.cellsOf 144 = 1 := by kernel_rfl
@[go_sem] theorem by144 : Tryz.prog.bytesOf 144 = 8 := by kernel_rfl
@[go_sem] theorem ag144 : isAg Tryz.prog 144 = false := by kernel_rfl
@[go_sem] theorem ze144 : zeroCs Tryz.prog 144 = some [.v .nilFunc] := by kernel_rfl
@[go_sem] theorem se144 : selfTy Tryz.prog 144 = false := by kernel_rfl
attribute [go_sem] Tryz.underlying145
@[go_sem] theorem ce145 : Tryz.prog.cellsOf 145 = 3 := by kernel_rfl
@[go_sem] theorem by145 : Tryz.prog.bytesOf 145 = 72 := by kernel_rfl
@[go_sem] theorem ag145 : isAg Tryz.prog 145 = true := by kernel_rfl
@[go_sem] theorem ar145 : arrTy Tryz.prog 145 = some (3, 39) := by kernel_rfl
@[go_sem] theorem ze145 : zeroCs Tryz.prog 145 = some [.emp, .emp, .emp] := by kernel_rfl
@[go_sem] theorem se145 : selfTy Tryz.prog 145 = false := by kernel_rfl
attribute [go_sem] Tryz.underlying146
@[go_sem] theorem ce146 : Tryz.prog.cellsOf 146 = 1 := by kernel_rfl
@[go_sem] theorem by146 : Tryz.prog.bytesOf 146 = 8 := by kernel_rfl
@[go_sem] theorem ag146 : isAg Tryz.prog 146 = false := by kernel_rfl
@[go_sem] theorem ze146 : zeroCs Tryz.prog 146 = some [.v .nilFunc] := by kernel_rfl
@[go_sem] theorem se146 : selfTy Tryz.prog 146 = false := by kernel_rfl
attribute [go_sem] Tryz.underlying147
@[go_sem] theorem ce147 : Tryz.prog.cellsOf 147 = 1 := by kernel_rfl
@[go_sem] theorem by147 : Tryz.prog.bytesOf 147 = 8 := by kernel_rfl
@[go_sem] theorem ag147 : isAg Tryz.prog 147 = false := by kernel_rfl
@[go_sem] theorem ze147 : zeroCs Tryz.prog 147 = some [.v (.pointer none)] := by kernel_rfl
@[go_sem] theorem se147 : selfTy Tryz.prog 147 = false := by kernel_rfl
attribute [go_sem] Tryz.underlying148
@[go_sem] theorem ce148 : Tryz.prog.cellsOf 148 = 3 := by kernel_rfl
@[go_sem] theorem by148 : Tryz.prog.bytesOf 148 = 40 := by kernel_rfl
@[go_sem] theorem ag148 : isAg Tryz.prog 148 = true := by kernel_rfl
@[go_sem] theorem ze148 : zeroCs Tryz.prog 148 = some [.emp, .v (.int .i64 0), .v (.int .i64 0)] := by kernel_rfl
@[go_sem] theorem se148 : selfTy Tryz.prog 148 = false := by kernel_rfl
@[go_sem] theorem fi148_0 : fieldOf Tryz.prog 148 0 = some { name := "b", type := 60, offset := 0, embedded := false, tag := "", pkgPath := "bellwether/packet", byteOffset := 0 } := by kernel_rfl
@[go_sem] theorem fi148_1 : fieldOf Tryz.prog 148 1 = some { name := "at", type := 3, offset := 1, embedded := false, tag := "", pkgPath := "bellwether/packet", byteOffset := 24 } := by kernel_rfl
@[go_sem] theorem fi148_2 : fieldOf Tryz.prog 148 2 = some { name := "e", type := 73, offset := 2, embedded := false, tag := "", pkgPath := "bellwether/packet", byteOffset := 32 } := by kernel_rfl
attribute [go_sem] Tryz.underlying149
@[go_sem] theorem ce149 : Tryz.prog.cellsOf 149 = 3 := by kernel_rfl
@[go_sem] theorem by149 : Tryz.prog.bytesOf 149 = 40 := by kernel_rfl
@[go_sem] theorem ag149 : isAg Tryz.prog 149 = true := by kernel_rfl
@[go_sem] theorem ze149 : zeroCs Tryz.prog 149 = some [.emp, .v (.int .i64 0), .v (.int .i64 0)] := by kernel_rfl
@[go_sem] theorem se149 : selfTy Tryz.prog 149 = false := by kernel_rfl
@[go_sem] theorem fi149_0 : fieldOf Tryz.prog 149 0 = some { name := "b", type := 60, offset := 0, embedded := false, tag := "", pkgPath := "bellwether/packet", byteOffset := 0 } := by kernel_rfl
@[go_sem] theorem fi149_1 : fieldOf Tryz.prog 149 1 = some { name := "at", type := 3, offset := 1, embedded := false, tag := "", pkgPath := "bellwether/packet", byteOffset := 24 } := by kernel_rfl
@[go_sem] theorem fi149_2 : fieldOf Tryz.prog 149 2 = some { name := "e", type := 73, offset := 2, embedded := false, tag := "", pkgPath := "bellwether/packet", byteOffset := 32 } := by kernel_rfl
attribute [go_sem] Tryz.underlying150
@[go_sem] theorem ce150 : Tryz.prog.cellsOf 150 = 1 := by kernel_rfl
@[go_sem] theorem by150 : Tryz.prog.bytesOf 150 = 8 := by kernel_rfl
@[go_sem] theorem ag150 : isAg Tryz.prog 150 = false := by kernel_rfl
@[go_sem] theorem ze150 : zeroCs Tryz.prog 150 = some [.v .nilFunc] := by kernel_rfl
@[go_sem] theorem se150 : selfTy Tryz.prog 150 = false := by kernel_rfl
attribute [go_sem] Tryz.underlying151
@[go_sem] theorem ce151 : Tryz.prog.cellsOf 151 = 1 := by kernel_rfl
@[go_sem] theorem by151 : Tryz.prog.bytesOf 151 = 8 := by kernel_rfl
@[go_sem] theorem ag151 : isAg Tryz.prog 151 = false := by kernel_rfl
@[go_sem] theorem ze151 : zeroCs Tryz.prog 151 = some [.v .nilFunc] := by kernel_rfl
@[go_sem] theorem se151 : selfTy Tryz.prog 151 = false := by kernel_rfl
attribute [go_sem] Tryz.underlying152
@[go_sem] theorem ce152 : Tryz.prog.cellsOf 152 = 1 := by kernel_rfl
@[go_sem] theorem by152 : Tryz.prog.bytesOf 152 = 8 := by kernel_rfl
@[go_sem] theorem ag152 : isAg Tryz.prog 152 = false := by kernel_rfl
@[go_sem] theorem ze152 : zeroCs Tryz.prog 152 = some [.v .nilFunc] := by kernel_rfl
@[go_sem] theorem se152 : selfTy Tryz.prog 152 = false := by kernel_rfl
attribute [go_sem] Tryz.underlying153
@[go_sem] theorem ce153 : Tryz.prog.cellsOf 153 = 1 := by kernel_rfl
@[go_sem] theorem by153 : Tryz.prog.bytesOf 153 = 8 := by kernel_rfl
@[go_sem] theorem ag153 : isAg Tryz.prog 153 = false := by kernel_rfl
@[go_sem] theorem ze153 : zeroCs Tryz.prog 153 = some [.v .nilFunc] := by kernel_rfl
@[go_sem] theorem se153 : selfTy Tryz.prog 153 = false := by kernel_rfl
attribute [go_sem] Tryz.underlying154
@[go_sem] theorem ce154 : Tryz.prog.cellsOf 154 = 1 := by kernel_rfl
@[go_sem] theorem by154 : Tryz.prog.bytesOf 154 = 8 := by kernel_rfl
@[go_sem] theorem ag154 : isAg Tryz.prog 154 = false := by kernel_rfl
@[go_sem] theorem ze154 : zeroCs Tryz.prog 154 = some [.v .nilFunc] := by kernel_rfl
@[go_sem] theorem se154 : selfTy Tryz.prog 154 = false := by kernel_rfl
attribute [go_sem] Tryz.underlying155
@[go_sem] theorem ce155 : Tryz.prog.cellsOf 155 = 4 := by kernel_rfl
@[go_sem] theorem by155 : Tryz.prog.bytesOf 155 = 32 := by kernel_rfl
@[go_sem] theorem ag155 : isAg Tryz.prog 155 = true := by kernel_rfl
@[go_sem] theorem ar155 : arrTy Tryz.prog 155 = some (4, 3) := by kernel_rfl
@[go_sem] theorem ze155 : zeroCs Tryz.prog 155 = some [.v (.int .i64 0), .v (.int .i64 0), .v (.int .i64 0), .v (.int .i64 0)] := by kernel_rfl
@[go_sem] theorem se155 : selfTy Tryz.prog 155 = false := by kernel_rfl
attribute [go_sem] Tryz.underlying157
@[go_sem] theorem ce157 : Tryz.prog.cellsOf 157 = 1 := by kernel_rfl
@[go_sem] theorem by157 : Tryz.prog.bytesOf 157 = 8 := by kernel_rfl
@[go_sem] theorem ag157 : isAg Tryz.prog 157 = false := by kernel_rfl
@[go_sem] theorem ze157 : zeroCs Tryz.prog 157 = some [.v .nilFunc] := by kernel_rfl
@[go_sem] theorem se157 : selfTy Tryz.prog 157 = false := by kernel_rfl
attribute [go_sem] Tryz.underlying159
@[go_sem] theorem ce159 : Tryz.prog.cellsOf 159 = 1 := by kernel_rfl
@[go_sem] theorem by159 : Tryz.prog.bytesOf 159 = 8 := by kernel_rfl
@[go_sem] theorem ag159 : isAg Tryz.prog 159 = false := by kernel_rfl
@[go_sem] theorem ze159 : zeroCs Tryz.prog 159 = some [.v .nilFunc] := by kernel_rfl
@[go_sem] theorem se159 : selfTy Tryz.prog 159 = false := by kernel_rfl
attribute [go_sem] Tryz.underlying160
@[go_sem] theorem ce160 : Tryz.prog.cellsOf 160 = 1 := by kernel_rfl
@[go_sem] theorem by160 : Tryz.prog.bytesOf 160 = 8 := by kernel_rfl
@[go_sem] theorem ag160 : isAg Tryz.prog 160 = false := by kernel_rfl
@[go_sem] theorem ze160 : zeroCs Tryz.prog 160 = some [.v .nilFunc] := by kernel_rfl
@[go_sem] theorem se160 : selfTy Tryz.prog 160 = false := by kernel_rfl
attribute [go_sem] Tryz.underlying161
@[go_sem] theorem ce161 : Tryz.prog.cellsOf 161 = 1 := by kernel_rfl
@[go_sem] theorem by161 : Tryz.prog.bytesOf 161 = 8 := by kernel_rfl
@[go_sem] theorem ag161 : isAg Tryz.prog 161 = false := by kernel_rfl
@[go_sem] theorem ze161 : zeroCs Tryz.prog 161 = some [.v .nilFunc] := by kernel_rfl
@[go_sem] theorem se161 : selfTy Tryz.prog 161 = false := by kernel_rfl
attribute [go_sem] Tryz.underlying162
@[go_sem] theorem ce162 : Tryz.prog.cellsOf 162 = 1 := by kernel_rfl
@[go_sem] theorem by162 : Tryz.prog.bytesOf 162 = 8 := by kernel_rfl
@[go_sem] theorem ag162 : isAg Tryz.prog 162 = false := by kernel_rfl
@[go_sem] theorem ze162 : zeroCs Tryz.prog 162 = some [.v (.pointer none)] := by kernel_rfl
@[go_sem] theorem se162 : selfTy Tryz.prog 162 = false := by kernel_rfl
attribute [go_sem] Tryz.underlying163
@[go_sem] theorem ce163 : Tryz.prog.cellsOf 163 = 2 := by kernel_rfl
@[go_sem] theorem by163 : Tryz.prog.bytesOf 163 = 32 := by kernel_rfl
@[go_sem] theorem ag163 : isAg Tryz.prog 163 = true := by kernel_rfl
@[go_sem] theorem ze163 : zeroCs Tryz.prog 163 = some [.v (.pointer none), .emp] := by kernel_rfl
@[go_sem] theorem se163 : selfTy Tryz.prog 163 = false := by kernel_rfl
@[go_sem] theorem fi163_0 : fieldOf Tryz.prog 163 0 = some { name := "addr", type := 162, offset := 0, embedded := false, tag := "", pkgPath := "strings", byteOffset := 0 } := by kernel_rfl
@[go_sem] theorem fi163_1 : fieldOf Tryz.prog 163 1 = some { name := "buf", type := 60, offset := 1, embedded := false, tag := "", pkgPath := "strings", byteOffset := 8 } := by kernel_rfl
attribute [go_sem] Tryz.underlying164
@[go_sem] theorem ce164 : Tryz.prog.cellsOf 164 = 2 := by kernel_rfl
@[go_sem] theorem by164 : Tryz.prog.bytesOf 164 = 32 := by kernel_rfl
@[go_sem] theorem ag164 : isAg Tryz.prog 164 = true := by kernel_rfl
@[go_sem] theorem ze164 : zeroCs Tryz.prog 164 = some [.v (.pointer none), .emp] := by kernel_rfl
@[go_sem] theorem se164 : selfTy Tryz.prog 164 = true := by kernel_rfl
@[go_sem] theorem fi164_0 : fieldOf Tryz.prog 164 0 = some { name := "addr", type := 162, offset := 0, embedded := false, tag := "", pkgPath := "strings", byteOffset := 0 } := by kernel_rfl
@[go_sem] theorem fi164_1 : fieldOf Tryz.prog 164 1 = some { name := "buf", type := 60, offset := 1, embedded := false, tag := "", pkgPath := "strings", byteOffset := 8 } := by kernel_rfl
attribute [go_sem] Tryz.underlying165
attribute [go_sem] Tryz.underlying166
attribute [go_sem] Tryz.underlying167
@[go_sem] theorem ce167 : Tryz.prog.cellsOf 167 = 1 := by kernel_rfl
@[go_sem] theorem by167 : Tryz.prog.bytesOf 167 = 8 := by kernel_rfl
@[go_sem] theorem ag167 : isAg Tryz.prog 167 = false := by kernel_rfl
@[go_sem] theorem ze167 : zeroCs Tryz.prog 167 = some [.v .nilFunc] := by kernel_rfl
@[go_sem] theorem se167 : selfTy Tryz.prog 167 = false := by kernel_rfl
attribute [go_sem] Tryz.underlying169
@[go_sem] theorem ce169 : Tryz.prog.cellsOf 169 = 1 := by kernel_rfl
@[go_sem] theorem by169 : Tryz.prog.bytesOf 169 = 8 := by kernel_rfl
@[go_sem] theorem ag169 : isAg Tryz.prog 169 = false := by kernel_rfl
@[go_sem] theorem ze169 : zeroCs Tryz.prog 169 = some [.v .nilFunc] := by kernel_rfl
@[go_sem] theorem se169 : selfTy Tryz.prog 169 = false := by kernel_rfl
attribute [go_sem] Tryz.underlying170
@[go_sem] theorem ce170 : Tryz.prog.cellsOf 170 = 1 := by kernel_rfl
@[go_sem] theorem by170 : Tryz.prog.bytesOf 170 = 8 := by kernel_rfl
@[go_sem] theorem ag170 : isAg Tryz.prog 170 = false := by kernel_rfl
@[go_sem] theorem ze170 : zeroCs Tryz.prog 170 = some [.v .nilFunc] := by kernel_rfl
@[go_sem] theorem se170 : selfTy Tryz.prog 170 = false := by kernel_rfl
attribute [go_sem] Tryz.underlying171
@[go_sem] theorem ce171 : Tryz.prog.cellsOf 171 = 1 := by kernel_rfl
@[go_sem] theorem by171 : Tryz.prog.bytesOf 171 = 24 := by kernel_rfl
@[go_sem] theorem ag171 : isAg Tryz.prog 171 = false := by kernel_rfl
@[go_sem] theorem el171 : elemTy Tryz.prog 171 = some 107 := by kernel_rfl
@[go_sem] theorem ze171 : zeroCs Tryz.prog 171 = some [.emp] := by kernel_rfl
@[go_sem] theorem se171 : selfTy Tryz.prog 171 = false := by kernel_rfl
attribute [go_sem] Tryz.underlying172
@[go_sem] theorem ce172 : Tryz.prog.cellsOf 172 = 1 := by kernel_rfl
@[go_sem] theorem by172 : Tryz.prog.bytesOf 172 = 8 := by kernel_rfl
@[go_sem] theorem ag172 : isAg Tryz.prog 172 = false := by kernel_rfl
@[go_sem] theorem ze172 : zeroCs Tryz.prog 172 = some [.v .nilFunc] := by kernel_rfl
@[go_sem] theorem se172 : selfTy Tryz.prog 172 = false := by kernel_rfl
attribute [go_sem] Tryz.underlying173
@[go_sem] theorem ce173 : Tryz.prog.cellsOf 173 = 1 := by kernel_rfl
@[go_sem] theorem by173 : Tryz.prog.bytesOf 173 = 8 := by kernel_rfl
@[go_sem] theorem ag173 : isAg Tryz.prog 173 = false := by kernel_rfl
@[go_sem] theorem ze173 : zeroCs Tryz.prog 173 = some [.v .nilFunc] := by kernel_rfl
@[go_sem] theorem se173 : selfTy Tryz.prog 173 = false := by kernel_rfl
attribute [go_sem] Tryz.underlying174
@[go_sem] theorem ce174 : Tryz.prog.cellsOf 174 = 1 := by kernel_rfl
@[go_sem] theorem by174 : Tryz.prog.bytesOf 174 = 8 := by kernel_rfl
@[go_sem] theorem ag174 : isAg Tryz.prog 174 = false := by kernel_rfl
@[go_sem] theorem ze174 : zeroCs Tryz.prog 174 = some [.v .nilFunc] := by kernel_rfl
@[go_sem] theorem se174 : selfTy Tryz.prog 174 = false := by kernel_rfl
attribute [go_sem] Tryz.underlying175
@[go_sem] theorem ce175 : Tryz.prog.cellsOf 175 = 1 := by kernel_rfl
@[go_sem] theorem by175 : Tryz.prog.bytesOf 175 = 8 := by kernel_rfl
@[go_sem] theorem ag175 : isAg Tryz.prog 175 = false := by kernel_rfl
@[go_sem] theorem ze175 : zeroCs Tryz.prog 175 = some [.v .nilFunc] := by kernel_rfl
@[go_sem] theorem se175 : selfTy Tryz.prog 175 = false := by kernel_rfl
attribute [go_sem] Tryz.underlying176
@[go_sem] theorem ce176 : Tryz.prog.cellsOf 176 = 1 := by kernel_rfl
@[go_sem] theorem by176 : Tryz.prog.bytesOf 176 = 8 := by kernel_rfl
@[go_sem] theorem ag176 : isAg Tryz.prog 176 = false := by kernel_rfl
@[go_sem] theorem ze176 : zeroCs Tryz.prog 176 = some [.v .nilFunc] := by kernel_rfl
@[go_sem] theorem se176 : selfTy Tryz.prog 176 = false := by kernel_rfl
attribute [go_sem] Tryz.underlying177
@[go_sem] theorem ce177 : Tryz.prog.cellsOf 177 = 1 := by kernel_rfl
@[go_sem] theorem by177 : Tryz.prog.bytesOf 177 = 8 := by kernel_rfl
@[go_sem] theorem ag177 : isAg Tryz.prog 177 = false := by kernel_rfl
@[go_sem] theorem ze177 : zeroCs Tryz.prog 177 = some [.v .nilFunc] := by kernel_rfl
@[go_sem] theorem se177 : selfTy Tryz.prog 177 = false := by kernel_rfl
attribute [go_sem] Tryz.underlying178
@[go_sem] theorem ce178 : Tryz.prog.cellsOf 178 = 1 := by kernel_rfl
@[go_sem] theorem by178 : Tryz.prog.bytesOf 178 = 8 := by kernel_rfl
@[go_sem] theorem ag178 : isAg Tryz.prog 178 = false := by kernel_rfl
@[go_sem] theorem ze178 : zeroCs Tryz.prog 178 = some [.v .nilFunc] := by kernel_rfl
@[go_sem] theorem se178 : selfTy Tryz.prog 178 = false := by kernel_rfl
attribute [go_sem] Tryz.underlying179
@[go_sem] theorem ce179 : Tryz.prog.cellsOf 179 = 1 := by kernel_rfl
@[go_sem] theorem by179 : Tryz.prog.bytesOf 179 = 8 := by kernel_rfl
@[go_sem] theorem ag179 : isAg Tryz.prog 179 = false := by kernel_rfl
@[go_sem] theorem ze179 : zeroCs Tryz.prog 179 = some [.v .nilFunc] := by kernel_rfl
@[go_sem] theorem se179 : selfTy Tryz.prog 179 = false := by kernel_rfl
attribute [go_sem] Tryz.underlying180
@[go_sem] theorem ce180 : Tryz.prog.cellsOf 180 = 1 := by kernel_rfl
@[go_sem] theorem by180 : Tryz.prog.bytesOf 180 = 8 := by kernel_rfl
@[go_sem] theorem ag180 : isAg Tryz.prog 180 = false := by kernel_rfl
@[go_sem] theorem ze180 : zeroCs Tryz.prog 180 = some [.v .nilFunc] := by kernel_rfl
@[go_sem] theorem se180 : selfTy Tryz.prog 180 = false := by kernel_rfl
attribute [go_sem] Tryz.underlying181
@[go_sem] theorem ce181 : Tryz.prog.cellsOf 181 = 1 := by kernel_rfl
@[go_sem] theorem by181 : Tryz.prog.bytesOf 181 = 8 := by kernel_rfl
@[go_sem] theorem ag181 : isAg Tryz.prog 181 = false := by kernel_rfl
@[go_sem] theorem ze181 : zeroCs Tryz.prog 181 = some [.v .nilFunc] := by kernel_rfl
@[go_sem] theorem se181 : selfTy Tryz.prog 181 = false := by kernel_rfl
attribute [go_sem] Tryz.underlying182
@[go_sem] theorem ce182 : Tryz.prog.cellsOf 182 = 1 := by kernel_rfl
@[go_sem] theorem by182 : Tryz.prog.bytesOf 182 = 8 := by kernel_rfl
@[go_sem] theorem ag182 : isAg Tryz.prog 182 = false := by kernel_rfl
@[go_sem] theorem ze182 : zeroCs Tryz.prog 182 = some [.v .nilFunc] := by kernel_rfl
@[go_sem] theorem se182 : selfTy Tryz.prog 182 = false := by kernel_rfl
attribute [go_sem] Tryz.underlying183
@[go_sem] theorem ce183 : Tryz.prog.cellsOf 183 = 1 := by kernel_rfl
@[go_sem] theorem by183 : Tryz.prog.bytesOf 183 = 8 := by kernel_rfl
@[go_sem] theorem ag183 : isAg Tryz.prog 183 = false := by kernel_rfl
@[go_sem] theorem ze183 : zeroCs Tryz.prog 183 = some [.v .nilFunc] := by kernel_rfl
@[go_sem] theorem se183 : selfTy Tryz.prog 183 = false := by kernel_rfl
attribute [go_sem] Tryz.underlying184
@[go_sem] theorem ce184 : Tryz.prog.cellsOf 184 = 1 := by kernel_rfl
@[go_sem] theorem by184 : Tryz.prog.bytesOf 184 = 8 := by kernel_rfl
@[go_sem] theorem ag184 : isAg Tryz.prog 184 = false := by kernel_rfl
@[go_sem] theorem ze184 : zeroCs Tryz.prog 184 = some [.v (.int .u64 0)] := by kernel_rfl
@[go_sem] theorem se184 : selfTy Tryz.prog 184 = false := by kernel_rfl
attribute [go_sem] Tryz.underlying185
@[go_sem] theorem ce185 : Tryz.prog.cellsOf 185 = 1 := by kernel_rfl
@[go_sem] theorem by185 : Tryz.prog.bytesOf 185 = 8 := by kernel_rfl
@[go_sem] theorem ag185 : isAg Tryz.prog 185 = false := by kernel_rfl
@[go_sem] theorem ze185 : zeroCs Tryz.prog 185 = some [.v .nilFunc] := by kernel_rfl
@[go_sem] theorem se185 : selfTy Tryz.prog 185 = false := by kernel_rfl
attribute [go_sem] Tryz.underlying186
@[go_sem] theorem ce186 : Tryz.prog.cellsOf 186 = 1 := by kernel_rfl
@[go_sem] theorem by186 : Tryz.prog.bytesOf 186 = 8 := by kernel_rfl
@[go_sem] theorem ag186 : isAg Tryz.prog 186 = false := by kernel_rfl
@[go_sem] theorem ze186 : zeroCs Tryz.prog 186 = some [.v (.pointer none)] := by kernel_rfl
@[go_sem] theorem se186 : selfTy Tryz.prog 186 = false := by kernel_rfl
attribute [go_sem] Tryz.underlying187
@[go_sem] theorem ce187 : Tryz.prog.cellsOf 187 = 24 := by kernel_rfl
@[go_sem] theorem by187 : Tryz.prog.bytesOf 187 = 24 := by kernel_rfl
@[go_sem] theorem ag187 : isAg Tryz.prog 187 = true := by kernel_rfl
@[go_sem] theorem ar187 : arrTy Tryz.prog 187 = some (24, 5) := by kernel_rfl
@[go_sem] theorem ok187 : eqOk Tryz.prog 187 = true := by kernel_rfl
@[go_sem] theorem ze187 : zeroCs Tryz.prog 187 = some (bytesC (zerosB 24)) := by kernel_rfl
@[go_sem] theorem se187 : selfTy Tryz.prog 187 = false := by kernel_rfl
attribute [go_sem] Tryz.underlying188
@[go_sem] theorem ce188 : Tryz.prog.cellsOf 188 = 1 := by kernel_rfl
@[go_sem] theorem by188 : Tryz.prog.bytesOf 188 = 8 := by kernel_rfl
@[go_sem] theorem ag188 : isAg Tryz.prog 188 = false := by kernel_rfl
@[go_sem] theorem ze188 : zeroCs Tryz.prog 188 = some [.v .nilFunc] := by kernel_rfl
@[go_sem] theorem se188 : selfTy Tryz.prog 188 = false := by kernel_rfl
attribute [go_sem] Tryz.underlying189
@[go_sem] theorem ce189 : Tryz.prog.cellsOf 189 = 1 := by kernel_rfl
@[go_sem] theorem by189 : Tryz.prog.bytesOf 189 = 8 := by kernel_rfl
@[go_sem] theorem ag189 : isAg Tryz.prog 189 = false := by kernel_rfl
@[go_sem] theorem ze189 : zeroCs Tryz.prog 189 = some [.v .nilFunc] := by kernel_rfl
@[go_sem] theorem se189 : selfTy Tryz.prog 189 = false := by kernel_rfl
attribute [go_sem] Tryz.underlying191
@[go_sem] theorem ce191 : Tryz.prog.cellsOf 191 = 1 := by kernel_rfl
@[go_sem] theorem by191 : Tryz.prog.bytesOf 191 = 8 := by kernel_rfl
@[go_sem] theorem ag191 : isAg Tryz.prog 191 = false := by kernel_rfl
@[go_sem] theorem ze191 : zeroCs Tryz.prog 191 = some [.v .nilFunc] := by kernel_rfl
@[go_sem] theorem se191 : selfTy Tryz.prog 191 = false := by kernel_rfl
attribute [go_sem] Tryz.underlying192
@[go_sem] theorem ce192 : Tryz.prog.cellsOf 192 = 1 := by kernel_rfl
@[go_sem] theorem by192 : Tryz.prog.bytesOf 192 = 8 := by kernel_rfl
@[go_sem] theorem ag192 : isAg Tryz.prog 192 = false := by kernel_rfl
@[go_sem] theorem ze192 : zeroCs Tryz.prog 192 = some [.v .nilFunc] := by kernel_rfl
@[go_sem] theorem se192 : selfTy Tryz.prog 192 = false := by kernel_rfl
attribute [go_sem] Tryz.underlying193
@[go_sem] theorem ce193 : Tryz.prog.cellsOf 193 = 1 := by kernel_rfl
@[go_sem] theorem by193 : Tryz.prog.bytesOf 193 = 8 := by kernel_rfl
@[go_sem] theorem ag193 : isAg Tryz.prog 193 = false := by kernel_rfl
@[go_sem] theorem ze193 : zeroCs Tryz.prog 193 = some [.v .nilFunc] := by kernel_rfl
@[go_sem] theorem se193 : selfTy Tryz.prog 193 = false := by kernel_rfl
attribute [go_sem] Tryz.underlying194
@[go_sem] theorem ce194 : Tryz.prog.cellsOf 194 = 1 := by kernel_rfl
@[go_sem] theorem by194 : Tryz.prog.bytesOf 194 = 8 := by kernel_rfl
@[go_sem] theorem ag194 : isAg Tryz.prog 194 = false := by kernel_rfl
@[go_sem] theorem ze194 : zeroCs Tryz.prog 194 = some [.v .nilFunc] := by kernel_rfl
@[go_sem] theorem se194 : selfTy Tryz.prog 194 = false := by kernel_rfl
attribute [go_sem] Tryz.underlying197
@[go_sem] theorem ce197 : Tryz.prog.cellsOf 197 = 1 := by kernel_rfl
@[go_sem] theorem by197 : Tryz.prog.bytesOf 197 = 8 := by kernel_rfl
@[go_sem] theorem ag197 : isAg Tryz.prog 197 = false := by kernel_rfl
@[go_sem] theorem ze197 : zeroCs Tryz.prog 197 = some [.v .nilFunc] := by kernel_rfl
@[go_sem] theorem se197 : selfTy Tryz.prog 197 = false := by kernel_rfl
attribute [go_sem] Tryz.underlying198
@[go_sem] theorem ce198 : Tryz.prog.cellsOf 198 = 20 := by kernel_rfl
@[go_sem] theorem by198 : Tryz.prog.bytesOf 198 = 160 := by kernel_rfl
@[go_sem] theorem ag198 : isAg Tryz.prog 198 = true := by kernel_rfl
@[go_sem] theorem ar198 : arrTy Tryz.prog 198 = some (20, 184) := by kernel_rfl
@[go_sem] theorem ze198 : zeroCs Tryz.prog 198 = some [.v (.int .u64 0), .v (.int .u64 0), .v (.int .u64 0), .v (.int .u64 0), .v (.int .u64 0), .v (.int .u64 0), .v (.int .u64 0), .v (.int .u64 0), .v (.int .u64 0), .v (.int .u64 0), .v (.int .u64 0), .v (.int .u64 0), .v (.int .u64 0), .v (.int .u64 0), .v (.int .u64 0), .v (.int .u64 0), .v (.int .u64 0), .v (.int .u64 0), .v (.int .u64 0), .v (.int .u64 0)] := by kernel_rfl
@[go_sem] theorem se198 : selfTy Tryz.prog 198 = false := by kernel_rfl
attribute [go_sem] Tryz.underlying199
@[go_sem] theorem ce199 : Tryz.prog.cellsOf 199 = 1 := by kernel_rfl
@[go_sem] theorem by199 : Tryz.prog.bytesOf 199 = 4 := by kernel_rfl
@[go_sem] theorem ag199 : isAg Tryz.prog 199 = false := by kernel_rfl
@[go_sem] theorem ze199 : zeroCs Tryz.prog 199 = some [.v (.int .u32 0)] := by kernel_rfl
@[go_sem] theorem se199 : selfTy Tryz.prog 199 = false := by kernel_rfl
attribute [go_sem] Tryz.underlying200
@[go_sem] theorem ce200 : Tryz.prog.cellsOf 200 = 65 := by kernel_rfl
@[go_sem] theorem by200 : Tryz.prog.bytesOf 200 = 65 := by kernel_rfl
@[go_sem] theorem ag200 : isAg Tryz.prog 200 = true := by kernel_rfl
@[go_sem] theorem ar200 : arrTy Tryz.prog 200 = some (65, 5) := by kernel_rfl
@[go_sem] theorem ok200 : eqOk Tryz.prog 200 = true := by kernel_rfl
@[go_sem] theorem ze200 : zeroCs Tryz.prog 200 = some (bytesC (zerosB 65)) := by kernel_rfl
@[go_sem] theorem se200 : selfTy Tryz.prog 200 = false := by kernel_rfl
attribute [go_sem] Tryz.underlying201
@[go_sem] theorem ce201 : Tryz.prog.cellsOf 201 = 1 := by kernel_rfl
@[go_sem] theorem by201 : Tryz.prog.bytesOf 201 = 8 := by kernel_rfl
@[go_sem] theorem ag201 : isAg Tryz.prog 201 = false := by kernel_rfl
@[go_sem] theorem ze201 : zeroCs Tryz.prog 201 = some [.v .nilFunc] := by kernel_rfl
@[go_sem] theorem se201 : selfTy Tryz.prog 201 = false := by kernel_rfl
attribute [go_sem] Tryz.underlying202
@[go_sem] theorem ce202 : Tryz.prog.cellsOf 202 = 1 := by kernel_rfl
@[go_sem] theorem by202 : Tryz.prog.bytesOf 202 = 8 := by kernel_rfl
@[go_sem] theorem ag202 : isAg Tryz.prog 202 = false := by kernel_rfl
@[go_sem] theorem ze202 : zeroCs Tryz.prog 202 = some [.v .nilFunc] := by kernel_rfl
@[go_sem] theorem se202 : selfTy Tryz.prog 202 = false := by kernel_rfl
attribute [go_sem] Tryz.underlying203
@[go_sem] theorem ce203 : Tryz.prog.cellsOf 203 = 1 := by kernel_rfl
@[go_sem] theorem by203 : Tryz.prog.bytesOf 203 = 8 := by kernel_rfl
@[go_sem] theorem ag203 : isAg Tryz.prog 203 = false := by kernel_rfl
@[go_sem] theorem ze203 : zeroCs Tryz.prog 203 = some [.v .nilFunc] := by kernel_rfl
@[go_sem] theorem se203 : selfTy Tryz.prog 203 = false := by kernel_rfl
attribute [go_sem] Tryz.underlying204
@[go_sem] theorem ce204 : Tryz.prog.cellsOf 204 = 1 := by kernel_rfl
@[go_sem] theorem by204 : Tryz.prog.bytesOf 204 = 8 := by kernel_rfl
@[go_sem] theorem ag204 : isAg Tryz.prog 204 = false := by kernel_rfl
@[go_sem] theorem ze204 : zeroCs Tryz.prog 204 = some [.v .nilFunc] := by kernel_rfl
@[go_sem] theorem se204 : selfTy Tryz.prog 204 = false := by kernel_rfl
attribute [go_sem] Tryz.underlying205
@[go_sem] theorem ce205 : Tryz.prog.cellsOf 205 = 1 := by kernel_rfl
@[go_sem] theorem by205 : Tryz.prog.bytesOf 205 = 8 := by kernel_rfl
@[go_sem] theorem ag205 : isAg Tryz.prog 205 = false := by kernel_rfl
@[go_sem] theorem ze205 : zeroCs Tryz.prog 205 = some [.v .nilFunc] := by kernel_rfl
@[go_sem] theorem se205 : selfTy Tryz.prog 205 = false := by kernel_rfl
attribute [go_sem] Tryz.underlying206
@[go_sem] theorem ce206 : Tryz.prog.cellsOf 206 = 32 := by kernel_rfl
@[go_sem] theorem by206 : Tryz.prog.bytesOf 206 = 32 := by kernel_rfl
@[go_sem] theorem ag206 : isAg Tryz.prog 206 = true := by kernel_rfl
@[go_sem] theorem ar206 : arrTy Tryz.prog 206 = some (32, 5) := by kernel_rfl
@[go_sem] theorem ok206 : eqOk Tryz.prog 206 = true := by kernel_rfl
@[go_sem] theorem ze206 : zeroCs Tryz.prog 206 = some (bytesC (zerosB 32)) := by kernel_rfl
@[go_sem] theorem se206 : selfTy Tryz.prog 206 = false := by kernel_rfl
attribute [go_sem] Tryz.underlying207
@[go_sem] theorem ce207 : Tryz.prog.cellsOf 207 = 64 := by kernel_rfl
@[go_sem] theorem by207 : Tryz.prog.bytesOf 207 = 64 := by kernel_rfl
@[go_sem] theorem ag207 : isAg Tryz.prog 207 = true := by kernel_rfl
@[go_sem] theorem ar207 : arrTy Tryz.prog 207 = some (64, 5) := by kernel_rfl
@[go_sem] theorem ok207 : eqOk Tryz.prog 207 = true := by kernel_rfl
@[go_sem] theorem ze207 : zeroCs Tryz.prog 207 = some (bytesC (zerosB 64)) := by kernel_rfl
@[go_sem] theorem se207 : selfTy Tryz.prog 207 = false := by kernel_rfl
attribute [go_sem] Tryz.underlying208
@[go_sem] theorem ce208 : Tryz.prog.cellsOf 208 = 1 := by kernel_rfl
@[go_sem] theorem by208 : Tryz.prog.bytesOf 208 = 8 := by kernel_rfl
@[go_sem] theorem ag208 : isAg Tryz.prog 208 = false := by kernel_rfl
@[go_sem] theorem ze208 : zeroCs Tryz.prog 208 = some [.v .nilFunc] := by kernel_rfl
@[go_sem] theorem se208 : selfTy Tryz.prog 208 = false := by kernel_rfl
attribute [go_sem] Tryz.underlying209
@[go_sem] theorem ce209 : Tryz.prog.cellsOf 209 = 1 := by kernel_rfl
@[go_sem] theorem by209 : Tryz.prog.bytesOf 209 = 8 := by kernel_rfl
@[go_sem] theorem ag209 : isAg Tryz.prog 209 = false := by kernel_rfl
@[go_sem] theorem ze209 : zeroCs Tryz.prog 209 = some [.v .nilFunc] := by kernel_rfl
@[go_sem] theorem se209 : selfTy Tryz.prog 209 = false := by kernel_rfl
attribute [go_sem] Tryz.underlying210
@[go_sem] theorem ce210 : Tryz.prog.cellsOf 210 = 1 := by kernel_rfl
@[go_sem] theorem by210 : Tryz.prog.bytesOf 210 = 8 := by kernel_rfl
@[go_sem] theorem ag210 : isAg Tryz.prog 210 = false := by kernel_rfl
@[go_sem] theorem ze210 : zeroCs Tryz.prog 210 = some [.v .nilFunc] := by kernel_rfl
@[go_sem] theorem se210 : selfTy Tryz.prog 210 = false := by kernel_rfl
attribute [go_sem] Tryz.underlying211
@[go_sem] theorem ce211 : Tryz.prog.cellsOf 211 = 256 := by kernel_rfl
@[go_sem] theorem by211 : Tryz.prog.bytesOf 211 = 256 := by kernel_rfl
@[go_sem] theorem ag211 : isAg Tryz.prog 211 = true := by kernel_rfl
@[go_sem] theorem ar211 : arrTy Tryz.prog 211 = some (256, 4) := by kernel_rfl
@[go_sem] theorem se211 : selfTy Tryz.prog 211 = false := by kernel_rfl
attribute [go_sem] Tryz.underlying212
@[go_sem] theorem ce212 : Tryz.prog.cellsOf 212 = 256 := by kernel_rfl
@[go_sem] theorem by212 : Tryz.prog.bytesOf 212 = 256 := by kernel_rfl
@[go_sem] theorem ag212 : isAg Tryz.prog 212 = true := by kernel_rfl
@[go_sem] theorem ar212 : arrTy Tryz.prog 212 = some (256, 4) := by kernel_rfl
@[go_sem] theorem se212 : selfTy Tryz.prog 212 = false := by kernel_rfl
attribute [go_sem] Tryz.underlying214
@[go_sem] theorem ce214 : Tryz.prog.cellsOf 214 = 1 := by kernel_rfl
@[go_sem] theorem by214 : Tryz.prog.bytesOf 214 = 8 := by kernel_rfl
@[go_sem] theorem ag214 : isAg Tryz.prog 214 = false := by kernel_rfl
@[go_sem] theorem ze214 : zeroCs Tryz.prog 214 = some [.v .nilFunc] := by kernel_rfl
@[go_sem] theorem se214 : selfTy Tryz.prog 214 = false := by kernel_rfl
attribute [go_sem] Tryz.underlying215
@[go_sem] theorem ce215 : Tryz.prog.cellsOf 215 = 1 := by kernel_rfl
@[go_sem] theorem by215 : Tryz.prog.bytesOf 215 = 8 := by kernel_rfl
@[go_sem] theorem ag215 : isAg Tryz.prog 215 = false := by kernel_rfl
@[go_sem] theorem ze215 : zeroCs Tryz.prog 215 = some [.v .nilFunc] := by kernel_rfl
@[go_sem] theorem se215 : selfTy Tryz.prog 215 = false := by kernel_rfl
attribute [go_sem] Tryz.underlying216
@[go_sem] theorem ce216 : Tryz.prog.cellsOf 216 = 1 := by kernel_rfl
@[go_sem] theorem by216 : Tryz.prog.bytesOf 216 = 8 := by kernel_rfl
@[go_sem] theorem ag216 : isAg Tryz.prog 216 = false := by kernel_rfl
@[go_sem] theorem ze216 : zeroCs Tryz.prog 216 = some [.v (.pointer none)] := by kernel_rfl
@[go_sem] theorem se216 : selfTy Tryz.prog 216 = false := by kernel_rfl
attribute [go_sem] Tryz.underlying217
@[go_sem] theorem ce217 : Tryz.prog.cellsOf 217 = 1 := by kernel_rfl
@[go_sem] theorem by217 : Tryz.prog.bytesOf 217 = 8 := by kernel_rfl
@[go_sem] theorem ag217 : isAg Tryz.prog 217 = false := by kernel_rfl
@[go_sem] theorem ze217 : zeroCs Tryz.prog 217 = some [.v .nilFunc] := by kernel_rfl
@[go_sem] theorem se217 : selfTy Tryz.prog 217 = false := by kernel_rfl
attribute [go_sem] Tryz.underlying219
@[go_sem] theorem ce219 : Tryz.prog.cellsOf 219 = 1 := by kernel_rfl
@[go_sem] theorem by219 : Tryz.prog.bytesOf 219 = 8 := by kernel_rfl
@[go_sem] theorem ag219 : isAg Tryz.prog 219 = false := by kernel_rfl
@[go_sem] theorem ze219 : zeroCs Tryz.prog 219 = some [.v .nilFunc] := by kernel_rfl
@[go_sem] theorem se219 : selfTy Tryz.prog 219 = false := by kernel_rfl
attribute [go_sem] Tryz.underlying220
@[go_sem] theorem ce220 : Tryz.prog.cellsOf 220 = 1 := by kernel_rfl
@[go_sem] theorem by220 : Tryz.prog.bytesOf 220 = 8 := by kernel_rfl
@[go_sem] theorem ag220 : isAg Tryz.prog 220 = false := by kernel_rfl
@[go_sem] theorem ze220 : zeroCs Tryz.prog 220 = some [.v .nilFunc] := by kernel_rfl
@[go_sem] theorem se220 : selfTy Tryz.prog 220 = false := by kernel_rfl
attribute [go_sem] Tryz.underlying221
@[go_sem] theorem ce221 : Tryz.prog.cellsOf 221 = 1 := by kernel_rfl
@[go_sem] theorem by221 : Tryz.prog.bytesOf 221 = 8 := by kernel_rfl
@[go_sem] theorem ag221 : isAg Tryz.prog 221 = false := by kernel_rfl
@[go_sem] theorem ze221 : zeroCs Tryz.prog 221 = some [.v .nilFunc] := by kernel_rfl
@[go_sem] theorem se221 : selfTy Tryz.prog 221 = false := by kernel_rfl
attribute [go_sem] Tryz.underlying222
@[go_sem] theorem ce222 : Tryz.prog.cellsOf 222 = 256 := by kernel_rfl
@[go_sem] theorem by222 : Tryz.prog.bytesOf 222 = 256 := by kernel_rfl
@[go_sem] theorem ag222 : isAg Tryz.prog 222 = true := by kernel_rfl
@[go_sem] theorem ar222 : arrTy Tryz.prog 222 = some (256, 5) := by kernel_rfl
@[go_sem] theorem ok222 : eqOk Tryz.prog 222 = true := by kernel_rfl
@[go_sem] theorem ze222 : zeroCs Tryz.prog 222 = some (bytesC (zerosB 256)) := by kernel_rfl
@[go_sem] theorem se222 : selfTy Tryz.prog 222 = false := by kernel_rfl
attribute [go_sem] Tryz.underlying223
@[go_sem] theorem ce223 : Tryz.prog.cellsOf 223 = 2 := by kernel_rfl
@[go_sem] theorem by223 : Tryz.prog.bytesOf 223 = 2 := by kernel_rfl
@[go_sem] theorem ag223 : isAg Tryz.prog 223 = true := by kernel_rfl
@[go_sem] theorem ze223 : zeroCs Tryz.prog 223 = some [.v (.int .u8 0), .v (.int .u8 0)] := by kernel_rfl
@[go_sem] theorem se223 : selfTy Tryz.prog 223 = false := by kernel_rfl
@[go_sem] theorem fi223_0 : fieldOf Tryz.prog 223 0 = some { name := "lo", type := 5, offset := 0, embedded := false, tag := "", pkgPath := "unicode/utf8", byteOffset := 0 } := by kernel_rfl
@[go_sem] theorem fi223_1 : fieldOf Tryz.prog 223 1 = some { name := "hi", type := 5, offset := 1, embedded := false, tag := "", pkgPath := "unicode/utf8", byteOffset := 1 } := by kernel_rfl
attribute [go_sem] Tryz.underlying224
@[go_sem] theorem ce224 : Tryz.prog.cellsOf 224 = 2 := by kernel_rfl
@[go_sem] theorem by224 : Tryz.prog.bytesOf 224 = 2 := by kernel_rfl
@[go_sem] theorem ag224 : isAg Tryz.prog 224 = true := by kernel_rfl
@[go_sem] theorem ze224 : zeroCs Tryz.prog 224 = some [.v (.int .u8 0), .v (.int .u8 0)] := by kernel_rfl
@[go_sem] theorem se224 : selfTy Tryz.prog 224 = false := by kernel_rfl
@[go_sem] theorem fi224_0 : fieldOf Tryz.prog 224 0 = some { name := "lo", type := 5, offset := 0, embedded := false, tag := "", pkgPath := "unicode/utf8", byteOffset := 0 } := by kernel_rfl
@[go_sem] theorem fi224_1 : fieldOf Tryz.prog 224 1 = some { name := "hi", type := 5, offset := 1, embedded := false, tag := "", pkgPath := "unicode/utf8", byteOffset := 1 } := by kernel_rfl
attribute [go_sem] Tryz.underlying225
@[go_sem] theorem ce225 : Tryz.prog.cellsOf 225 = 32 := by kernel_rfl
@[go_sem] theorem by225 : Tryz.prog.bytesOf 225 = 32 := by kernel_rfl
@[go_sem] theorem ag225 : isAg Tryz.prog 225 = true := by kernel_rfl
@[go_sem] theorem ar225 : arrTy Tryz.prog 225 = some (16, 224) := by kernel_rfl
@[go_sem] theorem ze225 : zeroCs Tryz.prog 225 = some [.v (.int .u8 0), .v (.int .u8 0), .v (.int .u8 0), .v (.int .u8 0), .v (.int .u8 0), .v (.int .u8 0), .v (.int .u8 0), .v (.int .u8 0), .v (.int .u8 0), .v (.int .u8 0), .v (.int .u8 0), .v (.int .u8 0), .v (.int .u8 0), .v (.int .u8 0), .v (.int .u8 0), .v (.int .u8 0), .v (.int .u8 0), .v (.int .u8 0), .v (.int .u8 0), .v (.int .u8 0), .v (.int .u8 0), .v (.int .u8 0), .v (.int .u8 0), .v (.int .u8 0), .v (.int .u8 0), .v (.int .u8 0), .v (.int .u8 0), .v (.int .u8 0), .v (.int .u8 0), .v (.int .u8 0), .v (.int .u8 0), .v (.int .u8 0)] := by kernel_rfl
@[go_sem] theorem se225 : selfTy Tryz.prog 225 = false := by kernel_rfl
attribute [go_sem] Tryz.underlying226
@[go_sem] theorem ce226 : Tryz.prog.cellsOf 226 = 1 := by kernel_rfl
@[go_sem] theorem by226 : Tryz.prog.bytesOf 226 = 8 := by kernel_rfl
@[go_sem] theorem ag226 : isAg Tryz.prog 226 = false := by kernel_rfl
@[go_sem] theorem ze226 : zeroCs Tryz.prog 226 = some [.v .nilFunc] := by kernel_rfl
@[go_sem] theorem se226 : selfTy Tryz.prog 226 = false := by kernel_rfl
attribute [go_sem] Tryz.underlying227
@[go_sem] theorem ce227 : Tryz.prog.cellsOf 227 = 1 := by kernel_rfl
@[go_sem] theorem by227 : Tryz.prog.bytesOf 227 = 8 := by kernel_rfl
@[go_sem] theorem ag227 : isAg Tryz.prog 227 = false := by kernel_rfl
@[go_sem] theorem ze227 : zeroCs Tryz.prog 227 = some [.v .nilFunc] := by kernel_rfl
@[go_sem] theorem se227 : selfTy Tryz.prog 227 = false := by kernel_rfl
attribute [go_sem] Tryz.underlying228
@[go_sem] theorem ce228 : Tryz.prog.cellsOf 228 = 1 := by kernel_rfl
@[go_sem] theorem by228 : Tryz.prog.bytesOf 228 = 8 := by kernel_rfl
@[go_sem] theorem ag228 : isAg Tryz.prog 228 = false := by kernel_rfl
@[go_sem] theorem ze228 : zeroCs Tryz.prog 228 = some [.v .nilFunc] := by kernel_rfl
@[go_sem] theorem se228 : selfTy Tryz.prog 228 = false := by kernel_rfl
attribute [go_sem] fieldsKnown
end Go.Proofs.YtnlmdeeadldgmaaGreatDoor.VL

/- The facts on the program's types that walks rewrite by (printed by gen_ty.py). -/
import Derived.Test.YtnoekcdmaaakfaaDoorZCc
import Derived.Test.YtnoekcdmaaakfaaDoorProg
import Derived.KernelRfl
import Derived.Test.YtnoekcdmaaakfaaDoorZCd
set_option linter.unusedVariables false
namespace Go.Proofs.YtnoekcdmaaakfaaDoor.VL
open Go Go.RowKit Go.Lib
attribute [go_sem] Tryd.underlying1
@[go_sem] theorem ce1 : Tryd.prog.cellsOf 1 = 1 := by kernel_rfl
@[go_sem] theorem by1 : Tryd.prog.bytesOf 1 = 8 := by kernel_rfl
@[go_sem] theorem ag1 : isAg Tryd.prog 1 = false := by kernel_rfl
@[go_sem] theorem ze1 : zeroCs Tryd.prog 1 = some [.v .nilFunc] := by kernel_rfl
@[go_sem] theorem se1 : selfTy Tryd.prog 1 = false := by kernel_rfl
attribute [go_sem] Tryd.underlying2
@[go_sem] theorem ce2 : Tryd.prog.cellsOf 2 = 1 := by kernel_rfl
@[go_sem] theorem by2 : Tryd.prog.bytesOf 2 = 8 := by kernel_rfl
@[go_sem] theorem ag2 : isAg Tryd.prog 2 = false := by kernel_rfl
@[go_sem] theorem ze2 : zeroCs Tryd.prog 2 = some [.v (.int .i64 0)] := by kernel_rfl
@[go_sem] theorem se2 : selfTy Tryd.prog 2 = false := by kernel_rfl
attribute [go_sem] Tryd.underlying3
@[go_sem] theorem ce3 : Tryd.prog.cellsOf 3 = 1 := by kernel_rfl
@[go_sem] theorem by3 : Tryd.prog.bytesOf 3 = 8 := by kernel_rfl
@[go_sem] theorem ag3 : isAg Tryd.prog 3 = false := by kernel_rfl
@[go_sem] theorem ze3 : zeroCs Tryd.prog 3 = some [.v (.int .i64 0)] := by kernel_rfl
@[go_sem] theorem se3 : selfTy Tryd.prog 3 = false := by kernel_rfl
attribute [go_sem] Tryd.underlying4
@[go_sem] theorem ce4 : Tryd.prog.cellsOf 4 = 1 := by kernel_rfl
@[go_sem] theorem by4 : Tryd.prog.bytesOf 4 = 1 := by kernel_rfl
@[go_sem] theorem ag4 : isAg Tryd.prog 4 = false := by kernel_rfl
@[go_sem] theorem ze4 : zeroCs Tryd.prog 4 = some [.v (.bool false)] := by kernel_rfl
@[go_sem] theorem se4 : selfTy Tryd.prog 4 = false := by kernel_rfl
attribute [go_sem] Tryd.underlying5
@[go_sem] theorem ce5 : Tryd.prog.cellsOf 5 = 1 := by kernel_rfl
@[go_sem] theorem by5 : Tryd.prog.bytesOf 5 = 1 := by kernel_rfl
@[go_sem] theorem ag5 : isAg Tryd.prog 5 = false := by kernel_rfl
@[go_sem] theorem ze5 : zeroCs Tryd.prog 5 = some [.v (.int .u8 0)] := by kernel_rfl
@[go_sem] theorem se5 : selfTy Tryd.prog 5 = false := by kernel_rfl
attribute [go_sem] Tryd.underlying9
@[go_sem] theorem ce9 : Tryd.prog.cellsOf 9 = 1 := by kernel_rfl
@[go_sem] theorem by9 : Tryd.prog.bytesOf 9 = 16 := by kernel_rfl
@[go_sem] theorem ag9 : isAg Tryd.prog 9 = false := by kernel_rfl
@[go_sem] theorem ze9 : zeroCs Tryd.prog 9 = some [.v (.string { data := #[] })] := by kernel_rfl
@[go_sem] theorem se9 : selfTy Tryd.prog 9 = false := by kernel_rfl
attribute [go_sem] Tryd.underlying12
@[go_sem] theorem ce12 : Tryd.prog.cellsOf 12 = 1 := by kernel_rfl
@[go_sem] theorem by12 : Tryd.prog.bytesOf 12 = 8 := by kernel_rfl
@[go_sem] theorem ag12 : isAg Tryd.prog 12 = false := by kernel_rfl
@[go_sem] theorem ze12 : zeroCs Tryd.prog 12 = some [.v (.int .u64 0)] := by kernel_rfl
@[go_sem] theorem se12 : selfTy Tryd.prog 12 = false := by kernel_rfl
attribute [go_sem] Tryd.underlying13
@[go_sem] theorem ce13 : Tryd.prog.cellsOf 13 = 2 := by kernel_rfl
@[go_sem] theorem by13 : Tryd.prog.bytesOf 13 = 24 := by kernel_rfl
@[go_sem] theorem ag13 : isAg Tryd.prog 13 = true := by kernel_rfl
@[go_sem] theorem ze13 : zeroCs Tryd.prog 13 = some [.v (.string { data := #[] }), .v (.int .u64 0)] := by kernel_rfl
@[go_sem] theorem se13 : selfTy Tryd.prog 13 = false := by kernel_rfl
@[go_sem] theorem fi13_0 : fieldOf Tryd.prog 13 0 = some { name := "msg", type := 9, offset := 0, embedded := false, tag := "", pkgPath := "runtime", byteOffset := 0 } := by kernel_rfl
@[go_sem] theorem fi13_1 : fieldOf Tryd.prog 13 1 = some { name := "addr", type := 12, offset := 1, embedded := false, tag := "", pkgPath := "runtime", byteOffset := 16 } := by kernel_rfl
attribute [go_sem] Tryd.underlying21
@[go_sem] theorem ce21 : Tryd.prog.cellsOf 21 = 1 := by kernel_rfl
@[go_sem] theorem by21 : Tryd.prog.bytesOf 21 = 4 := by kernel_rfl
@[go_sem] theorem ag21 : isAg Tryd.prog 21 = false := by kernel_rfl
@[go_sem] theorem ze21 : zeroCs Tryd.prog 21 = some [.v (.int .i32 0)] := by kernel_rfl
@[go_sem] theorem se21 : selfTy Tryd.prog 21 = false := by kernel_rfl
attribute [go_sem] Tryd.underlying22
@[go_sem] theorem ce22 : Tryd.prog.cellsOf 22 = 6 := by kernel_rfl
@[go_sem] theorem by22 : Tryd.prog.bytesOf 22 = 64 := by kernel_rfl
@[go_sem] theorem ag22 : isAg Tryd.prog 22 = true := by kernel_rfl
@[go_sem] theorem ze22 : zeroCs Tryd.prog 22 = some [.v (.string { data := #[] }), .v (.string { data := #[] }), .v (.int .i64 0), .v (.int .i64 0), .v (.int .i64 0), .v (.bool false)] := by kernel_rfl
@[go_sem] theorem se22 : selfTy Tryd.prog 22 = false := by kernel_rfl
@[go_sem] theorem fi22_0 : fieldOf Tryd.prog 22 0 = some { name := "Name", type := 9, offset := 0, embedded := false, tag := "", pkgPath := "", byteOffset := 0 } := by kernel_rfl
@[go_sem] theorem fi22_1 : fieldOf Tryd.prog 22 1 = some { name := "Proto", type := 9, offset := 1, embedded := false, tag := "", pkgPath := "", byteOffset := 16 } := by kernel_rfl
@[go_sem] theorem fi22_2 : fieldOf Tryd.prog 22 2 = some { name := "Port", type := 3, offset := 2, embedded := false, tag := "", pkgPath := "", byteOffset := 32 } := by kernel_rfl
@[go_sem] theorem fi22_3 : fieldOf Tryd.prog 22 3 = some { name := "Priority", type := 3, offset := 3, embedded := false, tag := "", pkgPath := "", byteOffset := 40 } := by kernel_rfl
@[go_sem] theorem fi22_4 : fieldOf Tryd.prog 22 4 = some { name := "Weight", type := 3, offset := 4, embedded := false, tag := "", pkgPath := "", byteOffset := 48 } := by kernel_rfl
@[go_sem] theorem fi22_5 : fieldOf Tryd.prog 22 5 = some { name := "Well", type := 4, offset := 5, embedded := false, tag := "", pkgPath := "", byteOffset := 56 } := by kernel_rfl
attribute [go_sem] Tryd.underlying23
@[go_sem] theorem ce23 : Tryd.prog.cellsOf 23 = 6 := by kernel_rfl
@[go_sem] theorem by23 : Tryd.prog.bytesOf 23 = 64 := by kernel_rfl
@[go_sem] theorem ag23 : isAg Tryd.prog 23 = true := by kernel_rfl
@[go_sem] theorem fl23 : flatTags Tryd.prog 23 = some [1, 1, 0, 0, 0, 2] := by kernel_rfl
@[go_sem] theorem ze23 : zeroCs Tryd.prog 23 = some [.v (.string { data := #[] }), .v (.string { data := #[] }), .v (.int .i64 0), .v (.int .i64 0), .v (.int .i64 0), .v (.bool false)] := by kernel_rfl
@[go_sem] theorem se23 : selfTy Tryd.prog 23 = false := by kernel_rfl
@[go_sem] theorem fi23_0 : fieldOf Tryd.prog 23 0 = some { name := "Name", type := 9, offset := 0, embedded := false, tag := "", pkgPath := "", byteOffset := 0 } := by kernel_rfl
@[go_sem] theorem fi23_1 : fieldOf Tryd.prog 23 1 = some { name := "Proto", type := 9, offset := 1, embedded := false, tag := "", pkgPath := "", byteOffset := 16 } := by kernel_rfl
@[go_sem] theorem fi23_2 : fieldOf Tryd.prog 23 2 = some { name := "Port", type := 3, offset := 2, embedded := false, tag := "", pkgPath := "", byteOffset := 32 } := by kernel_rfl
@[go_sem] theorem fi23_3 : fieldOf Tryd.prog 23 3 = some { name := "Priority", type := 3, offset := 3, embedded := false, tag := "", pkgPath := "", byteOffset := 40 } := by kernel_rfl
@[go_sem] theorem fi23_4 : fieldOf Tryd.prog 23 4 = some { name := "Weight", type := 3, offset := 4, embedded := false, tag := "", pkgPath := "", byteOffset := 48 } := by kernel_rfl
@[go_sem] theorem fi23_5 : fieldOf Tryd.prog 23 5 = some { name := "Well", type := 4, offset := 5, embedded := false, tag := "", pkgPath := "", byteOffset := 56 } := by kernel_rfl
attribute [go_sem] Tryd.underlying24
@[go_sem] theorem ce24 : Tryd.prog.cellsOf 24 = 1 := by kernel_rfl
@[go_sem] theorem by24 : Tryd.prog.bytesOf 24 = 8 := by kernel_rfl
@[go_sem] theorem ag24 : isAg Tryd.prog 24 = false := by kernel_rfl
@[go_sem] theorem ze24 : zeroCs Tryd.prog 24 = some [.v .nilFunc] := by kernel_rfl
@[go_sem] theorem se24 : selfTy Tryd.prog 24 = false := by kernel_rfl
attribute [go_sem] Tryd.underlying25
@[go_sem] theorem ce25 : Tryd.prog.cellsOf 25 = 1 := by kernel_rfl
@[go_sem] theorem by25 : Tryd.prog.bytesOf 25 = 8 := by kernel_rfl
@[go_sem] theorem ag25 : isAg Tryd.prog 25 = false := by kernel_rfl
@[go_sem] theorem ze25 : zeroCs Tryd.prog 25 = some [.v (.int .i64 0)] := by kernel_rfl
@[go_sem] theorem se25 : selfTy Tryd.prog 25 = false := by kernel_rfl
attribute [go_sem] Tryd.underlying27
@[go_sem] theorem ce27 : Tryd.prog.cellsOf 27 = 1 := by kernel_rfl
@[go_sem] theorem by27 : Tryd.prog.bytesOf 27 = 8 := by kernel_rfl
@[go_sem] theorem ag27 : isAg Tryd.prog 27 = false := by kernel_rfl
@[go_sem] theorem ze27 : zeroCs Tryd.prog 27 = some [.v .nilFunc] := by kernel_rfl
@[go_sem] theorem se27 : selfTy Tryd.prog 27 = false := by kernel_rfl
attribute [go_sem] Tryd.underlying29
@[go_sem] theorem ce29 : Tryd.prog.cellsOf 29 = 1 := by kernel_rfl
@[go_sem] theorem by29 : Tryd.prog.bytesOf 29 = 8 := by kernel_rfl
@[go_sem] theorem ag29 : isAg Tryd.prog 29 = false := by kernel_rfl
@[go_sem] theorem ze29 : zeroCs Tryd.prog 29 = some [.v .nilFunc] := by kernel_rfl
@[go_sem] theorem se29 : selfTy Tryd.prog 29 = false := by kernel_rfl
attribute [go_sem] Tryd.underlying30
@[go_sem] theorem ce30 : Tryd.prog.cellsOf 30 = 1 := by kernel_rfl
@[go_sem] theorem by30 : Tryd.prog.bytesOf 30 = 8 := by kernel_rfl
@[go_sem] theorem ag30 : isAg Tryd.prog 30 = false := by kernel_rfl
@[go_sem] theorem ze30 : zeroCs Tryd.prog 30 = some [.v .nilFunc] := by kernel_rfl
@[go_sem] theorem se30 : selfTy Tryd.prog 30 = false := by kernel_rfl
attribute [go_sem] Tryd.underlying31
@[go_sem] theorem ce31 : Tryd.prog.cellsOf 31 = 1 := by kernel_rfl
@[go_sem] theorem by31 : Tryd.prog.bytesOf 31 = 8 := by kernel_rfl
@[go_sem] theorem ag31 : isAg Tryd.prog 31 = false := by kernel_rfl
@[go_sem] theorem ze31 : zeroCs Tryd.prog 31 = some [.v .nilFunc] := by kernel_rfl
@[go_sem] theorem se31 : selfTy Tryd.prog 31 = false := by kernel_rfl
attribute [go_sem] Tryd.underlying32
@[go_sem] theorem ce32 : Tryd.prog.cellsOf 32 = 1 := by kernel_rfl
@[go_sem] theorem by32 : Tryd.prog.bytesOf 32 = 8 := by kernel_rfl
@[go_sem] theorem ag32 : isAg Tryd.prog 32 = false := by kernel_rfl
@[go_sem] theorem ze32 : zeroCs Tryd.prog 32 = some [.v .nilFunc] := by kernel_rfl
@[go_sem] theorem se32 : selfTy Tryd.prog 32 = false := by kernel_rfl
attribute [go_sem] Tryd.underlying33
@[go_sem] theorem ce33 : Tryd.prog.cellsOf 33 = 1 := by kernel_rfl
@[go_sem] theorem by33 : Tryd.prog.bytesOf 33 = 24 := by kernel_rfl
@[go_sem] theorem ag33 : isAg Tryd.prog 33 = false := by kernel_rfl
@[go_sem] theorem el33 : elemTy Tryd.prog 33 = some 40 := by kernel_rfl
@[go_sem] theorem ze33 : zeroCs Tryd.prog 33 = some [.emp] := by kernel_rfl
@[go_sem] theorem se33 : selfTy Tryd.prog 33 = false := by kernel_rfl
attribute [go_sem] Tryd.underlying34
@[go_sem] theorem ce34 : Tryd.prog.cellsOf 34 = 1 := by kernel_rfl
@[go_sem] theorem by34 : Tryd.prog.bytesOf 34 = 8 := by kernel_rfl
@[go_sem] theorem ag34 : isAg Tryd.prog 34 = false := by kernel_rfl
@[go_sem] theorem ze34 : zeroCs Tryd.prog 34 = some [.v .nilFunc] := by kernel_rfl
@[go_sem] theorem se34 : selfTy Tryd.prog 34 = false := by kernel_rfl
attribute [go_sem] Tryd.underlying36
@[go_sem] theorem ce36 : Tryd.prog.cellsOf 36 = 1 := by kernel_rfl
@[go_sem] theorem by36 : Tryd.prog.bytesOf 36 = 8 := by kernel_rfl
@[go_sem] theorem ag36 : isAg Tryd.prog 36 = false := by kernel_rfl
@[go_sem] theorem ze36 : zeroCs Tryd.prog 36 = some [.v .nilFunc] := by kernel_rfl
@[go_sem] theorem se36 : selfTy Tryd.prog 36 = false := by kernel_rfl
attribute [go_sem] Tryd.underlying37
@[go_sem] theorem ce37 : Tryd.prog.cellsOf 37 = 1 := by kernel_rfl
@[go_sem] theorem by37 : Tryd.prog.bytesOf 37 = 8 := by kernel_rfl
@[go_sem] theorem ag37 : isAg Tryd.prog 37 = false := by kernel_rfl
@[go_sem] theorem ze37 : zeroCs Tryd.prog 37 = some [.v .nilFunc] := by kernel_rfl
@[go_sem] theorem se37 : selfTy Tryd.prog 37 = false := by kernel_rfl
attribute [go_sem] Tryd.underlying38
@[go_sem] theorem ce38 : Tryd.prog.cellsOf 38 = 1 := by kernel_rfl
@[go_sem] theorem by38 : Tryd.prog.bytesOf 38 = 8 := by kernel_rfl
@[go_sem] theorem ag38 : isAg Tryd.prog 38 = false := by kernel_rfl
@[go_sem] theorem ze38 : zeroCs Tryd.prog 38 = some [.v .nilFunc] := by kernel_rfl
@[go_sem] theorem se38 : selfTy Tryd.prog 38 = false := by kernel_rfl
attribute [go_sem] Tryd.underlying39
@[go_sem] theorem ce39 : Tryd.prog.cellsOf 39 = 3 := by kernel_rfl
@[go_sem] theorem by39 : Tryd.prog.bytesOf 39 = 32 := by kernel_rfl
@[go_sem] theorem ag39 : isAg Tryd.prog 39 = true := by kernel_rfl
@[go_sem] theorem ze39 : zeroCs Tryd.prog 39 = some [.v (.int .i64 0), .v (.int .i64 0), .v (.string { data := #[] })] := by kernel_rfl
@[go_sem] theorem se39 : selfTy Tryd.prog 39 = false := by kernel_rfl
@[go_sem] theorem fi39_0 : fieldOf Tryd.prog 39 0 = some { name := "Key", type := 3, offset := 0, embedded := false, tag := "", pkgPath := "", byteOffset := 0 } := by kernel_rfl
@[go_sem] theorem fi39_1 : fieldOf Tryd.prog 39 1 = some { name := "Ver", type := 3, offset := 1, embedded := false, tag := "", pkgPath := "", byteOffset := 8 } := by kernel_rfl
@[go_sem] theorem fi39_2 : fieldOf Tryd.prog 39 2 = some { name := "Val", type := 9, offset := 2, embedded := false, tag := "", pkgPath := "", byteOffset := 16 } := by kernel_rfl
attribute [go_sem] Tryd.underlying40
@[go_sem] theorem ce40 : Tryd.prog.cellsOf 40 = 3 := by kernel_rfl
@[go_sem] theorem by40 : Tryd.prog.bytesOf 40 = 32 := by kernel_rfl
@[go_sem] theorem ag40 : isAg Tryd.prog 40 = true := by kernel_rfl
@[go_sem] theorem fl40 : flatTags Tryd.prog 40 = some [0, 0, 1] := by kernel_rfl
@[go_sem] theorem ze40 : zeroCs Tryd.prog 40 = some [.v (.int .i64 0), .v (.int .i64 0), .v (.string { data := #[] })] := by kernel_rfl
@[go_sem] theorem se40 : selfTy Tryd.prog 40 = false := by kernel_rfl
@[go_sem] theorem fi40_0 : fieldOf Tryd.prog 40 0 = some { name := "Key", type := 3, offset := 0, embedded := false, tag := "", pkgPath := "", byteOffset := 0 } := by kernel_rfl
@[go_sem] theorem fi40_1 : fieldOf Tryd.prog 40 1 = some { name := "Ver", type := 3, offset := 1, embedded := false, tag := "", pkgPath := "", byteOffset := 8 } := by kernel_rfl
@[go_sem] theorem fi40_2 : fieldOf Tryd.prog 40 2 = some { name := "Val", type := 9, offset := 2, embedded := false, tag := "", pkgPath := "", byteOffset := 16 } := by kernel_rfl
attribute [go_sem] Tryd.underlying41
@[go_sem] theorem ce41 : Tryd.prog.cellsOf 41 = 1 := by kernel_rfl
@[go_sem] theorem by41 : Tryd.prog.bytesOf 41 = 24 := by kernel_rfl
@[go_sem] theorem ag41 : isAg Tryd.prog 41 = false := by kernel_rfl
@[go_sem] theorem el41 : elemTy Tryd.prog 41 = some 23 := by kernel_rfl
@[go_sem] theorem ze41 : zeroCs Tryd.prog 41 = some [.emp] := by kernel_rfl
@[go_sem] theorem se41 : selfTy Tryd.prog 41 = false := by kernel_rfl
attribute [go_sem] Tryd.underlying42
@[go_sem] theorem ce42 : Tryd.prog.cellsOf 42 = 1 := by kernel_rfl
@[go_sem] theorem by42 : Tryd.prog.bytesOf 42 = 8 := by kernel_rfl
@[go_sem] theorem ag42 : isAg Tryd.prog 42 = false := by kernel_rfl
@[go_sem] theorem ze42 : zeroCs Tryd.prog 42 = some [.v .nilFunc] := by kernel_rfl
@[go_sem] theorem se42 : selfTy Tryd.prog 42 = false := by kernel_rfl
attribute [go_sem] Tryd.underlying43
@[go_sem] theorem ce43 : Tryd.prog.cellsOf 43 = 1 := by kernel_rfl
@[go_sem] theorem by43 : Tryd.prog.bytesOf 43 = 8 := by kernel_rfl
@[go_sem] theorem ag43 : isAg Tryd.prog 43 = false := by kernel_rfl
@[go_sem] theorem ze43 : zeroCs Tryd.prog 43 = some [.v .nilFunc] := by kernel_rfl
@[go_sem] theorem se43 : selfTy Tryd.prog 43 = false := by kernel_rfl
attribute [go_sem] Tryd.underlying44
@[go_sem] theorem ce44 : Tryd.prog.cellsOf 44 = 1 := by kernel_rfl
@[go_sem] theorem by44 : Tryd.prog.bytesOf 44 = 24 := by kernel_rfl
@[go_sem] theorem ag44 : isAg Tryd.prog 44 = false := by kernel_rfl
@[go_sem] theorem el44 : elemTy Tryd.prog 44 = some 5 := by kernel_rfl
@[go_sem] theorem ze44 : zeroCs Tryd.prog 44 = some [.emp] := by kernel_rfl
@[go_sem] theorem se44 : selfTy Tryd.prog 44 = false := by kernel_rfl
attribute [go_sem] Tryd.underlying45
@[go_sem] theorem ce45 : Tryd.prog.cellsOf 45 = 1 := by kernel_rfl
@[go_sem] theorem by45 : Tryd.prog.bytesOf 45 = 8 := by kernel_rfl
@[go_sem] theorem ag45 : isAg Tryd.prog 45 = false := by kernel_rfl
@[go_sem] theorem ze45 : zeroCs Tryd.prog 45 = some [.v .nilFunc] := by kernel_rfl
@[go_sem] theorem se45 : selfTy Tryd.prog 45 = false := by kernel_rfl
attribute [go_sem] Tryd.underlying46
@[go_sem] theorem ce46 : Tryd.prog.cellsOf 46 = 1 := by kernel_rfl
@[go_sem] theorem by46 : Tryd.prog.bytesOf 46 = 8 := by kernel_rfl
@[go_sem] theorem ag46 : isAg Tryd.prog 46 = false := by kernel_rfl
@[go_sem] theorem ze46 : zeroCs Tryd.prog 46 = some [.v .nilFunc] := by kernel_rfl
@[go_sem] theorem se46 : selfTy Tryd.prog 46 = false := by kernel_rfl
attribute [go_sem] Tryd.underlying47
@[go_sem] theorem ce47 : Tryd.prog.cellsOf 47 = 1 := by kernel_rfl
@[go_sem] theorem by47 : Tryd.prog.bytesOf 47 = 8 := by kernel_rfl
@[go_sem] theorem ag47 : isAg Tryd.prog 47 = false := by kernel_rfl
@[go_sem] theorem ze47 : zeroCs Tryd.prog 47 = some [.v .nilFunc] := by kernel_rfl
@[go_sem] theorem se47 : selfTy Tryd.prog 47 = false := by kernel_rfl
attribute [go_sem] Tryd.underlying49
@[go_sem] theorem ce49 : Tryd.prog.cellsOf 49 = 1 := by kernel_rfl
@[go_sem] theorem by49 : Tryd.prog.bytesOf 49 = 8 := by kernel_rfl
@[go_sem] theorem ag49 : isAg Tryd.prog 49 = false := by kernel_rfl
@[go_sem] theorem ze49 : zeroCs Tryd.prog 49 = some [.v .nilFunc] := by kernel_rfl
@[go_sem] theorem se49 : selfTy Tryd.prog 49 = false := by kernel_rfl
attribute [go_sem] Tryd.underlying50
@[go_sem] theorem ce50 : Tryd.prog.cellsOf 50 = 4 := by kernel_rfl
@[go_sem] theorem by50 : Tryd.prog.bytesOf 50 = 32 := by kernel_rfl
@[go_sem] theorem ag50 : isAg Tryd.prog 50 = true := by kernel_rfl
@[go_sem] theorem ar50 : arrTy Tryd.prog 50 = some (4, 3) := by kernel_rfl
@[go_sem] theorem ze50 : zeroCs Tryd.prog 50 = some [.v (.int .i64 0), .v (.int .i64 0), .v (.int .i64 0), .v (.int .i64 0)] := by kernel_rfl
@[go_sem] theorem se50 : selfTy Tryd.prog 50 = false := by kernel_rfl
attribute [go_sem] Tryd.underlying52
@[go_sem] theorem ce52 : Tryd.prog.cellsOf 52 = 1 := by kernel_rfl
@[go_sem] theorem by52 : Tryd.prog.bytesOf 52 = 8 := by kernel_rfl
@[go_sem] theorem ag52 : isAg Tryd.prog 52 = false := by kernel_rfl
@[go_sem] theorem ze52 : zeroCs Tryd.prog 52 = some [.v .nilFunc] := by kernel_rfl
@[go_sem] theorem se52 : selfTy Tryd.prog 52 = false := by kernel_rfl
attribute [go_sem] Tryd.underlying53
@[go_sem] theorem ce53 : Tryd.prog.cellsOf 53 = 1 := by kernel_rfl
@[go_sem] theorem by53 : Tryd.prog.bytesOf 53 = 8 := by kernel_rfl
@[go_sem] theorem ag53 : isAg Tryd.prog 53 = false := by kernel_rfl
@[go_sem] theorem ze53 : zeroCs Tryd.prog 53 = some [.v .nilFunc] := by kernel_rfl
@[go_sem] theorem se53 : selfTy Tryd.prog 53 = false := by kernel_rfl
attribute [go_sem] Tryd.underlying54
@[go_sem] theorem ce54 : Tryd.prog.cellsOf 54 = 1 := by kernel_rfl
@[go_sem] theorem by54 : Tryd.prog.bytesOf 54 = 8 := by kernel_rfl
@[go_sem] theorem ag54 : isAg Tryd.prog 54 = false := by kernel_rfl
@[go_sem] theorem ze54 : zeroCs Tryd.prog 54 = some [.v .nilFunc] := by kernel_rfl
@[go_sem] theorem se54 : selfTy Tryd.prog 54 = false := by kernel_rfl
attribute [go_sem] Tryd.underlying55
@[go_sem] theorem ce55 : Tryd.prog.cellsOf 55 = 1 := by kernel_rfl
@[go_sem] theorem by55 : Tryd.prog.bytesOf 55 = 24 := by kernel_rfl
@[go_sem] theorem ag55 : isAg Tryd.prog 55 = false := by kernel_rfl
@[go_sem] theorem el55 : elemTy Tryd.prog 55 = some 3 := by kernel_rfl
@[go_sem] theorem ze55 : zeroCs Tryd.prog 55 = some [.emp] := by kernel_rfl
@[go_sem] theorem se55 : selfTy Tryd.prog 55 = false := by kernel_rfl
attribute [go_sem] Tryd.underlying56
@[go_sem] theorem ce56 : Tryd.prog.cellsOf 56 = 1 := by kernel_rfl
@[go_sem] theorem by56 : Tryd.prog.bytesOf 56 = 8 := by kernel_rfl
@[go_sem] theorem ag56 : isAg Tryd.prog 56 = false := by kernel_rfl
@[go_sem] theorem ze56 : zeroCs Tryd.prog 56 = some [.v .nilFunc] := by kernel_rfl
@[go_sem] theorem se56 : selfTy Tryd.prog 56 = false := by kernel_rfl
attribute [go_sem] Tryd.underlying57
@[go_sem] theorem ce57 : Tryd.prog.cellsOf 57 = 1 := by kernel_rfl
@[go_sem] theorem by57 : Tryd.prog.bytesOf 57 = 8 := by kernel_rfl
@[go_sem] theorem ag57 : isAg Tryd.prog 57 = false := by kernel_rfl
@[go_sem] theorem ze57 : zeroCs Tryd.prog 57 = some [.v .nilFunc] := by kernel_rfl
@[go_sem] theorem se57 : selfTy Tryd.prog 57 = false := by kernel_rfl
attribute [go_sem] Tryd.underlying58
@[go_sem] theorem ce58 : Tryd.prog.cellsOf 58 = 1 := by kernel_rfl
@[go_sem] theorem by58 : Tryd.prog.bytesOf 58 = 8 := by kernel_rfl
@[go_sem] theorem ag58 : isAg Tryd.prog 58 = false := by kernel_rfl
@[go_sem] theorem ze58 : zeroCs Tryd.prog 58 = some [.v .nilFunc] := by kernel_rfl
@[go_sem] theorem se58 : selfTy Tryd.prog 58 = false := by kernel_rfl
attribute [go_sem] Tryd.underlying59
@[go_sem] theorem ce59 : Tryd.prog.cellsOf 59 = 1 := by kernel_rfl
@[go_sem] theorem by59 : Tryd.prog.bytesOf 59 = 8 := by kernel_rfl
@[go_sem] theorem ag59 : isAg Tryd.prog 59 = false := by kernel_rfl
@[go_sem] theorem ze59 : zeroCs Tryd.prog 59 = some [.v .nilFunc] := by kernel_rfl
@[go_sem] theorem se59 : selfTy Tryd.prog 59 = false := by kernel_rfl
attribute [go_sem] Tryd.underlying61
@[go_sem] theorem ce61 : Tryd.prog.cellsOf 61 = 1 := by kernel_rfl
@[go_sem] theorem by61 : Tryd.prog.bytesOf 61 = 8 := by kernel_rfl
@[go_sem] theorem ag61 : isAg Tryd.prog 61 = false := by kernel_rfl
@[go_sem] theorem ze61 : zeroCs Tryd.prog 61 = some [.v .nilFunc] := by kernel_rfl
@[go_sem] theorem se61 : selfTy Tryd.prog 61 = false := by kernel_rfl
attribute [go_sem] Tryd.underlying62
@[go_sem] theorem ce62 : Tryd.prog.cellsOf 62 = 1 := by kernel_rfl
@[go_sem] theorem by62 : Tryd.prog.bytesOf 62 = 8 := by kernel_rfl
@[go_sem] theorem ag62 : isAg Tryd.prog 62 = false := by kernel_rfl
@[go_sem] theorem ze62 : zeroCs Tryd.prog 62 = some [.v .nilFunc] := by kernel_rfl
@[go_sem] theorem se62 : selfTy Tryd.prog 62 = false := by kernel_rfl
attribute [go_sem] Tryd.underlying63
@[go_sem] theorem ce63 : Tryd.prog.cellsOf 63 = 1 := by kernel_rfl
@[go_sem] theorem by63 : Tryd.prog.bytesOf 63 = 8 := by kernel_rfl
@[go_sem] theorem ag63 : isAg Tryd.prog 63 = false := by kernel_rfl
@[go_sem] theorem ze63 : zeroCs Tryd.prog 63 = some [.v .nilFunc] := by kernel_rfl
@[go_sem] theorem se63 : selfTy Tryd.prog 63 = false := by kernel_rfl
attribute [go_sem] Tryd.underlying64
@[go_sem] theorem ce64 : Tryd.prog.cellsOf 64 = 1 := by kernel_rfl
@[go_sem] theorem by64 : Tryd.prog.bytesOf 64 = 8 := by kernel_rfl
@[go_sem] theorem ag64 : isAg Tryd.prog 64 = false := by kernel_rfl
@[go_sem] theorem ze64 : zeroCs Tryd.prog 64 = some [.v (.int .u64 0)] := by kernel_rfl
@[go_sem] theorem se64 : selfTy Tryd.prog 64 = false := by kernel_rfl
attribute [go_sem] Tryd.underlying65
@[go_sem] theorem ce65 : Tryd.prog.cellsOf 65 = 1 := by kernel_rfl
@[go_sem] theorem by65 : Tryd.prog.bytesOf 65 = 8 := by kernel_rfl
@[go_sem] theorem ag65 : isAg Tryd.prog 65 = false := by kernel_rfl
@[go_sem] theorem ze65 : zeroCs Tryd.prog 65 = some [.v (.int .u64 0)] := by kernel_rfl
@[go_sem] theorem se65 : selfTy Tryd.prog 65 = false := by kernel_rfl
attribute [go_sem] Tryd.underlying66
@[go_sem] theorem ce66 : Tryd.prog.cellsOf 66 = 1 := by kernel_rfl
@[go_sem] theorem by66 : Tryd.prog.bytesOf 66 = 8 := by kernel_rfl
@[go_sem] theorem ag66 : isAg Tryd.prog 66 = false := by kernel_rfl
@[go_sem] theorem ze66 : zeroCs Tryd.prog 66 = some [.v .nilFunc] := by kernel_rfl
@[go_sem] theorem se66 : selfTy Tryd.prog 66 = false := by kernel_rfl
attribute [go_sem] Tryd.underlying67
@[go_sem] theorem ce67 : Tryd.prog.cellsOf 67 = 1 := by kernel_rfl
@[go_sem] theorem by67 : Tryd.prog.bytesOf 67 = 8 := by kernel_rfl
@[go_sem] theorem ag67 : isAg Tryd.prog 67 = false := by kernel_rfl
@[go_sem] theorem ze67 : zeroCs Tryd.prog 67 = some [.v .nilFunc] := by kernel_rfl
@[go_sem] theorem se67 : selfTy Tryd.prog 67 = false := by kernel_rfl
attribute [go_sem] Tryd.underlying68
@[go_sem] theorem ce68 : Tryd.prog.cellsOf 68 = 256 := by kernel_rfl
@[go_sem] theorem by68 : Tryd.prog.bytesOf 68 = 256 := by kernel_rfl
@[go_sem] theorem ag68 : isAg Tryd.prog 68 = true := by kernel_rfl
@[go_sem] theorem ar68 : arrTy Tryd.prog 68 = some (256, 4) := by kernel_rfl
@[go_sem] theorem se68 : selfTy Tryd.prog 68 = false := by kernel_rfl
attribute [go_sem] Tryd.underlying69
@[go_sem] theorem ce69 : Tryd.prog.cellsOf 69 = 256 := by kernel_rfl
@[go_sem] theorem by69 : Tryd.prog.bytesOf 69 = 256 := by kernel_rfl
@[go_sem] theorem ag69 : isAg Tryd.prog 69 = true := by kernel_rfl
@[go_sem] theorem ar69 : arrTy Tryd.prog 69 = some (256, 4) := by kernel_rfl
@[go_sem] theorem se69 : selfTy Tryd.prog 69 = false := by kernel_rfl
attribute [go_sem] Tryd.underlying71
@[go_sem] theorem ce71 : Tryd.prog.cellsOf 71 = 1 := by kernel_rfl
@[go_sem] theorem by71 : Tryd.prog.bytesOf 71 = 8 := by kernel_rfl
@[go_sem] theorem ag71 : isAg Tryd.prog 71 = false := by kernel_rfl
@[go_sem] theorem ze71 : zeroCs Tryd.prog 71 = some [.v .nilFunc] := by kernel_rfl
@[go_sem] theorem se71 : selfTy Tryd.prog 71 = false := by kernel_rfl
attribute [go_sem] Tryd.underlying72
@[go_sem] theorem ce72 : Tryd.prog.cellsOf 72 = 1 := by kernel_rfl
@[go_sem] theorem by72 : Tryd.prog.bytesOf 72 = 8 := by kernel_rfl
@[go_sem] theorem ag72 : isAg Tryd.prog 72 = false := by kernel_rfl
@[go_sem] theorem ze72 : zeroCs Tryd.prog 72 = some [.v .nilFunc] := by kernel_rfl
@[go_sem] theorem se72 : selfTy Tryd.prog 72 = false := by kernel_rfl
attribute [go_sem] Tryd.underlying73
@[go_sem] theorem ce73 : Tryd.prog.cellsOf 73 = 1 := by kernel_rfl
@[go_sem] theorem by73 : Tryd.prog.bytesOf 73 = 8 := by kernel_rfl
@[go_sem] theorem ag73 : isAg Tryd.prog 73 = false := by kernel_rfl
@[go_sem] theorem ze73 : zeroCs Tryd.prog 73 = some [.v (.pointer none)] := by kernel_rfl
@[go_sem] theorem se73 : selfTy Tryd.prog 73 = false := by kernel_rfl
attribute [go_sem] Tryd.underlying74
@[go_sem] theorem ce74 : Tryd.prog.cellsOf 74 = 1 := by kernel_rfl
@[go_sem] theorem by74 : Tryd.prog.bytesOf 74 = 8 := by kernel_rfl
@[go_sem] theorem ag74 : isAg Tryd.prog 74 = false := by kernel_rfl
@[go_sem] theorem ze74 : zeroCs Tryd.prog 74 = some [.v .nilFunc] := by kernel_rfl
@[go_sem] theorem se74 : selfTy Tryd.prog 74 = false := by kernel_rfl
attribute [go_sem] Tryd.underlying75
@[go_sem] theorem ce75 : Tryd.prog.cellsOf 75 = 1 := by kernel_rfl
@[go_sem] theorem by75 : Tryd.prog.bytesOf 75 = 8 := by kernel_rfl
@[go_sem] theorem ag75 : isAg Tryd.prog 75 = false := by kernel_rfl
@[go_sem] theorem ze75 : zeroCs Tryd.prog 75 = some [.v .nilFunc] := by kernel_rfl
@[go_sem] theorem se75 : selfTy Tryd.prog 75 = false := by kernel_rfl
attribute [go_sem] Tryd.underlying76
@[go_sem] theorem ce76 : Tryd.prog.cellsOf 76 = 1 := by kernel_rfl
@[go_sem] theorem by76 : Tryd.prog.bytesOf 76 = 8 := by kernel_rfl
@[go_sem] theorem ag76 : isAg Tryd.prog 76 = false := by kernel_rfl
@[go_sem] theorem ze76 : zeroCs Tryd.prog 76 = some [.v .nilFunc] := by kernel_rfl
@[go_sem] theorem se76 : selfTy Tryd.prog 76 = false := by kernel_rfl
attribute [go_sem] Tryd.underlying77
@[go_sem] theorem ce77 : Tryd.prog.cellsOf 77 = 1 := by kernel_rfl
@[go_sem] theorem by77 : Tryd.prog.bytesOf 77 = 8 := by kernel_rfl
@[go_sem] theorem ag77 : isAg Tryd.prog 77 = false := by kernel_rfl
@[go_sem] theorem ze77 : zeroCs Tryd.prog 77 = some [.v .nilFunc] := by kernel_rfl
@[go_sem] theorem se77 : selfTy Tryd.prog 77 = false := by kernel_rfl
attribute [go_sem] Tryd.underlying79
@[go_sem] theorem ce79 : Tryd.prog.cellsOf 79 = 1 := by kernel_rfl
@[go_sem] theorem by79 : Tryd.prog.bytesOf 79 = 8 := by kernel_rfl
@[go_sem] theorem ag79 : isAg Tryd.prog 79 = false := by kernel_rfl
@[go_sem] theorem ze79 : zeroCs Tryd.prog 79 = some [.v .nilFunc] := by kernel_rfl
@[go_sem] theorem se79 : selfTy Tryd.prog 79 = false := by kernel_rfl
attribute [go_sem] Tryd.underlying80
@[go_sem] theorem ce80 : Tryd.prog.cellsOf 80 = 1 := by kernel_rfl
@[go_sem] theorem by80 : Tryd.prog.bytesOf 80 = 8 := by kernel_rfl
@[go_sem] theorem ag80 : isAg Tryd.prog 80 = false := by kernel_rfl
@[go_sem] theorem ze80 : zeroCs Tryd.prog 80 = some [.v .nilFunc] := by kernel_rfl
@[go_sem] theorem se80 : selfTy Tryd.prog 80 = false := by kernel_rfl
attribute [go_sem] Tryd.underlying81
@[go_sem] theorem ce81 : Tryd.prog.cellsOf 81 = 1 := by kernel_rfl
@[go_sem] theorem by81 : Tryd.prog.bytesOf 81 = 8 := by kernel_rfl
@[go_sem] theorem ag81 : isAg Tryd.prog 81 = false := by kernel_rfl
@[go_sem] theorem ze81 : zeroCs Tryd.prog 81 = some [.v .nilFunc] := by kernel_rfl
@[go_sem] theorem se81 : selfTy Tryd.prog 81 = false := by kernel_rfl
attribute [go_sem] Tryd.underlying82
@[go_sem] theorem ce82 : Tryd.prog.cellsOf 82 = 1 := by kernel_rfl
@[go_sem] theorem by82 : Tryd.prog.bytesOf 82 = 8 := by kernel_rfl
@[go_sem] theorem ag82 : isAg Tryd.prog 82 = false := by kernel_rfl
@[go_sem] theorem ze82 : zeroCs Tryd.prog 82 = some [.v .nilFunc] := by kernel_rfl
@[go_sem] theorem se82 : selfTy Tryd.prog 82 = false := by kernel_rfl
attribute [go_sem] Tryd.underlying83
@[go_sem] theorem ce83 : Tryd.prog.cellsOf 83 = 1 := by kernel_rfl
@[go_sem] theorem by83 : Tryd.prog.bytesOf 83 = 4 := by kernel_rfl
@[go_sem] theorem ag83 : isAg Tryd.prog 83 = false := by kernel_rfl
@[go_sem] theorem ze83 : zeroCs Tryd.prog 83 = some [.v (.int .u32 0)] := by kernel_rfl
@[go_sem] theorem se83 : selfTy Tryd.prog 83 = false := by kernel_rfl
attribute [go_sem] Tryd.underlying84
@[go_sem] theorem ce84 : Tryd.prog.cellsOf 84 = 1 := by kernel_rfl
@[go_sem] theorem by84 : Tryd.prog.bytesOf 84 = 8 := by kernel_rfl
@[go_sem] theorem ag84 : isAg Tryd.prog 84 = false := by kernel_rfl
@[go_sem] theorem ze84 : zeroCs Tryd.prog 84 = some [.v .nilFunc] := by kernel_rfl
@[go_sem] theorem se84 : selfTy Tryd.prog 84 = false := by kernel_rfl
attribute [go_sem] Tryd.underlying85
@[go_sem] theorem ce85 : Tryd.prog.cellsOf 85 = 1 := by kernel_rfl
@[go_sem] theorem by85 : Tryd.prog.bytesOf 85 = 8 := by kernel_rfl
@[go_sem] theorem ag85 : isAg Tryd.prog 85 = false := by kernel_rfl
@[go_sem] theorem ze85 : zeroCs Tryd.prog 85 = some [.v .nilFunc] := by kernel_rfl
@[go_sem] theorem se85 : selfTy Tryd.prog 85 = false := by kernel_rfl
attribute [go_sem] Tryd.underlying86
@[go_sem] theorem ce86 : Tryd.prog.cellsOf 86 = 256 := by kernel_rfl
@[go_sem] theorem by86 : Tryd.prog.bytesOf 86 = 256 := by kernel_rfl
@[go_sem] theorem ag86 : isAg Tryd.prog 86 = true := by kernel_rfl
@[go_sem] theorem ar86 : arrTy Tryd.prog 86 = some (256, 5) := by kernel_rfl
@[go_sem] theorem ok86 : eqOk Tryd.prog 86 = true := by kernel_rfl
@[go_sem] theorem ze86 : zeroCs Tryd.prog 86 = some (bytesC (zerosB 256)) := by kernel_rfl
@[go_sem] theorem se86 : selfTy Tryd.prog 86 = false := by kernel_rfl
attribute [go_sem] Tryd.underlying87
@[go_sem] theorem ce87 : Tryd.prog.cellsOf 87 = 2 := by kernel_rfl
@[go_sem] theorem by87 : Tryd.prog.bytesOf 87 = 2 := by kernel_rfl
@[go_sem] theorem ag87 : isAg Tryd.prog 87 = true := by kernel_rfl
@[go_sem] theorem ze87 : zeroCs Tryd.prog 87 = some [.v (.int .u8 0), .v (.int .u8 0)] := by kernel_rfl
@[go_sem] theorem se87 : selfTy Tryd.prog 87 = false := by kernel_rfl
@[go_sem] theorem fi87_0 : fieldOf Tryd.prog 87 0 = some { name := "lo", type := 5, offset := 0, embedded := false, tag := "", pkgPath := "unicode/utf8", byteOffset := 0 } := by kernel_rfl
@[go_sem] theorem fi87_1 : fieldOf Tryd.prog 87 1 = some { name := "hi", type := 5, offset := 1, embedded := false, tag := "", pkgPath := "unicode/utf8", byteOffset := 1 } := by kernel_rfl
attribute [go_sem] Tryd.underlying88
@[go_sem] theorem ce88 : Tryd.prog.cellsOf 88 = 2 := by kernel_rfl
@[go_sem] theorem by88 : Tryd.prog.bytesOf 88 = 2 := by kernel_rfl
@[go_sem] theorem ag88 : isAg Tryd.prog 88 = true := by kernel_rfl
@[go_sem] theorem ze88 : zeroCs Tryd.prog 88 = some [.v (.int .u8 0), .v (.int .u8 0)] := by kernel_rfl
@[go_sem] theorem se88 : selfTy Tryd.prog 88 = false := by kernel_rfl
@[go_sem] theorem fi88_0 : fieldOf Tryd.prog 88 0 = some { name := "lo", type := 5, offset := 0, embedded := false, tag := "", pkgPath := "unicode/utf8", byteOffset := 0 } := by kernel_rfl
@[go_sem] theorem fi88_1 : fieldOf Tryd.prog 88 1 = some { name := "hi", type := 5, offset := 1, embedded := false, tag := "", pkgPath := "unicode/utf8", byteOffset := 1 } := by kernel_rfl
attribute [go_sem] Tryd.underlying89
@[go_sem] theorem ce89 : Tryd.prog.cellsOf 89 = 32 := by kernel_rfl
@[go_sem] theorem by89 : Tryd.prog.bytesOf 89 = 32 := by kernel_rfl
@[go_sem] theorem ag89 : isAg Tryd.prog 89 = true := by kernel_rfl
@[go_sem] theorem ar89 : arrTy Tryd.prog 89 = some (16, 88) := by kernel_rfl
@[go_sem] theorem ze89 : zeroCs Tryd.prog 89 = some [.v (.int .u8 0), .v (.int .u8 0), .v (.int .u8 0), .v (.int .u8 0), .v (.int .u8 0), .v (.int .u8 0), .v (.int .u8 0), .v (.int .u8 0), .v (.int .u8 0), .v (.int .u8 0), .v (.int .u8 0), .v (.int .u8 0), .v (.int .u8 0), .v (.int .u8 0), .v (.int .u8 0), .v (.int .u8 0), .v (.int .u8 0), .v (.int .u8 0), .v (.int .u8 0), .v (.int .u8 0), .v (.int .u8 0), .v (.int .u8 0), .v (.int .u8 0), .v (.int .u8 0), .v (.int .u8 0), .v (.int .u8 0), .v (.int .u8 0), .v (.int .u8 0), .v (.int .u8 0), .v (.int .u8 0), .v (.int .u8 0), .v (.int .u8 0)] := by kernel_rfl
@[go_sem] theorem se89 : selfTy Tryd.prog 89 = false := by kernel_rfl
attribute [go_sem] Tryd.underlying90
@[go_sem] theorem ce90 : Tryd.prog.cellsOf 90 = 1 := by kernel_rfl
@[go_sem] theorem by90 : Tryd.prog.bytesOf 90 = 8 := by kernel_rfl
@[go_sem] theorem ag90 : isAg Tryd.prog 90 = false := by kernel_rfl
@[go_sem] theorem ze90 : zeroCs Tryd.prog 90 = some [.v .nilFunc] := by kernel_rfl
@[go_sem] theorem se90 : selfTy Tryd.prog 90 = false := by kernel_rfl
attribute [go_sem] Tryd.underlying91
@[go_sem] theorem ce91 : Tryd.prog.cellsOf 91 = 1 := by kernel_rfl
@[go_sem] theorem by91 : Tryd.prog.bytesOf 91 = 8 := by kernel_rfl
@[go_sem] theorem ag91 : isAg Tryd.prog 91 = false := by kernel_rfl
@[go_sem] theorem ze91 : zeroCs Tryd.prog 91 = some [.v .nilFunc] := by kernel_rfl
@[go_sem] theorem se91 : selfTy Tryd.prog 91 = false := by kernel_rfl
attribute [go_sem] Tryd.underlying92
@[go_sem] theorem ce92 : Tryd.prog.cellsOf 92 = 1 := by kernel_rfl
@[go_sem] theorem by92 : Tryd.prog.bytesOf 92 = 8 := by kernel_rfl
@[go_sem] theorem ag92 : isAg Tryd.prog 92 = false := by kernel_rfl
@[go_sem] theorem ze92 : zeroCs Tryd.prog 92 = some [.v .nilFunc] := by kernel_rfl
@[go_sem] theorem se92 : selfTy Tryd.prog 92 = false := by kernel_rfl
attribute [go_sem] Tryd.underlying93
@[go_sem] theorem ce93 : Tryd.prog.cellsOf 93 = 1 := by kernel_rfl
@[go_sem] theorem by93 : Tryd.prog.bytesOf 93 = 8 := by kernel_rfl
@[go_sem] theorem ag93 : isAg Tryd.prog 93 = false := by kernel_rfl
@[go_sem] theorem ze93 : zeroCs Tryd.prog 93 = some [.v .nilFunc] := by kernel_rfl
@[go_sem] theorem se93 : selfTy Tryd.prog 93 = false := by kernel_rfl
attribute [go_sem] Tryd.underlying99
@[go_sem] theorem ce99 : Tryd.prog.cellsOf 99 = 1 := by kernel_rfl
@[go_sem] theorem by99 : Tryd.prog.bytesOf 99 = 8 := by kernel_rfl
@[go_sem] theorem ag99 : isAg Tryd.prog 99 = false := by kernel_rfl
@[go_sem] theorem ze99 : zeroCs Tryd.prog 99 = some [.v .nilFunc] := by kernel_rfl
@[go_sem] theorem se99 : selfTy Tryd.prog 99 = false := by kernel_rfl
attribute [go_sem] Tryd.underlying103
@[go_sem] theorem ce103 : Tryd.prog.cellsOf 103 = 1 := by kernel_rfl
@[go_sem] theorem by103 : Tryd.prog.bytesOf 103 = 8 := by kernel_rfl
@[go_sem] theorem ag103 : isAg Tryd.prog 103 = false := by kernel_rfl
@[go_sem] theorem ze103 : zeroCs Tryd.prog 103 = some [.v (.pointer none)] := by kernel_rfl
@[go_sem] theorem se103 : selfTy Tryd.prog 103 = false := by kernel_rfl
attribute [go_sem] fieldsKnown
end Go.Proofs.YtnoekcdmaaakfaaDoor.VL

/- Layer 1: numbers as bytes, in plain lists. -/
set_option linter.unusedVariables false
set_option linter.unusedSimpArgs false
namespace Go.Proofs.YtnoekcdmaaakfaaDoor.VL
open Go Go.RowKit Go.Lib

/-- A number's bytes: seven bits each, the lowest first; all but the last one have 128 more. -/
def nb (n : Nat) : List UInt8 := if n < 128 then [UInt8.ofNat n] else UInt8.ofNat (n % 128 + 128) :: nb (n / 128)
termination_by n
decreasing_by omega
theorem nb_small {n : Nat} (h : n < 128) : nb n = [UInt8.ofNat n] := by rw [nb, if_pos h]
theorem nb_big {n : Nat} (h : 128 ≤ n) : nb n = UInt8.ofNat (n % 128 + 128) :: nb (n / 128) := by rw [nb, if_neg (by omega)]
theorem nb_pos (n : Nat) : 0 < (nb n).length := by rw [nb]; split <;> simp
def okNum (n : Int) : Bool := decide (0 ≤ n ∧ n ≤ 4611686018427387904)
/-- What is laid of a number: nothing, if it is none. -/
def numB (n : Int) : List UInt8 := if okNum n then nb n.toNat else []
def numsB (l : List Int) : List UInt8 := l.flatMap numB

theorem nb_length_le (k : Nat) : ∀ n, n < 128 ^ k → 0 < k → (nb n).length ≤ k := by
  induction k with
  | zero => intro n _ h; omega
  | succ k ih =>
    intro n h _
    by_cases hn : n < 128
    · rw [nb_small hn]; simp
    · rw [nb_big (by omega)]
      have hk : 0 < k := by
        rcases Nat.eq_zero_or_pos k with h0 | h0
        · subst h0; simp at h; omega
        · exact h0
      have := ih (n / 128) (by rw [Nat.pow_succ] at h; omega) hk
      simp; omega
theorem numB_length_le (n : Int) : (numB n).length ≤ 9 := by
  unfold numB
  split
  · rename_i h
    simp only [okNum, decide_eq_true_eq] at h
    refine nb_length_le 9 _ ?_ (by omega)
    have : (128 : Nat) ^ 9 = 9223372036854775808 := by decide
    omega
  · simp

/-- How many bits a number has. -/
def blen (n : Nat) : Nat := if n = 0 then 0 else Nat.log2 n + 1
theorem blen_zero : blen 0 = 0 := rfl
theorem blen_half {n : Nat} (h : 0 < n) : blen n = blen (n / 2) + 1 := by
  unfold blen
  rw [if_neg (by omega)]
  by_cases h1 : n = 1
  · subst h1; decide
  · rw [if_neg (by omega), Nat.log2_def]
    rw [if_pos (by omega)]
theorem blen_shift (k : Nat) : ∀ n, 2 ^ k ≤ n → blen n = blen (n / 2 ^ k) + k := by
  induction k with
  | zero => intro n _; simp
  | succ k ih =>
    intro n h
    have hp : 0 < 2 ^ k := Nat.two_pow_pos k
    rw [Nat.pow_succ] at h
    rw [blen_half (by omega), ih (n / 2) (by omega), Nat.div_div_eq_div_mul, Nat.pow_succ, Nat.mul_comm 2]
    omega
theorem nb_length (n : Nat) : (nb n).length = max 1 ((blen n + 6) / 7) := by
  induction n using Nat.strongRecOn with
  | _ n ih =>
    by_cases h : n < 128
    · rw [nb_small h]
      have : ∀ m, m < 128 → max 1 ((blen m + 6) / 7) = 1 := by decide
      rw [this n h]; rfl
    · have h2 := blen_shift 7 n (by omega)
      have := ih (n / 128) (by omega)
      rw [nb_big (by omega), List.length_cons, this, h2]
      have hb : 0 < blen (n / 2 ^ 7) := by unfold blen; split <;> omega
      have e : (2 : Nat) ^ 7 = 128 := rfl
      rw [e] at hb ⊢
      omega
theorem blen_or_one (n : Nat) : blen (n ||| 1) = max 1 (blen n) := by
  have hd : (n ||| 1) / 2 = n / 2 := by
    have := Nat.or_div_two (a := n) (b := 1)
    simpa using this
  have hp : 0 < n ||| 1 := by
    have := Nat.right_le_or (n := n) (m := 1)
    omega
  rw [blen_half hp, hd]
  rcases Nat.eq_zero_or_pos n with h | h
  · subst h; decide
  · rw [blen_half h]; omega

end Go.Proofs.YtnoekcdmaaakfaaDoor.VL

/- Layer 1: what the reference's and the program's functions on numbers' and texts' bytes compute. -/
-- STEPWISE
set_option linter.unusedVariables false
set_option linter.unusedSimpArgs false
set_option maxRecDepth 10000
namespace Go.Proofs.YtnoekcdmaaakfaaDoor.VL
open Go Go.RowKit Go.Lib

/-- A call answers just this, and leaves the boxes as they were. -/
abbrev Gives (r : AV) (H : List Box) : Out → List Box → Prop := fun o H' => o = .ret r ∧ H' = H
abbrev vi (n : Int) : AV := .v (.int .i64 n)
abbrev vb (b : Bool) : AV := .v (.bool b)
abbrev vs (bs : List UInt8) : AV := .v (.string ⟨bs.toArray⟩)
abbrev vB (bs : List UInt8) : AV := .lst 1 (bytesG bs)
/-- A new row of bytes, one's own. -/
abbrev Owns (bs : List UInt8) (H : List Box) : Out → List Box → Prop := fun o H' => o = .ret (.sl H.length 0 0 bs.length 1 false) ∧ H' = H ++ [⟨bytesC bs, 0, 0, true⟩]

theorem may_spec (n : Int) (H : List Box) : ASpec Tryd.prog 39 [vi n] H (Gives (vb (okNum n)) H) := by
  intro base
  refine acall_body Tryd.func39 rfl (fun a w => Tryd.call39 a w) Tryd.ntmps39 Tryd.results39 (by simp) ?_
  intro w β hI
  simp only [number]
  repeat' (first
    | (refine AWP.seq ?_)
    | (refine AWP.block ?_)
    | (refine AWP.region_k fun Q' hQ' => ?_)
    | (refine AWP.draw_k rfl (by kernel_rfl) fun Q' hQ' => ?_)
    | (with_reducible refine aops.step fun T hT => ?_; simp (disch := omega) only [go_sem, Nat.reduceBEq, Nat.reduceLT, Nat.reduceEqDiff, reduceIte, Nat.reduceAdd, Nat.reduceMul, Nat.reduceSub, Nat.reduceLeDiff, Int.reduceToNat, Int.reducePow, Int.reduceLT, Int.reduceEq, Int.reduceNeg, Nat.reducePow, List.reduceReplicate, Int.reduceLE])
    | (with_reducible refine qops.step fun T hT => ?_; simp (disch := omega) only [go_sem, Nat.reduceBEq, Nat.reduceLT, Nat.reduceEqDiff, reduceIte, Nat.reduceAdd, Nat.reduceMul, Nat.reduceSub, Nat.reduceLeDiff, Int.reduceToNat, Int.reducePow, Int.reduceLT, Int.reduceEq, Int.reduceNeg, Nat.reducePow, List.reduceReplicate, Int.reduceLE])
    | (with_reducible refine aops.nil ?_)
    | (with_reducible refine qops.nil ?_)
    | (with_reducible refine hT _ ?_; clear hT T)
    | (refine AWP.skip ?_; try simp only [AExit.then, AExit.inBlock, reduceIte, Nat.reduceEqDiff])
    | (refine AWP.exit ?_; try simp only [AExit.then, AExit.inBlock, reduceIte, Nat.reduceEqDiff])
    | (refine AWP.ret ?_; try simp only [AExit.then, AExit.inBlock, reduceIte, Nat.reduceEqDiff])
    | (refine AWP.cond rfl (fun h => ?_) (fun h => ?_) <;> (try simp only [decide_eq_true_eq, decide_eq_false_iff_not, Bool.true_eq_false, Bool.false_eq_true] at h) <;> (try contradiction))
    | (refine hQ' _ _ ?_; clear hQ' Q'; try simp only [AExit.then, AExit.inBlock, reduceIte, Nat.reduceEqDiff])
    | (refine hQ' _ ?_; clear hQ' Q'; try simp only [AExit.then, AExit.inBlock, reduceIte, Nat.reduceEqDiff])
    | (with_reducible refine Branch.split (fun h => ?_) (fun h => ?_) <;> (try simp only [decide_eq_true_eq, decide_eq_false_iff_not, Bool.not_true, Bool.not_false, Bool.true_eq_false, Bool.false_eq_true] at h) <;> (try contradiction) <;> (simp (disch := omega) only [go_sem, Nat.reduceBEq, Nat.reduceLT, Nat.reduceEqDiff, reduceIte, Nat.reduceAdd, Nat.reduceMul, Nat.reduceSub, Nat.reduceLeDiff, Int.reduceToNat, Int.reducePow, Int.reduceLT, Int.reduceEq, Int.reduceNeg, Nat.reducePow, List.reduceReplicate, Int.reduceLE, h]))
    | (with_reducible intro h; try simp only [h, go_sem, Nat.reduceBEq, Nat.reduceLT, Nat.reduceEqDiff, reduceIte, Nat.reduceAdd, Nat.reduceMul, Nat.reduceSub, Nat.reduceLeDiff, Int.reduceToNat, Int.reducePow, Int.reduceLT, Int.reduceEq, Int.reduceNeg, Nat.reducePow, List.reduceReplicate, Int.reduceLE]))
  all_goals
    simp only [bodyQ, go_sem, Nat.reduceBEq, Nat.reduceLT, Nat.reduceEqDiff, reduceIte, Nat.reduceAdd, Nat.reduceMul, Nat.reduceSub, Nat.reduceLeDiff, Int.reduceToNat, Int.reducePow, Int.reduceLT, Int.reduceEq, Int.reduceNeg, Nat.reducePow, List.reduceReplicate, Int.reduceLE]
    refine Fin.same ⟨?_, rfl⟩
    simp [okNum, *]

theorem refSize_spec (k : Nat) : ∀ (n : Int) (H : List Box), n.toNat < k → ASpec Tryd.prog 40 [vi n] H (Gives (vi (numB n).length) H) := by
  induction k with
  | zero => intro n H h; omega
  | succ k ih =>
    intro n H hk
    cases hn : okNum n with
    | false =>
      intro base
      refine acall_body Tryd.func40 rfl (fun a w => Tryd.call40 a w) Tryd.ntmps40 Tryd.results40 (by simp) ?_
      intro w β hI
      simp only [number]
      repeat' (first
        | (refine AWP.seq ?_)
        | (refine AWP.block ?_)
        | (refine AWP.region_k fun Q' hQ' => ?_)
        | (refine AWP.draw_k rfl (by kernel_rfl) fun Q' hQ' => ?_)
        | (with_reducible refine aops.step fun T hT => ?_; simp (disch := omega) only [go_sem, Nat.reduceBEq, Nat.reduceLT, Nat.reduceEqDiff, reduceIte, Nat.reduceAdd, Nat.reduceMul, Nat.reduceSub, Nat.reduceLeDiff, Int.reduceToNat, Int.reducePow, Int.reduceLT, Int.reduceEq, Int.reduceNeg, Nat.reducePow, List.reduceReplicate, Int.reduceLE, hn])
        | (with_reducible refine qops.step fun T hT => ?_; simp (disch := omega) only [go_sem, Nat.reduceBEq, Nat.reduceLT, Nat.reduceEqDiff, reduceIte, Nat.reduceAdd, Nat.reduceMul, Nat.reduceSub, Nat.reduceLeDiff, Int.reduceToNat, Int.reducePow, Int.reduceLT, Int.reduceEq, Int.reduceNeg, Nat.reducePow, List.reduceReplicate, Int.reduceLE, hn])
        | (with_reducible refine aops.nil ?_)
        | (with_reducible refine qops.nil ?_)
        | (with_reducible refine hT _ ?_; clear hT T)
        | (refine AWP.skip ?_; try simp only [AExit.then, AExit.inBlock, reduceIte, Nat.reduceEqDiff])
        | (refine AWP.exit ?_; try simp only [AExit.then, AExit.inBlock, reduceIte, Nat.reduceEqDiff])
        | (refine AWP.ret ?_; try simp only [AExit.then, AExit.inBlock, reduceIte, Nat.reduceEqDiff])
        | (refine AWP.cond rfl (fun h => ?_) (fun h => ?_) <;> (try simp only [decide_eq_true_eq, decide_eq_false_iff_not, Bool.true_eq_false, Bool.false_eq_true] at h) <;> (try contradiction))
        | (refine hQ' _ _ ?_; clear hQ' Q'; try simp only [AExit.then, AExit.inBlock, reduceIte, Nat.reduceEqDiff])
        | (refine hQ' _ ?_; clear hQ' Q'; try simp only [AExit.then, AExit.inBlock, reduceIte, Nat.reduceEqDiff])
        | (with_reducible refine Branch.split (fun h => ?_) (fun h => ?_) <;> (try simp only [decide_eq_true_eq, decide_eq_false_iff_not, Bool.not_true, Bool.not_false, Bool.true_eq_false, Bool.false_eq_true] at h) <;> (try contradiction) <;> (simp (disch := omega) only [go_sem, Nat.reduceBEq, Nat.reduceLT, Nat.reduceEqDiff, reduceIte, Nat.reduceAdd, Nat.reduceMul, Nat.reduceSub, Nat.reduceLeDiff, Int.reduceToNat, Int.reducePow, Int.reduceLT, Int.reduceEq, Int.reduceNeg, Nat.reducePow, List.reduceReplicate, Int.reduceLE, h, hn]))
        | (with_reducible intro h; try simp only [h, go_sem, Nat.reduceBEq, Nat.reduceLT, Nat.reduceEqDiff, reduceIte, Nat.reduceAdd, Nat.reduceMul, Nat.reduceSub, Nat.reduceLeDiff, Int.reduceToNat, Int.reducePow, Int.reduceLT, Int.reduceEq, Int.reduceNeg, Nat.reducePow, List.reduceReplicate, Int.reduceLE, hn])
        | ((first | (with_reducible refine acall.det (may_spec n _) ?_) | (with_reducible refine qcall.det (may_spec n _) ?_)); try simp (disch := omega) only [go_sem, Nat.reduceBEq, Nat.reduceLT, Nat.reduceEqDiff, reduceIte, Nat.reduceAdd, Nat.reduceMul, Nat.reduceSub, Nat.reduceLeDiff, Int.reduceToNat, Int.reducePow, Int.reduceLT, Int.reduceEq, Int.reduceNeg, Nat.reducePow, List.reduceReplicate, Int.reduceLE, hn]))
      simp only [bodyQ, go_sem, Nat.reduceBEq, Nat.reduceLT, Nat.reduceEqDiff, reduceIte, Nat.reduceAdd, Nat.reduceMul, Nat.reduceSub, Nat.reduceLeDiff, Int.reduceToNat, Int.reducePow, Int.reduceLT, Int.reduceEq, Int.reduceNeg, Nat.reducePow, List.reduceReplicate, Int.reduceLE]
      exact Fin.same ⟨by simp [numB, hn], rfl⟩
    | true =>
      have hb : 0 ≤ n ∧ n ≤ 4611686018427387904 := by simpa [okNum] using hn
      by_cases h128 : n < 128
      · intro base
        refine acall_body Tryd.func40 rfl (fun a w => Tryd.call40 a w) Tryd.ntmps40 Tryd.results40 (by simp) ?_
        intro w β hI
        simp only [number]
        repeat' (first
          | (refine AWP.seq ?_)
          | (refine AWP.block ?_)
          | (refine AWP.region_k fun Q' hQ' => ?_)
          | (refine AWP.draw_k rfl (by kernel_rfl) fun Q' hQ' => ?_)
          | (with_reducible refine aops.step fun T hT => ?_; simp (disch := omega) only [go_sem, Nat.reduceBEq, Nat.reduceLT, Nat.reduceEqDiff, reduceIte, Nat.reduceAdd, Nat.reduceMul, Nat.reduceSub, Nat.reduceLeDiff, Int.reduceToNat, Int.reducePow, Int.reduceLT, Int.reduceEq, Int.reduceNeg, Nat.reducePow, List.reduceReplicate, Int.reduceLE, hn, h128])
          | (with_reducible refine qops.step fun T hT => ?_; simp (disch := omega) only [go_sem, Nat.reduceBEq, Nat.reduceLT, Nat.reduceEqDiff, reduceIte, Nat.reduceAdd, Nat.reduceMul, Nat.reduceSub, Nat.reduceLeDiff, Int.reduceToNat, Int.reducePow, Int.reduceLT, Int.reduceEq, Int.reduceNeg, Nat.reducePow, List.reduceReplicate, Int.reduceLE, hn, h128])
          | (with_reducible refine aops.nil ?_)
          | (with_reducible refine qops.nil ?_)
          | (with_reducible refine hT _ ?_; clear hT T)
          | (refine AWP.skip ?_; try simp only [AExit.then, AExit.inBlock, reduceIte, Nat.reduceEqDiff])
          | (refine AWP.exit ?_; try simp only [AExit.then, AExit.inBlock, reduceIte, Nat.reduceEqDiff])
          | (refine AWP.ret ?_; try simp only [AExit.then, AExit.inBlock, reduceIte, Nat.reduceEqDiff])
          | (refine AWP.cond rfl (fun h => ?_) (fun h => ?_) <;> (try simp only [decide_eq_true_eq, decide_eq_false_iff_not, Bool.true_eq_false, Bool.false_eq_true] at h) <;> (try contradiction))
          | (refine hQ' _ _ ?_; clear hQ' Q'; try simp only [AExit.then, AExit.inBlock, reduceIte, Nat.reduceEqDiff])
          | (refine hQ' _ ?_; clear hQ' Q'; try simp only [AExit.then, AExit.inBlock, reduceIte, Nat.reduceEqDiff])
          | (with_reducible refine Branch.split (fun h => ?_) (fun h => ?_) <;> (try simp only [decide_eq_true_eq, decide_eq_false_iff_not, Bool.not_true, Bool.not_false, Bool.true_eq_false, Bool.false_eq_true] at h) <;> (try contradiction) <;> (simp (disch := omega) only [go_sem, Nat.reduceBEq, Nat.reduceLT, Nat.reduceEqDiff, reduceIte, Nat.reduceAdd, Nat.reduceMul, Nat.reduceSub, Nat.reduceLeDiff, Int.reduceToNat, Int.reducePow, Int.reduceLT, Int.reduceEq, Int.reduceNeg, Nat.reducePow, List.reduceReplicate, Int.reduceLE, h, hn, h128]))
          | (with_reducible intro h; try simp only [h, go_sem, Nat.reduceBEq, Nat.reduceLT, Nat.reduceEqDiff, reduceIte, Nat.reduceAdd, Nat.reduceMul, Nat.reduceSub, Nat.reduceLeDiff, Int.reduceToNat, Int.reducePow, Int.reduceLT, Int.reduceEq, Int.reduceNeg, Nat.reducePow, List.reduceReplicate, Int.reduceLE, hn, h128])
          | ((first | (with_reducible refine acall.det (may_spec n _) ?_) | (with_reducible refine qcall.det (may_spec n _) ?_)); try simp (disch := omega) only [go_sem, Nat.reduceBEq, Nat.reduceLT, Nat.reduceEqDiff, reduceIte, Nat.reduceAdd, Nat.reduceMul, Nat.reduceSub, Nat.reduceLeDiff, Int.reduceToNat, Int.reducePow, Int.reduceLT, Int.reduceEq, Int.reduceNeg, Nat.reducePow, List.reduceReplicate, Int.reduceLE, hn, h128]))
        simp only [bodyQ, go_sem, Nat.reduceBEq, Nat.reduceLT, Nat.reduceEqDiff, reduceIte, Nat.reduceAdd, Nat.reduceMul, Nat.reduceSub, Nat.reduceLeDiff, Int.reduceToNat, Int.reducePow, Int.reduceLT, Int.reduceEq, Int.reduceNeg, Nat.reducePow, List.reduceReplicate, Int.reduceLE]
        exact Fin.same ⟨by simp [numB, hn, nb_small (show n.toNat < 128 by omega)], rfl⟩
      · have hq : Int.tdiv n 128 = n / 128 := Int.tdiv_eq_ediv_of_nonneg hb.1
        have hl := numB_length_le (n / 128)
        have ht : (n / 128).toNat = n.toNat / 128 := by omega
        have hok : okNum (n / 128) = true := by simp [okNum]; omega
        intro base
        refine acall_body Tryd.func40 rfl (fun a w => Tryd.call40 a w) Tryd.ntmps40 Tryd.results40 (by simp) ?_
        intro w β hI
        simp only [number]
        repeat' (first
          | (refine AWP.seq ?_)
          | (refine AWP.block ?_)
          | (refine AWP.region_k fun Q' hQ' => ?_)
          | (refine AWP.draw_k rfl (by kernel_rfl) fun Q' hQ' => ?_)
          | (with_reducible refine aops.step fun T hT => ?_; simp (disch := omega) only [go_sem, Nat.reduceBEq, Nat.reduceLT, Nat.reduceEqDiff, reduceIte, Nat.reduceAdd, Nat.reduceMul, Nat.reduceSub, Nat.reduceLeDiff, Int.reduceToNat, Int.reducePow, Int.reduceLT, Int.reduceEq, Int.reduceNeg, Nat.reducePow, List.reduceReplicate, Int.reduceLE, hn, h128, hq])
          | (with_reducible refine qops.step fun T hT => ?_; simp (disch := omega) only [go_sem, Nat.reduceBEq, Nat.reduceLT, Nat.reduceEqDiff, reduceIte, Nat.reduceAdd, Nat.reduceMul, Nat.reduceSub, Nat.reduceLeDiff, Int.reduceToNat, Int.reducePow, Int.reduceLT, Int.reduceEq, Int.reduceNeg, Nat.reducePow, List.reduceReplicate, Int.reduceLE, hn, h128, hq])
          | (with_reducible refine aops.nil ?_)
          | (with_reducible refine qops.nil ?_)
          | (with_reducible refine hT _ ?_; clear hT T)
          | (refine AWP.skip ?_; try simp only [AExit.then, AExit.inBlock, reduceIte, Nat.reduceEqDiff])
          | (refine AWP.exit ?_; try simp only [AExit.then, AExit.inBlock, reduceIte, Nat.reduceEqDiff])
          | (refine AWP.ret ?_; try simp only [AExit.then, AExit.inBlock, reduceIte, Nat.reduceEqDiff])
          | (refine AWP.cond rfl (fun h => ?_) (fun h => ?_) <;> (try simp only [decide_eq_true_eq, decide_eq_false_iff_not, Bool.true_eq_false, Bool.false_eq_true] at h) <;> (try contradiction))
          | (refine hQ' _ _ ?_; clear hQ' Q'; try simp only [AExit.then, AExit.inBlock, reduceIte, Nat.reduceEqDiff])
          | (refine hQ' _ ?_; clear hQ' Q'; try simp only [AExit.then, AExit.inBlock, reduceIte, Nat.reduceEqDiff])
          | (with_reducible refine Branch.split (fun h => ?_) (fun h => ?_) <;> (try simp only [decide_eq_true_eq, decide_eq_false_iff_not, Bool.not_true, Bool.not_false, Bool.true_eq_false, Bool.false_eq_true] at h) <;> (try contradiction) <;> (simp (disch := omega) only [go_sem, Nat.reduceBEq, Nat.reduceLT, Nat.reduceEqDiff, reduceIte, Nat.reduceAdd, Nat.reduceMul, Nat.reduceSub, Nat.reduceLeDiff, Int.reduceToNat, Int.reducePow, Int.reduceLT, Int.reduceEq, Int.reduceNeg, Nat.reducePow, List.reduceReplicate, Int.reduceLE, h, hn, h128, hq]))
          | (with_reducible intro h; try simp only [h, go_sem, Nat.reduceBEq, Nat.reduceLT, Nat.reduceEqDiff, reduceIte, Nat.reduceAdd, Nat.reduceMul, Nat.reduceSub, Nat.reduceLeDiff, Int.reduceToNat, Int.reducePow, Int.reduceLT, Int.reduceEq, Int.reduceNeg, Nat.reducePow, List.reduceReplicate, Int.reduceLE, hn, h128, hq])
          | ((first | (with_reducible refine acall.det (may_spec n _) ?_) | (with_reducible refine qcall.det (may_spec n _) ?_) | (with_reducible refine acall.det (ih (n / 128) _ (by omega)) ?_) | (with_reducible refine qcall.det (ih (n / 128) _ (by omega)) ?_)); try simp (disch := omega) only [go_sem, Nat.reduceBEq, Nat.reduceLT, Nat.reduceEqDiff, reduceIte, Nat.reduceAdd, Nat.reduceMul, Nat.reduceSub, Nat.reduceLeDiff, Int.reduceToNat, Int.reducePow, Int.reduceLT, Int.reduceEq, Int.reduceNeg, Nat.reducePow, List.reduceReplicate, Int.reduceLE, hn, h128, hq]))
        simp only [bodyQ, go_sem, Nat.reduceBEq, Nat.reduceLT, Nat.reduceEqDiff, reduceIte, Nat.reduceAdd, Nat.reduceMul, Nat.reduceSub, Nat.reduceLeDiff, Int.reduceToNat, Int.reducePow, Int.reduceLT, Int.reduceEq, Int.reduceNeg, Nat.reducePow, List.reduceReplicate, Int.reduceLE]
        refine Fin.same ⟨?_, rfl⟩
        simp only [numB, hn, hok, if_true, nb_big (show 128 ≤ n.toNat by omega), ht, List.length_cons]
        congr 4
        omega

theorem len8_get : ∀ i, i < 256 → ((([0, 1, 2, 2, 3, 3, 3, 3, 4, 4, 4, 4, 4, 4, 4, 4, 5, 5, 5, 5, 5, 5, 5, 5, 5, 5, 5, 5, 5, 5, 5, 5, 6, 6, 6, 6, 6, 6, 6, 6, 6, 6, 6, 6, 6, 6, 6, 6, 6, 6, 6, 6, 6, 6, 6, 6, 6, 6, 6, 6, 6, 6, 6, 6] : List UInt8).append [7, 7, 7, 7, 7, 7, 7, 7, 7, 7, 7, 7, 7, 7, 7, 7, 7, 7, 7, 7, 7, 7, 7, 7, 7, 7, 7, 7, 7, 7, 7, 7, 7, 7, 7, 7, 7, 7, 7, 7, 7, 7, 7, 7, 7, 7, 7, 7, 7, 7, 7, 7, 7, 7, 7, 7, 7, 7, 7, 7, 7, 7, 7, 7]).append (([8, 8, 8, 8, 8, 8, 8, 8, 8, 8, 8, 8, 8, 8, 8, 8, 8, 8, 8, 8, 8, 8, 8, 8, 8, 8, 8, 8, 8, 8, 8, 8, 8, 8, 8, 8, 8, 8, 8, 8, 8, 8, 8, 8, 8, 8, 8, 8, 8, 8, 8, 8, 8, 8, 8, 8, 8, 8, 8, 8, 8, 8, 8, 8] : List UInt8).append [8, 8, 8, 8, 8, 8, 8, 8, 8, 8, 8, 8, 8, 8, 8, 8, 8, 8, 8, 8, 8, 8, 8, 8, 8, 8, 8, 8, 8, 8, 8, 8, 8, 8, 8, 8, 8, 8, 8, 8, 8, 8, 8, 8, 8, 8, 8, 8, 8, 8, 8, 8, 8, 8, 8, 8, 8, 8, 8, 8, 8, 8, 8, 8]))[i]? = some (UInt8.ofNat (blen i)) := by decide
theorem blen_small : ∀ i, i < 256 → blen i ≤ 8 := by decide
theorem u8_small (i : Nat) (h : i < 256) : ((UInt8.ofNat (blen i)).toNat : Int) = blen i := by
  have := blen_small i h
  simp [UInt8.toNat_ofNat']
  omega
theorem len_key (n k p m : Nat) (hp : p = 2 ^ k) (h1 : n / p = m) (h3 : k = 0 ∨ p ≤ n) : (k : Int) + (blen m : Int) = blen n := by
  subst h1; subst hp
  rcases h3 with rfl | h3
  · simp
  · rw [blen_shift k n h3]; omega
set_option maxHeartbeats 1000000 in
theorem len64_spec (n : Nat) (hn : n < 18446744073709551616) (H : List Box) : ASpec Tryd.prog 59 [.v (.int .u64 n)] H (Gives (vi (blen n)) H) := by
  by_cases h256 : n < 256
  · have hb := blen_small n h256
    intro base
    refine acall_body Tryd.func59 rfl (fun a w => Tryd.call59 a w) Tryd.ntmps59 Tryd.results59 (by simp) ?_
    intro w β hI
    simp only [number]
    repeat' (first
      | (refine AWP.seq ?_)
      | (refine AWP.block ?_)
      | (refine AWP.region_k fun Q' hQ' => ?_)
      | (refine AWP.draw_k rfl (by kernel_rfl) fun Q' hQ' => ?_)
      | (with_reducible refine aops.step fun T hT => ?_; simp (disch := omega) only [go_sem, Nat.reduceBEq, Nat.reduceLT, Nat.reduceEqDiff, reduceIte, Nat.reduceAdd, Nat.reduceMul, Nat.reduceSub, Nat.reduceLeDiff, Int.reduceToNat, Int.reducePow, Int.reduceLT, Int.reduceEq, Int.reduceNeg, Nat.reducePow, List.reduceReplicate, Int.reduceLE])
      | (with_reducible refine qops.step fun T hT => ?_; simp (disch := omega) only [go_sem, Nat.reduceBEq, Nat.reduceLT, Nat.reduceEqDiff, reduceIte, Nat.reduceAdd, Nat.reduceMul, Nat.reduceSub, Nat.reduceLeDiff, Int.reduceToNat, Int.reducePow, Int.reduceLT, Int.reduceEq, Int.reduceNeg, Nat.reducePow, List.reduceReplicate, Int.reduceLE])
      | (with_reducible refine aops.nil ?_)
      | (with_reducible refine qops.nil ?_)
      | (with_reducible refine hT _ ?_; clear hT T)
      | (refine AWP.skip ?_; try simp only [AExit.then, AExit.inBlock, reduceIte, Nat.reduceEqDiff])
      | (refine AWP.exit ?_; try simp only [AExit.then, AExit.inBlock, reduceIte, Nat.reduceEqDiff])
      | (refine AWP.ret ?_; try simp only [AExit.then, AExit.inBlock, reduceIte, Nat.reduceEqDiff])
      | (refine AWP.cond rfl (fun h => ?_) (fun h => ?_) <;> (try simp only [decide_eq_true_eq, decide_eq_false_iff_not, Bool.true_eq_false, Bool.false_eq_true] at h) <;> (try contradiction))
      | (refine hQ' _ _ ?_; clear hQ' Q'; try simp only [AExit.then, AExit.inBlock, reduceIte, Nat.reduceEqDiff])
      | (refine hQ' _ ?_; clear hQ' Q'; try simp only [AExit.then, AExit.inBlock, reduceIte, Nat.reduceEqDiff])
      | (with_reducible refine Branch.split (fun h => ?_) (fun h => ?_) <;> (try simp only [decide_eq_true_eq, decide_eq_false_iff_not, Bool.not_true, Bool.not_false, Bool.true_eq_false, Bool.false_eq_true] at h) <;> (try contradiction) <;> (simp (disch := omega) only [go_sem, Nat.reduceBEq, Nat.reduceLT, Nat.reduceEqDiff, reduceIte, Nat.reduceAdd, Nat.reduceMul, Nat.reduceSub, Nat.reduceLeDiff, Int.reduceToNat, Int.reducePow, Int.reduceLT, Int.reduceEq, Int.reduceNeg, Nat.reducePow, List.reduceReplicate, Int.reduceLE, h]))
      | (with_reducible intro h; try simp only [h, go_sem, Nat.reduceBEq, Nat.reduceLT, Nat.reduceEqDiff, reduceIte, Nat.reduceAdd, Nat.reduceMul, Nat.reduceSub, Nat.reduceLeDiff, Int.reduceToNat, Int.reducePow, Int.reduceLT, Int.reduceEq, Int.reduceNeg, Nat.reducePow, List.reduceReplicate, Int.reduceLE]))
    all_goals first
      | (exfalso; omega)
      | (rw [len8_get n h256]
         simp (disch := omega) only [go_sem, Nat.reduceBEq, Nat.reduceLT, Nat.reduceEqDiff, reduceIte, Nat.reduceAdd, Nat.reduceMul, Nat.reduceSub, Nat.reduceLeDiff, Int.reduceToNat, Int.reducePow, Int.reduceLT, Int.reduceEq, Int.reduceNeg, Nat.reducePow, List.reduceReplicate, Int.reduceLE, u8_small n h256]
         repeat' (first
           | (refine AWP.seq ?_)
           | (refine AWP.block ?_)
           | (refine AWP.region_k fun Q' hQ' => ?_)
           | (refine AWP.draw_k rfl (by kernel_rfl) fun Q' hQ' => ?_)
           | (with_reducible refine aops.step fun T hT => ?_; simp (disch := omega) only [go_sem, Nat.reduceBEq, Nat.reduceLT, Nat.reduceEqDiff, reduceIte, Nat.reduceAdd, Nat.reduceMul, Nat.reduceSub, Nat.reduceLeDiff, Int.reduceToNat, Int.reducePow, Int.reduceLT, Int.reduceEq, Int.reduceNeg, Nat.reducePow, List.reduceReplicate, Int.reduceLE])
           | (with_reducible refine qops.step fun T hT => ?_; simp (disch := omega) only [go_sem, Nat.reduceBEq, Nat.reduceLT, Nat.reduceEqDiff, reduceIte, Nat.reduceAdd, Nat.reduceMul, Nat.reduceSub, Nat.reduceLeDiff, Int.reduceToNat, Int.reducePow, Int.reduceLT, Int.reduceEq, Int.reduceNeg, Nat.reducePow, List.reduceReplicate, Int.reduceLE])
           | (with_reducible refine aops.nil ?_)
           | (with_reducible refine qops.nil ?_)
           | (with_reducible refine hT _ ?_; clear hT T)
           | (refine AWP.skip ?_; try simp only [AExit.then, AExit.inBlock, reduceIte, Nat.reduceEqDiff])
           | (refine AWP.exit ?_; try simp only [AExit.then, AExit.inBlock, reduceIte, Nat.reduceEqDiff])
           | (refine AWP.ret ?_; try simp only [AExit.then, AExit.inBlock, reduceIte, Nat.reduceEqDiff])
           | (refine AWP.cond rfl (fun h => ?_) (fun h => ?_) <;> (try simp only [decide_eq_true_eq, decide_eq_false_iff_not, Bool.true_eq_false, Bool.false_eq_true] at h) <;> (try contradiction))
           | (refine hQ' _ _ ?_; clear hQ' Q'; try simp only [AExit.then, AExit.inBlock, reduceIte, Nat.reduceEqDiff])
           | (refine hQ' _ ?_; clear hQ' Q'; try simp only [AExit.then, AExit.inBlock, reduceIte, Nat.reduceEqDiff])
           | (with_reducible refine Branch.split (fun h => ?_) (fun h => ?_) <;> (try simp only [decide_eq_true_eq, decide_eq_false_iff_not, Bool.not_true, Bool.not_false, Bool.true_eq_false, Bool.false_eq_true] at h) <;> (try contradiction) <;> (simp (disch := omega) only [go_sem, Nat.reduceBEq, Nat.reduceLT, Nat.reduceEqDiff, reduceIte, Nat.reduceAdd, Nat.reduceMul, Nat.reduceSub, Nat.reduceLeDiff, Int.reduceToNat, Int.reducePow, Int.reduceLT, Int.reduceEq, Int.reduceNeg, Nat.reducePow, List.reduceReplicate, Int.reduceLE, h]))
           | (with_reducible intro h; try simp only [h, go_sem, Nat.reduceBEq, Nat.reduceLT, Nat.reduceEqDiff, reduceIte, Nat.reduceAdd, Nat.reduceMul, Nat.reduceSub, Nat.reduceLeDiff, Int.reduceToNat, Int.reducePow, Int.reduceLT, Int.reduceEq, Int.reduceNeg, Nat.reducePow, List.reduceReplicate, Int.reduceLE]))
         simp only [bodyQ, go_sem, Nat.reduceBEq, Nat.reduceLT, Nat.reduceEqDiff, reduceIte, Nat.reduceAdd, Nat.reduceMul, Nat.reduceSub, Nat.reduceLeDiff, Int.reduceToNat, Int.reducePow, Int.reduceLT, Int.reduceEq, Int.reduceNeg, Nat.reducePow, List.reduceReplicate, Int.reduceLE]
         exact Fin.same ⟨rfl, rfl⟩)
  intro base
  refine acall_body Tryd.func59 rfl (fun a w => Tryd.call59 a w) Tryd.ntmps59 Tryd.results59 (by simp) ?_
  intro w β hI
  simp only [number]
  repeat' (first
    | (refine AWP.seq ?_)
    | (refine AWP.block ?_)
    | (refine AWP.region_k fun Q' hQ' => ?_)
    | (refine AWP.draw_k rfl (by kernel_rfl) fun Q' hQ' => ?_)
    | (with_reducible refine aops.step fun T hT => ?_; simp (disch := omega) only [go_sem, Nat.reduceBEq, Nat.reduceLT, Nat.reduceEqDiff, reduceIte, Nat.reduceAdd, Nat.reduceMul, Nat.reduceSub, Nat.reduceLeDiff, Int.reduceToNat, Int.reducePow, Int.reduceLT, Int.reduceEq, Int.reduceNeg, Nat.reducePow, List.reduceReplicate, Int.reduceLE])
    | (with_reducible refine qops.step fun T hT => ?_; simp (disch := omega) only [go_sem, Nat.reduceBEq, Nat.reduceLT, Nat.reduceEqDiff, reduceIte, Nat.reduceAdd, Nat.reduceMul, Nat.reduceSub, Nat.reduceLeDiff, Int.reduceToNat, Int.reducePow, Int.reduceLT, Int.reduceEq, Int.reduceNeg, Nat.reducePow, List.reduceReplicate, Int.reduceLE])
    | (with_reducible refine aops.nil ?_)
    | (with_reducible refine qops.nil ?_)
    | (with_reducible refine hT _ ?_; clear hT T)
    | (refine AWP.skip ?_; try simp only [AExit.then, AExit.inBlock, reduceIte, Nat.reduceEqDiff])
    | (refine AWP.exit ?_; try simp only [AExit.then, AExit.inBlock, reduceIte, Nat.reduceEqDiff])
    | (refine AWP.ret ?_; try simp only [AExit.then, AExit.inBlock, reduceIte, Nat.reduceEqDiff])
    | (refine AWP.cond rfl (fun h => ?_) (fun h => ?_) <;> (try simp only [decide_eq_true_eq, decide_eq_false_iff_not, Bool.true_eq_false, Bool.false_eq_true] at h) <;> (try contradiction))
    | (refine hQ' _ _ ?_; clear hQ' Q'; try simp only [AExit.then, AExit.inBlock, reduceIte, Nat.reduceEqDiff])
    | (refine hQ' _ ?_; clear hQ' Q'; try simp only [AExit.then, AExit.inBlock, reduceIte, Nat.reduceEqDiff])
    | (with_reducible refine Branch.split (fun h => ?_) (fun h => ?_) <;> (try simp only [decide_eq_true_eq, decide_eq_false_iff_not, Bool.not_true, Bool.not_false, Bool.true_eq_false, Bool.false_eq_true] at h) <;> (try contradiction) <;> (simp (disch := omega) only [go_sem, Nat.reduceBEq, Nat.reduceLT, Nat.reduceEqDiff, reduceIte, Nat.reduceAdd, Nat.reduceMul, Nat.reduceSub, Nat.reduceLeDiff, Int.reduceToNat, Int.reducePow, Int.reduceLT, Int.reduceEq, Int.reduceNeg, Nat.reducePow, List.reduceReplicate, Int.reduceLE, h]))
    | (with_reducible intro h; try simp only [h, go_sem, Nat.reduceBEq, Nat.reduceLT, Nat.reduceEqDiff, reduceIte, Nat.reduceAdd, Nat.reduceMul, Nat.reduceSub, Nat.reduceLeDiff, Int.reduceToNat, Int.reducePow, Int.reduceLT, Int.reduceEq, Int.reduceNeg, Nat.reducePow, List.reduceReplicate, Int.reduceLE]))
  all_goals first
    | (exfalso; omega)
    | (generalize hm : Int.toNat (_ : Int) = m
       have hm256 : m < 256 := by omega
       have hb := blen_small m hm256
       rw [len8_get m hm256]
       simp (disch := omega) only [go_sem, Nat.reduceBEq, Nat.reduceLT, Nat.reduceEqDiff, reduceIte, Nat.reduceAdd, Nat.reduceMul, Nat.reduceSub, Nat.reduceLeDiff, Int.reduceToNat, Int.reducePow, Int.reduceLT, Int.reduceEq, Int.reduceNeg, Nat.reducePow, List.reduceReplicate, Int.reduceLE, u8_small m hm256]
       repeat' (first
         | (refine AWP.seq ?_)
         | (refine AWP.block ?_)
         | (refine AWP.region_k fun Q' hQ' => ?_)
         | (refine AWP.draw_k rfl (by kernel_rfl) fun Q' hQ' => ?_)
         | (with_reducible refine aops.step fun T hT => ?_; simp (disch := omega) only [go_sem, Nat.reduceBEq, Nat.reduceLT, Nat.reduceEqDiff, reduceIte, Nat.reduceAdd, Nat.reduceMul, Nat.reduceSub, Nat.reduceLeDiff, Int.reduceToNat, Int.reducePow, Int.reduceLT, Int.reduceEq, Int.reduceNeg, Nat.reducePow, List.reduceReplicate, Int.reduceLE])
         | (with_reducible refine qops.step fun T hT => ?_; simp (disch := omega) only [go_sem, Nat.reduceBEq, Nat.reduceLT, Nat.reduceEqDiff, reduceIte, Nat.reduceAdd, Nat.reduceMul, Nat.reduceSub, Nat.reduceLeDiff, Int.reduceToNat, Int.reducePow, Int.reduceLT, Int.reduceEq, Int.reduceNeg, Nat.reducePow, List.reduceReplicate, Int.reduceLE])
         | (with_reducible refine aops.nil ?_)
         | (with_reducible refine qops.nil ?_)
         | (with_reducible refine hT _ ?_; clear hT T)
         | (refine AWP.skip ?_; try simp only [AExit.then, AExit.inBlock, reduceIte, Nat.reduceEqDiff])
         | (refine AWP.exit ?_; try simp only [AExit.then, AExit.inBlock, reduceIte, Nat.reduceEqDiff])
         | (refine AWP.ret ?_; try simp only [AExit.then, AExit.inBlock, reduceIte, Nat.reduceEqDiff])
         | (refine AWP.cond rfl (fun h => ?_) (fun h => ?_) <;> (try simp only [decide_eq_true_eq, decide_eq_false_iff_not, Bool.true_eq_false, Bool.false_eq_true] at h) <;> (try contradiction))
         | (refine hQ' _ _ ?_; clear hQ' Q'; try simp only [AExit.then, AExit.inBlock, reduceIte, Nat.reduceEqDiff])
         | (refine hQ' _ ?_; clear hQ' Q'; try simp only [AExit.then, AExit.inBlock, reduceIte, Nat.reduceEqDiff])
         | (with_reducible refine Branch.split (fun h => ?_) (fun h => ?_) <;> (try simp only [decide_eq_true_eq, decide_eq_false_iff_not, Bool.not_true, Bool.not_false, Bool.true_eq_false, Bool.false_eq_true] at h) <;> (try contradiction) <;> (simp (disch := omega) only [go_sem, Nat.reduceBEq, Nat.reduceLT, Nat.reduceEqDiff, reduceIte, Nat.reduceAdd, Nat.reduceMul, Nat.reduceSub, Nat.reduceLeDiff, Int.reduceToNat, Int.reducePow, Int.reduceLT, Int.reduceEq, Int.reduceNeg, Nat.reducePow, List.reduceReplicate, Int.reduceLE, h]))
         | (with_reducible intro h; try simp only [h, go_sem, Nat.reduceBEq, Nat.reduceLT, Nat.reduceEqDiff, reduceIte, Nat.reduceAdd, Nat.reduceMul, Nat.reduceSub, Nat.reduceLeDiff, Int.reduceToNat, Int.reducePow, Int.reduceLT, Int.reduceEq, Int.reduceNeg, Nat.reducePow, List.reduceReplicate, Int.reduceLE]))
       simp only [bodyQ, go_sem, Nat.reduceBEq, Nat.reduceLT, Nat.reduceEqDiff, reduceIte, Nat.reduceAdd, Nat.reduceMul, Nat.reduceSub, Nat.reduceLeDiff, Int.reduceToNat, Int.reducePow, Int.reduceLT, Int.reduceEq, Int.reduceNeg, Nat.reducePow, List.reduceReplicate, Int.reduceLE]
       refine Fin.same ⟨congrArg (fun x => Out.ret (vi x)) ?_, rfl⟩
       first
         | exact (by omega : _ = _ + _).trans (len_key n 56 72057594037927936 m (by decide) (by omega) (by omega))
         | exact (by omega : _ = _ + _).trans (len_key n 48 281474976710656 m (by decide) (by omega) (by omega))
         | exact (by omega : _ = _ + _).trans (len_key n 40 1099511627776 m (by decide) (by omega) (by omega))
         | exact (by omega : _ = _ + _).trans (len_key n 32 4294967296 m (by decide) (by omega) (by omega))
         | exact (by omega : _ = _ + _).trans (len_key n 24 16777216 m (by decide) (by omega) (by omega))
         | exact (by omega : _ = _ + _).trans (len_key n 16 65536 m (by decide) (by omega) (by omega))
         | exact (by omega : _ = _ + _).trans (len_key n 8 256 m (by decide) (by omega) (by omega)))

theorem len_spec (n : Nat) (hn : n < 18446744073709551616) (H : List Box) : ASpec Tryd.prog 51 [.v (.int .u64 n)] H (Gives (vi (blen n)) H) := by
  intro base
  refine acall_body Tryd.func51 rfl (fun a w => Tryd.call51 a w) Tryd.ntmps51 Tryd.results51 (by simp) ?_
  intro w β hI
  simp only [number]
  repeat' (first
    | (refine AWP.seq ?_)
    | (refine AWP.block ?_)
    | (refine AWP.region_k fun Q' hQ' => ?_)
    | (refine AWP.draw_k rfl (by kernel_rfl) fun Q' hQ' => ?_)
    | (with_reducible refine aops.step fun T hT => ?_; simp (disch := omega) only [go_sem, Nat.reduceBEq, Nat.reduceLT, Nat.reduceEqDiff, reduceIte, Nat.reduceAdd, Nat.reduceMul, Nat.reduceSub, Nat.reduceLeDiff, Int.reduceToNat, Int.reducePow, Int.reduceLT, Int.reduceEq, Int.reduceNeg, Nat.reducePow, List.reduceReplicate, Int.reduceLE])
    | (with_reducible refine qops.step fun T hT => ?_; simp (disch := omega) only [go_sem, Nat.reduceBEq, Nat.reduceLT, Nat.reduceEqDiff, reduceIte, Nat.reduceAdd, Nat.reduceMul, Nat.reduceSub, Nat.reduceLeDiff, Int.reduceToNat, Int.reducePow, Int.reduceLT, Int.reduceEq, Int.reduceNeg, Nat.reducePow, List.reduceReplicate, Int.reduceLE])
    | (with_reducible refine aops.nil ?_)
    | (with_reducible refine qops.nil ?_)
    | (with_reducible refine hT _ ?_; clear hT T)
    | (refine AWP.skip ?_; try simp only [AExit.then, AExit.inBlock, reduceIte, Nat.reduceEqDiff])
    | (refine AWP.exit ?_; try simp only [AExit.then, AExit.inBlock, reduceIte, Nat.reduceEqDiff])
    | (refine AWP.ret ?_; try simp only [AExit.then, AExit.inBlock, reduceIte, Nat.reduceEqDiff])
    | (refine AWP.cond rfl (fun h => ?_) (fun h => ?_) <;> (try simp only [decide_eq_true_eq, decide_eq_false_iff_not, Bool.true_eq_false, Bool.false_eq_true] at h) <;> (try contradiction))
    | (refine hQ' _ _ ?_; clear hQ' Q'; try simp only [AExit.then, AExit.inBlock, reduceIte, Nat.reduceEqDiff])
    | (refine hQ' _ ?_; clear hQ' Q'; try simp only [AExit.then, AExit.inBlock, reduceIte, Nat.reduceEqDiff])
    | (with_reducible refine Branch.split (fun h => ?_) (fun h => ?_) <;> (try simp only [decide_eq_true_eq, decide_eq_false_iff_not, Bool.not_true, Bool.not_false, Bool.true_eq_false, Bool.false_eq_true] at h) <;> (try contradiction) <;> (simp (disch := omega) only [go_sem, Nat.reduceBEq, Nat.reduceLT, Nat.reduceEqDiff, reduceIte, Nat.reduceAdd, Nat.reduceMul, Nat.reduceSub, Nat.reduceLeDiff, Int.reduceToNat, Int.reducePow, Int.reduceLT, Int.reduceEq, Int.reduceNeg, Nat.reducePow, List.reduceReplicate, Int.reduceLE, h]))
    | (with_reducible intro h; try simp only [h, go_sem, Nat.reduceBEq, Nat.reduceLT, Nat.reduceEqDiff, reduceIte, Nat.reduceAdd, Nat.reduceMul, Nat.reduceSub, Nat.reduceLeDiff, Int.reduceToNat, Int.reducePow, Int.reduceLT, Int.reduceEq, Int.reduceNeg, Nat.reducePow, List.reduceReplicate, Int.reduceLE])
    | ((first | (with_reducible refine acall.det (len64_spec n hn _) ?_) | (with_reducible refine qcall.det (len64_spec n hn _) ?_)); try simp (disch := omega) only [go_sem, Nat.reduceBEq, Nat.reduceLT, Nat.reduceEqDiff, reduceIte, Nat.reduceAdd, Nat.reduceMul, Nat.reduceSub, Nat.reduceLeDiff, Int.reduceToNat, Int.reducePow, Int.reduceLT, Int.reduceEq, Int.reduceNeg, Nat.reducePow, List.reduceReplicate, Int.reduceLE]))
  all_goals
    simp only [bodyQ, go_sem, Nat.reduceBEq, Nat.reduceLT, Nat.reduceEqDiff, reduceIte, Nat.reduceAdd, Nat.reduceMul, Nat.reduceSub, Nat.reduceLeDiff, Int.reduceToNat, Int.reducePow, Int.reduceLT, Int.reduceEq, Int.reduceNeg, Nat.reducePow, List.reduceReplicate, Int.reduceLE]
    exact Fin.same ⟨rfl, rfl⟩

end Go.Proofs.YtnoekcdmaaakfaaDoor.VL

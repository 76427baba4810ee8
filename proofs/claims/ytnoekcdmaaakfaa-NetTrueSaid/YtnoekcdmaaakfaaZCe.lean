/- The facts on the program's types that walks rewrite by (printed by gen_ty.py). -/
import Derived.Test.YtnoekcdmaaakfaaZCc
import Derived.Test.YtnoekcdmaaakfaaProg
import Derived.KernelRfl
import Derived.Test.YtnoekcdmaaakfaaZCd
set_option linter.unusedVariables false
namespace Go.Proofs.Ytnoekcdmaaakfaa.VL
open Go Go.RowKit Go.Lib
attribute [go_sem] Try.underlying1
@[go_sem] theorem ce1 : Try.prog.cellsOf 1 = 1 := by kernel_rfl
@[go_sem] theorem by1 : Try.prog.bytesOf 1 = 8 := by kernel_rfl
@[go_sem] theorem ag1 : isAg Try.prog 1 = false := by kernel_rfl
@[go_sem] theorem ze1 : zeroCs Try.prog 1 = some [.v .nilFunc] := by kernel_rfl
@[go_sem] theorem se1 : selfTy Try.prog 1 = false := by kernel_rfl
attribute [go_sem] Try.underlying2
@[go_sem] theorem ce2 : Try.prog.cellsOf 2 = 1 := by kernel_rfl
@[go_sem] theorem by2 : Try.prog.bytesOf 2 = 8 := by kernel_rfl
@[go_sem] theorem ag2 : isAg Try.prog 2 = false := by kernel_rfl
@[go_sem] theorem ze2 : zeroCs Try.prog 2 = some [.v (.int .i64 0)] := by kernel_rfl
@[go_sem] theorem se2 : selfTy Try.prog 2 = false := by kernel_rfl
attribute [go_sem] Try.underlying3
@[go_sem] theorem ce3 : Try.prog.cellsOf 3 = 1 := by kernel_rfl
@[go_sem] theorem by3 : Try.prog.bytesOf 3 = 8 := by kernel_rfl
@[go_sem] theorem ag3 : isAg Try.prog 3 = false := by kernel_rfl
@[go_sem] theorem ze3 : zeroCs Try.prog 3 = some [.v (.int .i64 0)] := by kernel_rfl
@[go_sem] theorem se3 : selfTy Try.prog 3 = false := by kernel_rfl
attribute [go_sem] Try.underlying4
@[go_sem] theorem ce4 : Try.prog.cellsOf 4 = 1 := by kernel_rfl
@[go_sem] theorem by4 : Try.prog.bytesOf 4 = 1 := by kernel_rfl
@[go_sem] theorem ag4 : isAg Try.prog 4 = false := by kernel_rfl
@[go_sem] theorem ze4 : zeroCs Try.prog 4 = some [.v (.bool false)] := by kernel_rfl
@[go_sem] theorem se4 : selfTy Try.prog 4 = false := by kernel_rfl
attribute [go_sem] Try.underlying5
@[go_sem] theorem ce5 : Try.prog.cellsOf 5 = 1 := by kernel_rfl
@[go_sem] theorem by5 : Try.prog.bytesOf 5 = 1 := by kernel_rfl
@[go_sem] theorem ag5 : isAg Try.prog 5 = false := by kernel_rfl
@[go_sem] theorem ze5 : zeroCs Try.prog 5 = some [.v (.int .u8 0)] := by kernel_rfl
@[go_sem] theorem se5 : selfTy Try.prog 5 = false := by kernel_rfl
attribute [go_sem] Try.underlying9
@[go_sem] theorem ce9 : Try.prog.cellsOf 9 = 1 := by kernel_rfl
@[go_sem] theorem by9 : Try.prog.bytesOf 9 = 16 := by kernel_rfl
@[go_sem] theorem ag9 : isAg Try.prog 9 = false := by kernel_rfl
@[go_sem] theorem ze9 : zeroCs Try.prog 9 = some [.v (.string { data := #[] })] := by kernel_rfl
@[go_sem] theorem se9 : selfTy Try.prog 9 = false := by kernel_rfl
attribute [go_sem] Try.underlying12
@[go_sem] theorem ce12 : Try.prog.cellsOf 12 = 1 := by kernel_rfl
@[go_sem] theorem by12 : Try.prog.bytesOf 12 = 8 := by kernel_rfl
@[go_sem] theorem ag12 : isAg Try.prog 12 = false := by kernel_rfl
@[go_sem] theorem ze12 : zeroCs Try.prog 12 = some [.v (.int .u64 0)] := by kernel_rfl
@[go_sem] theorem se12 : selfTy Try.prog 12 = false := by kernel_rfl
attribute [go_sem] Try.underlying13
@[go_sem] theorem ce13 : Try.prog.cellsOf 13 = 2 := by kernel_rfl
@[go_sem] theorem by13 : Try.prog.bytesOf 13 = 24 := by kernel_rfl
@[go_sem] theorem ag13 : isAg Try.prog 13 = true := by kernel_rfl
@[go_sem] theorem ze13 : zeroCs Try.prog 13 = some [.v (.string { data := #[] }), .v (.int .u64 0)] := by kernel_rfl
@[go_sem] theorem se13 : selfTy Try.prog 13 = false := by kernel_rfl
@[go_sem] theorem fi13_0 : fieldOf Try.prog 13 0 = some { name := "msg", type := 9, offset := 0, embedded := false, tag := "", pkgPath := "runtime", byteOffset := 0 } := by kernel_rfl
@[go_sem] theorem fi13_1 : fieldOf Try.prog 13 1 = some { name := "addr", type := 12, offset := 1, embedded := false, tag := "", pkgPath := "runtime", byteOffset := 16 } := by kernel_rfl
attribute [go_sem] Try.underlying21
@[go_sem] theorem ce21 : Try.prog.cellsOf 21 = 1 := by kernel_rfl
@[go_sem] theorem by21 : Try.prog.bytesOf 21 = 4 := by kernel_rfl
@[go_sem] theorem ag21 : isAg Try.prog 21 = false := by kernel_rfl
@[go_sem] theorem ze21 : zeroCs Try.prog 21 = some [.v (.int .i32 0)] := by kernel_rfl
@[go_sem] theorem se21 : selfTy Try.prog 21 = false := by kernel_rfl
attribute [go_sem] Try.underlying22
@[go_sem] theorem ce22 : Try.prog.cellsOf 22 = 1 := by kernel_rfl
@[go_sem] theorem by22 : Try.prog.bytesOf 22 = 24 := by kernel_rfl
@[go_sem] theorem ag22 : isAg Try.prog 22 = false := by kernel_rfl
@[go_sem] theorem el22 : elemTy Try.prog 22 = some 33 := by kernel_rfl
@[go_sem] theorem ze22 : zeroCs Try.prog 22 = some [.emp] := by kernel_rfl
@[go_sem] theorem se22 : selfTy Try.prog 22 = false := by kernel_rfl
attribute [go_sem] Try.underlying23
@[go_sem] theorem ce23 : Try.prog.cellsOf 23 = 1 := by kernel_rfl
@[go_sem] theorem by23 : Try.prog.bytesOf 23 = 8 := by kernel_rfl
@[go_sem] theorem ag23 : isAg Try.prog 23 = false := by kernel_rfl
@[go_sem] theorem ze23 : zeroCs Try.prog 23 = some [.v .nilFunc] := by kernel_rfl
@[go_sem] theorem se23 : selfTy Try.prog 23 = false := by kernel_rfl
attribute [go_sem] Try.underlying24
@[go_sem] theorem ce24 : Try.prog.cellsOf 24 = 1 := by kernel_rfl
@[go_sem] theorem by24 : Try.prog.bytesOf 24 = 8 := by kernel_rfl
@[go_sem] theorem ag24 : isAg Try.prog 24 = false := by kernel_rfl
@[go_sem] theorem ze24 : zeroCs Try.prog 24 = some [.v .nilFunc] := by kernel_rfl
@[go_sem] theorem se24 : selfTy Try.prog 24 = false := by kernel_rfl
attribute [go_sem] Try.underlying25
@[go_sem] theorem ce25 : Try.prog.cellsOf 25 = 1 := by kernel_rfl
@[go_sem] theorem by25 : Try.prog.bytesOf 25 = 24 := by kernel_rfl
@[go_sem] theorem ag25 : isAg Try.prog 25 = false := by kernel_rfl
@[go_sem] theorem el25 : elemTy Try.prog 25 = some 58 := by kernel_rfl
@[go_sem] theorem ze25 : zeroCs Try.prog 25 = some [.emp] := by kernel_rfl
@[go_sem] theorem se25 : selfTy Try.prog 25 = false := by kernel_rfl
attribute [go_sem] Try.underlying26
@[go_sem] theorem ce26 : Try.prog.cellsOf 26 = 2 := by kernel_rfl
@[go_sem] theorem by26 : Try.prog.bytesOf 26 = 48 := by kernel_rfl
@[go_sem] theorem ag26 : isAg Try.prog 26 = true := by kernel_rfl
@[go_sem] theorem ze26 : zeroCs Try.prog 26 = some [.emp, .emp] := by kernel_rfl
@[go_sem] theorem se26 : selfTy Try.prog 26 = false := by kernel_rfl
@[go_sem] theorem fi26_0 : fieldOf Try.prog 26 0 = some { name := "Flight", type := 22, offset := 0, embedded := false, tag := "", pkgPath := "", byteOffset := 0 } := by kernel_rfl
@[go_sem] theorem fi26_1 : fieldOf Try.prog 26 1 = some { name := "Cuts", type := 25, offset := 1, embedded := false, tag := "", pkgPath := "", byteOffset := 24 } := by kernel_rfl
attribute [go_sem] Try.underlying27
@[go_sem] theorem ce27 : Try.prog.cellsOf 27 = 2 := by kernel_rfl
@[go_sem] theorem by27 : Try.prog.bytesOf 27 = 48 := by kernel_rfl
@[go_sem] theorem ag27 : isAg Try.prog 27 = true := by kernel_rfl
@[go_sem] theorem ze27 : zeroCs Try.prog 27 = some [.emp, .emp] := by kernel_rfl
@[go_sem] theorem se27 : selfTy Try.prog 27 = false := by kernel_rfl
@[go_sem] theorem fi27_0 : fieldOf Try.prog 27 0 = some { name := "Flight", type := 22, offset := 0, embedded := false, tag := "", pkgPath := "", byteOffset := 0 } := by kernel_rfl
@[go_sem] theorem fi27_1 : fieldOf Try.prog 27 1 = some { name := "Cuts", type := 25, offset := 1, embedded := false, tag := "", pkgPath := "", byteOffset := 24 } := by kernel_rfl
attribute [go_sem] Try.underlying28
@[go_sem] theorem ce28 : Try.prog.cellsOf 28 = 1 := by kernel_rfl
@[go_sem] theorem by28 : Try.prog.bytesOf 28 = 8 := by kernel_rfl
@[go_sem] theorem ag28 : isAg Try.prog 28 = false := by kernel_rfl
@[go_sem] theorem ze28 : zeroCs Try.prog 28 = some [.v (.int .i64 0)] := by kernel_rfl
@[go_sem] theorem se28 : selfTy Try.prog 28 = false := by kernel_rfl
attribute [go_sem] Try.underlying30
@[go_sem] theorem ce30 : Try.prog.cellsOf 30 = 1 := by kernel_rfl
@[go_sem] theorem by30 : Try.prog.bytesOf 30 = 8 := by kernel_rfl
@[go_sem] theorem ag30 : isAg Try.prog 30 = false := by kernel_rfl
@[go_sem] theorem ze30 : zeroCs Try.prog 30 = some [.v .nilFunc] := by kernel_rfl
@[go_sem] theorem se30 : selfTy Try.prog 30 = false := by kernel_rfl
attribute [go_sem] Try.underlying31
@[go_sem] theorem ce31 : Try.prog.cellsOf 31 = 1 := by kernel_rfl
@[go_sem] theorem by31 : Try.prog.bytesOf 31 = 24 := by kernel_rfl
@[go_sem] theorem ag31 : isAg Try.prog 31 = false := by kernel_rfl
@[go_sem] theorem el31 : elemTy Try.prog 31 = some 5 := by kernel_rfl
@[go_sem] theorem ze31 : zeroCs Try.prog 31 = some [.emp] := by kernel_rfl
@[go_sem] theorem se31 : selfTy Try.prog 31 = false := by kernel_rfl
attribute [go_sem] Try.underlying32
@[go_sem] theorem ce32 : Try.prog.cellsOf 32 = 3 := by kernel_rfl
@[go_sem] theorem by32 : Try.prog.bytesOf 32 = 40 := by kernel_rfl
@[go_sem] theorem ag32 : isAg Try.prog 32 = true := by kernel_rfl
@[go_sem] theorem ze32 : zeroCs Try.prog 32 = some [.v (.int .i64 0), .v (.int .i64 0), .emp] := by kernel_rfl
@[go_sem] theorem se32 : selfTy Try.prog 32 = false := by kernel_rfl
@[go_sem] theorem fi32_0 : fieldOf Try.prog 32 0 = some { name := "From", type := 3, offset := 0, embedded := false, tag := "", pkgPath := "", byteOffset := 0 } := by kernel_rfl
@[go_sem] theorem fi32_1 : fieldOf Try.prog 32 1 = some { name := "To", type := 3, offset := 1, embedded := false, tag := "", pkgPath := "", byteOffset := 8 } := by kernel_rfl
@[go_sem] theorem fi32_2 : fieldOf Try.prog 32 2 = some { name := "Data", type := 31, offset := 2, embedded := false, tag := "", pkgPath := "", byteOffset := 16 } := by kernel_rfl
attribute [go_sem] Try.underlying33
@[go_sem] theorem ce33 : Try.prog.cellsOf 33 = 3 := by kernel_rfl
@[go_sem] theorem by33 : Try.prog.bytesOf 33 = 40 := by kernel_rfl
@[go_sem] theorem ag33 : isAg Try.prog 33 = true := by kernel_rfl
@[go_sem] theorem ze33 : zeroCs Try.prog 33 = some [.v (.int .i64 0), .v (.int .i64 0), .emp] := by kernel_rfl
@[go_sem] theorem se33 : selfTy Try.prog 33 = false := by kernel_rfl
@[go_sem] theorem fi33_0 : fieldOf Try.prog 33 0 = some { name := "From", type := 3, offset := 0, embedded := false, tag := "", pkgPath := "", byteOffset := 0 } := by kernel_rfl
@[go_sem] theorem fi33_1 : fieldOf Try.prog 33 1 = some { name := "To", type := 3, offset := 1, embedded := false, tag := "", pkgPath := "", byteOffset := 8 } := by kernel_rfl
@[go_sem] theorem fi33_2 : fieldOf Try.prog 33 2 = some { name := "Data", type := 31, offset := 2, embedded := false, tag := "", pkgPath := "", byteOffset := 16 } := by kernel_rfl
attribute [go_sem] Try.underlying35
@[go_sem] theorem ce35 : Try.prog.cellsOf 35 = 1 := by kernel_rfl
@[go_sem] theorem by35 : Try.prog.bytesOf 35 = 8 := by kernel_rfl
@[go_sem] theorem ag35 : isAg Try.prog 35 = false := by kernel_rfl
@[go_sem] theorem ze35 : zeroCs Try.prog 35 = some [.v .nilFunc] := by kernel_rfl
@[go_sem] theorem se35 : selfTy Try.prog 35 = false := by kernel_rfl
attribute [go_sem] Try.underlying36
@[go_sem] theorem ce36 : Try.prog.cellsOf 36 = 1 := by kernel_rfl
@[go_sem] theorem by36 : Try.prog.bytesOf 36 = 8 := by kernel_rfl
@[go_sem] theorem ag36 : isAg Try.prog 36 = false := by kernel_rfl
@[go_sem] theorem ze36 : zeroCs Try.prog 36 = some [.v .nilFunc] := by kernel_rfl
@[go_sem] theorem se36 : selfTy Try.prog 36 = false := by kernel_rfl
attribute [go_sem] Try.underlying37
@[go_sem] theorem ce37 : Try.prog.cellsOf 37 = 1 := by kernel_rfl
@[go_sem] theorem by37 : Try.prog.bytesOf 37 = 8 := by kernel_rfl
@[go_sem] theorem ag37 : isAg Try.prog 37 = false := by kernel_rfl
@[go_sem] theorem ze37 : zeroCs Try.prog 37 = some [.v .nilFunc] := by kernel_rfl
@[go_sem] theorem se37 : selfTy Try.prog 37 = false := by kernel_rfl
attribute [go_sem] Try.underlying38
@[go_sem] theorem ce38 : Try.prog.cellsOf 38 = 3 := by kernel_rfl
@[go_sem] theorem by38 : Try.prog.bytesOf 38 = 24 := by kernel_rfl
@[go_sem] theorem ag38 : isAg Try.prog 38 = true := by kernel_rfl
@[go_sem] theorem ar38 : arrTy Try.prog 38 = some (3, 3) := by kernel_rfl
@[go_sem] theorem ze38 : zeroCs Try.prog 38 = some [.v (.int .i64 0), .v (.int .i64 0), .v (.int .i64 0)] := by kernel_rfl
@[go_sem] theorem se38 : selfTy Try.prog 38 = false := by kernel_rfl
attribute [go_sem] Try.underlying39
@[go_sem] theorem ce39 : Try.prog.cellsOf 39 = 1 := by kernel_rfl
@[go_sem] theorem by39 : Try.prog.bytesOf 39 = 8 := by kernel_rfl
@[go_sem] theorem ag39 : isAg Try.prog 39 = false := by kernel_rfl
@[go_sem] theorem ze39 : zeroCs Try.prog 39 = some [.v .nilFunc] := by kernel_rfl
@[go_sem] theorem se39 : selfTy Try.prog 39 = false := by kernel_rfl
attribute [go_sem] Try.underlying41
@[go_sem] theorem ce41 : Try.prog.cellsOf 41 = 1 := by kernel_rfl
@[go_sem] theorem by41 : Try.prog.bytesOf 41 = 8 := by kernel_rfl
@[go_sem] theorem ag41 : isAg Try.prog 41 = false := by kernel_rfl
@[go_sem] theorem ze41 : zeroCs Try.prog 41 = some [.v .nilFunc] := by kernel_rfl
@[go_sem] theorem se41 : selfTy Try.prog 41 = false := by kernel_rfl
attribute [go_sem] Try.underlying42
@[go_sem] theorem ce42 : Try.prog.cellsOf 42 = 1 := by kernel_rfl
@[go_sem] theorem by42 : Try.prog.bytesOf 42 = 8 := by kernel_rfl
@[go_sem] theorem ag42 : isAg Try.prog 42 = false := by kernel_rfl
@[go_sem] theorem ze42 : zeroCs Try.prog 42 = some [.v .nilFunc] := by kernel_rfl
@[go_sem] theorem se42 : selfTy Try.prog 42 = false := by kernel_rfl
attribute [go_sem] Try.underlying43
@[go_sem] theorem ce43 : Try.prog.cellsOf 43 = 1 := by kernel_rfl
@[go_sem] theorem by43 : Try.prog.bytesOf 43 = 8 := by kernel_rfl
@[go_sem] theorem ag43 : isAg Try.prog 43 = false := by kernel_rfl
@[go_sem] theorem ze43 : zeroCs Try.prog 43 = some [.v .nilFunc] := by kernel_rfl
@[go_sem] theorem se43 : selfTy Try.prog 43 = false := by kernel_rfl
attribute [go_sem] Try.underlying44
@[go_sem] theorem ce44 : Try.prog.cellsOf 44 = 1 := by kernel_rfl
@[go_sem] theorem by44 : Try.prog.bytesOf 44 = 24 := by kernel_rfl
@[go_sem] theorem ag44 : isAg Try.prog 44 = false := by kernel_rfl
@[go_sem] theorem el44 : elemTy Try.prog 44 = some 46 := by kernel_rfl
@[go_sem] theorem ze44 : zeroCs Try.prog 44 = some [.emp] := by kernel_rfl
@[go_sem] theorem se44 : selfTy Try.prog 44 = false := by kernel_rfl
attribute [go_sem] Try.underlying45
@[go_sem] theorem ce45 : Try.prog.cellsOf 45 = 4 := by kernel_rfl
@[go_sem] theorem by45 : Try.prog.bytesOf 45 = 32 := by kernel_rfl
@[go_sem] theorem ag45 : isAg Try.prog 45 = true := by kernel_rfl
@[go_sem] theorem ze45 : zeroCs Try.prog 45 = some [.v (.int .u8 0), .v (.int .u8 0), .v (.int .u8 0), .emp] := by kernel_rfl
@[go_sem] theorem se45 : selfTy Try.prog 45 = false := by kernel_rfl
@[go_sem] theorem fi45_0 : fieldOf Try.prog 45 0 = some { name := "Kind", type := 5, offset := 0, embedded := false, tag := "", pkgPath := "", byteOffset := 0 } := by kernel_rfl
@[go_sem] theorem fi45_1 : fieldOf Try.prog 45 1 = some { name := "A", type := 5, offset := 1, embedded := false, tag := "", pkgPath := "", byteOffset := 1 } := by kernel_rfl
@[go_sem] theorem fi45_2 : fieldOf Try.prog 45 2 = some { name := "B", type := 5, offset := 2, embedded := false, tag := "", pkgPath := "", byteOffset := 2 } := by kernel_rfl
@[go_sem] theorem fi45_3 : fieldOf Try.prog 45 3 = some { name := "Data", type := 31, offset := 3, embedded := false, tag := "", pkgPath := "", byteOffset := 8 } := by kernel_rfl
attribute [go_sem] Try.underlying46
@[go_sem] theorem ce46 : Try.prog.cellsOf 46 = 4 := by kernel_rfl
@[go_sem] theorem by46 : Try.prog.bytesOf 46 = 32 := by kernel_rfl
@[go_sem] theorem ag46 : isAg Try.prog 46 = true := by kernel_rfl
@[go_sem] theorem ze46 : zeroCs Try.prog 46 = some [.v (.int .u8 0), .v (.int .u8 0), .v (.int .u8 0), .emp] := by kernel_rfl
@[go_sem] theorem se46 : selfTy Try.prog 46 = false := by kernel_rfl
@[go_sem] theorem fi46_0 : fieldOf Try.prog 46 0 = some { name := "Kind", type := 5, offset := 0, embedded := false, tag := "", pkgPath := "", byteOffset := 0 } := by kernel_rfl
@[go_sem] theorem fi46_1 : fieldOf Try.prog 46 1 = some { name := "A", type := 5, offset := 1, embedded := false, tag := "", pkgPath := "", byteOffset := 1 } := by kernel_rfl
@[go_sem] theorem fi46_2 : fieldOf Try.prog 46 2 = some { name := "B", type := 5, offset := 2, embedded := false, tag := "", pkgPath := "", byteOffset := 2 } := by kernel_rfl
@[go_sem] theorem fi46_3 : fieldOf Try.prog 46 3 = some { name := "Data", type := 31, offset := 3, embedded := false, tag := "", pkgPath := "", byteOffset := 8 } := by kernel_rfl
attribute [go_sem] Try.underlying47
@[go_sem] theorem ce47 : Try.prog.cellsOf 47 = 1 := by kernel_rfl
@[go_sem] theorem by47 : Try.prog.bytesOf 47 = 8 := by kernel_rfl
@[go_sem] theorem ag47 : isAg Try.prog 47 = false := by kernel_rfl
@[go_sem] theorem ze47 : zeroCs Try.prog 47 = some [.v .nilFunc] := by kernel_rfl
@[go_sem] theorem se47 : selfTy Try.prog 47 = false := by kernel_rfl
attribute [go_sem] Try.underlying48
@[go_sem] theorem ce48 : Try.prog.cellsOf 48 = 1 := by kernel_rfl
@[go_sem] theorem by48 : Try.prog.bytesOf 48 = 8 := by kernel_rfl
@[go_sem] theorem ag48 : isAg Try.prog 48 = false := by kernel_rfl
@[go_sem] theorem ze48 : zeroCs Try.prog 48 = some [.v .nilFunc] := by kernel_rfl
@[go_sem] theorem se48 : selfTy Try.prog 48 = false := by kernel_rfl
attribute [go_sem] Try.underlying49
@[go_sem] theorem ce49 : Try.prog.cellsOf 49 = 1 := by kernel_rfl
@[go_sem] theorem by49 : Try.prog.bytesOf 49 = 8 := by kernel_rfl
@[go_sem] theorem ag49 : isAg Try.prog 49 = false := by kernel_rfl
@[go_sem] theorem ze49 : zeroCs Try.prog 49 = some [.v .nilFunc] := by kernel_rfl
@[go_sem] theorem se49 : selfTy Try.prog 49 = false := by kernel_rfl
attribute [go_sem] Try.underlying50
@[go_sem] theorem ce50 : Try.prog.cellsOf 50 = 1 := by kernel_rfl
@[go_sem] theorem by50 : Try.prog.bytesOf 50 = 8 := by kernel_rfl
@[go_sem] theorem ag50 : isAg Try.prog 50 = false := by kernel_rfl
@[go_sem] theorem ze50 : zeroCs Try.prog 50 = some [.v .nilFunc] := by kernel_rfl
@[go_sem] theorem se50 : selfTy Try.prog 50 = false := by kernel_rfl
attribute [go_sem] Try.underlying51
@[go_sem] theorem ce51 : Try.prog.cellsOf 51 = 1 := by kernel_rfl
@[go_sem] theorem by51 : Try.prog.bytesOf 51 = 8 := by kernel_rfl
@[go_sem] theorem ag51 : isAg Try.prog 51 = false := by kernel_rfl
@[go_sem] theorem ze51 : zeroCs Try.prog 51 = some [.v .nilFunc] := by kernel_rfl
@[go_sem] theorem se51 : selfTy Try.prog 51 = false := by kernel_rfl
attribute [go_sem] Try.underlying52
@[go_sem] theorem ce52 : Try.prog.cellsOf 52 = 1 := by kernel_rfl
@[go_sem] theorem by52 : Try.prog.bytesOf 52 = 8 := by kernel_rfl
@[go_sem] theorem ag52 : isAg Try.prog 52 = false := by kernel_rfl
@[go_sem] theorem ze52 : zeroCs Try.prog 52 = some [.v .nilFunc] := by kernel_rfl
@[go_sem] theorem se52 : selfTy Try.prog 52 = false := by kernel_rfl
attribute [go_sem] Try.underlying53
@[go_sem] theorem ce53 : Try.prog.cellsOf 53 = 1 := by kernel_rfl
@[go_sem] theorem by53 : Try.prog.bytesOf 53 = 8 := by kernel_rfl
@[go_sem] theorem ag53 : isAg Try.prog 53 = false := by kernel_rfl
@[go_sem] theorem ze53 : zeroCs Try.prog 53 = some [.v .nilFunc] := by kernel_rfl
@[go_sem] theorem se53 : selfTy Try.prog 53 = false := by kernel_rfl
attribute [go_sem] Try.underlying54
@[go_sem] theorem ce54 : Try.prog.cellsOf 54 = 1 := by kernel_rfl
@[go_sem] theorem by54 : Try.prog.bytesOf 54 = 8 := by kernel_rfl
@[go_sem] theorem ag54 : isAg Try.prog 54 = false := by kernel_rfl
@[go_sem] theorem ze54 : zeroCs Try.prog 54 = some [.v .nilFunc] := by kernel_rfl
@[go_sem] theorem se54 : selfTy Try.prog 54 = false := by kernel_rfl
attribute [go_sem] Try.underlying55
@[go_sem] theorem ce55 : Try.prog.cellsOf 55 = 1 := by kernel_rfl
@[go_sem] theorem by55 : Try.prog.bytesOf 55 = 8 := by kernel_rfl
@[go_sem] theorem ag55 : isAg Try.prog 55 = false := by kernel_rfl
@[go_sem] theorem ze55 : zeroCs Try.prog 55 = some [.v .nilFunc] := by kernel_rfl
@[go_sem] theorem se55 : selfTy Try.prog 55 = false := by kernel_rfl
attribute [go_sem] Try.underlying56
@[go_sem] theorem ce56 : Try.prog.cellsOf 56 = 1 := by kernel_rfl
@[go_sem] theorem by56 : Try.prog.bytesOf 56 = 8 := by kernel_rfl
@[go_sem] theorem ag56 : isAg Try.prog 56 = false := by kernel_rfl
@[go_sem] theorem ze56 : zeroCs Try.prog 56 = some [.v .nilFunc] := by kernel_rfl
@[go_sem] theorem se56 : selfTy Try.prog 56 = false := by kernel_rfl
attribute [go_sem] Try.underlying57
@[go_sem] theorem ce57 : Try.prog.cellsOf 57 = 2 := by kernel_rfl
@[go_sem] theorem by57 : Try.prog.bytesOf 57 = 16 := by kernel_rfl
@[go_sem] theorem ag57 : isAg Try.prog 57 = true := by kernel_rfl
@[go_sem] theorem ze57 : zeroCs Try.prog 57 = some [.v (.int .i64 0), .v (.int .i64 0)] := by kernel_rfl
@[go_sem] theorem se57 : selfTy Try.prog 57 = false := by kernel_rfl
@[go_sem] theorem fi57_0 : fieldOf Try.prog 57 0 = some { name := "A", type := 3, offset := 0, embedded := false, tag := "", pkgPath := "", byteOffset := 0 } := by kernel_rfl
@[go_sem] theorem fi57_1 : fieldOf Try.prog 57 1 = some { name := "B", type := 3, offset := 1, embedded := false, tag := "", pkgPath := "", byteOffset := 8 } := by kernel_rfl
attribute [go_sem] Try.underlying58
@[go_sem] theorem ce58 : Try.prog.cellsOf 58 = 2 := by kernel_rfl
@[go_sem] theorem by58 : Try.prog.bytesOf 58 = 16 := by kernel_rfl
@[go_sem] theorem ag58 : isAg Try.prog 58 = true := by kernel_rfl
@[go_sem] theorem fl58 : flatTags Try.prog 58 = some [0, 0] := by kernel_rfl
@[go_sem] theorem ze58 : zeroCs Try.prog 58 = some [.v (.int .i64 0), .v (.int .i64 0)] := by kernel_rfl
@[go_sem] theorem se58 : selfTy Try.prog 58 = false := by kernel_rfl
@[go_sem] theorem fi58_0 : fieldOf Try.prog 58 0 = some { name := "A", type := 3, offset := 0, embedded := false, tag := "", pkgPath := "", byteOffset := 0 } := by kernel_rfl
@[go_sem] theorem fi58_1 : fieldOf Try.prog 58 1 = some { name := "B", type := 3, offset := 1, embedded := false, tag := "", pkgPath := "", byteOffset := 8 } := by kernel_rfl
attribute [go_sem] Try.underlying59
@[go_sem] theorem ce59 : Try.prog.cellsOf 59 = 1 := by kernel_rfl
@[go_sem] theorem by59 : Try.prog.bytesOf 59 = 8 := by kernel_rfl
@[go_sem] theorem ag59 : isAg Try.prog 59 = false := by kernel_rfl
@[go_sem] theorem ze59 : zeroCs Try.prog 59 = some [.v .nilFunc] := by kernel_rfl
@[go_sem] theorem se59 : selfTy Try.prog 59 = false := by kernel_rfl
attribute [go_sem] Try.underlying60
@[go_sem] theorem ce60 : Try.prog.cellsOf 60 = 1 := by kernel_rfl
@[go_sem] theorem by60 : Try.prog.bytesOf 60 = 8 := by kernel_rfl
@[go_sem] theorem ag60 : isAg Try.prog 60 = false := by kernel_rfl
@[go_sem] theorem ze60 : zeroCs Try.prog 60 = some [.v .nilFunc] := by kernel_rfl
@[go_sem] theorem se60 : selfTy Try.prog 60 = false := by kernel_rfl
attribute [go_sem] Try.underlying61
@[go_sem] theorem ce61 : Try.prog.cellsOf 61 = 1 := by kernel_rfl
@[go_sem] theorem by61 : Try.prog.bytesOf 61 = 8 := by kernel_rfl
@[go_sem] theorem ag61 : isAg Try.prog 61 = false := by kernel_rfl
@[go_sem] theorem ze61 : zeroCs Try.prog 61 = some [.v .nilFunc] := by kernel_rfl
@[go_sem] theorem se61 : selfTy Try.prog 61 = false := by kernel_rfl
attribute [go_sem] Try.underlying62
@[go_sem] theorem ce62 : Try.prog.cellsOf 62 = 1 := by kernel_rfl
@[go_sem] theorem by62 : Try.prog.bytesOf 62 = 8 := by kernel_rfl
@[go_sem] theorem ag62 : isAg Try.prog 62 = false := by kernel_rfl
@[go_sem] theorem ze62 : zeroCs Try.prog 62 = some [.v .nilFunc] := by kernel_rfl
@[go_sem] theorem se62 : selfTy Try.prog 62 = false := by kernel_rfl
attribute [go_sem] Try.underlying63
@[go_sem] theorem ce63 : Try.prog.cellsOf 63 = 1 := by kernel_rfl
@[go_sem] theorem by63 : Try.prog.bytesOf 63 = 8 := by kernel_rfl
@[go_sem] theorem ag63 : isAg Try.prog 63 = false := by kernel_rfl
@[go_sem] theorem ze63 : zeroCs Try.prog 63 = some [.v .nilFunc] := by kernel_rfl
@[go_sem] theorem se63 : selfTy Try.prog 63 = false := by kernel_rfl
attribute [go_sem] Try.underlying64
@[go_sem] theorem ce64 : Try.prog.cellsOf 64 = 1 := by kernel_rfl
@[go_sem] theorem by64 : Try.prog.bytesOf 64 = 8 := by kernel_rfl
@[go_sem] theorem ag64 : isAg Try.prog 64 = false := by kernel_rfl
@[go_sem] theorem ze64 : zeroCs Try.prog 64 = some [.v .nilFunc] := by kernel_rfl
@[go_sem] theorem se64 : selfTy Try.prog 64 = false := by kernel_rfl
attribute [go_sem] Try.underlying65
@[go_sem] theorem ce65 : Try.prog.cellsOf 65 = 1 := by kernel_rfl
@[go_sem] theorem by65 : Try.prog.bytesOf 65 = 8 := by kernel_rfl
@[go_sem] theorem ag65 : isAg Try.prog 65 = false := by kernel_rfl
@[go_sem] theorem ze65 : zeroCs Try.prog 65 = some [.v .nilFunc] := by kernel_rfl
@[go_sem] theorem se65 : selfTy Try.prog 65 = false := by kernel_rfl
attribute [go_sem] Try.underlying66
@[go_sem] theorem ce66 : Try.prog.cellsOf 66 = 1 := by kernel_rfl
@[go_sem] theorem by66 : Try.prog.bytesOf 66 = 8 := by kernel_rfl
@[go_sem] theorem ag66 : isAg Try.prog 66 = false := by kernel_rfl
@[go_sem] theorem ze66 : zeroCs Try.prog 66 = some [.v .nilFunc] := by kernel_rfl
@[go_sem] theorem se66 : selfTy Try.prog 66 = false := by kernel_rfl
attribute [go_sem] Try.underlying67
@[go_sem] theorem ce67 : Try.prog.cellsOf 67 = 1 := by kernel_rfl
@[go_sem] theorem by67 : Try.prog.bytesOf 67 = 8 := by kernel_rfl
@[go_sem] theorem ag67 : isAg Try.prog 67 = false := by kernel_rfl
@[go_sem] theorem ze67 : zeroCs Try.prog 67 = some [.v .nilFunc] := by kernel_rfl
@[go_sem] theorem se67 : selfTy Try.prog 67 = false := by kernel_rfl
attribute [go_sem] Try.underlying68
@[go_sem] theorem ce68 : Try.prog.cellsOf 68 = 1 := by kernel_rfl
@[go_sem] theorem by68 : Try.prog.bytesOf 68 = 8 := by kernel_rfl
@[go_sem] theorem ag68 : isAg Try.prog 68 = false := by kernel_rfl
@[go_sem] theorem ze68 : zeroCs Try.prog 68 = some [.v .nilFunc] := by kernel_rfl
@[go_sem] theorem se68 : selfTy Try.prog 68 = false := by kernel_rfl
attribute [go_sem] Try.underlying69
@[go_sem] theorem ce69 : Try.prog.cellsOf 69 = 1 := by kernel_rfl
@[go_sem] theorem by69 : Try.prog.bytesOf 69 = 8 := by kernel_rfl
@[go_sem] theorem ag69 : isAg Try.prog 69 = false := by kernel_rfl
@[go_sem] theorem ze69 : zeroCs Try.prog 69 = some [.v .nilFunc] := by kernel_rfl
@[go_sem] theorem se69 : selfTy Try.prog 69 = false := by kernel_rfl
attribute [go_sem] Try.underlying70
@[go_sem] theorem ce70 : Try.prog.cellsOf 70 = 1 := by kernel_rfl
@[go_sem] theorem by70 : Try.prog.bytesOf 70 = 8 := by kernel_rfl
@[go_sem] theorem ag70 : isAg Try.prog 70 = false := by kernel_rfl
@[go_sem] theorem ze70 : zeroCs Try.prog 70 = some [.v .nilFunc] := by kernel_rfl
@[go_sem] theorem se70 : selfTy Try.prog 70 = false := by kernel_rfl
attribute [go_sem] Try.underlying71
@[go_sem] theorem ce71 : Try.prog.cellsOf 71 = 1 := by kernel_rfl
@[go_sem] theorem by71 : Try.prog.bytesOf 71 = 8 := by kernel_rfl
@[go_sem] theorem ag71 : isAg Try.prog 71 = false := by kernel_rfl
@[go_sem] theorem ze71 : zeroCs Try.prog 71 = some [.v .nilFunc] := by kernel_rfl
@[go_sem] theorem se71 : selfTy Try.prog 71 = false := by kernel_rfl
attribute [go_sem] Try.underlying72
@[go_sem] theorem ce72 : Try.prog.cellsOf 72 = 1 := by kernel_rfl
@[go_sem] theorem by72 : Try.prog.bytesOf 72 = 8 := by kernel_rfl
@[go_sem] theorem ag72 : isAg Try.prog 72 = false := by kernel_rfl
@[go_sem] theorem ze72 : zeroCs Try.prog 72 = some [.v .nilFunc] := by kernel_rfl
@[go_sem] theorem se72 : selfTy Try.prog 72 = false := by kernel_rfl
attribute [go_sem] Try.underlying73
@[go_sem] theorem ce73 : Try.prog.cellsOf 73 = 1 := by kernel_rfl
@[go_sem] theorem by73 : Try.prog.bytesOf 73 = 8 := by kernel_rfl
@[go_sem] theorem ag73 : isAg Try.prog 73 = false := by kernel_rfl
@[go_sem] theorem ze73 : zeroCs Try.prog 73 = some [.v .nilFunc] := by kernel_rfl
@[go_sem] theorem se73 : selfTy Try.prog 73 = false := by kernel_rfl
attribute [go_sem] Try.underlying74
@[go_sem] theorem ce74 : Try.prog.cellsOf 74 = 1 := by kernel_rfl
@[go_sem] theorem by74 : Try.prog.bytesOf 74 = 8 := by kernel_rfl
@[go_sem] theorem ag74 : isAg Try.prog 74 = false := by kernel_rfl
@[go_sem] theorem ze74 : zeroCs Try.prog 74 = some [.v (.int .u64 0)] := by kernel_rfl
@[go_sem] theorem se74 : selfTy Try.prog 74 = false := by kernel_rfl
attribute [go_sem] Try.underlying75
@[go_sem] theorem ce75 : Try.prog.cellsOf 75 = 1 := by kernel_rfl
@[go_sem] theorem by75 : Try.prog.bytesOf 75 = 8 := by kernel_rfl
@[go_sem] theorem ag75 : isAg Try.prog 75 = false := by kernel_rfl
@[go_sem] theorem ze75 : zeroCs Try.prog 75 = some [.v .nilFunc] := by kernel_rfl
@[go_sem] theorem se75 : selfTy Try.prog 75 = false := by kernel_rfl
attribute [go_sem] Try.underlying76
@[go_sem] theorem ce76 : Try.prog.cellsOf 76 = 1 := by kernel_rfl
@[go_sem] theorem by76 : Try.prog.bytesOf 76 = 8 := by kernel_rfl
@[go_sem] theorem ag76 : isAg Try.prog 76 = false := by kernel_rfl
@[go_sem] theorem ze76 : zeroCs Try.prog 76 = some [.v .nilFunc] := by kernel_rfl
@[go_sem] theorem se76 : selfTy Try.prog 76 = false := by kernel_rfl
attribute [go_sem] Try.underlying77
@[go_sem] theorem ce77 : Try.prog.cellsOf 77 = 1 := by kernel_rfl
@[go_sem] theorem by77 : Try.prog.bytesOf 77 = 8 := by kernel_rfl
@[go_sem] theorem ag77 : isAg Try.prog 77 = false := by kernel_rfl
@[go_sem] theorem ze77 : zeroCs Try.prog 77 = some [.v .nilFunc] := by kernel_rfl
@[go_sem] theorem se77 : selfTy Try.prog 77 = false := by kernel_rfl
attribute [go_sem] Try.underlying78
@[go_sem] theorem ce78 : Try.prog.cellsOf 78 = 1 := by kernel_rfl
@[go_sem] theorem by78 : Try.prog.bytesOf 78 = 8 := by kernel_rfl
@[go_sem] theorem ag78 : isAg Try.prog 78 = false := by kernel_rfl
@[go_sem] theorem ze78 : zeroCs Try.prog 78 = some [.v (.int .i64 0)] := by kernel_rfl
@[go_sem] theorem se78 : selfTy Try.prog 78 = false := by kernel_rfl
attribute [go_sem] Try.underlying80
@[go_sem] theorem ce80 : Try.prog.cellsOf 80 = 1 := by kernel_rfl
@[go_sem] theorem by80 : Try.prog.bytesOf 80 = 8 := by kernel_rfl
@[go_sem] theorem ag80 : isAg Try.prog 80 = false := by kernel_rfl
@[go_sem] theorem ze80 : zeroCs Try.prog 80 = some [.v .nilFunc] := by kernel_rfl
@[go_sem] theorem se80 : selfTy Try.prog 80 = false := by kernel_rfl
attribute [go_sem] Try.underlying81
@[go_sem] theorem ce81 : Try.prog.cellsOf 81 = 1 := by kernel_rfl
@[go_sem] theorem by81 : Try.prog.bytesOf 81 = 8 := by kernel_rfl
@[go_sem] theorem ag81 : isAg Try.prog 81 = false := by kernel_rfl
@[go_sem] theorem ze81 : zeroCs Try.prog 81 = some [.v .nilFunc] := by kernel_rfl
@[go_sem] theorem se81 : selfTy Try.prog 81 = false := by kernel_rfl
attribute [go_sem] Try.underlying82
@[go_sem] theorem ce82 : Try.prog.cellsOf 82 = 1 := by kernel_rfl
@[go_sem] theorem by82 : Try.prog.bytesOf 82 = 8 := by kernel_rfl
@[go_sem] theorem ag82 : isAg Try.prog 82 = false := by kernel_rfl
@[go_sem] theorem ze82 : zeroCs Try.prog 82 = some [.v .nilFunc] := by kernel_rfl
@[go_sem] theorem se82 : selfTy Try.prog 82 = false := by kernel_rfl
attribute [go_sem] Try.underlying84
@[go_sem] theorem ce84 : Try.prog.cellsOf 84 = 1 := by kernel_rfl
@[go_sem] theorem by84 : Try.prog.bytesOf 84 = 8 := by kernel_rfl
@[go_sem] theorem ag84 : isAg Try.prog 84 = false := by kernel_rfl
@[go_sem] theorem ze84 : zeroCs Try.prog 84 = some [.v .nilFunc] := by kernel_rfl
@[go_sem] theorem se84 : selfTy Try.prog 84 = false := by kernel_rfl
attribute [go_sem] Try.underlying85
@[go_sem] theorem ce85 : Try.prog.cellsOf 85 = 1 := by kernel_rfl
@[go_sem] theorem by85 : Try.prog.bytesOf 85 = 8 := by kernel_rfl
@[go_sem] theorem ag85 : isAg Try.prog 85 = false := by kernel_rfl
@[go_sem] theorem ze85 : zeroCs Try.prog 85 = some [.v .nilFunc] := by kernel_rfl
@[go_sem] theorem se85 : selfTy Try.prog 85 = false := by kernel_rfl
attribute [go_sem] Try.underlying86
@[go_sem] theorem ce86 : Try.prog.cellsOf 86 = 1 := by kernel_rfl
@[go_sem] theorem by86 : Try.prog.bytesOf 86 = 4 := by kernel_rfl
@[go_sem] theorem ag86 : isAg Try.prog 86 = false := by kernel_rfl
@[go_sem] theorem ze86 : zeroCs Try.prog 86 = some [.v (.int .u32 0)] := by kernel_rfl
@[go_sem] theorem se86 : selfTy Try.prog 86 = false := by kernel_rfl
attribute [go_sem] Try.underlying87
@[go_sem] theorem ce87 : Try.prog.cellsOf 87 = 1 := by kernel_rfl
@[go_sem] theorem by87 : Try.prog.bytesOf 87 = 8 := by kernel_rfl
@[go_sem] theorem ag87 : isAg Try.prog 87 = false := by kernel_rfl
@[go_sem] theorem ze87 : zeroCs Try.prog 87 = some [.v .nilFunc] := by kernel_rfl
@[go_sem] theorem se87 : selfTy Try.prog 87 = false := by kernel_rfl
attribute [go_sem] Try.underlying88
@[go_sem] theorem ce88 : Try.prog.cellsOf 88 = 1 := by kernel_rfl
@[go_sem] theorem by88 : Try.prog.bytesOf 88 = 8 := by kernel_rfl
@[go_sem] theorem ag88 : isAg Try.prog 88 = false := by kernel_rfl
@[go_sem] theorem ze88 : zeroCs Try.prog 88 = some [.v (.int .u64 0)] := by kernel_rfl
@[go_sem] theorem se88 : selfTy Try.prog 88 = false := by kernel_rfl
attribute [go_sem] Try.underlying89
@[go_sem] theorem ce89 : Try.prog.cellsOf 89 = 1 := by kernel_rfl
@[go_sem] theorem by89 : Try.prog.bytesOf 89 = 24 := by kernel_rfl
@[go_sem] theorem ag89 : isAg Try.prog 89 = false := by kernel_rfl
@[go_sem] theorem el89 : elemTy Try.prog 89 = some 3 := by kernel_rfl
@[go_sem] theorem ze89 : zeroCs Try.prog 89 = some [.emp] := by kernel_rfl
@[go_sem] theorem se89 : selfTy Try.prog 89 = false := by kernel_rfl
attribute [go_sem] Try.underlying90
@[go_sem] theorem ce90 : Try.prog.cellsOf 90 = 1 := by kernel_rfl
@[go_sem] theorem by90 : Try.prog.bytesOf 90 = 8 := by kernel_rfl
@[go_sem] theorem ag90 : isAg Try.prog 90 = false := by kernel_rfl
@[go_sem] theorem ze90 : zeroCs Try.prog 90 = some [.v (.int .u64 0)] := by kernel_rfl
@[go_sem] theorem se90 : selfTy Try.prog 90 = false := by kernel_rfl
attribute [go_sem] Try.underlying91
@[go_sem] theorem ce91 : Try.prog.cellsOf 91 = 1 := by kernel_rfl
@[go_sem] theorem by91 : Try.prog.bytesOf 91 = 8 := by kernel_rfl
@[go_sem] theorem ag91 : isAg Try.prog 91 = false := by kernel_rfl
@[go_sem] theorem ze91 : zeroCs Try.prog 91 = some [.v .nilFunc] := by kernel_rfl
@[go_sem] theorem se91 : selfTy Try.prog 91 = false := by kernel_rfl
attribute [go_sem] Try.underlying92
@[go_sem] theorem ce92 : Try.prog.cellsOf 92 = 1 := by kernel_rfl
@[go_sem] theorem by92 : Try.prog.bytesOf 92 = 8 := by kernel_rfl
@[go_sem] theorem ag92 : isAg Try.prog 92 = false := by kernel_rfl
@[go_sem] theorem ze92 : zeroCs Try.prog 92 = some [.v .nilFunc] := by kernel_rfl
@[go_sem] theorem se92 : selfTy Try.prog 92 = false := by kernel_rfl
attribute [go_sem] Try.underlying93
@[go_sem] theorem ce93 : Try.prog.cellsOf 93 = 1 := by kernel_rfl
@[go_sem] theorem by93 : Try.prog.bytesOf 93 = 8 := by kernel_rfl
@[go_sem] theorem ag93 : isAg Try.prog 93 = false := by kernel_rfl
@[go_sem] theorem ze93 : zeroCs Try.prog 93 = some [.v .nilFunc] := by kernel_rfl
@[go_sem] theorem se93 : selfTy Try.prog 93 = false := by kernel_rfl
attribute [go_sem] Try.underlying94
@[go_sem] theorem ce94 : Try.prog.cellsOf 94 = 1 := by kernel_rfl
@[go_sem] theorem by94 : Try.prog.bytesOf 94 = 8 := by kernel_rfl
@[go_sem] theorem ag94 : isAg Try.prog 94 = false := by kernel_rfl
@[go_sem] theorem ze94 : zeroCs Try.prog 94 = some [.v (.pointer none)] := by kernel_rfl
@[go_sem] theorem se94 : selfTy Try.prog 94 = false := by kernel_rfl
attribute [go_sem] Try.underlying95
@[go_sem] theorem ce95 : Try.prog.cellsOf 95 = 1 := by kernel_rfl
@[go_sem] theorem by95 : Try.prog.bytesOf 95 = 8 := by kernel_rfl
@[go_sem] theorem ag95 : isAg Try.prog 95 = false := by kernel_rfl
@[go_sem] theorem ze95 : zeroCs Try.prog 95 = some [.v .nilFunc] := by kernel_rfl
@[go_sem] theorem se95 : selfTy Try.prog 95 = false := by kernel_rfl
attribute [go_sem] Try.underlying96
@[go_sem] theorem ce96 : Try.prog.cellsOf 96 = 1 := by kernel_rfl
@[go_sem] theorem by96 : Try.prog.bytesOf 96 = 8 := by kernel_rfl
@[go_sem] theorem ag96 : isAg Try.prog 96 = false := by kernel_rfl
@[go_sem] theorem ze96 : zeroCs Try.prog 96 = some [.v (.pointer none)] := by kernel_rfl
@[go_sem] theorem se96 : selfTy Try.prog 96 = false := by kernel_rfl
attribute [go_sem] Try.underlying98
@[go_sem] theorem ce98 : Try.prog.cellsOf 98 = 1 := by kernel_rfl
@[go_sem] theorem by98 : Try.prog.bytesOf 98 = 8 := by kernel_rfl
@[go_sem] theorem ag98 : isAg Try.prog 98 = false := by kernel_rfl
@[go_sem] theorem ze98 : zeroCs Try.prog 98 = some [.v .nilFunc] := by kernel_rfl
@[go_sem] theorem se98 : selfTy Try.prog 98 = false := by kernel_rfl
attribute [go_sem] Try.underlying99
@[go_sem] theorem ce99 : Try.prog.cellsOf 99 = 1 := by kernel_rfl
@[go_sem] theorem by99 : Try.prog.bytesOf 99 = 8 := by kernel_rfl
@[go_sem] theorem ag99 : isAg Try.prog 99 = false := by kernel_rfl
@[go_sem] theorem ze99 : zeroCs Try.prog 99 = some [.v .nilFunc] := by kernel_rfl
@[go_sem] theorem se99 : selfTy Try.prog 99 = false := by kernel_rfl
attribute [go_sem] Try.underlying105
@[go_sem] theorem ce105 : Try.prog.cellsOf 105 = 1 := by kernel_rfl
@[go_sem] theorem by105 : Try.prog.bytesOf 105 = 8 := by kernel_rfl
@[go_sem] theorem ag105 : isAg Try.prog 105 = false := by kernel_rfl
@[go_sem] theorem ze105 : zeroCs Try.prog 105 = some [.v .nilFunc] := by kernel_rfl
@[go_sem] theorem se105 : selfTy Try.prog 105 = false := by kernel_rfl
attribute [go_sem] Try.underlying109
@[go_sem] theorem ce109 : Try.prog.cellsOf 109 = 1 := by kernel_rfl
@[go_sem] theorem by109 : Try.prog.bytesOf 109 = 8 := by kernel_rfl
@[go_sem] theorem ag109 : isAg Try.prog 109 = false := by kernel_rfl
@[go_sem] theorem ze109 : zeroCs Try.prog 109 = some [.v (.pointer none)] := by kernel_rfl
@[go_sem] theorem se109 : selfTy Try.prog 109 = false := by kernel_rfl
attribute [go_sem] fieldsKnown
end Go.Proofs.Ytnoekcdmaaakfaa.VL

/- Layer 1: numbers as bytes, in plain lists. -/
set_option linter.unusedVariables false
set_option linter.unusedSimpArgs false
namespace Go.Proofs.Ytnoekcdmaaakfaa.VL
open Go Go.RowKit Go.Lib

/-- A number's bytes: seven bits each, the lowest first; all but the last one have 128 more. -/
def nb (n : Nat) : List UInt8 := if n < 128 then [UInt8.ofNat n] else UInt8.ofNat (n % 128 + 128) :: nb (n / 128)
termination_by n
decreasing_by omega
theorem nb_small {n : Nat} (h : n < 128) : nb n = [UInt8.ofNat n] := by rw [nb, if_pos h]
theorem nb_big {n : Nat} (h : 128 ≤ n) : nb n = UInt8.ofNat (n % 128 + 128) :: nb (n / 128) := by rw [nb, if_neg (by omega)]
theorem nb_pos (n : Nat) : 0 < (nb n).length := by rw [nb]; split <;> simp
def okNum (n : Int) : Bool := decide (0 ≤ n ∧ n ≤ 4611686018427387904)
/-- What is laid of a number: nothing, if it is none. -/
def numB (n : Int) : List UInt8 := if okNum n then nb n.toNat else []
def numsB (l : List Int) : List UInt8 := l.flatMap numB

theorem nb_length_le (k : Nat) : ∀ n, n < 128 ^ k → 0 < k → (nb n).length ≤ k := by
  induction k with
  | zero => intro n _ h; omega
  | succ k ih =>
    intro n h _
    by_cases hn : n < 128
    · rw [nb_small hn]; simp
    · rw [nb_big (by omega)]
      have hk : 0 < k := by
        rcases Nat.eq_zero_or_pos k with h0 | h0
        · subst h0; simp at h; omega
        · exact h0
      have := ih (n / 128) (by rw [Nat.pow_succ] at h; omega) hk
      simp; omega
theorem numB_length_le (n : Int) : (numB n).length ≤ 9 := by
  unfold numB
  split
  · rename_i h
    simp only [okNum, decide_eq_true_eq] at h
    refine nb_length_le 9 _ ?_ (by omega)
    have : (128 : Nat) ^ 9 = 9223372036854775808 := by decide
    omega
  · simp

/-- How many bits a number has. -/
def blen (n : Nat) : Nat := if n = 0 then 0 else Nat.log2 n + 1
theorem blen_zero : blen 0 = 0 := rfl
theorem blen_half {n : Nat} (h : 0 < n) : blen n = blen (n / 2) + 1 := by
  unfold blen
  rw [if_neg (by omega)]
  by_cases h1 : n = 1
  · subst h1; decide
  · rw [if_neg (by omega), Nat.log2_def]
    rw [if_pos (by omega)]
theorem blen_shift (k : Nat) : ∀ n, 2 ^ k ≤ n → blen n = blen (n / 2 ^ k) + k := by
  induction k with
  | zero => intro n _; simp
  | succ k ih =>
    intro n h
    have hp : 0 < 2 ^ k := Nat.two_pow_pos k
    rw [Nat.pow_succ] at h
    rw [blen_half (by omega), ih (n / 2) (by omega), Nat.div_div_eq_div_mul, Nat.pow_succ, Nat.mul_comm 2]
    omega
theorem nb_length (n : Nat) : (nb n).length = max 1 ((blen n + 6) / 7) := by
  induction n using Nat.strongRecOn with
  | _ n ih =>
    by_cases h : n < 128
    · rw [nb_small h]
      have : ∀ m, m < 128 → max 1 ((blen m + 6) / 7) = 1 := by decide
      rw [this n h]; rfl
    · have h2 := blen_shift 7 n (by omega)
      have := ih (n / 128) (by omega)
      rw [nb_big (by omega), List.length_cons, this, h2]
      have hb : 0 < blen (n / 2 ^ 7) := by unfold blen; split <;> omega
      have e : (2 : Nat) ^ 7 = 128 := rfl
      rw [e] at hb ⊢
      omega
theorem blen_or_one (n : Nat) : blen (n ||| 1) = max 1 (blen n) := by
  have hd : (n ||| 1) / 2 = n / 2 := by
    have := Nat.or_div_two (a := n) (b := 1)
    simpa using this
  have hp : 0 < n ||| 1 := by
    have := Nat.right_le_or (n := n) (m := 1)
    omega
  rw [blen_half hp, hd]
  rcases Nat.eq_zero_or_pos n with h | h
  · subst h; decide
  · rw [blen_half h]; omega

end Go.Proofs.Ytnoekcdmaaakfaa.VL

/- Layer 1: what the reference's and the program's functions on numbers' and texts' bytes compute. -/
-- STEPWISE
set_option linter.unusedVariables false
set_option linter.unusedSimpArgs false
set_option maxRecDepth 10000
namespace Go.Proofs.Ytnoekcdmaaakfaa.VL
open Go Go.RowKit Go.Lib

/-- A call answers just this, and leaves the boxes as they were. -/
abbrev Gives (r : AV) (H : List Box) : Out → List Box → Prop := fun o H' => o = .ret r ∧ H' = H
abbrev vi (n : Int) : AV := .v (.int .i64 n)
abbrev vb (b : Bool) : AV := .v (.bool b)
abbrev vs (bs : List UInt8) : AV := .v (.string ⟨bs.toArray⟩)
abbrev vB (bs : List UInt8) : AV := .lst 1 (bytesG bs)
/-- A new row of bytes, one's own. -/
abbrev Owns (bs : List UInt8) (H : List Box) : Out → List Box → Prop := fun o H' => o = .ret (.sl H.length 0 0 bs.length 1 false) ∧ H' = H ++ [⟨bytesC bs, 0, 0, true⟩]

theorem len8_get : ∀ i, i < 256 → ((([0, 1, 2, 2, 3, 3, 3, 3, 4, 4, 4, 4, 4, 4, 4, 4, 5, 5, 5, 5, 5, 5, 5, 5, 5, 5, 5, 5, 5, 5, 5, 5, 6, 6, 6, 6, 6, 6, 6, 6, 6, 6, 6, 6, 6, 6, 6, 6, 6, 6, 6, 6, 6, 6, 6, 6, 6, 6, 6, 6, 6, 6, 6, 6] : List UInt8).append [7, 7, 7, 7, 7, 7, 7, 7, 7, 7, 7, 7, 7, 7, 7, 7, 7, 7, 7, 7, 7, 7, 7, 7, 7, 7, 7, 7, 7, 7, 7, 7, 7, 7, 7, 7, 7, 7, 7, 7, 7, 7, 7, 7, 7, 7, 7, 7, 7, 7, 7, 7, 7, 7, 7, 7, 7, 7, 7, 7, 7, 7, 7, 7]).append (([8, 8, 8, 8, 8, 8, 8, 8, 8, 8, 8, 8, 8, 8, 8, 8, 8, 8, 8, 8, 8, 8, 8, 8, 8, 8, 8, 8, 8, 8, 8, 8, 8, 8, 8, 8, 8, 8, 8, 8, 8, 8, 8, 8, 8, 8, 8, 8, 8, 8, 8, 8, 8, 8, 8, 8, 8, 8, 8, 8, 8, 8, 8, 8] : List UInt8).append [8, 8, 8, 8, 8, 8, 8, 8, 8, 8, 8, 8, 8, 8, 8, 8, 8, 8, 8, 8, 8, 8, 8, 8, 8, 8, 8, 8, 8, 8, 8, 8, 8, 8, 8, 8, 8, 8, 8, 8, 8, 8, 8, 8, 8, 8, 8, 8, 8, 8, 8, 8, 8, 8, 8, 8, 8, 8, 8, 8, 8, 8, 8, 8]))[i]? = some (UInt8.ofNat (blen i)) := by decide
theorem blen_small : ∀ i, i < 256 → blen i ≤ 8 := by decide
theorem u8_small (i : Nat) (h : i < 256) : ((UInt8.ofNat (blen i)).toNat : Int) = blen i := by
  have := blen_small i h
  simp [UInt8.toNat_ofNat']
  omega
theorem len_key (n k p m : Nat) (hp : p = 2 ^ k) (h1 : n / p = m) (h3 : k = 0 ∨ p ≤ n) : (k : Int) + (blen m : Int) = blen n := by
  subst h1; subst hp
  rcases h3 with rfl | h3
  · simp
  · rw [blen_shift k n h3]; omega
set_option maxHeartbeats 1000000 in
theorem len64_spec (n : Nat) (hn : n < 18446744073709551616) (H : List Box) : ASpec Try.prog 64 [.v (.int .u64 n)] H (Gives (vi (blen n)) H) := by
  by_cases h256 : n < 256
  · have hb := blen_small n h256
    intro base
    refine acall_body Try.func64 rfl (fun a w => Try.call64 a w) Try.ntmps64 Try.results64 (by simp) ?_
    intro w β hI
    simp only [number]
    repeat' (first
      | (refine AWP.seq ?_)
      | (refine AWP.block ?_)
      | (refine AWP.region_k fun Q' hQ' => ?_)
      | (refine AWP.draw_k rfl (by kernel_rfl) fun Q' hQ' => ?_)
      | (with_reducible refine aops.step fun T hT => ?_; simp (disch := omega) only [go_sem, Nat.reduceBEq, Nat.reduceLT, Nat.reduceEqDiff, reduceIte, Nat.reduceAdd, Nat.reduceMul, Nat.reduceSub, Nat.reduceLeDiff, Int.reduceToNat, Int.reducePow, Int.reduceLT, Int.reduceEq, Int.reduceNeg, Nat.reducePow, List.reduceReplicate, Int.reduceLE])
      | (with_reducible refine qops.step fun T hT => ?_; simp (disch := omega) only [go_sem, Nat.reduceBEq, Nat.reduceLT, Nat.reduceEqDiff, reduceIte, Nat.reduceAdd, Nat.reduceMul, Nat.reduceSub, Nat.reduceLeDiff, Int.reduceToNat, Int.reducePow, Int.reduceLT, Int.reduceEq, Int.reduceNeg, Nat.reducePow, List.reduceReplicate, Int.reduceLE])
      | (with_reducible refine aops.nil ?_)
      | (with_reducible refine qops.nil ?_)
      | (with_reducible refine hT _ ?_; clear hT T)
      | (refine AWP.skip ?_; try simp only [AExit.then, AExit.inBlock, reduceIte, Nat.reduceEqDiff])
      | (refine AWP.exit ?_; try simp only [AExit.then, AExit.inBlock, reduceIte, Nat.reduceEqDiff])
      | (refine AWP.ret ?_; try simp only [AExit.then, AExit.inBlock, reduceIte, Nat.reduceEqDiff])
      | (refine AWP.cond rfl (fun h => ?_) (fun h => ?_) <;> (try simp only [decide_eq_true_eq, decide_eq_false_iff_not, Bool.true_eq_false, Bool.false_eq_true] at h) <;> (try contradiction))
      | (refine hQ' _ _ ?_; clear hQ' Q'; try simp only [AExit.then, AExit.inBlock, reduceIte, Nat.reduceEqDiff])
      | (refine hQ' _ ?_; clear hQ' Q'; try simp only [AExit.then, AExit.inBlock, reduceIte, Nat.reduceEqDiff])
      | (with_reducible refine Branch.split (fun h => ?_) (fun h => ?_) <;> (try simp only [decide_eq_true_eq, decide_eq_false_iff_not, Bool.not_true, Bool.not_false, Bool.true_eq_false, Bool.false_eq_true] at h) <;> (try contradiction) <;> (simp (disch := omega) only [go_sem, Nat.reduceBEq, Nat.reduceLT, Nat.reduceEqDiff, reduceIte, Nat.reduceAdd, Nat.reduceMul, Nat.reduceSub, Nat.reduceLeDiff, Int.reduceToNat, Int.reducePow, Int.reduceLT, Int.reduceEq, Int.reduceNeg, Nat.reducePow, List.reduceReplicate, Int.reduceLE, h]))
      | (with_reducible intro h; try simp only [h, go_sem, Nat.reduceBEq, Nat.reduceLT, Nat.reduceEqDiff, reduceIte, Nat.reduceAdd, Nat.reduceMul, Nat.reduceSub, Nat.reduceLeDiff, Int.reduceToNat, Int.reducePow, Int.reduceLT, Int.reduceEq, Int.reduceNeg, Nat.reducePow, List.reduceReplicate, Int.reduceLE]))
    all_goals first
      | (exfalso; omega)
      | (rw [len8_get n h256]
         simp (disch := omega) only [go_sem, Nat.reduceBEq, Nat.reduceLT, Nat.reduceEqDiff, reduceIte, Nat.reduceAdd, Nat.reduceMul, Nat.reduceSub, Nat.reduceLeDiff, Int.reduceToNat, Int.reducePow, Int.reduceLT, Int.reduceEq, Int.reduceNeg, Nat.reducePow, List.reduceReplicate, Int.reduceLE, u8_small n h256]
         repeat' (first
           | (refine AWP.seq ?_)
           | (refine AWP.block ?_)
           | (refine AWP.region_k fun Q' hQ' => ?_)
           | (refine AWP.draw_k rfl (by kernel_rfl) fun Q' hQ' => ?_)
           | (with_reducible refine aops.step fun T hT => ?_; simp (disch := omega) only [go_sem, Nat.reduceBEq, Nat.reduceLT, Nat.reduceEqDiff, reduceIte, Nat.reduceAdd, Nat.reduceMul, Nat.reduceSub, Nat.reduceLeDiff, Int.reduceToNat, Int.reducePow, Int.reduceLT, Int.reduceEq, Int.reduceNeg, Nat.reducePow, List.reduceReplicate, Int.reduceLE])
           | (with_reducible refine qops.step fun T hT => ?_; simp (disch := omega) only [go_sem, Nat.reduceBEq, Nat.reduceLT, Nat.reduceEqDiff, reduceIte, Nat.reduceAdd, Nat.reduceMul, Nat.reduceSub, Nat.reduceLeDiff, Int.reduceToNat, Int.reducePow, Int.reduceLT, Int.reduceEq, Int.reduceNeg, Nat.reducePow, List.reduceReplicate, Int.reduceLE])
           | (with_reducible refine aops.nil ?_)
           | (with_reducible refine qops.nil ?_)
           | (with_reducible refine hT _ ?_; clear hT T)
           | (refine AWP.skip ?_; try simp only [AExit.then, AExit.inBlock, reduceIte, Nat.reduceEqDiff])
           | (refine AWP.exit ?_; try simp only [AExit.then, AExit.inBlock, reduceIte, Nat.reduceEqDiff])
           | (refine AWP.ret ?_; try simp only [AExit.then, AExit.inBlock, reduceIte, Nat.reduceEqDiff])
           | (refine AWP.cond rfl (fun h => ?_) (fun h => ?_) <;> (try simp only [decide_eq_true_eq, decide_eq_false_iff_not, Bool.true_eq_false, Bool.false_eq_true] at h) <;> (try contradiction))
           | (refine hQ' _ _ ?_; clear hQ' Q'; try simp only [AExit.then, AExit.inBlock, reduceIte, Nat.reduceEqDiff])
           | (refine hQ' _ ?_; clear hQ' Q'; try simp only [AExit.then, AExit.inBlock, reduceIte, Nat.reduceEqDiff])
           | (with_reducible refine Branch.split (fun h => ?_) (fun h => ?_) <;> (try simp only [decide_eq_true_eq, decide_eq_false_iff_not, Bool.not_true, Bool.not_false, Bool.true_eq_false, Bool.false_eq_true] at h) <;> (try contradiction) <;> (simp (disch := omega) only [go_sem, Nat.reduceBEq, Nat.reduceLT, Nat.reduceEqDiff, reduceIte, Nat.reduceAdd, Nat.reduceMul, Nat.reduceSub, Nat.reduceLeDiff, Int.reduceToNat, Int.reducePow, Int.reduceLT, Int.reduceEq, Int.reduceNeg, Nat.reducePow, List.reduceReplicate, Int.reduceLE, h]))
           | (with_reducible intro h; try simp only [h, go_sem, Nat.reduceBEq, Nat.reduceLT, Nat.reduceEqDiff, reduceIte, Nat.reduceAdd, Nat.reduceMul, Nat.reduceSub, Nat.reduceLeDiff, Int.reduceToNat, Int.reducePow, Int.reduceLT, Int.reduceEq, Int.reduceNeg, Nat.reducePow, List.reduceReplicate, Int.reduceLE]))
         simp only [bodyQ, go_sem, Nat.reduceBEq, Nat.reduceLT, Nat.reduceEqDiff, reduceIte, Nat.reduceAdd, Nat.reduceMul, Nat.reduceSub, Nat.reduceLeDiff, Int.reduceToNat, Int.reducePow, Int.reduceLT, Int.reduceEq, Int.reduceNeg, Nat.reducePow, List.reduceReplicate, Int.reduceLE]
         exact Fin.same ⟨rfl, rfl⟩)
  intro base
  refine acall_body Try.func64 rfl (fun a w => Try.call64 a w) Try.ntmps64 Try.results64 (by simp) ?_
  intro w β hI
  simp only [number]
  repeat' (first
    | (refine AWP.seq ?_)
    | (refine AWP.block ?_)
    | (refine AWP.region_k fun Q' hQ' => ?_)
    | (refine AWP.draw_k rfl (by kernel_rfl) fun Q' hQ' => ?_)
    | (with_reducible refine aops.step fun T hT => ?_; simp (disch := omega) only [go_sem, Nat.reduceBEq, Nat.reduceLT, Nat.reduceEqDiff, reduceIte, Nat.reduceAdd, Nat.reduceMul, Nat.reduceSub, Nat.reduceLeDiff, Int.reduceToNat, Int.reducePow, Int.reduceLT, Int.reduceEq, Int.reduceNeg, Nat.reducePow, List.reduceReplicate, Int.reduceLE])
    | (with_reducible refine qops.step fun T hT => ?_; simp (disch := omega) only [go_sem, Nat.reduceBEq, Nat.reduceLT, Nat.reduceEqDiff, reduceIte, Nat.reduceAdd, Nat.reduceMul, Nat.reduceSub, Nat.reduceLeDiff, Int.reduceToNat, Int.reducePow, Int.reduceLT, Int.reduceEq, Int.reduceNeg, Nat.reducePow, List.reduceReplicate, Int.reduceLE])
    | (with_reducible refine aops.nil ?_)
    | (with_reducible refine qops.nil ?_)
    | (with_reducible refine hT _ ?_; clear hT T)
    | (refine AWP.skip ?_; try simp only [AExit.then, AExit.inBlock, reduceIte, Nat.reduceEqDiff])
    | (refine AWP.exit ?_; try simp only [AExit.then, AExit.inBlock, reduceIte, Nat.reduceEqDiff])
    | (refine AWP.ret ?_; try simp only [AExit.then, AExit.inBlock, reduceIte, Nat.reduceEqDiff])
    | (refine AWP.cond rfl (fun h => ?_) (fun h => ?_) <;> (try simp only [decide_eq_true_eq, decide_eq_false_iff_not, Bool.true_eq_false, Bool.false_eq_true] at h) <;> (try contradiction))
    | (refine hQ' _ _ ?_; clear hQ' Q'; try simp only [AExit.then, AExit.inBlock, reduceIte, Nat.reduceEqDiff])
    | (refine hQ' _ ?_; clear hQ' Q'; try simp only [AExit.then, AExit.inBlock, reduceIte, Nat.reduceEqDiff])
    | (with_reducible refine Branch.split (fun h => ?_) (fun h => ?_) <;> (try simp only [decide_eq_true_eq, decide_eq_false_iff_not, Bool.not_true, Bool.not_false, Bool.true_eq_false, Bool.false_eq_true] at h) <;> (try contradiction) <;> (simp (disch := omega) only [go_sem, Nat.reduceBEq, Nat.reduceLT, Nat.reduceEqDiff, reduceIte, Nat.reduceAdd, Nat.reduceMul, Nat.reduceSub, Nat.reduceLeDiff, Int.reduceToNat, Int.reducePow, Int.reduceLT, Int.reduceEq, Int.reduceNeg, Nat.reducePow, List.reduceReplicate, Int.reduceLE, h]))
    | (with_reducible intro h; try simp only [h, go_sem, Nat.reduceBEq, Nat.reduceLT, Nat.reduceEqDiff, reduceIte, Nat.reduceAdd, Nat.reduceMul, Nat.reduceSub, Nat.reduceLeDiff, Int.reduceToNat, Int.reducePow, Int.reduceLT, Int.reduceEq, Int.reduceNeg, Nat.reducePow, List.reduceReplicate, Int.reduceLE]))
  all_goals first
    | (exfalso; omega)
    | (generalize hm : Int.toNat (_ : Int) = m
       have hm256 : m < 256 := by omega
       have hb := blen_small m hm256
       rw [len8_get m hm256]
       simp (disch := omega) only [go_sem, Nat.reduceBEq, Nat.reduceLT, Nat.reduceEqDiff, reduceIte, Nat.reduceAdd, Nat.reduceMul, Nat.reduceSub, Nat.reduceLeDiff, Int.reduceToNat, Int.reducePow, Int.reduceLT, Int.reduceEq, Int.reduceNeg, Nat.reducePow, List.reduceReplicate, Int.reduceLE, u8_small m hm256]
       repeat' (first
         | (refine AWP.seq ?_)
         | (refine AWP.block ?_)
         | (refine AWP.region_k fun Q' hQ' => ?_)
         | (refine AWP.draw_k rfl (by kernel_rfl) fun Q' hQ' => ?_)
         | (with_reducible refine aops.step fun T hT => ?_; simp (disch := omega) only [go_sem, Nat.reduceBEq, Nat.reduceLT, Nat.reduceEqDiff, reduceIte, Nat.reduceAdd, Nat.reduceMul, Nat.reduceSub, Nat.reduceLeDiff, Int.reduceToNat, Int.reducePow, Int.reduceLT, Int.reduceEq, Int.reduceNeg, Nat.reducePow, List.reduceReplicate, Int.reduceLE])
         | (with_reducible refine qops.step fun T hT => ?_; simp (disch := omega) only [go_sem, Nat.reduceBEq, Nat.reduceLT, Nat.reduceEqDiff, reduceIte, Nat.reduceAdd, Nat.reduceMul, Nat.reduceSub, Nat.reduceLeDiff, Int.reduceToNat, Int.reducePow, Int.reduceLT, Int.reduceEq, Int.reduceNeg, Nat.reducePow, List.reduceReplicate, Int.reduceLE])
         | (with_reducible refine aops.nil ?_)
         | (with_reducible refine qops.nil ?_)
         | (with_reducible refine hT _ ?_; clear hT T)
         | (refine AWP.skip ?_; try simp only [AExit.then, AExit.inBlock, reduceIte, Nat.reduceEqDiff])
         | (refine AWP.exit ?_; try simp only [AExit.then, AExit.inBlock, reduceIte, Nat.reduceEqDiff])
         | (refine AWP.ret ?_; try simp only [AExit.then, AExit.inBlock, reduceIte, Nat.reduceEqDiff])
         | (refine AWP.cond rfl (fun h => ?_) (fun h => ?_) <;> (try simp only [decide_eq_true_eq, decide_eq_false_iff_not, Bool.true_eq_false, Bool.false_eq_true] at h) <;> (try contradiction))
         | (refine hQ' _ _ ?_; clear hQ' Q'; try simp only [AExit.then, AExit.inBlock, reduceIte, Nat.reduceEqDiff])
         | (refine hQ' _ ?_; clear hQ' Q'; try simp only [AExit.then, AExit.inBlock, reduceIte, Nat.reduceEqDiff])
         | (with_reducible refine Branch.split (fun h => ?_) (fun h => ?_) <;> (try simp only [decide_eq_true_eq, decide_eq_false_iff_not, Bool.not_true, Bool.not_false, Bool.true_eq_false, Bool.false_eq_true] at h) <;> (try contradiction) <;> (simp (disch := omega) only [go_sem, Nat.reduceBEq, Nat.reduceLT, Nat.reduceEqDiff, reduceIte, Nat.reduceAdd, Nat.reduceMul, Nat.reduceSub, Nat.reduceLeDiff, Int.reduceToNat, Int.reducePow, Int.reduceLT, Int.reduceEq, Int.reduceNeg, Nat.reducePow, List.reduceReplicate, Int.reduceLE, h]))
         | (with_reducible intro h; try simp only [h, go_sem, Nat.reduceBEq, Nat.reduceLT, Nat.reduceEqDiff, reduceIte, Nat.reduceAdd, Nat.reduceMul, Nat.reduceSub, Nat.reduceLeDiff, Int.reduceToNat, Int.reducePow, Int.reduceLT, Int.reduceEq, Int.reduceNeg, Nat.reducePow, List.reduceReplicate, Int.reduceLE]))
       simp only [bodyQ, go_sem, Nat.reduceBEq, Nat.reduceLT, Nat.reduceEqDiff, reduceIte, Nat.reduceAdd, Nat.reduceMul, Nat.reduceSub, Nat.reduceLeDiff, Int.reduceToNat, Int.reducePow, Int.reduceLT, Int.reduceEq, Int.reduceNeg, Nat.reducePow, List.reduceReplicate, Int.reduceLE]
       refine Fin.same ⟨congrArg (fun x => Out.ret (vi x)) ?_, rfl⟩
       first
         | exact (by omega : _ = _ + _).trans (len_key n 56 72057594037927936 m (by decide) (by omega) (by omega))
         | exact (by omega : _ = _ + _).trans (len_key n 48 281474976710656 m (by decide) (by omega) (by omega))
         | exact (by omega : _ = _ + _).trans (len_key n 40 1099511627776 m (by decide) (by omega) (by omega))
         | exact (by omega : _ = _ + _).trans (len_key n 32 4294967296 m (by decide) (by omega) (by omega))
         | exact (by omega : _ = _ + _).trans (len_key n 24 16777216 m (by decide) (by omega) (by omega))
         | exact (by omega : _ = _ + _).trans (len_key n 16 65536 m (by decide) (by omega) (by omega))
         | exact (by omega : _ = _ + _).trans (len_key n 8 256 m (by decide) (by omega) (by omega)))

theorem len_spec (n : Nat) (hn : n < 18446744073709551616) (H : List Box) : ASpec Try.prog 52 [.v (.int .u64 n)] H (Gives (vi (blen n)) H) := by
  intro base
  refine acall_body Try.func52 rfl (fun a w => Try.call52 a w) Try.ntmps52 Try.results52 (by simp) ?_
  intro w β hI
  simp only [number]
  repeat' (first
    | (refine AWP.seq ?_)
    | (refine AWP.block ?_)
    | (refine AWP.region_k fun Q' hQ' => ?_)
    | (refine AWP.draw_k rfl (by kernel_rfl) fun Q' hQ' => ?_)
    | (with_reducible refine aops.step fun T hT => ?_; simp (disch := omega) only [go_sem, Nat.reduceBEq, Nat.reduceLT, Nat.reduceEqDiff, reduceIte, Nat.reduceAdd, Nat.reduceMul, Nat.reduceSub, Nat.reduceLeDiff, Int.reduceToNat, Int.reducePow, Int.reduceLT, Int.reduceEq, Int.reduceNeg, Nat.reducePow, List.reduceReplicate, Int.reduceLE])
    | (with_reducible refine qops.step fun T hT => ?_; simp (disch := omega) only [go_sem, Nat.reduceBEq, Nat.reduceLT, Nat.reduceEqDiff, reduceIte, Nat.reduceAdd, Nat.reduceMul, Nat.reduceSub, Nat.reduceLeDiff, Int.reduceToNat, Int.reducePow, Int.reduceLT, Int.reduceEq, Int.reduceNeg, Nat.reducePow, List.reduceReplicate, Int.reduceLE])
    | (with_reducible refine aops.nil ?_)
    | (with_reducible refine qops.nil ?_)
    | (with_reducible refine hT _ ?_; clear hT T)
    | (refine AWP.skip ?_; try simp only [AExit.then, AExit.inBlock, reduceIte, Nat.reduceEqDiff])
    | (refine AWP.exit ?_; try simp only [AExit.then, AExit.inBlock, reduceIte, Nat.reduceEqDiff])
    | (refine AWP.ret ?_; try simp only [AExit.then, AExit.inBlock, reduceIte, Nat.reduceEqDiff])
    | (refine AWP.cond rfl (fun h => ?_) (fun h => ?_) <;> (try simp only [decide_eq_true_eq, decide_eq_false_iff_not, Bool.true_eq_false, Bool.false_eq_true] at h) <;> (try contradiction))
    | (refine hQ' _ _ ?_; clear hQ' Q'; try simp only [AExit.then, AExit.inBlock, reduceIte, Nat.reduceEqDiff])
    | (refine hQ' _ ?_; clear hQ' Q'; try simp only [AExit.then, AExit.inBlock, reduceIte, Nat.reduceEqDiff])
    | (with_reducible refine Branch.split (fun h => ?_) (fun h => ?_) <;> (try simp only [decide_eq_true_eq, decide_eq_false_iff_not, Bool.not_true, Bool.not_false, Bool.true_eq_false, Bool.false_eq_true] at h) <;> (try contradiction) <;> (simp (disch := omega) only [go_sem, Nat.reduceBEq, Nat.reduceLT, Nat.reduceEqDiff, reduceIte, Nat.reduceAdd, Nat.reduceMul, Nat.reduceSub, Nat.reduceLeDiff, Int.reduceToNat, Int.reducePow, Int.reduceLT, Int.reduceEq, Int.reduceNeg, Nat.reducePow, List.reduceReplicate, Int.reduceLE, h]))
    | (with_reducible intro h; try simp only [h, go_sem, Nat.reduceBEq, Nat.reduceLT, Nat.reduceEqDiff, reduceIte, Nat.reduceAdd, Nat.reduceMul, Nat.reduceSub, Nat.reduceLeDiff, Int.reduceToNat, Int.reducePow, Int.reduceLT, Int.reduceEq, Int.reduceNeg, Nat.reducePow, List.reduceReplicate, Int.reduceLE])
    | ((first | (with_reducible refine acall.det (len64_spec n hn _) ?_) | (with_reducible refine qcall.det (len64_spec n hn _) ?_)); try simp (disch := omega) only [go_sem, Nat.reduceBEq, Nat.reduceLT, Nat.reduceEqDiff, reduceIte, Nat.reduceAdd, Nat.reduceMul, Nat.reduceSub, Nat.reduceLeDiff, Int.reduceToNat, Int.reducePow, Int.reduceLT, Int.reduceEq, Int.reduceNeg, Nat.reducePow, List.reduceReplicate, Int.reduceLE]))
  all_goals
    simp only [bodyQ, go_sem, Nat.reduceBEq, Nat.reduceLT, Nat.reduceEqDiff, reduceIte, Nat.reduceAdd, Nat.reduceMul, Nat.reduceSub, Nat.reduceLeDiff, Int.reduceToNat, Int.reducePow, Int.reduceLT, Int.reduceEq, Int.reduceNeg, Nat.reducePow, List.reduceReplicate, Int.reduceLE]
    exact Fin.same ⟨rfl, rfl⟩

end Go.Proofs.Ytnoekcdmaaakfaa.VL

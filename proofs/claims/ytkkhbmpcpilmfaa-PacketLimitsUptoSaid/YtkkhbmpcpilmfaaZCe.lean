/- The facts on the program's types that walks rewrite by (printed by gen_ty.py). -/
import Derived.Test.YtkkhbmpcpilmfaaZCc
import Derived.Test.YtkkhbmpcpilmfaaProg
import Derived.KernelRfl
import Derived.Test.YtkkhbmpcpilmfaaZCd
set_option linter.unusedVariables false
namespace Go.Proofs.Ytkkhbmpcpilmfaa.VL
open Go Go.RowKit Go.Lib
attribute [go_sem] Try.underlying1
@[go_sem] theorem ce1 : Try.prog.cellsOf 1 = 1 := by kernel_rfl
@[go_sem] theorem by1 : Try.prog.bytesOf 1 = 8 := by kernel_rfl
@[go_sem] theorem ag1 : isAg Try.prog 1 = false := by kernel_rfl
@[go_sem] theorem ze1 : zeroCs Try.prog 1 = some [.v .nilFunc] := by kernel_rfl
@[go_sem] theorem se1 : selfTy Try.prog 1 = false := by kernel_rfl
attribute [go_sem] Try.underlying2
@[go_sem] theorem ce2 : Try.prog.cellsOf 2 = 1 := by kernel_rfl
@[go_sem] theorem by2 : Try.prog.bytesOf 2 = 8 := by kernel_rfl
@[go_sem] theorem ag2 : isAg Try.prog 2 = false := by kernel_rfl
@[go_sem] theorem ze2 : zeroCs Try.prog 2 = some [.v (.int .i64 0)] := by kernel_rfl
@[go_sem] theorem se2 : selfTy Try.prog 2 = false := by kernel_rfl
attribute [go_sem] Try.underlying3
@[go_sem] theorem ce3 : Try.prog.cellsOf 3 = 1 := by kernel_rfl
@[go_sem] theorem by3 : Try.prog.bytesOf 3 = 8 := by kernel_rfl
@[go_sem] theorem ag3 : isAg Try.prog 3 = false := by kernel_rfl
@[go_sem] theorem ze3 : zeroCs Try.prog 3 = some [.v (.int .i64 0)] := by kernel_rfl
@[go_sem] theorem se3 : selfTy Try.prog 3 = false := by kernel_rfl
attribute [go_sem] Try.underlying4
@[go_sem] theorem ce4 : Try.prog.cellsOf 4 = 1 := by kernel_rfl
@[go_sem] theorem by4 : Try.prog.bytesOf 4 = 1 := by kernel_rfl
@[go_sem] theorem ag4 : isAg Try.prog 4 = false := by kernel_rfl
@[go_sem] theorem ze4 : zeroCs Try.prog 4 = some [.v (.bool false)] := by kernel_rfl
@[go_sem] theorem se4 : selfTy Try.prog 4 = false := by kernel_rfl
attribute [go_sem] Try.underlying5
@[go_sem] theorem ce5 : Try.prog.cellsOf 5 = 1 := by kernel_rfl
@[go_sem] theorem by5 : Try.prog.bytesOf 5 = 1 := by kernel_rfl
@[go_sem] theorem ag5 : isAg Try.prog 5 = false := by kernel_rfl
@[go_sem] theorem ze5 : zeroCs Try.prog 5 = some [.v (.int .u8 0)] := by kernel_rfl
@[go_sem] theorem se5 : selfTy Try.prog 5 = false := by kernel_rfl
attribute [go_sem] Try.underlying9
@[go_sem] theorem ce9 : Try.prog.cellsOf 9 = 1 := by kernel_rfl
@[go_sem] theorem by9 : Try.prog.bytesOf 9 = 16 := by kernel_rfl
@[go_sem] theorem ag9 : isAg Try.prog 9 = false := by kernel_rfl
@[go_sem] theorem ze9 : zeroCs Try.prog 9 = some [.v (.string { data := #[] })] := by kernel_rfl
@[go_sem] theorem se9 : selfTy Try.prog 9 = false := by kernel_rfl
attribute [go_sem] Try.underlying12
@[go_sem] theorem ce12 : Try.prog.cellsOf 12 = 1 := by kernel_rfl
@[go_sem] theorem by12 : Try.prog.bytesOf 12 = 8 := by kernel_rfl
@[go_sem] theorem ag12 : isAg Try.prog 12 = false := by kernel_rfl
@[go_sem] theorem ze12 : zeroCs Try.prog 12 = some [.v (.int .u64 0)] := by kernel_rfl
@[go_sem] theorem se12 : selfTy Try.prog 12 = false := by kernel_rfl
attribute [go_sem] Try.underlying13
@[go_sem] theorem ce13 : Try.prog.cellsOf 13 = 2 := by kernel_rfl
@[go_sem] theorem by13 : Try.prog.bytesOf 13 = 24 := by kernel_rfl
@[go_sem] theorem ag13 : isAg Try.prog 13 = true := by kernel_rfl
@[go_sem] theorem ze13 : zeroCs Try.prog 13 = some [.v (.string { data := #[] }), .v (.int .u64 0)] := by kernel_rfl
@[go_sem] theorem se13 : selfTy Try.prog 13 = false := by kernel_rfl
@[go_sem] theorem fi13_0 : fieldOf Try.prog 13 0 = some { name := "msg", type := 9, offset := 0, embedded := false, tag := "", pkgPath := "runtime", byteOffset := 0 } := by kernel_rfl
@[go_sem] theorem fi13_1 : fieldOf Try.prog 13 1 = some { name := "addr", type := 12, offset := 1, embedded := false, tag := "", pkgPath := "runtime", byteOffset := 16 } := by kernel_rfl
attribute [go_sem] Try.underlying21
@[go_sem] theorem ce21 : Try.prog.cellsOf 21 = 1 := by kernel_rfl
@[go_sem] theorem by21 : Try.prog.bytesOf 21 = 4 := by kernel_rfl
@[go_sem] theorem ag21 : isAg Try.prog 21 = false := by kernel_rfl
@[go_sem] theorem ze21 : zeroCs Try.prog 21 = some [.v (.int .i32 0)] := by kernel_rfl
@[go_sem] theorem se21 : selfTy Try.prog 21 = false := by kernel_rfl
attribute [go_sem] Try.underlying22
@[go_sem] theorem ce22 : Try.prog.cellsOf 22 = 1 := by kernel_rfl
@[go_sem] theorem by22 : Try.prog.bytesOf 22 = 24 := by kernel_rfl
@[go_sem] theorem ag22 : isAg Try.prog 22 = false := by kernel_rfl
@[go_sem] theorem el22 : elemTy Try.prog 22 = some 66 := by kernel_rfl
@[go_sem] theorem ze22 : zeroCs Try.prog 22 = some [.emp] := by kernel_rfl
@[go_sem] theorem se22 : selfTy Try.prog 22 = false := by kernel_rfl
attribute [go_sem] Try.underlying23
@[go_sem] theorem ce23 : Try.prog.cellsOf 23 = 1 := by kernel_rfl
@[go_sem] theorem by23 : Try.prog.bytesOf 23 = 24 := by kernel_rfl
@[go_sem] theorem ag23 : isAg Try.prog 23 = false := by kernel_rfl
@[go_sem] theorem el23 : elemTy Try.prog 23 = some 68 := by kernel_rfl
@[go_sem] theorem ze23 : zeroCs Try.prog 23 = some [.emp] := by kernel_rfl
@[go_sem] theorem se23 : selfTy Try.prog 23 = false := by kernel_rfl
attribute [go_sem] Try.underlying24
@[go_sem] theorem ce24 : Try.prog.cellsOf 24 = 6 := by kernel_rfl
@[go_sem] theorem by24 : Try.prog.bytesOf 24 = 112 := by kernel_rfl
@[go_sem] theorem ag24 : isAg Try.prog 24 = true := by kernel_rfl
@[go_sem] theorem ze24 : zeroCs Try.prog 24 = some [.v (.int .i64 0), .v (.int .i64 0), .emp, .emp, .emp, .emp] := by kernel_rfl
@[go_sem] theorem se24 : selfTy Try.prog 24 = false := by kernel_rfl
@[go_sem] theorem fi24_0 : fieldOf Try.prog 24 0 = some { name := "ID", type := 3, offset := 0, embedded := false, tag := "", pkgPath := "", byteOffset := 0 } := by kernel_rfl
@[go_sem] theorem fi24_1 : fieldOf Try.prog 24 1 = some { name := "Flags", type := 3, offset := 1, embedded := false, tag := "", pkgPath := "", byteOffset := 8 } := by kernel_rfl
@[go_sem] theorem fi24_2 : fieldOf Try.prog 24 2 = some { name := "Question", type := 22, offset := 2, embedded := false, tag := "", pkgPath := "", byteOffset := 16 } := by kernel_rfl
@[go_sem] theorem fi24_3 : fieldOf Try.prog 24 3 = some { name := "Answer", type := 23, offset := 3, embedded := false, tag := "", pkgPath := "", byteOffset := 40 } := by kernel_rfl
@[go_sem] theorem fi24_4 : fieldOf Try.prog 24 4 = some { name := "Auth", type := 23, offset := 4, embedded := false, tag := "", pkgPath := "", byteOffset := 64 } := by kernel_rfl
@[go_sem] theorem fi24_5 : fieldOf Try.prog 24 5 = some { name := "More", type := 23, offset := 5, embedded := false, tag := "", pkgPath := "", byteOffset := 88 } := by kernel_rfl
attribute [go_sem] Try.underlying25
@[go_sem] theorem ce25 : Try.prog.cellsOf 25 = 6 := by kernel_rfl
@[go_sem] theorem by25 : Try.prog.bytesOf 25 = 112 := by kernel_rfl
@[go_sem] theorem ag25 : isAg Try.prog 25 = true := by kernel_rfl
@[go_sem] theorem ze25 : zeroCs Try.prog 25 = some [.v (.int .i64 0), .v (.int .i64 0), .emp, .emp, .emp, .emp] := by kernel_rfl
@[go_sem] theorem se25 : selfTy Try.prog 25 = false := by kernel_rfl
@[go_sem] theorem fi25_0 : fieldOf Try.prog 25 0 = some { name := "ID", type := 3, offset := 0, embedded := false, tag := "", pkgPath := "", byteOffset := 0 } := by kernel_rfl
@[go_sem] theorem fi25_1 : fieldOf Try.prog 25 1 = some { name := "Flags", type := 3, offset := 1, embedded := false, tag := "", pkgPath := "", byteOffset := 8 } := by kernel_rfl
@[go_sem] theorem fi25_2 : fieldOf Try.prog 25 2 = some { name := "Question", type := 22, offset := 2, embedded := false, tag := "", pkgPath := "", byteOffset := 16 } := by kernel_rfl
@[go_sem] theorem fi25_3 : fieldOf Try.prog 25 3 = some { name := "Answer", type := 23, offset := 3, embedded := false, tag := "", pkgPath := "", byteOffset := 40 } := by kernel_rfl
@[go_sem] theorem fi25_4 : fieldOf Try.prog 25 4 = some { name := "Auth", type := 23, offset := 4, embedded := false, tag := "", pkgPath := "", byteOffset := 64 } := by kernel_rfl
@[go_sem] theorem fi25_5 : fieldOf Try.prog 25 5 = some { name := "More", type := 23, offset := 5, embedded := false, tag := "", pkgPath := "", byteOffset := 88 } := by kernel_rfl
attribute [go_sem] Try.underlying26
@[go_sem] theorem ce26 : Try.prog.cellsOf 26 = 1 := by kernel_rfl
@[go_sem] theorem by26 : Try.prog.bytesOf 26 = 2 := by kernel_rfl
@[go_sem] theorem ag26 : isAg Try.prog 26 = false := by kernel_rfl
@[go_sem] theorem ze26 : zeroCs Try.prog 26 = some [.v (.int .u16 0)] := by kernel_rfl
@[go_sem] theorem se26 : selfTy Try.prog 26 = false := by kernel_rfl
attribute [go_sem] Try.underlying27
@[go_sem] theorem ce27 : Try.prog.cellsOf 27 = 1 := by kernel_rfl
@[go_sem] theorem by27 : Try.prog.bytesOf 27 = 8 := by kernel_rfl
@[go_sem] theorem ag27 : isAg Try.prog 27 = false := by kernel_rfl
@[go_sem] theorem ze27 : zeroCs Try.prog 27 = some [.v .nilFunc] := by kernel_rfl
@[go_sem] theorem se27 : selfTy Try.prog 27 = false := by kernel_rfl
attribute [go_sem] Try.underlying28
@[go_sem] theorem ce28 : Try.prog.cellsOf 28 = 1 := by kernel_rfl
@[go_sem] theorem by28 : Try.prog.bytesOf 28 = 8 := by kernel_rfl
@[go_sem] theorem ag28 : isAg Try.prog 28 = false := by kernel_rfl
@[go_sem] theorem ze28 : zeroCs Try.prog 28 = some [.v .nilFunc] := by kernel_rfl
@[go_sem] theorem se28 : selfTy Try.prog 28 = false := by kernel_rfl
attribute [go_sem] Try.underlying29
@[go_sem] theorem ce29 : Try.prog.cellsOf 29 = 1 := by kernel_rfl
@[go_sem] theorem by29 : Try.prog.bytesOf 29 = 24 := by kernel_rfl
@[go_sem] theorem ag29 : isAg Try.prog 29 = false := by kernel_rfl
@[go_sem] theorem el29 : elemTy Try.prog 29 = some 5 := by kernel_rfl
@[go_sem] theorem ze29 : zeroCs Try.prog 29 = some [.emp] := by kernel_rfl
@[go_sem] theorem se29 : selfTy Try.prog 29 = false := by kernel_rfl
attribute [go_sem] Try.underlying30
@[go_sem] theorem ce30 : Try.prog.cellsOf 30 = 1 := by kernel_rfl
@[go_sem] theorem by30 : Try.prog.bytesOf 30 = 8 := by kernel_rfl
@[go_sem] theorem ag30 : isAg Try.prog 30 = false := by kernel_rfl
@[go_sem] theorem ze30 : zeroCs Try.prog 30 = some [.v (.int .i64 0)] := by kernel_rfl
@[go_sem] theorem se30 : selfTy Try.prog 30 = false := by kernel_rfl
attribute [go_sem] Try.underlying32
@[go_sem] theorem ce32 : Try.prog.cellsOf 32 = 1 := by kernel_rfl
@[go_sem] theorem by32 : Try.prog.bytesOf 32 = 8 := by kernel_rfl
@[go_sem] theorem ag32 : isAg Try.prog 32 = false := by kernel_rfl
@[go_sem] theorem ze32 : zeroCs Try.prog 32 = some [.v .nilFunc] := by kernel_rfl
@[go_sem] theorem se32 : selfTy Try.prog 32 = false := by kernel_rfl
attribute [go_sem] Try.underlying34
@[go_sem] theorem ce34 : Try.prog.cellsOf 34 = 1 := by kernel_rfl
@[go_sem] theorem by34 : Try.prog.bytesOf 34 = 8 := by kernel_rfl
@[go_sem] theorem ag34 : isAg Try.prog 34 = false := by kernel_rfl
@[go_sem] theorem ze34 : zeroCs Try.prog 34 = some [.v .nilFunc] := by kernel_rfl
@[go_sem] theorem se34 : selfTy Try.prog 34 = false := by kernel_rfl
attribute [go_sem] Try.underlying35
@[go_sem] theorem ce35 : Try.prog.cellsOf 35 = 1 := by kernel_rfl
@[go_sem] theorem by35 : Try.prog.bytesOf 35 = 8 := by kernel_rfl
@[go_sem] theorem ag35 : isAg Try.prog 35 = false := by kernel_rfl
@[go_sem] theorem ze35 : zeroCs Try.prog 35 = some [.v .nilFunc] := by kernel_rfl
@[go_sem] theorem se35 : selfTy Try.prog 35 = false := by kernel_rfl
attribute [go_sem] Try.underlying36
@[go_sem] theorem ce36 : Try.prog.cellsOf 36 = 1 := by kernel_rfl
@[go_sem] theorem by36 : Try.prog.bytesOf 36 = 8 := by kernel_rfl
@[go_sem] theorem ag36 : isAg Try.prog 36 = false := by kernel_rfl
@[go_sem] theorem ze36 : zeroCs Try.prog 36 = some [.v .nilFunc] := by kernel_rfl
@[go_sem] theorem se36 : selfTy Try.prog 36 = false := by kernel_rfl
attribute [go_sem] Try.underlying37
@[go_sem] theorem ce37 : Try.prog.cellsOf 37 = 1 := by kernel_rfl
@[go_sem] theorem by37 : Try.prog.bytesOf 37 = 8 := by kernel_rfl
@[go_sem] theorem ag37 : isAg Try.prog 37 = false := by kernel_rfl
@[go_sem] theorem ze37 : zeroCs Try.prog 37 = some [.v .nilFunc] := by kernel_rfl
@[go_sem] theorem se37 : selfTy Try.prog 37 = false := by kernel_rfl
attribute [go_sem] Try.underlying38
@[go_sem] theorem ce38 : Try.prog.cellsOf 38 = 2 := by kernel_rfl
@[go_sem] theorem by38 : Try.prog.bytesOf 38 = 4 := by kernel_rfl
@[go_sem] theorem ag38 : isAg Try.prog 38 = true := by kernel_rfl
@[go_sem] theorem ar38 : arrTy Try.prog 38 = some (2, 26) := by kernel_rfl
@[go_sem] theorem ze38 : zeroCs Try.prog 38 = some [.v (.int .u16 0), .v (.int .u16 0)] := by kernel_rfl
@[go_sem] theorem se38 : selfTy Try.prog 38 = false := by kernel_rfl
attribute [go_sem] Try.underlying39
@[go_sem] theorem ce39 : Try.prog.cellsOf 39 = 1 := by kernel_rfl
@[go_sem] theorem by39 : Try.prog.bytesOf 39 = 8 := by kernel_rfl
@[go_sem] theorem ag39 : isAg Try.prog 39 = false := by kernel_rfl
@[go_sem] theorem ze39 : zeroCs Try.prog 39 = some [.v .nilFunc] := by kernel_rfl
@[go_sem] theorem se39 : selfTy Try.prog 39 = false := by kernel_rfl
attribute [go_sem] Try.underlying40
@[go_sem] theorem ce40 : Try.prog.cellsOf 40 = 1 := by kernel_rfl
@[go_sem] theorem by40 : Try.prog.bytesOf 40 = 8 := by kernel_rfl
@[go_sem] theorem ag40 : isAg Try.prog 40 = false := by kernel_rfl
@[go_sem] theorem ze40 : zeroCs Try.prog 40 = some [.v .nilFunc] := by kernel_rfl
@[go_sem] theorem se40 : selfTy Try.prog 40 = false := by kernel_rfl
attribute [go_sem] Try.underlying41
@[go_sem] theorem ce41 : Try.prog.cellsOf 41 = 1 := by kernel_rfl
@[go_sem] theorem by41 : Try.prog.bytesOf 41 = 8 := by kernel_rfl
@[go_sem] theorem ag41 : isAg Try.prog 41 = false := by kernel_rfl
@[go_sem] theorem ze41 : zeroCs Try.prog 41 = some [.v .nilFunc] := by kernel_rfl
@[go_sem] theorem se41 : selfTy Try.prog 41 = false := by kernel_rfl
attribute [go_sem] Try.underlying43
@[go_sem] theorem ce43 : Try.prog.cellsOf 43 = 1 := by kernel_rfl
@[go_sem] theorem by43 : Try.prog.bytesOf 43 = 8 := by kernel_rfl
@[go_sem] theorem ag43 : isAg Try.prog 43 = false := by kernel_rfl
@[go_sem] theorem ze43 : zeroCs Try.prog 43 = some [.v .nilFunc] := by kernel_rfl
@[go_sem] theorem se43 : selfTy Try.prog 43 = false := by kernel_rfl
attribute [go_sem] Try.underlying44
@[go_sem] theorem ce44 : Try.prog.cellsOf 44 = 1 := by kernel_rfl
@[go_sem] theorem by44 : Try.prog.bytesOf 44 = 8 := by kernel_rfl
@[go_sem] theorem ag44 : isAg Try.prog 44 = false := by kernel_rfl
@[go_sem] theorem ze44 : zeroCs Try.prog 44 = some [.v .nilFunc] := by kernel_rfl
@[go_sem] theorem se44 : selfTy Try.prog 44 = false := by kernel_rfl
attribute [go_sem] Try.underlying45
@[go_sem] theorem ce45 : Try.prog.cellsOf 45 = 1 := by kernel_rfl
@[go_sem] theorem by45 : Try.prog.bytesOf 45 = 8 := by kernel_rfl
@[go_sem] theorem ag45 : isAg Try.prog 45 = false := by kernel_rfl
@[go_sem] theorem ze45 : zeroCs Try.prog 45 = some [.v .nilFunc] := by kernel_rfl
@[go_sem] theorem se45 : selfTy Try.prog 45 = false := by kernel_rfl
attribute [go_sem] Try.underlying46
@[go_sem] theorem ce46 : Try.prog.cellsOf 46 = 1 := by kernel_rfl
@[go_sem] theorem by46 : Try.prog.bytesOf 46 = 8 := by kernel_rfl
@[go_sem] theorem ag46 : isAg Try.prog 46 = false := by kernel_rfl
@[go_sem] theorem ze46 : zeroCs Try.prog 46 = some [.v .nilFunc] := by kernel_rfl
@[go_sem] theorem se46 : selfTy Try.prog 46 = false := by kernel_rfl
attribute [go_sem] Try.underlying47
@[go_sem] theorem ce47 : Try.prog.cellsOf 47 = 1 := by kernel_rfl
@[go_sem] theorem by47 : Try.prog.bytesOf 47 = 24 := by kernel_rfl
@[go_sem] theorem ag47 : isAg Try.prog 47 = false := by kernel_rfl
@[go_sem] theorem el47 : elemTy Try.prog 47 = some 58 := by kernel_rfl
@[go_sem] theorem ze47 : zeroCs Try.prog 47 = some [.emp] := by kernel_rfl
@[go_sem] theorem se47 : selfTy Try.prog 47 = false := by kernel_rfl
attribute [go_sem] Try.underlying48
@[go_sem] theorem ce48 : Try.prog.cellsOf 48 = 1 := by kernel_rfl
@[go_sem] theorem by48 : Try.prog.bytesOf 48 = 24 := by kernel_rfl
@[go_sem] theorem ag48 : isAg Try.prog 48 = false := by kernel_rfl
@[go_sem] theorem el48 : elemTy Try.prog 48 = some 108 := by kernel_rfl
@[go_sem] theorem ze48 : zeroCs Try.prog 48 = some [.emp] := by kernel_rfl
@[go_sem] theorem se48 : selfTy Try.prog 48 = false := by kernel_rfl
attribute [go_sem] Try.underlying49
@[go_sem] theorem ce49 : Try.prog.cellsOf 49 = 3 := by kernel_rfl
@[go_sem] theorem by49 : Try.prog.bytesOf 49 = 40 := by kernel_rfl
@[go_sem] theorem ag49 : isAg Try.prog 49 = true := by kernel_rfl
@[go_sem] theorem ze49 : zeroCs Try.prog 49 = some [.emp, .v (.int .i64 0), .v (.bool false)] := by kernel_rfl
@[go_sem] theorem se49 : selfTy Try.prog 49 = false := by kernel_rfl
@[go_sem] theorem fi49_0 : fieldOf Try.prog 49 0 = some { name := "Sectors", type := 48, offset := 0, embedded := false, tag := "", pkgPath := "", byteOffset := 0 } := by kernel_rfl
@[go_sem] theorem fi49_1 : fieldOf Try.prog 49 1 = some { name := "Fuse", type := 3, offset := 1, embedded := false, tag := "", pkgPath := "", byteOffset := 24 } := by kernel_rfl
@[go_sem] theorem fi49_2 : fieldOf Try.prog 49 2 = some { name := "Down", type := 4, offset := 2, embedded := false, tag := "", pkgPath := "", byteOffset := 32 } := by kernel_rfl
attribute [go_sem] Try.underlying50
@[go_sem] theorem ce50 : Try.prog.cellsOf 50 = 3 := by kernel_rfl
@[go_sem] theorem by50 : Try.prog.bytesOf 50 = 40 := by kernel_rfl
@[go_sem] theorem ag50 : isAg Try.prog 50 = true := by kernel_rfl
@[go_sem] theorem ze50 : zeroCs Try.prog 50 = some [.emp, .v (.int .i64 0), .v (.bool false)] := by kernel_rfl
@[go_sem] theorem se50 : selfTy Try.prog 50 = false := by kernel_rfl
@[go_sem] theorem fi50_0 : fieldOf Try.prog 50 0 = some { name := "Sectors", type := 48, offset := 0, embedded := false, tag := "", pkgPath := "", byteOffset := 0 } := by kernel_rfl
@[go_sem] theorem fi50_1 : fieldOf Try.prog 50 1 = some { name := "Fuse", type := 3, offset := 1, embedded := false, tag := "", pkgPath := "", byteOffset := 24 } := by kernel_rfl
@[go_sem] theorem fi50_2 : fieldOf Try.prog 50 2 = some { name := "Down", type := 4, offset := 2, embedded := false, tag := "", pkgPath := "", byteOffset := 32 } := by kernel_rfl
attribute [go_sem] Try.underlying52
@[go_sem] theorem ce52 : Try.prog.cellsOf 52 = 1 := by kernel_rfl
@[go_sem] theorem by52 : Try.prog.bytesOf 52 = 8 := by kernel_rfl
@[go_sem] theorem ag52 : isAg Try.prog 52 = false := by kernel_rfl
@[go_sem] theorem ze52 : zeroCs Try.prog 52 = some [.v .nilFunc] := by kernel_rfl
@[go_sem] theorem se52 : selfTy Try.prog 52 = false := by kernel_rfl
attribute [go_sem] Try.underlying53
@[go_sem] theorem ce53 : Try.prog.cellsOf 53 = 3 := by kernel_rfl
@[go_sem] theorem by53 : Try.prog.bytesOf 53 = 32 := by kernel_rfl
@[go_sem] theorem ag53 : isAg Try.prog 53 = true := by kernel_rfl
@[go_sem] theorem ze53 : zeroCs Try.prog 53 = some [.v (.int .i64 0), .v (.int .i64 0), .v (.string { data := #[] })] := by kernel_rfl
@[go_sem] theorem se53 : selfTy Try.prog 53 = false := by kernel_rfl
@[go_sem] theorem fi53_0 : fieldOf Try.prog 53 0 = some { name := "Seq", type := 3, offset := 0, embedded := false, tag := "", pkgPath := "", byteOffset := 0 } := by kernel_rfl
@[go_sem] theorem fi53_1 : fieldOf Try.prog 53 1 = some { name := "Gen", type := 3, offset := 1, embedded := false, tag := "", pkgPath := "", byteOffset := 8 } := by kernel_rfl
@[go_sem] theorem fi53_2 : fieldOf Try.prog 53 2 = some { name := "Note", type := 9, offset := 2, embedded := false, tag := "", pkgPath := "", byteOffset := 16 } := by kernel_rfl
attribute [go_sem] Try.underlying54
@[go_sem] theorem ce54 : Try.prog.cellsOf 54 = 3 := by kernel_rfl
@[go_sem] theorem by54 : Try.prog.bytesOf 54 = 32 := by kernel_rfl
@[go_sem] theorem ag54 : isAg Try.prog 54 = true := by kernel_rfl
@[go_sem] theorem fl54 : flatTags Try.prog 54 = some [0, 0, 1] := by kernel_rfl
@[go_sem] theorem ze54 : zeroCs Try.prog 54 = some [.v (.int .i64 0), .v (.int .i64 0), .v (.string { data := #[] })] := by kernel_rfl
@[go_sem] theorem se54 : selfTy Try.prog 54 = false := by kernel_rfl
@[go_sem] theorem fi54_0 : fieldOf Try.prog 54 0 = some { name := "Seq", type := 3, offset := 0, embedded := false, tag := "", pkgPath := "", byteOffset := 0 } := by kernel_rfl
@[go_sem] theorem fi54_1 : fieldOf Try.prog 54 1 = some { name := "Gen", type := 3, offset := 1, embedded := false, tag := "", pkgPath := "", byteOffset := 8 } := by kernel_rfl
@[go_sem] theorem fi54_2 : fieldOf Try.prog 54 2 = some { name := "Note", type := 9, offset := 2, embedded := false, tag := "", pkgPath := "", byteOffset := 16 } := by kernel_rfl
attribute [go_sem] Try.underlying56
@[go_sem] theorem ce56 : Try.prog.cellsOf 56 = 1 := by kernel_rfl
@[go_sem] theorem by56 : Try.prog.bytesOf 56 = 8 := by kernel_rfl
@[go_sem] theorem ag56 : isAg Try.prog 56 = false := by kernel_rfl
@[go_sem] theorem ze56 : zeroCs Try.prog 56 = some [.v .nilFunc] := by kernel_rfl
@[go_sem] theorem se56 : selfTy Try.prog 56 = false := by kernel_rfl
attribute [go_sem] Try.underlying57
@[go_sem] theorem ce57 : Try.prog.cellsOf 57 = 3 := by kernel_rfl
@[go_sem] theorem by57 : Try.prog.bytesOf 57 = 24 := by kernel_rfl
@[go_sem] theorem ag57 : isAg Try.prog 57 = true := by kernel_rfl
@[go_sem] theorem ze57 : zeroCs Try.prog 57 = some [.v (.bool false), .v (.int .u8 0), .v (.string { data := #[] })] := by kernel_rfl
@[go_sem] theorem se57 : selfTy Try.prog 57 = false := by kernel_rfl
@[go_sem] theorem fi57_0 : fieldOf Try.prog 57 0 = some { name := "Next", type := 4, offset := 0, embedded := false, tag := "", pkgPath := "", byteOffset := 0 } := by kernel_rfl
@[go_sem] theorem fi57_1 : fieldOf Try.prog 57 1 = some { name := "Fuse", type := 5, offset := 1, embedded := false, tag := "", pkgPath := "", byteOffset := 1 } := by kernel_rfl
@[go_sem] theorem fi57_2 : fieldOf Try.prog 57 2 = some { name := "Note", type := 9, offset := 2, embedded := false, tag := "", pkgPath := "", byteOffset := 8 } := by kernel_rfl
attribute [go_sem] Try.underlying58
@[go_sem] theorem ce58 : Try.prog.cellsOf 58 = 3 := by kernel_rfl
@[go_sem] theorem by58 : Try.prog.bytesOf 58 = 24 := by kernel_rfl
@[go_sem] theorem ag58 : isAg Try.prog 58 = true := by kernel_rfl
@[go_sem] theorem fl58 : flatTags Try.prog 58 = some [2, 0, 1] := by kernel_rfl
@[go_sem] theorem ze58 : zeroCs Try.prog 58 = some [.v (.bool false), .v (.int .u8 0), .v (.string { data := #[] })] := by kernel_rfl
@[go_sem] theorem se58 : selfTy Try.prog 58 = false := by kernel_rfl
@[go_sem] theorem fi58_0 : fieldOf Try.prog 58 0 = some { name := "Next", type := 4, offset := 0, embedded := false, tag := "", pkgPath := "", byteOffset := 0 } := by kernel_rfl
@[go_sem] theorem fi58_1 : fieldOf Try.prog 58 1 = some { name := "Fuse", type := 5, offset := 1, embedded := false, tag := "", pkgPath := "", byteOffset := 1 } := by kernel_rfl
@[go_sem] theorem fi58_2 : fieldOf Try.prog 58 2 = some { name := "Note", type := 9, offset := 2, embedded := false, tag := "", pkgPath := "", byteOffset := 8 } := by kernel_rfl
attribute [go_sem] Try.underlying59
@[go_sem] theorem ce59 : Try.prog.cellsOf 59 = 1 := by kernel_rfl
@[go_sem] theorem by59 : Try.prog.bytesOf 59 = 8 := by kernel_rfl
@[go_sem] theorem ag59 : isAg Try.prog 59 = false := by kernel_rfl
@[go_sem] theorem ze59 : zeroCs Try.prog 59 = some [.v .nilFunc] := by kernel_rfl
@[go_sem] theorem se59 : selfTy Try.prog 59 = false := by kernel_rfl
attribute [go_sem] Try.underlying60
@[go_sem] theorem ce60 : Try.prog.cellsOf 60 = 1 := by kernel_rfl
@[go_sem] theorem by60 : Try.prog.bytesOf 60 = 8 := by kernel_rfl
@[go_sem] theorem ag60 : isAg Try.prog 60 = false := by kernel_rfl
@[go_sem] theorem ze60 : zeroCs Try.prog 60 = some [.v .nilFunc] := by kernel_rfl
@[go_sem] theorem se60 : selfTy Try.prog 60 = false := by kernel_rfl
attribute [go_sem] Try.underlying61
@[go_sem] theorem ce61 : Try.prog.cellsOf 61 = 1 := by kernel_rfl
@[go_sem] theorem by61 : Try.prog.bytesOf 61 = 8 := by kernel_rfl
@[go_sem] theorem ag61 : isAg Try.prog 61 = false := by kernel_rfl
@[go_sem] theorem ze61 : zeroCs Try.prog 61 = some [.v .nilFunc] := by kernel_rfl
@[go_sem] theorem se61 : selfTy Try.prog 61 = false := by kernel_rfl
attribute [go_sem] Try.underlying63
@[go_sem] theorem ce63 : Try.prog.cellsOf 63 = 1 := by kernel_rfl
@[go_sem] theorem by63 : Try.prog.bytesOf 63 = 8 := by kernel_rfl
@[go_sem] theorem ag63 : isAg Try.prog 63 = false := by kernel_rfl
@[go_sem] theorem ze63 : zeroCs Try.prog 63 = some [.v .nilFunc] := by kernel_rfl
@[go_sem] theorem se63 : selfTy Try.prog 63 = false := by kernel_rfl
attribute [go_sem] Try.underlying64
@[go_sem] theorem ce64 : Try.prog.cellsOf 64 = 1 := by kernel_rfl
@[go_sem] theorem by64 : Try.prog.bytesOf 64 = 8 := by kernel_rfl
@[go_sem] theorem ag64 : isAg Try.prog 64 = false := by kernel_rfl
@[go_sem] theorem ze64 : zeroCs Try.prog 64 = some [.v .nilFunc] := by kernel_rfl
@[go_sem] theorem se64 : selfTy Try.prog 64 = false := by kernel_rfl
attribute [go_sem] Try.underlying65
@[go_sem] theorem ce65 : Try.prog.cellsOf 65 = 3 := by kernel_rfl
@[go_sem] theorem by65 : Try.prog.bytesOf 65 = 32 := by kernel_rfl
@[go_sem] theorem ag65 : isAg Try.prog 65 = true := by kernel_rfl
@[go_sem] theorem ze65 : zeroCs Try.prog 65 = some [.v (.string { data := #[] }), .v (.int .i64 0), .v (.int .i64 0)] := by kernel_rfl
@[go_sem] theorem se65 : selfTy Try.prog 65 = false := by kernel_rfl
@[go_sem] theorem fi65_0 : fieldOf Try.prog 65 0 = some { name := "Name", type := 9, offset := 0, embedded := false, tag := "", pkgPath := "", byteOffset := 0 } := by kernel_rfl
@[go_sem] theorem fi65_1 : fieldOf Try.prog 65 1 = some { name := "Type", type := 3, offset := 1, embedded := false, tag := "", pkgPath := "", byteOffset := 16 } := by kernel_rfl
@[go_sem] theorem fi65_2 : fieldOf Try.prog 65 2 = some { name := "Class", type := 3, offset := 2, embedded := false, tag := "", pkgPath := "", byteOffset := 24 } := by kernel_rfl
attribute [go_sem] Try.underlying66
@[go_sem] theorem ce66 : Try.prog.cellsOf 66 = 3 := by kernel_rfl
@[go_sem] theorem by66 : Try.prog.bytesOf 66 = 32 := by kernel_rfl
@[go_sem] theorem ag66 : isAg Try.prog 66 = true := by kernel_rfl
@[go_sem] theorem fl66 : flatTags Try.prog 66 = some [1, 0, 0] := by kernel_rfl
@[go_sem] theorem ze66 : zeroCs Try.prog 66 = some [.v (.string { data := #[] }), .v (.int .i64 0), .v (.int .i64 0)] := by kernel_rfl
@[go_sem] theorem se66 : selfTy Try.prog 66 = false := by kernel_rfl
@[go_sem] theorem fi66_0 : fieldOf Try.prog 66 0 = some { name := "Name", type := 9, offset := 0, embedded := false, tag := "", pkgPath := "", byteOffset := 0 } := by kernel_rfl
@[go_sem] theorem fi66_1 : fieldOf Try.prog 66 1 = some { name := "Type", type := 3, offset := 1, embedded := false, tag := "", pkgPath := "", byteOffset := 16 } := by kernel_rfl
@[go_sem] theorem fi66_2 : fieldOf Try.prog 66 2 = some { name := "Class", type := 3, offset := 2, embedded := false, tag := "", pkgPath := "", byteOffset := 24 } := by kernel_rfl
attribute [go_sem] Try.underlying67
@[go_sem] theorem ce67 : Try.prog.cellsOf 67 = 5 := by kernel_rfl
@[go_sem] theorem by67 : Try.prog.bytesOf 67 = 56 := by kernel_rfl
@[go_sem] theorem ag67 : isAg Try.prog 67 = true := by kernel_rfl
@[go_sem] theorem ze67 : zeroCs Try.prog 67 = some [.v (.string { data := #[] }), .v (.int .i64 0), .v (.int .i64 0), .v (.int .i64 0), .v (.string { data := #[] })] := by kernel_rfl
@[go_sem] theorem se67 : selfTy Try.prog 67 = false := by kernel_rfl
@[go_sem] theorem fi67_0 : fieldOf Try.prog 67 0 = some { name := "Name", type := 9, offset := 0, embedded := false, tag := "", pkgPath := "", byteOffset := 0 } := by kernel_rfl
@[go_sem] theorem fi67_1 : fieldOf Try.prog 67 1 = some { name := "Type", type := 3, offset := 1, embedded := false, tag := "", pkgPath := "", byteOffset := 16 } := by kernel_rfl
@[go_sem] theorem fi67_2 : fieldOf Try.prog 67 2 = some { name := "Class", type := 3, offset := 2, embedded := false, tag := "", pkgPath := "", byteOffset := 24 } := by kernel_rfl
@[go_sem] theorem fi67_3 : fieldOf Try.prog 67 3 = some { name := "TTL", type := 3, offset := 3, embedded := false, tag := "", pkgPath := "", byteOffset := 32 } := by kernel_rfl
@[go_sem] theorem fi67_4 : fieldOf Try.prog 67 4 = some { name := "Data", type := 9, offset := 4, embedded := false, tag := "", pkgPath := "", byteOffset := 40 } := by kernel_rfl
attribute [go_sem] Try.underlying68
@[go_sem] theorem ce68 : Try.prog.cellsOf 68 = 5 := by kernel_rfl
@[go_sem] theorem by68 : Try.prog.bytesOf 68 = 56 := by kernel_rfl
@[go_sem] theorem ag68 : isAg Try.prog 68 = true := by kernel_rfl
@[go_sem] theorem fl68 : flatTags Try.prog 68 = some [1, 0, 0, 0, 1] := by kernel_rfl
@[go_sem] theorem ze68 : zeroCs Try.prog 68 = some [.v (.string { data := #[] }), .v (.int .i64 0), .v (.int .i64 0), .v (.int .i64 0), .v (.string { data := #[] })] := by kernel_rfl
@[go_sem] theorem se68 : selfTy Try.prog 68 = false := by kernel_rfl
@[go_sem] theorem fi68_0 : fieldOf Try.prog 68 0 = some { name := "Name", type := 9, offset := 0, embedded := false, tag := "", pkgPath := "", byteOffset := 0 } := by kernel_rfl
@[go_sem] theorem fi68_1 : fieldOf Try.prog 68 1 = some { name := "Type", type := 3, offset := 1, embedded := false, tag := "", pkgPath := "", byteOffset := 16 } := by kernel_rfl
@[go_sem] theorem fi68_2 : fieldOf Try.prog 68 2 = some { name := "Class", type := 3, offset := 2, embedded := false, tag := "", pkgPath := "", byteOffset := 24 } := by kernel_rfl
@[go_sem] theorem fi68_3 : fieldOf Try.prog 68 3 = some { name := "TTL", type := 3, offset := 3, embedded := false, tag := "", pkgPath := "", byteOffset := 32 } := by kernel_rfl
@[go_sem] theorem fi68_4 : fieldOf Try.prog 68 4 = some { name := "Data", type := 9, offset := 4, embedded := false, tag := "", pkgPath := "", byteOffset := 40 } := by kernel_rfl
attribute [go_sem] Try.underlying69
@[go_sem] theorem ce69 : Try.prog.cellsOf 69 = 3 := by kernel_rfl
@[go_sem] theorem by69 : Try.prog.bytesOf 69 = 72 := by kernel_rfl
@[go_sem] theorem ag69 : isAg Try.prog 69 = true := by kernel_rfl
@[go_sem] theorem ar69 : arrTy Try.prog 69 = some (3, 23) := by kernel_rfl
@[go_sem] theorem ze69 : zeroCs Try.prog 69 = some [.emp, .emp, .emp] := by kernel_rfl
@[go_sem] theorem se69 : selfTy Try.prog 69 = false := by kernel_rfl
attribute [go_sem] Try.underlying70
@[go_sem] theorem ce70 : Try.prog.cellsOf 70 = 1 := by kernel_rfl
@[go_sem] theorem by70 : Try.prog.bytesOf 70 = 8 := by kernel_rfl
@[go_sem] theorem ag70 : isAg Try.prog 70 = false := by kernel_rfl
@[go_sem] theorem ze70 : zeroCs Try.prog 70 = some [.v .nilFunc] := by kernel_rfl
@[go_sem] theorem se70 : selfTy Try.prog 70 = false := by kernel_rfl
attribute [go_sem] Try.underlying71
@[go_sem] theorem ce71 : Try.prog.cellsOf 71 = 3 := by kernel_rfl
@[go_sem] theorem by71 : Try.prog.bytesOf 71 = 24 := by kernel_rfl
@[go_sem] theorem ag71 : isAg Try.prog 71 = true := by kernel_rfl
@[go_sem] theorem ar71 : arrTy Try.prog 71 = some (3, 3) := by kernel_rfl
@[go_sem] theorem ze71 : zeroCs Try.prog 71 = some [.v (.int .i64 0), .v (.int .i64 0), .v (.int .i64 0)] := by kernel_rfl
@[go_sem] theorem se71 : selfTy Try.prog 71 = false := by kernel_rfl
attribute [go_sem] Try.underlying72
@[go_sem] theorem ce72 : Try.prog.cellsOf 72 = 1 := by kernel_rfl
@[go_sem] theorem by72 : Try.prog.bytesOf 72 = 8 := by kernel_rfl
@[go_sem] theorem ag72 : isAg Try.prog 72 = false := by kernel_rfl
@[go_sem] theorem ze72 : zeroCs Try.prog 72 = some [.v (.pointer none)] := by kernel_rfl
@[go_sem] theorem se72 : selfTy Try.prog 72 = false := by kernel_rfl
attribute [go_sem] Try.underlying73
@[go_sem] theorem ce73 : Try.prog.cellsOf 73 = 3 := by kernel_rfl
@[go_sem] theorem by73 : Try.prog.bytesOf 73 = 24 := by kernel_rfl
@[go_sem] theorem ag73 : isAg Try.prog 73 = true := by kernel_rfl
@[go_sem] theorem ar73 : arrTy Try.prog 73 = some (3, 72) := by kernel_rfl
@[go_sem] theorem ze73 : zeroCs Try.prog 73 = some [.v (.pointer none), .v (.pointer none), .v (.pointer none)] := by kernel_rfl
@[go_sem] theorem se73 : selfTy Try.prog 73 = false := by kernel_rfl
attribute [go_sem] Try.underlying74
@[go_sem] theorem ce74 : Try.prog.cellsOf 74 = 1 := by kernel_rfl
@[go_sem] theorem by74 : Try.prog.bytesOf 74 = 8 := by kernel_rfl
@[go_sem] theorem ag74 : isAg Try.prog 74 = false := by kernel_rfl
@[go_sem] theorem ze74 : zeroCs Try.prog 74 = some [.v .nilFunc] := by kernel_rfl
@[go_sem] theorem se74 : selfTy Try.prog 74 = false := by kernel_rfl
attribute [go_sem] Try.underlying75
@[go_sem] theorem ce75 : Try.prog.cellsOf 75 = 1 := by kernel_rfl
@[go_sem] theorem by75 : Try.prog.bytesOf 75 = 8 := by kernel_rfl
@[go_sem] theorem ag75 : isAg Try.prog 75 = false := by kernel_rfl
@[go_sem] theorem ze75 : zeroCs Try.prog 75 = some [.v (.pointer none)] := by kernel_rfl
@[go_sem] theorem se75 : selfTy Try.prog 75 = false := by kernel_rfl
attribute [go_sem] Try.underlying76
@[go_sem] theorem ce76 : Try.prog.cellsOf 76 = 1 := by kernel_rfl
@[go_sem] theorem by76 : Try.prog.bytesOf 76 = 8 := by kernel_rfl
@[go_sem] theorem ag76 : isAg Try.prog 76 = false := by kernel_rfl
@[go_sem] theorem ze76 : zeroCs Try.prog 76 = some [.v .nilFunc] := by kernel_rfl
@[go_sem] theorem se76 : selfTy Try.prog 76 = false := by kernel_rfl
attribute [go_sem] Try.underlying77
@[go_sem] theorem ce77 : Try.prog.cellsOf 77 = 1 := by kernel_rfl
@[go_sem] theorem by77 : Try.prog.bytesOf 77 = 8 := by kernel_rfl
@[go_sem] theorem ag77 : isAg Try.prog 77 = false := by kernel_rfl
@[go_sem] theorem ze77 : zeroCs Try.prog 77 = some [.v .nilFunc] := by kernel_rfl
@[go_sem] theorem se77 : selfTy Try.prog 77 = false := by kernel_rfl
attribute [go_sem] Try.underlying78
@[go_sem] theorem ce78 : Try.prog.cellsOf 78 = 1 := by kernel_rfl
@[go_sem] theorem by78 : Try.prog.bytesOf 78 = 8 := by kernel_rfl
@[go_sem] theorem ag78 : isAg Try.prog 78 = false := by kernel_rfl
@[go_sem] theorem ze78 : zeroCs Try.prog 78 = some [.v .nilFunc] := by kernel_rfl
@[go_sem] theorem se78 : selfTy Try.prog 78 = false := by kernel_rfl
attribute [go_sem] Try.underlying79
@[go_sem] theorem ce79 : Try.prog.cellsOf 79 = 1 := by kernel_rfl
@[go_sem] theorem by79 : Try.prog.bytesOf 79 = 8 := by kernel_rfl
@[go_sem] theorem ag79 : isAg Try.prog 79 = false := by kernel_rfl
@[go_sem] theorem ze79 : zeroCs Try.prog 79 = some [.v .nilFunc] := by kernel_rfl
@[go_sem] theorem se79 : selfTy Try.prog 79 = false := by kernel_rfl
attribute [go_sem] Try.underlying80
@[go_sem] theorem ce80 : Try.prog.cellsOf 80 = 1 := by kernel_rfl
@[go_sem] theorem by80 : Try.prog.bytesOf 80 = 8 := by kernel_rfl
@[go_sem] theorem ag80 : isAg Try.prog 80 = false := by kernel_rfl
@[go_sem] theorem ze80 : zeroCs Try.prog 80 = some [.v (.pointer none)] := by kernel_rfl
@[go_sem] theorem se80 : selfTy Try.prog 80 = false := by kernel_rfl
attribute [go_sem] Try.underlying81
@[go_sem] theorem ce81 : Try.prog.cellsOf 81 = 3 := by kernel_rfl
@[go_sem] theorem by81 : Try.prog.bytesOf 81 = 40 := by kernel_rfl
@[go_sem] theorem ag81 : isAg Try.prog 81 = true := by kernel_rfl
@[go_sem] theorem ze81 : zeroCs Try.prog 81 = some [.emp, .v (.int .i64 0), .v (.int .i64 0)] := by kernel_rfl
@[go_sem] theorem se81 : selfTy Try.prog 81 = false := by kernel_rfl
@[go_sem] theorem fi81_0 : fieldOf Try.prog 81 0 = some { name := "b", type := 29, offset := 0, embedded := false, tag := "", pkgPath := "bellwether/packet", byteOffset := 0 } := by kernel_rfl
@[go_sem] theorem fi81_1 : fieldOf Try.prog 81 1 = some { name := "at", type := 3, offset := 1, embedded := false, tag := "", pkgPath := "bellwether/packet", byteOffset := 24 } := by kernel_rfl
@[go_sem] theorem fi81_2 : fieldOf Try.prog 81 2 = some { name := "e", type := 30, offset := 2, embedded := false, tag := "", pkgPath := "bellwether/packet", byteOffset := 32 } := by kernel_rfl
attribute [go_sem] Try.underlying82
@[go_sem] theorem ce82 : Try.prog.cellsOf 82 = 3 := by kernel_rfl
@[go_sem] theorem by82 : Try.prog.bytesOf 82 = 40 := by kernel_rfl
@[go_sem] theorem ag82 : isAg Try.prog 82 = true := by kernel_rfl
@[go_sem] theorem ze82 : zeroCs Try.prog 82 = some [.emp, .v (.int .i64 0), .v (.int .i64 0)] := by kernel_rfl
@[go_sem] theorem se82 : selfTy Try.prog 82 = false := by kernel_rfl
@[go_sem] theorem fi82_0 : fieldOf Try.prog 82 0 = some { name := "b", type := 29, offset := 0, embedded := false, tag := "", pkgPath := "bellwether/packet", byteOffset := 0 } := by kernel_rfl
@[go_sem] theorem fi82_1 : fieldOf Try.prog 82 1 = some { name := "at", type := 3, offset := 1, embedded := false, tag := "", pkgPath := "bellwether/packet", byteOffset := 24 } := by kernel_rfl
@[go_sem] theorem fi82_2 : fieldOf Try.prog 82 2 = some { name := "e", type := 30, offset := 2, embedded := false, tag := "", pkgPath := "bellwether/packet", byteOffset := 32 } := by kernel_rfl
attribute [go_sem] Try.underlying83
@[go_sem] theorem ce83 : Try.prog.cellsOf 83 = 1 := by kernel_rfl
@[go_sem] theorem by83 : Try.prog.bytesOf 83 = 8 := by kernel_rfl
@[go_sem] theorem ag83 : isAg Try.prog 83 = false := by kernel_rfl
@[go_sem] theorem ze83 : zeroCs Try.prog 83 = some [.v .nilFunc] := by kernel_rfl
@[go_sem] theorem se83 : selfTy Try.prog 83 = false := by kernel_rfl
attribute [go_sem] Try.underlying84
@[go_sem] theorem ce84 : Try.prog.cellsOf 84 = 1 := by kernel_rfl
@[go_sem] theorem by84 : Try.prog.bytesOf 84 = 8 := by kernel_rfl
@[go_sem] theorem ag84 : isAg Try.prog 84 = false := by kernel_rfl
@[go_sem] theorem ze84 : zeroCs Try.prog 84 = some [.v .nilFunc] := by kernel_rfl
@[go_sem] theorem se84 : selfTy Try.prog 84 = false := by kernel_rfl
attribute [go_sem] Try.underlying85
@[go_sem] theorem ce85 : Try.prog.cellsOf 85 = 1 := by kernel_rfl
@[go_sem] theorem by85 : Try.prog.bytesOf 85 = 8 := by kernel_rfl
@[go_sem] theorem ag85 : isAg Try.prog 85 = false := by kernel_rfl
@[go_sem] theorem ze85 : zeroCs Try.prog 85 = some [.v .nilFunc] := by kernel_rfl
@[go_sem] theorem se85 : selfTy Try.prog 85 = false := by kernel_rfl
attribute [go_sem] Try.underlying86
@[go_sem] theorem ce86 : Try.prog.cellsOf 86 = 1 := by kernel_rfl
@[go_sem] theorem by86 : Try.prog.bytesOf 86 = 8 := by kernel_rfl
@[go_sem] theorem ag86 : isAg Try.prog 86 = false := by kernel_rfl
@[go_sem] theorem ze86 : zeroCs Try.prog 86 = some [.v .nilFunc] := by kernel_rfl
@[go_sem] theorem se86 : selfTy Try.prog 86 = false := by kernel_rfl
attribute [go_sem] Try.underlying87
@[go_sem] theorem ce87 : Try.prog.cellsOf 87 = 1 := by kernel_rfl
@[go_sem] theorem by87 : Try.prog.bytesOf 87 = 24 := by kernel_rfl
@[go_sem] theorem ag87 : isAg Try.prog 87 = false := by kernel_rfl
@[go_sem] theorem el87 : elemTy Try.prog 87 = some 9 := by kernel_rfl
@[go_sem] theorem ze87 : zeroCs Try.prog 87 = some [.emp] := by kernel_rfl
@[go_sem] theorem se87 : selfTy Try.prog 87 = false := by kernel_rfl
attribute [go_sem] Try.underlying89
@[go_sem] theorem ce89 : Try.prog.cellsOf 89 = 1 := by kernel_rfl
@[go_sem] theorem by89 : Try.prog.bytesOf 89 = 8 := by kernel_rfl
@[go_sem] theorem ag89 : isAg Try.prog 89 = false := by kernel_rfl
@[go_sem] theorem ze89 : zeroCs Try.prog 89 = some [.v .nilFunc] := by kernel_rfl
@[go_sem] theorem se89 : selfTy Try.prog 89 = false := by kernel_rfl
attribute [go_sem] Try.underlying90
@[go_sem] theorem ce90 : Try.prog.cellsOf 90 = 1 := by kernel_rfl
@[go_sem] theorem by90 : Try.prog.bytesOf 90 = 8 := by kernel_rfl
@[go_sem] theorem ag90 : isAg Try.prog 90 = false := by kernel_rfl
@[go_sem] theorem ze90 : zeroCs Try.prog 90 = some [.v (.pointer none)] := by kernel_rfl
@[go_sem] theorem se90 : selfTy Try.prog 90 = false := by kernel_rfl
attribute [go_sem] Try.underlying91
@[go_sem] theorem ce91 : Try.prog.cellsOf 91 = 2 := by kernel_rfl
@[go_sem] theorem by91 : Try.prog.bytesOf 91 = 32 := by kernel_rfl
@[go_sem] theorem ag91 : isAg Try.prog 91 = true := by kernel_rfl
@[go_sem] theorem ze91 : zeroCs Try.prog 91 = some [.v (.pointer none), .emp] := by kernel_rfl
@[go_sem] theorem se91 : selfTy Try.prog 91 = false := by kernel_rfl
@[go_sem] theorem fi91_0 : fieldOf Try.prog 91 0 = some { name := "addr", type := 90, offset := 0, embedded := false, tag := "", pkgPath := "strings", byteOffset := 0 } := by kernel_rfl
@[go_sem] theorem fi91_1 : fieldOf Try.prog 91 1 = some { name := "buf", type := 29, offset := 1, embedded := false, tag := "", pkgPath := "strings", byteOffset := 8 } := by kernel_rfl
attribute [go_sem] Try.underlying92
@[go_sem] theorem ce92 : Try.prog.cellsOf 92 = 2 := by kernel_rfl
@[go_sem] theorem by92 : Try.prog.bytesOf 92 = 32 := by kernel_rfl
@[go_sem] theorem ag92 : isAg Try.prog 92 = true := by kernel_rfl
@[go_sem] theorem ze92 : zeroCs Try.prog 92 = some [.v (.pointer none), .emp] := by kernel_rfl
@[go_sem] theorem se92 : selfTy Try.prog 92 = true := by kernel_rfl
@[go_sem] theorem fi92_0 : fieldOf Try.prog 92 0 = some { name := "addr", type := 90, offset := 0, embedded := false, tag := "", pkgPath := "strings", byteOffset := 0 } := by kernel_rfl
@[go_sem] theorem fi92_1 : fieldOf Try.prog 92 1 = some { name := "buf", type := 29, offset := 1, embedded := false, tag := "", pkgPath := "strings", byteOffset := 8 } := by kernel_rfl
attribute [go_sem] Try.underlying96
@[go_sem] theorem ce96 : Try.prog.cellsOf 96 = 1 := by kernel_rfl
@[go_sem] theorem by96 : Try.prog.bytesOf 96 = 8 := by kernel_rfl
@[go_sem] theorem ag96 : isAg Try.prog 96 = false := by kernel_rfl
@[go_sem] theorem ze96 : zeroCs Try.prog 96 = some [.v .nilFunc] := by kernel_rfl
@[go_sem] theorem se96 : selfTy Try.prog 96 = false := by kernel_rfl
attribute [go_sem] Try.underlying97
@[go_sem] theorem ce97 : Try.prog.cellsOf 97 = 1 := by kernel_rfl
@[go_sem] theorem by97 : Try.prog.bytesOf 97 = 8 := by kernel_rfl
@[go_sem] theorem ag97 : isAg Try.prog 97 = false := by kernel_rfl
@[go_sem] theorem ze97 : zeroCs Try.prog 97 = some [.v .nilFunc] := by kernel_rfl
@[go_sem] theorem se97 : selfTy Try.prog 97 = false := by kernel_rfl
attribute [go_sem] Try.underlying98
@[go_sem] theorem ce98 : Try.prog.cellsOf 98 = 1 := by kernel_rfl
@[go_sem] theorem by98 : Try.prog.bytesOf 98 = 8 := by kernel_rfl
@[go_sem] theorem ag98 : isAg Try.prog 98 = false := by kernel_rfl
@[go_sem] theorem ze98 : zeroCs Try.prog 98 = some [.v (.int .u64 0)] := by kernel_rfl
@[go_sem] theorem se98 : selfTy Try.prog 98 = false := by kernel_rfl
attribute [go_sem] Try.underlying99
@[go_sem] theorem ce99 : Try.prog.cellsOf 99 = 1 := by kernel_rfl
@[go_sem] theorem by99 : Try.prog.bytesOf 99 = 8 := by kernel_rfl
@[go_sem] theorem ag99 : isAg Try.prog 99 = false := by kernel_rfl
@[go_sem] theorem ze99 : zeroCs Try.prog 99 = some [.v .nilFunc] := by kernel_rfl
@[go_sem] theorem se99 : selfTy Try.prog 99 = false := by kernel_rfl
attribute [go_sem] Try.underlying100
@[go_sem] theorem ce100 : Try.prog.cellsOf 100 = 1 := by kernel_rfl
@[go_sem] theorem by100 : Try.prog.bytesOf 100 = 8 := by kernel_rfl
@[go_sem] theorem ag100 : isAg Try.prog 100 = false := by kernel_rfl
@[go_sem] theorem ze100 : zeroCs Try.prog 100 = some [.v .nilFunc] := by kernel_rfl
@[go_sem] theorem se100 : selfTy Try.prog 100 = false := by kernel_rfl
attribute [go_sem] Try.underlying101
@[go_sem] theorem ce101 : Try.prog.cellsOf 101 = 1 := by kernel_rfl
@[go_sem] theorem by101 : Try.prog.bytesOf 101 = 8 := by kernel_rfl
@[go_sem] theorem ag101 : isAg Try.prog 101 = false := by kernel_rfl
@[go_sem] theorem ze101 : zeroCs Try.prog 101 = some [.v .nilFunc] := by kernel_rfl
@[go_sem] theorem se101 : selfTy Try.prog 101 = false := by kernel_rfl
attribute [go_sem] Try.underlying102
@[go_sem] theorem ce102 : Try.prog.cellsOf 102 = 1 := by kernel_rfl
@[go_sem] theorem by102 : Try.prog.bytesOf 102 = 8 := by kernel_rfl
@[go_sem] theorem ag102 : isAg Try.prog 102 = false := by kernel_rfl
@[go_sem] theorem ze102 : zeroCs Try.prog 102 = some [.v .nilFunc] := by kernel_rfl
@[go_sem] theorem se102 : selfTy Try.prog 102 = false := by kernel_rfl
attribute [go_sem] Try.underlying103
@[go_sem] theorem ce103 : Try.prog.cellsOf 103 = 1 := by kernel_rfl
@[go_sem] theorem by103 : Try.prog.bytesOf 103 = 8 := by kernel_rfl
@[go_sem] theorem ag103 : isAg Try.prog 103 = false := by kernel_rfl
@[go_sem] theorem ze103 : zeroCs Try.prog 103 = some [.v .nilFunc] := by kernel_rfl
@[go_sem] theorem se103 : selfTy Try.prog 103 = false := by kernel_rfl
attribute [go_sem] Try.underlying104
@[go_sem] theorem ce104 : Try.prog.cellsOf 104 = 1 := by kernel_rfl
@[go_sem] theorem by104 : Try.prog.bytesOf 104 = 8 := by kernel_rfl
@[go_sem] theorem ag104 : isAg Try.prog 104 = false := by kernel_rfl
@[go_sem] theorem ze104 : zeroCs Try.prog 104 = some [.v .nilFunc] := by kernel_rfl
@[go_sem] theorem se104 : selfTy Try.prog 104 = false := by kernel_rfl
attribute [go_sem] Try.underlying105
@[go_sem] theorem ce105 : Try.prog.cellsOf 105 = 1 := by kernel_rfl
@[go_sem] theorem by105 : Try.prog.bytesOf 105 = 8 := by kernel_rfl
@[go_sem] theorem ag105 : isAg Try.prog 105 = false := by kernel_rfl
@[go_sem] theorem ze105 : zeroCs Try.prog 105 = some [.v .nilFunc] := by kernel_rfl
@[go_sem] theorem se105 : selfTy Try.prog 105 = false := by kernel_rfl
attribute [go_sem] Try.underlying106
@[go_sem] theorem ce106 : Try.prog.cellsOf 106 = 1 := by kernel_rfl
@[go_sem] theorem by106 : Try.prog.bytesOf 106 = 8 := by kernel_rfl
@[go_sem] theorem ag106 : isAg Try.prog 106 = false := by kernel_rfl
@[go_sem] theorem ze106 : zeroCs Try.prog 106 = some [.v .nilFunc] := by kernel_rfl
@[go_sem] theorem se106 : selfTy Try.prog 106 = false := by kernel_rfl
attribute [go_sem] Try.underlying107
@[go_sem] theorem ce107 : Try.prog.cellsOf 107 = 1 := by kernel_rfl
@[go_sem] theorem by107 : Try.prog.bytesOf 107 = 8 := by kernel_rfl
@[go_sem] theorem ag107 : isAg Try.prog 107 = false := by kernel_rfl
@[go_sem] theorem ze107 : zeroCs Try.prog 107 = some [.v .nilFunc] := by kernel_rfl
@[go_sem] theorem se107 : selfTy Try.prog 107 = false := by kernel_rfl
attribute [go_sem] Try.underlying108
@[go_sem] theorem ce108 : Try.prog.cellsOf 108 = 64 := by kernel_rfl
@[go_sem] theorem by108 : Try.prog.bytesOf 108 = 64 := by kernel_rfl
@[go_sem] theorem ag108 : isAg Try.prog 108 = true := by kernel_rfl
@[go_sem] theorem ar108 : arrTy Try.prog 108 = some (64, 5) := by kernel_rfl
@[go_sem] theorem ok108 : eqOk Try.prog 108 = true := by kernel_rfl
@[go_sem] theorem ze108 : zeroCs Try.prog 108 = some (bytesC (zerosB 64)) := by kernel_rfl
@[go_sem] theorem se108 : selfTy Try.prog 108 = false := by kernel_rfl
attribute [go_sem] Try.underlying109
@[go_sem] theorem ce109 : Try.prog.cellsOf 109 = 1 := by kernel_rfl
@[go_sem] theorem by109 : Try.prog.bytesOf 109 = 8 := by kernel_rfl
@[go_sem] theorem ag109 : isAg Try.prog 109 = false := by kernel_rfl
@[go_sem] theorem ze109 : zeroCs Try.prog 109 = some [.v .nilFunc] := by kernel_rfl
@[go_sem] theorem se109 : selfTy Try.prog 109 = false := by kernel_rfl
attribute [go_sem] Try.underlying110
@[go_sem] theorem ce110 : Try.prog.cellsOf 110 = 1 := by kernel_rfl
@[go_sem] theorem by110 : Try.prog.bytesOf 110 = 8 := by kernel_rfl
@[go_sem] theorem ag110 : isAg Try.prog 110 = false := by kernel_rfl
@[go_sem] theorem ze110 : zeroCs Try.prog 110 = some [.v .nilFunc] := by kernel_rfl
@[go_sem] theorem se110 : selfTy Try.prog 110 = false := by kernel_rfl
attribute [go_sem] Try.underlying111
@[go_sem] theorem ce111 : Try.prog.cellsOf 111 = 1 := by kernel_rfl
@[go_sem] theorem by111 : Try.prog.bytesOf 111 = 8 := by kernel_rfl
@[go_sem] theorem ag111 : isAg Try.prog 111 = false := by kernel_rfl
@[go_sem] theorem ze111 : zeroCs Try.prog 111 = some [.v .nilFunc] := by kernel_rfl
@[go_sem] theorem se111 : selfTy Try.prog 111 = false := by kernel_rfl
attribute [go_sem] Try.underlying112
@[go_sem] theorem ce112 : Try.prog.cellsOf 112 = 1 := by kernel_rfl
@[go_sem] theorem by112 : Try.prog.bytesOf 112 = 24 := by kernel_rfl
@[go_sem] theorem ag112 : isAg Try.prog 112 = false := by kernel_rfl
@[go_sem] theorem el112 : elemTy Try.prog 112 = some 3 := by kernel_rfl
@[go_sem] theorem ze112 : zeroCs Try.prog 112 = some [.emp] := by kernel_rfl
@[go_sem] theorem se112 : selfTy Try.prog 112 = false := by kernel_rfl
attribute [go_sem] Try.underlying113
@[go_sem] theorem ce113 : Try.prog.cellsOf 113 = 1 := by kernel_rfl
@[go_sem] theorem by113 : Try.prog.bytesOf 113 = 8 := by kernel_rfl
@[go_sem] theorem ag113 : isAg Try.prog 113 = false := by kernel_rfl
@[go_sem] theorem ze113 : zeroCs Try.prog 113 = some [.v .nilFunc] := by kernel_rfl
@[go_sem] theorem se113 : selfTy Try.prog 113 = false := by kernel_rfl
attribute [go_sem] Try.underlying114
@[go_sem] theorem ce114 : Try.prog.cellsOf 114 = 1 := by kernel_rfl
@[go_sem] theorem by114 : Try.prog.bytesOf 114 = 8 := by kernel_rfl
@[go_sem] theorem ag114 : isAg Try.prog 114 = false := by kernel_rfl
@[go_sem] theorem ze114 : zeroCs Try.prog 114 = some [.v (.pointer none)] := by kernel_rfl
@[go_sem] theorem se114 : selfTy Try.prog 114 = false := by kernel_rfl
attribute [go_sem] Try.underlying115
@[go_sem] theorem ce115 : Try.prog.cellsOf 115 = 1 := by kernel_rfl
@[go_sem] theorem by115 : Try.prog.bytesOf 115 = 8 := by kernel_rfl
@[go_sem] theorem ag115 : isAg Try.prog 115 = false := by kernel_rfl
@[go_sem] theorem ze115 : zeroCs Try.prog 115 = some [.v .nilFunc] := by kernel_rfl
@[go_sem] theorem se115 : selfTy Try.prog 115 = false := by kernel_rfl
attribute [go_sem] Try.underlying116
@[go_sem] theorem ce116 : Try.prog.cellsOf 116 = 1 := by kernel_rfl
@[go_sem] theorem by116 : Try.prog.bytesOf 116 = 8 := by kernel_rfl
@[go_sem] theorem ag116 : isAg Try.prog 116 = false := by kernel_rfl
@[go_sem] theorem ze116 : zeroCs Try.prog 116 = some [.v .nilFunc] := by kernel_rfl
@[go_sem] theorem se116 : selfTy Try.prog 116 = false := by kernel_rfl
attribute [go_sem] Try.underlying118
@[go_sem] theorem ce118 : Try.prog.cellsOf 118 = 1 := by kernel_rfl
@[go_sem] theorem by118 : Try.prog.bytesOf 118 = 8 := by kernel_rfl
@[go_sem] theorem ag118 : isAg Try.prog 118 = false := by kernel_rfl
@[go_sem] theorem ze118 : zeroCs Try.prog 118 = some [.v .nilFunc] := by kernel_rfl
@[go_sem] theorem se118 : selfTy Try.prog 118 = false := by kernel_rfl
attribute [go_sem] Try.underlying120
@[go_sem] theorem ce120 : Try.prog.cellsOf 120 = 1 := by kernel_rfl
@[go_sem] theorem by120 : Try.prog.bytesOf 120 = 8 := by kernel_rfl
@[go_sem] theorem ag120 : isAg Try.prog 120 = false := by kernel_rfl
@[go_sem] theorem ze120 : zeroCs Try.prog 120 = some [.v .nilFunc] := by kernel_rfl
@[go_sem] theorem se120 : selfTy Try.prog 120 = false := by kernel_rfl
attribute [go_sem] Try.underlying122
@[go_sem] theorem ce122 : Try.prog.cellsOf 122 = 1 := by kernel_rfl
@[go_sem] theorem by122 : Try.prog.bytesOf 122 = 8 := by kernel_rfl
@[go_sem] theorem ag122 : isAg Try.prog 122 = false := by kernel_rfl
@[go_sem] theorem ze122 : zeroCs Try.prog 122 = some [.v .nilFunc] := by kernel_rfl
@[go_sem] theorem se122 : selfTy Try.prog 122 = false := by kernel_rfl
attribute [go_sem] Try.underlying125
@[go_sem] theorem ce125 : Try.prog.cellsOf 125 = 1 := by kernel_rfl
@[go_sem] theorem by125 : Try.prog.bytesOf 125 = 8 := by kernel_rfl
@[go_sem] theorem ag125 : isAg Try.prog 125 = false := by kernel_rfl
@[go_sem] theorem ze125 : zeroCs Try.prog 125 = some [.v .nilFunc] := by kernel_rfl
@[go_sem] theorem se125 : selfTy Try.prog 125 = false := by kernel_rfl
attribute [go_sem] Try.underlying126
@[go_sem] theorem ce126 : Try.prog.cellsOf 126 = 1 := by kernel_rfl
@[go_sem] theorem by126 : Try.prog.bytesOf 126 = 8 := by kernel_rfl
@[go_sem] theorem ag126 : isAg Try.prog 126 = false := by kernel_rfl
@[go_sem] theorem ze126 : zeroCs Try.prog 126 = some [.v .nilFunc] := by kernel_rfl
@[go_sem] theorem se126 : selfTy Try.prog 126 = false := by kernel_rfl
attribute [go_sem] Try.underlying127
@[go_sem] theorem ce127 : Try.prog.cellsOf 127 = 1 := by kernel_rfl
@[go_sem] theorem by127 : Try.prog.bytesOf 127 = 8 := by kernel_rfl
@[go_sem] theorem ag127 : isAg Try.prog 127 = false := by kernel_rfl
@[go_sem] theorem ze127 : zeroCs Try.prog 127 = some [.v .nilFunc] := by kernel_rfl
@[go_sem] theorem se127 : selfTy Try.prog 127 = false := by kernel_rfl
attribute [go_sem] Try.underlying128
@[go_sem] theorem ce128 : Try.prog.cellsOf 128 = 1 := by kernel_rfl
@[go_sem] theorem by128 : Try.prog.bytesOf 128 = 8 := by kernel_rfl
@[go_sem] theorem ag128 : isAg Try.prog 128 = false := by kernel_rfl
@[go_sem] theorem ze128 : zeroCs Try.prog 128 = some [.v .nilFunc] := by kernel_rfl
@[go_sem] theorem se128 : selfTy Try.prog 128 = false := by kernel_rfl
attribute [go_sem] Try.underlying129
@[go_sem] theorem ce129 : Try.prog.cellsOf 129 = 1 := by kernel_rfl
@[go_sem] theorem by129 : Try.prog.bytesOf 129 = 8 := by kernel_rfl
@[go_sem] theorem ag129 : isAg Try.prog 129 = false := by kernel_rfl
@[go_sem] theorem ze129 : zeroCs Try.prog 129 = some [.v (.int .u64 0)] := by kernel_rfl
@[go_sem] theorem se129 : selfTy Try.prog 129 = false := by kernel_rfl
attribute [go_sem] Try.underlying130
@[go_sem] theorem ce130 : Try.prog.cellsOf 130 = 1 := by kernel_rfl
@[go_sem] theorem by130 : Try.prog.bytesOf 130 = 4 := by kernel_rfl
@[go_sem] theorem ag130 : isAg Try.prog 130 = false := by kernel_rfl
@[go_sem] theorem ze130 : zeroCs Try.prog 130 = some [.v (.int .u32 0)] := by kernel_rfl
@[go_sem] theorem se130 : selfTy Try.prog 130 = false := by kernel_rfl
attribute [go_sem] Try.underlying131
@[go_sem] theorem ce131 : Try.prog.cellsOf 131 = 1 := by kernel_rfl
@[go_sem] theorem by131 : Try.prog.bytesOf 131 = 8 := by kernel_rfl
@[go_sem] theorem ag131 : isAg Try.prog 131 = false := by kernel_rfl
@[go_sem] theorem ze131 : zeroCs Try.prog 131 = some [.v .nilFunc] := by kernel_rfl
@[go_sem] theorem se131 : selfTy Try.prog 131 = false := by kernel_rfl
attribute [go_sem] Try.underlying132
@[go_sem] theorem ce132 : Try.prog.cellsOf 132 = 1 := by kernel_rfl
@[go_sem] theorem by132 : Try.prog.bytesOf 132 = 8 := by kernel_rfl
@[go_sem] theorem ag132 : isAg Try.prog 132 = false := by kernel_rfl
@[go_sem] theorem ze132 : zeroCs Try.prog 132 = some [.v .nilFunc] := by kernel_rfl
@[go_sem] theorem se132 : selfTy Try.prog 132 = false := by kernel_rfl
attribute [go_sem] Try.underlying133
@[go_sem] theorem ce133 : Try.prog.cellsOf 133 = 1 := by kernel_rfl
@[go_sem] theorem by133 : Try.prog.bytesOf 133 = 24 := by kernel_rfl
@[go_sem] theorem ag133 : isAg Try.prog 133 = false := by kernel_rfl
@[go_sem] theorem el133 : elemTy Try.prog 133 = some 29 := by kernel_rfl
@[go_sem] theorem ze133 : zeroCs Try.prog 133 = some [.emp] := by kernel_rfl
@[go_sem] theorem se133 : selfTy Try.prog 133 = false := by kernel_rfl
attribute [go_sem] Try.underlying134
@[go_sem] theorem ce134 : Try.prog.cellsOf 134 = 1 := by kernel_rfl
@[go_sem] theorem by134 : Try.prog.bytesOf 134 = 8 := by kernel_rfl
@[go_sem] theorem ag134 : isAg Try.prog 134 = false := by kernel_rfl
@[go_sem] theorem ze134 : zeroCs Try.prog 134 = some [.v .nilFunc] := by kernel_rfl
@[go_sem] theorem se134 : selfTy Try.prog 134 = false := by kernel_rfl
attribute [go_sem] Try.underlying135
@[go_sem] theorem ce135 : Try.prog.cellsOf 135 = 1 := by kernel_rfl
@[go_sem] theorem by135 : Try.prog.bytesOf 135 = 8 := by kernel_rfl
@[go_sem] theorem ag135 : isAg Try.prog 135 = false := by kernel_rfl
@[go_sem] theorem ze135 : zeroCs Try.prog 135 = some [.v .nilFunc] := by kernel_rfl
@[go_sem] theorem se135 : selfTy Try.prog 135 = false := by kernel_rfl
attribute [go_sem] Try.underlying136
@[go_sem] theorem ce136 : Try.prog.cellsOf 136 = 1 := by kernel_rfl
@[go_sem] theorem by136 : Try.prog.bytesOf 136 = 8 := by kernel_rfl
@[go_sem] theorem ag136 : isAg Try.prog 136 = false := by kernel_rfl
@[go_sem] theorem ze136 : zeroCs Try.prog 136 = some [.v .nilFunc] := by kernel_rfl
@[go_sem] theorem se136 : selfTy Try.prog 136 = false := by kernel_rfl
attribute [go_sem] Try.underlying137
@[go_sem] theorem ce137 : Try.prog.cellsOf 137 = 1 := by kernel_rfl
@[go_sem] theorem by137 : Try.prog.bytesOf 137 = 8 := by kernel_rfl
@[go_sem] theorem ag137 : isAg Try.prog 137 = false := by kernel_rfl
@[go_sem] theorem ze137 : zeroCs Try.prog 137 = some [.v .nilFunc] := by kernel_rfl
@[go_sem] theorem se137 : selfTy Try.prog 137 = false := by kernel_rfl
attribute [go_sem] fieldsKnown
end Go.Proofs.Ytkkhbmpcpilmfaa.VL

/- Layer 1: numbers as bytes, in plain lists. -/
set_option linter.unusedVariables false
set_option linter.unusedSimpArgs false
namespace Go.Proofs.Ytkkhbmpcpilmfaa.VL
open Go Go.RowKit Go.Lib

/-- A number's bytes: seven bits each, the lowest first; all but the last one have 128 more. -/
def nb (n : Nat) : List UInt8 := if n < 128 then [UInt8.ofNat n] else UInt8.ofNat (n % 128 + 128) :: nb (n / 128)
termination_by n
decreasing_by omega
theorem nb_small {n : Nat} (h : n < 128) : nb n = [UInt8.ofNat n] := by rw [nb, if_pos h]
theorem nb_big {n : Nat} (h : 128 ≤ n) : nb n = UInt8.ofNat (n % 128 + 128) :: nb (n / 128) := by rw [nb, if_neg (by omega)]
theorem nb_pos (n : Nat) : 0 < (nb n).length := by rw [nb]; split <;> simp
def okNum (n : Int) : Bool := decide (0 ≤ n ∧ n ≤ 4611686018427387904)
/-- What is laid of a number: nothing, if it is none. -/
def numB (n : Int) : List UInt8 := if okNum n then nb n.toNat else []
def numsB (l : List Int) : List UInt8 := l.flatMap numB

theorem nb_length_le (k : Nat) : ∀ n, n < 128 ^ k → 0 < k → (nb n).length ≤ k := by
  induction k with
  | zero => intro n _ h; omega
  | succ k ih =>
    intro n h _
    by_cases hn : n < 128
    · rw [nb_small hn]; simp
    · rw [nb_big (by omega)]
      have hk : 0 < k := by
        rcases Nat.eq_zero_or_pos k with h0 | h0
        · subst h0; simp at h; omega
        · exact h0
      have := ih (n / 128) (by rw [Nat.pow_succ] at h; omega) hk
      simp; omega
theorem numB_length_le (n : Int) : (numB n).length ≤ 9 := by
  unfold numB
  split
  · rename_i h
    simp only [okNum, decide_eq_true_eq] at h
    refine nb_length_le 9 _ ?_ (by omega)
    have : (128 : Nat) ^ 9 = 9223372036854775808 := by decide
    omega
  · simp

/-- How many bits a number has. -/
def blen (n : Nat) : Nat := if n = 0 then 0 else Nat.log2 n + 1
theorem blen_zero : blen 0 = 0 := rfl
theorem blen_half {n : Nat} (h : 0 < n) : blen n = blen (n / 2) + 1 := by
  unfold blen
  rw [if_neg (by omega)]
  by_cases h1 : n = 1
  · subst h1; decide
  · rw [if_neg (by omega), Nat.log2_def]
    rw [if_pos (by omega)]
theorem blen_shift (k : Nat) : ∀ n, 2 ^ k ≤ n → blen n = blen (n / 2 ^ k) + k := by
  induction k with
  | zero => intro n _; simp
  | succ k ih =>
    intro n h
    have hp : 0 < 2 ^ k := Nat.two_pow_pos k
    rw [Nat.pow_succ] at h
    rw [blen_half (by omega), ih (n / 2) (by omega), Nat.div_div_eq_div_mul, Nat.pow_succ, Nat.mul_comm 2]
    omega
theorem nb_length (n : Nat) : (nb n).length = max 1 ((blen n + 6) / 7) := by
  induction n using Nat.strongRecOn with
  | _ n ih =>
    by_cases h : n < 128
    · rw [nb_small h]
      have : ∀ m, m < 128 → max 1 ((blen m + 6) / 7) = 1 := by decide
      rw [this n h]; rfl
    · have h2 := blen_shift 7 n (by omega)
      have := ih (n / 128) (by omega)
      rw [nb_big (by omega), List.length_cons, this, h2]
      have hb : 0 < blen (n / 2 ^ 7) := by unfold blen; split <;> omega
      have e : (2 : Nat) ^ 7 = 128 := rfl
      rw [e] at hb ⊢
      omega
theorem blen_or_one (n : Nat) : blen (n ||| 1) = max 1 (blen n) := by
  have hd : (n ||| 1) / 2 = n / 2 := by
    have := Nat.or_div_two (a := n) (b := 1)
    simpa using this
  have hp : 0 < n ||| 1 := by
    have := Nat.right_le_or (n := n) (m := 1)
    omega
  rw [blen_half hp, hd]
  rcases Nat.eq_zero_or_pos n with h | h
  · subst h; decide
  · rw [blen_half h]; omega

end Go.Proofs.Ytkkhbmpcpilmfaa.VL

/- Layer 1: what the reference's and the program's functions on numbers' and texts' bytes compute. -/
-- STEPWISE
set_option linter.unusedVariables false
set_option linter.unusedSimpArgs false
set_option maxRecDepth 10000
namespace Go.Proofs.Ytkkhbmpcpilmfaa.VL
open Go Go.RowKit Go.Lib

/-- A call answers just this, and leaves the boxes as they were. -/
abbrev Gives (r : AV) (H : List Box) : Out → List Box → Prop := fun o H' => o = .ret r ∧ H' = H
abbrev vi (n : Int) : AV := .v (.int .i64 n)
abbrev vb (b : Bool) : AV := .v (.bool b)
abbrev vs (bs : List UInt8) : AV := .v (.string ⟨bs.toArray⟩)
abbrev vB (bs : List UInt8) : AV := .lst 1 (bytesG bs)
/-- A new row of bytes, one's own. -/
abbrev Owns (bs : List UInt8) (H : List Box) : Out → List Box → Prop := fun o H' => o = .ret (.sl H.length 0 0 bs.length 1 false) ∧ H' = H ++ [⟨bytesC bs, 0, 0, true⟩]

theorem len8_get : ∀ i, i < 256 → ((([0, 1, 2, 2, 3, 3, 3, 3, 4, 4, 4, 4, 4, 4, 4, 4, 5, 5, 5, 5, 5, 5, 5, 5, 5, 5, 5, 5, 5, 5, 5, 5, 6, 6, 6, 6, 6, 6, 6, 6, 6, 6, 6, 6, 6, 6, 6, 6, 6, 6, 6, 6, 6, 6, 6, 6, 6, 6, 6, 6, 6, 6, 6, 6] : List UInt8).append [7, 7, 7, 7, 7, 7, 7, 7, 7, 7, 7, 7, 7, 7, 7, 7, 7, 7, 7, 7, 7, 7, 7, 7, 7, 7, 7, 7, 7, 7, 7, 7, 7, 7, 7, 7, 7, 7, 7, 7, 7, 7, 7, 7, 7, 7, 7, 7, 7, 7, 7, 7, 7, 7, 7, 7, 7, 7, 7, 7, 7, 7, 7, 7]).append (([8, 8, 8, 8, 8, 8, 8, 8, 8, 8, 8, 8, 8, 8, 8, 8, 8, 8, 8, 8, 8, 8, 8, 8, 8, 8, 8, 8, 8, 8, 8, 8, 8, 8, 8, 8, 8, 8, 8, 8, 8, 8, 8, 8, 8, 8, 8, 8, 8, 8, 8, 8, 8, 8, 8, 8, 8, 8, 8, 8, 8, 8, 8, 8] : List UInt8).append [8, 8, 8, 8, 8, 8, 8, 8, 8, 8, 8, 8, 8, 8, 8, 8, 8, 8, 8, 8, 8, 8, 8, 8, 8, 8, 8, 8, 8, 8, 8, 8, 8, 8, 8, 8, 8, 8, 8, 8, 8, 8, 8, 8, 8, 8, 8, 8, 8, 8, 8, 8, 8, 8, 8, 8, 8, 8, 8, 8, 8, 8, 8, 8]))[i]? = some (UInt8.ofNat (blen i)) := by decide
theorem blen_small : ∀ i, i < 256 → blen i ≤ 8 := by decide
theorem u8_small (i : Nat) (h : i < 256) : ((UInt8.ofNat (blen i)).toNat : Int) = blen i := by
  have := blen_small i h
  simp [UInt8.toNat_ofNat']
  omega
theorem len_key (n k p m : Nat) (hp : p = 2 ^ k) (h1 : n / p = m) (h3 : k = 0 ∨ p ≤ n) : (k : Int) + (blen m : Int) = blen n := by
  subst h1; subst hp
  rcases h3 with rfl | h3
  · simp
  · rw [blen_shift k n h3]; omega
set_option maxHeartbeats 1000000 in
theorem len64_spec (n : Nat) (hn : n < 18446744073709551616) (H : List Box) : ASpec Try.prog 90 [.v (.int .u64 n)] H (Gives (vi (blen n)) H) := by
  by_cases h256 : n < 256
  · have hb := blen_small n h256
    intro base
    refine acall_body Try.func90 rfl (fun a w => Try.call90 a w) Try.ntmps90 Try.results90 (by simp) ?_
    intro w β hI
    simp only [number]
    repeat' (first
      | (refine AWP.seq ?_)
      | (refine AWP.block ?_)
      | (refine AWP.region_k fun Q' hQ' => ?_)
      | (refine AWP.draw_k rfl (by kernel_rfl) fun Q' hQ' => ?_)
      | (with_reducible refine aops.step fun T hT => ?_; simp (disch := omega) only [go_sem, Nat.reduceBEq, Nat.reduceLT, Nat.reduceEqDiff, reduceIte, Nat.reduceAdd, Nat.reduceMul, Nat.reduceSub, Nat.reduceLeDiff, Int.reduceToNat, Int.reducePow, Int.reduceLT, Int.reduceEq, Int.reduceNeg, Nat.reducePow, List.reduceReplicate, Int.reduceLE])
      | (with_reducible refine qops.step fun T hT => ?_; simp (disch := omega) only [go_sem, Nat.reduceBEq, Nat.reduceLT, Nat.reduceEqDiff, reduceIte, Nat.reduceAdd, Nat.reduceMul, Nat.reduceSub, Nat.reduceLeDiff, Int.reduceToNat, Int.reducePow, Int.reduceLT, Int.reduceEq, Int.reduceNeg, Nat.reducePow, List.reduceReplicate, Int.reduceLE])
      | (with_reducible refine aops.nil ?_)
      | (with_reducible refine qops.nil ?_)
      | (with_reducible refine hT _ ?_; clear hT T)
      | (refine AWP.skip ?_; try simp only [AExit.then, AExit.inBlock, reduceIte, Nat.reduceEqDiff])
      | (refine AWP.exit ?_; try simp only [AExit.then, AExit.inBlock, reduceIte, Nat.reduceEqDiff])
      | (refine AWP.ret ?_; try simp only [AExit.then, AExit.inBlock, reduceIte, Nat.reduceEqDiff])
      | (refine AWP.cond rfl (fun h => ?_) (fun h => ?_) <;> (try simp only [decide_eq_true_eq, decide_eq_false_iff_not, Bool.true_eq_false, Bool.false_eq_true] at h) <;> (try contradiction))
      | (refine hQ' _ _ ?_; clear hQ' Q'; try simp only [AExit.then, AExit.inBlock, reduceIte, Nat.reduceEqDiff])
      | (refine hQ' _ ?_; clear hQ' Q'; try simp only [AExit.then, AExit.inBlock, reduceIte, Nat.reduceEqDiff])
      | (with_reducible refine Branch.split (fun h => ?_) (fun h => ?_) <;> (try simp only [decide_eq_true_eq, decide_eq_false_iff_not, Bool.not_true, Bool.not_false, Bool.true_eq_false, Bool.false_eq_true] at h) <;> (try contradiction) <;> (simp (disch := omega) only [go_sem, Nat.reduceBEq, Nat.reduceLT, Nat.reduceEqDiff, reduceIte, Nat.reduceAdd, Nat.reduceMul, Nat.reduceSub, Nat.reduceLeDiff, Int.reduceToNat, Int.reducePow, Int.reduceLT, Int.reduceEq, Int.reduceNeg, Nat.reducePow, List.reduceReplicate, Int.reduceLE, h]))
      | (with_reducible intro h; try simp only [h, go_sem, Nat.reduceBEq, Nat.reduceLT, Nat.reduceEqDiff, reduceIte, Nat.reduceAdd, Nat.reduceMul, Nat.reduceSub, Nat.reduceLeDiff, Int.reduceToNat, Int.reducePow, Int.reduceLT, Int.reduceEq, Int.reduceNeg, Nat.reducePow, List.reduceReplicate, Int.reduceLE]))
    all_goals first
      | (exfalso; omega)
      | (rw [len8_get n h256]
         simp (disch := omega) only [go_sem, Nat.reduceBEq, Nat.reduceLT, Nat.reduceEqDiff, reduceIte, Nat.reduceAdd, Nat.reduceMul, Nat.reduceSub, Nat.reduceLeDiff, Int.reduceToNat, Int.reducePow, Int.reduceLT, Int.reduceEq, Int.reduceNeg, Nat.reducePow, List.reduceReplicate, Int.reduceLE, u8_small n h256]
         repeat' (first
           | (refine AWP.seq ?_)
           | (refine AWP.block ?_)
           | (refine AWP.region_k fun Q' hQ' => ?_)
           | (refine AWP.draw_k rfl (by kernel_rfl) fun Q' hQ' => ?_)
           | (with_reducible refine aops.step fun T hT => ?_; simp (disch := omega) only [go_sem, Nat.reduceBEq, Nat.reduceLT, Nat.reduceEqDiff, reduceIte, Nat.reduceAdd, Nat.reduceMul, Nat.reduceSub, Nat.reduceLeDiff, Int.reduceToNat, Int.reducePow, Int.reduceLT, Int.reduceEq, Int.reduceNeg, Nat.reducePow, List.reduceReplicate, Int.reduceLE])
           | (with_reducible refine qops.step fun T hT => ?_; simp (disch := omega) only [go_sem, Nat.reduceBEq, Nat.reduceLT, Nat.reduceEqDiff, reduceIte, Nat.reduceAdd, Nat.reduceMul, Nat.reduceSub, Nat.reduceLeDiff, Int.reduceToNat, Int.reducePow, Int.reduceLT, Int.reduceEq, Int.reduceNeg, Nat.reducePow, List.reduceReplicate, Int.reduceLE])
           | (with_reducible refine aops.nil ?_)
           | (with_reducible refine qops.nil ?_)
           | (with_reducible refine hT _ ?_; clear hT T)
           | (refine AWP.skip ?_; try simp only [AExit.then, AExit.inBlock, reduceIte, Nat.reduceEqDiff])
           | (refine AWP.exit ?_; try simp only [AExit.then, AExit.inBlock, reduceIte, Nat.reduceEqDiff])
           | (refine AWP.ret ?_; try simp only [AExit.then, AExit.inBlock, reduceIte, Nat.reduceEqDiff])
           | (refine AWP.cond rfl (fun h => ?_) (fun h => ?_) <;> (try simp only [decide_eq_true_eq, decide_eq_false_iff_not, Bool.true_eq_false, Bool.false_eq_true] at h) <;> (try contradiction))
           | (refine hQ' _ _ ?_; clear hQ' Q'; try simp only [AExit.then, AExit.inBlock, reduceIte, Nat.reduceEqDiff])
           | (refine hQ' _ ?_; clear hQ' Q'; try simp only [AExit.then, AExit.inBlock, reduceIte, Nat.reduceEqDiff])
           | (with_reducible refine Branch.split (fun h => ?_) (fun h => ?_) <;> (try simp only [decide_eq_true_eq, decide_eq_false_iff_not, Bool.not_true, Bool.not_false, Bool.true_eq_false, Bool.false_eq_true] at h) <;> (try contradiction) <;> (simp (disch := omega) only [go_sem, Nat.reduceBEq, Nat.reduceLT, Nat.reduceEqDiff, reduceIte, Nat.reduceAdd, Nat.reduceMul, Nat.reduceSub, Nat.reduceLeDiff, Int.reduceToNat, Int.reducePow, Int.reduceLT, Int.reduceEq, Int.reduceNeg, Nat.reducePow, List.reduceReplicate, Int.reduceLE, h]))
           | (with_reducible intro h; try simp only [h, go_sem, Nat.reduceBEq, Nat.reduceLT, Nat.reduceEqDiff, reduceIte, Nat.reduceAdd, Nat.reduceMul, Nat.reduceSub, Nat.reduceLeDiff, Int.reduceToNat, Int.reducePow, Int.reduceLT, Int.reduceEq, Int.reduceNeg, Nat.reducePow, List.reduceReplicate, Int.reduceLE]))
         simp only [bodyQ, go_sem, Nat.reduceBEq, Nat.reduceLT, Nat.reduceEqDiff, reduceIte, Nat.reduceAdd, Nat.reduceMul, Nat.reduceSub, Nat.reduceLeDiff, Int.reduceToNat, Int.reducePow, Int.reduceLT, Int.reduceEq, Int.reduceNeg, Nat.reducePow, List.reduceReplicate, Int.reduceLE]
         exact Fin.same ⟨rfl, rfl⟩)
  intro base
  refine acall_body Try.func90 rfl (fun a w => Try.call90 a w) Try.ntmps90 Try.results90 (by simp) ?_
  intro w β hI
  simp only [number]
  repeat' (first
    | (refine AWP.seq ?_)
    | (refine AWP.block ?_)
    | (refine AWP.region_k fun Q' hQ' => ?_)
    | (refine AWP.draw_k rfl (by kernel_rfl) fun Q' hQ' => ?_)
    | (with_reducible refine aops.step fun T hT => ?_; simp (disch := omega) only [go_sem, Nat.reduceBEq, Nat.reduceLT, Nat.reduceEqDiff, reduceIte, Nat.reduceAdd, Nat.reduceMul, Nat.reduceSub, Nat.reduceLeDiff, Int.reduceToNat, Int.reducePow, Int.reduceLT, Int.reduceEq, Int.reduceNeg, Nat.reducePow, List.reduceReplicate, Int.reduceLE])
    | (with_reducible refine qops.step fun T hT => ?_; simp (disch := omega) only [go_sem, Nat.reduceBEq, Nat.reduceLT, Nat.reduceEqDiff, reduceIte, Nat.reduceAdd, Nat.reduceMul, Nat.reduceSub, Nat.reduceLeDiff, Int.reduceToNat, Int.reducePow, Int.reduceLT, Int.reduceEq, Int.reduceNeg, Nat.reducePow, List.reduceReplicate, Int.reduceLE])
    | (with_reducible refine aops.nil ?_)
    | (with_reducible refine qops.nil ?_)
    | (with_reducible refine hT _ ?_; clear hT T)
    | (refine AWP.skip ?_; try simp only [AExit.then, AExit.inBlock, reduceIte, Nat.reduceEqDiff])
    | (refine AWP.exit ?_; try simp only [AExit.then, AExit.inBlock, reduceIte, Nat.reduceEqDiff])
    | (refine AWP.ret ?_; try simp only [AExit.then, AExit.inBlock, reduceIte, Nat.reduceEqDiff])
    | (refine AWP.cond rfl (fun h => ?_) (fun h => ?_) <;> (try simp only [decide_eq_true_eq, decide_eq_false_iff_not, Bool.true_eq_false, Bool.false_eq_true] at h) <;> (try contradiction))
    | (refine hQ' _ _ ?_; clear hQ' Q'; try simp only [AExit.then, AExit.inBlock, reduceIte, Nat.reduceEqDiff])
    | (refine hQ' _ ?_; clear hQ' Q'; try simp only [AExit.then, AExit.inBlock, reduceIte, Nat.reduceEqDiff])
    | (with_reducible refine Branch.split (fun h => ?_) (fun h => ?_) <;> (try simp only [decide_eq_true_eq, decide_eq_false_iff_not, Bool.not_true, Bool.not_false, Bool.true_eq_false, Bool.false_eq_true] at h) <;> (try contradiction) <;> (simp (disch := omega) only [go_sem, Nat.reduceBEq, Nat.reduceLT, Nat.reduceEqDiff, reduceIte, Nat.reduceAdd, Nat.reduceMul, Nat.reduceSub, Nat.reduceLeDiff, Int.reduceToNat, Int.reducePow, Int.reduceLT, Int.reduceEq, Int.reduceNeg, Nat.reducePow, List.reduceReplicate, Int.reduceLE, h]))
    | (with_reducible intro h; try simp only [h, go_sem, Nat.reduceBEq, Nat.reduceLT, Nat.reduceEqDiff, reduceIte, Nat.reduceAdd, Nat.reduceMul, Nat.reduceSub, Nat.reduceLeDiff, Int.reduceToNat, Int.reducePow, Int.reduceLT, Int.reduceEq, Int.reduceNeg, Nat.reducePow, List.reduceReplicate, Int.reduceLE]))
  all_goals first
    | (exfalso; omega)
    | (generalize hm : Int.toNat (_ : Int) = m
       have hm256 : m < 256 := by omega
       have hb := blen_small m hm256
       rw [len8_get m hm256]
       simp (disch := omega) only [go_sem, Nat.reduceBEq, Nat.reduceLT, Nat.reduceEqDiff, reduceIte, Nat.reduceAdd, Nat.reduceMul, Nat.reduceSub, Nat.reduceLeDiff, Int.reduceToNat, Int.reducePow, Int.reduceLT, Int.reduceEq, Int.reduceNeg, Nat.reducePow, List.reduceReplicate, Int.reduceLE, u8_small m hm256]
       repeat' (first
         | (refine AWP.seq ?_)
         | (refine AWP.block ?_)
         | (refine AWP.region_k fun Q' hQ' => ?_)
         | (refine AWP.draw_k rfl (by kernel_rfl) fun Q' hQ' => ?_)
         | (with_reducible refine aops.step fun T hT => ?_; simp (disch := omega) only [go_sem, Nat.reduceBEq, Nat.reduceLT, Nat.reduceEqDiff, reduceIte, Nat.reduceAdd, Nat.reduceMul, Nat.reduceSub, Nat.reduceLeDiff, Int.reduceToNat, Int.reducePow, Int.reduceLT, Int.reduceEq, Int.reduceNeg, Nat.reducePow, List.reduceReplicate, Int.reduceLE])
         | (with_reducible refine qops.step fun T hT => ?_; simp (disch := omega) only [go_sem, Nat.reduceBEq, Nat.reduceLT, Nat.reduceEqDiff, reduceIte, Nat.reduceAdd, Nat.reduceMul, Nat.reduceSub, Nat.reduceLeDiff, Int.reduceToNat, Int.reducePow, Int.reduceLT, Int.reduceEq, Int.reduceNeg, Nat.reducePow, List.reduceReplicate, Int.reduceLE])
         | (with_reducible refine aops.nil ?_)
         | (with_reducible refine qops.nil ?_)
         | (with_reducible refine hT _ ?_; clear hT T)
         | (refine AWP.skip ?_; try simp only [AExit.then, AExit.inBlock, reduceIte, Nat.reduceEqDiff])
         | (refine AWP.exit ?_; try simp only [AExit.then, AExit.inBlock, reduceIte, Nat.reduceEqDiff])
         | (refine AWP.ret ?_; try simp only [AExit.then, AExit.inBlock, reduceIte, Nat.reduceEqDiff])
         | (refine AWP.cond rfl (fun h => ?_) (fun h => ?_) <;> (try simp only [decide_eq_true_eq, decide_eq_false_iff_not, Bool.true_eq_false, Bool.false_eq_true] at h) <;> (try contradiction))
         | (refine hQ' _ _ ?_; clear hQ' Q'; try simp only [AExit.then, AExit.inBlock, reduceIte, Nat.reduceEqDiff])
         | (refine hQ' _ ?_; clear hQ' Q'; try simp only [AExit.then, AExit.inBlock, reduceIte, Nat.reduceEqDiff])
         | (with_reducible refine Branch.split (fun h => ?_) (fun h => ?_) <;> (try simp only [decide_eq_true_eq, decide_eq_false_iff_not, Bool.not_true, Bool.not_false, Bool.true_eq_false, Bool.false_eq_true] at h) <;> (try contradiction) <;> (simp (disch := omega) only [go_sem, Nat.reduceBEq, Nat.reduceLT, Nat.reduceEqDiff, reduceIte, Nat.reduceAdd, Nat.reduceMul, Nat.reduceSub, Nat.reduceLeDiff, Int.reduceToNat, Int.reducePow, Int.reduceLT, Int.reduceEq, Int.reduceNeg, Nat.reducePow, List.reduceReplicate, Int.reduceLE, h]))
         | (with_reducible intro h; try simp only [h, go_sem, Nat.reduceBEq, Nat.reduceLT, Nat.reduceEqDiff, reduceIte, Nat.reduceAdd, Nat.reduceMul, Nat.reduceSub, Nat.reduceLeDiff, Int.reduceToNat, Int.reducePow, Int.reduceLT, Int.reduceEq, Int.reduceNeg, Nat.reducePow, List.reduceReplicate, Int.reduceLE]))
       simp only [bodyQ, go_sem, Nat.reduceBEq, Nat.reduceLT, Nat.reduceEqDiff, reduceIte, Nat.reduceAdd, Nat.reduceMul, Nat.reduceSub, Nat.reduceLeDiff, Int.reduceToNat, Int.reducePow, Int.reduceLT, Int.reduceEq, Int.reduceNeg, Nat.reducePow, List.reduceReplicate, Int.reduceLE]
       refine Fin.same ⟨congrArg (fun x => Out.ret (vi x)) ?_, rfl⟩
       first
         | exact (by omega : _ = _ + _).trans (len_key n 56 72057594037927936 m (by decide) (by omega) (by omega))
         | exact (by omega : _ = _ + _).trans (len_key n 48 281474976710656 m (by decide) (by omega) (by omega))
         | exact (by omega : _ = _ + _).trans (len_key n 40 1099511627776 m (by decide) (by omega) (by omega))
         | exact (by omega : _ = _ + _).trans (len_key n 32 4294967296 m (by decide) (by omega) (by omega))
         | exact (by omega : _ = _ + _).trans (len_key n 24 16777216 m (by decide) (by omega) (by omega))
         | exact (by omega : _ = _ + _).trans (len_key n 16 65536 m (by decide) (by omega) (by omega))
         | exact (by omega : _ = _ + _).trans (len_key n 8 256 m (by decide) (by omega) (by omega)))

theorem len_spec (n : Nat) (hn : n < 18446744073709551616) (H : List Box) : ASpec Try.prog 88 [.v (.int .u64 n)] H (Gives (vi (blen n)) H) := by
  intro base
  refine acall_body Try.func88 rfl (fun a w => Try.call88 a w) Try.ntmps88 Try.results88 (by simp) ?_
  intro w β hI
  simp only [number]
  repeat' (first
    | (refine AWP.seq ?_)
    | (refine AWP.block ?_)
    | (refine AWP.region_k fun Q' hQ' => ?_)
    | (refine AWP.draw_k rfl (by kernel_rfl) fun Q' hQ' => ?_)
    | (with_reducible refine aops.step fun T hT => ?_; simp (disch := omega) only [go_sem, Nat.reduceBEq, Nat.reduceLT, Nat.reduceEqDiff, reduceIte, Nat.reduceAdd, Nat.reduceMul, Nat.reduceSub, Nat.reduceLeDiff, Int.reduceToNat, Int.reducePow, Int.reduceLT, Int.reduceEq, Int.reduceNeg, Nat.reducePow, List.reduceReplicate, Int.reduceLE])
    | (with_reducible refine qops.step fun T hT => ?_; simp (disch := omega) only [go_sem, Nat.reduceBEq, Nat.reduceLT, Nat.reduceEqDiff, reduceIte, Nat.reduceAdd, Nat.reduceMul, Nat.reduceSub, Nat.reduceLeDiff, Int.reduceToNat, Int.reducePow, Int.reduceLT, Int.reduceEq, Int.reduceNeg, Nat.reducePow, List.reduceReplicate, Int.reduceLE])
    | (with_reducible refine aops.nil ?_)
    | (with_reducible refine qops.nil ?_)
    | (with_reducible refine hT _ ?_; clear hT T)
    | (refine AWP.skip ?_; try simp only [AExit.then, AExit.inBlock, reduceIte, Nat.reduceEqDiff])
    | (refine AWP.exit ?_; try simp only [AExit.then, AExit.inBlock, reduceIte, Nat.reduceEqDiff])
    | (refine AWP.ret ?_; try simp only [AExit.then, AExit.inBlock, reduceIte, Nat.reduceEqDiff])
    | (refine AWP.cond rfl (fun h => ?_) (fun h => ?_) <;> (try simp only [decide_eq_true_eq, decide_eq_false_iff_not, Bool.true_eq_false, Bool.false_eq_true] at h) <;> (try contradiction))
    | (refine hQ' _ _ ?_; clear hQ' Q'; try simp only [AExit.then, AExit.inBlock, reduceIte, Nat.reduceEqDiff])
    | (refine hQ' _ ?_; clear hQ' Q'; try simp only [AExit.then, AExit.inBlock, reduceIte, Nat.reduceEqDiff])
    | (with_reducible refine Branch.split (fun h => ?_) (fun h => ?_) <;> (try simp only [decide_eq_true_eq, decide_eq_false_iff_not, Bool.not_true, Bool.not_false, Bool.true_eq_false, Bool.false_eq_true] at h) <;> (try contradiction) <;> (simp (disch := omega) only [go_sem, Nat.reduceBEq, Nat.reduceLT, Nat.reduceEqDiff, reduceIte, Nat.reduceAdd, Nat.reduceMul, Nat.reduceSub, Nat.reduceLeDiff, Int.reduceToNat, Int.reducePow, Int.reduceLT, Int.reduceEq, Int.reduceNeg, Nat.reducePow, List.reduceReplicate, Int.reduceLE, h]))
    | (with_reducible intro h; try simp only [h, go_sem, Nat.reduceBEq, Nat.reduceLT, Nat.reduceEqDiff, reduceIte, Nat.reduceAdd, Nat.reduceMul, Nat.reduceSub, Nat.reduceLeDiff, Int.reduceToNat, Int.reducePow, Int.reduceLT, Int.reduceEq, Int.reduceNeg, Nat.reducePow, List.reduceReplicate, Int.reduceLE])
    | ((first | (with_reducible refine acall.det (len64_spec n hn _) ?_) | (with_reducible refine qcall.det (len64_spec n hn _) ?_)); try simp (disch := omega) only [go_sem, Nat.reduceBEq, Nat.reduceLT, Nat.reduceEqDiff, reduceIte, Nat.reduceAdd, Nat.reduceMul, Nat.reduceSub, Nat.reduceLeDiff, Int.reduceToNat, Int.reducePow, Int.reduceLT, Int.reduceEq, Int.reduceNeg, Nat.reducePow, List.reduceReplicate, Int.reduceLE]))
  all_goals
    simp only [bodyQ, go_sem, Nat.reduceBEq, Nat.reduceLT, Nat.reduceEqDiff, reduceIte, Nat.reduceAdd, Nat.reduceMul, Nat.reduceSub, Nat.reduceLeDiff, Int.reduceToNat, Int.reducePow, Int.reduceLT, Int.reduceEq, Int.reduceNeg, Nat.reducePow, List.reduceReplicate, Int.reduceLE]
    exact Fin.same ⟨rfl, rfl⟩

end Go.Proofs.Ytkkhbmpcpilmfaa.VL

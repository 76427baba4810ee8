/- The facts on the program's types that walks rewrite by (printed by gen_ty.py). -/
import Derived.Test.YtjkdahpoalnjjaaDoorZCc
import Derived.Test.YtjkdahpoalnjjaaDoorProg
import Derived.KernelRfl
import Derived.Test.YtjkdahpoalnjjaaDoorZCd
set_option linter.unusedVariables false
namespace Go.Proofs.YtjkdahpoalnjjaaDoor.VL
open Go Go.RowKit Go.Lib
attribute [go_sem] Tryd.underlying1
@[go_sem] theorem ce1 : Tryd.prog.cellsOf 1 = 1 := by kernel_rfl
@[go_sem] theorem by1 : Tryd.prog.bytesOf 1 = 8 := by kernel_rfl
@[go_sem] theorem ag1 : isAg Tryd.prog 1 = false := by kernel_rfl
@[go_sem] theorem ze1 : zeroCs Tryd.prog 1 = some [.v .nilFunc] := by kernel_rfl
@[go_sem] theorem se1 : selfTy Tryd.prog 1 = false := by kernel_rfl
attribute [go_sem] Tryd.underlying2
@[go_sem] theorem ce2 : Tryd.prog.cellsOf 2 = 1 := by kernel_rfl
@[go_sem] theorem by2 : Tryd.prog.bytesOf 2 = 8 := by kernel_rfl
@[go_sem] theorem ag2 : isAg Tryd.prog 2 = false := by kernel_rfl
@[go_sem] theorem ze2 : zeroCs Tryd.prog 2 = some [.v (.int .i64 0)] := by kernel_rfl
@[go_sem] theorem se2 : selfTy Tryd.prog 2 = false := by kernel_rfl
attribute [go_sem] Tryd.underlying3
@[go_sem] theorem ce3 : Tryd.prog.cellsOf 3 = 1 := by kernel_rfl
@[go_sem] theorem by3 : Tryd.prog.bytesOf 3 = 8 := by kernel_rfl
@[go_sem] theorem ag3 : isAg Tryd.prog 3 = false := by kernel_rfl
@[go_sem] theorem ze3 : zeroCs Tryd.prog 3 = some [.v (.int .i64 0)] := by kernel_rfl
@[go_sem] theorem se3 : selfTy Tryd.prog 3 = false := by kernel_rfl
attribute [go_sem] Tryd.underlying4
@[go_sem] theorem ce4 : Tryd.prog.cellsOf 4 = 1 := by kernel_rfl
@[go_sem] theorem by4 : Tryd.prog.bytesOf 4 = 1 := by kernel_rfl
@[go_sem] theorem ag4 : isAg Tryd.prog 4 = false := by kernel_rfl
@[go_sem] theorem ze4 : zeroCs Tryd.prog 4 = some [.v (.bool false)] := by kernel_rfl
@[go_sem] theorem se4 : selfTy Tryd.prog 4 = false := by kernel_rfl
attribute [go_sem] Tryd.underlying5
@[go_sem] theorem ce5 : Tryd.prog.cellsOf 5 = 1 := by kernel_rfl
@[go_sem] theorem by5 : Tryd.prog.bytesOf 5 = 1 := by kernel_rfl
@[go_sem] theorem ag5 : isAg Tryd.prog 5 = false := by kernel_rfl
@[go_sem] theorem ze5 : zeroCs Tryd.prog 5 = some [.v (.int .u8 0)] := by kernel_rfl
@[go_sem] theorem se5 : selfTy Tryd.prog 5 = false := by kernel_rfl
attribute [go_sem] Tryd.underlying9
@[go_sem] theorem ce9 : Tryd.prog.cellsOf 9 = 1 := by kernel_rfl
@[go_sem] theorem by9 : Tryd.prog.bytesOf 9 = 16 := by kernel_rfl
@[go_sem] theorem ag9 : isAg Tryd.prog 9 = false := by kernel_rfl
@[go_sem] theorem ze9 : zeroCs Tryd.prog 9 = some [.v (.string { data := #[] })] := by kernel_rfl
@[go_sem] theorem se9 : selfTy Tryd.prog 9 = false := by kernel_rfl
attribute [go_sem] Tryd.underlying12
@[go_sem] theorem ce12 : Tryd.prog.cellsOf 12 = 1 := by kernel_rfl
@[go_sem] theorem by12 : Tryd.prog.bytesOf 12 = 8 := by kernel_rfl
@[go_sem] theorem ag12 : isAg Tryd.prog 12 = false := by kernel_rfl
@[go_sem] theorem ze12 : zeroCs Tryd.prog 12 = some [.v (.int .u64 0)] := by kernel_rfl
@[go_sem] theorem se12 : selfTy Tryd.prog 12 = false := by kernel_rfl
attribute [go_sem] Tryd.underlying13
@[go_sem] theorem ce13 : Tryd.prog.cellsOf 13 = 2 := by kernel_rfl
@[go_sem] theorem by13 : Tryd.prog.bytesOf 13 = 24 := by kernel_rfl
@[go_sem] theorem ag13 : isAg Tryd.prog 13 = true := by kernel_rfl
@[go_sem] theorem ze13 : zeroCs Tryd.prog 13 = some [.v (.string { data := #[] }), .v (.int .u64 0)] := by kernel_rfl
@[go_sem] theorem se13 : selfTy Tryd.prog 13 = false := by kernel_rfl
@[go_sem] theorem fi13_0 : fieldOf Tryd.prog 13 0 = some { name := "msg", type := 9, offset := 0, embedded := false, tag := "", pkgPath := "runtime", byteOffset := 0 } := by kernel_rfl
@[go_sem] theorem fi13_1 : fieldOf Tryd.prog 13 1 = some { name := "addr", type := 12, offset := 1, embedded := false, tag := "", pkgPath := "runtime", byteOffset := 16 } := by kernel_rfl
attribute [go_sem] Tryd.underlying21
@[go_sem] theorem ce21 : Tryd.prog.cellsOf 21 = 1 := by kernel_rfl
@[go_sem] theorem by21 : Tryd.prog.bytesOf 21 = 4 := by kernel_rfl
@[go_sem] theorem ag21 : isAg Tryd.prog 21 = false := by kernel_rfl
@[go_sem] theorem ze21 : zeroCs Tryd.prog 21 = some [.v (.int .i32 0)] := by kernel_rfl
@[go_sem] theorem se21 : selfTy Tryd.prog 21 = false := by kernel_rfl
attribute [go_sem] Tryd.underlying22
@[go_sem] theorem ce22 : Tryd.prog.cellsOf 22 = 1 := by kernel_rfl
@[go_sem] theorem by22 : Tryd.prog.bytesOf 22 = 24 := by kernel_rfl
@[go_sem] theorem ag22 : isAg Tryd.prog 22 = false := by kernel_rfl
@[go_sem] theorem el22 : elemTy Tryd.prog 22 = some 5 := by kernel_rfl
@[go_sem] theorem ze22 : zeroCs Tryd.prog 22 = some [.emp] := by kernel_rfl
@[go_sem] theorem se22 : selfTy Tryd.prog 22 = false := by kernel_rfl
attribute [go_sem] Tryd.underlying23
@[go_sem] theorem ce23 : Tryd.prog.cellsOf 23 = 1 := by kernel_rfl
@[go_sem] theorem by23 : Tryd.prog.bytesOf 23 = 8 := by kernel_rfl
@[go_sem] theorem ag23 : isAg Tryd.prog 23 = false := by kernel_rfl
@[go_sem] theorem ze23 : zeroCs Tryd.prog 23 = some [.v .nilFunc] := by kernel_rfl
@[go_sem] theorem se23 : selfTy Tryd.prog 23 = false := by kernel_rfl
attribute [go_sem] Tryd.underlying24
@[go_sem] theorem ce24 : Tryd.prog.cellsOf 24 = 1 := by kernel_rfl
@[go_sem] theorem by24 : Tryd.prog.bytesOf 24 = 24 := by kernel_rfl
@[go_sem] theorem ag24 : isAg Tryd.prog 24 = false := by kernel_rfl
@[go_sem] theorem el24 : elemTy Tryd.prog 24 = some 53 := by kernel_rfl
@[go_sem] theorem ze24 : zeroCs Tryd.prog 24 = some [.emp] := by kernel_rfl
@[go_sem] theorem se24 : selfTy Tryd.prog 24 = false := by kernel_rfl
attribute [go_sem] Tryd.underlying25
@[go_sem] theorem ce25 : Tryd.prog.cellsOf 25 = 1 := by kernel_rfl
@[go_sem] theorem by25 : Tryd.prog.bytesOf 25 = 24 := by kernel_rfl
@[go_sem] theorem ag25 : isAg Tryd.prog 25 = false := by kernel_rfl
@[go_sem] theorem el25 : elemTy Tryd.prog 25 = some 70 := by kernel_rfl
@[go_sem] theorem ze25 : zeroCs Tryd.prog 25 = some [.emp] := by kernel_rfl
@[go_sem] theorem se25 : selfTy Tryd.prog 25 = false := by kernel_rfl
attribute [go_sem] Tryd.underlying26
@[go_sem] theorem ce26 : Tryd.prog.cellsOf 26 = 3 := by kernel_rfl
@[go_sem] theorem by26 : Tryd.prog.bytesOf 26 = 56 := by kernel_rfl
@[go_sem] theorem ag26 : isAg Tryd.prog 26 = true := by kernel_rfl
@[go_sem] theorem ze26 : zeroCs Tryd.prog 26 = some [.v (.int .i64 0), .emp, .emp] := by kernel_rfl
@[go_sem] theorem se26 : selfTy Tryd.prog 26 = false := by kernel_rfl
@[go_sem] theorem fi26_0 : fieldOf Tryd.prog 26 0 = some { name := "Kind", type := 3, offset := 0, embedded := false, tag := "", pkgPath := "", byteOffset := 0 } := by kernel_rfl
@[go_sem] theorem fi26_1 : fieldOf Tryd.prog 26 1 = some { name := "Digests", type := 24, offset := 1, embedded := false, tag := "", pkgPath := "", byteOffset := 8 } := by kernel_rfl
@[go_sem] theorem fi26_2 : fieldOf Tryd.prog 26 2 = some { name := "Deltas", type := 25, offset := 2, embedded := false, tag := "", pkgPath := "", byteOffset := 32 } := by kernel_rfl
attribute [go_sem] Tryd.underlying27
@[go_sem] theorem ce27 : Tryd.prog.cellsOf 27 = 3 := by kernel_rfl
@[go_sem] theorem by27 : Tryd.prog.bytesOf 27 = 56 := by kernel_rfl
@[go_sem] theorem ag27 : isAg Tryd.prog 27 = true := by kernel_rfl
@[go_sem] theorem ze27 : zeroCs Tryd.prog 27 = some [.v (.int .i64 0), .emp, .emp] := by kernel_rfl
@[go_sem] theorem se27 : selfTy Tryd.prog 27 = false := by kernel_rfl
@[go_sem] theorem fi27_0 : fieldOf Tryd.prog 27 0 = some { name := "Kind", type := 3, offset := 0, embedded := false, tag := "", pkgPath := "", byteOffset := 0 } := by kernel_rfl
@[go_sem] theorem fi27_1 : fieldOf Tryd.prog 27 1 = some { name := "Digests", type := 24, offset := 1, embedded := false, tag := "", pkgPath := "", byteOffset := 8 } := by kernel_rfl
@[go_sem] theorem fi27_2 : fieldOf Tryd.prog 27 2 = some { name := "Deltas", type := 25, offset := 2, embedded := false, tag := "", pkgPath := "", byteOffset := 32 } := by kernel_rfl
attribute [go_sem] Tryd.underlying28
@[go_sem] theorem ce28 : Tryd.prog.cellsOf 28 = 1 := by kernel_rfl
@[go_sem] theorem by28 : Tryd.prog.bytesOf 28 = 8 := by kernel_rfl
@[go_sem] theorem ag28 : isAg Tryd.prog 28 = false := by kernel_rfl
@[go_sem] theorem ze28 : zeroCs Tryd.prog 28 = some [.v (.int .i64 0)] := by kernel_rfl
@[go_sem] theorem se28 : selfTy Tryd.prog 28 = false := by kernel_rfl
attribute [go_sem] Tryd.underlying30
@[go_sem] theorem ce30 : Tryd.prog.cellsOf 30 = 1 := by kernel_rfl
@[go_sem] theorem by30 : Tryd.prog.bytesOf 30 = 8 := by kernel_rfl
@[go_sem] theorem ag30 : isAg Tryd.prog 30 = false := by kernel_rfl
@[go_sem] theorem ze30 : zeroCs Tryd.prog 30 = some [.v .nilFunc] := by kernel_rfl
@[go_sem] theorem se30 : selfTy Tryd.prog 30 = false := by kernel_rfl
attribute [go_sem] Tryd.underlying32
@[go_sem] theorem ce32 : Tryd.prog.cellsOf 32 = 1 := by kernel_rfl
@[go_sem] theorem by32 : Tryd.prog.bytesOf 32 = 8 := by kernel_rfl
@[go_sem] theorem ag32 : isAg Tryd.prog 32 = false := by kernel_rfl
@[go_sem] theorem ze32 : zeroCs Tryd.prog 32 = some [.v .nilFunc] := by kernel_rfl
@[go_sem] theorem se32 : selfTy Tryd.prog 32 = false := by kernel_rfl
attribute [go_sem] Tryd.underlying33
@[go_sem] theorem ce33 : Tryd.prog.cellsOf 33 = 1 := by kernel_rfl
@[go_sem] theorem by33 : Tryd.prog.bytesOf 33 = 8 := by kernel_rfl
@[go_sem] theorem ag33 : isAg Tryd.prog 33 = false := by kernel_rfl
@[go_sem] theorem ze33 : zeroCs Tryd.prog 33 = some [.v .nilFunc] := by kernel_rfl
@[go_sem] theorem se33 : selfTy Tryd.prog 33 = false := by kernel_rfl
attribute [go_sem] Tryd.underlying34
@[go_sem] theorem ce34 : Tryd.prog.cellsOf 34 = 1 := by kernel_rfl
@[go_sem] theorem by34 : Tryd.prog.bytesOf 34 = 8 := by kernel_rfl
@[go_sem] theorem ag34 : isAg Tryd.prog 34 = false := by kernel_rfl
@[go_sem] theorem ze34 : zeroCs Tryd.prog 34 = some [.v .nilFunc] := by kernel_rfl
@[go_sem] theorem se34 : selfTy Tryd.prog 34 = false := by kernel_rfl
attribute [go_sem] Tryd.underlying35
@[go_sem] theorem ce35 : Tryd.prog.cellsOf 35 = 1 := by kernel_rfl
@[go_sem] theorem by35 : Tryd.prog.bytesOf 35 = 8 := by kernel_rfl
@[go_sem] theorem ag35 : isAg Tryd.prog 35 = false := by kernel_rfl
@[go_sem] theorem ze35 : zeroCs Tryd.prog 35 = some [.v .nilFunc] := by kernel_rfl
@[go_sem] theorem se35 : selfTy Tryd.prog 35 = false := by kernel_rfl
attribute [go_sem] Tryd.underlying37
@[go_sem] theorem ce37 : Tryd.prog.cellsOf 37 = 1 := by kernel_rfl
@[go_sem] theorem by37 : Tryd.prog.bytesOf 37 = 8 := by kernel_rfl
@[go_sem] theorem ag37 : isAg Tryd.prog 37 = false := by kernel_rfl
@[go_sem] theorem ze37 : zeroCs Tryd.prog 37 = some [.v .nilFunc] := by kernel_rfl
@[go_sem] theorem se37 : selfTy Tryd.prog 37 = false := by kernel_rfl
attribute [go_sem] Tryd.underlying38
@[go_sem] theorem ce38 : Tryd.prog.cellsOf 38 = 4 := by kernel_rfl
@[go_sem] theorem by38 : Tryd.prog.bytesOf 38 = 56 := by kernel_rfl
@[go_sem] theorem ag38 : isAg Tryd.prog 38 = true := by kernel_rfl
@[go_sem] theorem ze38 : zeroCs Tryd.prog 38 = some [.v (.int .i64 0), .v (.string { data := #[] }), .v (.int .i64 0), .emp] := by kernel_rfl
@[go_sem] theorem se38 : selfTy Tryd.prog 38 = false := by kernel_rfl
@[go_sem] theorem fi38_0 : fieldOf Tryd.prog 38 0 = some { name := "Kind", type := 3, offset := 0, embedded := false, tag := "", pkgPath := "", byteOffset := 0 } := by kernel_rfl
@[go_sem] theorem fi38_1 : fieldOf Tryd.prog 38 1 = some { name := "Cluster", type := 9, offset := 1, embedded := false, tag := "", pkgPath := "", byteOffset := 8 } := by kernel_rfl
@[go_sem] theorem fi38_2 : fieldOf Tryd.prog 38 2 = some { name := "From", type := 3, offset := 2, embedded := false, tag := "", pkgPath := "", byteOffset := 24 } := by kernel_rfl
@[go_sem] theorem fi38_3 : fieldOf Tryd.prog 38 3 = some { name := "Payload", type := 22, offset := 3, embedded := false, tag := "", pkgPath := "", byteOffset := 32 } := by kernel_rfl
attribute [go_sem] Tryd.underlying39
@[go_sem] theorem ce39 : Tryd.prog.cellsOf 39 = 4 := by kernel_rfl
@[go_sem] theorem by39 : Tryd.prog.bytesOf 39 = 56 := by kernel_rfl
@[go_sem] theorem ag39 : isAg Tryd.prog 39 = true := by kernel_rfl
@[go_sem] theorem ze39 : zeroCs Tryd.prog 39 = some [.v (.int .i64 0), .v (.string { data := #[] }), .v (.int .i64 0), .emp] := by kernel_rfl
@[go_sem] theorem se39 : selfTy Tryd.prog 39 = false := by kernel_rfl
@[go_sem] theorem fi39_0 : fieldOf Tryd.prog 39 0 = some { name := "Kind", type := 3, offset := 0, embedded := false, tag := "", pkgPath := "", byteOffset := 0 } := by kernel_rfl
@[go_sem] theorem fi39_1 : fieldOf Tryd.prog 39 1 = some { name := "Cluster", type := 9, offset := 1, embedded := false, tag := "", pkgPath := "", byteOffset := 8 } := by kernel_rfl
@[go_sem] theorem fi39_2 : fieldOf Tryd.prog 39 2 = some { name := "From", type := 3, offset := 2, embedded := false, tag := "", pkgPath := "", byteOffset := 24 } := by kernel_rfl
@[go_sem] theorem fi39_3 : fieldOf Tryd.prog 39 3 = some { name := "Payload", type := 22, offset := 3, embedded := false, tag := "", pkgPath := "", byteOffset := 32 } := by kernel_rfl
attribute [go_sem] Tryd.underlying41
@[go_sem] theorem ce41 : Tryd.prog.cellsOf 41 = 1 := by kernel_rfl
@[go_sem] theorem by41 : Tryd.prog.bytesOf 41 = 8 := by kernel_rfl
@[go_sem] theorem ag41 : isAg Tryd.prog 41 = false := by kernel_rfl
@[go_sem] theorem ze41 : zeroCs Tryd.prog 41 = some [.v .nilFunc] := by kernel_rfl
@[go_sem] theorem se41 : selfTy Tryd.prog 41 = false := by kernel_rfl
attribute [go_sem] Tryd.underlying42
@[go_sem] theorem ce42 : Tryd.prog.cellsOf 42 = 1 := by kernel_rfl
@[go_sem] theorem by42 : Tryd.prog.bytesOf 42 = 8 := by kernel_rfl
@[go_sem] theorem ag42 : isAg Tryd.prog 42 = false := by kernel_rfl
@[go_sem] theorem ze42 : zeroCs Tryd.prog 42 = some [.v .nilFunc] := by kernel_rfl
@[go_sem] theorem se42 : selfTy Tryd.prog 42 = false := by kernel_rfl
attribute [go_sem] Tryd.underlying43
@[go_sem] theorem ce43 : Tryd.prog.cellsOf 43 = 1 := by kernel_rfl
@[go_sem] theorem by43 : Tryd.prog.bytesOf 43 = 8 := by kernel_rfl
@[go_sem] theorem ag43 : isAg Tryd.prog 43 = false := by kernel_rfl
@[go_sem] theorem ze43 : zeroCs Tryd.prog 43 = some [.v .nilFunc] := by kernel_rfl
@[go_sem] theorem se43 : selfTy Tryd.prog 43 = false := by kernel_rfl
attribute [go_sem] Tryd.underlying44
@[go_sem] theorem ce44 : Tryd.prog.cellsOf 44 = 1 := by kernel_rfl
@[go_sem] theorem by44 : Tryd.prog.bytesOf 44 = 8 := by kernel_rfl
@[go_sem] theorem ag44 : isAg Tryd.prog 44 = false := by kernel_rfl
@[go_sem] theorem ze44 : zeroCs Tryd.prog 44 = some [.v .nilFunc] := by kernel_rfl
@[go_sem] theorem se44 : selfTy Tryd.prog 44 = false := by kernel_rfl
attribute [go_sem] Tryd.underlying45
@[go_sem] theorem ce45 : Tryd.prog.cellsOf 45 = 1 := by kernel_rfl
@[go_sem] theorem by45 : Tryd.prog.bytesOf 45 = 8 := by kernel_rfl
@[go_sem] theorem ag45 : isAg Tryd.prog 45 = false := by kernel_rfl
@[go_sem] theorem ze45 : zeroCs Tryd.prog 45 = some [.v .nilFunc] := by kernel_rfl
@[go_sem] theorem se45 : selfTy Tryd.prog 45 = false := by kernel_rfl
attribute [go_sem] Tryd.underlying46
@[go_sem] theorem ce46 : Tryd.prog.cellsOf 46 = 1 := by kernel_rfl
@[go_sem] theorem by46 : Tryd.prog.bytesOf 46 = 8 := by kernel_rfl
@[go_sem] theorem ag46 : isAg Tryd.prog 46 = false := by kernel_rfl
@[go_sem] theorem ze46 : zeroCs Tryd.prog 46 = some [.v .nilFunc] := by kernel_rfl
@[go_sem] theorem se46 : selfTy Tryd.prog 46 = false := by kernel_rfl
attribute [go_sem] Tryd.underlying47
@[go_sem] theorem ce47 : Tryd.prog.cellsOf 47 = 1 := by kernel_rfl
@[go_sem] theorem by47 : Tryd.prog.bytesOf 47 = 2 := by kernel_rfl
@[go_sem] theorem ag47 : isAg Tryd.prog 47 = false := by kernel_rfl
@[go_sem] theorem ze47 : zeroCs Tryd.prog 47 = some [.v (.int .u16 0)] := by kernel_rfl
@[go_sem] theorem se47 : selfTy Tryd.prog 47 = false := by kernel_rfl
attribute [go_sem] Tryd.underlying48
@[go_sem] theorem ce48 : Tryd.prog.cellsOf 48 = 1 := by kernel_rfl
@[go_sem] theorem by48 : Tryd.prog.bytesOf 48 = 4 := by kernel_rfl
@[go_sem] theorem ag48 : isAg Tryd.prog 48 = false := by kernel_rfl
@[go_sem] theorem ze48 : zeroCs Tryd.prog 48 = some [.v (.int .u32 0)] := by kernel_rfl
@[go_sem] theorem se48 : selfTy Tryd.prog 48 = false := by kernel_rfl
attribute [go_sem] Tryd.underlying49
@[go_sem] theorem ce49 : Tryd.prog.cellsOf 49 = 1 := by kernel_rfl
@[go_sem] theorem by49 : Tryd.prog.bytesOf 49 = 8 := by kernel_rfl
@[go_sem] theorem ag49 : isAg Tryd.prog 49 = false := by kernel_rfl
@[go_sem] theorem ze49 : zeroCs Tryd.prog 49 = some [.v (.int .u64 0)] := by kernel_rfl
@[go_sem] theorem se49 : selfTy Tryd.prog 49 = false := by kernel_rfl
attribute [go_sem] Tryd.underlying50
@[go_sem] theorem ce50 : Tryd.prog.cellsOf 50 = 1 := by kernel_rfl
@[go_sem] theorem by50 : Tryd.prog.bytesOf 50 = 8 := by kernel_rfl
@[go_sem] theorem ag50 : isAg Tryd.prog 50 = false := by kernel_rfl
@[go_sem] theorem ze50 : zeroCs Tryd.prog 50 = some [.v .nilFunc] := by kernel_rfl
@[go_sem] theorem se50 : selfTy Tryd.prog 50 = false := by kernel_rfl
attribute [go_sem] Tryd.underlying51
@[go_sem] theorem ce51 : Tryd.prog.cellsOf 51 = 1 := by kernel_rfl
@[go_sem] theorem by51 : Tryd.prog.bytesOf 51 = 8 := by kernel_rfl
@[go_sem] theorem ag51 : isAg Tryd.prog 51 = false := by kernel_rfl
@[go_sem] theorem ze51 : zeroCs Tryd.prog 51 = some [.v .nilFunc] := by kernel_rfl
@[go_sem] theorem se51 : selfTy Tryd.prog 51 = false := by kernel_rfl
attribute [go_sem] Tryd.underlying52
@[go_sem] theorem ce52 : Tryd.prog.cellsOf 52 = 3 := by kernel_rfl
@[go_sem] theorem by52 : Tryd.prog.bytesOf 52 = 24 := by kernel_rfl
@[go_sem] theorem ag52 : isAg Tryd.prog 52 = true := by kernel_rfl
@[go_sem] theorem ze52 : zeroCs Tryd.prog 52 = some [.v (.int .i64 0), .v (.int .i64 0), .v (.int .i64 0)] := by kernel_rfl
@[go_sem] theorem se52 : selfTy Tryd.prog 52 = false := by kernel_rfl
@[go_sem] theorem fi52_0 : fieldOf Tryd.prog 52 0 = some { name := "Node", type := 3, offset := 0, embedded := false, tag := "", pkgPath := "", byteOffset := 0 } := by kernel_rfl
@[go_sem] theorem fi52_1 : fieldOf Tryd.prog 52 1 = some { name := "Gen", type := 3, offset := 1, embedded := false, tag := "", pkgPath := "", byteOffset := 8 } := by kernel_rfl
@[go_sem] theorem fi52_2 : fieldOf Tryd.prog 52 2 = some { name := "Ver", type := 3, offset := 2, embedded := false, tag := "", pkgPath := "", byteOffset := 16 } := by kernel_rfl
attribute [go_sem] Tryd.underlying53
@[go_sem] theorem ce53 : Tryd.prog.cellsOf 53 = 3 := by kernel_rfl
@[go_sem] theorem by53 : Tryd.prog.bytesOf 53 = 24 := by kernel_rfl
@[go_sem] theorem ag53 : isAg Tryd.prog 53 = true := by kernel_rfl
@[go_sem] theorem fl53 : flatTags Tryd.prog 53 = some [0, 0, 0] := by kernel_rfl
@[go_sem] theorem ze53 : zeroCs Tryd.prog 53 = some [.v (.int .i64 0), .v (.int .i64 0), .v (.int .i64 0)] := by kernel_rfl
@[go_sem] theorem se53 : selfTy Tryd.prog 53 = false := by kernel_rfl
@[go_sem] theorem fi53_0 : fieldOf Tryd.prog 53 0 = some { name := "Node", type := 3, offset := 0, embedded := false, tag := "", pkgPath := "", byteOffset := 0 } := by kernel_rfl
@[go_sem] theorem fi53_1 : fieldOf Tryd.prog 53 1 = some { name := "Gen", type := 3, offset := 1, embedded := false, tag := "", pkgPath := "", byteOffset := 8 } := by kernel_rfl
@[go_sem] theorem fi53_2 : fieldOf Tryd.prog 53 2 = some { name := "Ver", type := 3, offset := 2, embedded := false, tag := "", pkgPath := "", byteOffset := 16 } := by kernel_rfl
attribute [go_sem] Tryd.underlying54
@[go_sem] theorem ce54 : Tryd.prog.cellsOf 54 = 2 := by kernel_rfl
@[go_sem] theorem by54 : Tryd.prog.bytesOf 54 = 2 := by kernel_rfl
@[go_sem] theorem ag54 : isAg Tryd.prog 54 = true := by kernel_rfl
@[go_sem] theorem ze54 : zeroCs Tryd.prog 54 = some [.v (.bool false), .v (.bool false)] := by kernel_rfl
@[go_sem] theorem se54 : selfTy Tryd.prog 54 = false := by kernel_rfl
@[go_sem] theorem fi54_0 : fieldOf Tryd.prog 54 0 = some { name := "digests", type := 4, offset := 0, embedded := false, tag := "", pkgPath := "bellwether/message", byteOffset := 0 } := by kernel_rfl
@[go_sem] theorem fi54_1 : fieldOf Tryd.prog 54 1 = some { name := "deltas", type := 4, offset := 1, embedded := false, tag := "", pkgPath := "bellwether/message", byteOffset := 1 } := by kernel_rfl
attribute [go_sem] Tryd.underlying55
@[go_sem] theorem ce55 : Tryd.prog.cellsOf 55 = 2 := by kernel_rfl
@[go_sem] theorem by55 : Tryd.prog.bytesOf 55 = 2 := by kernel_rfl
@[go_sem] theorem ag55 : isAg Tryd.prog 55 = true := by kernel_rfl
@[go_sem] theorem fl55 : flatTags Tryd.prog 55 = some [2, 2] := by kernel_rfl
@[go_sem] theorem ze55 : zeroCs Tryd.prog 55 = some [.v (.bool false), .v (.bool false)] := by kernel_rfl
@[go_sem] theorem se55 : selfTy Tryd.prog 55 = false := by kernel_rfl
@[go_sem] theorem fi55_0 : fieldOf Tryd.prog 55 0 = some { name := "digests", type := 4, offset := 0, embedded := false, tag := "", pkgPath := "bellwether/message", byteOffset := 0 } := by kernel_rfl
@[go_sem] theorem fi55_1 : fieldOf Tryd.prog 55 1 = some { name := "deltas", type := 4, offset := 1, embedded := false, tag := "", pkgPath := "bellwether/message", byteOffset := 1 } := by kernel_rfl
attribute [go_sem] Tryd.underlying57
@[go_sem] theorem ce57 : Tryd.prog.cellsOf 57 = 1 := by kernel_rfl
@[go_sem] theorem by57 : Tryd.prog.bytesOf 57 = 8 := by kernel_rfl
@[go_sem] theorem ag57 : isAg Tryd.prog 57 = false := by kernel_rfl
@[go_sem] theorem ze57 : zeroCs Tryd.prog 57 = some [.v .nilFunc] := by kernel_rfl
@[go_sem] theorem se57 : selfTy Tryd.prog 57 = false := by kernel_rfl
attribute [go_sem] Tryd.underlying58
@[go_sem] theorem ce58 : Tryd.prog.cellsOf 58 = 1 := by kernel_rfl
@[go_sem] theorem by58 : Tryd.prog.bytesOf 58 = 24 := by kernel_rfl
@[go_sem] theorem ag58 : isAg Tryd.prog 58 = false := by kernel_rfl
@[go_sem] theorem el58 : elemTy Tryd.prog 58 = some 5 := by kernel_rfl
@[go_sem] theorem ze58 : zeroCs Tryd.prog 58 = some [.emp] := by kernel_rfl
@[go_sem] theorem se58 : selfTy Tryd.prog 58 = false := by kernel_rfl
attribute [go_sem] Tryd.underlying59
@[go_sem] theorem ce59 : Tryd.prog.cellsOf 59 = 1 := by kernel_rfl
@[go_sem] theorem by59 : Tryd.prog.bytesOf 59 = 8 := by kernel_rfl
@[go_sem] theorem ag59 : isAg Tryd.prog 59 = false := by kernel_rfl
@[go_sem] theorem ze59 : zeroCs Tryd.prog 59 = some [.v .nilFunc] := by kernel_rfl
@[go_sem] theorem se59 : selfTy Tryd.prog 59 = false := by kernel_rfl
attribute [go_sem] Tryd.underlying60
@[go_sem] theorem ce60 : Tryd.prog.cellsOf 60 = 1 := by kernel_rfl
@[go_sem] theorem by60 : Tryd.prog.bytesOf 60 = 8 := by kernel_rfl
@[go_sem] theorem ag60 : isAg Tryd.prog 60 = false := by kernel_rfl
@[go_sem] theorem ze60 : zeroCs Tryd.prog 60 = some [.v (.pointer none)] := by kernel_rfl
@[go_sem] theorem se60 : selfTy Tryd.prog 60 = false := by kernel_rfl
attribute [go_sem] Tryd.underlying61
@[go_sem] theorem ce61 : Tryd.prog.cellsOf 61 = 2 := by kernel_rfl
@[go_sem] theorem by61 : Tryd.prog.bytesOf 61 = 32 := by kernel_rfl
@[go_sem] theorem ag61 : isAg Tryd.prog 61 = true := by kernel_rfl
@[go_sem] theorem ze61 : zeroCs Tryd.prog 61 = some [.emp, .v (.int .i64 0)] := by kernel_rfl
@[go_sem] theorem se61 : selfTy Tryd.prog 61 = false := by kernel_rfl
@[go_sem] theorem fi61_0 : fieldOf Tryd.prog 61 0 = some { name := "b", type := 22, offset := 0, embedded := false, tag := "", pkgPath := "bellwether/bellwetherref20", byteOffset := 0 } := by kernel_rfl
@[go_sem] theorem fi61_1 : fieldOf Tryd.prog 61 1 = some { name := "e", type := 28, offset := 1, embedded := false, tag := "", pkgPath := "bellwether/bellwetherref20", byteOffset := 24 } := by kernel_rfl
attribute [go_sem] Tryd.underlying62
@[go_sem] theorem ce62 : Tryd.prog.cellsOf 62 = 2 := by kernel_rfl
@[go_sem] theorem by62 : Tryd.prog.bytesOf 62 = 32 := by kernel_rfl
@[go_sem] theorem ag62 : isAg Tryd.prog 62 = true := by kernel_rfl
@[go_sem] theorem ze62 : zeroCs Tryd.prog 62 = some [.emp, .v (.int .i64 0)] := by kernel_rfl
@[go_sem] theorem se62 : selfTy Tryd.prog 62 = false := by kernel_rfl
@[go_sem] theorem fi62_0 : fieldOf Tryd.prog 62 0 = some { name := "b", type := 22, offset := 0, embedded := false, tag := "", pkgPath := "bellwether/bellwetherref20", byteOffset := 0 } := by kernel_rfl
@[go_sem] theorem fi62_1 : fieldOf Tryd.prog 62 1 = some { name := "e", type := 28, offset := 1, embedded := false, tag := "", pkgPath := "bellwether/bellwetherref20", byteOffset := 24 } := by kernel_rfl
attribute [go_sem] Tryd.underlying63
@[go_sem] theorem ce63 : Tryd.prog.cellsOf 63 = 1 := by kernel_rfl
@[go_sem] theorem by63 : Tryd.prog.bytesOf 63 = 8 := by kernel_rfl
@[go_sem] theorem ag63 : isAg Tryd.prog 63 = false := by kernel_rfl
@[go_sem] theorem ze63 : zeroCs Tryd.prog 63 = some [.v .nilFunc] := by kernel_rfl
@[go_sem] theorem se63 : selfTy Tryd.prog 63 = false := by kernel_rfl
attribute [go_sem] Tryd.underlying64
@[go_sem] theorem ce64 : Tryd.prog.cellsOf 64 = 1 := by kernel_rfl
@[go_sem] theorem by64 : Tryd.prog.bytesOf 64 = 8 := by kernel_rfl
@[go_sem] theorem ag64 : isAg Tryd.prog 64 = false := by kernel_rfl
@[go_sem] theorem ze64 : zeroCs Tryd.prog 64 = some [.v .nilFunc] := by kernel_rfl
@[go_sem] theorem se64 : selfTy Tryd.prog 64 = false := by kernel_rfl
attribute [go_sem] Tryd.underlying65
@[go_sem] theorem ce65 : Tryd.prog.cellsOf 65 = 1 := by kernel_rfl
@[go_sem] theorem by65 : Tryd.prog.bytesOf 65 = 8 := by kernel_rfl
@[go_sem] theorem ag65 : isAg Tryd.prog 65 = false := by kernel_rfl
@[go_sem] theorem ze65 : zeroCs Tryd.prog 65 = some [.v .nilFunc] := by kernel_rfl
@[go_sem] theorem se65 : selfTy Tryd.prog 65 = false := by kernel_rfl
attribute [go_sem] Tryd.underlying66
@[go_sem] theorem ce66 : Tryd.prog.cellsOf 66 = 1 := by kernel_rfl
@[go_sem] theorem by66 : Tryd.prog.bytesOf 66 = 24 := by kernel_rfl
@[go_sem] theorem ag66 : isAg Tryd.prog 66 = false := by kernel_rfl
@[go_sem] theorem el66 : elemTy Tryd.prog 66 = some 72 := by kernel_rfl
@[go_sem] theorem ze66 : zeroCs Tryd.prog 66 = some [.emp] := by kernel_rfl
@[go_sem] theorem se66 : selfTy Tryd.prog 66 = false := by kernel_rfl
attribute [go_sem] Tryd.underlying67
@[go_sem] theorem ce67 : Tryd.prog.cellsOf 67 = 3 := by kernel_rfl
@[go_sem] theorem by67 : Tryd.prog.bytesOf 67 = 40 := by kernel_rfl
@[go_sem] theorem ag67 : isAg Tryd.prog 67 = true := by kernel_rfl
@[go_sem] theorem ze67 : zeroCs Tryd.prog 67 = some [.v (.int .i64 0), .v (.int .i64 0), .emp] := by kernel_rfl
@[go_sem] theorem se67 : selfTy Tryd.prog 67 = false := by kernel_rfl
@[go_sem] theorem fi67_0 : fieldOf Tryd.prog 67 0 = some { name := "Gen", type := 3, offset := 0, embedded := false, tag := "", pkgPath := "", byteOffset := 0 } := by kernel_rfl
@[go_sem] theorem fi67_1 : fieldOf Tryd.prog 67 1 = some { name := "Beat", type := 3, offset := 1, embedded := false, tag := "", pkgPath := "", byteOffset := 8 } := by kernel_rfl
@[go_sem] theorem fi67_2 : fieldOf Tryd.prog 67 2 = some { name := "Apps", type := 66, offset := 2, embedded := false, tag := "", pkgPath := "", byteOffset := 16 } := by kernel_rfl
attribute [go_sem] Tryd.underlying68
@[go_sem] theorem ce68 : Tryd.prog.cellsOf 68 = 3 := by kernel_rfl
@[go_sem] theorem by68 : Tryd.prog.bytesOf 68 = 40 := by kernel_rfl
@[go_sem] theorem ag68 : isAg Tryd.prog 68 = true := by kernel_rfl
@[go_sem] theorem ze68 : zeroCs Tryd.prog 68 = some [.v (.int .i64 0), .v (.int .i64 0), .emp] := by kernel_rfl
@[go_sem] theorem se68 : selfTy Tryd.prog 68 = false := by kernel_rfl
@[go_sem] theorem fi68_0 : fieldOf Tryd.prog 68 0 = some { name := "Gen", type := 3, offset := 0, embedded := false, tag := "", pkgPath := "", byteOffset := 0 } := by kernel_rfl
@[go_sem] theorem fi68_1 : fieldOf Tryd.prog 68 1 = some { name := "Beat", type := 3, offset := 1, embedded := false, tag := "", pkgPath := "", byteOffset := 8 } := by kernel_rfl
@[go_sem] theorem fi68_2 : fieldOf Tryd.prog 68 2 = some { name := "Apps", type := 66, offset := 2, embedded := false, tag := "", pkgPath := "", byteOffset := 16 } := by kernel_rfl
attribute [go_sem] Tryd.underlying69
@[go_sem] theorem ce69 : Tryd.prog.cellsOf 69 = 5 := by kernel_rfl
@[go_sem] theorem by69 : Tryd.prog.bytesOf 69 = 56 := by kernel_rfl
@[go_sem] theorem ag69 : isAg Tryd.prog 69 = true := by kernel_rfl
@[go_sem] theorem ze69 : zeroCs Tryd.prog 69 = some [.v (.int .i64 0), .v (.int .i64 0), .v (.int .i64 0), .v (.int .i64 0), .emp] := by kernel_rfl
@[go_sem] theorem se69 : selfTy Tryd.prog 69 = false := by kernel_rfl
@[go_sem] theorem fi69_0 : fieldOf Tryd.prog 69 0 = some { name := "Node", type := 3, offset := 0, embedded := false, tag := "", pkgPath := "", byteOffset := 0 } := by kernel_rfl
@[go_sem] theorem fi69_1 : fieldOf Tryd.prog 69 1 = some { name := "From", type := 3, offset := 1, embedded := false, tag := "", pkgPath := "", byteOffset := 8 } := by kernel_rfl
@[go_sem] theorem fi69_2 : fieldOf Tryd.prog 69 2 = some { name := "State", type := 68, offset := 2, embedded := false, tag := "", pkgPath := "", byteOffset := 16 } := by kernel_rfl
attribute [go_sem] Tryd.underlying70
@[go_sem] theorem ce70 : Tryd.prog.cellsOf 70 = 5 := by kernel_rfl
@[go_sem] theorem by70 : Tryd.prog.bytesOf 70 = 56 := by kernel_rfl
@[go_sem] theorem ag70 : isAg Tryd.prog 70 = true := by kernel_rfl
@[go_sem] theorem ze70 : zeroCs Tryd.prog 70 = some [.v (.int .i64 0), .v (.int .i64 0), .v (.int .i64 0), .v (.int .i64 0), .emp] := by kernel_rfl
@[go_sem] theorem se70 : selfTy Tryd.prog 70 = false := by kernel_rfl
@[go_sem] theorem fi70_0 : fieldOf Tryd.prog 70 0 = some { name := "Node", type := 3, offset := 0, embedded := false, tag := "", pkgPath := "", byteOffset := 0 } := by kernel_rfl
@[go_sem] theorem fi70_1 : fieldOf Tryd.prog 70 1 = some { name := "From", type := 3, offset := 1, embedded := false, tag := "", pkgPath := "", byteOffset := 8 } := by kernel_rfl
@[go_sem] theorem fi70_2 : fieldOf Tryd.prog 70 2 = some { name := "State", type := 68, offset := 2, embedded := false, tag := "", pkgPath := "", byteOffset := 16 } := by kernel_rfl
attribute [go_sem] Tryd.underlying71
@[go_sem] theorem ce71 : Tryd.prog.cellsOf 71 = 3 := by kernel_rfl
@[go_sem] theorem by71 : Tryd.prog.bytesOf 71 = 32 := by kernel_rfl
@[go_sem] theorem ag71 : isAg Tryd.prog 71 = true := by kernel_rfl
@[go_sem] theorem ze71 : zeroCs Tryd.prog 71 = some [.v (.int .i64 0), .v (.int .i64 0), .v (.string { data := #[] })] := by kernel_rfl
@[go_sem] theorem se71 : selfTy Tryd.prog 71 = false := by kernel_rfl
@[go_sem] theorem fi71_0 : fieldOf Tryd.prog 71 0 = some { name := "Key", type := 3, offset := 0, embedded := false, tag := "", pkgPath := "", byteOffset := 0 } := by kernel_rfl
@[go_sem] theorem fi71_1 : fieldOf Tryd.prog 71 1 = some { name := "Ver", type := 3, offset := 1, embedded := false, tag := "", pkgPath := "", byteOffset := 8 } := by kernel_rfl
@[go_sem] theorem fi71_2 : fieldOf Tryd.prog 71 2 = some { name := "Val", type := 9, offset := 2, embedded := false, tag := "", pkgPath := "", byteOffset := 16 } := by kernel_rfl
attribute [go_sem] Tryd.underlying72
@[go_sem] theorem ce72 : Tryd.prog.cellsOf 72 = 3 := by kernel_rfl
@[go_sem] theorem by72 : Tryd.prog.bytesOf 72 = 32 := by kernel_rfl
@[go_sem] theorem ag72 : isAg Tryd.prog 72 = true := by kernel_rfl
@[go_sem] theorem fl72 : flatTags Tryd.prog 72 = some [0, 0, 1] := by kernel_rfl
@[go_sem] theorem ze72 : zeroCs Tryd.prog 72 = some [.v (.int .i64 0), .v (.int .i64 0), .v (.string { data := #[] })] := by kernel_rfl
@[go_sem] theorem se72 : selfTy Tryd.prog 72 = false := by kernel_rfl
@[go_sem] theorem fi72_0 : fieldOf Tryd.prog 72 0 = some { name := "Key", type := 3, offset := 0, embedded := false, tag := "", pkgPath := "", byteOffset := 0 } := by kernel_rfl
@[go_sem] theorem fi72_1 : fieldOf Tryd.prog 72 1 = some { name := "Ver", type := 3, offset := 1, embedded := false, tag := "", pkgPath := "", byteOffset := 8 } := by kernel_rfl
@[go_sem] theorem fi72_2 : fieldOf Tryd.prog 72 2 = some { name := "Val", type := 9, offset := 2, embedded := false, tag := "", pkgPath := "", byteOffset := 16 } := by kernel_rfl
attribute [go_sem] Tryd.underlying73
@[go_sem] theorem ce73 : Tryd.prog.cellsOf 73 = 1 := by kernel_rfl
@[go_sem] theorem by73 : Tryd.prog.bytesOf 73 = 8 := by kernel_rfl
@[go_sem] theorem ag73 : isAg Tryd.prog 73 = false := by kernel_rfl
@[go_sem] theorem ze73 : zeroCs Tryd.prog 73 = some [.v .nilFunc] := by kernel_rfl
@[go_sem] theorem se73 : selfTy Tryd.prog 73 = false := by kernel_rfl
attribute [go_sem] Tryd.underlying74
@[go_sem] theorem ce74 : Tryd.prog.cellsOf 74 = 1 := by kernel_rfl
@[go_sem] theorem by74 : Tryd.prog.bytesOf 74 = 8 := by kernel_rfl
@[go_sem] theorem ag74 : isAg Tryd.prog 74 = false := by kernel_rfl
@[go_sem] theorem ze74 : zeroCs Tryd.prog 74 = some [.v .nilFunc] := by kernel_rfl
@[go_sem] theorem se74 : selfTy Tryd.prog 74 = false := by kernel_rfl
attribute [go_sem] Tryd.underlying75
@[go_sem] theorem ce75 : Tryd.prog.cellsOf 75 = 1 := by kernel_rfl
@[go_sem] theorem by75 : Tryd.prog.bytesOf 75 = 8 := by kernel_rfl
@[go_sem] theorem ag75 : isAg Tryd.prog 75 = false := by kernel_rfl
@[go_sem] theorem ze75 : zeroCs Tryd.prog 75 = some [.v .nilFunc] := by kernel_rfl
@[go_sem] theorem se75 : selfTy Tryd.prog 75 = false := by kernel_rfl
attribute [go_sem] Tryd.underlying76
@[go_sem] theorem ce76 : Tryd.prog.cellsOf 76 = 1 := by kernel_rfl
@[go_sem] theorem by76 : Tryd.prog.bytesOf 76 = 8 := by kernel_rfl
@[go_sem] theorem ag76 : isAg Tryd.prog 76 = false := by kernel_rfl
@[go_sem] theorem ze76 : zeroCs Tryd.prog 76 = some [.v .nilFunc] := by kernel_rfl
@[go_sem] theorem se76 : selfTy Tryd.prog 76 = false := by kernel_rfl
attribute [go_sem] Tryd.underlying77
@[go_sem] theorem ce77 : Tryd.prog.cellsOf 77 = 1 := by kernel_rfl
@[go_sem] theorem by77 : Tryd.prog.bytesOf 77 = 8 := by kernel_rfl
@[go_sem] theorem ag77 : isAg Tryd.prog 77 = false := by kernel_rfl
@[go_sem] theorem ze77 : zeroCs Tryd.prog 77 = some [.v .nilFunc] := by kernel_rfl
@[go_sem] theorem se77 : selfTy Tryd.prog 77 = false := by kernel_rfl
attribute [go_sem] Tryd.underlying78
@[go_sem] theorem ce78 : Tryd.prog.cellsOf 78 = 1 := by kernel_rfl
@[go_sem] theorem by78 : Tryd.prog.bytesOf 78 = 8 := by kernel_rfl
@[go_sem] theorem ag78 : isAg Tryd.prog 78 = false := by kernel_rfl
@[go_sem] theorem ze78 : zeroCs Tryd.prog 78 = some [.v .nilFunc] := by kernel_rfl
@[go_sem] theorem se78 : selfTy Tryd.prog 78 = false := by kernel_rfl
attribute [go_sem] Tryd.underlying79
@[go_sem] theorem ce79 : Tryd.prog.cellsOf 79 = 1 := by kernel_rfl
@[go_sem] theorem by79 : Tryd.prog.bytesOf 79 = 8 := by kernel_rfl
@[go_sem] theorem ag79 : isAg Tryd.prog 79 = false := by kernel_rfl
@[go_sem] theorem ze79 : zeroCs Tryd.prog 79 = some [.v .nilFunc] := by kernel_rfl
@[go_sem] theorem se79 : selfTy Tryd.prog 79 = false := by kernel_rfl
attribute [go_sem] Tryd.underlying81
@[go_sem] theorem ce81 : Tryd.prog.cellsOf 81 = 1 := by kernel_rfl
@[go_sem] theorem by81 : Tryd.prog.bytesOf 81 = 8 := by kernel_rfl
@[go_sem] theorem ag81 : isAg Tryd.prog 81 = false := by kernel_rfl
@[go_sem] theorem ze81 : zeroCs Tryd.prog 81 = some [.v .nilFunc] := by kernel_rfl
@[go_sem] theorem se81 : selfTy Tryd.prog 81 = false := by kernel_rfl
attribute [go_sem] Tryd.underlying83
@[go_sem] theorem ce83 : Tryd.prog.cellsOf 83 = 1 := by kernel_rfl
@[go_sem] theorem by83 : Tryd.prog.bytesOf 83 = 8 := by kernel_rfl
@[go_sem] theorem ag83 : isAg Tryd.prog 83 = false := by kernel_rfl
@[go_sem] theorem ze83 : zeroCs Tryd.prog 83 = some [.v .nilFunc] := by kernel_rfl
@[go_sem] theorem se83 : selfTy Tryd.prog 83 = false := by kernel_rfl
attribute [go_sem] Tryd.underlying84
@[go_sem] theorem ce84 : Tryd.prog.cellsOf 84 = 1 := by kernel_rfl
@[go_sem] theorem by84 : Tryd.prog.bytesOf 84 = 8 := by kernel_rfl
@[go_sem] theorem ag84 : isAg Tryd.prog 84 = false := by kernel_rfl
@[go_sem] theorem ze84 : zeroCs Tryd.prog 84 = some [.v .nilFunc] := by kernel_rfl
@[go_sem] theorem se84 : selfTy Tryd.prog 84 = false := by kernel_rfl
attribute [go_sem] Tryd.underlying85
@[go_sem] theorem ce85 : Tryd.prog.cellsOf 85 = 16 := by kernel_rfl
@[go_sem] theorem by85 : Tryd.prog.bytesOf 85 = 16 := by kernel_rfl
@[go_sem] theorem ag85 : isAg Tryd.prog 85 = true := by kernel_rfl
@[go_sem] theorem ar85 : arrTy Tryd.prog 85 = some (8, 55) := by kernel_rfl
@[go_sem] theorem ze85 : zeroCs Tryd.prog 85 = some [.v (.bool false), .v (.bool false), .v (.bool false), .v (.bool false), .v (.bool false), .v (.bool false), .v (.bool false), .v (.bool false), .v (.bool false), .v (.bool false), .v (.bool false), .v (.bool false), .v (.bool false), .v (.bool false), .v (.bool false), .v (.bool false)] := by kernel_rfl
@[go_sem] theorem se85 : selfTy Tryd.prog 85 = false := by kernel_rfl
attribute [go_sem] Tryd.underlying86
@[go_sem] theorem ce86 : Tryd.prog.cellsOf 86 = 1 := by kernel_rfl
@[go_sem] theorem by86 : Tryd.prog.bytesOf 86 = 8 := by kernel_rfl
@[go_sem] theorem ag86 : isAg Tryd.prog 86 = false := by kernel_rfl
@[go_sem] theorem ze86 : zeroCs Tryd.prog 86 = some [.v .nilFunc] := by kernel_rfl
@[go_sem] theorem se86 : selfTy Tryd.prog 86 = false := by kernel_rfl
attribute [go_sem] Tryd.underlying87
@[go_sem] theorem ce87 : Tryd.prog.cellsOf 87 = 1 := by kernel_rfl
@[go_sem] theorem by87 : Tryd.prog.bytesOf 87 = 8 := by kernel_rfl
@[go_sem] theorem ag87 : isAg Tryd.prog 87 = false := by kernel_rfl
@[go_sem] theorem ze87 : zeroCs Tryd.prog 87 = some [.v .nilFunc] := by kernel_rfl
@[go_sem] theorem se87 : selfTy Tryd.prog 87 = false := by kernel_rfl
attribute [go_sem] Tryd.underlying88
@[go_sem] theorem ce88 : Tryd.prog.cellsOf 88 = 1 := by kernel_rfl
@[go_sem] theorem by88 : Tryd.prog.bytesOf 88 = 8 := by kernel_rfl
@[go_sem] theorem ag88 : isAg Tryd.prog 88 = false := by kernel_rfl
@[go_sem] theorem ze88 : zeroCs Tryd.prog 88 = some [.v (.pointer none)] := by kernel_rfl
@[go_sem] theorem se88 : selfTy Tryd.prog 88 = false := by kernel_rfl
attribute [go_sem] Tryd.underlying89
@[go_sem] theorem ce89 : Tryd.prog.cellsOf 89 = 1 := by kernel_rfl
@[go_sem] theorem by89 : Tryd.prog.bytesOf 89 = 8 := by kernel_rfl
@[go_sem] theorem ag89 : isAg Tryd.prog 89 = true := by kernel_rfl
@[go_sem] theorem ze89 : zeroCs Tryd.prog 89 = some [.v (.int .i64 0)] := by kernel_rfl
@[go_sem] theorem se89 : selfTy Tryd.prog 89 = false := by kernel_rfl
@[go_sem] theorem fi89_0 : fieldOf Tryd.prog 89 0 = some { name := "e", type := 28, offset := 0, embedded := false, tag := "", pkgPath := "bellwether/message", byteOffset := 0 } := by kernel_rfl
attribute [go_sem] Tryd.underlying90
@[go_sem] theorem ce90 : Tryd.prog.cellsOf 90 = 1 := by kernel_rfl
@[go_sem] theorem by90 : Tryd.prog.bytesOf 90 = 8 := by kernel_rfl
@[go_sem] theorem ag90 : isAg Tryd.prog 90 = true := by kernel_rfl
@[go_sem] theorem fl90 : flatTags Tryd.prog 90 = some [0] := by kernel_rfl
@[go_sem] theorem ze90 : zeroCs Tryd.prog 90 = some [.v (.int .i64 0)] := by kernel_rfl
@[go_sem] theorem se90 : selfTy Tryd.prog 90 = false := by kernel_rfl
@[go_sem] theorem fi90_0 : fieldOf Tryd.prog 90 0 = some { name := "e", type := 28, offset := 0, embedded := false, tag := "", pkgPath := "bellwether/message", byteOffset := 0 } := by kernel_rfl
attribute [go_sem] Tryd.underlying91
@[go_sem] theorem ce91 : Tryd.prog.cellsOf 91 = 1 := by kernel_rfl
@[go_sem] theorem by91 : Tryd.prog.bytesOf 91 = 8 := by kernel_rfl
@[go_sem] theorem ag91 : isAg Tryd.prog 91 = false := by kernel_rfl
@[go_sem] theorem ze91 : zeroCs Tryd.prog 91 = some [.v .nilFunc] := by kernel_rfl
@[go_sem] theorem se91 : selfTy Tryd.prog 91 = false := by kernel_rfl
attribute [go_sem] Tryd.underlying92
@[go_sem] theorem ce92 : Tryd.prog.cellsOf 92 = 1 := by kernel_rfl
@[go_sem] theorem by92 : Tryd.prog.bytesOf 92 = 8 := by kernel_rfl
@[go_sem] theorem ag92 : isAg Tryd.prog 92 = false := by kernel_rfl
@[go_sem] theorem ze92 : zeroCs Tryd.prog 92 = some [.v .nilFunc] := by kernel_rfl
@[go_sem] theorem se92 : selfTy Tryd.prog 92 = false := by kernel_rfl
attribute [go_sem] Tryd.underlying94
@[go_sem] theorem ce94 : Tryd.prog.cellsOf 94 = 1 := by kernel_rfl
@[go_sem] theorem by94 : Tryd.prog.bytesOf 94 = 8 := by kernel_rfl
@[go_sem] theorem ag94 : isAg Tryd.prog 94 = false := by kernel_rfl
@[go_sem] theorem ze94 : zeroCs Tryd.prog 94 = some [.v .nilFunc] := by kernel_rfl
@[go_sem] theorem se94 : selfTy Tryd.prog 94 = false := by kernel_rfl
attribute [go_sem] Tryd.underlying95
@[go_sem] theorem ce95 : Tryd.prog.cellsOf 95 = 1 := by kernel_rfl
@[go_sem] theorem by95 : Tryd.prog.bytesOf 95 = 8 := by kernel_rfl
@[go_sem] theorem ag95 : isAg Tryd.prog 95 = false := by kernel_rfl
@[go_sem] theorem ze95 : zeroCs Tryd.prog 95 = some [.v (.pointer none)] := by kernel_rfl
@[go_sem] theorem se95 : selfTy Tryd.prog 95 = false := by kernel_rfl
attribute [go_sem] Tryd.underlying96
@[go_sem] theorem ce96 : Tryd.prog.cellsOf 96 = 2 := by kernel_rfl
@[go_sem] theorem by96 : Tryd.prog.bytesOf 96 = 32 := by kernel_rfl
@[go_sem] theorem ag96 : isAg Tryd.prog 96 = true := by kernel_rfl
@[go_sem] theorem ze96 : zeroCs Tryd.prog 96 = some [.emp, .v (.int .i64 0)] := by kernel_rfl
@[go_sem] theorem se96 : selfTy Tryd.prog 96 = false := by kernel_rfl
@[go_sem] theorem fi96_0 : fieldOf Tryd.prog 96 0 = some { name := "rest", type := 22, offset := 0, embedded := false, tag := "", pkgPath := "bellwether/frame", byteOffset := 0 } := by kernel_rfl
@[go_sem] theorem fi96_1 : fieldOf Tryd.prog 96 1 = some { name := "err", type := 28, offset := 1, embedded := false, tag := "", pkgPath := "bellwether/frame", byteOffset := 24 } := by kernel_rfl
attribute [go_sem] Tryd.underlying97
@[go_sem] theorem ce97 : Tryd.prog.cellsOf 97 = 2 := by kernel_rfl
@[go_sem] theorem by97 : Tryd.prog.bytesOf 97 = 32 := by kernel_rfl
@[go_sem] theorem ag97 : isAg Tryd.prog 97 = true := by kernel_rfl
@[go_sem] theorem ze97 : zeroCs Tryd.prog 97 = some [.emp, .v (.int .i64 0)] := by kernel_rfl
@[go_sem] theorem se97 : selfTy Tryd.prog 97 = false := by kernel_rfl
@[go_sem] theorem fi97_0 : fieldOf Tryd.prog 97 0 = some { name := "rest", type := 22, offset := 0, embedded := false, tag := "", pkgPath := "bellwether/frame", byteOffset := 0 } := by kernel_rfl
@[go_sem] theorem fi97_1 : fieldOf Tryd.prog 97 1 = some { name := "err", type := 28, offset := 1, embedded := false, tag := "", pkgPath := "bellwether/frame", byteOffset := 24 } := by kernel_rfl
attribute [go_sem] Tryd.underlying98
@[go_sem] theorem ce98 : Tryd.prog.cellsOf 98 = 1 := by kernel_rfl
@[go_sem] theorem by98 : Tryd.prog.bytesOf 98 = 8 := by kernel_rfl
@[go_sem] theorem ag98 : isAg Tryd.prog 98 = false := by kernel_rfl
@[go_sem] theorem ze98 : zeroCs Tryd.prog 98 = some [.v .nilFunc] := by kernel_rfl
@[go_sem] theorem se98 : selfTy Tryd.prog 98 = false := by kernel_rfl
attribute [go_sem] Tryd.underlying99
@[go_sem] theorem ce99 : Tryd.prog.cellsOf 99 = 1 := by kernel_rfl
@[go_sem] theorem by99 : Tryd.prog.bytesOf 99 = 8 := by kernel_rfl
@[go_sem] theorem ag99 : isAg Tryd.prog 99 = false := by kernel_rfl
@[go_sem] theorem ze99 : zeroCs Tryd.prog 99 = some [.v .nilFunc] := by kernel_rfl
@[go_sem] theorem se99 : selfTy Tryd.prog 99 = false := by kernel_rfl
attribute [go_sem] Tryd.underlying100
@[go_sem] theorem ce100 : Tryd.prog.cellsOf 100 = 1 := by kernel_rfl
@[go_sem] theorem by100 : Tryd.prog.bytesOf 100 = 8 := by kernel_rfl
@[go_sem] theorem ag100 : isAg Tryd.prog 100 = false := by kernel_rfl
@[go_sem] theorem ze100 : zeroCs Tryd.prog 100 = some [.v .nilFunc] := by kernel_rfl
@[go_sem] theorem se100 : selfTy Tryd.prog 100 = false := by kernel_rfl
attribute [go_sem] Tryd.underlying101
@[go_sem] theorem ce101 : Tryd.prog.cellsOf 101 = 1 := by kernel_rfl
@[go_sem] theorem by101 : Tryd.prog.bytesOf 101 = 8 := by kernel_rfl
@[go_sem] theorem ag101 : isAg Tryd.prog 101 = false := by kernel_rfl
@[go_sem] theorem ze101 : zeroCs Tryd.prog 101 = some [.v .nilFunc] := by kernel_rfl
@[go_sem] theorem se101 : selfTy Tryd.prog 101 = false := by kernel_rfl
attribute [go_sem] Tryd.underlying102
@[go_sem] theorem ce102 : Tryd.prog.cellsOf 102 = 1 := by kernel_rfl
@[go_sem] theorem by102 : Tryd.prog.bytesOf 102 = 8 := by kernel_rfl
@[go_sem] theorem ag102 : isAg Tryd.prog 102 = false := by kernel_rfl
@[go_sem] theorem ze102 : zeroCs Tryd.prog 102 = some [.v .nilFunc] := by kernel_rfl
@[go_sem] theorem se102 : selfTy Tryd.prog 102 = false := by kernel_rfl
attribute [go_sem] Tryd.underlying103
@[go_sem] theorem ce103 : Tryd.prog.cellsOf 103 = 1 := by kernel_rfl
@[go_sem] theorem by103 : Tryd.prog.bytesOf 103 = 8 := by kernel_rfl
@[go_sem] theorem ag103 : isAg Tryd.prog 103 = false := by kernel_rfl
@[go_sem] theorem ze103 : zeroCs Tryd.prog 103 = some [.v (.int .u64 0)] := by kernel_rfl
@[go_sem] theorem se103 : selfTy Tryd.prog 103 = false := by kernel_rfl
attribute [go_sem] Tryd.underlying104
@[go_sem] theorem ce104 : Tryd.prog.cellsOf 104 = 1 := by kernel_rfl
@[go_sem] theorem by104 : Tryd.prog.bytesOf 104 = 24 := by kernel_rfl
@[go_sem] theorem ag104 : isAg Tryd.prog 104 = false := by kernel_rfl
@[go_sem] theorem el104 : elemTy Tryd.prog 104 = some 3 := by kernel_rfl
@[go_sem] theorem ze104 : zeroCs Tryd.prog 104 = some [.emp] := by kernel_rfl
@[go_sem] theorem se104 : selfTy Tryd.prog 104 = false := by kernel_rfl
attribute [go_sem] Tryd.underlying105
@[go_sem] theorem ce105 : Tryd.prog.cellsOf 105 = 1 := by kernel_rfl
@[go_sem] theorem by105 : Tryd.prog.bytesOf 105 = 8 := by kernel_rfl
@[go_sem] theorem ag105 : isAg Tryd.prog 105 = false := by kernel_rfl
@[go_sem] theorem ze105 : zeroCs Tryd.prog 105 = some [.v .nilFunc] := by kernel_rfl
@[go_sem] theorem se105 : selfTy Tryd.prog 105 = false := by kernel_rfl
attribute [go_sem] Tryd.underlying106
@[go_sem] theorem ce106 : Tryd.prog.cellsOf 106 = 1 := by kernel_rfl
@[go_sem] theorem by106 : Tryd.prog.bytesOf 106 = 8 := by kernel_rfl
@[go_sem] theorem ag106 : isAg Tryd.prog 106 = false := by kernel_rfl
@[go_sem] theorem ze106 : zeroCs Tryd.prog 106 = some [.v .nilFunc] := by kernel_rfl
@[go_sem] theorem se106 : selfTy Tryd.prog 106 = false := by kernel_rfl
attribute [go_sem] Tryd.underlying107
@[go_sem] theorem ce107 : Tryd.prog.cellsOf 107 = 1 := by kernel_rfl
@[go_sem] theorem by107 : Tryd.prog.bytesOf 107 = 8 := by kernel_rfl
@[go_sem] theorem ag107 : isAg Tryd.prog 107 = false := by kernel_rfl
@[go_sem] theorem ze107 : zeroCs Tryd.prog 107 = some [.v .nilFunc] := by kernel_rfl
@[go_sem] theorem se107 : selfTy Tryd.prog 107 = false := by kernel_rfl
attribute [go_sem] Tryd.underlying108
@[go_sem] theorem ce108 : Tryd.prog.cellsOf 108 = 1 := by kernel_rfl
@[go_sem] theorem by108 : Tryd.prog.bytesOf 108 = 8 := by kernel_rfl
@[go_sem] theorem ag108 : isAg Tryd.prog 108 = false := by kernel_rfl
@[go_sem] theorem ze108 : zeroCs Tryd.prog 108 = some [.v .nilFunc] := by kernel_rfl
@[go_sem] theorem se108 : selfTy Tryd.prog 108 = false := by kernel_rfl
attribute [go_sem] Tryd.underlying109
@[go_sem] theorem ce109 : Tryd.prog.cellsOf 109 = 1 := by kernel_rfl
@[go_sem] theorem by109 : Tryd.prog.bytesOf 109 = 8 := by kernel_rfl
@[go_sem] theorem ag109 : isAg Tryd.prog 109 = false := by kernel_rfl
@[go_sem] theorem ze109 : zeroCs Tryd.prog 109 = some [.v .nilFunc] := by kernel_rfl
@[go_sem] theorem se109 : selfTy Tryd.prog 109 = false := by kernel_rfl
attribute [go_sem] Tryd.underlying110
@[go_sem] theorem ce110 : Tryd.prog.cellsOf 110 = 1 := by kernel_rfl
@[go_sem] theorem by110 : Tryd.prog.bytesOf 110 = 8 := by kernel_rfl
@[go_sem] theorem ag110 : isAg Tryd.prog 110 = false := by kernel_rfl
@[go_sem] theorem ze110 : zeroCs Tryd.prog 110 = some [.v .nilFunc] := by kernel_rfl
@[go_sem] theorem se110 : selfTy Tryd.prog 110 = false := by kernel_rfl
attribute [go_sem] Tryd.underlying111
@[go_sem] theorem ce111 : Tryd.prog.cellsOf 111 = 1 := by kernel_rfl
@[go_sem] theorem by111 : Tryd.prog.bytesOf 111 = 8 := by kernel_rfl
@[go_sem] theorem ag111 : isAg Tryd.prog 111 = false := by kernel_rfl
@[go_sem] theorem ze111 : zeroCs Tryd.prog 111 = some [.v .nilFunc] := by kernel_rfl
@[go_sem] theorem se111 : selfTy Tryd.prog 111 = false := by kernel_rfl
attribute [go_sem] Tryd.underlying112
@[go_sem] theorem ce112 : Tryd.prog.cellsOf 112 = 1 := by kernel_rfl
@[go_sem] theorem by112 : Tryd.prog.bytesOf 112 = 8 := by kernel_rfl
@[go_sem] theorem ag112 : isAg Tryd.prog 112 = false := by kernel_rfl
@[go_sem] theorem ze112 : zeroCs Tryd.prog 112 = some [.v .nilFunc] := by kernel_rfl
@[go_sem] theorem se112 : selfTy Tryd.prog 112 = false := by kernel_rfl
attribute [go_sem] Tryd.underlying113
@[go_sem] theorem ce113 : Tryd.prog.cellsOf 113 = 1 := by kernel_rfl
@[go_sem] theorem by113 : Tryd.prog.bytesOf 113 = 8 := by kernel_rfl
@[go_sem] theorem ag113 : isAg Tryd.prog 113 = false := by kernel_rfl
@[go_sem] theorem ze113 : zeroCs Tryd.prog 113 = some [.v .nilFunc] := by kernel_rfl
@[go_sem] theorem se113 : selfTy Tryd.prog 113 = false := by kernel_rfl
attribute [go_sem] Tryd.underlying114
@[go_sem] theorem ce114 : Tryd.prog.cellsOf 114 = 1 := by kernel_rfl
@[go_sem] theorem by114 : Tryd.prog.bytesOf 114 = 8 := by kernel_rfl
@[go_sem] theorem ag114 : isAg Tryd.prog 114 = false := by kernel_rfl
@[go_sem] theorem ze114 : zeroCs Tryd.prog 114 = some [.v .nilFunc] := by kernel_rfl
@[go_sem] theorem se114 : selfTy Tryd.prog 114 = false := by kernel_rfl
attribute [go_sem] Tryd.underlying115
@[go_sem] theorem ce115 : Tryd.prog.cellsOf 115 = 1 := by kernel_rfl
@[go_sem] theorem by115 : Tryd.prog.bytesOf 115 = 8 := by kernel_rfl
@[go_sem] theorem ag115 : isAg Tryd.prog 115 = false := by kernel_rfl
@[go_sem] theorem ze115 : zeroCs Tryd.prog 115 = some [.v .nilFunc] := by kernel_rfl
@[go_sem] theorem se115 : selfTy Tryd.prog 115 = false := by kernel_rfl
attribute [go_sem] Tryd.underlying116
@[go_sem] theorem ce116 : Tryd.prog.cellsOf 116 = 1 := by kernel_rfl
@[go_sem] theorem by116 : Tryd.prog.bytesOf 116 = 8 := by kernel_rfl
@[go_sem] theorem ag116 : isAg Tryd.prog 116 = false := by kernel_rfl
@[go_sem] theorem ze116 : zeroCs Tryd.prog 116 = some [.v .nilFunc] := by kernel_rfl
@[go_sem] theorem se116 : selfTy Tryd.prog 116 = false := by kernel_rfl
attribute [go_sem] Tryd.underlying117
@[go_sem] theorem ce117 : Tryd.prog.cellsOf 117 = 1 := by kernel_rfl
@[go_sem] theorem by117 : Tryd.prog.bytesOf 117 = 8 := by kernel_rfl
@[go_sem] theorem ag117 : isAg Tryd.prog 117 = false := by kernel_rfl
@[go_sem] theorem ze117 : zeroCs Tryd.prog 117 = some [.v .nilFunc] := by kernel_rfl
@[go_sem] theorem se117 : selfTy Tryd.prog 117 = false := by kernel_rfl
attribute [go_sem] Tryd.underlying118
@[go_sem] theorem ce118 : Tryd.prog.cellsOf 118 = 1 := by kernel_rfl
@[go_sem] theorem by118 : Tryd.prog.bytesOf 118 = 8 := by kernel_rfl
@[go_sem] theorem ag118 : isAg Tryd.prog 118 = false := by kernel_rfl
@[go_sem] theorem ze118 : zeroCs Tryd.prog 118 = some [.v .nilFunc] := by kernel_rfl
@[go_sem] theorem se118 : selfTy Tryd.prog 118 = false := by kernel_rfl
attribute [go_sem] Tryd.underlying119
@[go_sem] theorem ce119 : Tryd.prog.cellsOf 119 = 1 := by kernel_rfl
@[go_sem] theorem by119 : Tryd.prog.bytesOf 119 = 24 := by kernel_rfl
@[go_sem] theorem ag119 : isAg Tryd.prog 119 = false := by kernel_rfl
@[go_sem] theorem el119 : elemTy Tryd.prog 119 = some 22 := by kernel_rfl
@[go_sem] theorem ze119 : zeroCs Tryd.prog 119 = some [.emp] := by kernel_rfl
@[go_sem] theorem se119 : selfTy Tryd.prog 119 = false := by kernel_rfl
attribute [go_sem] Tryd.underlying120
@[go_sem] theorem ce120 : Tryd.prog.cellsOf 120 = 1 := by kernel_rfl
@[go_sem] theorem by120 : Tryd.prog.bytesOf 120 = 8 := by kernel_rfl
@[go_sem] theorem ag120 : isAg Tryd.prog 120 = false := by kernel_rfl
@[go_sem] theorem ze120 : zeroCs Tryd.prog 120 = some [.v .nilFunc] := by kernel_rfl
@[go_sem] theorem se120 : selfTy Tryd.prog 120 = false := by kernel_rfl
attribute [go_sem] Tryd.underlying121
@[go_sem] theorem ce121 : Tryd.prog.cellsOf 121 = 1 := by kernel_rfl
@[go_sem] theorem by121 : Tryd.prog.bytesOf 121 = 8 := by kernel_rfl
@[go_sem] theorem ag121 : isAg Tryd.prog 121 = false := by kernel_rfl
@[go_sem] theorem ze121 : zeroCs Tryd.prog 121 = some [.v .nilFunc] := by kernel_rfl
@[go_sem] theorem se121 : selfTy Tryd.prog 121 = false := by kernel_rfl
attribute [go_sem] Tryd.underlying122
@[go_sem] theorem ce122 : Tryd.prog.cellsOf 122 = 1 := by kernel_rfl
@[go_sem] theorem by122 : Tryd.prog.bytesOf 122 = 8 := by kernel_rfl
@[go_sem] theorem ag122 : isAg Tryd.prog 122 = false := by kernel_rfl
@[go_sem] theorem ze122 : zeroCs Tryd.prog 122 = some [.v .nilFunc] := by kernel_rfl
@[go_sem] theorem se122 : selfTy Tryd.prog 122 = false := by kernel_rfl
attribute [go_sem] Tryd.underlying131
@[go_sem] theorem ce131 : Tryd.prog.cellsOf 131 = 1 := by kernel_rfl
@[go_sem] theorem by131 : Tryd.prog.bytesOf 131 = 8 := by kernel_rfl
@[go_sem] theorem ag131 : isAg Tryd.prog 131 = false := by kernel_rfl
@[go_sem] theorem ze131 : zeroCs Tryd.prog 131 = some [.v (.pointer none)] := by kernel_rfl
@[go_sem] theorem se131 : selfTy Tryd.prog 131 = false := by kernel_rfl
attribute [go_sem] fieldsKnown
end Go.Proofs.YtjkdahpoalnjjaaDoor.VL

/- Layer 1: numbers as bytes, in plain lists. -/
set_option linter.unusedVariables false
set_option linter.unusedSimpArgs false
namespace Go.Proofs.YtjkdahpoalnjjaaDoor.VL
open Go Go.RowKit Go.Lib

/-- A number's bytes: seven bits each, the lowest first; all but the last one have 128 more. -/
def nb (n : Nat) : List UInt8 := if n < 128 then [UInt8.ofNat n] else UInt8.ofNat (n % 128 + 128) :: nb (n / 128)
termination_by n
decreasing_by omega
theorem nb_small {n : Nat} (h : n < 128) : nb n = [UInt8.ofNat n] := by rw [nb, if_pos h]
theorem nb_big {n : Nat} (h : 128 ≤ n) : nb n = UInt8.ofNat (n % 128 + 128) :: nb (n / 128) := by rw [nb, if_neg (by omega)]
theorem nb_pos (n : Nat) : 0 < (nb n).length := by rw [nb]; split <;> simp
def okNum (n : Int) : Bool := decide (0 ≤ n ∧ n ≤ 4611686018427387904)
/-- What is laid of a number: nothing, if it is none. -/
def numB (n : Int) : List UInt8 := if okNum n then nb n.toNat else []
def numsB (l : List Int) : List UInt8 := l.flatMap numB

theorem nb_length_le (k : Nat) : ∀ n, n < 128 ^ k → 0 < k → (nb n).length ≤ k := by
  induction k with
  | zero => intro n _ h; omega
  | succ k ih =>
    intro n h _
    by_cases hn : n < 128
    · rw [nb_small hn]; simp
    · rw [nb_big (by omega)]
      have hk : 0 < k := by
        rcases Nat.eq_zero_or_pos k with h0 | h0
        · subst h0; simp at h; omega
        · exact h0
      have := ih (n / 128) (by rw [Nat.pow_succ] at h; omega) hk
      simp; omega
theorem numB_length_le (n : Int) : (numB n).length ≤ 9 := by
  unfold numB
  split
  · rename_i h
    simp only [okNum, decide_eq_true_eq] at h
    refine nb_length_le 9 _ ?_ (by omega)
    have : (128 : Nat) ^ 9 = 9223372036854775808 := by decide
    omega
  · simp

/-- How many bits a number has. -/
def blen (n : Nat) : Nat := if n = 0 then 0 else Nat.log2 n + 1
theorem blen_zero : blen 0 = 0 := rfl
theorem blen_half {n : Nat} (h : 0 < n) : blen n = blen (n / 2) + 1 := by
  unfold blen
  rw [if_neg (by omega)]
  by_cases h1 : n = 1
  · subst h1; decide
  · rw [if_neg (by omega), Nat.log2_def]
    rw [if_pos (by omega)]
theorem blen_shift (k : Nat) : ∀ n, 2 ^ k ≤ n → blen n = blen (n / 2 ^ k) + k := by
  induction k with
  | zero => intro n _; simp
  | succ k ih =>
    intro n h
    have hp : 0 < 2 ^ k := Nat.two_pow_pos k
    rw [Nat.pow_succ] at h
    rw [blen_half (by omega), ih (n / 2) (by omega), Nat.div_div_eq_div_mul, Nat.pow_succ, Nat.mul_comm 2]
    omega
theorem nb_length (n : Nat) : (nb n).length = max 1 ((blen n + 6) / 7) := by
  induction n using Nat.strongRecOn with
  | _ n ih =>
    by_cases h : n < 128
    · rw [nb_small h]
      have : ∀ m, m < 128 → max 1 ((blen m + 6) / 7) = 1 := by decide
      rw [this n h]; rfl
    · have h2 := blen_shift 7 n (by omega)
      have := ih (n / 128) (by omega)
      rw [nb_big (by omega), List.length_cons, this, h2]
      have hb : 0 < blen (n / 2 ^ 7) := by unfold blen; split <;> omega
      have e : (2 : Nat) ^ 7 = 128 := rfl
      rw [e] at hb ⊢
      omega
theorem blen_or_one (n : Nat) : blen (n ||| 1) = max 1 (blen n) := by
  have hd : (n ||| 1) / 2 = n / 2 := by
    have := Nat.or_div_two (a := n) (b := 1)
    simpa using this
  have hp : 0 < n ||| 1 := by
    have := Nat.right_le_or (n := n) (m := 1)
    omega
  rw [blen_half hp, hd]
  rcases Nat.eq_zero_or_pos n with h | h
  · subst h; decide
  · rw [blen_half h]; omega

end Go.Proofs.YtjkdahpoalnjjaaDoor.VL

/- Layer 1: what the reference's and the program's functions on numbers' and texts' bytes compute. -/
-- STEPWISE
set_option linter.unusedVariables false
set_option linter.unusedSimpArgs false
set_option maxRecDepth 10000
namespace Go.Proofs.YtjkdahpoalnjjaaDoor.VL
open Go Go.RowKit Go.Lib

/-- A call answers just this, and leaves the boxes as they were. -/
abbrev Gives (r : AV) (H : List Box) : Out → List Box → Prop := fun o H' => o = .ret r ∧ H' = H
abbrev vi (n : Int) : AV := .v (.int .i64 n)
abbrev vb (b : Bool) : AV := .v (.bool b)
abbrev vs (bs : List UInt8) : AV := .v (.string ⟨bs.toArray⟩)
abbrev vB (bs : List UInt8) : AV := .lst 1 (bytesG bs)
/-- A new row of bytes, one's own. -/
abbrev Owns (bs : List UInt8) (H : List Box) : Out → List Box → Prop := fun o H' => o = .ret (.sl H.length 0 0 bs.length 1 false) ∧ H' = H ++ [⟨bytesC bs, 0, 0, true⟩]

theorem may_spec (n : Int) (H : List Box) : ASpec Tryd.prog 88 [vi n] H (Gives (vb (okNum n)) H) := by
  intro base
  refine acall_body Tryd.func88 rfl (fun a w => Tryd.call88 a w) Tryd.ntmps88 Tryd.results88 (by simp) ?_
  intro w β hI
  simp only [number]
  repeat' (first
    | (refine AWP.seq ?_)
    | (refine AWP.block ?_)
    | (refine AWP.region_k fun Q' hQ' => ?_)
    | (refine AWP.draw_k rfl (by kernel_rfl) fun Q' hQ' => ?_)
    | (with_reducible refine aops.step fun T hT => ?_; simp (disch := omega) only [go_sem, Nat.reduceBEq, Nat.reduceLT, Nat.reduceEqDiff, reduceIte, Nat.reduceAdd, Nat.reduceMul, Nat.reduceSub, Nat.reduceLeDiff, Int.reduceToNat, Int.reducePow, Int.reduceLT, Int.reduceEq, Int.reduceNeg, Nat.reducePow, List.reduceReplicate, Int.reduceLE])
    | (with_reducible refine qops.step fun T hT => ?_; simp (disch := omega) only [go_sem, Nat.reduceBEq, Nat.reduceLT, Nat.reduceEqDiff, reduceIte, Nat.reduceAdd, Nat.reduceMul, Nat.reduceSub, Nat.reduceLeDiff, Int.reduceToNat, Int.reducePow, Int.reduceLT, Int.reduceEq, Int.reduceNeg, Nat.reducePow, List.reduceReplicate, Int.reduceLE])
    | (with_reducible refine aops.nil ?_)
    | (with_reducible refine qops.nil ?_)
    | (with_reducible refine hT _ ?_; clear hT T)
    | (refine AWP.skip ?_; try simp only [AExit.then, AExit.inBlock, reduceIte, Nat.reduceEqDiff])
    | (refine AWP.exit ?_; try simp only [AExit.then, AExit.inBlock, reduceIte, Nat.reduceEqDiff])
    | (refine AWP.ret ?_; try simp only [AExit.then, AExit.inBlock, reduceIte, Nat.reduceEqDiff])
    | (refine AWP.cond rfl (fun h => ?_) (fun h => ?_) <;> (try simp only [decide_eq_true_eq, decide_eq_false_iff_not, Bool.true_eq_false, Bool.false_eq_true] at h) <;> (try contradiction))
    | (refine hQ' _ _ ?_; clear hQ' Q'; try simp only [AExit.then, AExit.inBlock, reduceIte, Nat.reduceEqDiff])
    | (refine hQ' _ ?_; clear hQ' Q'; try simp only [AExit.then, AExit.inBlock, reduceIte, Nat.reduceEqDiff])
    | (with_reducible refine Branch.split (fun h => ?_) (fun h => ?_) <;> (try simp only [decide_eq_true_eq, decide_eq_false_iff_not, Bool.not_true, Bool.not_false, Bool.true_eq_false, Bool.false_eq_true] at h) <;> (try contradiction) <;> (simp (disch := omega) only [go_sem, Nat.reduceBEq, Nat.reduceLT, Nat.reduceEqDiff, reduceIte, Nat.reduceAdd, Nat.reduceMul, Nat.reduceSub, Nat.reduceLeDiff, Int.reduceToNat, Int.reducePow, Int.reduceLT, Int.reduceEq, Int.reduceNeg, Nat.reducePow, List.reduceReplicate, Int.reduceLE, h]))
    | (with_reducible intro h; try simp only [h, go_sem, Nat.reduceBEq, Nat.reduceLT, Nat.reduceEqDiff, reduceIte, Nat.reduceAdd, Nat.reduceMul, Nat.reduceSub, Nat.reduceLeDiff, Int.reduceToNat, Int.reducePow, Int.reduceLT, Int.reduceEq, Int.reduceNeg, Nat.reducePow, List.reduceReplicate, Int.reduceLE]))
  all_goals
    simp only [bodyQ, go_sem, Nat.reduceBEq, Nat.reduceLT, Nat.reduceEqDiff, reduceIte, Nat.reduceAdd, Nat.reduceMul, Nat.reduceSub, Nat.reduceLeDiff, Int.reduceToNat, Int.reducePow, Int.reduceLT, Int.reduceEq, Int.reduceNeg, Nat.reducePow, List.reduceReplicate, Int.reduceLE]
    refine Fin.same ⟨?_, rfl⟩
    simp [okNum, *]

theorem refSize_spec (k : Nat) : ∀ (n : Int) (H : List Box), n.toNat < k → ASpec Tryd.prog 66 [vi n] H (Gives (vi (numB n).length) H) := by
  induction k with
  | zero => intro n H h; omega
  | succ k ih =>
    intro n H hk
    cases hn : okNum n with
    | false =>
      intro base
      refine acall_body Tryd.func66 rfl (fun a w => Tryd.call66 a w) Tryd.ntmps66 Tryd.results66 (by simp) ?_
      intro w β hI
      simp only [number]
      repeat' (first
        | (refine AWP.seq ?_)
        | (refine AWP.block ?_)
        | (refine AWP.region_k fun Q' hQ' => ?_)
        | (refine AWP.draw_k rfl (by kernel_rfl) fun Q' hQ' => ?_)
        | (with_reducible refine aops.step fun T hT => ?_; simp (disch := omega) only [go_sem, Nat.reduceBEq, Nat.reduceLT, Nat.reduceEqDiff, reduceIte, Nat.reduceAdd, Nat.reduceMul, Nat.reduceSub, Nat.reduceLeDiff, Int.reduceToNat, Int.reducePow, Int.reduceLT, Int.reduceEq, Int.reduceNeg, Nat.reducePow, List.reduceReplicate, Int.reduceLE, hn])
        | (with_reducible refine qops.step fun T hT => ?_; simp (disch := omega) only [go_sem, Nat.reduceBEq, Nat.reduceLT, Nat.reduceEqDiff, reduceIte, Nat.reduceAdd, Nat.reduceMul, Nat.reduceSub, Nat.reduceLeDiff, Int.reduceToNat, Int.reducePow, Int.reduceLT, Int.reduceEq, Int.reduceNeg, Nat.reducePow, List.reduceReplicate, Int.reduceLE, hn])
        | (with_reducible refine aops.nil ?_)
        | (with_reducible refine qops.nil ?_)
        | (with_reducible refine hT _ ?_; clear hT T)
        | (refine AWP.skip ?_; try simp only [AExit.then, AExit.inBlock, reduceIte, Nat.reduceEqDiff])
        | (refine AWP.exit ?_; try simp only [AExit.then, AExit.inBlock, reduceIte, Nat.reduceEqDiff])
        | (refine AWP.ret ?_; try simp only [AExit.then, AExit.inBlock, reduceIte, Nat.reduceEqDiff])
        | (refine AWP.cond rfl (fun h => ?_) (fun h => ?_) <;> (try simp only [decide_eq_true_eq, decide_eq_false_iff_not, Bool.true_eq_false, Bool.false_eq_true] at h) <;> (try contradiction))
        | (refine hQ' _ _ ?_; clear hQ' Q'; try simp only [AExit.then, AExit.inBlock, reduceIte, Nat.reduceEqDiff])
        | (refine hQ' _ ?_; clear hQ' Q'; try simp only [AExit.then, AExit.inBlock, reduceIte, Nat.reduceEqDiff])
        | (with_reducible refine Branch.split (fun h => ?_) (fun h => ?_) <;> (try simp only [decide_eq_true_eq, decide_eq_false_iff_not, Bool.not_true, Bool.not_false, Bool.true_eq_false, Bool.false_eq_true] at h) <;> (try contradiction) <;> (simp (disch := omega) only [go_sem, Nat.reduceBEq, Nat.reduceLT, Nat.reduceEqDiff, reduceIte, Nat.reduceAdd, Nat.reduceMul, Nat.reduceSub, Nat.reduceLeDiff, Int.reduceToNat, Int.reducePow, Int.reduceLT, Int.reduceEq, Int.reduceNeg, Nat.reducePow, List.reduceReplicate, Int.reduceLE, h, hn]))
        | (with_reducible intro h; try simp only [h, go_sem, Nat.reduceBEq, Nat.reduceLT, Nat.reduceEqDiff, reduceIte, Nat.reduceAdd, Nat.reduceMul, Nat.reduceSub, Nat.reduceLeDiff, Int.reduceToNat, Int.reducePow, Int.reduceLT, Int.reduceEq, Int.reduceNeg, Nat.reducePow, List.reduceReplicate, Int.reduceLE, hn])
        | ((first | (with_reducible refine acall.det (may_spec n _) ?_) | (with_reducible refine qcall.det (may_spec n _) ?_)); try simp (disch := omega) only [go_sem, Nat.reduceBEq, Nat.reduceLT, Nat.reduceEqDiff, reduceIte, Nat.reduceAdd, Nat.reduceMul, Nat.reduceSub, Nat.reduceLeDiff, Int.reduceToNat, Int.reducePow, Int.reduceLT, Int.reduceEq, Int.reduceNeg, Nat.reducePow, List.reduceReplicate, Int.reduceLE, hn]))
      simp only [bodyQ, go_sem, Nat.reduceBEq, Nat.reduceLT, Nat.reduceEqDiff, reduceIte, Nat.reduceAdd, Nat.reduceMul, Nat.reduceSub, Nat.reduceLeDiff, Int.reduceToNat, Int.reducePow, Int.reduceLT, Int.reduceEq, Int.reduceNeg, Nat.reducePow, List.reduceReplicate, Int.reduceLE]
      exact Fin.same ⟨by simp [numB, hn], rfl⟩
    | true =>
      have hb : 0 ≤ n ∧ n ≤ 4611686018427387904 := by simpa [okNum] using hn
      by_cases h128 : n < 128
      · intro base
        refine acall_body Tryd.func66 rfl (fun a w => Tryd.call66 a w) Tryd.ntmps66 Tryd.results66 (by simp) ?_
        intro w β hI
        simp only [number]
        repeat' (first
          | (refine AWP.seq ?_)
          | (refine AWP.block ?_)
          | (refine AWP.region_k fun Q' hQ' => ?_)
          | (refine AWP.draw_k rfl (by kernel_rfl) fun Q' hQ' => ?_)
          | (with_reducible refine aops.step fun T hT => ?_; simp (disch := omega) only [go_sem, Nat.reduceBEq, Nat.reduceLT, Nat.reduceEqDiff, reduceIte, Nat.reduceAdd, Nat.reduceMul, Nat.reduceSub, Nat.reduceLeDiff, Int.reduceToNat, Int.reducePow, Int.reduceLT, Int.reduceEq, Int.reduceNeg, Nat.reducePow, List.reduceReplicate, Int.reduceLE, hn, h128])
          | (with_reducible refine qops.step fun T hT => ?_; simp (disch := omega) only [go_sem, Nat.reduceBEq, Nat.reduceLT, Nat.reduceEqDiff, reduceIte, Nat.reduceAdd, Nat.reduceMul, Nat.reduceSub, Nat.reduceLeDiff, Int.reduceToNat, Int.reducePow, Int.reduceLT, Int.reduceEq, Int.reduceNeg, Nat.reducePow, List.reduceReplicate, Int.reduceLE, hn, h128])
          | (with_reducible refine aops.nil ?_)
          | (with_reducible refine qops.nil ?_)
          | (with_reducible refine hT _ ?_; clear hT T)
          | (refine AWP.skip ?_; try simp only [AExit.then, AExit.inBlock, reduceIte, Nat.reduceEqDiff])
          | (refine AWP.exit ?_; try simp only [AExit.then, AExit.inBlock, reduceIte, Nat.reduceEqDiff])
          | (refine AWP.ret ?_; try simp only [AExit.then, AExit.inBlock, reduceIte, Nat.reduceEqDiff])
          | (refine AWP.cond rfl (fun h => ?_) (fun h => ?_) <;> (try simp only [decide_eq_true_eq, decide_eq_false_iff_not, Bool.true_eq_false, Bool.false_eq_true] at h) <;> (try contradiction))
          | (refine hQ' _ _ ?_; clear hQ' Q'; try simp only [AExit.then, AExit.inBlock, reduceIte, Nat.reduceEqDiff])
          | (refine hQ' _ ?_; clear hQ' Q'; try simp only [AExit.then, AExit.inBlock, reduceIte, Nat.reduceEqDiff])
          | (with_reducible refine Branch.split (fun h => ?_) (fun h => ?_) <;> (try simp only [decide_eq_true_eq, decide_eq_false_iff_not, Bool.not_true, Bool.not_false, Bool.true_eq_false, Bool.false_eq_true] at h) <;> (try contradiction) <;> (simp (disch := omega) only [go_sem, Nat.reduceBEq, Nat.reduceLT, Nat.reduceEqDiff, reduceIte, Nat.reduceAdd, Nat.reduceMul, Nat.reduceSub, Nat.reduceLeDiff, Int.reduceToNat, Int.reducePow, Int.reduceLT, Int.reduceEq, Int.reduceNeg, Nat.reducePow, List.reduceReplicate, Int.reduceLE, h, hn, h128]))
          | (with_reducible intro h; try simp only [h, go_sem, Nat.reduceBEq, Nat.reduceLT, Nat.reduceEqDiff, reduceIte, Nat.reduceAdd, Nat.reduceMul, Nat.reduceSub, Nat.reduceLeDiff, Int.reduceToNat, Int.reducePow, Int.reduceLT, Int.reduceEq, Int.reduceNeg, Nat.reducePow, List.reduceReplicate, Int.reduceLE, hn, h128])
          | ((first | (with_reducible refine acall.det (may_spec n _) ?_) | (with_reducible refine qcall.det (may_spec n _) ?_)); try simp (disch := omega) only [go_sem, Nat.reduceBEq, Nat.reduceLT, Nat.reduceEqDiff, reduceIte, Nat.reduceAdd, Nat.reduceMul, Nat.reduceSub, Nat.reduceLeDiff, Int.reduceToNat, Int.reducePow, Int.reduceLT, Int.reduceEq, Int.reduceNeg, Nat.reducePow, List.reduceReplicate, Int.reduceLE, hn, h128]))
        simp only [bodyQ, go_sem, Nat.reduceBEq, Nat.reduceLT, Nat.reduceEqDiff, reduceIte, Nat.reduceAdd, Nat.reduceMul, Nat.reduceSub, Nat.reduceLeDiff, Int.reduceToNat, Int.reducePow, Int.reduceLT, Int.reduceEq, Int.reduceNeg, Nat.reducePow, List.reduceReplicate, Int.reduceLE]
        exact Fin.same ⟨by simp [numB, hn, nb_small (show n.toNat < 128 by omega)], rfl⟩
      · have hq : Int.tdiv n 128 = n / 128 := Int.tdiv_eq_ediv_of_nonneg hb.1
        have hl := numB_length_le (n / 128)
        have ht : (n / 128).toNat = n.toNat / 128 := by omega
        have hok : okNum (n / 128) = true := by simp [okNum]; omega
        intro base
        refine acall_body Tryd.func66 rfl (fun a w => Tryd.call66 a w) Tryd.ntmps66 Tryd.results66 (by simp) ?_
        intro w β hI
        simp only [number]
        repeat' (first
          | (refine AWP.seq ?_)
          | (refine AWP.block ?_)
          | (refine AWP.region_k fun Q' hQ' => ?_)
          | (refine AWP.draw_k rfl (by kernel_rfl) fun Q' hQ' => ?_)
          | (with_reducible refine aops.step fun T hT => ?_; simp (disch := omega) only [go_sem, Nat.reduceBEq, Nat.reduceLT, Nat.reduceEqDiff, reduceIte, Nat.reduceAdd, Nat.reduceMul, Nat.reduceSub, Nat.reduceLeDiff, Int.reduceToNat, Int.reducePow, Int.reduceLT, Int.reduceEq, Int.reduceNeg, Nat.reducePow, List.reduceReplicate, Int.reduceLE, hn, h128, hq])
          | (with_reducible refine qops.step fun T hT => ?_; simp (disch := omega) only [go_sem, Nat.reduceBEq, Nat.reduceLT, Nat.reduceEqDiff, reduceIte, Nat.reduceAdd, Nat.reduceMul, Nat.reduceSub, Nat.reduceLeDiff, Int.reduceToNat, Int.reducePow, Int.reduceLT, Int.reduceEq, Int.reduceNeg, Nat.reducePow, List.reduceReplicate, Int.reduceLE, hn, h128, hq])
          | (with_reducible refine aops.nil ?_)
          | (with_reducible refine qops.nil ?_)
          | (with_reducible refine hT _ ?_; clear hT T)
          | (refine AWP.skip ?_; try simp only [AExit.then, AExit.inBlock, reduceIte, Nat.reduceEqDiff])
          | (refine AWP.exit ?_; try simp only [AExit.then, AExit.inBlock, reduceIte, Nat.reduceEqDiff])
          | (refine AWP.ret ?_; try simp only [AExit.then, AExit.inBlock, reduceIte, Nat.reduceEqDiff])
          | (refine AWP.cond rfl (fun h => ?_) (fun h => ?_) <;> (try simp only [decide_eq_true_eq, decide_eq_false_iff_not, Bool.true_eq_false, Bool.false_eq_true] at h) <;> (try contradiction))
          | (refine hQ' _ _ ?_; clear hQ' Q'; try simp only [AExit.then, AExit.inBlock, reduceIte, Nat.reduceEqDiff])
          | (refine hQ' _ ?_; clear hQ' Q'; try simp only [AExit.then, AExit.inBlock, reduceIte, Nat.reduceEqDiff])
          | (with_reducible refine Branch.split (fun h => ?_) (fun h => ?_) <;> (try simp only [decide_eq_true_eq, decide_eq_false_iff_not, Bool.not_true, Bool.not_false, Bool.true_eq_false, Bool.false_eq_true] at h) <;> (try contradiction) <;> (simp (disch := omega) only [go_sem, Nat.reduceBEq, Nat.reduceLT, Nat.reduceEqDiff, reduceIte, Nat.reduceAdd, Nat.reduceMul, Nat.reduceSub, Nat.reduceLeDiff, Int.reduceToNat, Int.reducePow, Int.reduceLT, Int.reduceEq, Int.reduceNeg, Nat.reducePow, List.reduceReplicate, Int.reduceLE, h, hn, h128, hq]))
          | (with_reducible intro h; try simp only [h, go_sem, Nat.reduceBEq, Nat.reduceLT, Nat.reduceEqDiff, reduceIte, Nat.reduceAdd, Nat.reduceMul, Nat.reduceSub, Nat.reduceLeDiff, Int.reduceToNat, Int.reducePow, Int.reduceLT, Int.reduceEq, Int.reduceNeg, Nat.reducePow, List.reduceReplicate, Int.reduceLE, hn, h128, hq])
          | ((first | (with_reducible refine acall.det (may_spec n _) ?_) | (with_reducible refine qcall.det (may_spec n _) ?_) | (with_reducible refine acall.det (ih (n / 128) _ (by omega)) ?_) | (with_reducible refine qcall.det (ih (n / 128) _ (by omega)) ?_)); try simp (disch := omega) only [go_sem, Nat.reduceBEq, Nat.reduceLT, Nat.reduceEqDiff, reduceIte, Nat.reduceAdd, Nat.reduceMul, Nat.reduceSub, Nat.reduceLeDiff, Int.reduceToNat, Int.reducePow, Int.reduceLT, Int.reduceEq, Int.reduceNeg, Nat.reducePow, List.reduceReplicate, Int.reduceLE, hn, h128, hq]))
        simp only [bodyQ, go_sem, Nat.reduceBEq, Nat.reduceLT, Nat.reduceEqDiff, reduceIte, Nat.reduceAdd, Nat.reduceMul, Nat.reduceSub, Nat.reduceLeDiff, Int.reduceToNat, Int.reducePow, Int.reduceLT, Int.reduceEq, Int.reduceNeg, Nat.reducePow, List.reduceReplicate, Int.reduceLE]
        refine Fin.same ⟨?_, rfl⟩
        simp only [numB, hn, hok, if_true, nb_big (show 128 ≤ n.toNat by omega), ht, List.length_cons]
        congr 4
        omega

theorem len8_get : ∀ i, i < 256 → ((([0, 1, 2, 2, 3, 3, 3, 3, 4, 4, 4, 4, 4, 4, 4, 4, 5, 5, 5, 5, 5, 5, 5, 5, 5, 5, 5, 5, 5, 5, 5, 5, 6, 6, 6, 6, 6, 6, 6, 6, 6, 6, 6, 6, 6, 6, 6, 6, 6, 6, 6, 6, 6, 6, 6, 6, 6, 6, 6, 6, 6, 6, 6, 6] : List UInt8).append [7, 7, 7, 7, 7, 7, 7, 7, 7, 7, 7, 7, 7, 7, 7, 7, 7, 7, 7, 7, 7, 7, 7, 7, 7, 7, 7, 7, 7, 7, 7, 7, 7, 7, 7, 7, 7, 7, 7, 7, 7, 7, 7, 7, 7, 7, 7, 7, 7, 7, 7, 7, 7, 7, 7, 7, 7, 7, 7, 7, 7, 7, 7, 7]).append (([8, 8, 8, 8, 8, 8, 8, 8, 8, 8, 8, 8, 8, 8, 8, 8, 8, 8, 8, 8, 8, 8, 8, 8, 8, 8, 8, 8, 8, 8, 8, 8, 8, 8, 8, 8, 8, 8, 8, 8, 8, 8, 8, 8, 8, 8, 8, 8, 8, 8, 8, 8, 8, 8, 8, 8, 8, 8, 8, 8, 8, 8, 8, 8] : List UInt8).append [8, 8, 8, 8, 8, 8, 8, 8, 8, 8, 8, 8, 8, 8, 8, 8, 8, 8, 8, 8, 8, 8, 8, 8, 8, 8, 8, 8, 8, 8, 8, 8, 8, 8, 8, 8, 8, 8, 8, 8, 8, 8, 8, 8, 8, 8, 8, 8, 8, 8, 8, 8, 8, 8, 8, 8, 8, 8, 8, 8, 8, 8, 8, 8]))[i]? = some (UInt8.ofNat (blen i)) := by decide
theorem blen_small : ∀ i, i < 256 → blen i ≤ 8 := by decide
theorem u8_small (i : Nat) (h : i < 256) : ((UInt8.ofNat (blen i)).toNat : Int) = blen i := by
  have := blen_small i h
  simp [UInt8.toNat_ofNat']
  omega
theorem len_key (n k p m : Nat) (hp : p = 2 ^ k) (h1 : n / p = m) (h3 : k = 0 ∨ p ≤ n) : (k : Int) + (blen m : Int) = blen n := by
  subst h1; subst hp
  rcases h3 with rfl | h3
  · simp
  · rw [blen_shift k n h3]; omega
set_option maxHeartbeats 1000000 in
theorem len64_spec (n : Nat) (hn : n < 18446744073709551616) (H : List Box) : ASpec Tryd.prog 101 [.v (.int .u64 n)] H (Gives (vi (blen n)) H) := by
  by_cases h256 : n < 256
  · have hb := blen_small n h256
    intro base
    refine acall_body Tryd.func101 rfl (fun a w => Tryd.call101 a w) Tryd.ntmps101 Tryd.results101 (by simp) ?_
    intro w β hI
    simp only [number]
    repeat' (first
      | (refine AWP.seq ?_)
      | (refine AWP.block ?_)
      | (refine AWP.region_k fun Q' hQ' => ?_)
      | (refine AWP.draw_k rfl (by kernel_rfl) fun Q' hQ' => ?_)
      | (with_reducible refine aops.step fun T hT => ?_; simp (disch := omega) only [go_sem, Nat.reduceBEq, Nat.reduceLT, Nat.reduceEqDiff, reduceIte, Nat.reduceAdd, Nat.reduceMul, Nat.reduceSub, Nat.reduceLeDiff, Int.reduceToNat, Int.reducePow, Int.reduceLT, Int.reduceEq, Int.reduceNeg, Nat.reducePow, List.reduceReplicate, Int.reduceLE])
      | (with_reducible refine qops.step fun T hT => ?_; simp (disch := omega) only [go_sem, Nat.reduceBEq, Nat.reduceLT, Nat.reduceEqDiff, reduceIte, Nat.reduceAdd, Nat.reduceMul, Nat.reduceSub, Nat.reduceLeDiff, Int.reduceToNat, Int.reducePow, Int.reduceLT, Int.reduceEq, Int.reduceNeg, Nat.reducePow, List.reduceReplicate, Int.reduceLE])
      | (with_reducible refine aops.nil ?_)
      | (with_reducible refine qops.nil ?_)
      | (with_reducible refine hT _ ?_; clear hT T)
      | (refine AWP.skip ?_; try simp only [AExit.then, AExit.inBlock, reduceIte, Nat.reduceEqDiff])
      | (refine AWP.exit ?_; try simp only [AExit.then, AExit.inBlock, reduceIte, Nat.reduceEqDiff])
      | (refine AWP.ret ?_; try simp only [AExit.then, AExit.inBlock, reduceIte, Nat.reduceEqDiff])
      | (refine AWP.cond rfl (fun h => ?_) (fun h => ?_) <;> (try simp only [decide_eq_true_eq, decide_eq_false_iff_not, Bool.true_eq_false, Bool.false_eq_true] at h) <;> (try contradiction))
      | (refine hQ' _ _ ?_; clear hQ' Q'; try simp only [AExit.then, AExit.inBlock, reduceIte, Nat.reduceEqDiff])
      | (refine hQ' _ ?_; clear hQ' Q'; try simp only [AExit.then, AExit.inBlock, reduceIte, Nat.reduceEqDiff])
      | (with_reducible refine Branch.split (fun h => ?_) (fun h => ?_) <;> (try simp only [decide_eq_true_eq, decide_eq_false_iff_not, Bool.not_true, Bool.not_false, Bool.true_eq_false, Bool.false_eq_true] at h) <;> (try contradiction) <;> (simp (disch := omega) only [go_sem, Nat.reduceBEq, Nat.reduceLT, Nat.reduceEqDiff, reduceIte, Nat.reduceAdd, Nat.reduceMul, Nat.reduceSub, Nat.reduceLeDiff, Int.reduceToNat, Int.reducePow, Int.reduceLT, Int.reduceEq, Int.reduceNeg, Nat.reducePow, List.reduceReplicate, Int.reduceLE, h]))
      | (with_reducible intro h; try simp only [h, go_sem, Nat.reduceBEq, Nat.reduceLT, Nat.reduceEqDiff, reduceIte, Nat.reduceAdd, Nat.reduceMul, Nat.reduceSub, Nat.reduceLeDiff, Int.reduceToNat, Int.reducePow, Int.reduceLT, Int.reduceEq, Int.reduceNeg, Nat.reducePow, List.reduceReplicate, Int.reduceLE]))
    all_goals first
      | (exfalso; omega)
      | (rw [len8_get n h256]
         simp (disch := omega) only [go_sem, Nat.reduceBEq, Nat.reduceLT, Nat.reduceEqDiff, reduceIte, Nat.reduceAdd, Nat.reduceMul, Nat.reduceSub, Nat.reduceLeDiff, Int.reduceToNat, Int.reducePow, Int.reduceLT, Int.reduceEq, Int.reduceNeg, Nat.reducePow, List.reduceReplicate, Int.reduceLE, u8_small n h256]
         repeat' (first
           | (refine AWP.seq ?_)
           | (refine AWP.block ?_)
           | (refine AWP.region_k fun Q' hQ' => ?_)
           | (refine AWP.draw_k rfl (by kernel_rfl) fun Q' hQ' => ?_)
           | (with_reducible refine aops.step fun T hT => ?_; simp (disch := omega) only [go_sem, Nat.reduceBEq, Nat.reduceLT, Nat.reduceEqDiff, reduceIte, Nat.reduceAdd, Nat.reduceMul, Nat.reduceSub, Nat.reduceLeDiff, Int.reduceToNat, Int.reducePow, Int.reduceLT, Int.reduceEq, Int.reduceNeg, Nat.reducePow, List.reduceReplicate, Int.reduceLE])
           | (with_reducible refine qops.step fun T hT => ?_; simp (disch := omega) only [go_sem, Nat.reduceBEq, Nat.reduceLT, Nat.reduceEqDiff, reduceIte, Nat.reduceAdd, Nat.reduceMul, Nat.reduceSub, Nat.reduceLeDiff, Int.reduceToNat, Int.reducePow, Int.reduceLT, Int.reduceEq, Int.reduceNeg, Nat.reducePow, List.reduceReplicate, Int.reduceLE])
           | (with_reducible refine aops.nil ?_)
           | (with_reducible refine qops.nil ?_)
           | (with_reducible refine hT _ ?_; clear hT T)
           | (refine AWP.skip ?_; try simp only [AExit.then, AExit.inBlock, reduceIte, Nat.reduceEqDiff])
           | (refine AWP.exit ?_; try simp only [AExit.then, AExit.inBlock, reduceIte, Nat.reduceEqDiff])
           | (refine AWP.ret ?_; try simp only [AExit.then, AExit.inBlock, reduceIte, Nat.reduceEqDiff])
           | (refine AWP.cond rfl (fun h => ?_) (fun h => ?_) <;> (try simp only [decide_eq_true_eq, decide_eq_false_iff_not, Bool.true_eq_false, Bool.false_eq_true] at h) <;> (try contradiction))
           | (refine hQ' _ _ ?_; clear hQ' Q'; try simp only [AExit.then, AExit.inBlock, reduceIte, Nat.reduceEqDiff])
           | (refine hQ' _ ?_; clear hQ' Q'; try simp only [AExit.then, AExit.inBlock, reduceIte, Nat.reduceEqDiff])
           | (with_reducible refine Branch.split (fun h => ?_) (fun h => ?_) <;> (try simp only [decide_eq_true_eq, decide_eq_false_iff_not, Bool.not_true, Bool.not_false, Bool.true_eq_false, Bool.false_eq_true] at h) <;> (try contradiction) <;> (simp (disch := omega) only [go_sem, Nat.reduceBEq, Nat.reduceLT, Nat.reduceEqDiff, reduceIte, Nat.reduceAdd, Nat.reduceMul, Nat.reduceSub, Nat.reduceLeDiff, Int.reduceToNat, Int.reducePow, Int.reduceLT, Int.reduceEq, Int.reduceNeg, Nat.reducePow, List.reduceReplicate, Int.reduceLE, h]))
           | (with_reducible intro h; try simp only [h, go_sem, Nat.reduceBEq, Nat.reduceLT, Nat.reduceEqDiff, reduceIte, Nat.reduceAdd, Nat.reduceMul, Nat.reduceSub, Nat.reduceLeDiff, Int.reduceToNat, Int.reducePow, Int.reduceLT, Int.reduceEq, Int.reduceNeg, Nat.reducePow, List.reduceReplicate, Int.reduceLE]))
         simp only [bodyQ, go_sem, Nat.reduceBEq, Nat.reduceLT, Nat.reduceEqDiff, reduceIte, Nat.reduceAdd, Nat.reduceMul, Nat.reduceSub, Nat.reduceLeDiff, Int.reduceToNat, Int.reducePow, Int.reduceLT, Int.reduceEq, Int.reduceNeg, Nat.reducePow, List.reduceReplicate, Int.reduceLE]
         exact Fin.same ⟨rfl, rfl⟩)
  intro base
  refine acall_body Tryd.func101 rfl (fun a w => Tryd.call101 a w) Tryd.ntmps101 Tryd.results101 (by simp) ?_
  intro w β hI
  simp only [number]
  repeat' (first
    | (refine AWP.seq ?_)
    | (refine AWP.block ?_)
    | (refine AWP.region_k fun Q' hQ' => ?_)
    | (refine AWP.draw_k rfl (by kernel_rfl) fun Q' hQ' => ?_)
    | (with_reducible refine aops.step fun T hT => ?_; simp (disch := omega) only [go_sem, Nat.reduceBEq, Nat.reduceLT, Nat.reduceEqDiff, reduceIte, Nat.reduceAdd, Nat.reduceMul, Nat.reduceSub, Nat.reduceLeDiff, Int.reduceToNat, Int.reducePow, Int.reduceLT, Int.reduceEq, Int.reduceNeg, Nat.reducePow, List.reduceReplicate, Int.reduceLE])
    | (with_reducible refine qops.step fun T hT => ?_; simp (disch := omega) only [go_sem, Nat.reduceBEq, Nat.reduceLT, Nat.reduceEqDiff, reduceIte, Nat.reduceAdd, Nat.reduceMul, Nat.reduceSub, Nat.reduceLeDiff, Int.reduceToNat, Int.reducePow, Int.reduceLT, Int.reduceEq, Int.reduceNeg, Nat.reducePow, List.reduceReplicate, Int.reduceLE])
    | (with_reducible refine aops.nil ?_)
    | (with_reducible refine qops.nil ?_)
    | (with_reducible refine hT _ ?_; clear hT T)
    | (refine AWP.skip ?_; try simp only [AExit.then, AExit.inBlock, reduceIte, Nat.reduceEqDiff])
    | (refine AWP.exit ?_; try simp only [AExit.then, AExit.inBlock, reduceIte, Nat.reduceEqDiff])
    | (refine AWP.ret ?_; try simp only [AExit.then, AExit.inBlock, reduceIte, Nat.reduceEqDiff])
    | (refine AWP.cond rfl (fun h => ?_) (fun h => ?_) <;> (try simp only [decide_eq_true_eq, decide_eq_false_iff_not, Bool.true_eq_false, Bool.false_eq_true] at h) <;> (try contradiction))
    | (refine hQ' _ _ ?_; clear hQ' Q'; try simp only [AExit.then, AExit.inBlock, reduceIte, Nat.reduceEqDiff])
    | (refine hQ' _ ?_; clear hQ' Q'; try simp only [AExit.then, AExit.inBlock, reduceIte, Nat.reduceEqDiff])
    | (with_reducible refine Branch.split (fun h => ?_) (fun h => ?_) <;> (try simp only [decide_eq_true_eq, decide_eq_false_iff_not, Bool.not_true, Bool.not_false, Bool.true_eq_false, Bool.false_eq_true] at h) <;> (try contradiction) <;> (simp (disch := omega) only [go_sem, Nat.reduceBEq, Nat.reduceLT, Nat.reduceEqDiff, reduceIte, Nat.reduceAdd, Nat.reduceMul, Nat.reduceSub, Nat.reduceLeDiff, Int.reduceToNat, Int.reducePow, Int.reduceLT, Int.reduceEq, Int.reduceNeg, Nat.reducePow, List.reduceReplicate, Int.reduceLE, h]))
    | (with_reducible intro h; try simp only [h, go_sem, Nat.reduceBEq, Nat.reduceLT, Nat.reduceEqDiff, reduceIte, Nat.reduceAdd, Nat.reduceMul, Nat.reduceSub, Nat.reduceLeDiff, Int.reduceToNat, Int.reducePow, Int.reduceLT, Int.reduceEq, Int.reduceNeg, Nat.reducePow, List.reduceReplicate, Int.reduceLE]))
  all_goals first
    | (exfalso; omega)
    | (generalize hm : Int.toNat (_ : Int) = m
       have hm256 : m < 256 := by omega
       have hb := blen_small m hm256
       rw [len8_get m hm256]
       simp (disch := omega) only [go_sem, Nat.reduceBEq, Nat.reduceLT, Nat.reduceEqDiff, reduceIte, Nat.reduceAdd, Nat.reduceMul, Nat.reduceSub, Nat.reduceLeDiff, Int.reduceToNat, Int.reducePow, Int.reduceLT, Int.reduceEq, Int.reduceNeg, Nat.reducePow, List.reduceReplicate, Int.reduceLE, u8_small m hm256]
       repeat' (first
         | (refine AWP.seq ?_)
         | (refine AWP.block ?_)
         | (refine AWP.region_k fun Q' hQ' => ?_)
         | (refine AWP.draw_k rfl (by kernel_rfl) fun Q' hQ' => ?_)
         | (with_reducible refine aops.step fun T hT => ?_; simp (disch := omega) only [go_sem, Nat.reduceBEq, Nat.reduceLT, Nat.reduceEqDiff, reduceIte, Nat.reduceAdd, Nat.reduceMul, Nat.reduceSub, Nat.reduceLeDiff, Int.reduceToNat, Int.reducePow, Int.reduceLT, Int.reduceEq, Int.reduceNeg, Nat.reducePow, List.reduceReplicate, Int.reduceLE])
         | (with_reducible refine qops.step fun T hT => ?_; simp (disch := omega) only [go_sem, Nat.reduceBEq, Nat.reduceLT, Nat.reduceEqDiff, reduceIte, Nat.reduceAdd, Nat.reduceMul, Nat.reduceSub, Nat.reduceLeDiff, Int.reduceToNat, Int.reducePow, Int.reduceLT, Int.reduceEq, Int.reduceNeg, Nat.reducePow, List.reduceReplicate, Int.reduceLE])
         | (with_reducible refine aops.nil ?_)
         | (with_reducible refine qops.nil ?_)
         | (with_reducible refine hT _ ?_; clear hT T)
         | (refine AWP.skip ?_; try simp only [AExit.then, AExit.inBlock, reduceIte, Nat.reduceEqDiff])
         | (refine AWP.exit ?_; try simp only [AExit.then, AExit.inBlock, reduceIte, Nat.reduceEqDiff])
         | (refine AWP.ret ?_; try simp only [AExit.then, AExit.inBlock, reduceIte, Nat.reduceEqDiff])
         | (refine AWP.cond rfl (fun h => ?_) (fun h => ?_) <;> (try simp only [decide_eq_true_eq, decide_eq_false_iff_not, Bool.true_eq_false, Bool.false_eq_true] at h) <;> (try contradiction))
         | (refine hQ' _ _ ?_; clear hQ' Q'; try simp only [AExit.then, AExit.inBlock, reduceIte, Nat.reduceEqDiff])
         | (refine hQ' _ ?_; clear hQ' Q'; try simp only [AExit.then, AExit.inBlock, reduceIte, Nat.reduceEqDiff])
         | (with_reducible refine Branch.split (fun h => ?_) (fun h => ?_) <;> (try simp only [decide_eq_true_eq, decide_eq_false_iff_not, Bool.not_true, Bool.not_false, Bool.true_eq_false, Bool.false_eq_true] at h) <;> (try contradiction) <;> (simp (disch := omega) only [go_sem, Nat.reduceBEq, Nat.reduceLT, Nat.reduceEqDiff, reduceIte, Nat.reduceAdd, Nat.reduceMul, Nat.reduceSub, Nat.reduceLeDiff, Int.reduceToNat, Int.reducePow, Int.reduceLT, Int.reduceEq, Int.reduceNeg, Nat.reducePow, List.reduceReplicate, Int.reduceLE, h]))
         | (with_reducible intro h; try simp only [h, go_sem, Nat.reduceBEq, Nat.reduceLT, Nat.reduceEqDiff, reduceIte, Nat.reduceAdd, Nat.reduceMul, Nat.reduceSub, Nat.reduceLeDiff, Int.reduceToNat, Int.reducePow, Int.reduceLT, Int.reduceEq, Int.reduceNeg, Nat.reducePow, List.reduceReplicate, Int.reduceLE]))
       simp only [bodyQ, go_sem, Nat.reduceBEq, Nat.reduceLT, Nat.reduceEqDiff, reduceIte, Nat.reduceAdd, Nat.reduceMul, Nat.reduceSub, Nat.reduceLeDiff, Int.reduceToNat, Int.reducePow, Int.reduceLT, Int.reduceEq, Int.reduceNeg, Nat.reducePow, List.reduceReplicate, Int.reduceLE]
       refine Fin.same ⟨congrArg (fun x => Out.ret (vi x)) ?_, rfl⟩
       first
         | exact (by omega : _ = _ + _).trans (len_key n 56 72057594037927936 m (by decide) (by omega) (by omega))
         | exact (by omega : _ = _ + _).trans (len_key n 48 281474976710656 m (by decide) (by omega) (by omega))
         | exact (by omega : _ = _ + _).trans (len_key n 40 1099511627776 m (by decide) (by omega) (by omega))
         | exact (by omega : _ = _ + _).trans (len_key n 32 4294967296 m (by decide) (by omega) (by omega))
         | exact (by omega : _ = _ + _).trans (len_key n 24 16777216 m (by decide) (by omega) (by omega))
         | exact (by omega : _ = _ + _).trans (len_key n 16 65536 m (by decide) (by omega) (by omega))
         | exact (by omega : _ = _ + _).trans (len_key n 8 256 m (by decide) (by omega) (by omega)))

theorem len_spec (n : Nat) (hn : n < 18446744073709551616) (H : List Box) : ASpec Tryd.prog 89 [.v (.int .u64 n)] H (Gives (vi (blen n)) H) := by
  intro base
  refine acall_body Tryd.func89 rfl (fun a w => Tryd.call89 a w) Tryd.ntmps89 Tryd.results89 (by simp) ?_
  intro w β hI
  simp only [number]
  repeat' (first
    | (refine AWP.seq ?_)
    | (refine AWP.block ?_)
    | (refine AWP.region_k fun Q' hQ' => ?_)
    | (refine AWP.draw_k rfl (by kernel_rfl) fun Q' hQ' => ?_)
    | (with_reducible refine aops.step fun T hT => ?_; simp (disch := omega) only [go_sem, Nat.reduceBEq, Nat.reduceLT, Nat.reduceEqDiff, reduceIte, Nat.reduceAdd, Nat.reduceMul, Nat.reduceSub, Nat.reduceLeDiff, Int.reduceToNat, Int.reducePow, Int.reduceLT, Int.reduceEq, Int.reduceNeg, Nat.reducePow, List.reduceReplicate, Int.reduceLE])
    | (with_reducible refine qops.step fun T hT => ?_; simp (disch := omega) only [go_sem, Nat.reduceBEq, Nat.reduceLT, Nat.reduceEqDiff, reduceIte, Nat.reduceAdd, Nat.reduceMul, Nat.reduceSub, Nat.reduceLeDiff, Int.reduceToNat, Int.reducePow, Int.reduceLT, Int.reduceEq, Int.reduceNeg, Nat.reducePow, List.reduceReplicate, Int.reduceLE])
    | (with_reducible refine aops.nil ?_)
    | (with_reducible refine qops.nil ?_)
    | (with_reducible refine hT _ ?_; clear hT T)
    | (refine AWP.skip ?_; try simp only [AExit.then, AExit.inBlock, reduceIte, Nat.reduceEqDiff])
    | (refine AWP.exit ?_; try simp only [AExit.then, AExit.inBlock, reduceIte, Nat.reduceEqDiff])
    | (refine AWP.ret ?_; try simp only [AExit.then, AExit.inBlock, reduceIte, Nat.reduceEqDiff])
    | (refine AWP.cond rfl (fun h => ?_) (fun h => ?_) <;> (try simp only [decide_eq_true_eq, decide_eq_false_iff_not, Bool.true_eq_false, Bool.false_eq_true] at h) <;> (try contradiction))
    | (refine hQ' _ _ ?_; clear hQ' Q'; try simp only [AExit.then, AExit.inBlock, reduceIte, Nat.reduceEqDiff])
    | (refine hQ' _ ?_; clear hQ' Q'; try simp only [AExit.then, AExit.inBlock, reduceIte, Nat.reduceEqDiff])
    | (with_reducible refine Branch.split (fun h => ?_) (fun h => ?_) <;> (try simp only [decide_eq_true_eq, decide_eq_false_iff_not, Bool.not_true, Bool.not_false, Bool.true_eq_false, Bool.false_eq_true] at h) <;> (try contradiction) <;> (simp (disch := omega) only [go_sem, Nat.reduceBEq, Nat.reduceLT, Nat.reduceEqDiff, reduceIte, Nat.reduceAdd, Nat.reduceMul, Nat.reduceSub, Nat.reduceLeDiff, Int.reduceToNat, Int.reducePow, Int.reduceLT, Int.reduceEq, Int.reduceNeg, Nat.reducePow, List.reduceReplicate, Int.reduceLE, h]))
    | (with_reducible intro h; try simp only [h, go_sem, Nat.reduceBEq, Nat.reduceLT, Nat.reduceEqDiff, reduceIte, Nat.reduceAdd, Nat.reduceMul, Nat.reduceSub, Nat.reduceLeDiff, Int.reduceToNat, Int.reducePow, Int.reduceLT, Int.reduceEq, Int.reduceNeg, Nat.reducePow, List.reduceReplicate, Int.reduceLE])
    | ((first | (with_reducible refine acall.det (len64_spec n hn _) ?_) | (with_reducible refine qcall.det (len64_spec n hn _) ?_)); try simp (disch := omega) only [go_sem, Nat.reduceBEq, Nat.reduceLT, Nat.reduceEqDiff, reduceIte, Nat.reduceAdd, Nat.reduceMul, Nat.reduceSub, Nat.reduceLeDiff, Int.reduceToNat, Int.reducePow, Int.reduceLT, Int.reduceEq, Int.reduceNeg, Nat.reducePow, List.reduceReplicate, Int.reduceLE]))
  all_goals
    simp only [bodyQ, go_sem, Nat.reduceBEq, Nat.reduceLT, Nat.reduceEqDiff, reduceIte, Nat.reduceAdd, Nat.reduceMul, Nat.reduceSub, Nat.reduceLeDiff, Int.reduceToNat, Int.reducePow, Int.reduceLT, Int.reduceEq, Int.reduceNeg, Nat.reducePow, List.reduceReplicate, Int.reduceLE]
    exact Fin.same ⟨rfl, rfl⟩

end Go.Proofs.YtjkdahpoalnjjaaDoor.VL

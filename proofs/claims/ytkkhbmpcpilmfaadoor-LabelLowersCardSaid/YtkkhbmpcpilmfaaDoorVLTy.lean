/- The facts on the program's types that walks rewrite by (printed by gen_ty.py). -/
import Derived.Test.YtkkhbmpcpilmfaaDoorVLTac
import Derived.Test.YtkkhbmpcpilmfaaDoorProg
import Derived.KernelRfl
set_option linter.unusedVariables false
namespace Go.Proofs.YtkkhbmpcpilmfaaDoor.VL
open Go Go.RowKit Go.Lib
attribute [go_sem] Tryd.underlying1
@[go_sem] theorem ce1 : Tryd.prog.cellsOf 1 = 1 := by kernel_rfl
@[go_sem] theorem by1 : Tryd.prog.bytesOf 1 = 8 := by kernel_rfl
@[go_sem] theorem ag1 : isAg Tryd.prog 1 = false := by kernel_rfl
@[go_sem] theorem ze1 : zeroCs Tryd.prog 1 = some [.v .nilFunc] := by kernel_rfl
@[go_sem] theorem se1 : selfTy Tryd.prog 1 = false := by kernel_rfl
attribute [go_sem] Tryd.underlying2
@[go_sem] theorem ce2 : Tryd.prog.cellsOf 2 = 1 := by kernel_rfl
@[go_sem] theorem by2 : Tryd.prog.bytesOf 2 = 8 := by kernel_rfl
@[go_sem] theorem ag2 : isAg Tryd.prog 2 = false := by kernel_rfl
@[go_sem] theorem ze2 : zeroCs Tryd.prog 2 = some [.v (.int .i64 0)] := by kernel_rfl
@[go_sem] theorem se2 : selfTy Tryd.prog 2 = false := by kernel_rfl
attribute [go_sem] Tryd.underlying3
@[go_sem] theorem ce3 : Tryd.prog.cellsOf 3 = 1 := by kernel_rfl
@[go_sem] theorem by3 : Tryd.prog.bytesOf 3 = 8 := by kernel_rfl
@[go_sem] theorem ag3 : isAg Tryd.prog 3 = false := by kernel_rfl
@[go_sem] theorem ze3 : zeroCs Tryd.prog 3 = some [.v (.int .i64 0)] := by kernel_rfl
@[go_sem] theorem se3 : selfTy Tryd.prog 3 = false := by kernel_rfl
attribute [go_sem] Tryd.underlying4
@[go_sem] theorem ce4 : Tryd.prog.cellsOf 4 = 1 := by kernel_rfl
@[go_sem] theorem by4 : Tryd.prog.bytesOf 4 = 1 := by kernel_rfl
@[go_sem] theorem ag4 : isAg Tryd.prog 4 = false := by kernel_rfl
@[go_sem] theorem ze4 : zeroCs Tryd.prog 4 = some [.v (.bool false)] := by kernel_rfl
@[go_sem] theorem se4 : selfTy Tryd.prog 4 = false := by kernel_rfl
attribute [go_sem] Tryd.underlying5
@[go_sem] theorem ce5 : Tryd.prog.cellsOf 5 = 1 := by kernel_rfl
@[go_sem] theorem by5 : Tryd.prog.bytesOf 5 = 1 := by kernel_rfl
@[go_sem] theorem ag5 : isAg Tryd.prog 5 = false := by kernel_rfl
@[go_sem] theorem ze5 : zeroCs Tryd.prog 5 = some [.v (.int .u8 0)] := by kernel_rfl
@[go_sem] theorem se5 : selfTy Tryd.prog 5 = false := by kernel_rfl
attribute [go_sem] Tryd.underlying9
@[go_sem] theorem ce9 : Tryd.prog.cellsOf 9 = 1 := by kernel_rfl
@[go_sem] theorem by9 : Tryd.prog.bytesOf 9 = 16 := by kernel_rfl
@[go_sem] theorem ag9 : isAg Tryd.prog 9 = false := by kernel_rfl
@[go_sem] theorem ze9 : zeroCs Tryd.prog 9 = some [.v (.string { data := #[] })] := by kernel_rfl
@[go_sem] theorem se9 : selfTy Tryd.prog 9 = false := by kernel_rfl
attribute [go_sem] Tryd.underlying12
@[go_sem] theorem ce12 : Tryd.prog.cellsOf 12 = 1 := by kernel_rfl
@[go_sem] theorem by12 : Tryd.prog.bytesOf 12 = 8 := by kernel_rfl
@[go_sem] theorem ag12 : isAg Tryd.prog 12 = false := by kernel_rfl
@[go_sem] theorem ze12 : zeroCs Tryd.prog 12 = some [.v (.int .u64 0)] := by kernel_rfl
@[go_sem] theorem se12 : selfTy Tryd.prog 12 = false := by kernel_rfl
attribute [go_sem] Tryd.underlying13
@[go_sem] theorem ce13 : Tryd.prog.cellsOf 13 = 2 := by kernel_rfl
@[go_sem] theorem by13 : Tryd.prog.bytesOf 13 = 24 := by kernel_rfl
@[go_sem] theorem ag13 : isAg Tryd.prog 13 = true := by kernel_rfl
@[go_sem] theorem ze13 : zeroCs Tryd.prog 13 = some [.v (.string { data := #[] }), .v (.int .u64 0)] := by kernel_rfl
@[go_sem] theorem se13 : selfTy Tryd.prog 13 = false := by kernel_rfl
@[go_sem] theorem fi13_0 : fieldOf Tryd.prog 13 0 = some { name := "msg", type := 9, offset := 0, embedded := false, tag := "", pkgPath := "runtime", byteOffset := 0 } := by kernel_rfl
@[go_sem] theorem fi13_1 : fieldOf Tryd.prog 13 1 = some { name := "addr", type := 12, offset := 1, embedded := false, tag := "", pkgPath := "runtime", byteOffset := 16 } := by kernel_rfl
attribute [go_sem] Tryd.underlying21
@[go_sem] theorem ce21 : Tryd.prog.cellsOf 21 = 1 := by kernel_rfl
@[go_sem] theorem by21 : Tryd.prog.bytesOf 21 = 4 := by kernel_rfl
@[go_sem] theorem ag21 : isAg Tryd.prog 21 = false := by kernel_rfl
@[go_sem] theorem ze21 : zeroCs Tryd.prog 21 = some [.v (.int .i32 0)] := by kernel_rfl
@[go_sem] theorem se21 : selfTy Tryd.prog 21 = false := by kernel_rfl
attribute [go_sem] Tryd.underlying22
@[go_sem] theorem ce22 : Tryd.prog.cellsOf 22 = 1 := by kernel_rfl
@[go_sem] theorem by22 : Tryd.prog.bytesOf 22 = 8 := by kernel_rfl
@[go_sem] theorem ag22 : isAg Tryd.prog 22 = false := by kernel_rfl
@[go_sem] theorem ze22 : zeroCs Tryd.prog 22 = some [.v .nilFunc] := by kernel_rfl
@[go_sem] theorem se22 : selfTy Tryd.prog 22 = false := by kernel_rfl
attribute [go_sem] Tryd.underlying23
@[go_sem] theorem ce23 : Tryd.prog.cellsOf 23 = 1 := by kernel_rfl
@[go_sem] theorem by23 : Tryd.prog.bytesOf 23 = 8 := by kernel_rfl
@[go_sem] theorem ag23 : isAg Tryd.prog 23 = false := by kernel_rfl
@[go_sem] theorem ze23 : zeroCs Tryd.prog 23 = some [.v (.int .i64 0)] := by kernel_rfl
@[go_sem] theorem se23 : selfTy Tryd.prog 23 = false := by kernel_rfl
attribute [go_sem] Tryd.underlying25
@[go_sem] theorem ce25 : Tryd.prog.cellsOf 25 = 1 := by kernel_rfl
@[go_sem] theorem by25 : Tryd.prog.bytesOf 25 = 8 := by kernel_rfl
@[go_sem] theorem ag25 : isAg Tryd.prog 25 = false := by kernel_rfl
@[go_sem] theorem ze25 : zeroCs Tryd.prog 25 = some [.v .nilFunc] := by kernel_rfl
@[go_sem] theorem se25 : selfTy Tryd.prog 25 = false := by kernel_rfl
attribute [go_sem] Tryd.underlying26
@[go_sem] theorem ce26 : Tryd.prog.cellsOf 26 = 1 := by kernel_rfl
@[go_sem] theorem by26 : Tryd.prog.bytesOf 26 = 8 := by kernel_rfl
@[go_sem] theorem ag26 : isAg Tryd.prog 26 = false := by kernel_rfl
@[go_sem] theorem ze26 : zeroCs Tryd.prog 26 = some [.v .nilFunc] := by kernel_rfl
@[go_sem] theorem se26 : selfTy Tryd.prog 26 = false := by kernel_rfl
attribute [go_sem] Tryd.underlying27
@[go_sem] theorem ce27 : Tryd.prog.cellsOf 27 = 1 := by kernel_rfl
@[go_sem] theorem by27 : Tryd.prog.bytesOf 27 = 8 := by kernel_rfl
@[go_sem] theorem ag27 : isAg Tryd.prog 27 = false := by kernel_rfl
@[go_sem] theorem ze27 : zeroCs Tryd.prog 27 = some [.v .nilFunc] := by kernel_rfl
@[go_sem] theorem se27 : selfTy Tryd.prog 27 = false := by kernel_rfl
attribute [go_sem] Tryd.underlying28
@[go_sem] theorem ce28 : Tryd.prog.cellsOf 28 = 1 := by kernel_rfl
@[go_sem] theorem by28 : Tryd.prog.bytesOf 28 = 24 := by kernel_rfl
@[go_sem] theorem ag28 : isAg Tryd.prog 28 = false := by kernel_rfl
@[go_sem] theorem el28 : elemTy Tryd.prog 28 = some 9 := by kernel_rfl
@[go_sem] theorem ze28 : zeroCs Tryd.prog 28 = some [.emp] := by kernel_rfl
@[go_sem] theorem se28 : selfTy Tryd.prog 28 = false := by kernel_rfl
attribute [go_sem] Tryd.underlying29
@[go_sem] theorem ce29 : Tryd.prog.cellsOf 29 = 1 := by kernel_rfl
@[go_sem] theorem by29 : Tryd.prog.bytesOf 29 = 8 := by kernel_rfl
@[go_sem] theorem ag29 : isAg Tryd.prog 29 = false := by kernel_rfl
@[go_sem] theorem ze29 : zeroCs Tryd.prog 29 = some [.v .nilFunc] := by kernel_rfl
@[go_sem] theorem se29 : selfTy Tryd.prog 29 = false := by kernel_rfl
attribute [go_sem] Tryd.underlying30
@[go_sem] theorem ce30 : Tryd.prog.cellsOf 30 = 1 := by kernel_rfl
@[go_sem] theorem by30 : Tryd.prog.bytesOf 30 = 8 := by kernel_rfl
@[go_sem] theorem ag30 : isAg Tryd.prog 30 = false := by kernel_rfl
@[go_sem] theorem ze30 : zeroCs Tryd.prog 30 = some [.v .nilFunc] := by kernel_rfl
@[go_sem] theorem se30 : selfTy Tryd.prog 30 = false := by kernel_rfl
attribute [go_sem] Tryd.underlying31
@[go_sem] theorem ce31 : Tryd.prog.cellsOf 31 = 1 := by kernel_rfl
@[go_sem] theorem by31 : Tryd.prog.bytesOf 31 = 8 := by kernel_rfl
@[go_sem] theorem ag31 : isAg Tryd.prog 31 = false := by kernel_rfl
@[go_sem] theorem ze31 : zeroCs Tryd.prog 31 = some [.v .nilFunc] := by kernel_rfl
@[go_sem] theorem se31 : selfTy Tryd.prog 31 = false := by kernel_rfl
attribute [go_sem] Tryd.underlying32
@[go_sem] theorem ce32 : Tryd.prog.cellsOf 32 = 1 := by kernel_rfl
@[go_sem] theorem by32 : Tryd.prog.bytesOf 32 = 8 := by kernel_rfl
@[go_sem] theorem ag32 : isAg Tryd.prog 32 = false := by kernel_rfl
@[go_sem] theorem ze32 : zeroCs Tryd.prog 32 = some [.v .nilFunc] := by kernel_rfl
@[go_sem] theorem se32 : selfTy Tryd.prog 32 = false := by kernel_rfl
attribute [go_sem] Tryd.underlying33
@[go_sem] theorem ce33 : Tryd.prog.cellsOf 33 = 1 := by kernel_rfl
@[go_sem] theorem by33 : Tryd.prog.bytesOf 33 = 8 := by kernel_rfl
@[go_sem] theorem ag33 : isAg Tryd.prog 33 = false := by kernel_rfl
@[go_sem] theorem ze33 : zeroCs Tryd.prog 33 = some [.v .nilFunc] := by kernel_rfl
@[go_sem] theorem se33 : selfTy Tryd.prog 33 = false := by kernel_rfl
attribute [go_sem] Tryd.underlying34
@[go_sem] theorem ce34 : Tryd.prog.cellsOf 34 = 1 := by kernel_rfl
@[go_sem] theorem by34 : Tryd.prog.bytesOf 34 = 8 := by kernel_rfl
@[go_sem] theorem ag34 : isAg Tryd.prog 34 = false := by kernel_rfl
@[go_sem] theorem ze34 : zeroCs Tryd.prog 34 = some [.v .nilFunc] := by kernel_rfl
@[go_sem] theorem se34 : selfTy Tryd.prog 34 = false := by kernel_rfl
attribute [go_sem] Tryd.underlying35
@[go_sem] theorem ce35 : Tryd.prog.cellsOf 35 = 1 := by kernel_rfl
@[go_sem] theorem by35 : Tryd.prog.bytesOf 35 = 8 := by kernel_rfl
@[go_sem] theorem ag35 : isAg Tryd.prog 35 = false := by kernel_rfl
@[go_sem] theorem ze35 : zeroCs Tryd.prog 35 = some [.v .nilFunc] := by kernel_rfl
@[go_sem] theorem se35 : selfTy Tryd.prog 35 = false := by kernel_rfl
attribute [go_sem] Tryd.underlying36
@[go_sem] theorem ce36 : Tryd.prog.cellsOf 36 = 1 := by kernel_rfl
@[go_sem] theorem by36 : Tryd.prog.bytesOf 36 = 8 := by kernel_rfl
@[go_sem] theorem ag36 : isAg Tryd.prog 36 = false := by kernel_rfl
@[go_sem] theorem ze36 : zeroCs Tryd.prog 36 = some [.v .nilFunc] := by kernel_rfl
@[go_sem] theorem se36 : selfTy Tryd.prog 36 = false := by kernel_rfl
attribute [go_sem] Tryd.underlying38
@[go_sem] theorem ce38 : Tryd.prog.cellsOf 38 = 1 := by kernel_rfl
@[go_sem] theorem by38 : Tryd.prog.bytesOf 38 = 8 := by kernel_rfl
@[go_sem] theorem ag38 : isAg Tryd.prog 38 = false := by kernel_rfl
@[go_sem] theorem ze38 : zeroCs Tryd.prog 38 = some [.v .nilFunc] := by kernel_rfl
@[go_sem] theorem se38 : selfTy Tryd.prog 38 = false := by kernel_rfl
attribute [go_sem] Tryd.underlying39
@[go_sem] theorem ce39 : Tryd.prog.cellsOf 39 = 1 := by kernel_rfl
@[go_sem] theorem by39 : Tryd.prog.bytesOf 39 = 8 := by kernel_rfl
@[go_sem] theorem ag39 : isAg Tryd.prog 39 = false := by kernel_rfl
@[go_sem] theorem ze39 : zeroCs Tryd.prog 39 = some [.v .nilFunc] := by kernel_rfl
@[go_sem] theorem se39 : selfTy Tryd.prog 39 = false := by kernel_rfl
attribute [go_sem] Tryd.underlying40
@[go_sem] theorem ce40 : Tryd.prog.cellsOf 40 = 1 := by kernel_rfl
@[go_sem] theorem by40 : Tryd.prog.bytesOf 40 = 8 := by kernel_rfl
@[go_sem] theorem ag40 : isAg Tryd.prog 40 = false := by kernel_rfl
@[go_sem] theorem ze40 : zeroCs Tryd.prog 40 = some [.v .nilFunc] := by kernel_rfl
@[go_sem] theorem se40 : selfTy Tryd.prog 40 = false := by kernel_rfl
attribute [go_sem] Tryd.underlying41
@[go_sem] theorem ce41 : Tryd.prog.cellsOf 41 = 1 := by kernel_rfl
@[go_sem] theorem by41 : Tryd.prog.bytesOf 41 = 24 := by kernel_rfl
@[go_sem] theorem ag41 : isAg Tryd.prog 41 = false := by kernel_rfl
@[go_sem] theorem el41 : elemTy Tryd.prog 41 = some 5 := by kernel_rfl
@[go_sem] theorem ze41 : zeroCs Tryd.prog 41 = some [.emp] := by kernel_rfl
@[go_sem] theorem se41 : selfTy Tryd.prog 41 = false := by kernel_rfl
attribute [go_sem] Tryd.underlying42
@[go_sem] theorem ce42 : Tryd.prog.cellsOf 42 = 1 := by kernel_rfl
@[go_sem] theorem by42 : Tryd.prog.bytesOf 42 = 8 := by kernel_rfl
@[go_sem] theorem ag42 : isAg Tryd.prog 42 = false := by kernel_rfl
@[go_sem] theorem ze42 : zeroCs Tryd.prog 42 = some [.v .nilFunc] := by kernel_rfl
@[go_sem] theorem se42 : selfTy Tryd.prog 42 = false := by kernel_rfl
attribute [go_sem] Tryd.underlying43
@[go_sem] theorem ce43 : Tryd.prog.cellsOf 43 = 1 := by kernel_rfl
@[go_sem] theorem by43 : Tryd.prog.bytesOf 43 = 8 := by kernel_rfl
@[go_sem] theorem ag43 : isAg Tryd.prog 43 = false := by kernel_rfl
@[go_sem] theorem ze43 : zeroCs Tryd.prog 43 = some [.v (.pointer none)] := by kernel_rfl
@[go_sem] theorem se43 : selfTy Tryd.prog 43 = false := by kernel_rfl
attribute [go_sem] Tryd.underlying44
@[go_sem] theorem ce44 : Tryd.prog.cellsOf 44 = 2 := by kernel_rfl
@[go_sem] theorem by44 : Tryd.prog.bytesOf 44 = 32 := by kernel_rfl
@[go_sem] theorem ag44 : isAg Tryd.prog 44 = true := by kernel_rfl
@[go_sem] theorem ze44 : zeroCs Tryd.prog 44 = some [.v (.pointer none), .emp] := by kernel_rfl
@[go_sem] theorem se44 : selfTy Tryd.prog 44 = false := by kernel_rfl
@[go_sem] theorem fi44_0 : fieldOf Tryd.prog 44 0 = some { name := "addr", type := 43, offset := 0, embedded := false, tag := "", pkgPath := "strings", byteOffset := 0 } := by kernel_rfl
@[go_sem] theorem fi44_1 : fieldOf Tryd.prog 44 1 = some { name := "buf", type := 41, offset := 1, embedded := false, tag := "", pkgPath := "strings", byteOffset := 8 } := by kernel_rfl
attribute [go_sem] Tryd.underlying45
@[go_sem] theorem ce45 : Tryd.prog.cellsOf 45 = 2 := by kernel_rfl
@[go_sem] theorem by45 : Tryd.prog.bytesOf 45 = 32 := by kernel_rfl
@[go_sem] theorem ag45 : isAg Tryd.prog 45 = true := by kernel_rfl
@[go_sem] theorem ze45 : zeroCs Tryd.prog 45 = some [.v (.pointer none), .emp] := by kernel_rfl
@[go_sem] theorem se45 : selfTy Tryd.prog 45 = true := by kernel_rfl
@[go_sem] theorem fi45_0 : fieldOf Tryd.prog 45 0 = some { name := "addr", type := 43, offset := 0, embedded := false, tag := "", pkgPath := "strings", byteOffset := 0 } := by kernel_rfl
@[go_sem] theorem fi45_1 : fieldOf Tryd.prog 45 1 = some { name := "buf", type := 41, offset := 1, embedded := false, tag := "", pkgPath := "strings", byteOffset := 8 } := by kernel_rfl
attribute [go_sem] Tryd.underlying48
@[go_sem] theorem ce48 : Tryd.prog.cellsOf 48 = 1 := by kernel_rfl
@[go_sem] theorem by48 : Tryd.prog.bytesOf 48 = 8 := by kernel_rfl
@[go_sem] theorem ag48 : isAg Tryd.prog 48 = false := by kernel_rfl
@[go_sem] theorem ze48 : zeroCs Tryd.prog 48 = some [.v .nilFunc] := by kernel_rfl
@[go_sem] theorem se48 : selfTy Tryd.prog 48 = false := by kernel_rfl
attribute [go_sem] Tryd.underlying50
@[go_sem] theorem ce50 : Tryd.prog.cellsOf 50 = 1 := by kernel_rfl
@[go_sem] theorem by50 : Tryd.prog.bytesOf 50 = 8 := by kernel_rfl
@[go_sem] theorem ag50 : isAg Tryd.prog 50 = false := by kernel_rfl
@[go_sem] theorem ze50 : zeroCs Tryd.prog 50 = some [.v .nilFunc] := by kernel_rfl
@[go_sem] theorem se50 : selfTy Tryd.prog 50 = false := by kernel_rfl
attribute [go_sem] Tryd.underlying51
@[go_sem] theorem ce51 : Tryd.prog.cellsOf 51 = 1 := by kernel_rfl
@[go_sem] theorem by51 : Tryd.prog.bytesOf 51 = 8 := by kernel_rfl
@[go_sem] theorem ag51 : isAg Tryd.prog 51 = false := by kernel_rfl
@[go_sem] theorem ze51 : zeroCs Tryd.prog 51 = some [.v .nilFunc] := by kernel_rfl
@[go_sem] theorem se51 : selfTy Tryd.prog 51 = false := by kernel_rfl
attribute [go_sem] Tryd.underlying52
@[go_sem] theorem ce52 : Tryd.prog.cellsOf 52 = 1 := by kernel_rfl
@[go_sem] theorem by52 : Tryd.prog.bytesOf 52 = 8 := by kernel_rfl
@[go_sem] theorem ag52 : isAg Tryd.prog 52 = false := by kernel_rfl
@[go_sem] theorem ze52 : zeroCs Tryd.prog 52 = some [.v .nilFunc] := by kernel_rfl
@[go_sem] theorem se52 : selfTy Tryd.prog 52 = false := by kernel_rfl
attribute [go_sem] Tryd.underlying53
@[go_sem] theorem ce53 : Tryd.prog.cellsOf 53 = 1 := by kernel_rfl
@[go_sem] theorem by53 : Tryd.prog.bytesOf 53 = 8 := by kernel_rfl
@[go_sem] theorem ag53 : isAg Tryd.prog 53 = false := by kernel_rfl
@[go_sem] theorem ze53 : zeroCs Tryd.prog 53 = some [.v .nilFunc] := by kernel_rfl
@[go_sem] theorem se53 : selfTy Tryd.prog 53 = false := by kernel_rfl
attribute [go_sem] Tryd.underlying54
@[go_sem] theorem ce54 : Tryd.prog.cellsOf 54 = 1 := by kernel_rfl
@[go_sem] theorem by54 : Tryd.prog.bytesOf 54 = 8 := by kernel_rfl
@[go_sem] theorem ag54 : isAg Tryd.prog 54 = false := by kernel_rfl
@[go_sem] theorem ze54 : zeroCs Tryd.prog 54 = some [.v .nilFunc] := by kernel_rfl
@[go_sem] theorem se54 : selfTy Tryd.prog 54 = false := by kernel_rfl
attribute [go_sem] Tryd.underlying55
@[go_sem] theorem ce55 : Tryd.prog.cellsOf 55 = 1 := by kernel_rfl
@[go_sem] theorem by55 : Tryd.prog.bytesOf 55 = 8 := by kernel_rfl
@[go_sem] theorem ag55 : isAg Tryd.prog 55 = false := by kernel_rfl
@[go_sem] theorem ze55 : zeroCs Tryd.prog 55 = some [.v .nilFunc] := by kernel_rfl
@[go_sem] theorem se55 : selfTy Tryd.prog 55 = false := by kernel_rfl
attribute [go_sem] Tryd.underlying56
@[go_sem] theorem ce56 : Tryd.prog.cellsOf 56 = 1 := by kernel_rfl
@[go_sem] theorem by56 : Tryd.prog.bytesOf 56 = 8 := by kernel_rfl
@[go_sem] theorem ag56 : isAg Tryd.prog 56 = false := by kernel_rfl
@[go_sem] theorem ze56 : zeroCs Tryd.prog 56 = some [.v .nilFunc] := by kernel_rfl
@[go_sem] theorem se56 : selfTy Tryd.prog 56 = false := by kernel_rfl
attribute [go_sem] Tryd.underlying57
@[go_sem] theorem ce57 : Tryd.prog.cellsOf 57 = 1 := by kernel_rfl
@[go_sem] theorem by57 : Tryd.prog.bytesOf 57 = 8 := by kernel_rfl
@[go_sem] theorem ag57 : isAg Tryd.prog 57 = false := by kernel_rfl
@[go_sem] theorem ze57 : zeroCs Tryd.prog 57 = some [.v .nilFunc] := by kernel_rfl
@[go_sem] theorem se57 : selfTy Tryd.prog 57 = false := by kernel_rfl
attribute [go_sem] Tryd.underlying58
@[go_sem] theorem ce58 : Tryd.prog.cellsOf 58 = 1 := by kernel_rfl
@[go_sem] theorem by58 : Tryd.prog.bytesOf 58 = 8 := by kernel_rfl
@[go_sem] theorem ag58 : isAg Tryd.prog 58 = false := by kernel_rfl
@[go_sem] theorem ze58 : zeroCs Tryd.prog 58 = some [.v (.pointer none)] := by kernel_rfl
@[go_sem] theorem se58 : selfTy Tryd.prog 58 = false := by kernel_rfl
attribute [go_sem] Tryd.underlying59
@[go_sem] theorem ce59 : Tryd.prog.cellsOf 59 = 1 := by kernel_rfl
@[go_sem] theorem by59 : Tryd.prog.bytesOf 59 = 8 := by kernel_rfl
@[go_sem] theorem ag59 : isAg Tryd.prog 59 = false := by kernel_rfl
@[go_sem] theorem ze59 : zeroCs Tryd.prog 59 = some [.v .nilFunc] := by kernel_rfl
@[go_sem] theorem se59 : selfTy Tryd.prog 59 = false := by kernel_rfl
attribute [go_sem] Tryd.underlying62
@[go_sem] theorem ce62 : Tryd.prog.cellsOf 62 = 1 := by kernel_rfl
@[go_sem] theorem by62 : Tryd.prog.bytesOf 62 = 8 := by kernel_rfl
@[go_sem] theorem ag62 : isAg Tryd.prog 62 = false := by kernel_rfl
@[go_sem] theorem ze62 : zeroCs Tryd.prog 62 = some [.v .nilFunc] := by kernel_rfl
@[go_sem] theorem se62 : selfTy Tryd.prog 62 = false := by kernel_rfl
attribute [go_sem] Tryd.underlying64
@[go_sem] theorem ce64 : Tryd.prog.cellsOf 64 = 1 := by kernel_rfl
@[go_sem] theorem by64 : Tryd.prog.bytesOf 64 = 8 := by kernel_rfl
@[go_sem] theorem ag64 : isAg Tryd.prog 64 = false := by kernel_rfl
@[go_sem] theorem ze64 : zeroCs Tryd.prog 64 = some [.v .nilFunc] := by kernel_rfl
@[go_sem] theorem se64 : selfTy Tryd.prog 64 = false := by kernel_rfl
attribute [go_sem] Tryd.underlying65
@[go_sem] theorem ce65 : Tryd.prog.cellsOf 65 = 1 := by kernel_rfl
@[go_sem] theorem by65 : Tryd.prog.bytesOf 65 = 8 := by kernel_rfl
@[go_sem] theorem ag65 : isAg Tryd.prog 65 = false := by kernel_rfl
@[go_sem] theorem ze65 : zeroCs Tryd.prog 65 = some [.v .nilFunc] := by kernel_rfl
@[go_sem] theorem se65 : selfTy Tryd.prog 65 = false := by kernel_rfl
attribute [go_sem] Tryd.underlying66
@[go_sem] theorem ce66 : Tryd.prog.cellsOf 66 = 1 := by kernel_rfl
@[go_sem] theorem by66 : Tryd.prog.bytesOf 66 = 8 := by kernel_rfl
@[go_sem] theorem ag66 : isAg Tryd.prog 66 = false := by kernel_rfl
@[go_sem] theorem ze66 : zeroCs Tryd.prog 66 = some [.v .nilFunc] := by kernel_rfl
@[go_sem] theorem se66 : selfTy Tryd.prog 66 = false := by kernel_rfl
attribute [go_sem] Tryd.underlying67
@[go_sem] theorem ce67 : Tryd.prog.cellsOf 67 = 1 := by kernel_rfl
@[go_sem] theorem by67 : Tryd.prog.bytesOf 67 = 8 := by kernel_rfl
@[go_sem] theorem ag67 : isAg Tryd.prog 67 = false := by kernel_rfl
@[go_sem] theorem ze67 : zeroCs Tryd.prog 67 = some [.v (.int .u64 0)] := by kernel_rfl
@[go_sem] theorem se67 : selfTy Tryd.prog 67 = false := by kernel_rfl
attribute [go_sem] Tryd.underlying68
@[go_sem] theorem ce68 : Tryd.prog.cellsOf 68 = 1 := by kernel_rfl
@[go_sem] theorem by68 : Tryd.prog.bytesOf 68 = 8 := by kernel_rfl
@[go_sem] theorem ag68 : isAg Tryd.prog 68 = false := by kernel_rfl
@[go_sem] theorem ze68 : zeroCs Tryd.prog 68 = some [.v .nilFunc] := by kernel_rfl
@[go_sem] theorem se68 : selfTy Tryd.prog 68 = false := by kernel_rfl
attribute [go_sem] Tryd.underlying69
@[go_sem] theorem ce69 : Tryd.prog.cellsOf 69 = 1 := by kernel_rfl
@[go_sem] theorem by69 : Tryd.prog.bytesOf 69 = 4 := by kernel_rfl
@[go_sem] theorem ag69 : isAg Tryd.prog 69 = false := by kernel_rfl
@[go_sem] theorem ze69 : zeroCs Tryd.prog 69 = some [.v (.int .u32 0)] := by kernel_rfl
@[go_sem] theorem se69 : selfTy Tryd.prog 69 = false := by kernel_rfl
attribute [go_sem] Tryd.underlying71
@[go_sem] theorem ce71 : Tryd.prog.cellsOf 71 = 1 := by kernel_rfl
@[go_sem] theorem by71 : Tryd.prog.bytesOf 71 = 8 := by kernel_rfl
@[go_sem] theorem ag71 : isAg Tryd.prog 71 = false := by kernel_rfl
@[go_sem] theorem ze71 : zeroCs Tryd.prog 71 = some [.v .nilFunc] := by kernel_rfl
@[go_sem] theorem se71 : selfTy Tryd.prog 71 = false := by kernel_rfl
attribute [go_sem] Tryd.underlying72
@[go_sem] theorem ce72 : Tryd.prog.cellsOf 72 = 256 := by kernel_rfl
@[go_sem] theorem by72 : Tryd.prog.bytesOf 72 = 256 := by kernel_rfl
@[go_sem] theorem ag72 : isAg Tryd.prog 72 = true := by kernel_rfl
@[go_sem] theorem ar72 : arrTy Tryd.prog 72 = some (256, 5) := by kernel_rfl
@[go_sem] theorem ok72 : eqOk Tryd.prog 72 = true := by kernel_rfl
@[go_sem] theorem ze72 : zeroCs Tryd.prog 72 = some (bytesC (zerosB 256)) := by kernel_rfl
@[go_sem] theorem se72 : selfTy Tryd.prog 72 = false := by kernel_rfl
attribute [go_sem] Tryd.underlying73
@[go_sem] theorem ce73 : Tryd.prog.cellsOf 73 = 2 := by kernel_rfl
@[go_sem] theorem by73 : Tryd.prog.bytesOf 73 = 2 := by kernel_rfl
@[go_sem] theorem ag73 : isAg Tryd.prog 73 = true := by kernel_rfl
@[go_sem] theorem ze73 : zeroCs Tryd.prog 73 = some [.v (.int .u8 0), .v (.int .u8 0)] := by kernel_rfl
@[go_sem] theorem se73 : selfTy Tryd.prog 73 = false := by kernel_rfl
@[go_sem] theorem fi73_0 : fieldOf Tryd.prog 73 0 = some { name := "lo", type := 5, offset := 0, embedded := false, tag := "", pkgPath := "unicode/utf8", byteOffset := 0 } := by kernel_rfl
@[go_sem] theorem fi73_1 : fieldOf Tryd.prog 73 1 = some { name := "hi", type := 5, offset := 1, embedded := false, tag := "", pkgPath := "unicode/utf8", byteOffset := 1 } := by kernel_rfl
attribute [go_sem] Tryd.underlying74
@[go_sem] theorem ce74 : Tryd.prog.cellsOf 74 = 2 := by kernel_rfl
@[go_sem] theorem by74 : Tryd.prog.bytesOf 74 = 2 := by kernel_rfl
@[go_sem] theorem ag74 : isAg Tryd.prog 74 = true := by kernel_rfl
@[go_sem] theorem ze74 : zeroCs Tryd.prog 74 = some [.v (.int .u8 0), .v (.int .u8 0)] := by kernel_rfl
@[go_sem] theorem se74 : selfTy Tryd.prog 74 = false := by kernel_rfl
@[go_sem] theorem fi74_0 : fieldOf Tryd.prog 74 0 = some { name := "lo", type := 5, offset := 0, embedded := false, tag := "", pkgPath := "unicode/utf8", byteOffset := 0 } := by kernel_rfl
@[go_sem] theorem fi74_1 : fieldOf Tryd.prog 74 1 = some { name := "hi", type := 5, offset := 1, embedded := false, tag := "", pkgPath := "unicode/utf8", byteOffset := 1 } := by kernel_rfl
attribute [go_sem] Tryd.underlying75
@[go_sem] theorem ce75 : Tryd.prog.cellsOf 75 = 32 := by kernel_rfl
@[go_sem] theorem by75 : Tryd.prog.bytesOf 75 = 32 := by kernel_rfl
@[go_sem] theorem ag75 : isAg Tryd.prog 75 = true := by kernel_rfl
@[go_sem] theorem ar75 : arrTy Tryd.prog 75 = some (16, 74) := by kernel_rfl
@[go_sem] theorem ze75 : zeroCs Tryd.prog 75 = some [.v (.int .u8 0), .v (.int .u8 0), .v (.int .u8 0), .v (.int .u8 0), .v (.int .u8 0), .v (.int .u8 0), .v (.int .u8 0), .v (.int .u8 0), .v (.int .u8 0), .v (.int .u8 0), .v (.int .u8 0), .v (.int .u8 0), .v (.int .u8 0), .v (.int .u8 0), .v (.int .u8 0), .v (.int .u8 0), .v (.int .u8 0), .v (.int .u8 0), .v (.int .u8 0), .v (.int .u8 0), .v (.int .u8 0), .v (.int .u8 0), .v (.int .u8 0), .v (.int .u8 0), .v (.int .u8 0), .v (.int .u8 0), .v (.int .u8 0), .v (.int .u8 0), .v (.int .u8 0), .v (.int .u8 0), .v (.int .u8 0), .v (.int .u8 0)] := by kernel_rfl
@[go_sem] theorem se75 : selfTy Tryd.prog 75 = false := by kernel_rfl
attribute [go_sem] fieldsKnown
end Go.Proofs.YtkkhbmpcpilmfaaDoor.VL

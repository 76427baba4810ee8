/- The facts on the program's types that walks rewrite by (printed by gen_ty.py). -/
import Derived.Test.YtadajfahlgekiaaVLTac
import Derived.Test.YtadajfahlgekiaaProg
import Derived.KernelRfl
set_option linter.unusedVariables false
namespace Go.Proofs.Ytadajfahlgekiaa.VL
open Go Go.RowKit Go.Lib
attribute [go_sem] Try.underlying1
@[go_sem] theorem ce1 : Try.prog.cellsOf 1 = 1 := by kernel_rfl
@[go_sem] theorem by1 : Try.prog.bytesOf 1 = 8 := by kernel_rfl
@[go_sem] theorem ag1 : isAg Try.prog 1 = false := by kernel_rfl
@[go_sem] theorem ze1 : zeroCs Try.prog 1 = some [.v .nilFunc] := by kernel_rfl
attribute [go_sem] Try.underlying2
@[go_sem] theorem ce2 : Try.prog.cellsOf 2 = 1 := by kernel_rfl
@[go_sem] theorem by2 : Try.prog.bytesOf 2 = 8 := by kernel_rfl
@[go_sem] theorem ag2 : isAg Try.prog 2 = false := by kernel_rfl
@[go_sem] theorem ze2 : zeroCs Try.prog 2 = some [.v (.int .i64 0)] := by kernel_rfl
attribute [go_sem] Try.underlying3
@[go_sem] theorem ce3 : Try.prog.cellsOf 3 = 1 := by kernel_rfl
@[go_sem] theorem by3 : Try.prog.bytesOf 3 = 8 := by kernel_rfl
@[go_sem] theorem ag3 : isAg Try.prog 3 = false := by kernel_rfl
@[go_sem] theorem ze3 : zeroCs Try.prog 3 = some [.v (.int .i64 0)] := by kernel_rfl
attribute [go_sem] Try.underlying4
@[go_sem] theorem ce4 : Try.prog.cellsOf 4 = 1 := by kernel_rfl
@[go_sem] theorem by4 : Try.prog.bytesOf 4 = 1 := by kernel_rfl
@[go_sem] theorem ag4 : isAg Try.prog 4 = false := by kernel_rfl
@[go_sem] theorem ze4 : zeroCs Try.prog 4 = some [.v (.bool false)] := by kernel_rfl
attribute [go_sem] Try.underlying5
@[go_sem] theorem ce5 : Try.prog.cellsOf 5 = 1 := by kernel_rfl
@[go_sem] theorem by5 : Try.prog.bytesOf 5 = 1 := by kernel_rfl
@[go_sem] theorem ag5 : isAg Try.prog 5 = false := by kernel_rfl
@[go_sem] theorem ze5 : zeroCs Try.prog 5 = some [.v (.int .u8 0)] := by kernel_rfl
attribute [go_sem] Try.underlying9
@[go_sem] theorem ce9 : Try.prog.cellsOf 9 = 1 := by kernel_rfl
@[go_sem] theorem by9 : Try.prog.bytesOf 9 = 16 := by kernel_rfl
@[go_sem] theorem ag9 : isAg Try.prog 9 = false := by kernel_rfl
@[go_sem] theorem ze9 : zeroCs Try.prog 9 = some [.v (.string { data := #[] })] := by kernel_rfl
attribute [go_sem] Try.underlying12
@[go_sem] theorem ce12 : Try.prog.cellsOf 12 = 1 := by kernel_rfl
@[go_sem] theorem by12 : Try.prog.bytesOf 12 = 8 := by kernel_rfl
@[go_sem] theorem ag12 : isAg Try.prog 12 = false := by kernel_rfl
@[go_sem] theorem ze12 : zeroCs Try.prog 12 = some [.v (.int .u64 0)] := by kernel_rfl
attribute [go_sem] Try.underlying13
@[go_sem] theorem ce13 : Try.prog.cellsOf 13 = 2 := by kernel_rfl
@[go_sem] theorem by13 : Try.prog.bytesOf 13 = 24 := by kernel_rfl
@[go_sem] theorem ag13 : isAg Try.prog 13 = true := by kernel_rfl
@[go_sem] theorem ze13 : zeroCs Try.prog 13 = some [.v (.string { data := #[] }), .v (.int .u64 0)] := by kernel_rfl
@[go_sem] theorem fi13_0 : fieldOf Try.prog 13 0 = some { name := "msg", type := 9, offset := 0, embedded := false, tag := "", pkgPath := "runtime", byteOffset := 0 } := by kernel_rfl
@[go_sem] theorem fi13_1 : fieldOf Try.prog 13 1 = some { name := "addr", type := 12, offset := 1, embedded := false, tag := "", pkgPath := "runtime", byteOffset := 16 } := by kernel_rfl
attribute [go_sem] Try.underlying21
@[go_sem] theorem ce21 : Try.prog.cellsOf 21 = 1 := by kernel_rfl
@[go_sem] theorem by21 : Try.prog.bytesOf 21 = 4 := by kernel_rfl
@[go_sem] theorem ag21 : isAg Try.prog 21 = false := by kernel_rfl
@[go_sem] theorem ze21 : zeroCs Try.prog 21 = some [.v (.int .i32 0)] := by kernel_rfl
attribute [go_sem] Try.underlying22
@[go_sem] theorem ce22 : Try.prog.cellsOf 22 = 3 := by kernel_rfl
@[go_sem] theorem by22 : Try.prog.bytesOf 22 = 32 := by kernel_rfl
@[go_sem] theorem ag22 : isAg Try.prog 22 = true := by kernel_rfl
@[go_sem] theorem ze22 : zeroCs Try.prog 22 = some [.v (.int .i64 0), .v (.int .i64 0), .v (.string { data := #[] })] := by kernel_rfl
@[go_sem] theorem fi22_0 : fieldOf Try.prog 22 0 = some { name := "Seq", type := 3, offset := 0, embedded := false, tag := "", pkgPath := "", byteOffset := 0 } := by kernel_rfl
@[go_sem] theorem fi22_1 : fieldOf Try.prog 22 1 = some { name := "Gen", type := 3, offset := 1, embedded := false, tag := "", pkgPath := "", byteOffset := 8 } := by kernel_rfl
@[go_sem] theorem fi22_2 : fieldOf Try.prog 22 2 = some { name := "Note", type := 9, offset := 2, embedded := false, tag := "", pkgPath := "", byteOffset := 16 } := by kernel_rfl
attribute [go_sem] Try.underlying23
@[go_sem] theorem ce23 : Try.prog.cellsOf 23 = 3 := by kernel_rfl
@[go_sem] theorem by23 : Try.prog.bytesOf 23 = 32 := by kernel_rfl
@[go_sem] theorem ag23 : isAg Try.prog 23 = true := by kernel_rfl
@[go_sem] theorem fl23 : flatTags Try.prog 23 = some [0, 0, 1] := by kernel_rfl
@[go_sem] theorem ze23 : zeroCs Try.prog 23 = some [.v (.int .i64 0), .v (.int .i64 0), .v (.string { data := #[] })] := by kernel_rfl
@[go_sem] theorem fi23_0 : fieldOf Try.prog 23 0 = some { name := "Seq", type := 3, offset := 0, embedded := false, tag := "", pkgPath := "", byteOffset := 0 } := by kernel_rfl
@[go_sem] theorem fi23_1 : fieldOf Try.prog 23 1 = some { name := "Gen", type := 3, offset := 1, embedded := false, tag := "", pkgPath := "", byteOffset := 8 } := by kernel_rfl
@[go_sem] theorem fi23_2 : fieldOf Try.prog 23 2 = some { name := "Note", type := 9, offset := 2, embedded := false, tag := "", pkgPath := "", byteOffset := 16 } := by kernel_rfl
attribute [go_sem] Try.underlying24
@[go_sem] theorem ce24 : Try.prog.cellsOf 24 = 64 := by kernel_rfl
@[go_sem] theorem by24 : Try.prog.bytesOf 24 = 64 := by kernel_rfl
@[go_sem] theorem ag24 : isAg Try.prog 24 = true := by kernel_rfl
@[go_sem] theorem ar24 : arrTy Try.prog 24 = some (64, 5) := by kernel_rfl
@[go_sem] theorem ok24 : eqOk Try.prog 24 = true := by kernel_rfl
@[go_sem] theorem ze24 : zeroCs Try.prog 24 = some (bytesC (zerosB 64)) := by kernel_rfl
attribute [go_sem] Try.underlying25
@[go_sem] theorem ce25 : Try.prog.cellsOf 25 = 1 := by kernel_rfl
@[go_sem] theorem by25 : Try.prog.bytesOf 25 = 8 := by kernel_rfl
@[go_sem] theorem ag25 : isAg Try.prog 25 = false := by kernel_rfl
@[go_sem] theorem ze25 : zeroCs Try.prog 25 = some [.v .nilFunc] := by kernel_rfl
attribute [go_sem] Try.underlying26
@[go_sem] theorem ce26 : Try.prog.cellsOf 26 = 1 := by kernel_rfl
@[go_sem] theorem by26 : Try.prog.bytesOf 26 = 8 := by kernel_rfl
@[go_sem] theorem ag26 : isAg Try.prog 26 = false := by kernel_rfl
@[go_sem] theorem ze26 : zeroCs Try.prog 26 = some [.v (.int .i64 0)] := by kernel_rfl
attribute [go_sem] Try.underlying28
@[go_sem] theorem ce28 : Try.prog.cellsOf 28 = 1 := by kernel_rfl
@[go_sem] theorem by28 : Try.prog.bytesOf 28 = 8 := by kernel_rfl
@[go_sem] theorem ag28 : isAg Try.prog 28 = false := by kernel_rfl
@[go_sem] theorem ze28 : zeroCs Try.prog 28 = some [.v .nilFunc] := by kernel_rfl
attribute [go_sem] Try.underlying30
@[go_sem] theorem ce30 : Try.prog.cellsOf 30 = 1 := by kernel_rfl
@[go_sem] theorem by30 : Try.prog.bytesOf 30 = 8 := by kernel_rfl
@[go_sem] theorem ag30 : isAg Try.prog 30 = false := by kernel_rfl
@[go_sem] theorem ze30 : zeroCs Try.prog 30 = some [.v .nilFunc] := by kernel_rfl
attribute [go_sem] Try.underlying31
@[go_sem] theorem ce31 : Try.prog.cellsOf 31 = 1 := by kernel_rfl
@[go_sem] theorem by31 : Try.prog.bytesOf 31 = 8 := by kernel_rfl
@[go_sem] theorem ag31 : isAg Try.prog 31 = false := by kernel_rfl
@[go_sem] theorem ze31 : zeroCs Try.prog 31 = some [.v .nilFunc] := by kernel_rfl
attribute [go_sem] Try.underlying32
@[go_sem] theorem ce32 : Try.prog.cellsOf 32 = 1 := by kernel_rfl
@[go_sem] theorem by32 : Try.prog.bytesOf 32 = 24 := by kernel_rfl
@[go_sem] theorem ag32 : isAg Try.prog 32 = false := by kernel_rfl
@[go_sem] theorem el32 : elemTy Try.prog 32 = some 24 := by kernel_rfl
@[go_sem] theorem ze32 : zeroCs Try.prog 32 = some [.emp] := by kernel_rfl
attribute [go_sem] Try.underlying33
@[go_sem] theorem ce33 : Try.prog.cellsOf 33 = 3 := by kernel_rfl
@[go_sem] theorem by33 : Try.prog.bytesOf 33 = 40 := by kernel_rfl
@[go_sem] theorem ag33 : isAg Try.prog 33 = true := by kernel_rfl
@[go_sem] theorem ze33 : zeroCs Try.prog 33 = some [.emp, .v (.int .i64 0), .v (.bool false)] := by kernel_rfl
@[go_sem] theorem fi33_0 : fieldOf Try.prog 33 0 = some { name := "Sectors", type := 32, offset := 0, embedded := false, tag := "", pkgPath := "", byteOffset := 0 } := by kernel_rfl
@[go_sem] theorem fi33_1 : fieldOf Try.prog 33 1 = some { name := "Fuse", type := 3, offset := 1, embedded := false, tag := "", pkgPath := "", byteOffset := 24 } := by kernel_rfl
@[go_sem] theorem fi33_2 : fieldOf Try.prog 33 2 = some { name := "Down", type := 4, offset := 2, embedded := false, tag := "", pkgPath := "", byteOffset := 32 } := by kernel_rfl
attribute [go_sem] Try.underlying34
@[go_sem] theorem ce34 : Try.prog.cellsOf 34 = 3 := by kernel_rfl
@[go_sem] theorem by34 : Try.prog.bytesOf 34 = 40 := by kernel_rfl
@[go_sem] theorem ag34 : isAg Try.prog 34 = true := by kernel_rfl
@[go_sem] theorem ze34 : zeroCs Try.prog 34 = some [.emp, .v (.int .i64 0), .v (.bool false)] := by kernel_rfl
@[go_sem] theorem fi34_0 : fieldOf Try.prog 34 0 = some { name := "Sectors", type := 32, offset := 0, embedded := false, tag := "", pkgPath := "", byteOffset := 0 } := by kernel_rfl
@[go_sem] theorem fi34_1 : fieldOf Try.prog 34 1 = some { name := "Fuse", type := 3, offset := 1, embedded := false, tag := "", pkgPath := "", byteOffset := 24 } := by kernel_rfl
@[go_sem] theorem fi34_2 : fieldOf Try.prog 34 2 = some { name := "Down", type := 4, offset := 2, embedded := false, tag := "", pkgPath := "", byteOffset := 32 } := by kernel_rfl
attribute [go_sem] Try.underlying35
@[go_sem] theorem ce35 : Try.prog.cellsOf 35 = 1 := by kernel_rfl
@[go_sem] theorem by35 : Try.prog.bytesOf 35 = 8 := by kernel_rfl
@[go_sem] theorem ag35 : isAg Try.prog 35 = false := by kernel_rfl
@[go_sem] theorem ze35 : zeroCs Try.prog 35 = some [.v .nilFunc] := by kernel_rfl
attribute [go_sem] Try.underlying37
@[go_sem] theorem ce37 : Try.prog.cellsOf 37 = 1 := by kernel_rfl
@[go_sem] theorem by37 : Try.prog.bytesOf 37 = 8 := by kernel_rfl
@[go_sem] theorem ag37 : isAg Try.prog 37 = false := by kernel_rfl
@[go_sem] theorem ze37 : zeroCs Try.prog 37 = some [.v .nilFunc] := by kernel_rfl
attribute [go_sem] Try.underlying38
@[go_sem] theorem ce38 : Try.prog.cellsOf 38 = 1 := by kernel_rfl
@[go_sem] theorem by38 : Try.prog.bytesOf 38 = 8 := by kernel_rfl
@[go_sem] theorem ag38 : isAg Try.prog 38 = false := by kernel_rfl
@[go_sem] theorem ze38 : zeroCs Try.prog 38 = some [.v .nilFunc] := by kernel_rfl
attribute [go_sem] Try.underlying39
@[go_sem] theorem ce39 : Try.prog.cellsOf 39 = 1 := by kernel_rfl
@[go_sem] theorem by39 : Try.prog.bytesOf 39 = 8 := by kernel_rfl
@[go_sem] theorem ag39 : isAg Try.prog 39 = false := by kernel_rfl
@[go_sem] theorem ze39 : zeroCs Try.prog 39 = some [.v .nilFunc] := by kernel_rfl
attribute [go_sem] Try.underlying40
@[go_sem] theorem ce40 : Try.prog.cellsOf 40 = 1 := by kernel_rfl
@[go_sem] theorem by40 : Try.prog.bytesOf 40 = 8 := by kernel_rfl
@[go_sem] theorem ag40 : isAg Try.prog 40 = false := by kernel_rfl
@[go_sem] theorem ze40 : zeroCs Try.prog 40 = some [.v .nilFunc] := by kernel_rfl
attribute [go_sem] Try.underlying41
@[go_sem] theorem ce41 : Try.prog.cellsOf 41 = 1 := by kernel_rfl
@[go_sem] theorem by41 : Try.prog.bytesOf 41 = 8 := by kernel_rfl
@[go_sem] theorem ag41 : isAg Try.prog 41 = false := by kernel_rfl
@[go_sem] theorem ze41 : zeroCs Try.prog 41 = some [.v .nilFunc] := by kernel_rfl
attribute [go_sem] Try.underlying42
@[go_sem] theorem ce42 : Try.prog.cellsOf 42 = 1 := by kernel_rfl
@[go_sem] theorem by42 : Try.prog.bytesOf 42 = 24 := by kernel_rfl
@[go_sem] theorem ag42 : isAg Try.prog 42 = false := by kernel_rfl
@[go_sem] theorem el42 : elemTy Try.prog 42 = some 46 := by kernel_rfl
@[go_sem] theorem ze42 : zeroCs Try.prog 42 = some [.emp] := by kernel_rfl
attribute [go_sem] Try.underlying44
@[go_sem] theorem ce44 : Try.prog.cellsOf 44 = 1 := by kernel_rfl
@[go_sem] theorem by44 : Try.prog.bytesOf 44 = 8 := by kernel_rfl
@[go_sem] theorem ag44 : isAg Try.prog 44 = false := by kernel_rfl
@[go_sem] theorem ze44 : zeroCs Try.prog 44 = some [.v .nilFunc] := by kernel_rfl
attribute [go_sem] Try.underlying45
@[go_sem] theorem ce45 : Try.prog.cellsOf 45 = 3 := by kernel_rfl
@[go_sem] theorem by45 : Try.prog.bytesOf 45 = 24 := by kernel_rfl
@[go_sem] theorem ag45 : isAg Try.prog 45 = true := by kernel_rfl
@[go_sem] theorem ze45 : zeroCs Try.prog 45 = some [.v (.bool false), .v (.int .u8 0), .v (.string { data := #[] })] := by kernel_rfl
@[go_sem] theorem fi45_0 : fieldOf Try.prog 45 0 = some { name := "Next", type := 4, offset := 0, embedded := false, tag := "", pkgPath := "", byteOffset := 0 } := by kernel_rfl
@[go_sem] theorem fi45_1 : fieldOf Try.prog 45 1 = some { name := "Fuse", type := 5, offset := 1, embedded := false, tag := "", pkgPath := "", byteOffset := 1 } := by kernel_rfl
@[go_sem] theorem fi45_2 : fieldOf Try.prog 45 2 = some { name := "Note", type := 9, offset := 2, embedded := false, tag := "", pkgPath := "", byteOffset := 8 } := by kernel_rfl
attribute [go_sem] Try.underlying46
@[go_sem] theorem ce46 : Try.prog.cellsOf 46 = 3 := by kernel_rfl
@[go_sem] theorem by46 : Try.prog.bytesOf 46 = 24 := by kernel_rfl
@[go_sem] theorem ag46 : isAg Try.prog 46 = true := by kernel_rfl
@[go_sem] theorem fl46 : flatTags Try.prog 46 = some [2, 0, 1] := by kernel_rfl
@[go_sem] theorem ze46 : zeroCs Try.prog 46 = some [.v (.bool false), .v (.int .u8 0), .v (.string { data := #[] })] := by kernel_rfl
@[go_sem] theorem fi46_0 : fieldOf Try.prog 46 0 = some { name := "Next", type := 4, offset := 0, embedded := false, tag := "", pkgPath := "", byteOffset := 0 } := by kernel_rfl
@[go_sem] theorem fi46_1 : fieldOf Try.prog 46 1 = some { name := "Fuse", type := 5, offset := 1, embedded := false, tag := "", pkgPath := "", byteOffset := 1 } := by kernel_rfl
@[go_sem] theorem fi46_2 : fieldOf Try.prog 46 2 = some { name := "Note", type := 9, offset := 2, embedded := false, tag := "", pkgPath := "", byteOffset := 8 } := by kernel_rfl
attribute [go_sem] Try.underlying47
@[go_sem] theorem ce47 : Try.prog.cellsOf 47 = 1 := by kernel_rfl
@[go_sem] theorem by47 : Try.prog.bytesOf 47 = 8 := by kernel_rfl
@[go_sem] theorem ag47 : isAg Try.prog 47 = false := by kernel_rfl
@[go_sem] theorem ze47 : zeroCs Try.prog 47 = some [.v .nilFunc] := by kernel_rfl
attribute [go_sem] Try.underlying48
@[go_sem] theorem ce48 : Try.prog.cellsOf 48 = 1 := by kernel_rfl
@[go_sem] theorem by48 : Try.prog.bytesOf 48 = 8 := by kernel_rfl
@[go_sem] theorem ag48 : isAg Try.prog 48 = false := by kernel_rfl
@[go_sem] theorem ze48 : zeroCs Try.prog 48 = some [.v .nilFunc] := by kernel_rfl
attribute [go_sem] Try.underlying49
@[go_sem] theorem ce49 : Try.prog.cellsOf 49 = 1 := by kernel_rfl
@[go_sem] theorem by49 : Try.prog.bytesOf 49 = 8 := by kernel_rfl
@[go_sem] theorem ag49 : isAg Try.prog 49 = false := by kernel_rfl
@[go_sem] theorem ze49 : zeroCs Try.prog 49 = some [.v .nilFunc] := by kernel_rfl
attribute [go_sem] Try.underlying50
@[go_sem] theorem ce50 : Try.prog.cellsOf 50 = 1 := by kernel_rfl
@[go_sem] theorem by50 : Try.prog.bytesOf 50 = 24 := by kernel_rfl
@[go_sem] theorem ag50 : isAg Try.prog 50 = false := by kernel_rfl
@[go_sem] theorem el50 : elemTy Try.prog 50 = some 9 := by kernel_rfl
@[go_sem] theorem ze50 : zeroCs Try.prog 50 = some [.emp] := by kernel_rfl
attribute [go_sem] Try.underlying51
@[go_sem] theorem ce51 : Try.prog.cellsOf 51 = 1 := by kernel_rfl
@[go_sem] theorem by51 : Try.prog.bytesOf 51 = 8 := by kernel_rfl
@[go_sem] theorem ag51 : isAg Try.prog 51 = false := by kernel_rfl
@[go_sem] theorem ze51 : zeroCs Try.prog 51 = some [.v .nilFunc] := by kernel_rfl
attribute [go_sem] Try.underlying52
@[go_sem] theorem ce52 : Try.prog.cellsOf 52 = 1 := by kernel_rfl
@[go_sem] theorem by52 : Try.prog.bytesOf 52 = 8 := by kernel_rfl
@[go_sem] theorem ag52 : isAg Try.prog 52 = false := by kernel_rfl
@[go_sem] theorem ze52 : zeroCs Try.prog 52 = some [.v .nilFunc] := by kernel_rfl
attribute [go_sem] Try.underlying53
@[go_sem] theorem ce53 : Try.prog.cellsOf 53 = 1 := by kernel_rfl
@[go_sem] theorem by53 : Try.prog.bytesOf 53 = 8 := by kernel_rfl
@[go_sem] theorem ag53 : isAg Try.prog 53 = false := by kernel_rfl
@[go_sem] theorem ze53 : zeroCs Try.prog 53 = some [.v .nilFunc] := by kernel_rfl
attribute [go_sem] Try.underlying54
@[go_sem] theorem ce54 : Try.prog.cellsOf 54 = 1 := by kernel_rfl
@[go_sem] theorem by54 : Try.prog.bytesOf 54 = 24 := by kernel_rfl
@[go_sem] theorem ag54 : isAg Try.prog 54 = false := by kernel_rfl
@[go_sem] theorem el54 : elemTy Try.prog 54 = some 5 := by kernel_rfl
@[go_sem] theorem ze54 : zeroCs Try.prog 54 = some [.emp] := by kernel_rfl
attribute [go_sem] Try.underlying55
@[go_sem] theorem ce55 : Try.prog.cellsOf 55 = 1 := by kernel_rfl
@[go_sem] theorem by55 : Try.prog.bytesOf 55 = 8 := by kernel_rfl
@[go_sem] theorem ag55 : isAg Try.prog 55 = false := by kernel_rfl
@[go_sem] theorem ze55 : zeroCs Try.prog 55 = some [.v .nilFunc] := by kernel_rfl
attribute [go_sem] Try.underlying56
@[go_sem] theorem ce56 : Try.prog.cellsOf 56 = 1 := by kernel_rfl
@[go_sem] theorem by56 : Try.prog.bytesOf 56 = 8 := by kernel_rfl
@[go_sem] theorem ag56 : isAg Try.prog 56 = false := by kernel_rfl
@[go_sem] theorem ze56 : zeroCs Try.prog 56 = some [.v .nilFunc] := by kernel_rfl
attribute [go_sem] Try.underlying57
@[go_sem] theorem ce57 : Try.prog.cellsOf 57 = 1 := by kernel_rfl
@[go_sem] theorem by57 : Try.prog.bytesOf 57 = 8 := by kernel_rfl
@[go_sem] theorem ag57 : isAg Try.prog 57 = false := by kernel_rfl
@[go_sem] theorem ze57 : zeroCs Try.prog 57 = some [.v .nilFunc] := by kernel_rfl
attribute [go_sem] Try.underlying58
@[go_sem] theorem ce58 : Try.prog.cellsOf 58 = 1 := by kernel_rfl
@[go_sem] theorem by58 : Try.prog.bytesOf 58 = 8 := by kernel_rfl
@[go_sem] theorem ag58 : isAg Try.prog 58 = false := by kernel_rfl
@[go_sem] theorem ze58 : zeroCs Try.prog 58 = some [.v .nilFunc] := by kernel_rfl
attribute [go_sem] Try.underlying59
@[go_sem] theorem ce59 : Try.prog.cellsOf 59 = 1 := by kernel_rfl
@[go_sem] theorem by59 : Try.prog.bytesOf 59 = 8 := by kernel_rfl
@[go_sem] theorem ag59 : isAg Try.prog 59 = false := by kernel_rfl
@[go_sem] theorem ze59 : zeroCs Try.prog 59 = some [.v .nilFunc] := by kernel_rfl
attribute [go_sem] Try.underlying61
@[go_sem] theorem ce61 : Try.prog.cellsOf 61 = 1 := by kernel_rfl
@[go_sem] theorem by61 : Try.prog.bytesOf 61 = 8 := by kernel_rfl
@[go_sem] theorem ag61 : isAg Try.prog 61 = false := by kernel_rfl
@[go_sem] theorem ze61 : zeroCs Try.prog 61 = some [.v .nilFunc] := by kernel_rfl
attribute [go_sem] Try.underlying63
@[go_sem] theorem ce63 : Try.prog.cellsOf 63 = 1 := by kernel_rfl
@[go_sem] theorem by63 : Try.prog.bytesOf 63 = 8 := by kernel_rfl
@[go_sem] theorem ag63 : isAg Try.prog 63 = false := by kernel_rfl
@[go_sem] theorem ze63 : zeroCs Try.prog 63 = some [.v .nilFunc] := by kernel_rfl
attribute [go_sem] Try.underlying64
@[go_sem] theorem ce64 : Try.prog.cellsOf 64 = 1 := by kernel_rfl
@[go_sem] theorem by64 : Try.prog.bytesOf 64 = 8 := by kernel_rfl
@[go_sem] theorem ag64 : isAg Try.prog 64 = false := by kernel_rfl
@[go_sem] theorem ze64 : zeroCs Try.prog 64 = some [.v .nilFunc] := by kernel_rfl
attribute [go_sem] Try.underlying65
@[go_sem] theorem ce65 : Try.prog.cellsOf 65 = 1 := by kernel_rfl
@[go_sem] theorem by65 : Try.prog.bytesOf 65 = 8 := by kernel_rfl
@[go_sem] theorem ag65 : isAg Try.prog 65 = false := by kernel_rfl
@[go_sem] theorem ze65 : zeroCs Try.prog 65 = some [.v .nilFunc] := by kernel_rfl
attribute [go_sem] Try.underlying66
@[go_sem] theorem ce66 : Try.prog.cellsOf 66 = 1 := by kernel_rfl
@[go_sem] theorem by66 : Try.prog.bytesOf 66 = 8 := by kernel_rfl
@[go_sem] theorem ag66 : isAg Try.prog 66 = false := by kernel_rfl
@[go_sem] theorem ze66 : zeroCs Try.prog 66 = some [.v .nilFunc] := by kernel_rfl
attribute [go_sem] Try.underlying67
@[go_sem] theorem ce67 : Try.prog.cellsOf 67 = 1 := by kernel_rfl
@[go_sem] theorem by67 : Try.prog.bytesOf 67 = 4 := by kernel_rfl
@[go_sem] theorem ag67 : isAg Try.prog 67 = false := by kernel_rfl
@[go_sem] theorem ze67 : zeroCs Try.prog 67 = some [.v (.int .u32 0)] := by kernel_rfl
attribute [go_sem] Try.underlying68
@[go_sem] theorem ce68 : Try.prog.cellsOf 68 = 1 := by kernel_rfl
@[go_sem] theorem by68 : Try.prog.bytesOf 68 = 8 := by kernel_rfl
@[go_sem] theorem ag68 : isAg Try.prog 68 = false := by kernel_rfl
@[go_sem] theorem ze68 : zeroCs Try.prog 68 = some [.v .nilFunc] := by kernel_rfl
attribute [go_sem] Try.underlying69
@[go_sem] theorem ce69 : Try.prog.cellsOf 69 = 1 := by kernel_rfl
@[go_sem] theorem by69 : Try.prog.bytesOf 69 = 8 := by kernel_rfl
@[go_sem] theorem ag69 : isAg Try.prog 69 = false := by kernel_rfl
@[go_sem] theorem ze69 : zeroCs Try.prog 69 = some [.v .nilFunc] := by kernel_rfl
attribute [go_sem] Try.underlying70
@[go_sem] theorem ce70 : Try.prog.cellsOf 70 = 1 := by kernel_rfl
@[go_sem] theorem by70 : Try.prog.bytesOf 70 = 8 := by kernel_rfl
@[go_sem] theorem ag70 : isAg Try.prog 70 = false := by kernel_rfl
@[go_sem] theorem ze70 : zeroCs Try.prog 70 = some [.v (.int .u64 0)] := by kernel_rfl
attribute [go_sem] Try.underlying71
@[go_sem] theorem ce71 : Try.prog.cellsOf 71 = 1 := by kernel_rfl
@[go_sem] theorem by71 : Try.prog.bytesOf 71 = 24 := by kernel_rfl
@[go_sem] theorem ag71 : isAg Try.prog 71 = false := by kernel_rfl
@[go_sem] theorem el71 : elemTy Try.prog 71 = some 3 := by kernel_rfl
@[go_sem] theorem ze71 : zeroCs Try.prog 71 = some [.emp] := by kernel_rfl
attribute [go_sem] Try.underlying72
@[go_sem] theorem ce72 : Try.prog.cellsOf 72 = 1 := by kernel_rfl
@[go_sem] theorem by72 : Try.prog.bytesOf 72 = 8 := by kernel_rfl
@[go_sem] theorem ag72 : isAg Try.prog 72 = false := by kernel_rfl
@[go_sem] theorem ze72 : zeroCs Try.prog 72 = some [.v .nilFunc] := by kernel_rfl
attribute [go_sem] Try.underlying73
@[go_sem] theorem ce73 : Try.prog.cellsOf 73 = 1 := by kernel_rfl
@[go_sem] theorem by73 : Try.prog.bytesOf 73 = 8 := by kernel_rfl
@[go_sem] theorem ag73 : isAg Try.prog 73 = false := by kernel_rfl
@[go_sem] theorem ze73 : zeroCs Try.prog 73 = some [.v (.int .u64 0)] := by kernel_rfl
attribute [go_sem] Try.underlying74
@[go_sem] theorem ce74 : Try.prog.cellsOf 74 = 1 := by kernel_rfl
@[go_sem] theorem by74 : Try.prog.bytesOf 74 = 8 := by kernel_rfl
@[go_sem] theorem ag74 : isAg Try.prog 74 = false := by kernel_rfl
@[go_sem] theorem ze74 : zeroCs Try.prog 74 = some [.v .nilFunc] := by kernel_rfl
attribute [go_sem] Try.underlying75
@[go_sem] theorem ce75 : Try.prog.cellsOf 75 = 1 := by kernel_rfl
@[go_sem] theorem by75 : Try.prog.bytesOf 75 = 8 := by kernel_rfl
@[go_sem] theorem ag75 : isAg Try.prog 75 = false := by kernel_rfl
@[go_sem] theorem ze75 : zeroCs Try.prog 75 = some [.v .nilFunc] := by kernel_rfl
attribute [go_sem] Try.underlying76
@[go_sem] theorem ce76 : Try.prog.cellsOf 76 = 1 := by kernel_rfl
@[go_sem] theorem by76 : Try.prog.bytesOf 76 = 24 := by kernel_rfl
@[go_sem] theorem ag76 : isAg Try.prog 76 = false := by kernel_rfl
@[go_sem] theorem el76 : elemTy Try.prog 76 = some 54 := by kernel_rfl
@[go_sem] theorem ze76 : zeroCs Try.prog 76 = some [.emp] := by kernel_rfl
attribute [go_sem] Try.underlying77
@[go_sem] theorem ce77 : Try.prog.cellsOf 77 = 1 := by kernel_rfl
@[go_sem] theorem by77 : Try.prog.bytesOf 77 = 8 := by kernel_rfl
@[go_sem] theorem ag77 : isAg Try.prog 77 = false := by kernel_rfl
@[go_sem] theorem ze77 : zeroCs Try.prog 77 = some [.v .nilFunc] := by kernel_rfl
attribute [go_sem] Try.underlying78
@[go_sem] theorem ce78 : Try.prog.cellsOf 78 = 1 := by kernel_rfl
@[go_sem] theorem by78 : Try.prog.bytesOf 78 = 8 := by kernel_rfl
@[go_sem] theorem ag78 : isAg Try.prog 78 = false := by kernel_rfl
@[go_sem] theorem ze78 : zeroCs Try.prog 78 = some [.v .nilFunc] := by kernel_rfl
attribute [go_sem] Try.underlying79
@[go_sem] theorem ce79 : Try.prog.cellsOf 79 = 1 := by kernel_rfl
@[go_sem] theorem by79 : Try.prog.bytesOf 79 = 8 := by kernel_rfl
@[go_sem] theorem ag79 : isAg Try.prog 79 = false := by kernel_rfl
@[go_sem] theorem ze79 : zeroCs Try.prog 79 = some [.v .nilFunc] := by kernel_rfl
attribute [go_sem] Try.underlying80
@[go_sem] theorem ce80 : Try.prog.cellsOf 80 = 1 := by kernel_rfl
@[go_sem] theorem by80 : Try.prog.bytesOf 80 = 8 := by kernel_rfl
@[go_sem] theorem ag80 : isAg Try.prog 80 = false := by kernel_rfl
@[go_sem] theorem ze80 : zeroCs Try.prog 80 = some [.v .nilFunc] := by kernel_rfl
attribute [go_sem] Try.underlying81
@[go_sem] theorem ce81 : Try.prog.cellsOf 81 = 1 := by kernel_rfl
@[go_sem] theorem by81 : Try.prog.bytesOf 81 = 8 := by kernel_rfl
@[go_sem] theorem ag81 : isAg Try.prog 81 = false := by kernel_rfl
@[go_sem] theorem ze81 : zeroCs Try.prog 81 = some [.v .nilFunc] := by kernel_rfl
attribute [go_sem] Try.underlying87
@[go_sem] theorem ce87 : Try.prog.cellsOf 87 = 1 := by kernel_rfl
@[go_sem] theorem by87 : Try.prog.bytesOf 87 = 8 := by kernel_rfl
@[go_sem] theorem ag87 : isAg Try.prog 87 = false := by kernel_rfl
@[go_sem] theorem ze87 : zeroCs Try.prog 87 = some [.v .nilFunc] := by kernel_rfl
attribute [go_sem] Try.underlying91
@[go_sem] theorem ce91 : Try.prog.cellsOf 91 = 1 := by kernel_rfl
@[go_sem] theorem by91 : Try.prog.bytesOf 91 = 8 := by kernel_rfl
@[go_sem] theorem ag91 : isAg Try.prog 91 = false := by kernel_rfl
@[go_sem] theorem ze91 : zeroCs Try.prog 91 = some [.v (.pointer none)] := by kernel_rfl
attribute [go_sem] fieldsKnown
end Go.Proofs.Ytadajfahlgekiaa.VL

/- The facts on the program's types that walks rewrite by (printed by gen_ty.py). -/
import Derived.Test.YtecpgdbjemajjaaVLTac
import Derived.Test.YtecpgdbjemajjaaProg
import Derived.KernelRfl
set_option linter.unusedVariables false
namespace Go.Proofs.Ytecpgdbjemajjaa.VL
open Go Go.RowKit Go.Lib
attribute [go_sem] Try.underlying1
@[go_sem] theorem ce1 : Try.prog.cellsOf 1 = 1 := by kernel_rfl
@[go_sem] theorem by1 : Try.prog.bytesOf 1 = 8 := by kernel_rfl
@[go_sem] theorem ag1 : isAg Try.prog 1 = false := by kernel_rfl
@[go_sem] theorem ze1 : zeroCs Try.prog 1 = some [.v .nilFunc] := by kernel_rfl
attribute [go_sem] Try.underlying2
@[go_sem] theorem ce2 : Try.prog.cellsOf 2 = 1 := by kernel_rfl
@[go_sem] theorem by2 : Try.prog.bytesOf 2 = 8 := by kernel_rfl
@[go_sem] theorem ag2 : isAg Try.prog 2 = false := by kernel_rfl
@[go_sem] theorem ze2 : zeroCs Try.prog 2 = some [.v (.int .i64 0)] := by kernel_rfl
attribute [go_sem] Try.underlying3
@[go_sem] theorem ce3 : Try.prog.cellsOf 3 = 1 := by kernel_rfl
@[go_sem] theorem by3 : Try.prog.bytesOf 3 = 8 := by kernel_rfl
@[go_sem] theorem ag3 : isAg Try.prog 3 = false := by kernel_rfl
@[go_sem] theorem ze3 : zeroCs Try.prog 3 = some [.v (.int .i64 0)] := by kernel_rfl
attribute [go_sem] Try.underlying4
@[go_sem] theorem ce4 : Try.prog.cellsOf 4 = 1 := by kernel_rfl
@[go_sem] theorem by4 : Try.prog.bytesOf 4 = 1 := by kernel_rfl
@[go_sem] theorem ag4 : isAg Try.prog 4 = false := by kernel_rfl
@[go_sem] theorem ze4 : zeroCs Try.prog 4 = some [.v (.bool false)] := by kernel_rfl
attribute [go_sem] Try.underlying5
@[go_sem] theorem ce5 : Try.prog.cellsOf 5 = 1 := by kernel_rfl
@[go_sem] theorem by5 : Try.prog.bytesOf 5 = 1 := by kernel_rfl
@[go_sem] theorem ag5 : isAg Try.prog 5 = false := by kernel_rfl
@[go_sem] theorem ze5 : zeroCs Try.prog 5 = some [.v (.int .u8 0)] := by kernel_rfl
attribute [go_sem] Try.underlying9
@[go_sem] theorem ce9 : Try.prog.cellsOf 9 = 1 := by kernel_rfl
@[go_sem] theorem by9 : Try.prog.bytesOf 9 = 16 := by kernel_rfl
@[go_sem] theorem ag9 : isAg Try.prog 9 = false := by kernel_rfl
@[go_sem] theorem ze9 : zeroCs Try.prog 9 = some [.v (.string { data := #[] })] := by kernel_rfl
attribute [go_sem] Try.underlying12
@[go_sem] theorem ce12 : Try.prog.cellsOf 12 = 1 := by kernel_rfl
@[go_sem] theorem by12 : Try.prog.bytesOf 12 = 8 := by kernel_rfl
@[go_sem] theorem ag12 : isAg Try.prog 12 = false := by kernel_rfl
@[go_sem] theorem ze12 : zeroCs Try.prog 12 = some [.v (.int .u64 0)] := by kernel_rfl
attribute [go_sem] Try.underlying13
@[go_sem] theorem ce13 : Try.prog.cellsOf 13 = 2 := by kernel_rfl
@[go_sem] theorem by13 : Try.prog.bytesOf 13 = 24 := by kernel_rfl
@[go_sem] theorem ag13 : isAg Try.prog 13 = true := by kernel_rfl
@[go_sem] theorem ze13 : zeroCs Try.prog 13 = some [.v (.string { data := #[] }), .v (.int .u64 0)] := by kernel_rfl
@[go_sem] theorem fi13_0 : fieldOf Try.prog 13 0 = some { name := "msg", type := 9, offset := 0, embedded := false, tag := "", pkgPath := "runtime", byteOffset := 0 } := by kernel_rfl
@[go_sem] theorem fi13_1 : fieldOf Try.prog 13 1 = some { name := "addr", type := 12, offset := 1, embedded := false, tag := "", pkgPath := "runtime", byteOffset := 16 } := by kernel_rfl
attribute [go_sem] Try.underlying21
@[go_sem] theorem ce21 : Try.prog.cellsOf 21 = 1 := by kernel_rfl
@[go_sem] theorem by21 : Try.prog.bytesOf 21 = 4 := by kernel_rfl
@[go_sem] theorem ag21 : isAg Try.prog 21 = false := by kernel_rfl
@[go_sem] theorem ze21 : zeroCs Try.prog 21 = some [.v (.int .i32 0)] := by kernel_rfl
attribute [go_sem] Try.underlying22
@[go_sem] theorem ce22 : Try.prog.cellsOf 22 = 1 := by kernel_rfl
@[go_sem] theorem by22 : Try.prog.bytesOf 22 = 24 := by kernel_rfl
@[go_sem] theorem ag22 : isAg Try.prog 22 = false := by kernel_rfl
@[go_sem] theorem el22 : elemTy Try.prog 22 = some 5 := by kernel_rfl
@[go_sem] theorem ze22 : zeroCs Try.prog 22 = some [.emp] := by kernel_rfl
attribute [go_sem] Try.underlying23
@[go_sem] theorem ce23 : Try.prog.cellsOf 23 = 1 := by kernel_rfl
@[go_sem] theorem by23 : Try.prog.bytesOf 23 = 24 := by kernel_rfl
@[go_sem] theorem ag23 : isAg Try.prog 23 = false := by kernel_rfl
@[go_sem] theorem el23 : elemTy Try.prog 23 = some 3 := by kernel_rfl
@[go_sem] theorem ze23 : zeroCs Try.prog 23 = some [.emp] := by kernel_rfl
attribute [go_sem] Try.underlying24
@[go_sem] theorem ce24 : Try.prog.cellsOf 24 = 1 := by kernel_rfl
@[go_sem] theorem by24 : Try.prog.bytesOf 24 = 8 := by kernel_rfl
@[go_sem] theorem ag24 : isAg Try.prog 24 = false := by kernel_rfl
@[go_sem] theorem ze24 : zeroCs Try.prog 24 = some [.v .nilFunc] := by kernel_rfl
attribute [go_sem] Try.underlying25
@[go_sem] theorem ce25 : Try.prog.cellsOf 25 = 1 := by kernel_rfl
@[go_sem] theorem by25 : Try.prog.bytesOf 25 = 8 := by kernel_rfl
@[go_sem] theorem ag25 : isAg Try.prog 25 = false := by kernel_rfl
@[go_sem] theorem ze25 : zeroCs Try.prog 25 = some [.v .nilFunc] := by kernel_rfl
attribute [go_sem] Try.underlying26
@[go_sem] theorem ce26 : Try.prog.cellsOf 26 = 1 := by kernel_rfl
@[go_sem] theorem by26 : Try.prog.bytesOf 26 = 8 := by kernel_rfl
@[go_sem] theorem ag26 : isAg Try.prog 26 = false := by kernel_rfl
@[go_sem] theorem ze26 : zeroCs Try.prog 26 = some [.v .nilFunc] := by kernel_rfl
attribute [go_sem] Try.underlying27
@[go_sem] theorem ce27 : Try.prog.cellsOf 27 = 1 := by kernel_rfl
@[go_sem] theorem by27 : Try.prog.bytesOf 27 = 8 := by kernel_rfl
@[go_sem] theorem ag27 : isAg Try.prog 27 = false := by kernel_rfl
@[go_sem] theorem ze27 : zeroCs Try.prog 27 = some [.v .nilFunc] := by kernel_rfl
attribute [go_sem] Try.underlying28
@[go_sem] theorem ce28 : Try.prog.cellsOf 28 = 1 := by kernel_rfl
@[go_sem] theorem by28 : Try.prog.bytesOf 28 = 8 := by kernel_rfl
@[go_sem] theorem ag28 : isAg Try.prog 28 = false := by kernel_rfl
@[go_sem] theorem ze28 : zeroCs Try.prog 28 = some [.v .nilFunc] := by kernel_rfl
attribute [go_sem] Try.underlying29
@[go_sem] theorem ce29 : Try.prog.cellsOf 29 = 1 := by kernel_rfl
@[go_sem] theorem by29 : Try.prog.bytesOf 29 = 8 := by kernel_rfl
@[go_sem] theorem ag29 : isAg Try.prog 29 = false := by kernel_rfl
@[go_sem] theorem ze29 : zeroCs Try.prog 29 = some [.v .nilFunc] := by kernel_rfl
attribute [go_sem] Try.underlying30
@[go_sem] theorem ce30 : Try.prog.cellsOf 30 = 1 := by kernel_rfl
@[go_sem] theorem by30 : Try.prog.bytesOf 30 = 8 := by kernel_rfl
@[go_sem] theorem ag30 : isAg Try.prog 30 = false := by kernel_rfl
@[go_sem] theorem ze30 : zeroCs Try.prog 30 = some [.v .nilFunc] := by kernel_rfl
attribute [go_sem] Try.underlying31
@[go_sem] theorem ce31 : Try.prog.cellsOf 31 = 1 := by kernel_rfl
@[go_sem] theorem by31 : Try.prog.bytesOf 31 = 8 := by kernel_rfl
@[go_sem] theorem ag31 : isAg Try.prog 31 = false := by kernel_rfl
@[go_sem] theorem ze31 : zeroCs Try.prog 31 = some [.v (.int .i64 0)] := by kernel_rfl
attribute [go_sem] Try.underlying33
@[go_sem] theorem ce33 : Try.prog.cellsOf 33 = 1 := by kernel_rfl
@[go_sem] theorem by33 : Try.prog.bytesOf 33 = 8 := by kernel_rfl
@[go_sem] theorem ag33 : isAg Try.prog 33 = false := by kernel_rfl
@[go_sem] theorem ze33 : zeroCs Try.prog 33 = some [.v .nilFunc] := by kernel_rfl
attribute [go_sem] Try.underlying35
@[go_sem] theorem ce35 : Try.prog.cellsOf 35 = 1 := by kernel_rfl
@[go_sem] theorem by35 : Try.prog.bytesOf 35 = 8 := by kernel_rfl
@[go_sem] theorem ag35 : isAg Try.prog 35 = false := by kernel_rfl
@[go_sem] theorem ze35 : zeroCs Try.prog 35 = some [.v .nilFunc] := by kernel_rfl
attribute [go_sem] Try.underlying36
@[go_sem] theorem ce36 : Try.prog.cellsOf 36 = 1 := by kernel_rfl
@[go_sem] theorem by36 : Try.prog.bytesOf 36 = 8 := by kernel_rfl
@[go_sem] theorem ag36 : isAg Try.prog 36 = false := by kernel_rfl
@[go_sem] theorem ze36 : zeroCs Try.prog 36 = some [.v .nilFunc] := by kernel_rfl
attribute [go_sem] Try.underlying37
@[go_sem] theorem ce37 : Try.prog.cellsOf 37 = 1 := by kernel_rfl
@[go_sem] theorem by37 : Try.prog.bytesOf 37 = 8 := by kernel_rfl
@[go_sem] theorem ag37 : isAg Try.prog 37 = false := by kernel_rfl
@[go_sem] theorem ze37 : zeroCs Try.prog 37 = some [.v .nilFunc] := by kernel_rfl
attribute [go_sem] Try.underlying38
@[go_sem] theorem ce38 : Try.prog.cellsOf 38 = 1 := by kernel_rfl
@[go_sem] theorem by38 : Try.prog.bytesOf 38 = 8 := by kernel_rfl
@[go_sem] theorem ag38 : isAg Try.prog 38 = false := by kernel_rfl
@[go_sem] theorem ze38 : zeroCs Try.prog 38 = some [.v .nilFunc] := by kernel_rfl
attribute [go_sem] Try.underlying39
@[go_sem] theorem ce39 : Try.prog.cellsOf 39 = 1 := by kernel_rfl
@[go_sem] theorem by39 : Try.prog.bytesOf 39 = 8 := by kernel_rfl
@[go_sem] theorem ag39 : isAg Try.prog 39 = false := by kernel_rfl
@[go_sem] theorem ze39 : zeroCs Try.prog 39 = some [.v .nilFunc] := by kernel_rfl
attribute [go_sem] Try.underlying40
@[go_sem] theorem ce40 : Try.prog.cellsOf 40 = 1 := by kernel_rfl
@[go_sem] theorem by40 : Try.prog.bytesOf 40 = 8 := by kernel_rfl
@[go_sem] theorem ag40 : isAg Try.prog 40 = false := by kernel_rfl
@[go_sem] theorem ze40 : zeroCs Try.prog 40 = some [.v .nilFunc] := by kernel_rfl
attribute [go_sem] Try.underlying41
@[go_sem] theorem ce41 : Try.prog.cellsOf 41 = 1 := by kernel_rfl
@[go_sem] theorem by41 : Try.prog.bytesOf 41 = 8 := by kernel_rfl
@[go_sem] theorem ag41 : isAg Try.prog 41 = false := by kernel_rfl
@[go_sem] theorem ze41 : zeroCs Try.prog 41 = some [.v .nilFunc] := by kernel_rfl
attribute [go_sem] Try.underlying42
@[go_sem] theorem ce42 : Try.prog.cellsOf 42 = 1 := by kernel_rfl
@[go_sem] theorem by42 : Try.prog.bytesOf 42 = 8 := by kernel_rfl
@[go_sem] theorem ag42 : isAg Try.prog 42 = false := by kernel_rfl
@[go_sem] theorem ze42 : zeroCs Try.prog 42 = some [.v .nilFunc] := by kernel_rfl
attribute [go_sem] Try.underlying43
@[go_sem] theorem ce43 : Try.prog.cellsOf 43 = 1 := by kernel_rfl
@[go_sem] theorem by43 : Try.prog.bytesOf 43 = 8 := by kernel_rfl
@[go_sem] theorem ag43 : isAg Try.prog 43 = false := by kernel_rfl
@[go_sem] theorem ze43 : zeroCs Try.prog 43 = some [.v (.int .u64 0)] := by kernel_rfl
attribute [go_sem] Try.underlying44
@[go_sem] theorem ce44 : Try.prog.cellsOf 44 = 1 := by kernel_rfl
@[go_sem] theorem by44 : Try.prog.bytesOf 44 = 8 := by kernel_rfl
@[go_sem] theorem ag44 : isAg Try.prog 44 = false := by kernel_rfl
@[go_sem] theorem ze44 : zeroCs Try.prog 44 = some [.v .nilFunc] := by kernel_rfl
attribute [go_sem] Try.underlying45
@[go_sem] theorem ce45 : Try.prog.cellsOf 45 = 1 := by kernel_rfl
@[go_sem] theorem by45 : Try.prog.bytesOf 45 = 8 := by kernel_rfl
@[go_sem] theorem ag45 : isAg Try.prog 45 = false := by kernel_rfl
@[go_sem] theorem ze45 : zeroCs Try.prog 45 = some [.v (.int .u64 0)] := by kernel_rfl
attribute [go_sem] Try.underlying46
@[go_sem] theorem ce46 : Try.prog.cellsOf 46 = 1 := by kernel_rfl
@[go_sem] theorem by46 : Try.prog.bytesOf 46 = 8 := by kernel_rfl
@[go_sem] theorem ag46 : isAg Try.prog 46 = false := by kernel_rfl
@[go_sem] theorem ze46 : zeroCs Try.prog 46 = some [.v .nilFunc] := by kernel_rfl
attribute [go_sem] Try.underlying47
@[go_sem] theorem ce47 : Try.prog.cellsOf 47 = 1 := by kernel_rfl
@[go_sem] theorem by47 : Try.prog.bytesOf 47 = 4 := by kernel_rfl
@[go_sem] theorem ag47 : isAg Try.prog 47 = false := by kernel_rfl
@[go_sem] theorem ze47 : zeroCs Try.prog 47 = some [.v (.int .u32 0)] := by kernel_rfl
attribute [go_sem] Try.underlying48
@[go_sem] theorem ce48 : Try.prog.cellsOf 48 = 1 := by kernel_rfl
@[go_sem] theorem by48 : Try.prog.bytesOf 48 = 8 := by kernel_rfl
@[go_sem] theorem ag48 : isAg Try.prog 48 = false := by kernel_rfl
@[go_sem] theorem ze48 : zeroCs Try.prog 48 = some [.v .nilFunc] := by kernel_rfl
attribute [go_sem] Try.underlying49
@[go_sem] theorem ce49 : Try.prog.cellsOf 49 = 1 := by kernel_rfl
@[go_sem] theorem by49 : Try.prog.bytesOf 49 = 8 := by kernel_rfl
@[go_sem] theorem ag49 : isAg Try.prog 49 = false := by kernel_rfl
@[go_sem] theorem ze49 : zeroCs Try.prog 49 = some [.v .nilFunc] := by kernel_rfl
attribute [go_sem] Try.underlying55
@[go_sem] theorem ce55 : Try.prog.cellsOf 55 = 1 := by kernel_rfl
@[go_sem] theorem by55 : Try.prog.bytesOf 55 = 8 := by kernel_rfl
@[go_sem] theorem ag55 : isAg Try.prog 55 = false := by kernel_rfl
@[go_sem] theorem ze55 : zeroCs Try.prog 55 = some [.v .nilFunc] := by kernel_rfl
attribute [go_sem] Try.underlying59
@[go_sem] theorem ce59 : Try.prog.cellsOf 59 = 1 := by kernel_rfl
@[go_sem] theorem by59 : Try.prog.bytesOf 59 = 8 := by kernel_rfl
@[go_sem] theorem ag59 : isAg Try.prog 59 = false := by kernel_rfl
@[go_sem] theorem ze59 : zeroCs Try.prog 59 = some [.v (.pointer none)] := by kernel_rfl
attribute [go_sem] fieldsKnown
end Go.Proofs.Ytecpgdbjemajjaa.VL

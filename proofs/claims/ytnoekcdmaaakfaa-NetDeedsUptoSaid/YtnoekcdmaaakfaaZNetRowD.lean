/- Nets among a law's arguments, and how much is in them. -/
import Derived.Test.YtnoekcdmaaakfaaZNetG
import Derived.Test.YtnoekcdmaaakfaaZVLOpenB
set_option linter.unusedVariables false
set_option linter.unusedSimpArgs false
set_option linter.constructorNameAsVariable false
set_option maxRecDepth 10000
namespace Go.Proofs.Ytnoekcdmaaakfaa.VL
open Go Go.RowKit Go.Lib Go.ChangeShapes Go.WideShapes
variable {H : Type} {enc : TypeId × Value → H}

def szM (l : List Ml) : Nat := (l.map fun m : Ml => m.d.length + 1).sum
theorem szM_len : ∀ l : List Ml, l.length ≤ szM l
  | [] => by simp [szM]
  | m :: l => by have := szM_len l; simp only [szM, List.map_cons, List.sum_cons, List.length_cons] at this ⊢; omega
theorem szM_mem : ∀ (l : List Ml) (m : Ml), m ∈ l → m.d.length ≤ szM l
  | [], _, h => by simp at h
  | x :: l, m, h => by
    simp only [szM, List.map_cons, List.sum_cons]
    rcases List.mem_cons.1 h with rfl | h
    · omega
    · have := szM_mem l m h
      simp only [szM] at this
      omega
theorem opensI {W : World} : OpensB enc Try.prog W 3 1 (fun n : Int => [AV.v (.int .i64 n)]) (fun n => IntKind.i64.min ≤ n ∧ n ≤ IntKind.i64.max) (fun _ => 0) :=
  .of (Opens.int Try.underlying3 (by kernel_rfl))
theorem opens_mlB {W : World} : OpensB enc Try.prog W 33 3 mlC (fun _ => True) (fun m => m.d.length + 1) :=
  (OpensB.struct Try.underlying33 (by kernel_rfl) (.cons rfl opensI (.cons rfl opensI (.last rfl (.bytes Try.underlying31 Try.underlying5 (by kernel_rfl) (by kernel_rfl)))))).conv
    (fun p => ⟨p.1, p.2.1, p.2.2⟩) (fun a h => ⟨rfl, trivial, by dsimp only; omega⟩)
theorem opens_ctB {W : World} : OpensB enc Try.prog W 58 2 ctC (fun _ => True) (fun _ => 1) :=
  (OpensB.struct Try.underlying58 (by kernel_rfl) (.cons rfl opensI (.last rfl opensI))).conv
    (fun p => ⟨p.1, p.2⟩) (fun a h => ⟨rfl, trivial, by omega⟩)
theorem sum_ones : ∀ l : List Ct, (l.map fun _ => 1).sum = l.length
  | [] => rfl
  | _ :: l => by rw [List.map_cons, List.sum_cons, sum_ones l, List.length_cons]; omega
theorem opens_mlsB {W : World} : OpensB enc Try.prog W 22 1 (fun l => [AV.lst 3 (mlG l)]) (fun _ => True) szM :=
  (OpensB.slice Try.underlying22 (by kernel_rfl) (by decide) opens_mlB).conv (fun l => l) (fun l _ => ⟨rfl, trivial, by simp only [szM]; omega⟩)
theorem opens_ctsB {W : World} : OpensB enc Try.prog W 25 1 (fun l => [AV.lst 2 (ctG l)]) (fun _ => True) (fun l => l.length) :=
  (OpensB.slice Try.underlying25 (by kernel_rfl) (by decide) opens_ctB).conv (fun l => l) (fun l _ => ⟨rfl, trivial, by have := sum_ones l; omega⟩)
def szN (n : Nt) : Nat := szM n.fl + n.cu.length
theorem opens_nt {W : World} : OpensB enc Try.prog W 27 2 ntC (fun _ => True) szN :=
  (OpensB.struct Try.underlying27 (by kernel_rfl) (.cons rfl opens_mlsB (.last rfl opens_ctsB))).conv
    (fun p => ⟨p.1, p.2⟩) (fun a h => ⟨rfl, trivial, by dsimp only [szN]; omega⟩)
theorem rep_net {W : World} {b0 : Nat} {v : Value} {d : DataW H} {ps : List MemPlace} (hval : Value.okWide Try.prog W .any b0 27 v) (hd : DataW.Trod enc Try.prog W 0 (fun _ => true) true 27 v d ps) :
    ∃ n : Nt, Rep W [] noP (.agg (ntC n)) v ∧ True ∧ szN n ≤ Rows.uptoBulk d :=
  opens_nt.agg rfl hval hd
theorem ntL_of {n : Nt} (h : szN n ≤ 1048576) : NtL n := by
  have h1 := szM_len n.fl
  unfold szN at h
  exact ⟨by omega, by omega, fun m hm => by have := szM_mem n.fl m hm; omega⟩
theorem rep_mailsB {W : World} {b0 : Nat} {v : Value} {d : DataW H} {ps : List MemPlace} (hval : Value.okWide Try.prog W .any b0 22 v) (hd : DataW.Trod enc Try.prog W 0 (fun _ => true) true 22 v d ps) :
    ∃ l : List Ml, Rep W [] noP (.lst 3 (mlG l)) v ∧ True ∧ szM l ≤ Rows.uptoBulk d :=
  opens_mlsB.sl Try.underlying22 hval hd
theorem rep_three {W : World} {b0 : Nat} {v : Value} {d : DataW H} {ps : List MemPlace} (hval : Value.okWide Try.prog W .any b0 38 v) (hd : DataW.Trod enc Try.prog W 0 (fun _ => true) true 38 v d ps) :
    ∃ x y z : Int, Rep W [] noP (.agg [vi x, vi y, vi z]) v := by
  obtain ⟨l, h1, h2, h3⟩ := (Opens.arr Try.underlying38 (k := 3) (by kernel_rfl) (by decide) (Opens.int Try.underlying3 (by kernel_rfl)) : Opens enc Try.prog W 38 3 (fun l : List Int => l.flatMap fun n => [AV.v (.int .i64 n)]) _).agg rfl hval hd
  match l, h2 with
  | [x, y, z], _ => exact ⟨x, y, z, h1⟩

end Go.Proofs.Ytnoekcdmaaakfaa.VL

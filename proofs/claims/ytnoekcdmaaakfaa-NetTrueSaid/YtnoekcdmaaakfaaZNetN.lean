/- Layer 25: a way is healed, where it is the only one. -/
import Derived.Test.YtnoekcdmaaakfaaZNetL
-- STEPWISE
-- WK
-- HWR
set_option linter.unusedVariables false
set_option linter.unusedSimpArgs false
set_option maxRecDepth 10000
namespace Go.Proofs.Ytnoekcdmaaakfaa.VL
open Go Go.RowKit Go.Lib

theorem healC_spec (a b : Int) (p1 p2 : Nat) (H : List Box) (h1 : H[p1]? = some ⟨[vi a], 0, 0, false⟩) (h2 : H[p2]? = some ⟨[vi b], 0, 0, false⟩) :
    ASpec Try.prog 42 [.agg (ctC (cutC a b)), .ptr p1 0 0, .ptr p2 0 0] H (Gives (vb true) H) := by
  have hct := fun H => cut_spec25 a b H
  have l1 : p1 < H.length := (List.getElem?_eq_some_iff.1 h1).1
  have l2 : p2 < H.length := (List.getElem?_eq_some_iff.1 h2).1
  have g1 : ∀ N : List Box, (H ++ N)[p1]? = some ⟨[vi a], 0, 0, false⟩ := fun N => by rw [List.getElem?_append_left l1]; exact h1
  have g2 : ∀ N : List Box, (H ++ N)[p2]? = some ⟨[vi b], 0, 0, false⟩ := fun N => by rw [List.getElem?_append_left l2]; exact h2
  generalize cutC a b = c at *
  obtain ⟨ca, cb⟩ := c
  refine ASpec.enter Try.func42 rfl (fun a w => Try.call42 a w) Try.ntmps42 Try.results42 fun base w β hI => ?_
  refine wk (wA g1 (wA g2 wT)) (wA hct (wA DrM.mk wT)) ?_
  refine wkEnd wT ?_
  exact Fin.cut (.v _) ⟨rfl, rfl⟩
theorem ixf1_spec (a b : Int) (bb g p1 p2 : Nat) (H : List Box) (h1 : H[p1]? = some ⟨[vi a], 0, 0, false⟩) (h2 : H[p2]? = some ⟨[vi b], 0, 0, false⟩) (hb : H[bb]? = some ⟨ctF [cutC a b], 0, g, true⟩) :
    ASpec Try.prog 54 [.sl bb g 0 1 2 false, .fn 42 [.ptr p1 0 0, .ptr p2 0 0]] H (Gives (vi 0) H) := by
  have hh := healC_spec a b p1 p2 H h1 h2
  have hcf : ctF [cutC a b] = [vi (cutC a b).a, vi (cutC a b).b] := rfl
  rw [hcf] at hb
  generalize cutC a b = c at *
  obtain ⟨ca, cb⟩ := c
  dsimp only at *
  refine ASpec.enter Try.func54 rfl (fun a w => Try.call54 a w) Try.ntmps54 Try.results54 fun base w β hI => ?_
  refine wk (wA hb wT) (wA DrM.mk wT) ?_
  refine AWP.loop (ι := Unit) (fun p => ⟨[(0, .sl bb g 0 1 2 false), (1, .fn 42 [.ptr p1 0 0, .ptr p2 0 0]), (7, vi 1), (8, vi 0)], H⟩) (fun p => 0) () ?_ ?_
  · exact Coe.kp
  · intro _
    refine wk (wA hb wT) (wA hh (wA DrM.mk wT)) ?_
    refine wkEnd wT ?_
    exact Fin.same ⟨rfl, rfl⟩
theorem delf1_spec (a b : Int) (bb g p1 p2 : Nat) (H : List Box) (h1 : H[p1]? = some ⟨[vi a], 0, 0, false⟩) (h2 : H[p2]? = some ⟨[vi b], 0, 0, false⟩) (hb : H[bb]? = some ⟨ctF [cutC a b], 0, g, true⟩) :
    ASpec Try.prog 41 [.sl bb g 0 1 2 false, .fn 42 [.ptr p1 0 0, .ptr p2 0 0]] H (fun o H' => o = .ret (.sl bb g 0 0 2 false) ∧ H' = H.set bb ⟨[vi 0, vi 0], 0, g, true⟩) := by
  have hx := ixf1_spec a b bb g p1 p2 H h1 h2 hb
  have hcf : ctF [cutC a b] = [vi (cutC a b).a, vi (cutC a b).b] := rfl
  rw [hcf] at hb
  have hbl : bb < H.length := (List.getElem?_eq_some_iff.1 hb).1
  have hs : ∀ x : Box, (H.set bb x)[bb]? = some x := fun x => List.getElem?_set_self hbl
  generalize cutC a b = c at *
  obtain ⟨ca, cb⟩ := c
  dsimp only at *
  refine ASpec.enter Try.func41 rfl (fun a w => Try.call41 a w) Try.ntmps41 Try.results41 fun base w β hI => ?_
  refine wk (wA hb wT) (wA hx (wA DrM.mk wT)) ?_
  refine AWP.loop (ι := Unit) (fun p => ⟨[(0, .sl bb g 0 1 2 false), (5, vi 0), (6, vi 1)], H⟩) (fun p => 0) () ?_ ?_
  · exact Coe.kp
  · intro _
    refine wk (wA hb (wA hs wT)) (wA DrM.mk wT) ?_
    refine wkEnd wT ?_
    exact ⟨_, _, Shed.refl _ _ _, rfl, rfl⟩

set_option maxHeartbeats 8000000 in
theorem heal1_spec (fl : List Ml) (a b : Int) (hn : NtL ⟨fl, [cutC a b]⟩) (hw : wayN ⟨fl, [cutC a b]⟩ a b true = 0) (H : List Box) : ASpec Try.prog 22 [ntV ⟨fl, [cutC a b]⟩, vi a, vi b] H (Gives (.tup [ntV ⟨fl, []⟩, vi 0]) H) := by
  have hfl := hn.fl
  have hwy := fun H => way_spec ⟨fl, [cutC a b]⟩ (by dsimp only at hfl ⊢; omega) (by simp) a b true H
  have hfr := fun H => fresh_spec ⟨fl, [cutC a b]⟩ (by omega) (by simp) hn.d H
  have hdf : ∀ (x0 x3 x4 x5 x6 : Box), ASpec Try.prog 41 [.sl (H.length + 7) 1 0 1 2 false, .fn 42 [.ptr (H.length + 1) 0 0, .ptr (H.length + 2) 0 0]] (H ++ [x0, ⟨[vi a], 0, 0, false⟩, ⟨[vi b], 0, 0, false⟩, x3, x4, x5, x6, ⟨ctF [cutC a b], 0, 1, true⟩])
      (fun o H' => o = .ret (.sl (H.length + 7) 1 0 0 2 false) ∧ H' = H ++ [x0, ⟨[vi a], 0, 0, false⟩, ⟨[vi b], 0, 0, false⟩, x3, x4, x5, x6, ⟨[vi 0, vi 0], 0, 1, true⟩]) := fun x0 x3 x4 x5 x6 => by
    have h := delf1_spec a b (H.length + 7) 1 (H.length + 1) (H.length + 2) (H ++ [x0, ⟨[vi a], 0, 0, false⟩, ⟨[vi b], 0, 0, false⟩, x3, x4, x5, x6, ⟨ctF [cutC a b], 0, 1, true⟩]) (app_at _ _ 1 rfl) (app_at _ _ 2 rfl) (app_at _ _ 7 rfl)
    rw [List.set_append_right _ _ (by omega), Nat.add_sub_cancel_left] at h
    exact h
  rw [hw] at hwy
  have hmf := mlF_length fl
  generalize cutC a b = c at *
  obtain ⟨ca, cb⟩ := c
  dsimp only at *
  have hwy' : ∀ H, ASpec Try.prog 38 [.agg [.lst 3 (mlG fl), .lst 2 [[vi ca, vi cb]]], vi a, vi b, .v (.bool true)] H (Gives (vi 0) H) := hwy
  have hfr' : ∀ H : List Box, ASpec Try.prog 27 [.agg [.lst 3 (mlG fl), .lst 2 [[vi ca, vi cb]]]] H (fun o H' => o = .ret (freshV H fl.length 1) ∧ H' = freshH H ⟨fl, [⟨ca, cb⟩]⟩) := hfr
  have k2 : H.length + 4 + 2 = H.length + 6 := rfl
  have k3 : H.length + 4 + 3 = H.length + 7 := rfl
  have hone : ([⟨ca, cb⟩] : List Ct).length = 1 := rfl
  refine ASpec.enter Try.func22 rfl (fun a w => Try.call22 a w) Try.ntmps22 Try.results22 fun base w β hI => ?_
  refine wk (wA k2 (wA k3 (wA hone wT))) (wA hwy' (wA hfr' (wA hdf (wA DrM.mk wT)))) ?_
  refine wkEnd wT ?_
  exact Fin.netG (n := ⟨fl, []⟩) (app_at _ _ 6 rfl) (app_at _ _ 7 rfl) (by dsimp only; omega) (by dsimp only; omega) (by omega) rfl rfl (by dsimp only; omega) (by simp) (chunk_mlF fl) (by rfl) (.cons_tup (.v _) .nil_tup) ⟨rfl, rfl⟩

end Go.Proofs.Ytnoekcdmaaakfaa.VL

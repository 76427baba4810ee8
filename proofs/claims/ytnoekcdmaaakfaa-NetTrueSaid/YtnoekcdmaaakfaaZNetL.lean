/- Layer 25: a way is cut where none was, and healed again. -/
import Derived.Test.YtnoekcdmaaakfaaZNetK
-- STEPWISE
-- WK
-- HWR
set_option linter.unusedVariables false
set_option linter.unusedSimpArgs false
set_option maxRecDepth 10000
namespace Go.Proofs.Ytnoekcdmaaakfaa.VL
open Go Go.RowKit Go.Lib

/-- A net of one's own is handed back, whatever its boxes are. -/
theorem Fin.netG {E : Ent} {N : List Box} {bf bc gf gc nf nc : Nat} {xf xc : Box} {n : Nt} {r : List AV} {K : AV → List Box → Prop} (hf : (E.H ++ N)[bf]? = some xf) (hc : (E.H ++ N)[bc]? = some xc) (h1 : E.H.length ≤ bf) (h2 : E.H.length ≤ bc) (hne : bf ≠ bc)
    (hgf : xf.gen = gf) (hgc : xc.gen = gc) (hff : nf * 3 ≤ xf.cells.length) (hfc : nc * 2 ≤ xc.cells.length) (hGf : chunk 3 nf xf.cells = mlG n.fl) (hGc : chunk 2 nc xc.cells = ctG n.cu)
    (hr : Lt 0 (.tup r)) (h : K (.tup (ntV n :: r)) E.H) : Fin E (.tup (.agg [.sl bf gf 0 nf 3 false, .sl bc gc 0 nc 2 false] :: r)) (E.H ++ N) K :=
  ⟨.tup (ntV n :: r), E.H, fun w β v hI hs hv => by
    obtain ⟨p1, p2⟩ := freeze_inv hI hf (show 0 + nf * 3 ≤ xf.cells.length by omega)
    have hc' : ((E.H ++ N).set bf { xf with ro := max xf.ro (0 + nf * 3) })[bc]? = some xc := by rw [List.getElem?_set_ne hne]; exact hc
    obtain ⟨q1, q2⟩ := freeze_inv p1 hc' (show 0 + nc * 2 ≤ xc.cells.length by omega)
    have hfl := (List.getElem?_eq_some_iff.1 hf).1
    have hcl := (List.getElem?_eq_some_iff.1 hc').1
    have hs' := hs.trans (p2.trans q2)
    have hv' := (hv.stp p2).stp q2
    have hv2 := rep_netM (a' := .lst 3 (mlG n.fl)) (b' := .lst 2 (ctG n.cu)) (fun x hx => by
      have := rep_view (bx := { xf with ro := max xf.ro (0 + nf * 3) }) q1 (by rw [List.getElem?_set_ne (Ne.symm hne), List.getElem?_set_self hfl]) hgf (Nat.le_max_right _ _) hx
      rwa [List.drop_zero, hGf] at this) (fun x hx => by
      have := rep_view (bx := { xc with ro := max xc.ro (0 + nc * 2) }) q1 (List.getElem?_set_self hcl) hgc (Nat.le_max_right _ _) hx
      rwa [List.drop_zero, hGc] at this) hv'
    rw [List.set_append_right _ _ h1, List.set_append_right _ _ h2] at q1 hs' hv2
    obtain ⟨c1, c2, c3⟩ := cut_inv q1 hs' (fun i bx hi j c hj => E.inv.ltCells hi hj) (Nat.le_refl _)
    exact ⟨β, c1, c2, c3 _ _ ((Lt.cons_tup (lt_nt n) hr).mono (Nat.zero_le _)) hv2⟩, h⟩

theorem ins1_spec (b g : Nat) (f : FuncId) (H : List Box) : ASpec Try.prog 55 [.sl b g 0 1 2 false, vi 0, vi 1, .fn f []] H (Gives (.tup []) H) := by
  refine ASpec.enter Try.func55 rfl (fun a w => Try.call55 a w) Try.ntmps55 Try.results55 fun base w β hI => ?_
  refine wk wT (wA DrM.mk wT) ?_
  refine AWP.loop (ι := Unit) (fun p => ⟨[(2, vi 1), (8, vi 1)], H⟩) (fun p => 0) () ?_ ?_
  · exact Coe.kp
  · intro _
    refine wk wT (wA DrM.mk wT) ?_
    refine wkEnd wT ?_
    exact Fin.same ⟨rfl, rfl⟩
theorem pdq1_spec (b g : Nat) (f : FuncId) (x : Int) (H : List Box) : ASpec Try.prog 51 [.sl b g 0 1 2 false, vi 0, vi 1, vi x, .fn f []] H (Gives (.tup []) H) := by
  have h := fun H => ins1_spec b g f H
  refine ASpec.enter Try.func51 rfl (fun a w => Try.call51 a w) Try.ntmps51 Try.results51 fun base w β hI => ?_
  refine wk wT (wA DrM.mk wT) ?_
  refine AWP.loop (ι := Unit) (fun p => ⟨[(0, .sl b g 0 1 2 false), (1, vi 0), (2, vi 1), (4, .fn f [])], H⟩) (fun p => 0) () ?_ ?_
  · exact Coe.kp
  · intro _
    refine wk wT (wA h (wA DrM.mk wT)) ?_
    refine wkEnd wT ?_
    exact Fin.same ⟨rfl, rfl⟩
theorem sort1_spec (b g : Nat) (f : FuncId) (H : List Box) {bx : Box} (hb : H[b]? = some bx) (hg : bx.gen = g) : ASpec Try.prog 39 [.sl b g 0 1 2 false, .fn f []] H (Gives (.tup []) H) := by
  have h1 := fun H => len_spec 1 (by omega) H
  have h2 := fun x H => pdq1_spec b g f x H
  generalize blen 1 = z at *
  have h3 := fun H => h2 z H
  refine ASpec.enter Try.func39 rfl (fun a w => Try.call39 a w) Try.ntmps39 Try.results39 fun base w β hI => ?_
  refine wk (wA hb (wA hg wT)) (wA h1 (wA h3 (wA DrM.mk wT))) ?_
  refine wkEnd wT ?_
  exact Fin.same ⟨rfl, rfl⟩

theorem holP5 : HolM 5 0 [(.same, []), (.same, []), (.same, []), (.same, []), (.same, []), (.same, []), (.wr 5, []), (.same, []), (.wr 0, [])] := ⟨⟩
set_option maxHeartbeats 8000000 in
theorem part1_spec (fl : List Ml) (hn : NtL ⟨fl, []⟩) (a b : Int) (hw : wayN ⟨fl, []⟩ a b false = 0) (H : List Box) : ASpec Try.prog 21 [ntV ⟨fl, []⟩, vi a, vi b] H (Gives (.tup [ntV ⟨fl, [cutC a b]⟩, vi 0]) H) := by
  have hfl := hn.fl
  have hwy := fun H => way_spec ⟨fl, []⟩ (by dsimp only at hfl ⊢; omega) (by simp) a b false H
  have hfr := fun H => fresh_spec ⟨fl, []⟩ (by omega) (by simp) hn.d H
  have hct := fun H => cut_spec25 a b H
  have hso := fun (x0 x1 x2 x3 x4 : Box) (cs : List AV) => sort1_spec (H.length + 5) 2 40 (H ++ [x0, x1, x2, x3, x4, ⟨cs, 0, 2, true⟩]) (bx := ⟨cs, 0, 2, true⟩) (app_at _ _ 5 rfl) rfl
  rw [hw] at hwy
  have hmf := mlF_length fl
  have hcf : ctF [cutC a b] = [vi (cutC a b).a, vi (cutC a b).b] := rfl
  have hc0 : ctF [] = [] := rfl
  generalize cutC a b = c at *
  obtain ⟨ca, cb⟩ := c
  dsimp only at *
  have hwy' : ∀ H, ASpec Try.prog 38 [.agg [.lst 3 (mlG fl), .lst 2 []], vi a, vi b, .v (.bool false)] H (Gives (vi 0) H) := hwy
  have hfr' : ∀ H : List Box, ASpec Try.prog 27 [.agg [.lst 3 (mlG fl), .lst 2 []]] H (fun o H' => o = .ret (freshV H fl.length 0) ∧ H' = freshH H ⟨fl, []⟩) := hfr
  have k2 : H.length + 2 + 2 = H.length + 4 := rfl
  have k3 : H.length + 2 + 3 = H.length + 5 := rfl
  refine ASpec.enter Try.func21 rfl (fun a w => Try.call21 a w) Try.ntmps21 Try.results21 fun base w β hI => ?_
  refine wk (wA k2 (wA k3 (wA hc0 wT))) (wA hwy' (wA hfr' (wA hct (wA hso (wA holP5 (wA DrM.mk wT)))))) ?_
  refine wkEnd wT ?_
  exact Fin.netG (n := ⟨fl, [⟨ca, cb⟩]⟩) (app_at _ _ 4 rfl) (app_at _ _ 5 rfl) (by dsimp only; omega) (by dsimp only; omega) (by omega) rfl rfl (by dsimp only; omega) (by simp) (chunk_mlF fl) (by rfl) (.cons_tup (.v _) .nil_tup) ⟨rfl, rfl⟩

end Go.Proofs.Ytnoekcdmaaakfaa.VL

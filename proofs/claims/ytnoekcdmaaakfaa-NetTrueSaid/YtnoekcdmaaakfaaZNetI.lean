/- Layer 25: mails are sent; one comes twice. -/
import Derived.Test.YtnoekcdmaaakfaaZNetH
-- STEPWISE
-- WK
-- HWR
set_option linter.unusedVariables false
set_option linter.unusedSimpArgs false
set_option maxRecDepth 10000
namespace Go.Proofs.Ytnoekcdmaaakfaa.VL
open Go Go.RowKit Go.Lib

theorem rep_netM {w : World} {H : List Box} {β : Pl} {v : Value} {a a' b b' : AV} {r : List AV} (ha : ∀ x, Rep w H β a x → Rep w H β a' x) (hb : ∀ x, Rep w H β b x → Rep w H β b' x) (h : Rep w H β (.tup (.agg [a, b] :: r)) v) : Rep w H β (.tup (.agg [a', b'] :: r)) v := by
  cases h with
  | tup _ vs hl h =>
    refine .tup _ _ (by simpa using hl) fun i c x hc hx => ?_
    rcases i with _ | i
    · simp at hc; subst hc
      have := h 0 _ x rfl hx
      cases this with
      | agg _ vs' hl' h' =>
        refine .agg _ _ (by simpa using hl') fun i c x hc hx => ?_
        rcases i with _ | _ | i
        · simp at hc; subst hc; exact ha x (h' 0 _ x rfl hx)
        · simp at hc; subst hc; exact hb x (h' 1 _ x rfl hx)
        · simp at hc
    · exact h (i + 1) c x (by simpa using hc) hx
/-- A net of one's own is handed back. -/
theorem Fin.net {E : Ent} {N : List Box} {bf bc gf gc nf nc : Nat} {n : Nt} {r : List AV} {K : AV → List Box → Prop} (hf : (E.H ++ N)[bf]? = some ⟨mlF n.fl, 0, gf, true⟩) (hc : (E.H ++ N)[bc]? = some ⟨ctF n.cu, 0, gc, true⟩) (h1 : E.H.length ≤ bf) (h2 : E.H.length ≤ bc) (hne : bf ≠ bc)
    (hnf : nf = n.fl.length) (hnc : nc = n.cu.length) (hr : Lt 0 (.tup r)) (h : K (.tup (ntV n :: r)) E.H) : Fin E (.tup (.agg [.sl bf gf 0 nf 3 false, .sl bc gc 0 nc 2 false] :: r)) (E.H ++ N) K :=
  ⟨.tup (ntV n :: r), E.H, fun w β v hI hs hv => by
    subst hnf; subst hnc
    obtain ⟨p1, p2⟩ := freeze_inv hI hf (show 0 + n.fl.length * 3 ≤ (mlF n.fl).length by rw [mlF_length]; omega)
    have hc' : ((E.H ++ N).set bf ⟨mlF n.fl, max 0 (0 + n.fl.length * 3), gf, true⟩)[bc]? = some ⟨ctF n.cu, 0, gc, true⟩ := by rw [List.getElem?_set_ne hne]; exact hc
    obtain ⟨q1, q2⟩ := freeze_inv p1 hc' (show 0 + n.cu.length * 2 ≤ (ctF n.cu).length by rw [ctF_length]; omega)
    have hfl := (List.getElem?_eq_some_iff.1 hf).1
    have hcl := (List.getElem?_eq_some_iff.1 hc').1
    have hs' := hs.trans (p2.trans q2)
    have hv' := (hv.stp p2).stp q2
    have hv2 := rep_netM (a' := .lst 3 (mlG n.fl)) (b' := .lst 2 (ctG n.cu)) (fun x hx => by
      have := rep_view (bx := ⟨mlF n.fl, max 0 (0 + n.fl.length * 3), gf, true⟩) q1 (by rw [List.getElem?_set_ne (Ne.symm hne), List.getElem?_set_self hfl]) rfl (Nat.le_max_right _ _) hx
      rwa [List.drop_zero, chunk_mlF] at this) (fun x hx => by
      have := rep_view (bx := ⟨ctF n.cu, max 0 (0 + n.cu.length * 2), gc, true⟩) q1 (List.getElem?_set_self hcl) rfl (Nat.le_max_right _ _) hx
      rwa [List.drop_zero, chunk_ctF] at this) hv'
    rw [List.set_append_right _ _ h1, List.set_append_right _ _ h2] at q1 hs' hv2
    obtain ⟨c1, c2, c3⟩ := cut_inv q1 hs' (fun i bx hi j c hj => E.inv.ltCells hi hj) (Nat.le_refl _)
    exact ⟨β, c1, c2, c3 _ _ ((Lt.cons_tup (lt_nt n) hr).mono (Nat.zero_le _)) hv2⟩, h⟩

theorem mlF_snoc (l : List Ml) (m : Ml) : mlF (l ++ [m]) = mlF l ++ [vi m.f, vi m.t, vB m.d] := by rw [mlF_app]; rfl
set_option maxHeartbeats 8000000 in
theorem double_spec (n : Nt) (hn : NtL n) (x : Int) (H : List Box) : ASpec Try.prog 17 [ntV n, vi x] H (Gives (.tup [ntV (dblN n x).1, vi (dblN n x).2]) H) := by
  have hcu := hn.cu
  have hfl := hn.fl
  have ht := fun H => take25_spec n hn x H
  have hfr := fun H => fresh_spec n (by omega) (by omega) hn.d H
  unfold dblN
  unfold takeNt at ht
  by_cases ha : askN n x = 0
  · rw [if_pos ha] at ht ⊢
    generalize dropN n x.toNat = dn at *
    generalize n.fl.getD x.toNat mlZ = m at *
    obtain ⟨dfl, dcu⟩ := dn
    by_cases h60 : n.fl.length = 60
    · rw [if_pos h60]
      obtain ⟨f, t, d⟩ := m
      obtain ⟨fl, cu⟩ := n
      dsimp only at *
      have h6 : (fl.length : Int) = 60 := by omega
      refine ASpec.enter Try.func17 rfl (fun a w => Try.call17 a w) Try.ntmps17 Try.results17 fun base w β hI => ?_
      refine wk (wA (eq_true h6) wT) (wA ht (wA DrM.mk wT)) ?_
      refine wkEnd wT ?_
      exact Fin.cut (.cons_tup (lt_nt ⟨fl, cu⟩) (.cons_tup (.v _) .nil_tup)) ⟨rfl, rfl⟩
    · rw [if_neg h60]
      have h6 : ¬ (n.fl.length : Int) = 60 := by omega
      have hsn := mlF_snoc n.fl m
      have hml := mlF_length n.fl
      obtain ⟨f, t, d⟩ := m
      obtain ⟨fl, cu⟩ := n
      dsimp only at *
      have k2 : H.length + 4 + 2 = H.length + 6 := rfl
      have k3 : H.length + 4 + 3 = H.length + 7 := rfl
      refine ASpec.enter Try.func17 rfl (fun a w => Try.call17 a w) Try.ntmps17 Try.results17 fun base w β hI => ?_
      refine wk (wA h6 (wA k2 (wA k3 (wA (Eq.symm hsn) wT)))) (wA ht (wA hfr (wA DrM.mk wT))) ?_
      refine wkEnd wT ?_
      exact Fin.net (n := ⟨fl ++ [⟨f, t, d⟩], cu⟩) (app_at _ _ 6 rfl) (app_at _ _ 7 rfl) (by dsimp only; omega) (by dsimp only; omega) (by omega) (by simp) rfl (.cons_tup (.v _) .nil_tup) ⟨rfl, rfl⟩
  · rw [if_neg ha] at ht ⊢
    generalize askN n x = e at *
    obtain ⟨fl, cu⟩ := n
    dsimp only at *
    refine ASpec.enter Try.func17 rfl (fun a w => Try.call17 a w) Try.ntmps17 Try.results17 fun base w β hI => ?_
    refine wk (wA ha wT) (wA ht (wA DrM.mk wT)) ?_
    refine wkEnd wT ?_
    exact Fin.cut (.cons_tup (lt_nt ⟨fl, cu⟩) (.cons_tup (.v _) .nil_tup)) ⟨rfl, rfl⟩

end Go.Proofs.Ytnoekcdmaaakfaa.VL

/- Layer 25: the document's function that lays a copy of a net. -/
import Derived.Test.YtnoekcdmaaakfaaZNetU
-- STEPWISE
-- WK
-- HWR
-- HOLE 5 0 [(.same, []), (.same, []), (.same, []), (.same, []), (.same, []), (.same, []), (.same, []), (.same, []), (.same, []), (.wr 3, []), (.same, []), (.wr 2, [])]
set_option linter.unusedVariables false
set_option linter.unusedSimpArgs false
set_option maxRecDepth 10000
namespace Go.Proofs.Ytnoekcdmaaakfaa.VL
open Go Go.RowKit Go.Lib

theorem holM_NetY_5 : HolM 5 0 [(.same, []), (.same, []), (.same, []), (.same, []), (.same, []), (.same, []), (.same, []), (.same, []), (.same, []), (.wr 3, []), (.same, []), (.wr 2, [])] := ⟨⟩

theorem rep_netA {w : World} {H : List Box} {β : Pl} {v : Value} {a a' b b' : AV} (ha : ∀ x, Rep w H β a x → Rep w H β a' x) (hb : ∀ x, Rep w H β b x → Rep w H β b' x) (h : Rep w H β (.agg [a, b]) v) : Rep w H β (.agg [a', b']) v := by
  cases h with
  | agg _ vs' hl' h' =>
    refine .agg _ _ (by simpa using hl') fun i c x hc hx => ?_
    rcases i with _ | _ | i
    · simp at hc; subst hc; exact ha x (h' 0 _ x rfl hx)
    · simp at hc; subst hc; exact hb x (h' 1 _ x rfl hx)
    · simp at hc
/-- A net of one's own is handed back, alone. -/
theorem Fin.netA {E : Ent} {N : List Box} {bf bc gf gc nf nc : Nat} {xf xc : Box} {n : Nt} {K : AV → List Box → Prop} (hf : (E.H ++ N)[bf]? = some xf) (hc : (E.H ++ N)[bc]? = some xc) (h1 : E.H.length ≤ bf) (h2 : E.H.length ≤ bc) (hne : bf ≠ bc)
    (hgf : xf.gen = gf) (hgc : xc.gen = gc) (hff : nf * 3 ≤ xf.cells.length) (hfc : nc * 2 ≤ xc.cells.length) (hGf : chunk 3 nf xf.cells = mlG n.fl) (hGc : chunk 2 nc xc.cells = ctG n.cu)
    (h : K (ntV n) E.H) : Fin E (.agg [.sl bf gf 0 nf 3 false, .sl bc gc 0 nc 2 false]) (E.H ++ N) K :=
  ⟨ntV n, E.H, fun w β v hI hs hv => by
    obtain ⟨p1, p2⟩ := freeze_inv hI hf (show 0 + nf * 3 ≤ xf.cells.length by omega)
    have hc' : ((E.H ++ N).set bf { xf with ro := max xf.ro (0 + nf * 3) })[bc]? = some xc := by rw [List.getElem?_set_ne hne]; exact hc
    obtain ⟨q1, q2⟩ := freeze_inv p1 hc' (show 0 + nc * 2 ≤ xc.cells.length by omega)
    have hfl := (List.getElem?_eq_some_iff.1 hf).1
    have hcl := (List.getElem?_eq_some_iff.1 hc').1
    have hs' := hs.trans (p2.trans q2)
    have hv' := (hv.stp p2).stp q2
    have hv2 := rep_netA (a' := .lst 3 (mlG n.fl)) (b' := .lst 2 (ctG n.cu)) (fun x hx => by
      have := rep_view (bx := { xf with ro := max xf.ro (0 + nf * 3) }) q1 (by rw [List.getElem?_set_ne (Ne.symm hne), List.getElem?_set_self hfl]) hgf (Nat.le_max_right _ _) hx
      rwa [List.drop_zero, hGf] at this) (fun x hx => by
      have := rep_view (bx := { xc with ro := max xc.ro (0 + nc * 2) }) q1 (List.getElem?_set_self hcl) hgc (Nat.le_max_right _ _) hx
      rwa [List.drop_zero, hGc] at this) hv'
    rw [List.set_append_right _ _ h1, List.set_append_right _ _ h2] at q1 hs' hv2
    obtain ⟨c1, c2, c3⟩ := cut_inv q1 hs' (fun i bx hi j c hj => E.inv.ltCells hi hj) (Nat.le_refl _)
    exact ⟨β, c1, c2, c3 _ _ ((lt_nt n).mono (Nat.zero_le _)) hv2⟩, h⟩

abbrev copyV (H : List Box) (n : Nt) : AV := .agg [.sl (H.length + 3) n.fl.length 0 n.fl.length 3 false, .sl (H.length + 4) 0 0 n.cu.length 2 false]
abbrev copyN (H : List Box) (n : Nt) : List Box := [⟨ntC n, 0, 0, false⟩, ⟨[.sl (H.length + 3) n.fl.length 0 n.fl.length 3 false, .sl (H.length + 4) 0 0 n.cu.length 2 false], 0, 0, false⟩, ⟨[.sl (H.length + 3) n.fl.length 0 n.fl.length 3 false, .sl (H.length + 4) 0 0 n.cu.length 2 false], 0, 0, false⟩, ⟨mlF n.fl, 0, n.fl.length, true⟩, ⟨ctF n.cu, 0, 0, true⟩]

set_option maxHeartbeats 8000000 in
theorem copy_gen (n : Nt) (hl : n.fl.length ≤ 1099511627776) (hc : n.cu.length ≤ 1099511627776) (hd : ∀ m ∈ n.fl, m.d.length ≤ 70368744177664) (H : List Box) (K : Out → List Box → Prop)
    (hK : ∀ E : Ent, E.H = H → Fin E (copyV H n) (H ++ copyN H n) fun r H' => K (.ret r) H') : ASpec Try.prog 12 [ntV n] H K := by
  obtain ⟨fl, cu⟩ := n
  dsimp only at *
  have hcf : flat (ctG cu) = ctF cu := rfl
  refine ASpec.enter Try.func12 rfl (fun a w => Try.call12 a w) Try.ntmps12 Try.results12 fun base w β hI => ?_
  refine wk wT (wA holM_NetY_5 (wA DrM.mk wT)) ?_
  refine AWP.coe (σ' := ⟨[(1, .ptr H.length 0 0), (2, .ptr (H.length + 1) 0 0), (3, .ptr (H.length + 2) 0 0), (4, vi 0)], H ++ [⟨ntC ⟨fl, cu⟩, 0, 0, false⟩, ⟨[.emp, .emp], 0, 0, false⟩, ⟨[.sl (H.length + 3) 0 0 0 3 false, .emp], 0, 0, false⟩, ⟨mlF (fl.take 0), 0, 0, true⟩]⟩) ?_ ?_
  · rw [show mlF (fl.take 0) = [] from rfl]
    refine Coe.trans (Coe.empCell (k := H.length + 2) (j := 0) 3 (app_at _ _ 2 rfl) rfl) ?_
    rw [List.append_assoc, List.set_append_right _ _ (by omega), List.length_append]
    simp only [Nat.add_sub_cancel_left, List.cons_append, List.nil_append, List.set_cons_succ, List.set_cons_zero, List.length_cons, List.length_nil, Nat.reduceAdd, Nat.zero_add]
    exact Coe.kp
  refine AWP.loop (ι := {i : Nat // i ≤ fl.length})
    (fun p => ⟨[(1, .ptr H.length 0 0), (2, .ptr (H.length + 1) 0 0), (3, .ptr (H.length + 2) 0 0), (4, vi p.1)], H ++ [⟨ntC ⟨fl, cu⟩, 0, 0, false⟩, ⟨[.emp, .emp], 0, 0, false⟩, ⟨[.sl (H.length + 3) p.1 0 p.1 3 false, .emp], 0, 0, false⟩, ⟨mlF (fl.take p.1), 0, p.1, true⟩]⟩) (fun p => fl.length - p.1) ⟨0, Nat.zero_le _⟩ ?_ ?_
  · dsimp only
    exact Coe.kp
  · rintro ⟨i, hi⟩
    dsimp only
    by_cases hc : (i : Int) < (fl.length : Int)
    · have hg : fl[i]? = some fl[i] := List.getElem?_eq_getElem (by omega)
      have hm := hd fl[i] (List.getElem_mem _)
      have hsn : mlF (fl.take (i + 1)) = mlF (fl.take i) ++ [vi fl[i].f, vi fl[i].t, vB fl[i].d] := by rw [List.take_succ_eq_append_getElem (by omega)]; exact mlF_snoc _ _
      have hml : (mlF (fl.take i)).length = i * 3 := by rw [mlF_length, List.length_take, Nat.min_eq_left (by omega)]
      generalize fl[i] = m at *
      have ho := fun H => refOwn_spec m hm H
      generalize mlF (fl.take i) = X at *
      generalize hY : mlF (fl.take (i + 1)) = Y at *
      obtain ⟨f, t, d⟩ := m
      dsimp only at hsn
      refine wk (wA hc (wA hg (wA hml (wA (Eq.symm hsn) wT)))) (wA ho (wA holM_NetY_5 (wA DrM.mk wT))) ?_
      refine ⟨⟨i + 1, by omega⟩, ?_, by dsimp only; omega⟩
      dsimp only
      rw [hY]
      exact Coe.kp
    · have hil : i = fl.length := by omega
      subst hil
      rw [List.take_length]
      refine wk (wA hc (wA hcf wT)) (wA holM_NetY_5 (wA DrM.mk wT)) ?_
      refine wkEnd wT ?_
      exact hK _ rfl
theorem copyF_spec (n : Nt) (hl : n.fl.length ≤ 1099511627776) (hc : n.cu.length ≤ 1099511627776) (hd : ∀ m ∈ n.fl, m.d.length ≤ 70368744177664) (H : List Box) : ASpec Try.prog 12 [ntV n] H (Gives (ntV n) H) :=
  copy_gen n hl hc hd H _ fun E hE => by
    subst hE
    exact Fin.netA (n := n) (app_at _ _ 3 rfl) (app_at _ _ 4 rfl) (by omega) (by omega) (by omega) rfl rfl (by dsimp only; rw [mlF_length]; omega) (by dsimp only; rw [ctF_length]; omega) (chunk_mlF _) (chunk_ctF _) ⟨rfl, rfl⟩
theorem copy_spec (n : Nt) (hl : n.fl.length ≤ 1099511627776) (hc : n.cu.length ≤ 1099511627776) (hd : ∀ m ∈ n.fl, m.d.length ≤ 70368744177664) (H : List Box) : ASpec Try.prog 12 [ntV n] H (fun o H' => o = .ret (copyV H n) ∧ H' = H ++ copyN H n) :=
  copy_gen n hl hc hd H _ fun E hE => ⟨_, _, Shed.refl _ _ _, rfl, rfl⟩

end Go.Proofs.Ytnoekcdmaaakfaa.VL

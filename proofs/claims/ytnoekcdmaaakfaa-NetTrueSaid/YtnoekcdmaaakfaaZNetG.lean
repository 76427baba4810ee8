/- Layer 25: a mail is taken out of a net. -/
import Derived.Test.YtnoekcdmaaakfaaZNetF
import Derived.Test.YtnoekcdmaaakfaaZNetD
import Derived.Test.YtnoekcdmaaakfaaZNetDel
-- STEPWISE
-- WK
set_option linter.unusedVariables false
set_option linter.unusedSimpArgs false
set_option maxRecDepth 10000
namespace Go.Proofs.Ytnoekcdmaaakfaa.VL
open Go Go.RowKit Go.Lib

theorem chunk_mlF : ∀ (l : List Ml), chunk 3 l.length (mlF l) = mlG l
  | [] => rfl
  | x :: l => by
    have e : mlF (x :: l) = mlC x ++ mlF l := rfl
    rw [List.length_cons, chunk, e]
    show mlC x :: chunk 3 l.length (mlF l) = _
    rw [chunk_mlF l]
    rfl
theorem chunk_ctF : ∀ (l : List Ct), chunk 2 l.length (ctF l) = ctG l
  | [] => rfl
  | x :: l => by
    have e : ctF (x :: l) = ctC x ++ ctF l := rfl
    rw [List.length_cons, chunk, e]
    show ctC x :: chunk 2 l.length (ctF l) = _
    rw [chunk_ctF l]
    rfl
theorem mlF_row {l : List Ml} {i : Nat} {m : Ml} (h : l[i]? = some m) : List.take 3 (List.drop (i * 3) (mlF l)) = [vi m.f, vi m.t, vB m.d] := by
  rw [flat_drop, drop_get' h, mlF_cons]
  rfl
/-- What a net may be, as far as sizes go. -/
structure NtL (n : Nt) : Prop where
  fl : n.fl.length ≤ 1048576
  cu : n.cu.length ≤ 1048576
  d : ∀ m ∈ n.fl, m.d.length ≤ 70368744177664
theorem holG8 : HolM 8 0 [(.same, []), (.same, [1]), (.wr 1, []), (.wr 2, []), (.same, [])] := ⟨⟩
abbrev ntV (n : Nt) : AV := .agg (ntC n)
abbrev mlV (m : Ml) : AV := .agg (mlC m)
theorem lt_nt {k : Nat} (n : Nt) : Lt k (ntV n) := .cons_agg (lt_ml _) (.cons_agg (lt_ct _) .nil_agg)
theorem lt_mlv {k : Nat} (m : Ml) : Lt k (mlV m) := .cons_agg (.v _) (.cons_agg (.v _) (.cons_agg ((lt_bytes _).mono (Nat.zero_le _)) .nil_agg))

theorem rep_mlZ {w : World} {H : List Box} {β : Pl} {v : Value} (h : Rep w H β (.agg [vi 0, vi 0, .emp]) v) : Rep w H β (mlV mlZ) v := by
  cases h with
  | agg _ vs hl h =>
    refine .agg _ _ hl fun i c x hc hx => ?_
    rcases i with _ | _ | _ | i
    · simp at hc; subst hc; exact h 0 _ x rfl hx
    · simp at hc; subst hc; exact h 1 _ x rfl hx
    · simp at hc; subst hc
      have := h 2 _ x rfl hx
      cases this with
      | emp a => exact .lst0 _ _ _
    · simp at hc
theorem rep_tupM {w : World} {H : List Box} {β : Pl} {v : Value} {a b b' c : AV} (hb : ∀ x, Rep w H β b x → Rep w H β b' x) (h : Rep w H β (.tup [a, b, c]) v) : Rep w H β (.tup [a, b', c]) v := by
  cases h with
  | tup _ vs hl h =>
    refine .tup _ _ hl fun i c x hc hx => ?_
    rcases i with _ | _ | _ | i
    · simp at hc; subst hc; exact h 0 _ x rfl hx
    · simp at hc; subst hc; exact hb x (h 1 _ x rfl hx)
    · simp at hc; subst hc; exact h 2 _ x rfl hx
    · simp at hc
/-- The zero mail is handed back. -/
theorem Fin.zml {E : Ent} {a c : AV} {N : List Box} {K : AV → List Box → Prop} (hlt : Lt 0 a) (hlc : Lt 0 c) (h : K (.tup [a, mlV mlZ, c]) E.H) : Fin E (.tup [a, .agg [vi 0, vi 0, .emp], c]) (E.H ++ N) K :=
  ⟨_, _, Shed.trans (Shed.weak fun w β v hr => rep_tupM (fun x hx => rep_mlZ hx) hr) (Shed.cut (.cons_tup hlt (.cons_tup (lt_mlv mlZ) (.cons_tup hlc .nil_tup)))), h⟩

set_option maxHeartbeats 8000000 in
theorem take25_spec (n : Nt) (hn : NtL n) (x : Int) (H : List Box) : ASpec Try.prog 29 [ntV n, vi x] H (Gives (.tup [ntV (takeNt n x).1, mlV (takeNt n x).2.1, vi (takeNt n x).2.2]) H) := by
  have hl := hn.fl
  have hcu := hn.cu
  have hr := fun H => netRight_spec n (by omega) (by omega) H
  have hfr := fun H => fresh_spec n (by omega) (by omega) hn.d H
  unfold takeNt
  cases hok : ntOk n with
  | false =>
    rw [hok] at hr
    have ha : askN n x = 1 := by unfold askN; rw [if_pos hok]
    rw [ha, if_neg (by decide)]
    clear ha hok
    obtain ⟨fl, cu⟩ := n
    refine ASpec.enter Try.func29 rfl (fun a w => Try.call29 a w) Try.ntmps29 Try.results29 fun base w β hI => ?_
    refine wk wT (wA hr (wA DrM.mk wT)) ?_
    refine wkEnd wT ?_
    exact Fin.zml (lt_nt ⟨fl, cu⟩) (.v _) ⟨rfl, rfl⟩
  | true =>
    rw [hok] at hr
    by_cases h1 : x < 0
    · have ha : askN n x = 7 := by unfold askN; rw [if_neg (by rw [hok]; simp), if_pos (.inl h1)]
      rw [ha, if_neg (by decide)]
      clear ha hok
      obtain ⟨fl, cu⟩ := n
      refine ASpec.enter Try.func29 rfl (fun a w => Try.call29 a w) Try.ntmps29 Try.results29 fun base w β hI => ?_
      refine wk (wA h1 wT) (wA hr (wA DrM.mk wT)) ?_
      refine wkEnd wT ?_
      exact Fin.zml (lt_nt ⟨fl, cu⟩) (.v _) ⟨rfl, rfl⟩
    by_cases h2 : (n.fl.length : Int) ≤ x
    · have ha : askN n x = 7 := by unfold askN; rw [if_neg (by rw [hok]; simp), if_pos (.inr h2)]
      rw [ha, if_neg (by decide)]
      clear ha hok
      obtain ⟨fl, cu⟩ := n
      refine ASpec.enter Try.func29 rfl (fun a w => Try.call29 a w) Try.ntmps29 Try.results29 fun base w β hI => ?_
      refine wk (wA h1 (wA h2 wT)) (wA hr (wA DrM.mk wT)) ?_
      refine wkEnd wT ?_
      exact Fin.zml (lt_nt ⟨fl, cu⟩) (.v _) ⟨rfl, rfl⟩
    have ha : askN n x = 0 := by unfold askN; rw [if_neg (by rw [hok]; simp), if_neg (by omega)]
    rw [ha, if_pos rfl]
    clear ha hok
    obtain ⟨i, rfl⟩ := Int.eq_ofNat_of_zero_le (show 0 ≤ x by omega)
    rw [Int.toNat_natCast]
    have hi : i < n.fl.length := by omega
    have hg : n.fl[i]? = some (n.fl.getD i mlZ) := by rw [List.getD_eq_getElem?_getD, List.getElem?_eq_getElem hi]; rfl
    have g1 := mlF_row hg
    generalize n.fl.getD i mlZ = m at *
    have hdl : ∀ x0 x1 x2 x3 x4 x6 x7 : Box, ASpec Try.prog 48 [.sl (H.length + 5) 1 0 n.fl.length 3 false, vi i, vi ((i : Int) + 1)] (H ++ [x0, x1, x2, x3, x4, ⟨mlF n.fl, 0, 1, true⟩, x6, x7])
        (fun o H' => o = .ret (.sl (H.length + 5) 1 0 (n.fl.length - 1) 3 false) ∧ H' = H ++ [x0, x1, x2, x3, x4, ⟨mlF (dropN n i).fl, 0, 1, true⟩, x6, x7]) := fun x0 x1 x2 x3 x4 x6 x7 => by
      have h := delM_spec (H.length + 5) 1 n.fl i hi (H ++ [x0, x1, x2, x3, x4, ⟨mlF n.fl, 0, 1, true⟩, x6, x7]) (app_at _ _ 5 rfl)
      rw [List.set_append_right _ _ (by omega), Nat.add_sub_cancel_left] at h
      exact h
    have hdn : (dropN n i).fl.length = n.fl.length - 1 := by unfold dropN; simp only [List.length_append, List.length_take, List.length_drop]; omega
    have hdc : (dropN n i).cu = n.cu := rfl
    generalize dropN n i = dn at *
    obtain ⟨fl, cu⟩ := n
    obtain ⟨f, t, d⟩ := m
    obtain ⟨dfl, dcu⟩ := dn
    dsimp only at *
    subst hdc
    have hml := mlF_length fl
    have h1' : ¬ (i : Int) < 0 := h1
    have k2 : H.length + 3 + 2 = H.length + 5 := rfl
    have k3 : H.length + 3 + 3 = H.length + 6 := rfl
    refine ASpec.enter Try.func29 rfl (fun a w => Try.call29 a w) Try.ntmps29 Try.results29 fun base w β hI => ?_
    refine wk (wA h1 (wA h2 (wA g1 (wA hml (wA k2 (wA k3 wT)))))) (wA hr (wA hfr (wA hdl wT))) ?_
    have hch : chunk 3 (fl.length - 1) (mlF dfl) = mlG dfl := by rw [← hdn]; exact chunk_mlF dfl
    have hmd := mlF_length dfl
    have hcd := ctF_length dcu
    refine AWP.coe (Coe.freezeCell (k := H.length + 0) (j := 0) (m := H.length + 5) (g := 1) (n := fl.length - 1) (sz := 3) (app_at _ _ 0 rfl) rfl (app_at _ _ 5 rfl) rfl (by omega) (by dsimp only; omega) hch) ?_
    rw [List.set_append_right _ _ (by omega), List.set_append_right _ _ (by omega)]
    simp only [Nat.add_sub_cancel_left, Nat.add_zero, Nat.sub_self, List.set_cons_zero, List.set_cons_succ]
    refine AWP.coe (Coe.freezeCell (k := H.length + 0) (j := 1) (m := H.length + 6) (g := 1) (n := dcu.length) (sz := 2) (app_at _ _ 0 rfl) rfl (app_at _ _ 6 rfl) rfl (by omega) (by dsimp only; omega) (chunk_ctF dcu)) ?_
    rw [List.set_append_right _ _ (by omega), List.set_append_right _ _ (by omega)]
    simp only [Nat.add_sub_cancel_left, Nat.add_zero, Nat.sub_self, List.set_cons_zero, List.set_cons_succ]
    refine wk wT (wA holG8 (wA DrM.mk wT)) ?_
    refine wkEnd wT ?_
    exact Fin.cut (.cons_tup (lt_nt ⟨dfl, dcu⟩) (.cons_tup (lt_mlv ⟨f, t, d⟩) (.cons_tup (.v _) .nil_tup))) ⟨rfl, rfl⟩

end Go.Proofs.Ytnoekcdmaaakfaa.VL

/- Layer 18: who counts, who has a name, what is offered, as the reference tells it. -/
import Derived.Test.YtnlmdeeadldgmaaGreatDoorZG38
import Derived.Test.YtnlmdeeadldgmaaGreatDoorZG25
import Derived.Test.YtnlmdeeadldgmaaGreatDoorZG28
-- STEPWISE
-- WK
set_option linter.unusedVariables false
set_option linter.unusedSimpArgs false
set_option maxRecDepth 10000
namespace Go.Proofs.YtnlmdeeadldgmaaGreatDoor.VL
open Go Go.RowKit Go.Lib

theorem filter_snoc {α : Type} {f : α → Bool} {l : List α} {j : Nat} {x : α} (h : l[j]? = some x) : (l.take (j + 1)).filter f = (l.take j).filter f ++ if f x = true then [x] else [] := by
  rw [take_snoc h, List.filter_append, List.filter_cons]
  cases hf : f x <;> simp
def cntF (a : List Int) (x : Nd) : Bool := a.contains x.n && upE x.s.a
theorem numsN_eq (s : Sc) : numsN s = (s.v.filter (cntF s.a)).map Nd.n := rfl
set_option maxHeartbeats 2000000 in
theorem counts18_spec (s : Sc) (hs : ScIn s) (H : List Box) : ASpec Tryz.prog 22 [.agg (scC s)] H (Gives (.lst 1 (inG (numsN s))) H) := by
  have hcl := hs.v
  have hal := hs.a
  have hx := hs.n
  rw [numsN_eq]
  clear hs
  obtain ⟨v, a, d⟩ := s
  dsimp only at *
  refine ASpec.enter Tryz.func22 rfl (fun a w => Tryz.call22 a w) Tryz.ntmps22 Tryz.results22 fun base w β hI => ?_
  refine wk wT (wA DrM.mk wT) ?_
  refine AWP.loop (ι := {p : Nat × Nat // p.1 ≤ v.length}) (fun p => ⟨[(1, .ptr H.length 0 0), (3, .sl (H.length + 1) p.1.2 0 (((v.take p.1.1).filter (cntF a)).map Nd.n).length 1 false), (4, vi p.1.1)], H ++ [⟨scC ⟨v, a, d⟩, 0, 0, false⟩, ⟨inC (((v.take p.1.1).filter (cntF a)).map Nd.n), 0, p.1.2, true⟩]⟩) (fun p => v.length - p.1.1) ⟨(0, 0), Nat.zero_le _⟩ ?_ ?_
  · dsimp only [List.take_zero, List.filter_nil, List.map_nil, inC, List.length_nil]
    exact Coe.emp (t := 3) (sz := 1) (N := [_]) rfl (Keeps.kp wT)
  · rintro ⟨⟨i, g⟩, hi⟩
    dsimp only at hi ⊢
    by_cases hc : (i : Int) < (v.length : Int)
    · have hg : v[i]? = some v[i] := List.getElem?_eq_getElem (by omega)
      have hxi := hx _ (List.getElem_mem (show i < v.length by omega))
      generalize v[i] = x at hg hxi
      have hsn := filter_snoc (f := cntF a) hg
      have hsn2 : inC (((v.take i).filter (cntF a)).map Nd.n) ++ [vi x.n] = inC ((((v.take i).filter (cntF a)) ++ [x]).map Nd.n) := by rw [inC_snoc]; simp
      have hlen : ((((v.take i).filter (cntF a)) ++ [x]).map Nd.n).length = (((v.take i).filter (cntF a)).map Nd.n).length + 1 := by simp
      have hle : (((v.take i).filter (cntF a)).map Nd.n).length ≤ 1048576 := by
        rw [List.length_map]
        refine Nat.le_trans (List.length_filter_le _ _) ?_
        rw [List.length_take]; omega
      have hil := inC_length (((v.take i).filter (cntF a)).map Nd.n)
      have hha := fun H => has14_spec a x.n (by omega) H
      have hup := fun H => up15_spec x.s.a (by have := hxi.a; omega) H
      unfold cntF at hsn
      try dsimp only at hsn
      obtain ⟨n, ⟨xg, b, ap⟩⟩ := x
      dsimp only at hsn hsn2 hha hup
      generalize hq : a.contains n = q at *
      generalize upE ap = u at *
      clear hxi
      cases q with
      | false =>
        rw [Bool.false_and, if_neg (by simp), List.append_nil] at hsn
        clear hsn2 hlen
        refine wk (wA hc (wA hg wT)) (wA hha (wA DrM.mk wT)) ?_
        refine ⟨⟨(i + 1, g), by dsimp only; omega⟩, ?_, by dsimp only; omega⟩
        dsimp only
        rw [show (v.take (i + 1)).filter (cntF a) = (v.take i).filter (cntF a) from hsn]
        exact Coe.kp
      | true =>
        cases u with
        | false =>
          rw [Bool.and_false, if_neg (by simp), List.append_nil] at hsn
          clear hsn2 hlen
          refine wk (wA hc (wA hg wT)) (wA hha (wA hup (wA DrM.mk wT))) ?_
          refine ⟨⟨(i + 1, g), by dsimp only; omega⟩, ?_, by dsimp only; omega⟩
          dsimp only
          rw [show (v.take (i + 1)).filter (cntF a) = (v.take i).filter (cntF a) from hsn]
          exact Coe.kp
        | true =>
          rw [Bool.and_self, if_pos rfl] at hsn
          refine wk (wA hc (wA hg (wA hsn2 (wA hil wT)))) (wA hha (wA hup (wA DrM.mk wT))) ?_
          refine ⟨⟨(i + 1, g + 1), by dsimp only; omega⟩, ?_, by dsimp only; omega⟩
          dsimp only
          rw [show (v.take (i + 1)).filter (cntF a) = (v.take i).filter (cntF a) ++ [⟨n, ⟨xg, b, ap⟩⟩] from hsn, hlen]
          exact Coe.kp
    · have hil : i = v.length := by omega
      subst hil
      rw [List.take_length]
      refine wk (wA hc wT) (wA DrM.mk wT) ?_
      refine wkEnd wT ?_
      exact Fin.frozG (G := inG ((v.filter (cntF a)).map Nd.n)) (b := H.length + 1) (zbox _ _ 1 rfl) (Nat.le_add_right _ _) rfl (by dsimp only; rw [inC_length]; omega) (chunk_inC _ _ rfl) (fun w H β v hx hr => hx v hr) (lt_in _) ⟨rfl, rfl⟩

end Go.Proofs.YtnlmdeeadldgmaaGreatDoor.VL

/- Layer 15: a value's service, as the reference reads it. -/
-- STEPWISE
-- WK
-- HOLE 14 0 [(.same, []), (.same, []), (.same, [1]), (.same, [1]), (.same, [1]), (.same, [1]), (.same, [1]), (.same, [1]), (.same, [1]), (.same, []), (.wr 1, []), (.same, []), (.wr 1, []), (.same, []), (.wr 1, []), (.same, []), (.wr 1, [])]
set_option linter.unusedVariables false
set_option linter.unusedSimpArgs false
set_option maxRecDepth 10000
namespace Go.Proofs.YtnlmdeeadldgmaaGreatDoor.VL
open Go Go.RowKit Go.Lib

theorem holM_SvcF_14 : HolM 14 0 [(.same, []), (.same, []), (.same, [1]), (.same, [1]), (.same, [1]), (.same, [1]), (.same, [1]), (.same, [1]), (.same, [1]), (.same, []), (.wr 1, []), (.same, []), (.wr 1, []), (.same, []), (.wr 1, []), (.same, []), (.wr 1, [])] := ⟨⟩

set_option maxHeartbeats 8000000 in
theorem svRefDecode_spec (v : List UInt8) (hv : v.length ≤ 1099511627776) (H : List Box) : ASpec Tryz.prog 87 [vs v] H (Gives (svV (decS v)) H) := by
  have t1 := fun H => refTakeText_spec' v 20 hv H
  have f1 := tt_facts v 20
  unfold decS
  generalize tt v 20 = x1 at *
  obtain ⟨n, r1, e1⟩ := x1
  dsimp only at f1 ⊢
  by_cases h1 : e1 = 0
  · subst h1
    rw [if_neg (by simp)]
    have t2 := fun H => refTakeText_spec' r1 20 (by omega) H
    have er1 : rs r1 0 = r1 := rfl
    rw [er1] at t1
    have f2 := tt_facts r1 20
    generalize tt r1 20 = x2 at *
    obtain ⟨p, r2, e2⟩ := x2
    dsimp only at f2 ⊢
    have e0 : tk4 r2 e2 0 = ([0, 0, 0, 0], r2, e2) := rfl
    refine ASpec.enter Tryz.func87 rfl (fun a w => Tryz.call87 a w) Tryz.ntmps87 Tryz.results87 fun base w β hI => ?_
    refine wk wT (wA t1 (wA t2 (wA holM_SvcF_14 (wA DrM.mk wT)))) ?_
    refine AWP.loop (ι := {i : Nat // i ≤ 4})
      (fun i => ⟨[(2, .ptr H.length 0 0), (4, .ptr (H.length + 1) 0 0), (5, .ptr (H.length + 2) 0 0), (6, vB (rs (tk4 r2 e2 i.1).2.1 (tk4 r2 e2 i.1).2.2)), (7, vi (tk4 r2 e2 i.1).2.2), (8, vi i.1)], H ++ [⟨svC svZ, 0, 0, false⟩, ⟨svC ⟨n, p, 0, 0, 0, false⟩, 0, 0, false⟩, ⟨intsC (tk4 r2 e2 i.1).1, 0, 0, false⟩]⟩) (fun i => 4 - i.1) ⟨0, by decide⟩ ?_ ?_
    · dsimp only
      rw [e0]
      exact Coe.kp
    · rintro ⟨i, hi⟩
      dsimp only
      have hlen := tk4_len r2 e2 i
      have hrest := tk4_rest r2 e2 i
      have hs : tk4 r2 e2 (i + 1) = if (tk4 r2 e2 i).2.2 = 0 then ((tk4 r2 e2 i).1.set i ((tk (tk4 r2 e2 i).2.1).1 : Int), (tk (tk4 r2 e2 i).2.1).2.1, (tk (tk4 r2 e2 i).2.1).2.2) else tk4 r2 e2 i := rfl
      have h4 : (tk4 r2 e2 i).2.2 ≠ 0 → tk4 r2 e2 4 = tk4 r2 e2 i := fun he => by
        have := tk4_err r2 e2 he (4 - i)
        rwa [show i + (4 - i) = 4 by omega] at this
      by_cases he : (tk4 r2 e2 i).2.2 = 0
      · clear h4
        by_cases hc : (i : Int) < 4
        · generalize tk4 r2 e2 i = S at *
          obtain ⟨L, r, e⟩ := S
          dsimp only at hlen hrest hs he ⊢
          subst he
          have t3 := fun H => refTake_spec' r (by omega) H
          rw [if_pos rfl] at hs
          generalize tk r = y at *
          obtain ⟨k, r', e'⟩ := y
          dsimp only at hs
          have er : rs r 0 = r := rfl
          rw [er]
          refine wk (wA hc (wA hlen wT)) (wA t3 (wA holM_SvcF_14 (wA DrM.mk wT))) ?_
          refine ⟨⟨i + 1, by omega⟩, ?_, by dsimp only; omega⟩
          dsimp only
          rw [hs]
          exact Coe.kp
        · obtain rfl : i = 4 := by omega
          clear hs
          generalize tk4 r2 e2 4 = S at *
          obtain ⟨L, r, e⟩ := S
          dsimp only at hlen hrest he ⊢
          subst he
          obtain ⟨a, b, c, d, rfl⟩ := list4 hlen
          have em : mkSv n p [a, b, c, d] = ⟨n, p, a, b, c, decide (d = 1)⟩ := rfl
          have ei : intsC [a, b, c, d] = [vi a, vi b, vi c, vi d] := rfl
          have ed : [a, b, c, d].getD 3 0 = d := rfl
          have er : rs r 0 = r := rfl
          rw [em, ei, ed, er]
          rw [if_neg (by simp)]
          by_cases hr : (0 : Int) < (r.length : Int)
          · rw [if_pos (.inl (by omega))]
            refine wk (wA hr wT) (wA holM_SvcF_14 (wA DrM.mk wT)) ?_
            refine wkEnd wT ?_
            exact Fin.cut (ltS6 _ _ _ _ _ _ _) ⟨rfl, rfl⟩
          · by_cases hd : (1 : Int) < d
            · rw [if_pos (.inr (.inl hd))]
              refine wk (wA hr (wA hd wT)) (wA holM_SvcF_14 (wA DrM.mk wT)) ?_
              refine wkEnd wT ?_
              exact Fin.cut (ltS6 _ _ _ _ _ _ _) ⟨rfl, rfl⟩
            · have h7 := fun H => svRefRight_spec ⟨n, p, a, b, c, decide (d = 1)⟩ (by dsimp only; omega) (by dsimp only; omega) H
              cases ho : svOk ⟨n, p, a, b, c, decide (d = 1)⟩ with
              | false =>
                rw [ho] at h7
                rw [if_pos (.inr (.inr rfl))]
                refine wk (wA hr (wA hd wT)) (wA h7 (wA holM_SvcF_14 (wA DrM.mk wT))) ?_
                refine wkEnd wT ?_
                exact Fin.cut (ltS6 _ _ _ _ _ _ _) ⟨rfl, rfl⟩
              | true =>
                rw [ho] at h7
                rw [if_neg (by intro h; rcases h with h | h | h <;> first | omega | cases h)]
                refine wk (wA hr (wA hd wT)) (wA h7 (wA holM_SvcF_14 (wA DrM.mk wT))) ?_
                refine wkEnd wT ?_
                exact Fin.cut (ltS6 _ _ _ _ _ _ _) ⟨rfl, rfl⟩
      · rw [h4 he]
        clear h4 hs
        generalize tk4 r2 e2 i = S at *
        obtain ⟨L, r, e⟩ := S
        dsimp only at he ⊢
        rw [if_pos he]
        by_cases hc : (i : Int) < 4
        · refine wk (wA hc (wA he wT)) (wA holM_SvcF_14 (wA DrM.mk wT)) ?_
          refine wkEnd wT ?_
          exact Fin.cut (ltS6 _ _ _ _ _ _ _) ⟨rfl, rfl⟩
        · refine wk (wA hc (wA he wT)) (wA holM_SvcF_14 (wA DrM.mk wT)) ?_
          refine wkEnd wT ?_
          exact Fin.cut (ltS6 _ _ _ _ _ _ _) ⟨rfl, rfl⟩
  · rw [if_pos h1]
    refine ASpec.enter Tryz.func87 rfl (fun a w => Tryz.call87 a w) Tryz.ntmps87 Tryz.results87 fun base w β hI => ?_
    refine wk (wA h1 wT) (wA t1 (wA holM_SvcF_14 (wA DrM.mk wT))) ?_
    refine AWP.loop (ι := Unit) (fun _ => ⟨[(2, .ptr H.length 0 0), (7, vi e1), (8, vi 0)], H ++ [⟨svC svZ, 0, 0, false⟩, ⟨svC ⟨n, [], 0, 0, 0, false⟩, 0, 0, false⟩, ⟨intsC [0, 0, 0, 0], 0, 0, false⟩]⟩) (fun _ => 0) () ?_ ?_
    · exact Coe.kp
    · intro _
      refine wk (wA h1 wT) (wA holM_SvcF_14 (wA DrM.mk wT)) ?_
      refine wkEnd wT ?_
      exact Fin.cut (ltS6 _ _ _ _ _ _ _) ⟨rfl, rfl⟩

end Go.Proofs.YtnlmdeeadldgmaaGreatDoor.VL

/- Layers 15, 18: all services, who has a name, as the reference tells it. -/
-- STEPWISE
-- WK
set_option linter.unusedVariables false
set_option linter.unusedSimpArgs false
set_option maxRecDepth 10000
namespace Go.Proofs.YtnlmdeeadldgmaaGreatDoor.VL
open Go Go.RowKit Go.Lib

theorem allS_hit {l : List En} {k : Nat} {x : En} (h : l[k]? = some x) (hx : 3 ≤ x.k ∧ (decS x.s).2 = 0) : allS (l.take (k + 1)) = allS (l.take k) ++ [(decS x.s).1] := by
  unfold allS
  rw [prs_hit h hx, List.map_append]
  rfl
theorem allS_miss {l : List En} {k : Nat} {x : En} (h : l[k]? = some x) (hx : ¬ (3 ≤ x.k ∧ (decS x.s).2 = 0)) : allS (l.take (k + 1)) = allS (l.take k) := by
  unfold allS
  rw [prs_miss h hx]
theorem allS_le (l : List En) : (allS l).length ≤ l.length := by
  unfold allS
  rw [List.length_map]
  exact prs_len l
theorem svF_snoc (l : List Sv) (x : Sv) : svF l ++ svC x = svF (l ++ [x]) := by rw [svF_app]; simp [svF, flat]
set_option maxHeartbeats 2000000 in
theorem all15_spec (l : List En) (hl : l.length ≤ 1048576) (hs : ∀ x ∈ l, x.s.length ≤ 1099511627776) (H : List Box) : ASpec Tryz.prog 47 [.lst 3 (enG l)] H (Gives (.lst 6 (svG (allS l))) H) := by
  refine ASpec.enter Tryz.func47 rfl (fun a w => Tryz.call47 a w) Tryz.ntmps47 Tryz.results47 fun base w β hI => ?_
  refine wk wT (wA DrM.mk wT) ?_
  refine AWP.loop (ι := {p : Nat × Nat // p.1 ≤ l.length}) (fun p => ⟨[(0, .lst 3 (enG l)), (3, .sl H.length p.1.2 0 (allS (l.take p.1.1)).length 6 false), (4, vi p.1.1)], H ++ [⟨svF (allS (l.take p.1.1)), 0, p.1.2, true⟩]⟩) (fun p => l.length - p.1.1) ⟨(0, 0), Nat.zero_le _⟩ ?_ ?_
  · have e0 : allS (l.take 0) = [] := rfl
    dsimp only
    rw [e0]
    exact Coe.emp0 (t := 3) (sz := 6) rfl (Keeps.kp wT)
  · rintro ⟨⟨i, g⟩, hi⟩
    dsimp only at hi ⊢
    by_cases hc : (i : Int) < (l.length : Int)
    · have hg : l[i]? = some l[i] := List.getElem?_eq_getElem (by omega)
      have hxs := hs _ (List.getElem_mem (show i < l.length by omega))
      generalize l[i] = x at hg hxs
      have hdc := fun H => svRefDecode_spec x.s hxs H
      have h1 := fun hx => allS_hit hg hx
      have h2 := fun hx => allS_miss hg hx
      have hle := allS_le (l.take i)
      rw [List.length_take] at hle
      have hsl := svF_length (allS (l.take i))
      obtain ⟨k, v, s⟩ := x
      dsimp only at h1 h2 hdc
      generalize hD : decS s = D at *
      obtain ⟨⟨xn, xp, xo, xi, xw, xl⟩, e⟩ := D
      dsimp only [svV] at h1 h2 hdc
      have hsn := svF_snoc (allS (l.take i)) ⟨xn, xp, xo, xi, xw, xl⟩
      have hlt : ∀ c ∈ svF (allS (l.take (i + 1))), Lt (H.length + 1) c := fun c h => lt_svF h
      by_cases hk : (3 : Int) ≤ k
      · by_cases he : e = 0
        · have h1 := h1 ⟨hk, he⟩
          clear h2
          rw [← h1] at hsn
          have hll : (allS (l.take (i + 1))).length = (allS (l.take i)).length + 1 := by rw [h1]; simp
          clear h1
          generalize allS (l.take i) = A at *
          generalize hB : allS (l.take (i + 1)) = B at *
          subst he
          refine wk (wA hc (wA hg (wA hk (wA hsn (wA hsl wT))))) (wA hdc (wA DrM.mk wT)) ?_
          refine ⟨⟨(i + 1, g + 1), by dsimp only; omega⟩, ?_, by dsimp only; omega⟩
          dsimp only
          rw [hB, hll]
          exact Coe.cutN (M := [_]) (Keeps.kp wT) (fun p hp => by simp only [List.mem_cons, List.not_mem_nil, or_false] at hp; rcases hp with rfl | rfl | rfl <;> first | exact .v _ | exact lt_en _ | exact .sl _ _ _ _ _ _ (by simp)) (fun bx hbx c hc => by rw [List.mem_singleton] at hbx; subst hbx; exact hlt c hc)
        · have h2 := h2 (fun h => he h.2)
          clear h1 hsn
          rw [h2] at hlt
          generalize allS (l.take i) = A at *
          refine wk (wA hc (wA hg (wA hk (wA he wT)))) (wA hdc (wA DrM.mk wT)) ?_
          refine ⟨⟨(i + 1, g), by dsimp only; omega⟩, ?_, by dsimp only; omega⟩
          dsimp only
          rw [h2]
          exact Coe.cutN (M := [_]) (Keeps.kp wT) (fun p hp => by simp only [List.mem_cons, List.not_mem_nil, or_false] at hp; rcases hp with rfl | rfl | rfl <;> first | exact .v _ | exact lt_en _ | exact .sl _ _ _ _ _ _ (by simp)) (fun bx hbx c hc => by rw [List.mem_singleton] at hbx; subst hbx; exact hlt c hc)
      · have h2 := h2 (fun h => hk h.1)
        clear h1 hsn
        rw [h2] at hlt
        generalize allS (l.take i) = A at *
        refine wk (wA hc (wA hg (wA hk wT))) (wA hdc (wA DrM.mk wT)) ?_
        refine ⟨⟨(i + 1, g), by dsimp only; omega⟩, ?_, by dsimp only; omega⟩
        dsimp only
        rw [h2]
        exact Coe.cutN (M := [_]) (Keeps.kp wT) (fun p hp => by simp only [List.mem_cons, List.not_mem_nil, or_false] at hp; rcases hp with rfl | rfl | rfl <;> first | exact .v _ | exact lt_en _ | exact .sl _ _ _ _ _ _ (by simp)) (fun bx hbx c hc => by rw [List.mem_singleton] at hbx; subst hbx; exact hlt c hc)
    · have hil : i = l.length := by omega
      subst hil
      rw [List.take_length]
      refine wk (wA hc wT) (wA DrM.mk wT) ?_
      refine wkEnd wT ?_
      exact Fin.frozG (G := svG (allS l)) (b := H.length) (zbox _ _ 0 rfl) (Nat.le_refl _) rfl (by dsimp only; rw [svF_length]; exact Nat.le_refl _) (chunk_svF _) (fun w H β v hx hr => hx v hr) (lt_sv _) ⟨rfl, rfl⟩

end Go.Proofs.YtnlmdeeadldgmaaGreatDoor.VL

/- Layer 18: who has a name, what is offered, which names there are, as the reference tells it. -/
-- STEPWISE
-- WK
set_option linter.unusedVariables false
set_option linter.unusedSimpArgs false
set_option maxRecDepth 10000
namespace Go.Proofs.YtnlmdeeadldgmaaGreatDoor.VL
open Go Go.RowKit Go.Lib

def hostsI (d name : List UInt8) (n : Int) : Bool := (hostN d n).2 && sameN (hostN d n).1 name
def nodeI (o : Option Int) : Int := match o with
  | some n => n
  | none => -1
theorem refHost_nums (s : Sc) (name : List UInt8) : refHost s name = nodeI ((numsN s).find? (hostsI s.d name)) := by
  unfold refHost numsN
  rw [List.find?_map]
  show _ = nodeI (((cntL s).find? fun x => hosts s.d x name).map Nd.n)
  cases (cntL s).find? (fun x => hosts s.d x name) <;> rfl
theorem hostN_len (d : List UInt8) (n : Int) : (hostN d n).1.length ≤ 255 := by
  unfold hostN
  split
  · exact winN_len _ _
  · simp
set_option maxHeartbeats 2000000 in
theorem node18_spec (s : Sc) (name : List UInt8) (hs : ScIn s) (hn : name.length ≤ 1048576) (H : List Box) : ASpec Tryz.prog 65 [.agg (scC s), vs name] H (Gives (vi (refHost s name)) H) := by
  have hd := hs.d
  have hco := fun H => counts18_spec s hs H
  have hll : (numsN s).length ≤ 1048576 := by
    unfold numsN
    rw [List.length_map]
    refine Nat.le_trans (List.length_filter_le _ _) hs.v
  rw [refHost_nums]
  have hho := fun n H => host18_spec s n hd H
  generalize numsN s = L at *
  have h0 : L.find? (hostsI s.d name) = (L.drop 0).find? (hostsI s.d name) := rfl
  generalize hR : L.find? (hostsI s.d name) = R at *
  clear hR hs
  obtain ⟨v, a, d⟩ := s
  dsimp only at *
  refine ASpec.enter Tryz.func65 rfl (fun a w => Tryz.call65 a w) Tryz.ntmps65 Tryz.results65 fun base w β hI => ?_
  refine wk wT (wA hco (wA DrM.mk wT)) ?_
  refine AWP.loop (ι := {i : Nat // i ≤ L.length ∧ R = (L.drop i).find? (hostsI d name)})
    (fun p => ⟨[(1, vs name), (2, .ptr H.length 0 0), (5, .lst 1 (inG L)), (6, vi p.1)], H ++ [⟨scC ⟨v, a, d⟩, 0, 0, false⟩]⟩) (fun p => L.length - p.1) ⟨0, Nat.zero_le _, h0⟩ ?_ ?_
  · dsimp only
    exact Coe.kp
  · rintro ⟨i, hi, he⟩
    dsimp only
    clear h0 hco
    by_cases hc : (i : Int) < (L.length : Int)
    · have hg : L[i]? = some L[i] := List.getElem?_eq_getElem (by omega)
      generalize L[i] = n at hg
      rw [find_drop hg] at he
      have hhn := hho n
      have hle := hostN_len d n
      unfold hostsI at he
      have hsm := fun H => refSame16_spec (hostN d n).1 name (by omega) (by omega) H
      generalize hostN d n = h at *
      obtain ⟨h, ok⟩ := h
      dsimp only at *
      generalize hq : sameN h name = q at *
      clear hho
      cases ok with
      | false =>
        rw [Bool.false_and, if_neg (by simp)] at he
        refine wk (wA hc (wA hg wT)) (wA hhn (wA DrM.mk wT)) ?_
        refine ⟨⟨i + 1, by omega, he⟩, ?_, by dsimp only; omega⟩
        dsimp only
        exact Coe.kp
      | true =>
        cases q with
        | false =>
          rw [Bool.and_false, if_neg (by simp)] at he
          refine wk (wA hc (wA hg wT)) (wA hhn (wA hsm (wA DrM.mk wT))) ?_
          refine ⟨⟨i + 1, by omega, he⟩, ?_, by dsimp only; omega⟩
          dsimp only
          exact Coe.kp
        | true =>
          rw [Bool.and_self, if_pos rfl] at he
          rw [he]
          refine wk (wA hc (wA hg wT)) (wA hhn (wA hsm (wA DrM.mk wT))) ?_
          refine wkEnd wT ?_
          exact Fin.cut (.v _) ⟨rfl, rfl⟩
    · rw [List.drop_of_length_le (by omega), List.find?_nil] at he
      rw [he]
      refine wk (wA hc wT) (wA DrM.mk wT) ?_
      refine wkEnd wT ?_
      exact Fin.cut (.v _) ⟨rfl, rfl⟩

end Go.Proofs.YtnlmdeeadldgmaaGreatDoor.VL

/- Layer 18: what is offered, as the reference tells it. -/
-- STEPWISE
-- WK
set_option linter.unusedVariables false
set_option linter.unusedSimpArgs false
set_option maxRecDepth 10000
namespace Go.Proofs.YtnlmdeeadldgmaaGreatDoor.VL
open Go Go.RowKit Go.Lib

theorem apps_in {s : Sc} (hs : ScIn s) (n : Int) : (appsN s n).length ≤ 1048576 ∧ ∀ e ∈ appsN s n, e.s.length ≤ 1099511627776 := by
  unfold appsN
  cases h : getN s.v n with
  | none => simp
  | some x =>
    have hx := hs.n x (List.mem_of_find?_eq_some h)
    exact ⟨hx.a, hx.s⟩
set_option maxHeartbeats 4000000 in
theorem offered_spec (s : Sc) (n : Int) (name : List UInt8) (hs : ScIn s) (hn : name.length ≤ 1048576) (H : List Box) : ASpec Tryz.prog 66 [.agg (scC s), vi n, vs name] H (Gives (.lst 6 (svG (refOff s n name))) H) := by
  have hd := hs.d
  have hai := apps_in hs n
  have hge := fun H => get6_spec s.v n hs.v hs.n H
  have hal := fun H => all15_spec (appsN s n) hai.1 hai.2 H
  have hah := fun ls h0 hl hs H => ahead_spec s ls hd h0 hl hs H
  have hme : ∀ v ∈ allS (appsN s n), v.n.length ≤ 20 ∧ v.p.length ≤ 20 := fun v hv => allS_len hv
  have hle := allS_le (appsN s n)
  unfold refOff
  rw [← stN_apps] at *
  generalize allS (stNd s.v n).a = L at *
  generalize (getN s.v n).isSome = ok at *
  generalize stNd s.v n = st at *
  obtain ⟨sg, sb, sa⟩ := st
  have hll : L.length ≤ 1048576 := by dsimp only at hai hle; omega
  clear hai hle hs
  obtain ⟨v, a, d⟩ := s
  dsimp only at *
  refine ASpec.enter Tryz.func66 rfl (fun a w => Tryz.call66 a w) Tryz.ntmps66 Tryz.results66 fun base w β hI => ?_
  refine wk wT (wA hge (wA hal (wA DrM.mk wT))) ?_
  refine AWP.loop (ι := {p : Nat × Nat // p.1 ≤ L.length}) (fun p => ⟨[(2, vs name), (3, .ptr H.length 0 0), (7, .sl (H.length + 2) p.1.2 0 ((L.take p.1.1).filter (offF d name)).length 6 false), (10, .lst 6 (svG L)), (11, vi p.1.1)], H ++ [⟨scC ⟨v, a, d⟩, 0, 0, false⟩, ⟨stC ⟨sg, sb, sa⟩, 0, 0, false⟩, ⟨svF ((L.take p.1.1).filter (offF d name)), 0, p.1.2, true⟩]⟩) (fun p => L.length - p.1.1) ⟨(0, 0), Nat.zero_le _⟩ ?_ ?_
  · dsimp only [List.take_zero, List.filter_nil, List.length_nil]
    exact Coe.emp (t := 7) (sz := 6) (N := [_, _]) rfl (Keeps.kp wT)
  · rintro ⟨⟨i, g⟩, hi⟩
    dsimp only at hi ⊢
    by_cases hc : (i : Int) < (L.length : Int)
    · have hg : L[i]? = some L[i] := List.getElem?_eq_getElem (by omega)
      have hx := hme _ (List.getElem_mem (show i < L.length by omega))
      generalize L[i] = x at hg hx
      have hsn := filter_snoc (f := offF d name) hg
      have hsn2 := svF_snoc ((L.take i).filter (offF d name)) x
      have hlen : (((L.take i).filter (offF d name)) ++ [x]).length = ((L.take i).filter (offF d name)).length + 1 := by simp
      have hle2 : ((L.take i).filter (offF d name)).length ≤ 1048576 := by
        refine Nat.le_trans (List.length_filter_le _ _) ?_
        rw [List.length_take]; omega
      have hsl := svF_length ((L.take i).filter (offF d name))
      have hw : ∀ H, ASpec Tryz.prog 54 [.agg (scC ⟨v, a, d⟩), .lst 1 [[vs (95 :: x.n)], [vs (95 :: x.p)]]] H (Gives (.tup [vs (winN d [95 :: x.n, 95 :: x.p]).1, vb (winN d [95 :: x.n, 95 :: x.p]).2]) H) := fun H => hah [95 :: x.n, 95 :: x.p] (by simp) (by simp) (by simp [lenS]; omega) H
      have hwl := winN_len d [95 :: x.n, 95 :: x.p]
      have hsm := fun H => refSame16_spec (winN d [95 :: x.n, 95 :: x.p]).1 name (by omega) (by omega) H
      rw [offF.eq_1 d name x] at hsn
      generalize (L.take i).filter (offF d name) = A at *
      generalize hA' : (L.take (i + 1)).filter (offF d name) = A' at *
      generalize winN d [95 :: x.n, 95 :: x.p] = W at *
      obtain ⟨W, wok⟩ := W
      obtain ⟨xn, xp, xo, xi, xw, xl⟩ := x
      dsimp only at *
      have e1 : ([95] : List UInt8) ++ xn = 95 :: xn := rfl
      have e2 : ([95] : List UInt8) ++ xp = 95 :: xp := rfl
      generalize (95 : UInt8) :: xn = y1 at *
      generalize (95 : UInt8) :: xp = y2 at *
      generalize sameN W name = q at *
      clear hah hge hal hme
      cases wok with
      | false =>
        rw [Bool.false_and, if_neg (by simp), List.append_nil] at hsn
        clear hsn2 hlen
        refine wk (wA hc (wA hg (wA strApp (wA e1 (wA e2 wT))))) (wA hw (wA DrM.mk wT)) ?_
        refine ⟨⟨(i + 1, g), by dsimp only; omega⟩, ?_, by dsimp only; omega⟩
        dsimp only
        rw [hA', hsn]
        exact Coe.kp
      | true =>
        cases xl with
        | false =>
          rw [Bool.false_and, Bool.and_false, if_neg (by simp), List.append_nil] at hsn
          clear hsn2 hlen
          refine wk (wA hc (wA hg (wA strApp (wA e1 (wA e2 wT))))) (wA hw (wA DrM.mk wT)) ?_
          refine ⟨⟨(i + 1, g), by dsimp only; omega⟩, ?_, by dsimp only; omega⟩
          dsimp only
          rw [hA', hsn]
          exact Coe.kp
        | true =>
          cases q with
          | false =>
            rw [Bool.and_false, Bool.and_false, if_neg (by simp), List.append_nil] at hsn
            clear hsn2 hlen
            refine wk (wA hc (wA hg (wA strApp (wA e1 (wA e2 wT))))) (wA hw (wA hsm (wA DrM.mk wT))) ?_
            refine ⟨⟨(i + 1, g), by dsimp only; omega⟩, ?_, by dsimp only; omega⟩
            dsimp only
            rw [hA', hsn]
            exact Coe.kp
          | true =>
            rw [Bool.and_self, Bool.and_self, if_pos rfl] at hsn
            rw [← hsn] at hsn2 hlen
            refine wk (wA hc (wA hg (wA strApp (wA e1 (wA e2 (wA hsn2 (wA hsl wT))))))) (wA hw (wA hsm (wA DrM.mk wT))) ?_
            refine ⟨⟨(i + 1, g + 1), by dsimp only; omega⟩, ?_, by dsimp only; omega⟩
            dsimp only
            rw [hA', hlen]
            exact Coe.kp
    · have hil : i = L.length := by omega
      subst hil
      rw [List.take_length]
      refine wk (wA hc wT) (wA DrM.mk wT) ?_
      refine wkEnd wT ?_
      exact Fin.frozG (G := svG (L.filter (offF d name))) (b := H.length + 2) (zbox _ _ 2 rfl) (Nat.le_add_right _ _) rfl (by dsimp only; rw [svF_length]; exact Nat.le_refl _) (chunk_svF _) (fun w H β v hx hr => hx v hr) (lt_sv _) ⟨rfl, rfl⟩

end Go.Proofs.YtnlmdeeadldgmaaGreatDoor.VL

/- Layer 18: which names there are, as the reference tells it. -/
-- STEPWISE
-- WK
set_option linter.unusedVariables false
set_option linter.unusedSimpArgs false
set_option maxRecDepth 10000
namespace Go.Proofs.YtnlmdeeadldgmaaGreatDoor.VL
open Go Go.RowKit Go.Lib

theorem refExists_nums (s : Sc) (name : List UInt8) : refExists s name = if sameN name s.d = true ∨ 0 ≤ refHost s name then true else (numsN s).any fun n => !(refOff s n name).isEmpty := by
  unfold refExists numsN
  rw [List.any_map]
  rfl
set_option maxHeartbeats 4000000 in
theorem exists18_spec (s : Sc) (name : List UInt8) (hs : ScIn s) (hn : name.length ≤ 1048576) (H : List Box) : ASpec Tryz.prog 24 [.agg (scC s), vs name] H (Gives (vb (refExists s name)) H) := by
  have hd := hs.d
  have hsm := fun H => refSame16_spec name s.d (by omega) (by omega) H
  have hno := fun H => node18_spec s name hs hn H
  have hco := fun H => counts18_spec s hs H
  have hll : (numsN s).length ≤ 1048576 := by
    unfold numsN
    rw [List.length_map]
    exact Nat.le_trans (List.length_filter_le _ _) hs.v
  have hof := fun n H => offered_spec s n name hs hn H
  rw [refExists_nums]
  generalize refHost s name = r at *
  generalize sameN name s.d = q at *
  generalize numsN s = L at *
  generalize hO : (fun n => refOff s n name) = O at *
  have hOn : ∀ n, refOff s n name = O n := fun n => by rw [← hO]
  simp only [hOn] at hof ⊢
  clear hO hOn hs
  obtain ⟨v, a, d⟩ := s
  dsimp only at *
  by_cases hq : q = true ∨ 0 ≤ r
  · rw [if_pos hq]
    cases q with
    | true =>
      clear hof hco
      refine ASpec.enter Tryz.func24 rfl (fun a w => Tryz.call24 a w) Tryz.ntmps24 Tryz.results24 fun base w β hI => ?_
      refine wk wT (wA hsm (wA DrM.mk wT)) ?_
      refine wkEnd wT ?_
      exact Fin.cut (.v _) ⟨rfl, rfl⟩
    | false =>
      have h0 : 0 ≤ r := by rcases hq with h | h; cases h; exact h
      clear hof hco
      refine ASpec.enter Tryz.func24 rfl (fun a w => Tryz.call24 a w) Tryz.ntmps24 Tryz.results24 fun base w β hI => ?_
      refine wk (wA h0 wT) (wA hsm (wA hno (wA DrM.mk wT))) ?_
      refine wkEnd wT ?_
      exact Fin.cut (.v _) ⟨rfl, rfl⟩
  · rw [if_neg hq]
    have hqf : q = false := by cases q with
      | true => exact absurd (.inl rfl) hq
      | false => rfl
    subst hqf
    have h0 : ¬ 0 ≤ r := fun h => hq (.inr h)
    have hst : L.any (fun n => !(O n).isEmpty) = (L.drop 0).any (fun n => !(O n).isEmpty) := rfl
    generalize hR : L.any (fun n => !(O n).isEmpty) = R at *
    clear hR hq
    refine ASpec.enter Tryz.func24 rfl (fun a w => Tryz.call24 a w) Tryz.ntmps24 Tryz.results24 fun base w β hI => ?_
    refine wk (wA h0 wT) (wA hsm (wA hno (wA hco (wA DrM.mk wT)))) ?_
    refine AWP.loop (ι := {i : Nat // i ≤ L.length ∧ R = (L.drop i).any (fun n => !(O n).isEmpty)})
      (fun p => ⟨[(1, vs name), (2, .ptr H.length 0 0), (5, .lst 1 (inG L)), (6, vi p.1)], H ++ [⟨scC ⟨v, a, d⟩, 0, 0, false⟩]⟩) (fun p => L.length - p.1) ⟨0, Nat.zero_le _, hst⟩ ?_ ?_
    · dsimp only
      exact Coe.kp
    · rintro ⟨i, hi, he⟩
      dsimp only
      clear hst hco hsm hno h0
      by_cases hc : (i : Int) < (L.length : Int)
      · have hg : L[i]? = some L[i] := List.getElem?_eq_getElem (by omega)
        rw [List.drop_eq_getElem_cons (show i < L.length by omega), List.any_cons] at he
        generalize L[i] = n at hg he
        have hon := hof n
        clear hof
        generalize O n = M at *
        cases M with
        | nil =>
          rw [List.isEmpty_nil, Bool.not_true, Bool.false_or] at he
          refine wk (wA hc (wA hg wT)) (wA hon (wA DrM.mk wT)) ?_
          refine ⟨⟨i + 1, by omega, he⟩, ?_, by dsimp only; omega⟩
          dsimp only
          exact Coe.kp
        | cons m M =>
          rw [List.isEmpty_cons, Bool.not_false, Bool.true_or] at he
          rw [he]
          have hp : (0 : Int) < ((svG (m :: M)).length : Int) := by simp [svG]
          generalize svG (m :: M) = G at *
          refine wk (wA hc (wA hg (wA hp wT))) (wA hon (wA DrM.mk wT)) ?_
          refine wkEnd wT ?_
          exact Fin.cut (.v _) ⟨rfl, rfl⟩
      · rw [List.drop_of_length_le (by omega), List.any_nil] at he
        rw [he]
        refine wk (wA hc wT) (wA DrM.mk wT) ?_
        refine wkEnd wT ?_
        exact Fin.cut (.v _) ⟨rfl, rfl⟩

end Go.Proofs.YtnlmdeeadldgmaaGreatDoor.VL

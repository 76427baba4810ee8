/- Layers 4, 5, 7, 8: whether tables, states, digests and deltas are the same. -/
import Derived.Test.YtjkdahpoalnjjaaDoorZMa
import Derived.Test.YtjkdahpoalnjjaaDoorZMsgA
-- STEPWISE
-- WK
set_option linter.unusedVariables false
set_option linter.unusedSimpArgs false
set_option maxRecDepth 10000
namespace Go.Proofs.YtjkdahpoalnjjaaDoor.VL
open Go Go.RowKit Go.Lib

theorem entrySame_spec (a b : List En) (ha : a.length ≤ 9223372036854775807) (hb : b.length ≤ 9223372036854775807) (H : List Box) : ASpec Tryd.prog 75 [.lst 3 (enG a), .lst 3 (enG b)] H (Gives (vb (decide (a = b))) H) := by
  have hr := enSame_spec a b ha hb H
  generalize decide (a = b) = r at *
  refine ASpec.enter Tryd.func75 rfl (fun a w => Tryd.call75 a w) Tryd.ntmps75 Tryd.results75 fun base w β hI => ?_
  refine wk wT (wA hr (wA DrM.mk wT)) ?_
  refine wkEnd wT ?_
  exact Fin.same ⟨rfl, rfl⟩
theorem digestSame_spec (a b : List Dg) (ha : a.length ≤ 9223372036854775807) (hb : b.length ≤ 9223372036854775807) (H : List Box) : ASpec Tryd.prog 50 [.lst 3 (dgG a), .lst 3 (dgG b)] H (Gives (vb (decide (a = b))) H) := by
  have hr := dgSame_spec a b ha hb H
  generalize decide (a = b) = r at *
  refine ASpec.enter Tryd.func50 rfl (fun a w => Tryd.call50 a w) Tryd.ntmps50 Tryd.results50 fun base w β hI => ?_
  refine wk wT (wA hr (wA DrM.mk wT)) ?_
  refine wkEnd wT ?_
  exact Fin.same ⟨rfl, rfl⟩

set_option maxHeartbeats 2000000 in
theorem dlSame1_spec (x y : Dl) (hx : DlIn x) (hy : DlIn y) (H : List Box) : ASpec Tryd.prog 74 [.agg (dlC x), .agg (dlC y)] H (Gives (vb (decide (x = y))) H) := by
  have hr := fun H => entrySame_spec x.s.a y.s.a hx.1 hy.1 H
  obtain ⟨xn, xf, xg, xb, xa⟩ := x
  obtain ⟨yn, yf, yg, yb, ya⟩ := y
  clear hx hy
  dsimp only at hr
  by_cases q0 : xn = yn
  · subst q0
    by_cases q1 : xf = yf
    · subst q1
      by_cases q2 : xg = yg
      · subst q2
        by_cases q3 : xb = yb
        · subst q3
          rw [show decide ((⟨xn, xf, xg, xb, xa⟩ : Dl) = ⟨xn, xf, xg, xb, ya⟩) = decide (xa = ya) from by simp]
          generalize decide (xa = ya) = r at *
          refine ASpec.enter Tryd.func74 rfl (fun a w => Tryd.call74 a w) Tryd.ntmps74 Tryd.results74 fun base w β hI => ?_
          refine wk wT (wA hr (wA DrM.mk wT)) ?_
          refine wkEnd wT ?_
          cases r <;> exact Fin.cut (.v _) ⟨rfl, rfl⟩
        · rw [decide_eq_false (by simp [q3])]
          clear hr
          refine ASpec.enter Tryd.func74 rfl (fun a w => Tryd.call74 a w) Tryd.ntmps74 Tryd.results74 fun base w β hI => ?_
          refine wk (wA q3 wT) (wA DrM.mk wT) ?_
          refine wkEnd wT ?_
          exact Fin.cut (.v _) ⟨rfl, rfl⟩
      · rw [decide_eq_false (by simp [q2])]
        clear hr
        refine ASpec.enter Tryd.func74 rfl (fun a w => Tryd.call74 a w) Tryd.ntmps74 Tryd.results74 fun base w β hI => ?_
        refine wk (wA q2 wT) (wA DrM.mk wT) ?_
        refine wkEnd wT ?_
        exact Fin.cut (.v _) ⟨rfl, rfl⟩
    · rw [decide_eq_false (by simp [q1])]
      clear hr
      refine ASpec.enter Tryd.func74 rfl (fun a w => Tryd.call74 a w) Tryd.ntmps74 Tryd.results74 fun base w β hI => ?_
      refine wk (wA q1 wT) (wA DrM.mk wT) ?_
      refine wkEnd wT ?_
      exact Fin.cut (.v _) ⟨rfl, rfl⟩
  · rw [decide_eq_false (by simp [q0])]
    clear hr
    refine ASpec.enter Tryd.func74 rfl (fun a w => Tryd.call74 a w) Tryd.ntmps74 Tryd.results74 fun base w β hI => ?_
    refine wk (wA q0 wT) (wA DrM.mk wT) ?_
    refine wkEnd wT ?_
    exact Fin.cut (.v _) ⟨rfl, rfl⟩

set_option maxHeartbeats 2000000 in
theorem refStSame_spec (x y : St) (hx : x.a.length ≤ 9223372036854775807) (hy : y.a.length ≤ 9223372036854775807) (H : List Box) : ASpec Tryd.prog 61 [.agg (stC x), .agg (stC y)] H (Gives (vb (decide (x = y))) H) := by
  have hr := fun H => refEnSame_spec x.a y.a hx hy H
  obtain ⟨xg, xb, xa⟩ := x
  obtain ⟨yg, yb, ya⟩ := y
  clear hx hy
  dsimp only at hr
  by_cases q2 : xg = yg
  · subst q2
    by_cases q3 : xb = yb
    · subst q3
      rw [show decide ((⟨xg, xb, xa⟩ : St) = ⟨xg, xb, ya⟩) = decide (xa = ya) from by simp]
      generalize decide (xa = ya) = r at *
      refine ASpec.enter Tryd.func61 rfl (fun a w => Tryd.call61 a w) Tryd.ntmps61 Tryd.results61 fun base w β hI => ?_
      refine wk wT (wA hr (wA DrM.mk wT)) ?_
      refine wkEnd wT ?_
      cases r <;> exact Fin.cut (.v _) ⟨rfl, rfl⟩
    · rw [decide_eq_false (by simp [q3])]
      clear hr
      refine ASpec.enter Tryd.func61 rfl (fun a w => Tryd.call61 a w) Tryd.ntmps61 Tryd.results61 fun base w β hI => ?_
      refine wk (wA q3 wT) (wA DrM.mk wT) ?_
      refine wkEnd wT ?_
      exact Fin.cut (.v _) ⟨rfl, rfl⟩
  · rw [decide_eq_false (by simp [q2])]
    clear hr
    refine ASpec.enter Tryd.func61 rfl (fun a w => Tryd.call61 a w) Tryd.ntmps61 Tryd.results61 fun base w β hI => ?_
    refine wk (wA q2 wT) (wA DrM.mk wT) ?_
    refine wkEnd wT ?_
    exact Fin.cut (.v _) ⟨rfl, rfl⟩

set_option maxHeartbeats 4000000 in
theorem eqFDl_spec (a b : List Dl) (ha : a.length ≤ 9223372036854775807) (hb : b.length ≤ 9223372036854775807) (da : ∀ d ∈ a, DlIn d) (db : ∀ d ∈ b, DlIn d) (H : List Box) :
    ASpec Tryd.prog 73 [.lst 5 (dlG a), .lst 5 (dlG b), .fn 74 []] H (Gives (vb (decide (a = b))) H) := by
  by_cases hl : a.length = b.length
  rotate_left
  · have hn : ¬ a = b := fun e => hl (by rw [e])
    have hl' : ¬ (a.length : Int) = (b.length : Int) := by omega
    rw [decide_eq_false hn]
    refine ASpec.enter Tryd.func73 rfl (fun a w => Tryd.call73 a w) Tryd.ntmps73 Tryd.results73 fun base w β hI => ?_
    refine wk (wA hl' wT) (wA DrM.mk wT) ?_
    refine wkEnd wT ?_
    exact Fin.same ⟨rfl, rfl⟩
  · have hl' : (a.length : Int) = (b.length : Int) := by omega
    have hl2 := eq_true hl'
    refine ASpec.enter Tryd.func73 rfl (fun a w => Tryd.call73 a w) Tryd.ntmps73 Tryd.results73 fun base w β hI => ?_
    refine wk (wA hl2 wT) (wA DrM.mk wT) ?_
    refine AWP.loop (ι := {i : Nat // i ≤ a.length ∧ a.take i = b.take i})
      (fun p => ⟨[(0, .lst 5 (dlG a)), (1, .lst 5 (dlG b)), (2, .fn 74 []), (15, .lst 5 (dlG a)), (16, vi a.length), (17, vi p.1)], H⟩) (fun p => a.length - p.1) ⟨0, Nat.zero_le _, by simp⟩ ?_ ?_
    · dsimp only
      exact Coe.kp
    · rintro ⟨i, hi, he⟩
      dsimp only
      by_cases hc : (i : Int) < (a.length : Int)
      · have hg : a[i]? = some a[i] := List.getElem?_eq_getElem (by omega)
        have hg2 : b[i]? = some b[i] := List.getElem?_eq_getElem (by omega)
        have dx := da a[i] (List.getElem_mem _)
        have dy := db b[i] (List.getElem_mem _)
        generalize a[i] = x at hg dx
        generalize b[i] = y at hg2 dy
        have s1 := take_snoc hg
        have s2 := take_snoc hg2
        have hn : x ≠ y → ¬ a = b := fun hx e => hx (by rw [e, hg2] at hg; injection hg with hg; exact hg.symm)
        have hr := fun H => dlSame1_spec x y dx dy H
        obtain ⟨xn, xf, xg, xb, xa⟩ := x
        obtain ⟨yn, yf, yg, yb, ya⟩ := y
        clear da db dx dy
        by_cases hxy : (⟨xn, xf, xg, xb, xa⟩ : Dl) = ⟨yn, yf, yg, yb, ya⟩
        · rw [decide_eq_true hxy] at hr
          clear hn
          refine wk (wA hc (wA hg (wA hg2 wT))) (wA hr (wA DrM.mk wT)) ?_
          refine ⟨⟨i + 1, by omega, by rw [s1, s2, he, hxy]⟩, ?_, by dsimp only; omega⟩
          dsimp only
          exact Coe.cut0 (Keeps.kp wT) (fun p hp => by simp only [List.mem_cons, List.not_mem_nil, or_false] at hp; rcases hp with rfl | rfl | rfl | rfl | rfl | rfl <;> first | exact .v _ | exact lt_dl _ | exact .fn _ _ (fun i c h => by simp at h))
        · rw [decide_eq_false hxy] at hr
          rw [decide_eq_false (hn hxy)]
          refine wk (wA hc (wA hg (wA hg2 wT))) (wA hr (wA DrM.mk wT)) ?_
          refine wkEnd wT ?_
          exact Fin.cut (.v _) ⟨rfl, rfl⟩
      · have : i = a.length := by omega
        subst this
        rw [List.take_length, hl, List.take_length] at he
        rw [decide_eq_true he]
        refine wk (wA hc wT) (wA DrM.mk wT) ?_
        refine wkEnd wT ?_
        exact Fin.same ⟨rfl, rfl⟩
theorem dlSame_spec (a b : List Dl) (ha : a.length ≤ 9223372036854775807) (hb : b.length ≤ 9223372036854775807) (da : ∀ d ∈ a, DlIn d) (db : ∀ d ∈ b, DlIn d) (H : List Box) :
    ASpec Tryd.prog 51 [.lst 5 (dlG a), .lst 5 (dlG b)] H (Gives (vb (decide (a = b))) H) := by
  have hr := eqFDl_spec a b ha hb da db H
  generalize decide (a = b) = r at *
  refine ASpec.enter Tryd.func51 rfl (fun a w => Tryd.call51 a w) Tryd.ntmps51 Tryd.results51 fun base w β hI => ?_
  refine wk wT (wA hr (wA DrM.mk wT)) ?_
  refine wkEnd wT ?_
  exact Fin.same ⟨rfl, rfl⟩

end Go.Proofs.YtjkdahpoalnjjaaDoor.VL

/- Layers 8, 20: whether lists of deltas, and talks, are the same; and whether they are great. -/
-- STEPWISE
-- WK
set_option linter.unusedVariables false
set_option linter.unusedSimpArgs false
set_option maxRecDepth 10000
namespace Go.Proofs.YtjkdahpoalnjjaaDoor.VL
open Go Go.RowKit Go.Lib

set_option maxHeartbeats 4000000 in
theorem refDlSame_spec (a b : List Dl) (ha : a.length ≤ 9223372036854775807) (hb : b.length ≤ 9223372036854775807) (da : ∀ d ∈ a, DlIn d) (db : ∀ d ∈ b, DlIn d) (H : List Box) :
    ASpec Tryd.prog 34 [.lst 5 (dlG a), .lst 5 (dlG b)] H (Gives (vb (decide (a = b))) H) := by
  by_cases hl : a.length = b.length
  rotate_left
  · have hn : ¬ a = b := fun e => hl (by rw [e])
    have hl' : ¬ (a.length : Int) = (b.length : Int) := by omega
    rw [decide_eq_false hn]
    refine ASpec.enter Tryd.func34 rfl (fun a w => Tryd.call34 a w) Tryd.ntmps34 Tryd.results34 fun base w β hI => ?_
    refine wk (wA hl' wT) (wA DrM.mk wT) ?_
    refine wkEnd wT ?_
    exact Fin.same ⟨rfl, rfl⟩
  · have hl' : (a.length : Int) = (b.length : Int) := by omega
    have hl2 := eq_true hl'
    refine ASpec.enter Tryd.func34 rfl (fun a w => Tryd.call34 a w) Tryd.ntmps34 Tryd.results34 fun base w β hI => ?_
    refine wk (wA hl2 wT) (wA DrM.mk wT) ?_
    refine AWP.loop (ι := {i : Nat // i ≤ a.length ∧ a.take i = b.take i})
      (fun p => ⟨[(0, .lst 5 (dlG a)), (1, .lst 5 (dlG b)), (5, vi p.1)], H⟩) (fun p => a.length - p.1) ⟨0, Nat.zero_le _, by simp⟩ ?_ ?_
    · dsimp only
      exact Coe.kp
    · rintro ⟨i, hi, he⟩
      dsimp only
      by_cases hc : (i : Int) < (a.length : Int)
      · have hg : a[i]? = some a[i] := List.getElem?_eq_getElem (by omega)
        have hg2 : b[i]? = some b[i] := List.getElem?_eq_getElem (by omega)
        have dx := da a[i] (List.getElem_mem _)
        have dy := db b[i] (List.getElem_mem _)
        generalize a[i] = x at hg dx
        generalize b[i] = y at hg2 dy
        have s1 := take_snoc hg
        have s2 := take_snoc hg2
        have hn : x ≠ y → ¬ a = b := fun hx e => hx (by rw [e, hg2] at hg; injection hg with hg; exact hg.symm)
        have hr := fun H => refStSame_spec x.s y.s dx.1 dy.1 H
        obtain ⟨xn, xf, xg, xb, xa⟩ := x
        obtain ⟨yn, yf, yg, yb, ya⟩ := y
        clear da db dx dy
        dsimp only at hr
        by_cases q0 : xn = yn
        · subst q0
          by_cases q1 : xf = yf
          · subst q1
            by_cases hxy : (⟨xg, xb, xa⟩ : St) = ⟨yg, yb, ya⟩
            · rw [decide_eq_true hxy] at hr
              clear hn
              refine wk (wA hc (wA hg (wA hg2 wT))) (wA hr (wA DrM.mk wT)) ?_
              refine ⟨⟨i + 1, by omega, by rw [s1, s2, he, hxy]⟩, ?_, by dsimp only; omega⟩
              dsimp only
              exact Coe.kp
            · rw [decide_eq_false hxy] at hr
              rw [decide_eq_false (hn (by simp only [ne_eq, Dl.mk.injEq, true_and]; exact hxy))]
              clear hn
              refine wk (wA hc (wA hg (wA hg2 wT))) (wA hr (wA DrM.mk wT)) ?_
              refine wkEnd wT ?_
              exact Fin.same ⟨rfl, rfl⟩
          · rw [decide_eq_false (hn (by simp [q1]))]
            clear hn hr
            refine wk (wA hc (wA hg (wA hg2 (wA q1 wT)))) (wA DrM.mk wT) ?_
            refine wkEnd wT ?_
            exact Fin.same ⟨rfl, rfl⟩
        · rw [decide_eq_false (hn (by simp [q0]))]
          clear hn hr
          refine wk (wA hc (wA hg (wA hg2 (wA q0 wT)))) (wA DrM.mk wT) ?_
          refine wkEnd wT ?_
          exact Fin.same ⟨rfl, rfl⟩
      · have : i = a.length := by omega
        subst this
        rw [List.take_length, hl, List.take_length] at he
        rw [decide_eq_true he]
        refine wk (wA hc wT) (wA DrM.mk wT) ?_
        refine wkEnd wT ?_
        exact Fin.same ⟨rfl, rfl⟩

abbrev TkIn (t : Tk) : Prop := t.d.length ≤ 9223372036854775807 ∧ t.l.length ≤ 9223372036854775807 ∧ ∀ d ∈ t.l, DlIn d
def tkSame (s t : Tk) : Bool := decide (s.k = t.k) && (decide (s.d = t.d) && decide (s.l = t.l))

set_option maxHeartbeats 4000000 in
theorem tkSame_spec (s t : Tk) (hs : TkIn s) (ht : TkIn t) (H : List Box) : ASpec Tryd.prog 24 [.agg (tkC s), .agg (tkC t)] H (Gives (vb (tkSame s t)) H) := by
  have h1 := fun H => digestSame_spec s.d t.d hs.1 ht.1 H
  have h2 := fun H => dlSame_spec s.l t.l hs.2.1 ht.2.1 hs.2.2 ht.2.2 H
  unfold tkSame
  obtain ⟨xk, xd, xl⟩ := s
  obtain ⟨yk, yd, yl⟩ := t
  dsimp only at *
  generalize decide (xl = yl) = r2 at *
  by_cases q0 : xk = yk
  · subst q0
    rw [decide_eq_true rfl, Bool.true_and]
    cases hd : decide (xd = yd) with
    | true =>
      rw [hd] at h1
      rw [Bool.true_and]
      refine ASpec.enter Tryd.func24 rfl (fun a w => Tryd.call24 a w) Tryd.ntmps24 Tryd.results24 fun base w β hI => ?_
      refine wk wT (wA h1 (wA h2 (wA DrM.mk wT))) ?_
      refine wkEnd wT ?_
      cases r2 <;> exact Fin.cut (.v _) ⟨rfl, rfl⟩
    | false =>
      rw [hd] at h1
      rw [Bool.false_and]
      clear h2
      refine ASpec.enter Tryd.func24 rfl (fun a w => Tryd.call24 a w) Tryd.ntmps24 Tryd.results24 fun base w β hI => ?_
      refine wk wT (wA h1 (wA DrM.mk wT)) ?_
      refine wkEnd wT ?_
      exact Fin.cut (.v _) ⟨rfl, rfl⟩
  · rw [decide_eq_false q0, Bool.false_and]
    clear h1 h2
    refine ASpec.enter Tryd.func24 rfl (fun a w => Tryd.call24 a w) Tryd.ntmps24 Tryd.results24 fun base w β hI => ?_
    refine wk (wA q0 wT) (wA DrM.mk wT) ?_
    refine wkEnd wT ?_
    exact Fin.cut (.v _) ⟨rfl, rfl⟩
set_option maxHeartbeats 4000000 in
theorem refTkSame_spec (s t : Tk) (hs : TkIn s) (ht : TkIn t) (H : List Box) : ASpec Tryd.prog 14 [.agg (tkC s), .agg (tkC t)] H (Gives (vb (tkSame s t)) H) := by
  have h1 := fun H => refDgSame_spec s.d t.d hs.1 ht.1 H
  have h2 := fun H => refDlSame_spec s.l t.l hs.2.1 ht.2.1 hs.2.2 ht.2.2 H
  unfold tkSame
  obtain ⟨xk, xd, xl⟩ := s
  obtain ⟨yk, yd, yl⟩ := t
  dsimp only at *
  generalize decide (xl = yl) = r2 at *
  by_cases q0 : xk = yk
  · subst q0
    rw [decide_eq_true rfl, Bool.true_and]
    cases hd : decide (xd = yd) with
    | true =>
      rw [hd] at h1
      rw [Bool.true_and]
      refine ASpec.enter Tryd.func14 rfl (fun a w => Tryd.call14 a w) Tryd.ntmps14 Tryd.results14 fun base w β hI => ?_
      refine wk wT (wA h1 (wA h2 (wA DrM.mk wT))) ?_
      refine wkEnd wT ?_
      cases r2 <;> exact Fin.cut (.v _) ⟨rfl, rfl⟩
    | false =>
      rw [hd] at h1
      rw [Bool.false_and]
      clear h2
      refine ASpec.enter Tryd.func14 rfl (fun a w => Tryd.call14 a w) Tryd.ntmps14 Tryd.results14 fun base w β hI => ?_
      refine wk wT (wA h1 (wA DrM.mk wT)) ?_
      refine wkEnd wT ?_
      exact Fin.cut (.v _) ⟨rfl, rfl⟩
  · rw [decide_eq_false q0, Bool.false_and]
    clear h1 h2
    refine ASpec.enter Tryd.func14 rfl (fun a w => Tryd.call14 a w) Tryd.ntmps14 Tryd.results14 fun base w β hI => ?_
    refine wk (wA q0 wT) (wA DrM.mk wT) ?_
    refine wkEnd wT ?_
    exact Fin.cut (.v _) ⟨rfl, rfl⟩

end Go.Proofs.YtjkdahpoalnjjaaDoor.VL

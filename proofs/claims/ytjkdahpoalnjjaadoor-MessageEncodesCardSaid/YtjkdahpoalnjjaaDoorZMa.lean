/- Layer 8: whether deltas may be. -/
import Derived.Test.YtjkdahpoalnjjaaDoorZMsgC
import Derived.Test.YtjkdahpoalnjjaaDoorZEntC
-- STEPWISE
-- WK
set_option linter.unusedVariables false
set_option linter.unusedSimpArgs false
set_option maxRecDepth 10000
namespace Go.Proofs.YtjkdahpoalnjjaaDoor.VL
open Go Go.RowKit Go.Lib

abbrev DlIn (d : Dl) : Prop := d.s.a.length ≤ 9223372036854775807 ∧ ∀ y ∈ d.s.a, y.s.length ≤ 9223372036854775807

set_option maxHeartbeats 2000000 in
theorem dlRight_spec (l : List Dl) (hl : l.length ≤ 9223372036854775807) (hd : ∀ d ∈ l, DlIn d) (H : List Box) : ASpec Tryd.prog 45 [.lst 5 (dlG l)] H (Gives (vb (dlOk l)) H) := by
  refine ASpec.enter Tryd.func45 rfl (fun a w => Tryd.call45 a w) Tryd.ntmps45 Tryd.results45 fun base w β hI => ?_
  refine wk wT (wA DrM.mk wT) ?_
  refine AWP.loop (ι := {p : Nat × Int // p.1 ≤ l.length ∧ dlOk l = dlGo p.2 (l.drop p.1) ∧ (p.1 = 0 → p.2 = -1) ∧ (∀ d, p.1 ≠ 0 → l[p.1 - 1]? = some d → d.n = p.2)}) (fun p => ⟨[(0, .lst 5 (dlG l)), (5, .lst 5 (dlG l)), (6, vi l.length), (7, vi p.1.1)], H⟩) (fun p => l.length - p.1.1) ⟨(0, -1), Nat.zero_le _, rfl, fun _ => rfl, fun _ h => absurd rfl h⟩ ?_ ?_
  · dsimp only
    exact Coe.kp
  · rintro ⟨⟨i, last⟩, hi, he, h0, h1⟩
    dsimp only at hi he h0 h1 ⊢
    by_cases hc : (i : Int) < (l.length : Int)
    · have hg : l[i]? = some l[i] := List.getElem?_eq_getElem (by omega)
      have hin := hd l[i] (List.getElem_mem _)
      rw [dlGo_drop hg] at he
      generalize l[i] = x at *
      have hr := dlMay_spec x hin.1 hin.2 (H ++ [⟨dlC x, 0, 0, false⟩])
      obtain ⟨n, f, g, b, a⟩ := x
      dsimp only at *
      cases hm : mayD ⟨n, f, g, b, a⟩ with
      | false =>
        rw [hm] at he hr
        rw [he, Bool.false_and]
        clear h0 h1 he hd hin
        rcases i with _ | j
        · refine wk (wA hc (wA hg wT)) (wA hr (wA DrM.mk wT)) ?_
          refine wkEnd wT ?_
          exact Fin.cut (.v _) ⟨rfl, rfl⟩
        · generalize hj : j + 1 = k at *
          have hk : (0 : Int) < (k : Int) := by omega
          obtain ⟨y, hy⟩ : ∃ y, l[k - 1]? = some y := ⟨_, List.getElem?_eq_getElem (by omega)⟩
          obtain ⟨yn, yf, yg, yb, ya⟩ := y
          have hz : ((k : Int) - 1).toNat = k - 1 := by omega
          refine wk (wA hc (wA hg (wA hk (wA hz (wA hy wT))))) (wA hr (wA DrM.mk wT)) ?_
          refine wkEnd wT ?_
          exact Fin.cut (.v _) ⟨rfl, rfl⟩
      | true =>
        rw [hm] at he hr
        rw [Bool.true_and] at he
        have hn : 0 ≤ n := by
          simp only [mayD, Bool.and_eq_true, decide_eq_true_eq] at hm
          exact hm.1
        rcases i with _ | j
        · rw [h0 rfl, decide_eq_true (by omega), Bool.true_and] at he
          clear h0 h1 hd hin hm
          refine wk (wA hc (wA hg wT)) (wA hr (wA DrM.mk wT)) ?_
          refine ⟨⟨(1, n), by dsimp only; omega, he, fun h => by simp at h, fun d _ h => by simp only [Nat.sub_self] at h; rw [hg] at h; obtain rfl := Option.some.inj h; rfl⟩, ?_, by dsimp only; omega⟩
          dsimp only
          exact Coe.cut0 (Keeps.kp wT) (fun p hp => by simp only [List.mem_cons, List.not_mem_nil, or_false] at hp; rcases hp with rfl | rfl | rfl | rfl <;> first | exact .v _ | exact lt_dl _)
        · generalize hj : j + 1 = k at *
          have hk : (0 : Int) < (k : Int) := by omega
          obtain ⟨y, hy⟩ : ∃ y, l[k - 1]? = some y := ⟨_, List.getElem?_eq_getElem (by omega)⟩
          have hl' := h1 y (by omega) hy
          obtain ⟨yn, yf, yg, yb, ya⟩ := y
          have hz : ((k : Int) - 1).toNat = k - 1 := by omega
          dsimp only at hl'
          subst hl'
          clear h0 h1 hd hin hm
          by_cases q : n ≤ yn
          · rw [decide_eq_false (by omega), Bool.false_and] at he
            rw [he]
            refine wk (wA hc (wA hg (wA hk (wA hz (wA hy (wA q wT)))))) (wA hr (wA DrM.mk wT)) ?_
            refine wkEnd wT ?_
            exact Fin.cut (.v _) ⟨rfl, rfl⟩
          · rw [decide_eq_true (by omega), Bool.true_and] at he
            refine wk (wA hc (wA hg (wA hk (wA hz (wA hy (wA q wT)))))) (wA hr (wA DrM.mk wT)) ?_
            refine ⟨⟨(k + 1, n), by dsimp only; omega, he, fun h => by simp at h, fun d _ h => by simp only [Nat.add_sub_cancel] at h; rw [hg] at h; obtain rfl := Option.some.inj h; rfl⟩, ?_, by dsimp only; omega⟩
            dsimp only
            exact Coe.cut0 (Keeps.kp wT) (fun p hp => by simp only [List.mem_cons, List.not_mem_nil, or_false] at hp; rcases hp with rfl | rfl | rfl | rfl <;> first | exact .v _ | exact lt_dl _)
    · rw [List.drop_of_length_le (by omega)] at he
      rw [he]
      refine wk (wA hc wT) (wA DrM.mk wT) ?_
      refine wkEnd wT ?_
      exact Fin.same ⟨rfl, rfl⟩

end Go.Proofs.YtjkdahpoalnjjaaDoor.VL

/- Layer 8: whether deltas may be, as the reference looks at them. -/
-- STEPWISE
-- WK
set_option linter.unusedVariables false
set_option linter.unusedSimpArgs false
set_option maxRecDepth 10000
namespace Go.Proofs.YtjkdahpoalnjjaaDoor.VL
open Go Go.RowKit Go.Lib

def aboveL (f : Int) : List En → List En
  | [] => []
  | x :: l => (if f < x.v then [x] else []) ++ aboveL f l
theorem aboveL_drop {l : List En} {i : Nat} {x : En} (f : Int) (h : l[i]? = some x) : aboveL f (l.drop i) = (if f < x.v then [x] else []) ++ aboveL f (l.drop (i + 1)) := by
  have hi := (List.getElem?_eq_some_iff.1 h).1
  rw [List.drop_eq_getElem_cons hi, aboveL, (List.getElem?_eq_some_iff.1 h).2]
theorem aboveL_len (f : Int) (l : List En) : (aboveL f l).length ≤ l.length := by
  induction l with
  | nil => simp [aboveL]
  | cons x l ih =>
    rw [aboveL, List.length_append]
    split
    · simp only [List.length_cons, List.length_nil]; omega
    · simp only [List.length_cons, List.length_nil]; omega
theorem aboveL_all (f : Int) (l : List En) : aboveAll f l = decide ((aboveL f l).length = l.length) := by
  unfold aboveAll
  induction l with
  | nil => rfl
  | cons x l ih =>
    have hl := aboveL_len f l
    rw [List.all_cons, ih, aboveL, List.length_append, List.length_cons]
    by_cases h : f < x.v
    · rw [if_pos h, decide_eq_true h, Bool.true_and]
      congr 1
      simp only [List.length_cons, List.length_nil]
      exact propext (by omega)
    · rw [if_neg h, decide_eq_false h, Bool.false_and]
      exact (decide_eq_false (by simp only [List.length_nil]; omega)).symm

set_option maxHeartbeats 2000000 in
theorem refAbove4_spec (l : List En) (f : Int) (hl : l.length ≤ 1048576) (H : List Box) : ASpec Tryd.prog 84 [.lst 3 (enG l), vi f] H (Gives (.lst 3 (enG (aboveL f l))) H) := by
  have hlen := aboveL_len f l
  generalize hP : aboveL f l = P at *
  refine ASpec.enter Tryd.func84 rfl (fun a w => Tryd.call84 a w) Tryd.ntmps84 Tryd.results84 fun base w β hI => ?_
  refine wk wT (wA DrM.mk wT) ?_
  refine AWP.loop (ι := {p : Nat × List En // p.1 ≤ l.length ∧ P = p.2 ++ aboveL f (l.drop p.1)})
    (fun p => ⟨[(0, .lst 3 (enG l)), (1, vi f), (5, .sl H.length p.1.2.length 0 p.1.2.length 3 false), (6, vi p.1.1)], H ++ [⟨enF p.1.2, 0, p.1.2.length, true⟩]⟩) (fun p => l.length - p.1.1) ⟨(0, []), Nat.zero_le _, hP.symm⟩ ?_ ?_
  · dsimp only
    exact Coe.emp0 (t := 5) (sz := 3) rfl (Keeps.kp wT)
  · rintro ⟨⟨i, out⟩, hi, he⟩
    dsimp only at hi he ⊢
    clear hP
    by_cases hc : (i : Int) < (l.length : Int)
    · have hg : l[i]? = some l[i] := List.getElem?_eq_getElem (by omega)
      rw [aboveL_drop _ hg] at he
      generalize l[i] = y at *
      obtain ⟨yk, yv, ys⟩ := y
      dsimp only at he
      have hol : out.length ≤ l.length := by
        refine Nat.le_trans ?_ hlen
        rw [he, List.length_append]
        exact Nat.le_add_right _ _
      have ha1 : (out.length + 1) * 32 ≤ 140737488355328 := cap32 (by omega)
      have s2 : enF out ++ [vi yk, vi yv, vs ys] = enF (out ++ [⟨yk, yv, ys⟩]) := enF_snoc out ⟨yk, yv, ys⟩
      have l1 : ∀ z : En, (out ++ [z]).length = out.length + 1 := fun z => by simp
      by_cases hk : f < yv
      · rw [if_pos hk, ← List.append_assoc] at he
        refine wk (wA hc (wA hg (wA hk (wA ha1 (wA s2 wT))))) (wA DrM.mk wT) ?_
        refine ⟨⟨(i + 1, out ++ [⟨yk, yv, ys⟩]), by dsimp only; omega, he⟩, ?_, by dsimp only; omega⟩
        dsimp only
        rw [l1]
        exact Coe.kp
      · rw [if_neg hk, List.nil_append] at he
        refine wk (wA hc (wA hg (wA hk wT))) (wA DrM.mk wT) ?_
        refine ⟨⟨(i + 1, out), by dsimp only; omega, he⟩, ?_, by dsimp only; omega⟩
        dsimp only
        exact Coe.kp
    · rw [List.drop_of_length_le (by omega), aboveL, List.append_nil] at he
      rw [he]
      refine wk (wA hc wT) (wA DrM.mk wT) ?_
      refine wkEnd wT ?_
      exact Fin.enR (N := [_]) (b := H.length) (appAt _ _ 0 rfl) (Nat.le_refl _) rfl rfl rfl

theorem refAbove5_spec (s : St) (f : Int) (hl : s.a.length ≤ 1048576) (H : List Box) : ASpec Tryd.prog 63 [.agg (stC s), vi f] H (Gives (.agg [vi s.g, vi s.b, .lst 3 (enG (aboveL f s.a))]) H) := by
  have hr := fun H => refAbove4_spec s.a f hl H
  obtain ⟨g, b, a⟩ := s
  dsimp only at *
  generalize aboveL f a = P at *
  refine ASpec.enter Tryd.func63 rfl (fun a w => Tryd.call63 a w) Tryd.ntmps63 Tryd.results63 fun base w β hI => ?_
  refine wk wT (wA hr (wA DrM.mk wT)) ?_
  refine wkEnd wT ?_
  exact Fin.cut (.agg _ fun i c hi => by rcases i with _ | _ | _ | i <;> simp at hi <;> subst hi <;> first | exact .v _ | exact lt_en _) ⟨rfl, rfl⟩
theorem stOk_len {s : St} (h : stOk s = true) : s.a.length ≤ 1048576 := by
  simp only [stOk, Bool.and_eq_true] at h
  exact Nat.le_trans (tabOk_len h.2.2.2.2) (by omega)

end Go.Proofs.YtjkdahpoalnjjaaDoor.VL

/- Layers 5, 8: whether states and deltas may be, as the program and the reference look at them. -/
import Derived.Test.YtjkdahpoalnjjaaDoorZMsgB
import Derived.Test.YtjkdahpoalnjjaaDoorZEa
-- STEPWISE
-- WK
set_option linter.unusedVariables false
set_option linter.unusedSimpArgs false
set_option maxRecDepth 10000
namespace Go.Proofs.YtjkdahpoalnjjaaDoor.VL
open Go Go.RowKit Go.Lib

set_option maxHeartbeats 1000000 in
theorem stRight_spec (x : St) (hl : x.a.length ≤ 9223372036854775807) (hs : ∀ y ∈ x.a, y.s.length ≤ 9223372036854775807) (H : List Box) : ASpec Tryd.prog 91 [.agg (stC x)] H (Gives (vb (stOk x)) H) := by
  have hr := fun H => enRight_spec x.a hl hs H
  obtain ⟨g, b, a⟩ := x
  have he : stOk ⟨g, b, a⟩ = (decide (1 ≤ g) && (decide (g ≤ 1099511627776) && (decide (0 ≤ b) && (decide (b ≤ 1099511627776) && tabOk a)))) := rfl
  generalize hm : stOk ⟨g, b, a⟩ = m at *
  clear hm hl hs
  dsimp only at hr
  by_cases q0 : 1 ≤ g
  · rw [decide_eq_true (show 1 ≤ g by omega)] at he
    try simp only [Bool.true_and] at he
    by_cases q1 : g ≤ 1099511627776
    · rw [decide_eq_true (show g ≤ 1099511627776 by omega)] at he
      try simp only [Bool.true_and] at he
      by_cases q2 : 0 ≤ b
      · rw [decide_eq_true (show 0 ≤ b by omega)] at he
        try simp only [Bool.true_and] at he
        by_cases q3 : b ≤ 1099511627776
        · rw [decide_eq_true (show b ≤ 1099511627776 by omega)] at he
          try simp only [Bool.true_and] at he
          rw [he]
          generalize tabOk a = t at *
          refine ASpec.enter Tryd.func91 rfl (fun a w => Tryd.call91 a w) Tryd.ntmps91 Tryd.results91 fun base w β hI => ?_
          refine wk (wA q0 (wA q1 (wA q2 (wA q3 wT)))) (wA hr (wA DrM.mk wT)) ?_
          refine wkEnd wT ?_
          cases t <;> exact Fin.cut (.v _) ⟨rfl, rfl⟩
        · rw [decide_eq_false (show ¬ b ≤ 1099511627776 by omega)] at he
          try simp only [Bool.false_and, Bool.and_false] at he
          rw [he]
          clear hr
          refine ASpec.enter Tryd.func91 rfl (fun a w => Tryd.call91 a w) Tryd.ntmps91 Tryd.results91 fun base w β hI => ?_
          refine wk (wA q0 (wA q1 (wA q2 (wA q3 wT)))) (wA DrM.mk wT) ?_
          refine wkEnd wT ?_
          exact Fin.cut (.v _) ⟨rfl, rfl⟩
      · rw [decide_eq_false (show ¬ 0 ≤ b by omega)] at he
        try simp only [Bool.false_and, Bool.and_false] at he
        rw [he]
        clear hr
        refine ASpec.enter Tryd.func91 rfl (fun a w => Tryd.call91 a w) Tryd.ntmps91 Tryd.results91 fun base w β hI => ?_
        refine wk (wA q0 (wA q1 (wA q2 wT))) (wA DrM.mk wT) ?_
        refine wkEnd wT ?_
        exact Fin.cut (.v _) ⟨rfl, rfl⟩
    · rw [decide_eq_false (show ¬ g ≤ 1099511627776 by omega)] at he
      try simp only [Bool.false_and, Bool.and_false] at he
      rw [he]
      clear hr
      refine ASpec.enter Tryd.func91 rfl (fun a w => Tryd.call91 a w) Tryd.ntmps91 Tryd.results91 fun base w β hI => ?_
      refine wk (wA q0 (wA q1 wT)) (wA DrM.mk wT) ?_
      refine wkEnd wT ?_
      exact Fin.cut (.v _) ⟨rfl, rfl⟩
  · rw [decide_eq_false (show ¬ 1 ≤ g by omega)] at he
    try simp only [Bool.false_and, Bool.and_false] at he
    rw [he]
    clear hr
    refine ASpec.enter Tryd.func91 rfl (fun a w => Tryd.call91 a w) Tryd.ntmps91 Tryd.results91 fun base w β hI => ?_
    refine wk (wA q0 wT) (wA DrM.mk wT) ?_
    refine wkEnd wT ?_
    exact Fin.cut (.v _) ⟨rfl, rfl⟩

set_option maxHeartbeats 1000000 in
theorem refStRight_spec (x : St) (hl : x.a.length ≤ 9223372036854775807) (hs : ∀ y ∈ x.a, y.s.length ≤ 9223372036854775807) (H : List Box) : ASpec Tryd.prog 62 [.agg (stC x)] H (Gives (vb (stOk x)) H) := by
  have hr := fun H => refRight4_spec x.a hl hs H
  obtain ⟨g, b, a⟩ := x
  have he : stOk ⟨g, b, a⟩ = (decide (1 ≤ g) && (decide (g ≤ 1099511627776) && (decide (0 ≤ b) && (decide (b ≤ 1099511627776) && tabOk a)))) := rfl
  generalize hm : stOk ⟨g, b, a⟩ = m at *
  clear hm hl hs
  dsimp only at hr
  by_cases q0 : 1 ≤ g
  · rw [decide_eq_true (show 1 ≤ g by omega)] at he
    try simp only [Bool.true_and] at he
    by_cases q1 : g ≤ 1099511627776
    · rw [decide_eq_true (show g ≤ 1099511627776 by omega)] at he
      try simp only [Bool.true_and] at he
      by_cases q2 : 0 ≤ b
      · rw [decide_eq_true (show 0 ≤ b by omega)] at he
        try simp only [Bool.true_and] at he
        by_cases q3 : b ≤ 1099511627776
        · rw [decide_eq_true (show b ≤ 1099511627776 by omega)] at he
          try simp only [Bool.true_and] at he
          rw [he]
          generalize tabOk a = t at *
          refine ASpec.enter Tryd.func62 rfl (fun a w => Tryd.call62 a w) Tryd.ntmps62 Tryd.results62 fun base w β hI => ?_
          refine wk (wA q0 (wA q1 (wA q2 (wA q3 wT)))) (wA hr (wA DrM.mk wT)) ?_
          refine wkEnd wT ?_
          cases t <;> exact Fin.cut (.v _) ⟨rfl, rfl⟩
        · rw [decide_eq_false (show ¬ b ≤ 1099511627776 by omega)] at he
          try simp only [Bool.false_and, Bool.and_false] at he
          rw [he]
          clear hr
          refine ASpec.enter Tryd.func62 rfl (fun a w => Tryd.call62 a w) Tryd.ntmps62 Tryd.results62 fun base w β hI => ?_
          refine wk (wA q0 (wA q1 (wA q2 (wA q3 wT)))) (wA DrM.mk wT) ?_
          refine wkEnd wT ?_
          exact Fin.cut (.v _) ⟨rfl, rfl⟩
      · rw [decide_eq_false (show ¬ 0 ≤ b by omega)] at he
        try simp only [Bool.false_and, Bool.and_false] at he
        rw [he]
        clear hr
        refine ASpec.enter Tryd.func62 rfl (fun a w => Tryd.call62 a w) Tryd.ntmps62 Tryd.results62 fun base w β hI => ?_
        refine wk (wA q0 (wA q1 (wA q2 wT))) (wA DrM.mk wT) ?_
        refine wkEnd wT ?_
        exact Fin.cut (.v _) ⟨rfl, rfl⟩
    · rw [decide_eq_false (show ¬ g ≤ 1099511627776 by omega)] at he
      try simp only [Bool.false_and, Bool.and_false] at he
      rw [he]
      clear hr
      refine ASpec.enter Tryd.func62 rfl (fun a w => Tryd.call62 a w) Tryd.ntmps62 Tryd.results62 fun base w β hI => ?_
      refine wk (wA q0 (wA q1 wT)) (wA DrM.mk wT) ?_
      refine wkEnd wT ?_
      exact Fin.cut (.v _) ⟨rfl, rfl⟩
  · rw [decide_eq_false (show ¬ 1 ≤ g by omega)] at he
    try simp only [Bool.false_and, Bool.and_false] at he
    rw [he]
    clear hr
    refine ASpec.enter Tryd.func62 rfl (fun a w => Tryd.call62 a w) Tryd.ntmps62 Tryd.results62 fun base w β hI => ?_
    refine wk (wA q0 wT) (wA DrM.mk wT) ?_
    refine wkEnd wT ?_
    exact Fin.cut (.v _) ⟨rfl, rfl⟩

theorem low_spec (x : En) (d : Dl) (b : Nat) (H : List Box) (hb : H[b]? = some ⟨dlC d, 0, 0, false⟩) : ASpec Tryd.prog 90 [.agg (enC x), .ptr b 0 0] H (Gives (vb (decide (x.v ≤ d.f))) H) := by
  have hb' := fun N : List Box => (List.getElem?_append_left (l₂ := N) (List.getElem?_eq_some_iff.1 hb).1).trans hb
  obtain ⟨k, v, s⟩ := x
  obtain ⟨n, f, g, b', a⟩ := d
  dsimp only at *
  by_cases h : v ≤ f
  · rw [decide_eq_true h]
    refine ASpec.enter Tryd.func90 rfl (fun a w => Tryd.call90 a w) Tryd.ntmps90 Tryd.results90 fun base w β hI => ?_
    refine wk (wA hb' (wA h wT)) (wA DrM.mk wT) ?_
    refine wkEnd wT ?_
    exact Fin.cut (.v _) ⟨rfl, rfl⟩
  · rw [decide_eq_false h]
    refine ASpec.enter Tryd.func90 rfl (fun a w => Tryd.call90 a w) Tryd.ntmps90 Tryd.results90 fun base w β hI => ?_
    refine wk (wA hb' (wA h wT)) (wA DrM.mk wT) ?_
    refine wkEnd wT ?_
    exact Fin.cut (.v _) ⟨rfl, rfl⟩
theorem low_any (f : Int) (l : List En) : (l.any fun x => decide (x.v ≤ f)) = !aboveAll f l := by
  unfold aboveAll
  induction l with
  | nil => rfl
  | cons x l ih =>
    rw [List.any_cons, List.all_cons, ih, Bool.not_and]
    congr 1
    by_cases h : x.v ≤ f
    · rw [decide_eq_true h, decide_eq_false (by omega)]; rfl
    · rw [decide_eq_false h, decide_eq_true (by omega)]; rfl

set_option maxHeartbeats 2000000 in
theorem dlMay_spec (d : Dl) (hl : d.s.a.length ≤ 9223372036854775807) (hs : ∀ y ∈ d.s.a, y.s.length ≤ 9223372036854775807) (H : List Box) : ASpec Tryd.prog 69 [.agg (dlC d)] H (Gives (vb (mayD d)) H) := by
  have hr := fun H => stRight_spec d.s hl hs H
  have hco := coFEn_spec (fun x => decide (x.v ≤ d.f)) 90 [.ptr H.length 0 0] d.s.a hl (H ++ [⟨dlC d, 0, 0, false⟩]) (fun x _ => low_spec x d H.length _ (by simp))
  rw [low_any] at hco
  obtain ⟨n, f, g, b, a⟩ := d
  have he : mayD ⟨n, f, g, b, a⟩ = (decide (0 ≤ n) && (decide (n < 8) && (decide (0 ≤ f) && (decide (f ≤ 1099511627776) && (stOk ⟨g, b, a⟩ && aboveAll f a))))) := rfl
  generalize hm : mayD ⟨n, f, g, b, a⟩ = m at *
  clear hm hl hs
  dsimp only at hr hco
  by_cases q0 : 0 ≤ n
  · rw [decide_eq_true (show 0 ≤ n by omega)] at he
    try simp only [Bool.true_and] at he
    by_cases q1 : n < 8
    · rw [decide_eq_true (show n < 8 by omega)] at he
      try simp only [Bool.true_and] at he
      by_cases q2 : 0 ≤ f
      · rw [decide_eq_true (show 0 ≤ f by omega)] at he
        try simp only [Bool.true_and] at he
        by_cases q3 : f ≤ 1099511627776
        · rw [decide_eq_true (show f ≤ 1099511627776 by omega)] at he
          try simp only [Bool.true_and] at he
          cases hst : stOk ⟨g, b, a⟩ with
          | false =>
            rw [hst] at hr he
            simp only [Bool.false_and] at he
            rw [he]
            refine ASpec.enter Tryd.func69 rfl (fun a w => Tryd.call69 a w) Tryd.ntmps69 Tryd.results69 fun base w β hI => ?_
            refine wk (wA q0 (wA q1 (wA q2 (wA q3 wT)))) (wA hr (wA DrM.mk wT)) ?_
            refine wkEnd wT ?_
            exact Fin.cut (.v _) ⟨rfl, rfl⟩
          | true =>
            rw [hst] at hr he
            simp only [Bool.true_and] at he
            rw [he]
            generalize aboveAll f a = t at *
            refine ASpec.enter Tryd.func69 rfl (fun a w => Tryd.call69 a w) Tryd.ntmps69 Tryd.results69 fun base w β hI => ?_
            refine wk (wA q0 (wA q1 (wA q2 (wA q3 wT)))) (wA hr (wA hco (wA DrM.mk wT))) ?_
            refine wkEnd wT ?_
            cases t <;> exact Fin.cut (.v _) ⟨rfl, rfl⟩
        · rw [decide_eq_false (show ¬ f ≤ 1099511627776 by omega)] at he
          try simp only [Bool.false_and, Bool.and_false] at he
          rw [he]
          clear hr hco
          refine ASpec.enter Tryd.func69 rfl (fun a w => Tryd.call69 a w) Tryd.ntmps69 Tryd.results69 fun base w β hI => ?_
          refine wk (wA q0 (wA q1 (wA q2 (wA q3 wT)))) (wA DrM.mk wT) ?_
          refine wkEnd wT ?_
          exact Fin.cut (.v _) ⟨rfl, rfl⟩
      · rw [decide_eq_false (show ¬ 0 ≤ f by omega)] at he
        try simp only [Bool.false_and, Bool.and_false] at he
        rw [he]
        clear hr hco
        refine ASpec.enter Tryd.func69 rfl (fun a w => Tryd.call69 a w) Tryd.ntmps69 Tryd.results69 fun base w β hI => ?_
        refine wk (wA q0 (wA q1 (wA q2 wT))) (wA DrM.mk wT) ?_
        refine wkEnd wT ?_
        exact Fin.cut (.v _) ⟨rfl, rfl⟩
    · rw [decide_eq_false (show ¬ n < 8 by omega)] at he
      try simp only [Bool.false_and, Bool.and_false] at he
      rw [he]
      clear hr hco
      refine ASpec.enter Tryd.func69 rfl (fun a w => Tryd.call69 a w) Tryd.ntmps69 Tryd.results69 fun base w β hI => ?_
      refine wk (wA q0 (wA q1 wT)) (wA DrM.mk wT) ?_
      refine wkEnd wT ?_
      exact Fin.cut (.v _) ⟨rfl, rfl⟩
  · rw [decide_eq_false (show ¬ 0 ≤ n by omega)] at he
    try simp only [Bool.false_and, Bool.and_false] at he
    rw [he]
    clear hr hco
    refine ASpec.enter Tryd.func69 rfl (fun a w => Tryd.call69 a w) Tryd.ntmps69 Tryd.results69 fun base w β hI => ?_
    refine wk (wA q0 wT) (wA DrM.mk wT) ?_
    refine wkEnd wT ?_
    exact Fin.cut (.v _) ⟨rfl, rfl⟩

end Go.Proofs.YtjkdahpoalnjjaaDoor.VL

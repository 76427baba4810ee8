/- Layers 4, 5, 8, 20: whether what comes is greater than is looked at; a kind's shape. -/
import Derived.Test.YtjkdahpoalnjjaaDoorZMb
import Derived.Test.YtjkdahpoalnjjaaDoorZMsgF
-- STEPWISE
-- WK
set_option linter.unusedVariables false
set_option linter.unusedSimpArgs false
set_option maxRecDepth 10000
namespace Go.Proofs.YtjkdahpoalnjjaaDoor.VL
open Go Go.RowKit Go.Lib

def great4 (l : List En) : Bool := decide (4000 < grE l.length l)
theorem refGreat5_spec (s : St) (hl : s.a.length ≤ 9223372036854775807) (hs : ∀ y ∈ s.a, y.s.length ≤ 9223372036854775807) (H : List Box) : ASpec Tryd.prog 70 [.agg (stC s)] H (Gives (vb (great4 s.a)) H) := by
  have hr : ∀ H, ASpec Tryd.prog 93 [.lst 3 (enG s.a)] H (Gives (vb (great4 s.a)) H) := fun H => refGreat4_spec s.a hl hs H
  obtain ⟨g, b, a⟩ := s
  dsimp only at *
  generalize great4 a = r at *
  refine ASpec.enter Tryd.func70 rfl (fun a w => Tryd.call70 a w) Tryd.ntmps70 Tryd.results70 fun base w β hI => ?_
  refine wk wT (wA hr (wA DrM.mk wT)) ?_
  refine wkEnd wT ?_
  exact Fin.cut (.v _) ⟨rfl, rfl⟩

def gr8Go : Nat → List Dl → Bool
  | _, [] => false
  | i, d :: l => if i < 41 then (great4 d.s.a || gr8Go (i + 1) l) else false
theorem gr8Go_drop {l : List Dl} {i : Nat} {x : Dl} (h : l[i]? = some x) : gr8Go i (l.drop i) = if i < 41 then (great4 x.s.a || gr8Go (i + 1) (l.drop (i + 1))) else false := by
  have hi := (List.getElem?_eq_some_iff.1 h).1
  rw [List.drop_eq_getElem_cons hi, gr8Go, (List.getElem?_eq_some_iff.1 h).2]
def great8 (l : List Dl) : Bool := gr8Go 0 l || decide (40 < l.length)

set_option maxHeartbeats 2000000 in
theorem refGreat8_spec (l : List Dl) (hl : l.length ≤ 9223372036854775807) (hd : ∀ d ∈ l, DlIn d) (H : List Box) : ASpec Tryd.prog 46 [.lst 5 (dlG l)] H (Gives (vb (great8 l)) H) := by
  have h0 : great8 l = (gr8Go 0 (l.drop 0) || decide (40 < l.length)) := rfl
  generalize great8 l = r at *
  refine ASpec.enter Tryd.func46 rfl (fun a w => Tryd.call46 a w) Tryd.ntmps46 Tryd.results46 fun base w β hI => ?_
  refine wk wT (wA DrM.mk wT) ?_
  refine AWP.loop (ι := {i : Nat // i ≤ l.length ∧ r = (gr8Go i (l.drop i) || decide (40 < l.length))})
    (fun p => ⟨[(0, .lst 5 (dlG l)), (3, vi p.1)], H⟩) (fun p => l.length - p.1) ⟨0, Nat.zero_le _, h0⟩ ?_ ?_
  · dsimp only
    exact Coe.kp
  · rintro ⟨i, hi, he⟩
    dsimp only at hi he ⊢
    by_cases hc : (i : Int) < (l.length : Int)
    · have hg : l[i]? = some l[i] := List.getElem?_eq_getElem (by omega)
      have hin := hd l[i] (List.getElem_mem _)
      rw [gr8Go_drop hg] at he
      generalize l[i] = x at *
      have hr := fun H => refGreat5_spec x.s hin.1 hin.2 H
      obtain ⟨n, f, g, b, a⟩ := x
      dsimp only at he hr
      clear hin hd
      by_cases h41 : (i : Int) < 41
      · rw [if_pos (by omega)] at he
        cases hq : great4 a with
        | true =>
          rw [hq] at he hr
          rw [Bool.true_or, Bool.true_or] at he
          rw [he]
          refine wk (wA hc (wA hg (wA h41 wT))) (wA hr (wA DrM.mk wT)) ?_
          refine wkEnd wT ?_
          exact Fin.same ⟨rfl, rfl⟩
        | false =>
          rw [hq] at he hr
          rw [Bool.false_or] at he
          refine wk (wA hc (wA hg (wA h41 wT))) (wA hr (wA DrM.mk wT)) ?_
          refine ⟨⟨i + 1, by omega, he⟩, ?_, by dsimp only; omega⟩
          dsimp only
          exact Coe.kp
      · rw [if_neg (by omega), Bool.false_or, decide_eq_true (by omega)] at he
        rw [he]
        have hl40 : (40 : Int) < (l.length : Int) := by omega
        clear hr
        refine wk (wA hc (wA h41 (wA hl40 wT))) (wA DrM.mk wT) ?_
        refine wkEnd wT ?_
        exact Fin.same ⟨rfl, rfl⟩
    · rw [List.drop_of_length_le (by omega), gr8Go, Bool.false_or] at he
      rw [he]
      by_cases hl40 : (40 : Int) < (l.length : Int)
      · rw [decide_eq_true (by omega)]
        refine wk (wA hc (wA hl40 wT)) (wA DrM.mk wT) ?_
        refine wkEnd wT ?_
        exact Fin.same ⟨rfl, rfl⟩
      · rw [decide_eq_false (by omega)]
        refine wk (wA hc (wA hl40 wT)) (wA DrM.mk wT) ?_
        refine wkEnd wT ?_
        exact Fin.same ⟨rfl, rfl⟩

def great20 (t : Tk) : Bool := decide (40 < t.d.length) || great8 t.l
theorem refGreat20_spec (t : Tk) (ht : TkIn t) (H : List Box) : ASpec Tryd.prog 21 [.agg (tkC t)] H (Gives (vb (great20 t)) H) := by
  have hr := fun H => refGreat8_spec t.l ht.2.1 ht.2.2 H
  have hd := ht.1
  unfold great20
  obtain ⟨k, d, l⟩ := t
  dsimp only at *
  generalize great8 l = r at *
  by_cases hl40 : (40 : Int) < (d.length : Int)
  · rw [decide_eq_true (by omega), Bool.true_or]
    clear hr
    refine ASpec.enter Tryd.func21 rfl (fun a w => Tryd.call21 a w) Tryd.ntmps21 Tryd.results21 fun base w β hI => ?_
    refine wk (wA hl40 wT) (wA DrM.mk wT) ?_
    refine wkEnd wT ?_
    exact Fin.cut (.v _) ⟨rfl, rfl⟩
  · rw [decide_eq_false (by omega), Bool.false_or]
    refine ASpec.enter Tryd.func21 rfl (fun a w => Tryd.call21 a w) Tryd.ntmps21 Tryd.results21 fun base w β hI => ?_
    refine wk (wA hl40 wT) (wA hr (wA DrM.mk wT)) ?_
    refine wkEnd wT ?_
    cases r <;> exact Fin.cut (.v _) ⟨rfl, rfl⟩

def kOk (k : Int) : Bool := decide (1 ≤ k ∧ k < 8)
set_option maxHeartbeats 2000000 in
theorem of_spec (k : Int) (H : List Box) : ASpec Tryd.prog 25 [vi k] H (Gives (.tup [.agg [vb (kOk k && knows k), vb (kOk k && tells k)], vb (kOk k)]) H) := by
  by_cases h1 : k < 1
  · rw [show kOk k = false from by unfold kOk; exact decide_eq_false (by omega), Bool.false_and, Bool.false_and]
    refine ASpec.enter Tryd.func25 rfl (fun a w => Tryd.call25 a w) Tryd.ntmps25 Tryd.results25 fun base w β hI => ?_
    refine wk (wA h1 wT) (wA DrM.mk wT) ?_
    refine wkEnd wT ?_
    exact Fin.cut (.cons_tup (.agg _ fun i c hi => by rcases i with _ | _ | i <;> simp at hi <;> subst hi <;> exact .v _) (.cons_tup (.v _) .nil_tup)) ⟨rfl, rfl⟩
  · by_cases h8 : 8 ≤ k
    · rw [show kOk k = false from by unfold kOk; exact decide_eq_false (by omega), Bool.false_and, Bool.false_and]
      refine ASpec.enter Tryd.func25 rfl (fun a w => Tryd.call25 a w) Tryd.ntmps25 Tryd.results25 fun base w β hI => ?_
      refine wk (wA h1 (wA h8 wT)) (wA DrM.mk wT) ?_
      refine wkEnd wT ?_
      exact Fin.cut (.cons_tup (.agg _ fun i c hi => by rcases i with _ | _ | i <;> simp at hi <;> subst hi <;> exact .v _) (.cons_tup (.v _) .nil_tup)) ⟨rfl, rfl⟩
    · rcases (show k = 1 ∨ k = 2 ∨ k = 3 ∨ k = 4 ∨ k = 5 ∨ k = 6 ∨ k = 7 by omega) with rfl | rfl | rfl | rfl | rfl | rfl | rfl
      all_goals
        refine ASpec.enter Tryd.func25 rfl (fun a w => Tryd.call25 a w) Tryd.ntmps25 Tryd.results25 fun base w β hI => ?_
        refine wk wT (wA DrM.mk wT) ?_
        refine wkEnd wT ?_
        exact Fin.cut (.cons_tup (.agg _ fun i c hi => by rcases i with _ | _ | i <;> simp at hi <;> subst hi <;> exact .v _) (.cons_tup (.v _) .nil_tup)) ⟨rfl, rfl⟩

end Go.Proofs.YtjkdahpoalnjjaaDoor.VL

/- Layer 20: whether a talk may be. -/
-- STEPWISE
-- WK
set_option linter.unusedVariables false
set_option linter.unusedSimpArgs false
set_option maxRecDepth 10000
namespace Go.Proofs.YtjkdahpoalnjjaaDoor.VL
open Go Go.RowKit Go.Lib

theorem knows_spec (k : Int) (H : List Box) : ASpec Tryd.prog 27 [vi k] H (Gives (vb (knows k)) H) := by
  by_cases h1 : k = 1
  · subst h1
    refine ASpec.enter Tryd.func27 rfl (fun a w => Tryd.call27 a w) Tryd.ntmps27 Tryd.results27 fun base w β hI => ?_
    refine wk wT (wA DrM.mk wT) ?_
    refine wkEnd wT ?_
    exact Fin.same ⟨rfl, rfl⟩
  · by_cases h2 : k = 2
    · subst h2
      refine ASpec.enter Tryd.func27 rfl (fun a w => Tryd.call27 a w) Tryd.ntmps27 Tryd.results27 fun base w β hI => ?_
      refine wk wT (wA DrM.mk wT) ?_
      refine wkEnd wT ?_
      exact Fin.same ⟨rfl, rfl⟩
    · rw [show knows k = false from decide_eq_false (by omega)]
      refine ASpec.enter Tryd.func27 rfl (fun a w => Tryd.call27 a w) Tryd.ntmps27 Tryd.results27 fun base w β hI => ?_
      refine wk (wA h1 (wA h2 wT)) (wA DrM.mk wT) ?_
      refine wkEnd wT ?_
      exact Fin.same ⟨rfl, rfl⟩
theorem tells_spec (k : Int) (H : List Box) : ASpec Tryd.prog 30 [vi k] H (Gives (vb (tells k)) H) := by
  by_cases h1 : k = 2
  · subst h1
    refine ASpec.enter Tryd.func30 rfl (fun a w => Tryd.call30 a w) Tryd.ntmps30 Tryd.results30 fun base w β hI => ?_
    refine wk wT (wA DrM.mk wT) ?_
    refine wkEnd wT ?_
    exact Fin.same ⟨rfl, rfl⟩
  · by_cases h2 : k = 3
    · subst h2
      refine ASpec.enter Tryd.func30 rfl (fun a w => Tryd.call30 a w) Tryd.ntmps30 Tryd.results30 fun base w β hI => ?_
      refine wk wT (wA DrM.mk wT) ?_
      refine wkEnd wT ?_
      exact Fin.same ⟨rfl, rfl⟩
    · rw [show tells k = false from decide_eq_false (by omega)]
      refine ASpec.enter Tryd.func30 rfl (fun a w => Tryd.call30 a w) Tryd.ntmps30 Tryd.results30 fun base w β hI => ?_
      refine wk (wA h1 (wA h2 wT)) (wA DrM.mk wT) ?_
      refine wkEnd wT ?_
      exact Fin.same ⟨rfl, rfl⟩
theorem kOk_and (k : Int) : kOk k = (decide (1 ≤ k) && decide (k < 8)) := by
  unfold kOk
  by_cases h : 1 ≤ k
  · by_cases h2 : k < 8 <;> simp [h, h2]
  · simp [h]
theorem isE {α : Type} (l : List α) : l.isEmpty = decide ((l.length : Int) = 0) := by
  cases l with
  | nil => rfl
  | cons a l => exact (decide_eq_false (by simp only [List.length_cons]; omega)).symm
theorem tkOk_eq (t : Tk) : tkOk t = (kOk t.k && ((knows t.k || decide ((t.d.length : Int) = 0)) && ((tells t.k || decide ((t.l.length : Int) = 0)) && (dgOk t.d && dlOk t.l)))) := by
  unfold tkOk
  rw [kOk_and, isE, isE, Bool.and_assoc]


set_option maxHeartbeats 4000000 in
theorem tkRight_spec (t : Tk) (ht : TkIn t) (H : List Box) : ASpec Tryd.prog 20 [.agg (tkC t)] H (Gives (vb (tkOk t)) H) := by
  have h1 := fun H => dgRight_spec t.d ht.1 H
  have h2 := fun H => dlRight_spec t.l ht.2.1 ht.2.2 H
  have he := tkOk_eq t
  generalize tkOk t = r at *
  obtain ⟨k, d, l⟩ := t
  clear ht
  dsimp only at h1 h2 he
  have hof := fun H => of_spec k H
  generalize dgOk d = rd at *
  generalize dlOk l = rl at *
  generalize knows k = kn at *
  generalize tells k = te at *
  cases hk : kOk k with
  | false =>
    rw [hk] at he hof
    simp only [Bool.false_and] at he hof
    rw [he]
    clear h1 h2
    refine ASpec.enter Tryd.func20 rfl (fun a w => Tryd.call20 a w) Tryd.ntmps20 Tryd.results20 fun base w β hI => ?_
    refine wk wT (wA hof (wA DrM.mk wT)) ?_
    refine wkEnd wT ?_
    exact Fin.cut (.v _) ⟨rfl, rfl⟩
  | true =>
    rw [hk] at he hof
    simp only [Bool.true_and] at he hof
    cases kn with
    | true =>
      simp only [Bool.true_or, Bool.true_and] at he
      cases te with
      | true =>
        simp only [Bool.true_or, Bool.true_and] at he
        cases rd with
        | false =>
          simp only [Bool.false_and] at he
          rw [he]
          clear h2
          refine ASpec.enter Tryd.func20 rfl (fun a w => Tryd.call20 a w) Tryd.ntmps20 Tryd.results20 fun base w β hI => ?_
          refine wk wT (wA hof (wA h1 (wA DrM.mk wT))) ?_
          refine wkEnd wT ?_
          exact Fin.cut (.v _) ⟨rfl, rfl⟩
        | true =>
          simp only [Bool.true_and] at he
          rw [he]
          refine ASpec.enter Tryd.func20 rfl (fun a w => Tryd.call20 a w) Tryd.ntmps20 Tryd.results20 fun base w β hI => ?_
          refine wk wT (wA hof (wA h1 (wA h2 (wA DrM.mk wT)))) ?_
          refine wkEnd wT ?_
          cases rl <;> exact Fin.cut (.v _) ⟨rfl, rfl⟩
      | false =>
        simp only [Bool.false_or] at he
        by_cases ql : (l.length : Int) = 0
        · rw [decide_eq_true ql] at he
          simp only [Bool.true_and] at he
          have el := eq_true ql
          cases rd with
          | false =>
            simp only [Bool.false_and] at he
            rw [he]
            clear h2
            refine ASpec.enter Tryd.func20 rfl (fun a w => Tryd.call20 a w) Tryd.ntmps20 Tryd.results20 fun base w β hI => ?_
            refine wk (wA el wT) (wA hof (wA h1 (wA DrM.mk wT))) ?_
            refine wkEnd wT ?_
            exact Fin.cut (.v _) ⟨rfl, rfl⟩
          | true =>
            simp only [Bool.true_and] at he
            rw [he]
            refine ASpec.enter Tryd.func20 rfl (fun a w => Tryd.call20 a w) Tryd.ntmps20 Tryd.results20 fun base w β hI => ?_
            refine wk (wA el wT) (wA hof (wA h1 (wA h2 (wA DrM.mk wT)))) ?_
            refine wkEnd wT ?_
            cases rl <;> exact Fin.cut (.v _) ⟨rfl, rfl⟩
        · rw [decide_eq_false ql] at he
          simp only [Bool.false_and] at he
          rw [he]
          clear h1 h2
          refine ASpec.enter Tryd.func20 rfl (fun a w => Tryd.call20 a w) Tryd.ntmps20 Tryd.results20 fun base w β hI => ?_
          refine wk (wA ql wT) (wA hof (wA DrM.mk wT)) ?_
          refine wkEnd wT ?_
          exact Fin.cut (.v _) ⟨rfl, rfl⟩
    | false =>
      simp only [Bool.false_or] at he
      by_cases qd : (d.length : Int) = 0
      · rw [decide_eq_true qd] at he
        simp only [Bool.true_and] at he
        have ed := eq_true qd
        cases te with
        | true =>
          simp only [Bool.true_or, Bool.true_and] at he
          cases rd with
          | false =>
            simp only [Bool.false_and] at he
            rw [he]
            clear h2
            refine ASpec.enter Tryd.func20 rfl (fun a w => Tryd.call20 a w) Tryd.ntmps20 Tryd.results20 fun base w β hI => ?_
            refine wk (wA ed wT) (wA hof (wA h1 (wA DrM.mk wT))) ?_
            refine wkEnd wT ?_
            exact Fin.cut (.v _) ⟨rfl, rfl⟩
          | true =>
            simp only [Bool.true_and] at he
            rw [he]
            refine ASpec.enter Tryd.func20 rfl (fun a w => Tryd.call20 a w) Tryd.ntmps20 Tryd.results20 fun base w β hI => ?_
            refine wk (wA ed wT) (wA hof (wA h1 (wA h2 (wA DrM.mk wT)))) ?_
            refine wkEnd wT ?_
            cases rl <;> exact Fin.cut (.v _) ⟨rfl, rfl⟩
        | false =>
          simp only [Bool.false_or] at he
          by_cases ql : (l.length : Int) = 0
          · rw [decide_eq_true ql] at he
            simp only [Bool.true_and] at he
            have el := eq_true ql
            cases rd with
            | false =>
              simp only [Bool.false_and] at he
              rw [he]
              clear h2
              refine ASpec.enter Tryd.func20 rfl (fun a w => Tryd.call20 a w) Tryd.ntmps20 Tryd.results20 fun base w β hI => ?_
              refine wk (wA ed (wA el wT)) (wA hof (wA h1 (wA DrM.mk wT))) ?_
              refine wkEnd wT ?_
              exact Fin.cut (.v _) ⟨rfl, rfl⟩
            | true =>
              simp only [Bool.true_and] at he
              rw [he]
              refine ASpec.enter Tryd.func20 rfl (fun a w => Tryd.call20 a w) Tryd.ntmps20 Tryd.results20 fun base w β hI => ?_
              refine wk (wA ed (wA el wT)) (wA hof (wA h1 (wA h2 (wA DrM.mk wT)))) ?_
              refine wkEnd wT ?_
              cases rl <;> exact Fin.cut (.v _) ⟨rfl, rfl⟩
          · rw [decide_eq_false ql] at he
            simp only [Bool.false_and] at he
            rw [he]
            clear h1 h2
            refine ASpec.enter Tryd.func20 rfl (fun a w => Tryd.call20 a w) Tryd.ntmps20 Tryd.results20 fun base w β hI => ?_
            refine wk (wA ed (wA ql wT)) (wA hof (wA DrM.mk wT)) ?_
            refine wkEnd wT ?_
            exact Fin.cut (.v _) ⟨rfl, rfl⟩
      · rw [decide_eq_false qd] at he
        simp only [Bool.false_and] at he
        rw [he]
        clear h1 h2
        refine ASpec.enter Tryd.func20 rfl (fun a w => Tryd.call20 a w) Tryd.ntmps20 Tryd.results20 fun base w β hI => ?_
        refine wk (wA qd wT) (wA hof (wA DrM.mk wT)) ?_
        refine wkEnd wT ?_
        exact Fin.cut (.v _) ⟨rfl, rfl⟩

theorem tkOk_ref (k rd rl kn te : Bool) (a b : Bool) : (k && ((kn || a) && ((te || b) && (rd && rl)))) = (k && (rd && (rl && ((kn || a) && (te || b))))) := by
  cases k <;> cases rd <;> cases rl <;> cases kn <;> cases te <;> cases a <;> cases b <;> rfl
set_option maxHeartbeats 4000000 in
theorem refTkRight_spec (t : Tk) (ht : TkIn t) (H : List Box) : ASpec Tryd.prog 15 [.agg (tkC t)] H (Gives (vb (tkOk t)) H) := by
  have h1 := fun H => refDgRight_spec t.d ht.1 H
  have h2 := fun H => refDlRight_spec t.l ht.2.1 ht.2.2 H
  have he := (tkOk_eq t).trans (tkOk_ref _ _ _ _ _ _ _)
  generalize tkOk t = r at *
  obtain ⟨k, d, l⟩ := t
  clear ht
  dsimp only at h1 h2 he
  have h3 := fun H => knows_spec k H
  have h4 := fun H => tells_spec k H
  rw [kOk_and] at he
  generalize dgOk d = rd at *
  generalize dlOk l = rl at *
  generalize knows k = kn at *
  generalize tells k = te at *
  by_cases q0 : 1 ≤ k
  rotate_left
  · rw [decide_eq_false q0] at he
    simp only [Bool.false_and] at he
    rw [he]
    clear h1 h2 h3 h4
    refine ASpec.enter Tryd.func15 rfl (fun a w => Tryd.call15 a w) Tryd.ntmps15 Tryd.results15 fun base w β hI => ?_
    refine wk (wA q0 wT) (wA DrM.mk wT) ?_
    refine wkEnd wT ?_
    exact Fin.cut (.v _) ⟨rfl, rfl⟩
  · rw [decide_eq_true q0] at he
    simp only [Bool.true_and] at he
    by_cases q1 : k ≤ 7
    rotate_left
    · rw [decide_eq_false (by omega)] at he
      simp only [Bool.false_and] at he
      rw [he]
      clear h1 h2 h3 h4
      refine ASpec.enter Tryd.func15 rfl (fun a w => Tryd.call15 a w) Tryd.ntmps15 Tryd.results15 fun base w β hI => ?_
      refine wk (wA q0 (wA q1 wT)) (wA DrM.mk wT) ?_
      refine wkEnd wT ?_
      exact Fin.cut (.v _) ⟨rfl, rfl⟩
    · rw [decide_eq_true (show k < 8 by omega)] at he
      simp only [Bool.true_and] at he
      cases rd with
      | false =>
        simp only [Bool.false_and] at he
        rw [he]
        clear h2 h3 h4
        refine ASpec.enter Tryd.func15 rfl (fun a w => Tryd.call15 a w) Tryd.ntmps15 Tryd.results15 fun base w β hI => ?_
        refine wk (wA q0 (wA q1 wT)) (wA h1 (wA DrM.mk wT)) ?_
        refine wkEnd wT ?_
        exact Fin.cut (.v _) ⟨rfl, rfl⟩
      | true =>
        simp only [Bool.true_and] at he
        cases rl with
        | false =>
          simp only [Bool.false_and] at he
          rw [he]
          clear h3 h4
          refine ASpec.enter Tryd.func15 rfl (fun a w => Tryd.call15 a w) Tryd.ntmps15 Tryd.results15 fun base w β hI => ?_
          refine wk (wA q0 (wA q1 wT)) (wA h1 (wA h2 (wA DrM.mk wT))) ?_
          refine wkEnd wT ?_
          exact Fin.cut (.v _) ⟨rfl, rfl⟩
        | true =>
          simp only [Bool.true_and] at he
          cases kn with
          | true =>
            simp only [Bool.true_or, Bool.true_and] at he
            cases te with
            | true =>
              simp only [Bool.true_or, Bool.true_and] at he
              rw [he]
              refine ASpec.enter Tryd.func15 rfl (fun a w => Tryd.call15 a w) Tryd.ntmps15 Tryd.results15 fun base w β hI => ?_
              refine wk (wA q0 (wA q1 wT)) (wA h1 (wA h2 (wA h3 (wA h4 (wA DrM.mk wT))))) ?_
              refine wkEnd wT ?_
              exact Fin.cut (.v _) ⟨rfl, rfl⟩
            | false =>
              simp only [Bool.false_or] at he
              by_cases ql : (l.length : Int) = 0
              · rw [decide_eq_true ql] at he
                try simp only [Bool.true_and] at he
                have el := eq_true ql
                rw [he]
                refine ASpec.enter Tryd.func15 rfl (fun a w => Tryd.call15 a w) Tryd.ntmps15 Tryd.results15 fun base w β hI => ?_
                refine wk (wA q0 (wA q1 (wA el wT))) (wA h1 (wA h2 (wA h3 (wA h4 (wA DrM.mk wT))))) ?_
                refine wkEnd wT ?_
                exact Fin.cut (.v _) ⟨rfl, rfl⟩
              · rw [decide_eq_false ql] at he
                try simp only [Bool.false_and] at he
                rw [he]
                refine ASpec.enter Tryd.func15 rfl (fun a w => Tryd.call15 a w) Tryd.ntmps15 Tryd.results15 fun base w β hI => ?_
                refine wk (wA q0 (wA q1 (wA ql wT))) (wA h1 (wA h2 (wA h3 (wA h4 (wA DrM.mk wT))))) ?_
                refine wkEnd wT ?_
                exact Fin.cut (.v _) ⟨rfl, rfl⟩
          | false =>
            simp only [Bool.false_or] at he
            by_cases qd : (d.length : Int) = 0
            · rw [decide_eq_true qd] at he
              try simp only [Bool.true_and] at he
              have ed := eq_true qd
              cases te with
              | true =>
                simp only [Bool.true_or, Bool.true_and] at he
                rw [he]
                refine ASpec.enter Tryd.func15 rfl (fun a w => Tryd.call15 a w) Tryd.ntmps15 Tryd.results15 fun base w β hI => ?_
                refine wk (wA q0 (wA q1 (wA ed wT))) (wA h1 (wA h2 (wA h3 (wA h4 (wA DrM.mk wT))))) ?_
                refine wkEnd wT ?_
                exact Fin.cut (.v _) ⟨rfl, rfl⟩
              | false =>
                simp only [Bool.false_or] at he
                by_cases ql : (l.length : Int) = 0
                · rw [decide_eq_true ql] at he
                  try simp only [Bool.true_and] at he
                  have el := eq_true ql
                  rw [he]
                  refine ASpec.enter Tryd.func15 rfl (fun a w => Tryd.call15 a w) Tryd.ntmps15 Tryd.results15 fun base w β hI => ?_
                  refine wk (wA q0 (wA q1 (wA ed (wA el wT)))) (wA h1 (wA h2 (wA h3 (wA h4 (wA DrM.mk wT))))) ?_
                  refine wkEnd wT ?_
                  exact Fin.cut (.v _) ⟨rfl, rfl⟩
                · rw [decide_eq_false ql] at he
                  try simp only [Bool.false_and] at he
                  rw [he]
                  refine ASpec.enter Tryd.func15 rfl (fun a w => Tryd.call15 a w) Tryd.ntmps15 Tryd.results15 fun base w β hI => ?_
                  refine wk (wA q0 (wA q1 (wA ed (wA ql wT)))) (wA h1 (wA h2 (wA h3 (wA h4 (wA DrM.mk wT))))) ?_
                  refine wkEnd wT ?_
                  exact Fin.cut (.v _) ⟨rfl, rfl⟩
            · rw [decide_eq_false qd] at he
              try simp only [Bool.false_and] at he
              rw [he]
              clear h4
              refine ASpec.enter Tryd.func15 rfl (fun a w => Tryd.call15 a w) Tryd.ntmps15 Tryd.results15 fun base w β hI => ?_
              refine wk (wA q0 (wA q1 (wA qd wT))) (wA h1 (wA h2 (wA h3 (wA DrM.mk wT)))) ?_
              refine wkEnd wT ?_
              exact Fin.cut (.v _) ⟨rfl, rfl⟩

end Go.Proofs.YtjkdahpoalnjjaaDoor.VL

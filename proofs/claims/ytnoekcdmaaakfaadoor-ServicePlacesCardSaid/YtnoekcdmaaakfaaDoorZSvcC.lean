/- Layer 15: words, and services that may be, as the program and the reference look at them. -/
import Derived.Test.YtnoekcdmaaakfaaDoorZSvcB
import Derived.Test.YtnoekcdmaaakfaaDoorZSlInt
-- STEPWISE
-- WK
set_option linter.unusedVariables false
set_option linter.unusedSimpArgs false
set_option maxRecDepth 10000
namespace Go.Proofs.YtnoekcdmaaakfaaDoor.VL
open Go Go.RowKit Go.Lib

set_option maxHeartbeats 1000000 in
theorem word_spec (s : List UInt8) (hs : s.length ≤ 9223372036854775807) (H : List Box) : ASpec Tryd.prog 13 [vs s] H (Gives (vb (wordOk s)) H) := by
  have ht := fun H => trim_spec s hs H
  have hw : wordOk s = (decide (0 < s.length) && (decide (s.length ≤ 20) && (s.all isPl && (decide (s[0]? ≠ some 45) && decide (s[s.length - 1]? ≠ some 45))))) := rfl
  unfold plainB at ht
  by_cases h0 : s = []
  · subst h0
    rw [hw]
    refine ASpec.enter Tryd.func13 rfl (fun a w => Tryd.call13 a w) Tryd.ntmps13 Tryd.results13 fun base w β hI => ?_
    refine wk wT (wA DrM.mk wT) ?_
    refine wkEnd wT ?_
    exact Fin.same ⟨rfl, rfl⟩
  have hpos : 0 < s.length := List.length_pos_iff.2 h0
  by_cases h1 : s.length ≤ 20
  · have h1' : (s.length : Int) ≤ 20 := by omega
    have hg0 : s[0]? = some s[0] := List.getElem?_eq_getElem hpos
    have hg1 : s[s.length - 1]? = some s[s.length - 1] := List.getElem?_eq_getElem (by omega)
    have hn1 : ((s.length : Int) - 1).toNat = s.length - 1 := by omega
    rw [hg0, hg1, decide_eq_true hpos, decide_eq_true h1] at hw
    generalize s[0] = c0 at hg0 hw
    generalize s[s.length - 1] = c1 at hg1 hw
    by_cases h2 : s.all isPl = true
    · have h3 := (trimF_nil isPl s).2 h2
      rw [h3] at ht
      rw [h2] at hw
      by_cases h4 : (c0.toNat : Int) = 45
      · have : c0 = 45 := UInt8.toNat_inj.1 (by rw [Int.natCast_inj.1 h4]; rfl)
        subst this
        rw [hw]
        simp only [ne_eq, not_true, decide_false, Bool.false_and, Bool.and_false]
        refine ASpec.enter Tryd.func13 rfl (fun a w => Tryd.call13 a w) Tryd.ntmps13 Tryd.results13 fun base w β hI => ?_
        refine wk (wA h0 (wA h1' (wA hg0 wT))) (wA ht (wA DrM.mk wT)) ?_
        refine wkEnd wT ?_
        exact Fin.same ⟨rfl, rfl⟩
      · have h5 : ¬ c0 = 45 := fun h => h4 (by rw [h]; rfl)
        by_cases h6 : (c1.toNat : Int) = 45
        · have : c1 = 45 := UInt8.toNat_inj.1 (by rw [Int.natCast_inj.1 h6]; rfl)
          subst this
          rw [hw]
          simp only [ne_eq, not_true, decide_false, Bool.false_and, Bool.and_false]
          refine ASpec.enter Tryd.func13 rfl (fun a w => Tryd.call13 a w) Tryd.ntmps13 Tryd.results13 fun base w β hI => ?_
          refine wk (wA h0 (wA h1' (wA hg0 (wA h4 (wA hn1 (wA hg1 wT)))))) (wA ht (wA DrM.mk wT)) ?_
          refine wkEnd wT ?_
          exact Fin.same ⟨rfl, rfl⟩
        · have h7 : ¬ c1 = 45 := fun h => h6 (by rw [h]; rfl)
          have : wordOk s = true := by rw [hw]; simp [h5, h7]
          rw [this]
          refine ASpec.enter Tryd.func13 rfl (fun a w => Tryd.call13 a w) Tryd.ntmps13 Tryd.results13 fun base w β hI => ?_
          refine wk (wA h0 (wA h1' (wA hg0 (wA h4 (wA hn1 (wA hg1 (wA h6 wT))))))) (wA ht (wA DrM.mk wT)) ?_
          refine wkEnd wT ?_
          exact Fin.same ⟨rfl, rfl⟩
    · have h3 : ¬ trimF isPl s = [] := fun h => h2 ((trimF_nil isPl s).1 h)
      have : wordOk s = false := by rw [hw, Bool.not_eq_true _ |>.mp h2]; simp
      rw [this]
      generalize trimF isPl s = u at *
      refine ASpec.enter Tryd.func13 rfl (fun a w => Tryd.call13 a w) Tryd.ntmps13 Tryd.results13 fun base w β hI => ?_
      refine wk (wA h0 (wA h1' (wA h3 wT))) (wA ht (wA DrM.mk wT)) ?_
      refine wkEnd wT ?_
      exact Fin.same ⟨rfl, rfl⟩
  · have h1' : ¬ (s.length : Int) ≤ 20 := by omega
    have : wordOk s = false := by rw [hw, decide_eq_false h1]; simp
    rw [this]
    refine ASpec.enter Tryd.func13 rfl (fun a w => Tryd.call13 a w) Tryd.ntmps13 Tryd.results13 fun base w β hI => ?_
    refine wk (wA h0 (wA h1' wT)) (wA DrM.mk wT) ?_
    refine wkEnd wT ?_
    exact Fin.same ⟨rfl, rfl⟩

set_option maxHeartbeats 2000000 in
theorem refWord_spec (s : List UInt8) (hs : s.length ≤ 9223372036854775807) (H : List Box) : ASpec Tryd.prog 14 [vs s] H (Gives (vb (wordOk s)) H) := by
  refine ASpec.enter Tryd.func14 rfl (fun a w => Tryd.call14 a w) Tryd.ntmps14 Tryd.results14 fun base w β hI => ?_
  refine wk wT (wA DrM.mk wT) ?_
  refine AWP.loop (ι := {i : Nat // i ≤ s.length ∧ i ≤ 21 ∧ ∀ (j : Nat) (c : UInt8), j < i → s[j]? = some c → okAt s j c}) (fun p => ⟨[(0, vs s), (3, vi p.1)], H⟩) (fun p => s.length - p.1) ⟨0, Nat.zero_le _, by decide, fun j c hj => absurd hj (Nat.not_lt_zero j)⟩ ?_ ?_
  · dsimp only
    exact Coe.kp
  · rintro ⟨i, hi, hi21, hall⟩
    dsimp only
    by_cases hc : (i : Int) < (s.length : Int)
    · by_cases hk : (i : Int) < 21
      · have hg : s[i]? = some s[i] := List.getElem?_eq_getElem (by omega)
        generalize s[i] = c at hg
        have bad : ¬ okAt s i c → wordOk s = false := fun hb => by
          cases hw : wordOk s with
          | false => rfl
          | true => exact absurd (((wordOk_iff s).1 hw).2 i c hg) hb
        have good : okAt s i c → ∀ (j : Nat) (d : UInt8), j < i + 1 → s[j]? = some d → okAt s j d := fun ho j d hj hd => by
          rcases Nat.lt_or_ge j i with h | h
          · exact hall j d h hd
          · obtain rfl : j = i := by omega
            rw [hg] at hd
            exact Option.some.inj hd ▸ ho
        have h45 : (c.toNat : Int) = 45 ↔ c = 45 := ⟨fun h => UInt8.toNat_inj.1 (by rw [Int.natCast_inj.1 h]; rfl), fun h => by rw [h]; rfl⟩
        by_cases a1 : (97 : Int) ≤ (c.toNat : Int)
        · by_cases a2 : (c.toNat : Int) ≤ 122
          · have hn := good (.inl (by omega))
            clear bad good hall h45
            refine wk (wA hc (wA hk (wA hg (wA a1 (wA a2 wT))))) (wA DrM.mk wT) ?_
            refine ⟨⟨i + 1, by omega, by omega, hn⟩, ?_, by dsimp only; omega⟩
            dsimp only
            exact Coe.kp
          · have a3 : (48 : Int) ≤ (c.toNat : Int) := by omega
            have a4 : ¬ (c.toNat : Int) ≤ 57 := by omega
            have a5 : ¬ (c.toNat : Int) = 45 := by omega
            have hn := bad (fun h => h.elim (fun h => by omega) (fun h => h.elim (fun h => by omega) (fun h => a5 (h45.2 h.1))))
            clear bad good hall h45
            rw [hn]
            refine wk (wA hc (wA hk (wA hg (wA a1 (wA a2 (wA a3 (wA a4 (wA a5 wT)))))))) (wA DrM.mk wT) ?_
            refine wkEnd wT ?_
            exact Fin.same ⟨rfl, rfl⟩
        · by_cases a3 : (48 : Int) ≤ (c.toNat : Int)
          · by_cases a4 : (c.toNat : Int) ≤ 57
            · have hn := good (.inr (.inl (by omega)))
              clear bad good hall h45
              refine wk (wA hc (wA hk (wA hg (wA a1 (wA a3 (wA a4 wT)))))) (wA DrM.mk wT) ?_
              refine ⟨⟨i + 1, by omega, by omega, hn⟩, ?_, by dsimp only; omega⟩
              dsimp only
              exact Coe.kp
            · have a5 : ¬ (c.toNat : Int) = 45 := by omega
              have hn := bad (fun h => h.elim (fun h => by omega) (fun h => h.elim (fun h => by omega) (fun h => a5 (h45.2 h.1))))
              clear bad good hall h45
              rw [hn]
              refine wk (wA hc (wA hk (wA hg (wA a1 (wA a3 (wA a4 (wA a5 wT))))))) (wA DrM.mk wT) ?_
              refine wkEnd wT ?_
              exact Fin.same ⟨rfl, rfl⟩
          · by_cases a5 : (c.toNat : Int) = 45
            · by_cases a6 : (0 : Int) < (i : Int)
              · by_cases a7 : (i : Int) < (s.length : Int) - 1
                · have hn := good (.inr (.inr ⟨h45.1 a5, by omega, by omega⟩))
                  clear bad good hall h45
                  refine wk (wA hc (wA hk (wA hg (wA a1 (wA a3 (wA a5 (wA a6 (wA a7 wT)))))))) (wA DrM.mk wT) ?_
                  refine ⟨⟨i + 1, by omega, by omega, hn⟩, ?_, by dsimp only; omega⟩
                  dsimp only
                  exact Coe.kp
                · have hn := bad (fun h => by rcases h with h | h | h <;> omega)
                  clear bad good hall h45
                  rw [hn]
                  refine wk (wA hc (wA hk (wA hg (wA a1 (wA a3 (wA a5 (wA a6 (wA a7 wT)))))))) (wA DrM.mk wT) ?_
                  refine wkEnd wT ?_
                  exact Fin.same ⟨rfl, rfl⟩
              · have hn := bad (fun h => by rcases h with h | h | h <;> omega)
                clear bad good hall h45
                rw [hn]
                refine wk (wA hc (wA hk (wA hg (wA a1 (wA a3 (wA a5 (wA a6 wT))))))) (wA DrM.mk wT) ?_
                refine wkEnd wT ?_
                exact Fin.same ⟨rfl, rfl⟩
            · have hn := bad (fun h => h.elim (fun h => by omega) (fun h => h.elim (fun h => by omega) (fun h => a5 (h45.2 h.1))))
              clear bad good hall h45
              rw [hn]
              refine wk (wA hc (wA hk (wA hg (wA a1 (wA a3 (wA a5 wT)))))) (wA DrM.mk wT) ?_
              refine wkEnd wT ?_
              exact Fin.same ⟨rfl, rfl⟩
      · have hw : wordOk s = false := by
          cases hw : wordOk s with
          | false => rfl
          | true => have := (wordOk_len hw).2; omega
        have g1 : (1 : Int) ≤ (s.length : Int) := by omega
        have g2 : ¬ (s.length : Int) ≤ 20 := by omega
        rw [hw]
        clear hall
        refine wk (wA hc (wA hk (wA g1 (wA g2 wT)))) (wA DrM.mk wT) ?_
        refine wkEnd wT ?_
        exact Fin.same ⟨rfl, rfl⟩
    · obtain rfl : i = s.length := by omega
      by_cases g1 : (1 : Int) ≤ (s.length : Int)
      · by_cases g2 : (s.length : Int) ≤ 20
        · have hw : wordOk s = true := (wordOk_iff s).2 ⟨by omega, fun j c hj => hall j c (List.getElem?_eq_some_iff.1 hj).1 hj⟩
          rw [hw]
          clear hall
          refine wk (wA hc (wA g1 (wA g2 wT))) (wA DrM.mk wT) ?_
          refine wkEnd wT ?_
          exact Fin.same ⟨rfl, rfl⟩
        · have hw : wordOk s = false := by
            cases hw : wordOk s with
            | false => rfl
            | true => have := (wordOk_len hw).2; omega
          rw [hw]
          clear hall
          refine wk (wA hc (wA g1 (wA g2 wT))) (wA DrM.mk wT) ?_
          refine wkEnd wT ?_
          exact Fin.same ⟨rfl, rfl⟩
      · have hw : wordOk s = false := by
          cases hw : wordOk s with
          | false => rfl
          | true => have := (wordOk_len hw).1; omega
        rw [hw]
        clear hall
        refine wk (wA hc (wA g1 wT)) (wA DrM.mk wT) ?_
        refine wkEnd wT ?_
        exact Fin.same ⟨rfl, rfl⟩

def odd16 (n : Int) : Bool := !sh16 n
theorem odd_spec (n : Int) (H : List Box) : ASpec Tryd.prog 30 [vi n] H (Gives (vb (odd16 n)) H) := by
  unfold odd16 sh16
  by_cases h0 : n < 0
  · have h1 : ¬ 0 ≤ n := by omega
    rw [decide_eq_false h1]
    refine ASpec.enter Tryd.func30 rfl (fun a w => Tryd.call30 a w) Tryd.ntmps30 Tryd.results30 fun base w β hI => ?_
    refine wk (wA h0 wT) (wA DrM.mk wT) ?_
    refine wkEnd wT ?_
    exact Fin.same ⟨rfl, rfl⟩
  · have h1 : 0 ≤ n := by omega
    rw [decide_eq_true h1]
    by_cases h2 : (65535 : Int) < n
    · have h3 : ¬ n ≤ 65535 := by omega
      rw [decide_eq_false h3]
      refine ASpec.enter Tryd.func30 rfl (fun a w => Tryd.call30 a w) Tryd.ntmps30 Tryd.results30 fun base w β hI => ?_
      refine wk (wA h0 (wA h2 wT)) (wA DrM.mk wT) ?_
      refine wkEnd wT ?_
      exact Fin.same ⟨rfl, rfl⟩
    · have h3 : n ≤ 65535 := by omega
      rw [decide_eq_true h3]
      refine ASpec.enter Tryd.func30 rfl (fun a w => Tryd.call30 a w) Tryd.ntmps30 Tryd.results30 fun base w β hI => ?_
      refine wk (wA h0 (wA h2 wT)) (wA DrM.mk wT) ?_
      refine wkEnd wT ?_
      exact Fin.same ⟨rfl, rfl⟩
theorem short_spec (n : Int) (H : List Box) : ASpec Tryd.prog 32 [vi n] H (Gives (vb (sh16 n)) H) := by
  unfold sh16
  by_cases h0 : 0 ≤ n
  · rw [decide_eq_true h0]
    by_cases h2 : n ≤ 65535
    · rw [decide_eq_true h2]
      refine ASpec.enter Tryd.func32 rfl (fun a w => Tryd.call32 a w) Tryd.ntmps32 Tryd.results32 fun base w β hI => ?_
      refine wk (wA h0 (wA h2 wT)) (wA DrM.mk wT) ?_
      refine wkEnd wT ?_
      exact Fin.same ⟨rfl, rfl⟩
    · rw [decide_eq_false h2]
      refine ASpec.enter Tryd.func32 rfl (fun a w => Tryd.call32 a w) Tryd.ntmps32 Tryd.results32 fun base w β hI => ?_
      refine wk (wA h0 (wA h2 wT)) (wA DrM.mk wT) ?_
      refine wkEnd wT ?_
      exact Fin.same ⟨rfl, rfl⟩
  · rw [decide_eq_false h0]
    refine ASpec.enter Tryd.func32 rfl (fun a w => Tryd.call32 a w) Tryd.ntmps32 Tryd.results32 fun base w β hI => ?_
    refine wk (wA h0 wT) (wA DrM.mk wT) ?_
    refine wkEnd wT ?_
    exact Fin.same ⟨rfl, rfl⟩

theorem odds3 (a b c : Int) : [a, b, c].any odd16 = !(sh16 a && (sh16 b && sh16 c)) := by
  simp only [List.any_cons, List.any_nil, odd16]
  cases sh16 a <;> cases sh16 b <;> cases sh16 c <;> rfl

set_option maxHeartbeats 1000000 in
theorem right_spec (s : Sv) (hn : s.n.length ≤ 9223372036854775807) (hp : s.p.length ≤ 9223372036854775807) (H : List Box) : ASpec Tryd.prog 11 [.agg (svC s)] H (Gives (vb (svOk s)) H) := by
  obtain ⟨n, p, o, i, w, l⟩ := s
  dsimp only at hn hp
  have h1 := fun H => word_spec n hn H
  have h2 := fun H => word_spec p hp H
  have h3 := fun H => coFInt_spec odd16 30 [] [o, i, w] (show 3 ≤ 9223372036854775807 by decide) H (fun x _ => odd_spec x H)
  rw [odds3] at h3
  have hw : svOk ⟨n, p, o, i, w, l⟩ = (wordOk n && (wordOk p && (decide (1 ≤ o) && (sh16 o && (sh16 i && sh16 w))))) := rfl
  have hint : intsG [o, i, w] = [[vi o], [vi i], [vi w]] := rfl
  rw [hint] at h3
  cases hn1 : wordOk n with
  | false =>
    rw [hn1] at h1 hw
    rw [hw]
    refine ASpec.enter Tryd.func11 rfl (fun a w => Tryd.call11 a w) Tryd.ntmps11 Tryd.results11 fun base w β hI => ?_
    refine wk wT (wA h1 (wA DrM.mk wT)) ?_
    refine wkEnd wT ?_
    exact Fin.cut (.v _) ⟨rfl, rfl⟩
  | true =>
    rw [hn1] at h1 hw
    cases hp1 : wordOk p with
    | false =>
      rw [hp1] at h2 hw
      rw [hw]
      refine ASpec.enter Tryd.func11 rfl (fun a w => Tryd.call11 a w) Tryd.ntmps11 Tryd.results11 fun base w β hI => ?_
      refine wk wT (wA h1 (wA h2 (wA DrM.mk wT))) ?_
      refine wkEnd wT ?_
      exact Fin.cut (.v _) ⟨rfl, rfl⟩
    | true =>
      rw [hp1] at h2 hw
      by_cases ho : o = 0
      · have : svOk ⟨n, p, o, i, w, l⟩ = false := by rw [hw, ho]; rfl
        rw [this]
        subst ho
        refine ASpec.enter Tryd.func11 rfl (fun a w => Tryd.call11 a w) Tryd.ntmps11 Tryd.results11 fun base w β hI => ?_
        refine wk wT (wA h1 (wA h2 (wA DrM.mk wT))) ?_
        refine wkEnd wT ?_
        exact Fin.cut (.v _) ⟨rfl, rfl⟩
      · have hoo : (decide (1 ≤ o) && (sh16 o && (sh16 i && sh16 w))) = (sh16 o && (sh16 i && sh16 w)) := by
          cases h : sh16 o with
          | false => simp
          | true => have := sh16_le h; rw [decide_eq_true (by omega)]; simp
        rw [hoo] at hw
        simp only [Bool.true_and] at hw
        rw [hw]
        generalize (sh16 o && (sh16 i && sh16 w)) = t at *
        refine ASpec.enter Tryd.func11 rfl (fun a w => Tryd.call11 a w) Tryd.ntmps11 Tryd.results11 fun base w β hI => ?_
        refine wk (wA ho wT) (wA h1 (wA h2 (wA h3 (wA DrM.mk wT)))) ?_
        refine wkEnd wT ?_
        cases t <;> exact Fin.cut (.v _) ⟨rfl, rfl⟩

set_option maxHeartbeats 1000000 in
theorem refRight15_spec (s : Sv) (hn : s.n.length ≤ 9223372036854775807) (hp : s.p.length ≤ 9223372036854775807) (H : List Box) : ASpec Tryd.prog 12 [.agg (svC s)] H (Gives (vb (svOk s)) H) := by
  obtain ⟨n, p, o, i, w, l⟩ := s
  dsimp only at hn hp
  have h1 := fun H => refWord_spec n hn H
  have h2 := fun H => refWord_spec p hp H
  have h3 := fun H => short_spec o H
  have h4 := fun H => short_spec i H
  have h5 := fun H => short_spec w H
  have hw : svOk ⟨n, p, o, i, w, l⟩ = (wordOk n && (wordOk p && (decide (1 ≤ o) && (sh16 o && (sh16 i && sh16 w))))) := rfl
  rw [hw]
  generalize wordOk n = b1 at *
  generalize wordOk p = b2 at *
  generalize sh16 o = b3 at *
  generalize sh16 i = b4 at *
  generalize sh16 w = b5 at *
  clear hw hn hp
  cases b1 with
  | false =>
    refine ASpec.enter Tryd.func12 rfl (fun a w => Tryd.call12 a w) Tryd.ntmps12 Tryd.results12 fun base w β hI => ?_
    refine wk wT (wA h1 (wA DrM.mk wT)) ?_
    refine wkEnd wT ?_
    exact Fin.cut (.v _) ⟨rfl, rfl⟩
  | true =>
    cases b2 with
    | false =>
      refine ASpec.enter Tryd.func12 rfl (fun a w => Tryd.call12 a w) Tryd.ntmps12 Tryd.results12 fun base w β hI => ?_
      refine wk wT (wA h1 (wA h2 (wA DrM.mk wT))) ?_
      refine wkEnd wT ?_
      exact Fin.cut (.v _) ⟨rfl, rfl⟩
    | true =>
      by_cases ho : (1 : Int) ≤ o
      · rw [decide_eq_true ho]
        cases b3 with
        | false =>
          refine ASpec.enter Tryd.func12 rfl (fun a w => Tryd.call12 a w) Tryd.ntmps12 Tryd.results12 fun base w β hI => ?_
          refine wk (wA ho wT) (wA h1 (wA h2 (wA h3 (wA DrM.mk wT)))) ?_
          refine wkEnd wT ?_
          exact Fin.cut (.v _) ⟨rfl, rfl⟩
        | true =>
          cases b4 with
          | false =>
            refine ASpec.enter Tryd.func12 rfl (fun a w => Tryd.call12 a w) Tryd.ntmps12 Tryd.results12 fun base w β hI => ?_
            refine wk (wA ho wT) (wA h1 (wA h2 (wA h3 (wA h4 (wA DrM.mk wT))))) ?_
            refine wkEnd wT ?_
            exact Fin.cut (.v _) ⟨rfl, rfl⟩
          | true =>
            refine ASpec.enter Tryd.func12 rfl (fun a w => Tryd.call12 a w) Tryd.ntmps12 Tryd.results12 fun base w β hI => ?_
            refine wk (wA ho wT) (wA h1 (wA h2 (wA h3 (wA h4 (wA h5 (wA DrM.mk wT)))))) ?_
            refine wkEnd wT ?_
            cases b5 <;> exact Fin.cut (.v _) ⟨rfl, rfl⟩
      · rw [decide_eq_false ho]
        refine ASpec.enter Tryd.func12 rfl (fun a w => Tryd.call12 a w) Tryd.ntmps12 Tryd.results12 fun base w β hI => ?_
        refine wk (wA ho wT) (wA h1 (wA h2 (wA DrM.mk wT))) ?_
        refine wkEnd wT ?_
        exact Fin.cut (.v _) ⟨rfl, rfl⟩

end Go.Proofs.YtnoekcdmaaakfaaDoor.VL

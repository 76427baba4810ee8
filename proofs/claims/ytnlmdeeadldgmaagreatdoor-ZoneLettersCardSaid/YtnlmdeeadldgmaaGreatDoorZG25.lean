/- Layer 15: words, and services that may be, as the program and the reference look at them. -/
import Derived.Test.YtnlmdeeadldgmaaGreatDoorZG24
import Derived.Test.YtnlmdeeadldgmaaGreatDoorZG23
-- STEPWISE
-- WK
set_option linter.unusedVariables false
set_option linter.unusedSimpArgs false
set_option maxRecDepth 10000
namespace Go.Proofs.YtnlmdeeadldgmaaGreatDoor.VL
open Go Go.RowKit Go.Lib

set_option maxHeartbeats 1000000 in
theorem svWord_spec (s : List UInt8) (hs : s.length ≤ 9223372036854775807) (H : List Box) : ASpec Tryz.prog 175 [vs s] H (Gives (vb (wordOk s)) H) := by
  have ht := fun H => trim_spec s hs H
  have hw : wordOk s = (decide (0 < s.length) && (decide (s.length ≤ 20) && (s.all isPl && (decide (s[0]? ≠ some 45) && decide (s[s.length - 1]? ≠ some 45))))) := rfl
  unfold plainB at ht
  by_cases h0 : s = []
  · subst h0
    rw [hw]
    refine ASpec.enter Tryz.func175 rfl (fun a w => Tryz.call175 a w) Tryz.ntmps175 Tryz.results175 fun base w β hI => ?_
    refine wk wT (wA DrM.mk wT) ?_
    refine wkEnd wT ?_
    exact Fin.same ⟨rfl, rfl⟩
  have hpos : 0 < s.length := List.length_pos_iff.2 h0
  by_cases h1 : s.length ≤ 20
  · have h1' : (s.length : Int) ≤ 20 := by omega
    have hg0 : s[0]? = some s[0] := List.getElem?_eq_getElem hpos
    have hg1 : s[s.length - 1]? = some s[s.length - 1] := List.getElem?_eq_getElem (by omega)
    have hn1 : ((s.length : Int) - 1).toNat = s.length - 1 := by omega
    rw [hg0, hg1, decide_eq_true hpos, decide_eq_true h1] at hw
    generalize s[0] = c0 at hg0 hw
    generalize s[s.length - 1] = c1 at hg1 hw
    by_cases h2 : s.all isPl = true
    · have h3 := (trimF_nil isPl s).2 h2
      rw [h3] at ht
      rw [h2] at hw
      by_cases h4 : (c0.toNat : Int) = 45
      · have : c0 = 45 := UInt8.toNat_inj.1 (by rw [Int.natCast_inj.1 h4]; rfl)
        subst this
        rw [hw]
        simp only [ne_eq, not_true, decide_false, Bool.false_and, Bool.and_false]
        refine ASpec.enter Tryz.func175 rfl (fun a w => Tryz.call175 a w) Tryz.ntmps175 Tryz.results175 fun base w β hI => ?_
        refine wk (wA h0 (wA h1' (wA hg0 wT))) (wA ht (wA DrM.mk wT)) ?_
        refine wkEnd wT ?_
        exact Fin.same ⟨rfl, rfl⟩
      · have h5 : ¬ c0 = 45 := fun h => h4 (by rw [h]; rfl)
        by_cases h6 : (c1.toNat : Int) = 45
        · have : c1 = 45 := UInt8.toNat_inj.1 (by rw [Int.natCast_inj.1 h6]; rfl)
          subst this
          rw [hw]
          simp only [ne_eq, not_true, decide_false, Bool.false_and, Bool.and_false]
          refine ASpec.enter Tryz.func175 rfl (fun a w => Tryz.call175 a w) Tryz.ntmps175 Tryz.results175 fun base w β hI => ?_
          refine wk (wA h0 (wA h1' (wA hg0 (wA h4 (wA hn1 (wA hg1 wT)))))) (wA ht (wA DrM.mk wT)) ?_
          refine wkEnd wT ?_
          exact Fin.same ⟨rfl, rfl⟩
        · have h7 : ¬ c1 = 45 := fun h => h6 (by rw [h]; rfl)
          have : wordOk s = true := by rw [hw]; simp [h5, h7]
          rw [this]
          refine ASpec.enter Tryz.func175 rfl (fun a w => Tryz.call175 a w) Tryz.ntmps175 Tryz.results175 fun base w β hI => ?_
          refine wk (wA h0 (wA h1' (wA hg0 (wA h4 (wA hn1 (wA hg1 (wA h6 wT))))))) (wA ht (wA DrM.mk wT)) ?_
          refine wkEnd wT ?_
          exact Fin.same ⟨rfl, rfl⟩
    · have h3 : ¬ trimF isPl s = [] := fun h => h2 ((trimF_nil isPl s).1 h)
      have : wordOk s = false := by rw [hw, Bool.not_eq_true _ |>.mp h2]; simp
      rw [this]
      generalize trimF isPl s = u at *
      refine ASpec.enter Tryz.func175 rfl (fun a w => Tryz.call175 a w) Tryz.ntmps175 Tryz.results175 fun base w β hI => ?_
      refine wk (wA h0 (wA h1' (wA h3 wT))) (wA ht (wA DrM.mk wT)) ?_
      refine wkEnd wT ?_
      exact Fin.same ⟨rfl, rfl⟩
  · have h1' : ¬ (s.length : Int) ≤ 20 := by omega
    have : wordOk s = false := by rw [hw, decide_eq_false h1]; simp
    rw [this]
    refine ASpec.enter Tryz.func175 rfl (fun a w => Tryz.call175 a w) Tryz.ntmps175 Tryz.results175 fun base w β hI => ?_
    refine wk (wA h0 (wA h1' wT)) (wA DrM.mk wT) ?_
    refine wkEnd wT ?_
    exact Fin.same ⟨rfl, rfl⟩

set_option maxHeartbeats 2000000 in
theorem svRefWord_spec (s : List UInt8) (hs : s.length ≤ 9223372036854775807) (H : List Box) : ASpec Tryz.prog 85 [vs s] H (Gives (vb (wordOk s)) H) := by
  refine ASpec.enter Tryz.func85 rfl (fun a w => Tryz.call85 a w) Tryz.ntmps85 Tryz.results85 fun base w β hI => ?_
  refine wk wT (wA DrM.mk wT) ?_
  refine AWP.loop (ι := {i : Nat // i ≤ s.length ∧ i ≤ 21 ∧ ∀ (j : Nat) (c : UInt8), j < i → s[j]? = some c → okAt s j c}) (fun p => ⟨[(0, vs s), (3, vi p.1)], H⟩) (fun p => s.length - p.1) ⟨0, Nat.zero_le _, by decide, fun j c hj => absurd hj (Nat.not_lt_zero j)⟩ ?_ ?_
  · dsimp only
    exact Coe.kp
  · rintro ⟨i, hi, hi21, hall⟩
    dsimp only
    by_cases hc : (i : Int) < (s.length : Int)
    · by_cases hk : (i : Int) < 21
      · have hg : s[i]? = some s[i] := List.getElem?_eq_getElem (by omega)
        generalize s[i] = c at hg
        have bad : ¬ okAt s i c → wordOk s = false := fun hb => by
          cases hw : wordOk s with
          | false => rfl
          | true => exact absurd (((wordOk_iff s).1 hw).2 i c hg) hb
        have good : okAt s i c → ∀ (j : Nat) (d : UInt8), j < i + 1 → s[j]? = some d → okAt s j d := fun ho j d hj hd => by
          rcases Nat.lt_or_ge j i with h | h
          · exact hall j d h hd
          · obtain rfl : j = i := by omega
            rw [hg] at hd
            exact Option.some.inj hd ▸ ho
        have h45 : (c.toNat : Int) = 45 ↔ c = 45 := ⟨fun h => UInt8.toNat_inj.1 (by rw [Int.natCast_inj.1 h]; rfl), fun h => by rw [h]; rfl⟩
        by_cases a1 : (97 : Int) ≤ (c.toNat : Int)
        · by_cases a2 : (c.toNat : Int) ≤ 122
          · have hn := good (.inl (by omega))
            clear bad good hall h45
            refine wk (wA hc (wA hk (wA hg (wA a1 (wA a2 wT))))) (wA DrM.mk wT) ?_
            refine ⟨⟨i + 1, by omega, by omega, hn⟩, ?_, by dsimp only; omega⟩
            dsimp only
            exact Coe.kp
          · have a3 : (48 : Int) ≤ (c.toNat : Int) := by omega
            have a4 : ¬ (c.toNat : Int) ≤ 57 := by omega
            have a5 : ¬ (c.toNat : Int) = 45 := by omega
            have hn := bad (fun h => h.elim (fun h => by omega) (fun h => h.elim (fun h => by omega) (fun h => a5 (h45.2 h.1))))
            clear bad good hall h45
            rw [hn]
            refine wk (wA hc (wA hk (wA hg (wA a1 (wA a2 (wA a3 (wA a4 (wA a5 wT)))))))) (wA DrM.mk wT) ?_
            refine wkEnd wT ?_
            exact Fin.same ⟨rfl, rfl⟩
        · by_cases a3 : (48 : Int) ≤ (c.toNat : Int)
          · by_cases a4 : (c.toNat : Int) ≤ 57
            · have hn := good (.inr (.inl (by omega)))
              clear bad good hall h45
              refine wk (wA hc (wA hk (wA hg (wA a1 (wA a3 (wA a4 wT)))))) (wA DrM.mk wT) ?_
              refine ⟨⟨i + 1, by omega, by omega, hn⟩, ?_, by dsimp only; omega⟩
              dsimp only
              exact Coe.kp
            · have a5 : ¬ (c.toNat : Int) = 45 := by omega
              have hn := bad (fun h => h.elim (fun h => by omega) (fun h => h.elim (fun h => by omega) (fun h => a5 (h45.2 h.1))))
              clear bad good hall h45
              rw [hn]
              refine wk (wA hc (wA hk (wA hg (wA a1 (wA a3 (wA a4 (wA a5 wT))))))) (wA DrM.mk wT) ?_
              refine wkEnd wT ?_
              exact Fin.same ⟨rfl, rfl⟩
          · by_cases a5 : (c.toNat : Int) = 45
            · by_cases a6 : (0 : Int) < (i : Int)
              · by_cases a7 : (i : Int) < (s.length : Int) - 1
                · have hn := good (.inr (.inr ⟨h45.1 a5, by omega, by omega⟩))
                  clear bad good hall h45
                  refine wk (wA hc (wA hk (wA hg (wA a1 (wA a3 (wA a5 (wA a6 (wA a7 wT)))))))) (wA DrM.mk wT) ?_
                  refine ⟨⟨i + 1, by omega, by omega, hn⟩, ?_, by dsimp only; omega⟩
                  dsimp only
                  exact Coe.kp
                · have hn := bad (fun h => by rcases h with h | h | h <;> omega)
                  clear bad good hall h45
                  rw [hn]
                  refine wk (wA hc (wA hk (wA hg (wA a1 (wA a3 (wA a5 (wA a6 (wA a7 wT)))))))) (wA DrM.mk wT) ?_
                  refine wkEnd wT ?_
                  exact Fin.same ⟨rfl, rfl⟩
              · have hn := bad (fun h => by rcases h with h | h | h <;> omega)
                clear bad good hall h45
                rw [hn]
                refine wk (wA hc (wA hk (wA hg (wA a1 (wA a3 (wA a5 (wA a6 wT))))))) (wA DrM.mk wT) ?_
                refine wkEnd wT ?_
                exact Fin.same ⟨rfl, rfl⟩
            · have hn := bad (fun h => h.elim (fun h => by omega) (fun h => h.elim (fun h => by omega) (fun h => a5 (h45.2 h.1))))
              clear bad good hall h45
              rw [hn]
              refine wk (wA hc (wA hk (wA hg (wA a1 (wA a3 (wA a5 wT)))))) (wA DrM.mk wT) ?_
              refine wkEnd wT ?_
              exact Fin.same ⟨rfl, rfl⟩
      · have hw : wordOk s = false := by
          cases hw : wordOk s with
          | false => rfl
          | true => have := (wordOk_len hw).2; omega
        have g1 : (1 : Int) ≤ (s.length : Int) := by omega
        have g2 : ¬ (s.length : Int) ≤ 20 := by omega
        rw [hw]
        clear hall
        refine wk (wA hc (wA hk (wA g1 (wA g2 wT)))) (wA DrM.mk wT) ?_
        refine wkEnd wT ?_
        exact Fin.same ⟨rfl, rfl⟩
    · obtain rfl : i = s.length := by omega
      by_cases g1 : (1 : Int) ≤ (s.length : Int)
      · by_cases g2 : (s.length : Int) ≤ 20
        · have hw : wordOk s = true := (wordOk_iff s).2 ⟨by omega, fun j c hj => hall j c (List.getElem?_eq_some_iff.1 hj).1 hj⟩
          rw [hw]
          clear hall
          refine wk (wA hc (wA g1 (wA g2 wT))) (wA DrM.mk wT) ?_
          refine wkEnd wT ?_
          exact Fin.same ⟨rfl, rfl⟩
        · have hw : wordOk s = false := by
            cases hw : wordOk s with
            | false => rfl
            | true => have := (wordOk_len hw).2; omega
          rw [hw]
          clear hall
          refine wk (wA hc (wA g1 (wA g2 wT))) (wA DrM.mk wT) ?_
          refine wkEnd wT ?_
          exact Fin.same ⟨rfl, rfl⟩
      · have hw : wordOk s = false := by
          cases hw : wordOk s with
          | false => rfl
          | true => have := (wordOk_len hw).1; omega
        rw [hw]
        clear hall
        refine wk (wA hc (wA g1 wT)) (wA DrM.mk wT) ?_
        refine wkEnd wT ?_
        exact Fin.same ⟨rfl, rfl⟩

def odd16 (n : Int) : Bool := !sh16 n
theorem svOdd_spec (n : Int) (H : List Box) : ASpec Tryz.prog 174 [vi n] H (Gives (vb (odd16 n)) H) := by
  unfold odd16 sh16
  by_cases h0 : n < 0
  · have h1 : ¬ 0 ≤ n := by omega
    rw [decide_eq_false h1]
    refine ASpec.enter Tryz.func174 rfl (fun a w => Tryz.call174 a w) Tryz.ntmps174 Tryz.results174 fun base w β hI => ?_
    refine wk (wA h0 wT) (wA DrM.mk wT) ?_
    refine wkEnd wT ?_
    exact Fin.same ⟨rfl, rfl⟩
  · have h1 : 0 ≤ n := by omega
    rw [decide_eq_true h1]
    by_cases h2 : (65535 : Int) < n
    · have h3 : ¬ n ≤ 65535 := by omega
      rw [decide_eq_false h3]
      refine ASpec.enter Tryz.func174 rfl (fun a w => Tryz.call174 a w) Tryz.ntmps174 Tryz.results174 fun base w β hI => ?_
      refine wk (wA h0 (wA h2 wT)) (wA DrM.mk wT) ?_
      refine wkEnd wT ?_
      exact Fin.same ⟨rfl, rfl⟩
    · have h3 : n ≤ 65535 := by omega
      rw [decide_eq_true h3]
      refine ASpec.enter Tryz.func174 rfl (fun a w => Tryz.call174 a w) Tryz.ntmps174 Tryz.results174 fun base w β hI => ?_
      refine wk (wA h0 (wA h2 wT)) (wA DrM.mk wT) ?_
      refine wkEnd wT ?_
      exact Fin.same ⟨rfl, rfl⟩
theorem svShort_spec (n : Int) (H : List Box) : ASpec Tryz.prog 86 [vi n] H (Gives (vb (sh16 n)) H) := by
  unfold sh16
  by_cases h0 : 0 ≤ n
  · rw [decide_eq_true h0]
    by_cases h2 : n ≤ 65535
    · rw [decide_eq_true h2]
      refine ASpec.enter Tryz.func86 rfl (fun a w => Tryz.call86 a w) Tryz.ntmps86 Tryz.results86 fun base w β hI => ?_
      refine wk (wA h0 (wA h2 wT)) (wA DrM.mk wT) ?_
      refine wkEnd wT ?_
      exact Fin.same ⟨rfl, rfl⟩
    · rw [decide_eq_false h2]
      refine ASpec.enter Tryz.func86 rfl (fun a w => Tryz.call86 a w) Tryz.ntmps86 Tryz.results86 fun base w β hI => ?_
      refine wk (wA h0 (wA h2 wT)) (wA DrM.mk wT) ?_
      refine wkEnd wT ?_
      exact Fin.same ⟨rfl, rfl⟩
  · rw [decide_eq_false h0]
    refine ASpec.enter Tryz.func86 rfl (fun a w => Tryz.call86 a w) Tryz.ntmps86 Tryz.results86 fun base w β hI => ?_
    refine wk (wA h0 wT) (wA DrM.mk wT) ?_
    refine wkEnd wT ?_
    exact Fin.same ⟨rfl, rfl⟩

theorem odds3 (a b c : Int) : [a, b, c].any odd16 = !(sh16 a && (sh16 b && sh16 c)) := by
  simp only [List.any_cons, List.any_nil, odd16]
  cases sh16 a <;> cases sh16 b <;> cases sh16 c <;> rfl

set_option maxHeartbeats 1000000 in
theorem svRight_spec (s : Sv) (hn : s.n.length ≤ 9223372036854775807) (hp : s.p.length ≤ 9223372036854775807) (H : List Box) : ASpec Tryz.prog 169 [.agg (svC s)] H (Gives (vb (svOk s)) H) := by
  obtain ⟨n, p, o, i, w, l⟩ := s
  dsimp only at hn hp
  have h1 := fun H => svWord_spec n hn H
  have h2 := fun H => svWord_spec p hp H
  have h3 := fun H => coFInt_spec odd16 174 [] [o, i, w] (show 3 ≤ 9223372036854775807 by decide) H (fun x _ => svOdd_spec x H)
  rw [odds3] at h3
  have hw : svOk ⟨n, p, o, i, w, l⟩ = (wordOk n && (wordOk p && (decide (1 ≤ o) && (sh16 o && (sh16 i && sh16 w))))) := rfl
  have hint : intsG [o, i, w] = [[vi o], [vi i], [vi w]] := rfl
  rw [hint] at h3
  cases hn1 : wordOk n with
  | false =>
    rw [hn1] at h1 hw
    rw [hw]
    refine ASpec.enter Tryz.func169 rfl (fun a w => Tryz.call169 a w) Tryz.ntmps169 Tryz.results169 fun base w β hI => ?_
    refine wk wT (wA h1 (wA DrM.mk wT)) ?_
    refine wkEnd wT ?_
    exact Fin.cut (.v _) ⟨rfl, rfl⟩
  | true =>
    rw [hn1] at h1 hw
    cases hp1 : wordOk p with
    | false =>
      rw [hp1] at h2 hw
      rw [hw]
      refine ASpec.enter Tryz.func169 rfl (fun a w => Tryz.call169 a w) Tryz.ntmps169 Tryz.results169 fun base w β hI => ?_
      refine wk wT (wA h1 (wA h2 (wA DrM.mk wT))) ?_
      refine wkEnd wT ?_
      exact Fin.cut (.v _) ⟨rfl, rfl⟩
    | true =>
      rw [hp1] at h2 hw
      by_cases ho : o = 0
      · have : svOk ⟨n, p, o, i, w, l⟩ = false := by rw [hw, ho]; rfl
        rw [this]
        subst ho
        refine ASpec.enter Tryz.func169 rfl (fun a w => Tryz.call169 a w) Tryz.ntmps169 Tryz.results169 fun base w β hI => ?_
        refine wk wT (wA h1 (wA h2 (wA DrM.mk wT))) ?_
        refine wkEnd wT ?_
        exact Fin.cut (.v _) ⟨rfl, rfl⟩
      · have hoo : (decide (1 ≤ o) && (sh16 o && (sh16 i && sh16 w))) = (sh16 o && (sh16 i && sh16 w)) := by
          cases h : sh16 o with
          | false => simp
          | true => have := sh16_le h; rw [decide_eq_true (by omega)]; simp
        rw [hoo] at hw
        simp only [Bool.true_and] at hw
        rw [hw]
        generalize (sh16 o && (sh16 i && sh16 w)) = t at *
        refine ASpec.enter Tryz.func169 rfl (fun a w => Tryz.call169 a w) Tryz.ntmps169 Tryz.results169 fun base w β hI => ?_
        refine wk (wA ho wT) (wA h1 (wA h2 (wA h3 (wA DrM.mk wT)))) ?_
        refine wkEnd wT ?_
        cases t <;> exact Fin.cut (.v _) ⟨rfl, rfl⟩

set_option maxHeartbeats 1000000 in
theorem svRefRight_spec (s : Sv) (hn : s.n.length ≤ 9223372036854775807) (hp : s.p.length ≤ 9223372036854775807) (H : List Box) : ASpec Tryz.prog 46 [.agg (svC s)] H (Gives (vb (svOk s)) H) := by
  obtain ⟨n, p, o, i, w, l⟩ := s
  dsimp only at hn hp
  have h1 := fun H => svRefWord_spec n hn H
  have h2 := fun H => svRefWord_spec p hp H
  have h3 := fun H => svShort_spec o H
  have h4 := fun H => svShort_spec i H
  have h5 := fun H => svShort_spec w H
  have hw : svOk ⟨n, p, o, i, w, l⟩ = (wordOk n && (wordOk p && (decide (1 ≤ o) && (sh16 o && (sh16 i && sh16 w))))) := rfl
  rw [hw]
  generalize wordOk n = b1 at *
  generalize wordOk p = b2 at *
  generalize sh16 o = b3 at *
  generalize sh16 i = b4 at *
  generalize sh16 w = b5 at *
  clear hw hn hp
  cases b1 with
  | false =>
    refine ASpec.enter Tryz.func46 rfl (fun a w => Tryz.call46 a w) Tryz.ntmps46 Tryz.results46 fun base w β hI => ?_
    refine wk wT (wA h1 (wA DrM.mk wT)) ?_
    refine wkEnd wT ?_
    exact Fin.cut (.v _) ⟨rfl, rfl⟩
  | true =>
    cases b2 with
    | false =>
      refine ASpec.enter Tryz.func46 rfl (fun a w => Tryz.call46 a w) Tryz.ntmps46 Tryz.results46 fun base w β hI => ?_
      refine wk wT (wA h1 (wA h2 (wA DrM.mk wT))) ?_
      refine wkEnd wT ?_
      exact Fin.cut (.v _) ⟨rfl, rfl⟩
    | true =>
      by_cases ho : (1 : Int) ≤ o
      · rw [decide_eq_true ho]
        cases b3 with
        | false =>
          refine ASpec.enter Tryz.func46 rfl (fun a w => Tryz.call46 a w) Tryz.ntmps46 Tryz.results46 fun base w β hI => ?_
          refine wk (wA ho wT) (wA h1 (wA h2 (wA h3 (wA DrM.mk wT)))) ?_
          refine wkEnd wT ?_
          exact Fin.cut (.v _) ⟨rfl, rfl⟩
        | true =>
          cases b4 with
          | false =>
            refine ASpec.enter Tryz.func46 rfl (fun a w => Tryz.call46 a w) Tryz.ntmps46 Tryz.results46 fun base w β hI => ?_
            refine wk (wA ho wT) (wA h1 (wA h2 (wA h3 (wA h4 (wA DrM.mk wT))))) ?_
            refine wkEnd wT ?_
            exact Fin.cut (.v _) ⟨rfl, rfl⟩
          | true =>
            refine ASpec.enter Tryz.func46 rfl (fun a w => Tryz.call46 a w) Tryz.ntmps46 Tryz.results46 fun base w β hI => ?_
            refine wk (wA ho wT) (wA h1 (wA h2 (wA h3 (wA h4 (wA h5 (wA DrM.mk wT)))))) ?_
            refine wkEnd wT ?_
            cases b5 <;> exact Fin.cut (.v _) ⟨rfl, rfl⟩
      · rw [decide_eq_false ho]
        refine ASpec.enter Tryz.func46 rfl (fun a w => Tryz.call46 a w) Tryz.ntmps46 Tryz.results46 fun base w β hI => ?_
        refine wk (wA ho wT) (wA h1 (wA h2 (wA DrM.mk wT))) ?_
        refine wkEnd wT ?_
        exact Fin.cut (.v _) ⟨rfl, rfl⟩

end Go.Proofs.YtnlmdeeadldgmaaGreatDoor.VL

/- Layer 15: a service's value, and a value's service, as the program lays and reads them. -/
-- STEPWISE
-- WK
set_option linter.unusedVariables false
set_option linter.unusedSimpArgs false
set_option maxRecDepth 10000
namespace Go.Proofs.YtnlmdeeadldgmaaGreatDoor.VL
open Go Go.RowKit Go.Lib

def svV (x : Sv × Int) : AV := .tup [.agg (svC x.1), vi x.2]
def enV (x : List UInt8 × Int) : AV := .tup [vs x.1, vi x.2]
theorem ltS6 {n : Nat} (a b c d e f g : Value) : Lt n (.tup [.agg [.v a, .v b, .v c, .v d, .v e, .v f], .v g]) := .tup _ fun i x hi => by
  rcases i with _ | _ | i <;> simp at hi <;> subst hi
  · exact .agg _ fun i x hi => by rcases i with _ | _ | _ | _ | _ | _ | i <;> simp at hi <;> subst hi <;> exact .v _
  · exact .v _
theorem numB_le9 (n : Int) : (numB n).length ≤ 9 := numB_length_le n

end Go.Proofs.YtnlmdeeadldgmaaGreatDoor.VL

/- Layer 15: a service's value, as the reference lays it; a value's service, as the program reads it. -/
-- STEPWISE
-- WK
set_option linter.unusedVariables false
set_option linter.unusedSimpArgs false
set_option maxRecDepth 10000
namespace Go.Proofs.YtnlmdeeadldgmaaGreatDoor.VL
open Go Go.RowKit Go.Lib

set_option maxHeartbeats 2000000 in
theorem svRefEncode_spec (s : Sv) (hn : s.n.length ≤ 9223372036854775807) (hp : s.p.length ≤ 9223372036854775807) (H : List Box) : ASpec Tryz.prog 49 [.agg (svC s)] H (Gives (enV (encS s)) H) := by
  have h0 := fun H => svRefRight_spec s hn hp H
  unfold encS
  cases ho : svOk s with
  | false =>
    rw [ho] at h0
    rw [if_neg (by simp)]
    refine ASpec.enter Tryz.func49 rfl (fun a w => Tryz.call49 a w) Tryz.ntmps49 Tryz.results49 fun base w β hI => ?_
    refine wk wT (wA h0 (wA DrM.mk wT)) ?_
    refine wkEnd wT ?_
    exact Fin.cut (ltVV _ _) ⟨rfl, rfl⟩
  | true =>
    rw [ho] at h0
    rw [if_pos rfl]
    have hw := ho
    unfold svOk at hw
    simp only [Bool.and_eq_true, decide_eq_true_eq] at hw
    obtain ⟨hw1, hw2, _⟩ := hw
    obtain ⟨_, n20⟩ := wordOk_len hw1
    obtain ⟨_, p20⟩ := wordOk_len hw2
    obtain ⟨n, p, o, i, w, l⟩ := s
    dsimp only at n20 p20
    have l1 := numB_le9 n.length
    have l2 := numB_le9 p.length
    have h1 := fun H => (refText_spec [] n (by simp) (by omega) H).froz
    rw [List.nil_append] at h1
    have hl1 : (numB n.length ++ n).length ≤ 29 := by rw [List.length_append]; omega
    have h2 := fun H => (refText_spec (numB n.length ++ n) p (by omega) (by omega) H).froz
    have eb : encB ⟨n, p, o, i, w, l⟩ = numB n.length ++ n ++ (numB p.length ++ p) ++ numB o ++ numB i ++ numB w ++ numB (b01 l) := by
      simp only [encB, textB, numsB, List.flatMap_cons, List.flatMap_nil, List.append_nil, List.append_assoc]
    rw [eb]
    generalize numB n.length ++ n = A at *
    have hl2 : (A ++ (numB p.length ++ p)).length ≤ 58 := by rw [List.length_append, List.length_append]; omega
    generalize A ++ (numB p.length ++ p) = B at *
    have h3 := fun H => (refNum_spec B (by omega) o H).froz
    have hl3 : (B ++ numB o).length ≤ 67 := by have := numB_le9 o; rw [List.length_append]; omega
    generalize B ++ numB o = C at *
    have h4 := fun H => (refNum_spec C (by omega) i H).froz
    have hl4 : (C ++ numB i).length ≤ 76 := by have := numB_le9 i; rw [List.length_append]; omega
    generalize C ++ numB i = D at *
    have h5 := fun H => (refNum_spec D (by omega) w H).froz
    have hl5 : (D ++ numB w).length ≤ 85 := by have := numB_le9 w; rw [List.length_append]; omega
    generalize D ++ numB w = F at *
    cases l with
    | false =>
      have h6 := fun H => (refNum_spec F (by omega) 0 H).froz
      have hl6 : (F ++ numB 0).length ≤ 94 := by have := numB_le9 0; rw [List.length_append]; omega
      rw [show b01 false = 0 from rfl]
      generalize F ++ numB 0 = G at *
      refine ASpec.enter Tryz.func49 rfl (fun a w => Tryz.call49 a w) Tryz.ntmps49 Tryz.results49 fun base w β hI => ?_
      refine wkE wT (wA h0 (wA h1 (wA h2 (wA h3 (wA h4 (wA h5 (wA h6 (wA DrM.mk wT)))))))) ?_
      refine wkEnd wT ?_
      exact Fin.cut (ltVV _ _) ⟨rfl, rfl⟩
    | true =>
      have h6 := fun H => (refNum_spec F (by omega) 1 H).froz
      have hl6 : (F ++ numB 1).length ≤ 94 := by have := numB_le9 1; rw [List.length_append]; omega
      rw [show b01 true = 1 from rfl]
      generalize F ++ numB 1 = G at *
      refine ASpec.enter Tryz.func49 rfl (fun a w => Tryz.call49 a w) Tryz.ntmps49 Tryz.results49 fun base w β hI => ?_
      refine wkE wT (wA h0 (wA h1 (wA h2 (wA h3 (wA h4 (wA h5 (wA h6 (wA DrM.mk wT)))))))) ?_
      refine wkEnd wT ?_
      exact Fin.cut (ltVV _ _) ⟨rfl, rfl⟩

/-- Numbers as cells. -/
def intsC (l : List Int) : List AV := l.map vi
@[go_sem] theorem intC_length (l : List Int) : (intsC l).length = l.length := by simp [intsC]
@[go_sem] theorem intC_set (l : List Int) (i : Nat) (x : Int) : (intsC l).set i (.v (.int .i64 x)) = intsC (l.set i x) := by simp [intsC, List.map_set]
theorem list4 {l : List Int} (h : l.length = 4) : ∃ a b c d, l = [a, b, c, d] := by
  match l, h with
  | [a, b, c, d], _ => exact ⟨a, b, c, d, rfl⟩
set_option maxHeartbeats 4000000 in
theorem svDecode_spec (v : List UInt8) (hv : v.length ≤ 1099511627776) (H : List Box) : ASpec Tryz.prog 153 [vs v] H (Gives (svV (decS v)) H) := by
  have t1 := fun H => takeText_spec' v 20 hv H
  have f1 := tt_facts v 20
  unfold decS
  generalize tt v 20 = x1 at *
  obtain ⟨n, r1, e1⟩ := x1
  dsimp only at f1 ⊢
  by_cases h1 : e1 = 0
  · subst h1
    rw [if_neg (by simp)]
    have t2 := fun H => takeText_spec' r1 20 (by omega) H
    have er1 : rs r1 0 = r1 := rfl
    rw [er1] at t1
    have f2 := tt_facts r1 20
    generalize tt r1 20 = x2 at *
    obtain ⟨p, r2, e2⟩ := x2
    dsimp only at f2 ⊢
    have e0 : tk4 r2 e2 0 = ([0, 0, 0, 0], r2, e2) := rfl
    refine ASpec.enter Tryz.func153 rfl (fun a w => Tryz.call153 a w) Tryz.ntmps153 Tryz.results153 fun base w β hI => ?_
    refine wk wT (wA t1 (wA t2 (wA DrM.mk wT))) ?_
    refine AWP.loop (ι := {i : Nat // i ≤ 4})
      (fun i => ⟨[(2, .ptr H.length 0 0), (4, vs n), (5, vB (rs (tk4 r2 e2 i.1).2.1 (tk4 r2 e2 i.1).2.2)), (6, vi (tk4 r2 e2 i.1).2.2), (7, vs p), (8, .ptr (H.length + 1) 0 0), (28, vi i.1)], H ++ [⟨svC svZ, 0, 0, false⟩, ⟨intsC (tk4 r2 e2 i.1).1, 0, 0, false⟩]⟩) (fun i => 4 - i.1) ⟨0, by decide⟩ ?_ ?_
    · dsimp only
      rw [e0]
      exact Coe.kp
    · rintro ⟨i, hi⟩
      dsimp only
      have hlen := tk4_len r2 e2 i
      have hrest := tk4_rest r2 e2 i
      by_cases hc : (i : Int) < 4
      · have hs : tk4 r2 e2 (i + 1) = if (tk4 r2 e2 i).2.2 = 0 then ((tk4 r2 e2 i).1.set i ((tk (tk4 r2 e2 i).2.1).1 : Int), (tk (tk4 r2 e2 i).2.1).2.1, (tk (tk4 r2 e2 i).2.1).2.2) else tk4 r2 e2 i := rfl
        generalize tk4 r2 e2 i = S at *
        obtain ⟨L, r, e⟩ := S
        dsimp only at hlen hrest hs ⊢
        by_cases he : e = 0
        · subst he
          have t3 := fun H => take_spec' r (by omega) H
          rw [if_pos rfl] at hs
          generalize tk r = y at *
          obtain ⟨k, r', e'⟩ := y
          dsimp only at hs
          have er : rs r 0 = r := rfl
          rw [er]
          refine wk (wA hc (wA hlen wT)) (wA t3 (wA DrM.mk wT)) ?_
          refine ⟨⟨i + 1, by omega⟩, ?_, by dsimp only; omega⟩
          dsimp only
          rw [hs]
          exact Coe.kp
        · rw [if_neg he] at hs
          refine wk (wA hc (wA hlen (wA he wT))) (wA DrM.mk wT) ?_
          refine ⟨⟨i + 1, by omega⟩, ?_, by dsimp only; omega⟩
          dsimp only
          rw [hs]
          exact Coe.kp
      · obtain rfl : i = 4 := by omega
        generalize tk4 r2 e2 4 = S at *
        obtain ⟨L, r, e⟩ := S
        dsimp only at hlen hrest ⊢
        obtain ⟨a, b, c, d, rfl⟩ := list4 hlen
        have em : mkSv n p [a, b, c, d] = ⟨n, p, a, b, c, decide (d = 1)⟩ := rfl
        have ei : intsC [a, b, c, d] = [vi a, vi b, vi c, vi d] := rfl
        have ed : [a, b, c, d].getD 3 0 = d := rfl
        rw [em, ei, ed]
        by_cases he : e = 0
        · subst he
          rw [if_neg (by simp)]
          have er : rs r 0 = r := rfl
          rw [er]
          by_cases hr : (0 : Int) < (r.length : Int)
          · rw [if_pos (.inl (by omega))]
            refine wk (wA hr wT) (wA DrM.mk wT) ?_
            refine wkEnd wT ?_
            exact Fin.cut (ltS6 _ _ _ _ _ _ _) ⟨rfl, rfl⟩
          · by_cases hd : (1 : Int) < d
            · rw [if_pos (.inr (.inl hd))]
              refine wk (wA hr (wA hd wT)) (wA DrM.mk wT) ?_
              refine wkEnd wT ?_
              exact Fin.cut (ltS6 _ _ _ _ _ _ _) ⟨rfl, rfl⟩
            · have h7 := fun H => svRight_spec ⟨n, p, a, b, c, decide (d = 1)⟩ (by dsimp only; omega) (by dsimp only; omega) H
              cases ho : svOk ⟨n, p, a, b, c, decide (d = 1)⟩ with
              | false =>
                rw [ho] at h7
                rw [if_pos (.inr (.inr rfl))]
                refine wk (wA hr (wA hd wT)) (wA h7 (wA DrM.mk wT)) ?_
                refine wkEnd wT ?_
                exact Fin.cut (ltS6 _ _ _ _ _ _ _) ⟨rfl, rfl⟩
              | true =>
                rw [ho] at h7
                rw [if_neg (by intro h; rcases h with h | h | h <;> first | omega | cases h)]
                refine wk (wA hr (wA hd wT)) (wA h7 (wA DrM.mk wT)) ?_
                refine wkEnd wT ?_
                exact Fin.cut (ltS6 _ _ _ _ _ _ _) ⟨rfl, rfl⟩
        · rw [if_pos he]
          refine wk (wA he wT) (wA DrM.mk wT) ?_
          refine wkEnd wT ?_
          exact Fin.cut (ltS6 _ _ _ _ _ _ _) ⟨rfl, rfl⟩
  · rw [if_pos h1]
    refine ASpec.enter Tryz.func153 rfl (fun a w => Tryz.call153 a w) Tryz.ntmps153 Tryz.results153 fun base w β hI => ?_
    refine wk (wA h1 wT) (wA t1 (wA DrM.mk wT)) ?_
    refine wkEnd wT ?_
    exact Fin.cut (ltS6 _ _ _ _ _ _ _) ⟨rfl, rfl⟩

end Go.Proofs.YtnlmdeeadldgmaaGreatDoor.VL

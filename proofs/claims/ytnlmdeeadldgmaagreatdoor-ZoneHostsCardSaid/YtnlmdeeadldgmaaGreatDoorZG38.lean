/- Layer 6: whether a view may be, as the reference looks at it. -/
import Derived.Test.YtnlmdeeadldgmaaGreatDoorZG35
import Derived.Test.YtnlmdeeadldgmaaGreatDoorZG33
import Derived.Test.YtnlmdeeadldgmaaGreatDoorZG34
import Derived.Test.YtnlmdeeadldgmaaGreatDoorZVLWalk
import Derived.Test.YtnlmdeeadldgmaaGreatDoorZG30
import Derived.Lib.IndexLaws
import Derived.Test.YtnlmdeeadldgmaaGreatDoorZG28
-- STEPWISE
-- WK
set_option linter.unusedVariables false
set_option linter.unusedSimpArgs false
set_option linter.unnecessarySimpa false
set_option maxRecDepth 10000
namespace Go.Proofs.YtnlmdeeadldgmaaGreatDoor.VL
open Go Go.RowKit Go.Lib

theorem ndGo_drop {l : List Nd} {i : Nat} {d : Nd} (h : l[i]? = some d) (last : Int) : ndGo last (l.drop i) = (decide (last < d.n) && (decide (d.n < 8) && (stOk d.s && ndGo d.n (l.drop (i + 1))))) := by
  have hi := (List.getElem?_eq_some_iff.1 h).1
  rw [List.drop_eq_getElem_cons hi, ndGo, (List.getElem?_eq_some_iff.1 h).2]

set_option maxHeartbeats 4000000 in
theorem right6_spec (l : List Nd) (hl : l.length ≤ 9223372036854775807) (hd : ∀ d ∈ l, NdAny d) (H : List Box) : ASpec Tryz.prog 15 [.lst 4 (ndG l)] H (Gives (vb (ndOk l)) H) := by
  have h00 : ndOk l = ndGo (-1) (l.drop 0) := rfl
  generalize ndOk l = R at *
  refine ASpec.enter Tryz.func15 rfl (fun a w => Tryz.call15 a w) Tryz.ntmps15 Tryz.results15 fun base w β hI => ?_
  refine wk wT (wA DrM.mk wT) ?_
  refine AWP.loop (ι := {p : Nat × Int // p.1 ≤ l.length ∧ R = ndGo p.2 (l.drop p.1) ∧ -1 ≤ p.2 ∧ (p.1 = 0 → p.2 = -1) ∧ (∀ d, p.1 ≠ 0 → l[p.1 - 1]? = some d → d.n = p.2)}) (fun p => ⟨[(0, .lst 4 (ndG l)), (3, vi p.1.1)], H⟩) (fun p => l.length - p.1.1) ⟨(0, -1), Nat.zero_le _, h00, by dsimp only; omega, fun _ => rfl, fun d h => absurd rfl h⟩ ?_ ?_
  · dsimp only
    exact Coe.kp
  · rintro ⟨⟨i, last⟩, hi, he, hlo, h0, h1⟩
    dsimp only at hi he hlo h0 h1 ⊢
    clear h00
    by_cases hc : (i : Int) < (l.length : Int)
    · have hg : l[i]? = some l[i] := List.getElem?_eq_getElem (by omega)
      have hin := hd l[i] (List.getElem_mem _)
      rw [ndGo_drop hg] at he
      generalize l[i] = x at *
      have hr := fun H => refStRight_spec x.s hin.1 hin.2 H
      obtain ⟨n, g, b, a⟩ := x
      dsimp only at he hr hin
      generalize stOk ⟨g, b, a⟩ = so at *
      clear hd hin
      rcases i with _ | j
      · have hlast : last = -1 := h0 rfl
        subst hlast
        clear h0 h1
        by_cases q0 : n < 0
        · rw [decide_eq_false (show ¬ -1 < n by omega), Bool.false_and] at he
          rw [he]
          clear hr
          refine wk (wA hc (wA hg (wA q0 wT))) (wA DrM.mk wT) ?_
          refine wkEnd wT ?_
          exact Fin.same ⟨rfl, rfl⟩
        rw [decide_eq_true (show -1 < n by omega), Bool.true_and] at he
        by_cases q1 : 8 ≤ n
        · rw [decide_eq_false (show ¬ n < 8 by omega), Bool.false_and] at he
          rw [he]
          clear hr
          refine wk (wA hc (wA hg (wA q0 (wA q1 wT)))) (wA DrM.mk wT) ?_
          refine wkEnd wT ?_
          exact Fin.same ⟨rfl, rfl⟩
        rw [decide_eq_true (show n < 8 by omega), Bool.true_and] at he
        cases so with
        | false =>
          rw [Bool.false_and] at he
          rw [he]
          refine wk (wA hc (wA hg (wA q0 (wA q1 wT)))) (wA hr (wA DrM.mk wT)) ?_
          refine wkEnd wT ?_
          exact Fin.same ⟨rfl, rfl⟩
        | true =>
          rw [Bool.true_and] at he
          refine wk (wA hc (wA hg (wA q0 (wA q1 wT)))) (wA hr (wA DrM.mk wT)) ?_
          refine ⟨⟨(1, n), by dsimp only; omega, he, by dsimp only; omega, fun h => by simp at h, fun d _ h => by simp only [Nat.sub_self] at h; rw [hg] at h; obtain rfl := Option.some.inj h; rfl⟩, ?_, by dsimp only; omega⟩
          dsimp only
          exact Coe.kp
      · have hj : l[j]? = some l[j] := List.getElem?_eq_getElem (by omega)
        have hyn := h1 l[j] (by omega) (by simpa using hj)
        generalize l[j] = y at *
        obtain ⟨yn, yg, yb, ya⟩ := y
        dsimp only at hyn
        subst hyn
        clear h0 h1
        have hk : (((j + 1 : Nat) : Int) - 1).toNat = j := by omega
        have hz : (0 : Int) < ((j + 1 : Nat) : Int) := by omega
        have hw : IntKind.i64.wrap (((j + 1 : Nat) : Int) - 1) = (j : Int) := by rw [wi64 (by omega) (by omega)]; omega
        generalize hkk : j + 1 = k at *
        by_cases q0 : n < 0
        · rw [decide_eq_false (show ¬ yn < n by omega), Bool.false_and] at he
          rw [he]
          clear hr
          refine wk (wA hc (wA hg (wA hk (wA hz (wA hj (wA q0 wT)))))) (wA DrM.mk wT) ?_
          refine wkEnd wT ?_
          exact Fin.same ⟨rfl, rfl⟩
        by_cases q1 : 8 ≤ n
        · rw [decide_eq_false (show ¬ n < 8 by omega), Bool.false_and, Bool.and_false] at he
          rw [he]
          clear hr
          refine wk (wA hc (wA hg (wA hk (wA hz (wA hj (wA q0 (wA q1 wT))))))) (wA DrM.mk wT) ?_
          refine wkEnd wT ?_
          exact Fin.same ⟨rfl, rfl⟩
        by_cases q2 : n ≤ yn
        · rw [decide_eq_false (show ¬ yn < n by omega), Bool.false_and] at he
          rw [he]
          clear hr
          refine wk (wA hc (wA hg (wA hk (wA hz (wA hj (wA q0 (wA q1 (wA q2 wT)))))))) (wA DrM.mk wT) ?_
          refine wkEnd wT ?_
          exact Fin.same ⟨rfl, rfl⟩
        rw [decide_eq_true (show yn < n by omega), decide_eq_true (show n < 8 by omega), Bool.true_and, Bool.true_and] at he
        cases so with
        | false =>
          rw [Bool.false_and] at he
          rw [he]
          refine wk (wA hc (wA hg (wA hk (wA hz (wA hj (wA q0 (wA q1 (wA q2 wT)))))))) (wA hr (wA DrM.mk wT)) ?_
          refine wkEnd wT ?_
          exact Fin.same ⟨rfl, rfl⟩
        | true =>
          rw [Bool.true_and] at he
          refine wk (wA hc (wA hg (wA hk (wA hz (wA hj (wA q0 (wA q1 (wA q2 wT)))))))) (wA hr (wA DrM.mk wT)) ?_
          refine ⟨⟨(k + 1, n), by dsimp only; omega, he, by dsimp only; omega, fun h => by simp at h, fun d _ h => by simp only [Nat.add_sub_cancel] at h; rw [hg] at h; obtain rfl := Option.some.inj h; rfl⟩, ?_, by dsimp only; omega⟩
          dsimp only
          exact Coe.kp
    · rw [List.drop_of_length_le (by omega)] at he
      rw [he]
      refine wk (wA hc wT) (wA DrM.mk wT) ?_
      refine wkEnd wT ?_
      exact Fin.same ⟨rfl, rfl⟩

end Go.Proofs.YtnlmdeeadldgmaaGreatDoor.VL

/- Layer 18: numbers of so many bytes each, as the reference lays them. -/
-- STEPWISE
-- WK
set_option linter.unusedVariables false
set_option linter.unusedSimpArgs false
set_option maxRecDepth 10000
namespace Go.Proofs.YtnlmdeeadldgmaaGreatDoor.VL
open Go Go.RowKit Go.Lib

set_option maxHeartbeats 4000000 in
theorem refLay18_spec (s : Nat) (l : List Int) (hs : s ≤ 4) (hl : l.length ≤ 1000) (H : List Box) : ASpec Tryz.prog 70 [vi s, vI l] H (Gives (vs (bes s l)) H) := by
  have hix := ixm_s hs
  refine ASpec.enter Tryz.func70 rfl (fun a w => Tryz.call70 a w) Tryz.ntmps70 Tryz.results70 fun base w β hI => ?_
  refine wk wT (wA DrM.mk wT) ?_
  refine AWP.loop (ι := {i : Nat // i ≤ l.length}) (fun p => ⟨[(0, vi s), (1, vI l), (5, vs (bes s (l.take p.1))), (6, vi p.1)], H⟩) (fun p => l.length - p.1) ⟨0, Nat.zero_le _⟩ ?_ ?_
  · dsimp only [List.take_zero, bes, List.flatMap_nil]
    exact Coe.kp
  · rintro ⟨i, hi⟩
    try dsimp only at hi ⊢
    by_cases hc : (i : Int) < (l.length : Int)
    · have hg : l[i]? = some l[i] := List.getElem?_eq_getElem (by omega)
      generalize l[i] = n at hg
      have hsn := bes_snoc s (l.take i) n
      rw [← take_snoc hg] at hsn
      have hbl := bes_length s (l.take i)
      rw [List.length_take] at hbl
      have hb5 : (bes s (l.take i)).length ≤ 4000 := by
        rw [hbl]
        have := Nat.mul_le_mul hs (show min i l.length ≤ 1000 by omega)
        omega
      generalize bes s (l.take i) = A at *
      refine wk (wA hc (wA hg (wA hix wT))) (wA DrM.mk wT) ?_
      refine AWP.loop (ι := {p : Nat × List UInt8 // p.2 ++ layD n p.1 = A ++ layD n s ∧ p.1 ≤ 4 ∧ p.2.length ≤ 4004 - p.1}) (fun p => ⟨[(0, vi s), (1, vI l), (5, vs p.1.2), (6, vi i), (7, vi (ixm p.1.1))], H⟩) (fun p => p.1.1) ⟨(s, A), rfl, hs, by dsimp only; omega⟩ ?_ ?_
      · dsimp only
        exact Coe.kp
      · rintro ⟨⟨m, acc⟩, h1, h3, h4⟩
        dsimp only at h1 h3 h4 ⊢
        have hb1 : ∀ c : UInt8, bytesOf [[AV.v (.int .u8 c.toNat)]] = some [c] := fun c => bytesOf_bytesG [c]
        have hrl : ∀ c : UInt8, (acc ++ [c]).length = acc.length + 1 := fun c => by simp
        rcases m with _ | _ | _ | _ | _ | m
        · rw [layD, List.append_nil] at h1
          subst h1
          dsimp only [ixm]
          refine wk wT (wA DrM.mk wT) ?_
          refine ⟨⟨i + 1, by omega⟩, ?_, by dsimp only; omega⟩
          dsimp only
          rw [hsn]
          exact Coe.kp
        · dsimp only [ixm]
          have k1 : (8 : Int) * 0 = 0 := rfl
          have k2 : min 0 64 = 0 := rfl
          have k3 : n.fdiv 1 = n := by rw [Int.fdiv_eq_ediv_of_nonneg _ (by decide), Int.ediv_one]
          have k4 := wrap_b8 (n)
          have k6 : n / 2 ^ (8 * 0) = n := by simp
          have k5 : layD n (0 + 1) = b8 (n) :: layD n 0 := congrArg (fun z => b8 z :: layD n _) k6
          rw [k5, List.append_cons] at h1
          have hl := hrl (b8 (n))
          refine wk (wA hg (wA k1 (wA k2 (wA k3 (wA k4 (wA hb1 (wA strApp wT))))))) (wA DrM.mk wT) ?_
          refine ⟨⟨(0, acc ++ [b8 (n)]), h1, by dsimp only; omega, by dsimp only; rw [hl]; omega⟩, ?_, by dsimp only; omega⟩
          dsimp only [ixm]
          exact Coe.kp
        · dsimp only [ixm]
          have k1 : (8 : Int) * 1 = 8 := rfl
          have k2 : min 8 64 = 8 := rfl
          have k3 : n.fdiv 256 = n / 256 := Int.fdiv_eq_ediv_of_nonneg _ (by decide)
          have k4 := wrap_b8 (n / 256)
          have k6 : n / 2 ^ (8 * 1) = n / 256 := by rfl
          have k5 : layD n (1 + 1) = b8 (n / 256) :: layD n 1 := congrArg (fun z => b8 z :: layD n _) k6
          rw [k5, List.append_cons] at h1
          have hl := hrl (b8 (n / 256))
          refine wk (wA hg (wA k1 (wA k2 (wA k3 (wA k4 (wA hb1 (wA strApp wT))))))) (wA DrM.mk wT) ?_
          refine ⟨⟨(1, acc ++ [b8 (n / 256)]), h1, by dsimp only; omega, by dsimp only; rw [hl]; omega⟩, ?_, by dsimp only; omega⟩
          dsimp only [ixm]
          exact Coe.kp
        · dsimp only [ixm]
          have k1 : (8 : Int) * 2 = 16 := rfl
          have k2 : min 16 64 = 16 := rfl
          have k3 : n.fdiv 65536 = n / 65536 := Int.fdiv_eq_ediv_of_nonneg _ (by decide)
          have k4 := wrap_b8 (n / 65536)
          have k6 : n / 2 ^ (8 * 2) = n / 65536 := by rfl
          have k5 : layD n (2 + 1) = b8 (n / 65536) :: layD n 2 := congrArg (fun z => b8 z :: layD n _) k6
          rw [k5, List.append_cons] at h1
          have hl := hrl (b8 (n / 65536))
          refine wk (wA hg (wA k1 (wA k2 (wA k3 (wA k4 (wA hb1 (wA strApp wT))))))) (wA DrM.mk wT) ?_
          refine ⟨⟨(2, acc ++ [b8 (n / 65536)]), h1, by dsimp only; omega, by dsimp only; rw [hl]; omega⟩, ?_, by dsimp only; omega⟩
          dsimp only [ixm]
          exact Coe.kp
        · dsimp only [ixm]
          have k1 : (8 : Int) * 3 = 24 := rfl
          have k2 : min 24 64 = 24 := rfl
          have k3 : n.fdiv 16777216 = n / 16777216 := Int.fdiv_eq_ediv_of_nonneg _ (by decide)
          have k4 := wrap_b8 (n / 16777216)
          have k6 : n / 2 ^ (8 * 3) = n / 16777216 := by rfl
          have k5 : layD n (3 + 1) = b8 (n / 16777216) :: layD n 3 := congrArg (fun z => b8 z :: layD n _) k6
          rw [k5, List.append_cons] at h1
          have hl := hrl (b8 (n / 16777216))
          refine wk (wA hg (wA k1 (wA k2 (wA k3 (wA k4 (wA hb1 (wA strApp wT))))))) (wA DrM.mk wT) ?_
          refine ⟨⟨(3, acc ++ [b8 (n / 16777216)]), h1, by dsimp only; omega, by dsimp only; rw [hl]; omega⟩, ?_, by dsimp only; omega⟩
          dsimp only [ixm]
          exact Coe.kp
        · omega
    · have hil : i = l.length := by omega
      subst hil
      rw [List.take_length]
      refine wk (wA hc wT) (wA DrM.mk wT) ?_
      refine wkEnd wT ?_
      exact Fin.same ⟨rfl, rfl⟩

end Go.Proofs.YtnlmdeeadldgmaaGreatDoor.VL

/- Layer 16: labels, texts, and what is under what, as the reference has them. -/
-- STEPWISE
-- WK
-- TAIL
-- OWNB 5
set_option linter.unusedVariables false
set_option linter.unusedSimpArgs false
set_option maxRecDepth 10000
namespace Go.Proofs.YtnlmdeeadldgmaaGreatDoor.VL
open Go Go.RowKit Go.Lib

theorem refLabels_spec (s : List UInt8) (hs : s.length ≤ 8796093022208) (H : List Box) : ASpec Tryz.prog 97 [vs s] H (Gives (match lab s with | some l => .lst 1 (strG l) | none => .emp) H) := by
  have hl := fun H => cut_spec s hs H
  cases hlb : lab s with
  | none =>
    rw [hlb] at hl
    have hl : ∀ H, ASpec Tryz.prog 72 [vs s] H (Gives (.tup [.emp, vb false]) H) := hl
    refine ASpec.enter Tryz.func97 rfl (fun a w => Tryz.call97 a w) Tryz.ntmps97 Tryz.results97 fun base w β hI => ?_
    refine wk wT (wA hl (wA ((OwnM.mk (id := 5))) (wA OwnBM.mk (wA TlM.mk (wA DrM.mk wT))))) ?_
    refine wkEnd wT ?_
    exact Fin.same ⟨rfl, rfl⟩
  | some l =>
    rw [hlb] at hl
    have hl : ∀ H, ASpec Tryz.prog 72 [vs s] H (Gives (.tup [.lst 1 (strG l), vb true]) H) := hl
    refine ASpec.enter Tryz.func97 rfl (fun a w => Tryz.call97 a w) Tryz.ntmps97 Tryz.results97 fun base w β hI => ?_
    refine wk wT (wA hl (wA ((OwnM.mk (id := 5))) (wA OwnBM.mk (wA TlM.mk (wA DrM.mk wT))))) ?_
    refine wkEnd wT ?_
    exact Fin.same ⟨rfl, rfl⟩

theorem trimB_cases (t : List UInt8) (h : t ≠ []) : ∃ c, t[t.length - 1]? = some c ∧ trimB t 46 = if c = 46 then t.take (t.length - 1) else t := by
  have hl := List.length_pos_iff.2 h
  refine ⟨t[t.length - 1], List.getElem?_eq_getElem (by omega), ?_⟩
  unfold trimB
  have : t.drop (t.length - 1) = [t[t.length - 1]] := by
    rw [List.drop_eq_getElem_cons (by omega), List.drop_of_length_le (by omega)]
  rw [this]
  by_cases hc : t[t.length - 1] = 46
  · rw [if_pos (by rw [hc]), if_pos hc]
  · rw [if_neg (by simpa using hc), if_neg hc]

theorem joinN_any (l : List (List UInt8)) : (joinN l).2 = 0 ∨ (joinN l).1 = [] := joinN_err

theorem snoc_get {α : Type} (l : List α) (x : α) : (l ++ [x])[l.length]? = some x := by simp
theorem snoc_set {α : Type} (l : List α) (x y : α) : (l ++ [x]).set l.length y = l ++ [y] := by rw [List.set_append_right _ _ (Nat.le_refl _), Nat.sub_self]; rfl

/-- Whether there is a dot. -/
theorem indexByte_dot {s : List UInt8} {i : Nat} {c : UInt8} (h : s[i]? = some c) (hc : c = 46) : 0 ≤ indexByte s 46 := by
  have h1 := indexByte_ge s 46
  refine Int.not_lt.1 fun hlt => ?_
  have : indexByte s 46 = -1 := by omega
  exact indexByte_none this i (by rw [h, hc])
theorem indexByte_nodot : ∀ {s : List UInt8}, (∀ c ∈ s, c ≠ 46) → indexByte s 46 = -1
  | [], _ => rfl
  | b :: r, h => by
    have hb : (b == (46 : UInt8)) = false := by simpa using h b (by simp)
    unfold indexByte
    rw [hb, indexByte_nodot (fun c hc => h c (by simp [hc]))]
    rfl
theorem dotW_snoc (l : List (List UInt8)) (s : List UInt8) : dotW (l ++ [s]) = dotW l ++ s ++ [46] := by simp [dotW]
set_option maxHeartbeats 1000000 in
theorem refUnder_spec (a b : List UInt8) (ha : a.length ≤ 8796093022208) (hb : b.length ≤ 8796093022208) (H : List Box) : ASpec Tryz.prog 33 [vs a, vs b] H (Gives (vb (underN a b)) H) := by
  have h3 := fun H => cut_spec a ha H
  have h4 := fun H => cut_spec b hb H
  cases hx : lab a with
  | none =>
    rw [underN_none (.inl hx)]
    rw [hx] at h3
    have h3 : ∀ H, ASpec Tryz.prog 72 [vs a] H (Gives (.tup [.emp, vb false]) H) := h3
    cases hy : lab b with
    | none =>
      rw [hy] at h4
      have h4 : ∀ H, ASpec Tryz.prog 72 [vs b] H (Gives (.tup [.emp, vb false]) H) := h4
      refine ASpec.enter Tryz.func33 rfl (fun a w => Tryz.call33 a w) Tryz.ntmps33 Tryz.results33 fun base w β hI => ?_
      refine wk wT (wA h3 (wA h4 (wA ((OwnM.mk (id := 5))) (wA OwnBM.mk (wA TlM.mk (wA DrM.mk wT)))))) ?_
      refine wkEnd wT ?_
      exact Fin.same ⟨rfl, rfl⟩
    | some m =>
      rw [hy] at h4
      have h4 : ∀ H, ASpec Tryz.prog 72 [vs b] H (Gives (.tup [.lst 1 (strG m), vb true]) H) := h4
      refine ASpec.enter Tryz.func33 rfl (fun a w => Tryz.call33 a w) Tryz.ntmps33 Tryz.results33 fun base w β hI => ?_
      refine wk wT (wA h3 (wA h4 (wA ((OwnM.mk (id := 5))) (wA OwnBM.mk (wA TlM.mk (wA DrM.mk wT)))))) ?_
      refine wkEnd wT ?_
      exact Fin.same ⟨rfl, rfl⟩
  | some l =>
    rw [hx] at h3
    have h3 : ∀ H, ASpec Tryz.prog 72 [vs a] H (Gives (.tup [.lst 1 (strG l), vb true]) H) := h3
    cases hy : lab b with
    | none =>
      rw [underN_none (.inr hy)]
      rw [hy] at h4
      have h4 : ∀ H, ASpec Tryz.prog 72 [vs b] H (Gives (.tup [.emp, vb false]) H) := h4
      refine ASpec.enter Tryz.func33 rfl (fun a w => Tryz.call33 a w) Tryz.ntmps33 Tryz.results33 fun base w β hI => ?_
      refine wk wT (wA h3 (wA h4 (wA ((OwnM.mk (id := 5))) (wA OwnBM.mk (wA TlM.mk (wA DrM.mk wT)))))) ?_
      refine wkEnd wT ?_
      exact Fin.same ⟨rfl, rfl⟩
    | some m =>
      rw [hy] at h4
      have h4 : ∀ H, ASpec Tryz.prog 72 [vs b] H (Gives (.tup [.lst 1 (strG m), vb true]) H) := h4
      obtain ⟨_, b2, b3, _⟩ := lab_le hx
      obtain ⟨_, c2, c3, _⟩ := lab_le hy
      by_cases hlm : (l.length : Int) < (m.length : Int)
      · rw [underN_some hx hy, decide_eq_false (show ¬ m.length ≤ l.length by omega), Bool.false_and]
        refine ASpec.enter Tryz.func33 rfl (fun a w => Tryz.call33 a w) Tryz.ntmps33 Tryz.results33 fun base w β hI => ?_
        refine wk (wA hlm wT) (wA h3 (wA h4 (wA ((OwnM.mk (id := 5))) (wA OwnBM.mk (wA TlM.mk (wA DrM.mk wT)))))) ?_
        refine wkEnd wT ?_
        exact Fin.same ⟨rfl, rfl⟩
      · rw [underN_ref hx hy (by omega)]
        have e1 : ((l.length : Int) - (m.length : Int)).toNat = l.length - m.length := by omega
        have e2 : List.drop (l.length - m.length) (List.take l.length (strG l)) = strG (l.drop (l.length - m.length)) := by rw [List.take_of_length_le (by simp)]; exact (List.map_drop).symm
        obtain ⟨_, hok, hjb⟩ := lab_some hx
        have hjd := joinB_drop_le l (l.length - m.length)
        have hjl := joinB_length (l.drop (l.length - m.length))
        have hj := fun H => refJoin16_spec (l.drop (l.length - m.length)) (by rw [List.length_drop]; omega) (by omega) H
        have hjn := joinN_ok (okL_part hok (l.length - m.length)) (by omega)
        have hsm := fun H => refSame16_spec (joinN (l.drop (l.length - m.length))).1 b (by rw [hjn]; simp; omega) hb H
        refine ASpec.enter Tryz.func33 rfl (fun a w => Tryz.call33 a w) Tryz.ntmps33 Tryz.results33 fun base w β hI => ?_
        refine wk (wA hlm (wA e1 (wA e2 wT))) (wA h3 (wA h4 (wA hj (wA hsm (wA ((OwnM.mk (id := 5))) (wA OwnBM.mk (wA TlM.mk (wA DrM.mk wT)))))))) ?_
        refine wkEnd wT ?_
        exact Fin.same ⟨rfl, rfl⟩

end Go.Proofs.YtnlmdeeadldgmaaGreatDoor.VL

/- Layer 16: the laws' walks. -/
-- STEPWISE
-- WK
set_option linter.unusedVariables false
set_option linter.unusedSimpArgs false
set_option maxRecDepth 10000
namespace Go.Proofs.YtnlmdeeadldgmaaGreatDoor.VL
open Go Go.RowKit Go.Lib

theorem refLabels_spec' (s : List UInt8) (hs : s.length ≤ 8796093022208) (H : List Box) : ASpec Tryz.prog 97 [vs s] H (Gives (.lst 1 (strG (labelsN s))) H) := by
  have := refLabels_spec s hs H
  unfold labelsN
  cases hl : lab s with
  | none =>
    rw [hl] at this
    exact this.shed fun E he => by
      subst he
      exact Shed.weak fun w β v h => by cases h with | emp a => exact .lst0 _ _ _
  | some l => rw [hl] at this; exact this

end Go.Proofs.YtnlmdeeadldgmaaGreatDoor.VL

/- Layer 18: labels ahead of a domain, as the reference lays them. -/
-- STEPWISE
-- WK
-- HWR
-- HOLE 3 1 [(.new 1, []), (.same, [1]), (.wr 1, []), (.same, [1]), (.same, [1]), (.same, [1]), (.wr 1, []), (.same, [])]
set_option linter.unusedVariables false
set_option linter.unusedSimpArgs false
set_option maxRecDepth 10000
namespace Go.Proofs.YtnlmdeeadldgmaaGreatDoor.VL
open Go Go.RowKit Go.Lib

theorem holM_ZonO_3 : HolM 3 1 [(.new 1, []), (.same, [1]), (.wr 1, []), (.same, [1]), (.same, [1]), (.same, [1]), (.wr 1, []), (.same, [])] := ⟨⟩

theorem winN_eq2 (d : List UInt8) (l : List (List UInt8)) : winN d l = if (lab d).isSome = true then ((joinN (l ++ labelsN d)).1, decide ((joinN (l ++ labelsN d)).2 = 0)) else ([], false) := by
  unfold winN
  by_cases h2 : (lab d).isSome = true
  · rw [if_pos h2]
    by_cases h1 : (joinN (l ++ labelsN d)).2 = 0
    · rw [if_pos ⟨h2, h1⟩, decide_eq_true h1]
    · rw [if_neg (fun h => h1 h.2), decide_eq_false h1]
      rcases joinN_any (l ++ labelsN d) with h | h
      · exact absurd h h1
      · rw [h]
  · rw [if_neg (fun h => h2 h.1), if_neg h2]
set_option maxHeartbeats 4000000 in
theorem ahead_spec (s : Sc) (ls : List (List UInt8)) (hd : s.d.length ≤ 1048576) (h0 : 0 < ls.length) (hl : ls.length ≤ 8) (hs : lenS ls ≤ 16777216) (H : List Box) :
    ASpec Tryz.prog 54 [.agg (scC s), .lst 1 (strG ls)] H (Gives (.tup [vs (winN s.d ls).1, vb (winN s.d ls).2]) H) := by
  have hlb := fun H => refLabels_spec' s.d (by omega) H
  have hrt := fun H => refRight16_spec s.d (by omega) H
  have hle := labelsN_le s.d
  have hjn := fun H => refJoin16_spec (ls ++ labelsN s.d) (by rw [List.length_append]; omega) (by simp only [lenS, List.map_append, List.sum_append] at *; omega) H
  rw [winN_eq2]
  obtain ⟨v, a, d⟩ := s
  dsimp only at *
  cases hr : (lab d).isSome with
  | false =>
    rw [if_neg (by simp)]
    rw [hr] at hrt
    refine ASpec.enter Tryz.func54 rfl (fun a w => Tryz.call54 a w) Tryz.ntmps54 Tryz.results54 fun base w β hI => ?_
    refine wk wT (wA hrt (wA holM_ZonO_3 (wA DrM.mk wT))) ?_
    refine wkEnd wT ?_
    exact Fin.cut (ltVV _ _) ⟨rfl, rfl⟩
  | true =>
    rw [if_pos rfl]
    rw [hr] at hrt
    have e1 : strC ls ++ strC (labelsN d) = strC (ls ++ labelsN d) := strC_app _ _
    have e2 : ls.length + (labelsN d).length = (ls ++ labelsN d).length := by simp
    have e3 : view 1 (ls ++ labelsN d).length (strC (ls ++ labelsN d)) = strG (ls ++ labelsN d) := chunk_strC (ls ++ labelsN d) _ rfl
    have l1 : (strG ls).length = ls.length := by simp [strG]
    have l2 : (strG (labelsN d)).length = (labelsN d).length := by simp [strG]
    generalize hL : ls ++ labelsN d = L at *
    generalize labelsN d = M at *
    generalize hJ : joinN L = J at *
    obtain ⟨n, e⟩ := J
    dsimp only at *
    by_cases he : e = 0
    · subst he
      refine ASpec.enter Tryz.func54 rfl (fun a w => Tryz.call54 a w) Tryz.ntmps54 Tryz.results54 fun base w β hI => ?_
      refine wkE (wA l1 (wA l2 (wA e1 (wA e2 (wA e3 wT))))) (wA hrt (wA hlb (wA hjn (wA holM_ZonO_3 (wA DrM.mk wT))))) ?_
      refine wkEnd wT ?_
      exact Fin.cut (ltVV _ _) ⟨rfl, rfl⟩
    · rw [decide_eq_false he]
      refine ASpec.enter Tryz.func54 rfl (fun a w => Tryz.call54 a w) Tryz.ntmps54 Tryz.results54 fun base w β hI => ?_
      refine wkE (wA l1 (wA l2 (wA e1 (wA e2 (wA e3 (wA he wT)))))) (wA hrt (wA hlb (wA hjn (wA holM_ZonO_3 (wA DrM.mk wT))))) ?_
      refine wkEnd wT ?_
      exact Fin.cut (ltVV _ _) ⟨rfl, rfl⟩

end Go.Proofs.YtnlmdeeadldgmaaGreatDoor.VL

/- Layer 18: hosts, the domain's own records, who counts, as the reference tells them. -/
-- STEPWISE
-- WK
set_option linter.unusedVariables false
set_option linter.unusedSimpArgs false
set_option maxRecDepth 10000
namespace Go.Proofs.YtnlmdeeadldgmaaGreatDoor.VL
open Go Go.RowKit Go.Lib

theorem host18_spec (s : Sc) (n : Int) (hd : s.d.length ≤ 1048576) (H : List Box) : ASpec Tryz.prog 17 [.agg (scC s), vi n] H (Gives (.tup [vs (hostN s.d n).1, vb (hostN s.d n).2]) H) := by
  unfold hostN
  by_cases h0 : n < 0
  · rw [if_neg (by omega)]
    obtain ⟨v, a, d⟩ := s
    refine ASpec.enter Tryz.func17 rfl (fun a w => Tryz.call17 a w) Tryz.ntmps17 Tryz.results17 fun base w β hI => ?_
    refine wk (wA h0 wT) (wA DrM.mk wT) ?_
    refine wkEnd wT ?_
    exact Fin.cut (ltVV _ _) ⟨rfl, rfl⟩
  by_cases h8 : 7 < n
  · rw [if_neg (by omega)]
    obtain ⟨v, a, d⟩ := s
    refine ASpec.enter Tryz.func17 rfl (fun a w => Tryz.call17 a w) Tryz.ntmps17 Tryz.results17 fun base w β hI => ?_
    refine wk (wA h0 (wA h8 wT)) (wA DrM.mk wT) ?_
    refine wkEnd wT ?_
    exact Fin.cut (ltVV _ _) ⟨rfl, rfl⟩
  rw [if_pos (by omega)]
  have hw : ∀ H, ASpec Tryz.prog 54 [.agg (scC s), .lst 1 [[vs (digN n)]]] H (Gives (.tup [vs (winN s.d [digN n]).1, vb (winN s.d [digN n]).2]) H) := fun H => ahead_spec s [digN n] hd (by simp) (by simp) (by simp [lenS, digN]) H
  have hw1 : IntKind.i64.wrap (48 + n) = 48 + n := wi64 (by omega) (by omega)
  have hc : UInt8.ofNat (48 + n.toNat) = b8 (48 + n) := by
    unfold b8
    rw [show ((48 + n) % 256).toNat = 48 + n.toNat by omega]
  have hb1 : bytesOf [[AV.v (.int .u8 (b8 (48 + n)).toNat)]] = some [b8 (48 + n)] := bytesOf_bytesG [b8 (48 + n)]
  have hwb := wrap_b8 (48 + n)
  have hdg : ([110] : List UInt8) ++ [b8 (48 + n)] = digN n := by unfold digN; rw [hc]; rfl
  clear hc
  generalize b8 (48 + n) = B at *
  generalize digN n = D at *
  generalize winN s.d [D] = W at *
  obtain ⟨v, a, d⟩ := s
  refine ASpec.enter Tryz.func17 rfl (fun a w => Tryz.call17 a w) Tryz.ntmps17 Tryz.results17 fun base w β hI => ?_
  refine wk (wA h0 (wA h8 (wA hw1 (wA hwb (wA hb1 (wA strApp (wA hdg wT))))))) (wA hw (wA DrM.mk wT)) ?_
  refine wkEnd wT ?_
  exact Fin.cut (ltVV _ _) ⟨rfl, rfl⟩

/-- The domain's own records' data, the first name, and whether they are. -/
theorem ltSSB {n : Nat} (a b c : Value) : Lt n (.tup [.v a, .v b, .v c]) := .tup _ fun i x hi => by
  rcases i with _ | _ | _ | i <;> simp at hi <;> subst hi <;> exact .v _
set_option maxHeartbeats 2000000 in
theorem start0_spec (s : Sc) (hd : s.d.length ≤ 1048576) (H : List Box) : ASpec Tryz.prog 57 [.agg (scC s)] H (Gives (.tup [vs (soaB s.d), vs (winN s.d [[110, 115]]).1, vb (startOk s.d)]) H) := by
  have w1 : ∀ H, ASpec Tryz.prog 54 [.agg (scC s), .lst 1 [[vs [110, 115]]]] H (Gives (.tup [vs (winN s.d [[110, 115]]).1, vb (winN s.d [[110, 115]]).2]) H) := fun H => ahead_spec s [[110, 115]] (by omega) (by simp) (by simp) (by simp [lenS]) H
  have w2 : ∀ H, ASpec Tryz.prog 54 [.agg (scC s), .lst 1 [[vs [114, 111, 111, 116]]]] H (Gives (.tup [vs (winN s.d [[114, 111, 111, 116]]).1, vb (winN s.d [[114, 111, 111, 116]]).2]) H) := fun H => ahead_spec s [[114, 111, 111, 116]] (by omega) (by simp) (by simp) (by simp [lenS]) H
  have hn : ∀ H, ASpec Tryz.prog 70 [vi 4, .lst 1 [[vi 1], [vi 5], [vi 5], [vi 5], [vi 5]]] H (Gives (vs (bes 4 [1, 5, 5, 5, 5])) H) := fun H => refLay18_spec 4 [1, 5, 5, 5, 5] (by simp) (by simp) H
  have l1 := winN_len s.d [[110, 115]]
  have l2 := winN_len s.d [[114, 111, 111, 116]]
  have l3 := bes_length 4 [1, 5, 5, 5, 5]
  have hso : (winN s.d [[110, 115]]).1 ++ (winN s.d [[114, 111, 111, 116]]).1 ++ bes 4 [1, 5, 5, 5, 5] = soaB s.d := rfl
  unfold startOk at *
  generalize soaB s.d = SO at *
  generalize winN s.d [[110, 115]] = A at *
  generalize winN s.d [[114, 111, 111, 116]] = B at *
  generalize bes 4 [1, 5, 5, 5, 5] = C at *
  obtain ⟨A, oa⟩ := A
  obtain ⟨B, ob⟩ := B
  obtain ⟨v, a, d⟩ := s
  simp only [List.length_cons, List.length_nil] at l3
  dsimp only at *
  have hab : (A ++ B).length ≤ 1000 := by rw [List.length_append]; omega
  cases oa with
  | false =>
    refine ASpec.enter Tryz.func57 rfl (fun a w => Tryz.call57 a w) Tryz.ntmps57 Tryz.results57 fun base w β hI => ?_
    refine wkL (wA strApp (wA hso wT)) (wA w1 (wA w2 (wA hn (wA DrM.mk wT)))) ?_
    refine wkEnd wT ?_
    exact Fin.cut (ltSSB _ _ _) ⟨rfl, rfl⟩
  | true =>
    refine ASpec.enter Tryz.func57 rfl (fun a w => Tryz.call57 a w) Tryz.ntmps57 Tryz.results57 fun base w β hI => ?_
    refine wkL (wA strApp (wA hso wT)) (wA w1 (wA w2 (wA hn (wA DrM.mk wT)))) ?_
    refine wkEnd wT ?_
    exact Fin.cut (ltSSB _ _ _) ⟨rfl, rfl⟩
theorem start18_spec (s : Sc) (hd : s.d.length ≤ 1048576) (H : List Box) : ASpec Tryz.prog 19 [.agg (scC s)] H (Gives (.tup [.agg (rrC (startN s.d).1), vb (startN s.d).2]) H) := by
  have h := fun H => start0_spec s hd H
  unfold startN toldN at *
  generalize soaB s.d = SO at *
  generalize (winN s.d [[110, 115]]).1 = A at *
  generalize startOk s.d = ok at *
  obtain ⟨v, a, d⟩ := s
  dsimp only at *
  cases ok with
  | false =>
    rw [if_neg (by simp)]
    refine ASpec.enter Tryz.func19 rfl (fun a w => Tryz.call19 a w) Tryz.ntmps19 Tryz.results19 fun base w β hI => ?_
    refine wk wT (wA h (wA DrM.mk wT)) ?_
    refine wkEnd wT ?_
    exact Fin.cut (lt_rrb rrZ false) ⟨rfl, rfl⟩
  | true =>
    rw [if_pos rfl]
    refine ASpec.enter Tryz.func19 rfl (fun a w => Tryz.call19 a w) Tryz.ntmps19 Tryz.results19 fun base w β hI => ?_
    refine wk wT (wA h (wA DrM.mk wT)) ?_
    refine wkEnd wT ?_
    exact Fin.cut (lt_rrb ⟨d, 6, 1, 5, SO⟩ true) ⟨rfl, rfl⟩

/-- Is a scene greater than is looked at? -/
def great18 (s : Sc) : Bool := great6 s.v || (decide (50 < s.a.length) || decide (500 < s.d.length))
theorem great18_spec (s : Sc) (hv : s.v.length ≤ 9223372036854775807) (hx : ∀ d ∈ s.v, NdAny d) (ha : s.a.length ≤ 9223372036854775807) (hd : s.d.length ≤ 9223372036854775807) (H : List Box) : ASpec Tryz.prog 14 [.agg (scC s)] H (Gives (vb (great18 s)) H) := by
  have h := fun H => great6_spec s.v hv hx H
  unfold great18
  obtain ⟨v, a, d⟩ := s
  dsimp only at *
  generalize great6 v = q at *
  cases q with
  | true =>
    refine ASpec.enter Tryz.func14 rfl (fun a w => Tryz.call14 a w) Tryz.ntmps14 Tryz.results14 fun base w β hI => ?_
    refine wk wT (wA h (wA DrM.mk wT)) ?_
    refine wkEnd wT ?_
    exact Fin.cut (.v _) ⟨rfl, rfl⟩
  | false =>
    by_cases h5 : (50 : Int) < (a.length : Int)
    · rw [decide_eq_true (show 50 < a.length by omega)]
      refine ASpec.enter Tryz.func14 rfl (fun a w => Tryz.call14 a w) Tryz.ntmps14 Tryz.results14 fun base w β hI => ?_
      refine wk (wA h5 wT) (wA h (wA DrM.mk wT)) ?_
      refine wkEnd wT ?_
      exact Fin.cut (.v _) ⟨rfl, rfl⟩
    · rw [decide_eq_false (show ¬ 50 < a.length by omega)]
      by_cases h6 : (500 : Int) < (d.length : Int)
      · rw [decide_eq_true (show 500 < d.length by omega)]
        refine ASpec.enter Tryz.func14 rfl (fun a w => Tryz.call14 a w) Tryz.ntmps14 Tryz.results14 fun base w β hI => ?_
        refine wk (wA h5 (wA h6 wT)) (wA h (wA DrM.mk wT)) ?_
        refine wkEnd wT ?_
        exact Fin.cut (.v _) ⟨rfl, rfl⟩
      · rw [decide_eq_false (show ¬ 500 < d.length by omega)]
        refine ASpec.enter Tryz.func14 rfl (fun a w => Tryz.call14 a w) Tryz.ntmps14 Tryz.results14 fun base w β hI => ?_
        refine wk (wA h5 (wA h6 wT)) (wA h (wA DrM.mk wT)) ?_
        refine wkEnd wT ?_
        exact Fin.cut (.v _) ⟨rfl, rfl⟩

end Go.Proofs.YtnlmdeeadldgmaaGreatDoor.VL

/- Layer 16: names in small letters; whether names are the same. -/
import Derived.Test.YtkkhbmpcpilmfaaZCd
import Derived.Test.YtkkhbmpcpilmfaaZLabA
import Derived.Test.YtkkhbmpcpilmfaaZLabB
-- STEPWISE
-- WK
-- OWN 3
set_option linter.unusedVariables false
set_option linter.unusedSimpArgs false
set_option maxRecDepth 10000
namespace Go.Proofs.Ytkkhbmpcpilmfaa.VL
open Go Go.RowKit Go.Lib

/-- The first i bytes in small letters. -/
def lowTo (s : List UInt8) (i : Nat) : List UInt8 := (s.take i).map lowU ++ s.drop i
theorem lowTo_length (s : List UInt8) (i : Nat) : (lowTo s i).length = s.length := by
  rw [lowTo, List.length_append, List.length_map, List.length_take, List.length_drop]; omega
theorem lowTo_zero (s : List UInt8) : lowTo s 0 = s := by simp [lowTo]
theorem lowTo_all (s : List UInt8) : lowTo s s.length = s.map lowU := by simp [lowTo]
theorem lowTo_get {s : List UInt8} {i : Nat} {c : UInt8} (h : s[i]? = some c) : (lowTo s i)[i]? = some c := by
  have hi := (List.getElem?_eq_some_iff.1 h).1
  rw [lowTo, List.getElem?_append_right (by rw [List.length_map, List.length_take]; omega), List.length_map, List.length_take, List.getElem?_drop, show i + (i - min i s.length) = i by omega, h]
theorem lowTo_succ {s : List UInt8} {i : Nat} {c : UInt8} (h : s[i]? = some c) : lowTo s (i + 1) = (lowTo s i).set i (lowU c) := by
  have hi := (List.getElem?_eq_some_iff.1 h).1
  have hc : s[i] = c := (List.getElem?_eq_some_iff.1 h).2
  unfold lowTo
  rw [List.set_append_right _ _ (by rw [List.length_map, List.length_take]; omega), List.length_map, List.length_take, show i - min i s.length = 0 by omega, List.drop_eq_getElem_cons hi, List.set_cons_zero, List.take_succ_eq_append_getElem hi, List.map_append, List.map_singleton, hc, List.append_assoc]
  rfl

set_option maxHeartbeats 4000000 in
theorem labLower_spec (s : List UInt8) (hs : s.length ≤ 9223372036854775807) (H : List Box) : ASpec Try.prog 73 [vs s] H (Gives (vs (lowB s)) H) := by
  have hr := fun H => labRight_spec s hs H
  unfold lowB
  cases hl : lab s with
  | none =>
    rw [hl] at hr
    have hr : ∀ H, ASpec Try.prog 65 [vs s] H (Gives (vb false) H) := hr
    refine ASpec.enter Try.func73 rfl (fun a w => Try.call73 a w) Try.ntmps73 Try.results73 fun base w β hI => ?_
    refine wk wT (wA hr (wA ((OwnM.mk (id := 3))) wT)) ?_
    refine wkEnd wT ?_
    exact Fin.same ⟨rfl, rfl⟩
  | some l =>
    rw [hl] at hr
    have hr : ∀ H, ASpec Try.prog 65 [vs s] H (Gives (vb true) H) := hr
    have hlen : s.length ≤ 255 := by
      refine Nat.le_of_not_lt fun h => ?_
      rw [lab, if_pos h] at hl
      cases hl
    rw [if_pos (show (some l).isSome = true from rfl)]
    refine ASpec.enter Try.func73 rfl (fun a w => Try.call73 a w) Try.ntmps73 Try.results73 fun base w β hI => ?_
    refine wk wT (wA hr (wA ((OwnM.mk (id := 3))) wT)) ?_
    refine AWP.loop (ι := {i : Nat // i ≤ s.length})
      (fun p => ⟨[(3, .sl H.length 0 0 s.length 1 false), (12, .sl H.length 0 0 s.length 1 false), (13, vi s.length), (14, vi p.1)], H ++ [⟨bytesC (lowTo s p.1), 0, 0, false⟩]⟩) (fun p => s.length - p.1) ⟨0, Nat.zero_le _⟩ ?_ ?_
    · dsimp only
      rw [lowTo_zero]
      exact Coe.kp
    · rintro ⟨i, hi⟩
      dsimp only
      have hll := lowTo_length s i
      by_cases hc : (i : Int) < (s.length : Int)
      rotate_left
      · have hil : i = s.length := by omega
        subst hil
        rw [lowTo_all] at hll ⊢
        have hch := chunk_bytesC (s.map lowU) s.length hll.symm
        refine wk (wA hc (wA hll (wA hch wT))) (wA ((OwnM.mk (id := 3))) wT) ?_
        refine wkEnd wT ?_
        exact Fin.cut (.v _) ⟨rfl, rfl⟩
      have hg : s[i]? = some s[i] := List.getElem?_eq_getElem (by omega)
      generalize s[i] = c at hg
      have hgl := lowTo_get hg
      have hsu := lowTo_succ hg
      have hcb : (c.toNat : Int) ≤ 255 := by have := c.toNat_lt; omega
      by_cases h65 : (65 : Int) ≤ (c.toNat : Int)
      · by_cases h90 : (c.toNat : Int) ≤ 90
        · have hlu : UInt8.ofNat ((c.toNat : Int) + 97 - 65).toNat = lowU c := by
            rw [lowU, if_pos (by omega)]
            congr 1
            omega
          refine wk (wA hc (wA hll (wA bytesC_getv (wA hgl (wA h65 (wA h90 wT)))))) (wA ((OwnM.mk (id := 3))) wT) ?_
          refine ⟨⟨i + 1, by omega⟩, ?_, by dsimp only; omega⟩
          dsimp only
          rw [hlu, hsu]
          exact Coe.kp
        · have hlu : lowU c = c := by rw [lowU, if_neg (by omega)]
          have hset : (lowTo s i).set i c = lowTo s i := by
            apply List.ext_getElem?
            intro k
            by_cases hk : k = i
            · subst hk; rw [List.getElem?_set_self (by omega), hgl]
            · rw [List.getElem?_set_ne (Ne.symm hk)]
          refine wk (wA hc (wA hll (wA bytesC_getv (wA hgl (wA h65 (wA h90 wT)))))) (wA ((OwnM.mk (id := 3))) wT) ?_
          refine ⟨⟨i + 1, by omega⟩, ?_, by dsimp only; omega⟩
          dsimp only
          rw [hsu, hlu, hset]
          exact Coe.kp
      · have hlu : lowU c = c := by rw [lowU, if_neg (by omega)]
        have hset : (lowTo s i).set i c = lowTo s i := by
          apply List.ext_getElem?
          intro k
          by_cases hk : k = i
          · subst hk; rw [List.getElem?_set_self (by omega), hgl]
          · rw [List.getElem?_set_ne (Ne.symm hk)]
        refine wk (wA hc (wA hll (wA bytesC_getv (wA hgl (wA h65 wT))))) (wA ((OwnM.mk (id := 3))) wT) ?_
        refine ⟨⟨i + 1, by omega⟩, ?_, by dsimp only; omega⟩
        dsimp only
        rw [hsu, hlu, hset]
        exact Coe.kp

theorem labSame_spec (a b : List UInt8) (ha : a.length ≤ 9223372036854775807) (hb : b.length ≤ 9223372036854775807) (H : List Box) : ASpec Try.prog 60 [vs a, vs b] H (Gives (vb (sameN a b)) H) := by
  have r1 := fun H => labRight_spec a ha H
  have r2 := fun H => labRight_spec b hb H
  have l1 := fun H => labLower_spec a ha H
  have l2 := fun H => labLower_spec b hb H
  unfold sameN
  cases h1 : (lab a).isSome with
  | false =>
    rw [h1] at r1
    refine ASpec.enter Try.func60 rfl (fun a w => Try.call60 a w) Try.ntmps60 Try.results60 fun base w β hI => ?_
    refine wk wT (wA r1 (wA ((OwnM.mk (id := 3))) wT)) ?_
    refine wkEnd wT ?_
    exact Fin.same ⟨rfl, rfl⟩
  | true =>
    rw [h1] at r1
    cases h2 : (lab b).isSome with
    | false =>
      rw [h2] at r2
      refine ASpec.enter Try.func60 rfl (fun a w => Try.call60 a w) Try.ntmps60 Try.results60 fun base w β hI => ?_
      refine wk wT (wA r1 (wA r2 (wA ((OwnM.mk (id := 3))) wT))) ?_
      refine wkEnd wT ?_
      exact Fin.same ⟨rfl, rfl⟩
    | true =>
      rw [h2] at r2
      refine ASpec.enter Try.func60 rfl (fun a w => Try.call60 a w) Try.ntmps60 Try.results60 fun base w β hI => ?_
      refine wk wT (wA r1 (wA r2 (wA l1 (wA l2 (wA ((OwnM.mk (id := 3))) wT))))) ?_
      refine wkEnd wT ?_
      exact Fin.same ⟨rfl, rfl⟩

end Go.Proofs.Ytkkhbmpcpilmfaa.VL

/- Layer 15: a place for one more service; whether an endpoint is up. -/
import Derived.Test.YtnoekcdmaaakfaaDoorZEntA
import Derived.Test.YtnoekcdmaaakfaaDoorZSvcM
-- STEPWISE
-- WK
set_option linter.unusedVariables false
set_option linter.unusedSimpArgs false
set_option maxRecDepth 10000
namespace Go.Proofs.YtnoekcdmaaakfaaDoor.VL
open Go Go.RowKit Go.Lib

def plGo (l : List En) : Nat → Int → Int → Int × Bool
  | 0, _, e => (e, decide (e ≠ 0))
  | n + 1, k, e => match getE l k with
    | none => (k, true)
    | some x => plGo l n (k + 1) (if x.s = [] ∧ e = 0 then k else e)
/-- A key for one more service. -/
def placeS (l : List En) : Int × Bool := plGo l 9 3 0

set_option maxHeartbeats 2000000 in
theorem placeS_spec (l : List En) (hl : l.length ≤ 9223372036854775807) (H : List Box) : ASpec Tryd.prog 18 [.lst 3 (enG l)] H (Gives (.tup [vi (placeS l).1, vb (placeS l).2]) H) := by
  have hgt := fun k H => get_spec l k hl H
  have hp : placeS l = plGo l 9 3 0 := rfl
  generalize placeS l = P at *
  refine ASpec.enter Tryd.func18 rfl (fun a w => Tryd.call18 a w) Tryd.ntmps18 Tryd.results18 fun base w β hI => ?_
  refine wk wT (wA DrM.mk wT) ?_
  refine AWP.loop (ι := {p : Nat × Int // p.1 ≤ 9 ∧ P = plGo l (9 - p.1) (3 + (p.1 : Int)) p.2}) (fun p => ⟨[(0, .lst 3 (enG l)), (4, vi p.1.2), (5, vi (3 + (p.1.1 : Int)))], H⟩) (fun p => 9 - p.1.1) ⟨(0, 0), by decide, hp⟩ ?_ ?_
  · dsimp only
    exact Coe.kp
  · rintro ⟨⟨i, e⟩, hi, he⟩
    dsimp only at hi he ⊢
    clear hp
    by_cases hc : (3 + (i : Int)) < 12
    · rw [show 9 - i = (8 - i) + 1 by omega, plGo] at he
      have hg := hgt (3 + (i : Int))
      clear hgt
      have hw : IntKind.i64.wrap (3 + (i : Int) + 1) = 3 + ((i + 1 : Nat) : Int) := by rw [wi64 (by omega) (by omega)]; omega
      cases hx : getE l (3 + (i : Int)) with
      | none =>
        rw [hx] at he hg
        dsimp only at he
        rw [he]
        have hg : ∀ H, ASpec Tryd.prog 36 [.lst 3 (enG l), vi (3 + (i : Int))] H (Gives (.tup [.agg [vi 0, vi 0, vs []], vb false]) H) := hg
        generalize 3 + (i : Int) = k at *
        refine wk (wA hc wT) (wA hg (wA DrM.mk wT)) ?_
        refine wkEnd wT ?_
        exact Fin.cut (ltVV _ _) ⟨rfl, rfl⟩
      | some x =>
        rw [hx] at he hg
        dsimp only at he
        obtain ⟨k', v', s⟩ := x
        have hg : ∀ H, ASpec Tryd.prog 36 [.lst 3 (enG l), vi (3 + (i : Int))] H (Gives (.tup [.agg [vi k', vi v', vs s], vb true]) H) := hg
        dsimp only at he
        rw [show 3 + (i : Int) + 1 = 3 + ((i + 1 : Nat) : Int) by omega, show 8 - i = 9 - (i + 1) by omega] at he
        generalize hkk : 3 + (i : Int) = k at *
        by_cases hs : s = []
        · by_cases h0 : e = 0
          · rw [if_pos ⟨hs, h0⟩] at he
            refine wk (wA hc (wA hs (wA h0 (wA hw wT)))) (wA hg (wA DrM.mk wT)) ?_
            refine ⟨⟨(i + 1, k), by dsimp only; omega, he⟩, ?_, by dsimp only; omega⟩
            dsimp only
            exact Coe.cut0 (Keeps.kp wT) (fun p hp => by simp only [List.mem_cons, List.not_mem_nil, or_false] at hp; rcases hp with rfl | rfl | rfl <;> first | exact .v _ | exact lt_en _)
          · rw [if_neg (by simp [h0])] at he
            refine wk (wA hc (wA hs (wA h0 (wA hw wT)))) (wA hg (wA DrM.mk wT)) ?_
            refine ⟨⟨(i + 1, e), by dsimp only; omega, he⟩, ?_, by dsimp only; omega⟩
            dsimp only
            exact Coe.cut0 (Keeps.kp wT) (fun p hp => by simp only [List.mem_cons, List.not_mem_nil, or_false] at hp; rcases hp with rfl | rfl | rfl <;> first | exact .v _ | exact lt_en _)
        · rw [if_neg (by simp [hs])] at he
          refine wk (wA hc (wA hs (wA hw wT))) (wA hg (wA DrM.mk wT)) ?_
          refine ⟨⟨(i + 1, e), by dsimp only; omega, he⟩, ?_, by dsimp only; omega⟩
          dsimp only
          exact Coe.cut0 (Keeps.kp wT) (fun p hp => by simp only [List.mem_cons, List.not_mem_nil, or_false] at hp; rcases hp with rfl | rfl | rfl <;> first | exact .v _ | exact lt_en _)
    · obtain rfl : i = 9 := by omega
      rw [plGo] at he
      rw [he]
      by_cases h0 : e = 0
      · subst h0
        refine wk wT (wA DrM.mk wT) ?_
        refine wkEnd wT ?_
        exact Fin.same ⟨rfl, rfl⟩
      · rw [decide_eq_true h0]
        refine wk (wA h0 wT) (wA DrM.mk wT) ?_
        refine wkEnd wT ?_
        exact Fin.same ⟨rfl, rfl⟩

/-- Is an endpoint up? -/
def upE (l : List En) : Bool := match getE l 0 with
  | some x => decide (x.s = [117, 112])
  | none => false
theorem up_spec (l : List En) (hl : l.length ≤ 9223372036854775807) (H : List Box) : ASpec Tryd.prog 21 [.lst 3 (enG l)] H (Gives (vb (upE l)) H) := by
  have hg := fun H => get_spec l 0 hl H
  unfold upE
  cases hx : getE l 0 with
  | none =>
    rw [hx] at hg
    have hg : ∀ H, ASpec Tryd.prog 36 [.lst 3 (enG l), vi 0] H (Gives (.tup [.agg [vi 0, vi 0, vs []], vb false]) H) := hg
    refine ASpec.enter Tryd.func21 rfl (fun a w => Tryd.call21 a w) Tryd.ntmps21 Tryd.results21 fun base w β hI => ?_
    refine wk wT (wA hg (wA DrM.mk wT)) ?_
    refine wkEnd wT ?_
    exact Fin.cut (.v _) ⟨rfl, rfl⟩
  | some x =>
    rw [hx] at hg
    obtain ⟨k', v', s⟩ := x
    have hg : ∀ H, ASpec Tryd.prog 36 [.lst 3 (enG l), vi 0] H (Gives (.tup [.agg [vi k', vi v', vs s], vb true]) H) := hg
    dsimp only
    by_cases hs : s = [117, 112]
    · rw [decide_eq_true hs]
      refine ASpec.enter Tryd.func21 rfl (fun a w => Tryd.call21 a w) Tryd.ntmps21 Tryd.results21 fun base w β hI => ?_
      refine wk (wA hs wT) (wA hg (wA DrM.mk wT)) ?_
      refine wkEnd wT ?_
      exact Fin.cut (.v _) ⟨rfl, rfl⟩
    · rw [decide_eq_false hs]
      refine ASpec.enter Tryd.func21 rfl (fun a w => Tryd.call21 a w) Tryd.ntmps21 Tryd.results21 fun base w β hI => ?_
      refine wk (wA hs wT) (wA hg (wA DrM.mk wT)) ?_
      refine wkEnd wT ?_
      exact Fin.cut (.v _) ⟨rfl, rfl⟩

end Go.Proofs.YtnoekcdmaaakfaaDoor.VL

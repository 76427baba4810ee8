/- Layer 15: a text without letters of a set at its ends. -/
import Derived.Test.YtnoekcdmaaakfaaDoorZSvcA
import Derived.Test.YtnoekcdmaaakfaaDoorZCd
-- STEPWISE
-- WK
set_option linter.unusedVariables false
set_option linter.unusedSimpArgs false
set_option maxRecDepth 10000
namespace Go.Proofs.YtnoekcdmaaakfaaDoor.VL
open Go Go.RowKit Go.Lib

/-- A set of letters, as cells. -/
def asC (p : Nat → Bool) : List AV := (List.range 256).map fun j => vb (p j)
@[go_sem] theorem asC_length (p : Nat → Bool) : (asC p).length = 256 := by simp [asC]
@[go_sem] theorem asC_get (p : Nat → Bool) (j : Nat) (h : j < 256) : (asC p)[j]? = some (vb (p j)) := by simp [asC, h]
def setP (p : Nat → Bool) (j : Nat) : Nat → Bool := fun i => p i || decide (i = j)
@[go_sem] theorem asC_set (p : Nat → Bool) (j : Nat) : (asC p).set j (.v (.bool true)) = asC (setP p j) := by
  apply List.ext_getElem?
  intro i
  by_cases hi : i < 256
  · rw [asC_get _ _ hi]
    by_cases h : j = i
    · subst h
      rw [List.getElem?_set_self (by simpa [asC] using hi)]
      simp [setP]
    · rw [List.getElem?_set_ne h, asC_get _ _ hi]
      simp [setP, Ne.symm h]
  · rw [List.getElem?_eq_none (by simpa [asC] using Nat.le_of_not_lt hi), List.getElem?_eq_none (by simpa [asC] using Nat.le_of_not_lt hi)]
@[go_sem] theorem asC_take (p : Nat → Bool) : (asC p).take 256 = asC p := List.take_of_length_le (by rw [asC_length]; exact Nat.le_refl _)
@[go_sem] theorem asC_all (p : Nat → Bool) : (asC p).all AV.one = true := by
  rw [asC, List.all_map, List.all_eq_true]
  intro x _
  rfl
@[go_sem] theorem splice_asC (p q : Nat → Bool) : splice (asC p) 0 (asC q) = asC q := by
  apply List.ext_getElem?
  intro j
  rw [splice_get _ _ _ _ (by rw [asC_length, asC_length]; decide)]
  by_cases h : j < 256
  · rw [if_pos (by rw [asC_length]; omega), Nat.sub_zero]
  · rw [if_neg (by rw [asC_length]; omega), List.getElem?_eq_none (by rw [asC_length]; omega), List.getElem?_eq_none (by rw [asC_length]; omega)]
@[go_sem] theorem zeAs : zeroCs Tryd.prog 69 = some (asC fun _ => false) := by kernel_rfl
attribute [go_sem] Bool.false_and
def inP (cut : List UInt8) : Nat → Bool := fun j => cut.any fun c => decide (c.toNat = j)
theorem inP_step {cut : List UInt8} {i : Nat} {c : UInt8} (h : cut[i]? = some c) : setP (inP (cut.take i)) c.toNat = inP (cut.take (i + 1)) := by
  funext j
  rw [List.take_add_one, h]
  simp only [setP, inP, List.any_append, Option.toList_some, List.any_cons, List.any_nil, Bool.or_false]
  congr 1
  exact decide_eq_decide.2 ⟨Eq.symm, Eq.symm⟩
theorem lt_asC {n : Nat} (p : Nat → Bool) : Lt n (.agg (asC p)) := .agg _ fun i c hi => by
  simp only [asC, List.getElem?_map] at hi
  obtain ⟨b, _, rfl⟩ := Option.map_eq_some_iff.1 hi
  exact .v _

set_option maxHeartbeats 1000000 in
theorem asSet_spec (cut : List UInt8) (hl : cut.length ≤ 1000) (h7 : ∀ c ∈ cut, c.toNat < 128) (H : List Box) : ASpec Tryd.prog 44 [vs cut] H (Gives (.tup [.agg (asC (inP cut)), vb true]) H) := by
  refine ASpec.enter Tryd.func44 rfl (fun a w => Tryd.call44 a w) Tryd.ntmps44 Tryd.results44 fun base w β hI => ?_
  refine wk wT (wA DrM.mk wT) ?_
  refine AWP.loop (ι := {i : Nat // i ≤ cut.length}) (fun p => ⟨[(0, vs cut), (2, .ptr H.length 0 0), (4, vi p.1)], H ++ [⟨asC (inP (cut.take p.1)), 0, 0, false⟩]⟩) (fun p => cut.length - p.1) ⟨0, Nat.zero_le _⟩ ?_ ?_
  · dsimp only
    have e0 : inP (cut.take 0) = fun _ => false := by funext j; rfl
    rw [e0]
    exact Coe.kp
  · rintro ⟨i, hi⟩
    dsimp only
    by_cases hc : (i : Int) < (cut.length : Int)
    · have hg : cut[i]? = some cut[i] := List.getElem?_eq_getElem (by omega)
      have h8 := h7 cut[i] (List.getElem_mem _)
      generalize cut[i] = c at hg h8
      have hst := inP_step hg
      have hn : ¬ (128 : Int) ≤ (c.toNat : Int) := by omega
      refine wk (wA hc (wA hg (wA hn (wA hst wT)))) (wA DrM.mk wT) ?_
      refine ⟨⟨i + 1, by omega⟩, ?_, by dsimp only; omega⟩
      dsimp only
      exact Coe.kp
    · have hi2 : i = cut.length := by omega
      subst hi2
      rw [List.take_length]
      refine wk (wA hc wT) (wA DrM.mk wT) ?_
      refine wkEnd wT ?_
      exact Fin.cut (.tup _ fun i c hi => by rcases i with _ | _ | i <;> simp at hi <;> subst hi <;> first | exact lt_asC _ | exact .v _) ⟨rfl, rfl⟩

set_option maxHeartbeats 1000000 in
theorem asHas_spec (p : Nat → Bool) (c : UInt8) (H : List Box) : ASpec Tryd.prog 52 [.ptr H.length 0 0, .v (.int .u8 c.toNat)] (H ++ [⟨asC p, 0, 0, false⟩]) (Gives (vb (p c.toNat)) (H ++ [⟨asC p, 0, 0, false⟩])) := by
  have h256 : c.toNat < 256 := c.toNat_lt
  refine ASpec.enter Tryd.func52 rfl (fun a w => Tryd.call52 a w) Tryd.ntmps52 Tryd.results52 fun base w β hI => ?_
  refine wk wT (wA DrM.mk wT) ?_
  refine wkEnd wT ?_
  exact Fin.same ⟨rfl, rfl⟩

set_option maxHeartbeats 1000000 in
theorem trimL_spec (p : Nat → Bool) (s : List UInt8) (hs : s.length ≤ 9223372036854775807) (H : List Box) : ASpec Tryd.prog 45 [vs s, .ptr H.length 0 0] (H ++ [⟨asC p, 0, 0, false⟩]) (Gives (vs (s.dropWhile fun c => p c.toNat)) (H ++ [⟨asC p, 0, 0, false⟩])) := by
  have h1 := fun c => asHas_spec p c H
  refine ASpec.enter Tryd.func45 rfl (fun a w => Tryd.call45 a w) Tryd.ntmps45 Tryd.results45 fun base w β hI => ?_
  refine wk wT (wA DrM.mk wT) ?_
  refine AWP.loop (ι := {u : List UInt8 // u.length ≤ s.length ∧ s.dropWhile (fun c => p c.toNat) = u.dropWhile fun c => p c.toNat}) (fun u => ⟨[(0, vs u.1), (1, .ptr H.length 0 0)], H ++ [⟨asC p, 0, 0, false⟩]⟩) (fun u => u.1.length) ⟨s, Nat.le_refl _, rfl⟩ ?_ ?_
  · dsimp only
    exact Coe.kp
  · rintro ⟨u, hu, he⟩
    dsimp only
    cases u with
    | nil =>
      rw [he]
      refine wk wT (wA DrM.mk wT) ?_
      refine wkEnd wT ?_
      exact Fin.same ⟨rfl, rfl⟩
    | cons c r =>
      rw [List.length_cons] at hu
      rw [List.dropWhile_cons] at he
      have hpos : (0 : Int) < ((r.length + 1 : Nat) : Int) := by omega
      by_cases hp : p c.toNat = true
      · rw [if_pos hp] at he
        refine wk (wA hpos (wA hp wT)) (wA h1 (wA DrM.mk wT)) ?_
        refine ⟨⟨r, by omega, he⟩, ?_, by dsimp only; rw [List.length_cons]; omega⟩
        dsimp only
        exact Coe.kp
      · rw [if_neg hp] at he
        rw [he]
        refine wk (wA hpos (wA hp wT)) (wA h1 (wA DrM.mk wT)) ?_
        refine wkEnd wT ?_
        exact Fin.same ⟨rfl, rfl⟩

set_option maxHeartbeats 1000000 in
theorem trimR_spec (p : Nat → Bool) (s : List UInt8) (hs : s.length ≤ 9223372036854775807) (H : List Box) : ASpec Tryd.prog 46 [vs s, .ptr H.length 0 0] (H ++ [⟨asC p, 0, 0, false⟩]) (Gives (vs (trR (fun c => p c.toNat) s)) (H ++ [⟨asC p, 0, 0, false⟩])) := by
  have h1 := fun c => asHas_spec p c H
  refine ASpec.enter Tryd.func46 rfl (fun a w => Tryd.call46 a w) Tryd.ntmps46 Tryd.results46 fun base w β hI => ?_
  refine wk wT (wA DrM.mk wT) ?_
  refine AWP.loop (ι := {u : List UInt8 // u.length ≤ s.length ∧ trR (fun c => p c.toNat) s = trR (fun c => p c.toNat) u}) (fun u => ⟨[(0, vs u.1), (1, .ptr H.length 0 0)], H ++ [⟨asC p, 0, 0, false⟩]⟩) (fun u => u.1.length) ⟨s, Nat.le_refl _, rfl⟩ ?_ ?_
  · dsimp only
    exact Coe.kp
  · rintro ⟨u, hu, he⟩
    dsimp only
    by_cases hn : u = []
    · subst hn
      rw [he]
      refine wk wT (wA DrM.mk wT) ?_
      refine wkEnd wT ?_
      exact Fin.same ⟨rfl, rfl⟩
    · obtain ⟨r, c, rfl⟩ : ∃ r c, u = r ++ [c] := ⟨u.dropLast, u.getLast hn, (List.dropLast_concat_getLast hn).symm⟩
      rw [trR_snoc] at he
      have hul : (r ++ [c]).length = r.length + 1 := by simp
      have hg : (r ++ [c])[r.length]? = some c := by simp
      have ht : (r ++ [c]).take r.length = r := by simp
      generalize hv : r ++ [c] = v at hul hg ht hu
      have hpos : (0 : Int) < (v.length : Int) := by omega
      have hn1 : ((v.length : Int) - 1).toNat = r.length := by omega
      by_cases hp : p c.toNat = true
      · rw [if_pos hp] at he
        refine wk (wA hpos (wA hp (wA hn1 (wA hg (wA ht wT))))) (wA h1 (wA DrM.mk wT)) ?_
        refine ⟨⟨r, by omega, he⟩, ?_, by dsimp only; omega⟩
        dsimp only
        exact Coe.kp
      · rw [if_neg hp] at he
        rw [he, hv]
        refine wk (wA hpos (wA hp (wA hn1 (wA hg wT)))) (wA h1 (wA DrM.mk wT)) ?_
        refine wkEnd wT ?_
        exact Fin.same ⟨rfl, rfl⟩

theorem inP_plain : (fun c : UInt8 => inP plainB c.toNat) = isPl := by
  funext c
  simp only [inP, isPl]
  rw [List.contains_eq_any_beq]
  congr 1
  funext d
  by_cases h : c = d
  · subst h; simp
  · have : ¬ d.toNat = c.toNat := fun e => h (UInt8.toNat_inj.1 e).symm
    simp [this, h]

set_option maxHeartbeats 1000000 in
theorem trim_spec (s : List UInt8) (hs : s.length ≤ 9223372036854775807) (H : List Box) : ASpec Tryd.prog 33 [vs s, vs plainB] H (Gives (vs (trimF isPl s)) H) := by
  have h1 := fun H => asSet_spec plainB (by decide) (by decide) H
  have hr : (trR isPl s).length ≤ s.length := trR_length _ _
  have h2 := fun H => trimR_spec (inP plainB) s hs H
  rw [inP_plain] at h2
  have h3 := fun H => trimL_spec (inP plainB) (trR isPl s) (by omega) H
  rw [inP_plain] at h3
  unfold trimF
  have hL : plainB.length = 37 := by decide
  have hne : ¬ plainB = [] := by decide
  by_cases h0 : s = []
  · subst h0
    refine ASpec.enter Tryd.func33 rfl (fun a w => Tryd.call33 a w) Tryd.ntmps33 Tryd.results33 fun base w β hI => ?_
    refine wk wT (wA DrM.mk wT) ?_
    refine wkEnd wT ?_
    exact Fin.same ⟨rfl, rfl⟩
  · generalize plainB = cut at *
    refine ASpec.enter Tryd.func33 rfl (fun a w => Tryd.call33 a w) Tryd.ntmps33 Tryd.results33 fun base w β hI => ?_
    refine wk (wA h0 (wA hne (wA hL wT))) (wA h1 (wA h2 (wA h3 (wA DrM.mk wT)))) ?_
    refine wkEnd wT ?_
    exact Fin.cut (.v _) ⟨rfl, rfl⟩

end Go.Proofs.YtnoekcdmaaakfaaDoor.VL

/- Layer 25: a way is looked for among cuts of one's own. -/
import Derived.Test.YtnoekcdmaaakfaaZNetPD
-- STEPWISE
-- WK
-- HWR
set_option linter.unusedVariables false
set_option linter.unusedSimpArgs false
set_option maxRecDepth 10000
namespace Go.Proofs.Ytnoekcdmaaakfaa.VL
open Go Go.RowKit Go.Lib

theorem healC_gen (a b : Int) (c : Ct) (p1 p2 : Nat) (H : List Box) (h1 : H[p1]? = some ⟨[vi a], 0, 0, false⟩) (h2 : H[p2]? = some ⟨[vi b], 0, 0, false⟩) :
    ASpec Try.prog 42 [.agg (ctC c), .ptr p1 0 0, .ptr p2 0 0] H (Gives (vb (decide (c = cutC a b))) H) := by
  have hct := fun H => cut_spec25 a b H
  have l1 : p1 < H.length := (List.getElem?_eq_some_iff.1 h1).1
  have l2 : p2 < H.length := (List.getElem?_eq_some_iff.1 h2).1
  have g1 : ∀ N : List Box, (H ++ N)[p1]? = some ⟨[vi a], 0, 0, false⟩ := fun N => by rw [List.getElem?_append_left l1]; exact h1
  have g2 : ∀ N : List Box, (H ++ N)[p2]? = some ⟨[vi b], 0, 0, false⟩ := fun N => by rw [List.getElem?_append_left l2]; exact h2
  generalize cutC a b = v at *
  obtain ⟨va, vb'⟩ := v
  obtain ⟨ca, cb⟩ := c
  by_cases e1 : ca = va
  · by_cases e2 : cb = vb'
    · subst e1
      subst e2
      rw [decide_eq_true rfl]
      refine ASpec.enter Try.func42 rfl (fun a w => Try.call42 a w) Try.ntmps42 Try.results42 fun base w β hI => ?_
      refine wk (wA g1 (wA g2 wT)) (wA hct (wA DrM.mk wT)) ?_
      refine wkEnd wT ?_
      exact Fin.cut (.v _) ⟨rfl, rfl⟩
    · subst e1
      rw [decide_eq_false (fun e => e2 (by injection e))]
      refine ASpec.enter Try.func42 rfl (fun a w => Try.call42 a w) Try.ntmps42 Try.results42 fun base w β hI => ?_
      refine wk (wA g1 (wA g2 (wA e2 wT))) (wA hct (wA DrM.mk wT)) ?_
      refine wkEnd wT ?_
      exact Fin.cut (.v _) ⟨rfl, rfl⟩
  · rw [decide_eq_false (fun e => e1 (by injection e))]
    refine ASpec.enter Try.func42 rfl (fun a w => Try.call42 a w) Try.ntmps42 Try.results42 fun base w β hI => ?_
    refine wk (wA g1 (wA g2 (wA e1 wT))) (wA hct (wA DrM.mk wT)) ?_
    refine wkEnd wT ?_
    exact Fin.cut (.v _) ⟨rfl, rfl⟩
theorem ctF_drop (l : List Ct) (i : Nat) : (ctF l).drop (i * 2) = ctF (l.drop i) := by
  induction l generalizing i with
  | nil => simp [ctF, flat]
  | cons m l ih =>
    cases i with
    | zero => simp
    | succ i => rw [ctF_cons, Nat.succ_mul, List.drop_succ_cons, List.drop_succ_cons, List.drop_succ_cons, ih]
theorem ctF_row {l : List Ct} {i : Nat} {c : Ct} (h : l[i]? = some c) : List.take 2 (List.drop (i * 2) (ctF l)) = [vi c.a, vi c.b] := by
  rw [ctF_drop, drop_get' h, ctF_cons]
  rfl
theorem ixf_spec (a b : Int) (cu : List Ct) (q : Nat) (hq : cu[q]? = some (cutC a b)) (hb4 : ∀ i c, i < q → cu[i]? = some c → c ≠ cutC a b) (hl : cu.length ≤ 1048576) (bb g p1 p2 : Nat) (H : List Box) (h1 : H[p1]? = some ⟨[vi a], 0, 0, false⟩) (h2 : H[p2]? = some ⟨[vi b], 0, 0, false⟩) (hb : H[bb]? = some ⟨ctF cu, 0, g, true⟩) :
    ASpec Try.prog 54 [.sl bb g 0 cu.length 2 false, .fn 42 [.ptr p1 0 0, .ptr p2 0 0]] H (Gives (vi q) H) := by
  have hh := fun c => healC_gen a b c p1 p2 H h1 h2
  have hql := (List.getElem?_eq_some_iff.1 hq).1
  have hcl := ctF_length cu
  generalize cutC a b = v at *
  refine ASpec.enter Try.func54 rfl (fun a w => Try.call54 a w) Try.ntmps54 Try.results54 fun base w β hI => ?_
  refine wk (wA hb wT) (wA DrM.mk wT) ?_
  refine AWP.loop (ι := {i : Nat // i ≤ q}) (fun p => ⟨[(0, .sl bb g 0 cu.length 2 false), (1, .fn 42 [.ptr p1 0 0, .ptr p2 0 0]), (7, vi cu.length), (8, vi p.1)], H⟩) (fun p => cu.length - p.1) ⟨0, Nat.zero_le _⟩ ?_ ?_
  · dsimp only
    exact Coe.kp
  · rintro ⟨i, hi⟩
    dsimp only
    have hc : (i : Int) < (cu.length : Int) := by omega
    have hg : cu[i]? = some cu[i] := List.getElem?_eq_getElem (by omega)
    by_cases hiq : i = q
    · subst hiq
      have hrow := ctF_row hq
      have hh' := hh v
      rw [decide_eq_true rfl] at hh'
      obtain ⟨va, vb'⟩ := v
      dsimp only at hrow
      refine wk (wA hc (wA hb (wA hcl (wA hrow wT)))) (wA hh' (wA DrM.mk wT)) ?_
      refine wkEnd wT ?_
      exact Fin.same ⟨rfl, rfl⟩
    · have hne := hb4 i cu[i] (by omega) hg
      generalize cu[i] = c at *
      have hrow := ctF_row hg
      have hh' := hh c
      rw [decide_eq_false hne] at hh'
      obtain ⟨ca, cb⟩ := c
      dsimp only at hrow
      refine wk (wA hc (wA hb (wA hcl (wA hrow wT)))) (wA hh' (wA DrM.mk wT)) ?_
      refine ⟨⟨i + 1, by omega⟩, ?_, by dsimp only; omega⟩
      dsimp only
      exact Coe.kp

end Go.Proofs.Ytnoekcdmaaakfaa.VL

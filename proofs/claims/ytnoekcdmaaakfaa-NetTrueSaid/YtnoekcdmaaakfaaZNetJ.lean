/- Layer 25: mails are sent. -/
import Derived.Test.YtnoekcdmaaakfaaZNetI
-- STEPWISE
-- WK
-- HWR
-- HOLE 5 1 [(.same, [6]), (.same, [6]), (.same, []), (.same, []), (.same, []), (.wr 6, []), (.wr 4, []), (.same, []), (.wr 0, [])]
set_option linter.unusedVariables false
set_option linter.unusedSimpArgs false
set_option maxRecDepth 10000
namespace Go.Proofs.Ytnoekcdmaaakfaa.VL
open Go Go.RowKit Go.Lib

theorem holM_NetJ_5 : HolM 5 1 [(.same, [6]), (.same, [6]), (.same, []), (.same, []), (.same, []), (.wr 6, []), (.wr 4, []), (.same, []), (.wr 0, [])] := ⟨⟩

set_option maxHeartbeats 8000000 in
theorem send_spec (n : Nt) (hn : NtL n) (l : List Ml) (hl : l.length ≤ 9223372036854775807) (H : List Box) :
    ASpec Try.prog 9 [ntV n, .lst 3 (mlG l)] H (Gives (.tup [ntV (sendN n l).1, vi (sendN n l).2.1, vi (sendN n l).2.2]) H) := by
  have hcu := hn.cu
  have hfl := hn.fl
  have hr := fun H => netRight_spec n (by omega) (by omega) H
  have ho := fun H => hasOdd_spec l hl H
  have hfr := fun H => fresh_spec n (by omega) (by omega) hn.d H
  unfold sendN
  cases hok : ntOk n with
  | false =>
    rw [hok] at hr
    rw [if_neg (by simp)]
    clear hok
    obtain ⟨fl, cu⟩ := n
    refine ASpec.enter Try.func9 rfl (fun a w => Try.call9 a w) Try.ntmps9 Try.results9 fun base w β hI => ?_
    refine wk wT (wA hr (wA ho (wA holM_NetJ_5 (wA DrM.mk wT)))) ?_
    refine wkEnd wT ?_
    exact Fin.cut (.cons_tup (lt_nt ⟨fl, cu⟩) (.cons_tup (.v _) (.cons_tup (.v _) .nil_tup))) ⟨rfl, rfl⟩
  | true =>
    rw [hok] at hr
    cases hall : l.all mlOk with
    | false =>
      rw [hall] at ho
      rw [if_neg (by simp)]
      clear hok hall
      obtain ⟨fl, cu⟩ := n
      refine ASpec.enter Try.func9 rfl (fun a w => Try.call9 a w) Try.ntmps9 Try.results9 fun base w β hI => ?_
      refine wk wT (wA hr (wA ho (wA holM_NetJ_5 (wA DrM.mk wT)))) ?_
      refine wkEnd wT ?_
      exact Fin.cut (.cons_tup (lt_nt ⟨fl, cu⟩) (.cons_tup (.v _) (.cons_tup (.v _) .nil_tup))) ⟨rfl, rfl⟩
    | true =>
      rw [hall] at ho
      rw [if_pos (by simp)]
      have h60 : n.fl.length ≤ 60 := by unfold ntOk at hok; simp only [Bool.and_eq_true, decide_eq_true_eq] at hok; exact hok.1
      have hd : ∀ m ∈ l.take (60 - n.fl.length), m.d.length ≤ 70368744177664 := fun m hm => by
        have := List.all_eq_true.1 hall m (List.mem_of_mem_take hm)
        unfold mlOk at this
        simp only [Bool.and_eq_true, decide_eq_true_eq] at this
        omega
      have htl : (l.take (60 - n.fl.length)).length = min l.length (60 - n.fl.length) := by rw [List.length_take, Nat.min_comm]
      have hrm : (if (60 : Int) - (n.fl.length : Int) < (l.length : Int) then (60 : Int) - (n.fl.length : Int) else (l.length : Int)) = ((min l.length (60 - n.fl.length) : Nat) : Int) := by split <;> omega
      have htm : l.take (min l.length (60 - n.fl.length)) = l.take (60 - n.fl.length) := by
        rcases Nat.le_total l.length (60 - n.fl.length) with h | h
        · rw [Nat.min_eq_left h, List.take_of_length_le (Nat.le_refl _), List.take_of_length_le h]
        · rw [Nat.min_eq_right h]
      have hsub : (l.length : Int) - ((min l.length (60 - n.fl.length) : Nat) : Int) = ((l.length - (60 - n.fl.length) : Nat) : Int) := by omega
      have hrl : ((min l.length (60 - n.fl.length) : Nat) : Int) ≤ (l.length : Int) := by omega
      have how : ∀ x0 x1 x2 x3 x4 x5 : Box, ASpec Try.prog 28 [.lst 3 (mlG (l.take (60 - n.fl.length)))] (H ++ [x0, x1, x2, x3, x4, x5, hole]) (fun o H' => o = .ret (.sl (H.length + 6) 1 0 (l.take (60 - n.fl.length)).length 3 false) ∧ H' = H ++ [x0, x1, x2, x3, x4, x5, ⟨mlF (l.take (60 - n.fl.length)), 0, 1, true⟩]) := fun x0 x1 x2 x3 x4 x5 => by
        have h := (own_spec (l.take (60 - n.fl.length)) (by omega) hd (H ++ [x0, x1, x2, x3, x4, x5, hole])).into (k := H.length + 6) (bk := hole) (app_at _ _ 6 rfl) (lt_mlF _)
        rw [List.set_append_right _ _ (by omega), Nat.add_sub_cancel_left] at h
        exact h
      have happ : mlF n.fl ++ flat (mlG (l.take (60 - n.fl.length))) = mlF (n.fl ++ l.take (60 - n.fl.length)) := (mlF_app n.fl (l.take (60 - n.fl.length))).symm
      have hlen : n.fl.length + (l.take (60 - n.fl.length)).length = (n.fl ++ l.take (60 - n.fl.length)).length := by simp
      have hb5 : (l.take (60 - n.fl.length)).length ≤ 60 := by omega
      generalize hrr : min l.length (60 - n.fl.length) = room at *
      generalize l.take (60 - n.fl.length) = s at *
      generalize l.length - (60 - n.fl.length) = left at *
      have hms := mlF_length s
      have hmf := mlF_length n.fl
      have hchs := chunk_mlF s
      clear hok hall hd
      obtain ⟨fl, cu⟩ := n
      dsimp only at *
      have k2 : H.length + 2 + 2 = H.length + 4 := rfl
      have k3 : H.length + 2 + 3 = H.length + 5 := rfl
      refine ASpec.enter Try.func9 rfl (fun a w => Try.call9 a w) Try.ntmps9 Try.results9 fun base w β hI => ?_
      refine wk (wA k2 (wA k3 (wA hrm (wA htm (wA hsub (wA hrl (wA happ (wA hchs (wA hms wT))))))))) (wA hr (wA ho (wA hfr (wA how (wA holM_NetJ_5 (wA DrM.mk wT)))))) ?_
      refine wkEnd wT ?_
      exact Fin.net (n := ⟨fl ++ s, cu⟩) (app_at _ _ 4 rfl) (app_at _ _ 5 rfl) (by dsimp only; omega) (by dsimp only; omega) (by omega) (by dsimp only; omega) rfl (.cons_tup (.v _) (.cons_tup (.v _) .nil_tup)) ⟨rfl, rfl⟩

end Go.Proofs.Ytnoekcdmaaakfaa.VL
